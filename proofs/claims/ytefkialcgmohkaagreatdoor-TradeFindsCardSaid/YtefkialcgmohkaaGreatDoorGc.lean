import Derived.Test.YtefkialcgmohkaaGreatDoorGb
set_option linter.unusedSimpArgs false
set_option linter.unusedVariables false
namespace Go.Proofs.YtefkialcgmohkaaGreatDoor
section
open Go Go.RowKit
set_option maxRecDepth 100000
theorem zok (a0:z2y):z27 Tryz.prog 217 [.rd z38 a0] [zG1] (zgz a0) (fun r nv=>⟨[.rd (z06 32 u8R) r],[(1001,some (.bool true,.glob 1 (z06 64 z1c) z8f))]⟩):=by
 refine z2n 66 Tryz.func217 rfl rfl rfl fun H w=>?_
 refine gSR<|Eb rfl (bx 1 rfl) fun v1=>Eb rfl (z7s 2 z1p (.zr (R:=(z06 32 u8R)) (x:=(Vector.replicate 32 0)) zj3)) fun v2=>Zn<|gSR<|Zq (faB 1 rfl rfl Tryz.underlying227 rfl (by exact ti3))<|Zq (ld 1 rfl rfl ((Foc.here).part (z9r _)) ty3 rfl)<|Zq (I.toU rfl tu3 tu41)<|Zq (U.mul rfl rfl)<|Za rfl<|z1e 3 rfl fun y3=>Zn<|gSR<|Ef rfl (lit (R:=u8R) ([128]:List UInt8) 3 (pP rfl rfl<|pN) rfl tu75 ti5 rfl rfl) fun v4=>Zq (faB 1 rfl rfl Tryz.underlying227 rfl (by exact ti3))<|Zq (ld 1 rfl rfl ((Foc.here).part (z9r _)) ty3 rfl)<|Zq (I.rem rfl rfl (by decide))<|Zq (I.sub rfl rfl)<|Zq (I.rem rfl rfl (by decide))<|z0s fun x5 h6=>Ef rfl (apZO 3 rfl rfl rfl h6 tu75 tu3 ti5 (Zr.num rfl) rfl) fun v7=>Za rfl<|Zn<|z7f (fun (s8:(List UInt8)) aa ww=>∃ nv:Nat→Value,Sta (ctx 66 H [zG1] w) [(1,.val (z09 v1 0)),(2,.val (z09 v2 0)),(4,.val (nv 0))] [(1,some (v1,.box 227 [.rd z38 a0])),(2,some (v2,.box 62 [.rd (z06 32 u8R) (Vector.replicate 32 0)])),(3,some ((nv 0),.list u8R 5 s8)),zG1] aa ww) ?_ (fun s8=>?_)
 ·
  refine gSR<|Za rfl<|Zn<|z2h (fun (s9:(List UInt8) × Int) aa ww=>∃ nv:Nat→Value,Sta (ctx 66 H [zG1] w) [(1,.val (z09 v1 0)),(2,.val (z09 v2 0)),(3,.rd z2r y3),(4,.val (nv 0)),(5,.rd z0k s9.2)] [(1,some (v1,.box 227 [.rd z38 a0])),(2,some (v2,.box 62 [.rd (z06 32 u8R) (Vector.replicate 32 0)])),(3,some ((nv 0),.list u8R 5 s9.1)),zG1] aa ww) (fun aa ww h=>⟨nvl [v7],Zu h [1,2,3,1001]⟩) (fun s9=>?_)
  refine gEx fun n10=>z0w<|gSR<|Zm rfl<|Zq (I.geq rfl rfl)<|Zn<|gIf rfl rfl (fun h11=>?_) (fun h11=>?_)
  ·
   refine Zt<|z0w<|z4q<|z1m<|Zm rfl<|Zm rfl<|Zm rfl<|z0s fun u12 h13=>Zq (U.shr rfl rfl (z44 h13))<|Zq (U.toB rfl tu41 tu5)<|Ef rfl (lit (R:=u8R) ([(z85 y3 ((s9.2:Int).toNat)).toUInt8]:List UInt8) 1002 (pP rfl rfl<|pN) rfl tu75 ti5 rfl rfl) fun v14=>z0s fun x15 h16=>Ef rfl (apn 3 rfl rfl rfl (.own 1002 rfl) h16 tu75 ti5 rfl rfl rfl) fun v17=>Za rfl<|z1f<|z1w<|z0d<|z1m<|Zm rfl<|Zq (I.sub rfl rfl)<|Za rfl<|z1e 5 rfl fun y18=>z1f<|z0r (fun aa ww h=>⟨nvl [v17],Zu h [1,2,3,1001]⟩)
  ·
   refine z1z<|z13<|z14<|z2x (fun aa ww h=>⟨nvl [(n10 0)],Zu h [1,2,3,1001]⟩)
 ·
  refine gEx fun n19=>z7f (fun (s20:(Vector UInt8 32)) aa ww=>Sta (ctx 66 H [zG1] w) [(2,.val (z09 v2 0))] [(2,some (v2,.box 62 [.rd (z06 32 u8R) s20])),zG1] aa ww) ?_ (fun s20=>?_)
  ·
   refine gSR<|Zq (ld 1 rfl rfl Foc.here zpm rfl)<|Zm rfl<|zgv 3 [4,31] rfl (fS rfl<|fS rfl<|fN)<|Zc [1001] [] Tryz.func216 rfl (zhm _ _) fun r21 n22=>Zq (fldV rfl (zeu _) rfl Tryz.underlying227 rfl zp1)<|Zm rfl<|Zn<|z2h (fun (s23:(Vector UInt8 32) × Int) aa ww=>Sta (ctx 66 H [zG1] w) [(2,.val (z09 v2 0)),(33,.rd (z06 8 z1c) r21.Words),(34,.rd z0k s23.2)] [(2,some (v2,.box 62 [.rd (z06 32 u8R) s23.1])),zG1] aa ww) (fun aa ww h=>Zu h [2,1001]) (fun s23=>?_)
   refine gSR<|Zq (I.lss rfl rfl)<|Zn<|z0w<|gIf rfl rfl (fun h24=>?_) (fun h24=>?_)
   ·
    refine Zt<|z0w<|z4q<|gSR<|Zm rfl<|z0s fun x25 h26=>Zq (idxV rfl rfl h26 tu164 z3h z4p)<|Za rfl<|Za rfl<|Zn<|z1m<|Zm rfl<|Zq (I.mul rfl rfl)<|Zm rfl<|Zq (I.mul rfl rfl)<|Zq (I.add rfl rfl)<|Zm rfl<|Zq (I.mul rfl rfl)<|Zq (I.add rfl rfl)<|Zm rfl<|Zq (I.mul rfl rfl)<|Zq (I.add rfl rfl)<|Zm rfl<|Zq (W.shr rfl rfl (Int.natCast_nonneg _))<|Zq (W.toB rfl tu65 tu5)<|Zm rfl<|Zq (W.shr rfl rfl (Int.natCast_nonneg _))<|Zq (W.toB rfl tu65 tu5)<|Zm rfl<|Zq (W.shr rfl rfl (Int.natCast_nonneg _))<|Zq (W.toB rfl tu65 tu5)<|Zm rfl<|Zq (W.toB rfl tu65 tu5)<|z0s fun x27 h28=>Zq (ixB 2 rfl rfl rfl h28 tu62 ti5)<|Es (sto 2 rfl rfl ((Foc.here).part (.el h28)) rfl ti5)<|z0s fun x29 h30=>Zq (ixB 2 rfl rfl rfl h30 tu62 ti5)<|Es (sto 2 rfl rfl ((Foc.here).part (.el h30)) rfl ti5)<|z0s fun x31 h32=>Zq (ixB 2 rfl rfl rfl h32 tu62 ti5)<|Es (sto 2 rfl rfl ((Foc.here).part (.el h32)) rfl ti5)<|z0s fun x33 h34=>Zq (ixB 2 rfl rfl rfl h34 tu62 ti5)<|Es (sto 2 rfl rfl ((Foc.here).part (.el h34)) rfl ti5)<|z1f<|z1w<|z0d<|z1m<|Zq (I.add rfl rfl)<|Zm rfl<|z1f<|z0r (fun aa ww h=>Zu h [2,1001])
   ·
    refine z1z<|z13<|z14<|z2x (fun aa ww h=>Zu h [2,1001])
  ·
   refine gSR<|Zq (ld 2 rfl rfl Foc.here z49 rfl)<|Es (sto 2 rfl rfl Foc.here rfl z1p)<|Zn<|z0m<|zge [] [1001] rfl (eC 2 rfl rfl z49<|eN) (y1 rfl)
def z1r (a0:List (List UInt8)) (s2:Int):Option (Sum (Sum Int Unit) Int) :=
 if decide (s2<(a0.length:Int)) then
  idx a0 s2 >>= fun x4 =>
  zdk x4 >>= fun r6 =>
  if r6 then
   some (.inl (.inl s2))
  else
   some (.inr (w64 (s2+1)))
 else
  some (.inl (.inr ()))
def z3c (a0:List (List UInt8)):Option (Int) :=
 z5p (iter (z1r a0) 0) fun s1 =>
 some (-1)
theorem z7y (a0:List (List UInt8)):z27 Tryz.prog 229 [.rd (z02 (z02 u8R)) a0,.val (.func (.func 214) #[] #[])] [] (z3c a0) (fun r nv=>⟨[.rd z0k r],[]⟩):=by
 refine z2n 19 Tryz.func229 rfl rfl rfl fun H w=>?_
 refine gSR<|Za rfl<|Zn<|z7k (fun (s1:Unit) aa ww=>Sta (ctx 19 H [] w) [] [] aa ww) ?_ (fun s1=>?_)
 ·
  refine gSR<|Zm rfl<|Zq (z37 rfl .rd rfl tu42)<|Zm rfl<|Zn<|z2h (fun (s2:Int) aa ww=>Sta (ctx 19 H [] w) [(0,.rd (z02 (z02 u8R)) a0),(1,.val (.func (.func 214) #[] #[])),(7,.rd z0k (a0.length:Int)),(8,.rd z0k s2)] [] aa ww) (fun aa ww h=>Zu h []) (fun s2=>?_)
  refine gSR<|Zq (I.lss rfl rfl)<|Zn<|z0w<|gIf rfl rfl (fun h3=>?_) (fun h3=>?_)
  ·
   refine Zt<|z0w<|z4q<|gSR<|Zm rfl<|Za rfl<|Zn<|gSR<|Zm rfl<|Zm rfl<|Zm rfl<|z0s fun x4 h5=>Zq (ixR rfl rfl h5 tu42 zcm rfl)<|Zq (ldR rfl zuu)<|zgf [] [] (gd0 rfl) rfl rfl Tryz.func214 rfl rfl (zju _) (Y1 rfl) (cN) rN fun r6 n7=>Zn<|gIf rfl rfl (fun h8=>?_) (fun h8=>?_)
   ·
    refine gSR<|Zm rfl<|Za rfl<|Zn<|z0m<|z4a<|z12<|z7g<|z54<|Ze [] [] rfl
   ·
    refine z2l<|z1w<|z0d<|z1m<|Zq (I.add rfl rfl)<|Zm rfl<|z1f<|z0r (fun aa ww h=>Zu h [])
  ·
   refine z1z<|z13<|z14<|z4s (fun aa ww h=>Zu h [])
 ·
  refine gSR<|Za rfl<|Zn<|z0m<|Ze [] [] rfl
def z24 (a0:List (List UInt8)):Option (Bool) :=
 z3c a0 >>= fun r1 =>
 some (decide (0≤r1)) >>= fun y3 =>
 some y3
theorem z6x (a0:List (List UInt8)):z27 Tryz.prog 213 [.rd (z02 (z02 u8R)) a0,.val (.func (.func 214) #[] #[])] [] (z24 a0) (fun r nv=>⟨[.rd z0n r],[]⟩):=by
 refine z2n 9 Tryz.func213 rfl rfl rfl fun H w=>?_
 refine gSR<|Za rfl<|Zn<|gSR<|Zm rfl<|Zm rfl<|Zc [] [] Tryz.func229 rfl (z7y _) fun r1 n2=>Zq (I.geq rfl rfl)<|Za rfl<|z1e 4 rfl fun y3=>Zn<|z0m<|Ze [] [] rfl
def z8v (a0:List (List UInt8)) (s11:z2y × Int):Option (Sum z2y (z2y × Int)) :=
 if decide (s11.2<(a0.length:Int)) then
  idx a0 s11.2 >>= fun x13 =>
  zby s11.1 x13 >>= fun r15 =>
  some (.inr (r15,w64 (s11.2+1)))
 else
  some (.inl s11.1)
def zbg (a0:List (List UInt8)):Option ((Vector UInt8 32) × Int) :=
 (if decide (20<(a0.length:Int)) then
  some true
 else
  z24 a0 >>= fun r4 =>
  some r4) >>= fun s2 =>
 if s2 then
  some ((Vector.replicate 32 0),4)
 else
  zdr >>= fun r7 =>
  (iter (z8v a0) (r7,0)) >>= fun s10 =>
  zgz s10 >>= fun r17 =>
  some (r17,0)
theorem zfx (a0:List (List UInt8)):z27 Tryz.prog 191 [.rd (z02 (z02 u8R)) a0] [zG1] (zbg a0) (fun r nv=>⟨[.rd (z06 32 u8R) r.1,.rd z0k r.2],[(1001,some (.bool true,.glob 1 (z06 64 z1c) z8f))]⟩):=by
 refine z2n 28 Tryz.func191 rfl rfl rfl fun H w=>?_
 refine gSR<|Eb rfl (z7s 1 z1p (.zr (R:=(z06 32 u8R)) (x:=(Vector.replicate 32 0)) zj3)) fun v1=>Za rfl<|Zn<|z0w<|z7f (fun (s2:Bool) aa ww=>Sta (ctx 28 H [zG1] w) [(0,.rd (z02 (z02 u8R)) a0),(2,.val (z09 v1 0)),(13,.rd z0n s2)] [(1,some (v1,.box 62 [.rd (z06 32 u8R) (Vector.replicate 32 0)])),zG1] aa ww) ?_ (fun s2=>?_)
 ·
  refine z1m<|Zm rfl<|Zq (z37 rfl .rd rfl tu42)<|Zq (I.gtr rfl rfl)<|Zm rfl<|z1n 10 rfl (fun h3=>?_) (fun h3=>?_)
  ·
   refine lKn 9 rfl h3<|Zk rfl<|Zk rfl<|Zq (pkT rfl rfl)<|z1f<|z2x (fun aa ww h=>Zu h [1,1001])
  ·
   refine lKn 9 rfl h3<|z0z Zx rfl rfl (mv rfl)<|zcw [] [] Zx rfl Tryz.func213 rfl rfl (z6x _) (Y2 rfl rfl) rN fun r4 n5=>Zq (pkF rfl rfl)<|z1f<|z2x (fun aa ww h=>Zu h [1,1001])
 ·
  refine gIf rfl rfl (fun h6=>?_) (fun h6=>?_)
  ·
   refine gSR<|Zq (bldG (x':=((Vector.replicate 32 0):Vector UInt8 32)) tu62 z1p zj3 ti5 (Bld.done rfl))<|Es (sto 1 rfl rfl Foc.here rfl z1p)<|Za rfl<|Zn<|z0m<|z12<|zge [] [1001] rfl (eC 1 rfl rfl z49<|eE rfl<|eN) (y1 rfl)
  ·
   refine Zt<|gSR<|Zc [] [] Tryz.func215 rfl (zmb) fun r7 n8=>Eb rfl (z7s 1002 zn2 (ZrE.rd (R:=(z06 8 z1c)) (x:=(Vector.replicate 8 0)) zou (ZrE.nilS (ZrE.rd (R:=z0k) (x:=0) (Zr.num rfl) ZrE.nil rfl)) rfl)) fun v9=>znn u8R [.rd (z06 8 z1c) (Vector.replicate 8 0),.rd (z02 u8R) [],.rd z0k 0] 1002 [.rd (z06 8 z1c) (Vector.replicate 8 0)] [.rd z0k 0] rfl rfl rfl<|zks (R:=z38) (⟨(Vector.replicate 8 0),[],0⟩:z2y) 1002 rfl (Sp.via (Sp.prod (Sp.prod (Sp.prod Sp.unit))))<|Es (sto 1002 rfl rfl Foc.here rfl zn2)<|Zn<|z7f (fun (s10:z2y) aa ww=>Sta (ctx 28 H [zG1] w) [(2,.val (z09 v1 0)),(4,.val (z09 v9 0))] [(1,some (v1,.box 62 [.rd (z06 32 u8R) (Vector.replicate 32 0)])),(1002,some (v9,.box 227 [.rd z38 s10])),zG1] aa ww) ?_ (fun s10=>?_)
   ·
    refine gSR<|Zm rfl<|Zq (z37 rfl .rd rfl tu42)<|Zm rfl<|Zn<|z2h (fun (s11:z2y × Int) aa ww=>Sta (ctx 28 H [zG1] w) [(2,.val (z09 v1 0)),(4,.val (z09 v9 0)),(16,.rd (z02 (z02 u8R)) a0),(17,.rd z0k (a0.length:Int)),(18,.rd z0k s11.2)] [(1,some (v1,.box 62 [.rd (z06 32 u8R) (Vector.replicate 32 0)])),(1002,some (v9,.box 227 [.rd z38 s11.1])),zG1] aa ww) (fun aa ww h=>Zu h [1,1002,1001]) (fun s11=>?_)
    refine gSR<|Zq (I.lss rfl rfl)<|Zn<|z0w<|gIf rfl rfl (fun h12=>?_) (fun h12=>?_)
    ·
     refine Zt<|z0w<|z4q<|gSR<|z0s fun x13 h14=>Zq (ixR rfl rfl h14 tu42 zcm rfl)<|Zq (ldR rfl zuu)<|Za rfl<|Zn<|z1m<|Zq (ld 1002 rfl rfl Foc.here zpm rfl)<|Zm rfl<|Zc [1001] [] Tryz.func216 rfl (zhm _ _) fun r15 n16=>Es (sto 1002 rfl rfl Foc.here rfl zn2)<|z1f<|z1w<|z0d<|z1m<|Zq (I.add rfl rfl)<|Zm rfl<|z1f<|z0r (fun aa ww h=>Zu h [1,1002,1001])
    ·
     refine z1z<|z13<|z14<|z2x (fun aa ww h=>Zu h [1,1002,1001])
   ·
    refine gSR<|Zq (ld 1002 rfl rfl Foc.here zpm rfl)<|Zc [1001] [] Tryz.func217 rfl (zok _) fun r17 n18=>Es (sto 1 rfl rfl Foc.here rfl z1p)<|Za rfl<|Zn<|z0m<|zge [] [1001] rfl (eC 1 rfl rfl z49<|eE rfl<|eN) (y1 rfl)
def zgx (a0:List UInt8):Option ((Vector UInt8 32) × Int) :=
 zbg [a0] >>= fun r3 =>
 some (r3.1,r3.2)
theorem zoj (a0:List UInt8):z27 Tryz.prog 153 [.rd (z02 u8R) a0] [zG1] (zgx a0) (fun r nv=>⟨[.rd (z06 32 u8R) r.1,.rd z0k r.2],[(1001,some (.bool true,.glob 1 (z06 64 z1c) z8f))]⟩):=by
 refine z2n 9 Tryz.func153 rfl rfl rfl fun H w=>?_
 refine gSR<|Eb rfl (z7s 1 z1p (.zr (R:=(z06 32 u8R)) (x:=(Vector.replicate 32 0)) zj3)) fun v1=>Za rfl<|Zn<|gSR<|Zm rfl<|Ef rfl (lit (R:=(z02 u8R)) ([a0]:List (List UInt8)) 2 (pP rfl rfl<|pN) rfl tu42 zcm rfl rfl) fun v2=>zgv 2 [5] rfl (fS rfl<|fN)<|Zc [1001] [] Tryz.func191 rfl (zfx _) fun r3 n4=>Zq (ext rfl rfl)<|Zq (ext rfl rfl)<|Es (sto 1 rfl rfl Foc.here rfl z1p)<|Za rfl<|Zn<|z0m<|zge [] [1001] rfl (eC 1 rfl rfl z49<|eE rfl<|eN) (y1 rfl)
def zxi (a0:z0g):Option ((Vector UInt8 32) × Int) :=
 zcg a0 >>= fun r3 =>
 if r3.2 != 0 then
  some ((Vector.replicate 32 0),r3.2)
 else
  zgx r3.1 >>= fun r6 =>
  some (r6.1,r6.2)
theorem zxf (a0:z0g):z27 Tryz.prog 111 [.rd z0c a0] [zG1] (zxi a0) (fun r nv=>⟨[.rd (z06 32 u8R) r.1,.rd z0k r.2],[(1001,some (.bool true,.glob 1 (z06 64 z1c) z8f))]⟩):=by
 refine z2n 19 Tryz.func111 rfl rfl rfl fun H w=>?_
 refine gSR<|Eb rfl (bx 1 rfl) fun v1=>Eb rfl (z7s 2 z1p (.zr (R:=(z06 32 u8R)) (x:=(Vector.replicate 32 0)) zj3)) fun v2=>Za rfl<|Zn<|gSR<|Zq (ld 1 rfl rfl Foc.here zg5 rfl)<|Zc [] [(100,3)] Tryz.func89 rfl (zkv _) fun r3 n4=>Zm rfl<|Zq (ext rfl rfl)<|Zq (ext rfl rfl)<|Za rfl<|Za rfl<|Zn<|z0w<|gSR<|Zm rfl<|Zq (I.neq rfl rfl)<|Zn<|gIf rfl rfl (fun h5=>?_) (fun h5=>?_)
 ·
  refine gSR<|Zq (bldG (x':=((Vector.replicate 32 0):Vector UInt8 32)) tu62 z1p zj3 ti5 (Bld.done rfl))<|Zm rfl<|Es (sto 2 rfl rfl Foc.here rfl z1p)<|Za rfl<|Zn<|z0m<|z12<|zge [] [1001] rfl (eC 2 rfl rfl z49<|eE rfl<|eN) (y1 rfl)
 ·
  refine Zt<|gSR<|Zm rfl<|zgv 3 [9,4,15] rfl (fS rfl<|fS rfl<|fS rfl<|fN)<|Zc [1001] [] Tryz.func153 rfl (zoj _) fun r6 n7=>Zq (ext rfl rfl)<|Zq (ext rfl rfl)<|Es (sto 2 rfl rfl Foc.here rfl z1p)<|Za rfl<|Zn<|z0m<|zge [] [1001] rfl (eC 2 rfl rfl z49<|eE rfl<|eN) (y1 rfl)
def z52 (a0:List UInt32) (s2:Int):Option (Sum (Sum Bool Unit) Int) :=
 if decide (s2<(a0.length:Int)) then
  idx a0 s2 >>= fun x4 =>
  zh1 x4 >>= fun r6 =>
  if !r6 then
   some (.inl (.inl false))
  else
   some (.inr (w64 (s2+1)))
 else
  some (.inl (.inr ()))
def zda (a0:List UInt32):Option (Bool) :=
 z5p (iter (z52 a0) 0) fun s1 =>
 some true
theorem zko (a0:List UInt32):z27 Tryz.prog 218 [.rd (z02 z1c) a0] [] (zda a0) (fun r nv=>⟨[.rd z0n r],[]⟩):=by
 refine z2n 15 Tryz.func218 rfl rfl rfl fun H w=>?_
 refine gSR<|Za rfl<|Zn<|z7k (fun (s1:Unit) aa ww=>Sta (ctx 15 H [] w) [] [] aa ww) ?_ (fun s1=>?_)
 ·
  refine gSR<|Zm rfl<|Zq (z37 rfl .rd rfl tu217)<|Zm rfl<|Zn<|z2h (fun (s2:Int) aa ww=>Sta (ctx 15 H [] w) [(5,.rd (z02 z1c) a0),(6,.rd z0k (a0.length:Int)),(7,.rd z0k s2)] [] aa ww) (fun aa ww h=>Zu h []) (fun s2=>?_)
  refine gSR<|Zq (I.lss rfl rfl)<|Zn<|z0w<|gIf rfl rfl (fun h3=>?_) (fun h3=>?_)
  ·
   refine Zt<|z0w<|z4q<|gSR<|z0s fun x4 h5=>Zq (ixR rfl rfl h5 tu217 z3h rfl)<|Zq (ldR rfl z4p)<|Za rfl<|Zn<|gSR<|Zm rfl<|Zc [] [] Tryz.func170 rfl (zi3 _) fun r6 n7=>Zq (zcy rfl)<|Zn<|gIf rfl rfl (fun h8=>?_) (fun h8=>?_)
   ·
    refine gSR<|Za rfl<|Zn<|z0m<|z4a<|z12<|z7g<|z54<|Ze [] [] rfl
   ·
    refine z2l<|z1w<|z0d<|z1m<|Zq (I.add rfl rfl)<|Zm rfl<|z1f<|z0r (fun aa ww h=>Zu h [])
  ·
   refine z1z<|z13<|z14<|z4s (fun aa ww h=>Zu h [])
 ·
  refine gSR<|Za rfl<|Zn<|z0m<|Ze [] [] rfl
def zls (a0:UInt32) (a1:UInt64):Option (UInt32 × Int) :=
 zda [a0] >>= fun r2 =>
 if !r2 then
  some (0,2)
 else
  zel a0 a1 >>= fun r5 =>
  some (r5,0)
theorem zp7 (a0:UInt32) (a1:UInt64):z27 Tryz.prog 192 [.rd z1c a0,.rd z2r a1] [] (zls a0 a1) (fun r nv=>⟨[.rd z1c r.1,.rd z0k r.2],[]⟩):=by
 refine z2n 13 Tryz.func192 rfl rfl rfl fun H w=>?_
 refine gSR<|Za rfl<|Za rfl<|Zn<|z0w<|gSR<|Zm rfl<|Ef rfl (lit (R:=z1c) ([a0]:List UInt32) 1 (pP rfl rfl<|pN) rfl tu217 z3h rfl rfl) fun v1=>zgv 1 [7] rfl (fS rfl<|fN)<|Zc [] [] Tryz.func218 rfl (zko _) fun r2 n3=>Zq (zcy rfl)<|Zn<|gIf rfl rfl (fun h4=>?_) (fun h4=>?_)
 ·
  refine gSR<|Za rfl<|Za rfl<|Zn<|z0m<|z12<|Ze [] [] rfl
 ·
  refine Zt<|gSR<|Zm rfl<|Zm rfl<|Zc [] [] Tryz.func201 rfl (zgn _ _) fun r5 n6=>Za rfl<|Za rfl<|Zn<|z0m<|Ze [] [] rfl
def zkf (a0:UInt64):Option (UInt32) :=
 zel 4 a0 >>= fun r1 =>
 some r1
theorem zof (a0:UInt64):z27 Tryz.prog 194 [.rd z2r a0] [] (zkf a0) (fun r nv=>⟨[.rd z1c r],[]⟩):=by
 refine z2n 5 Tryz.func194 rfl rfl rfl fun H w=>?_
 refine gSR<|Za rfl<|Zn<|gSR<|Zm rfl<|Zc [] [] Tryz.func201 rfl (zgn _ _) fun r1 n2=>Za rfl<|Zn<|z0m<|Ze [] [] rfl
def zly (a0:UInt32) (a1:UInt32):Option (UInt32 × Int) :=
 zda [a0,a1] >>= fun r2 =>
 if !r2 then
  some (0,2)
 else
  zek 1000000007 [a0,a1] >>= fun r6 =>
  some (r6,0)
theorem zpb (a0:UInt32) (a1:UInt32):z27 Tryz.prog 193 [.rd z1c a0,.rd z1c a1] [] (zly a0 a1) (fun r nv=>⟨[.rd z1c r.1,.rd z0k r.2],[]⟩):=by
 refine z2n 15 Tryz.func193 rfl rfl rfl fun H w=>?_
 refine gSR<|Za rfl<|Za rfl<|Zn<|z0w<|gSR<|Zm rfl<|Zm rfl<|Ef rfl (lit (R:=z1c) ([a0,a1]:List UInt32) 1 (pP rfl rfl<|pP rfl rfl<|pN) rfl tu217 z3h rfl rfl) fun v1=>zgv 1 [8] rfl (fS rfl<|fN)<|Zc [] [] Tryz.func218 rfl (zko _) fun r2 n3=>Zq (zcy rfl)<|Zn<|gIf rfl rfl (fun h4=>?_) (fun h4=>?_)
 ·
  refine gSR<|Za rfl<|Za rfl<|Zn<|z0m<|z12<|Ze [] [] rfl
 ·
  refine Zt<|gSR<|Zm rfl<|Zm rfl<|Ef rfl (lit (R:=z1c) ([a0,a1]:List UInt32) 2 (pP rfl rfl<|pP rfl rfl<|pN) rfl tu217 z3h rfl rfl) fun v5=>zgv 2 [13] rfl (fS rfl<|fN)<|Zc [] [] Tryz.func219 rfl (zga _ _) fun r6 n7=>Za rfl<|Za rfl<|Zn<|z0m<|Ze [] [] rfl
def z87 (a2:List UInt32) (s4:(List UInt8) × Int):Option (Sum ((List UInt8)) ((List UInt8) × Int)) :=
 if decide (s4.2<(a2.length:Int)) then
  idx a2 s4.2 >>= fun x7 =>
  app 1 s4.1 [(z2e x7 24).toUInt8,(z2e x7 16).toUInt8,(z2e x7 8).toUInt8,x7.toUInt8] >>= fun x10 =>
  some (.inr (x10,w64 (s4.2+1)))
 else
  some (.inl s4.1)
def zcd (r15:(Vector UInt8 32) × Int) (s19:UInt64 × Int):Option (Sum UInt64 (UInt64 × Int)) :=
 if decide (s19.2<(((r15.1.toList.drop 0).take 8).length:Int)) then
  idx ((r15.1.toList.drop 0).take 8) s19.2 >>= fun x21 =>
  some ((zom s19.1 8) ||| x21.toUInt64) >>= fun y23 =>
  some (.inr (y23,w64 (s19.2+1)))
 else
  some (.inl s19.1)
def ziu (a0:UInt8) (a1:List UInt8) (a2:List UInt32):Option (UInt64 × Int) :=
 if decide (9991<(a1.length:Int)) then
  some (0,4)
 else
  (iter (z87 a2) ([a0],0)) >>= fun s3 =>
  zbg [s3,a1] >>= fun r15 =>
  (iter (zcd r15) (0,0)) >>= fun s18 =>
  some (s18,r15.2)
theorem zph (a0:UInt8) (a1:List UInt8) (a2:List UInt32):z27 Tryz.prog 220 [.rd u8R a0,.rd (z02 u8R) a1,.rd (z02 z1c) a2] [zG1] (ziu a0 a1 a2) (fun r nv=>⟨[.rd z2r r.1,.rd z0k r.2],[(1001,some (.bool true,.glob 1 (z06 64 z1c) z8f))]⟩):=by
 refine z2n 63 Tryz.func220 rfl rfl rfl fun H w=>?_
 refine gSR<|Za rfl<|Za rfl<|Zn<|z0w<|gSR<|Zm rfl<|Zq (z37 rfl .rd rfl tu75)<|Zq (I.gtr rfl rfl)<|Zn<|gIf rfl rfl (fun h1=>?_) (fun h1=>?_)
 ·
  refine gSR<|Za rfl<|Za rfl<|Zn<|z0m<|z12<|Ze [] [1001] rfl
 ·
  refine Zt<|gSR<|Zm rfl<|Ef rfl (lit (R:=u8R) ([a0]:List UInt8) 1 (pP rfl rfl<|pN) rfl tu75 ti5 rfl rfl) fun v2=>Za rfl<|Zn<|z7f (fun (s3:(List UInt8)) aa ww=>∃ nv:Nat→Value,Sta (ctx 63 H [zG1] w) [(1,.rd (z02 u8R) a1),(8,.val (nv 0))] [(1,some ((nv 0),.list u8R 5 s3)),zG1] aa ww) ?_ (fun s3=>?_)
  ·
   refine gSR<|Zm rfl<|Zq (z37 rfl .rd rfl tu217)<|Zm rfl<|Zn<|z2h (fun (s4:(List UInt8) × Int) aa ww=>∃ nv:Nat→Value,Sta (ctx 63 H [zG1] w) [(1,.rd (z02 u8R) a1),(8,.val (nv 0)),(21,.rd (z02 z1c) a2),(22,.rd z0k (a2.length:Int)),(23,.rd z0k s4.2)] [(1,some ((nv 0),.list u8R 5 s4.1)),zG1] aa ww) (fun aa ww h=>⟨nvl [v2],Zu h [1,1001]⟩) (fun s4=>?_)
   refine gEx fun n5=>gSR<|Zq (I.lss rfl rfl)<|Zn<|z0w<|gIf rfl rfl (fun h6=>?_) (fun h6=>?_)
   ·
    refine Zt<|z0w<|z4q<|gSR<|z0s fun x7 h8=>Zq (ixR rfl rfl h8 tu217 z3h rfl)<|Zq (ldR rfl z4p)<|Za rfl<|Zn<|z1m<|Zm rfl<|Zm rfl<|Zq (W.shr rfl rfl (Int.natCast_nonneg _))<|Zq (W.toB rfl tu65 tu5)<|Zm rfl<|Zq (W.shr rfl rfl (Int.natCast_nonneg _))<|Zq (W.toB rfl tu65 tu5)<|Zm rfl<|Zq (W.shr rfl rfl (Int.natCast_nonneg _))<|Zq (W.toB rfl tu65 tu5)<|Zm rfl<|Zq (W.toB rfl tu65 tu5)<|Ef rfl (lit (R:=u8R) ([(z2e x7 24).toUInt8,(z2e x7 16).toUInt8,(z2e x7 8).toUInt8,x7.toUInt8]:List UInt8) 1002 (pP rfl rfl<|pP rfl rfl<|pP rfl rfl<|pP rfl rfl<|pN) rfl tu75 ti5 rfl rfl) fun v9=>z0s fun x10 h11=>Ef rfl (apn 1 rfl rfl rfl (.own 1002 rfl) h11 tu75 ti5 rfl rfl rfl) fun v12=>Za rfl<|z1f<|z1w<|z0d<|z1m<|Zq (I.add rfl rfl)<|Zm rfl<|z1f<|z0r (fun aa ww h=>⟨nvl [v12],Zu h [1,1001]⟩)
   ·
    refine z1z<|z13<|z14<|z2x (fun aa ww h=>⟨nvl [(n5 0)],Zu h [1,1001]⟩)
  ·
   refine gEx fun n13=>gSR<|Zm rfl<|Zm rfl<|zgv 1 [8,43] rfl (fS rfl<|fS rfl<|fN)<|Ef rfl (lit (R:=(z02 u8R)) ([s3,a1]:List (List UInt8)) 1003 (pP rfl rfl<|pP rfl rfl<|pN) rfl tu42 zcm rfl rfl) fun v14=>zgv 1003 [45] rfl (fS rfl<|fN)<|Zc [1001] [] Tryz.func191 rfl (zfx _) fun r15 n16=>Zm rfl<|Zq (ext rfl rfl)<|Zq (ext rfl rfl)<|Eb rfl (z7s 1004 z1p (.zr (R:=(z06 32 u8R)) (x:=(Vector.replicate 32 0)) zj3)) fun v17=>Es (sto 1004 rfl rfl Foc.here rfl z1p)<|Za rfl<|Zn<|gSR<|Za rfl<|Zn<|z7f (fun (s18:UInt64) aa ww=>Sta (ctx 63 H [zG1] w) [(12,.rd z0k r15.2),(13,.rd z2r s18)] [zG1] aa ww) ?_ (fun s18=>?_)
   ·
    refine gSR<|z11w 1004 11 rfl rfl<|Zq (z13i (i:=0) (j:=8) rfl .no (.to rfl) tu62 ti5 (by decide) rfl rfl rfl)<|Zq (z37 rfl .rd rfl tu75)<|Zm rfl<|Zn<|z2h (fun (s19:UInt64 × Int) aa ww=>Sta (ctx 63 H [zG1] w) [(12,.rd z0k r15.2),(13,.rd z2r s19.1),(49,.rd (z02 u8R) ((r15.1.toList.drop 0).take 8)),(50,.rd z0k (((r15.1.toList.drop 0).take 8).length:Int)),(51,.rd z0k s19.2)] [zG1] aa ww) (fun aa ww h=>Zu h [1001]) (fun s19=>?_)
    refine gSR<|Zq (I.lss rfl rfl)<|Zn<|z0w<|gIf rfl rfl (fun h20=>?_) (fun h20=>?_)
    ·
     refine Zt<|z0w<|z4q<|gSR<|z0s fun x21 h22=>Zq (ixR rfl rfl h22 tu75 ti5 rfl)<|Zq (ldR rfl ty5)<|Za rfl<|Zn<|z1m<|Zm rfl<|Zq (U.shl rfl rfl (Int.natCast_nonneg _))<|Zm rfl<|Zq (B.toU rfl tu5 tu41)<|Zq (U.or rfl rfl)<|Za rfl<|z1e 13 rfl fun y23=>z1f<|z1w<|z0d<|z1m<|Zq (I.add rfl rfl)<|Zm rfl<|z1f<|z0r (fun aa ww h=>Zu h [1001])
    ·
     refine z1z<|z13<|z14<|z2x (fun aa ww h=>Zu h [1001])
   ·
    refine gSR<|Zm rfl<|Zm rfl<|Za rfl<|Za rfl<|Zn<|z0m<|Ze [] [1001] rfl
def zca (a0:UInt32) (a1:UInt32) (a2:List UInt8):Option (UInt32 × Int) :=
 ziu 99 a2 [a0,a1] >>= fun r2 =>
 if r2.2 != 0 then
  some (0,r2.2)
 else
  some ((r2.1 % 500000003).toUInt32) >>= fun y5 =>
  some (y5,0)
theorem zka (a0:UInt32) (a1:UInt32) (a2:List UInt8):z27 Tryz.prog 195 [.rd z1c a0,.rd z1c a1,.rd (z02 u8R) a2] [zG1] (zca a0 a1 a2) (fun r nv=>⟨[.rd z1c r.1,.rd z0k r.2],[(1001,some (.bool true,.glob 1 (z06 64 z1c) z8f))]⟩):=by
 refine z2n 24 Tryz.func195 rfl rfl rfl fun H w=>?_
 refine gSR<|Za rfl<|Za rfl<|Zn<|gSR<|Zm rfl<|Zm rfl<|Zm rfl<|Ef rfl (lit (R:=z1c) ([a0,a1]:List UInt32) 1 (pP rfl rfl<|pP rfl rfl<|pN) rfl tu217 z3h rfl rfl) fun v1=>zgv 1 [14] rfl (fS rfl<|fN)<|Zc [1001] [] Tryz.func220 rfl (zph _ _ _) fun r2 n3=>Zm rfl<|Zq (ext rfl rfl)<|Zq (ext rfl rfl)<|Za rfl<|Za rfl<|Zn<|z0w<|gSR<|Zm rfl<|Zq (I.neq rfl rfl)<|Zn<|gIf rfl rfl (fun h4=>?_) (fun h4=>?_)
 ·
  refine gSR<|Zm rfl<|Za rfl<|Za rfl<|Zn<|z0m<|z12<|Ze [] [1001] rfl
 ·
  refine Zt<|gSR<|Zm rfl<|Zq (U.rem rfl rfl (by decide))<|Zq (U.toW rfl tu41 tu65)<|Za rfl<|z1e 6 rfl fun y5=>Za rfl<|Zn<|z0m<|Ze [] [1001] rfl
def zez (a0:UInt32) (a1:List UInt8) (a2:z0u):Option (Int) :=
 zh1 a0 >>= fun r2 =>
 if !r2 then
  some 2
 else
  if decide (9991<(a1.length:Int)) then
   some 4
  else
   if decide (500000003≤(max a2.E a2.S)) then
    some 22
   else
    zls a0 (500000003 - a2.E.toUInt64) >>= fun r7 =>
    zkf a2.S.toUInt64 >>= fun r9 =>
    zly r9 r7.1 >>= fun r11 =>
    zca r11.1 a0 a1 >>= fun r13 =>
    if r13.2 != 0 then
     some 22
    else
     if r13.1 != a2.E then
      some 22
     else
      some 0
theorem zn6 (a0:UInt32) (a1:List UInt8) (a2:z0u):z27 Tryz.prog 154 [.rd z1c a0,.rd (z02 u8R) a1,.rd z1q a2] [zG1] (zez a0 a1 a2) (fun r nv=>⟨[.rd z0k r],[(1001,some (.bool true,.glob 1 (z06 64 z1c) z8f))]⟩):=by
 refine z2n 58 Tryz.func154 rfl rfl rfl fun H w=>?_
 refine gSR<|Eb rfl (bx 1 rfl) fun v1=>Za rfl<|Zn<|z0w<|gSR<|Zm rfl<|Zc [] [] Tryz.func170 rfl (zi3 _) fun r2 n3=>Zq (zcy rfl)<|Zn<|gIf rfl rfl (fun h4=>?_) (fun h4=>?_)
 ·
  refine gSR<|Za rfl<|Zn<|z0m<|z12<|Ze [] [1001] rfl
 ·
  refine Zt<|z0w<|gSR<|Zm rfl<|Zq (z37 rfl .rd rfl tu75)<|Zq (I.gtr rfl rfl)<|Zn<|gIf rfl rfl (fun h5=>?_) (fun h5=>?_)
  ·
   refine gSR<|Za rfl<|Zn<|z0m<|z12<|Ze [] [1001] rfl
  ·
   refine Zt<|z0w<|gSR<|Zq (faB 1 rfl rfl Tryz.underlying71 rfl (by exact z3h))<|Zq (ld 1 rfl rfl ((Foc.here).part (z5u _)) z4p rfl)<|Zq (faB 1 rfl rfl Tryz.underlying71 rfl (by exact z3h))<|Zq (ld 1 rfl rfl ((Foc.here).part (z88 _)) z4p rfl)<|Zq (W.max rfl rfl)<|Zq (W.geq rfl rfl)<|Zn<|gIf rfl rfl (fun h6=>?_) (fun h6=>?_)
   ·
    refine gSR<|Za rfl<|Zn<|z0m<|z12<|Ze [] [1001] rfl
   ·
    refine Zt<|gSR<|Zm rfl<|Zq (faB 1 rfl rfl Tryz.underlying71 rfl (by exact z3h))<|Zq (ld 1 rfl rfl ((Foc.here).part (z5u _)) z4p rfl)<|Zq (W.toU rfl tu65 tu41)<|Zq (U.sub rfl rfl)<|Zc [] [] Tryz.func192 rfl (zp7 _ _) fun r7 n8=>Zm rfl<|Zq (ext rfl rfl)<|Zq (ext rfl rfl)<|Za rfl<|Za rfl<|Zn<|gSR<|Zq (faB 1 rfl rfl Tryz.underlying71 rfl (by exact z3h))<|Zq (ld 1 rfl rfl ((Foc.here).part (z88 _)) z4p rfl)<|Zq (W.toU rfl tu65 tu41)<|Zc [] [] Tryz.func194 rfl (zof _) fun r9 n10=>Zm rfl<|Zc [] [] Tryz.func193 rfl (zpb _ _) fun r11 n12=>Zm rfl<|Zq (ext rfl rfl)<|Zq (ext rfl rfl)<|Za rfl<|Za rfl<|Zn<|z0w<|gSR<|Zm rfl<|Zm rfl<|Zm rfl<|Zc [1001] [] Tryz.func195 rfl (zka _ _ _) fun r13 n14=>Zm rfl<|Zq (ext rfl rfl)<|Zq (ext rfl rfl)<|Za rfl<|Za rfl<|Zn<|gSR<|Zm rfl<|Zq (I.neq rfl rfl)<|Zm rfl<|z1n 52 rfl (fun h15=>?_) (fun h15=>?_)
    ·
     refine lKn 51 rfl h15<|Zk rfl<|Zk rfl<|Zk rfl<|Zk rfl<|Zq (pkT rfl rfl)<|Zn<|zdg rfl<|gSR<|Za rfl<|Zn<|z0m<|z12<|Ze [] [1001] rfl
    ·
     refine lKn 51 rfl h15<|z0z Zx rfl rfl (mv rfl)<|z0z Zx rfl rfl (faB 1 rfl rfl Tryz.underlying71 rfl (by exact z3h))<|z0z Zx rfl rfl (ld 1 rfl rfl ((Foc.here).part (z5u _)) z4p rfl)<|z0z Zx rfl rfl (W.neq rfl rfl)<|Zq (pkF rfl rfl)<|Zn<|gIf rfl rfl (fun h16=>?_) (fun h16=>?_)
     ·
      refine gKn 56 rfl h16<|gSR<|Za rfl<|Zn<|z0m<|z12<|Ze [] [1001] rfl
     ·
      refine gKn 56 rfl h16<|Zt<|gSR<|Za rfl<|Zn<|z0m<|Ze [] [1001] rfl
def ziq (a0:z0g):Option (Int) :=
 zfk a0 >>= fun r2 =>
 if r2 != 0 then
  some r2
 else
  zet a0 >>= fun r5 =>
  zez a0.Author r5.1 a0.Sig >>= fun r7 =>
  some r7
theorem zoy (a0:z0g):z27 Tryz.prog 112 [.rd z0c a0] [zG1] (ziq a0) (fun r nv=>⟨[.rd z0k r],[(1001,some (.bool true,.glob 1 (z06 64 z1c) z8f))]⟩):=by
 refine z2n 22 Tryz.func112 rfl rfl rfl fun H w=>?_
 refine gSR<|Eb rfl (bx 1 rfl) fun v1=>Za rfl<|Zn<|z0w<|gSR<|Zq (ld 1 rfl rfl Foc.here zg5 rfl)<|Zc [] [] Tryz.func128 rfl (zi0 _) fun r2 n3=>Za rfl<|Zn<|gSR<|Zm rfl<|Zq (I.neq rfl rfl)<|Zn<|gIf rfl rfl (fun h4=>?_) (fun h4=>?_)
 ·
  refine gSR<|Zm rfl<|Za rfl<|Zn<|z0m<|z12<|Ze [] [1001] rfl
 ·
  refine Zt<|gSR<|Zq (ld 1 rfl rfl Foc.here zg5 rfl)<|Zc [] [(100,2)] Tryz.func129 rfl (zjw _) fun r5 n6=>Zm rfl<|Zq (ext rfl rfl)<|Zq (ext rfl rfl)<|Za rfl<|Za rfl<|Zn<|gSR<|Zq (faB 1 rfl rfl Tryz.underlying73 rfl (by exact z3h))<|Zq (ld 1 rfl rfl ((Foc.here).part (z4j _)) z4p rfl)<|Zm rfl<|Zq (faB 1 rfl rfl Tryz.underlying73 rfl (by exact zqv))<|Zq (ld 1 rfl rfl ((Foc.here).part (z3o _)) ty71 rfl)<|zgv 2 [14,4,18] rfl (fS rfl<|fS rfl<|fS rfl<|fN)<|Zc [1001] [] Tryz.func154 rfl (zn6 _ _ _) fun r7 n8=>Za rfl<|Zn<|z0m<|Ze [] [1001] rfl
def z5g (s4:UInt64 × (List UInt8)):Option (Sum ((List UInt8)) (UInt64 × (List UInt8))) :=
 if decide (0<s4.1) then
  app 1 s4.2 [(s4.1 % 256).toUInt8] >>= fun x8 =>
  some (.inr (s4.1 / 256,x8))
 else
  some (.inl s4.2)
def z5l (s3:(List UInt8)) (s15:(List UInt8) × Int):Option (Sum ((List UInt8)) ((List UInt8) × Int)) :=
 if decide (0≤s15.2) then
  idx s3 s15.2 >>= fun x18 =>
  app 1 s15.1 [x18] >>= fun x21 =>
  some (w64 (s15.2 - 1)) >>= fun y24 =>
  some (.inr (x21,y24))
 else
  some (.inl s15.1)
def z21 (a0:UInt64):Option ((List UInt8)) :=
 if decide (a0≤247) then
  some [a0.toUInt8]
 else
  (iter (z5g) (a0,[])) >>= fun s3 =>
  (some (w64 ((s3.length:Int) - 1)) >>= fun y14 =>
  iter (z5l s3) ([UInt8.ofInt (w64 (247+(s3.length:Int)))],y14)) >>= fun s13 =>
  some s13
theorem z2o (a0:UInt64):z27 Tryz.prog 140 [.rd z2r a0] [] (z21 a0) (fun r nv=>⟨[.val (nv 0)],[(100,some (nv 0,.list u8R 5 r))]⟩):=by
 refine z2n 41 Tryz.func140 rfl rfl rfl fun H w=>?_
 refine gSR<|Za rfl<|Zn<|z0w<|gSR<|Zm rfl<|Zq (U.leq rfl rfl)<|Zn<|gIf rfl rfl (fun h1=>?_) (fun h1=>?_)
 ·
  refine gSR<|Zm rfl<|Zq (U.toB rfl tu41 tu5)<|Ef rfl (lit (R:=u8R) ([a0.toUInt8]:List UInt8) 1 (pP rfl rfl<|pN) rfl tu75 ti5 rfl rfl) fun v2=>Za rfl<|Zn<|z0m<|z12<|Ze [v2] [1] rfl
 ·
  refine Zt<|gSR<|Za rfl<|Zn<|z7f (fun (s3:(List UInt8)) aa ww=>∃ nv:Nat→Value,Sta (ctx 41 H [] w) [(3,.val (nv 0))] [(3,some ((nv 0),.list u8R 5 s3))] aa ww) ?_ (fun s3=>?_)
  ·
   refine zrq u8R 5 6<|z2h (fun (s4:UInt64 × (List UInt8)) aa ww=>∃ nv:Nat→Value,Sta (ctx 41 H [] w) [(0,.rd z2r s4.1),(3,.val (nv 0))] [(5,some ((nv 0),.list u8R 5 s4.2))] aa ww) (fun aa ww h=>⟨nvl [(.slice none 0 0)],Zu h [6]⟩) (fun s4=>?_)
   refine gEx fun n5=>z0w<|gSR<|Zm rfl<|Zq (U.gtr rfl rfl)<|Zn<|gIf rfl rfl (fun h6=>?_) (fun h6=>?_)
   ·
    refine Zt<|z4q<|gSR<|Zm rfl<|Zm rfl<|Zq (U.rem rfl rfl (by decide))<|Zq (U.toB rfl tu41 tu5)<|Ef rfl (lit (R:=u8R) ([(s4.1 % 256).toUInt8]:List UInt8) 7 (pP rfl rfl<|pN) rfl tu75 ti5 rfl rfl) fun v7=>z0s fun x8 h9=>Ef rfl (apn 5 rfl rfl rfl (.own 7 rfl) h9 tu75 ti5 rfl rfl rfl) fun v10=>Za rfl<|Zn<|z1m<|Zm rfl<|Zq (U.quo rfl rfl (by decide))<|Za rfl<|z1f<|z1w<|z0r (fun aa ww h=>⟨nvl [v10],Zu h [5]⟩)
   ·
    refine z1z<|z13<|z14<|z2x (fun aa ww h=>⟨nvl [(n5 0)],Zu h [5]⟩)
  ·
   refine gEx fun n11=>gSR<|Zm rfl<|Zq (z37 rfl (.own 3 rfl) rfl tu75)<|Zq (I.add rfl rfl)<|Zq (I.toB rfl tu3 tu5)<|Ef rfl (lit (R:=u8R) ([UInt8.ofInt (w64 (247+(s3.length:Int)))]:List UInt8) 8 (pP rfl rfl<|pN) rfl tu75 ti5 rfl rfl) fun v12=>Za rfl<|Zn<|z7f (fun (s13:(List UInt8)) aa ww=>∃ nv:Nat→Value,Sta (ctx 41 H [] w) [(4,.val (nv 0))] [(8,some ((nv 0),.list u8R 5 s13))] aa ww) ?_ (fun s13=>?_)
   ·
    refine gSR<|Zm rfl<|Zq (z37 rfl (.own 3 rfl) rfl tu75)<|Zq (I.sub rfl rfl)<|Za rfl<|z1e 5 rfl fun y14=>Zn<|z2h (fun (s15:(List UInt8) × Int) aa ww=>∃ nv:Nat→Value,Sta (ctx 41 H [] w) [(3,.val (n11 0)),(4,.val (nv 0)),(5,.rd z0k s15.2)] [(3,some ((n11 0),.list u8R 5 s3)),(8,some ((nv 0),.list u8R 5 s15.1))] aa ww) (fun aa ww h=>⟨nvl [v12],Zu h [3,8]⟩) (fun s15=>?_)
    refine gEx fun n16=>z0w<|gSR<|Zm rfl<|Zq (I.geq rfl rfl)<|Zn<|gIf rfl rfl (fun h17=>?_) (fun h17=>?_)
    ·
     refine Zt<|z0w<|z4q<|z1m<|Zm rfl<|Zm rfl<|Zm rfl<|z0s fun x18 h19=>Zq (ixO 3 rfl rfl rfl h19 tu75 ti5)<|Zq (ld 3 rfl rfl (Foc.el h19) ty5 rfl)<|Ef rfl (lit (R:=u8R) ([x18]:List UInt8) 9 (pP rfl rfl<|pN) rfl tu75 ti5 rfl rfl) fun v20=>z0s fun x21 h22=>Ef rfl (apn 8 rfl rfl rfl (.own 9 rfl) h22 tu75 ti5 rfl rfl rfl) fun v23=>Za rfl<|z1f<|z1w<|z0d<|z1m<|Zm rfl<|Zq (I.sub rfl rfl)<|Za rfl<|z1e 5 rfl fun y24=>z1f<|z0r (fun aa ww h=>⟨nvl [v23],Zu h [3,8]⟩)
    ·
     refine z1z<|z13<|z14<|z2x (fun aa ww h=>⟨nvl [(n16 0)],Zu h [8]⟩)
   ·
    refine gEx fun n25=>gSR<|Zm rfl<|Za rfl<|Zn<|z0m<|Ze [(n25 0)] [8] rfl
def z7c (a0:List (Vector UInt8 32)) (s4:(List UInt8) × Int):Option (Sum ((List UInt8)) ((List UInt8) × Int)) :=
 if decide (s4.2<(a0.length:Int)) then
  idx a0 s4.2 >>= fun x7 =>
  app 1 s4.1 x7.toList >>= fun x9 =>
  some (w64 (s4.2+1)) >>= fun y12 =>
  some (.inr (x9,y12))
 else
  some (.inl s4.1)
def z9f (a0:List (Vector UInt8 32)):Option ((List UInt8)) :=
 z21 (UInt64.ofInt (a0.length:Int)) >>= fun r1 =>
 (iter (z7c a0) (r1,0)) >>= fun s3 =>
 some s3
theorem zdt (a0:List (Vector UInt8 32)):z27 Tryz.prog 174 [.rd (z02 (z06 32 u8R)) a0] [] (z9f a0) (fun r nv=>⟨[.val (nv 0)],[(100,some (nv 0,.list u8R 5 r))]⟩):=by
 refine z2n 22 Tryz.func174 rfl rfl rfl fun H w=>?_
 refine gSR<|Za rfl<|Zn<|gSR<|Zm rfl<|Zq (z37 rfl .rd rfl tu22)<|Zq (I.toU rfl tu3 tu41)<|Zc [] [(100,1)] Tryz.func140 rfl (z2o _) fun r1 n2=>Za rfl<|Zn<|z7f (fun (s3:(List UInt8)) aa ww=>∃ nv:Nat→Value,Sta (ctx 22 H [] w) [(3,.val (nv 0))] [(1,some ((nv 0),.list u8R 5 s3))] aa ww) ?_ (fun s3=>?_)
 ·
  refine gSR<|Za rfl<|Zn<|z2h (fun (s4:(List UInt8) × Int) aa ww=>∃ nv:Nat→Value,Sta (ctx 22 H [] w) [(0,.rd (z02 (z06 32 u8R)) a0),(3,.val (nv 0)),(4,.rd z0k s4.2)] [(1,some ((nv 0),.list u8R 5 s4.1))] aa ww) (fun aa ww h=>⟨nvl [(n2 0)],Zu h [1]⟩) (fun s4=>?_)
  refine gEx fun n5=>z0w<|gSR<|Zm rfl<|Zm rfl<|Zq (z37 rfl .rd rfl tu22)<|Zq (I.lss rfl rfl)<|Zn<|gIf rfl rfl (fun h6=>?_) (fun h6=>?_)
  ·
   refine Zt<|z0w<|z4q<|z1m<|Zm rfl<|Zm rfl<|Zm rfl<|z0s fun x7 h8=>Zq (ixR rfl rfl h8 tu22 z1p rfl)<|Zq (cutV rfl tu62 ti5 rfl rfl rfl)<|z0s fun x9 h10=>Ef rfl (apn 1 rfl rfl rfl .rd h10 tu75 ti5 rfl rfl rfl) fun v11=>Za rfl<|z1f<|z1w<|z0d<|z1m<|Zm rfl<|Zq (I.add rfl rfl)<|Za rfl<|z1e 4 rfl fun y12=>z1f<|z0r (fun aa ww h=>⟨nvl [v11],Zu h [1]⟩)
  ·
   refine z1z<|z13<|z14<|z2x (fun aa ww h=>⟨nvl [(n5 0)],Zu h [1]⟩)
 ·
  refine gEx fun n13=>gSR<|Zm rfl<|Za rfl<|Zn<|z0m<|Ze [(n13 0)] [1] rfl
def z61 (a0:List UInt8):Option ((List UInt8)) :=
 z21 (UInt64.ofInt (a0.length:Int)) >>= fun r1 =>
 app 1 r1 a0 >>= fun x3 =>
 some x3
theorem zb8 (a0:List UInt8):z27 Tryz.prog 175 [.rd (z02 u8R) a0] [] (z61 a0) (fun r nv=>⟨[.val (nv 0)],[(100,some (nv 0,.list u8R 5 r))]⟩):=by
 refine z2n 9 Tryz.func175 rfl rfl rfl fun H w=>?_
 refine gSR<|Za rfl<|Zn<|gSR<|Zm rfl<|Zq (z37 rfl .rd rfl tu75)<|Zq (I.toU rfl tu3 tu41)<|Zc [] [(100,1)] Tryz.func140 rfl (z2o _) fun r1 n2=>Zm rfl<|z0s fun x3 h4=>Ef rfl (apn 1 rfl rfl rfl .rd h4 tu75 ti5 rfl rfl rfl) fun v5=>Za rfl<|Zn<|z0m<|Ze [v5] [1] rfl
def za1 (a0:Int):Option ((List UInt8)) :=
 if decide (0≤a0) then
  z21 (2 * (UInt64.ofInt a0)) >>= fun r2 =>
  some r2
 else
  z21 ((2 * (UInt64.ofInt (w64 (0 - (w64 (a0+1))))))+1) >>= fun r4 =>
  some r4
theorem zh7 (a0:Int):z27 Tryz.prog 207 [.rd z0k a0] [] (za1 a0) (fun r nv=>⟨[.val (nv 0)],[(100,some (nv 0,.list u8R 5 r))]⟩):=by
 refine z2n 16 Tryz.func207 rfl rfl rfl fun H w=>?_
 refine gSR<|Za rfl<|Zn<|z0w<|gSR<|Zm rfl<|Zq (I.geq rfl rfl)<|Zn<|gIf rfl rfl (fun h1=>?_) (fun h1=>?_)
 ·
  refine gSR<|Zm rfl<|Zq (I.toU rfl Tryz.underlying2 tu41)<|Zq (U.mul rfl rfl)<|Zc [] [(100,1)] Tryz.func140 rfl (z2o _) fun r2 n3=>Za rfl<|Zn<|z0m<|z12<|Ze [(n3 0)] [1] rfl
 ·
  refine Zt<|gSR<|Zm rfl<|Zq (I.add rfl rfl)<|Zq (I.neg rfl)<|Zq (I.toU rfl Tryz.underlying2 tu41)<|Zq (U.mul rfl rfl)<|Zq (U.add rfl rfl)<|Zc [] [(100,2)] Tryz.func140 rfl (z2o _) fun r4 n5=>Za rfl<|Zn<|z0m<|Ze [(n5 0)] [2] rfl
def z68 (a0:z0b) (s11:(List UInt8) × Int):Option (Sum ((List UInt8)) ((List UInt8) × Int)) :=
 if decide (0≤s11.2) then
  chk (0≤w64 (8 * s11.2)) >>= fun u14 =>
  app 1 s11.1 [(z85 a0.Bits ((w64 (8 * s11.2):Int).toNat)).toUInt8] >>= fun x17 =>
  some (w64 (s11.2 - 1)) >>= fun y20 =>
  some (.inr (x17,y20))
 else
  some (.inl s11.1)
def zai (a0:z0b):Option ((List UInt8)) :=
 if a0.Kind==1 then
  za1 a0.Num >>= fun r4 =>
  app 1 [a0.Kind] r4 >>= fun x6 =>
  some x6
 else
  if a0.Kind==2 then
   (iter (z68 a0) ([a0.Kind],7)) >>= fun s10 =>
   some s10
  else
   chk (a0.Text.length≤281474976710656) >>= fun u22 =>
   z61 a0.Text >>= fun r24 =>
   app 1 [a0.Kind] r24 >>= fun x26 =>
   some x26
theorem zi5 (a0:z0b):z27 Tryz.prog 177 [.rd z2i a0] [] (zai a0) (fun r nv=>⟨[.val (nv 0)],[(100,some (nv 0,.list u8R 5 r))]⟩):=by
 refine z2n 39 Tryz.func177 rfl rfl rfl fun H w=>?_
 refine gSR<|Eb rfl (bx 1 rfl) fun v1=>Za rfl<|Zn<|gSR<|Zq (faB 1 rfl rfl Tryz.underlying67 rfl (by exact ti5))<|Zq (ld 1 rfl rfl ((Foc.here).part (z3e _)) ty5 rfl)<|Ef rfl (lit (R:=u8R) ([a0.Kind]:List UInt8) 2 (pP rfl rfl<|pN) rfl tu75 ti5 rfl rfl) fun v2=>Za rfl<|Zn<|z0w<|gSR<|Zq (faB 1 rfl rfl Tryz.underlying67 rfl (by exact ti5))<|Zq (ld 1 rfl rfl ((Foc.here).part (z3e _)) ty5 rfl)<|Zn<|z4q<|gSR<|Zq (B.eql rfl rfl)<|Za rfl<|Zn<|gIf rfl rfl (fun h3=>?_) (fun h3=>?_)
 ·
  refine gKn 11 rfl h3<|gSR<|Zm rfl<|Zq (faB 1 rfl rfl Tryz.underlying67 rfl (by exact ti2))<|Zq (ld 1 rfl rfl ((Foc.here).part (z6r _)) ty2 rfl)<|Zc [] [(100,3)] Tryz.func207 rfl (zh7 _) fun r4 n5=>z0s fun x6 h7=>Ef rfl (apn 2 rfl rfl rfl (.own 3 rfl) h7 tu75 ti5 rfl rfl rfl) fun v8=>Za rfl<|Zn<|z0m<|z4a<|z12<|Ze [v8] [2] rfl
 ·
  refine gKn 11 rfl h3<|gSR<|Zq (B.eql rfl rfl)<|Za rfl<|Zn<|gIf rfl rfl (fun h9=>?_) (fun h9=>?_)
  ·
   refine gKn 18 rfl h9<|z7f (fun (s10:(List UInt8)) aa ww=>∃ nv:Nat→Value,Sta (ctx 39 H [] w) [(3,.val (nv 0))] [(2,some ((nv 0),.list u8R 5 s10))] aa ww) ?_ (fun s10=>?_)
   ·
    refine gSR<|Za rfl<|Zn<|z2h (fun (s11:(List UInt8) × Int) aa ww=>∃ nv:Nat→Value,Sta (ctx 39 H [] w) [(1,.val (z09 v1 0)),(3,.val (nv 0)),(4,.rd z0k s11.2)] [(1,some (v1,.box 67 [.rd z2i a0])),(2,some ((nv 0),.list u8R 5 s11.1))] aa ww) (fun aa ww h=>⟨nvl [v2],Zu h [1,2]⟩) (fun s11=>?_)
    refine gEx fun n12=>z0w<|gSR<|Zm rfl<|Zq (I.geq rfl rfl)<|Zn<|gIf rfl rfl (fun h13=>?_) (fun h13=>?_)
    ·
     refine Zt<|z0w<|z4q<|z1m<|Zm rfl<|Zq (faB 1 rfl rfl Tryz.underlying67 rfl (by exact znl))<|Zq (ld 1 rfl rfl ((Foc.here).part (z42 _)) zmo rfl)<|Zm rfl<|Zq (I.mul rfl rfl)<|z0s fun u14 h15=>Zq (U.shr rfl rfl (z44 h15))<|Zq (U.toB rfl tu41 tu5)<|Ef rfl (lit (R:=u8R) ([(z85 a0.Bits ((w64 (8 * s11.2):Int).toNat)).toUInt8]:List UInt8) 4 (pP rfl rfl<|pN) rfl tu75 ti5 rfl rfl) fun v16=>z0s fun x17 h18=>Ef rfl (apn 2 rfl rfl rfl (.own 4 rfl) h18 tu75 ti5 rfl rfl rfl) fun v19=>Za rfl<|z1f<|z1w<|z0d<|z1m<|Zm rfl<|Zq (I.sub rfl rfl)<|Za rfl<|z1e 4 rfl fun y20=>z1f<|z0r (fun aa ww h=>⟨nvl [v19],Zu h [1,2]⟩)
    ·
     refine z1z<|z13<|z14<|z2x (fun aa ww h=>⟨nvl [(n12 0)],Zu h [2]⟩)
   ·
    refine gEx fun n21=>gSR<|Zm rfl<|Za rfl<|Zn<|z0m<|z4a<|z12<|Ze [(n21 0)] [2] rfl
  ·
   refine gKn 18 rfl h9<|z2l<|z1w<|z0d<|gSR<|Zm rfl<|Zq (faB 1 rfl rfl Tryz.underlying67 rfl (by exact ti9))<|Zq (ld 1 rfl rfl ((Foc.here).part (z3n _)) ty9 rfl)<|z0s fun u22 h23=>zyk rfl rfl h23 tu9 tu75 tu5<|Zc [] [(100,5)] Tryz.func175 rfl (zb8 _) fun r24 n25=>z0s fun x26 h27=>Ef rfl (apn 2 rfl rfl rfl (.own 5 rfl) h27 tu75 ti5 rfl rfl rfl) fun v28=>Za rfl<|Zn<|z0m<|Ze [v28] [2] rfl
def z9l (a0:z0g):Option ((List UInt8)) :=
 z21 a0.Author.toUInt64 >>= fun r3 =>
 app 1 [111] r3 >>= fun x5 =>
 z9f a0.Preds >>= fun r8 =>
 app 1 x5 r8 >>= fun x10 =>
 z21 a0.Stamp >>= fun r13 =>
 app 1 x10 r13 >>= fun x15 =>
 app 1 x15 [a0.Act.Kind] >>= fun x19 =>
 (if a0.Act.Kind != 1 then
  chk (a0.Act.Key.length≤281474976710656) >>= fun u24 =>
  z61 a0.Act.Key >>= fun r26 =>
  app 1 x19 r26 >>= fun x28 =>
  some x28
 else
  some x19) >>= fun s22 =>
 if a0.Act.Kind==4 then
  zai a0.Act.Value >>= fun r33 =>
  app 1 s22 r33 >>= fun x35 =>
  some x35
 else
  some s22
theorem ze0 (a0:z0g):z27 Tryz.prog 139 [.rd z0c a0] [] (z9l a0) (fun r nv=>⟨[.val (nv 0)],[(100,some (nv 0,.list u8R 5 r))]⟩):=by
 refine z2n 47 Tryz.func139 rfl rfl rfl fun H w=>?_
 refine gSR<|Eb rfl (bx 1 rfl) fun v1=>Za rfl<|Zn<|gSR<|Ef rfl (lit (R:=u8R) ([111]:List UInt8) 2 (pP rfl rfl<|pN) rfl tu75 ti5 rfl rfl) fun v2=>Zq (faB 1 rfl rfl Tryz.underlying73 rfl (by exact z3h))<|Zq (ld 1 rfl rfl ((Foc.here).part (z4j _)) z4p rfl)<|Zq (W.toU rfl tu65 tu41)<|Zc [] [(100,3)] Tryz.func140 rfl (z2o _) fun r3 n4=>z0s fun x5 h6=>Ef rfl (apn 2 rfl rfl rfl (.own 3 rfl) h6 tu75 ti5 rfl rfl rfl) fun v7=>Za rfl<|Zn<|z0w<|z5m [2,13,25] mixed rfl rfl<|hTk 0 rfl rfl (mv rfl)<|hTk 1 rfl rfl (faB 1 rfl rfl Tryz.underlying73 rfl (by exact z2d))<|hTk 2 rfl rfl (ld 1 rfl rfl ((Foc.here).part (z1l _)) z8l rfl)<|hTk 5 rfl rfl (faB 1 rfl rfl Tryz.underlying73 rfl (by exact znl))<|hTk 6 rfl rfl (ld 1 rfl rfl ((Foc.here).part (z7x _)) zmo rfl)<|z10 3 [] [(100,13)] rfl (by kernel_rfl) rfl (gd0 rfl) rfl Tryz.func174 rfl rfl (zdt _) (Y1 rfl) rN rfl (fun _ _=>z05) fun r8 n9=>z0o fun x10 h11=>Zo 4 rfl rfl rfl (apn 2 rfl rfl rfl (.own 13 rfl) h11 tu75 ti5 rfl rfl rfl) fun v12=>z10 7 [] [(100,25)] rfl (by kernel_rfl) rfl (gd0 rfl) rfl Tryz.func140 rfl rfl (z2o _) (Y1 rfl) rN rfl (fun _ _=>z05) fun r13 n14=>z0o fun x15 h16=>Zo 8 rfl rfl rfl (apn 2 rfl rfl rfl (.own 25 rfl) h16 tu75 ti5 rfl rfl rfl) fun v17=>Zf 9 rfl rfl z05 (asg rfl)<|z0y (by kernel_rfl)<|z0d<|gSR<|Zm rfl<|Zq (faB 1 rfl rfl Tryz.underlying73 rfl (by exact zor))<|Zq (faB 1 rfl rfl Tryz.underlying69 rfl (by exact ti5))<|Zq (ld 1 rfl rfl (((Foc.here).part (z30 _)).part (z4c _)) ty5 rfl)<|Ef rfl (lit (R:=u8R) ([a0.Act.Kind]:List UInt8) 37 (pP rfl rfl<|pN) rfl tu75 ti5 rfl rfl) fun v18=>z0s fun x19 h20=>Ef rfl (apn 2 rfl rfl rfl (.own 37 rfl) h20 tu75 ti5 rfl rfl rfl) fun v21=>Za rfl<|Zn<|z7f (fun (s22:(List UInt8)) aa ww=>∃ nv:Nat→Value,Sta (ctx 47 H [] w) [(1,.val (z09 v1 0)),(3,.val (nv 0))] [(1,some (v1,.box 73 [.rd z0c a0])),(2,some ((nv 0),.list u8R 5 s22))] aa ww) ?_ (fun s22=>?_)
 ·
  refine gSR<|Zq (faB 1 rfl rfl Tryz.underlying73 rfl (by exact zor))<|Zq (faB 1 rfl rfl Tryz.underlying69 rfl (by exact ti5))<|Zq (ld 1 rfl rfl (((Foc.here).part (z30 _)).part (z4c _)) ty5 rfl)<|Zq (B.neq rfl rfl)<|Zn<|gIf rfl rfl (fun h23=>?_) (fun h23=>?_)
  ·
   refine z1m<|Zm rfl<|Zq (faB 1 rfl rfl Tryz.underlying73 rfl (by exact zor))<|Zq (faB 1 rfl rfl Tryz.underlying69 rfl (by exact ti9))<|Zq (ld 1 rfl rfl (((Foc.here).part (z30 _)).part (z5v _)) ty9 rfl)<|z0s fun u24 h25=>zyk rfl rfl h25 tu9 tu75 tu5<|Zc [] [(100,38)] Tryz.func175 rfl (zb8 _) fun r26 n27=>z0s fun x28 h29=>Ef rfl (apn 2 rfl rfl rfl (.own 38 rfl) h29 tu75 ti5 rfl rfl rfl) fun v30=>Za rfl<|z1f<|z2x (fun aa ww h=>⟨nvl [v30],Zu h [1,2]⟩)
  ·
   refine z2l<|z2x (fun aa ww h=>⟨nvl [v21],Zu h [1,2]⟩)
 ·
  refine gEx fun n31=>z0w<|gSR<|Zq (faB 1 rfl rfl Tryz.underlying73 rfl (by exact zor))<|Zq (faB 1 rfl rfl Tryz.underlying69 rfl (by exact ti5))<|Zq (ld 1 rfl rfl (((Foc.here).part (z30 _)).part (z4c _)) ty5 rfl)<|Zq (B.eql rfl rfl)<|Zn<|gIf rfl rfl (fun h32=>?_) (fun h32=>?_)
  ·
   refine z1m<|Zm rfl<|Zq (faB 1 rfl rfl Tryz.underlying73 rfl (by exact zor))<|Zq (faB 1 rfl rfl Tryz.underlying69 rfl (by exact zkj))<|Zq (ld 1 rfl rfl (((Foc.here).part (z30 _)).part (z5a _)) zr1 rfl)<|Zc [] [(100,39)] Tryz.func177 rfl (zi5 _) fun r33 n34=>z0s fun x35 h36=>Ef rfl (apn 2 rfl rfl rfl (.own 39 rfl) h36 tu75 ti5 rfl rfl rfl) fun v37=>Za rfl<|Zn<|gSR<|Zm rfl<|Za rfl<|Zn<|z0m<|Ze [v37] [2] rfl
  ·
   refine Zt<|gSR<|Zm rfl<|Za rfl<|Zn<|z0m<|Ze [(n31 0)] [2] rfl
def z8o (a0:z0g):Option ((List UInt8)) :=
 z9l a0 >>= fun r2 =>
 z21 a0.Sig.E.toUInt64 >>= fun r4 =>
 app 1 r2 r4 >>= fun x6 =>
 z21 a0.Sig.S.toUInt64 >>= fun r9 =>
 app 1 x6 r9 >>= fun x11 =>
 some x11
theorem zdl (a0:z0g):z27 Tryz.prog 96 [.rd z0c a0] [] (z8o a0) (fun r nv=>⟨[.val (nv 0)],[(100,some (nv 0,.list u8R 5 r))]⟩):=by
 refine z2n 17 Tryz.func96 rfl rfl rfl fun H w=>?_
 refine gSR<|Eb rfl (bx 1 rfl) fun v1=>Za rfl<|Zn<|z0w<|z5m [5,20,38] mixed rfl rfl<|hTk 0 rfl rfl (ld 1 rfl rfl Foc.here zg5 rfl)<|hTk 2 rfl rfl (faB 1 rfl rfl Tryz.underlying73 rfl (by exact zqv))<|hTk 3 rfl rfl (faB 1 rfl rfl Tryz.underlying71 rfl (by exact z3h))<|hTk 4 rfl rfl (ld 1 rfl rfl (((Foc.here).part (z3o _)).part (z5u _)) z4p rfl)<|hTk 5 rfl rfl (W.toU rfl tu65 tu41)<|hTk 8 rfl rfl (faB 1 rfl rfl Tryz.underlying73 rfl (by exact zqv))<|hTk 9 rfl rfl (faB 1 rfl rfl Tryz.underlying71 rfl (by exact z3h))<|hTk 10 rfl rfl (ld 1 rfl rfl (((Foc.here).part (z3o _)).part (z88 _)) z4p rfl)<|hTk 11 rfl rfl (W.toU rfl tu65 tu41)<|z10 1 [] [(100,5)] rfl (by kernel_rfl) rfl (gd0 rfl) rfl Tryz.func139 rfl rfl (ze0 _) (Y1 rfl) rN rfl (fun _ _=>z05) fun r2 n3=>z10 6 [] [(100,20)] rfl (by kernel_rfl) rfl (gd0 rfl) rfl Tryz.func140 rfl rfl (z2o _) (Y1 rfl) rN rfl (fun _ _=>z05) fun r4 n5=>z0o fun x6 h7=>Zo 7 rfl rfl rfl (apn 5 rfl rfl rfl (.own 20 rfl) h7 tu75 ti5 rfl rfl rfl) fun v8=>z10 12 [] [(100,38)] rfl (by kernel_rfl) rfl (gd0 rfl) rfl Tryz.func140 rfl rfl (z2o _) (Y1 rfl) rN rfl (fun _ _=>z05) fun r9 n10=>z0o fun x11 h12=>Zo 13 rfl rfl rfl (apn 5 rfl rfl rfl (.own 38 rfl) h12 tu75 ti5 rfl rfl rfl) fun v13=>Zf 14 rfl rfl z05 (asg rfl)<|z0y (by kernel_rfl)<|z0d<|z0m<|Ze [v13] [5] rfl
def zcn  : Option ((Vector UInt32 8)) :=
 some (#v[1779033703,3144134277,1013904242,2773480762,1359893119,2600822924,528734635,1541459225]:Vector UInt32 8)
theorem zih  : z27 Tryz.prog 137 [] [] (zcn) (fun r nv=>⟨[.rd (z06 8 z1c) r],[]⟩):=by
 refine z2n 2 Tryz.func137 rfl rfl rfl fun H w=>?_
 refine gSR<|Eb rfl (z7s 1 zhb (.zr (R:=(z06 8 z1c)) (x:=(Vector.replicate 8 0)) zou)) fun v1=>Zn<|gSR<|Zq (litA (R:=z1c) [1779033703,3144134277,1013904242,2773480762,1359893119,2600822924,528734635,1541459225] (#v[1779033703,3144134277,1013904242,2773480762,1359893119,2600822924,528734635,1541459225]:Vector UInt32 8) (pP rfl rfl<|pP rfl rfl<|pP rfl rfl<|pP rfl rfl<|pP rfl rfl<|pP rfl rfl<|pP rfl rfl<|pP rfl rfl<|pN) rfl tu164 zhb rfl z3h)<|Es (sto 1 rfl rfl Foc.here rfl zhb)<|Zn<|z0m<|zge [] [] rfl (eC 1 rfl rfl zp1<|eN) (rN)
def z7e (a0:Int) (s3:(List UInt8)):Option (Sum ((List UInt8)) ((List UInt8))) :=
 if (Int.tmod (w64 ((w64 (a0+(s3.length:Int)))+8)) 64) != 0 then
  app 1 s3 [0] >>= fun x7 =>
  some (.inr x7)
 else
  some (.inl s3)
def z6t (a0:Int) (s12:(List UInt8) × Int):Option (Sum ((List UInt8)) ((List UInt8) × Int)) :=
 if decide (0≤s12.2) then
  chk (0≤w64 (8 * s12.2)) >>= fun u15 =>
  app 1 s12.1 [(z85 (8 * (UInt64.ofInt a0)) ((w64 (8 * s12.2):Int).toNat)).toUInt8] >>= fun x18 =>
  some (w64 (s12.2 - 1)) >>= fun y21 =>
  some (.inr (x18,y21))
 else
  some (.inl s12.1)
def zbh (a0:Int):Option ((List UInt8)) :=
 (iter (z7e a0) [128]) >>= fun s2 =>
 (iter (z6t a0) (s2,7)) >>= fun s11 =>
 some s11
theorem zio (a0:Int):z27 Tryz.prog 138 [.rd z0k a0] [] (zbh a0) (fun r nv=>⟨[.val (nv 0)],[(100,some (nv 0,.list u8R 5 r))]⟩):=by
 refine z2n 31 Tryz.func138 rfl rfl rfl fun H w=>?_
 refine gSR<|Za rfl<|Zn<|gSR<|Ef rfl (lit (R:=u8R) ([128]:List UInt8) 1 (pP rfl rfl<|pN) rfl tu75 ti5 rfl rfl) fun v1=>Za rfl<|Zn<|z7f (fun (s2:(List UInt8)) aa ww=>∃ nv:Nat→Value,Sta (ctx 31 H [] w) [(0,.rd z0k a0),(3,.val (nv 0))] [(1,some ((nv 0),.list u8R 5 s2))] aa ww) ?_ (fun s2=>?_)
 ·
  refine z2h (fun (s3:(List UInt8)) aa ww=>∃ nv:Nat→Value,Sta (ctx 31 H [] w) [(0,.rd z0k a0),(3,.val (nv 0))] [(1,some ((nv 0),.list u8R 5 s3))] aa ww) (fun aa ww h=>⟨nvl [v1],Zu h [1]⟩) (fun s3=>?_)
  refine gEx fun n4=>z0w<|gSR<|Zm rfl<|Zm rfl<|Zq (z37 rfl (.own 1 rfl) rfl tu75)<|Zq (I.add rfl rfl)<|Zq (I.add rfl rfl)<|Zq (I.rem rfl rfl (by decide))<|Zq (I.neq rfl rfl)<|Zn<|gIf rfl rfl (fun h5=>?_) (fun h5=>?_)
  ·
   refine Zt<|z4q<|z1m<|Zm rfl<|Ef rfl (lit (R:=u8R) ([0]:List UInt8) 2 (pP rfl rfl<|pN) rfl tu75 ti5 rfl rfl) fun v6=>z0s fun x7 h8=>Ef rfl (apn 1 rfl rfl rfl (.own 2 rfl) h8 tu75 ti5 rfl rfl rfl) fun v9=>Za rfl<|z1f<|z1w<|z0r (fun aa ww h=>⟨nvl [v9],Zu h [1]⟩)
  ·
   refine z1z<|z13<|z14<|z2x (fun aa ww h=>⟨nvl [(n4 0)],Zu h [1]⟩)
 ·
  refine gEx fun n10=>z7f (fun (s11:(List UInt8)) aa ww=>∃ nv:Nat→Value,Sta (ctx 31 H [] w) [(3,.val (nv 0))] [(1,some ((nv 0),.list u8R 5 s11))] aa ww) ?_ (fun s11=>?_)
  ·
   refine gSR<|Za rfl<|Zn<|z2h (fun (s12:(List UInt8) × Int) aa ww=>∃ nv:Nat→Value,Sta (ctx 31 H [] w) [(0,.rd z0k a0),(3,.val (nv 0)),(4,.rd z0k s12.2)] [(1,some ((nv 0),.list u8R 5 s12.1))] aa ww) (fun aa ww h=>⟨nvl [(n10 0)],Zu h [1]⟩) (fun s12=>?_)
   refine gEx fun n13=>z0w<|gSR<|Zm rfl<|Zq (I.geq rfl rfl)<|Zn<|gIf rfl rfl (fun h14=>?_) (fun h14=>?_)
   ·
    refine Zt<|z0w<|z4q<|z1m<|Zm rfl<|Zm rfl<|Zq (I.toU rfl tu3 tu41)<|Zq (U.mul rfl rfl)<|Zm rfl<|Zq (I.mul rfl rfl)<|z0s fun u15 h16=>Zq (U.shr rfl rfl (z44 h16))<|Zq (U.toB rfl tu41 tu5)<|Ef rfl (lit (R:=u8R) ([(z85 (8 * (UInt64.ofInt a0)) ((w64 (8 * s12.2):Int).toNat)).toUInt8]:List UInt8) 3 (pP rfl rfl<|pN) rfl tu75 ti5 rfl rfl) fun v17=>z0s fun x18 h19=>Ef rfl (apn 1 rfl rfl rfl (.own 3 rfl) h19 tu75 ti5 rfl rfl rfl) fun v20=>Za rfl<|z1f<|z1w<|z0d<|z1m<|Zm rfl<|Zq (I.sub rfl rfl)<|Za rfl<|z1e 4 rfl fun y21=>z1f<|z0r (fun aa ww h=>⟨nvl [v20],Zu h [1]⟩)
   ·
    refine z1z<|z13<|z14<|z2x (fun aa ww h=>⟨nvl [(n13 0)],Zu h [1]⟩)
  ·
   refine gEx fun n22=>gSR<|Zm rfl<|Za rfl<|Zn<|z0m<|Ze [(n22 0)] [1] rfl
def z33 (a0:UInt32) (a1:Int):Option (UInt32) :=
 chk (0≤a1) >>= fun u1 =>
 chk (0≤w64 (32 - a1)) >>= fun u3 =>
 some ((z2e a0 ((a1:Int).toNat)) ||| (zon a0 ((w64 (32 - a1):Int).toNat))) >>= fun y5 =>
 some y5
theorem z04 (a0:UInt32) (a1:Int):z27 Tryz.prog 205 [.rd z1c a0,.rd z0k a1] [] (z33 a0 a1) (fun r nv=>⟨[.rd z1c r],[]⟩):=by
 refine z2n 13 Tryz.func205 rfl rfl rfl fun H w=>?_
 refine gSR<|Za rfl<|Zn<|z0w<|zdn mixed (by kernel_rfl)<|Rq rfl (mv rfl)<|Rq rfl (mv rfl)<|z6a fun u1 h2=>Rq rfl (W.shr rfl rfl (z44 h2))<|Rq rfl (mv rfl)<|Rq rfl (mv rfl)<|Rq rfl (I.sub rfl rfl)<|z6a fun u3 h4=>Rq rfl (W.shl rfl rfl (z44 h4))<|Rq rfl (W.or rfl rfl)<|Rq rfl (asg rfl)<|z12h 4 rfl fun y5=>zl6<|z0d<|z0m<|Ze [] [] rfl
def zaa  : Option ((List UInt32)) :=
 some [1116352408,1899447441,3049323471,3921009573,961987163,1508970993,2453635748,2870763221,3624381080,310598401,607225278,1426881987,1925078388,2162078206,2614888103,3248222580,3835390401,4022224774,264347078,604807628,770255983,1249150122,1555081692,1996064986,2554220882,2821834349,2952996808,3210313671,3336571891,3584528711,113926993,338241895,666307205,773529912,1294757372,1396182291,1695183700,1986661051,2177026350,2456956037,2730485921,2820302411,3259730800,3345764771,3516065817,3600352804,4094571909,275423344,430227734,506948616,659060556,883997877,958139571,1322822218,1537002063,1747873779,1955562222,2024104815,2227730452,2361852424,2428436474,2756734187,3204031479,3329325298]
theorem zf4  : z27 Tryz.prog 206 [] [] (zaa) (fun r nv=>⟨[.val (nv 0)],[(100,some (nv 0,.list z1c 65 r))]⟩):=by
 refine z2n 2 Tryz.func206 rfl rfl rfl fun H w=>?_
 refine gSR<|Za rfl<|Zn<|gSR<|Ef rfl (lit (R:=z1c) ([1116352408,1899447441,3049323471,3921009573,961987163,1508970993,2453635748,2870763221,3624381080,310598401,607225278,1426881987,1925078388,2162078206,2614888103,3248222580,3835390401,4022224774,264347078,604807628,770255983,1249150122,1555081692,1996064986,2554220882,2821834349,2952996808,3210313671,3336571891,3584528711,113926993,338241895,666307205,773529912,1294757372,1396182291,1695183700,1986661051,2177026350,2456956037,2730485921,2820302411,3259730800,3345764771,3516065817,3600352804,4094571909,275423344,430227734,506948616,659060556,883997877,958139571,1322822218,1537002063,1747873779,1955562222,2024104815,2227730452,2361852424,2428436474,2756734187,3204031479,3329325298]:List UInt32) 1 (pP rfl rfl<|pP rfl rfl<|pP rfl rfl<|pP rfl rfl<|pP rfl rfl<|pP rfl rfl<|pP rfl rfl<|pP rfl rfl<|pP rfl rfl<|pP rfl rfl<|pP rfl rfl<|pP rfl rfl<|pP rfl rfl<|pP rfl rfl<|pP rfl rfl<|pP rfl rfl<|pP rfl rfl<|pP rfl rfl<|pP rfl rfl<|pP rfl rfl<|pP rfl rfl<|pP rfl rfl<|pP rfl rfl<|pP rfl rfl<|pP rfl rfl<|pP rfl rfl<|pP rfl rfl<|pP rfl rfl<|pP rfl rfl<|pP rfl rfl<|pP rfl rfl<|pP rfl rfl<|pP rfl rfl<|pP rfl rfl<|pP rfl rfl<|pP rfl rfl<|pP rfl rfl<|pP rfl rfl<|pP rfl rfl<|pP rfl rfl<|pP rfl rfl<|pP rfl rfl<|pP rfl rfl<|pP rfl rfl<|pP rfl rfl<|pP rfl rfl<|pP rfl rfl<|pP rfl rfl<|pP rfl rfl<|pP rfl rfl<|pP rfl rfl<|pP rfl rfl<|pP rfl rfl<|pP rfl rfl<|pP rfl rfl<|pP rfl rfl<|pP rfl rfl<|pP rfl rfl<|pP rfl rfl<|pP rfl rfl<|pP rfl rfl<|pP rfl rfl<|pP rfl rfl<|pP rfl rfl<|pN) rfl tu217 z3h rfl rfl) fun v1=>Za rfl<|Zn<|z0m<|Ze [v1] [1] rfl
def z5f (a1:List UInt8) (s4:(List UInt32) × Int):Option (Sum ((List UInt32)) ((List UInt32) × Int)) :=
 if decide (s4.2<16) then
  idx a1 (w64 (4 * s4.2)) >>= fun x7 =>
  idx a1 (w64 ((w64 (4 * s4.2))+1)) >>= fun x9 =>
  idx a1 (w64 ((w64 (4 * s4.2))+2)) >>= fun x11 =>
  idx a1 (w64 ((w64 (4 * s4.2))+3)) >>= fun x13 =>
  app 4 s4.1 [(((((x7.toUInt32 * 256)+x9.toUInt32) * 256)+x11.toUInt32) * 256)+x13.toUInt32] >>= fun x16 =>
  some (w64 (s4.2+1)) >>= fun y19 =>
  some (.inr (x16,y19))
 else
  some (.inl s4.1)
def z5h (s22:(List UInt32) × Int):Option (Sum ((List UInt32)) ((List UInt32) × Int)) :=
 if decide (s22.2<64) then
  idx s22.1 (w64 (s22.2 - 15)) >>= fun x25 =>
  idx s22.1 (w64 (s22.2 - 2)) >>= fun x27 =>
  idx s22.1 (w64 (s22.2 - 16)) >>= fun x29 =>
  idx s22.1 (w64 (s22.2 - 7)) >>= fun x31 =>
  z33 x25 7 >>= fun r33 =>
  z33 x25 18 >>= fun r35 =>
  z33 x27 17 >>= fun r37 =>
  z33 x27 19 >>= fun r39 =>
  app 4 s22.1 [((x29+x31)+((r33 ^^^ r35) ^^^ (z2e x25 3)))+((r37 ^^^ r39) ^^^ (z2e x27 10))] >>= fun x42 =>
  some (w64 (s22.2+1)) >>= fun y45 =>
  some (.inr (x42,y45))
 else
  some (.inl s22.1)
def z3p (s21:(List UInt32)) (r312:(List UInt32)) (s316:(Vector UInt32 8) × Int):Option (Sum ((Vector UInt32 8)) ((Vector UInt32 8) × Int)) :=
 if decide (s316.2<64) then
  z86 s316.1 0 >>= fun x318 =>
  z86 s316.1 1 >>= fun x320 =>
  z86 s316.1 2 >>= fun x322 =>
  z86 s316.1 4 >>= fun x324 =>
  z86 s316.1 5 >>= fun x326 =>
  z86 s316.1 6 >>= fun x328 =>
  z86 s316.1 7 >>= fun x330 =>
  idx r312 s316.2 >>= fun x332 =>
  idx s21 s316.2 >>= fun x334 =>
  z33 x324 6 >>= fun r336 =>
  z33 x324 11 >>= fun r338 =>
  z33 x324 25 >>= fun r340 =>
  some ((((x330+((r336 ^^^ r338) ^^^ r340))+((x324 &&& x326) ^^^ ((~~~x324) &&& x328)))+x332)+x334) >>= fun y342 =>
  z33 x318 2 >>= fun r343 =>
  z33 x318 13 >>= fun r345 =>
  z33 x318 22 >>= fun r347 =>
  some (((r343 ^^^ r345) ^^^ r347)+(((x318 &&& x320) ^^^ (x318 &&& x322)) ^^^ (x320 &&& x322))) >>= fun y349 =>
  z86 s316.1 3 >>= fun x350 =>
  some (w64 (s316.2+1)) >>= fun y352 =>
  some (.inr ((#v[y342+y349,x318,x320,x322,x350+y342,x324,x326,x328]:Vector UInt32 8),y352))
 else
  some (.inl s316.1)
def z3f (s315:(Vector UInt32 8)) (s354:(Vector UInt32 8) × Int):Option (Sum ((Vector UInt32 8)) ((Vector UInt32 8) × Int)) :=
 if decide (s354.2<8) then
  z86 s354.1 s354.2 >>= fun x356 =>
  z86 s315 s354.2 >>= fun x358 =>
  z86 s354.1 s354.2 >>= fun x360 =>
  some (w64 (s354.2+1)) >>= fun y362 =>
  some (.inr (zjn s354.1 s354.2 (x356+x358),y362))
 else
  some (.inl s354.1)
def z9p (a0:Vector UInt32 8) (a1:List UInt8):Option ((Vector UInt32 8)) :=
 (iter (z5f a1) ([],0)) >>= fun s3 =>
 (iter (z5h) (s3,16)) >>= fun s21 =>
 zaa >>= fun r312 =>
 (iter (z3p s21 r312) (a0,0)) >>= fun s315 =>
 (iter (z3f s315) (a0,0)) >>= fun s353 =>
 some s353
end
section
open Go Go.RowKit
set_option maxRecDepth 100000
theorem zhg (a0:Vector UInt32 8) (a1:List UInt8):z27 Tryz.prog 176 [.rd (z06 8 z1c) a0,.rd (z02 u8R) a1] [] (z9p a0 a1) (fun r nv=>⟨[.rd (z06 8 z1c) r],[]⟩):=by
 refine z2n 203 Tryz.func176 rfl rfl rfl fun H w=>?_
 refine gSR<|Eb rfl (bx 1 rfl) fun v1=>Eb rfl (z7s 2 zhb (.zr (R:=(z06 8 z1c)) (x:=(Vector.replicate 8 0)) zou)) fun v2=>Zn<|gSR<|Za rfl<|Zn<|z7f (fun (s3:(List UInt32)) aa ww=>∃ nv:Nat→Value,Sta (ctx 203 H [] w) [(2,.val (z09 v1 0)),(4,.val (z09 v2 0)),(5,.val (nv 0))] [(1,some (v1,.box 164 [.rd (z06 8 z1c) a0])),(2,some (v2,.box 164 [.rd (z06 8 z1c) (Vector.replicate 8 0)])),(108,some ((nv 0),.list z1c 65 s3))] aa ww) ?_ (fun s3=>?_)
 ·
  refine gSR<|Za rfl<|Zn<|zrq z1c 65 215<|z2h (fun (s4:(List UInt32) × Int) aa ww=>∃ nv:Nat→Value,Sta (ctx 203 H [] w) [(1,.rd (z02 u8R) a1),(2,.val (z09 v1 0)),(4,.val (z09 v2 0)),(5,.val (nv 0)),(6,.rd z0k s4.2)] [(1,some (v1,.box 164 [.rd (z06 8 z1c) a0])),(2,some (v2,.box 164 [.rd (z06 8 z1c) (Vector.replicate 8 0)])),(214,some ((nv 0),.list z1c 65 s4.1))] aa ww) (fun aa ww h=>⟨nvl [(.slice none 0 0)],Zu h [1,2,215]⟩) (fun s4=>?_)
  refine gEx fun n5=>z0w<|gSR<|Zm rfl<|Zq (I.lss rfl rfl)<|Zn<|gIf rfl rfl (fun h6=>?_) (fun h6=>?_)
  ·
   refine Zt<|z0w<|z4q<|z5m [214,318] mixed rfl rfl<|hTk 0 rfl rfl (mv rfl)<|hTk 1 rfl rfl (mv rfl)<|hTk 2 rfl rfl (mv rfl)<|hTk 3 rfl rfl (I.mul rfl rfl)<|z0o fun x7 h8=>hTk 4 rfl rfl (ixR rfl rfl h8 tu75 ti5 rfl)<|hTk 5 rfl rfl (ldR rfl ty5)<|hTk 6 rfl rfl (B.toW rfl tu5 tu65)<|hTk 7 rfl rfl (W.mul rfl rfl)<|hTk 8 rfl rfl (mv rfl)<|hTk 9 rfl rfl (mv rfl)<|hTk 10 rfl rfl (I.mul rfl rfl)<|hTk 11 rfl rfl (I.add rfl rfl)<|z0o fun x9 h10=>hTk 12 rfl rfl (ixR rfl rfl h10 tu75 ti5 rfl)<|hTk 13 rfl rfl (ldR rfl ty5)<|hTk 14 rfl rfl (B.toW rfl tu5 tu65)<|hTk 15 rfl rfl (W.add rfl rfl)<|hTk 16 rfl rfl (W.mul rfl rfl)<|hTk 17 rfl rfl (mv rfl)<|hTk 18 rfl rfl (mv rfl)<|hTk 19 rfl rfl (I.mul rfl rfl)<|hTk 20 rfl rfl (I.add rfl rfl)<|z0o fun x11 h12=>hTk 21 rfl rfl (ixR rfl rfl h12 tu75 ti5 rfl)<|hTk 22 rfl rfl (ldR rfl ty5)<|hTk 23 rfl rfl (B.toW rfl tu5 tu65)<|hTk 24 rfl rfl (W.add rfl rfl)<|hTk 25 rfl rfl (W.mul rfl rfl)<|hTk 26 rfl rfl (mv rfl)<|hTk 27 rfl rfl (mv rfl)<|hTk 28 rfl rfl (I.mul rfl rfl)<|hTk 29 rfl rfl (I.add rfl rfl)<|z0o fun x13 h14=>hTk 30 rfl rfl (ixR rfl rfl h14 tu75 ti5 rfl)<|hTk 31 rfl rfl (ldR rfl ty5)<|hTk 32 rfl rfl (B.toW rfl tu5 tu65)<|hTk 33 rfl rfl (W.add rfl rfl)<|Zo 34 rfl rfl rfl (lit (R:=z1c) ([(((((x7.toUInt32 * 256)+x9.toUInt32) * 256)+x11.toUInt32) * 256)+x13.toUInt32]:List UInt32) 318 (pP rfl rfl<|pN) rfl tu217 z3h rfl rfl) fun v15=>z0o fun x16 h17=>Zo 35 rfl rfl rfl (apn 214 rfl rfl rfl (.own 318 rfl) h17 tu217 z3h rfl rfl rfl) fun v18=>Zf 36 rfl rfl z05 (asg rfl)<|z0y (by kernel_rfl)<|z1w<|z0d<|z1m<|Zm rfl<|Zq (I.add rfl rfl)<|Za rfl<|z1e 6 rfl fun y19=>z1f<|z0r (fun aa ww h=>⟨nvl [v18],Zu h [1,2,214]⟩)
  ·
   refine z1z<|z13<|z14<|z2x (fun aa ww h=>⟨nvl [(n5 0)],Zu h [1,2,214]⟩)
 ·
  refine gEx fun n20=>z7f (fun (s21:(List UInt32)) aa ww=>∃ nv:Nat→Value,Sta (ctx 203 H [] w) [(2,.val (z09 v1 0)),(4,.val (z09 v2 0)),(5,.val (nv 0))] [(1,some (v1,.box 164 [.rd (z06 8 z1c) a0])),(2,some (v2,.box 164 [.rd (z06 8 z1c) (Vector.replicate 8 0)])),(108,some ((nv 0),.list z1c 65 s21))] aa ww) ?_ (fun s21=>?_)
  ·
   refine gSR<|Za rfl<|Zn<|z2h (fun (s22:(List UInt32) × Int) aa ww=>∃ nv:Nat→Value,Sta (ctx 203 H [] w) [(2,.val (z09 v1 0)),(4,.val (z09 v2 0)),(5,.val (nv 0)),(7,.rd z0k s22.2)] [(1,some (v1,.box 164 [.rd (z06 8 z1c) a0])),(2,some (v2,.box 164 [.rd (z06 8 z1c) (Vector.replicate 8 0)])),(108,some ((nv 0),.list z1c 65 s22.1))] aa ww) (fun aa ww h=>⟨nvl [(n20 0)],Zu h [1,2,108]⟩) (fun s22=>?_)
   refine gEx fun n23=>z0w<|gSR<|Zm rfl<|Zq (I.lss rfl rfl)<|Zn<|gIf rfl rfl (fun h24=>?_) (fun h24=>?_)
   ·
    refine Zt<|z0w<|z4q<|z0w<|zdn mixed (by kernel_rfl)<|Rq rfl (mv rfl)<|Rq rfl (mv rfl)<|Rq rfl (I.sub rfl rfl)<|z6a fun x25 h26=>Rq rfl (ixO 108 rfl rfl rfl h26 tu217 z3h)<|Rq rfl (ld 108 rfl rfl (Foc.el h26) z4p rfl)<|Rq rfl (mv rfl)<|Rq rfl (mv rfl)<|Rq rfl (I.sub rfl rfl)<|z6a fun x27 h28=>Rq rfl (ixO 108 rfl rfl rfl h28 tu217 z3h)<|Rq rfl (ld 108 rfl rfl (Foc.el h28) z4p rfl)<|Rq rfl (asg rfl)<|Rq rfl (asg rfl)<|zl6<|z0d<|z5m [108,420] mixed rfl rfl<|hTk 0 rfl rfl (mv rfl)<|hTk 1 rfl rfl (mv rfl)<|hTk 2 rfl rfl (mv rfl)<|hTk 3 rfl rfl (I.sub rfl rfl)<|z0o fun x29 h30=>hTk 4 rfl rfl (ixO 108 rfl rfl rfl h30 tu217 z3h)<|hTk 6 rfl rfl (mv rfl)<|hTk 7 rfl rfl (mv rfl)<|hTk 8 rfl rfl (I.sub rfl rfl)<|z0o fun x31 h32=>hTk 9 rfl rfl (ixO 108 rfl rfl rfl h32 tu217 z3h)<|hTk 12 rfl rfl (mv rfl)<|hTk 14 rfl rfl (mv rfl)<|hTk 17 rfl rfl (mv rfl)<|hTk 18 rfl rfl (W.shr rfl rfl (Int.natCast_nonneg _))<|hTk 21 rfl rfl (mv rfl)<|hTk 23 rfl rfl (mv rfl)<|hTk 26 rfl rfl (mv rfl)<|hTk 27 rfl rfl (W.shr rfl rfl (Int.natCast_nonneg _))<|z6o [5,10,13] (by kernel_rfl) rfl ⟨?_,?_,?_,trivial⟩
    ·
     refine zaz 5 rfl (gd0 rfl) rfl rfl z07 (ld 108 rfl rfl (Foc.el h30) z4p rfl)<|z6o [10,13] (by kernel_rfl) rfl ⟨?_,?_,trivial⟩
     ·
      refine zaz 10 rfl (gd0 rfl) rfl rfl z07 (ld 108 rfl rfl (Foc.el h32) z4p rfl)<|hTk 11 rfl rfl (W.add rfl rfl)<|z10 13 [] [] rfl (by kernel_rfl) rfl (gd0 rfl) rfl Tryz.func205 rfl rfl (z04 _ _) (Y2 rfl rfl) rN rfl (fun _ _=>z07) fun r33 n34=>z10 15 [] [] rfl (by kernel_rfl) rfl (gd0 rfl) rfl Tryz.func205 rfl rfl (z04 _ _) (Y2 rfl rfl) rN rfl (fun _ _=>z07) fun r35 n36=>hTk 16 rfl rfl (W.xor rfl rfl)<|hTk 19 rfl rfl (W.xor rfl rfl)<|hTk 20 rfl rfl (W.add rfl rfl)<|z10 22 [] [] rfl (by kernel_rfl) rfl (gd0 rfl) rfl Tryz.func205 rfl rfl (z04 _ _) (Y2 rfl rfl) rN rfl (fun _ _=>z07) fun r37 n38=>z10 24 [] [] rfl (by kernel_rfl) rfl (gd0 rfl) rfl Tryz.func205 rfl rfl (z04 _ _) (Y2 rfl rfl) rN rfl (fun _ _=>z07) fun r39 n40=>hTk 25 rfl rfl (W.xor rfl rfl)<|hTk 28 rfl rfl (W.xor rfl rfl)<|hTk 29 rfl rfl (W.add rfl rfl)<|Zo 30 rfl rfl rfl (lit (R:=z1c) ([((x29+x31)+((r33 ^^^ r35) ^^^ (z2e x25 3)))+((r37 ^^^ r39) ^^^ (z2e x27 10))]:List UInt32) 420 (pP rfl rfl<|pN) rfl tu217 z3h rfl rfl) fun v41=>z0o fun x42 h43=>Zo 31 rfl rfl rfl (apn 108 rfl rfl rfl (.own 420 rfl) h43 tu217 z3h rfl rfl rfl) fun v44=>Zf 32 rfl rfl z05 (asg rfl)<|z0y (by kernel_rfl)<|z1w<|z0d<|z1m<|Zm rfl<|Zq (I.add rfl rfl)<|Za rfl<|z1e 7 rfl fun y45=>z1f<|z0r (fun aa ww h=>⟨nvl [v44],Zu h [1,2,108]⟩)
     ·
      refine z4z 13 [] [] rfl rfl (gd0 rfl) rfl Tryz.func205 rfl rfl (z04 _ _) (Y2 rfl rfl) rN rfl (fun _ _=>z07) fun r46 n47=>z6o [10,15] (by kernel_rfl) rfl ⟨?_,?_,trivial⟩
      ·
       refine zaz 10 rfl (gd0 rfl) rfl rfl z07 (ld 108 rfl rfl (Foc.el h32) z4p rfl)<|hTk 11 rfl rfl (W.add rfl rfl)<|z10 15 [] [] rfl (by kernel_rfl) rfl (gd0 rfl) rfl Tryz.func205 rfl rfl (z04 _ _) (Y2 rfl rfl) rN rfl (fun _ _=>z07) fun r48 n49=>hTk 16 rfl rfl (W.xor rfl rfl)<|hTk 19 rfl rfl (W.xor rfl rfl)<|hTk 20 rfl rfl (W.add rfl rfl)<|z10 22 [] [] rfl (by kernel_rfl) rfl (gd0 rfl) rfl Tryz.func205 rfl rfl (z04 _ _) (Y2 rfl rfl) rN rfl (fun _ _=>z07) fun r50 n51=>z10 24 [] [] rfl (by kernel_rfl) rfl (gd0 rfl) rfl Tryz.func205 rfl rfl (z04 _ _) (Y2 rfl rfl) rN rfl (fun _ _=>z07) fun r52 n53=>hTk 25 rfl rfl (W.xor rfl rfl)<|hTk 28 rfl rfl (W.xor rfl rfl)<|hTk 29 rfl rfl (W.add rfl rfl)<|Zo 30 rfl rfl rfl (lit (R:=z1c) ([((x29+x31)+((r46 ^^^ r48) ^^^ (z2e x25 3)))+((r50 ^^^ r52) ^^^ (z2e x27 10))]:List UInt32) 420 (pP rfl rfl<|pN) rfl tu217 z3h rfl rfl) fun v54=>z0o fun x55 h56=>Zo 31 rfl rfl rfl (apn 108 rfl rfl rfl (.own 420 rfl) h56 tu217 z3h rfl rfl rfl) fun v57=>Zf 32 rfl rfl z05 (asg rfl)<|z0y (by kernel_rfl)<|z1w<|z0d<|z1m<|Zm rfl<|Zq (I.add rfl rfl)<|Za rfl<|z1e 7 rfl fun y58=>z1f<|z0r (fun aa ww h=>⟨nvl [v57],Zu h [1,2,108]⟩)
      ·
       refine z4z 15 [] [] rfl rfl (gd0 rfl) rfl Tryz.func205 rfl rfl (z04 _ _) (Y2 rfl rfl) rN rfl (fun _ _=>z07) fun r59 n60=>hTk 16 rfl rfl (W.xor rfl rfl)<|hTk 19 rfl rfl (W.xor rfl rfl)<|z6o [10,22] (by kernel_rfl) rfl ⟨?_,?_,trivial⟩
       ·
        refine zaz 10 rfl (gd0 rfl) rfl rfl z07 (ld 108 rfl rfl (Foc.el h32) z4p rfl)<|hTk 11 rfl rfl (W.add rfl rfl)<|hTk 20 rfl rfl (W.add rfl rfl)<|z10 22 [] [] rfl (by kernel_rfl) rfl (gd0 rfl) rfl Tryz.func205 rfl rfl (z04 _ _) (Y2 rfl rfl) rN rfl (fun _ _=>z07) fun r61 n62=>z10 24 [] [] rfl (by kernel_rfl) rfl (gd0 rfl) rfl Tryz.func205 rfl rfl (z04 _ _) (Y2 rfl rfl) rN rfl (fun _ _=>z07) fun r63 n64=>hTk 25 rfl rfl (W.xor rfl rfl)<|hTk 28 rfl rfl (W.xor rfl rfl)<|hTk 29 rfl rfl (W.add rfl rfl)<|Zo 30 rfl rfl rfl (lit (R:=z1c) ([((x29+x31)+((r46 ^^^ r59) ^^^ (z2e x25 3)))+((r61 ^^^ r63) ^^^ (z2e x27 10))]:List UInt32) 420 (pP rfl rfl<|pN) rfl tu217 z3h rfl rfl) fun v65=>z0o fun x66 h67=>Zo 31 rfl rfl rfl (apn 108 rfl rfl rfl (.own 420 rfl) h67 tu217 z3h rfl rfl rfl) fun v68=>Zf 32 rfl rfl z05 (asg rfl)<|z0y (by kernel_rfl)<|z1w<|z0d<|z1m<|Zm rfl<|Zq (I.add rfl rfl)<|Za rfl<|z1e 7 rfl fun y69=>z1f<|z0r (fun aa ww h=>⟨nvl [v68],Zu h [1,2,108]⟩)
       ·
        refine z4z 22 [] [] rfl rfl (gd0 rfl) rfl Tryz.func205 rfl rfl (z04 _ _) (Y2 rfl rfl) rN rfl (fun _ _=>z07) fun r70 n71=>z6o [10,24] (by kernel_rfl) rfl ⟨?_,?_,trivial⟩
        ·
         refine zaz 10 rfl (gd0 rfl) rfl rfl z07 (ld 108 rfl rfl (Foc.el h32) z4p rfl)<|hTk 11 rfl rfl (W.add rfl rfl)<|hTk 20 rfl rfl (W.add rfl rfl)<|z10 24 [] [] rfl (by kernel_rfl) rfl (gd0 rfl) rfl Tryz.func205 rfl rfl (z04 _ _) (Y2 rfl rfl) rN rfl (fun _ _=>z07) fun r72 n73=>hTk 25 rfl rfl (W.xor rfl rfl)<|hTk 28 rfl rfl (W.xor rfl rfl)<|hTk 29 rfl rfl (W.add rfl rfl)<|Zo 30 rfl rfl rfl (lit (R:=z1c) ([((x29+x31)+((r46 ^^^ r59) ^^^ (z2e x25 3)))+((r70 ^^^ r72) ^^^ (z2e x27 10))]:List UInt32) 420 (pP rfl rfl<|pN) rfl tu217 z3h rfl rfl) fun v74=>z0o fun x75 h76=>Zo 31 rfl rfl rfl (apn 108 rfl rfl rfl (.own 420 rfl) h76 tu217 z3h rfl rfl rfl) fun v77=>Zf 32 rfl rfl z05 (asg rfl)<|z0y (by kernel_rfl)<|z1w<|z0d<|z1m<|Zm rfl<|Zq (I.add rfl rfl)<|Za rfl<|z1e 7 rfl fun y78=>z1f<|z0r (fun aa ww h=>⟨nvl [v77],Zu h [1,2,108]⟩)
        ·
         refine z4z 24 [] [] rfl rfl (gd0 rfl) rfl Tryz.func205 rfl rfl (z04 _ _) (Y2 rfl rfl) rN rfl (fun _ _=>z07) fun r79 n80=>hTk 25 rfl rfl (W.xor rfl rfl)<|hTk 28 rfl rfl (W.xor rfl rfl)<|zii 10 rfl (by kernel_rfl) (gd0 rfl) rfl rfl z07 (ld 108 rfl rfl (Foc.el h32) z4p rfl)<|hTk 11 rfl rfl (W.add rfl rfl)<|hTk 20 rfl rfl (W.add rfl rfl)<|hTk 29 rfl rfl (W.add rfl rfl)<|Zo 30 rfl rfl rfl (lit (R:=z1c) ([((x29+x31)+((r46 ^^^ r59) ^^^ (z2e x25 3)))+((r70 ^^^ r79) ^^^ (z2e x27 10))]:List UInt32) 420 (pP rfl rfl<|pN) rfl tu217 z3h rfl rfl) fun v81=>z0o fun x82 h83=>Zo 31 rfl rfl rfl (apn 108 rfl rfl rfl (.own 420 rfl) h83 tu217 z3h rfl rfl rfl) fun v84=>Zf 32 rfl rfl z05 (asg rfl)<|z0y (by kernel_rfl)<|z1w<|z0d<|z1m<|Zm rfl<|Zq (I.add rfl rfl)<|Za rfl<|z1e 7 rfl fun y85=>z1f<|z0r (fun aa ww h=>⟨nvl [v84],Zu h [1,2,108]⟩)
    ·
     refine zaz 10 rfl (gd0 rfl) rfl rfl z07 (ld 108 rfl rfl (Foc.el h32) z4p rfl)<|z6o [5,13] (by kernel_rfl) rfl ⟨?_,?_,trivial⟩
     ·
      refine zaz 5 rfl (gd0 rfl) rfl rfl z07 (ld 108 rfl rfl (Foc.el h30) z4p rfl)<|hTk 11 rfl rfl (W.add rfl rfl)<|z10 13 [] [] rfl (by kernel_rfl) rfl (gd0 rfl) rfl Tryz.func205 rfl rfl (z04 _ _) (Y2 rfl rfl) rN rfl (fun _ _=>z07) fun r86 n87=>z10 15 [] [] rfl (by kernel_rfl) rfl (gd0 rfl) rfl Tryz.func205 rfl rfl (z04 _ _) (Y2 rfl rfl) rN rfl (fun _ _=>z07) fun r88 n89=>hTk 16 rfl rfl (W.xor rfl rfl)<|hTk 19 rfl rfl (W.xor rfl rfl)<|hTk 20 rfl rfl (W.add rfl rfl)<|z10 22 [] [] rfl (by kernel_rfl) rfl (gd0 rfl) rfl Tryz.func205 rfl rfl (z04 _ _) (Y2 rfl rfl) rN rfl (fun _ _=>z07) fun r90 n91=>z10 24 [] [] rfl (by kernel_rfl) rfl (gd0 rfl) rfl Tryz.func205 rfl rfl (z04 _ _) (Y2 rfl rfl) rN rfl (fun _ _=>z07) fun r92 n93=>hTk 25 rfl rfl (W.xor rfl rfl)<|hTk 28 rfl rfl (W.xor rfl rfl)<|hTk 29 rfl rfl (W.add rfl rfl)<|Zo 30 rfl rfl rfl (lit (R:=z1c) ([((x29+x31)+((r86 ^^^ r88) ^^^ (z2e x25 3)))+((r90 ^^^ r92) ^^^ (z2e x27 10))]:List UInt32) 420 (pP rfl rfl<|pN) rfl tu217 z3h rfl rfl) fun v94=>z0o fun x95 h96=>Zo 31 rfl rfl rfl (apn 108 rfl rfl rfl (.own 420 rfl) h96 tu217 z3h rfl rfl rfl) fun v97=>Zf 32 rfl rfl z05 (asg rfl)<|z0y (by kernel_rfl)<|z1w<|z0d<|z1m<|Zm rfl<|Zq (I.add rfl rfl)<|Za rfl<|z1e 7 rfl fun y98=>z1f<|z0r (fun aa ww h=>⟨nvl [v97],Zu h [1,2,108]⟩)
     ·
      refine z4z 13 [] [] rfl rfl (gd0 rfl) rfl Tryz.func205 rfl rfl (z04 _ _) (Y2 rfl rfl) rN rfl (fun _ _=>z07) fun r99 n100=>z6o [5,15] (by kernel_rfl) rfl ⟨?_,?_,trivial⟩
      ·
       refine zaz 5 rfl (gd0 rfl) rfl rfl z07 (ld 108 rfl rfl (Foc.el h30) z4p rfl)<|hTk 11 rfl rfl (W.add rfl rfl)<|z10 15 [] [] rfl (by kernel_rfl) rfl (gd0 rfl) rfl Tryz.func205 rfl rfl (z04 _ _) (Y2 rfl rfl) rN rfl (fun _ _=>z07) fun r101 n102=>hTk 16 rfl rfl (W.xor rfl rfl)<|hTk 19 rfl rfl (W.xor rfl rfl)<|hTk 20 rfl rfl (W.add rfl rfl)<|z10 22 [] [] rfl (by kernel_rfl) rfl (gd0 rfl) rfl Tryz.func205 rfl rfl (z04 _ _) (Y2 rfl rfl) rN rfl (fun _ _=>z07) fun r103 n104=>z10 24 [] [] rfl (by kernel_rfl) rfl (gd0 rfl) rfl Tryz.func205 rfl rfl (z04 _ _) (Y2 rfl rfl) rN rfl (fun _ _=>z07) fun r105 n106=>hTk 25 rfl rfl (W.xor rfl rfl)<|hTk 28 rfl rfl (W.xor rfl rfl)<|hTk 29 rfl rfl (W.add rfl rfl)<|Zo 30 rfl rfl rfl (lit (R:=z1c) ([((x29+x31)+((r99 ^^^ r101) ^^^ (z2e x25 3)))+((r103 ^^^ r105) ^^^ (z2e x27 10))]:List UInt32) 420 (pP rfl rfl<|pN) rfl tu217 z3h rfl rfl) fun v107=>z0o fun x108 h109=>Zo 31 rfl rfl rfl (apn 108 rfl rfl rfl (.own 420 rfl) h109 tu217 z3h rfl rfl rfl) fun v110=>Zf 32 rfl rfl z05 (asg rfl)<|z0y (by kernel_rfl)<|z1w<|z0d<|z1m<|Zm rfl<|Zq (I.add rfl rfl)<|Za rfl<|z1e 7 rfl fun y111=>z1f<|z0r (fun aa ww h=>⟨nvl [v110],Zu h [1,2,108]⟩)
      ·
       refine z4z 15 [] [] rfl rfl (gd0 rfl) rfl Tryz.func205 rfl rfl (z04 _ _) (Y2 rfl rfl) rN rfl (fun _ _=>z07) fun r112 n113=>hTk 16 rfl rfl (W.xor rfl rfl)<|hTk 19 rfl rfl (W.xor rfl rfl)<|z6o [5,22] (by kernel_rfl) rfl ⟨?_,?_,trivial⟩
       ·
        refine zaz 5 rfl (gd0 rfl) rfl rfl z07 (ld 108 rfl rfl (Foc.el h30) z4p rfl)<|hTk 11 rfl rfl (W.add rfl rfl)<|hTk 20 rfl rfl (W.add rfl rfl)<|z10 22 [] [] rfl (by kernel_rfl) rfl (gd0 rfl) rfl Tryz.func205 rfl rfl (z04 _ _) (Y2 rfl rfl) rN rfl (fun _ _=>z07) fun r114 n115=>z10 24 [] [] rfl (by kernel_rfl) rfl (gd0 rfl) rfl Tryz.func205 rfl rfl (z04 _ _) (Y2 rfl rfl) rN rfl (fun _ _=>z07) fun r116 n117=>hTk 25 rfl rfl (W.xor rfl rfl)<|hTk 28 rfl rfl (W.xor rfl rfl)<|hTk 29 rfl rfl (W.add rfl rfl)<|Zo 30 rfl rfl rfl (lit (R:=z1c) ([((x29+x31)+((r99 ^^^ r112) ^^^ (z2e x25 3)))+((r114 ^^^ r116) ^^^ (z2e x27 10))]:List UInt32) 420 (pP rfl rfl<|pN) rfl tu217 z3h rfl rfl) fun v118=>z0o fun x119 h120=>Zo 31 rfl rfl rfl (apn 108 rfl rfl rfl (.own 420 rfl) h120 tu217 z3h rfl rfl rfl) fun v121=>Zf 32 rfl rfl z05 (asg rfl)<|z0y (by kernel_rfl)<|z1w<|z0d<|z1m<|Zm rfl<|Zq (I.add rfl rfl)<|Za rfl<|z1e 7 rfl fun y122=>z1f<|z0r (fun aa ww h=>⟨nvl [v121],Zu h [1,2,108]⟩)
       ·
        refine z4z 22 [] [] rfl rfl (gd0 rfl) rfl Tryz.func205 rfl rfl (z04 _ _) (Y2 rfl rfl) rN rfl (fun _ _=>z07) fun r123 n124=>z6o [5,24] (by kernel_rfl) rfl ⟨?_,?_,trivial⟩
        ·
         refine zaz 5 rfl (gd0 rfl) rfl rfl z07 (ld 108 rfl rfl (Foc.el h30) z4p rfl)<|hTk 11 rfl rfl (W.add rfl rfl)<|hTk 20 rfl rfl (W.add rfl rfl)<|z10 24 [] [] rfl (by kernel_rfl) rfl (gd0 rfl) rfl Tryz.func205 rfl rfl (z04 _ _) (Y2 rfl rfl) rN rfl (fun _ _=>z07) fun r125 n126=>hTk 25 rfl rfl (W.xor rfl rfl)<|hTk 28 rfl rfl (W.xor rfl rfl)<|hTk 29 rfl rfl (W.add rfl rfl)<|Zo 30 rfl rfl rfl (lit (R:=z1c) ([((x29+x31)+((r99 ^^^ r112) ^^^ (z2e x25 3)))+((r123 ^^^ r125) ^^^ (z2e x27 10))]:List UInt32) 420 (pP rfl rfl<|pN) rfl tu217 z3h rfl rfl) fun v127=>z0o fun x128 h129=>Zo 31 rfl rfl rfl (apn 108 rfl rfl rfl (.own 420 rfl) h129 tu217 z3h rfl rfl rfl) fun v130=>Zf 32 rfl rfl z05 (asg rfl)<|z0y (by kernel_rfl)<|z1w<|z0d<|z1m<|Zm rfl<|Zq (I.add rfl rfl)<|Za rfl<|z1e 7 rfl fun y131=>z1f<|z0r (fun aa ww h=>⟨nvl [v130],Zu h [1,2,108]⟩)
        ·
         refine z4z 24 [] [] rfl rfl (gd0 rfl) rfl Tryz.func205 rfl rfl (z04 _ _) (Y2 rfl rfl) rN rfl (fun _ _=>z07) fun r132 n133=>hTk 25 rfl rfl (W.xor rfl rfl)<|hTk 28 rfl rfl (W.xor rfl rfl)<|zii 5 rfl (by kernel_rfl) (gd0 rfl) rfl rfl z07 (ld 108 rfl rfl (Foc.el h30) z4p rfl)<|hTk 11 rfl rfl (W.add rfl rfl)<|hTk 20 rfl rfl (W.add rfl rfl)<|hTk 29 rfl rfl (W.add rfl rfl)<|Zo 30 rfl rfl rfl (lit (R:=z1c) ([((x29+x31)+((r99 ^^^ r112) ^^^ (z2e x25 3)))+((r123 ^^^ r132) ^^^ (z2e x27 10))]:List UInt32) 420 (pP rfl rfl<|pN) rfl tu217 z3h rfl rfl) fun v134=>z0o fun x135 h136=>Zo 31 rfl rfl rfl (apn 108 rfl rfl rfl (.own 420 rfl) h136 tu217 z3h rfl rfl rfl) fun v137=>Zf 32 rfl rfl z05 (asg rfl)<|z0y (by kernel_rfl)<|z1w<|z0d<|z1m<|Zm rfl<|Zq (I.add rfl rfl)<|Za rfl<|z1e 7 rfl fun y138=>z1f<|z0r (fun aa ww h=>⟨nvl [v137],Zu h [1,2,108]⟩)
    ·
     refine z4z 13 [] [] rfl rfl (gd0 rfl) rfl Tryz.func205 rfl rfl (z04 _ _) (Y2 rfl rfl) rN rfl (fun _ _=>z07) fun r139 n140=>z6o [5,10,15] (by kernel_rfl) rfl ⟨?_,?_,?_,trivial⟩
     ·
      refine zaz 5 rfl (gd0 rfl) rfl rfl z07 (ld 108 rfl rfl (Foc.el h30) z4p rfl)<|z6o [10,15] (by kernel_rfl) rfl ⟨?_,?_,trivial⟩
      ·
       refine zaz 10 rfl (gd0 rfl) rfl rfl z07 (ld 108 rfl rfl (Foc.el h32) z4p rfl)<|hTk 11 rfl rfl (W.add rfl rfl)<|z10 15 [] [] rfl (by kernel_rfl) rfl (gd0 rfl) rfl Tryz.func205 rfl rfl (z04 _ _) (Y2 rfl rfl) rN rfl (fun _ _=>z07) fun r141 n142=>hTk 16 rfl rfl (W.xor rfl rfl)<|hTk 19 rfl rfl (W.xor rfl rfl)<|hTk 20 rfl rfl (W.add rfl rfl)<|z10 22 [] [] rfl (by kernel_rfl) rfl (gd0 rfl) rfl Tryz.func205 rfl rfl (z04 _ _) (Y2 rfl rfl) rN rfl (fun _ _=>z07) fun r143 n144=>z10 24 [] [] rfl (by kernel_rfl) rfl (gd0 rfl) rfl Tryz.func205 rfl rfl (z04 _ _) (Y2 rfl rfl) rN rfl (fun _ _=>z07) fun r145 n146=>hTk 25 rfl rfl (W.xor rfl rfl)<|hTk 28 rfl rfl (W.xor rfl rfl)<|hTk 29 rfl rfl (W.add rfl rfl)<|Zo 30 rfl rfl rfl (lit (R:=z1c) ([((x29+x31)+((r139 ^^^ r141) ^^^ (z2e x25 3)))+((r143 ^^^ r145) ^^^ (z2e x27 10))]:List UInt32) 420 (pP rfl rfl<|pN) rfl tu217 z3h rfl rfl) fun v147=>z0o fun x148 h149=>Zo 31 rfl rfl rfl (apn 108 rfl rfl rfl (.own 420 rfl) h149 tu217 z3h rfl rfl rfl) fun v150=>Zf 32 rfl rfl z05 (asg rfl)<|z0y (by kernel_rfl)<|z1w<|z0d<|z1m<|Zm rfl<|Zq (I.add rfl rfl)<|Za rfl<|z1e 7 rfl fun y151=>z1f<|z0r (fun aa ww h=>⟨nvl [v150],Zu h [1,2,108]⟩)
      ·
       refine z4z 15 [] [] rfl rfl (gd0 rfl) rfl Tryz.func205 rfl rfl (z04 _ _) (Y2 rfl rfl) rN rfl (fun _ _=>z07) fun r152 n153=>hTk 16 rfl rfl (W.xor rfl rfl)<|hTk 19 rfl rfl (W.xor rfl rfl)<|z6o [10,22] (by kernel_rfl) rfl ⟨?_,?_,trivial⟩
       ·
        refine zaz 10 rfl (gd0 rfl) rfl rfl z07 (ld 108 rfl rfl (Foc.el h32) z4p rfl)<|hTk 11 rfl rfl (W.add rfl rfl)<|hTk 20 rfl rfl (W.add rfl rfl)<|z10 22 [] [] rfl (by kernel_rfl) rfl (gd0 rfl) rfl Tryz.func205 rfl rfl (z04 _ _) (Y2 rfl rfl) rN rfl (fun _ _=>z07) fun r154 n155=>z10 24 [] [] rfl (by kernel_rfl) rfl (gd0 rfl) rfl Tryz.func205 rfl rfl (z04 _ _) (Y2 rfl rfl) rN rfl (fun _ _=>z07) fun r156 n157=>hTk 25 rfl rfl (W.xor rfl rfl)<|hTk 28 rfl rfl (W.xor rfl rfl)<|hTk 29 rfl rfl (W.add rfl rfl)<|Zo 30 rfl rfl rfl (lit (R:=z1c) ([((x29+x31)+((r139 ^^^ r152) ^^^ (z2e x25 3)))+((r154 ^^^ r156) ^^^ (z2e x27 10))]:List UInt32) 420 (pP rfl rfl<|pN) rfl tu217 z3h rfl rfl) fun v158=>z0o fun x159 h160=>Zo 31 rfl rfl rfl (apn 108 rfl rfl rfl (.own 420 rfl) h160 tu217 z3h rfl rfl rfl) fun v161=>Zf 32 rfl rfl z05 (asg rfl)<|z0y (by kernel_rfl)<|z1w<|z0d<|z1m<|Zm rfl<|Zq (I.add rfl rfl)<|Za rfl<|z1e 7 rfl fun y162=>z1f<|z0r (fun aa ww h=>⟨nvl [v161],Zu h [1,2,108]⟩)
       ·
        refine z4z 22 [] [] rfl rfl (gd0 rfl) rfl Tryz.func205 rfl rfl (z04 _ _) (Y2 rfl rfl) rN rfl (fun _ _=>z07) fun r163 n164=>z6o [10,24] (by kernel_rfl) rfl ⟨?_,?_,trivial⟩
        ·
         refine zaz 10 rfl (gd0 rfl) rfl rfl z07 (ld 108 rfl rfl (Foc.el h32) z4p rfl)<|hTk 11 rfl rfl (W.add rfl rfl)<|hTk 20 rfl rfl (W.add rfl rfl)<|z10 24 [] [] rfl (by kernel_rfl) rfl (gd0 rfl) rfl Tryz.func205 rfl rfl (z04 _ _) (Y2 rfl rfl) rN rfl (fun _ _=>z07) fun r165 n166=>hTk 25 rfl rfl (W.xor rfl rfl)<|hTk 28 rfl rfl (W.xor rfl rfl)<|hTk 29 rfl rfl (W.add rfl rfl)<|Zo 30 rfl rfl rfl (lit (R:=z1c) ([((x29+x31)+((r139 ^^^ r152) ^^^ (z2e x25 3)))+((r163 ^^^ r165) ^^^ (z2e x27 10))]:List UInt32) 420 (pP rfl rfl<|pN) rfl tu217 z3h rfl rfl) fun v167=>z0o fun x168 h169=>Zo 31 rfl rfl rfl (apn 108 rfl rfl rfl (.own 420 rfl) h169 tu217 z3h rfl rfl rfl) fun v170=>Zf 32 rfl rfl z05 (asg rfl)<|z0y (by kernel_rfl)<|z1w<|z0d<|z1m<|Zm rfl<|Zq (I.add rfl rfl)<|Za rfl<|z1e 7 rfl fun y171=>z1f<|z0r (fun aa ww h=>⟨nvl [v170],Zu h [1,2,108]⟩)
        ·
         refine z4z 24 [] [] rfl rfl (gd0 rfl) rfl Tryz.func205 rfl rfl (z04 _ _) (Y2 rfl rfl) rN rfl (fun _ _=>z07) fun r172 n173=>hTk 25 rfl rfl (W.xor rfl rfl)<|hTk 28 rfl rfl (W.xor rfl rfl)<|zii 10 rfl (by kernel_rfl) (gd0 rfl) rfl rfl z07 (ld 108 rfl rfl (Foc.el h32) z4p rfl)<|hTk 11 rfl rfl (W.add rfl rfl)<|hTk 20 rfl rfl (W.add rfl rfl)<|hTk 29 rfl rfl (W.add rfl rfl)<|Zo 30 rfl rfl rfl (lit (R:=z1c) ([((x29+x31)+((r139 ^^^ r152) ^^^ (z2e x25 3)))+((r163 ^^^ r172) ^^^ (z2e x27 10))]:List UInt32) 420 (pP rfl rfl<|pN) rfl tu217 z3h rfl rfl) fun v174=>z0o fun x175 h176=>Zo 31 rfl rfl rfl (apn 108 rfl rfl rfl (.own 420 rfl) h176 tu217 z3h rfl rfl rfl) fun v177=>Zf 32 rfl rfl z05 (asg rfl)<|z0y (by kernel_rfl)<|z1w<|z0d<|z1m<|Zm rfl<|Zq (I.add rfl rfl)<|Za rfl<|z1e 7 rfl fun y178=>z1f<|z0r (fun aa ww h=>⟨nvl [v177],Zu h [1,2,108]⟩)
     ·
      refine zaz 10 rfl (gd0 rfl) rfl rfl z07 (ld 108 rfl rfl (Foc.el h32) z4p rfl)<|z6o [5,15] (by kernel_rfl) rfl ⟨?_,?_,trivial⟩
      ·
       refine zaz 5 rfl (gd0 rfl) rfl rfl z07 (ld 108 rfl rfl (Foc.el h30) z4p rfl)<|hTk 11 rfl rfl (W.add rfl rfl)<|z10 15 [] [] rfl (by kernel_rfl) rfl (gd0 rfl) rfl Tryz.func205 rfl rfl (z04 _ _) (Y2 rfl rfl) rN rfl (fun _ _=>z07) fun r179 n180=>hTk 16 rfl rfl (W.xor rfl rfl)<|hTk 19 rfl rfl (W.xor rfl rfl)<|hTk 20 rfl rfl (W.add rfl rfl)<|z10 22 [] [] rfl (by kernel_rfl) rfl (gd0 rfl) rfl Tryz.func205 rfl rfl (z04 _ _) (Y2 rfl rfl) rN rfl (fun _ _=>z07) fun r181 n182=>z10 24 [] [] rfl (by kernel_rfl) rfl (gd0 rfl) rfl Tryz.func205 rfl rfl (z04 _ _) (Y2 rfl rfl) rN rfl (fun _ _=>z07) fun r183 n184=>hTk 25 rfl rfl (W.xor rfl rfl)<|hTk 28 rfl rfl (W.xor rfl rfl)<|hTk 29 rfl rfl (W.add rfl rfl)<|Zo 30 rfl rfl rfl (lit (R:=z1c) ([((x29+x31)+((r139 ^^^ r179) ^^^ (z2e x25 3)))+((r181 ^^^ r183) ^^^ (z2e x27 10))]:List UInt32) 420 (pP rfl rfl<|pN) rfl tu217 z3h rfl rfl) fun v185=>z0o fun x186 h187=>Zo 31 rfl rfl rfl (apn 108 rfl rfl rfl (.own 420 rfl) h187 tu217 z3h rfl rfl rfl) fun v188=>Zf 32 rfl rfl z05 (asg rfl)<|z0y (by kernel_rfl)<|z1w<|z0d<|z1m<|Zm rfl<|Zq (I.add rfl rfl)<|Za rfl<|z1e 7 rfl fun y189=>z1f<|z0r (fun aa ww h=>⟨nvl [v188],Zu h [1,2,108]⟩)
      ·
       refine z4z 15 [] [] rfl rfl (gd0 rfl) rfl Tryz.func205 rfl rfl (z04 _ _) (Y2 rfl rfl) rN rfl (fun _ _=>z07) fun r190 n191=>hTk 16 rfl rfl (W.xor rfl rfl)<|hTk 19 rfl rfl (W.xor rfl rfl)<|z6o [5,22] (by kernel_rfl) rfl ⟨?_,?_,trivial⟩
       ·
        refine zaz 5 rfl (gd0 rfl) rfl rfl z07 (ld 108 rfl rfl (Foc.el h30) z4p rfl)<|hTk 11 rfl rfl (W.add rfl rfl)<|hTk 20 rfl rfl (W.add rfl rfl)<|z10 22 [] [] rfl (by kernel_rfl) rfl (gd0 rfl) rfl Tryz.func205 rfl rfl (z04 _ _) (Y2 rfl rfl) rN rfl (fun _ _=>z07) fun r192 n193=>z10 24 [] [] rfl (by kernel_rfl) rfl (gd0 rfl) rfl Tryz.func205 rfl rfl (z04 _ _) (Y2 rfl rfl) rN rfl (fun _ _=>z07) fun r194 n195=>hTk 25 rfl rfl (W.xor rfl rfl)<|hTk 28 rfl rfl (W.xor rfl rfl)<|hTk 29 rfl rfl (W.add rfl rfl)<|Zo 30 rfl rfl rfl (lit (R:=z1c) ([((x29+x31)+((r139 ^^^ r190) ^^^ (z2e x25 3)))+((r192 ^^^ r194) ^^^ (z2e x27 10))]:List UInt32) 420 (pP rfl rfl<|pN) rfl tu217 z3h rfl rfl) fun v196=>z0o fun x197 h198=>Zo 31 rfl rfl rfl (apn 108 rfl rfl rfl (.own 420 rfl) h198 tu217 z3h rfl rfl rfl) fun v199=>Zf 32 rfl rfl z05 (asg rfl)<|z0y (by kernel_rfl)<|z1w<|z0d<|z1m<|Zm rfl<|Zq (I.add rfl rfl)<|Za rfl<|z1e 7 rfl fun y200=>z1f<|z0r (fun aa ww h=>⟨nvl [v199],Zu h [1,2,108]⟩)
       ·
        refine z4z 22 [] [] rfl rfl (gd0 rfl) rfl Tryz.func205 rfl rfl (z04 _ _) (Y2 rfl rfl) rN rfl (fun _ _=>z07) fun r201 n202=>z6o [5,24] (by kernel_rfl) rfl ⟨?_,?_,trivial⟩
        ·
         refine zaz 5 rfl (gd0 rfl) rfl rfl z07 (ld 108 rfl rfl (Foc.el h30) z4p rfl)<|hTk 11 rfl rfl (W.add rfl rfl)<|hTk 20 rfl rfl (W.add rfl rfl)<|z10 24 [] [] rfl (by kernel_rfl) rfl (gd0 rfl) rfl Tryz.func205 rfl rfl (z04 _ _) (Y2 rfl rfl) rN rfl (fun _ _=>z07) fun r203 n204=>hTk 25 rfl rfl (W.xor rfl rfl)<|hTk 28 rfl rfl (W.xor rfl rfl)<|hTk 29 rfl rfl (W.add rfl rfl)<|Zo 30 rfl rfl rfl (lit (R:=z1c) ([((x29+x31)+((r139 ^^^ r190) ^^^ (z2e x25 3)))+((r201 ^^^ r203) ^^^ (z2e x27 10))]:List UInt32) 420 (pP rfl rfl<|pN) rfl tu217 z3h rfl rfl) fun v205=>z0o fun x206 h207=>Zo 31 rfl rfl rfl (apn 108 rfl rfl rfl (.own 420 rfl) h207 tu217 z3h rfl rfl rfl) fun v208=>Zf 32 rfl rfl z05 (asg rfl)<|z0y (by kernel_rfl)<|z1w<|z0d<|z1m<|Zm rfl<|Zq (I.add rfl rfl)<|Za rfl<|z1e 7 rfl fun y209=>z1f<|z0r (fun aa ww h=>⟨nvl [v208],Zu h [1,2,108]⟩)
        ·
         refine z4z 24 [] [] rfl rfl (gd0 rfl) rfl Tryz.func205 rfl rfl (z04 _ _) (Y2 rfl rfl) rN rfl (fun _ _=>z07) fun r210 n211=>hTk 25 rfl rfl (W.xor rfl rfl)<|hTk 28 rfl rfl (W.xor rfl rfl)<|zii 5 rfl (by kernel_rfl) (gd0 rfl) rfl rfl z07 (ld 108 rfl rfl (Foc.el h30) z4p rfl)<|hTk 11 rfl rfl (W.add rfl rfl)<|hTk 20 rfl rfl (W.add rfl rfl)<|hTk 29 rfl rfl (W.add rfl rfl)<|Zo 30 rfl rfl rfl (lit (R:=z1c) ([((x29+x31)+((r139 ^^^ r190) ^^^ (z2e x25 3)))+((r201 ^^^ r210) ^^^ (z2e x27 10))]:List UInt32) 420 (pP rfl rfl<|pN) rfl tu217 z3h rfl rfl) fun v212=>z0o fun x213 h214=>Zo 31 rfl rfl rfl (apn 108 rfl rfl rfl (.own 420 rfl) h214 tu217 z3h rfl rfl rfl) fun v215=>Zf 32 rfl rfl z05 (asg rfl)<|z0y (by kernel_rfl)<|z1w<|z0d<|z1m<|Zm rfl<|Zq (I.add rfl rfl)<|Za rfl<|z1e 7 rfl fun y216=>z1f<|z0r (fun aa ww h=>⟨nvl [v215],Zu h [1,2,108]⟩)
     ·
      refine z4z 15 [] [] rfl rfl (gd0 rfl) rfl Tryz.func205 rfl rfl (z04 _ _) (Y2 rfl rfl) rN rfl (fun _ _=>z07) fun r217 n218=>hTk 16 rfl rfl (W.xor rfl rfl)<|hTk 19 rfl rfl (W.xor rfl rfl)<|z6o [5,10,22] (by kernel_rfl) rfl ⟨?_,?_,?_,trivial⟩
      ·
       refine zaz 5 rfl (gd0 rfl) rfl rfl z07 (ld 108 rfl rfl (Foc.el h30) z4p rfl)<|z6o [10,22] (by kernel_rfl) rfl ⟨?_,?_,trivial⟩
       ·
        refine zaz 10 rfl (gd0 rfl) rfl rfl z07 (ld 108 rfl rfl (Foc.el h32) z4p rfl)<|hTk 11 rfl rfl (W.add rfl rfl)<|hTk 20 rfl rfl (W.add rfl rfl)<|z10 22 [] [] rfl (by kernel_rfl) rfl (gd0 rfl) rfl Tryz.func205 rfl rfl (z04 _ _) (Y2 rfl rfl) rN rfl (fun _ _=>z07) fun r219 n220=>z10 24 [] [] rfl (by kernel_rfl) rfl (gd0 rfl) rfl Tryz.func205 rfl rfl (z04 _ _) (Y2 rfl rfl) rN rfl (fun _ _=>z07) fun r221 n222=>hTk 25 rfl rfl (W.xor rfl rfl)<|hTk 28 rfl rfl (W.xor rfl rfl)<|hTk 29 rfl rfl (W.add rfl rfl)<|Zo 30 rfl rfl rfl (lit (R:=z1c) ([((x29+x31)+((r139 ^^^ r217) ^^^ (z2e x25 3)))+((r219 ^^^ r221) ^^^ (z2e x27 10))]:List UInt32) 420 (pP rfl rfl<|pN) rfl tu217 z3h rfl rfl) fun v223=>z0o fun x224 h225=>Zo 31 rfl rfl rfl (apn 108 rfl rfl rfl (.own 420 rfl) h225 tu217 z3h rfl rfl rfl) fun v226=>Zf 32 rfl rfl z05 (asg rfl)<|z0y (by kernel_rfl)<|z1w<|z0d<|z1m<|Zm rfl<|Zq (I.add rfl rfl)<|Za rfl<|z1e 7 rfl fun y227=>z1f<|z0r (fun aa ww h=>⟨nvl [v226],Zu h [1,2,108]⟩)
       ·
        refine z4z 22 [] [] rfl rfl (gd0 rfl) rfl Tryz.func205 rfl rfl (z04 _ _) (Y2 rfl rfl) rN rfl (fun _ _=>z07) fun r228 n229=>z6o [10,24] (by kernel_rfl) rfl ⟨?_,?_,trivial⟩
        ·
         refine zaz 10 rfl (gd0 rfl) rfl rfl z07 (ld 108 rfl rfl (Foc.el h32) z4p rfl)<|hTk 11 rfl rfl (W.add rfl rfl)<|hTk 20 rfl rfl (W.add rfl rfl)<|z10 24 [] [] rfl (by kernel_rfl) rfl (gd0 rfl) rfl Tryz.func205 rfl rfl (z04 _ _) (Y2 rfl rfl) rN rfl (fun _ _=>z07) fun r230 n231=>hTk 25 rfl rfl (W.xor rfl rfl)<|hTk 28 rfl rfl (W.xor rfl rfl)<|hTk 29 rfl rfl (W.add rfl rfl)<|Zo 30 rfl rfl rfl (lit (R:=z1c) ([((x29+x31)+((r139 ^^^ r217) ^^^ (z2e x25 3)))+((r228 ^^^ r230) ^^^ (z2e x27 10))]:List UInt32) 420 (pP rfl rfl<|pN) rfl tu217 z3h rfl rfl) fun v232=>z0o fun x233 h234=>Zo 31 rfl rfl rfl (apn 108 rfl rfl rfl (.own 420 rfl) h234 tu217 z3h rfl rfl rfl) fun v235=>Zf 32 rfl rfl z05 (asg rfl)<|z0y (by kernel_rfl)<|z1w<|z0d<|z1m<|Zm rfl<|Zq (I.add rfl rfl)<|Za rfl<|z1e 7 rfl fun y236=>z1f<|z0r (fun aa ww h=>⟨nvl [v235],Zu h [1,2,108]⟩)
        ·
         refine z4z 24 [] [] rfl rfl (gd0 rfl) rfl Tryz.func205 rfl rfl (z04 _ _) (Y2 rfl rfl) rN rfl (fun _ _=>z07) fun r237 n238=>hTk 25 rfl rfl (W.xor rfl rfl)<|hTk 28 rfl rfl (W.xor rfl rfl)<|zii 10 rfl (by kernel_rfl) (gd0 rfl) rfl rfl z07 (ld 108 rfl rfl (Foc.el h32) z4p rfl)<|hTk 11 rfl rfl (W.add rfl rfl)<|hTk 20 rfl rfl (W.add rfl rfl)<|hTk 29 rfl rfl (W.add rfl rfl)<|Zo 30 rfl rfl rfl (lit (R:=z1c) ([((x29+x31)+((r139 ^^^ r217) ^^^ (z2e x25 3)))+((r228 ^^^ r237) ^^^ (z2e x27 10))]:List UInt32) 420 (pP rfl rfl<|pN) rfl tu217 z3h rfl rfl) fun v239=>z0o fun x240 h241=>Zo 31 rfl rfl rfl (apn 108 rfl rfl rfl (.own 420 rfl) h241 tu217 z3h rfl rfl rfl) fun v242=>Zf 32 rfl rfl z05 (asg rfl)<|z0y (by kernel_rfl)<|z1w<|z0d<|z1m<|Zm rfl<|Zq (I.add rfl rfl)<|Za rfl<|z1e 7 rfl fun y243=>z1f<|z0r (fun aa ww h=>⟨nvl [v242],Zu h [1,2,108]⟩)
      ·
       refine zaz 10 rfl (gd0 rfl) rfl rfl z07 (ld 108 rfl rfl (Foc.el h32) z4p rfl)<|z6o [5,22] (by kernel_rfl) rfl ⟨?_,?_,trivial⟩
       ·
        refine zaz 5 rfl (gd0 rfl) rfl rfl z07 (ld 108 rfl rfl (Foc.el h30) z4p rfl)<|hTk 11 rfl rfl (W.add rfl rfl)<|hTk 20 rfl rfl (W.add rfl rfl)<|z10 22 [] [] rfl (by kernel_rfl) rfl (gd0 rfl) rfl Tryz.func205 rfl rfl (z04 _ _) (Y2 rfl rfl) rN rfl (fun _ _=>z07) fun r244 n245=>z10 24 [] [] rfl (by kernel_rfl) rfl (gd0 rfl) rfl Tryz.func205 rfl rfl (z04 _ _) (Y2 rfl rfl) rN rfl (fun _ _=>z07) fun r246 n247=>hTk 25 rfl rfl (W.xor rfl rfl)<|hTk 28 rfl rfl (W.xor rfl rfl)<|hTk 29 rfl rfl (W.add rfl rfl)<|Zo 30 rfl rfl rfl (lit (R:=z1c) ([((x29+x31)+((r139 ^^^ r217) ^^^ (z2e x25 3)))+((r244 ^^^ r246) ^^^ (z2e x27 10))]:List UInt32) 420 (pP rfl rfl<|pN) rfl tu217 z3h rfl rfl) fun v248=>z0o fun x249 h250=>Zo 31 rfl rfl rfl (apn 108 rfl rfl rfl (.own 420 rfl) h250 tu217 z3h rfl rfl rfl) fun v251=>Zf 32 rfl rfl z05 (asg rfl)<|z0y (by kernel_rfl)<|z1w<|z0d<|z1m<|Zm rfl<|Zq (I.add rfl rfl)<|Za rfl<|z1e 7 rfl fun y252=>z1f<|z0r (fun aa ww h=>⟨nvl [v251],Zu h [1,2,108]⟩)
       ·
        refine z4z 22 [] [] rfl rfl (gd0 rfl) rfl Tryz.func205 rfl rfl (z04 _ _) (Y2 rfl rfl) rN rfl (fun _ _=>z07) fun r253 n254=>z6o [5,24] (by kernel_rfl) rfl ⟨?_,?_,trivial⟩
        ·
         refine zaz 5 rfl (gd0 rfl) rfl rfl z07 (ld 108 rfl rfl (Foc.el h30) z4p rfl)<|hTk 11 rfl rfl (W.add rfl rfl)<|hTk 20 rfl rfl (W.add rfl rfl)<|z10 24 [] [] rfl (by kernel_rfl) rfl (gd0 rfl) rfl Tryz.func205 rfl rfl (z04 _ _) (Y2 rfl rfl) rN rfl (fun _ _=>z07) fun r255 n256=>hTk 25 rfl rfl (W.xor rfl rfl)<|hTk 28 rfl rfl (W.xor rfl rfl)<|hTk 29 rfl rfl (W.add rfl rfl)<|Zo 30 rfl rfl rfl (lit (R:=z1c) ([((x29+x31)+((r139 ^^^ r217) ^^^ (z2e x25 3)))+((r253 ^^^ r255) ^^^ (z2e x27 10))]:List UInt32) 420 (pP rfl rfl<|pN) rfl tu217 z3h rfl rfl) fun v257=>z0o fun x258 h259=>Zo 31 rfl rfl rfl (apn 108 rfl rfl rfl (.own 420 rfl) h259 tu217 z3h rfl rfl rfl) fun v260=>Zf 32 rfl rfl z05 (asg rfl)<|z0y (by kernel_rfl)<|z1w<|z0d<|z1m<|Zm rfl<|Zq (I.add rfl rfl)<|Za rfl<|z1e 7 rfl fun y261=>z1f<|z0r (fun aa ww h=>⟨nvl [v260],Zu h [1,2,108]⟩)
        ·
         refine z4z 24 [] [] rfl rfl (gd0 rfl) rfl Tryz.func205 rfl rfl (z04 _ _) (Y2 rfl rfl) rN rfl (fun _ _=>z07) fun r262 n263=>hTk 25 rfl rfl (W.xor rfl rfl)<|hTk 28 rfl rfl (W.xor rfl rfl)<|zii 5 rfl (by kernel_rfl) (gd0 rfl) rfl rfl z07 (ld 108 rfl rfl (Foc.el h30) z4p rfl)<|hTk 11 rfl rfl (W.add rfl rfl)<|hTk 20 rfl rfl (W.add rfl rfl)<|hTk 29 rfl rfl (W.add rfl rfl)<|Zo 30 rfl rfl rfl (lit (R:=z1c) ([((x29+x31)+((r139 ^^^ r217) ^^^ (z2e x25 3)))+((r253 ^^^ r262) ^^^ (z2e x27 10))]:List UInt32) 420 (pP rfl rfl<|pN) rfl tu217 z3h rfl rfl) fun v264=>z0o fun x265 h266=>Zo 31 rfl rfl rfl (apn 108 rfl rfl rfl (.own 420 rfl) h266 tu217 z3h rfl rfl rfl) fun v267=>Zf 32 rfl rfl z05 (asg rfl)<|z0y (by kernel_rfl)<|z1w<|z0d<|z1m<|Zm rfl<|Zq (I.add rfl rfl)<|Za rfl<|z1e 7 rfl fun y268=>z1f<|z0r (fun aa ww h=>⟨nvl [v267],Zu h [1,2,108]⟩)
      ·
       refine z4z 22 [] [] rfl rfl (gd0 rfl) rfl Tryz.func205 rfl rfl (z04 _ _) (Y2 rfl rfl) rN rfl (fun _ _=>z07) fun r269 n270=>z6o [5,10,24] (by kernel_rfl) rfl ⟨?_,?_,?_,trivial⟩
       ·
        refine zaz 5 rfl (gd0 rfl) rfl rfl z07 (ld 108 rfl rfl (Foc.el h30) z4p rfl)<|z6o [10,24] (by kernel_rfl) rfl ⟨?_,?_,trivial⟩
        ·
         refine zaz 10 rfl (gd0 rfl) rfl rfl z07 (ld 108 rfl rfl (Foc.el h32) z4p rfl)<|hTk 11 rfl rfl (W.add rfl rfl)<|hTk 20 rfl rfl (W.add rfl rfl)<|z10 24 [] [] rfl (by kernel_rfl) rfl (gd0 rfl) rfl Tryz.func205 rfl rfl (z04 _ _) (Y2 rfl rfl) rN rfl (fun _ _=>z07) fun r271 n272=>hTk 25 rfl rfl (W.xor rfl rfl)<|hTk 28 rfl rfl (W.xor rfl rfl)<|hTk 29 rfl rfl (W.add rfl rfl)<|Zo 30 rfl rfl rfl (lit (R:=z1c) ([((x29+x31)+((r139 ^^^ r217) ^^^ (z2e x25 3)))+((r269 ^^^ r271) ^^^ (z2e x27 10))]:List UInt32) 420 (pP rfl rfl<|pN) rfl tu217 z3h rfl rfl) fun v273=>z0o fun x274 h275=>Zo 31 rfl rfl rfl (apn 108 rfl rfl rfl (.own 420 rfl) h275 tu217 z3h rfl rfl rfl) fun v276=>Zf 32 rfl rfl z05 (asg rfl)<|z0y (by kernel_rfl)<|z1w<|z0d<|z1m<|Zm rfl<|Zq (I.add rfl rfl)<|Za rfl<|z1e 7 rfl fun y277=>z1f<|z0r (fun aa ww h=>⟨nvl [v276],Zu h [1,2,108]⟩)
        ·
         refine z4z 24 [] [] rfl rfl (gd0 rfl) rfl Tryz.func205 rfl rfl (z04 _ _) (Y2 rfl rfl) rN rfl (fun _ _=>z07) fun r278 n279=>hTk 25 rfl rfl (W.xor rfl rfl)<|hTk 28 rfl rfl (W.xor rfl rfl)<|zii 10 rfl (by kernel_rfl) (gd0 rfl) rfl rfl z07 (ld 108 rfl rfl (Foc.el h32) z4p rfl)<|hTk 11 rfl rfl (W.add rfl rfl)<|hTk 20 rfl rfl (W.add rfl rfl)<|hTk 29 rfl rfl (W.add rfl rfl)<|Zo 30 rfl rfl rfl (lit (R:=z1c) ([((x29+x31)+((r139 ^^^ r217) ^^^ (z2e x25 3)))+((r269 ^^^ r278) ^^^ (z2e x27 10))]:List UInt32) 420 (pP rfl rfl<|pN) rfl tu217 z3h rfl rfl) fun v280=>z0o fun x281 h282=>Zo 31 rfl rfl rfl (apn 108 rfl rfl rfl (.own 420 rfl) h282 tu217 z3h rfl rfl rfl) fun v283=>Zf 32 rfl rfl z05 (asg rfl)<|z0y (by kernel_rfl)<|z1w<|z0d<|z1m<|Zm rfl<|Zq (I.add rfl rfl)<|Za rfl<|z1e 7 rfl fun y284=>z1f<|z0r (fun aa ww h=>⟨nvl [v283],Zu h [1,2,108]⟩)
       ·
        refine zaz 10 rfl (gd0 rfl) rfl rfl z07 (ld 108 rfl rfl (Foc.el h32) z4p rfl)<|z6o [5,24] (by kernel_rfl) rfl ⟨?_,?_,trivial⟩
        ·
         refine zaz 5 rfl (gd0 rfl) rfl rfl z07 (ld 108 rfl rfl (Foc.el h30) z4p rfl)<|hTk 11 rfl rfl (W.add rfl rfl)<|hTk 20 rfl rfl (W.add rfl rfl)<|z10 24 [] [] rfl (by kernel_rfl) rfl (gd0 rfl) rfl Tryz.func205 rfl rfl (z04 _ _) (Y2 rfl rfl) rN rfl (fun _ _=>z07) fun r285 n286=>hTk 25 rfl rfl (W.xor rfl rfl)<|hTk 28 rfl rfl (W.xor rfl rfl)<|hTk 29 rfl rfl (W.add rfl rfl)<|Zo 30 rfl rfl rfl (lit (R:=z1c) ([((x29+x31)+((r139 ^^^ r217) ^^^ (z2e x25 3)))+((r269 ^^^ r285) ^^^ (z2e x27 10))]:List UInt32) 420 (pP rfl rfl<|pN) rfl tu217 z3h rfl rfl) fun v287=>z0o fun x288 h289=>Zo 31 rfl rfl rfl (apn 108 rfl rfl rfl (.own 420 rfl) h289 tu217 z3h rfl rfl rfl) fun v290=>Zf 32 rfl rfl z05 (asg rfl)<|z0y (by kernel_rfl)<|z1w<|z0d<|z1m<|Zm rfl<|Zq (I.add rfl rfl)<|Za rfl<|z1e 7 rfl fun y291=>z1f<|z0r (fun aa ww h=>⟨nvl [v290],Zu h [1,2,108]⟩)
        ·
         refine z4z 24 [] [] rfl rfl (gd0 rfl) rfl Tryz.func205 rfl rfl (z04 _ _) (Y2 rfl rfl) rN rfl (fun _ _=>z07) fun r292 n293=>hTk 25 rfl rfl (W.xor rfl rfl)<|hTk 28 rfl rfl (W.xor rfl rfl)<|zii 5 rfl (by kernel_rfl) (gd0 rfl) rfl rfl z07 (ld 108 rfl rfl (Foc.el h30) z4p rfl)<|hTk 11 rfl rfl (W.add rfl rfl)<|hTk 20 rfl rfl (W.add rfl rfl)<|hTk 29 rfl rfl (W.add rfl rfl)<|Zo 30 rfl rfl rfl (lit (R:=z1c) ([((x29+x31)+((r139 ^^^ r217) ^^^ (z2e x25 3)))+((r269 ^^^ r292) ^^^ (z2e x27 10))]:List UInt32) 420 (pP rfl rfl<|pN) rfl tu217 z3h rfl rfl) fun v294=>z0o fun x295 h296=>Zo 31 rfl rfl rfl (apn 108 rfl rfl rfl (.own 420 rfl) h296 tu217 z3h rfl rfl rfl) fun v297=>Zf 32 rfl rfl z05 (asg rfl)<|z0y (by kernel_rfl)<|z1w<|z0d<|z1m<|Zm rfl<|Zq (I.add rfl rfl)<|Za rfl<|z1e 7 rfl fun y298=>z1f<|z0r (fun aa ww h=>⟨nvl [v297],Zu h [1,2,108]⟩)
       ·
        refine z4z 24 [] [] rfl rfl (gd0 rfl) rfl Tryz.func205 rfl rfl (z04 _ _) (Y2 rfl rfl) rN rfl (fun _ _=>z07) fun r299 n300=>hTk 25 rfl rfl (W.xor rfl rfl)<|hTk 28 rfl rfl (W.xor rfl rfl)<|z6o [5,10] (by kernel_rfl) rfl ⟨?_,?_,trivial⟩
        ·
         refine zaz 5 rfl (gd0 rfl) rfl rfl z07 (ld 108 rfl rfl (Foc.el h30) z4p rfl)<|zii 10 rfl (by kernel_rfl) (gd0 rfl) rfl rfl z07 (ld 108 rfl rfl (Foc.el h32) z4p rfl)<|hTk 11 rfl rfl (W.add rfl rfl)<|hTk 20 rfl rfl (W.add rfl rfl)<|hTk 29 rfl rfl (W.add rfl rfl)<|Zo 30 rfl rfl rfl (lit (R:=z1c) ([((x29+x31)+((r139 ^^^ r217) ^^^ (z2e x25 3)))+((r269 ^^^ r299) ^^^ (z2e x27 10))]:List UInt32) 420 (pP rfl rfl<|pN) rfl tu217 z3h rfl rfl) fun v301=>z0o fun x302 h303=>Zo 31 rfl rfl rfl (apn 108 rfl rfl rfl (.own 420 rfl) h303 tu217 z3h rfl rfl rfl) fun v304=>Zf 32 rfl rfl z05 (asg rfl)<|z0y (by kernel_rfl)<|z1w<|z0d<|z1m<|Zm rfl<|Zq (I.add rfl rfl)<|Za rfl<|z1e 7 rfl fun y305=>z1f<|z0r (fun aa ww h=>⟨nvl [v304],Zu h [1,2,108]⟩)
        ·
         refine zaz 10 rfl (gd0 rfl) rfl rfl z07 (ld 108 rfl rfl (Foc.el h32) z4p rfl)<|zii 5 rfl (by kernel_rfl) (gd0 rfl) rfl rfl z07 (ld 108 rfl rfl (Foc.el h30) z4p rfl)<|hTk 11 rfl rfl (W.add rfl rfl)<|hTk 20 rfl rfl (W.add rfl rfl)<|hTk 29 rfl rfl (W.add rfl rfl)<|Zo 30 rfl rfl rfl (lit (R:=z1c) ([((x29+x31)+((r139 ^^^ r217) ^^^ (z2e x25 3)))+((r269 ^^^ r299) ^^^ (z2e x27 10))]:List UInt32) 420 (pP rfl rfl<|pN) rfl tu217 z3h rfl rfl) fun v306=>z0o fun x307 h308=>Zo 31 rfl rfl rfl (apn 108 rfl rfl rfl (.own 420 rfl) h308 tu217 z3h rfl rfl rfl) fun v309=>Zf 32 rfl rfl z05 (asg rfl)<|z0y (by kernel_rfl)<|z1w<|z0d<|z1m<|Zm rfl<|Zq (I.add rfl rfl)<|Za rfl<|z1e 7 rfl fun y310=>z1f<|z0r (fun aa ww h=>⟨nvl [v309],Zu h [1,2,108]⟩)
   ·
    refine z1z<|z13<|z14<|z2x (fun aa ww h=>⟨nvl [(n23 0)],Zu h [1,2,108]⟩)
  ·
   refine gEx fun n311=>gSR<|Zc [] [(100,432)] Tryz.func206 rfl (zf4) fun r312 n313=>Za rfl<|Zn<|gSR<|Zq (ld 1 rfl rfl Foc.here zp1 rfl)<|Eb rfl (z7s 433 zhb (.zr (R:=(z06 8 z1c)) (x:=(Vector.replicate 8 0)) zou)) fun v314=>Es (sto 433 rfl rfl Foc.here rfl zhb)<|Zn<|z7f (fun (s315:(Vector UInt32 8)) aa ww=>Sta (ctx 203 H [] w) [(2,.val (z09 v1 0)),(4,.val (z09 v2 0)),(11,.val (z09 v314 0))] [(1,some (v1,.box 164 [.rd (z06 8 z1c) a0])),(2,some (v2,.box 164 [.rd (z06 8 z1c) (Vector.replicate 8 0)])),(433,some (v314,.box 164 [.rd (z06 8 z1c) s315]))] aa ww) ?_ (fun s315=>?_)
   ·
    refine gSR<|Za rfl<|Zn<|z2h (fun (s316:(Vector UInt32 8) × Int) aa ww=>Sta (ctx 203 H [] w) [(2,.val (z09 v1 0)),(4,.val (z09 v2 0)),(5,.val (n311 0)),(10,.val (n313 0)),(11,.val (z09 v314 0)),(12,.rd z0k s316.2)] [(1,some (v1,.box 164 [.rd (z06 8 z1c) a0])),(2,some (v2,.box 164 [.rd (z06 8 z1c) (Vector.replicate 8 0)])),(108,some ((n311 0),.list z1c 65 s21)),(432,some ((n313 0),.list z1c 65 r312)),(433,some (v314,.box 164 [.rd (z06 8 z1c) s316.1]))] aa ww) (fun aa ww h=>Zu h [1,2,108,432,433]) (fun s316=>?_)
    refine z0w<|gSR<|Zm rfl<|Zq (I.lss rfl rfl)<|Zn<|gIf rfl rfl (fun h317=>?_) (fun h317=>?_)
    ·
     refine Zt<|z0w<|z4q<|z0w<|zdn mixed (by kernel_rfl)<|z6a fun x318 h319=>Rq rfl (ixB 433 rfl rfl rfl h319 tu164 z3h)<|Rq rfl (ld 433 rfl rfl ((Foc.here).part (.el h319)) z4p rfl)<|z6a fun x320 h321=>Rq rfl (ixB 433 rfl rfl rfl h321 tu164 z3h)<|Rq rfl (ld 433 rfl rfl ((Foc.here).part (.el h321)) z4p rfl)<|z6a fun x322 h323=>Rq rfl (ixB 433 rfl rfl rfl h323 tu164 z3h)<|Rq rfl (ld 433 rfl rfl ((Foc.here).part (.el h323)) z4p rfl)<|z6a fun x324 h325=>Rq rfl (ixB 433 rfl rfl rfl h325 tu164 z3h)<|Rq rfl (ld 433 rfl rfl ((Foc.here).part (.el h325)) z4p rfl)<|z6a fun x326 h327=>Rq rfl (ixB 433 rfl rfl rfl h327 tu164 z3h)<|Rq rfl (ld 433 rfl rfl ((Foc.here).part (.el h327)) z4p rfl)<|z6a fun x328 h329=>Rq rfl (ixB 433 rfl rfl rfl h329 tu164 z3h)<|Rq rfl (ld 433 rfl rfl ((Foc.here).part (.el h329)) z4p rfl)<|Rq rfl (asg rfl)<|Rq rfl (asg rfl)<|Rq rfl (asg rfl)<|Rq rfl (asg rfl)<|Rq rfl (asg rfl)<|Rq rfl (asg rfl)<|zl6<|z0d<|z0w<|z5m [] mixed rfl rfl<|z0o fun x330 h331=>hTk 0 rfl rfl (ixB 433 rfl rfl rfl h331 tu164 z3h)<|hTk 1 rfl rfl (ld 433 rfl rfl ((Foc.here).part (.el h331)) z4p rfl)<|hTk 2 rfl rfl (mv rfl)<|hTk 4 rfl rfl (mv rfl)<|hTk 7 rfl rfl (mv rfl)<|hTk 11 rfl rfl (mv rfl)<|hTk 12 rfl rfl (mv rfl)<|hTk 13 rfl rfl (W.and rfl rfl)<|hTk 14 rfl rfl (mv rfl)<|hTk 15 rfl rfl (W.cpl rfl)<|hTk 16 rfl rfl (mv rfl)<|hTk 17 rfl rfl (W.and rfl rfl)<|hTk 18 rfl rfl (W.xor rfl rfl)<|hTk 20 rfl rfl (mv rfl)<|hTk 21 rfl rfl (mv rfl)<|z0o fun x332 h333=>hTk 22 rfl rfl (ixO 432 rfl rfl rfl h333 tu217 z3h)<|hTk 23 rfl rfl (ld 432 rfl rfl (Foc.el h333) z4p rfl)<|hTk 25 rfl rfl (mv rfl)<|hTk 26 rfl rfl (mv rfl)<|z0o fun x334 h335=>hTk 27 rfl rfl (ixO 108 rfl rfl rfl h335 tu217 z3h)<|hTk 28 rfl rfl (ld 108 rfl rfl (Foc.el h335) z4p rfl)<|z10 3 [] [] rfl (by kernel_rfl) rfl (gd0 rfl) rfl Tryz.func205 rfl rfl (z04 _ _) (Y2 rfl rfl) rN rfl (fun _ _=>z07) fun r336 n337=>z10 5 [] [] rfl (by kernel_rfl) rfl (gd0 rfl) rfl Tryz.func205 rfl rfl (z04 _ _) (Y2 rfl rfl) rN rfl (fun _ _=>z07) fun r338 n339=>hTk 6 rfl rfl (W.xor rfl rfl)<|z10 8 [] [] rfl (by kernel_rfl) rfl (gd0 rfl) rfl Tryz.func205 rfl rfl (z04 _ _) (Y2 rfl rfl) rN rfl (fun _ _=>z07) fun r340 n341=>hTk 9 rfl rfl (W.xor rfl rfl)<|hTk 10 rfl rfl (W.add rfl rfl)<|hTk 19 rfl rfl (W.add rfl rfl)<|hTk 24 rfl rfl (W.add rfl rfl)<|hTk 29 rfl rfl (W.add rfl rfl)<|hTk 30 rfl rfl (asg rfl)<|zxz 19 rfl rfl fun y342=>z0y (by kernel_rfl)<|z0d<|gSR<|Zm rfl<|Zc [] [] Tryz.func205 rfl (z04 _ _) fun r343 n344=>Zm rfl<|Zc [] [] Tryz.func205 rfl (z04 _ _) fun r345 n346=>Zq (W.xor rfl rfl)<|Zm rfl<|Zc [] [] Tryz.func205 rfl (z04 _ _) fun r347 n348=>Zq (W.xor rfl rfl)<|Zm rfl<|Zm rfl<|Zq (W.and rfl rfl)<|Zm rfl<|Zm rfl<|Zq (W.and rfl rfl)<|Zq (W.xor rfl rfl)<|Zm rfl<|Zm rfl<|Zq (W.and rfl rfl)<|Zq (W.xor rfl rfl)<|Zq (W.add rfl rfl)<|Za rfl<|z1e 20 rfl fun y349=>Zn<|z1m<|Zm rfl<|Zm rfl<|Zq (W.add rfl rfl)<|Zm rfl<|Zm rfl<|Zm rfl<|z0s fun x350 h351=>Zq (ixB 433 rfl rfl rfl h351 tu164 z3h)<|Zq (ld 433 rfl rfl ((Foc.here).part (.el h351)) z4p rfl)<|Zm rfl<|Zq (W.add rfl rfl)<|Zm rfl<|Zm rfl<|Zm rfl<|Zq (litA (R:=z1c) [y342+y349,x318,x320,x322,x350+y342,x324,x326,x328] (#v[y342+y349,x318,x320,x322,x350+y342,x324,x326,x328]:Vector UInt32 8) (pP rfl rfl<|pP rfl rfl<|pP rfl rfl<|pP rfl rfl<|pP rfl rfl<|pP rfl rfl<|pP rfl rfl<|pP rfl rfl<|pN) rfl tu164 zhb rfl z3h)<|Es (sto 433 rfl rfl Foc.here rfl zhb)<|z1f<|z1w<|z0d<|z1m<|Zm rfl<|Zq (I.add rfl rfl)<|Za rfl<|z1e 12 rfl fun y352=>z1f<|z0r (fun aa ww h=>Zu h [1,2,108,432,433])
    ·
     refine z1z<|z13<|z14<|z2x (fun aa ww h=>Zu h [1,2,433])
   ·
    refine z7f (fun (s353:(Vector UInt32 8)) aa ww=>Sta (ctx 203 H [] w) [(2,.val (z09 v1 0)),(4,.val (z09 v2 0))] [(1,some (v1,.box 164 [.rd (z06 8 z1c) s353])),(2,some (v2,.box 164 [.rd (z06 8 z1c) (Vector.replicate 8 0)]))] aa ww) ?_ (fun s353=>?_)
    ·
     refine gSR<|Za rfl<|Zn<|z2h (fun (s354:(Vector UInt32 8) × Int) aa ww=>Sta (ctx 203 H [] w) [(2,.val (z09 v1 0)),(4,.val (z09 v2 0)),(11,.val (z09 v314 0)),(21,.rd z0k s354.2)] [(1,some (v1,.box 164 [.rd (z06 8 z1c) s354.1])),(2,some (v2,.box 164 [.rd (z06 8 z1c) (Vector.replicate 8 0)])),(433,some (v314,.box 164 [.rd (z06 8 z1c) s315]))] aa ww) (fun aa ww h=>Zu h [1,2,433]) (fun s354=>?_)
     refine z0w<|gSR<|Zm rfl<|Zq (I.lss rfl rfl)<|Zn<|gIf rfl rfl (fun h355=>?_) (fun h355=>?_)
     ·
      refine Zt<|z0w<|z4q<|z5m [1] mixed rfl rfl<|hTk 0 rfl rfl (mv rfl)<|z0o fun x356 h357=>hTk 1 rfl rfl (ixB 1 rfl rfl rfl h357 tu164 z3h)<|hTk 3 rfl rfl (mv rfl)<|z0o fun x358 h359=>hTk 4 rfl rfl (ixB 433 rfl rfl rfl h359 tu164 z3h)<|hTk 5 rfl rfl (ld 433 rfl rfl ((Foc.here).part (.el h359)) z4p rfl)<|zii 2 rfl (by kernel_rfl) (gd0 rfl) rfl rfl z07 (ld 1 rfl rfl ((Foc.here).part (.el h357)) z4p rfl)<|hTk 6 rfl rfl (W.add rfl rfl)<|z0o fun x360 h361=>hTk 7 rfl rfl (ixB 1 rfl rfl rfl h361 tu164 z3h)<|Zp 8 rfl rfl rfl rfl rfl (sto 1 rfl rfl ((Foc.here).part (.el h361)) rfl z3h)<|z0y (by kernel_rfl)<|z1w<|z0d<|z1m<|Zm rfl<|Zq (I.add rfl rfl)<|Za rfl<|z1e 21 rfl fun y362=>z1f<|z0r (fun aa ww h=>Zu h [1,2,433])
     ·
      refine z1z<|z13<|z14<|z2x (fun aa ww h=>Zu h [1,2])
    ·
     refine gSR<|Zq (ld 1 rfl rfl Foc.here zp1 rfl)<|Es (sto 2 rfl rfl Foc.here rfl zhb)<|Zn<|z0m<|zge [] [] rfl (eC 2 rfl rfl zp1<|eN) (rN)
def z5k (a1:List UInt8) (s4:(Vector UInt32 8) × Int):Option (Sum ((Vector UInt32 8)) ((Vector UInt32 8) × Int)) :=
 if decide ((w64 (s4.2+64))≤(a1.length:Int)) then
  cut a1 s4.2 (w64 (s4.2+64)) >>= fun x6 =>
  z9p s4.1 x6 >>= fun r8 =>
  some (w64 (s4.2+64)) >>= fun y10 =>
  some (.inr (r8,y10))
 else
  some (.inl s4.1)
def z9v (a0:Vector UInt32 8) (a1:List UInt8):Option ((Vector UInt32 8)) :=
 (iter (z5k a1) (a0,0)) >>= fun s3 =>
 some s3
theorem zh4 (a0:Vector UInt32 8) (a1:List UInt8):z27 Tryz.prog 136 [.rd (z06 8 z1c) a0,.rd (z02 u8R) a1] [] (z9v a0 a1) (fun r nv=>⟨[.rd (z06 8 z1c) r],[]⟩):=by
 refine z2n 21 Tryz.func136 rfl rfl rfl fun H w=>?_
 refine gSR<|Eb rfl (bx 1 rfl) fun v1=>Eb rfl (z7s 2 zhb (.zr (R:=(z06 8 z1c)) (x:=(Vector.replicate 8 0)) zou)) fun v2=>Zn<|z7f (fun (s3:(Vector UInt32 8)) aa ww=>Sta (ctx 21 H [] w) [(2,.val (z09 v1 0)),(4,.val (z09 v2 0))] [(1,some (v1,.box 164 [.rd (z06 8 z1c) s3])),(2,some (v2,.box 164 [.rd (z06 8 z1c) (Vector.replicate 8 0)]))] aa ww) ?_ (fun s3=>?_)
 ·
  refine gSR<|Za rfl<|Zn<|z2h (fun (s4:(Vector UInt32 8) × Int) aa ww=>Sta (ctx 21 H [] w) [(1,.rd (z02 u8R) a1),(2,.val (z09 v1 0)),(4,.val (z09 v2 0)),(5,.rd z0k s4.2)] [(1,some (v1,.box 164 [.rd (z06 8 z1c) s4.1])),(2,some (v2,.box 164 [.rd (z06 8 z1c) (Vector.replicate 8 0)]))] aa ww) (fun aa ww h=>Zu h [1,2]) (fun s4=>?_)
  refine z0w<|gSR<|Zm rfl<|Zq (I.add rfl rfl)<|Zm rfl<|Zq (z37 rfl .rd rfl tu75)<|Zq (I.leq rfl rfl)<|Zn<|gIf rfl rfl (fun h5=>?_) (fun h5=>?_)
  ·
   refine Zt<|z0w<|z4q<|z5m [1] mixed rfl rfl<|hTk 1 rfl rfl (mv rfl)<|hTk 2 rfl rfl (mv rfl)<|hTk 3 rfl rfl (mv rfl)<|hTk 4 rfl rfl (I.add rfl rfl)<|z0o fun x6 h7=>hTk 5 rfl rfl (cut' rfl (.to rfl) (.to rfl) h7 tu75 ti5)<|zii 0 rfl (by kernel_rfl) (gd0 rfl) rfl rfl anyJ (ld 1 rfl rfl Foc.here zp1 rfl)<|zd9 6 [] [] rfl (by kernel_rfl) rfl (gd0 rfl) rfl Tryz.func176 rfl rfl (zhg _ _) (Y2 rfl rfl) rN rfl fun r8 n9=>Zp 7 rfl rfl rfl rfl rfl (sto 1 rfl rfl Foc.here rfl zhb)<|z0y (by kernel_rfl)<|z1w<|z0d<|z1m<|Zm rfl<|Zq (I.add rfl rfl)<|Za rfl<|z1e 5 rfl fun y10=>z1f<|z0r (fun aa ww h=>Zu h [1,2])
  ·
   refine z1z<|z13<|z14<|z2x (fun aa ww h=>Zu h [1,2])
 ·
  refine gSR<|Zq (ld 1 rfl rfl Foc.here zp1 rfl)<|Es (sto 2 rfl rfl Foc.here rfl zhb)<|Zn<|z0m<|zge [] [] rfl (eC 2 rfl rfl zp1<|eN) (rN)
def z4u (a0:Vector UInt32 8) (s5:(Vector UInt8 32) × Int):Option (Sum ((Vector UInt8 32)) ((Vector UInt8 32) × Int)) :=
 if decide (s5.2<32) then
  z86 a0 (w64 (Int.tdiv s5.2 4)) >>= fun x7 =>
  chk (0≤w64 (24 - (w64 (8 * (Int.tmod s5.2 4))))) >>= fun u9 =>
  z86 s5.1 s5.2 >>= fun x11 =>
  some (w64 (s5.2+1)) >>= fun y13 =>
  some (.inr (zjn s5.1 s5.2 ((z2e x7 ((w64 (24 - (w64 (8 * (Int.tmod s5.2 4)))):Int).toNat)).toUInt8),y13))
 else
  some (.inl s5.1)
def z96 (a0:Vector UInt32 8):Option ((Vector UInt8 32)) :=
 (iter (z4u a0) ((Vector.replicate 32 0),0)) >>= fun s4 =>
 some s4
theorem zgq (a0:Vector UInt32 8):z27 Tryz.prog 135 [.rd (z06 8 z1c) a0] [] (z96 a0) (fun r nv=>⟨[.rd (z06 32 u8R) r],[]⟩):=by
 refine z2n 22 Tryz.func135 rfl rfl rfl fun H w=>?_
 refine gSR<|Eb rfl (bx 1 rfl) fun v1=>Eb rfl (z7s 2 z1p (.zr (R:=(z06 32 u8R)) (x:=(Vector.replicate 32 0)) zj3)) fun v2=>Zn<|gSR<|Eb rfl (z7s 3 z1p (.zr (R:=(z06 32 u8R)) (x:=(Vector.replicate 32 0)) zj3)) fun v3=>Zn<|z7f (fun (s4:(Vector UInt8 32)) aa ww=>Sta (ctx 22 H [] w) [(2,.val (z09 v2 0)),(3,.val (z09 v3 0))] [(2,some (v2,.box 62 [.rd (z06 32 u8R) (Vector.replicate 32 0)])),(3,some (v3,.box 62 [.rd (z06 32 u8R) s4]))] aa ww) ?_ (fun s4=>?_)
 ·
  refine gSR<|Za rfl<|Zn<|z2h (fun (s5:(Vector UInt8 32) × Int) aa ww=>Sta (ctx 22 H [] w) [(1,.val (z09 v1 0)),(2,.val (z09 v2 0)),(3,.val (z09 v3 0)),(4,.rd z0k s5.2)] [(1,some (v1,.box 164 [.rd (z06 8 z1c) a0])),(2,some (v2,.box 62 [.rd (z06 32 u8R) (Vector.replicate 32 0)])),(3,some (v3,.box 62 [.rd (z06 32 u8R) s5.1]))] aa ww) (fun aa ww h=>Zu h [1,2,3]) (fun s5=>?_)
  refine z0w<|gSR<|Zm rfl<|Zq (I.lss rfl rfl)<|Zn<|gIf rfl rfl (fun h6=>?_) (fun h6=>?_)
  ·
   refine Zt<|z0w<|z4q<|z1m<|Zm rfl<|Zm rfl<|Zq (I.quo rfl rfl (by decide))<|z0s fun x7 h8=>Zq (ixB 1 rfl rfl rfl h8 tu164 z3h)<|Zq (ld 1 rfl rfl ((Foc.here).part (.el h8)) z4p rfl)<|Zm rfl<|Zq (I.rem rfl rfl (by decide))<|Zq (I.mul rfl rfl)<|Zq (I.sub rfl rfl)<|z0s fun u9 h10=>Zq (W.shr rfl rfl (z44 h10))<|Zq (W.toB rfl tu65 tu5)<|z0s fun x11 h12=>Zq (ixB 3 rfl rfl rfl h12 tu62 ti5)<|Es (sto 3 rfl rfl ((Foc.here).part (.el h12)) rfl ti5)<|z1f<|z1w<|z0d<|z1m<|Zm rfl<|Zq (I.add rfl rfl)<|Za rfl<|z1e 4 rfl fun y13=>z1f<|z0r (fun aa ww h=>Zu h [1,2,3])
  ·
   refine z1z<|z13<|z14<|z2x (fun aa ww h=>Zu h [2,3])
 ·
  refine gSR<|Zq (ld 3 rfl rfl Foc.here z49 rfl)<|Es (sto 2 rfl rfl Foc.here rfl z1p)<|Zn<|z0m<|zge [] [] rfl (eC 2 rfl rfl z49<|eN) (rN)
def zbs (a0:List UInt8):Option ((Vector UInt8 32)) :=
 zcn >>= fun r2 =>
 app 1 ([]:List UInt8) a0 >>= fun x5 =>
 zbh (a0.length:Int) >>= fun r8 =>
 app 1 x5 r8 >>= fun x10 =>
 z9v r2 x10 >>= fun r13 =>
 z96 r13 >>= fun r15 =>
 some r15
theorem zg2 (a0:List UInt8):z27 Tryz.prog 95 [.rd (z02 u8R) a0] [] (zbs a0) (fun r nv=>⟨[.rd (z06 32 u8R) r],[]⟩):=by
 refine z2n 13 Tryz.func95 rfl rfl rfl fun H w=>?_
 refine gSR<|Eb rfl (z7s 1 z1p (.zr (R:=(z06 32 u8R)) (x:=(Vector.replicate 32 0)) zj3)) fun v1=>Zn<|gSR<|Zc [] [] Tryz.func137 rfl (zih) fun r2 n3=>Ef rfl (lit (R:=u8R) (([]:List UInt8):List UInt8) 2 (pN) rfl tu75 ti5 rfl rfl) fun v4=>Zm rfl<|z0s fun x5 h6=>Ef rfl (apn 2 rfl rfl rfl .rd h6 tu75 ti5 rfl rfl rfl) fun v7=>Zm rfl<|Zq (z37 rfl .rd rfl tu75)<|Zc [] [(100,3)] Tryz.func138 rfl (zio _) fun r8 n9=>z0s fun x10 h11=>Ef rfl (apn 2 rfl rfl rfl (.own 3 rfl) h11 tu75 ti5 rfl rfl rfl) fun v12=>zgv 2 [10] rfl (fS rfl<|fN)<|Zc [] [] Tryz.func136 rfl (zh4 _ _) fun r13 n14=>Zc [] [] Tryz.func135 rfl (zgq _) fun r15 n16=>Es (sto 1 rfl rfl Foc.here rfl z1p)<|Zn<|z0m<|zge [] [] rfl (eC 1 rfl rfl z49<|eN) (rN)
def zcv (a0:z0g):Option ((Vector UInt8 32)) :=
 z8o a0 >>= fun r3 =>
 zbs r3 >>= fun r5 =>
 some r5
end
section
open Go Go.RowKit
set_option maxRecDepth 100000
theorem zl0 (a0:z0g):z27 Tryz.prog 58 [.rd z0c a0] [] (zcv a0) (fun r nv=>⟨[.rd (z06 32 u8R) r],[]⟩):=by
 refine z2n 6 Tryz.func58 rfl rfl rfl fun H w=>?_
 refine gSR<|Eb rfl (bx 1 rfl) fun v1=>Eb rfl (z7s 2 z1p (.zr (R:=(z06 32 u8R)) (x:=(Vector.replicate 32 0)) zj3)) fun v2=>Zn<|gSR<|Zq (ld 1 rfl rfl Foc.here zg5 rfl)<|Zc [] [(100,3)] Tryz.func96 rfl (zdl _) fun r3 n4=>zgv 3 [4] rfl (fS rfl<|fN)<|Zc [] [] Tryz.func95 rfl (zg2 _) fun r5 n6=>Es (sto 2 rfl rfl Foc.here rfl z1p)<|Zn<|z0m<|zge [] [] rfl (eC 2 rfl rfl z49<|eN) (rN)
def z84 (a0:Vector UInt8 32) (a1:Vector UInt8 32) (s4:Int):Option (Sum (Sum Int Unit) Int) :=
 if decide (s4<32) then
  z86 a0 s4 >>= fun x6 =>
  z86 a1 s4 >>= fun x8 =>
  if decide (x6<x8) then
   some (.inl (.inl (-1)))
  else
   z86 a0 s4 >>= fun x11 =>
   z86 a1 s4 >>= fun x13 =>
   if decide (x13<x11) then
    some (.inl (.inl 1))
   else
    some (.inr (w64 (s4+1)))
 else
  some (.inl (.inr ()))
def z90 (a0:Vector UInt8 32) (a1:Vector UInt8 32):Option (Int) :=
 z5p (iter (z84 a0 a1) 0) fun s3 =>
 some 0
theorem zes (a0:Vector UInt8 32) (a1:Vector UInt8 32):z27 Tryz.prog 110 [.rd (z06 32 u8R) a0,.rd (z06 32 u8R) a1] [] (z90 a0 a1) (fun r nv=>⟨[.rd z0k r],[]⟩):=by
 refine z2n 24 Tryz.func110 rfl rfl rfl fun H w=>?_
 refine gSR<|Eb rfl (bx 1 rfl) fun v1=>Eb rfl (bx 2 rfl) fun v2=>Za rfl<|Zn<|z7k (fun (s3:Unit) aa ww=>Sta (ctx 24 H [] w) [] [] aa ww) ?_ (fun s3=>?_)
 ·
  refine gSR<|Za rfl<|Zn<|z2h (fun (s4:Int) aa ww=>Sta (ctx 24 H [] w) [(2,.val (z09 v1 0)),(3,.val (z09 v2 0)),(5,.rd z0k s4)] [(1,some (v1,.box 62 [.rd (z06 32 u8R) a0])),(2,some (v2,.box 62 [.rd (z06 32 u8R) a1]))] aa ww) (fun aa ww h=>Zu h [1,2]) (fun s4=>?_)
  refine z0w<|gSR<|Zm rfl<|Zq (I.lss rfl rfl)<|Zn<|gIf rfl rfl (fun h5=>?_) (fun h5=>?_)
  ·
   refine Zt<|z0w<|z4q<|z0w<|z0w<|zdn mixed (by kernel_rfl)<|Rq rfl (mv rfl)<|z6a fun x6 h7=>Rq rfl (ixB 1 rfl rfl rfl h7 tu62 ti5)<|Rq rfl (ld 1 rfl rfl ((Foc.here).part (.el h7)) ty5 rfl)<|Rq rfl (mv rfl)<|z6a fun x8 h9=>Rq rfl (ixB 2 rfl rfl rfl h9 tu62 ti5)<|Rq rfl (ld 2 rfl rfl ((Foc.here).part (.el h9)) ty5 rfl)<|Rq rfl (B.lss rfl rfl)<|zl6<|z0d<|gIf rfl rfl (fun h10=>?_) (fun h10=>?_)
   ·
    refine gSR<|Za rfl<|Zn<|z0m<|z12<|z4a<|z12<|z7g<|z54<|Ze [] [] rfl
   ·
    refine Zt<|z0w<|zdn mixed (by kernel_rfl)<|Rq rfl (mv rfl)<|z6a fun x11 h12=>Rq rfl (ixB 1 rfl rfl rfl h12 tu62 ti5)<|Rq rfl (ld 1 rfl rfl ((Foc.here).part (.el h12)) ty5 rfl)<|Rq rfl (mv rfl)<|z6a fun x13 h14=>Rq rfl (ixB 2 rfl rfl rfl h14 tu62 ti5)<|Rq rfl (ld 2 rfl rfl ((Foc.here).part (.el h14)) ty5 rfl)<|Rq rfl (B.gtr rfl rfl)<|zl6<|z0d<|gIf rfl rfl (fun h15=>?_) (fun h15=>?_)
    ·
     refine gSR<|Za rfl<|Zn<|z0m<|z4a<|z12<|z7g<|z54<|Ze [] [] rfl
    ·
     refine z2l<|z1w<|z0d<|z1m<|Zm rfl<|Zq (I.add rfl rfl)<|Za rfl<|z1f<|z0r (fun aa ww h=>Zu h [1,2])
  ·
   refine z1z<|z13<|z14<|z4s (fun aa ww h=>Zu h [])
 ·
  refine gSR<|Za rfl<|Zn<|z0m<|Ze [] [] rfl
def z4i (a0:List (Vector UInt8 32)) (s2:Int):Option (Sum (Sum Bool Unit) Int) :=
 if decide (s2<(a0.length:Int)) then
  idx a0 (w64 (s2 - 1)) >>= fun x4 =>
  idx a0 s2 >>= fun x6 =>
  z90 x4 x6 >>= fun r8 =>
  if decide (0≤r8) then
   some (.inl (.inl false))
  else
   some (.inr (w64 (s2+1)))
 else
  some (.inl (.inr ()))
def z4n (a0:List (Vector UInt8 32)):Option (Bool) :=
 z5p (iter (z4i a0) 1) fun s1 =>
 some true
theorem zac (a0:List (Vector UInt8 32)):z27 Tryz.prog 108 [.rd (z02 (z06 32 u8R)) a0] [] (z4n a0) (fun r nv=>⟨[.rd z0n r],[]⟩):=by
 refine z2n 21 Tryz.func108 rfl rfl rfl fun H w=>?_
 refine gSR<|Za rfl<|Zn<|z7k (fun (s1:Unit) aa ww=>Sta (ctx 21 H [] w) [] [] aa ww) ?_ (fun s1=>?_)
 ·
  refine gSR<|Za rfl<|Zn<|z2h (fun (s2:Int) aa ww=>Sta (ctx 21 H [] w) [(0,.rd (z02 (z06 32 u8R)) a0),(3,.rd z0k s2)] [] aa ww) (fun aa ww h=>Zu h []) (fun s2=>?_)
  refine z0w<|gSR<|Zm rfl<|Zm rfl<|Zq (z37 rfl .rd rfl tu22)<|Zq (I.lss rfl rfl)<|Zn<|gIf rfl rfl (fun h3=>?_) (fun h3=>?_)
  ·
   refine Zt<|z0w<|z4q<|z0w<|z5m [] mixed rfl rfl<|hTk 0 rfl rfl (mv rfl)<|hTk 1 rfl rfl (mv rfl)<|hTk 2 rfl rfl (I.sub rfl rfl)<|z0o fun x4 h5=>hTk 3 rfl rfl (ixR rfl rfl h5 tu22 z1p rfl)<|hTk 4 rfl rfl (ldR rfl z49)<|hTk 5 rfl rfl (mv rfl)<|hTk 6 rfl rfl (mv rfl)<|z0o fun x6 h7=>hTk 7 rfl rfl (ixR rfl rfl h7 tu22 z1p rfl)<|hTk 8 rfl rfl (ldR rfl z49)<|z10 9 [] [] rfl (by kernel_rfl) rfl (gd0 rfl) rfl Tryz.func110 rfl rfl (zes _ _) (Y2 rfl rfl) rN rfl (fun _ _=>z07) fun r8 n9=>hTk 10 rfl rfl (I.geq rfl rfl)<|z0y (by kernel_rfl)<|z0d<|gIf rfl rfl (fun h10=>?_) (fun h10=>?_)
   ·
    refine gSR<|Za rfl<|Zn<|z0m<|z4a<|z12<|z7g<|z54<|Ze [] [] rfl
   ·
    refine z2l<|z1w<|z0d<|z1m<|Zm rfl<|Zq (I.add rfl rfl)<|Za rfl<|z1f<|z0r (fun aa ww h=>Zu h [])
  ·
   refine z1z<|z13<|z14<|z4s (fun aa ww h=>Zu h [])
 ·
  refine gSR<|Za rfl<|Zn<|z0m<|Ze [] [] rfl
def z65 (a2:UInt64) (s2:UInt64 × UInt64 × UInt64):Option (Sum UInt64 (UInt64 × UInt64 × UInt64)) :=
 if decide (0<s2.2.1) then
  (if (s2.2.1 % 2)==1 then
   chk (a2≠0) >>= fun u6 =>
   some ((s2.2.2 * s2.1) % a2) >>= fun y8 =>
   some y8
  else
   some s2.2.2) >>= fun s4 =>
  chk (a2≠0) >>= fun u9 =>
  some ((s2.1 * s2.1) % a2) >>= fun y11 =>
  some (.inr (y11,s2.2.1 / 2,s4))
 else
  some (.inl s2.2.2)
def z8u (a0:UInt64) (a1:UInt64) (a2:UInt64):Option (UInt64) :=
 (iter (z65 a2) (a0,a1,1)) >>= fun s1 =>
 some s1
theorem zd1 (a0:UInt64) (a1:UInt64) (a2:UInt64):z27 Tryz.prog 184 [.rd z2r a0,.rd z2r a1,.rd z2r a2] [] (z8u a0 a1 a2) (fun r nv=>⟨[.rd z2r r],[]⟩):=by
 refine z2n 26 Tryz.func184 rfl rfl rfl fun H w=>?_
 refine gSR<|Za rfl<|Zn<|gSR<|Za rfl<|Zn<|z7f (fun (s1:UInt64) aa ww=>Sta (ctx 26 H [] w) [(7,.rd z2r s1)] [] aa ww) ?_ (fun s1=>?_)
 ·
  refine z2h (fun (s2:UInt64 × UInt64 × UInt64) aa ww=>Sta (ctx 26 H [] w) [(0,.rd z2r s2.1),(1,.rd z2r s2.2.1),(2,.rd z2r a2),(7,.rd z2r s2.2.2)] [] aa ww) (fun aa ww h=>Zu h []) (fun s2=>?_)
  refine z0w<|gSR<|Zm rfl<|Zq (U.gtr rfl rfl)<|Zn<|gIf rfl rfl (fun h3=>?_) (fun h3=>?_)
  ·
   refine Zt<|z4q<|z7f (fun (s4:UInt64) aa ww=>Sta (ctx 26 H [] w) [(0,.rd z2r s2.1),(1,.rd z2r s2.2.1),(2,.rd z2r a2),(7,.rd z2r s4)] [] aa ww) ?_ (fun s4=>?_)
   ·
    refine gSR<|Zm rfl<|Zq (U.rem rfl rfl (by decide))<|Zq (U.eql rfl rfl)<|Zn<|gIf rfl rfl (fun h5=>?_) (fun h5=>?_)
    ·
     refine z1m<|Zm rfl<|Zm rfl<|Zq (U.mul rfl rfl)<|Zm rfl<|z0s fun u6 h7=>Zq (U.rem rfl rfl (z44 h7))<|Za rfl<|z1e 7 rfl fun y8=>z1f<|z2x (fun aa ww h=>Zu h [])
    ·
     refine z2l<|z2x (fun aa ww h=>Zu h [])
   ·
    refine gSR<|Zm rfl<|Zm rfl<|Zq (U.mul rfl rfl)<|Zm rfl<|z0s fun u9 h10=>Zq (U.rem rfl rfl (z44 h10))<|Za rfl<|z1e 0 rfl fun y11=>Zn<|z1m<|Zm rfl<|Zq (U.quo rfl rfl (by decide))<|Za rfl<|z1f<|z1w<|z0r (fun aa ww h=>Zu h [])
  ·
   refine z1z<|z13<|z14<|z2x (fun aa ww h=>Zu h [])
 ·
  refine gSR<|Zm rfl<|Za rfl<|Zn<|z0m<|Ze [] [] rfl
def zbk (a0:UInt32):Option (Bool) :=
 if decide (1≤a0) then
  if decide (a0<1000000007) then
   z8u a0.toUInt64 500000003 1000000007 >>= fun r3 =>
   some (r3==1)
  else
   some false
 else
  some false
theorem zfz (a0:UInt32):z27 Tryz.prog 147 [.rd z1c a0] [] (zbk a0) (fun r nv=>⟨[.rd z0n r],[]⟩):=by
 refine z2n 15 Tryz.func147 rfl rfl rfl fun H w=>?_
 refine gSR<|Za rfl<|Zn<|gSR<|Zm rfl<|Zq (W.geq rfl rfl)<|Zm rfl<|z1n 5 rfl (fun h1=>?_) (fun h1=>?_)
 ·
  refine lKn 4 rfl h1<|z0z Zx rfl rfl (mv rfl)<|z0z Zx rfl rfl (W.lss rfl rfl)<|Zq (pkT rfl rfl)<|Zm rfl<|z1n 9 rfl (fun h2=>?_) (fun h2=>?_)
  ·
   refine lKn 7 rfl h2<|lKn 8 rfl h2<|z0z Zx rfl rfl (mv rfl)<|z0z Zx rfl rfl (W.toU rfl tu65 tu41)<|zcw [] [] Zx rfl Tryz.func184 rfl rfl (zd1 _ _ _) (aQ rfl<|aQ rfl<|aQ rfl<|aN) rN fun r3 n4=>z0z Zx rfl rfl (U.eql rfl rfl)<|Zq (pkT rfl rfl)<|Za rfl<|Zn<|z0m<|Ze [] [] rfl
  ·
   refine lKn 7 rfl h2<|lKn 8 rfl h2<|Zk rfl<|Zk rfl<|Zk rfl<|Zk rfl<|Zq (pkF rfl rfl)<|Za rfl<|Zn<|z0m<|Ze [] [] rfl
 ·
  refine lKn 4 rfl h1<|Zk rfl<|Zk rfl<|Zq (pkF rfl rfl)<|Zm rfl<|Zk rfl<|Zk rfl<|Zk rfl<|Zk rfl<|Zq (pkF rfl rfl)<|Za rfl<|Zn<|z0m<|Ze [] [] rfl
def z71 (a0:List UInt8) (s4:Int):Option (Sum (Sum Bool Unit) Int) :=
 if decide (s4<(a0.length:Int)) then
  idx a0 s4 >>= fun x6 =>
  if decide (x6<33) then
   some (.inl (.inl false))
  else
   idx a0 s4 >>= fun x9 =>
   if decide (126<x9) then
    some (.inl (.inl false))
   else
    some (.inr (w64 (s4+1)))
 else
  some (.inl (.inr ()))
def z9a (a0:List UInt8):Option (Bool) :=
 if decide ((a0.length:Int)<1) then
  some false
 else
  if decide (20<(a0.length:Int)) then
   some false
  else
   z5p (iter (z71 a0) 0) fun s3 =>
   some true
theorem zdz (a0:List UInt8):z27 Tryz.prog 185 [.rd zhp a0] [] (z9a a0) (fun r nv=>⟨[.rd z0n r],[]⟩):=by
 refine z2n 28 Tryz.func185 rfl rfl rfl fun H w=>?_
 refine gSR<|Za rfl<|Zn<|z0w<|gSR<|Zm rfl<|Zq (zx4 rfl rfl tu9)<|Zq (I.lss rfl rfl)<|Zm rfl<|z1n 7 rfl (fun h1=>?_) (fun h1=>?_)
 ·
  refine lKn 6 rfl h1<|Zk rfl<|Zk rfl<|Zk rfl<|Zq (pkT rfl rfl)<|Zn<|zdg rfl<|gSR<|Za rfl<|Zn<|z0m<|z12<|Ze [] [] rfl
 ·
  refine lKn 6 rfl h1<|z0z Zx rfl rfl (mv rfl)<|z0z Zx rfl rfl (zx4 rfl rfl tu9)<|z0z Zx rfl rfl (I.gtr rfl rfl)<|Zq (pkF rfl rfl)<|Zn<|gIf rfl rfl (fun h2=>?_) (fun h2=>?_)
  ·
   refine gKn 10 rfl h2<|gSR<|Za rfl<|Zn<|z0m<|z12<|Ze [] [] rfl
  ·
   refine gKn 10 rfl h2<|Zt<|z7k (fun (s3:Unit) aa ww=>Sta (ctx 28 H [] w) [] [] aa ww) ?_ (fun s3=>?_)
   ·
    refine gSR<|Za rfl<|Zn<|z2h (fun (s4:Int) aa ww=>Sta (ctx 28 H [] w) [(0,.rd zhp a0),(3,.rd z0k s4)] [] aa ww) (fun aa ww h=>Zu h []) (fun s4=>?_)
    refine z0w<|gSR<|Zm rfl<|Zm rfl<|Zq (zx4 rfl rfl tu9)<|Zq (I.lss rfl rfl)<|Zn<|gIf rfl rfl (fun h5=>?_) (fun h5=>?_)
    ·
     refine Zt<|z0w<|z4q<|gSR<|Zm rfl<|Zm rfl<|z0s fun x6 h7=>Zq (idxT rfl rfl tu9 (z5r h7).1 (z5r h7).2.1)<|Zq (B.lss rfl rfl)<|Zm rfl<|z1n 22 rfl (fun h8=>?_) (fun h8=>?_)
     ·
      refine lKn 21 rfl h8<|Zk rfl<|Zk rfl<|Zk rfl<|Zk rfl<|Zq (pkT rfl rfl)<|Zn<|zdg rfl<|gSR<|Za rfl<|Zn<|z0m<|z4a<|z12<|z7g<|z54<|Ze [] [] rfl
     ·
      refine lKn 21 rfl h8<|z0z Zx rfl rfl (mv rfl)<|z0z Zx rfl rfl (mv rfl)<|z0s fun x9 h10=>z0z Zx rfl rfl (idxT rfl rfl tu9 (z5r h10).1 (z5r h10).2.1)<|z0z Zx rfl rfl (B.gtr rfl rfl)<|Zq (pkF rfl rfl)<|Zn<|gIf rfl rfl (fun h11=>?_) (fun h11=>?_)
      ·
       refine gKn 26 rfl h11<|gSR<|Za rfl<|Zn<|z0m<|z4a<|z12<|z7g<|z54<|Ze [] [] rfl
      ·
       refine gKn 26 rfl h11<|z2l<|z1w<|z0d<|z1m<|Zm rfl<|Zq (I.add rfl rfl)<|Za rfl<|z1f<|z0r (fun aa ww h=>Zu h [])
    ·
     refine z1z<|z13<|z14<|z4s (fun aa ww h=>Zu h [])
   ·
    refine gSR<|Za rfl<|Zn<|z0m<|Ze [] [] rfl
def z8k (a0:UInt64):Option (Int) :=
 some (w64 (((a0 % 9223372036854775808) / 4503599627370496).toNat:Int)) >>= fun y1 =>
 some y1
theorem zg8 (a0:UInt64):z27 Tryz.prog 235 [.rd z2r a0] [] (z8k a0) (fun r nv=>⟨[.rd z0k r],[]⟩):=by
 refine z2n 7 Tryz.func235 rfl rfl rfl fun H w=>?_
 refine gSR<|Za rfl<|Zn<|gSR<|Zm rfl<|Zq (U.rem rfl rfl (by decide))<|Zq (U.quo rfl rfl (by decide))<|Zq (U.toI rfl tu41 tu3)<|Za rfl<|z1e 2 rfl fun y1=>Zn<|z0m<|Ze [] [] rfl
def zb1 (a0:UInt64):Option (UInt64) :=
 some (a0 % 4503599627370496) >>= fun y1 =>
 some y1
theorem zg7 (a0:UInt64):z27 Tryz.prog 236 [.rd z2r a0] [] (zb1 a0) (fun r nv=>⟨[.rd z2r r],[]⟩):=by
 refine z2n 5 Tryz.func236 rfl rfl rfl fun H w=>?_
 refine gSR<|Za rfl<|Zn<|gSR<|Zm rfl<|Zq (U.rem rfl rfl (by decide))<|Za rfl<|z1e 2 rfl fun y1=>Zn<|z0m<|Ze [] [] rfl
def zaw (a0:UInt64):Option (UInt8) :=
 z8k a0 >>= fun r1 =>
 zb1 a0 >>= fun r3 =>
 z5p (if r1==0 then
  if r3==0 then
   some (.inl 1)
  else
   some (.inr ())
 else
  some (.inr ())) fun s5 =>
 if r1==0 then
  some 2
 else
  if decide (r1<2047) then
   some 3
  else
   if r3==0 then
    some 4
   else
    some 5
theorem zi2 (a0:UInt64):z27 Tryz.prog 228 [.rd z2r a0] [] (zaw a0) (fun r nv=>⟨[.rd u8R r],[]⟩):=by
 refine z2n 21 Tryz.func228 rfl rfl rfl fun H w=>?_
 refine gSR<|Za rfl<|Zn<|gSR<|Zm rfl<|Zc [] [] Tryz.func235 rfl (zg8 _) fun r1 n2=>Zm rfl<|Zc [] [] Tryz.func236 rfl (zg7 _) fun r3 n4=>Za rfl<|Za rfl<|Zn<|z7k (fun (s5:Unit) aa ww=>Sta (ctx 21 H [] w) [(3,.rd z0k r1),(4,.rd z2r r3)] [] aa ww) ?_ (fun s5=>?_)
 ·
  refine gSR<|Zm rfl<|Zq (I.eql rfl rfl)<|Zm rfl<|z1n 11 rfl (fun h6=>?_) (fun h6=>?_)
  ·
   refine lKn 10 rfl h6<|z0z Zx rfl rfl (mv rfl)<|z0z Zx rfl rfl (U.eql rfl rfl)<|Zq (pkT rfl rfl)<|Zn<|gIf rfl rfl (fun h7=>?_) (fun h7=>?_)
   ·
    refine gKn 13 rfl h7<|gSR<|Za rfl<|Zn<|z0m<|z54<|Ze [] [] rfl
   ·
    refine gKn 13 rfl h7<|z2l<|z4s (fun aa ww h=>Zu h [])
  ·
   refine lKn 10 rfl h6<|Zk rfl<|Zk rfl<|Zq (pkF rfl rfl)<|Zn<|zbl rfl<|z2l<|z4s (fun aa ww h=>Zu h [])
 ·
  refine z0w<|gSR<|Zm rfl<|Zq (I.eql rfl rfl)<|Zn<|gIf rfl rfl (fun h8=>?_) (fun h8=>?_)
  ·
   refine gSR<|Za rfl<|Zn<|z0m<|z12<|Ze [] [] rfl
  ·
   refine Zt<|z0w<|gSR<|Zm rfl<|Zq (I.lss rfl rfl)<|Zn<|gIf rfl rfl (fun h9=>?_) (fun h9=>?_)
   ·
    refine gSR<|Za rfl<|Zn<|z0m<|z12<|Ze [] [] rfl
   ·
    refine Zt<|z0w<|gSR<|Zm rfl<|Zq (U.eql rfl rfl)<|Zn<|gIf rfl rfl (fun h10=>?_) (fun h10=>?_)
    ·
     refine gSR<|Za rfl<|Zn<|z0m<|z12<|Ze [] [] rfl
    ·
     refine Zt<|gSR<|Za rfl<|Zn<|z0m<|Ze [] [] rfl
def zak (a0:UInt64):Option (UInt64) :=
 zaw a0 >>= fun r1 =>
 if r1==5 then
  some 9221120237041090560
 else
  some a0
theorem zij (a0:UInt64):z27 Tryz.prog 210 [.rd z2r a0] [] (zak a0) (fun r nv=>⟨[.rd z2r r],[]⟩):=by
 refine z2n 7 Tryz.func210 rfl rfl rfl fun H w=>?_
 refine gSR<|Za rfl<|Zn<|z0w<|gSR<|Zm rfl<|Zc [] [] Tryz.func228 rfl (zi2 _) fun r1 n2=>Zq (B.eql rfl rfl)<|Zn<|gIf rfl rfl (fun h3=>?_) (fun h3=>?_)
 ·
  refine gSR<|Za rfl<|Zn<|z0m<|z12<|Ze [] [] rfl
 ·
  refine Zt<|gSR<|Zm rfl<|Za rfl<|Zn<|z0m<|Ze [] [] rfl
def z4f (a0:List UInt8) (s2:Int):Option (Sum (Sum Bool Unit) Int) :=
 if decide (s2<(a0.length:Int)) then
  idx a0 s2 >>= fun x4 =>
  if decide (x4<32) then
   some (.inl (.inl false))
  else
   idx a0 s2 >>= fun x7 =>
   if decide (126<x7) then
    some (.inl (.inl false))
   else
    some (.inr (w64 (s2+1)))
 else
  some (.inl (.inr ()))
def z7r (a0:List UInt8):Option (Bool) :=
 z5p (iter (z4f a0) 0) fun s1 =>
 some true
theorem zfb (a0:List UInt8):z27 Tryz.prog 211 [.rd zhp a0] [] (z7r a0) (fun r nv=>⟨[.rd z0n r],[]⟩):=by
 refine z2n 20 Tryz.func211 rfl rfl rfl fun H w=>?_
 refine gSR<|Za rfl<|Zn<|z7k (fun (s1:Unit) aa ww=>Sta (ctx 20 H [] w) [] [] aa ww) ?_ (fun s1=>?_)
 ·
  refine gSR<|Za rfl<|Zn<|z2h (fun (s2:Int) aa ww=>Sta (ctx 20 H [] w) [(0,.rd zhp a0),(3,.rd z0k s2)] [] aa ww) (fun aa ww h=>Zu h []) (fun s2=>?_)
  refine z0w<|gSR<|Zm rfl<|Zm rfl<|Zq (zx4 rfl rfl tu9)<|Zq (I.lss rfl rfl)<|Zn<|gIf rfl rfl (fun h3=>?_) (fun h3=>?_)
  ·
   refine Zt<|z0w<|z4q<|gSR<|Zm rfl<|Zm rfl<|z0s fun x4 h5=>Zq (idxT rfl rfl tu9 (z5r h5).1 (z5r h5).2.1)<|Zq (B.lss rfl rfl)<|Zm rfl<|z1n 14 rfl (fun h6=>?_) (fun h6=>?_)
   ·
    refine lKn 13 rfl h6<|Zk rfl<|Zk rfl<|Zk rfl<|Zk rfl<|Zq (pkT rfl rfl)<|Zn<|zdg rfl<|gSR<|Za rfl<|Zn<|z0m<|z4a<|z12<|z7g<|z54<|Ze [] [] rfl
   ·
    refine lKn 13 rfl h6<|z0z Zx rfl rfl (mv rfl)<|z0z Zx rfl rfl (mv rfl)<|z0s fun x7 h8=>z0z Zx rfl rfl (idxT rfl rfl tu9 (z5r h8).1 (z5r h8).2.1)<|z0z Zx rfl rfl (B.gtr rfl rfl)<|Zq (pkF rfl rfl)<|Zn<|gIf rfl rfl (fun h9=>?_) (fun h9=>?_)
    ·
     refine gKn 18 rfl h9<|gSR<|Za rfl<|Zn<|z0m<|z4a<|z12<|z7g<|z54<|Ze [] [] rfl
    ·
     refine gKn 18 rfl h9<|z2l<|z1w<|z0d<|z1m<|Zm rfl<|Zq (I.add rfl rfl)<|Za rfl<|z1f<|z0r (fun aa ww h=>Zu h [])
  ·
   refine z1z<|z13<|z14<|z4s (fun aa ww h=>Zu h [])
 ·
  refine gSR<|Za rfl<|Zn<|z0m<|Ze [] [] rfl
def zaq (a0:z0b):Option (Int) :=
 if a0.Kind==1 then
  if a0.Bits==0 then
   if a0.Text==[] then
    some 0
   else
    some 8
  else
   some 8
 else
  if a0.Kind==2 then
   (if a0.Num==0 then
    if a0.Text==[] then
     zak a0.Bits >>= fun r9 =>
     some (r9==a0.Bits)
    else
     some false
   else
    some false) >>= fun s6 =>
   if s6 then
    some 0
   else
    some 8
  else
   if a0.Kind==3 then
    (if a0.Num==0 then
     if a0.Bits==0 then
      if decide ((a0.Text.length:Int)≤30) then
       z7r a0.Text >>= fun r17 =>
       some r17
      else
       some false
     else
      some false
    else
     some false) >>= fun s13 =>
    if s13 then
     some 0
    else
     some 8
   else
    some 8
theorem zi7 (a0:z0b):z27 Tryz.prog 186 [.rd z2i a0] [] (zaq a0) (fun r nv=>⟨[.rd z0k r],[]⟩):=by
 refine z2n 54 Tryz.func186 rfl rfl rfl fun H w=>?_
 refine gSR<|Eb rfl (bx 1 rfl) fun v1=>Za rfl<|Zn<|z0w<|gSR<|Zq (faB 1 rfl rfl Tryz.underlying67 rfl (by exact ti5))<|Zq (ld 1 rfl rfl ((Foc.here).part (z3e _)) ty5 rfl)<|Zn<|z4q<|gSR<|Zq (B.eql rfl rfl)<|Za rfl<|Zn<|gIf rfl rfl (fun h2=>?_) (fun h2=>?_)
 ·
  refine gKn 6 rfl h2<|gSR<|Zq (faB 1 rfl rfl Tryz.underlying67 rfl (by exact znl))<|Zq (ld 1 rfl rfl ((Foc.here).part (z42 _)) zmo rfl)<|Zq (U.eql rfl rfl)<|Zm rfl<|z1n 10 rfl (fun h3=>?_) (fun h3=>?_)
  ·
   refine lKn 9 rfl h3<|z0z Zx rfl rfl (faB 1 rfl rfl Tryz.underlying67 rfl (by exact ti9))<|z0z Zx rfl rfl (ld 1 rfl rfl ((Foc.here).part (z3n _)) ty9 rfl)<|z0z Zx rfl rfl (eqS rfl rfl)<|Zq (pkT rfl rfl)<|Zn<|gIf rfl rfl (fun h4=>?_) (fun h4=>?_)
   ·
    refine gKn 13 rfl h4<|gSR<|Za rfl<|Zn<|z0m<|z4a<|z12<|Ze [] [] rfl
   ·
    refine gKn 13 rfl h4<|z2l<|z1w<|z0d<|gSR<|Za rfl<|Zn<|z0m<|Ze [] [] rfl
  ·
   refine lKn 9 rfl h3<|Zk rfl<|Zk rfl<|Zk rfl<|Zq (pkF rfl rfl)<|Zn<|zbl rfl<|z2l<|z1w<|z0d<|gSR<|Za rfl<|Zn<|z0m<|Ze [] [] rfl
 ·
  refine gKn 6 rfl h2<|gSR<|Zq (B.eql rfl rfl)<|Za rfl<|Zn<|gIf rfl rfl (fun h5=>?_) (fun h5=>?_)
  ·
   refine gKn 16 rfl h5<|z7f (fun (s6:Bool) aa ww=>Sta (ctx 54 H [] w) [(32,.rd z0n s6)] [] aa ww) ?_ (fun s6=>?_)
   ·
    refine z5m [] mixed rfl rfl<|hTk 0 rfl rfl (faB 1 rfl rfl Tryz.underlying67 rfl (by exact ti2))<|hTk 1 rfl rfl (ld 1 rfl rfl ((Foc.here).part (z6r _)) ty2 rfl)<|hTk 2 rfl rfl (I.eql rfl rfl)<|hTk 3 rfl rfl (mv rfl)<|hIf 20 rfl rfl (fun h7=>?_) (fun h7=>?_)
    ·
     refine hKn 19 rfl rfl h7<|Zg 4 rfl rfl (faB 1 rfl rfl Tryz.underlying67 rfl (by exact ti9))<|Zg 5 rfl rfl (ld 1 rfl rfl ((Foc.here).part (z3n _)) ty9 rfl)<|Zg 6 rfl rfl (eqS rfl rfl)<|hTk 7 rfl rfl (pkT rfl rfl)<|hTk 8 rfl rfl (mv rfl)<|hIf 25 rfl rfl (fun h8=>?_) (fun h8=>?_)
     ·
      refine hKn 23 rfl rfl h8<|hKn 24 rfl rfl h8<|Zg 9 rfl rfl (faB 1 rfl rfl Tryz.underlying67 rfl (by exact znl))<|Zg 10 rfl rfl (ld 1 rfl rfl ((Foc.here).part (z42 _)) zmo rfl)<|Zg 12 rfl rfl (faB 1 rfl rfl Tryz.underlying67 rfl (by exact znl))<|Zg 13 rfl rfl (ld 1 rfl rfl ((Foc.here).part (z42 _)) zmo rfl)<|z10 11 [] [] rfl (by kernel_rfl) rfl Zx rfl Tryz.func210 rfl rfl (zij _) (Y1 rfl) rN rfl (fun _ _=>z07) fun r9 n10=>Zg 14 rfl rfl (U.eql rfl rfl)<|hTk 15 rfl rfl (pkT rfl rfl)<|z0y (by kernel_rfl)<|z2x (fun aa ww h=>Zu h [])
     ·
      refine hKn 23 rfl rfl h8<|hKn 24 rfl rfl h8<|hSk 9 rfl rfl<|hSk 10 rfl rfl<|hSk 11 rfl rfl<|hSk 12 rfl rfl<|hSk 13 rfl rfl<|hSk 14 rfl rfl<|hTk 15 rfl rfl (pkF rfl rfl)<|z0y (by kernel_rfl)<|z2x (fun aa ww h=>Zu h [])
    ·
     refine hKn 19 rfl rfl h7<|hSk 4 rfl rfl<|hSk 5 rfl rfl<|hSk 6 rfl rfl<|hTk 7 rfl rfl (pkF rfl rfl)<|hTk 8 rfl rfl (mv rfl)<|hSk 9 rfl rfl<|hSk 10 rfl rfl<|hSk 11 rfl rfl<|hSk 12 rfl rfl<|hSk 13 rfl rfl<|hSk 14 rfl rfl<|hTk 15 rfl rfl (pkF rfl rfl)<|z0y (by kernel_rfl)<|z2x (fun aa ww h=>Zu h [])
   ·
    refine gIf rfl rfl (fun h11=>?_) (fun h11=>?_)
    ·
     refine gSR<|Za rfl<|Zn<|z0m<|z4a<|z12<|Ze [] [] rfl
    ·
     refine z2l<|z1w<|z0d<|gSR<|Za rfl<|Zn<|z0m<|Ze [] [] rfl
  ·
   refine gKn 16 rfl h5<|gSR<|Zq (B.eql rfl rfl)<|Za rfl<|Zn<|gIf rfl rfl (fun h12=>?_) (fun h12=>?_)
   ·
    refine gKn 34 rfl h12<|z7f (fun (s13:Bool) aa ww=>Sta (ctx 54 H [] w) [(53,.rd z0n s13)] [] aa ww) ?_ (fun s13=>?_)
    ·
     refine z1m<|Zq (faB 1 rfl rfl Tryz.underlying67 rfl (by exact ti2))<|Zq (ld 1 rfl rfl ((Foc.here).part (z6r _)) ty2 rfl)<|Zq (I.eql rfl rfl)<|Zm rfl<|z1n 38 rfl (fun h14=>?_) (fun h14=>?_)
     ·
      refine lKn 37 rfl h14<|z0z Zx rfl rfl (faB 1 rfl rfl Tryz.underlying67 rfl (by exact znl))<|z0z Zx rfl rfl (ld 1 rfl rfl ((Foc.here).part (z42 _)) zmo rfl)<|z0z Zx rfl rfl (U.eql rfl rfl)<|Zq (pkT rfl rfl)<|Zm rfl<|z1n 43 rfl (fun h15=>?_) (fun h15=>?_)
      ·
       refine lKn 41 rfl h15<|lKn 42 rfl h15<|z0z Zx rfl rfl (faB 1 rfl rfl Tryz.underlying67 rfl (by exact ti9))<|z0z Zx rfl rfl (ld 1 rfl rfl ((Foc.here).part (z3n _)) ty9 rfl)<|z0z Zx rfl rfl (zx4 rfl rfl tu9)<|z0z Zx rfl rfl (I.leq rfl rfl)<|Zq (pkT rfl rfl)<|Zm rfl<|z1n 49 rfl (fun h16=>?_) (fun h16=>?_)
       ·
        refine lKn 47 rfl h16<|lKn 48 rfl h16<|z0z Zx rfl rfl (faB 1 rfl rfl Tryz.underlying67 rfl (by exact ti9))<|z0z Zx rfl rfl (ld 1 rfl rfl ((Foc.here).part (z3n _)) ty9 rfl)<|zcw [] [] Zx rfl Tryz.func211 rfl rfl (zfb _) (Y1 rfl) rN fun r17 n18=>Zq (pkT rfl rfl)<|z1f<|z2x (fun aa ww h=>Zu h [])
       ·
        refine lKn 47 rfl h16<|lKn 48 rfl h16<|Zk rfl<|Zk rfl<|Zk rfl<|Zq (pkF rfl rfl)<|z1f<|z2x (fun aa ww h=>Zu h [])
      ·
       refine lKn 41 rfl h15<|lKn 42 rfl h15<|Zk rfl<|Zk rfl<|Zk rfl<|Zk rfl<|Zq (pkF rfl rfl)<|Zm rfl<|Zk rfl<|Zk rfl<|Zk rfl<|Zq (pkF rfl rfl)<|z1f<|z2x (fun aa ww h=>Zu h [])
     ·
      refine lKn 37 rfl h14<|Zk rfl<|Zk rfl<|Zk rfl<|Zq (pkF rfl rfl)<|Zm rfl<|Zk rfl<|Zk rfl<|Zk rfl<|Zk rfl<|Zq (pkF rfl rfl)<|Zm rfl<|Zk rfl<|Zk rfl<|Zk rfl<|Zq (pkF rfl rfl)<|z1f<|z2x (fun aa ww h=>Zu h [])
    ·
     refine gIf rfl rfl (fun h19=>?_) (fun h19=>?_)
     ·
      refine gSR<|Za rfl<|Zn<|z0m<|z4a<|z12<|Ze [] [] rfl
     ·
      refine z2l<|z1w<|z0d<|gSR<|Za rfl<|Zn<|z0m<|Ze [] [] rfl
   ·
    refine gKn 34 rfl h12<|z2l<|z1w<|z0d<|gSR<|Za rfl<|Zn<|z0m<|Ze [] [] rfl
def z89 (a0:z1u):Option (Int) :=
 some (decide (a0.Value=(⟨0,0,0,[]⟩:z0b))) >>= fun y2 =>
 if a0.Kind==1 then
  if a0.Key==[] then
   if y2 then
    some 0
   else
    some 8
  else
   some 8
 else
  (if a0.Kind==2 then
   some true
  else
   some (a0.Kind==3)) >>= fun s6 =>
  if s6 then
   z9a a0.Key >>= fun r9 =>
   if r9 then
    if y2 then
     some 0
    else
     some 8
   else
    some 8
  else
   if a0.Kind==4 then
    z9a a0.Key >>= fun r14 =>
    if r14 then
     zaq a0.Value >>= fun r17 =>
     if r17==0 then
      some 0
     else
      some 8
    else
     some 8
   else
    some 8
theorem zg4 (a0:z1u):z27 Tryz.prog 148 [.rd z1i a0] [] (z89 a0) (fun r nv=>⟨[.rd z0k r],[]⟩):=by
 refine z2n 38 Tryz.func148 rfl rfl rfl fun H w=>?_
 refine gSR<|Eb rfl (bx 1 rfl) fun v1=>Za rfl<|Zn<|gSR<|Zq (faB 1 rfl rfl Tryz.underlying69 rfl (by exact zkj))<|Zq (ld 1 rfl rfl ((Foc.here).part (z5a _)) zr1 rfl)<|Zq (bld (x':=(⟨0,0,0,[]⟩:z0b)) [(0,1),(1,1),(2,1),(3,1)] Tryz.underlying67 zkj rfl zu0 rfl (Bld.done rfl))<|Zq (eqA rfl rfl eq67 rfl rfl gq67)<|Za rfl<|z1e 3 rfl fun y2=>Zn<|z0w<|gSR<|Zq (faB 1 rfl rfl Tryz.underlying69 rfl (by exact ti5))<|Zq (ld 1 rfl rfl ((Foc.here).part (z4c _)) ty5 rfl)<|Zn<|z4q<|gSR<|Zq (B.eql rfl rfl)<|Za rfl<|Zn<|gIf rfl rfl (fun h3=>?_) (fun h3=>?_)
 ·
  refine gKn 11 rfl h3<|gSR<|Zq (faB 1 rfl rfl Tryz.underlying69 rfl (by exact ti9))<|Zq (ld 1 rfl rfl ((Foc.here).part (z5v _)) ty9 rfl)<|Zq (eqS rfl rfl)<|Zm rfl<|z1n 15 rfl (fun h4=>?_) (fun h4=>?_)
  ·
   refine lKn 14 rfl h4<|z0z Zx rfl rfl (mv rfl)<|Zq (pkT rfl rfl)<|Zn<|gIf rfl rfl (fun h5=>?_) (fun h5=>?_)
   ·
    refine gKn 3 rfl h5<|gKn 16 rfl h5<|gSR<|Za rfl<|Zn<|z0m<|z4a<|z12<|Ze [] [] rfl
   ·
    refine gKn 3 rfl h5<|gKn 16 rfl h5<|z2l<|z1w<|z0d<|gSR<|Za rfl<|Zn<|z0m<|Ze [] [] rfl
  ·
   refine lKn 14 rfl h4<|Zk rfl<|Zq (pkF rfl rfl)<|Zn<|zbl rfl<|z2l<|z1w<|z0d<|gSR<|Za rfl<|Zn<|z0m<|Ze [] [] rfl
 ·
  refine gKn 11 rfl h3<|z7f (fun (s6:Bool) aa ww=>Sta (ctx 38 H [] w) [(1,.val (z09 v1 0)),(3,.rd z0n y2),(9,.rd u8R a0.Kind),(18,.rd z0n s6)] [(1,some (v1,.box 69 [.rd z1i a0]))] aa ww) ?_ (fun s6=>?_)
  ·
   refine gSR<|Zq (B.eql rfl rfl)<|Za rfl<|Zn<|gIf rfl rfl (fun h7=>?_) (fun h7=>?_)
   ·
    refine gKn 19 rfl h7<|z2l<|z2x (fun aa ww h=>Zu h [1])
   ·
    refine gKn 19 rfl h7<|z1m<|Zq (B.eql rfl rfl)<|Za rfl<|z1f<|z2x (fun aa ww h=>Zu h [1])
  ·
   refine gIf rfl rfl (fun h8=>?_) (fun h8=>?_)
   ·
    refine gSR<|Zq (faB 1 rfl rfl Tryz.underlying69 rfl (by exact ti9))<|Zq (ld 1 rfl rfl ((Foc.here).part (z5v _)) ty9 rfl)<|Zc [] [] Tryz.func185 rfl (zdz _) fun r9 n10=>Zm rfl<|z1n 24 rfl (fun h11=>?_) (fun h11=>?_)
    ·
     refine lKn 23 rfl h11<|z0z Zx rfl rfl (mv rfl)<|Zq (pkT rfl rfl)<|Zn<|gIf rfl rfl (fun h12=>?_) (fun h12=>?_)
     ·
      refine gKn 3 rfl h12<|gKn 25 rfl h12<|gSR<|Za rfl<|Zn<|z0m<|z4a<|z12<|Ze [] [] rfl
     ·
      refine gKn 3 rfl h12<|gKn 25 rfl h12<|z2l<|z1w<|z0d<|gSR<|Za rfl<|Zn<|z0m<|Ze [] [] rfl
    ·
     refine lKn 23 rfl h11<|Zk rfl<|Zq (pkF rfl rfl)<|Zn<|zbl rfl<|z2l<|z1w<|z0d<|gSR<|Za rfl<|Zn<|z0m<|Ze [] [] rfl
   ·
    refine gSR<|Zq (B.eql rfl rfl)<|Za rfl<|Zn<|gIf rfl rfl (fun h13=>?_) (fun h13=>?_)
    ·
     refine gKn 28 rfl h13<|gSR<|Zq (faB 1 rfl rfl Tryz.underlying69 rfl (by exact ti9))<|Zq (ld 1 rfl rfl ((Foc.here).part (z5v _)) ty9 rfl)<|Zc [] [] Tryz.func185 rfl (zdz _) fun r14 n15=>Zm rfl<|z1n 32 rfl (fun h16=>?_) (fun h16=>?_)
     ·
      refine lKn 31 rfl h16<|z0z Zx rfl rfl (faB 1 rfl rfl Tryz.underlying69 rfl (by exact zkj))<|z0z Zx rfl rfl (ld 1 rfl rfl ((Foc.here).part (z5a _)) zr1 rfl)<|zcw [] [] Zx rfl Tryz.func186 rfl rfl (zi7 _) (Y1 rfl) rN fun r17 n18=>z0z Zx rfl rfl (I.eql rfl rfl)<|Zq (pkT rfl rfl)<|Zn<|gIf rfl rfl (fun h19=>?_) (fun h19=>?_)
      ·
       refine gKn 36 rfl h19<|gSR<|Za rfl<|Zn<|z0m<|z4a<|z12<|Ze [] [] rfl
      ·
       refine gKn 36 rfl h19<|z2l<|z1w<|z0d<|gSR<|Za rfl<|Zn<|z0m<|Ze [] [] rfl
     ·
      refine lKn 31 rfl h16<|Zk rfl<|Zk rfl<|Zk rfl<|Zk rfl<|Zq (pkF rfl rfl)<|Zn<|zbl rfl<|z2l<|z1w<|z0d<|gSR<|Za rfl<|Zn<|z0m<|Ze [] [] rfl
    ·
     refine gKn 28 rfl h13<|z2l<|z1w<|z0d<|gSR<|Za rfl<|Zn<|z0m<|Ze [] [] rfl
def z3y (a0:UInt32):Option (Bool) :=
 some (decide (a0.toUInt64<500000003)) >>= fun y1 =>
 some y1
theorem z6e (a0:UInt32):z27 Tryz.prog 149 [.rd z1c a0] [] (z3y a0) (fun r nv=>⟨[.rd z0n r],[]⟩):=by
 refine z2n 6 Tryz.func149 rfl rfl rfl fun H w=>?_
 refine gSR<|Za rfl<|Zn<|gSR<|Zm rfl<|Zq (W.toU rfl tu65 tu41)<|Zq (U.lss rfl rfl)<|Za rfl<|z1e 2 rfl fun y1=>Zn<|z0m<|Ze [] [] rfl
def z5e (a0:z0g):Option (Int) :=
 if decide (4<(a0.Preds.length:Int)) then
  some 4
 else
  z4n a0.Preds >>= fun r3 =>
  if !r3 then
   some 32
  else
   (zbk a0.Author >>= fun r7 =>
   if !r7 then
    some true
   else
    if decide (1000000000000<a0.Stamp) then
     some true
    else
     z89 a0.Act >>= fun r11 =>
     if r11 != 0 then
      some true
     else
      z3y a0.Sig.E >>= fun r14 =>
      if !r14 then
       some true
      else
       z3y a0.Sig.S >>= fun r17 =>
       some (!r17)) >>= fun s6 =>
   if s6 then
    some 8
   else
    some 0
theorem z8d (a0:z0g):z27 Tryz.prog 103 [.rd z0c a0] [] (z5e a0) (fun r nv=>⟨[.rd z0k r],[]⟩):=by
 refine z2n 40 Tryz.func103 rfl rfl rfl fun H w=>?_
 refine gSR<|Eb rfl (bx 1 rfl) fun v1=>Za rfl<|Zn<|z0w<|gSR<|Zq (faB 1 rfl rfl Tryz.underlying73 rfl (by exact z2d))<|Zq (ld 1 rfl rfl ((Foc.here).part (z1l _)) z8l rfl)<|Zq (z37 rfl .rd rfl tu22)<|Zq (I.gtr rfl rfl)<|Zn<|gIf rfl rfl (fun h2=>?_) (fun h2=>?_)
 ·
  refine gSR<|Za rfl<|Zn<|z0m<|z12<|Ze [] [] rfl
 ·
  refine Zt<|z0w<|gSR<|Zq (faB 1 rfl rfl Tryz.underlying73 rfl (by exact z2d))<|Zq (ld 1 rfl rfl ((Foc.here).part (z1l _)) z8l rfl)<|Zc [] [] Tryz.func108 rfl (zac _) fun r3 n4=>Zq (zcy rfl)<|Zn<|gIf rfl rfl (fun h5=>?_) (fun h5=>?_)
  ·
   refine gSR<|Za rfl<|Zn<|z0m<|z12<|Ze [] [] rfl
  ·
   refine Zt<|z0w<|z7f (fun (s6:Bool) aa ww=>Sta (ctx 40 H [] w) [(39,.rd z0n s6)] [] aa ww) ?_ (fun s6=>?_)
   ·
    refine z1m<|Zq (faB 1 rfl rfl Tryz.underlying73 rfl (by exact z3h))<|Zq (ld 1 rfl rfl ((Foc.here).part (z4j _)) z4p rfl)<|Zc [] [] Tryz.func147 rfl (zfz _) fun r7 n8=>Zq (zcy rfl)<|Zm rfl<|z1n 15 rfl (fun h9=>?_) (fun h9=>?_)
    ·
     refine lKn 14 rfl h9<|Zk rfl<|Zk rfl<|Zk rfl<|Zq (pkT rfl rfl)<|Zm rfl<|Zk rfl<|Zk rfl<|Zk rfl<|Zk rfl<|Zq (pkT rfl rfl)<|Zm rfl<|Zk rfl<|Zk rfl<|Zk rfl<|Zk rfl<|Zk rfl<|Zq (pkT rfl rfl)<|Zm rfl<|Zk rfl<|Zk rfl<|Zk rfl<|Zk rfl<|Zk rfl<|Zq (pkT rfl rfl)<|z1f<|z2x (fun aa ww h=>Zu h [])
    ·
     refine lKn 14 rfl h9<|z0z Zx rfl rfl (faB 1 rfl rfl Tryz.underlying73 rfl (by exact znl))<|z0z Zx rfl rfl (ld 1 rfl rfl ((Foc.here).part (z7x _)) zmo rfl)<|z0z Zx rfl rfl (U.gtr rfl rfl)<|Zq (pkF rfl rfl)<|Zm rfl<|z1n 20 rfl (fun h10=>?_) (fun h10=>?_)
     ·
      refine lKn 18 rfl h10<|lKn 19 rfl h10<|Zk rfl<|Zk rfl<|Zk rfl<|Zk rfl<|Zq (pkT rfl rfl)<|Zm rfl<|Zk rfl<|Zk rfl<|Zk rfl<|Zk rfl<|Zk rfl<|Zq (pkT rfl rfl)<|Zm rfl<|Zk rfl<|Zk rfl<|Zk rfl<|Zk rfl<|Zk rfl<|Zq (pkT rfl rfl)<|z1f<|z2x (fun aa ww h=>Zu h [])
     ·
      refine lKn 18 rfl h10<|lKn 19 rfl h10<|z0z Zx rfl rfl (faB 1 rfl rfl Tryz.underlying73 rfl (by exact zor))<|z0z Zx rfl rfl (ld 1 rfl rfl ((Foc.here).part (z30 _)) ty69 rfl)<|zcw [] [] Zx rfl Tryz.func148 rfl rfl (zg4 _) (Y1 rfl) rN fun r11 n12=>z0z Zx rfl rfl (I.neq rfl rfl)<|Zq (pkF rfl rfl)<|Zm rfl<|z1n 26 rfl (fun h13=>?_) (fun h13=>?_)
      ·
       refine lKn 24 rfl h13<|lKn 25 rfl h13<|Zk rfl<|Zk rfl<|Zk rfl<|Zk rfl<|Zk rfl<|Zq (pkT rfl rfl)<|Zm rfl<|Zk rfl<|Zk rfl<|Zk rfl<|Zk rfl<|Zk rfl<|Zq (pkT rfl rfl)<|z1f<|z2x (fun aa ww h=>Zu h [])
      ·
       refine lKn 24 rfl h13<|lKn 25 rfl h13<|z0z Zx rfl rfl (faB 1 rfl rfl Tryz.underlying73 rfl (by exact zqv))<|z0z Zx rfl rfl (faB 1 rfl rfl Tryz.underlying71 rfl (by exact z3h))<|z0z Zx rfl rfl (ld 1 rfl rfl (((Foc.here).part (z3o _)).part (z5u _)) z4p rfl)<|zcw [] [] Zx rfl Tryz.func149 rfl rfl (z6e _) (Y1 rfl) rN fun r14 n15=>z0z Zx rfl rfl (zcy rfl)<|Zq (pkF rfl rfl)<|Zm rfl<|z1n 33 rfl (fun h16=>?_) (fun h16=>?_)
       ·
        refine lKn 31 rfl h16<|lKn 32 rfl h16<|Zk rfl<|Zk rfl<|Zk rfl<|Zk rfl<|Zk rfl<|Zq (pkT rfl rfl)<|z1f<|z2x (fun aa ww h=>Zu h [])
       ·
        refine lKn 31 rfl h16<|lKn 32 rfl h16<|z0z Zx rfl rfl (faB 1 rfl rfl Tryz.underlying73 rfl (by exact zqv))<|z0z Zx rfl rfl (faB 1 rfl rfl Tryz.underlying71 rfl (by exact z3h))<|z0z Zx rfl rfl (ld 1 rfl rfl (((Foc.here).part (z3o _)).part (z88 _)) z4p rfl)<|zcw [] [] Zx rfl Tryz.func149 rfl rfl (z6e _) (Y1 rfl) rN fun r17 n18=>z0z Zx rfl rfl (zcy rfl)<|Zq (pkF rfl rfl)<|z1f<|z2x (fun aa ww h=>Zu h [])
   ·
    refine gIf rfl rfl (fun h19=>?_) (fun h19=>?_)
    ·
     refine gSR<|Za rfl<|Zn<|z0m<|z12<|Ze [] [] rfl
    ·
     refine Zt<|gSR<|Za rfl<|Zn<|z0m<|Ze [] [] rfl
def z5z (a0:UInt32) (a1:UInt64):Option (UInt32) :=
 z8u a0.toUInt64 a1 1000000007 >>= fun r1 =>
 some r1.toUInt32
theorem zab (a0:UInt32) (a1:UInt64):z27 Tryz.prog 189 [.rd z1c a0,.rd z2r a1] [] (z5z a0 a1) (fun r nv=>⟨[.rd z1c r],[]⟩):=by
 refine z2n 10 Tryz.func189 rfl rfl rfl fun H w=>?_
 refine gSR<|Za rfl<|Zn<|gSR<|Zm rfl<|Zq (W.toU rfl tu65 tu41)<|Zm rfl<|Zc [] [] Tryz.func184 rfl (zd1 _ _ _) fun r1 n2=>Zq (U.toW rfl tu41 tu65)<|Za rfl<|Zn<|z0m<|Ze [] [] rfl
def ze9 (a0:UInt32):Option (UInt32 × Int) :=
 zbk a0 >>= fun r1 =>
 if !r1 then
  some (0,2)
 else
  z5z a0 500000002 >>= fun r4 =>
  some (r4,0)
theorem zkd (a0:UInt32):z27 Tryz.prog 188 [.rd z1c a0] [] (ze9 a0) (fun r nv=>⟨[.rd z1c r.1,.rd z0k r.2],[]⟩):=by
 refine z2n 9 Tryz.func188 rfl rfl rfl fun H w=>?_
 refine gSR<|Za rfl<|Za rfl<|Zn<|z0w<|gSR<|Zm rfl<|Zc [] [] Tryz.func147 rfl (zfz _) fun r1 n2=>Zq (zcy rfl)<|Zn<|gIf rfl rfl (fun h3=>?_) (fun h3=>?_)
 ·
  refine gSR<|Za rfl<|Za rfl<|Zn<|z0m<|z12<|Ze [] [] rfl
 ·
  refine Zt<|gSR<|Zm rfl<|Zc [] [] Tryz.func189 rfl (zab _ _) fun r4 n5=>Za rfl<|Za rfl<|Zn<|z0m<|Ze [] [] rfl
def zdh (a0:UInt64):Option (UInt32) :=
 z5z 4 a0 >>= fun r1 =>
 some r1
theorem zjf (a0:UInt64):z27 Tryz.prog 178 [.rd z2r a0] [] (zdh a0) (fun r nv=>⟨[.rd z1c r],[]⟩):=by
 refine z2n 5 Tryz.func178 rfl rfl rfl fun H w=>?_
 refine gSR<|Za rfl<|Zn<|gSR<|Zm rfl<|Zc [] [] Tryz.func189 rfl (zab _ _) fun r1 n2=>Za rfl<|Zn<|z0m<|Ze [] [] rfl
def zea (a0:UInt32):Option (UInt32) :=
 zdh a0.toUInt64 >>= fun r1 =>
 some r1
theorem zk9 (a0:UInt32):z27 Tryz.prog 143 [.rd z1c a0] [] (zea a0) (fun r nv=>⟨[.rd z1c r],[]⟩):=by
 refine z2n 6 Tryz.func143 rfl rfl rfl fun H w=>?_
 refine gSR<|Za rfl<|Zn<|gSR<|Zm rfl<|Zq (W.toU rfl tu65 tu41)<|Zc [] [] Tryz.func178 rfl (zjf _) fun r1 n2=>Za rfl<|Zn<|z0m<|Ze [] [] rfl
def zbj (a0:UInt32) (a1:UInt32):Option (UInt32) :=
 some (((a0.toUInt64 * a1.toUInt64) % 1000000007).toUInt32) >>= fun y1 =>
 some y1
theorem zgp (a0:UInt32) (a1:UInt32):z27 Tryz.prog 190 [.rd z1c a0,.rd z1c a1] [] (zbj a0 a1) (fun r nv=>⟨[.rd z1c r],[]⟩):=by
 refine z2n 12 Tryz.func190 rfl rfl rfl fun H w=>?_
 refine gSR<|Za rfl<|Zn<|gSR<|Zm rfl<|Zq (W.toU rfl tu65 tu41)<|Zm rfl<|Zq (W.toU rfl tu65 tu41)<|Zq (U.mul rfl rfl)<|Zq (U.rem rfl rfl (by decide))<|Zq (U.toW rfl tu41 tu65)<|Za rfl<|z1e 4 rfl fun y1=>Zn<|z0m<|Ze [] [] rfl
def z9c (a0:UInt32):Option ((List UInt8)) :=
 some [(a0 / 16777216).toUInt8,((a0 / 65536) % 256).toUInt8,((a0 / 256) % 256).toUInt8,(a0 % 256).toUInt8]
theorem zdy (a0:UInt32):z27 Tryz.prog 208 [.rd z1c a0] [] (z9c a0) (fun r nv=>⟨[.val (nv 0)],[(100,some (nv 0,.list u8R 5 r))]⟩):=by
 refine z2n 18 Tryz.func208 rfl rfl rfl fun H w=>?_
 refine gSR<|Za rfl<|Zn<|gSR<|Zm rfl<|Zq (W.quo rfl rfl (by decide))<|Zq (W.toB rfl tu65 tu5)<|Zm rfl<|Zq (W.quo rfl rfl (by decide))<|Zq (W.rem rfl rfl (by decide))<|Zq (W.toB rfl tu65 tu5)<|Zm rfl<|Zq (W.quo rfl rfl (by decide))<|Zq (W.rem rfl rfl (by decide))<|Zq (W.toB rfl tu65 tu5)<|Zm rfl<|Zq (W.rem rfl rfl (by decide))<|Zq (W.toB rfl tu65 tu5)<|Ef rfl (lit (R:=u8R) ([(a0 / 16777216).toUInt8,((a0 / 65536) % 256).toUInt8,((a0 / 256) % 256).toUInt8,(a0 % 256).toUInt8]:List UInt8) 1 (pP rfl rfl<|pP rfl rfl<|pP rfl rfl<|pP rfl rfl<|pN) rfl tu75 ti5 rfl rfl) fun v1=>Za rfl<|Zn<|z0m<|Ze [v1] [1] rfl
def z5j (r1:(Vector UInt8 32)) (s5:UInt64 × Int):Option (Sum UInt64 (UInt64 × Int)) :=
 if decide (s5.2<8) then
  z86 r1 s5.2 >>= fun x7 =>
  some ((256 * s5.1)+x7.toUInt64) >>= fun y9 =>
  some (w64 (s5.2+1)) >>= fun y10 =>
  some (.inr (y9,y10))
 else
  some (.inl s5.1)
def za5 (a0:List UInt8):Option (UInt64) :=
 zbs a0 >>= fun r1 =>
 (iter (z5j r1) (0,0)) >>= fun s4 =>
 some s4
theorem zhh (a0:List UInt8):z27 Tryz.prog 209 [.rd (z02 u8R) a0] [] (za5 a0) (fun r nv=>⟨[.rd z2r r],[]⟩):=by
 refine z2n 20 Tryz.func209 rfl rfl rfl fun H w=>?_
 refine gSR<|Za rfl<|Zn<|gSR<|Zm rfl<|Zc [] [] Tryz.func95 rfl (zg2 _) fun r1 n2=>Eb rfl (z7s 1 z1p (.zr (R:=(z06 32 u8R)) (x:=(Vector.replicate 32 0)) zj3)) fun v3=>Es (sto 1 rfl rfl Foc.here rfl z1p)<|Zn<|gSR<|Za rfl<|Zn<|z7f (fun (s4:UInt64) aa ww=>Sta (ctx 20 H [] w) [(4,.rd z2r s4)] [] aa ww) ?_ (fun s4=>?_)
 ·
  refine gSR<|Za rfl<|Zn<|z2h (fun (s5:UInt64 × Int) aa ww=>Sta (ctx 20 H [] w) [(3,.val (z09 v3 0)),(4,.rd z2r s5.1),(5,.rd z0k s5.2)] [(1,some (v3,.box 62 [.rd (z06 32 u8R) r1]))] aa ww) (fun aa ww h=>Zu h [1]) (fun s5=>?_)
  refine z0w<|gSR<|Zm rfl<|Zq (I.lss rfl rfl)<|Zn<|gIf rfl rfl (fun h6=>?_) (fun h6=>?_)
  ·
   refine Zt<|z0w<|z4q<|z1m<|Zm rfl<|Zq (U.mul rfl rfl)<|Zm rfl<|z0s fun x7 h8=>Zq (ixB 1 rfl rfl rfl h8 tu62 ti5)<|Zq (ld 1 rfl rfl ((Foc.here).part (.el h8)) ty5 rfl)<|Zq (B.toU rfl tu5 tu41)<|Zq (U.add rfl rfl)<|Za rfl<|z1e 4 rfl fun y9=>z1f<|z1w<|z0d<|z1m<|Zm rfl<|Zq (I.add rfl rfl)<|Za rfl<|z1e 5 rfl fun y10=>z1f<|z0r (fun aa ww h=>Zu h [1])
  ·
   refine z1z<|z13<|z14<|z2x (fun aa ww h=>Zu h [])
 ·
  refine gSR<|Zm rfl<|Za rfl<|Zn<|z0m<|Ze [] [] rfl
def z7t (a0:UInt32) (a1:UInt32) (a2:List UInt8):Option (UInt32) :=
 z9c a0 >>= fun r2 =>
 app 1 [99] r2 >>= fun x4 =>
 z9c a1 >>= fun r7 =>
 app 1 x4 r7 >>= fun x9 =>
 app 1 x9 a2 >>= fun x12 =>
 za5 x12 >>= fun r15 =>
 some ((r15 % 500000003).toUInt32) >>= fun y17 =>
 some y17
theorem zfl (a0:UInt32) (a1:UInt32) (a2:List UInt8):z27 Tryz.prog 180 [.rd z1c a0,.rd z1c a1,.rd (z02 u8R) a2] [] (z7t a0 a1 a2) (fun r nv=>⟨[.rd z1c r],[]⟩):=by
 refine z2n 21 Tryz.func180 rfl rfl rfl fun H w=>?_
 refine gSR<|Za rfl<|Zn<|gSR<|Ef rfl (lit (R:=u8R) ([99]:List UInt8) 1 (pP rfl rfl<|pN) rfl tu75 ti5 rfl rfl) fun v1=>Zm rfl<|Zc [] [(100,2)] Tryz.func208 rfl (zdy _) fun r2 n3=>z0s fun x4 h5=>Ef rfl (apn 1 rfl rfl rfl (.own 2 rfl) h5 tu75 ti5 rfl rfl rfl) fun v6=>Zm rfl<|Zc [] [(100,3)] Tryz.func208 rfl (zdy _) fun r7 n8=>z0s fun x9 h10=>Ef rfl (apn 1 rfl rfl rfl (.own 3 rfl) h10 tu75 ti5 rfl rfl rfl) fun v11=>Za rfl<|Zn<|gSR<|Zm rfl<|Zm rfl<|z0s fun x12 h13=>Ef rfl (apn 1 rfl rfl rfl .rd h13 tu75 ti5 rfl rfl rfl) fun v14=>zgv 1 [17] rfl (fS rfl<|fN)<|Zc [] [] Tryz.func209 rfl (zhh _) fun r15 n16=>Zq (U.rem rfl rfl (by decide))<|Zq (U.toW rfl tu41 tu65)<|Za rfl<|z1e 6 rfl fun y17=>Zn<|z0m<|Ze [] [] rfl
def zau (a0:UInt32) (a1:List UInt8) (a2:z0u):Option (Bool) :=
 z3y a2.E >>= fun r2 =>
 if !r2 then
  some false
 else
  z3y a2.S >>= fun r5 =>
  if !r5 then
   some false
  else
   z5z a0 a2.E.toUInt64 >>= fun r8 =>
   ze9 r8 >>= fun r10 =>
   zea a2.S >>= fun r12 =>
   zbj r12 r10.1 >>= fun r14 =>
   z7t r14 a0 a1 >>= fun r16 =>
   some (r16==a2.E)
theorem zhx (a0:UInt32) (a1:List UInt8) (a2:z0u):z27 Tryz.prog 152 [.rd z1c a0,.rd (z02 u8R) a1,.rd z1q a2] [] (zau a0 a1 a2) (fun r nv=>⟨[.rd z0n r],[]⟩):=by
 refine z2n 39 Tryz.func152 rfl rfl rfl fun H w=>?_
 refine gSR<|Eb rfl (bx 1 rfl) fun v1=>Za rfl<|Zn<|z0w<|gSR<|Zq (faB 1 rfl rfl Tryz.underlying71 rfl (by exact z3h))<|Zq (ld 1 rfl rfl ((Foc.here).part (z5u _)) z4p rfl)<|Zc [] [] Tryz.func149 rfl (z6e _) fun r2 n3=>Zq (zcy rfl)<|Zm rfl<|z1n 13 rfl (fun h4=>?_) (fun h4=>?_)
 ·
  refine lKn 12 rfl h4<|Zk rfl<|Zk rfl<|Zk rfl<|Zk rfl<|Zq (pkT rfl rfl)<|Zn<|zdg rfl<|gSR<|Za rfl<|Zn<|z0m<|z12<|Ze [] [] rfl
 ·
  refine lKn 12 rfl h4<|z0z Zx rfl rfl (faB 1 rfl rfl Tryz.underlying71 rfl (by exact z3h))<|z0z Zx rfl rfl (ld 1 rfl rfl ((Foc.here).part (z88 _)) z4p rfl)<|zcw [] [] Zx rfl Tryz.func149 rfl rfl (z6e _) (Y1 rfl) rN fun r5 n6=>z0z Zx rfl rfl (zcy rfl)<|Zq (pkF rfl rfl)<|Zn<|gIf rfl rfl (fun h7=>?_) (fun h7=>?_)
  ·
   refine gKn 17 rfl h7<|gSR<|Za rfl<|Zn<|z0m<|z12<|Ze [] [] rfl
  ·
   refine gKn 17 rfl h7<|Zt<|gSR<|Zm rfl<|Zq (faB 1 rfl rfl Tryz.underlying71 rfl (by exact z3h))<|Zq (ld 1 rfl rfl ((Foc.here).part (z5u _)) z4p rfl)<|Zq (W.toU rfl tu65 tu41)<|Zc [] [] Tryz.func189 rfl (zab _ _) fun r8 n9=>Zc [] [] Tryz.func188 rfl (zkd _) fun r10 n11=>Zm rfl<|Zq (ext rfl rfl)<|Zq (ext rfl rfl)<|Za rfl<|Za rfl<|Zn<|z0w<|z5m [] mixed rfl rfl<|hTk 0 rfl rfl (faB 1 rfl rfl Tryz.underlying71 rfl (by exact z3h))<|hTk 1 rfl rfl (ld 1 rfl rfl ((Foc.here).part (z88 _)) z4p rfl)<|hTk 3 rfl rfl (mv rfl)<|hTk 5 rfl rfl (mv rfl)<|hTk 6 rfl rfl (mv rfl)<|hTk 8 rfl rfl (faB 1 rfl rfl Tryz.underlying71 rfl (by exact z3h))<|hTk 9 rfl rfl (ld 1 rfl rfl ((Foc.here).part (z5u _)) z4p rfl)<|z10 2 [] [] rfl (by kernel_rfl) rfl (gd0 rfl) rfl Tryz.func143 rfl rfl (zk9 _) (Y1 rfl) rN rfl (fun _ _=>z07) fun r12 n13=>z10 4 [] [] rfl (by kernel_rfl) rfl (gd0 rfl) rfl Tryz.func190 rfl rfl (zgp _ _) (Y2 rfl rfl) rN rfl (fun _ _=>z07) fun r14 n15=>z10 7 [] [] rfl (by kernel_rfl) rfl (gd0 rfl) rfl Tryz.func180 rfl rfl (zfl _ _ _) (aQ rfl<|aQ rfl<|aQ rfl<|aN) rN rfl (fun _ _=>z07) fun r16 n17=>hTk 10 rfl rfl (W.eql rfl rfl)<|hTk 11 rfl rfl (asg rfl)<|z0y (by kernel_rfl)<|z0d<|z0m<|Ze [] [] rfl
def zc4 (a0:z0g):Option (Bool) :=
 z9l a0 >>= fun r2 =>
 zau a0.Author r2 a0.Sig >>= fun r4 =>
 some r4
theorem zh3 (a0:z0g):z27 Tryz.prog 107 [.rd z0c a0] [] (zc4 a0) (fun r nv=>⟨[.rd z0n r],[]⟩):=by
 refine z2n 10 Tryz.func107 rfl rfl rfl fun H w=>?_
 refine gSR<|Eb rfl (bx 1 rfl) fun v1=>Za rfl<|Zn<|z0w<|z5m [11] mixed rfl rfl<|hTk 0 rfl rfl (faB 1 rfl rfl Tryz.underlying73 rfl (by exact z3h))<|hTk 1 rfl rfl (ld 1 rfl rfl ((Foc.here).part (z4j _)) z4p rfl)<|hTk 2 rfl rfl (ld 1 rfl rfl Foc.here zg5 rfl)<|hTk 4 rfl rfl (faB 1 rfl rfl Tryz.underlying73 rfl (by exact zqv))<|hTk 5 rfl rfl (ld 1 rfl rfl ((Foc.here).part (z3o _)) ty71 rfl)<|z10 3 [] [(100,11)] rfl (by kernel_rfl) rfl (gd0 rfl) rfl Tryz.func139 rfl rfl (ze0 _) (Y1 rfl) rN rfl (fun _ _=>z05) fun r2 n3=>z2z 11 [6] rfl (fS rfl<|fN)<|z10 6 [] [] rfl (by kernel_rfl) rfl (gd0 rfl) rfl Tryz.func152 rfl rfl (zhx _ _ _) (aQ rfl<|aQ rfl<|aQ rfl<|aN) rN rfl (fun _ _=>zbv) fun r4 n5=>hTk 7 rfl rfl (asg rfl)<|z0y (by kernel_rfl)<|z0d<|z0m<|Ze [] [] rfl
def z9w (a0:z0g):Option (Int) :=
 z5e a0 >>= fun r2 =>
 if r2 != 0 then
  z5e a0 >>= fun r5 =>
  some r5
 else
  zc4 a0 >>= fun r7 =>
  if !r7 then
   some 22
  else
   some 0
theorem zh9 (a0:z0g):z27 Tryz.prog 69 [.rd z0c a0] [] (z9w a0) (fun r nv=>⟨[.rd z0k r],[]⟩):=by
 refine z2n 11 Tryz.func69 rfl rfl rfl fun H w=>?_
 refine gSR<|Eb rfl (bx 1 rfl) fun v1=>Za rfl<|Zn<|z0w<|gSR<|Zq (ld 1 rfl rfl Foc.here zg5 rfl)<|Zc [] [] Tryz.func103 rfl (z8d _) fun r2 n3=>Zq (I.neq rfl rfl)<|Zn<|gIf rfl rfl (fun h4=>?_) (fun h4=>?_)
 ·
  refine gSR<|Zq (ld 1 rfl rfl Foc.here zg5 rfl)<|Zc [] [] Tryz.func103 rfl (z8d _) fun r5 n6=>Za rfl<|Zn<|z0m<|z12<|Ze [] [] rfl
 ·
  refine Zt<|z0w<|gSR<|Zq (ld 1 rfl rfl Foc.here zg5 rfl)<|Zc [] [] Tryz.func107 rfl (zh3 _) fun r7 n8=>Zq (zcy rfl)<|Zn<|gIf rfl rfl (fun h9=>?_) (fun h9=>?_)
  ·
   refine gSR<|Za rfl<|Zn<|z0m<|z12<|Ze [] [] rfl
  ·
   refine Zt<|gSR<|Za rfl<|Zn<|z0m<|Ze [] [] rfl
end
section
open Go Go.RowKit
set_option maxRecDepth 100000
def z0q (a0:List (Vector UInt8 32)) (a1:Vector UInt8 32) (s4:Int × Int):Option (Sum Int (Int × Int)) :=
 if decide (s4.1<s4.2) then
  some (w64 ((z85 (UInt64.ofInt (w64 (s4.1+s4.2))) 1).toNat:Int)) >>= fun y6 =>
  idx a0 y6 >>= fun x7 =>
  z91 x7 a1 >>= fun r9 =>
  if decide (r9<0) then
   some (.inr (w64 (y6+1),s4.2))
  else
   some (.inr (s4.1,y6))
 else
  some (.inl s4.1)
def z1o (a0:List (Vector UInt8 32)) (a1:Vector UInt8 32):Option (Int × Bool) :=
 some (a0.length:Int) >>= fun y2 =>
 (iter (z0q a0 a1) (0,y2)) >>= fun s3 =>
 if decide (s3<y2) then
  idx a0 s3 >>= fun x13 =>
  z91 x13 a1 >>= fun r15 =>
  some (s3,r15==0)
 else
  some (s3,false)
theorem z4r (a0:List (Vector UInt8 32)) (a1:Vector UInt8 32):z27 Tryz.prog 104 [.rd (z02 (z06 32 u8R)) a0,.rd (z06 32 u8R) a1,.val (.func (.func 105) #[] #[])] [] (z1o a0 a1) (fun r nv=>⟨[.rd z0k r.1,.rd z0n r.2],[]⟩):=by
 refine z2n 49 Tryz.func104 rfl rfl rfl fun H w=>?_
 refine gSR<|Eb rfl (bx 1 rfl) fun v1=>Za rfl<|Za rfl<|Zn<|gSR<|Zm rfl<|Zq (z37 rfl .rd rfl tu22)<|Za rfl<|z1e 8 rfl fun y2=>Zn<|gSR<|Zm rfl<|Za rfl<|Za rfl<|Zn<|z7f (fun (s3:Int) aa ww=>Sta (ctx 49 H [] w) [(0,.rd (z02 (z06 32 u8R)) a0),(2,.val (.func (.func 105) #[] #[])),(4,.val (z09 v1 0)),(8,.rd z0k y2),(9,.rd z0k s3)] [(1,some (v1,.box 62 [.rd (z06 32 u8R) a1]))] aa ww) ?_ (fun s3=>?_)
 ·
  refine z2h (fun (s4:Int × Int) aa ww=>Sta (ctx 49 H [] w) [(0,.rd (z02 (z06 32 u8R)) a0),(2,.val (.func (.func 105) #[] #[])),(4,.val (z09 v1 0)),(8,.rd z0k y2),(9,.rd z0k s4.1),(10,.rd z0k s4.2)] [(1,some (v1,.box 62 [.rd (z06 32 u8R) a1]))] aa ww) (fun aa ww h=>Zu h [1]) (fun s4=>?_)
  refine z0w<|gSR<|Zm rfl<|Zm rfl<|Zq (I.lss rfl rfl)<|Zn<|gIf rfl rfl (fun h5=>?_) (fun h5=>?_)
  ·
   refine Zt<|z4q<|gSR<|Zm rfl<|Zm rfl<|Zq (I.add rfl rfl)<|Zq (I.toU rfl tu3 Tryz.underlying150)<|Zq (U.shr rfl rfl (Int.natCast_nonneg _))<|Zq (U.toI rfl Tryz.underlying150 tu3)<|Za rfl<|z1e 11 rfl fun y6=>Zn<|z0w<|z5m [] mixed rfl rfl<|hTk 0 rfl rfl (mv rfl)<|hTk 1 rfl rfl (mv rfl)<|hTk 2 rfl rfl (mv rfl)<|z0o fun x7 h8=>hTk 3 rfl rfl (ixR rfl rfl h8 tu22 z1p rfl)<|hTk 4 rfl rfl (ldR rfl z49)<|hTk 5 rfl rfl (ld 1 rfl rfl Foc.here z49 rfl)<|zrw 6 [] [] rfl (by kernel_rfl) rfl (gd0 rfl) rfl Tryz.func105 rfl rfl rfl (za2 _ _) (Y2 rfl rfl) (cN) rfl rN rfl (fun _ _=>z07) fun r9 n10=>hTk 7 rfl rfl (I.lss rfl rfl)<|z0y (by kernel_rfl)<|z0d<|gIf rfl rfl (fun h11=>?_) (fun h11=>?_)
   ·
    refine z1m<|Zm rfl<|Zq (I.add rfl rfl)<|Za rfl<|z1f<|z1w<|z0r (fun aa ww h=>Zu h [1])
   ·
    refine z1m<|Zm rfl<|Za rfl<|z1f<|z1w<|z0r (fun aa ww h=>Zu h [1])
  ·
   refine z1z<|z13<|z14<|z2x (fun aa ww h=>Zu h [1])
 ·
  refine z0w<|z5m [] mixed rfl rfl<|hTk 0 rfl rfl (mv rfl)<|hTk 1 rfl rfl (mv rfl)<|hTk 2 rfl rfl (mv rfl)<|hTk 3 rfl rfl (I.lss rfl rfl)<|hTk 4 rfl rfl (mv rfl)<|hIf 39 rfl rfl (fun h12=>?_) (fun h12=>?_)
  ·
   refine hKn 38 rfl rfl h12<|Zg 5 rfl rfl (mv rfl)<|Zg 6 rfl rfl (mv rfl)<|Zg 7 rfl rfl (mv rfl)<|z0o fun x13 h14=>Zg 8 rfl rfl (ixR rfl rfl h14 tu22 z1p rfl)<|Zg 9 rfl rfl (ldR rfl z49)<|Zg 10 rfl rfl (ld 1 rfl rfl Foc.here z49 rfl)<|zrw 11 [] [] rfl (by kernel_rfl) rfl Zx rfl Tryz.func105 rfl rfl rfl (za2 _ _) (Y2 rfl rfl) (cN) rfl rN rfl (fun _ _=>z07) fun r15 n16=>Zg 12 rfl rfl (I.eql rfl rfl)<|hTk 13 rfl rfl (pkT rfl rfl)<|hTk 14 rfl rfl (asg rfl)<|hTk 15 rfl rfl (asg rfl)<|z0y (by kernel_rfl)<|z0d<|z0m<|Ze [] [] rfl
  ·
   refine hKn 38 rfl rfl h12<|hSk 5 rfl rfl<|hSk 6 rfl rfl<|hSk 7 rfl rfl<|hSk 8 rfl rfl<|hSk 9 rfl rfl<|hSk 10 rfl rfl<|hSk 11 rfl rfl<|hSk 12 rfl rfl<|hTk 13 rfl rfl (pkF rfl rfl)<|hTk 14 rfl rfl (asg rfl)<|hTk 15 rfl rfl (asg rfl)<|z0y (by kernel_rfl)<|z0d<|z0m<|Ze [] [] rfl
def ziz (a0:z01) (a1:Vector UInt8 32):Option (Int × Bool) :=
 z1o a0.IDs a1 >>= fun r3 =>
 some (r3.1,r3.2)
theorem zlx (a0:z01) (a1:Vector UInt8 32):z27 Tryz.prog 65 [.rd z03 a0,.rd (z06 32 u8R) a1] [] (ziz a0 a1) (fun r nv=>⟨[.rd z0k r.1,.rd z0n r.2],[]⟩):=by
 refine z2n 12 Tryz.func65 rfl rfl rfl fun H w=>?_
 refine gSR<|Eb rfl (bx 1 rfl) fun v1=>Eb rfl (bx 2 rfl) fun v2=>Za rfl<|Za rfl<|Zn<|gSR<|Zq (faB 1 rfl rfl Tryz.underlying25 rfl (by exact z2d))<|Zq (ld 1 rfl rfl ((Foc.here).part (z0j _)) z8l rfl)<|Zq (ld 2 rfl rfl Foc.here z49 rfl)<|Zc [] [] Tryz.func104 rfl (z4r _ _) fun r3 n4=>Zq (ext rfl rfl)<|Zq (ext rfl rfl)<|Za rfl<|Za rfl<|Zn<|z0m<|Ze [] [] rfl
def z9k (a0:z01) (s3:Int):Option (Sum (Sum Int Unit) Int) :=
 if decide (s3<(a0.IDs.length:Int)) then
  idx a0.IDs (w64 (s3 - 1)) >>= fun x5 =>
  idx a0.IDs s3 >>= fun x7 =>
  z91 x5 x7 >>= fun r9 =>
  if decide (0≤r9) then
   some (.inl (.inl 32))
  else
   some (.inr (w64 (s3+1)))
 else
  some (.inl (.inr ()))
def zb7 (a0:z01) (s19:(List Int) × (List (List Int)) × (List Int) × Int) (x22:z0g) (s26:(List (List Int)) × Int):Option (Sum (Sum (Sum (Sum Int ((List Int) × (List (List Int)) × (List Int))) ((List Int) × (List (List Int)) × (List Int) × Int)) ((List (List Int)))) ((List (List Int)) × Int)) :=
 if decide (s26.2<(x22.Preds.length:Int)) then
  idx x22.Preds s26.2 >>= fun x29 =>
  ziz a0 x29 >>= fun r32 =>
  if !r32.2 then
   some (.inl (.inl (.inl (.inl 40))))
  else
   idx s26.1 r32.1 >>= fun x35 =>
   app 8 x35 [s19.2.2.2] >>= fun x38 =>
   some (.inr (s26.1.set (r32.1:Int).toNat x38,w64 (s26.2+1)))
 else
  some (.inl (.inr s26.1))
def zb3 (a0:z01) (s19:(List Int) × (List (List Int)) × (List Int) × Int):Option (Sum (Sum Int ((List Int) × (List (List Int)) × (List Int))) ((List Int) × (List (List Int)) × (List Int) × Int)) :=
 if decide (s19.2.2.2<(a0.Ops.length:Int)) then
  idx a0.Ops s19.2.2.2 >>= fun x22 =>
  z5p (iter (zb7 a0 s19 x22) (s19.2.1,0)) fun s25 =>
  idx s19.1 s19.2.2.2 >>= fun x42 =>
  idx (s19.1.set (s19.2.2.2:Int).toNat (x22.Preds.length:Int)) s19.2.2.2 >>= fun x44 =>
  if x44==0 then
   app 8 s19.2.2.1 [s19.2.2.2] >>= fun x48 =>
   some (.inr (s19.1.set (s19.2.2.2:Int).toNat (x22.Preds.length:Int),s25,x48,w64 (s19.2.2.2+1)))
  else
   some (.inr (s19.1.set (s19.2.2.2:Int).toNat (x22.Preds.length:Int),s25,s19.2.2.1,w64 (s19.2.2.2+1)))
 else
  some (.inl (.inr (s19.1,s19.2.1,s19.2.2.1)))
def zb6 (x59:List Int) (s61:(List Int) × (List Int) × Int):Option (Sum ((List Int) × (List Int)) ((List Int) × (List Int) × Int)) :=
 if decide (s61.2.2<(x59.length:Int)) then
  idx x59 s61.2.2 >>= fun x64 =>
  idx s61.1 x64 >>= fun x66 =>
  idx s61.1 x64 >>= fun x68 =>
  idx (s61.1.set (x64:Int).toNat (w64 (x66 - 1))) x64 >>= fun x70 =>
  if x70==0 then
   app 8 s61.2.1 [x64] >>= fun x74 =>
   some (.inr (s61.1.set (x64:Int).toNat (w64 (x66 - 1)),x74,w64 (s61.2.2+1)))
  else
   some (.inr (s61.1.set (x64:Int).toNat (w64 (x66 - 1)),s61.2.1,w64 (s61.2.2+1)))
 else
  some (.inl (s61.1,s61.2.1))
def zcj (s18:(List Int) × (List (List Int)) × (List Int)) (s53:(List Int) × (List Int) × Int):Option (Sum Int ((List Int) × (List Int) × Int)) :=
 if decide (s53.2.2<(s53.2.1.length:Int)) then
  (idx s53.2.1 s53.2.2 >>= fun x57 =>
  idx s18.2.1 x57 >>= fun x59 =>
  iter (zb6 x59) (s53.1,s53.2.1,0)) >>= fun s56 =>
  some (w64 (s53.2.2+1)) >>= fun y78 =>
  some (.inr (s56.1,s56.2,y78))
 else
  some (.inl s53.2.2)
def zjc (a0:z01):Option (Int) :=
 z5p (iter (z9k a0) 1) fun s2 =>
 mkn 8 0 (a0.Ops.length:Int) >>= fun x12 =>
 mkn 24 ([]:List Int) (a0.Ops.length:Int) >>= fun x15 =>
 z5p (iter (zb3 a0) (x12,x15,[],0)) fun s18 =>
 (iter (zcj s18) (s18.1,s18.2.2,0)) >>= fun s52 =>
 if decide (s52<(a0.Ops.length:Int)) then
  some 36
 else
  some 0
theorem zpd (a0:z01):z27 Tryz.prog 113 [.rd z03 a0] [] (zjc a0) (fun r nv=>⟨[.rd z0k r],[]⟩):=by
 refine z2n 133 Tryz.func113 rfl rfl rfl fun H w=>?_
 refine gSR<|Eb rfl (bx 1 rfl) fun v1=>Za rfl<|Zn<|z7k (fun (s2:Unit) aa ww=>Sta (ctx 133 H [] w) [(1,.val (z09 v1 0))] [(1,some (v1,.box 25 [.rd z03 a0]))] aa ww) ?_ (fun s2=>?_)
 ·
  refine gSR<|Za rfl<|Zn<|z2h (fun (s3:Int) aa ww=>Sta (ctx 133 H [] w) [(1,.val (z09 v1 0)),(3,.rd z0k s3)] [(1,some (v1,.box 25 [.rd z03 a0]))] aa ww) (fun aa ww h=>h.sub [1] (sS rfl<|sS rfl<|sN) (y1 rfl)) (fun s3=>?_)
  refine z0w<|gSR<|Zm rfl<|Zq (faB 1 rfl rfl Tryz.underlying25 rfl (by exact z2d))<|Zq (ld 1 rfl rfl ((Foc.here).part (z0j _)) z8l rfl)<|Zq (z37 rfl .rd rfl tu22)<|Zq (I.lss rfl rfl)<|Zn<|gIf rfl rfl (fun h4=>?_) (fun h4=>?_)
  ·
   refine Zt<|z0w<|z4q<|z0w<|z5m [] mixed rfl rfl<|hTk 0 rfl rfl (faB 1 rfl rfl Tryz.underlying25 rfl (by exact z2d))<|hTk 1 rfl rfl (ld 1 rfl rfl ((Foc.here).part (z0j _)) z8l rfl)<|hTk 2 rfl rfl (mv rfl)<|hTk 3 rfl rfl (I.sub rfl rfl)<|z0o fun x5 h6=>hTk 4 rfl rfl (ixR rfl rfl h6 tu22 z1p rfl)<|hTk 5 rfl rfl (ldR rfl z49)<|hTk 6 rfl rfl (faB 1 rfl rfl Tryz.underlying25 rfl (by exact z2d))<|hTk 7 rfl rfl (ld 1 rfl rfl ((Foc.here).part (z0j _)) z8l rfl)<|hTk 8 rfl rfl (mv rfl)<|z0o fun x7 h8=>hTk 9 rfl rfl (ixR rfl rfl h8 tu22 z1p rfl)<|hTk 10 rfl rfl (ldR rfl z49)<|z10 11 [] [] rfl (by kernel_rfl) rfl (gd0 rfl) rfl Tryz.func105 rfl rfl (za2 _ _) (Y2 rfl rfl) rN rfl (fun _ _=>z07) fun r9 n10=>hTk 12 rfl rfl (I.geq rfl rfl)<|z0y (by kernel_rfl)<|z0d<|gIf rfl rfl (fun h11=>?_) (fun h11=>?_)
   ·
    refine gSR<|Za rfl<|Zn<|z0m<|z4a<|z12<|z7g<|z54<|zge [] [] rfl (eE rfl<|eN) (rN)
   ·
    refine z2l<|z1w<|z0d<|z1m<|Zm rfl<|Zq (I.add rfl rfl)<|Za rfl<|z1f<|z0r (fun aa ww h=>h.sub [1] (sS rfl<|sS rfl<|sN) (y1 rfl))
  ·
   refine z1z<|z13<|z14<|z4s (fun aa ww h=>h.sub [1] (sS rfl<|sN) (y1 rfl))
 ·
  refine gSR<|Zq (faB 1 rfl rfl Tryz.underlying25 rfl (by exact z40))<|Zq (ld 1 rfl rfl ((Foc.here).part (z0f _)) zg6 rfl)<|Zq (z37 rfl .rd rfl tu23)<|z0s fun x12 h13=>Ef rfl (mks (R:=z0k) 44 rfl rfl h13 tu142 ti3 (Zr.num rfl) rfl) fun v14=>Za rfl<|Zn<|gSR<|Zq (faB 1 rfl rfl Tryz.underlying25 rfl (by exact z40))<|Zq (ld 1 rfl rfl ((Foc.here).part (z0f _)) zg6 rfl)<|Zq (z37 rfl .rd rfl tu23)<|z0s fun x15 h16=>Ef rfl (mksF 45 rfl rfl h16 Tryz.underlying178 zz0 rfl) fun v17=>z13g (base:=100000) (lits:=[(1,some (v1,.box 25 [.rd z03 a0])),(44,some (v14,.list z0k 3 x12)),(45,some (v17,.list zhj 142 (zbr (fun _=>Value.slice none 0 0) x15)))]) z0k 3 [1,44,45] (z114 h16) (Zi rfl<|Zi rfl<|Zi rfl<|rN)<|Za rfl<|Zn<|gSR<|Za rfl<|Zn<|z7k (fun (s18:(List Int) × (List (List Int)) × (List Int)) aa ww=>∃ nv:Nat→Value,Sta (ctx 133 H [] w) [(1,.val (z09 v1 0)),(4,.val v14),(5,.val v17),(6,.val (nv 0))] ([(1,some (v1,.box 25 [.rd z03 a0])),(44,some (v14,.list z0k 3 s18.1)),(45,some (v17,.list zhj 142 (zbr (fun j=>nv (j+1)) s18.2.1))),(50,some ((nv 0),.list z0k 3 s18.2.2))]++zoo 100000 z0k 3 (fun j=>nv (j+1)) s18.2.1 0) aa ww) ?_ (fun s18=>?_)
  ·
   refine gSR<|Zq (faB 1 rfl rfl Tryz.underlying25 rfl (by exact z40))<|Zq (ld 1 rfl rfl ((Foc.here).part (z0f _)) zg6 rfl)<|Zq (z37 rfl .rd rfl tu23)<|Zm rfl<|Zn<|zrq z0k 3 56<|z2h (fun (s19:(List Int) × (List (List Int)) × (List Int) × Int) aa ww=>∃ nv:Nat→Value,Sta (ctx 133 H [] w) [(1,.val (z09 v1 0)),(4,.val v14),(5,.val v17),(6,.val (nv 0)),(45,.rd (z02 z0c) a0.Ops),(46,.rd z0k (a0.Ops.length:Int)),(47,.rd z0k s19.2.2.2)] ([(1,some (v1,.box 25 [.rd z03 a0])),(44,some (v14,.list z0k 3 s19.1)),(45,some (v17,.list zhj 142 (zbr (fun j=>nv (j+1)) s19.2.1))),(55,some ((nv 0),.list z0k 3 s19.2.2.1))]++zoo 100000 z0k 3 (fun j=>nv (j+1)) s19.2.1 0) aa ww) (fun aa ww h=>⟨zz8 [(.slice none 0 0)] (fun _=>Value.slice none 0 0),h.subF (by repeat (first | refine z7q.cons rfl ?_ | exact z7q.tail)) [1,44,45,56] (Zs rfl rfl rfl rfl<|sS rfl<|sS rfl<|sS rfl<|sN) (Zi rfl<|Zi rfl<|Zi rfl<|Zi rfl<|rN) rfl⟩) (fun s19=>?_)
   refine gEx fun n20=>gSR<|Zq (I.lss rfl rfl)<|Zn<|z0w<|gIf rfl rfl (fun h21=>?_) (fun h21=>?_)
   ·
    refine Zt<|z0w<|z4q<|gSR<|Zm rfl<|z0s fun x22 h23=>Zq (ixR rfl rfl h23 tu23 z4w rfl)<|Zq (ldR rfl zg5)<|Eb rfl (z7s 57 z4w (ZrE.rd (R:=z1c) (x:=0) (Zr.num rfl) (ZrE.nilS (ZrE.rd (R:=z2r) (x:=0) (Zr.num rfl) (ZrE.rd (R:=z1i) (x:=(⟨0,[],(⟨0,0,0,[]⟩:z0b)⟩:z1u)) zx2 (ZrE.rd (R:=z1q) (x:=(⟨0,0⟩:z0u)) zx9 ZrE.nil rfl) rfl) rfl)) rfl)) fun v24=>Za rfl<|znn (z06 32 u8R) [.rd z1c 0,.rd (z02 (z06 32 u8R)) [],.rd z2r 0,.rd z1i (⟨0,[],(⟨0,0,0,[]⟩:z0b)⟩:z1u),.rd z1q (⟨0,0⟩:z0u)] 57 [.rd z1c 0] [.rd z2r 0,.rd z1i (⟨0,[],(⟨0,0,0,[]⟩:z0b)⟩:z1u),.rd z1q (⟨0,0⟩:z0u)] rfl rfl rfl<|zks (R:=z0c) (⟨0,[],0,(⟨0,[],(⟨0,0,0,[]⟩:z0b)⟩:z1u),(⟨0,0⟩:z0u)⟩:z0g) 57 rfl (Sp.via (Sp.prod (Sp.prod (Sp.prod (Sp.prod (Sp.prod Sp.unit))))))<|Es (sto 57 rfl rfl Foc.here rfl z4w)<|Zn<|z7k (fun (s25:(List (List Int))) aa ww=>∃ nv:Nat→Value,Sta (ctx 133 H [] w) [(1,.val (z09 v1 0)),(4,.val v14),(5,.val v17),(6,.val (n20 0)),(7,.rd z0k s19.2.2.2),(8,.val (z09 v24 0)),(45,.rd (z02 z0c) a0.Ops),(46,.rd z0k (a0.Ops.length:Int)),(47,.rd z0k s19.2.2.2)] ([(1,some (v1,.box 25 [.rd z03 a0])),(44,some (v14,.list z0k 3 s19.1)),(45,some (v17,.list zhj 142 (zbr (fun j=>nv (j+0)) s25))),(55,some ((n20 0),.list z0k 3 s19.2.2.1)),(57,some (v24,.box 73 [.rd z0c x22]))]++zoo 100000 z0k 3 (fun j=>nv (j+0)) s25 0) aa ww) ?_ (fun s25=>?_)
    ·
     refine gSR<|Zq (faB 57 rfl rfl Tryz.underlying73 rfl (by exact z2d))<|Zq (ld 57 rfl rfl ((Foc.here).part (z1l _)) z8l rfl)<|Zq (z37 rfl .rd rfl tu22)<|Zm rfl<|Zn<|z2h (fun (s26:(List (List Int)) × Int) aa ww=>∃ nv:Nat→Value,Sta (ctx 133 H [] w) [(1,.val (z09 v1 0)),(4,.val v14),(5,.val v17),(6,.val (n20 0)),(7,.rd z0k s19.2.2.2),(8,.val (z09 v24 0)),(45,.rd (z02 z0c) a0.Ops),(46,.rd z0k (a0.Ops.length:Int)),(47,.rd z0k s19.2.2.2),(53,.rd (z02 (z06 32 u8R)) x22.Preds),(54,.rd z0k (x22.Preds.length:Int)),(55,.rd z0k s26.2)] ([(1,some (v1,.box 25 [.rd z03 a0])),(44,some (v14,.list z0k 3 s19.1)),(45,some (v17,.list zhj 142 (zbr (fun j=>nv (j+0)) s26.1))),(55,some ((n20 0),.list z0k 3 s19.2.2.1)),(57,some (v24,.box 73 [.rd z0c x22]))]++zoo 100000 z0k 3 (fun j=>nv (j+0)) s26.1 0) aa ww) (fun aa ww h=>⟨zz8 [] (fun j=>n20 (j+1)),h.subF (by repeat (first | refine z7q.cons rfl ?_ | exact z7q.tail)) [1,44,45,55,57] (Zs rfl rfl rfl rfl<|Zs rfl rfl rfl rfl<|Zs rfl rfl rfl rfl<|sN) (Zi rfl<|Zi rfl<|Zi rfl<|Zi rfl<|Zi rfl<|rN) rfl⟩) (fun s26=>?_)
     refine gEx fun n27=>gSR<|Zq (I.lss rfl rfl)<|Zn<|z0w<|gIf rfl rfl (fun h28=>?_) (fun h28=>?_)
     ·
      refine Zt<|z0w<|z4q<|gSR<|z0s fun x29 h30=>Zq (ixR rfl rfl h30 tu22 z1p rfl)<|Zq (ldR rfl z49)<|Eb rfl (z7s 58 z1p (.zr (R:=(z06 32 u8R)) (x:=(Vector.replicate 32 0)) zj3)) fun v31=>Es (sto 58 rfl rfl Foc.here rfl z1p)<|Zn<|gSR<|Zq (ld 1 rfl rfl Foc.here z99 rfl)<|Zq (ld 58 rfl rfl Foc.here z49 rfl)<|call [] [] rfl Tryz.func65 rfl rfl (zlx _ _) (Y2 rfl rfl) rN fun r32 n33=>Zm rfl<|Zq (ext rfl rfl)<|Zq (ext rfl rfl)<|Za rfl<|Za rfl<|Zn<|z0w<|gSR<|Zm rfl<|Zq (zcy rfl)<|Zn<|gIf rfl rfl (fun h34=>?_) (fun h34=>?_)
      ·
       refine gSR<|Za rfl<|Zn<|z0m<|z12<|z4a<|z12<|z7g<|z54<|z4a<|z12<|z7g<|z54<|zge [] [] rfl (eE rfl<|eN) (rN)
      ·
       refine Zt<|z1m<|Zm rfl<|Zm rfl<|Zm rfl<|Zm rfl<|z0s fun x35 h36=>Zq (ixO 45 rfl rfl rfl (zoc h36) Tryz.underlying178 zz0)<|Zq (ldF 45 rfl rfl h36 z10s rfl)<|Zm rfl<|Ef rfl (lit (R:=z0k) ([s19.2.2.2]:List Int) 59 (pP rfl rfl<|pN) rfl tu142 ti3 rfl rfl) fun v37=>z0s fun x38 h39=>lApF (base:=100000) (lits:=[(1,some (v1,.box 25 [.rd z03 a0])),(44,some (v14,.list z0k 3 s19.1)),(55,some ((n20 0),.list z0k 3 s19.2.2.1)),(57,some (v24,.box 73 [.rd z0c x22])),(58,some (v31,.box 62 [.rd (z06 32 u8R) x29])),(59,some (v37,.list z0k 3 [s19.2.2.2]))]) 45 [1,44,55,57,58,59] (by repeat (first | refine z7q.cons rfl ?_ | exact z7q.tail)) rfl rfl rfl h36 rfl rfl rfl rfl (.own 59 rfl) h39 rfl (fun _ h=>by cases h; rfl) (fun _ h=>by cases h; rfl) rfl rfl tu142 ti3 rfl rfl rfl Tryz.underlying178 zz0 z10s (Zi rfl<|Zi rfl<|Zi rfl<|Zi rfl<|Zi rfl<|Zi rfl<|rN) rfl fun v40=>z1f<|z1w<|z0d<|z1m<|Zq (I.add rfl rfl)<|Zm rfl<|z1f<|z0r (fun aa ww h=>⟨zz8 [] (zx8 (fun j=>n27 (j+0)) (r32.1:Int).toNat v40),h.subF (by repeat (first | refine z7q.cons rfl ?_ | exact z7q.tail)) [1,44,45,55,57] (Zs rfl rfl rfl rfl<|Zs rfl rfl rfl rfl<|Zs rfl rfl rfl rfl<|sN) (Zi rfl<|Zi rfl<|Zi rfl<|Zi rfl<|Zi rfl<|rN) rfl⟩)
     ·
      refine z1z<|z13<|z14<|z4s (fun aa ww h=>⟨zz8 [] (fun j=>n27 (j+0)),h.subF (by repeat (first | refine z7q.cons rfl ?_ | exact z7q.tail)) [1,44,45,55,57] (Zs rfl rfl rfl rfl<|Zs rfl rfl rfl rfl<|sS rfl<|sN) (Zi rfl<|Zi rfl<|Zi rfl<|Zi rfl<|Zi rfl<|rN) rfl⟩)
    ·
     refine gEx fun n41=>gSR<|Zm rfl<|Zm rfl<|Zq (faB 57 rfl rfl Tryz.underlying73 rfl (by exact z2d))<|Zq (ld 57 rfl rfl ((Foc.here).part (z1l _)) z8l rfl)<|Zq (z37 rfl .rd rfl tu22)<|z0s fun x42 h43=>Zq (ixO 44 rfl rfl rfl h43 tu142 ti3)<|Es (sto 44 rfl rfl (Foc.el h43) rfl ti3)<|Zn<|gSR<|Zm rfl<|Zm rfl<|z0s fun x44 h45=>Zq (ixO 44 rfl rfl rfl h45 tu142 ti3)<|Zq (ld 44 rfl rfl (Foc.el h45) ty3 rfl)<|Zq (I.eql rfl rfl)<|Zn<|gIf rfl rfl (fun h46=>?_) (fun h46=>?_)
     ·
      refine z1m<|Zm rfl<|Zm rfl<|Ef rfl (lit (R:=z0k) ([s19.2.2.2]:List Int) 60 (pP rfl rfl<|pN) rfl tu142 ti3 rfl rfl) fun v47=>z0s fun x48 h49=>Ef rfl (apn 55 rfl rfl rfl (.own 60 rfl) h49 tu142 ti3 rfl rfl rfl) fun v50=>Za rfl<|z1f<|z1w<|z0d<|z1m<|Zq (I.add rfl rfl)<|Zm rfl<|z1f<|z0r (fun aa ww h=>⟨zz8 [v50] (fun j=>n41 (j+0)),h.subF (by repeat (first | refine z7q.cons rfl ?_ | exact z7q.tail)) [1,44,45,55] (Zs rfl rfl rfl rfl<|sS rfl<|sS rfl<|sS rfl<|sN) (Zi rfl<|Zi rfl<|Zi rfl<|Zi rfl<|rN) rfl⟩)
     ·
      refine z2l<|z1w<|z0d<|z1m<|Zq (I.add rfl rfl)<|Zm rfl<|z1f<|z0r (fun aa ww h=>⟨zz8 [(n20 0)] (fun j=>n41 (j+0)),h.subF (by repeat (first | refine z7q.cons rfl ?_ | exact z7q.tail)) [1,44,45,55] (Zs rfl rfl rfl rfl<|sS rfl<|sS rfl<|sS rfl<|sN) (Zi rfl<|Zi rfl<|Zi rfl<|Zi rfl<|rN) rfl⟩)
   ·
    refine z1z<|z13<|z14<|z4s (fun aa ww h=>⟨zz8 [(n20 0)] (fun j=>n20 (j+1)),h.subF (by repeat (first | refine z7q.cons rfl ?_ | exact z7q.tail)) [1,44,45,55] (Zs rfl rfl rfl rfl<|sN) (Zi rfl<|Zi rfl<|Zi rfl<|Zi rfl<|rN) rfl⟩)
  ·
   refine gEx fun n51=>gSR<|Za rfl<|Zn<|z7f (fun (s52:Int) aa ww=>Sta (ctx 133 H [] w) [(1,.val (z09 v1 0)),(13,.rd z0k s52)] [(1,some (v1,.box 25 [.rd z03 a0]))] aa ww) ?_ (fun s52=>?_)
   ·
    refine z13j (base:=100000) (T:=3) (lits:=[(1,some (v1,.box 25 [.rd z03 a0])),(44,some (v14,.list z0k 3 s18.1)),(50,some ((n51 0),.list z0k 3 s18.2.2))]) (by repeat (first | refine z7q.cons rfl ?_ | exact z7q.tail)) 45 rfl [1,44,50] (Zi rfl<|Zi rfl<|Zi rfl<|rN) rfl rfl<|z2h (fun (s53:(List Int) × (List Int) × Int) aa ww=>∃ nv:Nat→Value,Sta (ctx 133 H [] w) [(1,.val (z09 v1 0)),(4,.val v14),(5,.val v17),(6,.val (nv 0)),(13,.rd z0k s53.2.2)] [(1,some (v1,.box 25 [.rd z03 a0])),(44,some (v14,.list z0k 3 s53.1)),(45,some (v17,.list (z02 z0k) 142 s18.2.1)),(50,some ((nv 0),.list z0k 3 s53.2.1))] aa ww) (fun aa ww h=>⟨nvl [(n51 0)],h.sub [1,44,45,50] (Zs rfl rfl rfl rfl<|sS rfl<|sN) (Zi rfl<|Zi rfl<|Zi rfl<|Zi rfl<|rN)⟩) (fun s53=>?_)
    refine gEx fun n54=>z0w<|gSR<|Zm rfl<|Zm rfl<|Zq (z37 rfl (.own 50 rfl) rfl tu142)<|Zq (I.lss rfl rfl)<|Zn<|gIf rfl rfl (fun h55=>?_) (fun h55=>?_)
    ·
     refine Zt<|z7f (fun (s56:(List Int) × (List Int)) aa ww=>∃ nv:Nat→Value,Sta (ctx 133 H [] w) [(1,.val (z09 v1 0)),(4,.val v14),(5,.val v17),(6,.val (nv 0)),(13,.rd z0k s53.2.2)] [(1,some (v1,.box 25 [.rd z03 a0])),(44,some (v14,.list z0k 3 s56.1)),(45,some (v17,.list (z02 z0k) 142 s18.2.1)),(50,some ((nv 0),.list z0k 3 s56.2))] aa ww) ?_ (fun s56=>?_)
     ·
      refine z4q<|gSR<|Zm rfl<|Zm rfl<|Zm rfl<|z0s fun x57 h58=>Zq (ixO 50 rfl rfl rfl h58 tu142 ti3)<|Zq (ld 50 rfl rfl (Foc.el h58) ty3 rfl)<|z0s fun x59 h60=>Zq (ixO 45 rfl rfl rfl h60 Tryz.underlying178 zz0)<|Zq (ld 45 rfl rfl (Foc.el h60) z10s rfl)<|Zq (z37 rfl .rd rfl tu142)<|Zm rfl<|Zn<|z2h (fun (s61:(List Int) × (List Int) × Int) aa ww=>∃ nv:Nat→Value,Sta (ctx 133 H [] w) [(1,.val (z09 v1 0)),(4,.val v14),(5,.val v17),(6,.val (nv 0)),(13,.rd z0k s53.2.2),(106,.rd (z02 z0k) x59),(107,.rd z0k (x59.length:Int)),(108,.rd z0k s61.2.2)] [(1,some (v1,.box 25 [.rd z03 a0])),(44,some (v14,.list z0k 3 s61.1)),(45,some (v17,.list (z02 z0k) 142 s18.2.1)),(50,some ((nv 0),.list z0k 3 s61.2.1))] aa ww) (fun aa ww h=>⟨nvl [(n54 0)],h.sub [1,44,45,50] (Zs rfl rfl rfl rfl<|Zs rfl rfl rfl rfl<|sN) (Zi rfl<|Zi rfl<|Zi rfl<|Zi rfl<|rN)⟩) (fun s61=>?_)
      refine gEx fun n62=>gSR<|Zq (I.lss rfl rfl)<|Zn<|z0w<|gIf rfl rfl (fun h63=>?_) (fun h63=>?_)
      ·
       refine Zt<|z0w<|z4q<|gSR<|z0s fun x64 h65=>Zq (ixR rfl rfl h65 tu142 ti3 rfl)<|Zq (ldR rfl ty3)<|Za rfl<|Zn<|gSR<|Zm rfl<|Zm rfl<|z0s fun x66 h67=>Zq (ixO 44 rfl rfl rfl h67 tu142 ti3)<|Zq (ld 44 rfl rfl (Foc.el h67) ty3 rfl)<|Zq (I.sub rfl rfl)<|z0s fun x68 h69=>Zq (ixO 44 rfl rfl rfl h69 tu142 ti3)<|Es (sto 44 rfl rfl (Foc.el h69) rfl ti3)<|Zn<|gSR<|Zm rfl<|Zm rfl<|z0s fun x70 h71=>Zq (ixO 44 rfl rfl rfl h71 tu142 ti3)<|Zq (ld 44 rfl rfl (Foc.el h71) ty3 rfl)<|Zq (I.eql rfl rfl)<|Zn<|gIf rfl rfl (fun h72=>?_) (fun h72=>?_)
       ·
        refine z1m<|Zm rfl<|Zm rfl<|Ef rfl (lit (R:=z0k) ([x64]:List Int) 61 (pP rfl rfl<|pN) rfl tu142 ti3 rfl rfl) fun v73=>z0s fun x74 h75=>Ef rfl (apn 50 rfl rfl rfl (.own 61 rfl) h75 tu142 ti3 rfl rfl rfl) fun v76=>Za rfl<|z1f<|z1w<|z0d<|z1m<|Zq (I.add rfl rfl)<|Zm rfl<|z1f<|z0r (fun aa ww h=>⟨nvl [v76],h.sub [1,44,45,50] (Zs rfl rfl rfl rfl<|Zs rfl rfl rfl rfl<|sN) (Zi rfl<|Zi rfl<|Zi rfl<|Zi rfl<|rN)⟩)
       ·
        refine z2l<|z1w<|z0d<|z1m<|Zq (I.add rfl rfl)<|Zm rfl<|z1f<|z0r (fun aa ww h=>⟨nvl [(n62 0)],h.sub [1,44,45,50] (Zs rfl rfl rfl rfl<|Zs rfl rfl rfl rfl<|sN) (Zi rfl<|Zi rfl<|Zi rfl<|Zi rfl<|rN)⟩)
      ·
       refine z1z<|z13<|z14<|z1w<|z2x (fun aa ww h=>⟨nvl [(n62 0)],h.sub [1,44,45,50] (Zs rfl rfl rfl rfl<|sS rfl<|sN) (Zi rfl<|Zi rfl<|Zi rfl<|Zi rfl<|rN)⟩)
     ·
      refine gEx fun n77=>z1m<|Zm rfl<|Zq (I.add rfl rfl)<|Za rfl<|z1e 13 rfl fun y78=>z1f<|z0r (fun aa ww h=>⟨nvl [(n77 0)],h.sub [1,44,45,50] (Zs rfl rfl rfl rfl<|sS rfl<|sN) (Zi rfl<|Zi rfl<|Zi rfl<|Zi rfl<|rN)⟩)
    ·
     refine z1z<|z13<|z14<|z2x (fun aa ww h=>h.sub [1] (sS rfl<|sS rfl<|sN) (y1 rfl))
   ·
    refine z0w<|gSR<|Zm rfl<|Zq (faB 1 rfl rfl Tryz.underlying25 rfl (by exact z40))<|Zq (ld 1 rfl rfl ((Foc.here).part (z0f _)) zg6 rfl)<|Zq (z37 rfl .rd rfl tu23)<|Zq (I.lss rfl rfl)<|Zn<|gIf rfl rfl (fun h79=>?_) (fun h79=>?_)
    ·
     refine gSR<|Za rfl<|Zn<|z0m<|z12<|zge [] [] rfl (eE rfl<|eN) (rN)
    ·
     refine Zt<|gSR<|Za rfl<|Zn<|z0m<|zge [] [] rfl (eE rfl<|eN) (rN)
def zcl (a0:z01) (s5:Int):Option (Sum (Sum Int Unit) Int) :=
 if decide (s5<(a0.Ops.length:Int)) then
  idx a0.Ops s5 >>= fun x7 =>
  zxi x7 >>= fun r10 =>
  (if r10.2 != 0 then
   some true
  else
   idx a0.IDs s5 >>= fun x15 =>
   if !decide (r10.1=x15) then
    some true
   else
    ziq x7 >>= fun r18 =>
    some (r18 != 0)) >>= fun s13 =>
  if s13 then
   some (.inl (.inl 8))
  else
   some (.inr (w64 (s5+1)))
 else
  some (.inl (.inr ()))
def z3v (a0:z01):Option (Int) :=
 if decide (60<(a0.Ops.length:Int)) then
  some 4
 else
  if (a0.IDs.length:Int) != (a0.Ops.length:Int) then
   some 8
  else
   z5p (iter (zcl a0) 0) fun s4 =>
   zjc a0 >>= fun r21 =>
   some r21
theorem ze1 (a0:z01):z27 Tryz.prog 74 [.rd z03 a0] [zG1] (z3v a0) (fun r nv=>⟨[.rd z0k r],[(1001,some (.bool true,.glob 1 (z06 64 z1c) z8f))]⟩):=by
 refine z2n 50 Tryz.func74 rfl rfl rfl fun H w=>?_
 refine gSR<|Eb rfl (bx 1 rfl) fun v1=>Za rfl<|Zn<|z0w<|gSR<|Zq (faB 1 rfl rfl Tryz.underlying25 rfl (by exact z40))<|Zq (ld 1 rfl rfl ((Foc.here).part (z0f _)) zg6 rfl)<|Zq (z37 rfl .rd rfl tu23)<|Zq (I.gtr rfl rfl)<|Zn<|gIf rfl rfl (fun h2=>?_) (fun h2=>?_)
 ·
  refine gSR<|Za rfl<|Zn<|z0m<|z12<|Ze [] [1001] rfl
 ·
  refine Zt<|z0w<|gSR<|Zq (faB 1 rfl rfl Tryz.underlying25 rfl (by exact z2d))<|Zq (ld 1 rfl rfl ((Foc.here).part (z0j _)) z8l rfl)<|Zq (z37 rfl .rd rfl tu22)<|Zq (faB 1 rfl rfl Tryz.underlying25 rfl (by exact z40))<|Zq (ld 1 rfl rfl ((Foc.here).part (z0f _)) zg6 rfl)<|Zq (z37 rfl .rd rfl tu23)<|Zq (I.neq rfl rfl)<|Zn<|gIf rfl rfl (fun h3=>?_) (fun h3=>?_)
  ·
   refine gSR<|Za rfl<|Zn<|z0m<|z12<|Ze [] [1001] rfl
  ·
   refine Zt<|z7k (fun (s4:Unit) aa ww=>Sta (ctx 50 H [zG1] w) [(1,.val (z09 v1 0))] [(1,some (v1,.box 25 [.rd z03 a0])),zG1] aa ww) ?_ (fun s4=>?_)
   ·
    refine gSR<|Zq (faB 1 rfl rfl Tryz.underlying25 rfl (by exact z40))<|Zq (ld 1 rfl rfl ((Foc.here).part (z0f _)) zg6 rfl)<|Zq (z37 rfl .rd rfl tu23)<|Zm rfl<|Zn<|z2h (fun (s5:Int) aa ww=>Sta (ctx 50 H [zG1] w) [(1,.val (z09 v1 0)),(19,.rd (z02 z0c) a0.Ops),(20,.rd z0k (a0.Ops.length:Int)),(21,.rd z0k s5)] [(1,some (v1,.box 25 [.rd z03 a0])),zG1] aa ww) (fun aa ww h=>Zu h [1,1001]) (fun s5=>?_)
    refine gSR<|Zq (I.lss rfl rfl)<|Zn<|z0w<|gIf rfl rfl (fun h6=>?_) (fun h6=>?_)
    ·
     refine Zt<|z0w<|z4q<|gSR<|Zm rfl<|z0s fun x7 h8=>Zq (ixR rfl rfl h8 tu23 z4w rfl)<|Zq (ldR rfl zg5)<|Eb rfl (z7s 1002 z4w (ZrE.rd (R:=z1c) (x:=0) (Zr.num rfl) (ZrE.nilS (ZrE.rd (R:=z2r) (x:=0) (Zr.num rfl) (ZrE.rd (R:=z1i) (x:=(⟨0,[],(⟨0,0,0,[]⟩:z0b)⟩:z1u)) zx2 (ZrE.rd (R:=z1q) (x:=(⟨0,0⟩:z0u)) zx9 ZrE.nil rfl) rfl) rfl)) rfl)) fun v9=>Za rfl<|znn (z06 32 u8R) [.rd z1c 0,.rd (z02 (z06 32 u8R)) [],.rd z2r 0,.rd z1i (⟨0,[],(⟨0,0,0,[]⟩:z0b)⟩:z1u),.rd z1q (⟨0,0⟩:z0u)] 1002 [.rd z1c 0] [.rd z2r 0,.rd z1i (⟨0,[],(⟨0,0,0,[]⟩:z0b)⟩:z1u),.rd z1q (⟨0,0⟩:z0u)] rfl rfl rfl<|zks (R:=z0c) (⟨0,[],0,(⟨0,[],(⟨0,0,0,[]⟩:z0b)⟩:z1u),(⟨0,0⟩:z0u)⟩:z0g) 1002 rfl (Sp.via (Sp.prod (Sp.prod (Sp.prod (Sp.prod (Sp.prod Sp.unit))))))<|Es (sto 1002 rfl rfl Foc.here rfl z4w)<|Zn<|gSR<|Zq (ld 1002 rfl rfl Foc.here zg5 rfl)<|Zc [1001] [] Tryz.func111 rfl (zxf _) fun r10 n11=>Zm rfl<|Zq (ext rfl rfl)<|Zq (ext rfl rfl)<|Eb rfl (z7s 1003 z1p (.zr (R:=(z06 32 u8R)) (x:=(Vector.replicate 32 0)) zj3)) fun v12=>Es (sto 1003 rfl rfl Foc.here rfl z1p)<|Za rfl<|Zn<|z7f (fun (s13:Bool) aa ww=>Sta (ctx 50 H [zG1] w) [(1,.val (z09 v1 0)),(19,.rd (z02 z0c) a0.Ops),(20,.rd z0k (a0.Ops.length:Int)),(21,.rd z0k s5),(46,.rd z0n s13)] [(1,some (v1,.box 25 [.rd z03 a0])),zG1] aa ww) ?_ (fun s13=>?_)
     ·
      refine z5m [1001] mixed rfl rfl<|hTk 0 rfl rfl (mv rfl)<|hTk 1 rfl rfl (I.neq rfl rfl)<|hTk 2 rfl rfl (mv rfl)<|hIf 33 rfl rfl (fun h14=>?_) (fun h14=>?_)
      ·
       refine hKn 32 rfl rfl h14<|hSk 3 rfl rfl<|hSk 4 rfl rfl<|hSk 5 rfl rfl<|hSk 6 rfl rfl<|hSk 7 rfl rfl<|hSk 8 rfl rfl<|hSk 9 rfl rfl<|hTk 10 rfl rfl (pkT rfl rfl)<|hTk 11 rfl rfl (mv rfl)<|hSk 12 rfl rfl<|hSk 13 rfl rfl<|hSk 14 rfl rfl<|hTk 15 rfl rfl (pkT rfl rfl)<|z0y (by kernel_rfl)<|z2x (fun aa ww h=>Zu h [1,1001])
      ·
       refine hKn 32 rfl rfl h14<|Zg 3 rfl rfl (ld 1003 rfl rfl Foc.here z49 rfl)<|Zg 4 rfl rfl (faB 1 rfl rfl Tryz.underlying25 rfl (by exact z2d))<|Zg 5 rfl rfl (ld 1 rfl rfl ((Foc.here).part (z0j _)) z8l rfl)<|Zg 6 rfl rfl (mv rfl)<|z0o fun x15 h16=>Zg 7 rfl rfl (ixR rfl rfl h16 tu22 z1p rfl)<|Zg 8 rfl rfl (ldR rfl z49)<|Zg 9 rfl rfl (neA rfl rfl zsh rfl rfl zsu)<|hTk 10 rfl rfl (pkF rfl rfl)<|hTk 11 rfl rfl (mv rfl)<|hIf 42 rfl rfl (fun h17=>?_) (fun h17=>?_)
       ·
        refine hKn 40 rfl rfl h17<|hKn 41 rfl rfl h17<|hSk 12 rfl rfl<|hSk 13 rfl rfl<|hSk 14 rfl rfl<|hTk 15 rfl rfl (pkT rfl rfl)<|z0y (by kernel_rfl)<|z2x (fun aa ww h=>Zu h [1,1001])
       ·
        refine hKn 40 rfl rfl h17<|hKn 41 rfl rfl h17<|Zg 12 rfl rfl (ld 1002 rfl rfl Foc.here zg5 rfl)<|z10 13 [1001] [] rfl (by kernel_rfl) rfl Zx rfl Tryz.func112 rfl rfl (zoy _) (Y1 rfl) (y1 rfl) rfl (fun _ _=>z07) fun r18 n19=>Zg 14 rfl rfl (I.neq rfl rfl)<|hTk 15 rfl rfl (pkF rfl rfl)<|z0y (by kernel_rfl)<|z2x (fun aa ww h=>Zu h [1,1001])
     ·
      refine gIf rfl rfl (fun h20=>?_) (fun h20=>?_)
      ·
       refine gSR<|Za rfl<|Zn<|z0m<|z4a<|z12<|z7g<|z54<|Ze [] [1001] rfl
      ·
       refine z2l<|z1w<|z0d<|z1m<|Zq (I.add rfl rfl)<|Zm rfl<|z1f<|z0r (fun aa ww h=>Zu h [1,1001])
    ·
     refine z1z<|z13<|z14<|z4s (fun aa ww h=>Zu h [1,1001])
   ·
    refine gSR<|Zq (ld 1 rfl rfl Foc.here z99 rfl)<|Zc [] [] Tryz.func113 rfl (zpd _) fun r21 n22=>Za rfl<|Zn<|z0m<|Ze [] [1001] rfl
def z8n (a0:List (Vector UInt8 32)) (a1:Vector UInt8 32) (s3:Int):Option (Sum (Sum Int Unit) Int) :=
 if decide (s3<(a0.length:Int)) then
  idx a0 s3 >>= fun x5 =>
  if decide (x5=a1) then
   some (.inl (.inl s3))
  else
   some (.inr (w64 (s3+1)))
 else
  some (.inl (.inr ()))
def z7b (a0:List (Vector UInt8 32)) (a1:Vector UInt8 32):Option (Int) :=
 z5p (iter (z8n a0 a1) 0) fun s2 =>
 some (-1)
theorem zg1 (a0:List (Vector UInt8 32)) (a1:Vector UInt8 32):z27 Tryz.prog 34 [.rd (z02 (z06 32 u8R)) a0,.rd (z06 32 u8R) a1] [] (z7b a0 a1) (fun r nv=>⟨[.rd z0k r],[]⟩):=by
 refine z2n 19 Tryz.func34 rfl rfl rfl fun H w=>?_
 refine gSR<|Eb rfl (bx 1 rfl) fun v1=>Za rfl<|Zn<|z7k (fun (s2:Unit) aa ww=>Sta (ctx 19 H [] w) [] [] aa ww) ?_ (fun s2=>?_)
 ·
  refine gSR<|Za rfl<|Zn<|z2h (fun (s3:Int) aa ww=>Sta (ctx 19 H [] w) [(0,.rd (z02 (z06 32 u8R)) a0),(3,.val (z09 v1 0)),(5,.rd z0k s3)] [(1,some (v1,.box 62 [.rd (z06 32 u8R) a1]))] aa ww) (fun aa ww h=>Zu h [1]) (fun s3=>?_)
  refine z0w<|gSR<|Zm rfl<|Zm rfl<|Zq (z37 rfl .rd rfl tu22)<|Zq (I.lss rfl rfl)<|Zn<|gIf rfl rfl (fun h4=>?_) (fun h4=>?_)
  ·
   refine Zt<|z0w<|z4q<|z0w<|zdn mixed (by kernel_rfl)<|Rq rfl (mv rfl)<|Rq rfl (mv rfl)<|z6a fun x5 h6=>Rq rfl (ixR rfl rfl h6 tu22 z1p rfl)<|Rq rfl (ldR rfl z49)<|Rq rfl (ld 1 rfl rfl Foc.here z49 rfl)<|Rq rfl (eqA rfl rfl zsh rfl rfl zsu)<|zl6<|z0d<|gIf rfl rfl (fun h7=>?_) (fun h7=>?_)
   ·
    refine gSR<|Zm rfl<|Za rfl<|Zn<|z0m<|z4a<|z12<|z7g<|z54<|Ze [] [] rfl
   ·
    refine z2l<|z1w<|z0d<|z1m<|Zm rfl<|Zq (I.add rfl rfl)<|Za rfl<|z1f<|z0r (fun aa ww h=>Zu h [1])
  ·
   refine z1z<|z13<|z14<|z4s (fun aa ww h=>Zu h [])
 ·
  refine gSR<|Za rfl<|Zn<|z0m<|Ze [] [] rfl
def z7z (a0:List (Vector UInt8 32)) (a1:List (Vector UInt8 32)) (s2:Int):Option (Sum (Sum Bool Unit) Int) :=
 if decide (s2<(a1.length:Int)) then
  idx a1 s2 >>= fun x4 =>
  z7b a0 x4 >>= fun r6 =>
  if decide (r6<0) then
   some (.inl (.inl false))
  else
   some (.inr (w64 (s2+1)))
 else
  some (.inl (.inr ()))
def z3r (a0:List (Vector UInt8 32)) (a1:List (Vector UInt8 32)):Option (Bool) :=
 z5p (iter (z7z a0 a1) 0) fun s1 =>
 some true
theorem zem (a0:List (Vector UInt8 32)) (a1:List (Vector UInt8 32)):z27 Tryz.prog 31 [.rd (z02 (z06 32 u8R)) a0,.rd (z02 (z06 32 u8R)) a1] [] (z3r a0 a1) (fun r nv=>⟨[.rd z0n r],[]⟩):=by
 refine z2n 19 Tryz.func31 rfl rfl rfl fun H w=>?_
 refine gSR<|Za rfl<|Zn<|z7k (fun (s1:Unit) aa ww=>Sta (ctx 19 H [] w) [] [] aa ww) ?_ (fun s1=>?_)
 ·
  refine gSR<|Za rfl<|Zn<|z2h (fun (s2:Int) aa ww=>Sta (ctx 19 H [] w) [(0,.rd (z02 (z06 32 u8R)) a0),(1,.rd (z02 (z06 32 u8R)) a1),(5,.rd z0k s2)] [] aa ww) (fun aa ww h=>Zu h []) (fun s2=>?_)
  refine z0w<|gSR<|Zm rfl<|Zm rfl<|Zq (z37 rfl .rd rfl tu22)<|Zq (I.lss rfl rfl)<|Zn<|gIf rfl rfl (fun h3=>?_) (fun h3=>?_)
  ·
   refine Zt<|z0w<|z4q<|gSR<|Zm rfl<|Zm rfl<|Zm rfl<|z0s fun x4 h5=>Zq (ixR rfl rfl h5 tu22 z1p rfl)<|Zq (ldR rfl z49)<|Zc [] [] Tryz.func34 rfl (zg1 _ _) fun r6 n7=>Zq (I.lss rfl rfl)<|Zn<|gIf rfl rfl (fun h8=>?_) (fun h8=>?_)
   ·
    refine gSR<|Za rfl<|Zn<|z0m<|z4a<|z12<|z7g<|z54<|Ze [] [] rfl
   ·
    refine z2l<|z1w<|z0d<|z1m<|Zm rfl<|Zq (I.add rfl rfl)<|Za rfl<|z1f<|z0r (fun aa ww h=>Zu h [])
  ·
   refine z1z<|z13<|z14<|z4s (fun aa ww h=>Zu h [])
 ·
  refine gSR<|Za rfl<|Zn<|z0m<|Ze [] [] rfl
theorem zd3 (a0:List (Vector UInt8 32)) (q0:Value) (l0:List (Vector UInt8 32)) (a1:Vector UInt8 32):z27 Tryz.prog 34 [.vw (z06 32 u8R) q0 l0 a0,.rd (z06 32 u8R) a1] [(1,some (q0,.list (z06 32 u8R) 62 l0))] (z7b a0 a1) (fun r nv=>⟨[.rd z0k r],[(1,some (q0,.list (z06 32 u8R) 62 l0))]⟩):=by
 refine z2n 19 Tryz.func34 rfl rfl rfl fun H w=>?_
 refine gSR<|Eb rfl (bx 2 rfl) fun v1=>Za rfl<|Zn<|z7k (fun (s2:Unit) aa ww=>Sta (ctx 19 H [(1,some (q0,.list (z06 32 u8R) 62 l0))] w) [] [(1,some (q0,.list (z06 32 u8R) 62 l0))] aa ww) ?_ (fun s2=>?_)
 ·
  refine gSR<|Za rfl<|Zn<|z2h (fun (s3:Int) aa ww=>Sta (ctx 19 H [(1,some (q0,.list (z06 32 u8R) 62 l0))] w) [(0,.vw (z06 32 u8R) q0 l0 a0),(3,.val (z09 v1 0)),(5,.rd z0k s3)] [(1,some (q0,.list (z06 32 u8R) 62 l0)),(2,some (v1,.box 62 [.rd (z06 32 u8R) a1]))] aa ww) (fun aa ww h=>Zu h [1,2]) (fun s3=>?_)
  refine z0w<|gSR<|Zm rfl<|Zm rfl<|Zq (z37 rfl (.vw 1 rfl) rfl tu22)<|Zq (I.lss rfl rfl)<|Zn<|gIf rfl rfl (fun h4=>?_) (fun h4=>?_)
  ·
   refine Zt<|z0w<|z4q<|z0w<|zdn mixed (by kernel_rfl)<|Rq rfl (mv rfl)<|Rq rfl (mv rfl)<|z6a fun x5 h6=>Rq rfl (ixQ 1 rfl rfl rfl h6 tu22 z1p)<|Rq rfl (ldQ 1 rfl rfl z49 rfl)<|Rq rfl (ld 2 rfl rfl Foc.here z49 rfl)<|Rq rfl (eqA rfl rfl zsh rfl rfl zsu)<|zl6<|z0d<|gIf rfl rfl (fun h7=>?_) (fun h7=>?_)
   ·
    refine gSR<|Zm rfl<|Za rfl<|Zn<|z0m<|z4a<|z12<|z7g<|z54<|Ze [] [1] rfl
   ·
    refine z2l<|z1w<|z0d<|z1m<|Zm rfl<|Zq (I.add rfl rfl)<|Za rfl<|z1f<|z0r (fun aa ww h=>Zu h [1,2])
  ·
   refine z1z<|z13<|z14<|z4s (fun aa ww h=>Zu h [1])
 ·
  refine gSR<|Za rfl<|Zn<|z0m<|Ze [] [1] rfl
theorem zh8 (a0:List (Vector UInt8 32)) (q0:Value) (l0:List (Vector UInt8 32)) (a1:List (Vector UInt8 32)):z27 Tryz.prog 31 [.vw (z06 32 u8R) q0 l0 a0,.rd (z02 (z06 32 u8R)) a1] [(1,some (q0,.list (z06 32 u8R) 62 l0))] (z3r a0 a1) (fun r nv=>⟨[.rd z0n r],[(1,some (q0,.list (z06 32 u8R) 62 l0))]⟩):=by
 refine z2n 19 Tryz.func31 rfl rfl rfl fun H w=>?_
 refine gSR<|Za rfl<|Zn<|z7k (fun (s1:Unit) aa ww=>Sta (ctx 19 H [(1,some (q0,.list (z06 32 u8R) 62 l0))] w) [] [(1,some (q0,.list (z06 32 u8R) 62 l0))] aa ww) ?_ (fun s1=>?_)
 ·
  refine gSR<|Za rfl<|Zn<|z2h (fun (s2:Int) aa ww=>Sta (ctx 19 H [(1,some (q0,.list (z06 32 u8R) 62 l0))] w) [(0,.vw (z06 32 u8R) q0 l0 a0),(1,.rd (z02 (z06 32 u8R)) a1),(5,.rd z0k s2)] [(1,some (q0,.list (z06 32 u8R) 62 l0))] aa ww) (fun aa ww h=>Zu h [1]) (fun s2=>?_)
  refine z0w<|gSR<|Zm rfl<|Zm rfl<|Zq (z37 rfl .rd rfl tu22)<|Zq (I.lss rfl rfl)<|Zn<|gIf rfl rfl (fun h3=>?_) (fun h3=>?_)
  ·
   refine Zt<|z0w<|z4q<|gSR<|Zm rfl<|Zm rfl<|Zm rfl<|z0s fun x4 h5=>Zq (ixR rfl rfl h5 tu22 z1p rfl)<|Zq (ldR rfl z49)<|Zc [1] [(1,1)] Tryz.func34 rfl (zd3 _ _ _ _) fun r6 n7=>Zq (I.lss rfl rfl)<|Zn<|gIf rfl rfl (fun h8=>?_) (fun h8=>?_)
   ·
    refine gSR<|Za rfl<|Zn<|z0m<|z4a<|z12<|z7g<|z54<|Ze [] [1] rfl
   ·
    refine z2l<|z1w<|z0d<|z1m<|Zm rfl<|Zq (I.add rfl rfl)<|Za rfl<|z1f<|z0r (fun aa ww h=>Zu h [1])
  ·
   refine z1z<|z13<|z14<|z4s (fun aa ww h=>Zu h [1])
 ·
  refine gSR<|Za rfl<|Zn<|z0m<|Ze [] [1] rfl
def z3x (a0:z01) (s6:(List Int) × (List (Vector UInt8 32)) × (List Bool) × Bool) (s9:Int):Option (Sum (Sum ((List Int)) ((List Int) × (List (Vector UInt8 32)) × (List Bool) × Bool)) Int) :=
 if decide (s9<(a0.Ops.length:Int)) then
  (idx s6.2.2.1 s9 >>= fun x12 =>
  if !x12 then
   idx a0.Ops s9 >>= fun x15 =>
   z3r s6.2.1 x15.Preds >>= fun r17 =>
   some r17
  else
   some false) >>= fun s11 =>
  if s11 then
   (idx a0.IDs s9 >>= fun x21 =>
   app 8 s6.1 [s9] >>= fun x24 =>
   app 32 s6.2.1 [x21] >>= fun x28 =>
   idx s6.2.2.1 s9 >>= fun x31 =>
   some (x24,x28)) >>= fun s20 =>
   some (.inl (.inr (s20.1,s20.2,s6.2.2.1.set (s9:Int).toNat true,true)))
  else
   some (.inr (w64 (s9+1)))
 else
  some (.inl (.inr (s6.1,s6.2.1,s6.2.2.1,false)))
def z3z (a0:z01) (s6:(List Int) × (List (Vector UInt8 32)) × (List Bool) × Bool):Option (Sum ((List Int)) ((List Int) × (List (Vector UInt8 32)) × (List Bool) × Bool)) :=
 if s6.2.2.2 then
  iter (z3x a0 s6) 0
 else
  some (.inl s6.1)
def z4k (a0:z01):Option ((List Int)) :=
 mkn 1 false (a0.Ops.length:Int) >>= fun x2 =>
 (iter (z3z a0) ([],[],x2,true)) >>= fun s5 =>
 some s5
theorem zde (a0:z01):z27 Tryz.prog 109 [.rd z03 a0] [] (z4k a0) (fun r nv=>⟨[.val (nv 0)],[(100,some (nv 0,.list z0k 3 r))]⟩):=by
 refine z2n 51 Tryz.func109 rfl rfl rfl fun H w=>?_
 refine gSR<|Eb rfl (bx 1 rfl) fun v1=>Za rfl<|Zn<|gSR<|Za rfl<|Zn<|gSR<|Za rfl<|Zn<|gSR<|Zq (faB 1 rfl rfl Tryz.underlying25 rfl (by exact z40))<|Zq (ld 1 rfl rfl ((Foc.here).part (z0f _)) zg6 rfl)<|Zq (z37 rfl .rd rfl tu23)<|z0s fun x2 h3=>Ef rfl (mks (R:=z0n) 2 rfl rfl h3 tu152 ti4 Zr.bool rfl) fun v4=>Za rfl<|Zn<|z7f (fun (s5:(List Int)) aa ww=>∃ nv:Nat→Value,Sta (ctx 51 H [] w) [(3,.val (nv 0))] [(18,some ((nv 0),.list z0k 3 s5))] aa ww) ?_ (fun s5=>?_)
 ·
  refine gSR<|Za rfl<|Zn<|zrq z0k 3 59<|zrq (z06 32 u8R) 62 60<|z2h (fun (s6:(List Int) × (List (Vector UInt8 32)) × (List Bool) × Bool) aa ww=>∃ nv:Nat→Value,Sta (ctx 51 H [] w) [(1,.val (z09 v1 0)),(3,.val (nv 0)),(4,.val (nv 1)),(5,.val v4),(6,.rd z0n s6.2.2.2)] [(1,some (v1,.box 25 [.rd z03 a0])),(34,some ((nv 0),.list z0k 3 s6.1)),(58,some ((nv 1),.list (z06 32 u8R) 62 s6.2.1)),(2,some (v4,.list z0n 4 s6.2.2.1))] aa ww) (fun aa ww h=>⟨nvl [(.slice none 0 0),(.slice none 0 0)],Zu h [1,59,60,2]⟩) (fun s6=>?_)
  refine gEx fun n7=>z0w<|gSR<|Zm rfl<|Zn<|gIf rfl rfl (fun h8=>?_) (fun h8=>?_)
  ·
   refine gKn 6 rfl h8<|Zt<|z4q<|gSR<|Za rfl<|Zn<|gSR<|Za rfl<|Zn<|z2h (fun (s9:Int) aa ww=>Sta (ctx 51 H [] w) [(1,.val (z09 v1 0)),(3,.val (n7 0)),(4,.val (n7 1)),(5,.val v4),(6,.rd z0n false),(7,.rd z0k s9)] [(1,some (v1,.box 25 [.rd z03 a0])),(34,some ((n7 0),.list z0k 3 s6.1)),(58,some ((n7 1),.list (z06 32 u8R) 62 s6.2.1)),(2,some (v4,.list z0n 4 s6.2.2.1))] aa ww) (fun aa ww h=>Zu h [1,34,58,2]) (fun s9=>?_)
   refine z0w<|gSR<|Zm rfl<|Zq (faB 1 rfl rfl Tryz.underlying25 rfl (by exact z40))<|Zq (ld 1 rfl rfl ((Foc.here).part (z0f _)) zg6 rfl)<|Zq (z37 rfl .rd rfl tu23)<|Zq (I.lss rfl rfl)<|Zn<|gIf rfl rfl (fun h10=>?_) (fun h10=>?_)
   ·
    refine Zt<|z0w<|z4q<|z7f (fun (s11:Bool) aa ww=>Sta (ctx 51 H [] w) [(1,.val (z09 v1 0)),(3,.val (n7 0)),(4,.val (n7 1)),(5,.val v4),(6,.rd z0n false),(7,.rd z0k s9),(34,.rd z0n s11)] [(1,some (v1,.box 25 [.rd z03 a0])),(34,some ((n7 0),.list z0k 3 s6.1)),(58,some ((n7 1),.list (z06 32 u8R) 62 s6.2.1)),(2,some (v4,.list z0n 4 s6.2.2.1))] aa ww) ?_ (fun s11=>?_)
    ·
     refine z1m<|Zm rfl<|Zm rfl<|z0s fun x12 h13=>Zq (ixO 2 rfl rfl rfl h13 tu152 ti4)<|Zq (ld 2 rfl rfl (Foc.el h13) ty4 rfl)<|Zq (zcy rfl)<|Zm rfl<|z1n 25 rfl (fun h14=>?_) (fun h14=>?_)
     ·
      refine lKn 24 rfl h14<|z0z Zx rfl rfl (mv rfl)<|z0z Zx rfl rfl (faB 1 rfl rfl Tryz.underlying25 rfl (by exact z40))<|z0z Zx rfl rfl (ld 1 rfl rfl ((Foc.here).part (z0f _)) zg6 rfl)<|z0z Zx rfl rfl (mv rfl)<|z0s fun x15 h16=>z0z Zx rfl rfl (ixR rfl rfl h16 tu23 z4w rfl)<|z0z Zx rfl rfl (faR rfl (z1l _) Tryz.underlying73 rfl rfl (by exact z2d))<|z0z Zx rfl rfl (ldR rfl z8l)<|zcw [58] [(1,58)] Zx rfl Tryz.func31 rfl rfl (zh8 _ _ _ _) (aW rfl<|aQ rfl<|aN) (y1 rfl) fun r17 n18=>Zq (pkT rfl rfl)<|z1f<|z2x (fun aa ww h=>Zu h [1,34,58,2])
     ·
      refine lKn 24 rfl h14<|Zk rfl<|Zk rfl<|Zk rfl<|Zk rfl<|Zk rfl<|Zk rfl<|Zk rfl<|Zk rfl<|Zq (pkF rfl rfl)<|z1f<|z2x (fun aa ww h=>Zu h [1,34,58,2])
    ·
     refine gIf rfl rfl (fun h19=>?_) (fun h19=>?_)
     ·
      refine z7f (fun (s20:(List Int) × (List (Vector UInt8 32))) aa ww=>∃ nv:Nat→Value,Sta (ctx 51 H [] w) [(1,.val (z09 v1 0)),(3,.val (nv 0)),(4,.val (nv 1)),(5,.val v4),(6,.rd z0n true)] [(1,some (v1,.box 25 [.rd z03 a0])),(34,some ((nv 0),.list z0k 3 s20.1)),(58,some ((nv 1),.list (z06 32 u8R) 62 s20.2)),(2,some (v4,.list z0n 4 (s6.2.2.1.set (s9:Int).toNat true)))] aa ww) ?_ (fun s20=>?_)
      ·
       refine z5m [2,34,58,73,97] mixed rfl rfl<|hTk 0 rfl rfl (mv rfl)<|hTk 1 rfl rfl (mv rfl)<|hTk 2 rfl rfl (mv rfl)<|hTk 3 rfl rfl (mv rfl)<|hTk 6 rfl rfl (mv rfl)<|hTk 7 rfl rfl (faB 1 rfl rfl Tryz.underlying25 rfl (by exact z2d))<|hTk 8 rfl rfl (ld 1 rfl rfl ((Foc.here).part (z0j _)) z8l rfl)<|hTk 9 rfl rfl (mv rfl)<|z0o fun x21 h22=>hTk 10 rfl rfl (ixR rfl rfl h22 tu22 z1p rfl)<|hTk 11 rfl rfl (ldR rfl z49)<|z6o [4,12] (by kernel_rfl) rfl ⟨?_,?_,trivial⟩
       ·
        refine oDo 4 rfl (gd0 rfl) rfl rfl rfl (lit (R:=z0k) ([s9]:List Int) 73 (pP rfl rfl<|pN) rfl tu142 ti3 rfl rfl) (fun _=>rfl) fun v23=>z6o [5,12] (by kernel_rfl) rfl ⟨?_,?_,trivial⟩
        ·
         refine zfq fun x24 h25=>oDo 5 rfl (gd0 rfl) rfl rfl rfl (apn 34 rfl rfl rfl (.own 73 rfl) h25 tu142 ti3 rfl rfl rfl) (fun _=>rfl) fun v26=>Zo 12 rfl rfl rfl (lit (R:=(z06 32 u8R)) ([x21]:List (Vector UInt8 32)) 97 (pP rfl rfl<|pN) rfl tu22 z1p rfl rfl) fun v27=>z2z 97 [47] rfl (fS rfl<|fN)<|z0o fun x28 h29=>Zo 13 rfl rfl rfl (apn 58 rfl rfl rfl .rd h29 tu22 z1p rfl rfl rfl) fun v30=>Zf 14 rfl rfl z05 (asg rfl)<|Zf 15 rfl rfl z05 (asg rfl)<|z0o fun x31 h32=>hTk 16 rfl rfl (ixO 2 rfl rfl rfl h32 tu152 ti4)<|Zp 17 rfl rfl rfl rfl rfl (sto 2 rfl rfl (Foc.el h32) rfl ti4)<|hTk 18 rfl rfl (asg rfl)<|z0y (by kernel_rfl)<|z2x (fun aa ww h=>⟨nvl [v26,v30],Zu h [1,34,58,2]⟩)
        ·
         refine oDo 12 rfl (gd0 rfl) rfl rfl rfl (lit (R:=(z06 32 u8R)) ([x21]:List (Vector UInt8 32)) 97 (pP rfl rfl<|pN) rfl tu22 z1p rfl rfl) (fun _=>rfl) fun v33=>z0o fun x34 h35=>Zo 5 rfl rfl rfl (apn 34 rfl rfl rfl (.own 73 rfl) h35 tu142 ti3 rfl rfl rfl) fun v36=>z2z 97 [47] rfl (fS rfl<|fN)<|z0o fun x37 h38=>Zo 13 rfl rfl rfl (apn 58 rfl rfl rfl .rd h38 tu22 z1p rfl rfl rfl) fun v39=>Zf 14 rfl rfl z05 (asg rfl)<|Zf 15 rfl rfl z05 (asg rfl)<|z0o fun x40 h41=>hTk 16 rfl rfl (ixO 2 rfl rfl rfl h41 tu152 ti4)<|Zp 17 rfl rfl rfl rfl rfl (sto 2 rfl rfl (Foc.el h41) rfl ti4)<|hTk 18 rfl rfl (asg rfl)<|z0y (by kernel_rfl)<|z2x (fun aa ww h=>⟨nvl [v36,v39],Zu h [1,34,58,2]⟩)
       ·
        refine oDo 12 rfl (gd0 rfl) rfl rfl rfl (lit (R:=(z06 32 u8R)) ([x21]:List (Vector UInt8 32)) 97 (pP rfl rfl<|pN) rfl tu22 z1p rfl rfl) (fun _=>rfl) fun v42=>Zo 4 rfl rfl rfl (lit (R:=z0k) ([s9]:List Int) 73 (pP rfl rfl<|pN) rfl tu142 ti3 rfl rfl) fun v43=>z0o fun x44 h45=>Zo 5 rfl rfl rfl (apn 34 rfl rfl rfl (.own 73 rfl) h45 tu142 ti3 rfl rfl rfl) fun v46=>z2z 97 [47] rfl (fS rfl<|fN)<|z0o fun x47 h48=>Zo 13 rfl rfl rfl (apn 58 rfl rfl rfl .rd h48 tu22 z1p rfl rfl rfl) fun v49=>Zf 14 rfl rfl z05 (asg rfl)<|Zf 15 rfl rfl z05 (asg rfl)<|z0o fun x50 h51=>hTk 16 rfl rfl (ixO 2 rfl rfl rfl h51 tu152 ti4)<|Zp 17 rfl rfl rfl rfl rfl (sto 2 rfl rfl (Foc.el h51) rfl ti4)<|hTk 18 rfl rfl (asg rfl)<|z0y (by kernel_rfl)<|z2x (fun aa ww h=>⟨nvl [v46,v49],Zu h [1,34,58,2]⟩)
      ·
       refine gEx fun n52=>z1z<|z10d rfl<|z13<|z14<|z1w<|z0r (fun aa ww h=>⟨nvl [(n52 0),(n52 1)],Zu h [1,34,58,2]⟩)
     ·
      refine z2l<|z1w<|z0d<|z1m<|Zm rfl<|Zq (I.add rfl rfl)<|Za rfl<|z1f<|z0r (fun aa ww h=>Zu h [1,34,58,2])
   ·
    refine z1z<|z13<|z14<|z1w<|z0r (fun aa ww h=>⟨nvl [(n7 0),(n7 1)],Zu h [1,34,58,2]⟩)
  ·
   refine gKn 6 rfl h8<|z1z<|z13<|z14<|z2x (fun aa ww h=>⟨nvl [(n7 0)],Zu h [34]⟩)
 ·
  refine gEx fun n53=>gSR<|Zm rfl<|Za rfl<|Zn<|z0m<|Ze [(n53 0)] [18] rfl
def z62 (a0:z01) (s6:Int):Option (Sum (Sum Int Unit) Int) :=
 if decide (s6<(a0.Ops.length:Int)) then
  idx a0.Ops s6 >>= fun x8 =>
  z3r a0.IDs x8.Preds >>= fun r10 =>
  if !r10 then
   some (.inl (.inl 40))
  else
   some (.inr (w64 (s6+1)))
 else
  some (.inl (.inr ()))
def zav (a0:z01):Option (Int) :=
 z4n a0.IDs >>= fun r2 =>
 if !r2 then
  some 32
 else
  z5p (iter (z62 a0) 0) fun s5 =>
  z4k a0 >>= fun r13 =>
  if decide ((r13.length:Int)<(a0.Ops.length:Int)) then
   some 36
  else
   some 0
theorem zhs (a0:z01):z27 Tryz.prog 70 [.rd z03 a0] [] (zav a0) (fun r nv=>⟨[.rd z0k r],[]⟩):=by
 refine z2n 32 Tryz.func70 rfl rfl rfl fun H w=>?_
 refine gSR<|Eb rfl (bx 1 rfl) fun v1=>Za rfl<|Zn<|z0w<|gSR<|Zq (faB 1 rfl rfl Tryz.underlying25 rfl (by exact z2d))<|Zq (ld 1 rfl rfl ((Foc.here).part (z0j _)) z8l rfl)<|Zc [] [] Tryz.func108 rfl (zac _) fun r2 n3=>Zq (zcy rfl)<|Zn<|gIf rfl rfl (fun h4=>?_) (fun h4=>?_)
 ·
  refine gSR<|Za rfl<|Zn<|z0m<|z12<|Ze [] [] rfl
 ·
  refine Zt<|z7k (fun (s5:Unit) aa ww=>Sta (ctx 32 H [] w) [(1,.val (z09 v1 0))] [(1,some (v1,.box 25 [.rd z03 a0]))] aa ww) ?_ (fun s5=>?_)
  ·
   refine gSR<|Za rfl<|Zn<|z2h (fun (s6:Int) aa ww=>Sta (ctx 32 H [] w) [(1,.val (z09 v1 0)),(3,.rd z0k s6)] [(1,some (v1,.box 25 [.rd z03 a0]))] aa ww) (fun aa ww h=>Zu h [1]) (fun s6=>?_)
   refine z0w<|gSR<|Zm rfl<|Zq (faB 1 rfl rfl Tryz.underlying25 rfl (by exact z40))<|Zq (ld 1 rfl rfl ((Foc.here).part (z0f _)) zg6 rfl)<|Zq (z37 rfl .rd rfl tu23)<|Zq (I.lss rfl rfl)<|Zn<|gIf rfl rfl (fun h7=>?_) (fun h7=>?_)
   ·
    refine Zt<|z0w<|z4q<|z0w<|z5m [] mixed rfl rfl<|hTk 0 rfl rfl (faB 1 rfl rfl Tryz.underlying25 rfl (by exact z2d))<|hTk 1 rfl rfl (ld 1 rfl rfl ((Foc.here).part (z0j _)) z8l rfl)<|hTk 2 rfl rfl (faB 1 rfl rfl Tryz.underlying25 rfl (by exact z40))<|hTk 3 rfl rfl (ld 1 rfl rfl ((Foc.here).part (z0f _)) zg6 rfl)<|hTk 4 rfl rfl (mv rfl)<|z0o fun x8 h9=>hTk 5 rfl rfl (ixR rfl rfl h9 tu23 z4w rfl)<|hTk 6 rfl rfl (faR rfl (z1l _) Tryz.underlying73 rfl rfl (by exact z2d))<|hTk 7 rfl rfl (ldR rfl z8l)<|z10 8 [] [] rfl (by kernel_rfl) rfl (gd0 rfl) rfl Tryz.func31 rfl rfl (zem _ _) (Y2 rfl rfl) rN rfl (fun _ _=>zbv) fun r10 n11=>hTk 9 rfl rfl (zcy rfl)<|z0y (by kernel_rfl)<|z0d<|gIf rfl rfl (fun h12=>?_) (fun h12=>?_)
    ·
     refine gSR<|Za rfl<|Zn<|z0m<|z4a<|z12<|z7g<|z54<|Ze [] [] rfl
    ·
     refine z2l<|z1w<|z0d<|z1m<|Zm rfl<|Zq (I.add rfl rfl)<|Za rfl<|z1f<|z0r (fun aa ww h=>Zu h [1])
   ·
    refine z1z<|z13<|z14<|z4s (fun aa ww h=>Zu h [1])
  ·
   refine z0w<|z0w<|z5m [38] mixed rfl rfl<|hTk 0 rfl rfl (ld 1 rfl rfl Foc.here z99 rfl)<|hTk 3 rfl rfl (faB 1 rfl rfl Tryz.underlying25 rfl (by exact z40))<|hTk 4 rfl rfl (ld 1 rfl rfl ((Foc.here).part (z0f _)) zg6 rfl)<|hTk 5 rfl rfl (z37 rfl .rd rfl tu23)<|z10 1 [] [(100,38)] rfl (by kernel_rfl) rfl (gd0 rfl) rfl Tryz.func109 rfl rfl (zde _) (Y1 rfl) rN rfl (fun _ _=>z05) fun r13 n14=>Zf 2 rfl rfl z07 (z37 rfl (.own 38 rfl) rfl tu142)<|hTk 6 rfl rfl (I.lss rfl rfl)<|z0y (by kernel_rfl)<|z0d<|gIf rfl rfl (fun h15=>?_) (fun h15=>?_)
   ·
    refine gSR<|Za rfl<|Zn<|z0m<|z12<|Ze [] [] rfl
   ·
    refine Zt<|gSR<|Za rfl<|Zn<|z0m<|Ze [] [] rfl
def z64 (a0:z01) (s5:Int):Option (Sum (Sum Int Unit) Int) :=
 if decide (s5<(a0.Ops.length:Int)) then
  idx a0.Ops s5 >>= fun x7 =>
  z9w x7 >>= fun r9 =>
  if r9 != 0 then
   some (.inl (.inl 8))
  else
   idx a0.Ops s5 >>= fun x12 =>
   idx a0.IDs s5 >>= fun x14 =>
   zcv x12 >>= fun r16 =>
   if !decide (r16=x14) then
    some (.inl (.inl 8))
   else
    some (.inr (w64 (s5+1)))
 else
  some (.inl (.inr ()))
def z2c (a0:z01):Option (Int) :=
 if decide (60<(a0.Ops.length:Int)) then
  some 4
 else
  if (a0.IDs.length:Int) != (a0.Ops.length:Int) then
   some 8
  else
   z5p (iter (z64 a0) 0) fun s4 =>
   zav a0 >>= fun r19 =>
   some r19
theorem z8j (a0:z01):z27 Tryz.prog 38 [.rd z03 a0] [] (z2c a0) (fun r nv=>⟨[.rd z0k r],[]⟩):=by
 refine z2n 45 Tryz.func38 rfl rfl rfl fun H w=>?_
 refine gSR<|Eb rfl (bx 1 rfl) fun v1=>Za rfl<|Zn<|z0w<|gSR<|Zq (faB 1 rfl rfl Tryz.underlying25 rfl (by exact z40))<|Zq (ld 1 rfl rfl ((Foc.here).part (z0f _)) zg6 rfl)<|Zq (z37 rfl .rd rfl tu23)<|Zq (I.gtr rfl rfl)<|Zn<|gIf rfl rfl (fun h2=>?_) (fun h2=>?_)
 ·
  refine gSR<|Za rfl<|Zn<|z0m<|z12<|Ze [] [] rfl
 ·
  refine Zt<|z0w<|gSR<|Zq (faB 1 rfl rfl Tryz.underlying25 rfl (by exact z2d))<|Zq (ld 1 rfl rfl ((Foc.here).part (z0j _)) z8l rfl)<|Zq (z37 rfl .rd rfl tu22)<|Zq (faB 1 rfl rfl Tryz.underlying25 rfl (by exact z40))<|Zq (ld 1 rfl rfl ((Foc.here).part (z0f _)) zg6 rfl)<|Zq (z37 rfl .rd rfl tu23)<|Zq (I.neq rfl rfl)<|Zn<|gIf rfl rfl (fun h3=>?_) (fun h3=>?_)
  ·
   refine gSR<|Za rfl<|Zn<|z0m<|z12<|Ze [] [] rfl
  ·
   refine Zt<|z7k (fun (s4:Unit) aa ww=>Sta (ctx 45 H [] w) [(1,.val (z09 v1 0))] [(1,some (v1,.box 25 [.rd z03 a0]))] aa ww) ?_ (fun s4=>?_)
   ·
    refine gSR<|Za rfl<|Zn<|z2h (fun (s5:Int) aa ww=>Sta (ctx 45 H [] w) [(1,.val (z09 v1 0)),(3,.rd z0k s5)] [(1,some (v1,.box 25 [.rd z03 a0]))] aa ww) (fun aa ww h=>Zu h [1]) (fun s5=>?_)
    refine z0w<|gSR<|Zm rfl<|Zq (faB 1 rfl rfl Tryz.underlying25 rfl (by exact z40))<|Zq (ld 1 rfl rfl ((Foc.here).part (z0f _)) zg6 rfl)<|Zq (z37 rfl .rd rfl tu23)<|Zq (I.lss rfl rfl)<|Zn<|gIf rfl rfl (fun h6=>?_) (fun h6=>?_)
    ·
     refine Zt<|z0w<|z4q<|z0w<|z5m [] mixed rfl rfl<|hTk 0 rfl rfl (faB 1 rfl rfl Tryz.underlying25 rfl (by exact z40))<|hTk 1 rfl rfl (ld 1 rfl rfl ((Foc.here).part (z0f _)) zg6 rfl)<|hTk 2 rfl rfl (mv rfl)<|z0o fun x7 h8=>hTk 3 rfl rfl (ixR rfl rfl h8 tu23 z4w rfl)<|hTk 4 rfl rfl (ldR rfl zg5)<|z10 5 [] [] rfl (by kernel_rfl) rfl (gd0 rfl) rfl Tryz.func69 rfl rfl (zh9 _) (Y1 rfl) rN rfl (fun _ _=>z07) fun r9 n10=>hTk 6 rfl rfl (I.neq rfl rfl)<|hTk 7 rfl rfl (mv rfl)<|hIf 29 rfl rfl (fun h11=>?_) (fun h11=>?_)
     ·
      refine hKn 28 rfl rfl h11<|hSk 8 rfl rfl<|hSk 9 rfl rfl<|hSk 10 rfl rfl<|hSk 11 rfl rfl<|hSk 12 rfl rfl<|hSk 13 rfl rfl<|hSk 14 rfl rfl<|hSk 15 rfl rfl<|hSk 16 rfl rfl<|hSk 17 rfl rfl<|hSk 18 rfl rfl<|hSk 19 rfl rfl<|hTk 20 rfl rfl (pkT rfl rfl)<|z0y (by kernel_rfl)<|z0d<|zdg rfl<|gSR<|Za rfl<|Zn<|z0m<|z4a<|z12<|z7g<|z54<|Ze [] [] rfl
     ·
      refine hKn 28 rfl rfl h11<|Zg 8 rfl rfl (faB 1 rfl rfl Tryz.underlying25 rfl (by exact z40))<|Zg 9 rfl rfl (ld 1 rfl rfl ((Foc.here).part (z0f _)) zg6 rfl)<|Zg 10 rfl rfl (mv rfl)<|z0o fun x12 h13=>Zg 11 rfl rfl (ixR rfl rfl h13 tu23 z4w rfl)<|Zg 12 rfl rfl (ldR rfl zg5)<|Zg 14 rfl rfl (faB 1 rfl rfl Tryz.underlying25 rfl (by exact z2d))<|Zg 15 rfl rfl (ld 1 rfl rfl ((Foc.here).part (z0j _)) z8l rfl)<|Zg 16 rfl rfl (mv rfl)<|z0o fun x14 h15=>Zg 17 rfl rfl (ixR rfl rfl h15 tu22 z1p rfl)<|Zg 18 rfl rfl (ldR rfl z49)<|zd9 13 [] [] rfl (by kernel_rfl) rfl Zx rfl Tryz.func58 rfl rfl (zl0 _) (Y1 rfl) rN rfl fun r16 n17=>zuw 19 rfl (by kernel_rfl) (by kernel_rfl) (by kernel_rfl) Zx rfl rfl zbv (neA rfl rfl zsh rfl rfl zsu)<|hTk 20 rfl rfl (pkF rfl rfl)<|z0y (by kernel_rfl)<|z0d<|gIf rfl rfl (fun h18=>?_) (fun h18=>?_)
      ·
       refine gKn 41 rfl h18<|gSR<|Za rfl<|Zn<|z0m<|z4a<|z12<|z7g<|z54<|Ze [] [] rfl
      ·
       refine gKn 41 rfl h18<|z2l<|z1w<|z0d<|z1m<|Zm rfl<|Zq (I.add rfl rfl)<|Za rfl<|z1f<|z0r (fun aa ww h=>Zu h [1])
    ·
     refine z1z<|z13<|z14<|z4s (fun aa ww h=>Zu h [1])
   ·
    refine gSR<|Zq (ld 1 rfl rfl Foc.here z99 rfl)<|Zc [] [] Tryz.func70 rfl (zhs _) fun r19 n20=>Za rfl<|Zn<|z0m<|Ze [] [] rfl
end
section
open Go Go.RowKit
set_option maxRecDepth 100000
def z4d (a0:z01) (s4:(List ((Vector UInt8 32) × Int)) × Int):Option (Sum ((List ((Vector UInt8 32) × Int))) ((List ((Vector UInt8 32) × Int)) × Int)) :=
 if decide (s4.2<(a0.IDs.length:Int)) then
  idx a0.IDs s4.2 >>= fun x6 =>
  some (.inr (zqw s4.1 x6 s4.2,w64 (s4.2+1)))
 else
  some (.inl s4.1)
def z4y (a0:z01):Option ((List ((Vector UInt8 32) × Int))) :=
 (iter (z4d a0) (([]:List ((Vector UInt8 32) × Int)),0)) >>= fun s3 =>
 some s3
theorem zbd (a0:z01):z27 Tryz.prog 123 [.rd z03 a0] [] (z4y a0) (fun r nv=>⟨[.val (nv 0)],[(100,some (nv 0,.map (z06 32 u8R) z0k r))]⟩):=by
 refine z2n 23 Tryz.func123 rfl rfl rfl fun H w=>?_
 refine gSR<|Eb rfl (bx 1 rfl) fun v1=>Za rfl<|Zn<|gSR<|Zq (faB 1 rfl rfl Tryz.underlying25 rfl (by exact z2d))<|Zq (ld 1 rfl rfl ((Foc.here).part (z0j _)) z8l rfl)<|Zq (z37 rfl .rd rfl tu22)<|Ef rfl (mkm (z06 32 u8R) z0k 2 (Or.inr ⟨_,_,rfl,rfl⟩) Tryz.underlying156) fun v2=>Za rfl<|Zn<|z7f (fun (s3:(List ((Vector UInt8 32) × Int))) aa ww=>Sta (ctx 23 H [] w) [(3,.val v2)] [(2,some (v2,.map (z06 32 u8R) z0k s3))] aa ww) ?_ (fun s3=>?_)
 ·
  refine gSR<|Zq (faB 1 rfl rfl Tryz.underlying25 rfl (by exact z2d))<|Zq (ld 1 rfl rfl ((Foc.here).part (z0j _)) z8l rfl)<|Zq (z37 rfl .rd rfl tu22)<|Zm rfl<|Zn<|z2h (fun (s4:(List ((Vector UInt8 32) × Int)) × Int) aa ww=>Sta (ctx 23 H [] w) [(3,.val v2),(11,.rd (z02 (z06 32 u8R)) a0.IDs),(12,.rd z0k (a0.IDs.length:Int)),(13,.rd z0k s4.2)] [(2,some (v2,.map (z06 32 u8R) z0k s4.1))] aa ww) (fun aa ww h=>Zu h [2]) (fun s4=>?_)
  refine gSR<|Zq (I.lss rfl rfl)<|Zn<|z0w<|gIf rfl rfl (fun h5=>?_) (fun h5=>?_)
  ·
   refine Zt<|z0w<|z4q<|gSR<|Zm rfl<|z0s fun x6 h7=>Zq (ixR rfl rfl h7 tu22 z1p rfl)<|Zq (ldR rfl z49)<|Eb rfl (z7s 3 z1p (.zr (R:=(z06 32 u8R)) (x:=(Vector.replicate 32 0)) zj3)) fun v8=>Za rfl<|Es (sto 3 rfl rfl Foc.here rfl z1p)<|Zn<|z1m<|Zm rfl<|Zq (ld 3 rfl rfl Foc.here z49 rfl)<|Zm rfl<|Es (mup 2 rfl rfl rfl rfl ky62 Tryz.underlying156)<|z1f<|z1w<|z0d<|z1m<|Zq (I.add rfl rfl)<|Zm rfl<|z1f<|z0r (fun aa ww h=>Zu h [2])
  ·
   refine z1z<|z13<|z14<|z2x (fun aa ww h=>Zu h [2])
 ·
  refine gSR<|Zm rfl<|Za rfl<|Zn<|z0m<|Ze [v2] [2] rfl
def z7w (a0:z01) (r2:(List Int)) (s5:(List (Vector UInt8 32)) × Int):Option (Sum ((List (Vector UInt8 32))) ((List (Vector UInt8 32)) × Int)) :=
 if decide (s5.2<(r2.length:Int)) then
  idx r2 s5.2 >>= fun x8 =>
  idx a0.IDs x8 >>= fun x10 =>
  app 32 s5.1 [x10] >>= fun x13 =>
  some (w64 (s5.2+1)) >>= fun y16 =>
  some (.inr (x13,y16))
 else
  some (.inl s5.1)
def z9t (a0:z01):Option ((List (Vector UInt8 32))) :=
 z4k a0 >>= fun r2 =>
 (iter (z7w a0 r2) ([],0)) >>= fun s4 =>
 some s4
theorem zh6 (a0:z01):z27 Tryz.prog 127 [.rd z03 a0] [] (z9t a0) (fun r nv=>⟨[.val (nv 0)],[(100,some (nv 0,.list (z06 32 u8R) 62 r))]⟩):=by
 refine z2n 26 Tryz.func127 rfl rfl rfl fun H w=>?_
 refine gSR<|Eb rfl (bx 1 rfl) fun v1=>Za rfl<|Zn<|gSR<|Zq (ld 1 rfl rfl Foc.here z99 rfl)<|Zc [] [(100,2)] Tryz.func109 rfl (zde _) fun r2 n3=>Za rfl<|Zn<|gSR<|Za rfl<|Zn<|z7f (fun (s4:(List (Vector UInt8 32))) aa ww=>∃ nv:Nat→Value,Sta (ctx 26 H [] w) [(4,.val (nv 0))] [(33,some ((nv 0),.list (z06 32 u8R) 62 s4))] aa ww) ?_ (fun s4=>?_)
 ·
  refine gSR<|Za rfl<|Zn<|zrq (z06 32 u8R) 62 65<|z2h (fun (s5:(List (Vector UInt8 32)) × Int) aa ww=>∃ nv:Nat→Value,Sta (ctx 26 H [] w) [(1,.val (z09 v1 0)),(3,.val (n3 0)),(4,.val (nv 0)),(5,.rd z0k s5.2)] [(1,some (v1,.box 25 [.rd z03 a0])),(2,some ((n3 0),.list z0k 3 r2)),(64,some ((nv 0),.list (z06 32 u8R) 62 s5.1))] aa ww) (fun aa ww h=>⟨nvl [(.slice none 0 0)],Zu h [1,2,65]⟩) (fun s5=>?_)
  refine gEx fun n6=>z0w<|gSR<|Zm rfl<|Zm rfl<|Zq (z37 rfl (.own 2 rfl) rfl tu142)<|Zq (I.lss rfl rfl)<|Zn<|gIf rfl rfl (fun h7=>?_) (fun h7=>?_)
  ·
   refine Zt<|z0w<|z4q<|z5m [64,93] mixed rfl rfl<|hTk 0 rfl rfl (mv rfl)<|hTk 1 rfl rfl (faB 1 rfl rfl Tryz.underlying25 rfl (by exact z2d))<|hTk 2 rfl rfl (ld 1 rfl rfl ((Foc.here).part (z0j _)) z8l rfl)<|hTk 3 rfl rfl (mv rfl)<|hTk 4 rfl rfl (mv rfl)<|z0o fun x8 h9=>hTk 5 rfl rfl (ixO 2 rfl rfl rfl h9 tu142 ti3)<|hTk 6 rfl rfl (ld 2 rfl rfl (Foc.el h9) ty3 rfl)<|z0o fun x10 h11=>hTk 7 rfl rfl (ixR rfl rfl h11 tu22 z1p rfl)<|hTk 8 rfl rfl (ldR rfl z49)<|Zo 9 rfl rfl rfl (lit (R:=(z06 32 u8R)) ([x10]:List (Vector UInt8 32)) 93 (pP rfl rfl<|pN) rfl tu22 z1p rfl rfl) fun v12=>z2z 93 [23] rfl (fS rfl<|fN)<|z0o fun x13 h14=>Zo 10 rfl rfl rfl (apn 64 rfl rfl rfl .rd h14 tu22 z1p rfl rfl rfl) fun v15=>Zf 11 rfl rfl z05 (asg rfl)<|z0y (by kernel_rfl)<|z1w<|z0d<|z1m<|Zm rfl<|Zq (I.add rfl rfl)<|Za rfl<|z1e 5 rfl fun y16=>z1f<|z0r (fun aa ww h=>⟨nvl [v15],Zu h [1,2,64]⟩)
  ·
   refine z1z<|z13<|z14<|z2x (fun aa ww h=>⟨nvl [(n6 0)],Zu h [64]⟩)
 ·
  refine gEx fun n17=>gSR<|Zm rfl<|Za rfl<|Zn<|z0m<|Ze [(n17 0)] [33] rfl
def z8m (a0:z01):Option ((List (Vector UInt8 32)) × Int) :=
 z2c a0 >>= fun r2 =>
 if r2 != 0 then
  some ([],r2)
 else
  z9t a0 >>= fun r5 =>
  some (r5,0)
theorem zi8 (a0:z01):z27 Tryz.prog 87 [.rd z03 a0] [] (z8m a0) (fun r nv=>⟨[.val (nv 0),.rd z0k r.2],[(100,some (nv 0,.list (z06 32 u8R) 62 r.1))]⟩):=by
 refine z2n 12 Tryz.func87 rfl rfl rfl fun H w=>?_
 refine gSR<|Eb rfl (bx 1 rfl) fun v1=>Za rfl<|Za rfl<|Zn<|z0w<|gSR<|Zq (ld 1 rfl rfl Foc.here z99 rfl)<|Zc [] [] Tryz.func38 rfl (z8j _) fun r2 n3=>Za rfl<|Zn<|gSR<|Zm rfl<|Zq (I.neq rfl rfl)<|Zn<|gIf rfl rfl (fun h4=>?_) (fun h4=>?_)
 ·
  refine gSR<|Zm rfl<|Za rfl<|Za rfl<|Zn<|z0m<|z12<|zm0 (z06 32 u8R) 62 2<|Ze [(.slice none 0 0)] [2] rfl
 ·
  refine Zt<|gSR<|Zq (ld 1 rfl rfl Foc.here z99 rfl)<|Zc [] [(100,3)] Tryz.func127 rfl (zh6 _) fun r5 n6=>Za rfl<|Za rfl<|Zn<|z0m<|Ze [(n6 0)] [3] rfl
def zb9 (a0:Vector UInt8 32) (c1_0:List Bool) (c2_0:List ((Vector UInt8 32) × Int)):Option (Bool) :=
 idx c1_0 ((zj8 c2_0 a0).getD 0) >>= fun x2 =>
 some (!x2)
theorem zgs (a0:Vector UInt8 32) (p1_0:Value) (q1_0:Value) (c1_0:List Bool) (p2_0:Value) (q2_0:Value) (c2_0:List ((Vector UInt8 32) × Int)):z27 Tryz.prog 126 [.rd (z06 32 u8R) a0,.val (z09 p1_0 0),.val (z09 p2_0 0)] [(1,some (p1_0,.box 152 [.val q1_0])),(2,some (q1_0,.list z0n 4 c1_0)),(3,some (p2_0,.box 156 [.val q2_0])),(4,some (q2_0,.map (z06 32 u8R) z0k c2_0))] (zb9 a0 c1_0 c2_0) (fun r nv=>⟨[.rd z0n r],[(1,some (p1_0,.box 152 [.val q1_0])),(2,some (q1_0,.list z0n 4 c1_0)),(3,some (p2_0,.box 156 [.val q2_0])),(4,some (q2_0,.map (z06 32 u8R) z0k c2_0))]⟩):=by
 refine z2n 12 Tryz.func126 rfl rfl rfl fun H w=>?_
 refine gSR<|Eb rfl (bx 5 rfl) fun v1=>Za rfl<|Zn<|z0w<|zdn mixed (by kernel_rfl)<|Rq rfl (ldV 1 rfl rfl .here zt2 rfl)<|Rq rfl (ldV 3 rfl rfl .here z11l rfl)<|Rq rfl (ld 5 rfl rfl Foc.here z49 rfl)<|Rq rfl (mlk rfl (.own 4 rfl rfl) rfl ky62 Tryz.underlying156 ti3 (Zr.num rfl) rfl)<|z6a fun x2 h3=>Rq rfl (ixO 2 rfl rfl rfl h3 tu152 ti4)<|Rq rfl (ld 2 rfl rfl (Foc.el h3) ty4 rfl)<|Rq rfl (zcy rfl)<|Rq rfl (asg rfl)<|zl6<|z0d<|z0m<|Ze [] [1,2,3,4] rfl
def z1d (a0:List (Vector UInt8 32)) (c1_0:List Bool) (c1_1:List ((Vector UInt8 32) × Int)) (s2:Int):Option (Sum (Sum Int Unit) Int) :=
 if decide (s2<(a0.length:Int)) then
  idx a0 s2 >>= fun x4 =>
  zb9 x4 c1_0 c1_1 >>= fun r6 =>
  if r6 then
   some (.inl (.inl s2))
  else
   some (.inr (w64 (s2+1)))
 else
  some (.inl (.inr ()))
def z2p (a0:List (Vector UInt8 32)) (c1_0:List Bool) (c1_1:List ((Vector UInt8 32) × Int)):Option (Int) :=
 z5p (iter (z1d a0 c1_0 c1_1) 0) fun s1 =>
 some (-1)
theorem z5x (a0:List (Vector UInt8 32)) (p1_0:Value) (q1_0:Value) (c1_0:List Bool) (p1_1:Value) (q1_1:Value) (c1_1:List ((Vector UInt8 32) × Int)):z27 Tryz.prog 114 [.rd (z02 (z06 32 u8R)) a0,.val (.func (.func 126) #[] #[z09 p1_0 0,z09 p1_1 0])] [(1,some (p1_0,.box 152 [.val q1_0])),(2,some (q1_0,.list z0n 4 c1_0)),(3,some (p1_1,.box 156 [.val q1_1])),(4,some (q1_1,.map (z06 32 u8R) z0k c1_1))] (z2p a0 c1_0 c1_1) (fun r nv=>⟨[.rd z0k r],[(1,some (p1_0,.box 152 [.val q1_0])),(2,some (q1_0,.list z0n 4 c1_0)),(3,some (p1_1,.box 156 [.val q1_1])),(4,some (q1_1,.map (z06 32 u8R) z0k c1_1))]⟩):=by
 refine z2n 19 Tryz.func114 rfl rfl rfl fun H w=>?_
 refine gSR<|Za rfl<|Zn<|z7k (fun (s1:Unit) aa ww=>Sta (ctx 19 H [(1,some (p1_0,.box 152 [.val q1_0])),(2,some (q1_0,.list z0n 4 c1_0)),(3,some (p1_1,.box 156 [.val q1_1])),(4,some (q1_1,.map (z06 32 u8R) z0k c1_1))] w) [] [(2,some (q1_0,.list z0n 4 c1_0)),(1,some (p1_0,.box 152 [.val q1_0])),(4,some (q1_1,.map (z06 32 u8R) z0k c1_1)),(3,some (p1_1,.box 156 [.val q1_1]))] aa ww) ?_ (fun s1=>?_)
 ·
  refine gSR<|Zm rfl<|Zq (z37 rfl .rd rfl tu22)<|Zm rfl<|Zn<|z2h (fun (s2:Int) aa ww=>Sta (ctx 19 H [(1,some (p1_0,.box 152 [.val q1_0])),(2,some (q1_0,.list z0n 4 c1_0)),(3,some (p1_1,.box 156 [.val q1_1])),(4,some (q1_1,.map (z06 32 u8R) z0k c1_1))] w) [(0,.rd (z02 (z06 32 u8R)) a0),(1,.val (.func (.func 126) #[] #[z09 p1_0 0,z09 p1_1 0])),(7,.rd z0k (a0.length:Int)),(8,.rd z0k s2)] [(2,some (q1_0,.list z0n 4 c1_0)),(1,some (p1_0,.box 152 [.val q1_0])),(4,some (q1_1,.map (z06 32 u8R) z0k c1_1)),(3,some (p1_1,.box 156 [.val q1_1]))] aa ww) (fun aa ww h=>Zu h [2,1,4,3]) (fun s2=>?_)
  refine gSR<|Zq (I.lss rfl rfl)<|Zn<|z0w<|gIf rfl rfl (fun h3=>?_) (fun h3=>?_)
  ·
   refine Zt<|z0w<|z4q<|gSR<|Zm rfl<|Za rfl<|Zn<|gSR<|Zm rfl<|Zm rfl<|Zm rfl<|z0s fun x4 h5=>Zq (ixR rfl rfl h5 tu22 z1p rfl)<|Zq (ldR rfl z49)<|zgf [1,2,3,4] [(1,1),(2,2),(3,3),(4,4)] (gd0 rfl) rfl rfl Tryz.func126 rfl rfl (zgs _ _ _ _ _ _ _) (Y1 rfl) (cQ 1 rfl<|cQ 3 rfl<|cN) (Zi rfl<|Zi rfl<|Zi rfl<|Zi rfl<|rN) fun r6 n7=>Zn<|gIf rfl rfl (fun h8=>?_) (fun h8=>?_)
   ·
    refine gSR<|Zm rfl<|Za rfl<|Zn<|z0m<|z4a<|z12<|z7g<|z54<|Ze [] [1,2,3,4] rfl
   ·
    refine z2l<|z1w<|z0d<|z1m<|Zq (I.add rfl rfl)<|Zm rfl<|z1f<|z0r (fun aa ww h=>Zu h [2,1,4,3])
  ·
   refine z1z<|z13<|z14<|z4s (fun aa ww h=>Zu h [2,1,4,3])
 ·
  refine gSR<|Za rfl<|Zn<|z0m<|Ze [] [1,2,3,4] rfl
def z1t (a0:List (Vector UInt8 32)) (c1_0:List Bool) (c1_1:List ((Vector UInt8 32) × Int)):Option (Bool) :=
 z2p a0 c1_0 c1_1 >>= fun r1 =>
 some (decide (0≤r1)) >>= fun y3 =>
 some y3
theorem z59 (a0:List (Vector UInt8 32)) (p1_0:Value) (q1_0:Value) (c1_0:List Bool) (p1_1:Value) (q1_1:Value) (c1_1:List ((Vector UInt8 32) × Int)):z27 Tryz.prog 125 [.rd (z02 (z06 32 u8R)) a0,.val (.func (.func 126) #[] #[z09 p1_0 0,z09 p1_1 0])] [(1,some (p1_0,.box 152 [.val q1_0])),(2,some (q1_0,.list z0n 4 c1_0)),(3,some (p1_1,.box 156 [.val q1_1])),(4,some (q1_1,.map (z06 32 u8R) z0k c1_1))] (z1t a0 c1_0 c1_1) (fun r nv=>⟨[.rd z0n r],[(1,some (p1_0,.box 152 [.val q1_0])),(2,some (q1_0,.list z0n 4 c1_0)),(3,some (p1_1,.box 156 [.val q1_1])),(4,some (q1_1,.map (z06 32 u8R) z0k c1_1))]⟩):=by
 refine z2n 9 Tryz.func125 rfl rfl rfl fun H w=>?_
 refine gSR<|Za rfl<|Zn<|gSR<|Zm rfl<|Zm rfl<|Zc [1,2,3,4] [(1,1),(2,2),(3,3),(4,4)] Tryz.func114 rfl (z5x _ _ _ _ _ _ _) fun r1 n2=>Zq (I.geq rfl rfl)<|Za rfl<|z1e 4 rfl fun y3=>Zn<|z0m<|Ze [] [1,2,3,4] rfl
def zas (a0:Int) (c1_0:List Bool) (c2_0:z01) (c3_0:List ((Vector UInt8 32) × Int)):Option (Bool) :=
 idx c1_0 a0 >>= fun x1 =>
 if !x1 then
  idx c2_0.Ops a0 >>= fun x4 =>
  z1t x4.Preds c1_0 c3_0 >>= fun r6 =>
  some (!r6)
 else
  some false
theorem zik (a0:Int) (p1_0:Value) (q1_0:Value) (c1_0:List Bool) (p2_0:Value) (c2_0:z01) (p3_0:Value) (q3_0:Value) (c3_0:List ((Vector UInt8 32) × Int)):z27 Tryz.prog 124 [.rd z0k a0,.val (z09 p1_0 0),.val (z09 p2_0 0),.val (z09 p3_0 0)] [(1,some (p1_0,.box 152 [.val q1_0])),(2,some (q1_0,.list z0n 4 c1_0)),(3,some (p2_0,.box 25 [.rd z03 c2_0])),(4,some (p3_0,.box 156 [.val q3_0])),(5,some (q3_0,.map (z06 32 u8R) z0k c3_0))] (zas a0 c1_0 c2_0 c3_0) (fun r nv=>⟨[.rd z0n r],[(1,some (p1_0,.box 152 [.val q1_0])),(2,some (q1_0,.list z0n 4 c1_0)),(3,some (p2_0,.box 25 [.rd z03 c2_0])),(4,some (p3_0,.box 156 [.val q3_0])),(5,some (q3_0,.map (z06 32 u8R) z0k c3_0))]⟩):=by
 refine z2n 22 Tryz.func124 rfl rfl rfl fun H w=>?_
 refine gSR<|Za rfl<|Zn<|gSR<|Zq (ldV 1 rfl rfl .here zt2 rfl)<|Zm rfl<|z0s fun x1 h2=>Zq (ixO 2 rfl rfl rfl h2 tu152 ti4)<|Zq (ld 2 rfl rfl (Foc.el h2) ty4 rfl)<|Zq (zcy rfl)<|Zm rfl<|z1n 11 rfl (fun h3=>?_) (fun h3=>?_)
 ·
  refine lKn 10 rfl h3<|z0z Zx rfl rfl (faB 3 rfl rfl Tryz.underlying25 rfl (by exact z40))<|z0z Zx rfl rfl (ld 3 rfl rfl ((Foc.here).part (z0f _)) zg6 rfl)<|z0z Zx rfl rfl (mv rfl)<|z0s fun x4 h5=>z0z Zx rfl rfl (ixR rfl rfl h5 tu23 z4w rfl)<|z0z Zx rfl rfl (faR rfl (z1l _) Tryz.underlying73 rfl rfl (by exact z2d))<|z0z Zx rfl rfl (ldR rfl z8l)<|z0z Zx rfl rfl (mkf mp0 (mp2 rfl rfl))<|zcw [1,2,4,5] [(1,1),(2,2),(3,4),(4,5)] Zx rfl Tryz.func125 rfl rfl (z59 _ _ _ _ _ _ _) (Y2 rfl rfl) (Zi rfl<|Zi rfl<|Zi rfl<|Zi rfl<|rN) fun r6 n7=>z0z Zx rfl rfl (zcy rfl)<|Zq (pkT rfl rfl)<|Za rfl<|Zn<|z0m<|Ze [] [1,2,3,4,5] rfl
 ·
  refine lKn 10 rfl h3<|Zk rfl<|Zk rfl<|Zk rfl<|Zk rfl<|Zk rfl<|Zk rfl<|Zk rfl<|Zk rfl<|Zk rfl<|Zq (pkF rfl rfl)<|Za rfl<|Zn<|z0m<|Ze [] [1,2,3,4,5] rfl
def z81 (a0:z01) (r5:(List ((Vector UInt8 32) × Int))) (s13:(List Bool) × (List (Vector UInt8 32)) × Int) (s17:Int):Option (Sum Int Int) :=
 zas s17 s13.1 a0 r5 >>= fun r18 =>
 if !r18 then
  some (w64 (s17+1)) >>= fun y21 =>
  some (.inr y21)
 else
  some (.inl s17)
def z9s (a0:z01) (r5:(List ((Vector UInt8 32) × Int))) (s13:(List Bool) × (List (Vector UInt8 32)) × Int):Option (Sum ((List (Vector UInt8 32))) ((List Bool) × (List (Vector UInt8 32)) × Int)) :=
 if decide (s13.2.2<(a0.IDs.length:Int)) then
  (iter (z81 a0 r5 s13) 0) >>= fun s16 =>
  idx s13.1 s16 >>= fun x22 =>
  idx a0.IDs s16 >>= fun x24 =>
  app 32 s13.2.1 [x24] >>= fun x27 =>
  some (.inr (s13.1.set (s16:Int).toNat true,x27,w64 (s13.2.2+1)))
 else
  some (.inl s13.2.1)
def z8x (a0:z01):Option ((List (Vector UInt8 32)) × Int) :=
 z3v a0 >>= fun r2 =>
 if r2 != 0 then
  some ([],r2)
 else
  z4y a0 >>= fun r5 =>
  mkn 1 false (a0.IDs.length:Int) >>= fun x8 =>
  (iter (z9s a0 r5) (x8,[],0)) >>= fun s12 =>
  some (s12,0)
theorem zke (a0:z01):z27 Tryz.prog 85 [.rd z03 a0] [zG1] (z8x a0) (fun r nv=>⟨[.val (nv 0),.rd z0k r.2],[(1001,some (.bool true,.glob 1 (z06 64 z1c) z8f)),(100,some (nv 0,.list (z06 32 u8R) 62 r.1))]⟩):=by
 refine z2n 46 Tryz.func85 rfl rfl rfl fun H w=>?_
 refine gSR<|Eb rfl (bx 1 rfl) fun v1=>Za rfl<|Za rfl<|Zn<|z0w<|gSR<|Zq (ld 1 rfl rfl Foc.here z99 rfl)<|Zc [1001] [] Tryz.func74 rfl (ze1 _) fun r2 n3=>Za rfl<|Zn<|gSR<|Zm rfl<|Zq (I.neq rfl rfl)<|Zn<|gIf rfl rfl (fun h4=>?_) (fun h4=>?_)
 ·
  refine gSR<|Zm rfl<|Za rfl<|Za rfl<|Zn<|z0m<|z12<|zm0 (z06 32 u8R) 62 2<|Ze [(.slice none 0 0)] [1001,2] rfl
 ·
  refine Zt<|gSR<|Zq (ld 1 rfl rfl Foc.here z99 rfl)<|Zc [] [(100,3)] Tryz.func123 rfl (zbd _) fun r5 n6=>Eb rfl (z7s 4 zta (.val rfl)) fun v7=>Es (z4e 4 rfl rfl (.here z00) rfl z0a z00 zta)<|Zn<|gSR<|Zq (faB 1 rfl rfl Tryz.underlying25 rfl (by exact z2d))<|Zq (ld 1 rfl rfl ((Foc.here).part (z0j _)) z8l rfl)<|Zq (z37 rfl .rd rfl tu22)<|z0s fun x8 h9=>Ef rfl (mks (R:=z0n) 5 rfl rfl h9 tu152 ti4 Zr.bool rfl) fun v10=>Eb rfl (z7s 6 zyp (.val rfl)) fun v11=>Es (z4e 6 rfl rfl (.here z00) rfl z0a z00 zyp)<|Zn<|gSR<|Zq (mkf mp0 (mp3 rfl rfl rfl))<|Za rfl<|Zn<|gSR<|Za rfl<|Zn<|z7f (fun (s12:(List (Vector UInt8 32))) aa ww=>∃ nv:Nat→Value,Sta (ctx 46 H [zG1] w) [(8,.val (nv 0))] [(1003,some ((nv 0),.list (z06 32 u8R) 62 s12)),zG1] aa ww) ?_ (fun s12=>?_)
  ·
   refine gSR<|Zq (faB 1 rfl rfl Tryz.underlying25 rfl (by exact z2d))<|Zq (ld 1 rfl rfl ((Foc.here).part (z0j _)) z8l rfl)<|Zq (z37 rfl .rd rfl tu22)<|Zm rfl<|Zn<|zrq (z06 32 u8R) 62 1006<|z2h (fun (s13:(List Bool) × (List (Vector UInt8 32)) × Int) aa ww=>∃ nv:Nat→Value,Sta (ctx 46 H [zG1] w) [(1,.val (z09 v1 0)),(6,.val (z09 v11 0)),(7,.val (.func (.func 124) #[] #[z09 v11 0,z09 v1 0,z09 v7 0])),(8,.val (nv 0)),(24,.rd z0k (a0.IDs.length:Int)),(25,.rd z0k s13.2.2)] [(1,some (v1,.box 25 [.rd z03 a0])),(5,some (v10,.list z0n 4 s13.1)),(6,some (v11,.box 152 [.val v10])),(3,some ((n6 0),.map (z06 32 u8R) z0k r5)),(4,some (v7,.box 156 [.val (n6 0)])),(1005,some ((nv 0),.list (z06 32 u8R) 62 s13.2.1)),zG1] aa ww) (fun aa ww h=>⟨nvl [(.slice none 0 0)],Zu h [1,5,6,3,4,1006,1001]⟩) (fun s13=>?_)
   refine gEx fun n14=>gSR<|Zq (I.lss rfl rfl)<|Zn<|z0w<|gIf rfl rfl (fun h15=>?_) (fun h15=>?_)
   ·
    refine Zt<|z0w<|z4q<|gSR<|Za rfl<|Zn<|z7f (fun (s16:Int) aa ww=>Sta (ctx 46 H [zG1] w) [(1,.val (z09 v1 0)),(6,.val (z09 v11 0)),(7,.val (.func (.func 124) #[] #[z09 v11 0,z09 v1 0,z09 v7 0])),(8,.val (n14 0)),(9,.rd z0k s16),(24,.rd z0k (a0.IDs.length:Int)),(25,.rd z0k s13.2.2)] [(1,some (v1,.box 25 [.rd z03 a0])),(5,some (v10,.list z0n 4 s13.1)),(6,some (v11,.box 152 [.val v10])),(3,some ((n6 0),.map (z06 32 u8R) z0k r5)),(4,some (v7,.box 156 [.val (n6 0)])),(1005,some ((n14 0),.list (z06 32 u8R) 62 s13.2.1)),zG1] aa ww) ?_ (fun s16=>?_)
    ·
     refine z2h (fun (s17:Int) aa ww=>Sta (ctx 46 H [zG1] w) [(1,.val (z09 v1 0)),(6,.val (z09 v11 0)),(7,.val (.func (.func 124) #[] #[z09 v11 0,z09 v1 0,z09 v7 0])),(8,.val (n14 0)),(9,.rd z0k s17),(24,.rd z0k (a0.IDs.length:Int)),(25,.rd z0k s13.2.2)] [(1,some (v1,.box 25 [.rd z03 a0])),(5,some (v10,.list z0n 4 s13.1)),(6,some (v11,.box 152 [.val v10])),(3,some ((n6 0),.map (z06 32 u8R) z0k r5)),(4,some (v7,.box 156 [.val (n6 0)])),(1005,some ((n14 0),.list (z06 32 u8R) 62 s13.2.1)),zG1] aa ww) (fun aa ww h=>Zu h [1,5,6,3,4,1005,1001]) (fun s17=>?_)
     refine z0w<|gSR<|Zm rfl<|Zm rfl<|zgf [6,5,1,4,3] [(1,6),(2,5),(3,1),(4,4),(5,3)] (gd0 rfl) rfl rfl Tryz.func124 rfl rfl (zik _ _ _ _ _ _ _ _ _) (Y1 rfl) (cQ 6 rfl<|cQ 1 rfl<|cQ 4 rfl<|cN) (Zi rfl<|Zi rfl<|Zi rfl<|Zi rfl<|Zi rfl<|rN) fun r18 n19=>Zq (zcy rfl)<|Zn<|gIf rfl rfl (fun h20=>?_) (fun h20=>?_)
     ·
      refine Zt<|z4q<|z1m<|Zm rfl<|Zq (I.add rfl rfl)<|Za rfl<|z1e 9 rfl fun y21=>z1f<|z1w<|z0r (fun aa ww h=>Zu h [1,5,6,3,4,1005,1001])
     ·
      refine z1z<|z13<|z14<|z2x (fun aa ww h=>Zu h [1,5,6,3,4,1005,1001])
    ·
     refine gSR<|Zq (ldV 6 rfl rfl .here zt2 rfl)<|Zm rfl<|z0s fun x22 h23=>Zq (ixO 5 rfl rfl rfl h23 tu152 ti4)<|Es (sto 5 rfl rfl (Foc.el h23) rfl ti4)<|Zn<|z1m<|Zm rfl<|Zq (faB 1 rfl rfl Tryz.underlying25 rfl (by exact z2d))<|Zq (ld 1 rfl rfl ((Foc.here).part (z0j _)) z8l rfl)<|Zm rfl<|z0s fun x24 h25=>Zq (ixR rfl rfl h25 tu22 z1p rfl)<|Zq (ldR rfl z49)<|Ef rfl (lit (R:=(z06 32 u8R)) ([x24]:List (Vector UInt8 32)) 1007 (pP rfl rfl<|pN) rfl tu22 z1p rfl rfl) fun v26=>zgv 1007 [42] rfl (fS rfl<|fN)<|z0s fun x27 h28=>Ef rfl (apn 1005 rfl rfl rfl .rd h28 tu22 z1p rfl rfl rfl) fun v29=>Za rfl<|z1f<|z1w<|z0d<|z1m<|Zq (I.add rfl rfl)<|Zm rfl<|z1f<|z0r (fun aa ww h=>⟨nvl [v29],Zu h [1,5,6,3,4,1005,1001]⟩)
   ·
    refine z1z<|z13<|z14<|z2x (fun aa ww h=>⟨nvl [(n14 0)],Zu h [1005,1001]⟩)
  ·
   refine gEx fun n30=>gSR<|Zm rfl<|Za rfl<|Za rfl<|Zn<|z0m<|Ze [(n30 0)] [1001,1003] rfl
def zan (a0:z01) (a1:List (Vector UInt8 32)):Option (Int) :=
 z2c a0 >>= fun r2 =>
 if r2 != 0 then
  z2c a0 >>= fun r5 =>
  some r5
 else
  z3r a0.IDs a1 >>= fun r7 =>
  if !r7 then
   some 6
  else
   some 0
theorem zid (a0:z01) (a1:List (Vector UInt8 32)):z27 Tryz.prog 121 [.rd z03 a0,.rd (z02 (z06 32 u8R)) a1] [] (zan a0 a1) (fun r nv=>⟨[.rd z0k r],[]⟩):=by
 refine z2n 15 Tryz.func121 rfl rfl rfl fun H w=>?_
 refine gSR<|Eb rfl (bx 1 rfl) fun v1=>Za rfl<|Zn<|z0w<|gSR<|Zq (ld 1 rfl rfl Foc.here z99 rfl)<|Zc [] [] Tryz.func38 rfl (z8j _) fun r2 n3=>Zq (I.neq rfl rfl)<|Zn<|gIf rfl rfl (fun h4=>?_) (fun h4=>?_)
 ·
  refine gSR<|Zq (ld 1 rfl rfl Foc.here z99 rfl)<|Zc [] [] Tryz.func38 rfl (z8j _) fun r5 n6=>Za rfl<|Zn<|z0m<|z12<|Ze [] [] rfl
 ·
  refine Zt<|z0w<|gSR<|Zq (faB 1 rfl rfl Tryz.underlying25 rfl (by exact z2d))<|Zq (ld 1 rfl rfl ((Foc.here).part (z0j _)) z8l rfl)<|Zm rfl<|Zc [] [] Tryz.func31 rfl (zem _ _) fun r7 n8=>Zq (zcy rfl)<|Zn<|gIf rfl rfl (fun h9=>?_) (fun h9=>?_)
  ·
   refine gSR<|Za rfl<|Zn<|z0m<|z12<|Ze [] [] rfl
  ·
   refine Zt<|gSR<|Za rfl<|Zn<|z0m<|Ze [] [] rfl
def z8w (a0:z01) (a1:Vector UInt8 32):Option ((List (Vector UInt8 32))) :=
 z7b a0.IDs a1 >>= fun r3 =>
 idx a0.Ops r3 >>= fun x5 =>
 some x5.Preds
theorem zdc (a0:z01) (a1:Vector UInt8 32):z27 Tryz.prog 167 [.rd z03 a0,.rd (z06 32 u8R) a1] [] (z8w a0 a1) (fun r nv=>⟨[.rd (z02 (z06 32 u8R)) r],[]⟩):=by
 refine z2n 14 Tryz.func167 rfl rfl rfl fun H w=>?_
 refine gSR<|Eb rfl (bx 1 rfl) fun v1=>Eb rfl (bx 2 rfl) fun v2=>Za rfl<|Zn<|z0w<|z5m [] mixed rfl rfl<|hTk 0 rfl rfl (faB 1 rfl rfl Tryz.underlying25 rfl (by exact z40))<|hTk 1 rfl rfl (ld 1 rfl rfl ((Foc.here).part (z0f _)) zg6 rfl)<|hTk 2 rfl rfl (faB 1 rfl rfl Tryz.underlying25 rfl (by exact z2d))<|hTk 3 rfl rfl (ld 1 rfl rfl ((Foc.here).part (z0j _)) z8l rfl)<|hTk 4 rfl rfl (ld 2 rfl rfl Foc.here z49 rfl)<|z10 5 [] [] rfl (by kernel_rfl) rfl (gd0 rfl) rfl Tryz.func34 rfl rfl (zg1 _ _) (Y2 rfl rfl) rN rfl (fun _ _=>z07) fun r3 n4=>z0o fun x5 h6=>hTk 6 rfl rfl (ixR rfl rfl h6 tu23 z4w rfl)<|hTk 7 rfl rfl (faR rfl (z1l _) Tryz.underlying73 rfl rfl (by exact z2d))<|hTk 8 rfl rfl (ldR rfl z8l)<|hTk 9 rfl rfl (asg rfl)<|z0y (by kernel_rfl)<|z0d<|z0m<|Ze [] [] rfl
def z4g (a0:List (Vector UInt8 32)) (s2:(List (Vector UInt8 32)) × Int) (s6:Int):Option (Sum Int Int) :=
 if decide (s6<(s2.1.length:Int)) then
  idx s2.1 s6 >>= fun x8 =>
  idx a0 s2.2 >>= fun x10 =>
  z90 x8 x10 >>= fun r12 =>
  if decide (r12<0) then
   some (.inr (w64 (s6+1)))
  else
   some (.inl s6)
 else
  some (.inl s6)
def z5i (a0:List (Vector UInt8 32)) (s2:(List (Vector UInt8 32)) × Int):Option (Sum ((List (Vector UInt8 32))) ((List (Vector UInt8 32)) × Int)) :=
 if decide (s2.2<(a0.length:Int)) then
  (iter (z4g a0 s2) 0) >>= fun s5 =>
  (if s5==(s2.1.length:Int) then
   some true
  else
   idx s2.1 s5 >>= fun x17 =>
   idx a0 s2.2 >>= fun x19 =>
   some (!decide (x17=x19))) >>= fun s15 =>
  if s15 then
   cut s2.1 0 s5 >>= fun x22 =>
   idx a0 s2.2 >>= fun x24 =>
   cut s2.1 s5 (s2.1.length:Int) >>= fun x26 =>
   app 32 ([]:List (Vector UInt8 32)) x22 >>= fun x29 =>
   app 32 x29 [x24] >>= fun x33 =>
   app 32 x33 x26 >>= fun x36 =>
   some (w64 (s2.2+1)) >>= fun y39 =>
   some (.inr (x36,y39))
  else
   some (w64 (s2.2+1)) >>= fun y63 =>
   some (.inr (s2.1,y63))
 else
  some (.inl s2.1)
def za0 (a0:List (Vector UInt8 32)):Option ((List (Vector UInt8 32))) :=
 (iter (z5i a0) ([],0)) >>= fun s1 =>
 some s1
theorem zfs (a0:List (Vector UInt8 32)) (q0:Value) (l0:List (Vector UInt8 32)):z27 Tryz.prog 168 [.vw (z06 32 u8R) q0 l0 a0] [(1,some (q0,.list (z06 32 u8R) 62 l0))] (za0 a0) (fun r nv=>⟨[.val (nv 0)],[(1,some (q0,.list (z06 32 u8R) 62 l0)),(100,some (nv 0,.list (z06 32 u8R) 62 r))]⟩):=by
 refine z2n 61 Tryz.func168 rfl rfl rfl fun H w=>?_
 refine gSR<|Za rfl<|Zn<|gSR<|Za rfl<|Zn<|z7f (fun (s1:(List (Vector UInt8 32))) aa ww=>∃ nv:Nat→Value,Sta (ctx 61 H [(1,some (q0,.list (z06 32 u8R) 62 l0))] w) [(3,.val (nv 0))] [(54,some ((nv 0),.list (z06 32 u8R) 62 s1)),(1,some (q0,.list (z06 32 u8R) 62 l0))] aa ww) ?_ (fun s1=>?_)
 ·
  refine gSR<|Za rfl<|Zn<|zrq (z06 32 u8R) 62 108<|z2h (fun (s2:(List (Vector UInt8 32)) × Int) aa ww=>∃ nv:Nat→Value,Sta (ctx 61 H [(1,some (q0,.list (z06 32 u8R) 62 l0))] w) [(0,.vw (z06 32 u8R) q0 l0 a0),(3,.val (nv 0)),(4,.rd z0k s2.2)] [(1,some (q0,.list (z06 32 u8R) 62 l0)),(107,some ((nv 0),.list (z06 32 u8R) 62 s2.1))] aa ww) (fun aa ww h=>⟨nvl [(.slice none 0 0)],Zu h [1,108]⟩) (fun s2=>?_)
  refine gEx fun n3=>z0w<|gSR<|Zm rfl<|Zm rfl<|Zq (z37 rfl (.vw 1 rfl) rfl tu22)<|Zq (I.lss rfl rfl)<|Zn<|gIf rfl rfl (fun h4=>?_) (fun h4=>?_)
  ·
   refine Zt<|z0w<|z4q<|gSR<|Za rfl<|Zn<|z7f (fun (s5:Int) aa ww=>Sta (ctx 61 H [(1,some (q0,.list (z06 32 u8R) 62 l0))] w) [(0,.vw (z06 32 u8R) q0 l0 a0),(3,.val (n3 0)),(4,.rd z0k s2.2),(5,.rd z0k s5)] [(1,some (q0,.list (z06 32 u8R) 62 l0)),(107,some ((n3 0),.list (z06 32 u8R) 62 s2.1))] aa ww) ?_ (fun s5=>?_)
   ·
    refine z2h (fun (s6:Int) aa ww=>Sta (ctx 61 H [(1,some (q0,.list (z06 32 u8R) 62 l0))] w) [(0,.vw (z06 32 u8R) q0 l0 a0),(3,.val (n3 0)),(4,.rd z0k s2.2),(5,.rd z0k s6)] [(1,some (q0,.list (z06 32 u8R) 62 l0)),(107,some ((n3 0),.list (z06 32 u8R) 62 s2.1))] aa ww) (fun aa ww h=>Zu h [1,107]) (fun s6=>?_)
    refine z0w<|z0w<|z5m [] mixed rfl rfl<|hTk 0 rfl rfl (mv rfl)<|hTk 1 rfl rfl (mv rfl)<|hTk 2 rfl rfl (z37 rfl (.own 107 rfl) rfl tu22)<|hTk 3 rfl rfl (I.lss rfl rfl)<|hTk 4 rfl rfl (mv rfl)<|hIf 16 rfl rfl (fun h7=>?_) (fun h7=>?_)
    ·
     refine hKn 15 rfl rfl h7<|Zg 5 rfl rfl (mv rfl)<|Zg 6 rfl rfl (mv rfl)<|z0o fun x8 h9=>Zg 7 rfl rfl (ixO 107 rfl rfl rfl h9 tu22 z1p)<|Zg 8 rfl rfl (ld 107 rfl rfl (Foc.el h9) z49 rfl)<|Zg 9 rfl rfl (mv rfl)<|Zg 10 rfl rfl (mv rfl)<|z0o fun x10 h11=>Zg 11 rfl rfl (ixQ 1 rfl rfl rfl h11 tu22 z1p)<|Zg 12 rfl rfl (ldQ 1 rfl rfl z49 rfl)<|z10 13 [] [] rfl (by kernel_rfl) rfl Zx rfl Tryz.func110 rfl rfl (zes _ _) (Y2 rfl rfl) rN rfl (fun _ _=>z07) fun r12 n13=>Zg 14 rfl rfl (I.lss rfl rfl)<|hTk 15 rfl rfl (pkT rfl rfl)<|z0y (by kernel_rfl)<|z0d<|gIf rfl rfl (fun h14=>?_) (fun h14=>?_)
     ·
      refine gKn 26 rfl h14<|Zt<|z4q<|z1m<|Zm rfl<|Zq (I.add rfl rfl)<|Za rfl<|z1f<|z1w<|z0r (fun aa ww h=>Zu h [1,107])
     ·
      refine gKn 26 rfl h14<|z1z<|z13<|z14<|z2x (fun aa ww h=>Zu h [1,107])
    ·
     refine hKn 15 rfl rfl h7<|hSk 5 rfl rfl<|hSk 6 rfl rfl<|hSk 7 rfl rfl<|hSk 8 rfl rfl<|hSk 9 rfl rfl<|hSk 10 rfl rfl<|hSk 11 rfl rfl<|hSk 12 rfl rfl<|hSk 13 rfl rfl<|hSk 14 rfl rfl<|hTk 15 rfl rfl (pkF rfl rfl)<|z0y (by kernel_rfl)<|z0d<|zbl rfl<|z1z<|z13<|z14<|z2x (fun aa ww h=>Zu h [1,107])
   ·
    refine z7f (fun (s15:Bool) aa ww=>Sta (ctx 61 H [(1,some (q0,.list (z06 32 u8R) 62 l0))] w) [(0,.vw (z06 32 u8R) q0 l0 a0),(3,.val (n3 0)),(4,.rd z0k s2.2),(5,.rd z0k s5),(44,.rd z0n s15)] [(1,some (q0,.list (z06 32 u8R) 62 l0)),(107,some ((n3 0),.list (z06 32 u8R) 62 s2.1))] aa ww) ?_ (fun s15=>?_)
    ·
     refine zdn mixed (by kernel_rfl)<|Rq rfl (mv rfl)<|Rq rfl (mv rfl)<|Rq rfl (z37 rfl (.own 107 rfl) rfl tu22)<|Rq rfl (I.eql rfl rfl)<|Rq rfl (mv rfl)<|zzw 34 rfl (fun h16=>?_) (fun h16=>?_)
     ·
      refine qKn 33 rfl h16<|zhu Zx rfl rfl<|zhu Zx rfl rfl<|zhu Zx rfl rfl<|zhu Zx rfl rfl<|zhu Zx rfl rfl<|zhu Zx rfl rfl<|zhu Zx rfl rfl<|zhu Zx rfl rfl<|zhu Zx rfl rfl<|Rq rfl (pkT rfl rfl)<|zl6<|z2x (fun aa ww h=>Zu h [1,107])
     ·
      refine qKn 33 rfl h16<|zqt Zx rfl rfl (mv rfl)<|zqt Zx rfl rfl (mv rfl)<|z6a fun x17 h18=>zqt Zx rfl rfl (ixO 107 rfl rfl rfl h18 tu22 z1p)<|zqt Zx rfl rfl (ld 107 rfl rfl (Foc.el h18) z49 rfl)<|zqt Zx rfl rfl (mv rfl)<|zqt Zx rfl rfl (mv rfl)<|z6a fun x19 h20=>zqt Zx rfl rfl (ixQ 1 rfl rfl rfl h20 tu22 z1p)<|zqt Zx rfl rfl (ldQ 1 rfl rfl z49 rfl)<|zqt Zx rfl rfl (neA rfl rfl zsh rfl rfl zsu)<|Rq rfl (pkF rfl rfl)<|zl6<|z2x (fun aa ww h=>Zu h [1,107])
    ·
     refine gIf rfl rfl (fun h21=>?_) (fun h21=>?_)
     ·
      refine z5m [160,187] mixed rfl rfl<|hTk 1 rfl rfl (mv rfl)<|hTk 2 rfl rfl (mv rfl)<|z2z 107 [3,46] rfl (fS rfl<|fS rfl<|fN)<|z0o fun x22 h23=>zbw 3 rfl (by kernel_rfl) (by kernel_rfl) (by kernel_rfl) (gd0 rfl) rfl rfl (cut' rfl .no (.to rfl) h23 tu22 z1p)<|hTk 5 rfl rfl (mv rfl)<|hTk 6 rfl rfl (mv rfl)<|z0o fun x24 h25=>hTk 7 rfl rfl (ixQ 1 rfl rfl rfl h25 tu22 z1p)<|hTk 8 rfl rfl (ldQ 1 rfl rfl z49 rfl)<|zbw 11 rfl (by kernel_rfl) (by kernel_rfl) (by kernel_rfl) (gd0 rfl) rfl rfl (mv rfl)<|hTk 12 rfl rfl (mv rfl)<|z0o fun x26 h27=>zbw 13 rfl (by kernel_rfl) (by kernel_rfl) (by kernel_rfl) (gd0 rfl) rfl rfl (cut' rfl (.to rfl) .no h27 tu22 z1p)<|z6o [0,9] (by kernel_rfl) rfl ⟨?_,?_,trivial⟩
      ·
       refine oDo 0 rfl (gd0 rfl) rfl rfl rfl (lit (R:=(z06 32 u8R)) (([]:List (Vector UInt8 32)):List (Vector UInt8 32)) 160 (pN) rfl tu22 z1p rfl rfl) (fun _=>rfl) fun v28=>z6o [4,9] (by kernel_rfl) rfl ⟨?_,?_,trivial⟩
       ·
        refine zfq fun x29 h30=>oDo 4 rfl (gd0 rfl) rfl rfl rfl (apn 160 rfl rfl rfl .rd h30 tu22 z1p rfl rfl rfl) (fun _=>rfl) fun v31=>Zo 9 rfl rfl rfl (lit (R:=(z06 32 u8R)) ([x24]:List (Vector UInt8 32)) 187 (pP rfl rfl<|pN) rfl tu22 z1p rfl rfl) fun v32=>z2z 187 [54] rfl (fS rfl<|fN)<|z0o fun x33 h34=>Zo 10 rfl rfl rfl (apn 160 rfl rfl rfl .rd h34 tu22 z1p rfl rfl rfl) fun v35=>z0o fun x36 h37=>Zo 14 rfl rfl rfl (apn 160 rfl rfl rfl .rd h37 tu22 z1p rfl rfl rfl) fun v38=>Zf 15 rfl rfl z05 (asg rfl)<|z0y (by kernel_rfl)<|z1w<|z0d<|z1m<|Zm rfl<|Zq (I.add rfl rfl)<|Za rfl<|z1e 4 rfl fun y39=>z1f<|z0r (fun aa ww h=>⟨nvl [v38],Zu h [1,160]⟩)
       ·
        refine oDo 9 rfl (gd0 rfl) rfl rfl rfl (lit (R:=(z06 32 u8R)) ([x24]:List (Vector UInt8 32)) 187 (pP rfl rfl<|pN) rfl tu22 z1p rfl rfl) (fun _=>rfl) fun v40=>z0o fun x41 h42=>Zo 4 rfl rfl rfl (apn 160 rfl rfl rfl .rd h42 tu22 z1p rfl rfl rfl) fun v43=>z2z 187 [54] rfl (fS rfl<|fN)<|z0o fun x44 h45=>Zo 10 rfl rfl rfl (apn 160 rfl rfl rfl .rd h45 tu22 z1p rfl rfl rfl) fun v46=>z0o fun x47 h48=>Zo 14 rfl rfl rfl (apn 160 rfl rfl rfl .rd h48 tu22 z1p rfl rfl rfl) fun v49=>Zf 15 rfl rfl z05 (asg rfl)<|z0y (by kernel_rfl)<|z1w<|z0d<|z1m<|Zm rfl<|Zq (I.add rfl rfl)<|Za rfl<|z1e 4 rfl fun y50=>z1f<|z0r (fun aa ww h=>⟨nvl [v49],Zu h [1,160]⟩)
      ·
       refine oDo 9 rfl (gd0 rfl) rfl rfl rfl (lit (R:=(z06 32 u8R)) ([x24]:List (Vector UInt8 32)) 187 (pP rfl rfl<|pN) rfl tu22 z1p rfl rfl) (fun _=>rfl) fun v51=>Zo 0 rfl rfl rfl (lit (R:=(z06 32 u8R)) (([]:List (Vector UInt8 32)):List (Vector UInt8 32)) 160 (pN) rfl tu22 z1p rfl rfl) fun v52=>z0o fun x53 h54=>Zo 4 rfl rfl rfl (apn 160 rfl rfl rfl .rd h54 tu22 z1p rfl rfl rfl) fun v55=>z2z 187 [54] rfl (fS rfl<|fN)<|z0o fun x56 h57=>Zo 10 rfl rfl rfl (apn 160 rfl rfl rfl .rd h57 tu22 z1p rfl rfl rfl) fun v58=>z0o fun x59 h60=>Zo 14 rfl rfl rfl (apn 160 rfl rfl rfl .rd h60 tu22 z1p rfl rfl rfl) fun v61=>Zf 15 rfl rfl z05 (asg rfl)<|z0y (by kernel_rfl)<|z1w<|z0d<|z1m<|Zm rfl<|Zq (I.add rfl rfl)<|Za rfl<|z1e 4 rfl fun y62=>z1f<|z0r (fun aa ww h=>⟨nvl [v61],Zu h [1,160]⟩)
     ·
      refine z2l<|z1w<|z0d<|z1m<|Zm rfl<|Zq (I.add rfl rfl)<|Za rfl<|z1e 4 rfl fun y63=>z1f<|z0r (fun aa ww h=>⟨nvl [(n3 0)],Zu h [1,107]⟩)
  ·
   refine z1z<|z13<|z14<|z2x (fun aa ww h=>⟨nvl [(n3 0)],Zu h [107,1]⟩)
 ·
  refine gEx fun n64=>gSR<|Zm rfl<|Za rfl<|Zn<|z0m<|Ze [(n64 0)] [1,54] rfl
def z5n (a0:z01) (s10:(List (Vector UInt8 32)) × (List (Vector UInt8 32))):Option (Sum ((List (Vector UInt8 32))) ((List (Vector UInt8 32)) × (List (Vector UInt8 32)))) :=
 if decide (0<(s10.2.length:Int)) then
  idx s10.2 0 >>= fun x13 =>
  cut s10.2 1 (s10.2.length:Int) >>= fun x16 =>
  z7b s10.1 x13 >>= fun r19 =>
  if decide (r19<0) then
   app 32 s10.1 [x13] >>= fun x23 =>
   z8w a0 x13 >>= fun r26 =>
   app 32 x16 r26 >>= fun x28 =>
   some (.inr (x23,x28))
  else
   some (.inr (s10.1,x16))
 else
  some (.inl s10.1)
def z9q (a0:z01) (a1:Vector UInt8 32):Option ((List (Vector UInt8 32))) :=
 z8w a0 a1 >>= fun r4 =>
 app 32 ([]:List (Vector UInt8 32)) r4 >>= fun x6 =>
 (iter (z5n a0) ([],x6)) >>= fun s9 =>
 za0 s9 >>= fun r32 =>
 some r32
theorem zh5 (a0:z01) (a1:Vector UInt8 32):z27 Tryz.prog 122 [.rd z03 a0,.rd (z06 32 u8R) a1] [] (z9q a0 a1) (fun r nv=>⟨[.val (nv 0)],[(100,some (nv 0,.list (z06 32 u8R) 62 r))]⟩):=by
 refine z2n 36 Tryz.func122 rfl rfl rfl fun H w=>?_
 refine gSR<|Eb rfl (bx 1 rfl) fun v1=>Eb rfl (bx 2 rfl) fun v2=>Za rfl<|Zn<|gSR<|Za rfl<|Zn<|gSR<|Ef rfl (lit (R:=(z06 32 u8R)) (([]:List (Vector UInt8 32)):List (Vector UInt8 32)) 3 (pN) rfl tu22 z1p rfl rfl) fun v3=>Zq (ld 1 rfl rfl Foc.here z99 rfl)<|Zq (ld 2 rfl rfl Foc.here z49 rfl)<|Zc [] [] Tryz.func167 rfl (zdc _ _) fun r4 n5=>z0s fun x6 h7=>Ef rfl (apn 3 rfl rfl rfl .rd h7 tu22 z1p rfl rfl rfl) fun v8=>Za rfl<|Zn<|z7f (fun (s9:(List (Vector UInt8 32))) aa ww=>∃ nv:Nat→Value,Sta (ctx 36 H [] w) [(5,.val (nv 0))] [(6,some ((nv 0),.list (z06 32 u8R) 62 s9))] aa ww) ?_ (fun s9=>?_)
 ·
  refine zrq (z06 32 u8R) 62 10<|gSeg 3 rfl<|z2h (fun (s10:(List (Vector UInt8 32)) × (List (Vector UInt8 32))) aa ww=>∃ nv:Nat→Value,Sta (ctx 36 H [] w) [(2,.val (z09 v1 0)),(5,.val (nv 0)),(6,.val (nv 1))] [(1,some (v1,.box 25 [.rd z03 a0])),(9,some ((nv 0),.list (z06 32 u8R) 62 s10.1)),(3,some ((nv 1),.seg (z06 32 u8R) 62 s10.2))] aa ww) (fun aa ww h=>⟨nvl [(.slice none 0 0),v8],Zu h [1,10,3]⟩) (fun s10=>?_)
  refine gEx fun n11=>z0w<|gSR<|Zm rfl<|Zq (z37 rfl (.seg 3 rfl) rfl tu22)<|Zq (I.gtr rfl rfl)<|Zn<|gIf rfl rfl (fun h12=>?_) (fun h12=>?_)
  ·
   refine Zt<|z4q<|gSR<|Zm rfl<|z0s fun x13 h14=>Zq (ixSg 3 rfl rfl rfl h14 tu22 z1p)<|Zq (ldSg 3 rfl rfl z49 rfl)<|Eb rfl (z7s 11 z1p (.zr (R:=(z06 32 u8R)) (x:=(Vector.replicate 32 0)) zj3)) fun v15=>Es (sto 11 rfl rfl Foc.here rfl z1p)<|Zn<|gSR<|Zm rfl<|z0s fun x16 h17=>Ef rfl (cutS 3 rfl rfl rfl h17 tu22 z1p) fun v18=>Za rfl<|Zn<|gSR<|Zm rfl<|Zq (ld 11 rfl rfl Foc.here z49 rfl)<|call [9] [(1,9)] rfl Tryz.func34 rfl rfl (zd3 _ _ _ _) (aW rfl<|aQ rfl<|aN) (y1 rfl) fun r19 n20=>Zq (I.lss rfl rfl)<|Zn<|gIf rfl rfl (fun h21=>?_) (fun h21=>?_)
   ·
    refine gSR<|Zm rfl<|Zq (ld 11 rfl rfl Foc.here z49 rfl)<|Ef rfl (lit (R:=(z06 32 u8R)) ([x13]:List (Vector UInt8 32)) 12 (pP rfl rfl<|pN) rfl tu22 z1p rfl rfl) fun v22=>zgv 12 [27] rfl (fS rfl<|fN)<|z0s fun x23 h24=>Ef rfl (apn 9 rfl rfl rfl .rd h24 tu22 z1p rfl rfl rfl) fun v25=>Za rfl<|Zn<|z1m<|Zm rfl<|Zq (ld 1 rfl rfl Foc.here z99 rfl)<|Zq (ld 11 rfl rfl Foc.here z49 rfl)<|Zc [] [] Tryz.func167 rfl (zdc _ _) fun r26 n27=>z0s fun x28 h29=>Ef rfl (apS 3 rfl rfl rfl .rd h29 tu22 z1p rfl rfl rfl) fun v30=>Za rfl<|z1f<|z1w<|z0r (fun aa ww h=>⟨nvl [v25,v30],Zu h [1,9,3]⟩)
   ·
    refine z2l<|z1w<|z0r (fun aa ww h=>⟨nvl [(n11 0),v18],Zu h [1,9,3]⟩)
  ·
   refine z1z<|z13<|z14<|z2x (fun aa ww h=>⟨nvl [(n11 0)],Zu h [9]⟩)
 ·
  refine gEx fun n31=>gSR<|Zm rfl<|call [6] [(100,13),(1,6)] rfl Tryz.func168 rfl rfl (zfs _ _ _) (aW rfl<|aN) (y1 rfl) fun r32 n33=>Za rfl<|Zn<|z0m<|Ze [(n33 0)] [13] rfl
def z7u (a0:z01) (a1:Vector UInt8 32):Option ((List (Vector UInt8 32)) × Int) :=
 zan a0 [a1] >>= fun r4 =>
 if r4 != 0 then
  some ([],r4)
 else
  z9q a0 a1 >>= fun r7 =>
  some (r7,0)
theorem zf3 (a0:z01) (a1:Vector UInt8 32):z27 Tryz.prog 84 [.rd z03 a0,.rd (z06 32 u8R) a1] [] (z7u a0 a1) (fun r nv=>⟨[.val (nv 0),.rd z0k r.2],[(100,some (nv 0,.list (z06 32 u8R) 62 r.1))]⟩):=by
 refine z2n 17 Tryz.func84 rfl rfl rfl fun H w=>?_
 refine gSR<|Eb rfl (bx 1 rfl) fun v1=>Eb rfl (bx 2 rfl) fun v2=>Za rfl<|Za rfl<|Zn<|z0w<|gSR<|Zq (ld 1 rfl rfl Foc.here z99 rfl)<|Zq (ld 2 rfl rfl Foc.here z49 rfl)<|Ef rfl (lit (R:=(z06 32 u8R)) ([a1]:List (Vector UInt8 32)) 3 (pP rfl rfl<|pN) rfl tu22 z1p rfl rfl) fun v3=>zgv 3 [9] rfl (fS rfl<|fN)<|Zc [] [] Tryz.func121 rfl (zid _ _) fun r4 n5=>Za rfl<|Zn<|gSR<|Zm rfl<|Zq (I.neq rfl rfl)<|Zn<|gIf rfl rfl (fun h6=>?_) (fun h6=>?_)
 ·
  refine gSR<|Zm rfl<|Za rfl<|Za rfl<|Zn<|z0m<|z12<|zm0 (z06 32 u8R) 62 4<|Ze [(.slice none 0 0)] [4] rfl
 ·
  refine Zt<|gSR<|Zq (ld 1 rfl rfl Foc.here z99 rfl)<|Zq (ld 2 rfl rfl Foc.here z49 rfl)<|Zc [] [(100,5)] Tryz.func122 rfl (zh5 _ _) fun r7 n8=>Za rfl<|Za rfl<|Zn<|z0m<|Ze [(n8 0)] [5] rfl
def z8h (c1_0:List ((Vector UInt8 32) × Int)) (c3_0:z01) (rec:(Vector UInt8 32)→(List ((Vector UInt8 32) × Int))→(List Bool)→z01→Option ((List Bool))) (x8:z0g) (s10:(List Bool) × Int):Option (Sum ((List Bool)) ((List Bool) × Int)) :=
 if decide (s10.2<(x8.Preds.length:Int)) then
  idx x8.Preds s10.2 >>= fun x12 =>
  rec x12 c1_0 s10.1 c3_0 >>= fun r15 =>
  some (.inr (r15,w64 (s10.2+1)))
 else
  some (.inl s10.1)
def z73 (rec:(Vector UInt8 32)→(List ((Vector UInt8 32) × Int))→(List Bool)→z01→Option ((List Bool))) (a0:Vector UInt8 32) (c1_0:List ((Vector UInt8 32) × Int)) (c2_0:List Bool) (c3_0:z01):Option ((List Bool)) :=
 some ((zj8 c1_0 a0).getD 0) >>= fun y2 =>
 idx c2_0 y2 >>= fun x3 =>
 if x3 then
  some c2_0
 else
  idx c2_0 y2 >>= fun x6 =>
  idx c3_0.Ops y2 >>= fun x8 =>
  iter (z8h c1_0 c3_0 rec x8) (c2_0.set (y2:Int).toNat true,0)
def z3d:Nat→(Vector UInt8 32)→(List ((Vector UInt8 32) × Int))→(List Bool)→z01→Option ((List Bool))
 | 0,_,_,_,_=>none
 | N+1,a0,c1_0,c2_0,c3_0=>z73 (z3d N) a0 c1_0 c2_0 c3_0
theorem zi9 (rec:(Vector UInt8 32)→(List ((Vector UInt8 32) × Int))→(List Bool)→z01→Option ((List Bool))) (ih:∀ (a0:Vector UInt8 32) (p1_0:Value) (q1_0:Value) (c1_0:List ((Vector UInt8 32) × Int)) (p2_0:Value) (q2_0:Value) (c2_0:List Bool) (p3_0:Value) (c3_0:z01) (p4_0:Value),z27 Tryz.prog 166 [.rd (z06 32 u8R) a0,.val (z09 p1_0 0),.val (z09 p2_0 0),.val (z09 p3_0 0),.val (z09 p4_0 0)] [(1,some (p1_0,.box 156 [.val q1_0])),(2,some (q1_0,.map (z06 32 u8R) z0k c1_0)),(3,some (p2_0,.box 152 [.val q2_0])),(4,some (q2_0,.list z0n 4 c2_0)),(5,some (p3_0,.box 25 [.rd z03 c3_0])),(6,some (p4_0,.box 186 [.val (.func (.func 166) #[] #[z09 p1_0 0,z09 p2_0 0,z09 p3_0 0,z09 p4_0 0])]))] (rec a0 c1_0 c2_0 c3_0) (fun r nv=>⟨[],[(1,some (p1_0,.box 156 [.val q1_0])),(2,some (q1_0,.map (z06 32 u8R) z0k c1_0)),(3,some (p2_0,.box 152 [.val q2_0])),(4,some (q2_0,.list z0n 4 r)),(5,some (p3_0,.box 25 [.rd z03 c3_0])),(6,some (p4_0,.box 186 [.val (.func (.func 166) #[] #[z09 p1_0 0,z09 p2_0 0,z09 p3_0 0,z09 p4_0 0])]))]⟩)) (a0:Vector UInt8 32) (p1_0:Value) (q1_0:Value) (c1_0:List ((Vector UInt8 32) × Int)) (p2_0:Value) (q2_0:Value) (c2_0:List Bool) (p3_0:Value) (c3_0:z01) (p4_0:Value):z27 Tryz.prog 166 [.rd (z06 32 u8R) a0,.val (z09 p1_0 0),.val (z09 p2_0 0),.val (z09 p3_0 0),.val (z09 p4_0 0)] [(1,some (p1_0,.box 156 [.val q1_0])),(2,some (q1_0,.map (z06 32 u8R) z0k c1_0)),(3,some (p2_0,.box 152 [.val q2_0])),(4,some (q2_0,.list z0n 4 c2_0)),(5,some (p3_0,.box 25 [.rd z03 c3_0])),(6,some (p4_0,.box 186 [.val (.func (.func 166) #[] #[z09 p1_0 0,z09 p2_0 0,z09 p3_0 0,z09 p4_0 0])]))] (z73 rec a0 c1_0 c2_0 c3_0) (fun r nv=>⟨[],[(1,some (p1_0,.box 156 [.val q1_0])),(2,some (q1_0,.map (z06 32 u8R) z0k c1_0)),(3,some (p2_0,.box 152 [.val q2_0])),(4,some (q2_0,.list z0n 4 r)),(5,some (p3_0,.box 25 [.rd z03 c3_0])),(6,some (p4_0,.box 186 [.val (.func (.func 166) #[] #[z09 p1_0 0,z09 p2_0 0,z09 p3_0 0,z09 p4_0 0])]))]⟩):=by
 refine z2n 34 Tryz.func166 rfl rfl rfl fun H w=>?_
 refine gSR<|Eb rfl (bx 7 rfl) fun v1=>Zn<|gSR<|Zq (ldV 1 rfl rfl .here z11l rfl)<|Zq (ld 7 rfl rfl Foc.here z49 rfl)<|Zq (mlk rfl (.own 2 rfl rfl) rfl ky62 Tryz.underlying156 ti3 (Zr.num rfl) rfl)<|Za rfl<|z1e 6 rfl fun y2=>Zn<|z0w<|gSR<|Zq (ldV 3 rfl rfl .here zt2 rfl)<|Zm rfl<|z0s fun x3 h4=>Zq (ixO 4 rfl rfl rfl h4 tu152 ti4)<|Zq (ld 4 rfl rfl (Foc.el h4) ty4 rfl)<|Zn<|gIf rfl rfl (fun h5=>?_) (fun h5=>?_)
 ·
  refine z0m<|z12<|Ze [] [1,2,3,4,5,6] rfl
 ·
  refine Zt<|gSR<|Zq (ldV 3 rfl rfl .here zt2 rfl)<|Zm rfl<|z0s fun x6 h7=>Zq (ixO 4 rfl rfl rfl h7 tu152 ti4)<|Es (sto 4 rfl rfl (Foc.el h7) rfl ti4)<|Zn<|gSR<|Zq (faB 5 rfl rfl Tryz.underlying25 rfl (by exact z40))<|Zq (ld 5 rfl rfl ((Foc.here).part (z0f _)) zg6 rfl)<|Zm rfl<|z0s fun x8 h9=>Zq (ixR rfl rfl h9 tu23 z4w rfl)<|Zq (faR rfl (z1l _) Tryz.underlying73 rfl rfl (by exact z2d))<|Zq (ldR rfl z8l)<|Zq (z37 rfl .rd rfl tu22)<|Zm rfl<|Zn<|z2h (fun (s10:(List Bool) × Int) aa ww=>Sta (ctx 34 H [(1,some (p1_0,.box 156 [.val q1_0])),(2,some (q1_0,.map (z06 32 u8R) z0k c1_0)),(3,some (p2_0,.box 152 [.val q2_0])),(4,some (q2_0,.list z0n 4 c2_0)),(5,some (p3_0,.box 25 [.rd z03 c3_0])),(6,some (p4_0,.box 186 [.val (.func (.func 166) #[] #[z09 p1_0 0,z09 p2_0 0,z09 p3_0 0,z09 p4_0 0])]))] w) [(4,.val (z09 p4_0 0)),(24,.rd (z02 (z06 32 u8R)) x8.Preds),(25,.rd z0k (x8.Preds.length:Int)),(26,.rd z0k s10.2)] [(6,some (p4_0,.box 186 [.val (.func (.func 166) #[] #[z09 p1_0 0,z09 p2_0 0,z09 p3_0 0,z09 p4_0 0])])),(2,some (q1_0,.map (z06 32 u8R) z0k c1_0)),(1,some (p1_0,.box 156 [.val q1_0])),(4,some (q2_0,.list z0n 4 s10.1)),(3,some (p2_0,.box 152 [.val q2_0])),(5,some (p3_0,.box 25 [.rd z03 c3_0]))] aa ww) (fun aa ww h=>Zu h [6,2,1,4,3,5]) (fun s10=>?_)
  refine gSR<|Zq (I.lss rfl rfl)<|Zn<|z0w<|gIf rfl rfl (fun h11=>?_) (fun h11=>?_)
  ·
   refine Zt<|z0w<|z4q<|gSR<|z0s fun x12 h13=>Zq (ixR rfl rfl h13 tu22 z1p rfl)<|Zq (ldR rfl z49)<|Eb rfl (z7s 8 z1p (.zr (R:=(z06 32 u8R)) (x:=(Vector.replicate 32 0)) zj3)) fun v14=>Es (sto 8 rfl rfl Foc.here rfl z1p)<|Zn<|z1m<|Zq (ldV 6 rfl rfl .here z131 rfl)<|Zq (ld 8 rfl rfl Foc.here z49 rfl)<|zgf [1,2,3,4,5,6] [(1,1),(2,2),(3,3),(4,4),(5,5),(6,6)] (gd0 rfl) rfl rfl Tryz.func166 rfl rfl (ih _ _ _ _ _ _ _ _ _ _) (Y1 rfl) (cQ 1 rfl<|cQ 3 rfl<|cQ 5 rfl<|cQ 6 rfl<|cN) (Zi rfl<|Zi rfl<|Zi rfl<|Zi rfl<|Zi rfl<|Zi rfl<|rN) fun r15 n16=>z1f<|z1w<|z0d<|z1m<|Zq (I.add rfl rfl)<|Zm rfl<|z1f<|z0r (fun aa ww h=>Zu h [6,2,1,4,3,5])
  ·
   refine z1z<|z13<|z14<|Ze [] [1,2,3,4,5,6] rfl
theorem zcu:∀ (N:Nat) (a0:Vector UInt8 32) (p1_0:Value) (q1_0:Value) (c1_0:List ((Vector UInt8 32) × Int)) (p2_0:Value) (q2_0:Value) (c2_0:List Bool) (p3_0:Value) (c3_0:z01) (p4_0:Value),z27 Tryz.prog 166 [.rd (z06 32 u8R) a0,.val (z09 p1_0 0),.val (z09 p2_0 0),.val (z09 p3_0 0),.val (z09 p4_0 0)] [(1,some (p1_0,.box 156 [.val q1_0])),(2,some (q1_0,.map (z06 32 u8R) z0k c1_0)),(3,some (p2_0,.box 152 [.val q2_0])),(4,some (q2_0,.list z0n 4 c2_0)),(5,some (p3_0,.box 25 [.rd z03 c3_0])),(6,some (p4_0,.box 186 [.val (.func (.func 166) #[] #[z09 p1_0 0,z09 p2_0 0,z09 p3_0 0,z09 p4_0 0])]))] (z3d N a0 c1_0 c2_0 c3_0) (fun r nv=>⟨[],[(1,some (p1_0,.box 156 [.val q1_0])),(2,some (q1_0,.map (z06 32 u8R) z0k c1_0)),(3,some (p2_0,.box 152 [.val q2_0])),(4,some (q2_0,.list z0n 4 r)),(5,some (p3_0,.box 25 [.rd z03 c3_0])),(6,some (p4_0,.box 186 [.val (.func (.func 166) #[] #[z09 p1_0 0,z09 p2_0 0,z09 p3_0 0,z09 p4_0 0])]))]⟩)
 | 0,a0,p1_0,q1_0,c1_0,p2_0,q2_0,c2_0,p3_0,c3_0,p4_0=>fun r hr=>absurd hr (by simp [z3d])
 | N+1,a0,p1_0,q1_0,c1_0,p2_0,q2_0,c2_0,p3_0,c3_0,p4_0=>zi9 (z3d N) (zcu N) a0 p1_0 q1_0 c1_0 p2_0 q2_0 c2_0 p3_0 c3_0 p4_0
theorem zi1 (a0:Vector UInt8 32) (p1_0:Value) (q1_0:Value) (c1_0:List ((Vector UInt8 32) × Int)) (p2_0:Value) (q2_0:Value) (c2_0:List Bool) (p3_0:Value) (c3_0:z01) (p4_0:Value):z27 Tryz.prog 166 [.rd (z06 32 u8R) a0,.val (z09 p1_0 0),.val (z09 p2_0 0),.val (z09 p3_0 0),.val (z09 p4_0 0)] [(1,some (p1_0,.box 156 [.val q1_0])),(2,some (q1_0,.map (z06 32 u8R) z0k c1_0)),(3,some (p2_0,.box 152 [.val q2_0])),(4,some (q2_0,.list z0n 4 c2_0)),(5,some (p3_0,.box 25 [.rd z03 c3_0])),(6,some (p4_0,.box 186 [.val (.func (.func 166) #[] #[z09 p1_0 0,z09 p2_0 0,z09 p3_0 0,z09 p4_0 0])]))] (z3d 1000 a0 c1_0 c2_0 c3_0) (fun r nv=>⟨[],[(1,some (p1_0,.box 156 [.val q1_0])),(2,some (q1_0,.map (z06 32 u8R) z0k c1_0)),(3,some (p2_0,.box 152 [.val q2_0])),(4,some (q2_0,.list z0n 4 r)),(5,some (p3_0,.box 25 [.rd z03 c3_0])),(6,some (p4_0,.box 186 [.val (.func (.func 166) #[] #[z09 p1_0 0,z09 p2_0 0,z09 p3_0 0,z09 p4_0 0])]))]⟩):=zcu 1000 a0 p1_0 q1_0 c1_0 p2_0 q2_0 c2_0 p3_0 c3_0 p4_0
def z9n (a0:z01) (a1:List (Vector UInt8 32)) (r2:(List ((Vector UInt8 32) × Int))) (s11:(List Bool) × Int):Option (Sum ((List Bool)) ((List Bool) × Int)) :=
 if decide (s11.2<(a1.length:Int)) then
  idx a1 s11.2 >>= fun x13 =>
  (z3d 1000) x13 r2 s11.1 a0 >>= fun r16 =>
  some (.inr (r16,w64 (s11.2+1)))
 else
  some (.inl s11.1)
def zc6 (a0:z01) (a1:List (Vector UInt8 32)):Option ((List Bool)) :=
 z4y a0 >>= fun r2 =>
 mkn 1 false (a0.IDs.length:Int) >>= fun x5 =>
 (iter (z9n a0 a1 r2) (x5,0)) >>= fun s10 =>
 some s10
theorem zkh (a0:z01) (a1:List (Vector UInt8 32)):z27 Tryz.prog 120 [.rd z03 a0,.rd (z02 (z06 32 u8R)) a1] [] (zc6 a0 a1) (fun r nv=>⟨[.val (nv 0)],[(100,some (nv 0,.list z0n 4 r))]⟩):=by
 refine z2n 28 Tryz.func120 rfl rfl rfl fun H w=>?_
 refine gSR<|Eb rfl (bx 1 rfl) fun v1=>Za rfl<|Zn<|gSR<|Zq (ld 1 rfl rfl Foc.here z99 rfl)<|Zc [] [(100,2)] Tryz.func123 rfl (zbd _) fun r2 n3=>Eb rfl (z7s 3 zta (.val rfl)) fun v4=>Es (z4e 3 rfl rfl (.here z00) rfl z0a z00 zta)<|Zn<|gSR<|Zq (faB 1 rfl rfl Tryz.underlying25 rfl (by exact z2d))<|Zq (ld 1 rfl rfl ((Foc.here).part (z0j _)) z8l rfl)<|Zq (z37 rfl .rd rfl tu22)<|z0s fun x5 h6=>Ef rfl (mks (R:=z0n) 4 rfl rfl h6 tu152 ti4 Zr.bool rfl) fun v7=>Eb rfl (z7s 5 zyp (.val rfl)) fun v8=>Es (z4e 5 rfl rfl (.here z00) rfl z0a z00 zyp)<|Zn<|gSR<|Eb rfl (z7s 6 z11v (.val rfl)) fun v9=>Zn<|gSR<|Zq (mkf mp0 (mp4 rfl rfl rfl rfl))<|Es (z4e 6 rfl rfl (.here z00) rfl z0a z00 z11v)<|Zn<|z7f (fun (s10:(List Bool)) aa ww=>Sta (ctx 28 H [] w) [(6,.val (z09 v8 0))] [(4,some (v7,.list z0n 4 s10)),(5,some (v8,.box 152 [.val v7]))] aa ww) ?_ (fun s10=>?_)
 ·
  refine gSR<|Zm rfl<|Zq (z37 rfl .rd rfl tu22)<|Zm rfl<|Zn<|z2h (fun (s11:(List Bool) × Int) aa ww=>Sta (ctx 28 H [] w) [(6,.val (z09 v8 0)),(7,.val (z09 v9 0)),(17,.rd (z02 (z06 32 u8R)) a1),(18,.rd z0k (a1.length:Int)),(19,.rd z0k s11.2)] [(4,some (v7,.list z0n 4 s11.1)),(5,some (v8,.box 152 [.val v7])),(6,some (v9,.box 186 [.val (.func (.func 166) #[] #[z09 v4 0,z09 v8 0,z09 v1 0,z09 v9 0])])),(2,some ((n3 0),.map (z06 32 u8R) z0k r2)),(3,some (v4,.box 156 [.val (n3 0)])),(1,some (v1,.box 25 [.rd z03 a0]))] aa ww) (fun aa ww h=>Zu h [4,5,6,2,3,1]) (fun s11=>?_)
  refine gSR<|Zq (I.lss rfl rfl)<|Zn<|z0w<|gIf rfl rfl (fun h12=>?_) (fun h12=>?_)
  ·
   refine Zt<|z0w<|z4q<|gSR<|z0s fun x13 h14=>Zq (ixR rfl rfl h14 tu22 z1p rfl)<|Zq (ldR rfl z49)<|Eb rfl (z7s 7 z1p (.zr (R:=(z06 32 u8R)) (x:=(Vector.replicate 32 0)) zj3)) fun v15=>Es (sto 7 rfl rfl Foc.here rfl z1p)<|Zn<|z1m<|Zq (ldV 6 rfl rfl .here z131 rfl)<|Zq (ld 7 rfl rfl Foc.here z49 rfl)<|zgf [3,2,5,4,1,6] [(1,3),(2,2),(3,5),(4,4),(5,1),(6,6)] (gd0 rfl) rfl rfl Tryz.func166 rfl rfl (zi1 _ _ _ _ _ _ _ _ _ _) (Y1 rfl) (cQ 3 rfl<|cQ 5 rfl<|cQ 1 rfl<|cQ 6 rfl<|cN) (Zi rfl<|Zi rfl<|Zi rfl<|Zi rfl<|Zi rfl<|Zi rfl<|rN) fun r16 n17=>z1f<|z1w<|z0d<|z1m<|Zq (I.add rfl rfl)<|Zm rfl<|z1f<|z0r (fun aa ww h=>Zu h [4,5,6,2,3,1])
  ·
   refine z1z<|z13<|z14<|z2x (fun aa ww h=>Zu h [4,5])
 ·
  refine gSR<|Zq (ldV 5 rfl rfl .here zt2 rfl)<|Za rfl<|Zn<|z0m<|Ze [v7] [4] rfl
def zdj (a0:z0g):Option (z0g) :=
 app 32 ([]:List (Vector UInt8 32)) a0.Preds >>= fun x4 =>
 some (⟨a0.Author,x4,a0.Stamp,a0.Act,a0.Sig⟩:z0g)
theorem ze7 (a0:z0g):z27 Tryz.prog 42 [.rd z0c a0] [] (zdj a0) (fun r nv=>⟨[.rd z0c r],[]⟩):=by
 refine z2n 9 Tryz.func42 rfl rfl rfl fun H w=>?_
 refine gSR<|Eb rfl (bx 1 rfl) fun v1=>Eb rfl (z7s 2 z4w (ZrE.rd (R:=z1c) (x:=0) (Zr.num rfl) (ZrE.nilS (ZrE.rd (R:=z2r) (x:=0) (Zr.num rfl) (ZrE.rd (R:=z1i) (x:=(⟨0,[],(⟨0,0,0,[]⟩:z0b)⟩:z1u)) zx2 (ZrE.rd (R:=z1q) (x:=(⟨0,0⟩:z0u)) zx9 ZrE.nil rfl) rfl) rfl)) rfl)) fun v2=>Zn<|gSR<|Ef rfl (lit (R:=(z06 32 u8R)) (([]:List (Vector UInt8 32)):List (Vector UInt8 32)) 3 (pN) rfl tu22 z1p rfl rfl) fun v3=>Zq (faB 1 rfl rfl Tryz.underlying73 rfl (by exact z2d))<|Zq (ld 1 rfl rfl ((Foc.here).part (z1l _)) z8l rfl)<|z0s fun x4 h5=>Ef rfl (apn 3 rfl rfl rfl .rd h5 tu22 z1p rfl rfl rfl) fun v6=>Zq (faB 1 rfl rfl Tryz.underlying73 rfl (by exact z2d))<|lSpl (R:=z0c) 1 rfl (Sp.via (Sp.prod (Sp.prod (Sp.prod (Sp.prod (Sp.prod Sp.unit))))))<|Es (z4e 1 rfl rfl (z18.cast (z18.next z08 (z18.here z08)) rfl) rfl z0a z00 z2d)<|Zn<|gSR<|zuy [.rd z1c a0.Author,.rd (z02 (z06 32 u8R)) x4,.rd z2r a0.Stamp,.rd z1i a0.Act,.rd z1q a0.Sig] 1 3 [.rd z1c a0.Author] [.rd z2r a0.Stamp,.rd z1i a0.Act,.rd z1q a0.Sig] rfl rfl rfl rfl rfl<|zks (R:=z0c) (⟨a0.Author,x4,a0.Stamp,a0.Act,a0.Sig⟩:z0g) 1 rfl (Sp.via (Sp.prod (Sp.prod (Sp.prod (Sp.prod (Sp.prod Sp.unit))))))<|Zq (ld 1 rfl rfl Foc.here zg5 rfl)<|znn (z06 32 u8R) [.rd z1c 0,.rd (z02 (z06 32 u8R)) [],.rd z2r 0,.rd z1i (⟨0,[],(⟨0,0,0,[]⟩:z0b)⟩:z1u),.rd z1q (⟨0,0⟩:z0u)] 2 [.rd z1c 0] [.rd z2r 0,.rd z1i (⟨0,[],(⟨0,0,0,[]⟩:z0b)⟩:z1u),.rd z1q (⟨0,0⟩:z0u)] rfl rfl rfl<|zks (R:=z0c) (⟨0,[],0,(⟨0,[],(⟨0,0,0,[]⟩:z0b)⟩:z1u),(⟨0,0⟩:z0u)⟩:z0g) 2 rfl (Sp.via (Sp.prod (Sp.prod (Sp.prod (Sp.prod (Sp.prod Sp.unit))))))<|Es (sto 2 rfl rfl Foc.here rfl z4w)<|Zn<|z0m<|zge [] [] rfl (eC 2 rfl rfl zg5<|eN) (rN)
def z95 (a0:z01) (s9:(List z0g) × Int):Option (Sum ((List z0g)) ((List z0g) × Int)) :=
 if decide (s9.2<(a0.Ops.length:Int)) then
  idx a0.Ops s9.2 >>= fun x12 =>
  zdj x12 >>= fun r14 =>
  app 112 s9.1 [r14] >>= fun x17 =>
  some (w64 (s9.2+1)) >>= fun y20 =>
  some (.inr (x17,y20))
 else
  some (.inl s9.1)
def zbf (a0:z01):Option (z01) :=
 app 32 ([]:List (Vector UInt8 32)) a0.IDs >>= fun x4 =>
 (iter (z95 a0) ([],0)) >>= fun s8 =>
 some (⟨x4,s8⟩:z01)
theorem zj5 (a0:z01):z27 Tryz.prog 11 [.rd z03 a0] [] (zbf a0) (fun r nv=>⟨[.rd z03 r],[]⟩):=by
 refine z2n 29 Tryz.func11 rfl rfl rfl fun H w=>?_
 refine gSR<|Eb rfl (bx 1 rfl) fun v1=>Eb rfl (z7s 2 zn7 (ZrE.nilS (ZrE.nilS ZrE.nil))) fun v2=>Zn<|gSR<|Ef rfl (lit (R:=(z06 32 u8R)) (([]:List (Vector UInt8 32)):List (Vector UInt8 32)) 3 (pN) rfl tu22 z1p rfl rfl) fun v3=>Zq (faB 1 rfl rfl Tryz.underlying25 rfl (by exact z2d))<|Zq (ld 1 rfl rfl ((Foc.here).part (z0j _)) z8l rfl)<|z0s fun x4 h5=>Ef rfl (apn 3 rfl rfl rfl .rd h5 tu22 z1p rfl rfl rfl) fun v6=>Zq (zsp [(0,1),(1,1)] Tryz.underlying25 zn7 (ZrE.nilS (ZrE.nilS ZrE.nil)) rfl (zef.cons rfl rfl z00 (z18.cast (z18.here z00) rfl)<|zef.done rfl))<|Eb rfl (z7s 4 zn7 (ZrE.nilS (ZrE.nilS ZrE.nil))) fun v7=>Es (zsq 4 rfl rfl (z0e.cast (z0e.cons z00 (z0e.cons z00 z0e.nil)) rfl) rfl (z3l.cons z0a (z3l.cons z0a z3l.nil)) (z0e.cast (z0e.cons z00 (z0e.cons z00 z0e.nil)) rfl) zn7)<|Zn<|z7f (fun (s8:(List z0g)) aa ww=>∃ nv:Nat→Value,Sta (ctx 29 H [] w) [(2,.val (z09 v2 0)),(3,.val (z09 v7 0))] [(2,some (v2,.box 25 [.val (.slice none 0 0),.val (.slice none 0 0)])),(3,some (v6,.list (z06 32 u8R) 62 x4)),(32,some ((nv 0),.list z0c 73 s8)),(4,some (v7,.box 25 [.val v6,.val (nv 0)]))] aa ww) ?_ (fun s8=>?_)
 ·
  refine gSR<|Za rfl<|Zn<|zrq z0c 73 61<|z2h (fun (s9:(List z0g) × Int) aa ww=>∃ nv:Nat→Value,Sta (ctx 29 H [] w) [(1,.val (z09 v1 0)),(2,.val (z09 v2 0)),(3,.val (z09 v7 0)),(4,.rd z0k s9.2)] [(1,some (v1,.box 25 [.rd z03 a0])),(2,some (v2,.box 25 [.val (.slice none 0 0),.val (.slice none 0 0)])),(3,some (v6,.list (z06 32 u8R) 62 x4)),(60,some ((nv 0),.list z0c 73 s9.1)),(4,some (v7,.box 25 [.val v6,.val (nv 0)]))] aa ww) (fun aa ww h=>⟨nvl [(.slice none 0 0)],Zu h [1,2,3,61,4]⟩) (fun s9=>?_)
  refine gEx fun n10=>z0w<|gSR<|Zm rfl<|Zq (faB 1 rfl rfl Tryz.underlying25 rfl (by exact z40))<|Zq (ld 1 rfl rfl ((Foc.here).part (z0f _)) zg6 rfl)<|Zq (z37 rfl .rd rfl tu23)<|Zq (I.lss rfl rfl)<|Zn<|gIf rfl rfl (fun h11=>?_) (fun h11=>?_)
  ·
   refine Zt<|z0w<|z4q<|z5m [4,60,86] mixed rfl rfl<|hTk 0 rfl rfl (faB 4 rfl rfl Tryz.underlying25 rfl (by exact z40))<|hTk 2 rfl rfl (faB 1 rfl rfl Tryz.underlying25 rfl (by exact z40))<|hTk 3 rfl rfl (ld 1 rfl rfl ((Foc.here).part (z0f _)) zg6 rfl)<|hTk 4 rfl rfl (mv rfl)<|z0o fun x12 h13=>hTk 5 rfl rfl (ixR rfl rfl h13 tu23 z4w rfl)<|hTk 6 rfl rfl (ldR rfl zg5)<|z6o [1,7] (by kernel_rfl) rfl ⟨?_,?_,trivial⟩
   ·
    refine zaz 1 rfl (gd0 rfl) rfl rfl z05 (ldV 4 rfl rfl (At.cast (At.next z00 At.here) rfl) zil rfl)<|zd9 7 [] [] rfl (by kernel_rfl) rfl (gd0 rfl) rfl Tryz.func42 rfl rfl (ze7 _) (Y1 rfl) rN rfl fun r14 n15=>Zo 8 rfl rfl rfl (lit (R:=z0c) ([r14]:List z0g) 86 (pP rfl rfl<|pN) rfl tu23 z4w rfl rfl) fun v16=>z2z 86 [25] rfl (fS rfl<|fN)<|z0o fun x17 h18=>Zo 9 rfl rfl rfl (apn 60 rfl rfl rfl .rd h18 tu23 z4w rfl rfl rfl) fun v19=>hTk 10 rfl rfl (faB 4 rfl rfl Tryz.underlying25 rfl (by exact z40))<|Zp 11 rfl rfl rfl rfl rfl (z4e 4 rfl rfl (z18.cast (z18.next z00 (z18.here z00)) rfl) rfl z0a z00 z40)<|z0y (by kernel_rfl)<|z1w<|z0d<|z1m<|Zm rfl<|Zq (I.add rfl rfl)<|Za rfl<|z1e 4 rfl fun y20=>z1f<|z0r (fun aa ww h=>⟨nvl [v19],Zu h [1,2,3,60,4]⟩)
   ·
    refine zhr 7 [] [] rfl rfl (gd0 rfl) rfl Tryz.func42 rfl rfl (ze7 _) (Y1 rfl) rN rfl fun r21 n22=>z6o [1,8] (by kernel_rfl) rfl ⟨?_,?_,trivial⟩
    ·
     refine zaz 1 rfl (gd0 rfl) rfl rfl z05 (ldV 4 rfl rfl (At.cast (At.next z00 At.here) rfl) zil rfl)<|Zo 8 rfl rfl rfl (lit (R:=z0c) ([r21]:List z0g) 86 (pP rfl rfl<|pN) rfl tu23 z4w rfl rfl) fun v23=>z2z 86 [25] rfl (fS rfl<|fN)<|z0o fun x24 h25=>Zo 9 rfl rfl rfl (apn 60 rfl rfl rfl .rd h25 tu23 z4w rfl rfl rfl) fun v26=>hTk 10 rfl rfl (faB 4 rfl rfl Tryz.underlying25 rfl (by exact z40))<|Zp 11 rfl rfl rfl rfl rfl (z4e 4 rfl rfl (z18.cast (z18.next z00 (z18.here z00)) rfl) rfl z0a z00 z40)<|z0y (by kernel_rfl)<|z1w<|z0d<|z1m<|Zm rfl<|Zq (I.add rfl rfl)<|Za rfl<|z1e 4 rfl fun y27=>z1f<|z0r (fun aa ww h=>⟨nvl [v26],Zu h [1,2,3,60,4]⟩)
    ·
     refine oDo 8 rfl (gd0 rfl) rfl rfl rfl (lit (R:=z0c) ([r21]:List z0g) 86 (pP rfl rfl<|pN) rfl tu23 z4w rfl rfl) (fun _=>rfl) fun v28=>zii 1 rfl (by kernel_rfl) (gd0 rfl) rfl rfl z05 (ldV 4 rfl rfl (At.cast (At.next z00 At.here) rfl) zil rfl)<|z2z 86 [25] rfl (fS rfl<|fN)<|z0o fun x29 h30=>Zo 9 rfl rfl rfl (apn 60 rfl rfl rfl .rd h30 tu23 z4w rfl rfl rfl) fun v31=>hTk 10 rfl rfl (faB 4 rfl rfl Tryz.underlying25 rfl (by exact z40))<|Zp 11 rfl rfl rfl rfl rfl (z4e 4 rfl rfl (z18.cast (z18.next z00 (z18.here z00)) rfl) rfl z0a z00 z40)<|z0y (by kernel_rfl)<|z1w<|z0d<|z1m<|Zm rfl<|Zq (I.add rfl rfl)<|Za rfl<|z1e 4 rfl fun y32=>z1f<|z0r (fun aa ww h=>⟨nvl [v31],Zu h [1,2,3,60,4]⟩)
  ·
   refine z1z<|z13<|z14<|z2x (fun aa ww h=>⟨nvl [(n10 0)],Zu h [2,3,60,4]⟩)
 ·
  refine gEx fun n33=>gSR<|zuy [.rd (z02 (z06 32 u8R)) x4,.val (n33 0)] 4 3 [] [.val (n33 0)] rfl rfl rfl rfl rfl<|zuy [.rd (z02 (z06 32 u8R)) x4,.rd (z02 z0c) s8] 4 32 [.rd (z02 (z06 32 u8R)) x4] [] rfl rfl rfl rfl rfl<|zks (R:=z03) (⟨x4,s8⟩:z01) 4 rfl (Sp.via (Sp.prod (Sp.prod Sp.unit)))<|Zq (ld 4 rfl rfl Foc.here z99 rfl)<|znn (z06 32 u8R) [.rd (z02 (z06 32 u8R)) [],.val (.slice none 0 0)] 2 [] [.val (.slice none 0 0)] rfl rfl rfl<|znn z0c [.rd (z02 (z06 32 u8R)) [],.rd (z02 z0c) []] 2 [.rd (z02 (z06 32 u8R)) []] [] rfl rfl rfl<|zks (R:=z03) (⟨[],[]⟩:z01) 2 rfl (Sp.via (Sp.prod (Sp.prod Sp.unit)))<|Es (sto 2 rfl rfl Foc.here rfl zn7)<|Zn<|z0m<|zge [] [] rfl (eC 2 rfl rfl z99<|eN) (rN)
def z78 (a0:List (Vector UInt8 32)) (a1:List (Vector UInt8 32)) (s3:Int):Option (Sum (Sum Bool Unit) Int) :=
 if decide (s3<(a0.length:Int)) then
  idx a0 s3 >>= fun x5 =>
  idx a1 s3 >>= fun x7 =>
  if !decide (x5=x7) then
   some (.inl (.inl false))
  else
   some (.inr (w64 (s3+1)))
 else
  some (.inl (.inr ()))
def z75 (a0:List (Vector UInt8 32)) (a1:List (Vector UInt8 32)):Option (Bool) :=
 if (a0.length:Int) != (a1.length:Int) then
  some false
 else
  z5p (iter (z78 a0 a1) 0) fun s2 =>
  some true
theorem zce (a0:List (Vector UInt8 32)) (a1:List (Vector UInt8 32)):z27 Tryz.prog 53 [.rd (z02 (z06 32 u8R)) a0,.rd (z02 (z06 32 u8R)) a1] [] (z75 a0 a1) (fun r nv=>⟨[.rd z0n r],[]⟩):=by
 refine z2n 26 Tryz.func53 rfl rfl rfl fun H w=>?_
 refine gSR<|Za rfl<|Zn<|z0w<|gSR<|Zm rfl<|Zq (z37 rfl .rd rfl tu22)<|Zm rfl<|Zq (z37 rfl .rd rfl tu22)<|Zq (I.neq rfl rfl)<|Zn<|gIf rfl rfl (fun h1=>?_) (fun h1=>?_)
 ·
  refine gSR<|Za rfl<|Zn<|z0m<|z12<|Ze [] [] rfl
 ·
  refine Zt<|z7k (fun (s2:Unit) aa ww=>Sta (ctx 26 H [] w) [] [] aa ww) ?_ (fun s2=>?_)
  ·
   refine gSR<|Za rfl<|Zn<|z2h (fun (s3:Int) aa ww=>Sta (ctx 26 H [] w) [(0,.rd (z02 (z06 32 u8R)) a0),(1,.rd (z02 (z06 32 u8R)) a1),(5,.rd z0k s3)] [] aa ww) (fun aa ww h=>Zu h []) (fun s3=>?_)
   refine z0w<|gSR<|Zm rfl<|Zm rfl<|Zq (z37 rfl .rd rfl tu22)<|Zq (I.lss rfl rfl)<|Zn<|gIf rfl rfl (fun h4=>?_) (fun h4=>?_)
   ·
    refine Zt<|z0w<|z4q<|z0w<|zdn mixed (by kernel_rfl)<|Rq rfl (mv rfl)<|Rq rfl (mv rfl)<|z6a fun x5 h6=>Rq rfl (ixR rfl rfl h6 tu22 z1p rfl)<|Rq rfl (ldR rfl z49)<|Rq rfl (mv rfl)<|Rq rfl (mv rfl)<|z6a fun x7 h8=>Rq rfl (ixR rfl rfl h8 tu22 z1p rfl)<|Rq rfl (ldR rfl z49)<|Rq rfl (neA rfl rfl zsh rfl rfl zsu)<|zl6<|z0d<|gIf rfl rfl (fun h9=>?_) (fun h9=>?_)
    ·
     refine gSR<|Za rfl<|Zn<|z0m<|z4a<|z12<|z7g<|z54<|Ze [] [] rfl
    ·
     refine z2l<|z1w<|z0d<|z1m<|Zm rfl<|Zq (I.add rfl rfl)<|Za rfl<|z1f<|z0r (fun aa ww h=>Zu h [])
   ·
    refine z1z<|z13<|z14<|z4s (fun aa ww h=>Zu h [])
  ·
   refine gSR<|Za rfl<|Zn<|z0m<|Ze [] [] rfl
def zbt (a0:z0g) (a1:z0g):Option (Bool) :=
 if a0.Author==a1.Author then
  z75 a0.Preds a1.Preds >>= fun r4 =>
  if r4 then
   if a0.Stamp==a1.Stamp then
    if decide (a0.Act=a1.Act) then
     some (decide (a0.Sig=a1.Sig)) >>= fun y9 =>
     some y9
    else
     some false
   else
    some false
  else
   some false
 else
  some false
end
section
open Go Go.RowKit
set_option maxRecDepth 100000
theorem zjg (a0:z0g) (a1:z0g):z27 Tryz.prog 54 [.rd z0c a0,.rd z0c a1] [] (zbt a0 a1) (fun r nv=>⟨[.rd z0n r],[]⟩):=by
 refine z2n 38 Tryz.func54 rfl rfl rfl fun H w=>?_
 refine gSR<|Eb rfl (bx 1 rfl) fun v1=>Eb rfl (bx 2 rfl) fun v2=>Za rfl<|Zn<|gSR<|Zq (faB 1 rfl rfl Tryz.underlying73 rfl (by exact z3h))<|Zq (ld 1 rfl rfl ((Foc.here).part (z4j _)) z4p rfl)<|Zq (faB 2 rfl rfl Tryz.underlying73 rfl (by exact z3h))<|Zq (ld 2 rfl rfl ((Foc.here).part (z4j _)) z4p rfl)<|Zq (W.eql rfl rfl)<|Zm rfl<|z1n 10 rfl (fun h3=>?_) (fun h3=>?_)
 ·
  refine lKn 9 rfl h3<|z0z Zx rfl rfl (faB 1 rfl rfl Tryz.underlying73 rfl (by exact z2d))<|z0z Zx rfl rfl (ld 1 rfl rfl ((Foc.here).part (z1l _)) z8l rfl)<|z0z Zx rfl rfl (faB 2 rfl rfl Tryz.underlying73 rfl (by exact z2d))<|z0z Zx rfl rfl (ld 2 rfl rfl ((Foc.here).part (z1l _)) z8l rfl)<|zcw [] [] Zx rfl Tryz.func53 rfl rfl (zce _ _) (Y2 rfl rfl) rN fun r4 n5=>Zq (pkT rfl rfl)<|Zm rfl<|z1n 17 rfl (fun h6=>?_) (fun h6=>?_)
  ·
   refine lKn 15 rfl h6<|lKn 16 rfl h6<|z0z Zx rfl rfl (faB 1 rfl rfl Tryz.underlying73 rfl (by exact znl))<|z0z Zx rfl rfl (ld 1 rfl rfl ((Foc.here).part (z7x _)) zmo rfl)<|z0z Zx rfl rfl (faB 2 rfl rfl Tryz.underlying73 rfl (by exact znl))<|z0z Zx rfl rfl (ld 2 rfl rfl ((Foc.here).part (z7x _)) zmo rfl)<|z0z Zx rfl rfl (U.eql rfl rfl)<|Zq (pkT rfl rfl)<|Zm rfl<|z1n 24 rfl (fun h7=>?_) (fun h7=>?_)
   ·
    refine lKn 22 rfl h7<|lKn 23 rfl h7<|z0z Zx rfl rfl (faB 1 rfl rfl Tryz.underlying73 rfl (by exact zor))<|z0z Zx rfl rfl (ld 1 rfl rfl ((Foc.here).part (z30 _)) ty69 rfl)<|z0z Zx rfl rfl (faB 2 rfl rfl Tryz.underlying73 rfl (by exact zor))<|z0z Zx rfl rfl (ld 2 rfl rfl ((Foc.here).part (z30 _)) ty69 rfl)<|z0z Zx rfl rfl (eqA rfl rfl eq69 rfl rfl gq69)<|Zq (pkT rfl rfl)<|Zm rfl<|z1n 31 rfl (fun h8=>?_) (fun h8=>?_)
    ·
     refine lKn 29 rfl h8<|lKn 30 rfl h8<|z0z Zx rfl rfl (faB 1 rfl rfl Tryz.underlying73 rfl (by exact zqv))<|z0z Zx rfl rfl (ld 1 rfl rfl ((Foc.here).part (z3o _)) ty71 rfl)<|z0z Zx rfl rfl (faB 2 rfl rfl Tryz.underlying73 rfl (by exact zqv))<|z0z Zx rfl rfl (ld 2 rfl rfl ((Foc.here).part (z3o _)) ty71 rfl)<|z0z Zx rfl rfl (eqA rfl rfl eq71 rfl rfl gq71)<|Zq (pkT rfl rfl)<|Za rfl<|z1e 4 rfl fun y9=>Zn<|z0m<|Ze [] [] rfl
    ·
     refine lKn 29 rfl h8<|lKn 30 rfl h8<|Zk rfl<|Zk rfl<|Zk rfl<|Zk rfl<|Zk rfl<|Zq (pkF rfl rfl)<|Za rfl<|Zn<|z0m<|Ze [] [] rfl
   ·
    refine lKn 22 rfl h7<|lKn 23 rfl h7<|Zk rfl<|Zk rfl<|Zk rfl<|Zk rfl<|Zk rfl<|Zq (pkF rfl rfl)<|Zm rfl<|Zk rfl<|Zk rfl<|Zk rfl<|Zk rfl<|Zk rfl<|Zq (pkF rfl rfl)<|Za rfl<|Zn<|z0m<|Ze [] [] rfl
  ·
   refine lKn 15 rfl h6<|lKn 16 rfl h6<|Zk rfl<|Zk rfl<|Zk rfl<|Zk rfl<|Zk rfl<|Zq (pkF rfl rfl)<|Zm rfl<|Zk rfl<|Zk rfl<|Zk rfl<|Zk rfl<|Zk rfl<|Zq (pkF rfl rfl)<|Zm rfl<|Zk rfl<|Zk rfl<|Zk rfl<|Zk rfl<|Zk rfl<|Zq (pkF rfl rfl)<|Za rfl<|Zn<|z0m<|Ze [] [] rfl
 ·
  refine lKn 9 rfl h3<|Zk rfl<|Zk rfl<|Zk rfl<|Zk rfl<|Zk rfl<|Zq (pkF rfl rfl)<|Zm rfl<|Zk rfl<|Zk rfl<|Zk rfl<|Zk rfl<|Zk rfl<|Zq (pkF rfl rfl)<|Zm rfl<|Zk rfl<|Zk rfl<|Zk rfl<|Zk rfl<|Zk rfl<|Zq (pkF rfl rfl)<|Zm rfl<|Zk rfl<|Zk rfl<|Zk rfl<|Zk rfl<|Zk rfl<|Zq (pkF rfl rfl)<|Za rfl<|Zn<|z0m<|Ze [] [] rfl
def z94 (a0:z01) (a1:z01) (s8:Int):Option (Sum (Sum Bool Unit) Int) :=
 if decide (s8<(a0.Ops.length:Int)) then
  idx a0.Ops s8 >>= fun x10 =>
  idx a1.Ops s8 >>= fun x12 =>
  zbt x10 x12 >>= fun r14 =>
  if !r14 then
   some (.inl (.inl false))
  else
   some (.inr (w64 (s8+1)))
 else
  some (.inl (.inr ()))
def zbp (a0:z01) (a1:z01):Option (Bool) :=
 z75 a0.IDs a1.IDs >>= fun r3 =>
 if !r3 then
  some false
 else
  if (a0.Ops.length:Int) != (a1.Ops.length:Int) then
   some false
  else
   z5p (iter (z94 a0 a1) 0) fun s7 =>
   some true
theorem zji (a0:z01) (a1:z01):z27 Tryz.prog 22 [.rd z03 a0,.rd z03 a1] [] (zbp a0 a1) (fun r nv=>⟨[.rd z0n r],[]⟩):=by
 refine z2n 40 Tryz.func22 rfl rfl rfl fun H w=>?_
 refine gSR<|Eb rfl (bx 1 rfl) fun v1=>Eb rfl (bx 2 rfl) fun v2=>Za rfl<|Zn<|z0w<|gSR<|Zq (faB 1 rfl rfl Tryz.underlying25 rfl (by exact z2d))<|Zq (ld 1 rfl rfl ((Foc.here).part (z0j _)) z8l rfl)<|Zq (faB 2 rfl rfl Tryz.underlying25 rfl (by exact z2d))<|Zq (ld 2 rfl rfl ((Foc.here).part (z0j _)) z8l rfl)<|Zc [] [] Tryz.func53 rfl (zce _ _) fun r3 n4=>Zq (zcy rfl)<|Zm rfl<|z1n 12 rfl (fun h5=>?_) (fun h5=>?_)
 ·
  refine lKn 11 rfl h5<|Zk rfl<|Zk rfl<|Zk rfl<|Zk rfl<|Zk rfl<|Zk rfl<|Zk rfl<|Zq (pkT rfl rfl)<|Zn<|zdg rfl<|gSR<|Za rfl<|Zn<|z0m<|z12<|Ze [] [] rfl
 ·
  refine lKn 11 rfl h5<|z0z Zx rfl rfl (faB 1 rfl rfl Tryz.underlying25 rfl (by exact z40))<|z0z Zx rfl rfl (ld 1 rfl rfl ((Foc.here).part (z0f _)) zg6 rfl)<|z0z Zx rfl rfl (z37 rfl .rd rfl tu23)<|z0z Zx rfl rfl (faB 2 rfl rfl Tryz.underlying25 rfl (by exact z40))<|z0z Zx rfl rfl (ld 2 rfl rfl ((Foc.here).part (z0f _)) zg6 rfl)<|z0z Zx rfl rfl (z37 rfl .rd rfl tu23)<|z0z Zx rfl rfl (I.neq rfl rfl)<|Zq (pkF rfl rfl)<|Zn<|gIf rfl rfl (fun h6=>?_) (fun h6=>?_)
  ·
   refine gKn 19 rfl h6<|gSR<|Za rfl<|Zn<|z0m<|z12<|Ze [] [] rfl
  ·
   refine gKn 19 rfl h6<|Zt<|z7k (fun (s7:Unit) aa ww=>Sta (ctx 40 H [] w) [] [] aa ww) ?_ (fun s7=>?_)
   ·
    refine gSR<|Za rfl<|Zn<|z2h (fun (s8:Int) aa ww=>Sta (ctx 40 H [] w) [(2,.val (z09 v1 0)),(3,.val (z09 v2 0)),(5,.rd z0k s8)] [(1,some (v1,.box 25 [.rd z03 a0])),(2,some (v2,.box 25 [.rd z03 a1]))] aa ww) (fun aa ww h=>Zu h [1,2]) (fun s8=>?_)
    refine z0w<|gSR<|Zm rfl<|Zq (faB 1 rfl rfl Tryz.underlying25 rfl (by exact z40))<|Zq (ld 1 rfl rfl ((Foc.here).part (z0f _)) zg6 rfl)<|Zq (z37 rfl .rd rfl tu23)<|Zq (I.lss rfl rfl)<|Zn<|gIf rfl rfl (fun h9=>?_) (fun h9=>?_)
    ·
     refine Zt<|z0w<|z4q<|z0w<|z5m [] mixed rfl rfl<|hTk 0 rfl rfl (faB 1 rfl rfl Tryz.underlying25 rfl (by exact z40))<|hTk 1 rfl rfl (ld 1 rfl rfl ((Foc.here).part (z0f _)) zg6 rfl)<|hTk 2 rfl rfl (mv rfl)<|z0o fun x10 h11=>hTk 3 rfl rfl (ixR rfl rfl h11 tu23 z4w rfl)<|hTk 4 rfl rfl (ldR rfl zg5)<|hTk 5 rfl rfl (faB 2 rfl rfl Tryz.underlying25 rfl (by exact z40))<|hTk 6 rfl rfl (ld 2 rfl rfl ((Foc.here).part (z0f _)) zg6 rfl)<|hTk 7 rfl rfl (mv rfl)<|z0o fun x12 h13=>hTk 8 rfl rfl (ixR rfl rfl h13 tu23 z4w rfl)<|hTk 9 rfl rfl (ldR rfl zg5)<|z10 10 [] [] rfl (by kernel_rfl) rfl (gd0 rfl) rfl Tryz.func54 rfl rfl (zjg _ _) (Y2 rfl rfl) rN rfl (fun _ _=>zbv) fun r14 n15=>hTk 11 rfl rfl (zcy rfl)<|z0y (by kernel_rfl)<|z0d<|gIf rfl rfl (fun h16=>?_) (fun h16=>?_)
     ·
      refine gSR<|Za rfl<|Zn<|z0m<|z4a<|z12<|z7g<|z54<|Ze [] [] rfl
     ·
      refine z2l<|z1w<|z0d<|z1m<|Zm rfl<|Zq (I.add rfl rfl)<|Za rfl<|z1f<|z0r (fun aa ww h=>Zu h [1,2])
    ·
     refine z1z<|z13<|z14<|z4s (fun aa ww h=>Zu h [])
   ·
    refine gSR<|Za rfl<|Zn<|z0m<|Ze [] [] rfl
def z6s (a0:z0g):Option (Bool) :=
 if decide (20<(a0.Preds.length:Int)) then
  some true
 else
  if decide (100<(a0.Act.Key.length:Int)) then
   some true
  else
   some (decide (100<(a0.Act.Value.Text.length:Int))) >>= fun y4 =>
   some y4
theorem zie (a0:z0g):z27 Tryz.prog 55 [.rd z0c a0] [] (z6s a0) (fun r nv=>⟨[.rd z0n r],[]⟩):=by
 refine z2n 22 Tryz.func55 rfl rfl rfl fun H w=>?_
 refine gSR<|Eb rfl (bx 1 rfl) fun v1=>Za rfl<|Zn<|gSR<|Zq (faB 1 rfl rfl Tryz.underlying73 rfl (by exact z2d))<|Zq (ld 1 rfl rfl ((Foc.here).part (z1l _)) z8l rfl)<|Zq (z37 rfl .rd rfl tu22)<|Zq (I.gtr rfl rfl)<|Zm rfl<|z1n 7 rfl (fun h2=>?_) (fun h2=>?_)
 ·
  refine lKn 6 rfl h2<|Zk rfl<|Zk rfl<|Zk rfl<|Zk rfl<|Zk rfl<|Zq (pkT rfl rfl)<|Zm rfl<|Zk rfl<|Zk rfl<|Zk rfl<|Zk rfl<|Zk rfl<|Zk rfl<|Zq (pkT rfl rfl)<|Za rfl<|Zn<|z0m<|Ze [] [] rfl
 ·
  refine lKn 6 rfl h2<|z0z Zx rfl rfl (faB 1 rfl rfl Tryz.underlying73 rfl (by exact zor))<|z0z Zx rfl rfl (faB 1 rfl rfl Tryz.underlying69 rfl (by exact ti9))<|z0z Zx rfl rfl (ld 1 rfl rfl (((Foc.here).part (z30 _)).part (z5v _)) ty9 rfl)<|z0z Zx rfl rfl (zx4 rfl rfl tu9)<|z0z Zx rfl rfl (I.gtr rfl rfl)<|Zq (pkF rfl rfl)<|Zm rfl<|z1n 14 rfl (fun h3=>?_) (fun h3=>?_)
  ·
   refine lKn 12 rfl h3<|lKn 13 rfl h3<|Zk rfl<|Zk rfl<|Zk rfl<|Zk rfl<|Zk rfl<|Zk rfl<|Zq (pkT rfl rfl)<|Za rfl<|Zn<|z0m<|Ze [] [] rfl
  ·
   refine lKn 12 rfl h3<|lKn 13 rfl h3<|z0z Zx rfl rfl (faB 1 rfl rfl Tryz.underlying73 rfl (by exact zor))<|z0z Zx rfl rfl (faB 1 rfl rfl Tryz.underlying69 rfl (by exact zkj))<|z0z Zx rfl rfl (faB 1 rfl rfl Tryz.underlying67 rfl (by exact ti9))<|z0z Zx rfl rfl (ld 1 rfl rfl ((((Foc.here).part (z30 _)).part (z5a _)).part (z3n _)) ty9 rfl)<|z0z Zx rfl rfl (zx4 rfl rfl tu9)<|z0z Zx rfl rfl (I.gtr rfl rfl)<|Zq (pkF rfl rfl)<|Za rfl<|z1e 2 rfl fun y4=>Zn<|z0m<|Ze [] [] rfl
def z4l (a0:z01) (s3:Int):Option (Sum (Sum Bool Unit) Int) :=
 if decide (s3<(a0.Ops.length:Int)) then
  if decide (s3≤70) then
   idx a0.Ops s3 >>= fun x6 =>
   z6s x6 >>= fun r8 =>
   if r8 then
    some (.inl (.inl true))
   else
    some (.inr (w64 (s3+1)))
  else
   some (.inl (.inr ()))
 else
  some (.inl (.inr ()))
def zag (a0:z01):Option (Bool) :=
 z5p (iter (z4l a0) 0) fun s2 =>
 if decide (16<(a0.Ops.length:Int)) then
  if decide ((a0.Ops.length:Int)≤60) then
   some true
  else
   if decide (70<(a0.Ops.length:Int)) then
    some true
   else
    some (decide (70<(a0.IDs.length:Int))) >>= fun y14 =>
    some y14
 else
  if decide (70<(a0.Ops.length:Int)) then
   some true
  else
   some (decide (70<(a0.IDs.length:Int))) >>= fun y16 =>
   some y16
theorem zhy (a0:z01):z27 Tryz.prog 23 [.rd z03 a0] [] (zag a0) (fun r nv=>⟨[.rd z0n r],[]⟩):=by
 refine z2n 43 Tryz.func23 rfl rfl rfl fun H w=>?_
 refine gSR<|Eb rfl (bx 1 rfl) fun v1=>Za rfl<|Zn<|z7k (fun (s2:Unit) aa ww=>Sta (ctx 43 H [] w) [(1,.val (z09 v1 0))] [(1,some (v1,.box 25 [.rd z03 a0]))] aa ww) ?_ (fun s2=>?_)
 ·
  refine gSR<|Za rfl<|Zn<|z2h (fun (s3:Int) aa ww=>Sta (ctx 43 H [] w) [(1,.val (z09 v1 0)),(3,.rd z0k s3)] [(1,some (v1,.box 25 [.rd z03 a0]))] aa ww) (fun aa ww h=>Zu h [1]) (fun s3=>?_)
  refine z0w<|gSR<|Zm rfl<|Zq (faB 1 rfl rfl Tryz.underlying25 rfl (by exact z40))<|Zq (ld 1 rfl rfl ((Foc.here).part (z0f _)) zg6 rfl)<|Zq (z37 rfl .rd rfl tu23)<|Zq (I.lss rfl rfl)<|Zm rfl<|z1n 9 rfl (fun h4=>?_) (fun h4=>?_)
  ·
   refine lKn 8 rfl h4<|z0z Zx rfl rfl (mv rfl)<|z0z Zx rfl rfl (I.leq rfl rfl)<|Zq (pkT rfl rfl)<|Zn<|gIf rfl rfl (fun h5=>?_) (fun h5=>?_)
   ·
    refine gKn 11 rfl h5<|Zt<|z0w<|z4q<|gSR<|Zq (faB 1 rfl rfl Tryz.underlying25 rfl (by exact z40))<|Zq (ld 1 rfl rfl ((Foc.here).part (z0f _)) zg6 rfl)<|Zm rfl<|z0s fun x6 h7=>Zq (ixR rfl rfl h7 tu23 z4w rfl)<|Zq (ldR rfl zg5)<|Zc [] [] Tryz.func55 rfl (zie _) fun r8 n9=>Zn<|gIf rfl rfl (fun h10=>?_) (fun h10=>?_)
    ·
     refine gSR<|Za rfl<|Zn<|z0m<|z4a<|z12<|z7g<|z54<|Ze [] [] rfl
    ·
     refine z2l<|z1w<|z0d<|z1m<|Zm rfl<|Zq (I.add rfl rfl)<|Za rfl<|z1f<|z0r (fun aa ww h=>Zu h [1])
   ·
    refine gKn 11 rfl h5<|z1z<|z13<|z14<|z4s (fun aa ww h=>Zu h [1])
  ·
   refine lKn 8 rfl h4<|Zk rfl<|Zk rfl<|Zq (pkF rfl rfl)<|Zn<|zbl rfl<|z1z<|z13<|z14<|z4s (fun aa ww h=>Zu h [1])
 ·
  refine gSR<|Zq (faB 1 rfl rfl Tryz.underlying25 rfl (by exact z40))<|Zq (ld 1 rfl rfl ((Foc.here).part (z0f _)) zg6 rfl)<|Zq (z37 rfl .rd rfl tu23)<|Zq (I.gtr rfl rfl)<|Zm rfl<|z1n 25 rfl (fun h11=>?_) (fun h11=>?_)
  ·
   refine lKn 24 rfl h11<|z0z Zx rfl rfl (faB 1 rfl rfl Tryz.underlying25 rfl (by exact z40))<|z0z Zx rfl rfl (ld 1 rfl rfl ((Foc.here).part (z0f _)) zg6 rfl)<|z0z Zx rfl rfl (z37 rfl .rd rfl tu23)<|z0z Zx rfl rfl (I.leq rfl rfl)<|Zq (pkT rfl rfl)<|Zm rfl<|z1n 31 rfl (fun h12=>?_) (fun h12=>?_)
   ·
    refine lKn 29 rfl h12<|lKn 30 rfl h12<|Zk rfl<|Zk rfl<|Zk rfl<|Zk rfl<|Zq (pkT rfl rfl)<|Zm rfl<|Zk rfl<|Zk rfl<|Zk rfl<|Zk rfl<|Zq (pkT rfl rfl)<|Za rfl<|Zn<|z0m<|Ze [] [] rfl
   ·
    refine lKn 29 rfl h12<|lKn 30 rfl h12<|z0z Zx rfl rfl (faB 1 rfl rfl Tryz.underlying25 rfl (by exact z40))<|z0z Zx rfl rfl (ld 1 rfl rfl ((Foc.here).part (z0f _)) zg6 rfl)<|z0z Zx rfl rfl (z37 rfl .rd rfl tu23)<|z0z Zx rfl rfl (I.gtr rfl rfl)<|Zq (pkF rfl rfl)<|Zm rfl<|z1n 37 rfl (fun h13=>?_) (fun h13=>?_)
    ·
     refine lKn 35 rfl h13<|lKn 36 rfl h13<|Zk rfl<|Zk rfl<|Zk rfl<|Zk rfl<|Zq (pkT rfl rfl)<|Za rfl<|Zn<|z0m<|Ze [] [] rfl
    ·
     refine lKn 35 rfl h13<|lKn 36 rfl h13<|z0z Zx rfl rfl (faB 1 rfl rfl Tryz.underlying25 rfl (by exact z2d))<|z0z Zx rfl rfl (ld 1 rfl rfl ((Foc.here).part (z0j _)) z8l rfl)<|z0z Zx rfl rfl (z37 rfl .rd rfl tu22)<|z0z Zx rfl rfl (I.gtr rfl rfl)<|Zq (pkF rfl rfl)<|Za rfl<|z1e 2 rfl fun y14=>Zn<|z0m<|Ze [] [] rfl
  ·
   refine lKn 24 rfl h11<|Zk rfl<|Zk rfl<|Zk rfl<|Zk rfl<|Zq (pkF rfl rfl)<|Zm rfl<|z0z Zx rfl rfl (faB 1 rfl rfl Tryz.underlying25 rfl (by exact z40))<|z0z Zx rfl rfl (ld 1 rfl rfl ((Foc.here).part (z0f _)) zg6 rfl)<|z0z Zx rfl rfl (z37 rfl .rd rfl tu23)<|z0z Zx rfl rfl (I.gtr rfl rfl)<|Zq (pkF rfl rfl)<|Zm rfl<|z1n 37 rfl (fun h15=>?_) (fun h15=>?_)
   ·
    refine lKn 35 rfl h15<|lKn 36 rfl h15<|Zk rfl<|Zk rfl<|Zk rfl<|Zk rfl<|Zq (pkT rfl rfl)<|Za rfl<|Zn<|z0m<|Ze [] [] rfl
   ·
    refine lKn 35 rfl h15<|lKn 36 rfl h15<|z0z Zx rfl rfl (faB 1 rfl rfl Tryz.underlying25 rfl (by exact z2d))<|z0z Zx rfl rfl (ld 1 rfl rfl ((Foc.here).part (z0j _)) z8l rfl)<|z0z Zx rfl rfl (z37 rfl .rd rfl tu22)<|z0z Zx rfl rfl (I.gtr rfl rfl)<|Zq (pkF rfl rfl)<|Za rfl<|z1e 2 rfl fun y16=>Zn<|z0m<|Ze [] [] rfl
def zo0 (a0:z0g):Option (z0g) :=
 z1h a0.Preds >>= fun r3 =>
 some (⟨a0.Author,r3,a0.Stamp,a0.Act,a0.Sig⟩:z0g)
theorem zqy (a0:z0g):z27 Tryz.prog 67 [.rd z0c a0] [] (zo0 a0) (fun r nv=>⟨[.rd z0c r],[]⟩):=by
 refine z2n 8 Tryz.func67 rfl rfl rfl fun H w=>?_
 refine gSR<|Eb rfl (bx 1 rfl) fun v1=>Eb rfl (z7s 2 z4w (ZrE.rd (R:=z1c) (x:=0) (Zr.num rfl) (ZrE.nilS (ZrE.rd (R:=z2r) (x:=0) (Zr.num rfl) (ZrE.rd (R:=z1i) (x:=(⟨0,[],(⟨0,0,0,[]⟩:z0b)⟩:z1u)) zx2 (ZrE.rd (R:=z1q) (x:=(⟨0,0⟩:z0u)) zx9 ZrE.nil rfl) rfl) rfl)) rfl)) fun v2=>Zn<|gSR<|Zq (faB 1 rfl rfl Tryz.underlying73 rfl (by exact z2d))<|Zq (ld 1 rfl rfl ((Foc.here).part (z1l _)) z8l rfl)<|Zc [] [(100,3)] Tryz.func46 rfl (z2a _) fun r3 n4=>Zq (faB 1 rfl rfl Tryz.underlying73 rfl (by exact z2d))<|lSpl (R:=z0c) 1 rfl (Sp.via (Sp.prod (Sp.prod (Sp.prod (Sp.prod (Sp.prod Sp.unit))))))<|Es (z4e 1 rfl rfl (z18.cast (z18.next z08 (z18.here z08)) rfl) rfl z0a z00 z2d)<|Zn<|gSR<|zuy [.rd z1c a0.Author,.rd (z02 (z06 32 u8R)) r3,.rd z2r a0.Stamp,.rd z1i a0.Act,.rd z1q a0.Sig] 1 3 [.rd z1c a0.Author] [.rd z2r a0.Stamp,.rd z1i a0.Act,.rd z1q a0.Sig] rfl rfl rfl rfl rfl<|zks (R:=z0c) (⟨a0.Author,r3,a0.Stamp,a0.Act,a0.Sig⟩:z0g) 1 rfl (Sp.via (Sp.prod (Sp.prod (Sp.prod (Sp.prod (Sp.prod Sp.unit))))))<|Zq (ld 1 rfl rfl Foc.here zg5 rfl)<|znn (z06 32 u8R) [.rd z1c 0,.rd (z02 (z06 32 u8R)) [],.rd z2r 0,.rd z1i (⟨0,[],(⟨0,0,0,[]⟩:z0b)⟩:z1u),.rd z1q (⟨0,0⟩:z0u)] 2 [.rd z1c 0] [.rd z2r 0,.rd z1i (⟨0,[],(⟨0,0,0,[]⟩:z0b)⟩:z1u),.rd z1q (⟨0,0⟩:z0u)] rfl rfl rfl<|zks (R:=z0c) (⟨0,[],0,(⟨0,[],(⟨0,0,0,[]⟩:z0b)⟩:z1u),(⟨0,0⟩:z0u)⟩:z0g) 2 rfl (Sp.via (Sp.prod (Sp.prod (Sp.prod (Sp.prod (Sp.prod Sp.unit))))))<|Es (sto 2 rfl rfl Foc.here rfl z4w)<|Zn<|z0m<|zge [] [] rfl (eC 2 rfl rfl zg5<|eN) (rN)
def znw (a0:z01) (a1:Vector UInt8 32):Option (z0g × Int) :=
 z3v a0 >>= fun r4 =>
 if r4 != 0 then
  some ((⟨0,[],0,(⟨0,[],(⟨0,0,0,[]⟩:z0b)⟩:z1u),(⟨0,0⟩:z0u)⟩:z0g),r4)
 else
  ziz a0 a1 >>= fun r7 =>
  if !r7.2 then
   some ((⟨0,[],0,(⟨0,[],(⟨0,0,0,[]⟩:z0b)⟩:z1u),(⟨0,0⟩:z0u)⟩:z0g),6)
  else
   idx a0.Ops r7.1 >>= fun x10 =>
   zo0 x10 >>= fun r12 =>
   some (r12,0)
theorem zt6 (a0:z01) (a1:Vector UInt8 32):z27 Tryz.prog 88 [.rd z03 a0,.rd (z06 32 u8R) a1] [zG1] (znw a0 a1) (fun r nv=>⟨[.rd z0c r.1,.rd z0k r.2],[(1001,some (.bool true,.glob 1 (z06 64 z1c) z8f))]⟩):=by
 refine z2n 30 Tryz.func88 rfl rfl rfl fun H w=>?_
 refine gSR<|Eb rfl (bx 1 rfl) fun v1=>Eb rfl (bx 2 rfl) fun v2=>Eb rfl (z7s 3 z4w (ZrE.rd (R:=z1c) (x:=0) (Zr.num rfl) (ZrE.nilS (ZrE.rd (R:=z2r) (x:=0) (Zr.num rfl) (ZrE.rd (R:=z1i) (x:=(⟨0,[],(⟨0,0,0,[]⟩:z0b)⟩:z1u)) zx2 (ZrE.rd (R:=z1q) (x:=(⟨0,0⟩:z0u)) zx9 ZrE.nil rfl) rfl) rfl)) rfl)) fun v3=>Za rfl<|Zn<|z0w<|gSR<|Zq (ld 1 rfl rfl Foc.here z99 rfl)<|Zc [1001] [] Tryz.func74 rfl (ze1 _) fun r4 n5=>Za rfl<|Zn<|gSR<|Zm rfl<|Zq (I.neq rfl rfl)<|Zn<|gIf rfl rfl (fun h6=>?_) (fun h6=>?_)
 ·
  refine gSR<|Zq (zsp [(0,1),(1,1),(2,1),(3,6),(9,2)] Tryz.underlying73 z4w (ZrE.rd (R:=z1c) (x:=0) (Zr.num rfl) (ZrE.nilS (ZrE.rd (R:=z2r) (x:=0) (Zr.num rfl) (ZrE.rd (R:=z1i) (x:=(⟨0,[],(⟨0,0,0,[]⟩:z0b)⟩:z1u)) zx2 (ZrE.rd (R:=z1q) (x:=(⟨0,0⟩:z0u)) zx9 ZrE.nil rfl) rfl) rfl)) rfl) rfl (zef.done rfl))<|Zm rfl<|Es (zsq 3 rfl rfl (z0e.cast (z0e.cons z08 (z0e.cons z00 (z0e.cons z08 (z0e.cons z08 (z0e.cons z08 z0e.nil))))) rfl) rfl (z3l.cons z2g (z3l.cons z0a (z3l.cons z2g (z3l.cons z2g (z3l.cons z2g z3l.nil))))) (z0e.cast (z0e.cons z08 (z0e.cons z00 (z0e.cons z08 (z0e.cons z08 (z0e.cons z08 z0e.nil))))) rfl) z4w)<|Za rfl<|Zn<|z0m<|z12<|ePnl (z06 32 u8R) [.rd z1c 0,.rd (z02 (z06 32 u8R)) [],.rd z2r 0,.rd z1i (⟨0,[],(⟨0,0,0,[]⟩:z0b)⟩:z1u),.rd z1q (⟨0,0⟩:z0u)] 3 [.rd z1c 0] [.rd z2r 0,.rd z1i (⟨0,[],(⟨0,0,0,[]⟩:z0b)⟩:z1u),.rd z1q (⟨0,0⟩:z0u)] rfl rfl rfl<|eJoi (R:=z0c) (⟨0,[],0,(⟨0,[],(⟨0,0,0,[]⟩:z0b)⟩:z1u),(⟨0,0⟩:z0u)⟩:z0g) 3 rfl (Sp.via (Sp.prod (Sp.prod (Sp.prod (Sp.prod (Sp.prod Sp.unit))))))<|zge [] [1001] rfl (eC 3 rfl rfl zg5<|eE rfl<|eN) (y1 rfl)
 ·
  refine Zt<|gSR<|Zq (ld 1 rfl rfl Foc.here z99 rfl)<|Zq (ld 2 rfl rfl Foc.here z49 rfl)<|Zc [] [] Tryz.func65 rfl (zlx _ _) fun r7 n8=>Zm rfl<|Zq (ext rfl rfl)<|Zq (ext rfl rfl)<|Za rfl<|Za rfl<|Zn<|z0w<|gSR<|Zm rfl<|Zq (zcy rfl)<|Zn<|gIf rfl rfl (fun h9=>?_) (fun h9=>?_)
  ·
   refine gSR<|Zq (zsp [(0,1),(1,1),(2,1),(3,6),(9,2)] Tryz.underlying73 z4w (ZrE.rd (R:=z1c) (x:=0) (Zr.num rfl) (ZrE.nilS (ZrE.rd (R:=z2r) (x:=0) (Zr.num rfl) (ZrE.rd (R:=z1i) (x:=(⟨0,[],(⟨0,0,0,[]⟩:z0b)⟩:z1u)) zx2 (ZrE.rd (R:=z1q) (x:=(⟨0,0⟩:z0u)) zx9 ZrE.nil rfl) rfl) rfl)) rfl) rfl (zef.done rfl))<|Es (zsq 3 rfl rfl (z0e.cast (z0e.cons z08 (z0e.cons z00 (z0e.cons z08 (z0e.cons z08 (z0e.cons z08 z0e.nil))))) rfl) rfl (z3l.cons z2g (z3l.cons z0a (z3l.cons z2g (z3l.cons z2g (z3l.cons z2g z3l.nil))))) (z0e.cast (z0e.cons z08 (z0e.cons z00 (z0e.cons z08 (z0e.cons z08 (z0e.cons z08 z0e.nil))))) rfl) z4w)<|Za rfl<|Zn<|z0m<|z12<|ePnl (z06 32 u8R) [.rd z1c 0,.rd (z02 (z06 32 u8R)) [],.rd z2r 0,.rd z1i (⟨0,[],(⟨0,0,0,[]⟩:z0b)⟩:z1u),.rd z1q (⟨0,0⟩:z0u)] 3 [.rd z1c 0] [.rd z2r 0,.rd z1i (⟨0,[],(⟨0,0,0,[]⟩:z0b)⟩:z1u),.rd z1q (⟨0,0⟩:z0u)] rfl rfl rfl<|eJoi (R:=z0c) (⟨0,[],0,(⟨0,[],(⟨0,0,0,[]⟩:z0b)⟩:z1u),(⟨0,0⟩:z0u)⟩:z0g) 3 rfl (Sp.via (Sp.prod (Sp.prod (Sp.prod (Sp.prod (Sp.prod Sp.unit))))))<|zge [] [1001] rfl (eC 3 rfl rfl zg5<|eE rfl<|eN) (y1 rfl)
  ·
   refine Zt<|gSR<|Zq (faB 1 rfl rfl Tryz.underlying25 rfl (by exact z40))<|Zq (ld 1 rfl rfl ((Foc.here).part (z0f _)) zg6 rfl)<|Zm rfl<|z0s fun x10 h11=>Zq (ixR rfl rfl h11 tu23 z4w rfl)<|Zq (ldR rfl zg5)<|Zc [] [] Tryz.func67 rfl (zqy _) fun r12 n13=>znn (z06 32 u8R) [.rd z1c 0,.rd (z02 (z06 32 u8R)) [],.rd z2r 0,.rd z1i (⟨0,[],(⟨0,0,0,[]⟩:z0b)⟩:z1u),.rd z1q (⟨0,0⟩:z0u)] 3 [.rd z1c 0] [.rd z2r 0,.rd z1i (⟨0,[],(⟨0,0,0,[]⟩:z0b)⟩:z1u),.rd z1q (⟨0,0⟩:z0u)] rfl rfl rfl<|zks (R:=z0c) (⟨0,[],0,(⟨0,[],(⟨0,0,0,[]⟩:z0b)⟩:z1u),(⟨0,0⟩:z0u)⟩:z0g) 3 rfl (Sp.via (Sp.prod (Sp.prod (Sp.prod (Sp.prod (Sp.prod Sp.unit))))))<|Es (sto 3 rfl rfl Foc.here rfl z4w)<|Za rfl<|Zn<|z0m<|zge [] [1001] rfl (eC 3 rfl rfl zg5<|eE rfl<|eN) (y1 rfl)
end
section
open Go Go.Shelf
def zw4:Go.Shelf.Ren:=⟨fun | 6=>78 | 15=>117 | 14=>116 | 28=>163 | 29=>146 | 20=>155 | 21=>156 | 22=>157 | 23=>158 | 24=>159 | 25=>160 | 26=>161 | 27=>162 | 46=>196 | 47=>197 | 48=>198 | 49=>199 | 50=>200 | 57=>221 | n=>n, fun | 22=>22 | 24=>62 | 25=>115 | 3=>3 | 39=>150 | 0=>0 | 53=>65 | 55=>41 | 4=>4 | 46=>181 | 45=>180 | 50=>103 | 5=>5 | 9=>9 | 66=>209 | 70=>213 | 76=>235 | 77=>236 | n=>n, fun | n=>n⟩
theorem zyz:Go.Proofs.SlLaysF0.n6 Tryz.prog zw4:={
 mixed:=by kernel_rfl
 f6:=⟨Tryz.f78.name, by decide,Tryz.func78.trans (congrArg some (by kernel_rfl))⟩
 f14:=⟨Tryz.f116.name, by decide,Tryz.func116.trans (congrArg some (by kernel_rfl))⟩
 f15:=Tryz.func117.trans (congrArg some (by kernel_rfl))
 f20:=⟨Tryz.f155.name, by decide,Tryz.func155.trans (congrArg some (by kernel_rfl))⟩
 f21:=⟨Tryz.f156.name, by decide,Tryz.func156.trans (congrArg some (by kernel_rfl))⟩
 f22:=⟨Tryz.f157.name, by decide,Tryz.func157.trans (congrArg some (by kernel_rfl))⟩
 f23:=⟨Tryz.f158.name, by decide,Tryz.func158.trans (congrArg some (by kernel_rfl))⟩
 f24:=⟨Tryz.f159.name, by decide,Tryz.func159.trans (congrArg some (by kernel_rfl))⟩
 f25:=⟨Tryz.f160.name, by decide,Tryz.func160.trans (congrArg some (by kernel_rfl))⟩
 f26:=⟨Tryz.f161.name, by decide,Tryz.func161.trans (congrArg some (by kernel_rfl))⟩
 f27:=⟨Tryz.f162.name, by decide,Tryz.func162.trans (congrArg some (by kernel_rfl))⟩
 f28:=Tryz.func163.trans (congrArg some (by kernel_rfl))
 f29:=Tryz.func146.trans (congrArg some (by kernel_rfl))
 f46:=⟨Tryz.f196.name, by decide,Tryz.func196.trans (congrArg some (by kernel_rfl))⟩
 f47:=Tryz.func197.trans (congrArg some (by kernel_rfl))
 f48:=Tryz.func198.trans (congrArg some (by kernel_rfl))
 f49:=⟨Tryz.f199.name, by decide,Tryz.func199.trans (congrArg some (by kernel_rfl))⟩
 f50:=⟨Tryz.f200.name, by decide,Tryz.func200.trans (congrArg some (by kernel_rfl))⟩
 f57:=⟨Tryz.f221.name, by decide,Tryz.func221.trans (congrArg some (by kernel_rfl))⟩
 t0:=Tryz.underlying0
 a0:=Tryz.isAgg0
 z0:=Tryz.sizeOf0
 v0:=Tryz.zeroValue0
 t3:=Tryz.underlying3
 a3:=Tryz.isAgg3
 z3:=Tryz.sizeOf3
 v3:=Tryz.zeroValue3
 t4:=Tryz.underlying4
 a4:=Tryz.isAgg4
 z4:=Tryz.sizeOf4
 v4:=Tryz.zeroValue4
 t5:=Tryz.underlying5
 a5:=Tryz.isAgg5
 z5:=Tryz.sizeOf5
 v5:=Tryz.zeroValue5
 t9:=Tryz.underlying9
 a9:=Tryz.isAgg9
 z9:=Tryz.sizeOf9
 v9:=Tryz.zeroValue9
 t22:=Tryz.underlying22
 a22:=Tryz.isAgg22
 z22:=Tryz.sizeOf22
 v22:=Tryz.zeroValue22
 t25:=Tryz.underlying115
 a25:=Tryz.isAgg115
 z25:=Tryz.sizeOf115
 v25:=Tryz.zeroValue115
 t39:=Tryz.underlying150
 a39:=Tryz.isAgg150
 z39:=Tryz.sizeOf150
 v39:=Tryz.zeroValue150
 t45:=Tryz.underlying180
 a45:=Tryz.isAgg180
 z45:=Tryz.sizeOf180
 v45:=Tryz.zeroValue180
 t46:=Tryz.underlying181
 a46:=Tryz.isAgg181
 z46:=Tryz.sizeOf181
 v46:=Tryz.zeroValue181
 t50:=Tryz.underlying103
 a50:=Tryz.isAgg103
 z50:=Tryz.sizeOf103
 v50:=Tryz.zeroValue103
 t53:=Tryz.underlying65
 a53:=Tryz.isAgg65
 z53:=Tryz.sizeOf65
 v53:=Tryz.zeroValue65
 t55:=Tryz.underlying41
 a55:=Tryz.isAgg41
 z55:=Tryz.sizeOf41
 v55:=Tryz.zeroValue41
 t66:=Tryz.underlying209
 a66:=Tryz.isAgg209
 z66:=Tryz.sizeOf209
 v66:=Tryz.zeroValue209
 t70:=Tryz.underlying213
 a70:=Tryz.isAgg213
 z70:=Tryz.sizeOf213
 v70:=Tryz.zeroValue213
 t76:=Tryz.underlying235
 a76:=Tryz.isAgg235
 z76:=Tryz.sizeOf235
 v76:=Tryz.zeroValue235
 t77:=Tryz.underlying236
 a77:=Tryz.isAgg236
 z77:=Tryz.sizeOf236
 v77:=Tryz.zeroValue236 }
end
section
open Go Go.Shelf Go.RowKit Go.Lib Go.Sort
def z8p (x:Vector UInt8 32):List Value:=x.toList.map fun c=>Value.int .u8 (c.toNat:Int)
theorem zev (x:Vector UInt8 32):(z8p x).length=32:=by simp [z8p]
theorem zxx (x y:Vector UInt8 32) (b c:Nat) (W:World) (hx:∀ j u,(z8p x)[j]? = some u→W.cell? ⟨b,0+j,none⟩=some u) (hy:∀ j u,(z8p y)[j]? = some u→W.cell? ⟨c,0+j,none⟩=some u) :
  (callFunc 164 #[.slice (some ⟨b,0,none⟩) 32 32,.slice (some ⟨c,0,none⟩) 32 32]).run Tryz.prog W=.ok (.value (.int .i64 (Lib.compareBytes x.toList y.toList))) W:=by
 have lx:x.toList.length=32:=by simp
 have ly:y.toList.length=32:=by simp
 have e:=zku (P:=Tryz.prog) (w:=W) (p:=some ⟨b,0,none⟩) (q:=some ⟨c,0,none⟩) (c:=32) (d:=32) (x:=x.toList) (y:=y.toList) (xs:=z8p x) (ys:=z8p y)
  ⟨by rw [zev,lx],.inr ⟨b,0,none,32, by rfl, by omega, by decide,.inr rfl,hx⟩⟩ rfl ⟨by rw [zev,ly],.inr ⟨c,0,none,32, by rfl, by omega, by decide,.inr rfl,hy⟩⟩ rfl
 rw [lx,ly] at e
 rw [run_callFunc_extern Tryz.func164 rfl rfl (by kernel_rfl) (by kernel_rfl),e]
 rfl
set_option maxHeartbeats 1000000 in
set_option maxRecDepth 100000 in
theorem zj4 (x y:Vector UInt8 32) (b c:Nat) (W:World) (hx:∀ j u,(z8p x)[j]? = some u→W.cell? ⟨b,0+j,none⟩=some u) (hy:∀ j u,(z8p y)[j]? = some u→W.cell? ⟨c,0+j,none⟩=some u) :
  Calls Tryz.prog 118 #[.slice (some ⟨b,0,none⟩) 32 32,.slice (some ⟨c,0,none⟩) 32 32] W fun e w'=>e=.returned (.int .i64 (Lib.compareBytes x.toList y.toList))∧w'=W:=by
 have e:=zxx x y b c W hx hy
 go_enter Tryz.func118,Tryz.ntmps118
 go_wp2
 go_ret
 exact ⟨rfl,rfl⟩
theorem zrb {w:World} {b j:Nat} {c:Array Value} {T:TypeId} {fr:Nat × Nat} {u:Value} (h:w.heap[b]? = some (.cells c T fr)) (hj:c[j]? = some u):w.cell? ⟨b,0+j,none⟩=some u:=by
 unfold World.cell?
 rw [h]
 simpa using hj
theorem zvi (W:World) (xs ys:List Value) (n j:Nat) (u:Value) (h:xs[j]? = some u):(((W.alloc (.cells xs.toArray 62)).alloc (.cells ys.toArray 62)).drewN n).cell? ⟨W.heap.size,0+j,none⟩=some u :=
 zrb (c:=xs.toArray) (T:=62) (fr:=(0,0)) (by
  show ((W.heap.push _).push _)[W.heap.size]? = _
  rw [Array.getElem?_push_lt (by simp)]; simp) (by simpa using h)
theorem zuz (W:World) (xs ys:List Value) (n j:Nat) (u:Value) (h:ys[j]? = some u):(((W.alloc (.cells xs.toArray 62)).alloc (.cells ys.toArray 62)).drewN n).cell? ⟨W.heap.size+1,0+j,none⟩=some u :=
 zrb (c:=ys.toArray) (T:=62) (fr:=(0,0)) (by
  show ((W.heap.push _).push _)[W.heap.size+1]? = _
  have:W.heap.size+1=(W.heap.push (Obj.cells xs.toArray 62)).size:=by simp
  rw [this,Array.getElem?_push_size]) (by simpa using h)
set_option maxHeartbeats 1000000 in
set_option maxRecDepth 100000 in
theorem ztd (x y:Vector UInt8 32) (W:World):Calls Tryz.prog 105 #[.agg (z8p x).toArray,.agg (z8p y).toArray] W fun e w'=>e=.returned (.int .i64 (Lib.compareBytes x.toList y.toList))∧∃ q os',w'=grow (W.drewN q) os':=by
 have c0:=zvi W (z8p x) (z8p y)
 have c1:=zuz W (z8p x) (z8p y)
 go_enter Tryz.func105,Tryz.ntmps105
 go_wp2
 go_quiet (first | (go_at_call 118; refine Calls.quiet_of_same (zj4 x y _ _ _ (c0 _) (c1 _))))
 go_wp2
 go_ret
 exact ⟨rfl,nq,#[.cells (z8p x).toArray 62,.cells (z8p y).toArray 62],rfl⟩
set_option maxHeartbeats 1000000 in
set_option maxRecDepth 100000 in
theorem zrd (x y:Vector UInt8 32) (W:World):Calls Tryz.prog 79 #[.agg (z8p x).toArray,.agg (z8p y).toArray] W fun e w'=>e=.returned (.int .i64 (Lib.compareBytes x.toList y.toList))∧∃ q os',w'=grow (W.drewN q) os':=by
 have c0:=zvi W (z8p x) (z8p y)
 have c1:=zuz W (z8p x) (z8p y)
 go_enter Tryz.func79,Tryz.ntmps79
 go_wp2
 go_quiet (first | (go_at_call 118; refine Calls.quiet_of_same (zj4 x y _ _ _ (c0 _) (c1 _))))
 go_wp2
 go_ret
 exact ⟨rfl,nq,#[.cells (z8p x).toArray 62,.cells (z8p y).toArray 62],rfl⟩
end
end Go.Proofs.YtefkialcgmohkaaGreatDoor
