import Derived.Test.YtojceajkeefnpaaGreatDoorVb
set_option linter.unusedSimpArgs false
set_option linter.unusedVariables false
namespace Go.Proofs.YtojceajkeefnpaaGreatDoor
section
open Go Go.RowKit
set_option maxRecDepth 100000
theorem z1t (a0:UInt64):z2b Tryz.prog 104 [.rd z2c a0] [] (z1j a0) (fun r nv=>⟨[.val (nv 0)],[(100,some (nv 0,.list u8R 5 r))]⟩):=by
 refine z37 41 Tryz.func104 Z Z Z fun H w=>?_
 refine gSR<|Zb Z<|z0w<|gSR<|Zm Z<|Zq (U.leq Z Z)<|Zj Z (fun h1=>?_) (fun h1=>?_)
 ·refine gSR<|Zm Z<|Zq (U.toB Z tu35 tu5)<|Ef Z (lit (R:=u8R) ([a0.toUInt8]:List UInt8) 1 (pP Z Z<|pN) Z tu52 ti5 Z Z) fun v2=>Zb Z<|z0s<|z14<|Ze [v2] [1] Z
 ·refine Zt<|gSR<|Zb Z<|z8e (fun (s3:(List UInt8)) aa ww=>∃ nv:Nat→Value,Sta (ctx 41 H [] w) [(3,.val (nv 0))] [(3,some ((nv 0),.list u8R 5 s3))] aa ww) ?_ (fun s3=>?_)
  ·refine zql u8R 5 6<|z27 (fun (s4:UInt64 × (List UInt8)) aa ww=>∃ nv:Nat→Value,Sta (ctx 41 H [] w) [(0,.rd z2c s4.1),(3,.val (nv 0))] [(5,some ((nv 0),.list u8R 5 s4.2))] aa ww) (fun aa ww h=>⟨nvl [(.slice none 0 0)],Zu h [6]⟩) (fun s4=>?_)
   refine gEx fun n5=>z0w<|gSR<|Zm Z<|Zq (U.gtr Z Z)<|Zj Z (fun h6=>?_) (fun h6=>?_)
   ·refine Zt<|z67<|gSR<|Zm Z<|Zm Z<|Zq (U.rem Z Z (by decide))<|Zq (U.toB Z tu35 tu5)<|Ef Z (lit (R:=u8R) ([(s4.1 % 256).toUInt8]:List UInt8) 7 (pP Z Z<|pN) Z tu52 ti5 Z Z) fun v7=>z0o fun x8 h9=>Ef Z (apn 5 Z Z Z (.own 7 Z) h9 tu52 ti5 Z Z Z) fun v10=>Zb Z<|z2d<|Zm Z<|Zq (U.quo Z Z (by decide))<|Za Z<|z21<|z3o<|z1x (fun aa ww h=>⟨nvl [v10],Zu h [5]⟩)
   ·refine z28<|z16<|z15<|z4g (fun aa ww h=>⟨nvl [(n5 0)],Zu h [5]⟩)
  ·refine gEx fun n11=>gSR<|Zm Z<|Zq (z5m Z (.own 3 Z) Z tu52)<|Zq (I.add Z Z)<|Zq (I.toB Z tu3 tu5)<|Ef Z (lit (R:=u8R) ([UInt8.ofInt (w64 (247+(s3.length:Int)))]:List UInt8) 8 (pP Z Z<|pN) Z tu52 ti5 Z Z) fun v12=>Zb Z<|z8e (fun (s13:(List UInt8)) aa ww=>∃ nv:Nat→Value,Sta (ctx 41 H [] w) [(4,.val (nv 0))] [(8,some ((nv 0),.list u8R 5 s13))] aa ww) ?_ (fun s13=>?_)
   ·refine gSR<|Zm Z<|Zq (z5m Z (.own 3 Z) Z tu52)<|Zq (I.sub Z Z)<|Za Z<|z1u 5 Z fun y14=>Zn<|z27 (fun (s15:(List UInt8) × Int) aa ww=>∃ nv:Nat→Value,Sta (ctx 41 H [] w) [(3,.val (n11 0)),(4,.val (nv 0)),(5,.rd z0j s15.2)] [(3,some ((n11 0),.list u8R 5 s3)),(8,some ((nv 0),.list u8R 5 s15.1))] aa ww) (fun aa ww h=>⟨nvl [v12],Zu h [3,8]⟩) (fun s15=>?_)
    refine gEx fun n16=>z0w<|gSR<|Zm Z<|Zq (I.geq Z Z)<|Zj Z (fun h17=>?_) (fun h17=>?_)
    ·refine Zt<|z0w<|z67<|z2d<|Zm Z<|Zm Z<|Zm Z<|z0o fun x18 h19=>Zq (ixO 3 Z Z Z h19 tu52 ti5)<|Zq (ld 3 Z Z (Foc.el h19) ty5 Z)<|Ef Z (lit (R:=u8R) ([x18]:List UInt8) 9 (pP Z Z<|pN) Z tu52 ti5 Z Z) fun v20=>z0o fun x21 h22=>Ef Z (apn 8 Z Z Z (.own 9 Z) h22 tu52 ti5 Z Z Z) fun v23=>Za Z<|z21<|z3o<|z0t<|z2d<|Zm Z<|Zq (I.sub Z Z)<|Za Z<|z1u 5 Z fun y24=>z21<|z1x (fun aa ww h=>⟨nvl [v23],Zu h [3,8]⟩)
    ·refine z28<|z16<|z15<|z4g (fun aa ww h=>⟨nvl [(n16 0)],Zu h [8]⟩)
   ·refine gEx fun n25=>gSR<|Zm Z<|Zb Z<|z0s<|Ze [(n25 0)] [8] Z
def z4m (a0:List V3) (s4:(List UInt8) × Int):Option (Sum ((List UInt8)) ((List UInt8) × Int)) :=
 if decide (s4.2<(a0.length:Int)) then
  idx a0 s4.2 >>= fun x7 =>
  app 1 s4.1 x7.toList >>= fun x9 =>
  some (w64 (s4.2+1)) >>= fun y12 =>
  some (.inr (x9,y12))
 else
  some (.inl s4.1)
def z7t (a0:List V3):Option ((List UInt8)) :=
 z1j (UInt64.ofInt (a0.length:Int)) >>= fun r1 =>
 (iter (z4m a0) (r1,0)) >>= fun s3 =>
 some s3
theorem zdd (a0:List V3):z2b Tryz.prog 144 [.rd (z03 aZ) a0] [] (z7t a0) (fun r nv=>⟨[.val (nv 0)],[(100,some (nv 0,.list u8R 5 r))]⟩):=by
 refine z37 22 Tryz.func144 Z Z Z fun H w=>?_
 refine gSR<|Zb Z<|gSR<|Zm Z<|Zq (z5m Z .rd Z tu29)<|Zq (I.toU Z tu3 tu35)<|Zc [] [(100,1)] Tryz.func104 Z (z1t _) fun r1 n2=>Zb Z<|z8e (fun (s3:(List UInt8)) aa ww=>∃ nv:Nat→Value,Sta (ctx 22 H [] w) [(3,.val (nv 0))] [(1,some ((nv 0),.list u8R 5 s3))] aa ww) ?_ (fun s3=>?_)
 ·refine gSR<|Zb Z<|z27 (fun (s4:(List UInt8) × Int) aa ww=>∃ nv:Nat→Value,Sta (ctx 22 H [] w) [(0,.rd (z03 aZ) a0),(3,.val (nv 0)),(4,.rd z0j s4.2)] [(1,some ((nv 0),.list u8R 5 s4.1))] aa ww) (fun aa ww h=>⟨nvl [(n2 0)],Zu h [1]⟩) (fun s4=>?_)
  refine gEx fun n5=>z0w<|gSR<|Zm Z<|Zm Z<|Zq (z5m Z .rd Z tu29)<|Zq (I.lss Z Z)<|Zj Z (fun h6=>?_) (fun h6=>?_)
  ·refine Zt<|z0w<|z67<|z2d<|Zm Z<|Zm Z<|Zm Z<|z0o fun x7 h8=>Zq (ixR Z Z h8 tu29 z5n Z)<|Zq (zur Z tu45 ti5 Z Z Z)<|z0o fun x9 h10=>Ef Z (apn 1 Z Z Z .rd h10 tu52 ti5 Z Z Z) fun v11=>Za Z<|z21<|z3o<|z0t<|z2d<|Zm Z<|Zq (I.add Z Z)<|Za Z<|z1u 4 Z fun y12=>z21<|z1x (fun aa ww h=>⟨nvl [v11],Zu h [1]⟩)
  ·refine z28<|z16<|z15<|z4g (fun aa ww h=>⟨nvl [(n5 0)],Zu h [1]⟩)
 ·refine gEx fun n13=>gSR<|Zm Z<|Zb Z<|z0s<|Ze [(n13 0)] [1] Z
def z59 (a0:List UInt8):Option ((List UInt8)) :=
 z1j (UInt64.ofInt (a0.length:Int)) >>= fun r1 =>
 app 1 r1 a0 >>= fun x3 =>
 some x3
theorem z9h (a0:List UInt8):z2b Tryz.prog 109 [.rd (z03 u8R) a0] [] (z59 a0) (fun r nv=>⟨[.val (nv 0)],[(100,some (nv 0,.list u8R 5 r))]⟩):=by
 refine z37 9 Tryz.func109 Z Z Z fun H w=>?_
 refine gSR<|Zb Z<|gSR<|Zm Z<|Zq (z5m Z .rd Z tu52)<|Zq (I.toU Z tu3 tu35)<|Zc [] [(100,1)] Tryz.func104 Z (z1t _) fun r1 n2=>Zm Z<|z0o fun x3 h4=>Ef Z (apn 1 Z Z Z .rd h4 tu52 ti5 Z Z Z) fun v5=>Zb Z<|z0s<|Ze [v5] [1] Z
def z6q (a0:Int):Option ((List UInt8)) :=
 if decide (0≤a0) then
  z1j (2 * (UInt64.ofInt a0)) >>= fun r2 =>
  some r2
 else
  z1j ((2 * (UInt64.ofInt (w64 (0 - (w64 (a0+1))))))+1) >>= fun r4 =>
  some r4
theorem zbp (a0:Int):z2b Tryz.prog 188 [.rd z0j a0] [] (z6q a0) (fun r nv=>⟨[.val (nv 0)],[(100,some (nv 0,.list u8R 5 r))]⟩):=by
 refine z37 16 Tryz.func188 Z Z Z fun H w=>?_
 refine gSR<|Zb Z<|z0w<|gSR<|Zm Z<|Zq (I.geq Z Z)<|Zj Z (fun h1=>?_) (fun h1=>?_)
 ·refine gSR<|Zm Z<|Zq (I.toU Z Tryz.underlying2 tu35)<|Zq (U.mul Z Z)<|Zc [] [(100,1)] Tryz.func104 Z (z1t _) fun r2 n3=>Zb Z<|z0s<|z14<|Ze [(n3 0)] [1] Z
 ·refine Zt<|gSR<|Zm Z<|Zq (I.add Z Z)<|Zq (I.neg Z)<|Zq (I.toU Z Tryz.underlying2 tu35)<|Zq (U.mul Z Z)<|Zq (U.add Z Z)<|Zc [] [(100,2)] Tryz.func104 Z (z1t _) fun r4 n5=>Zb Z<|z0s<|Ze [(n5 0)] [2] Z
def z3w (a0:z00) (s11:(List UInt8) × Int):Option (Sum ((List UInt8)) ((List UInt8) × Int)) :=
 if decide (0≤s11.2) then
  chk (0≤w64 (8 * s11.2)) >>= fun u14 =>
  app 1 s11.1 [(z5p a0.Bits ((w64 (8 * s11.2):Int).toNat)).toUInt8] >>= fun x17 =>
  some (w64 (s11.2 - 1)) >>= fun y20 =>
  some (.inr (x17,y20))
 else
  some (.inl s11.1)
def z7k (a0:z00):Option ((List UInt8)) :=
 if a0.Kind==1 then
  z6q a0.Num >>= fun r4 =>
  app 1 [a0.Kind] r4 >>= fun x6 =>
  some x6
 else
  if a0.Kind==2 then
   (iter (z3w a0) ([a0.Kind],7)) >>= fun s10 =>
   some s10
  else
   chk (a0.Text.length≤281474976710656) >>= fun u22 =>
   z59 a0.Text >>= fun r24 =>
   app 1 [a0.Kind] r24 >>= fun x26 =>
   some x26
theorem zcd (a0:z00):z2b Tryz.prog 145 [.rd z13 a0] [] (z7k a0) (fun r nv=>⟨[.val (nv 0)],[(100,some (nv 0,.list u8R 5 r))]⟩):=by
 refine z37 39 Tryz.func145 Z Z Z fun H w=>?_
 refine gSR<|Eb Z (bx 1 Z) fun v1=>Zb Z<|gSR<|Zq (faB 1 Z Z Tryz.underlying37 Z (by exact ti5))<|Zq (ld 1 Z Z (fP (z1r _)) ty5 Z)<|Ef Z (lit (R:=u8R) ([a0.Kind]:List UInt8) 2 (pP Z Z<|pN) Z tu52 ti5 Z Z) fun v2=>Zb Z<|z0w<|gSR<|Zq (faB 1 Z Z Tryz.underlying37 Z (by exact ti5))<|Zq (ld 1 Z Z (fP (z1r _)) ty5 Z)<|Zn<|z67<|gSR<|Zq (B.eql Z Z)<|Zb Z<|gIf Z Z (fun h3=>?_) (fun h3=>?_)
 ·refine gKn 11 Z h3<|gSR<|Zm Z<|Zq (faB 1 Z Z Tryz.underlying37 Z (by exact ti2))<|Zq (ld 1 Z Z (fP (z4f _)) ty2 Z)<|Zc [] [(100,3)] Tryz.func188 Z (zbp _) fun r4 n5=>z0o fun x6 h7=>Ef Z (apn 2 Z Z Z (.own 3 Z) h7 tu52 ti5 Z Z Z) fun v8=>Zb Z<|z0s<|z3l<|z14<|Ze [v8] [2] Z
 ·refine gKn 11 Z h3<|gSR<|Zq (B.eql Z Z)<|Zb Z<|gIf Z Z (fun h9=>?_) (fun h9=>?_)
  ·refine gKn 18 Z h9<|z8e (fun (s10:(List UInt8)) aa ww=>∃ nv:Nat→Value,Sta (ctx 39 H [] w) [(3,.val (nv 0))] [(2,some ((nv 0),.list u8R 5 s10))] aa ww) ?_ (fun s10=>?_)
   ·refine gSR<|Zb Z<|z27 (fun (s11:(List UInt8) × Int) aa ww=>∃ nv:Nat→Value,Sta (ctx 39 H [] w) [(1,.val (z0f v1 0)),(3,.val (nv 0)),(4,.rd z0j s11.2)] [(1,some (v1,.box 37 [.rd z13 a0])),(2,some ((nv 0),.list u8R 5 s11.1))] aa ww) (fun aa ww h=>⟨nvl [v2],Zu h [1,2]⟩) (fun s11=>?_)
    refine gEx fun n12=>z0w<|gSR<|Zm Z<|Zq (I.geq Z Z)<|Zj Z (fun h13=>?_) (fun h13=>?_)
    ·refine Zt<|z0w<|z67<|z2d<|Zm Z<|Zq (faB 1 Z Z Tryz.underlying37 Z (by exact zo3))<|Zq (ld 1 Z Z (fP (z2e _)) zn1 Z)<|Zm Z<|Zq (I.mul Z Z)<|z0o fun u14 h15=>Zq (U.shr Z Z (z54 h15))<|Zq (U.toB Z tu35 tu5)<|Ef Z (lit (R:=u8R) ([(z5p a0.Bits ((w64 (8 * s11.2):Int).toNat)).toUInt8]:List UInt8) 4 (pP Z Z<|pN) Z tu52 ti5 Z Z) fun v16=>z0o fun x17 h18=>Ef Z (apn 2 Z Z Z (.own 4 Z) h18 tu52 ti5 Z Z Z) fun v19=>Za Z<|z21<|z3o<|z0t<|z2d<|Zm Z<|Zq (I.sub Z Z)<|Za Z<|z1u 4 Z fun y20=>z21<|z1x (fun aa ww h=>⟨nvl [v19],Zu h [1,2]⟩)
    ·refine z28<|z16<|z15<|z4g (fun aa ww h=>⟨nvl [(n12 0)],Zu h [2]⟩)
   ·refine gEx fun n21=>gSR<|Zm Z<|Zb Z<|z0s<|z3l<|z14<|Ze [(n21 0)] [2] Z
  ·refine gKn 18 Z h9<|z31<|z3o<|z0t<|gSR<|Zm Z<|Zq (faB 1 Z Z Tryz.underlying37 Z (by exact ti9))<|Zq (ld 1 Z Z (fP (z24 _)) ty9 Z)<|z0o fun u22 h23=>zqr Z Z h23 tu9 tu52 tu5<|Zc [] [(100,5)] Tryz.func109 Z (z9h _) fun r24 n25=>z0o fun x26 h27=>Ef Z (apn 2 Z Z Z (.own 5 Z) h27 tu52 ti5 Z Z Z) fun v28=>Zb Z<|z0s<|Ze [v28] [2] Z
def z7x (a0:z01):Option ((List UInt8)) :=
 z1j a0.Author.toUInt64 >>= fun r3 =>
 app 1 [111] r3 >>= fun x5 =>
 z7t a0.Preds >>= fun r8 =>
 app 1 x5 r8 >>= fun x10 =>
 z1j a0.Stamp >>= fun r13 =>
 app 1 x10 r13 >>= fun x15 =>
 app 1 x15 [a0.Act.Kind] >>= fun x19 =>
 (if a0.Act.Kind != 1 then
  chk (a0.Act.Key.length≤281474976710656) >>= fun u24 =>
  z59 a0.Act.Key >>= fun r26 =>
  app 1 x19 r26 >>= fun x28 =>
  some x28
 else
  some x19) >>= fun s22 =>
 if a0.Act.Kind==4 then
  z7k a0.Act.Value >>= fun r33 =>
  app 1 s22 r33 >>= fun x35 =>
  some x35
 else
  some s22
theorem zd1 (a0:z01):z2b Tryz.prog 103 [.rd z04 a0] [] (z7x a0) (fun r nv=>⟨[.val (nv 0)],[(100,some (nv 0,.list u8R 5 r))]⟩):=by
 refine z37 47 Tryz.func103 Z Z Z fun H w=>?_
 refine gSR<|Eb Z (bx 1 Z) fun v1=>Zb Z<|gSR<|Ef Z (lit (R:=u8R) ([111]:List UInt8) 2 (pP Z Z<|pN) Z tu52 ti5 Z Z) fun v2=>Zq (faB 1 Z Z Tryz.underlying43 Z (by exact z6e))<|Zq (ld 1 Z Z (fP (z7a _)) z8l Z)<|Zq (W.toU Z tu34 tu35)<|Zc [] [(100,3)] Tryz.func104 Z (z1t _) fun r3 n4=>z0o fun x5 h6=>Ef Z (apn 2 Z Z Z (.own 3 Z) h6 tu52 ti5 Z Z Z) fun v7=>Zb Z<|z0w<|z9c [2,13,25] mixed Z Z<|hTk 0 Z Z (mv Z)<|hTk 1 Z Z (faB 1 Z Z Tryz.underlying43 Z (by exact zdp))<|hTk 2 Z Z (ld 1 Z Z (fP (z0q _)) zee Z)<|hTk 5 Z Z (faB 1 Z Z Tryz.underlying43 Z (by exact zo3))<|hTk 6 Z Z (ld 1 Z Z (fP (z7s _)) zn1 Z)<|z5e 3 [] [(100,13)] Z (by kernel_rfl) Z (gd0 Z) Z Tryz.func144 Z Z (zdd _) (Y1 Z) rN Z (fun _ _=>z2z) fun r8 n9=>z5i fun x10 h11=>Zo 4 Z Z Z (apn 2 Z Z Z (.own 13 Z) h11 tu52 ti5 Z Z Z) fun v12=>z5e 7 [] [(100,25)] Z (by kernel_rfl) Z (gd0 Z) Z Tryz.func104 Z Z (z1t _) (Y1 Z) rN Z (fun _ _=>z2z) fun r13 n14=>z5i fun x15 h16=>Zo 8 Z Z Z (apn 2 Z Z Z (.own 25 Z) h16 tu52 ti5 Z Z Z) fun v17=>Zf 9 Z Z z2z (asg Z)<|z6z (by kernel_rfl)<|z0t<|gSR<|Zm Z<|Zq (faB 1 Z Z Tryz.underlying43 Z (by exact zi9))<|Zq (faB 1 Z Z Tryz.underlying39 Z (by exact ti5))<|Zq (ld 1 Z Z ((fP (z1v _)).part (z29 _)) ty5 Z)<|Ef Z (lit (R:=u8R) ([a0.Act.Kind]:List UInt8) 37 (pP Z Z<|pN) Z tu52 ti5 Z Z) fun v18=>z0o fun x19 h20=>Ef Z (apn 2 Z Z Z (.own 37 Z) h20 tu52 ti5 Z Z Z) fun v21=>Zb Z<|z8e (fun (s22:(List UInt8)) aa ww=>∃ nv:Nat→Value,Sta (ctx 47 H [] w) [(1,.val (z0f v1 0)),(3,.val (nv 0))] [(1,some (v1,.box 43 [.rd z04 a0])),(2,some ((nv 0),.list u8R 5 s22))] aa ww) ?_ (fun s22=>?_)
 ·refine gSR<|Zq (faB 1 Z Z Tryz.underlying43 Z (by exact zi9))<|Zq (faB 1 Z Z Tryz.underlying39 Z (by exact ti5))<|Zq (ld 1 Z Z ((fP (z1v _)).part (z29 _)) ty5 Z)<|Zq (B.neq Z Z)<|Zj Z (fun h23=>?_) (fun h23=>?_)
  ·refine z2d<|Zm Z<|Zq (faB 1 Z Z Tryz.underlying43 Z (by exact zi9))<|Zq (faB 1 Z Z Tryz.underlying39 Z (by exact ti9))<|Zq (ld 1 Z Z ((fP (z1v _)).part (z2y _)) ty9 Z)<|z0o fun u24 h25=>zqr Z Z h25 tu9 tu52 tu5<|Zc [] [(100,38)] Tryz.func109 Z (z9h _) fun r26 n27=>z0o fun x28 h29=>Ef Z (apn 2 Z Z Z (.own 38 Z) h29 tu52 ti5 Z Z Z) fun v30=>Za Z<|z21<|z4g (fun aa ww h=>⟨nvl [v30],Zu h [1,2]⟩)
  ·refine z31<|z4g (fun aa ww h=>⟨nvl [v21],Zu h [1,2]⟩)
 ·refine gEx fun n31=>z0w<|gSR<|Zq (faB 1 Z Z Tryz.underlying43 Z (by exact zi9))<|Zq (faB 1 Z Z Tryz.underlying39 Z (by exact ti5))<|Zq (ld 1 Z Z ((fP (z1v _)).part (z29 _)) ty5 Z)<|Zq (B.eql Z Z)<|Zj Z (fun h32=>?_) (fun h32=>?_)
  ·refine z2d<|Zm Z<|Zq (faB 1 Z Z Tryz.underlying43 Z (by exact zi9))<|Zq (faB 1 Z Z Tryz.underlying39 Z (by exact zdr))<|Zq (ld 1 Z Z ((fP (z1v _)).part (z3c _)) zk9 Z)<|Zc [] [(100,39)] Tryz.func145 Z (zcd _) fun r33 n34=>z0o fun x35 h36=>Ef Z (apn 2 Z Z Z (.own 39 Z) h36 tu52 ti5 Z Z Z) fun v37=>Zb Z<|gSR<|Zm Z<|Zb Z<|z0s<|Ze [v37] [2] Z
  ·refine Zt<|gSR<|Zm Z<|Zb Z<|z0s<|Ze [(n31 0)] [2] Z
def z7i (a0:z01):Option ((List UInt8)) :=
 z7x a0 >>= fun r2 =>
 z1j a0.Sig.E.toUInt64 >>= fun r4 =>
 app 1 r2 r4 >>= fun x6 =>
 z1j a0.Sig.S.toUInt64 >>= fun r9 =>
 app 1 x6 r9 >>= fun x11 =>
 some x11
theorem zc0 (a0:z01):z2b Tryz.prog 54 [.rd z04 a0] [] (z7i a0) (fun r nv=>⟨[.val (nv 0)],[(100,some (nv 0,.list u8R 5 r))]⟩):=by
 refine z37 17 Tryz.func54 Z Z Z fun H w=>?_
 refine gSR<|Eb Z (bx 1 Z) fun v1=>Zb Z<|z0w<|z9c [5,20,38] mixed Z Z<|hTk 0 Z Z (ld 1 Z Z fH zdg Z)<|hTk 2 Z Z (faB 1 Z Z Tryz.underlying43 Z (by exact zn4))<|hTk 3 Z Z (faB 1 Z Z Tryz.underlying41 Z (by exact z6e))<|hTk 4 Z Z (ld 1 Z Z ((fP (z3p _)).part (z8k _)) z8l Z)<|hTk 5 Z Z (W.toU Z tu34 tu35)<|hTk 8 Z Z (faB 1 Z Z Tryz.underlying43 Z (by exact zn4))<|hTk 9 Z Z (faB 1 Z Z Tryz.underlying41 Z (by exact z6e))<|hTk 10 Z Z (ld 1 Z Z ((fP (z3p _)).part (z8f _)) z8l Z)<|hTk 11 Z Z (W.toU Z tu34 tu35)<|z5e 1 [] [(100,5)] Z (by kernel_rfl) Z (gd0 Z) Z Tryz.func103 Z Z (zd1 _) (Y1 Z) rN Z (fun _ _=>z2z) fun r2 n3=>z5e 6 [] [(100,20)] Z (by kernel_rfl) Z (gd0 Z) Z Tryz.func104 Z Z (z1t _) (Y1 Z) rN Z (fun _ _=>z2z) fun r4 n5=>z5i fun x6 h7=>Zo 7 Z Z Z (apn 5 Z Z Z (.own 20 Z) h7 tu52 ti5 Z Z Z) fun v8=>z5e 12 [] [(100,38)] Z (by kernel_rfl) Z (gd0 Z) Z Tryz.func104 Z Z (z1t _) (Y1 Z) rN Z (fun _ _=>z2z) fun r9 n10=>z5i fun x11 h12=>Zo 13 Z Z Z (apn 5 Z Z Z (.own 38 Z) h12 tu52 ti5 Z Z Z) fun v13=>Zf 14 Z Z z2z (asg Z)<|z6z (by kernel_rfl)<|z0t<|z0s<|Ze [v13] [5] Z
def z8q  : Option ((Vector UInt32 8)) :=
 some (#v[1779033703,3144134277,1013904242,2773480762,1359893119,2600822924,528734635,1541459225]:Vector UInt32 8)
theorem zc8  : z2b Tryz.prog 101 [] [] (z8q) (fun r nv=>⟨[.rd (z2g 8 z0m) r],[]⟩):=by
 refine z37 2 Tryz.func101 Z Z Z fun H w=>?_
 refine gSR<|Eb Z (z9u 1 zbq (.zr (R:=(z2g 8 z0m)) (x:=(Vector.replicate 8 0)) zi7)) fun v1=>Zn<|gSR<|Zq (zxa (R:=z0m) [1779033703,3144134277,1013904242,2773480762,1359893119,2600822924,528734635,1541459225] (#v[1779033703,3144134277,1013904242,2773480762,1359893119,2600822924,528734635,1541459225]:Vector UInt32 8) (pP Z Z<|pP Z Z<|pP Z Z<|pP Z Z<|pP Z Z<|pP Z Z<|pP Z Z<|pP Z Z<|pN) Z tu149 zbq Z z6e)<|Es (sto 1 Z Z fH Z zbq)<|Zn<|z0s<|zfk [] [] Z (eC 1 Z Z zi6<|eN) (rN)
def z4p (a0:Int) (s3:(List UInt8)):Option (Sum ((List UInt8)) ((List UInt8))) :=
 if (Int.tmod (w64 ((w64 (a0+(s3.length:Int)))+8)) 64) != 0 then
  app 1 s3 [0] >>= fun x7 =>
  some (.inr x7)
 else
  some (.inl s3)
def z4i (a0:Int) (s12:(List UInt8) × Int):Option (Sum ((List UInt8)) ((List UInt8) × Int)) :=
 if decide (0≤s12.2) then
  chk (0≤w64 (8 * s12.2)) >>= fun u15 =>
  app 1 s12.1 [(z5p (8 * (UInt64.ofInt a0)) ((w64 (8 * s12.2):Int).toNat)).toUInt8] >>= fun x18 =>
  some (w64 (s12.2 - 1)) >>= fun y21 =>
  some (.inr (x18,y21))
 else
  some (.inl s12.1)
def z80 (a0:Int):Option ((List UInt8)) :=
 (iter (z4p a0) [128]) >>= fun s2 =>
 (iter (z4i a0) (s2,7)) >>= fun s11 =>
 some s11
theorem zda (a0:Int):z2b Tryz.prog 102 [.rd z0j a0] [] (z80 a0) (fun r nv=>⟨[.val (nv 0)],[(100,some (nv 0,.list u8R 5 r))]⟩):=by
 refine z37 31 Tryz.func102 Z Z Z fun H w=>?_
 refine gSR<|Zb Z<|gSR<|Ef Z (lit (R:=u8R) ([128]:List UInt8) 1 (pP Z Z<|pN) Z tu52 ti5 Z Z) fun v1=>Zb Z<|z8e (fun (s2:(List UInt8)) aa ww=>∃ nv:Nat→Value,Sta (ctx 31 H [] w) [(0,.rd z0j a0),(3,.val (nv 0))] [(1,some ((nv 0),.list u8R 5 s2))] aa ww) ?_ (fun s2=>?_)
 ·refine z27 (fun (s3:(List UInt8)) aa ww=>∃ nv:Nat→Value,Sta (ctx 31 H [] w) [(0,.rd z0j a0),(3,.val (nv 0))] [(1,some ((nv 0),.list u8R 5 s3))] aa ww) (fun aa ww h=>⟨nvl [v1],Zu h [1]⟩) (fun s3=>?_)
  refine gEx fun n4=>z0w<|gSR<|Zm Z<|Zm Z<|Zq (z5m Z (.own 1 Z) Z tu52)<|Zq (I.add Z Z)<|Zq (I.add Z Z)<|Zq (I.rem Z Z (by decide))<|Zq (I.neq Z Z)<|Zj Z (fun h5=>?_) (fun h5=>?_)
  ·refine Zt<|z67<|z2d<|Zm Z<|Ef Z (lit (R:=u8R) ([0]:List UInt8) 2 (pP Z Z<|pN) Z tu52 ti5 Z Z) fun v6=>z0o fun x7 h8=>Ef Z (apn 1 Z Z Z (.own 2 Z) h8 tu52 ti5 Z Z Z) fun v9=>Za Z<|z21<|z3o<|z1x (fun aa ww h=>⟨nvl [v9],Zu h [1]⟩)
  ·refine z28<|z16<|z15<|z4g (fun aa ww h=>⟨nvl [(n4 0)],Zu h [1]⟩)
 ·refine gEx fun n10=>z8e (fun (s11:(List UInt8)) aa ww=>∃ nv:Nat→Value,Sta (ctx 31 H [] w) [(3,.val (nv 0))] [(1,some ((nv 0),.list u8R 5 s11))] aa ww) ?_ (fun s11=>?_)
  ·refine gSR<|Zb Z<|z27 (fun (s12:(List UInt8) × Int) aa ww=>∃ nv:Nat→Value,Sta (ctx 31 H [] w) [(0,.rd z0j a0),(3,.val (nv 0)),(4,.rd z0j s12.2)] [(1,some ((nv 0),.list u8R 5 s12.1))] aa ww) (fun aa ww h=>⟨nvl [(n10 0)],Zu h [1]⟩) (fun s12=>?_)
   refine gEx fun n13=>z0w<|gSR<|Zm Z<|Zq (I.geq Z Z)<|Zj Z (fun h14=>?_) (fun h14=>?_)
   ·refine Zt<|z0w<|z67<|z2d<|Zm Z<|Zm Z<|Zq (I.toU Z tu3 tu35)<|Zq (U.mul Z Z)<|Zm Z<|Zq (I.mul Z Z)<|z0o fun u15 h16=>Zq (U.shr Z Z (z54 h16))<|Zq (U.toB Z tu35 tu5)<|Ef Z (lit (R:=u8R) ([(z5p (8 * (UInt64.ofInt a0)) ((w64 (8 * s12.2):Int).toNat)).toUInt8]:List UInt8) 3 (pP Z Z<|pN) Z tu52 ti5 Z Z) fun v17=>z0o fun x18 h19=>Ef Z (apn 1 Z Z Z (.own 3 Z) h19 tu52 ti5 Z Z Z) fun v20=>Za Z<|z21<|z3o<|z0t<|z2d<|Zm Z<|Zq (I.sub Z Z)<|Za Z<|z1u 4 Z fun y21=>z21<|z1x (fun aa ww h=>⟨nvl [v20],Zu h [1]⟩)
   ·refine z28<|z16<|z15<|z4g (fun aa ww h=>⟨nvl [(n13 0)],Zu h [1]⟩)
  ·refine gEx fun n22=>gSR<|Zm Z<|Zb Z<|z0s<|Ze [(n22 0)] [1] Z
def z1k (a0:UInt32) (a1:Int):Option (UInt32) :=
 chk (0≤a1) >>= fun u1 =>
 chk (0≤w64 (32 - a1)) >>= fun u3 =>
 some ((z4j a0 ((a1:Int).toNat)) ||| (zht a0 ((w64 (32 - a1):Int).toNat))) >>= fun y5 =>
 some y5
theorem z1l (a0:UInt32) (a1:Int):z2b Tryz.prog 186 [.rd z0m a0,.rd z0j a1] [] (z1k a0 a1) (fun r nv=>⟨[.rd z0m r],[]⟩):=by
 refine z37 13 Tryz.func186 Z Z Z fun H w=>?_
 refine gSR<|Zb Z<|z0w<|zfd mixed (by kernel_rfl)<|Rq Z (mv Z)<|Rq Z (mv Z)<|z6w fun u1 h2=>Rq Z (W.shr Z Z (z54 h2))<|Rq Z (mv Z)<|Rq Z (mv Z)<|Rq Z (I.sub Z Z)<|z6w fun u3 h4=>Rq Z (W.shl Z Z (z54 h4))<|Rq Z (W.or Z Z)<|Rq Z (asg Z)<|zxm 4 Z fun y5=>zpo<|z0t<|z0s<|Ze [] [] Z
def z6x  : Option ((List UInt32)) :=
 some [1116352408,1899447441,3049323471,3921009573,961987163,1508970993,2453635748,2870763221,3624381080,310598401,607225278,1426881987,1925078388,2162078206,2614888103,3248222580,3835390401,4022224774,264347078,604807628,770255983,1249150122,1555081692,1996064986,2554220882,2821834349,2952996808,3210313671,3336571891,3584528711,113926993,338241895,666307205,773529912,1294757372,1396182291,1695183700,1986661051,2177026350,2456956037,2730485921,2820302411,3259730800,3345764771,3516065817,3600352804,4094571909,275423344,430227734,506948616,659060556,883997877,958139571,1322822218,1537002063,1747873779,1955562222,2024104815,2227730452,2361852424,2428436474,2756734187,3204031479,3329325298]
theorem zah  : z2b Tryz.prog 187 [] [] (z6x) (fun r nv=>⟨[.val (nv 0)],[(100,some (nv 0,.list z0m 34 r))]⟩):=by
 refine z37 2 Tryz.func187 Z Z Z fun H w=>?_
 refine gSR<|Zb Z<|gSR<|Ef Z (lit (R:=z0m) ([1116352408,1899447441,3049323471,3921009573,961987163,1508970993,2453635748,2870763221,3624381080,310598401,607225278,1426881987,1925078388,2162078206,2614888103,3248222580,3835390401,4022224774,264347078,604807628,770255983,1249150122,1555081692,1996064986,2554220882,2821834349,2952996808,3210313671,3336571891,3584528711,113926993,338241895,666307205,773529912,1294757372,1396182291,1695183700,1986661051,2177026350,2456956037,2730485921,2820302411,3259730800,3345764771,3516065817,3600352804,4094571909,275423344,430227734,506948616,659060556,883997877,958139571,1322822218,1537002063,1747873779,1955562222,2024104815,2227730452,2361852424,2428436474,2756734187,3204031479,3329325298]:List UInt32) 1 (pP Z Z<|pP Z Z<|pP Z Z<|pP Z Z<|pP Z Z<|pP Z Z<|pP Z Z<|pP Z Z<|pP Z Z<|pP Z Z<|pP Z Z<|pP Z Z<|pP Z Z<|pP Z Z<|pP Z Z<|pP Z Z<|pP Z Z<|pP Z Z<|pP Z Z<|pP Z Z<|pP Z Z<|pP Z Z<|pP Z Z<|pP Z Z<|pP Z Z<|pP Z Z<|pP Z Z<|pP Z Z<|pP Z Z<|pP Z Z<|pP Z Z<|pP Z Z<|pP Z Z<|pP Z Z<|pP Z Z<|pP Z Z<|pP Z Z<|pP Z Z<|pP Z Z<|pP Z Z<|pP Z Z<|pP Z Z<|pP Z Z<|pP Z Z<|pP Z Z<|pP Z Z<|pP Z Z<|pP Z Z<|pP Z Z<|pP Z Z<|pP Z Z<|pP Z Z<|pP Z Z<|pP Z Z<|pP Z Z<|pP Z Z<|pP Z Z<|pP Z Z<|pP Z Z<|pP Z Z<|pP Z Z<|pP Z Z<|pP Z Z<|pP Z Z<|pN) Z tu232 z6e Z Z) fun v1=>Zb Z<|z0s<|Ze [v1] [1] Z
def z3k (a1:List UInt8) (s4:(List UInt32) × Int):Option (Sum ((List UInt32)) ((List UInt32) × Int)) :=
 if decide (s4.2<16) then
  idx a1 (w64 (4 * s4.2)) >>= fun x7 =>
  idx a1 (w64 ((w64 (4 * s4.2))+1)) >>= fun x9 =>
  idx a1 (w64 ((w64 (4 * s4.2))+2)) >>= fun x11 =>
  idx a1 (w64 ((w64 (4 * s4.2))+3)) >>= fun x13 =>
  app 4 s4.1 [(((((x7.toUInt32 * 256)+x9.toUInt32) * 256)+x11.toUInt32) * 256)+x13.toUInt32] >>= fun x16 =>
  some (w64 (s4.2+1)) >>= fun y19 =>
  some (.inr (x16,y19))
 else
  some (.inl s4.1)
def z3m (s22:(List UInt32) × Int):Option (Sum ((List UInt32)) ((List UInt32) × Int)) :=
 if decide (s22.2<64) then
  idx s22.1 (w64 (s22.2 - 15)) >>= fun x25 =>
  idx s22.1 (w64 (s22.2 - 2)) >>= fun x27 =>
  idx s22.1 (w64 (s22.2 - 16)) >>= fun x29 =>
  idx s22.1 (w64 (s22.2 - 7)) >>= fun x31 =>
  z1k x25 7 >>= fun r33 =>
  z1k x25 18 >>= fun r36 =>
  z1k x27 17 >>= fun r39 =>
  z1k x27 19 >>= fun r42 =>
  app 4 s22.1 [((x29+x31)+((r33 ^^^ r36) ^^^ (z4j x25 3)))+((r39 ^^^ r42) ^^^ (z4j x27 10))] >>= fun x45 =>
  some (w64 (s22.2+1)) >>= fun y48 =>
  some (.inr (x45,y48))
 else
  some (.inl s22.1)
def z26 (s21:(List UInt32)) (r50:(List UInt32)) (s54:(Vector UInt32 8) × Int):Option (Sum ((Vector UInt32 8)) ((Vector UInt32 8) × Int)) :=
 if decide (s54.2<64) then
  z5g s54.1 0 >>= fun x56 =>
  z5g s54.1 1 >>= fun x58 =>
  z5g s54.1 2 >>= fun x60 =>
  z5g s54.1 4 >>= fun x62 =>
  z5g s54.1 5 >>= fun x64 =>
  z5g s54.1 6 >>= fun x66 =>
  z5g s54.1 7 >>= fun x68 =>
  idx r50 s54.2 >>= fun x70 =>
  idx s21 s54.2 >>= fun x72 =>
  z1k x62 6 >>= fun r74 =>
  z1k x62 11 >>= fun r76 =>
  z1k x62 25 >>= fun r78 =>
  some ((((x68+((r74 ^^^ r76) ^^^ r78))+((x62 &&& x64) ^^^ ((~~~x62) &&& x66)))+x70)+x72) >>= fun y80 =>
  z1k x56 2 >>= fun r81 =>
  z1k x56 13 >>= fun r83 =>
  z1k x56 22 >>= fun r85 =>
  some (((r81 ^^^ r83) ^^^ r85)+(((x56 &&& x58) ^^^ (x56 &&& x60)) ^^^ (x58 &&& x60))) >>= fun y87 =>
  z5g s54.1 3 >>= fun x88 =>
  some (w64 (s54.2+1)) >>= fun y90 =>
  some (.inr ((#v[y80+y87,x56,x58,x60,x88+y80,x62,x64,x66]:Vector UInt32 8),y90))
 else
  some (.inl s54.1)
def z11 (s53:(Vector UInt32 8)) (s92:(Vector UInt32 8) × Int):Option (Sum ((Vector UInt32 8)) ((Vector UInt32 8) × Int)) :=
 if decide (s92.2<8) then
  z5g s92.1 s92.2 >>= fun x94 =>
  z5g s53 s92.2 >>= fun x96 =>
  z5g s92.1 s92.2 >>= fun x98 =>
  some (w64 (s92.2+1)) >>= fun y100 =>
  some (.inr (zcf s92.1 s92.2 (x94+x96),y100))
 else
  some (.inl s92.1)
def z6l (a0:Vector UInt32 8) (a1:List UInt8):Option ((Vector UInt32 8)) :=
 (iter (z3k a1) ([],0)) >>= fun s3 =>
 (iter (z3m) (s3,16)) >>= fun s21 =>
 z6x >>= fun r50 =>
 (iter (z26 s21 r50) (a0,0)) >>= fun s53 =>
 (iter (z11 s53) (a0,0)) >>= fun s91 =>
 some s91
set_option maxHeartbeats 4000000 in
theorem zbn (a0:Vector UInt32 8) (a1:List UInt8):z2b Tryz.prog 143 [.rd (z2g 8 z0m) a0,.rd (z03 u8R) a1] [] (z6l a0 a1) (fun r nv=>⟨[.rd (z2g 8 z0m) r],[]⟩):=by
 refine z37 203 Tryz.func143 Z Z Z fun H w=>?_
 refine gSR<|Eb Z (bx 1 Z) fun v1=>Eb Z (z9u 2 zbq (.zr (R:=(z2g 8 z0m)) (x:=(Vector.replicate 8 0)) zi7)) fun v2=>Zn<|gSR<|Zb Z<|z8e (fun (s3:(List UInt32)) aa ww=>∃ nv:Nat→Value,Sta (ctx 203 H [] w) [(2,.val (z0f v1 0)),(4,.val (z0f v2 0)),(5,.val (nv 0))] [(1,some (v1,.box 149 [.rd (z2g 8 z0m) a0])),(2,some (v2,.box 149 [.rd (z2g 8 z0m) (Vector.replicate 8 0)])),(108,some ((nv 0),.list z0m 34 s3))] aa ww) ?_ (fun s3=>?_)
 ·refine gSR<|Zb Z<|zql z0m 34 215<|z27 (fun (s4:(List UInt32) × Int) aa ww=>∃ nv:Nat→Value,Sta (ctx 203 H [] w) [(1,.rd (z03 u8R) a1),(2,.val (z0f v1 0)),(4,.val (z0f v2 0)),(5,.val (nv 0)),(6,.rd z0j s4.2)] [(1,some (v1,.box 149 [.rd (z2g 8 z0m) a0])),(2,some (v2,.box 149 [.rd (z2g 8 z0m) (Vector.replicate 8 0)])),(214,some ((nv 0),.list z0m 34 s4.1))] aa ww) (fun aa ww h=>⟨nvl [(.slice none 0 0)],Zu h [1,2,215]⟩) (fun s4=>?_)
  refine gEx fun n5=>z0w<|gSR<|Zm Z<|Zq (I.lss Z Z)<|Zj Z (fun h6=>?_) (fun h6=>?_)
  ·refine Zt<|z0w<|z67<|z9c [214,318] mixed Z Z<|hTk 0 Z Z (mv Z)<|hTk 1 Z Z (mv Z)<|hTk 2 Z Z (mv Z)<|hTk 3 Z Z (I.mul Z Z)<|z5i fun x7 h8=>hTk 4 Z Z (ixR Z Z h8 tu52 ti5 Z)<|hTk 5 Z Z (ldR Z ty5)<|hTk 6 Z Z (B.toW Z tu5 tu34)<|hTk 7 Z Z (W.mul Z Z)<|hTk 8 Z Z (mv Z)<|hTk 9 Z Z (mv Z)<|hTk 10 Z Z (I.mul Z Z)<|hTk 11 Z Z (I.add Z Z)<|z5i fun x9 h10=>hTk 12 Z Z (ixR Z Z h10 tu52 ti5 Z)<|hTk 13 Z Z (ldR Z ty5)<|hTk 14 Z Z (B.toW Z tu5 tu34)<|hTk 15 Z Z (W.add Z Z)<|hTk 16 Z Z (W.mul Z Z)<|hTk 17 Z Z (mv Z)<|hTk 18 Z Z (mv Z)<|hTk 19 Z Z (I.mul Z Z)<|hTk 20 Z Z (I.add Z Z)<|z5i fun x11 h12=>hTk 21 Z Z (ixR Z Z h12 tu52 ti5 Z)<|hTk 22 Z Z (ldR Z ty5)<|hTk 23 Z Z (B.toW Z tu5 tu34)<|hTk 24 Z Z (W.add Z Z)<|hTk 25 Z Z (W.mul Z Z)<|hTk 26 Z Z (mv Z)<|hTk 27 Z Z (mv Z)<|hTk 28 Z Z (I.mul Z Z)<|hTk 29 Z Z (I.add Z Z)<|z5i fun x13 h14=>hTk 30 Z Z (ixR Z Z h14 tu52 ti5 Z)<|hTk 31 Z Z (ldR Z ty5)<|hTk 32 Z Z (B.toW Z tu5 tu34)<|hTk 33 Z Z (W.add Z Z)<|Zo 34 Z Z Z (lit (R:=z0m) ([(((((x7.toUInt32 * 256)+x9.toUInt32) * 256)+x11.toUInt32) * 256)+x13.toUInt32]:List UInt32) 318 (pP Z Z<|pN) Z tu232 z6e Z Z) fun v15=>z5i fun x16 h17=>Zo 35 Z Z Z (apn 214 Z Z Z (.own 318 Z) h17 tu232 z6e Z Z Z) fun v18=>Zf 36 Z Z z2z (asg Z)<|z6z (by kernel_rfl)<|z3o<|z0t<|z2d<|Zm Z<|Zq (I.add Z Z)<|Za Z<|z1u 6 Z fun y19=>z21<|z1x (fun aa ww h=>⟨nvl [v18],Zu h [1,2,214]⟩)
  ·refine z28<|z16<|z15<|z4g (fun aa ww h=>⟨nvl [(n5 0)],Zu h [1,2,214]⟩)
 ·refine gEx fun n20=>z8e (fun (s21:(List UInt32)) aa ww=>∃ nv:Nat→Value,Sta (ctx 203 H [] w) [(2,.val (z0f v1 0)),(4,.val (z0f v2 0)),(5,.val (nv 0))] [(1,some (v1,.box 149 [.rd (z2g 8 z0m) a0])),(2,some (v2,.box 149 [.rd (z2g 8 z0m) (Vector.replicate 8 0)])),(108,some ((nv 0),.list z0m 34 s21))] aa ww) ?_ (fun s21=>?_)
  ·refine gSR<|Zb Z<|z27 (fun (s22:(List UInt32) × Int) aa ww=>∃ nv:Nat→Value,Sta (ctx 203 H [] w) [(2,.val (z0f v1 0)),(4,.val (z0f v2 0)),(5,.val (nv 0)),(7,.rd z0j s22.2)] [(1,some (v1,.box 149 [.rd (z2g 8 z0m) a0])),(2,some (v2,.box 149 [.rd (z2g 8 z0m) (Vector.replicate 8 0)])),(108,some ((nv 0),.list z0m 34 s22.1))] aa ww) (fun aa ww h=>⟨nvl [(n20 0)],Zu h [1,2,108]⟩) (fun s22=>?_)
   refine gEx fun n23=>z0w<|gSR<|Zm Z<|Zq (I.lss Z Z)<|Zj Z (fun h24=>?_) (fun h24=>?_)
   ·refine Zt<|z0w<|z67<|z0w<|zfd mixed (by kernel_rfl)<|Rq Z (mv Z)<|Rq Z (mv Z)<|Rq Z (I.sub Z Z)<|z6w fun x25 h26=>Rq Z (ixO 108 Z Z Z h26 tu232 z6e)<|Rq Z (ld 108 Z Z (Foc.el h26) z8l Z)<|Rq Z (mv Z)<|Rq Z (mv Z)<|Rq Z (I.sub Z Z)<|z6w fun x27 h28=>Rq Z (ixO 108 Z Z Z h28 tu232 z6e)<|Rq Z (ld 108 Z Z (Foc.el h28) z8l Z)<|Rq Z (asg Z)<|Rq Z (asg Z)<|zpo<|z0t<|zwy [(5,.val (n23 0)),(2,.val (z0f v1 0)),(4,.val (z0f v2 0)),(7,.rd z0j s22.2),(8,.rd z0m x25),(9,.rd z0m x27)] [(1,some (v1,.box 149 [.rd (z2g 8 z0m) a0])),(2,some (v2,.box 149 [.rd (z2g 8 z0m) (Vector.replicate 8 0)])),(108,some ((n23 0),.list z0m 34 s22.1))] [1,2,108] (Zs Z Z Z Z<|sS Z<|sS Z<|sN) (Zi Z<|Zi Z<|Zi Z<|rN)<|zb7 fun x29 h30=>zb7 fun x31 h32=>zb7 fun r33 h35=>zb7 fun r36 h38=>zb7 fun r39 h41=>zb7 fun r42 h44=>zb7 fun x45 h46=>gOr [(5,.val (n23 0),32)] [⟨108,some ([], fun nv=>((n23 0),.list z0m 34 s22.1)),[(31,some ([2], fun nv=>((nv 2),.list z0m 34 x45)))]⟩,⟨330,none,[(30,some ([1], fun nv=>((nv 1),.list z0m 34 [((x29+x31)+((r33 ^^^ r36) ^^^ (z4j x25 3)))+((r39 ^^^ r42) ^^^ (z4j x27 10))])))]⟩] [⟨some (76,[], fun nv=>.val (n23 0)),[],[],[0]⟩,⟨some (77,[], fun nv=>.val (n23 0)),[],[],[0]⟩,pd 78 (.rd z0j s22.2),pd 79 (.rd z0j (w64 (s22.2 - 16))),pk 80 (.val (z0f (n23 0) ((w64 (s22.2 - 16):Int).toNat * 1))) [(0,0,false)],pk 81 (.rd z0m x29) [(0,0,false)],⟨some (82,[], fun nv=>.val (n23 0)),[],[],[0]⟩,pd 83 (.rd z0j s22.2),pd 84 (.rd z0j (w64 (s22.2 - 7))),pk 85 (.val (z0f (n23 0) ((w64 (s22.2 - 7):Int).toNat * 1))) [(0,0,false)],pk 86 (.rd z0m x31) [(0,0,false)],pd 87 (.rd z0m (x29+x31)),pd 88 (.rd z0m x25),pd 89 (.rd z0m r33),pd 90 (.rd z0m x25),pd 91 (.rd z0m r36),pd 92 (.rd z0m (r33 ^^^ r36)),pd 93 (.rd z0m x25),pd 94 (.rd z0m (z4j x25 3)),pd 95 (.rd z0m ((r33 ^^^ r36) ^^^ (z4j x25 3))),pd 96 (.rd z0m ((x29+x31)+((r33 ^^^ r36) ^^^ (z4j x25 3)))),pd 97 (.rd z0m x27),pd 98 (.rd z0m r39),pd 99 (.rd z0m x27),pd 100 (.rd z0m r42),pd 101 (.rd z0m (r39 ^^^ r42)),pd 102 (.rd z0m x27),pd 103 (.rd z0m (z4j x27 10)),pd 104 (.rd z0m ((r39 ^^^ r42) ^^^ (z4j x27 10))),pd 105 (.rd z0m (((x29+x31)+((r33 ^^^ r36) ^^^ (z4j x25 3)))+((r39 ^^^ r42) ^^^ (z4j x27 10)))),⟨some (106,[1], fun nv=>.val (nv 1)),[(1,0,true)],[1],[]⟩,⟨some (107,[2], fun nv=>.val (nv 2)),[(1,1,false),(0,0,true)],[2],[]⟩,⟨some (5,[2], fun nv=>.val (nv 2)),[],[],[]⟩] mixed (oC (oRn (fun nv E=>mv Z))<|oC (oRn (fun nv E=>mv Z))<|oC (oRn (fun nv E=>mv Z))<|oC (oRn (fun nv E=>I.sub Z Z))<|oC (oRn (fun nv E=>ixO 108 Z Z Z h30 tu232 z6e))<|oC (oRn (fun nv E=>ld 108 Z Z (Foc.el h30) z8l Z))<|oC (oRn (fun nv E=>mv Z))<|oC (oRn (fun nv E=>mv Z))<|oC (oRn (fun nv E=>I.sub Z Z))<|oC (oRn (fun nv E=>ixO 108 Z Z Z h32 tu232 z6e))<|oC (oRn (fun nv E=>ld 108 Z Z (Foc.el h32) z8l Z))<|oC (oRn (fun nv E=>W.add Z Z))<|oC (oRn (fun nv E=>mv Z))<|oC (oCl [] [] [] h35 Tryz.func186 Z (fun nv=>(z1l _ _)) (fun nv=>(Y2 Z Z)) (fun nv E=>rN))<|oC (oRn (fun nv E=>mv Z))<|oC (oCl [] [] [] h38 Tryz.func186 Z (fun nv=>(z1l _ _)) (fun nv=>(Y2 Z Z)) (fun nv E=>rN))<|oC (oRn (fun nv E=>W.xor Z Z))<|oC (oRn (fun nv E=>mv Z))<|oC (oRn (fun nv E=>W.shr Z Z (Int.natCast_nonneg _)))<|oC (oRn (fun nv E=>W.xor Z Z))<|oC (oRn (fun nv E=>W.add Z Z))<|oC (oRn (fun nv E=>mv Z))<|oC (oCl [] [] [] h41 Tryz.func186 Z (fun nv=>(z1l _ _)) (fun nv=>(Y2 Z Z)) (fun nv E=>rN))<|oC (oRn (fun nv E=>mv Z))<|oC (oCl [] [] [] h44 Tryz.func186 Z (fun nv=>(z1l _ _)) (fun nv=>(Y2 Z Z)) (fun nv E=>rN))<|oC (oRn (fun nv E=>W.xor Z Z))<|oC (oRn (fun nv E=>mv Z))<|oC (oRn (fun nv E=>W.shr Z Z (Int.natCast_nonneg _)))<|oC (oRn (fun nv E=>W.xor Z Z))<|oC (oRn (fun nv E=>W.add Z Z))<|oC (oEf 330 1 (fun nv E=>lit (R:=z0m) ([((x29+x31)+((r33 ^^^ r36) ^^^ (z4j x25 3)))+((r39 ^^^ r42) ^^^ (z4j x27 10))]:List UInt32) 330 (pP Z Z<|pN) Z tu232 z6e Z Z))<|oC (oEf 108 2 (fun nv E=>apn 108 Z Z Z (.own 330 Z) h46 tu232 z6e Z Z Z))<|oC (oRn (fun nv E=>asg Z))<|oN) fun n47=>z3o<|z0t<|z2d<|Zm Z<|Zq (I.add Z Z)<|Za Z<|z1u 7 Z fun y48=>z21<|z1x (fun aa ww h=>⟨nvl [(n47 2)],Zu h [1,2,108]⟩)
   ·refine z28<|z16<|z15<|z4g (fun aa ww h=>⟨nvl [(n23 0)],Zu h [1,2,108]⟩)
  ·refine gEx fun n49=>gSR<|Zc [] [(100,331)] Tryz.func187 Z (zah) fun r50 n51=>Zb Z<|gSR<|Zq (ld 1 Z Z fH zi6 Z)<|Eb Z (z9u 332 zbq (.zr (R:=(z2g 8 z0m)) (x:=(Vector.replicate 8 0)) zi7)) fun v52=>Es (sto 332 Z Z fH Z zbq)<|Zn<|z8e (fun (s53:(Vector UInt32 8)) aa ww=>Sta (ctx 203 H [] w) [(2,.val (z0f v1 0)),(4,.val (z0f v2 0)),(11,.val (z0f v52 0))] [(1,some (v1,.box 149 [.rd (z2g 8 z0m) a0])),(2,some (v2,.box 149 [.rd (z2g 8 z0m) (Vector.replicate 8 0)])),(332,some (v52,.box 149 [.rd (z2g 8 z0m) s53]))] aa ww) ?_ (fun s53=>?_)
   ·refine gSR<|Zb Z<|z27 (fun (s54:(Vector UInt32 8) × Int) aa ww=>Sta (ctx 203 H [] w) [(2,.val (z0f v1 0)),(4,.val (z0f v2 0)),(5,.val (n49 0)),(10,.val (n51 0)),(11,.val (z0f v52 0)),(12,.rd z0j s54.2)] [(1,some (v1,.box 149 [.rd (z2g 8 z0m) a0])),(2,some (v2,.box 149 [.rd (z2g 8 z0m) (Vector.replicate 8 0)])),(108,some ((n49 0),.list z0m 34 s21)),(331,some ((n51 0),.list z0m 34 r50)),(332,some (v52,.box 149 [.rd (z2g 8 z0m) s54.1]))] aa ww) (fun aa ww h=>Zu h [1,2,108,331,332]) (fun s54=>?_)
    refine z0w<|gSR<|Zm Z<|Zq (I.lss Z Z)<|Zj Z (fun h55=>?_) (fun h55=>?_)
    ·refine Zt<|z0w<|z67<|z0w<|zfd mixed (by kernel_rfl)<|z6w fun x56 h57=>Rq Z (ixB 332 Z Z Z h57 tu149 z6e)<|Rq Z (ld 332 Z Z (fP (.el h57)) z8l Z)<|z6w fun x58 h59=>Rq Z (ixB 332 Z Z Z h59 tu149 z6e)<|Rq Z (ld 332 Z Z (fP (.el h59)) z8l Z)<|z6w fun x60 h61=>Rq Z (ixB 332 Z Z Z h61 tu149 z6e)<|Rq Z (ld 332 Z Z (fP (.el h61)) z8l Z)<|z6w fun x62 h63=>Rq Z (ixB 332 Z Z Z h63 tu149 z6e)<|Rq Z (ld 332 Z Z (fP (.el h63)) z8l Z)<|z6w fun x64 h65=>Rq Z (ixB 332 Z Z Z h65 tu149 z6e)<|Rq Z (ld 332 Z Z (fP (.el h65)) z8l Z)<|z6w fun x66 h67=>Rq Z (ixB 332 Z Z Z h67 tu149 z6e)<|Rq Z (ld 332 Z Z (fP (.el h67)) z8l Z)<|Rq Z (asg Z)<|Rq Z (asg Z)<|Rq Z (asg Z)<|Rq Z (asg Z)<|Rq Z (asg Z)<|Rq Z (asg Z)<|zpo<|z0t<|z0w<|z9c [] mixed Z Z<|z5i fun x68 h69=>hTk 0 Z Z (ixB 332 Z Z Z h69 tu149 z6e)<|hTk 1 Z Z (ld 332 Z Z (fP (.el h69)) z8l Z)<|hTk 2 Z Z (mv Z)<|hTk 4 Z Z (mv Z)<|hTk 7 Z Z (mv Z)<|hTk 11 Z Z (mv Z)<|hTk 12 Z Z (mv Z)<|hTk 13 Z Z (W.and Z Z)<|hTk 14 Z Z (mv Z)<|hTk 15 Z Z (W.cpl Z)<|hTk 16 Z Z (mv Z)<|hTk 17 Z Z (W.and Z Z)<|hTk 18 Z Z (W.xor Z Z)<|hTk 20 Z Z (mv Z)<|hTk 21 Z Z (mv Z)<|z5i fun x70 h71=>hTk 22 Z Z (ixO 331 Z Z Z h71 tu232 z6e)<|hTk 23 Z Z (ld 331 Z Z (Foc.el h71) z8l Z)<|hTk 25 Z Z (mv Z)<|hTk 26 Z Z (mv Z)<|z5i fun x72 h73=>hTk 27 Z Z (ixO 108 Z Z Z h73 tu232 z6e)<|hTk 28 Z Z (ld 108 Z Z (Foc.el h73) z8l Z)<|z5e 3 [] [] Z (by kernel_rfl) Z (gd0 Z) Z Tryz.func186 Z Z (z1l _ _) (Y2 Z Z) rN Z (fun _ _=>z43) fun r74 n75=>z5e 5 [] [] Z (by kernel_rfl) Z (gd0 Z) Z Tryz.func186 Z Z (z1l _ _) (Y2 Z Z) rN Z (fun _ _=>z43) fun r76 n77=>hTk 6 Z Z (W.xor Z Z)<|z5e 8 [] [] Z (by kernel_rfl) Z (gd0 Z) Z Tryz.func186 Z Z (z1l _ _) (Y2 Z Z) rN Z (fun _ _=>z43) fun r78 n79=>hTk 9 Z Z (W.xor Z Z)<|hTk 10 Z Z (W.add Z Z)<|hTk 19 Z Z (W.add Z Z)<|hTk 24 Z Z (W.add Z Z)<|hTk 29 Z Z (W.add Z Z)<|hTk 30 Z Z (asg Z)<|zqy 19 Z Z fun y80=>z6z (by kernel_rfl)<|z0t<|gSR<|Zm Z<|Zc [] [] Tryz.func186 Z (z1l _ _) fun r81 n82=>Zm Z<|Zc [] [] Tryz.func186 Z (z1l _ _) fun r83 n84=>Zq (W.xor Z Z)<|Zm Z<|Zc [] [] Tryz.func186 Z (z1l _ _) fun r85 n86=>Zq (W.xor Z Z)<|Zm Z<|Zm Z<|Zq (W.and Z Z)<|Zm Z<|Zm Z<|Zq (W.and Z Z)<|Zq (W.xor Z Z)<|Zm Z<|Zm Z<|Zq (W.and Z Z)<|Zq (W.xor Z Z)<|Zq (W.add Z Z)<|Za Z<|z1u 20 Z fun y87=>Zn<|z2d<|Zm Z<|Zm Z<|Zq (W.add Z Z)<|Zm Z<|Zm Z<|Zm Z<|z0o fun x88 h89=>Zq (ixB 332 Z Z Z h89 tu149 z6e)<|Zq (ld 332 Z Z (fP (.el h89)) z8l Z)<|Zm Z<|Zq (W.add Z Z)<|Zm Z<|Zm Z<|Zm Z<|Zq (zxa (R:=z0m) [y80+y87,x56,x58,x60,x88+y80,x62,x64,x66] (#v[y80+y87,x56,x58,x60,x88+y80,x62,x64,x66]:Vector UInt32 8) (pP Z Z<|pP Z Z<|pP Z Z<|pP Z Z<|pP Z Z<|pP Z Z<|pP Z Z<|pP Z Z<|pN) Z tu149 zbq Z z6e)<|Es (sto 332 Z Z fH Z zbq)<|z21<|z3o<|z0t<|z2d<|Zm Z<|Zq (I.add Z Z)<|Za Z<|z1u 12 Z fun y90=>z21<|z1x (fun aa ww h=>Zu h [1,2,108,331,332])
    ·refine z28<|z16<|z15<|z4g (fun aa ww h=>Zu h [1,2,332])
   ·refine z8e (fun (s91:(Vector UInt32 8)) aa ww=>Sta (ctx 203 H [] w) [(2,.val (z0f v1 0)),(4,.val (z0f v2 0))] [(1,some (v1,.box 149 [.rd (z2g 8 z0m) s91])),(2,some (v2,.box 149 [.rd (z2g 8 z0m) (Vector.replicate 8 0)]))] aa ww) ?_ (fun s91=>?_)
    ·refine gSR<|Zb Z<|z27 (fun (s92:(Vector UInt32 8) × Int) aa ww=>Sta (ctx 203 H [] w) [(2,.val (z0f v1 0)),(4,.val (z0f v2 0)),(11,.val (z0f v52 0)),(21,.rd z0j s92.2)] [(1,some (v1,.box 149 [.rd (z2g 8 z0m) s92.1])),(2,some (v2,.box 149 [.rd (z2g 8 z0m) (Vector.replicate 8 0)])),(332,some (v52,.box 149 [.rd (z2g 8 z0m) s53]))] aa ww) (fun aa ww h=>Zu h [1,2,332]) (fun s92=>?_)
     refine z0w<|gSR<|Zm Z<|Zq (I.lss Z Z)<|Zj Z (fun h93=>?_) (fun h93=>?_)
     ·refine Zt<|z0w<|z67<|z9c [1] mixed Z Z<|hTk 0 Z Z (mv Z)<|z5i fun x94 h95=>hTk 1 Z Z (ixB 1 Z Z Z h95 tu149 z6e)<|hTk 3 Z Z (mv Z)<|z5i fun x96 h97=>hTk 4 Z Z (ixB 332 Z Z Z h97 tu149 z6e)<|hTk 5 Z Z (ld 332 Z Z (fP (.el h97)) z8l Z)<|zu3 2 Z (by kernel_rfl) (gd0 Z) Z Z z43 (ld 1 Z Z (fP (.el h95)) z8l Z)<|hTk 6 Z Z (W.add Z Z)<|z5i fun x98 h99=>hTk 7 Z Z (ixB 1 Z Z Z h99 tu149 z6e)<|Zp 8 Z Z Z Z Z (sto 1 Z Z (fP (.el h99)) Z z6e)<|z6z (by kernel_rfl)<|z3o<|z0t<|z2d<|Zm Z<|Zq (I.add Z Z)<|Za Z<|z1u 21 Z fun y100=>z21<|z1x (fun aa ww h=>Zu h [1,2,332])
     ·refine z28<|z16<|z15<|z4g (fun aa ww h=>Zu h [1,2])
    ·refine gSR<|Zq (ld 1 Z Z fH zi6 Z)<|Es (sto 2 Z Z fH Z zbq)<|Zn<|z0s<|zfk [] [] Z (eC 2 Z Z zi6<|eN) (rN)
def z3n (a1:List UInt8) (s4:(Vector UInt32 8) × Int):Option (Sum ((Vector UInt32 8)) ((Vector UInt32 8) × Int)) :=
 if decide ((w64 (s4.2+64))≤(a1.length:Int)) then
  cut a1 s4.2 (w64 (s4.2+64)) >>= fun x6 =>
  z6l s4.1 x6 >>= fun r8 =>
  some (w64 (s4.2+64)) >>= fun y10 =>
  some (.inr (r8,y10))
 else
  some (.inl s4.1)
def z6s (a0:Vector UInt32 8) (a1:List UInt8):Option ((Vector UInt32 8)) :=
 (iter (z3n a1) (a0,0)) >>= fun s3 =>
 some s3
theorem zbk (a0:Vector UInt32 8) (a1:List UInt8):z2b Tryz.prog 100 [.rd (z2g 8 z0m) a0,.rd (z03 u8R) a1] [] (z6s a0 a1) (fun r nv=>⟨[.rd (z2g 8 z0m) r],[]⟩):=by
 refine z37 21 Tryz.func100 Z Z Z fun H w=>?_
 refine gSR<|Eb Z (bx 1 Z) fun v1=>Eb Z (z9u 2 zbq (.zr (R:=(z2g 8 z0m)) (x:=(Vector.replicate 8 0)) zi7)) fun v2=>Zn<|z8e (fun (s3:(Vector UInt32 8)) aa ww=>Sta (ctx 21 H [] w) [(2,.val (z0f v1 0)),(4,.val (z0f v2 0))] [(1,some (v1,.box 149 [.rd (z2g 8 z0m) s3])),(2,some (v2,.box 149 [.rd (z2g 8 z0m) (Vector.replicate 8 0)]))] aa ww) ?_ (fun s3=>?_)
 ·refine gSR<|Zb Z<|z27 (fun (s4:(Vector UInt32 8) × Int) aa ww=>Sta (ctx 21 H [] w) [(1,.rd (z03 u8R) a1),(2,.val (z0f v1 0)),(4,.val (z0f v2 0)),(5,.rd z0j s4.2)] [(1,some (v1,.box 149 [.rd (z2g 8 z0m) s4.1])),(2,some (v2,.box 149 [.rd (z2g 8 z0m) (Vector.replicate 8 0)]))] aa ww) (fun aa ww h=>Zu h [1,2]) (fun s4=>?_)
  refine z0w<|gSR<|Zm Z<|Zq (I.add Z Z)<|Zm Z<|Zq (z5m Z .rd Z tu52)<|Zq (I.leq Z Z)<|Zj Z (fun h5=>?_) (fun h5=>?_)
  ·refine Zt<|z0w<|z67<|z9c [1] mixed Z Z<|hTk 1 Z Z (mv Z)<|hTk 2 Z Z (mv Z)<|hTk 3 Z Z (mv Z)<|hTk 4 Z Z (I.add Z Z)<|z5i fun x6 h7=>hTk 5 Z Z (zxw Z (.to Z) (.to Z) h7 tu52 ti5)<|zu3 0 Z (by kernel_rfl) (gd0 Z) Z Z zv0 (ld 1 Z Z fH zi6 Z)<|zvd 6 [] [] Z (by kernel_rfl) Z (gd0 Z) Z Tryz.func143 Z Z (zbn _ _) (Y2 Z Z) rN Z fun r8 n9=>Zp 7 Z Z Z Z Z (sto 1 Z Z fH Z zbq)<|z6z (by kernel_rfl)<|z3o<|z0t<|z2d<|Zm Z<|Zq (I.add Z Z)<|Za Z<|z1u 5 Z fun y10=>z21<|z1x (fun aa ww h=>Zu h [1,2])
  ·refine z28<|z16<|z15<|z4g (fun aa ww h=>Zu h [1,2])
 ·refine gSR<|Zq (ld 1 Z Z fH zi6 Z)<|Es (sto 2 Z Z fH Z zbq)<|Zn<|z0s<|zfk [] [] Z (eC 2 Z Z zi6<|eN) (rN)
def z36 (a0:Vector UInt32 8) (s5:V3 × Int):Option (Sum (V3) (V3 × Int)) :=
 if decide (s5.2<32) then
  z5g a0 (w64 (Int.tdiv s5.2 4)) >>= fun x7 =>
  chk (0≤w64 (24 - (w64 (8 * (Int.tmod s5.2 4))))) >>= fun u9 =>
  z5g s5.1 s5.2 >>= fun x11 =>
  some (w64 (s5.2+1)) >>= fun y13 =>
  some (.inr (zcf s5.1 s5.2 ((z4j x7 ((w64 (24 - (w64 (8 * (Int.tmod s5.2 4)))):Int).toNat)).toUInt8),y13))
 else
  some (.inl s5.1)
def z64 (a0:Vector UInt32 8):Option (V3) :=
 (iter (z36 a0) ((Vector.replicate 32 0),0)) >>= fun s4 =>
 some s4
theorem zb2 (a0:Vector UInt32 8):z2b Tryz.prog 99 [.rd (z2g 8 z0m) a0] [] (z64 a0) (fun r nv=>⟨[.rd aZ r],[]⟩):=by
 refine z37 22 Tryz.func99 Z Z Z fun H w=>?_
 refine gSR<|Eb Z (bx 1 Z) fun v1=>Eb Z (z9u 2 z5n (.zr (R:=aZ) (x:=(Vector.replicate 32 0)) zim)) fun v2=>Zn<|gSR<|Eb Z (z9u 3 z5n (.zr (R:=aZ) (x:=(Vector.replicate 32 0)) zim)) fun v3=>Zn<|z8e (fun (s4:V3) aa ww=>Sta (ctx 22 H [] w) [(2,.val (z0f v2 0)),(3,.val (z0f v3 0))] [(2,some (v2,.box 45 [.rd aZ (Vector.replicate 32 0)])),(3,some (v3,.box 45 [.rd aZ s4]))] aa ww) ?_ (fun s4=>?_)
 ·refine gSR<|Zb Z<|z27 (fun (s5:V3 × Int) aa ww=>Sta (ctx 22 H [] w) [(1,.val (z0f v1 0)),(2,.val (z0f v2 0)),(3,.val (z0f v3 0)),(4,.rd z0j s5.2)] [(1,some (v1,.box 149 [.rd (z2g 8 z0m) a0])),(2,some (v2,.box 45 [.rd aZ (Vector.replicate 32 0)])),(3,some (v3,.box 45 [.rd aZ s5.1]))] aa ww) (fun aa ww h=>Zu h [1,2,3]) (fun s5=>?_)
  refine z0w<|gSR<|Zm Z<|Zq (I.lss Z Z)<|Zj Z (fun h6=>?_) (fun h6=>?_)
  ·refine Zt<|z0w<|z67<|z2d<|Zm Z<|Zm Z<|Zq (I.quo Z Z (by decide))<|z0o fun x7 h8=>Zq (ixB 1 Z Z Z h8 tu149 z6e)<|Zq (ld 1 Z Z (fP (.el h8)) z8l Z)<|Zm Z<|Zq (I.rem Z Z (by decide))<|Zq (I.mul Z Z)<|Zq (I.sub Z Z)<|z0o fun u9 h10=>Zq (W.shr Z Z (z54 h10))<|Zq (W.toB Z tu34 tu5)<|z0o fun x11 h12=>Zq (ixB 3 Z Z Z h12 tu45 ti5)<|Es (sto 3 Z Z (fP (.el h12)) Z ti5)<|z21<|z3o<|z0t<|z2d<|Zm Z<|Zq (I.add Z Z)<|Za Z<|z1u 4 Z fun y13=>z21<|z1x (fun aa ww h=>Zu h [1,2,3])
  ·refine z28<|z16<|z15<|z4g (fun aa ww h=>Zu h [2,3])
 ·refine gSR<|Zq (ld 3 Z Z fH z8v Z)<|Es (sto 2 Z Z fH Z z5n)<|Zn<|z0s<|zfk [] [] Z (eC 2 Z Z z8v<|eN) (rN)
def z93 (a0:List UInt8):Option (V3) :=
 z8q >>= fun r2 =>
 app 1 ([]:List UInt8) a0 >>= fun x5 =>
 z80 (a0.length:Int) >>= fun r8 =>
 app 1 x5 r8 >>= fun x10 =>
 z6s r2 x10 >>= fun r13 =>
 z64 r13 >>= fun r15 =>
 some r15
theorem zea (a0:List UInt8):z2b Tryz.prog 53 [.rd (z03 u8R) a0] [] (z93 a0) (fun r nv=>⟨[.rd aZ r],[]⟩):=by
 refine z37 13 Tryz.func53 Z Z Z fun H w=>?_
 refine gSR<|Eb Z (z9u 1 z5n (.zr (R:=aZ) (x:=(Vector.replicate 32 0)) zim)) fun v1=>Zn<|gSR<|Zc [] [] Tryz.func101 Z (zc8) fun r2 n3=>Ef Z (lit (R:=u8R) (([]:List UInt8):List UInt8) 2 (pN) Z tu52 ti5 Z Z) fun v4=>Zm Z<|z0o fun x5 h6=>Ef Z (apn 2 Z Z Z .rd h6 tu52 ti5 Z Z Z) fun v7=>Zm Z<|Zq (z5m Z .rd Z tu52)<|Zc [] [(100,3)] Tryz.func102 Z (zda _) fun r8 n9=>z0o fun x10 h11=>Ef Z (apn 2 Z Z Z (.own 3 Z) h11 tu52 ti5 Z Z Z) fun v12=>zed 2 [10] Z (fS Z<|fN)<|Zc [] [] Tryz.func100 Z (zbk _ _) fun r13 n14=>Zc [] [] Tryz.func99 Z (zb2 _) fun r15 n16=>Es (sto 1 Z Z fH Z z5n)<|Zn<|z0s<|zfk [] [] Z (eC 1 Z Z z8v<|eN) (rN)
def z6o (a0:z01):Option (V3) :=
 z7i a0 >>= fun r3 =>
 z93 r3 >>= fun r5 =>
 some r5
theorem z8n (a0:z01):z2b Tryz.prog 16 [.rd z04 a0] [] (z6o a0) (fun r nv=>⟨[.rd aZ r],[]⟩):=by
 refine z37 6 Tryz.func16 Z Z Z fun H w=>?_
 refine gSR<|Eb Z (bx 1 Z) fun v1=>Eb Z (z9u 2 z5n (.zr (R:=aZ) (x:=(Vector.replicate 32 0)) zim)) fun v2=>Zn<|gSR<|Zq (ld 1 Z Z fH zdg Z)<|Zc [] [(100,3)] Tryz.func54 Z (zc0 _) fun r3 n4=>zed 3 [4] Z (fS Z<|fN)<|Zc [] [] Tryz.func53 Z (zea _) fun r5 n6=>Es (sto 2 Z Z fH Z z5n)<|Zn<|z0s<|zfk [] [] Z (eC 2 Z Z z8v<|eN) (rN)
def z57 (a0:V3) (a1:V3) (s4:Int):Option (Sum (Sum Int Unit) Int) :=
 if decide (s4<32) then
  z5g a0 s4 >>= fun x6 =>
  z5g a1 s4 >>= fun x8 =>
  if decide (x6<x8) then
   some (.inl (.inl (-1)))
  else
   z5g a0 s4 >>= fun x11 =>
   z5g a1 s4 >>= fun x13 =>
   if decide (x13<x11) then
    some (.inl (.inl 1))
   else
    some (.inr (w64 (s4+1)))
 else
  some (.inl (.inr ()))
def z3s (a0:V3) (a1:V3):Option (Int) :=
 z6b (iter (z57 a0 a1) 0) fun s3 =>
 some 0
theorem z6m (a0:V3) (a1:V3):z2b Tryz.prog 18 [.rd aZ a0,.rd aZ a1] [] (z3s a0 a1) (fun r nv=>⟨[.rd z0j r],[]⟩):=by
 refine z37 24 Tryz.func18 Z Z Z fun H w=>?_
 refine gSR<|Eb Z (bx 1 Z) fun v1=>Eb Z (bx 2 Z) fun v2=>Zb Z<|z84 (fun (s3:Unit) aa ww=>Sta (ctx 24 H [] w) [] [] aa ww) ?_ (fun s3=>?_)
 ·refine gSR<|Zb Z<|z27 (fun (s4:Int) aa ww=>Sta (ctx 24 H [] w) [(2,.val (z0f v1 0)),(3,.val (z0f v2 0)),(5,.rd z0j s4)] [(1,some (v1,.box 45 [.rd aZ a0])),(2,some (v2,.box 45 [.rd aZ a1]))] aa ww) (fun aa ww h=>Zu h [1,2]) (fun s4=>?_)
  refine z0w<|gSR<|Zm Z<|Zq (I.lss Z Z)<|Zj Z (fun h5=>?_) (fun h5=>?_)
  ·refine Zt<|z0w<|z67<|z0w<|z0w<|zfd mixed (by kernel_rfl)<|Rq Z (mv Z)<|z6w fun x6 h7=>Rq Z (ixB 1 Z Z Z h7 tu45 ti5)<|Rq Z (ld 1 Z Z (fP (.el h7)) ty5 Z)<|Rq Z (mv Z)<|z6w fun x8 h9=>Rq Z (ixB 2 Z Z Z h9 tu45 ti5)<|Rq Z (ld 2 Z Z (fP (.el h9)) ty5 Z)<|Rq Z (B.lss Z Z)<|zpo<|z0t<|gIf Z Z (fun h10=>?_) (fun h10=>?_)
   ·refine gSR<|Zb Z<|z0s<|z14<|z3l<|z14<|z6f<|z5z<|Ze [] [] Z
   ·refine Zt<|z0w<|zfd mixed (by kernel_rfl)<|Rq Z (mv Z)<|z6w fun x11 h12=>Rq Z (ixB 1 Z Z Z h12 tu45 ti5)<|Rq Z (ld 1 Z Z (fP (.el h12)) ty5 Z)<|Rq Z (mv Z)<|z6w fun x13 h14=>Rq Z (ixB 2 Z Z Z h14 tu45 ti5)<|Rq Z (ld 2 Z Z (fP (.el h14)) ty5 Z)<|Rq Z (B.gtr Z Z)<|zpo<|z0t<|gIf Z Z (fun h15=>?_) (fun h15=>?_)
    ·refine gSR<|Zb Z<|z0s<|z3l<|z14<|z6f<|z5z<|Ze [] [] Z
    ·refine z31<|z3o<|z0t<|z2d<|Zm Z<|Zq (I.add Z Z)<|Za Z<|z21<|z1x (fun aa ww h=>Zu h [1,2])
  ·refine z28<|z16<|z15<|z7p (fun aa ww h=>Zu h [])
 ·refine gSR<|Zb Z<|z0s<|Ze [] [] Z
def z2o (a0:List V3) (s2:Int):Option (Sum (Sum Bool Unit) Int) :=
 if decide (s2<(a0.length:Int)) then
  idx a0 (w64 (s2 - 1)) >>= fun x4 =>
  idx a0 s2 >>= fun x6 =>
  z3s x4 x6 >>= fun r8 =>
  if decide (0≤r8) then
   some (.inl (.inl false))
  else
   some (.inr (w64 (s2+1)))
 else
  some (.inl (.inr ()))
def z3t (a0:List V3):Option (Bool) :=
 z6b (iter (z2o a0) 1) fun s1 =>
 some true
theorem z8w (a0:List V3):z2b Tryz.prog 14 [.rd (z03 aZ) a0] [] (z3t a0) (fun r nv=>⟨[.rd z08 r],[]⟩):=by
 refine z37 21 Tryz.func14 Z Z Z fun H w=>?_
 refine gSR<|Zb Z<|z84 (fun (s1:Unit) aa ww=>Sta (ctx 21 H [] w) [] [] aa ww) ?_ (fun s1=>?_)
 ·refine gSR<|Zb Z<|z27 (fun (s2:Int) aa ww=>Sta (ctx 21 H [] w) [(0,.rd (z03 aZ) a0),(3,.rd z0j s2)] [] aa ww) (fun aa ww h=>Zu h []) (fun s2=>?_)
  refine z0w<|gSR<|Zm Z<|Zm Z<|Zq (z5m Z .rd Z tu29)<|Zq (I.lss Z Z)<|Zj Z (fun h3=>?_) (fun h3=>?_)
  ·refine Zt<|z0w<|z67<|z0w<|z9c [] mixed Z Z<|hTk 0 Z Z (mv Z)<|hTk 1 Z Z (mv Z)<|hTk 2 Z Z (I.sub Z Z)<|z5i fun x4 h5=>hTk 3 Z Z (ixR Z Z h5 tu29 z5n Z)<|hTk 4 Z Z (ldR Z z8v)<|hTk 5 Z Z (mv Z)<|hTk 6 Z Z (mv Z)<|z5i fun x6 h7=>hTk 7 Z Z (ixR Z Z h7 tu29 z5n Z)<|hTk 8 Z Z (ldR Z z8v)<|z5e 9 [] [] Z (by kernel_rfl) Z (gd0 Z) Z Tryz.func18 Z Z (z6m _ _) (Y2 Z Z) rN Z (fun _ _=>z43) fun r8 n9=>hTk 10 Z Z (I.geq Z Z)<|z6z (by kernel_rfl)<|z0t<|gIf Z Z (fun h10=>?_) (fun h10=>?_)
   ·refine gSR<|Zb Z<|z0s<|z3l<|z14<|z6f<|z5z<|Ze [] [] Z
   ·refine z31<|z3o<|z0t<|z2d<|Zm Z<|Zq (I.add Z Z)<|Za Z<|z21<|z1x (fun aa ww h=>Zu h [])
  ·refine z28<|z16<|z15<|z7p (fun aa ww h=>Zu h [])
 ·refine gSR<|Zb Z<|z0s<|Ze [] [] Z
def z3v (a2:UInt64) (s2:UInt64 × UInt64 × UInt64):Option (Sum UInt64 (UInt64 × UInt64 × UInt64)) :=
 if decide (0<s2.2.1) then
  (if (s2.2.1 % 2)==1 then
   chk (a2≠0) >>= fun u6 =>
   some ((s2.2.2 * s2.1) % a2) >>= fun y8 =>
   some y8
  else
   some s2.2.2) >>= fun s4 =>
  chk (a2≠0) >>= fun u9 =>
  some ((s2.1 * s2.1) % a2) >>= fun y11 =>
  some (.inr (y11,s2.2.1 / 2,s4))
 else
  some (.inl s2.2.2)
def z78 (a0:UInt64) (a1:UInt64) (a2:UInt64):Option (UInt64) :=
 (iter (z3v a2) (a0,a1,1)) >>= fun s1 =>
 some s1
theorem zc1 (a0:UInt64) (a1:UInt64) (a2:UInt64):z2b Tryz.prog 96 [.rd z2c a0,.rd z2c a1,.rd z2c a2] [] (z78 a0 a1 a2) (fun r nv=>⟨[.rd z2c r],[]⟩):=by
 refine z37 26 Tryz.func96 Z Z Z fun H w=>?_
 refine gSR<|Zb Z<|gSR<|Zb Z<|z8e (fun (s1:UInt64) aa ww=>Sta (ctx 26 H [] w) [(7,.rd z2c s1)] [] aa ww) ?_ (fun s1=>?_)
 ·refine z27 (fun (s2:UInt64 × UInt64 × UInt64) aa ww=>Sta (ctx 26 H [] w) [(0,.rd z2c s2.1),(1,.rd z2c s2.2.1),(2,.rd z2c a2),(7,.rd z2c s2.2.2)] [] aa ww) (fun aa ww h=>Zu h []) (fun s2=>?_)
  refine z0w<|gSR<|Zm Z<|Zq (U.gtr Z Z)<|Zj Z (fun h3=>?_) (fun h3=>?_)
  ·refine Zt<|z67<|z8e (fun (s4:UInt64) aa ww=>Sta (ctx 26 H [] w) [(0,.rd z2c s2.1),(1,.rd z2c s2.2.1),(2,.rd z2c a2),(7,.rd z2c s4)] [] aa ww) ?_ (fun s4=>?_)
   ·refine gSR<|Zm Z<|Zq (U.rem Z Z (by decide))<|Zq (U.eql Z Z)<|Zj Z (fun h5=>?_) (fun h5=>?_)
    ·refine z2d<|Zm Z<|Zm Z<|Zq (U.mul Z Z)<|Zm Z<|z0o fun u6 h7=>Zq (U.rem Z Z (z54 h7))<|Za Z<|z1u 7 Z fun y8=>z21<|z4g (fun aa ww h=>Zu h [])
    ·refine z31<|z4g (fun aa ww h=>Zu h [])
   ·refine gSR<|Zm Z<|Zm Z<|Zq (U.mul Z Z)<|Zm Z<|z0o fun u9 h10=>Zq (U.rem Z Z (z54 h10))<|Za Z<|z1u 0 Z fun y11=>Zn<|z2d<|Zm Z<|Zq (U.quo Z Z (by decide))<|Za Z<|z21<|z3o<|z1x (fun aa ww h=>Zu h [])
  ·refine z28<|z16<|z15<|z4g (fun aa ww h=>Zu h [])
 ·refine gSR<|Zm Z<|Zb Z<|z0s<|Ze [] [] Z
def z90 (a0:UInt32):Option (Bool) :=
 if decide (1≤a0) then
  if decide (a0<1000000007) then
   z78 a0.toUInt64 500000003 1000000007 >>= fun r3 =>
   some (r3==1)
  else
   some false
 else
  some false
theorem zef (a0:UInt32):z2b Tryz.prog 50 [.rd z0m a0] [] (z90 a0) (fun r nv=>⟨[.rd z08 r],[]⟩):=by
 refine z37 15 Tryz.func50 Z Z Z fun H w=>?_
 refine gSR<|Zb Z<|gSR<|Zm Z<|Zq (W.geq Z Z)<|Zm Z<|z1z 5 Z (fun h1=>?_) (fun h1=>?_)
 ·refine lKn 4 Z h1<|z1q Zx Z Z (mv Z)<|z1q Zx Z Z (W.lss Z Z)<|Zq (pkT Z Z)<|Zm Z<|z1z 9 Z (fun h2=>?_) (fun h2=>?_)
  ·refine lKn 7 Z h2<|lKn 8 Z h2<|z1q Zx Z Z (mv Z)<|z1q Zx Z Z (W.toU Z tu34 tu35)<|zb0 [] [] Zx Z Tryz.func96 Z Z (zc1 _ _ _) (aQ Z<|aQ Z<|aQ Z<|aN) rN fun r3 n4=>z1q Zx Z Z (U.eql Z Z)<|Zq (pkT Z Z)<|Zb Z<|z0s<|Ze [] [] Z
  ·refine lKn 7 Z h2<|lKn 8 Z h2<|Zk Z<|Zk Z<|Zk Z<|Zk Z<|Zq (pkF Z Z)<|Zb Z<|z0s<|Ze [] [] Z
 ·refine lKn 4 Z h1<|Zk Z<|Zk Z<|Zq (pkF Z Z)<|Zm Z<|Zk Z<|Zk Z<|Zk Z<|Zk Z<|Zq (pkF Z Z)<|Zb Z<|z0s<|Ze [] [] Z
def z4s (a0:List UInt8) (s4:Int):Option (Sum (Sum Bool Unit) Int) :=
 if decide (s4<(a0.length:Int)) then
  idx a0 s4 >>= fun x6 =>
  if decide (x6<33) then
   some (.inl (.inl false))
  else
   idx a0 s4 >>= fun x9 =>
   if decide (126<x9) then
    some (.inl (.inl false))
   else
    some (.inr (w64 (s4+1)))
 else
  some (.inl (.inr ()))
def z6a (a0:List UInt8):Option (Bool) :=
 if decide ((a0.length:Int)<1) then
  some false
 else
  if decide (20<(a0.length:Int)) then
   some false
  else
   z6b (iter (z4s a0) 0) fun s3 =>
   some true
theorem z9p (a0:List UInt8):z2b Tryz.prog 97 [.rd zdo a0] [] (z6a a0) (fun r nv=>⟨[.rd z08 r],[]⟩):=by
 refine z37 28 Tryz.func97 Z Z Z fun H w=>?_
 refine gSR<|Zb Z<|z0w<|gSR<|Zm Z<|Zq (zpx Z Z tu9)<|Zq (I.lss Z Z)<|Zm Z<|z1z 7 Z (fun h1=>?_) (fun h1=>?_)
 ·refine lKn 6 Z h1<|Zk Z<|Zk Z<|Zk Z<|Zq (pkT Z Z)<|Zn<|zeh Z<|gSR<|Zb Z<|z0s<|z14<|Ze [] [] Z
 ·refine lKn 6 Z h1<|z1q Zx Z Z (mv Z)<|z1q Zx Z Z (zpx Z Z tu9)<|z1q Zx Z Z (I.gtr Z Z)<|Zq (pkF Z Z)<|Zj Z (fun h2=>?_) (fun h2=>?_)
  ·refine gKn 10 Z h2<|gSR<|Zb Z<|z0s<|z14<|Ze [] [] Z
  ·refine gKn 10 Z h2<|Zt<|z84 (fun (s3:Unit) aa ww=>Sta (ctx 28 H [] w) [] [] aa ww) ?_ (fun s3=>?_)
   ·refine gSR<|Zb Z<|z27 (fun (s4:Int) aa ww=>Sta (ctx 28 H [] w) [(0,.rd zdo a0),(3,.rd z0j s4)] [] aa ww) (fun aa ww h=>Zu h []) (fun s4=>?_)
    refine z0w<|gSR<|Zm Z<|Zm Z<|Zq (zpx Z Z tu9)<|Zq (I.lss Z Z)<|Zj Z (fun h5=>?_) (fun h5=>?_)
    ·refine Zt<|z0w<|z67<|gSR<|Zm Z<|Zm Z<|z0o fun x6 h7=>Zq (zww Z Z tu9 (z4y h7).1 (z4y h7).2.1)<|Zq (B.lss Z Z)<|Zm Z<|z1z 22 Z (fun h8=>?_) (fun h8=>?_)
     ·refine lKn 21 Z h8<|Zk Z<|Zk Z<|Zk Z<|Zk Z<|Zq (pkT Z Z)<|Zn<|zeh Z<|gSR<|Zb Z<|z0s<|z3l<|z14<|z6f<|z5z<|Ze [] [] Z
     ·refine lKn 21 Z h8<|z1q Zx Z Z (mv Z)<|z1q Zx Z Z (mv Z)<|z0o fun x9 h10=>z1q Zx Z Z (zww Z Z tu9 (z4y h10).1 (z4y h10).2.1)<|z1q Zx Z Z (B.gtr Z Z)<|Zq (pkF Z Z)<|Zj Z (fun h11=>?_) (fun h11=>?_)
      ·refine gKn 26 Z h11<|gSR<|Zb Z<|z0s<|z3l<|z14<|z6f<|z5z<|Ze [] [] Z
      ·refine gKn 26 Z h11<|z31<|z3o<|z0t<|z2d<|Zm Z<|Zq (I.add Z Z)<|Za Z<|z21<|z1x (fun aa ww h=>Zu h [])
    ·refine z28<|z16<|z15<|z7p (fun aa ww h=>Zu h [])
   ·refine gSR<|Zb Z<|z0s<|Ze [] [] Z
def z5j (a0:UInt64):Option (Int) :=
 some (w64 (((a0 % 9223372036854775808) / 4503599627370496).toNat:Int)) >>= fun y1 =>
 some y1
theorem zax (a0:UInt64):z2b Tryz.prog 214 [.rd z2c a0] [] (z5j a0) (fun r nv=>⟨[.rd z0j r],[]⟩):=by
 refine z37 7 Tryz.func214 Z Z Z fun H w=>?_
 refine gSR<|Zb Z<|gSR<|Zm Z<|Zq (U.rem Z Z (by decide))<|Zq (U.quo Z Z (by decide))<|Zq (U.toI Z tu35 tu3)<|Za Z<|z1u 2 Z fun y1=>Zn<|z0s<|Ze [] [] Z
def z7m (a0:UInt64):Option (UInt64) :=
 some (a0 % 4503599627370496) >>= fun y1 =>
 some y1
theorem zay (a0:UInt64):z2b Tryz.prog 215 [.rd z2c a0] [] (z7m a0) (fun r nv=>⟨[.rd z2c r],[]⟩):=by
 refine z37 5 Tryz.func215 Z Z Z fun H w=>?_
 refine gSR<|Zb Z<|gSR<|Zm Z<|Zq (U.rem Z Z (by decide))<|Za Z<|z1u 2 Z fun y1=>Zn<|z0s<|Ze [] [] Z
def z7b (a0:UInt64):Option (UInt8) :=
 z5j a0 >>= fun r1 =>
 z7m a0 >>= fun r3 =>
 z6b (if r1==0 then
  if r3==0 then
   some (.inl 1)
  else
   some (.inr ())
 else
  some (.inr ())) fun s5 =>
 if r1==0 then
  some 2
 else
  if decide (r1<2047) then
   some 3
  else
   if r3==0 then
    some 4
   else
    some 5
end
section
open Go Go.RowKit
set_option maxRecDepth 100000
theorem zc5 (a0:UInt64):z2b Tryz.prog 185 [.rd z2c a0] [] (z7b a0) (fun r nv=>⟨[.rd u8R r],[]⟩):=by
 refine z37 21 Tryz.func185 Z Z Z fun H w=>?_
 refine gSR<|Zb Z<|gSR<|Zm Z<|Zc [] [] Tryz.func214 Z (zax _) fun r1 n2=>Zm Z<|Zc [] [] Tryz.func215 Z (zay _) fun r3 n4=>Za Z<|Zb Z<|z84 (fun (s5:Unit) aa ww=>Sta (ctx 21 H [] w) [(3,.rd z0j r1),(4,.rd z2c r3)] [] aa ww) ?_ (fun s5=>?_)
 ·refine gSR<|Zm Z<|Zq (I.eql Z Z)<|Zm Z<|z1z 11 Z (fun h6=>?_) (fun h6=>?_)
  ·refine lKn 10 Z h6<|z1q Zx Z Z (mv Z)<|z1q Zx Z Z (U.eql Z Z)<|Zq (pkT Z Z)<|Zj Z (fun h7=>?_) (fun h7=>?_)
   ·refine gKn 13 Z h7<|gSR<|Zb Z<|z0s<|z5z<|Ze [] [] Z
   ·refine gKn 13 Z h7<|z31<|z7p (fun aa ww h=>Zu h [])
  ·refine lKn 10 Z h6<|Zk Z<|Zk Z<|Zq (pkF Z Z)<|Zn<|zba Z<|z31<|z7p (fun aa ww h=>Zu h [])
 ·refine z0w<|gSR<|Zm Z<|Zq (I.eql Z Z)<|Zj Z (fun h8=>?_) (fun h8=>?_)
  ·refine gSR<|Zb Z<|z0s<|z14<|Ze [] [] Z
  ·refine Zt<|z0w<|gSR<|Zm Z<|Zq (I.lss Z Z)<|Zj Z (fun h9=>?_) (fun h9=>?_)
   ·refine gSR<|Zb Z<|z0s<|z14<|Ze [] [] Z
   ·refine Zt<|z0w<|gSR<|Zm Z<|Zq (U.eql Z Z)<|Zj Z (fun h10=>?_) (fun h10=>?_)
    ·refine gSR<|Zb Z<|z0s<|z14<|Ze [] [] Z
    ·refine Zt<|gSR<|Zb Z<|z0s<|Ze [] [] Z
def z7f (a0:UInt64):Option (UInt64) :=
 z7b a0 >>= fun r1 =>
 if r1==5 then
  some 9221120237041090560
 else
  some a0
theorem zce (a0:UInt64):z2b Tryz.prog 141 [.rd z2c a0] [] (z7f a0) (fun r nv=>⟨[.rd z2c r],[]⟩):=by
 refine z37 7 Tryz.func141 Z Z Z fun H w=>?_
 refine gSR<|Zb Z<|z0w<|gSR<|Zm Z<|Zc [] [] Tryz.func185 Z (zc5 _) fun r1 n2=>Zq (B.eql Z Z)<|Zj Z (fun h3=>?_) (fun h3=>?_)
 ·refine gSR<|Zb Z<|z0s<|z14<|Ze [] [] Z
 ·refine Zt<|gSR<|Zm Z<|Zb Z<|z0s<|Ze [] [] Z
def z2k (a0:List UInt8) (s2:Int):Option (Sum (Sum Bool Unit) Int) :=
 if decide (s2<(a0.length:Int)) then
  idx a0 s2 >>= fun x4 =>
  if decide (x4<32) then
   some (.inl (.inl false))
  else
   idx a0 s2 >>= fun x7 =>
   if decide (126<x7) then
    some (.inl (.inl false))
   else
    some (.inr (w64 (s2+1)))
 else
  some (.inl (.inr ()))
def z4x (a0:List UInt8):Option (Bool) :=
 z6b (iter (z2k a0) 0) fun s1 =>
 some true
theorem zai (a0:List UInt8):z2b Tryz.prog 142 [.rd zdo a0] [] (z4x a0) (fun r nv=>⟨[.rd z08 r],[]⟩):=by
 refine z37 20 Tryz.func142 Z Z Z fun H w=>?_
 refine gSR<|Zb Z<|z84 (fun (s1:Unit) aa ww=>Sta (ctx 20 H [] w) [] [] aa ww) ?_ (fun s1=>?_)
 ·refine gSR<|Zb Z<|z27 (fun (s2:Int) aa ww=>Sta (ctx 20 H [] w) [(0,.rd zdo a0),(3,.rd z0j s2)] [] aa ww) (fun aa ww h=>Zu h []) (fun s2=>?_)
  refine z0w<|gSR<|Zm Z<|Zm Z<|Zq (zpx Z Z tu9)<|Zq (I.lss Z Z)<|Zj Z (fun h3=>?_) (fun h3=>?_)
  ·refine Zt<|z0w<|z67<|gSR<|Zm Z<|Zm Z<|z0o fun x4 h5=>Zq (zww Z Z tu9 (z4y h5).1 (z4y h5).2.1)<|Zq (B.lss Z Z)<|Zm Z<|z1z 14 Z (fun h6=>?_) (fun h6=>?_)
   ·refine lKn 13 Z h6<|Zk Z<|Zk Z<|Zk Z<|Zk Z<|Zq (pkT Z Z)<|Zn<|zeh Z<|gSR<|Zb Z<|z0s<|z3l<|z14<|z6f<|z5z<|Ze [] [] Z
   ·refine lKn 13 Z h6<|z1q Zx Z Z (mv Z)<|z1q Zx Z Z (mv Z)<|z0o fun x7 h8=>z1q Zx Z Z (zww Z Z tu9 (z4y h8).1 (z4y h8).2.1)<|z1q Zx Z Z (B.gtr Z Z)<|Zq (pkF Z Z)<|Zj Z (fun h9=>?_) (fun h9=>?_)
    ·refine gKn 18 Z h9<|gSR<|Zb Z<|z0s<|z3l<|z14<|z6f<|z5z<|Ze [] [] Z
    ·refine gKn 18 Z h9<|z31<|z3o<|z0t<|z2d<|Zm Z<|Zq (I.add Z Z)<|Za Z<|z21<|z1x (fun aa ww h=>Zu h [])
  ·refine z28<|z16<|z15<|z7p (fun aa ww h=>Zu h [])
 ·refine gSR<|Zb Z<|z0s<|Ze [] [] Z
def z7g (a0:z00):Option (Int) :=
 if a0.Kind==1 then
  if a0.Bits==0 then
   if a0.Text==[] then
    some 0
   else
    some 8
  else
   some 8
 else
  if a0.Kind==2 then
   (if a0.Num==0 then
    if a0.Text==[] then
     z7f a0.Bits >>= fun r9 =>
     some (r9==a0.Bits)
    else
     some false
   else
    some false) >>= fun s6 =>
   if s6 then
    some 0
   else
    some 8
  else
   if a0.Kind==3 then
    (if a0.Num==0 then
     if a0.Bits==0 then
      if decide ((a0.Text.length:Int)≤30) then
       z4x a0.Text >>= fun r17 =>
       some r17
      else
       some false
     else
      some false
    else
     some false) >>= fun s13 =>
    if s13 then
     some 0
    else
     some 8
   else
    some 8
theorem zc9 (a0:z00):z2b Tryz.prog 98 [.rd z13 a0] [] (z7g a0) (fun r nv=>⟨[.rd z0j r],[]⟩):=by
 refine z37 54 Tryz.func98 Z Z Z fun H w=>?_
 refine gSR<|Eb Z (bx 1 Z) fun v1=>Zb Z<|z0w<|gSR<|Zq (faB 1 Z Z Tryz.underlying37 Z (by exact ti5))<|Zq (ld 1 Z Z (fP (z1r _)) ty5 Z)<|Zn<|z67<|gSR<|Zq (B.eql Z Z)<|Zb Z<|gIf Z Z (fun h2=>?_) (fun h2=>?_)
 ·refine gKn 6 Z h2<|gSR<|Zq (faB 1 Z Z Tryz.underlying37 Z (by exact zo3))<|Zq (ld 1 Z Z (fP (z2e _)) zn1 Z)<|Zq (U.eql Z Z)<|Zm Z<|z1z 10 Z (fun h3=>?_) (fun h3=>?_)
  ·refine lKn 9 Z h3<|z1q Zx Z Z (faB 1 Z Z Tryz.underlying37 Z (by exact ti9))<|z1q Zx Z Z (ld 1 Z Z (fP (z24 _)) ty9 Z)<|z1q Zx Z Z (eqS Z Z)<|Zq (pkT Z Z)<|Zj Z (fun h4=>?_) (fun h4=>?_)
   ·refine gKn 13 Z h4<|gSR<|Zb Z<|z0s<|z3l<|z14<|Ze [] [] Z
   ·refine gKn 13 Z h4<|z31<|z3o<|z0t<|gSR<|Zb Z<|z0s<|Ze [] [] Z
  ·refine lKn 9 Z h3<|Zk Z<|Zk Z<|Zk Z<|Zq (pkF Z Z)<|Zn<|zba Z<|z31<|z3o<|z0t<|gSR<|Zb Z<|z0s<|Ze [] [] Z
 ·refine gKn 6 Z h2<|gSR<|Zq (B.eql Z Z)<|Zb Z<|gIf Z Z (fun h5=>?_) (fun h5=>?_)
  ·refine gKn 16 Z h5<|z8e (fun (s6:Bool) aa ww=>Sta (ctx 54 H [] w) [(32,.rd z08 s6)] [] aa ww) ?_ (fun s6=>?_)
   ·refine z9c [] mixed Z Z<|hTk 0 Z Z (faB 1 Z Z Tryz.underlying37 Z (by exact ti2))<|hTk 1 Z Z (ld 1 Z Z (fP (z4f _)) ty2 Z)<|hTk 2 Z Z (I.eql Z Z)<|hTk 3 Z Z (mv Z)<|hIf 20 Z Z (fun h7=>?_) (fun h7=>?_)
    ·refine hKn 19 Z Z h7<|Zg 4 Z Z (faB 1 Z Z Tryz.underlying37 Z (by exact ti9))<|Zg 5 Z Z (ld 1 Z Z (fP (z24 _)) ty9 Z)<|Zg 6 Z Z (eqS Z Z)<|hTk 7 Z Z (pkT Z Z)<|hTk 8 Z Z (mv Z)<|hIf 25 Z Z (fun h8=>?_) (fun h8=>?_)
     ·refine hKn 23 Z Z h8<|hKn 24 Z Z h8<|Zg 9 Z Z (faB 1 Z Z Tryz.underlying37 Z (by exact zo3))<|Zg 10 Z Z (ld 1 Z Z (fP (z2e _)) zn1 Z)<|Zg 12 Z Z (faB 1 Z Z Tryz.underlying37 Z (by exact zo3))<|Zg 13 Z Z (ld 1 Z Z (fP (z2e _)) zn1 Z)<|z5e 11 [] [] Z (by kernel_rfl) Z Zx Z Tryz.func141 Z Z (zce _) (Y1 Z) rN Z (fun _ _=>z43) fun r9 n10=>Zg 14 Z Z (U.eql Z Z)<|hTk 15 Z Z (pkT Z Z)<|z6z (by kernel_rfl)<|z4g (fun aa ww h=>Zu h [])
     ·refine hKn 23 Z Z h8<|hKn 24 Z Z h8<|hSk 9 Z Z<|hSk 10 Z Z<|hSk 11 Z Z<|hSk 12 Z Z<|hSk 13 Z Z<|hSk 14 Z Z<|hTk 15 Z Z (pkF Z Z)<|z6z (by kernel_rfl)<|z4g (fun aa ww h=>Zu h [])
    ·refine hKn 19 Z Z h7<|hSk 4 Z Z<|hSk 5 Z Z<|hSk 6 Z Z<|hTk 7 Z Z (pkF Z Z)<|hTk 8 Z Z (mv Z)<|hSk 9 Z Z<|hSk 10 Z Z<|hSk 11 Z Z<|hSk 12 Z Z<|hSk 13 Z Z<|hSk 14 Z Z<|hTk 15 Z Z (pkF Z Z)<|z6z (by kernel_rfl)<|z4g (fun aa ww h=>Zu h [])
   ·refine gIf Z Z (fun h11=>?_) (fun h11=>?_)
    ·refine gSR<|Zb Z<|z0s<|z3l<|z14<|Ze [] [] Z
    ·refine z31<|z3o<|z0t<|gSR<|Zb Z<|z0s<|Ze [] [] Z
  ·refine gKn 16 Z h5<|gSR<|Zq (B.eql Z Z)<|Zb Z<|gIf Z Z (fun h12=>?_) (fun h12=>?_)
   ·refine gKn 34 Z h12<|z8e (fun (s13:Bool) aa ww=>Sta (ctx 54 H [] w) [(53,.rd z08 s13)] [] aa ww) ?_ (fun s13=>?_)
    ·refine z2d<|Zq (faB 1 Z Z Tryz.underlying37 Z (by exact ti2))<|Zq (ld 1 Z Z (fP (z4f _)) ty2 Z)<|Zq (I.eql Z Z)<|Zm Z<|z1z 38 Z (fun h14=>?_) (fun h14=>?_)
     ·refine lKn 37 Z h14<|z1q Zx Z Z (faB 1 Z Z Tryz.underlying37 Z (by exact zo3))<|z1q Zx Z Z (ld 1 Z Z (fP (z2e _)) zn1 Z)<|z1q Zx Z Z (U.eql Z Z)<|Zq (pkT Z Z)<|Zm Z<|z1z 43 Z (fun h15=>?_) (fun h15=>?_)
      ·refine lKn 41 Z h15<|lKn 42 Z h15<|z1q Zx Z Z (faB 1 Z Z Tryz.underlying37 Z (by exact ti9))<|z1q Zx Z Z (ld 1 Z Z (fP (z24 _)) ty9 Z)<|z1q Zx Z Z (zpx Z Z tu9)<|z1q Zx Z Z (I.leq Z Z)<|Zq (pkT Z Z)<|Zm Z<|z1z 49 Z (fun h16=>?_) (fun h16=>?_)
       ·refine lKn 47 Z h16<|lKn 48 Z h16<|z1q Zx Z Z (faB 1 Z Z Tryz.underlying37 Z (by exact ti9))<|z1q Zx Z Z (ld 1 Z Z (fP (z24 _)) ty9 Z)<|zb0 [] [] Zx Z Tryz.func142 Z Z (zai _) (Y1 Z) rN fun r17 n18=>Zq (pkT Z Z)<|z21<|z4g (fun aa ww h=>Zu h [])
       ·refine lKn 47 Z h16<|lKn 48 Z h16<|Zk Z<|Zk Z<|Zk Z<|Zq (pkF Z Z)<|z21<|z4g (fun aa ww h=>Zu h [])
      ·refine lKn 41 Z h15<|lKn 42 Z h15<|Zk Z<|Zk Z<|Zk Z<|Zk Z<|Zq (pkF Z Z)<|Zm Z<|Zk Z<|Zk Z<|Zk Z<|Zq (pkF Z Z)<|z21<|z4g (fun aa ww h=>Zu h [])
     ·refine lKn 37 Z h14<|Zk Z<|Zk Z<|Zk Z<|Zq (pkF Z Z)<|Zm Z<|Zk Z<|Zk Z<|Zk Z<|Zk Z<|Zq (pkF Z Z)<|Zm Z<|Zk Z<|Zk Z<|Zk Z<|Zq (pkF Z Z)<|z21<|z4g (fun aa ww h=>Zu h [])
    ·refine gIf Z Z (fun h19=>?_) (fun h19=>?_)
     ·refine gSR<|Zb Z<|z0s<|z3l<|z14<|Ze [] [] Z
     ·refine z31<|z3o<|z0t<|gSR<|Zb Z<|z0s<|Ze [] [] Z
   ·refine gKn 34 Z h12<|z31<|z3o<|z0t<|gSR<|Zb Z<|z0s<|Ze [] [] Z
def z5l (a0:z0a):Option (Int) :=
 some (decide (a0.Value=(⟨0,0,0,[]⟩:z00))) >>= fun y2 =>
 if a0.Kind==1 then
  if a0.Key==[] then
   if y2 then
    some 0
   else
    some 8
  else
   some 8
 else
  (if a0.Kind==2 then
   some true
  else
   some (a0.Kind==3)) >>= fun s6 =>
  if s6 then
   z6a a0.Key >>= fun r9 =>
   if r9 then
    if y2 then
     some 0
    else
     some 8
   else
    some 8
  else
   if a0.Kind==4 then
    z6a a0.Key >>= fun r14 =>
    if r14 then
     z7g a0.Value >>= fun r17 =>
     if r17==0 then
      some 0
     else
      some 8
    else
     some 8
   else
    some 8
theorem zaw (a0:z0a):z2b Tryz.prog 51 [.rd z0l a0] [] (z5l a0) (fun r nv=>⟨[.rd z0j r],[]⟩):=by
 refine z37 38 Tryz.func51 Z Z Z fun H w=>?_
 refine gSR<|Eb Z (bx 1 Z) fun v1=>Zb Z<|gSR<|Zq (faB 1 Z Z Tryz.underlying39 Z (by exact zdr))<|Zq (ld 1 Z Z (fP (z3c _)) zk9 Z)<|Zq (bld (x':=(⟨0,0,0,[]⟩:z00)) [(0,1),(1,1),(2,1),(3,1)] Tryz.underlying37 zdr Z zn2 Z (Bld.done Z))<|Zq (eqA Z Z zxc Z Z zxq)<|Za Z<|z1u 3 Z fun y2=>Zn<|z0w<|gSR<|Zq (faB 1 Z Z Tryz.underlying39 Z (by exact ti5))<|Zq (ld 1 Z Z (fP (z29 _)) ty5 Z)<|Zn<|z67<|gSR<|Zq (B.eql Z Z)<|Zb Z<|gIf Z Z (fun h3=>?_) (fun h3=>?_)
 ·refine gKn 11 Z h3<|gSR<|Zq (faB 1 Z Z Tryz.underlying39 Z (by exact ti9))<|Zq (ld 1 Z Z (fP (z2y _)) ty9 Z)<|Zq (eqS Z Z)<|Zm Z<|z1z 15 Z (fun h4=>?_) (fun h4=>?_)
  ·refine lKn 14 Z h4<|z1q Zx Z Z (mv Z)<|Zq (pkT Z Z)<|Zj Z (fun h5=>?_) (fun h5=>?_)
   ·refine gKn 3 Z h5<|gKn 16 Z h5<|gSR<|Zb Z<|z0s<|z3l<|z14<|Ze [] [] Z
   ·refine gKn 3 Z h5<|gKn 16 Z h5<|z31<|z3o<|z0t<|gSR<|Zb Z<|z0s<|Ze [] [] Z
  ·refine lKn 14 Z h4<|Zk Z<|Zq (pkF Z Z)<|Zn<|zba Z<|z31<|z3o<|z0t<|gSR<|Zb Z<|z0s<|Ze [] [] Z
 ·refine gKn 11 Z h3<|z8e (fun (s6:Bool) aa ww=>Sta (ctx 38 H [] w) [(1,.val (z0f v1 0)),(3,.rd z08 y2),(9,.rd u8R a0.Kind),(18,.rd z08 s6)] [(1,some (v1,.box 39 [.rd z0l a0]))] aa ww) ?_ (fun s6=>?_)
  ·refine gSR<|Zq (B.eql Z Z)<|Zb Z<|gIf Z Z (fun h7=>?_) (fun h7=>?_)
   ·refine gKn 19 Z h7<|z31<|z4g (fun aa ww h=>Zu h [1])
   ·refine gKn 19 Z h7<|z2d<|Zq (B.eql Z Z)<|Za Z<|z21<|z4g (fun aa ww h=>Zu h [1])
  ·refine gIf Z Z (fun h8=>?_) (fun h8=>?_)
   ·refine gSR<|Zq (faB 1 Z Z Tryz.underlying39 Z (by exact ti9))<|Zq (ld 1 Z Z (fP (z2y _)) ty9 Z)<|Zc [] [] Tryz.func97 Z (z9p _) fun r9 n10=>Zm Z<|z1z 24 Z (fun h11=>?_) (fun h11=>?_)
    ·refine lKn 23 Z h11<|z1q Zx Z Z (mv Z)<|Zq (pkT Z Z)<|Zj Z (fun h12=>?_) (fun h12=>?_)
     ·refine gKn 3 Z h12<|gKn 25 Z h12<|gSR<|Zb Z<|z0s<|z3l<|z14<|Ze [] [] Z
     ·refine gKn 3 Z h12<|gKn 25 Z h12<|z31<|z3o<|z0t<|gSR<|Zb Z<|z0s<|Ze [] [] Z
    ·refine lKn 23 Z h11<|Zk Z<|Zq (pkF Z Z)<|Zn<|zba Z<|z31<|z3o<|z0t<|gSR<|Zb Z<|z0s<|Ze [] [] Z
   ·refine gSR<|Zq (B.eql Z Z)<|Zb Z<|gIf Z Z (fun h13=>?_) (fun h13=>?_)
    ·refine gKn 28 Z h13<|gSR<|Zq (faB 1 Z Z Tryz.underlying39 Z (by exact ti9))<|Zq (ld 1 Z Z (fP (z2y _)) ty9 Z)<|Zc [] [] Tryz.func97 Z (z9p _) fun r14 n15=>Zm Z<|z1z 32 Z (fun h16=>?_) (fun h16=>?_)
     ·refine lKn 31 Z h16<|z1q Zx Z Z (faB 1 Z Z Tryz.underlying39 Z (by exact zdr))<|z1q Zx Z Z (ld 1 Z Z (fP (z3c _)) zk9 Z)<|zb0 [] [] Zx Z Tryz.func98 Z Z (zc9 _) (Y1 Z) rN fun r17 n18=>z1q Zx Z Z (I.eql Z Z)<|Zq (pkT Z Z)<|Zj Z (fun h19=>?_) (fun h19=>?_)
      ·refine gKn 36 Z h19<|gSR<|Zb Z<|z0s<|z3l<|z14<|Ze [] [] Z
      ·refine gKn 36 Z h19<|z31<|z3o<|z0t<|gSR<|Zb Z<|z0s<|Ze [] [] Z
     ·refine lKn 31 Z h16<|Zk Z<|Zk Z<|Zk Z<|Zk Z<|Zq (pkF Z Z)<|Zn<|zba Z<|z31<|z3o<|z0t<|gSR<|Zb Z<|z0s<|Ze [] [] Z
    ·refine gKn 28 Z h13<|z31<|z3o<|z0t<|gSR<|Zb Z<|z0s<|Ze [] [] Z
def z42 (a0:UInt32):Option (Bool) :=
 some (decide (a0.toUInt64<500000003)) >>= fun y1 =>
 some y1
theorem z85 (a0:UInt32):z2b Tryz.prog 52 [.rd z0m a0] [] (z42 a0) (fun r nv=>⟨[.rd z08 r],[]⟩):=by
 refine z37 6 Tryz.func52 Z Z Z fun H w=>?_
 refine gSR<|Zb Z<|gSR<|Zm Z<|Zq (W.toU Z tu34 tu35)<|Zq (U.lss Z Z)<|Za Z<|z1u 2 Z fun y1=>Zn<|z0s<|Ze [] [] Z
def z5w (a0:z01):Option (Int) :=
 if decide (4<(a0.Preds.length:Int)) then
  some 4
 else
  z3t a0.Preds >>= fun r3 =>
  if !r3 then
   some 32
  else
   (z90 a0.Author >>= fun r7 =>
   if !r7 then
    some true
   else
    if decide (1000000000000<a0.Stamp) then
     some true
    else
     z5l a0.Act >>= fun r11 =>
     if r11 != 0 then
      some true
     else
      z42 a0.Sig.E >>= fun r14 =>
      if !r14 then
       some true
      else
       z42 a0.Sig.S >>= fun r17 =>
       some (!r17)) >>= fun s6 =>
   if s6 then
    some 8
   else
    some 0
theorem z99 (a0:z01):z2b Tryz.prog 15 [.rd z04 a0] [] (z5w a0) (fun r nv=>⟨[.rd z0j r],[]⟩):=by
 refine z37 40 Tryz.func15 Z Z Z fun H w=>?_
 refine gSR<|Eb Z (bx 1 Z) fun v1=>Zb Z<|z0w<|gSR<|Zq (faB 1 Z Z Tryz.underlying43 Z (by exact zdp))<|Zq (ld 1 Z Z (fP (z0q _)) zee Z)<|Zq (z5m Z .rd Z tu29)<|Zq (I.gtr Z Z)<|Zj Z (fun h2=>?_) (fun h2=>?_)
 ·refine gSR<|Zb Z<|z0s<|z14<|Ze [] [] Z
 ·refine Zt<|z0w<|gSR<|Zq (faB 1 Z Z Tryz.underlying43 Z (by exact zdp))<|Zq (ld 1 Z Z (fP (z0q _)) zee Z)<|Zc [] [] Tryz.func14 Z (z8w _) fun r3 n4=>Zq (zhv Z)<|Zj Z (fun h5=>?_) (fun h5=>?_)
  ·refine gSR<|Zb Z<|z0s<|z14<|Ze [] [] Z
  ·refine Zt<|z0w<|z8e (fun (s6:Bool) aa ww=>Sta (ctx 40 H [] w) [(39,.rd z08 s6)] [] aa ww) ?_ (fun s6=>?_)
   ·refine z2d<|Zq (faB 1 Z Z Tryz.underlying43 Z (by exact z6e))<|Zq (ld 1 Z Z (fP (z7a _)) z8l Z)<|Zc [] [] Tryz.func50 Z (zef _) fun r7 n8=>Zq (zhv Z)<|Zm Z<|z1z 15 Z (fun h9=>?_) (fun h9=>?_)
    ·refine lKn 14 Z h9<|Zk Z<|Zk Z<|Zk Z<|Zq (pkT Z Z)<|Zm Z<|Zk Z<|Zk Z<|Zk Z<|Zk Z<|Zq (pkT Z Z)<|Zm Z<|Zk Z<|Zk Z<|Zk Z<|Zk Z<|Zk Z<|Zq (pkT Z Z)<|Zm Z<|Zk Z<|Zk Z<|Zk Z<|Zk Z<|Zk Z<|Zq (pkT Z Z)<|z21<|z4g (fun aa ww h=>Zu h [])
    ·refine lKn 14 Z h9<|z1q Zx Z Z (faB 1 Z Z Tryz.underlying43 Z (by exact zo3))<|z1q Zx Z Z (ld 1 Z Z (fP (z7s _)) zn1 Z)<|z1q Zx Z Z (U.gtr Z Z)<|Zq (pkF Z Z)<|Zm Z<|z1z 20 Z (fun h10=>?_) (fun h10=>?_)
     ·refine lKn 18 Z h10<|lKn 19 Z h10<|Zk Z<|Zk Z<|Zk Z<|Zk Z<|Zq (pkT Z Z)<|Zm Z<|Zk Z<|Zk Z<|Zk Z<|Zk Z<|Zk Z<|Zq (pkT Z Z)<|Zm Z<|Zk Z<|Zk Z<|Zk Z<|Zk Z<|Zk Z<|Zq (pkT Z Z)<|z21<|z4g (fun aa ww h=>Zu h [])
     ·refine lKn 18 Z h10<|lKn 19 Z h10<|z1q Zx Z Z (faB 1 Z Z Tryz.underlying43 Z (by exact zi9))<|z1q Zx Z Z (ld 1 Z Z (fP (z1v _)) zy1 Z)<|zb0 [] [] Zx Z Tryz.func51 Z Z (zaw _) (Y1 Z) rN fun r11 n12=>z1q Zx Z Z (I.neq Z Z)<|Zq (pkF Z Z)<|Zm Z<|z1z 26 Z (fun h13=>?_) (fun h13=>?_)
      ·refine lKn 24 Z h13<|lKn 25 Z h13<|Zk Z<|Zk Z<|Zk Z<|Zk Z<|Zk Z<|Zq (pkT Z Z)<|Zm Z<|Zk Z<|Zk Z<|Zk Z<|Zk Z<|Zk Z<|Zq (pkT Z Z)<|z21<|z4g (fun aa ww h=>Zu h [])
      ·refine lKn 24 Z h13<|lKn 25 Z h13<|z1q Zx Z Z (faB 1 Z Z Tryz.underlying43 Z (by exact zn4))<|z1q Zx Z Z (faB 1 Z Z Tryz.underlying41 Z (by exact z6e))<|z1q Zx Z Z (ld 1 Z Z ((fP (z3p _)).part (z8k _)) z8l Z)<|zb0 [] [] Zx Z Tryz.func52 Z Z (z85 _) (Y1 Z) rN fun r14 n15=>z1q Zx Z Z (zhv Z)<|Zq (pkF Z Z)<|Zm Z<|z1z 33 Z (fun h16=>?_) (fun h16=>?_)
       ·refine lKn 31 Z h16<|lKn 32 Z h16<|Zk Z<|Zk Z<|Zk Z<|Zk Z<|Zk Z<|Zq (pkT Z Z)<|z21<|z4g (fun aa ww h=>Zu h [])
       ·refine lKn 31 Z h16<|lKn 32 Z h16<|z1q Zx Z Z (faB 1 Z Z Tryz.underlying43 Z (by exact zn4))<|z1q Zx Z Z (faB 1 Z Z Tryz.underlying41 Z (by exact z6e))<|z1q Zx Z Z (ld 1 Z Z ((fP (z3p _)).part (z8f _)) z8l Z)<|zb0 [] [] Zx Z Tryz.func52 Z Z (z85 _) (Y1 Z) rN fun r17 n18=>z1q Zx Z Z (zhv Z)<|Zq (pkF Z Z)<|z21<|z4g (fun aa ww h=>Zu h [])
   ·refine gIf Z Z (fun h19=>?_) (fun h19=>?_)
    ·refine gSR<|Zb Z<|z0s<|z14<|Ze [] [] Z
    ·refine Zt<|gSR<|Zb Z<|z0s<|Ze [] [] Z
end
section
open Go Go.RowKit
set_option maxRecDepth 100000
def z5u (a0:List V3) (a1:V3) (s3:Int):Option (Sum (Sum Int Unit) Int) :=
 if decide (s3<(a0.length:Int)) then
  idx a0 s3 >>= fun x5 =>
  if decide (x5=a1) then
   some (.inl (.inl s3))
  else
   some (.inr (w64 (s3+1)))
 else
  some (.inl (.inr ()))
def z3r (a0:List V3) (a1:V3):Option (Int) :=
 z6b (iter (z5u a0 a1) 0) fun s2 =>
 some (-1)
theorem z5s (a0:List V3) (a1:V3):z2b Tryz.prog 17 [.rd (z03 aZ) a0,.rd aZ a1] [] (z3r a0 a1) (fun r nv=>⟨[.rd z0j r],[]⟩):=by
 refine z37 19 Tryz.func17 Z Z Z fun H w=>?_
 refine gSR<|Eb Z (bx 1 Z) fun v1=>Zb Z<|z84 (fun (s2:Unit) aa ww=>Sta (ctx 19 H [] w) [] [] aa ww) ?_ (fun s2=>?_)
 ·refine gSR<|Zb Z<|z27 (fun (s3:Int) aa ww=>Sta (ctx 19 H [] w) [(0,.rd (z03 aZ) a0),(3,.val (z0f v1 0)),(5,.rd z0j s3)] [(1,some (v1,.box 45 [.rd aZ a1]))] aa ww) (fun aa ww h=>Zu h [1]) (fun s3=>?_)
  refine z0w<|gSR<|Zm Z<|Zm Z<|Zq (z5m Z .rd Z tu29)<|Zq (I.lss Z Z)<|Zj Z (fun h4=>?_) (fun h4=>?_)
  ·refine Zt<|z0w<|z67<|z0w<|zfd mixed (by kernel_rfl)<|Rq Z (mv Z)<|Rq Z (mv Z)<|z6w fun x5 h6=>Rq Z (ixR Z Z h6 tu29 z5n Z)<|Rq Z (ldR Z z8v)<|Rq Z (ld 1 Z Z fH z8v Z)<|Rq Z (eqA Z Z zy3 Z Z zyi)<|zpo<|z0t<|gIf Z Z (fun h7=>?_) (fun h7=>?_)
   ·refine gSR<|Zm Z<|Zb Z<|z0s<|z3l<|z14<|z6f<|z5z<|Ze [] [] Z
   ·refine z31<|z3o<|z0t<|z2d<|Zm Z<|Zq (I.add Z Z)<|Za Z<|z21<|z1x (fun aa ww h=>Zu h [1])
  ·refine z28<|z16<|z15<|z7p (fun aa ww h=>Zu h [])
 ·refine gSR<|Zb Z<|z0s<|Ze [] [] Z
end
section
open Go Go.Shelf
def zpa:Go.Shelf.Ren:=⟨fun | 6=>47 | 15=>94 | 14=>93 | 28=>139 | 29=>105 | 20=>131 | 21=>132 | 22=>133 | 23=>134 | 24=>135 | 25=>136 | 26=>137 | 27=>138 | 46=>180 | 47=>181 | 48=>182 | 49=>183 | 50=>184 | 57=>213 | n=>n, fun | 22=>29 | 24=>45 | 25=>48 | 3=>3 | 39=>143 | 0=>0 | 53=>34 | 55=>35 | 4=>4 | 46=>181 | 45=>180 | 50=>106 | 5=>5 | 9=>9 | 66=>225 | 70=>229 | 76=>260 | 77=>261 | n=>n, fun | n=>n⟩
theorem zw9:Go.Proofs.SlLaysF0.n6 Tryz.prog zpa:={
 mixed:=by kernel_rfl
 f6:=⟨Tryz.f47.name, by decide,Tryz.func47.trans (congrArg some (by kernel_rfl))⟩
 f14:=⟨Tryz.f93.name, by decide,Tryz.func93.trans (congrArg some (by kernel_rfl))⟩
 f15:=Tryz.func94.trans (congrArg some (by kernel_rfl))
 f20:=⟨Tryz.f131.name, by decide,Tryz.func131.trans (congrArg some (by kernel_rfl))⟩
 f21:=⟨Tryz.f132.name, by decide,Tryz.func132.trans (congrArg some (by kernel_rfl))⟩
 f22:=⟨Tryz.f133.name, by decide,Tryz.func133.trans (congrArg some (by kernel_rfl))⟩
 f23:=⟨Tryz.f134.name, by decide,Tryz.func134.trans (congrArg some (by kernel_rfl))⟩
 f24:=⟨Tryz.f135.name, by decide,Tryz.func135.trans (congrArg some (by kernel_rfl))⟩
 f25:=⟨Tryz.f136.name, by decide,Tryz.func136.trans (congrArg some (by kernel_rfl))⟩
 f26:=⟨Tryz.f137.name, by decide,Tryz.func137.trans (congrArg some (by kernel_rfl))⟩
 f27:=⟨Tryz.f138.name, by decide,Tryz.func138.trans (congrArg some (by kernel_rfl))⟩
 f28:=Tryz.func139.trans (congrArg some (by kernel_rfl))
 f29:=Tryz.func105.trans (congrArg some (by kernel_rfl))
 f46:=⟨Tryz.f180.name, by decide,Tryz.func180.trans (congrArg some (by kernel_rfl))⟩
 f47:=Tryz.func181.trans (congrArg some (by kernel_rfl))
 f48:=Tryz.func182.trans (congrArg some (by kernel_rfl))
 f49:=⟨Tryz.f183.name, by decide,Tryz.func183.trans (congrArg some (by kernel_rfl))⟩
 f50:=⟨Tryz.f184.name, by decide,Tryz.func184.trans (congrArg some (by kernel_rfl))⟩
 f57:=⟨Tryz.f213.name, by decide,Tryz.func213.trans (congrArg some (by kernel_rfl))⟩
 t0:=Tryz.underlying0
 a0:=Tryz.isAgg0
 z0:=Tryz.sizeOf0
 v0:=Tryz.zeroValue0
 t3:=Tryz.underlying3
 a3:=Tryz.isAgg3
 z3:=Tryz.sizeOf3
 v3:=Tryz.zeroValue3
 t4:=Tryz.underlying4
 a4:=Tryz.isAgg4
 z4:=Tryz.sizeOf4
 v4:=Tryz.zeroValue4
 t5:=Tryz.underlying5
 a5:=Tryz.isAgg5
 z5:=Tryz.sizeOf5
 v5:=Tryz.zeroValue5
 t9:=Tryz.underlying9
 a9:=Tryz.isAgg9
 z9:=Tryz.sizeOf9
 v9:=Tryz.zeroValue9
 t22:=Tryz.underlying29
 a22:=Tryz.isAgg29
 z22:=Tryz.sizeOf29
 v22:=Tryz.zeroValue29
 t25:=Tryz.underlying48
 a25:=Tryz.isAgg48
 z25:=Tryz.sizeOf48
 v25:=Tryz.zeroValue48
 t39:=Tryz.underlying143
 a39:=Tryz.isAgg143
 z39:=Tryz.sizeOf143
 v39:=Tryz.zeroValue143
 t45:=Tryz.underlying180
 a45:=Tryz.isAgg180
 z45:=Tryz.sizeOf180
 v45:=Tryz.zeroValue180
 t46:=Tryz.underlying181
 a46:=Tryz.isAgg181
 z46:=Tryz.sizeOf181
 v46:=Tryz.zeroValue181
 t50:=Tryz.underlying106
 a50:=Tryz.isAgg106
 z50:=Tryz.sizeOf106
 v50:=Tryz.zeroValue106
 t53:=Tryz.underlying34
 a53:=Tryz.isAgg34
 z53:=Tryz.sizeOf34
 v53:=Tryz.zeroValue34
 t55:=Tryz.underlying35
 a55:=Tryz.isAgg35
 z55:=Tryz.sizeOf35
 v55:=Tryz.zeroValue35
 t66:=Tryz.underlying225
 a66:=Tryz.isAgg225
 z66:=Tryz.sizeOf225
 v66:=Tryz.zeroValue225
 t70:=Tryz.underlying229
 a70:=Tryz.isAgg229
 z70:=Tryz.sizeOf229
 v70:=Tryz.zeroValue229
 t76:=Tryz.underlying260
 a76:=Tryz.isAgg260
 z76:=Tryz.sizeOf260
 v76:=Tryz.zeroValue260
 t77:=Tryz.underlying261
 a77:=Tryz.isAgg261
 z77:=Tryz.sizeOf261
 v77:=Tryz.zeroValue261 }
end
section
open Go Go.Shelf Go.RowKit Go.Lib Go.Sort
def z48 (x:V3):List Value:=x.toList.map fun c=>Value.int .u8 (c.toNat:Int)
theorem z9y (x:V3):(z48 x).length=32:=by simp [z48]
theorem zr5 (x y:V3) (b c:Nat) (W:World) (hx:∀ j u,(z48 x)[j]? = some u→W.cell? ⟨b,0+j,none⟩=some u) (hy:∀ j u,(z48 y)[j]? = some u→W.cell? ⟨c,0+j,none⟩=some u) :
  (callFunc 140 #[.slice (some ⟨b,0,none⟩) 32 32,.slice (some ⟨c,0,none⟩) 32 32]).run Tryz.prog W=.ok (.value (.int .i64 (Lib.compareBytes x.toList y.toList))) W:=by
 have lx:x.toList.length=32:=by simp
 have ly:y.toList.length=32:=by simp
 have e:=ze2 (P:=Tryz.prog) (w:=W) (p:=some ⟨b,0,none⟩) (q:=some ⟨c,0,none⟩) (c:=32) (d:=32) (x:=x.toList) (y:=y.toList) (xs:=z48 x) (ys:=z48 y)
  ⟨by rw [z9y,lx],.inr ⟨b,0,none,32, by rfl, by omega, by decide,.inr rfl,hx⟩⟩ rfl ⟨by rw [z9y,ly],.inr ⟨c,0,none,32, by rfl, by omega, by decide,.inr rfl,hy⟩⟩ rfl
 rw [lx,ly] at e
 rw [run_callFunc_extern Tryz.func140 rfl rfl (by kernel_rfl) (by kernel_rfl),e]
 rfl
set_option maxHeartbeats 1000000 in
set_option maxRecDepth 100000 in
theorem zgz (x y:V3) (b c:Nat) (W:World) (hx:∀ j u,(z48 x)[j]? = some u→W.cell? ⟨b,0+j,none⟩=some u) (hy:∀ j u,(z48 y)[j]? = some u→W.cell? ⟨c,0+j,none⟩=some u) :
  Calls Tryz.prog 95 #[.slice (some ⟨b,0,none⟩) 32 32,.slice (some ⟨c,0,none⟩) 32 32] W fun e w'=>e=.returned (.int .i64 (Lib.compareBytes x.toList y.toList))∧w'=W:=by
 have e:=zr5 x y b c W hx hy
 go_enter Tryz.func95,Tryz.ntmps95
 go_wp2
 go_ret
 exact ⟨rfl,rfl⟩
theorem zkg {w:World} {b j:Nat} {c:Array Value} {T:TypeId} {fr:Nat × Nat} {u:Value} (h:w.heap[b]? = some (.cells c T fr)) (hj:c[j]? = some u):w.cell? ⟨b,0+j,none⟩=some u:=by
 unfold World.cell?
 rw [h]
 simpa using hj
theorem zue (W:World) (xs ys:List Value) (n j:Nat) (u:Value) (h:xs[j]? = some u):(((W.alloc (.cells xs.toArray 45)).alloc (.cells ys.toArray 45)).drewN n).cell? ⟨W.heap.size,0+j,none⟩=some u :=
 zkg (c:=xs.toArray) (T:=45) (fr:=(0,0)) (by
  show ((W.heap.push _).push _)[W.heap.size]? = _
  rw [Array.getElem?_push_lt (by simp)]; simp) (by simpa using h)
theorem ztq (W:World) (xs ys:List Value) (n j:Nat) (u:Value) (h:ys[j]? = some u):(((W.alloc (.cells xs.toArray 45)).alloc (.cells ys.toArray 45)).drewN n).cell? ⟨W.heap.size+1,0+j,none⟩=some u :=
 zkg (c:=ys.toArray) (T:=45) (fr:=(0,0)) (by
  show ((W.heap.push _).push _)[W.heap.size+1]? = _
  have:W.heap.size+1=(W.heap.push (Obj.cells xs.toArray 45)).size:=by simp
  rw [this,Array.getElem?_push_size]) (by simpa using h)
set_option maxHeartbeats 1000000 in
set_option maxRecDepth 100000 in
theorem zgs (x y:V3) (W:World):Calls Tryz.prog 48 #[.agg (z48 x).toArray,.agg (z48 y).toArray] W fun e w'=>e=.returned (.int .i64 (Lib.compareBytes x.toList y.toList))∧∃ q os',w'=grow (W.drewN q) os':=by
 have c0:=zue W (z48 x) (z48 y)
 have c1:=ztq W (z48 x) (z48 y)
 go_enter Tryz.func48,Tryz.ntmps48
 go_wp2
 go_quiet (first | (go_at_call 95; refine Calls.quiet_of_same (zgz x y _ _ _ (c0 _) (c1 _))))
 go_wp2
 go_ret
 exact ⟨rfl,nq,#[.cells (z48 x).toArray 45,.cells (z48 y).toArray 45],rfl⟩
end
section
open Go Go.RowKit Go.Sort
theorem zsc {α:Type} [Inhabited α] (enc:α→List Value) (k:Nat) (hk:∀ x,(enc x).length=k):∀ (l:List α) (t:Nat),t<l.length * k→(l.flatMap enc)[t]! = (enc l[t / k]!)[t % k]!
 | [],t,h=>by simp at h
 | x::l,t,h=>by
  have hx:=hk x
  have k0:0<k:=by
   rcases Nat.eq_zero_or_pos k with e | e
   ·subst e; simp at h
   ·exact e
  rw [List.flatMap_cons]
  by_cases ht:t<k
  ·rw [List.getElem!_eq_getElem?_getD,List.getElem?_append_left (by omega),Nat.div_eq_of_lt ht,Nat.mod_eq_of_lt ht]
   simp
  ·have hl:t - k<l.length * k:=by
    simp only [List.length_cons,Nat.add_mul,Nat.one_mul] at h; omega
   have ih:=zsc enc k hk l (t - k) hl
   have e1:t / k=(t - k) / k+1:=by
    have h2:=Nat.add_div_right (t - k) k0
    rw [Nat.sub_add_cancel (by omega)] at h2; exact h2
   have e2:t % k=(t - k) % k:=by rw [Nat.mod_eq_sub_mod (by omega)]
   rw [List.getElem!_eq_getElem?_getD,List.getElem?_append_right (by omega),hx,e1,e2,← List.getElem!_eq_getElem?_getD,ih]
   simp
theorem zjm {α:Type} (enc:α→List Value) (k:Nat) (hk:∀ x,(enc x).length=k):∀ l:List α,(l.flatMap enc).length=l.length * k
 | []=>by simp
 | x::l=>by rw [List.flatMap_cons,List.length_append,hk,zjm enc k hk l,List.length_cons,Nat.add_mul,Nat.one_mul,Nat.add_comm]
theorem zp5 {α:Type} [Inhabited α] (enc:α→List Value) (k:Nat) (hk:∀ x,(enc x).length=k) (l:List α):flatK enc k l.toArray=(l.flatMap enc).toArray:=by
 refine ext_get! (by rw [size_flatK]; simp only [List.size_toArray,zjm enc k hk]) fun t ht=>?_
 rw [size_flatK,List.size_toArray] at ht
 rw [get_flatK _ _ _ _ (by simpa using ht)]
 have:=zsc enc k hk l t ht
 simp at this ⊢
 rw [this]
theorem ze1 {α:Type} [Inhabited α] (enc:α→List Value) (k:Nat) (hk:∀ x,(enc x).length=k) {w:World} {b:Nat} {C:Array Value} {T:TypeId} (l:List α) (hb:w.heap[b]? = some (.cells C T (0,0))) (hc:C.toList.take (l.length * k)=l.flatMap enc):HoldsK enc k w b 0 l.toArray:=by
 intro j hj
 rw [zp5 enc k hk] at hj ⊢
 have hj':j<(l.flatMap enc).length:=by simpa using hj
 constructor
 ·refine zkg hb ?_
  have e:(C.toList.take (l.length * k))[j]? = (l.flatMap enc)[j]? := by rw [hc]
  rw [List.getElem?_take_of_lt (by rw [zjm enc k hk] at hj'; exact hj'),List.getElem?_eq_getElem hj'] at e
  rw [← Array.getElem?_toList,e]
  have:((l.flatMap enc).toArray)[j]! = (l.flatMap enc)[j]:=by rw [getElem!_pos _ j (by simpa using hj')]; simp
  rw [this]; rfl
 ·simp [World.frozen?,hb]
theorem zdh {α:Type} [Inhabited α] (enc:α→List Value) (k:Nat) (w:World) (b n:Nat) (d:Array α) (os:Array Obj) {i:Nat} (hi:i<w.heap.size) (hne:i≠b):(sortWorldK enc k w b 0 n d os).heap[i]? = w.heap[i]? := by
 show (w.heap.modify b _++os)[i]? = _
 rw [Array.getElem?_append_left (by simpa using hi),Array.getElem?_modify,if_neg (fun e=>hne e.symm)]
theorem znc {α:Type} [Inhabited α] (enc:α→List Value) (k:Nat) (w:World) {b:Nat} (n:Nat) (d:Array α) (os:Array Obj) {C:Array Value} {T:TypeId} {fr:Nat × Nat} (hb:w.heap[b]? = some (.cells C T fr)):(sortWorldK enc k w b 0 n d os).heap[b]? = some (.cells (putCells id 0 (flatK enc k d) C) T fr):=by
 have hlt:b<w.heap.size:=(Array.getElem?_eq_some_iff.1 hb).1
 show (w.heap.modify b _++os)[b]? = _
 rw [Array.getElem?_append_left (by simpa using hlt),Array.getElem?_modify,if_pos rfl,hb]
 rfl
theorem zlo {α:Type} [Inhabited α] (enc:α→List Value) (k:Nat) (hk:∀ x,(enc x).length=k) (l:List α) (C:Array Value) (hC:l.length * k≤C.size):(putCells id 0 (flatK enc k l.toArray) C).toList.take (l.length * k)=l.flatMap enc:=by
 rw [zp5 enc k hk]
 apply List.ext_getElem?
 intro t
 by_cases ht:t<l.length * k
 ·rw [List.getElem?_take_of_lt ht,Array.getElem?_toList]
  have hl:t<(l.flatMap enc).length:=by rw [zjm enc k hk]; exact ht
  simp only [putCells,Array.getElem?_mapIdx,Nat.sub_zero,Nat.zero_add,List.size_toArray,Nat.zero_le,true_and]
  rw [Array.getElem?_eq_getElem (by omega),Option.map_some,if_pos hl,List.getElem?_eq_getElem hl]
  have:((l.flatMap enc).toArray)[t]! = (l.flatMap enc)[t]:=by rw [getElem!_pos _ t (by simpa using hl)]; simp
  rw [this]; rfl
 ·rw [List.getElem?_eq_none (by simp; omega),List.getElem?_eq_none (by rw [zjm enc k hk]; omega)]
theorem zji {S:Blk} {w:World}:∀ {l:List V3} {cs:List Value},z51 (z2g 32 u8R) S w cs l→cs=l.flatMap z48
 | [],cs,h=>h
 | x::l,cs,h=>by
  obtain ⟨c,d,rfl,h1,h2⟩:=h
  rw [List.flatMap_cons,zji h2,zf2 h1]; rfl
theorem zi1 {S:Blk} {w:World}:∀ (l:List V3),z51 (z2g 32 u8R) S w (l.flatMap z48) l
 | []=>rfl
 | x::l=>⟨z48 x,l.flatMap z48,List.flatMap_cons,zfm x.toList,zi1 l⟩
theorem zq4 {P:Program} {f g T:Nat} (srt:List V3→List V3) (hlen:∀ l,(srt l).length=l.length)
  (hnone:∀ (cap:Nat) (w:World),Calls P f #[.slice none 0 cap,.func (.func g) #[] #[]] w fun e w'=>e=.returned (.tuple #[])∧w'=w)
  (hsome:∀ (blk cap:Nat) (d:Array V3) (w:World),HoldsK z48 32 w blk 0 d→blk<w.heap.size→d.size<4611686018427387904 →
   Calls P f #[.slice (some ⟨blk,0,none⟩) d.size cap,.func (.func g) #[] #[]] w fun e w'=>e=.returned (.tuple #[])∧∃ n os,w'=sortWorldK z48 32 w blk 0 n (srt d.toList).toArray os)
  (p0:Value) (c0:List V3):z2b P f [.val p0,.val (.func (.func g) #[] #[])] [(1,some (p0,.list (z2g 32 u8R) T c0))] (chk (c0.length≤1000000) >>= fun _=>some (srt c0))
   (fun r nv=>⟨[],[(1,some (p0,.list (z2g 32 u8R) T r))]⟩):=by
 intro r hr H vs w hvs hres
 have hb:c0.length≤1000000∧r=srt c0:=by
  unfold chk at hr
  split at hr
  ·rename_i h; simp at hr; exact ⟨h,hr.symm⟩
  ·simp at hr
 obtain ⟨hlen0,rfl⟩:=hb
 match vs,hvs with
 | [v0,v1],hvs =>
 obtain ⟨h0,h1,_⟩:=hvs
 have e0:v0=p0:=h0.1
 have e1:v1=.func (.func g) #[] #[]:=h1.1
 subst e0; subst e1
 have hc:=hres.conts 1 v0 _ rfl
 have only:∀ r v c (q:z44),lr [(1,some (v0,q))] r=some (v,c)→r=1∧v=v0∧c=q:=fun r v c q h=>by
  rw [z2q] at h
  split at h
  ·rename_i e; cases h; exact ⟨e.symm,rfl,rfl⟩
  ·simp [lr,lk] at h
 rcases hc with ⟨rfl,rfl⟩ | ⟨b,o,k1,k2,b',cap,C,k3,rfl,k4,k5,k6,k7⟩
 ·refine (hnone 0 w).mono fun e w' ⟨he,hw⟩=>?_
  subst hw
  refine ⟨fun _=>undef,[],he,trivial, fun r v c h=>?_, fun r v c r' v' c' h h' hne=>?_, fun r v c h b hb=>?_,zdx.rfl'⟩
  ·obtain ⟨rfl,rfl,rfl⟩:=only _ _ _ _ h
   have:srt []=[]:=List.eq_nil_of_length_eq_zero (by rw [hlen]; rfl)
   exact .inl ⟨rfl,this⟩
  ·exact absurd ((only _ _ _ _ h).1.trans (only _ _ _ _ h').1.symm) hne
  ·obtain ⟨rfl,rfl,rfl⟩:=only _ _ _ _ h; cases hb
 ·subst k3
  simp only [z47,Option.some.injEq] at k1
  subst k1
  have hlt:b'<w.heap.size:=(Array.getElem?_eq_some_iff.1 k2).1
  have hrow:=zji k7
  have hsz:(z2g 32 u8R).sz=32:=rfl
  rw [hsz] at k6 hrow
  have hC:c0.length * 32≤C.size:=by rw [k6]; exact Nat.mul_le_mul_right _ k4
  refine (hsome b' cap c0.toArray w (ze1 z48 32 z9y c0 k2 hrow) hlt (by simp; omega)).mono fun e w' ⟨he,n,os,hw⟩=>?_
  subst hw
  refine ⟨fun _=>undef,[],he,trivial, fun r v c h=>?_, fun r v c r' v' c' h h' hne=>?_, fun r v c h b hb=>?_,rfl,rfl,rfl,?_, fun i hi=>?_⟩
  ·obtain ⟨rfl,rfl,rfl⟩:=only _ _ _ _ h
   refine .inr ⟨b',_,rfl,znc z48 32 w n _ os k2,b',cap,_, by rw [hlen],rfl, by rw [hlen]; exact k4,k5,?_,?_⟩
   ·rw [hsz,← k6]; simp [putCells]
   ·rw [hsz,zlo z48 32 z9y (srt c0) C (by rw [hlen]; exact hC)]
    exact zi1 _
  ·exact absurd ((only _ _ _ _ h).1.trans (only _ _ _ _ h').1.symm) hne
  ·obtain ⟨rfl,rfl,rfl⟩:=only _ _ _ _ h
   exact .inr ⟨1,_,_,rfl,hb⟩
  ·show w.heap.size≤(w.heap.modify b' _++os).size
   simp
  ·exact zdh z48 32 w b' n _ os hi.1 fun e=>hi.2 ⟨1,_,_,rfl, by rw [e]; rfl⟩
end
section
open Go
section
variable {σ β α ρ τ:Type}
theorem bs (x:α) (f:α→Option β):(some x >>= f)=f x:=rfl
theorem bS (x:α) (f:α→Option β):(some x >>= f)=f x:=Eq.trans (rfl:(some x >>= f)=f x) rfl
theorem zu4 (r:ρ) (k:τ→Option ρ):z6b (some (.inl r)) k=some r:=rfl
theorem zmy (t:τ) (k:τ→Option ρ):z6b (some (.inr t)) k=k t:=rfl
theorem z1h {F:σ→Option (Sum β σ)} {s:σ} {b:β} (h:F s=some (.inl b)):iter F s=some b:=by rw [iter,h]; rfl
theorem z1s {F:σ→Option (Sum β σ)} {s s':σ} (h:F s=some (.inr s')):iter F s=iter F s':=by rw [iter,h]; rfl
theorem zr2 {F:σ→Option (Sum β σ)} (I:σ→Prop) (μ:σ→Nat) (Q:β→Prop) (h:∀ s,I s→(∃ b,F s=some (.inl b)∧Q b)∨∃ s',F s=some (.inr s')∧I s'∧μ s'<μ s) (s:σ) (hs:I s):∃ b,iter F s=some b∧Q b:=by
 have key:∀ n s,μ s=n→I s→∃ b,iter F s=some b∧Q b:=by
  intro n
  induction n using Nat.strongRecOn with
  | _ n ih =>
   intro s hn hs
   rcases h s hs with ⟨b,h1,h2⟩ | ⟨s',h1,h2,h3⟩
   ·exact ⟨b,z1h h1,h2⟩
   ·rw [z1s h1]; exact ih (μ s') (hn ▸ h3) s' rfl h2
 exact key _ s rfl hs
theorem z7n {F:σ→Option (Sum β σ)} (n:Nat) (I:Nat→σ→Prop) (Q:β→Prop) (h1:∀ i s,i<n→I i s→∃ s',F s=some (.inr s')∧I (i+1) s') (h2:∀ s,I n s→∃ b,F s=some (.inl b)∧Q b) (s:σ) (i:Nat) (hi:i≤n) (hs:I i s):∃ b,iter F s=some b∧Q b:=by
 have key:∀ k i s,n - i=k→i≤n→I i s→∃ b,iter F s=some b∧Q b:=by
  intro k
  induction k with
  | zero =>
   intro i s hk hi hs
   have:i=n:=by omega
   subst this
   obtain ⟨b,h3,h4⟩:=h2 s hs
   exact ⟨b,z1h h3,h4⟩
  | succ k ih =>
   intro i s hk hi hs
   obtain ⟨s',h3,h4⟩:=h1 i s (by omega) hs
   rw [z1s h3]; exact ih (i+1) s' (by omega) (by omega) h4
 exact key _ i s rfl hi hs
theorem z3a {F:σ→Option (Sum β σ)} (n:Nat) (g:Nat→σ) {b:β} (h1:∀ i,i<n→F (g i)=some (.inr (g (i+1)))) (h2:F (g n)=some (.inl b)):iter F (g 0)=some b:=by
 obtain ⟨b',h3,rfl⟩:=z7n n (fun i s=>s=g i) (fun x=>x=b) (fun i s hi hs=>⟨_, by rw [hs]; exact h1 i hi,rfl⟩) (fun s hs=>⟨_, by rw [hs]; exact h2,rfl⟩) (g 0) 0 (Nat.zero_le _) rfl
 exact h3
theorem z0g {l:List α} {i:Nat} (h:i<l.length):idx l (i:Int)=some l[i]:=by simp [idx,h]
theorem zu6 {l:List α} {i:Int} (h0:0≤i) (h:i.toNat<l.length):idx l i=some l[i.toNat]:=by simp [idx,h0,h]
theorem z65 {n:Nat} {v:Vector α n} {i:Nat} (h:i<n):z5g v (i:Int)=some v[i]:=by unfold z5g; rw [z0g (by simpa using h)]; simp
theorem zbg {n:Nat} {v:Vector α n} {i:Int} {x:α} {j:Nat} (hj:j<n):(zcf v i x)[j]=if i.toNat=j then x else v[j]:=by
 unfold zcf; rw [Vector.getElem_setIfInBounds hj]
theorem z2a {p:Prop} [Decidable p] (h:p):chk p=some ():=by simp [chk,h]
theorem z19 {by_:Nat} {b c:List α} (h:(b.length+c.length) * by_≤140737488355328):app by_ b c=some (b++c):=by simp [app,h]
theorem zlr {by_:Nat} {x:α} {n:Nat} (h:by_ * n≤281474976710656) (h2:n≤9223372036854775807):mkn by_ x (n:Int)=some (List.replicate n x):=by
 unfold mkn; rw [if_pos ⟨by omega, by simpa using h, by omega⟩]; simp
theorem zd9 {b:List α} {i j:Nat} (h:i≤j) (hj:j≤b.length):cut b (i:Int) (j:Int)=some ((b.drop i).take (j - i)):=by
 unfold cut; rw [if_pos ⟨by omega, by omega, by omega⟩]; simp
end
theorem z0r {x:Int} (h1:-9223372036854775808≤x) (h2:x≤9223372036854775807):w64 x=x:=zb1 h1 h2
theorem z0i {n:Nat} (h:n<9223372036854775807):w64 ((n:Int)+1)=((n+1:Nat):Int):=by rw [z0r (by omega) (by omega)]; omega
theorem zan (a:UInt64) (n:Nat):(z5p a n).toNat=a.toNat / 2 ^ (min n 64):=by
 unfold z5p
 have h1:=UInt64.toNat_lt a
 have h2:a.toNat / 2 ^ (min n 64)≤a.toNat:=Nat.div_le_self _ _
 simp; omega
theorem zku (a:UInt64) (n:Nat):(zkw a n).toNat=a.toNat * 2 ^ (min n 64) % 18446744073709551616:=by
 unfold zkw; simp
theorem zxk (a:UInt64) (k:Nat) (hk:k<64):((z5p a k &&& 1)==1)=a.toNat.testBit k:=by
 rw [Bool.eq_iff_iff,beq_iff_eq,← UInt64.toNat_inj,UInt64.toNat_and,zan,Nat.min_eq_left (by omega)]
 have:(1:UInt64).toNat=1:=rfl
 rw [this,Nat.and_one_is_mod,Nat.testBit_eq_decide_div_mod_eq]
 simp
end
section
open Go
def bitLen (n:Nat):Nat:=if n=0 then 0 else n.log2+1
theorem z9o (n k:Nat) (h:2 ^ k≤n):bitLen n=k+bitLen (n / 2 ^ k):=by
 have hp:0<2 ^ k:=Nat.pow_pos (by decide)
 have h1:n / 2 ^ k≠0:=by
  have:1≤n / 2 ^ k:=(Nat.le_div_iff_mul_le hp).2 (by rw [Nat.one_mul]; exact h)
  omega
 have h2:n≠0:=by omega
 unfold bitLen
 rw [if_neg h1,if_neg h2]
 have h3:n.log2=k+(n / 2 ^ k).log2:=by
  rw [Nat.log2_eq_iff h2]
  have h4:=(Nat.log2_eq_iff h1).1 rfl
  refine ⟨?_,?_⟩
  ·rw [Nat.pow_add,Nat.mul_comm]; exact (Nat.le_div_iff_mul_le hp).1 h4.1
  ·rw [Nat.add_assoc,Nat.pow_add,Nat.mul_comm]; exact (Nat.div_lt_iff_lt_mul hp).1 h4.2
 omega
theorem zcm (n k:Nat) (h:n<2 ^ k):bitLen n≤k:=by
 unfold bitLen; split
 ·omega
 ·rename_i h0; have:=(Nat.log2_lt h0).2 h; omega
def zpf:ByteArray:=⟨#[0,1,2,2,3,3,3,3,4,4,4,4,4,4,4,4,5,5,5,5,5,5,5,5,5,5,5,5,5,5,5,5,6,6,6,6,6,6,6,6,6,6,6,6,6,6,6,6,6,6,6,6,6,6,6,6,6,6,6,6,6,6,6,6,7,7,7,7,7,7,7,7,7,7,7,7,7,7,7,7,7,7,7,7,7,7,7,7,7,7,7,7,7,7,7,7,7,7,7,7,7,7,7,7,7,7,7,7,7,7,7,7,7,7,7,7,7,7,7,7,7,7,7,7,7,7,7,7,8,8,8,8,8,8,8,8,8,8,8,8,8,8,8,8,8,8,8,8,8,8,8,8,8,8,8,8,8,8,8,8,8,8,8,8,8,8,8,8,8,8,8,8,8,8,8,8,8,8,8,8,8,8,8,8,8,8,8,8,8,8,8,8,8,8,8,8,8,8,8,8,8,8,8,8,8,8,8,8,8,8,8,8,8,8,8,8,8,8,8,8,8,8,8,8,8,8,8,8,8,8,8,8,8,8,8,8,8,8,8,8,8,8,8,8,8,8,8,8,8,8,8,8,8,8,8,8]⟩
set_option maxRecDepth 100000 in
theorem zr1:∀ x:Fin 256,zpf.data[x.val]? = some (UInt8.ofNat (bitLen x.val)):=by decide +kernel
def z20 (n:Nat):List UInt8:=if h:n=0 then [] else UInt8.ofNat n::z20 (n / 256)
termination_by n
theorem zca:z20 0=[]:=by rw [z20]; simp
theorem zdn (n:Nat) (h:n≠0):z20 n=UInt8.ofNat n::z20 (n / 256):=by rw [z20]; simp [h]
def z12 (n:Nat):List UInt8:=if n≤247 then [UInt8.ofNat n] else UInt8.ofNat (247+(z20 n).length)::(z20 n).reverse
theorem zgp (n:Nat):(z20 n).length=(bitLen n+7) / 8:=by
 induction n using Nat.strongRecOn with
 | _ n ih =>
  by_cases h:n=0
  ·subst h; rw [zca]; simp [bitLen]
  ·rw [zdn n h,List.length_cons,ih (n / 256) (by omega)]
   by_cases h2:n<256
   ·have:n / 256=0:=by omega
    rw [this]
    have h3:bitLen n≤8:=zcm n 8 h2
    have h4:1≤bitLen n:=by unfold bitLen; rw [if_neg h]; omega
    simp [bitLen] at h3 h4 ⊢
    rw [if_neg h] at h3 h4 ⊢; omega
   ·have:=z9o n 8 (by omega)
    rw [show (2:Nat) ^ 8=256 from rfl] at this
    omega
theorem zmp (n:Nat):∀ (i:Nat),i<(z20 n).length→(z20 n)[i]? = some (UInt8.ofNat (n / 256 ^ i)):=by
 induction n using Nat.strongRecOn with
 | _ n ih =>
  intro i hi
  by_cases h:n=0
  ·subst h; rw [zca] at hi; simp at hi
  ·rw [zdn n h] at hi ⊢
   cases i with
   | zero=>simp
   | succ i =>
    simp only [List.length_cons] at hi
    rw [List.getElem?_cons_succ,ih (n / 256) (by omega) i (by omega),Nat.div_div_eq_div_mul]
    congr 3
    rw [Nat.pow_succ,Nat.mul_comm]
theorem zf7 (n:Nat) (h:n<18446744073709551616):(z20 n).length≤8:=by
 rw [zgp]; have:=zcm n 64 (by simpa using h); omega
theorem z0b (n:Nat) (h:n<18446744073709551616):1≤(z12 n).length∧(z12 n).length≤9:=by
 unfold z12; have:=zf7 n h; split <;> simp <;> omega
def z8u (n i:Nat):List UInt8:=UInt8.ofNat (247+(z20 n).length)::(List.replicate ((z20 n).length - i) 0++((z20 n).take i).reverse)
theorem zk5 (n i:Nat) (h:i≤(z20 n).length):(z8u n i).length=(z20 n).length+1:=by simp [z8u]; omega
theorem zj9 (n:Nat):(List.replicate ((z20 n).length+1) (0:UInt8)).set 0 (UInt8.ofNat (247+(z20 n).length))=z8u n 0:=by
 simp [z8u,List.replicate_succ]
theorem zjd (n i:Nat) (h:i<(z20 n).length):(z8u n i).set ((z20 n).length - i) (UInt8.ofNat (n / 2 ^ (8 * i)))=z8u n (i+1):=by
 have hg:=zmp n i h
 have he:n / 2 ^ (8 * i)=n / 256 ^ i:=by rw [Nat.pow_mul]
 rw [he]
 unfold z8u
 obtain ⟨m,hm⟩:∃ m,(z20 n).length - i=m+1:=⟨(z20 n).length - i - 1, by omega⟩
 have hm2:(z20 n).length - (i+1)=m:=by omega
 rw [hm,hm2,List.set_cons_succ,List.take_succ_eq_append_getElem h,List.reverse_append,List.reverse_singleton,List.replicate_succ']
 rw [List.getElem?_eq_getElem h,Option.some.injEq] at hg
 rw [hg,List.append_assoc,List.set_append_right _ _ (by simp)]
 simp
theorem zif (n:Nat) (h:247<n):z8u n (z20 n).length=z12 n:=by
 unfold z8u z12; rw [if_neg (by omega)]; simp
theorem zit (n m:Nat) (ds:List UInt8) (hm:m≠0) (h:z20 n=ds++z20 m):z20 n=(ds++[UInt8.ofNat (m % 256)])++z20 (m / 256):=by
 rw [h,zdn m hm,List.append_assoc]
 have:UInt8.ofNat (m % 256)=UInt8.ofNat m:=by
  apply UInt8.toNat_inj.1; simp
 rw [this]; rfl
theorem zg8 {α} {l a b:List α} (h:l=a++b):a.length≤l.length:=by rw [h]; simp
def zig (n:Int):Nat:=if 0≤n then (2 * n).toNat else (-2 * n - 1).toNat
theorem zvl {n:Int} (h1:-9223372036854775808≤n) (h2:n≤9223372036854775807):zig n<18446744073709551616:=by unfold zig; split <;> omega
end
section
open Go Go.RowKit
def ze0 (x:z00):Prop:=(fun _=>True) x.Kind∧inI x.Num∧(fun _=>True) x.Bits∧(fun s:List UInt8=>s.length≤9223372036854775807) x.Text∧True
def zgl (x:z0a):Prop:=(fun _=>True) x.Kind∧(fun s:List UInt8=>s.length≤9223372036854775807) x.Key∧ze0 x.Value∧True
def zgn (x:z07):Prop:=(fun _=>True) x.E∧(fun _=>True) x.S∧True
def zdb (x:z01):Prop:=(fun _=>True) x.Author∧(fun l:List V3=>(∀ x∈l,(fun v:V3=>∀ x∈v.toList,(fun _=>True) x) x)∧l.length≤9223372036854775807) x.Preds∧(fun _=>True) x.Stamp∧zgl x.Act∧zgn x.Sig∧True
end
section
open Go
theorem zqf {n k:Nat} (hn:n<9223372036854775808) (hk:k<9223372036854775808):zxt (n:Int) (k:Int)=((n &&& k:Nat):Int):=by
 show IntKind.i64.wrap (BitVec.toNat (BitVec.ofInt 64 (n:Int) &&& BitVec.ofInt 64 (k:Int)):Int)=_
 rw [BitVec.ofInt_natCast,BitVec.ofInt_natCast,BitVec.toNat_and,BitVec.toNat_ofNat,BitVec.toNat_ofNat,Nat.mod_eq_of_lt (by omega),Nat.mod_eq_of_lt (by omega)]
 have:=Nat.and_le_left (n:=n) (m:=k)
 exact zb1 (by omega) (by omega)
def okb (c:UInt8):Bool:=decide (32≤c.toNat)&&decide (c.toNat≤126)
theorem zhk {b:List UInt8} {q:Nat} (h:q<b.length) (ha:(b[q]).toNat<128):z6u b q=((b[q]).toNat,1):=by
 unfold z6u
 exact decode_ascii ⟨b.toArray⟩ q (by show q<b.toArray.size; simpa using h) ha
theorem zpv {b:List UInt8} {q:Nat} (h:q<b.length) (ha:128≤(b[q]).toNat):128≤(z6u b q).1:=by
 unfold z6u
 have e:((ByteArray.mk b.toArray).get! (q+0)).toNat=(b[q]).toNat:=by
  show ((ByteArray.mk b.toArray).get! q).toNat=_
  simp [ByteArray.get!,h]
 simp only [Utf8.decode,e]
 rw [if_neg (by omega)]
 repeat' split
 all_goals (first | (simp only [Utf8.runeError]; omega) | (rename_i h1; simp at h1; omega) | omega)
theorem zr7 (x:Int):z9k x=some (decide (x<32) || decide (126<x)):=by
 unfold z9k
 cases decide (x<32) <;> rfl
theorem zlm (b:List UInt8):∀ (rest pre:List UInt8),b=pre++rest →
  (rest.all okb=true→iter (z0x b true) pre.length=some (.inr ()))∧(rest.all okb=false→∃ i:Nat,iter (z0x b true) pre.length=some (.inl (i:Int)))
 | [],pre,e=>by
  refine ⟨fun _=>z1h ?_, fun h=>by simp at h⟩
  subst e
  unfold z0x
  simp
 | c::rest,pre,e=>by
  have hlen:pre.length<b.length:=by rw [e]; simp
  have hget:b[pre.length]'hlen=c:=by subst e; simp
  have hF:z0x b true pre.length=if ((decide (((z6u b pre.length).1:Int)<32) || decide (126<((z6u b pre.length).1:Int)))==true) then some (.inl (.inl (pre.length:Int))) else some (.inr (pre.length+(z6u b pre.length).2)):=by
   unfold z0x
   rw [if_pos hlen]
   simp only [bs,zr7]
  cases hc:okb c with
  | false =>
   refine ⟨fun h=>by simp [hc] at h, fun _=>⟨pre.length,z1h ?_⟩⟩
   rw [hF,if_pos]
   by_cases h8:c.toNat<128
   ·rw [zhk hlen (by rw [hget]; exact h8),hget]
    simp only [okb,Bool.and_eq_false_iff,decide_eq_false_iff_not] at hc
    simp; omega
   ·have:=zpv hlen (by rw [hget]; omega)
    simp; omega
  | true =>
   simp only [okb,Bool.and_eq_true,decide_eq_true_eq] at hc
   rw [zhk hlen (by rw [hget]; omega),hget,if_neg (by simp; omega)] at hF
   have ih:=zlm b rest (pre++[c]) (by simp [e])
   simp only [List.length_append,List.length_cons,List.length_nil,Nat.zero_add] at ih
   rw [z1s hF]
   have hc':okb c=true:=by simp [okb,hc]
   simpa [hc'] using ih
theorem zdy (b:List UInt8) (hb:b.length≤9223372036854775807):∀ (rest pre:List UInt8),b=pre++rest→iter (z2k b) (pre.length:Int)=some (if rest.all okb then .inr () else .inl false)
 | [],pre,e=>by
  refine z1h ?_
  subst e
  unfold z2k
  simp
 | c::rest,pre,e=>by
  have hlen:pre.length<b.length:=by rw [e]; simp
  have hget:b[pre.length]'hlen=c:=by subst e; simp
  have hF:z2k b (pre.length:Int)=if okb c then some (.inr ((pre.length+1:Nat):Int)) else some (.inl (.inl false)):=by
   unfold z2k
   rw [if_pos (by simp <;> omega)]
   simp only [z0g hlen,hget,bs,z0i (show pre.length<9223372036854775807 by omega)]
   simp only [okb,UInt8.lt_iff_toNat_lt,UInt8.reduceToNat]
   by_cases h1:c.toNat<32
   ·have:¬ 32≤c.toNat:=by omega
    simp [h1,this]
   ·by_cases h2:126<c.toNat
    ·have:¬ c.toNat≤126:=by omega
     simp [h1,h2,this]
    ·have h3:32≤c.toNat:=by omega
     have h4:c.toNat≤126:=by omega
     simp [h1,h2,h3,h4]
  cases hc:okb c with
  | false=>rw [hc] at hF; rw [z1h hF]; simp [hc]
  | true =>
   rw [hc] at hF
   rw [z1s hF]
   have ih:=zdy b hb rest (pre++[c]) (by simp [e])
   simp only [List.length_append,List.length_cons,List.length_nil,Nat.zero_add] at ih
   rw [ih]; simp [hc]
theorem zi5 (b:List UInt8) (hb:b.length≤9223372036854775807):z4x b=some (b.all okb):=by
 have h:=zdy b hb b [] rfl
 unfold z4x
 rw [show (0:Int)=(([]:List UInt8).length:Int) from rfl,h]
 cases b.all okb <;> rfl
theorem zqg (b:List UInt8) (hb:b.length≤9223372036854775807):zbi b=some (if decide (30<(b.length:Int)) then (⟨0,0,0,[]⟩,4) else if b.all okb then (⟨3,0,0,b⟩,0) else (⟨0,0,0,[]⟩,8)):=by
 unfold zbi z33 z35
 cases decide (30<(b.length:Int))
 ·simp only [Bool.false_eq_true,if_false]
  obtain ⟨h1,h2⟩:=zlm b b [] rfl
  simp only [List.length_nil] at h1 h2
  cases h:b.all okb
  ·obtain ⟨i,hi⟩:=h2 h
   rw [hi]
   simp only [zu4,bs]
   rw [if_pos (by simp)]; rfl
  ·rw [h1 h]; rfl
 ·rfl
theorem zqj (a:UInt64):zam a=some (((a.toNat / 4503599627370496 % 2048:Nat):Int),a % 4503599627370496):=by
 unfold zam
 simp only [bs]
 have h0:=UInt64.toNat_lt a
 rw [zan]
 have e1:(2:Nat) ^ (min 52 64)=4503599627370496:=by decide
 rw [e1,z0r (by omega) (by omega), show (2047:Int)=((2047:Nat):Int) from rfl,zqf (by omega) (by omega)]
 congr 2
 ·congr 1
  exact Nat.and_two_pow_sub_one_eq_mod _ 11
 ·apply UInt64.toNat_inj.1
  rw [UInt64.toNat_and,UInt64.toNat_mod]
  exact Nat.and_two_pow_sub_one_eq_mod _ 52
theorem zvq (a:UInt64):z5j a=some ((a.toNat / 4503599627370496 % 2048:Nat):Int):=by
 unfold z5j
 have h0:=UInt64.toNat_lt a
 simp only [bs,UInt64.toNat_div,UInt64.toNat_mod,UInt64.reduceToNat]
 rw [z0r (by omega) (by omega)]
 congr 2
 omega
def zkf (a:UInt64):Nat:=a.toNat / 4503599627370496 % 2048
def zq2 (a:UInt64):Nat:=a.toNat % 4503599627370496
theorem ztx (a:UInt64):zkf a<2048:=Nat.mod_lt _ (by omega)
def zup (a:UInt64):UInt8:=if zkf a=2047 then (if zq2 a=0 then 4 else 5) else if zkf a=0 then (if zq2 a=0 then 1 else 2) else 3
theorem zsf (a:UInt64):(a % 4503599627370496==0)=decide (zq2 a=0):=by
 rw [Bool.eq_iff_iff]
 simp only [beq_iff_eq,decide_eq_true_eq,← UInt64.toNat_inj,UInt64.toNat_mod]
 rfl
theorem zpj (a:UInt64):zal a=some (zup a):=by
 unfold zal zup
 rw [zqj]
 simp only [bs]
 have hm:=zsf a
 have hne:(a % 4503599627370496 != 0)=!decide (zq2 a=0):=by rw [← hm]; rfl
 have he:((a.toNat / 4503599627370496 % 2048:Nat):Int)=(zkf a:Int):=rfl
 rw [hne,he]
 by_cases h1:zkf a=2047
 ·rw [h1]
  by_cases h2:zq2 a=0
  ·rw [decide_eq_true h2,if_pos h2]; rfl
  ·rw [decide_eq_false h2,if_neg h2]; rfl
 ·have e1:((zkf a:Int)==2047)=false:=by simp; omega
  rw [if_neg h1,e1]
  simp only [Bool.false_eq_true,if_false,bs]
  by_cases h0:zkf a=0
  ·rw [h0]
   by_cases h2:zq2 a=0
   ·rw [decide_eq_true h2,if_pos h2]; rfl
   ·rw [decide_eq_false h2,if_neg h2]; rfl
  ·have e0:((zkf a:Int) != 0)=true:=by simp; omega
   rw [e0,if_neg h0]; rfl
theorem zod (a:UInt64):z7b a=some (zup a):=by
 unfold z7b z7m zup
 rw [zvq]
 simp only [bs]
 rw [zsf a]
 have hx:=ztx a
 show z6b (if ((zkf a:Int)==0)=true then if decide (zq2 a=0)=true then some (.inl 1) else some (.inr ()) else some (.inr ())) (fun s5=>if ((zkf a:Int)==0)=true then some 2 else if decide ((zkf a:Int)<2047)=true then some 3 else if decide (zq2 a=0)=true then some 4 else some 5)=_
 by_cases h1:zkf a=2047
 ·rw [h1]
  by_cases h2:zq2 a=0 <;> simp [h2,zmy,zu4]
 ·by_cases h0:zkf a=0
  ·rw [h0]
   by_cases h2:zq2 a=0 <;> simp [h2,zmy,zu4]
  ·have e0:((zkf a:Int)==0)=false:=by simp; omega
   have e2:decide ((zkf a:Int)<2047)=true:=by simp; omega
   rw [e0,e2,if_neg h1,if_neg h0]; rfl
def zcy (a:UInt64):UInt64:=if zup a=5 then 9221120237041090560 else a
theorem zow (a:UInt64):zao a=some (zcy a):=by
 unfold zao zcy
 rw [zpj]
 simp only [bs]
 by_cases h:zup a=5 <;> simp [h]
theorem zp9 (a:UInt64):z7f a=some (zcy a):=by
 unfold z7f zcy
 rw [zod]
 simp only [bs]
 by_cases h:zup a=5 <;> simp [h]
theorem zn9 (a:UInt64):zar a=some ⟨2,0,zcy a,[]⟩:=by
 unfold zar; rw [zow]; rfl
def okV (v:z00):Bool :=
 if v.Kind=1 then decide (v.Bits=0)&&decide (v.Text=[])
 else if v.Kind=2 then decide (v.Num=0)&&decide (v.Text=[])&&decide (zcy v.Bits=v.Bits)
 else if v.Kind=3 then decide (v.Num=0)&&decide (v.Bits=0)&&decide (v.Text.length≤30)&&v.Text.all okb
 else false
theorem zps (v:z00) (hb:v.Text.length≤9223372036854775807):z7g v=some (if okV v then 0 else 8):=by
 obtain ⟨K,n,f,t⟩:=v
 unfold z7g okV
 simp only at hb ⊢
 rw [zp9,zi5 t hb]
 by_cases h1:K=1
 ·subst h1
  by_cases hf:f=0 <;> by_cases ht:t=[] <;> simp [hf,ht]
 by_cases h2:K=2
 ·subst h2
  by_cases hn:n=0 <;> by_cases ht:t=[] <;> by_cases hc:zcy f=f <;> simp [hn,ht,hc,bs]
 by_cases h3:K=3
 ·subst h3
  by_cases hl:t.length≤30
  ·have hl':(t.length:Int)≤30:=by omega
   by_cases hn:n=0 <;> by_cases hf:f=0 <;> cases t.all okb <;> simp [hn,hf,hl,hl',bs]
  ·have hl':¬ (t.length:Int)≤30:=by omega
   by_cases hn:n=0 <;> by_cases hf:f=0 <;> simp [hn,hf,hl,hl',bs]
 ·simp [h1,h2,h3]
theorem zjn (v:z00) (hb:v.Text.length≤9223372036854775807):z97 v=some (if okV v then 0 else 8):=by
 obtain ⟨K,n,f,t⟩:=v
 unfold z97 zb4 okV
 simp only at hb ⊢
 rw [zn9,zqg t hb]
 by_cases h1:K=1
 ·subst h1
  by_cases hf:f=0 <;> by_cases ht:t=[] <;> simp [hf,ht,bs]
 by_cases h2:K=2
 ·subst h2
  by_cases hc:zcy f=f
  ·by_cases hn:n=0 <;> by_cases ht:t=[] <;> simp [hn,ht,hc,bs]
  ·have hc':¬ f=zcy f:=fun e=>hc e.symm
   by_cases hn:n=0 <;> by_cases ht:t=[] <;> simp [hn,ht,hc,hc',bs]
 by_cases h3:K=3
 ·subst h3
  by_cases hl:30<(t.length:Int)
  ·have h4:¬ t.length≤30:=by omega
   rw [decide_eq_true hl,decide_eq_false h4]
   simp [bs]
  ·have h4:t.length≤30:=by omega
   rw [decide_eq_false hl,decide_eq_true h4]
   cases t.all okb <;> by_cases hn:n=0 <;> by_cases hf:f=0 <;> simp [hn,hf,bs]
 ·have e1:(K==1)=false:=by simpa using h1
  have e2:(K==2)=false:=by simpa using h2
  have e3:(K==3)=false:=by simpa using h3
  simp only [e1,e2,e3,Bool.false_eq_true,if_false,bs,h1,h2,h3]
  by_cases h0:K=0
  ·subst h0
   split <;> rfl
  ·simp [h0]
end
section
open Go
theorem zp3:∀ (n:Nat) (a:UInt64) (ds:List UInt8) (N:Nat),a.toNat=n→z20 N=ds++z20 n→(z20 N).length≤8→iter z3i (a,ds)=some (z20 N):=by
 intro n
 induction n using Nat.strongRecOn with
 | _ n ih =>
  intro a ds N ha hd hl
  by_cases h0:n=0
  ·subst h0
   refine z1h ?_
   unfold z3i
   rw [if_neg (by simp [UInt64.lt_iff_toNat_lt,ha])]
   rw [zca,List.append_nil] at hd
   rw [hd]
  ·have hF:z3i (a,ds)=some (.inr (a / 256,ds++[(a % 256).toUInt8])):=by
    unfold z3i
    rw [if_pos (by simp [UInt64.lt_iff_toNat_lt,ha]; omega)]
    have:ds.length≤8:=Nat.le_trans (zg8 hd) hl
    simp only [z19 (show (ds.length+[(a % 256).toUInt8].length) * 1≤140737488355328 by simp; omega),bs]
   rw [z1s hF]
   have hd2:=zit N n ds h0 hd
   refine ih (n / 256) (Nat.div_lt_self (by omega) (by omega)) _ _ N ?_ ?_ hl
   ·simp [ha]
   ·rw [hd2]
    congr 2
    congr 1
    apply UInt8.toNat_inj.1
    simp [ha]
theorem zid (s:List UInt8) (hl:s.length≤8):∀ (i:Nat) (acc:List UInt8),i≤s.length→acc.length+i≤100→iter (z3h s) (acc,(i:Int) - 1)=some (acc++(s.take i).reverse)
 | 0,acc,_,_=>by
  refine z1h ?_
  unfold z3h
  rw [if_neg (by simp)]; simp
 | i+1,acc,hi,ha=>by
  have hlt:i<s.length:=by omega
  have e:((i+1:Nat):Int) - 1=(i:Int):=by omega
  have hF:z3h s (acc,((i+1:Nat):Int) - 1)=some (.inr (acc++[s[i]],(i:Int) - 1)):=by
   unfold z3h
   rw [e,if_pos (by simp)]
   simp only [z0g hlt,bs]
   rw [z19 (by simp; omega)]
   simp only [bs,z0r (show -9223372036854775808≤(i:Int) - 1 by omega) (by omega)]
  rw [z1s hF,zid s hl i _ (by omega) (by simp; omega)]
  have:List.take (i+1) s=List.take i s++[s[i]]:=by rw [List.take_add_one,List.getElem?_eq_getElem hlt]; rfl
  rw [this]; simp only [List.reverse_append,List.reverse_cons,List.reverse_nil,List.nil_append,List.append_assoc]
theorem z5f (a:UInt64):z1j a=some (z12 a.toNat):=by
 unfold z1j z12
 have h0:=UInt64.toNat_lt a
 by_cases h:a.toNat≤247
 ·have h':decide (a≤247)=true:=by simpa [UInt64.le_iff_toNat_le] using h
  rw [if_pos h',if_pos h]
  congr 2
 ·have h':¬ decide (a≤247)=true:=by simpa [UInt64.le_iff_toNat_le] using h
  rw [if_neg h',if_neg h]
  have hd:=zf7 a.toNat h0
  rw [zp3 a.toNat a [] a.toNat rfl rfl hd]
  simp only [bs]
  rw [z0r (show -9223372036854775808≤((z20 a.toNat).length:Int) - 1 by omega) (by omega),z0r (show -9223372036854775808≤247+((z20 a.toNat).length:Int) by omega) (by omega)]
  rw [zid _ hd _ _ (Nat.le_refl _) (by simp; omega)]
  simp only [bs,List.take_length]
  rw [show (247+((z20 a.toNat).length:Int))=((247+(z20 a.toNat).length:Nat):Int) by omega]
  congr 1
  show _::_=_
  congr 1
  apply UInt8.toNat_inj.1
  simp [UInt8.ofInt]
  omega
theorem zm6 (a:UInt64) (k:Nat) (hk:k=(z20 a.toNat).length) (hk8:k≤8):iter (z8c a (k:Int)) (z8u a.toNat 0,0)=some (z8u a.toNat k):=by
 refine z3a k (fun i=>(z8u a.toNat i,(i:Int))) (fun i hi=>?_) ?_
 ·have hf:=zk5 a.toNat i (by omega)
  unfold z8c
  rw [if_pos (by simp; omega)]
  simp only [z0r (show -9223372036854775808≤8 * (i:Int) by omega) (by omega),z2a (show (0:Int)≤8 * (i:Int) by omega),bs,z0r (show -9223372036854775808≤(k:Int) - (i:Int) by omega) (by omega),z0i (show i<9223372036854775807 by omega)]
  rw [zu6 (by omega) (by omega)]
  simp only [bs]
  have:=zjd a.toNat i (by omega)
  rw [← this]
  have e1:((k:Int) - (i:Int)).toNat=(z20 a.toNat).length - i:=by omega
  have e2:(z5p a (8 * (i:Int)).toNat).toUInt8=UInt8.ofNat (a.toNat / 2 ^ (8 * i)):=by
   apply UInt8.toNat_inj.1
   have e3:(8 * (i:Int)).toNat=8 * i:=by omega
   rw [e3]
   simp only [UInt64.toNat_toUInt8,zan,Nat.min_eq_left (show 8 * i≤64 by omega)]
   simp
  rw [e1,e2]
 ·unfold z8c
  rw [if_neg (by simp)]
theorem zbd (a:UInt64) (k:Nat) (hk:k<64):(z5p a k).toNat=a.toNat / 2 ^ k:=by rw [zan,Nat.min_eq_left (by omega)]
set_option maxRecDepth 100000 in
theorem zqt (a:UInt64):z7y a=some (bitLen a.toNat:Int):=by
 unfold z7y
 have h0:=UInt64.toNat_lt a
 have s1:∃ (y:UInt64) (n:Nat),(if decide (4294967296≤a) then some (z5p a 32,(32:Int)) else some (a,0))=some (y,(n:Int))∧y.toNat<2 ^ 32∧n≤32∧bitLen a.toNat=n+bitLen y.toNat:=by
  by_cases h:4294967296≤a.toNat
  ·refine ⟨z5p a 32,32, by rw [if_pos (by simpa [UInt64.le_iff_toNat_le] using h)]; rfl,?_, by omega,?_⟩
   ·rw [zbd a 32 (by omega)]; omega
   ·rw [zbd a 32 (by omega)]; exact z9o _ 32 (by omega)
  ·exact ⟨a,0, by rw [if_neg (by simpa [UInt64.le_iff_toNat_le] using h)]; rfl, by omega, by omega, by omega⟩
 obtain ⟨y,n,e1,hy,hn,hb⟩:=s1
 rw [e1]; simp only [bs]
 have s2:∃ (z:UInt64) (k:Nat),(if decide (65536≤y) then some (z5p y 16) >>= fun y5=>some (w64 ((n:Int)+16)) >>= fun y6=>some (y5,y6) else some (y,(n:Int)))=some (z,(k:Int))∧z.toNat<2 ^ 16∧k≤48∧bitLen a.toNat=k+bitLen z.toNat:=by
  by_cases h:65536≤y.toNat
  ·refine ⟨z5p y 16,n+16, by rw [if_pos (by simpa [UInt64.le_iff_toNat_le] using h)]; simp only [bs,z0r (show -9223372036854775808≤(n:Int)+16 by omega) (by omega)]; rfl,?_, by omega,?_⟩
   ·rw [zbd y 16 (by omega)]; omega
   ·rw [zbd y 16 (by omega),hb,z9o y.toNat 16 (by omega)]; omega
  ·exact ⟨y,n, by rw [if_neg (by simpa [UInt64.le_iff_toNat_le] using h)], by omega, by omega,hb⟩
 obtain ⟨z,k,e2,hz,hk,hb2⟩:=s2
 simp only [bs] at e2
 rw [e2]; simp only [bs]
 have s3:∃ (x:UInt64) (j:Nat),(if decide (256≤z) then some (w64 ((k:Int)+8)) >>= fun y9=>some (z5p z 8,y9) else some (z,(k:Int)))=some (x,(j:Int))∧x.toNat<256∧j≤56∧bitLen a.toNat=j+bitLen x.toNat:=by
  by_cases h:256≤z.toNat
  ·refine ⟨z5p z 8,k+8, by rw [if_pos (by simpa [UInt64.le_iff_toNat_le] using h)]; simp only [bs,z0r (show -9223372036854775808≤(k:Int)+8 by omega) (by omega)]; rfl,?_, by omega,?_⟩
   ·rw [zbd z 8 (by omega)]; omega
   ·rw [zbd z 8 (by omega),hb2,z9o z.toNat 8 (by omega)]; omega
  ·exact ⟨z,k, by rw [if_neg (by simpa [UInt64.le_iff_toNat_le] using h)], by omega, by omega,hb2⟩
 obtain ⟨x,j,e3,hx,hj,hb3⟩:=s3
 simp only [bs] at e3
 rw [e3]; simp only [bs]
 have ht:=zr1 ⟨x.toNat,hx⟩
 have hx8:(x.toUInt8.toNat:Int)=((x.toNat:Nat):Int):=by simp; omega
 have hle:bitLen x.toNat≤8:=zcm _ 8 (by omega)
 rw [hx8]
 have hlist:∀ (l:List UInt8),l=zpf.data.toList→idx l ((x.toNat:Nat):Int)=some (UInt8.ofNat (bitLen x.toNat)):=fun l hl=>by
  subst hl
  unfold idx
  rw [if_pos (by omega)]
  simpa using ht
 refine Eq.trans (congrArg (fun o:Option UInt8=>o >>= fun x10=>some (w64 ((j:Int)+(x10.toNat:Int)))) (hlist _ ?hh)) ?_
 case hh=>rfl
 simp only [bs]
 have e4:((UInt8.ofNat (bitLen x.toNat)).toNat:Int)=(bitLen x.toNat:Int):=by simp; omega
 rw [e4,z0r (by omega) (by omega),hb3]
 simp
theorem z30 (a:UInt64):z2u a=some (z12 a.toNat):=by
 unfold z2u
 have h0:=UInt64.toNat_lt a
 by_cases h:a.toNat≤247
 ·have h':decide (a≤247)=true:=by simpa [UInt64.le_iff_toNat_le] using h
  unfold z12
  rw [if_pos h',if_pos h]
  congr 2
 ·have h':¬ decide (a≤247)=true:=by simpa [UInt64.le_iff_toNat_le] using h
  rw [if_neg h',zqt]
  have hd:=zf7 a.toNat h0
  have hl:=zgp a.toNat
  have hb:bitLen a.toNat≤64:=zcm _ 64 h0
  simp only [bs]
  rw [z0r (show -9223372036854775808≤(bitLen a.toNat:Int)+7 by omega) (by omega)]
  have e1:Int.tdiv ((bitLen a.toNat:Int)+7) 8=((z20 a.toNat).length:Int):=by
   rw [hl, show ((bitLen a.toNat:Int)+7)=((bitLen a.toNat+7:Nat):Int) by omega]
   rfl
  rw [e1,z0r (show -9223372036854775808≤((z20 a.toNat).length:Int) by omega) (by omega),z0i (by omega),zlr (by omega) (by omega)]
  simp only [bs]
  rw [show (0:Int)=((0:Nat):Int) from rfl,z0g (by simp)]
  simp only [bs,Int.toNat_natCast]
  rw [z0r (show -9223372036854775808≤247+((z20 a.toNat).length:Int) by omega) (by omega)]
  have e2:UInt8.ofInt (247+((z20 a.toNat).length:Int))=UInt8.ofNat (247+(z20 a.toNat).length):=by
   apply UInt8.toNat_inj.1
   rw [show (247+((z20 a.toNat).length:Int))=((247+(z20 a.toNat).length:Nat):Int) by omega]
   simp [UInt8.ofInt]
   omega
  have:=zj9 a.toNat
  rw [e2,this]
  have:=zm6 a (z20 a.toNat).length rfl hd
  rw [show (0:Int)=((0:Nat):Int) from rfl] at this
  rw [this]
  simp only [bs]
  rw [zif a.toNat (by omega)]
end
section
open Go
theorem zye {v:z00} (h:okV v=true) (k:v.Kind=3):v.Num=0∧v.Bits=0∧v.Text.length≤30∧v.Text.all okb=true:=by
 unfold okV at h; rw [if_neg (by rw [k]; decide),if_neg (by rw [k]; decide),if_pos k] at h
 simp only [Bool.and_eq_true,decide_eq_true_eq] at h
 exact ⟨h.1.1.1,h.1.1.2,h.1.2,h.2⟩
theorem zh5 {v:z00} (h:okV v=true):v.Kind=1∨v.Kind=2∨v.Kind=3:=by
 by_cases h1:v.Kind=1
 ·exact .inl h1
 by_cases h2:v.Kind=2
 ·exact .inr (.inl h2)
 by_cases h3:v.Kind=3
 ·exact .inr (.inr h3)
 ·unfold okV at h; simp [h1,h2,h3] at h
theorem zrl (x:UInt64):(x ^^^ 18446744073709551615).toNat=18446744073709551615 - x.toNat:=by
 have e:x ^^^ 18446744073709551615 = ~~~x:=by
  apply UInt64.eq_of_toBitVec_eq
  rw [UInt64.toBitVec_xor,UInt64.toBitVec_not]
  exact BitVec.xor_allOnes
 rw [e,UInt64.toNat_not]; rfl
theorem z9e (n:Int):(UInt64.ofInt n).toNat=(n % 18446744073709551616).toNat:=by
 simp [UInt64.ofInt]; omega
theorem zyj (n:Int) (h:inI n):((zkw (UInt64.ofInt n) 1) ^^^ (UInt64.ofInt (zuf n 63))).toNat=zig n:=by
 obtain ⟨h1,h2⟩:=h
 have es:(zkw (UInt64.ofInt n) 1).toNat=(n % 18446744073709551616).toNat * 2 % 18446744073709551616:=by
  rw [zku,z9e]; rfl
 by_cases h0:0≤n
 ·have e:zuf n 63=0:=by
   unfold zuf
   rw [show (2:Int) ^ (min 63 64)=9223372036854775808 from rfl,Int.fdiv_eq_ediv_of_nonneg _ (by omega)]; omega
  rw [e, show UInt64.ofInt 0=0 from rfl,UInt64.xor_zero,es]
  unfold zig; rw [if_pos h0]; omega
 ·have e:zuf n 63 = -1:=by
   unfold zuf
   rw [show (2:Int) ^ (min 63 64)=9223372036854775808 from rfl,Int.fdiv_eq_ediv_of_nonneg _ (by omega)]; omega
  rw [e, show UInt64.ofInt (-1)=18446744073709551615 from rfl,zrl,es]
  unfold zig; rw [if_neg h0]; omega
theorem znv (n:Int) (h:inI n):zaf n=some (z12 (zig n)):=by
 unfold zaf
 rw [z30,zyj n h]; rfl
theorem zf1 (s:List UInt8) (h:s.length≤10000):z8b s=some (z12 s.length++s,0):=by
 unfold z8b
 rw [if_neg (by simp; omega),z30]
 have e:(UInt64.ofInt (s.length:Int)).toNat=s.length:=by rw [z9e]; omega
 have:=z0b s.length (by omega)
 simp only [bs,e]
 rw [z19 (by omega)]; rfl
def be8 (b:UInt64):List UInt8:=[(z5p b 56).toUInt8,(z5p b 48).toUInt8,(z5p b 40).toUInt8,(z5p b 32).toUInt8,(z5p b 24).toUInt8,(z5p b 16).toUInt8,(z5p b 8).toUInt8,(z5p b 0).toUInt8]
theorem zp1 (v:z00) (l:List UInt8) (k:Nat) (hl:l.length≤100) (hk:k≤56):z69 v (l,(k:Int))=some (.inr (l++[(z5p v.Bits k).toUInt8],(k:Int) - 8)):=by
 unfold z69
 rw [if_pos (by simp)]
 simp only
 rw [z2a (by omega)]
 simp only [bs,Int.toNat_natCast]
 rw [z19 (by simp; omega)]
 simp only [bs]
 rw [z0r (by omega) (by omega)]
theorem zrf (v:z00):iter (z69 v) ([v.Kind],56)=some (v.Kind::be8 v.Bits):=by
 have hs:=fun l k h1 h2=>zp1 v l k h1 h2
 rw [show (56:Int)=((56:Nat):Int) from rfl,z1s (hs [v.Kind] 56 (by simp) (by omega))]
 simp only [List.cons_append,List.nil_append, show ((56:Nat):Int) - 8=((48:Nat):Int) from rfl]
 rw [z1s (hs _ 48 (by simp) (by omega))]
 simp only [List.cons_append,List.nil_append, show ((48:Nat):Int) - 8=((40:Nat):Int) from rfl]
 rw [z1s (hs _ 40 (by simp) (by omega))]
 simp only [List.cons_append,List.nil_append, show ((40:Nat):Int) - 8=((32:Nat):Int) from rfl]
 rw [z1s (hs _ 32 (by simp) (by omega))]
 simp only [List.cons_append,List.nil_append, show ((32:Nat):Int) - 8=((24:Nat):Int) from rfl]
 rw [z1s (hs _ 24 (by simp) (by omega))]
 simp only [List.cons_append,List.nil_append, show ((24:Nat):Int) - 8=((16:Nat):Int) from rfl]
 rw [z1s (hs _ 16 (by simp) (by omega))]
 simp only [List.cons_append,List.nil_append, show ((16:Nat):Int) - 8=((8:Nat):Int) from rfl]
 rw [z1s (hs _ 8 (by simp) (by omega))]
 simp only [List.cons_append,List.nil_append, show ((8:Nat):Int) - 8=((0:Nat):Int) from rfl]
 rw [z1s (hs _ 0 (by simp) (by omega))]
 simp only [List.cons_append,List.nil_append]
 refine z1h ?_
 unfold z69
 rw [if_neg (by simp)]; rfl
def zth (v:z00):List UInt8:=v.Kind::(if v.Kind=1 then z12 (zig v.Num) else if v.Kind=2 then be8 v.Bits else z12 v.Text.length++v.Text)
theorem zoi {n:Int} (h:inI n):zig n<18446744073709551616:=zvl h.1 h.2
theorem zwu (v:z00) (hI:inI v.Num) (hl:v.Text.length≤9223372036854775807):z9q v=some (if okV v then (zth v,0) else ([],8)):=by
 unfold z9q
 rw [zjn v hl]
 cases hv:okV v
 ·rfl
 simp only [bs,if_true]
 rw [if_neg (by simp)]
 unfold zth
 rcases zh5 hv with k | k | k
 ·have h1:=z0b (zig v.Num) (zoi hI)
  rw [k,znv v.Num hI]
  simp only [bs]
  rw [if_pos (by decide),z19 (by simp; omega)]; simp [bs]
 ·rw [k,if_neg (by decide),if_pos (by decide),if_neg (by decide),if_pos rfl,← k,zrf]; rfl
 ·have h3:=(zye hv k).2.2.1
  have h1:=z0b v.Text.length (by omega)
  rw [k,zf1 v.Text (by omega)]
  rw [if_neg (by decide),if_neg (by decide),if_pos (by decide),if_neg (by decide),if_neg (by decide),z2a (by omega)]
  simp only [bs]
  rw [z19 (by simp; omega)]; rfl
theorem ziy (n:Int) (h:inI n):z6q n=some (z12 (zig n)):=by
 obtain ⟨h1,h2⟩:=h
 unfold z6q
 by_cases h0:0≤n
 ·rw [if_pos (by simpa using h0),z5f]
  have e:(2 * UInt64.ofInt n).toNat=zig n:=by
   rw [UInt64.toNat_mul,z9e, show (2:UInt64).toNat=2 from rfl]
   unfold zig; rw [if_pos h0]; omega
  rw [e]; rfl
 ·rw [if_neg (by simpa using h0),z5f]
  have e:((2 * UInt64.ofInt (w64 (0 - (w64 (n+1)))))+1).toNat=zig n:=by
   rw [z0r (x:=n+1) (by omega) (by omega),z0r (by omega) (by omega),UInt64.toNat_add,UInt64.toNat_mul,z9e, show (2:UInt64).toNat=2 from rfl, show (1:UInt64).toNat=1 from rfl]
   unfold zig; rw [if_neg h0]; omega
  rw [e]; rfl
theorem zgh (s:List UInt8) (h:s.length≤100000):z59 s=some (z12 s.length++s):=by
 unfold z59
 rw [z5f]
 have e:(UInt64.ofInt (s.length:Int)).toNat=s.length:=by rw [z9e]; omega
 have:=z0b s.length (by omega)
 rw [e]
 simp only [bs]
 rw [z19 (by omega)]; rfl
theorem zoc (v:z00) (l:List UInt8) (k:Nat) (hl:l.length≤100) (hk:k≤7):z3w v (l,(k:Int))=some (.inr (l++[(z5p v.Bits (8 * k)).toUInt8],(k:Int) - 1)):=by
 unfold z3w
 rw [if_pos (by simp)]
 simp only
 have e:w64 (8 * (k:Int))=((8 * k:Nat):Int):=by rw [z0r (by omega) (by omega)]; omega
 rw [e,z2a (by omega)]
 simp only [bs,Int.toNat_natCast]
 rw [z19 (by simp; omega)]
 simp only [bs]
 rw [z0r (by omega) (by omega)]
theorem zqn (v:z00):iter (z3w v) ([v.Kind],7)=some (v.Kind::be8 v.Bits):=by
 have hs:=fun l k h1 h2=>zoc v l k h1 h2
 rw [show (7:Int)=((7:Nat):Int) from rfl,z1s (hs [v.Kind] 7 (by simp) (by omega))]
 simp only [List.cons_append,List.nil_append, show ((7:Nat):Int) - 1=((6:Nat):Int) from rfl]
 rw [z1s (hs _ 6 (by simp) (by omega))]
 simp only [List.cons_append,List.nil_append, show ((6:Nat):Int) - 1=((5:Nat):Int) from rfl]
 rw [z1s (hs _ 5 (by simp) (by omega))]
 simp only [List.cons_append,List.nil_append, show ((5:Nat):Int) - 1=((4:Nat):Int) from rfl]
 rw [z1s (hs _ 4 (by simp) (by omega))]
 simp only [List.cons_append,List.nil_append, show ((4:Nat):Int) - 1=((3:Nat):Int) from rfl]
 rw [z1s (hs _ 3 (by simp) (by omega))]
 simp only [List.cons_append,List.nil_append, show ((3:Nat):Int) - 1=((2:Nat):Int) from rfl]
 rw [z1s (hs _ 2 (by simp) (by omega))]
 simp only [List.cons_append,List.nil_append, show ((2:Nat):Int) - 1=((1:Nat):Int) from rfl]
 rw [z1s (hs _ 1 (by simp) (by omega))]
 simp only [List.cons_append,List.nil_append, show ((1:Nat):Int) - 1=((0:Nat):Int) from rfl]
 rw [z1s (hs _ 0 (by simp) (by omega))]
 simp only [List.cons_append,List.nil_append]
 refine z1h ?_
 unfold z3w
 rw [if_neg (by simp)]; rfl
theorem zo0 (v:z00) (hI:inI v.Num) (hv:okV v=true):z7k v=some (zth v):=by
 unfold zth z7k
 rcases zh5 hv with k | k | k
 ·have h1:=z0b (zig v.Num) (zoi hI)
  rw [k,ziy v.Num hI]
  simp only [bs]
  rw [if_pos (by decide),z19 (by simp; omega)]; simp [bs]
 ·rw [k,if_neg (by decide),if_pos (by decide),if_neg (by decide),if_pos rfl,← k,zqn]; rfl
 ·have h3:=(zye hv k).2.2.1
  have h1:=z0b v.Text.length (by omega)
  rw [k,zgh v.Text (by omega)]
  rw [if_neg (by decide),if_neg (by decide),if_neg (by decide),if_neg (by decide),z2a (by omega)]
  simp only [bs]
  rw [z19 (by simp; omega)]; rfl
end
section
open Go
theorem zru (a b:V3):∀ (n i:Nat),32 - i=n→i≤32→∃ r:Sum Int Unit,iter (z57 a b) (i:Int)=some r∧(z6b (some r) (fun _=>some 0)=some (Lib.compareBytes (a.toList.drop i) (b.toList.drop i))):=by
 intro n
 induction n with
 | zero =>
  intro i hn hi
  have:i=32:=by omega
  subst this
  refine ⟨.inr (),z1h ?_,?_⟩
  ·unfold z57; rw [if_neg (by simp)]
  ·rw [List.drop_eq_nil_of_le (by simp),List.drop_eq_nil_of_le (by simp)]; rfl
 | succ n ih =>
  intro i hn hi
  have hlt:i<32:=by omega
  have da:a.toList.drop i=a[i]::a.toList.drop (i+1):=by rw [List.drop_eq_getElem_cons (by simpa using hlt)]; simp
  have db:b.toList.drop i=b[i]::b.toList.drop (i+1):=by rw [List.drop_eq_getElem_cons (by simpa using hlt)]; simp
  have hF:z57 a b (i:Int)=if decide (a[i]<b[i]) then some (.inl (.inl (-1))) else if decide (b[i]<a[i]) then some (.inl (.inl 1)) else some (.inr ((i+1:Nat):Int)):=by
   unfold z57
   rw [if_pos (by simp; omega)]
   simp only [z65 hlt,bs,z0i (show i<9223372036854775807 by omega)]
  rw [da,db,Lib.compareBytes]
  by_cases h1:a[i]<b[i]
  ·rw [decide_eq_true h1] at hF
   exact ⟨_,z1h hF, by rw [if_pos h1]; rfl⟩
  ·rw [decide_eq_false h1] at hF
   by_cases h2:b[i]<a[i]
   ·rw [decide_eq_true h2] at hF
    exact ⟨_,z1h hF, by rw [if_neg h1,if_pos h2]; rfl⟩
   ·rw [decide_eq_false h2] at hF
    obtain ⟨r,k1,k2⟩:=ih (i+1) (by omega) (by omega)
    exact ⟨r, by rw [z1s hF]; exact k1, by rw [if_neg h1,if_neg h2]; exact k2⟩
theorem zii (a b:V3):z3s a b=some (Lib.compareBytes a.toList b.toList):=by
 obtain ⟨r,h1,h2⟩:=zru a b 32 0 rfl (by omega)
 unfold z3s
 rw [show (0:Int)=((0:Nat):Int) from rfl,h1]
 simpa using h2
theorem znm (a b:V3):z94 a b=some (Lib.compareBytes a.toList b.toList):=by
 unfold z94 za8; rfl
def z8t:List V3→Bool
 | a::b::l=>!decide (0≤Lib.compareBytes a.toList b.toList)&&z8t (b::l)
 | _=>true
theorem zkq (l:List V3) (hl:l.length≤9223372036854775807):∀ (n i:Nat),l.length - i=n→1≤i→i≤l.length→iter (z2o l) (i:Int)=some (if z8t (l.drop (i - 1)) then .inr () else .inl false):=by
 intro n
 induction n with
 | zero =>
  intro i hn h1 hi
  have:i=l.length:=by omega
  refine z1h ?_
  have e:l.drop (i - 1)=[l[i - 1]'(by omega)]:=by
   rw [List.drop_eq_getElem_cons (by omega),List.drop_eq_nil_of_le (by omega)]
  rw [e]
  unfold z2o
  rw [if_neg (by simp; omega)]
  simp [z8t]
 | succ n ih =>
  intro i hn h1 hi
  have hlt:i<l.length:=by omega
  have e:l.drop (i - 1)=l[i - 1]::l[i]::l.drop (i+1):=by
   rw [List.drop_eq_getElem_cons (by omega), show i - 1+1=i by omega,List.drop_eq_getElem_cons hlt]
  have e':l.drop (i+1 - 1)=l[i]::l.drop (i+1):=by rw [Nat.add_sub_cancel,List.drop_eq_getElem_cons hlt]
  have hF:z2o l (i:Int)=if decide (0≤Lib.compareBytes (l[i - 1]).toList (l[i]).toList) then some (.inl (.inl false)) else some (.inr ((i+1:Nat):Int)):=by
   unfold z2o
   rw [if_pos (by simp; omega),z0r (by omega) (by omega), show ((i:Int) - 1)=((i - 1:Nat):Int) by omega]
   simp only [z0g hlt,z0g (show i - 1<l.length by omega),bs,zii,z0i (show i<9223372036854775807 by omega)]
  rw [e,z8t]
  cases hc:decide (0≤Lib.compareBytes (l[i - 1]).toList (l[i]).toList) with
  | true=>rw [hc] at hF; rw [z1h hF]; rfl
  | false =>
   rw [hc] at hF
   rw [z1s hF,ih (i+1) (by omega) (by omega) (by omega),e']; simp
theorem zja (l:List V3) (hl:l.length≤9223372036854775807):z3t l=some (z8t l):=by
 unfold z3t
 cases l with
 | nil =>
  rw [z1h (b:=.inr ()) (by unfold z2o; rw [if_neg (by simp)])]; rfl
 | cons x l =>
  have:=zkq (x::l) hl _ 1 rfl (by omega) (by simp)
  rw [show (1:Int)=((1:Nat):Int) from rfl,this]
  simp only [Nat.sub_self,List.drop_zero]
  cases z8t (x::l) <;> rfl
theorem zix (l:List V3) (hl:l.length≤9223372036854775806):∀ (n i:Nat),l.length - i=n→i≤l.length→∃ r,iter (z09 l l) ((i:Int),(i:Int))=some r∧(z8t (l.drop i)=true→∃ c,r=.inr c)∧(z8t (l.drop i)=false→∃ (k:Nat) (c:Int),r=.inl ((k:Int),c)):=by
 intro n
 induction n with
 | zero =>
  intro i hn hi
  have:i=l.length:=by omega
  refine ⟨.inr (i:Int),z1h ?_, fun _=>⟨_,rfl⟩, fun h=>?_⟩
  ·unfold z09
   rw [if_neg (by simp; omega)]
  ·rw [List.drop_eq_nil_of_le (by omega)] at h; simp [z8t] at h
 | succ n ih =>
  intro i hn hi
  have hlt:i<l.length:=by omega
  by_cases h2:i+1<l.length
  ·have e:l.drop i=l[i]::l[i+1]::l.drop (i+2):=by rw [List.drop_eq_getElem_cons hlt,List.drop_eq_getElem_cons h2]
   have e':l.drop (i+1)=l[i+1]::l.drop (i+2):=by rw [List.drop_eq_getElem_cons h2]
   have hF:z09 l l ((i:Int),(i:Int))=if decide (0≤Lib.compareBytes (l[i]).toList (l[i+1]).toList) then some (.inl (.inl ((i:Int),((i+1:Nat):Int)))) else some (.inr (((i+1:Nat):Int),((i+1:Nat):Int))):=by
    unfold z09 z8y
    rw [if_pos (by simp; omega)]
    simp only [z0g hlt,bs,z0i (show i<9223372036854775807 by omega)]
    rw [if_pos (by simp; omega),z0r (by omega) (by omega), show ((i+1:Nat):Int) - 1=(i:Int) by omega]
    simp only [z0g hlt,z0g h2,bs,znm]
   rw [e,z8t]
   cases hc:decide (0≤Lib.compareBytes (l[i]).toList (l[i+1]).toList) with
   | true =>
    rw [hc] at hF
    exact ⟨_,z1h hF, fun h=>by simp at h, fun _=>⟨i,_,rfl⟩⟩
   | false =>
    rw [hc] at hF
    obtain ⟨r,k1,k2,k3⟩:=ih (i+1) (by omega) (by omega)
    rw [e'] at k2 k3
    exact ⟨r, by rw [z1s hF]; exact k1, fun h=>k2 (by simpa using h), fun h=>k3 (by simpa using h)⟩
  ·have e:l.drop i=[l[i]]:=by rw [List.drop_eq_getElem_cons hlt,List.drop_eq_nil_of_le (by omega)]
   have hF:z09 l l ((i:Int),(i:Int))=some (.inr (((i+1:Nat):Int),((i+1:Nat):Int))):=by
    unfold z09 z8y
    rw [if_pos (by simp; omega)]
    simp only [z0g hlt,bs,z0i (show i<9223372036854775807 by omega)]
    rw [if_neg (by simp; omega)]
    simp only [bs]; rfl
   obtain ⟨r,k1,k2,k3⟩:=ih (i+1) (by omega) (by omega)
   rw [List.drop_eq_nil_of_le (by omega)] at k2 k3
   exact ⟨r, by rw [z1s hF]; exact k1, fun _=>k2 rfl, fun h=>by rw [e] at h; simp [z8t] at h⟩
theorem zm5 (l:List V3) (hl:l.length≤9223372036854775806):zad l=some (z8t l):=by
 obtain ⟨r,k1,k2,k3⟩:=zix l hl _ 0 rfl (by omega)
 unfold zad z1e z1m
 rw [show ((0:Int),(0:Int))=(((0:Nat):Int),((0:Nat):Int)) from rfl,k1]
 simp only [List.drop_zero] at k2 k3
 cases h:z8t l with
 | true=>obtain ⟨c,rfl⟩:=k2 h; rfl
 | false =>
  obtain ⟨k,c,rfl⟩:=k3 h
  simp only [zu4,bs]
  rw [decide_eq_true (by omega)]; rfl
def zfv (l:List V3):List UInt8:=l.flatMap Vector.toList
theorem zd5 (l:List V3):(zfv l).length=32 * l.length:=by
 induction l with
 | nil=>rfl
 | cons x l ih=>unfold zfv at ih ⊢; rw [List.flatMap_cons,List.length_append,ih]; simp; omega
theorem zjl (l:List V3) (i:Nat) (hi:i<l.length):zfv (l.take (i+1))=zfv (l.take i)++(l[i]).toList:=by
 rw [List.take_add_one,List.getElem?_eq_getElem hi]; unfold zfv; rw [List.flatMap_append,Option.toList_some,List.flatMap_cons,List.flatMap_nil,List.append_nil]
theorem ztk (l:List V3) (h:l.length≤1000) (s:List UInt8) (hs:s.length≤9):iter (z4m l) (s,0)=some (s++zfv l):=by
 have:=z3a (F:=z4m l) (b:=s++zfv l) l.length (fun i=>(s++zfv (l.take i),(i:Int))) (fun i hi=>?_) ?_
 ·simpa [zfv] using this
 ·unfold z4m
  have hf:=zd5 (l.take i)
  rw [if_pos (by simp; omega)]
  simp only [z0g hi,bs]
  rw [z19 (by simp at hf ⊢; omega)]
  simp only [bs,z0i (show i<9223372036854775807 by omega),zjl l i hi,List.append_assoc]
 ·unfold z4m
  rw [if_neg (by simp)]
  simp
theorem zvy (l:List V3) (h:l.length≤1000) (s:List UInt8) (hs:s.length≤9):iter (z9f l) (s,0)=some (s++zfv l):=by
 have:=z3a (F:=z9f l) (b:=s++zfv l) l.length (fun i=>(s++zfv (l.take i),(i:Int))) (fun i hi=>?_) ?_
 ·simpa [zfv] using this
 ·unfold z9f
  have hf:=zd5 (l.take i)
  rw [if_pos (by simp; omega)]
  simp only [z0g hi,bs]
  rw [z19 (by simp at hf ⊢; omega)]
  simp only [bs,z0i (show i<9223372036854775807 by omega),zjl l i hi,List.append_assoc]
 ·unfold z9f
  rw [if_neg (by simp)]
  simp
theorem zb8 {n:Nat} (h:n<18446744073709551616):(UInt64.ofInt (n:Int)).toNat=n:=by
 simp [UInt64.ofInt]; omega
theorem zrm (l:List V3) (h:l.length≤1000):z7t l=some (z12 l.length++zfv l):=by
 unfold z7t
 have hn:=z0b l.length (by omega)
 rw [z5f,zb8 (by omega)]
 simp only [bs]
 rw [ztk l h _ (by omega)]; rfl
theorem zun (l:List V3) (h:l.length≤60) (hi:z8t l=true):zer l=some (z12 l.length++zfv l,0):=by
 unfold zer
 have hn:=z0b l.length (by omega)
 rw [if_neg (by simp; omega),zm5 l (by omega),hi,z30,zb8 (by omega)]
 simp only [bs,Bool.not_true,Bool.false_eq_true,if_false]
 rw [zvy l (by omega) _ (by omega)]; rfl
end
section
open Go
def nk:List UInt8→Nat
 | []=>0
 | a::l=>a.toNat * 256 ^ l.length+nk l
theorem zub:∀ l:List UInt8,nk l<256 ^ l.length
 | []=>by simp [nk]
 | a::l=>by
  have ih:=zub l
  have ha:=UInt8.toNat_lt a
  simp only [nk,List.length_cons,Nat.pow_succ]
  have h1:(a.toNat+1) * 256 ^ l.length≤256 * 256 ^ l.length:=Nat.mul_le_mul_right _ (by omega)
  rw [Nat.add_mul,Nat.one_mul] at h1
  omega
theorem zpu:∀ a b:List UInt8,a.length=b.length→Lib.compareBytes a b=(if nk a<nk b then -1 else if nk b<nk a then 1 else 0)∧(nk a=nk b→a=b)
 | [],[],_=>by simp [Lib.compareBytes,nk]
 | [],_::_,h=>by simp at h
 | _::_,[],h=>by simp at h
 | a::x,b::y,h=>by
  have hl:x.length=y.length:=by simpa using h
  obtain ⟨i1,i2⟩:=zpu x y hl
  have lx:=zub x
  have ly:=zub y
  simp only [Lib.compareBytes,nk,hl] at *
  have e:∀ u v:UInt8,u.toNat<v.toNat→u.toNat * 256 ^ y.length+256 ^ y.length≤v.toNat * 256 ^ y.length:=fun u v huv=>by
   have:=Nat.mul_le_mul_right (256 ^ y.length) (show u.toNat+1≤v.toNat from huv)
   rwa [Nat.add_mul,Nat.one_mul] at this
  by_cases h1:a<b
  ·have h1':a.toNat<b.toNat:=UInt8.lt_iff_toNat_lt.1 h1
   have:=e a b h1'
   rw [if_pos h1,if_pos (by omega)]
   exact ⟨rfl, fun h=>by omega⟩
  ·by_cases h2:b<a
   ·have h2':b.toNat<a.toNat:=UInt8.lt_iff_toNat_lt.1 h2
    have:=e b a h2'
    rw [if_neg h1,if_pos h2,if_neg (by omega),if_pos (by omega)]
    exact ⟨rfl, fun h=>by omega⟩
   ·have h3:a=b:=UInt8.toNat_inj.1 (by rw [UInt8.lt_iff_toNat_lt] at h1 h2; omega)
    subst h3
    rw [if_neg h1,if_neg h1,i1]
    refine ⟨?_, fun h=>by rw [i2 (by omega)]⟩
    by_cases c1:nk x<nk y
    ·rw [if_pos c1,if_pos (by omega)]
    ·by_cases c2:nk y<nk x
     ·rw [if_neg c1,if_pos c2,if_neg (by omega),if_pos (by omega)]
     ·rw [if_neg c1,if_neg c2,if_neg (by omega),if_neg (by omega)]
def kd (d:V3):Nat:=nk d.toList
theorem zmq (a b:V3):Lib.compareBytes a.toList b.toList=if kd a<kd b then -1 else if kd b<kd a then 1 else 0:=(zpu a.toList b.toList (by simp)).1
theorem zgv {a b:V3} (h:kd a=kd b):a=b:=by
 have:=(zpu a.toList b.toList (by simp)).2 h
 exact Vector.toList_inj.1 this
theorem zwt (a b:V3):z94 a b=some (if kd a<kd b then -1 else if kd b<kd a then 1 else 0):=by rw [znm,zmq]
theorem zka (a b:V3):z3s a b=some (if kd a<kd b then -1 else if kd b<kd a then 1 else 0):=by rw [zii,zmq]
theorem zin (a b:V3):decide ((if kd a<kd b then (-1:Int) else if kd b<kd a then 1 else 0)<0)=decide (kd a<kd b):=by
 by_cases h:kd a<kd b
 ·simp [h]
 ·by_cases h2:kd b<kd a <;> simp [h,h2]
theorem zrw (a b:V3):decide (0≤(if kd a<kd b then (-1:Int) else if kd b<kd a then 1 else 0))=decide (kd b≤kd a):=by
 by_cases h:kd a<kd b
 ·have:¬ kd b≤kd a:=by omega
  simp [h,this]
 ·have h3:kd b≤kd a:=by omega
  by_cases h2:kd b<kd a <;> simp [h,h2,h3]
theorem zlw:∀ l:List V3,z8t l=true↔∀ i (h:i+1<l.length),kd (l[i]'(by omega))<kd l[i+1]
 | []=>by simp [z8t]
 | [a]=>by simp [z8t]
 | a::b::l=>by
  have ih:=zlw (b::l)
  rw [z8t,Bool.and_eq_true,ih,zmq,zrw]
  constructor
  ·rintro ⟨h1,h2⟩ i hi
   cases i with
   | zero=>simpa using h1
   | succ i=>exact h2 i (by simpa using hi)
  ·intro h
   refine ⟨?_, fun i hi=>h (i+1) (by simpa using hi)⟩
   have:=h 0 (by simp)
   simpa using this
theorem zb3:∀ l:List V3,z8t l=true↔l.Pairwise (fun a b=>kd a<kd b)
 | []=>by simp [z8t]
 | [a]=>by simp [z8t]
 | a::b::l=>by
  have ih:=zb3 (b::l)
  rw [z8t,Bool.and_eq_true,ih,zmq,zrw]
  constructor
  ·rintro ⟨h1,h2⟩
   have h1':kd a<kd b:=by simpa using h1
   refine List.pairwise_cons.2 ⟨fun c hc=>?_,h2⟩
   rcases List.mem_cons.1 hc with rfl | hc
   ·exact h1'
   ·have:=(List.pairwise_cons.1 h2).1 c hc; omega
  ·intro h
   obtain ⟨h1,h2⟩:=List.pairwise_cons.1 h
   have:=h1 b (by simp)
   exact ⟨by simp; omega,h2⟩
theorem zoz (l:List V3) (hl:l.length≤9223372036854775807):∃ b,z0p l=some b∧(b=true↔∀ i (h:i+1<l.length),kd (l[i]'(by omega))≤kd l[i+1]):=by
 have key:∀ n,n<l.length→∃ r:Sum Bool Unit,iter (z0c l) (n:Int)=some r∧((r=.inr ()∧∀ i (h:i+1<l.length),i+1≤n→kd (l[i]'(by omega))≤kd l[i+1])∨(r=.inl false∧∃ i,∃ h:i+1<l.length,¬ kd (l[i]'(by omega))≤kd l[i+1])):=by
  intro n
  induction n with
  | zero =>
   intro h
   refine ⟨_,z1h ?_,.inl ⟨rfl, fun i _ h=>by omega⟩⟩
   unfold z0c
   rw [if_neg (by simp)]
  | succ n ih =>
   intro h
   have hF:z0c l ((n+1:Nat):Int)=if decide (kd l[n+1]<kd l[n]) then some (.inl (.inl false)) else some (.inr (n:Int)):=by
    unfold z0c
    rw [if_pos (by simp <;> omega),z0g h,z0r (by omega) (by omega), show (((n+1:Nat):Int) - 1)=(n:Int) by omega,z0g (by omega)]
    simp only [bS]
    rw [zwt]
    simp only [bS]
    rw [zin]
   by_cases hc:kd l[n+1]<kd l[n]
   ·rw [decide_eq_true hc,if_pos rfl] at hF
    exact ⟨_,z1h hF,.inr ⟨rfl,n,h, by omega⟩⟩
   ·rw [decide_eq_false hc,if_neg (by simp)] at hF
    obtain ⟨r,h1,h2⟩:=ih (by omega)
    refine ⟨r, by rw [z1s hF]; exact h1,?_⟩
    rcases h2 with ⟨h2,h3⟩ | h2
    ·refine .inl ⟨h2, fun i hi hn=>?_⟩
     by_cases hin:i=n
     ·subst hin; omega
     ·exact h3 i hi (by omega)
    ·exact .inr h2
 unfold z0p
 simp only [bS]
 by_cases h0:l.length=0
 ·refine ⟨true,?_, by simp; intro i hi; omega⟩
  rw [h0,z0r (by omega) (by omega),z1h (b:=.inr ())]
  ·rfl
  ·unfold z0c
   rw [if_neg (by simp)]
 ·obtain ⟨r,h1,h2⟩:=key (l.length - 1) (by omega)
  rw [z0r (by omega) (by omega), show ((l.length:Int) - 1)=((l.length - 1:Nat):Int) by omega,h1]
  rcases h2 with ⟨rfl,h3⟩ | ⟨rfl,i,hi,h3⟩
  ·exact ⟨true,rfl, by simp; exact fun i hi=>h3 i hi (by omega)⟩
  ·exact ⟨false,rfl, by simp; exact ⟨i,hi, by omega⟩⟩
theorem zhu {k n j:Nat} (h:j<n):zua k n (j:Int)=some (k+j):=by unfold zua; rw [if_pos (by omega)]; simp
theorem zp8 {α:Type} (b:List α) (k n:Nat) (x:α) (h:k+n≤b.length):(clr b k n x).length=b.length:=by
 unfold clr
 simp only [List.length_append,List.length_take,List.length_replicate,List.length_drop]; omega
theorem zjz (l:List V3) (s:Nat) (h1:1≤s) (hs:s<l.length) (hl:l.length≤9223372036854775806):∃ b:List V3 × Int,iter (z0h l s) (l,(s:Int),1)=some b∧b.1.length=l.length∧∃ j:Nat,b.2=(j:Int)∧j<l.length:=by
 refine z7n (F:=z0h l s) (l.length - s) (fun i st=>st.1.length=l.length∧st.2.2=(i:Int)∧1≤i∧∃ j:Nat,st.2.1=(j:Int)∧j+1≤s+i) _ ?_ ?_ _ 1 (by omega) ⟨rfl,rfl, by omega,s,rfl, by omega⟩
 ·rintro i ⟨c,j',i'⟩ hi ⟨e1,e2,e0,j,e3,e4⟩
  simp only at e1 e2 e3
  subst e2 e3
  unfold z0h
  rw [if_pos (by simp; omega)]
  simp only [Int.toNat_natCast]
  rw [zhu (by omega),z0r (x:=(i:Int) - 1) (by omega) (by omega), show ((i:Int) - 1)=((i - 1:Nat):Int) by omega,zhu (by omega)]
  simp only [bS]
  rw [z0g (by omega),z0g (by omega)]
  simp only [bS]
  by_cases hc:c[s+i]'(by omega)=c[s+(i - 1)]'(by omega)
  ·rw [decide_eq_true hc,if_neg (by simp)]
   exact ⟨_,rfl,e1,z0i (by omega), by omega,j,rfl, by omega⟩
  ·rw [decide_eq_false hc,if_pos (by simp),z0g (by omega)]
   simp only [bS]
   exact ⟨_,rfl, by simpa using e1,z0i (by omega), by omega,j+1,z0i (by omega), by omega⟩
 ·rintro ⟨c,j',i'⟩ ⟨e1,e2,e0,j,e3,e4⟩
  simp only at e1 e2 e3
  subst e2 e3
  unfold z0h
  rw [if_neg (by simp <;> omega)]
  exact ⟨_,rfl,e1,j,rfl, by omega⟩
theorem zmr (l:List V3) (hl:l.length≤9223372036854775806):∃ c,z0u l=some c∧(c.length=l.length↔∀ i (h:i+1<l.length),l[i]'(by omega)≠l[i+1]):=by
 have key:∀ k n,l.length - n=k→1≤n→n≤l.length→∃ r:Sum (List V3) Unit,iter (z06 l) (n:Int)=some r∧((r=.inr ()∧∀ i (h:i+1<l.length),n≤i+1→l[i]'(by omega)≠l[i+1])∨(∃ c,r=.inl c∧c.length≠l.length∧∃ i,∃ h:i+1<l.length,l[i]'(by omega)=l[i+1])):=by
  intro k
  induction k with
  | zero =>
   intro n hk h1 hn
   refine ⟨_,z1h ?_,.inl ⟨rfl, fun i _ h=>by omega⟩⟩
   unfold z06
   rw [if_neg (by simp; omega)]
  | succ k ih =>
   intro n hk h1 hn
   have hlt:n<l.length:=by omega
   by_cases hc:l[n]=l[n - 1]
   ·obtain ⟨⟨c,j'⟩,e1,e2,j,e3,e4⟩:=zjz l n h1 hlt hl
    simp only at e2 e3
    subst e3
    have hF:z06 l (n:Int)=some (.inl (.inl ((clr c j (c.length - j) (Vector.replicate 32 0)).take j))):=by
     unfold z06
     rw [if_pos (by simp; omega),z0g hlt,z0r (by omega) (by omega), show ((n:Int) - 1)=((n - 1:Nat):Int) by omega,z0g (by omega)]
     simp only [bS]
     rw [decide_eq_true hc,if_pos rfl,z2a (by omega)]
     simp only [bS]
     rw [e1]
     simp only [bS]
     rw [z2a (by omega),z2a (by simp; omega)]
     simp only [bS,Int.toNat_natCast]
     rw [show (0:Int)=((0:Nat):Int) from rfl,zd9 (by omega) (by rw [zp8 _ _ _ _ (by omega)]; omega)]
     simp
    refine ⟨_,z1h hF,.inr ⟨_,rfl,?_,n - 1, by omega,?_⟩⟩
    ·rw [List.length_take]; omega
    ·have:n - 1+1=n:=by omega
     simp only [this]; exact hc.symm
   ·have hF:z06 l (n:Int)=some (.inr ((n+1:Nat):Int)):=by
     unfold z06
     rw [if_pos (by simp; omega),z0g hlt,z0r (x:=(n:Int) - 1) (by omega) (by omega), show ((n:Int) - 1)=((n - 1:Nat):Int) by omega,z0g (by omega)]
     simp only [bS]
     rw [decide_eq_false hc,if_neg (by simp),z0i (by omega)]
    obtain ⟨r,h2,h3⟩:=ih (n+1) (by omega) (by omega) (by omega)
    refine ⟨r, by rw [z1s hF]; exact h2,?_⟩
    rcases h3 with ⟨h3,h4⟩ | h3
    ·refine .inl ⟨h3, fun i hi hni=>?_⟩
     by_cases hin:i+1=n
     ·subst hin; exact fun e=>hc e.symm
     ·exact h4 i hi (by omega)
    ·exact .inr h3
 unfold z0u
 by_cases h2:l.length<2
 ·rw [if_pos (by simp; omega)]
  exact ⟨l,rfl, by simp; intro i hi; omega⟩
 ·rw [if_neg (by simp; omega)]
  obtain ⟨r,e1,e2⟩:=key (l.length - 1) 1 rfl (by omega) (by omega)
  rw [show (1:Int)=((1:Nat):Int) from rfl,e1]
  rcases e2 with ⟨rfl,h3⟩ | ⟨c,rfl,h3,i,hi,h4⟩
  ·exact ⟨l,rfl, by simp; exact fun i hi=>h3 i hi (by omega)⟩
  ·exact ⟨c,rfl,⟨fun h=>absurd h h3, fun h=>absurd h4 (h i hi)⟩⟩
theorem zq9 (l:List V3):z8t l=true↔(∀ i (h:i+1<l.length),kd (l[i]'(by omega))≤kd l[i+1])∧∀ i (h:i+1<l.length),l[i]'(by omega)≠l[i+1]:=by
 rw [zlw]
 constructor
 ·intro h
  refine ⟨fun i hi=>Nat.le_of_lt (h i hi), fun i hi e=>?_⟩
  have:=h i hi
  rw [e] at this; omega
 ·rintro ⟨h1,h2⟩ i hi
  have:=h1 i hi
  rcases Nat.lt_or_eq_of_le this with h | h
  ·exact h
  ·exact absurd (zgv h) (h2 i hi)
end
section
open Go Go.Shelf Go.RowKit Go.Lib Go.Sort
def zus (x y:V3):Int:=Lib.compareBytes x.toList y.toList
theorem zs1 (x y:V3):ltOf zus x y=decide (kd x<kd y):=by
 unfold ltOf zus
 rw [zmq,zin]
theorem zxj:SWO (ltOf zus) where
 irrefl x:=by rw [zs1]; simp
 trans x y z h1 h2:=by rw [zs1] at *; simp at *; omega
 ntrans x y z h1 h2:=by rw [zs1] at *; simp at *; omega
def zml (l:List V3):List V3:=l.mergeSort fun x y=>!(ltOf zus) y x
theorem zil (l:List V3):(zml l).length=l.length:=List.length_mergeSort l
theorem znf (l:List V3) (x:V3):x∈zml l↔x∈l:=List.mem_mergeSort
theorem zi4 (l:List V3):(zml l).Pairwise fun x y=>kd x≤kd y:=by
 have h:=List.pairwise_mergeSort (le:=fun x y=>!(ltOf zus) y x) (fun a b c h1 h2=>by
  rw [zs1] at *; simp at *; omega) (fun a b=>by rw [zs1,zs1]; simp; omega) l
 exact h.imp fun {a b} hab=>by rw [zs1] at hab; simp at hab; omega
def zu9 (l:List V3):Option (List V3):=chk (l.length≤1000000) >>= fun _=>some (zml l)
theorem zrk (p0:Value) (c0:List V3):z2b Tryz.prog 47 [.val p0,.val (.func (.func 48) #[] #[])] [(1,some (p0,.list (z2g 32 u8R) 45 c0))] (zu9 c0) (fun r nv=>⟨[],[(1,some (p0,.list (z2g 32 u8R) 45 r))]⟩):=by
 refine zq4 zml zil (fun cap w=>?_) (fun blk cap d w hH hb hs=>?_) p0 c0
 ·exact AnyF.slices_SortFunc_none zw9 none cap _ w
 ·have eg:∀ args w,(callFunc 48 args).run Tryz.prog w=.ok (.enter 48 args) w:=enters_of Tryz.func48 (by kernel_rfl) rfl
  exact AnyQ.slices_SortFunc_total zw9 32 Tryz.isAgg45 Tryz.sizeOf45 z48 z9y (fun x v hv=>by
   unfold z48 at hv
   obtain ⟨c,_,rfl⟩:=List.mem_map.1 hv
   rfl) zus zxj 48 #[] blk 0 cap d w eg (fun m os dk _ x y=>zgs x y _) hH hb hs (fun x y h1 h2=>by
   rw [zs1] at h1 h2
   simp at h1 h2
   exact zgv (by omega))
end
section
open Go Go.RowKit
set_option maxRecDepth 100000
def z4e (a0:z01):Option (Bool) :=
 if decide (20<(a0.Preds.length:Int)) then
  some true
 else
  if decide (100<(a0.Act.Key.length:Int)) then
   some true
  else
   some (decide (100<(a0.Act.Value.Text.length:Int))) >>= fun y4 =>
   some y4
theorem zc4 (a0:z01):z2b Tryz.prog 67 [.rd z04 a0] [] (z4e a0) (fun r nv=>⟨[.rd z08 r],[]⟩):=by
 refine z37 22 Tryz.func67 Z Z Z fun H w=>?_
 refine gSR<|Eb Z (bx 1 Z) fun v1=>Zb Z<|gSR<|Zq (faB 1 Z Z Tryz.underlying43 Z (by exact zdp))<|Zq (ld 1 Z Z (fP (z0q _)) zee Z)<|Zq (z5m Z .rd Z tu29)<|Zq (I.gtr Z Z)<|Zm Z<|z1z 7 Z (fun h2=>?_) (fun h2=>?_)
 ·refine lKn 6 Z h2<|Zk Z<|Zk Z<|Zk Z<|Zk Z<|Zk Z<|Zq (pkT Z Z)<|Zm Z<|Zk Z<|Zk Z<|Zk Z<|Zk Z<|Zk Z<|Zk Z<|Zq (pkT Z Z)<|Zb Z<|z0s<|Ze [] [] Z
 ·refine lKn 6 Z h2<|z1q Zx Z Z (faB 1 Z Z Tryz.underlying43 Z (by exact zi9))<|z1q Zx Z Z (faB 1 Z Z Tryz.underlying39 Z (by exact ti9))<|z1q Zx Z Z (ld 1 Z Z ((fP (z1v _)).part (z2y _)) ty9 Z)<|z1q Zx Z Z (zpx Z Z tu9)<|z1q Zx Z Z (I.gtr Z Z)<|Zq (pkF Z Z)<|Zm Z<|z1z 14 Z (fun h3=>?_) (fun h3=>?_)
  ·refine lKn 12 Z h3<|lKn 13 Z h3<|Zk Z<|Zk Z<|Zk Z<|Zk Z<|Zk Z<|Zk Z<|Zq (pkT Z Z)<|Zb Z<|z0s<|Ze [] [] Z
  ·refine lKn 12 Z h3<|lKn 13 Z h3<|z1q Zx Z Z (faB 1 Z Z Tryz.underlying43 Z (by exact zi9))<|z1q Zx Z Z (faB 1 Z Z Tryz.underlying39 Z (by exact zdr))<|z1q Zx Z Z (faB 1 Z Z Tryz.underlying37 Z (by exact ti9))<|z1q Zx Z Z (ld 1 Z Z (((fP (z1v _)).part (z3c _)).part (z24 _)) ty9 Z)<|z1q Zx Z Z (zpx Z Z tu9)<|z1q Zx Z Z (I.gtr Z Z)<|Zq (pkF Z Z)<|Za Z<|z1u 2 Z fun y4=>Zn<|z0s<|Ze [] [] Z
def z2s (a0:z2l) (s3:Int):Option (Sum (Sum Bool Unit) Int) :=
 if decide (s3<(a0.Ops.length:Int)) then
  if decide (s3≤70) then
   idx a0.Ops s3 >>= fun x6 =>
   z4e x6 >>= fun r8 =>
   if r8 then
    some (.inl (.inl true))
   else
    some (.inr (w64 (s3+1)))
  else
   some (.inl (.inr ()))
 else
  some (.inl (.inr ()))
def z7c (a0:z2l):Option (Bool) :=
 z6b (iter (z2s a0) 0) fun s2 =>
 if decide (16<(a0.Ops.length:Int)) then
  if decide ((a0.Ops.length:Int)≤60) then
   some true
  else
   if decide (70<(a0.Ops.length:Int)) then
    some true
   else
    some (decide (70<(a0.IDs.length:Int))) >>= fun y14 =>
    some y14
 else
  if decide (70<(a0.Ops.length:Int)) then
   some true
  else
   some (decide (70<(a0.IDs.length:Int))) >>= fun y16 =>
   some y16
theorem zbw (a0:z2l):z2b Tryz.prog 29 [.rd z89 a0] [] (z7c a0) (fun r nv=>⟨[.rd z08 r],[]⟩):=by
 refine z37 43 Tryz.func29 Z Z Z fun H w=>?_
 refine gSR<|Eb Z (bx 1 Z) fun v1=>Zb Z<|z84 (fun (s2:Unit) aa ww=>Sta (ctx 43 H [] w) [(1,.val (z0f v1 0))] [(1,some (v1,.box 66 [.rd z89 a0]))] aa ww) ?_ (fun s2=>?_)
 ·refine gSR<|Zb Z<|z27 (fun (s3:Int) aa ww=>Sta (ctx 43 H [] w) [(1,.val (z0f v1 0)),(3,.rd z0j s3)] [(1,some (v1,.box 66 [.rd z89 a0]))] aa ww) (fun aa ww h=>Zu h [1]) (fun s3=>?_)
  refine z0w<|gSR<|Zm Z<|Zq (faB 1 Z Z Tryz.underlying66 Z (by exact zux))<|Zq (ld 1 Z Z (fP (z3d _)) zuy Z)<|Zq (z5m Z .rd Z tu22)<|Zq (I.lss Z Z)<|Zm Z<|z1z 9 Z (fun h4=>?_) (fun h4=>?_)
  ·refine lKn 8 Z h4<|z1q Zx Z Z (mv Z)<|z1q Zx Z Z (I.leq Z Z)<|Zq (pkT Z Z)<|Zj Z (fun h5=>?_) (fun h5=>?_)
   ·refine gKn 11 Z h5<|Zt<|z0w<|z67<|gSR<|Zq (faB 1 Z Z Tryz.underlying66 Z (by exact zux))<|Zq (ld 1 Z Z (fP (z3d _)) zuy Z)<|Zm Z<|z0o fun x6 h7=>Zq (ixR Z Z h7 tu22 za6 Z)<|Zq (ldR Z zdg)<|Zc [] [] Tryz.func67 Z (zc4 _) fun r8 n9=>Zj Z (fun h10=>?_) (fun h10=>?_)
    ·refine gSR<|Zb Z<|z0s<|z3l<|z14<|z6f<|z5z<|Ze [] [] Z
    ·refine z31<|z3o<|z0t<|z2d<|Zm Z<|Zq (I.add Z Z)<|Za Z<|z21<|z1x (fun aa ww h=>Zu h [1])
   ·refine gKn 11 Z h5<|z28<|z16<|z15<|z7p (fun aa ww h=>Zu h [1])
  ·refine lKn 8 Z h4<|Zk Z<|Zk Z<|Zq (pkF Z Z)<|Zn<|zba Z<|z28<|z16<|z15<|z7p (fun aa ww h=>Zu h [1])
 ·refine gSR<|Zq (faB 1 Z Z Tryz.underlying66 Z (by exact zux))<|Zq (ld 1 Z Z (fP (z3d _)) zuy Z)<|Zq (z5m Z .rd Z tu22)<|Zq (I.gtr Z Z)<|Zm Z<|z1z 25 Z (fun h11=>?_) (fun h11=>?_)
  ·refine lKn 24 Z h11<|z1q Zx Z Z (faB 1 Z Z Tryz.underlying66 Z (by exact zux))<|z1q Zx Z Z (ld 1 Z Z (fP (z3d _)) zuy Z)<|z1q Zx Z Z (z5m Z .rd Z tu22)<|z1q Zx Z Z (I.leq Z Z)<|Zq (pkT Z Z)<|Zm Z<|z1z 31 Z (fun h12=>?_) (fun h12=>?_)
   ·refine lKn 29 Z h12<|lKn 30 Z h12<|Zk Z<|Zk Z<|Zk Z<|Zk Z<|Zq (pkT Z Z)<|Zm Z<|Zk Z<|Zk Z<|Zk Z<|Zk Z<|Zq (pkT Z Z)<|Zb Z<|z0s<|Ze [] [] Z
   ·refine lKn 29 Z h12<|lKn 30 Z h12<|z1q Zx Z Z (faB 1 Z Z Tryz.underlying66 Z (by exact zux))<|z1q Zx Z Z (ld 1 Z Z (fP (z3d _)) zuy Z)<|z1q Zx Z Z (z5m Z .rd Z tu22)<|z1q Zx Z Z (I.gtr Z Z)<|Zq (pkF Z Z)<|Zm Z<|z1z 37 Z (fun h13=>?_) (fun h13=>?_)
    ·refine lKn 35 Z h13<|lKn 36 Z h13<|Zk Z<|Zk Z<|Zk Z<|Zk Z<|Zq (pkT Z Z)<|Zb Z<|z0s<|Ze [] [] Z
    ·refine lKn 35 Z h13<|lKn 36 Z h13<|z1q Zx Z Z (faB 1 Z Z Tryz.underlying66 Z (by exact zdp))<|z1q Zx Z Z (ld 1 Z Z (fP (zav _)) zee Z)<|z1q Zx Z Z (z5m Z .rd Z tu29)<|z1q Zx Z Z (I.gtr Z Z)<|Zq (pkF Z Z)<|Za Z<|z1u 2 Z fun y14=>Zn<|z0s<|Ze [] [] Z
  ·refine lKn 24 Z h11<|Zk Z<|Zk Z<|Zk Z<|Zk Z<|Zq (pkF Z Z)<|Zm Z<|z1q Zx Z Z (faB 1 Z Z Tryz.underlying66 Z (by exact zux))<|z1q Zx Z Z (ld 1 Z Z (fP (z3d _)) zuy Z)<|z1q Zx Z Z (z5m Z .rd Z tu22)<|z1q Zx Z Z (I.gtr Z Z)<|Zq (pkF Z Z)<|Zm Z<|z1z 37 Z (fun h15=>?_) (fun h15=>?_)
   ·refine lKn 35 Z h15<|lKn 36 Z h15<|Zk Z<|Zk Z<|Zk Z<|Zk Z<|Zq (pkT Z Z)<|Zb Z<|z0s<|Ze [] [] Z
   ·refine lKn 35 Z h15<|lKn 36 Z h15<|z1q Zx Z Z (faB 1 Z Z Tryz.underlying66 Z (by exact zdp))<|z1q Zx Z Z (ld 1 Z Z (fP (zav _)) zee Z)<|z1q Zx Z Z (z5m Z .rd Z tu29)<|z1q Zx Z Z (I.gtr Z Z)<|Zq (pkF Z Z)<|Za Z<|z1u 2 Z fun y16=>Zn<|z0s<|Ze [] [] Z
def z7j (a0:List z01):Option (Bool) :=
 z7c (⟨[],a0⟩:z2l) >>= fun r1 =>
 some r1
theorem zby (a0:List z01):z2b Tryz.prog 10 [.rd (z03 z04) a0] [] (z7j a0) (fun r nv=>⟨[.rd z08 r],[]⟩):=by
 refine z37 6 Tryz.func10 Z Z Z fun H w=>?_
 refine gSR<|Zb Z<|gSR<|Zm Z<|Zq (bld (x':=(⟨[],a0⟩:z2l)) [(0,1),(1,1)] Tryz.underlying66 zzt Z zzq Z (Bld.cons (z3d _) Z Z<|Bld.done Z))<|Zc [] [] Tryz.func29 Z (zbw _) fun r1 n2=>Zb Z<|z0s<|Ze [] [] Z
def z2p (a0:List V3) (s2:(List V3) × Int) (s6:Int):Option (Sum Int Int) :=
 if decide (s6<(s2.1.length:Int)) then
  idx s2.1 s6 >>= fun x8 =>
  idx a0 s2.2 >>= fun x10 =>
  z3s x8 x10 >>= fun r12 =>
  if decide (r12<0) then
   some (.inr (w64 (s6+1)))
  else
   some (.inl s6)
 else
  some (.inl s6)
def z3g (a0:List V3) (s2:(List V3) × Int):Option (Sum ((List V3)) ((List V3) × Int)) :=
 if decide (s2.2<(a0.length:Int)) then
  (iter (z2p a0 s2) 0) >>= fun s5 =>
  (if s5==(s2.1.length:Int) then
   some true
  else
   idx s2.1 s5 >>= fun x17 =>
   idx a0 s2.2 >>= fun x19 =>
   some (!decide (x17=x19))) >>= fun s15 =>
  if s15 then
   cut s2.1 0 s5 >>= fun x22 =>
   idx a0 s2.2 >>= fun x24 =>
   cut s2.1 s5 (s2.1.length:Int) >>= fun x26 =>
   app 32 ([]:List V3) x22 >>= fun x29 =>
   app 32 x29 [x24] >>= fun x33 =>
   app 32 x33 x26 >>= fun x36 =>
   some (w64 (s2.2+1)) >>= fun y39 =>
   some (.inr (x36,y39))
  else
   some (w64 (s2.2+1)) >>= fun y63 =>
   some (.inr (s2.1,y63))
 else
  some (.inl s2.1)
def z87 (a0:List V3):Option ((List V3)) :=
 (iter (z3g a0) ([],0)) >>= fun s1 =>
 some s1
def z4z (a0:List V3) (a1:List V3) (s2:(List V3) × Int):Option (Sum ((List V3)) ((List V3) × Int)) :=
 if decide (s2.2<(a1.length:Int)) then
  idx a1 s2.2 >>= fun x5 =>
  z3r a0 x5 >>= fun r7 =>
  if decide (r7<0) then
   idx a1 s2.2 >>= fun x10 =>
   app 32 s2.1 [x10] >>= fun x13 =>
   some (w64 (s2.2+1)) >>= fun y16 =>
   some (.inr (x13,y16))
  else
   some (w64 (s2.2+1)) >>= fun y17 =>
   some (.inr (s2.1,y17))
 else
  some (.inl s2.1)
def z8a (a0:List V3) (a1:List V3):Option ((List V3)) :=
 (iter (z4z a0 a1) ([],0)) >>= fun s1 =>
 z87 s1 >>= fun r19 =>
 some r19
end
section
open Go Go.Shelf
def zm2:Go.Shelf.Ren:=⟨fun | 6=>87 | 15=>94 | 14=>130 | 28=>139 | 29=>105 | 20=>172 | 21=>173 | 22=>174 | 23=>175 | 24=>176 | 25=>177 | 26=>178 | 27=>179 | 46=>210 | 47=>181 | 48=>182 | 49=>211 | 50=>212 | 57=>231 | n=>n, fun | 22=>88 | 24=>94 | 25=>137 | 3=>3 | 39=>143 | 0=>0 | 53=>34 | 55=>35 | 4=>4 | 46=>181 | 45=>180 | 50=>106 | 5=>5 | 9=>9 | 66=>225 | 70=>229 | 76=>260 | 77=>261 | n=>n, fun | n=>n⟩
theorem zs4:Go.Proofs.SlLaysF0.n6 Tryz.prog zm2:={
 mixed:=by kernel_rfl
 f6:=⟨Tryz.f87.name, by decide,Tryz.func87.trans (congrArg some (by kernel_rfl))⟩
 f14:=⟨Tryz.f130.name, by decide,Tryz.func130.trans (congrArg some (by kernel_rfl))⟩
 f15:=Tryz.func94.trans (congrArg some (by kernel_rfl))
 f20:=⟨Tryz.f172.name, by decide,Tryz.func172.trans (congrArg some (by kernel_rfl))⟩
 f21:=⟨Tryz.f173.name, by decide,Tryz.func173.trans (congrArg some (by kernel_rfl))⟩
 f22:=⟨Tryz.f174.name, by decide,Tryz.func174.trans (congrArg some (by kernel_rfl))⟩
 f23:=⟨Tryz.f175.name, by decide,Tryz.func175.trans (congrArg some (by kernel_rfl))⟩
 f24:=⟨Tryz.f176.name, by decide,Tryz.func176.trans (congrArg some (by kernel_rfl))⟩
 f25:=⟨Tryz.f177.name, by decide,Tryz.func177.trans (congrArg some (by kernel_rfl))⟩
 f26:=⟨Tryz.f178.name, by decide,Tryz.func178.trans (congrArg some (by kernel_rfl))⟩
 f27:=⟨Tryz.f179.name, by decide,Tryz.func179.trans (congrArg some (by kernel_rfl))⟩
 f28:=Tryz.func139.trans (congrArg some (by kernel_rfl))
 f29:=Tryz.func105.trans (congrArg some (by kernel_rfl))
 f46:=⟨Tryz.f210.name, by decide,Tryz.func210.trans (congrArg some (by kernel_rfl))⟩
 f47:=Tryz.func181.trans (congrArg some (by kernel_rfl))
 f48:=Tryz.func182.trans (congrArg some (by kernel_rfl))
 f49:=⟨Tryz.f211.name, by decide,Tryz.func211.trans (congrArg some (by kernel_rfl))⟩
 f50:=⟨Tryz.f212.name, by decide,Tryz.func212.trans (congrArg some (by kernel_rfl))⟩
 f57:=⟨Tryz.f231.name, by decide,Tryz.func231.trans (congrArg some (by kernel_rfl))⟩
 t0:=Tryz.underlying0
 a0:=Tryz.isAgg0
 z0:=Tryz.sizeOf0
 v0:=Tryz.zeroValue0
 t3:=Tryz.underlying3
 a3:=Tryz.isAgg3
 z3:=Tryz.sizeOf3
 v3:=Tryz.zeroValue3
 t4:=Tryz.underlying4
 a4:=Tryz.isAgg4
 z4:=Tryz.sizeOf4
 v4:=Tryz.zeroValue4
 t5:=Tryz.underlying5
 a5:=Tryz.isAgg5
 z5:=Tryz.sizeOf5
 v5:=Tryz.zeroValue5
 t9:=Tryz.underlying9
 a9:=Tryz.isAgg9
 z9:=Tryz.sizeOf9
 v9:=Tryz.zeroValue9
 t22:=Tryz.underlying88
 a22:=Tryz.isAgg88
 z22:=Tryz.sizeOf88
 v22:=Tryz.zeroValue88
 t25:=Tryz.underlying137
 a25:=Tryz.isAgg137
 z25:=Tryz.sizeOf137
 v25:=Tryz.zeroValue137
 t39:=Tryz.underlying143
 a39:=Tryz.isAgg143
 z39:=Tryz.sizeOf143
 v39:=Tryz.zeroValue143
 t45:=Tryz.underlying180
 a45:=Tryz.isAgg180
 z45:=Tryz.sizeOf180
 v45:=Tryz.zeroValue180
 t46:=Tryz.underlying181
 a46:=Tryz.isAgg181
 z46:=Tryz.sizeOf181
 v46:=Tryz.zeroValue181
 t50:=Tryz.underlying106
 a50:=Tryz.isAgg106
 z50:=Tryz.sizeOf106
 v50:=Tryz.zeroValue106
 t53:=Tryz.underlying34
 a53:=Tryz.isAgg34
 z53:=Tryz.sizeOf34
 v53:=Tryz.zeroValue34
 t55:=Tryz.underlying35
 a55:=Tryz.isAgg35
 z55:=Tryz.sizeOf35
 v55:=Tryz.zeroValue35
 t66:=Tryz.underlying225
 a66:=Tryz.isAgg225
 z66:=Tryz.sizeOf225
 v66:=Tryz.zeroValue225
 t70:=Tryz.underlying229
 a70:=Tryz.isAgg229
 z70:=Tryz.sizeOf229
 v70:=Tryz.zeroValue229
 t76:=Tryz.underlying260
 a76:=Tryz.isAgg260
 z76:=Tryz.sizeOf260
 v76:=Tryz.zeroValue260
 t77:=Tryz.underlying261
 a77:=Tryz.isAgg261
 z77:=Tryz.sizeOf261
 v77:=Tryz.zeroValue261 }
end
section
open Go Go.Shelf Go.RowKit Go.Sort
section
variable {α:Type} (x0:α) (cf:α→α→Int)
def ltI (l:List α) (i j:Nat):Int:=cf (l.getD i x0) (l.getD j x0)
def zq3 (l:List α):List α:=(pdq (ltOf (ltI x0 cf l)) (Array.range l.length) 0 l.length (Lib.bitLen l.length) true true).toList.map fun i=>l.getD i x0
theorem zz1 (hO:SWO (ltOf cf)) (l:List α):SWO (ltOf (ltI x0 cf l)) where
 irrefl x:=hO.irrefl _
 trans x y z h1 h2:=hO.trans _ _ _ h1 h2
 ntrans x y z h1 h2:=hO.ntrans _ _ _ h1 h2
theorem zz5 (hO:SWO (ltOf cf)) (l:List α):∃ d:List Nat,d.Perm (List.range l.length)∧zq3 x0 cf l=d.map (fun i=>l.getD i x0)∧d.Pairwise fun i j=>¬ cf (l.getD j x0) (l.getD i x0)<0:=by
 have h:=pdq_sorts (ltOf (ltI x0 cf l)) (zz1 x0 cf hO l) (Array.range l.length) 0 l.length (Lib.bitLen l.length) true true (Nat.zero_le _) (by simp) (Or.inl rfl)
 have hs:(pdq (ltOf (ltI x0 cf l)) (Array.range l.length) 0 l.length (Lib.bitLen l.length) true true).size=l.length:=by rw [h.1.1]; simp
 refine ⟨_,?_,rfl,?_⟩
 ·have p:=h.1.2.2
  rw [Array.extract_eq_self_of_le (by omega),Array.extract_eq_self_of_le (by simp)] at p
  simpa using p
 ·rw [List.pairwise_iff_getElem]
  intro i j hi hj hij
  have q:=h.2 i j (Nat.zero_le _) hij (by simpa [hs] using hj)
  rw [getElem!_pos _ i (by simpa using hi),getElem!_pos _ j (by simpa using hj)] at q
  simpa [ltOf,ltI] using q
theorem ziw (hO:SWO (ltOf cf)) (l:List α):(zq3 x0 cf l).Perm l:=by
 obtain ⟨d,h1,h2,_⟩:=zz5 x0 cf hO l
 rw [h2]
 refine (h1.map _).trans (List.Perm.of_eq ?_)
 apply List.ext_getElem (by simp)
 intro i h1 h2
 simp [List.getD_eq_getElem?_getD,h2]
theorem zk1 (hO:SWO (ltOf cf)) (l:List α):(zq3 x0 cf l).Pairwise fun x y=>¬ cf y x<0:=by
 obtain ⟨d,_,h2,h3⟩:=zz5 x0 cf hO l
 rw [h2,List.pairwise_map]
 exact h3
theorem zqm (hO:SWO (ltOf cf)) (l:List α):(zq3 x0 cf l).length=l.length:=(ziw x0 cf hO l).length_eq
end
theorem zlf {α:Type} {R:Rep α} {S:Blk} {w:World}:∀ {l:List α} {cs:List Value} (i:Nat) (hi:i<l.length),z51 R S w cs l→R.rel S w ((cs.drop (i * R.sz)).take R.sz) l[i]
 | x::l,cs,0,hi,h=>by
  obtain ⟨c,d,rfl,h1,h2⟩:=h
  have:=R.len h1
  simp [← this,h1]
 | x::l,cs,i+1,hi,h=>by
  obtain ⟨c,d,rfl,h1,h2⟩:=h
  have hc:=R.len h1
  have:=zlf i (by simpa using hi) h2
  rw [show (i+1) * R.sz=c.length+i * R.sz by rw [hc,Nat.add_mul]; omega]
  simpa using this
theorem zjk (k:Nat):∀ (n:Nat) (cs:List Value),cs.length=n * k→(List.range n).flatMap (fun i=>(cs.drop (i * k)).take k)=cs
 | 0,cs,h=>by simp at h; simp [h]
 | n+1,cs,h=>by
  have ih:=zjk k n (cs.take (n * k)) (by rw [List.length_take,h,Nat.add_mul]; omega)
  rw [List.range_succ,List.flatMap_append]
  have e:(List.range n).flatMap (fun i=>(cs.drop (i * k)).take k)=(List.range n).flatMap (fun i=>((cs.take (n * k)).drop (i * k)).take k):=by
   simp only [List.flatMap_def]
   congr 1
   apply List.map_congr_left
   intro i hi
   have hi':i<n:=by simpa using hi
   rw [List.drop_take,List.take_take]
   have:k≤n * k - i * k:=by
    rw [← Nat.sub_mul]
    exact Nat.le_mul_of_pos_left k (by omega)
   rw [Nat.min_eq_left this]
  rw [e,ih]
  simp only [List.flatMap_cons,List.flatMap_nil,List.append_nil]
  rw [List.take_of_length_le (l:=cs.drop (n * k)) (by rw [List.length_drop,h,Nat.add_mul]; omega),List.take_append_drop]
theorem znz {α:Type} {R:Rep α} {S:Blk} {w:World} {enc:Nat→List Value} {g:Nat→α} (h:∀ i,R.rel S w (enc i) (g i)):∀ is:List Nat,z51 R S w (is.flatMap enc) (is.map g)
 | []=>rfl
 | i::is=>⟨enc i,is.flatMap enc,List.flatMap_cons,h i,znz h is⟩
theorem zp2 {α:Type} {R:Rep α} (hagg:R.agg=true) (x0:α) (r0:List Value) (hz:∀ S w,R.rel S w r0 x0) (cf:α→α→Int) (hO:SWO (ltOf cf)) {P:Program} {f g T:Nat}
  (hnone:∀ (cap:Nat) (w:World),Calls P f #[.slice none 0 cap,.func (.func g) #[] #[]] w fun e w'=>e=.returned (.tuple #[])∧w'=w)
  (hsome:∀ (enc:Nat→List Value) (hk:∀ x,(enc x).length=R.sz) (h1:∀ x,∀ v∈enc x,v.oneCell'=true) (cf':Nat→Nat→Int) (hO:SWO (ltOf cf')) (blk cap:Nat) (d:Array Nat) (w:World),
   CmpLays P g #[] enc R.sz cf' blk 0 d.size w→HoldsK enc R.sz w blk 0 d→blk<w.heap.size→d.size<4611686018427387904 →
   Calls P f #[.slice (some ⟨blk,0,none⟩) d.size cap,.func (.func g) #[] #[]] w fun e w'=>e=.returned (.tuple #[])∧∃ n os,w'=sortWorldK enc R.sz w blk 0 n (pdq (ltOf cf') d 0 d.size (Lib.bitLen d.size) true true) os)
  (hcmp:∀ (x y:α) (c d:List Value) (S:Blk) (w W:World),R.rel S w c x→R.rel S w d y→Calls P g #[.agg c.toArray,.agg d.toArray] W fun e w'=>e=.returned (.int .i64 (cf x y))∧∃ q os',w'=grow (W.drewN q) os')
  (p0:Value) (c0:List α):z2b P f [.val p0,.val (.func (.func g) #[] #[])] [(1,some (p0,.list R T c0))] (chk (c0.length≤1000000) >>= fun _=>some (zq3 x0 cf c0))
   (fun r nv=>⟨[],[(1,some (p0,.list R T r))]⟩):=by
 intro r hr H vs w hvs hres
 have hb:c0.length≤1000000∧r=zq3 x0 cf c0:=by
  unfold chk at hr
  split at hr
  ·rename_i h; simp at hr; exact ⟨h,hr.symm⟩
  ·simp at hr
 obtain ⟨hlen0,rfl⟩:=hb
 match vs,hvs with
 | [v0,v1],hvs =>
 obtain ⟨h0,h1,_⟩:=hvs
 have e0:v0=p0:=h0.1
 have e1:v1=.func (.func g) #[] #[]:=h1.1
 subst e0; subst e1
 have hc:=hres.conts 1 v0 _ rfl
 have only:∀ r v c (q:z44),lr [(1,some (v0,q))] r=some (v,c)→r=1∧v=v0∧c=q:=fun r v c q h=>by
  rw [z2q] at h
  split at h
  ·rename_i e; cases h; exact ⟨e.symm,rfl,rfl⟩
  ·simp [lr,lk] at h
 have hlen:=zqm x0 cf hO
 rcases hc with ⟨rfl,rfl⟩ | ⟨b,o,k1,k2,b',cap,C,k3,rfl,k4,k5,k6,k7⟩
 ·refine (hnone 0 w).mono fun e w' ⟨he,hw⟩=>?_
  subst hw
  refine ⟨fun _=>undef,[],he,trivial, fun r v c h=>?_, fun r v c r' v' c' h h' hne=>?_, fun r v c h b hb=>?_,zdx.rfl'⟩
  ·obtain ⟨rfl,rfl,rfl⟩:=only _ _ _ _ h
   have:zq3 x0 cf ([]:List α)=[]:=List.eq_nil_of_length_eq_zero (by rw [hlen]; rfl)
   exact .inl ⟨rfl,this⟩
  ·exact absurd ((only _ _ _ _ h).1.trans (only _ _ _ _ h').1.symm) hne
  ·obtain ⟨rfl,rfl,rfl⟩:=only _ _ _ _ h; cases hb
 ·subst k3
  simp only [z47,Option.some.injEq] at k1
  subst k1
  have hlt:b'<w.heap.size:=(Array.getElem?_eq_some_iff.1 k2).1
  have hC:c0.length * R.sz≤C.size:=by rw [k6]; exact Nat.mul_le_mul_right _ k4
  let cs:=C.toList.take (c0.length * R.sz)
  have hcs:z51 R (Shr H [(1,some (.slice (some ⟨b',0,none⟩) c0.length cap,.list R T c0))] w) w cs c0:=k7
  let enc:Nat→List Value:=fun i=>if i<c0.length then (cs.drop (i * R.sz)).take R.sz else r0
  have henc:∀ i,R.rel (Shr H [(1,some (.slice (some ⟨b',0,none⟩) c0.length cap,.list R T c0))] w) w (enc i) (c0.getD i x0):=fun i=>by
   by_cases hi:i<c0.length
   ·have:=zlf i hi hcs
    simp only [enc,if_pos hi,List.getD_eq_getElem?_getD,List.getElem?_eq_getElem hi,Option.getD_some]; exact this
   ·simp only [enc,if_neg hi,List.getD_eq_getElem?_getD,List.getElem?_eq_none (Nat.le_of_not_lt hi),Option.getD_none]; exact hz _ _
  have hk:∀ i,(enc i).length=R.sz:=fun i=>R.len (henc i)
  have hflat:(List.range c0.length).flatMap enc=cs:=by
   have:=zjk R.sz c0.length cs (hcs.len)
   rw [← this]
   simp only [List.flatMap_def]
   congr 1
   apply List.map_congr_left
   intro i hi
   have hi':i<c0.length:=by simpa using hi
   simp only [enc,if_pos hi']
  have hH:HoldsK enc R.sz w b' 0 (Array.range c0.length):=by
   have:=ze1 enc R.sz hk (List.range c0.length) k2 (by rw [List.length_range,hflat])
   rwa [show (List.range c0.length).toArray=Array.range c0.length from by simp] at this
  have hso:=hsome enc hk (fun i v hv=>R.one (henc i) v hv) (ltI x0 cf c0) (zz1 x0 cf hO c0) b' cap (Array.range c0.length) w
   (fun m os dk hdk x y=>hcmp _ _ _ _ _ w _ (henc x) (henc y)) hH hlt (by simp; omega)
  rw [Array.size_range] at hso
  refine hso.mono fun e w' ⟨he,n,os,hw⟩=>?_
  obtain ⟨d,d1,d2,-⟩:=(⟨_,rfl,rfl,trivial⟩:∃ d:List Nat,d=(pdq (ltOf (ltI x0 cf c0)) (Array.range c0.length) 0 c0.length (Lib.bitLen c0.length) true true).toList∧zq3 x0 cf c0=d.map (fun i=>c0.getD i x0)∧True)
  have dl:d.length=c0.length:=by have:=hlen c0; rw [d2] at this; simpa using this
  have da:pdq (ltOf (ltI x0 cf c0)) (Array.range c0.length) 0 c0.length (Lib.bitLen c0.length) true true=d.toArray:=by rw [d1]
  rw [da] at hw
  rw [d2]
  subst hw
  have only':=only
  have hst:z7l (Shr H [(1,some (.slice (some ⟨b',0,none⟩) c0.length cap,.list R T c0))] w) (Shr H [(1,some (.slice (some ⟨b',0,none⟩) c0.length cap,.list R T (d.map fun i=>c0.getD i x0)))] (sortWorldK enc R.sz w b' 0 n d.toArray os)) w (sortWorldK enc R.sz w b' 0 n d.toArray os):=fun i hi=>by
   have hne:i≠b':=fun e=>hi.2.1 1 _ _ rfl (by rw [e]; rfl)
   refine ⟨⟨?_, fun r v c h=>?_,hi.2.2⟩,zdh enc R.sz w b' n _ os hi.1 hne⟩
   ·show i<(w.heap.modify b' _++os).size
    have:=hi.1
    simp; omega
   ·obtain ⟨rfl,rfl,rfl⟩:=only _ _ _ _ h
    exact hi.2.1 1 _ _ rfl
  refine ⟨fun _=>undef,[],he,trivial, fun r v c h=>?_, fun r v c r' v' c' h h' hne=>?_, fun r v c h b hb=>?_,rfl,rfl,rfl,?_, fun i hi=>?_⟩
  ·obtain ⟨rfl,rfl,rfl⟩:=only _ _ _ _ h
   refine .inr ⟨b',_,rfl,znc enc R.sz w n _ os k2,b',cap,_, by rw [List.length_map,dl],rfl, by rw [List.length_map,dl]; exact k4,k5,?_,?_⟩
   ·rw [← k6]; simp [putCells]
   ·rw [List.length_map,zlo enc R.sz hk d C (by rw [dl]; exact hC)]
    exact znz (fun i=>R.mono hst (henc i)) d
  ·exact absurd ((only _ _ _ _ h).1.trans (only _ _ _ _ h').1.symm) hne
  ·obtain ⟨rfl,rfl,rfl⟩:=only _ _ _ _ h
   exact .inr ⟨1,_,_,rfl,hb⟩
  ·show w.heap.size≤(w.heap.modify b' _++os).size
   simp
  ·exact zdh enc R.sz w b' n _ os hi.1 fun e=>hi.2 ⟨1,_,_,rfl, by rw [e]; rfl⟩
end
section
open Go Go.Shelf Go.RowKit Go.Lib Go.Sort
theorem zqk (W:World) (o1 o2:Obj) (q:Nat) (os':Array Obj):grow (((W.alloc o1).alloc o2).drewN q) os'=grow (W.drewN q) (#[o1,o2]++os'):=by
 have:(W.heap.push o1).push o2++os'=W.heap++(#[o1,o2]++os'):=by apply Array.toList_inj.1; simp
 show ({ W with drawn:=W.drawn+q,heap:=(W.heap.push o1).push o2++os' }:World) = { W with drawn:=W.drawn+q,heap:=W.heap++(#[o1,o2]++os') }
 rw [this]
theorem zz8 {S:Blk} {w:World} {c:List Value} {x:z02} (h:(z05).rel S w c x):∃ c1:List Value,c1.length=11∧c=c1++z48 x.id:=by
 obtain ⟨c1,c2,rfl,h1,c3,c4,rfl,h2,h3⟩:=h
 refine ⟨c1,z04.len h1,?_⟩
 have h3:c4=[]:=h3
 rw [h3,List.append_nil,zf2 h2]; rfl
theorem zw1 {w:World} {b:Nat} {c1:List Value} {x:V3} {T:TypeId} {fr:Nat × Nat} (h:w.heap[b]? = some (.cells (c1++z48 x).toArray T fr)) (hl:c1.length=11):(loadVar 45 ⟨b,11,none⟩).run Tryz.prog w=.ok (.agg (z48 x).toArray) w:=by
 refine zfb zyw z5n (z9y x) fun j u hu=>?_
 rw [z4q]
 unfold World.cell?
 rw [h]
 have:(c1++z48 x)[11+j]? = some u:=by rw [← hl,List.getElem?_append_right (by omega),Nat.add_sub_cancel_left]; exact hu
 simpa using this
set_option maxHeartbeats 1000000 in
set_option maxRecDepth 100000 in
theorem zzp (c1 d1:List Value) (hc:c1.length=11) (hd:d1.length=11) (x y:V3) (W:World) :
  Calls Tryz.prog 88 #[.agg (c1++z48 x).toArray,.agg (d1++z48 y).toArray] W fun e w'=>e=.returned (.int .i64 (Lib.compareBytes x.toList y.toList))∧∃ q os',w'=grow (W.drewN q) os':=by
 obtain ⟨W1,hW1⟩:∃ W1,W1=W.alloc (.cells (c1++z48 x).toArray 94):=⟨_,rfl⟩
 obtain ⟨W2,hW2⟩:∃ W2,W2=W1.alloc (.cells (d1++z48 y).toArray 94):=⟨_,rfl⟩
 have l0:(loadVar 45 ⟨W.heap.size,11,none⟩).run Tryz.prog W2=.ok (.agg (z48 x).toArray) W2:=zw1 (c1:=c1) (T:=94) (fr:=(0,0)) (by
  rw [hW2,hW1]; show ((W.heap.push _).push _)[W.heap.size]? = _
  rw [Array.getElem?_push_lt (by simp)]; simp) hc
 have l1:(loadVar 45 ⟨W1.heap.size,11,none⟩).run Tryz.prog W2=.ok (.agg (z48 y).toArray) W2:=zw1 (c1:=d1) (T:=94) (fr:=(0,0)) (by
  rw [hW2]; show (W1.heap.push _)[W1.heap.size]? = _
  rw [Array.getElem?_push_size]) hd
 go_enter Tryz.func88,Tryz.ntmps88
 refine wp_seq (wp_region_lit ?_)
 refine st (z86 rfl) (v:=.pointer (some ⟨W.heap.size,0,none⟩)) (w':=W1) (by rw [hW1]; simp [execOp,Act.eval,Act.put]; rfl) ?_
 refine st (z86 rfl) (v:=.pointer (some ⟨W1.heap.size,0,none⟩)) (w':=W2) (by rw [hW2]; simp [execOp,Act.eval,Act.put]; rfl) ?_
 refine st (z86 rfl) (v:=.int .i64 0) (w':=W2) (by simp [execOp,Act.eval]) ?_
 refine wp_seq (wp_region_lit ?_)
 refine st (z86 rfl) (v:=.pointer (some ⟨W.heap.size,11,none⟩)) (w':=W2) (by simp [execOp,Act.eval,Act.put]; rfl) ?_
 refine st (z86 rfl) (v:=.agg (z48 x).toArray) (w':=W2) (by simp [execOp,Act.eval,Act.put,Instr.loadAt,Instr.sureAddr,l0]) ?_
 refine st (z86 rfl) (v:=.pointer (some ⟨W1.heap.size,11,none⟩)) (w':=W2) (by simp [execOp,Act.eval,Act.put]; rfl) ?_
 refine st (z86 rfl) (v:=.agg (z48 y).toArray) (w':=W2) (by simp [execOp,Act.eval,Act.put,Instr.loadAt,Instr.sureAddr,l1]) ?_
 refine wpList_step fun K hK=>?_
 rw [if_pos (z86 rfl)]
 unfold Oper.wp
 rw [show ∀ a:Act,a.eval (.tmp 6)=.agg (z48 x).toArray→a.eval (.tmp 8)=.agg (z48 y).toArray→∀ o:Oper,o.op=Op.call { callee:=Callee.value (Operand.func 48),args:=#[Operand.tmp 6,Operand.tmp 8],argTypes:=#[45,45] }→(execOp a.eval o).run Tryz.prog W2=.ok (.enter 48 #[.agg (z48 x).toArray,.agg (z48 y).toArray]) W2 from fun a h6 h8 o ho=>by
  have e0:a.eval (.func 48)=.func (.func 48) #[] #[]:=rfl
  simp [execOp,ho,resolve,e0,Deferred.ofValue,invoke,z8i Tryz.func48 rfl (by rfl),h6,h8]]
 rotate_left
 ·simp [Act.eval,Act.put]
 ·simp [Act.eval,Act.put]
 ·rfl
 simp only [Oper.upon]
 refine (zgs x y W2).mono fun e w' ⟨he,q,os',hw⟩=>?_
 subst he
 refine hK _ _ ?_
 refine st (z86 rfl) (v:=.int .i64 (Lib.compareBytes x.toList y.toList)) (w':=w') (by simp [execOp,Act.eval,Act.put]) ?_
 go_wp2
 go_ret
 refine ⟨rfl,q,#[.cells (c1++z48 x).toArray 94,.cells (d1++z48 y).toArray 94]++os',?_⟩
 exact zqk _ _ _ _ _
def zok:z02:=(⟨(⟨0,[],0,(⟨0,[],(⟨0,0,0,[]⟩:z00)⟩:z0a),(⟨0,0⟩:z07)⟩:z01),(Vector.replicate 32 0)⟩:z02)
def cfN (x y:z02):Int:=Lib.compareBytes x.id.toList y.id.toList
theorem ltN (x y:z02):ltOf cfN x y=decide (kd x.id<kd y.id):=by
 unfold ltOf cfN
 rw [zmq,zin]
theorem zy2:SWO (ltOf cfN) where
 irrefl x:=by rw [ltN]; simp
 trans x y z h1 h2:=by rw [ltN] at *; simp at *; omega
 ntrans x y z h1 h2:=by rw [ltN] at *; simp at *; omega
def zre (l:List (z02)):Option (List (z02)):=chk (l.length≤1000000) >>= fun _=>some (zq3 zok cfN l)
theorem zqd (p0:Value) (c0:List (z02)):z2b Tryz.prog 87 [.val p0,.val (.func (.func 88) #[] #[])] [(1,some (p0,.list z05 94 c0))] (zre c0) (fun r nv=>⟨[],[(1,some (p0,.list z05 94 r))]⟩):=by
 refine zp2 rfl zok _ ztt cfN zy2 (fun cap w=>?_) (fun enc hk h1 cf' hO blk cap d w hc hH hb hs=>?_) (fun x y c d S w W hx hy=>?_) p0 c0
 ·exact AnyF.slices_SortFunc_none zs4 none cap _ w
 ·have eg:∀ args w,(callFunc 88 args).run Tryz.prog w=.ok (.enter 88 args) w:=enters_of Tryz.func88 (by kernel_rfl) rfl
  exact AnyQ.slices_SortFunc_eq zs4 43 Tryz.isAgg94 Tryz.sizeOf94 enc hk h1 cf' hO 88 #[] blk 0 cap d w eg hc hH hb hs
 ·obtain ⟨c1,h1,rfl⟩:=zz8 hx
  obtain ⟨d1,h2,rfl⟩:=zz8 hy
  exact zzp c1 d1 h1 h2 x.id y.id W
end
section
open Go Go.Shelf Go.RowKit Go.Lib
theorem zpe {P:Program} {ops:Array Oper} {o:Oper} {a:Act} {w:World} {K:Act→World→Prop} {Q:Exit→Act→World→Prop} {E:Prop}
  (hg:o.guard=none) (d x:Operand) (dT sT:TypeId) (hop:o.op=Op.call { callee:=Callee.builtin Builtin.append,args:=#[d,x],argTypes:=#[dT,sT] })
  (v u:Value) (hd:a.eval d=v) (hx:a.eval x=u) {v':Value} {w':World} (hr:(Builtin.append_ #[dT,sT] o.type #[v,u]).run P w=.ok v' w') (hK:K (a.put o.dst v') w') :
  if Region.wanted o (yielded ops a.tmps)=true then Oper.wp P o a w K Q else E:=by
 have hw:Region.wanted o (yielded ops a.tmps)=true:=by simp [Region.wanted,hg]
 rw [if_pos hw]
 unfold Oper.wp
 simp [execOp,hop,resolve,invoke,builtin,hd,hx,hr,Result.andThen]
 exact hK
theorem zvt {P:Program} {k by_:Nat} {z:Value} (w:World) (T e:TypeId) (hT:P.underlying T=some (.slice e)) (hE:TI P e z k by_) (hzl:z.cells.size=k) (h0:0<k) (hone:∀ u∈z.cells.toList,u.oneCell'=true)
  (g o n:Nat) (cur:Array Value) (t:TypeId) (hg:w.heap[g]? = some (.cells cur t (0,0))) (hn:0<n) (hfit:o+n * k≤cur.size) :
  ∃ D:Array Value,(∀ ty c,(Builtin.clear_ #[T] ty #[.slice (some ⟨g,o,none⟩) n c]).run P w=.ok (.tuple #[]) (w.setRow g D))∧D.size=cur.size∧D.toList.take o=cur.toList.take o:=by
 have hfl:=zb5 (n:=n) (z:=z.cells) (by omega)
 have hll:((List.replicate n z.cells.toList).flatten).length=n * k:=by simp [hzl]
 have hz1:∀ u∈(Builtin.zeroCells z.cells n).toList,u.oneCell'=true:=fun u hu=>by
  rw [hfl] at hu
  simp only [List.mem_flatten,List.mem_replicate] at hu
  obtain ⟨q,⟨-,rfl⟩,hu⟩:=hu
  exact hone u hu
 have hzn:(Builtin.zeroCells z.cells n).toList.length=n * k:=by rw [hfl,hll]
 have hst:=run_storeCells_at P g o t (Builtin.zeroCells z.cells n).toList 0 cur w hg (by rw [hzn]; simpa using hfit) hz1
 simp only [Nat.add_zero] at hst
 refine ⟨(cur.toList.take o++(Builtin.zeroCells z.cells n).toList++cur.toList.drop (o+(Builtin.zeroCells z.cells n).toList.length)).toArray, fun ty c=>?_,?_,?_⟩
 ·obtain ⟨n',rfl⟩:∃ n',n=n'+1:=⟨n - 1, by omega⟩
  simp only [Builtin.clear_,Sem.run_bind,run_underlying hT,Result.andThen,z8z hE,hst,Sem.run_pure,List.getElem?_toArray,List.getElem?_cons_zero]
 ·simp only [List.size_toArray,List.length_append,List.length_take,List.length_drop,Array.length_toList,hzn]; omega
 ·simp only [List.append_assoc]
  rw [List.take_append_of_le_length (by rw [List.length_take,Array.length_toList]; omega),List.take_take,Nat.min_self]
section
variable (b n c i j:Nat) (xs:List Value) (C:Array Value) (w:World)
set_option maxHeartbeats 4000000 in
set_option maxRecDepth 100000 in
theorem zle (p:Option Addr) (hi:i≤n) (hnc:n≤c) (hc63:c≤9223372036854775807) :
  Calls Tryz.prog 92 #[.slice p n c,.int .i64 i,.int .i64 i] w fun e w'=>e=.returned (.slice p n c)∧w'=w:=by
 have hn63:n≤9223372036854775807:=by omega
 go_enter Tryz.func92,Tryz.ntmps92
 go_wp2
 all_goals (go_ret; exact ⟨rfl,rfl⟩)
set_option maxHeartbeats 4000000 in
set_option maxRecDepth 100000 in
theorem zrh (hij:i<j) (hj:j≤n) (hnc:n≤c) (hc63:c≤9223372036854775807) (hC:w.heap[b]? = some (.cells C 94 (0,0)))
  (hCs:C.size=c * 43) (hxs:C.toList.take (n * 43)=xs) (h1x:∀ v∈xs,v.oneCell'=true) :
  Calls Tryz.prog 92 #[.slice (some ⟨b,0,none⟩) n c,.int .i64 i,.int .i64 j] w fun e w' =>
   e=.returned (.slice (some ⟨b,0,none⟩) (i+(n - j)) c)∧∃ D,w'=w.drew.setRow b D∧D.size=C.size∧D.toList.take ((i+(n - j)) * 43)=xs.take (i * 43)++xs.drop (j * 43):=by
 have u22:Tryz.prog.underlying 88=some (.slice 94):=Tryz.underlying88
 have hcc:∀ j v,C.toList[j]? = some v→w.cell? ⟨b,j,none⟩=some v:=fun j v hj=>by
  rw [Array.getElem?_toList] at hj; unfold World.cell?; rw [hC]; exact hj
 have hxl:xs.length=n * 43:=by rw [← hxs,List.length_take,Array.length_toList]; omega
 have hxg:∀ j v,xs[j]? = some v→C.toList[j]? = some v:=fun j v hj=>by
  rw [← hxs,List.getElem?_take] at hj; split at hj
  ·exact hj
  ·cases hj
 obtain ⟨i0,hi0,hz0,hzs,hzb⟩:=(ze4:TI Tryz.prog 94 _ _ _)
 have hnl:(xs.drop (j * 43)).length=(n - j) * 43:=by rw [List.length_drop,hxl,Nat.sub_mul]
 obtain ⟨Ad,hA,hsrc⟩:∃ Ad:Addr,(if c=j then some (⟨b,0,none⟩:Addr) else some ⟨b,j * 43,none⟩)=some Ad∧∀ t u,(xs.drop (j * 43))[t]? = some u→w.drew.cell? (Ad.add t)=some u:=by
  by_cases h:c=j
  ·refine ⟨⟨b,0,none⟩, by simp [h], fun t u hu=>?_⟩
   have h0:(xs.drop (j * 43)).length=0:=by rw [hnl, show n - j=0 by omega,Nat.zero_mul]
   rw [List.length_eq_zero_iff.1 h0] at hu
   simp at hu
  ·refine ⟨⟨b,j * 43,none⟩, by simp [h], fun t u hu=>?_⟩
   rw [Addr.add_lit]
   rw [List.getElem?_drop] at hu
   exact hcc _ _ (hxg _ _ hu)
 obtain ⟨D1,hD1⟩:∃ D1,D1=(C.toList.take (i * 43)++xs.drop (j * 43)++C.toList.drop (i * 43+(xs.drop (j * 43)).length)).toArray:=⟨_,rfl⟩
 have hap:∀ ty,(Builtin.append_ #[88,88] ty #[.slice (some ⟨b,0,none⟩) i c,.slice (some Ad) (n - j) (c - j)]).run Tryz.prog w.drew=.ok (.slice (some ⟨b,0,none⟩) (i+(n - j)) c) (w.drew.setRow b D1):=fun ty=>by
  have e:=run_append_room (P:=Tryz.prog) (w:=w.drew) 88 ty 94 i0 u22 hi0 b i c C hC Ad (n - j) (c - j) (xs.drop (j * 43)) (by rw [hzs,hnl]) hsrc (fun v hv=>h1x v (List.mem_of_mem_drop hv)) (by omega) (by rw [hzs,hnl,hCs]; omega)
  rw [hzs] at e
  rw [hD1]; exact e
 have hD1s:D1.size=C.size:=by
  rw [hD1]; simp only [List.size_toArray,List.length_append,List.length_take,List.length_drop,Array.length_toList,hxl]; omega
 have hD1t:D1.toList.take ((i+(n - j)) * 43)=xs.take (i * 43)++xs.drop (j * 43):=by
  have el:(C.toList.take (i * 43)).length=i * 43:=by rw [List.length_take,Array.length_toList]; omega
  have e2:C.toList.take (i * 43)=xs.take (i * 43):=by rw [← hxs,List.take_take]; congr 1; omega
  rw [hD1,List.take_append_of_le_length (by rw [List.length_append,el,hnl]; omega),List.take_of_length_le (by rw [List.length_append,el,hnl]; omega),e2]
 have hB1:(w.drew.setRow b D1).heap[b]? = some (.cells D1 94 (0,0)):=setRow_heap w.drew b C D1 94 (0,0) hC
 obtain ⟨D2,hcl,hD2s,hD2t⟩:=zvt (P:=Tryz.prog) (w.drew.setRow b D1) 88 94 u22 ze4 (by rfl) (by decide) (by decide) b ((i+(n - j)) * 43) (n - (i+(n - j))) D1 94 hB1 (by omega) (by rw [hD1s,hCs]; omega)
 obtain ⟨W1,hW1⟩:∃ W1,W1=w.drew.setRow b D1:=⟨_,rfl⟩
 have hfin:w.drew.setRow b D2=W1.setRow b D2:=by rw [hW1,setRow_setRow]
 rw [← hW1] at hcl hap
 have hic:i≤c:=by omega
 have hjc:j≤c:=by omega
 have hres:D2.size=C.size∧D2.toList.take ((i+(n - j)) * 43)=xs.take (i * 43)++xs.drop (j * 43):=⟨hD2s.trans hD1s,hD2t.trans hD1t⟩
 clear hcc hxg hD1 hxs hC hB1 h1x hnl hxl hsrc hD1s hD1t hD2s hD2t hz0 hzb hW1
 have hmix:Tryz.prog.follows .mixedOrders=true:=mixed
 go_enter Tryz.func92,Tryz.ntmps92
 go_wp2_with fail
 go_region_law_o (refine zpe rfl (.tmp 22) (.tmp 25) 88 88 rfl (.slice (some ⟨b,0,none⟩) i c) (.slice (some Ad) (n - j) (c - j)) (by simp [Act.eval,Act.put]) (by simp [Act.eval,Act.put,hA]) (hap _) ?_)
 go_wp2_with (simp only [hcl])
 go_ret
 exact ⟨rfl,D2,hfin.symm,hres⟩
end
end
section
open Go Go.RowKit
def zx0 {α:Type} (c0:List α) (i j:Int):Option (List α):=chk ((0≤i∧i≤j)∧j.toNat≤c0.length∧c0.length≤1000000) >>= fun _=>some (c0.take i.toNat++c0.drop j.toNat)
theorem zss {α:Type} {R:Rep α} (hR:R.sz=43) (p0:Value) (c0:List α) (i j:Int):z2b Tryz.prog 92 [.val p0,.rd z0j i,.rd z0j j] [(1,some (p0,.list R 94 c0))] (zx0 c0 i j)
  (fun r nv=>⟨[.val (nv 0)],[(100,some (nv 0,.list R 94 r))]⟩):=by
 intro r hr H vs w hvs hres
 have hb:((0≤i∧i≤j)∧j.toNat≤c0.length∧c0.length≤1000000)∧r=c0.take i.toNat++c0.drop j.toNat:=by
  unfold zx0 chk at hr
  split at hr
  ·rename_i h; simp at hr; exact ⟨h,hr.symm⟩
  ·simp at hr
 obtain ⟨⟨⟨hi0,hij⟩,hj,hn⟩,rfl⟩:=hb
 match vs,hvs with
 | [v0,v1,v2],hvs =>
 obtain ⟨h0,h1,h2,_⟩:=hvs
 have e0:v0=p0:=h0.1
 have e1:v1=.int .i64 i:=z2x h1
 have e2:v2=.int .i64 j:=z2x h2
 subst e0; subst e1; subst e2
 obtain ⟨i,rfl⟩:∃ k:Nat,i=(k:Int):=⟨i.toNat, by omega⟩
 obtain ⟨j,rfl⟩:∃ k:Nat,j=(k:Int):=⟨j.toNat, by omega⟩
 simp only [Int.toNat_natCast] at hj ⊢
 have hij:i≤j:=by omega
 have only:∀ v' r v c (q:z44),lr [(100,some (v',q))] r=some (v,c)→r=100∧v=v'∧c=q:=fun v' r v c q h=>by
  rw [z2q] at h
  split at h
  ·rename_i e; cases h; exact ⟨e.symm,rfl,rfl⟩
  ·simp [lr,lk] at h
 have hlen:(c0.take i++c0.drop j).length=i+(c0.length - j):=by
  simp only [List.length_append,List.length_take,List.length_drop]; omega
 rcases hres.conts 1 v0 _ rfl with ⟨rfl,rfl⟩ | ⟨b,o,k1,k2,b',cap,C,k3,rfl,k4,k5,k6,k7⟩
 ·simp only [List.length_nil,Nat.le_zero] at hj
  have hi:i=0:=by omega
  subst hj; subst hi
  refine (zle 0 0 0 w none (Nat.le_refl _) (Nat.le_refl _) (by omega)).mono fun e w' ⟨he,hw⟩=>?_
  subst hw
  refine ⟨fun _=>.slice none 0 0,[.slice none 0 0],he,⟨⟨rfl,rfl⟩,trivial⟩, fun r v c h=>?_, fun r v c r' v' c' h h' hne=>?_, fun r v c h b hb=>?_,zdx.rfl'⟩
  ·obtain ⟨rfl,rfl,rfl⟩:=only _ _ _ _ _ h
   exact .inl ⟨rfl,rfl⟩
  ·exact absurd ((only _ _ _ _ _ h).1.trans (only _ _ _ _ _ h').1.symm) hne
  ·obtain ⟨rfl,rfl,rfl⟩:=only _ _ _ _ _ h; cases hb
 ·subst k3
  simp only [z47,Option.some.injEq] at k1
  subst k1
  have hlt:b'<w.heap.size:=(Array.getElem?_eq_some_iff.1 k2).1
  have hcm:cap≤9223372036854775807:=by unfold maxLen at k5; omega
  rw [hR] at k6 k7
  have main:Calls Tryz.prog 92 #[.slice (some ⟨b',0,none⟩) c0.length cap,.int .i64 i,.int .i64 j] w fun e w'=>e=.returned (.slice (some ⟨b',0,none⟩) (i+(c0.length - j)) cap) ∧
    ∃ D,w'.heap[b']? = some (.cells D 94 (0,0))∧w.grownBy w' (some b')∧D.size=C.size∧D.toList.take ((i+(c0.length - j)) * 43)=(C.toList.take (c0.length * 43)).take (i * 43)++(C.toList.take (c0.length * 43)).drop (j * 43):=by
   rcases Nat.lt_or_ge i j with h | h
   ·refine (zrh b' c0.length cap i j _ C w h hj k4 hcm k2 k6 rfl (fun v hv=>k7.one v hv)).mono fun e w' ⟨he,D,hw,hD,hT⟩=>⟨he,D,?_,?_,hD,hT⟩
    ·rw [hw]; exact setRow_heap w.drew b' C D 94 (0,0) k2
    ·rw [hw]
     refine ⟨rfl,rfl,rfl,?_, fun k hk hne=>?_⟩
     ·rw [setRow_size]; exact Nat.le_refl _
     ·rw [setRow_other w.drew b' k D (fun e=>hne (by rw [e]))]; rfl
   ·have e:j=i:=by omega
    subst e
    refine (zle c0.length cap j w _ hj k4 hcm).mono fun e w' ⟨he,hw⟩=>⟨by rw [he, show j+(c0.length - j)=c0.length by omega],C, by rw [hw]; exact k2, by rw [hw]; exact ⟨rfl,rfl,rfl,Nat.le_refl _, fun _ _ _=>rfl⟩,rfl,?_⟩
    rw [show j+(c0.length - j)=c0.length by omega,List.take_append_drop]
  refine main.mono fun e w' ⟨he,D,hD,hg,hs,ht⟩=>?_
  have hst:z7l (Shr H [(1,some (.slice (some ⟨b',0,none⟩) c0.length cap,.list R 94 c0))] w) (Shr H [(100,some (.slice (some ⟨b',0,none⟩) (i+(c0.length - j)) cap,.list R 94 (c0.take i++c0.drop j)))] w') w w':=fun k hk=>by
   have hne:k≠b':=fun e=>hk.2.1 1 _ _ rfl (by rw [e]; rfl)
   refine ⟨⟨Nat.lt_of_lt_of_le hk.1 hg.size, fun r v c h=>?_,hk.2.2⟩,hg.block k hk.1 (fun e=>hne (Option.some.inj e))⟩
   obtain ⟨rfl,rfl,rfl⟩:=only _ _ _ _ _ h
   exact fun e=>hne (Option.some.inj e).symm
  refine ⟨fun _=>.slice (some ⟨b',0,none⟩) (i+(c0.length - j)) cap,[.slice (some ⟨b',0,none⟩) (i+(c0.length - j)) cap],he,⟨⟨rfl,rfl⟩,trivial⟩, fun r v c h=>?_, fun r v c r' v' c' h h' hne=>?_, fun r v c h b hb=>?_,hg.os,hg.tape,hg.output,hg.size, fun k hk=>?_⟩
  ·obtain ⟨rfl,rfl,rfl⟩:=only _ _ _ _ _ h
   refine .inr ⟨b',_,rfl,hD,b',cap,D, by rw [hlen],rfl, by rw [hlen]; omega,k5, by rw [hs,k6,hR],?_⟩
   rw [hlen,hR,ht]
   have x2:=k7.mono hst
   have a1:=x2.take i
   have a2:=x2.drop j
   rw [hR] at a1 a2
   exact a1.append a2
  ·exact absurd ((only _ _ _ _ _ h).1.trans (only _ _ _ _ _ h').1.symm) hne
  ·obtain ⟨rfl,rfl,rfl⟩:=only _ _ _ _ _ h
   exact .inr ⟨1,_,_,rfl,hb⟩
  ·refine hg.block k hk.1 fun e=>hk.2 ⟨1,_,_,rfl,?_⟩
   rw [Option.some.inj e]; rfl
end
section
open Go Go.RowKit
set_option maxRecDepth 100000
def z7d  : Option (z01 × z01 × Bool) :=
 zmg (⟨4,[],7,(⟨2,([97]:List UInt8),(⟨0,0,0,[]⟩:z00)⟩:z0a),(⟨5,6⟩:z07)⟩:z01) >>= fun r4 =>
 some ((⟨4,[],7,(⟨2,([97]:List UInt8),(⟨0,0,0,[]⟩:z00)⟩:z0a),(⟨5,6⟩:z07)⟩:z01),(⟨(⟨4,[],7,(⟨2,([97]:List UInt8),(⟨0,0,0,[]⟩:z00)⟩:z0a),(⟨5,6⟩:z07)⟩:z01).Author,[r4.1],(⟨4,[],7,(⟨2,([97]:List UInt8),(⟨0,0,0,[]⟩:z00)⟩:z0a),(⟨5,6⟩:z07)⟩:z01).Stamp,(⟨4,[],7,(⟨2,([97]:List UInt8),(⟨0,0,0,[]⟩:z00)⟩:z0a),(⟨5,6⟩:z07)⟩:z01).Act,(⟨4,[],7,(⟨2,([97]:List UInt8),(⟨0,0,0,[]⟩:z00)⟩:z0a),(⟨5,6⟩:z07)⟩:z01).Sig⟩:z01),r4.2==0)
theorem zc3  : z2b Tryz.prog 33 [] [zG1] (z7d) (fun r nv=>⟨[.rd z04 r.1,.rd z04 r.2.1,.rd z08 r.2.2],[(1001,some (.bool true,.glob 1 (z2g 64 z0m) z72))]⟩):=by
 refine z37 23 Tryz.func33 Z Z Z fun H w=>?_
 refine gSR<|Eb Z (z9u 1 za6 (ZrE.rd (R:=z0m) (x:=0) (Zr.num Z) (ZrE.nilS (ZrE.rd (R:=z2c) (x:=0) (Zr.num Z) (ZrE.rd (R:=z0l) (x:=(⟨0,[],(⟨0,0,0,[]⟩:z00)⟩:z0a)) zmz (ZrE.rd (R:=z0v) (x:=(⟨0,0⟩:z07)) zn3 ZrE.nil Z) Z) Z)) Z)) fun v1=>Eb Z (z9u 2 za6 (ZrE.rd (R:=z0m) (x:=0) (Zr.num Z) (ZrE.nilS (ZrE.rd (R:=z2c) (x:=0) (Zr.num Z) (ZrE.rd (R:=z0l) (x:=(⟨0,[],(⟨0,0,0,[]⟩:z00)⟩:z0a)) zmz (ZrE.rd (R:=z0v) (x:=(⟨0,0⟩:z07)) zn3 ZrE.nil Z) Z) Z)) Z)) fun v2=>Zb Z<|gSR<|Zq (bld (x':=(⟨2,([97]:List UInt8),(⟨0,0,0,[]⟩:z00)⟩:z0a)) [(0,1),(1,1),(2,4)] Tryz.underlying39 zi9 Z zmz Z (Bld.cons (z29 _) Z Z<|Bld.cons (z2y _) Z Z<|Bld.done Z))<|Zq (bld (x':=(⟨5,6⟩:z07)) [(0,1),(1,1)] Tryz.underlying41 zn4 Z zn3 Z (Bld.cons (z8k _) Z Z<|Bld.cons (z8f _) Z Z<|Bld.done Z))<|Zq (zz9 [(0,1),(1,1),(2,1),(3,6),(9,2)] Tryz.underlying43 za6 (ZrE.rd (R:=z0m) (x:=0) (Zr.num Z) (ZrE.nilS (ZrE.rd (R:=z2c) (x:=0) (Zr.num Z) (ZrE.rd (R:=z0l) (x:=(⟨0,[],(⟨0,0,0,[]⟩:z00)⟩:z0a)) zmz (ZrE.rd (R:=z0v) (x:=(⟨0,0⟩:z07)) zn3 ZrE.nil Z) Z) Z)) Z) Z (zj3.cons Z Z z17 (z8m.cast (z8m.here z17) Z)<|zj3.cons Z Z z17 (z8m.cast (z8m.next z17 (z8m.next z4l (z8m.here z17))) Z)<|zj3.cons Z Z z17 (z8m.cast (z8m.next z17 (z8m.next z4l (z8m.next z17 (z8m.here z17)))) Z)<|zj3.cons Z Z z17 (z8m.cast (z8m.next z17 (z8m.next z4l (z8m.next z17 (z8m.next z17 (z8m.here z17))))) Z)<|zj3.done Z))<|Eb Z (z9u 3 za6 (ZrE.rd (R:=z0m) (x:=0) (Zr.num Z) (ZrE.nilS (ZrE.rd (R:=z2c) (x:=0) (Zr.num Z) (ZrE.rd (R:=z0l) (x:=(⟨0,[],(⟨0,0,0,[]⟩:z00)⟩:z0a)) zmz (ZrE.rd (R:=z0v) (x:=(⟨0,0⟩:z07)) zn3 ZrE.nil Z) Z) Z)) Z)) fun v3=>Es (zyv 3 Z Z (z38.cast (z38.cons z17 (z38.cons z4l (z38.cons z17 (z38.cons z17 (z38.cons z17 z38.nil))))) Z) Z (zbo.cons zds (zbo.cons z9i (zbo.cons zds (zbo.cons zds (zbo.cons zds zbo.nil))))) (z38.cast (z38.cons z17 (z38.cons z4l (z38.cons z17 (z38.cons z17 (z38.cons z17 z38.nil))))) Z) za6)<|Zn<|gSR<|zpy aZ [.rd z0m 4,.rd (z03 aZ) [],.rd z2c 7,.rd z0l (⟨2,([97]:List UInt8),(⟨0,0,0,[]⟩:z00)⟩:z0a),.rd z0v (⟨5,6⟩:z07)] 3 [.rd z0m 4] [.rd z2c 7,.rd z0l (⟨2,([97]:List UInt8),(⟨0,0,0,[]⟩:z00)⟩:z0a),.rd z0v (⟨5,6⟩:z07)] Z Z Z<|zmc (R:=z04) (⟨4,[],7,(⟨2,([97]:List UInt8),(⟨0,0,0,[]⟩:z00)⟩:z0a),(⟨5,6⟩:z07)⟩:z01) 3 Z (Sp.via (Sp.prod (Sp.prod (Sp.prod (Sp.prod (Sp.prod Sp.unit))))))<|Zq (ld 3 Z Z fH zdg Z)<|Zc [1001] [] Tryz.func65 Z (zky _) fun r4 n5=>Zm Z<|Zq (ext Z Z)<|Zq (ext Z Z)<|Eb Z (z9u 4 z5n (.zr (R:=aZ) (x:=(Vector.replicate 32 0)) zim)) fun v6=>Es (sto 4 Z Z fH Z z5n)<|Zb Z<|gSR<|Zq (ld 3 Z Z fH zdg Z)<|Eb Z (z9u 5 za6 (ZrE.rd (R:=z0m) (x:=0) (Zr.num Z) (ZrE.nilS (ZrE.rd (R:=z2c) (x:=0) (Zr.num Z) (ZrE.rd (R:=z0l) (x:=(⟨0,[],(⟨0,0,0,[]⟩:z00)⟩:z0a)) zmz (ZrE.rd (R:=z0v) (x:=(⟨0,0⟩:z07)) zn3 ZrE.nil Z) Z) Z)) Z)) fun v7=>zpy aZ [.rd z0m 0,.rd (z03 aZ) [],.rd z2c 0,.rd z0l (⟨0,[],(⟨0,0,0,[]⟩:z00)⟩:z0a),.rd z0v (⟨0,0⟩:z07)] 5 [.rd z0m 0] [.rd z2c 0,.rd z0l (⟨0,[],(⟨0,0,0,[]⟩:z00)⟩:z0a),.rd z0v (⟨0,0⟩:z07)] Z Z Z<|zmc (R:=z04) (⟨0,[],0,(⟨0,[],(⟨0,0,0,[]⟩:z00)⟩:z0a),(⟨0,0⟩:z07)⟩:z01) 5 Z (Sp.via (Sp.prod (Sp.prod (Sp.prod (Sp.prod (Sp.prod Sp.unit))))))<|Es (sto 5 Z Z fH Z za6)<|Zn<|gSR<|Zq (ld 4 Z Z fH z8v Z)<|Ef Z (lit (R:=aZ) ([r4.1]:List V3) 6 (pP Z Z<|pN) Z tu29 z5n Z Z) fun v8=>Zq (faB 5 Z Z Tryz.underlying43 Z (by exact zdp))<|zy0 (R:=z04) 5 Z (Sp.via (Sp.prod (Sp.prod (Sp.prod (Sp.prod (Sp.prod Sp.unit))))))<|Es (zuw 5 Z Z (z8m.cast (z8m.next z17 (z8m.here z17)) Z) Z z9i z4l zdp)<|Zn<|z0w<|zzn [.rd z0m ((⟨4,[],7,(⟨2,([97]:List UInt8),(⟨0,0,0,[]⟩:z00)⟩:z0a),(⟨5,6⟩:z07)⟩:z01).Author),.rd (z03 aZ) [r4.1],.rd z2c ((⟨4,[],7,(⟨2,([97]:List UInt8),(⟨0,0,0,[]⟩:z00)⟩:z0a),(⟨5,6⟩:z07)⟩:z01).Stamp),.rd z0l ((⟨4,[],7,(⟨2,([97]:List UInt8),(⟨0,0,0,[]⟩:z00)⟩:z0a),(⟨5,6⟩:z07)⟩:z01).Act),.rd z0v ((⟨4,[],7,(⟨2,([97]:List UInt8),(⟨0,0,0,[]⟩:z00)⟩:z0a),(⟨5,6⟩:z07)⟩:z01).Sig)] 5 6 [.rd z0m ((⟨4,[],7,(⟨2,([97]:List UInt8),(⟨0,0,0,[]⟩:z00)⟩:z0a),(⟨5,6⟩:z07)⟩:z01).Author)] [.rd z2c ((⟨4,[],7,(⟨2,([97]:List UInt8),(⟨0,0,0,[]⟩:z00)⟩:z0a),(⟨5,6⟩:z07)⟩:z01).Stamp),.rd z0l ((⟨4,[],7,(⟨2,([97]:List UInt8),(⟨0,0,0,[]⟩:z00)⟩:z0a),(⟨5,6⟩:z07)⟩:z01).Act),.rd z0v ((⟨4,[],7,(⟨2,([97]:List UInt8),(⟨0,0,0,[]⟩:z00)⟩:z0a),(⟨5,6⟩:z07)⟩:z01).Sig)] Z Z Z Z Z<|zzy (R:=z04) (⟨(⟨4,[],7,(⟨2,([97]:List UInt8),(⟨0,0,0,[]⟩:z00)⟩:z0a),(⟨5,6⟩:z07)⟩:z01).Author,[r4.1],(⟨4,[],7,(⟨2,([97]:List UInt8),(⟨0,0,0,[]⟩:z00)⟩:z0a),(⟨5,6⟩:z07)⟩:z01).Stamp,(⟨4,[],7,(⟨2,([97]:List UInt8),(⟨0,0,0,[]⟩:z00)⟩:z0a),(⟨5,6⟩:z07)⟩:z01).Act,(⟨4,[],7,(⟨2,([97]:List UInt8),(⟨0,0,0,[]⟩:z00)⟩:z0a),(⟨5,6⟩:z07)⟩:z01).Sig⟩:z01) 5 Z (Sp.via (Sp.prod (Sp.prod (Sp.prod (Sp.prod (Sp.prod Sp.unit))))))<|z9c [1,2] mixed Z Z<|hTk 0 Z Z (ld 3 Z Z fH zdg Z)<|hTk 1 Z Z (ld 5 Z Z fH zdg Z)<|hTk 2 Z Z (mv Z)<|hTk 3 Z Z (I.eql Z Z)<|zyx aZ [.rd z0m 0,.rd (z03 aZ) [],.rd z2c 0,.rd z0l (⟨0,[],(⟨0,0,0,[]⟩:z00)⟩:z0a),.rd z0v (⟨0,0⟩:z07)] 1 [.rd z0m 0] [.rd z2c 0,.rd z0l (⟨0,[],(⟨0,0,0,[]⟩:z00)⟩:z0a),.rd z0v (⟨0,0⟩:z07)] Z Z Z<|zyq (R:=z04) (⟨0,[],0,(⟨0,[],(⟨0,0,0,[]⟩:z00)⟩:z0a),(⟨0,0⟩:z07)⟩:z01) 1 Z (Sp.via (Sp.prod (Sp.prod (Sp.prod (Sp.prod (Sp.prod Sp.unit))))))<|Zp 4 Z Z Z Z Z (sto 1 Z Z fH Z za6)<|zyx aZ [.rd z0m 0,.rd (z03 aZ) [],.rd z2c 0,.rd z0l (⟨0,[],(⟨0,0,0,[]⟩:z00)⟩:z0a),.rd z0v (⟨0,0⟩:z07)] 2 [.rd z0m 0] [.rd z2c 0,.rd z0l (⟨0,[],(⟨0,0,0,[]⟩:z00)⟩:z0a),.rd z0v (⟨0,0⟩:z07)] Z Z Z<|zyq (R:=z04) (⟨0,[],0,(⟨0,[],(⟨0,0,0,[]⟩:z00)⟩:z0a),(⟨0,0⟩:z07)⟩:z01) 2 Z (Sp.via (Sp.prod (Sp.prod (Sp.prod (Sp.prod (Sp.prod Sp.unit))))))<|Zp 5 Z Z Z Z Z (sto 2 Z Z fH Z za6)<|hTk 6 Z Z (asg Z)<|z6z (by kernel_rfl)<|z0t<|z0s<|zfk [] [1001] Z (eC 1 Z Z zdg<|eC 2 Z Z zdg<|eE Z<|eN) (y1 Z)
def z5c (a0:V3) (c1_0:List (V3 × Bool)):Option (Bool) :=
 some ((z9g c1_0 a0).getD false) >>= fun y2 =>
 some y2
theorem zbm (a0:V3) (p1_0:Value) (q1_0:Value) (c1_0:List (V3 × Bool)):z2b Tryz.prog 91 [.rd aZ a0,.val (z0f p1_0 0)] [(1,some (p1_0,.box 92 [.val q1_0])),(2,some (q1_0,.map aZ z08 c1_0))] (z5c a0 c1_0) (fun r nv=>⟨[.rd z08 r],[(1,some (p1_0,.box 92 [.val q1_0])),(2,some (q1_0,.map aZ z08 c1_0))]⟩):=by
 refine z37 7 Tryz.func91 Z Z Z fun H w=>?_
 refine gSR<|Eb Z (bx 3 Z) fun v1=>Zb Z<|gSR<|Zq (ldV 1 Z Z .here zx1 Z)<|Zq (ld 3 Z Z fH z8v Z)<|Zq (mlk Z (.own 2 Z Z) Z zs0 Tryz.underlying92 ti4 Zr.bool Z)<|Za Z<|z1u 3 Z fun y2=>Zn<|z0s<|Ze [] [1,2] Z
def z1y (a0:List V3) (c1_0:List (V3 × Bool)) (s2:Int):Option (Sum (Sum Int Unit) Int) :=
 if decide (s2<(a0.length:Int)) then
  idx a0 s2 >>= fun x4 =>
  z5c x4 c1_0 >>= fun r6 =>
  if r6 then
   some (.inl (.inl s2))
  else
   some (.inr (w64 (s2+1)))
 else
  some (.inl (.inr ()))
def z1c (a0:List V3) (c1_0:List (V3 × Bool)):Option (Int) :=
 z6b (iter (z1y a0 c1_0) 0) fun s1 =>
 some (-1)
theorem z3y (a0:List V3) (p1_0:Value) (q1_0:Value) (c1_0:List (V3 × Bool)):z2b Tryz.prog 125 [.rd (z03 aZ) a0,.val (.func (.func 91) #[] #[z0f p1_0 0])] [(1,some (p1_0,.box 92 [.val q1_0])),(2,some (q1_0,.map aZ z08 c1_0))] (z1c a0 c1_0) (fun r nv=>⟨[.rd z0j r],[(1,some (p1_0,.box 92 [.val q1_0])),(2,some (q1_0,.map aZ z08 c1_0))]⟩):=by
 refine z37 19 Tryz.func125 Z Z Z fun H w=>?_
 refine gSR<|Zb Z<|z84 (fun (s1:Unit) aa ww=>Sta (ctx 19 H [(1,some (p1_0,.box 92 [.val q1_0])),(2,some (q1_0,.map aZ z08 c1_0))] w) [] [(2,some (q1_0,.map aZ z08 c1_0)),(1,some (p1_0,.box 92 [.val q1_0]))] aa ww) ?_ (fun s1=>?_)
 ·refine gSR<|Zm Z<|Zq (z5m Z .rd Z tu29)<|Zm Z<|Zn<|z27 (fun (s2:Int) aa ww=>Sta (ctx 19 H [(1,some (p1_0,.box 92 [.val q1_0])),(2,some (q1_0,.map aZ z08 c1_0))] w) [(0,.rd (z03 aZ) a0),(1,.val (.func (.func 91) #[] #[z0f p1_0 0])),(7,.rd z0j (a0.length:Int)),(8,.rd z0j s2)] [(2,some (q1_0,.map aZ z08 c1_0)),(1,some (p1_0,.box 92 [.val q1_0]))] aa ww) (fun aa ww h=>Zu h [2,1]) (fun s2=>?_)
  refine gSR<|Zq (I.lss Z Z)<|Zn<|z0w<|gIf Z Z (fun h3=>?_) (fun h3=>?_)
  ·refine Zt<|z0w<|z67<|gSR<|Zm Z<|Zb Z<|gSR<|Zm Z<|Zm Z<|Zm Z<|z0o fun x4 h5=>Zq (ixR Z Z h5 tu29 z5n Z)<|Zq (ldR Z z8v)<|zkc [1,2] [(1,1),(2,2)] (gd0 Z) Z Z Tryz.func91 Z Z (zbm _ _ _ _) (Y1 Z) (cQ 1 Z<|cN) (Zi Z<|Zi Z<|rN) fun r6 n7=>Zj Z (fun h8=>?_) (fun h8=>?_)
   ·refine gSR<|Zm Z<|Zb Z<|z0s<|z3l<|z14<|z6f<|z5z<|Ze [] [1,2] Z
   ·refine z31<|z3o<|z0t<|z2d<|Zq (I.add Z Z)<|Zm Z<|z21<|z1x (fun aa ww h=>Zu h [2,1])
  ·refine z28<|z16<|z15<|z7p (fun aa ww h=>Zu h [2,1])
 ·refine gSR<|Zb Z<|z0s<|Ze [] [1,2] Z
def z18 (a0:List V3) (c1_0:List (V3 × Bool)):Option (Bool) :=
 z1c a0 c1_0 >>= fun r1 =>
 some (decide (0≤r1)) >>= fun y3 =>
 some y3
theorem z3j (a0:List V3) (p1_0:Value) (q1_0:Value) (c1_0:List (V3 × Bool)):z2b Tryz.prog 79 [.rd (z03 aZ) a0,.val (.func (.func 91) #[] #[z0f p1_0 0])] [(1,some (p1_0,.box 92 [.val q1_0])),(2,some (q1_0,.map aZ z08 c1_0))] (z18 a0 c1_0) (fun r nv=>⟨[.rd z08 r],[(1,some (p1_0,.box 92 [.val q1_0])),(2,some (q1_0,.map aZ z08 c1_0))]⟩):=by
 refine z37 9 Tryz.func79 Z Z Z fun H w=>?_
 refine gSR<|Zb Z<|gSR<|Zm Z<|Zm Z<|Zc [1,2] [(1,1),(2,2)] Tryz.func125 Z (z3y _ _ _ _) fun r1 n2=>Zq (I.geq Z Z)<|Za Z<|z1u 4 Z fun y3=>Zn<|z0s<|Ze [] [1,2] Z
def z56 (a0:z02) (c1_0:List (V3 × Bool)):Option (Bool) :=
 z18 a0.o.Preds c1_0 >>= fun r2 =>
 some (!r2)
theorem zde (a0:z02) (p1_0:Value) (q1_0:Value) (c1_0:List (V3 × Bool)):z2b Tryz.prog 90 [.rd z05 a0,.val (z0f p1_0 0)] [(1,some (p1_0,.box 92 [.val q1_0])),(2,some (q1_0,.map aZ z08 c1_0))] (z56 a0 c1_0) (fun r nv=>⟨[.rd z08 r],[(1,some (p1_0,.box 92 [.val q1_0])),(2,some (q1_0,.map aZ z08 c1_0))]⟩):=by
 refine z37 10 Tryz.func90 Z Z Z fun H w=>?_
 refine gSR<|Eb Z (bx 3 Z) fun v1=>Zb Z<|gSR<|Zq (faB 3 Z Z Tryz.underlying94 Z (by exact za6))<|Zq (faB 3 Z Z Tryz.underlying43 Z (by exact zdp))<|Zq (ld 3 Z Z ((fP (z41 _)).part (z0q _)) zee Z)<|Zq (mkf mp0 (mp1 Z))<|Zc [1,2] [(1,1),(2,2)] Tryz.func79 Z (z3j _ _ _ _) fun r2 n3=>Zq (zhv Z)<|Zb Z<|z0s<|Ze [] [1,2] Z
def z1g (a0:List z02) (c1_0:List (V3 × Bool)) (s2:Int):Option (Sum (Sum Int Unit) Int) :=
 if decide (s2<(a0.length:Int)) then
  idx a0 s2 >>= fun x4 =>
  z56 x4 c1_0 >>= fun r6 =>
  if r6 then
   some (.inl (.inl s2))
  else
   some (.inr (w64 (s2+1)))
 else
  some (.inl (.inr ()))
def z0k (a0:List z02) (c1_0:List (V3 × Bool)):Option (Int) :=
 z6b (iter (z1g a0 c1_0) 0) fun s1 =>
 some (-1)
theorem z2r (a0:List z02) (q0:Value) (l0:List z02) (p1_0:Value) (q1_0:Value) (c1_0:List (V3 × Bool)):z2b Tryz.prog 89 [.vw z05 q0 l0 a0,.val (.func (.func 90) #[] #[z0f p1_0 0])] [(1,some (q0,.list z05 94 l0)),(2,some (p1_0,.box 92 [.val q1_0])),(3,some (q1_0,.map aZ z08 c1_0))] (z0k a0 c1_0) (fun r nv=>⟨[.rd z0j r],[(1,some (q0,.list z05 94 l0)),(2,some (p1_0,.box 92 [.val q1_0])),(3,some (q1_0,.map aZ z08 c1_0))]⟩):=by
 refine z37 19 Tryz.func89 Z Z Z fun H w=>?_
 refine gSR<|Zb Z<|z84 (fun (s1:Unit) aa ww=>Sta (ctx 19 H [(1,some (q0,.list z05 94 l0)),(2,some (p1_0,.box 92 [.val q1_0])),(3,some (q1_0,.map aZ z08 c1_0))] w) [] [(1,some (q0,.list z05 94 l0)),(3,some (q1_0,.map aZ z08 c1_0)),(2,some (p1_0,.box 92 [.val q1_0]))] aa ww) ?_ (fun s1=>?_)
 ·refine gSR<|Zm Z<|Zq (z5m Z (.vw 1 Z) Z tu88)<|Zm Z<|Zn<|z27 (fun (s2:Int) aa ww=>Sta (ctx 19 H [(1,some (q0,.list z05 94 l0)),(2,some (p1_0,.box 92 [.val q1_0])),(3,some (q1_0,.map aZ z08 c1_0))] w) [(0,.vw z05 q0 l0 a0),(1,.val (.func (.func 90) #[] #[z0f p1_0 0])),(7,.rd z0j (a0.length:Int)),(8,.rd z0j s2)] [(1,some (q0,.list z05 94 l0)),(3,some (q1_0,.map aZ z08 c1_0)),(2,some (p1_0,.box 92 [.val q1_0]))] aa ww) (fun aa ww h=>Zu h [1,3,2]) (fun s2=>?_)
  refine gSR<|Zq (I.lss Z Z)<|Zn<|z0w<|gIf Z Z (fun h3=>?_) (fun h3=>?_)
  ·refine Zt<|z0w<|z67<|gSR<|Zm Z<|Zb Z<|gSR<|Zm Z<|Zm Z<|Zm Z<|z0o fun x4 h5=>Zq (ixQ 1 Z Z Z h5 tu88 ze4)<|Zq (ldQ 1 Z Z zum Z)<|zkc [2,3] [(1,2),(2,3)] (gd0 Z) Z Z Tryz.func90 Z Z (zde _ _ _ _) (Y1 Z) (cQ 2 Z<|cN) (Zi Z<|Zi Z<|rN) fun r6 n7=>Zj Z (fun h8=>?_) (fun h8=>?_)
   ·refine gSR<|Zm Z<|Zb Z<|z0s<|z3l<|z14<|z6f<|z5z<|Ze [] [1,2,3] Z
   ·refine z31<|z3o<|z0t<|z2d<|Zq (I.add Z Z)<|Zm Z<|z21<|z1x (fun aa ww h=>Zu h [1,3,2])
  ·refine z28<|z16<|z15<|z7p (fun aa ww h=>Zu h [1,3,2])
 ·refine gSR<|Zb Z<|z0s<|Ze [] [1,2,3] Z
def z5v (a0:List z01) (s3:(List z02) × Int):Option (Sum (Sum ((List z02) × Int) ((List z02))) ((List z02) × Int)) :=
 if decide (s3.2<(a0.length:Int)) then
  idx a0 s3.2 >>= fun x6 =>
  zmg x6 >>= fun r9 =>
  if r9.2 != 0 then
   some (.inl (.inl ([],r9.2)))
  else
   z1n x6.Preds >>= fun r13 =>
   app 144 s3.1 [(⟨(⟨x6.Author,r13,x6.Stamp,x6.Act,x6.Sig⟩:z01),r9.1⟩:z02)] >>= fun x16 =>
   some (.inr (x16,w64 (s3.2+1)))
 else
  some (.inl (.inr s3.1))
def z5q (r20:List z02) (s25:(List (V3 × Bool)) × Int):Option (Sum (Sum ((List z02) × Int) ((List (V3 × Bool)))) ((List (V3 × Bool)) × Int)) :=
 if decide (s25.2<(r20.length:Int)) then
  idx r20 s25.2 >>= fun x27 =>
  if (z9g s25.1 x27.id).getD false then
   some (.inl (.inl ([],14)))
  else
   some (.inr (zeq s25.1 x27.id true,w64 (s25.2+1)))
 else
  some (.inl (.inr s25.1))
def z4h (s32:(List z02) × (List (V3 × Bool)) × (List z02)):Option (Sum (Sum ((List z02) × Int) ((List z02))) ((List z02) × (List (V3 × Bool)) × (List z02))) :=
 if decide (0<(s32.1.length:Int)) then
  z0k s32.1 s32.2.1 >>= fun r35 =>
  if decide (r35<0) then
   some (.inl (.inl ([],36)))
  else
   idx s32.1 r35 >>= fun x38 =>
   app 144 s32.2.2 [x38] >>= fun x41 =>
   idx s32.1 r35 >>= fun x44 =>
   zx0 s32.1 r35 (w64 (r35+1)) >>= fun r46 =>
   some (.inr (r46,zhy s32.2.1 x44.id,x41))
 else
  some (.inl (.inr s32.2.2))
def z6r (a0:List z01):Option ((List z02) × Int) :=
 if decide (60<(a0.length:Int)) then
  some ([],4)
 else
  z6b (iter (z5v a0) ([],0)) fun s2 =>
  zre s2 >>= fun r20 =>
  z6b (iter (z5q r20) (([]:List (V3 × Bool)),0)) fun s24 =>
  z6b (iter (z4h) (r20,s24,[])) fun s31 =>
  some (s31,0)
theorem z8r (a0:List z01):z2b Tryz.prog 45 [.rd (z03 z04) a0] [zG1] (z6r a0) (fun r nv=>⟨[.val (nv 0),.rd z0j r.2],[(1001,some (.bool true,.glob 1 (z2g 64 z0m) z72)),(100,some (nv 0,.list z05 94 r.1))]⟩):=by
 refine z37 86 Tryz.func45 Z Z Z fun H w=>?_
 refine gSR<|Za Z<|Zb Z<|z0w<|gSR<|Zm Z<|Zq (z5m Z .rd Z tu22)<|Zq (I.gtr Z Z)<|Zj Z (fun h1=>?_) (fun h1=>?_)
 ·refine gSR<|Za Z<|Zb Z<|z0s<|z14<|zhx z05 94 1<|Ze [(.slice none 0 0)] [1001,1] Z
 ·refine Zt<|gSR<|Zb Z<|z84 (fun (s2:(List z02)) aa ww=>∃ nv:Nat→Value,Sta (ctx 86 H [zG1] w) [(4,.val (nv 0))] [(6,some ((nv 0),.list z05 94 s2)),zG1] aa ww) ?_ (fun s2=>?_)
  ·refine gSR<|Zm Z<|Zq (z5m Z .rd Z tu22)<|Zm Z<|Zn<|zql z05 94 1106<|z27 (fun (s3:(List z02) × Int) aa ww=>∃ nv:Nat→Value,Sta (ctx 86 H [zG1] w) [(4,.val (nv 0)),(17,.rd (z03 z04) a0),(18,.rd z0j (a0.length:Int)),(19,.rd z0j s3.2)] [(1105,some ((nv 0),.list z05 94 s3.1)),zG1] aa ww) (fun aa ww h=>⟨nvl [(.slice none 0 0)],Zu h [1106,1001]⟩) (fun s3=>?_)
   refine gEx fun n4=>gSR<|Zq (I.lss Z Z)<|Zn<|z0w<|gIf Z Z (fun h5=>?_) (fun h5=>?_)
   ·refine Zt<|z0w<|z67<|gSR<|z0o fun x6 h7=>Zq (ixR Z Z h7 tu22 za6 Z)<|Zq (ldR Z zdg)<|Eb Z (z9u 1107 za6 (ZrE.rd (R:=z0m) (x:=0) (Zr.num Z) (ZrE.nilS (ZrE.rd (R:=z2c) (x:=0) (Zr.num Z) (ZrE.rd (R:=z0l) (x:=(⟨0,[],(⟨0,0,0,[]⟩:z00)⟩:z0a)) zmz (ZrE.rd (R:=z0v) (x:=(⟨0,0⟩:z07)) zn3 ZrE.nil Z) Z) Z)) Z)) fun v8=>zpy aZ [.rd z0m 0,.rd (z03 aZ) [],.rd z2c 0,.rd z0l (⟨0,[],(⟨0,0,0,[]⟩:z00)⟩:z0a),.rd z0v (⟨0,0⟩:z07)] 1107 [.rd z0m 0] [.rd z2c 0,.rd z0l (⟨0,[],(⟨0,0,0,[]⟩:z00)⟩:z0a),.rd z0v (⟨0,0⟩:z07)] Z Z Z<|zmc (R:=z04) (⟨0,[],0,(⟨0,[],(⟨0,0,0,[]⟩:z00)⟩:z0a),(⟨0,0⟩:z07)⟩:z01) 1107 Z (Sp.via (Sp.prod (Sp.prod (Sp.prod (Sp.prod (Sp.prod Sp.unit))))))<|Es (sto 1107 Z Z fH Z za6)<|Zn<|gSR<|Zq (ld 1107 Z Z fH zdg Z)<|Zc [1001] [] Tryz.func65 Z (zky _) fun r9 n10=>Zm Z<|Zq (ext Z Z)<|Zq (ext Z Z)<|Eb Z (z9u 1108 z5n (.zr (R:=aZ) (x:=(Vector.replicate 32 0)) zim)) fun v11=>Es (sto 1108 Z Z fH Z z5n)<|Zb Z<|z0w<|gSR<|Zm Z<|Zq (I.neq Z Z)<|Zj Z (fun h12=>?_) (fun h12=>?_)
    ·refine gSR<|Zm Z<|Za Z<|Zb Z<|z0s<|z14<|z3l<|z14<|z6f<|z5z<|zhx z05 94 1109<|Ze [(.slice none 0 0)] [1001,1109] Z
    ·refine Zt<|gSR<|Zq (faB 1107 Z Z Tryz.underlying43 Z (by exact zdp))<|Zq (ld 1107 Z Z (fP (z0q _)) zee Z)<|Zc [] [(100,1110)] Tryz.func83 Z (z5r _) fun r13 n14=>Zq (faB 1107 Z Z Tryz.underlying43 Z (by exact zdp))<|zy0 (R:=z04) 1107 Z (Sp.via (Sp.prod (Sp.prod (Sp.prod (Sp.prod (Sp.prod Sp.unit))))))<|Es (zuw 1107 Z Z (z8m.cast (z8m.next z17 (z8m.here z17)) Z) Z z9i z4l zdp)<|Zn<|z2d<|Zm Z<|zyf [.rd z0m x6.Author,.rd (z03 aZ) r13,.rd z2c x6.Stamp,.rd z0l x6.Act,.rd z0v x6.Sig] 1107 1110 [.rd z0m x6.Author] [.rd z2c x6.Stamp,.rd z0l x6.Act,.rd z0v x6.Sig] Z Z Z Z Z<|zmc (R:=z04) (⟨x6.Author,r13,x6.Stamp,x6.Act,x6.Sig⟩:z01) 1107 Z (Sp.via (Sp.prod (Sp.prod (Sp.prod (Sp.prod (Sp.prod Sp.unit))))))<|Zq (ld 1107 Z Z fH zdg Z)<|Zq (ld 1108 Z Z fH z8v Z)<|Zq (bld (x':=(⟨(⟨x6.Author,r13,x6.Stamp,x6.Act,x6.Sig⟩:z01),r9.1⟩:z02)) [(0,11),(11,32)] Tryz.underlying94 ze4 Z ztt Z (Bld.cons (z41 _) Z Z<|Bld.cons (z4d _) Z Z<|Bld.done Z))<|Ef Z (lit (R:=z05) ([(⟨(⟨x6.Author,r13,x6.Stamp,x6.Act,x6.Sig⟩:z01),r9.1⟩:z02)]:List z02) 1111 (pP Z Z<|pN) Z tu88 ze4 Z Z) fun v15=>zed 1111 [39] Z (fS Z<|fN)<|z0o fun x16 h17=>Ef Z (apn 1105 Z Z Z .rd h17 tu88 ze4 Z Z Z) fun v18=>Za Z<|z21<|z3o<|z0t<|z2d<|Zq (I.add Z Z)<|Zm Z<|z21<|z1x (fun aa ww h=>⟨nvl [v18],Zu h [1105,1001]⟩)
   ·refine z28<|z16<|z15<|z7p (fun aa ww h=>⟨nvl [(n4 0)],Zu h [1105,1001]⟩)
  ·refine gEx fun n19=>gSR<|Zm Z<|Zc [6] [(1,6)] Tryz.func87 Z (zqd _ _) fun r20 n21=>Zn<|gSR<|Ef Z (mkm aZ z08 1112 (Or.inl Z) Tryz.underlying92) fun v22=>Eb Z (z9u 1113 zyr (.val Z)) fun v23=>Es (zuw 1113 Z Z (.here z4l) Z z9i z4l zyr)<|Zn<|z84 (fun (s24:(List (V3 × Bool))) aa ww=>Sta (ctx 86 H [zG1] w) [(4,.val (n19 0)),(9,.val (z0f v23 0))] [(6,some ((n19 0),.list z05 94 r20)),(1112,some (v22,.map aZ z08 s24)),(1113,some (v23,.box 92 [.val v22])),zG1] aa ww) ?_ (fun s24=>?_)
   ·refine gSR<|Zm Z<|Zq (z5m Z (.own 6 Z) Z tu88)<|Zm Z<|Zn<|z27 (fun (s25:(List (V3 × Bool)) × Int) aa ww=>Sta (ctx 86 H [zG1] w) [(4,.val (n19 0)),(9,.val (z0f v23 0)),(45,.val (n19 0)),(46,.rd z0j (r20.length:Int)),(47,.rd z0j s25.2)] [(6,some ((n19 0),.list z05 94 r20)),(1112,some (v22,.map aZ z08 s25.1)),(1113,some (v23,.box 92 [.val v22])),zG1] aa ww) (fun aa ww h=>Zu h [6,1112,1113,1001]) (fun s25=>?_)
    refine gSR<|Zq (I.lss Z Z)<|Zn<|z0w<|gIf Z Z (fun h26=>?_) (fun h26=>?_)
    ·refine Zt<|z0w<|z67<|gSR<|z0o fun x27 h28=>Zq (ixO 6 Z Z Z h28 tu88 ze4)<|Zq (ld 6 Z Z (Foc.el h28) zum Z)<|Eb Z (z9u 1114 ze4 (.zr (R:=z05) (x:=(⟨(⟨0,[],0,(⟨0,[],(⟨0,0,0,[]⟩:z00)⟩:z0a),(⟨0,0⟩:z07)⟩:z01),(Vector.replicate 32 0)⟩:z02)) ztt)) fun v29=>Es (sto 1114 Z Z fH Z ze4)<|Zn<|z0w<|gSR<|Zq (ldV 1113 Z Z .here zx1 Z)<|Zq (faB 1114 Z Z Tryz.underlying94 Z (by exact z5n))<|Zq (ld 1114 Z Z (fP (z4d _)) z8v Z)<|Zq (mlk Z (.own 1112 Z Z) Z zs0 Tryz.underlying92 ti4 Zr.bool Z)<|Zj Z (fun h30=>?_) (fun h30=>?_)
     ·refine gSR<|Za Z<|Zb Z<|z0s<|z14<|z3l<|z14<|z6f<|z5z<|zhx z05 94 1115<|Ze [(.slice none 0 0)] [1001,1115] Z
     ·refine Zt<|z2d<|Zq (ldV 1113 Z Z .here zx1 Z)<|Zq (faB 1114 Z Z Tryz.underlying94 Z (by exact z5n))<|Zq (ld 1114 Z Z (fP (z4d _)) z8v Z)<|Es (mup 1112 Z Z Z Z zs0 Tryz.underlying92)<|z21<|z3o<|z0t<|z2d<|Zq (I.add Z Z)<|Zm Z<|z21<|z1x (fun aa ww h=>Zu h [6,1112,1113,1001])
    ·refine z28<|z16<|z15<|z7p (fun aa ww h=>Zu h [6,1112,1113,1001])
   ·refine gSR<|Zb Z<|z84 (fun (s31:(List z02)) aa ww=>∃ nv:Nat→Value,Sta (ctx 86 H [zG1] w) [(12,.val (nv 0))] [(1117,some ((nv 0),.list z05 94 s31)),zG1] aa ww) ?_ (fun s31=>?_)
    ·refine zql z05 94 1121<|z27 (fun (s32:(List z02) × (List (V3 × Bool)) × (List z02)) aa ww=>∃ nv:Nat→Value,Sta (ctx 86 H [zG1] w) [(4,.val (nv 0)),(9,.val (z0f v23 0)),(12,.val (nv 1))] [(6,some ((nv 0),.list z05 94 s32.1)),(1112,some (v22,.map aZ z08 s32.2.1)),(1113,some (v23,.box 92 [.val v22])),(1120,some ((nv 1),.list z05 94 s32.2.2)),zG1] aa ww) (fun aa ww h=>⟨nvl [(n19 0),(.slice none 0 0)],Zu h [6,1112,1113,1121,1001]⟩) (fun s32=>?_)
     refine gEx fun n33=>z0w<|gSR<|Zm Z<|Zq (z5m Z (.own 6 Z) Z tu88)<|Zq (I.gtr Z Z)<|Zj Z (fun h34=>?_) (fun h34=>?_)
     ·refine Zt<|z67<|gSR<|Zm Z<|Zq (mkf mp0 (mp1 Z))<|call [6,1113,1112] [(1,6),(2,1113),(3,1112)] Z Tryz.func89 Z Z (z2r _ _ _ _ _ _) (aW Z<|aQ Z<|aN) (Zi Z<|Zi Z<|Zi Z<|rN) fun r35 n36=>Zb Z<|z0w<|gSR<|Zm Z<|Zq (I.lss Z Z)<|Zj Z (fun h37=>?_) (fun h37=>?_)
      ·refine gSR<|Za Z<|Zb Z<|z0s<|z14<|z3l<|z6f<|z5z<|zhx z05 94 1122<|Ze [(.slice none 0 0)] [1001,1122] Z
      ·refine Zt<|gSR<|Zm Z<|Zm Z<|Zm Z<|z0o fun x38 h39=>Zq (ixO 6 Z Z Z h39 tu88 ze4)<|Zq (ld 6 Z Z (Foc.el h39) zum Z)<|Ef Z (lit (R:=z05) ([x38]:List z02) 1123 (pP Z Z<|pN) Z tu88 ze4 Z Z) fun v40=>zed 1123 [72] Z (fS Z<|fN)<|z0o fun x41 h42=>Ef Z (apn 1120 Z Z Z .rd h42 tu88 ze4 Z Z Z) fun v43=>Zb Z<|z0w<|z9c [1112] mixed Z Z<|hTk 0 Z Z (ldV 1113 Z Z .here zx1 Z)<|hTk 1 Z Z (mv Z)<|hTk 2 Z Z (mv Z)<|z5i fun x44 h45=>hTk 3 Z Z (ixO 6 Z Z Z h45 tu88 ze4)<|hTk 4 Z Z (fa 6 Z Z zcl (zrg h45) Tryz.underlying94 Z (by exact z5n))<|hTk 5 Z Z (ld 6 Z Z ((Foc.el h45).part (z4d _)) z8v Z)<|zze 6 Z (by kernel_rfl) (gd0 Z) Z Z Z Z (mdeV 1112 Z Z Z zs0 Z Tryz.underlying92)<|z6z (by kernel_rfl)<|z0t<|z2d<|Zm Z<|Zm Z<|Zm Z<|Zq (I.add Z Z)<|call [6] [(100,1148)] Z Tryz.func92 Z Z (zss (R:=z05) Z _ _ _ _) (aQ Z<|aQ Z<|aQ Z<|aN) (y1 Z) fun r46 n47=>Za Z<|z21<|z3o<|z1x (fun aa ww h=>⟨nvl [(n47 0),v43],Zu h [1148,1112,1113,1120,1001]⟩)
     ·refine z28<|z16<|z15<|z7p (fun aa ww h=>⟨nvl [(n33 1)],Zu h [1120,1001]⟩)
    ·refine gEx fun n48=>gSR<|Zm Z<|Za Z<|Zb Z<|z0s<|Ze [(n48 0)] [1001,1117] Z
def z91 (s12:(List UInt8) × (List (V3 × Int)) × Int) (x15:z02) (s34:(List UInt8) × Int):Option (Sum ((List UInt8)) ((List UInt8) × Int)) :=
 if decide (s34.2<(x15.o.Preds.length:Int)) then
  idx x15.o.Preds s34.2 >>= fun x37 =>
  some ((z9g s12.2.1 x37).getD 0) >>= fun y40 =>
  some ((z9g s12.2.1 x37).isSome) >>= fun y41 =>
  if y41 then
   z2u (UInt64.ofInt (w64 (s12.2.2 - y40))) >>= fun r43 =>
   app 1 s34.1 r43 >>= fun x45 =>
   some (.inr (x45,w64 (s34.2+1)))
  else
   app 1 s34.1 [0] >>= fun x49 =>
   app 1 x49 x37.toList >>= fun x52 =>
   some (.inr (x52,w64 (s34.2+1)))
 else
  some (.inl s34.1)
def z8x (r1:(List z02) × Int) (s12:(List UInt8) × (List (V3 × Int)) × Int):Option (Sum (Sum ((List UInt8) × Int) ((List UInt8))) ((List UInt8) × (List (V3 × Int)) × Int)) :=
 if decide (s12.2.2<(r1.1.length:Int)) then
  idx r1.1 s12.2.2 >>= fun x15 =>
  z9a (⟨x15.o.Author,[],x15.o.Stamp,x15.o.Act,x15.o.Sig⟩:z01) >>= fun r19 =>
  if r19.2 != 0 then
   some (.inl (.inl ([],r19.2)))
  else
   z8b r19.1 >>= fun r22 =>
   if r22.2 != 0 then
    some (.inl (.inl ([],r22.2)))
   else
    app 1 s12.1 r22.1 >>= fun x25 =>
    z2u (UInt64.ofInt (x15.o.Preds.length:Int)) >>= fun r28 =>
    app 1 x25 r28 >>= fun x30 =>
    (iter (z91 s12 x15) (x30,0)) >>= fun s33 =>
    some (.inr (s33,zeq s12.2.1 x15.id s12.2.2,w64 (s12.2.2+1)))
 else
  some (.inl (.inr s12.1))
def z6k (a0:List z01):Option ((List UInt8) × Int) :=
 z6r a0 >>= fun r1 =>
 if r1.2 != 0 then
  some ([],r1.2)
 else
  z2u (UInt64.ofInt (r1.1.length:Int)) >>= fun r5 =>
  app 1 [112] r5 >>= fun x7 =>
  z6b (iter (z8x r1) (x7,([]:List (V3 × Int)),0)) fun s11 =>
  some (s11,0)
theorem zh6 (a0:List z01):z2b Tryz.prog 21 [.rd (z03 z04) a0] [zG1] (z6k a0) (fun r nv=>⟨[.val (nv 0),.rd z0j r.2],[(1001,some (.bool true,.glob 1 (z2g 64 z0m) z72)),(100,some (nv 0,.list u8R 5 r.1))]⟩):=by
 refine z37 103 Tryz.func21 Z Z Z fun H w=>?_
 refine gSR<|Za Z<|Zb Z<|gSR<|Zm Z<|Zc [1001] [(100,1)] Tryz.func45 Z (z8r _) fun r1 n2=>Zm Z<|Zq (ext Z Z)<|Zq (ext Z Z)<|Za Z<|Zb Z<|z0w<|gSR<|Zm Z<|Zq (I.neq Z Z)<|Zj Z (fun h3=>?_) (fun h3=>?_)
 ·refine gSR<|Zm Z<|Za Z<|Zb Z<|z0s<|z14<|zhx u8R 5 2<|Ze [(.slice none 0 0)] [1001,2] Z
 ·refine Zt<|gSR<|Ef Z (lit (R:=u8R) ([112]:List UInt8) 3 (pP Z Z<|pN) Z tu52 ti5 Z Z) fun v4=>Zm Z<|Zq (z5m Z (.own 1 Z) Z tu88)<|Zq (I.toU Z tu3 tu35)<|Zc [] [(100,4)] Tryz.func57 Z (z2h _) fun r5 n6=>z0o fun x7 h8=>Ef Z (apn 3 Z Z Z (.own 4 Z) h8 tu52 ti5 Z Z Z) fun v9=>Zb Z<|gSR<|Ef Z (mkm aZ z0j 5 (Or.inl Z) Tryz.underlying103) fun v10=>Zb Z<|z84 (fun (s11:(List UInt8)) aa ww=>∃ nv:Nat→Value,Sta (ctx 103 H [zG1] w) [(6,.val (nv 0))] [(3,some ((nv 0),.list u8R 5 s11)),zG1] aa ww) ?_ (fun s11=>?_)
  ·refine gSR<|Zm Z<|Zq (z5m Z (.own 1 Z) Z tu88)<|Zm Z<|Zn<|z27 (fun (s12:(List UInt8) × (List (V3 × Int)) × Int) aa ww=>∃ nv:Nat→Value,Sta (ctx 103 H [zG1] w) [(6,.val (nv 0)),(7,.val v10),(33,.val (n2 0)),(34,.rd z0j (r1.1.length:Int)),(35,.rd z0j s12.2.2)] [(3,some ((nv 0),.list u8R 5 s12.1)),(5,some (v10,.map aZ z0j s12.2.1)),(1,some ((n2 0),.list z05 94 r1.1)),zG1] aa ww) (fun aa ww h=>⟨nvl [v9],Zu h [3,5,1,1001]⟩) (fun s12=>?_)
   refine gEx fun n13=>gSR<|Zq (I.lss Z Z)<|Zn<|z0w<|gIf Z Z (fun h14=>?_) (fun h14=>?_)
   ·refine Zt<|z0w<|z67<|gSR<|Zm Z<|z0o fun x15 h16=>Zq (ixO 1 Z Z Z h16 tu88 ze4)<|Zq (ld 1 Z Z (Foc.el h16) zum Z)<|Eb Z (z9u 1100 ze4 (.zr (R:=z05) (x:=(⟨(⟨0,[],0,(⟨0,[],(⟨0,0,0,[]⟩:z00)⟩:z0a),(⟨0,0⟩:z07)⟩:z01),(Vector.replicate 32 0)⟩:z02)) ztt)) fun v17=>Za Z<|Es (sto 1100 Z Z fH Z ze4)<|Zn<|gSR<|Zq (faB 1100 Z Z Tryz.underlying94 Z (by exact za6))<|Zq (ld 1100 Z Z (fP (z41 _)) zdg Z)<|Eb Z (z9u 1101 za6 (ZrE.rd (R:=z0m) (x:=0) (Zr.num Z) (ZrE.nilS (ZrE.rd (R:=z2c) (x:=0) (Zr.num Z) (ZrE.rd (R:=z0l) (x:=(⟨0,[],(⟨0,0,0,[]⟩:z00)⟩:z0a)) zmz (ZrE.rd (R:=z0v) (x:=(⟨0,0⟩:z07)) zn3 ZrE.nil Z) Z) Z)) Z)) fun v18=>zpy aZ [.rd z0m 0,.rd (z03 aZ) [],.rd z2c 0,.rd z0l (⟨0,[],(⟨0,0,0,[]⟩:z00)⟩:z0a),.rd z0v (⟨0,0⟩:z07)] 1101 [.rd z0m 0] [.rd z2c 0,.rd z0l (⟨0,[],(⟨0,0,0,[]⟩:z00)⟩:z0a),.rd z0v (⟨0,0⟩:z07)] Z Z Z<|zmc (R:=z04) (⟨0,[],0,(⟨0,[],(⟨0,0,0,[]⟩:z00)⟩:z0a),(⟨0,0⟩:z07)⟩:z01) 1101 Z (Sp.via (Sp.prod (Sp.prod (Sp.prod (Sp.prod (Sp.prod Sp.unit))))))<|Es (sto 1101 Z Z fH Z za6)<|Zn<|gSR<|Zq (faB 1101 Z Z Tryz.underlying43 Z (by exact zdp))<|zy0 (R:=z04) 1101 Z (Sp.via (Sp.prod (Sp.prod (Sp.prod (Sp.prod (Sp.prod Sp.unit))))))<|Es (zuw 1101 Z Z (z8m.cast (z8m.next z17 (z8m.here z17)) Z) Z z9i z4l zdp)<|Zn<|gSR<|zpy aZ [.rd z0m x15.o.Author,.rd (z03 aZ) [],.rd z2c x15.o.Stamp,.rd z0l x15.o.Act,.rd z0v x15.o.Sig] 1101 [.rd z0m x15.o.Author] [.rd z2c x15.o.Stamp,.rd z0l x15.o.Act,.rd z0v x15.o.Sig] Z Z Z<|zmc (R:=z04) (⟨x15.o.Author,[],x15.o.Stamp,x15.o.Act,x15.o.Sig⟩:z01) 1101 Z (Sp.via (Sp.prod (Sp.prod (Sp.prod (Sp.prod (Sp.prod Sp.unit))))))<|Zq (ld 1101 Z Z fH zdg Z)<|Zc [] [(100,1102)] Tryz.func58 Z (zdw _) fun r19 n20=>Zm Z<|Zq (ext Z Z)<|Zq (ext Z Z)<|Za Z<|Zb Z<|z0w<|gSR<|Zm Z<|Zq (I.neq Z Z)<|Zj Z (fun h21=>?_) (fun h21=>?_)
    ·refine gSR<|Zm Z<|Za Z<|Zb Z<|z0s<|z14<|z3l<|z14<|z6f<|z5z<|zhx u8R 5 1103<|Ze [(.slice none 0 0)] [1001,1103] Z
    ·refine Zt<|gSR<|Zm Z<|zed 1102 [46,11,52] Z (fS Z<|fS Z<|fS Z<|fN)<|Zc [] [(100,1104)] Tryz.func59 Z (zac _) fun r22 n23=>Zm Z<|Zq (ext Z Z)<|Zq (ext Z Z)<|Za Z<|Zb Z<|z0w<|gSR<|Zm Z<|Zq (I.neq Z Z)<|Zj Z (fun h24=>?_) (fun h24=>?_)
     ·refine gSR<|Zm Z<|Za Z<|Zb Z<|z0s<|z14<|z3l<|z14<|z6f<|z5z<|zhx u8R 5 1105<|Ze [(.slice none 0 0)] [1001,1105] Z
     ·refine Zt<|z0w<|z9c [3,1130] mixed Z Z<|hTk 0 Z Z (mv Z)<|hTk 1 Z Z (mv Z)<|hTk 3 Z Z (faB 1100 Z Z Tryz.underlying94 Z (by exact za6))<|hTk 4 Z Z (faB 1100 Z Z Tryz.underlying43 Z (by exact zdp))<|hTk 5 Z Z (ld 1100 Z Z ((fP (z41 _)).part (z0q _)) zee Z)<|hTk 6 Z Z (z5m Z .rd Z tu29)<|hTk 7 Z Z (I.toU Z tu3 tu35)<|z5i fun x25 h26=>Zo 2 Z Z Z (apn 3 Z Z Z (.own 1104 Z) h26 tu52 ti5 Z Z Z) fun v27=>z5e 8 [] [(100,1130)] Z (by kernel_rfl) Z (gd0 Z) Z Tryz.func57 Z Z (z2h _) (Y1 Z) rN Z (fun _ _=>z2z) fun r28 n29=>z5i fun x30 h31=>Zo 9 Z Z Z (apn 3 Z Z Z (.own 1130 Z) h31 tu52 ti5 Z Z Z) fun v32=>Zf 10 Z Z z2z (asg Z)<|z6z (by kernel_rfl)<|z0t<|z8e (fun (s33:(List UInt8)) aa ww=>∃ nv:Nat→Value,Sta (ctx 103 H [zG1] w) [(6,.val (nv 0)),(7,.val v10),(8,.rd z0j s12.2.2),(9,.val (z0f v17 0)),(33,.val (n2 0)),(34,.rd z0j (r1.1.length:Int)),(35,.rd z0j s12.2.2)] [(3,some ((nv 0),.list u8R 5 s33)),(5,some (v10,.map aZ z0j s12.2.1)),(1100,some (v17,.box 94 [.rd z05 x15])),(1,some ((n2 0),.list z05 94 r1.1)),zG1] aa ww) ?_ (fun s33=>?_)
      ·refine gSR<|Zq (faB 1100 Z Z Tryz.underlying94 Z (by exact za6))<|Zq (faB 1100 Z Z Tryz.underlying43 Z (by exact zdp))<|Zq (ld 1100 Z Z ((fP (z41 _)).part (z0q _)) zee Z)<|Zq (z5m Z .rd Z tu29)<|Zm Z<|Zn<|z27 (fun (s34:(List UInt8) × Int) aa ww=>∃ nv:Nat→Value,Sta (ctx 103 H [zG1] w) [(6,.val (nv 0)),(7,.val v10),(8,.rd z0j s12.2.2),(9,.val (z0f v17 0)),(33,.val (n2 0)),(34,.rd z0j (r1.1.length:Int)),(35,.rd z0j s12.2.2),(71,.rd (z03 aZ) x15.o.Preds),(72,.rd z0j (x15.o.Preds.length:Int)),(73,.rd z0j s34.2)] [(3,some ((nv 0),.list u8R 5 s34.1)),(5,some (v10,.map aZ z0j s12.2.1)),(1100,some (v17,.box 94 [.rd z05 x15])),(1,some ((n2 0),.list z05 94 r1.1)),zG1] aa ww) (fun aa ww h=>⟨nvl [v32],Zu h [3,5,1100,1,1001]⟩) (fun s34=>?_)
       refine gEx fun n35=>gSR<|Zq (I.lss Z Z)<|Zn<|z0w<|gIf Z Z (fun h36=>?_) (fun h36=>?_)
       ·refine Zt<|z0w<|z67<|gSR<|z0o fun x37 h38=>Zq (ixR Z Z h38 tu29 z5n Z)<|Zq (ldR Z z8v)<|Eb Z (z9u 1142 z5n (.zr (R:=aZ) (x:=(Vector.replicate 32 0)) zim)) fun v39=>Es (sto 1142 Z Z fH Z z5n)<|Zn<|gSR<|Zm Z<|Zq (ld 1142 Z Z fH z8v Z)<|Zq (zzf Z (.own 5 Z Z) Z zs0 Tryz.underlying103 ti3 (Zr.num Z) Z)<|Zm Z<|Zq (ext Z Z)<|Zq (ext Z Z)<|Za Z<|z1u 16 Z fun y40=>Za Z<|z1u 17 Z fun y41=>Zn<|gSR<|Zm Z<|Zj Z (fun h42=>?_) (fun h42=>?_)
        ·refine gKn 17 Z h42<|z2d<|Zm Z<|Zm Z<|Zm Z<|Zq (I.sub Z Z)<|Zq (I.toU Z tu3 tu35)<|Zc [] [(100,1143)] Tryz.func57 Z (z2h _) fun r43 n44=>z0o fun x45 h46=>Ef Z (apn 3 Z Z Z (.own 1143 Z) h46 tu52 ti5 Z Z Z) fun v47=>Za Z<|z21<|z3o<|z0t<|z2d<|Zq (I.add Z Z)<|Zm Z<|z21<|z1x (fun aa ww h=>⟨nvl [v47],Zu h [3,5,1100,1,1001]⟩)
        ·refine gKn 17 Z h42<|zuj 1142 15 Z Z<|z9c [3,1147] mixed Z Z<|hTk 0 Z Z (mv Z)<|hTk 3 Z Z (zur Z tu45 ti5 Z Z Z)<|Zo 1 Z Z Z (lit (R:=u8R) ([0]:List UInt8) 1147 (pP Z Z<|pN) Z tu52 ti5 Z Z) fun v48=>z5i fun x49 h50=>Zo 2 Z Z Z (apn 3 Z Z Z (.own 1147 Z) h50 tu52 ti5 Z Z Z) fun v51=>z5i fun x52 h53=>Zo 4 Z Z Z (apn 3 Z Z Z .rd h53 tu52 ti5 Z Z Z) fun v54=>Zf 5 Z Z z2z (asg Z)<|z6z (by kernel_rfl)<|z3o<|z0t<|z2d<|Zq (I.add Z Z)<|Zm Z<|z21<|z1x (fun aa ww h=>⟨nvl [v54],Zu h [3,5,1100,1,1001]⟩)
       ·refine z28<|z16<|z15<|z4g (fun aa ww h=>⟨nvl [(n35 0)],Zu h [3,5,1100,1,1001]⟩)
      ·refine gEx fun n55=>z2d<|Zm Z<|Zq (faB 1100 Z Z Tryz.underlying94 Z (by exact z5n))<|Zq (ld 1100 Z Z (fP (z4d _)) z8v Z)<|Zm Z<|Es (mup 5 Z Z Z Z zs0 Tryz.underlying103)<|z21<|z3o<|z0t<|z2d<|Zq (I.add Z Z)<|Zm Z<|z21<|z1x (fun aa ww h=>⟨nvl [(n55 0)],Zu h [3,5,1,1001]⟩)
   ·refine z28<|z16<|z15<|z7p (fun aa ww h=>⟨nvl [(n13 0)],Zu h [3,1001]⟩)
  ·refine gEx fun n56=>gSR<|Zm Z<|Za Z<|Zb Z<|z0s<|Ze [(n56 0)] [1001,3] Z
def z5k (a0:List UInt8) (a1:List UInt8) (s3:Int):Option (Sum (Sum Bool Unit) Int) :=
 if decide (s3<(a0.length:Int)) then
  idx a0 s3 >>= fun x5 =>
  idx a1 s3 >>= fun x7 =>
  if x5 != x7 then
   some (.inl (.inl false))
  else
   some (.inr (w64 (s3+1)))
 else
  some (.inl (.inr ()))
def z52 (a0:List UInt8) (a1:List UInt8):Option (Bool) :=
 if (a0.length:Int) != (a1.length:Int) then
  some false
 else
  z6b (iter (z5k a0 a1) 0) fun s2 =>
  some true
theorem zaq (a0:List UInt8) (a1:List UInt8):z2b Tryz.prog 26 [.rd (z03 u8R) a0,.rd (z03 u8R) a1] [] (z52 a0 a1) (fun r nv=>⟨[.rd z08 r],[]⟩):=by
 refine z37 26 Tryz.func26 Z Z Z fun H w=>?_
 refine gSR<|Zb Z<|z0w<|gSR<|Zm Z<|Zq (z5m Z .rd Z tu52)<|Zm Z<|Zq (z5m Z .rd Z tu52)<|Zq (I.neq Z Z)<|Zj Z (fun h1=>?_) (fun h1=>?_)
 ·refine gSR<|Zb Z<|z0s<|z14<|Ze [] [] Z
 ·refine Zt<|z84 (fun (s2:Unit) aa ww=>Sta (ctx 26 H [] w) [] [] aa ww) ?_ (fun s2=>?_)
  ·refine gSR<|Zb Z<|z27 (fun (s3:Int) aa ww=>Sta (ctx 26 H [] w) [(0,.rd (z03 u8R) a0),(1,.rd (z03 u8R) a1),(5,.rd z0j s3)] [] aa ww) (fun aa ww h=>Zu h []) (fun s3=>?_)
   refine z0w<|gSR<|Zm Z<|Zm Z<|Zq (z5m Z .rd Z tu52)<|Zq (I.lss Z Z)<|Zj Z (fun h4=>?_) (fun h4=>?_)
   ·refine Zt<|z0w<|z67<|z0w<|zfd mixed (by kernel_rfl)<|Rq Z (mv Z)<|Rq Z (mv Z)<|z6w fun x5 h6=>Rq Z (ixR Z Z h6 tu52 ti5 Z)<|Rq Z (ldR Z ty5)<|Rq Z (mv Z)<|Rq Z (mv Z)<|z6w fun x7 h8=>Rq Z (ixR Z Z h8 tu52 ti5 Z)<|Rq Z (ldR Z ty5)<|Rq Z (B.neq Z Z)<|zpo<|z0t<|gIf Z Z (fun h9=>?_) (fun h9=>?_)
    ·refine gSR<|Zb Z<|z0s<|z3l<|z14<|z6f<|z5z<|Ze [] [] Z
    ·refine z31<|z3o<|z0t<|z2d<|Zm Z<|Zq (I.add Z Z)<|Za Z<|z21<|z1x (fun aa ww h=>Zu h [])
   ·refine z28<|z16<|z15<|z7p (fun aa ww h=>Zu h [])
  ·refine gSR<|Zb Z<|z0s<|Ze [] [] Z
def z3f (a0:List z01) (a1:List UInt8):Option (Bool) :=
 z6k a0 >>= fun r1 =>
 if r1.2==0 then
  z52 r1.1 a1 >>= fun r4 =>
  some r4
 else
  some false
theorem z5h (a0:List z01) (a1:List UInt8):z2b Tryz.prog 42 [.rd (z03 z04) a0,.rd (z03 u8R) a1] [zG1] (z3f a0 a1) (fun r nv=>⟨[.rd z08 r],[(1001,some (.bool true,.glob 1 (z2g 64 z0m) z72))]⟩):=by
 refine z37 19 Tryz.func42 Z Z Z fun H w=>?_
 refine gSR<|Zb Z<|gSR<|Zm Z<|Zc [1001] [(100,1)] Tryz.func21 Z (zh6 _) fun r1 n2=>Zm Z<|Zq (ext Z Z)<|Zq (ext Z Z)<|Za Z<|Zb Z<|gSR<|Zm Z<|Zq (I.eql Z Z)<|Zm Z<|z1z 14 Z (fun h3=>?_) (fun h3=>?_)
 ·refine lKn 13 Z h3<|z1q Zx Z Z (mv Z)<|z1q Zx Z Z (mv Z)<|zed 1 [10,5,15] Z (fS Z<|fS Z<|fS Z<|fN)<|zb0 [] [] Zx Z Tryz.func26 Z Z (zaq _ _) (Y2 Z Z) rN fun r4 n5=>Zq (pkT Z Z)<|Zb Z<|z0s<|Ze [] [1001] Z
 ·refine lKn 13 Z h3<|Zk Z<|Zk Z<|Zk Z<|Zq (pkF Z Z)<|Zb Z<|z0s<|Ze [] [1001] Z
def z7e  : Option (Bool) :=
 z7d >>= fun r1 =>
 if !r1.2.2 then
  some false
 else
  app 1 [112,1] [9,111,4,0,7,2,1,97,5,6] >>= fun x8 =>
  app 1 x8 [0] >>= fun x12 =>
  app 1 [112,2] [9,111,4,0,7,2,1,97,5,6] >>= fun x16 =>
  app 1 x16 [0] >>= fun x20 =>
  app 1 ([]:List UInt8) [9,111,4,0,7,2,1,97,5,6] >>= fun x24 =>
  app 1 x24 [1,1] >>= fun x28 =>
  app 1 x20 x28 >>= fun x31 =>
  app 1 [112,1] [9,111,4,0,7,2,1,97,5,6] >>= fun x34 =>
  app 1 x34 [1,0] >>= fun x36 =>
  idx r1.2.1.Preds 0 >>= fun x38 =>
  app 1 x36 x38.toList >>= fun x40 =>
  z3f [] [112,0] >>= fun r44 =>
  if r44 then
   z3f [r1.1] x12 >>= fun r48 =>
   if r48 then
    z3f [r1.2.1,r1.1] x31 >>= fun r52 =>
    if r52 then
     z3f [r1.2.1] x40 >>= fun r56 =>
     some r56
    else
     some false
   else
    some false
  else
   some false
set_option maxHeartbeats 4000000 in
theorem zbx  : z2b Tryz.prog 9 [] [zG1] (z7e) (fun r nv=>⟨[.rd z08 r],[(1001,some (.bool true,.glob 1 (z2g 64 z0m) z72))]⟩):=by
 refine z37 63 Tryz.func9 Z Z Z fun H w=>?_
 refine gSR<|Zb Z<|gSR<|Zc [1001] [] Tryz.func33 Z (zc3) fun r1 n2=>Zm Z<|Zq (ext Z Z)<|Zq (ext Z Z)<|Zq (ext Z Z)<|Eb Z (z9u 1 za6 (ZrE.rd (R:=z0m) (x:=0) (Zr.num Z) (ZrE.nilS (ZrE.rd (R:=z2c) (x:=0) (Zr.num Z) (ZrE.rd (R:=z0l) (x:=(⟨0,[],(⟨0,0,0,[]⟩:z00)⟩:z0a)) zmz (ZrE.rd (R:=z0v) (x:=(⟨0,0⟩:z07)) zn3 ZrE.nil Z) Z) Z)) Z)) fun v3=>Eb Z (z9u 2 za6 (ZrE.rd (R:=z0m) (x:=0) (Zr.num Z) (ZrE.nilS (ZrE.rd (R:=z2c) (x:=0) (Zr.num Z) (ZrE.rd (R:=z0l) (x:=(⟨0,[],(⟨0,0,0,[]⟩:z00)⟩:z0a)) zmz (ZrE.rd (R:=z0v) (x:=(⟨0,0⟩:z07)) zn3 ZrE.nil Z) Z) Z)) Z)) fun v4=>zpy aZ [.rd z0m 0,.rd (z03 aZ) [],.rd z2c 0,.rd z0l (⟨0,[],(⟨0,0,0,[]⟩:z00)⟩:z0a),.rd z0v (⟨0,0⟩:z07)] 1 [.rd z0m 0] [.rd z2c 0,.rd z0l (⟨0,[],(⟨0,0,0,[]⟩:z00)⟩:z0a),.rd z0v (⟨0,0⟩:z07)] Z Z Z<|zmc (R:=z04) (⟨0,[],0,(⟨0,[],(⟨0,0,0,[]⟩:z00)⟩:z0a),(⟨0,0⟩:z07)⟩:z01) 1 Z (Sp.via (Sp.prod (Sp.prod (Sp.prod (Sp.prod (Sp.prod Sp.unit))))))<|Es (sto 1 Z Z fH Z za6)<|zpy aZ [.rd z0m 0,.rd (z03 aZ) [],.rd z2c 0,.rd z0l (⟨0,[],(⟨0,0,0,[]⟩:z00)⟩:z0a),.rd z0v (⟨0,0⟩:z07)] 2 [.rd z0m 0] [.rd z2c 0,.rd z0l (⟨0,[],(⟨0,0,0,[]⟩:z00)⟩:z0a),.rd z0v (⟨0,0⟩:z07)] Z Z Z<|zmc (R:=z04) (⟨0,[],0,(⟨0,[],(⟨0,0,0,[]⟩:z00)⟩:z0a),(⟨0,0⟩:z07)⟩:z01) 2 Z (Sp.via (Sp.prod (Sp.prod (Sp.prod (Sp.prod (Sp.prod Sp.unit))))))<|Es (sto 2 Z Z fH Z za6)<|Zb Z<|z0w<|gSR<|Zm Z<|Zq (zhv Z)<|Zj Z (fun h5=>?_) (fun h5=>?_)
 ·refine gSR<|Zb Z<|z0s<|z14<|Ze [] [1001] Z
 ·refine Zt<|gSR<|Ef Z (lit (R:=u8R) ([9,111,4,0,7,2,1,97,5,6]:List UInt8) 3 (pP Z Z<|pP Z Z<|pP Z Z<|pP Z Z<|pP Z Z<|pP Z Z<|pP Z Z<|pP Z Z<|pP Z Z<|pP Z Z<|pN) Z tu52 ti5 Z Z) fun v6=>Zb Z<|gSR<|Ef Z (lit (R:=u8R) ([112,1]:List UInt8) 4 (pP Z Z<|pP Z Z<|pN) Z tu52 ti5 Z Z) fun v7=>Zm Z<|z0o fun x8 h9=>Ef Z (apn 4 Z Z Z (.own 3 Z) h9 tu52 ti5 Z Z Z) fun v10=>Ef Z (lit (R:=u8R) ([0]:List UInt8) 5 (pP Z Z<|pN) Z tu52 ti5 Z Z) fun v11=>z0o fun x12 h13=>Ef Z (apn 4 Z Z Z (.own 5 Z) h13 tu52 ti5 Z Z Z) fun v14=>Zb Z<|gSR<|Ef Z (lit (R:=u8R) ([112,2]:List UInt8) 6 (pP Z Z<|pP Z Z<|pN) Z tu52 ti5 Z Z) fun v15=>Zm Z<|z0o fun x16 h17=>Ef Z (apn 6 Z Z Z (.own 3 Z) h17 tu52 ti5 Z Z Z) fun v18=>Ef Z (lit (R:=u8R) ([0]:List UInt8) 7 (pP Z Z<|pN) Z tu52 ti5 Z Z) fun v19=>z0o fun x20 h21=>Ef Z (apn 6 Z Z Z (.own 7 Z) h21 tu52 ti5 Z Z Z) fun v22=>Ef Z (lit (R:=u8R) (([]:List UInt8):List UInt8) 8 (pN) Z tu52 ti5 Z Z) fun v23=>Zm Z<|z0o fun x24 h25=>Ef Z (apn 8 Z Z Z (.own 3 Z) h25 tu52 ti5 Z Z Z) fun v26=>Ef Z (lit (R:=u8R) ([1,1]:List UInt8) 9 (pP Z Z<|pP Z Z<|pN) Z tu52 ti5 Z Z) fun v27=>z0o fun x28 h29=>Ef Z (apn 8 Z Z Z (.own 9 Z) h29 tu52 ti5 Z Z Z) fun v30=>z0o fun x31 h32=>Ef Z (apn 6 Z Z Z (.own 8 Z) h32 tu52 ti5 Z Z Z) fun v33=>Zb Z<|z0w<|zwy [(1,.val (z0f v3 0)),(2,.val (z0f v4 0)),(4,.val v6),(5,.val v14),(6,.val v33)] [zG1,(1,some (v3,.box 43 [.rd z04 r1.1])),(2,some (v4,.box 43 [.rd z04 r1.2.1])),(3,some (v6,.list u8R 5 [9,111,4,0,7,2,1,97,5,6])),(4,some (v14,.list u8R 5 x12)),(5,some (v11,.list u8R 5 [0])),(6,some (v33,.list u8R 5 x31)),(7,some (v19,.list u8R 5 [0])),(8,some (v30,.list u8R 5 x28)),(9,some (v27,.list u8R 5 [1,1]))] [1001,1,2,3,4,5,6,7,8,9] (Zs Z Z Z Z<|sS Z<|sN) (Zi Z<|Zi Z<|Zi Z<|Zi Z<|Zi Z<|Zi Z<|Zi Z<|Zi Z<|Zi Z<|Zi Z<|rN)<|zb7 fun x34 h35=>zb7 fun x36 h37=>zb7 fun x38 h39=>zb7 fun x40 h41=>gOr [] [⟨10,none,[(0,some ([1], fun nv=>((nv 1),.list u8R 5 [112,1]))),(2,some ([2], fun nv=>((nv 2),.list u8R 5 x34))),(4,some ([4], fun nv=>((nv 4),.list u8R 5 x36))),(9,some ([5], fun nv=>((nv 5),.list u8R 5 x40)))]⟩,⟨3,some ([], fun nv=>(v6,.list u8R 5 [9,111,4,0,7,2,1,97,5,6])),[]⟩,⟨11,none,[(3,some ([3], fun nv=>((nv 3),.list u8R 5 [1,0])))]⟩,⟨2,some ([], fun nv=>(v4,.box 43 [.rd z04 r1.2.1])),[]⟩] [⟨some (32,[1], fun nv=>.val (nv 1)),[(0,0,true)],[1],[]⟩,pd 33 (.val v6),⟨some (34,[2], fun nv=>.val (nv 2)),[(0,1,true),(1,0,false)],[2],[]⟩,⟨some (35,[3], fun nv=>.val (nv 3)),[(2,0,true)],[3],[]⟩,⟨some (36,[4], fun nv=>.val (nv 4)),[(0,2,true),(2,1,false)],[4],[]⟩,pk 37 (.val (z0f v4 (0+1))) [(3,0,false)],pk 38 (.rd (z03 aZ) r1.2.1.Preds) [(3,0,false)],pd 39 (.rp aZ x38),pd 40 (.rd (z03 u8R) x38.toList),⟨some (41,[5], fun nv=>.val (nv 5)),[(0,3,true)],[5],[]⟩,⟨some (7,[5], fun nv=>.val (nv 5)),[],[],[]⟩] mixed (oC (oEf 10 1 (fun nv E=>lit (R:=u8R) ([112,1]:List UInt8) 10 (pP Z Z<|pP Z Z<|pN) Z tu52 ti5 Z Z))<|oC (oRn (fun nv E=>mv Z))<|oC (oEf 10 2 (fun nv E=>apn 10 Z Z Z (.own 3 Z) h35 tu52 ti5 Z Z Z))<|oC (oEf 11 3 (fun nv E=>lit (R:=u8R) ([1,0]:List UInt8) 11 (pP Z Z<|pP Z Z<|pN) Z tu52 ti5 Z Z))<|oC (oEf 10 4 (fun nv E=>apn 10 Z Z Z (.own 11 Z) h37 tu52 ti5 Z Z Z))<|oC (oRn (fun nv E=>faB 2 Z Z Tryz.underlying43 Z (by exact zdp)))<|oC (oRn (fun nv E=>ld 2 Z Z (fP (z0q _)) zee Z))<|oC (oRn (fun nv E=>ixR Z Z h39 tu29 z5n Z))<|oC (oRn (fun nv E=>zur Z tu45 ti5 Z Z Z))<|oC (oEf 10 5 (fun nv E=>apn 10 Z Z Z .rd h41 tu52 ti5 Z Z Z))<|oC (oRn (fun nv E=>asg Z))<|oN) fun n42=>z0t<|gSR<|Ef Z (lit (R:=u8R) ([112,0]:List UInt8) 12 (pP Z Z<|pP Z Z<|pN) Z tu52 ti5 Z Z) fun v43=>zed 12 [42] Z (fS Z<|fN)<|call [1001] [] Z Tryz.func42 Z Z (z5h _ _) (aNil Z<|aQ Z<|aN) (y1 Z) fun r44 n45=>Zm Z<|z1z 44 Z (fun h46=>?_) (fun h46=>?_)
  ·refine lKn 43 Z h46<|z1q Zx Z Z (ld 1 Z Z fH zdg Z)<|Efg Zx Z Z (lit (R:=z04) ([r1.1]:List z01) 13 (pP Z Z<|pN) Z tu22 za6 Z Z) fun v47=>z1q Zx Z Z (mv Z)<|zed 13 [46] Z (fS Z<|fN)<|zed 4 [5,47] Z (fS Z<|fS Z<|fN)<|zb0 [1001] [] Zx Z Tryz.func42 Z Z (z5h _ _) (Y2 Z Z) (y1 Z) fun r48 n49=>Zq (pkT Z Z)<|Zm Z<|z1z 50 Z (fun h50=>?_) (fun h50=>?_)
   ·refine lKn 48 Z h50<|lKn 49 Z h50<|z1q Zx Z Z (ld 2 Z Z fH zdg Z)<|z1q Zx Z Z (ld 1 Z Z fH zdg Z)<|Efg Zx Z Z (lit (R:=z04) ([r1.2.1,r1.1]:List z01) 14 (pP Z Z<|pP Z Z<|pN) Z tu22 za6 Z Z) fun v51=>z1q Zx Z Z (mv Z)<|zed 14 [53] Z (fS Z<|fN)<|zed 6 [6,54] Z (fS Z<|fS Z<|fN)<|zb0 [1001] [] Zx Z Tryz.func42 Z Z (z5h _ _) (Y2 Z Z) (y1 Z) fun r52 n53=>Zq (pkT Z Z)<|Zm Z<|z1z 57 Z (fun h54=>?_) (fun h54=>?_)
    ·refine lKn 55 Z h54<|lKn 56 Z h54<|z1q Zx Z Z (ld 2 Z Z fH zdg Z)<|Efg Zx Z Z (lit (R:=z04) ([r1.2.1]:List z01) 15 (pP Z Z<|pN) Z tu22 za6 Z Z) fun v55=>z1q Zx Z Z (mv Z)<|zed 15 [59] Z (fS Z<|fN)<|zed 10 [41,7,60] Z (fS Z<|fS Z<|fS Z<|fN)<|zb0 [1001] [] Zx Z Tryz.func42 Z Z (z5h _ _) (Y2 Z Z) (y1 Z) fun r56 n57=>Zq (pkT Z Z)<|Zb Z<|z0s<|Ze [] [1001] Z
    ·refine lKn 55 Z h54<|lKn 56 Z h54<|Zk Z<|Zk Z<|Zk Z<|Zk Z<|Zq (pkF Z Z)<|Zb Z<|z0s<|Ze [] [1001] Z
   ·refine lKn 48 Z h50<|lKn 49 Z h50<|Zk Z<|Zk Z<|Zk Z<|Zk Z<|Zk Z<|Zq (pkF Z Z)<|Zm Z<|Zk Z<|Zk Z<|Zk Z<|Zk Z<|Zq (pkF Z Z)<|Zb Z<|z0s<|Ze [] [1001] Z
  ·refine lKn 43 Z h46<|Zk Z<|Zk Z<|Zk Z<|Zk Z<|Zq (pkF Z Z)<|Zm Z<|Zk Z<|Zk Z<|Zk Z<|Zk Z<|Zk Z<|Zq (pkF Z Z)<|Zm Z<|Zk Z<|Zk Z<|Zk Z<|Zk Z<|Zq (pkF Z Z)<|Zb Z<|z0s<|Ze [] [1001] Z
def z6n (a0:List z01) (s2:(List V3) × Int):Option (Sum ((List V3)) ((List V3) × Int)) :=
 if decide (s2.2<(a0.length:Int)) then
  idx a0 s2.2 >>= fun x5 =>
  z6o x5 >>= fun r7 =>
  app 32 s2.1 [r7] >>= fun x10 =>
  some (w64 (s2.2+1)) >>= fun y13 =>
  some (.inr (x10,y13))
 else
  some (.inl s2.1)
def z5y (a0:List z01):Option ((List V3)) :=
 (iter (z6n a0) ([],0)) >>= fun s1 =>
 some s1
theorem z9v (a0:List z01):z2b Tryz.prog 43 [.rd (z03 z04) a0] [] (z5y a0) (fun r nv=>⟨[.val (nv 0)],[(100,some (nv 0,.list aZ 45 r))]⟩):=by
 refine z37 20 Tryz.func43 Z Z Z fun H w=>?_
 refine gSR<|Zb Z<|gSR<|Zb Z<|z8e (fun (s1:(List V3)) aa ww=>∃ nv:Nat→Value,Sta (ctx 20 H [] w) [(3,.val (nv 0))] [(2,some ((nv 0),.list aZ 45 s1))] aa ww) ?_ (fun s1=>?_)
 ·refine gSR<|Zb Z<|zql aZ 45 5<|z27 (fun (s2:(List V3) × Int) aa ww=>∃ nv:Nat→Value,Sta (ctx 20 H [] w) [(0,.rd (z03 z04) a0),(3,.val (nv 0)),(4,.rd z0j s2.2)] [(4,some ((nv 0),.list aZ 45 s2.1))] aa ww) (fun aa ww h=>⟨nvl [(.slice none 0 0)],Zu h [5]⟩) (fun s2=>?_)
  refine gEx fun n3=>z0w<|gSR<|Zm Z<|Zm Z<|Zq (z5m Z .rd Z tu22)<|Zq (I.lss Z Z)<|Zj Z (fun h4=>?_) (fun h4=>?_)
  ·refine Zt<|z0w<|z67<|z2d<|Zm Z<|Zm Z<|Zm Z<|z0o fun x5 h6=>Zq (ixR Z Z h6 tu22 za6 Z)<|Zq (ldR Z zdg)<|Zc [] [] Tryz.func16 Z (z8n _) fun r7 n8=>Ef Z (lit (R:=aZ) ([r7]:List V3) 6 (pP Z Z<|pN) Z tu29 z5n Z Z) fun v9=>zed 6 [17] Z (fS Z<|fN)<|z0o fun x10 h11=>Ef Z (apn 4 Z Z Z .rd h11 tu29 z5n Z Z Z) fun v12=>Za Z<|z21<|z3o<|z0t<|z2d<|Zm Z<|Zq (I.add Z Z)<|Za Z<|z1u 4 Z fun y13=>z21<|z1x (fun aa ww h=>⟨nvl [v12],Zu h [4]⟩)
  ·refine z28<|z16<|z15<|z4g (fun aa ww h=>⟨nvl [(n3 0)],Zu h [4]⟩)
 ·refine gEx fun n14=>gSR<|Zm Z<|Zb Z<|z0s<|Ze [(n14 0)] [2] Z
def z63 (a0:z01) (a1:List V3) (a2:List Bool) (s3:Int):Option (Sum (Sum Bool Unit) Int) :=
 if decide (s3<(a1.length:Int)) then
  idx a2 s3 >>= fun x5 =>
  if x5 then
   idx a1 s3 >>= fun x8 =>
   z3r a0.Preds x8 >>= fun r10 =>
   if decide (0≤r10) then
    some (.inl (.inl false))
   else
    some (.inr (w64 (s3+1)))
  else
   some (.inr (w64 (s3+1)))
 else
  some (.inl (.inr ()))
def z82 (a0:z01) (a1:List V3) (a2:List Bool):Option (Bool) :=
 z6b (iter (z63 a0 a1 a2) 0) fun s2 =>
 some true
theorem zab (a0:z01) (a1:List V3) (q1:Value) (l1:List V3) (a2:List Bool) (q2:Value) (l2:List Bool):z2b Tryz.prog 86 [.rd z04 a0,.vw aZ q1 l1 a1,.vw z08 q2 l2 a2] [(1,some (q1,.list aZ 45 l1)),(2,some (q2,.list z08 4 l2))] (z82 a0 a1 a2) (fun r nv=>⟨[.rd z08 r],[(1,some (q1,.list aZ 45 l1)),(2,some (q2,.list z08 4 l2))]⟩):=by
 refine z37 28 Tryz.func86 Z Z Z fun H w=>?_
 refine gSR<|Eb Z (bx 3 Z) fun v1=>Zb Z<|z84 (fun (s2:Unit) aa ww=>Sta (ctx 28 H [(1,some (q1,.list aZ 45 l1)),(2,some (q2,.list z08 4 l2))] w) [] [(1,some (q1,.list aZ 45 l1)),(2,some (q2,.list z08 4 l2))] aa ww) ?_ (fun s2=>?_)
 ·refine gSR<|Zb Z<|z27 (fun (s3:Int) aa ww=>Sta (ctx 28 H [(1,some (q1,.list aZ 45 l1)),(2,some (q2,.list z08 4 l2))] w) [(1,.vw aZ q1 l1 a1),(2,.vw z08 q2 l2 a2),(3,.val (z0f v1 0)),(7,.rd z0j s3)] [(1,some (q1,.list aZ 45 l1)),(2,some (q2,.list z08 4 l2)),(3,some (v1,.box 43 [.rd z04 a0]))] aa ww) (fun aa ww h=>Zu h [1,2,3]) (fun s3=>?_)
  refine z0w<|gSR<|Zm Z<|Zm Z<|Zq (z5m Z (.vw 1 Z) Z tu29)<|Zq (I.lss Z Z)<|Zj Z (fun h4=>?_) (fun h4=>?_)
  ·refine Zt<|z0w<|z67<|z0w<|z9c [] mixed Z Z<|hTk 0 Z Z (mv Z)<|hTk 1 Z Z (mv Z)<|z5i fun x5 h6=>hTk 2 Z Z (ixQ 2 Z Z Z h6 tu128 ti4)<|hTk 3 Z Z (ldQ 2 Z Z ty4 Z)<|hTk 4 Z Z (mv Z)<|hIf 18 Z Z (fun h7=>?_) (fun h7=>?_)
   ·refine hKn 17 Z Z h7<|Zg 5 Z Z (faB 3 Z Z Tryz.underlying43 Z (by exact zdp))<|Zg 6 Z Z (ld 3 Z Z (fP (z0q _)) zee Z)<|Zg 7 Z Z (mv Z)<|Zg 8 Z Z (mv Z)<|z5i fun x8 h9=>Zg 9 Z Z (ixQ 1 Z Z Z h9 tu29 z5n)<|Zg 10 Z Z (ldQ 1 Z Z z8v Z)<|z5e 11 [] [] Z (by kernel_rfl) Z Zx Z Tryz.func17 Z Z (z5s _ _) (Y2 Z Z) rN Z (fun _ _=>z43) fun r10 n11=>Zg 12 Z Z (I.geq Z Z)<|hTk 13 Z Z (pkT Z Z)<|z6z (by kernel_rfl)<|z0t<|gIf Z Z (fun h12=>?_) (fun h12=>?_)
    ·refine gKn 26 Z h12<|gSR<|Zb Z<|z0s<|z3l<|z14<|z6f<|z5z<|Ze [] [1,2] Z
    ·refine gKn 26 Z h12<|z31<|z3o<|z0t<|z2d<|Zm Z<|Zq (I.add Z Z)<|Za Z<|z21<|z1x (fun aa ww h=>Zu h [1,2,3])
   ·refine hKn 17 Z Z h7<|hSk 5 Z Z<|hSk 6 Z Z<|hSk 7 Z Z<|hSk 8 Z Z<|hSk 9 Z Z<|hSk 10 Z Z<|hSk 11 Z Z<|hSk 12 Z Z<|hTk 13 Z Z (pkF Z Z)<|z6z (by kernel_rfl)<|z0t<|zba Z<|z31<|z3o<|z0t<|z2d<|Zm Z<|Zq (I.add Z Z)<|Za Z<|z21<|z1x (fun aa ww h=>Zu h [1,2,3])
  ·refine z28<|z16<|z15<|z7p (fun aa ww h=>Zu h [1,2])
 ·refine gSR<|Zb Z<|z0s<|Ze [] [1,2] Z
def z3x (a0:List z01) (s7:(List Bool) × Int):Option (Sum ((List Bool)) ((List Bool) × Int)) :=
 if decide (s7.2<(a0.length:Int)) then
  idx s7.1 s7.2 >>= fun x9 =>
  some (w64 (s7.2+1)) >>= fun y11 =>
  some (.inr (s7.1.set (s7.2:Int).toNat true,y11))
 else
  some (.inl s7.1)
def z2t (a0:List z01) (r1:(List V3)) (s12:(List Bool) × (List Int)) (s15:Int × Int):Option (Sum Int (Int × Int)) :=
 if decide (s15.2<(a0.length:Int)) then
  (idx s12.1 s15.2 >>= fun x18 =>
  if x18 then
   idx a0 s15.2 >>= fun x21 =>
   z82 x21 r1 s12.1 >>= fun r23 =>
   if r23 then
    if decide (s15.1<0) then
     some true
    else
     idx r1 s15.2 >>= fun x27 =>
     idx r1 s15.1 >>= fun x29 =>
     z3s x27 x29 >>= fun r31 =>
     some (decide (r31<0))
   else
    some false
  else
   some false) >>= fun s17 =>
  if s17 then
   some (w64 (s15.2+1)) >>= fun y36 =>
   some (.inr (s15.2,y36))
  else
   some (w64 (s15.2+1)) >>= fun y37 =>
   some (.inr (s15.1,y37))
 else
  some (.inl s15.1)
def z2w (a0:List z01) (r1:(List V3)) (s12:(List Bool) × (List Int)):Option (Sum ((List Int)) ((List Bool) × (List Int))) :=
 (iter (z2t a0 r1 s12) ((-1),0)) >>= fun s14 =>
 if decide (s14<0) then
  some (.inl s12.2)
 else
  app 8 s12.2 [s14] >>= fun x40 =>
  idx s12.1 s14 >>= fun x43 =>
  some (.inr (s12.1.set (s14:Int).toNat false,x40))
def z79 (a0:List z01):Option ((List Int)) :=
 z5y a0 >>= fun r1 =>
 mkn 1 false (a0.length:Int) >>= fun x3 =>
 (iter (z3x a0) (x3,0)) >>= fun s6 =>
 iter (z2w a0 r1) (s6,[])
end
section
open Go Go.RowKit
set_option maxRecDepth 100000
theorem zc7 (a0:List z01):z2b Tryz.prog 44 [.rd (z03 z04) a0] [] (z79 a0) (fun r nv=>⟨[.val (nv 0)],[(100,some (nv 0,.list z0j 3 r))]⟩):=by
 refine z37 69 Tryz.func44 Z Z Z fun H w=>?_
 refine gSR<|Zb Z<|gSR<|Zm Z<|Zc [] [(100,1)] Tryz.func43 Z (z9v _) fun r1 n2=>Zb Z<|gSR<|Zm Z<|Zq (z5m Z .rd Z tu22)<|z0o fun x3 h4=>Ef Z (mks (R:=z08) 2 Z Z h4 tu128 ti4 Zr.bool Z) fun v5=>Zb Z<|z8e (fun (s6:(List Bool)) aa ww=>Sta (ctx 69 H [] w) [(0,.rd (z03 z04) a0),(3,.val (n2 0)),(4,.val v5)] [(1,some ((n2 0),.list aZ 45 r1)),(2,some (v5,.list z08 4 s6))] aa ww) ?_ (fun s6=>?_)
 ·refine gSR<|Zb Z<|z27 (fun (s7:(List Bool) × Int) aa ww=>Sta (ctx 69 H [] w) [(0,.rd (z03 z04) a0),(3,.val (n2 0)),(4,.val v5),(5,.rd z0j s7.2)] [(1,some ((n2 0),.list aZ 45 r1)),(2,some (v5,.list z08 4 s7.1))] aa ww) (fun aa ww h=>Zu h [1,2]) (fun s7=>?_)
  refine z0w<|gSR<|Zm Z<|Zm Z<|Zq (z5m Z .rd Z tu22)<|Zq (I.lss Z Z)<|Zj Z (fun h8=>?_) (fun h8=>?_)
  ·refine Zt<|z0w<|z67<|z2d<|Zm Z<|Zm Z<|z0o fun x9 h10=>Zq (ixO 2 Z Z Z h10 tu128 ti4)<|Es (sto 2 Z Z (Foc.el h10) Z ti4)<|z21<|z3o<|z0t<|z2d<|Zm Z<|Zq (I.add Z Z)<|Za Z<|z1u 5 Z fun y11=>z21<|z1x (fun aa ww h=>Zu h [1,2])
  ·refine z28<|z16<|z15<|z4g (fun aa ww h=>Zu h [1,2])
 ·refine gSR<|Zb Z<|zql z0j 3 96<|z27 (fun (s12:(List Bool) × (List Int)) aa ww=>∃ nv:Nat→Value,Sta (ctx 69 H [] w) [(0,.rd (z03 z04) a0),(3,.val (n2 0)),(4,.val v5),(6,.val (nv 0))] [(1,some ((n2 0),.list aZ 45 r1)),(2,some (v5,.list z08 4 s12.1)),(95,some ((nv 0),.list z0j 3 s12.2))] aa ww) (fun aa ww h=>⟨nvl [(.slice none 0 0)],Zu h [1,2,96]⟩) (fun s12=>?_)
  refine gEx fun n13=>z67<|gSR<|Zb Z<|z8e (fun (s14:Int) aa ww=>Sta (ctx 69 H [] w) [(0,.rd (z03 z04) a0),(3,.val (n2 0)),(4,.val v5),(6,.val (n13 0)),(7,.rd z0j s14)] [(1,some ((n2 0),.list aZ 45 r1)),(2,some (v5,.list z08 4 s12.1)),(95,some ((n13 0),.list z0j 3 s12.2))] aa ww) ?_ (fun s14=>?_)
  ·refine gSR<|Zb Z<|z27 (fun (s15:Int × Int) aa ww=>Sta (ctx 69 H [] w) [(0,.rd (z03 z04) a0),(3,.val (n2 0)),(4,.val v5),(6,.val (n13 0)),(7,.rd z0j s15.1),(8,.rd z0j s15.2)] [(1,some ((n2 0),.list aZ 45 r1)),(2,some (v5,.list z08 4 s12.1)),(95,some ((n13 0),.list z0j 3 s12.2))] aa ww) (fun aa ww h=>Zu h [1,2,95]) (fun s15=>?_)
   refine z0w<|gSR<|Zm Z<|Zm Z<|Zq (z5m Z .rd Z tu22)<|Zq (I.lss Z Z)<|Zj Z (fun h16=>?_) (fun h16=>?_)
   ·refine Zt<|z0w<|z67<|z8e (fun (s17:Bool) aa ww=>Sta (ctx 69 H [] w) [(0,.rd (z03 z04) a0),(3,.val (n2 0)),(4,.val v5),(6,.val (n13 0)),(7,.rd z0j s15.1),(8,.rd z0j s15.2),(57,.rd z08 s17)] [(1,some ((n2 0),.list aZ 45 r1)),(2,some (v5,.list z08 4 s12.1)),(95,some ((n13 0),.list z0j 3 s12.2))] aa ww) ?_ (fun s17=>?_)
    ·refine z9c [1,2] mixed Z Z<|hTk 0 Z Z (mv Z)<|hTk 1 Z Z (mv Z)<|z5i fun x18 h19=>hTk 2 Z Z (ixO 2 Z Z Z h19 tu128 ti4)<|zu3 3 Z (by kernel_rfl) (gd0 Z) Z Z zez (ld 2 Z Z (Foc.el h19) ty4 Z)<|hTk 4 Z Z (mv Z)<|hIf 33 Z Z (fun h20=>?_) (fun h20=>?_)
     ·refine hKn 32 Z Z h20<|Zg 5 Z Z (mv Z)<|Zg 6 Z Z (mv Z)<|z5i fun x21 h22=>Zg 7 Z Z (ixR Z Z h22 tu22 za6 Z)<|Zg 8 Z Z (ldR Z zdg)<|Zg 9 Z Z (mv Z)<|Zg 10 Z Z (mv Z)<|z5e 11 [1,2] [(1,1),(2,2)] Z (by kernel_rfl) Z Zx Z Tryz.func86 Z Z (zab _ _ _ _ _ _ _) (aQ Z<|aW Z<|aW Z<|aN) (Zi Z<|Zi Z<|rN) Z (fun _ _=>zez) fun r23 n24=>hTk 12 Z Z (pkT Z Z)<|hTk 13 Z Z (mv Z)<|hIf 42 Z Z (fun h25=>?_) (fun h25=>?_)
      ·refine hKn 40 Z Z h25<|hKn 41 Z Z h25<|Zg 14 Z Z (mv Z)<|Zg 15 Z Z (I.lss Z Z)<|Zg 16 Z Z (mv Z)<|hIf 45 Z Z (fun h26=>?_) (fun h26=>?_)
       ·refine hKn 44 Z Z h26<|hSk 17 Z Z<|hSk 18 Z Z<|hSk 19 Z Z<|hSk 20 Z Z<|hSk 21 Z Z<|hSk 22 Z Z<|hSk 23 Z Z<|hSk 24 Z Z<|hSk 25 Z Z<|hSk 26 Z Z<|Zg 27 Z Z (pkT Z Z)<|hTk 28 Z Z (pkT Z Z)<|z6z (by kernel_rfl)<|z4g (fun aa ww h=>Zu h [1,2,95])
       ·refine hKn 44 Z Z h26<|Zg 17 Z Z (mv Z)<|Zg 18 Z Z (mv Z)<|z5i fun x27 h28=>Zg 19 Z Z (ixO 1 Z Z Z h28 tu29 z5n)<|Zg 21 Z Z (mv Z)<|Zg 22 Z Z (mv Z)<|z5i fun x29 h30=>Zg 23 Z Z (ixO 1 Z Z Z h30 tu29 z5n)<|zz6 [20,24] (by kernel_rfl) Z ⟨?_,?_,trivial⟩
        ·refine zxx 20 Z Zx Z Z zv0 (ld 1 Z Z (Foc.el h28) z8v Z)<|zu3 24 Z (by kernel_rfl) Zx Z Z zv0 (ld 1 Z Z (Foc.el h30) z8v Z)<|z5e 25 [] [] Z (by kernel_rfl) Z Zx Z Tryz.func18 Z Z (z6m _ _) (Y2 Z Z) rN Z (fun _ _=>z43) fun r31 n32=>Zg 26 Z Z (I.lss Z Z)<|Zg 27 Z Z (pkF Z Z)<|hTk 28 Z Z (pkT Z Z)<|z6z (by kernel_rfl)<|z4g (fun aa ww h=>Zu h [1,2,95])
        ·refine zxx 24 Z Zx Z Z zv0 (ld 1 Z Z (Foc.el h30) z8v Z)<|zu3 20 Z (by kernel_rfl) Zx Z Z zv0 (ld 1 Z Z (Foc.el h28) z8v Z)<|z5e 25 [] [] Z (by kernel_rfl) Z Zx Z Tryz.func18 Z Z (z6m _ _) (Y2 Z Z) rN Z (fun _ _=>z43) fun r33 n34=>Zg 26 Z Z (I.lss Z Z)<|Zg 27 Z Z (pkF Z Z)<|hTk 28 Z Z (pkT Z Z)<|z6z (by kernel_rfl)<|z4g (fun aa ww h=>Zu h [1,2,95])
      ·refine hKn 40 Z Z h25<|hKn 41 Z Z h25<|hSk 14 Z Z<|hSk 15 Z Z<|hSk 16 Z Z<|z9r 17 Z (by kernel_rfl) (by kernel_rfl) (by kernel_rfl) (gdU Z Z Z) Z Z<|z9r 18 Z (by kernel_rfl) (by kernel_rfl) (by kernel_rfl) (gdU Z Z Z) Z Z<|z9r 19 Z (by kernel_rfl) (by kernel_rfl) (by kernel_rfl) (gdU Z Z Z) Z Z<|z9r 20 Z (by kernel_rfl) (by kernel_rfl) (by kernel_rfl) (gdU Z Z Z) Z Z<|z9r 21 Z (by kernel_rfl) (by kernel_rfl) (by kernel_rfl) (gdU Z Z Z) Z Z<|z9r 22 Z (by kernel_rfl) (by kernel_rfl) (by kernel_rfl) (gdU Z Z Z) Z Z<|z9r 23 Z (by kernel_rfl) (by kernel_rfl) (by kernel_rfl) (gdU Z Z Z) Z Z<|z9r 24 Z (by kernel_rfl) (by kernel_rfl) (by kernel_rfl) (gdU Z Z Z) Z Z<|z9r 25 Z (by kernel_rfl) (by kernel_rfl) (by kernel_rfl) (gdU Z Z Z) Z Z<|z9r 26 Z (by kernel_rfl) (by kernel_rfl) (by kernel_rfl) (gdU Z Z Z) Z Z<|hSk 27 Z Z<|hTk 28 Z Z (pkF Z Z)<|z6z (by kernel_rfl)<|z4g (fun aa ww h=>Zu h [1,2,95])
     ·refine hKn 32 Z Z h20<|hSk 5 Z Z<|hSk 6 Z Z<|hSk 7 Z Z<|hSk 8 Z Z<|hSk 9 Z Z<|hSk 10 Z Z<|hSk 11 Z Z<|hTk 12 Z Z (pkF Z Z)<|hTk 13 Z Z (mv Z)<|hSk 14 Z Z<|hSk 15 Z Z<|hSk 16 Z Z<|z9r 17 Z (by kernel_rfl) (by kernel_rfl) (by kernel_rfl) (gdU Z Z Z) Z Z<|z9r 18 Z (by kernel_rfl) (by kernel_rfl) (by kernel_rfl) (gdU Z Z Z) Z Z<|z9r 19 Z (by kernel_rfl) (by kernel_rfl) (by kernel_rfl) (gdU Z Z Z) Z Z<|z9r 20 Z (by kernel_rfl) (by kernel_rfl) (by kernel_rfl) (gdU Z Z Z) Z Z<|z9r 21 Z (by kernel_rfl) (by kernel_rfl) (by kernel_rfl) (gdU Z Z Z) Z Z<|z9r 22 Z (by kernel_rfl) (by kernel_rfl) (by kernel_rfl) (gdU Z Z Z) Z Z<|z9r 23 Z (by kernel_rfl) (by kernel_rfl) (by kernel_rfl) (gdU Z Z Z) Z Z<|z9r 24 Z (by kernel_rfl) (by kernel_rfl) (by kernel_rfl) (gdU Z Z Z) Z Z<|z9r 25 Z (by kernel_rfl) (by kernel_rfl) (by kernel_rfl) (gdU Z Z Z) Z Z<|z9r 26 Z (by kernel_rfl) (by kernel_rfl) (by kernel_rfl) (gdU Z Z Z) Z Z<|hSk 27 Z Z<|hTk 28 Z Z (pkF Z Z)<|z6z (by kernel_rfl)<|z4g (fun aa ww h=>Zu h [1,2,95])
    ·refine gIf Z Z (fun h35=>?_) (fun h35=>?_)
     ·refine z2d<|Zm Z<|Za Z<|z21<|z3o<|z0t<|z2d<|Zm Z<|Zq (I.add Z Z)<|Za Z<|z1u 8 Z fun y36=>z21<|z1x (fun aa ww h=>Zu h [1,2,95])
     ·refine z31<|z3o<|z0t<|z2d<|Zm Z<|Zq (I.add Z Z)<|Za Z<|z1u 8 Z fun y37=>z21<|z1x (fun aa ww h=>Zu h [1,2,95])
   ·refine z28<|z16<|z15<|z4g (fun aa ww h=>Zu h [1,2,95])
  ·refine z0w<|gSR<|Zm Z<|Zq (I.lss Z Z)<|Zj Z (fun h38=>?_) (fun h38=>?_)
   ·refine gSR<|Zm Z<|Zb Z<|z0s<|z14<|z3l<|z6f<|Ze [(n13 0)] [95] Z
   ·refine Zt<|gSR<|Zm Z<|Zm Z<|Ef Z (lit (R:=z0j) ([s14]:List Int) 187 (pP Z Z<|pN) Z tu86 ti3 Z Z) fun v39=>z0o fun x40 h41=>Ef Z (apn 95 Z Z Z (.own 187 Z) h41 tu86 ti3 Z Z Z) fun v42=>Zb Z<|z2d<|Zm Z<|Zm Z<|z0o fun x43 h44=>Zq (ixO 2 Z Z Z h44 tu128 ti4)<|Es (sto 2 Z Z (Foc.el h44) Z ti4)<|z21<|z3o<|z1x (fun aa ww h=>⟨nvl [v42],Zu h [1,2,95]⟩)
def z3z (a0:List z01) (s3:Int):Option (Sum (Sum Int Unit) Int) :=
 if decide (s3<(a0.length:Int)) then
  idx a0 s3 >>= fun x5 =>
  z5w x5 >>= fun r7 =>
  if r7 != 0 then
   some (.inl (.inl r7))
  else
   some (.inr (w64 (s3+1)))
 else
  some (.inl (.inr ()))
def z2v (s13:(List V3) × Int):Option (Sum (Sum Int Unit) ((List V3) × Int)) :=
 if decide (s13.2<(s13.1.length:Int)) then
  idx s13.1 s13.2 >>= fun x15 =>
  z3r s13.1 x15 >>= fun r17 =>
  if decide (r17<s13.2) then
   some (.inl (.inl 14))
  else
   some (w64 (s13.2+1)) >>= fun y20 =>
   some (.inr (s13.1,y20))
 else
  some (.inl (.inr ()))
def z5x (a0:List z01):Option (Int) :=
 if decide (60<(a0.length:Int)) then
  some 4
 else
  z6b (iter (z3z a0) 0) fun s2 =>
  z5y a0 >>= fun r10 =>
  z6b (iter (z2v) (r10,0)) fun s12 =>
  z79 a0 >>= fun r21 =>
  if decide ((r21.length:Int)<(a0.length:Int)) then
   some 36
  else
   some 0
theorem zcc (a0:List z01):z2b Tryz.prog 11 [.rd (z03 z04) a0] [] (z5x a0) (fun r nv=>⟨[.rd z0j r],[]⟩):=by
 refine z37 46 Tryz.func11 Z Z Z fun H w=>?_
 refine gSR<|Zb Z<|z0w<|gSR<|Zm Z<|Zq (z5m Z .rd Z tu22)<|Zq (I.gtr Z Z)<|Zj Z (fun h1=>?_) (fun h1=>?_)
 ·refine gSR<|Zb Z<|z0s<|z14<|Ze [] [] Z
 ·refine Zt<|z84 (fun (s2:Unit) aa ww=>Sta (ctx 46 H [] w) [(0,.rd (z03 z04) a0)] [] aa ww) ?_ (fun s2=>?_)
  ·refine gSR<|Zb Z<|z27 (fun (s3:Int) aa ww=>Sta (ctx 46 H [] w) [(0,.rd (z03 z04) a0),(3,.rd z0j s3)] [] aa ww) (fun aa ww h=>Zu h []) (fun s3=>?_)
   refine z0w<|gSR<|Zm Z<|Zm Z<|Zq (z5m Z .rd Z tu22)<|Zq (I.lss Z Z)<|Zj Z (fun h4=>?_) (fun h4=>?_)
   ·refine Zt<|z0w<|z67<|gSR<|Zm Z<|Zm Z<|z0o fun x5 h6=>Zq (ixR Z Z h6 tu22 za6 Z)<|Zq (ldR Z zdg)<|Zc [] [] Tryz.func15 Z (z99 _) fun r7 n8=>Zb Z<|gSR<|Zm Z<|Zq (I.neq Z Z)<|Zj Z (fun h9=>?_) (fun h9=>?_)
    ·refine gSR<|Zm Z<|Zb Z<|z0s<|z3l<|z14<|z6f<|z5z<|Ze [] [] Z
    ·refine z31<|z3o<|z0t<|z2d<|Zm Z<|Zq (I.add Z Z)<|Za Z<|z21<|z1x (fun aa ww h=>Zu h [])
   ·refine z28<|z16<|z15<|z7p (fun aa ww h=>Zu h [])
  ·refine gSR<|Zm Z<|Zc [] [(100,1)] Tryz.func43 Z (z9v _) fun r10 n11=>Zb Z<|z84 (fun (s12:Unit) aa ww=>Sta (ctx 46 H [] w) [(0,.rd (z03 z04) a0)] [] aa ww) ?_ (fun s12=>?_)
   ·refine gSR<|Zb Z<|zxd 1 [25,5] Z (fS Z<|fS Z<|fN)<|z27 (fun (s13:(List V3) × Int) aa ww=>Sta (ctx 46 H [] w) [(0,.rd (z03 z04) a0),(5,.rd (z03 aZ) s13.1),(6,.rd z0j s13.2)] [] aa ww) (fun aa ww h=>Zu h []) (fun s13=>?_)
    refine z0w<|gSR<|Zm Z<|Zm Z<|Zq (z5m Z .rd Z tu29)<|Zq (I.lss Z Z)<|Zj Z (fun h14=>?_) (fun h14=>?_)
    ·refine Zt<|z0w<|z67<|gSR<|Zm Z<|Zm Z<|Zm Z<|z0o fun x15 h16=>Zq (ixR Z Z h16 tu29 z5n Z)<|Zq (ldR Z z8v)<|Zc [] [] Tryz.func17 Z (z5s _ _) fun r17 n18=>Zm Z<|Zq (I.lss Z Z)<|Zj Z (fun h19=>?_) (fun h19=>?_)
     ·refine gSR<|Zb Z<|z0s<|z3l<|z14<|z6f<|z5z<|Ze [] [] Z
     ·refine z31<|z3o<|z0t<|z2d<|Zm Z<|Zq (I.add Z Z)<|Za Z<|z1u 6 Z fun y20=>z21<|z1x (fun aa ww h=>Zu h [])
    ·refine z28<|z16<|z15<|z7p (fun aa ww h=>Zu h [])
   ·refine z0w<|gSR<|Zm Z<|Zc [] [(100,2)] Tryz.func44 Z (zc7 _) fun r21 n22=>Zq (z5m Z (.own 2 Z) Z tu86)<|Zm Z<|Zq (z5m Z .rd Z tu22)<|Zq (I.lss Z Z)<|Zj Z (fun h23=>?_) (fun h23=>?_)
    ·refine gSR<|Zb Z<|z0s<|z14<|Ze [] [] Z
    ·refine Zt<|gSR<|Zb Z<|z0s<|Ze [] [] Z
def z62 (a0:List z02) (s2:(List z01) × Int):Option (Sum ((List z01)) ((List z01) × Int)) :=
 if decide (s2.2<(a0.length:Int)) then
  idx a0 s2.2 >>= fun x5 =>
  app 112 s2.1 [x5.o] >>= fun x9 =>
  some (.inr (x9,w64 (s2.2+1)))
 else
  some (.inl s2.1)
def z7u (a0:List z02):Option ((List z01)) :=
 (iter (z62 a0) ([],0)) >>= fun s1 =>
 some s1
theorem zd2 (a0:List z02):z2b Tryz.prog 46 [.rd (z03 z05) a0] [] (z7u a0) (fun r nv=>⟨[.val (nv 0)],[(100,some (nv 0,.list z04 43 r))]⟩):=by
 refine z37 19 Tryz.func46 Z Z Z fun H w=>?_
 refine gSR<|Zb Z<|gSR<|Zb Z<|z8e (fun (s1:(List z01)) aa ww=>∃ nv:Nat→Value,Sta (ctx 19 H [] w) [(3,.val (nv 0))] [(3,some ((nv 0),.list z04 43 s1))] aa ww) ?_ (fun s1=>?_)
 ·refine gSR<|Zm Z<|Zq (z5m Z .rd Z tu88)<|Zm Z<|Zn<|zql z04 43 7<|z27 (fun (s2:(List z01) × Int) aa ww=>∃ nv:Nat→Value,Sta (ctx 19 H [] w) [(3,.val (nv 0)),(6,.rd (z03 z05) a0),(7,.rd z0j (a0.length:Int)),(8,.rd z0j s2.2)] [(6,some ((nv 0),.list z04 43 s2.1))] aa ww) (fun aa ww h=>⟨nvl [(.slice none 0 0)],Zu h [7]⟩) (fun s2=>?_)
  refine gEx fun n3=>gSR<|Zq (I.lss Z Z)<|Zn<|z0w<|gIf Z Z (fun h4=>?_) (fun h4=>?_)
  ·refine Zt<|z0w<|z67<|gSR<|z0o fun x5 h6=>Zq (ixR Z Z h6 tu88 ze4 Z)<|Zq (ldR Z zum)<|Eb Z (z9u 8 ze4 (.zr (R:=z05) (x:=(⟨(⟨0,[],0,(⟨0,[],(⟨0,0,0,[]⟩:z00)⟩:z0a),(⟨0,0⟩:z07)⟩:z01),(Vector.replicate 32 0)⟩:z02)) ztt)) fun v7=>Es (sto 8 Z Z fH Z ze4)<|Zn<|z2d<|Zm Z<|Zq (faB 8 Z Z Tryz.underlying94 Z (by exact za6))<|Zq (ld 8 Z Z (fP (z41 _)) zdg Z)<|Ef Z (lit (R:=z04) ([x5.o]:List z01) 9 (pP Z Z<|pN) Z tu22 za6 Z Z) fun v8=>zed 9 [15] Z (fS Z<|fN)<|z0o fun x9 h10=>Ef Z (apn 6 Z Z Z .rd h10 tu22 za6 Z Z Z) fun v11=>Za Z<|z21<|z3o<|z0t<|z2d<|Zq (I.add Z Z)<|Zm Z<|z21<|z1x (fun aa ww h=>⟨nvl [v11],Zu h [6]⟩)
  ·refine z28<|z16<|z15<|z4g (fun aa ww h=>⟨nvl [(n3 0)],Zu h [6]⟩)
 ·refine gEx fun n12=>gSR<|Zm Z<|Zb Z<|z0s<|Ze [(n12 0)] [3] Z
def zd8 (a0:List z01):Option ((List z01) × Int) :=
 z6r a0 >>= fun r1 =>
 if r1.2 != 0 then
  some ([],r1.2)
 else
  z7u r1.1 >>= fun r4 =>
  some (r4,0)
theorem ziu (a0:List z01):z2b Tryz.prog 12 [.rd (z03 z04) a0] [zG1] (zd8 a0) (fun r nv=>⟨[.val (nv 0),.rd z0j r.2],[(1001,some (.bool true,.glob 1 (z2g 64 z0m) z72)),(100,some (nv 0,.list z04 43 r.1))]⟩):=by
 refine z37 16 Tryz.func12 Z Z Z fun H w=>?_
 refine gSR<|Za Z<|Zb Z<|gSR<|Zm Z<|Zc [1001] [(100,1)] Tryz.func45 Z (z8r _) fun r1 n2=>Zm Z<|Zq (ext Z Z)<|Zq (ext Z Z)<|Za Z<|Zb Z<|z0w<|gSR<|Zm Z<|Zq (I.neq Z Z)<|Zj Z (fun h3=>?_) (fun h3=>?_)
 ·refine gSR<|Zm Z<|Za Z<|Zb Z<|z0s<|z14<|zhx z04 43 2<|Ze [(.slice none 0 0)] [1001,2] Z
 ·refine Zt<|gSR<|Zm Z<|zed 1 [9,4,14] Z (fS Z<|fS Z<|fS Z<|fN)<|Zc [] [(100,3)] Tryz.func46 Z (zd2 _) fun r4 n5=>Za Z<|Zb Z<|z0s<|Ze [(n5 0)] [1001,3] Z
def z7w (r1:(List z02) × Int) (s6:(List (V3 × Bool)) × Int):Option (Sum ((List (V3 × Bool))) ((List (V3 × Bool)) × Int)) :=
 if decide (s6.2<(r1.1.length:Int)) then
  idx r1.1 s6.2 >>= fun x8 =>
  some (.inr (zeq s6.1 x8.id true,w64 (s6.2+1)))
 else
  some (.inl s6.1)
def z6c (s5:(List (V3 × Bool))) (x16:z02) (s19:(List V3) × Int):Option (Sum ((List V3)) ((List V3) × Int)) :=
 if decide (s19.2<(x16.o.Preds.length:Int)) then
  idx x16.o.Preds s19.2 >>= fun x22 =>
  if !((z9g s5 x22).getD false) then
   app 32 s19.1 [x22] >>= fun x27 =>
   some (.inr (x27,w64 (s19.2+1)))
  else
   some (.inr (s19.1,w64 (s19.2+1)))
 else
  some (.inl s19.1)
def z7q (r1:(List z02) × Int) (s5:(List (V3 × Bool))) (s12:(List V3) × Int):Option (Sum ((List V3)) ((List V3) × Int)) :=
 if decide (s12.2<(r1.1.length:Int)) then
  (idx r1.1 s12.2 >>= fun x16 =>
  iter (z6c s5 x16) (s12.1,0)) >>= fun s15 =>
  some (.inr (s15,w64 (s12.2+1)))
 else
  some (.inl s12.1)
def z6g (a0:List z01):Option ((List V3) × Int) :=
 z6r a0 >>= fun r1 =>
 if r1.2 != 0 then
  some ([],r1.2)
 else
  (iter (z7w r1) (([]:List (V3 × Bool)),0)) >>= fun s5 =>
  (iter (z7q r1 s5) ([],0)) >>= fun s11 =>
  zu9 s11 >>= fun r32 =>
  z0u r32 >>= fun r34 =>
  some (r34,0)
theorem zfl (a0:List z01):z2b Tryz.prog 13 [.rd (z03 z04) a0] [zG1] (z6g a0) (fun r nv=>⟨[.val (nv 0),.rd z0j r.2],[(1001,some (.bool true,.glob 1 (z2g 64 z0m) z72)),(100,some (nv 0,.list aZ 45 r.1))]⟩):=by
 refine z37 61 Tryz.func13 Z Z Z fun H w=>?_
 refine gSR<|Za Z<|Zb Z<|gSR<|Zm Z<|Zc [1001] [(100,1)] Tryz.func45 Z (z8r _) fun r1 n2=>Zm Z<|Zq (ext Z Z)<|Zq (ext Z Z)<|Za Z<|Zb Z<|z0w<|gSR<|Zm Z<|Zq (I.neq Z Z)<|Zj Z (fun h3=>?_) (fun h3=>?_)
 ·refine gSR<|Zm Z<|Za Z<|Zb Z<|z0s<|z14<|zhx aZ 45 2<|Ze [(.slice none 0 0)] [1001,2] Z
 ·refine Zt<|gSR<|Ef Z (mkm aZ z08 3 (Or.inl Z) Tryz.underlying92) fun v4=>Zb Z<|gSR<|Zb Z<|z8e (fun (s5:(List (V3 × Bool))) aa ww=>Sta (ctx 61 H [zG1] w) [(4,.val (n2 0)),(6,.val v4),(7,.val (.slice none 0 0))] [(1,some ((n2 0),.list z05 94 r1.1)),(3,some (v4,.map aZ z08 s5)),zG1] aa ww) ?_ (fun s5=>?_)
  ·refine gSR<|Zm Z<|Zq (z5m Z (.own 1 Z) Z tu88)<|Zm Z<|Zn<|z27 (fun (s6:(List (V3 × Bool)) × Int) aa ww=>Sta (ctx 61 H [zG1] w) [(4,.val (n2 0)),(6,.val v4),(7,.val (.slice none 0 0)),(23,.val (n2 0)),(24,.rd z0j (r1.1.length:Int)),(25,.rd z0j s6.2)] [(1,some ((n2 0),.list z05 94 r1.1)),(3,some (v4,.map aZ z08 s6.1)),zG1] aa ww) (fun aa ww h=>Zu h [1,3,1001]) (fun s6=>?_)
   refine gSR<|Zq (I.lss Z Z)<|Zn<|z0w<|gIf Z Z (fun h7=>?_) (fun h7=>?_)
   ·refine Zt<|z0w<|z67<|gSR<|z0o fun x8 h9=>Zq (ixO 1 Z Z Z h9 tu88 ze4)<|Zq (ld 1 Z Z (Foc.el h9) zum Z)<|Eb Z (z9u 1100 ze4 (.zr (R:=z05) (x:=(⟨(⟨0,[],0,(⟨0,[],(⟨0,0,0,[]⟩:z00)⟩:z0a),(⟨0,0⟩:z07)⟩:z01),(Vector.replicate 32 0)⟩:z02)) ztt)) fun v10=>Es (sto 1100 Z Z fH Z ze4)<|Zn<|z2d<|Zm Z<|Zq (faB 1100 Z Z Tryz.underlying94 Z (by exact z5n))<|Zq (ld 1100 Z Z (fP (z4d _)) z8v Z)<|Es (mup 3 Z Z Z Z zs0 Tryz.underlying92)<|z21<|z3o<|z0t<|z2d<|Zq (I.add Z Z)<|Zm Z<|z21<|z1x (fun aa ww h=>Zu h [1,3,1001])
   ·refine z28<|z16<|z15<|z4g (fun aa ww h=>Zu h [1,3,1001])
  ·refine z8e (fun (s11:(List V3)) aa ww=>∃ nv:Nat→Value,Sta (ctx 61 H [zG1] w) [(7,.val (nv 0))] [(1104,some ((nv 0),.list aZ 45 s11)),zG1] aa ww) ?_ (fun s11=>?_)
   ·refine gSR<|Zm Z<|Zq (z5m Z (.own 1 Z) Z tu88)<|Zm Z<|Zn<|zql aZ 45 1109<|z27 (fun (s12:(List V3) × Int) aa ww=>∃ nv:Nat→Value,Sta (ctx 61 H [zG1] w) [(6,.val v4),(7,.val (nv 0)),(33,.val (n2 0)),(34,.rd z0j (r1.1.length:Int)),(35,.rd z0j s12.2)] [(3,some (v4,.map aZ z08 s5)),(1108,some ((nv 0),.list aZ 45 s12.1)),(1,some ((n2 0),.list z05 94 r1.1)),zG1] aa ww) (fun aa ww h=>⟨nvl [(.slice none 0 0)],Zu h [3,1109,1,1001]⟩) (fun s12=>?_)
    refine gEx fun n13=>gSR<|Zq (I.lss Z Z)<|Zn<|z0w<|gIf Z Z (fun h14=>?_) (fun h14=>?_)
    ·refine Zt<|z8e (fun (s15:(List V3)) aa ww=>∃ nv:Nat→Value,Sta (ctx 61 H [zG1] w) [(6,.val v4),(7,.val (nv 0)),(33,.val (n2 0)),(34,.rd z0j (r1.1.length:Int)),(35,.rd z0j s12.2)] [(3,some (v4,.map aZ z08 s5)),(1108,some ((nv 0),.list aZ 45 s15)),(1,some ((n2 0),.list z05 94 r1.1)),zG1] aa ww) ?_ (fun s15=>?_)
     ·refine z67<|gSR<|z0o fun x16 h17=>Zq (ixO 1 Z Z Z h17 tu88 ze4)<|Zq (ld 1 Z Z (Foc.el h17) zum Z)<|Eb Z (z9u 1110 ze4 (.zr (R:=z05) (x:=(⟨(⟨0,[],0,(⟨0,[],(⟨0,0,0,[]⟩:z00)⟩:z0a),(⟨0,0⟩:z07)⟩:z01),(Vector.replicate 32 0)⟩:z02)) ztt)) fun v18=>Es (sto 1110 Z Z fH Z ze4)<|Zn<|gSR<|Zq (faB 1110 Z Z Tryz.underlying94 Z (by exact za6))<|Zq (faB 1110 Z Z Tryz.underlying43 Z (by exact zdp))<|Zq (ld 1110 Z Z ((fP (z41 _)).part (z0q _)) zee Z)<|Zq (z5m Z .rd Z tu29)<|Zm Z<|Zn<|z27 (fun (s19:(List V3) × Int) aa ww=>∃ nv:Nat→Value,Sta (ctx 61 H [zG1] w) [(6,.val v4),(7,.val (nv 0)),(33,.val (n2 0)),(34,.rd z0j (r1.1.length:Int)),(35,.rd z0j s12.2),(41,.rd (z03 aZ) x16.o.Preds),(42,.rd z0j (x16.o.Preds.length:Int)),(43,.rd z0j s19.2)] [(3,some (v4,.map aZ z08 s5)),(1108,some ((nv 0),.list aZ 45 s19.1)),(1,some ((n2 0),.list z05 94 r1.1)),zG1] aa ww) (fun aa ww h=>⟨nvl [(n13 0)],Zu h [3,1108,1,1001]⟩) (fun s19=>?_)
      refine gEx fun n20=>gSR<|Zq (I.lss Z Z)<|Zn<|z0w<|gIf Z Z (fun h21=>?_) (fun h21=>?_)
      ·refine Zt<|z0w<|z67<|gSR<|z0o fun x22 h23=>Zq (ixR Z Z h23 tu29 z5n Z)<|Zq (ldR Z z8v)<|Eb Z (z9u 1111 z5n (.zr (R:=aZ) (x:=(Vector.replicate 32 0)) zim)) fun v24=>Es (sto 1111 Z Z fH Z z5n)<|Zn<|gSR<|Zm Z<|Zq (ld 1111 Z Z fH z8v Z)<|Zq (mlk Z (.own 3 Z Z) Z zs0 Tryz.underlying92 ti4 Zr.bool Z)<|Zq (zhv Z)<|Zj Z (fun h25=>?_) (fun h25=>?_)
       ·refine z2d<|Zm Z<|Zq (ld 1111 Z Z fH z8v Z)<|Ef Z (lit (R:=aZ) ([x22]:List V3) 1112 (pP Z Z<|pN) Z tu29 z5n Z Z) fun v26=>zed 1112 [53] Z (fS Z<|fN)<|z0o fun x27 h28=>Ef Z (apn 1108 Z Z Z .rd h28 tu29 z5n Z Z Z) fun v29=>Za Z<|z21<|z3o<|z0t<|z2d<|Zq (I.add Z Z)<|Zm Z<|z21<|z1x (fun aa ww h=>⟨nvl [v29],Zu h [3,1108,1,1001]⟩)
       ·refine z31<|z3o<|z0t<|z2d<|Zq (I.add Z Z)<|Zm Z<|z21<|z1x (fun aa ww h=>⟨nvl [(n20 0)],Zu h [3,1108,1,1001]⟩)
      ·refine z28<|z16<|z15<|z3o<|z4g (fun aa ww h=>⟨nvl [(n20 0)],Zu h [3,1108,1,1001]⟩)
     ·refine gEx fun n30=>z2d<|Zq (I.add Z Z)<|Zm Z<|z21<|z1x (fun aa ww h=>⟨nvl [(n30 0)],Zu h [3,1108,1,1001]⟩)
    ·refine z28<|z16<|z15<|z4g (fun aa ww h=>⟨nvl [(n13 0)],Zu h [1108,1001]⟩)
   ·refine gEx fun n31=>gSR<|Zm Z<|Zc [1104] [(1,1104)] Tryz.func47 Z (zrk _ _) fun r32 n33=>Zn<|gSR<|Zm Z<|Zc [1104] [(100,1113)] Tryz.func49 Z (z58 _ _) fun r34 n35=>Za Z<|Zb Z<|z0s<|Ze [(n35 0)] [1001,1113] Z
def z2m (r11:(List z01) × Int) (s23:(List V3) × Int):Option (Sum (Sum Bool ((List V3))) ((List V3) × Int)) :=
 if decide (s23.2<(r11.1.length:Int)) then
  idx r11.1 s23.2 >>= fun x26 =>
  z5w x26 >>= fun r28 =>
  if r28 != 0 then
   some (.inl (.inl false))
  else
   idx r11.1 s23.2 >>= fun x31 =>
   z6o x31 >>= fun r33 =>
   app 32 s23.1 [r33] >>= fun x36 =>
   some (w64 (s23.2+1)) >>= fun y39 =>
   some (.inr (x36,y39))
 else
  some (.inl (.inr s23.1))
def z2j (a0:List z01) (s42:(List V3) × Int):Option (Sum (Sum Bool ((List V3))) ((List V3) × Int)) :=
 if decide (s42.2<(a0.length:Int)) then
  idx a0 s42.2 >>= fun x44 =>
  z6o x44 >>= fun r46 =>
  z3r s42.1 r46 >>= fun r48 =>
  if decide (r48<0) then
   some (.inl (.inl false))
  else
   some (w64 (s42.2+1)) >>= fun y51 =>
   some (.inr (s42.1,y51))
 else
  some (.inl (.inr s42.1))
def z3q (r11:(List z01) × Int) (s15:(List V3) × Bool) (s41:(List V3)) (s53:Int) (s57:Int × Int):Option (Sum (Sum (Sum (Sum (Sum Bool Unit) Int) Unit) Int) (Int × Int)) :=
 idx r11.1 s53 >>= fun x58 =>
 if decide (s57.2<(x58.Preds.length:Int)) then
  idx r11.1 s53 >>= fun x61 =>
  idx x61.Preds s57.2 >>= fun x63 =>
  z3r s41 x63 >>= fun r65 =>
  if decide (s53≤r65) then
   some (.inl (.inl (.inl (.inl (.inl false)))))
  else
   idx r11.1 s53 >>= fun x68 =>
   idx x68.Preds s57.2 >>= fun x70 =>
   z3r s15.1 x70 >>= fun r72 =>
   if (decide (r65<0)) != (decide (0≤r72)) then
    some (.inl (.inl (.inl (.inl (.inl false)))))
   else
    some (max s57.1 r65) >>= fun y75 =>
    some (w64 (s57.2+1)) >>= fun y76 =>
    some (.inr (y75,y76))
 else
  some (.inl (.inr s57.1))
def z2n (s41:(List V3)) (s53:Int) (s78:Int):Option (Sum (Sum (Sum (Sum Bool Unit) Int) Unit) Int) :=
 if decide (s78<s53) then
  idx s41 s78 >>= fun x80 =>
  idx s41 s53 >>= fun x82 =>
  z3s x80 x82 >>= fun r84 =>
  if decide (0<r84) then
   some (.inl (.inl (.inl (.inl false))))
  else
   some (w64 (s78+1)) >>= fun y87 =>
   some (.inr y87)
 else
  some (.inl (.inr ()))
def z2i (r11:(List z01) × Int) (s15:(List V3) × Bool) (s41:(List V3)) (s53:Int):Option (Sum (Sum Bool Unit) Int) :=
 if decide (s53<(r11.1.length:Int)) then
  z6b (z6b (iter (z3q r11 s15 s41 s53) ((-1),0)) fun s56 =>
  some (w64 (s56+1)) >>= fun y77 =>
  iter (z2n s41 s53) y77) fun s55 =>
  some (w64 (s53+1)) >>= fun y88 =>
  some (.inr y88)
 else
  some (.inl (.inr ()))
def z6y (a0:List z01):Option (Bool) :=
 z7e >>= fun r1 =>
 (z7j a0 >>= fun r4 =>
 if r4 then
  some true
 else
  z5x a0 >>= fun r7 =>
  if r7 != 0 then
   some true
  else
   some (!r1)) >>= fun s3 =>
 if s3 then
  some r1
 else
  zd8 a0 >>= fun r11 =>
  z6g a0 >>= fun r13 =>
  (if r11.2 != 0 then
   some (r13.1,true)
  else
   if r13.2 != 0 then
    some (r13.1,true)
   else
    if (r11.1.length:Int) != (a0.length:Int) then
     some (r13.1,true)
    else
     z3t r13.1 >>= fun r19 =>
     some (r13.1,!r19)) >>= fun s15 =>
  if s15.2 then
   some false
  else
   z6b (iter (z2m r11) ([],0)) fun s22 =>
   z6b (iter (z2j a0) (s22,0)) fun s41 =>
   z6b (iter (z2i r11 s15 s41) 0) fun s52 =>
   some r1
theorem zak (a0:List z01):z2b Tryz.prog 3 [.rd (z03 z04) a0] [zG1] (z6y a0) (fun r nv=>⟨[.rd z08 r],[(1001,some (.bool true,.glob 1 (z2g 64 z0m) z72))]⟩):=by
 refine z37 157 Tryz.func3 Z Z Z fun H w=>?_
 refine gSR<|Zb Z<|gSR<|Zc [1001] [] Tryz.func9 Z (zbx) fun r1 n2=>Zb Z<|z0w<|z8e (fun (s3:Bool) aa ww=>Sta (ctx 157 H [zG1] w) [(0,.rd (z03 z04) a0),(3,.rd z08 r1),(27,.rd z08 s3)] [zG1] aa ww) ?_ (fun s3=>?_)
 ·refine z2d<|Zm Z<|Zc [] [] Tryz.func10 Z (zby _) fun r4 n5=>Zm Z<|z1z 19 Z (fun h6=>?_) (fun h6=>?_)
  ·refine lKn 18 Z h6<|Zk Z<|Zk Z<|Zk Z<|Zq (pkT Z Z)<|Zm Z<|Zk Z<|Zk Z<|Zq (pkT Z Z)<|z21<|z4g (fun aa ww h=>Zu h [1001])
  ·refine lKn 18 Z h6<|z1q Zx Z Z (mv Z)<|zb0 [] [] Zx Z Tryz.func11 Z Z (zcc _) (Y1 Z) rN fun r7 n8=>z1q Zx Z Z (I.neq Z Z)<|Zq (pkF Z Z)<|Zm Z<|z1z 24 Z (fun h9=>?_) (fun h9=>?_)
   ·refine lKn 22 Z h9<|lKn 23 Z h9<|Zk Z<|Zk Z<|Zq (pkT Z Z)<|z21<|z4g (fun aa ww h=>Zu h [1001])
   ·refine lKn 22 Z h9<|lKn 23 Z h9<|z1q Zx Z Z (mv Z)<|z1q Zx Z Z (zhv Z)<|Zq (pkF Z Z)<|z21<|z4g (fun aa ww h=>Zu h [1001])
 ·refine gIf Z Z (fun h10=>?_) (fun h10=>?_)
  ·refine gSR<|Zm Z<|Zb Z<|z0s<|z14<|Ze [] [1001] Z
  ·refine Zt<|gSR<|Zm Z<|Zc [1001] [(100,1100)] Tryz.func12 Z (ziu _) fun r11 n12=>Zm Z<|Zq (ext Z Z)<|Zq (ext Z Z)<|Za Z<|Zb Z<|gSR<|Zm Z<|Zc [1001] [(100,1101)] Tryz.func13 Z (zfl _) fun r13 n14=>Zm Z<|Zq (ext Z Z)<|Zq (ext Z Z)<|Za Z<|Zb Z<|z0w<|z8e (fun (s15:(List V3) × Bool) aa ww=>Sta (ctx 157 H [zG1] w) [(0,.rd (z03 z04) a0),(3,.rd z08 r1),(4,.val (n12 0)),(6,.rd (z03 aZ) s15.1),(56,.rd z08 s15.2)] [(1100,some ((n12 0),.list z04 43 r11.1)),zG1] aa ww) ?_ (fun s15=>?_)
   ·refine z2d<|Zm Z<|Zq (I.neq Z Z)<|Zm Z<|z1z 41 Z (fun h16=>?_) (fun h16=>?_)
    ·refine lKn 40 Z h16<|Zk Z<|Zk Z<|Zq (pkT Z Z)<|Zm Z<|Zk Z<|Zk Z<|Zk Z<|Zk Z<|Zk Z<|Zq (pkT Z Z)<|Zm Z<|Zk Z<|Zk Z<|Zk Z<|Zq (pkT Z Z)<|z21<|zxs 1101 [37,6] Z (fS Z<|fS Z<|fN)<|z4g (fun aa ww h=>Zu h [1100,1001])
    ·refine lKn 40 Z h16<|z1q Zx Z Z (mv Z)<|z1q Zx Z Z (I.neq Z Z)<|Zq (pkF Z Z)<|Zm Z<|z1z 45 Z (fun h17=>?_) (fun h17=>?_)
     ·refine lKn 43 Z h17<|lKn 44 Z h17<|Zk Z<|Zk Z<|Zk Z<|Zk Z<|Zk Z<|Zq (pkT Z Z)<|Zm Z<|Zk Z<|Zk Z<|Zk Z<|Zq (pkT Z Z)<|z21<|zxs 1101 [37,6] Z (fS Z<|fS Z<|fN)<|z4g (fun aa ww h=>Zu h [1100,1001])
     ·refine lKn 43 Z h17<|lKn 44 Z h17<|z1q Zx Z Z (mv Z)<|z1q Zx Z Z (z5m Z (.own 1100 Z) Z tu22)<|z1q Zx Z Z (mv Z)<|z1q Zx Z Z (z5m Z .rd Z tu22)<|z1q Zx Z Z (I.neq Z Z)<|Zq (pkF Z Z)<|Zm Z<|z1z 52 Z (fun h18=>?_) (fun h18=>?_)
      ·refine lKn 50 Z h18<|lKn 51 Z h18<|Zk Z<|Zk Z<|Zk Z<|Zq (pkT Z Z)<|z21<|zxs 1101 [37,6] Z (fS Z<|fS Z<|fN)<|z4g (fun aa ww h=>Zu h [1100,1001])
      ·refine lKn 50 Z h18<|lKn 51 Z h18<|z1q Zx Z Z (mv Z)<|zed 1101 [37,6,53] Z (fS Z<|fS Z<|fS Z<|fN)<|zb0 [] [] Zx Z Tryz.func14 Z Z (z8w _) (Y1 Z) rN fun r19 n20=>z1q Zx Z Z (zhv Z)<|Zq (pkF Z Z)<|z21<|z4g (fun aa ww h=>Zu h [1100,1001])
   ·refine gIf Z Z (fun h21=>?_) (fun h21=>?_)
    ·refine gSR<|Zb Z<|z0s<|z14<|Ze [] [1001] Z
    ·refine Zt<|gSR<|Zb Z<|z84 (fun (s22:(List V3)) aa ww=>∃ nv:Nat→Value,Sta (ctx 157 H [zG1] w) [(0,.rd (z03 z04) a0),(3,.rd z08 r1),(4,.val (n12 0)),(6,.rd (z03 aZ) s15.1),(8,.val (nv 0))] [(1100,some ((n12 0),.list z04 43 r11.1)),(1103,some ((nv 0),.list aZ 45 s22)),zG1] aa ww) ?_ (fun s22=>?_)
     ·refine gSR<|Zb Z<|zql aZ 45 1106<|z27 (fun (s23:(List V3) × Int) aa ww=>∃ nv:Nat→Value,Sta (ctx 157 H [zG1] w) [(0,.rd (z03 z04) a0),(3,.rd z08 r1),(4,.val (n12 0)),(6,.rd (z03 aZ) s15.1),(8,.val (nv 0)),(9,.rd z0j s23.2)] [(1100,some ((n12 0),.list z04 43 r11.1)),(1105,some ((nv 0),.list aZ 45 s23.1)),zG1] aa ww) (fun aa ww h=>⟨nvl [(.slice none 0 0)],Zu h [1100,1106,1001]⟩) (fun s23=>?_)
      refine gEx fun n24=>z0w<|gSR<|Zm Z<|Zm Z<|Zq (z5m Z (.own 1100 Z) Z tu22)<|Zq (I.lss Z Z)<|Zj Z (fun h25=>?_) (fun h25=>?_)
      ·refine Zt<|z0w<|z67<|z0w<|gSR<|Zm Z<|Zm Z<|z0o fun x26 h27=>Zq (ixO 1100 Z Z Z h27 tu22 za6)<|Zq (ld 1100 Z Z (Foc.el h27) zdg Z)<|Zc [] [] Tryz.func15 Z (z99 _) fun r28 n29=>Zq (I.neq Z Z)<|Zj Z (fun h30=>?_) (fun h30=>?_)
       ·refine gSR<|Zb Z<|z0s<|z14<|z3l<|z14<|z6f<|z5z<|Ze [] [1001] Z
       ·refine Zt<|z2d<|Zm Z<|Zm Z<|Zm Z<|z0o fun x31 h32=>Zq (ixO 1100 Z Z Z h32 tu22 za6)<|Zq (ld 1100 Z Z (Foc.el h32) zdg Z)<|Zc [] [] Tryz.func16 Z (z8n _) fun r33 n34=>Ef Z (lit (R:=aZ) ([r33]:List V3) 1107 (pP Z Z<|pN) Z tu29 z5n Z Z) fun v35=>zed 1107 [75] Z (fS Z<|fN)<|z0o fun x36 h37=>Ef Z (apn 1105 Z Z Z .rd h37 tu29 z5n Z Z Z) fun v38=>Za Z<|z21<|z3o<|z0t<|z2d<|Zm Z<|Zq (I.add Z Z)<|Za Z<|z1u 9 Z fun y39=>z21<|z1x (fun aa ww h=>⟨nvl [v38],Zu h [1100,1105,1001]⟩)
      ·refine z28<|z16<|z15<|z7p (fun aa ww h=>⟨nvl [(n24 0)],Zu h [1100,1105,1001]⟩)
     ·refine gEx fun n40=>z84 (fun (s41:(List V3)) aa ww=>Sta (ctx 157 H [zG1] w) [(3,.rd z08 r1),(4,.val (n12 0)),(6,.rd (z03 aZ) s15.1),(8,.rd (z03 aZ) s41)] [(1100,some ((n12 0),.list z04 43 r11.1)),zG1] aa ww) ?_ (fun s41=>?_)
      ·refine gSR<|Zb Z<|zxd 1103 [8] Z (fS Z<|fN)<|z27 (fun (s42:(List V3) × Int) aa ww=>Sta (ctx 157 H [zG1] w) [(0,.rd (z03 z04) a0),(3,.rd z08 r1),(4,.val (n12 0)),(6,.rd (z03 aZ) s15.1),(8,.rd (z03 aZ) s42.1),(10,.rd z0j s42.2)] [(1100,some ((n12 0),.list z04 43 r11.1)),zG1] aa ww) (fun aa ww h=>Zu h [1100,1001]) (fun s42=>?_)
       refine z0w<|gSR<|Zm Z<|Zm Z<|Zq (z5m Z .rd Z tu22)<|Zq (I.lss Z Z)<|Zj Z (fun h43=>?_) (fun h43=>?_)
       ·refine Zt<|z0w<|z67<|gSR<|Zm Z<|Zm Z<|Zm Z<|z0o fun x44 h45=>Zq (ixR Z Z h45 tu22 za6 Z)<|Zq (ldR Z zdg)<|Zc [] [] Tryz.func16 Z (z8n _) fun r46 n47=>Zc [] [] Tryz.func17 Z (z5s _ _) fun r48 n49=>Zq (I.lss Z Z)<|Zj Z (fun h50=>?_) (fun h50=>?_)
        ·refine gSR<|Zb Z<|z0s<|z3l<|z14<|z6f<|z5z<|Ze [] [1001] Z
        ·refine z31<|z3o<|z0t<|z2d<|Zm Z<|Zq (I.add Z Z)<|Za Z<|z1u 10 Z fun y51=>z21<|z1x (fun aa ww h=>Zu h [1100,1001])
       ·refine z28<|z16<|z15<|z7p (fun aa ww h=>Zu h [1100,1001])
      ·refine z84 (fun (s52:Unit) aa ww=>Sta (ctx 157 H [zG1] w) [(3,.rd z08 r1)] [zG1] aa ww) ?_ (fun s52=>?_)
       ·refine gSR<|Zb Z<|z27 (fun (s53:Int) aa ww=>Sta (ctx 157 H [zG1] w) [(3,.rd z08 r1),(4,.val (n12 0)),(6,.rd (z03 aZ) s15.1),(8,.rd (z03 aZ) s41),(11,.rd z0j s53)] [(1100,some ((n12 0),.list z04 43 r11.1)),zG1] aa ww) (fun aa ww h=>Zu h [1100,1001]) (fun s53=>?_)
        refine z0w<|gSR<|Zm Z<|Zm Z<|Zq (z5m Z (.own 1100 Z) Z tu22)<|Zq (I.lss Z Z)<|Zj Z (fun h54=>?_) (fun h54=>?_)
        ·refine Zt<|z84 (fun (s55:Unit) aa ww=>Sta (ctx 157 H [zG1] w) [(3,.rd z08 r1),(4,.val (n12 0)),(6,.rd (z03 aZ) s15.1),(8,.rd (z03 aZ) s41),(11,.rd z0j s53)] [(1100,some ((n12 0),.list z04 43 r11.1)),zG1] aa ww) ?_ (fun s55=>?_)
         ·refine z67<|gSR<|Zb Z<|z84 (fun (s56:Int) aa ww=>Sta (ctx 157 H [zG1] w) [(3,.rd z08 r1),(4,.val (n12 0)),(6,.rd (z03 aZ) s15.1),(8,.rd (z03 aZ) s41),(11,.rd z0j s53),(12,.rd z0j s56)] [(1100,some ((n12 0),.list z04 43 r11.1)),zG1] aa ww) ?_ (fun s56=>?_)
          ·refine gSR<|Zb Z<|z27 (fun (s57:Int × Int) aa ww=>Sta (ctx 157 H [zG1] w) [(3,.rd z08 r1),(4,.val (n12 0)),(6,.rd (z03 aZ) s15.1),(8,.rd (z03 aZ) s41),(11,.rd z0j s53),(12,.rd z0j s57.1),(13,.rd z0j s57.2)] [(1100,some ((n12 0),.list z04 43 r11.1)),zG1] aa ww) (fun aa ww h=>Zu h [1100,1001]) (fun s57=>?_)
           refine z0w<|gSR<|Zm Z<|Zm Z<|Zm Z<|z0o fun x58 h59=>Zq (ixO 1100 Z Z Z h59 tu22 za6)<|Zq (fa 1100 Z Z zcl (zrg h59) Tryz.underlying43 Z (by exact zdp))<|Zq (ld 1100 Z Z ((Foc.el h59).part (z0q _)) zee Z)<|Zq (z5m Z .rd Z tu29)<|Zq (I.lss Z Z)<|Zj Z (fun h60=>?_) (fun h60=>?_)
           ·refine Zt<|z0w<|z67<|gSR<|Zm Z<|Zm Z<|Zm Z<|z0o fun x61 h62=>Zq (ixO 1100 Z Z Z h62 tu22 za6)<|Zq (fa 1100 Z Z zcl (zrg h62) Tryz.underlying43 Z (by exact zdp))<|Zq (ld 1100 Z Z ((Foc.el h62).part (z0q _)) zee Z)<|Zm Z<|z0o fun x63 h64=>Zq (ixR Z Z h64 tu29 z5n Z)<|Zq (ldR Z z8v)<|Zc [] [] Tryz.func17 Z (z5s _ _) fun r65 n66=>Zb Z<|z0w<|gSR<|Zm Z<|Zm Z<|Zq (I.geq Z Z)<|Zm Z<|z1z 120 Z (fun h67=>?_) (fun h67=>?_)
            ·refine lKn 119 Z h67<|Zk Z<|Zk Z<|Zk Z<|Zk Z<|Zk Z<|Zk Z<|Zk Z<|Zk Z<|Zk Z<|Zk Z<|Zk Z<|Zk Z<|Zk Z<|Zk Z<|Zq (pkT Z Z)<|Zn<|zeh Z<|gSR<|Zb Z<|z0s<|z14<|z3l<|z14<|z6f<|z5z<|z3l<|z5z<|z6f<|z5z<|Ze [] [1001] Z
            ·refine lKn 119 Z h67<|z1q Zx Z Z (mv Z)<|z1q Zx Z Z (I.lss Z Z)<|z1q Zx Z Z (mv Z)<|z1q Zx Z Z (mv Z)<|z1q Zx Z Z (mv Z)<|z0o fun x68 h69=>z1q Zx Z Z (ixO 1100 Z Z Z h69 tu22 za6)<|z1q Zx Z Z (fa 1100 Z Z zcl (zrg h69) Tryz.underlying43 Z (by exact zdp))<|z1q Zx Z Z (ld 1100 Z Z ((Foc.el h69).part (z0q _)) zee Z)<|z1q Zx Z Z (mv Z)<|z0o fun x70 h71=>z1q Zx Z Z (ixR Z Z h71 tu29 z5n Z)<|z1q Zx Z Z (ldR Z z8v)<|zb0 [] [] Zx Z Tryz.func17 Z Z (z5s _ _) (Y2 Z Z) rN fun r72 n73=>z1q Zx Z Z (I.geq Z Z)<|z1q Zx Z Z (neB Tryz.underlying4 Z Z)<|Zq (pkF Z Z)<|Zj Z (fun h74=>?_) (fun h74=>?_)
             ·refine gKn 134 Z h74<|gSR<|Zb Z<|z0s<|z14<|z3l<|z14<|z6f<|z5z<|z3l<|z5z<|z6f<|z5z<|Ze [] [1001] Z
             ·refine gKn 134 Z h74<|Zt<|z2d<|Zm Z<|Zm Z<|Zq (I.max Z Z)<|Za Z<|z1u 12 Z fun y75=>z21<|z3o<|z0t<|z2d<|Zm Z<|Zq (I.add Z Z)<|Za Z<|z1u 13 Z fun y76=>z21<|z1x (fun aa ww h=>Zu h [1100,1001])
           ·refine z28<|z16<|z15<|z7p (fun aa ww h=>Zu h [1100,1001])
          ·refine gSR<|Zm Z<|Zq (I.add Z Z)<|Za Z<|z1u 15 Z fun y77=>Zn<|z27 (fun (s78:Int) aa ww=>Sta (ctx 157 H [zG1] w) [(3,.rd z08 r1),(4,.val (n12 0)),(6,.rd (z03 aZ) s15.1),(8,.rd (z03 aZ) s41),(11,.rd z0j s53),(15,.rd z0j s78)] [(1100,some ((n12 0),.list z04 43 r11.1)),zG1] aa ww) (fun aa ww h=>Zu h [1100,1001]) (fun s78=>?_)
           refine z0w<|gSR<|Zm Z<|Zm Z<|Zq (I.lss Z Z)<|Zj Z (fun h79=>?_) (fun h79=>?_)
           ·refine Zt<|z0w<|z67<|z0w<|z9c [] mixed Z Z<|hTk 0 Z Z (mv Z)<|hTk 1 Z Z (mv Z)<|z5i fun x80 h81=>hTk 2 Z Z (ixR Z Z h81 tu29 z5n Z)<|hTk 3 Z Z (ldR Z z8v)<|hTk 4 Z Z (mv Z)<|hTk 5 Z Z (mv Z)<|z5i fun x82 h83=>hTk 6 Z Z (ixR Z Z h83 tu29 z5n Z)<|hTk 7 Z Z (ldR Z z8v)<|z5e 8 [] [] Z (by kernel_rfl) Z (gd0 Z) Z Tryz.func18 Z Z (z6m _ _) (Y2 Z Z) rN Z (fun _ _=>z43) fun r84 n85=>hTk 9 Z Z (I.gtr Z Z)<|z6z (by kernel_rfl)<|z0t<|gIf Z Z (fun h86=>?_) (fun h86=>?_)
            ·refine gSR<|Zb Z<|z0s<|z3l<|z14<|z6f<|z3l<|z5z<|z6f<|z5z<|Ze [] [1001] Z
            ·refine z31<|z3o<|z0t<|z2d<|Zm Z<|Zq (I.add Z Z)<|Za Z<|z1u 15 Z fun y87=>z21<|z1x (fun aa ww h=>Zu h [1100,1001])
           ·refine z28<|z16<|z15<|z3o<|z7p (fun aa ww h=>Zu h [1100,1001])
         ·refine z2d<|Zm Z<|Zq (I.add Z Z)<|Za Z<|z1u 11 Z fun y88=>z21<|z1x (fun aa ww h=>Zu h [1100,1001])
        ·refine z28<|z16<|z15<|z7p (fun aa ww h=>Zu h [1001])
       ·refine gSR<|Zm Z<|Zb Z<|z0s<|Ze [] [1001] Z
def z4n (a0:List z01) (s5:(List V3) × Int):Option (Sum ((List V3)) ((List V3) × Int)) :=
 if decide (s5.2<(a0.length:Int)) then
  idx a0 s5.2 >>= fun x8 =>
  app 32 s5.1 x8.Preds >>= fun x10 =>
  some (w64 (s5.2+1)) >>= fun y13 =>
  some (.inr (x10,y13))
 else
  some (.inl s5.1)
def z4o (a0:List z01):Option ((List V3) × Int) :=
 z5x a0 >>= fun r1 =>
 if r1 != 0 then
  some ([],r1)
 else
  (iter (z4n a0) ([],0)) >>= fun s4 =>
  z5y a0 >>= fun r15 =>
  z8a r15 s4 >>= fun r17 =>
  some (r17,0)
end
section
open Go
section
variable {α:Type}
theorem zbz {l:List α} {i:Nat} (d:α) (h:i<l.length):idx l (i:Int)=some (l.getD i d):=by rw [z0g h]; simp [h]
theorem zsg {n:Nat} {v:Vector α n} {i:Int}:z5g v i=idx v.toList i:=rfl
theorem zs7 {n:Nat} {v:Vector α n} {i:Nat} {x:α}:(zcf v (i:Int) x).toList=v.toList.set i x:=by
 unfold zcf; simp
theorem zq7 {l:List α} {i j:Nat} {x d:α} (h:i<l.length):(l.set i x).getD j d=if i=j then x else l.getD j d:=by
 simp only [List.getD_eq_getElem?_getD,List.getElem?_set]
 by_cases e:i=j
 ·subst e; simp [h]
 ·simp [e]
theorem zpk {l:List α} {n i:Nat} {d:α} (h:i<n):(l.take n).getD i d=l.getD i d:=by
 simp [List.getD_eq_getElem?_getD,List.getElem?_take,h]
theorem zh2 {l:List α} {n:Nat} {x:α} (h:n<l.length):(l.set n x).take (n+1)=l.take n++[x]:=by
 rw [List.take_add_one,List.getElem?_set_self h,List.take_set_of_le (Nat.le_refl _)]; rfl
end
theorem zju (a:UInt32) (n:Nat):(zht a n).toNat=a.toNat * 2 ^ (min n 32) % 4294967296:=by unfold zht; simp
theorem zjs (a:UInt32) (n:Nat):(z4j a n).toNat=a.toNat / 2 ^ (min n 32):=by
 unfold z4j
 have h1:=UInt32.toNat_lt a
 have h2:a.toNat / 2 ^ (min n 32)≤a.toNat:=Nat.div_le_self _ _
 simp; omega
def tr (x:UInt32) (n:Nat):UInt32:=z4j x n ||| zht x (32 - n)
theorem z9t (x:UInt32) (n:Nat) (h:n≤32):z1k x (n:Int)=some (tr x n):=by
 unfold z1k
 rw [z2a (by omega),z0r (by omega) (by omega),z2a (by omega)]
 simp only [bS]
 unfold tr
 rw [show ((32:Int) - (n:Int)).toNat=32 - n by omega,Int.toNat_natCast]
theorem zf0 (x:UInt32) (n:Nat) (h:1≤n) (h2:n≤31):z0z x (-(n:Int))=some (tr x n):=by
 have key:∀ n:Fin 32,1≤n.val→(UInt64.ofInt (-(n.val:Int)) &&& 31)=UInt64.ofNat (32 - n.val):=by decide +kernel
 have k2:∀ n:Fin 32,1≤n.val→(UInt64.ofNat (32 - n.val)).toNat=32 - n.val∧(32 - UInt64.ofNat (32 - n.val)).toNat=n.val:=by decide +kernel
 unfold z0z
 rw [key ⟨n, by omega⟩ h]
 simp only [bS]
 rw [(k2 ⟨n, by omega⟩ h).1,(k2 ⟨n, by omega⟩ h).2]
 unfold tr
 rw [UInt32.or_comm]
theorem zsa (x:UInt32) (a b c:Nat) (ha:1≤a∧a≤31) (hb:1≤b∧b≤31) (hc:1≤c∧c≤31):za3 x (a:Int) (b:Int) (c:Int)=some ((tr x a ^^^ tr x b) ^^^ tr x c):=by
 unfold za3
 rw [z0r (by omega) (by omega),z0r (by omega) (by omega),z0r (by omega) (by omega)]
 rw [show (0:Int) - (a:Int) = -(a:Int) by omega, show (0:Int) - (b:Int) = -(b:Int) by omega, show (0:Int) - (c:Int) = -(c:Int) by omega]
 rw [zf0 x a ha.1 ha.2,zf0 x b hb.1 hb.2,zf0 x c hc.1 hc.2]
 rfl
def sg0 (x:UInt32):UInt32:=(tr x 7 ^^^ tr x 18) ^^^ z4j x 3
def sg1 (x:UInt32):UInt32:=(tr x 17 ^^^ tr x 19) ^^^ z4j x 10
def zq0 (b:List UInt8) (k:Nat):UInt32:=(((b.getD (4 * k) 0).toUInt32 * 256+(b.getD (4 * k+1) 0).toUInt32) * 256+(b.getD (4 * k+2) 0).toUInt32) * 256+(b.getD (4 * k+3) 0).toUInt32
def zk6 (l:List UInt32):List UInt32:=l++[((l.getD (l.length - 16) 0+l.getD (l.length - 7) 0)+sg0 (l.getD (l.length - 15) 0))+sg1 (l.getD (l.length - 2) 0)]
def z4v (b:List UInt8):Nat→List UInt32
 | 0=>(List.range 16).map (zq0 b)
 | n+1=>zk6 (z4v b n)
theorem z9z (b:List UInt8):∀ n,(z4v b n).length=16+n
 | 0=>by simp [z4v]
 | n+1=>by simp [z4v,zk6,z9z b n]; omega
theorem zlu (l:List UInt32) (t:Nat) (h:l.length=t):zk6 l=l++[((l.getD (t - 16) 0+l.getD (t - 7) 0)+sg0 (l.getD (t - 15) 0))+sg1 (l.getD (t - 2) 0)]:=by subst h; rfl
theorem zqp (b:List UInt8) (hb:64≤b.length):iter (z3k b) ([],0)=some (z4v b 0):=by
 refine z3a (F:=z3k b) (b:=z4v b 0) 16 (fun i=>((List.range i).map (zq0 b),(i:Int))) (fun i hi=>?_) ?_
 ·unfold z3k
  rw [if_pos (by simp; omega)]
  simp only []
  rw [z0r (x:=4 * (i:Int)) (by omega) (by omega),z0r (x:=4 * (i:Int)+1) (by omega) (by omega),z0r (x:=4 * (i:Int)+2) (by omega) (by omega),z0r (x:=4 * (i:Int)+3) (by omega) (by omega)]
  rw [show (4 * (i:Int))=((4 * i:Nat):Int) by omega, show (((4 * i:Nat):Int)+1)=((4 * i+1:Nat):Int) by omega, show (((4 * i:Nat):Int)+2)=((4 * i+2:Nat):Int) by omega, show (((4 * i:Nat):Int)+3)=((4 * i+3:Nat):Int) by omega]
  rw [zbz 0 (by omega),zbz 0 (by omega),zbz 0 (by omega),zbz 0 (by omega)]
  simp only [bS]
  rw [z19 (by simp; omega)]
  simp only [bS,z0i (show i<9223372036854775807 by omega)]
  rw [List.range_succ,List.map_append]
  rfl
 ·unfold z3k
  rw [if_neg (by simp)]
  rfl
theorem zrc (b:List UInt8):iter (z3m) (z4v b 0,16)=some (z4v b 48):=by
 refine z3a (F:=z3m) (b:=z4v b 48) 48 (fun i=>(z4v b i,((16+i:Nat):Int))) (fun i hi=>?_) ?_
 ·have hl:=z9z b i
  unfold z3m
  rw [if_pos (by simp; omega)]
  simp only []
  rw [z0r (x:=((16+i:Nat):Int) - 15) (by omega) (by omega),z0r (x:=((16+i:Nat):Int) - 2) (by omega) (by omega),z0r (x:=((16+i:Nat):Int) - 16) (by omega) (by omega),z0r (x:=((16+i:Nat):Int) - 7) (by omega) (by omega)]
  rw [show ((16+i:Nat):Int) - 15=((16+i - 15:Nat):Int) by omega, show ((16+i:Nat):Int) - 2=((16+i - 2:Nat):Int) by omega, show ((16+i:Nat):Int) - 16=((16+i - 16:Nat):Int) by omega, show ((16+i:Nat):Int) - 7=((16+i - 7:Nat):Int) by omega]
  rw [zbz 0 (by omega),zbz 0 (by omega),zbz 0 (by omega),zbz 0 (by omega)]
  simp only [bS]
  rw [show (7:Int)=((7:Nat):Int) from rfl, show (18:Int)=((18:Nat):Int) from rfl, show (17:Int)=((17:Nat):Int) from rfl, show (19:Int)=((19:Nat):Int) from rfl]
  rw [z9t _ 7 (by omega),z9t _ 18 (by omega),z9t _ 17 (by omega),z9t _ 19 (by omega)]
  simp only [bS]
  rw [z19 (by simp; omega)]
  simp only [bS,z0i (show 16+i<9223372036854775807 by omega)]
  rw [show z4v b (i+1)=zk6 (z4v b i) from rfl,zlu _ (16+i) hl]
  rfl
 ·unfold z3m
  rw [if_neg (by simp)]
theorem zwg (x:UInt32) (y:UInt8) (h:x.toNat<16777216):(zht x 8) ||| y.toUInt32=x * 256+y.toUInt32:=by
 apply UInt32.toNat_inj.1
 have hy:=UInt8.toNat_lt y
 rw [UInt32.toNat_or,zju,UInt32.toNat_add,UInt32.toNat_mul]
 have e1:(y.toUInt32).toNat=y.toNat:=by simp
 have e2:(256:UInt32).toNat=256:=rfl
 rw [e1,e2, show (2:Nat) ^ (min 8 32)=256 from rfl,Nat.mod_eq_of_lt (a:=x.toNat * 256) (by omega),Nat.mod_eq_of_lt (a:=x.toNat * 256+y.toNat) (by omega)]
 have:=Nat.shiftLeft_add_eq_or_of_lt (i:=8) (b:=y.toNat) (by simpa using hy) x.toNat
 rw [Nat.shiftLeft_eq, show (2:Nat) ^ 8=256 from rfl] at this
 exact this.symm
def zei (b:List UInt8) (k:Nat):Nat→UInt32
 | 0=>0
 | m+1=>zei b k m * 256+(b.getD (4 * k+m) 0).toUInt32
theorem zlj (b:List UInt8) (k:Nat):∀ m,m≤4→(zei b k m).toNat<256 ^ m
 | 0,_=>by simp [zei]
 | m+1,h=>by
  have ih:=zlj b k m (by omega)
  have hy:=UInt8.toNat_lt (b.getD (4 * k+m) 0)
  have hp:256 ^ m≤256 ^ 3:=Nat.pow_le_pow_right (by omega) (by omega)
  have e3:(256:Nat) ^ 3=16777216:=rfl
  have ep:256 ^ (m+1)=256 ^ m * 256:=Nat.pow_succ ..
  rw [zei,UInt32.toNat_add,UInt32.toNat_mul,ep]
  have e1:((b.getD (4 * k+m) 0).toUInt32).toNat=(b.getD (4 * k+m) 0).toNat:=by simp
  have e2:(256:UInt32).toNat=256:=rfl
  rw [e1,e2,Nat.mod_eq_of_lt (a:=(zei b k m).toNat * 256) (by omega),Nat.mod_eq_of_lt (by omega)]
  omega
theorem zm9 (b:List UInt8) (k:Nat):zei b k 4=zq0 b k:=by
 simp only [zei,zq0,Nat.add_zero]
 simp
theorem zo1 (b:List UInt8) (hb:b.length=64):∃ w,iter (z4r b) (Vector.replicate 64 0,0)=some w∧w.toList.take 16=z4v b 0:=by
 refine z7n (F:=z4r b) 64 (fun i s=>s.2=(i:Int)∧∀ k,k<16→s.1.toList.getD k 0=zei b k (min 4 (i - 4 * k))) (fun w=>w.toList.take 16=z4v b 0) (fun i s hi hs=>?_) (fun s hs=>?_) (Vector.replicate 64 0,0) 0 (by omega) ⟨rfl, fun k hk=>?_⟩
 ·obtain ⟨w,j⟩:=s
  obtain ⟨h1,h2⟩:=hs
  simp only at h1 h2
  subst h1
  have hlw:w.toList.length=64:=by simp
  have hdiv:w64 (Int.tdiv (i:Int) 4)=((i / 4:Nat):Int):=by
   have:Int.tdiv (i:Int) 4=((i / 4:Nat):Int):=by
    rw [Int.tdiv_eq_ediv_of_nonneg (by omega)]; omega
   rw [this,z0r (by omega) (by omega)]
  refine ⟨(zcf w ((i / 4:Nat):Int) (zei b (i / 4) (i % 4+1)),((i+1:Nat):Int)),?_,rfl, fun k hk=>?_⟩
  ·unfold z4r
   rw [if_pos (by simp; omega)]
   simp only [hdiv,zsg]
   rw [zbz 0 (by omega)]
   simp only [bS]
   rw [zbz 0 (by omega)]
   simp only [bS,z0i (show i<9223372036854775807 by omega)]
   rw [h2 (i / 4) (by omega), show min 4 (i - 4 * (i / 4))=i % 4 by omega]
   have hlt:=zlj b (i / 4) (i % 4) (by omega)
   have hp:256 ^ (i % 4)≤256 ^ 3:=Nat.pow_le_pow_right (by omega) (by omega)
   have e3:(256:Nat) ^ 3=16777216:=rfl
   rw [zwg _ _ (by omega)]
   have e4:zei b (i / 4) (i % 4+1)=zei b (i / 4) (i % 4) * 256+(b.getD i 0).toUInt32:=by
    show zei b (i / 4) (i % 4) * 256+(b.getD (4 * (i / 4)+i % 4) 0).toUInt32=_
    rw [show 4 * (i / 4)+i % 4=i by omega]
   rw [e4]
  ·simp only []
   rw [zs7,zq7 (by omega)]
   by_cases hk2:i / 4=k
   ·subst hk2
    rw [if_pos rfl, show min 4 (i+1 - 4 * (i / 4))=i % 4+1 by omega]
   ·rw [if_neg hk2,h2 k hk]
    congr 1; omega
 ·obtain ⟨w,j⟩:=s
  obtain ⟨h1,h2⟩:=hs
  simp only at h1 h2
  subst h1
  have hlw:w.toList.length=64:=by simp
  refine ⟨w,?_,?_⟩
  ·unfold z4r
   rw [if_neg (by simp [hb])]
  ·apply List.ext_getElem
   ·simp [z4v]
   ·intro k k1 k2
    have hk:k<16:=by simp [z4v] at k2; exact k2
    have:=h2 k hk
    rw [show min 4 (64 - 4 * k)=4 by omega,zm9] at this
    have e:w.toList.getD k 0=w.toList[k]'(by omega):=by rw [List.getD_eq_getElem?_getD,List.getElem?_eq_getElem (by omega)]; rfl
    rw [e] at this
    simp only [List.getElem_take,this,z4v,List.getElem_map,List.getElem_range]
 ·show (Vector.replicate 64 (0:UInt32)).toList.getD k 0=_
  rw [show min 4 (0 - 4 * k)=0 by omega,Vector.toList_replicate,List.getD_eq_getElem?_getD,List.getElem?_replicate,if_pos (by omega)]
  rfl
theorem zmu (v:Vector UInt32 64) (t:Nat) (h1:16≤t) (h2:t<64) (p q r s u:UInt32) (e1:z5g v ((t - 15:Nat):Int)=some p) (e2:z5g v ((t - 2:Nat):Int)=some q) (e3:z5g v ((t - 16:Nat):Int)=some r) (e4:z5g v ((t - 7:Nat):Int)=some s) (e5:z5g v (t:Int)=some u) :
  z3b (v,(t:Int))=some (.inr (zcf v (t:Int) (((r+s)+sg0 p)+sg1 q),((t+1:Nat):Int))):=by
 have r1:=zf0 p 7 (by omega) (by omega)
 have r2:=zf0 p 18 (by omega) (by omega)
 have r3:=zf0 q 17 (by omega) (by omega)
 have r4:=zf0 q 19 (by omega) (by omega)
 have hw:=z0i (show t<9223372036854775807 by omega)
 have hd:decide ((t:Int)<64)=true:=by simp; omega
 have w1:w64 ((t:Int) - 15)=((t - 15:Nat):Int):=by rw [z0r (by omega) (by omega)]; omega
 have w2:w64 ((t:Int) - 2)=((t - 2:Nat):Int):=by rw [z0r (by omega) (by omega)]; omega
 have w3:w64 ((t:Int) - 16)=((t - 16:Nat):Int):=by rw [z0r (by omega) (by omega)]; omega
 have w4:w64 ((t:Int) - 7)=((t - 7:Nat):Int):=by rw [z0r (by omega) (by omega)]; omega
 unfold z3b
 rw [if_pos hd]
 simp only []
 rw [w1,w2,w3,w4,hw,e1,e2,e3,e4,e5]
 simp only [bS]
 rw [show (-7:Int) = -((7:Nat):Int) from rfl, show (-18:Int) = -((18:Nat):Int) from rfl, show (-17:Int) = -((17:Nat):Int) from rfl, show (-19:Int) = -((19:Nat):Int) from rfl,r1,r2,r3,r4]
 simp only [bS]
 rfl
theorem zn8 (b:List UInt8) (w:Vector UInt32 64) (hw:w.toList.take 16=z4v b 0):∃ v,iter (z3b) (w,16)=some v∧v.toList=z4v b 48:=by
 refine z7n (F:=z3b) 48 (fun i s=>s.2=((16+i:Nat):Int)∧s.1.toList.take (16+i)=z4v b i) (fun v=>v.toList=z4v b 48) (fun i s hi hs=>?_) (fun s hs=>?_) (w,16) 0 (by omega) ⟨rfl,hw⟩
 ·obtain ⟨w,j⟩:=s
  obtain ⟨h1,h2⟩:=hs
  simp only at h1 h2
  subst h1
  have hlw:w.toList.length=64:=by simp
  have hl:=z9z b i
  have hg:∀ k,k<16+i→w.toList.getD k 0=(z4v b i).getD k 0:=fun k hk=>by rw [← h2,zpk hk]
  have hv:∀ k,k<16+i→z5g w (k:Int)=some ((z4v b i).getD k 0):=fun k hk=>by rw [zsg,zbz 0 (by omega),hg k hk]
  refine ⟨_,zmu w (16+i) (by omega) (by omega) _ _ _ _ _ (hv _ (by omega)) (hv _ (by omega)) (hv _ (by omega)) (hv _ (by omega)) (z65 (by omega)),rfl,?_⟩
  simp only []
  rw [zs7, show 16+(i+1)=16+i+1 by omega,zh2 (by omega),h2, show z4v b (i+1)=zk6 (z4v b i) from rfl,zlu _ (16+i) hl]
 ·obtain ⟨w,j⟩:=s
  obtain ⟨h1,h2⟩:=hs
  simp only at h1 h2
  subst h1
  refine ⟨w,?_,?_⟩
  ·unfold z3b
   rw [if_neg (by simp)]
  ·rw [← h2,List.take_of_length_le (by simp)]
abbrev O8:=UInt32 × UInt32 × UInt32 × UInt32 × UInt32 × UInt32 × UInt32 × UInt32
def toV (s:O8):Vector UInt32 8:=#v[s.1,s.2.1,s.2.2.1,s.2.2.2.1,s.2.2.2.2.1,s.2.2.2.2.2.1,s.2.2.2.2.2.2.1,s.2.2.2.2.2.2.2]
def ofV (h:Vector UInt32 8):O8:=(h[0],h[1],h[2],h[3],h[4],h[5],h[6],h[7])
theorem zt8 (h:Vector UInt32 8):toV (ofV h)=h:=by
 apply Vector.ext
 intro i hi
 unfold toV ofV
 match i,hi with
 | 0,_=>rfl
 | 1,_=>rfl
 | 2,_=>rfl
 | 3,_=>rfl
 | 4,_=>rfl
 | 5,_=>rfl
 | 6,_=>rfl
 | 7,_=>rfl
def zu7 (k w:UInt32) (s:O8):UInt32:=(((s.2.2.2.2.2.2.2+((tr s.2.2.2.2.1 6 ^^^ tr s.2.2.2.2.1 11) ^^^ tr s.2.2.2.2.1 25))+((s.2.2.2.2.1 &&& s.2.2.2.2.2.1) ^^^ ((~~~s.2.2.2.2.1) &&& s.2.2.2.2.2.2.1)))+k)+w
def zx4 (s:O8):UInt32:=((tr s.1 2 ^^^ tr s.1 13) ^^^ tr s.1 22)+(((s.1 &&& s.2.1) ^^^ (s.1 &&& s.2.2.1)) ^^^ (s.2.1 &&& s.2.2.1))
def rnd (k w:UInt32) (s:O8):O8:=(zu7 k w s+zx4 s,s.1,s.2.1,s.2.2.1,s.2.2.2.1+zu7 k w s,s.2.2.2.2.1,s.2.2.2.2.2.1,s.2.2.2.2.2.2.1)
def zlp (K W:List UInt32) (s:O8):Nat→O8
 | 0=>s
 | n+1=>rnd (K.getD n 0) (W.getD n 0) (zlp K W s n)
theorem zns:z6x=some z72.toList:=rfl
theorem zho:z72.toList.length=64:=by simp
theorem zpg (w:Vector UInt32 64) (a b c d e f g z:UInt32) (i:Nat) (hi:i<64) (k u:UInt32) (hk:z5g z72 (i:Int)=some k) (hu:z5g w (i:Int)=some u) :
  z3u w (a,b,c,d,e,f,g,z,(i:Int))=some (.inr (zu7 k u (a,b,c,d,e,f,g,z)+zx4 (a,b,c,d,e,f,g,z),a,b,c,d+zu7 k u (a,b,c,d,e,f,g,z),e,f,g,((i+1:Nat):Int))):=by
 have m1:=zsa e 6 11 25 (by omega) (by omega) (by omega)
 have m2:=zsa a 2 13 22 (by omega) (by omega) (by omega)
 have hw:=z0i (show i<9223372036854775807 by omega)
 have hd:decide ((i:Int)<64)=true:=by simp; omega
 unfold z3u
 rw [if_pos hd]
 simp only []
 rw [hk,hu,hw]
 simp only [bS]
 rw [show (6:Int)=((6:Nat):Int) from rfl, show (11:Int)=((11:Nat):Int) from rfl, show (25:Int)=((25:Nat):Int) from rfl, show (2:Int)=((2:Nat):Int) from rfl, show (13:Int)=((13:Nat):Int) from rfl, show (22:Int)=((22:Nat):Int) from rfl,m1,m2]
 simp only [bS]
 rfl
theorem zq8 (K W:List UInt32) (a b c d e f g z:UInt32) (i:Nat) (hi:i<64) (k u:UInt32) (hk:idx K (i:Int)=some k) (hu:idx W (i:Int)=some u) :
  z26 W K (#v[a,b,c,d,e,f,g,z],(i:Int))=some (.inr (#v[zu7 k u (a,b,c,d,e,f,g,z)+zx4 (a,b,c,d,e,f,g,z),a,b,c,d+zu7 k u (a,b,c,d,e,f,g,z),e,f,g],((i+1:Nat):Int))):=by
 have t1:=z9t e 6 (by omega)
 have t2:=z9t e 11 (by omega)
 have t3:=z9t e 25 (by omega)
 have t4:=z9t a 2 (by omega)
 have t5:=z9t a 13 (by omega)
 have t6:=z9t a 22 (by omega)
 have hw:=z0i (show i<9223372036854775807 by omega)
 have hd:decide ((i:Int)<64)=true:=by simp; omega
 have v0:z5g #v[a,b,c,d,e,f,g,z] 0=some a:=rfl
 have v1:z5g #v[a,b,c,d,e,f,g,z] 1=some b:=rfl
 have v2:z5g #v[a,b,c,d,e,f,g,z] 2=some c:=rfl
 have v3:z5g #v[a,b,c,d,e,f,g,z] 3=some d:=rfl
 have v4:z5g #v[a,b,c,d,e,f,g,z] 4=some e:=rfl
 have v5:z5g #v[a,b,c,d,e,f,g,z] 5=some f:=rfl
 have v6:z5g #v[a,b,c,d,e,f,g,z] 6=some g:=rfl
 have v7:z5g #v[a,b,c,d,e,f,g,z] 7=some z:=rfl
 unfold z26
 rw [if_pos hd]
 simp only []
 rw [v0,v1,v2,v3,v4,v5,v6,v7,hk,hu,hw]
 simp only [bS]
 rw [show (6:Int)=((6:Nat):Int) from rfl, show (11:Int)=((11:Nat):Int) from rfl, show (25:Int)=((25:Nat):Int) from rfl, show (2:Int)=((2:Nat):Int) from rfl, show (13:Int)=((13:Nat):Int) from rfl, show (22:Int)=((22:Nat):Int) from rfl,t1,t2,t3,t4,t5,t6]
 simp only [bS]
 rfl
def zmj (s:O8) (i:Int):UInt32 × UInt32 × UInt32 × UInt32 × UInt32 × UInt32 × UInt32 × UInt32 × Int:=match s with
 | (a,b,c,d,e,f,g,z)=>(a,b,c,d,e,f,g,z,i)
theorem zmf (w:Vector UInt32 64) (s:O8) (i:Nat) (hi:i<64):z3u w (zmj s (i:Int))=some (.inr (zmj (rnd (z72.toList.getD i 0) (w.toList.getD i 0) s) ((i+1:Nat):Int))):=by
 obtain ⟨a,b,c,d,e,f,g,z⟩:=s
 exact zpg w a b c d e f g z i hi _ _ (zbz 0 (by rw [zho]; exact hi)) (zbz 0 (by simp; exact hi))
theorem zmd (w:Vector UInt32 64) (s:O8):iter (z3u w) (zmj s 0)=some (zlp z72.toList w.toList s 64):=by
 refine z3a (F:=z3u w) (b:=zlp z72.toList w.toList s 64) 64 (fun i=>zmj (zlp z72.toList w.toList s i) (i:Int)) (fun i hi=>zmf w _ i hi) ?_
 generalize zlp z72.toList w.toList s 64=q
 obtain ⟨a,b,c,d,e,f,g,z⟩:=q
 unfold zmj z3u
 rw [if_neg (by simp)]
theorem zot (K W:List UInt32) (hk:K.length=64) (hW:W.length=64) (s:O8) (i:Nat) (hi:i<64):z26 W K (toV s,(i:Int))=some (.inr (toV (rnd (K.getD i 0) (W.getD i 0) s),((i+1:Nat):Int))):=by
 obtain ⟨a,b,c,d,e,f,g,z⟩:=s
 exact zq8 K W a b c d e f g z i hi _ _ (zbz 0 (by omega)) (zbz 0 (by omega))
theorem zou (K W:List UInt32) (hk:K.length=64) (hW:W.length=64) (s:O8):iter (z26 W K) (toV s,0)=some (toV (zlp K W s 64)):=by
 refine z3a (F:=z26 W K) (b:=toV (zlp K W s 64)) 64 (fun i=>(toV (zlp K W s i),(i:Int))) (fun i hi=>zot K W hk hW _ i hi) ?_
 generalize toV (zlp K W s 64)=q
 unfold z26
 rw [if_neg (by simp)]
theorem zt5 (s:O8):z9b s=z11 (toV s):=by
 funext x
 obtain ⟨h,i⟩:=x
 unfold z9b z11
 simp only [bS]
 show (if decide (i<8)=true then z5g (toV s) i >>= _ else _)=_
 split
 ·cases h1:z5g (toV s) i <;> cases h2:z5g h i <;> rfl
 ·rfl
def zuu (h v:Vector UInt32 8):Vector UInt32 8:=(iter (z11 v) (h,0)).getD h
theorem zpl (h v:Vector UInt32 8):iter (z11 v) (h,0)=some (zuu h v):=by
 obtain ⟨r,h1,-⟩:=z7n (F:=z11 v) 8 (fun i s=>s.2=(i:Int)) (fun _=>True) (fun i s hi hs=>by
  obtain ⟨u,j⟩:=s
  simp only at hs
  subst hs
  unfold z11
  rw [if_pos (by simp; omega)]
  rw [z65 (show i<8 by omega),z65 (show i<8 by omega)]
  simp only [bS,z0i (show i<9223372036854775807 by omega)]
  exact ⟨_,rfl,rfl⟩) (fun s hs=>by
  obtain ⟨u,j⟩:=s
  simp only at hs
  subst hs
  unfold z11
  rw [if_neg (by simp)]
  exact ⟨_,rfl,trivial⟩) (h,0) 0 (by omega) rfl
 unfold zuu
 rw [h1]; rfl
def gr (h:Vector UInt32 8) (b:List UInt8):Vector UInt32 8:=zuu h (toV (zlp z72.toList (z4v b 48) (ofV h) 64))
theorem zv3 (h:Vector UInt32 8) (b:List UInt8) (hb:b.length=64):z6l h b=some (gr h b):=by
 unfold z6l
 rw [zqp b (by omega)]
 simp only [bS]
 rw [zrc b]
 simp only [bS,zns]
 have:=zou z72.toList (z4v b 48) zho (by rw [z9z]) (ofV h)
 rw [zt8] at this
 rw [this]
 simp only [bS]
 rw [zpl]
 rfl
theorem ztw (h:Vector UInt32 8) (b:List UInt8) (hb:64≤b.length):z9j h b=some (gr h (b.take 64)):=by
 unfold z9j z98
 rw [show (64:Int)=((64:Nat):Int) from rfl, show (0:Int)=((0:Nat):Int) from rfl,zd9 (by omega) hb]
 simp only [bS,List.drop_zero,Nat.sub_zero]
 obtain ⟨w,h1,h2⟩:=zo1 (b.take 64) (by simp; omega)
 rw [show ((0:Nat):Int)=0 from rfl,h1]
 simp only [bS]
 obtain ⟨v,h3,h4⟩:=zn8 (b.take 64) w h2
 rw [h3]
 simp only [bS]
 have hv:∀ i:Nat,(hi:i<8)→z5g h (i:Int)=some h[i]:=fun i hi=>z65 hi
 rw [show z5g h 0=some h[0] from hv 0 (by omega), show z5g h 1=some h[1] from hv 1 (by omega), show z5g h 2=some h[2] from hv 2 (by omega), show z5g h 3=some h[3] from hv 3 (by omega), show z5g h 4=some h[4] from hv 4 (by omega), show z5g h 5=some h[5] from hv 5 (by omega), show z5g h 6=some h[6] from hv 6 (by omega), show z5g h 7=some h[7] from hv 7 (by omega)]
 simp only [bS]
 have:=zmd v (ofV h)
 rw [show (h[0],h[1],h[2],h[3],h[4],h[5],h[6],h[7],(0:Int))=zmj (ofV h) 0 from rfl,this]
 simp only [bS]
 rw [zt5,h4,zpl]
 rfl
end
end Go.Proofs.YtojceajkeefnpaaGreatDoor
