import Derived.Test.YtcneilabmjkdlabGreatDoorUc
set_option linter.unusedSimpArgs false
set_option linter.unusedVariables false
namespace Go.Proofs.YtcneilabmjkdlabGreatDoor
section
open Go Go.RowKit
set_option maxRecDepth 100000
def zek (a0:UInt32):Option (Int) :=
 if decide (500000002≤(a0 - 1)) then
  some 2
 else
  some 0
theorem ziw (a0:UInt32):z1u Tryz.prog 107 [.rd z0p a0] [] (zek a0) (fun r nv=>⟨[.rd z08 r],[]⟩):=by
 refine z2f 6 Tryz.func107 Z Z Z fun H w=>?_;refine gSR<|Zb Z<|z0q<|gSR<|Zm Z<|Zq (W.sub Z Z)<|Zq (W.geq Z Z)<|Zj Z (fun h1=>?_) (fun h1=>?_)
 ·refine gSR<|Zb Z<|z0k<|z0v<|Ze [] [] Z
 ·refine Zt<|gSR<|Zb Z<|z0k<|Ze [] [] Z
def zd8 (a0:UInt32):Option (UInt32 × Int) :=
 zek a0 >>= fun r1 =>
 if r1 != 0 then
  some (0,r1)
 else
  zb6 a0.toUInt64 >>= fun r4 =>
  some (r4,0)
theorem zhj (a0:UInt32):z1u Tryz.prog 59 [.rd z0p a0] [] (zd8 a0) (fun r nv=>⟨[.rd z0p r.1,.rd z08 r.2],[]⟩):=by
 refine z2f 13 Tryz.func59 Z Z Z fun H w=>?_;refine gSR<|Za Z<|Zb Z<|z0q<|gSR<|Zm Z<|Zc [] [] Tryz.func107 Z (ziw _) fun r1 n2=>Zb Z<|gSR<|Zm Z<|Zq (I.neq Z Z)<|Zj Z (fun h3=>?_) (fun h3=>?_)
 ·refine gSR<|Zm Z<|Za Z<|Zb Z<|z0k<|z0v<|Ze [] [] Z
 ·refine Zt<|gSR<|Zm Z<|Zq (W.toU Z tu63 tu44)<|Zc [] [] Tryz.func108 Z (zet _) fun r4 n5=>Za Z<|Zb Z<|z0k<|Ze [] [] Z
def zh0 (a0:UInt32) (a1:List UInt8):Option (UInt32 × Int) :=
 zek a0 >>= fun r1 =>
 if r1 != 0 then
  some (0,r1)
 else
  zcy 110 a1 [a0] >>= fun r5 =>
  if r5.2 != 0 then
   some (0,r5.2)
  else
   some (((r5.1 % 500000002).toUInt32)+1) >>= fun y8 =>
   some (y8,0)
theorem zp6 (a0:UInt32) (a1:List UInt8):z1u Tryz.prog 114 [.rd z0p a0,.rd (z03 u8R) a1] [zG1] (zh0 a0 a1) (fun r nv=>⟨[.rd z0p r.1,.rd z08 r.2],[(1001,some (.bool true,.glob 1 (z3m 64 z0p) z5i))]⟩):=by
 refine z2f 28 Tryz.func114 Z Z Z fun H w=>?_;refine gSR<|Za Z<|Zb Z<|z0q<|gSR<|Zm Z<|Zc [] [] Tryz.func107 Z (ziw _) fun r1 n2=>Zb Z<|gSR<|Zm Z<|Zq (I.neq Z Z)<|Zj Z (fun h3=>?_) (fun h3=>?_)
 ·refine gSR<|Zm Z<|Za Z<|Zb Z<|z0k<|z0v<|Ze [] [1001] Z
 ·refine Zt<|gSR<|Zm Z<|Zm Z<|Ef Z (lit (R:=z0p) ([a0]:List UInt32) 1 (pP Z Z<|pN) Z tu232 z60 Z Z) fun v4=>zl7 1 [17] Z (fS Z<|fN)<|Zc [1001] [] Tryz.func167 Z (zkt _ _ _) fun r5 n6=>Zm Z<|Zq (ext Z Z)<|Zq (ext Z Z)<|Za Z<|Zb Z<|z0q<|gSR<|Zm Z<|Zq (I.neq Z Z)<|Zj Z (fun h7=>?_) (fun h7=>?_)
  ·refine gSR<|Zm Z<|Za Z<|Zb Z<|z0k<|z0v<|Ze [] [1001] Z
  ·refine Zt<|gSR<|Zm Z<|Zq (U.rem Z Z (by decide))<|Zq (U.toW Z tu44 tu63)<|Zq (W.add Z Z)<|Za Z<|z27 4 Z fun y8=>Zb Z<|z0k<|Ze [] [1001] Z
def zf5 (a0:UInt32) (a1:UInt32):Option (UInt32 × Int) :=
 if decide (500000003≤(max a0 a1)) then
  some (0,2)
 else
  zah 500000003 [a0,a1] >>= fun r3 =>
  some (r3,0)
theorem zne (a0:UInt32) (a1:UInt32):z1u Tryz.prog 116 [.rd z0p a0,.rd z0p a1] [] (zf5 a0 a1) (fun r nv=>⟨[.rd z0p r.1,.rd z08 r.2],[]⟩):=by
 refine z2f 14 Tryz.func116 Z Z Z fun H w=>?_;refine gSR<|Za Z<|Zb Z<|z0q<|gSR<|Zm Z<|Zm Z<|Zq (W.max Z Z)<|Zq (W.geq Z Z)<|Zj Z (fun h1=>?_) (fun h1=>?_)
 ·refine gSR<|Za Z<|Zb Z<|z0k<|z0v<|Ze [] [] Z
 ·refine Zt<|gSR<|Zm Z<|Zm Z<|Ef Z (lit (R:=z0p) ([a0,a1]:List UInt32) 1 (pP Z Z<|pP Z Z<|pN) Z tu232 z60 Z Z) fun v2=>zl7 1 [12] Z (fS Z<|fN)<|Zc [] [] Tryz.func168 Z (zdg _ _) fun r3 n4=>Za Z<|Zb Z<|z0k<|Ze [] [] Z
def zgl (a0:UInt32) (a1:UInt32):Option (UInt32 × Int) :=
 if decide (500000003≤(max a0 a1)) then
  some (0,2)
 else
  some ((a0+a1) % 500000003) >>= fun y2 =>
  some (y2,0)
theorem zoc (a0:UInt32) (a1:UInt32):z1u Tryz.prog 117 [.rd z0p a0,.rd z0p a1] [] (zgl a0 a1) (fun r nv=>⟨[.rd z0p r.1,.rd z08 r.2],[]⟩):=by
 refine z2f 14 Tryz.func117 Z Z Z fun H w=>?_;refine gSR<|Za Z<|Zb Z<|z0q<|gSR<|Zm Z<|Zm Z<|Zq (W.max Z Z)<|Zq (W.geq Z Z)<|Zj Z (fun h1=>?_) (fun h1=>?_)
 ·refine gSR<|Za Z<|Zb Z<|z0k<|z0v<|Ze [] [] Z
 ·refine Zt<|gSR<|Zm Z<|Zm Z<|Zq (W.add Z Z)<|Zq (W.rem Z Z (by decide))<|Za Z<|z27 4 Z fun y2=>Zb Z<|z0k<|Ze [] [] Z
def zjo (a0:UInt32) (a1:List UInt8):Option (z0c × Int) :=
 zh0 a0 a1 >>= fun r2 =>
 if r2.2 != 0 then
  some ((⟨0,0⟩:z0c),r2.2)
 else
  zd8 a0 >>= fun r5 =>
  zb6 r2.1.toUInt64 >>= fun r7 =>
  z9o r7 r5.1 a1 >>= fun r9 =>
  zf5 r9.1 a0 >>= fun r11 =>
  zgl r2.1 r11.1 >>= fun r13 =>
  some ((⟨r9.1,r13.1⟩:z0c),0)
theorem zru (a0:UInt32) (a1:List UInt8):z1u Tryz.prog 62 [.rd z0p a0,.rd (z03 u8R) a1] [zG1] (zjo a0 a1) (fun r nv=>⟨[.rd z0r r.1,.rd z08 r.2],[(1001,some (.bool true,.glob 1 (z3m 64 z0p) z5i))]⟩):=by
 refine z2f 55 Tryz.func62 Z Z Z fun H w=>?_;refine gSR<|Eb Z (z5l 1 znj (.zr (R:=z0r) (x:=(⟨0,0⟩:z0c)) zoe)) fun v1=>Zb Z<|gSR<|Zm Z<|Zm Z<|Zc [1001] [] Tryz.func114 Z (zp6 _ _) fun r2 n3=>Zm Z<|Zq (ext Z Z)<|Zq (ext Z Z)<|Za Z<|Zb Z<|z0q<|gSR<|Zm Z<|Zq (I.neq Z Z)<|Zj Z (fun h4=>?_) (fun h4=>?_)
 ·refine gSR<|Zq (bld (x':=(⟨0,0⟩:z0c)) [(0,1),(1,1)] Tryz.underlying65 znj Z zoe Z (Bld.done Z))<|Zm Z<|Es (sto 1 Z Z fH Z znj)<|Zb Z<|z0k<|z0v<|zaz [] [1001] Z (eC 1 Z Z ty65<|eE Z<|eN) (Y0 Z)
 ·refine Zt<|gSR<|Zm Z<|Zc [] [] Tryz.func59 Z (zhj _) fun r5 n6=>Zm Z<|Zq (ext Z Z)<|Zq (ext Z Z)<|Za Z<|Zb Z<|gSR<|Zm Z<|Zq (W.toU Z tu63 tu44)<|Zc [] [] Tryz.func108 Z (zet _) fun r7 n8=>Zm Z<|Zm Z<|Zc [1001] [] Tryz.func115 Z (zec _ _ _) fun r9 n10=>Zm Z<|Zq (ext Z Z)<|Zq (ext Z Z)<|Za Z<|Zb Z<|gSR<|Zm Z<|Zm Z<|Zc [] [] Tryz.func116 Z (zne _ _) fun r11 n12=>Zm Z<|Zq (ext Z Z)<|Zq (ext Z Z)<|Za Z<|Zb Z<|gSR<|Zm Z<|Zm Z<|Zc [] [] Tryz.func117 Z (zoc _ _) fun r13 n14=>Zm Z<|Zq (ext Z Z)<|Zq (ext Z Z)<|Za Z<|Zb Z<|gSR<|Zm Z<|Zm Z<|Zq (bld (x':=(⟨r9.1,r13.1⟩:z0c)) [(0,1),(1,1)] Tryz.underlying65 znj Z zoe Z (Bld.cons (z4v _) Z Z<|Bld.cons (z6c _) Z Z<|Bld.done Z))<|Es (sto 1 Z Z fH Z znj)<|Zb Z<|z0k<|zaz [] [1001] Z (eC 1 Z Z ty65<|eE Z<|eN) (Y0 Z)
def zkg (a0:UInt32) (a1:z0a):Option (z0a × Int) :=
 zd8 a0 >>= fun r3 =>
 if r3.2 != 0 then
  some ((⟨0,[],0,(⟨0,[],(⟨0,0,0,[]⟩:z02)⟩:z07),(⟨0,0⟩:z0c)⟩:z0a),r3.2)
 else
  z18 a1.Preds >>= fun r6 =>
  zbf (⟨({ a1 with Author:=r3.1 }).Author,r6,({ a1 with Author:=r3.1 }).Stamp,({ a1 with Author:=r3.1 }).Act,({ a1 with Author:=r3.1 }).Sig⟩:z0a) >>= fun r8 =>
  if r8.2 != 0 then
   some ((⟨0,[],0,(⟨0,[],(⟨0,0,0,[]⟩:z02)⟩:z07),(⟨0,0⟩:z0c)⟩:z0a),r8.2)
  else
   zjo a0 r8.1 >>= fun r11 =>
   some ({ (⟨({ a1 with Author:=r3.1 }).Author,r6,({ a1 with Author:=r3.1 }).Stamp,({ a1 with Author:=r3.1 }).Act,({ a1 with Author:=r3.1 }).Sig⟩:z0a) with Sig:=r11.1 },0)
theorem zw0 (a0:UInt32) (a1:z0a):z1u Tryz.prog 29 [.rd z0p a0,.rd z04 a1] [zG1] (zkg a0 a1) (fun r nv=>⟨[.rd z04 r.1,.rd z08 r.2],[(1001,some (.bool true,.glob 1 (z3m 64 z0p) z5i))]⟩):=by
 refine z2f 41 Tryz.func29 Z Z Z fun H w=>?_;refine gSR<|Eb Z (bx 1 Z) fun v1=>Eb Z (z5l 2 zb1 (ZrE.rd (R:=z0p) (x:=0) (Zr.num Z) (ZrE.nilS (ZrE.rd (R:=z2x) (x:=0) (Zr.num Z) (ZrE.rd (R:=z0i) (x:=(⟨0,[],(⟨0,0,0,[]⟩:z02)⟩:z07)) zla (ZrE.rd (R:=z0r) (x:=(⟨0,0⟩:z0c)) zoe ZrE.nil Z) Z) Z)) Z)) fun v2=>Zb Z<|gSR<|Zm Z<|Zc [] [] Tryz.func59 Z (zhj _) fun r3 n4=>Zm Z<|Zq (ext Z Z)<|Zq (ext Z Z)<|Za Z<|Zb Z<|z0q<|gSR<|Zm Z<|Zq (I.neq Z Z)<|Zj Z (fun h5=>?_) (fun h5=>?_)
 ·refine gSR<|Zq (zwm [(0,1),(1,1),(2,1),(3,6),(9,2)] Tryz.underlying67 zb1 (ZrE.rd (R:=z0p) (x:=0) (Zr.num Z) (ZrE.nilS (ZrE.rd (R:=z2x) (x:=0) (Zr.num Z) (ZrE.rd (R:=z0i) (x:=(⟨0,[],(⟨0,0,0,[]⟩:z02)⟩:z07)) zla (ZrE.rd (R:=z0r) (x:=(⟨0,0⟩:z0c)) zoe ZrE.nil Z) Z) Z)) Z) Z (zkm.done Z))<|Zm Z<|Es (zwq 2 Z Z (z0l.cast (z0l.cons z17 (z0l.cons z0g (z0l.cons z17 (z0l.cons z17 (z0l.cons z17 z0l.nil))))) Z) Z (z54.cons z9c (z54.cons z36 (z54.cons z9c (z54.cons z9c (z54.cons z9c z54.nil))))) (z0l.cast (z0l.cons z17 (z0l.cons z0g (z0l.cons z17 (z0l.cons z17 (z0l.cons z17 z0l.nil))))) Z) zb1)<|Zb Z<|z0k<|z0v<|zug aZ [.rd z0p 0,.rd (z03 aZ) [],.rd z2x 0,.rd z0i (⟨0,[],(⟨0,0,0,[]⟩:z02)⟩:z07),.rd z0r (⟨0,0⟩:z0c)] 2 [.rd z0p 0] [.rd z2x 0,.rd z0i (⟨0,[],(⟨0,0,0,[]⟩:z02)⟩:z07),.rd z0r (⟨0,0⟩:z0c)] Z Z Z<|eJoi (R:=z04) (⟨0,[],0,(⟨0,[],(⟨0,0,0,[]⟩:z02)⟩:z07),(⟨0,0⟩:z0c)⟩:z0a) 2 Z (Sp.via (Sp.prod (Sp.prod (Sp.prod (Sp.prod (Sp.prod Sp.unit))))))<|zaz [] [1001] Z (eC 2 Z Z zeb<|eE Z<|eN) (Y0 Z)
 ·refine Zt<|gSR<|Zm Z<|Zq (faB 1 Z Z Tryz.underlying67 Z (by exact zb4))<|Zq (ld 1 Z Z (fP (z1b _)) zbp Z)<|Zc [] [(100,3)] Tryz.func60 Z (z3w _) fun r6 n7=>Zq (faB 1 Z Z Tryz.underlying67 Z (by exact z60))<|Es (sto 1 Z Z (fP (z56 _)) Z z60)<|Zq (faB 1 Z Z Tryz.underlying67 Z (by exact zb4))<|lSpl (R:=z04) 1 Z (Sp.via (Sp.prod (Sp.prod (Sp.prod (Sp.prod (Sp.prod Sp.unit))))))<|Es (zwb 1 Z Z (zb0.cast (zb0.next z17 (zb0.here z17)) Z) Z z36 z0g zb4)<|Zn<|gSR<|lPow [.rd z0p (({ a1 with Author:=r3.1 }).Author),.rd (z03 aZ) r6,.rd z2x (({ a1 with Author:=r3.1 }).Stamp),.rd z0i (({ a1 with Author:=r3.1 }).Act),.rd z0r (({ a1 with Author:=r3.1 }).Sig)] 1 3 [.rd z0p (({ a1 with Author:=r3.1 }).Author)] [.rd z2x (({ a1 with Author:=r3.1 }).Stamp),.rd z0i (({ a1 with Author:=r3.1 }).Act),.rd z0r (({ a1 with Author:=r3.1 }).Sig)] Z Z Z Z Z<|zfs (R:=z04) (⟨({ a1 with Author:=r3.1 }).Author,r6,({ a1 with Author:=r3.1 }).Stamp,({ a1 with Author:=r3.1 }).Act,({ a1 with Author:=r3.1 }).Sig⟩:z0a) 1 Z (Sp.via (Sp.prod (Sp.prod (Sp.prod (Sp.prod (Sp.prod Sp.unit))))))<|Zq (ld 1 Z Z fH zeb Z)<|Zc [] [(100,4)] Tryz.func61 Z (zf2 _) fun r8 n9=>Zm Z<|Zq (ext Z Z)<|Zq (ext Z Z)<|Za Z<|Zb Z<|z0q<|gSR<|Zm Z<|Zq (I.neq Z Z)<|Zj Z (fun h10=>?_) (fun h10=>?_)
  ·refine gSR<|Zq (zwm [(0,1),(1,1),(2,1),(3,6),(9,2)] Tryz.underlying67 zb1 (ZrE.rd (R:=z0p) (x:=0) (Zr.num Z) (ZrE.nilS (ZrE.rd (R:=z2x) (x:=0) (Zr.num Z) (ZrE.rd (R:=z0i) (x:=(⟨0,[],(⟨0,0,0,[]⟩:z02)⟩:z07)) zla (ZrE.rd (R:=z0r) (x:=(⟨0,0⟩:z0c)) zoe ZrE.nil Z) Z) Z)) Z) Z (zkm.done Z))<|Zm Z<|Es (zwq 2 Z Z (z0l.cast (z0l.cons z17 (z0l.cons z0g (z0l.cons z17 (z0l.cons z17 (z0l.cons z17 z0l.nil))))) Z) Z (z54.cons z9c (z54.cons z36 (z54.cons z9c (z54.cons z9c (z54.cons z9c z54.nil))))) (z0l.cast (z0l.cons z17 (z0l.cons z0g (z0l.cons z17 (z0l.cons z17 (z0l.cons z17 z0l.nil))))) Z) zb1)<|Zb Z<|z0k<|z0v<|zug aZ [.rd z0p 0,.rd (z03 aZ) [],.rd z2x 0,.rd z0i (⟨0,[],(⟨0,0,0,[]⟩:z02)⟩:z07),.rd z0r (⟨0,0⟩:z0c)] 2 [.rd z0p 0] [.rd z2x 0,.rd z0i (⟨0,[],(⟨0,0,0,[]⟩:z02)⟩:z07),.rd z0r (⟨0,0⟩:z0c)] Z Z Z<|eJoi (R:=z04) (⟨0,[],0,(⟨0,[],(⟨0,0,0,[]⟩:z02)⟩:z07),(⟨0,0⟩:z0c)⟩:z0a) 2 Z (Sp.via (Sp.prod (Sp.prod (Sp.prod (Sp.prod (Sp.prod Sp.unit))))))<|zaz [] [1001] Z (eC 2 Z Z zeb<|eE Z<|eN) (Y0 Z)
  ·refine Zt<|gSR<|Zm Z<|Zm Z<|zl7 4 [27,8,35] Z (fS Z<|fS Z<|fS Z<|fN)<|Zc [1001] [] Tryz.func62 Z (zru _ _) fun r11 n12=>Zm Z<|Zq (ext Z Z)<|Zq (ext Z Z)<|Zq (faB 1 Z Z Tryz.underlying67 Z (by exact znj))<|Es (sto 1 Z Z (fP (z3z _)) Z znj)<|Zn<|gSR<|Zq (ld 1 Z Z fH zeb Z)<|zft aZ [.rd z0p 0,.rd (z03 aZ) [],.rd z2x 0,.rd z0i (⟨0,[],(⟨0,0,0,[]⟩:z02)⟩:z07),.rd z0r (⟨0,0⟩:z0c)] 2 [.rd z0p 0] [.rd z2x 0,.rd z0i (⟨0,[],(⟨0,0,0,[]⟩:z02)⟩:z07),.rd z0r (⟨0,0⟩:z0c)] Z Z Z<|zfs (R:=z04) (⟨0,[],0,(⟨0,[],(⟨0,0,0,[]⟩:z02)⟩:z07),(⟨0,0⟩:z0c)⟩:z0a) 2 Z (Sp.via (Sp.prod (Sp.prod (Sp.prod (Sp.prod (Sp.prod Sp.unit))))))<|Es (sto 2 Z Z fH Z zb1)<|Zb Z<|z0k<|zaz [] [1001] Z (eC 2 Z Z zeb<|eE Z<|eN) (Y0 Z)
end
section
open Go Go.RowKit
def zk7 {α σ:Type} (F:α→σ→Option σ):List α→σ→Option σ
 | [],s=>some s
 | e::L,s=>F e s >>= zk7 F L
def z17h {α σ:Type} (F:α→σ→Option σ) (E:σ→σ→Prop):Prop:=∀ (L L':List α) (s r:σ),L.Perm L'→zk7 F L s=some r→∃ r',zk7 F L' s=some r'∧E r r'
def zu5 {κ:Type} (by_:Nat) (acc:List κ) (l:List κ):Option (List κ):=if l=[] then some acc else app by_ acc l
theorem ztq {κ:Type} {by_:Nat} {acc l r:List κ}:zu5 by_ acc l=some r↔r=acc++l∧(l=[]∨(acc.length+l.length) * by_≤140737488355328):=by
 unfold zu5 app;by_cases h:l=[]
 ·rw [if_pos h,h,List.append_nil];exact ⟨fun e=>⟨(Option.some.inj e).symm,.inl rfl⟩, fun e=>by rw [e.1]⟩
 ·rw [if_neg h];by_cases h2:(acc.length+l.length) * by_≤140737488355328
  ·rw [if_pos h2];exact ⟨fun e=>⟨(Option.some.inj e).symm,.inr h2⟩, fun e=>by rw [e.1]⟩
  ·rw [if_neg h2];exact ⟨fun e=>(by cases e), fun e=>(e.2.elim h h2).elim⟩
def AppF {α κ:Type} (by_:Nat) (F:α→List κ→Option (List κ)):Prop:=∀ e,∃ o:Option (List κ),∀ acc,F e acc=o >>= fun l=>zu5 by_ acc l
theorem AppF.fold {α κ:Type} {by_:Nat} {F:α→List κ→Option (List κ)} {sel:α→Option (List κ)} (h:∀ e acc,F e acc=sel e >>= fun l=>zu5 by_ acc l):∀ (L:List α) (s r:List κ),zk7 F L s=some r↔(∀ e∈L,(sel e).isSome)∧r=s++(L.flatMap fun e=>(sel e).getD [])∧(L.flatMap (fun e=>(sel e).getD [])=[]∨r.length * by_≤140737488355328)
 | [],s,r=>by
  simp only [zk7,List.flatMap_nil,List.append_nil];exact ⟨fun e=>⟨fun _ h=>absurd h (by simp),(Option.some.inj e).symm,.inl trivial⟩, fun e=>by rw [e.2.1]⟩
 | e::L,s,r=>by
  unfold zk7;rw [h]
  cases hs:sel e with
  | none=>simp [hs]
  | some l =>
   simp only [Option.bind_eq_bind,Option.bind_some]
   cases ha:zu5 by_ s l with
   | none =>
    simp only [Option.bind_none]
    constructor
    ·intro h; cases h
    ·rintro ⟨-,h2,h3⟩
     exfalso
     simp only [List.flatMap_cons,hs,Option.getD_some] at h2 h3
     have:zu5 by_ s l=some (s++l):=by
      rw [ztq];refine ⟨rfl,?_⟩;rcases h3 with h3 | h3
      ·exact .inl (by simpa using (List.append_eq_nil_iff.1 h3).1)
      ·refine .inr (Nat.le_trans (Nat.mul_le_mul_right _ ?_) h3);rw [h2]; simp
     rw [this] at ha; cases ha
   | some t =>
    obtain ⟨rfl,hb⟩:=ztq.1 ha;simp only [Option.bind_some];rw [AppF.fold h L (s++l) r];simp only [List.flatMap_cons,hs,Option.getD_some,List.mem_cons,forall_eq_or_imp,Option.isSome_some,true_and,List.append_assoc]
    constructor
    ·rintro ⟨h1,h2,h3⟩
     refine ⟨h1,h2,?_⟩;rcases h3 with h3 | h3
     ·rcases hb with hb | hb
      ·exact .inl (by rw [hb,h3]; rfl)
      ·refine .inr ?_;rw [h2,h3]; simpa using hb
     ·exact .inr h3
    ·rintro ⟨h1,h2,h3⟩
     refine ⟨h1,h2,?_⟩;rcases h3 with h3 | h3
     ·exact .inl (List.append_eq_nil_iff.1 h3).2
     ·exact .inr h3
theorem AppF.comm {α κ:Type} {by_:Nat} {F:α→List κ→Option (List κ)} (hF:AppF by_ F):z17h F List.Perm:=by
 have hF':∃ sel:α→Option (List κ),∀ e acc,F e acc=sel e >>= fun l=>zu5 by_ acc l:=⟨fun e=>Classical.choose (hF e), fun e=>Classical.choose_spec (hF e)⟩
 obtain ⟨sel,h⟩:=hF';intro L L' s r hp hr;obtain ⟨h1,h2,h3⟩:=(AppF.fold h L s r).1 hr;have hq:(L.flatMap fun e=>(sel e).getD []).Perm (L'.flatMap fun e=>(sel e).getD []):=hp.flatMap_right _;refine ⟨s++L'.flatMap fun e=>(sel e).getD [],(AppF.fold h L' s _).2 ⟨fun e he=>h1 e (hp.mem_iff.2 he),rfl,?_⟩, by rw [h2]; exact hq.append_left s⟩;rcases h3 with h3 | h3
 ·rw [h3] at hq; exact .inl hq.symm.eq_nil
 ·refine .inr ?_;rw [h2,List.length_append,hq.length_eq] at h3
  rwa [List.length_append]
theorem z15i {κ:Type} {by_:Nat} (x:κ):∃ o:Option (List κ),∀ acc:List κ,(app by_ acc [x] >>= fun z=>some z)=o >>= fun l=>zu5 by_ acc l:=⟨some [x], fun acc=>by
 simp only [Option.bind_eq_bind,Option.bind_some,zu5];rw [if_neg (by simp)]
 cases app by_ acc [x] <;> rfl⟩
theorem z10z {κ τ:Type} {by_:Nat} {m:Option τ} {f:τ→List κ→Option (List κ)} (h:∀ r,∃ o:Option (List κ),∀ acc,f r acc=o >>= fun l=>zu5 by_ acc l):∃ o:Option (List κ),∀ acc,(m >>= fun r=>f r acc)=o >>= fun l=>zu5 by_ acc l:=by
 cases m with
 | none=>exact ⟨none, fun _=>rfl⟩
 | some r=>obtain ⟨o,ho⟩:=h r; exact ⟨o, fun acc=>ho acc⟩
theorem z145 {κ:Type} {by_:Nat} {c:Prop} [Decidable c] {f g:List κ→Option (List κ)} (hf:∃ o:Option (List κ),∀ acc,f acc=o >>= fun l=>zu5 by_ acc l) (hg:∃ o:Option (List κ),∀ acc,g acc=o >>= fun l=>zu5 by_ acc l):∃ o:Option (List κ),∀ acc,(if c then f acc else g acc)=o >>= fun l=>zu5 by_ acc l:=by
 by_cases h:c
 ·obtain ⟨o,ho⟩:=hf; exact ⟨o, fun acc=>by rw [if_pos h]; exact ho acc⟩
 ·obtain ⟨o,ho⟩:=hg; exact ⟨o, fun acc=>by rw [if_neg h]; exact ho acc⟩
theorem gExM {ρ σ τ:Type} {ro:Option Nat} {P:Program} {A:σ→τ→Asn} {E:σ→Prop} {c:Code} {Q:ρ→Exit→Act→World→Prop} {m:Option ρ} (h:∀ s nv,E s→G ro P (A s nv) c Q m):G ro P (fun a w=>∃ s nv,E s∧A s nv a w) c Q m:=fun a w ⟨s,nv,h1,h2⟩=>h s nv h1 a w h2
theorem eExM {ρ σ τ:Type} {A:σ→τ→Asn} {E:σ→Prop} {e:Exit} {Q:ρ→Exit→Act→World→Prop} {m:Option ρ} (h:∀ s nv,E s→GE (A s nv) e Q m):GE (fun a w=>∃ s nv,E s∧A s nv a w) e Q m:=fun a w ⟨s,nv,h1,h2⟩=>h s nv h1 a w h2
theorem z1u.congr {ρ:Type} {P:Program} {f:FuncId} {pin:List Ent} {rin:Res} {m m':Option ρ} {q:ρ→(Nat→Value)→zn0} (e:m=m') (h:z1u P f pin rin m q):z1u P f pin rin m' q:=e ▸ h
section
variable {κ β:Type}
def z4l.mapX (RK:Rep κ) (RV:Rep β) (es:Array MapEntry) (clock:Nat) (m:List (κ × β)):z4l where
 nil _ _ _:=False
 nilm _ h:=h
 nilb h:=h.elim
 rel S w v o:=∃ b,v=.map (some b)∧o=.map es clock∧ziv RK RV S w es.toList m∧zwk es.toList clock
 mono k h:=by obtain ⟨b,h1,h2,h3,h4⟩:=h; exact ⟨b,h1,h2,h3.mono k,h4⟩
def z4l.mit (vm:Value) (since:Nat) (seen:Array Nat) (c0:Nat):z4l where
 nil _ _ _:=False
 nilm _ h:=h
 nilb h:=h.elim
 rel S w v o:=∃ g bm,v=.pointer (some ⟨g,0,none⟩)∧vm=.map (some bm)∧o=.mapIter (some bm) since seen c0
 mono k h:=h
theorem zji {RK:Rep κ} {RV:Rep β} {es clock m S w v} (h:(z4l.mapX RK RV es clock m).holds S w v):∃ b,v=.map (some b)∧w.heap[b]? = some (.map es clock)∧ziv RK RV S w es.toList m∧zwk es.toList clock:=by
 rcases h with h | ⟨b,o,h1,h2,b',rfl,rfl,h3,h4⟩
 ·exact h.elim
 ·simp only [z58,Option.some.injEq] at h1;subst h1;exact ⟨_,rfl,h2,h3,h4⟩
theorem ztu {vm v:Value} {since c0:Nat} {seen:Array Nat} {S:Blk} {w:World} (h:(z4l.mit vm since seen c0).holds S w v):∃ g bm,v=.pointer (some ⟨g,0,none⟩)∧vm=.map (some bm)∧w.heap[g]? = some (.mapIter (some bm) since seen c0):=by
 rcases h with h | ⟨b,o,h1,h2,g,bm,rfl,rfl,rfl⟩
 ·exact h.elim
 ·simp only [z58,Option.some.injEq] at h1;subst h1;exact ⟨_,_,rfl,rfl,h2⟩
def z8k (es:List MapEntry) (m:List (κ × β)) (seen:Array Nat):List (κ × β):=((es.zip m).filter fun p=>!seen.contains p.1.born).map (·.2)
theorem zw7 {RK:Rep κ} {RV:Rep β} {S:Blk} {w:World} {es:List MapEntry} {m:List (κ × β)} (h:ziv RK RV S w es m):z8k es m #[]=m:=by
 have hl:=h.size;unfold z8k;rw [List.filter_eq_self.2 (fun p _=>by simp)];exact List.map_snd_zip (by omega)
theorem z107 {es:List MapEntry} {m:List (κ × β)} {seen:Array Nat} {b:Nat} (h:∀ e∈es,e.born≠b):z8k es m (seen.push b)=z8k es m seen:=by
 unfold z8k
 congr 1
 apply List.filter_congr
 intro p hp
 have:=h p.1 (List.of_mem_zip hp).1
 simp [this]
theorem zq6 {RK:Rep κ} {RV:Rep β} {S:Blk} {w:World} {seen:Array Nat} {e:MapEntry}:∀ {es:List MapEntry} {m:List (κ × β)},ziv RK RV S w es m→(es.map (·.born)).Nodup→e∈es→seen.contains e.born=false→∃ (i:Nat) (k:κ) (x:β),es[i]? = some e∧m[i]? = some (k,x)∧(z8k es m seen).Perm ((k,x)::z8k es m (seen.push e.born))
 | e0::es,p::m,h,hn,he,hs=>by
  simp only [List.map_cons,List.nodup_cons] at hn;rcases List.mem_cons.1 he with rfl | he
  ·refine ⟨0,p.1,p.2,rfl,rfl,?_⟩;have hfar:∀ e'∈es,e'.born≠e.born:=fun e' h' h2=>hn.1 (List.mem_map.2 ⟨e',h',h2⟩);have hs':e.born∉seen:=by simpa using hs
   have h1:z8k (e::es) (p::m) seen=p::z8k es m seen:=by simp [z8k,hs']
   have h2:z8k (e::es) (p::m) (seen.push e.born)=z8k es m (seen.push e.born):=by simp [z8k]
   rw [h1,h2,z107 hfar]
  ·obtain ⟨i,k,x,h1,h2,h3⟩:=zq6 h.2 hn.2 he hs;refine ⟨i+1,k,x, by simpa using h1, by simpa using h2,?_⟩;have hne:e0.born≠e.born:=fun hh=>hn.1 (List.mem_map.2 ⟨e,he,hh.symm⟩);by_cases h0:seen.contains e0.born=true
   ·have g1:z8k (e0::es) (p::m) seen=z8k es m seen:=by simp [z8k] at h0 ⊢; simp [h0]
    have g2:z8k (e0::es) (p::m) (seen.push e.born)=z8k es m (seen.push e.born):=by simp [z8k] at h0 ⊢; simp [h0]
    rw [g1,g2]; exact h3
   ·have g1:z8k (e0::es) (p::m) seen=p::z8k es m seen:=by simp [z8k] at h0 ⊢; simp [h0]
    have g2:z8k (e0::es) (p::m) (seen.push e.born)=p::z8k es m (seen.push e.born):=by simp [z8k] at h0 ⊢; simp [h0,hne]
    rw [g1,g2];exact (h3.cons p).trans (List.Perm.swap _ _ _)
theorem zur {RK:Rep κ} {RV:Rep β} {S:Blk} {w:World} {seen:Array Nat}:∀ {es:List MapEntry} {m:List (κ × β)},ziv RK RV S w es m→(es.filter fun e=>!seen.contains e.born)=[]→z8k es m seen=[]
 | [],[],_,_=>rfl
 | e::es,p::m,h,h0=>by
  rw [List.filter_cons] at h0
  split at h0
  ·cases h0
  ·rename_i hs
   have:=zur h.2 h0
   simp [z8k] at hs this ⊢;simp [hs];exact this
 | [],_::_,h,_=>h.elim
 | _::_,[],h,_=>h.elim
theorem ztw {RK:Rep κ} {RV:Rep β} {S:Blk} {w:World}:∀ {es:List MapEntry} {m:List (κ × β)} {i:Nat} {e:MapEntry} {k:κ} {x:β},ziv RK RV S w es m→es[i]? = some e→m[i]? = some (k,x)→RK.vrel S w e.key k∧RV.vrel S w e.val x
 | e0::es,p::m,0,e,k,x,h,h1,h2=>by
  simp only [List.getElem?_cons_zero,Option.some.injEq] at h1 h2;subst h1; subst h2; exact h.1
 | e0::es,p::m,i+1,e,k,x,h,h1,h2=>ztw h.2 (by simpa using h1) (by simpa using h2)
 | [],_,_,_,_,_,_,h1,_=>by simp at h1
def ItAt (P:Program) (Ci Cm:z4l) (u v:Value) (RK:Rep κ) (RV:Rep β) (k:κ) (x:β):Prop :=
 ∀ S w,Ci.holds S w u→Cm.holds S w v→∃ key val,(∀ w',(∀ b,z58 u=some b→w'.heap[b]? = w.heap[b]?)→(∀ b,z58 v=some b→w'.heap[b]? = w.heap[b]?)→(Instr.entry u).run P w'=.ok (.tuple #[key,val]) w')∧RK.vrel S w key k∧RV.vrel S w val x
theorem itAt {P:Program} {u v:Value} {RK:Rep κ} {RV:Rep β} {es:Array MapEntry} {clock:Nat} {seen:Array Nat} {m:List (κ × β)} {i:Nat} {e:MapEntry} {k:κ} {x:β} (h1:es.toList[i]? = some e) (h2:m[i]? = some (k,x)) :
  ItAt P (.mit v clock (seen.push e.born) clock) (.mapX RK RV es clock m) u v RK RV k x:=fun S w hi hm=>by
 obtain ⟨g,bm,rfl,rfl,g1⟩:=ztu hi;obtain ⟨b,hb,m1,m2,m3⟩:=zji hm
 cases hb
 obtain ⟨k1,k2⟩:=ztw m2 h1 h2;refine ⟨e.key,e.val, fun w' q1 q2=>?_,k1,k2⟩;have g1':w'.heap[g]? = some (.mapIter (some bm) clock (seen.push e.born) clock):=(q1 g rfl).trans g1;have m1':w'.heap[bm]? = some (.map es clock):=(q2 bm rfl).trans m1;obtain ⟨hi,he⟩:=List.getElem?_eq_some_iff.1 h1;have hmem:e∈es.toList:=by rw [← he]; exact List.getElem_mem _
 have hf:es.find? (·.born==e.born)=some e:=by rw [← Array.find?_toList]; exact find_born e es.toList m3.1 hmem
 simp only [Instr.entry,getObj,Sem.run_bind,Sem.run,g1',m1',Result.andThen,Array.back?_push,bne_self_eq_false,Bool.false_eq_true,if_false,hf];rfl
end
section
variable {ρ:Type} {P:Program} {Γ:Ctx} {l:z1p} {res:Res} {m:Option ρ} {os rest:List Oper} {N:ρ→Exit→Act→World→Prop}
 {d:Tmp} {ty:TypeId} {pos:String} {after:Array Edge} {g:Option (Nat × Bool)} {ro:Option Nat} {κ β:Type} {RK:Rep κ} {RV:Rep β} {mm:List (κ × β)}
theorem Sta.less {res':Res} {a:Act} {w:World} (ha:Sta Γ l res a w) (h:∀ r y,lr res' r=some y→lr res r=some y):Sta Γ l res' a w:=by
 have hst:z9q (Shr Γ.H res w) (Shr Γ.H res' w) w w:=fun b hb=>⟨⟨hb.1, fun r v c h1=>hb.2.1 r v c (h _ _ h1),hb.2.2⟩,rfl⟩
 exact ⟨ha.size,ha.defers, fun t e ht=>by obtain ⟨u,h1,h2⟩:=ha.slots t e ht; exact ⟨u,h1,e.mono hst h2⟩, fun r v c hr=>(ha.conts r v c (h _ _ hr)).mono hst (fun _ _=>rfl),
  fun r1 v1 c1 r2 v2 c2 h1 h2=>ha.excl r1 v1 c1 r2 v2 c2 (h _ _ h1) (h _ _ h2), fun r v c hr=>ha.own r v c (h _ _ hr),ha.keep,ha.old,ha.hid⟩
theorem z1a0 {x:Operand} {v:Value} {T K V:TypeId} (ri rm:Nat) (hn:Nat.blt d Γ.n=true) (hx:opE l x=some (.val v)) (hr:lr res rm=some (v,.map RK RV mm)) (hT:P.underlying T=some (.map K V))
  (k:∀ u es clock,GL P os (Sta Γ ((d,.val u)::l) ((ri,some (u,.mit v clock #[] clock))::(rm,some (v,.mapX RK RV es clock mm))::res)) rest N m) :
  GL P os (Sta Γ l res) (⟨some d,.range T x,ty,pos,after,none⟩::rest) N m:=fun a w ha ρ hm=>by
 have h1:=(ha.vl hx).1;obtain ⟨b,es,clock,rfl,h2,h3,h4⟩:=zpo (ha.conts rm v _ hr);have ha2:=ha.recont (c':=.mapX RK RV es clock mm) rm hr (fun _=>.inr ⟨b,_,rfl,h2,b,rfl,rfl,h3,h4⟩);have hrun:(execOp a.eval ⟨some d,.range T x,ty,pos,after,none⟩).run P w=.ok (.value (.pointer (some ⟨w.heap.size,0,none⟩))) (w.alloc (.mapIter (some b) clock #[] clock)):=by
  simp [execOp,h1,run_range_map w T K V b es clock hT h2]
 obtain ⟨h5,h6⟩:=ha2.upd ri (c:=.mit (.map (some b)) clock #[] clock) (v:=.pointer (some ⟨w.heap.size,0,none⟩)) (zg0 w (.mapIter (some b) clock #[] clock)) (by simp) (fun b hb=>.inr (by simp [z58] at hb; omega)) (fun S' k'=>.inr ⟨w.heap.size,_,rfl,heap_alloc_new _ _,_,_,rfl,rfl,rfl⟩);exact st (zcn rfl) hrun (k _ es clock _ _ (h5.put hn ⟨rfl,rfl⟩) ρ hm)
theorem entM {k:κ} {x0:β} {u v:Value} {Ci Cm:z4l} {x:Operand} (ri rm:Nat) (hx:opE l x=some (.val u)) (h1:lr res ri=some (u,Ci)) (h2:lr res rm=some (v,Cm)) (hI:ItAt P Ci Cm u v RK RV k x0) :
  Run Eq P Γ l res ⟨some d,.entry x,ty,pos,after,g⟩ (.tup [.rd RK k,.rd RV x0]):=fun a w ha=>by
 obtain ⟨key,val,q1,q2,q3⟩:=hI _ _ (ha.conts ri u _ h1) (ha.conts rm v _ h2);refine ⟨.tuple #[key,val], fun w' hw=>?_,[key,val],⟨q2,q3,trivial⟩,rfl⟩;subst hw;simp [execOp,(ha.vl hx).1,q1 w (fun _ _=>rfl) (fun _ _=>rfl)]
theorem z17o {u v:Value} {x:Operand} {es:Array MapEntry} {clock c0:Nat} {seen:Array Nat} (ri rm:Nat) (hn:Nat.blt d Γ.n=true) (hx:opE l x=some (.val u)) (h1:lr res ri=some (u,.mit v clock seen c0)) (h2:lr res rm=some (v,.mapX RK RV es clock mm)) (hc:clock≤c0)
  (k0:z8k es.toList mm seen=[]→GL P os (Sta Γ ((d,.tup [.rd z09 false])::l) res) rest N m)
  (k1:∀ (i:Nat) (e:MapEntry) (k:κ) (x:β),es.toList[i]? = some e→mm[i]? = some (k,x)→(z8k es.toList mm seen).Perm ((k,x)::z8k es.toList mm (seen.push e.born))→GL P os (Sta Γ ((d,.tup [.rd z09 true,.junk,.junk])::l) ((ri,some (u,.mit v clock (seen.push e.born) clock))::res)) rest N m) :
  GL P os (Sta Γ l res) (⟨some d,.next x false,ty,pos,after,none⟩::rest) N m:=fun a w ha ρ hm=>by
 have hu:=(ha.vl hx).1;obtain ⟨gb,bm,rfl,rfl,g1⟩:=ztu (ha.conts ri u _ h1);obtain ⟨b,hb,m1,m2,m3⟩:=zji (ha.conts rm _ _ h2)
 cases hb
 rcases run_next_at (P:=P) w ty gb bm clock c0 seen es clock g1 m1 (fun x hx=>m3.2 x hx) hc with ⟨hz,hrun⟩ | ⟨e,he,w1,hw1,hrun⟩
 ·have hnil:(es.toList.filter fun e=>!seen.contains e.born)=[]:=by
   have:(leftOf es seen).toList=[]:=by
    rw [Array.toList_eq_nil_iff]; exact Array.eq_empty_of_size_eq_zero hz
   unfold leftOf at this
   rwa [Array.toList_filter] at this
  have hrun':(execOp a.eval ⟨some d,.next x false,ty,pos,after,none⟩).run P w=.ok (.value (.tuple #[.bool false])) w:=by
   simp [execOp,hu,hrun]
  exact st (zcn rfl) hrun' (k0 (zur m2 hnil) _ _ (ha.put hn ⟨[_],⟨⟨_,rfl,rfl⟩,trivial⟩,rfl⟩) ρ hm)
 ·have hmem:e∈es.toList∧seen.contains e.born=false:=by
   unfold leftOf at he;rw [Array.toList_filter,List.mem_filter] at he;exact ⟨he.1, by simpa using he.2⟩
  obtain ⟨i,k,x0,e1,e2,e3⟩:=zq6 m2 m3.1 hmem.1 hmem.2;have hlt:gb<w.heap.size:=(Array.getElem?_eq_some_iff.1 g1).1;have hheap:w1.heap=w.heap:=by rcases hw1 with rfl | rfl <;> rfl
  have hgr:w.grownBy (ChangeMaps.setBlock w1 gb (.mapIter (some bm) clock (seen.push e.born) clock)) (some gb):=by
   refine ⟨?_,?_,?_,?_, fun q hq hne=>?_⟩
   ·rcases hw1 with rfl | rfl <;> rfl
   ·rcases hw1 with rfl | rfl <;> rfl
   ·rcases hw1 with rfl | rfl <;> rfl
   ·show w.heap.size≤(w1.heap.setIfInBounds gb _).size;rw [hheap]; simp
   ·have hne:q≠gb:=fun e=>hne (by rw [e]);show (w1.heap.setIfInBounds gb _)[q]? = w.heap[q]?;rw [hheap,Array.getElem?_setIfInBounds_ne (fun e=>hne e.symm)]
  obtain ⟨h5,h6⟩:=ha.upd ri (v:=.pointer (some ⟨gb,0,none⟩)) (c:=.mit (.map (some bm)) clock (seen.push e.born) clock) hgr (fun b hb=>⟨_,_,h1, by cases hb; rfl⟩) (fun b hb=>.inl ⟨_,_,h1,hb⟩)
   (fun S' k'=>.inr ⟨gb,.mapIter (some bm) clock (seen.push e.born) clock,rfl, by show (w1.heap.setIfInBounds gb _)[gb]? = _; rw [hheap]; simp [hlt],gb,bm,rfl,rfl,rfl⟩)
  have hrun':(execOp a.eval ⟨some d,.next x false,ty,pos,after,none⟩).run P w=.ok (.value (.tuple #[.bool true,e.key,e.val])) (ChangeMaps.setBlock w1 gb (.mapIter (some bm) clock (seen.push e.born) clock)):=by
   simp [execOp,hu,hrun]
  exact st (zcn rfl) hrun' (k1 i e k x0 e1 e2 e3 _ _ (h5.put hn ⟨[_,_,_],⟨⟨_,rfl,rfl⟩,trivial,trivial,trivial⟩,rfl⟩) ρ hm)
def mcnt:Nat→Option (Sum Unit Nat)
 | 0=>some (.inl ())
 | k+1=>some (.inr k)
theorem zpt:∀ n,iter mcnt n=some ()
 | 0=>by rw [iter]; rfl
 | n+1=>by rw [iter]; exact zpt n
def z18p {σ:Type} (Γ:Ctx) (L:(Nat→Value)→z1p) (ri rm:Nat) (u v:Value) (RK:Rep κ) (RV:Rep β) (es:Array MapEntry) (clock:Nat) (mm:List (κ × β)) (Rs:σ→(Nat→Value)→Res) (F:κ × β→σ→Option σ) (E:σ→σ→Prop) (r:σ) (k:Nat):Asn:=fun a w =>
 ∃ s seen c0 nv,Sta Γ (L nv) ((ri,some (u,.mit v clock seen c0))::(rm,some (v,.mapX RK RV es clock mm))::Rs s nv) a w∧clock≤c0∧(z8k es.toList mm seen).length=k∧∃ r',zk7 F (z8k es.toList mm seen) s=some r'∧E r r'
theorem z16m {σ:Type} {A:Asn} {ib nb id1:Nat} {t tn tm:Tmp} {ty1 ty2:TypeId} {p1 p2:String} {a1 a2:Array Edge} {body:Code} {u v:Value} {es:Array MapEntry} {clock:Nat} {L:(Nat→Value)→z1p} {s0:σ} {nv0:Nat→Value} {F:κ × β→σ→Option σ}
  (ri rm:Nat) (E:σ→σ→Prop) (hEt:∀ a b c,E a b→E b c→E a c) (hE0:∀ a,E a a) (hC:z17h F E) (Rs:σ→(Nat→Value)→Res) (h0:∀ a w,A a w→Sta Γ (L nv0) ((ri,some (u,.mit v clock #[] clock))::(rm,some (v,.mapX RK RV es clock mm))::Rs s0 nv0) a w)
  (ht:∀ nv,lk (L nv) t=some (.val u)) (hn1:Nat.blt tn Γ.n=true) (hn2:Nat.blt tm Γ.n=true) (hL:∀ nv e1 e2,ztl ((tm,e1)::(tn,e2)::L nv) (L nv)) (hri:∀ s nv,lr (Rs s nv) ri=none) (hne:Nat.beq ri rm=false)
  (hbody:∀ (Ci Cm:z4l) (k:κ) (x:β) (s:σ) (nv:Nat→Value),ItAt P Ci Cm u v RK RV k x→G ro P (Sta Γ (L nv) ((ri,some (u,Ci))::(rm,some (v,Cm))::Rs s nv)) (.block nb body) (midQ fun s1 aa ww=>∃ nv',Sta Γ (L nv') ((ri,some (u,Ci))::(rm,some (v,Cm))::Rs s1 nv') aa ww) (F (k,x) s)) :
  G ro P A (.block ib (.loop (.seq (.region id1 #[⟨some tn,.next (.tmp t) false,ty1,p1,a1,none⟩,⟨some tm,.extract (.tmp tn) 0,ty2,p2,a2,none⟩] false) (.seq (.cond (.tmp tm) .skip (.exit ib)) (.block nb body)))))
   (midQ fun r aa ww=>∃ s nv,E r s∧Sta Γ (L nv) ((rm,some (v,.map RK RV mm))::Rs s nv) aa ww) (zk7 F mm s0):=fun a w ha r hr=>by
 have hsta:=h0 a w ha
 obtain ⟨bm,hbm,m1,m2,m3⟩:=zji (hsta.conts rm v (.mapX RK RV es clock mm) (by
  rw [z1a,if_neg (Nat.ne_of_beq_eq_false hne),z1a,if_pos rfl]))
 have hleft:z8k es.toList mm #[]=mm:=zw7 m2;have main:G ro P (fun aa ww=>aa=a∧ww=w) (.block ib (.loop (.seq (.region id1 #[⟨some tn,.next (.tmp t) false,ty1,p1,a1,none⟩,⟨some tm,.extract (.tmp tn) 0,ty2,p2,a2,none⟩] false) (.seq (.cond (.tmp tm) .skip (.exit ib)) (.block nb body)))))
   (midQ fun (_:Unit) aa ww=>∃ s nv,E r s∧Sta Γ (L nv) ((rm,some (v,.map RK RV mm))::Rs s nv) aa ww) (iter mcnt mm.length):=by
  refine z29 (z18p Γ L ri rm u v RK RV es clock mm Rs F E r) ?_ fun k=>?_
  ·rintro aa ww ⟨rfl,rfl⟩
   exact ⟨s0,#[],clock,nv0,hsta,Nat.le_refl _, by rw [hleft],r, by rw [hleft]; exact hr,hE0 r⟩
  ·rintro aa ww ⟨s,seen,c0,nv,hs,hc,hk,r',hf,hE⟩
   have hlr1:∀ (x:Option (Value × z4l)),lr ((ri,x)::(rm,some (v,z4l.mapX RK RV es clock mm))::Rs s nv) rm=some (v,.mapX RK RV es clock mm):=fun x=>by
    rw [z1a,if_neg (Nat.ne_of_beq_eq_false hne),z1a,if_pos rfl]
   have goal:G ro P (Sta Γ (L nv) ((ri,some (u,.mit v clock seen c0))::(rm,some (v,.mapX RK RV es clock mm))::Rs s nv)) (.seq (.region id1 #[⟨some tn,.next (.tmp t) false,ty1,p1,a1,none⟩,⟨some tm,.extract (.tmp tn) 0,ty2,p2,a2,none⟩] false) (.seq (.cond (.tmp tm) .skip (.exit ib)) (.block nb body)))
     (zoy ib (z18p Γ L ri rm u v RK RV es clock mm Rs F E r) (midQ fun (_:Unit) aa ww=>∃ s nv,E r s∧Sta Γ (L nv) ((rm,some (v,.map RK RV mm))::Rs s nv) aa ww)) (mcnt k):=by
    refine z0q<|z2g (os:=[⟨some tn,.next (.tmp t) false,ty1,p1,a1,none⟩,⟨some tm,.extract (.tmp tn) 0,ty2,p2,a2,none⟩])<|z17o ri rm hn1 (ht nv) (by rw [z1a,if_pos rfl]) (hlr1 _) hc (fun hnil=>?_) (fun i e kk x e1 e2 e3=>?_)
    ·rw [hnil] at hk hf;have hk:k=0:=hk.symm;subst hk;have hf:s=r':=Option.some.inj hf;subst hf;refine R hn2 (ext (es:=[.rd z09 false]) (by show lk _ _=_; rw [z2j,if_pos rfl]) rfl)<|z21<|z0m<|z0q<|zfk (by show lk _ _=_; rw [z2j,if_pos rfl])<|z1z<|z10<|z14<|z3p fun aa ww h=>⟨s,nv,hE,?_⟩;have h':Sta Γ (L nv) ((ri,some (u,.mit v clock seen c0))::(rm,some (v,.mapX RK RV es clock mm))::Rs s nv) aa ww:=⟨h.size,h.defers, fun t' e' ht'=>h.slots t' e' ((hL _ _ _).get ht'),h.conts,h.excl,h.own,h.keep,h.old,h.hid⟩
     refine (h'.recont (c':=.map RK RV mm) rm (hlr1 _) (fun hh=>?_)).less fun q y hq=>?_
     ·obtain ⟨b,rfl,q1,q2,q3⟩:=zji hh;exact zlc q1 q2 q3
     ·rw [z1a] at hq ⊢;by_cases e:rm=q
      ·rw [if_pos e] at hq ⊢; exact hq
      ·rw [if_neg e] at hq ⊢;rw [z1a];by_cases e2:ri=q
       ·subst e2; rw [hri] at hq; cases hq
       ·rw [if_neg e2,z1a,if_neg e]; exact hq
    ·obtain ⟨r2,hr2,hE2⟩:=hC _ _ s r' e3 hf;have hlen:=e3.length_eq;rw [List.length_cons,hk] at hlen;subst hlen;unfold zk7 at hr2
     cases hF:F (kk,x) s with
     | none=>rw [hF] at hr2; cases hr2
     | some s1 =>
      rw [hF] at hr2;have hr2:zk7 F (z8k es.toList mm (seen.push e.born)) s1=some r2:=hr2;refine R hn2 (ext (es:=[.rd z09 true,.junk,.junk]) (by show lk _ _=_; rw [z2j,if_pos rfl]) rfl)<|z21<|z0m<|z0q<|zdc (by show lk _ _=_; rw [z2j,if_pos rfl])<|z38<|z0m ?_;intro aa ww h ρ hρ;have h':Sta Γ (L nv) ((ri,some (u,.mit v clock (seen.push e.born) clock))::(rm,some (v,.mapX RK RV es clock mm))::Rs s nv) aa ww:=by
       refine Sta.less (res:=(ri,some (u,.mit v clock (seen.push e.born) clock))::(ri,some (u,.mit v clock seen c0))::(rm,some (v,.mapX RK RV es clock mm))::Rs s nv) ⟨h.size,h.defers, fun t' e' ht'=>h.slots t' e' ((hL _ _ _).get ht'),h.conts,h.excl,h.own,h.keep,h.old,h.hid⟩ fun q y hq=>?_;rw [z1a] at hq ⊢;by_cases e:ri=q
       ·rw [if_pos e] at hq ⊢; exact hq
       ·rw [if_neg e] at hq ⊢;rw [z1a,if_neg e]; exact hq
      have hb:=hbody (.mit v clock (seen.push e.born) clock) (.mapX RK RV es clock mm) kk x s nv (itAt e1 e2) aa ww h' s1 hF;have hρ:Sum.inr (z8k es.toList mm (seen.push e.born)).length=ρ:=Option.some.inj hρ;subst hρ;refine zlg (fun ex a3 w3 hq=>?_) hb;obtain ⟨rfl,nv',hq⟩:=hq;exact ⟨rfl,s1,seen.push e.born,clock,nv',hq,Nat.le_refl _,rfl,r2,hr2,hEt _ _ _ hE hE2⟩
   exact goal aa ww hs
 exact main a w ⟨rfl,rfl⟩ () (zpt _)
end
end
section
open Go Go.Shelf Go.RowKit Go.Lib Go.Sort
def zbx (x:V3):List Value:=x.toList.map fun c=>Value.int .u8 (c.toNat:Int)
theorem zqg (x:V3):(zbx x).length=32:=by simp [zbx]
theorem zly {w:World} {b j:Nat} {c:Array Value} {T:TypeId} {fr:Nat × Nat} {u:Value} (h:w.heap[b]? = some (.cells c T fr)) (hj:c[j]? = some u):w.cell? ⟨b,0+j,none⟩=some u:=by
 unfold World.cell?;rw [h]
 simpa using hj
end
section
open Go Go.Shelf
def zw1:Go.Shelf.Ren:=⟨fun | 190=>24 | 125=>50 | 258=>49 | 128=>99 | 129=>100 | 302=>90 | 303=>91 | 304=>92 | 305=>93 | 306=>94 | 307=>95 | 308=>96 | 309=>97 | 310=>98 | 333=>154 | 329=>155 | 330=>156 | 334=>157 | 335=>158 | 336=>143 | 344=>190 | n=>n, fun | 31=>41 | 9=>9 | 3=>3 | 46=>116 | 0=>0 | 51=>63 | 53=>44 | 4=>4 | 183=>163 | 182=>162 | 131=>122 | 5=>5 | 218=>215 | 222=>219 | 228=>246 | 229=>247 | n=>n, fun | n=>n⟩
theorem z13b:Go.Proofs.Lays.n190 Tryz.prog zw1:={
 mixed:=by kernel_rfl
 f125:=Tryz.func50.trans (congrArg some (by kernel_rfl))
 f128:=Tryz.func99.trans (congrArg some (by kernel_rfl))
 f129:=Tryz.func100.trans (congrArg some (by kernel_rfl))
 f190:=Tryz.func24.trans (congrArg some (by kernel_rfl))
 f258:=Tryz.func49.trans (congrArg some (by kernel_rfl))
 f302:=Tryz.func90.trans (congrArg some (by kernel_rfl))
 f303:=Tryz.func91.trans (congrArg some (by kernel_rfl))
 f304:=Tryz.func92.trans (congrArg some (by kernel_rfl))
 f305:=Tryz.func93.trans (congrArg some (by kernel_rfl))
 f306:=Tryz.func94.trans (congrArg some (by kernel_rfl))
 f307:=Tryz.func95.trans (congrArg some (by kernel_rfl))
 f308:=Tryz.func96.trans (congrArg some (by kernel_rfl))
 f309:=Tryz.func97.trans (congrArg some (by kernel_rfl))
 f310:=Tryz.func98.trans (congrArg some (by kernel_rfl))
 f329:=Tryz.func155.trans (congrArg some (by kernel_rfl))
 f330:=Tryz.func156.trans (congrArg some (by kernel_rfl))
 f333:=Tryz.func154.trans (congrArg some (by kernel_rfl))
 f334:=Tryz.func157.trans (congrArg some (by kernel_rfl))
 f335:=Tryz.func158.trans (congrArg some (by kernel_rfl))
 f336:=Tryz.func143.trans (congrArg some (by kernel_rfl))
 f344:=Tryz.func190.trans (congrArg some (by kernel_rfl))
 t0:=Tryz.underlying0
 a0:=Tryz.isAgg0
 z0:=Tryz.sizeOf0
 v0:=Tryz.zeroValue0
 t3:=Tryz.underlying3
 a3:=Tryz.isAgg3
 z3:=Tryz.sizeOf3
 v3:=Tryz.zeroValue3
 t4:=Tryz.underlying4
 a4:=Tryz.isAgg4
 z4:=Tryz.sizeOf4
 v4:=Tryz.zeroValue4
 t5:=Tryz.underlying5
 a5:=Tryz.isAgg5
 z5:=Tryz.sizeOf5
 v5:=Tryz.zeroValue5
 t9:=Tryz.underlying9
 a9:=Tryz.isAgg9
 z9:=Tryz.sizeOf9
 v9:=Tryz.zeroValue9
 t31:=Tryz.underlying41
 a31:=Tryz.isAgg41
 z31:=Tryz.sizeOf41
 v31:=Tryz.zeroValue41
 t46:=Tryz.underlying116
 a46:=Tryz.isAgg116
 z46:=Tryz.sizeOf116
 v46:=Tryz.zeroValue116
 t51:=Tryz.underlying63
 a51:=Tryz.isAgg63
 z51:=Tryz.sizeOf63
 v51:=Tryz.zeroValue63
 t53:=Tryz.underlying44
 a53:=Tryz.isAgg44
 z53:=Tryz.sizeOf44
 v53:=Tryz.zeroValue44
 t131:=Tryz.underlying122
 a131:=Tryz.isAgg122
 z131:=Tryz.sizeOf122
 v131:=Tryz.zeroValue122
 t182:=Tryz.underlying162
 a182:=Tryz.isAgg162
 z182:=Tryz.sizeOf162
 v182:=Tryz.zeroValue162
 t183:=Tryz.underlying163
 a183:=Tryz.isAgg163
 z183:=Tryz.sizeOf163
 v183:=Tryz.zeroValue163
 t218:=Tryz.underlying215
 a218:=Tryz.isAgg215
 z218:=Tryz.sizeOf215
 v218:=Tryz.zeroValue215
 t222:=Tryz.underlying219
 a222:=Tryz.isAgg219
 z222:=Tryz.sizeOf219
 v222:=Tryz.zeroValue219
 t228:=Tryz.underlying246
 a228:=Tryz.isAgg246
 z228:=Tryz.sizeOf246
 v228:=Tryz.zeroValue246
 t229:=Tryz.underlying247
 a229:=Tryz.isAgg247
 z229:=Tryz.sizeOf247
 v229:=Tryz.zeroValue247 }
end
section
open Go Go.RowKit Go.Sort
theorem zrg {S:Blk} {w:World}:∀ {l:List (List UInt8)} {cs:List Value},z5r z3q S w cs l→cs=l.map encStr
 | [],cs,h=>h
 | x::l,cs,h=>by
  obtain ⟨c,d,rfl,⟨s,rfl,rfl⟩,h2⟩:=h;rw [List.map_cons,zrg h2]; rfl
theorem zri {S:Blk} {w:World}:∀ (l:List (List UInt8)),z5r z3q S w (l.map encStr) l
 | []=>rfl
 | x::l=>⟨[encStr x],l.map encStr,rfl,⟨⟨x.toArray⟩,rfl,rfl⟩,zri l⟩
theorem zvu {w:World} {b:Nat} {C:Array Value} {T:TypeId} (l:List (List UInt8)) (hb:w.heap[b]? = some (.cells C T (0,0))) (hc:C.toList.take l.length=l.map encStr):Holds encStr w b 0 l.toArray:=by
 intro j hj;have hj':j<l.length:=by simpa using hj
 constructor
 ·refine zly hb ?_;have e:(C.toList.take l.length)[j]? = (l.map encStr)[j]? := by rw [hc]
  rw [List.getElem?_take_of_lt hj',List.getElem?_map,List.getElem?_eq_getElem hj'] at e;rw [← Array.getElem?_toList,e,getElem!_pos _ j hj]
  simp
 ·simp [World.frozen?,hb]
theorem z11q (l:List (List UInt8)) (C:Array Value) (hC:l.length≤C.size):(putCells encStr 0 l.toArray C).toList.take l.length=l.map encStr:=by
 apply List.ext_getElem?
 intro t;by_cases ht:t<l.length
 ·rw [List.getElem?_take_of_lt ht,Array.getElem?_toList,List.getElem?_map,List.getElem?_eq_getElem ht];simp only [putCells,Array.getElem?_mapIdx,Nat.sub_zero,Nat.zero_add,List.size_toArray,Nat.zero_le,true_and];rw [Array.getElem?_eq_getElem (by omega),Option.map_some,if_pos ht,getElem!_pos _ t (by simpa using ht)]
  simp
 ·rw [List.getElem?_eq_none (by simp; omega),List.getElem?_eq_none (by simpa using ht)]
def zs2 (l:List (List UInt8)):List (List UInt8):=l.mergeSort fun x y=>decide (x≤y)
theorem zlj (l:List (List UInt8)):(zs2 l).length=l.length:=List.length_mergeSort l
theorem z12c (l:List (List UInt8)) (x:List UInt8):x∈zs2 l↔x∈l:=List.mem_mergeSort
theorem zm6 (l:List (List UInt8)):(zs2 l).Perm l:=List.mergeSort_perm l _
theorem zhu (l:List (List UInt8)):(zs2 l).Pairwise (· ≤ ·):=by
 have h:=List.pairwise_mergeSort (le:=fun x y:List UInt8=>decide (x≤y)) (fun a b c h1 h2=>by
  simp only [decide_eq_true_eq] at *; exact List.le_trans h1 h2) (fun a b=>by simp only [Bool.or_eq_true,decide_eq_true_eq]; exact List.le_total a b) l
 exact h.imp fun {a b} hab=>by simpa using hab
theorem zvf {l l':List (List UInt8)} (h:l.Perm l'):zs2 l=zs2 l' :=
 (((zm6 l).trans h).trans (zm6 l').symm).eq_of_pairwise (le:=(· ≤ ·)) (fun a b _ _ h1 h2=>List.le_antisymm h1 h2) (zhu l) (zhu l')
def zol (l:List (List UInt8)):Option (List (List UInt8)):=chk (l.length≤1000000) >>= fun _=>some (zs2 l)
theorem zva {l l':List (List UInt8)} (h:l.Perm l'):zol l=zol l':=by unfold zol; rw [h.length_eq,zvf h]
set_option maxHeartbeats 1000000 in
theorem zzk {P:Program} {f T:Nat}
  (hnone:∀ (cap:Nat) (w:World),Calls P f #[.slice none 0 cap] w fun e w'=>e=.returned (.tuple #[])∧w'=w)
  (hsome:∀ (blk cap:Nat) (d:List (List UInt8)) (w:World),Holds encStr w blk 0 d.toArray→blk<w.heap.size→d.length<4611686018427387904 →
   Calls P f #[.slice (some ⟨blk,0,none⟩) d.length cap] w fun e w'=>e=.returned (.tuple #[])∧∃ n os,w'=grow (putRow encStr (Sort.ahead w n) blk 0 (zs2 d).toArray) os)
  (p0:Value) (c0:List (List UInt8)):z1u P f [.val p0] [(1,some (p0,.list z3q T c0))] (zol c0) (fun r nv=>⟨[],[(1,some (p0,.list z3q T r))]⟩):=by
 intro r hr H vs w hvs hres;have hb:c0.length≤1000000∧r=zs2 c0:=by
  unfold zol chk at hr
  split at hr
  ·rename_i h; simp at hr; exact ⟨h,hr.symm⟩
  ·simp at hr
 obtain ⟨hlen0,rfl⟩:=hb
 match vs,hvs with
 | [v0],hvs =>
 obtain ⟨h0,_⟩:=hvs;have e0:v0=p0:=h0.1;subst e0;have hc:=hres.conts 1 v0 _ rfl;have only:∀ r v c (q:z4l),lr [(1,some (v0,q))] r=some (v,c)→r=1∧v=v0∧c=q:=fun r v c q h=>by
  rw [z1a] at h
  split at h
  ·rename_i e; cases h; exact ⟨e.symm,rfl,rfl⟩
  ·simp [lr,lk] at h
 rcases hc with ⟨rfl,rfl⟩ | ⟨b,o,k1,k2,b',cap,C,k3,rfl,k4,k5,k6,k7⟩
 ·refine (hnone 0 w).mono fun e w' ⟨he,hw⟩=>?_;subst hw;refine ⟨fun _=>undef,[],he,trivial, fun r v c h=>?_, fun r v c r' v' c' h h' hne=>?_, fun r v c h b hb=>?_,zl0.rfl'⟩
  ·obtain ⟨rfl,rfl,rfl⟩:=only _ _ _ _ h;exact .inl ⟨rfl,List.eq_nil_of_length_eq_zero (by rw [zlj]; rfl)⟩
  ·exact absurd ((only _ _ _ _ h).1.trans (only _ _ _ _ h').1.symm) hne
  ·obtain ⟨rfl,rfl,rfl⟩:=only _ _ _ _ h; cases hb
 ·subst k3;simp only [z58,Option.some.injEq] at k1;subst k1;have hlt:b'<w.heap.size:=(Array.getElem?_eq_some_iff.1 k2).1;have hrow:=zrg k7;have hsz:z3q.sz=1:=rfl;rw [hsz,Nat.mul_one] at k6 hrow;refine (hsome b' cap c0 w (zvu c0 k2 hrow) hlt (by omega)).mono fun e w' ⟨he,n,os,hw⟩=>?_;subst hw;refine ⟨fun _=>undef,[],he,trivial, fun r v c h=>?_, fun r v c r' v' c' h h' hne=>?_, fun r v c h b hb=>?_,rfl,rfl,rfl,?_, fun i hi=>?_⟩
  ·obtain ⟨rfl,rfl,rfl⟩:=only _ _ _ _ h;refine .inr ⟨b',.cells (putCells encStr 0 (zs2 c0).toArray C) T (0,0),rfl,?_,b',cap,_, by rw [zlj],rfl, by rw [zlj]; exact k4,k5,?_,?_⟩
   ·show (w.heap.modify b' _++os)[b']? = _;rw [Array.getElem?_append_left (by simpa using hlt),Array.getElem?_modify,if_pos rfl,k2];rfl
   ·rw [hsz,Nat.mul_one,← k6]; simp [putCells]
   ·rw [hsz,Nat.mul_one,z11q (zs2 c0) C (by rw [zlj]; omega)];exact zri _
  ·exact absurd ((only _ _ _ _ h).1.trans (only _ _ _ _ h').1.symm) hne
  ·obtain ⟨rfl,rfl,rfl⟩:=only _ _ _ _ h;exact .inr ⟨1,_,_,rfl,hb⟩
  ·show w.heap.size≤(w.heap.modify b' _++os).size
   simp
  ·show (w.heap.modify b' _++os)[i]? = _;rw [Array.getElem?_append_left (by simpa using hi.1),Array.getElem?_modify,if_neg (fun e=>hi.2 ⟨1,_,_,rfl, by rw [← e]; rfl⟩)]
theorem z130 (p0:Value) (c0:List (List UInt8)):z1u Tryz.prog 24 [.val p0] [(1,some (p0,.list z3q 9 c0))] (zol c0) (fun r nv=>⟨[],[(1,some (p0,.list z3q 9 r))]⟩) :=
 zzk (fun cap w=>Any.slices_Sort_string_none z13b none cap w) (fun blk cap d w hH hb hs=>Any.slices_Sort_string z13b blk 0 cap d w hH hb hs) p0 c0
end
section
open Go Go.Shelf
def zvo:Go.Shelf.Ren:=⟨fun | 6=>41 | 15=>50 | 14=>80 | 28=>99 | 29=>100 | 20=>135 | 21=>136 | 22=>137 | 23=>138 | 24=>139 | 25=>140 | 26=>141 | 27=>142 | 46=>179 | 47=>155 | 48=>156 | 49=>180 | 50=>181 | 57=>199 | n=>n, fun | 22=>30 | 24=>103 | 25=>105 | 3=>3 | 39=>116 | 0=>0 | 53=>63 | 55=>44 | 4=>4 | 46=>163 | 45=>162 | 50=>122 | 5=>5 | 9=>9 | 66=>215 | 70=>219 | 76=>246 | 77=>247 | n=>n, fun | n=>n⟩
theorem z13k:Go.Proofs.SlLaysF0.n6 Tryz.prog zvo:={
 mixed:=by kernel_rfl
 f6:=⟨Tryz.f41.name, by decide,Tryz.func41.trans (congrArg some (by kernel_rfl))⟩
 f14:=⟨Tryz.f80.name, by decide,Tryz.func80.trans (congrArg some (by kernel_rfl))⟩
 f15:=Tryz.func50.trans (congrArg some (by kernel_rfl))
 f20:=⟨Tryz.f135.name, by decide,Tryz.func135.trans (congrArg some (by kernel_rfl))⟩
 f21:=⟨Tryz.f136.name, by decide,Tryz.func136.trans (congrArg some (by kernel_rfl))⟩
 f22:=⟨Tryz.f137.name, by decide,Tryz.func137.trans (congrArg some (by kernel_rfl))⟩
 f23:=⟨Tryz.f138.name, by decide,Tryz.func138.trans (congrArg some (by kernel_rfl))⟩
 f24:=⟨Tryz.f139.name, by decide,Tryz.func139.trans (congrArg some (by kernel_rfl))⟩
 f25:=⟨Tryz.f140.name, by decide,Tryz.func140.trans (congrArg some (by kernel_rfl))⟩
 f26:=⟨Tryz.f141.name, by decide,Tryz.func141.trans (congrArg some (by kernel_rfl))⟩
 f27:=⟨Tryz.f142.name, by decide,Tryz.func142.trans (congrArg some (by kernel_rfl))⟩
 f28:=Tryz.func99.trans (congrArg some (by kernel_rfl))
 f29:=Tryz.func100.trans (congrArg some (by kernel_rfl))
 f46:=⟨Tryz.f179.name, by decide,Tryz.func179.trans (congrArg some (by kernel_rfl))⟩
 f47:=Tryz.func155.trans (congrArg some (by kernel_rfl))
 f48:=Tryz.func156.trans (congrArg some (by kernel_rfl))
 f49:=⟨Tryz.f180.name, by decide,Tryz.func180.trans (congrArg some (by kernel_rfl))⟩
 f50:=⟨Tryz.f181.name, by decide,Tryz.func181.trans (congrArg some (by kernel_rfl))⟩
 f57:=⟨Tryz.f199.name, by decide,Tryz.func199.trans (congrArg some (by kernel_rfl))⟩
 t0:=Tryz.underlying0
 a0:=Tryz.isAgg0
 z0:=Tryz.sizeOf0
 v0:=Tryz.zeroValue0
 t3:=Tryz.underlying3
 a3:=Tryz.isAgg3
 z3:=Tryz.sizeOf3
 v3:=Tryz.zeroValue3
 t4:=Tryz.underlying4
 a4:=Tryz.isAgg4
 z4:=Tryz.sizeOf4
 v4:=Tryz.zeroValue4
 t5:=Tryz.underlying5
 a5:=Tryz.isAgg5
 z5:=Tryz.sizeOf5
 v5:=Tryz.zeroValue5
 t9:=Tryz.underlying9
 a9:=Tryz.isAgg9
 z9:=Tryz.sizeOf9
 v9:=Tryz.zeroValue9
 t22:=Tryz.underlying30
 a22:=Tryz.isAgg30
 z22:=Tryz.sizeOf30
 v22:=Tryz.zeroValue30
 t25:=Tryz.underlying105
 a25:=Tryz.isAgg105
 z25:=Tryz.sizeOf105
 v25:=Tryz.zeroValue105
 t39:=Tryz.underlying116
 a39:=Tryz.isAgg116
 z39:=Tryz.sizeOf116
 v39:=Tryz.zeroValue116
 t45:=Tryz.underlying162
 a45:=Tryz.isAgg162
 z45:=Tryz.sizeOf162
 v45:=Tryz.zeroValue162
 t46:=Tryz.underlying163
 a46:=Tryz.isAgg163
 z46:=Tryz.sizeOf163
 v46:=Tryz.zeroValue163
 t50:=Tryz.underlying122
 a50:=Tryz.isAgg122
 z50:=Tryz.sizeOf122
 v50:=Tryz.zeroValue122
 t53:=Tryz.underlying63
 a53:=Tryz.isAgg63
 z53:=Tryz.sizeOf63
 v53:=Tryz.zeroValue63
 t55:=Tryz.underlying44
 a55:=Tryz.isAgg44
 z55:=Tryz.sizeOf44
 v55:=Tryz.zeroValue44
 t66:=Tryz.underlying215
 a66:=Tryz.isAgg215
 z66:=Tryz.sizeOf215
 v66:=Tryz.zeroValue215
 t70:=Tryz.underlying219
 a70:=Tryz.isAgg219
 z70:=Tryz.sizeOf219
 v70:=Tryz.zeroValue219
 t76:=Tryz.underlying246
 a76:=Tryz.isAgg246
 z76:=Tryz.sizeOf246
 v76:=Tryz.zeroValue246
 t77:=Tryz.underlying247
 a77:=Tryz.isAgg247
 z77:=Tryz.sizeOf247
 v77:=Tryz.zeroValue247 }
end
section
open Go Go.RowKit Go.Sort
theorem z13l {α:Type} [Inhabited α] (enc:α→List Value) (k:Nat) (hk:∀ x,(enc x).length=k):∀ (l:List α) (t:Nat),t<l.length * k→(l.flatMap enc)[t]! = (enc l[t / k]!)[t % k]!
 | [],t,h=>by simp at h
 | x::l,t,h=>by
  have hx:=hk x;have k0:0<k:=by
   rcases Nat.eq_zero_or_pos k with e | e
   ·subst e; simp at h
   ·exact e
  rw [List.flatMap_cons];by_cases ht:t<k
  ·rw [List.getElem!_eq_getElem?_getD,List.getElem?_append_left (by omega),Nat.div_eq_of_lt ht,Nat.mod_eq_of_lt ht]
   simp
  ·have hl:t - k<l.length * k:=by
    simp only [List.length_cons,Nat.add_mul,Nat.one_mul] at h; omega
   have ih:=z13l enc k hk l (t - k) hl;have e1:t / k=(t - k) / k+1:=by
    have h2:=Nat.add_div_right (t - k) k0;rw [Nat.sub_add_cancel (by omega)] at h2; exact h2
   have e2:t % k=(t - k) % k:=by rw [Nat.mod_eq_sub_mod (by omega)]
   rw [List.getElem!_eq_getElem?_getD,List.getElem?_append_right (by omega),hx,e1,e2,← List.getElem!_eq_getElem?_getD,ih]
   simp
theorem zrw {α:Type} (enc:α→List Value) (k:Nat) (hk:∀ x,(enc x).length=k):∀ l:List α,(l.flatMap enc).length=l.length * k
 | []=>by simp
 | x::l=>by rw [List.flatMap_cons,List.length_append,hk,zrw enc k hk l,List.length_cons,Nat.add_mul,Nat.one_mul,Nat.add_comm]
theorem zz1 {α:Type} [Inhabited α] (enc:α→List Value) (k:Nat) (hk:∀ x,(enc x).length=k) (l:List α):flatK enc k l.toArray=(l.flatMap enc).toArray:=by
 refine ext_get! (by rw [size_flatK]; simp only [List.size_toArray,zrw enc k hk]) fun t ht=>?_;rw [size_flatK,List.size_toArray] at ht;rw [get_flatK _ _ _ _ (by simpa using ht)]
 have:=z13l enc k hk l t ht
 simp at this ⊢;rw [this]
theorem zr5 {α:Type} [Inhabited α] (enc:α→List Value) (k:Nat) (hk:∀ x,(enc x).length=k) {w:World} {b:Nat} {C:Array Value} {T:TypeId} (l:List α) (hb:w.heap[b]? = some (.cells C T (0,0))) (hc:C.toList.take (l.length * k)=l.flatMap enc):HoldsK enc k w b 0 l.toArray:=by
 intro j hj;rw [zz1 enc k hk] at hj ⊢;have hj':j<(l.flatMap enc).length:=by simpa using hj
 constructor
 ·refine zly hb ?_;have e:(C.toList.take (l.length * k))[j]? = (l.flatMap enc)[j]? := by rw [hc]
  rw [List.getElem?_take_of_lt (by rw [zrw enc k hk] at hj'; exact hj'),List.getElem?_eq_getElem hj'] at e;rw [← Array.getElem?_toList,e]
  have:((l.flatMap enc).toArray)[j]! = (l.flatMap enc)[j]:=by rw [getElem!_pos _ j (by simpa using hj')]; simp
  rw [this]; rfl
 ·simp [World.frozen?,hb]
theorem zo5 {α:Type} [Inhabited α] (enc:α→List Value) (k:Nat) (w:World) (b n:Nat) (d:Array α) (os:Array Obj) {i:Nat} (hi:i<w.heap.size) (hne:i≠b):(sortWorldK enc k w b 0 n d os).heap[i]? = w.heap[i]? := by
 show (w.heap.modify b _++os)[i]? = _;rw [Array.getElem?_append_left (by simpa using hi),Array.getElem?_modify,if_neg (fun e=>hne e.symm)]
theorem z152 {α:Type} [Inhabited α] (enc:α→List Value) (k:Nat) (w:World) {b:Nat} (n:Nat) (d:Array α) (os:Array Obj) {C:Array Value} {T:TypeId} {fr:Nat × Nat} (hb:w.heap[b]? = some (.cells C T fr)):(sortWorldK enc k w b 0 n d os).heap[b]? = some (.cells (putCells id 0 (flatK enc k d) C) T fr):=by
 have hlt:b<w.heap.size:=(Array.getElem?_eq_some_iff.1 hb).1;show (w.heap.modify b _++os)[b]? = _;rw [Array.getElem?_append_left (by simpa using hlt),Array.getElem?_modify,if_pos rfl,hb];rfl
theorem z117 {α:Type} [Inhabited α] (enc:α→List Value) (k:Nat) (hk:∀ x,(enc x).length=k) (l:List α) (C:Array Value) (hC:l.length * k≤C.size):(putCells id 0 (flatK enc k l.toArray) C).toList.take (l.length * k)=l.flatMap enc:=by
 rw [zz1 enc k hk]
 apply List.ext_getElem?
 intro t;by_cases ht:t<l.length * k
 ·rw [List.getElem?_take_of_lt ht,Array.getElem?_toList];have hl:t<(l.flatMap enc).length:=by rw [zrw enc k hk]; exact ht
  simp only [putCells,Array.getElem?_mapIdx,Nat.sub_zero,Nat.zero_add,List.size_toArray,Nat.zero_le,true_and];rw [Array.getElem?_eq_getElem (by omega),Option.map_some,if_pos hl,List.getElem?_eq_getElem hl]
  have:((l.flatMap enc).toArray)[t]! = (l.flatMap enc)[t]:=by rw [getElem!_pos _ t (by simpa using hl)]; simp
  rw [this]; rfl
 ·rw [List.getElem?_eq_none (by simp; omega),List.getElem?_eq_none (by rw [zrw enc k hk]; omega)]
end
section
open Go Go.Shelf Go.RowKit Go.Sort
section
variable {α:Type} (x0:α) (cf:α→α→Int)
def ltI (l:List α) (i j:Nat):Int:=cf (l.getD i x0) (l.getD j x0)
def zwz (l:List α):List α:=(pdq (ltOf (ltI x0 cf l)) (Array.range l.length) 0 l.length (Lib.bitLen l.length) true true).toList.map fun i=>l.getD i x0
theorem swoI (hO:SWO (ltOf cf)) (l:List α):SWO (ltOf (ltI x0 cf l)) where
 irrefl x:=hO.irrefl _
 trans x y z h1 h2:=hO.trans _ _ _ h1 h2
 ntrans x y z h1 h2:=hO.ntrans _ _ _ h1 h2
theorem pdqI (hO:SWO (ltOf cf)) (l:List α):∃ d:List Nat,d.Perm (List.range l.length)∧zwz x0 cf l=d.map (fun i=>l.getD i x0)∧d.Pairwise fun i j=>¬ cf (l.getD j x0) (l.getD i x0)<0:=by
 have h:=pdq_sorts (ltOf (ltI x0 cf l)) (swoI x0 cf hO l) (Array.range l.length) 0 l.length (Lib.bitLen l.length) true true (Nat.zero_le _) (by simp) (Or.inl rfl);have hs:(pdq (ltOf (ltI x0 cf l)) (Array.range l.length) 0 l.length (Lib.bitLen l.length) true true).size=l.length:=by rw [h.1.1]; simp
 refine ⟨_,?_,rfl,?_⟩
 ·have p:=h.1.2.2;rw [Array.extract_eq_self_of_le (by omega),Array.extract_eq_self_of_le (by simp)] at p
  simpa using p
 ·rw [List.pairwise_iff_getElem];intro i j hi hj hij;have q:=h.2 i j (Nat.zero_le _) hij (by simpa [hs] using hj);rw [getElem!_pos _ i (by simpa using hi),getElem!_pos _ j (by simpa using hj)] at q
  simpa [ltOf,ltI] using q
theorem zlw (hO:SWO (ltOf cf)) (l:List α):(zwz x0 cf l).Perm l:=by
 obtain ⟨d,h1,h2,_⟩:=pdqI x0 cf hO l;rw [h2];refine (h1.map _).trans (List.Perm.of_eq ?_)
 apply List.ext_getElem (by simp)
 intro i h1 h2;simp [List.getD_eq_getElem?_getD,h2]
theorem zsl (hO:SWO (ltOf cf)) (l:List α):(zwz x0 cf l).Pairwise fun x y=>¬ cf y x<0:=by
 obtain ⟨d,_,h2,h3⟩:=pdqI x0 cf hO l;rw [h2,List.pairwise_map];exact h3
theorem zu2 (hO:SWO (ltOf cf)) (l:List α):(zwz x0 cf l).length=l.length:=(zlw x0 cf hO l).length_eq
end
theorem zus {α:Type} {R:Rep α} {S:Blk} {w:World}:∀ {l:List α} {cs:List Value} (i:Nat) (hi:i<l.length),z5r R S w cs l→R.rel S w ((cs.drop (i * R.sz)).take R.sz) l[i]
 | x::l,cs,0,hi,h=>by
  obtain ⟨c,d,rfl,h1,h2⟩:=h
  have:=R.len h1
  simp [← this,h1]
 | x::l,cs,i+1,hi,h=>by
  obtain ⟨c,d,rfl,h1,h2⟩:=h;have hc:=R.len h1
  have:=zus i (by simpa using hi) h2
  rw [show (i+1) * R.sz=c.length+i * R.sz by rw [hc,Nat.add_mul]; omega]
  simpa using this
theorem zqs (k:Nat):∀ (n:Nat) (cs:List Value),cs.length=n * k→(List.range n).flatMap (fun i=>(cs.drop (i * k)).take k)=cs
 | 0,cs,h=>by simp at h; simp [h]
 | n+1,cs,h=>by
  have ih:=zqs k n (cs.take (n * k)) (by rw [List.length_take,h,Nat.add_mul]; omega);rw [List.range_succ,List.flatMap_append];have e:(List.range n).flatMap (fun i=>(cs.drop (i * k)).take k)=(List.range n).flatMap (fun i=>((cs.take (n * k)).drop (i * k)).take k):=by
   simp only [List.flatMap_def]
   congr 1
   apply List.map_congr_left
   intro i hi;have hi':i<n:=by simpa using hi
   rw [List.drop_take,List.take_take]
   have:k≤n * k - i * k:=by
    rw [← Nat.sub_mul];exact Nat.le_mul_of_pos_left k (by omega)
   rw [Nat.min_eq_left this]
  rw [e,ih];simp only [List.flatMap_cons,List.flatMap_nil,List.append_nil];rw [List.take_of_length_le (l:=cs.drop (n * k)) (by rw [List.length_drop,h,Nat.add_mul]; omega),List.take_append_drop]
theorem zzm {α:Type} {R:Rep α} {S:Blk} {w:World} {enc:Nat→List Value} {g:Nat→α} (h:∀ i,R.rel S w (enc i) (g i)):∀ is:List Nat,z5r R S w (is.flatMap enc) (is.map g)
 | []=>rfl
 | i::is=>⟨enc i,is.flatMap enc,List.flatMap_cons,h i,zzm h is⟩
theorem zx0 {α:Type} {R:Rep α} (hagg:R.agg=true) (x0:α) (r0:List Value) (hz:∀ S w,R.rel S w r0 x0) (cf:α→α→Int) (hO:SWO (ltOf cf)) {P:Program} {f g T:Nat}
  (hnone:∀ (cap:Nat) (w:World),Calls P f #[.slice none 0 cap,.func (.func g) #[] #[]] w fun e w'=>e=.returned (.tuple #[])∧w'=w)
  (hsome:∀ (enc:Nat→List Value) (hk:∀ x,(enc x).length=R.sz) (h1:∀ x,∀ v∈enc x,v.oneCell'=true) (cf':Nat→Nat→Int) (hO:SWO (ltOf cf')) (blk cap:Nat) (d:Array Nat) (w:World),
   CmpLays P g #[] enc R.sz cf' blk 0 d.size w→HoldsK enc R.sz w blk 0 d→blk<w.heap.size→d.size<4611686018427387904 →
   Calls P f #[.slice (some ⟨blk,0,none⟩) d.size cap,.func (.func g) #[] #[]] w fun e w'=>e=.returned (.tuple #[])∧∃ n os,w'=sortWorldK enc R.sz w blk 0 n (pdq (ltOf cf') d 0 d.size (Lib.bitLen d.size) true true) os)
  (hcmp:∀ (x y:α) (c d:List Value) (S:Blk) (w W:World),R.rel S w c x→R.rel S w d y→Calls P g #[.agg c.toArray,.agg d.toArray] W fun e w'=>e=.returned (.int .i64 (cf x y))∧∃ q os',w'=grow (W.drewN q) os')
  (p0:Value) (c0:List α):z1u P f [.val p0,.val (.func (.func g) #[] #[])] [(1,some (p0,.list R T c0))] (chk (c0.length≤1000000) >>= fun _=>some (zwz x0 cf c0))
   (fun r nv=>⟨[],[(1,some (p0,.list R T r))]⟩):=by
 intro r hr H vs w hvs hres;have hb:c0.length≤1000000∧r=zwz x0 cf c0:=by
  unfold chk at hr
  split at hr
  ·rename_i h; simp at hr; exact ⟨h,hr.symm⟩
  ·simp at hr
 obtain ⟨hlen0,rfl⟩:=hb
 match vs,hvs with
 | [v0,v1],hvs =>
 obtain ⟨h0,h1,_⟩:=hvs;have e0:v0=p0:=h0.1;have e1:v1=.func (.func g) #[] #[]:=h1.1;subst e0; subst e1;have hc:=hres.conts 1 v0 _ rfl;have only:∀ r v c (q:z4l),lr [(1,some (v0,q))] r=some (v,c)→r=1∧v=v0∧c=q:=fun r v c q h=>by
  rw [z1a] at h
  split at h
  ·rename_i e; cases h; exact ⟨e.symm,rfl,rfl⟩
  ·simp [lr,lk] at h
 have hlen:=zu2 x0 cf hO;rcases hc with ⟨rfl,rfl⟩ | ⟨b,o,k1,k2,b',cap,C,k3,rfl,k4,k5,k6,k7⟩
 ·refine (hnone 0 w).mono fun e w' ⟨he,hw⟩=>?_;subst hw;refine ⟨fun _=>undef,[],he,trivial, fun r v c h=>?_, fun r v c r' v' c' h h' hne=>?_, fun r v c h b hb=>?_,zl0.rfl'⟩
  ·obtain ⟨rfl,rfl,rfl⟩:=only _ _ _ _ h
   have:zwz x0 cf ([]:List α)=[]:=List.eq_nil_of_length_eq_zero (by rw [hlen]; rfl);exact .inl ⟨rfl,this⟩
  ·exact absurd ((only _ _ _ _ h).1.trans (only _ _ _ _ h').1.symm) hne
  ·obtain ⟨rfl,rfl,rfl⟩:=only _ _ _ _ h; cases hb
 ·subst k3;simp only [z58,Option.some.injEq] at k1;subst k1;have hlt:b'<w.heap.size:=(Array.getElem?_eq_some_iff.1 k2).1;have hC:c0.length * R.sz≤C.size:=by rw [k6]; exact Nat.mul_le_mul_right _ k4
  let cs:=C.toList.take (c0.length * R.sz)
  have hcs:z5r R (Shr H [(1,some (.slice (some ⟨b',0,none⟩) c0.length cap,.list R T c0))] w) w cs c0:=k7
  let enc:Nat→List Value:=fun i=>if i<c0.length then (cs.drop (i * R.sz)).take R.sz else r0
  have henc:∀ i,R.rel (Shr H [(1,some (.slice (some ⟨b',0,none⟩) c0.length cap,.list R T c0))] w) w (enc i) (c0.getD i x0):=fun i=>by
   by_cases hi:i<c0.length
   ·have:=zus i hi hcs
    simp only [enc,if_pos hi,List.getD_eq_getElem?_getD,List.getElem?_eq_getElem hi,Option.getD_some]; exact this
   ·simp only [enc,if_neg hi,List.getD_eq_getElem?_getD,List.getElem?_eq_none (Nat.le_of_not_lt hi),Option.getD_none]; exact hz _ _
  have hk:∀ i,(enc i).length=R.sz:=fun i=>R.len (henc i);have hflat:(List.range c0.length).flatMap enc=cs:=by
   have:=zqs R.sz c0.length cs (hcs.len)
   rw [← this];simp only [List.flatMap_def]
   congr 1
   apply List.map_congr_left
   intro i hi;have hi':i<c0.length:=by simpa using hi
   simp only [enc,if_pos hi']
  have hH:HoldsK enc R.sz w b' 0 (Array.range c0.length):=by
   have:=zr5 enc R.sz hk (List.range c0.length) k2 (by rw [List.length_range,hflat])
   rwa [show (List.range c0.length).toArray=Array.range c0.length from by simp] at this
  have hso:=hsome enc hk (fun i v hv=>R.one (henc i) v hv) (ltI x0 cf c0) (swoI x0 cf hO c0) b' cap (Array.range c0.length) w
   (fun m os dk hdk x y=>hcmp _ _ _ _ _ w _ (henc x) (henc y)) hH hlt (by simp; omega)
  rw [Array.size_range] at hso;refine hso.mono fun e w' ⟨he,n,os,hw⟩=>?_;obtain ⟨d,d1,d2,-⟩:=(⟨_,rfl,rfl,trivial⟩:∃ d:List Nat,d=(pdq (ltOf (ltI x0 cf c0)) (Array.range c0.length) 0 c0.length (Lib.bitLen c0.length) true true).toList∧zwz x0 cf c0=d.map (fun i=>c0.getD i x0)∧True)
  have dl:d.length=c0.length:=by have:=hlen c0; rw [d2] at this; simpa using this
  have da:pdq (ltOf (ltI x0 cf c0)) (Array.range c0.length) 0 c0.length (Lib.bitLen c0.length) true true=d.toArray:=by rw [d1]
  rw [da] at hw;rw [d2];subst hw;have only':=only;have hst:z9q (Shr H [(1,some (.slice (some ⟨b',0,none⟩) c0.length cap,.list R T c0))] w) (Shr H [(1,some (.slice (some ⟨b',0,none⟩) c0.length cap,.list R T (d.map fun i=>c0.getD i x0)))] (sortWorldK enc R.sz w b' 0 n d.toArray os)) w (sortWorldK enc R.sz w b' 0 n d.toArray os):=fun i hi=>by
   have hne:i≠b':=fun e=>hi.2.1 1 _ _ rfl (by rw [e]; rfl);refine ⟨⟨?_, fun r v c h=>?_,hi.2.2⟩,zo5 enc R.sz w b' n _ os hi.1 hne⟩
   ·show i<(w.heap.modify b' _++os).size
    have:=hi.1
    simp; omega
   ·obtain ⟨rfl,rfl,rfl⟩:=only _ _ _ _ h;exact hi.2.1 1 _ _ rfl
  refine ⟨fun _=>undef,[],he,trivial, fun r v c h=>?_, fun r v c r' v' c' h h' hne=>?_, fun r v c h b hb=>?_,rfl,rfl,rfl,?_, fun i hi=>?_⟩
  ·obtain ⟨rfl,rfl,rfl⟩:=only _ _ _ _ h;refine .inr ⟨b',_,rfl,z152 enc R.sz w n _ os k2,b',cap,_, by rw [List.length_map,dl],rfl, by rw [List.length_map,dl]; exact k4,k5,?_,?_⟩
   ·rw [← k6]; simp [putCells]
   ·rw [List.length_map,z117 enc R.sz hk d C (by rw [dl]; exact hC)];exact zzm (fun i=>R.mono hst (henc i)) d
  ·exact absurd ((only _ _ _ _ h).1.trans (only _ _ _ _ h').1.symm) hne
  ·obtain ⟨rfl,rfl,rfl⟩:=only _ _ _ _ h;exact .inr ⟨1,_,_,rfl,hb⟩
  ·show w.heap.size≤(w.heap.modify b' _++os).size
   simp
  ·exact zo5 enc R.sz w b' n _ os hi.1 fun e=>hi.2 ⟨1,_,_,rfl, by rw [e]; rfl⟩
end
section
open Go
section
variable {σ β α ρ τ:Type}
theorem bs (x:α) (f:α→Option β):(some x >>= f)=f x:=rfl
theorem bS (x:α) (f:α→Option β):(some x >>= f)=f x:=Eq.trans (rfl:(some x >>= f)=f x) rfl
theorem or_l (r:ρ) (k:τ→Option ρ):z67 (some (.inl r)) k=some r:=rfl
theorem zu0 (t:τ) (k:τ→Option ρ):z67 (some (.inr t)) k=k t:=rfl
theorem z1s {F:σ→Option (Sum β σ)} {s:σ} {b:β} (h:F s=some (.inl b)):iter F s=some b:=by rw [iter,h]; rfl
theorem z24 {F:σ→Option (Sum β σ)} {s s':σ} (h:F s=some (.inr s')):iter F s=iter F s':=by rw [iter,h]; rfl
theorem zf0 {F:σ→Option (Sum β σ)} (I:σ→Prop) (μ:σ→Nat) (Q:β→Prop) (h:∀ s,I s→(∃ b,F s=some (.inl b)∧Q b)∨∃ s',F s=some (.inr s')∧I s'∧μ s'<μ s) (s:σ) (hs:I s):∃ b,iter F s=some b∧Q b:=by
 have key:∀ n s,μ s=n→I s→∃ b,iter F s=some b∧Q b:=by
  intro n
  induction n using Nat.strongRecOn with
  | _ n ih =>
   intro s hn hs;rcases h s hs with ⟨b,h1,h2⟩ | ⟨s',h1,h2,h3⟩
   ·exact ⟨b,z1s h1,h2⟩
   ·rw [z24 h1]; exact ih (μ s') (hn ▸ h3) s' rfl h2
 exact key _ s rfl hs
theorem z62 {F:σ→Option (Sum β σ)} (n:Nat) (I:Nat→σ→Prop) (Q:β→Prop) (h1:∀ i s,i<n→I i s→∃ s',F s=some (.inr s')∧I (i+1) s') (h2:∀ s,I n s→∃ b,F s=some (.inl b)∧Q b) (s:σ) (i:Nat) (hi:i≤n) (hs:I i s):∃ b,iter F s=some b∧Q b:=by
 have key:∀ k i s,n - i=k→i≤n→I i s→∃ b,iter F s=some b∧Q b:=by
  intro k
  induction k with
  | zero =>
   intro i s hk hi hs
   have:i=n:=by omega
   subst this;obtain ⟨b,h3,h4⟩:=h2 s hs;exact ⟨b,z1s h3,h4⟩
  | succ k ih =>
   intro i s hk hi hs;obtain ⟨s',h3,h4⟩:=h1 i s (by omega) hs;rw [z24 h3]; exact ih (i+1) s' (by omega) (by omega) h4
 exact key _ i s rfl hi hs
theorem z4b {F:σ→Option (Sum β σ)} (n:Nat) (g:Nat→σ) {b:β} (h1:∀ i,i<n→F (g i)=some (.inr (g (i+1)))) (h2:F (g n)=some (.inl b)):iter F (g 0)=some b:=by
 obtain ⟨b',h3,rfl⟩:=z62 n (fun i s=>s=g i) (fun x=>x=b) (fun i s hi hs=>⟨_, by rw [hs]; exact h1 i hi,rfl⟩) (fun s hs=>⟨_, by rw [hs]; exact h2,rfl⟩) (g 0) 0 (Nat.zero_le _) rfl;exact h3
theorem z0f {l:List α} {i:Nat} (h:i<l.length):idx l (i:Int)=some l[i]:=by simp [idx,h]
theorem z15k {l:List α} {i:Int} (h0:0≤i) (h:i.toNat<l.length):idx l i=some l[i.toNat]:=by simp [idx,h0,h]
theorem z8h {n:Nat} {v:Vector α n} {i:Nat} (h:i<n):z7m v (i:Int)=some v[i]:=by unfold z7m; rw [z0f (by simpa using h)]; simp
theorem zgz {n:Nat} {v:Vector α n} {i:Int} {x:α} {j:Nat} (hj:j<n):(zij v i x)[j]=if i.toNat=j then x else v[j]:=by
 unfold zij; rw [Vector.getElem_setIfInBounds hj]
theorem z3k {p:Prop} [Decidable p] (h:p):chk p=some ():=by simp [chk,h]
theorem z2y {by_:Nat} {b c:List α} (h:(b.length+c.length) * by_≤140737488355328):app by_ b c=some (b++c):=by simp [app,h]
theorem zj7 {by_:Nat} {x:α} {n:Nat} (h:by_ * n≤281474976710656) (h2:n≤9223372036854775807):mkn by_ x (n:Int)=some (List.replicate n x):=by
 unfold mkn; rw [if_pos ⟨by omega, by simpa using h, by omega⟩]; simp
theorem zm3 {b:List α} {i j:Nat} (h:i≤j) (hj:j≤b.length):cut b (i:Int) (j:Int)=some ((b.drop i).take (j - i)):=by
 unfold cut; rw [if_pos ⟨by omega, by omega, by omega⟩]; simp
end
theorem z12 {x:Int} (h1:-9223372036854775808≤x) (h2:x≤9223372036854775807):w64 x=x:=zfz h1 h2
theorem z0u {n:Nat} (h:n<9223372036854775807):w64 ((n:Int)+1)=((n+1:Nat):Int):=by rw [z12 (by omega) (by omega)]; omega
theorem zcp (a:UInt64) (n:Nat):(z71 a n).toNat=a.toNat / 2 ^ (min n 64):=by
 unfold z71;have h1:=UInt64.toNat_lt a;have h2:a.toNat / 2 ^ (min n 64)≤a.toNat:=Nat.div_le_self _ _
 simp; omega
theorem zma (a:UInt64) (n:Nat):(zop a n).toNat=a.toNat * 2 ^ (min n 64) % 18446744073709551616:=by
 unfold zop; simp
theorem z19f (a:UInt64) (k:Nat) (hk:k<64):((z71 a k &&& 1)==1)=a.toNat.testBit k:=by
 rw [Bool.eq_iff_iff,beq_iff_eq,← UInt64.toNat_inj,UInt64.toNat_and,zcp,Nat.min_eq_left (by omega)]
 have:(1:UInt64).toNat=1:=rfl
 rw [this,Nat.and_one_is_mod,Nat.testBit_eq_decide_div_mod_eq]
 simp
end
section
open Go
def bitLen (n:Nat):Nat:=if n=0 then 0 else n.log2+1
theorem zdv (n k:Nat) (h:2 ^ k≤n):bitLen n=k+bitLen (n / 2 ^ k):=by
 have hp:0<2 ^ k:=Nat.pow_pos (by decide);have h1:n / 2 ^ k≠0:=by
  have:1≤n / 2 ^ k:=(Nat.le_div_iff_mul_le hp).2 (by rw [Nat.one_mul]; exact h);omega
 have h2:n≠0:=by omega
 unfold bitLen;rw [if_neg h1,if_neg h2];have h3:n.log2=k+(n / 2 ^ k).log2:=by
  rw [Nat.log2_eq_iff h2];have h4:=(Nat.log2_eq_iff h1).1 rfl;refine ⟨?_,?_⟩
  ·rw [Nat.pow_add,Nat.mul_comm]; exact (Nat.le_div_iff_mul_le hp).1 h4.1
  ·rw [Nat.add_assoc,Nat.pow_add,Nat.mul_comm]; exact (Nat.div_lt_iff_lt_mul hp).1 h4.2
 omega
theorem zj4 (n k:Nat) (h:n<2 ^ k):bitLen n≤k:=by
 unfold bitLen; split
 ·omega
 ·rename_i h0; have:=(Nat.log2_lt h0).2 h; omega
def z105:ByteArray:=⟨#[0,1,2,2,3,3,3,3,4,4,4,4,4,4,4,4,5,5,5,5,5,5,5,5,5,5,5,5,5,5,5,5,6,6,6,6,6,6,6,6,6,6,6,6,6,6,6,6,6,6,6,6,6,6,6,6,6,6,6,6,6,6,6,6,7,7,7,7,7,7,7,7,7,7,7,7,7,7,7,7,7,7,7,7,7,7,7,7,7,7,7,7,7,7,7,7,7,7,7,7,7,7,7,7,7,7,7,7,7,7,7,7,7,7,7,7,7,7,7,7,7,7,7,7,7,7,7,7,8,8,8,8,8,8,8,8,8,8,8,8,8,8,8,8,8,8,8,8,8,8,8,8,8,8,8,8,8,8,8,8,8,8,8,8,8,8,8,8,8,8,8,8,8,8,8,8,8,8,8,8,8,8,8,8,8,8,8,8,8,8,8,8,8,8,8,8,8,8,8,8,8,8,8,8,8,8,8,8,8,8,8,8,8,8,8,8,8,8,8,8,8,8,8,8,8,8,8,8,8,8,8,8,8,8,8,8,8,8,8,8,8,8,8,8,8,8,8,8,8,8,8,8,8,8,8,8]⟩
set_option maxRecDepth 100000 in
theorem z10w:∀ x:Fin 256,z105.data[x.val]? = some (UInt8.ofNat (bitLen x.val)):=by decide +kernel
def z3h (n:Nat):List UInt8:=if h:n=0 then [] else UInt8.ofNat n::z3h (n / 256)
termination_by n
theorem zcx:z3h 0=[]:=by rw [z3h]; simp
theorem zgp (n:Nat) (h:n≠0):z3h n=UInt8.ofNat n::z3h (n / 256):=by rw [z3h]; simp [h]
def z26 (n:Nat):List UInt8:=if n≤247 then [UInt8.ofNat n] else UInt8.ofNat (247+(z3h n).length)::(z3h n).reverse
theorem zo3 (n:Nat):(z3h n).length=(bitLen n+7) / 8:=by
 induction n using Nat.strongRecOn with
 | _ n ih =>
  by_cases h:n=0
  ·subst h; rw [zcx]; simp [bitLen]
  ·rw [zgp n h,List.length_cons,ih (n / 256) (by omega)];by_cases h2:n<256
   ·have:n / 256=0:=by omega
    rw [this];have h3:bitLen n≤8:=zj4 n 8 h2;have h4:1≤bitLen n:=by unfold bitLen; rw [if_neg h]; omega
    simp [bitLen] at h3 h4 ⊢;rw [if_neg h] at h3 h4 ⊢; omega
   ·have:=zdv n 8 (by omega)
    rw [show (2:Nat) ^ 8=256 from rfl] at this;omega
theorem zw9 (n:Nat):∀ (i:Nat),i<(z3h n).length→(z3h n)[i]? = some (UInt8.ofNat (n / 256 ^ i)):=by
 induction n using Nat.strongRecOn with
 | _ n ih =>
  intro i hi;by_cases h:n=0
  ·subst h; rw [zcx] at hi; simp at hi
  ·rw [zgp n h] at hi ⊢
   cases i with
   | zero=>simp
   | succ i =>
    simp only [List.length_cons] at hi;rw [List.getElem?_cons_succ,ih (n / 256) (by omega) i (by omega),Nat.div_div_eq_div_mul]
    congr 3
    rw [Nat.pow_succ,Nat.mul_comm]
theorem zlr (n:Nat) (h:n<18446744073709551616):(z3h n).length≤8:=by
 rw [zo3]; have:=zj4 n 64 (by simpa using h); omega
theorem z1f (n:Nat) (h:n<18446744073709551616):1≤(z26 n).length∧(z26 n).length≤9:=by
 unfold z26; have:=zlr n h; split <;> simp <;> omega
def zc1 (n i:Nat):List UInt8:=UInt8.ofNat (247+(z3h n).length)::(List.replicate ((z3h n).length - i) 0++((z3h n).take i).reverse)
theorem ztd (n i:Nat) (h:i≤(z3h n).length):(zc1 n i).length=(z3h n).length+1:=by simp [zc1]; omega
theorem zq9 (n:Nat):(List.replicate ((z3h n).length+1) (0:UInt8)).set 0 (UInt8.ofNat (247+(z3h n).length))=zc1 n 0:=by
 simp [zc1,List.replicate_succ]
theorem zq3 (n i:Nat) (h:i<(z3h n).length):(zc1 n i).set ((z3h n).length - i) (UInt8.ofNat (n / 2 ^ (8 * i)))=zc1 n (i+1):=by
 have hg:=zw9 n i h;have he:n / 2 ^ (8 * i)=n / 256 ^ i:=by rw [Nat.pow_mul]
 rw [he];unfold zc1;obtain ⟨m,hm⟩:∃ m,(z3h n).length - i=m+1:=⟨(z3h n).length - i - 1, by omega⟩
 have hm2:(z3h n).length - (i+1)=m:=by omega
 rw [hm,hm2,List.set_cons_succ,List.take_succ_eq_append_getElem h,List.reverse_append,List.reverse_singleton,List.replicate_succ'];rw [List.getElem?_eq_getElem h,Option.some.injEq] at hg;rw [hg,List.append_assoc,List.set_append_right _ _ (by simp)]
 simp
theorem zqd (n:Nat) (h:247<n):zc1 n (z3h n).length=z26 n:=by
 unfold zc1 z26; rw [if_neg (by omega)]; simp
theorem zs8 (n m:Nat) (ds:List UInt8) (hm:m≠0) (h:z3h n=ds++z3h m):z3h n=(ds++[UInt8.ofNat (m % 256)])++z3h (m / 256):=by
 rw [h,zgp m hm,List.append_assoc]
 have:UInt8.ofNat (m % 256)=UInt8.ofNat m:=by
  apply UInt8.toNat_inj.1; simp
 rw [this]; rfl
theorem zni {α} {l a b:List α} (h:l=a++b):a.length≤l.length:=by rw [h]; simp
def zig (n:Int):Nat:=if 0≤n then (2 * n).toNat else (-2 * n - 1).toNat
theorem z188 {n:Int} (h1:-9223372036854775808≤n) (h2:n≤9223372036854775807):zig n<18446744073709551616:=by unfold zig; split <;> omega
end
section
open Go Go.RowKit
def zko (x:z02):Prop:=(fun _=>True) x.Kind∧inI x.Num∧(fun _=>True) x.Bits∧(fun s:List UInt8=>s.length≤9223372036854775807) x.Text∧True
def znv (x:z07):Prop:=(fun _=>True) x.Kind∧(fun s:List UInt8=>s.length≤9223372036854775807) x.Key∧zko x.Value∧True
def znu (x:z0c):Prop:=(fun _=>True) x.E∧(fun _=>True) x.S∧True
def zcr (x:z0a):Prop:=(fun _=>True) x.Author∧(fun l:List V3=>(∀ x∈l,(fun v:V3=>∀ x∈v.toList,(fun _=>True) x) x)∧l.length≤9223372036854775807) x.Preds∧(fun _=>True) x.Stamp∧znv x.Act∧znu x.Sig∧True
def z7o (x:z00):Prop:=(fun l:List V3=>(∀ x∈l,(fun v:V3=>∀ x∈v.toList,(fun _=>True) x) x)∧l.length≤9223372036854775807) x.IDs∧(fun l:List z0a=>(∀ x∈l,zcr x)∧l.length≤9223372036854775807) x.Ops∧True
end
section
open Go
theorem z12a {n k:Nat} (hn:n<9223372036854775808) (hk:k<9223372036854775808):andI (n:Int) (k:Int)=((n &&& k:Nat):Int):=by
 show IntKind.i64.wrap (BitVec.toNat (BitVec.ofInt 64 (n:Int) &&& BitVec.ofInt 64 (k:Int)):Int)=_;rw [BitVec.ofInt_natCast,BitVec.ofInt_natCast,BitVec.toNat_and,BitVec.toNat_ofNat,BitVec.toNat_ofNat,Nat.mod_eq_of_lt (by omega),Nat.mod_eq_of_lt (by omega)]
 have:=Nat.and_le_left (n:=n) (m:=k)
 exact zfz (by omega) (by omega)
def okb (c:UInt8):Bool:=decide (32≤c.toNat)&&decide (c.toNat≤126)
theorem zou {b:List UInt8} {q:Nat} (h:q<b.length) (ha:(b[q]).toNat<128):z9a b q=((b[q]).toNat,1):=by
 unfold z9a;exact decode_ascii ⟨b.toArray⟩ q (by show q<b.toArray.size; simpa using h) ha
theorem zzv {b:List UInt8} {q:Nat} (h:q<b.length) (ha:128≤(b[q]).toNat):128≤(z9a b q).1:=by
 unfold z9a;have e:((ByteArray.mk b.toArray).get! (q+0)).toNat=(b[q]).toNat:=by
  show ((ByteArray.mk b.toArray).get! q).toNat=_;simp [ByteArray.get!,h]
 simp only [Utf8.decode,e];rw [if_neg (by omega)]
 repeat' split
 all_goals (first | (simp only [Utf8.runeError]; omega) | (rename_i h1; simp at h1; omega) | omega)
theorem z12k (x:Int):zdn x=some (decide (x<32) || decide (126<x)):=by
 unfold zdn
 cases decide (x<32) <;> rfl
theorem zuw (b:List UInt8):∀ (rest pre:List UInt8),b=pre++rest →
  (rest.all okb=true→iter (z1o b true) pre.length=some (.inr ()))∧(rest.all okb=false→∃ i:Nat,iter (z1o b true) pre.length=some (.inl (i:Int)))
 | [],pre,e=>by
  refine ⟨fun _=>z1s ?_, fun h=>by simp at h⟩;subst e;unfold z1o
  simp
 | c::rest,pre,e=>by
  have hlen:pre.length<b.length:=by rw [e]; simp
  have hget:b[pre.length]'hlen=c:=by subst e; simp
  have hF:z1o b true pre.length=if ((decide (((z9a b pre.length).1:Int)<32) || decide (126<((z9a b pre.length).1:Int)))==true) then some (.inl (.inl (pre.length:Int))) else some (.inr (pre.length+(z9a b pre.length).2)):=by
   unfold z1o;rw [if_pos hlen];simp only [bs,z12k]
  cases hc:okb c with
  | false =>
   refine ⟨fun h=>by simp [hc] at h, fun _=>⟨pre.length,z1s ?_⟩⟩;rw [hF,if_pos];by_cases h8:c.toNat<128
   ·rw [zou hlen (by rw [hget]; exact h8),hget];simp only [okb,Bool.and_eq_false_iff,decide_eq_false_iff_not] at hc
    simp; omega
   ·have:=zzv hlen (by rw [hget]; omega)
    simp; omega
  | true =>
   simp only [okb,Bool.and_eq_true,decide_eq_true_eq] at hc;rw [zou hlen (by rw [hget]; omega),hget,if_neg (by simp; omega)] at hF;have ih:=zuw b rest (pre++[c]) (by simp [e]);simp only [List.length_append,List.length_cons,List.length_nil,Nat.zero_add] at ih;rw [z24 hF];have hc':okb c=true:=by simp [okb,hc]
   simpa [hc'] using ih
theorem zkp (b:List UInt8) (hb:b.length≤9223372036854775807):∀ (rest pre:List UInt8),b=pre++rest→iter (z4i b) (pre.length:Int)=some (if rest.all okb then .inr () else .inl false)
 | [],pre,e=>by
  refine z1s ?_;subst e;unfold z4i
  simp
 | c::rest,pre,e=>by
  have hlen:pre.length<b.length:=by rw [e]; simp
  have hget:b[pre.length]'hlen=c:=by subst e; simp
  have hF:z4i b (pre.length:Int)=if okb c then some (.inr ((pre.length+1:Nat):Int)) else some (.inl (.inl false)):=by
   unfold z4i;rw [if_pos (by simp <;> omega)]
   simp only [z0f hlen,hget,bs,z0u (show pre.length<9223372036854775807 by omega)];simp only [okb,UInt8.lt_iff_toNat_lt,UInt8.reduceToNat];by_cases h1:c.toNat<32
   ·have:¬ 32≤c.toNat:=by omega
    simp [h1,this]
   ·by_cases h2:126<c.toNat
    ·have:¬ c.toNat≤126:=by omega
     simp [h1,h2,this]
    ·have h3:32≤c.toNat:=by omega
     have h4:c.toNat≤126:=by omega
     simp [h1,h2,h3,h4]
  cases hc:okb c with
  | false=>rw [hc] at hF; rw [z1s hF]; simp [hc]
  | true =>
   rw [hc] at hF;rw [z24 hF];have ih:=zkp b hb rest (pre++[c]) (by simp [e]);simp only [List.length_append,List.length_cons,List.length_nil,Nat.zero_add] at ih;rw [ih]; simp [hc]
theorem zs9 (b:List UInt8) (hb:b.length≤9223372036854775807):z74 b=some (b.all okb):=by
 have h:=zkp b hb b [] rfl;unfold z74;rw [show (0:Int)=(([]:List UInt8).length:Int) from rfl,h]
 cases b.all okb <;> rfl
theorem z123 (b:List UInt8) (hb:b.length≤9223372036854775807):zgr b=some (if decide (30<(b.length:Int)) then (⟨0,0,0,[]⟩,4) else if b.all okb then (⟨3,0,0,b⟩,0) else (⟨0,0,0,[]⟩,8)):=by
 unfold zgr z4t z4u
 cases decide (30<(b.length:Int))
 ·simp only [Bool.false_eq_true,if_false];obtain ⟨h1,h2⟩:=zuw b b [] rfl;simp only [List.length_nil] at h1 h2
  cases h:b.all okb
  ·obtain ⟨i,hi⟩:=h2 h;rw [hi];simp only [or_l,bs];rw [if_pos (by simp)]; rfl
  ·rw [h1 h]; rfl
 ·rfl
theorem z12q (a:UInt64):zf6 a=some (((a.toNat / 4503599627370496 % 2048:Nat):Int),a % 4503599627370496):=by
 unfold zf6;simp only [bs];have h0:=UInt64.toNat_lt a;rw [zcp];have e1:(2:Nat) ^ (min 52 64)=4503599627370496:=by decide
 rw [e1,z12 (by omega) (by omega), show (2047:Int)=((2047:Nat):Int) from rfl,z12a (by omega) (by omega)]
 congr 2
 ·congr 1
  exact Nat.and_two_pow_sub_one_eq_mod _ 11
 ·apply UInt64.toNat_inj.1
  rw [UInt64.toNat_and,UInt64.toNat_mod];exact Nat.and_two_pow_sub_one_eq_mod _ 52
theorem z16p (a:UInt64):z7w a=some ((a.toNat / 4503599627370496 % 2048:Nat):Int):=by
 unfold z7w;have h0:=UInt64.toNat_lt a;simp only [bs,UInt64.toNat_div,UInt64.toNat_mod,UInt64.reduceToNat];rw [z12 (by omega) (by omega)]
 congr 2
 omega
def zsd (a:UInt64):Nat:=a.toNat / 4503599627370496 % 2048
def mant (a:UInt64):Nat:=a.toNat % 4503599627370496
theorem z14x (a:UInt64):zsd a<2048:=Nat.mod_lt _ (by omega)
def clsF (a:UInt64):UInt8:=if zsd a=2047 then (if mant a=0 then 4 else 5) else if zsd a=0 then (if mant a=0 then 1 else 2) else 3
theorem z13o (a:UInt64):(a % 4503599627370496==0)=decide (mant a=0):=by
 rw [Bool.eq_iff_iff];simp only [beq_iff_eq,decide_eq_true_eq,← UInt64.toNat_inj,UInt64.toNat_mod];rfl
theorem zx2 (a:UInt64):zf9 a=some (clsF a):=by
 unfold zf9 clsF;rw [z12q];simp only [bs];have hm:=z13o a;have hne:(a % 4503599627370496 != 0)=!decide (mant a=0):=by rw [← hm]; rfl
 have he:((a.toNat / 4503599627370496 % 2048:Nat):Int)=(zsd a:Int):=rfl;rw [hne,he];by_cases h1:zsd a=2047
 ·rw [h1];by_cases h2:mant a=0
  ·rw [decide_eq_true h2,if_pos h2]; rfl
  ·rw [decide_eq_false h2,if_neg h2]; rfl
 ·have e1:((zsd a:Int)==2047)=false:=by simp; omega
  rw [if_neg h1,e1];simp only [Bool.false_eq_true,if_false,bs];by_cases h0:zsd a=0
  ·rw [h0];by_cases h2:mant a=0
   ·rw [decide_eq_true h2,if_pos h2]; rfl
   ·rw [decide_eq_false h2,if_neg h2]; rfl
  ·have e0:((zsd a:Int) != 0)=true:=by simp; omega
   rw [e0,if_neg h0]; rfl
theorem zwt (a:UInt64):z9w a=some (clsF a):=by
 unfold z9w za8 clsF;rw [z16p];simp only [bs];rw [z13o a];have hx:=z14x a;show z67 (if ((zsd a:Int)==0)=true then if decide (mant a=0)=true then some (.inl 1) else some (.inr ()) else some (.inr ())) (fun s5=>if ((zsd a:Int)==0)=true then some 2 else if decide ((zsd a:Int)<2047)=true then some 3 else if decide (mant a=0)=true then some 4 else some 5)=_;by_cases h1:zsd a=2047
 ·rw [h1];by_cases h2:mant a=0 <;> simp [h2,zu0,or_l]
 ·by_cases h0:zsd a=0
  ·rw [h0];by_cases h2:mant a=0 <;> simp [h2,zu0,or_l]
  ·have e0:((zsd a:Int)==0)=false:=by simp; omega
   have e2:decide ((zsd a:Int)<2047)=true:=by simp; omega
   rw [e0,e2,if_neg h1,if_neg h0]; rfl
def zjm (a:UInt64):UInt64:=if clsF a=5 then 9221120237041090560 else a
theorem z10o (a:UInt64):zfd a=some (zjm a):=by
 unfold zfd zjm;rw [zx2];simp only [bs];by_cases h:clsF a=5 <;> simp [h]
theorem z109 (a:UInt64):z9y a=some (zjm a):=by
 unfold z9y zjm;rw [zwt];simp only [bs];by_cases h:clsF a=5 <;> simp [h]
theorem zy5 (a:UInt64):zex a=some ⟨2,0,zjm a,[]⟩:=by
 unfold zex; rw [z10o]; rfl
def okV (v:z02):Bool :=
 if v.Kind=1 then decide (v.Bits=0)&&decide (v.Text=[])
 else if v.Kind=2 then decide (v.Num=0)&&decide (v.Text=[])&&decide (zjm v.Bits=v.Bits)
 else if v.Kind=3 then decide (v.Num=0)&&decide (v.Bits=0)&&decide (v.Text.length≤30)&&v.Text.all okb
 else false
theorem z10f (v:z02) (hb:v.Text.length≤9223372036854775807):za0 v=some (if okV v then 0 else 8):=by
 obtain ⟨K,n,f,t⟩:=v;unfold za0 okV;simp only at hb ⊢;rw [z109,zs9 t hb];by_cases h1:K=1
 ·subst h1;by_cases hf:f=0 <;> by_cases ht:t=[] <;> simp [hf,ht]
 by_cases h2:K=2
 ·subst h2;by_cases hn:n=0 <;> by_cases ht:t=[] <;> by_cases hc:zjm f=f <;> simp [hn,ht,hc,bs]
 by_cases h3:K=3
 ·subst h3;by_cases hl:t.length≤30
  ·have hl':(t.length:Int)≤30:=by omega
   by_cases hn:n=0 <;> by_cases hf:f=0 <;> cases t.all okb <;> simp [hn,hf,hl,hl',bs]
  ·have hl':¬ (t.length:Int)≤30:=by omega
   by_cases hn:n=0 <;> by_cases hf:f=0 <;> simp [hn,hf,hl,hl',bs]
 ·simp [h1,h2,h3]
theorem zmn (v:z02) (hb:v.Text.length≤9223372036854775807):zbg v=some (if okV v then 0 else 8):=by
 obtain ⟨K,n,f,t⟩:=v;unfold zbg zgh okV;simp only at hb ⊢;rw [zy5,z123 t hb];by_cases h1:K=1
 ·subst h1;by_cases hf:f=0 <;> by_cases ht:t=[] <;> simp [hf,ht,bs]
 by_cases h2:K=2
 ·subst h2;by_cases hc:zjm f=f
  ·by_cases hn:n=0 <;> by_cases ht:t=[] <;> simp [hn,ht,hc,bs]
  ·have hc':¬ f=zjm f:=fun e=>hc e.symm;by_cases hn:n=0 <;> by_cases ht:t=[] <;> simp [hn,ht,hc,hc',bs]
 by_cases h3:K=3
 ·subst h3;by_cases hl:30<(t.length:Int)
  ·have h4:¬ t.length≤30:=by omega
   rw [decide_eq_true hl,decide_eq_false h4];simp [bs]
  ·have h4:t.length≤30:=by omega
   rw [decide_eq_false hl,decide_eq_true h4]
   cases t.all okb <;> by_cases hn:n=0 <;> by_cases hf:f=0 <;> simp [hn,hf,bs]
 ·have e1:(K==1)=false:=by simpa using h1
  have e2:(K==2)=false:=by simpa using h2
  have e3:(K==3)=false:=by simpa using h3
  simp only [e1,e2,e3,Bool.false_eq_true,if_false,bs,h1,h2,h3];by_cases h0:K=0
  ·subst h0
   split <;> rfl
  ·simp [h0]
end
section
open Go
theorem zwy:∀ (n:Nat) (a:UInt64) (ds:List UInt8) (N:Nat),a.toNat=n→z3h N=ds++z3h n→(z3h N).length≤8→iter z5d (a,ds)=some (z3h N):=by
 intro n
 induction n using Nat.strongRecOn with
 | _ n ih =>
  intro a ds N ha hd hl;by_cases h0:n=0
  ·subst h0;refine z1s ?_;unfold z5d;rw [if_neg (by simp [UInt64.lt_iff_toNat_lt,ha])];rw [zcx,List.append_nil] at hd;rw [hd]
  ·have hF:z5d (a,ds)=some (.inr (a / 256,ds++[(a % 256).toUInt8])):=by
    unfold z5d;rw [if_pos (by simp [UInt64.lt_iff_toNat_lt,ha]; omega)]
    have:ds.length≤8:=Nat.le_trans (zni hd) hl
    simp only [z2y (show (ds.length+[(a % 256).toUInt8].length) * 1≤140737488355328 by simp; omega),bs]
   rw [z24 hF];have hd2:=zs8 N n ds h0 hd;refine ih (n / 256) (Nat.div_lt_self (by omega) (by omega)) _ _ N ?_ ?_ hl
   ·simp [ha]
   ·rw [hd2]
    congr 2
    congr 1
    apply UInt8.toNat_inj.1
    simp [ha]
theorem zqb (s:List UInt8) (hl:s.length≤8):∀ (i:Nat) (acc:List UInt8),i≤s.length→acc.length+i≤100→iter (z5a s) (acc,(i:Int) - 1)=some (acc++(s.take i).reverse)
 | 0,acc,_,_=>by
  refine z1s ?_;unfold z5a;rw [if_neg (by simp)]; simp
 | i+1,acc,hi,ha=>by
  have hlt:i<s.length:=by omega
  have e:((i+1:Nat):Int) - 1=(i:Int):=by omega
  have hF:z5a s (acc,((i+1:Nat):Int) - 1)=some (.inr (acc++[s[i]],(i:Int) - 1)):=by
   unfold z5a;rw [e,if_pos (by simp)];simp only [z0f hlt,bs];rw [z2y (by simp; omega)];simp only [bs,z12 (show -9223372036854775808≤(i:Int) - 1 by omega) (by omega)]
  rw [z24 hF,zqb s hl i _ (by omega) (by simp; omega)]
  have:List.take (i+1) s=List.take i s++[s[i]]:=by rw [List.take_add_one,List.getElem?_eq_getElem hlt]; rfl
  rw [this]; simp only [List.reverse_append,List.reverse_cons,List.reverse_nil,List.nil_append,List.append_assoc]
theorem z7n (a:UInt64):z2n a=some (z26 a.toNat):=by
 unfold z2n z26;have h0:=UInt64.toNat_lt a;by_cases h:a.toNat≤247
 ·have h':decide (a≤247)=true:=by simpa [UInt64.le_iff_toNat_le] using h
  rw [if_pos h',if_pos h]
  congr 2
 ·have h':¬ decide (a≤247)=true:=by simpa [UInt64.le_iff_toNat_le] using h
  rw [if_neg h',if_neg h];have hd:=zlr a.toNat h0;rw [zwy a.toNat a [] a.toNat rfl rfl hd];simp only [bs];rw [z12 (show -9223372036854775808≤((z3h a.toNat).length:Int) - 1 by omega) (by omega),z12 (show -9223372036854775808≤247+((z3h a.toNat).length:Int) by omega) (by omega)];rw [zqb _ hd _ _ (Nat.le_refl _) (by simp; omega)];simp only [bs,List.take_length];rw [show (247+((z3h a.toNat).length:Int))=((247+(z3h a.toNat).length:Nat):Int) by omega]
  congr 1
  show _::_=_
  congr 1
  apply UInt8.toNat_inj.1
  simp [UInt8.ofInt];omega
theorem zvz (a:UInt64) (k:Nat) (hk:k=(z3h a.toNat).length) (hk8:k≤8):iter (zbi a (k:Int)) (zc1 a.toNat 0,0)=some (zc1 a.toNat k):=by
 refine z4b k (fun i=>(zc1 a.toNat i,(i:Int))) (fun i hi=>?_) ?_
 ·have hf:=ztd a.toNat i (by omega);unfold zbi;rw [if_pos (by simp; omega)];simp only [z12 (show -9223372036854775808≤8 * (i:Int) by omega) (by omega),z3k (show (0:Int)≤8 * (i:Int) by omega),bs,z12 (show -9223372036854775808≤(k:Int) - (i:Int) by omega) (by omega),z0u (show i<9223372036854775807 by omega)];rw [z15k (by omega) (by omega)];simp only [bs]
  have:=zq3 a.toNat i (by omega)
  rw [← this];have e1:((k:Int) - (i:Int)).toNat=(z3h a.toNat).length - i:=by omega
  have e2:(z71 a (8 * (i:Int)).toNat).toUInt8=UInt8.ofNat (a.toNat / 2 ^ (8 * i)):=by
   apply UInt8.toNat_inj.1
   have e3:(8 * (i:Int)).toNat=8 * i:=by omega
   rw [e3];simp only [UInt64.toNat_toUInt8,zcp,Nat.min_eq_left (show 8 * i≤64 by omega)]
   simp
  rw [e1,e2]
 ·unfold zbi;rw [if_neg (by simp)]
theorem zgv (a:UInt64) (k:Nat) (hk:k<64):(z71 a k).toNat=a.toNat / 2 ^ k:=by rw [zcp,Nat.min_eq_left (by omega)]
set_option maxRecDepth 100000 in
theorem z113 (a:UInt64):zar a=some (bitLen a.toNat:Int):=by
 unfold zar;have h0:=UInt64.toNat_lt a;have s1:∃ (y:UInt64) (n:Nat),(if decide (4294967296≤a) then some (z71 a 32,(32:Int)) else some (a,0))=some (y,(n:Int))∧y.toNat<2 ^ 32∧n≤32∧bitLen a.toNat=n+bitLen y.toNat:=by
  by_cases h:4294967296≤a.toNat
  ·refine ⟨z71 a 32,32, by rw [if_pos (by simpa [UInt64.le_iff_toNat_le] using h)]; rfl,?_, by omega,?_⟩
   ·rw [zgv a 32 (by omega)]; omega
   ·rw [zgv a 32 (by omega)]; exact zdv _ 32 (by omega)
  ·exact ⟨a,0, by rw [if_neg (by simpa [UInt64.le_iff_toNat_le] using h)]; rfl, by omega, by omega, by omega⟩
 obtain ⟨y,n,e1,hy,hn,hb⟩:=s1;rw [e1]; simp only [bs];have s2:∃ (z:UInt64) (k:Nat),(if decide (65536≤y) then some (z71 y 16) >>= fun y5=>some (w64 ((n:Int)+16)) >>= fun y6=>some (y5,y6) else some (y,(n:Int)))=some (z,(k:Int))∧z.toNat<2 ^ 16∧k≤48∧bitLen a.toNat=k+bitLen z.toNat:=by
  by_cases h:65536≤y.toNat
  ·refine ⟨z71 y 16,n+16, by rw [if_pos (by simpa [UInt64.le_iff_toNat_le] using h)]; simp only [bs,z12 (show -9223372036854775808≤(n:Int)+16 by omega) (by omega)]; rfl,?_, by omega,?_⟩
   ·rw [zgv y 16 (by omega)]; omega
   ·rw [zgv y 16 (by omega),hb,zdv y.toNat 16 (by omega)]; omega
  ·exact ⟨y,n, by rw [if_neg (by simpa [UInt64.le_iff_toNat_le] using h)], by omega, by omega,hb⟩
 obtain ⟨z,k,e2,hz,hk,hb2⟩:=s2;simp only [bs] at e2;rw [e2]; simp only [bs];have s3:∃ (x:UInt64) (j:Nat),(if decide (256≤z) then some (w64 ((k:Int)+8)) >>= fun y9=>some (z71 z 8,y9) else some (z,(k:Int)))=some (x,(j:Int))∧x.toNat<256∧j≤56∧bitLen a.toNat=j+bitLen x.toNat:=by
  by_cases h:256≤z.toNat
  ·refine ⟨z71 z 8,k+8, by rw [if_pos (by simpa [UInt64.le_iff_toNat_le] using h)]; simp only [bs,z12 (show -9223372036854775808≤(k:Int)+8 by omega) (by omega)]; rfl,?_, by omega,?_⟩
   ·rw [zgv z 8 (by omega)]; omega
   ·rw [zgv z 8 (by omega),hb2,zdv z.toNat 8 (by omega)]; omega
  ·exact ⟨z,k, by rw [if_neg (by simpa [UInt64.le_iff_toNat_le] using h)], by omega, by omega,hb2⟩
 obtain ⟨x,j,e3,hx,hj,hb3⟩:=s3;simp only [bs] at e3;rw [e3]; simp only [bs];have ht:=z10w ⟨x.toNat,hx⟩;have hx8:(x.toUInt8.toNat:Int)=((x.toNat:Nat):Int):=by simp; omega
 have hle:bitLen x.toNat≤8:=zj4 _ 8 (by omega);rw [hx8];have hlist:∀ (l:List UInt8),l=z105.data.toList→idx l ((x.toNat:Nat):Int)=some (UInt8.ofNat (bitLen x.toNat)):=fun l hl=>by
  subst hl;unfold idx;rw [if_pos (by omega)]
  simpa using ht
 refine Eq.trans (congrArg (fun o:Option UInt8=>o >>= fun x10=>some (w64 ((j:Int)+(x10.toNat:Int)))) (hlist _ ?hh)) ?_
 case hh=>rfl
 simp only [bs];have e4:((UInt8.ofNat (bitLen x.toNat)).toNat:Int)=(bitLen x.toNat:Int):=by simp; omega
 rw [e4,z12 (by omega) (by omega),hb3]
 simp
theorem z7x (a:UInt64):z6v a=some (z26 a.toNat):=by
 unfold z6v;have h0:=UInt64.toNat_lt a;by_cases h:a.toNat≤247
 ·have h':decide (a≤247)=true:=by simpa [UInt64.le_iff_toNat_le] using h
  unfold z26;rw [if_pos h',if_pos h]
  congr 2
 ·have h':¬ decide (a≤247)=true:=by simpa [UInt64.le_iff_toNat_le] using h
  rw [if_neg h',z113];have hd:=zlr a.toNat h0;have hl:=zo3 a.toNat;have hb:bitLen a.toNat≤64:=zj4 _ 64 h0;simp only [bs];rw [z12 (show -9223372036854775808≤(bitLen a.toNat:Int)+7 by omega) (by omega)];have e1:Int.tdiv ((bitLen a.toNat:Int)+7) 8=((z3h a.toNat).length:Int):=by
   rw [hl, show ((bitLen a.toNat:Int)+7)=((bitLen a.toNat+7:Nat):Int) by omega];rfl
  rw [e1,z12 (show -9223372036854775808≤((z3h a.toNat).length:Int) by omega) (by omega),z0u (by omega),zj7 (by omega) (by omega)];simp only [bs];rw [show (0:Int)=((0:Nat):Int) from rfl,z0f (by simp)];simp only [bs,Int.toNat_natCast];rw [z12 (show -9223372036854775808≤247+((z3h a.toNat).length:Int) by omega) (by omega)];have e2:UInt8.ofInt (247+((z3h a.toNat).length:Int))=UInt8.ofNat (247+(z3h a.toNat).length):=by
   apply UInt8.toNat_inj.1
   rw [show (247+((z3h a.toNat).length:Int))=((247+(z3h a.toNat).length:Nat):Int) by omega];simp [UInt8.ofInt];omega
  have:=zq9 a.toNat
  rw [e2,this]
  have:=zvz a (z3h a.toNat).length rfl hd
  rw [show (0:Int)=((0:Nat):Int) from rfl] at this;rw [this];simp only [bs];rw [zqd a.toNat (by omega)]
end
section
open Go
theorem okV3 {v:z02} (h:okV v=true) (k:v.Kind=3):v.Num=0∧v.Bits=0∧v.Text.length≤30∧v.Text.all okb=true:=by
 unfold okV at h; rw [if_neg (by rw [k]; decide),if_neg (by rw [k]; decide),if_pos k] at h
 simp only [Bool.and_eq_true,decide_eq_true_eq] at h;exact ⟨h.1.1.1,h.1.1.2,h.1.2,h.2⟩
theorem zpk {v:z02} (h:okV v=true):v.Kind=1∨v.Kind=2∨v.Kind=3:=by
 by_cases h1:v.Kind=1
 ·exact .inl h1
 by_cases h2:v.Kind=2
 ·exact .inr (.inl h2)
 by_cases h3:v.Kind=3
 ·exact .inr (.inr h3)
 ·unfold okV at h; simp [h1,h2,h3] at h
theorem z11m (x:UInt64):(x ^^^ 18446744073709551615).toNat=18446744073709551615 - x.toNat:=by
 have e:x ^^^ 18446744073709551615 = ~~~x:=by
  apply UInt64.eq_of_toBitVec_eq
  rw [UInt64.toBitVec_xor,UInt64.toBitVec_not];exact BitVec.xor_allOnes
 rw [e,UInt64.toNat_not]; rfl
theorem zcv (n:Int):(UInt64.ofInt n).toNat=(n % 18446744073709551616).toNat:=by
 simp [UInt64.ofInt]; omega
theorem z19u (n:Int) (h:inI n):((zop (UInt64.ofInt n) 1) ^^^ (UInt64.ofInt (shrI n 63))).toNat=zig n:=by
 obtain ⟨h1,h2⟩:=h;have es:(zop (UInt64.ofInt n) 1).toNat=(n % 18446744073709551616).toNat * 2 % 18446744073709551616:=by
  rw [zma,zcv]; rfl
 by_cases h0:0≤n
 ·have e:shrI n 63=0:=by
   unfold shrI;rw [show (2:Int) ^ (min 63 64)=9223372036854775808 from rfl,Int.fdiv_eq_ediv_of_nonneg _ (by omega)]; omega
  rw [e, show UInt64.ofInt 0=0 from rfl,UInt64.xor_zero,es];unfold zig; rw [if_pos h0]; omega
 ·have e:shrI n 63 = -1:=by
   unfold shrI;rw [show (2:Int) ^ (min 63 64)=9223372036854775808 from rfl,Int.fdiv_eq_ediv_of_nonneg _ (by omega)]; omega
  rw [e, show UInt64.ofInt (-1)=18446744073709551615 from rfl,z11m,es];unfold zig; rw [if_neg h0]; omega
theorem z10p (n:Int) (h:inI n):zfb n=some (z26 (zig n)):=by
 unfold zfb;rw [z7x,z19u n h]; rfl
theorem zrr (s:List UInt8) (h:s.length≤10000):zcj s=some (z26 s.length++s,0):=by
 unfold zcj;rw [if_neg (by simp; omega),z7x];have e:(UInt64.ofInt (s.length:Int)).toNat=s.length:=by rw [zcv]; omega
 have:=z1f s.length (by omega)
 simp only [bs,e];rw [z2y (by omega)]; rfl
def be8 (b:UInt64):List UInt8:=[(z71 b 56).toUInt8,(z71 b 48).toUInt8,(z71 b 40).toUInt8,(z71 b 32).toUInt8,(z71 b 24).toUInt8,(z71 b 16).toUInt8,(z71 b 8).toUInt8,(z71 b 0).toUInt8]
theorem zz0 (v:z02) (l:List UInt8) (k:Nat) (hl:l.length≤100) (hk:k≤56):z8m v (l,(k:Int))=some (.inr (l++[(z71 v.Bits k).toUInt8],(k:Int) - 8)):=by
 unfold z8m;rw [if_pos (by simp)];simp only;rw [z3k (by omega)];simp only [bs,Int.toNat_natCast];rw [z2y (by simp; omega)];simp only [bs];rw [z12 (by omega) (by omega)]
theorem z12t (v:z02):iter (z8m v) ([v.Kind],56)=some (v.Kind::be8 v.Bits):=by
 have hs:=fun l k h1 h2=>zz0 v l k h1 h2;rw [show (56:Int)=((56:Nat):Int) from rfl,z24 (hs [v.Kind] 56 (by simp) (by omega))];simp only [List.cons_append,List.nil_append, show ((56:Nat):Int) - 8=((48:Nat):Int) from rfl];rw [z24 (hs _ 48 (by simp) (by omega))];simp only [List.cons_append,List.nil_append, show ((48:Nat):Int) - 8=((40:Nat):Int) from rfl];rw [z24 (hs _ 40 (by simp) (by omega))];simp only [List.cons_append,List.nil_append, show ((40:Nat):Int) - 8=((32:Nat):Int) from rfl]
 rw [z24 (hs _ 32 (by simp) (by omega))];simp only [List.cons_append,List.nil_append, show ((32:Nat):Int) - 8=((24:Nat):Int) from rfl];rw [z24 (hs _ 24 (by simp) (by omega))];simp only [List.cons_append,List.nil_append, show ((24:Nat):Int) - 8=((16:Nat):Int) from rfl];rw [z24 (hs _ 16 (by simp) (by omega))];simp only [List.cons_append,List.nil_append, show ((16:Nat):Int) - 8=((8:Nat):Int) from rfl]
 rw [z24 (hs _ 8 (by simp) (by omega))];simp only [List.cons_append,List.nil_append, show ((8:Nat):Int) - 8=((0:Nat):Int) from rfl];rw [z24 (hs _ 0 (by simp) (by omega))];simp only [List.cons_append,List.nil_append];refine z1s ?_;unfold z8m;rw [if_neg (by simp)]; rfl
def encV (v:z02):List UInt8:=v.Kind::(if v.Kind=1 then z26 (zig v.Num) else if v.Kind=2 then be8 v.Bits else z26 v.Text.length++v.Text)
theorem ztz {n:Int} (h:inI n):zig n<18446744073709551616:=z188 h.1 h.2
theorem z178 (v:z02) (hI:inI v.Num) (hl:v.Text.length≤9223372036854775807):zdk v=some (if okV v then (encV v,0) else ([],8)):=by
 unfold zdk;rw [zmn v hl]
 cases hv:okV v
 ·rfl
 simp only [bs,if_true];rw [if_neg (by simp)];unfold encV;rcases zpk hv with k | k | k
 ·have h1:=z1f (zig v.Num) (ztz hI);rw [k,z10p v.Num hI];simp only [bs];rw [if_pos (by decide),z2y (by simp; omega)]; simp [bs]
 ·rw [k,if_neg (by decide),if_pos (by decide),if_neg (by decide),if_pos rfl,← k,z12t]; rfl
 ·have h3:=(okV3 hv k).2.2.1;have h1:=z1f v.Text.length (by omega);rw [k,zrr v.Text (by omega)];rw [if_neg (by decide),if_neg (by decide),if_pos (by decide),if_neg (by decide),if_neg (by decide),z3k (by omega)];simp only [bs];rw [z2y (by simp; omega)]; rfl
theorem zs7 (n:Int) (h:inI n):z8v n=some (z26 (zig n)):=by
 obtain ⟨h1,h2⟩:=h;unfold z8v;by_cases h0:0≤n
 ·rw [if_pos (by simpa using h0),z7n];have e:(2 * UInt64.ofInt n).toNat=zig n:=by
   rw [UInt64.toNat_mul,zcv, show (2:UInt64).toNat=2 from rfl];unfold zig; rw [if_pos h0]; omega
  rw [e]; rfl
 ·rw [if_neg (by simpa using h0),z7n];have e:((2 * UInt64.ofInt (w64 (0 - (w64 (n+1)))))+1).toNat=zig n:=by
   rw [z12 (x:=n+1) (by omega) (by omega),z12 (by omega) (by omega),UInt64.toNat_add,UInt64.toNat_mul,zcv, show (2:UInt64).toNat=2 from rfl, show (1:UInt64).toNat=1 from rfl];unfold zig; rw [if_neg h0]; omega
  rw [e]; rfl
theorem znw (s:List UInt8) (h:s.length≤100000):z7k s=some (z26 s.length++s):=by
 unfold z7k;rw [z7n];have e:(UInt64.ofInt (s.length:Int)).toNat=s.length:=by rw [zcv]; omega
 have:=z1f s.length (by omega)
 rw [e];simp only [bs];rw [z2y (by omega)]; rfl
theorem zyk (v:z02) (l:List UInt8) (k:Nat) (hl:l.length≤100) (hk:k≤7):z5k v (l,(k:Int))=some (.inr (l++[(z71 v.Bits (8 * k)).toUInt8],(k:Int) - 1)):=by
 unfold z5k;rw [if_pos (by simp)];simp only;have e:w64 (8 * (k:Int))=((8 * k:Nat):Int):=by rw [z12 (by omega) (by omega)]; omega
 rw [e,z3k (by omega)];simp only [bs,Int.toNat_natCast];rw [z2y (by simp; omega)];simp only [bs];rw [z12 (by omega) (by omega)]
theorem z11l (v:z02):iter (z5k v) ([v.Kind],7)=some (v.Kind::be8 v.Bits):=by
 have hs:=fun l k h1 h2=>zyk v l k h1 h2;rw [show (7:Int)=((7:Nat):Int) from rfl,z24 (hs [v.Kind] 7 (by simp) (by omega))];simp only [List.cons_append,List.nil_append, show ((7:Nat):Int) - 1=((6:Nat):Int) from rfl];rw [z24 (hs _ 6 (by simp) (by omega))];simp only [List.cons_append,List.nil_append, show ((6:Nat):Int) - 1=((5:Nat):Int) from rfl];rw [z24 (hs _ 5 (by simp) (by omega))];simp only [List.cons_append,List.nil_append, show ((5:Nat):Int) - 1=((4:Nat):Int) from rfl]
 rw [z24 (hs _ 4 (by simp) (by omega))];simp only [List.cons_append,List.nil_append, show ((4:Nat):Int) - 1=((3:Nat):Int) from rfl];rw [z24 (hs _ 3 (by simp) (by omega))];simp only [List.cons_append,List.nil_append, show ((3:Nat):Int) - 1=((2:Nat):Int) from rfl];rw [z24 (hs _ 2 (by simp) (by omega))];simp only [List.cons_append,List.nil_append, show ((2:Nat):Int) - 1=((1:Nat):Int) from rfl];rw [z24 (hs _ 1 (by simp) (by omega))]
 simp only [List.cons_append,List.nil_append, show ((1:Nat):Int) - 1=((0:Nat):Int) from rfl];rw [z24 (hs _ 0 (by simp) (by omega))];simp only [List.cons_append,List.nil_append];refine z1s ?_;unfold z5k;rw [if_neg (by simp)]; rfl
theorem zyy (v:z02) (hI:inI v.Num) (hv:okV v=true):z9r v=some (encV v):=by
 unfold encV z9r;rcases zpk hv with k | k | k
 ·have h1:=z1f (zig v.Num) (ztz hI);rw [k,zs7 v.Num hI];simp only [bs];rw [if_pos (by decide),z2y (by simp; omega)]; simp [bs]
 ·rw [k,if_neg (by decide),if_pos (by decide),if_neg (by decide),if_pos rfl,← k,z11l]; rfl
 ·have h3:=(okV3 hv k).2.2.1;have h1:=z1f v.Text.length (by omega);rw [k,znw v.Text (by omega)];rw [if_neg (by decide),if_neg (by decide),if_neg (by decide),if_neg (by decide),z3k (by omega)];simp only [bs];rw [z2y (by simp; omega)]; rfl
end
section
open Go
theorem z12b (a b:V3):∀ (n i:Nat),32 - i=n→i≤32→∃ r:Sum Int Unit,iter (z7h a b) (i:Int)=some r∧(z67 (some r) (fun _=>some 0)=some (Lib.compareBytes (a.toList.drop i) (b.toList.drop i))):=by
 intro n
 induction n with
 | zero =>
  intro i hn hi
  have:i=32:=by omega
  subst this;refine ⟨.inr (),z1s ?_,?_⟩
  ·unfold z7h; rw [if_neg (by simp)]
  ·rw [List.drop_eq_nil_of_le (by simp),List.drop_eq_nil_of_le (by simp)]; rfl
 | succ n ih =>
  intro i hn hi;have hlt:i<32:=by omega
  have da:a.toList.drop i=a[i]::a.toList.drop (i+1):=by rw [List.drop_eq_getElem_cons (by simpa using hlt)]; simp
  have db:b.toList.drop i=b[i]::b.toList.drop (i+1):=by rw [List.drop_eq_getElem_cons (by simpa using hlt)]; simp
  have hF:z7h a b (i:Int)=if decide (a[i]<b[i]) then some (.inl (.inl (-1))) else if decide (b[i]<a[i]) then some (.inl (.inl 1)) else some (.inr ((i+1:Nat):Int)):=by
   unfold z7h;rw [if_pos (by simp; omega)];simp only [z8h hlt,bs,z0u (show i<9223372036854775807 by omega)]
  rw [da,db,Lib.compareBytes];by_cases h1:a[i]<b[i]
  ·rw [decide_eq_true h1] at hF;exact ⟨_,z1s hF, by rw [if_pos h1]; rfl⟩
  ·rw [decide_eq_false h1] at hF;by_cases h2:b[i]<a[i]
   ·rw [decide_eq_true h2] at hF;exact ⟨_,z1s hF, by rw [if_neg h1,if_pos h2]; rfl⟩
   ·rw [decide_eq_false h2] at hF;obtain ⟨r,k1,k2⟩:=ih (i+1) (by omega) (by omega);exact ⟨r, by rw [z24 hF]; exact k1, by rw [if_neg h1,if_neg h2]; exact k2⟩
theorem zr1 (a b:V3):z86 a b=some (Lib.compareBytes a.toList b.toList):=by
 obtain ⟨r,h1,h2⟩:=z12b a b 32 0 rfl (by omega);unfold z86;rw [show (0:Int)=((0:Nat):Int) from rfl,h1]
 simpa using h2
theorem zsx (a b:V3):z87 a b=some (Lib.compareBytes a.toList b.toList):=by
 unfold z87 z6p; rfl
def z8l:List V3→Bool
 | a::b::l=>!decide (0≤Lib.compareBytes a.toList b.toList)&&z8l (b::l)
 | _=>true
theorem zml (l:List V3) (hl:l.length≤9223372036854775807):∀ (n i:Nat),l.length - i=n→1≤i→i≤l.length→iter (z4k l) (i:Int)=some (if z8l (l.drop (i - 1)) then .inr () else .inl false):=by
 intro n
 induction n with
 | zero =>
  intro i hn h1 hi
  have:i=l.length:=by omega
  refine z1s ?_;have e:l.drop (i - 1)=[l[i - 1]'(by omega)]:=by
   rw [List.drop_eq_getElem_cons (by omega),List.drop_eq_nil_of_le (by omega)]
  rw [e];unfold z4k;rw [if_neg (by simp; omega)];simp [z8l]
 | succ n ih =>
  intro i hn h1 hi;have hlt:i<l.length:=by omega
  have e:l.drop (i - 1)=l[i - 1]::l[i]::l.drop (i+1):=by
   rw [List.drop_eq_getElem_cons (by omega), show i - 1+1=i by omega,List.drop_eq_getElem_cons hlt]
  have e':l.drop (i+1 - 1)=l[i]::l.drop (i+1):=by rw [Nat.add_sub_cancel,List.drop_eq_getElem_cons hlt]
  have hF:z4k l (i:Int)=if decide (0≤Lib.compareBytes (l[i - 1]).toList (l[i]).toList) then some (.inl (.inl false)) else some (.inr ((i+1:Nat):Int)):=by
   unfold z4k;rw [if_pos (by simp; omega),z12 (by omega) (by omega), show ((i:Int) - 1)=((i - 1:Nat):Int) by omega];simp only [z0f hlt,z0f (show i - 1<l.length by omega),bs,zr1,z0u (show i<9223372036854775807 by omega)]
  rw [e,z8l]
  cases hc:decide (0≤Lib.compareBytes (l[i - 1]).toList (l[i]).toList) with
  | true=>rw [hc] at hF; rw [z1s hF]; rfl
  | false =>
   rw [hc] at hF;rw [z24 hF,ih (i+1) (by omega) (by omega) (by omega),e']; simp
theorem zrh (l:List V3) (hl:l.length≤9223372036854775807):z79 l=some (z8l l):=by
 unfold z79
 cases l with
 | nil =>
  rw [z1s (b:=.inr ()) (by unfold z4k; rw [if_neg (by simp)])]; rfl
 | cons x l =>
  have:=zml (x::l) hl _ 1 rfl (by omega) (by simp)
  rw [show (1:Int)=((1:Nat):Int) from rfl,this];simp only [Nat.sub_self,List.drop_zero]
  cases z8l (x::l) <;> rfl
theorem zsb (l:List V3) (hl:l.length≤9223372036854775806):∀ (n i:Nat),l.length - i=n→i≤l.length→∃ r,iter (z0o l l) ((i:Int),(i:Int))=some r∧(z8l (l.drop i)=true→∃ c,r=.inr c)∧(z8l (l.drop i)=false→∃ (k:Nat) (c:Int),r=.inl ((k:Int),c)):=by
 intro n
 induction n with
 | zero =>
  intro i hn hi
  have:i=l.length:=by omega
  refine ⟨.inr (i:Int),z1s ?_, fun _=>⟨_,rfl⟩, fun h=>?_⟩
  ·unfold z0o;rw [if_neg (by simp; omega)]
  ·rw [List.drop_eq_nil_of_le (by omega)] at h; simp [z8l] at h
 | succ n ih =>
  intro i hn hi;have hlt:i<l.length:=by omega
  by_cases h2:i+1<l.length
  ·have e:l.drop i=l[i]::l[i+1]::l.drop (i+2):=by rw [List.drop_eq_getElem_cons hlt,List.drop_eq_getElem_cons h2]
   have e':l.drop (i+1)=l[i+1]::l.drop (i+2):=by rw [List.drop_eq_getElem_cons h2]
   have hF:z0o l l ((i:Int),(i:Int))=if decide (0≤Lib.compareBytes (l[i]).toList (l[i+1]).toList) then some (.inl (.inl ((i:Int),((i+1:Nat):Int)))) else some (.inr (((i+1:Nat):Int),((i+1:Nat):Int))):=by
    unfold z0o zcc;rw [if_pos (by simp; omega)];simp only [z0f hlt,bs,z0u (show i<9223372036854775807 by omega)];rw [if_pos (by simp; omega),z12 (by omega) (by omega), show ((i+1:Nat):Int) - 1=(i:Int) by omega];simp only [z0f hlt,z0f h2,bs,zsx]
   rw [e,z8l]
   cases hc:decide (0≤Lib.compareBytes (l[i]).toList (l[i+1]).toList) with
   | true =>
    rw [hc] at hF;exact ⟨_,z1s hF, fun h=>by simp at h, fun _=>⟨i,_,rfl⟩⟩
   | false =>
    rw [hc] at hF;obtain ⟨r,k1,k2,k3⟩:=ih (i+1) (by omega) (by omega);rw [e'] at k2 k3;exact ⟨r, by rw [z24 hF]; exact k1, fun h=>k2 (by simpa using h), fun h=>k3 (by simpa using h)⟩
  ·have e:l.drop i=[l[i]]:=by rw [List.drop_eq_getElem_cons hlt,List.drop_eq_nil_of_le (by omega)]
   have hF:z0o l l ((i:Int),(i:Int))=some (.inr (((i+1:Nat):Int),((i+1:Nat):Int))):=by
    unfold z0o zcc;rw [if_pos (by simp; omega)];simp only [z0f hlt,bs,z0u (show i<9223372036854775807 by omega)];rw [if_neg (by simp; omega)];simp only [bs]; rfl
   obtain ⟨r,k1,k2,k3⟩:=ih (i+1) (by omega) (by omega);rw [List.drop_eq_nil_of_le (by omega)] at k2 k3;exact ⟨r, by rw [z24 hF]; exact k1, fun _=>k2 rfl, fun h=>by rw [e] at h; simp [z8l] at h⟩
theorem zvc (l:List V3) (hl:l.length≤9223372036854775806):zez l=some (z8l l):=by
 obtain ⟨r,k1,k2,k3⟩:=zsb l hl _ 0 rfl (by omega);unfold zez z2e z2w;rw [show ((0:Int),(0:Int))=(((0:Nat):Int),((0:Nat):Int)) from rfl,k1];simp only [List.drop_zero] at k2 k3
 cases h:z8l l with
 | true=>obtain ⟨c,rfl⟩:=k2 h; rfl
 | false =>
  obtain ⟨k,c,rfl⟩:=k3 h;simp only [or_l,bs];rw [decide_eq_true (by omega)]; rfl
def znm (l:List V3):List UInt8:=l.flatMap Vector.toList
theorem zim (l:List V3):(znm l).length=32 * l.length:=by
 induction l with
 | nil=>rfl
 | cons x l ih=>unfold znm at ih ⊢; rw [List.flatMap_cons,List.length_append,ih]; simp; omega
theorem zpy (l:List V3) (i:Nat) (hi:i<l.length):znm (l.take (i+1))=znm (l.take i)++(l[i]).toList:=by
 rw [List.take_add_one,List.getElem?_eq_getElem hi]; unfold znm; rw [List.flatMap_append,Option.toList_some,List.flatMap_cons,List.flatMap_nil,List.append_nil]
theorem z157 (l:List V3) (h:l.length≤1000) (s:List UInt8) (hs:s.length≤9):iter (z6n l) (s,0)=some (s++znm l):=by
 have:=z4b (F:=z6n l) (b:=s++znm l) l.length (fun i=>(s++znm (l.take i),(i:Int))) (fun i hi=>?_) ?_
 ·simpa [znm] using this
 ·unfold z6n;have hf:=zim (l.take i);rw [if_pos (by simp; omega)];simp only [z0f hi,bs];rw [z2y (by simp at hf ⊢; omega)];simp only [bs,z0u (show i<9223372036854775807 by omega),zpy l i hi,List.append_assoc]
 ·unfold z6n;rw [if_neg (by simp)]
  simp
theorem z18e (l:List V3) (h:l.length≤1000) (s:List UInt8) (hs:s.length≤9):iter (zd4 l) (s,0)=some (s++znm l):=by
 have:=z4b (F:=zd4 l) (b:=s++znm l) l.length (fun i=>(s++znm (l.take i),(i:Int))) (fun i hi=>?_) ?_
 ·simpa [znm] using this
 ·unfold zd4;have hf:=zim (l.take i);rw [if_pos (by simp; omega)];simp only [z0f hi,bs];rw [z2y (by simp at hf ⊢; omega)];simp only [bs,z0u (show i<9223372036854775807 by omega),zpy l i hi,List.append_assoc]
 ·unfold zd4;rw [if_neg (by simp)]
  simp
theorem zmy {n:Nat} (h:n<18446744073709551616):(UInt64.ofInt (n:Int)).toNat=n:=by
 simp [UInt64.ofInt]; omega
theorem z111 (l:List V3) (h:l.length≤1000):zaq l=some (z26 l.length++znm l):=by
 unfold zaq;have hn:=z1f l.length (by omega);rw [z7n,zmy (by omega)];simp only [bs];rw [z157 l h _ (by omega)]; rfl
theorem z14q (l:List V3) (h:l.length≤60) (hi:z8l l=true):zlb l=some (z26 l.length++znm l,0):=by
 unfold zlb;have hn:=z1f l.length (by omega);rw [if_neg (by simp; omega),zvc l (by omega),hi,z7x,zmy (by omega)];simp only [bs,Bool.not_true,Bool.false_eq_true,if_false];rw [z18e l (by omega) _ (by omega)]; rfl
end
section
open Go
def nk:List UInt8→Nat
 | []=>0
 | a::l=>a.toNat * 256 ^ l.length+nk l
theorem z15q:∀ l:List UInt8,nk l<256 ^ l.length
 | []=>by simp [nk]
 | a::l=>by
  have ih:=z15q l;have ha:=UInt8.toNat_lt a;simp only [nk,List.length_cons,Nat.pow_succ];have h1:(a.toNat+1) * 256 ^ l.length≤256 * 256 ^ l.length:=Nat.mul_le_mul_right _ (by omega);rw [Nat.add_mul,Nat.one_mul] at h1;omega
theorem zzz:∀ a b:List UInt8,a.length=b.length→Lib.compareBytes a b=(if nk a<nk b then -1 else if nk b<nk a then 1 else 0)∧(nk a=nk b→a=b)
 | [],[],_=>by simp [Lib.compareBytes,nk]
 | [],_::_,h=>by simp at h
 | _::_,[],h=>by simp at h
 | a::x,b::y,h=>by
  have hl:x.length=y.length:=by simpa using h
  obtain ⟨i1,i2⟩:=zzz x y hl;have lx:=z15q x;have ly:=z15q y;simp only [Lib.compareBytes,nk,hl] at *;have e:∀ u v:UInt8,u.toNat<v.toNat→u.toNat * 256 ^ y.length+256 ^ y.length≤v.toNat * 256 ^ y.length:=fun u v huv=>by
   have:=Nat.mul_le_mul_right (256 ^ y.length) (show u.toNat+1≤v.toNat from huv)
   rwa [Nat.add_mul,Nat.one_mul] at this
  by_cases h1:a<b
  ·have h1':a.toNat<b.toNat:=UInt8.lt_iff_toNat_lt.1 h1
   have:=e a b h1'
   rw [if_pos h1,if_pos (by omega)];exact ⟨rfl, fun h=>by omega⟩
  ·by_cases h2:b<a
   ·have h2':b.toNat<a.toNat:=UInt8.lt_iff_toNat_lt.1 h2
    have:=e b a h2'
    rw [if_neg h1,if_pos h2,if_neg (by omega),if_pos (by omega)];exact ⟨rfl, fun h=>by omega⟩
   ·have h3:a=b:=UInt8.toNat_inj.1 (by rw [UInt8.lt_iff_toNat_lt] at h1 h2; omega);subst h3;rw [if_neg h1,if_neg h1,i1];refine ⟨?_, fun h=>by rw [i2 (by omega)]⟩;by_cases c1:nk x<nk y
    ·rw [if_pos c1,if_pos (by omega)]
    ·by_cases c2:nk y<nk x
     ·rw [if_neg c1,if_pos c2,if_neg (by omega),if_pos (by omega)]
     ·rw [if_neg c1,if_neg c2,if_neg (by omega),if_neg (by omega)]
def kd (d:V3):Nat:=nk d.toList
theorem zq8 (a b:V3):Lib.compareBytes a.toList b.toList=if kd a<kd b then -1 else if kd b<kd a then 1 else 0:=(zzz a.toList b.toList (by simp)).1
theorem zqu {a b:V3} (h:kd a=kd b):a=b:=by
 have:=(zzz a.toList b.toList (by simp)).2 h
 exact Vector.toList_inj.1 this
theorem zqm (a b:V3):z87 a b=some (if kd a<kd b then -1 else if kd b<kd a then 1 else 0):=by rw [zsx,zq8]
theorem z14k (a b:V3):z86 a b=some (if kd a<kd b then -1 else if kd b<kd a then 1 else 0):=by rw [zr1,zq8]
theorem zyr (a b:V3):decide ((if kd a<kd b then (-1:Int) else if kd b<kd a then 1 else 0)<0)=decide (kd a<kd b):=by
 by_cases h:kd a<kd b
 ·simp [h]
 ·by_cases h2:kd b<kd a <;> simp [h,h2]
theorem z13e (a b:V3):decide (0≤(if kd a<kd b then (-1:Int) else if kd b<kd a then 1 else 0))=decide (kd b≤kd a):=by
 by_cases h:kd a<kd b
 ·have:¬ kd b≤kd a:=by omega
  simp [h,this]
 ·have h3:kd b≤kd a:=by omega
  by_cases h2:kd b<kd a <;> simp [h,h2,h3]
theorem z18h (a b:V3):((if kd a<kd b then (-1:Int) else if kd b<kd a then 1 else 0)==0)=decide (a=b):=by
 by_cases h:kd a<kd b
 ·have:a≠b:=fun e=>by rw [e] at h; omega
  simp [h,this]
 ·by_cases h2:kd b<kd a
  ·have:a≠b:=fun e=>by rw [e] at h2; omega
   simp [h,h2,this]
  ·have:a=b:=zqu (by omega)
   simp [h,h2,this]
theorem zup:∀ l:List V3,z8l l=true↔∀ i (h:i+1<l.length),kd (l[i]'(by omega))<kd l[i+1]
 | []=>by simp [z8l]
 | [a]=>by simp [z8l]
 | a::b::l=>by
  have ih:=zup (b::l);rw [z8l,Bool.and_eq_true,ih,zq8,z13e]
  constructor
  ·rintro ⟨h1,h2⟩ i hi
   cases i with
   | zero=>simpa using h1
   | succ i=>exact h2 i (by simpa using hi)
  ·intro h;refine ⟨?_, fun i hi=>h (i+1) (by simpa using hi)⟩
   have:=h 0 (by simp)
   simpa using this
theorem zgf:∀ l:List V3,z8l l=true↔l.Pairwise (fun a b=>kd a<kd b)
 | []=>by simp [z8l]
 | [a]=>by simp [z8l]
 | a::b::l=>by
  have ih:=zgf (b::l);rw [z8l,Bool.and_eq_true,ih,zq8,z13e]
  constructor
  ·rintro ⟨h1,h2⟩
   have h1':kd a<kd b:=by simpa using h1
   refine List.pairwise_cons.2 ⟨fun c hc=>?_,h2⟩;rcases List.mem_cons.1 hc with rfl | hc
   ·exact h1'
   ·have:=(List.pairwise_cons.1 h2).1 c hc; omega
  ·intro h;obtain ⟨h1,h2⟩:=List.pairwise_cons.1 h
   have:=h1 b (by simp)
   exact ⟨by simp; omega,h2⟩
theorem zx7 (l:List V3) (hl:l.length≤9223372036854775807):∃ b,z1d l=some b∧(b=true↔∀ i (h:i+1<l.length),kd (l[i]'(by omega))≤kd l[i+1]):=by
 have key:∀ n,n<l.length→∃ r:Sum Bool Unit,iter (z0x l) (n:Int)=some r∧((r=.inr ()∧∀ i (h:i+1<l.length),i+1≤n→kd (l[i]'(by omega))≤kd l[i+1])∨(r=.inl false∧∃ i,∃ h:i+1<l.length,¬ kd (l[i]'(by omega))≤kd l[i+1])):=by
  intro n
  induction n with
  | zero =>
   intro h;refine ⟨_,z1s ?_,.inl ⟨rfl, fun i _ h=>by omega⟩⟩;unfold z0x;rw [if_neg (by simp)]
  | succ n ih =>
   intro h;have hF:z0x l ((n+1:Nat):Int)=if decide (kd l[n+1]<kd l[n]) then some (.inl (.inl false)) else some (.inr (n:Int)):=by
    unfold z0x;rw [if_pos (by simp <;> omega),z0f h,z12 (by omega) (by omega), show (((n+1:Nat):Int) - 1)=(n:Int) by omega,z0f (by omega)]
    simp only [bS];rw [zqm];simp only [bS];rw [zyr]
   by_cases hc:kd l[n+1]<kd l[n]
   ·rw [decide_eq_true hc,if_pos rfl] at hF;exact ⟨_,z1s hF,.inr ⟨rfl,n,h, by omega⟩⟩
   ·rw [decide_eq_false hc,if_neg (by simp)] at hF;obtain ⟨r,h1,h2⟩:=ih (by omega);refine ⟨r, by rw [z24 hF]; exact h1,?_⟩;rcases h2 with ⟨h2,h3⟩ | h2
    ·refine .inl ⟨h2, fun i hi hn=>?_⟩;by_cases hin:i=n
     ·subst hin; omega
     ·exact h3 i hi (by omega)
    ·exact .inr h2
 unfold z1d;simp only [bS];by_cases h0:l.length=0
 ·refine ⟨true,?_, by simp; intro i hi; omega⟩;rw [h0,z12 (by omega) (by omega),z1s (b:=.inr ())]
  ·rfl
  ·unfold z0x;rw [if_neg (by simp)]
 ·obtain ⟨r,h1,h2⟩:=key (l.length - 1) (by omega);rw [z12 (by omega) (by omega), show ((l.length:Int) - 1)=((l.length - 1:Nat):Int) by omega,h1];rcases h2 with ⟨rfl,h3⟩ | ⟨rfl,i,hi,h3⟩
  ·exact ⟨true,rfl, by simp; exact fun i hi=>h3 i hi (by omega)⟩
  ·exact ⟨false,rfl, by simp; exact ⟨i,hi, by omega⟩⟩
theorem zp1 {k n j:Nat} (h:j<n):subi k n (j:Int)=some (k+j):=by unfold subi; rw [if_pos (by omega)]; simp
theorem zxe {α:Type} (b:List α) (k n:Nat) (x:α) (h:k+n≤b.length):(clr b k n x).length=b.length:=by
 unfold clr;simp only [List.length_append,List.length_take,List.length_replicate,List.length_drop]; omega
theorem zt3 (l:List V3) (s:Nat) (h1:1≤s) (hs:s<l.length) (hl:l.length≤9223372036854775806):∃ b:List V3 × Int,iter (z2o l s) (l,(s:Int),1)=some b∧b.1.length=l.length∧∃ j:Nat,b.2=(j:Int)∧j<l.length:=by
 refine z62 (F:=z2o l s) (l.length - s) (fun i st=>st.1.length=l.length∧st.2.2=(i:Int)∧1≤i∧∃ j:Nat,st.2.1=(j:Int)∧j+1≤s+i) _ ?_ ?_ _ 1 (by omega) ⟨rfl,rfl, by omega,s,rfl, by omega⟩
 ·rintro i ⟨c,j',i'⟩ hi ⟨e1,e2,e0,j,e3,e4⟩
  simp only at e1 e2 e3;subst e2 e3;unfold z2o;rw [if_pos (by simp; omega)];simp only [Int.toNat_natCast];rw [zp1 (by omega),z12 (x:=(i:Int) - 1) (by omega) (by omega), show ((i:Int) - 1)=((i - 1:Nat):Int) by omega,zp1 (by omega)];simp only [bS];rw [z0f (by omega),z0f (by omega)];simp only [bS];by_cases hc:c[s+i]'(by omega)=c[s+(i - 1)]'(by omega)
  ·rw [decide_eq_true hc,if_neg (by simp)];exact ⟨_,rfl,e1,z0u (by omega), by omega,j,rfl, by omega⟩
  ·rw [decide_eq_false hc,if_pos (by simp),z0f (by omega)];simp only [bS];exact ⟨_,rfl, by simpa using e1,z0u (by omega), by omega,j+1,z0u (by omega), by omega⟩
 ·rintro ⟨c,j',i'⟩ ⟨e1,e2,e0,j,e3,e4⟩
  simp only at e1 e2 e3;subst e2 e3;unfold z2o;rw [if_neg (by simp <;> omega)]
  exact ⟨_,rfl,e1,j,rfl, by omega⟩
theorem zv8 (l:List V3) (hl:l.length≤9223372036854775806):∃ c,z3d l=some c∧(c.length=l.length↔∀ i (h:i+1<l.length),l[i]'(by omega)≠l[i+1]):=by
 have key:∀ k n,l.length - n=k→1≤n→n≤l.length→∃ r:Sum (List V3) Unit,iter (z1j l) (n:Int)=some r∧((r=.inr ()∧∀ i (h:i+1<l.length),n≤i+1→l[i]'(by omega)≠l[i+1])∨(∃ c,r=.inl c∧c.length≠l.length∧∃ i,∃ h:i+1<l.length,l[i]'(by omega)=l[i+1])):=by
  intro k
  induction k with
  | zero =>
   intro n hk h1 hn;refine ⟨_,z1s ?_,.inl ⟨rfl, fun i _ h=>by omega⟩⟩;unfold z1j;rw [if_neg (by simp; omega)]
  | succ k ih =>
   intro n hk h1 hn;have hlt:n<l.length:=by omega
   by_cases hc:l[n]=l[n - 1]
   ·obtain ⟨⟨c,j'⟩,e1,e2,j,e3,e4⟩:=zt3 l n h1 hlt hl;simp only at e2 e3;subst e3;have hF:z1j l (n:Int)=some (.inl (.inl ((clr c j (c.length - j) (Vector.replicate 32 0)).take j))):=by
     unfold z1j;rw [if_pos (by simp; omega),z0f hlt,z12 (by omega) (by omega), show ((n:Int) - 1)=((n - 1:Nat):Int) by omega,z0f (by omega)];simp only [bS];rw [decide_eq_true hc,if_pos rfl,z3k (by omega)];simp only [bS];rw [e1];simp only [bS];rw [z3k (by omega),z3k (by simp; omega)];simp only [bS,Int.toNat_natCast];rw [show (0:Int)=((0:Nat):Int) from rfl,zm3 (by omega) (by rw [zxe _ _ _ _ (by omega)]; omega)]
     simp
    refine ⟨_,z1s hF,.inr ⟨_,rfl,?_,n - 1, by omega,?_⟩⟩
    ·rw [List.length_take]; omega
    ·have:n - 1+1=n:=by omega
     simp only [this]; exact hc.symm
   ·have hF:z1j l (n:Int)=some (.inr ((n+1:Nat):Int)):=by
     unfold z1j;rw [if_pos (by simp; omega),z0f hlt,z12 (x:=(n:Int) - 1) (by omega) (by omega), show ((n:Int) - 1)=((n - 1:Nat):Int) by omega,z0f (by omega)];simp only [bS];rw [decide_eq_false hc,if_neg (by simp),z0u (by omega)]
    obtain ⟨r,h2,h3⟩:=ih (n+1) (by omega) (by omega) (by omega);refine ⟨r, by rw [z24 hF]; exact h2,?_⟩;rcases h3 with ⟨h3,h4⟩ | h3
    ·refine .inl ⟨h3, fun i hi hni=>?_⟩;by_cases hin:i+1=n
     ·subst hin; exact fun e=>hc e.symm
     ·exact h4 i hi (by omega)
    ·exact .inr h3
 unfold z3d;by_cases h2:l.length<2
 ·rw [if_pos (by simp; omega)];exact ⟨l,rfl, by simp; intro i hi; omega⟩
 ·rw [if_neg (by simp; omega)];obtain ⟨r,e1,e2⟩:=key (l.length - 1) 1 rfl (by omega) (by omega);rw [show (1:Int)=((1:Nat):Int) from rfl,e1];rcases e2 with ⟨rfl,h3⟩ | ⟨c,rfl,h3,i,hi,h4⟩
  ·exact ⟨l,rfl, by simp; exact fun i hi=>h3 i hi (by omega)⟩
  ·exact ⟨c,rfl,⟨fun h=>absurd h h3, fun h=>absurd h4 (h i hi)⟩⟩
theorem z11f (l:List V3):z8l l=true↔(∀ i (h:i+1<l.length),kd (l[i]'(by omega))≤kd l[i+1])∧∀ i (h:i+1<l.length),l[i]'(by omega)≠l[i+1]:=by
 rw [zup]
 constructor
 ·intro h;refine ⟨fun i hi=>Nat.le_of_lt (h i hi), fun i hi e=>?_⟩
  have:=h i hi
  rw [e] at this; omega
 ·rintro ⟨h1,h2⟩ i hi
  have:=h1 i hi
  rcases Nat.lt_or_eq_of_le this with h | h
  ·exact h
  ·exact absurd (zqu h) (h2 i hi)
end
section
open Go Go.Shelf Go.RowKit Go.Lib Go.Sort
def zsc (a b:List UInt8):Int:=if zes a b then -1 else if zes b a then 1 else 0
theorem relT {S:Blk} {w:World} {c:List Value} {x:z11} (h:(z1h).rel S w c x):∃ s:ByteArray,s.data.toList=x.Key∧c=.string s::zbx x.ID:=by
 obtain ⟨c1,c2,rfl,⟨s,rfl,h1⟩,c3,c4,rfl,h2,h3⟩:=h;refine ⟨s,h1,?_⟩;have h3:c4=[]:=h3;rw [h3,List.append_nil,zoj h2]; rfl
theorem z17j (s:ByteArray) (W:World):Calls Tryz.prog 143 #[.string s] W fun e w'=>e=.returned (.bool false)∧w'=W:=by
 go_enter Tryz.func143,Tryz.ntmps143
 go_wp2
 go_ret
 exact ⟨by simp,rfl⟩
set_option maxHeartbeats 1000000 in
theorem z19v (s t:ByteArray) (W:World):Calls Tryz.prog 82 #[.string s,.string t] W fun e w'=>e=.returned (.int .i64 (zsc s.data.toList t.data.toList))∧w'=W:=by
 go_enter Tryz.func82,Tryz.ntmps82
 go_wp2_with (go_at_call 143; refine (z17j _ _).mono ?_; rintro e w' ⟨rfl,rfl⟩)
 ·rename_i h
  go_ret
  exact ⟨by rw [zsc,zes,← z3c,← z3c,h]; rfl,rfl⟩
 ·rename_i h K2 a2 K1 a1 K0 a0;have e:(binOp .gtr 9 (.string s) (.string t)).run Tryz.prog w'=.ok (.bool (Op.bytesLess t.toList s.toList)) w':=by
   rw [ze7]; rfl
  go_wp2
  rw [e];show K0 _ _;refine a0 _ _ ?_
  cases h2:Op.bytesLess t.toList s.toList
  all_goals refine a1 _ _ ?_
  all_goals go_wp2
  all_goals go_ret
  all_goals exact ⟨by rw [zsc,zes,zes,← z3c,← z3c,h,h2]; rfl,rfl⟩
set_option maxHeartbeats 1000000 in
theorem orE (i j:Int) (b:Nat) (W:World) (h0:W.cell? ⟨b,0+0,none⟩=some (.int .i64 i)) (h1:W.cell? ⟨b,0+1,none⟩=some (.int .i64 j)) :
  Calls Tryz.prog 81 #[.slice (some ⟨b,0,none⟩) 2 2] W fun e w'=>e=.returned (.int .i64 (if i=0 then j else i))∧w'=W:=by
 go_enter Tryz.func81,Tryz.ntmps81
 go_wp2
 go_loop [8] (fun t=>∃ k:Nat,k≤2∧t=.int .i64 k∧(0<k→i=0)∧(1<k→j=0)) (fun t=>match t with | .int _ n=>2 - n.toNat | _=>0)
 case atStart=>exact ⟨0, by omega,rfl, by omega, by omega⟩
 case round =>
  obtain ⟨k,hk,rfl,g0,g1⟩:=hrel;rcases (show k=0∨k=1∨k=2 by omega) with rfl | rfl | rfl
  ·go_wp2
   ·simp_all
   ·go_ret
    exact ⟨rfl,rfl⟩
   ·rename_i h;exact ⟨⟨1, by omega,rfl, fun _=>by simpa using h, by omega⟩, by simp⟩
  ·have e0:=g0 (by omega);subst e0
   go_wp2
   ·go_ret
    exact ⟨rfl,rfl⟩
   ·rename_i h;exact ⟨⟨2, by omega,rfl, by simp, fun _=>by simpa using h⟩, by simp⟩
  ·have e0:=g0 (by omega);have e1:=g1 (by omega);subst e0; subst e1
   go_wp2
   go_ret
   exact ⟨rfl,rfl⟩
theorem z12h (x y:V3) (b c o:Nat) (W:World) (hx:∀ j u,(zbx x)[j]? = some u→W.cell? ⟨b,o+j,none⟩=some u) (hy:∀ j u,(zbx y)[j]? = some u→W.cell? ⟨c,o+j,none⟩=some u) :
  (callFunc 144 #[.slice (some ⟨b,o,none⟩) 32 32,.slice (some ⟨c,o,none⟩) 32 32]).run Tryz.prog W=.ok (.value (.int .i64 (Lib.compareBytes x.toList y.toList))) W:=by
 have lx:x.toList.length=32:=by simp
 have ly:y.toList.length=32:=by simp
 have e:=zkj (P:=Tryz.prog) (w:=W) (p:=some ⟨b,o,none⟩) (q:=some ⟨c,o,none⟩) (c:=32) (d:=32) (x:=x.toList) (y:=y.toList) (xs:=zbx x) (ys:=zbx y)
  ⟨by rw [zqg,lx],.inr ⟨b,o,none,32, by rfl, by omega, by decide,.inr rfl,hx⟩⟩ rfl ⟨by rw [zqg,ly],.inr ⟨c,o,none,32, by rfl, by omega, by decide,.inr rfl,hy⟩⟩ rfl
 rw [lx,ly] at e;rw [run_callFunc_extern Tryz.func144 rfl rfl (by kernel_rfl) (by kernel_rfl),e];rfl
set_option maxHeartbeats 1000000 in
set_option maxRecDepth 100000 in
theorem zp0 (x y:V3) (b c o:Nat) (W:World) (hx:∀ j u,(zbx x)[j]? = some u→W.cell? ⟨b,o+j,none⟩=some u) (hy:∀ j u,(zbx y)[j]? = some u→W.cell? ⟨c,o+j,none⟩=some u) :
  Calls Tryz.prog 83 #[.slice (some ⟨b,o,none⟩) 32 32,.slice (some ⟨c,o,none⟩) 32 32] W fun e w'=>e=.returned (.int .i64 (Lib.compareBytes x.toList y.toList))∧w'=W:=by
 have e:=z12h x y b c o W hx hy
 go_enter Tryz.func83,Tryz.ntmps83
 go_wp2
 go_ret
 exact ⟨rfl,rfl⟩
theorem zz7 {W:World} {c:Array Value} {T:TypeId} {j:Nat} {u:Value} (h:c[j]? = some u):(W.alloc (.cells c T)).cell? ⟨W.heap.size,0+j,none⟩=some u :=
 zly (c:=c) (T:=T) (fr:=(0,0)) (by show (W.heap.push _)[W.heap.size]? = _; rw [Array.getElem?_push_size]) h
theorem z19s {W:World} {xs ys:List Value} {n j:Nat} {u:Value} (h:xs[j]? = some u):({ (W.alloc (.cells xs.toArray 103)).alloc (.cells ys.toArray 103) with drawn:=n }:World).cell? ⟨W.heap.size,j,none⟩=some u:=by
 have:=zly (w:={ (W.alloc (.cells xs.toArray 103)).alloc (.cells ys.toArray 103) with drawn:=n }) (b:=W.heap.size) (j:=j) (c:=xs.toArray) (T:=103) (fr:=(0,0)) (by
  show ((W.heap.push _).push _)[W.heap.size]? = _
  rw [Array.getElem?_push_lt (by simp)]; simp) (by simpa using h)
 rwa [Nat.zero_add] at this
theorem z1a1 {W:World} {xs ys:List Value} {n j:Nat} {u:Value} (h:ys[j]? = some u):({ (W.alloc (.cells xs.toArray 103)).alloc (.cells ys.toArray 103) with drawn:=n }:World).cell? ⟨W.heap.size+1,j,none⟩=some u:=by
 have:=zly (w:={ (W.alloc (.cells xs.toArray 103)).alloc (.cells ys.toArray 103) with drawn:=n }) (b:=W.heap.size+1) (j:=j) (c:=ys.toArray) (T:=103) (fr:=(0,0)) (by
  show ((W.heap.push _).push _)[W.heap.size+1]? = _
  have:W.heap.size+1=(W.heap.push (Obj.cells xs.toArray 103)).size:=by simp
  rw [this,Array.getElem?_push_size]) (by simpa using h)
 rwa [Nat.zero_add] at this
set_option maxHeartbeats 1000000 in
set_option maxRecDepth 100000 in
theorem tagE (s t:ByteArray) (x y:V3) (W:World) :
  Calls Tryz.prog 42 #[.agg (.string s::zbx x).toArray,.agg (.string t::zbx y).toArray] W fun e w'=>e=.returned (.int .i64 (if zsc s.data.toList t.data.toList=0 then Lib.compareBytes x.toList y.toList else zsc s.data.toList t.data.toList))∧∃ q os',w'=grow (W.drewN q) os':=by
 go_enter Tryz.func42,Tryz.ntmps42
 go_wp2
 obtain ⟨W1,hW1⟩:∃ W1,W1=(W.alloc (.cells (Value.string s::zbx x).toArray 103)).alloc (.cells (Value.string t::zbx y).toArray 103):=⟨_,rfl⟩
 rw [← hW1];refine wp_region_still_tail 10 (by kernel_rfl) (by kernel_rfl) ?_;obtain ⟨W2,hW2⟩:∃ W2:World,W2 = { W1 with drawn:=W1.drawn+1 }:=⟨_,rfl⟩
 rw [← hW2];have c0:∀ {j u},(Value.string s::zbx x)[j]? = some u→W2.cell? ⟨W.heap.size,j,none⟩=some u:=fun h=>by subst hW2; subst hW1; exact z19s h
 have c1:∀ {j u},(Value.string t::zbx y)[j]? = some u→W2.cell? ⟨W.heap.size+1,j,none⟩=some u:=fun h=>by subst hW2; subst hW1; exact z1a1 h
 have l0:=c0 (j:=0) (u:=.string s) rfl;have l1:=c1 (j:=0) (u:=.string t) rfl;have keep:∀ (o3:Obj) (W3:World),W3=W2.alloc o3→W3=grow (W.drewN 1) #[.cells (Value.string s::zbx x).toArray 103,.cells (Value.string t::zbx y).toArray 103,o3]:=fun o3 W3 e3=>by
  subst e3; subst hW2; subst hW1
  have:((W.heap.push (.cells (Value.string s::zbx x).toArray 103)).push (.cells (Value.string t::zbx y).toArray 103)).push o3=W.heap ++ #[.cells (Value.string s::zbx x).toArray 103,.cells (Value.string t::zbx y).toArray 103,o3]:=by apply Array.toList_inj.1; simp
  show ({ W with drawn:=W.drawn+1,heap:=((W.heap.push (.cells (Value.string s::zbx x).toArray 103)).push (.cells (Value.string t::zbx y).toArray 103)).push o3 }:World) = { W with drawn:=W.drawn+1,heap:=W.heap ++ #[.cells (Value.string s::zbx x).toArray 103,.cells (Value.string t::zbx y).toArray 103,o3] };rw [this]
 clear hW1 hW2
 simp only [List.take_succ_cons,List.take_zero,List.drop_succ_cons,List.drop_zero]
 iterate 4 still_step
 still_call (z19v s t _)
 iterate 4 still_step
 still_call (zp0 x y _ _ 1 _ (fun j u h=>c0 (by rw [Nat.add_comm]; exact h)) (fun j u h=>c1 (by rw [Nat.add_comm]; exact h)));refine wpStill_nil ?_
 go_wp2_with (go_at_call 81; refine (orE _ _ _ _ (zz7 rfl) (zz7 rfl)).mono ?_; rintro e w' ⟨rfl,rfl⟩)
 all_goals (go_ret; exact ⟨rfl,1,_,keep _ _ rfl⟩)
def zqr:z11:=(⟨[],(Vector.replicate 32 0)⟩:z11)
def cfT (x y:z11):Int:=if zsc x.Key y.Key=0 then Lib.compareBytes x.ID.toList y.ID.toList else zsc x.Key y.Key
theorem zzx (a b:List UInt8):Op.bytesLess a b=decide (a<b):=Go.Proofs.bytesLess_eq a b
theorem zsj (a b:List UInt8):zsc a b<0↔a<b:=by
 unfold zsc zes;rw [zzx,zzx];by_cases h:a<b
 ·simp [h]
 ·by_cases k:b<a <;> simp [h,k]
theorem zs6 (a b:List UInt8):zsc a b=0↔a=b:=by
 unfold zsc zes;have f:=ze7 a b
 cases h:Op.bytesLess a b <;> rw [h] at f
 ·cases k:(a==b) <;> rw [k] at f
  ·have e:a≠b:=by simpa using k
   have f:Op.bytesLess b a=true:=by simpa using f
   simp [f,e]
  ·have e:a=b:=by simpa using k
   subst e;simp [h]
 ·have e:a≠b:=fun e=>by
   subst e;rw [zzx] at h;exact absurd (of_decide_eq_true h) (List.lt_irrefl a)
  simp [e]
theorem zyh (x y:z11):cfT x y<0↔x.Key<y.Key∨x.Key=y.Key∧kd x.ID<kd y.ID:=by
 unfold cfT;have h:=zsj x.Key y.Key;have z:=zs6 x.Key y.Key;by_cases e:zsc x.Key y.Key=0
 ·rw [if_pos e,zq8];have e':=z.1 e;rw [e'];have c:=zyr x.ID y.ID;rw [decide_eq_decide] at c;rw [c];exact ⟨fun h=>.inr ⟨rfl,h⟩, fun h=>h.elim (fun h=>absurd h (List.lt_irrefl _)) And.right⟩
 ·rw [if_neg e,h];exact ⟨.inl, fun h=>h.elim id fun h=>absurd (z.2 h.1) e⟩
theorem ltT (x y:z11):ltOf cfT x y=decide (x.Key<y.Key∨x.Key=y.Key∧kd x.ID<kd y.ID):=by
 unfold ltOf;rw [decide_eq_decide]; exact zyh x y
theorem z15s (x y:List UInt8):x<y∨x=y∨y<x:=by
 have f:=ze7 x y;rw [zzx,zzx] at f;by_cases h:x<y
 ·exact .inl h
 by_cases e:x=y
 ·exact .inr (.inl e)
 ·have e':(x==y)=false:=by simpa using e
  rw [decide_eq_false h,e'] at f;exact .inr (.inr (by simpa using f))
theorem swoT:SWO (ltOf cfT) where
 irrefl x:=by rw [ltT]; simp [List.lt_irrefl]
 trans x y z h1 h2:=by
  rw [ltT,decide_eq_true_eq] at *;rcases h1 with h1 | ⟨h1,h3⟩ <;> rcases h2 with h2 | ⟨h2,h4⟩
  ·exact .inl (List.lt_trans h1 h2)
  ·exact .inl (h2 ▸ h1)
  ·exact .inl (h1 ▸ h2)
  ·exact .inr ⟨h1.trans h2, by omega⟩
 ntrans x y z h1 h2:=by
  rw [ltT,decide_eq_false_iff_not] at *;intro h;rcases h with h | ⟨h,h'⟩
  ·rcases z15s x.Key y.Key with k | k | k
   ·exact h1 (.inl k)
   ·exact h2 (.inl (k ▸ h))
   ·exact h2 (.inl (List.lt_trans k h))
  ·rcases z15s x.Key y.Key with k | k | k
   ·exact h1 (.inl k)
   ·by_cases q:kd x.ID<kd y.ID
    ·exact h1 (.inr ⟨k,q⟩)
    ·exact h2 (.inr ⟨k ▸ h, by omega⟩)
   ·exact h2 (.inl (h ▸ k))
def z15r (l:List (z11)):Option (List (z11)):=chk (l.length≤1000000) >>= fun _=>some (zwz zqr cfT l)
theorem z10u (p0:Value) (c0:List (z11)):z1u Tryz.prog 41 [.val p0,.val (.func (.func 42) #[] #[])] [(1,some (p0,.list z1h 103 c0))] (z15r c0) (fun r nv=>⟨[],[(1,some (p0,.list z1h 103 r))]⟩):=by
 refine zx0 rfl zqr _ zvn cfT swoT (fun cap w=>?_) (fun enc hk h1 cf' hO blk cap d w hc hH hb hs=>?_) (fun x y c d S w W hx hy=>?_) p0 c0
 ·exact AnyF.slices_SortFunc_none z13k none cap _ w
 ·have eg:∀ args w,(callFunc 42 args).run Tryz.prog w=.ok (.enter 42 args) w:=enters_of Tryz.func42 (by kernel_rfl) rfl;exact AnyQ.slices_SortFunc_eq z13k 33 Tryz.isAgg103 Tryz.sizeOf103 enc hk h1 cf' hO 42 #[] blk 0 cap d w eg hc hH hb hs
 ·obtain ⟨s,h1,rfl⟩:=relT hx;obtain ⟨t,h2,rfl⟩:=relT hy
  have:=tagE s t x.ID y.ID W
  unfold cfT;rw [← h1,← h2];exact this
end
section
open Go Go.Shelf Go.RowKit Go.Lib
def inrZ:Array Value:=#[.string ByteArray.empty,.int .u8 (0),.int .i64 (0),.int .u64 (0),.string ByteArray.empty,.int .u64 (0),.int .u8 (0),.int .u8 (0),.int .u8 (0),.int .u8 (0),.int .u8 (0),.int .u8 (0),.int .u8 (0),.int .u8 (0),.int .u8 (0),.int .u8 (0),.int .u8 (0),.int .u8 (0),.int .u8 (0),.int .u8 (0),.int .u8 (0),.int .u8 (0),.int .u8 (0),.int .u8 (0),.int .u8 (0),.int .u8 (0),.int .u8 (0),.int .u8 (0),.int .u8 (0),.int .u8 (0),.int .u8 (0),.int .u8 (0),.int .u8 (0),.int .u8 (0),.int .u8 (0),.int .u8 (0),.int .u8 (0),.int .u8 (0)]
section
variable (b n c i vb vc:Nat) (xs ys:List Value) (C V:Array Value) (w:World)
theorem zzl:TI Tryz.prog 125 (.agg inrZ) 38 96:=zfp
theorem z18c:inrZ.size=38:=rfl
theorem zx5:(Tryz.prog.info? 125).map (·.size)=some 38:=by kernel_rfl
set_option maxHeartbeats 4000000 in
set_option maxRecDepth 100000 in
theorem zx8 (hi:i<n) (hroom:n+1≤c) (hc63:c≤9223372036854775807) (hvb:vb≠b) (hC:w.heap[b]? = some (.cells C 125 (0,0))) (hV:w.heap[vb]? = some (.cells V 125 (0,0)))
  (hCs:C.size=c * 38) (hxs:C.toList.take (n * 38)=xs) (hys:V.toList.take 38=ys) (hyl:ys.length=38) (h1x:∀ v∈xs,v.oneCell'=true) (h1y:∀ v∈ys,v.oneCell'=true) :
  Calls Tryz.prog 84 #[.slice (some ⟨b,0,none⟩) n c,.int .i64 i,.slice (some ⟨vb,0,none⟩) 1 vc] w fun e w' =>
   e=.returned (.slice (some ⟨b,0,none⟩) (n+1) c)∧∃ D,w'=w.drew.setRow b D∧D.size=C.size∧D.toList.take ((n+1) * 38)=xs.take (i * 38)++ys++xs.drop (i * 38):=by
 have hsz:=zx5;have u22:Tryz.prog.underlying 33=some (.slice 125):=Tryz.underlying33;have hcc:∀ j v,C.toList[j]? = some v→w.cell? ⟨b,j,none⟩=some v:=fun j v hj=>by
  rw [Array.getElem?_toList] at hj; unfold World.cell?; rw [hC]; exact hj
 have hcv:∀ j v,V.toList[j]? = some v→w.cell? ⟨vb,j,none⟩=some v:=fun j v hj=>by
  rw [Array.getElem?_toList] at hj; unfold World.cell?; rw [hV]; exact hj
 have hxl:xs.length=n * 38:=by rw [← hxs,List.length_take,Array.length_toList]; omega
 have hxg:∀ j v,xs[j]? = some v→C.toList[j]? = some v:=fun j v hj=>by
  rw [← hxs,List.getElem?_take] at hj; split at hj
  ·exact hj
  ·cases hj
 have hyg:∀ j v,ys[j]? = some v→V.toList[j]? = some v:=fun j v hj=>by
  rw [← hys,List.getElem?_take] at hj; split at hj
  ·exact hj
  ·cases hj
 have hVs:V.size≠0:=by
  have:ys.length≤V.size:=by rw [← hys,List.length_take,Array.length_toList]; omega
  omega
 have hov:∀ lb cb,(callFunc 145 #[.slice (some ⟨vb,0,none⟩) 1 vc,.slice (some ⟨b,(i+1) * 38,none⟩) lb cb]).run Tryz.prog w=.ok (.value (.bool false)) w:=fun lb cb=>by
  rw [run_callFunc_extern Tryz.func145 (by kernel_rfl) (by kernel_rfl) (by kernel_rfl) (e:=Extern.SlicesOverlaps.overlaps #[33,33] #[4]) (by kernel_rfl),
   Lib.run_overlaps_apart w 33 4 125 u22 38 Tryz.sizeOf125 ⟨vb,0,none⟩ ⟨b,(i+1) * 38,none⟩ 1 vc lb cb hvb 125 125 V.size C.size (by simp [World.shape?,hV]) (by simp [World.shape?,hC]) (by omega) (by simp [World.frozen?,hV]) (by simp [World.frozen?,hV])]
  rfl
 have hdl:(xs.drop (i * 38)).length=(n - i) * 38:=by rw [List.length_drop,hxl,Nat.sub_mul]
 have hmin1:Nat.min (n+1 - i) (n - i)=n - i:=by simp only [Nat.min_def]; split <;> omega
 have hcp1:∀ ty dc sc,(Builtin.copy_ #[33,33] ty #[.slice (some ⟨b,(i+1) * 38,none⟩) (n - i) dc,.slice (some ⟨b,i * 38,none⟩) (n+1 - i) sc]).run Tryz.prog w.drew =
   .ok (goInt ((n - i:Nat):Int)) (w.drew.setRow b (C.toList.take ((i+1) * 38)++xs.drop (i * 38)++C.toList.drop ((i+1) * 38+(xs.drop (i * 38)).length)).toArray):=fun ty dc sc=>by
  have e:=zr9 (P:=Tryz.prog) w.drew 33 33 ty 125 b ((i+1) * 38) (n - i) dc ⟨b,i * 38,none⟩ (n+1 - i) sc C 125 (xs.drop (i * 38)) u22 hsz hC (by rw [hmin1,hdl])
   (fun j v hj=>by rw [Addr.add_lit]; exact hcc _ v (hxg _ v (by rwa [List.getElem?_drop] at hj))) (by rw [hdl,hCs]; omega) (fun v hv=>h1x v (List.mem_of_mem_drop hv))
  rw [hmin1] at e; exact e
 obtain ⟨D1,hD1⟩:∃ D1,D1=(C.toList.take ((i+1) * 38)++xs.drop (i * 38)++C.toList.drop ((i+1) * 38+(xs.drop (i * 38)).length)).toArray:=⟨_,rfl⟩
 rw [← hD1] at hcp1;have hD1s:D1.size=C.size:=by
  rw [hD1]; simp only [List.size_toArray,List.length_append,List.length_take,List.length_drop,Array.length_toList,hxl]; omega
 obtain ⟨W1,hW1⟩:∃ W1,W1=w.drew.setRow b D1:=⟨_,rfl⟩
 have hB1:W1.heap[b]? = some (.cells D1 125 (0,0)):=by rw [hW1]; exact setRow_heap w.drew b C D1 125 (0,0) hC
 have hV1:W1.heap[vb]? = some (.cells V 125 (0,0)):=by rw [hW1,setRow_other w.drew b vb D1 hvb]; exact hV
 obtain ⟨D2,hD2⟩:∃ D2,D2=(D1.toList.take (i * 38)++ys++D1.toList.drop (i * 38+ys.length)).toArray:=⟨_,rfl⟩
 have hcp2:∀ ty dc,(Builtin.copy_ #[33,33] ty #[.slice (some ⟨b,i * 38,none⟩) (n+1 - i) dc,.slice (some ⟨vb,0,none⟩) 1 vc]).run Tryz.prog W1=.ok (goInt 1) (W1.setRow b D2):=fun ty dc=>by
  have hm:Nat.min 1 (n+1 - i)=1:=by simp only [Nat.min_def]; split <;> omega
  have e:=zr9 (P:=Tryz.prog) W1 33 33 ty 125 b (i * 38) (n+1 - i) dc ⟨vb,0,none⟩ 1 vc D1 125 ys u22 hsz hB1 (by rw [hm,hyl])
   (fun j v hj=>by
    rw [Addr.add_lit,Nat.zero_add]
    have:=hyg j v hj
    rw [Array.getElem?_toList] at this
    unfold World.cell?; rw [hV1]; exact this) (by rw [hyl,hD1s,hCs]; omega) h1y
  rw [hm,← hD2] at e; exact e
 have hfin:D2.size=C.size∧D2.toList.take ((n+1) * 38)=xs.take (i * 38)++ys++xs.drop (i * 38):=by
  have t1:D1.toList.take (i * 38)=xs.take (i * 38):=by
   rw [hD1,← hxs,List.take_take];simp only [List.append_assoc];rw [List.take_append_of_le_length (by rw [List.length_take,Array.length_toList]; omega),List.take_take]
   congr 1; omega
  have t2:(D1.toList.drop ((i+1) * 38)).take ((n - i) * 38)=xs.drop (i * 38):=by
   have el:(C.toList.take ((i+1) * 38)).length=(i+1) * 38:=by rw [List.length_take,Array.length_toList]; omega
   rw [hD1];simp only [List.append_assoc];rw [List.drop_append,el,Nat.sub_self,List.drop_zero,List.drop_eq_nil_of_le (by rw [el]; omega),List.nil_append,List.take_append_of_le_length (by rw [hdl]; omega),List.take_of_length_le (by rw [hdl]; omega)]
  constructor
  ·rw [hD2]; simp only [List.size_toArray,List.length_append,List.length_take,List.length_drop,Array.length_toList,hyl]; omega
  ·rw [hD2];simp only [List.append_assoc];have el:(D1.toList.take (i * 38)).length=i * 38:=by rw [List.length_take,Array.length_toList]; omega
   rw [List.take_append,el,List.take_of_length_le (by rw [el]; omega),List.take_append,hyl,List.take_of_length_le (l:=ys) (by rw [hyl]; omega),t1,
    show i * 38+38=(i+1) * 38 by omega, show (n+1) * 38 - i * 38 - 38=(n - i) * 38 by omega,t2]
 have hz1:¬ ((1:Int)=0):=by decide
 have hz2:¬ ((i:Int)=(n:Int)):=by omega
 have hw1:IntKind.i64.wrap ((i:Int)+1)=(i:Int)+1:=by rw [IntKind.wrap_i64]; omega
 have hb1:(0:Int)≤(i:Int)+1:=by omega
 have hin:i≤n:=by omega
 have htn:((i:Int)+1).toNat=i+1:=by omega
 have hb2:¬ (c=i+1):=by omega
 have hb3:(i:Int)≤(n:Int)+1:=by omega
 have hb4:¬ (c=i):=by omega
 subst hW1
 clear hcc hcv hxg hyg hD1 hD2 hxs hys hC hV hB1 hV1 h1x h1y hdl hmin1 hxl hyl
 go_enter Tryz.func84,Tryz.ntmps84
 go_wp2_with (simp only [hov])
 go_region_law (refine zgj rfl _ _ 33 33 rfl (.slice (some ⟨b,(i+1) * 38,none⟩) (n - i) (c - (i+1))) (.slice (some ⟨b,i * 38,none⟩) (n+1 - i) (c - i)) (by simp [Act.eval,Act.put]) (by simp [Act.eval,Act.put]) (hcp1 3 (c - (i+1)) (c - i)) ?_)
 go_wp2_with (at_builtin; refine zdo _ rfl _ _ 33 33 rfl _ _ rfl rfl (hcp2 _ _) ?_)
 go_ret
 exact ⟨rfl,D2, by rw [setRow_setRow],hfin⟩
set_option maxHeartbeats 4000000 in
set_option maxRecDepth 100000 in
theorem z11o (hi:i<n) (hnc:n≤c) (hroom:c<n+1) (hn:n≤1000000) (hvb:vb≠b) (hC:w.heap[b]? = some (.cells C 125 (0,0))) (hV:w.heap[vb]? = some (.cells V 125 (0,0)))
  (hCs:C.size=c * 38) (hxs:C.toList.take (n * 38)=xs) (hys:V.toList.take 38=ys) (hyl:ys.length=38) (h1x:∀ v∈xs,v.oneCell'=true) (h1y:∀ v∈ys,v.oneCell'=true) :
  Calls Tryz.prog 84 #[.slice (some ⟨b,0,none⟩) n c,.int .i64 i,.slice (some ⟨vb,0,none⟩) 1 vc] w fun e w' =>
   ∃ G,e=.returned (.slice (some ⟨w.heap.size,0,none⟩) (n+1) G)∧n+1≤G∧G≤maxLen∧∃ D,w'.heap[w.heap.size]? = some (.cells D 125 (0,0))∧w.grownBy w' none∧D.size=G * 38∧D.toList.take ((n+1) * 38)=xs.take (i * 38)++ys++xs.drop (i * 38):=by
 have hsz:=zx5;have u22:Tryz.prog.underlying 33=some (.slice 125):=Tryz.underlying33;have u3:Tryz.prog.underlying 3=some (.int .i64):=Tryz.underlying3;have hcn:c=n:=by omega
 subst hcn;have hcc:∀ j v,C.toList[j]? = some v→w.cell? ⟨b,j,none⟩=some v:=fun j v hj=>by
  rw [Array.getElem?_toList] at hj; unfold World.cell?; rw [hC]; exact hj
 have hxl:xs.length=c * 38:=by rw [← hxs,List.length_take,Array.length_toList]; omega
 have hxg:∀ j v,xs[j]? = some v→C.toList[j]? = some v:=fun j v hj=>by
  rw [← hxs,List.getElem?_take] at hj; split at hj
  ·exact hj
  ·cases hj
 have hyg:∀ j v,ys[j]? = some v→V.toList[j]? = some v:=fun j v hj=>by
  rw [← hys,List.getElem?_take] at hj; split at hj
  ·exact hj
  ·cases hj
 have hbw:b<w.heap.size:=(Array.getElem?_eq_some_iff.1 hC).1;have hvw:vb<w.heap.size:=(Array.getElem?_eq_some_iff.1 hV).1;have hkk:(c:Int)+1 - (i:Int)=((c+1 - i:Nat):Int):=by omega
 obtain ⟨i0,hi0,hz0,hzs,hzb⟩:=zzl;have hold:(Builtin.firstCells i0.size i (.slice (some ⟨b,0,none⟩) i c)).run Tryz.prog w.drew=.ok (xs.take (i * 38)).toArray w.drew:=by
  rw [hzs]
  exact run_firstCells_some w.drew 38 i ⟨b,0,none⟩ i c (xs.take (i * 38)) (by rw [List.length_take]; omega) (fun j v hj=>by
   rw [Addr.add_lit,Nat.zero_add];rw [List.getElem?_take] at hj
   split at hj
   ·exact hcc j v (hxg j v hj)
   ·cases hj)
 obtain ⟨G,hG⟩:∃ G,G=grownCap w (c+1) c 125:=⟨_,rfl⟩
 obtain ⟨ROW,hROW⟩:∃ ROW:Array Value,ROW=(xs.take (i * 38)).toArray++Builtin.zeroCells inrZ (c+1 - i)++Builtin.zeroCells inrZ (G - (c+1)):=⟨_,rfl⟩
 have hrz:∀ ty,(Builtin.append_ #[33,3] ty #[.slice (some ⟨b,0,none⟩) i c,.int .i64 ((c:Int)+1 - (i:Int))]).run Tryz.prog w =
   .ok (.slice (some ⟨w.heap.size,0,none⟩) (c+1) G) (w.drew.alloc (.cells ROW 125)):=fun ty=>by
  have h:=Lib.run_append_grow_zeros w 33 3 ty 125 i0 _ .i64 .i64 u22 u3 hi0 hz0 (some ⟨b,0,none⟩) i c (xs.take (i * 38)) hold (c+1 - i) (by omega) (by omega) (by omega) (by omega) (by rw [hzb]; omega) (by rw [hzb, show i+(c+1 - i)=c+1 by omega]; exact growslice_fits (by omega) (by omega));rw [show i+(c+1 - i)=c+1 by omega] at h;rw [hkk,hROW,hG];exact h
 have hGn:c+1≤G:=by rw [hG]; exact grownCap_ge w _ _ _
 have hGm:G≤maxLen:=by rw [hG]; exact grownCap_le_maxLen w (c+1) c 125 (by unfold maxLen; omega)
 have hG63:G≤9223372036854775807:=by unfold maxLen at hGm; omega
 have hRs:ROW.size=G * 38:=by
  rw [hROW]; simp only [Array.size_append,List.size_toArray,List.length_take,size_zeroCells,z18c,hxl]; omega
 have hRt:ROW.toList.take (i * 38)=xs.take (i * 38):=by
  rw [hROW]; simp only [Array.toList_append,List.append_assoc];rw [List.take_append_of_le_length (by rw [List.length_take]; omega),List.take_take]; congr 1; omega
 obtain ⟨D1,hD1⟩:∃ D1,D1=(ROW.toList.take (i * 38)++ys++ROW.toList.drop (i * 38+ys.length)).toArray:=⟨_,rfl⟩
 have hD1s:D1.size=G * 38:=by
  rw [hD1]; simp only [List.size_toArray,List.length_append,List.length_take,List.length_drop,Array.length_toList,hyl]; omega
 obtain ⟨D2,hD2⟩:∃ D2,D2=(D1.toList.take ((i+1) * 38)++xs.drop (i * 38)++D1.toList.drop ((i+1) * 38+(xs.drop (i * 38)).length)).toArray:=⟨_,rfl⟩
 have hdl:(xs.drop (i * 38)).length=(c - i) * 38:=by rw [List.length_drop,hxl,Nat.sub_mul]
 have hD2s:D2.size=G * 38:=by
  rw [hD2]; simp only [List.size_toArray,List.length_append,List.length_take,List.length_drop,Array.length_toList,hxl]; omega
 have hfin:D2.toList.take ((c+1) * 38)=xs.take (i * 38)++ys++xs.drop (i * 38):=by
  have e1:(ROW.toList.take (i * 38)).length=i * 38:=by rw [List.length_take,Array.length_toList]; omega
  have e2:D1.toList.take ((i+1) * 38)=xs.take (i * 38)++ys:=by
   rw [hD1]; simp only [List.append_assoc];rw [List.take_append,e1,List.take_of_length_le (by rw [e1]; omega),List.take_append_of_le_length (by rw [hyl]; omega),List.take_of_length_le (l:=ys) (by rw [hyl]; omega),hRt]
  have e3:(D1.toList.take ((i+1) * 38)).length=(i+1) * 38:=by rw [List.length_take,Array.length_toList]; omega
  rw [hD2]; simp only [List.append_assoc];rw [List.take_append,e3,List.take_of_length_le (by rw [e3]; omega),List.take_append_of_le_length (by rw [hdl]; omega),List.take_of_length_le (l:=xs.drop (i * 38)) (by rw [hdl]; omega),e2,List.append_assoc]
 have hcpA:∀ (W:World),W.heap=w.heap.push (.cells ROW 125)→∀ ty dc,(Builtin.copy_ #[33,33] ty #[.slice (some ⟨w.heap.size,i * 38,none⟩) (c+1 - i) dc,.slice (some ⟨vb,0,none⟩) 1 vc]).run Tryz.prog W=.ok (goInt 1) (W.setRow w.heap.size D1):=fun W hW ty dc=>by
  have hm:Nat.min 1 (c+1 - i)=1:=by simp only [Nat.min_def]; split <;> omega
  have hN:W.heap[w.heap.size]? = some (.cells ROW 125 (0,0)):=by rw [hW,Array.getElem?_push_size]
  have hV1:W.heap[vb]? = some (.cells V 125 (0,0)):=by rw [hW,Array.getElem?_push_lt hvw]; rw [← hV,Array.getElem?_eq_getElem hvw]
  have e:=zr9 (P:=Tryz.prog) W 33 33 ty 125 w.heap.size (i * 38) (c+1 - i) dc ⟨vb,0,none⟩ 1 vc ROW 125 ys u22 hsz hN (by rw [hm,hyl])
   (fun j v hj=>by
    rw [Addr.add_lit,Nat.zero_add]
    have:=hyg j v hj
    rw [Array.getElem?_toList] at this
    unfold World.cell?; rw [hV1]; exact this) (by rw [hyl,hRs]; omega) h1y
  rw [hm,← hD1] at e; exact e
 have hcpB:∀ (W W0:World),W0.heap=w.heap.push (.cells ROW 125)→W.heap=(W0.setRow w.heap.size D1).heap→∀ ty dc sc,(Builtin.copy_ #[33,33] ty #[.slice (some ⟨w.heap.size,(i+1) * 38,none⟩) (c - i) dc,.slice (some ⟨b,i * 38,none⟩) (c - i) sc]).run Tryz.prog W=.ok (goInt ((c - i:Nat):Int)) (W.setRow w.heap.size D2):=fun W W0 hW0 hW ty dc sc=>by
  have hm:Nat.min (c - i) (c - i)=c - i:=Nat.min_self _;have hN:W.heap[w.heap.size]? = some (.cells D1 125 (0,0)):=by rw [hW]; exact setRow_heap W0 w.heap.size ROW D1 125 (0,0) (by rw [hW0,Array.getElem?_push_size])
  have hB1:W.heap[b]? = some (.cells C 125 (0,0)):=by
   rw [hW,setRow_other W0 w.heap.size b D1 (by omega),hW0,Array.getElem?_push_lt hbw,← hC,Array.getElem?_eq_getElem hbw]
  have e:=zr9 (P:=Tryz.prog) W 33 33 ty 125 w.heap.size ((i+1) * 38) (c - i) dc ⟨b,i * 38,none⟩ (c - i) sc D1 125 (xs.drop (i * 38)) u22 hsz hN (by rw [hm,hdl])
   (fun j v hj=>by
    rw [Addr.add_lit]
    have:=hxg _ v (by rwa [List.getElem?_drop] at hj)
    rw [Array.getElem?_toList] at this
    unfold World.cell?; rw [hB1]; exact this) (by rw [hdl,hD1s]; omega) (fun v hv=>h1x v (List.mem_of_mem_drop hv))
  rw [hm,← hD2] at e; exact e
 have hz1:¬ ((1:Int)=0):=by decide
 have hz2:¬ ((i:Int)=(c:Int)):=by omega
 have hz3:(c:Int)<(c:Int)+1:=by omega
 have hw1:IntKind.i64.wrap ((i:Int)+1)=(i:Int)+1:=by rw [IntKind.wrap_i64]; omega
 have hb1:(0:Int)≤(i:Int)+1:=by omega
 have hin:i≤c:=by omega
 have htn:((i:Int)+1).toNat=i+1:=by omega
 have hGi:¬ (G=i):=by omega
 have hGim:¬ (G=i+1):=by omega
 have hci:¬ (c=i):=by omega
 have hb3:(i:Int)≤(c:Int):=by omega
 have hE1:((w.alloc (.cells ROW 125)).drew).heap=w.heap.push (.cells ROW 125):=rfl;have hF1:(((w.alloc (.cells ROW 125)).drew.setRow w.heap.size D1).drew).heap=(((w.alloc (.cells ROW 125)).drew).setRow w.heap.size D1).heap:=rfl
 clear hROW hold hG hRt hD1 hD2 hxs hys hC hV h1x h1y hdl hxl hyl hcc hxg hyg hi0 hz0 hzs hzb hkk hnc hroom
 go_enter Tryz.func84,Tryz.ntmps84
 go_wp2_with (first
  | (at_builtin; refine Lib.wpList_append_run _ rfl _ _ _ _ rfl _ _ rfl rfl _ _ (hrz _) ?_)
  | (at_builtin; refine zdo _ rfl _ _ 33 33 rfl _ _ rfl rfl (hcpA _ hE1 _ _) ?_))
 go_region_law (refine zgj rfl _ _ 33 33 rfl (.slice (some ⟨w.heap.size,(i+1) * 38,none⟩) (c - i) (G - (i+1))) (.slice (some ⟨b,i * 38,none⟩) (c - i) (c - i)) (by simp [Act.eval,Act.put]) (by simp [Act.eval,Act.put]) (hcpB _ _ hE1 hF1 3 (G - (i+1)) (c - i)) ?_)
 go_wp2
 go_ret
 refine ⟨G,rfl,hGn,hGm,D2,?_,⟨rfl,rfl,rfl,?_, fun k hk _=>?_⟩,hD2s,hfin⟩
 ·exact setRow_heap _ w.heap.size D1 D2 125 (0,0) (setRow_heap ((w.alloc (.cells ROW 125)).drew) w.heap.size ROW D1 125 (0,0) (by rw [hE1,Array.getElem?_push_size]))
 ·rw [setRow_size]; show _≤((w.alloc (.cells ROW 125)).drew.setRow w.heap.size D1).heap.size; rw [setRow_size,hE1,Array.size_push]; omega
 ·rw [setRow_other _ w.heap.size k D2 (by omega)]; show ((w.alloc (.cells ROW 125)).drew.setRow w.heap.size D1).heap[k]? = _;rw [setRow_other _ w.heap.size k D1 (by omega),hE1,Array.getElem?_push_lt hk,Array.getElem?_eq_getElem hk]
set_option maxHeartbeats 4000000 in
set_option maxRecDepth 100000 in
theorem z14h (p0 p1:Value) (h0:w.ownsRow 0 125 38 p0 n xs) (h1:w.ownsRow 0 125 38 p1 1 ys) (hn:n≤1000000) (h1y:∀ v∈ys,v.oneCell'=true) :
  Calls Tryz.prog 84 #[p0,.int .i64 n,p1] w fun e w'=>∃ v',e=.returned v'∧w'.ownsRow 0 125 38 v' (n+1) (xs++ys)∧w.grownBy w' p0.ownBlock∧∀ b,v'.ownBlock=some b→p0.ownBlock=some b∨w.heap.size≤b:=by
 have u22:Tryz.prog.underlying 33=some (.slice 125):=Tryz.underlying33;obtain ⟨p,c,rfl⟩:=z2l h0;obtain ⟨q,d,rfl⟩:=z2l h1;obtain ⟨p',c',w',hrun,ho,hg,hs⟩:=zf1 (P:=Tryz.prog) (rt:=33) (w:=w) u22 zzl (by simp [Value.cells,z18c]) (by decide) h0 (Rd.of_own h1) h1y (by omega) (by omega) (Nat.zero_le _);have hz1:¬ ((1:Int)=0):=by decide
 have hnc:n≤c:=by
  rcases h0.2 with ⟨e,rfl⟩ | ⟨g,cap,cur,e,_,_,h,_⟩
  ·omega
  ·simp only [Value.slice.injEq] at e; omega
 have hc63:c≤9223372036854775807:=by
  rcases h0.2 with ⟨e,rfl⟩ | ⟨g,cap,cur,e,_,_,_,h,_⟩
  ·simp only [Value.slice.injEq] at e; omega
  ·simp only [Value.slice.injEq] at e; unfold maxLen at h; omega
 have hin:n≤n:=Nat.le_refl _;have hp0:p=none→n=0∧c=0:=fun e=>by
  rcases h0.2 with ⟨e',rfl⟩ | ⟨g,cap,cur,e',_⟩
  ·simp only [Value.slice.injEq] at e'; omega
  ·rw [e] at e'; simp at e'
 clear h0 h1 h1y
 go_enter Tryz.func84,Tryz.ntmps84
 cases p with
 | none =>
  obtain ⟨rfl,rfl⟩:=hp0 rfl
  clear hp0
  go_wp2_with (at_builtin; refine Lib.wpList_append_run _ rfl _ _ _ _ rfl _ _ rfl rfl _ _ hrun ?_)
  go_ret
  exact ⟨_,rfl,ho,hg,hs⟩
 | some a =>
  clear hp0
  obtain ⟨ab,ao,asp⟩:=a
  go_wp2_with (at_builtin; refine Lib.wpList_append_run _ rfl _ _ _ _ rfl _ _ rfl rfl _ _ hrun ?_)
  all_goals (go_ret; exact ⟨_,rfl,ho,hg,hs⟩)
end
end
section
open Go Go.RowKit
def RG {α:Type} (R:Rep α):Prop:=∀ S S' w w' cs x,R.rel S w cs x→R.rel S' w' cs x
theorem zrj {α:Type} {k:IntKind} {f:α→Int}:RG (z9b k f):=fun _ _ _ _ _ _ h=>h
theorem z13t:RG z3q:=fun _ _ _ _ _ _ h=>h
theorem rg_l {α:Type} {R:Rep α} (h:RG R) {S S':Blk} {w w':World}:∀ {l:List α} {cs:List Value},z5r R S w cs l→z5r R S' w' cs l
 | [],cs,k=>k
 | x::l,cs,k=>by
  obtain ⟨c,d,rfl,h1,h2⟩:=k;exact ⟨c,d,rfl,h _ _ _ _ _ _ h1,rg_l h h2⟩
theorem z176 {α:Type} {n:Nat} {R:Rep α} (h:RG R):RG (z3m n R):=fun _ _ _ _ _ _ k=>rg_l h k
theorem zzd:RG zdb:=fun _ _ _ _ _ _ h=>h
theorem zg1 {α β:Type} {R:Rep α} {T:Rep β} (h:RG R) (k:RG T):RG (z4y R T):=fun _ _ _ _ _ _ ⟨c,d,e,h1,h2⟩=>⟨c,d,e,h _ _ _ _ _ _ h1,k _ _ _ _ _ _ h2⟩
theorem z13w {α β:Type} {R:Rep α} {g:β→α} (h:RG R):RG (zjw g R):=fun _ _ _ _ _ _ k=>h _ _ _ _ _ _ k
theorem rgR:RG z13:=(z13w (zg1 z13t (zg1 (z13w (zg1 zrj (zg1 zrj (zg1 zrj (zg1 z13t zzd))))) (zg1 zrj (zg1 (z176 zrj) zzd)))))
def insR (c0:List z16) (i:Int) (c1:List z16):Option (List z16) :=
 chk (0≤i∧i.toNat≤c0.length∧c0.length≤1000000∧c1.length=1) >>= fun _=>some (c0.take i.toNat++c1++c0.drop i.toNat)
theorem z16f (p0 p1:Value) (n i:Nat) (xs ys:List Value) (w:World) (hi:i≤n) (h0:w.ownsRow 0 125 38 p0 n xs) (h1:w.ownsRow 0 125 38 p1 1 ys) (hsep:∀ b,p0.ownBlock=some b→p1.ownBlock≠some b) (hn:n≤1000000)
  (h1x:∀ v∈xs,v.oneCell'=true) (h1y:∀ v∈ys,v.oneCell'=true) :
  Calls Tryz.prog 84 #[p0,.int .i64 i,p1] w fun e w'=>∃ v',e=.returned v'∧w'.ownsRow 0 125 38 v' (n+1) (xs.take (i * 38)++ys++xs.drop (i * 38))∧w.grownBy w' p0.ownBlock∧∀ b,v'.ownBlock=some b→p0.ownBlock=some b∨w.heap.size≤b:=by
 have hxl:=h0.1;by_cases hin:i=n
 ·subst hin;refine (z14h i xs ys w p0 p1 h0 h1 hn h1y).mono fun e w' ⟨v',a,b,c,d⟩=>⟨v',a,?_,c,d⟩;rw [List.take_of_length_le (by omega),List.drop_eq_nil_of_le (by omega),List.append_nil];exact b
 ·rcases h0.2 with ⟨rfl,rfl⟩ | ⟨b,c,C,rfl,-,hC,hnc,hcm,hCs,hxs⟩
  ·omega
  rcases h1.2 with ⟨rfl,e⟩ | ⟨vb,vc,V,rfl,-,hV,-,-,hVs,hys⟩
  ·omega
  have hvb:vb≠b:=fun e=>hsep b rfl (by rw [e]; rfl);have hyl:ys.length=38:=by have:=h1.1; omega
  have hlen:(xs.take (i * 38)++ys++xs.drop (i * 38)).length=(n+1) * 38:=by
   simp only [List.length_append,List.length_take,List.length_drop,hyl]; omega
  by_cases hroom:n+1≤c
  ·refine (zx8 b n c i vb vc xs ys C V w (by omega) hroom (by unfold maxLen at hcm; omega) hvb hC hV hCs hxs (by simpa using hys) hyl h1x h1y).mono fun e w' ⟨a,D,a2,a3,a4⟩=>⟨_,a,?_,?_, fun b' hb'=>.inl hb'⟩
   ·refine ⟨hlen,.inr ⟨b,c,D,rfl,Nat.zero_le _,?_,hroom,hcm,a3.trans hCs,a4⟩⟩;rw [a2]; exact setRow_heap w.drew b C D 125 (0,0) hC
   ·rw [a2];refine ⟨rfl,rfl,rfl,?_, fun k hk hne=>?_⟩
    ·rw [setRow_size]; exact Nat.le_refl _
    ·rw [setRow_other w.drew b k D (fun e=>hne (by rw [e]; rfl))]; rfl
  ·refine (z11o b n c i vb vc xs ys C V w (by omega) hnc (by omega) hn hvb hC hV hCs hxs (by simpa using hys) hyl h1x h1y).mono fun e w' ⟨G,a,g1,g2,D,a1,a2,a3,a4⟩=>⟨_,a,?_,?_, fun b' hb'=>.inr ?_⟩
   ·exact ⟨hlen,.inr ⟨w.heap.size,G,D,rfl,Nat.zero_le _,a1,g1,g2,a3,a4⟩⟩
   ·exact ⟨a2.os,a2.tape,a2.output,a2.size, fun k hk _=>a2.block k hk (by simp)⟩
   ·simp only [Value.ownBlock,Option.some.injEq] at hb'; omega
theorem z14t (p0 p1:Value) (c0 c1:List z16) (i:Int):z1u Tryz.prog 84 [.val p0,.rd z08 i,.val p1] [(1,some (p0,.list z13 125 c0)),(2,some (p1,.list z13 125 c1))] (insR c0 i c1)
  (fun r nv=>⟨[.val (nv 0)],[(100,some (nv 0,.list z13 125 r))]⟩):=by
 intro r hr H vs w hvs hres;have hb:(0≤i∧i.toNat≤c0.length∧c0.length≤1000000∧c1.length=1)∧r=c0.take i.toNat++c1++c0.drop i.toNat:=by
  unfold insR chk at hr
  split at hr
  ·rename_i h; simp at hr; exact ⟨h, by rw [← hr,List.append_assoc]⟩
  ·simp at hr
 obtain ⟨⟨hi0,hi1,hn,hc1⟩,rfl⟩:=hb
 match vs,hvs with
 | [v0,v1,v2],hvs =>
 obtain ⟨h0,h1,h2,_⟩:=hvs;have e0:v0=p0:=h0.1;have e2:v2=p1:=h2.1;have e1:v1=.int .i64 i:=z4q h1;subst e0; subst e2; subst e1;obtain ⟨j,rfl⟩:∃ j:Nat,i=(j:Int):=⟨i.toNat, by omega⟩
 simp only [Int.toNat_natCast] at hi1 ⊢;obtain ⟨xs,x1,x2⟩:=z7c (hres.conts 1 v0 _ rfl);obtain ⟨ys,y1,y2⟩:=z7c (hres.conts 2 v2 _ rfl);rw [hc1] at y1;have hsep:∀ b,v0.ownBlock=some b→v2.ownBlock≠some b:=fun b hb hb2=>by
  obtain ⟨p,c,rfl⟩:=z2l x1;obtain ⟨q,d,rfl⟩:=z2l y1;exact hres.excl 1 _ _ 2 _ _ rfl rfl (by decide) b (by rw [z5v]; exact hb) (by rw [z5v]; exact hb2)
 refine (z16f v0 v2 c0.length j xs ys w hi1 x1 y1 hsep hn x2.one y2.one).mono fun e w' ⟨v',he,hw,hg,hs⟩=>?_;have only:∀ r v c (q:z4l),lr [(100,some (v',q))] r=some (v,c)→r=100∧v=v'∧c=q:=fun r v c q h=>by
  rw [z1a] at h
  split at h
  ·rename_i e; cases h; exact ⟨e.symm,rfl,rfl⟩
  ·simp [lr,lk] at h
 have hlen:(c0.take j++c1++c0.drop j).length=c0.length+1:=by
  simp only [List.length_append,List.length_take,List.length_drop,hc1]; omega
 obtain ⟨p',c',rfl⟩:=z2l hw;refine ⟨fun _=>.slice p' (c0.length+1) c',[.slice p' (c0.length+1) c'],he,⟨⟨rfl,rfl⟩,trivial⟩, fun r v c h=>?_, fun r v c r' v2' c2' h h' hne=>?_, fun r v c h b hb=>?_,hg.os,hg.tape,hg.output,hg.size, fun k hk=>?_⟩
 ·obtain ⟨rfl,rfl,rfl⟩:=only _ _ _ _ h;refine zjh (B:=0) (xs:=xs.take (j * 38)++ys++xs.drop (j * 38)) (by rw [hlen]; exact hw) ?_;exact ((rg_l rgR (x2.take j)).append ((rg_l rgR) y2)).append (rg_l rgR (x2.drop j))
 ·exact absurd ((only _ _ _ _ h).1.trans (only _ _ _ _ h').1.symm) hne
 ·obtain ⟨rfl,rfl,rfl⟩:=only _ _ _ _ h;rw [z5v] at hb;rcases hs b hb with h | h
  ·exact .inr ⟨1,_,_,rfl, by obtain ⟨p,c,rfl⟩:=z2l x1; rw [z5v]; exact h⟩
  ·exact .inl h
 ·refine hg.block k hk.1 fun e=>hk.2 ⟨1,_,_,rfl,?_⟩;obtain ⟨p,c,rfl⟩:=z2l x1; rw [z5v]; exact e.symm
end
section
open Go Go.RowKit
set_option maxRecDepth 100000
def z2s (a0:z00) (a1:z07) (a2:UInt64) (a3:List V3):Option (z00 × V3 × Bool) :=
 zkg 3 (⟨0,a3,a2,a1,(⟨0,0⟩:z0c)⟩:z0a) >>= fun r5 =>
 zmd a0 r5.1 >>= fun r8 =>
 if r5.2==0 then
  some (r8.1,r8.2.1,r8.2.2==0)
 else
  some (r8.1,r8.2.1,false)
theorem z6g (a0:z00) (a1:z07) (a2:UInt64) (a3:List V3):z1u Tryz.prog 11 [.rd z01 a0,.rd z0i a1,.rd z2x a2,.rd (z03 aZ) a3] [zG1] (z2s a0 a1 a2 a3) (fun r nv=>⟨[.rd z01 r.1,.rd aZ r.2.1,.rd z09 r.2.2],[(1001,some (.bool true,.glob 1 (z3m 64 z0p) z5i))]⟩):=by
 refine z2f 39 Tryz.func11 Z Z Z fun H w=>?_;refine gSR<|Eb Z (bx 1 Z) fun v1=>Eb Z (bx 2 Z) fun v2=>Eb Z (z5l 3 zfh (ZrE.nilS (ZrE.nilS ZrE.nil))) fun v3=>Eb Z (z5l 4 z3v (.zr (R:=aZ) (x:=(Vector.replicate 32 0)) zfn)) fun v4=>Zb Z<|gSR<|Zm Z<|Zm Z<|Zq (ld 2 Z Z fH ty52 Z)<|Zq (bld (x':=(⟨0,a3,a2,a1,(⟨0,0⟩:z0c)⟩:z0a)) [(0,1),(1,1),(2,1),(3,6),(9,2)] Tryz.underlying67 zb1 Z zr67 Z (Bld.cons (z1b _) Z Z<|Bld.cons (z3u _) Z Z<|Bld.cons (z0w _) Z Z<|Bld.done Z))<|Zc [1001] [] Tryz.func29 Z (zw0 _ _) fun r5 n6=>Zm Z<|Zq (ext Z Z)<|Zq (ext Z Z)<|Eb Z (z5l 5 zb1 (ZrE.rd (R:=z0p) (x:=0) (Zr.num Z) (ZrE.nilS (ZrE.rd (R:=z2x) (x:=0) (Zr.num Z) (ZrE.rd (R:=z0i) (x:=(⟨0,[],(⟨0,0,0,[]⟩:z02)⟩:z07)) zla (ZrE.rd (R:=z0r) (x:=(⟨0,0⟩:z0c)) zoe ZrE.nil Z) Z) Z)) Z)) fun v7=>zft aZ [.rd z0p 0,.rd (z03 aZ) [],.rd z2x 0,.rd z0i (⟨0,[],(⟨0,0,0,[]⟩:z02)⟩:z07),.rd z0r (⟨0,0⟩:z0c)] 5 [.rd z0p 0] [.rd z2x 0,.rd z0i (⟨0,[],(⟨0,0,0,[]⟩:z02)⟩:z07),.rd z0r (⟨0,0⟩:z0c)] Z Z Z<|zfs (R:=z04) (⟨0,[],0,(⟨0,[],(⟨0,0,0,[]⟩:z02)⟩:z07),(⟨0,0⟩:z0c)⟩:z0a) 5 Z (Sp.via (Sp.prod (Sp.prod (Sp.prod (Sp.prod (Sp.prod Sp.unit))))))<|Es (sto 5 Z Z fH Z zb1)<|Zb Z<|gSR<|Zq (ld 1 Z Z fH zb9 Z)<|Zq (ld 5 Z Z fH zeb Z)<|Zc [1001] [] Tryz.func30 Z (zwa _ _) fun r8 n9=>Zm Z<|Zq (ext Z Z)<|Zq (ext Z Z)<|Zq (ext Z Z)<|Eb Z (z5l 6 zfh (ZrE.nilS (ZrE.nilS ZrE.nil))) fun v10=>Eb Z (z5l 7 z3v (.zr (R:=aZ) (x:=(Vector.replicate 32 0)) zfn)) fun v11=>zft aZ [.rd (z03 aZ) [],.val (.slice none 0 0)] 6 [] [.val (.slice none 0 0)] Z Z Z<|zft z04 [.rd (z03 aZ) [],.rd (z03 z04) []] 6 [.rd (z03 aZ) []] [] Z Z Z<|zfs (R:=z01) (⟨[],[]⟩:z00) 6 Z (Sp.via (Sp.prod (Sp.prod Sp.unit)))<|Es (sto 6 Z Z fH Z zfh)<|Es (sto 7 Z Z fH Z z3v)<|Zb Z<|z0q<|z6l [3,4] mixed Z Z<|hTk 0 Z Z (ld 6 Z Z fH zb9 Z)<|hTk 1 Z Z (ld 7 Z Z fH z6a Z)<|hTk 2 Z Z (mv Z)<|hTk 3 Z Z (I.eql Z Z)<|hTk 4 Z Z (mv Z)<|hIf 35 Z Z (fun h12=>?_) (fun h12=>?_)
 ·refine hKn 34 Z Z h12<|Zg 5 Z Z (mv Z)<|Zg 6 Z Z (I.eql Z Z)<|hTk 7 Z Z (pkT Z Z)<|hPnl aZ [.rd (z03 aZ) [],.val (.slice none 0 0)] 3 [] [.val (.slice none 0 0)] Z Z Z<|hPnl z04 [.rd (z03 aZ) [],.rd (z03 z04) []] 3 [.rd (z03 aZ) []] [] Z Z Z<|hJoi (R:=z01) (⟨[],[]⟩:z00) 3 Z (Sp.via (Sp.prod (Sp.prod Sp.unit)))<|Zp 8 Z Z Z Z Z (sto 3 Z Z fH Z zfh)<|Zp 9 Z Z Z Z Z (sto 4 Z Z fH Z z3v)<|hTk 10 Z Z (asg Z)<|z3e (by kernel_rfl)<|z0m<|z0k<|zaz [] [1001] Z (eC 3 Z Z zb9<|eC 4 Z Z z6a<|eE Z<|eN) (Y0 Z)
 ·refine hKn 34 Z Z h12<|hSk 5 Z Z<|hSk 6 Z Z<|hTk 7 Z Z (pkF Z Z)<|hPnl aZ [.rd (z03 aZ) [],.val (.slice none 0 0)] 3 [] [.val (.slice none 0 0)] Z Z Z<|hPnl z04 [.rd (z03 aZ) [],.rd (z03 z04) []] 3 [.rd (z03 aZ) []] [] Z Z Z<|hJoi (R:=z01) (⟨[],[]⟩:z00) 3 Z (Sp.via (Sp.prod (Sp.prod Sp.unit)))<|Zp 8 Z Z Z Z Z (sto 3 Z Z fH Z zfh)<|Zp 9 Z Z Z Z Z (sto 4 Z Z fH Z z3v)<|hTk 10 Z Z (asg Z)<|z3e (by kernel_rfl)<|z0m<|z0k<|zaz [] [1001] Z (eC 3 Z Z zb9<|eC 4 Z Z z6a<|eE Z<|eN) (Y0 Z)
def z9u (a0:List UInt8):Option (Bool) :=
 some (a0 != a0)
theorem zd0 (a0:List UInt8):z1u Tryz.prog 143 [.rd z3q a0] [] (z9u a0) (fun r nv=>⟨[.rd z09 r],[]⟩):=by
 refine z2f 6 Tryz.func143 Z Z Z fun H w=>?_;refine gSR<|Zb Z<|gSR<|Zm Z<|Zm Z<|Zq (neS Z Z)<|Zb Z<|z0k<|Ze [] [] Z
def z81 (a0:z00) (s7:(List ((List UInt8) × Bool)) × Int):Option (Sum ((List ((List UInt8) × Bool))) ((List ((List UInt8) × Bool)) × Int)) :=
 if decide (s7.2<(a0.Ops.length:Int)) then
  idx a0.Ops s7.2 >>= fun x9 =>
  if x9.Act.Kind != 1 then
   some (.inr (zmz s7.1 x9.Act.Key true,w64 (s7.2+1)))
  else
   some (.inr (s7.1,w64 (s7.2+1)))
 else
  some (.inl s7.1)
def z84 (k18:List UInt8) (x19:Bool) (s16:(List (List UInt8))):Option ((List (List UInt8))) :=
 app 16 s16 [k18] >>= fun x28 =>
 some x28
def z95 (a0:z00):Option ((List (List UInt8)) × Int) :=
 z3f a0 >>= fun r2 =>
 if r2 != 0 then
  some ([],r2)
 else
  (iter (z81 a0) (([]:List ((List UInt8) × Bool)),0)) >>= fun s6 =>
  (zk7 (fun e s=>z84 e.1 e.2 s) s6 []) >>= fun r23 =>
  zol r23 >>= fun r31 =>
  some (r31,0)
theorem zfj (a0:z00):z1u Tryz.prog 8 [.rd z01 a0] [zG1] (z95 a0) (fun r nv=>⟨[.val (nv 0),.rd z08 r.2],[(1001,some (.bool true,.glob 1 (z3m 64 z0p) z5i)),(100,some (nv 0,.list z3q 9 r.1))]⟩):=by
 refine z2f 45 Tryz.func8 Z Z Z fun H w=>?_;refine gSR<|Eb Z (bx 1 Z) fun v1=>Za Z<|Zb Z<|z0q<|gSR<|Zq (ld 1 Z Z fH zb9 Z)<|Zc [1001] [] Tryz.func23 Z (z8q _) fun r2 n3=>Zb Z<|gSR<|Zm Z<|Zq (I.neq Z Z)<|Zj Z (fun h4=>?_) (fun h4=>?_)
 ·refine gSR<|Zm Z<|Za Z<|Zb Z<|z0k<|z0v<|zwd z3q 9 2<|Ze [(.slice none 0 0)] [1001,2] Z
 ·refine Zt<|gSR<|Ef Z (mkm z3q z09 3 (Or.inl Z) Tryz.underlying76) fun v5=>Zb Z<|z7r (fun (s6:(List ((List UInt8) × Bool))) aa ww=>Sta (ctx 45 H [zG1] w) [(5,.val v5)] [(3,some (v5,.map z3q z09 s6)),zG1] aa ww) ?_ (fun s6=>?_)
  ·refine gSR<|Zq (faB 1 Z Z Tryz.underlying25 Z (by exact zcg))<|Zq (ld 1 Z Z (fP (z06 _)) zep Z)<|Zq (z4f Z .rd Z tu23)<|Zm Z<|Zn<|z29 (fun (s7:(List ((List UInt8) × Bool)) × Int) aa ww=>Sta (ctx 45 H [zG1] w) [(5,.val v5),(17,.rd (z03 z04) a0.Ops),(18,.rd z08 (a0.Ops.length:Int)),(19,.rd z08 s7.2)] [(3,some (v5,.map z3q z09 s7.1)),zG1] aa ww) (fun aa ww h=>Zu h [3,1001]) (fun s7=>?_);refine gSR<|Zq (I.lss Z Z)<|Zn<|z0q<|gIf Z Z (fun h8=>?_) (fun h8=>?_)
   ·refine Zt<|z0q<|z5f<|gSR<|z0t fun x9 h10=>Zq (ixR Z Z h10 tu23 zb1 Z)<|Zq (ldR Z zeb)<|Eb Z (z5l 1100 zb1 (ZrE.rd (R:=z0p) (x:=0) (Zr.num Z) (ZrE.nilS (ZrE.rd (R:=z2x) (x:=0) (Zr.num Z) (ZrE.rd (R:=z0i) (x:=(⟨0,[],(⟨0,0,0,[]⟩:z02)⟩:z07)) zla (ZrE.rd (R:=z0r) (x:=(⟨0,0⟩:z0c)) zoe ZrE.nil Z) Z) Z)) Z)) fun v11=>zft aZ [.rd z0p 0,.rd (z03 aZ) [],.rd z2x 0,.rd z0i (⟨0,[],(⟨0,0,0,[]⟩:z02)⟩:z07),.rd z0r (⟨0,0⟩:z0c)] 1100 [.rd z0p 0] [.rd z2x 0,.rd z0i (⟨0,[],(⟨0,0,0,[]⟩:z02)⟩:z07),.rd z0r (⟨0,0⟩:z0c)] Z Z Z<|zfs (R:=z04) (⟨0,[],0,(⟨0,[],(⟨0,0,0,[]⟩:z02)⟩:z07),(⟨0,0⟩:z0c)⟩:z0a) 1100 Z (Sp.via (Sp.prod (Sp.prod (Sp.prod (Sp.prod (Sp.prod Sp.unit))))))<|Es (sto 1100 Z Z fH Z zb1)<|Zn<|gSR<|Zq (faB 1100 Z Z Tryz.underlying67 Z (by exact ze9))<|Zq (faB 1100 Z Z Tryz.underlying52 Z (by exact ti5))<|Zq (ld 1100 Z Z ((fP (z0w _)).part (z15 _)) ty5 Z)<|Zq (B.neq Z Z)<|Zj Z (fun h12=>?_) (fun h12=>?_)
    ·refine z2g<|Zm Z<|Zq (faB 1100 Z Z Tryz.underlying67 Z (by exact ze9))<|Zq (faB 1100 Z Z Tryz.underlying52 Z (by exact ti9))<|Zq (ld 1100 Z Z ((fP (z0w _)).part (z1i _)) ty9 Z)<|Es (mup 3 Z Z Z Z (zjr.str tu9) Tryz.underlying76)<|z21<|z3l<|z0m<|z2g<|Zq (I.add Z Z)<|Zm Z<|z21<|z1m (fun aa ww h=>Zu h [3,1001])
    ·refine z38<|z3l<|z0m<|z2g<|Zq (I.add Z Z)<|Zm Z<|z21<|z1m (fun aa ww h=>Zu h [3,1001])
   ·refine z1z<|z10<|z14<|z3p (fun aa ww h=>Zu h [3,1001])
  ·refine gSR<|Zb Z<|z0q<|gSR<|Zm Z<|z1a0 1101 3 Z Z Z Tryz.underlying76 fun u13 es14 ck15=>Zn<|zyo z3q 9 1104<|z19i (z16m (L:=fun (n17:Nat→Value)=>[(8,.val (n17 0)),(33,.val u13)]) (nv0:=nvl [(.slice none 0 0)]) 1101 3 List.Perm (fun _ _ _ h k=>h.trans k) (fun _=>.refl _) (AppF.comm (by_:=16) ?_) (fun (s16:(List (List UInt8))) (n17:Nat→Value)=>[(1103,some ((n17 0),.list z3q 9 s16)),zG1]) (fun aa ww h=>Zu h [1101,3,1104,1001]) (fun _=>rfl) Z Z (fun _ _ _=>(sS Z<|sS Z<|sN)) (fun _ _=>rfl) Z (fun Ci21 Cm22 k18 x19 s16 n17 hI20=>?_)) (fun r23=>eExM fun xp24 n26 hp25=>?_)
   ·intro e; unfold z84; repeat first | exact ⟨some [], fun _=>rfl⟩ | exact z15i _ | refine z10z fun _=>?_ | refine z145 ?_ ?_
   ·refine z5f<|gSR<|Zq (entM 1101 3 Z Z Z hI20)<|Zq (ext Z Z)<|Zb Z<|z2g<|Zm Z<|Zm Z<|Ef Z (lit (R:=z3q) ([k18]:List (List UInt8)) 1105 (pP Z Z<|pN) Z tu41 ti9 Z Z) fun v27=>z0t fun x28 h29=>Ef Z (apn 1103 Z Z Z (.own 1105 Z) h29 tu41 ti9 Z Z Z) fun v30=>Za Z<|z21<|z3l<|z3p (fun aa ww h=>⟨nvl [v30],Zu h [1101,3,1103,1001]⟩)
   ·refine z0m<|gSR<|Zm Z<|call [1103] [(1,1103)] Z Tryz.func24 Z Z (z1u.congr (zva (hp25).symm) (z130 _ _)) (Y1 Z) (Y0 Z) fun r31 n32=>Zn<|gSR<|Zm Z<|Za Z<|Zb Z<|z0k<|Ze [(n26 0)] [1001,1103] Z
def z7d (a0:Int):Option (z02) :=
 some (⟨1,a0,0,[]⟩:z02)
theorem z9e (a0:Int):z1u Tryz.prog 12 [.rd z08 a0] [] (z7d a0) (fun r nv=>⟨[.rd z0d r],[]⟩):=by
 refine z2f 5 Tryz.func12 Z Z Z fun H w=>?_;refine gSR<|Eb Z (z5l 1 zad (.zr (R:=z0d) (x:=(⟨0,0,0,[]⟩:z02)) zjt)) fun v1=>Zn<|gSR<|Zm Z<|Zq (bld (x':=(⟨1,a0,0,[]⟩:z02)) [(0,1),(1,1),(2,1),(3,1)] Tryz.underlying46 zad Z zjt Z (Bld.cons (z2m _) Z Z<|Bld.cons (z57 _) Z Z<|Bld.done Z))<|Es (sto 1 Z Z fH Z zad)<|Zn<|z0k<|zaz [] [] Z (eC 1 Z Z zh5<|eN) (rN)
def z90 (a0:V3) (a1:V3):Option (Bool) :=
 z86 a0 a1 >>= fun r3 =>
 some (decide (r3<0)) >>= fun y5 =>
 some y5
theorem zh3 (a0:V3) (a1:V3):z1u Tryz.prog 13 [.rd aZ a0,.rd aZ a1] [] (z90 a0 a1) (fun r nv=>⟨[.rd z09 r],[]⟩):=by
 refine z2f 9 Tryz.func13 Z Z Z fun H w=>?_;refine gSR<|Eb Z (bx 1 Z) fun v1=>Eb Z (bx 2 Z) fun v2=>Zb Z<|gSR<|Zq (ld 1 Z Z fH z6a Z)<|Zq (ld 2 Z Z fH z6a Z)<|Zc [] [] Tryz.func31 Z (zee _ _) fun r3 n4=>Zq (I.lss Z Z)<|Za Z<|z27 4 Z fun y5=>Zn<|z0k<|Ze [] [] Z
def z5u (a0:List (List UInt8)) (a1:List (List UInt8)) (s3:Int):Option (Sum (Sum Bool Unit) Int) :=
 if decide (s3<(a0.length:Int)) then
  idx a0 s3 >>= fun x5 =>
  idx a1 s3 >>= fun x7 =>
  if x5 != x7 then
   some (.inl (.inl false))
  else
   some (.inr (w64 (s3+1)))
 else
  some (.inl (.inr ()))
def z7s (a0:List (List UInt8)) (a1:List (List UInt8)):Option (Bool) :=
 if (a0.length:Int) != (a1.length:Int) then
  some false
 else
  z67 (iter (z5u a0 a1) 0) fun s2 =>
  some true
theorem zfo (a0:List (List UInt8)) (a1:List (List UInt8)):z1u Tryz.prog 14 [.rd (z03 z3q) a0,.rd (z03 z3q) a1] [] (z7s a0 a1) (fun r nv=>⟨[.rd z09 r],[]⟩):=by
 refine z2f 26 Tryz.func14 Z Z Z fun H w=>?_;refine gSR<|Zb Z<|z0q<|gSR<|Zm Z<|Zq (z4f Z .rd Z tu41)<|Zm Z<|Zq (z4f Z .rd Z tu41)<|Zq (I.neq Z Z)<|Zj Z (fun h1=>?_) (fun h1=>?_)
 ·refine gSR<|Zb Z<|z0k<|z0v<|Ze [] [] Z
 ·refine Zt<|z8i (fun (s2:Unit) aa ww=>Sta (ctx 26 H [] w) [] [] aa ww) ?_ (fun s2=>?_)
  ·refine gSR<|Zb Z<|z29 (fun (s3:Int) aa ww=>Sta (ctx 26 H [] w) [(0,.rd (z03 z3q) a0),(1,.rd (z03 z3q) a1),(5,.rd z08 s3)] [] aa ww) (fun aa ww h=>Zu h []) (fun s3=>?_);refine z0q<|gSR<|Zm Z<|Zm Z<|Zq (z4f Z .rd Z tu41)<|Zq (I.lss Z Z)<|Zj Z (fun h4=>?_) (fun h4=>?_)
   ·refine Zt<|z0q<|z5f<|z0q<|zhp mixed (by kernel_rfl)<|Rq Z (mv Z)<|Rq Z (mv Z)<|z6z fun x5 h6=>Rq Z (ixR Z Z h6 tu41 ti9 Z)<|Rq Z (ldR Z ty9)<|Rq Z (mv Z)<|Rq Z (mv Z)<|z6z fun x7 h8=>Rq Z (ixR Z Z h8 tu41 ti9 Z)<|Rq Z (ldR Z ty9)<|Rq Z (neS Z Z)<|zng<|z0m<|gIf Z Z (fun h9=>?_) (fun h9=>?_)
    ·refine gSR<|Zb Z<|z0k<|z4p<|z0v<|z8c<|z5n<|Ze [] [] Z
    ·refine z38<|z3l<|z0m<|z2g<|Zm Z<|Zq (I.add Z Z)<|Za Z<|z21<|z1m (fun aa ww h=>Zu h [])
   ·refine z1z<|z10<|z14<|z6x (fun aa ww h=>Zu h [])
  ·refine gSR<|Zb Z<|z0k<|Ze [] [] Z
def z7l (r16:(List V3) × Int) (s19:(List (V3 × Bool)) × Int):Option (Sum (Sum (Sum (Sum (z0j × Int) ((List (V3 × Bool)))) ((List (V3 × Bool)) × Int)) ((List (V3 × Bool)))) ((List (V3 × Bool)) × Int)) :=
 if decide (s19.2<(r16.1.length:Int)) then
  idx r16.1 s19.2 >>= fun x21 =>
  some (.inr (zmz s19.1 x21 true,w64 (s19.2+1)))
 else
  some (.inl (.inr s19.1))
def z7g (a0:z00) (a1:List UInt8) (s6:(List (V3 × Bool)) × Int):Option (Sum (Sum (z0j × Int) ((List (V3 × Bool)))) ((List (V3 × Bool)) × Int)) :=
 if decide (s6.2<(a0.Ops.length:Int)) then
  z67 (idx a0.Ops s6.2 >>= fun x9 =>
  if x9.Act.Key != a1 then
   some (.inr s6.1)
  else
   if x9.Act.Kind != 3 then
    some (.inr s6.1)
   else
    idx a0.IDs s6.2 >>= fun x14 =>
    z4z a0 x14 >>= fun r16 =>
    if r16.2 != 0 then
     some (.inl (.inl (.inl ((⟨false,(⟨0,0,0,[]⟩:z02)⟩:z0j),r16.2))))
    else
     iter (z7l r16) (s6.1,0)) fun s8 =>
  some (.inr (s8,w64 (s6.2+1)))
 else
  some (.inl (.inr s6.1))
def z91 (a0:z00) (a1:List UInt8) (s5:(List (V3 × Bool))) (s25:z0j × Int × Int):Option (Sum z0j (z0j × Int × Int)) :=
 if decide (s25.2.2<(a0.Ops.length:Int)) then
  idx a0.Ops s25.2.2 >>= fun x27 =>
  some (x27.Act.Key != a1) >>= fun y30 =>
  if y30 then
   some (.inr (s25.1,s25.2.1,w64 (s25.2.2+1)))
  else
   (if x27.Act.Kind==2 then
    idx a0.IDs s25.2.2 >>= fun x34 =>
    some (!((zax s5 x34).getD false)) >>= fun y36 =>
    some y36
   else
    some false) >>= fun s32 =>
   if s32 then
    some (.inr ({ s25.1 with in_:=true },s25.2.1,w64 (s25.2.2+1)))
   else
    (if x27.Act.Kind==4 then
     if decide (s25.2.1<0) then
      some true
     else
      idx a0.Ops s25.2.1 >>= fun x41 =>
      if decide (x41.Stamp<x27.Stamp) then
       some true
      else
       idx a0.Ops s25.2.1 >>= fun x44 =>
       if x27.Stamp==x44.Stamp then
        idx a0.IDs s25.2.2 >>= fun x47 =>
        idx a0.IDs s25.2.1 >>= fun x49 =>
        z87 x47 x49 >>= fun r51 =>
        some (decide (0<r51)) >>= fun y53 =>
        some y53
       else
        some false
    else
     some false) >>= fun s38 =>
    if s38 then
     some (.inr ({ s25.1 with v:=x27.Act.Value },s25.2.2,w64 (s25.2.2+1)))
    else
     some (.inr (s25.1,s25.2.1,w64 (s25.2.2+1)))
 else
  some (.inl s25.1)
def z9k (a0:z00) (a1:List UInt8):Option (z0j × Int) :=
 z67 (iter (z7g a0 a1) (([]:List (V3 × Bool)),0)) fun s5 =>
 (iter (z91 a0 a1 s5) ((⟨false,(⟨0,0,0,[]⟩:z02)⟩:z0j),(-1),0)) >>= fun s24 =>
 some (s24,0)
theorem zjz (a0:z00) (a1:List UInt8):z1u Tryz.prog 25 [.rd z01 a0,.rd z3q a1] [zG1] (z9k a0 a1) (fun r nv=>⟨[.rd z0s r.1,.rd z08 r.2],[(1001,some (.bool true,.glob 1 (z3m 64 z0p) z5i))]⟩):=by
 refine z2f 143 Tryz.func25 Z Z Z fun H w=>?_;refine gSR<|Eb Z (bx 1 Z) fun v1=>Eb Z (z5l 2 ti79 (.zr (R:=z0s) (x:=(⟨false,(⟨0,0,0,[]⟩:z02)⟩:z0j)) zr79)) fun v2=>Zb Z<|gSR<|Eb Z (z5l 3 ti79 (.zr (R:=z0s) (x:=(⟨false,(⟨0,0,0,[]⟩:z02)⟩:z0j)) zr79)) fun v3=>Zn<|gSR<|Ef Z (mkm aZ z09 4 (Or.inl Z) Tryz.underlying117) fun v4=>Zb Z<|z8i (fun (s5:(List (V3 × Bool))) aa ww=>Sta (ctx 143 H [zG1] w) [(1,.rd z3q a1),(2,.val (z05 v1 0)),(4,.val (z05 v2 0)),(6,.val (z05 v3 0)),(7,.val v4)] [(1,some (v1,.box 25 [.rd z01 a0])),(2,some (v2,.box 79 [.rd z0s (⟨false,(⟨0,0,0,[]⟩:z02)⟩:z0j)])),(3,some (v3,.box 79 [.rd z0s (⟨false,(⟨0,0,0,[]⟩:z02)⟩:z0j)])),(4,some (v4,.map aZ z09 s5)),zG1] aa ww) ?_ (fun s5=>?_)
 ·refine gSR<|Zq (faB 1 Z Z Tryz.underlying25 Z (by exact zcg))<|Zq (ld 1 Z Z (fP (z06 _)) zep Z)<|Zq (z4f Z .rd Z tu23)<|Zm Z<|Zn<|z29 (fun (s6:(List (V3 × Bool)) × Int) aa ww=>Sta (ctx 143 H [zG1] w) [(1,.rd z3q a1),(2,.val (z05 v1 0)),(4,.val (z05 v2 0)),(6,.val (z05 v3 0)),(7,.val v4),(19,.rd (z03 z04) a0.Ops),(20,.rd z08 (a0.Ops.length:Int)),(21,.rd z08 s6.2)] [(1,some (v1,.box 25 [.rd z01 a0])),(2,some (v2,.box 79 [.rd z0s (⟨false,(⟨0,0,0,[]⟩:z02)⟩:z0j)])),(3,some (v3,.box 79 [.rd z0s (⟨false,(⟨0,0,0,[]⟩:z02)⟩:z0j)])),(4,some (v4,.map aZ z09 s6.1)),zG1] aa ww) (fun aa ww h=>Zu h [1,2,3,4,1001]) (fun s6=>?_)
  refine gSR<|Zq (I.lss Z Z)<|Zn<|z0q<|gIf Z Z (fun h7=>?_) (fun h7=>?_)
  ·refine Zt<|z8i (fun (s8:(List (V3 × Bool))) aa ww=>Sta (ctx 143 H [zG1] w) [(1,.rd z3q a1),(2,.val (z05 v1 0)),(4,.val (z05 v2 0)),(6,.val (z05 v3 0)),(7,.val v4),(19,.rd (z03 z04) a0.Ops),(20,.rd z08 (a0.Ops.length:Int)),(21,.rd z08 s6.2)] [(1,some (v1,.box 25 [.rd z01 a0])),(2,some (v2,.box 79 [.rd z0s (⟨false,(⟨0,0,0,[]⟩:z02)⟩:z0j)])),(3,some (v3,.box 79 [.rd z0s (⟨false,(⟨0,0,0,[]⟩:z02)⟩:z0j)])),(4,some (v4,.map aZ z09 s8)),zG1] aa ww) ?_ (fun s8=>?_)
   ·refine z5f<|gSR<|Zm Z<|z0t fun x9 h10=>Zq (ixR Z Z h10 tu23 zb1 Z)<|Zq (ldR Z zeb)<|Eb Z (z5l 1100 zb1 (ZrE.rd (R:=z0p) (x:=0) (Zr.num Z) (ZrE.nilS (ZrE.rd (R:=z2x) (x:=0) (Zr.num Z) (ZrE.rd (R:=z0i) (x:=(⟨0,[],(⟨0,0,0,[]⟩:z02)⟩:z07)) zla (ZrE.rd (R:=z0r) (x:=(⟨0,0⟩:z0c)) zoe ZrE.nil Z) Z) Z)) Z)) fun v11=>Za Z<|zft aZ [.rd z0p 0,.rd (z03 aZ) [],.rd z2x 0,.rd z0i (⟨0,[],(⟨0,0,0,[]⟩:z02)⟩:z07),.rd z0r (⟨0,0⟩:z0c)] 1100 [.rd z0p 0] [.rd z2x 0,.rd z0i (⟨0,[],(⟨0,0,0,[]⟩:z02)⟩:z07),.rd z0r (⟨0,0⟩:z0c)] Z Z Z<|zfs (R:=z04) (⟨0,[],0,(⟨0,[],(⟨0,0,0,[]⟩:z02)⟩:z07),(⟨0,0⟩:z0c)⟩:z0a) 1100 Z (Sp.via (Sp.prod (Sp.prod (Sp.prod (Sp.prod (Sp.prod Sp.unit))))))<|Es (sto 1100 Z Z fH Z zb1)<|Zn<|z0q<|gSR<|Zq (faB 1100 Z Z Tryz.underlying67 Z (by exact ze9))<|Zq (faB 1100 Z Z Tryz.underlying52 Z (by exact ti9))<|Zq (ld 1100 Z Z ((fP (z0w _)).part (z1i _)) ty9 Z)<|Zm Z<|Zq (neS Z Z)<|Zm Z<|z28 31 Z (fun h12=>?_) (fun h12=>?_)
    ·refine lKn 30 Z h12<|Zk Z<|Zk Z<|Zk Z<|Zk Z<|Zq (pkT Z Z)<|Zn<|zdc Z<|z1z<|z10<|zz4<|z6x (fun aa ww h=>Zu h [1,2,3,4,1001])
    ·refine lKn 30 Z h12<|z1l Zx Z Z (faB 1100 Z Z Tryz.underlying67 Z (by exact ze9))<|z1l Zx Z Z (faB 1100 Z Z Tryz.underlying52 Z (by exact ti5))<|z1l Zx Z Z (ld 1100 Z Z ((fP (z0w _)).part (z15 _)) ty5 Z)<|z1l Zx Z Z (B.neq Z Z)<|Zq (pkF Z Z)<|Zj Z (fun h13=>?_) (fun h13=>?_)
     ·refine gKn 35 Z h13<|z1z<|z10<|zz4<|z6x (fun aa ww h=>Zu h [1,2,3,4,1001])
     ·refine gKn 35 Z h13<|Zt<|z0q<|z6l [1001,1119] mixed Z Z<|hTk 0 Z Z (ld 1 Z Z fH zb9 Z)<|hTk 1 Z Z (faB 1 Z Z Tryz.underlying25 Z (by exact zb4))<|hTk 2 Z Z (ld 1 Z Z (fP (z0n _)) zbp Z)<|hTk 3 Z Z (mv Z)<|z5g fun x14 h15=>hTk 4 Z Z (ixR Z Z h15 tu22 z3v Z)<|hTk 5 Z Z (ldR Z z6a)<|z2v 6 [1001] [(100,1119)] Z (by kernel_rfl) Z (gd0 Z) Z Tryz.func40 Z Z (zbu _ _) (Y2 Z Z) (Y0 Z) Z (fun _ _=>(zv0 (flC z37 (flC z1x fl0)))) fun r16 n17=>hTk 7 Z Z (mv Z)<|hTk 8 Z Z (ext Z Z)<|hTk 9 Z Z (ext Z Z)<|Zf 10 Z Z z37 (asg Z)<|hTk 11 Z Z (asg Z)<|z3e (by kernel_rfl)<|z0m<|z0q<|gSR<|Zm Z<|Zq (I.neq Z Z)<|Zj Z (fun h18=>?_) (fun h18=>?_)
      ·refine gSR<|Zq (bld (x':=(⟨false,(⟨0,0,0,[]⟩:z02)⟩:z0j)) [(0,1),(1,4)] Tryz.underlying79 ti79 Z zr79 Z (Bld.done Z))<|Zm Z<|Es (sto 2 Z Z fH Z ti79)<|Zb Z<|z0k<|z0v<|z4p<|z5n<|z8c<|z5n<|zaz [] [1001] Z (eC 2 Z Z ty79<|eE Z<|eN) (Y0 Z)
      ·refine Zt<|gSR<|Zm Z<|Zq (z4f Z (.own 1119 Z) Z tu22)<|Zm Z<|Zn<|z29 (fun (s19:(List (V3 × Bool)) × Int) aa ww=>Sta (ctx 143 H [zG1] w) [(1,.rd z3q a1),(2,.val (z05 v1 0)),(4,.val (z05 v2 0)),(6,.val (z05 v3 0)),(7,.val v4),(19,.rd (z03 z04) a0.Ops),(20,.rd z08 (a0.Ops.length:Int)),(21,.rd z08 s6.2),(51,.val (n17 0)),(52,.rd z08 (r16.1.length:Int)),(53,.rd z08 s19.2)] [(1,some (v1,.box 25 [.rd z01 a0])),(2,some (v2,.box 79 [.rd z0s (⟨false,(⟨0,0,0,[]⟩:z02)⟩:z0j)])),(3,some (v3,.box 79 [.rd z0s (⟨false,(⟨0,0,0,[]⟩:z02)⟩:z0j)])),(4,some (v4,.map aZ z09 s19.1)),(1119,some ((n17 0),.list aZ 54 r16.1)),zG1] aa ww) (fun aa ww h=>Zu h [1,2,3,4,1119,1001]) (fun s19=>?_)
       refine gSR<|Zq (I.lss Z Z)<|Zn<|z0q<|gIf Z Z (fun h20=>?_) (fun h20=>?_)
       ·refine Zt<|z0q<|z5f<|gSR<|z0t fun x21 h22=>Zq (ixO 1119 Z Z Z h22 tu22 z3v)<|Zq (ld 1119 Z Z (Foc.el h22) z6a Z)<|Eb Z (z5l 1140 z3v (.zr (R:=aZ) (x:=(Vector.replicate 32 0)) zfn)) fun v23=>Es (sto 1140 Z Z fH Z z3v)<|Zn<|z2g<|Zm Z<|Zq (ld 1140 Z Z fH z6a Z)<|Es (mup 4 Z Z Z Z ky54 Tryz.underlying117)<|z21<|z3l<|z0m<|z2g<|Zq (I.add Z Z)<|Zm Z<|z21<|z1m (fun aa ww h=>Zu h [1,2,3,4,1119,1001])
       ·refine z1z<|z10<|z14<|z3l<|z6x (fun aa ww h=>Zu h [1,2,3,4,1001])
   ·refine z2g<|Zq (I.add Z Z)<|Zm Z<|z21<|z1m (fun aa ww h=>Zu h [1,2,3,4,1001])
  ·refine z1z<|z10<|z14<|z6x (fun aa ww h=>Zu h [1,2,3,4,1001])
 ·refine gSR<|Zb Z<|z7r (fun (s24:z0j) aa ww=>Sta (ctx 143 H [zG1] w) [(4,.val (z05 v2 0)),(6,.val (z05 v3 0))] [(2,some (v2,.box 79 [.rd z0s (⟨false,(⟨0,0,0,[]⟩:z02)⟩:z0j)])),(3,some (v3,.box 79 [.rd z0s s24])),zG1] aa ww) ?_ (fun s24=>?_)
  ·refine gSR<|Zq (faB 1 Z Z Tryz.underlying25 Z (by exact zcg))<|Zq (ld 1 Z Z (fP (z06 _)) zep Z)<|Zq (z4f Z .rd Z tu23)<|Zm Z<|Zn<|z29 (fun (s25:z0j × Int × Int) aa ww=>Sta (ctx 143 H [zG1] w) [(1,.rd z3q a1),(2,.val (z05 v1 0)),(4,.val (z05 v2 0)),(6,.val (z05 v3 0)),(7,.val v4),(14,.rd z08 s25.2.1),(62,.rd (z03 z04) a0.Ops),(63,.rd z08 (a0.Ops.length:Int)),(64,.rd z08 s25.2.2)] [(1,some (v1,.box 25 [.rd z01 a0])),(2,some (v2,.box 79 [.rd z0s (⟨false,(⟨0,0,0,[]⟩:z02)⟩:z0j)])),(3,some (v3,.box 79 [.rd z0s s25.1])),(4,some (v4,.map aZ z09 s5)),zG1] aa ww) (fun aa ww h=>Zu h [1,2,3,4,1001]) (fun s25=>?_)
   refine gSR<|Zq (I.lss Z Z)<|Zn<|z0q<|gIf Z Z (fun h26=>?_) (fun h26=>?_)
   ·refine Zt<|z0q<|z5f<|gSR<|Zm Z<|z0t fun x27 h28=>Zq (ixR Z Z h28 tu23 zb1 Z)<|Zq (ldR Z zeb)<|Eb Z (z5l 1141 zb1 (ZrE.rd (R:=z0p) (x:=0) (Zr.num Z) (ZrE.nilS (ZrE.rd (R:=z2x) (x:=0) (Zr.num Z) (ZrE.rd (R:=z0i) (x:=(⟨0,[],(⟨0,0,0,[]⟩:z02)⟩:z07)) zla (ZrE.rd (R:=z0r) (x:=(⟨0,0⟩:z0c)) zoe ZrE.nil Z) Z) Z)) Z)) fun v29=>Za Z<|zft aZ [.rd z0p 0,.rd (z03 aZ) [],.rd z2x 0,.rd z0i (⟨0,[],(⟨0,0,0,[]⟩:z02)⟩:z07),.rd z0r (⟨0,0⟩:z0c)] 1141 [.rd z0p 0] [.rd z2x 0,.rd z0i (⟨0,[],(⟨0,0,0,[]⟩:z02)⟩:z07),.rd z0r (⟨0,0⟩:z0c)] Z Z Z<|zfs (R:=z04) (⟨0,[],0,(⟨0,[],(⟨0,0,0,[]⟩:z02)⟩:z07),(⟨0,0⟩:z0c)⟩:z0a) 1141 Z (Sp.via (Sp.prod (Sp.prod (Sp.prod (Sp.prod (Sp.prod Sp.unit))))))<|Es (sto 1141 Z Z fH Z zb1)<|Zn<|z5f<|gSR<|Zq (faB 1141 Z Z Tryz.underlying67 Z (by exact ze9))<|Zq (faB 1141 Z Z Tryz.underlying52 Z (by exact ti9))<|Zq (ld 1141 Z Z ((fP (z0w _)).part (z1i _)) ty9 Z)<|Zm Z<|Zq (neS Z Z)<|Za Z<|z27 69 Z fun y30=>Zj Z (fun h31=>?_) (fun h31=>?_)
    ·refine z38<|z3l<|z3l<|z0m<|z2g<|Zq (I.add Z Z)<|Zm Z<|z21<|z1m (fun aa ww h=>Zu h [1,2,3,4,1001])
    ·refine z7r (fun (s32:Bool) aa ww=>Sta (ctx 143 H [zG1] w) [(1,.rd z3q a1),(2,.val (z05 v1 0)),(4,.val (z05 v2 0)),(6,.val (z05 v3 0)),(7,.val v4),(14,.rd z08 s25.2.1),(15,.rd z08 s25.2.2),(16,.val (z05 v29 0)),(62,.rd (z03 z04) a0.Ops),(63,.rd z08 (a0.Ops.length:Int)),(64,.rd z08 s25.2.2),(75,.rd z09 s32)] [(1,some (v1,.box 25 [.rd z01 a0])),(2,some (v2,.box 79 [.rd z0s (⟨false,(⟨0,0,0,[]⟩:z02)⟩:z0j)])),(3,some (v3,.box 79 [.rd z0s s25.1])),(4,some (v4,.map aZ z09 s5)),(1141,some (v29,.box 67 [.rd z04 x27])),zG1] aa ww) ?_ (fun s32=>?_)
     ·refine z2g<|Zq (faB 1141 Z Z Tryz.underlying67 Z (by exact ze9))<|Zq (faB 1141 Z Z Tryz.underlying52 Z (by exact ti5))<|Zq (ld 1141 Z Z ((fP (z0w _)).part (z15 _)) ty5 Z)<|Zq (B.eql Z Z)<|Zm Z<|z28 80 Z (fun h33=>?_) (fun h33=>?_)
      ·refine lKn 79 Z h33<|z1l Zx Z Z (mv Z)<|z1l Zx Z Z (faB 1 Z Z Tryz.underlying25 Z (by exact zb4))<|z1l Zx Z Z (ld 1 Z Z (fP (z0n _)) zbp Z)<|z1l Zx Z Z (mv Z)<|z0t fun x34 h35=>z1l Zx Z Z (ixR Z Z h35 tu22 z3v Z)<|z1l Zx Z Z (ldR Z z6a)<|z1l Zx Z Z (mlk Z (.own 4 Z Z) Z ky54 Tryz.underlying117 ti4 Zr.bool Z)<|z1l Zx Z Z (zgu Z)<|Zq (pkT Z Z)<|Za Z<|z27 75 Z fun y36=>z21<|z3p (fun aa ww h=>Zu h [1,2,3,4,1141,1001])
      ·refine lKn 79 Z h33<|Zk Z<|Zk Z<|Zk Z<|Zk Z<|Zk Z<|Zk Z<|Zk Z<|Zk Z<|Zq (pkF Z Z)<|Za Z<|z21<|z3p (fun aa ww h=>Zu h [1,2,3,4,1141,1001])
     ·refine gIf Z Z (fun h37=>?_) (fun h37=>?_)
      ·refine z2g<|Zq (faB 3 Z Z Tryz.underlying79 Z (by exact ti4))<|Es (sto 3 Z Z (fP (zb3 _)) Z ti4)<|z21<|z3l<|z3l<|z0m<|z2g<|Zq (I.add Z Z)<|Zm Z<|z21<|z1m (fun aa ww h=>Zu h [1,2,3,4,1001])
      ·refine z7r (fun (s38:Bool) aa ww=>Sta (ctx 143 H [zG1] w) [(1,.rd z3q a1),(2,.val (z05 v1 0)),(4,.val (z05 v2 0)),(6,.val (z05 v3 0)),(7,.val v4),(14,.rd z08 s25.2.1),(15,.rd z08 s25.2.2),(16,.val (z05 v29 0)),(62,.rd (z03 z04) a0.Ops),(63,.rd z08 (a0.Ops.length:Int)),(64,.rd z08 s25.2.2),(91,.rd z09 s38)] [(1,some (v1,.box 25 [.rd z01 a0])),(2,some (v2,.box 79 [.rd z0s (⟨false,(⟨0,0,0,[]⟩:z02)⟩:z0j)])),(3,some (v3,.box 79 [.rd z0s s25.1])),(4,some (v4,.map aZ z09 s5)),(1141,some (v29,.box 67 [.rd z04 x27])),zG1] aa ww) ?_ (fun s38=>?_)
       ·refine z6l [] mixed Z Z<|hTk 0 Z Z (faB 1141 Z Z Tryz.underlying67 Z (by exact ze9))<|hTk 1 Z Z (faB 1141 Z Z Tryz.underlying52 Z (by exact ti5))<|hTk 2 Z Z (ld 1141 Z Z ((fP (z0w _)).part (z15 _)) ty5 Z)<|hTk 3 Z Z (B.eql Z Z)<|hTk 4 Z Z (mv Z)<|hIf 96 Z Z (fun h39=>?_) (fun h39=>?_)
        ·refine hKn 95 Z Z h39<|Zg 5 Z Z (mv Z)<|Zg 6 Z Z (I.lss Z Z)<|Zg 7 Z Z (mv Z)<|hIf 99 Z Z (fun h40=>?_) (fun h40=>?_)
         ·refine hKn 98 Z Z h40<|hSk 8 Z Z<|hSk 9 Z Z<|hSk 10 Z Z<|hSk 11 Z Z<|hSk 12 Z Z<|hSk 13 Z Z<|hSk 14 Z Z<|hSk 15 Z Z<|hSk 16 Z Z<|Zg 17 Z Z (pkT Z Z)<|Zg 18 Z Z (mv Z)<|hSk 19 Z Z<|hSk 20 Z Z<|hSk 21 Z Z<|hSk 22 Z Z<|hSk 23 Z Z<|hSk 24 Z Z<|hSk 25 Z Z<|hSk 26 Z Z<|hSk 27 Z Z<|hSk 28 Z Z<|z20 29 Z (by kernel_rfl) (by kernel_rfl) (by kernel_rfl) (gdU Z Z Z) Z Z<|z20 30 Z (by kernel_rfl) (by kernel_rfl) (by kernel_rfl) (gdU Z Z Z) Z Z<|z20 31 Z (by kernel_rfl) (by kernel_rfl) (by kernel_rfl) (gdU Z Z Z) Z Z<|z20 32 Z (by kernel_rfl) (by kernel_rfl) (by kernel_rfl) (gdU Z Z Z) Z Z<|z20 33 Z (by kernel_rfl) (by kernel_rfl) (by kernel_rfl) (gdU Z Z Z) Z Z<|z20 34 Z (by kernel_rfl) (by kernel_rfl) (by kernel_rfl) (gdU Z Z Z) Z Z<|z20 35 Z (by kernel_rfl) (by kernel_rfl) (by kernel_rfl) (gdU Z Z Z) Z Z<|z20 36 Z (by kernel_rfl) (by kernel_rfl) (by kernel_rfl) (gdU Z Z Z) Z Z<|z20 37 Z (by kernel_rfl) (by kernel_rfl) (by kernel_rfl) (gdU Z Z Z) Z Z<|z20 38 Z (by kernel_rfl) (by kernel_rfl) (by kernel_rfl) (gdU Z Z Z) Z Z<|z20 39 Z (by kernel_rfl) (by kernel_rfl) (by kernel_rfl) (gdU Z Z Z) Z Z<|z20 40 Z (by kernel_rfl) (by kernel_rfl) (by kernel_rfl) (gdU Z Z Z) Z Z<|hSk 41 Z Z<|Zg 42 Z Z (pkT Z Z)<|hTk 43 Z Z (pkT Z Z)<|hTk 44 Z Z (asg Z)<|z3e (by kernel_rfl)<|z3p (fun aa ww h=>Zu h [1,2,3,4,1141,1001])
         ·refine hKn 98 Z Z h40<|Zg 8 Z Z (faB 1141 Z Z Tryz.underlying67 Z (by exact zp4))<|Zg 9 Z Z (ld 1141 Z Z (fP (z3u _)) znt Z)<|Zg 10 Z Z (faB 1 Z Z Tryz.underlying25 Z (by exact zcg))<|Zg 11 Z Z (ld 1 Z Z (fP (z06 _)) zep Z)<|Zg 12 Z Z (mv Z)<|z5g fun x41 h42=>Zg 13 Z Z (ixR Z Z h42 tu23 zb1 Z)<|Zg 14 Z Z (faR Z (z3u _) Tryz.underlying67 Z Z (by exact zp4))<|Zg 15 Z Z (ldR Z znt)<|Zg 16 Z Z (U.gtr Z Z)<|Zg 17 Z Z (pkF Z Z)<|Zg 18 Z Z (mv Z)<|hIf 110 Z Z (fun h43=>?_) (fun h43=>?_)
          ·refine hKn 108 Z Z h43<|hKn 109 Z Z h43<|hSk 19 Z Z<|hSk 20 Z Z<|hSk 21 Z Z<|hSk 22 Z Z<|hSk 23 Z Z<|hSk 24 Z Z<|hSk 25 Z Z<|hSk 26 Z Z<|hSk 27 Z Z<|hSk 28 Z Z<|z20 29 Z (by kernel_rfl) (by kernel_rfl) (by kernel_rfl) (gdU Z Z Z) Z Z<|z20 30 Z (by kernel_rfl) (by kernel_rfl) (by kernel_rfl) (gdU Z Z Z) Z Z<|z20 31 Z (by kernel_rfl) (by kernel_rfl) (by kernel_rfl) (gdU Z Z Z) Z Z<|z20 32 Z (by kernel_rfl) (by kernel_rfl) (by kernel_rfl) (gdU Z Z Z) Z Z<|z20 33 Z (by kernel_rfl) (by kernel_rfl) (by kernel_rfl) (gdU Z Z Z) Z Z<|z20 34 Z (by kernel_rfl) (by kernel_rfl) (by kernel_rfl) (gdU Z Z Z) Z Z<|z20 35 Z (by kernel_rfl) (by kernel_rfl) (by kernel_rfl) (gdU Z Z Z) Z Z<|z20 36 Z (by kernel_rfl) (by kernel_rfl) (by kernel_rfl) (gdU Z Z Z) Z Z<|z20 37 Z (by kernel_rfl) (by kernel_rfl) (by kernel_rfl) (gdU Z Z Z) Z Z<|z20 38 Z (by kernel_rfl) (by kernel_rfl) (by kernel_rfl) (gdU Z Z Z) Z Z<|z20 39 Z (by kernel_rfl) (by kernel_rfl) (by kernel_rfl) (gdU Z Z Z) Z Z<|z20 40 Z (by kernel_rfl) (by kernel_rfl) (by kernel_rfl) (gdU Z Z Z) Z Z<|hSk 41 Z Z<|Zg 42 Z Z (pkT Z Z)<|hTk 43 Z Z (pkT Z Z)<|hTk 44 Z Z (asg Z)<|z3e (by kernel_rfl)<|z3p (fun aa ww h=>Zu h [1,2,3,4,1141,1001])
          ·refine hKn 108 Z Z h43<|hKn 109 Z Z h43<|Zg 19 Z Z (faB 1141 Z Z Tryz.underlying67 Z (by exact zp4))<|Zg 20 Z Z (ld 1141 Z Z (fP (z3u _)) znt Z)<|Zg 21 Z Z (faB 1 Z Z Tryz.underlying25 Z (by exact zcg))<|Zg 22 Z Z (ld 1 Z Z (fP (z06 _)) zep Z)<|Zg 23 Z Z (mv Z)<|z5g fun x44 h45=>Zg 24 Z Z (ixR Z Z h45 tu23 zb1 Z)<|Zg 25 Z Z (faR Z (z3u _) Tryz.underlying67 Z Z (by exact zp4))<|Zg 26 Z Z (ldR Z znt)<|Zg 27 Z Z (U.eql Z Z)<|Zg 28 Z Z (mv Z)<|hIf 120 Z Z (fun h46=>?_) (fun h46=>?_)
           ·refine hKn 119 Z Z h46<|Zg 29 Z Z (faB 1 Z Z Tryz.underlying25 Z (by exact zb4))<|Zg 30 Z Z (ld 1 Z Z (fP (z0n _)) zbp Z)<|Zg 31 Z Z (mv Z)<|z5g fun x47 h48=>Zg 32 Z Z (ixR Z Z h48 tu22 z3v Z)<|Zg 33 Z Z (ldR Z z6a)<|Zg 34 Z Z (faB 1 Z Z Tryz.underlying25 Z (by exact zb4))<|Zg 35 Z Z (ld 1 Z Z (fP (z0n _)) zbp Z)<|Zg 36 Z Z (mv Z)<|z5g fun x49 h50=>Zg 37 Z Z (ixR Z Z h50 tu22 z3v Z)<|Zg 38 Z Z (ldR Z z6a)<|z2v 39 [] [] Z (by kernel_rfl) Z Zx Z Tryz.func51 Z Z (z92 _ _) (Y2 Z Z) rN Z (fun _ _=>z1x) fun r51 n52=>Zg 40 Z Z (I.gtr Z Z)<|Zg 41 Z Z (pkT Z Z)<|Zg 42 Z Z (pkF Z Z)<|hTk 43 Z Z (pkT Z Z)<|hTk 44 Z Z (asg Z)<|zvq 91 Z Z fun y53=>z3e (by kernel_rfl)<|z3p (fun aa ww h=>Zu h [1,2,3,4,1141,1001])
           ·refine hKn 119 Z Z h46<|hSk 29 Z Z<|hSk 30 Z Z<|hSk 31 Z Z<|hSk 32 Z Z<|hSk 33 Z Z<|hSk 34 Z Z<|hSk 35 Z Z<|hSk 36 Z Z<|hSk 37 Z Z<|hSk 38 Z Z<|hSk 39 Z Z<|hSk 40 Z Z<|Zg 41 Z Z (pkF Z Z)<|Zg 42 Z Z (pkF Z Z)<|hTk 43 Z Z (pkT Z Z)<|hTk 44 Z Z (asg Z)<|z3e (by kernel_rfl)<|z3p (fun aa ww h=>Zu h [1,2,3,4,1141,1001])
        ·refine hKn 95 Z Z h39<|hSk 5 Z Z<|hSk 6 Z Z<|hSk 7 Z Z<|z20 8 Z (by kernel_rfl) (by kernel_rfl) (by kernel_rfl) (gdU Z Z Z) Z Z<|z20 9 Z (by kernel_rfl) (by kernel_rfl) (by kernel_rfl) (gdU Z Z Z) Z Z<|z20 10 Z (by kernel_rfl) (by kernel_rfl) (by kernel_rfl) (gdU Z Z Z) Z Z<|z20 11 Z (by kernel_rfl) (by kernel_rfl) (by kernel_rfl) (gdU Z Z Z) Z Z<|z20 12 Z (by kernel_rfl) (by kernel_rfl) (by kernel_rfl) (gdU Z Z Z) Z Z<|z20 13 Z (by kernel_rfl) (by kernel_rfl) (by kernel_rfl) (gdU Z Z Z) Z Z<|z20 14 Z (by kernel_rfl) (by kernel_rfl) (by kernel_rfl) (gdU Z Z Z) Z Z<|z20 15 Z (by kernel_rfl) (by kernel_rfl) (by kernel_rfl) (gdU Z Z Z) Z Z<|z20 16 Z (by kernel_rfl) (by kernel_rfl) (by kernel_rfl) (gdU Z Z Z) Z Z<|hSk 17 Z Z<|hSk 18 Z Z<|z20 19 Z (by kernel_rfl) (by kernel_rfl) (by kernel_rfl) (gdU Z Z Z) Z Z<|z20 20 Z (by kernel_rfl) (by kernel_rfl) (by kernel_rfl) (gdU Z Z Z) Z Z<|z20 21 Z (by kernel_rfl) (by kernel_rfl) (by kernel_rfl) (gdU Z Z Z) Z Z<|z20 22 Z (by kernel_rfl) (by kernel_rfl) (by kernel_rfl) (gdU Z Z Z) Z Z<|z20 23 Z (by kernel_rfl) (by kernel_rfl) (by kernel_rfl) (gdU Z Z Z) Z Z<|z20 24 Z (by kernel_rfl) (by kernel_rfl) (by kernel_rfl) (gdU Z Z Z) Z Z<|z20 25 Z (by kernel_rfl) (by kernel_rfl) (by kernel_rfl) (gdU Z Z Z) Z Z<|z20 26 Z (by kernel_rfl) (by kernel_rfl) (by kernel_rfl) (gdU Z Z Z) Z Z<|z20 27 Z (by kernel_rfl) (by kernel_rfl) (by kernel_rfl) (gdU Z Z Z) Z Z<|z20 28 Z (by kernel_rfl) (by kernel_rfl) (by kernel_rfl) (gdU Z Z Z) Z Z<|z20 29 Z (by kernel_rfl) (by kernel_rfl) (by kernel_rfl) (gdU Z Z Z) Z Z<|z20 30 Z (by kernel_rfl) (by kernel_rfl) (by kernel_rfl) (gdU Z Z Z) Z Z<|z20 31 Z (by kernel_rfl) (by kernel_rfl) (by kernel_rfl) (gdU Z Z Z) Z Z<|z20 32 Z (by kernel_rfl) (by kernel_rfl) (by kernel_rfl) (gdU Z Z Z) Z Z<|z20 33 Z (by kernel_rfl) (by kernel_rfl) (by kernel_rfl) (gdU Z Z Z) Z Z<|z20 34 Z (by kernel_rfl) (by kernel_rfl) (by kernel_rfl) (gdU Z Z Z) Z Z<|z20 35 Z (by kernel_rfl) (by kernel_rfl) (by kernel_rfl) (gdU Z Z Z) Z Z<|z20 36 Z (by kernel_rfl) (by kernel_rfl) (by kernel_rfl) (gdU Z Z Z) Z Z<|z20 37 Z (by kernel_rfl) (by kernel_rfl) (by kernel_rfl) (gdU Z Z Z) Z Z<|z20 38 Z (by kernel_rfl) (by kernel_rfl) (by kernel_rfl) (gdU Z Z Z) Z Z<|z20 39 Z (by kernel_rfl) (by kernel_rfl) (by kernel_rfl) (gdU Z Z Z) Z Z<|z20 40 Z (by kernel_rfl) (by kernel_rfl) (by kernel_rfl) (gdU Z Z Z) Z Z<|z20 41 Z (by kernel_rfl) (by kernel_rfl) (by kernel_rfl) (gdU Z Z Z) Z Z<|hSk 42 Z Z<|hTk 43 Z Z (pkF Z Z)<|hTk 44 Z Z (asg Z)<|z3e (by kernel_rfl)<|z3p (fun aa ww h=>Zu h [1,2,3,4,1141,1001])
       ·refine gIf Z Z (fun h54=>?_) (fun h54=>?_)
        ·refine z6l [3] mixed Z Z<|hTk 0 Z Z (mv Z)<|hTk 1 Z Z (faB 1141 Z Z Tryz.underlying67 Z (by exact ze9))<|hTk 2 Z Z (faB 1141 Z Z Tryz.underlying52 Z (by exact zad))<|hTk 3 Z Z (ld 1141 Z Z ((fP (z0w _)).part (z33 _)) zh5 Z)<|hTk 4 Z Z (asg Z)<|hTk 5 Z Z (faB 3 Z Z Tryz.underlying79 Z (by exact zad))<|Zp 6 Z Z Z Z Z (sto 3 Z Z (fP (zcb _)) Z zad)<|z3e (by kernel_rfl)<|z3l<|z3l<|z0m<|z2g<|Zq (I.add Z Z)<|Zm Z<|z21<|z1m (fun aa ww h=>Zu h [1,2,3,4,1001])
        ·refine z38<|z3l<|z3l<|z0m<|z2g<|Zq (I.add Z Z)<|Zm Z<|z21<|z1m (fun aa ww h=>Zu h [1,2,3,4,1001])
   ·refine z1z<|z10<|z14<|z3p (fun aa ww h=>Zu h [2,3,1001])
  ·refine gSR<|Zq (ld 3 Z Z fH ty79 Z)<|Es (sto 2 Z Z fH Z ti79)<|Zb Z<|z0k<|zaz [] [1001] Z (eC 2 Z Z ty79<|eE Z<|eN) (Y0 Z)
def z4s (a0:z00) (a1:List UInt8):Option (Bool × z02 × Int) :=
 z3f a0 >>= fun r3 =>
 if r3 != 0 then
  some (false,(⟨0,0,0,[]⟩:z02),r3)
 else
  z9k a0 a1 >>= fun r6 =>
  some (r6.1.in_,r6.1.v,r6.2)
theorem zg7 (a0:z00) (a1:List UInt8):z1u Tryz.prog 9 [.rd z01 a0,.rd z3q a1] [zG1] (z4s a0 a1) (fun r nv=>⟨[.rd z09 r.1,.rd z0d r.2.1,.rd z08 r.2.2],[(1001,some (.bool true,.glob 1 (z3m 64 z0p) z5i))]⟩):=by
 refine z2f 27 Tryz.func9 Z Z Z fun H w=>?_;refine gSR<|Eb Z (bx 1 Z) fun v1=>Za Z<|Eb Z (z5l 2 zad (.zr (R:=z0d) (x:=(⟨0,0,0,[]⟩:z02)) zjt)) fun v2=>Zb Z<|z0q<|gSR<|Zq (ld 1 Z Z fH zb9 Z)<|Zc [1001] [] Tryz.func23 Z (z8q _) fun r3 n4=>Zb Z<|gSR<|Zm Z<|Zq (I.neq Z Z)<|Zj Z (fun h5=>?_) (fun h5=>?_)
 ·refine gSR<|Zq (bld (x':=(⟨0,0,0,[]⟩:z02)) [(0,1),(1,1),(2,1),(3,1)] Tryz.underlying46 zad Z zjt Z (Bld.done Z))<|Zm Z<|Za Z<|Es (sto 2 Z Z fH Z zad)<|Zb Z<|z0k<|z0v<|zaz [] [1001] Z (eE Z<|eC 2 Z Z zh5<|eE Z<|eN) (Y0 Z)
 ·refine Zt<|gSR<|Zq (ld 1 Z Z fH zb9 Z)<|Zm Z<|Zc [1001] [] Tryz.func25 Z (zjz _ _) fun r6 n7=>Zm Z<|Zq (ext Z Z)<|Zq (ext Z Z)<|Eb Z (z5l 3 ti79 (.zr (R:=z0s) (x:=(⟨false,(⟨0,0,0,[]⟩:z02)⟩:z0j)) zr79)) fun v8=>Es (sto 3 Z Z fH Z ti79)<|Zb Z<|z0q<|z6l [2] mixed Z Z<|hTk 0 Z Z (faB 3 Z Z Tryz.underlying79 Z (by exact ti4))<|hTk 1 Z Z (ld 3 Z Z (fP (zb3 _)) ty4 Z)<|hTk 2 Z Z (faB 3 Z Z Tryz.underlying79 Z (by exact zad))<|hTk 3 Z Z (ld 3 Z Z (fP (zcb _)) zh5 Z)<|hTk 4 Z Z (mv Z)<|hTk 5 Z Z (asg Z)<|Zp 6 Z Z Z Z Z (sto 2 Z Z fH Z zad)<|hTk 7 Z Z (asg Z)<|z3e (by kernel_rfl)<|z0m<|z0k<|zaz [] [1001] Z (eE Z<|eC 2 Z Z zh5<|eE Z<|eN) (Y0 Z)
def z4h (a0:z00) (a1:List UInt8) (a2:Bool) (a3:z02):Option (Bool) :=
 z4s a0 a1 >>= fun r3 =>
 if r3.2.2==0 then
  if r3.1==a2 then
   some (decide (r3.2.1=a3)) >>= fun y8 =>
   some y8
  else
   some false
 else
  some false
theorem z6q (a0:z00) (a1:List UInt8) (a2:Bool) (a3:z02):z1u Tryz.prog 15 [.rd z01 a0,.rd z3q a1,.rd z09 a2,.rd z0d a3] [zG1] (z4h a0 a1 a2 a3) (fun r nv=>⟨[.rd z09 r],[(1001,some (.bool true,.glob 1 (z3m 64 z0p) z5i))]⟩):=by
 refine z2f 31 Tryz.func15 Z Z Z fun H w=>?_;refine gSR<|Eb Z (bx 1 Z) fun v1=>Eb Z (bx 2 Z) fun v2=>Zb Z<|gSR<|Zq (ld 1 Z Z fH zb9 Z)<|Zm Z<|Zc [1001] [] Tryz.func9 Z (zg7 _ _) fun r3 n4=>Zm Z<|Zq (ext Z Z)<|Zq (ext Z Z)<|Zq (ext Z Z)<|Eb Z (z5l 3 zad (.zr (R:=z0d) (x:=(⟨0,0,0,[]⟩:z02)) zjt)) fun v5=>Za Z<|Es (sto 3 Z Z fH Z zad)<|Zb Z<|gSR<|Zm Z<|Zq (I.eql Z Z)<|Zm Z<|z28 21 Z (fun h6=>?_) (fun h6=>?_)
 ·refine lKn 20 Z h6<|z1l Zx Z Z (mv Z)<|z1l Zx Z Z (mv Z)<|z1l Zx Z Z (eqB Tryz.underlying4 Z Z)<|Zq (pkT Z Z)<|Zm Z<|z28 26 Z (fun h7=>?_) (fun h7=>?_)
  ·refine lKn 24 Z h7<|lKn 25 Z h7<|z1l Zx Z Z (ld 3 Z Z fH zh5 Z)<|z1l Zx Z Z (ld 2 Z Z fH zh5 Z)<|z1l Zx Z Z (eqA Z Z eq46 Z Z gq46)<|Zq (pkT Z Z)<|Za Z<|z27 8 Z fun y8=>Zn<|z0k<|Ze [] [1001] Z
  ·refine lKn 24 Z h7<|lKn 25 Z h7<|Zk Z<|Zk Z<|Zk Z<|Zq (pkF Z Z)<|Zb Z<|z0k<|Ze [] [1001] Z
 ·refine lKn 20 Z h6<|Zk Z<|Zk Z<|Zk Z<|Zq (pkF Z Z)<|Zm Z<|Zk Z<|Zk Z<|Zk Z<|Zq (pkF Z Z)<|Zb Z<|z0k<|Ze [] [1001] Z
def z9z  : Option (Bool) :=
 z2s (⟨[],[]⟩:z00) (⟨2,([97]:List UInt8),(⟨0,0,0,[]⟩:z02)⟩:z07) 1 [] >>= fun r3 =>
 z2s r3.1 (⟨3,([97]:List UInt8),(⟨0,0,0,[]⟩:z02)⟩:z07) 2 [] >>= fun r7 =>
 z2s r3.1 (⟨3,([97]:List UInt8),(⟨0,0,0,[]⟩:z02)⟩:z07) 2 [r3.2.1] >>= fun r12 =>
 z95 r3.1 >>= fun r16 =>
 z7d 1 >>= fun r18 =>
 z2s (⟨[],[]⟩:z00) (⟨4,([114]:List UInt8),r18⟩:z07) 7 [] >>= fun r20 =>
 z7d 2 >>= fun r24 =>
 z2s r20.1 (⟨4,([114]:List UInt8),r24⟩:z07) 7 [] >>= fun r27 =>
 (z90 r20.2.1 r27.2.1 >>= fun r32 =>
 if r32 then
  some 2
 else
  some 1) >>= fun s31 =>
 if r3.2.2 then
  if r7.2.2 then
   if r12.2.2 then
    if r16.2==0 then
     z7s r16.1 [([97]:List UInt8)] >>= fun r41 =>
     if r41 then
      z4h r3.1 ([97]:List UInt8) true (⟨0,0,0,[]⟩:z02) >>= fun r44 =>
      if r44 then
       z4h r7.1 ([97]:List UInt8) true (⟨0,0,0,[]⟩:z02) >>= fun r47 =>
       if r47 then
        z4h r12.1 ([97]:List UInt8) false (⟨0,0,0,[]⟩:z02) >>= fun r50 =>
        if r50 then
         if r20.2.2 then
          if r27.2.2 then
           z7d s31 >>= fun r55 =>
           z4h r27.1 ([114]:List UInt8) false r55 >>= fun r57 =>
           some r57
          else
           some false
         else
          some false
        else
         some false
       else
        some false
      else
       some false
     else
      some false
    else
     some false
   else
    some false
  else
   some false
 else
  some false
end
section
open Go Go.RowKit
set_option maxRecDepth 100000
set_option maxHeartbeats 4000000 in
theorem zi4  : z1u Tryz.prog 4 [] [zG1] (z9z) (fun r nv=>⟨[.rd z09 r],[(1001,some (.bool true,.glob 1 (z3m 64 z0p) z5i))]⟩):=by
 refine z2f 113 Tryz.func4 Z Z Z fun H w=>?_;refine gSR<|Zb Z<|gSR<|Zq (bld (x':=(⟨2,([97]:List UInt8),(⟨0,0,0,[]⟩:z02)⟩:z07)) [(0,1),(1,1),(2,4)] Tryz.underlying52 ze9 Z zla Z (Bld.cons (z15 _) Z Z<|Bld.cons (z1i _) Z Z<|Bld.done Z))<|Zq (bld (x':=(⟨3,([97]:List UInt8),(⟨0,0,0,[]⟩:z02)⟩:z07)) [(0,1),(1,1),(2,4)] Tryz.underlying52 ze9 Z zla Z (Bld.cons (z15 _) Z Z<|Bld.cons (z1i _) Z Z<|Bld.done Z))<|Eb Z (z5l 1 ze9 (.zr (R:=z0i) (x:=(⟨0,[],(⟨0,0,0,[]⟩:z02)⟩:z07)) zla)) fun v1=>Eb Z (z5l 2 ze9 (.zr (R:=z0i) (x:=(⟨0,[],(⟨0,0,0,[]⟩:z02)⟩:z07)) zla)) fun v2=>Es (sto 1 Z Z fH Z ze9)<|Es (sto 2 Z Z fH Z ze9)<|Zn<|gSR<|Zq (bld (x':=(⟨[],[]⟩:z00)) [(0,1),(1,1)] Tryz.underlying25 zfh Z zr25 Z (Bld.done Z))<|Zq (ld 1 Z Z fH ty52 Z)<|call [1001] [] Z Tryz.func11 Z Z (z6g _ _ _ _) (aQ Z<|aQ Z<|aQ Z<|aNil Z<|aN) (Y0 Z) fun r3 n4=>Zm Z<|Zq (ext Z Z)<|Zq (ext Z Z)<|Zq (ext Z Z)<|Eb Z (z5l 3 zfh (ZrE.nilS (ZrE.nilS ZrE.nil))) fun v5=>Eb Z (z5l 4 z3v (.zr (R:=aZ) (x:=(Vector.replicate 32 0)) zfn)) fun v6=>zft aZ [.rd (z03 aZ) [],.val (.slice none 0 0)] 3 [] [.val (.slice none 0 0)] Z Z Z<|zft z04 [.rd (z03 aZ) [],.rd (z03 z04) []] 3 [.rd (z03 aZ) []] [] Z Z Z<|zfs (R:=z01) (⟨[],[]⟩:z00) 3 Z (Sp.via (Sp.prod (Sp.prod Sp.unit)))<|Es (sto 3 Z Z fH Z zfh)<|Es (sto 4 Z Z fH Z z3v)<|Zb Z<|gSR<|Zq (ld 3 Z Z fH zb9 Z)<|Zq (ld 2 Z Z fH ty52 Z)<|call [1001] [] Z Tryz.func11 Z Z (z6g _ _ _ _) (aQ Z<|aQ Z<|aQ Z<|aNil Z<|aN) (Y0 Z) fun r7 n8=>Zm Z<|Zq (ext Z Z)<|Zq (ext Z Z)<|Zq (ext Z Z)<|Eb Z (z5l 5 zfh (ZrE.nilS (ZrE.nilS ZrE.nil))) fun v9=>Eb Z (z5l 6 z3v (.zr (R:=aZ) (x:=(Vector.replicate 32 0)) zfn)) fun v10=>zft aZ [.rd (z03 aZ) [],.val (.slice none 0 0)] 5 [] [.val (.slice none 0 0)] Z Z Z<|zft z04 [.rd (z03 aZ) [],.rd (z03 z04) []] 5 [.rd (z03 aZ) []] [] Z Z Z<|zfs (R:=z01) (⟨[],[]⟩:z00) 5 Z (Sp.via (Sp.prod (Sp.prod Sp.unit)))<|Es (sto 5 Z Z fH Z zfh)<|Es (sto 6 Z Z fH Z z3v)<|Zb Z<|gSR<|Zq (ld 3 Z Z fH zb9 Z)<|Zq (ld 2 Z Z fH ty52 Z)<|Zq (ld 4 Z Z fH z6a Z)<|Ef Z (lit (R:=aZ) ([r3.2.1]:List V3) 7 (pP Z Z<|pN) Z tu22 z3v Z Z) fun v11=>zl7 7 [41] Z (fS Z<|fN)<|Zc [1001] [] Tryz.func11 Z (z6g _ _ _ _) fun r12 n13=>Zm Z<|Zq (ext Z Z)<|Zq (ext Z Z)<|Zq (ext Z Z)<|Eb Z (z5l 8 zfh (ZrE.nilS (ZrE.nilS ZrE.nil))) fun v14=>Eb Z (z5l 9 z3v (.zr (R:=aZ) (x:=(Vector.replicate 32 0)) zfn)) fun v15=>zft aZ [.rd (z03 aZ) [],.val (.slice none 0 0)] 8 [] [.val (.slice none 0 0)] Z Z Z<|zft z04 [.rd (z03 aZ) [],.rd (z03 z04) []] 8 [.rd (z03 aZ) []] [] Z Z Z<|zfs (R:=z01) (⟨[],[]⟩:z00) 8 Z (Sp.via (Sp.prod (Sp.prod Sp.unit)))<|Es (sto 8 Z Z fH Z zfh)<|Es (sto 9 Z Z fH Z z3v)<|Zb Z<|gSR<|Zq (ld 3 Z Z fH zb9 Z)<|Zc [1001] [(100,10)] Tryz.func8 Z (zfj _) fun r16 n17=>Zm Z<|Zq (ext Z Z)<|Zq (ext Z Z)<|Za Z<|Zb Z<|gSR<|Zq (bld (x':=(⟨[],[]⟩:z00)) [(0,1),(1,1)] Tryz.underlying25 zfh Z zr25 Z (Bld.done Z))<|Zc [] [] Tryz.func12 Z (z9e _) fun r18 n19=>Zq (bld (x':=(⟨4,([114]:List UInt8),r18⟩:z07)) [(0,1),(1,1),(2,4)] Tryz.underlying52 ze9 Z zla Z (Bld.cons (z15 _) Z Z<|Bld.cons (z1i _) Z Z<|Bld.cons (z33 _) Z Z<|Bld.done Z))<|call [1001] [] Z Tryz.func11 Z Z (z6g _ _ _ _) (aQ Z<|aQ Z<|aQ Z<|aNil Z<|aN) (Y0 Z) fun r20 n21=>Zm Z<|Zq (ext Z Z)<|Zq (ext Z Z)<|Zq (ext Z Z)<|Eb Z (z5l 11 zfh (ZrE.nilS (ZrE.nilS ZrE.nil))) fun v22=>Eb Z (z5l 12 z3v (.zr (R:=aZ) (x:=(Vector.replicate 32 0)) zfn)) fun v23=>zft aZ [.rd (z03 aZ) [],.val (.slice none 0 0)] 11 [] [.val (.slice none 0 0)] Z Z Z<|zft z04 [.rd (z03 aZ) [],.rd (z03 z04) []] 11 [.rd (z03 aZ) []] [] Z Z Z<|zfs (R:=z01) (⟨[],[]⟩:z00) 11 Z (Sp.via (Sp.prod (Sp.prod Sp.unit)))<|Es (sto 11 Z Z fH Z zfh)<|Es (sto 12 Z Z fH Z z3v)<|Zb Z<|z0q<|zye [(3,.val (z05 v5 0)),(5,.rd z09 r3.2.2),(6,.val (z05 v9 0)),(8,.rd z09 r7.2.2),(9,.val (z05 v14 0)),(11,.rd z09 r12.2.2),(12,.val (n17 0)),(13,.rd z08 r16.2),(14,.val (z05 v22 0)),(15,.val (z05 v23 0)),(16,.rd z09 r20.2.2)] [zG1,(1,some (v1,.box 52 [.rd z0i (⟨2,([97]:List UInt8),(⟨0,0,0,[]⟩:z02)⟩:z07)])),(2,some (v2,.box 52 [.rd z0i (⟨3,([97]:List UInt8),(⟨0,0,0,[]⟩:z02)⟩:z07)])),(3,some (v5,.box 25 [.rd z01 r3.1])),(4,some (v6,.box 54 [.rd aZ r3.2.1])),(5,some (v9,.box 25 [.rd z01 r7.1])),(6,some (v10,.box 54 [.rd aZ r7.2.1])),(8,some (v14,.box 25 [.rd z01 r12.1])),(9,some (v15,.box 54 [.rd aZ r12.2.1])),(10,some ((n17 0),.list z3q 9 r16.1)),(11,some (v22,.box 25 [.rd z01 r20.1])),(12,some (v23,.box 54 [.rd aZ r20.2.1]))] [1001,1,2,3,4,5,6,8,9,10,11,12] (Zs Z Z Z Z<|Zs Z Z Z Z<|sS Z<|sS Z<|sS Z<|sN) (Zi Z<|Zi Z<|Zi Z<|Zi Z<|Zi Z<|Zi Z<|Zi Z<|Zi Z<|Zi Z<|Zi Z<|Zi Z<|Zi Z<|rN)<|z9g fun r24 h26=>z9g fun r27 h29=>gOr [] [⟨11,some ([], fun nv=>(v22,.box 25 [.rd z01 r20.1])),[]⟩,⟨1001,some ([], fun nv=>((.bool true),.glob 1 (z3m 64 z0p) z5i)),[]⟩,⟨13,none,[(8,some ([1], fun nv=>((nv 1),.box 25 [.rd z01 (⟨[],[]⟩:z00)]))),(10,some ([1], fun nv=>((nv 1),.box 25 [.rd z01 r27.1])))]⟩,⟨14,none,[(9,some ([2], fun nv=>((nv 2),.box 54 [.rd aZ (Vector.replicate 32 0)]))),(11,some ([2], fun nv=>((nv 2),.box 54 [.rd aZ r27.2.1])))]⟩] [pk 60 (.rd z01 r20.1) [(0,0,false)],pd 61 (.rd z0d r24),pd 62 (.rd z0i (⟨4,([114]:List UInt8),r24⟩:z07)),pk 63 (.tup [.rd z01 r27.1,.rd aZ r27.2.1,.rd z09 r27.2.2]) [(1,0,false)],pd 59 (.tup [.rd z01 r27.1,.rd aZ r27.2.1,.rd z09 r27.2.2]),pd 64 (.rd z01 r27.1),pd 65 (.rd aZ r27.2.1),pd 66 (.rd z09 r27.2.2),⟨some (17,[1], fun nv=>.val (z05 (nv 1) 0)),[(2,0,true)],[1],[]⟩,⟨some (18,[2], fun nv=>.val (z05 (nv 2) 0)),[(3,0,true)],[2],[]⟩,⟨none,[(2,1,true)],[],[]⟩,⟨none,[(3,1,true)],[],[]⟩,pd 19 (.rd z09 r27.2.2)] mixed (oC (oRn (fun nv E=>ld 11 Z Z fH zb9 Z))<|oC (oCl [] [] [] h26 Tryz.func12 Z (fun nv=>(z9e _)) (fun nv=>(Y1 Z)) (fun nv E=>rN))<|oC (oRn (fun nv E=>bld (x':=(⟨4,([114]:List UInt8),r24⟩:z07)) [(0,1),(1,1),(2,4)] Tryz.underlying52 ze9 Z zla Z (Bld.cons (z15 _) Z Z<|Bld.cons (z1i _) Z Z<|Bld.cons (z33 _) Z Z<|Bld.done Z)))<|oC (oCl [] [1001] [] h29 Tryz.func11 Z (fun nv=>(z6g _ _ _ _)) (fun nv=>(aQ Z<|aQ Z<|aQ Z<|aNil Z<|aN)) (fun nv E=>(Y0 Z)))<|oC (oRn (fun nv E=>mv Z))<|oC (oRn (fun nv E=>ext Z Z))<|oC (oRn (fun nv E=>ext Z Z))<|oC (oRn (fun nv E=>ext Z Z))<|oC (oEb 13 1 (fun nv E=>z5l 13 zfh (.zr (R:=z01) (x:=(⟨[],[]⟩:z00)) zr25)))<|oC (oEb 14 2 (fun nv E=>z5l 14 z3v (.zr (R:=aZ) (x:=(Vector.replicate 32 0)) zfn)))<|oC (oEs 13 (fun nv E=>sto 13 Z Z fH Z zfh))<|oC (oEs 14 (fun nv E=>sto 14 Z Z fH Z z3v))<|oC (oRn (fun nv E=>asg Z))<|oN) fun n30=>z0m<|gSR<|Zb Z<|z7r (fun (s31:Int) aa ww=>∃ nv:Nat→Value,Sta (ctx 113 H [zG1] w) [(3,.val (z05 v5 0)),(5,.rd z09 r3.2.2),(6,.val (z05 v9 0)),(8,.rd z09 r7.2.2),(9,.val (z05 v14 0)),(11,.rd z09 r12.2.2),(12,.val (n17 0)),(13,.rd z08 r16.2),(16,.rd z09 r20.2.2),(17,.val (z05 (nv 0) 0)),(19,.rd z09 r27.2.2),(20,.rd z08 s31)] [(3,some (v5,.box 25 [.rd z01 r3.1])),(5,some (v9,.box 25 [.rd z01 r7.1])),(8,some (v14,.box 25 [.rd z01 r12.1])),(10,some ((n17 0),.list z3q 9 r16.1)),(13,some ((nv 0),.box 25 [.rd z01 r27.1])),zG1] aa ww) ?_ (fun s31=>?_)
 ·refine gSR<|Zq (ld 12 Z Z fH z6a Z)<|Zq (ld 14 Z Z fH z6a Z)<|Zc [] [] Tryz.func13 Z (zh3 _ _) fun r32 n33=>Zj Z (fun h34=>?_) (fun h34=>?_)
  ·refine z2g<|Za Z<|z21<|z3p (fun aa ww h=>⟨nvl [(n30 1)],Zu h [3,5,8,10,13,1001]⟩)
  ·refine z38<|z3p (fun aa ww h=>⟨nvl [(n30 1)],Zu h [3,5,8,10,13,1001]⟩)
 ·refine gEx fun n35=>z0q<|z6l [1001,1041] mixed Z Z<|hTk 0 Z Z (mv Z)<|hTk 1 Z Z (mv Z)<|hIf 71 Z Z (fun h36=>?_) (fun h36=>?_)
  ·refine hKn 5 Z Z h36<|hKn 70 Z Z h36<|Zg 2 Z Z (mv Z)<|hTk 3 Z Z (pkT Z Z)<|hTk 4 Z Z (mv Z)<|hIf 74 Z Z (fun h37=>?_) (fun h37=>?_)
   ·refine hKn 8 Z Z h37<|hKn 72 Z Z h37<|hKn 73 Z Z h37<|Zg 5 Z Z (mv Z)<|hTk 6 Z Z (pkT Z Z)<|hTk 7 Z Z (mv Z)<|hIf 77 Z Z (fun h38=>?_) (fun h38=>?_)
    ·refine hKn 11 Z Z h38<|hKn 75 Z Z h38<|hKn 76 Z Z h38<|Zg 8 Z Z (mv Z)<|Zg 9 Z Z (I.eql Z Z)<|hTk 10 Z Z (pkT Z Z)<|hTk 11 Z Z (mv Z)<|hIf 81 Z Z (fun h39=>?_) (fun h39=>?_)
     ·refine hKn 79 Z Z h39<|hKn 80 Z Z h39<|Zg 12 Z Z (mv Z)<|hDo 13 Z (by kernel_rfl) Zx Z Z Z (lit (R:=z3q) ([([97]:List UInt8)]:List (List UInt8)) 1041 (pP Z Z<|pN) Z tu41 ti9 Z Z) (fun _=>rfl) fun v40=>hFrz 10 [12,82] Z (fS Z<|fS Z<|fN)<|hFrz 1041 [83] Z (fS Z<|fN)<|z2v 14 [] [] Z (by kernel_rfl) Z Zx Z Tryz.func14 Z Z (zfo _ _) (Y2 Z Z) rN Z (fun _ _=>z9l) fun r41 n42=>hTk 15 Z Z (pkT Z Z)<|hTk 16 Z Z (mv Z)<|hIf 86 Z Z (fun h43=>?_) (fun h43=>?_)
      ·refine hKn 84 Z Z h43<|hKn 85 Z Z h43<|Zg 17 Z Z (ld 3 Z Z fH zb9 Z)<|Zg 18 Z Z (bld (x':=(⟨0,0,0,[]⟩:z02)) [(0,1),(1,1),(2,1),(3,1)] Tryz.underlying46 zad Z zjt Z (Bld.done Z))<|z2v 19 [1001] [] Z (by kernel_rfl) Z Zx Z Tryz.func15 Z Z (z6q _ _ _ _) (aQ Z<|aQ Z<|aQ Z<|aQ Z<|aN) (Y0 Z) Z (fun _ _=>z9l) fun r44 n45=>hTk 20 Z Z (pkT Z Z)<|hTk 21 Z Z (mv Z)<|hIf 91 Z Z (fun h46=>?_) (fun h46=>?_)
       ·refine hKn 89 Z Z h46<|hKn 90 Z Z h46<|Zg 22 Z Z (ld 5 Z Z fH zb9 Z)<|Zg 23 Z Z (bld (x':=(⟨0,0,0,[]⟩:z02)) [(0,1),(1,1),(2,1),(3,1)] Tryz.underlying46 zad Z zjt Z (Bld.done Z))<|z2v 24 [1001] [] Z (by kernel_rfl) Z Zx Z Tryz.func15 Z Z (z6q _ _ _ _) (aQ Z<|aQ Z<|aQ Z<|aQ Z<|aN) (Y0 Z) Z (fun _ _=>z9l) fun r47 n48=>hTk 25 Z Z (pkT Z Z)<|hTk 26 Z Z (mv Z)<|hIf 96 Z Z (fun h49=>?_) (fun h49=>?_)
        ·refine hKn 94 Z Z h49<|hKn 95 Z Z h49<|Zg 27 Z Z (ld 8 Z Z fH zb9 Z)<|Zg 28 Z Z (bld (x':=(⟨0,0,0,[]⟩:z02)) [(0,1),(1,1),(2,1),(3,1)] Tryz.underlying46 zad Z zjt Z (Bld.done Z))<|z2v 29 [1001] [] Z (by kernel_rfl) Z Zx Z Tryz.func15 Z Z (z6q _ _ _ _) (aQ Z<|aQ Z<|aQ Z<|aQ Z<|aN) (Y0 Z) Z (fun _ _=>z9l) fun r50 n51=>hTk 30 Z Z (pkT Z Z)<|hTk 31 Z Z (mv Z)<|hIf 101 Z Z (fun h52=>?_) (fun h52=>?_)
         ·refine hKn 99 Z Z h52<|hKn 100 Z Z h52<|Zg 32 Z Z (mv Z)<|hTk 33 Z Z (pkT Z Z)<|hTk 34 Z Z (mv Z)<|hIf 104 Z Z (fun h53=>?_) (fun h53=>?_)
          ·refine hKn 16 Z Z h53<|hKn 102 Z Z h53<|hKn 103 Z Z h53<|Zg 35 Z Z (mv Z)<|hTk 36 Z Z (pkT Z Z)<|hTk 37 Z Z (mv Z)<|hIf 107 Z Z (fun h54=>?_) (fun h54=>?_)
           ·refine hKn 19 Z Z h54<|hKn 105 Z Z h54<|hKn 106 Z Z h54<|Zg 38 Z Z (ld 13 Z Z fH zb9 Z)<|Zg 39 Z Z (mv Z)<|zze 40 [] [] Z (by kernel_rfl) Z Zx Z Tryz.func12 Z Z (z9e _) (Y1 Z) rN Z fun r55 n56=>z2v 41 [1001] [] Z (by kernel_rfl) Z Zx Z Tryz.func15 Z Z (z6q _ _ _ _) (aQ Z<|aQ Z<|aQ Z<|aQ Z<|aN) (Y0 Z) Z (fun _ _=>z9l) fun r57 n58=>hTk 42 Z Z (pkT Z Z)<|hTk 43 Z Z (asg Z)<|z3e (by kernel_rfl)<|z0m<|z0k<|Ze [] [1001] Z
           ·refine hKn 19 Z Z h54<|hKn 105 Z Z h54<|hKn 106 Z Z h54<|hSk 38 Z Z<|hSk 39 Z Z<|hSk 40 Z Z<|hSk 41 Z Z<|hTk 42 Z Z (pkF Z Z)<|hTk 43 Z Z (asg Z)<|z3e (by kernel_rfl)<|z0m<|z0k<|Ze [] [1001] Z
          ·refine hKn 16 Z Z h53<|hKn 102 Z Z h53<|hKn 103 Z Z h53<|hSk 35 Z Z<|hTk 36 Z Z (pkF Z Z)<|hTk 37 Z Z (mv Z)<|hSk 38 Z Z<|hSk 39 Z Z<|hSk 40 Z Z<|hSk 41 Z Z<|hTk 42 Z Z (pkF Z Z)<|hTk 43 Z Z (asg Z)<|z3e (by kernel_rfl)<|z0m<|z0k<|Ze [] [1001] Z
         ·refine hKn 99 Z Z h52<|hKn 100 Z Z h52<|hSk 32 Z Z<|hTk 33 Z Z (pkF Z Z)<|hTk 34 Z Z (mv Z)<|hSk 35 Z Z<|hTk 36 Z Z (pkF Z Z)<|hTk 37 Z Z (mv Z)<|hSk 38 Z Z<|hSk 39 Z Z<|hSk 40 Z Z<|hSk 41 Z Z<|hTk 42 Z Z (pkF Z Z)<|hTk 43 Z Z (asg Z)<|z3e (by kernel_rfl)<|z0m<|z0k<|Ze [] [1001] Z
        ·refine hKn 94 Z Z h49<|hKn 95 Z Z h49<|hSk 27 Z Z<|hSk 28 Z Z<|hSk 29 Z Z<|hTk 30 Z Z (pkF Z Z)<|hTk 31 Z Z (mv Z)<|hSk 32 Z Z<|hTk 33 Z Z (pkF Z Z)<|hTk 34 Z Z (mv Z)<|hSk 35 Z Z<|hTk 36 Z Z (pkF Z Z)<|hTk 37 Z Z (mv Z)<|hSk 38 Z Z<|hSk 39 Z Z<|hSk 40 Z Z<|hSk 41 Z Z<|hTk 42 Z Z (pkF Z Z)<|hTk 43 Z Z (asg Z)<|z3e (by kernel_rfl)<|z0m<|z0k<|Ze [] [1001] Z
       ·refine hKn 89 Z Z h46<|hKn 90 Z Z h46<|hSk 22 Z Z<|hSk 23 Z Z<|hSk 24 Z Z<|hTk 25 Z Z (pkF Z Z)<|hTk 26 Z Z (mv Z)<|hSk 27 Z Z<|hSk 28 Z Z<|hSk 29 Z Z<|hTk 30 Z Z (pkF Z Z)<|hTk 31 Z Z (mv Z)<|hSk 32 Z Z<|hTk 33 Z Z (pkF Z Z)<|hTk 34 Z Z (mv Z)<|hSk 35 Z Z<|hTk 36 Z Z (pkF Z Z)<|hTk 37 Z Z (mv Z)<|hSk 38 Z Z<|hSk 39 Z Z<|hSk 40 Z Z<|hSk 41 Z Z<|hTk 42 Z Z (pkF Z Z)<|hTk 43 Z Z (asg Z)<|z3e (by kernel_rfl)<|z0m<|z0k<|Ze [] [1001] Z
      ·refine hKn 84 Z Z h43<|hKn 85 Z Z h43<|hSk 17 Z Z<|hSk 18 Z Z<|hSk 19 Z Z<|hTk 20 Z Z (pkF Z Z)<|hTk 21 Z Z (mv Z)<|hSk 22 Z Z<|hSk 23 Z Z<|hSk 24 Z Z<|hTk 25 Z Z (pkF Z Z)<|hTk 26 Z Z (mv Z)<|hSk 27 Z Z<|hSk 28 Z Z<|hSk 29 Z Z<|hTk 30 Z Z (pkF Z Z)<|hTk 31 Z Z (mv Z)<|hSk 32 Z Z<|hTk 33 Z Z (pkF Z Z)<|hTk 34 Z Z (mv Z)<|hSk 35 Z Z<|hTk 36 Z Z (pkF Z Z)<|hTk 37 Z Z (mv Z)<|hSk 38 Z Z<|hSk 39 Z Z<|hSk 40 Z Z<|hSk 41 Z Z<|hTk 42 Z Z (pkF Z Z)<|hTk 43 Z Z (asg Z)<|z3e (by kernel_rfl)<|z0m<|z0k<|Ze [] [1001] Z
     ·refine hKn 79 Z Z h39<|hKn 80 Z Z h39<|hSk 12 Z Z<|hSk 13 Z Z<|hSk 14 Z Z<|hTk 15 Z Z (pkF Z Z)<|hTk 16 Z Z (mv Z)<|hSk 17 Z Z<|hSk 18 Z Z<|hSk 19 Z Z<|hTk 20 Z Z (pkF Z Z)<|hTk 21 Z Z (mv Z)<|hSk 22 Z Z<|hSk 23 Z Z<|hSk 24 Z Z<|hTk 25 Z Z (pkF Z Z)<|hTk 26 Z Z (mv Z)<|hSk 27 Z Z<|hSk 28 Z Z<|hSk 29 Z Z<|hTk 30 Z Z (pkF Z Z)<|hTk 31 Z Z (mv Z)<|hSk 32 Z Z<|hTk 33 Z Z (pkF Z Z)<|hTk 34 Z Z (mv Z)<|hSk 35 Z Z<|hTk 36 Z Z (pkF Z Z)<|hTk 37 Z Z (mv Z)<|hSk 38 Z Z<|hSk 39 Z Z<|hSk 40 Z Z<|hSk 41 Z Z<|hTk 42 Z Z (pkF Z Z)<|hTk 43 Z Z (asg Z)<|z3e (by kernel_rfl)<|z0m<|z0k<|Ze [] [1001] Z
    ·refine hKn 11 Z Z h38<|hKn 75 Z Z h38<|hKn 76 Z Z h38<|hSk 8 Z Z<|hSk 9 Z Z<|hTk 10 Z Z (pkF Z Z)<|hTk 11 Z Z (mv Z)<|hSk 12 Z Z<|hSk 13 Z Z<|hSk 14 Z Z<|hTk 15 Z Z (pkF Z Z)<|hTk 16 Z Z (mv Z)<|hSk 17 Z Z<|hSk 18 Z Z<|hSk 19 Z Z<|hTk 20 Z Z (pkF Z Z)<|hTk 21 Z Z (mv Z)<|hSk 22 Z Z<|hSk 23 Z Z<|hSk 24 Z Z<|hTk 25 Z Z (pkF Z Z)<|hTk 26 Z Z (mv Z)<|hSk 27 Z Z<|hSk 28 Z Z<|hSk 29 Z Z<|hTk 30 Z Z (pkF Z Z)<|hTk 31 Z Z (mv Z)<|hSk 32 Z Z<|hTk 33 Z Z (pkF Z Z)<|hTk 34 Z Z (mv Z)<|hSk 35 Z Z<|hTk 36 Z Z (pkF Z Z)<|hTk 37 Z Z (mv Z)<|hSk 38 Z Z<|hSk 39 Z Z<|hSk 40 Z Z<|hSk 41 Z Z<|hTk 42 Z Z (pkF Z Z)<|hTk 43 Z Z (asg Z)<|z3e (by kernel_rfl)<|z0m<|z0k<|Ze [] [1001] Z
   ·refine hKn 8 Z Z h37<|hKn 72 Z Z h37<|hKn 73 Z Z h37<|hSk 5 Z Z<|hTk 6 Z Z (pkF Z Z)<|hTk 7 Z Z (mv Z)<|hSk 8 Z Z<|hSk 9 Z Z<|hTk 10 Z Z (pkF Z Z)<|hTk 11 Z Z (mv Z)<|hSk 12 Z Z<|hSk 13 Z Z<|hSk 14 Z Z<|hTk 15 Z Z (pkF Z Z)<|hTk 16 Z Z (mv Z)<|hSk 17 Z Z<|hSk 18 Z Z<|hSk 19 Z Z<|hTk 20 Z Z (pkF Z Z)<|hTk 21 Z Z (mv Z)<|hSk 22 Z Z<|hSk 23 Z Z<|hSk 24 Z Z<|hTk 25 Z Z (pkF Z Z)<|hTk 26 Z Z (mv Z)<|hSk 27 Z Z<|hSk 28 Z Z<|hSk 29 Z Z<|hTk 30 Z Z (pkF Z Z)<|hTk 31 Z Z (mv Z)<|hSk 32 Z Z<|hTk 33 Z Z (pkF Z Z)<|hTk 34 Z Z (mv Z)<|hSk 35 Z Z<|hTk 36 Z Z (pkF Z Z)<|hTk 37 Z Z (mv Z)<|hSk 38 Z Z<|hSk 39 Z Z<|hSk 40 Z Z<|hSk 41 Z Z<|hTk 42 Z Z (pkF Z Z)<|hTk 43 Z Z (asg Z)<|z3e (by kernel_rfl)<|z0m<|z0k<|Ze [] [1001] Z
  ·refine hKn 5 Z Z h36<|hKn 70 Z Z h36<|hSk 2 Z Z<|hTk 3 Z Z (pkF Z Z)<|hTk 4 Z Z (mv Z)<|hSk 5 Z Z<|hTk 6 Z Z (pkF Z Z)<|hTk 7 Z Z (mv Z)<|hSk 8 Z Z<|hSk 9 Z Z<|hTk 10 Z Z (pkF Z Z)<|hTk 11 Z Z (mv Z)<|hSk 12 Z Z<|hSk 13 Z Z<|hSk 14 Z Z<|hTk 15 Z Z (pkF Z Z)<|hTk 16 Z Z (mv Z)<|hSk 17 Z Z<|hSk 18 Z Z<|hSk 19 Z Z<|hTk 20 Z Z (pkF Z Z)<|hTk 21 Z Z (mv Z)<|hSk 22 Z Z<|hSk 23 Z Z<|hSk 24 Z Z<|hTk 25 Z Z (pkF Z Z)<|hTk 26 Z Z (mv Z)<|hSk 27 Z Z<|hSk 28 Z Z<|hSk 29 Z Z<|hTk 30 Z Z (pkF Z Z)<|hTk 31 Z Z (mv Z)<|hSk 32 Z Z<|hTk 33 Z Z (pkF Z Z)<|hTk 34 Z Z (mv Z)<|hSk 35 Z Z<|hTk 36 Z Z (pkF Z Z)<|hTk 37 Z Z (mv Z)<|hSk 38 Z Z<|hSk 39 Z Z<|hSk 40 Z Z<|hSk 41 Z Z<|hTk 42 Z Z (pkF Z Z)<|hTk 43 Z Z (asg Z)<|z3e (by kernel_rfl)<|z0m<|z0k<|Ze [] [1001] Z
def z4n (a0:List z00) (s2:Int):Option (Sum (Sum Bool Unit) Int) :=
 if decide (s2<(a0.length:Int)) then
  if decide (s2≤10) then
   idx a0 s2 >>= fun x5 =>
   z9t x5 >>= fun r7 =>
   if r7 then
    some (.inl (.inl true))
   else
    some (.inr (w64 (s2+1)))
  else
   some (.inl (.inr ()))
 else
  some (.inl (.inr ()))
def z9s (a0:List z00):Option (Bool) :=
 z67 (iter (z4n a0) 0) fun s1 =>
 some (decide (10<(a0.length:Int))) >>= fun y10 =>
 some y10
theorem zhz (a0:List z00):z1u Tryz.prog 5 [.rd (z03 z01) a0] [] (z9s a0) (fun r nv=>⟨[.rd z09 r],[]⟩):=by
 refine z2f 22 Tryz.func5 Z Z Z fun H w=>?_;refine gSR<|Zb Z<|z8i (fun (s1:Unit) aa ww=>Sta (ctx 22 H [] w) [(0,.rd (z03 z01) a0)] [] aa ww) ?_ (fun s1=>?_)
 ·refine gSR<|Zb Z<|z29 (fun (s2:Int) aa ww=>Sta (ctx 22 H [] w) [(0,.rd (z03 z01) a0),(3,.rd z08 s2)] [] aa ww) (fun aa ww h=>Zu h []) (fun s2=>?_);refine z0q<|gSR<|Zm Z<|Zm Z<|Zq (z4f Z .rd Z Tryz.underlying28)<|Zq (I.lss Z Z)<|Zm Z<|z28 8 Z (fun h3=>?_) (fun h3=>?_)
  ·refine lKn 7 Z h3<|z1l Zx Z Z (mv Z)<|z1l Zx Z Z (I.leq Z Z)<|Zq (pkT Z Z)<|Zj Z (fun h4=>?_) (fun h4=>?_)
   ·refine gKn 10 Z h4<|Zt<|z0q<|z5f<|gSR<|Zm Z<|Zm Z<|z0t fun x5 h6=>Zq (ixR Z Z h6 Tryz.underlying28 zfh Z)<|Zq (ldR Z zb9)<|Zc [] [] Tryz.func16 Z (zhs _) fun r7 n8=>Zj Z (fun h9=>?_) (fun h9=>?_)
    ·refine gSR<|Zb Z<|z0k<|z4p<|z0v<|z8c<|z5n<|Ze [] [] Z
    ·refine z38<|z3l<|z0m<|z2g<|Zm Z<|Zq (I.add Z Z)<|Za Z<|z21<|z1m (fun aa ww h=>Zu h [])
   ·refine gKn 10 Z h4<|z1z<|z10<|z14<|z6x (fun aa ww h=>Zu h [])
  ·refine lKn 7 Z h3<|Zk Z<|Zk Z<|Zq (pkF Z Z)<|Zn<|zfk Z<|z1z<|z10<|z14<|z6x (fun aa ww h=>Zu h [])
 ·refine gSR<|Zm Z<|Zq (z4f Z .rd Z Tryz.underlying28)<|Zq (I.gtr Z Z)<|Za Z<|z27 2 Z fun y10=>Zn<|z0k<|Ze [] [] Z
def z6h (a0:List UInt8) (a1:List UInt8):Option (Int) :=
 z9u a0 >>= fun r1 =>
 z9u a1 >>= fun r3 =>
 if r1 then
  if r3 then
   some 0
  else
   some (-1)
 else
  if r3 then
   some 1
  else
   if zes a0 a1 then
    some (-1)
   else
    if zes a1 a0 then
     some 1
    else
     some 0
theorem zbn (a0:List UInt8) (a1:List UInt8):z1u Tryz.prog 82 [.rd z3q a0,.rd z3q a1] [] (z6h a0 a1) (fun r nv=>⟨[.rd z08 r],[]⟩):=by
 refine z2f 20 Tryz.func82 Z Z Z fun H w=>?_;refine gSR<|Zb Z<|gSR<|Zm Z<|Zc [] [] Tryz.func143 Z (zd0 _) fun r1 n2=>Zb Z<|gSR<|Zm Z<|Zc [] [] Tryz.func143 Z (zd0 _) fun r3 n4=>Zb Z<|z0q<|gSR<|Zm Z<|Zj Z (fun h5=>?_) (fun h5=>?_)
 ·refine gKn 8 Z h5<|gKn 5 Z h5<|z0q<|gSR<|Zm Z<|Zj Z (fun h6=>?_) (fun h6=>?_)
  ·refine gKn 10 Z h6<|gKn 6 Z h6<|gSR<|Zb Z<|z0k<|z0v<|z0v<|Ze [] [] Z
  ·refine gKn 10 Z h6<|gKn 6 Z h6<|Zt<|gSR<|Zb Z<|z0k<|z0v<|Ze [] [] Z
 ·refine gKn 8 Z h5<|gKn 5 Z h5<|Zt<|z0q<|gSR<|Zm Z<|Zj Z (fun h7=>?_) (fun h7=>?_)
  ·refine gKn 10 Z h7<|gKn 6 Z h7<|gSR<|Zb Z<|z0k<|z0v<|Ze [] [] Z
  ·refine gKn 10 Z h7<|gKn 6 Z h7<|Zt<|z0q<|gSR<|Zm Z<|Zm Z<|Zq (ltS Z Z)<|Zj Z (fun h8=>?_) (fun h8=>?_)
   ·refine gSR<|Zb Z<|z0k<|z0v<|Ze [] [] Z
   ·refine Zt<|z0q<|gSR<|Zm Z<|Zm Z<|Zq (gtS Z Z)<|Zj Z (fun h9=>?_) (fun h9=>?_)
    ·refine gSR<|Zb Z<|z0k<|z0v<|Ze [] [] Z
    ·refine Zt<|gSR<|Zb Z<|z0k<|Ze [] [] Z
def z7p (a0:List Int) (s2:Int):Option (Sum (Sum Int Unit) Int) :=
 if decide (s2<(a0.length:Int)) then
  idx a0 s2 >>= fun x4 =>
  if x4 != 0 then
   some (.inl (.inl x4))
  else
   some (.inr (w64 (s2+1)))
 else
  some (.inl (.inr ()))
def zeg (a0:List Int):Option (Int) :=
 z67 (iter (z7p a0) 0) fun s1 =>
 some 0
theorem zj1 (a0:List Int):z1u Tryz.prog 81 [.rd (z03 z08) a0] [] (zeg a0) (fun r nv=>⟨[.rd z08 r],[]⟩):=by
 refine z2f 18 Tryz.func81 Z Z Z fun H w=>?_;refine gSR<|Zb Z<|gSR<|Zb Z<|z8i (fun (s1:Unit) aa ww=>Sta (ctx 18 H [] w) [(3,.rd z08 0)] [] aa ww) ?_ (fun s1=>?_)
 ·refine gSR<|Zm Z<|Zq (z4f Z .rd Z tu98)<|Zm Z<|Zn<|z29 (fun (s2:Int) aa ww=>Sta (ctx 18 H [] w) [(3,.rd z08 0),(6,.rd (z03 z08) a0),(7,.rd z08 (a0.length:Int)),(8,.rd z08 s2)] [] aa ww) (fun aa ww h=>Zu h []) (fun s2=>?_);refine gSR<|Zq (I.lss Z Z)<|Zn<|z0q<|gIf Z Z (fun h3=>?_) (fun h3=>?_)
  ·refine Zt<|z0q<|z5f<|gSR<|z0t fun x4 h5=>Zq (ixR Z Z h5 tu98 ti3 Z)<|Zq (ldR Z ty3)<|Zb Z<|gSR<|Zm Z<|Zm Z<|Zq (I.neq Z Z)<|Zj Z (fun h6=>?_) (fun h6=>?_)
   ·refine gSR<|Zm Z<|Zb Z<|z0k<|z4p<|z0v<|z8c<|z5n<|Ze [] [] Z
   ·refine z38<|z3l<|z0m<|z2g<|Zq (I.add Z Z)<|Zm Z<|z21<|z1m (fun aa ww h=>Zu h [])
  ·refine z1z<|z10<|z14<|z6x (fun aa ww h=>Zu h [])
 ·refine gSR<|Zm Z<|Zb Z<|z0k<|Ze [] [] Z
def zce (a0:z11) (a1:z11):Option (Int) :=
 z6h a0.Key a1.Key >>= fun r3 =>
 z6p a0.ID.toList a1.ID.toList >>= fun r5 =>
 zeg [r3,r5] >>= fun r8 =>
 some r8
theorem zl3 (a0:z11) (a1:z11):z1u Tryz.prog 42 [.rd z1h a0,.rd z1h a1] [] (zce a0 a1) (fun r nv=>⟨[.rd z08 r],[]⟩):=by
 refine z2f 17 Tryz.func42 Z Z Z fun H w=>?_;refine gSR<|Eb Z (bx 1 Z) fun v1=>Eb Z (bx 2 Z) fun v2=>Zb Z<|z0q<|zqe 1 2 Z Z<|zqe 2 3 Z Z<|z6l [33] mixed Z Z<|hTk 0 Z Z (faR Z (z89 _) Tryz.underlying103 Z Z (by exact ti9))<|hTk 1 Z Z (ldR Z ty9)<|hTk 2 Z Z (faR Z (z89 _) Tryz.underlying103 Z Z (by exact ti9))<|hTk 3 Z Z (ldR Z ty9)<|hTk 5 Z Z (faR Z (zcd _) Tryz.underlying103 Z Z (by exact z3v))<|hTk 6 Z Z (cutV Z tu54 ti5 Z Z Z)<|hTk 7 Z Z (faR Z (zcd _) Tryz.underlying103 Z Z (by exact z3v))<|hTk 8 Z Z (cutV Z tu54 ti5 Z Z Z)<|z2v 4 [] [] Z (by kernel_rfl) Z (gd0 Z) Z Tryz.func82 Z Z (zbn _ _) (Y2 Z Z) rN Z (fun _ _=>z1x) fun r3 n4=>z2v 9 [] [] Z (by kernel_rfl) Z (gd0 Z) Z Tryz.func83 Z Z (z9x _ _) (Y2 Z Z) rN Z (fun _ _=>z1x) fun r5 n6=>Zo 10 Z Z Z (lit (R:=z08) ([r3,r5]:List Int) 33 (pP Z Z<|pP Z Z<|pN) Z tu98 ti3 Z Z) fun v7=>hFrz 33 [15] Z (fS Z<|fN)<|z2v 11 [] [] Z (by kernel_rfl) Z (gd0 Z) Z Tryz.func81 Z Z (zj1 _) (Y1 Z) rN Z (fun _ _=>z1x) fun r8 n9=>hTk 12 Z Z (asg Z)<|z3e (by kernel_rfl)<|z0m<|z0k<|Ze [] [] Z
def zcs (x11:z0a) (r17:(List V3) × Int) (s19:(List (z11 × Bool)) × Int):Option (Sum ((List (z11 × Bool))) ((List (z11 × Bool)) × Int)) :=
 if decide (s19.2<(r17.1.length:Int)) then
  idx r17.1 s19.2 >>= fun x21 =>
  some (.inr (zmz s19.1 (⟨x11.Act.Key,x21⟩:z11) true,w64 (s19.2+1)))
 else
  some (.inl s19.1)
def zcq (a0:z00) (s8:(List (z11 × Bool)) × Int):Option (Sum ((List (z11 × Bool))) ((List (z11 × Bool)) × Int)) :=
 if decide (s8.2<(a0.Ops.length:Int)) then
  (idx a0.Ops s8.2 >>= fun x11 =>
  if x11.Act.Kind != 3 then
   some s8.1
  else
   idx a0.IDs s8.2 >>= fun x15 =>
   z4z a0 x15 >>= fun r17 =>
   iter (zcs x11 r17) (s8.1,0)) >>= fun s10 =>
  some (.inr (s10,w64 (s8.2+1)))
 else
  some (.inl s8.1)
def zbc (a0:z00) (s7:(List (z11 × Bool))) (s26:(List z11) × Int):Option (Sum ((List z11)) ((List z11) × Int)) :=
 if decide (s26.2<(a0.Ops.length:Int)) then
  idx a0.Ops s26.2 >>= fun x29 =>
  idx a0.IDs s26.2 >>= fun x32 =>
  (if x29.Act.Kind==2 then
   some (!((zax s7 (⟨x29.Act.Key,x32⟩:z11)).getD false))
  else
   some false) >>= fun s35 =>
  if s35 then
   app 48 s26.1 [(⟨x29.Act.Key,x32⟩:z11)] >>= fun x39 =>
   some (.inr (x39,w64 (s26.2+1)))
  else
   some (.inr (s26.1,w64 (s26.2+1)))
 else
  some (.inl s26.1)
def zlo (a0:z00):Option (z2h × Int) :=
 z3f a0 >>= fun r3 =>
 if r3 != 0 then
  some ((⟨[]⟩:z2h),r3)
 else
  (iter (zcq a0) (([]:List (z11 × Bool)),0)) >>= fun s7 =>
  (iter (zbc a0 s7) ([],0)) >>= fun s25 =>
  z15r s25 >>= fun r43 =>
  some ((⟨r43⟩:z2h),0)
theorem zsr (a0:z00):z1u Tryz.prog 20 [.rd z01 a0] [zG1] (zlo a0) (fun r nv=>⟨[.rd z1w r.1,.rd z08 r.2],[(1001,some (.bool true,.glob 1 (z3m 64 z0p) z5i))]⟩):=by
 refine z2f 97 Tryz.func20 Z Z Z fun H w=>?_;refine gSR<|Eb Z (bx 1 Z) fun v1=>Eb Z (z5l 2 zxk (ZrE.nilS ZrE.nil)) fun v2=>Zb Z<|z0q<|gSR<|Zq (ld 1 Z Z fH zb9 Z)<|Zc [1001] [] Tryz.func23 Z (z8q _) fun r3 n4=>Zb Z<|gSR<|Zm Z<|Zq (I.neq Z Z)<|Zj Z (fun h5=>?_) (fun h5=>?_)
 ·refine gSR<|Zq (zwm [(0,1)] Tryz.underlying32 zxk (ZrE.nilS ZrE.nil) Z (zkm.done Z))<|Zm Z<|Es (zwq 2 Z Z (z0l.cast (z0l.cons z0g z0l.nil) Z) Z (z54.cons z36 z54.nil) (z0l.cast (z0l.cons z0g z0l.nil) Z) zxk)<|Zb Z<|z0k<|z0v<|zug z1h [.rd (z03 z1h) []] 2 [] [] Z Z Z<|eJoi (R:=z1w) (⟨[]⟩:z2h) 2 Z (Sp.via (Sp.prod Sp.unit))<|zaz [] [1001] Z (eC 2 Z Z ty32<|eE Z<|eN) (Y0 Z)
 ·refine Zt<|gSR<|Ef Z (mkm z1h z09 3 (Or.inl Z) Tryz.underlying100) fun v6=>Zb Z<|z7r (fun (s7:(List (z11 × Bool))) aa ww=>Sta (ctx 97 H [zG1] w) [(1,.val (z05 v1 0)),(2,.val (z05 v2 0)),(5,.val v6)] [(1,some (v1,.box 25 [.rd z01 a0])),(2,some (v2,.box 32 [.val (.slice none 0 0)])),(3,some (v6,.map z1h z09 s7)),zG1] aa ww) ?_ (fun s7=>?_)
  ·refine gSR<|Zq (faB 1 Z Z Tryz.underlying25 Z (by exact zcg))<|Zq (ld 1 Z Z (fP (z06 _)) zep Z)<|Zq (z4f Z .rd Z tu23)<|Zm Z<|Zn<|z29 (fun (s8:(List (z11 × Bool)) × Int) aa ww=>Sta (ctx 97 H [zG1] w) [(1,.val (z05 v1 0)),(2,.val (z05 v2 0)),(5,.val v6),(24,.rd (z03 z04) a0.Ops),(25,.rd z08 (a0.Ops.length:Int)),(26,.rd z08 s8.2)] [(1,some (v1,.box 25 [.rd z01 a0])),(2,some (v2,.box 32 [.val (.slice none 0 0)])),(3,some (v6,.map z1h z09 s8.1)),zG1] aa ww) (fun aa ww h=>Zu h [1,2,3,1001]) (fun s8=>?_)
   refine gSR<|Zq (I.lss Z Z)<|Zn<|z0q<|gIf Z Z (fun h9=>?_) (fun h9=>?_)
   ·refine Zt<|z7r (fun (s10:(List (z11 × Bool))) aa ww=>Sta (ctx 97 H [zG1] w) [(1,.val (z05 v1 0)),(2,.val (z05 v2 0)),(5,.val v6),(24,.rd (z03 z04) a0.Ops),(25,.rd z08 (a0.Ops.length:Int)),(26,.rd z08 s8.2)] [(1,some (v1,.box 25 [.rd z01 a0])),(2,some (v2,.box 32 [.val (.slice none 0 0)])),(3,some (v6,.map z1h z09 s10)),zG1] aa ww) ?_ (fun s10=>?_)
    ·refine z5f<|gSR<|Zm Z<|z0t fun x11 h12=>Zq (ixR Z Z h12 tu23 zb1 Z)<|Zq (ldR Z zeb)<|Eb Z (z5l 1100 zb1 (ZrE.rd (R:=z0p) (x:=0) (Zr.num Z) (ZrE.nilS (ZrE.rd (R:=z2x) (x:=0) (Zr.num Z) (ZrE.rd (R:=z0i) (x:=(⟨0,[],(⟨0,0,0,[]⟩:z02)⟩:z07)) zla (ZrE.rd (R:=z0r) (x:=(⟨0,0⟩:z0c)) zoe ZrE.nil Z) Z) Z)) Z)) fun v13=>Za Z<|zft aZ [.rd z0p 0,.rd (z03 aZ) [],.rd z2x 0,.rd z0i (⟨0,[],(⟨0,0,0,[]⟩:z02)⟩:z07),.rd z0r (⟨0,0⟩:z0c)] 1100 [.rd z0p 0] [.rd z2x 0,.rd z0i (⟨0,[],(⟨0,0,0,[]⟩:z02)⟩:z07),.rd z0r (⟨0,0⟩:z0c)] Z Z Z<|zfs (R:=z04) (⟨0,[],0,(⟨0,[],(⟨0,0,0,[]⟩:z02)⟩:z07),(⟨0,0⟩:z0c)⟩:z0a) 1100 Z (Sp.via (Sp.prod (Sp.prod (Sp.prod (Sp.prod (Sp.prod Sp.unit))))))<|Es (sto 1100 Z Z fH Z zb1)<|Zn<|z0q<|gSR<|Zq (faB 1100 Z Z Tryz.underlying67 Z (by exact ze9))<|Zq (faB 1100 Z Z Tryz.underlying52 Z (by exact ti5))<|Zq (ld 1100 Z Z ((fP (z0w _)).part (z15 _)) ty5 Z)<|Zq (B.neq Z Z)<|Zj Z (fun h14=>?_) (fun h14=>?_)
     ·refine z1z<|z10<|zz4<|z3p (fun aa ww h=>Zu h [1,2,3,1001])
     ·refine Zt<|z0q<|z6l [1001,1119] mixed Z Z<|hTk 0 Z Z (ld 1 Z Z fH zb9 Z)<|hTk 1 Z Z (faB 1 Z Z Tryz.underlying25 Z (by exact zb4))<|hTk 2 Z Z (ld 1 Z Z (fP (z0n _)) zbp Z)<|hTk 3 Z Z (mv Z)<|z5g fun x15 h16=>hTk 4 Z Z (ixR Z Z h16 tu22 z3v Z)<|hTk 5 Z Z (ldR Z z6a)<|z2v 6 [1001] [(100,1119)] Z (by kernel_rfl) Z (gd0 Z) Z Tryz.func40 Z Z (zbu _ _) (Y2 Z Z) (Y0 Z) Z (fun _ _=>(zv0 (flC z37 (flC z1x fl0)))) fun r17 n18=>hTk 7 Z Z (mv Z)<|hTk 8 Z Z (ext Z Z)<|hTk 9 Z Z (ext Z Z)<|Zf 10 Z Z z37 (asg Z)<|hTk 11 Z Z (asg Z)<|z3e (by kernel_rfl)<|z0m<|gSR<|Zm Z<|Zq (z4f Z (.own 1119 Z) Z tu22)<|Zm Z<|Zn<|z29 (fun (s19:(List (z11 × Bool)) × Int) aa ww=>Sta (ctx 97 H [zG1] w) [(1,.val (z05 v1 0)),(2,.val (z05 v2 0)),(5,.val v6),(7,.val (z05 v13 0)),(24,.rd (z03 z04) a0.Ops),(25,.rd z08 (a0.Ops.length:Int)),(26,.rd z08 s8.2),(45,.val (n18 0)),(46,.rd z08 (r17.1.length:Int)),(47,.rd z08 s19.2)] [(1,some (v1,.box 25 [.rd z01 a0])),(2,some (v2,.box 32 [.val (.slice none 0 0)])),(3,some (v6,.map z1h z09 s19.1)),(1100,some (v13,.box 67 [.rd z04 x11])),(1119,some ((n18 0),.list aZ 54 r17.1)),zG1] aa ww) (fun aa ww h=>Zu h [1,2,3,1100,1119,1001]) (fun s19=>?_)
      refine gSR<|Zq (I.lss Z Z)<|Zn<|z0q<|gIf Z Z (fun h20=>?_) (fun h20=>?_)
      ·refine Zt<|z0q<|z5f<|gSR<|z0t fun x21 h22=>Zq (ixO 1119 Z Z Z h22 tu22 z3v)<|Zq (ld 1119 Z Z (Foc.el h22) z6a Z)<|Eb Z (z5l 1140 z3v (.zr (R:=aZ) (x:=(Vector.replicate 32 0)) zfn)) fun v23=>Es (sto 1140 Z Z fH Z z3v)<|Zn<|z2g<|Zm Z<|Zq (faB 1100 Z Z Tryz.underlying67 Z (by exact ze9))<|Zq (faB 1100 Z Z Tryz.underlying52 Z (by exact ti9))<|Zq (ld 1100 Z Z ((fP (z0w _)).part (z1i _)) ty9 Z)<|Zq (ld 1140 Z Z fH z6a Z)<|Zq (bld (x':=(⟨x11.Act.Key,x21⟩:z11)) [(0,1),(1,32)] Tryz.underlying103 zjg Z zvn Z (Bld.cons (z89 _) Z Z<|Bld.cons (zcd _) Z Z<|Bld.done Z))<|Es (mup 3 Z Z Z Z z17v Tryz.underlying100)<|z21<|z3l<|z0m<|z2g<|Zq (I.add Z Z)<|Zm Z<|z21<|z1m (fun aa ww h=>Zu h [1,2,3,1100,1119,1001])
      ·refine z1z<|z10<|z14<|z3l<|z3p (fun aa ww h=>Zu h [1,2,3,1001])
    ·refine z2g<|Zq (I.add Z Z)<|Zm Z<|z21<|z1m (fun aa ww h=>Zu h [1,2,3,1001])
   ·refine z1z<|z10<|z14<|z3p (fun aa ww h=>Zu h [1,2,3,1001])
  ·refine gSR<|Eb Z (z5l 1141 zxk (ZrE.nilS ZrE.nil)) fun v24=>Zn<|z7r (fun (s25:(List z11)) aa ww=>∃ nv:Nat→Value,Sta (ctx 97 H [zG1] w) [(2,.val (z05 v2 0)),(12,.val (z05 v24 0))] [(2,some (v2,.box 32 [.val (.slice none 0 0)])),(1180,some ((nv 0),.list z1h 103 s25)),(1141,some (v24,.box 32 [.val (nv 0)])),zG1] aa ww) ?_ (fun s25=>?_)
   ·refine gSR<|Zq (faB 1 Z Z Tryz.underlying25 Z (by exact zcg))<|Zq (ld 1 Z Z (fP (z06 _)) zep Z)<|Zq (z4f Z .rd Z tu23)<|Zm Z<|Zn<|zyo z1h 103 1220<|z29 (fun (s26:(List z11) × Int) aa ww=>∃ nv:Nat→Value,Sta (ctx 97 H [zG1] w) [(1,.val (z05 v1 0)),(2,.val (z05 v2 0)),(5,.val v6),(12,.val (z05 v24 0)),(60,.rd (z03 z04) a0.Ops),(61,.rd z08 (a0.Ops.length:Int)),(62,.rd z08 s26.2)] [(1,some (v1,.box 25 [.rd z01 a0])),(2,some (v2,.box 32 [.val (.slice none 0 0)])),(3,some (v6,.map z1h z09 s7)),(1219,some ((nv 0),.list z1h 103 s26.1)),(1141,some (v24,.box 32 [.val (nv 0)])),zG1] aa ww) (fun aa ww h=>⟨nvl [(.slice none 0 0)],Zu h [1,2,3,1220,1141,1001]⟩) (fun s26=>?_)
    refine gEx fun n27=>gSR<|Zq (I.lss Z Z)<|Zn<|z0q<|gIf Z Z (fun h28=>?_) (fun h28=>?_)
    ·refine Zt<|z0q<|z5f<|gSR<|Zm Z<|z0t fun x29 h30=>Zq (ixR Z Z h30 tu23 zb1 Z)<|Zq (ldR Z zeb)<|Eb Z (z5l 1221 zb1 (ZrE.rd (R:=z0p) (x:=0) (Zr.num Z) (ZrE.nilS (ZrE.rd (R:=z2x) (x:=0) (Zr.num Z) (ZrE.rd (R:=z0i) (x:=(⟨0,[],(⟨0,0,0,[]⟩:z02)⟩:z07)) zla (ZrE.rd (R:=z0r) (x:=(⟨0,0⟩:z0c)) zoe ZrE.nil Z) Z) Z)) Z)) fun v31=>Za Z<|zft aZ [.rd z0p 0,.rd (z03 aZ) [],.rd z2x 0,.rd z0i (⟨0,[],(⟨0,0,0,[]⟩:z02)⟩:z07),.rd z0r (⟨0,0⟩:z0c)] 1221 [.rd z0p 0] [.rd z2x 0,.rd z0i (⟨0,[],(⟨0,0,0,[]⟩:z02)⟩:z07),.rd z0r (⟨0,0⟩:z0c)] Z Z Z<|zfs (R:=z04) (⟨0,[],0,(⟨0,[],(⟨0,0,0,[]⟩:z02)⟩:z07),(⟨0,0⟩:z0c)⟩:z0a) 1221 Z (Sp.via (Sp.prod (Sp.prod (Sp.prod (Sp.prod (Sp.prod Sp.unit))))))<|Es (sto 1221 Z Z fH Z zb1)<|Zn<|z0q<|z6l [1249] mixed Z Z<|hTk 0 Z Z (faB 1221 Z Z Tryz.underlying67 Z (by exact ze9))<|hTk 1 Z Z (faB 1221 Z Z Tryz.underlying52 Z (by exact ti9))<|hTk 2 Z Z (ld 1221 Z Z ((fP (z0w _)).part (z1i _)) ty9 Z)<|hTk 3 Z Z (faB 1 Z Z Tryz.underlying25 Z (by exact zb4))<|hTk 4 Z Z (ld 1 Z Z (fP (z0n _)) zbp Z)<|hTk 5 Z Z (mv Z)<|z5g fun x32 h33=>hTk 6 Z Z (ixR Z Z h33 tu22 z3v Z)<|hTk 7 Z Z (ldR Z z6a)<|hTk 8 Z Z (bld (x':=(⟨x29.Act.Key,x32⟩:z11)) [(0,1),(1,32)] Tryz.underlying103 zjg Z zvn Z (Bld.cons (z89 _) Z Z<|Bld.cons (zcd _) Z Z<|Bld.done Z))<|hDoB 9 Z (by kernel_rfl) (gd0 Z) Z Z Z (z5l 1249 zjg (.zr (R:=z1h) (x:=(⟨[],(Vector.replicate 32 0)⟩:z11)) zvn)) fun v34=>Zp 10 Z Z Z Z Z (sto 1249 Z Z fH Z zjg)<|z3e (by kernel_rfl)<|z0m<|z7r (fun (s35:Bool) aa ww=>Sta (ctx 97 H [zG1] w) [(1,.val (z05 v1 0)),(2,.val (z05 v2 0)),(5,.val v6),(12,.val (z05 v24 0)),(15,.val (z05 v34 0)),(60,.rd (z03 z04) a0.Ops),(61,.rd z08 (a0.Ops.length:Int)),(62,.rd z08 s26.2),(85,.rd z09 s35)] [(1,some (v1,.box 25 [.rd z01 a0])),(2,some (v2,.box 32 [.val (.slice none 0 0)])),(3,some (v6,.map z1h z09 s7)),(1219,some ((n27 0),.list z1h 103 s26.1)),(1141,some (v24,.box 32 [.val (n27 0)])),(1249,some (v34,.box 103 [.rd z1h (⟨x29.Act.Key,x32⟩:z11)])),zG1] aa ww) ?_ (fun s35=>?_)
     ·refine z2g<|Zq (faB 1221 Z Z Tryz.underlying67 Z (by exact ze9))<|Zq (faB 1221 Z Z Tryz.underlying52 Z (by exact ti5))<|Zq (ld 1221 Z Z ((fP (z0w _)).part (z15 _)) ty5 Z)<|Zq (B.eql Z Z)<|Zm Z<|z28 80 Z (fun h36=>?_) (fun h36=>?_)
      ·refine lKn 79 Z h36<|z1l Zx Z Z (mv Z)<|z1l Zx Z Z (ld 1249 Z Z fH zvt Z)<|z1l Zx Z Z (mlk Z (.own 3 Z Z) Z z17v Tryz.underlying100 ti4 Zr.bool Z)<|z1l Zx Z Z (zgu Z)<|Zq (pkT Z Z)<|z21<|z3p (fun aa ww h=>Zu h [1,2,3,1219,1141,1249,1001])
      ·refine lKn 79 Z h36<|Zk Z<|Zk Z<|Zk Z<|Zk Z<|Zq (pkF Z Z)<|z21<|z3p (fun aa ww h=>Zu h [1,2,3,1219,1141,1249,1001])
     ·refine gIf Z Z (fun h37=>?_) (fun h37=>?_)
      ·refine z2g<|Zq (faB 1141 Z Z Tryz.underlying32 Z (by exact ti30))<|Zq (ldV 1141 Z Z (At.cast At.here Z) sc30 Z)<|Zq (ld 1249 Z Z fH zvt Z)<|Ef Z (lit (R:=z1h) ([(⟨x29.Act.Key,x32⟩:z11)]:List z11) 1258 (pP Z Z<|pN) Z Tryz.underlying30 zjg Z Z) fun v38=>zl7 1258 [89] Z (fS Z<|fN)<|z0t fun x39 h40=>Ef Z (apn 1219 Z Z Z .rd h40 Tryz.underlying30 zjg Z Z Z) fun v41=>Zq (faB 1141 Z Z Tryz.underlying32 Z (by exact ti30))<|Es (zwb 1141 Z Z (zb0.cast (zb0.here z0g) Z) Z z36 z0g ti30)<|z21<|z3l<|z0m<|z2g<|Zq (I.add Z Z)<|Zm Z<|z21<|z1m (fun aa ww h=>⟨nvl [v41],Zu h [1,2,3,1219,1141,1001]⟩)
      ·refine z38<|z3l<|z0m<|z2g<|Zq (I.add Z Z)<|Zm Z<|z21<|z1m (fun aa ww h=>⟨nvl [(n27 0)],Zu h [1,2,3,1219,1141,1001]⟩)
    ·refine z1z<|z10<|z14<|z3p (fun aa ww h=>⟨nvl [(n27 0)],Zu h [2,1219,1141,1001]⟩)
   ·refine gEx fun n42=>gSR<|Zq (faB 1141 Z Z Tryz.underlying32 Z (by exact ti30))<|Zq (ldV 1141 Z Z (At.cast At.here Z) sc30 Z)<|Zc [1180] [(1,1180)] Tryz.func41 Z (z10u _ _) fun r43 n44=>Zn<|gSR<|lPow [.rd (z03 z1h) r43] 1141 1180 [] [] Z Z Z Z Z<|zfs (R:=z1w) (⟨r43⟩:z2h) 1141 Z (Sp.via (Sp.prod Sp.unit))<|Zq (ld 1141 Z Z fH ty32 Z)<|zft z1h [.rd (z03 z1h) []] 2 [] [] Z Z Z<|zfs (R:=z1w) (⟨[]⟩:z2h) 2 Z (Sp.via (Sp.prod Sp.unit))<|Es (sto 2 Z Z fH Z zxk)<|Zb Z<|z0k<|zaz [] [1001] Z (eC 2 Z Z ty32<|eE Z<|eN) (Y0 Z)
def zsf (a0:z16):Option ((List UInt8)) :=
 some a0.Key
theorem zwf (a0:z16):z1u Tryz.prog 58 [.rd z13 a0] [] (zsf a0) (fun r nv=>⟨[.rd z3q r],[]⟩):=by
 refine z2f 5 Tryz.func58 Z Z Z fun H w=>?_;refine gSR<|Eb Z (bx 1 Z) fun v1=>Zb Z<|gSR<|Zq (faB 1 Z Z Tryz.underlying125 Z (by exact ti9))<|Zq (ld 1 Z Z (fP (z88 _)) ty9 Z)<|Zb Z<|z0k<|Ze [] [] Z
def za3 (a0:UInt64):Option (Bool) :=
 some (a0 != a0)
theorem zco (a0:UInt64):z1u Tryz.prog 183 [.rd z2x a0] [] (za3 a0) (fun r nv=>⟨[.rd z09 r],[]⟩):=by
 refine z2f 6 Tryz.func183 Z Z Z fun H w=>?_;refine gSR<|Zb Z<|gSR<|Zm Z<|Zm Z<|Zq (U.neq Z Z)<|Zb Z<|z0k<|Ze [] [] Z
def z8g (a0:UInt64) (a1:UInt64):Option (Int) :=
 za3 a0 >>= fun r1 =>
 za3 a1 >>= fun r3 =>
 if r1 then
  if r3 then
   some 0
  else
   some (-1)
 else
  if r3 then
   some 1
  else
   if decide (a0<a1) then
    some (-1)
   else
    if decide (a1<a0) then
     some 1
    else
     some 0
theorem zg5 (a0:UInt64) (a1:UInt64):z1u Tryz.prog 147 [.rd z2x a0,.rd z2x a1] [] (z8g a0 a1) (fun r nv=>⟨[.rd z08 r],[]⟩):=by
 refine z2f 20 Tryz.func147 Z Z Z fun H w=>?_;refine gSR<|Zb Z<|gSR<|Zm Z<|Zc [] [] Tryz.func183 Z (zco _) fun r1 n2=>Zb Z<|gSR<|Zm Z<|Zc [] [] Tryz.func183 Z (zco _) fun r3 n4=>Zb Z<|z0q<|gSR<|Zm Z<|Zj Z (fun h5=>?_) (fun h5=>?_)
 ·refine gKn 8 Z h5<|gKn 5 Z h5<|z0q<|gSR<|Zm Z<|Zj Z (fun h6=>?_) (fun h6=>?_)
  ·refine gKn 10 Z h6<|gKn 6 Z h6<|gSR<|Zb Z<|z0k<|z0v<|z0v<|Ze [] [] Z
  ·refine gKn 10 Z h6<|gKn 6 Z h6<|Zt<|gSR<|Zb Z<|z0k<|z0v<|Ze [] [] Z
 ·refine gKn 8 Z h5<|gKn 5 Z h5<|Zt<|z0q<|gSR<|Zm Z<|Zj Z (fun h7=>?_) (fun h7=>?_)
  ·refine gKn 10 Z h7<|gKn 6 Z h7<|gSR<|Zb Z<|z0k<|z0v<|Ze [] [] Z
  ·refine gKn 10 Z h7<|gKn 6 Z h7<|Zt<|z0q<|gSR<|Zm Z<|Zm Z<|Zq (U.lss Z Z)<|Zj Z (fun h8=>?_) (fun h8=>?_)
   ·refine gSR<|Zb Z<|z0k<|z0v<|Ze [] [] Z
   ·refine Zt<|z0q<|gSR<|Zm Z<|Zm Z<|Zq (U.gtr Z Z)<|Zj Z (fun h9=>?_) (fun h9=>?_)
    ·refine gSR<|Zb Z<|z0k<|z0v<|Ze [] [] Z
    ·refine Zt<|gSR<|Zb Z<|z0k<|Ze [] [] Z
def zik (a0:z16) (a1:z16):Option (Bool) :=
 z8g a0.Stamp a1.Stamp >>= fun r3 =>
 z6p a0.ID.toList a1.ID.toList >>= fun r5 =>
 zeg [r3,r5] >>= fun r8 =>
 some (decide (0<r8)) >>= fun y10 =>
 some y10
theorem zqn (a0:z16) (a1:z16):z1u Tryz.prog 85 [.rd z13 a0,.rd z13 a1] [] (zik a0 a1) (fun r nv=>⟨[.rd z09 r],[]⟩):=by
 refine z2f 18 Tryz.func85 Z Z Z fun H w=>?_;refine gSR<|Eb Z (bx 1 Z) fun v1=>Eb Z (bx 2 Z) fun v2=>Zb Z<|z0q<|zqe 1 2 Z Z<|zqe 2 3 Z Z<|z6l [33] mixed Z Z<|hTk 0 Z Z (faR Z (za4 _) Tryz.underlying125 Z Z (by exact zp4))<|hTk 1 Z Z (ldR Z znt)<|hTk 2 Z Z (faR Z (za4 _) Tryz.underlying125 Z Z (by exact zp4))<|hTk 3 Z Z (ldR Z znt)<|hTk 5 Z Z (faR Z (zer _) Tryz.underlying125 Z Z (by exact z3v))<|hTk 6 Z Z (cutV Z tu54 ti5 Z Z Z)<|hTk 7 Z Z (faR Z (zer _) Tryz.underlying125 Z Z (by exact z3v))<|hTk 8 Z Z (cutV Z tu54 ti5 Z Z Z)<|z2v 4 [] [] Z (by kernel_rfl) Z (gd0 Z) Z Tryz.func147 Z Z (zg5 _ _) (Y2 Z Z) rN Z (fun _ _=>z1x) fun r3 n4=>z2v 9 [] [] Z (by kernel_rfl) Z (gd0 Z) Z Tryz.func83 Z Z (z9x _ _) (Y2 Z Z) rN Z (fun _ _=>z1x) fun r5 n6=>Zo 10 Z Z Z (lit (R:=z08) ([r3,r5]:List Int) 33 (pP Z Z<|pP Z Z<|pN) Z tu98 ti3 Z Z) fun v7=>hFrz 33 [15] Z (fS Z<|fN)<|z2v 11 [] [] Z (by kernel_rfl) Z (gd0 Z) Z Tryz.func81 Z Z (zj1 _) (Y1 Z) rN Z (fun _ _=>z1x) fun r8 n9=>hTk 12 Z Z (I.gtr Z Z)<|hTk 13 Z Z (asg Z)<|zvq 4 Z Z fun y10=>z3e (by kernel_rfl)<|z0m<|z0k<|Ze [] [] Z
def z4j (a0:z16) (a1:List UInt8):Option (Int) :=
 zsf a0 >>= fun r2 =>
 z6h r2 a1 >>= fun r4 =>
 some r4
theorem z6b (a0:z16) (a1:List UInt8) (p2_0:Value):z1u Tryz.prog 106 [.rd z13 a0,.rd z3q a1,.val (z05 p2_0 0)] [(1,some (p2_0,.box 126 [.val (.func (.func 58) #[] #[])]))] (z4j a0 a1) (fun r nv=>⟨[.rd z08 r],[(1,some (p2_0,.box 126 [.val (.func (.func 58) #[] #[])]))]⟩):=by
 refine z2f 11 Tryz.func106 Z Z Z fun H w=>?_;refine gSR<|Eb Z (bx 2 Z) fun v1=>Zb Z<|gSR<|Zq (ldV 1 Z Z .here z190 Z)<|Zq (ld 2 Z Z fH zn4 Z)<|zk9 [] [] (gd0 Z) Z Z Tryz.func58 Z Z (zwf _) (Y1 Z) (cN) rN fun r2 n3=>Zm Z<|Zc [] [] Tryz.func82 Z (zbn _ _) fun r4 n5=>Zb Z<|z0k<|Ze [] [1] Z
def z0b (a0:List z16) (a1:List UInt8) (s3:Int × Int):Option (Sum Int (Int × Int)) :=
 if decide (s3.1<s3.2) then
  some (w64 ((z71 (UInt64.ofInt (w64 (s3.1+s3.2))) 1).toNat:Int)) >>= fun y5 =>
  idx a0 y5 >>= fun x6 =>
  z4j x6 a1 >>= fun r8 =>
  if decide (r8<0) then
   some (.inr (w64 (y5+1),s3.2))
  else
   some (.inr (s3.1,y5))
 else
  some (.inl s3.1)
def z1c (a0:List z16) (a1:List UInt8):Option (Int × Bool) :=
 some (a0.length:Int) >>= fun y1 =>
 (iter (z0b a0 a1) (0,y1)) >>= fun s2 =>
 if decide (s2<y1) then
  idx a0 s2 >>= fun x12 =>
  z4j x12 a1 >>= fun r14 =>
  some (s2,r14==0)
 else
  some (s2,false)
theorem z3x (a0:List z16) (a1:List UInt8) (p2_0:Value):z1u Tryz.prog 105 [.rd (z03 z13) a0,.rd z3q a1,.val (.func (.func 106) #[] #[z05 p2_0 0])] [(1,some (p2_0,.box 126 [.val (.func (.func 58) #[] #[])]))] (z1c a0 a1) (fun r nv=>⟨[.rd z08 r.1,.rd z09 r.2],[(1,some (p2_0,.box 126 [.val (.func (.func 58) #[] #[])]))]⟩):=by
 refine z2f 49 Tryz.func105 Z Z Z fun H w=>?_;refine gSR<|Za Z<|Zb Z<|gSR<|Zm Z<|Zq (z4f Z .rd Z tu33)<|Za Z<|z27 8 Z fun y1=>Zn<|gSR<|Zm Z<|Za Z<|Zb Z<|z7r (fun (s2:Int) aa ww=>Sta (ctx 49 H [(1,some (p2_0,.box 126 [.val (.func (.func 58) #[] #[])]))] w) [(0,.rd (z03 z13) a0),(1,.rd z3q a1),(2,.val (.func (.func 106) #[] #[z05 p2_0 0])),(8,.rd z08 y1),(9,.rd z08 s2)] [(1,some (p2_0,.box 126 [.val (.func (.func 58) #[] #[])]))] aa ww) ?_ (fun s2=>?_)
 ·refine z29 (fun (s3:Int × Int) aa ww=>Sta (ctx 49 H [(1,some (p2_0,.box 126 [.val (.func (.func 58) #[] #[])]))] w) [(0,.rd (z03 z13) a0),(1,.rd z3q a1),(2,.val (.func (.func 106) #[] #[z05 p2_0 0])),(8,.rd z08 y1),(9,.rd z08 s3.1),(10,.rd z08 s3.2)] [(1,some (p2_0,.box 126 [.val (.func (.func 58) #[] #[])]))] aa ww) (fun aa ww h=>Zu h [1]) (fun s3=>?_);refine z0q<|gSR<|Zm Z<|Zm Z<|Zq (I.lss Z Z)<|Zj Z (fun h4=>?_) (fun h4=>?_)
  ·refine Zt<|z5f<|gSR<|Zm Z<|Zm Z<|Zq (I.add Z Z)<|Zq (I.toU Z tu3 Tryz.underlying116)<|Zq (U.shr Z Z (Int.natCast_nonneg _))<|Zq (U.toI Z Tryz.underlying116 tu3)<|Za Z<|z27 11 Z fun y5=>Zn<|gSR<|Zm Z<|Zm Z<|Zm Z<|z0t fun x6 h7=>Zq (ixR Z Z h7 tu33 zfp Z)<|Zq (ldR Z zn4)<|Zm Z<|zk9 [1] [(1,1)] (gd0 Z) Z Z Tryz.func106 Z Z (z6b _ _ _) (Y2 Z Z) (cQ 1 Z<|cN) (Y0 Z) fun r8 n9=>Zq (I.lss Z Z)<|Zj Z (fun h10=>?_) (fun h10=>?_)
   ·refine z2g<|Zm Z<|Zq (I.add Z Z)<|Za Z<|z21<|z3l<|z1m (fun aa ww h=>Zu h [1])
   ·refine z2g<|Zm Z<|Za Z<|z21<|z3l<|z1m (fun aa ww h=>Zu h [1])
  ·refine z1z<|z10<|z14<|z3p (fun aa ww h=>Zu h [1])
 ·refine gSR<|Zm Z<|Zm Z<|Zm Z<|Zq (I.lss Z Z)<|Zm Z<|z28 39 Z (fun h11=>?_) (fun h11=>?_)
  ·refine lKn 38 Z h11<|z1l Zx Z Z (mv Z)<|z1l Zx Z Z (mv Z)<|z1l Zx Z Z (mv Z)<|z0t fun x12 h13=>z1l Zx Z Z (ixR Z Z h13 tu33 zfp Z)<|z1l Zx Z Z (ldR Z zn4)<|z1l Zx Z Z (mv Z)<|zk9 [1] [(1,1)] Zx Z Z Tryz.func106 Z Z (z6b _ _ _) (Y2 Z Z) (cQ 1 Z<|cN) (Y0 Z) fun r14 n15=>z1l Zx Z Z (I.eql Z Z)<|Zq (pkT Z Z)<|Za Z<|Zb Z<|z0k<|Ze [] [1] Z
  ·refine lKn 38 Z h11<|Zk Z<|Zk Z<|Zk Z<|Zk Z<|Zk Z<|Zk Z<|Zk Z<|Zk Z<|Zq (pkF Z Z)<|Za Z<|Zb Z<|z0k<|Ze [] [1] Z
def z47 (a0:List z16) (a2:List UInt8):Option (Int × Bool) :=
 z1c a0 a2 >>= fun r2 =>
 some (r2.1,r2.2)
theorem zd3 (a0:List z16) (a2:List UInt8):z1u Tryz.prog 57 [.rd (z03 z13) a0,.val (.func (.func 58) #[] #[]),.rd z3q a2] [] (z47 a0 a2) (fun r nv=>⟨[.rd z08 r.1,.rd z09 r.2],[]⟩):=by
 refine z2f 14 Tryz.func57 Z Z Z fun H w=>?_;refine gSR<|Eb Z (bx 1 Z) fun v1=>Za Z<|Zb Z<|gSR<|Zm Z<|Zm Z<|Zq (mkf mp0 (mp1 Z))<|Zc [1] [(1,1)] Tryz.func105 Z (z3x _ _ _) fun r2 n3=>Zq (ext Z Z)<|Zq (ext Z Z)<|Za Z<|Zb Z<|z0k<|Ze [] [] Z
end
section
open Go Go.RowKit
set_option maxRecDepth 100000
def z3s (a0:List z16) (a1:List UInt8) (s3:Int × Int):Option (Sum Int (Int × Int)) :=
 if decide (s3.1<s3.2) then
  some (w64 ((z71 (UInt64.ofInt (w64 (s3.1+s3.2))) 1).toNat:Int)) >>= fun y5 =>
  idx a0 y5 >>= fun x6 =>
  z4j x6 a1 >>= fun r8 =>
  if decide (r8<0) then
   some (.inr (w64 (y5+1),s3.2))
  else
   some (.inr (s3.1,y5))
 else
  some (.inl s3.1)
def z1y (a0:List z16) (a1:List UInt8):Option (Int × Bool) :=
 some (a0.length:Int) >>= fun y1 =>
 (iter (z3s a0 a1) (0,y1)) >>= fun s2 =>
 if decide (s2<y1) then
  idx a0 s2 >>= fun x12 =>
  z4j x12 a1 >>= fun r14 =>
  some (s2,r14==0)
 else
  some (s2,false)
theorem z3r (a0:List z16) (q0:Value) (l0:List z16) (a1:List UInt8) (p2_0:Value):z1u Tryz.prog 105 [.vw z13 q0 l0 a0,.rd z3q a1,.val (.func (.func 106) #[] #[z05 p2_0 0])] [(1,some (q0,.list z13 125 l0)),(2,some (p2_0,.box 126 [.val (.func (.func 58) #[] #[])]))] (z1y a0 a1) (fun r nv=>⟨[.rd z08 r.1,.rd z09 r.2],[(1,some (q0,.list z13 125 l0)),(2,some (p2_0,.box 126 [.val (.func (.func 58) #[] #[])]))]⟩):=by
 refine z2f 49 Tryz.func105 Z Z Z fun H w=>?_;refine gSR<|Za Z<|Zb Z<|gSR<|Zm Z<|Zq (z4f Z (.vw 1 Z) Z tu33)<|Za Z<|z27 8 Z fun y1=>Zn<|gSR<|Zm Z<|Za Z<|Zb Z<|z7r (fun (s2:Int) aa ww=>Sta (ctx 49 H [(1,some (q0,.list z13 125 l0)),(2,some (p2_0,.box 126 [.val (.func (.func 58) #[] #[])]))] w) [(0,.vw z13 q0 l0 a0),(1,.rd z3q a1),(2,.val (.func (.func 106) #[] #[z05 p2_0 0])),(8,.rd z08 y1),(9,.rd z08 s2)] [(1,some (q0,.list z13 125 l0)),(2,some (p2_0,.box 126 [.val (.func (.func 58) #[] #[])]))] aa ww) ?_ (fun s2=>?_)
 ·refine z29 (fun (s3:Int × Int) aa ww=>Sta (ctx 49 H [(1,some (q0,.list z13 125 l0)),(2,some (p2_0,.box 126 [.val (.func (.func 58) #[] #[])]))] w) [(0,.vw z13 q0 l0 a0),(1,.rd z3q a1),(2,.val (.func (.func 106) #[] #[z05 p2_0 0])),(8,.rd z08 y1),(9,.rd z08 s3.1),(10,.rd z08 s3.2)] [(1,some (q0,.list z13 125 l0)),(2,some (p2_0,.box 126 [.val (.func (.func 58) #[] #[])]))] aa ww) (fun aa ww h=>Zu h [1,2]) (fun s3=>?_)
  refine z0q<|gSR<|Zm Z<|Zm Z<|Zq (I.lss Z Z)<|Zj Z (fun h4=>?_) (fun h4=>?_)
  ·refine Zt<|z5f<|gSR<|Zm Z<|Zm Z<|Zq (I.add Z Z)<|Zq (I.toU Z tu3 Tryz.underlying116)<|Zq (U.shr Z Z (Int.natCast_nonneg _))<|Zq (U.toI Z Tryz.underlying116 tu3)<|Za Z<|z27 11 Z fun y5=>Zn<|gSR<|Zm Z<|Zm Z<|Zm Z<|z0t fun x6 h7=>Zq (ixQ 1 Z Z Z h7 tu33 zfp)<|Zq (ldQ 1 Z Z zn4 Z)<|Zm Z<|zk9 [2] [(1,2)] (gd0 Z) Z Z Tryz.func106 Z Z (z6b _ _ _) (Y2 Z Z) (cQ 2 Z<|cN) (Y0 Z) fun r8 n9=>Zq (I.lss Z Z)<|Zj Z (fun h10=>?_) (fun h10=>?_)
   ·refine z2g<|Zm Z<|Zq (I.add Z Z)<|Za Z<|z21<|z3l<|z1m (fun aa ww h=>Zu h [1,2])
   ·refine z2g<|Zm Z<|Za Z<|z21<|z3l<|z1m (fun aa ww h=>Zu h [1,2])
  ·refine z1z<|z10<|z14<|z3p (fun aa ww h=>Zu h [1,2])
 ·refine gSR<|Zm Z<|Zm Z<|Zm Z<|Zq (I.lss Z Z)<|Zm Z<|z28 39 Z (fun h11=>?_) (fun h11=>?_)
  ·refine lKn 38 Z h11<|z1l Zx Z Z (mv Z)<|z1l Zx Z Z (mv Z)<|z1l Zx Z Z (mv Z)<|z0t fun x12 h13=>z1l Zx Z Z (ixQ 1 Z Z Z h13 tu33 zfp)<|z1l Zx Z Z (ldQ 1 Z Z zn4 Z)<|z1l Zx Z Z (mv Z)<|zk9 [2] [(1,2)] Zx Z Z Tryz.func106 Z Z (z6b _ _ _) (Y2 Z Z) (cQ 2 Z<|cN) (Y0 Z) fun r14 n15=>z1l Zx Z Z (I.eql Z Z)<|Zq (pkT Z Z)<|Za Z<|Zb Z<|z0k<|Ze [] [1,2] Z
  ·refine lKn 38 Z h11<|Zk Z<|Zk Z<|Zk Z<|Zk Z<|Zk Z<|Zk Z<|Zk Z<|Zk Z<|Zq (pkF Z Z)<|Za Z<|Zb Z<|z0k<|Ze [] [1,2] Z
def z5p (a0:List z16) (a2:List UInt8):Option (Int × Bool) :=
 z1y a0 a2 >>= fun r2 =>
 some (r2.1,r2.2)
theorem zbs (a0:List z16) (q0:Value) (l0:List z16) (a2:List UInt8):z1u Tryz.prog 57 [.vw z13 q0 l0 a0,.val (.func (.func 58) #[] #[]),.rd z3q a2] [(1,some (q0,.list z13 125 l0))] (z5p a0 a2) (fun r nv=>⟨[.rd z08 r.1,.rd z09 r.2],[(1,some (q0,.list z13 125 l0))]⟩):=by
 refine z2f 14 Tryz.func57 Z Z Z fun H w=>?_;refine gSR<|Eb Z (bx 2 Z) fun v1=>Za Z<|Zb Z<|gSR<|Zm Z<|Zm Z<|Zq (mkf mp0 (mp1 Z))<|Zc [1,2] [(1,1),(2,2)] Tryz.func105 Z (z3r _ _ _ _ _) fun r2 n3=>Zq (ext Z Z)<|Zq (ext Z Z)<|Za Z<|Zb Z<|z0k<|Ze [] [1] Z
def zje (c0:List z16) (a1:z0a) (a2:V3):Option ((List z16)) :=
 if a1.Act.Kind != 4 then
  some c0
 else
  z5p c0 ((⟨a1.Act.Key,a1.Act.Value,a1.Stamp,a2⟩:z16).Key) >>= fun r5 =>
  if !r5.2 then
   insR c0 r5.1 [(⟨a1.Act.Key,a1.Act.Value,a1.Stamp,a2⟩:z16)] >>= fun r9 =>
   some r9
  else
   idx c0 r5.1 >>= fun x11 =>
   zik (⟨a1.Act.Key,a1.Act.Value,a1.Stamp,a2⟩:z16) x11 >>= fun r13 =>
   if r13 then
    idx c0 r5.1 >>= fun x16 =>
    some (c0.set (r5.1:Int).toNat (⟨a1.Act.Key,a1.Act.Value,a1.Stamp,a2⟩:z16))
   else
    some c0
theorem zsa (p0:Value) (c0:List z16) (a1:z0a) (a2:V3):z1u Tryz.prog 43 [.val p0,.rd z04 a1,.rd aZ a2] [(1,some (p0,.list z13 125 c0))] (zje c0 a1 a2) (fun r nv=>⟨[.val (nv 0)],[(100,some (nv 0,.list z13 125 r))]⟩):=by
 refine z2f 50 Tryz.func43 Z Z Z fun H w=>?_;refine gSR<|Eb Z (bx 2 Z) fun v1=>Eb Z (bx 3 Z) fun v2=>Zb Z<|z0q<|gSR<|Zq (faB 2 Z Z Tryz.underlying67 Z (by exact ze9))<|Zq (faB 2 Z Z Tryz.underlying52 Z (by exact ti5))<|Zq (ld 2 Z Z ((fP (z0w _)).part (z15 _)) ty5 Z)<|Zq (B.neq Z Z)<|Zj Z (fun h3=>?_) (fun h3=>?_)
 ·refine gSR<|Zm Z<|Zb Z<|z0k<|z0v<|Ze [p0] [1] Z
 ·refine Zt<|gSR<|Zq (faB 2 Z Z Tryz.underlying67 Z (by exact ze9))<|Zq (faB 2 Z Z Tryz.underlying52 Z (by exact ti9))<|Zq (ld 2 Z Z ((fP (z0w _)).part (z1i _)) ty9 Z)<|Zq (faB 2 Z Z Tryz.underlying67 Z (by exact ze9))<|Zq (faB 2 Z Z Tryz.underlying52 Z (by exact zad))<|Zq (ld 2 Z Z ((fP (z0w _)).part (z33 _)) zh5 Z)<|Zq (faB 2 Z Z Tryz.underlying67 Z (by exact zp4))<|Zq (ld 2 Z Z (fP (z3u _)) znt Z)<|Zq (ld 3 Z Z fH z6a Z)<|Zq (bld (x':=(⟨a1.Act.Key,a1.Act.Value,a1.Stamp,a2⟩:z16)) [(0,1),(1,4),(5,1),(6,32)] Tryz.underlying125 zfp Z z16j Z (Bld.cons (z88 _) Z Z<|Bld.cons (zbw _) Z Z<|Bld.cons (za4 _) Z Z<|Bld.cons (zer _) Z Z<|Bld.done Z))<|Eb Z (z5l 4 zfp (.zr (R:=z13) (x:=(⟨[],(⟨0,0,0,[]⟩:z02),0,(Vector.replicate 32 0)⟩:z16)) z16j)) fun v4=>Es (sto 4 Z Z fH Z zfp)<|Zn<|gSR<|Zm Z<|Zq (faB 4 Z Z Tryz.underlying125 Z (by exact ti9))<|Zq (ld 4 Z Z (fP (z88 _)) ty9 Z)<|call [1] [(1,1)] Z Tryz.func57 Z Z (zbs _ _ _ _) (aW Z<|aQ Z<|aQ Z<|aN) (Y0 Z) fun r5 n6=>Zm Z<|Zq (ext Z Z)<|Zq (ext Z Z)<|Za Z<|Zb Z<|z0q<|gSR<|Zm Z<|Zq (zgu Z)<|Zj Z (fun h7=>?_) (fun h7=>?_)
  ·refine gSR<|Zm Z<|Zm Z<|Zq (ld 4 Z Z fH zn4 Z)<|Ef Z (lit (R:=z13) ([(⟨a1.Act.Key,a1.Act.Value,a1.Stamp,a2⟩:z16)]:List z16) 5 (pP Z Z<|pN) Z tu33 zfp Z Z) fun v8=>Zc [1,5] [(100,6)] Tryz.func84 Z (z14t _ _ _ _ _) fun r9 n10=>Zb Z<|z0k<|z0v<|Ze [(n10 0)] [6] Z
  ·refine Zt<|z0q<|z0q<|z6l [] mixed Z Z<|hTk 0 Z Z (ld 4 Z Z fH zn4 Z)<|hTk 1 Z Z (mv Z)<|hTk 2 Z Z (mv Z)<|z5g fun x11 h12=>hTk 3 Z Z (ixO 1 Z Z Z h12 tu33 zfp)<|hTk 4 Z Z (ld 1 Z Z (Foc.el h12) zn4 Z)<|z2v 5 [] [] Z (by kernel_rfl) Z (gd0 Z) Z Tryz.func85 Z Z (zqn _ _) (Y2 Z Z) rN Z (fun _ _=>z9l) fun r13 n14=>z3e (by kernel_rfl)<|z0m<|gIf Z Z (fun h15=>?_) (fun h15=>?_)
   ·refine z2g<|Zm Z<|Zm Z<|Zq (ld 4 Z Z fH zn4 Z)<|z0t fun x16 h17=>Zq (ixO 1 Z Z Z h17 tu33 zfp)<|Es (sto 1 Z Z (Foc.el h17) Z zfp)<|Zn<|gSR<|Zm Z<|Zb Z<|z0k<|Ze [p0] [1] Z
   ·refine Zt<|gSR<|Zm Z<|Zb Z<|z0k<|Ze [p0] [1] Z
def zfu (a0:z00) (s8:(List z16) × Int):Option (Sum ((List z16)) ((List z16) × Int)) :=
 if decide (s8.2<(a0.Ops.length:Int)) then
  idx a0.Ops s8.2 >>= fun x11 =>
  idx a0.IDs s8.2 >>= fun x14 =>
  zje s8.1 x11 x14 >>= fun r16 =>
  some (.inr (r16,w64 (s8.2+1)))
 else
  some (.inl s8.1)
def zti (a0:z00):Option (z35 × Int) :=
 z3f a0 >>= fun r3 =>
 if r3 != 0 then
  some ((⟨[]⟩:z35),r3)
 else
  (iter (zfu a0) ([],0)) >>= fun s7 =>
  some ((⟨s7⟩:z35),0)
theorem z10b (a0:z00):z1u Tryz.prog 21 [.rd z01 a0] [zG1] (zti a0) (fun r nv=>⟨[.rd z2b r.1,.rd z08 r.2],[(1001,some (.bool true,.glob 1 (z3m 64 z0p) z5i))]⟩):=by
 refine z2f 34 Tryz.func21 Z Z Z fun H w=>?_;refine gSR<|Eb Z (bx 1 Z) fun v1=>Eb Z (z5l 2 zzs (ZrE.nilS ZrE.nil)) fun v2=>Zb Z<|z0q<|gSR<|Zq (ld 1 Z Z fH zb9 Z)<|Zc [1001] [] Tryz.func23 Z (z8q _) fun r3 n4=>Zb Z<|gSR<|Zm Z<|Zq (I.neq Z Z)<|Zj Z (fun h5=>?_) (fun h5=>?_)
 ·refine gSR<|Zq (zwm [(0,1)] Tryz.underlying35 zzs (ZrE.nilS ZrE.nil) Z (zkm.done Z))<|Zm Z<|Es (zwq 2 Z Z (z0l.cast (z0l.cons z0g z0l.nil) Z) Z (z54.cons z36 z54.nil) (z0l.cast (z0l.cons z0g z0l.nil) Z) zzs)<|Zb Z<|z0k<|z0v<|zug z13 [.rd (z03 z13) []] 2 [] [] Z Z Z<|eJoi (R:=z2b) (⟨[]⟩:z35) 2 Z (Sp.via (Sp.prod Sp.unit))<|zaz [] [1001] Z (eC 2 Z Z ty35<|eE Z<|eN) (Y0 Z)
 ·refine Zt<|gSR<|Eb Z (z5l 3 zzs (ZrE.nilS ZrE.nil)) fun v6=>Zn<|z7r (fun (s7:(List z16)) aa ww=>∃ nv:Nat→Value,Sta (ctx 34 H [zG1] w) [(2,.val (z05 v2 0)),(5,.val (z05 v6 0))] [(2,some (v2,.box 35 [.val (.slice none 0 0)])),(30,some ((nv 0),.list z13 125 s7)),(3,some (v6,.box 35 [.val (nv 0)])),zG1] aa ww) ?_ (fun s7=>?_)
  ·refine gSR<|Zq (faB 1 Z Z Tryz.underlying25 Z (by exact zcg))<|Zq (ld 1 Z Z (fP (z06 _)) zep Z)<|Zq (z4f Z .rd Z tu23)<|Zm Z<|Zn<|zyo z13 125 1127<|z29 (fun (s8:(List z16) × Int) aa ww=>∃ nv:Nat→Value,Sta (ctx 34 H [zG1] w) [(1,.val (z05 v1 0)),(2,.val (z05 v2 0)),(5,.val (z05 v6 0)),(15,.rd (z03 z04) a0.Ops),(16,.rd z08 (a0.Ops.length:Int)),(17,.rd z08 s8.2)] [(1,some (v1,.box 25 [.rd z01 a0])),(2,some (v2,.box 35 [.val (.slice none 0 0)])),(1126,some ((nv 0),.list z13 125 s8.1)),(3,some (v6,.box 35 [.val (nv 0)])),zG1] aa ww) (fun aa ww h=>⟨nvl [(.slice none 0 0)],Zu h [1,2,1127,3,1001]⟩) (fun s8=>?_)
   refine gEx fun n9=>gSR<|Zq (I.lss Z Z)<|Zn<|z0q<|gIf Z Z (fun h10=>?_) (fun h10=>?_)
   ·refine Zt<|z0q<|z5f<|gSR<|Zm Z<|z0t fun x11 h12=>Zq (ixR Z Z h12 tu23 zb1 Z)<|Zq (ldR Z zeb)<|Eb Z (z5l 1128 zb1 (ZrE.rd (R:=z0p) (x:=0) (Zr.num Z) (ZrE.nilS (ZrE.rd (R:=z2x) (x:=0) (Zr.num Z) (ZrE.rd (R:=z0i) (x:=(⟨0,[],(⟨0,0,0,[]⟩:z02)⟩:z07)) zla (ZrE.rd (R:=z0r) (x:=(⟨0,0⟩:z0c)) zoe ZrE.nil Z) Z) Z)) Z)) fun v13=>Za Z<|zft aZ [.rd z0p 0,.rd (z03 aZ) [],.rd z2x 0,.rd z0i (⟨0,[],(⟨0,0,0,[]⟩:z02)⟩:z07),.rd z0r (⟨0,0⟩:z0c)] 1128 [.rd z0p 0] [.rd z2x 0,.rd z0i (⟨0,[],(⟨0,0,0,[]⟩:z02)⟩:z07),.rd z0r (⟨0,0⟩:z0c)] Z Z Z<|zfs (R:=z04) (⟨0,[],0,(⟨0,[],(⟨0,0,0,[]⟩:z02)⟩:z07),(⟨0,0⟩:z0c)⟩:z0a) 1128 Z (Sp.via (Sp.prod (Sp.prod (Sp.prod (Sp.prod (Sp.prod Sp.unit))))))<|Es (sto 1128 Z Z fH Z zb1)<|Zn<|z6l [3,1126,1153] mixed Z Z<|hTk 0 Z Z (faB 3 Z Z Tryz.underlying35 Z (by exact ti33))<|hTk 2 Z Z (ld 1128 Z Z fH zeb Z)<|hTk 3 Z Z (faB 1 Z Z Tryz.underlying25 Z (by exact zb4))<|hTk 4 Z Z (ld 1 Z Z (fP (z0n _)) zbp Z)<|hTk 5 Z Z (mv Z)<|z5g fun x14 h15=>hTk 6 Z Z (ixR Z Z h15 tu22 z3v Z)<|hTk 7 Z Z (ldR Z z6a)<|hRun 1 Z (by kernel_rfl) (gd0 Z) Z Z z37 (ldV 3 Z Z (At.cast At.here Z) sc33 Z)<|z2v 8 [1126] [(100,1153)] Z (by kernel_rfl) Z (gd0 Z) Z Tryz.func43 Z Z (zsa _ _ _ _) (aQ Z<|aQ Z<|aQ Z<|aN) (Y0 Z) Z (fun _ _=>z37) fun r16 n17=>Zf 9 Z Z z37 (faB 3 Z Z Tryz.underlying35 Z (by exact ti33))<|Zp 10 Z Z Z Z Z (zwb 3 Z Z (zb0.cast (zb0.here z0g) Z) Z z36 z0g ti33)<|z3e (by kernel_rfl)<|z3l<|z0m<|z2g<|Zq (I.add Z Z)<|Zm Z<|z21<|z1m (fun aa ww h=>⟨nvl [(n17 0)],Zu h [1,2,1153,3,1001]⟩)
   ·refine z1z<|z10<|z14<|z3p (fun aa ww h=>⟨nvl [(n9 0)],Zu h [2,1126,3,1001]⟩)
  ·refine gEx fun n18=>gSR<|lPow [.rd (z03 z13) s7] 3 30 [] [] Z Z Z Z Z<|zfs (R:=z2b) (⟨s7⟩:z35) 3 Z (Sp.via (Sp.prod Sp.unit))<|Zq (ld 3 Z Z fH ty35 Z)<|zft z13 [.rd (z03 z13) []] 2 [] [] Z Z Z<|zfs (R:=z2b) (⟨[]⟩:z35) 2 Z (Sp.via (Sp.prod Sp.unit))<|Es (sto 2 Z Z fH Z zzs)<|Zb Z<|z0k<|zaz [] [1001] Z (eC 2 Z Z ty35<|eE Z<|eN) (Y0 Z)
def zon (a0:z00):Option (z3n × Int) :=
 zlo a0 >>= fun r3 =>
 if r3.2 != 0 then
  some ((⟨0,(⟨[]⟩:z2h),(⟨[]⟩:z35),[]⟩:z3n),r3.2)
 else
  zti a0 >>= fun r8 =>
  zbh a0 >>= fun r10 =>
  some ((⟨(a0.Ops.length:Int),r3.1,r8.1,r10.1⟩:z3n),0)
theorem zwj (a0:z00):z1u Tryz.prog 7 [.rd z01 a0] [zG1] (zon a0) (fun r nv=>⟨[.rd z2r r.1,.rd z08 r.2],[(1001,some (.bool true,.glob 1 (z3m 64 z0p) z5i))]⟩):=by
 refine z2f 34 Tryz.func7 Z Z Z fun H w=>?_;refine gSR<|Eb Z (bx 1 Z) fun v1=>Eb Z (z5l 2 ti37 (ZrE.rd (R:=z08) (x:=0) (Zr.num Z) (ZrE.rd (R:=z1w) (x:=(⟨[]⟩:z2h)) zr32 (ZrE.rd (R:=z2b) (x:=(⟨[]⟩:z35)) zr35 (ZrE.nilS ZrE.nil) Z) Z) Z)) fun v2=>Zb Z<|gSR<|Zq (ld 1 Z Z fH zb9 Z)<|Zc [1001] [] Tryz.func20 Z (zsr _) fun r3 n4=>Zm Z<|Zq (ext Z Z)<|Zq (ext Z Z)<|Eb Z (z5l 3 zxk (ZrE.nilS ZrE.nil)) fun v5=>zft z1h [.rd (z03 z1h) []] 3 [] [] Z Z Z<|zfs (R:=z1w) (⟨[]⟩:z2h) 3 Z (Sp.via (Sp.prod Sp.unit))<|Es (sto 3 Z Z fH Z zxk)<|Zb Z<|z0q<|gSR<|Zm Z<|Zq (I.neq Z Z)<|Zj Z (fun h6=>?_) (fun h6=>?_)
 ·refine gSR<|Zq (zwm [(0,1),(1,1),(2,1),(3,1)] Tryz.underlying37 ti37 (ZrE.rd (R:=z08) (x:=0) (Zr.num Z) (ZrE.rd (R:=z1w) (x:=(⟨[]⟩:z2h)) zr32 (ZrE.rd (R:=z2b) (x:=(⟨[]⟩:z35)) zr35 (ZrE.nilS ZrE.nil) Z) Z) Z) Z (zkm.done Z))<|Zm Z<|Es (zwq 2 Z Z (z0l.cast (z0l.cons z17 (z0l.cons z17 (z0l.cons z17 (z0l.cons z0g z0l.nil)))) Z) Z (z54.cons z9c (z54.cons z9c (z54.cons z9c (z54.cons z36 z54.nil)))) (z0l.cast (z0l.cons z17 (z0l.cons z17 (z0l.cons z17 (z0l.cons z0g z0l.nil)))) Z) ti37)<|Zb Z<|z0k<|z0v<|zug aZ [.rd z08 0,.rd z1w (⟨[]⟩:z2h),.rd z2b (⟨[]⟩:z35),.rd (z03 aZ) []] 2 [.rd z08 0,.rd z1w (⟨[]⟩:z2h),.rd z2b (⟨[]⟩:z35)] [] Z Z Z<|eJoi (R:=z2r) (⟨0,(⟨[]⟩:z2h),(⟨[]⟩:z35),[]⟩:z3n) 2 Z (Sp.via (Sp.prod (Sp.prod (Sp.prod (Sp.prod Sp.unit)))))<|zaz [] [1001] Z (eC 2 Z Z ty37<|eE Z<|eN) (Y0 Z)
 ·refine Zt<|gSR<|Zq (faB 1 Z Z Tryz.underlying25 Z (by exact zcg))<|Zq (ld 1 Z Z (fP (z06 _)) zep Z)<|Zq (z4f Z .rd Z tu23)<|Zq (ld 3 Z Z fH ty32 Z)<|Zq (zwm [(0,1),(1,1),(2,1),(3,1)] Tryz.underlying37 ti37 (ZrE.rd (R:=z08) (x:=0) (Zr.num Z) (ZrE.rd (R:=z1w) (x:=(⟨[]⟩:z2h)) zr32 (ZrE.rd (R:=z2b) (x:=(⟨[]⟩:z35)) zr35 (ZrE.nilS ZrE.nil) Z) Z) Z) Z (zkm.cons Z Z z17 (zb0.cast (zb0.here z17) Z)<|zkm.cons Z Z z17 (zb0.cast (zb0.next z17 (zb0.here z17)) Z)<|zkm.done Z))<|Eb Z (z5l 4 ti37 (ZrE.rd (R:=z08) (x:=0) (Zr.num Z) (ZrE.rd (R:=z1w) (x:=(⟨[]⟩:z2h)) zr32 (ZrE.rd (R:=z2b) (x:=(⟨[]⟩:z35)) zr35 (ZrE.nilS ZrE.nil) Z) Z) Z)) fun v7=>Es (zwq 4 Z Z (z0l.cast (z0l.cons z17 (z0l.cons z17 (z0l.cons z17 (z0l.cons z0g z0l.nil)))) Z) Z (z54.cons z9c (z54.cons z9c (z54.cons z9c (z54.cons z36 z54.nil)))) (z0l.cast (z0l.cons z17 (z0l.cons z17 (z0l.cons z17 (z0l.cons z0g z0l.nil)))) Z) ti37)<|Zn<|gSR<|Zq (ld 1 Z Z fH zb9 Z)<|Zc [1001] [] Tryz.func21 Z (z10b _) fun r8 n9=>Zm Z<|Zq (ext Z Z)<|Zq (ext Z Z)<|Zq (faB 4 Z Z Tryz.underlying37 Z (by exact zzs))<|Es (sto 4 Z Z (Foc.cast (Foc.next z17 (Foc.next z17 fH)) Z) Z zzs)<|Zn<|gSR<|Zq (ld 1 Z Z fH zb9 Z)<|Zc [1001] [(100,5)] Tryz.func22 Z (zkc _) fun r10 n11=>Zm Z<|Zq (ext Z Z)<|Zq (ext Z Z)<|Zq (faB 4 Z Z Tryz.underlying37 Z (by exact zb4))<|Es (zwb 4 Z Z (zb0.cast (zb0.next z17 (zb0.next z17 (zb0.next z17 (zb0.here z0g)))) Z) Z z36 z0g zb4)<|Zn<|gSR<|lPow [.rd z08 (a0.Ops.length:Int),.rd z1w r3.1,.rd z2b r8.1,.rd (z03 aZ) r10.1] 4 5 [.rd z08 (a0.Ops.length:Int),.rd z1w r3.1,.rd z2b r8.1] [] Z Z Z Z Z<|zfs (R:=z2r) (⟨(a0.Ops.length:Int),r3.1,r8.1,r10.1⟩:z3n) 4 Z (Sp.via (Sp.prod (Sp.prod (Sp.prod (Sp.prod Sp.unit)))))<|Zq (ld 4 Z Z fH ty37 Z)<|zft aZ [.rd z08 0,.rd z1w (⟨[]⟩:z2h),.rd z2b (⟨[]⟩:z35),.rd (z03 aZ) []] 2 [.rd z08 0,.rd z1w (⟨[]⟩:z2h),.rd z2b (⟨[]⟩:z35)] [] Z Z Z<|zfs (R:=z2r) (⟨0,(⟨[]⟩:z2h),(⟨[]⟩:z35),[]⟩:z3n) 2 Z (Sp.via (Sp.prod (Sp.prod (Sp.prod (Sp.prod Sp.unit)))))<|Es (sto 2 Z Z fH Z ti37)<|Zb Z<|z0k<|zaz [] [1001] Z (eC 2 Z Z ty37<|eE Z<|eN) (Y0 Z)
def zbk (a0:z2h) (s4:Int):Option (Sum (Sum Int Unit) Int) :=
 if decide (s4<(a0.List.length:Int)) then
  idx a0.List s4 >>= fun x6 =>
  (za6 (⟨2,x6.Key,(⟨0,0,0,[]⟩:z02)⟩:z07) >>= fun r10 =>
  if r10 != 0 then
   some true
  else
   if decide (0<s4) then
    idx a0.List (w64 (s4 - 1)) >>= fun x14 =>
    zce x14 x6 >>= fun r16 =>
    some (decide (0≤r16))
   else
    some false) >>= fun s9 =>
  if s9 then
   some (.inl (.inl 8))
  else
   some (.inr (w64 (s4+1)))
 else
  some (.inl (.inr ()))
def zbe (a0:z2h):Option (Int) :=
 if decide (60<(a0.List.length:Int)) then
  some 4
 else
  z67 (iter (zbk a0) 0) fun s3 =>
  some 0
theorem ze6 (a0:z2h):z1u Tryz.prog 52 [.rd z1w a0] [] (zbe a0) (fun r nv=>⟨[.rd z08 r],[]⟩):=by
 refine z2f 38 Tryz.func52 Z Z Z fun H w=>?_;refine gSR<|Eb Z (bx 1 Z) fun v1=>Zb Z<|z0q<|gSR<|Zq (faB 1 Z Z Tryz.underlying32 Z (by exact ti30))<|Zq (ld 1 Z Z (fP (za1 _)) ty30 Z)<|Zq (z4f Z .rd Z Tryz.underlying30)<|Zq (I.gtr Z Z)<|Zj Z (fun h2=>?_) (fun h2=>?_)
 ·refine gSR<|Zb Z<|z0k<|z0v<|Ze [] [] Z
 ·refine Zt<|z8i (fun (s3:Unit) aa ww=>Sta (ctx 38 H [] w) [] [] aa ww) ?_ (fun s3=>?_)
  ·refine gSR<|Zq (faB 1 Z Z Tryz.underlying32 Z (by exact ti30))<|Zq (ld 1 Z Z (fP (za1 _)) ty30 Z)<|Zq (z4f Z .rd Z Tryz.underlying30)<|Zm Z<|Zn<|z29 (fun (s4:Int) aa ww=>Sta (ctx 38 H [] w) [(1,.val (z05 v1 0)),(10,.rd (z03 z1h) a0.List),(11,.rd z08 (a0.List.length:Int)),(12,.rd z08 s4)] [(1,some (v1,.box 32 [.rd z1w a0]))] aa ww) (fun aa ww h=>Zu h [1]) (fun s4=>?_);refine gSR<|Zq (I.lss Z Z)<|Zn<|z0q<|gIf Z Z (fun h5=>?_) (fun h5=>?_)
   ·refine Zt<|z0q<|z5f<|gSR<|Zm Z<|z0t fun x6 h7=>Zq (ixR Z Z h7 Tryz.underlying30 zjg Z)<|Zq (ldR Z zvt)<|Eb Z (z5l 2 zjg (.zr (R:=z1h) (x:=(⟨[],(Vector.replicate 32 0)⟩:z11)) zvn)) fun v8=>Za Z<|Es (sto 2 Z Z fH Z zjg)<|Zn<|z7r (fun (s9:Bool) aa ww=>Sta (ctx 38 H [] w) [(1,.val (z05 v1 0)),(10,.rd (z03 z1h) a0.List),(11,.rd z08 (a0.List.length:Int)),(12,.rd z08 s4),(36,.rd z09 s9)] [(1,some (v1,.box 32 [.rd z1w a0]))] aa ww) ?_ (fun s9=>?_)
    ·refine z6l [] mixed Z Z<|hTk 0 Z Z (faB 2 Z Z Tryz.underlying103 Z (by exact ti9))<|hTk 1 Z Z (ld 2 Z Z (fP (z89 _)) ty9 Z)<|hTk 2 Z Z (bld (x':=(⟨2,x6.Key,(⟨0,0,0,[]⟩:z02)⟩:z07)) [(0,1),(1,1),(2,4)] Tryz.underlying52 ze9 Z zla Z (Bld.cons (z15 _) Z Z<|Bld.cons (z1i _) Z Z<|Bld.done Z))<|z2v 3 [] [] Z (by kernel_rfl) Z (gd0 Z) Z Tryz.func101 Z Z (ze0 _) (Y1 Z) rN Z (fun _ _=>z1x) fun r10 n11=>hTk 4 Z Z (I.neq Z Z)<|hTk 5 Z Z (mv Z)<|hIf 22 Z Z (fun h12=>?_) (fun h12=>?_)
     ·refine hKn 21 Z Z h12<|hSk 6 Z Z<|hSk 7 Z Z<|hSk 8 Z Z<|z20 9 Z (by kernel_rfl) (by kernel_rfl) (by kernel_rfl) (gdU Z Z Z) Z Z<|z20 10 Z (by kernel_rfl) (by kernel_rfl) (by kernel_rfl) (gdU Z Z Z) Z Z<|z20 11 Z (by kernel_rfl) (by kernel_rfl) (by kernel_rfl) (gdU Z Z Z) Z Z<|z20 12 Z (by kernel_rfl) (by kernel_rfl) (by kernel_rfl) (gdU Z Z Z) Z Z<|z20 13 Z (by kernel_rfl) (by kernel_rfl) (by kernel_rfl) (gdU Z Z Z) Z Z<|z20 14 Z (by kernel_rfl) (by kernel_rfl) (by kernel_rfl) (gdU Z Z Z) Z Z<|z20 15 Z (by kernel_rfl) (by kernel_rfl) (by kernel_rfl) (gdU Z Z Z) Z Z<|z20 16 Z (by kernel_rfl) (by kernel_rfl) (by kernel_rfl) (gdU Z Z Z) Z Z<|z20 17 Z (by kernel_rfl) (by kernel_rfl) (by kernel_rfl) (gdU Z Z Z) Z Z<|hSk 18 Z Z<|hTk 19 Z Z (pkT Z Z)<|z3e (by kernel_rfl)<|z3p (fun aa ww h=>Zu h [1])
     ·refine hKn 21 Z Z h12<|Zg 6 Z Z (mv Z)<|Zg 7 Z Z (I.gtr Z Z)<|Zg 8 Z Z (mv Z)<|hIf 25 Z Z (fun h13=>?_) (fun h13=>?_)
      ·refine hKn 24 Z Z h13<|Zg 9 Z Z (faB 1 Z Z Tryz.underlying32 Z (by exact ti30))<|Zg 10 Z Z (ld 1 Z Z (fP (za1 _)) ty30 Z)<|Zg 11 Z Z (mv Z)<|Zg 12 Z Z (I.sub Z Z)<|z5g fun x14 h15=>Zg 13 Z Z (ixR Z Z h15 Tryz.underlying30 zjg Z)<|Zg 14 Z Z (ldR Z zvt)<|Zg 15 Z Z (ld 2 Z Z fH zvt Z)<|z2v 16 [] [] Z (by kernel_rfl) Z Zx Z Tryz.func42 Z Z (zl3 _ _) (Y2 Z Z) rN Z (fun _ _=>z1x) fun r16 n17=>Zg 17 Z Z (I.geq Z Z)<|Zg 18 Z Z (pkT Z Z)<|hTk 19 Z Z (pkF Z Z)<|z3e (by kernel_rfl)<|z3p (fun aa ww h=>Zu h [1])
      ·refine hKn 24 Z Z h13<|hSk 9 Z Z<|hSk 10 Z Z<|hSk 11 Z Z<|hSk 12 Z Z<|hSk 13 Z Z<|hSk 14 Z Z<|hSk 15 Z Z<|hSk 16 Z Z<|hSk 17 Z Z<|Zg 18 Z Z (pkF Z Z)<|hTk 19 Z Z (pkF Z Z)<|z3e (by kernel_rfl)<|z3p (fun aa ww h=>Zu h [1])
    ·refine gIf Z Z (fun h18=>?_) (fun h18=>?_)
     ·refine gSR<|Zb Z<|z0k<|z4p<|z0v<|z8c<|z5n<|Ze [] [] Z
     ·refine z38<|z3l<|z0m<|z2g<|Zq (I.add Z Z)<|Zm Z<|z21<|z1m (fun aa ww h=>Zu h [1])
   ·refine z1z<|z10<|z14<|z6x (fun aa ww h=>Zu h [])
  ·refine gSR<|Zb Z<|z0k<|Ze [] [] Z
def zdj (a0:z35) (s4:Int):Option (Sum (Sum Int Unit) Int) :=
 if decide (s4<(a0.List.length:Int)) then
  idx a0.List s4 >>= fun x6 =>
  (za6 (⟨2,x6.Key,(⟨0,0,0,[]⟩:z02)⟩:z07) >>= fun r10 =>
  if r10 != 0 then
   some true
  else
   zbg x6.Value >>= fun r13 =>
   if r13 != 0 then
    some true
   else
    if decide (1000000000000<x6.Stamp) then
     some true
    else
     if decide (0<s4) then
      idx a0.List (w64 (s4 - 1)) >>= fun x18 =>
      some (!zes x18.Key x6.Key)
     else
      some false) >>= fun s9 =>
  if s9 then
   some (.inl (.inl 8))
  else
   some (.inr (w64 (s4+1)))
 else
  some (.inl (.inr ()))
def zed (a0:z35):Option (Int) :=
 if decide (60<(a0.List.length:Int)) then
  some 4
 else
  z67 (iter (zdj a0) 0) fun s3 =>
  some 0
theorem zg9 (a0:z35):z1u Tryz.prog 53 [.rd z2b a0] [] (zed a0) (fun r nv=>⟨[.rd z08 r],[]⟩):=by
 refine z2f 50 Tryz.func53 Z Z Z fun H w=>?_;refine gSR<|Eb Z (bx 1 Z) fun v1=>Zb Z<|z0q<|gSR<|Zq (faB 1 Z Z Tryz.underlying35 Z (by exact ti33))<|Zq (ld 1 Z Z (fP (z82 _)) ty33 Z)<|Zq (z4f Z .rd Z tu33)<|Zq (I.gtr Z Z)<|Zj Z (fun h2=>?_) (fun h2=>?_)
 ·refine gSR<|Zb Z<|z0k<|z0v<|Ze [] [] Z
 ·refine Zt<|z8i (fun (s3:Unit) aa ww=>Sta (ctx 50 H [] w) [] [] aa ww) ?_ (fun s3=>?_)
  ·refine gSR<|Zq (faB 1 Z Z Tryz.underlying35 Z (by exact ti33))<|Zq (ld 1 Z Z (fP (z82 _)) ty33 Z)<|Zq (z4f Z .rd Z tu33)<|Zm Z<|Zn<|z29 (fun (s4:Int) aa ww=>Sta (ctx 50 H [] w) [(1,.val (z05 v1 0)),(10,.rd (z03 z13) a0.List),(11,.rd z08 (a0.List.length:Int)),(12,.rd z08 s4)] [(1,some (v1,.box 35 [.rd z2b a0]))] aa ww) (fun aa ww h=>Zu h [1]) (fun s4=>?_);refine gSR<|Zq (I.lss Z Z)<|Zn<|z0q<|gIf Z Z (fun h5=>?_) (fun h5=>?_)
   ·refine Zt<|z0q<|z5f<|gSR<|Zm Z<|z0t fun x6 h7=>Zq (ixR Z Z h7 tu33 zfp Z)<|Zq (ldR Z zn4)<|Eb Z (z5l 2 zfp (.zr (R:=z13) (x:=(⟨[],(⟨0,0,0,[]⟩:z02),0,(Vector.replicate 32 0)⟩:z16)) z16j)) fun v8=>Za Z<|Es (sto 2 Z Z fH Z zfp)<|Zn<|z7r (fun (s9:Bool) aa ww=>Sta (ctx 50 H [] w) [(1,.val (z05 v1 0)),(10,.rd (z03 z13) a0.List),(11,.rd z08 (a0.List.length:Int)),(12,.rd z08 s4),(48,.rd z09 s9)] [(1,some (v1,.box 35 [.rd z2b a0]))] aa ww) ?_ (fun s9=>?_)
    ·refine z6l [] mixed Z Z<|hTk 0 Z Z (faB 2 Z Z Tryz.underlying125 Z (by exact ti9))<|hTk 1 Z Z (ld 2 Z Z (fP (z88 _)) ty9 Z)<|hTk 2 Z Z (bld (x':=(⟨2,x6.Key,(⟨0,0,0,[]⟩:z02)⟩:z07)) [(0,1),(1,1),(2,4)] Tryz.underlying52 ze9 Z zla Z (Bld.cons (z15 _) Z Z<|Bld.cons (z1i _) Z Z<|Bld.done Z))<|z2v 3 [] [] Z (by kernel_rfl) Z (gd0 Z) Z Tryz.func101 Z Z (ze0 _) (Y1 Z) rN Z (fun _ _=>z1x) fun r10 n11=>hTk 4 Z Z (I.neq Z Z)<|hTk 5 Z Z (mv Z)<|hIf 22 Z Z (fun h12=>?_) (fun h12=>?_)
     ·refine hKn 21 Z Z h12<|hSk 6 Z Z<|hSk 7 Z Z<|hSk 8 Z Z<|hSk 9 Z Z<|hTk 10 Z Z (pkT Z Z)<|hTk 11 Z Z (mv Z)<|hSk 12 Z Z<|hSk 13 Z Z<|hSk 14 Z Z<|hTk 15 Z Z (pkT Z Z)<|hTk 16 Z Z (mv Z)<|hSk 17 Z Z<|hSk 18 Z Z<|hSk 19 Z Z<|z20 20 Z (by kernel_rfl) (by kernel_rfl) (by kernel_rfl) (gdU Z Z Z) Z Z<|z20 21 Z (by kernel_rfl) (by kernel_rfl) (by kernel_rfl) (gdU Z Z Z) Z Z<|z20 22 Z (by kernel_rfl) (by kernel_rfl) (by kernel_rfl) (gdU Z Z Z) Z Z<|z20 23 Z (by kernel_rfl) (by kernel_rfl) (by kernel_rfl) (gdU Z Z Z) Z Z<|z20 24 Z (by kernel_rfl) (by kernel_rfl) (by kernel_rfl) (gdU Z Z Z) Z Z<|z20 25 Z (by kernel_rfl) (by kernel_rfl) (by kernel_rfl) (gdU Z Z Z) Z Z<|z20 26 Z (by kernel_rfl) (by kernel_rfl) (by kernel_rfl) (gdU Z Z Z) Z Z<|z20 27 Z (by kernel_rfl) (by kernel_rfl) (by kernel_rfl) (gdU Z Z Z) Z Z<|z20 28 Z (by kernel_rfl) (by kernel_rfl) (by kernel_rfl) (gdU Z Z Z) Z Z<|z20 29 Z (by kernel_rfl) (by kernel_rfl) (by kernel_rfl) (gdU Z Z Z) Z Z<|hSk 30 Z Z<|hTk 31 Z Z (pkT Z Z)<|z3e (by kernel_rfl)<|z3p (fun aa ww h=>Zu h [1])
     ·refine hKn 21 Z Z h12<|Zg 6 Z Z (faB 2 Z Z Tryz.underlying125 Z (by exact zad))<|Zg 7 Z Z (ld 2 Z Z (fP (zbw _)) zh5 Z)<|z2v 8 [] [] Z (by kernel_rfl) Z Zx Z Tryz.func102 Z Z (ze2 _) (Y1 Z) rN Z (fun _ _=>z1x) fun r13 n14=>Zg 9 Z Z (I.neq Z Z)<|hTk 10 Z Z (pkF Z Z)<|hTk 11 Z Z (mv Z)<|hIf 28 Z Z (fun h15=>?_) (fun h15=>?_)
      ·refine hKn 26 Z Z h15<|hKn 27 Z Z h15<|hSk 12 Z Z<|hSk 13 Z Z<|hSk 14 Z Z<|hTk 15 Z Z (pkT Z Z)<|hTk 16 Z Z (mv Z)<|hSk 17 Z Z<|hSk 18 Z Z<|hSk 19 Z Z<|z20 20 Z (by kernel_rfl) (by kernel_rfl) (by kernel_rfl) (gdU Z Z Z) Z Z<|z20 21 Z (by kernel_rfl) (by kernel_rfl) (by kernel_rfl) (gdU Z Z Z) Z Z<|z20 22 Z (by kernel_rfl) (by kernel_rfl) (by kernel_rfl) (gdU Z Z Z) Z Z<|z20 23 Z (by kernel_rfl) (by kernel_rfl) (by kernel_rfl) (gdU Z Z Z) Z Z<|z20 24 Z (by kernel_rfl) (by kernel_rfl) (by kernel_rfl) (gdU Z Z Z) Z Z<|z20 25 Z (by kernel_rfl) (by kernel_rfl) (by kernel_rfl) (gdU Z Z Z) Z Z<|z20 26 Z (by kernel_rfl) (by kernel_rfl) (by kernel_rfl) (gdU Z Z Z) Z Z<|z20 27 Z (by kernel_rfl) (by kernel_rfl) (by kernel_rfl) (gdU Z Z Z) Z Z<|z20 28 Z (by kernel_rfl) (by kernel_rfl) (by kernel_rfl) (gdU Z Z Z) Z Z<|z20 29 Z (by kernel_rfl) (by kernel_rfl) (by kernel_rfl) (gdU Z Z Z) Z Z<|hSk 30 Z Z<|hTk 31 Z Z (pkT Z Z)<|z3e (by kernel_rfl)<|z3p (fun aa ww h=>Zu h [1])
      ·refine hKn 26 Z Z h15<|hKn 27 Z Z h15<|Zg 12 Z Z (faB 2 Z Z Tryz.underlying125 Z (by exact zp4))<|Zg 13 Z Z (ld 2 Z Z (fP (za4 _)) znt Z)<|Zg 14 Z Z (U.gtr Z Z)<|hTk 15 Z Z (pkF Z Z)<|hTk 16 Z Z (mv Z)<|hIf 33 Z Z (fun h16=>?_) (fun h16=>?_)
       ·refine hKn 31 Z Z h16<|hKn 32 Z Z h16<|hSk 17 Z Z<|hSk 18 Z Z<|hSk 19 Z Z<|z20 20 Z (by kernel_rfl) (by kernel_rfl) (by kernel_rfl) (gdU Z Z Z) Z Z<|z20 21 Z (by kernel_rfl) (by kernel_rfl) (by kernel_rfl) (gdU Z Z Z) Z Z<|z20 22 Z (by kernel_rfl) (by kernel_rfl) (by kernel_rfl) (gdU Z Z Z) Z Z<|z20 23 Z (by kernel_rfl) (by kernel_rfl) (by kernel_rfl) (gdU Z Z Z) Z Z<|z20 24 Z (by kernel_rfl) (by kernel_rfl) (by kernel_rfl) (gdU Z Z Z) Z Z<|z20 25 Z (by kernel_rfl) (by kernel_rfl) (by kernel_rfl) (gdU Z Z Z) Z Z<|z20 26 Z (by kernel_rfl) (by kernel_rfl) (by kernel_rfl) (gdU Z Z Z) Z Z<|z20 27 Z (by kernel_rfl) (by kernel_rfl) (by kernel_rfl) (gdU Z Z Z) Z Z<|z20 28 Z (by kernel_rfl) (by kernel_rfl) (by kernel_rfl) (gdU Z Z Z) Z Z<|z20 29 Z (by kernel_rfl) (by kernel_rfl) (by kernel_rfl) (gdU Z Z Z) Z Z<|hSk 30 Z Z<|hTk 31 Z Z (pkT Z Z)<|z3e (by kernel_rfl)<|z3p (fun aa ww h=>Zu h [1])
       ·refine hKn 31 Z Z h16<|hKn 32 Z Z h16<|Zg 17 Z Z (mv Z)<|Zg 18 Z Z (I.gtr Z Z)<|Zg 19 Z Z (mv Z)<|hIf 36 Z Z (fun h17=>?_) (fun h17=>?_)
        ·refine hKn 35 Z Z h17<|Zg 20 Z Z (faB 1 Z Z Tryz.underlying35 Z (by exact ti33))<|Zg 21 Z Z (ld 1 Z Z (fP (z82 _)) ty33 Z)<|Zg 22 Z Z (mv Z)<|Zg 23 Z Z (I.sub Z Z)<|z5g fun x18 h19=>Zg 24 Z Z (ixR Z Z h19 tu33 zfp Z)<|Zg 25 Z Z (faR Z (z88 _) Tryz.underlying125 Z Z (by exact ti9))<|Zg 26 Z Z (ldR Z ty9)<|Zg 27 Z Z (faB 2 Z Z Tryz.underlying125 Z (by exact ti9))<|Zg 28 Z Z (ld 2 Z Z (fP (z88 _)) ty9 Z)<|Zg 29 Z Z (geS Z Z)<|Zg 30 Z Z (pkT Z Z)<|hTk 31 Z Z (pkF Z Z)<|z3e (by kernel_rfl)<|z3p (fun aa ww h=>Zu h [1])
        ·refine hKn 35 Z Z h17<|hSk 20 Z Z<|hSk 21 Z Z<|hSk 22 Z Z<|hSk 23 Z Z<|hSk 24 Z Z<|hSk 25 Z Z<|hSk 26 Z Z<|hSk 27 Z Z<|hSk 28 Z Z<|hSk 29 Z Z<|Zg 30 Z Z (pkF Z Z)<|hTk 31 Z Z (pkF Z Z)<|z3e (by kernel_rfl)<|z3p (fun aa ww h=>Zu h [1])
    ·refine gIf Z Z (fun h20=>?_) (fun h20=>?_)
     ·refine gSR<|Zb Z<|z0k<|z4p<|z0v<|z8c<|z5n<|Ze [] [] Z
     ·refine z38<|z3l<|z0m<|z2g<|Zq (I.add Z Z)<|Zm Z<|z21<|z1m (fun aa ww h=>Zu h [1])
   ·refine z1z<|z10<|z14<|z6x (fun aa ww h=>Zu h [])
  ·refine gSR<|Zb Z<|z0k<|Ze [] [] Z
def zg4 (a0:V3) (a1:V3):Option (Int) :=
 z6p a0.toList a1.toList >>= fun r3 =>
 some r3
theorem zmq (a0:V3) (a1:V3):z1u Tryz.prog 54 [.rd aZ a0,.rd aZ a1] [] (zg4 a0 a1) (fun r nv=>⟨[.rd z08 r],[]⟩):=by
 refine z2f 8 Tryz.func54 Z Z Z fun H w=>?_;refine gSR<|Eb Z (bx 1 Z) fun v1=>Eb Z (bx 2 Z) fun v2=>Zb Z<|z0q<|zqe 1 2 Z Z<|zqe 2 3 Z Z<|z6l [] mixed Z Z<|hTk 0 Z Z (cutV Z tu54 ti5 Z Z Z)<|hTk 1 Z Z (cutV Z tu54 ti5 Z Z Z)<|z2v 2 [] [] Z (by kernel_rfl) Z (gd0 Z) Z Tryz.func83 Z Z (z9x _ _) (Y2 Z Z) rN Z (fun _ _=>z1x) fun r3 n4=>hTk 3 Z Z (asg Z)<|z3e (by kernel_rfl)<|z0m<|z0k<|Ze [] [] Z
def zae (a0:z3n) (y2:Int) (s22:Int):Option (Sum (Sum Int Unit) Int) :=
 if decide (s22<y2) then
  idx a0.Heads (w64 (s22 - 1)) >>= fun x24 =>
  idx a0.Heads s22 >>= fun x26 =>
  zg4 x24 x26 >>= fun r28 =>
  if decide (0≤r28) then
   some (.inl (.inl 8))
  else
   some (w64 (s22+1)) >>= fun y31 =>
   some (.inr y31)
 else
  some (.inl (.inr ()))
def zgs (a0:z3n):Option (Int) :=
 some (a0.Heads.length:Int) >>= fun y2 =>
 z67 (if decide (a0.Version<0) then
  some (.inl 8)
 else
  if decide (60<a0.Version) then
   some (.inl 8)
  else
   if decide (a0.Version<y2) then
    some (.inl 8)
   else
    if y2==0 then
     if decide (0<a0.Version) then
      some (.inl 8)
     else
      zbe a0.Set >>= fun r9 =>
      if r9 != 0 then
       some (.inl 8)
      else
       zed a0.Regs >>= fun r12 =>
       if r12 != 0 then
        some (.inl 8)
       else
        some (.inr ())
    else
     zbe a0.Set >>= fun r15 =>
     if r15 != 0 then
      some (.inl 8)
     else
      zed a0.Regs >>= fun r18 =>
      if r18 != 0 then
       some (.inl 8)
      else
       some (.inr ())) fun s3 =>
 z67 (iter (zae a0 y2) 1) fun s21 =>
 some 0
theorem zpp (a0:z3n):z1u Tryz.prog 26 [.rd z2r a0] [] (zgs a0) (fun r nv=>⟨[.rd z08 r],[]⟩):=by
 refine z2f 61 Tryz.func26 Z Z Z fun H w=>?_;refine gSR<|Eb Z (bx 1 Z) fun v1=>Zb Z<|gSR<|Zq (faB 1 Z Z Tryz.underlying37 Z (by exact zb4))<|Zq (ld 1 Z Z (fP (zam _)) zbp Z)<|Zq (z4f Z .rd Z tu22)<|Za Z<|z27 3 Z fun y2=>Zn<|z8i (fun (s3:Unit) aa ww=>Sta (ctx 61 H [] w) [(1,.val (z05 v1 0)),(3,.rd z08 y2)] [(1,some (v1,.box 37 [.rd z2r a0]))] aa ww) ?_ (fun s3=>?_)
 ·refine gSR<|Zq (faB 1 Z Z Tryz.underlying37 Z (by exact ti3))<|Zq (ld 1 Z Z (fP (z75 _)) ty3 Z)<|Zq (I.lss Z Z)<|Zm Z<|z28 11 Z (fun h4=>?_) (fun h4=>?_)
  ·refine lKn 10 Z h4<|Zk Z<|Zk Z<|Zk Z<|Zq (pkT Z Z)<|Zm Z<|Zk Z<|Zk Z<|Zk Z<|Zk Z<|Zq (pkT Z Z)<|Zm Z<|Zk Z<|Zk Z<|Zk Z<|znl (gdU Z Z Z) Z Z<|znl (gdU Z Z Z) Z Z<|znl (gdU Z Z Z) Z Z<|Zk Z<|Zq (pkT Z Z)<|Zm Z<|Zk Z<|Zk Z<|Zk Z<|Zk Z<|Zq (pkT Z Z)<|Zm Z<|Zk Z<|Zk Z<|Zk Z<|Zk Z<|Zq (pkT Z Z)<|Zn<|zdc Z<|gSR<|Zb Z<|z0k<|z5n<|Ze [] [] Z
  ·refine lKn 10 Z h4<|z1l Zx Z Z (faB 1 Z Z Tryz.underlying37 Z (by exact ti3))<|z1l Zx Z Z (ld 1 Z Z (fP (z75 _)) ty3 Z)<|z1l Zx Z Z (I.gtr Z Z)<|Zq (pkF Z Z)<|Zm Z<|z28 16 Z (fun h5=>?_) (fun h5=>?_)
   ·refine lKn 14 Z h5<|lKn 15 Z h5<|Zk Z<|Zk Z<|Zk Z<|Zk Z<|Zq (pkT Z Z)<|Zm Z<|Zk Z<|Zk Z<|Zk Z<|znl (gdU Z Z Z) Z Z<|znl (gdU Z Z Z) Z Z<|znl (gdU Z Z Z) Z Z<|Zk Z<|Zq (pkT Z Z)<|Zm Z<|Zk Z<|Zk Z<|Zk Z<|Zk Z<|Zq (pkT Z Z)<|Zm Z<|Zk Z<|Zk Z<|Zk Z<|Zk Z<|Zq (pkT Z Z)<|Zn<|zdc Z<|gSR<|Zb Z<|z0k<|z5n<|Ze [] [] Z
   ·refine lKn 14 Z h5<|lKn 15 Z h5<|z1l Zx Z Z (mv Z)<|z1l Zx Z Z (faB 1 Z Z Tryz.underlying37 Z (by exact ti3))<|z1l Zx Z Z (ld 1 Z Z (fP (z75 _)) ty3 Z)<|z1l Zx Z Z (I.gtr Z Z)<|Zq (pkF Z Z)<|Zm Z<|z28 22 Z (fun h6=>?_) (fun h6=>?_)
    ·refine lKn 20 Z h6<|lKn 21 Z h6<|Zk Z<|Zk Z<|Zk Z<|znl (gdU Z Z Z) Z Z<|znl (gdU Z Z Z) Z Z<|znl (gdU Z Z Z) Z Z<|Zk Z<|Zq (pkT Z Z)<|Zm Z<|Zk Z<|Zk Z<|Zk Z<|Zk Z<|Zq (pkT Z Z)<|Zm Z<|Zk Z<|Zk Z<|Zk Z<|Zk Z<|Zq (pkT Z Z)<|Zn<|zdc Z<|gSR<|Zb Z<|z0k<|z5n<|Ze [] [] Z
    ·refine lKn 20 Z h6<|lKn 21 Z h6<|z1l Zx Z Z (mv Z)<|z1l Zx Z Z (I.eql Z Z)<|z1l Zx Z Z (mv Z)<|z28 25 Z (fun h7=>?_) (fun h7=>?_)
     ·refine lKn 24 Z h7<|z1l Zx Z Z (faB 1 Z Z Tryz.underlying37 Z (by exact ti3))<|z1l Zx Z Z (ld 1 Z Z (fP (z75 _)) ty3 Z)<|z1l Zx Z Z (I.gtr Z Z)<|z1l Zx Z Z (pkT Z Z)<|Zq (pkF Z Z)<|Zm Z<|z28 31 Z (fun h8=>?_) (fun h8=>?_)
      ·refine lKn 28 Z h8<|lKn 29 Z h8<|lKn 30 Z h8<|Zk Z<|Zk Z<|Zk Z<|Zk Z<|Zq (pkT Z Z)<|Zm Z<|Zk Z<|Zk Z<|Zk Z<|Zk Z<|Zq (pkT Z Z)<|Zn<|zdc Z<|gSR<|Zb Z<|z0k<|z5n<|Ze [] [] Z
      ·refine lKn 28 Z h8<|lKn 29 Z h8<|lKn 30 Z h8<|z1l Zx Z Z (faB 1 Z Z Tryz.underlying37 Z (by exact zxk))<|z1l Zx Z Z (ld 1 Z Z (fP (zc3 _)) ty32 Z)<|zfv [] [] Zx Z Tryz.func52 Z Z (ze6 _) (Y1 Z) rN fun r9 n10=>z1l Zx Z Z (I.neq Z Z)<|Zq (pkF Z Z)<|Zm Z<|z28 37 Z (fun h11=>?_) (fun h11=>?_)
       ·refine lKn 35 Z h11<|lKn 36 Z h11<|Zk Z<|Zk Z<|Zk Z<|Zk Z<|Zq (pkT Z Z)<|Zn<|zdc Z<|gSR<|Zb Z<|z0k<|z5n<|Ze [] [] Z
       ·refine lKn 35 Z h11<|lKn 36 Z h11<|z1l Zx Z Z (faB 1 Z Z Tryz.underlying37 Z (by exact zzs))<|z1l Zx Z Z (ld 1 Z Z (fP (zbd _)) ty35 Z)<|zfv [] [] Zx Z Tryz.func53 Z Z (zg9 _) (Y1 Z) rN fun r12 n13=>z1l Zx Z Z (I.neq Z Z)<|Zq (pkF Z Z)<|Zj Z (fun h14=>?_) (fun h14=>?_)
        ·refine gKn 41 Z h14<|gSR<|Zb Z<|z0k<|z5n<|Ze [] [] Z
        ·refine gKn 41 Z h14<|z38<|z6x (fun aa ww h=>Zu h [1])
     ·refine lKn 24 Z h7<|Zk Z<|Zk Z<|Zk Z<|z1l Zx Z Z (pkF Z Z)<|Zq (pkF Z Z)<|Zm Z<|z1l Zx Z Z (faB 1 Z Z Tryz.underlying37 Z (by exact zxk))<|z1l Zx Z Z (ld 1 Z Z (fP (zc3 _)) ty32 Z)<|zfv [] [] Zx Z Tryz.func52 Z Z (ze6 _) (Y1 Z) rN fun r15 n16=>z1l Zx Z Z (I.neq Z Z)<|Zq (pkF Z Z)<|Zm Z<|z28 37 Z (fun h17=>?_) (fun h17=>?_)
      ·refine lKn 35 Z h17<|lKn 36 Z h17<|Zk Z<|Zk Z<|Zk Z<|Zk Z<|Zq (pkT Z Z)<|Zn<|zdc Z<|gSR<|Zb Z<|z0k<|z5n<|Ze [] [] Z
      ·refine lKn 35 Z h17<|lKn 36 Z h17<|z1l Zx Z Z (faB 1 Z Z Tryz.underlying37 Z (by exact zzs))<|z1l Zx Z Z (ld 1 Z Z (fP (zbd _)) ty35 Z)<|zfv [] [] Zx Z Tryz.func53 Z Z (zg9 _) (Y1 Z) rN fun r18 n19=>z1l Zx Z Z (I.neq Z Z)<|Zq (pkF Z Z)<|Zj Z (fun h20=>?_) (fun h20=>?_)
       ·refine gKn 41 Z h20<|gSR<|Zb Z<|z0k<|z5n<|Ze [] [] Z
       ·refine gKn 41 Z h20<|z38<|z6x (fun aa ww h=>Zu h [1])
 ·refine z8i (fun (s21:Unit) aa ww=>Sta (ctx 61 H [] w) [] [] aa ww) ?_ (fun s21=>?_)
  ·refine gSR<|Zb Z<|z29 (fun (s22:Int) aa ww=>Sta (ctx 61 H [] w) [(1,.val (z05 v1 0)),(3,.rd z08 y2),(4,.rd z08 s22)] [(1,some (v1,.box 37 [.rd z2r a0]))] aa ww) (fun aa ww h=>Zu h [1]) (fun s22=>?_);refine z0q<|gSR<|Zm Z<|Zm Z<|Zq (I.lss Z Z)<|Zj Z (fun h23=>?_) (fun h23=>?_)
   ·refine Zt<|z0q<|z5f<|z0q<|z6l [] mixed Z Z<|hTk 0 Z Z (faB 1 Z Z Tryz.underlying37 Z (by exact zb4))<|hTk 1 Z Z (ld 1 Z Z (fP (zam _)) zbp Z)<|hTk 2 Z Z (mv Z)<|hTk 3 Z Z (I.sub Z Z)<|z5g fun x24 h25=>hTk 4 Z Z (ixR Z Z h25 tu22 z3v Z)<|hTk 5 Z Z (ldR Z z6a)<|hTk 6 Z Z (faB 1 Z Z Tryz.underlying37 Z (by exact zb4))<|hTk 7 Z Z (ld 1 Z Z (fP (zam _)) zbp Z)<|hTk 8 Z Z (mv Z)<|z5g fun x26 h27=>hTk 9 Z Z (ixR Z Z h27 tu22 z3v Z)<|hTk 10 Z Z (ldR Z z6a)<|z2v 11 [] [] Z (by kernel_rfl) Z (gd0 Z) Z Tryz.func54 Z Z (zmq _ _) (Y2 Z Z) rN Z (fun _ _=>z1x) fun r28 n29=>hTk 12 Z Z (I.geq Z Z)<|z3e (by kernel_rfl)<|z0m<|gIf Z Z (fun h30=>?_) (fun h30=>?_)
    ·refine gSR<|Zb Z<|z0k<|z4p<|z0v<|z8c<|z5n<|Ze [] [] Z
    ·refine z38<|z3l<|z0m<|z2g<|Zm Z<|Zq (I.add Z Z)<|Za Z<|z27 4 Z fun y31=>z21<|z1m (fun aa ww h=>Zu h [1])
   ·refine z1z<|z10<|z14<|z6x (fun aa ww h=>Zu h [])
  ·refine gSR<|Zb Z<|z0k<|Ze [] [] Z
def z2q (c0:List (List UInt8)) (s3:Int) (s13:(List (List UInt8)) × Int × Int):Option (Sum ((List (List UInt8)) × Int) ((List (List UInt8)) × Int × Int)) :=
 if decide (s13.2.2<((((c0.length:Int):Int).toNat - (s3:Int).toNat:Nat):Int)) then
  subi ((s3:Int).toNat) (((c0.length:Int):Int).toNat - (s3:Int).toNat) s13.2.2 >>= fun q15 =>
  idx s13.1 (q15:Int) >>= fun x17 =>
  subi ((s3:Int).toNat) (((c0.length:Int):Int).toNat - (s3:Int).toNat) (w64 (s13.2.2 - 1)) >>= fun q19 =>
  idx s13.1 (q19:Int) >>= fun x21 =>
  if x17 != x21 then
   subi ((s3:Int).toNat) (((c0.length:Int):Int).toNat - (s3:Int).toNat) s13.2.2 >>= fun q24 =>
   idx s13.1 (q24:Int) >>= fun x26 =>
   idx s13.1 s13.2.1 >>= fun x28 =>
   some (w64 (s13.2.1+1)) >>= fun y30 =>
   some (w64 (s13.2.2+1)) >>= fun y31 =>
   some (.inr (s13.1.set (s13.2.1:Int).toNat x26,y30,y31))
  else
   some (w64 (s13.2.2+1)) >>= fun y32 =>
   some (.inr (s13.1,s13.2.1,y32))
 else
  some (.inl (s13.1,s13.2.1))
def z1k (c0:List (List UInt8)) (s3:Int):Option (Sum (Sum ((List (List UInt8))) Unit) Int) :=
 if decide (s3<(c0.length:Int)) then
  idx c0 s3 >>= fun x5 =>
  idx c0 (w64 (s3 - 1)) >>= fun x7 =>
  if x5==x7 then
   chk (0≤s3∧s3≤(c0.length:Int)∧(c0.length:Int)≤(c0.length:Int)) >>= fun u10 =>
   (iter (z2q c0 s3) (c0,s3,1)) >>= fun s12 =>
   chk (0≤s12.2∧s12.2≤(s12.1.length:Int)∧(s12.1.length:Int)≤(s12.1.length:Int)) >>= fun u33 =>
   chk ((s12.2:Int).toNat+(((s12.1.length:Int):Int).toNat - (s12.2:Int).toNat)≤s12.1.length) >>= fun u35 =>
   cut (clr s12.1 ((s12.2:Int).toNat) (((s12.1.length:Int):Int).toNat - (s12.2:Int).toNat) []) 0 s12.2 >>= fun x37 =>
   some (.inl (.inl x37))
  else
   some (.inr (w64 (s3+1)))
 else
  some (.inl (.inr ()))
def z4c (c0:List (List UInt8)):Option ((List (List UInt8))) :=
 if decide ((c0.length:Int)<2) then
  some c0
 else
  z67 (iter (z1k c0) 1) fun s2 =>
  some c0
theorem zb7 (p0:Value) (c0:List (List UInt8)):z1u Tryz.prog 103 [.val p0] [(1,some (p0,.list z3q 9 c0))] (z4c c0) (fun r nv=>⟨[.val (nv 0)],[(100,some (nv 0,.list z3q 9 r))]⟩):=by
 refine z2f 61 Tryz.func103 Z Z Z fun H w=>?_;refine gSR<|Zb Z<|z0q<|gSR<|Zm Z<|Zq (z4f Z (.own 1 Z) Z tu41)<|Zq (I.lss Z Z)<|Zj Z (fun h1=>?_) (fun h1=>?_)
 ·refine gSR<|Zm Z<|Zb Z<|z0k<|z0v<|Ze [p0] [1] Z
 ·refine Zt<|z8i (fun (s2:Unit) aa ww=>Sta (ctx 61 H [(1,some (p0,.list z3q 9 c0))] w) [(0,.val p0)] [(1,some (p0,.list z3q 9 c0))] aa ww) ?_ (fun s2=>?_)
  ·refine gSR<|Zb Z<|z29 (fun (s3:Int) aa ww=>Sta (ctx 61 H [(1,some (p0,.list z3q 9 c0))] w) [(0,.val p0),(3,.rd z08 s3)] [(1,some (p0,.list z3q 9 c0))] aa ww) (fun aa ww h=>Zu h [1]) (fun s3=>?_);refine z0q<|gSR<|Zm Z<|Zm Z<|Zq (z4f Z (.own 1 Z) Z tu41)<|Zq (I.lss Z Z)<|Zj Z (fun h4=>?_) (fun h4=>?_)
   ·refine Zt<|z0q<|z5f<|z0q<|zhp mixed (by kernel_rfl)<|Rq Z (mv Z)<|Rq Z (mv Z)<|z6z fun x5 h6=>Rq Z (ixO 1 Z Z Z h6 tu41 ti9)<|Rq Z (ld 1 Z Z (Foc.el h6) ty9 Z)<|Rq Z (mv Z)<|Rq Z (mv Z)<|Rq Z (I.sub Z Z)<|z6z fun x7 h8=>Rq Z (ixO 1 Z Z Z h8 tu41 ti9)<|Rq Z (ld 1 Z Z (Foc.el h8) ty9 Z)<|Rq Z (eqS Z Z)<|zng<|z0m<|gIf Z Z (fun h9=>?_) (fun h9=>?_)
    ·refine gSR<|Zm Z<|Zm Z<|z0t fun u10 h11=>Zq (z12y 1 Z Z (.to Z) .no (z5h h11) tu41 ti9)<|Zb Z<|z7r (fun (s12:(List (List UInt8)) × Int) aa ww=>Sta (ctx 61 H [(1,some (p0,.list z3q 9 c0))] w) [(0,.val p0),(3,.rd z08 s12.2)] [(1,some (p0,.list z3q 9 s12.1))] aa ww) ?_ (fun s12=>?_)
     ·refine gSR<|Zb Z<|z29 (fun (s13:(List (List UInt8)) × Int × Int) aa ww=>Sta (ctx 61 H [(1,some (p0,.list z3q 9 c0))] w) [(0,.val p0),(3,.rd z08 s13.2.1),(4,.sub z3q.sz p0 ((s3:Int).toNat) (((c0.length:Int):Int).toNat - (s3:Int).toNat)),(5,.rd z08 s13.2.2)] [(1,some (p0,.list z3q 9 s13.1))] aa ww) (fun aa ww h=>Zu h [1]) (fun s13=>?_);refine z0q<|gSR<|Zm Z<|Zm Z<|Zq (z175 Z Z tu41)<|Zq (I.lss Z Z)<|Zj Z (fun h14=>?_) (fun h14=>?_)
      ·refine Zt<|z0q<|z5f<|z0q<|zhp mixed (by kernel_rfl)<|Rq Z (mv Z)<|Rq Z (mv Z)<|z6z fun q15 h16=>z6z fun x17 h18=>Rq Z (ixSu 1 Z Z Z h16 tu41 ti9)<|Rq Z (ld 1 Z Z (Foc.el h18) ty9 Z)<|Rq Z (mv Z)<|Rq Z (mv Z)<|Rq Z (I.sub Z Z)<|z6z fun q19 h20=>z6z fun x21 h22=>Rq Z (ixSu 1 Z Z Z h20 tu41 ti9)<|Rq Z (ld 1 Z Z (Foc.el h22) ty9 Z)<|Rq Z (neS Z Z)<|zng<|z0m<|gIf Z Z (fun h23=>?_) (fun h23=>?_)
       ·refine gSR<|Zm Z<|Zm Z<|Zm Z<|Zm Z<|z0t fun q24 h25=>z0t fun x26 h27=>Zq (ixSu 1 Z Z Z h25 tu41 ti9)<|Zq (ld 1 Z Z (Foc.el h27) ty9 Z)<|z0t fun x28 h29=>Zq (ixO 1 Z Z Z h29 tu41 ti9)<|Es (sto 1 Z Z (Foc.el h29) Z ti9)<|Zn<|z2g<|Zm Z<|Zq (I.add Z Z)<|Za Z<|z27 3 Z fun y30=>z21<|z3l<|z0m<|z2g<|Zm Z<|Zq (I.add Z Z)<|Za Z<|z27 5 Z fun y31=>z21<|z1m (fun aa ww h=>Zu h [1])
       ·refine z38<|z3l<|z0m<|z2g<|Zm Z<|Zq (I.add Z Z)<|Za Z<|z27 5 Z fun y32=>z21<|z1m (fun aa ww h=>Zu h [1])
      ·refine z1z<|z10<|z14<|z3p (fun aa ww h=>Zu h [1])
     ·refine gSR<|Zm Z<|Zm Z<|z0t fun u33 h34=>Zq (z12y 1 Z Z (.to Z) .no (z5h h34) tu41 ti9)<|z0t fun u35 h36=>EsV (clrS 1 Z Z (z5h h36) Z tu41 ti9 Zr.str Z)<|Zn<|gSR<|Zm Z<|Zm Z<|z0t fun x37 h38=>Ef Z (cutO 1 Z Z Z h38 tu41 ti9) fun v39=>Zb Z<|z0k<|z4p<|z0v<|z8c<|z5n<|Ze [v39] [1] Z
    ·refine z38<|z3l<|z0m<|z2g<|Zm Z<|Zq (I.add Z Z)<|Za Z<|z21<|z1m (fun aa ww h=>Zu h [1])
   ·refine z1z<|z10<|z14<|z6x (fun aa ww h=>Zu h [1])
  ·refine gSR<|Zm Z<|Zb Z<|z0k<|Ze [p0] [1] Z
def z96 (a0:z2h) (s6:(List (List UInt8)) × Int):Option (Sum ((List (List UInt8))) ((List (List UInt8)) × Int)) :=
 if decide (s6.2<(a0.List.length:Int)) then
  idx a0.List s6.2 >>= fun x9 =>
  app 16 s6.1 [x9.Key] >>= fun x13 =>
  some (.inr (x13,w64 (s6.2+1)))
 else
  some (.inl s6.1)
def zgm (a0:z2h):Option ((List (List UInt8)) × Int) :=
 zbe a0 >>= fun r2 =>
 if r2 != 0 then
  some ([],r2)
 else
  (iter (z96 a0) ([],0)) >>= fun s5 =>
  z4c s5 >>= fun r17 =>
  some (r17,0)
theorem zpn (a0:z2h):z1u Tryz.prog 55 [.rd z1w a0] [] (zgm a0) (fun r nv=>⟨[.val (nv 0),.rd z08 r.2],[(100,some (nv 0,.list z3q 9 r.1))]⟩):=by
 refine z2f 28 Tryz.func55 Z Z Z fun H w=>?_;refine gSR<|Eb Z (bx 1 Z) fun v1=>Za Z<|Zb Z<|z0q<|gSR<|Zq (ld 1 Z Z fH ty32 Z)<|Zc [] [] Tryz.func52 Z (ze6 _) fun r2 n3=>Zb Z<|gSR<|Zm Z<|Zq (I.neq Z Z)<|Zj Z (fun h4=>?_) (fun h4=>?_)
 ·refine gSR<|Zm Z<|Za Z<|Zb Z<|z0k<|z0v<|zwd z3q 9 2<|Ze [(.slice none 0 0)] [2] Z
 ·refine Zt<|gSR<|Zb Z<|z7r (fun (s5:(List (List UInt8))) aa ww=>∃ nv:Nat→Value,Sta (ctx 28 H [] w) [(5,.val (nv 0))] [(5,some ((nv 0),.list z3q 9 s5))] aa ww) ?_ (fun s5=>?_)
  ·refine gSR<|Zq (faB 1 Z Z Tryz.underlying32 Z (by exact ti30))<|Zq (ld 1 Z Z (fP (za1 _)) ty30 Z)<|Zq (z4f Z .rd Z Tryz.underlying30)<|Zm Z<|Zn<|zyo z3q 9 9<|z29 (fun (s6:(List (List UInt8)) × Int) aa ww=>∃ nv:Nat→Value,Sta (ctx 28 H [] w) [(5,.val (nv 0)),(14,.rd (z03 z1h) a0.List),(15,.rd z08 (a0.List.length:Int)),(16,.rd z08 s6.2)] [(8,some ((nv 0),.list z3q 9 s6.1))] aa ww) (fun aa ww h=>⟨nvl [(.slice none 0 0)],Zu h [9]⟩) (fun s6=>?_)
   refine gEx fun n7=>gSR<|Zq (I.lss Z Z)<|Zn<|z0q<|gIf Z Z (fun h8=>?_) (fun h8=>?_)
   ·refine Zt<|z0q<|z5f<|gSR<|z0t fun x9 h10=>Zq (ixR Z Z h10 Tryz.underlying30 zjg Z)<|Zq (ldR Z zvt)<|Eb Z (z5l 10 zjg (.zr (R:=z1h) (x:=(⟨[],(Vector.replicate 32 0)⟩:z11)) zvn)) fun v11=>Es (sto 10 Z Z fH Z zjg)<|Zn<|z2g<|Zm Z<|Zq (faB 10 Z Z Tryz.underlying103 Z (by exact ti9))<|Zq (ld 10 Z Z (fP (z89 _)) ty9 Z)<|Ef Z (lit (R:=z3q) ([x9.Key]:List (List UInt8)) 11 (pP Z Z<|pN) Z tu41 ti9 Z Z) fun v12=>z0t fun x13 h14=>Ef Z (apn 8 Z Z Z (.own 11 Z) h14 tu41 ti9 Z Z Z) fun v15=>Za Z<|z21<|z3l<|z0m<|z2g<|Zq (I.add Z Z)<|Zm Z<|z21<|z1m (fun aa ww h=>⟨nvl [v15],Zu h [8]⟩)
   ·refine z1z<|z10<|z14<|z3p (fun aa ww h=>⟨nvl [(n7 0)],Zu h [8]⟩)
  ·refine gEx fun n16=>gSR<|Zm Z<|Zc [5] [(100,12)] Tryz.func103 Z (zb7 _ _) fun r17 n18=>Za Z<|Zb Z<|z0k<|Ze [(n18 0)] [12] Z
def z1r (a0:List (List UInt8)) (a1:List UInt8) (s2:Int):Option (Sum (Sum Int Unit) Int) :=
 if decide (s2<(a0.length:Int)) then
  idx a0 s2 >>= fun x4 =>
  if a1==x4 then
   some (.inl (.inl s2))
  else
   some (.inr (w64 (s2+1)))
 else
  some (.inl (.inr ()))
def z61 (a0:List (List UInt8)) (a1:List UInt8):Option (Int) :=
 z67 (iter (z1r a0 a1) 0) fun s1 =>
 some (-1)
theorem zc5 (a0:List (List UInt8)) (a1:List UInt8):z1u Tryz.prog 104 [.rd (z03 z3q) a0,.rd z3q a1] [] (z61 a0 a1) (fun r nv=>⟨[.rd z08 r],[]⟩):=by
 refine z2f 19 Tryz.func104 Z Z Z fun H w=>?_;refine gSR<|Zb Z<|z8i (fun (s1:Unit) aa ww=>Sta (ctx 19 H [] w) [] [] aa ww) ?_ (fun s1=>?_)
 ·refine gSR<|Zm Z<|Zq (z4f Z .rd Z tu41)<|Zm Z<|Zn<|z29 (fun (s2:Int) aa ww=>Sta (ctx 19 H [] w) [(0,.rd (z03 z3q) a0),(1,.rd z3q a1),(7,.rd z08 (a0.length:Int)),(8,.rd z08 s2)] [] aa ww) (fun aa ww h=>Zu h []) (fun s2=>?_);refine gSR<|Zq (I.lss Z Z)<|Zn<|z0q<|gIf Z Z (fun h3=>?_) (fun h3=>?_)
  ·refine Zt<|z0q<|z5f<|gSR<|Zm Z<|Zb Z<|gSR<|Zm Z<|Zm Z<|Zm Z<|z0t fun x4 h5=>Zq (ixR Z Z h5 tu41 ti9 Z)<|Zq (ldR Z ty9)<|Zq (eqS Z Z)<|Zj Z (fun h6=>?_) (fun h6=>?_)
   ·refine gSR<|Zm Z<|Zb Z<|z0k<|z4p<|z0v<|z8c<|z5n<|Ze [] [] Z
   ·refine z38<|z3l<|z0m<|z2g<|Zq (I.add Z Z)<|Zm Z<|z21<|z1m (fun aa ww h=>Zu h [])
  ·refine z1z<|z10<|z14<|z6x (fun aa ww h=>Zu h [])
 ·refine gSR<|Zb Z<|z0k<|Ze [] [] Z
def z3y (a0:List (List UInt8)) (a1:List UInt8):Option (Bool) :=
 z61 a0 a1 >>= fun r1 =>
 some (decide (0≤r1)) >>= fun y3 =>
 some y3
theorem zay (a0:List (List UInt8)) (a1:List UInt8):z1u Tryz.prog 56 [.rd (z03 z3q) a0,.rd z3q a1] [] (z3y a0 a1) (fun r nv=>⟨[.rd z09 r],[]⟩):=by
 refine z2f 9 Tryz.func56 Z Z Z fun H w=>?_;refine gSR<|Zb Z<|gSR<|Zm Z<|Zm Z<|Zc [] [] Tryz.func104 Z (zc5 _ _) fun r1 n2=>Zq (I.geq Z Z)<|Za Z<|z27 4 Z fun y3=>Zn<|z0k<|Ze [] [] Z
def zix (a0:z2h) (a1:List UInt8):Option (Bool × Int) :=
 zgm a0 >>= fun r2 =>
 z3y r2.1 a1 >>= fun r4 =>
 some (r4,r2.2)
theorem zr2 (a0:z2h) (a1:List UInt8):z1u Tryz.prog 27 [.rd z1w a0,.rd z3q a1] [] (zix a0 a1) (fun r nv=>⟨[.rd z09 r.1,.rd z08 r.2],[]⟩):=by
 refine z2f 17 Tryz.func27 Z Z Z fun H w=>?_;refine gSR<|Eb Z (bx 1 Z) fun v1=>Za Z<|Zb Z<|gSR<|Zq (ld 1 Z Z fH ty32 Z)<|Zc [] [(100,2)] Tryz.func55 Z (zpn _) fun r2 n3=>Zm Z<|Zq (ext Z Z)<|Zq (ext Z Z)<|Za Z<|Zb Z<|gSR<|Zm Z<|Zm Z<|zl7 2 [11,6,13] Z (fS Z<|fS Z<|fS Z<|fN)<|Zc [] [] Tryz.func56 Z (zay _ _) fun r4 n5=>Zm Z<|Za Z<|Zb Z<|z0k<|Ze [] [] Z
def zor (a0:z35) (a1:List UInt8):Option (z02 × Int) :=
 zed a0 >>= fun r3 =>
 if r3 != 0 then
  some ((⟨0,0,0,[]⟩:z02),r3)
 else
  z47 a0.List a1 >>= fun r6 =>
  if !r6.2 then
   some ((⟨0,0,0,[]⟩:z02),6)
  else
   idx a0.List r6.1 >>= fun x9 =>
   some (x9.Value,0)
theorem zvg (a0:z35) (a1:List UInt8):z1u Tryz.prog 28 [.rd z2b a0,.rd z3q a1] [] (zor a0 a1) (fun r nv=>⟨[.rd z0d r.1,.rd z08 r.2],[]⟩):=by
 refine z2f 31 Tryz.func28 Z Z Z fun H w=>?_;refine gSR<|Eb Z (bx 1 Z) fun v1=>Eb Z (z5l 2 zad (.zr (R:=z0d) (x:=(⟨0,0,0,[]⟩:z02)) zjt)) fun v2=>Zb Z<|z0q<|gSR<|Zq (ld 1 Z Z fH ty35 Z)<|Zc [] [] Tryz.func53 Z (zg9 _) fun r3 n4=>Zb Z<|gSR<|Zm Z<|Zq (I.neq Z Z)<|Zj Z (fun h5=>?_) (fun h5=>?_)
 ·refine gSR<|Zq (bld (x':=(⟨0,0,0,[]⟩:z02)) [(0,1),(1,1),(2,1),(3,1)] Tryz.underlying46 zad Z zjt Z (Bld.done Z))<|Zm Z<|Es (sto 2 Z Z fH Z zad)<|Zb Z<|z0k<|z0v<|zaz [] [] Z (eC 2 Z Z zh5<|eE Z<|eN) (rN)
 ·refine Zt<|gSR<|Zq (faB 1 Z Z Tryz.underlying35 Z (by exact ti33))<|Zq (ld 1 Z Z (fP (z82 _)) ty33 Z)<|Zm Z<|Zc [] [] Tryz.func57 Z (zd3 _ _) fun r6 n7=>Zm Z<|Zq (ext Z Z)<|Zq (ext Z Z)<|Za Z<|Zb Z<|z0q<|gSR<|Zm Z<|Zq (zgu Z)<|Zj Z (fun h8=>?_) (fun h8=>?_)
  ·refine gSR<|Zq (bld (x':=(⟨0,0,0,[]⟩:z02)) [(0,1),(1,1),(2,1),(3,1)] Tryz.underlying46 zad Z zjt Z (Bld.done Z))<|Es (sto 2 Z Z fH Z zad)<|Zb Z<|z0k<|z0v<|zaz [] [] Z (eC 2 Z Z zh5<|eE Z<|eN) (rN)
  ·refine Zt<|gSR<|Zq (faB 1 Z Z Tryz.underlying35 Z (by exact ti33))<|Zq (ld 1 Z Z (fP (z82 _)) ty33 Z)<|Zm Z<|z0t fun x9 h10=>Zq (ixR Z Z h10 tu33 zfp Z)<|Zq (faR Z (zbw _) Tryz.underlying125 Z Z (by exact zad))<|Zq (ldR Z zh5)<|Es (sto 2 Z Z fH Z zad)<|Zb Z<|z0k<|zaz [] [] Z (eC 2 Z Z zh5<|eE Z<|eN) (rN)
def zj5 (a0:z3n) (a1:List UInt8):Option (Bool × z02 × Int) :=
 zgs a0 >>= fun r3 =>
 if r3 != 0 then
  some (false,(⟨0,0,0,[]⟩:z02),r3)
 else
  zix a0.Set a1 >>= fun r6 =>
  zor a0.Regs a1 >>= fun r8 =>
  some (r6.1,r8.1,0)
theorem zqc (a0:z3n) (a1:List UInt8):z1u Tryz.prog 10 [.rd z2r a0,.rd z3q a1] [] (zj5 a0 a1) (fun r nv=>⟨[.rd z09 r.1,.rd z0d r.2.1,.rd z08 r.2.2],[]⟩):=by
 refine z2f 30 Tryz.func10 Z Z Z fun H w=>?_;refine gSR<|Eb Z (bx 1 Z) fun v1=>Za Z<|Eb Z (z5l 2 zad (.zr (R:=z0d) (x:=(⟨0,0,0,[]⟩:z02)) zjt)) fun v2=>Zb Z<|z0q<|gSR<|Zq (ld 1 Z Z fH ty37 Z)<|Zc [] [] Tryz.func26 Z (zpp _) fun r3 n4=>Zb Z<|gSR<|Zm Z<|Zq (I.neq Z Z)<|Zj Z (fun h5=>?_) (fun h5=>?_)
 ·refine gSR<|Zq (bld (x':=(⟨0,0,0,[]⟩:z02)) [(0,1),(1,1),(2,1),(3,1)] Tryz.underlying46 zad Z zjt Z (Bld.done Z))<|Zm Z<|Za Z<|Es (sto 2 Z Z fH Z zad)<|Zb Z<|z0k<|z0v<|zaz [] [] Z (eE Z<|eC 2 Z Z zh5<|eE Z<|eN) (rN)
 ·refine Zt<|gSR<|Zq (faB 1 Z Z Tryz.underlying37 Z (by exact zxk))<|Zq (ld 1 Z Z (fP (zc3 _)) ty32 Z)<|Zm Z<|Zc [] [] Tryz.func27 Z (zr2 _ _) fun r6 n7=>Zm Z<|Zq (ext Z Z)<|Zq (ext Z Z)<|Zb Z<|gSR<|Zq (faB 1 Z Z Tryz.underlying37 Z (by exact zzs))<|Zq (ld 1 Z Z (fP (zbd _)) ty35 Z)<|Zm Z<|Zc [] [] Tryz.func28 Z (zvg _ _) fun r8 n9=>Zm Z<|Zq (ext Z Z)<|Zq (ext Z Z)<|Es (sto 2 Z Z fH Z zad)<|Zn<|z0q<|z6l [2] mixed Z Z<|hTk 0 Z Z (mv Z)<|hTk 2 Z Z (asg Z)<|hRun 1 Z (by kernel_rfl) (gd0 Z) Z Z anyJ (ld 2 Z Z fH zh5 Z)<|Zp 3 Z Z Z Z Z (sto 2 Z Z fH Z zad)<|hTk 4 Z Z (asg Z)<|z3e (by kernel_rfl)<|z0m<|z0k<|zaz [] [] Z (eE Z<|eC 2 Z Z zh5<|eE Z<|eN) (rN)
end
end Go.Proofs.YtcneilabmjkdlabGreatDoor
