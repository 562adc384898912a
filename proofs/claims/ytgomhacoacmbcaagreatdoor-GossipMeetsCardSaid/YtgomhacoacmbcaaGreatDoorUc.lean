import Derived.Test.YtgomhacoacmbcaaGreatDoorUb
set_option linter.unusedSimpArgs false
set_option linter.unusedVariables false
namespace Go.Proofs.YtgomhacoacmbcaaGreatDoor
set_option maxRecDepth 100000
set_option maxHeartbeats 4000000
open Go Go.RowKit _root_.Go.Proofs.Tryz
section
def Oj (a0:List UInt8) (M:List UInt8):Option (Int) :=
 some (Lib.compareBytes a0 M)>>=λy1 =>
 some y1
theorem YI (a0:List UInt8) (M:List UInt8):Aj Tryz.prog 68 [.rd (A3 u8R) a0,.rd (A3 u8R) M] [] (Oj a0 M) (λr nv=>⟨[.rd A2 r],[]⟩):=by
 refine Aq 8 func68 Z Z Z λH w=>?_;refine A0<|Zb Z<|A0<|Zm Z<|Zm Z<|Zq (cmpB Z Z func110 Z Z (by kernel_rfl) (by kernel_rfl))<|Za Z<|AR 4 Z λy1=>Zn<|A5<|Ze [] [] Z
def Fz (a0:V3) (M:V3):Option (Int) :=
 Oj a0.toList M.toList>>=λO =>
 some O
theorem Ig (a0:V3) (M:V3):Aj Tryz.prog 44 [.rd aZ a0,.rd aZ M] [] (Fz a0 M) (λr nv=>⟨[.rd A2 r],[]⟩):=by
 refine Aq 8 func44 Z Z Z λH w=>?_;refine A0<|Eb Z (bx 1 Z) λv1=>Eb Z (bx 2 Z) λv2=>Zb Z<|A9<|Sd 1 2 Z Z<|Sd 2 3 Z Z<|BK [] mixed Z Z<|A6 0 Z Z (cutV Z tu61 ti5 Z Z Z)<|A6 1 Z Z (cutV Z tu61 ti5 Z Z Z)<|BH 2 [] [] Z (by kernel_rfl) Z (gd0 Z) Z func68 Z Z (YI _ _) (Y2 Z Z) rN Z (λ_ _=>Cr) λr3 n4=>A6 3 Z Z (asg Z)<|Bg (by kernel_rfl)<|Ak<|A5<|Ze [] [] Z
def DN (a0:List V3):Option ((List V3)) :=
 app 32 ([]:List V3) a0>>=λM =>
 some M
theorem EM (a0:List V3):Aj Tryz.prog 25 [.rd (A3 aZ) a0] [] (DN a0) (λr M=>⟨[.val (M 0)],[(100,some (M 0,.list aZ 61 r))]⟩):=by
 refine Aq 8 func25 Z Z Z λH w=>?_;refine A0<|Zb Z<|A9<|A0<|Zm Z<|Lr Z Z .rd Z tu31 (λh1=>?_) ?_
 ·subst h1;refine Zn<|Dm Z<|A0<|Zb Z<|A5<|Ap<|Cq aZ 61 1<|Ze [(.slice none 0 0)] [1] Z
 ·refine Zn<|DL Z<|Zt<|A0<|Ef Z (lit (R:=aZ) (([]:List V3):List V3) 2 (pN) Z tu31 Ax Z Z) λv2=>Zm Z<|An λx3 O=>Ef Z (apn 2 Z Z Z .rd O tu31 Ax Z Z Z) λv5=>Zb Z<|A5<|Ze [v5] [2] Z
def Ey (a0:UInt64) (O:List UInt32) (M:UInt64 × Int):Option (Sum UInt64 (UInt64 × Int)) :=
 if decide (M.2<(O.length:Int)) then
  idx O M.2>>=λU =>
  chk (a0≠0)>>=λu6 =>
  some ((M.1 * U.toUInt64) % a0)>>=λy8 =>
  some (.inr (y8,w64 (M.2+1)))
 else
  some (.inl M.1)
def FY (a0:UInt64) (M:List UInt32):Option (UInt32) :=
 (iter (Ey a0 M) (1,0))>>=λO =>
 some O.toUInt32
theorem LI (a0:UInt64) (a1:List UInt32):Aj Tryz.prog 130 [.rd Ao a0,.rd (A3 Aa) a1] [] (FY a0 a1) (λr nv=>⟨[.rd Aa r],[]⟩):=by
 refine Aq 23 func130 Z Z Z λH w=>?_;refine A0<|Zb Z<|A0<|Zb Z<|B6 (λ(s1:UInt64) M O=>Sta (ctx 23 H [] w) [(5,.rd Ao s1)] [] M O) ?_ (λs1=>?_)
 ·refine A0<|Zm Z<|Zq (Ar Z .rd Z tu203)<|Zm Z<|Zn<|AJ (λ(s2:UInt64 × Int) M O=>Sta (ctx 23 H [] w) [(0,.rd Ao a0),(5,.rd Ao s2.1),(8,.rd (A3 Aa) a1),(9,.rd A2 (a1.length:Int)),(10,.rd A2 s2.2)] [] M O) (λM O h=>Zu h []) (λs2=>?_);refine A0<|Zq (I.lss Z Z)<|Zn<|A9<|gIf Z Z (λh3=>?_) (λh3=>?_)
  ·refine Zt<|A9<|AD<|A0<|An λx4 h5=>Zq (ixR Z Z h5 tu203 B0 Z)<|Zq (ldR Z Be)<|Zb Z<|Al<|Zm Z<|Zm Z<|Zq (W.toU Z tu65 tu52)<|Zq (U.mul Z Z)<|Zm Z<|An λu6 h7=>Zq (U.rem Z Z (CI h7))<|Za Z<|AR 5 Z λy8=>Ah<|Au<|Ak<|Al<|Zq (I.add Z Z)<|Zm Z<|Ah<|AB (λM O h=>Zu h [])
  ·refine AF<|AG<|AI<|AA (λM O h=>Zu h [])
 ·refine A0<|Zm Z<|Zq (U.toW Z tu52 tu65)<|Zb Z<|A5<|Ze [] [] Z
def Ok (c0_0:UInt32):Option (UInt32) :=
 FY 1000000007 [c0_0,c0_0]>>=λM =>
 some M
theorem YJ (p0_0:Value) (c0_0:UInt32):Aj Tryz.prog 159 [.val (A7 p0_0 0)] [(1,some (p0_0,.box 65 [.rd Aa c0_0]))] (Ok c0_0) (λr nv=>⟨[],[(1,some (p0_0,.box 65 [.rd Aa r]))]⟩):=by
 refine Aq 5 func159 Z Z Z λH w=>?_;refine Al<|Zq (ld 1 Z Z fH Be Z)<|Zq (ld 1 Z Z fH Be Z)<|Ef Z (lit (R:=Aa) ([c0_0,c0_0]:List UInt32) 2 (pP Z Z<|pP Z Z<|pN) Z tu203 B0 Z Z) λv1=>BG 2 [3] Z (fS Z<|fN)<|Zc [] [] func130 Z (LI _ _) λr2 n3=>Es (sto 1 Z Z fH Z B0)<|Ah<|Ze [] [1] Z
def Jq (a0:UInt32) (a1:UInt64) (M:UInt32 × Int):Option (Sum UInt32 (UInt32 × Int)) :=
 if decide (M.2<64) then
  Ok M.1>>=λO =>
  chk (0<=w64 (63 - M.2))>>=λu7 =>
  if ((BZ a1 ((w64 (63 - M.2):Int).toNat)) &&& 1)==1 then
   FY 1000000007 [O,a0]>>=λU =>
   some (.inr (U,w64 (M.2+1)))
  else
   some (.inr (O,w64 (M.2+1)))
 else
  some (.inl M.1)
def Ih (a0:UInt32) (M:UInt64):Option (UInt32) :=
 (iter (Jq a0 M) (1,0))>>=λO =>
 some O
theorem Ol (a0:UInt32) (a1:UInt64):Aj Tryz.prog 120 [.rd Aa a0,.rd Ao a1] [] (Ih a0 a1) (λr nv=>⟨[.rd Aa r],[]⟩):=by
 refine Aq 26 func120 Z Z Z λH w=>?_;refine A0<|Zb Z<|A0<|Eb Z (AL 1 B0 (.zr (R:=Aa) (x:=0) (Zr.num Z))) λv1=>Es (sto 1 Z Z fH Z B0)<|Zn<|A0<|Zq (mkf mp0 (mp1 Z))<|Zb Z<|B6 (λ(s2:UInt32) M O=>Sta (ctx 26 H [] w) [(5,.val (A7 v1 0))] [(1,some (v1,.box 65 [.rd Aa s2]))] M O) ?_ (λs2=>?_)
 ·refine A0<|Zm Z<|Zn<|AJ (λ(s3:UInt32 × Int) M O=>Sta (ctx 26 H [] w) [(0,.rd Aa a0),(1,.rd Ao a1),(5,.val (A7 v1 0)),(6,.val (.func (.func 159) #[] #[A7 v1 0])),(9,.rd A2 s3.2)] [(1,some (v1,.box 65 [.rd Aa s3.1]))] M O) (λM O h=>Zu h [1]) (λs3=>?_);refine A0<|Zq (I.lss Z Z)<|Zn<|A9<|gIf Z Z (λh4=>?_) (λh4=>?_)
  ·refine Zt<|A9<|AD<|A0<|Zm Z<|Zb Z<|A0<|Zm Z<|DC [1] [(1,1)] (gd0 Z) Z Z func159 Z Z (YJ _ _) (aN) (cQ 1 Z<|cN) (y1 Z) λr5 n6=>Zn<|A0<|Zm Z<|Zm Z<|Zq (I.sub Z Z)<|An λu7 h8=>Zq (U.shr Z Z (CI h8))<|Zq (U.and Z Z)<|Zq (U.eql Z Z)<|Zj Z (λh9=>?_) (λh9=>?_)
   ·refine Al<|Zq (ld 1 Z Z fH Be Z)<|Zm Z<|Ef Z (lit (R:=Aa) ([r5,a0]:List UInt32) 2 (pP Z Z<|pP Z Z<|pN) Z tu203 B0 Z Z) λa2=>BG 2 [22] Z (fS Z<|fN)<|Zc [] [] func130 Z (LI _ _) λa6 a7=>Es (sto 1 Z Z fH Z B0)<|Ah<|Au<|Ak<|Al<|Zq (I.add Z Z)<|Zm Z<|Ah<|AB (λM O h=>Zu h [1])
   ·refine AU<|Au<|Ak<|Al<|Zq (I.add Z Z)<|Zm Z<|Ah<|AB (λM O h=>Zu h [1])
  ·refine AF<|AG<|AI<|AA (λM O h=>Zu h [1])
 ·refine A0<|Zq (ld 1 Z Z fH Be Z)<|Zb Z<|A5<|Ze [] [] Z
def Ii (a0:UInt32):Option (Bool) :=
 if decide (0<a0) then
  if decide (a0<1000000007) then
   Ih a0 500000003>>=λM =>
   some (M==1)
  else
   some false
 else
  some false
theorem Om (a0:UInt32):Aj Tryz.prog 122 [.rd Aa a0] [] (Ii a0) (λr nv=>⟨[.rd Ai r],[]⟩):=by
 refine Aq 14 func122 Z Z Z λH w=>?_;refine A0<|Zb Z<|A0<|Zm Z<|Zq (W.gtr Z Z)<|Zm Z<|AY 5 Z (λh1=>?_) (λh1=>?_)
 ·refine Ac 4 Z h1<|Ab Zx Z Z (mv Z)<|Ab Zx Z Z (W.lss Z Z)<|Zq (pkT Z Z)<|Zm Z<|AY 9 Z (λh2=>?_) (λh2=>?_)
  ·refine Ac 7 Z h2<|Ac 8 Z h2<|Ab Zx Z Z (mv Z)<|CH [] [] Zx Z func120 Z Z (Ol _ _) (Y2 Z Z) rN λr3 n4=>Ab Zx Z Z (W.eql Z Z)<|Zq (pkT Z Z)<|Zb Z<|A5<|Ze [] [] Z
  ·refine Ac 7 Z h2<|Ac 8 Z h2<|Zk Z<|Zk Z<|Zk Z<|Zq (pkF Z Z)<|Zb Z<|A5<|Ze [] [] Z
 ·refine Ac 4 Z h1<|Zk Z<|Zk Z<|Zq (pkF Z Z)<|Zm Z<|Zk Z<|Zk Z<|Zk Z<|Zq (pkF Z Z)<|Zb Z<|A5<|Ze [] [] Z
def LJ (a0:Int):Option (Bool) :=
 if decide (a0<33) then
  some true
 else
  some (decide (126<a0))>>=λM =>
  some M
theorem YK (a0:Int):Aj Tryz.prog 191 [.rd i32R a0] [] (LJ a0) (λr nv=>⟨[.rd Ai r],[]⟩):=by
 refine Aq 9 func191 Z Z Z λH w=>?_;refine A0<|Zb Z<|A0<|Zm Z<|Zq (J.lss Z Z)<|Zm Z<|AY 5 Z (λh1=>?_) (λh1=>?_)
 ·refine Ac 4 Z h1<|Zk Z<|Zk Z<|Zq (pkT Z Z)<|Zb Z<|A5<|Ze [] [] Z
 ·refine Ac 4 Z h1<|Ab Zx Z Z (mv Z)<|Ab Zx Z Z (J.gtr Z Z)<|Zq (pkF Z Z)<|Za Z<|AR 2 Z λy2=>Zn<|A5<|Ze [] [] Z
def Ij (a0:List UInt8) (O:Bool) (M:Nat):Option (Sum (Sum Int Unit) Nat) :=
 if M<(a0).length then
  some ((CZ a0 M).1:Int)>>=λU =>
  LJ U>>=λr6 =>
  if r6==O then
   some (.inl (.inl (M:Int)))
  else
   some (.inr (M+(CZ a0 M).2))
 else
  some (.inl (.inr ()))
def On (a0:List UInt8) (M:Bool):Option (Int) :=
 Bi (iter (Ij a0 M) 0) λs1 =>
 some (-1)
theorem YL (a0:List UInt8) (U:Bool):Aj Tryz.prog 206 [.rd CB a0,.val (.func (.func 191) #[] #[]),.rd Ai U] [] (On a0 U) (λr nv=>⟨[.rd A2 r],[]⟩):=by
 refine Aq 21 func206 Z Z Z λH w=>?_;refine A0<|Zb Z<|Bt (λ(s1:Unit) M O=>Sta (ctx 21 H [] w) [] [] M O) ?_ (λs1=>?_)
 ·refine A0<|Zm Z<|Ef Z (rng 1 Z tu9) λv2=>Zn<|AJ (λ(s3:Nat) M O=>Sta (ctx 21 H [] w) [(1,.val (.func (.func 191) #[] #[])),(2,.rd Ai U),(10,.val v2)] [(1,some (v2,.iter a0 s3))] M O) (λM O h=>Zu h [1]) (λs3=>?_);refine A0<|Sh 1 Z Z Z (λh4=>?_) (λh4=>?_)
  ·refine Zq (ext Z Z)<|Zn<|A9<|Dm Z<|Zt<|AD<|A0<|Zq (ext Z Z)<|Zq (ext Z Z)<|Za Z<|Za Z<|AR 8 Z λy5=>Zn<|A0<|Zm Z<|Zm Z<|DC [] [] (gd0 Z) Z Z func191 Z Z (YK _) (Y1 Z) (cN) rN λr6 n7=>Zm Z<|Zq (eqB underlying4 Z Z)<|Zj Z (λh8=>?_) (λh8=>?_)
   ·refine A0<|Zm Z<|Zb Z<|A5<|B7<|Bp<|Bl<|Ze [] [] Z
   ·refine AU<|Au<|AB (λM O h=>Zu h [1])
  ·refine Zq (ext Z Z)<|Zn<|A9<|DL Z<|AF<|AG<|AI<|Bk (λM O h=>Zu h [])
 ·refine A0<|Zb Z<|A5<|Ze [] [] Z
def Oo (a0:List UInt8):Option (Int) :=
 On a0 true>>=λM =>
 some M
theorem YM (a0:List UInt8):Aj Tryz.prog 190 [.rd CB a0,.val (.func (.func 191) #[] #[])] [] (Oo a0) (λr nv=>⟨[.rd A2 r],[]⟩):=by
 refine Aq 8 func190 Z Z Z λH w=>?_;refine A0<|Zb Z<|A0<|Zm Z<|Zm Z<|Zc [] [] func206 Z (YL _ _) λr1 n2=>Zb Z<|A5<|Ze [] [] Z
def Jr (a0:List UInt8):Option (Bool) :=
 if decide (1<=(a0.length:Int)) then
  if decide ((a0.length:Int)<=20) then
   Oo a0>>=λM =>
   some (decide (M<0))>>=λO =>
   some O
  else
   some false
 else
  some false
theorem SZ (a0:List UInt8):Aj Tryz.prog 160 [.rd CB a0] [] (Jr a0) (λr nv=>⟨[.rd Ai r],[]⟩):=by
 refine Aq 16 func160 Z Z Z λH w=>?_;refine A0<|Zb Z<|A0<|Zm Z<|Zq (lenT Z Z tu9)<|Zq (I.geq Z Z)<|Zm Z<|AY 6 Z (λh1=>?_) (λh1=>?_)
 ·refine Ac 5 Z h1<|Ab Zx Z Z (mv Z)<|Ab Zx Z Z (lenT Z Z tu9)<|Ab Zx Z Z (I.leq Z Z)<|Zq (pkT Z Z)<|Zm Z<|AY 11 Z (λh2=>?_) (λh2=>?_)
  ·refine Ac 9 Z h2<|Ac 10 Z h2<|Ab Zx Z Z (mv Z)<|CH [] [] Zx Z func190 Z Z (YM _) (Y2 Z Z) rN λr3 n4=>Ab Zx Z Z (I.lss Z Z)<|Zq (pkT Z Z)<|Za Z<|AR 2 Z λy5=>Zn<|A5<|Ze [] [] Z
  ·refine Ac 9 Z h2<|Ac 10 Z h2<|Zk Z<|Zk Z<|Zk Z<|Zq (pkF Z Z)<|Zb Z<|A5<|Ze [] [] Z
 ·refine Ac 5 Z h1<|Zk Z<|Zk Z<|Zk Z<|Zq (pkF Z Z)<|Zm Z<|Zk Z<|Zk Z<|Zk Z<|Zq (pkF Z Z)<|Zb Z<|A5<|Ze [] [] Z
def Oq (a0:Int):Option (Az) :=
 some (⟨1,a0,0,[]⟩:Az)
theorem YN (a0:Int):Aj Tryz.prog 162 [.rd A2 a0] [] (Oq a0) (λr nv=>⟨[.rd CQ r],[]⟩):=by
 refine Aq 5 func162 Z Z Z λH w=>?_;refine A0<|Eb Z (AL 1 CF (.zr (R:=CQ) (x:=(⟨0,0,0,[]⟩:Az)) EL)) λv1=>Zn<|A0<|Zm Z<|Zq (bld (x':=(⟨1,a0,0,[]⟩:Az)) [(0,1),(1,1),(2,1),(3,1)] underlying67 CF Z EL Z (Bld.cons (Fw _) Z Z<|Bld.cons (I8 _) Z Z<|Bld.done Z))<|Es (sto 1 Z Z fH Z CF)<|Zn<|A5<|Bu [] [] Z (eC 1 Z Z E5<|eN) (rN)
def LK (a0:UInt64):Option (Int × UInt64) :=
 some (andI (w64 ((BZ a0 52).toNat:Int)) 2047)>>=λy1 =>
 some (a0 &&& 4503599627370495)>>=λM =>
 some (y1,M)
theorem YO (a0:UInt64):Aj Tryz.prog 211 [.rd Ao a0] [] (LK a0) (λr nv=>⟨[.rd A2 r.1,.rd Ao r.2],[]⟩):=by
 refine Aq 10 func211 Z Z Z λH w=>?_;refine A0<|Za Z<|Zb Z<|A0<|Zm Z<|Zq (U.shr Z Z (Int.natCast_nonneg _))<|Zq (U.toI Z tu52 tu3)<|Zq (I.and Z Z)<|Zm Z<|Zq (U.and Z Z)<|Za Z<|AR 2 Z λy1=>Za Z<|AR 3 Z λy2=>Zn<|A5<|Ze [] [] Z
def LL (a0:UInt64):Option (UInt8) :=
 LK a0>>=λM =>
 (if M.1==2047 then
  some (M.2 != 0)
 else
  some false)>>=λO =>
 if O then
  some 5
 else
  if M.1==2047 then
   some 4
  else
   if M.1 != 0 then
    some 3
   else
    if M.2 != 0 then
     some 2
    else
     some 1
theorem YP (a0:UInt64):Aj Tryz.prog 207 [.rd Ao a0] [] (LL a0) (λr nv=>⟨[.rd u8R r],[]⟩):=by
 refine Aq 26 func207 Z Z Z λH w=>?_;refine A0<|Zb Z<|A0<|Zm Z<|Zc [] [] func211 Z (YO _) λr1 n2=>Zm Z<|Zq (ext Z Z)<|Zq (ext Z Z)<|Za Z<|Zb Z<|A9<|AD<|B6 (λ(s3:Bool) M O=>Sta (ctx 26 H [] w) [(3,.rd A2 r1.1),(4,.rd Ao r1.2),(10,.rd Ai s3)] [] M O) ?_ (λs3=>?_)
 ·refine Al<|Zm Z<|Zq (I.eql Z Z)<|Zm Z<|AY 13 Z (λh4=>?_) (λh4=>?_)
  ·refine Ac 12 Z h4<|Ab Zx Z Z (mv Z)<|Ab Zx Z Z (U.neq Z Z)<|Zq (pkT Z Z)<|Za Z<|Ah<|AA (λM O h=>Zu h [])
  ·refine Ac 12 Z h4<|Zk Z<|Zk Z<|Zq (pkF Z Z)<|Za Z<|Ah<|AA (λM O h=>Zu h [])
 ·refine gIf Z Z (λh5=>?_) (λh5=>?_)
  ·refine A0<|Zb Z<|A5<|B7<|Ap<|Ze [] [] Z
  ·refine A0<|Zm Z<|Zq (I.eql Z Z)<|Zb Z<|gIf Z Z (λh6=>?_) (λh6=>?_)
   ·refine gKn 19 Z h6<|A0<|Zb Z<|A5<|B7<|Ap<|Ze [] [] Z
   ·refine gKn 19 Z h6<|A0<|Zm Z<|Zq (I.neq Z Z)<|Zb Z<|gIf Z Z (λh7=>?_) (λh7=>?_)
    ·refine gKn 22 Z h7<|A0<|Zb Z<|A5<|B7<|Ap<|Ze [] [] Z
    ·refine gKn 22 Z h7<|A0<|Zm Z<|Zq (U.neq Z Z)<|Zb Z<|gIf Z Z (λh8=>?_) (λh8=>?_)
     ·refine gKn 25 Z h8<|A0<|Zb Z<|A5<|B7<|Ap<|Ze [] [] Z
     ·refine gKn 25 Z h8<|AU<|Au<|Ak<|A0<|Zb Z<|A5<|Ze [] [] Z
def LM (a0:UInt64):Option (UInt64) :=
 LL a0>>=λM =>
 if M==5 then
  some 9221120237041090560
 else
  some a0
theorem YQ (a0:UInt64):Aj Tryz.prog 192 [.rd Ao a0] [] (LM a0) (λr nv=>⟨[.rd Ao r],[]⟩):=by
 refine Aq 7 func192 Z Z Z λH w=>?_;refine A0<|Zb Z<|A9<|A0<|Zm Z<|Zc [] [] func207 Z (YP _) λr1 n2=>Zq (B.eql Z Z)<|Zj Z (λh3=>?_) (λh3=>?_)
 ·refine A0<|Zb Z<|A5<|Ap<|Ze [] [] Z
 ·refine Zt<|A0<|Zm Z<|Zb Z<|A5<|Ze [] [] Z
def LN (a0:UInt64):Option (Az) :=
 LM a0>>=λM =>
 some (⟨2,0,M,[]⟩:Az)
theorem YR (a0:UInt64):Aj Tryz.prog 163 [.rd Ao a0] [] (LN a0) (λr nv=>⟨[.rd CQ r],[]⟩):=by
 refine Aq 6 func163 Z Z Z λH w=>?_;refine A0<|Eb Z (AL 1 CF (.zr (R:=CQ) (x:=(⟨0,0,0,[]⟩:Az)) EL)) λv1=>Zn<|A0<|Zm Z<|Zc [] [] func192 Z (YQ _) λM n3=>Zq (bld (x':=(⟨2,0,M,[]⟩:Az)) [(0,1),(1,1),(2,1),(3,1)] underlying67 CF Z EL Z (Bld.cons (Fw _) Z Z<|Bld.cons (Gq _) Z Z<|Bld.done Z))<|Es (sto 1 Z Z fH Z CF)<|Zn<|A5<|Bu [] [] Z (eC 1 Z Z E5<|eN) (rN)
def LO (a0:Int):Option (Bool) :=
 if decide (a0<32) then
  some true
 else
  some (decide (126<a0))>>=λM =>
  some M
theorem YS (a0:Int):Aj Tryz.prog 193 [.rd i32R a0] [] (LO a0) (λr nv=>⟨[.rd Ai r],[]⟩):=by
 refine Aq 9 func193 Z Z Z λH w=>?_;refine A0<|Zb Z<|A0<|Zm Z<|Zq (J.lss Z Z)<|Zm Z<|AY 5 Z (λh1=>?_) (λh1=>?_)
 ·refine Ac 4 Z h1<|Zk Z<|Zk Z<|Zq (pkT Z Z)<|Zb Z<|A5<|Ze [] [] Z
 ·refine Ac 4 Z h1<|Ab Zx Z Z (mv Z)<|Ab Zx Z Z (J.gtr Z Z)<|Zq (pkF Z Z)<|Za Z<|AR 2 Z λy2=>Zn<|A5<|Ze [] [] Z
def Ik (a0:List UInt8) (O:Bool) (M:Nat):Option (Sum (Sum Int Unit) Nat) :=
 if M<(a0).length then
  some ((CZ a0 M).1:Int)>>=λU =>
  LO U>>=λr6 =>
  if r6==O then
   some (.inl (.inl (M:Int)))
  else
   some (.inr (M+(CZ a0 M).2))
 else
  some (.inl (.inr ()))
def Ot (a0:List UInt8) (M:Bool):Option (Int) :=
 Bi (iter (Ik a0 M) 0) λs1 =>
 some (-1)
theorem YT (a0:List UInt8) (U:Bool):Aj Tryz.prog 206 [.rd CB a0,.val (.func (.func 193) #[] #[]),.rd Ai U] [] (Ot a0 U) (λr nv=>⟨[.rd A2 r],[]⟩):=by
 refine Aq 21 func206 Z Z Z λH w=>?_;refine A0<|Zb Z<|Bt (λ(s1:Unit) M O=>Sta (ctx 21 H [] w) [] [] M O) ?_ (λs1=>?_)
 ·refine A0<|Zm Z<|Ef Z (rng 1 Z tu9) λv2=>Zn<|AJ (λ(s3:Nat) M O=>Sta (ctx 21 H [] w) [(1,.val (.func (.func 193) #[] #[])),(2,.rd Ai U),(10,.val v2)] [(1,some (v2,.iter a0 s3))] M O) (λM O h=>Zu h [1]) (λs3=>?_);refine A0<|Sh 1 Z Z Z (λh4=>?_) (λh4=>?_)
  ·refine Zq (ext Z Z)<|Zn<|A9<|Dm Z<|Zt<|AD<|A0<|Zq (ext Z Z)<|Zq (ext Z Z)<|Za Z<|Za Z<|AR 8 Z λy5=>Zn<|A0<|Zm Z<|Zm Z<|DC [] [] (gd0 Z) Z Z func193 Z Z (YS _) (Y1 Z) (cN) rN λr6 n7=>Zm Z<|Zq (eqB underlying4 Z Z)<|Zj Z (λh8=>?_) (λh8=>?_)
   ·refine A0<|Zm Z<|Zb Z<|A5<|B7<|Bp<|Bl<|Ze [] [] Z
   ·refine AU<|Au<|AB (λM O h=>Zu h [1])
  ·refine Zq (ext Z Z)<|Zn<|A9<|DL Z<|AF<|AG<|AI<|Bk (λM O h=>Zu h [])
 ·refine A0<|Zb Z<|A5<|Ze [] [] Z
def Ou (a0:List UInt8):Option (Int) :=
 Ot a0 true>>=λM =>
 some M
theorem YU (a0:List UInt8):Aj Tryz.prog 190 [.rd CB a0,.val (.func (.func 193) #[] #[])] [] (Ou a0) (λr nv=>⟨[.rd A2 r],[]⟩):=by
 refine Aq 8 func190 Z Z Z λH w=>?_;refine A0<|Zb Z<|A0<|Zm Z<|Zm Z<|Zc [] [] func206 Z (YT _ _) λr1 n2=>Zb Z<|A5<|Ze [] [] Z
def LP (a0:List UInt8):Option (Az × Int) :=
 if decide (30<(a0.length:Int)) then
  some ((⟨0,0,0,[]⟩:Az),4)
 else
  Ou a0>>=λM =>
  if decide (0<=M) then
   some ((⟨0,0,0,[]⟩:Az),8)
  else
   some ((⟨3,0,0,a0⟩:Az),0)
theorem YV (a0:List UInt8):Aj Tryz.prog 164 [.rd CB a0] [] (LP a0) (λr nv=>⟨[.rd CQ r.1,.rd A2 r.2],[]⟩):=by
 refine Aq 14 func164 Z Z Z λH w=>?_;refine A0<|Eb Z (AL 1 CF (.zr (R:=CQ) (x:=(⟨0,0,0,[]⟩:Az)) EL)) λv1=>Zb Z<|A9<|A0<|Zm Z<|Zq (lenT Z Z tu9)<|Zq (I.gtr Z Z)<|Zj Z (λh2=>?_) (λh2=>?_)
 ·refine A0<|Zq (bld (x':=(⟨0,0,0,[]⟩:Az)) [(0,1),(1,1),(2,1),(3,1)] underlying67 CF Z EL Z (Bld.done Z))<|Es (sto 1 Z Z fH Z CF)<|Zb Z<|A5<|Ap<|Bu [] [] Z (eC 1 Z Z E5<|eE Z<|eN) (rN)
 ·refine Zt<|A9<|A0<|Zm Z<|Zc [] [] func190 Z (YU _) λr3 n4=>Zq (I.geq Z Z)<|Zj Z (λM=>?_) (λM=>?_)
  ·refine A0<|Zq (bld (x':=(⟨0,0,0,[]⟩:Az)) [(0,1),(1,1),(2,1),(3,1)] underlying67 CF Z EL Z (Bld.done Z))<|Es (sto 1 Z Z fH Z CF)<|Zb Z<|A5<|Ap<|Bu [] [] Z (eC 1 Z Z E5<|eE Z<|eN) (rN)
  ·refine Zt<|A0<|Zm Z<|Zq (bld (x':=(⟨3,0,0,a0⟩:Az)) [(0,1),(1,1),(2,1),(3,1)] underlying67 CF Z EL Z (Bld.cons (Fw _) Z Z<|Bld.cons (FS _) Z Z<|Bld.done Z))<|Es (sto 1 Z Z fH Z CF)<|Zb Z<|A5<|Bu [] [] Z (eC 1 Z Z E5<|eE Z<|eN) (rN)
def Js (a0:Az):Option (Int) :=
 (if a0.Kind==1 then
  Oq a0.Num>>=λO =>
  some O
 else
  if a0.Kind==2 then
   LN a0.Bits>>=λU =>
   some U
  else
   if a0.Kind==3 then
    LP a0.Text>>=λM =>
    some M.1
   else
    some (⟨0,0,0,[]⟩:Az))>>=λs3 =>
 if !decide (a0=s3) then
  some 8
 else
  if a0.Kind==0 then
   some 8
  else
   some 0
theorem T0 (a0:Az):Aj Tryz.prog 127 [.rd CQ a0] [] (Js a0) (λr nv=>⟨[.rd A2 r],[]⟩):=by
 refine Aq 32 func127 Z Z Z λH w=>?_;refine A0<|Eb Z (bx 1 Z) λv1=>Zb Z<|A0<|Eb Z (AL 2 CF (.zr (R:=CQ) (x:=(⟨0,0,0,[]⟩:Az)) EL)) λv2=>Zn<|B6 (λ(s3:Az) M O=>Sta (ctx 32 H [] w) [(1,.val (A7 v1 0)),(3,.val (A7 v2 0))] [(1,some (v1,.box 67 [.rd CQ a0])),(2,some (v2,.box 67 [.rd CQ s3]))] M O) ?_ (λs3=>?_)
 ·refine A0<|Zq (faB 1 Z Z underlying67 Z (by exact ti5))<|Zq (ld 1 Z Z (fP (Fw _)) ty5 Z)<|Zn<|AD<|A0<|Zq (B.eql Z Z)<|Zb Z<|gIf Z Z (λh4=>?_) (λh4=>?_)
  ·refine gKn 7 Z h4<|Al<|Zq (faB 1 Z Z underlying67 Z (by exact ti2))<|Zq (ld 1 Z Z (fP (I8 _)) ty2 Z)<|Zc [] [] func162 Z (YN _) λr5 n6=>Es (sto 2 Z Z fH Z CF)<|Ah<|Au<|AA (λM O h=>Zu h [1,2])
  ·refine gKn 7 Z h4<|A0<|Zq (B.eql Z Z)<|Zb Z<|gIf Z Z (λh7=>?_) (λh7=>?_)
   ·refine gKn 12 Z h7<|Al<|Zq (faB 1 Z Z underlying67 Z (by exact CJ))<|Zq (ld 1 Z Z (fP (Gq _)) CU Z)<|Zc [] [] func163 Z (YR _) λr8 n9=>Es (sto 2 Z Z fH Z CF)<|Ah<|Au<|AA (λM O h=>Zu h [1,2])
   ·refine gKn 12 Z h7<|A0<|Zq (B.eql Z Z)<|Zb Z<|gIf Z Z (λU=>?_) (λU=>?_)
    ·refine gKn 17 Z U<|Al<|Zq (faB 1 Z Z underlying67 Z (by exact ti9))<|Zq (ld 1 Z Z (fP (FS _)) ty9 Z)<|Zc [] [] func164 Z (YV _) λa6 a7=>Zm Z<|Zq (ext Z Z)<|Zq (ext Z Z)<|Es (sto 2 Z Z fH Z CF)<|Ah<|Au<|AA (λM O h=>Zu h [1,2])
    ·refine gKn 17 Z U<|AU<|Au<|AA (λM O h=>Zu h [1,2])
 ·refine A9<|A0<|Zq (ld 1 Z Z fH E5 Z)<|Zq (ld 2 Z Z fH E5 Z)<|Zq (neA Z Z eq67 Z Z gq67)<|Zm Z<|AY 27 Z (λa1=>?_) (λa1=>?_)
  ·refine Ac 26 Z a1<|Zk Z<|Zk Z<|Zk Z<|Zq (pkT Z Z)<|Zn<|Dm Z<|A0<|Zb Z<|A5<|Ap<|Ze [] [] Z
  ·refine Ac 26 Z a1<|Ab Zx Z Z (faB 1 Z Z underlying67 Z (by exact ti5))<|Ab Zx Z Z (ld 1 Z Z (fP (Fw _)) ty5 Z)<|Ab Zx Z Z (B.eql Z Z)<|Zq (pkF Z Z)<|Zj Z (λa2=>?_) (λa2=>?_)
   ·refine gKn 30 Z a2<|A0<|Zb Z<|A5<|Ap<|Ze [] [] Z
   ·refine gKn 30 Z a2<|Zt<|A0<|Zb Z<|A5<|Ze [] [] Z
def LQ (a0:AP):Option (Int) :=
 if a0.Kind==1 then
  some (decide (a0=(⟨1,[],(⟨0,0,0,[]⟩:Az)⟩:AP)))>>=λy3 =>
  if !y3 then
   some 8
  else
   some 0
 else
  (if a0.Kind==2 then
   some true
  else
   some (a0.Kind==3))>>=λs5 =>
  if s5 then
   Jr a0.Key>>=λr8 =>
   if r8 then
    some (decide (a0.Value=(⟨0,0,0,[]⟩:Az)))>>=λM =>
    if !M then
     some 8
    else
     some 0
   else
    some 8
  else
   if a0.Kind==4 then
    Jr a0.Key>>=λO =>
    if O then
     Js a0.Value>>=λU =>
     if !(U==0) then
      some 8
     else
      some 0
    else
     some 8
   else
    some 8
theorem YW (a0:AP):Aj Tryz.prog 123 [.rd Ba a0] [] (LQ a0) (λr nv=>⟨[.rd A2 r],[]⟩):=by
 refine Aq 36 func123 Z Z Z λH w=>?_;refine A0<|Eb Z (bx 1 Z) λv1=>Zb Z<|A0<|Zb Z<|A9<|A0<|Zq (faB 1 Z Z underlying69 Z (by exact ti5))<|Zq (ld 1 Z Z (fP (EX _)) ty5 Z)<|Zn<|AD<|A0<|Zq (B.eql Z Z)<|Zb Z<|gIf Z Z (λh2=>?_) (λh2=>?_)
 ·refine gKn 7 Z h2<|Al<|Zq (ld 1 Z Z fH ty69 Z)<|Zq (bld (x':=(⟨1,[],(⟨0,0,0,[]⟩:Az)⟩:AP)) [(0,1),(1,1),(2,4)] underlying69 CP Z CR Z (Bld.cons (EX _) Z Z<|Bld.done Z))<|Zq (eqA Z Z eq69 Z Z gq69)<|Za Z<|AR 3 Z λy3=>Ah<|Au<|Ak<|A9<|A0<|Zm Z<|Zq (By Z)<|Zj Z (λh4=>?_) (λh4=>?_)
  ·refine A0<|Zb Z<|A5<|Ap<|Ze [] [] Z
  ·refine Zt<|A0<|Zb Z<|A5<|Ze [] [] Z
 ·refine gKn 7 Z h2<|B6 (λ(s5:Bool) aa ww=>Sta (ctx 36 H [] w) [(1,.val (A7 v1 0)),(3,.rd Ai false),(5,.rd u8R a0.Kind),(11,.rd Ai s5)] [(1,some (v1,.box 69 [.rd Ba a0]))] aa ww) ?_ (λs5=>?_)
  ·refine A0<|Zq (B.eql Z Z)<|Zb Z<|gIf Z Z (λh6=>?_) (λh6=>?_)
   ·refine gKn 12 Z h6<|AU<|AA (λaa ww h=>Zu h [1])
   ·refine gKn 12 Z h6<|Al<|Zq (B.eql Z Z)<|Za Z<|Ah<|AA (λaa ww h=>Zu h [1])
  ·refine gIf Z Z (λh7=>?_) (λh7=>?_)
   ·refine Al<|Zq (faB 1 Z Z underlying69 Z (by exact ti9))<|Zq (ld 1 Z Z (fP (Gr _)) ty9 Z)<|Zc [] [] func160 Z (SZ _) λr8 n9=>Zm Z<|AY 17 Z (λM=>?_) (λM=>?_)
    ·refine Ac 16 Z M<|Ab Zx Z Z (faB 1 Z Z underlying69 Z (by exact CF))<|Ab Zx Z Z (ld 1 Z Z (fP (Hc _)) E5 Z)<|Ab Zx Z Z (bld (x':=(⟨0,0,0,[]⟩:Az)) [(0,1),(1,1),(2,1),(3,1)] underlying67 CF Z EL Z (Bld.done Z))<|Ab Zx Z Z (eqA Z Z eq67 Z Z gq67)<|Zq (pkT Z Z)<|Za Z<|AR 3 Z λa6=>Ah<|Au<|Ak<|A9<|A0<|Zm Z<|Zq (By Z)<|Zj Z (λa1=>?_) (λa1=>?_)
     ·refine A0<|Zb Z<|A5<|Ap<|Ze [] [] Z
     ·refine Zt<|A0<|Zb Z<|A5<|Ze [] [] Z
    ·refine Ac 16 Z M<|Zk Z<|Zk Z<|Zk Z<|Zk Z<|Zq (pkF Z Z)<|Za Z<|Ah<|Au<|Ak<|A9<|A0<|Zm Z<|Zq (By Z)<|Zn<|Dm Z<|A0<|Zb Z<|A5<|Ap<|Ze [] [] Z
   ·refine A0<|Zq (B.eql Z Z)<|Zb Z<|gIf Z Z (λO=>?_) (λO=>?_)
    ·refine gKn 24 Z O<|Al<|Zq (faB 1 Z Z underlying69 Z (by exact ti9))<|Zq (ld 1 Z Z (fP (Gr _)) ty9 Z)<|Zc [] [] func160 Z (SZ _) λa7 a8=>Zm Z<|AY 28 Z (λU=>?_) (λU=>?_)
     ·refine Ac 27 Z U<|Ab Zx Z Z (faB 1 Z Z underlying69 Z (by exact CF))<|Ab Zx Z Z (ld 1 Z Z (fP (Hc _)) E5 Z)<|CH [] [] Zx Z func127 Z Z (T0 _) (Y1 Z) rN λab ac=>Ab Zx Z Z (I.eql Z Z)<|Zq (pkT Z Z)<|Za Z<|Ah<|Au<|Ak<|A9<|A0<|Zm Z<|Zq (By Z)<|Zj Z (λa2=>?_) (λa2=>?_)
      ·refine A0<|Zb Z<|A5<|Ap<|Ze [] [] Z
      ·refine Zt<|A0<|Zb Z<|A5<|Ze [] [] Z
     ·refine Ac 27 Z U<|Zk Z<|Zk Z<|Zk Z<|Zk Z<|Zq (pkF Z Z)<|Za Z<|Ah<|Au<|Ak<|A9<|A0<|Zm Z<|Zq (By Z)<|Zn<|Dm Z<|A0<|Zb Z<|A5<|Ap<|Ze [] [] Z
    ·refine gKn 24 Z O<|AU<|Au<|Ak<|A9<|A0<|Zm Z<|Zq (By Z)<|Zn<|Dm Z<|A0<|Zb Z<|A5<|Ap<|Ze [] [] Z
def Il (a0:List V3) (M:Int):Option (Sum (Sum Bool Unit) Int) :=
 if decide (0<M) then
  idx a0 M>>=λO =>
  idx a0 (w64 (M - 1))>>=λU =>
  Fz O U>>=λr9 =>
  if decide (r9<0) then
   some (.inl (.inl false))
  else
   some (.inr (w64 (M - 1)))
 else
  some (.inl (.inr ()))
def Jt (a0:List V3):Option (Bool) :=
 Bi (some (w64 ((a0.length:Int) - 1))>>=λM =>
 iter (Il a0) M) λs1 =>
 some true
theorem YX (a0:List V3):Aj Tryz.prog 121 [.rd (A3 aZ) a0,.val (.func (.func 44) #[] #[])] [] (Jt a0) (λr nv=>⟨[.rd Ai r],[]⟩):=by
 refine Aq 25 func121 Z Z Z λH w=>?_;refine A0<|Zb Z<|Bt (λ(s1:Unit) M O=>Sta (ctx 25 H [] w) [] [] M O) ?_ (λs1=>?_)
 ·refine A0<|Zm Z<|Zq (Ar Z .rd Z tu31)<|Zq (I.sub Z Z)<|Za Z<|AR 5 Z λy2=>Zn<|AJ (λ(U:Int) M O=>Sta (ctx 25 H [] w) [(0,.rd (A3 aZ) a0),(1,.val (.func (.func 44) #[] #[])),(5,.rd A2 U)] [] M O) (λM O h=>Zu h []) (λU=>?_);refine A9<|A0<|Zm Z<|Zq (I.gtr Z Z)<|Zj Z (λh4=>?_) (λh4=>?_)
  ·refine Zt<|A9<|AD<|A9<|BK [] mixed Z Z<|A6 0 Z Z (mv Z)<|A6 1 Z Z (mv Z)<|A6 2 Z Z (mv Z)<|BA λx5 h6=>A6 3 Z Z (ixR Z Z h6 tu31 Ax Z)<|A6 4 Z Z (ldR Z AN)<|A6 5 Z Z (mv Z)<|A6 6 Z Z (mv Z)<|A6 7 Z Z (I.sub Z Z)<|BA λx7 h8=>A6 8 Z Z (ixR Z Z h8 tu31 Ax Z)<|A6 9 Z Z (ldR Z AN)<|O2 10 [] [] Z (by kernel_rfl) Z (gd0 Z) Z func44 Z Z Z (Ig _ _) (Y2 Z Z) (cN) Z rN Z (λ_ _=>Cr) λr9 a2=>A6 11 Z Z (I.lss Z Z)<|Bg (by kernel_rfl)<|Ak<|gIf Z Z (λa1=>?_) (λa1=>?_)
   ·refine A0<|Zb Z<|A5<|B7<|Ap<|Bp<|Bl<|Ze [] [] Z
   ·refine AU<|Au<|Ak<|Al<|Zm Z<|Zq (I.sub Z Z)<|Za Z<|Ah<|AB (λM O h=>Zu h [])
  ·refine AF<|AG<|AI<|Bk (λM O h=>Zu h [])
 ·refine A0<|Zb Z<|A5<|Ze [] [] Z
def FZ (c0:List V3) (O:Int) (M:(List V3) × Int × Int):Option (Sum ((List V3) × Int) ((List V3) × Int × Int)) :=
 if decide (M.2.2<((((c0.length:Int):Int).toNat - (O:Int).toNat:Nat):Int)) then
  subi ((O:Int).toNat) (((c0.length:Int):Int).toNat - (O:Int).toNat) M.2.2>>=λU =>
  idx M.1 (U:Int)>>=λa1 =>
  subi ((O:Int).toNat) (((c0.length:Int):Int).toNat - (O:Int).toNat) (w64 (M.2.2 - 1))>>=λa2 =>
  idx M.1 (a2:Int)>>=λa6 =>
  if !decide (a1=a6) then
   subi ((O:Int).toNat) (((c0.length:Int):Int).toNat - (O:Int).toNat) M.2.2>>=λa7 =>
   idx M.1 (a7:Int)>>=λa8 =>
   idx M.1 M.2.1>>=λad =>
   some (w64 (M.2.1+1))>>=λaa =>
   some (w64 (M.2.2+1))>>=λab =>
   some (.inr (M.1.set (M.2.1:Int).toNat a8,aa,ab))
  else
   some (w64 (M.2.2+1))>>=λac =>
   some (.inr (M.1,M.2.1,ac))
 else
  some (.inl (M.1,M.2.1))
def Ez (c0:List V3) (O:Int):Option (Sum (Sum ((List V3)) Unit) Int) :=
 if decide (O<(c0.length:Int)) then
  idx c0 O>>=λx5 =>
  idx c0 (w64 (O - 1))>>=λx7 =>
  if decide (x5=x7) then
   chk (0<=O/\O<=(c0.length:Int)/\(c0.length:Int)<=(c0.length:Int))>>=λa1 =>
   (iter (FZ c0 O) (c0,O,1))>>=λM =>
   chk (0<=M.2/\M.2<=(M.1.length:Int)/\(M.1.length:Int)<=(M.1.length:Int))>>=λa2 =>
   chk ((M.2:Int).toNat+(((M.1.length:Int):Int).toNat - (M.2:Int).toNat)<=M.1.length)>>=λa6 =>
   cut (clr M.1 ((M.2:Int).toNat) (((M.1.length:Int):Int).toNat - (M.2:Int).toNat) (Vector.replicate 32 0)) 0 M.2>>=λU =>
   some (.inl (.inl U))
  else
   some (.inr (w64 (O+1)))
 else
  some (.inl (.inr ()))
def F0 (c0:List V3):Option ((List V3)) :=
 if decide ((c0.length:Int)<2) then
  some c0
 else
  Bi (iter (Ez c0) 1) λs2 =>
  some c0
theorem Ju (M:Value) (c0:List V3):Aj Tryz.prog 80 [.val M] [(1,some (M,.list aZ 61 c0))] (F0 c0) (λr nv=>⟨[.val (nv 0)],[(100,some (nv 0,.list aZ 61 r))]⟩):=by
 refine Aq 61 func80 Z Z Z λH w=>?_;refine A0<|Zb Z<|A9<|A0<|Zm Z<|Zq (Ar Z (.own 1 Z) Z tu31)<|Zq (I.lss Z Z)<|Zj Z (λh1=>?_) (λh1=>?_)
 ·refine A0<|Zm Z<|Zb Z<|A5<|Ap<|Ze [M] [1] Z
 ·refine Zt<|Bt (λ(s2:Unit) O U=>Sta (ctx 61 H [(1,some (M,.list aZ 61 c0))] w) [(0,.val M)] [(1,some (M,.list aZ 61 c0))] O U) ?_ (λs2=>?_)
  ·refine A0<|Zb Z<|AJ (λ(s3:Int) O U=>Sta (ctx 61 H [(1,some (M,.list aZ 61 c0))] w) [(0,.val M),(3,.rd A2 s3)] [(1,some (M,.list aZ 61 c0))] O U) (λO U h=>Zu h [1]) (λs3=>?_);refine A9<|A0<|Zm Z<|Zm Z<|Zq (Ar Z (.own 1 Z) Z tu31)<|Zq (I.lss Z Z)<|Zj Z (λh4=>?_) (λh4=>?_)
   ·refine Zt<|A9<|AD<|A9<|Dr mixed (by kernel_rfl)<|Rq Z (mv Z)<|Rq Z (mv Z)<|BM λx5 h6=>Rq Z (ixO 1 Z Z Z h6 tu31 Ax)<|Rq Z (ld 1 Z Z (Foc.el h6) AN Z)<|Rq Z (mv Z)<|Rq Z (mv Z)<|Rq Z (I.sub Z Z)<|BM λx7 h8=>Rq Z (ixO 1 Z Z Z h8 tu31 Ax)<|Rq Z (ld 1 Z Z (Foc.el h8) AN Z)<|Rq Z (eqA Z Z eq61 Z Z gq61)<|Ds<|Ak<|gIf Z Z (λh9=>?_) (λh9=>?_)
    ·refine A0<|Zm Z<|Zm Z<|An λao a7=>Zq (Ie 1 Z Z (.to Z) .no (CI a7) tu31 Ax)<|Zb Z<|B6 (λ(a2:(List V3) × Int) O U=>Sta (ctx 61 H [(1,some (M,.list aZ 61 c0))] w) [(0,.val M),(3,.rd A2 a2.2)] [(1,some (M,.list aZ 61 a2.1))] O U) ?_ (λa2=>?_)
     ·refine A0<|Zb Z<|AJ (λ(a1:(List V3) × Int × Int) O U=>Sta (ctx 61 H [(1,some (M,.list aZ 61 c0))] w) [(0,.val M),(3,.rd A2 a1.2.1),(4,.sub aZ.sz M ((s3:Int).toNat) (((c0.length:Int):Int).toNat - (s3:Int).toNat)),(5,.rd A2 a1.2.2)] [(1,some (M,.list aZ 61 a1.1))] O U) (λO U h=>Zu h [1]) (λa1=>?_);refine A9<|A0<|Zm Z<|Zm Z<|Zq (Yz Z Z tu31)<|Zq (I.lss Z Z)<|Zj Z (λa8=>?_) (λa8=>?_)
      ·refine Zt<|A9<|AD<|A9<|Dr mixed (by kernel_rfl)<|Rq Z (mv Z)<|Rq Z (mv Z)<|BM λap ab=>BM λaq ac=>Rq Z (ixSu 1 Z Z Z ab tu31 Ax)<|Rq Z (ld 1 Z Z (Foc.el ac) AN Z)<|Rq Z (mv Z)<|Rq Z (mv Z)<|Rq Z (I.sub Z Z)<|BM λar ad=>BM λav ae=>Rq Z (ixSu 1 Z Z Z ad tu31 Ax)<|Rq Z (ld 1 Z Z (Foc.el ae) AN Z)<|Rq Z (neA Z Z eq61 Z Z gq61)<|Ds<|Ak<|gIf Z Z (λaf=>?_) (λaf=>?_)
       ·refine A0<|Zm Z<|Zm Z<|Zm Z<|Zm Z<|An λaw ah=>An λax ai=>Zq (ixSu 1 Z Z Z ah tu31 Ax)<|Zq (ld 1 Z Z (Foc.el ai) AN Z)<|An λay a6=>Zq (ixO 1 Z Z Z a6 tu31 Ax)<|Es (sto 1 Z Z (Foc.el a6) Z Ax)<|Zn<|Al<|Zm Z<|Zq (I.add Z Z)<|Za Z<|AR 3 Z λaz=>Ah<|Au<|Ak<|Al<|Zm Z<|Zq (I.add Z Z)<|Za Z<|AR 5 Z λb0=>Ah<|AB (λO U h=>Zu h [1])
       ·refine AU<|Au<|Ak<|Al<|Zm Z<|Zq (I.add Z Z)<|Za Z<|AR 5 Z λb1=>Ah<|AB (λO U h=>Zu h [1])
      ·refine AF<|AG<|AI<|AA (λO U h=>Zu h [1])
     ·refine A0<|Zm Z<|Zm Z<|An λb2 aj=>Zq (Ie 1 Z Z (.to Z) .no (CI aj) tu31 Ax)<|An λb3 ak=>EsV (clrS 1 Z Z (CI ak) Z tu31 Ax C0 Z)<|Zn<|A0<|Zm Z<|Zm Z<|An λb4 am=>Ef Z (cutO 1 Z Z Z am tu31 Ax) λv39=>Zb Z<|A5<|B7<|Ap<|Bp<|Bl<|Ze [v39] [1] Z
    ·refine AU<|Au<|Ak<|Al<|Zm Z<|Zq (I.add Z Z)<|Za Z<|Ah<|AB (λO U h=>Zu h [1])
   ·refine AF<|AG<|AI<|Bk (λO U h=>Zu h [1])
  ·refine A0<|Zm Z<|Zb Z<|A5<|Ze [M] [1] Z
def Hh (a0:Ae):Option (Int) :=
 some (decide (4<(a0.Preds.length:Int)))>>=λy2 =>
 if y2 then
  some 4
 else
  (Jt a0.Preds>>=λr5 =>
  if !r5 then
   some true
  else
   DN a0.Preds>>=λr8 =>
   F0 r8>>=λM =>
   some ((M.length:Int) != (a0.Preds.length:Int))>>=λO =>
   some O)>>=λs4 =>
  if s4 then
   some 32
  else
   (Ii a0.Author>>=λU =>
   if !U then
    some true
   else
    if decide (1000000000000<a0.Stamp) then
     some true
    else
     some (decide (500000003<=(max a0.Sig.E a0.Sig.S)))>>=λa1 =>
     some a1)>>=λa2 =>
   if a2 then
    some 8
   else
    LQ a0.Act>>=λa6 =>
    some a6
theorem Ov (a0:Ae):Aj Tryz.prog 91 [.rd Ad a0] [] (Hh a0) (λr nv=>⟨[.rd A2 r],[]⟩):=by
 refine Aq 47 func91 Z Z Z λH w=>?_;refine A0<|Eb Z (bx 1 Z) λv1=>Zb Z<|A9<|AD<|A0<|Zq (faB 1 Z Z underlying73 Z (by exact B2))<|Zq (ld 1 Z Z (fP (Cv _)) B8 Z)<|Zq (Ar Z .rd Z tu31)<|Zq (I.gtr Z Z)<|Za Z<|AR 3 Z λy2=>Zj Z (λh3=>?_) (λh3=>?_)
 ·refine A0<|Zb Z<|A5<|B7<|Ap<|Ze [] [] Z
 ·refine B6 (λ(s4:Bool) M O=>Sta (ctx 47 H [] w) [(1,.val (A7 v1 0)),(8,.rd Ai s4)] [(1,some (v1,.box 73 [.rd Ad a0]))] M O) ?_ (λs4=>?_)
  ·refine BK [23,26] mixed Z Z<|A6 0 Z Z (faB 1 Z Z underlying73 Z (by exact B2))<|A6 1 Z Z (ld 1 Z Z (fP (Cv _)) B8 Z)<|BH 2 [] [] Z (by kernel_rfl) Z (gd0 Z) Z func121 Z Z (YX _) (Y2 Z Z) rN Z (λ_ _=>DD) λr5 n6=>A6 3 Z Z (By Z)<|A6 4 Z Z (mv Z)<|hIf 13 Z Z (λh7=>?_) (λh7=>?_)
   ·refine hKn 12 Z Z h7<|hSk 5 Z Z<|hSk 6 Z Z<|hSk 7 Z Z<|hSk 8 Z Z<|hSk 9 Z Z<|hSk 10 Z Z<|hSk 11 Z Z<|hSk 12 Z Z<|hSk 13 Z Z<|A6 14 Z Z (pkT Z Z)<|A6 15 Z Z (asg Z)<|Bg (by kernel_rfl)<|AA (λM O h=>Zu h [1])
   ·refine hKn 12 Z Z h7<|Zg 5 Z Z (faB 1 Z Z underlying73 Z (by exact B2))<|Zg 6 Z Z (ld 1 Z Z (fP (Cv _)) B8 Z)<|Zg 10 Z Z (faB 1 Z Z underlying73 Z (by exact B2))<|Zg 11 Z Z (ld 1 Z Z (fP (Cv _)) B8 Z)<|Zg 12 Z Z (Ar Z .rd Z tu31)<|BH 7 [] [(100,23)] Z (by kernel_rfl) Z Zx Z func25 Z Z (EM _) (Y1 Z) rN Z (λ_ _=>Ce) λr8 n9=>BH 8 [23] [(100,26)] Z (by kernel_rfl) Z Zx Z func80 Z Z (Ju _ _) (Y1 Z) (y1 Z) Z (λ_ _=>Ce) λab ac=>O1 9 Z (by kernel_rfl) (by kernel_rfl) (by kernel_rfl) Zx Z Z Cr (Ar Z (.own 26 Z) Z tu31)<|Zg 13 Z Z (I.neq Z Z)<|A6 14 Z Z (pkF Z Z)<|A6 15 Z Z (asg Z)<|Ha 8 Z Z λad=>Bg (by kernel_rfl)<|AA (λM O h=>Zu h [1])
  ·refine gIf Z Z (λa7=>?_) (λa7=>?_)
   ·refine A0<|Zb Z<|A5<|B7<|Ap<|Ze [] [] Z
   ·refine B6 (λ(a6:Bool) M O=>Sta (ctx 47 H [] w) [(1,.val (A7 v1 0)),(24,.rd Ai a6)] [(1,some (v1,.box 73 [.rd Ad a0]))] M O) ?_ (λa6=>?_)
    ·refine Al<|Zq (faB 1 Z Z underlying73 Z (by exact B0))<|Zq (ld 1 Z Z (fP (Ex _)) Be Z)<|Zc [] [] func122 Z (Om _) λae af=>Zq (By Z)<|Zm Z<|AY 29 Z (λa2=>?_) (λa2=>?_)
     ·refine Ac 28 Z a2<|Zk Z<|Zk Z<|Zk Z<|Zq (pkT Z Z)<|Zm Z<|Zk Z<|Zk Z<|Zk Z<|Zk Z<|Zk Z<|Zk Z<|Zk Z<|Zk Z<|Zq (pkT Z Z)<|Za Z<|Ah<|AA (λM O h=>Zu h [1])
     ·refine Ac 28 Z a2<|Ab Zx Z Z (faB 1 Z Z underlying73 Z (by exact CJ))<|Ab Zx Z Z (ld 1 Z Z (fP (EK _)) CU Z)<|Ab Zx Z Z (U.gtr Z Z)<|Zq (pkF Z Z)<|Zm Z<|AY 34 Z (λa1=>?_) (λa1=>?_)
      ·refine Ac 32 Z a1<|Ac 33 Z a1<|Zk Z<|Zk Z<|Zk Z<|Zk Z<|Zk Z<|Zk Z<|Zk Z<|Zk Z<|Zq (pkT Z Z)<|Za Z<|Ah<|AA (λM O h=>Zu h [1])
      ·refine Ac 32 Z a1<|Ac 33 Z a1<|Ab Zx Z Z (faB 1 Z Z underlying73 Z (by exact CG))<|Ab Zx Z Z (faB 1 Z Z underlying71 Z (by exact B0))<|Ab Zx Z Z (ld 1 Z Z ((fP (DF _)).part (EY _)) Be Z)<|Ab Zx Z Z (faB 1 Z Z underlying73 Z (by exact CG))<|Ab Zx Z Z (faB 1 Z Z underlying71 Z (by exact B0))<|Ab Zx Z Z (ld 1 Z Z ((fP (DF _)).part (FT _)) Be Z)<|Ab Zx Z Z (W.max Z Z)<|Ab Zx Z Z (W.geq Z Z)<|Zq (pkF Z Z)<|Za Z<|AR 24 Z λah=>Ah<|AA (λM O h=>Zu h [1])
    ·refine gIf Z Z (λa8=>?_) (λa8=>?_)
     ·refine A0<|Zb Z<|A5<|B7<|Ap<|Ze [] [] Z
     ·refine AU<|Au<|Ak<|A0<|Zq (faB 1 Z Z underlying73 Z (by exact CP))<|Zq (ld 1 Z Z (fP (D4 _)) ty69 Z)<|Zc [] [] func123 Z (YW _) λai aj=>Zb Z<|A5<|Ze [] [] Z
def LR (a0:V3) (c1_0:Int) (c2_0:List V3):Option (Bool × Int) :=
 if decide ((w64 (c1_0+1))<(c2_0.length:Int)) then
  idx c2_0 (w64 ((w64 (c1_0+1)) - 1))>>=λM =>
  idx c2_0 (w64 (c1_0+1))>>=λO =>
  Fz M O>>=λU =>
  some (decide (0<=U))>>=λy9 =>
  some (y9,w64 (c1_0+1))
 else
  some (false,w64 (c1_0+1))
theorem YY (a0:V3) (p1_0:Value) (c1_0:Int) (p2_0:Value) (c2_0:List V3):Aj Tryz.prog 161 [.rd aZ a0,.val (A7 p1_0 0),.val (A7 p2_0 0)] [(1,some (p1_0,.box 3 [.rd A2 c1_0])),(2,some (p2_0,.box 31 [.rd (A3 aZ) c2_0]))] (LR a0 c1_0 c2_0) (λr nv=>⟨[.rd Ai r.1],[(1,some (p1_0,.box 3 [.rd A2 r.2])),(2,some (p2_0,.box 31 [.rd (A3 aZ) c2_0]))]⟩):=by
 refine Aq 24 func161 Z Z Z λH w=>?_;refine A0<|Eb Z (bx 3 Z) λv1=>Zb Z<|A0<|Zq (ld 1 Z Z fH ty3 Z)<|Zq (I.add Z Z)<|Es (sto 1 Z Z fH Z ti3)<|Zn<|A9<|BK [] mixed Z Z<|A6 0 Z Z (ld 1 Z Z fH ty3 Z)<|A6 1 Z Z (ld 2 Z Z fH B8 Z)<|A6 2 Z Z (Ar Z .rd Z tu31)<|A6 3 Z Z (I.lss Z Z)<|A6 4 Z Z (mv Z)<|hIf 11 Z Z (λh2=>?_) (λh2=>?_)
 ·refine hKn 10 Z Z h2<|Zg 5 Z Z (ld 2 Z Z fH B8 Z)<|Zg 6 Z Z (ld 1 Z Z fH ty3 Z)<|Zg 7 Z Z (I.sub Z Z)<|BA λx3 M=>Zg 8 Z Z (ixR Z Z M tu31 Ax Z)<|Zg 9 Z Z (ldR Z AN)<|Zg 10 Z Z (ld 2 Z Z fH B8 Z)<|Zg 11 Z Z (ld 1 Z Z fH ty3 Z)<|BA λx5 O=>Zg 12 Z Z (ixR Z Z O tu31 Ax Z)<|Zg 13 Z Z (ldR Z AN)<|BH 14 [] [] Z (by kernel_rfl) Z Zx Z func44 Z Z (Ig _ _) (Y2 Z Z) rN Z (λ_ _=>Cr) λr7 n8=>Zg 15 Z Z (I.geq Z Z)<|A6 16 Z Z (pkT Z Z)<|A6 17 Z Z (asg Z)<|Ha 4 Z Z λy9=>Bg (by kernel_rfl)<|Ak<|A5<|Ze [] [1,2] Z
 ·refine hKn 10 Z Z h2<|hSk 5 Z Z<|hSk 6 Z Z<|hSk 7 Z Z<|hSk 8 Z Z<|hSk 9 Z Z<|hSk 10 Z Z<|hSk 11 Z Z<|hSk 12 Z Z<|hSk 13 Z Z<|hSk 14 Z Z<|hSk 15 Z Z<|A6 16 Z Z (pkF Z Z)<|A6 17 Z Z (asg Z)<|Bg (by kernel_rfl)<|Ak<|A5<|Ze [] [1,2] Z
def Hi (a0:List V3) (c1_1:List V3) (M:Int × Int):Option (Sum (Sum (Int × Int) Int) (Int × Int)) :=
 if decide (M.2<(a0.length:Int)) then
  idx a0 M.2>>=λU =>
  LR U M.1 c1_1>>=λO =>
  if O.1 then
   some (.inl (.inl (M.2,O.2)))
  else
   some (.inr (O.2,w64 (M.2+1)))
 else
  some (.inl (.inr M.1))
def Ow (a0:List V3) (c1_0:Int) (c1_1:List V3):Option (Int × Int) :=
 Bi (iter (Hi a0 c1_1) (c1_0,0)) λM =>
 some ((-1),M)
theorem YZ (a0:List V3) (p1_0:Value) (c1_0:Int) (p1_1:Value) (c1_1:List V3):Aj Tryz.prog 116 [.rd (A3 aZ) a0,.val (.func (.func 161) #[] #[A7 p1_0 0,A7 p1_1 0])] [(1,some (p1_0,.box 3 [.rd A2 c1_0])),(2,some (p1_1,.box 31 [.rd (A3 aZ) c1_1]))] (Ow a0 c1_0 c1_1) (λr nv=>⟨[.rd A2 r.1],[(1,some (p1_0,.box 3 [.rd A2 r.2])),(2,some (p1_1,.box 31 [.rd (A3 aZ) c1_1]))]⟩):=by
 refine Aq 19 func116 Z Z Z λH w=>?_;refine A0<|Zb Z<|Bt (λ(s1:Int) M O=>Sta (ctx 19 H [(1,some (p1_0,.box 3 [.rd A2 c1_0])),(2,some (p1_1,.box 31 [.rd (A3 aZ) c1_1]))] w) [] [(1,some (p1_0,.box 3 [.rd A2 s1])),(2,some (p1_1,.box 31 [.rd (A3 aZ) c1_1]))] M O) ?_ (λs1=>?_)
 ·refine A0<|Zm Z<|Zq (Ar Z .rd Z tu31)<|Zm Z<|Zn<|AJ (λ(U:Int × Int) M O=>Sta (ctx 19 H [(1,some (p1_0,.box 3 [.rd A2 c1_0])),(2,some (p1_1,.box 31 [.rd (A3 aZ) c1_1]))] w) [(0,.rd (A3 aZ) a0),(1,.val (.func (.func 161) #[] #[A7 p1_0 0,A7 p1_1 0])),(7,.rd A2 (a0.length:Int)),(8,.rd A2 U.2)] [(1,some (p1_0,.box 3 [.rd A2 U.1])),(2,some (p1_1,.box 31 [.rd (A3 aZ) c1_1]))] M O) (λM O h=>Zu h [1,2]) (λU=>?_)
  refine A0<|Zq (I.lss Z Z)<|Zn<|A9<|gIf Z Z (λh3=>?_) (λh3=>?_)
  ·refine Zt<|A9<|AD<|A0<|Zm Z<|Zb Z<|A0<|Zm Z<|Zm Z<|Zm Z<|An λx4 h5=>Zq (ixR Z Z h5 tu31 Ax Z)<|Zq (ldR Z AN)<|DC [1,2] [(1,1),(2,2)] (gd0 Z) Z Z func161 Z Z (YY _ _ _ _ _) (Y1 Z) (cQ 1 Z<|cQ 2 Z<|cN) (Zi Z<|Zi Z<|rN) λr6 n7=>Zj Z (λh8=>?_) (λh8=>?_)
   ·refine A0<|Zm Z<|Zb Z<|A5<|B7<|Ap<|Bp<|Bl<|Ze [] [1,2] Z
   ·refine AU<|Au<|Ak<|Al<|Zq (I.add Z Z)<|Zm Z<|Ah<|AB (λM O h=>Zu h [1,2])
  ·refine AF<|AG<|AI<|Bk (λM O h=>Zu h [1,2])
 ·refine A0<|Zb Z<|A5<|Ze [] [1,2] Z
def Ox (a0:List V3) (c1_0:Int) (c1_1:List V3):Option (Bool × Int) :=
 Ow a0 c1_0 c1_1>>=λM =>
 some (decide (0<=M.1))>>=λO =>
 some (O,M.2)
theorem z73 (a0:List V3) (p1_0:Value) (c1_0:Int) (p1_1:Value) (c1_1:List V3):Aj Tryz.prog 82 [.rd (A3 aZ) a0,.val (.func (.func 161) #[] #[A7 p1_0 0,A7 p1_1 0])] [(1,some (p1_0,.box 3 [.rd A2 c1_0])),(2,some (p1_1,.box 31 [.rd (A3 aZ) c1_1]))] (Ox a0 c1_0 c1_1) (λr nv=>⟨[.rd Ai r.1],[(1,some (p1_0,.box 3 [.rd A2 r.2])),(2,some (p1_1,.box 31 [.rd (A3 aZ) c1_1]))]⟩):=by
 refine Aq 9 func82 Z Z Z λH w=>?_;refine A0<|Zb Z<|A0<|Zm Z<|Zm Z<|Zc [1,2] [(1,1),(2,2)] func116 Z (YZ _ _ _ _ _) λr1 n2=>Zq (I.geq Z Z)<|Za Z<|AR 4 Z λy3=>Zn<|A5<|Ze [] [1,2] Z
def LS (a0:List V3):Option (Bool) :=
 Ox a0 0 a0>>=λM =>
 some (!M.1)
theorem zre (a0:List V3):Aj Tryz.prog 124 [.rd (A3 aZ) a0] [] (LS a0) (λr nv=>⟨[.rd Ai r],[]⟩):=by
 refine Aq 8 func124 Z Z Z λH w=>?_;refine A0<|Eb Z (bx 1 Z) λv1=>Zb Z<|A0<|Eb Z (AL 2 ti3 (.zr (R:=A2) (x:=0) (Zr.num Z))) λv2=>Es (sto 2 Z Z fH Z ti3)<|Zn<|A0<|Zq (ld 1 Z Z fH B8 Z)<|Zq (mkf mp0 (mp2 Z Z))<|Zc [2,1] [(1,2),(2,1)] func82 Z (z73 _ _ _ _ _) λr3 n4=>Zq (By Z)<|Zb Z<|A5<|Ze [] [] Z
def LT (a0:UInt64):Option (Int) :=
 (if decide (4294967296<=a0) then
  some (BZ a0 32,32)
 else
  some (a0,0))>>=λM =>
 (if decide (65536<=M.1) then
  some (BZ M.1 16)>>=λy5 =>
  some (w64 (M.2+16))>>=λy6 =>
  some (y5,y6)
 else
  some (M.1,M.2))>>=λO =>
 (if decide (256<=O.1) then
  some (w64 (O.2+8))>>=λy9 =>
  some (BZ O.1 8,y9)
 else
  some (O.1,O.2))>>=λU =>
 idx ([0,1,2,2,3,3,3,3,4,4,4,4,4,4,4,4,5,5,5,5,5,5,5,5,5,5,5,5,5,5,5,5,6,6,6,6,6,6,6,6,6,6,6,6,6,6,6,6,6,6,6,6,6,6,6,6,6,6,6,6,6,6,6,6,7,7,7,7,7,7,7,7,7,7,7,7,7,7,7,7,7,7,7,7,7,7,7,7,7,7,7,7,7,7,7,7,7,7,7,7,7,7,7,7,7,7,7,7,7,7,7,7,7,7,7,7,7,7,7,7,7,7,7,7,7,7,7,7,8,8,8,8,8,8,8,8,8,8,8,8,8,8,8,8,8,8,8,8,8,8,8,8,8,8,8,8,8,8,8,8,8,8,8,8,8,8,8,8,8,8,8,8,8,8,8,8,8,8,8,8,8,8,8,8,8,8,8,8,8,8,8,8,8,8,8,8,8,8,8,8,8,8,8,8,8,8,8,8,8,8,8,8,8,8,8,8,8,8,8,8,8,8,8,8,8,8,8,8,8,8,8,8,8,8,8,8,8,8,8,8,8,8,8,8,8,8,8,8,8,8,8,8,8,8,8,8]:List UInt8) (U.1.toUInt8.toNat:Int)>>=λa1 =>
 some (w64 (U.2+(a1.toNat:Int)))>>=λa2 =>
 some a2
theorem zm0 (a0:UInt64):Aj Tryz.prog 126 [.rd Ao a0] [] (LT a0) (λr nv=>⟨[.rd A2 r],[]⟩):=by
 refine Aq 25 func126 Z Z Z λH w=>?_;refine A0<|Zb Z<|B6 (λ(s1:UInt64 × Int) M O=>Sta (ctx 25 H [] w) [(0,.rd Ao s1.1),(2,.rd A2 s1.2)] [] M O) ?_ (λs1=>?_)
 ·refine A0<|Zm Z<|Zq (U.geq Z Z)<|Zj Z (λh2=>?_) (λh2=>?_)
  ·refine A0<|Zm Z<|Zq (U.shr Z Z (Int.natCast_nonneg _))<|Zb Z<|Al<|Za Z<|Ah<|AA (λM O h=>Zu h [])
  ·refine AU<|AA (λM O h=>Zu h [])
 ·refine B6 (λ(s3:UInt64 × Int) M O=>Sta (ctx 25 H [] w) [(0,.rd Ao s3.1),(2,.rd A2 s3.2)] [] M O) ?_ (λs3=>?_)
  ·refine A0<|Zm Z<|Zq (U.geq Z Z)<|Zj Z (λh4=>?_) (λh4=>?_)
   ·refine A0<|Zm Z<|Zq (U.shr Z Z (Int.natCast_nonneg _))<|Za Z<|AR 0 Z λy5=>Zn<|Al<|Zm Z<|Zq (I.add Z Z)<|Za Z<|AR 2 Z λy6=>Ah<|AA (λM O h=>Zu h [])
   ·refine AU<|AA (λM O h=>Zu h [])
  ·refine B6 (λ(s7:UInt64 × Int) M O=>Sta (ctx 25 H [] w) [(0,.rd Ao s7.1),(2,.rd A2 s7.2)] [] M O) ?_ (λs7=>?_)
   ·refine A0<|Zm Z<|Zq (U.geq Z Z)<|Zj Z (λh8=>?_) (λh8=>?_)
    ·refine A0<|Zm Z<|Zq (U.shr Z Z (Int.natCast_nonneg _))<|Zb Z<|Al<|Zm Z<|Zq (I.add Z Z)<|Za Z<|AR 2 Z λy9=>Ah<|AA (λM O h=>Zu h [])
    ·refine AU<|AA (λM O h=>Zu h [])
   ·refine A0<|Zm Z<|Zm Z<|Zq (U.toB Z tu52 tu5)<|An λa2 a1=>Zq (idxT Z Z tu9 (DA a1).1 (DA a1).2.1)<|Zq (B.toI Z tu5 tu3)<|Zq (I.add Z Z)<|Za Z<|AR 2 Z λa6=>Zn<|A5<|Ze [] [] Z
def LU (a0:UInt64) (O:Int) (M:(List UInt8) × Int):Option (Sum ((List UInt8)) ((List UInt8) × Int)) :=
 if decide (M.2<O) then
  chk (0<=w64 (8 * M.2))>>=λa1 =>
  idx M.1 (w64 (O - M.2))>>=λa2 =>
  some (.inr (M.1.set (w64 (O - M.2):Int).toNat ((BZ a0 ((w64 (8 * M.2):Int).toNat)).toUInt8),w64 (M.2+1)))
 else
  some (.inl M.1)
def EA (a0:UInt64):Option ((List UInt8)) :=
 if decide (a0<=247) then
  some [a0.toUInt8]
 else
  LT a0>>=λr3 =>
  some (w64 (Int.tdiv (w64 (r3+7)) 8))>>=λM =>
  mkn 1 0 (w64 (M+1))>>=λO =>
  idx O 0>>=λx9 =>
  (iter (LU a0 M) (O.set (0:Int).toNat (UInt8.ofInt (w64 (247+M))),0))>>=λU =>
  some U
theorem G0 (a0:UInt64):Aj Tryz.prog 94 [.rd Ao a0] [] (EA a0) (λr nv=>⟨[.val (nv 0)],[(100,some (nv 0,.list u8R 5 r))]⟩):=by
 refine Aq 39 func94 Z Z Z λH w=>?_;refine A0<|Zb Z<|A9<|A0<|Zm Z<|Zq (U.leq Z Z)<|Zj Z (λh1=>?_) (λh1=>?_)
 ·refine A0<|Zm Z<|Zq (U.toB Z tu52 tu5)<|Ef Z (lit (R:=u8R) ([a0.toUInt8]:List UInt8) 1 (pP Z Z<|pN) Z tu114 ti5 Z Z) λv2=>Zb Z<|A5<|Ap<|Ze [v2] [1] Z
 ·refine Zt<|A0<|Zm Z<|Zc [] [] func126 Z (zm0 _) λr3 n4=>Zq (I.add Z Z)<|Zq (I.quo Z Z (by decide))<|Za Z<|AR 3 Z λy5=>Zn<|A0<|Zm Z<|Zq (I.add Z Z)<|An λx6 h7=>Ef Z (mks (R:=u8R) 2 Z Z h7 tu114 ti5 (Zr.num Z) Z) λv8=>Zb Z<|A0<|Zm Z<|Zm Z<|Zq (I.add Z Z)<|Zq (I.toB Z tu3 tu5)<|An λx9 a2=>Zq (ixO 2 Z Z Z a2 tu114 ti5)<|Es (sto 2 Z Z (Foc.el a2) Z ti5)<|Zn<|B6 (λ(a6:(List UInt8)) M O=>Sta (ctx 39 H [] w) [(4,.val v8)] [(2,some (v8,.list u8R 5 a6))] M O) ?_ (λa6=>?_)
  ·refine A0<|Zm Z<|Zm Z<|Zn<|AJ (λ(a1:(List UInt8) × Int) M O=>Sta (ctx 39 H [] w) [(0,.rd Ao a0),(3,.rd A2 y5),(4,.val v8),(23,.rd A2 y5),(24,.rd A2 a1.2)] [(2,some (v8,.list u8R 5 a1.1))] M O) (λM O h=>Zu h [2]) (λa1=>?_);refine A0<|Zq (I.lss Z Z)<|Zn<|A9<|gIf Z Z (λa8=>?_) (λa8=>?_)
   ·refine Zt<|A9<|AD<|A0<|Zm Z<|Zb Z<|Al<|Zm Z<|Zm Z<|Zm Z<|Zq (I.sub Z Z)<|Zm Z<|Zm Z<|Zq (I.mul Z Z)<|An λac ab=>Zq (U.shr Z Z (CI ab))<|Zq (U.toB Z tu52 tu5)<|An λad a7=>Zq (ixO 2 Z Z Z a7 tu114 ti5)<|Es (sto 2 Z Z (Foc.el a7) Z ti5)<|Ah<|Au<|Ak<|Al<|Zq (I.add Z Z)<|Zm Z<|Ah<|AB (λM O h=>Zu h [2])
   ·refine AF<|AG<|AI<|AA (λM O h=>Zu h [2])
  ·refine A0<|Zm Z<|Zb Z<|A5<|Ze [v8] [2] Z
def Jv (a0:List V3) (M:(List UInt8) × Int):Option (Sum ((List UInt8)) ((List UInt8) × Int)) :=
 if decide (M.2<(a0.length:Int)) then
  idx a0 M.2>>=λO =>
  app 1 M.1 O.toList>>=λU =>
  some (.inr (U,w64 (M.2+1)))
 else
  some (.inl M.1)
def Jw (a0:List V3):Option ((List UInt8) × Int) :=
 if decide (60<(a0.length:Int)) then
  some ([],4)
 else
  LS a0>>=λM =>
  if !M then
   some ([],32)
  else
   EA (UInt64.ofInt (a0.length:Int))>>=λO =>
   (iter (Jv a0) (O,0))>>=λU =>
   some (U,0)
theorem T2 (a0:List V3):Aj Tryz.prog 92 [.rd (A3 aZ) a0] [] (Jw a0) (λr M=>⟨[.val (M 0),.rd A2 r.2],[(100,some (M 0,.list u8R 5 r.1))]⟩):=by
 refine Aq 28 func92 Z Z Z λH w=>?_;refine A0<|Za Z<|Zb Z<|A9<|A0<|Zm Z<|Zq (Ar Z .rd Z tu31)<|Zq (I.gtr Z Z)<|Zj Z (λh1=>?_) (λh1=>?_)
 ·refine A0<|Za Z<|Zb Z<|A5<|Ap<|Cq u8R 5 1<|Ze [(.slice none 0 0)] [1] Z
 ·refine Zt<|A9<|A0<|Zm Z<|Zc [] [] func124 Z (zre _) λr2 n3=>Zq (By Z)<|Zj Z (λh4=>?_) (λh4=>?_)
  ·refine A0<|Za Z<|Zb Z<|A5<|Ap<|Cq u8R 5 2<|Ze [(.slice none 0 0)] [2] Z
  ·refine Zt<|A0<|Zm Z<|Zq (Ar Z .rd Z tu31)<|Zq (I.toU Z tu3 tu52)<|Zc [] [(100,3)] func94 Z (G0 _) λr5 n6=>Zb Z<|B6 (λ(s7:(List UInt8)) O U=>∃ M:Nat->Value,Sta (ctx 28 H [] w) [(4,.val (M 0))] [(3,some ((M 0),.list u8R 5 s7))] O U) ?_ (λs7=>?_)
   ·refine A0<|Zm Z<|Zq (Ar Z .rd Z tu31)<|Zm Z<|Zn<|AJ (λ(s8:(List UInt8) × Int) O U=>∃ M:Nat->Value,Sta (ctx 28 H [] w) [(4,.val (M 0)),(17,.rd (A3 aZ) a0),(18,.rd A2 (a0.length:Int)),(19,.rd A2 s8.2)] [(3,some ((M 0),.list u8R 5 s8.1))] O U) (λO U h=>⟨nvl [(n6 0)],Zu h [3]⟩) (λs8=>?_);refine gEx λn9=>A0<|Zq (I.lss Z Z)<|Zn<|A9<|gIf Z Z (λa1=>?_) (λa1=>?_)
    ·refine Zt<|A9<|AD<|A0<|An λab a2=>Zq (ixR Z Z a2 tu31 Ax Z)<|Zq (ldR Z AN)<|Eb Z (AL 4 Ax (.zr (R:=aZ) (x:=(Vector.replicate 32 0)) C0)) λac=>Es (sto 4 Z Z fH Z Ax)<|Zn<|Al<|Zm Z<|S9 4 6 Z Z<|Zq (cutV Z tu61 ti5 Z Z Z)<|An λad a6=>Ef Z (apn 3 Z Z Z .rd a6 tu114 ti5 Z Z Z) λa7=>Za Z<|Ah<|Au<|Ak<|Al<|Zq (I.add Z Z)<|Zm Z<|Ah<|AB (λO U h=>⟨nvl [a7],Zu h [3]⟩)
    ·refine AF<|AG<|AI<|AA (λO U h=>⟨nvl [(n9 0)],Zu h [3]⟩)
   ·refine gEx λa8=>A0<|Zm Z<|Za Z<|Zb Z<|A5<|Ze [(a8 0)] [3] Z
def Im (M:Int):Option ((List UInt8)) :=
 if decide (M<0) then
  none
 else
  some (w64 (M - (w64 (0 - (([]:List UInt8).length:Int)))))>>=λO =>
  if decide (0<O) then
   mkn 2 0 O>>=λU =>
   cut U 0 (([]:List UInt8).length:Int)>>=λx7 =>
   some x7
  else
   some []
end
section
theorem zgx (M:Int):Aj Tryz.prog 125 [.val (.slice none 0 0),.rd A2 M] [] (Im M) (λr O=>⟨[.val (O 0)],[(100,some (O 0,.list u8R 5 r))]⟩):=by
 refine Aq 27 func125 Z Z Z λH w=>?_;refine A0<|Zb Z<|A9<|A0<|Zm Z<|Zq (I.lss Z Z)<|Zj Z (λh1=>?_) (λh1=>?_)
 ·refine Sq
 ·refine Zt<|A9<|A0<|Zm Z<|Zm Z<|Zq (capN Z Z tu114)<|Zm Z<|S8 u8R 11 Z<|Zq (Ar Z .rd Z tu114)<|Zq (I.sub Z Z)<|Zq (I.sub Z Z)<|Za Z<|AR 1 Z λy2=>Zn<|A0<|Zm Z<|Zq (I.gtr Z Z)<|Zj Z (λh3=>?_) (λh3=>?_)
  ·refine Al<|Zm Z<|Zm Z<|Zq (capN Z Z tu114)<|Zq (cutN Z Z tu114 ti5)<|Zm Z<|An λx4 U=>Ef Z (apZ 1 Z Z U tu114 tu3 ti5 (Zr.num Z) Z) λv6=>Zm Z<|S8 u8R 23 Z<|Zq (Ar Z .rd Z tu114)<|An λx7 h8=>Ef Z (cutO 1 Z Z Z h8 tu114 ti5) λv9=>Zb Z<|A0<|Zm Z<|Zb Z<|A5<|Ze [v9] [1] Z
  ·refine Zt<|A0<|Zm Z<|Zb Z<|A5<|Cq u8R 5 2<|Ze [(.slice none 0 0)] [2] Z
def EN (a0:List (List UInt8)) (M:Int × Int):Option (Sum Int (Int × Int)) :=
 if decide (M.2<(a0.length:Int)) then
  idx a0 M.2>>=λU =>
  some (w64 (M.1+(U.length:Int)))>>=λO =>
  if decide (O<0) then
   none
  else
   some (.inr (O,w64 (M.2+1)))
 else
  some (.inl M.1)
def EO (a0:List (List UInt8)) (M:(List UInt8) × Int):Option (Sum ((List UInt8)) ((List UInt8) × Int)) :=
 if decide (M.2<(a0.length:Int)) then
  idx a0 M.2>>=λO =>
  app 1 M.1 O>>=λU =>
  some (.inr (U,w64 (M.2+1)))
 else
  some (.inl M.1)
def GA (a0:List (List UInt8)):Option ((List UInt8)) :=
 (iter (EN a0) (0,0))>>=λO =>
 Im O>>=λU =>
 (iter (EO a0) (U,0))>>=λM =>
 some M
theorem Oy (a0:List (List UInt8)):Aj Tryz.prog 93 [.rd (A3 (A3 u8R)) a0] [] (GA a0) (λr U=>⟨[.val (U 0)],[(100,some (U 0,.list u8R 5 r))]⟩):=by
 refine Aq 36 func93 Z Z Z λH w=>?_;refine A0<|Zb Z<|A0<|Zb Z<|B6 (λ(s1:Int) M O=>Sta (ctx 36 H [] w) [(0,.rd (A3 (A3 u8R)) a0),(3,.rd A2 s1)] [] M O) ?_ (λs1=>?_)
 ·refine A0<|Zm Z<|Zq (Ar Z .rd Z tu136)<|Zm Z<|Zn<|AJ (λ(s2:Int × Int) M O=>Sta (ctx 36 H [] w) [(0,.rd (A3 (A3 u8R)) a0),(3,.rd A2 s2.1),(9,.rd (A3 (A3 u8R)) a0),(10,.rd A2 (a0.length:Int)),(11,.rd A2 s2.2)] [] M O) (λM O h=>Zu h []) (λs2=>?_);refine A0<|Zq (I.lss Z Z)<|Zn<|A9<|gIf Z Z (λh3=>?_) (λh3=>?_)
  ·refine Zt<|A9<|AD<|A0<|An λx4 h5=>Zq (ixR Z Z h5 tu136 Dc Z)<|Zq (ldR Z Hd)<|Zb Z<|A0<|Zm Z<|Zm Z<|Zq (Ar Z .rd Z tu114)<|Zq (I.add Z Z)<|Za Z<|AR 3 Z λy6=>Zn<|A0<|Zm Z<|Zq (I.lss Z Z)<|Zj Z (λh7=>?_) (λh7=>?_)
   ·refine Sq
   ·refine AU<|Au<|Ak<|Al<|Zq (I.add Z Z)<|Zm Z<|Ah<|AB (λM O h=>Zu h [])
  ·refine AF<|AG<|AI<|AA (λM O h=>Zu h [])
 ·refine A0<|Zm Z<|Zc [] [(100,1)] func125 Z (zgx _) λr8 n9=>Zb Z<|B6 (λ(a2:(List UInt8)) M O=>∃ U:Nat->Value,Sta (ctx 36 H [] w) [(6,.val (U 0))] [(1,some ((U 0),.list u8R 5 a2))] M O) ?_ (λa2=>?_)
  ·refine A0<|Zm Z<|Zq (Ar Z .rd Z tu136)<|Zm Z<|Zn<|AJ (λ(a1:(List UInt8) × Int) M O=>∃ U:Nat->Value,Sta (ctx 36 H [] w) [(6,.val (U 0)),(25,.rd (A3 (A3 u8R)) a0),(26,.rd A2 (a0.length:Int)),(27,.rd A2 a1.2)] [(1,some ((U 0),.list u8R 5 a1.1))] M O) (λM O h=>⟨nvl [(n9 0)],Zu h [1]⟩) (λa1=>?_);refine gEx λa6=>A0<|Zq (I.lss Z Z)<|Zn<|A9<|gIf Z Z (λa7=>?_) (λa7=>?_)
   ·refine Zt<|A9<|AD<|A0<|An λae a8=>Zq (ixR Z Z a8 tu136 Dc Z)<|Zq (ldR Z Hd)<|Zb Z<|Al<|Zm Z<|Zm Z<|An λaf ab=>Ef Z (apn 1 Z Z Z .rd ab tu114 ti5 Z Z Z) λac=>Za Z<|Ah<|Au<|Ak<|Al<|Zq (I.add Z Z)<|Zm Z<|Ah<|AB (λM O h=>⟨nvl [ac],Zu h [1]⟩)
   ·refine AF<|AG<|AI<|AA (λM O h=>⟨nvl [(a6 0)],Zu h [1]⟩)
  ·refine gEx λad=>A0<|Zm Z<|Zb Z<|A5<|Ze [(ad 0)] [1] Z
def Hj (a0:List UInt8):Option ((List UInt8) × Int) :=
 if decide (10000<(a0.length:Int)) then
  some ([],4)
 else
  EA (UInt64.ofInt (a0.length:Int))>>=λM =>
  app 1 M a0>>=λO =>
  some (O,0)
theorem Oz (a0:List UInt8):Aj Tryz.prog 95 [.rd (A3 u8R) a0] [] (Hj a0) (λr M=>⟨[.val (M 0),.rd A2 r.2],[(100,some (M 0,.list u8R 5 r.1))]⟩):=by
 refine Aq 13 func95 Z Z Z λH w=>?_;refine A0<|Za Z<|Zb Z<|A9<|A0<|Zm Z<|Zq (Ar Z .rd Z tu114)<|Zq (I.gtr Z Z)<|Zj Z (λh1=>?_) (λh1=>?_)
 ·refine A0<|Za Z<|Zb Z<|A5<|Ap<|Cq u8R 5 1<|Ze [(.slice none 0 0)] [1] Z
 ·refine Zt<|A0<|Zm Z<|Zq (Ar Z .rd Z tu114)<|Zq (I.toU Z tu3 tu52)<|Zc [] [(100,2)] func94 Z (G0 _) λr2 n3=>Zm Z<|An λx4 O=>Ef Z (apn 2 Z Z Z .rd O tu114 ti5 Z Z Z) λU=>Za Z<|Zb Z<|A5<|Ze [U] [2] Z
def LV (a0:Int):Option ((List UInt8)) :=
 EA ((EW (UInt64.ofInt a0) 1) ^^^ (UInt64.ofInt (shrI a0 63)))>>=λM =>
 some M
theorem zrc (a0:Int):Aj Tryz.prog 128 [.rd A2 a0] [] (LV a0) (λr M=>⟨[.val (M 0)],[(100,some (M 0,.list u8R 5 r))]⟩):=by
 refine Aq 11 func128 Z Z Z λH w=>?_;refine A0<|Zb Z<|A0<|Zm Z<|Zq (I.toU Z underlying2 tu52)<|Zq (U.shl Z Z (Int.natCast_nonneg _))<|Zm Z<|Zq (I.shr Z Z (Int.natCast_nonneg _))<|Zq (I.toU Z underlying2 tu52)<|Zq (U.xor Z Z)<|Zc [] [(100,1)] func94 Z (G0 _) λr1 O=>Zb Z<|A5<|Ze [(O 0)] [1] Z
def Jx (a0:Az) (M:(List UInt8) × Int):Option (Sum ((List UInt8)) ((List UInt8) × Int)) :=
 if decide (0<=M.2) then
  chk (0<=M.2)>>=λa1 =>
  app 1 M.1 [(BZ a0.Bits ((M.2:Int).toNat)).toUInt8]>>=λO =>
  some (w64 (M.2 - 8))>>=λU =>
  some (.inr (O,U))
 else
  some (.inl M.1)
def LW (a0:Az):Option ((List UInt8) × Int) :=
 Js a0>>=λM =>
 if M != 0 then
  some ([],M)
 else
  (if a0.Kind==1 then
   LV a0.Num>>=λr8 =>
   app 1 [a0.Kind] r8>>=λO =>
   some O
  else
   if a0.Kind==2 then
    iter (Jx a0) ([a0.Kind],56)
   else
    if a0.Kind==3 then
     chk (a0.Text.length<=281474976710656)>>=λa2 =>
     Hj a0.Text>>=λU =>
     app 1 [a0.Kind] U.1>>=λa1 =>
     some a1
    else
     some [a0.Kind])>>=λs6 =>
  some (s6,0)
theorem zph (a0:Az):Aj Tryz.prog 96 [.rd CQ a0] [] (LW a0) (λr nv=>⟨[.val (nv 0),.rd A2 r.2],[(100,some (nv 0,.list u8R 5 r.1))]⟩):=by
 refine Aq 53 func96 Z Z Z λH w=>?_;refine A0<|Eb Z (bx 1 Z) λv1=>Za Z<|Zb Z<|A9<|A0<|Zq (ld 1 Z Z fH E5 Z)<|Zc [] [] func127 Z (T0 _) λr2 n3=>Zb Z<|A0<|Zm Z<|Zq (I.neq Z Z)<|Zj Z (λh4=>?_) (λh4=>?_)
 ·refine A0<|Zm Z<|Za Z<|Zb Z<|A5<|Ap<|Cq u8R 5 2<|Ze [(.slice none 0 0)] [2] Z
 ·refine Zt<|A0<|Zq (faB 1 Z Z underlying67 Z (by exact ti5))<|Zq (ld 1 Z Z (fP (Fw _)) ty5 Z)<|Ef Z (lit (R:=u8R) ([a0.Kind]:List UInt8) 3 (pP Z Z<|pN) Z tu114 ti5 Z Z) λv5=>Zb Z<|B6 (λ(s6:(List UInt8)) M O=>∃ nv:Nat->Value,Sta (ctx 53 H [] w) [(5,.val (nv 0))] [(3,some ((nv 0),.list u8R 5 s6))] M O) ?_ (λs6=>?_)
  ·refine A0<|Zq (faB 1 Z Z underlying67 Z (by exact ti5))<|Zq (ld 1 Z Z (fP (Fw _)) ty5 Z)<|Zn<|AD<|A0<|Zq (B.eql Z Z)<|Zb Z<|gIf Z Z (λh7=>?_) (λh7=>?_)
   ·refine gKn 20 Z h7<|Al<|Zm Z<|Zq (faB 1 Z Z underlying67 Z (by exact ti2))<|Zq (ld 1 Z Z (fP (I8 _)) ty2 Z)<|Zc [] [(100,4)] func128 Z (zrc _) λr8 n9=>An λak a7=>Ef Z (apn 3 Z Z Z (.own 4 Z) a7 tu114 ti5 Z Z Z) λa8=>Za Z<|Ah<|Au<|AA (λM O h=>⟨nvl [a8],Zu h [3]⟩)
   ·refine gKn 20 Z h7<|A0<|Zq (B.eql Z Z)<|Zb Z<|gIf Z Z (λa2=>?_) (λa2=>?_)
    ·refine gKn 27 Z a2<|A0<|Zb Z<|AJ (λ(a1:(List UInt8) × Int) M O=>∃ nv:Nat->Value,Sta (ctx 53 H [] w) [(1,.val (A7 v1 0)),(5,.val (nv 0)),(6,.rd A2 a1.2)] [(1,some (v1,.box 67 [.rd CQ a0])),(3,some ((nv 0),.list u8R 5 a1.1))] M O) (λM O h=>⟨nvl [v5],Zu h [1,3]⟩) (λa1=>?_);refine gEx λab=>A9<|A0<|Zm Z<|Zq (I.geq Z Z)<|Zj Z (λac=>?_) (λac=>?_)
     ·refine Zt<|A9<|AD<|Al<|Zm Z<|Zq (faB 1 Z Z underlying67 Z (by exact CJ))<|Zq (ld 1 Z Z (fP (Gq _)) CU Z)<|Zm Z<|An λam ad=>Zq (U.shr Z Z (CI ad))<|Zq (U.toB Z tu52 tu5)<|Ef Z (lit (R:=u8R) ([(BZ a0.Bits ((a1.2:Int).toNat)).toUInt8]:List UInt8) 5 (pP Z Z<|pN) Z tu114 ti5 Z Z) λao=>An λap ae=>Ef Z (apn 3 Z Z Z (.own 5 Z) ae tu114 ti5 Z Z Z) λv22=>Za Z<|Ah<|Au<|Ak<|Al<|Zm Z<|Zq (I.sub Z Z)<|Za Z<|AR 6 Z λaq=>Ah<|AB (λM O h=>⟨nvl [v22],Zu h [1,3]⟩)
     ·refine AF<|AG<|AI<|Au<|AA (λM O h=>⟨nvl [(ab 0)],Zu h [3]⟩)
    ·refine gKn 27 Z a2<|A0<|Zq (B.eql Z Z)<|Zb Z<|gIf Z Z (λa6=>?_) (λa6=>?_)
     ·refine gKn 41 Z a6<|A0<|Zq (faB 1 Z Z underlying67 Z (by exact ti9))<|Zq (ld 1 Z Z (fP (FS _)) ty9 Z)<|An λar af=>Lu Z Z af tu9 tu114 tu5<|Zc [] [(100,6)] func95 Z (Oz _) λav aw=>Zm Z<|Zq (ext Z Z)<|Zq (ext Z Z)<|Za Z<|Zb Z<|Al<|Zm Z<|Zm Z<|An λax ah=>Ef Z (apn 3 Z Z Z (.own 6 Z) ah tu114 ti5 Z Z Z) λai=>Za Z<|Ah<|Au<|AA (λM O h=>⟨nvl [ai],Zu h [3]⟩)
     ·refine gKn 41 Z a6<|AU<|Au<|AA (λM O h=>⟨nvl [v5],Zu h [3]⟩)
  ·refine gEx λaj=>A0<|Zm Z<|Za Z<|Zb Z<|A5<|Ze [(aj 0)] [3] Z
def Hk (a0:Ae):Option ((List UInt8) × Int) :=
 Hh ({ a0 with Sig:=(⟨0,0⟩:AC) })>>=λU =>
 if U != 0 then
  some ([],U)
 else
  Jw (({ a0 with Sig:=(⟨0,0⟩:AC) }).Preds)>>=λr5 =>
  EA ((({ a0 with Sig:=(⟨0,0⟩:AC) }).Author).toUInt64)>>=λr7 =>
  EA (({ a0 with Sig:=(⟨0,0⟩:AC) }).Stamp)>>=λa1 =>
  GA [[111],r7,r5.1,a1,[(({ a0 with Sig:=(⟨0,0⟩:AC) }).Act).Kind]]>>=λM =>
  if ((({ a0 with Sig:=(⟨0,0⟩:AC) }).Act).Kind)==1 then
   some (M,0)
  else
   chk (((({ a0 with Sig:=(⟨0,0⟩:AC) }).Act).Key).length<=281474976710656)>>=λa8 =>
   Hj ((({ a0 with Sig:=(⟨0,0⟩:AC) }).Act).Key)>>=λa2 =>
   app 1 M a2.1>>=λO =>
   if ((({ a0 with Sig:=(⟨0,0⟩:AC) }).Act).Kind)==4 then
    LW ((({ a0 with Sig:=(⟨0,0⟩:AC) }).Act).Value)>>=λa6 =>
    app 1 O a6.1>>=λa7 =>
    some (a7,0)
   else
    some (O,0)
theorem OA (a0:Ae):Aj Tryz.prog 58 [.rd Ad a0] [] (Hk a0) (λr M=>⟨[.val (M 0),.rd A2 r.2],[(100,some (M 0,.list u8R 5 r.1))]⟩):=by
 refine Aq 71 func58 Z Z Z λH w=>?_;refine A0<|Eb Z (bx 1 Z) λU=>Za Z<|Zb Z<|A0<|Zq (bld (x':=(⟨0,0⟩:AC)) [(0,1),(1,1)] underlying71 CG Z CM Z (Bld.done Z))<|Zq (faB 1 Z Z underlying73 Z (by exact CG))<|Es (sto 1 Z Z (fP (DF _)) Z CG)<|Zn<|A9<|A0<|Zq (ld 1 Z Z fH Bz Z)<|Zc [] [] func91 Z (Ov _) λr2 n3=>Zb Z<|A0<|Zm Z<|Zq (I.neq Z Z)<|Zj Z (λh4=>?_) (λh4=>?_)
 ·refine A0<|Zm Z<|Za Z<|Zb Z<|A5<|Ap<|Cq u8R 5 2<|Ze [(.slice none 0 0)] [2] Z
 ·refine Zt<|A0<|Zq (faB 1 Z Z underlying73 Z (by exact B2))<|Zq (ld 1 Z Z (fP (Cv _)) B8 Z)<|Zc [] [(100,3)] func92 Z (T2 _) λr5 n6=>Zm Z<|Zq (ext Z Z)<|Zq (ext Z Z)<|Za Z<|Zb Z<|A9<|gFrz 3 [23,5] Z (fS Z<|fS Z<|fN)<|E7 [(1,.val (A7 U 0)),(5,.rd (A3 u8R) r5.1)] [(1,some (U,.box 73 [.rd Ad ({ a0 with Sig:=(⟨0,0⟩:AC) })]))] [1] (sS Z<|sS Z<|sN) (y1 Z)<|BV λr7 h9=>BV λO a1=>BV λa2 a6=>gOr [] [⟨4,none,[(0,none)]⟩,⟨1,some ([], λM=>(U,.box 73 [.rd Ad ({ a0 with Sig:=(⟨0,0⟩:AC) })])),[]⟩,⟨5,none,[(4,none)]⟩,⟨6,none,[(8,none)]⟩,⟨7,none,[(12,none)]⟩,⟨8,none,[(13,none)]⟩,⟨9,none,[(14,some ([6], λM=>((M 6),.list u8R 5 a2)))]⟩] [⟨some (25,[], λM=>.rd (A3 u8R) [111]),[(0,0,true)],[1],[]⟩,pk 26 (.val (A7 U (0+0))) [(1,0,false)],pk 27 (.rd Aa (({ a0 with Sig:=(⟨0,0⟩:AC) }).Author)) [(1,0,false)],pd 28 (.rd Ao ((({ a0 with Sig:=(⟨0,0⟩:AC) }).Author).toUInt64)),⟨some (29,[], λM=>.rd (A3 u8R) r7),[(2,0,true)],[2],[]⟩,pd 30 (.rd (A3 u8R) r5.1),pk 31 (.val (A7 U (0+2))) [(1,0,false)],pk 32 (.rd Ao (({ a0 with Sig:=(⟨0,0⟩:AC) }).Stamp)) [(1,0,false)],⟨some (33,[], λM=>.rd (A3 u8R) O),[(3,0,true)],[3],[]⟩,pk 34 (.val (A7 U (0+3))) [(1,0,false)],pk 35 (.val (A7 U (0+3+0))) [(1,0,false)],pk 36 (.rd u8R ((({ a0 with Sig:=(⟨0,0⟩:AC) }).Act).Kind)) [(1,0,false)],⟨some (37,[], λM=>.rd (A3 u8R) [(({ a0 with Sig:=(⟨0,0⟩:AC) }).Act).Kind]),[(4,0,true)],[4],[]⟩,⟨some (38,[], λM=>.rd (A3 (A3 u8R)) [[111],r7,r5.1,O,[(({ a0 with Sig:=(⟨0,0⟩:AC) }).Act).Kind]]),[(5,0,true)],[5],[]⟩,⟨some (39,[6], λM=>.val (M 6)),[(6,0,true)],[6],[]⟩,⟨some (7,[6], λM=>.val (M 6)),[],[],[]⟩] mixed (oC (oFz (A1:=λM=>[(4,some ((M 1),.list u8R 5 [111]))]) 4 1 (oEf 4 1 (λM E=>lit (R:=u8R) ([111]:List UInt8) 4 (pP Z Z<|pN) Z tu114 ti5 Z Z)))<|oC (oRn (λM E=>faB 1 Z Z underlying73 Z (by exact B0)))<|oC (oRn (λM E=>ld 1 Z Z (fP (Ex _)) Be Z))<|oC (oRn (λM E=>W.toU Z tu65 tu52))<|oC (oFz (A1:=λM=>[(5,some ((M 2),.list u8R 5 r7))]) 5 2 (oCl [2] [] [(100,5)] h9 func94 Z (λM=>(G0 _)) (λM=>(Y1 Z)) (λM E=>rN)))<|oC (oRn (λM E=>mv Z))<|oC (oRn (λM E=>faB 1 Z Z underlying73 Z (by exact CJ)))<|oC (oRn (λM E=>ld 1 Z Z (fP (EK _)) CU Z))<|oC (oFz (A1:=λM=>[(6,some ((M 3),.list u8R 5 O))]) 6 3 (oCl [3] [] [(100,6)] a1 func94 Z (λM=>(G0 _)) (λM=>(Y1 Z)) (λM E=>rN)))<|oC (oRn (λM E=>faB 1 Z Z underlying73 Z (by exact CP)))<|oC (oRn (λM E=>faB 1 Z Z underlying69 Z (by exact ti5)))<|oC (oRn (λM E=>ld 1 Z Z ((fP (D4 _)).part (EX _)) ty5 Z))<|oC (oFz (A1:=λM=>[(7,some ((M 4),.list u8R 5 [(({ a0 with Sig:=(⟨0,0⟩:AC) }).Act).Kind]))]) 7 4 (oEf 7 4 (λM E=>lit (R:=u8R) ([(({ a0 with Sig:=(⟨0,0⟩:AC) }).Act).Kind]:List UInt8) 7 (pP Z Z<|pN) Z tu114 ti5 Z Z)))<|oC (oFz (A1:=λM=>[(8,some ((M 5),.list (A3 u8R) 114 [[111],r7,r5.1,O,[(({ a0 with Sig:=(⟨0,0⟩:AC) }).Act).Kind]]))]) 8 5 (oEf 8 5 (λM E=>lit (R:=(A3 u8R)) ([[111],r7,r5.1,O,[(({ a0 with Sig:=(⟨0,0⟩:AC) }).Act).Kind]]:List (List UInt8)) 8 (pP Z Z<|pP Z Z<|pP Z Z<|pP Z Z<|pP Z Z<|pN) Z tu136 Dc Z Z)))<|oC (oCl [6] [] [(100,9)] a6 func93 Z (λM=>(Oy _)) (λM=>(Y1 Z)) (λM E=>rN))<|oC (oRn (λM E=>asg Z))<|oN) λa7=>Ak<|A9<|A0<|Zq (faB 1 Z Z underlying73 Z (by exact CP))<|Zq (faB 1 Z Z underlying69 Z (by exact ti5))<|Zq (ld 1 Z Z ((fP (D4 _)).part (EX _)) ty5 Z)<|Zq (B.eql Z Z)<|Zj Z (λa8=>?_) (λa8=>?_)
  ·refine A0<|Zm Z<|Za Z<|Zb Z<|A5<|Ap<|Ze [(a7 6)] [9] Z
  ·refine Zt<|A0<|Zq (faB 1 Z Z underlying73 Z (by exact CP))<|Zq (faB 1 Z Z underlying69 Z (by exact ti9))<|Zq (ld 1 Z Z ((fP (D4 _)).part (Gr _)) ty9 Z)<|An λah aa=>Lu Z Z aa tu9 tu114 tu5<|Zc [] [(100,10)] func95 Z (Oz _) λai aj=>Zm Z<|Zq (ext Z Z)<|Zq (ext Z Z)<|Za Z<|Zb Z<|A0<|Zm Z<|Zm Z<|An λak ab=>Ef Z (apn 9 Z Z Z (.own 10 Z) ab tu114 ti5 Z Z Z) λac=>Zb Z<|A9<|A0<|Zq (faB 1 Z Z underlying73 Z (by exact CP))<|Zq (faB 1 Z Z underlying69 Z (by exact ti5))<|Zq (ld 1 Z Z ((fP (D4 _)).part (EX _)) ty5 Z)<|Zq (B.eql Z Z)<|Zj Z (λad=>?_) (λad=>?_)
   ·refine A0<|Zq (faB 1 Z Z underlying73 Z (by exact CP))<|Zq (faB 1 Z Z underlying69 Z (by exact CF))<|Zq (ld 1 Z Z ((fP (D4 _)).part (Hc _)) E5 Z)<|Zc [] [(100,11)] func96 Z (zph _) λam ao=>Zm Z<|Zq (ext Z Z)<|Zq (ext Z Z)<|Za Z<|Zb Z<|Al<|Zm Z<|Zm Z<|An λap ae=>Ef Z (apn 9 Z Z Z (.own 11 Z) ae tu114 ti5 Z Z Z) λaf=>Zb Z<|A0<|Zm Z<|Za Z<|Zb Z<|A5<|Ze [af] [9] Z
   ·refine Zt<|A0<|Zm Z<|Za Z<|Zb Z<|A5<|Ze [ac] [9] Z
def GB (a0:Ae):Option ((List UInt8) × Int) :=
 Hh a0>>=λM =>
 if M != 0 then
  some ([],M)
 else
  Hk a0>>=λU =>
  EA a0.Sig.E.toUInt64>>=λr7 =>
  EA a0.Sig.S.toUInt64>>=λr9 =>
  GA [U.1,r7,r9]>>=λO =>
  some (O,0)
theorem T3 (a0:Ae):Aj Tryz.prog 84 [.rd Ad a0] [] (GB a0) (λr M=>⟨[.val (M 0),.rd A2 r.2],[(100,some (M 0,.list u8R 5 r.1))]⟩):=by
 refine Aq 30 func84 Z Z Z λH w=>?_;refine A0<|Eb Z (bx 1 Z) λv1=>Za Z<|Zb Z<|A9<|A0<|Zq (ld 1 Z Z fH Bz Z)<|Zc [] [] func91 Z (Ov _) λr2 n3=>Zb Z<|A0<|Zm Z<|Zq (I.neq Z Z)<|Zj Z (λU=>?_) (λU=>?_)
 ·refine A0<|Zm Z<|Za Z<|Zb Z<|A5<|Ap<|Cq u8R 5 2<|Ze [(.slice none 0 0)] [2] Z
 ·refine Zt<|A0<|Zq (ld 1 Z Z fH Bz Z)<|Zc [] [(100,3)] func58 Z (OA _) λr5 n6=>Zm Z<|Zq (ext Z Z)<|Zq (ext Z Z)<|Za Z<|Zb Z<|A9<|BK [19,34,37,40] mixed Z Z<|A6 0 Z Z (mv Z)<|A6 1 Z Z (faB 1 Z Z underlying73 Z (by exact CG))<|A6 2 Z Z (faB 1 Z Z underlying71 Z (by exact B0))<|A6 3 Z Z (ld 1 Z Z ((fP (DF _)).part (EY _)) Be Z)<|A6 4 Z Z (W.toU Z tu65 tu52)<|A6 6 Z Z (faB 1 Z Z underlying73 Z (by exact CG))<|A6 7 Z Z (faB 1 Z Z underlying71 Z (by exact B0))<|A6 8 Z Z (ld 1 Z Z ((fP (DF _)).part (FT _)) Be Z)<|A6 9 Z Z (W.toU Z tu65 tu52)<|BH 5 [] [(100,19)] Z (by kernel_rfl) Z (gd0 Z) Z func94 Z Z (G0 _) (Y1 Z) rN Z (λ_ _=>Ce) λr7 n8=>BH 10 [] [(100,34)] Z (by kernel_rfl) Z (gd0 Z) Z func94 Z Z (G0 _) (Y1 Z) rN Z (λ_ _=>Ce) λr9 a1=>Em 3 [15,5,17] Z (fS Z<|fS Z<|fS Z<|fN)<|Em 19 [22] Z (fS Z<|fN)<|Em 34 [27] Z (fS Z<|fN)<|Zo 11 Z Z Z (lit (R:=(A3 u8R)) ([r5.1,r7,r9]:List (List UInt8)) 37 (pP Z Z<|pP Z Z<|pP Z Z<|pN) Z tu136 Dc Z Z) λa2=>Em 37 [28] Z (fS Z<|fN)<|BH 12 [] [(100,40)] Z (by kernel_rfl) Z (gd0 Z) Z func93 Z Z (Oy _) (Y1 Z) rN Z (λ_ _=>Ce) λa6 O=>Zf 13 Z Z Ce (asg Z)<|A6 14 Z Z (asg Z)<|Bg (by kernel_rfl)<|Ak<|A5<|Ze [(O 0)] [40] Z
def OB (a0:List UInt8):Option (Bool) :=
 some (decide (10000<(a0.length:Int)))>>=λy1 =>
 some y1
theorem zma (a0:List UInt8):Aj Tryz.prog 167 [.rd (A3 u8R) a0] [] (OB a0) (λr nv=>⟨[.rd Ai r],[]⟩):=by
 refine Aq 6 func167 Z Z Z λH w=>?_;refine A0<|Zb Z<|A0<|Zm Z<|Zq (Ar Z .rd Z tu114)<|Zq (I.gtr Z Z)<|Za Z<|AR 2 Z λy1=>Zn<|A5<|Ze [] [] Z
def LX  : Option (Cg) :=
 some (⟨(#v[1779033703,3144134277,1013904242,2773480762,1359893119,2600822924,528734635,1541459225]:Vector UInt32 8),[],0⟩:Cg)
theorem zqf  : Aj Tryz.prog 168 [] [] (LX) (λr nv=>⟨[.rd D5 r],[]⟩):=by
 refine Aq 3 func168 Z Z Z λH w=>?_;refine A0<|Eb Z (AL 1 Fv (ZrE.rd (R:=(Av 8 Aa)) (x:=(Vector.replicate 8 0)) Gt (ZrE.nilS (ZrE.rd (R:=A2) (x:=0) (Zr.num Z) ZrE.nil Z)) Z)) λv1=>Zn<|A0<|Zq (litA (R:=Aa) [1779033703,3144134277,1013904242,2773480762,1359893119,2600822924,528734635,1541459225] (#v[1779033703,3144134277,1013904242,2773480762,1359893119,2600822924,528734635,1541459225]:Vector UInt32 8) (pP Z Z<|pP Z Z<|pP Z Z<|pP Z Z<|pP Z Z<|pP Z Z<|pP Z Z<|pP Z Z<|pN) Z tu182 DU Z B0)<|Zq (CD [(0,8),(8,1),(9,1)] underlying208 Fv (ZrE.rd (R:=(Av 8 Aa)) (x:=(Vector.replicate 8 0)) Gt (ZrE.nilS (ZrE.rd (R:=A2) (x:=0) (Zr.num Z) ZrE.nil Z)) Z) Z (BQ.cons Z Z BF (Bb.cast (Bb.here BF) Z)<|BQ.done Z))<|Es (CE 1 Z Z (Af.cast (Af.cons BF (Af.cons Ay (Af.cons BF Af.nil))) Z) Z (AZ.cons Do (AZ.cons Bo (AZ.cons Do AZ.nil))) (Af.cast (Af.cons BF (Af.cons Ay (Af.cons BF Af.nil))) Z) Fv)<|Zn<|A5<|C6 u8R [.rd (Av 8 Aa) (#v[1779033703,3144134277,1013904242,2773480762,1359893119,2600822924,528734635,1541459225]:Vector UInt32 8),.rd (A3 u8R) [],.rd A2 0] 1 [.rd (Av 8 Aa) (#v[1779033703,3144134277,1013904242,2773480762,1359893119,2600822924,528734635,1541459225]:Vector UInt32 8)] [.rd A2 0] Z Z Z<|D0 (R:=D5) (⟨(#v[1779033703,3144134277,1013904242,2773480762,1359893119,2600822924,528734635,1541459225]:Vector UInt32 8),[],0⟩:Cg) 1 Z (Sp.via (Sp.prod (Sp.prod (Sp.prod Sp.unit))))<|Bu [] [] Z (eC 1 Z Z Gw<|eN) (rN)
def FA (a0:UInt32) (M:Int):Option (UInt32) :=
 some ((UInt64.ofInt M) &&& 31)>>=λy1 =>
 some ((FO a0 y1.toNat) ||| (BD a0 ((32 - y1).toNat)))>>=λO =>
 some O
theorem Hl (a0:UInt32) (M:Int):Aj Tryz.prog 212 [.rd Aa a0,.rd A2 M] [] (FA a0 M) (λr nv=>⟨[.rd Aa r],[]⟩):=by
 refine Aq 17 func212 Z Z Z λH w=>?_;refine A0<|Zb Z<|A0<|Zm Z<|Zq (I.toU Z tu3 underlying83)<|Zq (U.and Z Z)<|Za Z<|AR 5 Z λy1=>Zn<|A0<|Zm Z<|Zm Z<|Zq (W.shl Z Z (Int.natCast_nonneg _))<|Zm Z<|Zm Z<|Zq (U.sub Z Z)<|Zq (W.shr Z Z (Int.natCast_nonneg _))<|Zq (W.or Z Z)<|Za Z<|AR 4 Z λy2=>Zn<|A5<|Ze [] [] Z
def Jy (O:List UInt8) (M:(Vector UInt32 64) × Int):Option (Sum ((Vector UInt32 64)) ((Vector UInt32 64) × Int)) :=
 if decide (M.2<(O.length:Int)) then
  idx O M.2>>=λU =>
  B3 M.1 (w64 (Int.tdiv M.2 4))>>=λx9 =>
  B3 M.1 (w64 (Int.tdiv M.2 4))>>=λa1 =>
  some (.inr (BY M.1 (w64 (Int.tdiv M.2 4)) ((FO x9 8) ||| U.toUInt32),w64 (M.2+1)))
 else
  some (.inl M.1)
def In (M:(Vector UInt32 64) × Int):Option (Sum ((Vector UInt32 64)) ((Vector UInt32 64) × Int)) :=
 if decide (M.2<64) then
  B3 M.1 (w64 (M.2 - 15))>>=λO =>
  B3 M.1 (w64 (M.2 - 2))>>=λU =>
  FA O (-7)>>=λa1 =>
  FA O (-18)>>=λa2 =>
  some ((a1 ^^^ a2) ^^^ (BD O 3))>>=λa6 =>
  FA U (-17)>>=λa7 =>
  FA U (-19)>>=λa8 =>
  some ((a7 ^^^ a8) ^^^ (BD U 10))>>=λaa =>
  B3 M.1 (w64 (M.2 - 16))>>=λab =>
  B3 M.1 (w64 (M.2 - 7))>>=λac =>
  B3 M.1 M.2>>=λae =>
  some (w64 (M.2+1))>>=λad =>
  some (.inr (BY M.1 M.2 (((ab+ac)+a6)+aa),ad))
 else
  some (.inl M.1)
def OC (a0:List UInt8):Option ((Vector UInt32 64)) :=
 (cut a0 0 64>>=λO =>
 iter (Jy O) ((Vector.replicate 64 0),0))>>=λU =>
 (iter (In) (U,16))>>=λM =>
 some M
theorem zme (a0:List UInt8):Aj Tryz.prog 208 [.rd (A3 u8R) a0] [] (OC a0) (λr O=>⟨[.rd (Av 64 Aa) r],[]⟩):=by
 refine Aq 74 func208 Z Z Z λH w=>?_;refine A0<|Eb Z (AL 1 Jl (.zr (R:=(Av 64 Aa)) (x:=(Vector.replicate 64 0)) Sy)) λU=>Zn<|B6 (λ(s2:(Vector UInt32 64)) aa ww=>Sta (ctx 74 H [] w) [(2,.val (A7 U 0))] [(1,some (U,.box 244 [.rd (Av 64 Aa) s2]))] aa ww) ?_ (λs2=>?_)
 ·refine A0<|Zm Z<|An λx3 h4=>Zq (cut' Z .no (.to Z) h4 tu114 ti5)<|Zq (Ar Z .rd Z tu114)<|Zm Z<|Zn<|AJ (λ(s5:(Vector UInt32 64) × Int) aa ww=>Sta (ctx 74 H [] w) [(2,.val (A7 U 0)),(11,.rd (A3 u8R) x3),(12,.rd A2 (x3.length:Int)),(13,.rd A2 s5.2)] [(1,some (U,.box 244 [.rd (Av 64 Aa) s5.1]))] aa ww) (λaa ww h=>Zu h [1]) (λs5=>?_);refine A0<|Zq (I.lss Z Z)<|Zn<|A9<|gIf Z Z (λh6=>?_) (λh6=>?_)
  ·refine Zt<|A9<|AD<|A0<|Zm Z<|An λx7 h8=>Zq (ixR Z Z h8 tu114 ti5 Z)<|Zq (ldR Z ty5)<|Za Z<|Zb Z<|Al<|Zm Z<|Zq (I.quo Z Z (by decide))<|Zm Z<|Zq (I.quo Z Z (by decide))<|An λx9 a8=>Zq (ixB 1 Z Z Z a8 underlying244 B0)<|Zq (ld 1 Z Z (fP (.el a8)) Be Z)<|Zq (W.shl Z Z (Int.natCast_nonneg _))<|Zm Z<|Zq (B.toW Z tu5 tu65)<|Zq (W.or Z Z)<|An λak ab=>Zq (ixB 1 Z Z Z ab underlying244 B0)<|Es (sto 1 Z Z (fP (.el ab)) Z B0)<|Ah<|Au<|Ak<|Al<|Zq (I.add Z Z)<|Zm Z<|Ah<|AB (λaa ww h=>Zu h [1])
  ·refine AF<|AG<|AI<|AA (λaa ww h=>Zu h [1])
 ·refine B6 (λ(ac:(Vector UInt32 64)) aa ww=>Sta (ctx 74 H [] w) [(2,.val (A7 U 0))] [(1,some (U,.box 244 [.rd (Av 64 Aa) ac]))] aa ww) ?_ (λac=>?_)
  ·refine A0<|Zb Z<|AJ (λ(M:(Vector UInt32 64) × Int) aa ww=>Sta (ctx 74 H [] w) [(2,.val (A7 U 0)),(5,.rd A2 M.2)] [(1,some (U,.box 244 [.rd (Av 64 Aa) M.1]))] aa ww) (λaa ww h=>Zu h [1]) (λM=>?_);refine A9<|A0<|Zm Z<|Zq (I.lss Z Z)<|Zj Z (λaj=>?_) (λaj=>?_)
   ·refine Zt<|A9<|AD<|A9<|Dr mixed (by kernel_rfl)<|Rq Z (mv Z)<|Rq Z (I.sub Z Z)<|BM λam ad=>Rq Z (ixB 1 Z Z Z ad underlying244 B0)<|Rq Z (ld 1 Z Z (fP (.el ad)) Be Z)<|Rq Z (mv Z)<|Rq Z (I.sub Z Z)<|BM λao ae=>Rq Z (ixB 1 Z Z Z ae underlying244 B0)<|Rq Z (ld 1 Z Z (fP (.el ae)) Be Z)<|Rq Z (asg Z)<|Rq Z (asg Z)<|Ds<|Ak<|A0<|Zm Z<|Zc [] [] func212 Z (Hl _ _) λap aq=>Zm Z<|Zc [] [] func212 Z (Hl _ _) λar av=>Zq (W.xor Z Z)<|Zm Z<|Zq (W.shr Z Z (Int.natCast_nonneg _))<|Zq (W.xor Z Z)<|Za Z<|AR 8 Z λa1=>Zn<|A0<|Zm Z<|Zc [] [] func212 Z (Hl _ _) λaw ax=>Zm Z<|Zc [] [] func212 Z (Hl _ _) λay az=>Zq (W.xor Z Z)<|Zm Z<|Zq (W.shr Z Z (Int.natCast_nonneg _))<|Zq (W.xor Z Z)<|Za Z<|AR 9 Z λa7=>Zn<|E7 [(2,.val (A7 U 0)),(5,.rd A2 M.2),(8,.rd Aa a1),(9,.rd Aa a7)] [(1,some (U,.box 244 [.rd (Av 64 Aa) M.1]))] [1] (Zs Z Z Z Z<|sN) (y1 Z)<|BV λa2 af=>BV λa6 ah=>BV λb0 ai=>gOr [] [⟨1,some ([], λO=>(U,.box 244 [.rd (Av 64 Aa) M.1])),[(15,some ([], λO=>(U,.box 244 [.rd (Av 64 Aa) (BY M.1 M.2 (((a2+a6)+a1)+a7))])))]⟩] [pd 58 (.rd A2 M.2),pd 59 (.rd A2 M.2),pd 60 (.rd A2 (w64 (M.2 - 16))),pk 61 (.val (A7 U (0+(w64 (M.2 - 16):Int).toNat * 1))) [(0,0,false)],pk 62 (.rd Aa a2) [(0,0,false)],pd 63 (.rd A2 M.2),pd 64 (.rd A2 (w64 (M.2 - 7))),pk 65 (.val (A7 U (0+(w64 (M.2 - 7):Int).toNat * 1))) [(0,0,false)],pk 66 (.rd Aa a6) [(0,0,false)],pd 67 (.rd Aa (a2+a6)),pd 68 (.rd Aa a1),pd 69 (.rd Aa ((a2+a6)+a1)),pd 70 (.rd Aa a7),pd 71 (.rd Aa (((a2+a6)+a1)+a7)),pk 72 (.val (A7 U (0+(M.2:Int).toNat * 1))) [(0,0,false)],⟨none,[(0,0,true)],[],[]⟩] mixed (oC (oRn (λO E=>mv Z))<|oC (oRn (λO E=>mv Z))<|oC (oRn (λO E=>I.sub Z Z))<|oC (oRn (λO E=>ixB 1 Z Z Z af underlying244 B0))<|oC (oRn (λO E=>ld 1 Z Z (fP (.el af)) Be Z))<|oC (oRn (λO E=>mv Z))<|oC (oRn (λO E=>I.sub Z Z))<|oC (oRn (λO E=>ixB 1 Z Z Z ah underlying244 B0))<|oC (oRn (λO E=>ld 1 Z Z (fP (.el ah)) Be Z))<|oC (oRn (λO E=>W.add Z Z))<|oC (oRn (λO E=>mv Z))<|oC (oRn (λO E=>W.add Z Z))<|oC (oRn (λO E=>mv Z))<|oC (oRn (λO E=>W.add Z Z))<|oC (oRn (λO E=>ixB 1 Z Z Z ai underlying244 B0))<|oC (oEs 1 (λO E=>sto 1 Z Z (fP (.el ai)) Z B0))<|oN) λb1=>Au<|Ak<|Al<|Zm Z<|Zq (I.add Z Z)<|Za Z<|AR 5 Z λb2=>Ah<|AB (λaa ww h=>Zu h [1])
   ·refine AF<|AG<|AI<|AA (λaa ww h=>Zu h [1])
  ·refine A0<|Zq (ld 1 Z Z fH SA Z)<|Es (sto 1 Z Z fH Z Jl)<|Zn<|A5<|Bu [] [] Z (eC 1 Z Z SA<|eN) (rN)
def Jz (a0:UInt32) (M:Int) (O:Int) (a3:Int):Option (UInt32) :=
 FA a0 (w64 (0 - M))>>=λU =>
 FA a0 (w64 (0 - O))>>=λr3 =>
 FA a0 (w64 (0 - a3))>>=λr5 =>
 some ((U ^^^ r3) ^^^ r5)>>=λy7 =>
 some y7
theorem T4 (a0:UInt32) (M:Int) (O:Int) (a3:Int):Aj Tryz.prog 209 [.rd Aa a0,.rd A2 M,.rd A2 O,.rd A2 a3] [] (Jz a0 M O a3) (λr nv=>⟨[.rd Aa r],[]⟩):=by
 refine Aq 23 func209 Z Z Z λH w=>?_;refine A0<|Zb Z<|A0<|Zm Z<|Zm Z<|Zq (I.neg Z)<|Zc [] [] func212 Z (Hl _ _) λr1 n2=>Zm Z<|Zm Z<|Zq (I.neg Z)<|Zc [] [] func212 Z (Hl _ _) λr3 n4=>Zq (W.xor Z Z)<|Zm Z<|Zm Z<|Zq (I.neg Z)<|Zc [] [] func212 Z (Hl _ _) λr5 n6=>Zq (W.xor Z Z)<|Za Z<|AR 8 Z λy7=>Zn<|A5<|Ze [] [] Z
def OD (a0:List UInt8):Option ((List UInt8)) :=
 app 1 ([]:List UInt8) a0>>=λM =>
 some M
theorem T5 (a0:List UInt8):Aj Tryz.prog 196 [.rd (A3 u8R) a0] [] (OD a0) (λr M=>⟨[.val (M 0)],[(100,some (M 0,.list u8R 5 r))]⟩):=by
 refine Aq 8 func196 Z Z Z λH w=>?_;refine A0<|Zb Z<|A9<|A0<|Zm Z<|Lr Z Z .rd Z tu114 (λh1=>?_) ?_
 ·subst h1;refine Zn<|Dm Z<|A0<|Zb Z<|A5<|Ap<|Cq u8R 5 1<|Ze [(.slice none 0 0)] [1] Z
 ·refine Zn<|DL Z<|Zt<|A0<|Ef Z (lit (R:=u8R) (([]:List UInt8):List UInt8) 2 (pN) Z tu114 ti5 Z Z) λv2=>Zm Z<|An λx3 O=>Ef Z (apn 2 Z Z Z .rd O tu114 ti5 Z Z Z) λv5=>Zb Z<|A5<|Ze [v5] [2] Z
def Hm (r1:(Vector UInt32 64)) (M:UInt32 × UInt32 × UInt32 × UInt32 × UInt32 × UInt32 × UInt32 × UInt32 × Int):Option (Sum (UInt32 × UInt32 × UInt32 × UInt32 × UInt32 × UInt32 × UInt32 × UInt32) (UInt32 × UInt32 × UInt32 × UInt32 × UInt32 × UInt32 × UInt32 × UInt32 × Int)) :=
 if decide (M.2.2.2.2.2.2.2.2<64) then
  B3 Bv M.2.2.2.2.2.2.2.2>>=λU =>
  B3 r1 M.2.2.2.2.2.2.2.2>>=λa1 =>
  Jz M.2.2.2.2.1 6 11 25>>=λa2 =>
  some ((((M.2.2.2.2.2.2.2.1+a2)+((M.2.2.2.2.1 &&& M.2.2.2.2.2.1) ^^^ ((~~~M.2.2.2.2.1) &&& M.2.2.2.2.2.2.1)))+U)+a1)>>=λO =>
  Jz M.1 2 13 22>>=λa6 =>
  some (a6+(((M.1 &&& M.2.1) ^^^ (M.1 &&& M.2.2.1)) ^^^ (M.2.1 &&& M.2.2.1)))>>=λa7 =>
  some (M.2.2.2.1+O)>>=λa8 =>
  some (.inr (O+a7,M.1,M.2.1,M.2.2.1,a8,M.2.2.2.2.1,M.2.2.2.2.2.1,M.2.2.2.2.2.2.1,w64 (M.2.2.2.2.2.2.2.2+1)))
 else
  some (.inl (M.1,M.2.1,M.2.2.1,M.2.2.2.1,M.2.2.2.2.1,M.2.2.2.2.2.1,M.2.2.2.2.2.2.1,M.2.2.2.2.2.2.2.1))
def OE (O:UInt32 × UInt32 × UInt32 × UInt32 × UInt32 × UInt32 × UInt32 × UInt32) (M:(Vector UInt32 8) × Int):Option (Sum ((Vector UInt32 8)) ((Vector UInt32 8) × Int)) :=
 if decide (M.2<8) then
  B3 (#v[O.1,O.2.1,O.2.2.1,O.2.2.2.1,O.2.2.2.2.1,O.2.2.2.2.2.1,O.2.2.2.2.2.2.1,O.2.2.2.2.2.2.2]:Vector UInt32 8) M.2>>=λU =>
  B3 M.1 M.2>>=λa1 =>
  B3 M.1 M.2>>=λa2 =>
  some (.inr (BY M.1 M.2 (a1+U),w64 (M.2+1)))
 else
  some (.inl M.1)
def LY (c0:Vector UInt32 8) (a1:List UInt8):Option ((Vector UInt32 8)) :=
 OC a1>>=λr1 =>
 B3 c0 0>>=λx4 =>
 B3 c0 1>>=λx6 =>
 B3 c0 2>>=λx8 =>
 B3 c0 3>>=λM =>
 B3 c0 4>>=λO =>
 B3 c0 5>>=λU =>
 B3 c0 6>>=λa2 =>
 B3 c0 7>>=λa6 =>
 (iter (Hm r1) (x4,x6,x8,M,O,U,a2,a6,0))>>=λa7 =>
 iter (OE a7) (c0,0)
theorem zqh (U:Value) (a7:Nat) (a2:(Vector UInt32 8)->AK) (O:∀ y,Foc (a2 y) a7 (Av 8 Aa) y a2) (c0:Vector UInt32 8) (a1:List UInt8):Aj Tryz.prog 195 [.val (A7 U a7),.rd (A3 u8R) a1] [(1,some (U,a2 c0)),Am] (LY c0 a1) (λr nv=>⟨[],[(1,some (U,a2 r)),(1001,some (.bool true,.glob 1 (Av 64 Aa) Bv))]⟩):=by
 refine Aq 126 func195 Z Z Z λH w=>?_;refine A0<|Zm Z<|Zc [] [] func208 Z (zme _) λr1 n2=>Eb Z (AL 2 Jl (.zr (R:=(Av 64 Aa)) (x:=(Vector.replicate 64 0)) Sy)) λv3=>Es (sto 2 Z Z fH Z Jl)<|Zn<|A9<|Dr mixed (by kernel_rfl)<|Rq Z (mv Z)<|Rq Z (nckP 1 Z Z (O _))<|BM λx4 h5=>Rq Z (ixH 1 Z Z (O _) Z h5 tu182 B0)<|Rq Z (ld 1 Z Z ((O _).part (.el h5)) Be Z)<|Rq Z (mv Z)<|Rq Z (nckP 1 Z Z (O _))<|BM λx6 h7=>Rq Z (ixH 1 Z Z (O _) Z h7 tu182 B0)<|Rq Z (ld 1 Z Z ((O _).part (.el h7)) Be Z)<|Rq Z (mv Z)<|Rq Z (nckP 1 Z Z (O _))<|BM λx8 h9=>Rq Z (ixH 1 Z Z (O _) Z h9 tu182 B0)<|Rq Z (ld 1 Z Z ((O _).part (.el h9)) Be Z)<|Rq Z (mv Z)<|Rq Z (nckP 1 Z Z (O _))<|BM λaq ab=>Rq Z (ixH 1 Z Z (O _) Z ab tu182 B0)<|Rq Z (ld 1 Z Z ((O _).part (.el ab)) Be Z)<|Rq Z (mv Z)<|Rq Z (nckP 1 Z Z (O _))<|BM λar ac=>Rq Z (ixH 1 Z Z (O _) Z ac tu182 B0)<|Rq Z (ld 1 Z Z ((O _).part (.el ac)) Be Z)<|Rq Z (mv Z)<|Rq Z (nckP 1 Z Z (O _))<|BM λav ad=>Rq Z (ixH 1 Z Z (O _) Z ad tu182 B0)<|Rq Z (ld 1 Z Z ((O _).part (.el ad)) Be Z)<|Rq Z (mv Z)<|Rq Z (nckP 1 Z Z (O _))<|BM λaw ae=>Rq Z (ixH 1 Z Z (O _) Z ae tu182 B0)<|Rq Z (ld 1 Z Z ((O _).part (.el ae)) Be Z)<|Rq Z (mv Z)<|Rq Z (nckP 1 Z Z (O _))<|BM λax af=>Rq Z (ixH 1 Z Z (O _) Z af tu182 B0)<|Rq Z (ld 1 Z Z ((O _).part (.el af)) Be Z)<|Rq Z (asg Z)<|Rq Z (asg Z)<|Rq Z (asg Z)<|Rq Z (asg Z)<|Rq Z (asg Z)<|Rq Z (asg Z)<|Rq Z (asg Z)<|Rq Z (asg Z)<|Ds<|Ak<|B6 (λ(M:UInt32 × UInt32 × UInt32 × UInt32 × UInt32 × UInt32 × UInt32 × UInt32) aa ww=>Sta (ctx 126 H [(1,some (U,a2 c0)),Am] w) [(0,.val (A7 U a7)),(5,.rd Aa M.1),(6,.rd Aa M.2.1),(7,.rd Aa M.2.2.1),(8,.rd Aa M.2.2.2.1),(9,.rd Aa M.2.2.2.2.1),(10,.rd Aa M.2.2.2.2.2.1),(11,.rd Aa M.2.2.2.2.2.2.1),(12,.rd Aa M.2.2.2.2.2.2.2)] [(1,some (U,a2 c0)),Am] aa ww) ?_ (λM=>?_)
 ·refine A0<|Zm Z<|Zn<|AJ (λ(a6:UInt32 × UInt32 × UInt32 × UInt32 × UInt32 × UInt32 × UInt32 × UInt32 × Int) aa ww=>Sta (ctx 126 H [(1,some (U,a2 c0)),Am] w) [(0,.val (A7 U a7)),(4,.val (A7 v3 0)),(5,.rd Aa a6.1),(6,.rd Aa a6.2.1),(7,.rd Aa a6.2.2.1),(8,.rd Aa a6.2.2.2.1),(9,.rd Aa a6.2.2.2.2.1),(10,.rd Aa a6.2.2.2.2.2.1),(11,.rd Aa a6.2.2.2.2.2.2.1),(12,.rd Aa a6.2.2.2.2.2.2.2.1),(52,.rd A2 a6.2.2.2.2.2.2.2.2)] [(1,some (U,a2 c0)),(2,some (v3,.box 244 [.rd (Av 64 Aa) r1])),Am] aa ww) (λaa ww h=>Zu h [1,2,1001]) (λa6=>?_)
  refine A0<|Zq (I.lss Z Z)<|Zn<|A9<|gIf Z Z (λak=>?_) (λak=>?_)
  ·refine Zt<|A9<|AD<|A0<|Zm Z<|Zb Z<|A9<|BK [] mixed Z Z<|A6 0 Z Z (mv Z)<|A6 1 Z Z (mv Z)<|A6 4 Z Z (mv Z)<|A6 5 Z Z (mv Z)<|A6 6 Z Z (W.and Z Z)<|A6 7 Z Z (mv Z)<|A6 8 Z Z (W.cpl Z)<|A6 9 Z Z (mv Z)<|A6 10 Z Z (W.and Z Z)<|A6 11 Z Z (W.xor Z Z)<|A6 13 Z Z (mv Z)<|BA λay am=>A6 14 Z Z (ixG 1001 Z Z am underlying244 B0)<|A6 15 Z Z (ldR Z Be)<|A6 17 Z Z (mv Z)<|BA λaz ah=>A6 18 Z Z (ixB 2 Z Z Z ah underlying244 B0)<|A6 19 Z Z (ld 2 Z Z (fP (.el ah)) Be Z)<|BH 2 [] [] Z (by kernel_rfl) Z (gd0 Z) Z func209 Z Z (T4 _ _ _ _) (aQ Z<|aQ Z<|aQ Z<|aQ Z<|aN) rN Z (λ_ _=>Cr) λb0 b1=>A6 3 Z Z (W.add Z Z)<|A6 12 Z Z (W.add Z Z)<|A6 16 Z Z (W.add Z Z)<|A6 20 Z Z (W.add Z Z)<|A6 21 Z Z (asg Z)<|Ha 14 Z Z λb2=>Bg (by kernel_rfl)<|Ak<|A0<|Zm Z<|Zc [] [] func209 Z (T4 _ _ _ _) λb3 b4=>Zm Z<|Zm Z<|Zq (W.and Z Z)<|Zm Z<|Zm Z<|Zq (W.and Z Z)<|Zq (W.xor Z Z)<|Zm Z<|Zm Z<|Zq (W.and Z Z)<|Zq (W.xor Z Z)<|Zq (W.add Z Z)<|Za Z<|AR 15 Z λb5=>Zn<|Al<|Zm Z<|Zm Z<|Zq (W.add Z Z)<|Zm Z<|Zm Z<|Zm Z<|Zm Z<|Zm Z<|Zq (W.add Z Z)<|Zm Z<|Zm Z<|Zm Z<|Za Z<|Za Z<|Za Z<|Za Z<|Za Z<|AR 9 Z λb6=>Za Z<|Za Z<|Za Z<|Ah<|Au<|Ak<|Al<|Zq (I.add Z Z)<|Zm Z<|Ah<|AB (λaa ww h=>Zu h [1,2,1001])
  ·refine AF<|AG<|AI<|AA (λaa ww h=>Zu h [1,1001])
 ·refine A0<|Zm Z<|Zm Z<|Zm Z<|Zm Z<|Zm Z<|Zm Z<|Zm Z<|Zm Z<|Zq (litA (R:=Aa) [M.1,M.2.1,M.2.2.1,M.2.2.2.1,M.2.2.2.2.1,M.2.2.2.2.2.1,M.2.2.2.2.2.2.1,M.2.2.2.2.2.2.2] (#v[M.1,M.2.1,M.2.2.1,M.2.2.2.1,M.2.2.2.2.1,M.2.2.2.2.2.1,M.2.2.2.2.2.2.1,M.2.2.2.2.2.2.2]:Vector UInt32 8) (pP Z Z<|pP Z Z<|pP Z Z<|pP Z Z<|pP Z Z<|pP Z Z<|pP Z Z<|pP Z Z<|pN) Z tu182 DU Z B0)<|Zm Z<|Zn<|AJ (λ(a8:(Vector UInt32 8) × Int) aa ww=>Sta (ctx 126 H [(1,some (U,a2 c0)),Am] w) [(0,.val (A7 U a7)),(111,.rd (Av 8 Aa) (#v[M.1,M.2.1,M.2.2.1,M.2.2.2.1,M.2.2.2.2.1,M.2.2.2.2.2.1,M.2.2.2.2.2.2.1,M.2.2.2.2.2.2.2]:Vector UInt32 8)),(112,.rd A2 a8.2)] [(1,some (U,a2 a8.1)),Am] aa ww) (λaa ww h=>Zu h [1,1001]) (λa8=>?_)
  refine A0<|Zq (I.lss Z Z)<|Zn<|A9<|gIf Z Z (λao=>?_) (λao=>?_)
  ·refine Zt<|A9<|AD<|A0<|Zm Z<|An λb7 ap=>Zq (idxV Z Z ap tu182 B0 Be)<|Za Z<|Zb Z<|BK [1] mixed Z Z<|A6 0 Z Z (mv Z)<|A6 1 Z Z (mv Z)<|A6 2 Z Z (nckP 1 Z Z (O _))<|BA λb8 ai=>A6 3 Z Z (ixH 1 Z Z (O _) Z ai tu182 B0)<|A6 5 Z Z (mv Z)<|A6 7 Z Z (nckP 1 Z Z (O _))<|hRun 4 Z (by kernel_rfl) (gd0 Z) Z Z Cr (ld 1 Z Z ((O _).part (.el ai)) Be Z)<|A6 6 Z Z (W.add Z Z)<|BA λb9 aj=>A6 8 Z Z (ixH 1 Z Z (O _) Z aj tu182 B0)<|Zp 9 Z Z Z Z Z (sto 1 Z Z ((O _).part (.el aj)) Z B0)<|Bg (by kernel_rfl)<|Au<|Ak<|Al<|Zq (I.add Z Z)<|Zm Z<|Ah<|AB (λaa ww h=>Zu h [1,1001])
  ·refine AF<|AG<|AI<|Ze [] [1,1001] Z
def JA (M:Cg × (List UInt8)):Option (Sum (Cg × (List UInt8)) (Cg × (List UInt8))) :=
 if decide (64<=(M.2.length:Int)) then
  LY M.1.Words M.2>>=λO =>
  cut M.2 64 (M.2.length:Int)>>=λU =>
  some (.inr ({ M.1 with Words:=O },U))
 else
  some (.inl (M.1,M.2))
def Io (a0:Cg) (O:List UInt8):Option (Cg) :=
 GA [a0.Rest,O]>>=λr4 =>
 (iter (JA) (a0,r4))>>=λM =>
 OD M.2>>=λU =>
 some (⟨({ M.1 with N:=w64 (M.1.N+(O.length:Int)) }).Words,U,({ M.1 with N:=w64 (M.1.N+(O.length:Int)) }).N⟩:Cg)
theorem T6 (a0:Cg) (O:List UInt8):Aj Tryz.prog 169 [.rd D5 a0,.rd (A3 u8R) O] [Am] (Io a0 O) (λr nv=>⟨[.rd D5 r],[(1001,some (.bool true,.glob 1 (Av 64 Aa) Bv))]⟩):=by
 refine Aq 29 func169 Z Z Z λH w=>?_;refine A0<|Eb Z (bx 1 Z) λv1=>Eb Z (AL 2 Fv (ZrE.rd (R:=(Av 8 Aa)) (x:=(Vector.replicate 8 0)) Gt (ZrE.nilS (ZrE.rd (R:=A2) (x:=0) (Zr.num Z) ZrE.nil Z)) Z)) λv2=>Zn<|A0<|Zq (faB 1 Z Z underlying208 Z (by exact Dc))<|Zq (ld 1 Z Z (fP (Y6 _)) Hd Z)<|Zm Z<|Ef Z (lit (R:=(A3 u8R)) ([a0.Rest,O]:List (List UInt8)) 3 (pP Z Z<|pP Z Z<|pN) Z tu136 Dc Z Z) λv3=>BG 3 [9] Z (fS Z<|fN)<|Zc [] [(100,4)] func93 Z (Oy _) λr4 n5=>Zb Z<|B6 (λ(M:Cg × (List UInt8)) U ww=>Sta (ctx 29 H [Am] w) [(1,.rd (A3 u8R) O),(2,.val (A7 v1 0)),(4,.val (A7 v2 0)),(5,.rd (A3 u8R) M.2)] [(1,some (v1,.box 208 [.rd D5 M.1])),(2,some (v2,.box 208 [.rd (Av 8 Aa) (Vector.replicate 8 0),.val (.slice none 0 0),.rd A2 0])),Am] U ww) ?_ (λM=>?_)
 ·refine gFrz 4 [10,5] Z (fS Z<|fS Z<|fN)<|AJ (λ(s7:Cg × (List UInt8)) U ww=>Sta (ctx 29 H [Am] w) [(1,.rd (A3 u8R) O),(2,.val (A7 v1 0)),(4,.val (A7 v2 0)),(5,.rd (A3 u8R) s7.2)] [(1,some (v1,.box 208 [.rd D5 s7.1])),(2,some (v2,.box 208 [.rd (Av 8 Aa) (Vector.replicate 8 0),.val (.slice none 0 0),.rd A2 0])),Am] U ww) (λU ww h=>Zu h [1,2,1001]) (λs7=>?_);refine A9<|A0<|Zm Z<|Zq (Ar Z .rd Z tu114)<|Zq (I.geq Z Z)<|Zj Z (λh8=>?_) (λh8=>?_)
  ·refine Zt<|AD<|A0<|Zq (faB 1 Z Z underlying208 Z (by exact DU))<|Zm Z<|call [1,1001] [(1,1)] Z func195 Z Z (zqh _ _ (λy9=>.box 208 [.rd D5 ({ s7.1 with Words:=y9 })]) (λ_=>(fP (Sx _))) _ _) (Y2 Z Z) (Zi Z<|Zi Z<|rN) λa8 ab=>Zn<|Al<|Zm Z<|An λac a7=>Zq (cut' Z (.to Z) .no a7 tu114 ti5)<|Za Z<|Ah<|Au<|AB (λU ww h=>Zu h [1,2,1001])
  ·refine AF<|AG<|AI<|AA (λU ww h=>Zu h [1,2,1001])
 ·refine A9<|BK [1,1020] mixed Z Z<|A6 0 Z Z (faB 1 Z Z underlying208 Z (by exact ti3))<|A6 2 Z Z (mv Z)<|A6 3 Z Z (Ar Z .rd Z tu114)<|A6 5 Z Z (mv Z)<|hAlt [1,6] (by kernel_rfl) Z ⟨?_,?_,trivial⟩
  ·refine oRun 1 Z (gd0 Z) Z Z Cr (ld 1 Z Z (fP (Ia _)) ty3 Z)<|A6 4 Z Z (I.add Z Z)<|BH 6 [] [(100,1020)] Z (by kernel_rfl) Z (gd0 Z) Z func196 Z Z (T5 _) (Y1 Z) rN Z (λ_ _=>Ce) λa2 ad=>A6 7 Z Z (faB 1 Z Z underlying208 Z (by exact ti3))<|Zp 8 Z Z Z Z Z (sto 1 Z Z (fP (Ia _)) Z ti3)<|Zf 9 Z Z Ce (faB 1 Z Z underlying208 Z (by exact Dc))<|hSpl (R:=D5) 1 Z (Sp.via (Sp.prod (Sp.prod (Sp.prod Sp.unit))))<|Zp 10 Z Z Z Z Z (Dp 1 Z Z (Bb.cast (Bb.next BF (Bb.here BF)) Z) Z Bo Ay Dc)<|Bg (by kernel_rfl)<|Ak<|A0<|lPow [.rd (Av 8 Aa) (({ M.1 with N:=w64 (M.1.N+(O.length:Int)) }).Words),.rd (A3 u8R) a2,.rd A2 (({ M.1 with N:=w64 (M.1.N+(O.length:Int)) }).N)] 1 1020 [.rd (Av 8 Aa) (({ M.1 with N:=w64 (M.1.N+(O.length:Int)) }).Words)] [.rd A2 (({ M.1 with N:=w64 (M.1.N+(O.length:Int)) }).N)] Z Z Z Z Z<|BC (R:=D5) (⟨({ M.1 with N:=w64 (M.1.N+(O.length:Int)) }).Words,a2,({ M.1 with N:=w64 (M.1.N+(O.length:Int)) }).N⟩:Cg) 1 Z (Sp.via (Sp.prod (Sp.prod (Sp.prod Sp.unit))))<|Zq (ld 1 Z Z fH Gw Z)<|Bh u8R [.rd (Av 8 Aa) (Vector.replicate 8 0),.rd (A3 u8R) [],.rd A2 0] 2 [.rd (Av 8 Aa) (Vector.replicate 8 0)] [.rd A2 0] Z Z Z<|BC (R:=D5) (⟨(Vector.replicate 8 0),[],0⟩:Cg) 2 Z (Sp.via (Sp.prod (Sp.prod (Sp.prod Sp.unit))))<|Es (sto 2 Z Z fH Z Fv)<|Zn<|A5<|Bu [] [1001] Z (eC 2 Z Z Gw<|eN) (y1 Z)
  ·refine Lt 6 [] [(100,1020)] Z Z (gd0 Z) Z func196 Z Z (T5 _) (Y1 Z) rN Z (λ_ _=>Ce) λa6 ae=>hRun 1 Z (by kernel_rfl) (gd0 Z) Z Z Cr (ld 1 Z Z (fP (Ia _)) ty3 Z)<|A6 4 Z Z (I.add Z Z)<|A6 7 Z Z (faB 1 Z Z underlying208 Z (by exact ti3))<|Zp 8 Z Z Z Z Z (sto 1 Z Z (fP (Ia _)) Z ti3)<|Zf 9 Z Z Ce (faB 1 Z Z underlying208 Z (by exact Dc))<|hSpl (R:=D5) 1 Z (Sp.via (Sp.prod (Sp.prod (Sp.prod Sp.unit))))<|Zp 10 Z Z Z Z Z (Dp 1 Z Z (Bb.cast (Bb.next BF (Bb.here BF)) Z) Z Bo Ay Dc)<|Bg (by kernel_rfl)<|Ak<|A0<|lPow [.rd (Av 8 Aa) (({ M.1 with N:=w64 (M.1.N+(O.length:Int)) }).Words),.rd (A3 u8R) a6,.rd A2 (({ M.1 with N:=w64 (M.1.N+(O.length:Int)) }).N)] 1 1020 [.rd (Av 8 Aa) (({ M.1 with N:=w64 (M.1.N+(O.length:Int)) }).Words)] [.rd A2 (({ M.1 with N:=w64 (M.1.N+(O.length:Int)) }).N)] Z Z Z Z Z<|BC (R:=D5) (⟨({ M.1 with N:=w64 (M.1.N+(O.length:Int)) }).Words,a6,({ M.1 with N:=w64 (M.1.N+(O.length:Int)) }).N⟩:Cg) 1 Z (Sp.via (Sp.prod (Sp.prod (Sp.prod Sp.unit))))<|Zq (ld 1 Z Z fH Gw Z)<|Bh u8R [.rd (Av 8 Aa) (Vector.replicate 8 0),.rd (A3 u8R) [],.rd A2 0] 2 [.rd (Av 8 Aa) (Vector.replicate 8 0)] [.rd A2 0] Z Z Z<|BC (R:=D5) (⟨(Vector.replicate 8 0),[],0⟩:Cg) 2 Z (Sp.via (Sp.prod (Sp.prod (Sp.prod Sp.unit))))<|Es (sto 2 Z Z fH Z Fv)<|Zn<|A5<|Bu [] [1001] Z (eC 2 Z Z Gw<|eN) (y1 Z)
def JB (y3:UInt64) (M:(List UInt8) × Int):Option (Sum ((List UInt8)) ((List UInt8) × Int)) :=
 if decide (0<=M.2) then
  chk (0<=M.2)>>=λa1 =>
  app 1 M.1 [(BZ y3 ((M.2:Int).toNat)).toUInt8]>>=λO =>
  some (w64 (M.2 - 8))>>=λU =>
  some (.inr (O,U))
 else
  some (.inl M.1)
def Ip (U:Cg) (M:V3 × Int):Option (Sum (V3) (V3 × Int)) :=
 if decide (M.2<8) then
  B3 U.Words M.2>>=λO =>
  B3 M.1 (w64 (4 * M.2))>>=λa1 =>
  B3 (BY M.1 (w64 (4 * M.2)) ((BD O 24).toUInt8)) (w64 ((w64 (4 * M.2))+1))>>=λa2 =>
  B3 (BY (BY M.1 (w64 (4 * M.2)) ((BD O 24).toUInt8)) (w64 ((w64 (4 * M.2))+1)) ((BD O 16).toUInt8)) (w64 ((w64 (4 * M.2))+2))>>=λa6 =>
  B3 (BY (BY (BY M.1 (w64 (4 * M.2)) ((BD O 24).toUInt8)) (w64 ((w64 (4 * M.2))+1)) ((BD O 16).toUInt8)) (w64 ((w64 (4 * M.2))+2)) ((BD O 8).toUInt8)) (w64 ((w64 (4 * M.2))+3))>>=λa7 =>
  some (.inr (BY (BY (BY (BY M.1 (w64 (4 * M.2)) ((BD O 24).toUInt8)) (w64 ((w64 (4 * M.2))+1)) ((BD O 16).toUInt8)) (w64 ((w64 (4 * M.2))+2)) ((BD O 8).toUInt8)) (w64 ((w64 (4 * M.2))+3)) O.toUInt8,w64 (M.2+1)))
 else
  some (.inl M.1)
def LZ (a0:Cg):Option (V3) :=
 some ((UInt64.ofInt a0.N) * 8)>>=λU =>
 appz 1 [128] 0 (Int.tmod (w64 (119 - (Int.tmod a0.N 64))) 64)>>=λx5 =>
 (iter (JB U) (x5,56))>>=λs8 =>
 (Io a0 s8>>=λM =>
 iter (Ip M) ((Vector.replicate 32 0),0))>>=λO =>
 some O
theorem zsl (a0:Cg):Aj Tryz.prog 170 [.rd D5 a0] [Am] (LZ a0) (λr nv=>⟨[.rd aZ r],[(1001,some (.bool true,.glob 1 (Av 64 Aa) Bv))]⟩):=by
 refine Aq 66 func170 Z Z Z λH w=>?_;refine A0<|Eb Z (bx 1 Z) λv1=>Eb Z (AL 2 Ax (.zr (R:=aZ) (x:=(Vector.replicate 32 0)) C0)) λv2=>Zn<|A0<|Zq (faB 1 Z Z underlying208 Z (by exact ti3))<|Zq (ld 1 Z Z (fP (Ia _)) ty3 Z)<|Zq (I.toU Z tu3 tu52)<|Zq (U.mul Z Z)<|Za Z<|AR 3 Z λy3=>Zn<|A0<|Ef Z (lit (R:=u8R) ([128]:List UInt8) 3 (pP Z Z<|pN) Z tu114 ti5 Z Z) λv4=>Zq (faB 1 Z Z underlying208 Z (by exact ti3))<|Zq (ld 1 Z Z (fP (Ia _)) ty3 Z)<|Zq (I.rem Z Z (by decide))<|Zq (I.sub Z Z)<|Zq (I.rem Z Z (by decide))<|An λx5 h6=>Ef Z (apZO 3 Z Z Z h6 tu114 tu3 ti5 (Zr.num Z) Z) λv7=>Zb Z<|B6 (λ(s8:(List UInt8)) M O=>∃ nv:Nat->Value,Sta (ctx 66 H [Am] w) [(1,.val (A7 v1 0)),(2,.val (A7 v2 0)),(4,.val (nv 0))] [(1,some (v1,.box 208 [.rd D5 a0])),(2,some (v2,.box 61 [.rd aZ (Vector.replicate 32 0)])),(3,some ((nv 0),.list u8R 5 s8)),Am] M O) ?_ (λs8=>?_)
 ·refine A0<|Zb Z<|AJ (λ(s9:(List UInt8) × Int) M O=>∃ nv:Nat->Value,Sta (ctx 66 H [Am] w) [(1,.val (A7 v1 0)),(2,.val (A7 v2 0)),(3,.rd Ao y3),(4,.val (nv 0)),(5,.rd A2 s9.2)] [(1,some (v1,.box 208 [.rd D5 a0])),(2,some (v2,.box 61 [.rd aZ (Vector.replicate 32 0)])),(3,some ((nv 0),.list u8R 5 s9.1)),Am] M O) (λM O h=>⟨nvl [v7],Zu h [1,2,3,1001]⟩) (λs9=>?_);refine gEx λac=>A9<|A0<|Zm Z<|Zq (I.geq Z Z)<|Zj Z (λad=>?_) (λad=>?_)
  ·refine Zt<|A9<|AD<|Al<|Zm Z<|Zm Z<|Zm Z<|An λam ae=>Zq (U.shr Z Z (CI ae))<|Zq (U.toB Z tu52 tu5)<|Ef Z (lit (R:=u8R) ([(BZ y3 ((s9.2:Int).toNat)).toUInt8]:List UInt8) 1100 (pP Z Z<|pN) Z tu114 ti5 Z Z) λao=>An λap af=>Ef Z (apn 3 Z Z Z (.own 1100 Z) af tu114 ti5 Z Z Z) λah=>Za Z<|Ah<|Au<|Ak<|Al<|Zm Z<|Zq (I.sub Z Z)<|Za Z<|AR 5 Z λaq=>Ah<|AB (λM O h=>⟨nvl [ah],Zu h [1,2,3,1001]⟩)
  ·refine AF<|AG<|AI<|AA (λM O h=>⟨nvl [(ac 0)],Zu h [1,2,3,1001]⟩)
 ·refine gEx λar=>B6 (λ(a2:V3) M O=>Sta (ctx 66 H [Am] w) [(2,.val (A7 v2 0))] [(2,some (v2,.box 61 [.rd aZ a2])),Am] M O) ?_ (λa2=>?_)
  ·refine A0<|Zq (ld 1 Z Z fH Gw Z)<|Zm Z<|BG 3 [4,31] Z (fS Z<|fS Z<|fN)<|Zc [1001] [] func169 Z (T6 _ _) λai av=>Zq (fldV Z (Sx _) Z underlying208 Z Gv)<|Zm Z<|Zn<|AJ (λ(a1:V3 × Int) M O=>Sta (ctx 66 H [Am] w) [(2,.val (A7 v2 0)),(33,.rd (Av 8 Aa) ai.Words),(34,.rd A2 a1.2)] [(2,some (v2,.box 61 [.rd aZ a1.1])),Am] M O) (λM O h=>Zu h [2,1001]) (λa1=>?_)
   refine A0<|Zq (I.lss Z Z)<|Zn<|A9<|gIf Z Z (λaj=>?_) (λaj=>?_)
   ·refine Zt<|A9<|AD<|A0<|Zm Z<|An λaw ak=>Zq (idxV Z Z ak tu182 B0 Be)<|Za Z<|Zb Z<|Al<|Zm Z<|Zq (I.mul Z Z)<|Zm Z<|Zq (I.mul Z Z)<|Zq (I.add Z Z)<|Zm Z<|Zq (I.mul Z Z)<|Zq (I.add Z Z)<|Zm Z<|Zq (I.mul Z Z)<|Zq (I.add Z Z)<|Zm Z<|Zq (W.shr Z Z (Int.natCast_nonneg _))<|Zq (W.toB Z tu65 tu5)<|Zm Z<|Zq (W.shr Z Z (Int.natCast_nonneg _))<|Zq (W.toB Z tu65 tu5)<|Zm Z<|Zq (W.shr Z Z (Int.natCast_nonneg _))<|Zq (W.toB Z tu65 tu5)<|Zm Z<|Zq (W.toB Z tu65 tu5)<|An λax a6=>Zq (ixB 2 Z Z Z a6 tu61 ti5)<|Es (sto 2 Z Z (fP (.el a6)) Z ti5)<|An λay a7=>Zq (ixB 2 Z Z Z a7 tu61 ti5)<|Es (sto 2 Z Z (fP (.el a7)) Z ti5)<|An λaz a8=>Zq (ixB 2 Z Z Z a8 tu61 ti5)<|Es (sto 2 Z Z (fP (.el a8)) Z ti5)<|An λb0 ab=>Zq (ixB 2 Z Z Z ab tu61 ti5)<|Es (sto 2 Z Z (fP (.el ab)) Z ti5)<|Ah<|Au<|Ak<|Al<|Zq (I.add Z Z)<|Zm Z<|Ah<|AB (λM O h=>Zu h [2,1001])
   ·refine AF<|AG<|AI<|AA (λM O h=>Zu h [2,1001])
  ·refine A0<|Zq (ld 2 Z Z fH AN Z)<|Es (sto 2 Z Z fH Z Ax)<|Zn<|A5<|Bu [] [1001] Z (eC 2 Z Z AN<|eN) (y1 Z)
def JC (a0:List (List UInt8)) (M:Int):Option (Sum (Sum Int Unit) Int) :=
 if decide (M<(a0.length:Int)) then
  idx a0 M>>=λO =>
  OB O>>=λU =>
  if U then
   some (.inl (.inl M))
  else
   some (.inr (w64 (M+1)))
 else
  some (.inl (.inr ()))
def OF (a0:List (List UInt8)):Option (Int) :=
 Bi (iter (JC a0) 0) λs1 =>
 some (-1)
theorem z8x (a0:List (List UInt8)):Aj Tryz.prog 194 [.rd (A3 (A3 u8R)) a0,.val (.func (.func 167) #[] #[])] [] (OF a0) (λr nv=>⟨[.rd A2 r],[]⟩):=by
 refine Aq 19 func194 Z Z Z λH w=>?_;refine A0<|Zb Z<|Bt (λ(s1:Unit) M O=>Sta (ctx 19 H [] w) [] [] M O) ?_ (λs1=>?_)
 ·refine A0<|Zm Z<|Zq (Ar Z .rd Z tu136)<|Zm Z<|Zn<|AJ (λ(U:Int) M O=>Sta (ctx 19 H [] w) [(0,.rd (A3 (A3 u8R)) a0),(1,.val (.func (.func 167) #[] #[])),(7,.rd A2 (a0.length:Int)),(8,.rd A2 U)] [] M O) (λM O h=>Zu h []) (λU=>?_);refine A0<|Zq (I.lss Z Z)<|Zn<|A9<|gIf Z Z (λh3=>?_) (λh3=>?_)
  ·refine Zt<|A9<|AD<|A0<|Zm Z<|Zb Z<|A0<|Zm Z<|Zm Z<|Zm Z<|An λx4 h5=>Zq (ixR Z Z h5 tu136 Dc Z)<|Zq (ldR Z Hd)<|DC [] [] (gd0 Z) Z Z func167 Z Z (zma _) (Y1 Z) (cN) rN λr6 n7=>Zj Z (λh8=>?_) (λh8=>?_)
   ·refine A0<|Zm Z<|Zb Z<|A5<|B7<|Ap<|Bp<|Bl<|Ze [] [] Z
   ·refine AU<|Au<|Ak<|Al<|Zq (I.add Z Z)<|Zm Z<|Ah<|AB (λM O h=>Zu h [])
  ·refine AF<|AG<|AI<|Bk (λM O h=>Zu h [])
 ·refine A0<|Zb Z<|A5<|Ze [] [] Z
def M1 (a0:List (List UInt8)):Option (Bool) :=
 OF a0>>=λM =>
 some (decide (0<=M))>>=λO =>
 some O
theorem z81 (a0:List (List UInt8)):Aj Tryz.prog 166 [.rd (A3 (A3 u8R)) a0,.val (.func (.func 167) #[] #[])] [] (M1 a0) (λr nv=>⟨[.rd Ai r],[]⟩):=by
 refine Aq 9 func166 Z Z Z λH w=>?_;refine A0<|Zb Z<|A0<|Zm Z<|Zm Z<|Zc [] [] func194 Z (z8x _) λr1 n2=>Zq (I.geq Z Z)<|Za Z<|AR 4 Z λy3=>Zn<|A5<|Ze [] [] Z
def JD (a0:List (List UInt8)) (M:Cg × Int):Option (Sum Cg (Cg × Int)) :=
 if decide (M.2<(a0.length:Int)) then
  idx a0 M.2>>=λO =>
  Io M.1 O>>=λU =>
  some (.inr (U,w64 (M.2+1)))
 else
  some (.inl M.1)
def JE (a0:List (List UInt8)):Option (V3 × Int) :=
 (if decide (20<(a0.length:Int)) then
  some true
 else
  M1 a0>>=λU =>
  some U)>>=λs2 =>
 if s2 then
  some ((Vector.replicate 32 0),4)
 else
  LX>>=λr7 =>
  (iter (JD a0) (r7,0))>>=λM =>
  LZ M>>=λO =>
  some (O,0)
theorem T7 (a0:List (List UInt8)):Aj Tryz.prog 133 [.rd (A3 (A3 u8R)) a0] [Am] (JE a0) (λr nv=>⟨[.rd aZ r.1,.rd A2 r.2],[(1001,some (.bool true,.glob 1 (Av 64 Aa) Bv))]⟩):=by
 refine Aq 28 func133 Z Z Z λH w=>?_;refine A0<|Eb Z (AL 1 Ax (.zr (R:=aZ) (x:=(Vector.replicate 32 0)) C0)) λU=>Zb Z<|A9<|B6 (λ(s2:Bool) M O=>Sta (ctx 28 H [Am] w) [(0,.rd (A3 (A3 u8R)) a0),(2,.val (A7 U 0)),(13,.rd Ai s2)] [(1,some (U,.box 61 [.rd aZ (Vector.replicate 32 0)])),Am] M O) ?_ (λs2=>?_)
 ·refine Al<|Zm Z<|Zq (Ar Z .rd Z tu136)<|Zq (I.gtr Z Z)<|Zm Z<|AY 10 Z (λh3=>?_) (λh3=>?_)
  ·refine Ac 9 Z h3<|Zk Z<|Zk Z<|Zq (pkT Z Z)<|Ah<|AA (λM O h=>Zu h [1,1001])
  ·refine Ac 9 Z h3<|Ab Zx Z Z (mv Z)<|CH [] [] Zx Z func166 Z Z (z81 _) (Y2 Z Z) rN λr4 n5=>Zq (pkF Z Z)<|Ah<|AA (λM O h=>Zu h [1,1001])
 ·refine gIf Z Z (λh6=>?_) (λh6=>?_)
  ·refine A0<|Zq (bldG (x':=((Vector.replicate 32 0):V3)) tu61 Ax C0 ti5 (Bld.done Z))<|Es (sto 1 Z Z fH Z Ax)<|Zb Z<|A5<|Ap<|Bu [] [1001] Z (eC 1 Z Z AN<|eE Z<|eN) (y1 Z)
  ·refine Zt<|A0<|Zc [] [] func168 Z (zqf) λr7 n8=>Eb Z (AL 1100 Fv (ZrE.rd (R:=(Av 8 Aa)) (x:=(Vector.replicate 8 0)) Gt (ZrE.nilS (ZrE.rd (R:=A2) (x:=0) (Zr.num Z) ZrE.nil Z)) Z)) λv9=>Bh u8R [.rd (Av 8 Aa) (Vector.replicate 8 0),.rd (A3 u8R) [],.rd A2 0] 1100 [.rd (Av 8 Aa) (Vector.replicate 8 0)] [.rd A2 0] Z Z Z<|BC (R:=D5) (⟨(Vector.replicate 8 0),[],0⟩:Cg) 1100 Z (Sp.via (Sp.prod (Sp.prod (Sp.prod Sp.unit))))<|Es (sto 1100 Z Z fH Z Fv)<|Zn<|B6 (λ(a2:Cg) M O=>Sta (ctx 28 H [Am] w) [(2,.val (A7 U 0)),(4,.val (A7 v9 0))] [(1,some (U,.box 61 [.rd aZ (Vector.replicate 32 0)])),(1100,some (v9,.box 208 [.rd D5 a2])),Am] M O) ?_ (λa2=>?_)
   ·refine A0<|Zm Z<|Zq (Ar Z .rd Z tu136)<|Zm Z<|Zn<|AJ (λ(a1:Cg × Int) M O=>Sta (ctx 28 H [Am] w) [(2,.val (A7 U 0)),(4,.val (A7 v9 0)),(16,.rd (A3 (A3 u8R)) a0),(17,.rd A2 (a0.length:Int)),(18,.rd A2 a1.2)] [(1,some (U,.box 61 [.rd aZ (Vector.replicate 32 0)])),(1100,some (v9,.box 208 [.rd D5 a1.1])),Am] M O) (λM O h=>Zu h [1,1100,1001]) (λa1=>?_);refine A0<|Zq (I.lss Z Z)<|Zn<|A9<|gIf Z Z (λa6=>?_) (λa6=>?_)
    ·refine Zt<|A9<|AD<|A0<|An λa8 a7=>Zq (ixR Z Z a7 tu136 Dc Z)<|Zq (ldR Z Hd)<|Zb Z<|Al<|Zq (ld 1100 Z Z fH Gw Z)<|Zm Z<|Zc [1001] [] func169 Z (T6 _ _) λab ac=>Es (sto 1100 Z Z fH Z Fv)<|Ah<|Au<|Ak<|Al<|Zq (I.add Z Z)<|Zm Z<|Ah<|AB (λM O h=>Zu h [1,1100,1001])
    ·refine AF<|AG<|AI<|AA (λM O h=>Zu h [1,1100,1001])
   ·refine A0<|Zq (ld 1100 Z Z fH Gw Z)<|Zc [1001] [] func170 Z (zsl _) λad ae=>Es (sto 1 Z Z fH Z Ax)<|Zb Z<|A5<|Bu [] [1001] Z (eC 1 Z Z AN<|eE Z<|eN) (y1 Z)
def M2 (a0:List UInt8):Option (V3 × Int) :=
 JE [a0]>>=λM =>
 some (M.1,M.2)
theorem zt9 (a0:List UInt8):Aj Tryz.prog 102 [.rd (A3 u8R) a0] [Am] (M2 a0) (λr nv=>⟨[.rd aZ r.1,.rd A2 r.2],[(1001,some (.bool true,.glob 1 (Av 64 Aa) Bv))]⟩):=by
 refine Aq 9 func102 Z Z Z λH w=>?_;refine A0<|Eb Z (AL 1 Ax (.zr (R:=aZ) (x:=(Vector.replicate 32 0)) C0)) λv1=>Zb Z<|A0<|Zm Z<|Ef Z (lit (R:=(A3 u8R)) ([a0]:List (List UInt8)) 2 (pP Z Z<|pN) Z tu136 Dc Z Z) λv2=>BG 2 [5] Z (fS Z<|fN)<|Zc [1001] [] func133 Z (T7 _) λr3 n4=>Zq (ext Z Z)<|Zq (ext Z Z)<|Es (sto 1 Z Z fH Z Ax)<|Zb Z<|A5<|Bu [] [1001] Z (eC 1 Z Z AN<|eE Z<|eN) (y1 Z)
def Iq (a0:Ae):Option (V3 × Int) :=
 GB a0>>=λM =>
 if M.2 != 0 then
  some ((Vector.replicate 32 0),M.2)
 else
  M2 M.1>>=λO =>
  some (O.1,O.2)
theorem OG (a0:Ae):Aj Tryz.prog 61 [.rd Ad a0] [Am] (Iq a0) (λr nv=>⟨[.rd aZ r.1,.rd A2 r.2],[(1001,some (.bool true,.glob 1 (Av 64 Aa) Bv))]⟩):=by
 refine Aq 19 func61 Z Z Z λH w=>?_;refine A0<|Eb Z (bx 1 Z) λv1=>Eb Z (AL 2 Ax (.zr (R:=aZ) (x:=(Vector.replicate 32 0)) C0)) λv2=>Zb Z<|A0<|Zq (ld 1 Z Z fH Bz Z)<|Zc [] [(100,3)] func84 Z (T3 _) λr3 n4=>Zm Z<|Zq (ext Z Z)<|Zq (ext Z Z)<|Za Z<|Zb Z<|A9<|A0<|Zm Z<|Zq (I.neq Z Z)<|Zj Z (λM=>?_) (λM=>?_)
 ·refine A0<|Zq (bldG (x':=((Vector.replicate 32 0):V3)) tu61 Ax C0 ti5 (Bld.done Z))<|Zm Z<|Es (sto 2 Z Z fH Z Ax)<|Zb Z<|A5<|Ap<|Bu [] [1001] Z (eC 2 Z Z AN<|eE Z<|eN) (y1 Z)
 ·refine Zt<|A0<|Zm Z<|BG 3 [9,4,15] Z (fS Z<|fS Z<|fS Z<|fN)<|Zc [1001] [] func102 Z (zt9 _) λr6 n7=>Zq (ext Z Z)<|Zq (ext Z Z)<|Es (sto 2 Z Z fH Z Ax)<|Zb Z<|A5<|Bu [] [1001] Z (eC 2 Z Z AN<|eE Z<|eN) (y1 Z)
def F3 (a0:List UInt32) (M:Int):Option (Sum (Sum Bool Unit) Int) :=
 if decide (M<(a0.length:Int)) then
  idx a0 M>>=λO =>
  Ii O>>=λU =>
  if !U then
   some (.inl (.inl false))
  else
   some (.inr (w64 (M+1)))
 else
  some (.inl (.inr ()))
def Hn (a0:List UInt32):Option (Bool) :=
 Bi (iter (F3 a0) 0) λs1 =>
 some true
theorem T8 (a0:List UInt32):Aj Tryz.prog 165 [.rd (A3 Aa) a0] [] (Hn a0) (λr nv=>⟨[.rd Ai r],[]⟩):=by
 refine Aq 15 func165 Z Z Z λH w=>?_;refine A0<|Zb Z<|Bt (λ(s1:Unit) M O=>Sta (ctx 15 H [] w) [] [] M O) ?_ (λs1=>?_)
 ·refine A0<|Zm Z<|Zq (Ar Z .rd Z tu203)<|Zm Z<|Zn<|AJ (λ(U:Int) M O=>Sta (ctx 15 H [] w) [(5,.rd (A3 Aa) a0),(6,.rd A2 (a0.length:Int)),(7,.rd A2 U)] [] M O) (λM O h=>Zu h []) (λU=>?_);refine A0<|Zq (I.lss Z Z)<|Zn<|A9<|gIf Z Z (λh3=>?_) (λh3=>?_)
  ·refine Zt<|A9<|AD<|A0<|An λx4 h5=>Zq (ixR Z Z h5 tu203 B0 Z)<|Zq (ldR Z Be)<|Zb Z<|A0<|Zm Z<|Zc [] [] func122 Z (Om _) λr6 n7=>Zq (By Z)<|Zj Z (λh8=>?_) (λh8=>?_)
   ·refine A0<|Zb Z<|A5<|B7<|Ap<|Bp<|Bl<|Ze [] [] Z
   ·refine AU<|Au<|Ak<|Al<|Zq (I.add Z Z)<|Zm Z<|Ah<|AB (λM O h=>Zu h [])
  ·refine AF<|AG<|AI<|Bk (λM O h=>Zu h [])
 ·refine A0<|Zb Z<|A5<|Ze [] [] Z
def OH (a0:UInt32) (M:UInt64):Option (UInt32 × Int) :=
 Hn [a0]>>=λO =>
 if !O then
  some (0,2)
 else
  Ih a0 M>>=λU =>
  some (U,0)
end
section
theorem zul (a0:UInt32) (M:UInt64):Aj Tryz.prog 131 [.rd Aa a0,.rd Ao M] [] (OH a0 M) (λr nv=>⟨[.rd Aa r.1,.rd A2 r.2],[]⟩):=by
 refine Aq 13 func131 Z Z Z λH w=>?_;refine A0<|Za Z<|Zb Z<|A9<|A0<|Zm Z<|Ef Z (lit (R:=Aa) ([a0]:List UInt32) 1 (pP Z Z<|pN) Z tu203 B0 Z Z) λv1=>BG 1 [7] Z (fS Z<|fN)<|Zc [] [] func165 Z (T8 _) λr2 n3=>Zq (By Z)<|Zj Z (λO=>?_) (λO=>?_)
 ·refine A0<|Za Z<|Zb Z<|A5<|Ap<|Ze [] [] Z
 ·refine Zt<|A0<|Zm Z<|Zm Z<|Zc [] [] func120 Z (Ol _ _) λr5 n6=>Za Z<|Zb Z<|A5<|Ze [] [] Z
def Ho (a0:UInt64):Option (UInt32) :=
 Ih 4 a0>>=λM =>
 some M
theorem OI (a0:UInt64):Aj Tryz.prog 90 [.rd Ao a0] [] (Ho a0) (λr nv=>⟨[.rd Aa r],[]⟩):=by
 refine Aq 5 func90 Z Z Z λH w=>?_;refine A0<|Zb Z<|A0<|Zm Z<|Zc [] [] func120 Z (Ol _ _) λr1 n2=>Zb Z<|A5<|Ze [] [] Z
def OJ (a0:UInt32) (M:UInt32):Option (UInt32 × Int) :=
 Hn [a0,M]>>=λO =>
 if !O then
  some (0,2)
 else
  FY 1000000007 [a0,M]>>=λU =>
  some (U,0)
theorem zve (a0:UInt32) (M:UInt32):Aj Tryz.prog 132 [.rd Aa a0,.rd Aa M] [] (OJ a0 M) (λr nv=>⟨[.rd Aa r.1,.rd A2 r.2],[]⟩):=by
 refine Aq 15 func132 Z Z Z λH w=>?_;refine A0<|Za Z<|Zb Z<|A9<|A0<|Zm Z<|Zm Z<|Ef Z (lit (R:=Aa) ([a0,M]:List UInt32) 1 (pP Z Z<|pP Z Z<|pN) Z tu203 B0 Z Z) λv1=>BG 1 [8] Z (fS Z<|fN)<|Zc [] [] func165 Z (T8 _) λr2 n3=>Zq (By Z)<|Zj Z (λO=>?_) (λO=>?_)
 ·refine A0<|Za Z<|Zb Z<|A5<|Ap<|Ze [] [] Z
 ·refine Zt<|A0<|Zm Z<|Zm Z<|Ef Z (lit (R:=Aa) ([a0,M]:List UInt32) 2 (pP Z Z<|pP Z Z<|pN) Z tu203 B0 Z Z) λv5=>BG 2 [13] Z (fS Z<|fN)<|Zc [] [] func130 Z (LI _ _) λr6 n7=>Za Z<|Zb Z<|A5<|Ze [] [] Z
def EB (U:List UInt32) (M:(List UInt8) × Int):Option (Sum ((List UInt8)) ((List UInt8) × Int)) :=
 if decide (M.2<(U.length:Int)) then
  idx U M.2>>=λO =>
  app 1 M.1 [(BD O 24).toUInt8,(BD O 16).toUInt8,(BD O 8).toUInt8,O.toUInt8]>>=λa1 =>
  some (.inr (a1,w64 (M.2+1)))
 else
  some (.inl M.1)
def JF (O:V3 × Int) (M:UInt64 × Int):Option (Sum UInt64 (UInt64 × Int)) :=
 if decide (M.2<(((O.1.toList.drop 0).take 8).length:Int)) then
  idx ((O.1.toList.drop 0).take 8) M.2>>=λU =>
  some ((EW M.1 8) ||| U.toUInt64)>>=λa1 =>
  some (.inr (a1,w64 (M.2+1)))
 else
  some (.inl M.1)
def Hp (a0:UInt8) (O:List UInt8) (a2:List UInt32):Option (UInt64 × Int) :=
 if decide (9991<(O.length:Int)) then
  some (0,4)
 else
  (iter (EB a2) ([a0],0))>>=λs3 =>
  JE [s3,O]>>=λM =>
  (iter (JF M) (0,0))>>=λU =>
  some (U,M.2)
theorem T9 (a0:UInt8) (a1:List UInt8) (a2:List UInt32):Aj Tryz.prog 129 [.rd u8R a0,.rd (A3 u8R) a1,.rd (A3 Aa) a2] [Am] (Hp a0 a1 a2) (λr nv=>⟨[.rd Ao r.1,.rd A2 r.2],[(1001,some (.bool true,.glob 1 (Av 64 Aa) Bv))]⟩):=by
 refine Aq 63 func129 Z Z Z λH w=>?_;refine A0<|Za Z<|Zb Z<|A9<|A0<|Zm Z<|Zq (Ar Z .rd Z tu114)<|Zq (I.gtr Z Z)<|Zj Z (λh1=>?_) (λh1=>?_)
 ·refine A0<|Za Z<|Zb Z<|A5<|Ap<|Ze [] [1001] Z
 ·refine Zt<|A0<|Zm Z<|Ef Z (lit (R:=u8R) ([a0]:List UInt8) 1 (pP Z Z<|pN) Z tu114 ti5 Z Z) λv2=>Zb Z<|B6 (λ(s3:(List UInt8)) M O=>∃ nv:Nat->Value,Sta (ctx 63 H [Am] w) [(1,.rd (A3 u8R) a1),(8,.val (nv 0))] [(1,some ((nv 0),.list u8R 5 s3)),Am] M O) ?_ (λs3=>?_)
  ·refine A0<|Zm Z<|Zq (Ar Z .rd Z tu203)<|Zm Z<|Zn<|AJ (λ(s4:(List UInt8) × Int) M O=>∃ nv:Nat->Value,Sta (ctx 63 H [Am] w) [(1,.rd (A3 u8R) a1),(8,.val (nv 0)),(21,.rd (A3 Aa) a2),(22,.rd A2 (a2.length:Int)),(23,.rd A2 s4.2)] [(1,some ((nv 0),.list u8R 5 s4.1)),Am] M O) (λM O h=>⟨nvl [v2],Zu h [1,1001]⟩) (λs4=>?_);refine gEx λn5=>A0<|Zq (I.lss Z Z)<|Zn<|A9<|gIf Z Z (λh6=>?_) (λh6=>?_)
   ·refine Zt<|A9<|AD<|A0<|An λx7 h8=>Zq (ixR Z Z h8 tu203 B0 Z)<|Zq (ldR Z Be)<|Zb Z<|Al<|Zm Z<|Zm Z<|Zq (W.shr Z Z (Int.natCast_nonneg _))<|Zq (W.toB Z tu65 tu5)<|Zm Z<|Zq (W.shr Z Z (Int.natCast_nonneg _))<|Zq (W.toB Z tu65 tu5)<|Zm Z<|Zq (W.shr Z Z (Int.natCast_nonneg _))<|Zq (W.toB Z tu65 tu5)<|Zm Z<|Zq (W.toB Z tu65 tu5)<|Ef Z (lit (R:=u8R) ([(BD x7 24).toUInt8,(BD x7 16).toUInt8,(BD x7 8).toUInt8,x7.toUInt8]:List UInt8) 1100 (pP Z Z<|pP Z Z<|pP Z Z<|pP Z Z<|pN) Z tu114 ti5 Z Z) λv9=>An λaf ab=>Ef Z (apn 1 Z Z Z (.own 1100 Z) ab tu114 ti5 Z Z Z) λac=>Za Z<|Ah<|Au<|Ak<|Al<|Zq (I.add Z Z)<|Zm Z<|Ah<|AB (λM O h=>⟨nvl [ac],Zu h [1,1001]⟩)
   ·refine AF<|AG<|AI<|AA (λM O h=>⟨nvl [(n5 0)],Zu h [1,1001]⟩)
  ·refine gEx λah=>A0<|Zm Z<|Zm Z<|BG 1 [8,43] Z (fS Z<|fS Z<|fN)<|Ef Z (lit (R:=(A3 u8R)) ([s3,a1]:List (List UInt8)) 1101 (pP Z Z<|pP Z Z<|pN) Z tu136 Dc Z Z) λai=>BG 1101 [45] Z (fS Z<|fN)<|Zc [1001] [] func133 Z (T7 _) λa6 aj=>Zm Z<|Zq (ext Z Z)<|Zq (ext Z Z)<|Eb Z (AL 1102 Ax (.zr (R:=aZ) (x:=(Vector.replicate 32 0)) C0)) λak=>Es (sto 1102 Z Z fH Z Ax)<|Zb Z<|A0<|Zb Z<|B6 (λ(a8:UInt64) M O=>Sta (ctx 63 H [Am] w) [(12,.rd A2 a6.2),(13,.rd Ao a8)] [Am] M O) ?_ (λa8=>?_)
   ·refine A0<|S9 1102 11 Z Z<|Zq (YA (i:=0) (j:=8) Z .no (.to Z) tu61 ti5 (by decide) Z Z Z)<|Zq (Ar Z .rd Z tu114)<|Zm Z<|Zn<|AJ (λ(a7:UInt64 × Int) M O=>Sta (ctx 63 H [Am] w) [(12,.rd A2 a6.2),(13,.rd Ao a7.1),(49,.rd (A3 u8R) ((a6.1.toList.drop 0).take 8)),(50,.rd A2 (((a6.1.toList.drop 0).take 8).length:Int)),(51,.rd A2 a7.2)] [Am] M O) (λM O h=>Zu h [1001]) (λa7=>?_)
    refine A0<|Zq (I.lss Z Z)<|Zn<|A9<|gIf Z Z (λad=>?_) (λad=>?_)
    ·refine Zt<|A9<|AD<|A0<|An λam ae=>Zq (ixR Z Z ae tu114 ti5 Z)<|Zq (ldR Z ty5)<|Zb Z<|Al<|Zm Z<|Zq (U.shl Z Z (Int.natCast_nonneg _))<|Zm Z<|Zq (B.toU Z tu5 tu52)<|Zq (U.or Z Z)<|Za Z<|AR 13 Z λao=>Ah<|Au<|Ak<|Al<|Zq (I.add Z Z)<|Zm Z<|Ah<|AB (λM O h=>Zu h [1001])
    ·refine AF<|AG<|AI<|AA (λM O h=>Zu h [1001])
   ·refine A0<|Zm Z<|Zm Z<|Za Z<|Zb Z<|A5<|Ze [] [1001] Z
def JG (a0:UInt32) (O:UInt32) (U:List UInt8):Option (UInt32 × Int) :=
 Hp 99 U [a0,O]>>=λM =>
 if M.2 != 0 then
  some (0,M.2)
 else
  some ((M.1 % 500000003).toUInt32)>>=λy5 =>
  some (y5,0)
theorem Ta (a0:UInt32) (M:UInt32) (O:List UInt8):Aj Tryz.prog 98 [.rd Aa a0,.rd Aa M,.rd (A3 u8R) O] [Am] (JG a0 M O) (λr nv=>⟨[.rd Aa r.1,.rd A2 r.2],[(1001,some (.bool true,.glob 1 (Av 64 Aa) Bv))]⟩):=by
 refine Aq 24 func98 Z Z Z λH w=>?_;refine A0<|Za Z<|Zb Z<|A0<|Zm Z<|Zm Z<|Zm Z<|Ef Z (lit (R:=Aa) ([a0,M]:List UInt32) 1 (pP Z Z<|pP Z Z<|pN) Z tu203 B0 Z Z) λv1=>BG 1 [14] Z (fS Z<|fN)<|Zc [1001] [] func129 Z (T9 _ _ _) λr2 n3=>Zm Z<|Zq (ext Z Z)<|Zq (ext Z Z)<|Za Z<|Zb Z<|A9<|A0<|Zm Z<|Zq (I.neq Z Z)<|Zj Z (λh4=>?_) (λh4=>?_)
 ·refine A0<|Zm Z<|Za Z<|Zb Z<|A5<|Ap<|Ze [] [1001] Z
 ·refine Zt<|A0<|Zm Z<|Zq (U.rem Z Z (by decide))<|Zq (U.toW Z tu52 tu65)<|Za Z<|AR 6 Z λy5=>Zb Z<|A5<|Ze [] [1001] Z
def M3 (a0:UInt32) (U:List UInt8) (M:AC):Option (Int) :=
 Ii a0>>=λr2 =>
 if !r2 then
  some 2
 else
  if decide (9991<(U.length:Int)) then
   some 4
  else
   if decide (500000003<=(max M.E M.S)) then
    some 22
   else
    OH a0 (500000003 - M.E.toUInt64)>>=λr7 =>
    Ho M.S.toUInt64>>=λr9 =>
    OJ r9 r7.1>>=λa6 =>
    JG a6.1 a0 U>>=λO =>
    if O.2 != 0 then
     some 22
    else
     if O.1 != M.E then
      some 22
     else
      some 0
theorem zqy (a0:UInt32) (a1:List UInt8) (a2:AC):Aj Tryz.prog 101 [.rd Aa a0,.rd (A3 u8R) a1,.rd Bc a2] [Am] (M3 a0 a1 a2) (λr nv=>⟨[.rd A2 r],[(1001,some (.bool true,.glob 1 (Av 64 Aa) Bv))]⟩):=by
 refine Aq 58 func101 Z Z Z λH w=>?_;refine A0<|Eb Z (bx 1 Z) λv1=>Zb Z<|A9<|A0<|Zm Z<|Zc [] [] func122 Z (Om _) λr2 n3=>Zq (By Z)<|Zj Z (λh4=>?_) (λh4=>?_)
 ·refine A0<|Zb Z<|A5<|Ap<|Ze [] [1001] Z
 ·refine Zt<|A9<|A0<|Zm Z<|Zq (Ar Z .rd Z tu114)<|Zq (I.gtr Z Z)<|Zj Z (λh5=>?_) (λh5=>?_)
  ·refine A0<|Zb Z<|A5<|Ap<|Ze [] [1001] Z
  ·refine Zt<|A9<|A0<|Zq (faB 1 Z Z underlying71 Z (by exact B0))<|Zq (ld 1 Z Z (fP (EY _)) Be Z)<|Zq (faB 1 Z Z underlying71 Z (by exact B0))<|Zq (ld 1 Z Z (fP (FT _)) Be Z)<|Zq (W.max Z Z)<|Zq (W.geq Z Z)<|Zj Z (λh6=>?_) (λh6=>?_)
   ·refine A0<|Zb Z<|A5<|Ap<|Ze [] [1001] Z
   ·refine Zt<|A0<|Zm Z<|Zq (faB 1 Z Z underlying71 Z (by exact B0))<|Zq (ld 1 Z Z (fP (EY _)) Be Z)<|Zq (W.toU Z tu65 tu52)<|Zq (U.sub Z Z)<|Zc [] [] func131 Z (zul _ _) λr7 n8=>Zm Z<|Zq (ext Z Z)<|Zq (ext Z Z)<|Za Z<|Zb Z<|A0<|Zq (faB 1 Z Z underlying71 Z (by exact B0))<|Zq (ld 1 Z Z (fP (FT _)) Be Z)<|Zq (W.toU Z tu65 tu52)<|Zc [] [] func90 Z (OI _) λr9 a6=>Zm Z<|Zc [] [] func132 Z (zve _ _) λa7 a8=>Zm Z<|Zq (ext Z Z)<|Zq (ext Z Z)<|Za Z<|Zb Z<|A9<|A0<|Zm Z<|Zm Z<|Zm Z<|Zc [1001] [] func98 Z (Ta _ _ _) λaa ab=>Zm Z<|Zq (ext Z Z)<|Zq (ext Z Z)<|Za Z<|Zb Z<|A0<|Zm Z<|Zq (I.neq Z Z)<|Zm Z<|AY 52 Z (λM=>?_) (λM=>?_)
    ·refine Ac 51 Z M<|Zk Z<|Zk Z<|Zk Z<|Zk Z<|Zq (pkT Z Z)<|Zn<|Dm Z<|A0<|Zb Z<|A5<|Ap<|Ze [] [1001] Z
    ·refine Ac 51 Z M<|Ab Zx Z Z (mv Z)<|Ab Zx Z Z (faB 1 Z Z underlying71 Z (by exact B0))<|Ab Zx Z Z (ld 1 Z Z (fP (EY _)) Be Z)<|Ab Zx Z Z (W.neq Z Z)<|Zq (pkF Z Z)<|Zj Z (λO=>?_) (λO=>?_)
     ·refine gKn 56 Z O<|A0<|Zb Z<|A5<|Ap<|Ze [] [1001] Z
     ·refine gKn 56 Z O<|Zt<|A0<|Zb Z<|A5<|Ze [] [1001] Z
def Ir (a0:Ae):Option (Int) :=
 Hh a0>>=λM =>
 if M != 0 then
  some M
 else
  Hk a0>>=λO =>
  M3 a0.Author O.1 a0.Sig>>=λU =>
  some U
theorem OK (a0:Ae):Aj Tryz.prog 60 [.rd Ad a0] [Am] (Ir a0) (λr nv=>⟨[.rd A2 r],[(1001,some (.bool true,.glob 1 (Av 64 Aa) Bv))]⟩):=by
 refine Aq 22 func60 Z Z Z λH w=>?_;refine A0<|Eb Z (bx 1 Z) λv1=>Zb Z<|A9<|A0<|Zq (ld 1 Z Z fH Bz Z)<|Zc [] [] func91 Z (Ov _) λr2 n3=>Zb Z<|A0<|Zm Z<|Zq (I.neq Z Z)<|Zj Z (λM=>?_) (λM=>?_)
 ·refine A0<|Zm Z<|Zb Z<|A5<|Ap<|Ze [] [1001] Z
 ·refine Zt<|A0<|Zq (ld 1 Z Z fH Bz Z)<|Zc [] [(100,2)] func58 Z (OA _) λr5 n6=>Zm Z<|Zq (ext Z Z)<|Zq (ext Z Z)<|Za Z<|Zb Z<|A0<|Zq (faB 1 Z Z underlying73 Z (by exact B0))<|Zq (ld 1 Z Z (fP (Ex _)) Be Z)<|Zm Z<|Zq (faB 1 Z Z underlying73 Z (by exact CG))<|Zq (ld 1 Z Z (fP (DF _)) ty71 Z)<|BG 2 [14,4,18] Z (fS Z<|fS Z<|fS Z<|fN)<|Zc [1001] [] func101 Z (zqy _ _ _) λr7 n8=>Zb Z<|A5<|Ze [] [1001] Z
def JH (M:UInt64 × (List UInt8)):Option (Sum ((List UInt8)) (UInt64 × (List UInt8))) :=
 if decide (0<M.1) then
  app 1 M.2 [(M.1 % 256).toUInt8]>>=λO =>
  some (.inr (M.1 / 256,O))
 else
  some (.inl M.2)
def JI (s3:(List UInt8)) (M:(List UInt8) × Int):Option (Sum ((List UInt8)) ((List UInt8) × Int)) :=
 if decide (0<=M.2) then
  idx s3 M.2>>=λO =>
  app 1 M.1 [O]>>=λU =>
  some (w64 (M.2 - 1))>>=λa1 =>
  some (.inr (U,a1))
 else
  some (.inl M.1)
def F4 (a0:UInt64):Option ((List UInt8)) :=
 if decide (a0<=247) then
  some [a0.toUInt8]
 else
  (iter (JH) (a0,[]))>>=λM =>
  (some (w64 ((M.length:Int) - 1))>>=λO =>
  iter (JI M) ([UInt8.ofInt (w64 (247+(M.length:Int)))],O))>>=λU =>
  some U
theorem GC (a0:UInt64):Aj Tryz.prog 143 [.rd Ao a0] [] (F4 a0) (λr M=>⟨[.val (M 0)],[(100,some (M 0,.list u8R 5 r))]⟩):=by
 refine Aq 41 func143 Z Z Z λH w=>?_;refine A0<|Zb Z<|A9<|A0<|Zm Z<|Zq (U.leq Z Z)<|Zj Z (λh1=>?_) (λh1=>?_)
 ·refine A0<|Zm Z<|Zq (U.toB Z tu52 tu5)<|Ef Z (lit (R:=u8R) ([a0.toUInt8]:List UInt8) 1 (pP Z Z<|pN) Z tu114 ti5 Z Z) λv2=>Zb Z<|A5<|Ap<|Ze [v2] [1] Z
 ·refine Zt<|A0<|Zb Z<|B6 (λ(s3:(List UInt8)) O ww=>∃ M:Nat->Value,Sta (ctx 41 H [] w) [(3,.val (M 0))] [(3,some ((M 0),.list u8R 5 s3))] O ww) ?_ (λs3=>?_)
  ·refine DB u8R 5 6<|AJ (λ(s4:UInt64 × (List UInt8)) O ww=>∃ M:Nat->Value,Sta (ctx 41 H [] w) [(0,.rd Ao s4.1),(3,.val (M 0))] [(5,some ((M 0),.list u8R 5 s4.2))] O ww) (λO ww h=>⟨nvl [(.slice none 0 0)],Zu h [6]⟩) (λs4=>?_);refine gEx λn5=>A9<|A0<|Zm Z<|Zq (U.gtr Z Z)<|Zj Z (λh6=>?_) (λh6=>?_)
   ·refine Zt<|AD<|A0<|Zm Z<|Zm Z<|Zq (U.rem Z Z (by decide))<|Zq (U.toB Z tu52 tu5)<|Ef Z (lit (R:=u8R) ([(s4.1 % 256).toUInt8]:List UInt8) 7 (pP Z Z<|pN) Z tu114 ti5 Z Z) λv7=>An λx8 h9=>Ef Z (apn 5 Z Z Z (.own 7 Z) h9 tu114 ti5 Z Z Z) λa8=>Zb Z<|Al<|Zm Z<|Zq (U.quo Z Z (by decide))<|Za Z<|Ah<|Au<|AB (λO ww h=>⟨nvl [a8],Zu h [5]⟩)
   ·refine AF<|AG<|AI<|AA (λO ww h=>⟨nvl [(n5 0)],Zu h [5]⟩)
  ·refine gEx λa2=>A0<|Zm Z<|Zq (Ar Z (.own 3 Z) Z tu114)<|Zq (I.add Z Z)<|Zq (I.toB Z tu3 tu5)<|Ef Z (lit (R:=u8R) ([UInt8.ofInt (w64 (247+(s3.length:Int)))]:List UInt8) 8 (pP Z Z<|pN) Z tu114 ti5 Z Z) λab=>Zb Z<|B6 (λ(a6:(List UInt8)) O ww=>∃ M:Nat->Value,Sta (ctx 41 H [] w) [(4,.val (M 0))] [(8,some ((M 0),.list u8R 5 a6))] O ww) ?_ (λa6=>?_)
   ·refine A0<|Zm Z<|Zq (Ar Z (.own 3 Z) Z tu114)<|Zq (I.sub Z Z)<|Za Z<|AR 5 Z λaj=>Zn<|AJ (λ(a1:(List UInt8) × Int) O ww=>∃ M:Nat->Value,Sta (ctx 41 H [] w) [(3,.val (a2 0)),(4,.val (M 0)),(5,.rd A2 a1.2)] [(3,some ((a2 0),.list u8R 5 s3)),(8,some ((M 0),.list u8R 5 a1.1))] O ww) (λO ww h=>⟨nvl [ab],Zu h [3,8]⟩) (λa1=>?_);refine gEx λac=>A9<|A0<|Zm Z<|Zq (I.geq Z Z)<|Zj Z (λad=>?_) (λad=>?_)
    ·refine Zt<|A9<|AD<|Al<|Zm Z<|Zm Z<|Zm Z<|An λae a7=>Zq (ixO 3 Z Z Z a7 tu114 ti5)<|Zq (ld 3 Z Z (Foc.el a7) ty5 Z)<|Ef Z (lit (R:=u8R) ([ae]:List UInt8) 9 (pP Z Z<|pN) Z tu114 ti5 Z Z) λak=>An λam af=>Ef Z (apn 8 Z Z Z (.own 9 Z) af tu114 ti5 Z Z Z) λah=>Za Z<|Ah<|Au<|Ak<|Al<|Zm Z<|Zq (I.sub Z Z)<|Za Z<|AR 5 Z λao=>Ah<|AB (λO ww h=>⟨nvl [ah],Zu h [3,8]⟩)
    ·refine AF<|AG<|AI<|AA (λO ww h=>⟨nvl [(ac 0)],Zu h [8]⟩)
   ·refine gEx λai=>A0<|Zm Z<|Zb Z<|A5<|Ze [(ai 0)] [8] Z
def JJ (a0:List V3) (M:(List UInt8) × Int):Option (Sum ((List UInt8)) ((List UInt8) × Int)) :=
 if decide (M.2<(a0.length:Int)) then
  idx a0 M.2>>=λU =>
  app 1 M.1 U.toList>>=λx9 =>
  some (w64 (M.2+1))>>=λO =>
  some (.inr (x9,O))
 else
  some (.inl M.1)
def M4 (a0:List V3):Option ((List UInt8)) :=
 F4 (UInt64.ofInt (a0.length:Int))>>=λM =>
 (iter (JJ a0) (M,0))>>=λO =>
 some O
theorem zmc (a0:List V3):Aj Tryz.prog 179 [.rd (A3 aZ) a0] [] (M4 a0) (λr M=>⟨[.val (M 0)],[(100,some (M 0,.list u8R 5 r))]⟩):=by
 refine Aq 22 func179 Z Z Z λH w=>?_;refine A0<|Zb Z<|A0<|Zm Z<|Zq (Ar Z .rd Z tu31)<|Zq (I.toU Z tu3 tu52)<|Zc [] [(100,1)] func143 Z (GC _) λr1 n2=>Zb Z<|B6 (λ(s3:(List UInt8)) O U=>∃ M:Nat->Value,Sta (ctx 22 H [] w) [(3,.val (M 0))] [(1,some ((M 0),.list u8R 5 s3))] O U) ?_ (λs3=>?_)
 ·refine A0<|Zb Z<|AJ (λ(s4:(List UInt8) × Int) O U=>∃ M:Nat->Value,Sta (ctx 22 H [] w) [(0,.rd (A3 aZ) a0),(3,.val (M 0)),(4,.rd A2 s4.2)] [(1,some ((M 0),.list u8R 5 s4.1))] O U) (λO U h=>⟨nvl [(n2 0)],Zu h [1]⟩) (λs4=>?_);refine gEx λn5=>A9<|A0<|Zm Z<|Zm Z<|Zq (Ar Z .rd Z tu31)<|Zq (I.lss Z Z)<|Zj Z (λh6=>?_) (λh6=>?_)
  ·refine Zt<|A9<|AD<|Al<|Zm Z<|Zm Z<|Zm Z<|An λx7 h8=>Zq (ixR Z Z h8 tu31 Ax Z)<|Zq (cutV Z tu61 ti5 Z Z Z)<|An λx9 a1=>Ef Z (apn 1 Z Z Z .rd a1 tu114 ti5 Z Z Z) λa2=>Za Z<|Ah<|Au<|Ak<|Al<|Zm Z<|Zq (I.add Z Z)<|Za Z<|AR 4 Z λa7=>Ah<|AB (λO U h=>⟨nvl [a2],Zu h [1]⟩)
  ·refine AF<|AG<|AI<|AA (λO U h=>⟨nvl [(n5 0)],Zu h [1]⟩)
 ·refine gEx λa6=>A0<|Zm Z<|Zb Z<|A5<|Ze [(a6 0)] [1] Z
def It (a0:List UInt8):Option ((List UInt8)) :=
 F4 (UInt64.ofInt (a0.length:Int))>>=λM =>
 app 1 M a0>>=λO =>
 some O
theorem Tb (a0:List UInt8):Aj Tryz.prog 180 [.rd (A3 u8R) a0] [] (It a0) (λr M=>⟨[.val (M 0)],[(100,some (M 0,.list u8R 5 r))]⟩):=by
 refine Aq 9 func180 Z Z Z λH w=>?_;refine A0<|Zb Z<|A0<|Zm Z<|Zq (Ar Z .rd Z tu114)<|Zq (I.toU Z tu3 tu52)<|Zc [] [(100,1)] func143 Z (GC _) λr1 n2=>Zm Z<|An λx3 O=>Ef Z (apn 1 Z Z Z .rd O tu114 ti5 Z Z Z) λv5=>Zb Z<|A5<|Ze [v5] [1] Z
def M5 (a0:Int):Option ((List UInt8)) :=
 if decide (0<=a0) then
  F4 (2 * (UInt64.ofInt a0))>>=λM =>
  some M
 else
  F4 ((2 * (UInt64.ofInt (w64 (0 - (w64 (a0+1))))))+1)>>=λO =>
  some O
theorem zjq (a0:Int):Aj Tryz.prog 202 [.rd A2 a0] [] (M5 a0) (λr M=>⟨[.val (M 0)],[(100,some (M 0,.list u8R 5 r))]⟩):=by
 refine Aq 16 func202 Z Z Z λH w=>?_;refine A0<|Zb Z<|A9<|A0<|Zm Z<|Zq (I.geq Z Z)<|Zj Z (λh1=>?_) (λh1=>?_)
 ·refine A0<|Zm Z<|Zq (I.toU Z underlying2 tu52)<|Zq (U.mul Z Z)<|Zc [] [(100,1)] func143 Z (GC _) λr2 O=>Zb Z<|A5<|Ap<|Ze [(O 0)] [1] Z
 ·refine Zt<|A0<|Zm Z<|Zq (I.add Z Z)<|Zq (I.neg Z)<|Zq (I.toU Z underlying2 tu52)<|Zq (U.mul Z Z)<|Zq (U.add Z Z)<|Zc [] [(100,2)] func143 Z (GC _) λr4 n5=>Zb Z<|A5<|Ze [(n5 0)] [2] Z
def JK (a0:Az) (M:(List UInt8) × Int):Option (Sum ((List UInt8)) ((List UInt8) × Int)) :=
 if decide (0<=M.2) then
  chk (0<=w64 (8 * M.2))>>=λa1 =>
  app 1 M.1 [(BZ a0.Bits ((w64 (8 * M.2):Int).toNat)).toUInt8]>>=λO =>
  some (w64 (M.2 - 1))>>=λU =>
  some (.inr (O,U))
 else
  some (.inl M.1)
def M6 (a0:Az):Option ((List UInt8)) :=
 if a0.Kind==1 then
  M5 a0.Num>>=λr4 =>
  app 1 [a0.Kind] r4>>=λx6 =>
  some x6
 else
  if a0.Kind==2 then
   (iter (JK a0) ([a0.Kind],7))>>=λM =>
   some M
  else
   chk (a0.Text.length<=281474976710656)>>=λa1 =>
   It a0.Text>>=λO =>
   app 1 [a0.Kind] O>>=λU =>
   some U
theorem zkl (a0:Az):Aj Tryz.prog 181 [.rd CQ a0] [] (M6 a0) (λr M=>⟨[.val (M 0)],[(100,some (M 0,.list u8R 5 r))]⟩):=by
 refine Aq 39 func181 Z Z Z λH w=>?_;refine A0<|Eb Z (bx 1 Z) λv1=>Zb Z<|A0<|Zq (faB 1 Z Z underlying67 Z (by exact ti5))<|Zq (ld 1 Z Z (fP (Fw _)) ty5 Z)<|Ef Z (lit (R:=u8R) ([a0.Kind]:List UInt8) 2 (pP Z Z<|pN) Z tu114 ti5 Z Z) λv2=>Zb Z<|A9<|A0<|Zq (faB 1 Z Z underlying67 Z (by exact ti5))<|Zq (ld 1 Z Z (fP (Fw _)) ty5 Z)<|Zn<|AD<|A0<|Zq (B.eql Z Z)<|Zb Z<|gIf Z Z (λh3=>?_) (λh3=>?_)
 ·refine gKn 11 Z h3<|A0<|Zm Z<|Zq (faB 1 Z Z underlying67 Z (by exact ti2))<|Zq (ld 1 Z Z (fP (I8 _)) ty2 Z)<|Zc [] [(100,3)] func202 Z (zjq _) λr4 n5=>An λx6 h7=>Ef Z (apn 2 Z Z Z (.own 3 Z) h7 tu114 ti5 Z Z Z) λv8=>Zb Z<|A5<|B7<|Ap<|Ze [v8] [2] Z
 ·refine gKn 11 Z h3<|A0<|Zq (B.eql Z Z)<|Zb Z<|gIf Z Z (λh9=>?_) (λh9=>?_)
  ·refine gKn 18 Z h9<|B6 (λ(a1:(List UInt8)) aa ww=>∃ M:Nat->Value,Sta (ctx 39 H [] w) [(3,.val (M 0))] [(2,some ((M 0),.list u8R 5 a1))] aa ww) ?_ (λa1=>?_)
   ·refine A0<|Zb Z<|AJ (λ(O:(List UInt8) × Int) aa ww=>∃ M:Nat->Value,Sta (ctx 39 H [] w) [(1,.val (A7 v1 0)),(3,.val (M 0)),(4,.rd A2 O.2)] [(1,some (v1,.box 67 [.rd CQ a0])),(2,some ((M 0),.list u8R 5 O.1))] aa ww) (λaa ww h=>⟨nvl [v2],Zu h [1,2]⟩) (λO=>?_);refine gEx λa2=>A9<|A0<|Zm Z<|Zq (I.geq Z Z)<|Zj Z (λa6=>?_) (λa6=>?_)
    ·refine Zt<|A9<|AD<|Al<|Zm Z<|Zq (faB 1 Z Z underlying67 Z (by exact CJ))<|Zq (ld 1 Z Z (fP (Gq _)) CU Z)<|Zm Z<|Zq (I.mul Z Z)<|An λah a7=>Zq (U.shr Z Z (CI a7))<|Zq (U.toB Z tu52 tu5)<|Ef Z (lit (R:=u8R) ([(BZ a0.Bits ((w64 (8 * O.2):Int).toNat)).toUInt8]:List UInt8) 4 (pP Z Z<|pN) Z tu114 ti5 Z Z) λai=>An λaj a8=>Ef Z (apn 2 Z Z Z (.own 4 Z) a8 tu114 ti5 Z Z Z) λab=>Za Z<|Ah<|Au<|Ak<|Al<|Zm Z<|Zq (I.sub Z Z)<|Za Z<|AR 4 Z λak=>Ah<|AB (λaa ww h=>⟨nvl [ab],Zu h [1,2]⟩)
    ·refine AF<|AG<|AI<|AA (λaa ww h=>⟨nvl [(a2 0)],Zu h [2]⟩)
   ·refine gEx λac=>A0<|Zm Z<|Zb Z<|A5<|B7<|Ap<|Ze [(ac 0)] [2] Z
  ·refine gKn 18 Z h9<|AU<|Au<|Ak<|A0<|Zm Z<|Zq (faB 1 Z Z underlying67 Z (by exact ti9))<|Zq (ld 1 Z Z (fP (FS _)) ty9 Z)<|An λam ad=>Lu Z Z ad tu9 tu114 tu5<|Zc [] [(100,5)] func180 Z (Tb _) λao ap=>An λaq ae=>Ef Z (apn 2 Z Z Z (.own 5 Z) ae tu114 ti5 Z Z Z) λaf=>Zb Z<|A5<|Ze [af] [2] Z
def JL (a0:Ae):Option ((List UInt8)) :=
 F4 a0.Author.toUInt64>>=λr3 =>
 app 1 [111] r3>>=λx5 =>
 M4 a0.Preds>>=λr8 =>
 app 1 x5 r8>>=λU =>
 F4 a0.Stamp>>=λa1 =>
 app 1 U a1>>=λa2 =>
 app 1 a2 [a0.Act.Kind]>>=λM =>
 (if a0.Act.Kind != 1 then
  chk (a0.Act.Key.length<=281474976710656)>>=λab =>
  It a0.Act.Key>>=λa6 =>
  app 1 M a6>>=λa7 =>
  some a7
 else
  some M)>>=λO =>
 if a0.Act.Kind==4 then
  M6 a0.Act.Value>>=λa8 =>
  app 1 O a8>>=λaa =>
  some aa
 else
  some O
theorem Tc (a0:Ae):Aj Tryz.prog 138 [.rd Ad a0] [] (JL a0) (λr M=>⟨[.val (M 0)],[(100,some (M 0,.list u8R 5 r))]⟩):=by
 refine Aq 47 func138 Z Z Z λH w=>?_;refine A0<|Eb Z (bx 1 Z) λv1=>Zb Z<|A0<|Ef Z (lit (R:=u8R) ([111]:List UInt8) 2 (pP Z Z<|pN) Z tu114 ti5 Z Z) λv2=>Zq (faB 1 Z Z underlying73 Z (by exact B0))<|Zq (ld 1 Z Z (fP (Ex _)) Be Z)<|Zq (W.toU Z tu65 tu52)<|Zc [] [(100,3)] func143 Z (GC _) λr3 n4=>An λx5 h6=>Ef Z (apn 2 Z Z Z (.own 3 Z) h6 tu114 ti5 Z Z Z) λv7=>Zb Z<|A9<|BK [2,13,25] mixed Z Z<|A6 0 Z Z (mv Z)<|A6 1 Z Z (faB 1 Z Z underlying73 Z (by exact B2))<|A6 2 Z Z (ld 1 Z Z (fP (Cv _)) B8 Z)<|A6 5 Z Z (faB 1 Z Z underlying73 Z (by exact CJ))<|A6 6 Z Z (ld 1 Z Z (fP (EK _)) CU Z)<|BH 3 [] [(100,13)] Z (by kernel_rfl) Z (gd0 Z) Z func179 Z Z (zmc _) (Y1 Z) rN Z (λ_ _=>Ce) λr8 n9=>BA λaj a1=>Zo 4 Z Z Z (apn 2 Z Z Z (.own 13 Z) a1 tu114 ti5 Z Z Z) λak=>BH 7 [] [(100,25)] Z (by kernel_rfl) Z (gd0 Z) Z func143 Z Z (GC _) (Y1 Z) rN Z (λ_ _=>Ce) λam ao=>BA λap a2=>Zo 8 Z Z Z (apn 2 Z Z Z (.own 25 Z) a2 tu114 ti5 Z Z Z) λaq=>Zf 9 Z Z Ce (asg Z)<|Bg (by kernel_rfl)<|Ak<|A0<|Zm Z<|Zq (faB 1 Z Z underlying73 Z (by exact CP))<|Zq (faB 1 Z Z underlying69 Z (by exact ti5))<|Zq (ld 1 Z Z ((fP (D4 _)).part (EX _)) ty5 Z)<|Ef Z (lit (R:=u8R) ([a0.Act.Kind]:List UInt8) 37 (pP Z Z<|pN) Z tu114 ti5 Z Z) λar=>An λav a6=>Ef Z (apn 2 Z Z Z (.own 37 Z) a6 tu114 ti5 Z Z Z) λa7=>Zb Z<|B6 (λ(O:(List UInt8)) U ww=>∃ M:Nat->Value,Sta (ctx 47 H [] w) [(1,.val (A7 v1 0)),(3,.val (M 0))] [(1,some (v1,.box 73 [.rd Ad a0])),(2,some ((M 0),.list u8R 5 O))] U ww) ?_ (λO=>?_)
 ·refine A0<|Zq (faB 1 Z Z underlying73 Z (by exact CP))<|Zq (faB 1 Z Z underlying69 Z (by exact ti5))<|Zq (ld 1 Z Z ((fP (D4 _)).part (EX _)) ty5 Z)<|Zq (B.neq Z Z)<|Zj Z (λa8=>?_) (λa8=>?_)
  ·refine Al<|Zm Z<|Zq (faB 1 Z Z underlying73 Z (by exact CP))<|Zq (faB 1 Z Z underlying69 Z (by exact ti9))<|Zq (ld 1 Z Z ((fP (D4 _)).part (Gr _)) ty9 Z)<|An λaw ab=>Lu Z Z ab tu9 tu114 tu5<|Zc [] [(100,38)] func180 Z (Tb _) λax ay=>An λaz ac=>Ef Z (apn 2 Z Z Z (.own 38 Z) ac tu114 ti5 Z Z Z) λad=>Za Z<|Ah<|AA (λU ww h=>⟨nvl [ad],Zu h [1,2]⟩)
  ·refine AU<|AA (λU ww h=>⟨nvl [a7],Zu h [1,2]⟩)
 ·refine gEx λae=>A9<|A0<|Zq (faB 1 Z Z underlying73 Z (by exact CP))<|Zq (faB 1 Z Z underlying69 Z (by exact ti5))<|Zq (ld 1 Z Z ((fP (D4 _)).part (EX _)) ty5 Z)<|Zq (B.eql Z Z)<|Zj Z (λaf=>?_) (λaf=>?_)
  ·refine Al<|Zm Z<|Zq (faB 1 Z Z underlying73 Z (by exact CP))<|Zq (faB 1 Z Z underlying69 Z (by exact CF))<|Zq (ld 1 Z Z ((fP (D4 _)).part (Hc _)) E5 Z)<|Zc [] [(100,39)] func181 Z (zkl _) λb0 b1=>An λb2 ah=>Ef Z (apn 2 Z Z Z (.own 39 Z) ah tu114 ti5 Z Z Z) λai=>Zb Z<|A0<|Zm Z<|Zb Z<|A5<|Ze [ai] [2] Z
  ·refine Zt<|A0<|Zm Z<|Zb Z<|A5<|Ze [(ae 0)] [2] Z
def M7 (a0:Ae):Option ((List UInt8)) :=
 JL a0>>=λO =>
 F4 a0.Sig.E.toUInt64>>=λU =>
 app 1 O U>>=λx6 =>
 F4 a0.Sig.S.toUInt64>>=λr9 =>
 app 1 x6 r9>>=λM =>
 some M
theorem zl9 (a0:Ae):Aj Tryz.prog 106 [.rd Ad a0] [] (M7 a0) (λr M=>⟨[.val (M 0)],[(100,some (M 0,.list u8R 5 r))]⟩):=by
 refine Aq 17 func106 Z Z Z λH w=>?_;refine A0<|Eb Z (bx 1 Z) λv1=>Zb Z<|A9<|BK [5,20,38] mixed Z Z<|A6 0 Z Z (ld 1 Z Z fH Bz Z)<|A6 2 Z Z (faB 1 Z Z underlying73 Z (by exact CG))<|A6 3 Z Z (faB 1 Z Z underlying71 Z (by exact B0))<|A6 4 Z Z (ld 1 Z Z ((fP (DF _)).part (EY _)) Be Z)<|A6 5 Z Z (W.toU Z tu65 tu52)<|A6 8 Z Z (faB 1 Z Z underlying73 Z (by exact CG))<|A6 9 Z Z (faB 1 Z Z underlying71 Z (by exact B0))<|A6 10 Z Z (ld 1 Z Z ((fP (DF _)).part (FT _)) Be Z)<|A6 11 Z Z (W.toU Z tu65 tu52)<|BH 1 [] [(100,5)] Z (by kernel_rfl) Z (gd0 Z) Z func138 Z Z (Tc _) (Y1 Z) rN Z (λ_ _=>Ce) λr2 n3=>BH 6 [] [(100,20)] Z (by kernel_rfl) Z (gd0 Z) Z func143 Z Z (GC _) (Y1 Z) rN Z (λ_ _=>Ce) λr4 n5=>BA λx6 h7=>Zo 7 Z Z Z (apn 5 Z Z Z (.own 20 Z) h7 tu114 ti5 Z Z Z) λv8=>BH 12 [] [(100,38)] Z (by kernel_rfl) Z (gd0 Z) Z func143 Z Z (GC _) (Y1 Z) rN Z (λ_ _=>Ce) λr9 a1=>BA λa2 O=>Zo 13 Z Z Z (apn 5 Z Z Z (.own 38 Z) O tu114 ti5 Z Z Z) λU=>Zf 14 Z Z Ce (asg Z)<|Bg (by kernel_rfl)<|Ak<|A5<|Ze [U] [5] Z
def OL  : Option ((Vector UInt32 8)) :=
 some (#v[1779033703,3144134277,1013904242,2773480762,1359893119,2600822924,528734635,1541459225]:Vector UInt32 8)
theorem zkn  : Aj Tryz.prog 141 [] [] (OL) (λr nv=>⟨[.rd (Av 8 Aa) r],[]⟩):=by
 refine Aq 2 func141 Z Z Z λH w=>?_;refine A0<|Eb Z (AL 1 DU (.zr (R:=(Av 8 Aa)) (x:=(Vector.replicate 8 0)) Gt)) λv1=>Zn<|A0<|Zq (litA (R:=Aa) [1779033703,3144134277,1013904242,2773480762,1359893119,2600822924,528734635,1541459225] (#v[1779033703,3144134277,1013904242,2773480762,1359893119,2600822924,528734635,1541459225]:Vector UInt32 8) (pP Z Z<|pP Z Z<|pP Z Z<|pP Z Z<|pP Z Z<|pP Z Z<|pP Z Z<|pP Z Z<|pN) Z tu182 DU Z B0)<|Es (sto 1 Z Z fH Z DU)<|Zn<|A5<|Bu [] [] Z (eC 1 Z Z Gv<|eN) (rN)
def JM (a0:Int) (M:(List UInt8)):Option (Sum ((List UInt8)) ((List UInt8))) :=
 if (Int.tmod (w64 ((w64 (a0+(M.length:Int)))+8)) 64) != 0 then
  app 1 M [0]>>=λO =>
  some (.inr O)
 else
  some (.inl M)
def JN (a0:Int) (M:(List UInt8) × Int):Option (Sum ((List UInt8)) ((List UInt8) × Int)) :=
 if decide (0<=M.2) then
  chk (0<=w64 (8 * M.2))>>=λa1 =>
  app 1 M.1 [(BZ (8 * (UInt64.ofInt a0)) ((w64 (8 * M.2):Int).toNat)).toUInt8]>>=λO =>
  some (w64 (M.2 - 1))>>=λU =>
  some (.inr (O,U))
 else
  some (.inl M.1)
def M8 (a0:Int):Option ((List UInt8)) :=
 (iter (JM a0) [128])>>=λO =>
 (iter (JN a0) (O,7))>>=λM =>
 some M
theorem zmq (a0:Int):Aj Tryz.prog 142 [.rd A2 a0] [] (M8 a0) (λr M=>⟨[.val (M 0)],[(100,some (M 0,.list u8R 5 r))]⟩):=by
 refine Aq 31 func142 Z Z Z λH w=>?_;refine A0<|Zb Z<|A0<|Ef Z (lit (R:=u8R) ([128]:List UInt8) 1 (pP Z Z<|pN) Z tu114 ti5 Z Z) λv1=>Zb Z<|B6 (λ(s2:(List UInt8)) O ww=>∃ M:Nat->Value,Sta (ctx 31 H [] w) [(0,.rd A2 a0),(3,.val (M 0))] [(1,some ((M 0),.list u8R 5 s2))] O ww) ?_ (λs2=>?_)
 ·refine AJ (λ(s3:(List UInt8)) O ww=>∃ M:Nat->Value,Sta (ctx 31 H [] w) [(0,.rd A2 a0),(3,.val (M 0))] [(1,some ((M 0),.list u8R 5 s3))] O ww) (λO ww h=>⟨nvl [v1],Zu h [1]⟩) (λs3=>?_);refine gEx λn4=>A9<|A0<|Zm Z<|Zm Z<|Zq (Ar Z (.own 1 Z) Z tu114)<|Zq (I.add Z Z)<|Zq (I.add Z Z)<|Zq (I.rem Z Z (by decide))<|Zq (I.neq Z Z)<|Zj Z (λh5=>?_) (λh5=>?_)
  ·refine Zt<|AD<|Al<|Zm Z<|Ef Z (lit (R:=u8R) ([0]:List UInt8) 2 (pP Z Z<|pN) Z tu114 ti5 Z Z) λv6=>An λx7 h8=>Ef Z (apn 1 Z Z Z (.own 2 Z) h8 tu114 ti5 Z Z Z) λv9=>Za Z<|Ah<|Au<|AB (λO ww h=>⟨nvl [v9],Zu h [1]⟩)
  ·refine AF<|AG<|AI<|AA (λO ww h=>⟨nvl [(n4 0)],Zu h [1]⟩)
 ·refine gEx λa6=>B6 (λ(a2:(List UInt8)) O ww=>∃ M:Nat->Value,Sta (ctx 31 H [] w) [(3,.val (M 0))] [(1,some ((M 0),.list u8R 5 a2))] O ww) ?_ (λa2=>?_)
  ·refine A0<|Zb Z<|AJ (λ(a1:(List UInt8) × Int) O ww=>∃ M:Nat->Value,Sta (ctx 31 H [] w) [(0,.rd A2 a0),(3,.val (M 0)),(4,.rd A2 a1.2)] [(1,some ((M 0),.list u8R 5 a1.1))] O ww) (λO ww h=>⟨nvl [(a6 0)],Zu h [1]⟩) (λa1=>?_);refine gEx λa7=>A9<|A0<|Zm Z<|Zq (I.geq Z Z)<|Zj Z (λa8=>?_) (λa8=>?_)
   ·refine Zt<|A9<|AD<|Al<|Zm Z<|Zm Z<|Zq (I.toU Z tu3 tu52)<|Zq (U.mul Z Z)<|Zm Z<|Zq (I.mul Z Z)<|An λaf ab=>Zq (U.shr Z Z (CI ab))<|Zq (U.toB Z tu52 tu5)<|Ef Z (lit (R:=u8R) ([(BZ (8 * (UInt64.ofInt a0)) ((w64 (8 * a1.2):Int).toNat)).toUInt8]:List UInt8) 3 (pP Z Z<|pN) Z tu114 ti5 Z Z) λah=>An λai ac=>Ef Z (apn 1 Z Z Z (.own 3 Z) ac tu114 ti5 Z Z Z) λad=>Za Z<|Ah<|Au<|Ak<|Al<|Zm Z<|Zq (I.sub Z Z)<|Za Z<|AR 4 Z λaj=>Ah<|AB (λO ww h=>⟨nvl [ad],Zu h [1]⟩)
   ·refine AF<|AG<|AI<|AA (λO ww h=>⟨nvl [(a7 0)],Zu h [1]⟩)
  ·refine gEx λae=>A0<|Zm Z<|Zb Z<|A5<|Ze [(ae 0)] [1] Z
def EC (a0:UInt32) (M:Int):Option (UInt32) :=
 chk (0<=M)>>=λu1 =>
 chk (0<=w64 (32 - M))>>=λu3 =>
 some ((BD a0 ((M:Int).toNat)) ||| (FO a0 ((w64 (32 - M):Int).toNat)))>>=λO =>
 some O
theorem FB (a0:UInt32) (M:Int):Aj Tryz.prog 203 [.rd Aa a0,.rd A2 M] [] (EC a0 M) (λr nv=>⟨[.rd Aa r],[]⟩):=by
 refine Aq 13 func203 Z Z Z λH w=>?_;refine A0<|Zb Z<|A9<|Dr mixed (by kernel_rfl)<|Rq Z (mv Z)<|Rq Z (mv Z)<|BM λu1 h2=>Rq Z (W.shr Z Z (CI h2))<|Rq Z (mv Z)<|Rq Z (mv Z)<|Rq Z (I.sub Z Z)<|BM λu3 O=>Rq Z (W.shl Z Z (CI O))<|Rq Z (W.or Z Z)<|Rq Z (asg Z)<|XM 4 Z λy5=>Ds<|Ak<|A5<|Ze [] [] Z
def OM  : Option ((List UInt32)) :=
 some [1116352408,1899447441,3049323471,3921009573,961987163,1508970993,2453635748,2870763221,3624381080,310598401,607225278,1426881987,1925078388,2162078206,2614888103,3248222580,3835390401,4022224774,264347078,604807628,770255983,1249150122,1555081692,1996064986,2554220882,2821834349,2952996808,3210313671,3336571891,3584528711,113926993,338241895,666307205,773529912,1294757372,1396182291,1695183700,1986661051,2177026350,2456956037,2730485921,2820302411,3259730800,3345764771,3516065817,3600352804,4094571909,275423344,430227734,506948616,659060556,883997877,958139571,1322822218,1537002063,1747873779,1955562222,2024104815,2227730452,2361852424,2428436474,2756734187,3204031479,3329325298]
theorem zhe  : Aj Tryz.prog 204 [] [] (OM) (λr M=>⟨[.val (M 0)],[(100,some (M 0,.list Aa 65 r))]⟩):=by
 refine Aq 2 func204 Z Z Z λH w=>?_;refine A0<|Zb Z<|A0<|Ef Z (lit (R:=Aa) ([1116352408,1899447441,3049323471,3921009573,961987163,1508970993,2453635748,2870763221,3624381080,310598401,607225278,1426881987,1925078388,2162078206,2614888103,3248222580,3835390401,4022224774,264347078,604807628,770255983,1249150122,1555081692,1996064986,2554220882,2821834349,2952996808,3210313671,3336571891,3584528711,113926993,338241895,666307205,773529912,1294757372,1396182291,1695183700,1986661051,2177026350,2456956037,2730485921,2820302411,3259730800,3345764771,3516065817,3600352804,4094571909,275423344,430227734,506948616,659060556,883997877,958139571,1322822218,1537002063,1747873779,1955562222,2024104815,2227730452,2361852424,2428436474,2756734187,3204031479,3329325298]:List UInt32) 1 (pP Z Z<|pP Z Z<|pP Z Z<|pP Z Z<|pP Z Z<|pP Z Z<|pP Z Z<|pP Z Z<|pP Z Z<|pP Z Z<|pP Z Z<|pP Z Z<|pP Z Z<|pP Z Z<|pP Z Z<|pP Z Z<|pP Z Z<|pP Z Z<|pP Z Z<|pP Z Z<|pP Z Z<|pP Z Z<|pP Z Z<|pP Z Z<|pP Z Z<|pP Z Z<|pP Z Z<|pP Z Z<|pP Z Z<|pP Z Z<|pP Z Z<|pP Z Z<|pP Z Z<|pP Z Z<|pP Z Z<|pP Z Z<|pP Z Z<|pP Z Z<|pP Z Z<|pP Z Z<|pP Z Z<|pP Z Z<|pP Z Z<|pP Z Z<|pP Z Z<|pP Z Z<|pP Z Z<|pP Z Z<|pP Z Z<|pP Z Z<|pP Z Z<|pP Z Z<|pP Z Z<|pP Z Z<|pP Z Z<|pP Z Z<|pP Z Z<|pP Z Z<|pP Z Z<|pP Z Z<|pP Z Z<|pP Z Z<|pP Z Z<|pP Z Z<|pN) Z tu203 B0 Z Z) λO=>Zb Z<|A5<|Ze [O] [1] Z
def JO (O:List UInt8) (M:(List UInt32) × Int):Option (Sum ((List UInt32)) ((List UInt32) × Int)) :=
 if decide (M.2<16) then
  idx O (w64 (4 * M.2))>>=λx7 =>
  idx O (w64 ((w64 (4 * M.2))+1))>>=λx9 =>
  idx O (w64 ((w64 (4 * M.2))+2))>>=λU =>
  idx O (w64 ((w64 (4 * M.2))+3))>>=λa2 =>
  app 4 M.1 [(((((x7.toUInt32 * 256)+x9.toUInt32) * 256)+U.toUInt32) * 256)+a2.toUInt32]>>=λa6 =>
  some (w64 (M.2+1))>>=λa7 =>
  some (.inr (a6,a7))
 else
  some (.inl M.1)
def JP (M:(List UInt32) × Int):Option (Sum ((List UInt32)) ((List UInt32) × Int)) :=
 if decide (M.2<64) then
  idx M.1 (w64 (M.2 - 15))>>=λO =>
  idx M.1 (w64 (M.2 - 2))>>=λU =>
  idx M.1 (w64 (M.2 - 16))>>=λa1 =>
  idx M.1 (w64 (M.2 - 7))>>=λa2 =>
  EC O 7>>=λa6 =>
  EC O 18>>=λa7 =>
  EC U 17>>=λa8 =>
  EC U 19>>=λaa =>
  app 4 M.1 [((a1+a2)+((a6 ^^^ a7) ^^^ (BD O 3)))+((a8 ^^^ aa) ^^^ (BD U 10))]>>=λab =>
  some (w64 (M.2+1))>>=λac =>
  some (.inr (ab,ac))
 else
  some (.inl M.1)
def Hq (aa:(List UInt32)) (ab:(List UInt32)) (M:(Vector UInt32 8) × Int):Option (Sum ((Vector UInt32 8)) ((Vector UInt32 8) × Int)) :=
 if decide (M.2<64) then
  B3 M.1 0>>=λO =>
  B3 M.1 1>>=λa1 =>
  B3 M.1 2>>=λa2 =>
  B3 M.1 4>>=λU =>
  B3 M.1 5>>=λa6 =>
  B3 M.1 6>>=λa7 =>
  B3 M.1 7>>=λac =>
  idx ab M.2>>=λad =>
  idx aa M.2>>=λae =>
  EC U 6>>=λaf =>
  EC U 11>>=λah =>
  EC U 25>>=λai =>
  some ((((ac+((af ^^^ ah) ^^^ ai))+((U &&& a6) ^^^ ((~~~U) &&& a7)))+ad)+ae)>>=λa8 =>
  EC O 2>>=λaj =>
  EC O 13>>=λak =>
  EC O 22>>=λam =>
  some (((aj ^^^ ak) ^^^ am)+(((O &&& a1) ^^^ (O &&& a2)) ^^^ (a1 &&& a2)))>>=λao =>
  B3 M.1 3>>=λap =>
  some (w64 (M.2+1))>>=λaq =>
  some (.inr ((#v[a8+ao,O,a1,a2,ap+a8,U,a6,a7]:Vector UInt32 8),aq))
 else
  some (.inl M.1)
def F5 (U:(Vector UInt32 8)) (M:(Vector UInt32 8) × Int):Option (Sum ((Vector UInt32 8)) ((Vector UInt32 8) × Int)) :=
 if decide (M.2<8) then
  B3 M.1 M.2>>=λa1 =>
  B3 U M.2>>=λa2 =>
  B3 M.1 M.2>>=λa6 =>
  some (w64 (M.2+1))>>=λO =>
  some (.inr (BY M.1 M.2 (a1+a2),O))
 else
  some (.inl M.1)
def M9 (a0:Vector UInt32 8) (a1:List UInt8):Option ((Vector UInt32 8)) :=
 (iter (JO a1) ([],0))>>=λs3 =>
 (iter (JP) (s3,16))>>=λM =>
 OM>>=λO =>
 (iter (Hq M O) (a0,0))>>=λU =>
 (iter (F5 U) (a0,0))>>=λa2 =>
 some a2
theorem zk0 (a0:Vector UInt32 8) (a1:List UInt8):Aj Tryz.prog 182 [.rd (Av 8 Aa) a0,.rd (A3 u8R) a1] [] (M9 a0 a1) (λr M=>⟨[.rd (Av 8 Aa) r],[]⟩):=by
 refine Aq 203 func182 Z Z Z λH w=>?_;refine A0<|Eb Z (bx 1 Z) λv1=>Eb Z (AL 2 DU (.zr (R:=(Av 8 Aa)) (x:=(Vector.replicate 8 0)) Gt)) λv2=>Zn<|A0<|Zb Z<|B6 (λ(s3:(List UInt32)) O U=>∃ M:Nat->Value,Sta (ctx 203 H [] w) [(2,.val (A7 v1 0)),(4,.val (A7 v2 0)),(5,.val (M 0))] [(1,some (v1,.box 182 [.rd (Av 8 Aa) a0])),(2,some (v2,.box 182 [.rd (Av 8 Aa) (Vector.replicate 8 0)])),(108,some ((M 0),.list Aa 65 s3))] O U) ?_ (λs3=>?_)
 ·refine A0<|Zb Z<|DB Aa 65 215<|AJ (λ(s4:(List UInt32) × Int) O U=>∃ M:Nat->Value,Sta (ctx 203 H [] w) [(1,.rd (A3 u8R) a1),(2,.val (A7 v1 0)),(4,.val (A7 v2 0)),(5,.val (M 0)),(6,.rd A2 s4.2)] [(1,some (v1,.box 182 [.rd (Av 8 Aa) a0])),(2,some (v2,.box 182 [.rd (Av 8 Aa) (Vector.replicate 8 0)])),(214,some ((M 0),.list Aa 65 s4.1))] O U) (λO U h=>⟨nvl [(.slice none 0 0)],Zu h [1,2,215]⟩) (λs4=>?_)
  refine gEx λn5=>A9<|A0<|Zm Z<|Zq (I.lss Z Z)<|Zj Z (λh6=>?_) (λh6=>?_)
  ·refine Zt<|A9<|AD<|BK [214,318] mixed Z Z<|A6 0 Z Z (mv Z)<|A6 1 Z Z (mv Z)<|A6 2 Z Z (mv Z)<|A6 3 Z Z (I.mul Z Z)<|BA λx7 h8=>A6 4 Z Z (ixR Z Z h8 tu114 ti5 Z)<|A6 5 Z Z (ldR Z ty5)<|A6 6 Z Z (B.toW Z tu5 tu65)<|A6 7 Z Z (W.mul Z Z)<|A6 8 Z Z (mv Z)<|A6 9 Z Z (mv Z)<|A6 10 Z Z (I.mul Z Z)<|A6 11 Z Z (I.add Z Z)<|BA λx9 bl=>A6 12 Z Z (ixR Z Z bl tu114 ti5 Z)<|A6 13 Z Z (ldR Z ty5)<|A6 14 Z Z (B.toW Z tu5 tu65)<|A6 15 Z Z (W.add Z Z)<|A6 16 Z Z (W.mul Z Z)<|A6 17 Z Z (mv Z)<|A6 18 Z Z (mv Z)<|A6 19 Z Z (I.mul Z Z)<|A6 20 Z Z (I.add Z Z)<|BA λbm bn=>A6 21 Z Z (ixR Z Z bn tu114 ti5 Z)<|A6 22 Z Z (ldR Z ty5)<|A6 23 Z Z (B.toW Z tu5 tu65)<|A6 24 Z Z (W.add Z Z)<|A6 25 Z Z (W.mul Z Z)<|A6 26 Z Z (mv Z)<|A6 27 Z Z (mv Z)<|A6 28 Z Z (I.mul Z Z)<|A6 29 Z Z (I.add Z Z)<|BA λbo bp=>A6 30 Z Z (ixR Z Z bp tu114 ti5 Z)<|A6 31 Z Z (ldR Z ty5)<|A6 32 Z Z (B.toW Z tu5 tu65)<|A6 33 Z Z (W.add Z Z)<|Zo 34 Z Z Z (lit (R:=Aa) ([(((((x7.toUInt32 * 256)+x9.toUInt32) * 256)+bm.toUInt32) * 256)+bo.toUInt32]:List UInt32) 318 (pP Z Z<|pN) Z tu203 B0 Z Z) λc9=>BA λca bq=>Zo 35 Z Z Z (apn 214 Z Z Z (.own 318 Z) bq tu203 B0 Z Z Z) λbr=>Zf 36 Z Z Ce (asg Z)<|Bg (by kernel_rfl)<|Au<|Ak<|Al<|Zm Z<|Zq (I.add Z Z)<|Za Z<|AR 6 Z λcb=>Ah<|AB (λO U h=>⟨nvl [br],Zu h [1,2,214]⟩)
  ·refine AF<|AG<|AI<|AA (λO U h=>⟨nvl [(n5 0)],Zu h [1,2,214]⟩)
 ·refine gEx λbt=>B6 (λ(ak:(List UInt32)) O U=>∃ M:Nat->Value,Sta (ctx 203 H [] w) [(2,.val (A7 v1 0)),(4,.val (A7 v2 0)),(5,.val (M 0))] [(1,some (v1,.box 182 [.rd (Av 8 Aa) a0])),(2,some (v2,.box 182 [.rd (Av 8 Aa) (Vector.replicate 8 0)])),(108,some ((M 0),.list Aa 65 ak))] O U) ?_ (λak=>?_)
  ·refine A0<|Zb Z<|AJ (λ(a2:(List UInt32) × Int) O U=>∃ M:Nat->Value,Sta (ctx 203 H [] w) [(2,.val (A7 v1 0)),(4,.val (A7 v2 0)),(5,.val (M 0)),(7,.rd A2 a2.2)] [(1,some (v1,.box 182 [.rd (Av 8 Aa) a0])),(2,some (v2,.box 182 [.rd (Av 8 Aa) (Vector.replicate 8 0)])),(108,some ((M 0),.list Aa 65 a2.1))] O U) (λO U h=>⟨nvl [(bt 0)],Zu h [1,2,108]⟩) (λa2=>?_);refine gEx λa6=>A9<|A0<|Zm Z<|Zq (I.lss Z Z)<|Zj Z (λbu=>?_) (λbu=>?_)
   ·refine Zt<|A9<|AD<|A9<|Dr mixed (by kernel_rfl)<|Rq Z (mv Z)<|Rq Z (mv Z)<|Rq Z (I.sub Z Z)<|BM λa7 aq=>Rq Z (ixO 108 Z Z Z aq tu203 B0)<|Rq Z (ld 108 Z Z (Foc.el aq) Be Z)<|Rq Z (mv Z)<|Rq Z (mv Z)<|Rq Z (I.sub Z Z)<|BM λa8 ar=>Rq Z (ixO 108 Z Z Z ar tu203 B0)<|Rq Z (ld 108 Z Z (Foc.el ar) Be Z)<|Rq Z (asg Z)<|Rq Z (asg Z)<|Ds<|Ak<|E7 [(5,.val (a6 0)),(2,.val (A7 v1 0)),(4,.val (A7 v2 0)),(7,.rd A2 a2.2),(8,.rd Aa a7),(9,.rd Aa a8)] [(1,some (v1,.box 182 [.rd (Av 8 Aa) a0])),(2,some (v2,.box 182 [.rd (Av 8 Aa) (Vector.replicate 8 0)])),(108,some ((a6 0),.list Aa 65 a2.1))] [1,2,108] (Zs Z Z Z Z<|sS Z<|sS Z<|sN) (Zi Z<|Zi Z<|Zi Z<|rN)<|BV λad av=>BV λae aw=>BV λab bv=>BV λac bw=>BV λaf bz=>BV λah c1=>BV λc2 c3=>gOr [(5,.val (a6 0),32)] [⟨108,some ([], λM=>((a6 0),.list Aa 65 a2.1)),[(31,some ([2], λM=>((M 2),.list Aa 65 c2)))]⟩,⟨330,none,[(30,some ([1], λM=>((M 1),.list Aa 65 [((ad+ae)+((ab ^^^ ac) ^^^ (BD a7 3)))+((af ^^^ ah) ^^^ (BD a8 10))])))]⟩] [⟨some (76,[], λM=>.val (a6 0)),[],[],[0]⟩,⟨some (77,[], λM=>.val (a6 0)),[],[],[0]⟩,pd 78 (.rd A2 a2.2),pd 79 (.rd A2 (w64 (a2.2 - 16))),pk 80 (.val (A7 (a6 0) ((w64 (a2.2 - 16):Int).toNat * 1))) [(0,0,false)],pk 81 (.rd Aa ad) [(0,0,false)],⟨some (82,[], λM=>.val (a6 0)),[],[],[0]⟩,pd 83 (.rd A2 a2.2),pd 84 (.rd A2 (w64 (a2.2 - 7))),pk 85 (.val (A7 (a6 0) ((w64 (a2.2 - 7):Int).toNat * 1))) [(0,0,false)],pk 86 (.rd Aa ae) [(0,0,false)],pd 87 (.rd Aa (ad+ae)),pd 88 (.rd Aa a7),pd 89 (.rd Aa ab),pd 90 (.rd Aa a7),pd 91 (.rd Aa ac),pd 92 (.rd Aa (ab ^^^ ac)),pd 93 (.rd Aa a7),pd 94 (.rd Aa (BD a7 3)),pd 95 (.rd Aa ((ab ^^^ ac) ^^^ (BD a7 3))),pd 96 (.rd Aa ((ad+ae)+((ab ^^^ ac) ^^^ (BD a7 3)))),pd 97 (.rd Aa a8),pd 98 (.rd Aa af),pd 99 (.rd Aa a8),pd 100 (.rd Aa ah),pd 101 (.rd Aa (af ^^^ ah)),pd 102 (.rd Aa a8),pd 103 (.rd Aa (BD a8 10)),pd 104 (.rd Aa ((af ^^^ ah) ^^^ (BD a8 10))),pd 105 (.rd Aa (((ad+ae)+((ab ^^^ ac) ^^^ (BD a7 3)))+((af ^^^ ah) ^^^ (BD a8 10)))),⟨some (106,[1], λM=>.val (M 1)),[(1,0,true)],[1],[]⟩,⟨some (107,[2], λM=>.val (M 2)),[(1,1,false),(0,0,true)],[2],[]⟩,⟨some (5,[2], λM=>.val (M 2)),[],[],[]⟩] mixed (oC (oRn (λM E=>mv Z))<|oC (oRn (λM E=>mv Z))<|oC (oRn (λM E=>mv Z))<|oC (oRn (λM E=>I.sub Z Z))<|oC (oRn (λM E=>ixO 108 Z Z Z av tu203 B0))<|oC (oRn (λM E=>ld 108 Z Z (Foc.el av) Be Z))<|oC (oRn (λM E=>mv Z))<|oC (oRn (λM E=>mv Z))<|oC (oRn (λM E=>I.sub Z Z))<|oC (oRn (λM E=>ixO 108 Z Z Z aw tu203 B0))<|oC (oRn (λM E=>ld 108 Z Z (Foc.el aw) Be Z))<|oC (oRn (λM E=>W.add Z Z))<|oC (oRn (λM E=>mv Z))<|oC (oCl [] [] [] bv func203 Z (λM=>(FB _ _)) (λM=>(Y2 Z Z)) (λM E=>rN))<|oC (oRn (λM E=>mv Z))<|oC (oCl [] [] [] bw func203 Z (λM=>(FB _ _)) (λM=>(Y2 Z Z)) (λM E=>rN))<|oC (oRn (λM E=>W.xor Z Z))<|oC (oRn (λM E=>mv Z))<|oC (oRn (λM E=>W.shr Z Z (Int.natCast_nonneg _)))<|oC (oRn (λM E=>W.xor Z Z))<|oC (oRn (λM E=>W.add Z Z))<|oC (oRn (λM E=>mv Z))<|oC (oCl [] [] [] bz func203 Z (λM=>(FB _ _)) (λM=>(Y2 Z Z)) (λM E=>rN))<|oC (oRn (λM E=>mv Z))<|oC (oCl [] [] [] c1 func203 Z (λM=>(FB _ _)) (λM=>(Y2 Z Z)) (λM E=>rN))<|oC (oRn (λM E=>W.xor Z Z))<|oC (oRn (λM E=>mv Z))<|oC (oRn (λM E=>W.shr Z Z (Int.natCast_nonneg _)))<|oC (oRn (λM E=>W.xor Z Z))<|oC (oRn (λM E=>W.add Z Z))<|oC (oEf 330 1 (λM E=>lit (R:=Aa) ([((ad+ae)+((ab ^^^ ac) ^^^ (BD a7 3)))+((af ^^^ ah) ^^^ (BD a8 10))]:List UInt32) 330 (pP Z Z<|pN) Z tu203 B0 Z Z))<|oC (oEf 108 2 (λM E=>apn 108 Z Z Z (.own 330 Z) c3 tu203 B0 Z Z Z))<|oC (oRn (λM E=>asg Z))<|oN) λc4=>Au<|Ak<|Al<|Zm Z<|Zq (I.add Z Z)<|Za Z<|AR 7 Z λcc=>Ah<|AB (λO U h=>⟨nvl [(c4 2)],Zu h [1,2,108]⟩)
   ·refine AF<|AG<|AI<|AA (λO U h=>⟨nvl [(a6 0)],Zu h [1,2,108]⟩)
  ·refine gEx λax=>A0<|Zc [] [(100,331)] func204 Z (zhe) λc5 ay=>Zb Z<|A0<|Zq (ld 1 Z Z fH Gv Z)<|Eb Z (AL 332 DU (.zr (R:=(Av 8 Aa)) (x:=(Vector.replicate 8 0)) Gt)) λai=>Es (sto 332 Z Z fH Z DU)<|Zn<|B6 (λ(am:(Vector UInt32 8)) O U=>Sta (ctx 203 H [] w) [(2,.val (A7 v1 0)),(4,.val (A7 v2 0)),(11,.val (A7 ai 0))] [(1,some (v1,.box 182 [.rd (Av 8 Aa) a0])),(2,some (v2,.box 182 [.rd (Av 8 Aa) (Vector.replicate 8 0)])),(332,some (ai,.box 182 [.rd (Av 8 Aa) am]))] O U) ?_ (λam=>?_)
   ·refine A0<|Zb Z<|AJ (λ(ao:(Vector UInt32 8) × Int) O U=>Sta (ctx 203 H [] w) [(2,.val (A7 v1 0)),(4,.val (A7 v2 0)),(5,.val (ax 0)),(10,.val (ay 0)),(11,.val (A7 ai 0)),(12,.rd A2 ao.2)] [(1,some (v1,.box 182 [.rd (Av 8 Aa) a0])),(2,some (v2,.box 182 [.rd (Av 8 Aa) (Vector.replicate 8 0)])),(108,some ((ax 0),.list Aa 65 ak)),(331,some ((ay 0),.list Aa 65 c5)),(332,some (ai,.box 182 [.rd (Av 8 Aa) ao.1]))] O U) (λO U h=>Zu h [1,2,108,331,332]) (λao=>?_)
    refine A9<|A0<|Zm Z<|Zq (I.lss Z Z)<|Zj Z (λc6=>?_) (λc6=>?_)
    ·refine Zt<|A9<|AD<|A9<|Dr mixed (by kernel_rfl)<|BM λaz b0=>Rq Z (ixB 332 Z Z Z b0 tu182 B0)<|Rq Z (ld 332 Z Z (fP (.el b0)) Be Z)<|BM λb1 b2=>Rq Z (ixB 332 Z Z Z b2 tu182 B0)<|Rq Z (ld 332 Z Z (fP (.el b2)) Be Z)<|BM λb3 b4=>Rq Z (ixB 332 Z Z Z b4 tu182 B0)<|Rq Z (ld 332 Z Z (fP (.el b4)) Be Z)<|BM λb5 b6=>Rq Z (ixB 332 Z Z Z b6 tu182 B0)<|Rq Z (ld 332 Z Z (fP (.el b6)) Be Z)<|BM λb7 b8=>Rq Z (ixB 332 Z Z Z b8 tu182 B0)<|Rq Z (ld 332 Z Z (fP (.el b8)) Be Z)<|BM λb9 ba=>Rq Z (ixB 332 Z Z Z ba tu182 B0)<|Rq Z (ld 332 Z Z (fP (.el ba)) Be Z)<|Rq Z (asg Z)<|Rq Z (asg Z)<|Rq Z (asg Z)<|Rq Z (asg Z)<|Rq Z (asg Z)<|Rq Z (asg Z)<|Ds<|Ak<|A9<|BK [] mixed Z Z<|BA λcd bb=>A6 0 Z Z (ixB 332 Z Z Z bb tu182 B0)<|A6 1 Z Z (ld 332 Z Z (fP (.el bb)) Be Z)<|A6 2 Z Z (mv Z)<|A6 4 Z Z (mv Z)<|A6 7 Z Z (mv Z)<|A6 11 Z Z (mv Z)<|A6 12 Z Z (mv Z)<|A6 13 Z Z (W.and Z Z)<|A6 14 Z Z (mv Z)<|A6 15 Z Z (W.cpl Z)<|A6 16 Z Z (mv Z)<|A6 17 Z Z (W.and Z Z)<|A6 18 Z Z (W.xor Z Z)<|A6 20 Z Z (mv Z)<|A6 21 Z Z (mv Z)<|BA λce bc=>A6 22 Z Z (ixO 331 Z Z Z bc tu203 B0)<|A6 23 Z Z (ld 331 Z Z (Foc.el bc) Be Z)<|A6 25 Z Z (mv Z)<|A6 26 Z Z (mv Z)<|BA λcf bd=>A6 27 Z Z (ixO 108 Z Z Z bd tu203 B0)<|A6 28 Z Z (ld 108 Z Z (Foc.el bd) Be Z)<|BH 3 [] [] Z (by kernel_rfl) Z (gd0 Z) Z func203 Z Z (FB _ _) (Y2 Z Z) rN Z (λ_ _=>Cr) λcg ch=>BH 5 [] [] Z (by kernel_rfl) Z (gd0 Z) Z func203 Z Z (FB _ _) (Y2 Z Z) rN Z (λ_ _=>Cr) λci cj=>A6 6 Z Z (W.xor Z Z)<|BH 8 [] [] Z (by kernel_rfl) Z (gd0 Z) Z func203 Z Z (FB _ _) (Y2 Z Z) rN Z (λ_ _=>Cr) λck cl=>A6 9 Z Z (W.xor Z Z)<|A6 10 Z Z (W.add Z Z)<|A6 19 Z Z (W.add Z Z)<|A6 24 Z Z (W.add Z Z)<|A6 29 Z Z (W.add Z Z)<|A6 30 Z Z (asg Z)<|Ha 19 Z Z λaj=>Bg (by kernel_rfl)<|Ak<|A0<|Zm Z<|Zc [] [] func203 Z (FB _ _) λcm cn=>Zm Z<|Zc [] [] func203 Z (FB _ _) λco cq=>Zq (W.xor Z Z)<|Zm Z<|Zc [] [] func203 Z (FB _ _) λcr ct=>Zq (W.xor Z Z)<|Zm Z<|Zm Z<|Zq (W.and Z Z)<|Zm Z<|Zm Z<|Zq (W.and Z Z)<|Zq (W.xor Z Z)<|Zm Z<|Zm Z<|Zq (W.and Z Z)<|Zq (W.xor Z Z)<|Zq (W.add Z Z)<|Za Z<|AR 20 Z λbe=>Zn<|Al<|Zm Z<|Zm Z<|Zq (W.add Z Z)<|Zm Z<|Zm Z<|Zm Z<|An λbf bg=>Zq (ixB 332 Z Z Z bg tu182 B0)<|Zq (ld 332 Z Z (fP (.el bg)) Be Z)<|Zm Z<|Zq (W.add Z Z)<|Zm Z<|Zm Z<|Zm Z<|Zq (litA (R:=Aa) [aj+be,az,b1,b3,bf+aj,b5,b7,b9] (#v[aj+be,az,b1,b3,bf+aj,b5,b7,b9]:Vector UInt32 8) (pP Z Z<|pP Z Z<|pP Z Z<|pP Z Z<|pP Z Z<|pP Z Z<|pP Z Z<|pP Z Z<|pN) Z tu182 DU Z B0)<|Es (sto 332 Z Z fH Z DU)<|Ah<|Au<|Ak<|Al<|Zm Z<|Zq (I.add Z Z)<|Za Z<|AR 12 Z λcu=>Ah<|AB (λO U h=>Zu h [1,2,108,331,332])
    ·refine AF<|AG<|AI<|AA (λO U h=>Zu h [1,2,332])
   ·refine B6 (λ(bh:(Vector UInt32 8)) O U=>Sta (ctx 203 H [] w) [(2,.val (A7 v1 0)),(4,.val (A7 v2 0))] [(1,some (v1,.box 182 [.rd (Av 8 Aa) bh])),(2,some (v2,.box 182 [.rd (Av 8 Aa) (Vector.replicate 8 0)]))] O U) ?_ (λbh=>?_)
    ·refine A0<|Zb Z<|AJ (λ(ap:(Vector UInt32 8) × Int) O U=>Sta (ctx 203 H [] w) [(2,.val (A7 v1 0)),(4,.val (A7 v2 0)),(11,.val (A7 ai 0)),(21,.rd A2 ap.2)] [(1,some (v1,.box 182 [.rd (Av 8 Aa) ap.1])),(2,some (v2,.box 182 [.rd (Av 8 Aa) (Vector.replicate 8 0)])),(332,some (ai,.box 182 [.rd (Av 8 Aa) am]))] O U) (λO U h=>Zu h [1,2,332]) (λap=>?_);refine A9<|A0<|Zm Z<|Zq (I.lss Z Z)<|Zj Z (λc7=>?_) (λc7=>?_)
     ·refine Zt<|A9<|AD<|BK [1] mixed Z Z<|A6 0 Z Z (mv Z)<|BA λcv bi=>A6 1 Z Z (ixB 1 Z Z Z bi tu182 B0)<|A6 3 Z Z (mv Z)<|BA λcx bj=>A6 4 Z Z (ixB 332 Z Z Z bj tu182 B0)<|A6 5 Z Z (ld 332 Z Z (fP (.el bj)) Be Z)<|hRun 2 Z (by kernel_rfl) (gd0 Z) Z Z Cr (ld 1 Z Z (fP (.el bi)) Be Z)<|A6 6 Z Z (W.add Z Z)<|BA λcy bk=>A6 7 Z Z (ixB 1 Z Z Z bk tu182 B0)<|Zp 8 Z Z Z Z Z (sto 1 Z Z (fP (.el bk)) Z B0)<|Bg (by kernel_rfl)<|Au<|Ak<|Al<|Zm Z<|Zq (I.add Z Z)<|Za Z<|AR 21 Z λc8=>Ah<|AB (λO U h=>Zu h [1,2,332])
     ·refine AF<|AG<|AI<|AA (λO U h=>Zu h [1,2])
    ·refine A0<|Zq (ld 1 Z Z fH Gv Z)<|Es (sto 2 Z Z fH Z DU)<|Zn<|A5<|Bu [] [] Z (eC 2 Z Z Gv<|eN) (rN)
def JQ (O:List UInt8) (M:(Vector UInt32 8) × Int):Option (Sum ((Vector UInt32 8)) ((Vector UInt32 8) × Int)) :=
 if decide ((w64 (M.2+64))<=(O.length:Int)) then
  cut O M.2 (w64 (M.2+64))>>=λx6 =>
  M9 M.1 x6>>=λr8 =>
  some (w64 (M.2+64))>>=λU =>
  some (.inr (r8,U))
 else
  some (.inl M.1)
def Ma (a0:Vector UInt32 8) (M:List UInt8):Option ((Vector UInt32 8)) :=
 (iter (JQ M) (a0,0))>>=λO =>
 some O
theorem zjt (a0:Vector UInt32 8) (a1:List UInt8):Aj Tryz.prog 140 [.rd (Av 8 Aa) a0,.rd (A3 u8R) a1] [] (Ma a0 a1) (λr nv=>⟨[.rd (Av 8 Aa) r],[]⟩):=by
 refine Aq 21 func140 Z Z Z λH w=>?_;refine A0<|Eb Z (bx 1 Z) λU=>Eb Z (AL 2 DU (.zr (R:=(Av 8 Aa)) (x:=(Vector.replicate 8 0)) Gt)) λv2=>Zn<|B6 (λ(s3:(Vector UInt32 8)) M O=>Sta (ctx 21 H [] w) [(2,.val (A7 U 0)),(4,.val (A7 v2 0))] [(1,some (U,.box 182 [.rd (Av 8 Aa) s3])),(2,some (v2,.box 182 [.rd (Av 8 Aa) (Vector.replicate 8 0)]))] M O) ?_ (λs3=>?_)
 ·refine A0<|Zb Z<|AJ (λ(s4:(Vector UInt32 8) × Int) M O=>Sta (ctx 21 H [] w) [(1,.rd (A3 u8R) a1),(2,.val (A7 U 0)),(4,.val (A7 v2 0)),(5,.rd A2 s4.2)] [(1,some (U,.box 182 [.rd (Av 8 Aa) s4.1])),(2,some (v2,.box 182 [.rd (Av 8 Aa) (Vector.replicate 8 0)]))] M O) (λM O h=>Zu h [1,2]) (λs4=>?_);refine A9<|A0<|Zm Z<|Zq (I.add Z Z)<|Zm Z<|Zq (Ar Z .rd Z tu114)<|Zq (I.leq Z Z)<|Zj Z (λh5=>?_) (λh5=>?_)
  ·refine Zt<|A9<|AD<|BK [1] mixed Z Z<|A6 1 Z Z (mv Z)<|A6 2 Z Z (mv Z)<|A6 3 Z Z (mv Z)<|A6 4 Z Z (I.add Z Z)<|BA λx6 h7=>A6 5 Z Z (cut' Z (.to Z) (.to Z) h7 tu114 ti5)<|hRun 0 Z (by kernel_rfl) (gd0 Z) Z Z anyJ (ld 1 Z Z fH Gv Z)<|I5 6 [] [] Z (by kernel_rfl) Z (gd0 Z) Z func182 Z Z (zk0 _ _) (Y2 Z Z) rN Z λr8 n9=>Zp 7 Z Z Z Z Z (sto 1 Z Z fH Z DU)<|Bg (by kernel_rfl)<|Au<|Ak<|Al<|Zm Z<|Zq (I.add Z Z)<|Za Z<|AR 5 Z λa2=>Ah<|AB (λM O h=>Zu h [1,2])
  ·refine AF<|AG<|AI<|AA (λM O h=>Zu h [1,2])
 ·refine A0<|Zq (ld 1 Z Z fH Gv Z)<|Es (sto 2 Z Z fH Z DU)<|Zn<|A5<|Bu [] [] Z (eC 2 Z Z Gv<|eN) (rN)
def JR (a0:Vector UInt32 8) (M:V3 × Int):Option (Sum (V3) (V3 × Int)) :=
 if decide (M.2<32) then
  B3 a0 (w64 (Int.tdiv M.2 4))>>=λU =>
  chk (0<=w64 (24 - (w64 (8 * (Int.tmod M.2 4)))))>>=λu9 =>
  B3 M.1 M.2>>=λa1 =>
  some (w64 (M.2+1))>>=λO =>
  some (.inr (BY M.1 M.2 ((BD U ((w64 (24 - (w64 (8 * (Int.tmod M.2 4)))):Int).toNat)).toUInt8),O))
 else
  some (.inl M.1)
def Mb (a0:Vector UInt32 8):Option (V3) :=
 (iter (JR a0) ((Vector.replicate 32 0),0))>>=λM =>
 some M
theorem zit (a0:Vector UInt32 8):Aj Tryz.prog 139 [.rd (Av 8 Aa) a0] [] (Mb a0) (λr nv=>⟨[.rd aZ r],[]⟩):=by
 refine Aq 22 func139 Z Z Z λH w=>?_;refine A0<|Eb Z (bx 1 Z) λv1=>Eb Z (AL 2 Ax (.zr (R:=aZ) (x:=(Vector.replicate 32 0)) C0)) λU=>Zn<|A0<|Eb Z (AL 3 Ax (.zr (R:=aZ) (x:=(Vector.replicate 32 0)) C0)) λv3=>Zn<|B6 (λ(s4:V3) M O=>Sta (ctx 22 H [] w) [(2,.val (A7 U 0)),(3,.val (A7 v3 0))] [(2,some (U,.box 61 [.rd aZ (Vector.replicate 32 0)])),(3,some (v3,.box 61 [.rd aZ s4]))] M O) ?_ (λs4=>?_)
 ·refine A0<|Zb Z<|AJ (λ(s5:V3 × Int) M O=>Sta (ctx 22 H [] w) [(1,.val (A7 v1 0)),(2,.val (A7 U 0)),(3,.val (A7 v3 0)),(4,.rd A2 s5.2)] [(1,some (v1,.box 182 [.rd (Av 8 Aa) a0])),(2,some (U,.box 61 [.rd aZ (Vector.replicate 32 0)])),(3,some (v3,.box 61 [.rd aZ s5.1]))] M O) (λM O h=>Zu h [1,2,3]) (λs5=>?_);refine A9<|A0<|Zm Z<|Zq (I.lss Z Z)<|Zj Z (λh6=>?_) (λh6=>?_)
  ·refine Zt<|A9<|AD<|Al<|Zm Z<|Zm Z<|Zq (I.quo Z Z (by decide))<|An λx7 h8=>Zq (ixB 1 Z Z Z h8 tu182 B0)<|Zq (ld 1 Z Z (fP (.el h8)) Be Z)<|Zm Z<|Zq (I.rem Z Z (by decide))<|Zq (I.mul Z Z)<|Zq (I.sub Z Z)<|An λu9 a2=>Zq (W.shr Z Z (CI a2))<|Zq (W.toB Z tu65 tu5)<|An λa6 a1=>Zq (ixB 3 Z Z Z a1 tu61 ti5)<|Es (sto 3 Z Z (fP (.el a1)) Z ti5)<|Ah<|Au<|Ak<|Al<|Zm Z<|Zq (I.add Z Z)<|Za Z<|AR 4 Z λa7=>Ah<|AB (λM O h=>Zu h [1,2,3])
  ·refine AF<|AG<|AI<|AA (λM O h=>Zu h [2,3])
 ·refine A0<|Zq (ld 3 Z Z fH AN Z)<|Es (sto 2 Z Z fH Z Ax)<|Zn<|A5<|Bu [] [] Z (eC 2 Z Z AN<|eN) (rN)
def JS (a0:List UInt8):Option (V3) :=
 OL>>=λr2 =>
 app 1 ([]:List UInt8) a0>>=λx5 =>
 M8 (a0.length:Int)>>=λr8 =>
 app 1 x5 r8>>=λM =>
 Ma r2 M>>=λO =>
 Mb O>>=λU =>
 some U
end
section
theorem Td (a0:List UInt8):Aj Tryz.prog 105 [.rd (A3 u8R) a0] [] (JS a0) (λr nv=>⟨[.rd aZ r],[]⟩):=by
 refine Aq 13 func105 Z Z Z λH w=>?_;refine A0<|Eb Z (AL 1 Ax (.zr (R:=aZ) (x:=(Vector.replicate 32 0)) C0)) λv1=>Zn<|A0<|Zc [] [] func141 Z (zkn) λr2 n3=>Ef Z (lit (R:=u8R) (([]:List UInt8):List UInt8) 2 (pN) Z tu114 ti5 Z Z) λv4=>Zm Z<|An λx5 O=>Ef Z (apn 2 Z Z Z .rd O tu114 ti5 Z Z Z) λv7=>Zm Z<|Zq (Ar Z .rd Z tu114)<|Zc [] [(100,3)] func142 Z (zmq _) λr8 n9=>An λa1 M=>Ef Z (apn 2 Z Z Z (.own 3 Z) M tu114 ti5 Z Z Z) λa2=>BG 2 [10] Z (fS Z<|fN)<|Zc [] [] func140 Z (zjt _ _) λa6 a7=>Zc [] [] func139 Z (zit _) λa8 aa=>Es (sto 1 Z Z fH Z Ax)<|Zn<|A5<|Bu [] [] Z (eC 1 Z Z AN<|eN) (rN)
def Mc (a0:Ae):Option (V3) :=
 M7 a0>>=λM =>
 JS M>>=λO =>
 some O
theorem zod (a0:Ae):Aj Tryz.prog 65 [.rd Ad a0] [] (Mc a0) (λr nv=>⟨[.rd aZ r],[]⟩):=by
 refine Aq 6 func65 Z Z Z λH w=>?_;refine A0<|Eb Z (bx 1 Z) λv1=>Eb Z (AL 2 Ax (.zr (R:=aZ) (x:=(Vector.replicate 32 0)) C0)) λv2=>Zn<|A0<|Zq (ld 1 Z Z fH Bz Z)<|Zc [] [(100,3)] func106 Z (zl9 _) λr3 n4=>BG 3 [4] Z (fS Z<|fN)<|Zc [] [] func105 Z (Td _) λr5 n6=>Es (sto 2 Z Z fH Z Ax)<|Zn<|A5<|Bu [] [] Z (eC 2 Z Z AN<|eN) (rN)
def JT (a0:V3) (O:V3) (M:Int):Option (Sum (Sum Int Unit) Int) :=
 if decide (M<32) then
  B3 a0 M>>=λx6 =>
  B3 O M>>=λx8 =>
  if decide (x6<x8) then
   some (.inl (.inl (-1)))
  else
   B3 a0 M>>=λU =>
   B3 O M>>=λa2 =>
   if decide (a2<U) then
    some (.inl (.inl 1))
   else
    some (.inr (w64 (M+1)))
 else
  some (.inl (.inr ()))
def Md (a0:V3) (M:V3):Option (Int) :=
 Bi (iter (JT a0 M) 0) λs3 =>
 some 0
theorem zmu (a0:V3) (a1:V3):Aj Tryz.prog 144 [.rd aZ a0,.rd aZ a1] [] (Md a0 a1) (λr nv=>⟨[.rd A2 r],[]⟩):=by
 refine Aq 24 func144 Z Z Z λH w=>?_;refine A0<|Eb Z (bx 1 Z) λv1=>Eb Z (bx 2 Z) λv2=>Zb Z<|Bt (λ(s3:Unit) M O=>Sta (ctx 24 H [] w) [] [] M O) ?_ (λs3=>?_)
 ·refine A0<|Zb Z<|AJ (λ(s4:Int) M O=>Sta (ctx 24 H [] w) [(2,.val (A7 v1 0)),(3,.val (A7 v2 0)),(5,.rd A2 s4)] [(1,some (v1,.box 61 [.rd aZ a0])),(2,some (v2,.box 61 [.rd aZ a1]))] M O) (λM O h=>Zu h [1,2]) (λs4=>?_);refine A9<|A0<|Zm Z<|Zq (I.lss Z Z)<|Zj Z (λh5=>?_) (λh5=>?_)
  ·refine Zt<|A9<|AD<|A9<|A9<|Dr mixed (by kernel_rfl)<|Rq Z (mv Z)<|BM λx6 h7=>Rq Z (ixB 1 Z Z Z h7 tu61 ti5)<|Rq Z (ld 1 Z Z (fP (.el h7)) ty5 Z)<|Rq Z (mv Z)<|BM λx8 h9=>Rq Z (ixB 2 Z Z Z h9 tu61 ti5)<|Rq Z (ld 2 Z Z (fP (.el h9)) ty5 Z)<|Rq Z (B.lss Z Z)<|Ds<|Ak<|gIf Z Z (λa6=>?_) (λa6=>?_)
   ·refine A0<|Zb Z<|A5<|Ap<|B7<|Ap<|Bp<|Bl<|Ze [] [] Z
   ·refine Zt<|A9<|Dr mixed (by kernel_rfl)<|Rq Z (mv Z)<|BM λa8 U=>Rq Z (ixB 1 Z Z Z U tu61 ti5)<|Rq Z (ld 1 Z Z (fP (.el U)) ty5 Z)<|Rq Z (mv Z)<|BM λab a2=>Rq Z (ixB 2 Z Z Z a2 tu61 ti5)<|Rq Z (ld 2 Z Z (fP (.el a2)) ty5 Z)<|Rq Z (B.gtr Z Z)<|Ds<|Ak<|gIf Z Z (λa7=>?_) (λa7=>?_)
    ·refine A0<|Zb Z<|A5<|B7<|Ap<|Bp<|Bl<|Ze [] [] Z
    ·refine AU<|Au<|Ak<|Al<|Zm Z<|Zq (I.add Z Z)<|Za Z<|Ah<|AB (λM O h=>Zu h [1,2])
  ·refine AF<|AG<|AI<|Bk (λM O h=>Zu h [])
 ·refine A0<|Zb Z<|A5<|Ze [] [] Z
def Iu (a0:List V3) (M:Int):Option (Sum (Sum Bool Unit) Int) :=
 if decide (M<(a0.length:Int)) then
  idx a0 (w64 (M - 1))>>=λO =>
  idx a0 M>>=λU =>
  Md O U>>=λr8 =>
  if decide (0<=r8) then
   some (.inl (.inl false))
  else
   some (.inr (w64 (M+1)))
 else
  some (.inl (.inr ()))
def JU (a0:List V3):Option (Bool) :=
 Bi (iter (Iu a0) 1) λs1 =>
 some true
theorem Te (a0:List V3):Aj Tryz.prog 107 [.rd (A3 aZ) a0] [] (JU a0) (λr nv=>⟨[.rd Ai r],[]⟩):=by
 refine Aq 21 func107 Z Z Z λH w=>?_;refine A0<|Zb Z<|Bt (λ(s1:Unit) M O=>Sta (ctx 21 H [] w) [] [] M O) ?_ (λs1=>?_)
 ·refine A0<|Zb Z<|AJ (λ(U:Int) M O=>Sta (ctx 21 H [] w) [(0,.rd (A3 aZ) a0),(3,.rd A2 U)] [] M O) (λM O h=>Zu h []) (λU=>?_);refine A9<|A0<|Zm Z<|Zm Z<|Zq (Ar Z .rd Z tu31)<|Zq (I.lss Z Z)<|Zj Z (λh3=>?_) (λh3=>?_)
  ·refine Zt<|A9<|AD<|A9<|BK [] mixed Z Z<|A6 0 Z Z (mv Z)<|A6 1 Z Z (mv Z)<|A6 2 Z Z (I.sub Z Z)<|BA λx4 h5=>A6 3 Z Z (ixR Z Z h5 tu31 Ax Z)<|A6 4 Z Z (ldR Z AN)<|A6 5 Z Z (mv Z)<|A6 6 Z Z (mv Z)<|BA λx6 h7=>A6 7 Z Z (ixR Z Z h7 tu31 Ax Z)<|A6 8 Z Z (ldR Z AN)<|BH 9 [] [] Z (by kernel_rfl) Z (gd0 Z) Z func144 Z Z (zmu _ _) (Y2 Z Z) rN Z (λ_ _=>Cr) λr8 n9=>A6 10 Z Z (I.geq Z Z)<|Bg (by kernel_rfl)<|Ak<|gIf Z Z (λa1=>?_) (λa1=>?_)
   ·refine A0<|Zb Z<|A5<|B7<|Ap<|Bp<|Bl<|Ze [] [] Z
   ·refine AU<|Au<|Ak<|Al<|Zm Z<|Zq (I.add Z Z)<|Za Z<|Ah<|AB (λM O h=>Zu h [])
  ·refine AF<|AG<|AI<|Bk (λM O h=>Zu h [])
 ·refine A0<|Zb Z<|A5<|Ze [] [] Z
def JV (O:UInt64) (M:UInt64 × UInt64 × UInt64):Option (Sum UInt64 (UInt64 × UInt64 × UInt64)) :=
 if decide (0<M.2.1) then
  (if (M.2.1 % 2)==1 then
   chk (O≠0)>>=λu6 =>
   some ((M.2.2 * M.1) % O)>>=λy8 =>
   some y8
  else
   some M.2.2)>>=λs4 =>
  chk (O≠0)>>=λu9 =>
  some ((M.1 * M.1) % O)>>=λU =>
  some (.inr (U,M.2.1 / 2,s4))
 else
  some (.inl M.2.2)
def JW (a0:UInt64) (M:UInt64) (O:UInt64):Option (UInt64) :=
 (iter (JV O) (a0,M,1))>>=λU =>
 some U
theorem Tf (a0:UInt64) (a1:UInt64) (a2:UInt64):Aj Tryz.prog 171 [.rd Ao a0,.rd Ao a1,.rd Ao a2] [] (JW a0 a1 a2) (λr nv=>⟨[.rd Ao r],[]⟩):=by
 refine Aq 26 func171 Z Z Z λH w=>?_;refine A0<|Zb Z<|A0<|Zb Z<|B6 (λ(s1:UInt64) M O=>Sta (ctx 26 H [] w) [(7,.rd Ao s1)] [] M O) ?_ (λs1=>?_)
 ·refine AJ (λ(s2:UInt64 × UInt64 × UInt64) M O=>Sta (ctx 26 H [] w) [(0,.rd Ao s2.1),(1,.rd Ao s2.2.1),(2,.rd Ao a2),(7,.rd Ao s2.2.2)] [] M O) (λM O h=>Zu h []) (λs2=>?_);refine A9<|A0<|Zm Z<|Zq (U.gtr Z Z)<|Zj Z (λh3=>?_) (λh3=>?_)
  ·refine Zt<|AD<|B6 (λ(s4:UInt64) M O=>Sta (ctx 26 H [] w) [(0,.rd Ao s2.1),(1,.rd Ao s2.2.1),(2,.rd Ao a2),(7,.rd Ao s4)] [] M O) ?_ (λs4=>?_)
   ·refine A0<|Zm Z<|Zq (U.rem Z Z (by decide))<|Zq (U.eql Z Z)<|Zj Z (λh5=>?_) (λh5=>?_)
    ·refine Al<|Zm Z<|Zm Z<|Zq (U.mul Z Z)<|Zm Z<|An λu6 h7=>Zq (U.rem Z Z (CI h7))<|Za Z<|AR 7 Z λy8=>Ah<|AA (λM O h=>Zu h [])
    ·refine AU<|AA (λM O h=>Zu h [])
   ·refine A0<|Zm Z<|Zm Z<|Zq (U.mul Z Z)<|Zm Z<|An λu9 a6=>Zq (U.rem Z Z (CI a6))<|Za Z<|AR 0 Z λa7=>Zn<|Al<|Zm Z<|Zq (U.quo Z Z (by decide))<|Za Z<|Ah<|Au<|AB (λM O h=>Zu h [])
  ·refine AF<|AG<|AI<|AA (λM O h=>Zu h [])
 ·refine A0<|Zm Z<|Zb Z<|A5<|Ze [] [] Z
def JX (a0:UInt32):Option (Bool) :=
 if decide (1<=a0) then
  if decide (a0<1000000007) then
   JW a0.toUInt64 500000003 1000000007>>=λM =>
   some (M==1)
  else
   some false
 else
  some false
theorem Tg (a0:UInt32):Aj Tryz.prog 134 [.rd Aa a0] [] (JX a0) (λr nv=>⟨[.rd Ai r],[]⟩):=by
 refine Aq 15 func134 Z Z Z λH w=>?_;refine A0<|Zb Z<|A0<|Zm Z<|Zq (W.geq Z Z)<|Zm Z<|AY 5 Z (λh1=>?_) (λh1=>?_)
 ·refine Ac 4 Z h1<|Ab Zx Z Z (mv Z)<|Ab Zx Z Z (W.lss Z Z)<|Zq (pkT Z Z)<|Zm Z<|AY 9 Z (λh2=>?_) (λh2=>?_)
  ·refine Ac 7 Z h2<|Ac 8 Z h2<|Ab Zx Z Z (mv Z)<|Ab Zx Z Z (W.toU Z tu65 tu52)<|CH [] [] Zx Z func171 Z Z (Tf _ _ _) (aQ Z<|aQ Z<|aQ Z<|aN) rN λr3 n4=>Ab Zx Z Z (U.eql Z Z)<|Zq (pkT Z Z)<|Zb Z<|A5<|Ze [] [] Z
  ·refine Ac 7 Z h2<|Ac 8 Z h2<|Zk Z<|Zk Z<|Zk Z<|Zk Z<|Zq (pkF Z Z)<|Zb Z<|A5<|Ze [] [] Z
 ·refine Ac 4 Z h1<|Zk Z<|Zk Z<|Zq (pkF Z Z)<|Zm Z<|Zk Z<|Zk Z<|Zk Z<|Zk Z<|Zq (pkF Z Z)<|Zb Z<|A5<|Ze [] [] Z
def JY (a0:List UInt8) (M:Int):Option (Sum (Sum Bool Unit) Int) :=
 if decide (M<(a0.length:Int)) then
  idx a0 M>>=λO =>
  if decide (O<33) then
   some (.inl (.inl false))
  else
   idx a0 M>>=λU =>
   if decide (126<U) then
    some (.inl (.inl false))
   else
    some (.inr (w64 (M+1)))
 else
  some (.inl (.inr ()))
def JZ (a0:List UInt8):Option (Bool) :=
 if decide ((a0.length:Int)<1) then
  some false
 else
  if decide (20<(a0.length:Int)) then
   some false
  else
   Bi (iter (JY a0) 0) λs3 =>
   some true
theorem Th (a0:List UInt8):Aj Tryz.prog 172 [.rd CB a0] [] (JZ a0) (λr nv=>⟨[.rd Ai r],[]⟩):=by
 refine Aq 28 func172 Z Z Z λH w=>?_;refine A0<|Zb Z<|A9<|A0<|Zm Z<|Zq (lenT Z Z tu9)<|Zq (I.lss Z Z)<|Zm Z<|AY 7 Z (λh1=>?_) (λh1=>?_)
 ·refine Ac 6 Z h1<|Zk Z<|Zk Z<|Zk Z<|Zq (pkT Z Z)<|Zn<|Dm Z<|A0<|Zb Z<|A5<|Ap<|Ze [] [] Z
 ·refine Ac 6 Z h1<|Ab Zx Z Z (mv Z)<|Ab Zx Z Z (lenT Z Z tu9)<|Ab Zx Z Z (I.gtr Z Z)<|Zq (pkF Z Z)<|Zj Z (λh2=>?_) (λh2=>?_)
  ·refine gKn 10 Z h2<|A0<|Zb Z<|A5<|Ap<|Ze [] [] Z
  ·refine gKn 10 Z h2<|Zt<|Bt (λ(s3:Unit) M O=>Sta (ctx 28 H [] w) [] [] M O) ?_ (λs3=>?_)
   ·refine A0<|Zb Z<|AJ (λ(s4:Int) M O=>Sta (ctx 28 H [] w) [(0,.rd CB a0),(3,.rd A2 s4)] [] M O) (λM O h=>Zu h []) (λs4=>?_);refine A9<|A0<|Zm Z<|Zm Z<|Zq (lenT Z Z tu9)<|Zq (I.lss Z Z)<|Zj Z (λh5=>?_) (λh5=>?_)
    ·refine Zt<|A9<|AD<|A0<|Zm Z<|Zm Z<|An λx6 h7=>Zq (idxT Z Z tu9 (DA h7).1 (DA h7).2.1)<|Zq (B.lss Z Z)<|Zm Z<|AY 22 Z (λh8=>?_) (λh8=>?_)
     ·refine Ac 21 Z h8<|Zk Z<|Zk Z<|Zk Z<|Zk Z<|Zq (pkT Z Z)<|Zn<|Dm Z<|A0<|Zb Z<|A5<|B7<|Ap<|Bp<|Bl<|Ze [] [] Z
     ·refine Ac 21 Z h8<|Ab Zx Z Z (mv Z)<|Ab Zx Z Z (mv Z)<|An λx9 a1=>Ab Zx Z Z (idxT Z Z tu9 (DA a1).1 (DA a1).2.1)<|Ab Zx Z Z (B.gtr Z Z)<|Zq (pkF Z Z)<|Zj Z (λU=>?_) (λU=>?_)
      ·refine gKn 26 Z U<|A0<|Zb Z<|A5<|B7<|Ap<|Bp<|Bl<|Ze [] [] Z
      ·refine gKn 26 Z U<|AU<|Au<|Ak<|Al<|Zm Z<|Zq (I.add Z Z)<|Za Z<|Ah<|AB (λM O h=>Zu h [])
    ·refine AF<|AG<|AI<|Bk (λM O h=>Zu h [])
   ·refine A0<|Zb Z<|A5<|Ze [] [] Z
def Me (a0:UInt64):Option (Int) :=
 some (w64 (((a0 % 9223372036854775808) / 4503599627370496).toNat:Int))>>=λy1 =>
 some y1
theorem zij (a0:UInt64):Aj Tryz.prog 213 [.rd Ao a0] [] (Me a0) (λr nv=>⟨[.rd A2 r],[]⟩):=by
 refine Aq 7 func213 Z Z Z λH w=>?_;refine A0<|Zb Z<|A0<|Zm Z<|Zq (U.rem Z Z (by decide))<|Zq (U.quo Z Z (by decide))<|Zq (U.toI Z tu52 tu3)<|Za Z<|AR 2 Z λy1=>Zn<|A5<|Ze [] [] Z
def ON (a0:UInt64):Option (UInt64) :=
 some (a0 % 4503599627370496)>>=λy1 =>
 some y1
theorem zie (a0:UInt64):Aj Tryz.prog 214 [.rd Ao a0] [] (ON a0) (λr nv=>⟨[.rd Ao r],[]⟩):=by
 refine Aq 5 func214 Z Z Z λH w=>?_;refine A0<|Zb Z<|A0<|Zm Z<|Zq (U.rem Z Z (by decide))<|Za Z<|AR 2 Z λy1=>Zn<|A5<|Ze [] [] Z
def Mf (a0:UInt64):Option (UInt8) :=
 Me a0>>=λM =>
 ON a0>>=λO =>
 Bi (if M==0 then
  if O==0 then
   some (.inl 1)
  else
   some (.inr ())
 else
  some (.inr ())) λs5 =>
 if M==0 then
  some 2
 else
  if decide (M<2047) then
   some 3
  else
   if O==0 then
    some 4
   else
    some 5
theorem zlc (a0:UInt64):Aj Tryz.prog 210 [.rd Ao a0] [] (Mf a0) (λr nv=>⟨[.rd u8R r],[]⟩):=by
 refine Aq 21 func210 Z Z Z λH w=>?_;refine A0<|Zb Z<|A0<|Zm Z<|Zc [] [] func213 Z (zij _) λr1 n2=>Zm Z<|Zc [] [] func214 Z (zie _) λr3 n4=>Za Z<|Zb Z<|Bt (λ(s5:Unit) M O=>Sta (ctx 21 H [] w) [(3,.rd A2 r1),(4,.rd Ao r3)] [] M O) ?_ (λs5=>?_)
 ·refine A0<|Zm Z<|Zq (I.eql Z Z)<|Zm Z<|AY 11 Z (λh6=>?_) (λh6=>?_)
  ·refine Ac 10 Z h6<|Ab Zx Z Z (mv Z)<|Ab Zx Z Z (U.eql Z Z)<|Zq (pkT Z Z)<|Zj Z (λh7=>?_) (λh7=>?_)
   ·refine gKn 13 Z h7<|A0<|Zb Z<|A5<|Bl<|Ze [] [] Z
   ·refine gKn 13 Z h7<|AU<|Bk (λM O h=>Zu h [])
  ·refine Ac 10 Z h6<|Zk Z<|Zk Z<|Zq (pkF Z Z)<|Zn<|DL Z<|AU<|Bk (λM O h=>Zu h [])
 ·refine A9<|A0<|Zm Z<|Zq (I.eql Z Z)<|Zj Z (λh8=>?_) (λh8=>?_)
  ·refine A0<|Zb Z<|A5<|Ap<|Ze [] [] Z
  ·refine Zt<|A9<|A0<|Zm Z<|Zq (I.lss Z Z)<|Zj Z (λh9=>?_) (λh9=>?_)
   ·refine A0<|Zb Z<|A5<|Ap<|Ze [] [] Z
   ·refine Zt<|A9<|A0<|Zm Z<|Zq (U.eql Z Z)<|Zj Z (λa1=>?_) (λa1=>?_)
    ·refine A0<|Zb Z<|A5<|Ap<|Ze [] [] Z
    ·refine Zt<|A0<|Zb Z<|A5<|Ze [] [] Z
def Mg (a0:UInt64):Option (UInt64) :=
 Mf a0>>=λM =>
 if M==5 then
  some 9221120237041090560
 else
  some a0
theorem zkk (a0:UInt64):Aj Tryz.prog 197 [.rd Ao a0] [] (Mg a0) (λr nv=>⟨[.rd Ao r],[]⟩):=by
 refine Aq 7 func197 Z Z Z λH w=>?_;refine A0<|Zb Z<|A9<|A0<|Zm Z<|Zc [] [] func210 Z (zlc _) λr1 n2=>Zq (B.eql Z Z)<|Zj Z (λh3=>?_) (λh3=>?_)
 ·refine A0<|Zb Z<|A5<|Ap<|Ze [] [] Z
 ·refine Zt<|A0<|Zm Z<|Zb Z<|A5<|Ze [] [] Z
def K0 (a0:List UInt8) (M:Int):Option (Sum (Sum Bool Unit) Int) :=
 if decide (M<(a0.length:Int)) then
  idx a0 M>>=λO =>
  if decide (O<32) then
   some (.inl (.inl false))
  else
   idx a0 M>>=λU =>
   if decide (126<U) then
    some (.inl (.inl false))
   else
    some (.inr (w64 (M+1)))
 else
  some (.inl (.inr ()))
def Mh (a0:List UInt8):Option (Bool) :=
 Bi (iter (K0 a0) 0) λs1 =>
 some true
theorem zhk (a0:List UInt8):Aj Tryz.prog 198 [.rd CB a0] [] (Mh a0) (λr nv=>⟨[.rd Ai r],[]⟩):=by
 refine Aq 20 func198 Z Z Z λH w=>?_;refine A0<|Zb Z<|Bt (λ(s1:Unit) M O=>Sta (ctx 20 H [] w) [] [] M O) ?_ (λs1=>?_)
 ·refine A0<|Zb Z<|AJ (λ(s2:Int) M O=>Sta (ctx 20 H [] w) [(0,.rd CB a0),(3,.rd A2 s2)] [] M O) (λM O h=>Zu h []) (λs2=>?_);refine A9<|A0<|Zm Z<|Zm Z<|Zq (lenT Z Z tu9)<|Zq (I.lss Z Z)<|Zj Z (λh3=>?_) (λh3=>?_)
  ·refine Zt<|A9<|AD<|A0<|Zm Z<|Zm Z<|An λx4 h5=>Zq (idxT Z Z tu9 (DA h5).1 (DA h5).2.1)<|Zq (B.lss Z Z)<|Zm Z<|AY 14 Z (λU=>?_) (λU=>?_)
   ·refine Ac 13 Z U<|Zk Z<|Zk Z<|Zk Z<|Zk Z<|Zq (pkT Z Z)<|Zn<|Dm Z<|A0<|Zb Z<|A5<|B7<|Ap<|Bp<|Bl<|Ze [] [] Z
   ·refine Ac 13 Z U<|Ab Zx Z Z (mv Z)<|Ab Zx Z Z (mv Z)<|An λx7 h8=>Ab Zx Z Z (idxT Z Z tu9 (DA h8).1 (DA h8).2.1)<|Ab Zx Z Z (B.gtr Z Z)<|Zq (pkF Z Z)<|Zj Z (λh9=>?_) (λh9=>?_)
    ·refine gKn 18 Z h9<|A0<|Zb Z<|A5<|B7<|Ap<|Bp<|Bl<|Ze [] [] Z
    ·refine gKn 18 Z h9<|AU<|Au<|Ak<|Al<|Zm Z<|Zq (I.add Z Z)<|Za Z<|Ah<|AB (λM O h=>Zu h [])
  ·refine AF<|AG<|AI<|Bk (λM O h=>Zu h [])
 ·refine A0<|Zb Z<|A5<|Ze [] [] Z
def Mi (a0:Az):Option (Int) :=
 if a0.Kind==1 then
  if a0.Bits==0 then
   if a0.Text==[] then
    some 0
   else
    some 8
  else
   some 8
 else
  if a0.Kind==2 then
   (if a0.Num==0 then
    if a0.Text==[] then
     Mg a0.Bits>>=λU =>
     some (U==a0.Bits)
    else
     some false
   else
    some false)>>=λs6 =>
   if s6 then
    some 0
   else
    some 8
  else
   if a0.Kind==3 then
    (if a0.Num==0 then
     if a0.Bits==0 then
      if decide ((a0.Text.length:Int)<=30) then
       Mh a0.Text>>=λM =>
       some M
      else
       some false
     else
      some false
    else
     some false)>>=λO =>
    if O then
     some 0
    else
     some 8
   else
    some 8
theorem zkh (a0:Az):Aj Tryz.prog 173 [.rd CQ a0] [] (Mi a0) (λr nv=>⟨[.rd A2 r],[]⟩):=by
 refine Aq 54 func173 Z Z Z λH w=>?_;refine A0<|Eb Z (bx 1 Z) λv1=>Zb Z<|A9<|A0<|Zq (faB 1 Z Z underlying67 Z (by exact ti5))<|Zq (ld 1 Z Z (fP (Fw _)) ty5 Z)<|Zn<|AD<|A0<|Zq (B.eql Z Z)<|Zb Z<|gIf Z Z (λh2=>?_) (λh2=>?_)
 ·refine gKn 6 Z h2<|A0<|Zq (faB 1 Z Z underlying67 Z (by exact CJ))<|Zq (ld 1 Z Z (fP (Gq _)) CU Z)<|Zq (U.eql Z Z)<|Zm Z<|AY 10 Z (λh3=>?_) (λh3=>?_)
  ·refine Ac 9 Z h3<|Ab Zx Z Z (faB 1 Z Z underlying67 Z (by exact ti9))<|Ab Zx Z Z (ld 1 Z Z (fP (FS _)) ty9 Z)<|Ab Zx Z Z (eqS Z Z)<|Zq (pkT Z Z)<|Zj Z (λh4=>?_) (λh4=>?_)
   ·refine gKn 13 Z h4<|A0<|Zb Z<|A5<|B7<|Ap<|Ze [] [] Z
   ·refine gKn 13 Z h4<|AU<|Au<|Ak<|A0<|Zb Z<|A5<|Ze [] [] Z
  ·refine Ac 9 Z h3<|Zk Z<|Zk Z<|Zk Z<|Zq (pkF Z Z)<|Zn<|DL Z<|AU<|Au<|Ak<|A0<|Zb Z<|A5<|Ze [] [] Z
 ·refine gKn 6 Z h2<|A0<|Zq (B.eql Z Z)<|Zb Z<|gIf Z Z (λh5=>?_) (λh5=>?_)
  ·refine gKn 16 Z h5<|B6 (λ(s6:Bool) M O=>Sta (ctx 54 H [] w) [(32,.rd Ai s6)] [] M O) ?_ (λs6=>?_)
   ·refine BK [] mixed Z Z<|A6 0 Z Z (faB 1 Z Z underlying67 Z (by exact ti2))<|A6 1 Z Z (ld 1 Z Z (fP (I8 _)) ty2 Z)<|A6 2 Z Z (I.eql Z Z)<|A6 3 Z Z (mv Z)<|hIf 20 Z Z (λh7=>?_) (λh7=>?_)
    ·refine hKn 19 Z Z h7<|Zg 4 Z Z (faB 1 Z Z underlying67 Z (by exact ti9))<|Zg 5 Z Z (ld 1 Z Z (fP (FS _)) ty9 Z)<|Zg 6 Z Z (eqS Z Z)<|A6 7 Z Z (pkT Z Z)<|A6 8 Z Z (mv Z)<|hIf 25 Z Z (λh8=>?_) (λh8=>?_)
     ·refine hKn 23 Z Z h8<|hKn 24 Z Z h8<|Zg 9 Z Z (faB 1 Z Z underlying67 Z (by exact CJ))<|Zg 10 Z Z (ld 1 Z Z (fP (Gq _)) CU Z)<|Zg 12 Z Z (faB 1 Z Z underlying67 Z (by exact CJ))<|Zg 13 Z Z (ld 1 Z Z (fP (Gq _)) CU Z)<|BH 11 [] [] Z (by kernel_rfl) Z Zx Z func197 Z Z (zkk _) (Y1 Z) rN Z (λ_ _=>Cr) λr9 ad=>Zg 14 Z Z (U.eql Z Z)<|A6 15 Z Z (pkT Z Z)<|Bg (by kernel_rfl)<|AA (λM O h=>Zu h [])
     ·refine hKn 23 Z Z h8<|hKn 24 Z Z h8<|hSk 9 Z Z<|hSk 10 Z Z<|hSk 11 Z Z<|hSk 12 Z Z<|hSk 13 Z Z<|hSk 14 Z Z<|A6 15 Z Z (pkF Z Z)<|Bg (by kernel_rfl)<|AA (λM O h=>Zu h [])
    ·refine hKn 19 Z Z h7<|hSk 4 Z Z<|hSk 5 Z Z<|hSk 6 Z Z<|A6 7 Z Z (pkF Z Z)<|A6 8 Z Z (mv Z)<|hSk 9 Z Z<|hSk 10 Z Z<|hSk 11 Z Z<|hSk 12 Z Z<|hSk 13 Z Z<|hSk 14 Z Z<|A6 15 Z Z (pkF Z Z)<|Bg (by kernel_rfl)<|AA (λM O h=>Zu h [])
   ·refine gIf Z Z (λab=>?_) (λab=>?_)
    ·refine A0<|Zb Z<|A5<|B7<|Ap<|Ze [] [] Z
    ·refine AU<|Au<|Ak<|A0<|Zb Z<|A5<|Ze [] [] Z
  ·refine gKn 16 Z h5<|A0<|Zq (B.eql Z Z)<|Zb Z<|gIf Z Z (λa6=>?_) (λa6=>?_)
   ·refine gKn 34 Z a6<|B6 (λ(a8:Bool) M O=>Sta (ctx 54 H [] w) [(53,.rd Ai a8)] [] M O) ?_ (λa8=>?_)
    ·refine Al<|Zq (faB 1 Z Z underlying67 Z (by exact ti2))<|Zq (ld 1 Z Z (fP (I8 _)) ty2 Z)<|Zq (I.eql Z Z)<|Zm Z<|AY 38 Z (λa7=>?_) (λa7=>?_)
     ·refine Ac 37 Z a7<|Ab Zx Z Z (faB 1 Z Z underlying67 Z (by exact CJ))<|Ab Zx Z Z (ld 1 Z Z (fP (Gq _)) CU Z)<|Ab Zx Z Z (U.eql Z Z)<|Zq (pkT Z Z)<|Zm Z<|AY 43 Z (λa1=>?_) (λa1=>?_)
      ·refine Ac 41 Z a1<|Ac 42 Z a1<|Ab Zx Z Z (faB 1 Z Z underlying67 Z (by exact ti9))<|Ab Zx Z Z (ld 1 Z Z (fP (FS _)) ty9 Z)<|Ab Zx Z Z (lenT Z Z tu9)<|Ab Zx Z Z (I.leq Z Z)<|Zq (pkT Z Z)<|Zm Z<|AY 49 Z (λa2=>?_) (λa2=>?_)
       ·refine Ac 47 Z a2<|Ac 48 Z a2<|Ab Zx Z Z (faB 1 Z Z underlying67 Z (by exact ti9))<|Ab Zx Z Z (ld 1 Z Z (fP (FS _)) ty9 Z)<|CH [] [] Zx Z func198 Z Z (zhk _) (Y1 Z) rN λae af=>Zq (pkT Z Z)<|Ah<|AA (λM O h=>Zu h [])
       ·refine Ac 47 Z a2<|Ac 48 Z a2<|Zk Z<|Zk Z<|Zk Z<|Zq (pkF Z Z)<|Ah<|AA (λM O h=>Zu h [])
      ·refine Ac 41 Z a1<|Ac 42 Z a1<|Zk Z<|Zk Z<|Zk Z<|Zk Z<|Zq (pkF Z Z)<|Zm Z<|Zk Z<|Zk Z<|Zk Z<|Zq (pkF Z Z)<|Ah<|AA (λM O h=>Zu h [])
     ·refine Ac 37 Z a7<|Zk Z<|Zk Z<|Zk Z<|Zq (pkF Z Z)<|Zm Z<|Zk Z<|Zk Z<|Zk Z<|Zk Z<|Zq (pkF Z Z)<|Zm Z<|Zk Z<|Zk Z<|Zk Z<|Zq (pkF Z Z)<|Ah<|AA (λM O h=>Zu h [])
    ·refine gIf Z Z (λac=>?_) (λac=>?_)
     ·refine A0<|Zb Z<|A5<|B7<|Ap<|Ze [] [] Z
     ·refine AU<|Au<|Ak<|A0<|Zb Z<|A5<|Ze [] [] Z
   ·refine gKn 34 Z a6<|AU<|Au<|Ak<|A0<|Zb Z<|A5<|Ze [] [] Z
def Mj (a0:AP):Option (Int) :=
 some (decide (a0.Value=(⟨0,0,0,[]⟩:Az)))>>=λM =>
 if a0.Kind==1 then
  if a0.Key==[] then
   if M then
    some 0
   else
    some 8
  else
   some 8
 else
  (if a0.Kind==2 then
   some true
  else
   some (a0.Kind==3))>>=λs6 =>
  if s6 then
   JZ a0.Key>>=λr9 =>
   if r9 then
    if M then
     some 0
    else
     some 8
   else
    some 8
  else
   if a0.Kind==4 then
    JZ a0.Key>>=λO =>
    if O then
     Mi a0.Value>>=λU =>
     if U==0 then
      some 0
     else
      some 8
    else
     some 8
   else
    some 8
theorem zii (a0:AP):Aj Tryz.prog 135 [.rd Ba a0] [] (Mj a0) (λr nv=>⟨[.rd A2 r],[]⟩):=by
 refine Aq 38 func135 Z Z Z λH w=>?_;refine A0<|Eb Z (bx 1 Z) λv1=>Zb Z<|A0<|Zq (faB 1 Z Z underlying69 Z (by exact CF))<|Zq (ld 1 Z Z (fP (Hc _)) E5 Z)<|Zq (bld (x':=(⟨0,0,0,[]⟩:Az)) [(0,1),(1,1),(2,1),(3,1)] underlying67 CF Z EL Z (Bld.done Z))<|Zq (eqA Z Z eq67 Z Z gq67)<|Za Z<|AR 3 Z λy2=>Zn<|A9<|A0<|Zq (faB 1 Z Z underlying69 Z (by exact ti5))<|Zq (ld 1 Z Z (fP (EX _)) ty5 Z)<|Zn<|AD<|A0<|Zq (B.eql Z Z)<|Zb Z<|gIf Z Z (λh3=>?_) (λh3=>?_)
 ·refine gKn 11 Z h3<|A0<|Zq (faB 1 Z Z underlying69 Z (by exact ti9))<|Zq (ld 1 Z Z (fP (Gr _)) ty9 Z)<|Zq (eqS Z Z)<|Zm Z<|AY 15 Z (λh4=>?_) (λh4=>?_)
  ·refine Ac 14 Z h4<|Ab Zx Z Z (mv Z)<|Zq (pkT Z Z)<|Zj Z (λO=>?_) (λO=>?_)
   ·refine gKn 3 Z O<|gKn 16 Z O<|A0<|Zb Z<|A5<|B7<|Ap<|Ze [] [] Z
   ·refine gKn 3 Z O<|gKn 16 Z O<|AU<|Au<|Ak<|A0<|Zb Z<|A5<|Ze [] [] Z
  ·refine Ac 14 Z h4<|Zk Z<|Zq (pkF Z Z)<|Zn<|DL Z<|AU<|Au<|Ak<|A0<|Zb Z<|A5<|Ze [] [] Z
 ·refine gKn 11 Z h3<|B6 (λ(s6:Bool) aa ww=>Sta (ctx 38 H [] w) [(1,.val (A7 v1 0)),(3,.rd Ai y2),(9,.rd u8R a0.Kind),(18,.rd Ai s6)] [(1,some (v1,.box 69 [.rd Ba a0]))] aa ww) ?_ (λs6=>?_)
  ·refine A0<|Zq (B.eql Z Z)<|Zb Z<|gIf Z Z (λh7=>?_) (λh7=>?_)
   ·refine gKn 19 Z h7<|AU<|AA (λaa ww h=>Zu h [1])
   ·refine gKn 19 Z h7<|Al<|Zq (B.eql Z Z)<|Za Z<|Ah<|AA (λaa ww h=>Zu h [1])
  ·refine gIf Z Z (λh8=>?_) (λh8=>?_)
   ·refine A0<|Zq (faB 1 Z Z underlying69 Z (by exact ti9))<|Zq (ld 1 Z Z (fP (Gr _)) ty9 Z)<|Zc [] [] func172 Z (Th _) λr9 a7=>Zm Z<|AY 24 Z (λU=>?_) (λU=>?_)
    ·refine Ac 23 Z U<|Ab Zx Z Z (mv Z)<|Zq (pkT Z Z)<|Zj Z (λM=>?_) (λM=>?_)
     ·refine gKn 3 Z M<|gKn 25 Z M<|A0<|Zb Z<|A5<|B7<|Ap<|Ze [] [] Z
     ·refine gKn 3 Z M<|gKn 25 Z M<|AU<|Au<|Ak<|A0<|Zb Z<|A5<|Ze [] [] Z
    ·refine Ac 23 Z U<|Zk Z<|Zq (pkF Z Z)<|Zn<|DL Z<|AU<|Au<|Ak<|A0<|Zb Z<|A5<|Ze [] [] Z
   ·refine A0<|Zq (B.eql Z Z)<|Zb Z<|gIf Z Z (λa1=>?_) (λa1=>?_)
    ·refine gKn 28 Z a1<|A0<|Zq (faB 1 Z Z underlying69 Z (by exact ti9))<|Zq (ld 1 Z Z (fP (Gr _)) ty9 Z)<|Zc [] [] func172 Z (Th _) λa8 ab=>Zm Z<|AY 32 Z (λa2=>?_) (λa2=>?_)
     ·refine Ac 31 Z a2<|Ab Zx Z Z (faB 1 Z Z underlying69 Z (by exact CF))<|Ab Zx Z Z (ld 1 Z Z (fP (Hc _)) E5 Z)<|CH [] [] Zx Z func173 Z Z (zkh _) (Y1 Z) rN λac ad=>Ab Zx Z Z (I.eql Z Z)<|Zq (pkT Z Z)<|Zj Z (λa6=>?_) (λa6=>?_)
      ·refine gKn 36 Z a6<|A0<|Zb Z<|A5<|B7<|Ap<|Ze [] [] Z
      ·refine gKn 36 Z a6<|AU<|Au<|Ak<|A0<|Zb Z<|A5<|Ze [] [] Z
     ·refine Ac 31 Z a2<|Zk Z<|Zk Z<|Zk Z<|Zk Z<|Zq (pkF Z Z)<|Zn<|DL Z<|AU<|Au<|Ak<|A0<|Zb Z<|A5<|Ze [] [] Z
    ·refine gKn 28 Z a1<|AU<|Au<|Ak<|A0<|Zb Z<|A5<|Ze [] [] Z
def Hr (a0:UInt32):Option (Bool) :=
 some (decide (a0.toUInt64<500000003))>>=λy1 =>
 some y1
theorem Ml (a0:UInt32):Aj Tryz.prog 136 [.rd Aa a0] [] (Hr a0) (λr nv=>⟨[.rd Ai r],[]⟩):=by
 refine Aq 6 func136 Z Z Z λH w=>?_;refine A0<|Zb Z<|A0<|Zm Z<|Zq (W.toU Z tu65 tu52)<|Zq (U.lss Z Z)<|Za Z<|AR 2 Z λy1=>Zn<|A5<|Ze [] [] Z
def K1 (a0:Ae):Option (Int) :=
 if decide (4<(a0.Preds.length:Int)) then
  some 4
 else
  JU a0.Preds>>=λr3 =>
  if !r3 then
   some 32
  else
   (JX a0.Author>>=λr7 =>
   if !r7 then
    some true
   else
    if decide (1000000000000<a0.Stamp) then
     some true
    else
     Mj a0.Act>>=λM =>
     if M != 0 then
      some true
     else
      Hr a0.Sig.E>>=λO =>
      if !O then
       some true
      else
       Hr a0.Sig.S>>=λU =>
       some (!U))>>=λs6 =>
   if s6 then
    some 8
   else
    some 0
theorem Ti (a0:Ae):Aj Tryz.prog 103 [.rd Ad a0] [] (K1 a0) (λr nv=>⟨[.rd A2 r],[]⟩):=by
 refine Aq 40 func103 Z Z Z λH w=>?_;refine A0<|Eb Z (bx 1 Z) λv1=>Zb Z<|A9<|A0<|Zq (faB 1 Z Z underlying73 Z (by exact B2))<|Zq (ld 1 Z Z (fP (Cv _)) B8 Z)<|Zq (Ar Z .rd Z tu31)<|Zq (I.gtr Z Z)<|Zj Z (λh2=>?_) (λh2=>?_)
 ·refine A0<|Zb Z<|A5<|Ap<|Ze [] [] Z
 ·refine Zt<|A9<|A0<|Zq (faB 1 Z Z underlying73 Z (by exact B2))<|Zq (ld 1 Z Z (fP (Cv _)) B8 Z)<|Zc [] [] func107 Z (Te _) λr3 n4=>Zq (By Z)<|Zj Z (λh5=>?_) (λh5=>?_)
  ·refine A0<|Zb Z<|A5<|Ap<|Ze [] [] Z
  ·refine Zt<|A9<|B6 (λ(s6:Bool) aa ww=>Sta (ctx 40 H [] w) [(39,.rd Ai s6)] [] aa ww) ?_ (λs6=>?_)
   ·refine Al<|Zq (faB 1 Z Z underlying73 Z (by exact B0))<|Zq (ld 1 Z Z (fP (Ex _)) Be Z)<|Zc [] [] func134 Z (Tg _) λr7 n8=>Zq (By Z)<|Zm Z<|AY 15 Z (λh9=>?_) (λh9=>?_)
    ·refine Ac 14 Z h9<|Zk Z<|Zk Z<|Zk Z<|Zq (pkT Z Z)<|Zm Z<|Zk Z<|Zk Z<|Zk Z<|Zk Z<|Zq (pkT Z Z)<|Zm Z<|Zk Z<|Zk Z<|Zk Z<|Zk Z<|Zk Z<|Zq (pkT Z Z)<|Zm Z<|Zk Z<|Zk Z<|Zk Z<|Zk Z<|Zk Z<|Zq (pkT Z Z)<|Ah<|AA (λaa ww h=>Zu h [])
    ·refine Ac 14 Z h9<|Ab Zx Z Z (faB 1 Z Z underlying73 Z (by exact CJ))<|Ab Zx Z Z (ld 1 Z Z (fP (EK _)) CU Z)<|Ab Zx Z Z (U.gtr Z Z)<|Zq (pkF Z Z)<|Zm Z<|AY 20 Z (λM=>?_) (λM=>?_)
     ·refine Ac 18 Z M<|Ac 19 Z M<|Zk Z<|Zk Z<|Zk Z<|Zk Z<|Zq (pkT Z Z)<|Zm Z<|Zk Z<|Zk Z<|Zk Z<|Zk Z<|Zk Z<|Zq (pkT Z Z)<|Zm Z<|Zk Z<|Zk Z<|Zk Z<|Zk Z<|Zk Z<|Zq (pkT Z Z)<|Ah<|AA (λaa ww h=>Zu h [])
     ·refine Ac 18 Z M<|Ac 19 Z M<|Ab Zx Z Z (faB 1 Z Z underlying73 Z (by exact CP))<|Ab Zx Z Z (ld 1 Z Z (fP (D4 _)) ty69 Z)<|CH [] [] Zx Z func135 Z Z (zii _) (Y1 Z) rN λa6 a7=>Ab Zx Z Z (I.neq Z Z)<|Zq (pkF Z Z)<|Zm Z<|AY 26 Z (λO=>?_) (λO=>?_)
      ·refine Ac 24 Z O<|Ac 25 Z O<|Zk Z<|Zk Z<|Zk Z<|Zk Z<|Zk Z<|Zq (pkT Z Z)<|Zm Z<|Zk Z<|Zk Z<|Zk Z<|Zk Z<|Zk Z<|Zq (pkT Z Z)<|Ah<|AA (λaa ww h=>Zu h [])
      ·refine Ac 24 Z O<|Ac 25 Z O<|Ab Zx Z Z (faB 1 Z Z underlying73 Z (by exact CG))<|Ab Zx Z Z (faB 1 Z Z underlying71 Z (by exact B0))<|Ab Zx Z Z (ld 1 Z Z ((fP (DF _)).part (EY _)) Be Z)<|CH [] [] Zx Z func136 Z Z (Ml _) (Y1 Z) rN λa8 ab=>Ab Zx Z Z (By Z)<|Zq (pkF Z Z)<|Zm Z<|AY 33 Z (λa1=>?_) (λa1=>?_)
       ·refine Ac 31 Z a1<|Ac 32 Z a1<|Zk Z<|Zk Z<|Zk Z<|Zk Z<|Zk Z<|Zq (pkT Z Z)<|Ah<|AA (λaa ww h=>Zu h [])
       ·refine Ac 31 Z a1<|Ac 32 Z a1<|Ab Zx Z Z (faB 1 Z Z underlying73 Z (by exact CG))<|Ab Zx Z Z (faB 1 Z Z underlying71 Z (by exact B0))<|Ab Zx Z Z (ld 1 Z Z ((fP (DF _)).part (FT _)) Be Z)<|CH [] [] Zx Z func136 Z Z (Ml _) (Y1 Z) rN λac ad=>Ab Zx Z Z (By Z)<|Zq (pkF Z Z)<|Ah<|AA (λaa ww h=>Zu h [])
   ·refine gIf Z Z (λa2=>?_) (λa2=>?_)
    ·refine A0<|Zb Z<|A5<|Ap<|Ze [] [] Z
    ·refine Zt<|A0<|Zb Z<|A5<|Ze [] [] Z
def Iv (a0:UInt32) (M:UInt64):Option (UInt32) :=
 JW a0.toUInt64 M 1000000007>>=λO =>
 some O.toUInt32
theorem OO (a0:UInt32) (M:UInt64):Aj Tryz.prog 175 [.rd Aa a0,.rd Ao M] [] (Iv a0 M) (λr nv=>⟨[.rd Aa r],[]⟩):=by
 refine Aq 10 func175 Z Z Z λH w=>?_;refine A0<|Zb Z<|A0<|Zm Z<|Zq (W.toU Z tu65 tu52)<|Zm Z<|Zc [] [] func171 Z (Tf _ _ _) λr1 n2=>Zq (U.toW Z tu52 tu65)<|Zb Z<|A5<|Ze [] [] Z
def OP (a0:UInt32):Option (UInt32 × Int) :=
 JX a0>>=λM =>
 if !M then
  some (0,2)
 else
  Iv a0 500000002>>=λO =>
  some (O,0)
theorem zno (a0:UInt32):Aj Tryz.prog 174 [.rd Aa a0] [] (OP a0) (λr nv=>⟨[.rd Aa r.1,.rd A2 r.2],[]⟩):=by
 refine Aq 9 func174 Z Z Z λH w=>?_;refine A0<|Za Z<|Zb Z<|A9<|A0<|Zm Z<|Zc [] [] func134 Z (Tg _) λr1 n2=>Zq (By Z)<|Zj Z (λh3=>?_) (λh3=>?_)
 ·refine A0<|Za Z<|Zb Z<|A5<|Ap<|Ze [] [] Z
 ·refine Zt<|A0<|Zm Z<|Zc [] [] func175 Z (OO _ _) λr4 n5=>Za Z<|Zb Z<|A5<|Ze [] [] Z
def OQ (a0:UInt64):Option (UInt32) :=
 Iv 4 a0>>=λM =>
 some M
theorem zm9 (a0:UInt64):Aj Tryz.prog 201 [.rd Ao a0] [] (OQ a0) (λr nv=>⟨[.rd Aa r],[]⟩):=by
 refine Aq 5 func201 Z Z Z λH w=>?_;refine A0<|Zb Z<|A0<|Zm Z<|Zc [] [] func175 Z (OO _ _) λr1 n2=>Zb Z<|A5<|Ze [] [] Z
def OR (a0:UInt32):Option (UInt32) :=
 OQ a0.toUInt64>>=λM =>
 some M
theorem znm (a0:UInt32):Aj Tryz.prog 178 [.rd Aa a0] [] (OR a0) (λr nv=>⟨[.rd Aa r],[]⟩):=by
 refine Aq 6 func178 Z Z Z λH w=>?_;refine A0<|Zb Z<|A0<|Zm Z<|Zq (W.toU Z tu65 tu52)<|Zc [] [] func201 Z (zm9 _) λr1 n2=>Zb Z<|A5<|Ze [] [] Z
def OS (a0:UInt32) (M:UInt32):Option (UInt32) :=
 some (((a0.toUInt64 * M.toUInt64) % 1000000007).toUInt32)>>=λy1 =>
 some y1
theorem zix (a0:UInt32) (M:UInt32):Aj Tryz.prog 177 [.rd Aa a0,.rd Aa M] [] (OS a0 M) (λr nv=>⟨[.rd Aa r],[]⟩):=by
 refine Aq 12 func177 Z Z Z λH w=>?_;refine A0<|Zb Z<|A0<|Zm Z<|Zq (W.toU Z tu65 tu52)<|Zm Z<|Zq (W.toU Z tu65 tu52)<|Zq (U.mul Z Z)<|Zq (U.rem Z Z (by decide))<|Zq (U.toW Z tu52 tu65)<|Za Z<|AR 4 Z λy1=>Zn<|A5<|Ze [] [] Z
def K2 (a0:UInt32):Option ((List UInt8)) :=
 some [(a0 / 16777216).toUInt8,((a0 / 65536) % 256).toUInt8,((a0 / 256) % 256).toUInt8,(a0 % 256).toUInt8]
theorem Tj (a0:UInt32):Aj Tryz.prog 199 [.rd Aa a0] [] (K2 a0) (λr M=>⟨[.val (M 0)],[(100,some (M 0,.list u8R 5 r))]⟩):=by
 refine Aq 18 func199 Z Z Z λH w=>?_;refine A0<|Zb Z<|A0<|Zm Z<|Zq (W.quo Z Z (by decide))<|Zq (W.toB Z tu65 tu5)<|Zm Z<|Zq (W.quo Z Z (by decide))<|Zq (W.rem Z Z (by decide))<|Zq (W.toB Z tu65 tu5)<|Zm Z<|Zq (W.quo Z Z (by decide))<|Zq (W.rem Z Z (by decide))<|Zq (W.toB Z tu65 tu5)<|Zm Z<|Zq (W.rem Z Z (by decide))<|Zq (W.toB Z tu65 tu5)<|Ef Z (lit (R:=u8R) ([(a0 / 16777216).toUInt8,((a0 / 65536) % 256).toUInt8,((a0 / 256) % 256).toUInt8,(a0 % 256).toUInt8]:List UInt8) 1 (pP Z Z<|pP Z Z<|pP Z Z<|pP Z Z<|pN) Z tu114 ti5 Z Z) λO=>Zb Z<|A5<|Ze [O] [1] Z
def K3 (U:V3) (M:UInt64 × Int):Option (Sum UInt64 (UInt64 × Int)) :=
 if decide (M.2<8) then
  B3 U M.2>>=λx7 =>
  some ((256 * M.1)+x7.toUInt64)>>=λy9 =>
  some (w64 (M.2+1))>>=λO =>
  some (.inr (y9,O))
 else
  some (.inl M.1)
def Mm (a0:List UInt8):Option (UInt64) :=
 JS a0>>=λM =>
 (iter (K3 M) (0,0))>>=λO =>
 some O
theorem zjv (a0:List UInt8):Aj Tryz.prog 200 [.rd (A3 u8R) a0] [] (Mm a0) (λr nv=>⟨[.rd Ao r],[]⟩):=by
 refine Aq 20 func200 Z Z Z λH w=>?_;refine A0<|Zb Z<|A0<|Zm Z<|Zc [] [] func105 Z (Td _) λr1 n2=>Eb Z (AL 1 Ax (.zr (R:=aZ) (x:=(Vector.replicate 32 0)) C0)) λv3=>Es (sto 1 Z Z fH Z Ax)<|Zn<|A0<|Zb Z<|B6 (λ(s4:UInt64) M O=>Sta (ctx 20 H [] w) [(4,.rd Ao s4)] [] M O) ?_ (λs4=>?_)
 ·refine A0<|Zb Z<|AJ (λ(s5:UInt64 × Int) M O=>Sta (ctx 20 H [] w) [(3,.val (A7 v3 0)),(4,.rd Ao s5.1),(5,.rd A2 s5.2)] [(1,some (v3,.box 61 [.rd aZ r1]))] M O) (λM O h=>Zu h [1]) (λs5=>?_);refine A9<|A0<|Zm Z<|Zq (I.lss Z Z)<|Zj Z (λh6=>?_) (λh6=>?_)
  ·refine Zt<|A9<|AD<|Al<|Zm Z<|Zq (U.mul Z Z)<|Zm Z<|An λx7 h8=>Zq (ixB 1 Z Z Z h8 tu61 ti5)<|Zq (ld 1 Z Z (fP (.el h8)) ty5 Z)<|Zq (B.toU Z tu5 tu52)<|Zq (U.add Z Z)<|Za Z<|AR 4 Z λy9=>Ah<|Au<|Ak<|Al<|Zm Z<|Zq (I.add Z Z)<|Za Z<|AR 5 Z λa1=>Ah<|AB (λM O h=>Zu h [1])
  ·refine AF<|AG<|AI<|AA (λM O h=>Zu h [])
 ·refine A0<|Zm Z<|Zb Z<|A5<|Ze [] [] Z
def Mn (a0:UInt32) (a1:UInt32) (a2:List UInt8):Option (UInt32) :=
 K2 a0>>=λr2 =>
 app 1 [99] r2>>=λx4 =>
 K2 a1>>=λr7 =>
 app 1 x4 r7>>=λx9 =>
 app 1 x9 a2>>=λM =>
 Mm M>>=λO =>
 some ((O % 500000003).toUInt32)>>=λU =>
 some U
theorem zht (a0:UInt32) (M:UInt32) (O:List UInt8):Aj Tryz.prog 176 [.rd Aa a0,.rd Aa M,.rd (A3 u8R) O] [] (Mn a0 M O) (λr nv=>⟨[.rd Aa r],[]⟩):=by
 refine Aq 21 func176 Z Z Z λH w=>?_;refine A0<|Zb Z<|A0<|Ef Z (lit (R:=u8R) ([99]:List UInt8) 1 (pP Z Z<|pN) Z tu114 ti5 Z Z) λv1=>Zm Z<|Zc [] [(100,2)] func199 Z (Tj _) λr2 n3=>An λx4 h5=>Ef Z (apn 1 Z Z Z (.own 2 Z) h5 tu114 ti5 Z Z Z) λv6=>Zm Z<|Zc [] [(100,3)] func199 Z (Tj _) λr7 n8=>An λx9 a6=>Ef Z (apn 1 Z Z Z (.own 3 Z) a6 tu114 ti5 Z Z Z) λa8=>Zb Z<|A0<|Zm Z<|Zm Z<|An λaa a7=>Ef Z (apn 1 Z Z Z .rd a7 tu114 ti5 Z Z Z) λab=>BG 1 [17] Z (fS Z<|fN)<|Zc [] [] func200 Z (zjv _) λac ad=>Zq (U.rem Z Z (by decide))<|Zq (U.toW Z tu52 tu65)<|Za Z<|AR 6 Z λae=>Zn<|A5<|Ze [] [] Z
def Mo (a0:UInt32) (a1:List UInt8) (M:AC):Option (Bool) :=
 Hr M.E>>=λr2 =>
 if !r2 then
  some false
 else
  Hr M.S>>=λr5 =>
  if !r5 then
   some false
  else
   Iv a0 M.E.toUInt64>>=λr8 =>
   OP r8>>=λO =>
   OR M.S>>=λU =>
   OS U O.1>>=λa6 =>
   Mn a6 a0 a1>>=λa7 =>
   some (a7==M.E)
theorem zl1 (a0:UInt32) (U:List UInt8) (a2:AC):Aj Tryz.prog 137 [.rd Aa a0,.rd (A3 u8R) U,.rd Bc a2] [] (Mo a0 U a2) (λr nv=>⟨[.rd Ai r],[]⟩):=by
 refine Aq 39 func137 Z Z Z λH w=>?_;refine A0<|Eb Z (bx 1 Z) λv1=>Zb Z<|A9<|A0<|Zq (faB 1 Z Z underlying71 Z (by exact B0))<|Zq (ld 1 Z Z (fP (EY _)) Be Z)<|Zc [] [] func136 Z (Ml _) λr2 n3=>Zq (By Z)<|Zm Z<|AY 13 Z (λM=>?_) (λM=>?_)
 ·refine Ac 12 Z M<|Zk Z<|Zk Z<|Zk Z<|Zk Z<|Zq (pkT Z Z)<|Zn<|Dm Z<|A0<|Zb Z<|A5<|Ap<|Ze [] [] Z
 ·refine Ac 12 Z M<|Ab Zx Z Z (faB 1 Z Z underlying71 Z (by exact B0))<|Ab Zx Z Z (ld 1 Z Z (fP (FT _)) Be Z)<|CH [] [] Zx Z func136 Z Z (Ml _) (Y1 Z) rN λr5 n6=>Ab Zx Z Z (By Z)<|Zq (pkF Z Z)<|Zj Z (λO=>?_) (λO=>?_)
  ·refine gKn 17 Z O<|A0<|Zb Z<|A5<|Ap<|Ze [] [] Z
  ·refine gKn 17 Z O<|Zt<|A0<|Zm Z<|Zq (faB 1 Z Z underlying71 Z (by exact B0))<|Zq (ld 1 Z Z (fP (EY _)) Be Z)<|Zq (W.toU Z tu65 tu52)<|Zc [] [] func175 Z (OO _ _) λr8 n9=>Zc [] [] func174 Z (zno _) λa6 a7=>Zm Z<|Zq (ext Z Z)<|Zq (ext Z Z)<|Za Z<|Zb Z<|A9<|BK [] mixed Z Z<|A6 0 Z Z (faB 1 Z Z underlying71 Z (by exact B0))<|A6 1 Z Z (ld 1 Z Z (fP (FT _)) Be Z)<|A6 3 Z Z (mv Z)<|A6 5 Z Z (mv Z)<|A6 6 Z Z (mv Z)<|A6 8 Z Z (faB 1 Z Z underlying71 Z (by exact B0))<|A6 9 Z Z (ld 1 Z Z (fP (EY _)) Be Z)<|BH 2 [] [] Z (by kernel_rfl) Z (gd0 Z) Z func178 Z Z (znm _) (Y1 Z) rN Z (λ_ _=>Cr) λa8 aa=>BH 4 [] [] Z (by kernel_rfl) Z (gd0 Z) Z func177 Z Z (zix _ _) (Y2 Z Z) rN Z (λ_ _=>Cr) λab ac=>BH 7 [] [] Z (by kernel_rfl) Z (gd0 Z) Z func176 Z Z (zht _ _ _) (aQ Z<|aQ Z<|aQ Z<|aN) rN Z (λ_ _=>Cr) λad ae=>A6 10 Z Z (W.eql Z Z)<|A6 11 Z Z (asg Z)<|Bg (by kernel_rfl)<|Ak<|A5<|Ze [] [] Z
def OT (a0:Ae):Option (Bool) :=
 JL a0>>=λM =>
 Mo a0.Author M a0.Sig>>=λO =>
 some O
theorem zjw (a0:Ae):Aj Tryz.prog 104 [.rd Ad a0] [] (OT a0) (λr nv=>⟨[.rd Ai r],[]⟩):=by
 refine Aq 10 func104 Z Z Z λH w=>?_;refine A0<|Eb Z (bx 1 Z) λv1=>Zb Z<|A9<|BK [11] mixed Z Z<|A6 0 Z Z (faB 1 Z Z underlying73 Z (by exact B0))<|A6 1 Z Z (ld 1 Z Z (fP (Ex _)) Be Z)<|A6 2 Z Z (ld 1 Z Z fH Bz Z)<|A6 4 Z Z (faB 1 Z Z underlying73 Z (by exact CG))<|A6 5 Z Z (ld 1 Z Z (fP (DF _)) ty71 Z)<|BH 3 [] [(100,11)] Z (by kernel_rfl) Z (gd0 Z) Z func138 Z Z (Tc _) (Y1 Z) rN Z (λ_ _=>Ce) λr2 n3=>Em 11 [6] Z (fS Z<|fN)<|BH 6 [] [] Z (by kernel_rfl) Z (gd0 Z) Z func137 Z Z (zl1 _ _ _) (aQ Z<|aQ Z<|aQ Z<|aN) rN Z (λ_ _=>DD) λr4 n5=>A6 7 Z Z (asg Z)<|Bg (by kernel_rfl)<|Ak<|A5<|Ze [] [] Z
def Mq (a0:Ae):Option (Int) :=
 K1 a0>>=λM =>
 if M != 0 then
  K1 a0>>=λO =>
  some O
 else
  OT a0>>=λU =>
  if !U then
   some 22
  else
   some 0
theorem zjz (a0:Ae):Aj Tryz.prog 64 [.rd Ad a0] [] (Mq a0) (λr nv=>⟨[.rd A2 r],[]⟩):=by
 refine Aq 11 func64 Z Z Z λH w=>?_;refine A0<|Eb Z (bx 1 Z) λv1=>Zb Z<|A9<|A0<|Zq (ld 1 Z Z fH Bz Z)<|Zc [] [] func103 Z (Ti _) λr2 n3=>Zq (I.neq Z Z)<|Zj Z (λM=>?_) (λM=>?_)
 ·refine A0<|Zq (ld 1 Z Z fH Bz Z)<|Zc [] [] func103 Z (Ti _) λr5 n6=>Zb Z<|A5<|Ap<|Ze [] [] Z
 ·refine Zt<|A9<|A0<|Zq (ld 1 Z Z fH Bz Z)<|Zc [] [] func104 Z (zjw _) λr7 n8=>Zq (By Z)<|Zj Z (λO=>?_) (λO=>?_)
  ·refine A0<|Zb Z<|A5<|Ap<|Ze [] [] Z
  ·refine Zt<|A0<|Zb Z<|A5<|Ze [] [] Z
end
section
def Iw (a0:List V3) (U:V3) (M:Int × Int):Option (Sum Int (Int × Int)) :=
 if decide (M.1<M.2) then
  some (w64 ((BZ (UInt64.ofInt (w64 (M.1+M.2))) 1).toNat:Int))>>=λO =>
  idx a0 O>>=λx7 =>
  Fz x7 U>>=λr9 =>
  if decide (r9<0) then
   some (.inr (w64 (O+1),M.2))
  else
   some (.inr (M.1,O))
 else
  some (.inl M.1)
def Ix (a0:List V3) (O:V3):Option (Int × Bool) :=
 some (a0.length:Int)>>=λU =>
 (iter (Iw a0 O) (0,U))>>=λM =>
 if decide (M<U) then
  idx a0 M>>=λa2 =>
  Fz a2 O>>=λa6 =>
  some (M,a6==0)
 else
  some (M,false)
theorem z5i (a0:List V3) (a1:V3):Aj Tryz.prog 43 [.rd (A3 aZ) a0,.rd aZ a1,.val (.func (.func 44) #[] #[])] [] (Ix a0 a1) (λr nv=>⟨[.rd A2 r.1,.rd Ai r.2],[]⟩):=by
 refine Aq 49 func43 Z Z Z λH w=>?_;refine A0<|Eb Z (bx 1 Z) λv1=>Za Z<|Zb Z<|A0<|Zm Z<|Zq (Ar Z .rd Z tu31)<|Za Z<|AR 8 Z λy2=>Zn<|A0<|Zm Z<|Za Z<|Zb Z<|B6 (λ(s3:Int) M O=>Sta (ctx 49 H [] w) [(0,.rd (A3 aZ) a0),(2,.val (.func (.func 44) #[] #[])),(4,.val (A7 v1 0)),(8,.rd A2 y2),(9,.rd A2 s3)] [(1,some (v1,.box 61 [.rd aZ a1]))] M O) ?_ (λs3=>?_)
 ·refine AJ (λ(s4:Int × Int) M O=>Sta (ctx 49 H [] w) [(0,.rd (A3 aZ) a0),(2,.val (.func (.func 44) #[] #[])),(4,.val (A7 v1 0)),(8,.rd A2 y2),(9,.rd A2 s4.1),(10,.rd A2 s4.2)] [(1,some (v1,.box 61 [.rd aZ a1]))] M O) (λM O h=>Zu h [1]) (λs4=>?_);refine A9<|A0<|Zm Z<|Zm Z<|Zq (I.lss Z Z)<|Zj Z (λh5=>?_) (λh5=>?_)
  ·refine Zt<|AD<|A0<|Zm Z<|Zm Z<|Zq (I.add Z Z)<|Zq (I.toU Z tu3 underlying83)<|Zq (U.shr Z Z (Int.natCast_nonneg _))<|Zq (U.toI Z underlying83 tu3)<|Za Z<|AR 11 Z λy6=>Zn<|A9<|BK [] mixed Z Z<|A6 0 Z Z (mv Z)<|A6 1 Z Z (mv Z)<|A6 2 Z Z (mv Z)<|BA λx7 h8=>A6 3 Z Z (ixR Z Z h8 tu31 Ax Z)<|A6 4 Z Z (ldR Z AN)<|A6 5 Z Z (ld 1 Z Z fH AN Z)<|O2 6 [] [] Z (by kernel_rfl) Z (gd0 Z) Z func44 Z Z Z (Ig _ _) (Y2 Z Z) (cN) Z rN Z (λ_ _=>Cr) λr9 a8=>A6 7 Z Z (I.lss Z Z)<|Bg (by kernel_rfl)<|Ak<|gIf Z Z (λa6=>?_) (λa6=>?_)
   ·refine Al<|Zm Z<|Zq (I.add Z Z)<|Za Z<|Ah<|Au<|AB (λM O h=>Zu h [1])
   ·refine Al<|Zm Z<|Za Z<|Ah<|Au<|AB (λM O h=>Zu h [1])
  ·refine AF<|AG<|AI<|AA (λM O h=>Zu h [1])
 ·refine A9<|BK [] mixed Z Z<|A6 0 Z Z (mv Z)<|A6 1 Z Z (mv Z)<|A6 2 Z Z (mv Z)<|A6 3 Z Z (I.lss Z Z)<|A6 4 Z Z (mv Z)<|hIf 39 Z Z (λa2=>?_) (λa2=>?_)
  ·refine hKn 38 Z Z a2<|Zg 5 Z Z (mv Z)<|Zg 6 Z Z (mv Z)<|Zg 7 Z Z (mv Z)<|BA λab a7=>Zg 8 Z Z (ixR Z Z a7 tu31 Ax Z)<|Zg 9 Z Z (ldR Z AN)<|Zg 10 Z Z (ld 1 Z Z fH AN Z)<|O2 11 [] [] Z (by kernel_rfl) Z Zx Z func44 Z Z Z (Ig _ _) (Y2 Z Z) (cN) Z rN Z (λ_ _=>Cr) λac ad=>Zg 12 Z Z (I.eql Z Z)<|A6 13 Z Z (pkT Z Z)<|A6 14 Z Z (asg Z)<|A6 15 Z Z (asg Z)<|Bg (by kernel_rfl)<|Ak<|A5<|Ze [] [] Z
  ·refine hKn 38 Z Z a2<|hSk 5 Z Z<|hSk 6 Z Z<|hSk 7 Z Z<|hSk 8 Z Z<|hSk 9 Z Z<|hSk 10 Z Z<|hSk 11 Z Z<|hSk 12 Z Z<|A6 13 Z Z (pkF Z Z)<|A6 14 Z Z (asg Z)<|A6 15 Z Z (asg Z)<|Bg (by kernel_rfl)<|Ak<|A5<|Ze [] [] Z
def FC (a0:A4) (O:V3):Option (Int × Bool) :=
 Ix a0.IDs O>>=λM =>
 some (M.1,M.2)
theorem K4 (a0:A4) (M:V3):Aj Tryz.prog 23 [.rd A8 a0,.rd aZ M] [] (FC a0 M) (λr nv=>⟨[.rd A2 r.1,.rd Ai r.2],[]⟩):=by
 refine Aq 12 func23 Z Z Z λH w=>?_;refine A0<|Eb Z (bx 1 Z) λv1=>Eb Z (bx 2 Z) λv2=>Za Z<|Zb Z<|A0<|Zq (faB 1 Z Z underlying34 Z (by exact B2))<|Zq (ld 1 Z Z (fP (BT _)) B8 Z)<|Zq (ld 2 Z Z fH AN Z)<|Zc [] [] func43 Z (z5i _ _) λr3 n4=>Zq (ext Z Z)<|Zq (ext Z Z)<|Za Z<|Zb Z<|A5<|Ze [] [] Z
def Hs (a0:A4) (M:Int):Option (Sum (Sum Int Unit) Int) :=
 if decide (M<(a0.IDs.length:Int)) then
  idx a0.IDs (w64 (M - 1))>>=λO =>
  idx a0.IDs M>>=λU =>
  Fz O U>>=λr9 =>
  if decide (0<=r9) then
   some (.inl (.inl 32))
  else
   some (.inr (w64 (M+1)))
 else
  some (.inl (.inr ()))
def Iy (a0:A4) (a1:(List Int) × (List (List Int)) × (List Int) × Int) (U:Ae) (M:(List (List Int)) × Int):Option (Sum (Sum (Sum (Sum Int ((List Int) × (List (List Int)) × (List Int))) ((List Int) × (List (List Int)) × (List Int) × Int)) ((List (List Int)))) ((List (List Int)) × Int)) :=
 if decide (M.2<(U.Preds.length:Int)) then
  idx U.Preds M.2>>=λa2 =>
  FC a0 a2>>=λO =>
  if !O.2 then
   some (.inl (.inl (.inl (.inl 40))))
  else
   idx M.1 O.1>>=λa6 =>
   app 8 a6 [a1.2.2.2]>>=λa7 =>
   some (.inr (M.1.set (O.1:Int).toNat a7,w64 (M.2+1)))
 else
  some (.inl (.inr M.1))
def Iz (a0:A4) (M:(List Int) × (List (List Int)) × (List Int) × Int):Option (Sum (Sum Int ((List Int) × (List (List Int)) × (List Int))) ((List Int) × (List (List Int)) × (List Int) × Int)) :=
 if decide (M.2.2.2<(a0.Ops.length:Int)) then
  idx a0.Ops M.2.2.2>>=λO =>
  Bi (iter (Iy a0 M O) (M.2.1,0)) λU =>
  idx M.1 M.2.2.2>>=λa6 =>
  idx (M.1.set (M.2.2.2:Int).toNat (O.Preds.length:Int)) M.2.2.2>>=λa1 =>
  if a1==0 then
   app 8 M.2.2.1 [M.2.2.2]>>=λa2 =>
   some (.inr (M.1.set (M.2.2.2:Int).toNat (O.Preds.length:Int),U,a2,w64 (M.2.2.2+1)))
  else
   some (.inr (M.1.set (M.2.2.2:Int).toNat (O.Preds.length:Int),U,M.2.2.1,w64 (M.2.2.2+1)))
 else
  some (.inl (.inr (M.1,M.2.1,M.2.2.1)))
def IA (a1:List Int) (M:(List Int) × (List Int) × Int):Option (Sum ((List Int) × (List Int)) ((List Int) × (List Int) × Int)) :=
 if decide (M.2.2<(a1.length:Int)) then
  idx a1 M.2.2>>=λO =>
  idx M.1 O>>=λU =>
  idx M.1 O>>=λa7 =>
  idx (M.1.set (O:Int).toNat (w64 (U - 1))) O>>=λa2 =>
  if a2==0 then
   app 8 M.2.1 [O]>>=λa6 =>
   some (.inr (M.1.set (O:Int).toNat (w64 (U - 1)),a6,w64 (M.2.2+1)))
  else
   some (.inr (M.1.set (O:Int).toNat (w64 (U - 1)),M.2.1,w64 (M.2.2+1)))
 else
  some (.inl (M.1,M.2.1))
def K5 (U:(List Int) × (List (List Int)) × (List Int)) (M:(List Int) × (List Int) × Int):Option (Sum Int ((List Int) × (List Int) × Int)) :=
 if decide (M.2.2<(M.2.1.length:Int)) then
  (idx M.2.1 M.2.2>>=λa1 =>
  idx U.2.1 a1>>=λa2 =>
  iter (IA a2) (M.1,M.2.1,0))>>=λO =>
  some (w64 (M.2.2+1))>>=λa6 =>
  some (.inr (O.1,O.2,a6))
 else
  some (.inl M.2.2)
def K6 (a0:A4):Option (Int) :=
 Bi (iter (Hs a0) 1) λs2 =>
 mkn 8 0 (a0.Ops.length:Int)>>=λO =>
 mkn 24 ([]:List Int) (a0.Ops.length:Int)>>=λU =>
 Bi (iter (Iz a0) (O,U,[],0)) λM =>
 (iter (K5 M) (M.1,M.2.2,0))>>=λa1 =>
 if decide (a1<(a0.Ops.length:Int)) then
  some 36
 else
  some 0
theorem Tk (a0:A4):Aj Tryz.prog 62 [.rd A8 a0] [] (K6 a0) (λr nv=>⟨[.rd A2 r],[]⟩):=by
 refine Aq 133 func62 Z Z Z λH w=>?_;refine A0<|Eb Z (bx 1 Z) λv1=>Zb Z<|Bt (λ(s2:Unit) M O=>Sta (ctx 133 H [] w) [(1,.val (A7 v1 0))] [(1,some (v1,.box 34 [.rd A8 a0]))] M O) ?_ (λs2=>?_)
 ·refine A0<|Zb Z<|AJ (λ(s3:Int) M O=>Sta (ctx 133 H [] w) [(1,.val (A7 v1 0)),(3,.rd A2 s3)] [(1,some (v1,.box 34 [.rd A8 a0]))] M O) (λM O h=>h.sub [1] (sS Z<|sS Z<|sN) (y1 Z)) (λs3=>?_);refine A9<|A0<|Zm Z<|Zq (faB 1 Z Z underlying34 Z (by exact B2))<|Zq (ld 1 Z Z (fP (BT _)) B8 Z)<|Zq (Ar Z .rd Z tu31)<|Zq (I.lss Z Z)<|Zj Z (λh4=>?_) (λh4=>?_)
  ·refine Zt<|A9<|AD<|A9<|BK [] mixed Z Z<|A6 0 Z Z (faB 1 Z Z underlying34 Z (by exact B2))<|A6 1 Z Z (ld 1 Z Z (fP (BT _)) B8 Z)<|A6 2 Z Z (mv Z)<|A6 3 Z Z (I.sub Z Z)<|BA λx5 h6=>A6 4 Z Z (ixR Z Z h6 tu31 Ax Z)<|A6 5 Z Z (ldR Z AN)<|A6 6 Z Z (faB 1 Z Z underlying34 Z (by exact B2))<|A6 7 Z Z (ld 1 Z Z (fP (BT _)) B8 Z)<|A6 8 Z Z (mv Z)<|BA λx7 h8=>A6 9 Z Z (ixR Z Z h8 tu31 Ax Z)<|A6 10 Z Z (ldR Z AN)<|BH 11 [] [] Z (by kernel_rfl) Z (gd0 Z) Z func44 Z Z (Ig _ _) (Y2 Z Z) rN Z (λ_ _=>Cr) λr9 bt=>A6 12 Z Z (I.geq Z Z)<|Bg (by kernel_rfl)<|Ak<|gIf Z Z (λb2=>?_) (λb2=>?_)
   ·refine A0<|Zb Z<|A5<|B7<|Ap<|Bp<|Bl<|Bu [] [] Z (eE Z<|eN) (rN)
   ·refine AU<|Au<|Ak<|Al<|Zm Z<|Zq (I.add Z Z)<|Za Z<|Ah<|AB (λM O h=>h.sub [1] (sS Z<|sS Z<|sN) (y1 Z))
  ·refine AF<|AG<|AI<|Bk (λM O h=>h.sub [1] (sS Z<|sN) (y1 Z))
 ·refine A0<|Zq (faB 1 Z Z underlying34 Z (by exact Bq))<|Zq (ld 1 Z Z (fP (BN _)) BL Z)<|Zq (Ar Z .rd Z tu32)<|An λb3 b4=>Ef Z (mks (R:=A2) 44 Z Z b4 tu57 ti3 (Zr.num Z) Z) λa1=>Zb Z<|A0<|Zq (faB 1 Z Z underlying34 Z (by exact Bq))<|Zq (ld 1 Z Z (fP (BN _)) BL Z)<|Zq (Ar Z .rd Z tu32)<|An λb5 aj=>Ef Z (mksF 45 Z Z aj tu46 ti57 Z) λa2=>Yv (base:=100000) (lits:=[(1,some (v1,.box 34 [.rd A8 a0])),(44,some (a1,.list A2 3 b3)),(45,some (a2,.list Ci 57 (Cs (λ_=>Value.slice none 0 0) b5)))]) A2 3 [1,44,45] (Yu aj) (Zi Z<|Zi Z<|Zi Z<|rN)<|Zb Z<|A0<|Zb Z<|Bt (λ(a6:(List Int) × (List (List Int)) × (List Int)) M O=>∃ nv:Nat->Value,Sta (ctx 133 H [] w) [(1,.val (A7 v1 0)),(4,.val a1),(5,.val a2),(6,.val (nv 0))] ([(1,some (v1,.box 34 [.rd A8 a0])),(44,some (a1,.list A2 3 a6.1)),(45,some (a2,.list Ci 57 (Cs (λj=>nv (j+1)) a6.2.1))),(50,some ((nv 0),.list A2 3 a6.2.2))]++DG 100000 A2 3 (λj=>nv (j+1)) a6.2.1 0) M O) ?_ (λa6=>?_)
  ·refine A0<|Zq (faB 1 Z Z underlying34 Z (by exact Bq))<|Zq (ld 1 Z Z (fP (BN _)) BL Z)<|Zq (Ar Z .rd Z tu32)<|Zm Z<|Zn<|DB A2 3 56<|AJ (λ(U:(List Int) × (List (List Int)) × (List Int) × Int) M O=>∃ nv:Nat->Value,Sta (ctx 133 H [] w) [(1,.val (A7 v1 0)),(4,.val a1),(5,.val a2),(6,.val (nv 0)),(45,.rd (A3 Ad) a0.Ops),(46,.rd A2 (a0.Ops.length:Int)),(47,.rd A2 U.2.2.2)] ([(1,some (v1,.box 34 [.rd A8 a0])),(44,some (a1,.list A2 3 U.1)),(45,some (a2,.list Ci 57 (Cs (λj=>nv (j+1)) U.2.1))),(55,some ((nv 0),.list A2 3 U.2.2.1))]++DG 100000 A2 3 (λj=>nv (j+1)) U.2.1 0) M O) (λM O h=>⟨nvlF [(.slice none 0 0)] (λ_=>Value.slice none 0 0),h.subF (by repeat (first | refine Cw.cons Z ?_ | exact Cw.tail)) [1,44,45,56] (Zs Z Z Z Z<|sS Z<|sS Z<|sS Z<|sN) (Zi Z<|Zi Z<|Zi Z<|Zi Z<|rN) rfl⟩) (λU=>?_)
   refine gEx λa7=>A0<|Zq (I.lss Z Z)<|Zn<|A9<|gIf Z Z (λb6=>?_) (λb6=>?_)
   ·refine Zt<|A9<|AD<|A0<|Zm Z<|An λab b7=>Zq (ixR Z Z b7 tu32 B4 Z)<|Zq (ldR Z Bz)<|Eb Z (AL 57 B4 (ZrE.rd (R:=Aa) (x:=0) (Zr.num Z) (ZrE.nilS (ZrE.rd (R:=Ao) (x:=0) (Zr.num Z) (ZrE.rd (R:=Ba) (x:=(⟨0,[],(⟨0,0,0,[]⟩:Az)⟩:AP)) CR (ZrE.rd (R:=Bc) (x:=(⟨0,0⟩:AC)) CM ZrE.nil Z) Z) Z)) Z)) λac=>Za Z<|Bh aZ [.rd Aa 0,.rd (A3 aZ) [],.rd Ao 0,.rd Ba (⟨0,[],(⟨0,0,0,[]⟩:Az)⟩:AP),.rd Bc (⟨0,0⟩:AC)] 57 [.rd Aa 0] [.rd Ao 0,.rd Ba (⟨0,[],(⟨0,0,0,[]⟩:Az)⟩:AP),.rd Bc (⟨0,0⟩:AC)] Z Z Z<|BC (R:=Ad) (⟨0,[],0,(⟨0,[],(⟨0,0,0,[]⟩:Az)⟩:AP),(⟨0,0⟩:AC)⟩:Ae) 57 Z (Sp.via (Sp.prod (Sp.prod (Sp.prod (Sp.prod (Sp.prod Sp.unit))))))<|Es (sto 57 Z Z fH Z B4)<|Zn<|Bt (λ(af:(List (List Int))) M O=>∃ nv:Nat->Value,Sta (ctx 133 H [] w) [(1,.val (A7 v1 0)),(4,.val a1),(5,.val a2),(6,.val (a7 0)),(7,.rd A2 U.2.2.2),(8,.val (A7 ac 0)),(45,.rd (A3 Ad) a0.Ops),(46,.rd A2 (a0.Ops.length:Int)),(47,.rd A2 U.2.2.2)] ([(1,some (v1,.box 34 [.rd A8 a0])),(44,some (a1,.list A2 3 U.1)),(45,some (a2,.list Ci 57 (Cs (λj=>nv (j+0)) af))),(55,some ((a7 0),.list A2 3 U.2.2.1)),(57,some (ac,.box 73 [.rd Ad ab]))]++DG 100000 A2 3 (λj=>nv (j+0)) af 0) M O) ?_ (λaf=>?_)
    ·refine A0<|Zq (faB 57 Z Z underlying73 Z (by exact B2))<|Zq (ld 57 Z Z (fP (Cv _)) B8 Z)<|Zq (Ar Z .rd Z tu31)<|Zm Z<|Zn<|AJ (λ(ad:(List (List Int)) × Int) M O=>∃ nv:Nat->Value,Sta (ctx 133 H [] w) [(1,.val (A7 v1 0)),(4,.val a1),(5,.val a2),(6,.val (a7 0)),(7,.rd A2 U.2.2.2),(8,.val (A7 ac 0)),(45,.rd (A3 Ad) a0.Ops),(46,.rd A2 (a0.Ops.length:Int)),(47,.rd A2 U.2.2.2),(53,.rd (A3 aZ) ab.Preds),(54,.rd A2 (ab.Preds.length:Int)),(55,.rd A2 ad.2)] ([(1,some (v1,.box 34 [.rd A8 a0])),(44,some (a1,.list A2 3 U.1)),(45,some (a2,.list Ci 57 (Cs (λj=>nv (j+0)) ad.1))),(55,some ((a7 0),.list A2 3 U.2.2.1)),(57,some (ac,.box 73 [.rd Ad ab]))]++DG 100000 A2 3 (λj=>nv (j+0)) ad.1 0) M O) (λM O h=>⟨nvlF [] (λj=>a7 (j+1)),h.subF (by repeat (first | refine Cw.cons Z ?_ | exact Cw.tail)) [1,44,45,55,57] (Zs Z Z Z Z<|Zs Z Z Z Z<|Zs Z Z Z Z<|sN) (Zi Z<|Zi Z<|Zi Z<|Zi Z<|Zi Z<|rN) rfl⟩) (λad=>?_)
     refine gEx λak=>A0<|Zq (I.lss Z Z)<|Zn<|A9<|gIf Z Z (λb8=>?_) (λb8=>?_)
     ·refine Zt<|A9<|AD<|A0<|An λb9 ba=>Zq (ixR Z Z ba tu31 Ax Z)<|Zq (ldR Z AN)<|Eb Z (AL 58 Ax (.zr (R:=aZ) (x:=(Vector.replicate 32 0)) C0)) λbb=>Es (sto 58 Z Z fH Z Ax)<|Zn<|A0<|Zq (ld 1 Z Z fH AH Z)<|Zq (ld 58 Z Z fH AN Z)<|call [] [] Z func23 Z Z (K4 _ _) (Y2 Z Z) rN λbc bu=>Zm Z<|Zq (ext Z Z)<|Zq (ext Z Z)<|Za Z<|Zb Z<|A9<|A0<|Zm Z<|Zq (By Z)<|Zj Z (λbd=>?_) (λbd=>?_)
      ·refine A0<|Zb Z<|A5<|Ap<|B7<|Ap<|Bp<|Bl<|B7<|Ap<|Bp<|Bl<|Bu [] [] Z (eE Z<|eN) (rN)
      ·refine Zt<|Al<|Zm Z<|Zm Z<|Zm Z<|Zm Z<|An λbv ah=>Zq (ixO 45 Z Z Z (LA ah) tu46 ti57)<|Zq (ldF 45 Z Z ah ty57 Z)<|Zm Z<|Ef Z (lit (R:=A2) ([U.2.2.2]:List Int) 59 (pP Z Z<|pN) Z tu57 ti3 Z Z) λbe=>An λbw bf=>lApF (base:=100000) (lits:=[(1,some (v1,.box 34 [.rd A8 a0])),(44,some (a1,.list A2 3 U.1)),(55,some ((a7 0),.list A2 3 U.2.2.1)),(57,some (ac,.box 73 [.rd Ad ab])),(58,some (bb,.box 61 [.rd aZ b9])),(59,some (be,.list A2 3 [U.2.2.2]))]) 45 [1,44,55,57,58,59] (by repeat (first | refine Cw.cons Z ?_ | exact Cw.tail)) Z Z Z ah Z Z Z Z (.own 59 Z) bf Z (λ_ h=>by cases h; rfl) (λ_ h=>by cases h; rfl) Z Z tu57 ti3 Z Z Z tu46 ti57 ty57 (Zi Z<|Zi Z<|Zi Z<|Zi Z<|Zi Z<|Zi Z<|rN) Z λbg=>Ah<|Au<|Ak<|Al<|Zq (I.add Z Z)<|Zm Z<|Ah<|AB (λM O h=>⟨nvlF [] (updF (λj=>ak (j+0)) (bc.1:Int).toNat bg),h.subF (by repeat (first | refine Cw.cons Z ?_ | exact Cw.tail)) [1,44,45,55,57] (Zs Z Z Z Z<|Zs Z Z Z Z<|Zs Z Z Z Z<|sN) (Zi Z<|Zi Z<|Zi Z<|Zi Z<|Zi Z<|rN) rfl⟩)
     ·refine AF<|AG<|AI<|Bk (λM O h=>⟨nvlF [] (λj=>ak (j+0)),h.subF (by repeat (first | refine Cw.cons Z ?_ | exact Cw.tail)) [1,44,45,55,57] (Zs Z Z Z Z<|Zs Z Z Z Z<|sS Z<|sN) (Zi Z<|Zi Z<|Zi Z<|Zi Z<|Zi Z<|rN) rfl⟩)
    ·refine gEx λam=>A0<|Zm Z<|Zm Z<|Zq (faB 57 Z Z underlying73 Z (by exact B2))<|Zq (ld 57 Z Z (fP (Cv _)) B8 Z)<|Zq (Ar Z .rd Z tu31)<|An λbz ao=>Zq (ixO 44 Z Z Z ao tu57 ti3)<|Es (sto 44 Z Z (Foc.el ao) Z ti3)<|Zn<|A0<|Zm Z<|Zm Z<|An λc1 ap=>Zq (ixO 44 Z Z Z ap tu57 ti3)<|Zq (ld 44 Z Z (Foc.el ap) ty3 Z)<|Zq (I.eql Z Z)<|Zj Z (λbh=>?_) (λbh=>?_)
     ·refine Al<|Zm Z<|Zm Z<|Ef Z (lit (R:=A2) ([U.2.2.2]:List Int) 60 (pP Z Z<|pN) Z tu57 ti3 Z Z) λc2=>An λc3 bi=>Ef Z (apn 55 Z Z Z (.own 60 Z) bi tu57 ti3 Z Z Z) λv50=>Za Z<|Ah<|Au<|Ak<|Al<|Zq (I.add Z Z)<|Zm Z<|Ah<|AB (λM O h=>⟨nvlF [v50] (λj=>am (j+0)),h.subF (by repeat (first | refine Cw.cons Z ?_ | exact Cw.tail)) [1,44,45,55] (Zs Z Z Z Z<|sS Z<|sS Z<|sS Z<|sN) (Zi Z<|Zi Z<|Zi Z<|Zi Z<|rN) rfl⟩)
     ·refine AU<|Au<|Ak<|Al<|Zq (I.add Z Z)<|Zm Z<|Ah<|AB (λM O h=>⟨nvlF [(a7 0)] (λj=>am (j+0)),h.subF (by repeat (first | refine Cw.cons Z ?_ | exact Cw.tail)) [1,44,45,55] (Zs Z Z Z Z<|sS Z<|sS Z<|sS Z<|sN) (Zi Z<|Zi Z<|Zi Z<|Zi Z<|rN) rfl⟩)
   ·refine AF<|AG<|AI<|Bk (λM O h=>⟨nvlF [(a7 0)] (λj=>a7 (j+1)),h.subF (by repeat (first | refine Cw.cons Z ?_ | exact Cw.tail)) [1,44,45,55] (Zs Z Z Z Z<|sN) (Zi Z<|Zi Z<|Zi Z<|Zi Z<|rN) rfl⟩)
  ·refine gEx λaq=>A0<|Zb Z<|B6 (λ(ar:Int) M O=>Sta (ctx 133 H [] w) [(1,.val (A7 v1 0)),(13,.rd A2 ar)] [(1,some (v1,.box 34 [.rd A8 a0]))] M O) ?_ (λar=>?_)
   ·refine Yx (base:=100000) (T:=3) (lits:=[(1,some (v1,.box 34 [.rd A8 a0])),(44,some (a1,.list A2 3 a6.1)),(50,some ((aq 0),.list A2 3 a6.2.2))]) (by repeat (first | refine Cw.cons Z ?_ | exact Cw.tail)) 45 Z [1,44,50] (Zi Z<|Zi Z<|Zi Z<|rN) Z Z<|AJ (λ(a8:(List Int) × (List Int) × Int) M O=>∃ nv:Nat->Value,Sta (ctx 133 H [] w) [(1,.val (A7 v1 0)),(4,.val a1),(5,.val a2),(6,.val (nv 0)),(13,.rd A2 a8.2.2)] [(1,some (v1,.box 34 [.rd A8 a0])),(44,some (a1,.list A2 3 a8.1)),(45,some (a2,.list (A3 A2) 57 a6.2.1)),(50,some ((nv 0),.list A2 3 a8.2.1))] M O) (λM O h=>⟨nvl [(aq 0)],h.sub [1,44,45,50] (Zs Z Z Z Z<|sS Z<|sN) (Zi Z<|Zi Z<|Zi Z<|Zi Z<|rN)⟩) (λa8=>?_)
    refine gEx λbj=>A9<|A0<|Zm Z<|Zm Z<|Zq (Ar Z (.own 50 Z) Z tu57)<|Zq (I.lss Z Z)<|Zj Z (λbk=>?_) (λbk=>?_)
    ·refine Zt<|B6 (λ(ai:(List Int) × (List Int)) M O=>∃ nv:Nat->Value,Sta (ctx 133 H [] w) [(1,.val (A7 v1 0)),(4,.val a1),(5,.val a2),(6,.val (nv 0)),(13,.rd A2 a8.2.2)] [(1,some (v1,.box 34 [.rd A8 a0])),(44,some (a1,.list A2 3 ai.1)),(45,some (a2,.list (A3 A2) 57 a6.2.1)),(50,some ((nv 0),.list A2 3 ai.2))] M O) ?_ (λai=>?_)
     ·refine AD<|A0<|Zm Z<|Zm Z<|Zm Z<|An λc4 av=>Zq (ixO 50 Z Z Z av tu57 ti3)<|Zq (ld 50 Z Z (Foc.el av) ty3 Z)<|An λaw ax=>Zq (ixO 45 Z Z Z ax tu46 ti57)<|Zq (ld 45 Z Z (Foc.el ax) ty57 Z)<|Zq (Ar Z .rd Z tu57)<|Zm Z<|Zn<|AJ (λ(ae:(List Int) × (List Int) × Int) M O=>∃ nv:Nat->Value,Sta (ctx 133 H [] w) [(1,.val (A7 v1 0)),(4,.val a1),(5,.val a2),(6,.val (nv 0)),(13,.rd A2 a8.2.2),(106,.rd (A3 A2) aw),(107,.rd A2 (aw.length:Int)),(108,.rd A2 ae.2.2)] [(1,some (v1,.box 34 [.rd A8 a0])),(44,some (a1,.list A2 3 ae.1)),(45,some (a2,.list (A3 A2) 57 a6.2.1)),(50,some ((nv 0),.list A2 3 ae.2.1))] M O) (λM O h=>⟨nvl [(bj 0)],h.sub [1,44,45,50] (Zs Z Z Z Z<|Zs Z Z Z Z<|sN) (Zi Z<|Zi Z<|Zi Z<|Zi Z<|rN)⟩) (λae=>?_)
      refine gEx λay=>A0<|Zq (I.lss Z Z)<|Zn<|A9<|gIf Z Z (λbl=>?_) (λbl=>?_)
      ·refine Zt<|A9<|AD<|A0<|An λbm bn=>Zq (ixR Z Z bn tu57 ti3 Z)<|Zq (ldR Z ty3)<|Zb Z<|A0<|Zm Z<|Zm Z<|An λc5 az=>Zq (ixO 44 Z Z Z az tu57 ti3)<|Zq (ld 44 Z Z (Foc.el az) ty3 Z)<|Zq (I.sub Z Z)<|An λc6 b0=>Zq (ixO 44 Z Z Z b0 tu57 ti3)<|Es (sto 44 Z Z (Foc.el b0) Z ti3)<|Zn<|A0<|Zm Z<|Zm Z<|An λc7 b1=>Zq (ixO 44 Z Z Z b1 tu57 ti3)<|Zq (ld 44 Z Z (Foc.el b1) ty3 Z)<|Zq (I.eql Z Z)<|Zj Z (λbo=>?_) (λbo=>?_)
       ·refine Al<|Zm Z<|Zm Z<|Ef Z (lit (R:=A2) ([bm]:List Int) 61 (pP Z Z<|pN) Z tu57 ti3 Z Z) λc8=>An λc9 bp=>Ef Z (apn 50 Z Z Z (.own 61 Z) bp tu57 ti3 Z Z Z) λv76=>Za Z<|Ah<|Au<|Ak<|Al<|Zq (I.add Z Z)<|Zm Z<|Ah<|AB (λM O h=>⟨nvl [v76],h.sub [1,44,45,50] (Zs Z Z Z Z<|Zs Z Z Z Z<|sN) (Zi Z<|Zi Z<|Zi Z<|Zi Z<|rN)⟩)
       ·refine AU<|Au<|Ak<|Al<|Zq (I.add Z Z)<|Zm Z<|Ah<|AB (λM O h=>⟨nvl [(ay 0)],h.sub [1,44,45,50] (Zs Z Z Z Z<|Zs Z Z Z Z<|sN) (Zi Z<|Zi Z<|Zi Z<|Zi Z<|rN)⟩)
      ·refine AF<|AG<|AI<|Au<|AA (λM O h=>⟨nvl [(ay 0)],h.sub [1,44,45,50] (Zs Z Z Z Z<|sS Z<|sN) (Zi Z<|Zi Z<|Zi Z<|Zi Z<|rN)⟩)
     ·refine gEx λbq=>Al<|Zm Z<|Zq (I.add Z Z)<|Za Z<|AR 13 Z λca=>Ah<|AB (λM O h=>⟨nvl [(bq 0)],h.sub [1,44,45,50] (Zs Z Z Z Z<|sS Z<|sN) (Zi Z<|Zi Z<|Zi Z<|Zi Z<|rN)⟩)
    ·refine AF<|AG<|AI<|AA (λM O h=>h.sub [1] (sS Z<|sS Z<|sN) (y1 Z))
   ·refine A9<|A0<|Zm Z<|Zq (faB 1 Z Z underlying34 Z (by exact Bq))<|Zq (ld 1 Z Z (fP (BN _)) BL Z)<|Zq (Ar Z .rd Z tu32)<|Zq (I.lss Z Z)<|Zj Z (λbr=>?_) (λbr=>?_)
    ·refine A0<|Zb Z<|A5<|Ap<|Bu [] [] Z (eE Z<|eN) (rN)
    ·refine Zt<|A0<|Zb Z<|A5<|Bu [] [] Z (eE Z<|eN) (rN)
def K7 (a0:A4) (M:Int):Option (Sum (Sum Int Unit) Int) :=
 if decide (M<(a0.Ops.length:Int)) then
  idx a0.Ops M>>=λU =>
  Iq U>>=λO =>
  (if O.2 != 0 then
   some true
  else
   idx a0.IDs M>>=λa1 =>
   if !decide (O.1=a1) then
    some true
   else
    Ir U>>=λa2 =>
    some (a2 != 0))>>=λa6 =>
  if a6 then
   some (.inl (.inl 8))
  else
   some (.inr (w64 (M+1)))
 else
  some (.inl (.inr ()))
def Cb (a0:A4):Option (Int) :=
 if decide (60<(a0.Ops.length:Int)) then
  some 4
 else
  if (a0.IDs.length:Int) != (a0.Ops.length:Int) then
   some 8
  else
   Bi (iter (K7 a0) 0) λs4 =>
   K6 a0>>=λM =>
   some M
theorem GD (a0:A4):Aj Tryz.prog 42 [.rd A8 a0] [Am] (Cb a0) (λr nv=>⟨[.rd A2 r],[(1001,some (.bool true,.glob 1 (Av 64 Aa) Bv))]⟩):=by
 refine Aq 50 func42 Z Z Z λH w=>?_;refine A0<|Eb Z (bx 1 Z) λv1=>Zb Z<|A9<|A0<|Zq (faB 1 Z Z underlying34 Z (by exact Bq))<|Zq (ld 1 Z Z (fP (BN _)) BL Z)<|Zq (Ar Z .rd Z tu32)<|Zq (I.gtr Z Z)<|Zj Z (λh2=>?_) (λh2=>?_)
 ·refine A0<|Zb Z<|A5<|Ap<|Ze [] [1001] Z
 ·refine Zt<|A9<|A0<|Zq (faB 1 Z Z underlying34 Z (by exact B2))<|Zq (ld 1 Z Z (fP (BT _)) B8 Z)<|Zq (Ar Z .rd Z tu31)<|Zq (faB 1 Z Z underlying34 Z (by exact Bq))<|Zq (ld 1 Z Z (fP (BN _)) BL Z)<|Zq (Ar Z .rd Z tu32)<|Zq (I.neq Z Z)<|Zj Z (λh3=>?_) (λh3=>?_)
  ·refine A0<|Zb Z<|A5<|Ap<|Ze [] [1001] Z
  ·refine Zt<|Bt (λ(s4:Unit) M O=>Sta (ctx 50 H [Am] w) [(1,.val (A7 v1 0))] [(1,some (v1,.box 34 [.rd A8 a0])),Am] M O) ?_ (λs4=>?_)
   ·refine A0<|Zq (faB 1 Z Z underlying34 Z (by exact Bq))<|Zq (ld 1 Z Z (fP (BN _)) BL Z)<|Zq (Ar Z .rd Z tu32)<|Zm Z<|Zn<|AJ (λ(s5:Int) M O=>Sta (ctx 50 H [Am] w) [(1,.val (A7 v1 0)),(19,.rd (A3 Ad) a0.Ops),(20,.rd A2 (a0.Ops.length:Int)),(21,.rd A2 s5)] [(1,some (v1,.box 34 [.rd A8 a0])),Am] M O) (λM O h=>Zu h [1,1001]) (λs5=>?_);refine A0<|Zq (I.lss Z Z)<|Zn<|A9<|gIf Z Z (λh6=>?_) (λh6=>?_)
    ·refine Zt<|A9<|AD<|A0<|Zm Z<|An λx7 h8=>Zq (ixR Z Z h8 tu32 B4 Z)<|Zq (ldR Z Bz)<|Eb Z (AL 1100 B4 (ZrE.rd (R:=Aa) (x:=0) (Zr.num Z) (ZrE.nilS (ZrE.rd (R:=Ao) (x:=0) (Zr.num Z) (ZrE.rd (R:=Ba) (x:=(⟨0,[],(⟨0,0,0,[]⟩:Az)⟩:AP)) CR (ZrE.rd (R:=Bc) (x:=(⟨0,0⟩:AC)) CM ZrE.nil Z) Z) Z)) Z)) λv9=>Za Z<|Bh aZ [.rd Aa 0,.rd (A3 aZ) [],.rd Ao 0,.rd Ba (⟨0,[],(⟨0,0,0,[]⟩:Az)⟩:AP),.rd Bc (⟨0,0⟩:AC)] 1100 [.rd Aa 0] [.rd Ao 0,.rd Ba (⟨0,[],(⟨0,0,0,[]⟩:Az)⟩:AP),.rd Bc (⟨0,0⟩:AC)] Z Z Z<|BC (R:=Ad) (⟨0,[],0,(⟨0,[],(⟨0,0,0,[]⟩:Az)⟩:AP),(⟨0,0⟩:AC)⟩:Ae) 1100 Z (Sp.via (Sp.prod (Sp.prod (Sp.prod (Sp.prod (Sp.prod Sp.unit))))))<|Es (sto 1100 Z Z fH Z B4)<|Zn<|A0<|Zq (ld 1100 Z Z fH Bz Z)<|Zc [1001] [] func61 Z (OG _) λa8 ab=>Zm Z<|Zq (ext Z Z)<|Zq (ext Z Z)<|Eb Z (AL 1101 Ax (.zr (R:=aZ) (x:=(Vector.replicate 32 0)) C0)) λac=>Es (sto 1101 Z Z fH Z Ax)<|Zb Z<|B6 (λ(a2:Bool) M O=>Sta (ctx 50 H [Am] w) [(1,.val (A7 v1 0)),(19,.rd (A3 Ad) a0.Ops),(20,.rd A2 (a0.Ops.length:Int)),(21,.rd A2 s5),(46,.rd Ai a2)] [(1,some (v1,.box 34 [.rd A8 a0])),Am] M O) ?_ (λa2=>?_)
     ·refine BK [1001] mixed Z Z<|A6 0 Z Z (mv Z)<|A6 1 Z Z (I.neq Z Z)<|A6 2 Z Z (mv Z)<|hIf 33 Z Z (λa1=>?_) (λa1=>?_)
      ·refine hKn 32 Z Z a1<|hSk 3 Z Z<|hSk 4 Z Z<|hSk 5 Z Z<|hSk 6 Z Z<|hSk 7 Z Z<|hSk 8 Z Z<|hSk 9 Z Z<|A6 10 Z Z (pkT Z Z)<|A6 11 Z Z (mv Z)<|hSk 12 Z Z<|hSk 13 Z Z<|hSk 14 Z Z<|A6 15 Z Z (pkT Z Z)<|Bg (by kernel_rfl)<|AA (λM O h=>Zu h [1,1001])
      ·refine hKn 32 Z Z a1<|Zg 3 Z Z (ld 1101 Z Z fH AN Z)<|Zg 4 Z Z (faB 1 Z Z underlying34 Z (by exact B2))<|Zg 5 Z Z (ld 1 Z Z (fP (BT _)) B8 Z)<|Zg 6 Z Z (mv Z)<|BA λad a6=>Zg 7 Z Z (ixR Z Z a6 tu31 Ax Z)<|Zg 8 Z Z (ldR Z AN)<|Zg 9 Z Z (neA Z Z eq61 Z Z gq61)<|A6 10 Z Z (pkF Z Z)<|A6 11 Z Z (mv Z)<|hIf 42 Z Z (λU=>?_) (λU=>?_)
       ·refine hKn 40 Z Z U<|hKn 41 Z Z U<|hSk 12 Z Z<|hSk 13 Z Z<|hSk 14 Z Z<|A6 15 Z Z (pkT Z Z)<|Bg (by kernel_rfl)<|AA (λM O h=>Zu h [1,1001])
       ·refine hKn 40 Z Z U<|hKn 41 Z Z U<|Zg 12 Z Z (ld 1100 Z Z fH Bz Z)<|BH 13 [1001] [] Z (by kernel_rfl) Z Zx Z func60 Z Z (OK _) (Y1 Z) (y1 Z) Z (λ_ _=>Cr) λae af=>Zg 14 Z Z (I.neq Z Z)<|A6 15 Z Z (pkF Z Z)<|Bg (by kernel_rfl)<|AA (λM O h=>Zu h [1,1001])
     ·refine gIf Z Z (λa7=>?_) (λa7=>?_)
      ·refine A0<|Zb Z<|A5<|B7<|Ap<|Bp<|Bl<|Ze [] [1001] Z
      ·refine AU<|Au<|Ak<|Al<|Zq (I.add Z Z)<|Zm Z<|Ah<|AB (λM O h=>Zu h [1,1001])
    ·refine AF<|AG<|AI<|Bk (λM O h=>Zu h [1,1001])
   ·refine A0<|Zq (ld 1 Z Z fH AH Z)<|Zc [] [] func62 Z (Tk _) λah ai=>Zb Z<|A5<|Ze [] [1001] Z
def K8 (a0:List V3) (O:V3) (M:Int):Option (Sum (Sum Int Unit) Int) :=
 if decide (M<(a0.length:Int)) then
  idx a0 M>>=λU =>
  if decide (U=O) then
   some (.inl (.inl M))
  else
   some (.inr (w64 (M+1)))
 else
  some (.inl (.inr ()))
def G1 (a0:List V3) (M:V3):Option (Int) :=
 Bi (iter (K8 a0 M) 0) λs2 =>
 some (-1)
theorem Tl (a0:List V3) (U:V3):Aj Tryz.prog 67 [.rd (A3 aZ) a0,.rd aZ U] [] (G1 a0 U) (λr nv=>⟨[.rd A2 r],[]⟩):=by
 refine Aq 19 func67 Z Z Z λH w=>?_;refine A0<|Eb Z (bx 1 Z) λv1=>Zb Z<|Bt (λ(s2:Unit) M O=>Sta (ctx 19 H [] w) [] [] M O) ?_ (λs2=>?_)
 ·refine A0<|Zb Z<|AJ (λ(s3:Int) M O=>Sta (ctx 19 H [] w) [(0,.rd (A3 aZ) a0),(3,.val (A7 v1 0)),(5,.rd A2 s3)] [(1,some (v1,.box 61 [.rd aZ U]))] M O) (λM O h=>Zu h [1]) (λs3=>?_);refine A9<|A0<|Zm Z<|Zm Z<|Zq (Ar Z .rd Z tu31)<|Zq (I.lss Z Z)<|Zj Z (λh4=>?_) (λh4=>?_)
  ·refine Zt<|A9<|AD<|A9<|Dr mixed (by kernel_rfl)<|Rq Z (mv Z)<|Rq Z (mv Z)<|BM λx5 h6=>Rq Z (ixR Z Z h6 tu31 Ax Z)<|Rq Z (ldR Z AN)<|Rq Z (ld 1 Z Z fH AN Z)<|Rq Z (eqA Z Z eq61 Z Z gq61)<|Ds<|Ak<|gIf Z Z (λh7=>?_) (λh7=>?_)
   ·refine A0<|Zm Z<|Zb Z<|A5<|B7<|Ap<|Bp<|Bl<|Ze [] [] Z
   ·refine AU<|Au<|Ak<|Al<|Zm Z<|Zq (I.add Z Z)<|Za Z<|Ah<|AB (λM O h=>Zu h [1])
  ·refine AF<|AG<|AI<|Bk (λM O h=>Zu h [])
 ·refine A0<|Zb Z<|A5<|Ze [] [] Z
def K9 (a0:List V3) (O:List V3) (M:Int):Option (Sum (Sum Bool Unit) Int) :=
 if decide (M<(O.length:Int)) then
  idx O M>>=λU =>
  G1 a0 U>>=λr6 =>
  if decide (r6<0) then
   some (.inl (.inl false))
  else
   some (.inr (w64 (M+1)))
 else
  some (.inl (.inr ()))
def FD (a0:List V3) (M:List V3):Option (Bool) :=
 Bi (iter (K9 a0 M) 0) λs1 =>
 some true
theorem zn0 (a0:List V3) (U:List V3):Aj Tryz.prog 108 [.rd (A3 aZ) a0,.rd (A3 aZ) U] [] (FD a0 U) (λr nv=>⟨[.rd Ai r],[]⟩):=by
 refine Aq 19 func108 Z Z Z λH w=>?_;refine A0<|Zb Z<|Bt (λ(s1:Unit) M O=>Sta (ctx 19 H [] w) [] [] M O) ?_ (λs1=>?_)
 ·refine A0<|Zb Z<|AJ (λ(s2:Int) M O=>Sta (ctx 19 H [] w) [(0,.rd (A3 aZ) a0),(1,.rd (A3 aZ) U),(5,.rd A2 s2)] [] M O) (λM O h=>Zu h []) (λs2=>?_);refine A9<|A0<|Zm Z<|Zm Z<|Zq (Ar Z .rd Z tu31)<|Zq (I.lss Z Z)<|Zj Z (λh3=>?_) (λh3=>?_)
  ·refine Zt<|A9<|AD<|A0<|Zm Z<|Zm Z<|Zm Z<|An λx4 h5=>Zq (ixR Z Z h5 tu31 Ax Z)<|Zq (ldR Z AN)<|Zc [] [] func67 Z (Tl _ _) λr6 n7=>Zq (I.lss Z Z)<|Zj Z (λh8=>?_) (λh8=>?_)
   ·refine A0<|Zb Z<|A5<|B7<|Ap<|Bp<|Bl<|Ze [] [] Z
   ·refine AU<|Au<|Ak<|Al<|Zm Z<|Zq (I.add Z Z)<|Za Z<|Ah<|AB (λM O h=>Zu h [])
  ·refine AF<|AG<|AI<|Bk (λM O h=>Zu h [])
 ·refine A0<|Zb Z<|A5<|Ze [] [] Z
theorem zle (a0:List V3) (M:Value) (l0:List V3) (a1:V3):Aj Tryz.prog 67 [.vw aZ M l0 a0,.rd aZ a1] [(1,some (M,.list aZ 61 l0))] (G1 a0 a1) (λr nv=>⟨[.rd A2 r],[(1,some (M,.list aZ 61 l0))]⟩):=by
 refine Aq 19 func67 Z Z Z λH w=>?_;refine A0<|Eb Z (bx 2 Z) λv1=>Zb Z<|Bt (λ(s2:Unit) O U=>Sta (ctx 19 H [(1,some (M,.list aZ 61 l0))] w) [] [(1,some (M,.list aZ 61 l0))] O U) ?_ (λs2=>?_)
 ·refine A0<|Zb Z<|AJ (λ(s3:Int) O U=>Sta (ctx 19 H [(1,some (M,.list aZ 61 l0))] w) [(0,.vw aZ M l0 a0),(3,.val (A7 v1 0)),(5,.rd A2 s3)] [(1,some (M,.list aZ 61 l0)),(2,some (v1,.box 61 [.rd aZ a1]))] O U) (λO U h=>Zu h [1,2]) (λs3=>?_);refine A9<|A0<|Zm Z<|Zm Z<|Zq (Ar Z (.vw 1 Z) Z tu31)<|Zq (I.lss Z Z)<|Zj Z (λh4=>?_) (λh4=>?_)
  ·refine Zt<|A9<|AD<|A9<|Dr mixed (by kernel_rfl)<|Rq Z (mv Z)<|Rq Z (mv Z)<|BM λx5 h6=>Rq Z (ixQ 1 Z Z Z h6 tu31 Ax)<|Rq Z (ldQ 1 Z Z AN Z)<|Rq Z (ld 2 Z Z fH AN Z)<|Rq Z (eqA Z Z eq61 Z Z gq61)<|Ds<|Ak<|gIf Z Z (λh7=>?_) (λh7=>?_)
   ·refine A0<|Zm Z<|Zb Z<|A5<|B7<|Ap<|Bp<|Bl<|Ze [] [1] Z
   ·refine AU<|Au<|Ak<|Al<|Zm Z<|Zq (I.add Z Z)<|Za Z<|Ah<|AB (λO U h=>Zu h [1,2])
  ·refine AF<|AG<|AI<|Bk (λO U h=>Zu h [1])
 ·refine A0<|Zb Z<|A5<|Ze [] [1] Z
theorem zjr (a0:List V3) (M:Value) (l0:List V3) (a1:List V3):Aj Tryz.prog 108 [.vw aZ M l0 a0,.rd (A3 aZ) a1] [(1,some (M,.list aZ 61 l0))] (FD a0 a1) (λr nv=>⟨[.rd Ai r],[(1,some (M,.list aZ 61 l0))]⟩):=by
 refine Aq 19 func108 Z Z Z λH w=>?_;refine A0<|Zb Z<|Bt (λ(s1:Unit) O U=>Sta (ctx 19 H [(1,some (M,.list aZ 61 l0))] w) [] [(1,some (M,.list aZ 61 l0))] O U) ?_ (λs1=>?_)
 ·refine A0<|Zb Z<|AJ (λ(s2:Int) O U=>Sta (ctx 19 H [(1,some (M,.list aZ 61 l0))] w) [(0,.vw aZ M l0 a0),(1,.rd (A3 aZ) a1),(5,.rd A2 s2)] [(1,some (M,.list aZ 61 l0))] O U) (λO U h=>Zu h [1]) (λs2=>?_);refine A9<|A0<|Zm Z<|Zm Z<|Zq (Ar Z .rd Z tu31)<|Zq (I.lss Z Z)<|Zj Z (λh3=>?_) (λh3=>?_)
  ·refine Zt<|A9<|AD<|A0<|Zm Z<|Zm Z<|Zm Z<|An λx4 h5=>Zq (ixR Z Z h5 tu31 Ax Z)<|Zq (ldR Z AN)<|Zc [1] [(1,1)] func67 Z (zle _ _ _ _) λr6 n7=>Zq (I.lss Z Z)<|Zj Z (λh8=>?_) (λh8=>?_)
   ·refine A0<|Zb Z<|A5<|B7<|Ap<|Bp<|Bl<|Ze [] [1] Z
   ·refine AU<|Au<|Ak<|Al<|Zm Z<|Zq (I.add Z Z)<|Za Z<|Ah<|AB (λO U h=>Zu h [1])
  ·refine AF<|AG<|AI<|Bk (λO U h=>Zu h [1])
 ·refine A0<|Zb Z<|A5<|Ze [] [1] Z
def Ht (a0:A4) (M:(List Int) × (List V3) × (List Bool) × Bool) (O:Int):Option (Sum (Sum ((List Int)) ((List Int) × (List V3) × (List Bool) × Bool)) Int) :=
 if decide (O<(a0.Ops.length:Int)) then
  (idx M.2.2.1 O>>=λU =>
  if !U then
   idx a0.Ops O>>=λa1 =>
   FD M.2.1 a1.Preds>>=λa2 =>
   some a2
  else
   some false)>>=λa6 =>
  if a6 then
   app 8 M.1 [O]>>=λa7 =>
   idx a0.IDs O>>=λa8 =>
   app 32 M.2.1 [a8]>>=λaa =>
   idx M.2.2.1 O>>=λab =>
   some (.inl (.inr (a7,aa,M.2.2.1.set (O:Int).toNat true,true)))
  else
   some (.inr (w64 (O+1)))
 else
  some (.inl (.inr (M.1,M.2.1,M.2.2.1,false)))
def Mr (a0:A4) (M:(List Int) × (List V3) × (List Bool) × Bool):Option (Sum ((List Int)) ((List Int) × (List V3) × (List Bool) × Bool)) :=
 if M.2.2.2 then
  iter (Ht a0 M) 0
 else
  some (.inl M.1)
def Ms (a0:A4):Option ((List Int)) :=
 mkn 1 false (a0.Ops.length:Int)>>=λM =>
 (iter (Mr a0) ([],[],M,true))>>=λO =>
 some O
theorem zlg (a0:A4):Aj Tryz.prog 109 [.rd A8 a0] [] (Ms a0) (λr M=>⟨[.val (M 0)],[(100,some (M 0,.list A2 3 r))]⟩):=by
 refine Aq 51 func109 Z Z Z λH w=>?_;refine A0<|Eb Z (bx 1 Z) λv1=>Zb Z<|A0<|Zb Z<|A0<|Zb Z<|A0<|Zq (faB 1 Z Z underlying34 Z (by exact Bq))<|Zq (ld 1 Z Z (fP (BN _)) BL Z)<|Zq (Ar Z .rd Z tu32)<|An λx2 h3=>Ef Z (mks (R:=Ai) 2 Z Z h3 tu130 ti4 Zr.bool Z) λv4=>Zb Z<|B6 (λ(s5:(List Int)) aa ww=>∃ M:Nat->Value,Sta (ctx 51 H [] w) [(3,.val (M 0))] [(3,some ((M 0),.list A2 3 s5))] aa ww) ?_ (λs5=>?_)
 ·refine A0<|Zb Z<|DB A2 3 6<|DB aZ 61 7<|AJ (λ(U:(List Int) × (List V3) × (List Bool) × Bool) aa ww=>∃ M:Nat->Value,Sta (ctx 51 H [] w) [(1,.val (A7 v1 0)),(3,.val (M 0)),(4,.val (M 1)),(5,.val v4),(6,.rd Ai U.2.2.2)] [(1,some (v1,.box 34 [.rd A8 a0])),(4,some ((M 0),.list A2 3 U.1)),(5,some ((M 1),.list aZ 61 U.2.1)),(2,some (v4,.list Ai 4 U.2.2.1))] aa ww) (λaa ww h=>⟨nvl [(.slice none 0 0),(.slice none 0 0)],Zu h [1,6,7,2]⟩) (λU=>?_)
  refine gEx λO=>A9<|A0<|Zm Z<|Zj Z (λh8=>?_) (λh8=>?_)
  ·refine gKn 6 Z h8<|Zt<|AD<|A0<|Zb Z<|A0<|Zb Z<|AJ (λ(s9:Int) aa ww=>Sta (ctx 51 H [] w) [(1,.val (A7 v1 0)),(3,.val (O 0)),(4,.val (O 1)),(5,.val v4),(6,.rd Ai false),(7,.rd A2 s9)] [(1,some (v1,.box 34 [.rd A8 a0])),(4,some ((O 0),.list A2 3 U.1)),(5,some ((O 1),.list aZ 61 U.2.1)),(2,some (v4,.list Ai 4 U.2.2.1))] aa ww) (λaa ww h=>Zu h [1,4,5,2]) (λs9=>?_);refine A9<|A0<|Zm Z<|Zq (faB 1 Z Z underlying34 Z (by exact Bq))<|Zq (ld 1 Z Z (fP (BN _)) BL Z)<|Zq (Ar Z .rd Z tu32)<|Zq (I.lss Z Z)<|Zj Z (λac=>?_) (λac=>?_)
   ·refine Zt<|A9<|AD<|B6 (λ(a6:Bool) aa ww=>Sta (ctx 51 H [] w) [(1,.val (A7 v1 0)),(3,.val (O 0)),(4,.val (O 1)),(5,.val v4),(6,.rd Ai false),(7,.rd A2 s9),(34,.rd Ai a6)] [(1,some (v1,.box 34 [.rd A8 a0])),(4,some ((O 0),.list A2 3 U.1)),(5,some ((O 1),.list aZ 61 U.2.1)),(2,some (v4,.list Ai 4 U.2.2.1))] aa ww) ?_ (λa6=>?_)
    ·refine Al<|Zm Z<|Zm Z<|An λao a7=>Zq (ixO 2 Z Z Z a7 tu130 ti4)<|Zq (ld 2 Z Z (Foc.el a7) ty4 Z)<|Zq (By Z)<|Zm Z<|AY 25 Z (λa2=>?_) (λa2=>?_)
     ·refine Ac 24 Z a2<|Ab Zx Z Z (mv Z)<|Ab Zx Z Z (faB 1 Z Z underlying34 Z (by exact Bq))<|Ab Zx Z Z (ld 1 Z Z (fP (BN _)) BL Z)<|Ab Zx Z Z (mv Z)<|An λap ad=>Ab Zx Z Z (ixR Z Z ad tu32 B4 Z)<|Ab Zx Z Z (faR Z (Cv _) underlying73 Z Z (by exact B2))<|Ab Zx Z Z (ldR Z B8)<|CH [5] [(1,5)] Zx Z func108 Z Z (zjr _ _ _ _) (aW Z<|aQ Z<|aN) (y1 Z) λaq ar=>Zq (pkT Z Z)<|Ah<|AA (λaa ww h=>Zu h [1,4,5,2])
     ·refine Ac 24 Z a2<|Zk Z<|Zk Z<|Zk Z<|Zk Z<|Zk Z<|Zk Z<|Zk Z<|Zk Z<|Zq (pkF Z Z)<|Ah<|AA (λaa ww h=>Zu h [1,4,5,2])
    ·refine gIf Z Z (λae=>?_) (λae=>?_)
     ·refine A9<|E7 [(3,.val (O 0)),(4,.val (O 1)),(1,.val (A7 v1 0)),(5,.val v4),(7,.rd A2 s9)] [(1,some (v1,.box 34 [.rd A8 a0])),(4,some ((O 0),.list A2 3 U.1)),(5,some ((O 1),.list aZ 61 U.2.1)),(2,some (v4,.list Ai 4 U.2.2.1))] [1,4,5,2] (Zs Z Z Z Z<|sS Z<|sN) (Zi Z<|Zi Z<|Zi Z<|Zi Z<|rN)<|BV λaf ah=>BV λa1 ai=>BV λaj ak=>BV λav a8=>gOr [(3,.val (O 0),14),(4,.val (O 1),15)] [⟨8,none,[(4,some ([1], λM=>((M 1),.list A2 3 [s9])))]⟩,⟨4,some ([], λM=>((O 0),.list A2 3 U.1)),[(5,some ([2], λM=>((M 2),.list A2 3 af)))]⟩,⟨1,some ([], λM=>(v1,.box 34 [.rd A8 a0])),[]⟩,⟨9,none,[(12,none)]⟩,⟨5,some ([], λM=>((O 1),.list aZ 61 U.2.1)),[(13,some ([4], λM=>((M 4),.list aZ 61 aj)))]⟩,⟨2,some ([], λM=>(v4,.list Ai 4 U.2.2.1)),[(17,some ([], λM=>(v4,.list Ai 4 (U.2.2.1.set (s9:Int).toNat true))))]⟩] [pd 35 (.val v4),pd 36 (.rd A2 s9),⟨some (37,[], λM=>.val (O 0)),[],[],[0]⟩,pd 38 (.rd A2 s9),⟨some (39,[1], λM=>.val (M 1)),[(0,0,true)],[1],[]⟩,⟨some (40,[2], λM=>.val (M 2)),[(1,0,true),(0,1,false)],[2],[]⟩,⟨some (41,[], λM=>.val (O 1)),[],[],[1]⟩,pk 42 (.val (A7 v1 (0+0))) [(2,0,false)],pk 43 (.rd (A3 aZ) a0.IDs) [(2,0,false)],pd 44 (.rd A2 s9),pd 45 (.rp aZ a1),pd 46 (.rd aZ a1),⟨some (47,[], λM=>.rd (A3 aZ) [a1]),[(3,0,true)],[3],[]⟩,⟨some (48,[4], λM=>.val (M 4)),[(4,0,true)],[4],[]⟩,⟨some (3,[2], λM=>.val (M 2)),[],[],[]⟩,⟨some (4,[4], λM=>.val (M 4)),[],[],[]⟩,pk 49 (.val (A7 v4 ((s9:Int).toNat * 1))) [(5,0,false)],⟨none,[(5,0,true)],[],[]⟩,pd 6 (.rd Ai true)] mixed (oC (oRn (λM E=>mv Z))<|oC (oRn (λM E=>mv Z))<|oC (oRn (λM E=>mv Z))<|oC (oRn (λM E=>mv Z))<|oC (oEf 8 1 (λM E=>lit (R:=A2) ([s9]:List Int) 8 (pP Z Z<|pN) Z tu57 ti3 Z Z))<|oC (oEf 4 2 (λM E=>apn 4 Z Z Z (.own 8 Z) ah tu57 ti3 Z Z Z))<|oC (oRn (λM E=>mv Z))<|oC (oRn (λM E=>faB 1 Z Z underlying34 Z (by exact B2)))<|oC (oRn (λM E=>ld 1 Z Z (fP (BT _)) B8 Z))<|oC (oRn (λM E=>mv Z))<|oC (oRn (λM E=>ixR Z Z ai tu31 Ax Z))<|oC (oRn (λM E=>ldR Z AN))<|oC (oFz (A1:=λM=>[(9,some ((M 3),.list aZ 61 [a1]))]) 9 3 (oEf 9 3 (λM E=>lit (R:=aZ) ([a1]:List V3) 9 (pP Z Z<|pN) Z tu31 Ax Z Z)))<|oC (oEf 5 4 (λM E=>apn 5 Z Z Z .rd ak tu31 Ax Z Z Z))<|oC (oRn (λM E=>asg Z))<|oC (oRn (λM E=>asg Z))<|oC (oRn (λM E=>ixO 2 Z Z Z a8 tu130 ti4))<|oC (oEs 2 (λM E=>sto 2 Z Z (Foc.el a8) Z ti4))<|oC (oRn (λM E=>asg Z))<|oN) λab=>Ak<|AF<|X1 Z<|AG<|AI<|Au<|AB (λaa ww h=>⟨nvl [(ab 2),(ab 4)],Zu h [1,4,5,2]⟩)
     ·refine AU<|Au<|Ak<|Al<|Zm Z<|Zq (I.add Z Z)<|Za Z<|Ah<|AB (λaa ww h=>Zu h [1,4,5,2])
   ·refine AF<|AG<|AI<|Au<|AB (λaa ww h=>⟨nvl [(O 0),(O 1)],Zu h [1,4,5,2]⟩)
  ·refine gKn 6 Z h8<|AF<|AG<|AI<|AA (λaa ww h=>⟨nvl [(O 0)],Zu h [4]⟩)
 ·refine gEx λam=>A0<|Zm Z<|Zb Z<|A5<|Ze [(am 0)] [3] Z
def Ka (a0:A4) (M:Int):Option (Sum (Sum Int Unit) Int) :=
 if decide (M<(a0.Ops.length:Int)) then
  idx a0.Ops M>>=λU =>
  FD a0.IDs U.Preds>>=λO =>
  if !O then
   some (.inl (.inl 40))
  else
   some (.inr (w64 (M+1)))
 else
  some (.inl (.inr ()))
def Mt (a0:A4):Option (Int) :=
 JU a0.IDs>>=λO =>
 if !O then
  some 32
 else
  Bi (iter (Ka a0) 0) λs5 =>
  Ms a0>>=λM =>
  if decide ((M.length:Int)<(a0.Ops.length:Int)) then
   some 36
  else
   some 0
theorem zko (a0:A4):Aj Tryz.prog 66 [.rd A8 a0] [] (Mt a0) (λr nv=>⟨[.rd A2 r],[]⟩):=by
 refine Aq 32 func66 Z Z Z λH w=>?_;refine A0<|Eb Z (bx 1 Z) λU=>Zb Z<|A9<|A0<|Zq (faB 1 Z Z underlying34 Z (by exact B2))<|Zq (ld 1 Z Z (fP (BT _)) B8 Z)<|Zc [] [] func107 Z (Te _) λr2 n3=>Zq (By Z)<|Zj Z (λh4=>?_) (λh4=>?_)
 ·refine A0<|Zb Z<|A5<|Ap<|Ze [] [] Z
 ·refine Zt<|Bt (λ(s5:Unit) M O=>Sta (ctx 32 H [] w) [(1,.val (A7 U 0))] [(1,some (U,.box 34 [.rd A8 a0]))] M O) ?_ (λs5=>?_)
  ·refine A0<|Zb Z<|AJ (λ(s6:Int) M O=>Sta (ctx 32 H [] w) [(1,.val (A7 U 0)),(3,.rd A2 s6)] [(1,some (U,.box 34 [.rd A8 a0]))] M O) (λM O h=>Zu h [1]) (λs6=>?_);refine A9<|A0<|Zm Z<|Zq (faB 1 Z Z underlying34 Z (by exact Bq))<|Zq (ld 1 Z Z (fP (BN _)) BL Z)<|Zq (Ar Z .rd Z tu32)<|Zq (I.lss Z Z)<|Zj Z (λh7=>?_) (λh7=>?_)
   ·refine Zt<|A9<|AD<|A9<|BK [] mixed Z Z<|A6 0 Z Z (faB 1 Z Z underlying34 Z (by exact B2))<|A6 1 Z Z (ld 1 Z Z (fP (BT _)) B8 Z)<|A6 2 Z Z (faB 1 Z Z underlying34 Z (by exact Bq))<|A6 3 Z Z (ld 1 Z Z (fP (BN _)) BL Z)<|A6 4 Z Z (mv Z)<|BA λx8 h9=>A6 5 Z Z (ixR Z Z h9 tu32 B4 Z)<|A6 6 Z Z (faR Z (Cv _) underlying73 Z Z (by exact B2))<|A6 7 Z Z (ldR Z B8)<|BH 8 [] [] Z (by kernel_rfl) Z (gd0 Z) Z func108 Z Z (zn0 _ _) (Y2 Z Z) rN Z (λ_ _=>DD) λa6 a7=>A6 9 Z Z (By Z)<|Bg (by kernel_rfl)<|Ak<|gIf Z Z (λa1=>?_) (λa1=>?_)
    ·refine A0<|Zb Z<|A5<|B7<|Ap<|Bp<|Bl<|Ze [] [] Z
    ·refine AU<|Au<|Ak<|Al<|Zm Z<|Zq (I.add Z Z)<|Za Z<|Ah<|AB (λM O h=>Zu h [1])
   ·refine AF<|AG<|AI<|Bk (λM O h=>Zu h [1])
  ·refine A9<|A9<|BK [38] mixed Z Z<|A6 0 Z Z (ld 1 Z Z fH AH Z)<|A6 3 Z Z (faB 1 Z Z underlying34 Z (by exact Bq))<|A6 4 Z Z (ld 1 Z Z (fP (BN _)) BL Z)<|A6 5 Z Z (Ar Z .rd Z tu32)<|BH 1 [] [(100,38)] Z (by kernel_rfl) Z (gd0 Z) Z func109 Z Z (zlg _) (Y1 Z) rN Z (λ_ _=>Ce) λa8 ab=>Zf 2 Z Z Cr (Ar Z (.own 38 Z) Z tu57)<|A6 6 Z Z (I.lss Z Z)<|Bg (by kernel_rfl)<|Ak<|gIf Z Z (λa2=>?_) (λa2=>?_)
   ·refine A0<|Zb Z<|A5<|Ap<|Ze [] [] Z
   ·refine Zt<|A0<|Zb Z<|A5<|Ze [] [] Z
def Kb (a0:A4) (M:Int):Option (Sum (Sum Int Unit) Int) :=
 if decide (M<(a0.Ops.length:Int)) then
  idx a0.Ops M>>=λx7 =>
  Mq x7>>=λr9 =>
  if r9 != 0 then
   some (.inl (.inl 8))
  else
   idx a0.Ops M>>=λO =>
   idx a0.IDs M>>=λU =>
   Mc O>>=λa1 =>
   if !decide (a1=U) then
    some (.inl (.inl 8))
   else
    some (.inr (w64 (M+1)))
 else
  some (.inl (.inr ()))
def IB (a0:A4):Option (Int) :=
 if decide (60<(a0.Ops.length:Int)) then
  some 4
 else
  if (a0.IDs.length:Int) != (a0.Ops.length:Int) then
   some 8
  else
   Bi (iter (Kb a0) 0) λs4 =>
   Mt a0>>=λM =>
   some M
theorem zkg (a0:A4):Aj Tryz.prog 40 [.rd A8 a0] [] (IB a0) (λr nv=>⟨[.rd A2 r],[]⟩):=by
 refine Aq 45 func40 Z Z Z λH w=>?_;refine A0<|Eb Z (bx 1 Z) λv1=>Zb Z<|A9<|A0<|Zq (faB 1 Z Z underlying34 Z (by exact Bq))<|Zq (ld 1 Z Z (fP (BN _)) BL Z)<|Zq (Ar Z .rd Z tu32)<|Zq (I.gtr Z Z)<|Zj Z (λh2=>?_) (λh2=>?_)
 ·refine A0<|Zb Z<|A5<|Ap<|Ze [] [] Z
 ·refine Zt<|A9<|A0<|Zq (faB 1 Z Z underlying34 Z (by exact B2))<|Zq (ld 1 Z Z (fP (BT _)) B8 Z)<|Zq (Ar Z .rd Z tu31)<|Zq (faB 1 Z Z underlying34 Z (by exact Bq))<|Zq (ld 1 Z Z (fP (BN _)) BL Z)<|Zq (Ar Z .rd Z tu32)<|Zq (I.neq Z Z)<|Zj Z (λh3=>?_) (λh3=>?_)
  ·refine A0<|Zb Z<|A5<|Ap<|Ze [] [] Z
  ·refine Zt<|Bt (λ(s4:Unit) M O=>Sta (ctx 45 H [] w) [(1,.val (A7 v1 0))] [(1,some (v1,.box 34 [.rd A8 a0]))] M O) ?_ (λs4=>?_)
   ·refine A0<|Zb Z<|AJ (λ(s5:Int) M O=>Sta (ctx 45 H [] w) [(1,.val (A7 v1 0)),(3,.rd A2 s5)] [(1,some (v1,.box 34 [.rd A8 a0]))] M O) (λM O h=>Zu h [1]) (λs5=>?_);refine A9<|A0<|Zm Z<|Zq (faB 1 Z Z underlying34 Z (by exact Bq))<|Zq (ld 1 Z Z (fP (BN _)) BL Z)<|Zq (Ar Z .rd Z tu32)<|Zq (I.lss Z Z)<|Zj Z (λh6=>?_) (λh6=>?_)
    ·refine Zt<|A9<|AD<|A9<|BK [] mixed Z Z<|A6 0 Z Z (faB 1 Z Z underlying34 Z (by exact Bq))<|A6 1 Z Z (ld 1 Z Z (fP (BN _)) BL Z)<|A6 2 Z Z (mv Z)<|BA λx7 h8=>A6 3 Z Z (ixR Z Z h8 tu32 B4 Z)<|A6 4 Z Z (ldR Z Bz)<|BH 5 [] [] Z (by kernel_rfl) Z (gd0 Z) Z func64 Z Z (zjz _) (Y1 Z) rN Z (λ_ _=>Cr) λr9 a7=>A6 6 Z Z (I.neq Z Z)<|A6 7 Z Z (mv Z)<|hIf 29 Z Z (λU=>?_) (λU=>?_)
     ·refine hKn 28 Z Z U<|hSk 8 Z Z<|hSk 9 Z Z<|hSk 10 Z Z<|hSk 11 Z Z<|hSk 12 Z Z<|hSk 13 Z Z<|hSk 14 Z Z<|hSk 15 Z Z<|hSk 16 Z Z<|hSk 17 Z Z<|hSk 18 Z Z<|hSk 19 Z Z<|A6 20 Z Z (pkT Z Z)<|Bg (by kernel_rfl)<|Ak<|Dm Z<|A0<|Zb Z<|A5<|B7<|Ap<|Bp<|Bl<|Ze [] [] Z
     ·refine hKn 28 Z Z U<|Zg 8 Z Z (faB 1 Z Z underlying34 Z (by exact Bq))<|Zg 9 Z Z (ld 1 Z Z (fP (BN _)) BL Z)<|Zg 10 Z Z (mv Z)<|BA λa8 a2=>Zg 11 Z Z (ixR Z Z a2 tu32 B4 Z)<|Zg 12 Z Z (ldR Z Bz)<|Zg 14 Z Z (faB 1 Z Z underlying34 Z (by exact B2))<|Zg 15 Z Z (ld 1 Z Z (fP (BT _)) B8 Z)<|Zg 16 Z Z (mv Z)<|BA λab a6=>Zg 17 Z Z (ixR Z Z a6 tu31 Ax Z)<|Zg 18 Z Z (ldR Z AN)<|I5 13 [] [] Z (by kernel_rfl) Z Zx Z func65 Z Z (zod _) (Y1 Z) rN Z λac ad=>O1 19 Z (by kernel_rfl) (by kernel_rfl) (by kernel_rfl) Zx Z Z DD (neA Z Z eq61 Z Z gq61)<|A6 20 Z Z (pkF Z Z)<|Bg (by kernel_rfl)<|Ak<|gIf Z Z (λa1=>?_) (λa1=>?_)
      ·refine gKn 41 Z a1<|A0<|Zb Z<|A5<|B7<|Ap<|Bp<|Bl<|Ze [] [] Z
      ·refine gKn 41 Z a1<|AU<|Au<|Ak<|Al<|Zm Z<|Zq (I.add Z Z)<|Za Z<|Ah<|AB (λM O h=>Zu h [1])
    ·refine AF<|AG<|AI<|Bk (λM O h=>Zu h [1])
   ·refine A0<|Zq (ld 1 Z Z fH AH Z)<|Zc [] [] func66 Z (zko _) λae af=>Zb Z<|A5<|Ze [] [] Z
end
section
open Go Go.Shelf
def z14t:Go.Shelf.Ren:=⟨fun | 6=>78 | 15=>118 | 14=>117 | 28=>156 | 29=>126 | 20=>148 | 21=>149 | 22=>150 | 23=>151 | 24=>152 | 25=>153 | 26=>154 | 27=>155 | 46=>185 | 47=>186 | 48=>187 | 49=>188 | 50=>189 | 57=>205 | n=>n, fun | 22=>31 | 24=>61 | 25=>95 | 3=>3 | 39=>83 | 0=>0 | 53=>65 | 55=>52 | 4=>4 | 46=>191 | 45=>190 | 50=>62 | 5=>5 | 9=>9 | 66=>223 | 70=>227 | 76=>239 | 77=>240 | n=>n, fun | n=>n⟩
theorem Mu:Go.Proofs.SlLaysF0.n6 Tryz.prog z14t:={
 mixed:=by kernel_rfl
 f6:=⟨Tryz.f78.name, by decide,func78.trans (congrArg some (by kernel_rfl))⟩
 f14:=⟨Tryz.f117.name, by decide,func117.trans (congrArg some (by kernel_rfl))⟩
 f15:=func118.trans (congrArg some (by kernel_rfl))
 f20:=⟨Tryz.f148.name, by decide,func148.trans (congrArg some (by kernel_rfl))⟩
 f21:=⟨Tryz.f149.name, by decide,func149.trans (congrArg some (by kernel_rfl))⟩
 f22:=⟨Tryz.f150.name, by decide,func150.trans (congrArg some (by kernel_rfl))⟩
 f23:=⟨Tryz.f151.name, by decide,func151.trans (congrArg some (by kernel_rfl))⟩
 f24:=⟨Tryz.f152.name, by decide,func152.trans (congrArg some (by kernel_rfl))⟩
 f25:=⟨Tryz.f153.name, by decide,func153.trans (congrArg some (by kernel_rfl))⟩
 f26:=⟨Tryz.f154.name, by decide,func154.trans (congrArg some (by kernel_rfl))⟩
 f27:=⟨Tryz.f155.name, by decide,func155.trans (congrArg some (by kernel_rfl))⟩
 f28:=func156.trans (congrArg some (by kernel_rfl))
 f29:=func126.trans (congrArg some (by kernel_rfl))
 f46:=⟨Tryz.f185.name, by decide,func185.trans (congrArg some (by kernel_rfl))⟩
 f47:=func186.trans (congrArg some (by kernel_rfl))
 f48:=func187.trans (congrArg some (by kernel_rfl))
 f49:=⟨Tryz.f188.name, by decide,func188.trans (congrArg some (by kernel_rfl))⟩
 f50:=⟨Tryz.f189.name, by decide,func189.trans (congrArg some (by kernel_rfl))⟩
 f57:=⟨Tryz.f205.name, by decide,func205.trans (congrArg some (by kernel_rfl))⟩
 t0:=underlying0
 a0:=Tryz.isAgg0
 z0:=Tryz.sizeOf0
 v0:=Tryz.zeroValue0
 t3:=underlying3
 a3:=Tryz.isAgg3
 z3:=Tryz.sizeOf3
 v3:=Tryz.zeroValue3
 t4:=underlying4
 a4:=Tryz.isAgg4
 z4:=Tryz.sizeOf4
 v4:=Tryz.zeroValue4
 t5:=underlying5
 a5:=Tryz.isAgg5
 z5:=Tryz.sizeOf5
 v5:=Tryz.zeroValue5
 t9:=underlying9
 a9:=Tryz.isAgg9
 z9:=Tryz.sizeOf9
 v9:=Tryz.zeroValue9
 t22:=underlying31
 a22:=Tryz.isAgg31
 z22:=Tryz.sizeOf31
 v22:=Tryz.zeroValue31
 t25:=underlying95
 a25:=Tryz.isAgg95
 z25:=Tryz.sizeOf95
 v25:=Tryz.zeroValue95
 t39:=underlying83
 a39:=Tryz.isAgg83
 z39:=Tryz.sizeOf83
 v39:=Tryz.zeroValue83
 t45:=underlying190
 a45:=Tryz.isAgg190
 z45:=Tryz.sizeOf190
 v45:=Tryz.zeroValue190
 t46:=underlying191
 a46:=Tryz.isAgg191
 z46:=Tryz.sizeOf191
 v46:=Tryz.zeroValue191
 t50:=underlying62
 a50:=Tryz.isAgg62
 z50:=Tryz.sizeOf62
 v50:=Tryz.zeroValue62
 t53:=underlying65
 a53:=Tryz.isAgg65
 z53:=Tryz.sizeOf65
 v53:=Tryz.zeroValue65
 t55:=underlying52
 a55:=Tryz.isAgg52
 z55:=Tryz.sizeOf52
 v55:=Tryz.zeroValue52
 t66:=underlying223
 a66:=Tryz.isAgg223
 z66:=Tryz.sizeOf223
 v66:=Tryz.zeroValue223
 t70:=underlying227
 a70:=Tryz.isAgg227
 z70:=Tryz.sizeOf227
 v70:=Tryz.zeroValue227
 t76:=underlying239
 a76:=Tryz.isAgg239
 z76:=Tryz.sizeOf239
 v76:=Tryz.zeroValue239
 t77:=underlying240
 a77:=Tryz.isAgg240
 z77:=Tryz.sizeOf240
 v77:=Tryz.zeroValue240 }
end
section
open Go Go.Shelf Go.RowKit Go.Lib Go.Sort
def C8 (x:V3):List Value:=x.toList.map λc=>Value.int .u8 (c.toNat:Int)
theorem IC (x:V3):(C8 x).length=32:=by simp[C8]
theorem z179 (x y:V3) (b c:Nat) (W:World) (M:∀ j u,(C8 x)[j]? = some u->W.cell? ⟨b,0+j,none⟩=some u) (O:∀ j u,(C8 y)[j]? = some u->W.cell? ⟨c,0+j,none⟩=some u) :
  (callFunc 110 #[.slice (some ⟨b,0,none⟩) 32 32,.slice (some ⟨c,0,none⟩) 32 32]).run Tryz.prog W=.ok (.value (.int .i64 (Lib.compareBytes x.toList y.toList))) W:=by
 have lx:x.toList.length=32:=by simp
 have ly:y.toList.length=32:=by simp
 have e:=Sm (P:=Tryz.prog) (w:=W) (p:=some ⟨b,0,none⟩) (q:=some ⟨c,0,none⟩) (c:=32) (d:=32) (x:=x.toList) (y:=y.toList) (xs:=C8 x) (ys:=C8 y)
  ⟨by rw[IC,lx],.inr ⟨b,0,none,32, by rfl, by omega, by decide,.inr rfl,M⟩⟩ rfl ⟨by rw[IC,ly],.inr ⟨c,0,none,32, by rfl, by omega, by decide,.inr rfl,O⟩⟩ rfl
 rw[lx,ly] at e;rw[run_callFunc_extern func110 rfl rfl (by kernel_rfl) (by kernel_rfl),e];rfl
set_option maxHeartbeats 1000000 in
theorem Tm (x y:V3) (b c:Nat) (W:World) (M:∀ j u,(C8 x)[j]? = some u->W.cell? ⟨b,0+j,none⟩=some u) (O:∀ j u,(C8 y)[j]? = some u->W.cell? ⟨c,0+j,none⟩=some u) :
  Calls Tryz.prog 68 #[.slice (some ⟨b,0,none⟩) 32 32,.slice (some ⟨c,0,none⟩) 32 32] W λe w'=>e=.returned (.int .i64 (Lib.compareBytes x.toList y.toList))/\w'=W:=by
 have e:=z179 x y b c W M O
 go_enter func68,Tryz.ntmps68
 go_wp2
 go_ret
 exact⟨rfl,rfl⟩
theorem OU {w:World} {b j:Nat} {c:Array Value} {T:TypeId} {fr:Nat × Nat} {u:Value} (h:w.heap[b]? = some (.cells c T fr)) (M:c[j]? = some u):w.cell? ⟨b,0+j,none⟩=some u:=by
 unfold World.cell?;rw[h]
 simpa using M
theorem Tn (W:World) (xs ys:List Value) (n j:Nat) (u:Value) (h:xs[j]? = some u):(((W.alloc (.cells xs.toArray 61)).alloc (.cells ys.toArray 61)).drewN n).cell? ⟨W.heap.size,0+j,none⟩=some u :=
 OU (c:=xs.toArray) (T:=61) (fr:=(0,0)) (by
  show ((W.heap.push _).push _)[W.heap.size]? = _
  rw[Array.getElem?_push_lt (by simp)]; simp) (by simpa using h)
theorem To (W:World) (xs ys:List Value) (n j:Nat) (u:Value) (h:ys[j]? = some u):(((W.alloc (.cells xs.toArray 61)).alloc (.cells ys.toArray 61)).drewN n).cell? ⟨W.heap.size+1,0+j,none⟩=some u :=
 OU (c:=ys.toArray) (T:=61) (fr:=(0,0)) (by
  show ((W.heap.push _).push _)[W.heap.size+1]? = _
  have:W.heap.size+1=(W.heap.push (Obj.cells xs.toArray 61)).size:=by simp
  rw[this,Array.getElem?_push_size]) (by simpa using h)
set_option maxHeartbeats 1000000 in
theorem z10b (x y:V3) (W:World):Calls Tryz.prog 44 #[.agg (C8 x).toArray,.agg (C8 y).toArray] W λe w'=>e=.returned (.int .i64 (Lib.compareBytes x.toList y.toList))/\∃ q os',w'=grow (W.drewN q) os':=by
 have c0:=Tn W (C8 x) (C8 y);have M:=To W (C8 x) (C8 y)
 go_enter func44,Tryz.ntmps44
 go_wp2
 go_quiet (first | (go_at_call 68; refine Calls.quiet_of_same (Tm x y _ _ _ (c0 _) (M _))))
 go_wp2
 go_ret
 exact⟨rfl,nq,#[.cells (C8 x).toArray 61,.cells (C8 y).toArray 61],rfl⟩
set_option maxHeartbeats 1000000 in
theorem zxm (x y:V3) (W:World):Calls Tryz.prog 79 #[.agg (C8 x).toArray,.agg (C8 y).toArray] W λe w'=>e=.returned (.int .i64 (Lib.compareBytes x.toList y.toList))/\∃ q os',w'=grow (W.drewN q) os':=by
 have c0:=Tn W (C8 x) (C8 y);have M:=To W (C8 x) (C8 y)
 go_enter func79,Tryz.ntmps79
 go_wp2
 go_quiet (first | (go_at_call 68; refine Calls.quiet_of_same (Tm x y _ _ _ (c0 _) (M _))))
 go_wp2
 go_ret
 exact⟨rfl,nq,#[.cells (C8 x).toArray 61,.cells (C8 y).toArray 61],rfl⟩
end
section
open Go Go.RowKit Go.Sort
theorem Tp {α:Type} [Inhabited α] (enc:α->List Value) (k:Nat) (M:∀ x,(enc x).length=k):∀ (l:List α) (t:Nat),t<l.length * k->(l.flatMap enc)[t]! = (enc l[t / k]!)[t % k]!
 | [],t,h=>by simp at h
 | x::l,t,h=>by
  have U:=M x;have k0:0<k:=by
   rcases Nat.eq_zero_or_pos k with e | e
   ·subst e; simp at h
   ·exact e
  rw[List.flatMap_cons];by_cases O:t<k
  ·rw[List.getElem!_eq_getElem?_getD,List.getElem?_append_left (by omega),Nat.div_eq_of_lt O,Nat.mod_eq_of_lt O]
   simp
  ·have hl:t - k<l.length * k:=by
    simp only[List.length_cons,Nat.add_mul,Nat.one_mul] at h; omega
   have ih:=Tp enc k M l (t - k) hl;have e1:t / k=(t - k) / k+1:=by
    have h2:=Nat.add_div_right (t - k) k0;rw[Nat.sub_add_cancel (by omega)] at h2; exact h2
   have e2:t % k=(t - k) % k:=by rw[Nat.mod_eq_sub_mod (by omega)]
   rw[List.getElem!_eq_getElem?_getD,List.getElem?_append_right (by omega),U,e1,e2,<- List.getElem!_eq_getElem?_getD,ih]
   simp
theorem Kc {α:Type} (enc:α->List Value) (k:Nat) (M:∀ x,(enc x).length=k):∀ l:List α,(l.flatMap enc).length=l.length * k
 | []=>by simp
 | x::l=>by rw[List.flatMap_cons,List.length_append,M,Kc enc k M l,List.length_cons,Nat.add_mul,Nat.one_mul,Nat.add_comm]
theorem Tq {α:Type} [Inhabited α] (enc:α->List Value) (k:Nat) (O:∀ x,(enc x).length=k) (l:List α):flatK enc k l.toArray=(l.flatMap enc).toArray:=by
 refine ext_get! (by rw[size_flatK]; simp only[List.size_toArray,Kc enc k O]) λt M=>?_;rw[size_flatK,List.size_toArray] at M;rw[get_flatK _ _ _ _ (by simpa using M)]
 have:=Tp enc k O l t M
 simp at this ⊢;rw[this]
theorem zuq {α:Type} [Inhabited α] (enc:α->List Value) (k:Nat) (O:∀ x,(enc x).length=k) {w:World} {b:Nat} {C:Array Value} {T:TypeId} (l:List α) (hb:w.heap[b]? = some (.cells C T (0,0))) (hc:C.toList.take (l.length * k)=l.flatMap enc):HoldsK enc k w b 0 l.toArray:=by
 intro j U;rw[Tq enc k O] at U ⊢;have M:j<(l.flatMap enc).length:=by simpa using U
 constructor
 ·refine OU hb ?_;have e:(C.toList.take (l.length * k))[j]? = (l.flatMap enc)[j]? := by rw[hc]
  rw[List.getElem?_take_of_lt (by rw[Kc enc k O] at M; exact M),List.getElem?_eq_getElem M] at e;rw[<- Array.getElem?_toList,e]
  have:((l.flatMap enc).toArray)[j]! = (l.flatMap enc)[j]:=by rw[getElem!_pos _ j (by simpa using M)]; simp
  rw[this]; rfl
 ·simp[World.frozen?,hb]
theorem z10e {α:Type} [Inhabited α] (enc:α->List Value) (k:Nat) (w:World) (b n:Nat) (d:Array α) (os:Array Obj) {i:Nat} (hi:i<w.heap.size) (M:i≠b):(sortWorldK enc k w b 0 n d os).heap[i]? = w.heap[i]? := by
 show (w.heap.modify b _++os)[i]? = _;rw[Array.getElem?_append_left (by simpa using hi),Array.getElem?_modify,if_neg (λe=>M e.symm)]
theorem z197 {α:Type} [Inhabited α] (enc:α->List Value) (k:Nat) (w:World) {b:Nat} (n:Nat) (d:Array α) (os:Array Obj) {C:Array Value} {T:TypeId} {fr:Nat × Nat} (hb:w.heap[b]? = some (.cells C T fr)):(sortWorldK enc k w b 0 n d os).heap[b]? = some (.cells (putCells id 0 (flatK enc k d) C) T fr):=by
 have M:b<w.heap.size:=(Array.getElem?_eq_some_iff.1 hb).1;show (w.heap.modify b _++os)[b]? = _;rw[Array.getElem?_append_left (by simpa using M),Array.getElem?_modify,if_pos rfl,hb];rfl
theorem z15v {α:Type} [Inhabited α] (enc:α->List Value) (k:Nat) (M:∀ x,(enc x).length=k) (l:List α) (C:Array Value) (hC:l.length * k<=C.size):(putCells id 0 (flatK enc k l.toArray) C).toList.take (l.length * k)=l.flatMap enc:=by
 rw[Tq enc k M]
 apply List.ext_getElem?
 intro t;by_cases O:t<l.length * k
 ·rw[List.getElem?_take_of_lt O,Array.getElem?_toList];have hl:t<(l.flatMap enc).length:=by rw[Kc enc k M]; exact O
  simp only[putCells,Array.getElem?_mapIdx,Nat.sub_zero,Nat.zero_add,List.size_toArray,Nat.zero_le,true_and];rw[Array.getElem?_eq_getElem (by omega),Option.map_some,if_pos hl,List.getElem?_eq_getElem hl]
  have:((l.flatMap enc).toArray)[t]! = (l.flatMap enc)[t]:=by rw[getElem!_pos _ t (by simpa using hl)]; simp
  rw[this]; rfl
 ·rw[List.getElem?_eq_none (by simp; omega),List.getElem?_eq_none (by rw[Kc enc k M]; omega)]
theorem Tr {S:Blk} {w:World}:∀ {l:List V3} {cs:List Value},B5 (Av 32 u8R) S w cs l->cs=l.flatMap C8
 | [],cs,h=>h
 | x::l,cs,h=>by
  obtain⟨c,d,rfl,h1,h2⟩:=h;rw[List.flatMap_cons,Tr h2,Ls h1]; rfl
theorem Ts {S:Blk} {w:World}:∀ (l:List V3),B5 (Av 32 u8R) S w (l.flatMap C8) l
 | []=>rfl
 | x::l=>⟨C8 x,l.flatMap C8,List.flatMap_cons,O3 x.toList,Ts l⟩
theorem Tt {P:Program} {f g T:Nat} (srt:List V3->List V3) (M:∀ l,(srt l).length=l.length)
  (a7:∀ (cap:Nat) (w:World),Calls P f #[.slice none 0 cap,.func (.func g) #[] #[]] w λe w'=>e=.returned (.tuple #[])/\w'=w)
  (a8:∀ (blk cap:Nat) (d:Array V3) (w:World),HoldsK C8 32 w blk 0 d->blk<w.heap.size->d.size<4611686018427387904 ->
   Calls P f #[.slice (some ⟨blk,0,none⟩) d.size cap,.func (.func g) #[] #[]] w λe w'=>e=.returned (.tuple #[])/\∃ n os,w'=sortWorldK C8 32 w blk 0 n (srt d.toList).toArray os)
  (p0:Value) (c0:List V3):Aj P f [.val p0,.val (.func (.func g) #[] #[])] [(1,some (p0,.list (Av 32 u8R) T c0))] (chk (c0.length<=1000000)>>=λ_=>some (srt c0))
   (λr nv=>⟨[],[(1,some (p0,.list (Av 32 u8R) T r))]⟩):=by
 intro r O H vs w U aa;have hb:c0.length<=1000000/\r=srt c0:=by
  unfold chk at O
  split at O
  ·rename_i h; simp at O; exact⟨h,O.symm⟩
  ·simp at O
 obtain⟨hlen0,rfl⟩:=hb
 match vs,U with
 | [v0,v1],U =>
 obtain⟨h0,h1,_⟩:=U;have e0:v0=p0:=h0.1;have e1:v1=.func (.func g) #[] #[]:=h1.1;subst e0; subst e1;have hc:=aa.conts 1 v0 _ rfl;have only:∀ r v c (q:AK),lr [(1,some (v0,q))] r=some (v,c)->r=1/\v=v0/\c=q:=λr v c q h=>by
  rw[BB] at h
  split at h
  ·rename_i e; cases h; exact⟨e.symm,rfl,rfl⟩
  ·simp[lr,lk] at h
 rcases hc with ⟨rfl,rfl⟩ | ⟨b,o,k1,k2,b',cap,C,k3,rfl,k4,k5,k6,k7⟩
 ·refine(a7 0 w).mono λe w' ⟨he,hw⟩=>?_;subst hw;refine⟨λ_=>undef,[],he,trivial, λr v c h=>?_, λr v c r' v' c' h h' a1=>?_, λr v c h b hb=>?_,C5.rfl'⟩
  ·obtain⟨rfl,rfl,rfl⟩:=only _ _ _ _ h
   have:srt []=[]:=List.eq_nil_of_length_eq_zero (by rw[M]; rfl);exact .inl ⟨rfl,this⟩
  ·exact absurd ((only _ _ _ _ h).1.trans (only _ _ _ _ h').1.symm) a1
  ·obtain⟨rfl,rfl,rfl⟩:=only _ _ _ _ h; cases hb
 ·subst k3;simp only[AM,Option.some.injEq] at k1;subst k1;have ab:b'<w.heap.size:=(Array.getElem?_eq_some_iff.1 k2).1;have a2:=Tr k7;have a6:(Av 32 u8R).sz=32:=rfl;rw[a6] at k6 a2;have hC:c0.length * 32<=C.size:=by rw[k6]; exact Nat.mul_le_mul_right _ k4
  refine(a8 b' cap c0.toArray w (zuq C8 32 IC c0 k2 a2) ab (by simp; omega)).mono λe w' ⟨he,n,os,hw⟩=>?_;subst hw;refine⟨λ_=>undef,[],he,trivial, λr v c h=>?_, λr v c r' v' c' h h' a1=>?_, λr v c h b hb=>?_,rfl,rfl,rfl,?_, λi hi=>?_⟩
  ·obtain⟨rfl,rfl,rfl⟩:=only _ _ _ _ h;refine .inr ⟨b',_,rfl,z197 C8 32 w n _ os k2,b',cap,_, by rw[M],rfl, by rw[M]; exact k4,k5,?_,?_⟩
   ·rw[a6,<- k6]; simp[putCells]
   ·rw[a6,z15v C8 32 IC (srt c0) C (by rw[M]; exact hC)];exact Ts _
  ·exact absurd ((only _ _ _ _ h).1.trans (only _ _ _ _ h').1.symm) a1
  ·obtain⟨rfl,rfl,rfl⟩:=only _ _ _ _ h;exact .inr ⟨1,_,_,rfl,hb⟩
  ·show w.heap.size<=(w.heap.modify b' _++os).size
   simp
  ·exact z10e C8 32 w b' n _ os hi.1 λe=>hi.2 ⟨1,_,_,rfl, by rw[e]; rfl⟩
end
section
section
variable {σ β α ρ τ:Type}
theorem bs (x:α) (f:α->Option β):(some x >>= f)=f x:=rfl
theorem bS (x:α) (f:α->Option β):(some x >>= f)=f x:=Eq.trans (rfl:(some x >>= f)=f x) rfl
theorem or_l (r:ρ) (k:τ->Option ρ):Bi (some (.inl r)) k=some r:=rfl
theorem Df (t:τ) (k:τ->Option ρ):Bi (some (.inr t)) k=k t:=rfl
theorem AW {F:σ->Option (Sum β σ)} {s:σ} {b:β} (h:F s=some (.inl b)):iter F s=some b:=by rw[iter,h]; rfl
theorem B9 {F:σ->Option (Sum β σ)} {s s':σ} (h:F s=some (.inr s')):iter F s=iter F s':=by rw[iter,h]; rfl
theorem G2 {F:σ->Option (Sum β σ)} (I:σ->Prop) (μ:σ->Nat) (Q:β->Prop) (h:∀ s,I s->(∃ b,F s=some (.inl b)/\Q b)\/∃ s',F s=some (.inr s')/\I s'/\μ s'<μ s) (s:σ) (M:I s):∃ b,iter F s=some b/\Q b:=by
 have key:∀ n s,μ s=n->I s->∃ b,iter F s=some b/\Q b:=by
  intro n
  induction n using Nat.strongRecOn with
  | _ n O =>
   intro s U M;rcases h s M with ⟨b,h1,h2⟩ | ⟨s',h1,h2,h3⟩
   ·exact⟨b,AW h1,h2⟩
   ·rw[B9 h1]; exact O (μ s') (U ▸ h3) s' rfl h2
 exact key _ s rfl M
theorem DV {F:σ->Option (Sum β σ)} (n:Nat) (I:Nat->σ->Prop) (Q:β->Prop) (h1:∀ i s,i<n->I i s->∃ s',F s=some (.inr s')/\I (i+1) s') (h2:∀ s,I n s->∃ b,F s=some (.inl b)/\Q b) (s:σ) (i:Nat) (hi:i<=n) (M:I i s):∃ b,iter F s=some b/\Q b:=by
 have key:∀ k i s,n - i=k->i<=n->I i s->∃ b,iter F s=some b/\Q b:=by
  intro k
  induction k with
  | zero =>
   intro i s U hi M
   have:i=n:=by omega
   subst this;obtain⟨b,h3,O⟩:=h2 s M;exact⟨b,AW h3,O⟩
  | succ k ih =>
   intro i s U hi M;obtain⟨s',h3,O⟩:=h1 i s (by omega) M;rw[B9 h3]; exact ih (i+1) s' (by omega) (by omega) O
 exact key _ i s rfl hi M
theorem C1 {F:σ->Option (Sum β σ)} (n:Nat) (g:Nat->σ) {b:β} (h1:∀ i,i<n->F (g i)=some (.inr (g (i+1)))) (h2:F (g n)=some (.inl b)):iter F (g 0)=some b:=by
 obtain⟨b',h3,rfl⟩:=DV n (λi s=>s=g i) (λx=>x=b) (λi s hi M=>⟨_, by rw[M]; exact h1 i hi,rfl⟩) (λs M=>⟨_, by rw[M]; exact h2,rfl⟩) (g 0) 0 (Nat.zero_le _) rfl;exact h3
theorem AE {l:List α} {i:Nat} (h:i<l.length):idx l (i:Int)=some l[i]:=by simp[idx,h]
theorem Kd {l:List α} {i:Int} (M:0<=i) (h:i.toNat<l.length):idx l i=some l[i.toNat]:=by simp[idx,M,h]
theorem DO {n:Nat} {v:Vector α n} {i:Nat} (h:i<n):B3 v (i:Int)=some v[i]:=by unfold B3; rw[AE (by simpa using h)]; simp
theorem Tu {n:Nat} {v:Vector α n} {i:Int} (h0:0<=i) (h:i.toNat<n):B3 v i=some v[i.toNat]:=by
 obtain⟨j,rfl⟩:∃ j:Nat,i=(j:Int):=⟨i.toNat, by omega⟩
 exact DO (by simpa using h)
theorem G3 {n:Nat} {v:Vector α n} {i:Int} {x:α} {j:Nat} (M:j<n):(BY v i x)[j]=if i.toNat=j then x else v[j]:=by
 unfold BY; rw[Vector.getElem_setIfInBounds M]
theorem Cn {p:Prop} [Decidable p] (h:p):chk p=some ():=by simp[chk,h]
theorem Bw {by_:Nat} {b c:List α} (h:(b.length+c.length) * by_<=140737488355328):app by_ b c=some (b++c):=by simp[app,h]
theorem G4 {by_:Nat} {x:α} {n:Nat} (h:by_ * n<=281474976710656) (h2:n<=9223372036854775807):mkn by_ x (n:Int)=some (List.replicate n x):=by
 unfold mkn; rw[if_pos ⟨by omega, by simpa using h, by omega⟩]; simp
theorem GF {b:List α} {i j:Nat} (h:i<=j) (hj:j<=b.length):cut b (i:Int) (j:Int)=some ((b.drop i).take (j - i)):=by
 unfold cut; rw[if_pos ⟨by omega, by omega, by omega⟩]; simp
end
theorem B1 {x:Int} (h1:-9223372036854775808<=x) (h2:x<=9223372036854775807):w64 x=x:=Jg h1 h2
theorem AO {n:Nat} (h:n<9223372036854775807):w64 ((n:Int)+1)=((n+1:Nat):Int):=by rw[B1 (by omega) (by omega)]; omega
theorem Ke (a:UInt64) (n:Nat):(BZ a n).toNat=a.toNat / 2 ^ (min n 64):=by
 unfold BZ;have h1:=UInt64.toNat_lt a;have h2:a.toNat / 2 ^ (min n 64)<=a.toNat:=Nat.div_le_self _ _
 simp; omega
theorem OV (a:UInt64) (n:Nat):(EW a n).toNat=a.toNat * 2 ^ (min n 64) % 18446744073709551616:=by
 unfold EW; simp
theorem Tv (a:UInt64) (k:Nat) (hk:k<64):((BZ a k &&& 1)==1)=a.toNat.testBit k:=by
 rw[Bool.eq_iff_iff,beq_iff_eq,<- UInt64.toNat_inj,UInt64.toNat_and,Ke,Nat.min_eq_left (by omega)]
 have:(1:UInt64).toNat=1:=rfl
 rw[this,Nat.and_one_is_mod,Nat.testBit_eq_decide_div_mod_eq]
 simp
end
section
def Cx (n:Nat):Nat:=if n=0 then 0 else n.log2+1
theorem Mv (n k:Nat) (h:2 ^ k<=n):Cx n=k+Cx (n / 2 ^ k):=by
 have M:0<2 ^ k:=Nat.pow_pos (by decide);have h1:n / 2 ^ k≠0:=by
  have:1<=n / 2 ^ k:=(Nat.le_div_iff_mul_le M).2 (by rw[Nat.one_mul]; exact h);omega
 have h2:n≠0:=by omega
 unfold Cx;rw[if_neg h1,if_neg h2];have h3:n.log2=k+(n / 2 ^ k).log2:=by
  rw[Nat.log2_eq_iff h2];have O:=(Nat.log2_eq_iff h1).1 rfl;refine⟨?_,?_⟩
  ·rw[Nat.pow_add,Nat.mul_comm]; exact(Nat.le_div_iff_mul_le M).1 O.1
  ·rw[Nat.add_assoc,Nat.pow_add,Nat.mul_comm]; exact(Nat.div_lt_iff_lt_mul M).1 O.2
 omega
theorem Mw (n k:Nat) (h:n<2 ^ k):Cx n<=k:=by
 unfold Cx; split
 ·omega
 ·rename_i M; have:=(Nat.log2_lt M).2 h; omega
def Tw:ByteArray:=⟨#[0,1,2,2,3,3,3,3,4,4,4,4,4,4,4,4,5,5,5,5,5,5,5,5,5,5,5,5,5,5,5,5,6,6,6,6,6,6,6,6,6,6,6,6,6,6,6,6,6,6,6,6,6,6,6,6,6,6,6,6,6,6,6,6,7,7,7,7,7,7,7,7,7,7,7,7,7,7,7,7,7,7,7,7,7,7,7,7,7,7,7,7,7,7,7,7,7,7,7,7,7,7,7,7,7,7,7,7,7,7,7,7,7,7,7,7,7,7,7,7,7,7,7,7,7,7,7,7,8,8,8,8,8,8,8,8,8,8,8,8,8,8,8,8,8,8,8,8,8,8,8,8,8,8,8,8,8,8,8,8,8,8,8,8,8,8,8,8,8,8,8,8,8,8,8,8,8,8,8,8,8,8,8,8,8,8,8,8,8,8,8,8,8,8,8,8,8,8,8,8,8,8,8,8,8,8,8,8,8,8,8,8,8,8,8,8,8,8,8,8,8,8,8,8,8,8,8,8,8,8,8,8,8,8,8,8,8,8,8,8,8,8,8,8,8,8,8,8,8,8,8,8,8,8,8,8]⟩
theorem z176:∀ x:Fin 256,Tw.data[x.val]? = some (UInt8.ofNat (Cx x.val)):=by decide +kernel
def BO (n:Nat):List UInt8:=if h:n=0 then [] else UInt8.ofNat n::BO (n / 256)
termination_by n
theorem Kf:BO 0=[]:=by rw[BO]; simp
theorem Mx (n:Nat) (h:n≠0):BO n=UInt8.ofNat n::BO (n / 256):=by rw[BO]; simp[h]
def BW (n:Nat):List UInt8:=if n<=247 then [UInt8.ofNat n] else UInt8.ofNat (247+(BO n).length)::(BO n).reverse
theorem Tx (n:Nat):(BO n).length=(Cx n+7) / 8:=by
 induction n using Nat.strongRecOn with
 | _ n O =>
  by_cases h:n=0
  ·subst h; rw[Kf]; simp[Cx]
  ·rw[Mx n h,List.length_cons,O (n / 256) (by omega)];by_cases h2:n<256
   ·have:n / 256=0:=by omega
    rw[this];have h3:Cx n<=8:=Mw n 8 h2;have M:1<=Cx n:=by unfold Cx; rw[if_neg h]; omega
    simp[Cx] at h3 M ⊢;rw[if_neg h] at h3 M ⊢; omega
   ·have:=Mv n 8 (by omega)
    rw[show (2:Nat) ^ 8=256 from rfl] at this;omega
theorem z10q (n:Nat):∀ (i:Nat),i<(BO n).length->(BO n)[i]? = some (UInt8.ofNat (n / 256 ^ i)):=by
 induction n using Nat.strongRecOn with
 | _ n M =>
  intro i hi;by_cases h:n=0
  ·subst h; rw[Kf] at hi; simp at hi
  ·rw[Mx n h] at hi ⊢
   cases i with
   | zero=>simp
   | succ i =>
    simp only[List.length_cons] at hi;rw[List.getElem?_cons_succ,M (n / 256) (by omega) i (by omega),Nat.div_div_eq_div_mul]
    congr 3
    rw[Nat.pow_succ,Nat.mul_comm]
theorem OW (n:Nat) (h:n<18446744073709551616):(BO n).length<=8:=by
 rw[Tx]; have:=Mw n 64 (by simpa using h); omega
theorem Ct (n:Nat) (h:n<18446744073709551616):1<=(BW n).length/\(BW n).length<=9:=by
 unfold BW; have:=OW n h; split <;> simp <;> omega
def EP (n i:Nat):List UInt8:=UInt8.ofNat (247+(BO n).length)::(List.replicate ((BO n).length - i) 0++((BO n).take i).reverse)
theorem zxy (n i:Nat) (h:i<=(BO n).length):(EP n i).length=(BO n).length+1:=by simp[EP]; omega
theorem ztr (n:Nat):(List.replicate ((BO n).length+1) (0:UInt8)).set 0 (UInt8.ofNat (247+(BO n).length))=EP n 0:=by
 simp[EP,List.replicate_succ]
theorem ztv (n i:Nat) (h:i<(BO n).length):(EP n i).set ((BO n).length - i) (UInt8.ofNat (n / 2 ^ (8 * i)))=EP n (i+1):=by
 have M:=z10q n i h;have U:n / 2 ^ (8 * i)=n / 256 ^ i:=by rw[Nat.pow_mul]
 rw[U];unfold EP;obtain⟨m,hm⟩:∃ m,(BO n).length - i=m+1:=⟨(BO n).length - i - 1, by omega⟩
 have O:(BO n).length - (i+1)=m:=by omega
 rw[hm,O,List.set_cons_succ,List.take_succ_eq_append_getElem h,List.reverse_append,List.reverse_singleton,List.replicate_succ'];rw[List.getElem?_eq_getElem h,Option.some.injEq] at M;rw[M,List.append_assoc,List.set_append_right _ _ (by simp)]
 simp
theorem zw4 (n:Nat) (h:247<n):EP n (BO n).length=BW n:=by
 unfold EP BW; rw[if_neg (by omega)]; simp
theorem zv8 (n m:Nat) (ds:List UInt8) (M:m≠0) (h:BO n=ds++BO m):BO n=(ds++[UInt8.ofNat (m % 256)])++BO (m / 256):=by
 rw[h,Mx m M,List.append_assoc]
 have:UInt8.ofNat (m % 256)=UInt8.ofNat m:=by
  apply UInt8.toNat_inj.1; simp
 rw[this]; rfl
theorem zqw {α} {l a b:List α} (h:l=a++b):a.length<=l.length:=by rw[h]; simp
def DW (n:Int):Nat:=if 0<=n then (2 * n).toNat else (-2 * n - 1).toNat
theorem z1bt {n:Int} (h1:-9223372036854775808<=n) (h2:n<=9223372036854775807):DW n<18446744073709551616:=by unfold DW; split <;> omega
end
section
def IE (x:AX):Prop:=inI x.A/\inI x.B/\True
def Tz (x:Az):Prop:=(λ_=>True) x.Kind/\inI x.Num/\(λ_=>True) x.Bits/\(λs:List UInt8=>s.length<=9223372036854775807) x.Text/\True
def TA (x:AP):Prop:=(λ_=>True) x.Kind/\(λs:List UInt8=>s.length<=9223372036854775807) x.Key/\Tz x.Value/\True
def TB (x:AC):Prop:=(λ_=>True) x.E/\(λ_=>True) x.S/\True
def FE (x:Ae):Prop:=(λ_=>True) x.Author/\(λl:List V3=>(∀ x∈l,(λv:V3=>∀ x∈v.toList,(λ_=>True) x) x)/\l.length<=9223372036854775807) x.Preds/\(λ_=>True) x.Stamp/\TA x.Act/\TB x.Sig/\True
def CN (x:A4):Prop:=(λl:List V3=>(∀ x∈l,(λv:V3=>∀ x∈v.toList,(λ_=>True) x) x)/\l.length<=9223372036854775807) x.IDs/\(λl:List Ae=>(∀ x∈l,FE x)/\l.length<=9223372036854775807) x.Ops/\True
end
section
theorem z15t {n k:Nat} (hn:n<9223372036854775808) (hk:k<9223372036854775808):andI (n:Int) (k:Int)=((n &&& k:Nat):Int):=by
 show IntKind.i64.wrap (BitVec.toNat (BitVec.ofInt 64 (n:Int) &&& BitVec.ofInt 64 (k:Int)):Int)=_;rw[BitVec.ofInt_natCast,BitVec.ofInt_natCast,BitVec.toNat_and,BitVec.toNat_ofNat,BitVec.toNat_ofNat,Nat.mod_eq_of_lt (by omega),Nat.mod_eq_of_lt (by omega)]
 have:=Nat.and_le_left (n:=n) (m:=k)
 exact Jg (by omega) (by omega)
def okb (c:UInt8):Bool:=decide (32<=c.toNat)&&decide (c.toNat<=126)
theorem My {b:List UInt8} {q:Nat} (h:q<b.length) (M:(b[q]).toNat<128):CZ b q=((b[q]).toNat,1):=by
 unfold CZ;exact decode_ascii ⟨b.toArray⟩ q (by show q<b.toArray.size; simpa using h) M
theorem TC {b:List UInt8} {q:Nat} (h:q<b.length) (ha:128<=(b[q]).toNat):128<=(CZ b q).1:=by
 unfold CZ;have e:((ByteArray.mk b.toArray).get! (q+0)).toNat=(b[q]).toNat:=by
  show ((ByteArray.mk b.toArray).get! q).toNat=_;simp[ByteArray.get!,h]
 simp only[Utf8.decode,e];rw[if_neg (by omega)]
 repeat' split
 all_goals (first | (simp only[Utf8.runeError]; omega) | (rename_i h1; simp at h1; omega) | omega)
theorem z15n (x:Int):LO x=some (decide (x<32) || decide (126<x)):=by
 unfold LO
 cases decide (x<32) <;> rfl
theorem TD (b:List UInt8):∀ (rest pre:List UInt8),b=pre++rest ->
  (rest.all okb=true->iter (Ik b true) pre.length=some (.inr ()))/\(rest.all okb=false->∃ i:Nat,iter (Ik b true) pre.length=some (.inl (i:Int)))
 | [],pre,e=>by
  refine⟨λ_=>AW ?_, λh=>by simp at h⟩;subst e;unfold Ik
  simp
 | c::rest,pre,e=>by
  have M:pre.length<b.length:=by rw[e]; simp
  have O:b[pre.length]'M=c:=by subst e; simp
  have hF:Ik b true pre.length=if ((decide (((CZ b pre.length).1:Int)<32) || decide (126<((CZ b pre.length).1:Int)))==true) then some (.inl (.inl (pre.length:Int))) else some (.inr (pre.length+(CZ b pre.length).2)):=by
   unfold Ik;rw[if_pos M];simp only[bs,z15n]
  cases U:okb c with
  | false =>
   refine⟨λh=>by simp[U] at h, λ_=>⟨pre.length,AW ?_⟩⟩;rw[hF,if_pos];by_cases h8:c.toNat<128
   ·rw[My M (by rw[O]; exact h8),O];simp only[okb,Bool.and_eq_false_iff,decide_eq_false_iff_not] at U
    simp; omega
   ·have:=TC M (by rw[O]; omega)
    simp; omega
  | true =>
   simp only[okb,Bool.and_eq_true,decide_eq_true_eq] at U;rw[My M (by rw[O]; omega),O,if_neg (by simp; omega)] at hF;have ih:=TD b rest (pre++[c]) (by simp[e]);simp only[List.length_append,List.length_cons,List.length_nil,Nat.zero_add] at ih;rw[B9 hF];have a1:okb c=true:=by simp[okb,U]
   simpa [a1] using ih
theorem TE (b:List UInt8) (hb:b.length<=9223372036854775807):∀ (rest pre:List UInt8),b=pre++rest->iter (K0 b) (pre.length:Int)=some (if rest.all okb then .inr () else .inl false)
 | [],pre,e=>by
  refine AW ?_;subst e;unfold K0
  simp
 | c::rest,pre,e=>by
  have M:pre.length<b.length:=by rw[e]; simp
  have U:b[pre.length]'M=c:=by subst e; simp
  have hF:K0 b (pre.length:Int)=if okb c then some (.inr ((pre.length+1:Nat):Int)) else some (.inl (.inl false)):=by
   unfold K0;rw[if_pos (by simp <;> omega)]
   simp only[AE M,U,bs,AO (show pre.length<9223372036854775807 by omega)];simp only[okb,UInt8.lt_iff_toNat_lt,UInt8.reduceToNat];by_cases h1:c.toNat<32
   ·have:¬ 32<=c.toNat:=by omega
    simp[h1,this]
   ·by_cases h2:126<c.toNat
    ·have:¬ c.toNat<=126:=by omega
     simp[h1,h2,this]
    ·have h3:32<=c.toNat:=by omega
     have h4:c.toNat<=126:=by omega
     simp[h1,h2,h3,h4]
  cases O:okb c with
  | false=>rw[O] at hF; rw[AW hF]; simp[O]
  | true =>
   rw[O] at hF;rw[B9 hF];have ih:=TE b hb rest (pre++[c]) (by simp[e]);simp only[List.length_append,List.length_cons,List.length_nil,Nat.zero_add] at ih;rw[ih]; simp[O]
theorem zw3 (b:List UInt8) (hb:b.length<=9223372036854775807):Mh b=some (b.all okb):=by
 have h:=TE b hb b [] rfl;unfold Mh;rw[show (0:Int)=(([]:List UInt8).length:Int) from rfl,h]
 cases b.all okb <;> rfl
theorem z172 (b:List UInt8) (hb:b.length<=9223372036854775807):LP b=some (if decide (30<(b.length:Int)) then (⟨0,0,0,[]⟩,4) else if b.all okb then (⟨3,0,0,b⟩,0) else (⟨0,0,0,[]⟩,8)):=by
 unfold LP Ou Ot
 cases decide (30<(b.length:Int))
 ·simp only[Bool.false_eq_true,if_false];obtain⟨h1,h2⟩:=TD b b [] rfl;simp only[List.length_nil] at h1 h2
  cases h:b.all okb
  ·obtain⟨i,hi⟩:=h2 h;rw[hi];simp only[or_l,bs];rw[if_pos (by simp)]; rfl
  ·rw[h1 h]; rfl
 ·rfl
theorem z158 (a:UInt64):LK a=some (((a.toNat / 4503599627370496 % 2048:Nat):Int),a % 4503599627370496):=by
 unfold LK;simp only[bs];have h0:=UInt64.toNat_lt a;rw[Ke];have e1:(2:Nat) ^ (min 52 64)=4503599627370496:=by decide
 rw[e1,B1 (by omega) (by omega), show (2047:Int)=((2047:Nat):Int) from rfl,z15t (by omega) (by omega)]
 congr 2
 ·congr 1
  exact Nat.and_two_pow_sub_one_eq_mod _ 11
 ·apply UInt64.toNat_inj.1
  rw[UInt64.toNat_and,UInt64.toNat_mod];exact Nat.and_two_pow_sub_one_eq_mod _ 52
theorem z1bx (a:UInt64):Me a=some ((a.toNat / 4503599627370496 % 2048:Nat):Int):=by
 unfold Me;have h0:=UInt64.toNat_lt a;simp only[bs,UInt64.toNat_div,UInt64.toNat_mod,UInt64.reduceToNat];rw[B1 (by omega) (by omega)]
 congr 2
 omega
def E8 (a:UInt64):Nat:=a.toNat / 4503599627370496 % 2048
def mant (a:UInt64):Nat:=a.toNat % 4503599627370496
theorem z19p (a:UInt64):E8 a<2048:=Nat.mod_lt _ (by omega)
def clsF (a:UInt64):UInt8:=if E8 a=2047 then (if mant a=0 then 4 else 5) else if E8 a=0 then (if mant a=0 then 1 else 2) else 3
theorem TF (a:UInt64):(a % 4503599627370496==0)=decide (mant a=0):=by
 rw[Bool.eq_iff_iff];simp only[beq_iff_eq,decide_eq_true_eq,<- UInt64.toNat_inj,UInt64.toNat_mod];rfl
theorem z12h (a:UInt64):LL a=some (clsF a):=by
 unfold LL clsF;rw[z158];simp only[bs];have U:=TF a;have M:(a % 4503599627370496 != 0)=!decide (mant a=0):=by rw[<- U]; rfl
 have he:((a.toNat / 4503599627370496 % 2048:Nat):Int)=(E8 a:Int):=rfl;rw[M,he];by_cases h1:E8 a=2047
 ·rw[h1];by_cases h2:mant a=0
  ·rw[decide_eq_true h2,if_pos h2]; rfl
  ·rw[decide_eq_false h2,if_neg h2]; rfl
 ·have e1:((E8 a:Int)==2047)=false:=by simp; omega
  rw[if_neg h1,e1];simp only[Bool.false_eq_true,if_false,bs];by_cases O:E8 a=0
  ·rw[O];by_cases h2:mant a=0
   ·rw[decide_eq_true h2,if_pos h2]; rfl
   ·rw[decide_eq_false h2,if_neg h2]; rfl
  ·have e0:((E8 a:Int) != 0)=true:=by simp; omega
   rw[e0,if_neg O]; rfl
theorem z146 (a:UInt64):Mf a=some (clsF a):=by
 unfold Mf ON clsF;rw[z1bx];simp only[bs];rw[TF a];have hx:=z19p a;show Bi (if ((E8 a:Int)==0)=true then if decide (mant a=0)=true then some (.inl 1) else some (.inr ()) else some (.inr ())) (λs5=>if ((E8 a:Int)==0)=true then some 2 else if decide ((E8 a:Int)<2047)=true then some 3 else if decide (mant a=0)=true then some 4 else some 5)=_;by_cases h1:E8 a=2047
 ·rw[h1];by_cases h2:mant a=0 <;> simp[h2,Df,or_l]
 ·by_cases M:E8 a=0
  ·rw[M];by_cases h2:mant a=0 <;> simp[h2,Df,or_l]
  ·have e0:((E8 a:Int)==0)=false:=by simp; omega
   have e2:decide ((E8 a:Int)<2047)=true:=by simp; omega
   rw[e0,e2,if_neg h1,if_neg M]; rfl
def G5 (a:UInt64):UInt64:=if clsF a=5 then 9221120237041090560 else a
theorem z134 (a:UInt64):LM a=some (G5 a):=by
 unfold LM G5;rw[z12h];simp only[bs];by_cases h:clsF a=5 <;> simp[h]
theorem z13c (a:UInt64):Mg a=some (G5 a):=by
 unfold Mg G5;rw[z146];simp only[bs];by_cases h:clsF a=5 <;> simp[h]
theorem z11j (a:UInt64):LN a=some ⟨2,0,G5 a,[]⟩:=by
 unfold LN; rw[z134]; rfl
def okV (v:Az):Bool :=
 if v.Kind=1 then decide (v.Bits=0)&&decide (v.Text=[])
 else if v.Kind=2 then decide (v.Num=0)&&decide (v.Text=[])&&decide (G5 v.Bits=v.Bits)
 else if v.Kind=3 then decide (v.Num=0)&&decide (v.Bits=0)&&decide (v.Text.length<=30)&&v.Text.all okb
 else false
theorem z136 (v:Az) (hb:v.Text.length<=9223372036854775807):Mi v=some (if okV v then 0 else 8):=by
 obtain⟨K,n,f,t⟩:=v;unfold Mi okV;simp only at hb ⊢;rw[z13c,zw3 t hb];by_cases h1:K=1
 ·subst h1;by_cases M:f=0 <;> by_cases ht:t=[] <;> simp[M,ht]
 by_cases h2:K=2
 ·subst h2;by_cases O:n=0 <;> by_cases ht:t=[] <;> by_cases hc:G5 f=f <;> simp[O,ht,hc,bs]
 by_cases h3:K=3
 ·subst h3;by_cases hl:t.length<=30
  ·have U:(t.length:Int)<=30:=by omega
   by_cases O:n=0 <;> by_cases M:f=0 <;> cases t.all okb <;> simp[O,M,hl,U,bs]
  ·have U:¬ (t.length:Int)<=30:=by omega
   by_cases O:n=0 <;> by_cases M:f=0 <;> simp[O,M,hl,U,bs]
 ·simp[h1,h2,h3]
theorem TG (v:Az) (hb:v.Text.length<=9223372036854775807):Js v=some (if okV v then 0 else 8):=by
 obtain⟨K,n,f,t⟩:=v;unfold Js Oq okV;simp only at hb ⊢;rw[z11j,z172 t hb];by_cases h1:K=1
 ·subst h1;by_cases U:f=0 <;> by_cases M:t=[] <;> simp[U,M,bs]
 by_cases h2:K=2
 ·subst h2;by_cases hc:G5 f=f
  ·by_cases O:n=0 <;> by_cases M:t=[] <;> simp[O,M,hc,bs]
  ·have a1:¬ f=G5 f:=λe=>hc e.symm;by_cases O:n=0 <;> by_cases M:t=[] <;> simp[O,M,hc,a1,bs]
 by_cases h3:K=3
 ·subst h3;by_cases hl:30<(t.length:Int)
  ·have h4:¬ t.length<=30:=by omega
   rw[decide_eq_true hl,decide_eq_false h4];simp[bs]
  ·have h4:t.length<=30:=by omega
   rw[decide_eq_false hl,decide_eq_true h4]
   cases t.all okb <;> by_cases O:n=0 <;> by_cases U:f=0 <;> simp[O,U,bs]
 ·have e1:(K==1)=false:=by simpa using h1
  have e2:(K==2)=false:=by simpa using h2
  have e3:(K==3)=false:=by simpa using h3
  simp only[e1,e2,e3,Bool.false_eq_true,if_false,bs,h1,h2,h3];by_cases h0:K=0
  ·subst h0
   split <;> rfl
  ·simp[h0]
end
section
theorem z13p:∀ (n:Nat) (a:UInt64) (ds:List UInt8) (N:Nat),a.toNat=n->BO N=ds++BO n->(BO N).length<=8->iter JH (a,ds)=some (BO N):=by
 intro n
 induction n using Nat.strongRecOn with
 | _ n ih =>
  intro a ds N M hd hl;by_cases O:n=0
  ·subst O;refine AW ?_;unfold JH;rw[if_neg (by simp[UInt64.lt_iff_toNat_lt,M])];rw[Kf,List.append_nil] at hd;rw[hd]
  ·have hF:JH (a,ds)=some (.inr (a / 256,ds++[(a % 256).toUInt8])):=by
    unfold JH;rw[if_pos (by simp[UInt64.lt_iff_toNat_lt,M]; omega)]
    have:ds.length<=8:=Nat.le_trans (zqw hd) hl
    simp only[Bw (show (ds.length+[(a % 256).toUInt8].length) * 1<=140737488355328 by simp; omega),bs]
   rw[B9 hF];have U:=zv8 N n ds O hd;refine ih (n / 256) (Nat.div_lt_self (by omega) (by omega)) _ _ N ?_ ?_ hl
   ·simp[M]
   ·rw[U]
    congr 2
    congr 1
    apply UInt8.toNat_inj.1
    simp[M]
theorem TH (s:List UInt8) (hl:s.length<=8):∀ (i:Nat) (acc:List UInt8),i<=s.length->acc.length+i<=100->iter (JI s) (acc,(i:Int) - 1)=some (acc++(s.take i).reverse)
 | 0,acc,_,_=>by
  refine AW ?_;unfold JI;rw[if_neg (by simp)]; simp
 | i+1,acc,hi,ha=>by
  have M:i<s.length:=by omega
  have e:((i+1:Nat):Int) - 1=(i:Int):=by omega
  have hF:JI s (acc,((i+1:Nat):Int) - 1)=some (.inr (acc++[s[i]],(i:Int) - 1)):=by
   unfold JI;rw[e,if_pos (by simp)];simp only[AE M,bs];rw[Bw (by simp; omega)];simp only[bs,B1 (show -9223372036854775808<=(i:Int) - 1 by omega) (by omega)]
  rw[B9 hF,TH s hl i _ (by omega) (by simp; omega)]
  have:List.take (i+1) s=List.take i s++[s[i]]:=by rw[List.take_add_one,List.getElem?_eq_getElem M]; rfl
  rw[this]; simp only[List.reverse_append,List.reverse_cons,List.reverse_nil,List.nil_append,List.append_assoc]
theorem GG (a:UInt64):F4 a=some (BW a.toNat):=by
 unfold F4 BW;have M:=UInt64.toNat_lt a;by_cases h:a.toNat<=247
 ·have h':decide (a<=247)=true:=by simpa [UInt64.le_iff_toNat_le] using h
  rw[if_pos h',if_pos h]
  congr 2
 ·have h':¬ decide (a<=247)=true:=by simpa [UInt64.le_iff_toNat_le] using h
  rw[if_neg h',if_neg h];have hd:=OW a.toNat M;rw[z13p a.toNat a [] a.toNat rfl rfl hd];simp only[bs];rw[B1 (show -9223372036854775808<=((BO a.toNat).length:Int) - 1 by omega) (by omega),B1 (show -9223372036854775808<=247+((BO a.toNat).length:Int) by omega) (by omega)];rw[TH _ hd _ _ (Nat.le_refl _) (by simp; omega)];simp only[bs,List.take_length];rw[show (247+((BO a.toNat).length:Int))=((247+(BO a.toNat).length:Nat):Int) by omega]
  congr 1
  show _::_=_
  congr 1
  apply UInt8.toNat_inj.1
  simp[UInt8.ofInt];omega
theorem z11a (a:UInt64) (k:Nat) (hk:k=(BO a.toNat).length) (a1:k<=8):iter (LU a (k:Int)) (EP a.toNat 0,0)=some (EP a.toNat k):=by
 refine C1 k (λi=>(EP a.toNat i,(i:Int))) (λi hi=>?_) ?_
 ·have hf:=zxy a.toNat i (by omega);unfold LU;rw[if_pos (by simp; omega)];simp only[B1 (show -9223372036854775808<=8 * (i:Int) by omega) (by omega),Cn (show (0:Int)<=8 * (i:Int) by omega),bs,B1 (show -9223372036854775808<=(k:Int) - (i:Int) by omega) (by omega),AO (show i<9223372036854775807 by omega)];rw[Kd (by omega) (by omega)];simp only[bs]
  have:=ztv a.toNat i (by omega)
  rw[<- this];have e1:((k:Int) - (i:Int)).toNat=(BO a.toNat).length - i:=by omega
  have e2:(BZ a (8 * (i:Int)).toNat).toUInt8=UInt8.ofNat (a.toNat / 2 ^ (8 * i)):=by
   apply UInt8.toNat_inj.1
   have e3:(8 * (i:Int)).toNat=8 * i:=by omega
   rw[e3];simp only[UInt64.toNat_toUInt8,Ke,Nat.min_eq_left (show 8 * i<=64 by omega)]
   simp
  rw[e1,e2]
 ·unfold LU;rw[if_neg (by simp)]
theorem IF (a:UInt64) (k:Nat) (hk:k<64):(BZ a k).toNat=a.toNat / 2 ^ k:=by rw[Ke,Nat.min_eq_left (by omega)]
theorem z157 (a:UInt64):LT a=some (Cx a.toNat:Int):=by
 unfold LT;have h0:=UInt64.toNat_lt a;have s1:∃ (y:UInt64) (n:Nat),(if decide (4294967296<=a) then some (BZ a 32,(32:Int)) else some (a,0))=some (y,(n:Int))/\y.toNat<2 ^ 32/\n<=32/\Cx a.toNat=n+Cx y.toNat:=by
  by_cases h:4294967296<=a.toNat
  ·refine⟨BZ a 32,32, by rw[if_pos (by simpa [UInt64.le_iff_toNat_le] using h)]; rfl,?_, by omega,?_⟩
   ·rw[IF a 32 (by omega)]; omega
   ·rw[IF a 32 (by omega)]; exact Mv _ 32 (by omega)
  ·exact⟨a,0, by rw[if_neg (by simpa [UInt64.le_iff_toNat_le] using h)]; rfl, by omega, by omega, by omega⟩
 obtain⟨y,n,e1,hy,hn,hb⟩:=s1;rw[e1]; simp only[bs];have s2:∃ (z:UInt64) (k:Nat),(if decide (65536<=y) then some (BZ y 16)>>=λy5=>some (w64 ((n:Int)+16))>>=λy6=>some (y5,y6) else some (y,(n:Int)))=some (z,(k:Int))/\z.toNat<2 ^ 16/\k<=48/\Cx a.toNat=k+Cx z.toNat:=by
  by_cases h:65536<=y.toNat
  ·refine⟨BZ y 16,n+16, by rw[if_pos (by simpa [UInt64.le_iff_toNat_le] using h)]; simp only[bs,B1 (show -9223372036854775808<=(n:Int)+16 by omega) (by omega)]; rfl,?_, by omega,?_⟩
   ·rw[IF y 16 (by omega)]; omega
   ·rw[IF y 16 (by omega),hb,Mv y.toNat 16 (by omega)]; omega
  ·exact⟨y,n, by rw[if_neg (by simpa [UInt64.le_iff_toNat_le] using h)], by omega, by omega,hb⟩
 obtain⟨z,k,e2,hz,hk,O⟩:=s2;simp only[bs] at e2;rw[e2]; simp only[bs];have s3:∃ (x:UInt64) (j:Nat),(if decide (256<=z) then some (w64 ((k:Int)+8))>>=λy9=>some (BZ z 8,y9) else some (z,(k:Int)))=some (x,(j:Int))/\x.toNat<256/\j<=56/\Cx a.toNat=j+Cx x.toNat:=by
  by_cases h:256<=z.toNat
  ·refine⟨BZ z 8,k+8, by rw[if_pos (by simpa [UInt64.le_iff_toNat_le] using h)]; simp only[bs,B1 (show -9223372036854775808<=(k:Int)+8 by omega) (by omega)]; rfl,?_, by omega,?_⟩
   ·rw[IF z 8 (by omega)]; omega
   ·rw[IF z 8 (by omega),O,Mv z.toNat 8 (by omega)]; omega
  ·exact⟨z,k, by rw[if_neg (by simpa [UInt64.le_iff_toNat_le] using h)], by omega, by omega,O⟩
 obtain⟨x,j,e3,hx,hj,U⟩:=s3;simp only[bs] at e3;rw[e3]; simp only[bs];have ht:=z176 ⟨x.toNat,hx⟩;have a1:(x.toUInt8.toNat:Int)=((x.toNat:Nat):Int):=by simp; omega
 have a6:Cx x.toNat<=8:=Mw _ 8 (by omega);rw[a1];have M:∀ (l:List UInt8),l=Tw.data.toList->idx l ((x.toNat:Nat):Int)=some (UInt8.ofNat (Cx x.toNat)):=λl hl=>by
  subst hl;unfold idx;rw[if_pos (by omega)]
  simpa using ht
 refine Eq.trans (congrArg (λo:Option UInt8=>o>>=λa2=>some (w64 ((j:Int)+(a2.toNat:Int)))) (M _ ?hh)) ?_
 case hh=>rfl
 simp only[bs];have e4:((UInt8.ofNat (Cx x.toNat)).toNat:Int)=(Cx x.toNat:Int):=by simp; omega
 rw[e4,B1 (by omega) (by omega),U]
 simp
theorem GI (a:UInt64):EA a=some (BW a.toNat):=by
 unfold EA;have M:=UInt64.toNat_lt a;by_cases h:a.toNat<=247
 ·have h':decide (a<=247)=true:=by simpa [UInt64.le_iff_toNat_le] using h
  unfold BW;rw[if_pos h',if_pos h]
  congr 2
 ·have h':¬ decide (a<=247)=true:=by simpa [UInt64.le_iff_toNat_le] using h
  rw[if_neg h',z157];have hd:=OW a.toNat M;have hl:=Tx a.toNat;have hb:Cx a.toNat<=64:=Mw _ 64 M;simp only[bs];rw[B1 (show -9223372036854775808<=(Cx a.toNat:Int)+7 by omega) (by omega)];have e1:Int.tdiv ((Cx a.toNat:Int)+7) 8=((BO a.toNat).length:Int):=by
   rw[hl, show ((Cx a.toNat:Int)+7)=((Cx a.toNat+7:Nat):Int) by omega];rfl
  rw[e1,B1 (show -9223372036854775808<=((BO a.toNat).length:Int) by omega) (by omega),AO (by omega),G4 (by omega) (by omega)];simp only[bs];rw[show (0:Int)=((0:Nat):Int) from rfl,AE (by simp)];simp only[bs,Int.toNat_natCast];rw[B1 (show -9223372036854775808<=247+((BO a.toNat).length:Int) by omega) (by omega)];have e2:UInt8.ofInt (247+((BO a.toNat).length:Int))=UInt8.ofNat (247+(BO a.toNat).length):=by
   apply UInt8.toNat_inj.1
   rw[show (247+((BO a.toNat).length:Int))=((247+(BO a.toNat).length:Nat):Int) by omega];simp[UInt8.ofInt];omega
  have:=ztr a.toNat
  rw[e2,this]
  have:=z11a a (BO a.toNat).length rfl hd
  rw[show (0:Int)=((0:Nat):Int) from rfl] at this;rw[this];simp only[bs];rw[zw4 a.toNat (by omega)]
end
end Go.Proofs.YtgomhacoacmbcaaGreatDoor
