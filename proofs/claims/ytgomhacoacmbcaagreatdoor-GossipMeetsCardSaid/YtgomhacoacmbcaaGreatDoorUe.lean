import Derived.Test.YtgomhacoacmbcaaGreatDoorUd
set_option linter.unusedSimpArgs false
set_option linter.unusedVariables false
namespace Go.Proofs.YtgomhacoacmbcaaGreatDoor
set_option maxRecDepth 100000
set_option maxHeartbeats 4000000
open Go Go.RowKit _root_.Go.Proofs.Tryz
section
theorem zld  : Aj Tryz.prog 4 [] [Am] (Nc) (λr nv=>⟨[.rd Ai r],[(1001,some (.bool true,.glob 1 (Av 64 Aa) Bv))]⟩):=by
 refine Aq 111 func4 Z Z Z λH w=>?_;refine A0<|Zb Z<|A0<|Zc [1001] [(100,1)] func13 Z (zl6) λr1 n2=>lOpF 1 Z λhF3=>Zm Z<|Zq (ext Z Z)<|Zq (ext Z Z)<|Za Z<|Zb Z<|A0<|Zq (bld (x':=(⟨0,1⟩:AX)) [(0,1),(1,1)] underlying24 Db Z FV Z (Bld.cons (CT _) Z Z<|Bld.cons (D3 _) Z Z<|Bld.done Z))<|Zq (bld (x':=(⟨1,2⟩:AX)) [(0,1),(1,1)] underlying24 Db Z FV Z (Bld.cons (CT _) Z Z<|Bld.cons (D3 _) Z Z<|Bld.done Z))<|Ef Z (litF (R:=Bn) ([(⟨0,1⟩:AX),(⟨1,2⟩:AX)]:List AX) 2 (pP Z Z<|pP Z Z<|pN) Z tu42 Db Z Z) λv4=>lOpF 2 Z λhF5=>Zb Z<|A0<|Zm Z<|Zm Z<|call [1,2,1001] [(100,3),(1,1),(2,2)] Z func12 Z Z (zlz _ _ _ _ _ _) (aW Z<|aW Z<|aN) (Zi Z<|Zi Z<|Zi Z<|rN) λr6 n7=>Zm Z<|Zq (ext Z Z)<|Zq (ext Z Z)<|Za Z<|Zb Z<|A0<|Zm Z<|call [2] [(100,4),(1,2)] Z func14 Z Z (zm1 _ _ _ _) (aQ Z<|aW Z<|aN) (y1 Z) λr8 n9=>Zm Z<|Zq (ext Z Z)<|Zq (ext Z Z)<|Za Z<|Zb Z<|A0<|Zm Z<|call [1,1001] [(100,5),(1,1)] Z func15 Z Z (Uf _ _ _ _) (aW Z<|aQ Z<|aN) (Zi Z<|Zi Z<|rN) λah ai=>Zm Z<|Zq (ext Z Z)<|Zq (ext Z Z)<|Za Z<|Zb Z<|A0<|Ef Z (lit (R:=Ao) ([4]:List UInt64) 6 (pP Z Z<|pN) Z underlying85 CJ Z Z) λaj=>call [6,1001] [(1,6)] Z func16 Z Z (zjy _ _ _) (aW Z<|aN) (Zi Z<|Zi Z<|rN) λad ak=>Zm Z<|Zq (ext Z Z)<|Zq (ext Z Z)<|Eb Z (AL 7 Aw (ZrE.nilS (ZrE.nilS ZrE.nil))) λam=>Bh aZ [.rd (A3 aZ) [],.val (.slice none 0 0)] 7 [] [.val (.slice none 0 0)] Z Z Z<|Bh Ad [.rd (A3 aZ) [],.rd (A3 Ad) []] 7 [.rd (A3 aZ) []] [] Z Z Z<|BC (R:=A8) (⟨[],[]⟩:A4) 7 Z (Sp.via (Sp.prod (Sp.prod Sp.unit)))<|Es (sto 7 Z Z fH Z Aw)<|Zb Z<|A0<|Zm Z<|Zq (ld 7 Z Z fH AH Z)<|Ef Z (litF (R:=A8) ([ad.1]:List A4) 8 (pP Z Z<|pN) Z tu22 Aw Z Z) λao=>lOpF 8 Z λhF17=>BG 8 [47] Z (fS Z<|fN)<|An λap ae=>Ef Z (apF 1 9 Z Z hF3 Z .rd Z ae tu22 Aw Z Z Z) λaq=>call [9,1001] [(100,10),(1,9)] Z func15 Z Z (Uf _ _ _ _) (aW Z<|aQ Z<|aN) (Zi Z<|Zi Z<|rN) λar av=>Zm Z<|Zq (ext Z Z)<|Zq (ext Z Z)<|Za Z<|Zb Z<|A0<|Zm Z<|Zq (ld 7 Z Z fH AH Z)<|Ef Z (litF (R:=A8) ([ad.1]:List A4) 11 (pP Z Z<|pN) Z tu22 Aw Z Z) λaw=>lOpF 11 Z λhF24=>BG 11 [55] Z (fS Z<|fN)<|An λax af=>Ef Z (apF 1 12 Z Z hF3 Z .rd Z af tu22 Aw Z Z Z) λay=>call [12,1001] [(1,12)] Z func17 Z Z (zkz _ _ _) (aW Z<|aN) (Zi Z<|Zi Z<|rN) λaz b0=>Zm Z<|Zq (ext Z Z)<|Zq (ext Z Z)<|Za Z<|Zb Z<|A0<|Zm Z<|Zm Z<|AY 61 Z (λO=>?_) (λO=>?_)
 ·refine Ac 19 Z O<|Ac 2 Z O<|Ac 60 Z O<|Ab Zx Z Z (mv Z)<|Ab Zx Z Z (I.eql Z Z)<|Zq (pkT Z Z)<|Zm Z<|AY 65 Z (λU=>?_) (λU=>?_)
  ·refine Ac 63 Z U<|Ac 64 Z U<|Ab Zx Z Z (mv Z)<|Efg Zx Z Z (lit (R:=A2) ([2,3,3]:List Int) 13 (pP Z Z<|pP Z Z<|pP Z Z<|pN) Z tu57 ti3 Z Z) λb1=>BG 3 [27,4,66] Z (fS Z<|fS Z<|fS Z<|fN)<|CH [13] [(1,13)] Zx Z func18 Z Z (Pk _ _ _ _) (aQ Z<|aW Z<|aN) (y1 Z) λb2 b3=>Zq (pkT Z Z)<|Zm Z<|AY 70 Z (λa1=>?_) (λa1=>?_)
   ·refine Ac 68 Z a1<|Ac 69 Z a1<|Ab Zx Z Z (mv Z)<|Ab Zx Z Z (I.eql Z Z)<|Zq (pkT Z Z)<|Zm Z<|AY 74 Z (λa2=>?_) (λa2=>?_)
    ·refine Ac 72 Z a2<|Ac 73 Z a2<|Ab Zx Z Z (mv Z)<|Efg Zx Z Z (lit (R:=A2) ([0,1]:List Int) 14 (pP Z Z<|pP Z Z<|pN) Z tu57 ti3 Z Z) λb4=>Efg Zx Z Z (lit (R:=A2) ([0,1,2]:List Int) 15 (pP Z Z<|pP Z Z<|pP Z Z<|pN) Z tu57 ti3 Z Z) λb5=>Efg Zx Z Z (lit (R:=A2) ([0,1,2]:List Int) 16 (pP Z Z<|pP Z Z<|pP Z Z<|pN) Z tu57 ti3 Z Z) λv39=>BG 14 [76] Z (fS Z<|fN)<|BG 15 [77] Z (fS Z<|fN)<|BG 16 [78] Z (fS Z<|fN)<|Efg Zx Z Z (lit (R:=(A3 A2)) ([[0,1],[0,1,2],[0,1,2]]:List (List Int)) 17 (pP Z Z<|pP Z Z<|pP Z Z<|pN) Z tu46 ti57 Z Z) λb6=>BG 4 [32,6,75] Z (fS Z<|fS Z<|fS Z<|fN)<|BG 17 [79] Z (fS Z<|fN)<|CH [] [] Zx Z func19 Z Z (zid _ _) (Y2 Z Z) rN λb7 b8=>Zq (pkT Z Z)<|Zm Z<|AY 82 Z (λa6=>?_) (λa6=>?_)
     ·refine Ac 80 Z a6<|Ac 81 Z a6<|Ab Zx Z Z (mv Z)<|Ab Zx Z Z (I.eql Z Z)<|Zq (pkT Z Z)<|Zm Z<|AY 86 Z (λa7=>?_) (λa7=>?_)
      ·refine Ac 84 Z a7<|Ac 85 Z a7<|Ab Zx Z Z (mv Z)<|Efg Zx Z Z (lit (R:=A2) ([3,3,3]:List Int) 18 (pP Z Z<|pP Z Z<|pP Z Z<|pN) Z tu57 ti3 Z Z) λv45=>BG 5 [37,8,87] Z (fS Z<|fS Z<|fS Z<|fN)<|CH [18] [(1,18)] Zx Z func18 Z Z (Pk _ _ _ _) (aQ Z<|aW Z<|aN) (y1 Z) λb9 ba=>Zq (pkT Z Z)<|Zm Z<|AY 91 Z (λa8=>?_) (λa8=>?_)
       ·refine Ac 89 Z a8<|Ac 90 Z a8<|Ab Zx Z Z (mv Z)<|Zq (pkT Z Z)<|Zm Z<|AY 94 Z (λM=>?_) (λM=>?_)
        ·refine Ac 43 Z M<|Ac 11 Z M<|Ac 92 Z M<|Ac 93 Z M<|Ab Zx Z Z (mv Z)<|Ab Zx Z Z (I.eql Z Z)<|Zq (pkT Z Z)<|Zm Z<|AY 98 Z (λaa=>?_) (λaa=>?_)
         ·refine Ac 96 Z aa<|Ac 97 Z aa<|Ab Zx Z Z (mv Z)<|Efg Zx Z Z (lit (R:=A2) ([4,3,4,4]:List Int) 19 (pP Z Z<|pP Z Z<|pP Z Z<|pP Z Z<|pN) Z tu57 ti3 Z Z) λbb=>BG 10 [50,12,99] Z (fS Z<|fS Z<|fS Z<|fN)<|CH [19] [(1,19)] Zx Z func18 Z Z (Pk _ _ _ _) (aQ Z<|aW Z<|aN) (y1 Z) λbc bd=>Zq (pkT Z Z)<|Zm Z<|AY 103 Z (λab=>?_) (λab=>?_)
          ·refine Ac 101 Z ab<|Ac 102 Z ab<|Ab Zx Z Z (mv Z)<|Ab Zx Z Z (I.eql Z Z)<|Zq (pkT Z Z)<|Zm Z<|AY 107 Z (λac=>?_) (λac=>?_)
           ·refine Ac 105 Z ac<|Ac 106 Z ac<|Ab Zx Z Z (mv Z)<|Ab Zx Z Z (I.eql Z Z)<|Zq (pkT Z Z)<|Zb Z<|A5<|Ze [] [1001] Z
           ·refine Ac 105 Z ac<|Ac 106 Z ac<|Zk Z<|Zk Z<|Zq (pkF Z Z)<|Zb Z<|A5<|Ze [] [1001] Z
          ·refine Ac 101 Z ab<|Ac 102 Z ab<|Zk Z<|Zk Z<|Zq (pkF Z Z)<|Zm Z<|Zk Z<|Zk Z<|Zq (pkF Z Z)<|Zb Z<|A5<|Ze [] [1001] Z
         ·refine Ac 96 Z aa<|Ac 97 Z aa<|Zk Z<|Zk Z<|Zk Z<|Zq (pkF Z Z)<|Zm Z<|Zk Z<|Zk Z<|Zq (pkF Z Z)<|Zm Z<|Zk Z<|Zk Z<|Zq (pkF Z Z)<|Zb Z<|A5<|Ze [] [1001] Z
        ·refine Ac 43 Z M<|Ac 11 Z M<|Ac 92 Z M<|Ac 93 Z M<|Zk Z<|Zk Z<|Zq (pkF Z Z)<|Zm Z<|Zk Z<|Zk Z<|Zk Z<|Zq (pkF Z Z)<|Zm Z<|Zk Z<|Zk Z<|Zq (pkF Z Z)<|Zm Z<|Zk Z<|Zk Z<|Zq (pkF Z Z)<|Zb Z<|A5<|Ze [] [1001] Z
       ·refine Ac 89 Z a8<|Ac 90 Z a8<|Zk Z<|Zq (pkF Z Z)<|Zm Z<|Zk Z<|Zk Z<|Zq (pkF Z Z)<|Zm Z<|Zk Z<|Zk Z<|Zk Z<|Zq (pkF Z Z)<|Zm Z<|Zk Z<|Zk Z<|Zq (pkF Z Z)<|Zm Z<|Zk Z<|Zk Z<|Zq (pkF Z Z)<|Zb Z<|A5<|Ze [] [1001] Z
      ·refine Ac 84 Z a7<|Ac 85 Z a7<|Zk Z<|Zk Z<|Zk Z<|Zq (pkF Z Z)<|Zm Z<|Zk Z<|Zq (pkF Z Z)<|Zm Z<|Zk Z<|Zk Z<|Zq (pkF Z Z)<|Zm Z<|Zk Z<|Zk Z<|Zk Z<|Zq (pkF Z Z)<|Zm Z<|Zk Z<|Zk Z<|Zq (pkF Z Z)<|Zm Z<|Zk Z<|Zk Z<|Zq (pkF Z Z)<|Zb Z<|A5<|Ze [] [1001] Z
     ·refine Ac 80 Z a6<|Ac 81 Z a6<|Zk Z<|Zk Z<|Zq (pkF Z Z)<|Zm Z<|Zk Z<|Zk Z<|Zk Z<|Zq (pkF Z Z)<|Zm Z<|Zk Z<|Zq (pkF Z Z)<|Zm Z<|Zk Z<|Zk Z<|Zq (pkF Z Z)<|Zm Z<|Zk Z<|Zk Z<|Zk Z<|Zq (pkF Z Z)<|Zm Z<|Zk Z<|Zk Z<|Zq (pkF Z Z)<|Zm Z<|Zk Z<|Zk Z<|Zq (pkF Z Z)<|Zb Z<|A5<|Ze [] [1001] Z
    ·refine Ac 72 Z a2<|Ac 73 Z a2<|Zk Z<|Zk Z<|Zk Z<|Zk Z<|Zk Z<|Zk Z<|Zq (pkF Z Z)<|Zm Z<|Zk Z<|Zk Z<|Zq (pkF Z Z)<|Zm Z<|Zk Z<|Zk Z<|Zk Z<|Zq (pkF Z Z)<|Zm Z<|Zk Z<|Zq (pkF Z Z)<|Zm Z<|Zk Z<|Zk Z<|Zq (pkF Z Z)<|Zm Z<|Zk Z<|Zk Z<|Zk Z<|Zq (pkF Z Z)<|Zm Z<|Zk Z<|Zk Z<|Zq (pkF Z Z)<|Zm Z<|Zk Z<|Zk Z<|Zq (pkF Z Z)<|Zb Z<|A5<|Ze [] [1001] Z
   ·refine Ac 68 Z a1<|Ac 69 Z a1<|Zk Z<|Zk Z<|Zq (pkF Z Z)<|Zm Z<|Zk Z<|Zk Z<|Zk Z<|Zk Z<|Zk Z<|Zk Z<|Zq (pkF Z Z)<|Zm Z<|Zk Z<|Zk Z<|Zq (pkF Z Z)<|Zm Z<|Zk Z<|Zk Z<|Zk Z<|Zq (pkF Z Z)<|Zm Z<|Zk Z<|Zq (pkF Z Z)<|Zm Z<|Zk Z<|Zk Z<|Zq (pkF Z Z)<|Zm Z<|Zk Z<|Zk Z<|Zk Z<|Zq (pkF Z Z)<|Zm Z<|Zk Z<|Zk Z<|Zq (pkF Z Z)<|Zm Z<|Zk Z<|Zk Z<|Zq (pkF Z Z)<|Zb Z<|A5<|Ze [] [1001] Z
  ·refine Ac 63 Z U<|Ac 64 Z U<|Zk Z<|Zk Z<|Zk Z<|Zq (pkF Z Z)<|Zm Z<|Zk Z<|Zk Z<|Zq (pkF Z Z)<|Zm Z<|Zk Z<|Zk Z<|Zk Z<|Zk Z<|Zk Z<|Zk Z<|Zq (pkF Z Z)<|Zm Z<|Zk Z<|Zk Z<|Zq (pkF Z Z)<|Zm Z<|Zk Z<|Zk Z<|Zk Z<|Zq (pkF Z Z)<|Zm Z<|Zk Z<|Zq (pkF Z Z)<|Zm Z<|Zk Z<|Zk Z<|Zq (pkF Z Z)<|Zm Z<|Zk Z<|Zk Z<|Zk Z<|Zq (pkF Z Z)<|Zm Z<|Zk Z<|Zk Z<|Zq (pkF Z Z)<|Zm Z<|Zk Z<|Zk Z<|Zq (pkF Z Z)<|Zb Z<|A5<|Ze [] [1001] Z
 ·refine Ac 19 Z O<|Ac 2 Z O<|Ac 60 Z O<|Zk Z<|Zk Z<|Zq (pkF Z Z)<|Zm Z<|Zk Z<|Zk Z<|Zk Z<|Zq (pkF Z Z)<|Zm Z<|Zk Z<|Zk Z<|Zq (pkF Z Z)<|Zm Z<|Zk Z<|Zk Z<|Zk Z<|Zk Z<|Zk Z<|Zk Z<|Zq (pkF Z Z)<|Zm Z<|Zk Z<|Zk Z<|Zq (pkF Z Z)<|Zm Z<|Zk Z<|Zk Z<|Zk Z<|Zq (pkF Z Z)<|Zm Z<|Zk Z<|Zq (pkF Z Z)<|Zm Z<|Zk Z<|Zk Z<|Zq (pkF Z Z)<|Zm Z<|Zk Z<|Zk Z<|Zk Z<|Zq (pkF Z Z)<|Zm Z<|Zk Z<|Zk Z<|Zq (pkF Z Z)<|Zm Z<|Zk Z<|Zk Z<|Zq (pkF Z Z)<|Zb Z<|A5<|Ze [] [1001] Z
def Fd (a0:List A4) (M:Int):Option (Sum (Sum Bool Unit) Int) :=
 if decide (M<(a0.length:Int)) then
  if decide (M<=10) then
   idx a0 M>>=λO =>
   GN O>>=λU =>
   if U then
    some (.inl (.inl true))
   else
    some (.inr (w64 (M+1)))
  else
   some (.inl (.inr ()))
 else
  some (.inl (.inr ()))
def HG (a0:List A4):Option (Bool) :=
 Bi (iter (Fd a0) 0) λs1 =>
 some (decide (10<(a0.length:Int)))>>=λM =>
 some M
theorem zke (a0:List A4):Aj Tryz.prog 20 [.rd (A3 A8) a0] [] (HG a0) (λr nv=>⟨[.rd Ai r],[]⟩):=by
 refine Aq 22 func20 Z Z Z λH w=>?_;refine A0<|Zb Z<|Bt (λ(s1:Unit) M O=>Sta (ctx 22 H [] w) [(0,.rd (A3 A8) a0)] [] M O) ?_ (λs1=>?_)
 ·refine A0<|Zb Z<|AJ (λ(s2:Int) M O=>Sta (ctx 22 H [] w) [(0,.rd (A3 A8) a0),(3,.rd A2 s2)] [] M O) (λM O h=>Zu h []) (λs2=>?_);refine A9<|A0<|Zm Z<|Zm Z<|Zq (Ar Z .rd Z tu22)<|Zq (I.lss Z Z)<|Zm Z<|AY 8 Z (λh3=>?_) (λh3=>?_)
  ·refine Ac 7 Z h3<|Ab Zx Z Z (mv Z)<|Ab Zx Z Z (I.leq Z Z)<|Zq (pkT Z Z)<|Zj Z (λU=>?_) (λU=>?_)
   ·refine gKn 10 Z U<|Zt<|A9<|AD<|A0<|Zm Z<|Zm Z<|An λx5 h6=>Zq (ixR Z Z h6 tu22 Aw Z)<|Zq (ldR Z AH)<|Zc [] [] func39 Z (zla _) λr7 n8=>Zj Z (λh9=>?_) (λh9=>?_)
    ·refine A0<|Zb Z<|A5<|B7<|Ap<|Bp<|Bl<|Ze [] [] Z
    ·refine AU<|Au<|Ak<|Al<|Zm Z<|Zq (I.add Z Z)<|Za Z<|Ah<|AB (λM O h=>Zu h [])
   ·refine gKn 10 Z U<|AF<|AG<|AI<|Bk (λM O h=>Zu h [])
  ·refine Ac 7 Z h3<|Zk Z<|Zk Z<|Zq (pkF Z Z)<|Zn<|DL Z<|AF<|AG<|AI<|Bk (λM O h=>Zu h [])
 ·refine A0<|Zm Z<|Zq (Ar Z .rd Z tu22)<|Zq (I.gtr Z Z)<|Za Z<|AR 2 Z λa1=>Zn<|A5<|Ze [] [] Z
def HH (a0:A4) (O:A4) (M:Int):Option (Sum (Sum Bool Unit) Int) :=
 if decide (M<(a0.IDs.length:Int)) then
  idx a0.IDs M>>=λx6 =>
  G1 O.IDs x6>>=λU =>
  if decide (0<=U) then
   idx a0.Ops M>>=λa2 =>
   idx O.Ops U>>=λa6 =>
   HA a2 a6>>=λa7 =>
   if !a7 then
    some (.inl (.inl true))
   else
    some (.inr (w64 (M+1)))
  else
   some (.inr (w64 (M+1)))
 else
  some (.inl (.inr ()))
def Nd (a0:A4) (M:A4):Option (Bool) :=
 Bi (iter (HH a0 M) 0) λs3 =>
 some false
theorem zkm (a0:A4) (a1:A4):Aj Tryz.prog 41 [.rd A8 a0,.rd A8 a1] [] (Nd a0 a1) (λr nv=>⟨[.rd Ai r],[]⟩):=by
 refine Aq 38 func41 Z Z Z λH w=>?_;refine A0<|Eb Z (bx 1 Z) λv1=>Eb Z (bx 2 Z) λv2=>Zb Z<|Bt (λ(s3:Unit) M O=>Sta (ctx 38 H [] w) [] [] M O) ?_ (λs3=>?_)
 ·refine A0<|Zb Z<|AJ (λ(s4:Int) M O=>Sta (ctx 38 H [] w) [(2,.val (A7 v1 0)),(3,.val (A7 v2 0)),(5,.rd A2 s4)] [(1,some (v1,.box 34 [.rd A8 a0])),(2,some (v2,.box 34 [.rd A8 a1]))] M O) (λM O h=>Zu h [1,2]) (λs4=>?_);refine A9<|A0<|Zm Z<|Zq (faB 1 Z Z underlying34 Z (by exact B2))<|Zq (ld 1 Z Z (fP (BT _)) B8 Z)<|Zq (Ar Z .rd Z tu31)<|Zq (I.lss Z Z)<|Zj Z (λh5=>?_) (λh5=>?_)
  ·refine Zt<|A9<|AD<|A9<|BK [] mixed Z Z<|A6 0 Z Z (faB 2 Z Z underlying34 Z (by exact B2))<|A6 1 Z Z (ld 2 Z Z (fP (BT _)) B8 Z)<|A6 2 Z Z (faB 1 Z Z underlying34 Z (by exact B2))<|A6 3 Z Z (ld 1 Z Z (fP (BT _)) B8 Z)<|A6 4 Z Z (mv Z)<|BA λx6 h7=>A6 5 Z Z (ixR Z Z h7 tu31 Ax Z)<|A6 6 Z Z (ldR Z AN)<|BH 7 [] [] Z (by kernel_rfl) Z (gd0 Z) Z func67 Z Z (Tl _ _) (Y2 Z Z) rN Z (λ_ _=>Cr) λr8 n9=>A6 8 Z Z (asg Z)<|Bg (by kernel_rfl)<|Ak<|A9<|BK [] mixed Z Z<|A6 0 Z Z (mv Z)<|A6 1 Z Z (I.geq Z Z)<|A6 2 Z Z (mv Z)<|hIf 24 Z Z (λU=>?_) (λU=>?_)
   ·refine hKn 23 Z Z U<|Zg 3 Z Z (faB 1 Z Z underlying34 Z (by exact Bq))<|Zg 4 Z Z (ld 1 Z Z (fP (BN _)) BL Z)<|Zg 5 Z Z (mv Z)<|BA λa8 a6=>Zg 6 Z Z (ixR Z Z a6 tu32 B4 Z)<|Zg 7 Z Z (ldR Z Bz)<|Zg 8 Z Z (faB 2 Z Z underlying34 Z (by exact Bq))<|Zg 9 Z Z (ld 2 Z Z (fP (BN _)) BL Z)<|Zg 10 Z Z (mv Z)<|BA λab a7=>Zg 11 Z Z (ixR Z Z a7 tu32 B4 Z)<|Zg 12 Z Z (ldR Z Bz)<|BH 13 [] [] Z (by kernel_rfl) Z Zx Z func30 Z Z (U6 _ _) (Y2 Z Z) rN Z (λ_ _=>DD) λac ad=>Zg 14 Z Z (By Z)<|A6 15 Z Z (pkT Z Z)<|Bg (by kernel_rfl)<|Ak<|gIf Z Z (λa2=>?_) (λa2=>?_)
    ·refine gKn 36 Z a2<|A0<|Zb Z<|A5<|B7<|Ap<|Bp<|Bl<|Ze [] [] Z
    ·refine gKn 36 Z a2<|AU<|Au<|Ak<|Al<|Zm Z<|Zq (I.add Z Z)<|Za Z<|Ah<|AB (λM O h=>Zu h [1,2])
   ·refine hKn 23 Z Z U<|hSk 3 Z Z<|hSk 4 Z Z<|hSk 5 Z Z<|hSk 6 Z Z<|hSk 7 Z Z<|hSk 8 Z Z<|hSk 9 Z Z<|hSk 10 Z Z<|hSk 11 Z Z<|hSk 12 Z Z<|hSk 13 Z Z<|hSk 14 Z Z<|A6 15 Z Z (pkF Z Z)<|Bg (by kernel_rfl)<|Ak<|DL Z<|AU<|Au<|Ak<|Al<|Zm Z<|Zq (I.add Z Z)<|Za Z<|Ah<|AB (λM O h=>Zu h [1,2])
  ·refine AF<|AG<|AI<|Bk (λM O h=>Zu h [])
 ·refine A0<|Zb Z<|A5<|Ze [] [] Z
def IR (a0:List A4) (M:Int):Option (Sum (Sum Int Unit) Int) :=
 if decide (M<(a0.length:Int)) then
  idx a0 M>>=λU =>
  IB U>>=λO =>
  if O != 0 then
   some (.inl (.inl O))
  else
   some (.inr (w64 (M+1)))
 else
  some (.inl (.inr ()))
def IS (a0:List A4) (O:Int) (M:Int):Option (Sum (Sum (Sum (Sum Int Unit) Int) Unit) Int) :=
 if decide (M<O) then
  idx a0 O>>=λU =>
  idx a0 M>>=λa1 =>
  Nd U a1>>=λa2 =>
  if a2 then
   some (.inl (.inl (.inl (.inl 14))))
  else
   some (w64 (M+1))>>=λa6 =>
   some (.inr a6)
 else
  some (.inl (.inr ()))
def KM (a0:List A4) (M:Int):Option (Sum (Sum Int Unit) Int) :=
 if decide (M<(a0.length:Int)) then
  Bi (iter (IS a0 M) 0) λa1 =>
  some (w64 (M+1))>>=λO =>
  some (.inr O)
 else
  some (.inl (.inr ()))
def HI (a0:List A4):Option (Int) :=
 if decide (5<(a0.length:Int)) then
  some 4
 else
  Bi (iter (IR a0) 0) λs2 =>
  Bi (iter (KM a0) 0) λa1 =>
  some 0
theorem zki (a0:List A4):Aj Tryz.prog 21 [.rd (A3 A8) a0] [] (HI a0) (λr nv=>⟨[.rd A2 r],[]⟩):=by
 refine Aq 44 func21 Z Z Z λH w=>?_;refine A0<|Zb Z<|A9<|A0<|Zm Z<|Zq (Ar Z .rd Z tu22)<|Zq (I.gtr Z Z)<|Zj Z (λh1=>?_) (λh1=>?_)
 ·refine A0<|Zb Z<|A5<|Ap<|Ze [] [] Z
 ·refine Zt<|Bt (λ(s2:Unit) M O=>Sta (ctx 44 H [] w) [(0,.rd (A3 A8) a0)] [] M O) ?_ (λs2=>?_)
  ·refine A0<|Zb Z<|AJ (λ(s3:Int) M O=>Sta (ctx 44 H [] w) [(0,.rd (A3 A8) a0),(3,.rd A2 s3)] [] M O) (λM O h=>Zu h []) (λs3=>?_);refine A9<|A0<|Zm Z<|Zm Z<|Zq (Ar Z .rd Z tu22)<|Zq (I.lss Z Z)<|Zj Z (λh4=>?_) (λh4=>?_)
   ·refine Zt<|A9<|AD<|A0<|Zm Z<|Zm Z<|An λx5 h6=>Zq (ixR Z Z h6 tu22 Aw Z)<|Zq (ldR Z AH)<|Zc [] [] func40 Z (zkg _) λr7 n8=>Zb Z<|A0<|Zm Z<|Zq (I.neq Z Z)<|Zj Z (λh9=>?_) (λh9=>?_)
    ·refine A0<|Zm Z<|Zb Z<|A5<|B7<|Ap<|Bp<|Bl<|Ze [] [] Z
    ·refine AU<|Au<|Ak<|Al<|Zm Z<|Zq (I.add Z Z)<|Za Z<|Ah<|AB (λM O h=>Zu h [])
   ·refine AF<|AG<|AI<|Bk (λM O h=>Zu h [])
  ·refine Bt (λ(a2:Unit) M O=>Sta (ctx 44 H [] w) [] [] M O) ?_ (λa2=>?_)
   ·refine A0<|Zb Z<|AJ (λ(U:Int) M O=>Sta (ctx 44 H [] w) [(0,.rd (A3 A8) a0),(5,.rd A2 U)] [] M O) (λM O h=>Zu h []) (λU=>?_);refine A9<|A0<|Zm Z<|Zm Z<|Zq (Ar Z .rd Z tu22)<|Zq (I.lss Z Z)<|Zj Z (λa6=>?_) (λa6=>?_)
    ·refine Zt<|Bt (λ(a7:Unit) M O=>Sta (ctx 44 H [] w) [(0,.rd (A3 A8) a0),(5,.rd A2 U)] [] M O) ?_ (λa7=>?_)
     ·refine AD<|A0<|Zb Z<|AJ (λ(a1:Int) M O=>Sta (ctx 44 H [] w) [(0,.rd (A3 A8) a0),(5,.rd A2 U),(6,.rd A2 a1)] [] M O) (λM O h=>Zu h []) (λa1=>?_);refine A9<|A0<|Zm Z<|Zm Z<|Zq (I.lss Z Z)<|Zj Z (λa8=>?_) (λa8=>?_)
      ·refine Zt<|A9<|AD<|A9<|BK [] mixed Z Z<|A6 0 Z Z (mv Z)<|A6 1 Z Z (mv Z)<|BA λae ab=>A6 2 Z Z (ixR Z Z ab tu22 Aw Z)<|A6 3 Z Z (ldR Z AH)<|A6 4 Z Z (mv Z)<|A6 5 Z Z (mv Z)<|BA λaf ac=>A6 6 Z Z (ixR Z Z ac tu22 Aw Z)<|A6 7 Z Z (ldR Z AH)<|BH 8 [] [] Z (by kernel_rfl) Z (gd0 Z) Z func41 Z Z (zkm _ _) (Y2 Z Z) rN Z (λ_ _=>DD) λah ai=>Bg (by kernel_rfl)<|Ak<|gIf Z Z (λad=>?_) (λad=>?_)
       ·refine A0<|Zb Z<|A5<|B7<|Ap<|Bp<|B7<|Bl<|Bp<|Bl<|Ze [] [] Z
       ·refine AU<|Au<|Ak<|Al<|Zm Z<|Zq (I.add Z Z)<|Za Z<|AR 6 Z λaj=>Ah<|AB (λM O h=>Zu h [])
      ·refine AF<|AG<|AI<|Au<|Bk (λM O h=>Zu h [])
     ·refine Al<|Zm Z<|Zq (I.add Z Z)<|Za Z<|AR 5 Z λak=>Ah<|AB (λM O h=>Zu h [])
    ·refine AF<|AG<|AI<|Bk (λM O h=>Zu h [])
   ·refine A0<|Zb Z<|A5<|Ze [] [] Z
def Pm (a0:List A4):Option (Bool) :=
 HG a0>>=λM =>
 if !M then
  HI a0>>=λO =>
  some (O==0)
 else
  some false
theorem zn3 (a0:List A4):Aj Tryz.prog 5 [.rd (A3 A8) a0] [] (Pm a0) (λr nv=>⟨[.rd Ai r],[]⟩):=by
 refine Aq 11 func5 Z Z Z λH w=>?_;refine A0<|Zb Z<|A0<|Zm Z<|Zc [] [] func20 Z (zke _) λr1 n2=>Zq (By Z)<|Zm Z<|AY 6 Z (λh3=>?_) (λh3=>?_)
 ·refine Ac 5 Z h3<|Ab Zx Z Z (mv Z)<|CH [] [] Zx Z func21 Z Z (zki _) (Y1 Z) rN λr4 n5=>Ab Zx Z Z (I.eql Z Z)<|Zq (pkT Z Z)<|Zb Z<|A5<|Ze [] [] Z
 ·refine Ac 5 Z h3<|Zk Z<|Zk Z<|Zk Z<|Zq (pkF Z Z)<|Zb Z<|A5<|Ze [] [] Z
def KN (a0:Int) (M:AX):Option (Bool) :=
 if decide (0<=M.A) then
  if decide (M.A<a0) then
   if decide (0<=M.B) then
    if decide (M.B<a0) then
     some (M.A != M.B)
    else
     some false
   else
    some false
  else
   some false
 else
  some false
theorem Ug (a0:Int) (U:AX):Aj Tryz.prog 6 [.rd A2 a0,.rd Bn U] [] (KN a0 U) (λr nv=>⟨[.rd Ai r],[]⟩):=by
 refine Aq 32 func6 Z Z Z λH w=>?_;refine A0<|Eb Z (bx 1 Z) λv1=>Zb Z<|A0<|Zq (faB 1 Z Z underlying24 Z (by exact ti3))<|Zq (ld 1 Z Z (fP (CT _)) ty3 Z)<|Zq (I.geq Z Z)<|Zm Z<|AY 8 Z (λh2=>?_) (λh2=>?_)
 ·refine Ac 7 Z h2<|Ab Zx Z Z (faB 1 Z Z underlying24 Z (by exact ti3))<|Ab Zx Z Z (ld 1 Z Z (fP (CT _)) ty3 Z)<|Ab Zx Z Z (mv Z)<|Ab Zx Z Z (I.lss Z Z)<|Zq (pkT Z Z)<|Zm Z<|AY 14 Z (λh3=>?_) (λh3=>?_)
  ·refine Ac 12 Z h3<|Ac 13 Z h3<|Ab Zx Z Z (faB 1 Z Z underlying24 Z (by exact ti3))<|Ab Zx Z Z (ld 1 Z Z (fP (D3 _)) ty3 Z)<|Ab Zx Z Z (I.geq Z Z)<|Zq (pkT Z Z)<|Zm Z<|AY 19 Z (λM=>?_) (λM=>?_)
   ·refine Ac 17 Z M<|Ac 18 Z M<|Ab Zx Z Z (faB 1 Z Z underlying24 Z (by exact ti3))<|Ab Zx Z Z (ld 1 Z Z (fP (D3 _)) ty3 Z)<|Ab Zx Z Z (mv Z)<|Ab Zx Z Z (I.lss Z Z)<|Zq (pkT Z Z)<|Zm Z<|AY 25 Z (λO=>?_) (λO=>?_)
    ·refine Ac 23 Z O<|Ac 24 Z O<|Ab Zx Z Z (faB 1 Z Z underlying24 Z (by exact ti3))<|Ab Zx Z Z (ld 1 Z Z (fP (CT _)) ty3 Z)<|Ab Zx Z Z (faB 1 Z Z underlying24 Z (by exact ti3))<|Ab Zx Z Z (ld 1 Z Z (fP (D3 _)) ty3 Z)<|Ab Zx Z Z (I.neq Z Z)<|Zq (pkT Z Z)<|Zb Z<|A5<|Ze [] [] Z
    ·refine Ac 23 Z O<|Ac 24 Z O<|Zk Z<|Zk Z<|Zk Z<|Zk Z<|Zk Z<|Zq (pkF Z Z)<|Zb Z<|A5<|Ze [] [] Z
   ·refine Ac 17 Z M<|Ac 18 Z M<|Zk Z<|Zk Z<|Zk Z<|Zk Z<|Zq (pkF Z Z)<|Zm Z<|Zk Z<|Zk Z<|Zk Z<|Zk Z<|Zk Z<|Zq (pkF Z Z)<|Zb Z<|A5<|Ze [] [] Z
  ·refine Ac 12 Z h3<|Ac 13 Z h3<|Zk Z<|Zk Z<|Zk Z<|Zq (pkF Z Z)<|Zm Z<|Zk Z<|Zk Z<|Zk Z<|Zk Z<|Zq (pkF Z Z)<|Zm Z<|Zk Z<|Zk Z<|Zk Z<|Zk Z<|Zk Z<|Zq (pkF Z Z)<|Zb Z<|A5<|Ze [] [] Z
 ·refine Ac 7 Z h2<|Zk Z<|Zk Z<|Zk Z<|Zk Z<|Zq (pkF Z Z)<|Zm Z<|Zk Z<|Zk Z<|Zk Z<|Zq (pkF Z Z)<|Zm Z<|Zk Z<|Zk Z<|Zk Z<|Zk Z<|Zq (pkF Z Z)<|Zm Z<|Zk Z<|Zk Z<|Zk Z<|Zk Z<|Zk Z<|Zq (pkF Z Z)<|Zb Z<|A5<|Ze [] [] Z
def Gd (a0:List A4) (O:AX):Option ((List A4) × Int) :=
 GR a0 [O]>>=λM =>
 some (M.1,M.2)
theorem Pn (a0:List A4) (M:AX):Aj Tryz.prog 7 [.rd (A3 A8) a0,.rd Bn M] [Am] (Gd a0 M) (λr O=>⟨[.val (O 0),.rd A2 r.2],[(1001,some (.bool true,.glob 1 (Av 64 Aa) Bv)),(100,some (O 0,.list A8 34 r.1))]⟩):=by
 refine Aq 12 func7 Z Z Z λH w=>?_;refine A0<|Eb Z (bx 1 Z) λv1=>Za Z<|Zb Z<|A0<|Zm Z<|Zq (ld 1 Z Z fH DM Z)<|Ef Z (lit (R:=Bn) ([M]:List AX) 2 (pP Z Z<|pN) Z tu42 Db Z Z) λv2=>BG 2 [8] Z (fS Z<|fN)<|Zc [1001] [(100,3)] func12 Z (Pg _ _) λr3 U=>Zq (ext Z Z)<|Zq (ext Z Z)<|Za Z<|Zb Z<|A5<|Ze [(U 0)] [1001,3] Z
def KO (a0:List V3) (O:V3) (M:Int):Option (Sum (Sum Int Unit) Int) :=
 if decide (M<(a0.length:Int)) then
  idx a0 M>>=λU =>
  if decide (O=U) then
   some (.inl (.inl M))
  else
   some (.inr (w64 (M+1)))
 else
  some (.inl (.inr ()))
def Po (a0:List V3) (M:V3):Option (Int) :=
 Bi (iter (KO a0 M) 0) λs2 =>
 some (-1)
theorem ze0 (a0:List V3) (U:V3):Aj Tryz.prog 81 [.rd (A3 aZ) a0,.rd aZ U] [] (Po a0 U) (λr nv=>⟨[.rd A2 r],[]⟩):=by
 refine Aq 19 func81 Z Z Z λH w=>?_;refine A0<|Eb Z (bx 1 Z) λv1=>Zb Z<|Bt (λ(s2:Unit) M O=>Sta (ctx 19 H [] w) [] [] M O) ?_ (λs2=>?_)
 ·refine A0<|Zm Z<|Zq (Ar Z .rd Z tu31)<|Zm Z<|Zn<|AJ (λ(s3:Int) M O=>Sta (ctx 19 H [] w) [(0,.rd (A3 aZ) a0),(3,.val (A7 v1 0)),(7,.rd A2 (a0.length:Int)),(8,.rd A2 s3)] [(1,some (v1,.box 61 [.rd aZ U]))] M O) (λM O h=>Zu h [1]) (λs3=>?_);refine A0<|Zq (I.lss Z Z)<|Zn<|A9<|gIf Z Z (λh4=>?_) (λh4=>?_)
  ·refine Zt<|A9<|AD<|A0<|Zm Z<|Zb Z<|A9<|Dr mixed (by kernel_rfl)<|Rq Z (ld 1 Z Z fH AN Z)<|Rq Z (mv Z)<|Rq Z (mv Z)<|BM λx5 h6=>Rq Z (ixR Z Z h6 tu31 Ax Z)<|Rq Z (ldR Z AN)<|Rq Z (eqA Z Z eq61 Z Z gq61)<|Ds<|Ak<|gIf Z Z (λh7=>?_) (λh7=>?_)
   ·refine A0<|Zm Z<|Zb Z<|A5<|B7<|Ap<|Bp<|Bl<|Ze [] [] Z
   ·refine AU<|Au<|Ak<|Al<|Zq (I.add Z Z)<|Zm Z<|Ah<|AB (λM O h=>Zu h [1])
  ·refine AF<|AG<|AI<|Bk (λM O h=>Zu h [])
 ·refine A0<|Zb Z<|A5<|Ze [] [] Z
def GS (a0:List V3) (M:V3):Option (Bool) :=
 Po a0 M>>=λO =>
 some (decide (0<=O))>>=λU =>
 some U
theorem KP (a0:List V3) (M:V3):Aj Tryz.prog 50 [.rd (A3 aZ) a0,.rd aZ M] [] (GS a0 M) (λr nv=>⟨[.rd Ai r],[]⟩):=by
 refine Aq 9 func50 Z Z Z λH w=>?_;refine A0<|Eb Z (bx 1 Z) λv1=>Zb Z<|A0<|Zm Z<|Zq (ld 1 Z Z fH AN Z)<|Zc [] [] func81 Z (ze0 _ _) λr2 n3=>Zq (I.geq Z Z)<|Za Z<|AR 4 Z λy4=>Zn<|A5<|Ze [] [] Z
def IT (a0:V3) (c1_0:A4):Option (Bool) :=
 GS c1_0.IDs a0>>=λM =>
 some M
theorem Uh (a0:V3) (p1_0:Value) (c1_0:A4):Aj Tryz.prog 77 [.rd aZ a0,.val (A7 p1_0 0)] [(1,some (p1_0,.box 34 [.rd A8 c1_0]))] (IT a0 c1_0) (λr nv=>⟨[.rd Ai r],[(1,some (p1_0,.box 34 [.rd A8 c1_0]))]⟩):=by
 refine Aq 8 func77 Z Z Z λH w=>?_;refine A0<|Eb Z (bx 2 Z) λv1=>Zb Z<|A0<|Zq (faB 1 Z Z underlying34 Z (by exact B2))<|Zq (ld 1 Z Z (fP (BT _)) B8 Z)<|Zq (ld 2 Z Z fH AN Z)<|Zc [] [] func50 Z (KP _ _) λr2 n3=>Zb Z<|A5<|Ze [] [1] Z
def z72 (a0:List V3) (c1_0:A4) (M:Int):Option (Sum (Sum Int Unit) Int) :=
 if decide (M<(a0.length:Int)) then
  idx a0 M>>=λO =>
  IT O c1_0>>=λU =>
  if U then
   some (.inl (.inl M))
  else
   some (.inr (w64 (M+1)))
 else
  some (.inl (.inr ()))
def Ui (a0:List V3) (c1_0:A4):Option (Int) :=
 Bi (iter (z72 a0 c1_0) 0) λs1 =>
 some (-1)
theorem z74 (a0:List V3) (M:Value) (l0:List V3) (p1_0:Value) (c1_0:A4):Aj Tryz.prog 116 [.vw aZ M l0 a0,.val (.func (.func 77) #[] #[A7 p1_0 0])] [(1,some (M,.list aZ 61 l0)),(2,some (p1_0,.box 34 [.rd A8 c1_0]))] (Ui a0 c1_0) (λr nv=>⟨[.rd A2 r],[(1,some (M,.list aZ 61 l0)),(2,some (p1_0,.box 34 [.rd A8 c1_0]))]⟩):=by
 refine Aq 19 func116 Z Z Z λH w=>?_;refine A0<|Zb Z<|Bt (λ(s1:Unit) O U=>Sta (ctx 19 H [(1,some (M,.list aZ 61 l0)),(2,some (p1_0,.box 34 [.rd A8 c1_0]))] w) [] [(1,some (M,.list aZ 61 l0)),(2,some (p1_0,.box 34 [.rd A8 c1_0]))] O U) ?_ (λs1=>?_)
 ·refine A0<|Zm Z<|Zq (Ar Z (.vw 1 Z) Z tu31)<|Zm Z<|Zn<|AJ (λ(s2:Int) O U=>Sta (ctx 19 H [(1,some (M,.list aZ 61 l0)),(2,some (p1_0,.box 34 [.rd A8 c1_0]))] w) [(0,.vw aZ M l0 a0),(1,.val (.func (.func 77) #[] #[A7 p1_0 0])),(7,.rd A2 (a0.length:Int)),(8,.rd A2 s2)] [(1,some (M,.list aZ 61 l0)),(2,some (p1_0,.box 34 [.rd A8 c1_0]))] O U) (λO U h=>Zu h [1,2]) (λs2=>?_);refine A0<|Zq (I.lss Z Z)<|Zn<|A9<|gIf Z Z (λh3=>?_) (λh3=>?_)
  ·refine Zt<|A9<|AD<|A0<|Zm Z<|Zb Z<|A0<|Zm Z<|Zm Z<|Zm Z<|An λx4 h5=>Zq (ixQ 1 Z Z Z h5 tu31 Ax)<|Zq (ldQ 1 Z Z AN Z)<|DC [2] [(1,2)] (gd0 Z) Z Z func77 Z Z (Uh _ _ _) (Y1 Z) (cQ 2 Z<|cN) (y1 Z) λr6 n7=>Zj Z (λh8=>?_) (λh8=>?_)
   ·refine A0<|Zm Z<|Zb Z<|A5<|B7<|Ap<|Bp<|Bl<|Ze [] [1,2] Z
   ·refine AU<|Au<|Ak<|Al<|Zq (I.add Z Z)<|Zm Z<|Ah<|AB (λO U h=>Zu h [1,2])
  ·refine AF<|AG<|AI<|Bk (λO U h=>Zu h [1,2])
 ·refine A0<|Zb Z<|A5<|Ze [] [1,2] Z
def z7t (c1_0:A4) (M:(List V3) × Int × Int):Option (Sum ((List V3) × Int) ((List V3) × Int × Int)) :=
 if decide (M.2.2<(M.1.length:Int)) then
  idx M.1 M.2.2>>=λO =>
  IT O c1_0>>=λU =>
  if !U then
   idx M.1 M.2.1>>=λa7 =>
   some (w64 (M.2.1+1))>>=λa1 =>
   some (w64 (M.2.2+1))>>=λa2 =>
   some (.inr (M.1.set (M.2.1:Int).toNat O,a1,a2))
  else
   some (w64 (M.2.2+1))>>=λa6 =>
   some (.inr (M.1,M.2.1,a6))
 else
  some (.inl (M.1,M.2.1))
def Nf (c0:List V3) (c1_0:A4):Option ((List V3)) :=
 Ui c0 c1_0>>=λO =>
 if O==(-1) then
  some c0
 else
  (iter (z7t c1_0) (c0,O,w64 (O+1)))>>=λM =>
  chk (0<=M.2/\M.2<=(M.1.length:Int)/\(M.1.length:Int)<=(M.1.length:Int))>>=λa1 =>
  chk ((M.2:Int).toNat+(((M.1.length:Int):Int).toNat - (M.2:Int).toNat)<=M.1.length)>>=λa2 =>
  cut (clr M.1 ((M.2:Int).toNat) (((M.1.length:Int):Int).toNat - (M.2:Int).toNat) (Vector.replicate 32 0)) 0 M.2>>=λU =>
  some U
theorem z7s (M:Value) (c0:List V3) (p1_0:Value) (c1_0:A4):Aj Tryz.prog 75 [.val M,.val (.func (.func 77) #[] #[A7 p1_0 0])] [(1,some (M,.list aZ 61 c0)),(2,some (p1_0,.box 34 [.rd A8 c1_0]))] (Nf c0 c1_0) (λr nv=>⟨[.val (nv 0)],[(2,some (p1_0,.box 34 [.rd A8 c1_0])),(100,some (nv 0,.list aZ 61 r))]⟩):=by
 refine Aq 42 func75 Z Z Z λH w=>?_;refine A0<|Zb Z<|A0<|Zm Z<|Zm Z<|call [1,2] [(1,1),(2,2)] Z func116 Z Z (z74 _ _ _ _ _) (aW Z<|aQ Z<|aN) (Zi Z<|Zi Z<|rN) λr1 n2=>Zb Z<|A9<|A0<|Zm Z<|Zq (I.eql Z Z)<|Zj Z (λh3=>?_) (λh3=>?_)
 ·refine A0<|Zm Z<|Zb Z<|A5<|Ap<|Ze [M] [2,1] Z
 ·refine Zt<|B6 (λ(s4:(List V3) × Int) O U=>Sta (ctx 42 H [(1,some (M,.list aZ 61 c0)),(2,some (p1_0,.box 34 [.rd A8 c1_0]))] w) [(0,.val M),(5,.rd A2 s4.2)] [(1,some (M,.list aZ 61 s4.1)),(2,some (p1_0,.box 34 [.rd A8 c1_0]))] O U) ?_ (λs4=>?_)
  ·refine A0<|Zm Z<|Zq (I.add Z Z)<|Zb Z<|AJ (λ(s5:(List V3) × Int × Int) O U=>Sta (ctx 42 H [(1,some (M,.list aZ 61 c0)),(2,some (p1_0,.box 34 [.rd A8 c1_0]))] w) [(0,.val M),(1,.val (.func (.func 77) #[] #[A7 p1_0 0])),(5,.rd A2 s5.2.1),(6,.rd A2 s5.2.2)] [(1,some (M,.list aZ 61 s5.1)),(2,some (p1_0,.box 34 [.rd A8 c1_0]))] O U) (λO U h=>Zu h [1,2]) (λs5=>?_);refine A9<|A0<|Zm Z<|Zm Z<|Zq (Ar Z (.own 1 Z) Z tu31)<|Zq (I.lss Z Z)<|Zj Z (λh6=>?_) (λh6=>?_)
   ·refine Zt<|A9<|AD<|A0<|Zm Z<|Zm Z<|An λx7 h8=>Zq (ixO 1 Z Z Z h8 tu31 Ax)<|Zq (ld 1 Z Z (Foc.el h8) AN Z)<|Eb Z (AL 3 Ax (.zr (R:=aZ) (x:=(Vector.replicate 32 0)) C0)) λv9=>Es (sto 3 Z Z fH Z Ax)<|Zn<|A0<|Zm Z<|Zq (ld 3 Z Z fH AN Z)<|DC [2] [(1,2)] (gd0 Z) Z Z func77 Z Z (Uh _ _ _) (Y1 Z) (cQ 2 Z<|cN) (y1 Z) λac ad=>Zq (By Z)<|Zj Z (λa2=>?_) (λa2=>?_)
    ·refine A0<|Zm Z<|Zm Z<|Zq (ld 3 Z Z fH AN Z)<|An λae a1=>Zq (ixO 1 Z Z Z a1 tu31 Ax)<|Es (sto 1 Z Z (Foc.el a1) Z Ax)<|Zn<|Al<|Zm Z<|Zq (I.add Z Z)<|Za Z<|AR 5 Z λaf=>Ah<|Au<|Ak<|Al<|Zm Z<|Zq (I.add Z Z)<|Za Z<|AR 6 Z λah=>Ah<|AB (λO U h=>Zu h [1,2])
    ·refine AU<|Au<|Ak<|Al<|Zm Z<|Zq (I.add Z Z)<|Za Z<|AR 6 Z λai=>Ah<|AB (λO U h=>Zu h [1,2])
   ·refine AF<|AG<|AI<|AA (λO U h=>Zu h [1,2])
  ·refine A0<|Zm Z<|Zm Z<|An λaj a6=>Zq (Ie 1 Z Z (.to Z) .no (CI a6) tu31 Ax)<|An λak a7=>EsV (clrS 1 Z Z (CI a7) Z tu31 Ax C0 Z)<|Zn<|A0<|Zm Z<|Zm Z<|An λam a8=>Ef Z (cutO 1 Z Z Z a8 tu31 Ax) λab=>Zb Z<|A5<|Ze [ab] [2,1] Z
def Ng (a0:A4) (M:List V3):Option ((List V3)) :=
 DN M>>=λO =>
 Nf O a0>>=λU =>
 FF U>>=λr6 =>
 F0 r6>>=λr8 =>
 some r8
theorem zr0 (a0:A4) (M:List V3):Aj Tryz.prog 49 [.rd A8 a0,.rd (A3 aZ) M] [] (Ng a0 M) (λr O=>⟨[.val (O 0)],[(100,some (O 0,.list aZ 61 r))]⟩):=by
 refine Aq 14 func49 Z Z Z λH w=>?_;refine A0<|Eb Z (bx 1 Z) λv1=>Zb Z<|A0<|Zm Z<|Zc [] [(100,2)] func25 Z (EM _) λr2 n3=>Zq (mkf mp0 (mp1 Z))<|Zc [2,1] [(100,3),(2,1)] func75 Z (z7s _ _ _ _) λr4 n5=>Zb Z<|A0<|Zm Z<|Zc [3] [(1,3)] func78 Z (TU _ _) λr6 n7=>Zn<|A0<|Zm Z<|Zc [3] [(100,4)] func80 Z (Ju _ _) λr8 U=>Zb Z<|A5<|Ze [(U 0)] [4] Z
def IU (a0:V3) (c1_0:A4):Option (Bool) :=
 GS c1_0.IDs a0>>=λM =>
 some (!M)
theorem Uj (a0:V3) (p1_0:Value) (c1_0:A4):Aj Tryz.prog 112 [.rd aZ a0,.val (A7 p1_0 0)] [(1,some (p1_0,.box 34 [.rd A8 c1_0]))] (IU a0 c1_0) (λr nv=>⟨[.rd Ai r],[(1,some (p1_0,.box 34 [.rd A8 c1_0]))]⟩):=by
 refine Aq 9 func112 Z Z Z λH w=>?_;refine A0<|Eb Z (bx 2 Z) λv1=>Zb Z<|A0<|Zq (faB 1 Z Z underlying34 Z (by exact B2))<|Zq (ld 1 Z Z (fP (BT _)) B8 Z)<|Zq (ld 2 Z Z fH AN Z)<|Zc [] [] func50 Z (KP _ _) λr2 n3=>Zq (By Z)<|Zb Z<|A5<|Ze [] [1] Z
def z71 (a0:List V3) (c1_0:A4) (M:Int):Option (Sum (Sum Int Unit) Int) :=
 if decide (M<(a0.length:Int)) then
  idx a0 M>>=λO =>
  IU O c1_0>>=λU =>
  if U then
   some (.inl (.inl M))
  else
   some (.inr (w64 (M+1)))
 else
  some (.inl (.inr ()))
def Uk (a0:List V3) (c1_0:A4):Option (Int) :=
 Bi (iter (z71 a0 c1_0) 0) λs1 =>
 some (-1)
theorem z78 (a0:List V3) (M:Value) (l0:List V3) (p1_0:Value) (c1_0:A4):Aj Tryz.prog 116 [.vw aZ M l0 a0,.val (.func (.func 112) #[] #[A7 p1_0 0])] [(1,some (M,.list aZ 61 l0)),(2,some (p1_0,.box 34 [.rd A8 c1_0]))] (Uk a0 c1_0) (λr nv=>⟨[.rd A2 r],[(1,some (M,.list aZ 61 l0)),(2,some (p1_0,.box 34 [.rd A8 c1_0]))]⟩):=by
 refine Aq 19 func116 Z Z Z λH w=>?_;refine A0<|Zb Z<|Bt (λ(s1:Unit) O U=>Sta (ctx 19 H [(1,some (M,.list aZ 61 l0)),(2,some (p1_0,.box 34 [.rd A8 c1_0]))] w) [] [(1,some (M,.list aZ 61 l0)),(2,some (p1_0,.box 34 [.rd A8 c1_0]))] O U) ?_ (λs1=>?_)
 ·refine A0<|Zm Z<|Zq (Ar Z (.vw 1 Z) Z tu31)<|Zm Z<|Zn<|AJ (λ(s2:Int) O U=>Sta (ctx 19 H [(1,some (M,.list aZ 61 l0)),(2,some (p1_0,.box 34 [.rd A8 c1_0]))] w) [(0,.vw aZ M l0 a0),(1,.val (.func (.func 112) #[] #[A7 p1_0 0])),(7,.rd A2 (a0.length:Int)),(8,.rd A2 s2)] [(1,some (M,.list aZ 61 l0)),(2,some (p1_0,.box 34 [.rd A8 c1_0]))] O U) (λO U h=>Zu h [1,2]) (λs2=>?_);refine A0<|Zq (I.lss Z Z)<|Zn<|A9<|gIf Z Z (λh3=>?_) (λh3=>?_)
  ·refine Zt<|A9<|AD<|A0<|Zm Z<|Zb Z<|A0<|Zm Z<|Zm Z<|Zm Z<|An λx4 h5=>Zq (ixQ 1 Z Z Z h5 tu31 Ax)<|Zq (ldQ 1 Z Z AN Z)<|DC [2] [(1,2)] (gd0 Z) Z Z func112 Z Z (Uj _ _ _) (Y1 Z) (cQ 2 Z<|cN) (y1 Z) λr6 n7=>Zj Z (λh8=>?_) (λh8=>?_)
   ·refine A0<|Zm Z<|Zb Z<|A5<|B7<|Ap<|Bp<|Bl<|Ze [] [1,2] Z
   ·refine AU<|Au<|Ak<|Al<|Zq (I.add Z Z)<|Zm Z<|Ah<|AB (λO U h=>Zu h [1,2])
  ·refine AF<|AG<|AI<|Bk (λO U h=>Zu h [1,2])
 ·refine A0<|Zb Z<|A5<|Ze [] [1,2] Z
def z86 (c1_0:A4) (M:(List V3) × Int × Int):Option (Sum ((List V3) × Int) ((List V3) × Int × Int)) :=
 if decide (M.2.2<(M.1.length:Int)) then
  idx M.1 M.2.2>>=λO =>
  IU O c1_0>>=λU =>
  if !U then
   idx M.1 M.2.1>>=λa7 =>
   some (w64 (M.2.1+1))>>=λa1 =>
   some (w64 (M.2.2+1))>>=λa2 =>
   some (.inr (M.1.set (M.2.1:Int).toNat O,a1,a2))
  else
   some (w64 (M.2.2+1))>>=λa6 =>
   some (.inr (M.1,M.2.1,a6))
 else
  some (.inl (M.1,M.2.1))
def Nh (c0:List V3) (c1_0:A4):Option ((List V3)) :=
 Uk c0 c1_0>>=λO =>
 if O==(-1) then
  some c0
 else
  (iter (z86 c1_0) (c0,O,w64 (O+1)))>>=λM =>
  chk (0<=M.2/\M.2<=(M.1.length:Int)/\(M.1.length:Int)<=(M.1.length:Int))>>=λa1 =>
  chk ((M.2:Int).toNat+(((M.1.length:Int):Int).toNat - (M.2:Int).toNat)<=M.1.length)>>=λa2 =>
  cut (clr M.1 ((M.2:Int).toNat) (((M.1.length:Int):Int).toNat - (M.2:Int).toNat) (Vector.replicate 32 0)) 0 M.2>>=λU =>
  some U
theorem z80 (M:Value) (c0:List V3) (p1_0:Value) (c1_0:A4):Aj Tryz.prog 75 [.val M,.val (.func (.func 112) #[] #[A7 p1_0 0])] [(1,some (M,.list aZ 61 c0)),(2,some (p1_0,.box 34 [.rd A8 c1_0]))] (Nh c0 c1_0) (λr nv=>⟨[.val (nv 0)],[(2,some (p1_0,.box 34 [.rd A8 c1_0])),(100,some (nv 0,.list aZ 61 r))]⟩):=by
 refine Aq 42 func75 Z Z Z λH w=>?_;refine A0<|Zb Z<|A0<|Zm Z<|Zm Z<|call [1,2] [(1,1),(2,2)] Z func116 Z Z (z78 _ _ _ _ _) (aW Z<|aQ Z<|aN) (Zi Z<|Zi Z<|rN) λr1 n2=>Zb Z<|A9<|A0<|Zm Z<|Zq (I.eql Z Z)<|Zj Z (λh3=>?_) (λh3=>?_)
 ·refine A0<|Zm Z<|Zb Z<|A5<|Ap<|Ze [M] [2,1] Z
 ·refine Zt<|B6 (λ(s4:(List V3) × Int) O U=>Sta (ctx 42 H [(1,some (M,.list aZ 61 c0)),(2,some (p1_0,.box 34 [.rd A8 c1_0]))] w) [(0,.val M),(5,.rd A2 s4.2)] [(1,some (M,.list aZ 61 s4.1)),(2,some (p1_0,.box 34 [.rd A8 c1_0]))] O U) ?_ (λs4=>?_)
  ·refine A0<|Zm Z<|Zq (I.add Z Z)<|Zb Z<|AJ (λ(s5:(List V3) × Int × Int) O U=>Sta (ctx 42 H [(1,some (M,.list aZ 61 c0)),(2,some (p1_0,.box 34 [.rd A8 c1_0]))] w) [(0,.val M),(1,.val (.func (.func 112) #[] #[A7 p1_0 0])),(5,.rd A2 s5.2.1),(6,.rd A2 s5.2.2)] [(1,some (M,.list aZ 61 s5.1)),(2,some (p1_0,.box 34 [.rd A8 c1_0]))] O U) (λO U h=>Zu h [1,2]) (λs5=>?_);refine A9<|A0<|Zm Z<|Zm Z<|Zq (Ar Z (.own 1 Z) Z tu31)<|Zq (I.lss Z Z)<|Zj Z (λh6=>?_) (λh6=>?_)
   ·refine Zt<|A9<|AD<|A0<|Zm Z<|Zm Z<|An λx7 h8=>Zq (ixO 1 Z Z Z h8 tu31 Ax)<|Zq (ld 1 Z Z (Foc.el h8) AN Z)<|Eb Z (AL 3 Ax (.zr (R:=aZ) (x:=(Vector.replicate 32 0)) C0)) λv9=>Es (sto 3 Z Z fH Z Ax)<|Zn<|A0<|Zm Z<|Zq (ld 3 Z Z fH AN Z)<|DC [2] [(1,2)] (gd0 Z) Z Z func112 Z Z (Uj _ _ _) (Y1 Z) (cQ 2 Z<|cN) (y1 Z) λac ad=>Zq (By Z)<|Zj Z (λa2=>?_) (λa2=>?_)
    ·refine A0<|Zm Z<|Zm Z<|Zq (ld 3 Z Z fH AN Z)<|An λae a1=>Zq (ixO 1 Z Z Z a1 tu31 Ax)<|Es (sto 1 Z Z (Foc.el a1) Z Ax)<|Zn<|Al<|Zm Z<|Zq (I.add Z Z)<|Za Z<|AR 5 Z λaf=>Ah<|Au<|Ak<|Al<|Zm Z<|Zq (I.add Z Z)<|Za Z<|AR 6 Z λah=>Ah<|AB (λO U h=>Zu h [1,2])
    ·refine AU<|Au<|Ak<|Al<|Zm Z<|Zq (I.add Z Z)<|Za Z<|AR 6 Z λai=>Ah<|AB (λO U h=>Zu h [1,2])
   ·refine AF<|AG<|AI<|AA (λO U h=>Zu h [1,2])
  ·refine A0<|Zm Z<|Zm Z<|An λaj a6=>Zq (Ie 1 Z Z (.to Z) .no (CI a6) tu31 Ax)<|An λak a7=>EsV (clrS 1 Z Z (CI a7) Z tu31 Ax C0 Z)<|Zn<|A0<|Zm Z<|Zm Z<|An λam a8=>Ef Z (cutO 1 Z Z Z a8 tu31 Ax) λab=>Zb Z<|A5<|Ze [ab] [2,1] Z
def KQ (a0:A4) (O:List V3):Option ((List V3)) :=
 DN O>>=λU =>
 Nh U a0>>=λr4 =>
 FF r4>>=λr6 =>
 F0 r6>>=λr8 =>
 MW a0 r8>>=λM =>
 some M.1.IDs
theorem Ul (a0:A4) (M:List V3):Aj Tryz.prog 73 [.rd A8 a0,.rd (A3 aZ) M] [Am] (KQ a0 M) (λr nv=>⟨[.rd (A3 aZ) r],[(1001,some (.bool true,.glob 1 (Av 64 Aa) Bv))]⟩):=by
 refine Aq 23 func73 Z Z Z λH w=>?_;refine A0<|Eb Z (bx 1 Z) λv1=>Zb Z<|A0<|Zm Z<|Zc [] [(100,2)] func25 Z (EM _) λr2 n3=>Zq (mkf mp0 (mp1 Z))<|Zc [2,1] [(100,3),(2,1)] func75 Z (z80 _ _ _ _) λr4 n5=>Zb Z<|A0<|Zm Z<|Zc [3] [(1,3)] func78 Z (TU _ _) λr6 n7=>Zn<|A9<|BK [3,10,25,1001] mixed Z Z<|A6 0 Z Z (ld 1 Z Z fH AH Z)<|A6 1 Z Z (mv Z)<|hAlt [2,7] (by kernel_rfl) Z ⟨?_,?_,trivial⟩
 ·refine Lt 2 [3] [(100,10)] Z Z (gd0 Z) Z func80 Z Z (Ju _ _) (Y1 Z) (y1 Z) Z (λ_ _=>Ce) λr8 n9=>hAlt [3,7] (by kernel_rfl) Z ⟨?_,?_,trivial⟩
  ·refine oFrz 10 [17] Z (fS Z<|fN)<|XP 3 [1001] [] Z Z (gd0 Z) Z func113 Z Z (Pa _ _) (Y2 Z Z) (y1 Z) Z λa2 a6=>E4 4 Z (by kernel_rfl) (by kernel_rfl) (by kernel_rfl) (gd0 Z) Z Z (mv Z)<|E4 5 Z (by kernel_rfl) (by kernel_rfl) (by kernel_rfl) (gd0 Z) Z Z (ext Z Z)<|Zf 6 Z Z Cr (ext Z Z)<|hDoB 7 Z (by kernel_rfl) (gd0 Z) Z Z Z (AL 25 Aw (ZrE.nilS (ZrE.nilS ZrE.nil))) λa7=>DE aZ [.rd (A3 aZ) [],.val (.slice none 0 0)] 25 [] [.val (.slice none 0 0)] Z Z Z<|DE Ad [.rd (A3 aZ) [],.rd (A3 Ad) []] 25 [.rd (A3 aZ) []] [] Z Z Z<|hJoi (R:=A8) (⟨[],[]⟩:A4) 25 Z (Sp.via (Sp.prod (Sp.prod Sp.unit)))<|Zp 8 Z Z Z Z Z (sto 25 Z Z fH Z Aw)<|A6 9 Z Z (asg Z)<|Bg (by kernel_rfl)<|Ak<|A0<|Zq (faB 25 Z Z underlying34 Z (by exact B2))<|Zq (ld 25 Z Z (fP (BT _)) B8 Z)<|Zb Z<|A5<|Ze [] [1001] Z
  ·refine oDoB 7 Z (gd0 Z) Z Z Z (AL 25 Aw (ZrE.nilS (ZrE.nilS ZrE.nil))) λa8=>Em 10 [17] Z (fS Z<|fN)<|I5 3 [1001] [] Z (by kernel_rfl) Z (gd0 Z) Z func113 Z Z (Pa _ _) (Y2 Z Z) (y1 Z) Z λaa ab=>E4 4 Z (by kernel_rfl) (by kernel_rfl) (by kernel_rfl) (gd0 Z) Z Z (mv Z)<|E4 5 Z (by kernel_rfl) (by kernel_rfl) (by kernel_rfl) (gd0 Z) Z Z (ext Z Z)<|Zf 6 Z Z Cr (ext Z Z)<|DE aZ [.rd (A3 aZ) [],.val (.slice none 0 0)] 25 [] [.val (.slice none 0 0)] Z Z Z<|DE Ad [.rd (A3 aZ) [],.rd (A3 Ad) []] 25 [.rd (A3 aZ) []] [] Z Z Z<|hJoi (R:=A8) (⟨[],[]⟩:A4) 25 Z (Sp.via (Sp.prod (Sp.prod Sp.unit)))<|Zp 8 Z Z Z Z Z (sto 25 Z Z fH Z Aw)<|A6 9 Z Z (asg Z)<|Bg (by kernel_rfl)<|Ak<|A0<|Zq (faB 25 Z Z underlying34 Z (by exact B2))<|Zq (ld 25 Z Z (fP (BT _)) B8 Z)<|Zb Z<|A5<|Ze [] [1001] Z
 ·refine oDoB 7 Z (gd0 Z) Z Z Z (AL 25 Aw (ZrE.nilS (ZrE.nilS ZrE.nil))) λac=>BH 2 [3] [(100,10)] Z (by kernel_rfl) Z (gd0 Z) Z func80 Z Z (Ju _ _) (Y1 Z) (y1 Z) Z (λ_ _=>Ce) λad ae=>Em 10 [17] Z (fS Z<|fN)<|I5 3 [1001] [] Z (by kernel_rfl) Z (gd0 Z) Z func113 Z Z (Pa _ _) (Y2 Z Z) (y1 Z) Z λaf ah=>E4 4 Z (by kernel_rfl) (by kernel_rfl) (by kernel_rfl) (gd0 Z) Z Z (mv Z)<|E4 5 Z (by kernel_rfl) (by kernel_rfl) (by kernel_rfl) (gd0 Z) Z Z (ext Z Z)<|Zf 6 Z Z Cr (ext Z Z)<|DE aZ [.rd (A3 aZ) [],.val (.slice none 0 0)] 25 [] [.val (.slice none 0 0)] Z Z Z<|DE Ad [.rd (A3 aZ) [],.rd (A3 Ad) []] 25 [.rd (A3 aZ) []] [] Z Z Z<|hJoi (R:=A8) (⟨[],[]⟩:A4) 25 Z (Sp.via (Sp.prod (Sp.prod Sp.unit)))<|Zp 8 Z Z Z Z Z (sto 25 Z Z fH Z Aw)<|A6 9 Z Z (asg Z)<|Bg (by kernel_rfl)<|Ak<|A0<|Zq (faB 25 Z Z underlying34 Z (by exact B2))<|Zq (ld 25 Z Z (fP (BT _)) B8 Z)<|Zb Z<|A5<|Ze [] [1001] Z
def IV (a0:V3) (c1_0:List V3) (c2_0:List V3):Option (Bool) :=
 GS c1_0 a0>>=λM =>
 if !M then
  some true
 else
  GS c2_0 a0>>=λO =>
  some O
theorem Um (a0:V3) (p1_0:Value) (c1_0:List V3) (p2_0:Value) (c2_0:List V3):Aj Tryz.prog 76 [.rd aZ a0,.val (A7 p1_0 0),.val (A7 p2_0 0)] [(1,some (p1_0,.box 31 [.rd (A3 aZ) c1_0])),(2,some (p2_0,.box 31 [.rd (A3 aZ) c2_0]))] (IV a0 c1_0 c2_0) (λr nv=>⟨[.rd Ai r],[(1,some (p1_0,.box 31 [.rd (A3 aZ) c1_0])),(2,some (p2_0,.box 31 [.rd (A3 aZ) c2_0]))]⟩):=by
 refine Aq 14 func76 Z Z Z λH w=>?_;refine A0<|Eb Z (bx 3 Z) λv1=>Zb Z<|A0<|Zq (ld 1 Z Z fH B8 Z)<|Zq (ld 3 Z Z fH AN Z)<|Zc [] [] func50 Z (KP _ _) λr2 n3=>Zq (By Z)<|Zm Z<|AY 9 Z (λM=>?_) (λM=>?_)
 ·refine Ac 8 Z M<|Zk Z<|Zk Z<|Zk Z<|Zq (pkT Z Z)<|Zb Z<|A5<|Ze [] [1,2] Z
 ·refine Ac 8 Z M<|Ab Zx Z Z (ld 2 Z Z fH B8 Z)<|Ab Zx Z Z (ld 3 Z Z fH AN Z)<|CH [] [] Zx Z func50 Z Z (KP _ _) (Y2 Z Z) rN λr5 n6=>Zq (pkF Z Z)<|Zb Z<|A5<|Ze [] [1,2] Z
def z7h (a0:List V3) (c1_0:List V3) (c1_1:List V3) (M:Int):Option (Sum (Sum Int Unit) Int) :=
 if decide (M<(a0.length:Int)) then
  idx a0 M>>=λO =>
  IV O c1_0 c1_1>>=λU =>
  if U then
   some (.inl (.inl M))
  else
   some (.inr (w64 (M+1)))
 else
  some (.inl (.inr ()))
def Un (a0:List V3) (c1_0:List V3) (c1_1:List V3):Option (Int) :=
 Bi (iter (z7h a0 c1_0 c1_1) 0) λs1 =>
 some (-1)
theorem z7i (a0:List V3) (M:Value) (l0:List V3) (p1_0:Value) (c1_0:List V3) (p1_1:Value) (c1_1:List V3):Aj Tryz.prog 116 [.vw aZ M l0 a0,.val (.func (.func 76) #[] #[A7 p1_0 0,A7 p1_1 0])] [(1,some (M,.list aZ 61 l0)),(2,some (p1_0,.box 31 [.rd (A3 aZ) c1_0])),(3,some (p1_1,.box 31 [.rd (A3 aZ) c1_1]))] (Un a0 c1_0 c1_1) (λr nv=>⟨[.rd A2 r],[(1,some (M,.list aZ 61 l0)),(2,some (p1_0,.box 31 [.rd (A3 aZ) c1_0])),(3,some (p1_1,.box 31 [.rd (A3 aZ) c1_1]))]⟩):=by
 refine Aq 19 func116 Z Z Z λH w=>?_;refine A0<|Zb Z<|Bt (λ(s1:Unit) O U=>Sta (ctx 19 H [(1,some (M,.list aZ 61 l0)),(2,some (p1_0,.box 31 [.rd (A3 aZ) c1_0])),(3,some (p1_1,.box 31 [.rd (A3 aZ) c1_1]))] w) [] [(1,some (M,.list aZ 61 l0)),(2,some (p1_0,.box 31 [.rd (A3 aZ) c1_0])),(3,some (p1_1,.box 31 [.rd (A3 aZ) c1_1]))] O U) ?_ (λs1=>?_)
 ·refine A0<|Zm Z<|Zq (Ar Z (.vw 1 Z) Z tu31)<|Zm Z<|Zn<|AJ (λ(s2:Int) O U=>Sta (ctx 19 H [(1,some (M,.list aZ 61 l0)),(2,some (p1_0,.box 31 [.rd (A3 aZ) c1_0])),(3,some (p1_1,.box 31 [.rd (A3 aZ) c1_1]))] w) [(0,.vw aZ M l0 a0),(1,.val (.func (.func 76) #[] #[A7 p1_0 0,A7 p1_1 0])),(7,.rd A2 (a0.length:Int)),(8,.rd A2 s2)] [(1,some (M,.list aZ 61 l0)),(2,some (p1_0,.box 31 [.rd (A3 aZ) c1_0])),(3,some (p1_1,.box 31 [.rd (A3 aZ) c1_1]))] O U) (λO U h=>Zu h [1,2,3]) (λs2=>?_)
  refine A0<|Zq (I.lss Z Z)<|Zn<|A9<|gIf Z Z (λh3=>?_) (λh3=>?_)
  ·refine Zt<|A9<|AD<|A0<|Zm Z<|Zb Z<|A0<|Zm Z<|Zm Z<|Zm Z<|An λx4 h5=>Zq (ixQ 1 Z Z Z h5 tu31 Ax)<|Zq (ldQ 1 Z Z AN Z)<|DC [2,3] [(1,2),(2,3)] (gd0 Z) Z Z func76 Z Z (Um _ _ _ _ _) (Y1 Z) (cQ 2 Z<|cQ 3 Z<|cN) (Zi Z<|Zi Z<|rN) λr6 n7=>Zj Z (λh8=>?_) (λh8=>?_)
   ·refine A0<|Zm Z<|Zb Z<|A5<|B7<|Ap<|Bp<|Bl<|Ze [] [1,2,3] Z
   ·refine AU<|Au<|Ak<|Al<|Zq (I.add Z Z)<|Zm Z<|Ah<|AB (λO U h=>Zu h [1,2,3])
  ·refine AF<|AG<|AI<|Bk (λO U h=>Zu h [1,2,3])
 ·refine A0<|Zb Z<|A5<|Ze [] [1,2,3] Z
def z8d (c1_0:List V3) (c1_1:List V3) (M:(List V3) × Int × Int):Option (Sum ((List V3) × Int) ((List V3) × Int × Int)) :=
 if decide (M.2.2<(M.1.length:Int)) then
  idx M.1 M.2.2>>=λO =>
  IV O c1_0 c1_1>>=λU =>
  if !U then
   idx M.1 M.2.1>>=λa7 =>
   some (w64 (M.2.1+1))>>=λa1 =>
   some (w64 (M.2.2+1))>>=λa2 =>
   some (.inr (M.1.set (M.2.1:Int).toNat O,a1,a2))
  else
   some (w64 (M.2.2+1))>>=λa6 =>
   some (.inr (M.1,M.2.1,a6))
 else
  some (.inl (M.1,M.2.1))
def Pp (c0:List V3) (c1_0:List V3) (c1_1:List V3):Option ((List V3)) :=
 Un c0 c1_0 c1_1>>=λO =>
 if O==(-1) then
  some c0
 else
  (iter (z8d c1_0 c1_1) (c0,O,w64 (O+1)))>>=λM =>
  chk (0<=M.2/\M.2<=(M.1.length:Int)/\(M.1.length:Int)<=(M.1.length:Int))>>=λa1 =>
  chk ((M.2:Int).toNat+(((M.1.length:Int):Int).toNat - (M.2:Int).toNat)<=M.1.length)>>=λa2 =>
  cut (clr M.1 ((M.2:Int).toNat) (((M.1.length:Int):Int).toNat - (M.2:Int).toNat) (Vector.replicate 32 0)) 0 M.2>>=λU =>
  some U
end
section
theorem z8c (M:Value) (c0:List V3) (p1_0:Value) (c1_0:List V3) (p1_1:Value) (c1_1:List V3):Aj Tryz.prog 75 [.val M,.val (.func (.func 76) #[] #[A7 p1_0 0,A7 p1_1 0])] [(1,some (M,.list aZ 61 c0)),(2,some (p1_0,.box 31 [.rd (A3 aZ) c1_0])),(3,some (p1_1,.box 31 [.rd (A3 aZ) c1_1]))] (Pp c0 c1_0 c1_1) (λr nv=>⟨[.val (nv 0)],[(2,some (p1_0,.box 31 [.rd (A3 aZ) c1_0])),(3,some (p1_1,.box 31 [.rd (A3 aZ) c1_1])),(100,some (nv 0,.list aZ 61 r))]⟩):=by
 refine Aq 42 func75 Z Z Z λH w=>?_;refine A0<|Zb Z<|A0<|Zm Z<|Zm Z<|call [1,2,3] [(1,1),(2,2),(3,3)] Z func116 Z Z (z7i _ _ _ _ _ _ _) (aW Z<|aQ Z<|aN) (Zi Z<|Zi Z<|Zi Z<|rN) λr1 n2=>Zb Z<|A9<|A0<|Zm Z<|Zq (I.eql Z Z)<|Zj Z (λh3=>?_) (λh3=>?_)
 ·refine A0<|Zm Z<|Zb Z<|A5<|Ap<|Ze [M] [2,3,1] Z
 ·refine Zt<|B6 (λ(s4:(List V3) × Int) O U=>Sta (ctx 42 H [(1,some (M,.list aZ 61 c0)),(2,some (p1_0,.box 31 [.rd (A3 aZ) c1_0])),(3,some (p1_1,.box 31 [.rd (A3 aZ) c1_1]))] w) [(0,.val M),(5,.rd A2 s4.2)] [(1,some (M,.list aZ 61 s4.1)),(2,some (p1_0,.box 31 [.rd (A3 aZ) c1_0])),(3,some (p1_1,.box 31 [.rd (A3 aZ) c1_1]))] O U) ?_ (λs4=>?_)
  ·refine A0<|Zm Z<|Zq (I.add Z Z)<|Zb Z<|AJ (λ(s5:(List V3) × Int × Int) O U=>Sta (ctx 42 H [(1,some (M,.list aZ 61 c0)),(2,some (p1_0,.box 31 [.rd (A3 aZ) c1_0])),(3,some (p1_1,.box 31 [.rd (A3 aZ) c1_1]))] w) [(0,.val M),(1,.val (.func (.func 76) #[] #[A7 p1_0 0,A7 p1_1 0])),(5,.rd A2 s5.2.1),(6,.rd A2 s5.2.2)] [(1,some (M,.list aZ 61 s5.1)),(2,some (p1_0,.box 31 [.rd (A3 aZ) c1_0])),(3,some (p1_1,.box 31 [.rd (A3 aZ) c1_1]))] O U) (λO U h=>Zu h [1,2,3]) (λs5=>?_)
   refine A9<|A0<|Zm Z<|Zm Z<|Zq (Ar Z (.own 1 Z) Z tu31)<|Zq (I.lss Z Z)<|Zj Z (λh6=>?_) (λh6=>?_)
   ·refine Zt<|A9<|AD<|A0<|Zm Z<|Zm Z<|An λx7 h8=>Zq (ixO 1 Z Z Z h8 tu31 Ax)<|Zq (ld 1 Z Z (Foc.el h8) AN Z)<|Eb Z (AL 4 Ax (.zr (R:=aZ) (x:=(Vector.replicate 32 0)) C0)) λv9=>Es (sto 4 Z Z fH Z Ax)<|Zn<|A0<|Zm Z<|Zq (ld 4 Z Z fH AN Z)<|DC [2,3] [(1,2),(2,3)] (gd0 Z) Z Z func76 Z Z (Um _ _ _ _ _) (Y1 Z) (cQ 2 Z<|cQ 3 Z<|cN) (Zi Z<|Zi Z<|rN) λac ad=>Zq (By Z)<|Zj Z (λa2=>?_) (λa2=>?_)
    ·refine A0<|Zm Z<|Zm Z<|Zq (ld 4 Z Z fH AN Z)<|An λae a1=>Zq (ixO 1 Z Z Z a1 tu31 Ax)<|Es (sto 1 Z Z (Foc.el a1) Z Ax)<|Zn<|Al<|Zm Z<|Zq (I.add Z Z)<|Za Z<|AR 5 Z λaf=>Ah<|Au<|Ak<|Al<|Zm Z<|Zq (I.add Z Z)<|Za Z<|AR 6 Z λah=>Ah<|AB (λO U h=>Zu h [1,2,3])
    ·refine AU<|Au<|Ak<|Al<|Zm Z<|Zq (I.add Z Z)<|Za Z<|AR 6 Z λai=>Ah<|AB (λO U h=>Zu h [1,2,3])
   ·refine AF<|AG<|AI<|AA (λO U h=>Zu h [1,2,3])
  ·refine A0<|Zm Z<|Zm Z<|An λaj a6=>Zq (Ie 1 Z Z (.to Z) .no (CI a6) tu31 Ax)<|An λak a7=>EsV (clrS 1 Z Z (CI a7) Z tu31 Ax C0 Z)<|Zn<|A0<|Zm Z<|Zm Z<|An λam a8=>Ef Z (cutO 1 Z Z Z a8 tu31 Ax) λab=>Zb Z<|A5<|Ze [ab] [2,3,1] Z
def KR (a0:A4) (O:List V3) (U:List V3):Option ((List V3)) :=
 KQ a0 O>>=λr2 =>
 KQ a0 U>>=λr5 =>
 MP a0>>=λr9 =>
 Pp r9.1 r2 r5>>=λM =>
 some M
theorem zsh (a0:A4) (O:List V3) (U:List V3):Aj Tryz.prog 48 [.rd A8 a0,.rd (A3 aZ) O,.rd (A3 aZ) U] [Am] (KR a0 O U) (λr M=>⟨[.val (M 0)],[(1001,some (.bool true,.glob 1 (Av 64 Aa) Bv)),(100,some (M 0,.list aZ 61 r))]⟩):=by
 refine Aq 25 func48 Z Z Z λH w=>?_;refine A0<|Eb Z (bx 1 Z) λv1=>Zb Z<|A9<|E7 [(1,.rd (A3 aZ) O),(2,.rd (A3 aZ) U),(3,.val (A7 v1 0))] [Am,(1,some (v1,.box 34 [.rd A8 a0]))] [1001,1] (sS Z<|sS Z<|sS Z<|sN) (Zi Z<|Zi Z<|rN)<|BV λr2 h4=>BV λr5 h7=>gOr [] [⟨1,some ([], λM=>(v1,.box 34 [.rd A8 a0])),[]⟩,⟨1001,some ([], λM=>((.bool true),.glob 1 (Av 64 Aa) Bv)),[]⟩,⟨2,none,[(6,some ([1], λM=>((M 1),.box 31 [.val (.slice none 0 0)]))),(8,some ([1], λM=>((M 1),.box 31 [.rd (A3 aZ) r2])))]⟩,⟨3,none,[(7,some ([2], λM=>((M 2),.box 31 [.val (.slice none 0 0)]))),(9,some ([2], λM=>((M 2),.box 31 [.rd (A3 aZ) r5])))]⟩] [pk 11 (.rd A8 a0) [(0,0,false)],pd 12 (.rd (A3 aZ) O),pk 13 (.rd (A3 aZ) r2) [(1,0,false)],pk 14 (.rd A8 a0) [(0,0,false)],pd 15 (.rd (A3 aZ) U),pk 16 (.rd (A3 aZ) r5) [(1,0,false)],⟨some (7,[1], λM=>.val (A7 (M 1) 0)),[(2,0,true)],[1],[]⟩,⟨some (8,[2], λM=>.val (A7 (M 2) 0)),[(3,0,true)],[2],[]⟩,⟨none,[(2,1,true)],[],[]⟩,⟨none,[(3,1,true)],[],[]⟩] mixed (oC (oRn (λM E=>ld 1 Z Z fH AH Z))<|oC (oRn (λM E=>mv Z))<|oC (oCl [] [1001] [] h4 func73 Z (λM=>(Ul _ _)) (λM=>(Y2 Z Z)) (λM E=>(y1 Z)))<|oC (oRn (λM E=>ld 1 Z Z fH AH Z))<|oC (oRn (λM E=>mv Z))<|oC (oCl [] [1001] [] h7 func73 Z (λM=>(Ul _ _)) (λM=>(Y2 Z Z)) (λM E=>(y1 Z)))<|oC (oEb 2 1 (λM E=>AL 2 B2 (.val Z)))<|oC (oEb 3 2 (λM E=>AL 3 B2 (.val Z)))<|oC (oEs 2 (λM E=>Dp 2 Z Z (.here Ay) Z Do BF B2))<|oC (oEs 3 (λM E=>Dp 3 Z Z (.here Ay) Z Do BF B2))<|oN) λn8=>Ak<|A0<|Zq (ld 1 Z Z fH AH Z)<|Zc [1001] [(100,4)] func74 Z (znn _) λr9 a7=>Zm Z<|Zq (ext Z Z)<|Zq (ext Z Z)<|Za Z<|Zb Z<|A0<|Zm Z<|Zq (mkf mp0 (mp2 Z Z))<|Zc [4,2,3] [(100,5),(2,2),(3,3)] func75 Z (z8c _ _ _ _ _ _) λa8 a6=>Zb Z<|A5<|Ze [(a6 0)] [1001,5] Z
def Ni (a0:List (List UInt8)):Option ((List (List UInt8))) :=
 app 24 ([]:List (List UInt8)) a0>>=λM =>
 some M
theorem zfh (a0:List (List UInt8)):Aj Tryz.prog 85 [.rd (A3 (A3 u8R)) a0] [] (Ni a0) (λr M=>⟨[.val (M 0)],[(100,some (M 0,.list (A3 u8R) 114 r))]⟩):=by
 refine Aq 8 func85 Z Z Z λH w=>?_;refine A0<|Zb Z<|A9<|A0<|Zm Z<|Lr Z Z .rd Z tu136 (λh1=>?_) ?_
 ·subst h1;refine Zn<|Dm Z<|A0<|Zb Z<|A5<|Ap<|Cq (A3 u8R) 114 1<|Ze [(.slice none 0 0)] [1] Z
 ·refine Zn<|DL Z<|Zt<|A0<|Ef Z (lit (R:=(A3 u8R)) (([]:List (List UInt8)):List (List UInt8)) 2 (pN) Z tu136 Dc Z Z) λv2=>Zm Z<|An λx3 O=>Ef Z (apn 2 Z Z Z .rd O tu136 Dc Z Z Z) λv5=>Zb Z<|A5<|Ze [v5] [2] Z
def Pq (a0:UInt8):Option (Bool) :=
 if decide (2<=a0) then
  some (decide (a0<=4))>>=λM =>
  some M
 else
  some false
theorem zpp (a0:UInt8):Aj Tryz.prog 157 [.rd u8R a0] [] (Pq a0) (λr nv=>⟨[.rd Ai r],[]⟩):=by
 refine Aq 9 func157 Z Z Z λH w=>?_;refine A0<|Zb Z<|A0<|Zm Z<|Zq (B.geq Z Z)<|Zm Z<|AY 5 Z (λh1=>?_) (λh1=>?_)
 ·refine Ac 4 Z h1<|Ab Zx Z Z (mv Z)<|Ab Zx Z Z (B.leq Z Z)<|Zq (pkT Z Z)<|Za Z<|AR 2 Z λy2=>Zn<|A5<|Ze [] [] Z
 ·refine Ac 4 Z h1<|Zk Z<|Zk Z<|Zq (pkF Z Z)<|Zb Z<|A5<|Ze [] [] Z
def zps (a0:List V3) (M:Int):Option (Sum (Sum Bool Unit) Int) :=
 if decide (M<(a0.length:Int)) then
  idx a0 (w64 (M - 1))>>=λO =>
  idx a0 M>>=λU =>
  Fz O U>>=λr8 =>
  if decide (0<=r8) then
   some (.inl (.inl false))
  else
   some (.inr (w64 (M+1)))
 else
  some (.inl (.inr ()))
def Uo (a0:List V3):Option (Bool) :=
 Bi (iter (zps a0) 1) λs1 =>
 some true
theorem zqg (a0:List V3):Aj Tryz.prog 158 [.rd (A3 aZ) a0] [] (Uo a0) (λr nv=>⟨[.rd Ai r],[]⟩):=by
 refine Aq 21 func158 Z Z Z λH w=>?_;refine A0<|Zb Z<|Bt (λ(s1:Unit) M O=>Sta (ctx 21 H [] w) [] [] M O) ?_ (λs1=>?_)
 ·refine A0<|Zb Z<|AJ (λ(U:Int) M O=>Sta (ctx 21 H [] w) [(0,.rd (A3 aZ) a0),(3,.rd A2 U)] [] M O) (λM O h=>Zu h []) (λU=>?_);refine A9<|A0<|Zm Z<|Zm Z<|Zq (Ar Z .rd Z tu31)<|Zq (I.lss Z Z)<|Zj Z (λh3=>?_) (λh3=>?_)
  ·refine Zt<|A9<|AD<|A9<|BK [] mixed Z Z<|A6 0 Z Z (mv Z)<|A6 1 Z Z (mv Z)<|A6 2 Z Z (I.sub Z Z)<|BA λx4 h5=>A6 3 Z Z (ixR Z Z h5 tu31 Ax Z)<|A6 4 Z Z (ldR Z AN)<|A6 5 Z Z (mv Z)<|A6 6 Z Z (mv Z)<|BA λx6 h7=>A6 7 Z Z (ixR Z Z h7 tu31 Ax Z)<|A6 8 Z Z (ldR Z AN)<|BH 9 [] [] Z (by kernel_rfl) Z (gd0 Z) Z func44 Z Z (Ig _ _) (Y2 Z Z) rN Z (λ_ _=>Cr) λr8 n9=>A6 10 Z Z (I.geq Z Z)<|Bg (by kernel_rfl)<|Ak<|gIf Z Z (λa1=>?_) (λa1=>?_)
   ·refine A0<|Zb Z<|A5<|B7<|Ap<|Bp<|Bl<|Ze [] [] Z
   ·refine AU<|Au<|Ak<|Al<|Zm Z<|Zq (I.add Z Z)<|Za Z<|Ah<|AB (λM O h=>Zu h [])
  ·refine AF<|AG<|AI<|Bk (λM O h=>Zu h [])
 ·refine A0<|Zb Z<|A5<|Ze [] [] Z
def HJ (a0:Cp) (M:(List UInt8) × Bool × Int):Option (Sum ((List UInt8) × Bool) ((List UInt8) × Bool × Int)) :=
 if M.2.1 then
  if decide (M.2.2<(a0.Ops.length:Int)) then
   idx a0.Ops M.2.2>>=λO =>
   Hj O>>=λU =>
   app 1 M.1 U.1>>=λa1 =>
   idx a0.Ops M.2.2>>=λa2 =>
   some (decide ((a2.length:Int)<=400))>>=λa6 =>
   some (w64 (M.2.2+1))>>=λa7 =>
   some (.inr (a1,a6,a7))
  else
   some (.inl (M.1,true))
 else
  some (.inl (M.1,false))
def Nj (a0:Cp):Option ((List UInt8) × Bool) :=
 (Pq a0.Kind>>=λr4 =>
 if r4 then
  (if a0.N==0 then
   if (a0.Ops.length:Int)==0 then
    if decide ((a0.IDs.length:Int)<=40) then
     Uo a0.IDs>>=λO =>
     some O
    else
     some false
   else
    some false
  else
   some false)>>=λs7 =>
  if s7 then
   Jw a0.IDs>>=λU =>
   app 1 [a0.Kind] U.1>>=λa1 =>
   some (a1,true)
  else
   some ([a0.Kind],false)
 else
  if a0.Kind==5 then
   (if a0.N==0 then
    if (a0.IDs.length:Int)==0 then
     some (decide ((a0.Ops.length:Int)<=8))>>=λa2 =>
     some a2
    else
     some false
   else
    some false)>>=λa6 =>
   EA (UInt64.ofInt (a0.Ops.length:Int))>>=λa7 =>
   app 1 [a0.Kind] a7>>=λa8 =>
   iter (HJ a0) (a8,a6,0)
  else
   (if a0.Kind==1 then
    some true
   else
    some (a0.Kind==6))>>=λaa =>
   if aa then
    (if (a0.IDs.length:Int)==0 then
     some ((a0.Ops.length:Int)==0)>>=λab =>
     some ab
    else
     some false)>>=λac =>
    EA a0.N>>=λad =>
    app 1 [a0.Kind] ad>>=λae =>
    some (ae,ac)
   else
    some ([a0.Kind],false))>>=λM =>
 if M.2 then
  some (decide ((M.1.length:Int)<=2000))>>=λaf =>
  some (M.1,af)
 else
  some (M.1,false)
theorem zr6 (a0:Cp):Aj Tryz.prog 119 [.rd Dd a0] [] (Nj a0) (λr nv=>⟨[.val (nv 0),.rd Ai r.2],[(100,some (nv 0,.list u8R 5 r.1))]⟩):=by
 refine Aq 132 func119 Z Z Z λH w=>?_;refine A0<|Eb Z (bx 1 Z) λv1=>Za Z<|Zb Z<|A0<|Zq (faB 1 Z Z underlying138 Z (by exact ti5))<|Zq (ld 1 Z Z (fP (I9 _)) ty5 Z)<|Ef Z (lit (R:=u8R) ([a0.Kind]:List UInt8) 2 (pP Z Z<|pN) Z tu114 ti5 Z Z) λv2=>Zb Z<|A0<|Zb Z<|B6 (λ(s3:(List UInt8) × Bool) M O=>∃ nv:Nat->Value,Sta (ctx 132 H [] w) [(4,.val (nv 0)),(5,.rd Ai s3.2)] [(2,some ((nv 0),.list u8R 5 s3.1))] M O) ?_ (λs3=>?_)
 ·refine AD<|A0<|Zq (faB 1 Z Z underlying138 Z (by exact ti5))<|Zq (ld 1 Z Z (fP (I9 _)) ty5 Z)<|Zc [] [] func157 Z (zpp _) λr4 n5=>Zb Z<|gIf Z Z (λh6=>?_) (λh6=>?_)
  ·refine gKn 17 Z h6<|B6 (λ(s7:Bool) M O=>Sta (ctx 132 H [] w) [(1,.val (A7 v1 0)),(4,.val v2),(5,.rd Ai s7)] [(1,some (v1,.box 138 [.rd Dd a0])),(2,some (v2,.list u8R 5 [a0.Kind]))] M O) ?_ (λs7=>?_)
   ·refine Al<|Zq (faB 1 Z Z underlying138 Z (by exact CJ))<|Zq (ld 1 Z Z (fP (O9 _)) CU Z)<|Zq (U.eql Z Z)<|Zm Z<|AY 21 Z (λh8=>?_) (λh8=>?_)
    ·refine Ac 20 Z h8<|Ab Zx Z Z (faB 1 Z Z underlying138 Z (by exact Ft))<|Ab Zx Z Z (ld 1 Z Z (fP (FU _)) Gu Z)<|Ab Zx Z Z (Ar Z .rd Z tu136)<|Ab Zx Z Z (I.eql Z Z)<|Zq (pkT Z Z)<|Zm Z<|AY 27 Z (λh9=>?_) (λh9=>?_)
     ·refine Ac 25 Z h9<|Ac 26 Z h9<|Ab Zx Z Z (faB 1 Z Z underlying138 Z (by exact B2))<|Ab Zx Z Z (ld 1 Z Z (fP (Jm _)) B8 Z)<|Ab Zx Z Z (Ar Z .rd Z tu31)<|Ab Zx Z Z (I.leq Z Z)<|Zq (pkT Z Z)<|Zm Z<|AY 33 Z (λa1=>?_) (λa1=>?_)
      ·refine Ac 31 Z a1<|Ac 32 Z a1<|Ab Zx Z Z (faB 1 Z Z underlying138 Z (by exact B2))<|Ab Zx Z Z (ld 1 Z Z (fP (Jm _)) B8 Z)<|CH [] [] Zx Z func158 Z Z (zqg _) (Y1 Z) rN λb2 b3=>Zq (pkT Z Z)<|Za Z<|Ah<|AA (λM O h=>Zu h [1,2])
      ·refine Ac 31 Z a1<|Ac 32 Z a1<|Zk Z<|Zk Z<|Zk Z<|Zq (pkF Z Z)<|Za Z<|Ah<|AA (λM O h=>Zu h [1,2])
     ·refine Ac 25 Z h9<|Ac 26 Z h9<|Zk Z<|Zk Z<|Zk Z<|Zk Z<|Zq (pkF Z Z)<|Zm Z<|Zk Z<|Zk Z<|Zk Z<|Zq (pkF Z Z)<|Za Z<|Ah<|AA (λM O h=>Zu h [1,2])
    ·refine Ac 20 Z h8<|Zk Z<|Zk Z<|Zk Z<|Zk Z<|Zq (pkF Z Z)<|Zm Z<|Zk Z<|Zk Z<|Zk Z<|Zk Z<|Zq (pkF Z Z)<|Zm Z<|Zk Z<|Zk Z<|Zk Z<|Zq (pkF Z Z)<|Za Z<|Ah<|AA (λM O h=>Zu h [1,2])
   ·refine A0<|Zm Z<|Zj Z (λab=>?_) (λab=>?_)
    ·refine gKn 5 Z ab<|A0<|Zq (faB 1 Z Z underlying138 Z (by exact B2))<|Zq (ld 1 Z Z (fP (Jm _)) B8 Z)<|Zc [] [(100,3)] func92 Z (T2 _) λb4 b5=>Zm Z<|Zq (ext Z Z)<|Zq (ext Z Z)<|Za Z<|Zb Z<|Al<|Zm Z<|Zm Z<|An λb6 ap=>Ef Z (apn 2 Z Z Z (.own 3 Z) ap tu114 ti5 Z Z Z) λaq=>Za Z<|Ah<|Au<|AA (λM O h=>⟨nvl [aq],Zu h [2]⟩)
    ·refine gKn 5 Z ab<|AU<|Au<|AA (λM O h=>⟨nvl [v2],Zu h [2]⟩)
  ·refine gKn 17 Z h6<|A0<|Zq (faB 1 Z Z underlying138 Z (by exact ti5))<|Zq (ld 1 Z Z (fP (I9 _)) ty5 Z)<|Zq (B.eql Z Z)<|Zb Z<|gIf Z Z (λac=>?_) (λac=>?_)
   ·refine gKn 51 Z ac<|B6 (λ(ai:Bool) M O=>Sta (ctx 132 H [] w) [(1,.val (A7 v1 0)),(4,.val v2),(5,.rd Ai ai)] [(1,some (v1,.box 138 [.rd Dd a0])),(2,some (v2,.list u8R 5 [a0.Kind]))] M O) ?_ (λai=>?_)
    ·refine Al<|Zq (faB 1 Z Z underlying138 Z (by exact CJ))<|Zq (ld 1 Z Z (fP (O9 _)) CU Z)<|Zq (U.eql Z Z)<|Zm Z<|AY 55 Z (λad=>?_) (λad=>?_)
     ·refine Ac 54 Z ad<|Ab Zx Z Z (faB 1 Z Z underlying138 Z (by exact B2))<|Ab Zx Z Z (ld 1 Z Z (fP (Jm _)) B8 Z)<|Ab Zx Z Z (Ar Z .rd Z tu31)<|Ab Zx Z Z (I.eql Z Z)<|Zq (pkT Z Z)<|Zm Z<|AY 61 Z (λa2=>?_) (λa2=>?_)
      ·refine Ac 59 Z a2<|Ac 60 Z a2<|Ab Zx Z Z (faB 1 Z Z underlying138 Z (by exact Ft))<|Ab Zx Z Z (ld 1 Z Z (fP (FU _)) Gu Z)<|Ab Zx Z Z (Ar Z .rd Z tu136)<|Ab Zx Z Z (I.leq Z Z)<|Zq (pkT Z Z)<|Za Z<|AR 5 Z λb7=>Ah<|AA (λM O h=>Zu h [1,2])
      ·refine Ac 59 Z a2<|Ac 60 Z a2<|Zk Z<|Zk Z<|Zk Z<|Zk Z<|Zq (pkF Z Z)<|Za Z<|Ah<|AA (λM O h=>Zu h [1,2])
     ·refine Ac 54 Z ad<|Zk Z<|Zk Z<|Zk Z<|Zk Z<|Zq (pkF Z Z)<|Zm Z<|Zk Z<|Zk Z<|Zk Z<|Zk Z<|Zq (pkF Z Z)<|Za Z<|Ah<|AA (λM O h=>Zu h [1,2])
    ·refine A0<|Zm Z<|Zq (faB 1 Z Z underlying138 Z (by exact Ft))<|Zq (ld 1 Z Z (fP (FU _)) Gu Z)<|Zq (Ar Z .rd Z tu136)<|Zq (I.toU Z tu3 tu52)<|Zc [] [(100,4)] func94 Z (G0 _) λb8 b9=>An λba ar=>Ef Z (apn 2 Z Z Z (.own 4 Z) ar tu114 ti5 Z Z Z) λav=>Zb Z<|A0<|Zb Z<|AJ (λ(a8:(List UInt8) × Bool × Int) M O=>∃ nv:Nat->Value,Sta (ctx 132 H [] w) [(1,.val (A7 v1 0)),(4,.val (nv 0)),(5,.rd Ai a8.2.1),(8,.rd A2 a8.2.2)] [(1,some (v1,.box 138 [.rd Dd a0])),(2,some ((nv 0),.list u8R 5 a8.1))] M O) (λM O h=>⟨nvl [av],Zu h [1,2]⟩) (λa8=>?_)
     refine gEx λaj=>A9<|A0<|Zm Z<|Zm Z<|AY 75 Z (λa6=>?_) (λa6=>?_)
     ·refine Ac 5 Z a6<|Ac 74 Z a6<|Ab Zx Z Z (mv Z)<|Ab Zx Z Z (faB 1 Z Z underlying138 Z (by exact Ft))<|Ab Zx Z Z (ld 1 Z Z (fP (FU _)) Gu Z)<|Ab Zx Z Z (Ar Z .rd Z tu136)<|Ab Zx Z Z (I.lss Z Z)<|Zq (pkT Z Z)<|Zj Z (λae=>?_) (λae=>?_)
      ·refine gKn 80 Z ae<|Zt<|A9<|AD<|A0<|Zq (faB 1 Z Z underlying138 Z (by exact Ft))<|Zq (ld 1 Z Z (fP (FU _)) Gu Z)<|Zm Z<|An λbb aw=>Zq (ixR Z Z aw tu136 Dc Z)<|Zq (ldR Z Hd)<|Zc [] [(100,5)] func95 Z (Oz _) λbc bd=>Zm Z<|Zq (ext Z Z)<|Zq (ext Z Z)<|Za Z<|Zb Z<|A0<|Zm Z<|Zm Z<|An λbe ax=>Ef Z (apn 2 Z Z Z (.own 5 Z) ax tu114 ti5 Z Z Z) λv39=>Zb Z<|Al<|Zq (faB 1 Z Z underlying138 Z (by exact Ft))<|Zq (ld 1 Z Z (fP (FU _)) Gu Z)<|Zm Z<|An λbf ay=>Zq (ixR Z Z ay tu136 Dc Z)<|Zq (ldR Z Hd)<|Zq (Ar Z .rd Z tu114)<|Zq (I.leq Z Z)<|Za Z<|AR 5 Z λbg=>Ah<|Au<|Ak<|Al<|Zm Z<|Zq (I.add Z Z)<|Za Z<|AR 8 Z λbh=>Ah<|AB (λM O h=>⟨nvl [v39],Zu h [1,2]⟩)
      ·refine gKn 80 Z ae<|AF<|AG<|AI<|Au<|AA (λM O h=>⟨nvl [(aj 0)],Zu h [2]⟩)
     ·refine Ac 5 Z a6<|Ac 74 Z a6<|Zk Z<|Zk Z<|Zk Z<|Zk Z<|Zk Z<|Zq (pkF Z Z)<|Zn<|DL Z<|AF<|AG<|AI<|Au<|AA (λM O h=>⟨nvl [(aj 0)],Zu h [2]⟩)
   ·refine gKn 51 Z ac<|B6 (λ(ak:Bool) M O=>Sta (ctx 132 H [] w) [(1,.val (A7 v1 0)),(4,.val v2),(5,.rd Ai false),(103,.rd Ai ak)] [(1,some (v1,.box 138 [.rd Dd a0])),(2,some (v2,.list u8R 5 [a0.Kind]))] M O) ?_ (λak=>?_)
    ·refine A0<|Zq (faB 1 Z Z underlying138 Z (by exact ti5))<|Zq (ld 1 Z Z (fP (I9 _)) ty5 Z)<|Zq (B.eql Z Z)<|Zb Z<|gIf Z Z (λaf=>?_) (λaf=>?_)
     ·refine gKn 106 Z af<|AU<|AA (λM O h=>Zu h [1,2])
     ·refine gKn 106 Z af<|Al<|Zq (faB 1 Z Z underlying138 Z (by exact ti5))<|Zq (ld 1 Z Z (fP (I9 _)) ty5 Z)<|Zq (B.eql Z Z)<|Za Z<|Ah<|AA (λM O h=>Zu h [1,2])
    ·refine gIf Z Z (λaz=>?_) (λaz=>?_)
     ·refine B6 (λ(am:Bool) M O=>Sta (ctx 132 H [] w) [(1,.val (A7 v1 0)),(4,.val v2),(5,.rd Ai am)] [(1,some (v1,.box 138 [.rd Dd a0])),(2,some (v2,.list u8R 5 [a0.Kind]))] M O) ?_ (λam=>?_)
      ·refine Al<|Zq (faB 1 Z Z underlying138 Z (by exact B2))<|Zq (ld 1 Z Z (fP (Jm _)) B8 Z)<|Zq (Ar Z .rd Z tu31)<|Zq (I.eql Z Z)<|Zm Z<|AY 114 Z (λah=>?_) (λah=>?_)
       ·refine Ac 113 Z ah<|Ab Zx Z Z (faB 1 Z Z underlying138 Z (by exact Ft))<|Ab Zx Z Z (ld 1 Z Z (fP (FU _)) Gu Z)<|Ab Zx Z Z (Ar Z .rd Z tu136)<|Ab Zx Z Z (I.eql Z Z)<|Zq (pkT Z Z)<|Za Z<|AR 5 Z λbi=>Ah<|AA (λM O h=>Zu h [1,2])
       ·refine Ac 113 Z ah<|Zk Z<|Zk Z<|Zk Z<|Zk Z<|Zq (pkF Z Z)<|Za Z<|Ah<|AA (λM O h=>Zu h [1,2])
      ·refine Al<|Zm Z<|Zq (faB 1 Z Z underlying138 Z (by exact CJ))<|Zq (ld 1 Z Z (fP (O9 _)) CU Z)<|Zc [] [(100,6)] func94 Z (G0 _) λbj bk=>An λbl b0=>Ef Z (apn 2 Z Z Z (.own 6 Z) b0 tu114 ti5 Z Z Z) λb1=>Za Z<|Ah<|Au<|AA (λM O h=>⟨nvl [b1],Zu h [2]⟩)
     ·refine AU<|Au<|AA (λM O h=>⟨nvl [v2],Zu h [2]⟩)
 ·refine gEx λao=>A0<|Zm Z<|Zm Z<|Zm Z<|AY 127 Z (λa7=>?_) (λa7=>?_)
  ·refine Ac 5 Z a7<|Ac 126 Z a7<|Ab Zx Z Z (mv Z)<|Ab Zx Z Z (Ar Z (.own 2 Z) Z tu114)<|Ab Zx Z Z (I.leq Z Z)<|Zq (pkT Z Z)<|Za Z<|Za Z<|AR 3 Z λbm=>Zn<|A5<|Ze [(ao 0)] [2] Z
  ·refine Ac 5 Z a7<|Ac 126 Z a7<|Zk Z<|Zk Z<|Zk Z<|Zq (pkF Z Z)<|Za Z<|Zb Z<|A5<|Ze [(ao 0)] [2] Z
def Nk (a0:Cp):Option (Int) :=
 Nj a0>>=λM =>
 if !M.2 then
  some 8
 else
  some 0
theorem zra (a0:Cp):Aj Tryz.prog 86 [.rd Dd a0] [] (Nk a0) (λr nv=>⟨[.rd A2 r],[]⟩):=by
 refine Aq 12 func86 Z Z Z λH w=>?_;refine A0<|Eb Z (bx 1 Z) λv1=>Zb Z<|A9<|A0<|Zq (ld 1 Z Z fH Ly Z)<|Zc [] [(100,2)] func119 Z (zr6 _) λr2 n3=>Zm Z<|Zq (ext Z Z)<|Zq (ext Z Z)<|Za Z<|Zb Z<|A0<|Zm Z<|Zq (By Z)<|Zj Z (λM=>?_) (λM=>?_)
 ·refine A0<|Zb Z<|A5<|Ap<|Ze [] [] Z
 ·refine Zt<|A0<|Zb Z<|A5<|Ze [] [] Z
def GT (a0:A4) (a1:List V3) (O:(List Cp) × Int):Option (Sum ((List Cp)) ((List Cp) × Int)) :=
 if decide (O.2<(a1.length:Int)) then
  idx a1 O.2>>=λx6 =>
  Hw a0 x6>>=λr9 =>
  GB r9.1>>=λa2 =>
  Bi (some (O.1.length:Int)>>=λU =>
  if decide (0<U) then
   idx O.1 (w64 (U - 1))>>=λM =>
   Ni M.Ops>>=λa7 =>
   app 24 a7 [a2.1]>>=λa6 =>
   Nk (⟨M.Kind,M.N,M.IDs,a6⟩:Cp)>>=λa8 =>
   if a8==0 then
    idx O.1 (w64 (U - 1))>>=λac =>
    some (.inl (.inr (O.1.set (w64 (U - 1):Int).toNat (⟨M.Kind,M.N,M.IDs,a6⟩:Cp),w64 (O.2+1))))
   else
    some (.inr a2.1)
  else
   some (.inr a2.1)) λaa =>
  app 64 O.1 [(⟨5,0,[],[aa]⟩:Cp)]>>=λab =>
  some (.inr (ab,w64 (O.2+1)))
 else
  some (.inl O.1)
def Nl (a0:A4) (M:List V3):Option ((List Cp)) :=
 (iter (GT a0 M) ([],0))>>=λO =>
 some O
theorem zpt (a0:A4) (a1:List V3):Aj Tryz.prog 53 [.rd A8 a0,.rd (A3 aZ) a1] [Am] (Nl a0 a1) (λr nv=>⟨[.val (nv 0)],[(1001,some (.bool true,.glob 1 (Av 64 Aa) Bv)),(100,some (nv 0,.list Dd 138 r))]⟩):=by
 refine Aq 63 func53 Z Z Z λH w=>?_;refine A0<|Eb Z (bx 1 Z) λv1=>Zb Z<|A0<|Zb Z<|B6 (λ(s2:(List Cp)) O U=>∃ nv:Nat->Value,Sta (ctx 63 H [Am] w) [(5,.val (nv 0))] [(1107,some ((nv 0),.list Dd 138 s2)),Am] O U) ?_ (λs2=>?_)
 ·refine A0<|Zm Z<|Zq (Ar Z .rd Z tu31)<|Zm Z<|Zn<|DB Dd 138 1119<|AJ (λ(s3:(List Cp) × Int) O U=>∃ nv:Nat->Value,Sta (ctx 63 H [Am] w) [(2,.val (A7 v1 0)),(5,.val (nv 0)),(14,.rd (A3 aZ) a1),(15,.rd A2 (a1.length:Int)),(16,.rd A2 s3.2)] [(1,some (v1,.box 34 [.rd A8 a0])),(1118,some ((nv 0),.list Dd 138 s3.1)),Am] O U) (λO U h=>⟨nvl [(.slice none 0 0)],Zu h [1,1119,1001]⟩) (λs3=>?_)
  refine gEx λn4=>A0<|Zq (I.lss Z Z)<|Zn<|A9<|gIf Z Z (λh5=>?_) (λh5=>?_)
  ·refine Zt<|A9<|AD<|A0<|An λx6 h7=>Zq (ixR Z Z h7 tu31 Ax Z)<|Zq (ldR Z AN)<|Eb Z (AL 1120 Ax (.zr (R:=aZ) (x:=(Vector.replicate 32 0)) C0)) λv8=>Es (sto 1120 Z Z fH Z Ax)<|Zn<|A0<|Zq (ld 1 Z Z fH AH Z)<|Zq (ld 1120 Z Z fH AN Z)<|Zc [1001] [] func51 Z (U0 _ _) λr9 aj=>Zm Z<|Zq (ext Z Z)<|Zq (ext Z Z)<|Eb Z (AL 1121 B4 (ZrE.rd (R:=Aa) (x:=0) (Zr.num Z) (ZrE.nilS (ZrE.rd (R:=Ao) (x:=0) (Zr.num Z) (ZrE.rd (R:=Ba) (x:=(⟨0,[],(⟨0,0,0,[]⟩:Az)⟩:AP)) CR (ZrE.rd (R:=Bc) (x:=(⟨0,0⟩:AC)) CM ZrE.nil Z) Z) Z)) Z)) λak=>Bh aZ [.rd Aa 0,.rd (A3 aZ) [],.rd Ao 0,.rd Ba (⟨0,[],(⟨0,0,0,[]⟩:Az)⟩:AP),.rd Bc (⟨0,0⟩:AC)] 1121 [.rd Aa 0] [.rd Ao 0,.rd Ba (⟨0,[],(⟨0,0,0,[]⟩:Az)⟩:AP),.rd Bc (⟨0,0⟩:AC)] Z Z Z<|BC (R:=Ad) (⟨0,[],0,(⟨0,[],(⟨0,0,0,[]⟩:Az)⟩:AP),(⟨0,0⟩:AC)⟩:Ae) 1121 Z (Sp.via (Sp.prod (Sp.prod (Sp.prod (Sp.prod (Sp.prod Sp.unit))))))<|Es (sto 1121 Z Z fH Z B4)<|Zb Z<|A0<|Zq (ld 1121 Z Z fH Bz Z)<|Zc [] [(100,1122)] func84 Z (T3 _) λab am=>Zm Z<|Zq (ext Z Z)<|Zq (ext Z Z)<|Za Z<|Zb Z<|Bt (λ(a2:(List UInt8)) O U=>Sta (ctx 63 H [Am] w) [(2,.val (A7 v1 0)),(5,.val (n4 0)),(10,.rd (A3 u8R) a2),(14,.rd (A3 aZ) a1),(15,.rd A2 (a1.length:Int)),(16,.rd A2 s3.2)] [(1,some (v1,.box 34 [.rd A8 a0])),(1118,some ((n4 0),.list Dd 138 s3.1)),Am] O U) ?_ (λa2=>?_)
   ·refine A0<|Zm Z<|Zq (Ar Z (.own 1118 Z) Z underlying105)<|Za Z<|AR 12 Z λao=>Zn<|A0<|Zm Z<|Zq (I.gtr Z Z)<|Zj Z (λac=>?_) (λac=>?_)
    ·refine A0<|Zm Z<|Zm Z<|Zq (I.sub Z Z)<|An λM a6=>Zq (ixO 1118 Z Z Z a6 underlying105 FR)<|Zq (ld 1118 Z Z (Foc.el a6) Ly Z)<|Eb Z (AL 1123 FR (ZrE.rd (R:=u8R) (x:=0) (Zr.num Z) (ZrE.rd (R:=Ao) (x:=0) (Zr.num Z) (ZrE.nilS (ZrE.nilS ZrE.nil)) Z) Z)) λap=>Bh aZ [.rd u8R 0,.rd Ao 0,.rd (A3 aZ) [],.val (.slice none 0 0)] 1123 [.rd u8R 0,.rd Ao 0] [.val (.slice none 0 0)] Z Z Z<|Bh (A3 u8R) [.rd u8R 0,.rd Ao 0,.rd (A3 aZ) [],.rd (A3 (A3 u8R)) []] 1123 [.rd u8R 0,.rd Ao 0,.rd (A3 aZ) []] [] Z Z Z<|BC (R:=Dd) (⟨0,0,[],[]⟩:Cp) 1123 Z (Sp.via (Sp.prod (Sp.prod (Sp.prod (Sp.prod Sp.unit)))))<|Es (sto 1123 Z Z fH Z FR)<|Zn<|A0<|Zq (faB 1123 Z Z underlying138 Z (by exact Ft))<|Zq (ld 1123 Z Z (fP (FU _)) Gu Z)<|Zc [] [(100,1124)] func85 Z (zfh _) λaq ar=>Zm Z<|BG 1122 [29,10,43] Z (fS Z<|fS Z<|fS Z<|fN)<|Ef Z (lit (R:=(A3 u8R)) ([ab.1]:List (List UInt8)) 1125 (pP Z Z<|pN) Z tu136 Dc Z Z) λv22=>BG 1125 [44] Z (fS Z<|fN)<|An λa7 ad=>Ef Z (apn 1124 Z Z Z .rd ad tu136 Dc Z Z Z) λv25=>Zq (faB 1123 Z Z underlying138 Z (by exact Ft))<|lSpl (R:=Dd) 1123 Z (Sp.via (Sp.prod (Sp.prod (Sp.prod (Sp.prod Sp.unit)))))<|Es (Dp 1123 Z Z (Bb.cast (Bb.next BF (Bb.next BF (Bb.next BF (Bb.here BF)))) Z) Z Bo Ay Ft)<|Zn<|A0<|lPow [.rd u8R M.Kind,.rd Ao M.N,.rd (A3 aZ) M.IDs,.rd (A3 (A3 u8R)) a7] 1123 1124 [.rd u8R M.Kind,.rd Ao M.N,.rd (A3 aZ) M.IDs] [] Z Z Z Z Z<|BC (R:=Dd) (⟨M.Kind,M.N,M.IDs,a7⟩:Cp) 1123 Z (Sp.via (Sp.prod (Sp.prod (Sp.prod (Sp.prod Sp.unit)))))<|Zq (ld 1123 Z Z fH Ly Z)<|Zc [] [] func86 Z (zra _) λav aw=>Zq (I.eql Z Z)<|Zj Z (λae=>?_) (λae=>?_)
     ·refine A0<|Zm Z<|Zm Z<|Zq (I.sub Z Z)<|Zq (ld 1123 Z Z fH Ly Z)<|An λax a8=>Zq (ixO 1118 Z Z Z a8 underlying105 FR)<|Es (sto 1118 Z Z (Foc.el a8) Z FR)<|Zn<|AF<|XH<|QP<|Ak<|Al<|Zq (I.add Z Z)<|Zm Z<|Ah<|AB (λO U h=>⟨nvl [(n4 0)],Zu h [1,1118,1001]⟩)
     ·refine AU<|Bk (λO U h=>Zu h [1,1118,1001])
    ·refine AU<|eFrz 1122 [29,10] Z (fS Z<|fS Z<|fN)<|Bk (λO U h=>Zu h [1,1118,1001])
   ·refine Al<|Zm Z<|Zm Z<|Ef Z (lit (R:=(A3 u8R)) ([a2]:List (List UInt8)) 1126 (pP Z Z<|pN) Z tu136 Dc Z Z) λay=>BG 1126 [57] Z (fS Z<|fN)<|Zq (bld (x':=(⟨5,0,[],[a2]⟩:Cp)) [(0,1),(1,1),(2,1),(3,1)] underlying138 FR Z Y8 Z (Bld.cons (I9 _) Z Z<|Bld.cons (FU _) Z Z<|Bld.done Z))<|Ef Z (lit (R:=Dd) ([(⟨5,0,[],[a2]⟩:Cp)]:List Cp) 1127 (pP Z Z<|pN) Z underlying105 FR Z Z) λaz=>BG 1127 [59] Z (fS Z<|fN)<|An λb0 af=>Ef Z (apn 1118 Z Z Z .rd af underlying105 FR Z Z Z) λah=>Za Z<|Ah<|Au<|Ak<|Al<|Zq (I.add Z Z)<|Zm Z<|Ah<|AB (λO U h=>⟨nvl [ah],Zu h [1,1118,1001]⟩)
  ·refine AF<|AG<|AI<|AA (λO U h=>⟨nvl [(n4 0)],Zu h [1118,1001]⟩)
 ·refine gEx λai=>A0<|Zm Z<|Zb Z<|A5<|Ze [(ai 0)] [1001,1107] Z
def HK (a0:A4) (a1:A4) (O:(List V3)) (M:A4 × Int):Option (Sum A4 (A4 × Int)) :=
 if decide (M.2<(O.length:Int)) then
  idx O M.2>>=λU =>
  GS a1.IDs U>>=λa2 =>
  if a2 then
   some (.inr (M.1,w64 (M.2+1)))
  else
   Hw a0 U>>=λa6 =>
   Kq M.1 a6.1>>=λa7 =>
   some (.inr (a7.1,w64 (M.2+1)))
 else
  some (.inl M.1)
def KS (a0:A4) (M:A4):Option (A4 × Int) :=
 Hy a0>>=λr4 =>
 Hy M>>=λr6 =>
 Ng M r4.1>>=λr8 =>
 KR a0 r8 r6.1>>=λO =>
 F8 M (⟨[],[]⟩:A4)>>=λU =>
 (iter (HK a0 M O) (U.1,0))>>=λa2 =>
 Nl a0 O>>=λa6 =>
 some (a6.length:Int)>>=λa7 =>
 some (a2,a7)
theorem Up (a0:A4) (a1:A4):Aj Tryz.prog 28 [.rd A8 a0,.rd A8 a1] [Am] (KS a0 a1) (λr nv=>⟨[.rd A8 r.1,.rd A2 r.2],[(1001,some (.bool true,.glob 1 (Av 64 Aa) Bv))]⟩):=by
 refine Aq 68 func28 Z Z Z λH w=>?_;refine A0<|Eb Z (bx 1 Z) λv1=>Eb Z (bx 2 Z) λv2=>Eb Z (AL 3 Aw (ZrE.nilS (ZrE.nilS ZrE.nil))) λv3=>Zb Z<|A0<|Zq (ld 1 Z Z fH AH Z)<|Zc [1001] [(100,4)] func47 Z (U1 _) λr4 n5=>Zm Z<|Zq (ext Z Z)<|Zq (ext Z Z)<|Za Z<|Zb Z<|A0<|Zq (ld 2 Z Z fH AH Z)<|Zc [1001] [(100,5)] func47 Z (U1 _) λr6 n7=>Zm Z<|Zq (ext Z Z)<|Zq (ext Z Z)<|Za Z<|Zb Z<|A9<|BK [15,21,1001] mixed Z Z<|A6 0 Z Z (ld 1 Z Z fH AH Z)<|A6 1 Z Z (ld 2 Z Z fH AH Z)<|A6 2 Z Z (mv Z)<|A6 4 Z Z (mv Z)<|Em 4 [20,6,29] Z (fS Z<|fS Z<|fS Z<|fN)<|BH 3 [] [(100,15)] Z (by kernel_rfl) Z (gd0 Z) Z func49 Z Z (zr0 _ _) (Y2 Z Z) rN Z (λ_ _=>Ce) λr8 n9=>Em 15 [30] Z (fS Z<|fN)<|Em 5 [25,8,31] Z (fS Z<|fS Z<|fS Z<|fN)<|BH 5 [1001] [(100,21)] Z (by kernel_rfl) Z (gd0 Z) Z func48 Z Z (zsh _ _ _) (aQ Z<|aQ Z<|aQ Z<|aN) (y1 Z) Z (λ_ _=>Ce) λa6 M=>Zf 6 Z Z Ce (asg Z)<|Bg (by kernel_rfl)<|Ak<|A0<|Zq (ld 2 Z Z fH AH Z)<|Zq (bld (x':=(⟨[],[]⟩:A4)) [(0,1),(1,1)] underlying34 Aw Z Jn Z (Bld.done Z))<|Zc [1001] [] func8 Z (MH _ _) λae af=>Zm Z<|Zq (ext Z Z)<|Zq (ext Z Z)<|Eb Z (AL 30 Aw (ZrE.nilS (ZrE.nilS ZrE.nil))) λa2=>Bh aZ [.rd (A3 aZ) [],.val (.slice none 0 0)] 30 [] [.val (.slice none 0 0)] Z Z Z<|Bh Ad [.rd (A3 aZ) [],.rd (A3 Ad) []] 30 [.rd (A3 aZ) []] [] Z Z Z<|BC (R:=A8) (⟨[],[]⟩:A4) 30 Z (Sp.via (Sp.prod (Sp.prod Sp.unit)))<|Es (sto 30 Z Z fH Z Aw)<|Zb Z<|B6 (λ(a8:A4) O U=>Sta (ctx 68 H [Am] w) [(2,.val (A7 v1 0)),(4,.val (A7 v3 0)),(10,.val (M 0)),(11,.val (A7 a2 0))] [(1,some (v1,.box 34 [.rd A8 a0])),(3,some (v3,.box 34 [.val (.slice none 0 0),.val (.slice none 0 0)])),(21,some ((M 0),.list aZ 61 a6)),(30,some (a2,.box 34 [.rd A8 a8])),Am] O U) ?_ (λa8=>?_)
 ·refine A0<|Zm Z<|Zq (Ar Z (.own 21 Z) Z tu31)<|Zm Z<|Zn<|AJ (λ(a7:A4 × Int) O U=>Sta (ctx 68 H [Am] w) [(2,.val (A7 v1 0)),(3,.val (A7 v2 0)),(4,.val (A7 v3 0)),(10,.val (M 0)),(11,.val (A7 a2 0)),(39,.val (M 0)),(40,.rd A2 (a6.length:Int)),(41,.rd A2 a7.2)] [(1,some (v1,.box 34 [.rd A8 a0])),(2,some (v2,.box 34 [.rd A8 a1])),(3,some (v3,.box 34 [.val (.slice none 0 0),.val (.slice none 0 0)])),(21,some ((M 0),.list aZ 61 a6)),(30,some (a2,.box 34 [.rd A8 a7.1])),Am] O U) (λO U h=>Zu h [1,2,3,21,30,1001]) (λa7=>?_)
  refine A0<|Zq (I.lss Z Z)<|Zn<|A9<|gIf Z Z (λac=>?_) (λac=>?_)
  ·refine Zt<|A9<|AD<|A0<|An λah ab=>Zq (ixO 21 Z Z Z ab tu31 Ax)<|Zq (ld 21 Z Z (Foc.el ab) AN Z)<|Eb Z (AL 1100 Ax (.zr (R:=aZ) (x:=(Vector.replicate 32 0)) C0)) λai=>Es (sto 1100 Z Z fH Z Ax)<|Zn<|A9<|A0<|Zq (faB 2 Z Z underlying34 Z (by exact B2))<|Zq (ld 2 Z Z (fP (BT _)) B8 Z)<|Zq (ld 1100 Z Z fH AN Z)<|Zc [] [] func50 Z (KP _ _) λaj ak=>Zj Z (λad=>?_) (λad=>?_)
   ·refine AF<|AG<|QP<|Ak<|Al<|Zq (I.add Z Z)<|Zm Z<|Ah<|AB (λO U h=>Zu h [1,2,3,21,30,1001])
   ·refine Zt<|A0<|Zq (ld 1 Z Z fH AH Z)<|Zq (ld 1100 Z Z fH AN Z)<|Zc [1001] [] func51 Z (U0 _ _) λam ao=>Zm Z<|Zq (ext Z Z)<|Zq (ext Z Z)<|Eb Z (AL 1101 B4 (ZrE.rd (R:=Aa) (x:=0) (Zr.num Z) (ZrE.nilS (ZrE.rd (R:=Ao) (x:=0) (Zr.num Z) (ZrE.rd (R:=Ba) (x:=(⟨0,[],(⟨0,0,0,[]⟩:Az)⟩:AP)) CR (ZrE.rd (R:=Bc) (x:=(⟨0,0⟩:AC)) CM ZrE.nil Z) Z) Z)) Z)) λap=>Bh aZ [.rd Aa 0,.rd (A3 aZ) [],.rd Ao 0,.rd Ba (⟨0,[],(⟨0,0,0,[]⟩:Az)⟩:AP),.rd Bc (⟨0,0⟩:AC)] 1101 [.rd Aa 0] [.rd Ao 0,.rd Ba (⟨0,[],(⟨0,0,0,[]⟩:Az)⟩:AP),.rd Bc (⟨0,0⟩:AC)] Z Z Z<|BC (R:=Ad) (⟨0,[],0,(⟨0,[],(⟨0,0,0,[]⟩:Az)⟩:AP),(⟨0,0⟩:AC)⟩:Ae) 1101 Z (Sp.via (Sp.prod (Sp.prod (Sp.prod (Sp.prod (Sp.prod Sp.unit))))))<|Es (sto 1101 Z Z fH Z B4)<|Zb Z<|Al<|Zq (ld 30 Z Z fH AH Z)<|Zq (ld 1101 Z Z fH Bz Z)<|Zc [1001] [] func52 Z (z10c _ _) λaq ar=>Zm Z<|Zq (ext Z Z)<|Zq (ext Z Z)<|Zq (ext Z Z)<|Es (sto 30 Z Z fH Z Aw)<|Ah<|Au<|Ak<|Al<|Zq (I.add Z Z)<|Zm Z<|Ah<|AB (λO U h=>Zu h [1,2,3,21,30,1001])
  ·refine AF<|AG<|AI<|AA (λO U h=>Zu h [1,3,21,30,1001])
 ·refine A9<|BK [3,1001,1111] mixed Z Z<|A6 0 Z Z (ld 30 Z Z fH AH Z)<|A6 1 Z Z (ld 1 Z Z fH AH Z)<|A6 2 Z Z (mv Z)<|Em 21 [10,65] Z (fS Z<|fS Z<|fN)<|BH 3 [1001] [(100,1111)] Z (by kernel_rfl) Z (gd0 Z) Z func53 Z Z (zpt _ _) (Y2 Z Z) (y1 Z) Z (λ_ _=>Ce) λav aw=>Zf 4 Z Z Cr (Ar Z (.own 1111 Z) Z underlying105)<|DE aZ [.rd (A3 aZ) [],.val (.slice none 0 0)] 3 [] [.val (.slice none 0 0)] Z Z Z<|DE Ad [.rd (A3 aZ) [],.rd (A3 Ad) []] 3 [.rd (A3 aZ) []] [] Z Z Z<|hJoi (R:=A8) (⟨[],[]⟩:A4) 3 Z (Sp.via (Sp.prod (Sp.prod Sp.unit)))<|Zp 5 Z Z Z Z Z (sto 3 Z Z fH Z Aw)<|A6 6 Z Z (asg Z)<|Ha 5 Z Z λax=>Bg (by kernel_rfl)<|Ak<|A5<|Bu [] [1001] Z (eC 3 Z Z AH<|eE Z<|eN) (y1 Z)
def KT (a0:A4) (O:A4):Option (A4 × A4 × Int × Int) :=
 F8 a0 O>>=λU =>
 if U.2 != 0 then
  some ((⟨[],[]⟩:A4),(⟨[],[]⟩:A4),0,U.2)
 else
  KS a0 O>>=λr9 =>
  KS O a0>>=λM =>
  some (w64 (r9.2+M.2))>>=λa2 =>
  some (M.1,r9.1,a2,0)
theorem zn7 (a0:A4) (a1:A4):Aj Tryz.prog 9 [.rd A8 a0,.rd A8 a1] [Am] (KT a0 a1) (λr M=>⟨[.rd A8 r.1,.rd A8 r.2.1,.rd A2 r.2.2.1,.rd A2 r.2.2.2],[(1001,some (.bool true,.glob 1 (Av 64 Aa) Bv))]⟩):=by
 refine Aq 40 func9 Z Z Z λH w=>?_;refine A0<|Eb Z (bx 1 Z) λv1=>Eb Z (bx 2 Z) λv2=>Eb Z (AL 3 Aw (ZrE.nilS (ZrE.nilS ZrE.nil))) λv3=>Eb Z (AL 4 Aw (ZrE.nilS (ZrE.nilS ZrE.nil))) λv4=>Za Z<|Zb Z<|A9<|A0<|Zq (ld 1 Z Z fH AH Z)<|Zq (ld 2 Z Z fH AH Z)<|Zc [1001] [] func8 Z (MH _ _) λr5 n6=>Zm Z<|Zq (ext Z Z)<|Zq (ext Z Z)<|Eb Z (AL 5 Aw (ZrE.nilS (ZrE.nilS ZrE.nil))) λv7=>Bh aZ [.rd (A3 aZ) [],.val (.slice none 0 0)] 5 [] [.val (.slice none 0 0)] Z Z Z<|Bh Ad [.rd (A3 aZ) [],.rd (A3 Ad) []] 5 [.rd (A3 aZ) []] [] Z Z Z<|BC (R:=A8) (⟨[],[]⟩:A4) 5 Z (Sp.via (Sp.prod (Sp.prod Sp.unit)))<|Es (sto 5 Z Z fH Z Aw)<|Zb Z<|A0<|Zm Z<|Zq (I.neq Z Z)<|Zj Z (λh8=>?_) (λh8=>?_)
 ·refine A0<|Zq (CD [(0,1),(1,1)] underlying34 Aw (ZrE.nilS (ZrE.nilS ZrE.nil)) Z (BQ.done Z))<|Zq (CD [(0,1),(1,1)] underlying34 Aw (ZrE.nilS (ZrE.nilS ZrE.nil)) Z (BQ.done Z))<|Zm Z<|Es (CE 3 Z Z (Af.cast (Af.cons Ay (Af.cons Ay Af.nil)) Z) Z (AZ.cons Bo (AZ.cons Bo AZ.nil)) (Af.cast (Af.cons Ay (Af.cons Ay Af.nil)) Z) Aw)<|Es (CE 4 Z Z (Af.cast (Af.cons Ay (Af.cons Ay Af.nil)) Z) Z (AZ.cons Bo (AZ.cons Bo AZ.nil)) (Af.cast (Af.cons Ay (Af.cons Ay Af.nil)) Z) Aw)<|Za Z<|Zb Z<|A5<|Ap<|C6 aZ [.rd (A3 aZ) [],.val (.slice none 0 0)] 3 [] [.val (.slice none 0 0)] Z Z Z<|C6 Ad [.rd (A3 aZ) [],.rd (A3 Ad) []] 3 [.rd (A3 aZ) []] [] Z Z Z<|D0 (R:=A8) (⟨[],[]⟩:A4) 3 Z (Sp.via (Sp.prod (Sp.prod Sp.unit)))<|C6 aZ [.rd (A3 aZ) [],.val (.slice none 0 0)] 4 [] [.val (.slice none 0 0)] Z Z Z<|C6 Ad [.rd (A3 aZ) [],.rd (A3 Ad) []] 4 [.rd (A3 aZ) []] [] Z Z Z<|D0 (R:=A8) (⟨[],[]⟩:A4) 4 Z (Sp.via (Sp.prod (Sp.prod Sp.unit)))<|Bu [] [1001] Z (eC 3 Z Z AH<|eC 4 Z Z AH<|eE Z<|eE Z<|eN) (y1 Z)
 ·refine Zt<|A0<|Zq (ld 1 Z Z fH AH Z)<|Zq (ld 2 Z Z fH AH Z)<|Zc [1001] [] func28 Z (Up _ _) λU a2=>Zm Z<|Zq (ext Z Z)<|Zq (ext Z Z)<|Bh aZ [.rd (A3 aZ) [],.val (.slice none 0 0)] 4 [] [.val (.slice none 0 0)] Z Z Z<|Bh Ad [.rd (A3 aZ) [],.rd (A3 Ad) []] 4 [.rd (A3 aZ) []] [] Z Z Z<|BC (R:=A8) (⟨[],[]⟩:A4) 4 Z (Sp.via (Sp.prod (Sp.prod Sp.unit)))<|Es (sto 4 Z Z fH Z Aw)<|Zb Z<|A0<|Zq (ld 2 Z Z fH AH Z)<|Zq (ld 1 Z Z fH AH Z)<|Zc [1001] [] func28 Z (Up _ _) λO a6=>Zm Z<|Zq (ext Z Z)<|Zq (ext Z Z)<|Bh aZ [.rd (A3 aZ) [],.val (.slice none 0 0)] 3 [] [.val (.slice none 0 0)] Z Z Z<|Bh Ad [.rd (A3 aZ) [],.rd (A3 Ad) []] 3 [.rd (A3 aZ) []] [] Z Z Z<|BC (R:=A8) (⟨[],[]⟩:A4) 3 Z (Sp.via (Sp.prod (Sp.prod Sp.unit)))<|Es (sto 3 Z Z fH Z Aw)<|Zb Z<|A9<|E7 [(4,.val (A7 v3 0)),(5,.val (A7 v4 0)),(10,.rd A2 U.2),(11,.rd A2 O.2)] [Am,(1,some (v1,.box 34 [.rd A8 a0])),(2,some (v2,.box 34 [.rd A8 a1])),(3,some (v3,.box 34 [.rd A8 O.1])),(4,some (v4,.box 34 [.rd A8 U.1])),(5,some (v7,.box 34 [.rd A8 r5.1]))] [1001,1,2,3,4,5] (Zs Z Z Z Z<|sN) (Zi Z<|Zi Z<|Zi Z<|Zi Z<|Zi Z<|Zi Z<|rN)<|gOr [] [⟨3,some ([], λM=>(v3,.box 34 [.rd A8 O.1])),[]⟩,⟨4,some ([], λM=>(v4,.box 34 [.rd A8 U.1])),[]⟩] [pk 35 (.rd A8 O.1) [(0,0,false)],pk 36 (.rd A8 U.1) [(1,0,false)],pd 37 (.rd A2 U.2),pd 38 (.rd A2 O.2),pd 39 (.rd A2 (w64 (U.2+O.2))),⟨none,[(0,0,false)],[],[]⟩,⟨none,[(1,0,false)],[],[]⟩,pd 6 (.rd A2 (w64 (U.2+O.2))),pd 7 (.rd A2 0)] mixed (oC (oRn (λM E=>ld 3 Z Z fH AH Z))<|oC (oRn (λM E=>ld 4 Z Z fH AH Z))<|oC (oRn (λM E=>mv Z))<|oC (oRn (λM E=>mv Z))<|oC (oRn (λM E=>I.add Z Z))<|oC (oEs 3 (λM E=>sto 3 Z Z fH Z Aw))<|oC (oEs 4 (λM E=>sto 4 Z Z fH Z Aw))<|oC (oRn (λM E=>asg Z))<|oC (oRn (λM E=>asg Z))<|oN) λa7=>XN 6 Z λa8=>Ak<|A5<|Bu [] [1001] Z (eC 3 Z Z AH<|eC 4 Z Z AH<|eE Z<|eE Z<|eN) (y1 Z)
def Nm (a0:List A4) (O:List A4) (M:Int):Option (Sum (Sum Bool Unit) Int) :=
 if decide (M<(a0.length:Int)) then
  idx a0 M>>=λU =>
  idx O M>>=λx7 =>
  GM U x7>>=λr9 =>
  if !r9 then
   some (.inl (.inl false))
  else
   some (.inr (w64 (M+1)))
 else
  some (.inl (.inr ()))
def HL (a0:List A4) (M:List A4):Option (Bool) :=
 if (a0.length:Int) != (M.length:Int) then
  some false
 else
  Bi (iter (Nm a0 M) 0) λs2 =>
  some true
theorem Pr (a0:List A4) (U:List A4):Aj Tryz.prog 10 [.rd (A3 A8) a0,.rd (A3 A8) U] [] (HL a0 U) (λr nv=>⟨[.rd Ai r],[]⟩):=by
 refine Aq 27 func10 Z Z Z λH w=>?_;refine A0<|Zb Z<|A9<|A0<|Zm Z<|Zq (Ar Z .rd Z tu22)<|Zm Z<|Zq (Ar Z .rd Z tu22)<|Zq (I.neq Z Z)<|Zj Z (λh1=>?_) (λh1=>?_)
 ·refine A0<|Zb Z<|A5<|Ap<|Ze [] [] Z
 ·refine Zt<|Bt (λ(s2:Unit) M O=>Sta (ctx 27 H [] w) [] [] M O) ?_ (λs2=>?_)
  ·refine A0<|Zb Z<|AJ (λ(s3:Int) M O=>Sta (ctx 27 H [] w) [(0,.rd (A3 A8) a0),(1,.rd (A3 A8) U),(5,.rd A2 s3)] [] M O) (λM O h=>Zu h []) (λs3=>?_);refine A9<|A0<|Zm Z<|Zm Z<|Zq (Ar Z .rd Z tu22)<|Zq (I.lss Z Z)<|Zj Z (λh4=>?_) (λh4=>?_)
   ·refine Zt<|A9<|AD<|A9<|BK [] mixed Z Z<|A6 0 Z Z (mv Z)<|A6 1 Z Z (mv Z)<|BA λx5 h6=>A6 2 Z Z (ixR Z Z h6 tu22 Aw Z)<|A6 3 Z Z (ldR Z AH)<|A6 4 Z Z (mv Z)<|A6 5 Z Z (mv Z)<|BA λx7 h8=>A6 6 Z Z (ixR Z Z h8 tu22 Aw Z)<|A6 7 Z Z (ldR Z AH)<|BH 8 [] [] Z (by kernel_rfl) Z (gd0 Z) Z func11 Z Z (Kz _ _) (Y2 Z Z) rN Z (λ_ _=>DD) λr9 a6=>A6 9 Z Z (By Z)<|Bg (by kernel_rfl)<|Ak<|gIf Z Z (λa2=>?_) (λa2=>?_)
    ·refine A0<|Zb Z<|A5<|B7<|Ap<|Bp<|Bl<|Ze [] [] Z
    ·refine AU<|Au<|Ak<|Al<|Zm Z<|Zq (I.add Z Z)<|Za Z<|Ah<|AB (λM O h=>Zu h [])
   ·refine AF<|AG<|AI<|Bk (λM O h=>Zu h [])
  ·refine A0<|Zb Z<|A5<|Ze [] [] Z
def Ps (a0:List A4) (O:AX) (a2:AX):Option (Bool) :=
 Nc>>=λr3 =>
 (Pm a0>>=λr6 =>
 if !r6 then
  some true
 else
  KN (a0.length:Int) O>>=λr9 =>
  if !r9 then
   some true
  else
   some (!r3))>>=λs5 =>
 if s5 then
  some r3
 else
  Gd a0 O>>=λM =>
  Gd a0 (⟨O.B,O.A⟩:AX)>>=λa8 =>
  idx a0 O.A>>=λad =>
  idx a0 O.B>>=λae =>
  F8 ad ae>>=λU =>
  idx a0 O.A>>=λaf =>
  idx a0 O.B>>=λah =>
  KT af ah>>=λa6 =>
  (if M.2 != a8.2 then
   some true
  else
   if M.2 != U.2 then
    some true
   else
    some (M.2 != a6.2.2.2))>>=λai =>
  if ai then
   some false
  else
   if M.2 != 0 then
    if r3 then
     some (M.2==4)
    else
     some false
   else
    (if (M.1.length:Int) != (a0.length:Int) then
     some (M.1,true)
    else
     HL M.1 a8.1>>=λaj =>
     if !aj then
      some (M.1,true)
     else
      idx M.1 O.A>>=λak =>
      GM ak U.1>>=λam =>
      if !am then
       some (M.1,true)
      else
       idx M.1 O.B>>=λao =>
       GM ao U.1>>=λap =>
       if !ap then
        some (M.1,true)
       else
        GM a6.1 U.1>>=λaq =>
        if !aq then
         some (M.1,true)
        else
         GM a6.2.1 U.1>>=λar =>
         some (M.1,!ar))>>=λa7 =>
    if a7.2 then
     some false
    else
     Gd a7.1 O>>=λaa =>
     if aa.2 != 0 then
      some false
     else
      HL aa.1 a7.1>>=λav =>
      if !av then
       some false
      else
       (KN (a0.length:Int) a2>>=λaw =>
       if !aw then
        some true
       else
        if a2.A==O.A then
         some true
        else
         if a2.A==O.B then
          some true
         else
          if a2.B==O.A then
           some true
          else
           some (a2.B==O.B))>>=λax =>
       if ax then
        some r3
       else
        GR a0 [O,a2]>>=λab =>
        GR a0 [a2,O]>>=λac =>
        if r3 then
         if ab.2==ac.2 then
          HL ab.1 ac.1>>=λay =>
          some ay
         else
          some false
        else
         some false
end
section
theorem zgc (a0:List A4) (a1:AX) (a2:AX):Aj Tryz.prog 3 [.rd (A3 A8) a0,.rd Bn a1,.rd Bn a2] [Am] (Ps a0 a1 a2) (λr M=>⟨[.rd Ai r],[(1001,some (.bool true,.glob 1 (Av 64 Aa) Bv))]⟩):=by
 refine Aq 224 func3 Z Z Z λH w=>?_;refine A0<|Eb Z (bx 1 Z) λv1=>Eb Z (bx 2 Z) λv2=>Zb Z<|A0<|Zc [1001] [] func4 Z (zld) λr3 n4=>Zb Z<|A9<|B6 (λ(s5:Bool) U ww=>Sta (ctx 224 H [Am] w) [(0,.rd (A3 A8) a0),(4,.val (A7 v1 0)),(5,.val (A7 v2 0)),(7,.rd Ai r3),(38,.rd Ai s5)] [(1,some (v1,.box 24 [.rd Bn a1])),(2,some (v2,.box 24 [.rd Bn a2])),Am] U ww) ?_ (λs5=>?_)
 ·refine Al<|Zm Z<|Zc [] [] func5 Z (zn3 _) λr6 n7=>Zq (By Z)<|Zm Z<|AY 28 Z (λh8=>?_) (λh8=>?_)
  ·refine Ac 27 Z h8<|Zk Z<|Zk Z<|Zk Z<|Zk Z<|Zk Z<|Zq (pkT Z Z)<|Zm Z<|Zk Z<|Zk Z<|Zq (pkT Z Z)<|Ah<|AA (λU ww h=>Zu h [1,2,1001])
  ·refine Ac 27 Z h8<|Ab Zx Z Z (mv Z)<|Ab Zx Z Z (Ar Z .rd Z tu22)<|Ab Zx Z Z (ld 1 Z Z fH DM Z)<|CH [] [] Zx Z func6 Z Z (Ug _ _) (Y2 Z Z) rN λr9 bm=>Ab Zx Z Z (By Z)<|Zq (pkF Z Z)<|Zm Z<|AY 35 Z (λad=>?_) (λad=>?_)
   ·refine Ac 33 Z ad<|Ac 34 Z ad<|Zk Z<|Zk Z<|Zq (pkT Z Z)<|Ah<|AA (λU ww h=>Zu h [1,2,1001])
   ·refine Ac 33 Z ad<|Ac 34 Z ad<|Ab Zx Z Z (mv Z)<|Ab Zx Z Z (By Z)<|Zq (pkF Z Z)<|Ah<|AA (λU ww h=>Zu h [1,2,1001])
 ·refine gIf Z Z (λb9=>?_) (λb9=>?_)
  ·refine A0<|Zm Z<|Zb Z<|A5<|Ap<|Ze [] [1001] Z
  ·refine Zt<|A0<|Zm Z<|Zq (ld 1 Z Z fH DM Z)<|Zc [1001] [(100,1100)] func7 Z (Pn _ _) λa7 a8=>Zm Z<|Zq (ext Z Z)<|Zq (ext Z Z)<|Za Z<|Zb Z<|A0<|Zm Z<|Zq (faB 1 Z Z underlying24 Z (by exact ti3))<|Zq (ld 1 Z Z (fP (D3 _)) ty3 Z)<|Zq (faB 1 Z Z underlying24 Z (by exact ti3))<|Zq (ld 1 Z Z (fP (CT _)) ty3 Z)<|Zq (bld (x':=(⟨a1.B,a1.A⟩:AX)) [(0,1),(1,1)] underlying24 Db Z FV Z (Bld.cons (CT _) Z Z<|Bld.cons (D3 _) Z Z<|Bld.done Z))<|Zc [1001] [(100,1101)] func7 Z (Pn _ _) λae ab=>Zm Z<|Zq (ext Z Z)<|Zq (ext Z Z)<|Za Z<|Zb Z<|A9<|E7 [(0,.rd (A3 A8) a0),(4,.val (A7 v1 0)),(5,.val (A7 v2 0)),(7,.rd Ai r3),(8,.val (a8 0)),(9,.rd A2 a7.2),(10,.val (ab 0)),(11,.rd A2 ae.2)] [(1,some (v1,.box 24 [.rd Bn a1])),(2,some (v2,.box 24 [.rd Bn a2])),Am,(1100,some ((a8 0),.list A8 34 a7.1)),(1101,some ((ab 0),.list A8 34 ae.1))] [1,2,1001,1100,1101] (Zs Z Z Z Z<|Zs Z Z Z Z<|sN) (Zi Z<|Zi Z<|Zi Z<|Zi Z<|Zi Z<|rN)<|BV λb3 ba=>BV λb4 bb=>BV λa6 bc=>gOr [] [⟨1,some ([], λM=>(v1,.box 24 [.rd Bn a1])),[]⟩,⟨1001,some ([], λM=>((.bool true),.glob 1 (Av 64 Aa) Bv)),[]⟩,⟨1102,none,[(14,some ([1], λM=>((M 1),.box 34 [.rd A8 (⟨[],[]⟩:A4)]))),(15,some ([1], λM=>((M 1),.box 34 [.rd A8 a6.1])))]⟩] [pd 57 (.rd (A3 A8) a0),pk 58 (.val (A7 v1 (0+0))) [(0,0,false)],pk 59 (.rd A2 a1.A) [(0,0,false)],pd 60 (.rp A8 b3),pd 61 (.rd A8 b3),pd 62 (.rd (A3 A8) a0),pk 63 (.val (A7 v1 (0+1))) [(0,0,false)],pk 64 (.rd A2 a1.B) [(0,0,false)],pd 65 (.rp A8 b4),pd 66 (.rd A8 b4),pk 67 (.tup [.rd A8 a6.1,.rd A2 a6.2]) [(1,0,false)],pd 56 (.tup [.rd A8 a6.1,.rd A2 a6.2]),pd 68 (.rd A8 a6.1),pd 69 (.rd A2 a6.2),⟨some (12,[1], λM=>.val (A7 (M 1) 0)),[(2,0,true)],[1],[]⟩,⟨none,[(2,1,true)],[],[]⟩,pd 13 (.rd A2 a6.2)] mixed (oC (oRn (λM E=>mv Z))<|oC (oRn (λM E=>faB 1 Z Z underlying24 Z (by exact ti3)))<|oC (oRn (λM E=>ld 1 Z Z (fP (CT _)) ty3 Z))<|oC (oRn (λM E=>ixR Z Z ba tu22 Aw Z))<|oC (oRn (λM E=>ldR Z AH))<|oC (oRn (λM E=>mv Z))<|oC (oRn (λM E=>faB 1 Z Z underlying24 Z (by exact ti3)))<|oC (oRn (λM E=>ld 1 Z Z (fP (D3 _)) ty3 Z))<|oC (oRn (λM E=>ixR Z Z bb tu22 Aw Z))<|oC (oRn (λM E=>ldR Z AH))<|oC (oCl [] [1001] [] bc func8 Z (λM=>(MH _ _)) (λM=>(Y2 Z Z)) (λM E=>(y1 Z)))<|oC (oRn (λM E=>mv Z))<|oC (oRn (λM E=>ext Z Z))<|oC (oRn (λM E=>ext Z Z))<|oC (oEb 1102 1 (λM E=>AL 1102 Aw (.zr (R:=A8) (x:=(⟨[],[]⟩:A4)) Jn)))<|oC (oEs 1102 (λM E=>sto 1102 Z Z fH Z Aw))<|oC (oRn (λM E=>asg Z))<|oN) λaf=>Ak<|A9<|E7 [(0,.rd (A3 A8) a0),(4,.val (A7 v1 0)),(5,.val (A7 v2 0)),(7,.rd Ai r3),(8,.val (a8 0)),(9,.rd A2 a7.2),(10,.val (ab 0)),(11,.rd A2 ae.2),(12,.val (A7 (af 1) 0)),(13,.rd A2 a6.2)] [(1,some (v1,.box 24 [.rd Bn a1])),(2,some (v2,.box 24 [.rd Bn a2])),Am,(1100,some ((a8 0),.list A8 34 a7.1)),(1101,some ((ab 0),.list A8 34 ae.1)),(1102,some ((af 1),.box 34 [.rd A8 a6.1]))] [1,2,1001,1100,1101,1102] (Zs Z Z Z Z<|Zs Z Z Z Z<|sS Z<|sS Z<|sN) (Zi Z<|Zi Z<|Zi Z<|Zi Z<|Zi Z<|Zi Z<|rN)<|BV λb5 bd=>BV λb6 be=>BV λO bf=>gOr [] [⟨1,some ([], λM=>(v1,.box 24 [.rd Bn a1])),[]⟩,⟨1001,some ([], λM=>((.bool true),.glob 1 (Av 64 Aa) Bv)),[]⟩,⟨1103,none,[(16,some ([1], λM=>((M 1),.box 34 [.rd A8 (⟨[],[]⟩:A4)]))),(18,some ([1], λM=>((M 1),.box 34 [.rd A8 O.1])))]⟩,⟨1104,none,[(17,some ([2], λM=>((M 2),.box 34 [.rd A8 (⟨[],[]⟩:A4)]))),(19,some ([2], λM=>((M 2),.box 34 [.rd A8 O.2.1])))]⟩] [pd 71 (.rd (A3 A8) a0),pk 72 (.val (A7 v1 (0+0))) [(0,0,false)],pk 73 (.rd A2 a1.A) [(0,0,false)],pd 74 (.rp A8 b5),pd 75 (.rd A8 b5),pd 76 (.rd (A3 A8) a0),pk 77 (.val (A7 v1 (0+1))) [(0,0,false)],pk 78 (.rd A2 a1.B) [(0,0,false)],pd 79 (.rp A8 b6),pd 80 (.rd A8 b6),pk 81 (.tup [.rd A8 O.1,.rd A8 O.2.1,.rd A2 O.2.2.1,.rd A2 O.2.2.2]) [(1,0,false)],pd 70 (.tup [.rd A8 O.1,.rd A8 O.2.1,.rd A2 O.2.2.1,.rd A2 O.2.2.2]),pd 82 (.rd A8 O.1),pd 83 (.rd A8 O.2.1),pd 84 (.rd A2 O.2.2.1),pd 85 (.rd A2 O.2.2.2),⟨some (14,[1], λM=>.val (A7 (M 1) 0)),[(2,0,true)],[1],[]⟩,⟨some (15,[2], λM=>.val (A7 (M 2) 0)),[(3,0,true)],[2],[]⟩,⟨none,[(2,1,true)],[],[]⟩,⟨none,[(3,1,true)],[],[]⟩,pd 16 (.rd A2 O.2.2.1),pd 17 (.rd A2 O.2.2.2)] mixed (oC (oRn (λM E=>mv Z))<|oC (oRn (λM E=>faB 1 Z Z underlying24 Z (by exact ti3)))<|oC (oRn (λM E=>ld 1 Z Z (fP (CT _)) ty3 Z))<|oC (oRn (λM E=>ixR Z Z bd tu22 Aw Z))<|oC (oRn (λM E=>ldR Z AH))<|oC (oRn (λM E=>mv Z))<|oC (oRn (λM E=>faB 1 Z Z underlying24 Z (by exact ti3)))<|oC (oRn (λM E=>ld 1 Z Z (fP (D3 _)) ty3 Z))<|oC (oRn (λM E=>ixR Z Z be tu22 Aw Z))<|oC (oRn (λM E=>ldR Z AH))<|oC (oCl [] [1001] [] bf func9 Z (λM=>(zn7 _ _)) (λM=>(Y2 Z Z)) (λM E=>(y1 Z)))<|oC (oRn (λM E=>mv Z))<|oC (oRn (λM E=>ext Z Z))<|oC (oRn (λM E=>ext Z Z))<|oC (oRn (λM E=>ext Z Z))<|oC (oRn (λM E=>ext Z Z))<|oC (oEb 1103 1 (λM E=>AL 1103 Aw (.zr (R:=A8) (x:=(⟨[],[]⟩:A4)) Jn)))<|oC (oEb 1104 2 (λM E=>AL 1104 Aw (.zr (R:=A8) (x:=(⟨[],[]⟩:A4)) Jn)))<|oC (oEs 1103 (λM E=>sto 1103 Z Z fH Z Aw))<|oC (oEs 1104 (λM E=>sto 1104 Z Z fH Z Aw))<|oC (oRn (λM E=>asg Z))<|oC (oRn (λM E=>asg Z))<|oN) λac=>Ak<|A9<|B6 (λ(b7:Bool) U ww=>∃ M:Nat->Value,Sta (ctx 224 H [Am] w) [(0,.rd (A3 A8) a0),(4,.val (A7 v1 0)),(5,.val (A7 v2 0)),(7,.rd Ai r3),(8,.val (a8 0)),(9,.rd A2 a7.2),(10,.val (ab 0)),(12,.val (A7 (M 0) 0)),(14,.val (A7 (M 1) 0)),(15,.val (A7 (M 2) 0)),(98,.rd Ai b7)] [(1,some (v1,.box 24 [.rd Bn a1])),(2,some (v2,.box 24 [.rd Bn a2])),(1100,some ((a8 0),.list A8 34 a7.1)),(1101,some ((ab 0),.list A8 34 ae.1)),(1102,some ((M 0),.box 34 [.rd A8 a6.1])),(1103,some ((M 1),.box 34 [.rd A8 O.1])),(1104,some ((M 2),.box 34 [.rd A8 O.2.1])),Am] U ww) ?_ (λb7=>?_)
   ·refine Al<|Zm Z<|Zm Z<|Zq (I.neq Z Z)<|Zm Z<|AY 89 Z (λax=>?_) (λax=>?_)
    ·refine Ac 88 Z ax<|Zk Z<|Zk Z<|Zk Z<|Zq (pkT Z Z)<|Zm Z<|Zk Z<|Zk Z<|Zk Z<|Zq (pkT Z Z)<|Ah<|AA (λU ww h=>⟨nvl [(af 1),(ac 1),(ac 2)],Zu h [1,2,1100,1101,1102,1103,1104,1001]⟩)
    ·refine Ac 88 Z ax<|Ab Zx Z Z (mv Z)<|Ab Zx Z Z (mv Z)<|Ab Zx Z Z (I.neq Z Z)<|Zq (pkF Z Z)<|Zm Z<|AY 94 Z (λah=>?_) (λah=>?_)
     ·refine Ac 92 Z ah<|Ac 93 Z ah<|Zk Z<|Zk Z<|Zk Z<|Zq (pkT Z Z)<|Ah<|AA (λU ww h=>⟨nvl [(af 1),(ac 1),(ac 2)],Zu h [1,2,1100,1101,1102,1103,1104,1001]⟩)
     ·refine Ac 92 Z ah<|Ac 93 Z ah<|Ab Zx Z Z (mv Z)<|Ab Zx Z Z (mv Z)<|Ab Zx Z Z (I.neq Z Z)<|Zq (pkF Z Z)<|Ah<|AA (λU ww h=>⟨nvl [(af 1),(ac 1),(ac 2)],Zu h [1,2,1100,1101,1102,1103,1104,1001]⟩)
   ·refine gEx λbn=>gIf Z Z (λbg=>?_) (λbg=>?_)
    ·refine A0<|Zb Z<|A5<|Ap<|Ze [] [1001] Z
    ·refine Zt<|A9<|A0<|Zm Z<|Zq (I.neq Z Z)<|Zj Z (λbh=>?_) (λbh=>?_)
     ·refine A0<|Zm Z<|Zm Z<|AY 102 Z (λai=>?_) (λai=>?_)
      ·refine Ac 7 Z ai<|Ac 101 Z ai<|Ab Zx Z Z (mv Z)<|Ab Zx Z Z (I.eql Z Z)<|Zq (pkT Z Z)<|Zb Z<|A5<|Ap<|Ze [] [1001] Z
      ·refine Ac 7 Z ai<|Ac 101 Z ai<|Zk Z<|Zk Z<|Zq (pkF Z Z)<|Zb Z<|A5<|Ap<|Ze [] [1001] Z
     ·refine Zt<|A9<|B6 (λ(ay:(List A4) × Bool) U ww=>Sta (ctx 224 H [Am] w) [(0,.rd (A3 A8) a0),(4,.val (A7 v1 0)),(5,.val (A7 v2 0)),(7,.rd Ai r3),(8,.rd (A3 A8) ay.1),(148,.rd Ai ay.2)] [(1,some (v1,.box 24 [.rd Bn a1])),(2,some (v2,.box 24 [.rd Bn a2])),Am] U ww) ?_ (λay=>?_)
      ·refine BK [] mixed Z Z<|A6 0 Z Z (mv Z)<|A6 1 Z Z (Ar Z (.own 1100 Z) Z tu22)<|A6 2 Z Z (mv Z)<|A6 3 Z Z (Ar Z .rd Z tu22)<|A6 4 Z Z (I.neq Z Z)<|A6 5 Z Z (mv Z)<|hIf 111 Z Z (λaz=>?_) (λaz=>?_)
       ·refine hKn 110 Z Z az<|hSk 6 Z Z<|hSk 7 Z Z<|hSk 8 Z Z<|hSk 9 Z Z<|A6 10 Z Z (pkT Z Z)<|A6 11 Z Z (mv Z)<|hSk 12 Z Z<|hSk 13 Z Z<|hSk 14 Z Z<|hSk 15 Z Z<|hSk 16 Z Z<|hSk 17 Z Z<|hSk 18 Z Z<|hSk 19 Z Z<|A6 20 Z Z (pkT Z Z)<|A6 21 Z Z (mv Z)<|hSk 22 Z Z<|hSk 23 Z Z<|hSk 24 Z Z<|hSk 25 Z Z<|hSk 26 Z Z<|hSk 27 Z Z<|hSk 28 Z Z<|hSk 29 Z Z<|A6 30 Z Z (pkT Z Z)<|A6 31 Z Z (mv Z)<|hSk 32 Z Z<|hSk 33 Z Z<|hSk 34 Z Z<|hSk 35 Z Z<|A6 36 Z Z (pkT Z Z)<|A6 37 Z Z (mv Z)<|hSk 38 Z Z<|hSk 39 Z Z<|hSk 40 Z Z<|hSk 41 Z Z<|A6 42 Z Z (pkT Z Z)<|Bg (by kernel_rfl)<|eFrz 1100 [8,106] Z (fS Z<|fS Z<|fN)<|AA (λU ww h=>Zu h [1,2,1001])
       ·refine hKn 110 Z Z az<|Zg 6 Z Z (mv Z)<|Zg 7 Z Z (mv Z)<|Em 1100 [8,106,112] Z (fS Z<|fS Z<|fS Z<|fN)<|Em 1101 [10,113] Z (fS Z<|fS Z<|fN)<|BH 8 [] [] Z (by kernel_rfl) Z Zx Z func10 Z Z (Pr _ _) (Y2 Z Z) rN Z (λ_ _=>DD) λbo bp=>Zg 9 Z Z (By Z)<|A6 10 Z Z (pkF Z Z)<|A6 11 Z Z (mv Z)<|hIf 117 Z Z (λaj=>?_) (λaj=>?_)
        ·refine hKn 115 Z Z aj<|hKn 116 Z Z aj<|hSk 12 Z Z<|hSk 13 Z Z<|hSk 14 Z Z<|hSk 15 Z Z<|hSk 16 Z Z<|hSk 17 Z Z<|hSk 18 Z Z<|hSk 19 Z Z<|A6 20 Z Z (pkT Z Z)<|A6 21 Z Z (mv Z)<|hSk 22 Z Z<|hSk 23 Z Z<|hSk 24 Z Z<|hSk 25 Z Z<|hSk 26 Z Z<|hSk 27 Z Z<|hSk 28 Z Z<|hSk 29 Z Z<|A6 30 Z Z (pkT Z Z)<|A6 31 Z Z (mv Z)<|hSk 32 Z Z<|hSk 33 Z Z<|hSk 34 Z Z<|hSk 35 Z Z<|A6 36 Z Z (pkT Z Z)<|A6 37 Z Z (mv Z)<|hSk 38 Z Z<|hSk 39 Z Z<|hSk 40 Z Z<|hSk 41 Z Z<|A6 42 Z Z (pkT Z Z)<|Bg (by kernel_rfl)<|AA (λU ww h=>Zu h [1,2,1001])
        ·refine hKn 115 Z Z aj<|hKn 116 Z Z aj<|E4 12 Z (by kernel_rfl) (by kernel_rfl) (by kernel_rfl) Zx Z Z (mv Z)<|Zg 13 Z Z (faB 1 Z Z underlying24 Z (by exact ti3))<|Zg 14 Z Z (ld 1 Z Z (fP (CT _)) ty3 Z)<|BA λbq bi=>E4 15 Z (by kernel_rfl) (by kernel_rfl) (by kernel_rfl) Zx Z Z (ixR Z Z bi tu22 Aw Z)<|Zg 17 Z Z (ld 1102 Z Z fH AH Z)<|hRun 16 Z (by kernel_rfl) Zx Z Z anyJ (ldR Z AH)<|BH 18 [] [] Z (by kernel_rfl) Z Zx Z func11 Z Z (Kz _ _) (Y2 Z Z) rN Z (λ_ _=>DD) λbr bt=>Zg 19 Z Z (By Z)<|A6 20 Z Z (pkF Z Z)<|A6 21 Z Z (mv Z)<|hIf 127 Z Z (λak=>?_) (λak=>?_)
         ·refine hKn 125 Z Z ak<|hKn 126 Z Z ak<|hSk 22 Z Z<|hSk 23 Z Z<|hSk 24 Z Z<|hSk 25 Z Z<|hSk 26 Z Z<|hSk 27 Z Z<|hSk 28 Z Z<|hSk 29 Z Z<|A6 30 Z Z (pkT Z Z)<|A6 31 Z Z (mv Z)<|hSk 32 Z Z<|hSk 33 Z Z<|hSk 34 Z Z<|hSk 35 Z Z<|A6 36 Z Z (pkT Z Z)<|A6 37 Z Z (mv Z)<|hSk 38 Z Z<|hSk 39 Z Z<|hSk 40 Z Z<|hSk 41 Z Z<|A6 42 Z Z (pkT Z Z)<|Bg (by kernel_rfl)<|AA (λU ww h=>Zu h [1,2,1001])
         ·refine hKn 125 Z Z ak<|hKn 126 Z Z ak<|E4 22 Z (by kernel_rfl) (by kernel_rfl) (by kernel_rfl) Zx Z Z (mv Z)<|Zg 23 Z Z (faB 1 Z Z underlying24 Z (by exact ti3))<|Zg 24 Z Z (ld 1 Z Z (fP (D3 _)) ty3 Z)<|BA λbu bj=>E4 25 Z (by kernel_rfl) (by kernel_rfl) (by kernel_rfl) Zx Z Z (ixR Z Z bj tu22 Aw Z)<|Zg 27 Z Z (ld 1102 Z Z fH AH Z)<|hRun 26 Z (by kernel_rfl) Zx Z Z anyJ (ldR Z AH)<|BH 28 [] [] Z (by kernel_rfl) Z Zx Z func11 Z Z (Kz _ _) (Y2 Z Z) rN Z (λ_ _=>DD) λbv bw=>Zg 29 Z Z (By Z)<|A6 30 Z Z (pkF Z Z)<|A6 31 Z Z (mv Z)<|hIf 137 Z Z (λam=>?_) (λam=>?_)
          ·refine hKn 135 Z Z am<|hKn 136 Z Z am<|hSk 32 Z Z<|hSk 33 Z Z<|hSk 34 Z Z<|hSk 35 Z Z<|A6 36 Z Z (pkT Z Z)<|A6 37 Z Z (mv Z)<|hSk 38 Z Z<|hSk 39 Z Z<|hSk 40 Z Z<|hSk 41 Z Z<|A6 42 Z Z (pkT Z Z)<|Bg (by kernel_rfl)<|AA (λU ww h=>Zu h [1,2,1001])
          ·refine hKn 135 Z Z am<|hKn 136 Z Z am<|Zg 32 Z Z (ld 1103 Z Z fH AH Z)<|Zg 33 Z Z (ld 1102 Z Z fH AH Z)<|BH 34 [] [] Z (by kernel_rfl) Z Zx Z func11 Z Z (Kz _ _) (Y2 Z Z) rN Z (λ_ _=>DD) λbz c1=>Zg 35 Z Z (By Z)<|A6 36 Z Z (pkF Z Z)<|A6 37 Z Z (mv Z)<|hIf 143 Z Z (λao=>?_) (λao=>?_)
           ·refine hKn 141 Z Z ao<|hKn 142 Z Z ao<|hSk 38 Z Z<|hSk 39 Z Z<|hSk 40 Z Z<|hSk 41 Z Z<|A6 42 Z Z (pkT Z Z)<|Bg (by kernel_rfl)<|AA (λU ww h=>Zu h [1,2,1001])
           ·refine hKn 141 Z Z ao<|hKn 142 Z Z ao<|Zg 38 Z Z (ld 1104 Z Z fH AH Z)<|Zg 39 Z Z (ld 1102 Z Z fH AH Z)<|BH 40 [] [] Z (by kernel_rfl) Z Zx Z func11 Z Z (Kz _ _) (Y2 Z Z) rN Z (λ_ _=>DD) λc2 c3=>Zg 41 Z Z (By Z)<|A6 42 Z Z (pkF Z Z)<|Bg (by kernel_rfl)<|AA (λU ww h=>Zu h [1,2,1001])
      ·refine gIf Z Z (λbk=>?_) (λbk=>?_)
       ·refine A0<|Zb Z<|A5<|Ap<|Ze [] [1001] Z
       ·refine Zt<|A0<|Zm Z<|Zq (ld 1 Z Z fH DM Z)<|Zc [1001] [(100,1237)] func7 Z (Pn _ _) λc4 c5=>Zm Z<|Zq (ext Z Z)<|Zq (ext Z Z)<|Za Z<|Zb Z<|A9<|A0<|Zm Z<|Zq (I.neq Z Z)<|Zm Z<|AY 157 Z (λb0=>?_) (λb0=>?_)
        ·refine Ac 156 Z b0<|Zk Z<|Zk Z<|Zk Z<|Zk Z<|Zq (pkT Z Z)<|Zn<|Dm Z<|A0<|Zb Z<|A5<|Ap<|Ze [] [1001] Z
        ·refine Ac 156 Z b0<|Ab Zx Z Z (mv Z)<|Ab Zx Z Z (mv Z)<|BG 1237 [153,18,158] Z (fS Z<|fS Z<|fS Z<|fN)<|CH [] [] Zx Z func10 Z Z (Pr _ _) (Y2 Z Z) rN λc6 c7=>Ab Zx Z Z (By Z)<|Zq (pkF Z Z)<|Zj Z (λb1=>?_) (λb1=>?_)
         ·refine gKn 161 Z b1<|A0<|Zb Z<|A5<|Ap<|Ze [] [1001] Z
         ·refine gKn 161 Z b1<|Zt<|A9<|B6 (λ(b8:Bool) U ww=>Sta (ctx 224 H [Am] w) [(0,.rd (A3 A8) a0),(4,.val (A7 v1 0)),(5,.val (A7 v2 0)),(7,.rd Ai r3),(195,.rd Ai b8)] [(1,some (v1,.box 24 [.rd Bn a1])),(2,some (v2,.box 24 [.rd Bn a2])),Am] U ww) ?_ (λb8=>?_)
          ·refine Al<|Zm Z<|Zq (Ar Z .rd Z tu22)<|Zq (ld 2 Z Z fH DM Z)<|Zc [] [] func6 Z (Ug _ _) λc8 c9=>Zq (By Z)<|Zm Z<|AY 168 Z (λb2=>?_) (λb2=>?_)
           ·refine Ac 167 Z b2<|Zk Z<|Zk Z<|Zk Z<|Zk Z<|Zk Z<|Zq (pkT Z Z)<|Zm Z<|Zk Z<|Zk Z<|Zk Z<|Zk Z<|Zk Z<|Zq (pkT Z Z)<|Zm Z<|Zk Z<|Zk Z<|Zk Z<|Zk Z<|Zk Z<|Zq (pkT Z Z)<|Zm Z<|Zk Z<|Zk Z<|Zk Z<|Zk Z<|Zk Z<|Zq (pkT Z Z)<|Ah<|AA (λU ww h=>Zu h [1,2,1001])
           ·refine Ac 167 Z b2<|Ab Zx Z Z (faB 2 Z Z underlying24 Z (by exact ti3))<|Ab Zx Z Z (ld 2 Z Z (fP (CT _)) ty3 Z)<|Ab Zx Z Z (faB 1 Z Z underlying24 Z (by exact ti3))<|Ab Zx Z Z (ld 1 Z Z (fP (CT _)) ty3 Z)<|Ab Zx Z Z (I.eql Z Z)<|Zq (pkF Z Z)<|Zm Z<|AY 175 Z (λap=>?_) (λap=>?_)
            ·refine Ac 173 Z ap<|Ac 174 Z ap<|Zk Z<|Zk Z<|Zk Z<|Zk Z<|Zk Z<|Zq (pkT Z Z)<|Zm Z<|Zk Z<|Zk Z<|Zk Z<|Zk Z<|Zk Z<|Zq (pkT Z Z)<|Zm Z<|Zk Z<|Zk Z<|Zk Z<|Zk Z<|Zk Z<|Zq (pkT Z Z)<|Ah<|AA (λU ww h=>Zu h [1,2,1001])
            ·refine Ac 173 Z ap<|Ac 174 Z ap<|Ab Zx Z Z (faB 2 Z Z underlying24 Z (by exact ti3))<|Ab Zx Z Z (ld 2 Z Z (fP (CT _)) ty3 Z)<|Ab Zx Z Z (faB 1 Z Z underlying24 Z (by exact ti3))<|Ab Zx Z Z (ld 1 Z Z (fP (D3 _)) ty3 Z)<|Ab Zx Z Z (I.eql Z Z)<|Zq (pkF Z Z)<|Zm Z<|AY 182 Z (λaq=>?_) (λaq=>?_)
             ·refine Ac 180 Z aq<|Ac 181 Z aq<|Zk Z<|Zk Z<|Zk Z<|Zk Z<|Zk Z<|Zq (pkT Z Z)<|Zm Z<|Zk Z<|Zk Z<|Zk Z<|Zk Z<|Zk Z<|Zq (pkT Z Z)<|Ah<|AA (λU ww h=>Zu h [1,2,1001])
             ·refine Ac 180 Z aq<|Ac 181 Z aq<|Ab Zx Z Z (faB 2 Z Z underlying24 Z (by exact ti3))<|Ab Zx Z Z (ld 2 Z Z (fP (D3 _)) ty3 Z)<|Ab Zx Z Z (faB 1 Z Z underlying24 Z (by exact ti3))<|Ab Zx Z Z (ld 1 Z Z (fP (CT _)) ty3 Z)<|Ab Zx Z Z (I.eql Z Z)<|Zq (pkF Z Z)<|Zm Z<|AY 189 Z (λar=>?_) (λar=>?_)
              ·refine Ac 187 Z ar<|Ac 188 Z ar<|Zk Z<|Zk Z<|Zk Z<|Zk Z<|Zk Z<|Zq (pkT Z Z)<|Ah<|AA (λU ww h=>Zu h [1,2,1001])
              ·refine Ac 187 Z ar<|Ac 188 Z ar<|Ab Zx Z Z (faB 2 Z Z underlying24 Z (by exact ti3))<|Ab Zx Z Z (ld 2 Z Z (fP (D3 _)) ty3 Z)<|Ab Zx Z Z (faB 1 Z Z underlying24 Z (by exact ti3))<|Ab Zx Z Z (ld 1 Z Z (fP (D3 _)) ty3 Z)<|Ab Zx Z Z (I.eql Z Z)<|Zq (pkF Z Z)<|Ah<|AA (λU ww h=>Zu h [1,2,1001])
          ·refine gIf Z Z (λbl=>?_) (λbl=>?_)
           ·refine A0<|Zm Z<|Zb Z<|A5<|Ap<|Ze [] [1001] Z
           ·refine Zt<|A0<|Zm Z<|Zq (ld 1 Z Z fH DM Z)<|Zq (ld 2 Z Z fH DM Z)<|Ef Z (lit (R:=Bn) ([a1,a2]:List AX) 1238 (pP Z Z<|pP Z Z<|pN) Z tu42 Db Z Z) λca=>BG 1238 [201] Z (fS Z<|fN)<|Zc [1001] [(100,1239)] func12 Z (Pg _ _) λcb cc=>Zm Z<|Zq (ext Z Z)<|Zq (ext Z Z)<|Za Z<|Zb Z<|A0<|Zm Z<|Zq (ld 2 Z Z fH DM Z)<|Zq (ld 1 Z Z fH DM Z)<|Ef Z (lit (R:=Bn) ([a2,a1]:List AX) 1240 (pP Z Z<|pP Z Z<|pN) Z tu42 Db Z Z) λcd=>BG 1240 [209] Z (fS Z<|fN)<|Zc [1001] [(100,1241)] func12 Z (Pg _ _) λce cf=>Zm Z<|Zq (ext Z Z)<|Zq (ext Z Z)<|Za Z<|Zb Z<|A0<|Zm Z<|Zm Z<|AY 214 Z (λav=>?_) (λav=>?_)
            ·refine Ac 7 Z av<|Ac 213 Z av<|Ab Zx Z Z (mv Z)<|Ab Zx Z Z (mv Z)<|Ab Zx Z Z (I.eql Z Z)<|Zq (pkT Z Z)<|Zm Z<|AY 219 Z (λaw=>?_) (λaw=>?_)
             ·refine Ac 217 Z aw<|Ac 218 Z aw<|Ab Zx Z Z (mv Z)<|Ab Zx Z Z (mv Z)<|BG 1239 [203,20,220] Z (fS Z<|fS Z<|fS Z<|fN)<|BG 1241 [211,22,221] Z (fS Z<|fS Z<|fS Z<|fN)<|CH [] [] Zx Z func10 Z Z (Pr _ _) (Y2 Z Z) rN λcg ch=>Zq (pkT Z Z)<|Zb Z<|A5<|Ze [] [1001] Z
             ·refine Ac 217 Z aw<|Ac 218 Z aw<|Zk Z<|Zk Z<|Zk Z<|Zq (pkF Z Z)<|Zb Z<|A5<|Ze [] [1001] Z
            ·refine Ac 7 Z av<|Ac 213 Z av<|Zk Z<|Zk Z<|Zk Z<|Zq (pkF Z Z)<|Zm Z<|Zk Z<|Zk Z<|Zk Z<|Zq (pkF Z Z)<|Zb Z<|A5<|Ze [] [1001] Z
end
section
section
variable {α:Type}
theorem DP {l:List α} {i:Nat} (d:α) (h:i<l.length):idx l (i:Int)=some (l.getD i d):=by rw[AE h]; simp[h]
theorem Pt {n:Nat} {v:Vector α n} {i:Int}:B3 v i=idx v.toList i:=rfl
theorem Uq {n:Nat} {v:Vector α n} {i:Nat} {x:α}:(BY v (i:Int) x).toList=v.toList.set i x:=by
 unfold BY; simp
theorem z16a {l:List α} {i j:Nat} {x d:α} (h:i<l.length):(l.set i x).getD j d=if i=j then x else l.getD j d:=by
 simp only[List.getD_eq_getElem?_getD,List.getElem?_set];by_cases e:i=j
 ·subst e; simp[h]
 ·simp[e]
theorem Ur {l:List α} {n i:Nat} {d:α} (h:i<n):(l.take n).getD i d=l.getD i d:=by
 simp[List.getD_eq_getElem?_getD,List.getElem?_take,h]
theorem zth {l:List α} {n:Nat} {x:α} (h:n<l.length):(l.set n x).take (n+1)=l.take n++[x]:=by
 rw[List.take_add_one,List.getElem?_set_self h,List.take_set_of_le (Nat.le_refl _)]; rfl
end
theorem zww (a:UInt32) (n:Nat):(FO a n).toNat=a.toNat * 2 ^ (min n 32) % 4294967296:=by unfold FO; simp
theorem Nn (a:UInt32) (n:Nat):(BD a n).toNat=a.toNat / 2 ^ (min n 32):=by
 unfold BD;have h1:=UInt32.toNat_lt a;have h2:a.toNat / 2 ^ (min n 32)<=a.toNat:=Nat.div_le_self _ _
 simp; omega
def tr (x:UInt32) (n:Nat):UInt32:=BD x n ||| FO x (32 - n)
theorem FI (x:UInt32) (n:Nat) (h:n<=32):EC x (n:Int)=some (tr x n):=by
 unfold EC;rw[Cn (by omega),B1 (by omega) (by omega),Cn (by omega)];simp only[bS];unfold tr;rw[show ((32:Int) - (n:Int)).toNat=32 - n by omega,Int.toNat_natCast]
theorem HM (x:UInt32) (n:Nat) (h:1<=n) (h2:n<=31):FA x (-(n:Int))=some (tr x n):=by
 have key:∀ n:Fin 32,1<=n.val->(UInt64.ofInt (-(n.val:Int)) &&& 31)=UInt64.ofNat (32 - n.val):=by decide +kernel
 have M:∀ n:Fin 32,1<=n.val->(UInt64.ofNat (32 - n.val)).toNat=32 - n.val/\(32 - UInt64.ofNat (32 - n.val)).toNat=n.val:=by decide +kernel
 unfold FA;rw[key ⟨n, by omega⟩ h];simp only[bS];rw[(M ⟨n, by omega⟩ h).1,(M ⟨n, by omega⟩ h).2];unfold tr;rw[UInt32.or_comm]
theorem Us (x:UInt32) (a b c:Nat) (M:1<=a/\a<=31) (hb:1<=b/\b<=31) (O:1<=c/\c<=31):Jz x (a:Int) (b:Int) (c:Int)=some ((tr x a ^^^ tr x b) ^^^ tr x c):=by
 unfold Jz;rw[B1 (by omega) (by omega),B1 (by omega) (by omega),B1 (by omega) (by omega)];rw[show (0:Int) - (a:Int) = -(a:Int) by omega, show (0:Int) - (b:Int) = -(b:Int) by omega, show (0:Int) - (c:Int) = -(c:Int) by omega];rw[HM x a M.1 M.2,HM x b hb.1 hb.2,HM x c O.1 O.2];rfl
def sg0 (x:UInt32):UInt32:=(tr x 7 ^^^ tr x 18) ^^^ BD x 3
def sg1 (x:UInt32):UInt32:=(tr x 17 ^^^ tr x 19) ^^^ BD x 10
def word (b:List UInt8) (k:Nat):UInt32:=(((b.getD (4 * k) 0).toUInt32 * 256+(b.getD (4 * k+1) 0).toUInt32) * 256+(b.getD (4 * k+2) 0).toUInt32) * 256+(b.getD (4 * k+3) 0).toUInt32
def HN (l:List UInt32):List UInt32:=l++[((l.getD (l.length - 16) 0+l.getD (l.length - 7) 0)+sg0 (l.getD (l.length - 15) 0))+sg1 (l.getD (l.length - 2) 0)]
def BX (b:List UInt8):Nat->List UInt32
 | 0=>(List.range 16).map (word b)
 | n+1=>HN (BX b n)
theorem IW (b:List UInt8):∀ n,(BX b n).length=16+n
 | 0=>by simp[BX]
 | n+1=>by simp[BX,HN,IW b n]; omega
theorem Ut (l:List UInt32) (t:Nat) (h:l.length=t):HN l=l++[((l.getD (t - 16) 0+l.getD (t - 7) 0)+sg0 (l.getD (t - 15) 0))+sg1 (l.getD (t - 2) 0)]:=by subst h; rfl
theorem z175 (b:List UInt8) (hb:64<=b.length):iter (JO b) ([],0)=some (BX b 0):=by
 refine C1 (F:=JO b) (b:=BX b 0) 16 (λi=>((List.range i).map (word b),(i:Int))) (λi hi=>?_) ?_
 ·unfold JO;rw[if_pos (by simp; omega)];simp only[];rw[B1 (x:=4 * (i:Int)) (by omega) (by omega),B1 (x:=4 * (i:Int)+1) (by omega) (by omega),B1 (x:=4 * (i:Int)+2) (by omega) (by omega),B1 (x:=4 * (i:Int)+3) (by omega) (by omega)];rw[show (4 * (i:Int))=((4 * i:Nat):Int) by omega, show (((4 * i:Nat):Int)+1)=((4 * i+1:Nat):Int) by omega, show (((4 * i:Nat):Int)+2)=((4 * i+2:Nat):Int) by omega, show (((4 * i:Nat):Int)+3)=((4 * i+3:Nat):Int) by omega]
  rw[DP 0 (by omega),DP 0 (by omega),DP 0 (by omega),DP 0 (by omega)];simp only[bS];rw[Bw (by simp; omega)];simp only[bS,AO (show i<9223372036854775807 by omega)];rw[List.range_succ,List.map_append];rfl
 ·unfold JO;rw[if_neg (by simp)];rfl
theorem z16k (b:List UInt8):iter (JP) (BX b 0,16)=some (BX b 48):=by
 refine C1 (F:=JP) (b:=BX b 48) 48 (λi=>(BX b i,((16+i:Nat):Int))) (λi hi=>?_) ?_
 ·have hl:=IW b i;unfold JP;rw[if_pos (by simp; omega)];simp only[];rw[B1 (x:=((16+i:Nat):Int) - 15) (by omega) (by omega),B1 (x:=((16+i:Nat):Int) - 2) (by omega) (by omega),B1 (x:=((16+i:Nat):Int) - 16) (by omega) (by omega),B1 (x:=((16+i:Nat):Int) - 7) (by omega) (by omega)];rw[show ((16+i:Nat):Int) - 15=((16+i - 15:Nat):Int) by omega, show ((16+i:Nat):Int) - 2=((16+i - 2:Nat):Int) by omega, show ((16+i:Nat):Int) - 16=((16+i - 16:Nat):Int) by omega, show ((16+i:Nat):Int) - 7=((16+i - 7:Nat):Int) by omega]
  rw[DP 0 (by omega),DP 0 (by omega),DP 0 (by omega),DP 0 (by omega)];simp only[bS];rw[show (7:Int)=((7:Nat):Int) from rfl, show (18:Int)=((18:Nat):Int) from rfl, show (17:Int)=((17:Nat):Int) from rfl, show (19:Int)=((19:Nat):Int) from rfl];rw[FI _ 7 (by omega),FI _ 18 (by omega),FI _ 17 (by omega),FI _ 19 (by omega)];simp only[bS];rw[Bw (by simp; omega)];simp only[bS,AO (show 16+i<9223372036854775807 by omega)]
  rw[show BX b (i+1)=HN (BX b i) from rfl,Ut _ (16+i) hl];rfl
 ·unfold JP;rw[if_neg (by simp)]
theorem z1bg (x:UInt32) (y:UInt8) (h:x.toNat<16777216):(FO x 8) ||| y.toUInt32=x * 256+y.toUInt32:=by
 apply UInt32.toNat_inj.1
 have M:=UInt8.toNat_lt y;rw[UInt32.toNat_or,zww,UInt32.toNat_add,UInt32.toNat_mul];have e1:(y.toUInt32).toNat=y.toNat:=by simp
 have e2:(256:UInt32).toNat=256:=rfl;rw[e1,e2, show (2:Nat) ^ (min 8 32)=256 from rfl,Nat.mod_eq_of_lt (a:=x.toNat * 256) (by omega),Nat.mod_eq_of_lt (a:=x.toNat * 256+y.toNat) (by omega)]
 have:=Nat.shiftLeft_add_eq_or_of_lt (i:=8) (b:=y.toNat) (by simpa using M) x.toNat
 rw[Nat.shiftLeft_eq, show (2:Nat) ^ 8=256 from rfl] at this;exact this.symm
def ER (b:List UInt8) (k:Nat):Nat->UInt32
 | 0=>0
 | m+1=>ER b k m * 256+(b.getD (4 * k+m) 0).toUInt32
theorem Uu (b:List UInt8) (k:Nat):∀ m,m<=4->(ER b k m).toNat<256 ^ m
 | 0,_=>by simp[ER]
 | m+1,h=>by
  have ih:=Uu b k m (by omega);have hy:=UInt8.toNat_lt (b.getD (4 * k+m) 0);have hp:256 ^ m<=256 ^ 3:=Nat.pow_le_pow_right (by omega) (by omega);have e3:(256:Nat) ^ 3=16777216:=rfl;have ep:256 ^ (m+1)=256 ^ m * 256:=Nat.pow_succ ..;rw[ER,UInt32.toNat_add,UInt32.toNat_mul,ep];have e1:((b.getD (4 * k+m) 0).toUInt32).toNat=(b.getD (4 * k+m) 0).toNat:=by simp
  have e2:(256:UInt32).toNat=256:=rfl;rw[e1,e2,Nat.mod_eq_of_lt (a:=(ER b k m).toNat * 256) (by omega),Nat.mod_eq_of_lt (by omega)];omega
theorem z10n (b:List UInt8) (k:Nat):ER b k 4=word b k:=by
 simp only[ER,word,Nat.add_zero]
 simp
theorem z13w (b:List UInt8) (hb:b.length=64):∃ w,iter (Jy b) (Vector.replicate 64 0,0)=some w/\w.toList.take 16=BX b 0:=by
 refine DV (F:=Jy b) 64 (λi s=>s.2=(i:Int)/\∀ k,k<16->s.1.toList.getD k 0=ER b k (min 4 (i - 4 * k))) (λw=>w.toList.take 16=BX b 0) (λi s hi U=>?_) (λs U=>?_) (Vector.replicate 64 0,0) 0 (by omega) ⟨rfl, λk M=>?_⟩
 ·obtain⟨w,j⟩:=s;obtain⟨h1,h2⟩:=U;simp only at h1 h2;subst h1;have a2:w.toList.length=64:=by simp
  have a1:w64 (Int.tdiv (i:Int) 4)=((i / 4:Nat):Int):=by
   have:Int.tdiv (i:Int) 4=((i / 4:Nat):Int):=by
    rw[Int.tdiv_eq_ediv_of_nonneg (by omega)]; omega
   rw[this,B1 (by omega) (by omega)]
  refine⟨(BY w ((i / 4:Nat):Int) (ER b (i / 4) (i % 4+1)),((i+1:Nat):Int)),?_,rfl, λk M=>?_⟩
  ·unfold Jy;rw[if_pos (by simp; omega)];simp only[a1,Pt];rw[DP 0 (by omega)];simp only[bS];rw[DP 0 (by omega)];simp only[bS,AO (show i<9223372036854775807 by omega)];rw[h2 (i / 4) (by omega), show min 4 (i - 4 * (i / 4))=i % 4 by omega];have a6:=Uu b (i / 4) (i % 4) (by omega);have hp:256 ^ (i % 4)<=256 ^ 3:=Nat.pow_le_pow_right (by omega) (by omega);have e3:(256:Nat) ^ 3=16777216:=rfl
   rw[z1bg _ _ (by omega)];have e4:ER b (i / 4) (i % 4+1)=ER b (i / 4) (i % 4) * 256+(b.getD i 0).toUInt32:=by
    show ER b (i / 4) (i % 4) * 256+(b.getD (4 * (i / 4)+i % 4) 0).toUInt32=_;rw[show 4 * (i / 4)+i % 4=i by omega]
   rw[e4]
  ·simp only[];rw[Uq,z16a (by omega)];by_cases O:i / 4=k
   ·subst O;rw[if_pos rfl, show min 4 (i+1 - 4 * (i / 4))=i % 4+1 by omega]
   ·rw[if_neg O,h2 k M]
    congr 1; omega
 ·obtain⟨w,j⟩:=s;obtain⟨h1,h2⟩:=U;simp only at h1 h2;subst h1;have a2:w.toList.length=64:=by simp
  refine⟨w,?_,?_⟩
  ·unfold Jy;rw[if_neg (by simp[hb])]
  ·apply List.ext_getElem
   ·simp[BX]
   ·intro k k1 k2;have M:k<16:=by simp[BX] at k2; exact k2
    have:=h2 k M
    rw[show min 4 (64 - 4 * k)=4 by omega,z10n] at this;have e:w.toList.getD k 0=w.toList[k]'(by omega):=by rw[List.getD_eq_getElem?_getD,List.getElem?_eq_getElem (by omega)]; rfl
    rw[e] at this;simp only[List.getElem_take,this,BX,List.getElem_map,List.getElem_range]
 ·show (Vector.replicate 64 (0:UInt32)).toList.getD k 0=_;rw[show min 4 (0 - 4 * k)=0 by omega,Vector.toList_replicate,List.getD_eq_getElem?_getD,List.getElem?_replicate,if_pos (by omega)];rfl
theorem z10j (v:Vector UInt32 64) (t:Nat) (h1:16<=t) (h2:t<64) (p q r s u:UInt32) (e1:B3 v ((t - 15:Nat):Int)=some p) (e2:B3 v ((t - 2:Nat):Int)=some q) (e3:B3 v ((t - 16:Nat):Int)=some r) (e4:B3 v ((t - 7:Nat):Int)=some s) (M:B3 v (t:Int)=some u) :
  In (v,(t:Int))=some (.inr (BY v (t:Int) (((r+s)+sg0 p)+sg1 q),((t+1:Nat):Int))):=by
 have O:=HM p 7 (by omega) (by omega);have U:=HM p 18 (by omega) (by omega);have r3:=HM q 17 (by omega) (by omega);have r4:=HM q 19 (by omega) (by omega);have hw:=AO (show t<9223372036854775807 by omega);have hd:decide ((t:Int)<64)=true:=by simp; omega
 have w1:w64 ((t:Int) - 15)=((t - 15:Nat):Int):=by rw[B1 (by omega) (by omega)]; omega
 have w2:w64 ((t:Int) - 2)=((t - 2:Nat):Int):=by rw[B1 (by omega) (by omega)]; omega
 have w3:w64 ((t:Int) - 16)=((t - 16:Nat):Int):=by rw[B1 (by omega) (by omega)]; omega
 have w4:w64 ((t:Int) - 7)=((t - 7:Nat):Int):=by rw[B1 (by omega) (by omega)]; omega
 unfold In;rw[if_pos hd];simp only[];rw[w1,w2,w3,w4,hw,e1,e2,e3,e4,M];simp only[bS];rw[show (-7:Int) = -((7:Nat):Int) from rfl, show (-18:Int) = -((18:Nat):Int) from rfl, show (-17:Int) = -((17:Nat):Int) from rfl, show (-19:Int) = -((19:Nat):Int) from rfl,O,U,r3,r4];simp only[bS];rfl
theorem z152 (b:List UInt8) (w:Vector UInt32 64) (hw:w.toList.take 16=BX b 0):∃ v,iter (In) (w,16)=some v/\v.toList=BX b 48:=by
 refine DV (F:=In) 48 (λi s=>s.2=((16+i:Nat):Int)/\s.1.toList.take (16+i)=BX b i) (λv=>v.toList=BX b 48) (λi s hi O=>?_) (λs O=>?_) (w,16) 0 (by omega) ⟨rfl,hw⟩
 ·obtain⟨w,j⟩:=s;obtain⟨h1,h2⟩:=O;simp only at h1 h2;subst h1;have a1:w.toList.length=64:=by simp
  have hl:=IW b i;have hg:∀ k,k<16+i->w.toList.getD k 0=(BX b i).getD k 0:=λk U=>by rw[<- h2,Ur U]
  have M:∀ k,k<16+i->B3 w (k:Int)=some ((BX b i).getD k 0):=λk U=>by rw[Pt,DP 0 (by omega),hg k U]
  refine⟨_,z10j w (16+i) (by omega) (by omega) _ _ _ _ _ (M _ (by omega)) (M _ (by omega)) (M _ (by omega)) (M _ (by omega)) (DO (by omega)),rfl,?_⟩;simp only[];rw[Uq, show 16+(i+1)=16+i+1 by omega,zth (by omega),h2, show BX b (i+1)=HN (BX b i) from rfl,Ut _ (16+i) hl]
 ·obtain⟨w,j⟩:=s;obtain⟨h1,h2⟩:=O;simp only at h1 h2;subst h1;refine⟨w,?_,?_⟩
  ·unfold In;rw[if_neg (by simp)]
  ·rw[<- h2,List.take_of_length_le (by simp)]
abbrev O8:=UInt32 × UInt32 × UInt32 × UInt32 × UInt32 × UInt32 × UInt32 × UInt32
def toV (s:O8):Vector UInt32 8:=#v[s.1,s.2.1,s.2.2.1,s.2.2.2.1,s.2.2.2.2.1,s.2.2.2.2.2.1,s.2.2.2.2.2.2.1,s.2.2.2.2.2.2.2]
def ofV (h:Vector UInt32 8):O8:=(h[0],h[1],h[2],h[3],h[4],h[5],h[6],h[7])
theorem z1ai (h:Vector UInt32 8):toV (ofV h)=h:=by
 apply Vector.ext
 intro i hi;unfold toV ofV
 match i,hi with
 | 0,_=>rfl
 | 1,_=>rfl
 | 2,_=>rfl
 | 3,_=>rfl
 | 4,_=>rfl
 | 5,_=>rfl
 | 6,_=>rfl
 | 7,_=>rfl
def rnd1 (k w:UInt32) (s:O8):UInt32:=(((s.2.2.2.2.2.2.2+((tr s.2.2.2.2.1 6 ^^^ tr s.2.2.2.2.1 11) ^^^ tr s.2.2.2.2.1 25))+((s.2.2.2.2.1 &&& s.2.2.2.2.2.1) ^^^ ((~~~s.2.2.2.2.1) &&& s.2.2.2.2.2.2.1)))+k)+w
def rnd2 (s:O8):UInt32:=((tr s.1 2 ^^^ tr s.1 13) ^^^ tr s.1 22)+(((s.1 &&& s.2.1) ^^^ (s.1 &&& s.2.2.1)) ^^^ (s.2.1 &&& s.2.2.1))
def rnd (k w:UInt32) (s:O8):O8:=(rnd1 k w s+rnd2 s,s.1,s.2.1,s.2.2.1,s.2.2.2.1+rnd1 k w s,s.2.2.2.2.1,s.2.2.2.2.2.1,s.2.2.2.2.2.2.1)
def Eo (K W:List UInt32) (s:O8):Nat->O8
 | 0=>s
 | n+1=>rnd (K.getD n 0) (W.getD n 0) (Eo K W s n)
theorem z12u:OM=some Bv.toList:=rfl
theorem Pu:Bv.toList.length=64:=by simp
theorem z133 (w:Vector UInt32 64) (a b c d e f g z:UInt32) (i:Nat) (hi:i<64) (k u:UInt32) (M:B3 Bv (i:Int)=some k) (O:B3 w (i:Int)=some u) :
  Hm w (a,b,c,d,e,f,g,z,(i:Int))=some (.inr (rnd1 k u (a,b,c,d,e,f,g,z)+rnd2 (a,b,c,d,e,f,g,z),a,b,c,d+rnd1 k u (a,b,c,d,e,f,g,z),e,f,g,((i+1:Nat):Int))):=by
 have m1:=Us e 6 11 25 (by omega) (by omega) (by omega);have m2:=Us a 2 13 22 (by omega) (by omega) (by omega);have hw:=AO (show i<9223372036854775807 by omega);have hd:decide ((i:Int)<64)=true:=by simp; omega
 unfold Hm;rw[if_pos hd];simp only[];rw[M,O,hw];simp only[bS];rw[show (6:Int)=((6:Nat):Int) from rfl, show (11:Int)=((11:Nat):Int) from rfl, show (25:Int)=((25:Nat):Int) from rfl, show (2:Int)=((2:Nat):Int) from rfl, show (13:Int)=((13:Nat):Int) from rfl, show (22:Int)=((22:Nat):Int) from rfl,m1,m2];simp only[bS];rfl
theorem z17e (K W:List UInt32) (a b c d e f g z:UInt32) (i:Nat) (hi:i<64) (k u:UInt32) (M:idx K (i:Int)=some k) (O:idx W (i:Int)=some u) :
  Hq W K (#v[a,b,c,d,e,f,g,z],(i:Int))=some (.inr (#v[rnd1 k u (a,b,c,d,e,f,g,z)+rnd2 (a,b,c,d,e,f,g,z),a,b,c,d+rnd1 k u (a,b,c,d,e,f,g,z),e,f,g],((i+1:Nat):Int))):=by
 have U:=FI e 6 (by omega);have t2:=FI e 11 (by omega);have t3:=FI e 25 (by omega);have t4:=FI a 2 (by omega);have t5:=FI a 13 (by omega);have t6:=FI a 22 (by omega);have hw:=AO (show i<9223372036854775807 by omega);have hd:decide ((i:Int)<64)=true:=by simp; omega
 have v0:B3 #v[a,b,c,d,e,f,g,z] 0=some a:=rfl;have v1:B3 #v[a,b,c,d,e,f,g,z] 1=some b:=rfl;have v2:B3 #v[a,b,c,d,e,f,g,z] 2=some c:=rfl;have v3:B3 #v[a,b,c,d,e,f,g,z] 3=some d:=rfl;have v4:B3 #v[a,b,c,d,e,f,g,z] 4=some e:=rfl;have v5:B3 #v[a,b,c,d,e,f,g,z] 5=some f:=rfl;have v6:B3 #v[a,b,c,d,e,f,g,z] 6=some g:=rfl;have v7:B3 #v[a,b,c,d,e,f,g,z] 7=some z:=rfl;unfold Hq;rw[if_pos hd];simp only[]
 rw[v0,v1,v2,v3,v4,v5,v6,v7,M,O,hw];simp only[bS];rw[show (6:Int)=((6:Nat):Int) from rfl, show (11:Int)=((11:Nat):Int) from rfl, show (25:Int)=((25:Nat):Int) from rfl, show (2:Int)=((2:Nat):Int) from rfl, show (13:Int)=((13:Nat):Int) from rfl, show (22:Int)=((22:Nat):Int) from rfl,U,t2,t3,t4,t5,t6];simp only[bS];rfl
def IX (s:O8) (i:Int):UInt32 × UInt32 × UInt32 × UInt32 × UInt32 × UInt32 × UInt32 × UInt32 × Int:=match s with
 | (a,b,c,d,e,f,g,z)=>(a,b,c,d,e,f,g,z,i)
theorem z109 (w:Vector UInt32 64) (s:O8) (i:Nat) (hi:i<64):Hm w (IX s (i:Int))=some (.inr (IX (rnd (Bv.toList.getD i 0) (w.toList.getD i 0) s) ((i+1:Nat):Int))):=by
 obtain⟨a,b,c,d,e,f,g,z⟩:=s;exact z133 w a b c d e f g z i hi _ _ (DP 0 (by rw[Pu]; exact hi)) (DP 0 (by simp; exact hi))
theorem z116 (w:Vector UInt32 64) (s:O8):iter (Hm w) (IX s 0)=some (Eo Bv.toList w.toList s 64):=by
 refine C1 (F:=Hm w) (b:=Eo Bv.toList w.toList s 64) 64 (λi=>IX (Eo Bv.toList w.toList s i) (i:Int)) (λi hi=>z109 w _ i hi) ?_;generalize Eo Bv.toList w.toList s 64=q;obtain⟨a,b,c,d,e,f,g,z⟩:=q;unfold IX Hm;rw[if_neg (by simp)]
theorem z11y (K W:List UInt32) (hk:K.length=64) (hW:W.length=64) (s:O8) (i:Nat) (hi:i<64):Hq W K (toV s,(i:Int))=some (.inr (toV (rnd (K.getD i 0) (W.getD i 0) s),((i+1:Nat):Int))):=by
 obtain⟨a,b,c,d,e,f,g,z⟩:=s;exact z17e K W a b c d e f g z i hi _ _ (DP 0 (by omega)) (DP 0 (by omega))
theorem z11w (K W:List UInt32) (M:K.length=64) (hW:W.length=64) (s:O8):iter (Hq W K) (toV s,0)=some (toV (Eo K W s 64)):=by
 refine C1 (F:=Hq W K) (b:=toV (Eo K W s 64)) 64 (λi=>(toV (Eo K W s i),(i:Int))) (λi hi=>z11y K W M hW _ i hi) ?_;generalize toV (Eo K W s 64)=q;unfold Hq;rw[if_neg (by simp)]
theorem z19i (s:O8):OE s=F5 (toV s):=by
 funext x
 obtain⟨h,i⟩:=x;unfold OE F5;simp only[bS];show (if decide (i<8)=true then B3 (toV s) i >>= _ else _)=_
 split
 ·cases h1:B3 (toV s) i <;> cases h2:B3 h i <;> rfl
 ·rfl
def addV (h v:Vector UInt32 8):Vector UInt32 8:=(iter (F5 v) (h,0)).getD h
theorem Uv (h v:Vector UInt32 8):iter (F5 v) (h,0)=some (addV h v):=by
 obtain⟨r,h1,-⟩:=DV (F:=F5 v) 8 (λi s=>s.2=(i:Int)) (λ_=>True) (λi s hi M=>by
  obtain⟨u,j⟩:=s;simp only at M;subst M;unfold F5;rw[if_pos (by simp; omega)];rw[DO (show i<8 by omega),DO (show i<8 by omega)];simp only[bS,AO (show i<9223372036854775807 by omega)];exact⟨_,rfl,rfl⟩) (λs M=>by
  obtain⟨u,j⟩:=s;simp only at M;subst M;unfold F5;rw[if_neg (by simp)]
  exact⟨_,rfl,trivial⟩) (h,0) 0 (by omega) rfl
 unfold addV;rw[h1]; rfl
def gr (h:Vector UInt32 8) (b:List UInt8):Vector UInt32 8:=addV h (toV (Eo Bv.toList (BX b 48) (ofV h) 64))
theorem z1bq (h:Vector UInt32 8) (b:List UInt8) (hb:b.length=64):M9 h b=some (gr h b):=by
 unfold M9;rw[z175 b (by omega)];simp only[bS];rw[z16k b];simp only[bS,z12u]
 have:=z11w Bv.toList (BX b 48) Pu (by rw[IW]) (ofV h)
 rw[z1ai] at this;rw[this];simp only[bS];rw[Uv];rfl
theorem z1ax (h:Vector UInt32 8) (b:List UInt8) (hb:64<=b.length):LY h b=some (gr h (b.take 64)):=by
 unfold LY OC;rw[show (64:Int)=((64:Nat):Int) from rfl, show (0:Int)=((0:Nat):Int) from rfl,GF (by omega) hb];simp only[bS,List.drop_zero,Nat.sub_zero];obtain⟨w,h1,h2⟩:=z13w (b.take 64) (by simp; omega);rw[show ((0:Nat):Int)=0 from rfl,h1];simp only[bS];obtain⟨v,h3,O⟩:=z152 (b.take 64) w h2;rw[h3];simp only[bS];have M:∀ i:Nat,(hi:i<8)->B3 h (i:Int)=some h[i]:=λi hi=>DO hi;rw[show B3 h 0=some h[0] from M 0 (by omega), show B3 h 1=some h[1] from M 1 (by omega), show B3 h 2=some h[2] from M 2 (by omega), show B3 h 3=some h[3] from M 3 (by omega), show B3 h 4=some h[4] from M 4 (by omega), show B3 h 5=some h[5] from M 5 (by omega), show B3 h 6=some h[6] from M 6 (by omega), show B3 h 7=some h[7] from M 7 (by omega)]
 simp only[bS]
 have:=z116 v (ofV h)
 rw[show (h[0],h[1],h[2],h[3],h[4],h[5],h[6],h[7],(0:Int))=IX (ofV h) 0 from rfl,this];simp only[bS];rw[z19i,O,Uv];rfl
end
section
def blk (h:Vector UInt32 8) (b:List UInt8):Vector UInt32 8:=if a1:64<=b.length then blk (gr h (b.take 64)) (b.drop 64) else h
termination_by b.length
decreasing_by simp; omega
theorem KU {h:Vector UInt32 8} {b:List UInt8} (hb:b.length<64):blk h b=h:=by rw[blk,dif_neg (by omega)]
theorem KV {h:Vector UInt32 8} {b:List UInt8} (hb:64<=b.length):blk h b=blk (gr h (b.take 64)) (b.drop 64):=by rw[blk,dif_pos hb]
def lft (b:List UInt8):List UInt8:=b.drop (b.length / 64 * 64)
theorem Pv {b:List UInt8} (hb:b.length<64):lft b=b:=by unfold lft; rw[Nat.div_eq_of_lt hb]; simp
theorem Pw {b:List UInt8} (hb:64<=b.length):lft b=lft (b.drop 64):=by
 unfold lft;rw[List.drop_drop,List.length_drop]
 congr 1
 omega
theorem Uw (b:List UInt8):(lft b).length<64:=by unfold lft; simp; omega
theorem z195 (h:Vector UInt32 8):∀ (n:Nat) (a c:List UInt8),a.length=n->blk h (a++c)=blk (blk h a) (lft a++c)/\lft (a++c)=lft (lft a++c):=by
 intro n
 induction n using Nat.strongRecOn generalizing h with
 | _ n O =>
  intro a c ha;by_cases M:64<=a.length
  ·have e1:(a++c).take 64=a.take 64:=by rw[List.take_append_of_le_length M]
   have e2:(a++c).drop 64=a.drop 64++c:=by rw[List.drop_append_of_le_length M]
   have hl:64<=(a++c).length:=by simp; omega
   obtain⟨U,i2⟩:=O (a.drop 64).length (by simp; omega) (gr h (a.take 64)) (a.drop 64) c rfl;rw[KV hl,e1,e2,KV M,Pw M,Pw hl,e2];exact⟨U,i2⟩
  ·rw[KU (b:=a) (by omega),Pv (b:=a) (by omega)];exact⟨rfl,rfl⟩
theorem z12z:∀ (n:Nat) (m:Cg) (r:List UInt8),r.length=n->iter JA (m,r)=some ({ m with Words:=blk m.Words r },lft r):=by
 intro n
 induction n using Nat.strongRecOn with
 | _ n O =>
  intro m r hr;by_cases M:64<=r.length
  ·have U:JA (m,r)=some (.inr ({ m with Words:=gr m.Words (r.take 64) },r.drop 64)):=by
    unfold JA;rw[if_pos (by simp; omega)];simp only[];rw[z1ax _ _ M, show (64:Int)=((64:Nat):Int) from rfl,GF M (Nat.le_refl _)];simp only[bS];rw[List.take_of_length_le (l:=r.drop 64) (by simp)]
   rw[B9 U,O (r.drop 64).length (by simp; omega) _ _ rfl,KV M,Pw M]
  ·refine(AW (b:=(m,r)) ?_).trans ?_
   ·unfold JA;rw[if_neg (by simp; omega)]
   ·rw[KU (by omega),Pv (by omega)]
theorem z1a0 (a b:List UInt8) (h:a.length+b.length<=1000000):GA [a,b]=some (a++b):=by
 have l1:iter (EN [a,b]) (0,0)=some ((a.length+b.length:Nat):Int):=by
  have M:EN [a,b] (0,0)=some (.inr ((a.length:Int),1)):=by
   unfold EN;rw[if_pos (by simp)];simp only[];rw[show idx [a,b] 0=some a from rfl];simp only[bS];rw[B1 (x:=(0:Int)+(a.length:Int)) (by omega) (by omega),B1 (x:=(0:Int)+1) (by omega) (by omega)];rw[if_neg (by simp)]
   simp
  have O:EN [a,b] ((a.length:Int),1)=some (.inr (((a.length+b.length:Nat):Int),2)):=by
   unfold EN;rw[if_pos (by simp)];simp only[];rw[show idx [a,b] 1=some b from rfl];simp only[bS];rw[B1 (x:=(a.length:Int)+(b.length:Int)) (by omega) (by omega),B1 (x:=(1:Int)+1) (by omega) (by omega)];rw[if_neg (by simp; omega)]
   simp
  have U:EN [a,b] (((a.length+b.length:Nat):Int),2)=some (.inl ((a.length+b.length:Nat):Int)):=by
   unfold EN;rw[if_neg (by simp)]
  rw[B9 M,B9 O,AW U]
 have gw:Im ((a.length+b.length:Nat):Int)=some []:=by
  unfold Im;rw[if_neg (by simp; omega)];rw[show ((([]:List UInt8).length:Nat):Int)=0 from rfl, show w64 ((0:Int) - 0)=0 by decide,Int.sub_zero,B1 (by omega) (by omega)];simp only[bS]
  split
  ·rw[G4 (by omega) (by omega)];simp only[bS];rw[show (0:Int)=((0:Nat):Int) from rfl,GF (Nat.le_refl _) (Nat.zero_le _)]
   simp
  ·rfl
 have l2:iter (EO [a,b]) ([],0)=some (a++b):=by
  have M:EO [a,b] ([],0)=some (.inr (a,1)):=by
   unfold EO;rw[if_pos (by simp)];simp only[];rw[show idx [a,b] 0=some a from rfl,B1 (x:=(0:Int)+1) (by omega) (by omega)];simp only[bS];rw[Bw (by simp; omega)]
   simp
  have O:EO [a,b] (a,1)=some (.inr (a++b,2)):=by
   unfold EO;rw[if_pos (by simp)];simp only[];rw[show idx [a,b] 1=some b from rfl,B1 (x:=(1:Int)+1) (by omega) (by omega)];simp only[bS];rw[Bw (by simp; omega)]
   simp
  have U:EO [a,b] (a++b,2)=some (.inl (a++b)):=by
   unfold EO;rw[if_neg (by simp)]
  rw[B9 M,B9 O,AW U]
 unfold GA;rw[l1];simp only[bS];rw[gw];simp only[bS];rw[l2];simp only[bS]
theorem z1ah (m:Cg) (b:List UInt8) (h:m.Rest.length+b.length<=1000000):Io m b=some ⟨blk m.Words (m.Rest++b),lft (m.Rest++b),w64 (m.N+(b.length:Int))⟩:=by
 unfold Io;rw[z1a0 _ _ h];simp only[bS];rw[z12z _ _ _ rfl];simp only[bS];unfold OD
 have:=Uw (m.Rest++b)
 rw[Bw (by simp; omega)];simp only[bS,List.nil_append]
def H0:Vector UInt32 8:=#v[1779033703,3144134277,1013904242,2773480762,1359893119,2600822924,528734635,1541459225]
def mill (a:List UInt8):Cg:=⟨blk H0 a,lft a,(a.length:Int)⟩
theorem z15s:LX=some (mill []):=by
 unfold LX mill;rw[KU (by simp),Pv (by simp)];rfl
theorem Ux (a b:List UInt8) (h:a.length+b.length<=500000):Io (mill a) b=some (mill (a++b)):=by
 have hl:=Uw a;rw[z1ah (mill a) b (by show (lft a).length+b.length<=1000000; omega)];obtain⟨h1,h2⟩:=z195 H0 _ a b rfl;unfold mill;rw[h1,h2,B1 (by simp; omega) (by simp; omega)]
 simp
theorem z10g (b:List UInt8) (hb:b.length<=1000000):∀ (n:Nat) (h:Vector UInt32 8) (i:Nat),(b.drop i).length=n->i<=b.length->iter (JQ b) (h,(i:Int))=some (blk h (b.drop i)):=by
 intro n
 induction n using Nat.strongRecOn with
 | _ n O =>
  intro h i U hi;have hw:w64 ((i:Int)+64)=((i+64:Nat):Int):=by rw[B1 (by omega) (by omega)]; omega
  simp only[List.length_drop] at U;by_cases M:i+64<=b.length
  ·have hs:JQ b (h,(i:Int))=some (.inr (gr h ((b.drop i).take 64),((i+64:Nat):Int))):=by
    unfold JQ;simp only[hw];rw[if_pos (by simp; omega),GF (by omega) M];simp only[bS];rw[show i+64 - i=64 by omega,z1bq _ _ (by simp; omega)];simp only[bS]
   rw[B9 hs,O (b.drop (i+64)).length (by simp; omega) _ _ rfl M,KV (b:=b.drop i) (by simp; omega),List.drop_drop]
  ·refine(AW (b:=h) ?_).trans ?_
   ·unfold JQ;simp only[hw];rw[if_neg (by simp; omega)]
   ·rw[KU (by simp; omega)]
theorem z138 (h:Vector UInt32 8) (b:List UInt8) (hb:b.length<=1000000):Ma h b=some (blk h b):=by
 unfold Ma
 have:=z10g b hb _ h 0 rfl (by omega)
 rw[show (0:Int)=((0:Nat):Int) from rfl,this];simp only[bS,List.drop_zero]
def Dh (n:Nat):Nat:=(119 - n % 64) % 64
def CV (n:Nat):List UInt8:=(List.range 8).map λi=>(BZ (UInt64.ofNat n * 8) (56 - 8 * i)).toUInt8
def tl (n:Nat):List UInt8:=([128]++List.replicate (Dh n) 0)++CV n
theorem Uy (n:Nat):UInt64.ofInt (n:Int)=UInt64.ofNat n:=by
 apply UInt64.toNat_inj.1
 unfold UInt64.ofInt;simp only[UInt64.toNat_ofNat'];omega
theorem z12c (n:Nat) (x:List UInt8) (hx:x.length<=100):iter (JB (UInt64.ofNat n * 8)) (x,56)=some (x++CV n):=by
 rw[show (x,(56:Int))=(x++(CV n).take 0,56 - 8 * ((0:Nat):Int)) by simp];refine C1 (F:=JB (UInt64.ofNat n * 8)) (b:=x++CV n) 8 (λi=>(x++(CV n).take i,56 - 8 * (i:Int))) (λi hi=>?_) ?_
 ·have hl:(CV n).length=8:=by simp[CV]
  unfold JB;rw[if_pos (by simp; omega)];simp only[];rw[Cn (by omega),B1 (by omega) (by omega)];simp only[bS];rw[Bw (by simp; omega)];simp only[bS];rw[List.take_add_one,List.getElem?_eq_getElem (by omega)];simp only[Option.toList_some,List.append_assoc];rw[show (56 - 8 * (i:Int)).toNat=56 - 8 * i by omega, show (56 - 8 * (i:Int) - 8)=56 - 8 * ((i+1:Nat):Int) by omega];simp[CV]
 ·have hl:(CV n).length=8:=by simp[CV]
  unfold JB;rw[if_neg (by simp),List.take_of_length_le (by omega)]
theorem z13f (n:Nat) (x:List UInt8) (hx:x.length<=100):iter (JN (n:Int)) (x,7)=some (x++CV n):=by
 rw[show (x,(7:Int))=(x++(CV n).take 0,7 - ((0:Nat):Int)) by simp];refine C1 (F:=JN (n:Int)) (b:=x++CV n) 8 (λi=>(x++(CV n).take i,7 - (i:Int))) (λi hi=>?_) ?_
 ·have hl:(CV n).length=8:=by simp[CV]
  unfold JN;rw[if_pos (by simp; omega)];simp only[];rw[B1 (x:=8 * (7 - (i:Int))) (by omega) (by omega),Cn (by omega),B1 (by omega) (by omega)];simp only[bS];rw[Bw (by simp; omega)];simp only[bS];rw[List.take_add_one,List.getElem?_eq_getElem (by omega)];simp only[Option.toList_some,List.append_assoc];rw[show (8 * (7 - (i:Int))).toNat=56 - 8 * i by omega, show (7 - (i:Int) - 1)=7 - ((i+1:Nat):Int) by omega]
  rw[Uy];simp[CV,UInt64.mul_comm]
 ·have hl:(CV n).length=8:=by simp[CV]
  unfold JN;rw[if_neg (by simp),List.take_of_length_le (by omega)]
theorem z13k (n:Nat) (hn:n<=1000000):iter (JM (n:Int)) [128]=some ([128]++List.replicate (Dh n) 0):=by
 refine C1 (F:=JM (n:Int)) (b:=[128]++List.replicate (Dh n) 0) (Dh n) (λi=>[128]++List.replicate i 0) (λi hi=>?_) ?_
 ·have O:Dh n<64:=Nat.mod_lt _ (by omega);have hl:(([128]++List.replicate i 0:List UInt8).length:Int)=((1+i:Nat):Int):=by simp; omega
  unfold JM;rw[hl,B1 (x:=(n:Int)+((1+i:Nat):Int)) (by omega) (by omega),B1 (by omega) (by omega)];have M:Int.tmod ((n:Int)+((1+i:Nat):Int)+8) 64=(((n+9+i) % 64:Nat):Int):=by
   rw[Int.tmod_eq_emod_of_nonneg (by omega)]; omega
  rw[M,if_pos]
  ·rw[Bw (by simp; omega)];simp only[bS];rw[List.replicate_succ',List.append_assoc]
  ·simp only[bne_iff_ne,ne_eq];unfold Dh at hi;omega
 ·have hl:(([128]++List.replicate (Dh n) 0:List UInt8).length:Int)=((1+Dh n:Nat):Int):=by simp; omega
  have O:Dh n<64:=Nat.mod_lt _ (by omega);unfold JM;rw[hl,B1 (x:=(n:Int)+((1+Dh n:Nat):Int)) (by omega) (by omega),B1 (by omega) (by omega)];have M:Int.tmod ((n:Int)+((1+Dh n:Nat):Int)+8) 64=0:=by
   rw[Int.tmod_eq_emod_of_nonneg (by omega)];unfold Dh;omega
  rw[M,if_neg (by simp)]
theorem z16v (n:Nat) (M:n<=1000000):M8 (n:Int)=some (tl n):=by
 have hz:Dh n<64:=Nat.mod_lt _ (by omega);unfold M8;rw[z13k n M];simp only[bS];rw[z13f n _ (by simp; omega)];simp only[bS];rfl
def wr (h:Vector UInt32 8):V3:=Vector.ofFn λi=>(BD (h[i.val / 4]'(by omega)) (24 - 8 * (i.val % 4))).toUInt8
theorem z112 (h:Vector UInt32 8):Mb h=some (wr h):=by
 have:∃ r,iter (JR h) (Vector.replicate 32 0,0)=some r/\r=wr h:=by
  refine DV (F:=JR h) 32 (λi s=>s.2=(i:Int)/\∀ k (M:k<32),k<i->s.1[k]=(wr h)[k]) (λr=>r=wr h) (λi s hi O=>?_) (λs O=>?_) (Vector.replicate 32 0,0) 0 (by omega) ⟨rfl, λk M h0=>by omega⟩
  ·obtain⟨v,j⟩:=s;obtain⟨h1,h2⟩:=O;simp only at h1 h2;subst h1;have hd:w64 (Int.tdiv (i:Int) 4)=((i / 4:Nat):Int):=by
    have:Int.tdiv (i:Int) 4=((i / 4:Nat):Int):=by rw[Int.tdiv_eq_ediv_of_nonneg (by omega)]; omega
    rw[this,B1 (by omega) (by omega)]
   have U:w64 (8 * (Int.tmod (i:Int) 4))=((8 * (i % 4):Nat):Int):=by
    have:Int.tmod (i:Int) 4=((i % 4:Nat):Int):=by rw[Int.tmod_eq_emod_of_nonneg (by omega)]; omega
    rw[this,B1 (by omega) (by omega)]; omega
   have O:w64 (24 - ((8 * (i % 4):Nat):Int))=((24 - 8 * (i % 4):Nat):Int):=by rw[B1 (by omega) (by omega)]; omega
   refine⟨(BY v (i:Int) ((BD (h[i / 4]'(by omega)) (24 - 8 * (i % 4))).toUInt8),((i+1:Nat):Int)),?_,rfl, λk M a1=>?_⟩
   ·unfold JR;rw[if_pos (by simp; omega)];simp only[];rw[hd,U,O,DO (show i / 4<8 by omega),Cn (by omega),DO hi,AO (show i<9223372036854775807 by omega)];simp only[bS,Int.toNat_natCast]
   ·simp only[];rw[G3 M,Int.toNat_natCast];by_cases e:i=k
    ·subst e;rw[if_pos rfl];simp[wr]
    ·rw[if_neg e]; exact h2 k M (by omega)
  ·obtain⟨v,j⟩:=s;obtain⟨h1,h2⟩:=O;simp only at h1 h2;subst h1;refine⟨v,?_,?_⟩
   ·unfold JR;rw[if_neg (by simp)]
   ·exact Vector.ext λk M=>h2 k M M
 obtain⟨r,h1,rfl⟩:=this;unfold Mb;rw[h1];simp only[bS]
theorem zvw (m:Cg):iter (Ip m) (Vector.replicate 32 0,0)=some (wr m.Words):=by
 have:∃ r,iter (Ip m) (Vector.replicate 32 0,0)=some r/\r=wr m.Words:=by
  refine DV (F:=Ip m) 8 (λi s=>s.2=(i:Int)/\∀ k (M:k<32),k<4 * i->s.1[k]=(wr m.Words)[k]) (λr=>r=wr m.Words) (λi s hi hs=>?_) (λs hs=>?_) (Vector.replicate 32 0,0) 0 (by omega) ⟨rfl, λk M h0=>by omega⟩
  ·obtain⟨v,j⟩:=s;obtain⟨h1,h2⟩:=hs;simp only at h1 h2;subst h1;have e0:w64 (4 * (i:Int))=((4 * i:Nat):Int):=by rw[B1 (by omega) (by omega)]; omega
   have e1:w64 (((4 * i:Nat):Int)+1)=((4 * i+1:Nat):Int):=by rw[B1 (by omega) (by omega)]; omega
   have e2:w64 (((4 * i:Nat):Int)+2)=((4 * i+2:Nat):Int):=by rw[B1 (by omega) (by omega)]; omega
   have e3:w64 (((4 * i:Nat):Int)+3)=((4 * i+3:Nat):Int):=by rw[B1 (by omega) (by omega)]; omega
   refine⟨(BY (BY (BY (BY v ((4 * i:Nat):Int) (BD m.Words[i] 24).toUInt8) ((4 * i+1:Nat):Int) (BD m.Words[i] 16).toUInt8) ((4 * i+2:Nat):Int) (BD m.Words[i] 8).toUInt8) ((4 * i+3:Nat):Int) m.Words[i].toUInt8,((i+1:Nat):Int)),?_,rfl, λk M a6=>?_⟩
   ·unfold Ip;rw[if_pos (by simp; omega)];simp only[];rw[e0,e1,e2,e3,DO hi,DO (show 4 * i<32 by omega),AO (show i<9223372036854775807 by omega)];simp only[bS];rw[DO (show 4 * i+1<32 by omega),DO (show 4 * i+2<32 by omega),DO (show 4 * i+3<32 by omega)];simp only[bS]
   ·simp only[];rw[G3 M,G3 M,G3 M,G3 M];simp only[Int.toNat_natCast];have hw:(wr m.Words)[k]=(BD (m.Words[k / 4]'(by omega)) (24 - 8 * (k % 4))).toUInt8:=by simp[wr]
    have s0:∀ x:UInt32,BD x 0=x:=λx=>by
     apply UInt32.toNat_inj.1; rw[Nn]; simp
    by_cases c3:4 * i+3=k
    ·subst c3;rw[if_pos rfl,hw];have O:(4 * i+3) / 4=i:=by omega
     have U:24 - 8 * ((4 * i+3) % 4)=0:=by omega
     simp only[O,U,s0]
    ·rw[if_neg c3];by_cases c2:4 * i+2=k
     ·subst c2;rw[if_pos rfl,hw];have O:(4 * i+2) / 4=i:=by omega
      have U:24 - 8 * ((4 * i+2) % 4)=8:=by omega
      simp only[O,U]
     ·rw[if_neg c2];by_cases c1:4 * i+1=k
      ·subst c1;rw[if_pos rfl,hw];have O:(4 * i+1) / 4=i:=by omega
       have U:24 - 8 * ((4 * i+1) % 4)=16:=by omega
       simp only[O,U]
      ·rw[if_neg c1];by_cases c0:4 * i=k
       ·subst c0;rw[if_pos rfl,hw];have O:(4 * i) / 4=i:=by omega
        have U:24 - 8 * ((4 * i) % 4)=24:=by omega
        simp only[O,U]
       ·rw[if_neg c0];exact h2 k M (by omega)
  ·obtain⟨v,j⟩:=s;obtain⟨h1,h2⟩:=hs;simp only at h1 h2;subst h1;refine⟨v,?_,?_⟩
   ·unfold Ip;rw[if_neg (by simp)]
   ·exact Vector.ext λk M=>h2 k M (by omega)
 obtain⟨r,h1,rfl⟩:=this;exact h1
def sha (b:List UInt8):V3:=wr (blk H0 (b++tl b.length))
theorem z1dq (a:List UInt8) (h:a.length<=300000):LZ (mill a)=some (sha a):=by
 have hz:Dh a.length<64:=Nat.mod_lt _ (by omega);unfold LZ;rw[show (mill a).N=((a.length:Nat):Int) from rfl,Uy];simp only[bS];have O:Int.tmod (w64 (119 - Int.tmod ((a.length:Nat):Int) 64)) 64=((Dh a.length:Nat):Int):=by
  have e1:Int.tmod ((a.length:Nat):Int) 64=((a.length % 64:Nat):Int):=by rw[Int.tmod_eq_emod_of_nonneg (by omega)]; omega
  rw[e1,B1 (by omega) (by omega),Int.tmod_eq_emod_of_nonneg (by omega)];unfold Dh;omega
 rw[O];have M:appz 1 ([128]:List UInt8) 0 ((Dh a.length:Nat):Int)=some ([128]++List.replicate (Dh a.length) 0):=by
  unfold appz;rw[if_pos ⟨by omega, by simp; omega⟩,Int.toNat_natCast]
 rw[M];simp only[bS];rw[z12c _ _ (by simp; omega)];simp only[bS];have a1:(tl a.length).length<=200:=by simp[tl,CV]; omega
 rw[show ([128]++List.replicate (Dh a.length) 0)++CV a.length=tl a.length from rfl,Ux a _ (by omega)];simp only[bS];rw[zvw];simp only[bS];rfl
theorem Uz (b:List UInt8) (h:b.length<=300000):JS b=some (sha b):=by
 have hz:Dh b.length<64:=Nat.mod_lt _ (by omega);have a1:(tl b.length).length<=200:=by simp[tl,CV]; omega
 unfold JS OL;simp only[bS];rw[Bw (by simp; omega)];simp only[bS,List.nil_append];rw[z16v _ (by omega)];simp only[bS];rw[Bw (by simp; omega)];simp only[bS];rw[z138 _ _ (by simp; omega)];simp only[bS];rw[z112];simp only[bS];rfl
end
section
def pmod:Nat->Nat->Nat->Nat->Nat
 | 0,_,_,m=>1 % m
 | f+1,a,n,m=>if n=0 then 1 % m else (if n % 2=1 then a * pmod f (a * a % m) (n / 2) m % m else pmod f (a * a % m) (n / 2) m)
theorem Np:∀ (f a n m:Nat),n<2 ^ f->pmod f a n m=a ^ n % m
 | 0,a,n,m,h=>by
  have:n=0:=by simpa using h
  subst this; rfl
 | f+1,a,n,m,h=>by
  have h2:n / 2<2 ^ f:=by rw[Nat.pow_succ] at h; omega
  have key:(a * a % m) ^ (n / 2) % m=a ^ (2 * (n / 2)) % m:=by
   rw[<- Nat.pow_mod,<- Nat.pow_two,<- Nat.pow_mul]
  simp only[pmod,Np f _ _ _ h2,key]
  split
  ·rename_i M; subst M; rfl
  ·split
   ·rename_i h1;rw[Nat.mul_mod,Nat.mod_mod,<- Nat.mul_mod, show a * a ^ (2 * (n / 2))=a ^ (2 * (n / 2)+1) by rw[Nat.pow_succ,Nat.mul_comm], show 2 * (n / 2)+1=n by omega]
   ·rename_i h1;rw[show 2 * (n / 2)=n by omega]
abbrev gp:Nat:=1000000007
abbrev gq:Nat:=500000003
theorem Nq:4 ^ gq % gp=1:=by
 rw[<- Np 64 4 gq gp (by decide)]
 decide +kernel
def inG (a:Nat):Prop:=0<a/\a<gp/\a ^ gq % gp=1
instance:DecidablePred inG:=λa=>by unfold inG; exact inferInstance
theorem Px (a m n p:Nat):(a ^ m % p) ^ n % p=a ^ (m * n) % p:=by rw[<- Nat.pow_mod,<- Nat.pow_mul]
theorem UA {a:Nat} (h:a ^ gq % gp=1) (k:Nat):a ^ (gq * k) % gp=1:=by
 rw[Nat.pow_mul,Nat.pow_mod,h,Nat.one_pow];rfl
theorem Py {a:Nat} (h:a ^ gq % gp=1) (k r:Nat):a ^ (gq * k+r) % gp=a ^ r % gp:=by
 rw[Nat.pow_add,Nat.mul_mod,UA h,Nat.one_mul,Nat.mod_mod]
theorem Nr {a:Nat} (h:a ^ gq % gp=1) (n:Nat):inG (a ^ n % gp):=by
 have h2:(a ^ n % gp) ^ gq % gp=1:=by rw[Px,Nat.mul_comm,UA h]
 refine⟨Nat.pos_of_ne_zero λM=>?_,Nat.mod_lt _ (by decide),h2⟩;rw[M,Nat.zero_pow (by decide)] at h2;exact absurd h2 (by decide)
theorem z190 {y E:Nat} (h:y ^ gq % gp=1) (hE:E<gq):(y ^ E % gp) ^ (gq - 1) % gp=y ^ (gq - E) % gp:=by
 rw[Px];by_cases M:E=0
 ·subst M;rw[Nat.zero_mul,Nat.sub_zero,h,Nat.pow_zero]
  decide
 ·have e:E * (gq - 1)=gq * (E - 1)+(gq - E):=by
   obtain⟨k,rfl⟩:∃ k,E=k+1:=⟨E - 1, by omega⟩
   have hE':k+1<500000003:=hE;show (k+1) * 500000002=500000003 * (k+1 - 1)+(500000003 - (k+1));omega
  rw[e,Py h]
theorem z12m {a n i p:Nat}:((a ^ (n >>> (i+1)) % p) * (a ^ (n >>> (i+1)) % p) % p) * a ^ ((n >>> i) % 2) % p=a ^ (n >>> i) % p:=by
 have e:n >>> i=2 * (n >>> (i+1))+(n >>> i) % 2:=by
  rw[Nat.shiftRight_succ]; omega
 have key:∀ x y:Nat,((x % p) * (x % p) % p) * y % p=x * x * y % p:=λx y=>by
  rw[Nat.mul_mod ((x % p) * (x % p) % p) y,Nat.mod_mod,<- Nat.mul_mod x x,<- Nat.mul_mod]
 rw[key,<- Nat.pow_add,<- Nat.pow_add]
 congr 2
 omega
end
section
def u32 (n:Nat):UInt32:=UInt32.ofNat n
theorem Cy {n:Nat} (h:n<gp):(u32 n).toNat=n:=by
 have h:n<1000000007:=h;unfold u32; simp; omega
theorem m64 (x y:UInt64) (h:x.toNat * y.toNat<18446744073709551616):(x * y % 1000000007).toNat=x.toNat * y.toNat % gp:=by
 rw[UInt64.toNat_mod,UInt64.toNat_mul,Nat.mod_eq_of_lt h];rfl
theorem to32 (x:UInt64) (h:x.toNat<gp):x.toUInt32=u32 x.toNat:=by
 apply UInt32.toNat_inj.1
 have h:x.toNat<1000000007:=h;rw[Cy h]; simp; omega
theorem mul2 (x y:UInt32):FY 1000000007 [x,y]=some (u32 (x.toNat * y.toNat % gp)):=by
 have hx:=UInt32.toNat_lt x;have hy:=UInt32.toNat_lt y;have e1:(1 * x.toUInt64 % 1000000007:UInt64).toNat=x.toNat % gp:=by
  rw[m64 _ _ (by simp; omega)]; simp
 have a1:x.toNat % gp<1000000007:=Nat.mod_lt _ (by decide);have a2:(x.toNat % gp) * y.toNat<=1000000007 * 4294967296:=Nat.mul_le_mul (by omega) (by omega);have e2:(1 * x.toUInt64 % 1000000007 * y.toUInt64 % 1000000007:UInt64).toNat=x.toNat * y.toNat % gp:=by
  rw[m64 _ _ (by rw[e1]; simp; omega),e1];simp only[UInt32.toNat_toUInt64];rw[Nat.mod_mul_mod]
 have M:Ey 1000000007 [x,y] (1,0)=some (.inr (1 * x.toUInt64 % 1000000007,1)):=by
  unfold Ey;rw[if_pos (by simp)];simp only[];rw[show idx [x,y] 0=some x from rfl,Cn (by decide),B1 (x:=(0:Int)+1) (by omega) (by omega)];simp only[bS];rfl
 have O:Ey 1000000007 [x,y] (1 * x.toUInt64 % 1000000007,1)=some (.inr (1 * x.toUInt64 % 1000000007 * y.toUInt64 % 1000000007,2)):=by
  unfold Ey;rw[if_pos (by simp)];simp only[];rw[show idx [x,y] 1=some y from rfl,Cn (by decide),B1 (x:=(1:Int)+1) (by omega) (by omega)];simp only[bS];rfl
 have U:Ey 1000000007 [x,y] (1 * x.toUInt64 % 1000000007 * y.toUInt64 % 1000000007,2)=some (.inl (1 * x.toUInt64 % 1000000007 * y.toUInt64 % 1000000007)):=by
  unfold Ey;rw[if_neg (by simp)]
 unfold FY;rw[B9 M,B9 O,AW U];simp only[bS];rw[to32 _ (by rw[e2]; exact Nat.mod_lt _ (by decide)),e2]
theorem z171 (a:UInt32) (n:UInt64) (i:Nat) (hi:i<64):Jq a n (u32 (a.toNat ^ (n.toNat >>> (64 - i)) % gp),(i:Int))=some (.inr (u32 (a.toNat ^ (n.toNat >>> (64 - (i+1))) % gp),((i+1:Nat):Int))):=by
 have U:a.toNat ^ (n.toNat >>> (64 - i)) % gp<gp:=Nat.mod_lt _ (by decide);have hlt2:(a.toNat ^ (n.toNat >>> (64 - i)) % gp) * (a.toNat ^ (n.toNat >>> (64 - i)) % gp) % gp<gp:=Nat.mod_lt _ (by decide);have hw:w64 (63 - (i:Int))=((63 - i:Nat):Int):=by rw[B1 (by omega) (by omega)]; omega
 have key:=z12m (a:=a.toNat) (n:=n.toNat) (i:=63 - i) (p:=gp);rw[show 63 - i+1=64 - i by omega] at key;have hb:=Tv n (63 - i) (by omega);unfold Jq Ok;rw[if_pos (by simp; omega)];simp only[];rw[mul2,Cy U];simp only[bS];rw[hw,Cn (by omega),AO (show i<9223372036854775807 by omega)];simp only[bS];rw[show 64 - (i+1)=63 - i by omega];have M:n.toNat >>> (63 - i) % 2=(if n.toNat.testBit (63 - i) then 1 else 0):=by
  rw[Nat.testBit_eq_decide_div_mod_eq,<- Nat.shiftRight_eq_div_pow];by_cases h:n.toNat >>> (63 - i) % 2=1
  ·simp[h]
  ·simp[h]; omega
 cases O:n.toNat.testBit (63 - i) with
 | true =>
  rw[O] at M;rw[M,if_pos rfl,Nat.pow_one] at key;rw[if_pos (by rw[Int.toNat_natCast,hb]; exact O),mul2,Cy hlt2,key];simp only[bS]
 | false =>
  rw[O] at M;rw[M,if_neg (by simp),Nat.pow_zero,Nat.mul_one,Nat.mod_mod] at key;rw[if_neg (by rw[Int.toNat_natCast,hb,O]; simp),key]
theorem Ns (a:UInt32) (n:UInt64):Ih a n=some (u32 (a.toNat ^ n.toNat % gp)):=by
 have M:n.toNat >>> 64=0:=by
  rw[Nat.shiftRight_eq_div_pow]; exact Nat.div_eq_of_lt (UInt64.toNat_lt n)
 have:=C1 (F:=Jq a n) (b:=u32 (a.toNat ^ n.toNat % gp)) 64 (λi=>(u32 (a.toNat ^ (n.toNat >>> (64 - i)) % gp),(i:Int))) (λi hi=>z171 a n i hi) (by
  unfold Jq;rw[if_neg (by simp)]
  simp)
 simp only[Nat.sub_zero,M,Nat.pow_zero] at this;unfold Ih;rw[show ((1:UInt32),(0:Int))=(u32 (1 % gp),((0:Nat):Int)) from rfl,this];simp only[bS]
theorem z119:∀ (k:Nat) (a n o:UInt64),n.toNat=k->a.toNat<4294967296->o.toNat<gp->∃ r:UInt64,iter (JV 1000000007) (a,n,o)=some r/\r.toNat=o.toNat * a.toNat ^ n.toNat % gp:=by
 intro k
 induction k using Nat.strongRecOn with
 | _ k ih =>
  intro a n o hk ha ho;have a8:o.toNat<1000000007:=ho;by_cases hn:n.toNat=0
  ·refine⟨o,AW ?_,?_⟩
   ·unfold JV;rw[if_neg];simp only[decide_eq_true_eq,UInt64.lt_iff_toNat_lt]
    simp; omega
   ·rw[hn,Nat.pow_zero,Nat.mul_one,Nat.mod_eq_of_lt ho]
  ·have M:(a * a % 1000000007).toNat=a.toNat * a.toNat % gp:=m64 a a (by
    have:a.toNat * a.toNat<=4294967295 * 4294967295:=Nat.mul_le_mul (by omega) (by omega)
    omega)
   have a2:(o * a % 1000000007).toNat=o.toNat * a.toNat % gp:=m64 o a (by
    have:o.toNat * a.toNat<=1000000007 * 4294967295:=Nat.mul_le_mul (by omega) (by omega)
    omega)
   have O:(n / 2).toNat=n.toNat / 2:=by simp
   have a6:((n % 2)==1)=decide (n.toNat % 2=1):=by
    rw[Bool.eq_iff_iff,beq_iff_eq,<- UInt64.toNat_inj]
    simp
   have aa:a.toNat * a.toNat % gp<1000000007:=Nat.mod_lt _ (by decide);have a7:o.toNat * a.toNat % gp<gp:=Nat.mod_lt _ (by decide);have U:∀ m:Nat,(a.toNat * a.toNat % gp) ^ m % gp=a.toNat ^ (2 * m) % gp:=λm=>by
    rw[<- Nat.pow_mod,<- Nat.pow_two,<- Nat.pow_mul]
   have a1:JV 1000000007 (a,n,o)=some (.inr (a * a % 1000000007,n / 2, if n.toNat % 2=1 then o * a % 1000000007 else o)):=by
    unfold JV;rw[if_pos (by simp only[decide_eq_true_eq,UInt64.lt_iff_toNat_lt]; simp; omega)];simp only[];rw[a6,Cn (by decide)];by_cases h:n.toNat % 2=1
    ·rw[if_pos (by simpa using h),if_pos h];simp only[bS]
    ·rw[if_neg (by simpa using h),if_neg h];simp only[bS]
   rw[B9 a1];by_cases h:n.toNat % 2=1
   ·rw[if_pos h];obtain⟨r,h1,h2⟩:=ih (n / 2).toNat (by rw[O]; omega) (a * a % 1000000007) (n / 2) (o * a % 1000000007) rfl (by rw[M]; omega) (by rw[a2]; exact a7);refine⟨r,h1,?_⟩;rw[h2,M,a2,O,Nat.mul_mod,U,Nat.mod_mod,<- Nat.mul_mod,Nat.mul_assoc, show a.toNat * a.toNat ^ (2 * (n.toNat / 2))=a.toNat ^ (2 * (n.toNat / 2)+1) by rw[Nat.pow_succ,Nat.mul_comm], show 2 * (n.toNat / 2)+1=n.toNat by omega]
   ·rw[if_neg h];obtain⟨r,h1,h2⟩:=ih (n / 2).toNat (by rw[O]; omega) (a * a % 1000000007) (n / 2) o rfl (by rw[M]; omega) ho;refine⟨r,h1,?_⟩;rw[h2,M,O,Nat.mul_mod,U,<- Nat.mul_mod, show 2 * (n.toNat / 2)=n.toNat by omega]
theorem UB (a n:UInt64) (M:a.toNat<4294967296):∃ r:UInt64,JW a n 1000000007=some r/\r.toNat=a.toNat ^ n.toNat % gp:=by
 obtain⟨r,h1,h2⟩:=z119 _ a n 1 rfl M (by decide);refine⟨r,?_, by rw[h2]; simp⟩
 unfold JW;rw[h1];simp only[bS]
theorem Pz (a:UInt32) (n:UInt64):Iv a n=some (u32 (a.toNat ^ n.toNat % gp)):=by
 obtain⟨r,h1,h2⟩:=UB a.toUInt64 n (by simp; exact UInt32.toNat_lt a);unfold Iv;rw[h1];simp only[bS];simp only[UInt32.toNat_toUInt64] at h2;rw[to32 _ (by rw[h2]; exact Nat.mod_lt _ (by decide)),h2]
theorem z1bz (a:UInt32):(u32 (a.toNat ^ (500000003:UInt64).toNat % gp)==1)=decide (a.toNat ^ gq % gp=1):=by
 have M:a.toNat ^ gq % gp<gp:=Nat.mod_lt _ (by decide);rw[show (500000003:UInt64).toNat=gq from rfl,Bool.eq_iff_iff,beq_iff_eq,decide_eq_true_iff,<- UInt32.toNat_inj,Cy M];rfl
theorem KW (a:UInt32):Ii a=some (decide (inG a.toNat)):=by
 unfold Ii;have h1:decide (0<a)=decide (0<a.toNat):=by simp[UInt32.lt_iff_toNat_lt]
 have h2:decide (a<1000000007)=decide (a.toNat<gp):=by simp[UInt32.lt_iff_toNat_lt]
 rw[h1,h2,Ns];simp only[bS];rw[z1bz];unfold inG;by_cases M:0<a.toNat
 ·by_cases O:a.toNat<gp
  ·simp[M,O]
  ·simp[M,O]
 ·simp[M]
theorem UC (a:UInt32):JX a=some (decide (inG a.toNat)):=by
 obtain⟨r,U,M⟩:=UB a.toUInt64 500000003 (by simp; exact UInt32.toNat_lt a);unfold JX;have h1:decide (1<=a)=decide (0<a.toNat):=by
  rw[decide_eq_decide,UInt32.le_iff_toNat_le]; simp; omega
 have h2:decide (a<1000000007)=decide (a.toNat<gp):=by simp[UInt32.lt_iff_toNat_lt]
 rw[h1,h2,U];simp only[bS];have h3:(r==1)=decide (a.toNat ^ gq % gp=1):=by
  simp only[UInt32.toNat_toUInt64] at M;rw[Bool.eq_iff_iff,beq_iff_eq,decide_eq_true_iff,<- UInt64.toNat_inj,M];rfl
 rw[h3];unfold inG;by_cases O:0<a.toNat
 ·by_cases c2:a.toNat<gp
  ·simp[O,c2]
  ·simp[O,c2]
 ·simp[O]
end
section
theorem z14a (l:List (List UInt8)) (h0:l.length<=20) (h:∀ b∈l,b.length<=10000):M1 l=some false:=by
 have:iter (JC l) 0=some (.inr ()):=by
  refine C1 (F:=JC l) (b:=.inr ()) l.length (λi=>(i:Int)) (λi hi=>?_) ?_
  ·have hb:=h l[i] (List.getElem_mem _);unfold JC OB;rw[if_pos (by simp; omega),AE hi];simp only[bS];rw[if_neg (by simp; omega),AO (show i<9223372036854775807 by omega)]
  ·unfold JC;rw[if_neg (by simp)]
 unfold M1 OF;rw[this];simp only[Df,bS];rfl
theorem Nt:∀ (l:List (List UInt8)),(∀ b∈l,b.length<=10000)->l.flatten.length<=l.length * 10000
 | [],_=>by simp
 | b::l,h=>by
  have h1:=h b (by simp);have h2:=Nt l (λc M=>h c (by simp[M]));simp only[List.flatten_cons,List.length_append,List.length_cons]; omega
theorem PA (l:List (List UInt8)) (U:l.length<=20) (h:∀ b∈l,b.length<=10000):JE l=some (sha l.flatten,0):=by
 have hl:iter (JD l) (mill [],0)=some (mill l.flatten):=by
  have:=C1 (F:=JD l) (b:=mill l.flatten) l.length (λi=>(mill (l.take i).flatten,(i:Int))) (λi hi=>?_) ?_
  ·simpa using this
  ·have hb:=h l[i] (List.getElem_mem _);have M:=Nt (l.take i) (λb O=>h b (List.mem_of_mem_take O));simp only[List.length_take] at M;unfold JD;rw[if_pos (by simp; omega)];simp only[];rw[AE hi];simp only[bS];rw[Ux _ _ (by omega),AO (show i<9223372036854775807 by omega)];simp only[bS];rw[List.take_add_one,List.getElem?_eq_getElem hi,List.flatten_append];rw[show ((some l[i]:Option (List UInt8)).toList).flatten=l[i] by simp]
  ·unfold JD;rw[if_neg (by simp)]
   simp
 have M:=Nt l h;unfold JE;rw[if_neg (by simp; omega),z14a l U h];simp only[bS];rw[if_neg (by simp),z15s];simp only[bS];rw[hl];simp only[bS];rw[z1dq _ (by omega)];simp only[bS]
theorem z1bj (b:List UInt8) (h:b.length<=10000):M2 b=some (sha b,0):=by
 unfold M2;rw[PA [b] (by simp) (by simpa using h)]
 simp
def four (x:UInt32):List UInt8:=[(BD x 24).toUInt8,(BD x 16).toUInt8,(BD x 8).toUInt8,x.toUInt8]
theorem UD (x:UInt32):K2 x=some (four x):=by
 unfold K2 four;have hx:=UInt32.toNat_lt x;have e1:(x / 16777216).toUInt8=(BD x 24).toUInt8:=by
  apply UInt8.toNat_inj.1
  simp only[UInt32.toNat_toUInt8,Nn,UInt32.toNat_div]; rfl
 have e2:((x / 65536) % 256).toUInt8=(BD x 16).toUInt8:=by
  apply UInt8.toNat_inj.1
  simp only[UInt32.toNat_toUInt8,Nn,UInt32.toNat_div,UInt32.toNat_mod];exact Nat.mod_mod _ _
 have e3:((x / 256) % 256).toUInt8=(BD x 8).toUInt8:=by
  apply UInt8.toNat_inj.1
  simp only[UInt32.toNat_toUInt8,Nn,UInt32.toNat_div,UInt32.toNat_mod];exact Nat.mod_mod _ _
 have e4:(x % 256).toUInt8=x.toUInt8:=by
  apply UInt8.toNat_inj.1
  simp only[UInt32.toNat_toUInt8,UInt32.toNat_mod];exact Nat.mod_mod _ _
 rw[e1,e2,e3,e4]
def D7 (d:V3):Nat->UInt64
 | 0=>0
 | i+1=>256 * D7 d i+(d.toList.getD i 0).toUInt64
theorem PB (d:V3):∀ i,i<=8->(D7 d i).toNat<256 ^ i
 | 0,_=>by simp[D7]
 | i+1,h=>by
  have ih:=PB d i (by omega);have hy:=UInt8.toNat_lt (d.toList.getD i 0);have ep:256 ^ (i+1)=256 ^ i * 256:=Nat.pow_succ ..;have hp:256 ^ i<=256 ^ 7:=Nat.pow_le_pow_right (by omega) (by omega);have e7:(256:Nat) ^ 7=72057594037927936:=rfl;rw[D7,UInt64.toNat_add,UInt64.toNat_mul,ep];have e1:((d.toList.getD i 0).toUInt64).toNat=(d.toList.getD i 0).toNat:=by simp
  have e2:(256:UInt64).toNat=256:=rfl;rw[e1,e2,Nat.mod_eq_of_lt (a:=256 * (D7 d i).toNat) (by omega),Nat.mod_eq_of_lt (by omega)];omega
theorem z16x (x:UInt64) (y:UInt8) (h:x.toNat<72057594037927936):(EW x 8) ||| y.toUInt64=256 * x+y.toUInt64:=by
 apply UInt64.toNat_inj.1
 have M:=UInt8.toNat_lt y;rw[UInt64.toNat_or,OV,UInt64.toNat_add,UInt64.toNat_mul];have e1:(y.toUInt64).toNat=y.toNat:=by simp
 have e2:(256:UInt64).toNat=256:=rfl;rw[e1,e2, show (2:Nat) ^ (min 8 64)=256 from rfl,Nat.mod_eq_of_lt (a:=x.toNat * 256) (by omega),Nat.mod_eq_of_lt (a:=256 * x.toNat) (by omega),Nat.mod_eq_of_lt (by omega)]
 have:=Nat.shiftLeft_add_eq_or_of_lt (i:=8) (b:=y.toNat) (by simpa using M) x.toNat
 rw[Nat.shiftLeft_eq, show (2:Nat) ^ 8=256 from rfl] at this;rw[<- this]; omega
theorem UE (d:V3) (e:Int):iter (JF (d,e)) (0,0)=some (D7 d 8):=by
 refine C1 (F:=JF (d,e)) (b:=D7 d 8) 8 (λi=>(D7 d i,(i:Int))) (λi hi=>?_) ?_
 ·have hl:((d.toList.drop 0).take 8).length=8:=by simp
  have a1:=PB d i (by omega);have hp:256 ^ i<=256 ^ 7:=Nat.pow_le_pow_right (by omega) (by omega);have e7:(256:Nat) ^ 7=72057594037927936:=rfl;unfold JF;simp only[hl];rw[if_pos (by simp; omega),DP 0 (by rw[hl]; exact hi)];simp only[bS];rw[List.drop_zero,Ur hi,z16x _ _ (by omega),AO (show i<9223372036854775807 by omega)];rfl
 ·have hl:((d.toList.drop 0).take 8).length=8:=by simp
  unfold JF;simp only[hl];rw[if_neg (by simp)]
theorem z19y (b:List UInt8) (h:b.length<=300000):Mm b=some (D7 (sha b) 8):=by
 have:iter (K3 (sha b)) (0,0)=some (D7 (sha b) 8):=by
  refine C1 (F:=K3 (sha b)) (b:=D7 (sha b) 8) 8 (λi=>(D7 (sha b) i,(i:Int))) (λi hi=>?_) ?_
  ·unfold K3;rw[if_pos (by simp; omega)];simp only[Pt];rw[DP 0 (by simp; omega),AO (show i<9223372036854775807 by omega)];simp only[bS];rfl
  ·unfold K3;rw[if_neg (by simp)]
 unfold Mm;rw[Uz b h];simp only[bS];rw[this];simp only[bS]
def chal (r y:UInt32) (m:List UInt8):UInt32:=(D7 (sha ((([99]++four r)++four y)++m)) 8 % 500000003).toUInt32
theorem z1am (m:List UInt8) (r y:UInt32) (h:m.length<=9991):Hp 99 m [r,y]=some (D7 (sha ((([99]++four r)++four y)++m)) 8,0):=by
 have M:iter (EB [r,y]) ([99],0)=some (([99]++four r)++four y):=by
  have O:EB [r,y] ([99],0)=some (.inr ([99]++four r,1)):=by
   unfold EB;rw[if_pos (by simp)];simp only[];rw[show idx [r,y] 0=some r from rfl,B1 (x:=(0:Int)+1) (by omega) (by omega)];simp only[bS];rw[Bw (by simp)];rfl
  have U:EB [r,y] ([99]++four r,1)=some (.inr (([99]++four r)++four y,2)):=by
   unfold EB;rw[if_pos (by simp)];simp only[];rw[show idx [r,y] 1=some y from rfl,B1 (x:=(1:Int)+1) (by omega) (by omega)];simp only[bS];rw[Bw (by simp[four])];rfl
  have s3:EB [r,y] (([99]++four r)++four y,2)=some (.inl (([99]++four r)++four y)):=by
   unfold EB;rw[if_neg (by simp)]
  rw[B9 O,B9 U,AW s3]
 unfold Hp;rw[if_neg (by simp; omega),M];simp only[bS]
 rw[PA _ (by simp) (by
  intro b hb;simp only[List.mem_cons,List.not_mem_nil,or_false] at hb;rcases hb with rfl | rfl
  ·simp[four]
  ·omega)]
 simp only[bS];rw[UE, show [([99]++four r)++four y,m].flatten=(([99]++four r)++four y)++m by simp only[List.flatten_cons,List.flatten_nil,List.append_nil]];rfl
theorem UF (r y:UInt32) (m:List UInt8) (h:m.length<=9991):JG r y m=some (chal r y m,0):=by
 unfold JG;rw[z1am m r y h];simp only[bS];rw[if_neg (by simp)];rfl
theorem zoz (r y:UInt32) (m:List UInt8) (h:m.length<=9991):Mn r y m=some (chal r y m):=by
 unfold Mn;rw[UD];simp only[bS];rw[Bw (by simp[four]),UD];simp only[bS];rw[Bw (by simp[four])];simp only[bS];rw[Bw (by simp[four]; omega)];simp only[bS];rw[z19y _ (by simp[four]; omega)];simp only[bS];rfl
def Cu (x:UInt32):Bool:=decide (x.toNat<gq)
theorem Nu (x:UInt32):Hr x=some (Cu x):=by
 have e:decide (x.toUInt64<500000003)=Cu x:=by unfold Cu; simp[UInt64.lt_iff_toNat_lt]
 unfold Hr;rw[e];rfl
def sigR (y:UInt32) (s:AC):UInt32:=u32 ((4 ^ s.S.toNat % gp) * (y.toNat ^ (gq - s.E.toNat) % gp) % gp)
def Fe (y:UInt32) (m:List UInt8) (s:AC):Bool:=Cu s.E&&(Cu s.S&&(chal (sigR y s) y m==s.E))
theorem z16c (y:UInt32) (m:List UInt8) (s:AC) (hy:inG y.toNat) (h:m.length<=9991):Mo y m s=some (Fe y m s):=by
 unfold Mo Fe;rw[Nu];simp only[bS]
 cases hE:Cu s.E with
 | false=>rw[if_pos (by simp)]; rfl
 | true =>
  rw[if_neg (by simp),Nu];simp only[bS]
  cases hS:Cu s.S with
  | false=>rw[if_pos (by simp)]; rfl
  | true =>
   have hE':s.E.toNat<gq:=by simpa [Cu] using hE
   have a2:=Nr hy.2.2 s.E.toNat;have O:y.toNat ^ s.E.toNat % gp<gp:=Nat.mod_lt _ (by decide);rw[if_neg (by simp),Pz];simp only[bS];unfold OP OR OQ;rw[UC,Cy (by simpa using O)];simp only[bS];have hE64:s.E.toUInt64.toNat=s.E.toNat:=by simp
   rw[hE64,decide_eq_true a2,if_neg (by simp),Pz,Cy O,Pz];simp only[bS];rw[show (500000002:UInt64).toNat=gq - 1 from rfl,z190 hy.2.2 hE'];unfold OS;simp only[bS];have hS64:s.S.toUInt64.toNat=s.S.toNat:=by simp
   have U:4 ^ s.S.toNat % gp<gp:=Nat.mod_lt _ (by decide);have a1:y.toNat ^ (gq - s.E.toNat) % gp<gp:=Nat.mod_lt _ (by decide);have M:((u32 ((4:UInt32).toNat ^ s.S.toUInt64.toNat % gp)).toUInt64 * (u32 (y.toNat ^ (gq - s.E.toNat) % gp)).toUInt64 % 1000000007).toUInt32=sigR y s:=by
    have hb:(4 ^ s.S.toNat % gp) * (y.toNat ^ (gq - s.E.toNat) % gp)<=1000000007 * 1000000007:=Nat.mul_le_mul (Nat.le_of_lt U) (Nat.le_of_lt a1);have e1:=m64 (u32 ((4:UInt32).toNat ^ s.S.toUInt64.toNat % gp)).toUInt64 (u32 (y.toNat ^ (gq - s.E.toNat) % gp)).toUInt64;simp only[UInt32.toNat_toUInt64] at e1;rw[show (4:UInt32).toNat=4 from rfl,Cy U,Cy a1] at e1;have e1:=e1 (by omega);rw[show (4:UInt32).toNat=4 from rfl,hS64,to32 _ (by rw[e1]; exact Nat.mod_lt _ (by decide)),e1]
    rfl
   rw[M,zoz _ _ _ h];simp only[bS];rfl
theorem all1 (a:UInt32) (h:inG a.toNat):Hn [a]=some true:=by
 unfold Hn;have M:F3 [a] 0=some (.inr 1):=by
  unfold F3;rw[if_pos (by simp), show idx [a] 0=some a from rfl];simp only[bS];rw[KW,decide_eq_true h,B1 (x:=(0:Int)+1) (by omega) (by omega)];rfl
 have O:F3 [a] 1=some (.inl (.inr ())):=by
  unfold F3;rw[if_neg (by simp)]
 rw[B9 M,AW O];rfl
theorem all2 (a b:UInt32) (h:inG a.toNat) (h2:inG b.toNat):Hn [a,b]=some true:=by
 unfold Hn;have M:F3 [a,b] 0=some (.inr 1):=by
  unfold F3;rw[if_pos (by simp), show idx [a,b] 0=some a from rfl];simp only[bS];rw[KW,decide_eq_true h,B1 (x:=(0:Int)+1) (by omega) (by omega)];rfl
 have O:F3 [a,b] 1=some (.inr 2):=by
  unfold F3;rw[if_pos (by simp), show idx [a,b] 1=some b from rfl];simp only[bS];rw[KW,decide_eq_true h2,B1 (x:=(1:Int)+1) (by omega) (by omega)];rfl
 have U:F3 [a,b] 2=some (.inl (.inr ())):=by
  unfold F3;rw[if_neg (by simp)]
 rw[B9 M,B9 O,AW U];rfl
theorem z12o (y:UInt32) (m:List UInt8) (s:AC) (U:inG y.toNat) (h:m.length<=9991):M3 y m s=some (if Fe y m s then 0 else 22):=by
 have a1:decide (500000003<=max s.E s.S)=!(Cu s.E&&Cu s.S):=by
  have e1:(500000003<=max s.E s.S)↔(500000003<=s.E\/500000003<=s.S):=by
   rw[show max s.E s.S=if s.E<=s.S then s.S else s.E from rfl]
   split
   ·rename_i hh
    constructor
    ·exact λh=>.inr h
    ·rintro (h | h)
     ·exact UInt32.le_trans h hh
     ·exact h
   ·rename_i hh
    constructor
    ·exact λh=>.inl h
    ·rintro (h | h)
     ·exact h
     ·rw[UInt32.le_iff_toNat_le] at *; omega
  rw[Bool.eq_iff_iff,decide_eq_true_iff,e1];unfold Cu;simp only[UInt32.le_iff_toNat_le,Bool.not_eq_true',Bool.and_eq_false_iff,decide_eq_false_iff_not,Nat.not_lt];rfl
 unfold M3;rw[KW,decide_eq_true U];simp only[bS];rw[if_neg (by simp),if_neg (by simp; omega),a1]
 cases hE:Cu s.E with
 | false=>unfold Fe; rw[hE]; rfl
 | true =>
  cases hS:Cu s.S with
  | false=>unfold Fe; rw[hE,hS]; rfl
  | true =>
   have hE':s.E.toNat<gq:=by simpa [Cu] using hE
   have hE':s.E.toNat<500000003:=hE';rw[if_neg (by simp)];unfold OH Ho OJ;rw[all1 y U];simp only[bS];rw[if_neg (by simp),Ns];simp only[bS];rw[Ns];simp only[bS];have hS64:s.S.toUInt64.toNat=s.S.toNat:=by simp
   have hq:(500000003 - s.E.toUInt64).toNat=gq - s.E.toNat:=by
    rw[UInt64.toNat_sub_of_le _ _ (by rw[UInt64.le_iff_toNat_le]; simp; omega)]
    simp
   have M:4 ^ s.S.toNat % gp<gp:=Nat.mod_lt _ (by decide);have O:y.toNat ^ (gq - s.E.toNat) % gp<gp:=Nat.mod_lt _ (by decide);rw[hq,hS64, show (4:UInt32).toNat=4 from rfl];rw[all2 _ _ (by rw[Cy M]; exact Nr Nq _) (by rw[Cy O]; exact Nr U.2.2 _)];simp only[bS];rw[if_neg (by simp),mul2,Cy M,Cy O];simp only[bS];rw[UF _ _ _ h];simp only[bS];rw[if_neg (by simp)];unfold Fe
   rw[hE,hS];show (if (chal (sigR y s) y m != s.E)=true then some 22 else some 0)=_;by_cases hc:chal (sigR y s) y m=s.E
   ·simp[hc]
   ·simp[hc]
end
section
def frc {α:Type} (x:Nat) (k:Nat->α):α:=match x with
 | 0=>k 0
 | n+1=>k (n+1)
theorem UG {α:Type} (x:Nat) (k:Nat->α):frc x k=k x:=by cases x <;> rfl
def E9 {α:Type} (x:UInt32) (k:UInt32->α):α:=frc x.toNat λn=>k (UInt32.ofNat n)
theorem IY {α:Type} (x:UInt32) (k:UInt32->α):E9 x k=k x:=by unfold E9; rw[UG,UInt32.ofNat_toNat]
def fB {α:Type}:List UInt8->(List UInt8->α)->α
 | [],k=>k []
 | x::l,k=>frc x.toNat λn=>fB l λm=>k (UInt8.ofNat n::m)
theorem UH {α:Type}:∀ (l:List UInt8) (k:List UInt8->α),fB l k=k l
 | [],k=>rfl
 | x::l,k=>by rw[fB,UG,UH l,UInt8.ofNat_toNat]
def fW {α:Type}:List UInt32->(List UInt32->α)->α
 | [],k=>k []
 | x::l,k=>E9 x λn=>fW l λm=>k (n::m)
theorem UI {α:Type}:∀ (l:List UInt32) (k:List UInt32->α),fW l k=k l
 | [],k=>rfl
 | x::l,k=>by rw[fW,IY,UI l]
def wL:Nat->List UInt8->List UInt32
 | 0,_=>[]
 | n+1,l=>word l 0::wL n (l.drop 4)
theorem z11q (l:List UInt8) (k:Nat):word (l.drop 4) k=word l (k+1):=by
 unfold word;have e:∀ j,(l.drop 4).getD (4 * k+j) 0=l.getD (4 * (k+1)+j) 0:=λj=>by
  rw[List.getD_eq_getElem?_getD,List.getD_eq_getElem?_getD,List.getElem?_drop]
  congr 2; omega
 have e0:=e 0;rw[Nat.add_zero,Nat.add_zero] at e0;rw[e0,e 1,e 2,e 3]
theorem UJ:∀ (n:Nat) (l:List UInt8),wL n l=(List.range n).map (word l)
 | 0,l=>rfl
 | n+1,l=>by
  rw[wL,UJ n,List.range_succ_eq_map,List.map_cons,List.map_map];exact congrArg (List.cons (word l 0)) (List.map_congr_left λk hk=>z11q l k)
def sF {α:Type}:Nat->List UInt32->(List UInt32->α)->α
 | 0,r,k=>k r.reverse
 | n+1,r,k=>E9 (((r.getD 15 0+r.getD 6 0)+sg0 (r.getD 14 0))+sg1 (r.getD 1 0)) λw=>sF n (w::r) k
theorem Nv (l:List UInt32) (i:Nat) (h:i<l.length):l.reverse.getD i 0=l.getD (l.length - (i+1)) 0:=by
 rw[List.getD_eq_getElem?_getD,List.getD_eq_getElem?_getD,List.getElem?_reverse h]
 congr 2
 omega
theorem UK {α:Type} (b:List UInt8) (k:List UInt32->α):∀ (n m:Nat),sF n (BX b m).reverse k=k (BX b (m+n))
 | 0,m=>by rw[sF,List.reverse_reverse]; rfl
 | n+1,m=>by
  have hl:=IW b m;rw[sF,IY,Nv _ 15 (by omega),Nv _ 6 (by omega),Nv _ 14 (by omega),Nv _ 1 (by omega)]
  have:((((BX b m).getD ((BX b m).length - (15+1)) 0+(BX b m).getD ((BX b m).length - (6+1)) 0)+sg0 ((BX b m).getD ((BX b m).length - (14+1)) 0))+sg1 ((BX b m).getD ((BX b m).length - (1+1)) 0))::(BX b m).reverse=(BX b (m+1)).reverse:=by
   show _=(HN (BX b m)).reverse;unfold HN;rw[List.reverse_append]; rfl
  rw[this,UK b k n (m+1)]
  congr 2; omega
def rF {α:Type}:List UInt32->List UInt32->O8->(O8->α)->α
 | q::K,w::W,s,k=>E9 (rnd1 q w s) λt=>E9 (t+rnd2 s) λx=>E9 (s.2.2.2.1+t) λy=>rF K W (x,s.1,s.2.1,s.2.2.1,y,s.2.2.2.2.1,s.2.2.2.2.2.1,s.2.2.2.2.2.2.1) k
 | _,_,s,k=>k s
theorem UL {α:Type} (K W:List UInt32) (hK:K.length=64) (hW:W.length=64) (s:O8) (k:O8->α):∀ (n i:Nat),64 - i=n->i<=64->rF (K.drop i) (W.drop i) (Eo K W s i) k=k (Eo K W s 64)
 | 0,i,h,hi=>by
  have:i=64:=by omega
  subst this;rw[List.drop_eq_nil_of_le (by omega)]; rfl
 | n+1,i,h,hi=>by
  rw[List.drop_eq_getElem_cons (by omega),List.drop_eq_getElem_cons (by omega:i<W.length),rF,IY,IY,IY];rw[<- UL K W hK hW s k n (i+1) (by omega) (by omega)]
  congr 1
  rw[Eo,rnd,List.getD_eq_getElem?_getD,List.getD_eq_getElem?_getD,List.getElem?_eq_getElem (by omega),List.getElem?_eq_getElem (by omega)];rfl
def grK {α:Type} (h:O8) (b:List UInt8) (k:O8->α):α :=
 fW (wL 16 b).reverse λr=>sF 48 r λW=>rF Bv.toList W h λs =>
 E9 (h.1+s.1) λa=>E9 (h.2.1+s.2.1) λb=>E9 (h.2.2.1+s.2.2.1) λc=>E9 (h.2.2.2.1+s.2.2.2.1) λd =>
 E9 (h.2.2.2.2.1+s.2.2.2.2.1) λe=>E9 (h.2.2.2.2.2.1+s.2.2.2.2.2.1) λf=>E9 (h.2.2.2.2.2.2.1+s.2.2.2.2.2.2.1) λg=>E9 (h.2.2.2.2.2.2.2+s.2.2.2.2.2.2.2) λz=>k (a,b,c,d,e,f,g,z)
def add8 (h s:O8):O8:=(h.1+s.1,h.2.1+s.2.1,h.2.2.1+s.2.2.1,h.2.2.2.1+s.2.2.2.1,h.2.2.2.2.1+s.2.2.2.2.1,h.2.2.2.2.2.1+s.2.2.2.2.2.1,h.2.2.2.2.2.2.1+s.2.2.2.2.2.2.1,h.2.2.2.2.2.2.2+s.2.2.2.2.2.2.2)
theorem z17g (h v:Vector UInt32 8):∀ j (M:j<8),(addV h v)[j]=h[j]+v[j]:=by
 obtain⟨r,h1,h2⟩:=DV (F:=F5 v) 8 (λi s=>s.2=(i:Int)/\∀ j (M:j<8),s.1[j]=if j<i then h[j]+v[j] else h[j]) (λr=>∀ j (M:j<8),r[j]=h[j]+v[j]) (λi s hi O=>by
  obtain⟨u,k⟩:=s;obtain⟨O,U⟩:=O;simp only at O U;subst O;unfold F5;rw[if_pos (by simp; omega)];rw[DO (show i<8 by omega),DO (show i<8 by omega)];simp only[bS,AO (show i<9223372036854775807 by omega)];refine⟨_,rfl,rfl, λj M=>?_⟩;simp only;rw[G3 M,U j M,U i hi];simp only[Int.toNat_natCast];by_cases e:i=j
  ·subst e; simp
  ·rw[if_neg e];by_cases l:j<i
   ·rw[if_pos l,if_pos (by omega)]
   ·rw[if_neg l,if_neg (by omega)]) (λs O=>by
  obtain⟨u,k⟩:=s;obtain⟨O,U⟩:=O;simp only at O U;subst O;unfold F5;rw[if_neg (by simp)]
  exact⟨_,rfl, λj M=>by rw[U j M,if_pos M]⟩) (h,0) 0 (by omega) ⟨rfl, λj M=>by simp⟩
 unfold addV;rw[h1];exact h2
theorem z19w (h s:O8):addV (toV h) (toV s)=toV (add8 h s):=by
 apply Vector.ext
 intro j M;rw[z17g]
 match j,M with
 | 0,_=>rfl
 | 1,_=>rfl
 | 2,_=>rfl
 | 3,_=>rfl
 | 4,_=>rfl
 | 5,_=>rfl
 | 6,_=>rfl
 | 7,_=>rfl
theorem z18n (s:O8):ofV (toV s)=s:=rfl
theorem z1d0 {α:Type} (h:O8) (b:List UInt8) (k:O8->α):∃ s,gr (toV h) b=toV s/\grK h b k=k s:=by
 refine⟨add8 h (Eo Bv.toList (BX b 48) h 64),?_,?_⟩
 ·unfold gr;rw[z18n,z19w]
 ·unfold grK;have e:wL 16 b=BX b 0:=UJ 16 b;rw[UI,e,UK b _ 48 0]
  have:=UL Bv.toList (BX b 48) Pu (by rw[IW]) h (λs=>k (add8 h s)) 64 0 rfl (by omega)
  rw[<- this];simp only[IY];rfl
def blkK {α:Type}:Nat->O8->List UInt8->(O8->α)->α
 | 0,h,b,k=>k h
 | n+1,h,b,k=>grK h (b.take 64) λs=>blkK n s (b.drop 64) k
theorem UM {α:Type}:∀ (n:Nat) (h:O8) (b:List UInt8) (k:O8->α),b.length=64 * n->∃ s,blk (toV h) b=toV s/\blkK n h b k=k s
 | 0,h,b,k,hb=>⟨h,KU (by omega),rfl⟩
 | n+1,h,b,k,hb=>by
  obtain⟨s,M,O⟩:=z1d0 h (b.take 64) (λs=>blkK n s (b.drop 64) k);obtain⟨t,U,t2⟩:=UM n s (b.drop 64) k (by rw[List.length_drop]; omega);refine⟨t,?_,?_⟩
  ·rw[KV (by omega),M,U]
  ·rw[blkK,O,t2]
def H8:O8:=(1779033703,3144134277,1013904242,2773480762,1359893119,2600822924,528734635,1541459225)
def shaK {α:Type} (b:List UInt8) (k:O8->α):α:=fB (b++tl b.length) λm=>blkK (m.length / 64) H8 m k
theorem z1bk (n:Nat):(n+(tl n).length) % 64=0:=by
 unfold tl CV Dh
 simp
 omega
theorem z1ar {α:Type} (b:List UInt8) (k:O8->α):∃ s,sha b=wr (toV s)/\shaK b k=k s:=by
 have hl:=z1bk b.length;obtain⟨s,M,O⟩:=UM ((b++tl b.length).length / 64) H8 (b++tl b.length) k (by rw[List.length_append]; omega);refine⟨s,?_,?_⟩
 ·unfold sha;rw[show H0=toV H8 from rfl,M]
 ·unfold shaK;rw[UH,O]
def IZ (b:List UInt8) (s:O8):Bool:=shaK b λt=>t==s
theorem z1ci {b:List UInt8} {s:O8} (h:IZ b s=true):sha b=wr (toV s):=by
 unfold IZ at h;obtain⟨t,M,O⟩:=z1ar b (λt=>t==s);rw[O] at h;rw[M,eq_of_beq h]
end
section
def okc (c:UInt8):Bool:=decide (33<=c.toNat)&&decide (c.toNat<=126)
theorem z1a8 (x:Int):LJ x=some (decide (x<33) || decide (126<x)):=by
 unfold LJ
 cases decide (x<33) <;> rfl
theorem UN (b:List UInt8):∀ (rest pre:List UInt8),b=pre++rest ->
  (rest.all okc=true->iter (Ij b true) pre.length=some (.inr ()))/\(rest.all okc=false->∃ i:Nat,iter (Ij b true) pre.length=some (.inl (i:Int)))
 | [],pre,e=>by
  refine⟨λ_=>AW ?_, λh=>by simp at h⟩;subst e;unfold Ij
  simp
 | c::rest,pre,e=>by
  have M:pre.length<b.length:=by rw[e]; simp
  have O:b[pre.length]'M=c:=by subst e; simp
  have hF:Ij b true pre.length=if ((decide (((CZ b pre.length).1:Int)<33) || decide (126<((CZ b pre.length).1:Int)))==true) then some (.inl (.inl (pre.length:Int))) else some (.inr (pre.length+(CZ b pre.length).2)):=by
   unfold Ij;rw[if_pos M];simp only[bs,z1a8]
  cases U:okc c with
  | false =>
   refine⟨λh=>by simp[U] at h, λ_=>⟨pre.length,AW ?_⟩⟩;rw[hF,if_pos];by_cases h8:c.toNat<128
   ·rw[My M (by rw[O]; exact h8),O];simp only[okc,Bool.and_eq_false_iff,decide_eq_false_iff_not] at U
    simp; omega
   ·have:=TC M (by rw[O]; omega)
    simp; omega
  | true =>
   simp only[okc,Bool.and_eq_true,decide_eq_true_eq] at U;rw[My M (by rw[O]; omega),O,if_neg (by simp; omega)] at hF;have ih:=UN b rest (pre++[c]) (by simp[e]);simp only[List.length_append,List.length_cons,List.length_nil,Nat.zero_add] at ih;rw[B9 hF];have a1:okc c=true:=by simp[okc,U]
   simpa [a1] using ih
theorem UO (b:List UInt8) (hb:b.length<=9223372036854775807):∀ (rest pre:List UInt8),b=pre++rest->iter (JY b) (pre.length:Int)=some (if rest.all okc then .inr () else .inl false)
 | [],pre,e=>by
  refine AW ?_;subst e;unfold JY
  simp
 | c::rest,pre,e=>by
  have M:pre.length<b.length:=by rw[e]; simp
  have U:b[pre.length]'M=c:=by subst e; simp
  have hF:JY b (pre.length:Int)=if okc c then some (.inr ((pre.length+1:Nat):Int)) else some (.inl (.inl false)):=by
   unfold JY;rw[if_pos (by simp <;> omega)]
   simp only[AE M,U,bs,AO (show pre.length<9223372036854775807 by omega)];simp only[okc,UInt8.lt_iff_toNat_lt,UInt8.reduceToNat];by_cases h1:c.toNat<33
   ·have:¬ 33<=c.toNat:=by omega
    simp[h1,this]
   ·by_cases h2:126<c.toNat
    ·have:¬ c.toNat<=126:=by omega
     simp[h1,h2,this]
    ·have h3:33<=c.toNat:=by omega
     have h4:c.toNat<=126:=by omega
     simp[h1,h2,h3,h4]
  cases O:okc c with
  | false=>rw[O] at hF; rw[AW hF]; simp[O]
  | true =>
   rw[O] at hF;rw[B9 hF];have ih:=UO b hb rest (pre++[c]) (by simp[e]);simp only[List.length_append,List.length_cons,List.length_nil,Nat.zero_add] at ih;rw[ih]; simp[O]
def ES (k:List UInt8):Bool:=decide (1<=k.length)&&(decide (k.length<=20)&&k.all okc)
theorem z19g (k:List UInt8):JZ k=some (ES k):=by
 unfold JZ ES;by_cases h1:1<=k.length
 ·by_cases h2:k.length<=20
  ·have h:=UO k (by omega) k [] rfl;rw[if_neg (by simp; omega),if_neg (by simp; omega), show (0:Int)=(([]:List UInt8).length:Int) from rfl,h,decide_eq_true h1,decide_eq_true h2]
   cases k.all okc <;> rfl
  ·rw[if_neg (by simp; omega),if_pos (by simp; omega),decide_eq_false h2]; simp
 ·rw[if_pos (by simp; omega),decide_eq_false h1]; rfl
theorem z1be (k:List UInt8):Jr k=some (ES k):=by
 unfold Jr ES Oo On;by_cases h1:1<=k.length
 ·by_cases h2:k.length<=20
  ·obtain⟨e1,e2⟩:=UN k k [] rfl;simp only[List.length_nil] at e1 e2;rw[if_pos (by simp; omega),if_pos (by simp; omega),decide_eq_true h1,decide_eq_true h2]
   cases h:k.all okc
   ·obtain⟨i,hi⟩:=e2 h;rw[hi];simp only[or_l,bS];rw[decide_eq_false (by omega)]; rfl
   ·rw[e1 h]; rfl
  ·rw[if_pos (by simp; omega),if_neg (by simp; omega),decide_eq_false h2]; simp
 ·rw[if_neg (by simp; omega),decide_eq_false h1]; rfl
def v0:Az:=⟨0,0,0,[]⟩
def Ff (a:AP):Bool :=
 if a.Kind=1 then decide (a.Key=[])&&decide (a.Value=v0)
 else if a.Kind=2\/a.Kind=3 then ES a.Key&&decide (a.Value=v0)
 else if a.Kind=4 then ES a.Key&&okV a.Value
 else false
theorem z1bc (a:AP) (h:a.Value.Text.length<=9223372036854775807):LQ a=some (if Ff a then 0 else 8):=by
 obtain⟨K,key,v⟩:=a;unfold LQ Ff;simp only at h ⊢;rw[z1be,TG v h];by_cases h1:K=1
 ·subst h1;by_cases hk:key=[] <;> by_cases M:v=⟨0,0,0,[]⟩ <;> simp[hk,M,v0]
 by_cases h2:K=2\/K=3
 ·have e:(if K==2 then some true else some (K==3))=some true:=by
   rcases h2 with rfl | rfl <;> rfl
  rw[if_neg (by simpa using h1),e,if_neg h1,if_pos h2];simp only[bS];rw[if_pos trivial]
  cases ES key with
  | false=>rfl
  | true =>
   by_cases M:v=⟨0,0,0,[]⟩
   ·subst M; rfl
   ·have U:¬ v=v0:=M;simp only[bS,if_true,decide_eq_false M,decide_eq_false U]; rfl
 ·have e:(if K==2 then some true else some (K==3))=some false:=by
   have e2:(K==2)=false:=by simp; exact λh=>h2 (.inl h)
   have e3:(K==3)=false:=by simp; exact λh=>h2 (.inr h)
   rw[e2,e3]; rfl
  rw[if_neg (by simpa using h1),e,if_neg h1,if_neg h2];simp only[bS];rw[if_neg (by simp)];by_cases O:K=4
  ·subst O;rw[if_pos (by decide),if_pos rfl]
   cases ES key with
   | false=>rfl
   | true=>cases okV v <;> rfl
  ·rw[if_neg (by simpa using O),if_neg O]; rfl
theorem z14b (a:AP) (h:a.Value.Text.length<=9223372036854775807):Mj a=some (if Ff a then 0 else 8):=by
 obtain⟨K,key,v⟩:=a;unfold Mj Ff;simp only at h ⊢;rw[z19g,z136 v h];simp only[bS];by_cases h1:K=1
 ·subst h1;by_cases hk:key=[] <;> by_cases M:v=⟨0,0,0,[]⟩ <;> simp[hk,M,v0]
 by_cases h2:K=2\/K=3
 ·have e:(if K==2 then some true else some (K==3))=some true:=by
   rcases h2 with rfl | rfl <;> rfl
  rw[if_neg (by simpa using h1),e,if_neg h1,if_pos h2];simp only[bS];rw[if_pos trivial]
  cases ES key with
  | false=>rfl
  | true =>
   by_cases M:v=⟨0,0,0,[]⟩
   ·subst M; rfl
   ·have U:¬ v=v0:=M;simp only[bS,if_true,decide_eq_false M,decide_eq_false U]; rfl
 ·have e:(if K==2 then some true else some (K==3))=some false:=by
   have e2:(K==2)=false:=by simp; exact λh=>h2 (.inl h)
   have e3:(K==3)=false:=by simp; exact λh=>h2 (.inr h)
   rw[e2,e3]; rfl
  rw[if_neg (by simpa using h1),e,if_neg h1,if_neg h2];simp only[bS];rw[if_neg (by simp)];by_cases O:K=4
  ·subst O;rw[if_pos (by decide),if_pos rfl]
   cases ES key with
   | false=>rfl
   | true=>cases okV v <;> rfl
  ·rw[if_neg (by simpa using O),if_neg O]; rfl
theorem HO (l:List V3) (h:l.length<=100):DN l=some l:=by
 unfold DN;rw[Bw (by simp; omega)]; rfl
def Ep (a:Ae):Bool:=decide (inG a.Author.toNat)&&(!decide (1000000000000<a.Stamp)&&(Ff a.Act&&(Cu a.Sig.E&&Cu a.Sig.S)))
def Cd (a:Ae):Int:=if 4<a.Preds.length then 4 else if Bf a.Preds=false then 32 else if Ep a then 0 else 8
theorem PC (x y:UInt32):decide (500000003<=max x y)=!(Cu x&&Cu y):=by
 have e1:(500000003<=max x y)↔(500000003<=x\/500000003<=y):=by
  rw[show max x y=if x<=y then y else x from rfl]
  split
  ·rename_i hh
   constructor
   ·exact λh=>.inr h
   ·rintro (h | h)
    ·exact UInt32.le_trans h hh
    ·exact h
  ·rename_i hh
   constructor
   ·exact λh=>.inl h
   ·rintro (h | h)
    ·exact h
    ·rw[UInt32.le_iff_toNat_le] at *; omega
 rw[Bool.eq_iff_iff,decide_eq_true_iff,e1];unfold Cu;simp only[UInt32.le_iff_toNat_le,Bool.not_eq_true',Bool.and_eq_false_iff,decide_eq_false_iff_not,Nat.not_lt];rfl
theorem zx5 (l:List V3) (h:l.length<=4):(Jt l>>=λr5=>if !r5 then some true else DN l>>=λr8=>F0 r8>>=λU=>some ((U.length:Int) != (l.length:Int))>>=λa1=>some a1)=some (!Bf l):=by
 obtain⟨b,e1,e2⟩:=z13o l (by omega);obtain⟨c,e3,e4⟩:=z114 l (by omega);have M:=z15p l;rw[e1];simp only[bS]
 cases b with
 | false =>
  have:Bf l=false:=by
   rw[<- Bool.not_eq_true,M]; intro h; have:=e2.2 h.1; simp at this
  rw[this]; rfl
 | true =>
  rw[if_neg (by simp),HO l (by omega)];simp only[bS];rw[e3];simp only[bS];by_cases O:c.length=l.length
  ·rw[M.2 ⟨e2.1 rfl,e4.1 O⟩,O]; simp
  ·have:Bf l=false:=by
    rw[<- Bool.not_eq_true,M]; intro h; exact O (e4.2 h.2)
   rw[this]; simp; omega
theorem Nw (a:Ae) (h:a.Act.Value.Text.length<=9223372036854775807):Hh a=some (Cd a):=by
 unfold Hh Cd;simp only[bS];by_cases M:4<a.Preds.length
 ·rw[if_pos (by simp; omega),if_pos M]
 ·rw[if_neg (by simp; omega),if_neg M]
  have:=zx5 a.Preds (by omega)
  simp only[bS] at this;rw[this];simp only[bS]
  cases hi:Bf a.Preds with
  | false=>rfl
  | true =>
   rw[if_neg (by simp),KW,z1bc _ h,PC];simp only[bS];unfold Ep
   cases decide (inG a.Author.toNat) with
   | false=>rfl
   | true =>
    cases decide (1000000000000<a.Stamp) with
    | true=>rfl
    | false=>cases Ff a.Act <;> cases Cu a.Sig.E <;> cases Cu a.Sig.S <;> rfl
theorem zwv (a:Ae) (h:a.Act.Value.Text.length<=9223372036854775807):K1 a=some (Cd a):=by
 unfold K1 Cd;by_cases M:4<a.Preds.length
 ·rw[if_pos (by simp; omega),if_pos M]
 ·rw[if_neg (by simp; omega),if_neg M,TL _ (by omega)];simp only[bS]
  cases hi:Bf a.Preds with
  | false=>rfl
  | true =>
   rw[if_neg (by simp),UC,z14b _ h,Nu,Nu];simp only[bS];unfold Ep
   cases decide (inG a.Author.toNat) with
   | false=>rfl
   | true =>
    cases decide (1000000000000<a.Stamp) with
    | true=>rfl
    | false=>cases Ff a.Act <;> cases Cu a.Sig.E <;> cases Cu a.Sig.S <;> rfl
theorem ED {a:Ae} (h:Cd a=0):a.Preds.length<=4/\Bf a.Preds=true/\Ep a=true:=by
 unfold Cd at h;by_cases M:4<a.Preds.length
 ·rw[if_pos M] at h; omega
 ·rw[if_neg M] at h
  cases hi:Bf a.Preds with
  | false=>rw[hi] at h; simp at h
  | true =>
   rw[hi] at h
   cases O:Ep a with
   | false=>rw[O] at h; simp at h
   | true=>exact⟨by omega,rfl,rfl⟩
theorem UP {k:List UInt8} (h:ES k=true):k.length<=20:=by
 unfold ES at h;simp only[Bool.and_eq_true,decide_eq_true_eq] at h;exact h.2.1
theorem J0 {a:AP} (h:Ff a=true):(a.Kind=1/\a.Key=[])\/((a.Kind=2\/a.Kind=3)/\a.Key.length<=20)\/(a.Kind=4/\a.Key.length<=20/\okV a.Value=true):=by
 unfold Ff at h;by_cases h1:a.Kind=1
 ·rw[if_pos h1] at h; simp only[Bool.and_eq_true,decide_eq_true_eq] at h; exact .inl ⟨h1,h.1⟩
 ·rw[if_neg h1] at h;by_cases h2:a.Kind=2\/a.Kind=3
  ·rw[if_pos h2] at h; simp only[Bool.and_eq_true,decide_eq_true_eq] at h; exact .inr (.inl ⟨h2,UP h.1⟩)
  ·rw[if_neg h2] at h;by_cases M:a.Kind=4
   ·rw[if_pos M] at h; simp only[Bool.and_eq_true] at h; exact .inr (.inr ⟨M,UP h.1,h.2⟩)
   ·rw[if_neg M] at h; simp at h
end
section
theorem UQ {α:Type} (l:List (List α)) (i:Nat) (h:i<l.length):(l.take (i+1)).flatten=(l.take i).flatten++l[i]:=by
 rw[List.take_add_one,List.getElem?_eq_getElem h,List.flatten_append]
 simp
theorem UR (l:List (List UInt8)) (h0:l.length<=20) (h:∀ b∈l,b.length<=10000):GA l=some l.flatten:=by
 have hb:∀ i,(l.take i).flatten.length<=200000:=λi=>by
  have:=Nt (l.take i) (λb M=>h b (List.mem_of_mem_take M))
  simp only[List.length_take] at this; omega
 have e1:iter (EN l) (0,0)=some (l.flatten.length:Int):=by
  have:=C1 (F:=EN l) (b:=(l.flatten.length:Int)) l.length (λi=>(((l.take i).flatten.length:Int),(i:Int))) (λi hi=>?_) ?_
  ·simpa using this
  ·have h1:=hb (i+1);have e:=congrArg List.length (UQ l i hi);rw[List.length_append] at e;unfold EN;rw[if_pos (by simp; omega)];simp only[];rw[AE hi];simp only[bS];rw[B1 (x:=((l.take i).flatten.length:Int)+(l[i].length:Int)) (by omega) (by omega),if_neg (by simp; omega),AO (show i<9223372036854775807 by omega),e]
   simp
  ·unfold EN;rw[if_neg (by simp)]
   simp
 have e2:Im (l.flatten.length:Int)=some []:=by
  have h1:=hb l.length;rw[List.take_length] at h1;unfold Im;rw[if_neg (by simp)];simp only[bS];generalize l.flatten.length=n at h1 ⊢;rw[show (0:Int) - (([]:List UInt8).length:Int)=0 from rfl,B1 (x:=0) (by omega) (by omega), show (n:Int) - 0=(n:Int) by omega,B1 (by omega) (by omega)];by_cases h2:0<n
  ·rw[if_pos (by simpa using h2),G4 (by omega) (by omega)];simp only[bS];rw[show (0:Int)=((0:Nat):Int) from rfl, show ((([]:List UInt8).length:Nat):Int)=((0:Nat):Int) from rfl,GF (by omega) (by simp)]
   simp
  ·rw[if_neg (by simpa using h2)]
 have e3:iter (EO l) ([],0)=some l.flatten:=by
  have:=C1 (F:=EO l) (b:=l.flatten) l.length (λi=>((l.take i).flatten,(i:Int))) (λi hi=>?_) ?_
  ·simpa using this
  ·have h1:=hb (i+1);have e:=UQ l i hi;rw[e,List.length_append] at h1;unfold EO;rw[if_pos (by simp; omega)];simp only[];rw[AE hi];simp only[bS];rw[Bw (by omega),AO (show i<9223372036854775807 by omega),e];simp only[bS]
  ·unfold EO;rw[if_neg (by simp)]
   simp
 unfold GA;rw[e1];simp only[bS];rw[e2];simp only[bS];rw[e3];simp only[bS]
def head (a:Ae):List UInt8:=[111]++(BW a.Author.toNat++((BW a.Preds.length++Dg a.Preds)++(BW a.Stamp.toNat++[a.Act.Kind])))
def keyB (a:AP):List UInt8:=BW a.Key.length++a.Key
def msg (a:Ae):List UInt8 :=
 if a.Act.Kind=1 then head a else if a.Act.Kind=4 then (head a++keyB a.Act)++encV a.Act.Value else head a++keyB a.Act
def CS (a:Ae):List UInt8:=msg a++(BW a.Sig.E.toNat++BW a.Sig.S.toNat)
theorem PD {v:Az} (h:okV v=true) (hI:inI v.Num):(encV v).length<=100:=by
 unfold encV;rcases OX h with k | k | k
 ·have:=Ct (DW v.Num) (OZ hI)
  rw[if_pos k]; simp; omega
 ·rw[k,if_neg (by decide),if_pos rfl]; simp[be8]
 ·have h3:=(okV3 h k).2.2.1
  have:=Ct v.Text.length (by omega)
  rw[k,if_neg (by decide),if_neg (by decide)]; simp; omega
theorem PE {a:Ae} (h:Cd a=0):(head a).length<=160:=by
 obtain⟨h1,h2,h3⟩:=ED h;have l1:=Ct a.Author.toNat (by have:=UInt32.toNat_lt a.Author; omega);have l2:=Ct a.Preds.length (by omega);have l3:=Ct a.Stamp.toNat (UInt64.toNat_lt _);have l4:=Kh a.Preds;unfold head;simp only[List.length_append,List.length_cons,List.length_nil]; omega
theorem PF {a:AP} (h:Ff a=true):(keyB a).length<=30:=by
 have hk:a.Key.length<=20:=by
  rcases J0 h with ⟨_,h⟩ | ⟨_,h⟩ | ⟨_,h,_⟩
  ·simp[h]
  ·exact h
  ·exact h
 have:=Ct a.Key.length (by omega)
 unfold keyB; simp only[List.length_append]; omega
theorem PG {a:Ae} (h:Ep a=true):Ff a.Act=true:=by
 unfold Ep at h;simp only[Bool.and_eq_true] at h;exact h.2.2.1
theorem US {a:Ae} (h:Ep a=true):inG a.Author.toNat:=by
 unfold Ep at h;simp only[Bool.and_eq_true,decide_eq_true_eq] at h;exact h.1
theorem J1 {a:Ae} (h:Cd a=0) (hI:inI a.Act.Value.Num):(msg a).length<=300:=by
 have h1:=PE h;have M:=PG (ED h).2.2;have h2:=PF M;unfold msg
 split
 ·omega
 ·split
  ·rename_i O
   have:okV a.Act.Value=true:=by
    rcases J0 M with ⟨k,_⟩ | ⟨k,_⟩ | ⟨_,_,k⟩
    ·rw[O] at k; simp at k
    ·rw[O] at k; simp at k
    ·exact k
   have h3:=PD this hI;simp only[List.length_append]; omega
  ·simp only[List.length_append]; omega
theorem PH {a:Ae} (h:Cd a=0) (hI:inI a.Act.Value.Num):(CS a).length<=400:=by
 have h1:=J1 h hI;have l1:=Ct a.Sig.E.toNat (by have:=UInt32.toNat_lt a.Sig.E; omega);have l2:=Ct a.Sig.S.toNat (by have:=UInt32.toNat_lt a.Sig.S; omega);unfold CS;simp only[List.length_append]; omega
def bare (a:Ae):Ae:={ a with Sig:=(⟨0,0⟩:AC) }
theorem z14i {a:Ae} (h:Cd a=0):Cd (bare a)=0:=by
 obtain⟨h1,h2,h3⟩:=ED h;unfold Ep at h3;simp only[Bool.and_eq_true] at h3;obtain⟨M,O,U,g4,g5⟩:=h3;unfold Cd bare;rw[if_neg (by simp; omega),h2,if_neg (by simp),if_pos];unfold Ep;rw[M,O,U]; rfl
theorem PI (a:Ae) (h:Cd a=0) (hI:inI a.Act.Value.Num) (ht:a.Act.Value.Text.length<=9223372036854775807):Hk a=some (msg a,0):=by
 obtain⟨h1,h2,h3⟩:=ED h;have U:=PG h3;have l1:=Ct a.Author.toNat (by have:=UInt32.toNat_lt a.Author; omega);have l2:=Ct a.Preds.length (by omega);have l3:=Ct a.Stamp.toNat (UInt64.toNat_lt _);have l4:=Kh a.Preds;have hl:=PE h;have e1:Hh { a with Sig:=(⟨0,0⟩:AC) }=some 0:=by
  have:=Nw (bare a) ht
  rw[z14i h] at this;exact this
 unfold Hk;rw[e1];simp only[bS];rw[if_neg (by simp),z196 _ (by omega) h2];simp only[bS];rw[GI,GI];simp only[bS]
 rw[UR _ (by simp) (by
  intro b hb;simp only[List.mem_cons,List.not_mem_nil,or_false] at hb;rcases hb with rfl | rfl | rfl | rfl | rfl
  ·simp
  ·simp; omega
  ·simp only[List.length_append]; omega
  ·omega
  ·simp)]
 simp only[bS];have e2:[[111],BW a.Author.toUInt64.toNat,BW a.Preds.length++Dg a.Preds,BW a.Stamp.toNat,[a.Act.Kind]].flatten=head a:=by
  unfold head;simp only[List.flatten_cons,List.flatten_nil,List.append_nil,UInt32.toNat_toUInt64]
 rw[e2];unfold msg;by_cases O:a.Act.Kind=1
 ·rw[if_pos (by simpa using O),if_pos O]
 ·rw[if_neg (by simpa using O),if_neg O];have hk:a.Act.Key.length<=20:=by
   rcases J0 U with ⟨_,h⟩ | ⟨_,h⟩ | ⟨_,h,_⟩
   ·simp[h]
   ·exact h
   ·exact h
  have l5:=PF U;have e3:Hj a.Act.Key=some (keyB a.Act,0):=OY _ (by omega);rw[Cn (by omega)];simp only[bS];rw[e3];simp only[bS];rw[Bw (by omega)];simp only[bS];by_cases M:a.Act.Kind=4
  ·have hv:okV a.Act.Value=true:=by
    rcases J0 U with ⟨k,_⟩ | ⟨k,_⟩ | ⟨_,_,k⟩
    ·rw[M] at k; simp at k
    ·rw[M] at k; simp at k
    ·exact k
   have l6:=PD hv hI;rw[if_pos (by simpa using M),if_pos M,z1bi _ hI ht,hv];simp only[bS,if_true];rw[Bw (by simp only[List.length_append]; omega)];simp only[bS]
  ·rw[if_neg (by simpa using M),if_neg M]
theorem UT (a:Ae) (h:Cd a=0) (hI:inI a.Act.Value.Num):JL a=some (msg a):=by
 obtain⟨h1,h2,h3⟩:=ED h;have U:=PG h3;have l1:=Ct a.Author.toNat (by have:=UInt32.toNat_lt a.Author; omega);have l2:=Ct a.Preds.length (by omega);have l3:=Ct a.Stamp.toNat (UInt64.toNat_lt _);have l4:=Kh a.Preds;have hl:=PE h;unfold JL;rw[GG];simp only[bS];rw[Bw (by simp; omega),z16i _ (by omega)];simp only[bS];rw[Bw (by simp; omega),GG];simp only[bS];rw[Bw (by simp; omega)];simp only[bS]
 rw[Bw (by simp; omega)];simp only[bS];have e2:[111]++BW a.Author.toUInt64.toNat++(BW a.Preds.length++Dg a.Preds)++BW a.Stamp.toNat++[a.Act.Kind]=head a:=by
  unfold head;simp only[List.append_assoc,UInt32.toNat_toUInt64]
 rw[e2];unfold msg;by_cases O:a.Act.Kind=1
 ·rw[if_neg (by simp[O]),if_pos O];simp only[bS];rw[O]; rfl
 ·rw[if_pos (by simpa using O),if_neg O];have hk:a.Act.Key.length<=20:=by
   rcases J0 U with ⟨_,h⟩ | ⟨_,h⟩ | ⟨_,h,_⟩
   ·simp[h]
   ·exact h
   ·exact h
  have l5:=PF U;have e3:It a.Act.Key=some (keyB a.Act):=TJ _ (by omega);rw[Cn (by omega)];simp only[bS];rw[e3];simp only[bS];rw[Bw (by omega)];simp only[bS];by_cases M:a.Act.Kind=4
  ·have hv:okV a.Act.Value=true:=by
    rcases J0 U with ⟨k,_⟩ | ⟨k,_⟩ | ⟨_,_,k⟩
    ·rw[M] at k; simp at k
    ·rw[M] at k; simp at k
    ·exact k
   have l6:=PD hv hI;rw[if_pos (by simpa using M),if_pos M,z14d _ hI hv];simp only[bS];rw[Bw (by simp only[List.length_append]; omega)];simp only[bS]
  ·rw[if_neg (by simpa using M),if_neg M]
theorem UU (a:Ae) (h:Cd a=0) (hI:inI a.Act.Value.Num) (M:a.Act.Value.Text.length<=9223372036854775807):GB a=some (CS a,0):=by
 have hm:=J1 h hI;have l1:=Ct a.Sig.E.toNat (by have:=UInt32.toNat_lt a.Sig.E; omega);have l2:=Ct a.Sig.S.toNat (by have:=UInt32.toNat_lt a.Sig.S; omega);unfold GB;rw[Nw _ M,h];simp only[bS];rw[if_neg (by simp),PI _ h hI M,GI,GI];simp only[bS,UInt32.toNat_toUInt64]
 rw[UR _ (by simp) (by
  intro b hb;simp only[List.mem_cons,List.not_mem_nil,or_false] at hb
  rcases hb with rfl | rfl | rfl <;> omega)]
 simp only[bS,List.flatten_cons,List.flatten_nil,List.append_nil];rfl
theorem zxs (a:Ae) (h:Cd a=0) (hI:inI a.Act.Value.Num):M7 a=some (CS a):=by
 have hm:=J1 h hI;have l1:=Ct a.Sig.E.toNat (by have:=UInt32.toNat_lt a.Sig.E; omega);have l2:=Ct a.Sig.S.toNat (by have:=UInt32.toNat_lt a.Sig.S; omega);unfold M7 CS;rw[UT _ h hI,GG,GG];simp only[bS,UInt32.toNat_toUInt64];rw[Bw (by omega)];simp only[bS];rw[Bw (by simp only[List.length_append]; omega)];simp only[bS,List.append_assoc]
def UV:V3:=Vector.replicate 32 0
theorem PJ (a:Ae) (hI:inI a.Act.Value.Num) (M:a.Act.Value.Text.length<=9223372036854775807):Iq a=some (if Cd a=0 then (sha (CS a),0) else (UV,Cd a)):=by
 unfold Iq;by_cases h:Cd a=0
 ·have:=PH h hI
  rw[UU a h hI M];simp only[bS];rw[if_neg (by simp),z1bj _ (by omega),if_pos h];simp only[bS]
 ·have e:GB a=some ([],Cd a):=by
   unfold GB;rw[Nw _ M];simp only[bS];rw[if_pos (by simpa using h)]
  rw[e];simp only[bS];rw[if_pos (by simpa using h),if_neg h]; rfl
theorem z15a (a:Ae) (h:Cd a=0) (hI:inI a.Act.Value.Num):Mc a=some (sha (CS a)):=by
 have:=PH h hI
 unfold Mc;rw[zxs a h hI];simp only[bS];rw[Uz _ (by omega)];simp only[bS]
def Di (a:Ae):Int:=if Cd a=0 then (if Fe a.Author (msg a) a.Sig then 0 else 22) else Cd a
theorem PK (a:Ae) (hI:inI a.Act.Value.Num) (M:a.Act.Value.Text.length<=9223372036854775807):Ir a=some (Di a):=by
 unfold Ir Di;rw[Nw _ M];simp only[bS];by_cases h:Cd a=0
 ·have:=J1 h hI
  rw[if_neg (by simp[h]),if_pos h,PI a h hI M];simp only[bS];rw[z12o _ _ _ (US (ED h).2.2) (by omega)];simp only[bS]
 ·rw[if_pos (by simpa using h),if_neg h]
theorem zv4 (a:Ae) (hI:inI a.Act.Value.Num) (M:a.Act.Value.Text.length<=9223372036854775807):Mq a=some (Di a):=by
 unfold Mq Di OT;rw[zwv _ M];simp only[bS];by_cases h:Cd a=0
 ·have:=J1 h hI
  rw[if_neg (by simp[h]),if_pos h,UT a h hI];simp only[bS];rw[z16c _ _ _ (US (ED h).2.2) (by omega)];simp only[bS]
  cases Fe a.Author (msg a) a.Sig <;> rfl
 ·rw[if_pos (by simpa using h),if_neg h]
end
section
theorem z17f (m:List UInt8) (r:UInt32) (h:m.length<=9991):Hp 110 m [r]=some (D7 (sha (([110]++four r)++m)) 8,0):=by
 have M:iter (EB [r]) ([110],0)=some ([110]++four r):=by
  have O:EB [r] ([110],0)=some (.inr ([110]++four r,1)):=by
   unfold EB;rw[if_pos (by simp)];simp only[];rw[show idx [r] 0=some r from rfl,B1 (x:=(0:Int)+1) (by omega) (by omega)];simp only[bS];rw[Bw (by simp)];rfl
  have U:EB [r] ([110]++four r,1)=some (.inl ([110]++four r)):=by
   unfold EB;rw[if_neg (by simp)]
  rw[B9 O,AW U]
 unfold Hp;rw[if_neg (by simp; omega),M];simp only[bS]
 rw[PA _ (by simp) (by
  intro b hb;simp only[List.mem_cons,List.not_mem_nil,or_false] at hb;rcases hb with rfl | rfl
  ·simp[four]
  ·omega)]
 simp only[bS];rw[UE, show [[110]++four r,m].flatten=([110]++four r)++m by simp only[List.flatten_cons,List.flatten_nil,List.append_nil]];rfl
def Ea (k:UInt32) (m:List UInt8):UInt32:=(D7 (sha (([110]++four k)++m)) 8 % 500000002).toUInt32+1
theorem UW {k:UInt32} (h1:1<=k.toNat) (h2:k.toNat<gq):KA k=some 0:=by
 have h2:k.toNat<500000003:=h2;have M:(k - 1).toNat=k.toNat - 1:=by
  rw[UInt32.toNat_sub_of_le _ _ (by rw[UInt32.le_iff_toNat_le]; exact h1)]; rfl
 unfold KA
 rw[if_neg (by
  rw[decide_eq_true_iff,UInt32.le_iff_toNat_le,M]
  have:(500000002:UInt32).toNat=500000002:=rfl
  omega)]
theorem UX (n:UInt64):Ho n=some (u32 (4 ^ n.toNat % gp)):=by
 unfold Ho;rw[Ns]; rfl
theorem z15d {k:UInt32} (h1:1<=k.toNat) (h2:k.toNat<gq) (m:List UInt8) (h:m.length<=9991):MY k m=some (Ea k m,0):=by
 unfold MY;rw[UW h1 h2];simp only[bS];rw[if_neg (by simp),z17f m k h];simp only[bS];rw[if_neg (by simp)];rfl
theorem UY {k:UInt32} (h1:1<=k.toNat) (h2:k.toNat<gq):KB k=some (u32 (4 ^ k.toNat % gp),0):=by
 unfold KB;rw[UW h1 h2];simp only[bS];rw[if_neg (by simp),UX];simp only[bS]
 simp
theorem q64 (x y:UInt64) (h:x.toNat * y.toNat<18446744073709551616):(x * y % 500000003).toNat=x.toNat * y.toNat % gq:=by
 rw[UInt64.toNat_mod,UInt64.toNat_mul,Nat.mod_eq_of_lt h];rfl
theorem mulq (x y:UInt32):FY 500000003 [x,y]=some (u32 (x.toNat * y.toNat % gq)):=by
 have hx:=UInt32.toNat_lt x;have hy:=UInt32.toNat_lt y;have e1:(1 * x.toUInt64 % 500000003:UInt64).toNat=x.toNat % gq:=by
  rw[q64 _ _ (by simp; omega)]; simp
 have a1:x.toNat % gq<500000003:=Nat.mod_lt _ (by decide);have a2:(x.toNat % gq) * y.toNat<=500000003 * 4294967296:=Nat.mul_le_mul (by omega) (by omega);have e2:(1 * x.toUInt64 % 500000003 * y.toUInt64 % 500000003:UInt64).toNat=x.toNat * y.toNat % gq:=by
  rw[q64 _ _ (by rw[e1]; simp; omega),e1];simp only[UInt32.toNat_toUInt64];rw[Nat.mod_mul_mod]
 have M:Ey 500000003 [x,y] (1,0)=some (.inr (1 * x.toUInt64 % 500000003,1)):=by
  unfold Ey;rw[if_pos (by simp)];simp only[];rw[show idx [x,y] 0=some x from rfl,Cn (by decide),B1 (x:=(0:Int)+1) (by omega) (by omega)];simp only[bS];rfl
 have O:Ey 500000003 [x,y] (1 * x.toUInt64 % 500000003,1)=some (.inr (1 * x.toUInt64 % 500000003 * y.toUInt64 % 500000003,2)):=by
  unfold Ey;rw[if_pos (by simp)];simp only[];rw[show idx [x,y] 1=some y from rfl,Cn (by decide),B1 (x:=(1:Int)+1) (by omega) (by omega)];simp only[bS];rfl
 have U:Ey 500000003 [x,y] (1 * x.toUInt64 % 500000003 * y.toUInt64 % 500000003,2)=some (.inl (1 * x.toUInt64 % 500000003 * y.toUInt64 % 500000003)):=by
  unfold Ey;rw[if_neg (by simp)]
 unfold FY;rw[B9 M,B9 O,AW U];simp only[bS];rw[to32 _ (by rw[e2]; exact Nat.lt_trans (Nat.mod_lt _ (by decide)) (by decide)),e2]
theorem z16e {x y:UInt32} (M:x.toNat<gq) (O:y.toNat<gq):MZ x y=some (u32 (x.toNat * y.toNat % gq),0):=by
 unfold MZ;rw[PC];unfold Cu;rw[decide_eq_true M,decide_eq_true O,if_neg (by simp),mulq];rfl
theorem z198 {x y:UInt32} (M:x.toNat<gq) (O:y.toNat<gq):N0 x y=some (u32 ((x.toNat+y.toNat) % gq),0):=by
 unfold N0;rw[PC];unfold Cu;rw[decide_eq_true M,decide_eq_true O,if_neg (by simp)];have M:x.toNat<500000003:=M;have O:y.toNat<500000003:=O
 have:(x+y) % 500000003=u32 ((x.toNat+y.toNat) % gq):=by
  apply UInt32.toNat_inj.1
  rw[Cy (Nat.lt_trans (Nat.mod_lt _ (by decide)) (by decide)),UInt32.toNat_mod,UInt32.toNat_add,Nat.mod_eq_of_lt (a:=x.toNat+y.toNat) (by omega)];rfl
 rw[this];rfl
theorem UZ (r y:UInt32) (m:List UInt8):(chal r y m).toNat<gq:=by
 unfold chal;rw[UInt64.toNat_toUInt32,UInt64.toNat_mod];exact Nat.lt_of_le_of_lt (Nat.mod_le _ _) (Nat.mod_lt _ (by decide))
def sgnS (k:UInt32) (m:List UInt8):AC :=
 ⟨chal (u32 (4 ^ (Ea k m).toNat % gp)) (u32 (4 ^ k.toNat % gp)) m,u32 (((Ea k m).toNat+(chal (u32 (4 ^ (Ea k m).toNat % gp)) (u32 (4 ^ k.toNat % gp)) m).toNat * k.toNat % gq) % gq)⟩
theorem z16h {k:UInt32} (h1:1<=k.toNat) (h2:k.toNat<gq) (m:List UInt8) (h:m.length<=9991) (hK:(Ea k m).toNat<gq):N1 k m=some (sgnS k m,0):=by
 unfold N1;rw[z15d h1 h2 m h];simp only[bS];rw[if_neg (by simp),UY h1 h2];simp only[bS];rw[UX];simp only[bS];rw[UF _ _ _ h];simp only[bS];rw[z16e (UZ _ _ _) h2];simp only[bS];have M:∀ n,n % gq<gp:=λn=>Nat.lt_trans (Nat.mod_lt _ (by decide)) (by decide);rw[z198 hK (by rw[Cy (M _)]; exact Nat.mod_lt _ (by decide)),Cy (M _)];simp only[bS];unfold sgnS
 simp
theorem z15f {n:Nat}:4 ^ (n % gq) % gp=4 ^ n % gp:=by
 have:=Py Nq (n / gq) (n % gq)
 rw[Nat.div_add_mod] at this;exact this.symm
theorem z1df {k:UInt32} (h2:k.toNat<gq) (m:List UInt8) (hK:(Ea k m).toNat<gq):Fe (u32 (4 ^ k.toNat % gp)) m (sgnS k m)=true:=by
 have M:∀ n,n % gq<gp:=λn=>Nat.lt_trans (Nat.mod_lt _ (by decide)) (by decide);have O:∀ n,n % gp<gp:=λn=>Nat.mod_lt _ (by decide);have hE:=UZ (u32 (4 ^ (Ea k m).toNat % gp)) (u32 (4 ^ k.toNat % gp)) m;have U:sigR (u32 (4 ^ k.toNat % gp)) (sgnS k m)=u32 (4 ^ (Ea k m).toNat % gp):=by
  unfold sigR sgnS;generalize (chal (u32 (4 ^ (Ea k m).toNat % gp)) (u32 (4 ^ k.toNat % gp)) m).toNat=E at *;generalize (Ea k m).toNat=K at *;generalize k.toNat=k at *;rw[Cy (M _),Cy (O _),Nat.add_mod_mod,z15f,Px,<- Nat.mul_mod,<- Nat.pow_add]
  have:K+E * k+k * (gq - E)=gq * k+K:=by
   have e:k * (gq - E)+k * E=k * gq:=by rw[<- Nat.mul_add,Nat.sub_add_cancel (Nat.le_of_lt hE)]
   rw[Nat.mul_comm E k,Nat.mul_comm gq k,<- e]; omega
  rw[this,Py Nq]
 unfold Fe;rw[U];have e1:Cu (sgnS k m).E=true:=decide_eq_true hE
 have e2:Cu (sgnS k m).S=true:=decide_eq_true (by
  show (u32 _).toNat<gq
  rw[Cy (M _)]; exact Nat.mod_lt _ (by decide))
 rw[e1,e2];simp only[Bool.true_and];show (_==_)=true;simp[sgnS]
def au (o:Ae) (y:UInt32):Ae:=⟨y,o.Preds,o.Stamp,o.Act,⟨0,0⟩⟩
def sgnO (k:UInt32) (o:Ae):Ae:=⟨u32 (4 ^ k.toNat % gp),o.Preds,o.Stamp,o.Act,sgnS k (msg (au o (u32 (4 ^ k.toNat % gp))))⟩
theorem z154 {k:UInt32} (h1:1<=k.toNat) (h2:k.toNat<gq) (o:Ae) (O:o.Sig=⟨0,0⟩) (M:Cd (au o (u32 (4 ^ k.toNat % gp)))=0) (hI:inI o.Act.Value.Num) (U:o.Act.Value.Text.length<=9223372036854775807)
  (hK:(Ea k (msg (au o (u32 (4 ^ k.toNat % gp))))).toNat<gq):IJ k o=some (sgnO k o,0):=by
 have hp:=(ED M).1;have hl:=J1 M hI;have hm:Hk (⟨u32 (4 ^ k.toNat % gp),o.Preds,o.Stamp,o.Act,⟨0,0⟩⟩:Ae)=some (msg (au o (u32 (4 ^ k.toNat % gp))),0):=PI (au o (u32 (4 ^ k.toNat % gp))) M hI U;unfold IJ;rw[UY h1 h2];simp only[bS];rw[if_neg (by simp),HO o.Preds (Nat.le_trans hp (by omega)),O];simp only[bS];rw[hm];simp only[bS];rw[if_neg (by simp)];rw[z16h h1 h2 (msg (au o (u32 (4 ^ k.toNat % gp)))) (by omega) hK]
 rfl
theorem z14h (a b:Ae) (h1:a.Author=b.Author) (h2:a.Preds=b.Preds) (h3:a.Stamp=b.Stamp) (M:a.Act=b.Act):msg a=msg b:=by
 unfold msg head;rw[h1,h2,h3,M]
theorem z15y {k:UInt32} (h2:k.toNat<gq) (o:Ae) (hc:Cd (au o (u32 (4 ^ k.toNat % gp)))=0) (hK:(Ea k (msg (au o (u32 (4 ^ k.toNat % gp))))).toNat<gq):Di (sgnO k o)=0:=by
 have M:=z1df h2 _ hK;have O:Cu (sgnO k o).Sig.E=true/\Cu (sgnO k o).Sig.S=true:=by
  have:=M
  unfold Fe at this;simp only[Bool.and_eq_true] at this;exact⟨this.1,this.2.1⟩
 have U:Cd (sgnO k o)=0:=by
  obtain⟨a1,a2,a3⟩:=ED hc;unfold Ep at a3;simp only[Bool.and_eq_true] at a3;unfold Cd;rw[if_neg (by exact Nat.not_lt.2 a1),if_neg (by rw[show (sgnO k o).Preds=(au o (u32 (4 ^ k.toNat % gp))).Preds from rfl,a2]; simp),if_pos]
  unfold Ep;simp only[Bool.and_eq_true];exact⟨a3.1,a3.2.1,a3.2.2.1,O.1,O.2⟩
 have hm:msg (sgnO k o)=msg (au o (u32 (4 ^ k.toNat % gp))):=z14h _ _ rfl rfl rfl rfl;have ha:(sgnO k o).Author=u32 (4 ^ k.toNat % gp):=rfl;have hg:(sgnO k o).Sig=sgnS k (msg (au o (u32 (4 ^ k.toNat % gp)))):=rfl;unfold Di;rw[if_pos U,hm,ha,hg,if_pos M]
end
section
@[irreducible] def idv (s:O8):V3:=wr (toV s)
theorem PL {b:List UInt8} {s:O8} (h:IZ b s=true):sha b=idv s:=by rw[idv]; exact z1ci h
def wds (s:O8):List UInt32:=[s.1,s.2.1,s.2.2.1,s.2.2.2.1,s.2.2.2.2.1,s.2.2.2.2.2.1,s.2.2.2.2.2.2.1,s.2.2.2.2.2.2.2]
@[irreducible] def wrL (s:O8):List UInt8:=(List.range 32).map λi=>(BD ((wds s).getD (i / 4) 0) (24 - 8 * (i % 4))).toUInt8
theorem z10f {α:Type} (n:Nat) (g:Nat->α):(Vector.ofFn (λi:Fin n=>g i.val)).toList=(List.range n).map g:=by
 apply List.ext_getElem
 ·simp
 ·intro i h1 h2
  simp
theorem z18i (h:Vector UInt32 8):(wr h).toList=(List.range 32).map λi=>(BD (h.toList.getD (i / 4) 0) (24 - 8 * (i % 4))).toUInt8:=by
 rw[<- z10f 32 (λi=>(BD (h.toList.getD (i / 4) 0) (24 - 8 * (i % 4))).toUInt8)]
 have:∀ i (hi:i / 4<8),h[i / 4]=h.toList.getD (i / 4) 0:=λi hi=>by
  rw[List.getD_eq_getElem?_getD,List.getElem?_eq_getElem (by simpa using hi)]
  simp
 unfold wr;exact congrArg (λf=>(Vector.ofFn f).toList) (funext λi=>by rw[this i.val (by omega)])
theorem PM (s:O8):(idv s).toList=wrL s:=by
 rw[idv,z18i,wrL];rfl
def dig:Nat->Nat->List UInt8
 | 0,_=>[]
 | f+1,n=>if n=0 then [] else UInt8.ofNat n::dig f (n / 256)
theorem V1:∀ (f n:Nat),n<256 ^ f->BO n=dig f n
 | 0,n,h=>by
  have:n=0:=by simpa using h
  subst this; exact Kf
 | f+1,n,h=>by
  rw[dig];by_cases M:n=0
  ·rw[if_pos M,M,Kf]
  ·rw[if_neg M,Mx n M,V1 f (n / 256) (by rw[Nat.pow_succ] at h; omega)]
def numK (n:Nat):List UInt8:=if n<=247 then [UInt8.ofNat n] else UInt8.ofNat (247+(dig 8 n).length)::(dig 8 n).reverse
theorem KX (n:Nat) (h:n<256 ^ 8):BW n=numK n:=by
 unfold BW numK;rw[V1 8 n h]
def numl (l:List UInt8):Nat->Nat
 | 0=>0
 | i+1=>256 * numl l i+(l.getD i 0).toNat
theorem V2 (d:V3):∀ i,i<=8->(D7 d i).toNat=numl d.toList i
 | 0,_=>rfl
 | i+1,h=>by
  have M:=V2 d i (by omega);have hl:=PB d i (by omega);have hy:=UInt8.toNat_lt (d.toList.getD i 0);have hp:256 ^ i<=256 ^ 7:=Nat.pow_le_pow_right (by omega) (by omega);have e7:(256:Nat) ^ 7=72057594037927936:=rfl;rw[D7,UInt64.toNat_add,UInt64.toNat_mul];have e1:((d.toList.getD i 0).toUInt64).toNat=(d.toList.getD i 0).toNat:=by simp
  have e2:(256:UInt64).toNat=256:=rfl;rw[e1,e2,Nat.mod_eq_of_lt (a:=256 * (D7 d i).toNat) (by omega),Nat.mod_eq_of_lt (by omega),M];rfl
def num8 (s:O8):Nat:=numl (wrL s) 8
theorem PN (s:O8):(D7 (idv s) 8).toNat=num8 s:=by rw[V2 _ 8 (Nat.le_refl _),PM]; rfl
def J2:List O8->Bool
 | a::b::l=>decide (nk (wrL a)<nk (wrL b))&&J2 (b::l)
 | _=>true
theorem V4 (s:O8):kd (idv s)=nk (wrL s):=by unfold kd; rw[PM]
theorem V5:∀ l:List O8,Bf (l.map idv)=J2 l
 | []=>by rw[List.map_nil,Bf,J2] <;> simp
 | [a]=>by rw[List.map_cons,List.map_nil,Bf,J2] <;> simp
 | a::b::l=>by
  have M:=V5 (b::l);simp only[List.map_cons] at M ⊢;rw[Bf,J2,M,Ki,V4,V4];generalize nk (wrL a)=x;generalize nk (wrL b)=y;by_cases h:x<y
  ·rw[if_pos h,decide_eq_true h]; rfl
  ·rw[if_neg h,decide_eq_false h]
   split <;> rfl
def Ec (y:UInt32) (st:UInt64) (P:List O8) (sg:AC):Ae:=⟨y,P.map idv,st,⟨1,[],⟨0,0,0,[]⟩⟩,sg⟩
def msgK (y st:Nat) (P:List O8):List UInt8:=[111]++(numK y++((numK P.length++P.flatMap wrL)++(numK st++[1])))
theorem V6:∀ P:List O8,Dg (P.map idv)=P.flatMap wrL
 | []=>rfl
 | a::l=>by
  have:=V6 l
  unfold Dg at this ⊢;rw[List.map_cons,List.flatMap_cons,List.flatMap_cons,this,PM]
theorem V7 (y:UInt32) (st:UInt64) (P:List O8) (sg:AC) (hP:P.length<=4):msg (Ec y st P sg)=msgK y.toNat st.toNat P:=by
 have hy:=UInt32.toNat_lt y;have hs:=UInt64.toNat_lt st;unfold msg;rw[if_pos (show (Ec y st P sg).Act.Kind=1 from rfl)];unfold head msgK;show [111]++(BW y.toNat++((BW (P.map idv).length++Dg (P.map idv))++(BW st.toNat++[1])))=_;rw[List.length_map,V6,KX _ (by omega),KX P.length (by omega),KX st.toNat (by omega)]
def opIs (k y K r E S st:Nat) (P:List O8) (h1 h2 h3:O8):Bool :=
 decide (1<=k)&&(decide (k<gq)&&(decide (st<=1000000000000)&&(decide (P.length<=4)&&(J2 P&&(pmod 30 4 k gp==y &&
 (IZ (([110]++four (UInt32.ofNat k))++msgK y st P) h1&&(num8 h1 % 500000002+1==K&&(pmod 30 4 K gp==r &&
 (IZ ((([99]++four (UInt32.ofNat r))++four (UInt32.ofNat y))++msgK y st P) h2&&(num8 h2 % gq==E&&((K+E * k % gq) % gq==S &&
 IZ (msgK y st P++(numK E++numK S)) h3)))))))))))
theorem of32 {n:Nat} (h:n<gq):(UInt32.ofNat n).toNat=n:=Cy (Nat.lt_trans h (by decide))
def askO (st:Nat) (P:List O8):Ae:=⟨0,P.map idv,UInt64.ofNat st,⟨1,[],⟨0,0,0,[]⟩⟩,⟨0,0⟩⟩
theorem V8 {k y K r E S st:Nat} {P:List O8} {h1 h2 h3:O8} (h:opIs k y K r E S st P h1 h2 h3=true) :
  1<=(UInt32.ofNat k).toNat/\(UInt32.ofNat k).toNat<gq/\Cd (au (askO st P) (u32 (4 ^ (UInt32.ofNat k).toNat % gp)))=0/\(Ea (UInt32.ofNat k) (msg (au (askO st P) (u32 (4 ^ (UInt32.ofNat k).toNat % gp))))).toNat<gq /\
  sgnO (UInt32.ofNat k) (askO st P)=Ec (u32 y) (UInt64.ofNat st) P ⟨u32 E,u32 S⟩/\sha (CS (Ec (u32 y) (UInt64.ofNat st) P ⟨u32 E,u32 S⟩))=idv h3:=by
 unfold opIs at h;simp only[Bool.and_eq_true,decide_eq_true_eq,beq_iff_eq] at h;obtain⟨k1,U,a2,p4,pi,M,s1,hK,O,s2,hE,hS,s3⟩:=h;have g1:∀ n,n % gp<gp:=λn=>Nat.mod_lt _ (by decide);have g2:∀ n,n % gq<gq:=λn=>Nat.mod_lt _ (by decide);have a6:gq<2 ^ 30:=by decide
 rw[Np 30 4 k gp (by omega)] at M;have hKq:K<gq:=by
  have:=Nat.mod_lt (num8 h1) (show 0<500000002 by decide)
  show K<500000003;omega
 rw[Np 30 4 K gp (by omega)] at O;have yl:y<gp:=by rw[<- M]; exact g1 _
 have rl:r<gp:=by rw[<- O]; exact g1 _
 have El:E<gq:=by rw[<- hE]; exact g2 _
 have Sl:S<gq:=by rw[<- hS]; exact g2 _
 have ek:=of32 U;have est:(UInt64.ofNat st).toNat=st:=by rw[UInt64.toNat_ofNat',Nat.mod_eq_of_lt (by omega)]
 have ey:u32 (4 ^ (UInt32.ofNat k).toNat % gp)=u32 y:=by rw[ek,M]
 have eau:au (askO st P) (u32 (4 ^ (UInt32.ofNat k).toNat % gp))=Ec (u32 y) (UInt64.ofNat st) P ⟨0,0⟩:=by rw[ey]; rfl
 have em:msg (au (askO st P) (u32 (4 ^ (UInt32.ofNat k).toNat % gp)))=msgK y st P:=by rw[eau,V7 _ _ _ _ p4,Cy yl,est]
 have eK:Ea (UInt32.ofNat k) (msgK y st P)=u32 K:=by
  apply UInt32.toNat_inj.1
  unfold Ea;rw[PL s1,Cy (Nat.lt_trans hKq (by decide)),UInt32.toNat_add,UInt64.toNat_toUInt32,UInt64.toNat_mod];rw[PN h1, show (500000002:UInt64).toNat=500000002 from rfl, show (1:UInt32).toNat=1 from rfl]
  have:=Nat.mod_lt (num8 h1) (show 0<500000002 by decide)
  rw[Nat.mod_eq_of_lt (a:=num8 h1 % 500000002) (by omega),Nat.mod_eq_of_lt (by omega),hK]
 have eKn:(u32 K).toNat=K:=Cy (Nat.lt_trans hKq (by decide));have eE:chal (u32 r) (u32 y) (msgK y st P)=u32 E:=by
  apply UInt32.toNat_inj.1
  unfold chal
  have:sha ((([99]++four (u32 r))++four (u32 y))++msgK y st P)=idv h2:=PL s2
  rw[this,Cy (Nat.lt_trans El (by decide)),UInt64.toNat_toUInt32,UInt64.toNat_mod];rw[PN h2, show (500000003:UInt64).toNat=gq from rfl,hE,Nat.mod_eq_of_lt (by have:E<500000003:=El; omega)]
 have eS:sgnS (UInt32.ofNat k) (msgK y st P)=⟨u32 E,u32 S⟩:=by
  unfold sgnS;rw[eK,eKn,O,ey,eE,Cy (Nat.lt_trans El (by decide)),ek,hS]
 have eO:sgnO (UInt32.ofNat k) (askO st P)=Ec (u32 y) (UInt64.ofNat st) P ⟨u32 E,u32 S⟩:=by
  unfold sgnO;rw[em,eS,ey];rfl
 have hc:Cd (Ec (u32 y) (UInt64.ofNat st) P ⟨0,0⟩)=0:=by
  unfold Cd;rw[if_neg (by show ¬ 4<(P.map idv).length; rw[List.length_map]; omega),if_neg (by show ¬ Bf (P.map idv)=false; rw[V5,pi]; simp),if_pos]
  unfold Ep;have hg:inG (u32 y).toNat:=by rw[Cy yl,<- M]; exact Nr Nq k
  rw[decide_eq_true (show inG (Ec (u32 y) (UInt64.ofNat st) P ⟨0,0⟩).Author.toNat from hg)]
  have a1:decide (1000000000000<(Ec (u32 y) (UInt64.ofNat st) P ⟨0,0⟩).Stamp)=false:=decide_eq_false (by
   show ¬ 1000000000000<UInt64.ofNat st
   rw[UInt64.lt_iff_toNat_lt,est, show (1000000000000:UInt64).toNat=1000000000000 from rfl]; omega)
  rw[a1];rfl
 refine⟨by rw[ek]; exact k1, by rw[ek]; exact U, by rw[eau]; exact hc, by rw[em,eK,eKn]; exact hKq,eO,?_⟩;unfold CS;rw[V7 _ _ _ _ p4,Cy yl,est];show sha (msgK y st P++(BW (u32 E).toNat++BW (u32 S).toNat))=_;have e8:(256:Nat) ^ 8=18446744073709551616:=rfl;have El':E<500000003:=El;have Sl':S<500000003:=Sl;rw[Cy (Nat.lt_trans El (by decide)),Cy (Nat.lt_trans Sl (by decide)),KX E (by omega),KX S (by omega)]
 exact PL s3
theorem z1ca {k y K r E S st:Nat} {P:List O8} {h1 h2 h3:O8} (h:opIs k y K r E S st P h1 h2 h3=true):Di (Ec (u32 y) (UInt64.ofNat st) P ⟨u32 E,u32 S⟩)=0:=by
 obtain⟨a1,M,a3,a4,a5,a6⟩:=V8 h
 have:=z15y M (askO st P) a3 a4
 rw[a5] at this;exact this
theorem z1ee {k y K r E S st:Nat} {P:List O8} {h1 h2 h3:O8} (h:opIs k y K r E S st P h1 h2 h3=true) :
  IJ (UInt32.ofNat k) (askO st P)=some (Ec (u32 y) (UInt64.ofNat st) P ⟨u32 E,u32 S⟩,0)/\Di (Ec (u32 y) (UInt64.ofNat st) P ⟨u32 E,u32 S⟩)=0/\sha (CS (Ec (u32 y) (UInt64.ofNat st) P ⟨u32 E,u32 S⟩))=idv h3:=by
 obtain⟨M,O,a3,a4,a5,U⟩:=V8 h
 have:=z154 M O (askO st P) rfl a3 (by show inI 0; unfold inI; omega) (by show ([]:List UInt8).length<=_; simp) a4
 rw[a5] at this;exact⟨this,z1ca h,U⟩
end
section
structure Rn where
 K:Nat
 r:Nat
 E:Nat
 S:Nat
 n:Nat
 h1:O8
 h2:O8
 h3:O8
def chkR (d:Rn):Bool:=opIs 1 4 d.K d.r d.E d.S d.n [] d.h1 d.h2 d.h3
def aR:List Rn:=[⟨211812135,336507345,376595462,88407594,1,(2261053786,2189437592,4250918557,511523450,927901408,2963204800,2466531220,3899628144),(4019536063,3281654824,3625032540,4045568769,2227745962,611298954,3347657813,1104596500),(1919042353,828965479,1946608802,2505164812,2592784033,1338713724,3633848372,3287155588)⟩,
 ⟨358141107,766039016,327709993,185851097,2,(747012434,1456358490,804610950,3693570951,2875422860,3487542053,434037898,952248037),(1866423202,3339467609,1822276220,3907566745,775869880,1527806595,2960668387,2899060751),(4203766807,2736023952,3435975126,3671172674,2694753518,3314665560,2527735095,2178541500)⟩,
 ⟨272350590,731616906,338697416,111048003,3,(2598521592,2324756209,1695480440,1045412123,1438825143,893120094,25727252,1801710823),(1918518857,3704250953,1213372559,563364864,2017639625,1872875242,1085739781,2863714442),(3702777760,917978259,1732861715,3622360910,534335015,2523587567,2471658336,1050998860)⟩,
 ⟨92784532,315489071,443367772,36152301,4,(801739318,639216953,2556629487,766398082,982515904,2227065922,807358220,2087033706),(3200411511,430399662,1048160394,3188668935,3331273994,2332516309,55390374,1964379912),(1432659025,4191672744,3315087781,992294743,976117740,369273346,2454284631,964643387)⟩]
theorem z1bf:aR.all chkR=true:=by decide +kernel
theorem z1ez:(aR.map λd=>num8 d.h3).Nodup:=by
 have e:(aR.map λd=>num8 d.h3)=[8242224146602852967,18055040958811367824,15903309384474115219,6153223662885919144]:=by decide +kernel
 rw[e]; decide +kernel
end
section
theorem Ed {α:Type} [DecidableEq α]:∀ (p q:List α),p.Nodup->(∀ x∈p,x∈q)->p.length<=q.length
 | [],_,_,_=>by simp
 | a::p,q,h,M=>by
  have O:=M a (by simp);have U:=List.nodup_cons.1 h
  have:=Ed p (q.erase a) U.2 (λx hx=>by
   have a1:x≠a:=λe=>U.1 (e ▸ hx)
   exact(List.mem_erase_of_ne a1).2 (M x (by simp[hx])))
  rw[List.length_erase_of_mem O] at this;have hp:=List.length_pos_of_mem O;simp only[List.length_cons]; omega
theorem PP {α:Type} [DecidableEq α] {p q:List α} (h1:p.Nodup) (h2:q.Nodup) (h:∀ x,x∈p↔x∈q):p.length=q.length :=
 Nat.le_antisymm (Ed p q h1 λx M=>(h x).1 M) (Ed q p h2 λx M=>(h x).2 M)
abbrev ID:=V3
theorem J3 {l:List ID} (h:Bf l=true) {i j:Nat} (hi:i<l.length) (O:j<l.length) (M:i<j):kd l[i]<kd l[j] :=
 List.pairwise_iff_getElem.1 ((F7 l).1 h) i j hi O M
theorem Va {l:List ID} (h:Bf l=true) {i j:Nat} (hi:i<l.length) (M:j<l.length) (e:l[i]=l[j]):i=j:=by
 rcases Nat.lt_trichotomy i j with c | c | c
 ·have:=J3 h hi M c; rw[e] at this; omega
 ·exact c
 ·have:=J3 h M hi c; rw[e] at this; omega
theorem Ge {l:List ID} (h:Bf l=true):l.Nodup:=by
 have:=(F7 l).1 h
 exact this.imp λ{a b} M e=>by rw[e] at M; omega
theorem Gf {l:List ID} (h:Bf l=true) {k:Nat} (M:k<l.length):l.idxOf l[k]=k:=by
 have h1:l.idxOf l[k]<l.length:=List.idxOf_lt_length_of_mem (List.getElem_mem M);exact Va h h1 M (by simp)
theorem z19k (s e:Nat) (h:s+e<9223372036854775807):w64 ((BZ (UInt64.ofInt (w64 ((s:Int)+(e:Int)))) 1).toNat:Int)=(((s+e) / 2:Nat):Int):=by
 rw[B1 (x:=(s:Int)+(e:Int)) (by omega) (by omega), show ((s:Int)+(e:Int))=((s+e:Nat):Int) by omega,Ke,Mz (by omega)];rw[show min 1 64=1 from rfl,Nat.pow_one,B1 (by omega) (by omega)]
theorem Vb (l:List ID) (hl:l.length<=4611686018427387903) (hi:Bf l=true) (x:ID):∃ b:Int,iter (Iw l x) (0,(l.length:Int))=some b/\∃ k:Nat,b=(k:Int)/\k<=l.length/\(∀ i (h:i<l.length),i<k->kd l[i]<kd x)/\(∀ i (h:i<l.length),k<=i->kd x<=kd l[i]):=by
 refine G2 (F:=Iw l x)
  (λst=>∃ s e:Nat,st=((s:Int),(e:Int))/\s<=e/\e<=l.length/\(∀ i (h:i<l.length),i<s->kd l[i]<kd x)/\(∀ i (h:i<l.length),e<=i->kd x<=kd l[i]))
  (λst=>st.2.toNat - st.1.toNat) _ ?_ _ ⟨0,l.length,rfl, by omega, by omega, λi _ h=>by omega, λi h h2=>by omega⟩
 rintro st ⟨s,e,rfl,h1,h2,h3,h4⟩
 by_cases M:s<e
 ·right
  have U:(s+e) / 2<l.length:=by omega
  have hF:Iw l x ((s:Int),(e:Int))=if decide (kd l[(s+e) / 2]<kd x) then some (.inr ((((s+e) / 2+1:Nat):Int),(e:Int))) else some (.inr ((s:Int),(((s+e) / 2:Nat):Int))):=by
   unfold Iw;simp only[];rw[if_pos (by simpa using M),z19k _ _ (by omega)];simp only[bS];rw[AE U];simp only[bS];rw[MA];simp only[bS];rw[P3,AO (show (s+e) / 2<9223372036854775807 by omega)]
  by_cases hc:kd l[(s+e) / 2]<kd x
  ·rw[decide_eq_true hc,if_pos rfl] at hF;refine⟨_,hF,⟨(s+e) / 2+1,e,rfl, by omega,h2, λi h O=>?_,h4⟩, by simp; omega⟩;by_cases he:i=(s+e) / 2
   ·subst he; exact hc
   ·have:=J3 hi h U (by omega); omega
  ·rw[decide_eq_false hc,if_neg (by simp)] at hF;refine⟨_,hF,⟨s,(s+e) / 2,rfl, by omega, by omega,h3, λi h O=>?_⟩, by simp; omega⟩;by_cases he:i=(s+e) / 2
   ·subst he; omega
   ·have:=J3 hi U h (by omega); omega
 ·left
  refine⟨(s:Int),?_,s,rfl, by omega,h3, λi h O=>h4 i h (by omega)⟩;unfold Iw;simp only[];rw[if_neg (by simpa using M)]
theorem z1ag (l:List ID) (hl:l.length<=4611686018427387903) (hi:Bf l=true) (x:ID):∃ k:Nat,Ix l x=some ((k:Int),decide (x∈l))/\(x∈l->k=l.idxOf x/\k<l.length)/\k<=l.length:=by
 obtain⟨b,h1,k,rfl,h2,h3,h4⟩:=Vb l hl hi x;unfold Ix;simp only[bS];rw[h1];simp only[bS];have M:x∈l->∃ h:k<l.length,l[k]=x:=λO=>by
  obtain⟨i,a6,rfl⟩:=List.getElem_of_mem O;have a1:¬ i<k:=λc=>by have:=h3 i a6 c; omega
  by_cases a2:k=i
  ·subst a2; exact⟨a6,rfl⟩
  ·have U:k<l.length:=by omega
   have:=h4 k U (Nat.le_refl _)
   have:=J3 hi U a6 (by omega)
   omega
 by_cases U:k<l.length
 ·rw[if_pos (by simpa using U),AE U];simp only[bS];rw[MA];simp only[bS];rw[TO];refine⟨k,?_, λO=>?_, by omega⟩
  ·have:decide (l[k]=x)=decide (x∈l):=by
    rw[decide_eq_decide];exact⟨λe=>e ▸ List.getElem_mem U, λO=>(M O).2⟩
   rw[this]
  ·obtain⟨h,e⟩:=M O;subst e;exact⟨(Gf hi h).symm,h⟩
 ·rw[if_neg (by simpa using U)];refine⟨k,?_, λO=>absurd (M O).1 U, by omega⟩;rw[decide_eq_false λO=>U (M O).1]
theorem J4 (g:A4) (hl:g.IDs.length<=4611686018427387903) (hi:Bf g.IDs=true) (x:ID):∃ k:Nat,FC g x=some ((k:Int),decide (x∈g.IDs))/\(x∈g.IDs->k=g.IDs.idxOf x/\k<g.IDs.length)/\k<=g.IDs.length:=by
 obtain⟨k,h1,h2,h3⟩:=z1ag g.IDs hl hi x;refine⟨k,?_,h2,h3⟩;unfold FC;rw[h1];simp only[bS]
theorem Vc (l:List ID) (x:ID) (hl:l.length<=9223372036854775806):∀ (rest pre:List ID),l=pre++rest->∃ r:Sum Int Unit,iter (K8 l x) (pre.length:Int)=some r/\((r=.inr ()/\x∉rest)\/∃ i:Nat,r=.inl (i:Int)/\∃ h:i<l.length,l[i]=x)
 | [],pre,e=>by
  refine⟨_,AW ?_,.inl ⟨rfl, by simp⟩⟩;subst e;unfold K8;rw[if_neg (by simp)]
 | c::rest,pre,e=>by
  have M:pre.length<l.length:=by rw[e]; simp
  have O:l[pre.length]'M=c:=by subst e; simp
  have hF:K8 l x (pre.length:Int)=if decide (c=x) then some (.inl (.inl (pre.length:Int))) else some (.inr ((pre.length+1:Nat):Int)):=by
   unfold K8;rw[if_pos (by simpa using M),AE M,O,AO (by omega)];simp only[bS]
  by_cases U:c=x
  ·rw[decide_eq_true U,if_pos rfl] at hF;exact⟨_,AW hF,.inr ⟨pre.length,rfl,M, by rw[O,U]⟩⟩
  ·rw[decide_eq_false U,if_neg (by simp)] at hF;obtain⟨r,h1,h2⟩:=Vc l x hl rest (pre++[c]) (by simp[e]);simp only[List.length_append,List.length_cons,List.length_nil,Nat.zero_add] at h1;refine⟨r, by rw[B9 hF]; exact h1,?_⟩;rcases h2 with ⟨h2,h3⟩ | h2
   ·exact .inl ⟨h2, by simp; exact⟨λe=>U e.symm,h3⟩⟩
   ·exact .inr h2
theorem PQ (l:List ID) (x:ID) (hl:l.length<=9223372036854775806):∃ k:Int,G1 l x=some k/\((k = -1/\x∉l)\/∃ i:Nat,k=(i:Int)/\∃ h:i<l.length,l[i]=x):=by
 obtain⟨r,h1,h2⟩:=Vc l x hl l [] rfl;unfold G1;rw[show (0:Int)=(([]:List ID).length:Int) from rfl,h1];rcases h2 with ⟨rfl,h3⟩ | ⟨i,rfl,h3⟩
 ·exact⟨-1,rfl,.inl ⟨rfl,h3⟩⟩
 ·exact⟨(i:Int),rfl,.inr ⟨i,rfl,h3⟩⟩
theorem z1c7 (l:List ID) (x:ID) (hl:l.length<=9223372036854775806):∃ k:Int,G1 l x=some k/\decide (k<0)=!decide (x∈l):=by
 obtain⟨k,h1,h2⟩:=PQ l x hl;refine⟨k,h1,?_⟩;rcases h2 with ⟨rfl,h2⟩ | ⟨i,rfl,h,rfl⟩
 ·rw[decide_eq_false h2]; rfl
 ·rw[decide_eq_true (List.getElem_mem h),decide_eq_false (by omega)]; rfl
theorem Vd (l:List ID) (p:List ID) (hl:l.length<=9223372036854775806) (hp:p.length<=9223372036854775806):∀ (rest pre:List ID),p=pre++rest->iter (K9 l p) (pre.length:Int)=some (if rest.all (λx=>decide (x∈l)) then .inr () else .inl false)
 | [],pre,e=>by
  refine AW ?_;subst e;unfold K9
  simp
 | c::rest,pre,e=>by
  have M:pre.length<p.length:=by rw[e]; simp
  have U:p[pre.length]'M=c:=by subst e; simp
  obtain⟨k,k1,k2⟩:=z1c7 l c hl;have hF:K9 l p (pre.length:Int)=if decide (c∈l) then some (.inr ((pre.length+1:Nat):Int)) else some (.inl (.inl false)):=by
   unfold K9;rw[if_pos (by simpa using M),AE M,U,AO (by omega)];simp only[bS];rw[k1];simp only[bS];rw[k2]
   cases decide (c∈l) <;> rfl
  cases O:decide (c∈l) with
  | false=>rw[O] at hF; rw[AW hF,List.all_cons,O]; rfl
  | true =>
   rw[O] at hF;rw[B9 hF];have ih:=Vd l p hl hp rest (pre++[c]) (by simp[e]);simp only[List.length_append,List.length_cons,List.length_nil,Nat.zero_add] at ih;rw[ih,List.all_cons,O,Bool.true_and]
theorem Ve (l p:List ID) (hl:l.length<=9223372036854775806) (M:p.length<=9223372036854775806):FD l p=some (p.all λx=>decide (x∈l)):=by
 have h:=Vd l p hl M p [] rfl;unfold FD;rw[show (0:Int)=(([]:List ID).length:Int) from rfl,h]
 cases p.all λx=>decide (x∈l) <;> rfl
theorem z168 (g:A4) (hl:g.IDs.length<=9223372036854775807):Bi (ρ:=Int) (iter (Hs g) 1)=λk=>if Bf g.IDs then k () else some 32:=by
 have key:∀ (n i:Nat),g.IDs.length - i=n->1<=i->i<=g.IDs.length->iter (Hs g) (i:Int)=some (if Bf (g.IDs.drop (i - 1)) then .inr () else .inl 32):=by
  intro n
  induction n with
  | zero =>
   intro i U h1 hi;have h:=TK g.IDs hl 0 i U h1 hi;have e:g.IDs.drop (i - 1)=[g.IDs[i - 1]'(by omega)]:=by
    rw[List.drop_eq_getElem_cons (by omega),List.drop_eq_nil_of_le (by omega)]
   rw[e];refine AW ?_;unfold Hs;rw[if_neg (by simp; omega)];simp[Bf]
  | succ n ih =>
   intro i U h1 hi;have M:i<g.IDs.length:=by omega
   have e:g.IDs.drop (i - 1)=g.IDs[i - 1]::g.IDs[i]::g.IDs.drop (i+1):=by
    rw[List.drop_eq_getElem_cons (by omega), show i - 1+1=i by omega,List.drop_eq_getElem_cons M]
   have e':g.IDs.drop (i+1 - 1)=g.IDs[i]::g.IDs.drop (i+1):=by rw[Nat.add_sub_cancel,List.drop_eq_getElem_cons M]
   have hF:Hs g (i:Int)=if decide (0<=Lib.compareBytes (g.IDs[i - 1]).toList (g.IDs[i]).toList) then some (.inl (.inl 32)) else some (.inr ((i+1:Nat):Int)):=by
    unfold Hs;rw[if_pos (by simp; omega),B1 (by omega) (by omega), show ((i:Int) - 1)=((i - 1:Nat):Int) by omega];simp only[AE M,AE (show i - 1<g.IDs.length by omega),bs,P0,AO (show i<9223372036854775807 by omega)]
   rw[e,Bf]
   cases hc:decide (0<=Lib.compareBytes (g.IDs[i - 1]).toList (g.IDs[i]).toList) with
   | true=>rw[hc] at hF; rw[AW hF]; rfl
   | false =>
    rw[hc] at hF;rw[B9 hF,ih (i+1) (by omega) (by omega) (by omega),e']; simp
 funext k
 by_cases h0:g.IDs.length=0
 ·have O:g.IDs=[]:=List.length_eq_zero_iff.1 h0;rw[AW (b:=.inr ())]
  ·rw[O]; rfl
  ·unfold Hs;rw[if_neg (by simp; omega)]
 ·rw[show (1:Int)=((1:Nat):Int) from rfl,key (g.IDs.length - 1) 1 rfl (by omega) (by omega),Nat.sub_self,List.drop_zero]
  cases Bf g.IDs <;> rfl
end
section
def il (l:List Nat):List Int:=l.map λk:Nat=>(k:Int)
theorem Fi (l:List Nat):(il l).length=l.length:=by simp[il]
theorem Vf {l:List Nat} {i:Nat} (h:i<l.length):idx (il l) (i:Int)=some (l[i]:Int):=by
 rw[AE (by rw[Fi]; exact h)]; simp[il]
theorem PR (l m:List Nat):il (l++m)=il l++il m:=by simp[il]
def tab {α:Type} (n:Nat) (f:Nat->α):List α:=(List.range n).map f
theorem HP {α:Type} (n:Nat) (f:Nat->α):(tab n f).length=n:=by simp[tab]
theorem PS {α:Type} {n:Nat} {f:Nat->α} {i:Nat} (h:i<(tab n f).length):(tab n f)[i]=f i:=by simp[tab]
theorem DX {α:Type} {n:Nat} {f:Nat->α} {i:Nat} (h:i<n):idx (tab n f) (i:Int)=some (f i):=by
 rw[AE (by rw[HP]; exact h),PS]
theorem GU {α:Type} {n:Nat} {f g:Nat->α} {i:Nat} {x:α} (hi:i<n) (h1:g i=x) (h2:∀ j,j<n->j≠i->g j=f j):(tab n f).set i x=tab n g:=by
 apply List.ext_getElem
 ·simp[HP]
 ·intro j a1 M;rw[List.getElem_set,PS,PS];rw[HP] at M
  split
  ·rename_i e; subst e; exact h1.symm
  ·rename_i e; exact(h2 j M (λc=>e c.symm)).symm
theorem J5 {α:Type} {n:Nat} {f g:Nat->α} (h:∀ j,j<n->f j=g j):tab n f=tab n g:=by
 unfold tab;exact List.map_congr_left λj M=>h j (by simpa using M)
theorem J6 {α:Type} (n:Nat) (x:α):List.replicate n x=tab n (λ_=>x):=by
 apply List.ext_getElem
 ·simp[tab]
 ·intro j h1 h2; simp[tab]
def opAt (g:A4) (i:Nat):List ID:=match g.Ops[i]? with | some o=>o.Preds | none=>[]
theorem Dw {g:A4} {i:Nat} (h:i<g.Ops.length):opAt g i=(g.Ops[i]).Preds:=by unfold opAt; rw[List.getElem?_eq_getElem h]
def AS (g:A4) (i:Nat):List Nat:=(opAt g i).map λx=>g.IDs.idxOf x
structure Cj (g:A4):Prop where
 len:g.Ops.length<=60
 ids:g.IDs.length=g.Ops.length
 ri:Bf g.IDs=true
 op:∀ i (h:i<g.Ops.length),(g.Ops[i]).Preds.length<=4/\Bf (g.Ops[i]).Preds=true
variable {g:A4}
theorem Cj.four (E:Cj g) (i:Nat):(opAt g i).length<=4:=by
 unfold opAt;by_cases h:i<g.Ops.length
 ·rw[List.getElem?_eq_getElem h]; exact(E.op i h).1
 ·rw[List.getElem?_eq_none (by omega)]; simp
theorem Cj.nodup (E:Cj g) (i:Nat):(opAt g i).Nodup:=by
 unfold opAt;by_cases h:i<g.Ops.length
 ·rw[List.getElem?_eq_getElem h]; exact Ge (E.op i h).2
 ·rw[List.getElem?_eq_none (by omega)]; simp
theorem KY {l:List ID} {x y:ID} (M:x∈l) (h:l.idxOf y=l.idxOf x):y=x:=by
 have h1:l.idxOf x<l.length:=List.idxOf_lt_length_of_mem M;have h2:l.idxOf y<l.length:=by omega
 have e1:l[l.idxOf x]'h1=x:=by simp
 have e2:l[l.idxOf y]'h2=y:=by simp
 rw[<- e1,<- e2]; congr 1
def DQ (g:A4) (i x:Nat):List Nat:=(List.range i).filter λk=>decide (x∈AS g k)
theorem z122 (g:A4) (i x:Nat):(DQ g i x).length<=i:=by
 have:=List.length_filter_le (λk=>decide (x∈AS g k)) (List.range i)
 unfold DQ; simpa using this
def DY (g:A4) (i j x:Nat):List Nat:=DQ g i x++(if x∈(AS g i).take j then [i] else [])
theorem z113 (g:A4) (i x:Nat):DQ g (i+1) x=DY g i (AS g i).length x:=by
 unfold DQ DY;rw[List.range_succ,List.filter_append,List.take_length];by_cases h:x∈AS g i
 ·rw[if_pos h]; simp[DQ,h]
 ·rw[if_neg h]; simp[DQ,h]
theorem z102 (g:A4) (i x:Nat):DY g i 0 x=DQ g i x:=by unfold DY; simp
theorem Vg (E:Cj g) {i:Nat} (hi:i<g.Ops.length) (s:(List Int) × (List (List Int)) × (List Int) × Int) (hs:s.2.2.2=(i:Int)):∀ (rest pre:List ID),g.Ops[i].Preds=pre++rest ->
  iter (Iy g s g.Ops[i]) (tab g.Ops.length (λx=>il (DY g i pre.length x)),(pre.length:Int))=some (if rest.all (λx=>decide (x∈g.IDs)) then .inr (tab g.Ops.length λx=>il (DY g i (AS g i).length x)) else .inl (.inl (.inl 40)))
 | [],pre,e=>by
  refine AW ?_;unfold Iy
  have:(AS g i).length=pre.length:=by unfold AS; rw[Dw hi,e]; simp
  rw[if_neg (by rw[e]; simp),this]
  rfl
 | c::rest,pre,e=>by
  have h4:=(E.op i hi).1;have hn:=E.nodup i;rw[Dw hi] at hn;have M:pre.length<g.Ops[i].Preds.length:=by rw[e]; simp
  have O:g.Ops[i].Preds[pre.length]'M=c:=by simp[e]
  have a7:(AS g i).length=g.Ops[i].Preds.length:=by unfold AS; rw[Dw hi]; simp
  have a1:(AS g i)[pre.length]'(by omega)=g.IDs.idxOf c:=by
   unfold AS;simp only[Dw hi,List.getElem_map,O]
  obtain⟨k,f1,f2,f3⟩:=J4 g (by have:=E.ids; have:=E.len; omega) E.ri c;rw[List.all_cons];by_cases U:c∈g.IDs
  ·rw[decide_eq_true U,Bool.true_and];obtain⟨rfl,hk⟩:=f2 U;rw[E.ids] at hk;have a8:=z122 g i (g.IDs.idxOf c);have aa:(DY g i pre.length (g.IDs.idxOf c)).length<=i+1:=by
    unfold DY; rw[List.length_append]; split <;> simp <;> omega
   have a2:(tab g.Ops.length (λx=>il (DY g i pre.length x))).set (g.IDs.idxOf c) (il (DY g i pre.length (g.IDs.idxOf c))++[(i:Int)])=tab g.Ops.length (λx=>il (DY g i (pre.length+1) x)):=by
    refine GU hk ?_ λx hx a6=>?_
    ·have h1:¬ g.IDs.idxOf c∈(AS g i).take pre.length:=by
      intro hm;have e5:(AS g i).take pre.length=pre.map λx=>g.IDs.idxOf x:=by
       unfold AS;rw[Dw hi,e,List.map_append,List.take_left' (by simp)]
      rw[e5,List.mem_map] at hm;obtain⟨y,hy,e6⟩:=hm
      have:=KY U e6
      subst this;rw[e,List.nodup_append] at hn;exact hn.2.2 y hy y (by simp) rfl
     have h2:g.IDs.idxOf c∈(AS g i).take (pre.length+1):=by
      rw[List.take_add_one,List.getElem?_eq_getElem (by omega),a1]; simp
     unfold DY;rw[if_pos h2,if_neg h1]; simp[il]
    ·have:(x∈(AS g i).take (pre.length+1))↔(x∈(AS g i).take pre.length):=by
      rw[List.take_add_one,List.getElem?_eq_getElem (by omega),a1];simp[a6]
     unfold DY;simp only[this]
   have hF:Iy g s g.Ops[i] (tab g.Ops.length (λx=>il (DY g i pre.length x)),(pre.length:Int))=some (.inr (tab g.Ops.length (λx=>il (DY g i (pre.length+1) x)),((pre.length+1:Nat):Int))):=by
    have hlen2:=E.len;unfold Iy;rw[if_pos (by simpa using M)];simp only[];rw[AE M,O];simp only[bS];rw[f1];simp only[bS];rw[decide_eq_true U,if_neg (by simp),DX hk];simp only[bS];rw[hs,Bw (by rw[Fi]; simp; omega),AO (by omega)];simp only[bS,Int.toNat_natCast];rw[a2]
   rw[B9 hF];have ih:=Vg E hi s hs rest (pre++[c]) (by simp[e]);simp only[List.length_append,List.length_cons,List.length_nil,Nat.zero_add] at ih;exact ih
  ·rw[decide_eq_false U];refine AW ?_;unfold Iy;rw[if_pos (by simpa using M)];simp only[];rw[AE M,O];simp only[bS];rw[f1];simp only[bS];rw[decide_eq_false U]; rfl
def Dx (g:A4):Bool:=g.Ops.all λo=>o.Preds.all λx=>decide (x∈g.IDs)
def DZ (g:A4) (i x:Nat):Int:=if x<i then ((AS g x).length:Int) else 0
def ready (g:A4) (i:Nat):List Nat:=(List.range i).filter λk=>decide ((AS g k).length=0)
theorem z11n (g:A4) (i:Nat):(ready g i).length<=i:=by
 have:=List.length_filter_le (λk=>decide ((AS g k).length=0)) (List.range i)
 unfold ready; simpa using this
theorem Vh (E:Cj g):∀ (rest pre:List Ae),g.Ops=pre++rest ->
  iter (Iz g) (tab g.Ops.length (DZ g pre.length),tab g.Ops.length (λx=>il (DQ g pre.length x)),il (ready g pre.length),(pre.length:Int)) =
   some (if rest.all (λo=>o.Preds.all λx=>decide (x∈g.IDs)) then .inr (tab g.Ops.length (DZ g g.Ops.length),tab g.Ops.length (λx=>il (DQ g g.Ops.length x)),il (ready g g.Ops.length)) else .inl 40)
 | [],pre,e=>by
  refine AW ?_;have hl:g.Ops.length=pre.length:=by rw[e]; simp
  unfold Iz;rw[if_neg (by simp; omega),hl];rfl
 | o::rest,pre,e=>by
  have hlen2:=E.len;have M:pre.length<g.Ops.length:=by rw[e]; simp
  have O:g.Ops[pre.length]'M=o:=by simp[e]
  have U:=Vg E M (tab g.Ops.length (DZ g pre.length),tab g.Ops.length (λx=>il (DQ g pre.length x)),il (ready g pre.length),(pre.length:Int)) rfl o.Preds [] (by rw[O]; rfl);rw[O] at U;simp only[List.length_nil,z102] at U;have a1:(AS g pre.length).length=o.Preds.length:=by unfold AS; rw[Dw M,O]; simp
  rw[List.all_cons]
  cases hc:o.Preds.all λx=>decide (x∈g.IDs) with
  | false =>
   rw[hc] at U;refine AW ?_;unfold Iz;rw[if_pos (by simpa using M)];simp only[];rw[AE M,O];simp only[bS];rw[show (0:Int)=((0:Nat):Int) from rfl,U];rfl
  | true =>
   rw[hc] at U;rw[Bool.true_and];have a6:(tab g.Ops.length (DZ g pre.length)).set pre.length (o.Preds.length:Int)=tab g.Ops.length (DZ g (pre.length+1)):=by
    refine GU M ?_ λx hx a7=>?_
    ·unfold DZ; rw[if_pos (by omega),a1]
    ·unfold DZ;by_cases h:x<pre.length
     ·rw[if_pos h,if_pos (by omega)]
     ·rw[if_neg h,if_neg (by omega)]
   have a8:=z11n g pre.length;have hready:il (ready g (pre.length+1))=if (o.Preds.length:Int)==0 then il (ready g pre.length)++[(pre.length:Int)] else il (ready g pre.length):=by
    unfold ready;rw[List.range_succ,List.filter_append,PR];by_cases h:o.Preds.length=0
    ·have hd:decide ((AS g pre.length).length=0)=true:=decide_eq_true (by rw[a1]; exact h);rw[if_pos (by simpa using h),List.filter_cons_of_pos (p:=λk=>decide ((AS g k).length=0)) hd]; rfl
    ·have hd:¬ decide ((AS g pre.length).length=0)=true:=by rw[decide_eq_true_iff,a1]; exact h
     rw[if_neg (by simpa using h),List.filter_cons_of_neg (p:=λk=>decide ((AS g k).length=0)) hd]; simp[il]
   have a2:(λx=>il (DY g pre.length (AS g pre.length).length x))=λx=>il (DQ g (pre.length+1) x):=by
    funext x; rw[z113]
   rw[a2] at U;have hF:Iz g (tab g.Ops.length (DZ g pre.length),tab g.Ops.length (λx=>il (DQ g pre.length x)),il (ready g pre.length),(pre.length:Int))=some (.inr (tab g.Ops.length (DZ g (pre.length+1)),tab g.Ops.length (λx=>il (DQ g (pre.length+1) x)),il (ready g (pre.length+1)),((pre.length+1:Nat):Int))):=by
    unfold Iz;rw[if_pos (by simpa using M)];simp only[];rw[AE M,O];simp only[bS];rw[show (0:Int)=((0:Nat):Int) from rfl,U];simp only[if_true,Df];rw[DX M];simp only[bS,Int.toNat_natCast];rw[a6,DX M];simp only[bS];have e5:DZ g (pre.length+1) pre.length=(o.Preds.length:Int):=by unfold DZ; rw[if_pos (by omega),a1]
    rw[e5,hready,AO (by omega)];by_cases h:o.Preds.length=0
    ·rw[if_pos (by simpa using h),if_pos (by simpa using h),Bw (by rw[Fi]; simp; omega)];simp only[bS]
    ·rw[if_neg (by simpa using h),if_neg (by simpa using h)]
   rw[B9 hF];have ih:=Vh E rest (pre++[o]) (by simp[e]);simp only[List.length_append,List.length_cons,List.length_nil,Nat.zero_add] at ih;exact ih
theorem Vi (E:Cj g):∀ (rest pre:List Ae),g.Ops=pre++rest ->
  iter (Ka g) (pre.length:Int)=some (if rest.all (λo=>o.Preds.all λx=>decide (x∈g.IDs)) then .inr () else .inl 40)
 | [],pre,e=>by
  refine AW ?_;unfold Ka;rw[if_neg (by rw[e]; simp)]; rfl
 | o::rest,pre,e=>by
  have hlen2:=E.len;have M:pre.length<g.Ops.length:=by rw[e]; simp
  have O:g.Ops[pre.length]'M=o:=by simp[e]
  have h4:=(E.op _ M).1;rw[O] at h4;have hF:Ka g (pre.length:Int)=if (o.Preds.all λx=>decide (x∈g.IDs)) then some (.inr ((pre.length+1:Nat):Int)) else some (.inl (.inl 40)):=by
   unfold Ka;rw[if_pos (by simpa using M),AE M,O];simp only[bS];rw[Ve _ _ (by have:=E.ids; omega) (by omega),AO (by omega)];simp only[bS]
   cases o.Preds.all λx=>decide (x∈g.IDs) <;> rfl
  rw[List.all_cons]
  cases U:o.Preds.all λx=>decide (x∈g.IDs) with
  | false=>rw[U] at hF; rw[AW hF]; rfl
  | true =>
   rw[U] at hF;rw[B9 hF];have ih:=Vi E rest (pre++[o]) (by simp[e]);simp only[List.length_append,List.length_cons,List.length_nil,Nat.zero_add] at ih;rw[ih,Bool.true_and]
end
section
theorem PT {α:Type} {l:List α} (h:l.Nodup) {i j:Nat} (hi:i<l.length) (M:j<l.length) (e:l[i]=l[j]):i=j:=by
 rcases Nat.lt_trichotomy i j with c | c | c
 ·exact absurd e (List.pairwise_iff_getElem.1 h i j hi M c)
 ·exact c
 ·exact absurd e.symm (List.pairwise_iff_getElem.1 h j i M hi c)
inductive Wf (P:Nat->List Nat):Nat->Prop
 | mk (i:Nat):(∀ p∈P i,Wf P p)->Wf P i
def cnt (P:Nat->List Nat) (T:List Nat) (i:Nat):Int:=(((P i).filter λp=>!decide (p∈T)).length:Int)
theorem Vj {P:Nat->List Nat} {T:List Nat} {i:Nat}:cnt P T i=0↔∀ p∈P i,p∈T:=by
 unfold cnt
 constructor
 ·intro h p O;have M:((P i).filter λp=>!decide (p∈T))=[]:=List.length_eq_zero_iff.1 (by omega);rw[List.filter_eq_nil_iff] at M
  simpa using M p O
 ·intro h;have M:((P i).filter λp=>!decide (p∈T))=[]:=by
   rw[List.filter_eq_nil_iff];intro p O
   simpa using h p O
  rw[M]; rfl
theorem Vk (P:Nat->List Nat) (i:Nat):cnt P [] i=((P i).length:Int):=by
 unfold cnt;rw[List.filter_eq_self.2 (λa _=>by simp)]
theorem z1dp (P:Nat->List Nat) (T:List Nat) (i:Nat):cnt P T i<=((P i).length:Int):=by
 unfold cnt
 have:=List.length_filter_le (λp=>!decide (p∈T)) (P i)
 omega
theorem PU {T:List Nat} {x:Nat} (U:x∉T):∀ l:List Nat,l.Nodup->(l.filter λp=>!decide (p∈T)).length=(l.filter λp=>!decide (p∈T++[x])).length+(if x∈l then 1 else 0)
 | [],_=>by simp
 | a::l,h=>by
  have hn:=List.nodup_cons.1 h;have M:=PU U l hn.2;by_cases O:a=x
  ·subst O;rw[if_neg hn.1] at M;rw[if_pos (by simp),List.filter_cons_of_pos (by simpa using U),List.filter_cons_of_neg (by simp),List.length_cons,M]
  ·have e:(x∈a::l)↔(x∈l):=by
    rw[List.mem_cons]; exact⟨λh=>h.resolve_left λe=>O e.symm,.inr⟩
   by_cases hT:a∈T
   ·rw[List.filter_cons_of_neg (by simp[hT]),List.filter_cons_of_neg (by simp[hT]),M];simp only[e]
   ·rw[List.filter_cons_of_pos (by simp[hT]),List.filter_cons_of_pos (by simp[hT,O]),List.length_cons,List.length_cons,M];simp only[e]; omega
theorem Vl {P:Nat->List Nat} {T:List Nat} {x i:Nat} (M:x∉T) (O:(P i).Nodup) (hi:x∈P i):cnt P T i=cnt P (T++[x]) i+1:=by
 unfold cnt;rw[PU M _ O,if_pos hi]; omega
theorem z1a9 {P:Nat->List Nat} {T:List Nat} {x i:Nat} (M:x∉T) (O:(P i).Nodup) (hi:x∉P i):cnt P T i=cnt P (T++[x]) i:=by
 unfold cnt;rw[PU M _ O,if_neg hi]; omega
structure PV (P:Nat->List Nat) (n:Nat):Prop where
 n60:n<=60
 nodup:∀ i,(P i).Nodup
 four:∀ i,(P i).length<=4
 lt:∀ i,∀ p∈P i,p<n
def over (P:Nat->List Nat) (n x:Nat):List Nat:=(List.range n).filter λk=>decide (x∈P k)
theorem Vm {P:Nat->List Nat} {n x k:Nat}:k∈over P n x↔k<n/\x∈P k:=by unfold over; simp
theorem z10z (P:Nat->List Nat) (n x:Nat):(over P n x).Nodup:=List.Pairwise.filter _ List.nodup_range
structure Got (P:Nat->List Nat) (n:Nat) (Q:List Nat):Prop where
 nodup:Q.Nodup
 lt:∀ x∈Q,x<n
 wf:∀ x∈Q,Wf P x
theorem Got.len {P:Nat->List Nat} {n:Nat} {Q:List Nat} (h:Got P n Q):Q.length<=n:=by
 have:=Ed Q (List.range n) h.nodup λx M=>by simpa using h.lt x M
 simpa using this
variable {P:Nat->List Nat} {n:Nat}
theorem z1de (E:PV P n) (Q:List Nat) (pos:Nat) (hp:pos<Q.length) (hQ:Got P n Q) (hd:∀ i,i<n->(i∈Q↔cnt P (Q.take pos) i=0)) :
  ∃ b:List Int × List Int,iter (IA (il (over P n Q[pos]))) (tab n (cnt P (Q.take pos)),il Q,0)=some b/\∃ R,b=(tab n (cnt P ((Q++R).take (pos+1))),il (Q++R))/\Got P n (Q++R)/\∀ i,i<n->(i∈Q++R↔cnt P ((Q++R).take (pos+1)) i=0):=by
 have hx:Q[pos]∉Q.take pos:=by
  intro O;obtain⟨j,hj,e⟩:=List.getElem_of_mem O;rw[List.getElem_take] at e;rw[List.length_take] at hj
  have:=PT hQ.nodup _ _ e
  omega
 have a8:∀ R:List Nat,(Q++R).take (pos+1)=Q.take pos++[Q[pos]]:=λR=>by
  rw[List.take_append_of_le_length (by omega),List.take_add_one,List.getElem?_eq_getElem hp]; rfl
 let T:=Q.take pos
 let x:=Q[pos]
 have ae:Wf P x:=hQ.wf x (List.getElem_mem hp);have hwT:∀ y∈T,Wf P y:=λy hy=>hQ.wf y (List.mem_of_mem_take hy)
 let c:=λ(j i:Nat)=>if i∈(over P n x).take j then cnt P (T++[x]) i else cnt P T i
 have hc_in:∀ j i,i∈(over P n x).take j->c j i=cnt P (T++[x]) i:=λj i h=>if_pos h;have hc_out:∀ j i,i∉(over P n x).take j->c j i=cnt P T i:=λj i h=>if_neg h;have hcnt2:∀ i,cnt P (T++[x]) i=0->Wf P i:=λi hi=>.mk i λp af=>by
  have:=Vj.1 hi p af
  rcases List.mem_append.1 this with h | h
  ·exact hwT p h
  ·rw[List.mem_singleton] at h; subst h; exact ae
 have ac:=DV (F:=IA (il (over P n x))) (over P n x).length
  (λj st=>∃ R,st=(tab n (c j),il (Q++R),(j:Int))/\Got P n (Q++R)/\∀ i,i<n->(i∈Q++R↔c j i=0))
  (λb=>∃ R,b=(tab n (c (over P n x).length),il (Q++R))/\Got P n (Q++R)/\∀ i,i<n->(i∈Q++R↔c (over P n x).length i=0))
  (λj st hj a1=>by
   obtain⟨R,rfl,hR,O⟩:=a1;have ah:(over P n x)[j]∈over P n x:=List.getElem_mem hj;obtain⟨U,aa⟩:=Vm.1 ah;have ai:(over P n x)[j]∉(over P n x).take j:=by
    intro O;obtain⟨k,hk,e⟩:=List.getElem_of_mem O;rw[List.getElem_take] at e;rw[List.length_take] at hk
    have:=PT (z10z P n x) _ _ e
    omega
   have ab:c j (over P n x)[j]=cnt P (T++[x]) (over P n x)[j]+1:=by
    rw[hc_out _ _ ai]; exact Vl hx (E.nodup _) aa
   have am:cnt P T (over P n x)[j]<=4:=by have:=z1dp P T (over P n x)[j]; have:=E.four (over P n x)[j]; omega
   have h0:0<=cnt P (T++[x]) (over P n x)[j]:=by unfold cnt; omega
   have ao:cnt P T (over P n x)[j]=cnt P (T++[x]) (over P n x)[j]+1:=Vl hx (E.nodup _) aa;have a2:(over P n x)[j]∉Q++R:=by
    rw[O _ U,ab]; omega
   have hcy1:c (j+1) (over P n x)[j]=cnt P (T++[x]) (over P n x)[j]:=by
    refine hc_in _ _ ?_;rw[List.take_add_one,List.getElem?_eq_getElem hj];exact List.mem_append.2 (.inr (List.mem_singleton.2 rfl))
   have a6:∀ i,i≠(over P n x)[j]->c (j+1) i=c j i:=λi M=>by
    show (if _ then _ else _)=(if _ then _ else _)
    have:(i∈(over P n x).take (j+1))↔(i∈(over P n x).take j):=by
     rw[List.take_add_one,List.getElem?_eq_getElem hj,List.mem_append];exact⟨λh=>h.resolve_right λe=>M (List.mem_singleton.1 e),.inl⟩
    simp only[this]
   have ad:(tab n (c j)).set (over P n x)[j] (cnt P (T++[x]) (over P n x)[j])=tab n (c (j+1)):=GU U hcy1 λi _ M=>a6 i M;have ap:(over P n x).length<=n:=by
    have:=List.length_filter_le (λk=>decide (x∈P k)) (List.range n)
    unfold over; simpa using this
   have aj:=E.n60;have ak:=hR.len;have hF:IA (il (over P n x)) (tab n (c j),il (Q++R),(j:Int))=if cnt P (T++[x]) (over P n x)[j]==0 then some (.inr (tab n (c (j+1)),il (Q++R)++[((over P n x)[j]:Int)],((j+1:Nat):Int))) else some (.inr (tab n (c (j+1)),il (Q++R),((j+1:Nat):Int))):=by
    unfold IA;rw[if_pos (by rw[Fi]; simpa using hj)]
    simp only[];rw[Vf hj];simp only[bS];rw[DX U,ab];simp only[bS];rw[B1 (x:=_ - 1) (by omega) (by omega), show cnt P (T++[x]) (over P n x)[j]+1 - 1=cnt P (T++[x]) (over P n x)[j] by omega];simp only[bS,Int.toNat_natCast];rw[ad,DX U,hcy1];simp only[bS];rw[Bw (by rw[Fi]; simp only[List.length_cons,List.length_nil]; omega),AO (by omega)];simp only[bS]
   by_cases hz:cnt P (T++[x]) (over P n x)[j]=0
   ·rw[if_pos (by simpa using hz)] at hF;refine⟨_,hF,R++[(over P n x)[j]],?_,?_,?_⟩
    ·rw[<- List.append_assoc,PR (Q++R)]; rfl
    ·rw[<- List.append_assoc];refine⟨?_,?_,?_⟩
     ·rw[List.nodup_append]
      exact⟨hR.nodup, by simp, λa ha b hb e=>by
       rw[List.mem_singleton] at hb; subst hb; exact a2 (e ▸ ha)⟩
     ·intro y hy;rcases List.mem_append.1 hy with h | h
      ·exact hR.lt y h
      ·rw[List.mem_singleton] at h; subst h; exact U
     ·intro y hy;rcases List.mem_append.1 hy with h | h
      ·exact hR.wf y h
      ·rw[List.mem_singleton] at h; subst h; exact hcnt2 _ hz
    ·intro i hi;rw[<- List.append_assoc,List.mem_append,List.mem_singleton];by_cases M:i=(over P n x)[j]
     ·subst M;rw[hcy1];exact⟨λ_=>hz, λ_=>.inr rfl⟩
     ·rw[a6 i M,<- O i hi];exact⟨λh=>h.resolve_right M,.inl⟩
   ·rw[if_neg (by simpa using hz)] at hF;refine⟨_,hF,R,rfl,hR,?_⟩;intro i hi;by_cases M:i=(over P n x)[j]
    ·subst M;rw[hcy1];exact⟨λh=>absurd h a2, λh=>absurd h hz⟩
    ·rw[a6 i M,<- O i hi])
  (λst a1=>by
   obtain⟨R,rfl,hR,O⟩:=a1;refine⟨_,?_,R,rfl,hR,O⟩;unfold IA
   rw[if_neg (by rw[Fi]; simp)])
  (tab n (cnt P T),il Q,((0:Nat):Int)) 0 (Nat.zero_le _) ⟨[], by rw[List.append_nil]; rfl, by rw[List.append_nil]; exact hQ, by rw[List.append_nil]; exact hd⟩
 have a7:∀ i,i<n->c (over P n x).length i=cnt P (T++[x]) i:=λi hi=>by
  by_cases O:i∈over P n x
  ·exact hc_in _ _ (by rw[List.take_length]; exact O)
  ·rw[hc_out _ _ (by rw[List.take_length]; exact O)];exact z1a9 hx (E.nodup i) λh=>O (Vm.2 ⟨hi,h⟩)
 obtain⟨b,h1,R,h2,h3,h4⟩:=ac;refine⟨b,h1,R,?_,h3, λi hi=>?_⟩
 ·rw[h2,a8 R]
  congr 1
  exact J5 a7
 ·rw[h4 i hi,a7 i hi,a8 R]
theorem z1bu (E:PV P n) (s:List Int × List (List Int) × List Int) (hs:s.2.1=tab n λx=>il (over P n x)):∃ b:Int,iter (K5 s) (tab n (cnt P []),il ((List.range n).filter λk=>decide ((P k).length=0)),0)=some b/\∃ Q:List Nat,b=(Q.length:Int)/\Q.Nodup/\∀ i,i∈Q↔i<n/\Wf P i:=by
 have a2:=E.n60;refine G2 (F:=K5 s)
  (λst=>∃ (Q:List Nat) (pos:Nat),st=(tab n (cnt P (Q.take pos)),il Q,(pos:Int))/\pos<=Q.length/\Got P n Q/\∀ i,i<n->(i∈Q↔cnt P (Q.take pos) i=0))
  (λst=>n - st.2.2.toNat) _ ?_ _ ⟨(List.range n).filter λk=>decide ((P k).length=0),0, by rw[List.take_zero]; rfl,Nat.zero_le _,?_,?_⟩
 ·rintro st ⟨Q,pos,rfl,h1,h2,h3⟩
  have a6:=h2.len;by_cases M:pos<Q.length
  ·right
   obtain⟨b,e1,R,rfl,e3,e4⟩:=z1de E Q pos M h2 h3;have O:=h2.lt _ (List.getElem_mem M);refine⟨_,?_,⟨Q++R,pos+1,rfl, by rw[List.length_append]; omega,e3,e4⟩,?_⟩
   ·unfold K5;rw[if_pos (by rw[Fi]; simpa using M)]
    simp only[];rw[Vf M,hs];simp only[bS];rw[DX O];simp only[bS];rw[e1,AO (by omega)];simp only[bS]
   ·simp only[Int.toNat_natCast]; omega
  ·left
   have a1:pos=Q.length:=by omega
   subst a1;refine⟨(Q.length:Int),?_,Q,rfl,h2.nodup, λi=>⟨λh=>⟨h2.lt i h,h2.wf i h⟩, λh=>?_⟩⟩
   ·unfold K5;rw[if_neg (by rw[Fi]; simp)]
   ·obtain⟨hi,hw⟩:=h;rw[List.take_length] at h3
    revert hi
    induction hw with
    | mk i a7 ih =>
     intro hi;rw[h3 i hi,Vj];exact λp U=>ih p U (E.lt i p U)
 ·refine⟨List.Pairwise.filter _ List.nodup_range, λx O=>?_, λx O=>?_⟩
  ·simp only[List.mem_filter,List.mem_range] at O; exact O.1
  ·simp only[List.mem_filter,List.mem_range,decide_eq_true_eq] at O;refine .mk x λp M=>?_;rw[List.length_eq_zero_iff.1 O.2] at M; simp at M
 ·intro i hi;rw[List.take_zero,Vk];simp only[List.mem_filter,List.mem_range,decide_eq_true_eq];omega
end
section
variable {g:A4}
theorem FJ (h:Dx g=true) (i:Nat):∀ x∈opAt g i,x∈g.IDs:=by
 unfold opAt;by_cases hi:i<g.Ops.length
 ·rw[List.getElem?_eq_getElem hi];unfold Dx at h;rw[List.all_eq_true] at h
  have:=h _ (List.getElem_mem hi)
  rw[List.all_eq_true] at this;exact λx M=>by simpa using this x M
 ·rw[List.getElem?_eq_none (by omega)];exact λx M=>by simp at M
theorem PW (E:Cj g) (h:Dx g=true):PV (AS g) g.Ops.length:=by
 refine⟨E.len, λi=>?_, λi=>?_, λi p M=>?_⟩
 ·unfold AS;rw[List.Nodup,List.pairwise_map];exact(E.nodup i).imp_of_mem λ{a b} ha hb O e=>O (KY (FJ h i b hb) e)
 ·unfold AS; rw[List.length_map]; exact E.four i
 ·unfold AS at M;rw[List.mem_map] at M;obtain⟨x,U,rfl⟩:=M;rw[<- E.ids];exact List.idxOf_lt_length_of_mem (FJ h i x U)
def BU (g:A4) (i:Nat):ID:=match g.IDs[i]? with | some x=>x | none=>UV
theorem E0 {i:Nat} (h:i<g.IDs.length):BU g i=g.IDs[i]:=by unfold BU; rw[List.getElem?_eq_getElem h]
theorem GV {x:ID} (h:x∈g.IDs):BU g (g.IDs.idxOf x)=x:=by
 rw[E0 (List.idxOf_lt_length_of_mem h)]; simp
theorem HQ (E:Cj g) {i:Nat} (h:i<g.Ops.length):g.IDs.idxOf (BU g i)=i:=by
 have hi:i<g.IDs.length:=by rw[E.ids]; exact h
 rw[E0 hi]; exact Gf E.ri hi
theorem Vn (E:Cj g) {Q:List Nat} (hQ:∀ x∈Q,x<g.Ops.length) {x:ID} (O:x∈g.IDs):x∈Q.map (BU g)↔g.IDs.idxOf x∈Q:=by
 rw[List.mem_map]
 constructor
 ·rintro⟨q,M,rfl⟩; rw[HQ E (hQ q M)]; exact M
 ·exact λh=>⟨_,h,GV O⟩
theorem z10y (E:Cj g) (h:Dx g=true) {Q:List Nat} (hQ:∀ x∈Q,x<g.Ops.length) (i:Nat):((opAt g i).all λx=>decide (x∈Q.map (BU g)))=decide (∀ p∈AS g i,p∈Q):=by
 rw[Bool.eq_iff_iff,List.all_eq_true,decide_eq_true_iff];unfold AS
 constructor
 ·intro M p O;rw[List.mem_map] at O;obtain⟨x,U,rfl⟩:=O;exact(Vn E hQ (FJ h i x U)).1 (by simpa using M x U)
 ·intro O x M;rw[decide_eq_true_iff];exact(Vn E hQ (FJ h i x M)).2 (O _ (List.mem_map.2 ⟨x,M,rfl⟩))
def Topo (P:Nat->List Nat) (Q:List Nat):Prop:=∀ k (h:k<Q.length),∀ p∈P Q[k],p∈Q.take k
theorem Topo.snoc {P:Nat->List Nat} {Q:List Nat} {i:Nat} (h:Topo P Q) (hi:∀ p∈P i,p∈Q):Topo P (Q++[i]):=by
 intro k hk p M;by_cases O:k<Q.length
 ·rw[List.getElem_append_left O] at M;rw[List.take_append_of_le_length (by omega)];exact h k O p M
 ·have U:k=Q.length:=by simp at hk; omega
  subst U;rw[List.getElem_append_right (by omega)] at M;simp at M;rw[List.take_left' rfl];exact hi p M
def ET (g:A4) (Q:List Nat) (b:Bool):(List Int) × (List ID) × (List Bool) × Bool:=(il Q,Q.map (BU g),tab g.Ops.length (λi=>decide (i∈Q)),b)
theorem z1d7 (E:Cj g) (h:Dx g=true) (Q:List Nat) (hQ:Got (AS g) g.Ops.length Q) (hT:Topo (AS g) Q) :
  ∃ b:Sum (List Int) ((List Int) × (List ID) × (List Bool) × Bool),iter (Ht g (ET g Q true)) 0=some b /\
   ((∃ i,b=.inr (ET g (Q++[i]) true)/\Got (AS g) g.Ops.length (Q++[i])/\Topo (AS g) (Q++[i])/\i<g.Ops.length/\i∉Q/\(∀ p∈AS g i,p∈Q)/\∀ k,k<i->(∀ p∈AS g k,p∈Q)->k∈Q)\/(b=.inr (ET g Q false)/\∀ i,i<g.Ops.length->(∀ p∈AS g i,p∈Q)->i∈Q)):=by
 have aa:=E.len;have ab:=hQ.len;refine G2 (F:=Ht g (ET g Q true)) (λs=>∃ i:Nat,s=(i:Int)/\i<=g.Ops.length/\∀ k,k<i->(∀ p∈AS g k,p∈Q)->k∈Q) (λs=>g.Ops.length - s.toNat) _ ?_ _ ⟨0,rfl,Nat.zero_le _, λk hk=>by omega⟩
 rintro s ⟨i,rfl,h1,h2⟩
 by_cases hi:i<g.Ops.length
 ·have a1:(idx (tab g.Ops.length λi=>decide (i∈Q)) (i:Int)>>=λM=>if !M then idx g.Ops (i:Int)>>=λO=>FD (Q.map (BU g)) O.Preds>>=λU=>some U else some false)=some (!decide (i∈Q)&&decide (∀ p∈AS g i,p∈Q)):=by
   rw[DX hi];simp only[bS];by_cases hm:i∈Q
   ·rw[decide_eq_true hm]; rfl
   ·rw[decide_eq_false hm,if_pos (by simp),AE hi];simp only[bS];have h4:=(E.op i hi).1;rw[Ve _ _ (by rw[List.length_map]; omega) (by omega)];simp only[bS];rw[<- Dw hi,z10y E h hQ.lt]; rfl
  by_cases hm:i∈Q
  ·right
   refine⟨((i+1:Nat):Int),?_,⟨i+1,rfl,hi, λk hk hp=>?_⟩, by simp; omega⟩
   ·unfold Ht;rw[if_pos (by simpa using hi)];show ((idx (tab g.Ops.length λi=>decide (i∈Q)) (i:Int)>>=λM=>if !M then idx g.Ops (i:Int)>>=λO=>FD (Q.map (BU g)) O.Preds>>=λU=>some U else some false) >>= _)=_;rw[a1,decide_eq_true hm,AO (by omega)];rfl
   ·by_cases a2:k=i
    ·subst a2; exact hm
    ·exact h2 k (by omega) hp
  ·by_cases hp:∀ p∈AS g i,p∈Q
   ·left
    refine⟨_,?_,.inl ⟨i,rfl,?_,hT.snoc hp,hi,hm,hp,h2⟩⟩
    ·have a6:i<g.IDs.length:=by rw[E.ids]; exact hi
     unfold Ht;rw[if_pos (by simpa using hi)];show ((idx (tab g.Ops.length λi=>decide (i∈Q)) (i:Int)>>=λM=>if !M then idx g.Ops (i:Int)>>=λO=>FD (Q.map (BU g)) O.Preds>>=λU=>some U else some false) >>= _)=_;rw[a1,decide_eq_false hm,decide_eq_true hp];simp only[bS];rw[if_pos (by simp),AE a6];simp only[bS];rw[show (ET g Q true).1=il Q from rfl, show (ET g Q true).2.1=Q.map (BU g) from rfl, show (ET g Q true).2.2.1=tab g.Ops.length (λi=>decide (i∈Q)) from rfl]
     rw[Bw (by rw[Fi]; simp only[List.length_cons,List.length_nil]; omega)];simp only[bS];rw[Bw (by rw[List.length_map]; simp only[List.length_cons,List.length_nil]; omega),DX hi];simp only[bS,Int.toNat_natCast];rw[GU (g:=λj=>decide (j∈Q++[i])) hi (by simp) (λj _ hj=>by simp[hj])];unfold ET;rw[PR,List.map_append,<- E0 a6];rfl
    ·refine⟨?_,?_,?_⟩
     ·rw[List.nodup_append]
      exact⟨hQ.nodup, by simp, λa ha b hb e=>by
       rw[List.mem_singleton] at hb; subst hb; exact hm (e ▸ ha)⟩
     ·intro y hy;rcases List.mem_append.1 hy with h | h
      ·exact hQ.lt y h
      ·rw[List.mem_singleton] at h; subst h; exact hi
     ·intro y hy;rcases List.mem_append.1 hy with h | h
      ·exact hQ.wf y h
      ·rw[List.mem_singleton] at h; subst h; exact .mk _ λp a8=>hQ.wf p (hp p a8)
   ·right
    refine⟨((i+1:Nat):Int),?_,⟨i+1,rfl,hi, λk hk a7=>?_⟩, by simp; omega⟩
    ·unfold Ht;rw[if_pos (by simpa using hi)];show ((idx (tab g.Ops.length λi=>decide (i∈Q)) (i:Int)>>=λM=>if !M then idx g.Ops (i:Int)>>=λO=>FD (Q.map (BU g)) O.Preds>>=λU=>some U else some false) >>= _)=_;rw[a1,decide_eq_false hp,AO (by omega),Bool.and_false];rfl
    ·by_cases a2:k=i
     ·subst a2; exact absurd a7 hp
     ·exact h2 k (by omega) a7
 ·left
  have:i=g.Ops.length:=by omega
  subst this;refine⟨_,?_,.inr ⟨rfl,h2⟩⟩;unfold Ht;rw[if_neg (by simp)];rfl
theorem Vo (E:Cj g) (h:Dx g=true):∃ Q:List Nat,Ms g=some (il Q)/\Got (AS g) g.Ops.length Q/\Topo (AS g) Q/\∀ i,i∈Q↔i<g.Ops.length/\Wf (AS g) i:=by
 have hP:=PW E h;have a1:=E.len;have M:=G2 (F:=Mr g)
  (λs=>∃ Q b,s=ET g Q b/\Got (AS g) g.Ops.length Q/\Topo (AS g) Q/\(b=false->∀ i,i<g.Ops.length->(∀ p∈AS g i,p∈Q)->i∈Q))
  (λs=>(g.Ops.length - s.1.length)+(if s.2.2.2 then 1 else 0))
  (λr=>∃ Q:List Nat,r=il Q/\Got (AS g) g.Ops.length Q/\Topo (AS g) Q/\∀ i,i∈Q↔i<g.Ops.length/\Wf (AS g) i)
  (λs U=>by
   obtain⟨Q,b,rfl,h1,h2,h3⟩:=U;have a2:=h1.len
   cases b with
   | false =>
    left
    refine⟨il Q,rfl,Q,rfl,h1,h2, λi=>⟨λhi=>⟨h1.lt i hi,h1.wf i hi⟩, λhi=>?_⟩⟩;obtain⟨hi,hw⟩:=hi
    revert hi
    induction hw with
    | mk i a6 ih=>exact λhi=>h3 rfl i hi λp O=>ih p O (hP.lt i p O)
   | true =>
    right
    obtain⟨r,e1,e2⟩:=z1d7 E h Q h1 h2;rcases e2 with ⟨i,rfl,e3,e4,_⟩ | ⟨rfl,e3⟩
    ·refine⟨_,?_,⟨Q++[i],true,rfl,e3,e4, by simp⟩,?_⟩
     ·unfold Mr;exact(if_pos rfl).trans e1
     ·have:=e3.len
      simp only[ET,Fi,List.length_append,List.length_cons,List.length_nil] at this ⊢;omega
    ·refine⟨_,?_,⟨Q,false,rfl,h1,h2, λ_=>e3⟩,?_⟩
     ·unfold Mr;exact(if_pos rfl).trans e1
     ·simp[ET])
  ([],[],List.replicate g.Ops.length false,true) ⟨[],true, by unfold ET; rw[J6]; simp[il],⟨by simp, by simp, by simp⟩, λk hk=>by simp at hk, by simp⟩
 obtain⟨r,e1,Q,rfl,e2,e3,e4⟩:=M;refine⟨Q,?_,e2,e3,e4⟩;unfold Ms;rw[G4 (by omega) (by omega)];simp only[bS];rw[e1];simp only[bS]
theorem PX {n:Nat} {Q:List Nat} (O:Q.Nodup) (hl:∀ x∈Q,x<n):¬ Q.length<n↔∀ i,i<n->i∈Q:=by
 constructor
 ·intro h i hi;refine Decidable.byContradiction λU=>?_
  have:=Ed (i::Q) (List.range n) (List.nodup_cons.2 ⟨U,O⟩) λx M=>by
   rcases List.mem_cons.1 M with rfl | M
   ·simpa using hi
   ·simpa using hl x M
  simp at this; omega
 ·intro h
  have:=Ed (List.range n) Q List.nodup_range λx M=>h x (by simpa using M)
  simp at this; omega
def Vp (g:A4):Prop:=∀ i,i<g.Ops.length->Wf (AS g) i
theorem Vq (hl:g.Ops.length<=60) (hi:g.IDs.length=g.Ops.length) (ho:∀ i (h:i<g.Ops.length),(g.Ops[i]).Preds.length<=4/\Bf (g.Ops[i]).Preds=true) :
  ∃ c:Int,K6 g=some c/\Mt g=some c/\(c=0↔Bf g.IDs=true/\Dx g=true/\Vp g):=by
 have s0:=z168 g (by omega);unfold K6 Mt;rw[s0,TL _ (by omega)];simp only[bS];by_cases O:Bf g.IDs=true
 ·rw[if_pos O,O,if_neg (by simp),G4 (by omega) (by omega)];simp only[bS];rw[G4 (by omega) (by omega)];simp only[bS];have E:Cj g:=⟨hl,hi,O,ho⟩
  have h2:=Vh E g.Ops [] rfl;have h3:=Vi E g.Ops [] rfl;have i1:tab g.Ops.length (DZ g 0)=List.replicate g.Ops.length 0:=by
   rw[J6]; exact J5 λj _=>by unfold DZ; rw[if_neg (by omega)]
  have i2:tab g.Ops.length (λx=>il (DQ g 0 x))=List.replicate g.Ops.length []:=by
   rw[J6]; exact J5 λj _=>by unfold DQ; simp[il]
  have i3:il (ready g 0)=[]:=by unfold ready; simp[il]
  simp only[List.length_nil] at h2 h3;rw[i1,i2,i3] at h2;rw[show (0:Int)=((0:Nat):Int) from rfl] at *;rw[h2,h3]
  cases ha:g.Ops.all λo=>o.Preds.all λx=>decide (x∈g.IDs) with
  | false=>exact⟨40,rfl,rfl, by simp[Dx,ha]⟩
  | true =>
   have U:Dx g=true:=ha;obtain⟨Q,q1,q2,q3,q4⟩:=Vo E U;have hP:=PW E U;have i4:tab g.Ops.length (DZ g g.Ops.length)=tab g.Ops.length (cnt (AS g) []):=J5 λj hj=>by
    unfold DZ; rw[if_pos hj,Vk]
   obtain⟨b,k1,R,rfl,k2,k3⟩:=z1bu hP (tab g.Ops.length (DZ g g.Ops.length),tab g.Ops.length (λx=>il (DQ g g.Ops.length x)),il (ready g g.Ops.length)) rfl;have hRQ:R.length=Q.length:=PP k2 q2.nodup λx=>by rw[k3,q4]
   simp only[if_true,Df];rw[i4] at k1;rw[i4, show il (ready g g.Ops.length)=il ((List.range g.Ops.length).filter λk=>decide ((AS g k).length=0)) from rfl] at *;rw[show ((0:Nat):Int)=0 from rfl] at *;rw[k1,q1];simp only[bS];rw[Fi,hRQ];have M:=PX q2.nodup q2.lt;by_cases hc:Q.length<g.Ops.length
   ·rw[if_pos (by simpa using hc)];refine⟨36,rfl,rfl, by simp, λh=>?_⟩
    have:=M.2 λi hi=>(q4 i).2 ⟨hi,h.2.2 i hi⟩
    exact absurd hc this
   ·rw[if_neg (by simpa using hc)];exact⟨0,rfl,rfl, λ_=>⟨by first | exact O | trivial,U, λi hi=>((q4 i).1 (M.1 hc i hi)).2⟩, λ_=>rfl⟩
 ·have a1:Bf g.IDs=false:=by simpa using O
  rw[if_neg O,a1];exact⟨32,rfl,rfl, by simp[a1]⟩
def Vr (g:A4):Prop:=∀ i (h:i<g.Ops.length),Di g.Ops[i]=0/\sha (CS g.Ops[i])=BU g i
structure C2 (g:A4):Prop where
 e:Cj g
 ops:Vr g
 ins:Dx g=true
 wf:Vp g
theorem Gg {a:Ae} (h:Di a=0):Cd a=0:=by
 unfold Di at h;by_cases M:Cd a=0
 ·exact M
 ·rw[if_neg M] at h; exact h
theorem Vs {g:A4} (h:CN g) {o:Ae} (M:o∈g.Ops):inI o.Act.Value.Num/\o.Act.Value.Text.length<=9223372036854775807:=by
 have:=h.2.1.1 o M
 exact⟨this.2.2.2.1.2.2.1.2.1,this.2.2.2.1.2.2.1.2.2.2.1⟩
def Gh (g:A4) (i:Nat) (o:Ae):Bool:=decide (Di o=0)&&decide (sha (CS o)=BU g i)
theorem z15e (hw:CN g) (hl:g.Ops.length<=60) (hi:g.IDs.length=g.Ops.length):∀ (k i:Nat),g.Ops.length - i=k->i<=g.Ops.length ->
  ∃ r:Sum Int Unit,iter (K7 g) (i:Int)=some r/\iter (Kb g) (i:Int)=some r/\((r=.inr ()/\∀ j (h:j<g.Ops.length),i<=j->Gh g j g.Ops[j]=true)\/(r=.inl 8/\∃ j,∃ h:j<g.Ops.length,Gh g j g.Ops[j]=false)):=by
 intro k
 induction k with
 | zero =>
  intro i hk a1;refine⟨.inr (),AW ?_,AW ?_,.inl ⟨rfl, λj hj a2=>by omega⟩⟩
  ·unfold K7; rw[if_neg (by simp; omega)]
  ·unfold Kb; rw[if_neg (by simp; omega)]
 | succ k ih =>
  intro i hk a1;have M:i<g.Ops.length:=by omega
  have O:i<g.IDs.length:=by omega
  obtain⟨w1,w2⟩:=Vs hw (List.getElem_mem M);have e1:K7 g (i:Int)=if Gh g i g.Ops[i] then some (.inr ((i+1:Nat):Int)) else some (.inl (.inl 8)):=by
   unfold K7 Gh;rw[if_pos (by simpa using M),AE M];simp only[bS];rw[PJ _ w1 w2,AO (by omega)];simp only[bS];by_cases hc:Cd g.Ops[i]=0
   ·rw[if_pos hc];simp only[];rw[if_neg (by simp),AE O,<- E0 O];simp only[bS];by_cases U:sha (CS g.Ops[i])=BU g i
    ·rw[decide_eq_true U,if_neg (by simp),PK _ w1 w2];simp only[bS];by_cases hb:Di g.Ops[i]=0
     ·rw[hb]; rfl
     ·rw[if_pos (by simpa using hb),decide_eq_false hb]; rfl
    ·rw[decide_eq_false U,Bool.and_false]; rfl
   ·have hb:Di g.Ops[i]≠0:=λh=>hc (Gg h);rw[if_neg hc,decide_eq_false hb];simp only[];rw[if_pos (by simpa using hc)]; rfl
  have e2:Kb g (i:Int)=if Gh g i g.Ops[i] then some (.inr ((i+1:Nat):Int)) else some (.inl (.inl 8)):=by
   unfold Kb Gh;rw[if_pos (by simpa using M),AE M];simp only[bS];rw[zv4 _ w1 w2,AO (by omega)];simp only[bS];by_cases hb:Di g.Ops[i]=0
   ·rw[hb,if_neg (by simp),AE O,<- E0 O,z15a _ (Gg hb) w1];simp only[bS];by_cases U:sha (CS g.Ops[i])=BU g i
    ·rw[decide_eq_true U]; rfl
    ·rw[decide_eq_false U]; rfl
   ·rw[if_pos (by simpa using hb),decide_eq_false hb]; rfl
  cases hg:Gh g i g.Ops[i] with
  | false =>
   rw[hg] at e1 e2;exact⟨_,AW e1,AW e2,.inr ⟨rfl,i,M,hg⟩⟩
  | true =>
   rw[hg] at e1 e2;obtain⟨r,h1,h2,h3⟩:=ih (i+1) (by omega) (by omega);refine⟨r, by rw[B9 e1]; exact h1, by rw[B9 e2]; exact h2,?_⟩;rcases h3 with ⟨h3,h4⟩ | h3
   ·refine .inl ⟨h3, λj hj a2=>?_⟩;by_cases a6:j=i
    ·subst a6; exact hg
    ·exact h4 j hj (by omega)
   ·exact .inr h3
theorem Nx (hw:CN g):∃ c:Int,Cb g=some c/\IB g=some c/\(c=0↔C2 g):=by
 unfold Cb IB;by_cases hl:60<g.Ops.length
 ·have d:decide (60<(g.Ops.length:Int))=true:=by simp; omega
  rw[d];exact⟨4,rfl,rfl, by simp, λh=>by have:=h.e.len; omega⟩
 have d:decide (60<(g.Ops.length:Int))=false:=by simp; omega
 simp only[d,Bool.false_eq_true,if_false];by_cases hi:g.IDs.length=g.Ops.length
 ·have U:((g.IDs.length:Int) != (g.Ops.length:Int))=false:=by simp; omega
  simp only[U,Bool.false_eq_true,if_false];obtain⟨r,h1,h2,h3⟩:=z15e hw (by omega) hi g.Ops.length 0 rfl (by omega);rw[show (0:Int)=((0:Nat):Int) from rfl,h1,h2];rcases h3 with ⟨rfl,O⟩ | ⟨rfl,j,hj,O⟩
  ·have M:Vr g:=λi h=>by
    have:=O i h (by omega)
    unfold Gh at this
    simpa using this
   obtain⟨c,s1,s2,s3⟩:=Vq (g:=g) (by omega) hi λi h=>⟨(ED (Gg (M i h).1)).1,(ED (Gg (M i h).1)).2.1⟩;refine⟨c,?_,?_,s3.trans ⟨λ⟨a,b,d⟩=>⟨⟨by omega,hi,a, λi h=>⟨(ED (Gg (M i h).1)).1,(ED (Gg (M i h).1)).2.1⟩⟩,M,b,d⟩, λh=>⟨h.e.ri,h.ins,h.wf⟩⟩⟩
   ·simp only[Df]; rw[s1]; simp only[bS]
   ·simp only[Df]; rw[s2]; simp only[bS]
  ·refine⟨8,rfl,rfl, by simp, λh=>?_⟩
   have:=h.ops j hj
   unfold Gh at O;simp[this] at O
 ·have U:((g.IDs.length:Int) != (g.Ops.length:Int))=true:=by simp; omega
  rw[U];exact⟨8,rfl,rfl, by simp, λh=>absurd h.e.ids hi⟩
theorem Ny {κ β:Type} [DecidableEq κ] (k:κ) (v:β) (x:κ):∀ m:List (κ × β),C7 (Du m k v) x=if x=k then some v else C7 m x
 | []=>rfl
 | p::m=>by
  have O:=Ny k v x m;unfold Du;by_cases h:k=p.1
  ·rw[if_pos h];show (if x=p.1 then some v else C7 m x)=if x=k then some v else if x=p.1 then some p.2 else C7 m x
   rw[<- h];by_cases M:x=k
   ·rw[if_pos M,if_pos M]
   ·rw[if_neg M,if_neg M,if_neg M]
  ·rw[if_neg h];show (if x=p.1 then some p.2 else C7 (Du m k v) x)=if x=k then some v else if x=p.1 then some p.2 else C7 m x
   rw[O];by_cases M:x=p.1
   ·rw[if_pos M,if_pos M,if_neg (λe=>h (by rw[<- M,e]))]
   ·rw[if_neg M,if_neg M]
def Gi (g:A4) (m:List (ID × Int)):Prop:=∀ x∈g.IDs,(C7 m x).getD 0=(g.IDs.idxOf x:Int)
theorem PY (E:Cj g):∃ m,G8 g=some m/\Gi g m:=by
 have a1:=E.len;have a2:=E.ids;have U:=DV (F:=Hx g) g.IDs.length
  (λi s=>s.2=(i:Int)/\∀ x,x∈g.IDs->g.IDs.idxOf x<i->(C7 s.1 x).getD 0=(g.IDs.idxOf x:Int))
  (λm=>Gi g m)
  (λi s hi hs=>by
   obtain⟨m,i'⟩:=s;obtain⟨h1,h2⟩:=hs;simp only at h1 h2;subst h1;refine⟨(Du m g.IDs[i] (i:Int),((i+1:Nat):Int)),?_,rfl, λx M a6=>?_⟩
   ·unfold Hx;rw[if_pos (by simpa using hi)];simp only[];rw[AE hi,AO (by omega)];simp only[bS]
   ·simp only[];rw[Ny];by_cases O:x=g.IDs[i]
    ·rw[if_pos O,O,Gf E.ri hi]; rfl
    ·rw[if_neg O];refine h2 x M ?_;have a7:g.IDs.idxOf x≠i:=λe=>O (by subst e; simp)
     omega)
  (λs hs=>by
   obtain⟨m,i'⟩:=s;obtain⟨h1,h2⟩:=hs;simp only at h1 h2;subst h1;refine⟨m,?_, λx M=>h2 x M (List.idxOf_lt_length_of_mem M)⟩;unfold Hx
   rw[if_neg (by simp)])
  (([]:List (ID × Int)),0) 0 (Nat.zero_le _) ⟨rfl, λx M h=>by omega⟩
 obtain⟨m,h1,h2⟩:=U;refine⟨m,?_,h2⟩;unfold G8;rw[h1];simp only[bS]
inductive Rch (P:Nat->List Nat) (S:List Nat):Nat->Prop
 | base {i:Nat}:i∈S->Rch P S i
 | step {i p:Nat}:Rch P S i->p∈P i->Rch P S p
def unm (n:Nat) (m:Nat->Bool):List Nat:=(List.range n).filter λi=>!m i
theorem Vt (n:Nat) (m:Nat->Bool):(unm n m).Nodup:=List.Pairwise.filter _ List.nodup_range
theorem Nz {n:Nat} {m:Nat->Bool} {i:Nat}:i∈unm n m↔i<n/\m i=false:=by unfold unm; simp
theorem Vu {n:Nat} {m m':Nat->Bool} (h:∀ i,m i=true->m' i=true):(unm n m').length<=(unm n m).length :=
 Ed _ _ (Vt n m') λx M=>by
  rw[Nz] at *;refine⟨M.1,?_⟩
  cases O:m x with
  | false=>rfl
  | true=>have:=h x O; rw[M.2] at this; exact absurd this (by simp)
theorem z1d1 {n:Nat} {m m':Nat->Bool} (h:∀ i,m i=true->m' i=true) {y:Nat} (hy:y<n) (h1:m y=false) (h2:m' y=true):(unm n m').length<(unm n m).length:=by
 have O:y∈unm n m:=Nz.2 ⟨hy,h1⟩
 have:=Ed (unm n m') ((unm n m).erase y) (Vt n m') λx M=>by
  have U:x≠y:=λe=>by subst e; rw[Nz] at M; rw[h2] at M; exact absurd M.2 (by simp)
  rw[List.mem_erase_of_ne U];rw[Nz] at *;refine⟨M.1,?_⟩
  cases hm:m x with
  | false=>rfl
  | true=>have:=h x hm; rw[M.2] at this; exact absurd this (by simp)
 rw[List.length_erase_of_mem O] at this
 have:=List.length_pos_of_mem O
 omega
structure Grow (P:Nat->List Nat) (S:List Nat) (m m':Nat->Bool):Prop where
 sub:∀ i,m i=true->m' i=true
 src:∀ i∈S,m' i=true
 new:∀ i,m' i=true->m i=true\/Rch P S i
 clo:∀ i,m' i=true->m i=true\/∀ p∈P i,m' p=true
theorem Vv {i:Nat} {x:ID} (h:Dx g=true) (M:x∈opAt g i):x∈g.IDs/\g.IDs.idxOf x∈AS g i:=⟨FJ h i x M,List.mem_map.2 ⟨x,M,rfl⟩⟩
theorem Rch.mono {P:Nat->List Nat} {S T:List Nat} (h:∀ x∈S,x∈T) {i:Nat} (M:Rch P S i):Rch P T i:=by
 induction M with
 | base h1=>exact .base (h _ h1)
 | step _ h2 O=>exact .step O h2
theorem Rch.thru {P:Nat->List Nat} {S T:List Nat} (h:∀ x∈S,Rch P T x) {i:Nat} (M:Rch P S i):Rch P T i:=by
 induction M with
 | base h1=>exact h _ h1
 | step _ h2 O=>exact .step O h2
theorem Vx (E:Cj g) {σ:Type} (xs:List ID) (a2:∀ x∈xs,x∈g.IDs) (hl:xs.length<=100) (F:(List Bool × Int)->Option (Sum (List Bool) (List Bool × Int))) (V:ID->List Bool->Option (List Bool)) (U:Nat->Bool) (N:Nat)
  (hF:∀ m (i:Nat) (h:i<xs.length),F (m,(i:Int))=(V xs[i] m>>=λr=>some (.inr (r,((i+1:Nat):Int))))) (hF2:∀ m,F (m,(xs.length:Int))=some (.inl m))
  (hV:∀ m x,x∈xs->(∀ i,U i=true->m i=true)->∃ m',V x (tab g.Ops.length m)=some (tab g.Ops.length m')/\Grow (AS g) [g.IDs.idxOf x] m m') :
  ∃ m',iter F (tab g.Ops.length U,0)=some (tab g.Ops.length m')/\Grow (AS g) (xs.map λx=>g.IDs.idxOf x) U m':=by
 have a1:=DV (F:=F) xs.length
  (λi s=>∃ m,s=(tab g.Ops.length m,(i:Int))/\Grow (AS g) ((xs.take i).map λx=>g.IDs.idxOf x) U m)
  (λr=>∃ m',r=tab g.Ops.length m'/\Grow (AS g) (xs.map λx=>g.IDs.idxOf x) U m')
  (λi s hi hs=>by
   obtain⟨m,rfl,O⟩:=hs;obtain⟨m',e1,e2⟩:=hV m xs[i] (List.getElem_mem hi) O.sub;refine⟨_, by rw[hF _ i hi,e1,bS],m',rfl,?_⟩;have et:(xs.take (i+1)).map (λx=>g.IDs.idxOf x)=(xs.take i).map (λx=>g.IDs.idxOf x)++[g.IDs.idxOf xs[i]]:=by
    rw[List.take_add_one,List.getElem?_eq_getElem hi,List.map_append]; rfl
   rw[et];refine⟨λj M=>e2.sub j (O.sub j M), λj M=>?_, λj M=>?_, λj M=>?_⟩
   ·rcases List.mem_append.1 M with h | h
    ·exact e2.sub j (O.src j h)
    ·exact e2.src j h
   ·rcases e2.new j M with h | h
    ·rcases O.new j h with h | h
     ·exact .inl h
     ·exact .inr (h.mono λx hx=>List.mem_append.2 (.inl hx))
    ·exact .inr (h.mono λx hx=>List.mem_append.2 (.inr hx))
   ·rcases e2.clo j M with h | h
    ·rcases O.clo j h with h | h
     ·exact .inl h
     ·exact .inr λp hp=>e2.sub p (h p hp)
    ·exact .inr h)
  (λs hs=>by
   obtain⟨m,rfl,O⟩:=hs;refine⟨_,hF2 _,m,rfl,?_⟩
   rw[List.take_length] at O; exact O)
  (tab g.Ops.length U,((0:Nat):Int)) 0 (Nat.zero_le _) ⟨U,rfl, by simp, by simp, λj M=>.inl M, λj M=>.inl M⟩
 obtain⟨r,h1,m',rfl,h2⟩:=a1;exact⟨m',h1,h2⟩
theorem Vy (E:Cj g) (h:Dx g=true) {r:List (ID × Int)} (hr:Gi g r):∀ (N:Nat) (m:Nat->Bool) (x:ID),x∈g.IDs->(unm g.Ops.length m).length<N->∃ m',F9 N x r (tab g.Ops.length m) g=some (tab g.Ops.length m')/\Grow (AS g) [g.IDs.idxOf x] m m'
 | 0,_,_,_,hn=>by omega
 | N+1,m,x,hx,hn=>by
  have aa:=E.len;have U:g.IDs.idxOf x<g.Ops.length:=by rw[<- E.ids]; exact List.idxOf_lt_length_of_mem hx
  show ∃ m',MT (F9 N) x r (tab g.Ops.length m) g=_/\_;unfold MT;rw[hr x hx];simp only[bS];rw[DX U];simp only[bS]
  cases hm:m (g.IDs.idxOf x) with
  | true =>
   rw[if_pos rfl];exact⟨m,rfl, λi hi=>hi, λi hi=>by rw[List.mem_singleton] at hi; subst hi; exact hm, λi hi=>.inl hi, λi hi=>.inl hi⟩
  | false =>
   rw[if_neg (by simp),AE U];simp only[bS,Int.toNat_natCast]
   let m1:=λi=>if i=g.IDs.idxOf x then true else m i
   have a1:∀ i,m i=true->m1 i=true:=λi hi=>by
    show (if _ then _ else _)=true
    split
    ·rfl
    ·exact hi
   have h1x:m1 (g.IDs.idxOf x)=true:=if_pos rfl;have a2:(tab g.Ops.length m).set (g.IDs.idxOf x) true=tab g.Ops.length m1:=GU U h1x λj _ hj=>if_neg hj;rw[a2];have hu:=z1d1 a1 U hm h1x;have O:opAt g (g.IDs.idxOf x)=(g.Ops[g.IDs.idxOf x]).Preds:=Dw U;have h4:=E.four (g.IDs.idxOf x);rw[O] at h4;obtain⟨m',e1,e2⟩:=Vx (σ:=Unit) E (g.Ops[g.IDs.idxOf x]).Preds (λy hy=>(Vv h (by rw[O]; exact hy)).1) (by omega)
    (MS r g (F9 N) g.Ops[g.IDs.idxOf x]) (λy l=>F9 N y r l g) m1 N
    (λl i hi=>by
     unfold MS;rw[if_pos (by simpa using hi)];simp only[];rw[AE hi,AO (by omega)]
     simp only[bS])
    (λl=>by
     unfold MS
     rw[if_neg (by simp)])
    (λl y hy a6=>Vy E h hr N l y (Vv h (by rw[O]; exact hy)).1 (by have:=Vu (n:=g.Ops.length) a6; omega))
   refine⟨m',e1,?_⟩;have a7:((g.Ops[g.IDs.idxOf x]).Preds.map λx=>g.IDs.idxOf x)=AS g (g.IDs.idxOf x):=by unfold AS; rw[O]
   rw[a7] at e2;have a8:m' (g.IDs.idxOf x)=true:=e2.sub _ h1x;refine⟨λi hi=>e2.sub i (a1 i hi), λi hi=>by rw[List.mem_singleton] at hi; subst hi; exact a8, λi hi=>?_, λi hi=>?_⟩
   ·rcases e2.new i hi with h | h
    ·by_cases M:i=g.IDs.idxOf x
     ·exact .inr (.base (by rw[M]; simp))
     ·have:m1 i=m i:=if_neg M
      rw[this] at h; exact .inl h
    ·exact .inr (h.thru λy hy=>.step (.base (by simp)) hy)
   ·rcases e2.clo i hi with h | h
    ·by_cases M:i=g.IDs.idxOf x
     ·rw[M]; exact .inr λp hp=>e2.src p hp
     ·have:m1 i=m i:=if_neg M
      rw[this] at h; exact .inl h
    ·exact .inr h
theorem z167 (E:Cj g) (h:Dx g=true) (xs:List ID) (M:∀ x∈xs,x∈g.IDs) (hl:xs.length<=100):∃ m,MV g xs=some (tab g.Ops.length m)/\∀ i,m i=true↔Rch (AS g) (xs.map λx=>g.IDs.idxOf x) i:=by
 have a1:=E.len;obtain⟨r,e1,e2⟩:=PY E;have hu:(unm g.Ops.length λ_=>false).length<=60:=by
  have:=List.length_filter_le (λi=>!(false:Bool)) (List.range g.Ops.length)
  unfold unm; simp at this ⊢; omega
 obtain⟨m',e3,e4⟩:=Vx (σ:=Unit) E xs M hl (MU g xs r) (λy l=>F9 1000 y r l g) (λ_=>false) 1000
  (λl i hi=>by
   unfold MU;rw[if_pos (by simpa using hi)];simp only[];rw[AE hi,AO (by omega)]
   simp only[bS])
  (λl=>by
   unfold MU
   rw[if_neg (by simp)])
  (λl y U O=>Vy E h e2 1000 l y (M y U) (by have:=Vu (n:=g.Ops.length) O; omega))
 refine⟨m',?_, λi=>⟨λhi=>(e4.new i hi).resolve_left (by simp), λhi=>?_⟩⟩
 ·unfold MV;rw[e1];simp only[bS];rw[G4 (by have:=E.ids; omega) (by have:=E.ids; omega),E.ids,J6];simp only[bS];rw[e3];simp only[bS]
 ·induction hi with
  | base hs=>exact e4.src _ hs
  | step _ hp ih=>exact((e4.clo _ ih).resolve_left (by simp)) _ hp
def EU (g:A4) (m:Nat->Bool):List ID:=((List.range g.Ops.length).filter m).map (BU g)
theorem z11o (E:Cj g) (m:Nat->Bool):ML g (tab g.Ops.length m)=some (EU g m):=by
 have a1:=E.len;have hl:∀ i,i<=g.Ops.length->(((List.range i).filter m).map (BU g)).length<=60:=λi hi=>by
  have:=List.length_filter_le m (List.range i)
  simp at this ⊢; omega
 have:iter (Kr g (tab g.Ops.length m)) ([],0)=some (EU g m):=by
  have:=C1 (F:=Kr g (tab g.Ops.length m)) (b:=EU g m) g.Ops.length (λi=>(((List.range i).filter m).map (BU g),(i:Int))) (λi hi=>?_) ?_
  ·simpa using this
  ·have M:i<g.IDs.length:=by rw[E.ids]; exact hi
   have a2:=hl i (by omega);unfold Kr;rw[if_pos (by rw[HP]; simpa using hi)]
   simp only[];rw[DX hi,List.range_succ,List.filter_append,List.map_append,AO (by omega)];simp only[bS]
   cases O:m i with
   | true =>
    rw[if_pos rfl,AE M];simp only[bS];rw[Bw (by simp only[List.length_cons,List.length_nil]; omega),List.filter_cons_of_pos (by exact O),<- E0 M];simp only[bS]; rfl
   | false =>
    rw[if_neg (by simp),List.filter_cons_of_neg (by rw[O]; simp)]
    simp
  ·unfold Kr;rw[if_neg (by rw[HP]; simp)]; rfl
 unfold ML;rw[this];simp only[bS]
theorem KZ (E:Cj g) {m:Nat->Bool} {x:ID}:x∈EU g m↔x∈g.IDs/\m (g.IDs.idxOf x)=true:=by
 unfold EU;rw[List.mem_map]
 constructor
 ·rintro⟨i,hi,rfl⟩
  rw[List.mem_filter,List.mem_range] at hi;have M:i<g.IDs.length:=by rw[E.ids]; exact hi.1
  refine⟨by rw[E0 M]; exact List.getElem_mem _,?_⟩;rw[HQ E hi.1]; exact hi.2
 ·rintro⟨h1,h2⟩
  refine⟨_,?_,GV h1⟩;rw[List.mem_filter,List.mem_range,<- E.ids];exact⟨List.idxOf_lt_length_of_mem h1,h2⟩
theorem PZ (E:Cj g) (m:Nat->Bool):Bf (EU g m)=true:=by
 rw[F7];unfold EU;rw[List.pairwise_map]
 have:(List.range g.Ops.length).Pairwise λa b=>a<g.Ops.length/\b<g.Ops.length/\a<b:=by
  rw[List.pairwise_iff_getElem];intro i j hi U a1;simp at hi U ⊢;omega
 refine(this.filter m).imp λ{a b} M=>?_;have O:a<g.IDs.length:=by rw[E.ids]; exact M.1
 have hb:b<g.IDs.length:=by rw[E.ids]; exact M.2.1
 rw[E0 O,E0 hb];exact J3 E.ri O hb M.2.2
theorem Vz:∀ (l m:List ID),l.Pairwise (λa b=>kd a<kd b)->m.Pairwise (λa b=>kd a<kd b)->(∀ x,x∈l↔x∈m)->l=m
 | [],m,_,_,h=>by
  cases m with
  | nil=>rfl
  | cons b m=>have:=(h b).2 (by simp); simp at this
 | a::l,[],_,_,h=>by have:=(h a).1 (by simp); simp at this
 | a::l,b::m,h1,h2,h=>by
  obtain⟨O,p2⟩:=List.pairwise_cons.1 h1;obtain⟨U,q2⟩:=List.pairwise_cons.1 h2;have a1:a=b:=by
   have ha:=(h a).1 (by simp);have hb:=(h b).2 (by simp);rcases List.mem_cons.1 ha with e | a2
   ·exact e
   ·rcases List.mem_cons.1 hb with e | a6
    ·exact e.symm
    ·have:=U a a2; have:=O b a6; omega
  subst a1
  congr 1
  refine Vz l m p2 q2 λx=>⟨λM=>?_, λM=>?_⟩
  ·rcases List.mem_cons.1 ((h x).1 (by simp[M])) with e | h'
   ·subst e; have:=O x M; omega
   ·exact h'
  ·rcases List.mem_cons.1 ((h x).2 (by simp[M])) with e | h'
   ·subst e; have:=U x M; omega
   ·exact h'
theorem GW (G:C2 g) {x:ID} (h:x∈g.IDs):g.IDs.idxOf x<g.Ops.length:=by rw[<- G.e.ids]; exact List.idxOf_lt_length_of_mem h
theorem Q4 {s:List ID} (M:Bf s=true) (h:∀ y∈s,y∈g.IDs):s.length<=g.IDs.length:=Ed _ _ (Ge M) h
def top (g:A4) (i x:Nat):Bool:=(List.range i).all λk=>!decide (x∈AS g k)
theorem z16b (i x:Nat):top g (i+1) x=(top g i x&&!decide (x∈AS g i)):=by
 unfold top; rw[List.range_succ,List.all_append]; simp
theorem z164 (E:Cj g) (h:Dx g=true) {r:List (ID × Int)} (hr:Gi g r) {i:Nat} (hi:i<g.Ops.length) (m:Nat->Bool):iter (Kt r g.Ops[i]) (tab g.Ops.length m,0)=some (tab g.Ops.length λx=>m x&&!decide (x∈AS g i)):=by
 have a7:=E.len;have h4:=(E.op i hi).1;have a2:(AS g i).length=g.Ops[i].Preds.length:=by unfold AS; rw[Dw hi]; simp
 have:=C1 (F:=Kt r g.Ops[i]) (b:=tab g.Ops.length λx=>m x&&!decide (x∈AS g i)) g.Ops[i].Preds.length (λj=>(tab g.Ops.length (λx=>m x&&!decide (x∈(AS g i).take j)),(j:Int))) (λj U=>?_) ?_
 ·simpa using this
 ·have M:g.Ops[i].Preds[j]∈g.IDs:=FJ h i _ (by rw[Dw hi]; exact List.getElem_mem U);have hk:g.IDs.idxOf g.Ops[i].Preds[j]<g.Ops.length:=by rw[<- E.ids]; exact List.idxOf_lt_length_of_mem M
  have O:(AS g i)[j]'(by omega)=g.IDs.idxOf g.Ops[i].Preds[j]:=by
   unfold AS;simp only[Dw hi,List.getElem_map]
  unfold Kt;rw[if_pos (by simpa using U)];simp only[];rw[AE U];simp only[bS];rw[hr _ M,DX hk];simp only[bS,Int.toNat_natCast];rw[AO (by omega)];have a1:(tab g.Ops.length (λx=>m x&&!decide (x∈(AS g i).take j))).set (g.IDs.idxOf g.Ops[i].Preds[j]) false=tab g.Ops.length (λx=>m x&&!decide (x∈(AS g i).take (j+1))):=by
   refine GU hk ?_ λx hx a6=>?_
   ·have:g.IDs.idxOf g.Ops[i].Preds[j]∈(AS g i).take (j+1):=by
     rw[List.take_add_one,List.getElem?_eq_getElem (by omega),O];exact List.mem_append.2 (.inr (List.mem_singleton.2 rfl))
    rw[decide_eq_true this]; simp
   ·have:(x∈(AS g i).take (j+1))↔(x∈(AS g i).take j):=by
     rw[List.take_add_one,List.getElem?_eq_getElem (by omega),O,List.mem_append];exact⟨λh=>h.resolve_right λe=>a6 (List.mem_singleton.1 e),.inl⟩
    simp only[this]
  rw[a1]
 ·unfold Kt;rw[if_neg (by simp),<- a2,List.take_length]
theorem z11c (E:Cj g) (h:Dx g=true) {r:List (ID × Int)} (M:Gi g r):iter (Ku g r) (tab g.Ops.length (λ_=>true),0)=some (tab g.Ops.length (top g g.Ops.length)):=by
 have a1:=E.len
 have:=C1 (F:=Ku g r) (b:=tab g.Ops.length (top g g.Ops.length)) g.Ops.length (λi=>(tab g.Ops.length (top g i),(i:Int))) (λi hi=>?_) ?_
 ·have e0:top g 0=λ_=>true:=by funext x; unfold top; simp
  rw[e0] at this; exact this
 ·unfold Ku;rw[if_pos (by simpa using hi)];simp only[];rw[AE hi];simp only[bS];rw[z164 E h M hi,AO (by omega)];simp only[bS]
  have:(λx=>top g i x&&!decide (x∈AS g i))=top g (i+1):=by funext x; rw[z16b]
  rw[this]
 ·unfold Ku;rw[if_neg (by simp)]
theorem z1ew (n:Nat) (h:n<=1000):iter (Ks (List.replicate n false)) (List.replicate n false,0)=some (tab n λ_=>true):=by
 have:=C1 (F:=Ks (List.replicate n false)) (b:=tab n λ_=>true) n (λi=>(tab n (λx=>decide (x<i)),(i:Int))) (λi hi=>?_) ?_
 ·have e0:tab n (λx=>decide (x<0))=List.replicate n false:=by
   rw[J6]; exact J5 λj _=>by simp
  rw[e0] at this; exact this
 ·unfold Ks;rw[if_pos (by simpa using hi)];simp only[];rw[DX hi,AO (by omega)];simp only[bS,Int.toNat_natCast]
  rw[GU (g:=λx=>decide (x<i+1)) hi (by simp) (λj _ M=>by
   rw[decide_eq_decide]; omega)]
 ·unfold Ks;rw[if_neg (by simp)];simp only[];rw[J5 (f:=λx=>decide (x<n)) (g:=λ_=>true) λj M=>by simpa using M]
end
section
variable {P:Nat->List Nat} {n:Nat}
def GY (P:Nat->List Nat) (Q:List Nat) (i:Nat):Bool:=!decide (i∈Q)&&decide (∀ p∈P i,p∈Q)
theorem VA {Q:List Nat} {i:Nat}:GY P Q i=true↔i∉Q/\∀ p∈P i,p∈Q:=by
 unfold GY; rw[Bool.and_eq_true,Bool.not_eq_true',decide_eq_false_iff_not,decide_eq_true_iff]
structure Q5 (P:Nat->List Nat) (n:Nat) (Q:List Nat) (i:Nat):Prop where
 lt:i<n
 can:GY P Q i=true
 least:∀ j,j<i->GY P Q j=false
inductive GZ (P:Nat->List Nat) (n:Nat):List Nat->Prop
 | nil:GZ P n []
 | snoc {Q:List Nat} {i:Nat}:GZ P n Q->Q5 P n Q i->GZ P n (Q++[i])
theorem GZ.got {Q:List Nat} (h:GZ P n Q):Got P n Q/\Topo P Q:=by
 induction h with
 | nil=>exact⟨⟨by simp, by simp, by simp⟩, λk U=>by simp at U⟩
 | @snoc Q i _ hi M =>
  obtain⟨h1,h2⟩:=VA.1 hi.can;refine⟨⟨?_, λx O=>?_, λx O=>?_⟩,M.2.snoc h2⟩
  ·rw[List.nodup_append];exact⟨M.1.nodup, by simp, λa ha b hb e=>by rw[List.mem_singleton] at hb; subst hb; exact h1 (e ▸ ha)⟩
  ·rcases List.mem_append.1 O with h | h
   ·exact M.1.lt x h
   ·rw[List.mem_singleton] at h; subst h; exact hi.lt
  ·rcases List.mem_append.1 O with h | h
   ·exact M.1.wf x h
   ·rw[List.mem_singleton] at h; subst h; exact .mk _ λp hp=>M.1.wf p (h2 p hp)
theorem VB (f:Nat->Bool):∀ (m i:Nat),i<=m->f i=true->∃ j,j<=m/\f j=true/\∀ k,k<j->f k=false
 | 0,i,h,M=>⟨0,Nat.le_refl _, by rw[show i=0 by omega] at M; exact M, λk hk=>by omega⟩
 | m+1,i,h,M=>by
  by_cases O:∃ i,i<=m/\f i=true
  ·obtain⟨i,h1,h2⟩:=O;obtain⟨j,j1,j2,j3⟩:=VB f m i h1 h2;exact⟨j, by omega,j2,j3⟩
  ·refine⟨i,h,M, λk hk=>?_⟩
   cases U:f k with
   | false=>rfl
   | true=>exact absurd ⟨k, by omega,U⟩ O
theorem z1a1 (O:∀ i,i<n->Wf P i) (a1:∀ i,∀ p∈P i,p<n) {Q:List Nat} (hQ:Got P n Q) (hl:Q.length<n):∃ i,Q5 P n Q i:=by
 have h1:¬ ∀ i,i<n->i∈Q:=λh=>(PX hQ.nodup hQ.lt).2 h hl;have key:∀ i,Wf P i->i<n->i∉Q->∃ j,j<n/\GY P Q j=true:=by
  intro i hi
  induction hi with
  | mk i U ih =>
   intro hi hn;by_cases h:∀ p∈P i,p∈Q
   ·exact⟨i,hi,VA.2 ⟨hn,h⟩⟩
   ·refine Classical.byContradiction λM=>h λp U=>?_;refine Decidable.byContradiction λa2=>M (ih p U (a1 i p U) a2)
 have h2:∃ i,i<n/\i∉Q:=Classical.byContradiction λM=>h1 λi hi=>Decidable.byContradiction λh=>M ⟨i,hi,h⟩;obtain⟨i,hi,hiQ⟩:=h2;obtain⟨j,hj,M⟩:=key i (O i hi) hi hiQ;obtain⟨k,k1,k2,k3⟩:=VB (GY P Q) j j (Nat.le_refl _) M;exact⟨k, by omega,k2,k3⟩
end
section
variable {g:A4}
theorem VC {r:List (ID × Int)} (hr:Gi g r) (E:Cj g) (f:Nat->Bool) (ps:List ID) (O:∀ x∈ps,x∈g.IDs) (hl:ps.length<=1000):∀ (rest pre:List ID),ps=pre++rest ->
  ∃ b:Sum Int Unit,iter (Kv ps (tab g.Ops.length f) r) (pre.length:Int)=some b/\((b=.inr ()/\(rest.all λx=>f (g.IDs.idxOf x))=true)\/∃ i:Nat,b=.inl (i:Int)/\(rest.all λx=>f (g.IDs.idxOf x))=false)
 | [],pre,e=>by
  refine⟨.inr (),AW ?_,.inl ⟨rfl,rfl⟩⟩;unfold Kv;rw[if_neg (by rw[e]; simp)]
 | c::rest,pre,e=>by
  have M:pre.length<ps.length:=by rw[e]; simp
  have U:ps[pre.length]'M=c:=by simp[e]
  have hc:c∈g.IDs:=O c (by rw[e]; simp)
  have hk:g.IDs.idxOf c<g.Ops.length:=by rw[<- E.ids]; exact List.idxOf_lt_length_of_mem hc
  have hF:Kv ps (tab g.Ops.length f) r (pre.length:Int)=if f (g.IDs.idxOf c) then some (.inr ((pre.length+1:Nat):Int)) else some (.inl (.inl (pre.length:Int))):=by
   unfold Kv P8;rw[if_pos (by simpa using M),AE M,U,AO (by omega)];simp only[bS];rw[hr c hc,DX hk];simp only[bS]
   cases f (g.IDs.idxOf c) <;> rfl
  rw[List.all_cons]
  cases hf:f (g.IDs.idxOf c) with
  | false=>rw[hf] at hF; exact⟨_,AW hF,.inr ⟨_,rfl,rfl⟩⟩
  | true =>
   rw[hf] at hF;rw[B9 hF];obtain⟨b,h1,h2⟩:=VC hr E f ps O hl rest (pre++[c]) (by simp[e]);simp only[List.length_append,List.length_cons,List.length_nil,Nat.zero_add] at h1;exact⟨b,h1, by rw[Bool.true_and]; exact h2⟩
theorem zwn {r:List (ID × Int)} (O:Gi g r) (E:Cj g) (f:Nat->Bool) (ps:List ID) (M:∀ x∈ps,x∈g.IDs) (hl:ps.length<=1000):MM ps (tab g.Ops.length f) r=some (!(ps.all λx=>f (g.IDs.idxOf x))):=by
 obtain⟨b,h1,h2⟩:=VC O E f ps M hl ps [] rfl;unfold MM P9;rw[show (0:Int)=(([]:List ID).length:Int) from rfl,h1];rcases h2 with ⟨rfl,h2⟩ | ⟨i,rfl,h2⟩
 ·rw[h2]; rfl
 ·rw[h2];simp only[or_l,bS];rw[decide_eq_true (by simp)]; rfl
theorem VD {r:List (ID × Int)} (hr:Gi g r) (E:Cj g) (h:Dx g=true) (Q:List Nat) {i:Nat} (hi:i<g.Ops.length):MN (i:Int) (tab g.Ops.length λj=>decide (j∈Q)) g r=some (GY (AS g) Q i):=by
 have h4:=(E.op i hi).1;unfold MN;rw[DX hi,AE hi];simp only[bS];rw[zwn hr E _ _ (by rw[<- Dw hi]; exact FJ h i) (by omega)];simp only[bS,Bool.not_not]
 have:((g.Ops[i]).Preds.all λx=>decide (g.IDs.idxOf x∈Q))=decide (∀ p∈AS g i,p∈Q):=by
  rw[Bool.eq_iff_iff,List.all_eq_true,decide_eq_true_iff];unfold AS;rw[Dw hi]
  constructor
  ·intro O p M;rw[List.mem_map] at M;obtain⟨x,U,rfl⟩:=M
   simpa using O x U
  ·intro M x O;rw[decide_eq_true_iff];exact M _ (List.mem_map.2 ⟨x,O,rfl⟩)
 rw[this];unfold GY
 cases decide (i∈Q) <;> rfl
theorem z1af {r:List (ID × Int)} (M:Gi g r) (E:Cj g) (h:Dx g=true) (Q:List Nat) (s:(List Bool) × (List ID) × Int) (O:s.1=tab g.Ops.length λj=>decide (j∈Q)) {i:Nat} (hi:Q5 (AS g) g.Ops.length Q i):iter (Kw g r s) 0=some (i:Int):=by
 have a1:=E.len;have a2:=hi.lt
 have:=C1 (F:=Kw g r s) (b:=(i:Int)) i (λk=>(k:Int)) (λk U=>?_) ?_
 ·exact this
 ·unfold Kw;rw[O,VD M E h Q (by omega),hi.least k U,AO (by omega)];rfl
 ·unfold Kw;rw[O,VD M E h Q hi.lt,hi.can];rfl
theorem VF (G:C2 g) (h:Cb g=some 0):∃ Q,MP g=some (Q.map (BU g),0)/\GZ (AS g) g.Ops.length Q/\Q.length=g.Ops.length:=by
 have E:=G.e;have a2:=E.len;have U:=E.ids;have hP:=PW E G.ins;obtain⟨r,r1,hr⟩:=PY E;have a1:=DV (F:=MO g r) g.Ops.length
  (λk s=>∃ Q,s=(tab g.Ops.length (λj=>decide (j∈Q)),Q.map (BU g),(k:Int))/\GZ (AS g) g.Ops.length Q/\Q.length=k)
  (λb=>∃ Q,b=Q.map (BU g)/\GZ (AS g) g.Ops.length Q/\Q.length=g.Ops.length)
  (λk s hk hs=>by
   obtain⟨Q,rfl,h1,h2⟩:=hs;obtain⟨i,hi⟩:=z1a1 G.wf hP.lt h1.got.1 (by omega);have M:=hi.lt;have O:i<g.IDs.length:=by omega
   refine⟨(tab g.Ops.length (λj=>decide (j∈Q++[i])),(Q++[i]).map (BU g),((k+1:Nat):Int)),?_,Q++[i],rfl,.snoc h1 hi, by simp[h2]⟩;unfold MO;rw[if_pos (by simp; omega),z1af hr E G.ins Q _ rfl hi];simp only[bS];rw[DX M,AE O];simp only[bS,Int.toNat_natCast];rw[Bw (by rw[List.length_map]; simp only[List.length_cons,List.length_nil]; omega),AO (by omega),GU (g:=λj=>decide (j∈Q++[i])) M (by simp) (λj _ hj=>by simp[hj]),List.map_append,<- E0 O]
   simp only[bS]
   rfl)
  (λs hs=>by
   obtain⟨Q,rfl,h1,h2⟩:=hs;refine⟨_,?_,Q,rfl,h1,h2⟩;unfold MO
   rw[if_neg (by simp; omega)])
  (List.replicate g.Ops.length false,[],((0:Nat):Int)) 0 (Nat.zero_le _) ⟨[], by rw[J6]; simp,.nil,rfl⟩
 obtain⟨b,b1,Q,rfl,b2,b3⟩:=a1;refine⟨Q,?_,b2,b3⟩;unfold MP;rw[h,r1];simp only[bS];rw[if_neg (by simp),G4 (by omega) (by omega),U];simp only[bS];rw[show (0:Int)=((0:Nat):Int) from rfl,b1];rfl
end
end Go.Proofs.YtgomhacoacmbcaaGreatDoor
