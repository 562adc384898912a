import Derived.Test.YtdeegahcaekfaaaGreatDoorVd
set_option linter.unusedSimpArgs false
set_option linter.unusedVariables false
namespace Go.Proofs.YtdeegahcaekfaaaGreatDoor
set_option maxRecDepth 100000
set_option maxHeartbeats 4000000
open Go Go.RowKit _root_.Go.Proofs.Tryz
section
theorem zle (a0:List Ab):Ah Tryz.prog 66 [.rd (A8 AA) a0] [] (Nu a0) (λr nv=>⟨[.rd A3 r],[]⟩):=by
 refine Am 46 func66 Z Z Z λH w=>?_;refine A2<|Zb Z<|A6<|A2<|Zm Z<|Zq (Aq Z .rd Z tu31)<|Zq (I.gtr Z Z)<|Zj Z (λh1=>?_) (λh1=>?_)
 ·refine A2<|Zb Z<|A5<|An<|Ze [] [] Z
 ·refine Zt<|BM (λ(s2:Unit) O U=>Sta (ctx 46 H [] w) [(0,.rd (A8 AA) a0)] [] O U) ?_ (λs2=>?_)
  ·refine A2<|Zb Z<|AJ (λ(s3:Int) O U=>Sta (ctx 46 H [] w) [(0,.rd (A8 AA) a0),(3,.rd A3 s3)] [] O U) (λO U h=>Zu h []) (λs3=>?_);refine A6<|A2<|Zm Z<|Zm Z<|Zq (Aq Z .rd Z tu31)<|Zq (I.lss Z Z)<|Zj Z (λh4=>?_) (λh4=>?_)
   ·refine Zt<|A6<|AB<|A2<|Zm Z<|Zm Z<|Al λx5 h6=>Zq (ixR Z Z h6 tu31 Ba Z)<|Zq (ldR Z C4)<|Zc [] [] func108 Z (Pm _) λr7 n8=>Zb Z<|A2<|Zm Z<|Zq (I.neq Z Z)<|Zj Z (λh9=>?_) (λh9=>?_)
    ·refine A2<|Zm Z<|Zb Z<|A5<|Bh<|An<|BE<|Bk<|Ze [] [] Z
    ·refine AW<|Ap<|Af<|Ai<|Zm Z<|Zq (I.add Z Z)<|Za Z<|Ae<|Au (λO U h=>Zu h [])
   ·refine AC<|AD<|AG<|BA (λO U h=>Zu h [])
  ·refine A2<|Zm Z<|Zc [] [(100,1)] func119 Z (PP _) λac ad=>Zb Z<|BM (λ(a2:Unit) O U=>Sta (ctx 46 H [] w) [(0,.rd (A8 AA) a0)] [] O U) ?_ (λa2=>?_)
   ·refine A2<|Zb Z<|gFrz 1 [25,5] Z (fS Z<|fS Z<|fN)<|AJ (λ(a1:(List V3) × Int) O U=>Sta (ctx 46 H [] w) [(0,.rd (A8 AA) a0),(5,.rd (A8 aZ) a1.1),(6,.rd A3 a1.2)] [] O U) (λO U h=>Zu h []) (λa1=>?_);refine A6<|A2<|Zm Z<|Zm Z<|Zq (Aq Z .rd Z tu28)<|Zq (I.lss Z Z)<|Zj Z (λa6=>?_) (λa6=>?_)
    ·refine Zt<|A6<|AB<|A2<|Zm Z<|Zm Z<|Zm Z<|Al λae a7=>Zq (ixR Z Z a7 tu28 Ak Z)<|Zq (ldR Z Aw)<|Zc [] [] func35 Z (Hk _ _) λaf ah=>Zm Z<|Zq (I.lss Z Z)<|Zj Z (λa8=>?_) (λa8=>?_)
     ·refine A2<|Zb Z<|A5<|Bh<|An<|BE<|Bk<|Ze [] [] Z
     ·refine AW<|Ap<|Af<|Ai<|Zm Z<|Zq (I.add Z Z)<|Za Z<|AI 6 Z λai=>Ae<|Au (λO U h=>Zu h [])
    ·refine AC<|AD<|AG<|BA (λO U h=>Zu h [])
   ·refine A6<|A2<|Zm Z<|Zc [] [(100,2)] func120 Z (Un _) λaj ak=>Zq (Aq Z (.own 2 Z) Z tu156)<|Zm Z<|Zq (Aq Z .rd Z tu31)<|Zq (I.lss Z Z)<|Zj Z (λab=>?_) (λab=>?_)
    ·refine A2<|Zb Z<|A5<|An<|Ze [] [] Z
    ·refine Zt<|A2<|Zb Z<|A5<|Ze [] [] Z
def Nv (a0:Ab):Option (Ab) :=
 app 32 ([]:List V3) a0.Preds>>=λO =>
 some (⟨a0.Author,O,a0.Stamp,a0.Act,a0.Sig⟩:Ab)
theorem zm7 (a0:Ab):Ah Tryz.prog 121 [.rd AA a0] [] (Nv a0) (λr nv=>⟨[.rd AA r],[]⟩):=by
 refine Am 9 func121 Z Z Z λH w=>?_;refine A2<|Eb Z (bx 1 Z) λv1=>Eb Z (AN 2 Ba (ZrE.rd (R:=A9) (x:=0) (Zr.num Z) (ZrE.nilS (ZrE.rd (R:=Ar) (x:=0) (Zr.num Z) (ZrE.rd (R:=Bw) (x:=(⟨0,[],(⟨0,0,0,[]⟩:Ay)⟩:AX)) DB (ZrE.rd (R:=BJ) (x:=(⟨0,0⟩:AQ)) E9 ZrE.nil Z) Z) Z)) Z)) λv2=>Zn<|A2<|Ef Z (lit (R:=aZ) (([]:List V3):List V3) 3 (pN) Z tu28 Ak Z Z) λv3=>Zq (faB 1 Z Z underlying60 Z (by exact AU))<|Zq (ld 1 Z Z (fP (Co _)) B0 Z)<|Al λO U=>Ef Z (apn 3 Z Z Z .rd U tu28 Ak Z Z Z) λv6=>Zq (faB 1 Z Z underlying60 Z (by exact AU))<|lSpl (R:=AA) 1 Z (Sp.via (Sp.prod (Sp.prod (Sp.prod (Sp.prod (Sp.prod Sp.unit))))))<|Es (DI 1 Z Z (By.cast (By.next Bj (By.here Bj)) Z) Z Cx BG AU)<|Zn<|A2<|lPow [.rd A9 a0.Author,.rd (A8 aZ) O,.rd Ar a0.Stamp,.rd Bw a0.Act,.rd BJ a0.Sig] 1 3 [.rd A9 a0.Author] [.rd Ar a0.Stamp,.rd Bw a0.Act,.rd BJ a0.Sig] Z Z Z Z Z<|Cm (R:=AA) (⟨a0.Author,O,a0.Stamp,a0.Act,a0.Sig⟩:Ab) 1 Z (Sp.via (Sp.prod (Sp.prod (Sp.prod (Sp.prod (Sp.prod Sp.unit))))))<|Zq (ld 1 Z Z fH C4 Z)<|Cy aZ [.rd A9 0,.rd (A8 aZ) [],.rd Ar 0,.rd Bw (⟨0,[],(⟨0,0,0,[]⟩:Ay)⟩:AX),.rd BJ (⟨0,0⟩:AQ)] 2 [.rd A9 0] [.rd Ar 0,.rd Bw (⟨0,[],(⟨0,0,0,[]⟩:Ay)⟩:AX),.rd BJ (⟨0,0⟩:AQ)] Z Z Z<|Cm (R:=AA) (⟨0,[],0,(⟨0,[],(⟨0,0,0,[]⟩:Ay)⟩:AX),(⟨0,0⟩:AQ)⟩:Ab) 2 Z (Sp.via (Sp.prod (Sp.prod (Sp.prod (Sp.prod (Sp.prod Sp.unit))))))<|Es (sto 2 Z Z fH Z Ba)<|Zn<|A5<|BF [] [] Z (eC 2 Z Z C4<|eN) (rN)
def Nw (a0:List Ab) (U:(List Int)) (O:(List Ab) × Int):Option (Sum ((List Ab)) ((List Ab) × Int)) :=
 if decide (O.2<(U.length:Int)) then
  idx U O.2>>=λx7 =>
  idx a0 x7>>=λx9 =>
  Nv x9>>=λa1 =>
  app 112 O.1 [a1]>>=λa2 =>
  some (w64 (O.2+1))>>=λa6 =>
  some (.inr (a2,a6))
 else
  some (.inl O.1)
def Nx (a0:List Ab):Option ((List Ab)) :=
 KA a0>>=λO =>
 (iter (Nw a0 O) ([],0))>>=λU =>
 some U
theorem zkp (a0:List Ab):Ah Tryz.prog 68 [.rd (A8 AA) a0] [] (Nx a0) (λr O=>⟨[.val (O 0)],[(100,some (O 0,.list AA 60 r))]⟩):=by
 refine Am 26 func68 Z Z Z λH w=>?_;refine A2<|Zb Z<|A2<|Zb Z<|A2<|Zm Z<|Zc [] [(100,1)] func120 Z (Un _) λr1 n2=>Zb Z<|AY (λ(s3:(List Ab)) U ww=>∃ O:Nat->Value,Sta (ctx 26 H [] w) [(3,.val (O 0))] [(3,some ((O 0),.list AA 60 s3))] U ww) ?_ (λs3=>?_)
 ·refine A2<|Zb Z<|Dk AA 60 6<|AJ (λ(s4:(List Ab) × Int) U ww=>∃ O:Nat->Value,Sta (ctx 26 H [] w) [(0,.rd (A8 AA) a0),(3,.val (O 0)),(4,.val (n2 0)),(5,.rd A3 s4.2)] [(5,some ((O 0),.list AA 60 s4.1)),(1,some ((n2 0),.list A3 3 r1))] U ww) (λU ww h=>⟨nvl [(.slice none 0 0)],Zu h [6,1]⟩) (λs4=>?_);refine gEx λn5=>A6<|A2<|Zm Z<|Zm Z<|Zq (Aq Z (.own 1 Z) Z tu156)<|Zq (I.lss Z Z)<|Zj Z (λh6=>?_) (λh6=>?_)
  ·refine Zt<|A6<|AB<|Ai<|Zm Z<|Zm Z<|Zm Z<|Zm Z<|Al λx7 h8=>Zq (ixO 1 Z Z Z h8 tu156 ti3)<|Zq (ld 1 Z Z (Foc.el h8) ty3 Z)<|Al λx9 a1=>Zq (ixR Z Z a1 tu31 Ba Z)<|Zq (ldR Z C4)<|Zc [] [] func121 Z (zm7 _) λa2 ab=>Ef Z (lit (R:=AA) ([a2]:List Ab) 7 (pP Z Z<|pN) Z tu31 Ba Z Z) λac=>BW 7 [23] Z (fS Z<|fN)<|Al λad a6=>Ef Z (apn 5 Z Z Z .rd a6 tu31 Ba Z Z Z) λa7=>Za Z<|Ae<|Ap<|Af<|Ai<|Zm Z<|Zq (I.add Z Z)<|Za Z<|AI 5 Z λae=>Ae<|Au (λU ww h=>⟨nvl [a7],Zu h [5,1]⟩)
  ·refine AC<|AD<|AG<|Av (λU ww h=>⟨nvl [(n5 0)],Zu h [5]⟩)
 ·refine gEx λa8=>A2<|Zm Z<|Zb Z<|A5<|Ze [(a8 0)] [3] Z
def Ny (a0:List Ab) (U:(List V3) × (List UInt8) × Int) (O:(List UInt8) × Int):Option (Sum ((List UInt8)) ((List UInt8) × Int)) :=
 idx a0 U.2.2>>=λa2 =>
 if decide (O.2<(a2.Preds.length:Int)) then
  idx a0 U.2.2>>=λa6 =>
  idx a6.Preds O.2>>=λa7 =>
  EK U.1 a7>>=λa1 =>
  if decide (0<=a1) then
   DV (UInt64.ofInt (w64 (U.2.2 - a1)))>>=λa8 =>
   app 1 O.1 a8>>=λaa =>
   some (w64 (O.2+1))>>=λab =>
   some (.inr (aa,ab))
  else
   idx a0 U.2.2>>=λac =>
   idx ac.Preds O.2>>=λad =>
   app 1 O.1 [0]>>=λae =>
   app 1 ae ad.toList>>=λaf =>
   some (w64 (O.2+1))>>=λah =>
   some (.inr (af,ah))
 else
  some (.inl O.1)
def Nz (a0:List Ab) (O:(List V3) × (List UInt8) × Int):Option (Sum ((List UInt8)) ((List V3) × (List UInt8) × Int)) :=
 if decide (O.2.2<(a0.length:Int)) then
  (idx a0 O.2.2>>=λU =>
  Jp (⟨U.Author,[],U.Stamp,U.Act,U.Sig⟩:Ab)>>=λa1 =>
  FP a1>>=λa2 =>
  app 1 O.2.1 a2>>=λa6 =>
  idx a0 O.2.2>>=λa7 =>
  DV (UInt64.ofInt (a7.Preds.length:Int))>>=λa8 =>
  app 1 a6 a8>>=λaa =>
  iter (Ny a0 O) (aa,0))>>=λab =>
  some (w64 (O.2.2+1))>>=λac =>
  some (.inr (O.1,ab,ac))
 else
  some (.inl O.2.1)
def NA (a0:List Ab):Option ((List UInt8)) :=
 Il a0>>=λO =>
 DV (UInt64.ofInt (a0.length:Int))>>=λU =>
 app 1 [112] U>>=λx6 =>
 (iter (Nz a0) (O,x6,0))>>=λs9 =>
 some s9
theorem zlo (a0:List Ab):Ah Tryz.prog 67 [.rd (A8 AA) a0] [] (NA a0) (λr U=>⟨[.val (U 0)],[(100,some (U 0,.list u8R 5 r))]⟩):=by
 refine Am 85 func67 Z Z Z λH w=>?_;refine A2<|Zb Z<|A2<|Zm Z<|Zc [] [(100,1)] func119 Z (PP _) λr1 n2=>Zb Z<|A2<|Ef Z (lit (R:=u8R) ([112]:List UInt8) 2 (pP Z Z<|pN) Z tu36 ti5 Z Z) λv3=>Zm Z<|Zq (Aq Z .rd Z tu31)<|Zq (I.toU Z tu3 tu52)<|Zc [] [(100,3)] func49 Z (Ew _) λr4 n5=>Al λx6 h7=>Ef Z (apn 2 Z Z Z (.own 3 Z) h7 tu36 ti5 Z Z Z) λv8=>Zb Z<|AY (λ(s9:(List UInt8)) aa ww=>∃ U:Nat->Value,Sta (ctx 85 H [] w) [(4,.val (U 0))] [(2,some ((U 0),.list u8R 5 s9))] aa ww) ?_ (λs9=>?_)
 ·refine A2<|Zb Z<|gFrz 1 [10,3] Z (fS Z<|fS Z<|fN)<|AJ (λ(a1:(List V3) × (List UInt8) × Int) aa ww=>∃ U:Nat->Value,Sta (ctx 85 H [] w) [(0,.rd (A8 AA) a0),(3,.rd (A8 aZ) a1.1),(4,.val (U 0)),(5,.rd A3 a1.2.2)] [(2,some ((U 0),.list u8R 5 a1.2.1))] aa ww) (λaa ww h=>⟨nvl [v8],Zu h [2]⟩) (λa1=>?_);refine gEx λa7=>A6<|A2<|Zm Z<|Zm Z<|Zq (Aq Z .rd Z tu31)<|Zq (I.lss Z Z)<|Zj Z (λa8=>?_) (λa8=>?_)
  ·refine Zt<|AY (λ(a6:(List UInt8)) aa ww=>∃ U:Nat->Value,Sta (ctx 85 H [] w) [(0,.rd (A8 AA) a0),(3,.rd (A8 aZ) a1.1),(4,.val (U 0)),(5,.rd A3 a1.2.2)] [(2,some ((U 0),.list u8R 5 a6))] aa ww) ?_ (λa6=>?_)
   ·refine AB<|A2<|Zm Z<|Zm Z<|Al λO ab=>Zq (ixR Z Z ab tu31 Ba Z)<|Zq (ldR Z C4)<|Eb Z (AN 4 Ba (ZrE.rd (R:=A9) (x:=0) (Zr.num Z) (ZrE.nilS (ZrE.rd (R:=Ar) (x:=0) (Zr.num Z) (ZrE.rd (R:=Bw) (x:=(⟨0,[],(⟨0,0,0,[]⟩:Ay)⟩:AX)) DB (ZrE.rd (R:=BJ) (x:=(⟨0,0⟩:AQ)) E9 ZrE.nil Z) Z) Z)) Z)) λb0=>Cy aZ [.rd A9 0,.rd (A8 aZ) [],.rd Ar 0,.rd Bw (⟨0,[],(⟨0,0,0,[]⟩:Ay)⟩:AX),.rd BJ (⟨0,0⟩:AQ)] 4 [.rd A9 0] [.rd Ar 0,.rd Bw (⟨0,[],(⟨0,0,0,[]⟩:Ay)⟩:AX),.rd BJ (⟨0,0⟩:AQ)] Z Z Z<|Cm (R:=AA) (⟨0,[],0,(⟨0,[],(⟨0,0,0,[]⟩:Ay)⟩:AX),(⟨0,0⟩:AQ)⟩:Ab) 4 Z (Sp.via (Sp.prod (Sp.prod (Sp.prod (Sp.prod (Sp.prod Sp.unit))))))<|Es (sto 4 Z Z fH Z Ba)<|Zn<|A2<|Zq (faB 4 Z Z underlying60 Z (by exact AU))<|lSpl (R:=AA) 4 Z (Sp.via (Sp.prod (Sp.prod (Sp.prod (Sp.prod (Sp.prod Sp.unit))))))<|Es (DI 4 Z Z (By.cast (By.next Bj (By.here Bj)) Z) Z Cx BG AU)<|Zn<|A2<|Zm Z<|Cy aZ [.rd A9 O.Author,.rd (A8 aZ) [],.rd Ar O.Stamp,.rd Bw O.Act,.rd BJ O.Sig] 4 [.rd A9 O.Author] [.rd Ar O.Stamp,.rd Bw O.Act,.rd BJ O.Sig] Z Z Z<|Cm (R:=AA) (⟨O.Author,[],O.Stamp,O.Act,O.Sig⟩:Ab) 4 Z (Sp.via (Sp.prod (Sp.prod (Sp.prod (Sp.prod (Sp.prod Sp.unit))))))<|Zq (ld 4 Z Z fH C4 Z)<|Zc [] [(100,5)] func110 Z (Ta _) λb1 b2=>BW 5 [30] Z (fS Z<|fN)<|Zc [] [(100,6)] func51 Z (Jl _) λb3 b4=>Al λb5 ac=>Ef Z (apn 2 Z Z Z (.own 6 Z) ac tu36 ti5 Z Z Z) λb6=>Zb Z<|A2<|Zm Z<|Zm Z<|Zm Z<|Al λb7 ad=>Zq (ixR Z Z ad tu31 Ba Z)<|Zq (faR Z (Co _) underlying60 Z Z (by exact AU))<|Zq (ldR Z B0)<|Zq (Aq Z .rd Z tu28)<|Zq (I.toU Z tu3 tu52)<|Zc [] [(100,7)] func49 Z (Ew _) λb8 b9=>Al λba ae=>Ef Z (apn 2 Z Z Z (.own 7 Z) ae tu36 ti5 Z Z Z) λaf=>Zb Z<|A2<|Zb Z<|AJ (λ(a2:(List UInt8) × Int) aa ww=>∃ U:Nat->Value,Sta (ctx 85 H [] w) [(0,.rd (A8 AA) a0),(3,.rd (A8 aZ) a1.1),(4,.val (U 0)),(5,.rd A3 a1.2.2),(7,.rd A3 a2.2)] [(2,some ((U 0),.list u8R 5 a2.1))] aa ww) (λaa ww h=>⟨nvl [af],Zu h [2]⟩) (λa2=>?_)
    refine gEx λah=>A6<|A2<|Zm Z<|Zm Z<|Zm Z<|Al λbb ai=>Zq (ixR Z Z ai tu31 Ba Z)<|Zq (faR Z (Co _) underlying60 Z Z (by exact AU))<|Zq (ldR Z B0)<|Zq (Aq Z .rd Z tu28)<|Zq (I.lss Z Z)<|Zj Z (λaj=>?_) (λaj=>?_)
    ·refine Zt<|A6<|AB<|A2<|Zm Z<|Zm Z<|Zm Z<|Al λbc ak=>Zq (ixR Z Z ak tu31 Ba Z)<|Zq (faR Z (Co _) underlying60 Z Z (by exact AU))<|Zq (ldR Z B0)<|Zm Z<|Al λbd am=>Zq (ixR Z Z am tu28 Ak Z)<|Zq (ldR Z Aw)<|Zc [] [] func35 Z (Hk _ _) λbe bf=>Zb Z<|A2<|Zm Z<|Zq (I.geq Z Z)<|Zj Z (λao=>?_) (λao=>?_)
     ·refine Ai<|Zm Z<|Zm Z<|Zm Z<|Zq (I.sub Z Z)<|Zq (I.toU Z tu3 tu52)<|Zc [] [(100,8)] func49 Z (Ew _) λbg bh=>Al λbi ap=>Ef Z (apn 2 Z Z Z (.own 8 Z) ap tu36 ti5 Z Z Z) λaq=>Za Z<|Ae<|Ap<|Af<|Ai<|Zm Z<|Zq (I.add Z Z)<|Za Z<|AI 7 Z λbj=>Ae<|Au (λaa ww h=>⟨nvl [aq],Zu h [2]⟩)
     ·refine Bq [2,12] mixed Z Z<|A4 0 Z Z (mv Z)<|A4 3 Z Z (mv Z)<|A4 4 Z Z (mv Z)<|AZ λbk ar=>A4 5 Z Z (ixR Z Z ar tu31 Ba Z)<|A4 6 Z Z (faR Z (Co _) underlying60 Z Z (by exact AU))<|A4 7 Z Z (ldR Z B0)<|A4 8 Z Z (mv Z)<|AZ λbl au=>A4 9 Z Z (ixR Z Z au tu28 Ak Z)<|A4 10 Z Z (CO Z tu71 ti5 Z Z Z)<|Zo 1 Z Z Z (lit (R:=u8R) ([0]:List UInt8) 12 (pP Z Z<|pN) Z tu36 ti5 Z Z) λv53=>AZ λbm av=>Zo 2 Z Z Z (apn 2 Z Z Z (.own 12 Z) av tu36 ti5 Z Z Z) λbn=>AZ λbo aw=>Zo 11 Z Z Z (apn 2 Z Z Z .rd aw tu36 ti5 Z Z Z) λax=>Zf 12 Z Z C1 (asg Z)<|AV (by kernel_rfl)<|Ap<|Af<|Ai<|Zm Z<|Zq (I.add Z Z)<|Za Z<|AI 7 Z λbp=>Ae<|Au (λaa ww h=>⟨nvl [ax],Zu h [2]⟩)
    ·refine AC<|AD<|AG<|Ap<|Av (λaa ww h=>⟨nvl [(ah 0)],Zu h [2]⟩)
   ·refine gEx λay=>Ai<|Zm Z<|Zq (I.add Z Z)<|Za Z<|AI 5 Z λbq=>Ae<|Au (λaa ww h=>⟨nvl [(ay 0)],Zu h [2]⟩)
  ·refine AC<|AD<|AG<|Av (λaa ww h=>⟨nvl [(a7 0)],Zu h [2]⟩)
 ·refine gEx λaz=>A2<|Zm Z<|Zb Z<|A5<|Ze [(az 0)] [2] Z
def Ip (a0:List Ab):Option ((List UInt8) × Int) :=
 Nu a0>>=λO =>
 if O != 0 then
  some ([],O)
 else
  Nx a0>>=λU =>
  NA U>>=λr6 =>
  some (r6,0)
theorem Uo (a0:List Ab):Ah Tryz.prog 31 [.rd (A8 AA) a0] [] (Ip a0) (λr O=>⟨[.val (O 0),.rd A3 r.2],[(100,some (O 0,.list u8R 5 r.1))]⟩):=by
 refine Am 13 func31 Z Z Z λH w=>?_;refine A2<|Za Z<|Zb Z<|A6<|A2<|Zm Z<|Zc [] [] func66 Z (zle _) λr1 n2=>Zb Z<|A2<|Zm Z<|Zq (I.neq Z Z)<|Zj Z (λU=>?_) (λU=>?_)
 ·refine A2<|Zm Z<|Za Z<|Zb Z<|A5<|An<|Cl u8R 5 1<|Ze [(.slice none 0 0)] [1] Z
 ·refine Zt<|A2<|Zm Z<|Zc [] [(100,2)] func68 Z (zkp _) λr4 n5=>BW 2 [11] Z (fS Z<|fN)<|Zc [] [(100,3)] func67 Z (zlo _) λr6 n7=>Za Z<|Zb Z<|A5<|Ze [(n7 0)] [3] Z
def NB (a0:List V3) (O:Int):Option (Sum (Sum Int Unit) Int) :=
 if decide (O<(a0.length:Int)) then
  if decide (0<O) then
   idx a0 (w64 (O - 1))>>=λx6 =>
   idx a0 O>>=λx8 =>
   Fy x6 x8>>=λU =>
   if decide (0<=U) then
    some (.inl (.inl 32))
   else
    some (.inr (w64 (O+1)))
  else
   some (.inr (w64 (O+1)))
 else
  some (.inl (.inr ()))
def NC (a0:List V3):Option (Int) :=
 if decide (60<(a0.length:Int)) then
  some 4
 else
  Bc (iter (NB a0) 0) λs2 =>
  some 0
theorem ztc (a0:List V3):Ah Tryz.prog 71 [.rd (A8 aZ) a0] [] (NC a0) (λr nv=>⟨[.rd A3 r],[]⟩):=by
 refine Am 28 func71 Z Z Z λH w=>?_;refine A2<|Zb Z<|A6<|A2<|Zm Z<|Zq (Aq Z .rd Z tu28)<|Zq (I.gtr Z Z)<|Zj Z (λh1=>?_) (λh1=>?_)
 ·refine A2<|Zb Z<|A5<|An<|Ze [] [] Z
 ·refine Zt<|BM (λ(s2:Unit) O U=>Sta (ctx 28 H [] w) [] [] O U) ?_ (λs2=>?_)
  ·refine A2<|Zm Z<|Zq (Aq Z .rd Z tu28)<|Zm Z<|Zn<|AJ (λ(s3:Int) O U=>Sta (ctx 28 H [] w) [(0,.rd (A8 aZ) a0),(8,.rd A3 (a0.length:Int)),(9,.rd A3 s3)] [] O U) (λO U h=>Zu h []) (λs3=>?_);refine A2<|Zq (I.lss Z Z)<|Zn<|A6<|gIf Z Z (λh4=>?_) (λh4=>?_)
   ·refine Zt<|A6<|AB<|A2<|Zm Z<|Zb Z<|A6<|Bq [] mixed Z Z<|A4 0 Z Z (mv Z)<|A4 1 Z Z (I.gtr Z Z)<|A4 2 Z Z (mv Z)<|hIf 14 Z Z (λh5=>?_) (λh5=>?_)
    ·refine hKn 13 Z Z h5<|Zg 3 Z Z (mv Z)<|Zg 4 Z Z (mv Z)<|Zg 5 Z Z (I.sub Z Z)<|AZ λx6 h7=>Zg 6 Z Z (ixR Z Z h7 tu28 Ak Z)<|Zg 7 Z Z (ldR Z Aw)<|Zg 8 Z Z (mv Z)<|Zg 9 Z Z (mv Z)<|AZ λx8 h9=>Zg 10 Z Z (ixR Z Z h9 tu28 Ak Z)<|Zg 11 Z Z (ldR Z Aw)<|Be 12 [] [] Z (by kernel_rfl) Z Zx Z func94 Z Z (HM _ _) (Y2 Z Z) rN Z (λ_ _=>Cb) λa2 a6=>Zg 13 Z Z (I.geq Z Z)<|A4 14 Z Z (pkT Z Z)<|AV (by kernel_rfl)<|Af<|gIf Z Z (λa1=>?_) (λa1=>?_)
     ·refine gKn 25 Z a1<|A2<|Zb Z<|A5<|Bh<|An<|BE<|Bk<|Ze [] [] Z
     ·refine gKn 25 Z a1<|AW<|Ap<|Af<|Ai<|Zq (I.add Z Z)<|Zm Z<|Ae<|Au (λO U h=>Zu h [])
    ·refine hKn 13 Z Z h5<|hSk 3 Z Z<|hSk 4 Z Z<|hSk 5 Z Z<|hSk 6 Z Z<|hSk 7 Z Z<|hSk 8 Z Z<|hSk 9 Z Z<|hSk 10 Z Z<|hSk 11 Z Z<|hSk 12 Z Z<|hSk 13 Z Z<|A4 14 Z Z (pkF Z Z)<|AV (by kernel_rfl)<|Af<|DX Z<|AW<|Ap<|Af<|Ai<|Zq (I.add Z Z)<|Zm Z<|Ae<|Au (λO U h=>Zu h [])
   ·refine AC<|AD<|AG<|BA (λO U h=>Zu h [])
  ·refine A2<|Zb Z<|A5<|Ze [] [] Z
def ND (a0:V3):Option (V3 × Int) :=
 app 1 [0] a0.toList>>=λU =>
 Hb U>>=λO =>
 some (O.1,O.2)
theorem zus (a0:V3):Ah Tryz.prog 122 [.rd aZ a0] [AE] (ND a0) (λr nv=>⟨[.rd aZ r.1,.rd A3 r.2],[(1001,some (.bool true,.glob 1 (Az 64 A9) C6))]⟩):=by
 refine Am 10 func122 Z Z Z λH w=>?_;refine A2<|Eb Z (bx 1 Z) λv1=>Eb Z (AN 2 Ak (.zr (R:=aZ) (x:=(Vector.replicate 32 0)) BU)) λv2=>Zb Z<|A2<|Ef Z (lit (R:=u8R) ([0]:List UInt8) 3 (pP Z Z<|pN) Z tu36 ti5 Z Z) λv3=>Gg 1 1 Z Z<|Zq (CO Z tu71 ti5 Z Z Z)<|Al λx4 O=>Ef Z (apn 3 Z Z Z .rd O tu36 ti5 Z Z Z) λv6=>BW 3 [6] Z (fS Z<|fN)<|Zc [1001] [] func57 Z (M0 _) λr7 n8=>Zq (ext Z Z)<|Zq (ext Z Z)<|Es (sto 2 Z Z fH Z Ak)<|Zb Z<|A5<|BF [] [1001] Z (eC 2 Z Z Aw<|eE Z<|eN) (Y0 Z)
def Up (a0:UInt8):Option (Int) :=
 idx ([0,1,2,2,3,3,3,3,4,4,4,4,4,4,4,4,5,5,5,5,5,5,5,5,5,5,5,5,5,5,5,5,6,6,6,6,6,6,6,6,6,6,6,6,6,6,6,6,6,6,6,6,6,6,6,6,6,6,6,6,6,6,6,6,7,7,7,7,7,7,7,7,7,7,7,7,7,7,7,7,7,7,7,7,7,7,7,7,7,7,7,7,7,7,7,7,7,7,7,7,7,7,7,7,7,7,7,7,7,7,7,7,7,7,7,7,7,7,7,7,7,7,7,7,7,7,7,7,8,8,8,8,8,8,8,8,8,8,8,8,8,8,8,8,8,8,8,8,8,8,8,8,8,8,8,8,8,8,8,8,8,8,8,8,8,8,8,8,8,8,8,8,8,8,8,8,8,8,8,8,8,8,8,8,8,8,8,8,8,8,8,8,8,8,8,8,8,8,8,8,8,8,8,8,8,8,8,8,8,8,8,8,8,8,8,8,8,8,8,8,8,8,8,8,8,8,8,8,8,8,8,8,8,8,8,8,8,8,8,8,8,8,8,8,8,8,8,8,8,8,8,8,8,8,8,8]:List UInt8) (a0.toNat:Int)>>=λO =>
 some (O.toNat:Int)>>=λU =>
 some U
theorem zo7 (a0:UInt8):Ah Tryz.prog 212 [.rd u8R a0] [] (Up a0) (λr nv=>⟨[.rd A3 r],[]⟩):=by
 refine Am 6 func212 Z Z Z λH w=>?_;refine A2<|Zb Z<|A2<|Zm Z<|Al λx1 O=>Zq (idxT Z Z tu9 (Dt O).1 (Dt O).2.1)<|Zq (B.toI Z tu5 tu3)<|Za Z<|AI 2 Z λy3=>Zn<|A5<|Ze [] [] Z
def PQ (a0:UInt8):Option (Int) :=
 Up a0>>=λO =>
 some (w64 (8 - O))
theorem zgw (a0:UInt8):Ah Tryz.prog 171 [.rd u8R a0] [] (PQ a0) (λr nv=>⟨[.rd A3 r],[]⟩):=by
 refine Am 6 func171 Z Z Z λH w=>?_;refine A2<|Zb Z<|A2<|Zm Z<|Zc [] [] func212 Z (zo7 _) λr1 n2=>Zq (I.sub Z Z)<|Zb Z<|A5<|Ze [] [] Z
def NE (a0:V3) (U:V3) (O:Int):Option (Sum Int Int) :=
 B8 a0 O>>=λx6 =>
 B8 U O>>=λx8 =>
 if x6==x8 then
  some (.inr (w64 (O+1)))
 else
  some (.inl O)
def NF (a0:V3) (O:V3):Option (Int) :=
 if decide (a0=O) then
  some 256
 else
  (iter (NE a0 O) 0)>>=λU =>
  B8 a0 U>>=λa2 =>
  B8 O U>>=λa6 =>
  PQ (a2 ^^^ a6)>>=λa7 =>
  some (w64 ((w64 (8 * U))+a7))>>=λa8 =>
  some a8
theorem zsx (a0:V3) (a1:V3):Ah Tryz.prog 123 [.rd aZ a0,.rd aZ a1] [] (NF a0 a1) (λr nv=>⟨[.rd A3 r],[]⟩):=by
 refine Am 29 func123 Z Z Z λH w=>?_;refine A2<|Eb Z (bx 1 Z) λv1=>Eb Z (bx 2 Z) λv2=>Zb Z<|A6<|A2<|Zq (ld 1 Z Z fH Aw Z)<|Zq (ld 2 Z Z fH Aw Z)<|Zq (eqA Z Z eq71 Z Z gq71)<|Zj Z (λh3=>?_) (λh3=>?_)
 ·refine A2<|Zb Z<|A5<|An<|Ze [] [] Z
 ·refine Zt<|A2<|Zb Z<|AY (λ(s4:Int) O U=>Sta (ctx 29 H [] w) [(2,.val (A7 v1 0)),(3,.val (A7 v2 0)),(5,.rd A3 s4)] [(1,some (v1,.box 71 [.rd aZ a0])),(2,some (v2,.box 71 [.rd aZ a1]))] O U) ?_ (λs4=>?_)
  ·refine AJ (λ(s5:Int) O U=>Sta (ctx 29 H [] w) [(2,.val (A7 v1 0)),(3,.val (A7 v2 0)),(5,.rd A3 s5)] [(1,some (v1,.box 71 [.rd aZ a0])),(2,some (v2,.box 71 [.rd aZ a1]))] O U) (λO U h=>Zu h [1,2]) (λs5=>?_);refine A6<|A6<|Dh mixed (by kernel_rfl)<|Rq Z (mv Z)<|C3 λx6 h7=>Rq Z (ixB 1 Z Z Z h7 tu71 ti5)<|Rq Z (ld 1 Z Z (fP (.el h7)) ty5 Z)<|Rq Z (mv Z)<|C3 λx8 h9=>Rq Z (ixB 2 Z Z Z h9 tu71 ti5)<|Rq Z (ld 2 Z Z (fP (.el h9)) ty5 Z)<|Rq Z (B.eql Z Z)<|Dd<|Af<|gIf Z Z (λa7=>?_) (λa7=>?_)
   ·refine Zt<|AB<|Ai<|Zm Z<|Zq (I.add Z Z)<|Za Z<|Ae<|Ap<|Au (λO U h=>Zu h [1,2])
   ·refine AC<|AD<|AG<|Av (λO U h=>Zu h [1,2])
  ·refine A6<|Bq [] mixed Z Z<|A4 0 Z Z (mv Z)<|A4 1 Z Z (I.mul Z Z)<|A4 2 Z Z (mv Z)<|AZ λa8 a2=>A4 3 Z Z (ixB 1 Z Z Z a2 tu71 ti5)<|A4 4 Z Z (ld 1 Z Z (fP (.el a2)) ty5 Z)<|A4 5 Z Z (mv Z)<|AZ λab a6=>A4 6 Z Z (ixB 2 Z Z Z a6 tu71 ti5)<|A4 7 Z Z (ld 2 Z Z (fP (.el a6)) ty5 Z)<|A4 8 Z Z (B.xor Z Z)<|Be 9 [] [] Z (by kernel_rfl) Z (gd0 Z) Z func171 Z Z (zgw _) (Y1 Z) rN Z (λ_ _=>Cb) λac ad=>A4 10 Z Z (I.add Z Z)<|A4 11 Z Z (asg Z)<|HH 4 Z Z λae=>AV (by kernel_rfl)<|Af<|A5<|Ze [] [] Z
def NG (a0:V3) (O:Int):Option (Bool) :=
 B8 a0 (w64 (Int.tdiv O 8))>>=λU =>
 chk (0<=Int.tmod O 8)>>=λu4 =>
 some (((shl8 U ((Int.tmod O 8:Int).toNat)) &&& 128) != 0)>>=λy6 =>
 some y6
theorem zxg (a0:V3) (O:Int):Ah Tryz.prog 173 [.rd aZ a0,.rd A3 O] [] (NG a0 O) (λr nv=>⟨[.rd Ac r],[]⟩):=by
 refine Am 14 func173 Z Z Z λH w=>?_;refine A2<|Eb Z (bx 1 Z) λv1=>Zb Z<|A2<|Zm Z<|Zq (I.quo Z Z (by decide))<|Al λx2 U=>Zq (ixB 1 Z Z Z U tu71 ti5)<|Zq (ld 1 Z Z (fP (.el U)) ty5 Z)<|Zm Z<|Zq (I.rem Z Z (by decide))<|Al λu4 h5=>Zq (B.shl Z Z (DP h5))<|Zq (B.and Z Z)<|Zq (B.neq Z Z)<|Za Z<|AI 4 Z λy6=>Zn<|A5<|Ze [] [] Z
def NH (a0:V3) (c1_0:Int):Option (Bool) :=
 NG a0 c1_0>>=λO =>
 some O
theorem zto (a0:V3) (p1_0:Value) (c1_0:Int):Ah Tryz.prog 172 [.rd aZ a0,.val (A7 p1_0 0)] [(1,some (p1_0,.box 3 [.rd A3 c1_0]))] (NH a0 c1_0) (λr nv=>⟨[.rd Ac r],[(1,some (p1_0,.box 3 [.rd A3 c1_0]))]⟩):=by
 refine Am 7 func172 Z Z Z λH w=>?_;refine A2<|Eb Z (bx 2 Z) λv1=>Zb Z<|A2<|Zq (ld 2 Z Z fH Aw Z)<|Zq (ld 1 Z Z fH ty3 Z)<|Zc [] [] func173 Z (zxg _ _) λr2 n3=>Zb Z<|A5<|Ze [] [1] Z
def KC (a0:List V3) (c1_0:Int) (O:Int):Option (Sum (Sum Int Unit) Int) :=
 if decide (O<(a0.length:Int)) then
  idx a0 O>>=λU =>
  NH U c1_0>>=λr6 =>
  if r6 then
   some (.inl (.inl O))
  else
   some (.inr (w64 (O+1)))
 else
  some (.inl (.inr ()))
def PR (a0:List V3) (c1_0:Int):Option (Int) :=
 Bc (iter (KC a0 c1_0) 0) λs1 =>
 some (-1)
theorem z9e (a0:List V3) (p1_0:Value) (c1_0:Int):Ah Tryz.prog 158 [.rd (A8 aZ) a0,.val (.func (.func 172) #[] #[A7 p1_0 0])] [(1,some (p1_0,.box 3 [.rd A3 c1_0]))] (PR a0 c1_0) (λr nv=>⟨[.rd A3 r],[(1,some (p1_0,.box 3 [.rd A3 c1_0]))]⟩):=by
 refine Am 19 func158 Z Z Z λH w=>?_;refine A2<|Zb Z<|BM (λ(s1:Unit) O U=>Sta (ctx 19 H [(1,some (p1_0,.box 3 [.rd A3 c1_0]))] w) [] [(1,some (p1_0,.box 3 [.rd A3 c1_0]))] O U) ?_ (λs1=>?_)
 ·refine A2<|Zm Z<|Zq (Aq Z .rd Z tu28)<|Zm Z<|Zn<|AJ (λ(s2:Int) O U=>Sta (ctx 19 H [(1,some (p1_0,.box 3 [.rd A3 c1_0]))] w) [(0,.rd (A8 aZ) a0),(1,.val (.func (.func 172) #[] #[A7 p1_0 0])),(7,.rd A3 (a0.length:Int)),(8,.rd A3 s2)] [(1,some (p1_0,.box 3 [.rd A3 c1_0]))] O U) (λO U h=>Zu h [1]) (λs2=>?_);refine A2<|Zq (I.lss Z Z)<|Zn<|A6<|gIf Z Z (λh3=>?_) (λh3=>?_)
  ·refine Zt<|A6<|AB<|A2<|Zm Z<|Zb Z<|A2<|Zm Z<|Zm Z<|Zm Z<|Al λx4 h5=>Zq (ixR Z Z h5 tu28 Ak Z)<|Zq (ldR Z Aw)<|EO [1] [(1,1)] (gd0 Z) Z Z func172 Z Z (zto _ _ _) (Y1 Z) (cQ 1 Z<|cN) (Y0 Z) λr6 n7=>Zj Z (λh8=>?_) (λh8=>?_)
   ·refine A2<|Zm Z<|Zb Z<|A5<|Bh<|An<|BE<|Bk<|Ze [] [1] Z
   ·refine AW<|Ap<|Af<|Ai<|Zq (I.add Z Z)<|Zm Z<|Ae<|Au (λO U h=>Zu h [1])
  ·refine AC<|AD<|AG<|BA (λO U h=>Zu h [1])
 ·refine A2<|Zb Z<|A5<|Ze [] [1] Z
def NI (a0:List V3) (a1:Int):Option ((List V3) × (List V3)) :=
 PR a0 a1>>=λO =>
 (if decide (O<0) then
  some (a0.length:Int)>>=λy6 =>
  some y6
 else
  some O)>>=λU =>
 cut a0 0 U>>=λx7 =>
 cut a0 U (a0.length:Int)>>=λx9 =>
 some (x7,x9)
theorem zxv (a0:List V3) (a1:Int):Ah Tryz.prog 124 [.rd (A8 aZ) a0,.rd A3 a1] [] (NI a0 a1) (λr nv=>⟨[.rd (A8 aZ) r.1,.rd (A8 aZ) r.2],[]⟩):=by
 refine Am 21 func124 Z Z Z λH w=>?_;refine A2<|Eb Z (bx 1 Z) λv1=>Za Z<|Zb Z<|A2<|Zm Z<|Zq (mkf mp0 (mp1 Z))<|Zc [1] [(1,1)] func158 Z (z9e _ _ _) λr2 n3=>Zb Z<|AY (λ(s4:Int) O U=>Sta (ctx 21 H [] w) [(0,.rd (A8 aZ) a0),(6,.rd A3 s4)] [] O U) ?_ (λs4=>?_)
 ·refine A2<|Zm Z<|Zq (I.lss Z Z)<|Zj Z (λh5=>?_) (λh5=>?_)
  ·refine Ai<|Zm Z<|Zq (Aq Z .rd Z tu28)<|Za Z<|AI 6 Z λy6=>Ae<|Av (λO U h=>Zu h [])
  ·refine AW<|Av (λO U h=>Zu h [])
 ·refine A6<|Dh mixed (by kernel_rfl)<|Rq Z (mv Z)<|Rq Z (mv Z)<|Rq Z (mv Z)<|C3 λx7 h8=>Rq Z (cut3 Z .no Z Z h8 tu28 Ak)<|Rq Z (mv Z)<|Rq Z (mv Z)<|C3 λx9 a2=>Rq Z (cut' Z (.to Z) .no a2 tu28 Ak)<|Rq Z (asg Z)<|Rq Z (asg Z)<|Dd<|Af<|A5<|Ze [] [] Z
def NJ (a0:Int) (U:V3) (a2:V3):Option (V3 × Int) :=
 Fd [[1,UInt8.ofInt a0],U.toList,a2.toList]>>=λr6 =>
 Hb r6>>=λO =>
 some (O.1,O.2)
theorem zwc (a0:Int) (O:V3) (U:V3):Ah Tryz.prog 125 [.rd A3 a0,.rd aZ O,.rd aZ U] [AE] (NJ a0 O U) (λr nv=>⟨[.rd aZ r.1,.rd A3 r.2],[(1001,some (.bool true,.glob 1 (Az 64 A9) C6))]⟩):=by
 refine Am 18 func125 Z Z Z λH w=>?_;refine A2<|Eb Z (bx 1 Z) λv1=>Eb Z (bx 2 Z) λv2=>Eb Z (AN 3 Ak (.zr (R:=aZ) (x:=(Vector.replicate 32 0)) BU)) λv3=>Zb Z<|A6<|DO 1 4 Z Z<|DO 2 5 Z Z<|Bq [3,10,19,22,1001] mixed Z Z<|A4 0 Z Z (mv Z)<|A4 1 Z Z (I.toB Z tu3 tu5)<|A4 3 Z Z (CO Z tu71 ti5 Z Z Z)<|A4 4 Z Z (CO Z tu71 ti5 Z Z Z)<|Zo 2 Z Z Z (lit (R:=u8R) ([1,UInt8.ofInt a0]:List UInt8) 10 (pP Z Z<|pP Z Z<|pN) Z tu36 ti5 Z Z) λv4=>DJ 10 [10] Z (fS Z<|fN)<|Zo 5 Z Z Z (lit (R:=(A8 u8R)) ([[1,UInt8.ofInt a0],O.toList,U.toList]:List (List UInt8)) 19 (pP Z Z<|pP Z Z<|pP Z Z<|pN) Z tu126 CD Z Z) λv5=>DJ 19 [13] Z (fS Z<|fN)<|Be 6 [] [(100,22)] Z (by kernel_rfl) Z (gd0 Z) Z func28 Z Z (HV _) (Y1 Z) rN Z (λ_ _=>C1) λr6 n7=>DJ 22 [14] Z (fS Z<|fN)<|Lq 7 [1001] [] Z (by kernel_rfl) Z (gd0 Z) Z func57 Z Z (M0 _) (Y1 Z) (Y0 Z) Z λr8 n9=>Si 8 Z (by kernel_rfl) (by kernel_rfl) (by kernel_rfl) (gd0 Z) Z Z (ext Z Z)<|Zf 9 Z Z Cb (ext Z Z)<|Zp 10 Z Z Z Z Z (sto 3 Z Z fH Z Ak)<|A4 11 Z Z (asg Z)<|AV (by kernel_rfl)<|Af<|A5<|BF [] [1001] Z (eC 3 Z Z Aw<|eE Z<|eN) (Y0 Z)
def NK (rec:(List V3)->Option (V3 × Int)) (a0:List V3):Option (V3 × Int) :=
 some ((a0.length:Int)==0)>>=λy2 =>
 if y2 then
  some ((Vector.replicate 32 0),0)
 else
  some ((a0.length:Int)==1)>>=λy4 =>
  if y4 then
   idx a0 0>>=λx6 =>
   ND x6>>=λr8 =>
   some (r8.1,r8.2)
  else
   idx a0 0>>=λa7 =>
   idx a0 (w64 ((a0.length:Int) - 1))>>=λa8 =>
   NF a7 a8>>=λa1 =>
   NI a0 a1>>=λa2 =>
   rec a2.1>>=λO =>
   if O.2 != 0 then
    some ((Vector.replicate 32 0),O.2)
   else
    rec a2.2>>=λU =>
    if U.2 != 0 then
     some ((Vector.replicate 32 0),U.2)
    else
     NJ a1 O.1 U.1>>=λa6 =>
     some (a6.1,a6.2)
def FZ:Nat->(List V3)->Option (V3 × Int)
 | 0,_=>none
 | N+1,a0=>NK (FZ N) a0
theorem zv8 (rec:(List V3)->Option (V3 × Int)) (O:∀ (a0:List V3),Ah Tryz.prog 72 [.rd (A8 aZ) a0] [AE] (rec a0) (λr nv=>⟨[.rd aZ r.1,.rd A3 r.2],[(1001,some (.bool true,.glob 1 (Az 64 A9) C6))]⟩)) (a0:List V3):Ah Tryz.prog 72 [.rd (A8 aZ) a0] [AE] (NK rec a0) (λr nv=>⟨[.rd aZ r.1,.rd A3 r.2],[(1001,some (.bool true,.glob 1 (Az 64 A9) C6))]⟩):=by
 refine Am 63 func72 Z Z Z λH w=>?_;refine A2<|Eb Z (AN 1 Ak (.zr (R:=aZ) (x:=(Vector.replicate 32 0)) BU)) λv1=>Zb Z<|A6<|A2<|Zm Z<|Zq (Aq Z .rd Z tu28)<|Zn<|AB<|A2<|Zq (I.eql Z Z)<|Za Z<|AI 12 Z λy2=>Zj Z (λh3=>?_) (λh3=>?_)
 ·refine A2<|Zq (bldG (x':=((Vector.replicate 32 0):V3)) tu71 Ak BU ti5 (Bld.done Z))<|Es (sto 1 Z Z fH Z Ak)<|Zb Z<|A5<|Bh<|An<|BF [] [1001] Z (eC 1 Z Z Aw<|eE Z<|eN) (Y0 Z)
 ·refine A2<|Zq (I.eql Z Z)<|Za Z<|AI 15 Z λy4=>Zj Z (λh5=>?_) (λh5=>?_)
  ·refine A2<|Zm Z<|Al λx6 h7=>Zq (ixR Z Z h7 tu28 Ak Z)<|Zq (ldR Z Aw)<|Zc [1001] [] func122 Z (zus _) λr8 n9=>Zq (ext Z Z)<|Zq (ext Z Z)<|Es (sto 1 Z Z fH Z Ak)<|Zb Z<|A5<|Bh<|An<|BF [] [1001] Z (eC 1 Z Z Aw<|eE Z<|eN) (Y0 Z)
  ·refine AW<|Ap<|Af<|A6<|Bq [] mixed Z Z<|A4 0 Z Z (mv Z)<|AZ λa7 U=>A4 1 Z Z (ixR Z Z U tu28 Ak Z)<|A4 2 Z Z (ldR Z Aw)<|A4 3 Z Z (mv Z)<|A4 4 Z Z (mv Z)<|A4 5 Z Z (Aq Z .rd Z tu28)<|A4 6 Z Z (I.sub Z Z)<|AZ λa8 a1=>A4 7 Z Z (ixR Z Z a1 tu28 Ak Z)<|A4 8 Z Z (ldR Z Aw)<|Be 9 [] [] Z (by kernel_rfl) Z (gd0 Z) Z func123 Z Z (zsx _ _) (Y2 Z Z) rN Z (λ_ _=>Cb) λaa ab=>A4 10 Z Z (asg Z)<|AV (by kernel_rfl)<|Af<|A2<|Zm Z<|Zm Z<|Zc [] [] func124 Z (zxv _ _) λac ad=>Zm Z<|Zq (ext Z Z)<|Zq (ext Z Z)<|Za Z<|Zb Z<|A2<|Zm Z<|Zc [1001] [] func72 Z (O _) λae af=>Zm Z<|Zq (ext Z Z)<|Zq (ext Z Z)<|Eb Z (AN 38 Ak (.zr (R:=aZ) (x:=(Vector.replicate 32 0)) BU)) λah=>Es (sto 38 Z Z fH Z Ak)<|Zb Z<|A6<|A2<|Zm Z<|Zq (I.neq Z Z)<|Zj Z (λa2=>?_) (λa2=>?_)
   ·refine A2<|Zq (bldG (x':=((Vector.replicate 32 0):V3)) tu71 Ak BU ti5 (Bld.done Z))<|Zm Z<|Es (sto 1 Z Z fH Z Ak)<|Zb Z<|A5<|An<|BF [] [1001] Z (eC 1 Z Z Aw<|eE Z<|eN) (Y0 Z)
   ·refine Zt<|A2<|Zm Z<|Zc [1001] [] func72 Z (O _) λai aj=>Zm Z<|Zq (ext Z Z)<|Zq (ext Z Z)<|Eb Z (AN 39 Ak (.zr (R:=aZ) (x:=(Vector.replicate 32 0)) BU)) λak=>Es (sto 39 Z Z fH Z Ak)<|Zb Z<|A6<|A2<|Zm Z<|Zq (I.neq Z Z)<|Zj Z (λa6=>?_) (λa6=>?_)
    ·refine A2<|Zq (bldG (x':=((Vector.replicate 32 0):V3)) tu71 Ak BU ti5 (Bld.done Z))<|Zm Z<|Es (sto 1 Z Z fH Z Ak)<|Zb Z<|A5<|An<|BF [] [1001] Z (eC 1 Z Z Aw<|eE Z<|eN) (Y0 Z)
    ·refine Zt<|A2<|Zm Z<|Zq (ld 38 Z Z fH Aw Z)<|Zq (ld 39 Z Z fH Aw Z)<|Zc [1001] [] func125 Z (zwc _ _ _) λam ao=>Zq (ext Z Z)<|Zq (ext Z Z)<|Es (sto 1 Z Z fH Z Ak)<|Zb Z<|A5<|BF [] [1001] Z (eC 1 Z Z Aw<|eE Z<|eN) (Y0 Z)
theorem Uq:∀ (N:Nat) (a0:List V3),Ah Tryz.prog 72 [.rd (A8 aZ) a0] [AE] (FZ N a0) (λr nv=>⟨[.rd aZ r.1,.rd A3 r.2],[(1001,some (.bool true,.glob 1 (Az 64 A9) C6))]⟩)
 | 0,a0=>λr O=>absurd O (by simp[FZ])
 | N+1,a0=>zv8 (FZ N) (Uq N) a0
theorem zvm (a0:List V3):Ah Tryz.prog 72 [.rd (A8 aZ) a0] [AE] (FZ 1000 a0) (λr nv=>⟨[.rd aZ r.1,.rd A3 r.2],[(1001,some (.bool true,.glob 1 (Az 64 A9) C6))]⟩):=Uq 1000 a0
def KD (a0:List V3):Option (V3 × Int) :=
 NC a0>>=λO =>
 if O != 0 then
  some ((Vector.replicate 32 0),O)
 else
  (FZ 1000) a0>>=λU =>
  some (U.1,U.2)
theorem Ur (a0:List V3):Ah Tryz.prog 33 [.rd (A8 aZ) a0] [AE] (KD a0) (λr nv=>⟨[.rd aZ r.1,.rd A3 r.2],[(1001,some (.bool true,.glob 1 (Az 64 A9) C6))]⟩):=by
 refine Am 15 func33 Z Z Z λH w=>?_;refine A2<|Eb Z (AN 1 Ak (.zr (R:=aZ) (x:=(Vector.replicate 32 0)) BU)) λv1=>Zb Z<|A6<|A2<|Zm Z<|Zc [] [] func71 Z (ztc _) λr2 n3=>Zb Z<|A2<|Zm Z<|Zq (I.neq Z Z)<|Zj Z (λO=>?_) (λO=>?_)
 ·refine A2<|Zq (bldG (x':=((Vector.replicate 32 0):V3)) tu71 Ak BU ti5 (Bld.done Z))<|Zm Z<|Es (sto 1 Z Z fH Z Ak)<|Zb Z<|A5<|An<|BF [] [1001] Z (eC 1 Z Z Aw<|eE Z<|eN) (Y0 Z)
 ·refine Zt<|A2<|Zm Z<|Zc [1001] [] func72 Z (zvm _) λr5 n6=>Zq (ext Z Z)<|Zq (ext Z Z)<|Es (sto 1 Z Z fH Z Ak)<|Zb Z<|A5<|BF [] [1001] Z (eC 1 Z Z Aw<|eE Z<|eN) (Y0 Z)
def NL (a0:V3):Option (V3) :=
 app 1 [0] a0.toList>>=λO =>
 Gy O>>=λU =>
 some U
theorem znj (a0:V3):Ah Tryz.prog 76 [.rd aZ a0] [] (NL a0) (λr nv=>⟨[.rd aZ r],[]⟩):=by
 refine Am 7 func76 Z Z Z λH w=>?_;refine A2<|Eb Z (bx 1 Z) λv1=>Eb Z (AN 2 Ak (.zr (R:=aZ) (x:=(Vector.replicate 32 0)) BU)) λv2=>Zn<|A2<|Ef Z (lit (R:=u8R) ([0]:List UInt8) 3 (pP Z Z<|pN) Z tu36 ti5 Z Z) λv3=>Gg 1 1 Z Z<|Zq (CO Z tu71 ti5 Z Z Z)<|Al λx4 O=>Ef Z (apn 3 Z Z Z .rd O tu36 ti5 Z Z Z) λv6=>BW 3 [5] Z (fS Z<|fN)<|Zc [] [] func65 Z (Jw _) λr7 n8=>Es (sto 2 Z Z fH Z Ak)<|Zn<|A5<|BF [] [] Z (eC 2 Z Z Aw<|eN) (rN)
def Iq (a0:V3) (O:Int):Option (Bool) :=
 B8 a0 (w64 (Int.tdiv O 8))>>=λU =>
 chk (0<=Int.tmod O 8)>>=λu4 =>
 some ((U &&& (shr8 128 ((Int.tmod O 8:Int).toNat))) != 0)>>=λy6 =>
 some y6
theorem PS (a0:V3) (O:Int):Ah Tryz.prog 127 [.rd aZ a0,.rd A3 O] [] (Iq a0 O) (λr nv=>⟨[.rd Ac r],[]⟩):=by
 refine Am 14 func127 Z Z Z λH w=>?_;refine A2<|Eb Z (bx 1 Z) λv1=>Zb Z<|A6<|Dh mixed (by kernel_rfl)<|Rq Z (mv Z)<|Rq Z (I.quo Z Z (by decide))<|C3 λx2 U=>Rq Z (ixB 1 Z Z Z U tu71 ti5)<|Rq Z (ld 1 Z Z (fP (.el U)) ty5 Z)<|Rq Z (mv Z)<|Rq Z (I.rem Z Z (by decide))<|C3 λu4 h5=>Rq Z (B.shr Z Z (DP h5))<|Rq Z (B.and Z Z)<|Rq Z (B.neq Z Z)<|Rq Z (asg Z)<|Sl 4 Z λy6=>Dd<|Af<|A5<|Ze [] [] Z
def Ir (a0:List V3) (O:Int) (U:Int):Option (Sum (Sum (Sum (Sum Int Unit) Int) Unit) Int) :=
 if decide (U<(a0.length:Int)) then
  idx a0 U>>=λx7 =>
  idx a0 0>>=λx9 =>
  Iq x7 O>>=λa1 =>
  Iq x9 O>>=λa2 =>
  if a1 != a2 then
   some (.inl (.inl (.inl (.inl O))))
  else
   some (.inr (w64 (U+1)))
 else
  some (.inl (.inr ()))
def NM (a0:List V3) (O:Int):Option (Sum (Sum Int Unit) Int) :=
 if decide (O<256) then
  Bc (iter (Ir a0 O) 1) λs4 =>
  some (.inr (w64 (O+1)))
 else
  some (.inl (.inr ()))
def NN (a0:List V3):Option (Int) :=
 Bc (iter (NM a0) 0) λs1 =>
 some (-1)
theorem zl4 (a0:List V3):Ah Tryz.prog 77 [.rd (A8 aZ) a0] [] (NN a0) (λr nv=>⟨[.rd A3 r],[]⟩):=by
 refine Am 28 func77 Z Z Z λH w=>?_;refine A2<|Zb Z<|BM (λ(s1:Unit) O U=>Sta (ctx 28 H [] w) [] [] O U) ?_ (λs1=>?_)
 ·refine A2<|Zb Z<|AJ (λ(s2:Int) O U=>Sta (ctx 28 H [] w) [(0,.rd (A8 aZ) a0),(3,.rd A3 s2)] [] O U) (λO U h=>Zu h []) (λs2=>?_);refine A6<|A2<|Zm Z<|Zq (I.lss Z Z)<|Zj Z (λh3=>?_) (λh3=>?_)
  ·refine Zt<|BM (λ(s4:Unit) O U=>Sta (ctx 28 H [] w) [(0,.rd (A8 aZ) a0),(3,.rd A3 s2)] [] O U) ?_ (λs4=>?_)
   ·refine AB<|A2<|Zb Z<|AJ (λ(s5:Int) O U=>Sta (ctx 28 H [] w) [(0,.rd (A8 aZ) a0),(3,.rd A3 s2),(4,.rd A3 s5)] [] O U) (λO U h=>Zu h []) (λs5=>?_);refine A6<|A2<|Zm Z<|Zm Z<|Zq (Aq Z .rd Z tu28)<|Zq (I.lss Z Z)<|Zj Z (λh6=>?_) (λh6=>?_)
    ·refine Zt<|A6<|AB<|A6<|Bq [] mixed Z Z<|A4 0 Z Z (mv Z)<|A4 1 Z Z (mv Z)<|AZ λx7 h8=>A4 2 Z Z (ixR Z Z h8 tu28 Ak Z)<|A4 3 Z Z (ldR Z Aw)<|A4 4 Z Z (mv Z)<|A4 6 Z Z (mv Z)<|AZ λx9 a1=>A4 7 Z Z (ixR Z Z a1 tu28 Ak Z)<|A4 8 Z Z (ldR Z Aw)<|A4 9 Z Z (mv Z)<|Be 5 [] [] Z (by kernel_rfl) Z (gd0 Z) Z func127 Z Z (PS _ _) (Y2 Z Z) rN Z (λ_ _=>DY) λa6 a7=>Be 10 [] [] Z (by kernel_rfl) Z (gd0 Z) Z func127 Z Z (PS _ _) (Y2 Z Z) rN Z (λ_ _=>DY) λa8 ab=>A4 11 Z Z (neB underlying4 Z Z)<|AV (by kernel_rfl)<|Af<|gIf Z Z (λa2=>?_) (λa2=>?_)
     ·refine A2<|Zm Z<|Zb Z<|A5<|Bh<|An<|BE<|Bh<|Bk<|BE<|Bk<|Ze [] [] Z
     ·refine AW<|Ap<|Af<|Ai<|Zm Z<|Zq (I.add Z Z)<|Za Z<|Ae<|Au (λO U h=>Zu h [])
    ·refine AC<|AD<|AG<|Ap<|BA (λO U h=>Zu h [])
   ·refine Ai<|Zm Z<|Zq (I.add Z Z)<|Za Z<|Ae<|Au (λO U h=>Zu h [])
  ·refine AC<|AD<|AG<|BA (λO U h=>Zu h [])
 ·refine A2<|Zb Z<|A5<|Ze [] [] Z
def NO (a0:List V3) (a1:Int) (a2:Bool) (O:(List V3) × Int):Option (Sum ((List V3)) ((List V3) × Int)) :=
 if decide (O.2<(a0.length:Int)) then
  idx a0 O.2>>=λx5 =>
  Iq x5 a1>>=λr7 =>
  if r7==a2 then
   idx a0 O.2>>=λU =>
   app 32 O.1 [U]>>=λa6 =>
   some (w64 (O.2+1))>>=λa7 =>
   some (.inr (a6,a7))
  else
   some (w64 (O.2+1))>>=λa8 =>
   some (.inr (O.1,a8))
 else
  some (.inl O.1)
def KE (a0:List V3) (O:Int) (U:Bool):Option ((List V3)) :=
 (iter (NO a0 O U) ([],0))>>=λs1 =>
 some s1
theorem Us (a0:List V3) (a1:Int) (a2:Bool):Ah Tryz.prog 79 [.rd (A8 aZ) a0,.rd A3 a1,.rd Ac a2] [] (KE a0 a1 a2) (λr O=>⟨[.val (O 0)],[(100,some (O 0,.list aZ 71 r))]⟩):=by
 refine Am 31 func79 Z Z Z λH w=>?_;refine A2<|Zb Z<|A2<|Zb Z<|AY (λ(s1:(List V3)) U ww=>∃ O:Nat->Value,Sta (ctx 31 H [] w) [(7,.val (O 0))] [(2,some ((O 0),.list aZ 71 s1))] U ww) ?_ (λs1=>?_)
 ·refine A2<|Zb Z<|Dk aZ 71 5<|AJ (λ(s2:(List V3) × Int) U ww=>∃ O:Nat->Value,Sta (ctx 31 H [] w) [(0,.rd (A8 aZ) a0),(1,.rd A3 a1),(2,.rd Ac a2),(7,.val (O 0)),(8,.rd A3 s2.2)] [(4,some ((O 0),.list aZ 71 s2.1))] U ww) (λU ww h=>⟨nvl [(.slice none 0 0)],Zu h [5]⟩) (λs2=>?_);refine gEx λn3=>A6<|A2<|Zm Z<|Zm Z<|Zq (Aq Z .rd Z tu28)<|Zq (I.lss Z Z)<|Zj Z (λh4=>?_) (λh4=>?_)
  ·refine Zt<|A6<|AB<|A2<|Zm Z<|Zm Z<|Al λx5 h6=>Zq (ixR Z Z h6 tu28 Ak Z)<|Zq (ldR Z Aw)<|Zm Z<|Zc [] [] func127 Z (PS _ _) λr7 n8=>Zm Z<|Zq (eqB underlying4 Z Z)<|Zj Z (λh9=>?_) (λh9=>?_)
   ·refine Ai<|Zm Z<|Zm Z<|Zm Z<|Al λa6 a7=>Zq (ixR Z Z a7 tu28 Ak Z)<|Zq (ldR Z Aw)<|Ef Z (lit (R:=aZ) ([a6]:List V3) 6 (pP Z Z<|pN) Z tu28 Ak Z Z) λad=>BW 6 [28] Z (fS Z<|fN)<|Al λae a8=>Ef Z (apn 4 Z Z Z .rd a8 tu28 Ak Z Z Z) λab=>Za Z<|Ae<|Ap<|Af<|Ai<|Zm Z<|Zq (I.add Z Z)<|Za Z<|AI 8 Z λaf=>Ae<|Au (λU ww h=>⟨nvl [ab],Zu h [4]⟩)
   ·refine AW<|Ap<|Af<|Ai<|Zm Z<|Zq (I.add Z Z)<|Za Z<|AI 8 Z λah=>Ae<|Au (λU ww h=>⟨nvl [(n3 0)],Zu h [4]⟩)
  ·refine AC<|AD<|AG<|Av (λU ww h=>⟨nvl [(n3 0)],Zu h [4]⟩)
 ·refine gEx λac=>A2<|Zm Z<|Zb Z<|A5<|Ze [(ac 0)] [2] Z
def NP (a0:Int) (U:V3) (a2:V3):Option (V3) :=
 app 1 [1,UInt8.ofInt a0] U.toList>>=λx5 =>
 app 1 x5 a2.toList>>=λx8 =>
 Gy x8>>=λO =>
 some O
theorem zn2 (a0:Int) (O:V3) (U:V3):Ah Tryz.prog 78 [.rd A3 a0,.rd aZ O,.rd aZ U] [] (NP a0 O U) (λr nv=>⟨[.rd aZ r],[]⟩):=by
 refine Am 17 func78 Z Z Z λH w=>?_;refine A2<|Eb Z (bx 1 Z) λv1=>Eb Z (bx 2 Z) λv2=>Eb Z (AN 3 Ak (.zr (R:=aZ) (x:=(Vector.replicate 32 0)) BU)) λv3=>Zn<|A2<|Zm Z<|Zq (I.toB Z tu3 tu5)<|Ef Z (lit (R:=u8R) ([1,UInt8.ofInt a0]:List UInt8) 4 (pP Z Z<|pP Z Z<|pN) Z tu36 ti5 Z Z) λv4=>Gg 1 4 Z Z<|Zq (CO Z tu71 ti5 Z Z Z)<|Al λx5 h6=>Ef Z (apn 4 Z Z Z .rd h6 tu36 ti5 Z Z Z) λv7=>Zb Z<|A2<|Zm Z<|Gg 2 5 Z Z<|Zq (CO Z tu71 ti5 Z Z Z)<|Al λx8 h9=>Ef Z (apn 4 Z Z Z .rd h9 tu36 ti5 Z Z Z) λa6=>BW 4 [15] Z (fS Z<|fN)<|Zc [] [] func65 Z (Jw _) λa7 a8=>Es (sto 3 Z Z fH Z Ak)<|Zn<|A5<|BF [] [] Z (eC 3 Z Z Aw<|eN) (rN)
def NQ (rec:(List V3)->Option (V3)) (a0:List V3):Option (V3) :=
 if (a0.length:Int)==0 then
  some (Vector.replicate 32 0)
 else
  if (a0.length:Int)==1 then
   idx a0 0>>=λx4 =>
   NL x4>>=λr6 =>
   some r6
  else
   NN a0>>=λO =>
   KE a0 O false>>=λU =>
   rec U>>=λa1 =>
   KE a0 O true>>=λa2 =>
   rec a2>>=λa6 =>
   NP O a1 a6>>=λa7 =>
   some a7
def ET:Nat->(List V3)->Option (V3)
 | 0,_=>none
 | N+1,a0=>NQ (ET N) a0
theorem zpb (rec:(List V3)->Option (V3)) (O:∀ (a0:List V3),Ah Tryz.prog 38 [.rd (A8 aZ) a0] [] (rec a0) (λr U=>⟨[.rd aZ r],[]⟩)) (a0:List V3):Ah Tryz.prog 38 [.rd (A8 aZ) a0] [] (NQ rec a0) (λr U=>⟨[.rd aZ r],[]⟩):=by
 refine Am 27 func38 Z Z Z λH w=>?_;refine A2<|Eb Z (AN 1 Ak (.zr (R:=aZ) (x:=(Vector.replicate 32 0)) BU)) λv1=>Zn<|A6<|A2<|Zm Z<|Zq (Aq Z .rd Z tu28)<|Zq (I.eql Z Z)<|Zj Z (λh2=>?_) (λh2=>?_)
 ·refine A2<|Zq (bldG (x':=((Vector.replicate 32 0):V3)) tu71 Ak BU ti5 (Bld.done Z))<|Es (sto 1 Z Z fH Z Ak)<|Zn<|A5<|An<|BF [] [] Z (eC 1 Z Z Aw<|eN) (rN)
 ·refine Zt<|A6<|A2<|Zm Z<|Zq (Aq Z .rd Z tu28)<|Zq (I.eql Z Z)<|Zj Z (λh3=>?_) (λh3=>?_)
  ·refine A2<|Zm Z<|Al λx4 h5=>Zq (ixR Z Z h5 tu28 Ak Z)<|Zq (ldR Z Aw)<|Zc [] [] func76 Z (znj _) λr6 n7=>Es (sto 1 Z Z fH Z Ak)<|Zn<|A5<|An<|BF [] [] Z (eC 1 Z Z Aw<|eN) (rN)
  ·refine Zt<|A2<|Zm Z<|Zc [] [] func77 Z (zl4 _) λr8 n9=>Zb Z<|A2<|Zm Z<|Zm Z<|Zm Z<|Zc [] [(100,2)] func79 Z (Us _ _ _) λa1 a2=>BW 2 [20] Z (fS Z<|fN)<|Zc [] [] func38 Z (O _) λa6 a7=>Zm Z<|Zm Z<|Zc [] [(100,3)] func79 Z (Us _ _ _) λa8 aa=>BW 3 [24] Z (fS Z<|fN)<|Zc [] [] func38 Z (O _) λab ac=>Zc [] [] func78 Z (zn2 _ _ _) λad ae=>Es (sto 1 Z Z fH Z Ak)<|Zn<|A5<|BF [] [] Z (eC 1 Z Z Aw<|eN) (rN)
theorem Ut:∀ (N:Nat) (a0:List V3),Ah Tryz.prog 38 [.rd (A8 aZ) a0] [] (ET N a0) (λr nv=>⟨[.rd aZ r],[]⟩)
 | 0,a0=>λr O=>absurd O (by simp[ET])
 | N+1,a0=>zpb (ET N) (Ut N) a0
theorem Uu (a0:List V3):Ah Tryz.prog 38 [.rd (A8 aZ) a0] [] (ET 1000 a0) (λr nv=>⟨[.rd aZ r],[]⟩):=Ut 1000 a0
end
section
def Hv (c0_0:CQ) (O:Int):Option (CQ) :=
 Ev (UInt64.ofInt O)>>=λU =>
 app 1 c0_0.bytes.b U>>=λx4 =>
 some (⟨⟨x4⟩,c0_0.bad⟩:CQ)
theorem NR (p0_0:Value) (q0_0_0:Value) (c0_0:CQ) (U:Int):Ah Tryz.prog 17 [.val (A7 p0_0 (0+0)),.rd A3 U] [(2,some (q0_0_0,.list u8R 5 c0_0.bytes.b)),(1,some (p0_0,.box 65 [.val q0_0_0,.rd A3 c0_0.bad]))] (Hv c0_0 U) (λr O=>⟨[],[(2,some (O 0,.list u8R 5 r.bytes.b)),(1,some (p0_0,.box 65 [.val (O 0),.rd A3 r.bad]))]⟩):=by
 refine Am 15 func17 Z Z Z λH w=>?_;refine EJ [(0,.val (A7 p0_0 (0+0))),(1,.rd A3 U)] [(2,some (q0_0_0,.list u8R 5 c0_0.bytes.b)),(1,some (p0_0,.box 65 [.val q0_0_0,.rd A3 c0_0.bad]))] [2,1] (sS Z<|sS Z<|sN) (Zi Z<|Zi Z<|rN)<|Ca λr1 h3=>Ca λx4 h5=>gOr [] [⟨1,some ([], λO=>(p0_0,.box 65 [.val q0_0_0,.rd A3 c0_0.bad])),[(11,some ([2], λO=>(p0_0,.box 65 [.val (O 2),.rd A3 c0_0.bad])))]⟩,⟨3,none,[(7,some ([1], λO=>((O 1),.list u8R 5 r1)))]⟩,⟨2,some ([], λO=>(q0_0_0,.list u8R 5 c0_0.bytes.b)),[(8,some ([2], λO=>((O 2),.list u8R 5 x4)))]⟩] [pd 4 (.val (A7 p0_0 (0+0))),pd 5 (.val (A7 p0_0 (0+0))),pk 6 (.val (A7 p0_0 (0+0))) [(0,0,false)],pk 7 (.val (A7 p0_0 (0+0+0))) [(0,0,false)],pk 8 (.val q0_0_0) [(0,0,false)],pd 9 (.rd A3 U),pd 10 (.rd Ar (UInt64.ofInt U)),⟨some (11,[1], λO=>.val (O 1)),[(1,0,true)],[1],[]⟩,⟨some (12,[2], λO=>.val (O 2)),[(2,0,true),(1,1,false)],[2],[]⟩,pk 13 (.val (A7 p0_0 (0+0))) [(0,0,false)],pk 14 (.val (A7 p0_0 (0+0+0))) [(0,0,false)],⟨none,[(2,1,false),(0,0,true)],[],[]⟩] mixed (oC (oRn (λO E=>mv Z))<|oC (oRn (λO E=>mv Z))<|oC (oRn (λO E=>nckB 1 Z Z))<|oC (oRn (λO E=>faB 1 Z Z underlying63 Z (by exact CD)))<|oC (oRn (λO E=>ldV 1 Z Z (At.cast At.here Z) sc36 Z))<|oC (oRn (λO E=>mv Z))<|oC (oRn (λO E=>I.toU Z tu3 tu52))<|oC (oCl [1] [] [(100,3)] h3 func22 Z (λO=>(EX _)) (λO=>(Y1 Z)) (λO E=>rN))<|oC (oEf 2 2 (λO E=>apn 2 Z Z Z (.own 3 Z) h5 tu36 ti5 Z Z Z))<|oC (oRn (λO E=>nckB 1 Z Z))<|oC (oRn (λO E=>faB 1 Z Z underlying63 Z (by exact CD)))<|oC (oEs 1 (λO E=>DI 1 Z Z (By.cast (By.here BG) Z) Z Cx BG CD))<|oN) λn6=>Ze [(n6 2)] [2,1] Z
def It (c0_0:CQ) (O:V3):Option (CQ) :=
 app 1 c0_0.bytes.b O.toList>>=λU =>
 some (⟨⟨U⟩,c0_0.bad⟩:CQ)
theorem PT (p0_0:Value) (q0_0_0:Value) (c0_0:CQ) (O:V3):Ah Tryz.prog 20 [.val (A7 p0_0 (0+0)),.rd aZ O] [(2,some (q0_0_0,.list u8R 5 c0_0.bytes.b)),(1,some (p0_0,.box 65 [.val q0_0_0,.rd A3 c0_0.bad]))] (It c0_0 O) (λr U=>⟨[],[(2,some (U 0,.list u8R 5 r.bytes.b)),(1,some (p0_0,.box 65 [.val (U 0),.rd A3 r.bad]))]⟩):=by
 refine Am 13 func20 Z Z Z λH w=>?_;refine A2<|Eb Z (bx 3 Z) λv1=>Zn<|DO 3 3 Z Z<|Bq [1,2] mixed Z Z<|A4 0 Z Z (mv Z)<|A4 1 Z Z (mv Z)<|A4 2 Z Z (nckB 1 Z Z)<|A4 3 Z Z (faB 1 Z Z underlying63 Z (by exact CD))<|A4 5 Z Z (CO Z tu71 ti5 Z Z Z)<|hRun 4 Z (by kernel_rfl) (gd0 Z) Z Z C1 (ldV 1 Z Z (At.cast At.here Z) sc36 Z)<|AZ λx2 h3=>Zo 6 Z Z Z (apn 2 Z Z Z .rd h3 tu36 ti5 Z Z Z) λv4=>A4 7 Z Z (nckB 1 Z Z)<|A4 8 Z Z (faB 1 Z Z underlying63 Z (by exact CD))<|Zp 9 Z Z Z Z Z (DI 1 Z Z (By.cast (By.here BG) Z) Z Cx BG CD)<|AV (by kernel_rfl)<|Ze [v4] [2,1] Z
def NS (U:List V3) (O:(List UInt8) × Int × Int):Option (Sum CQ ((List UInt8) × Int × Int)) :=
 if decide (O.2.2<(U.length:Int)) then
  idx U O.2.2>>=λx6 =>
  It (⟨⟨O.1⟩,O.2.1⟩:CQ) x6>>=λr9 =>
  some (.inr (r9.bytes.b,r9.bad,w64 (O.2.2+1)))
 else
  some (.inl (⟨⟨O.1⟩,O.2.1⟩:CQ))
def NT (c0_0:CQ) (O:List V3):Option (CQ) :=
 Hv c0_0 (O.length:Int)>>=λU =>
 iter (NS O) (U.bytes.b,U.bad,0)
theorem zib (p0_0:Value) (q0_0_0:Value) (c0_0:CQ) (U:List V3):Ah Tryz.prog 18 [.val (A7 p0_0 0),.rd (A8 aZ) U] [(2,some (q0_0_0,.list u8R 5 c0_0.bytes.b)),(1,some (p0_0,.box 65 [.val q0_0_0,.rd A3 c0_0.bad]))] (NT c0_0 U) (λr O=>⟨[],[(2,some (O 0,.list u8R 5 r.bytes.b)),(1,some (p0_0,.box 65 [.val (O 0),.rd A3 r.bad]))]⟩):=by
 refine Am 27 func18 Z Z Z λH w=>?_;refine A2<|Zm Z<|Zq (nckB 1 Z Z)<|Zq (faB 1 Z Z underlying65 Z (by exact ti63))<|Zm Z<|Zq (Aq Z .rd Z tu28)<|Zc [2,1] [(2,2),(1,1)] func17 Z (NR _ _ _ _) λr1 n2=>Zn<|A2<|Zm Z<|Zq (nckB 1 Z Z)<|Zq (faB 1 Z Z underlying65 Z (by exact ti63))<|Zq (mkf (mp1 Z) mp0)<|Zb Z<|A2<|Zm Z<|Zq (Aq Z .rd Z tu28)<|Zm Z<|Zn<|AJ (λ(s3:(List UInt8) × Int × Int) aa ww=>∃ O:Nat->Value,Sta (ctx 27 H [(2,some (q0_0_0,.list u8R 5 c0_0.bytes.b)),(1,some (p0_0,.box 65 [.val q0_0_0,.rd A3 c0_0.bad]))] w) [(4,.val (.func (.func 20) #[A7 p0_0 (0+0)] #[])),(17,.rd (A8 aZ) U),(18,.rd A3 (U.length:Int)),(19,.rd A3 s3.2.2)] [(2,some ((O 0),.list u8R 5 s3.1)),(1,some (p0_0,.box 65 [.val (O 0),.rd A3 s3.2.1]))] aa ww) (λaa ww h=>⟨nvl [(n2 0)],Zu h [2,1]⟩) (λs3=>?_)
 refine gEx λn4=>A2<|Zq (I.lss Z Z)<|Zn<|A6<|gIf Z Z (λh5=>?_) (λh5=>?_)
 ·refine Zt<|A6<|AB<|A2<|Al λx6 h7=>Zq (ixR Z Z h7 tu28 Ak Z)<|Zq (ldR Z Aw)<|Eb Z (AN 3 Ak (.zr (R:=aZ) (x:=(Vector.replicate 32 0)) BU)) λv8=>Es (sto 3 Z Z fH Z Ak)<|Zn<|Ai<|Zm Z<|Zq (ld 3 Z Z fH Aw Z)<|Ks [2,1] [(2,2),(1,1)] (gd0 Z) Z Z func20 Z Z (PT _ _ _ _) (Y1 Z) (cQ 1 Z<|cN) (Zi Z<|Zi Z<|rN) λr9 a2=>Ae<|Ap<|Af<|Ai<|Zq (I.add Z Z)<|Zm Z<|Ae<|Au (λaa ww h=>⟨nvl [(a2 0)],Zu h [2,1]⟩)
 ·refine AC<|AD<|AG<|Ze [(n4 0)] [2,1] Z
def KF (c0_0:CQ) (U:List UInt8):Option (CQ) :=
 chk (U.length<=281474976710656)>>=λu1 =>
 Gv U>>=λO =>
 (if O.2 != 0 then
  some O.2
 else
  some c0_0.bad)>>=λs5 =>
 app 1 c0_0.bytes.b O.1>>=λx7 =>
 some (⟨⟨x7⟩,s5⟩:CQ)
theorem Uv (p0_0:Value) (q0_0_0:Value) (c0_0:CQ) (a1:List UInt8):Ah Tryz.prog 19 [.val (A7 p0_0 0),.rd BI a1] [(2,some (q0_0_0,.list u8R 5 c0_0.bytes.b)),(1,some (p0_0,.box 65 [.val q0_0_0,.rd A3 c0_0.bad]))] (KF c0_0 a1) (λr nv=>⟨[],[(2,some (nv 0,.list u8R 5 r.bytes.b)),(1,some (p0_0,.box 65 [.val (nv 0),.rd A3 r.bad]))]⟩):=by
 refine Am 29 func19 Z Z Z λH w=>?_;refine A2<|Zm Z<|Al λu1 h2=>IS Z Z h2 tu9 tu36 tu5<|Zc [] [(100,3)] func42 Z (LU _) λr3 n4=>Zm Z<|Zq (ext Z Z)<|Zq (ext Z Z)<|Za Z<|Zb Z<|AY (λ(s5:Int) O U=>Sta (ctx 29 H [(2,some (q0_0_0,.list u8R 5 c0_0.bytes.b)),(1,some (p0_0,.box 65 [.val q0_0_0,.rd A3 c0_0.bad]))] w) [(0,.val (A7 p0_0 0)),(4,.val (n4 0))] [(2,some (q0_0_0,.list u8R 5 c0_0.bytes.b)),(1,some (p0_0,.box 65 [.val q0_0_0,.rd A3 s5])),(3,some ((n4 0),.list u8R 5 r3.1))] O U) ?_ (λs5=>?_)
 ·refine A2<|Zm Z<|Zq (I.neq Z Z)<|Zj Z (λh6=>?_) (λh6=>?_)
  ·refine Ai<|Zm Z<|Zm Z<|Zq (nckB 1 Z Z)<|Zq (faB 1 Z Z underlying65 Z (by exact ti37))<|Es (sto 1 Z Z (Foc.cast (Foc.next BG fH) Z) Z ti37)<|Ae<|Av (λO U h=>Zu h [2,1,3])
  ·refine AW<|Av (λO U h=>Zu h [2,1,3])
 ·refine Ai<|Zm Z<|Zm Z<|Zq (nckB 1 Z Z)<|Zq (faB 1 Z Z underlying65 Z (by exact ti63))<|Zq (faB 1 Z Z underlying63 Z (by exact CD))<|Zq (ldV 1 Z Z (At.cast At.here Z) sc36 Z)<|Zm Z<|Al λx7 h8=>Ef Z (apn 2 Z Z Z (.own 3 Z) h8 tu36 ti5 Z Z Z) λv9=>Zq (nckB 1 Z Z)<|Zq (faB 1 Z Z underlying65 Z (by exact ti63))<|Zq (faB 1 Z Z underlying63 Z (by exact CD))<|Es (DI 1 Z Z (By.cast (By.here BG) Z) Z Cx BG CD)<|Ae<|Ze [v9] [2,1] Z
def KG (a0:Bt) (O:(List UInt8) × Int × Int):Option (Sum ((List UInt8) × Int) ((List UInt8) × Int × Int)) :=
 if decide (O.2.2<(a0.Set.List.length:Int)) then
  idx a0.Set.List O.2.2>>=λU =>
  KF (⟨⟨O.1⟩,O.2.1⟩:CQ) U.Key>>=λa2 =>
  It a2 U.ID>>=λa1 =>
  some (.inr (a1.bytes.b,a1.bad,w64 (O.2.2+1)))
 else
  some (.inl (O.1,O.2.1))
def KH (a0:Bt) (O:(List UInt8) × Int × Int):Option (Sum (Sum ((List UInt8) × Int) ((List UInt8) × Int)) ((List UInt8) × Int × Int)) :=
 if decide (O.2.2<(a0.Regs.List.length:Int)) then
  idx a0.Regs.List O.2.2>>=λU =>
  KF (⟨⟨O.1⟩,O.2.1⟩:CQ) U.Key>>=λa2 =>
  J6 U.Value>>=λa1 =>
  if a1.2 != 0 then
   some (.inl (.inl ([],a1.2)))
  else
   app 1 a2.bytes.b a1.1>>=λa7 =>
   Ev U.Stamp>>=λa8 =>
   app 1 a7 a8>>=λaa =>
   It (⟨⟨aa⟩,a2.bad⟩:CQ) U.ID>>=λa6 =>
   some (.inr (a6.bytes.b,a6.bad,w64 (O.2.2+1)))
 else
  some (.inl (.inr (O.1,O.2.1)))
def GD (a0:Bt):Option ((List UInt8) × Int) :=
 Hs a0>>=λr2 =>
 if r2 != 0 then
  some ([],r2)
 else
  Hv (⟨⟨[]⟩,0⟩:CQ) a0.Version>>=λr6 =>
  NT r6 a0.Heads>>=λr8 =>
  Hv r8 (a0.Set.List.length:Int)>>=λU =>
  (iter (KG a0) (U.bytes.b,U.bad,0))>>=λa1 =>
  Hv (⟨⟨a1.1⟩,a1.2⟩:CQ) (a0.Regs.List.length:Int)>>=λa2 =>
  Bc (iter (KH a0) (a2.bytes.b,a2.bad,0)) λO =>
  if O.2 != 0 then
   some ([],O.2)
  else
   some (O.1,0)
theorem Uw (a0:Bt):Ah Tryz.prog 6 [.rd Ch a0] [] (GD a0) (λr O=>⟨[.val (O 0),.rd A3 r.2],[(100,some (O 0,.list u8R 5 r.1))]⟩):=by
 refine Am 103 func6 Z Z Z λH w=>?_;refine A2<|Eb Z (bx 1 Z) λv1=>Za Z<|Zb Z<|A6<|A2<|Zq (ld 1 Z Z fH DK Z)<|Zc [] [] func16 Z (zu6 _) λr2 n3=>Zb Z<|A2<|Zm Z<|Zq (I.neq Z Z)<|Zj Z (λh4=>?_) (λh4=>?_)
 ·refine A2<|Zm Z<|Za Z<|Zb Z<|A5<|An<|Cl u8R 5 2<|Ze [(.slice none 0 0)] [2] Z
 ·refine Zt<|A2<|Eb Z (AN 3 ti65 (ZrE.nilS (ZrE.rd (R:=A3) (x:=0) (Zr.num Z) ZrE.nil Z))) λv5=>Zn<|A2<|Zq (faB 3 Z Z underlying65 Z (by exact ti63))<|Zq (faB 1 Z Z underlying30 Z (by exact ti3))<|Zq (ld 1 Z Z (fP (F8 _)) ty3 Z)<|lNew u8R 5 4<|Zc [4,3] [(2,4),(1,3)] func17 Z (NR _ _ _ _) λr6 n7=>Zn<|A2<|Zq (faB 1 Z Z underlying30 Z (by exact AU))<|Zq (ld 1 Z Z (fP (F9 _)) B0 Z)<|Zc [4,3] [(2,4),(1,3)] func18 Z (zib _ _ _ _) λr8 n9=>Zn<|A2<|Zq (mkf (mp1 Z) mp0)<|Zq (faB 3 Z Z underlying65 Z (by exact ti63))<|Zq (mkf (mp1 Z) mp0)<|Za Z<|Zb Z<|A2<|Zq (faB 3 Z Z underlying65 Z (by exact ti63))<|Zq (faB 1 Z Z underlying30 Z (by exact D7))<|Zq (faB 1 Z Z underlying24 Z (by exact Df))<|Zq (ld 1 Z Z ((fP (Fs _)).part (E6 _)) Ea Z)<|Zq (Aq Z .rd Z tu22)<|Zc [4,3] [(2,4),(1,3)] func17 Z (NR _ _ _ _) λau a8=>Zn<|AY (λ(a6:(List UInt8) × Int) U ww=>∃ O:Nat->Value,Sta (ctx 103 H [] w) [(1,.val (A7 v1 0)),(5,.val (A7 v5 0)),(6,.val (.func (.func 19) #[A7 v5 0] #[])),(7,.val (.func (.func 20) #[A7 v5 (0+0)] #[]))] [(1,some (v1,.box 30 [.rd Ch a0])),(4,some ((O 0),.list u8R 5 a6.1)),(3,some (v5,.box 65 [.val (O 0),.rd A3 a6.2]))] U ww) ?_ (λa6=>?_)
  ·refine A2<|Zq (faB 1 Z Z underlying30 Z (by exact D7))<|Zq (faB 1 Z Z underlying24 Z (by exact Df))<|Zq (ld 1 Z Z ((fP (Fs _)).part (E6 _)) Ea Z)<|Zq (Aq Z .rd Z tu22)<|Zm Z<|Zn<|AJ (λ(a1:(List UInt8) × Int × Int) U ww=>∃ O:Nat->Value,Sta (ctx 103 H [] w) [(1,.val (A7 v1 0)),(5,.val (A7 v5 0)),(6,.val (.func (.func 19) #[A7 v5 0] #[])),(7,.val (.func (.func 20) #[A7 v5 (0+0)] #[])),(37,.rd (A8 Bi) a0.Set.List),(38,.rd A3 (a0.Set.List.length:Int)),(39,.rd A3 a1.2.2)] [(1,some (v1,.box 30 [.rd Ch a0])),(4,some ((O 0),.list u8R 5 a1.1)),(3,some (v5,.box 65 [.val (O 0),.rd A3 a1.2.1]))] U ww) (λU ww h=>⟨nvl [(a8 0)],Zu h [1,4,3]⟩) (λa1=>?_)
   refine gEx λab=>A2<|Zq (I.lss Z Z)<|Zn<|A6<|gIf Z Z (λac=>?_) (λac=>?_)
   ·refine Zt<|A6<|AB<|A2<|Al λav ad=>Zq (ixR Z Z ad tu22 Cq Z)<|Zq (ldR Z EI)<|Eb Z (AN 5 Cq (.zr (R:=Bi) (x:=(⟨[],(Vector.replicate 32 0)⟩:AT)) Gm)) λaw=>Es (sto 5 Z Z fH Z Cq)<|Zn<|A2<|Zm Z<|Zq (faB 5 Z Z underlying73 Z (by exact ti9))<|Zq (ld 5 Z Z (fP (EH _)) ty9 Z)<|Ks [4,3] [(2,4),(1,3)] (gd0 Z) Z Z func19 Z Z (Uv _ _ _ _) (Y1 Z) (cQ 3 Z<|cN) (Zi Z<|Zi Z<|rN) λax ay=>Zn<|Ai<|Zm Z<|Zq (faB 5 Z Z underlying73 Z (by exact Ak))<|Zq (ld 5 Z Z (fP (FL _)) Aw Z)<|Ks [4,3] [(2,4),(1,3)] (gd0 Z) Z Z func20 Z Z (PT _ _ _ _) (Y1 Z) (cQ 3 Z<|cN) (Zi Z<|Zi Z<|rN) λaz ae=>Ae<|Ap<|Af<|Ai<|Zq (I.add Z Z)<|Zm Z<|Ae<|Au (λU ww h=>⟨nvl [(ae 0)],Zu h [1,4,3]⟩)
   ·refine AC<|AD<|AG<|Av (λU ww h=>⟨nvl [(ab 0)],Zu h [1,4,3]⟩)
  ·refine gEx λb0=>A2<|Zq (faB 3 Z Z underlying65 Z (by exact ti63))<|Zq (faB 1 Z Z underlying30 Z (by exact D8))<|Zq (faB 1 Z Z underlying27 Z (by exact Dm))<|Zq (ld 1 Z Z ((fP (Ft _)).part (E8 _)) Ec Z)<|Zq (Aq Z .rd Z tu25)<|Zc [4,3] [(2,4),(1,3)] func17 Z (NR _ _ _ _) λb1 af=>Zn<|BM (λ(a7:(List UInt8) × Int) U ww=>∃ O:Nat->Value,Sta (ctx 103 H [] w) [(5,.val (A7 v5 0))] [(4,some ((O 0),.list u8R 5 a7.1)),(3,some (v5,.box 65 [.val (O 0),.rd A3 a7.2]))] U ww) ?_ (λa7=>?_)
   ·refine A2<|Zq (faB 1 Z Z underlying30 Z (by exact D8))<|Zq (faB 1 Z Z underlying27 Z (by exact Dm))<|Zq (ld 1 Z Z ((fP (Ft _)).part (E8 _)) Ec Z)<|Zq (Aq Z .rd Z tu25)<|Zm Z<|Zn<|AJ (λ(a2:(List UInt8) × Int × Int) U ww=>∃ O:Nat->Value,Sta (ctx 103 H [] w) [(5,.val (A7 v5 0)),(6,.val (.func (.func 19) #[A7 v5 0] #[])),(7,.val (.func (.func 20) #[A7 v5 (0+0)] #[])),(60,.rd (A8 B7) a0.Regs.List),(61,.rd A3 (a0.Regs.List.length:Int)),(62,.rd A3 a2.2.2)] [(4,some ((O 0),.list u8R 5 a2.1)),(3,some (v5,.box 65 [.val (O 0),.rd A3 a2.2.1]))] U ww) (λU ww h=>⟨nvl [(af 0)],Zu h [4,3]⟩) (λa2=>?_)
    refine gEx λah=>A2<|Zq (I.lss Z Z)<|Zn<|A6<|gIf Z Z (λai=>?_) (λai=>?_)
    ·refine Zt<|A6<|AB<|A2<|Al λb2 aj=>Zq (ixR Z Z aj tu25 Cf Z)<|Zq (ldR Z Ed)<|Eb Z (AN 6 Cf (.zr (R:=B7) (x:=(⟨[],(⟨0,0,0,[]⟩:Ay),0,(Vector.replicate 32 0)⟩:AP)) Gn)) λb3=>Es (sto 6 Z Z fH Z Cf)<|Zn<|A2<|Zm Z<|Zq (faB 6 Z Z underlying75 Z (by exact ti9))<|Zq (ld 6 Z Z (fP (E7 _)) ty9 Z)<|Ks [4,3] [(2,4),(1,3)] (gd0 Z) Z Z func19 Z Z (Uv _ _ _ _) (Y1 Z) (cQ 3 Z<|cN) (Zi Z<|Zi Z<|rN) λb4 b5=>Zn<|A2<|Zq (faB 6 Z Z underlying75 Z (by exact Cp))<|Zq (ld 6 Z Z (fP (GY _)) Dv Z)<|Zc [] [(100,7)] func21 Z (SY _) λb6 b7=>Zm Z<|Zq (ext Z Z)<|Zq (ext Z Z)<|Za Z<|Zb Z<|A6<|A2<|Zm Z<|Zq (I.neq Z Z)<|Zj Z (λak=>?_) (λak=>?_)
     ·refine A2<|Zm Z<|Za Z<|Zb Z<|A5<|An<|Bh<|An<|BE<|Bk<|Cl u8R 5 8<|Ze [(.slice none 0 0)] [8] Z
     ·refine Zt<|A6<|Bq [3,4,30] mixed Z Z<|A4 0 Z Z (faB 3 Z Z underlying65 Z (by exact ti63))<|A4 1 Z Z (faB 3 Z Z underlying63 Z (by exact CD))<|A4 3 Z Z (mv Z)<|A4 5 Z Z (faB 6 Z Z underlying75 Z (by exact CV))<|A4 6 Z Z (ld 6 Z Z (fP (Fr _)) CR Z)<|hRun 2 Z (by kernel_rfl) (gd0 Z) Z Z C1 (ldV 3 Z Z (At.cast At.here Z) sc36 Z)<|AZ λb8 am=>Zo 4 Z Z Z (apn 4 Z Z Z (.own 7 Z) am tu36 ti5 Z Z Z) λb9=>Be 7 [] [(100,30)] Z (by kernel_rfl) Z (gd0 Z) Z func22 Z Z (EX _) (Y1 Z) rN Z (λ_ _=>C1) λba bb=>AZ λbc ao=>Zo 8 Z Z Z (apn 4 Z Z Z (.own 30 Z) ao tu36 ti5 Z Z Z) λv45=>A4 9 Z Z (faB 3 Z Z underlying65 Z (by exact ti63))<|A4 10 Z Z (faB 3 Z Z underlying63 Z (by exact CD))<|Zp 11 Z Z Z Z Z (DI 3 Z Z (By.cast (By.here BG) Z) Z Cx BG CD)<|AV (by kernel_rfl)<|Af<|Ai<|Zm Z<|Zq (faB 6 Z Z underlying75 Z (by exact Ak))<|Zq (ld 6 Z Z (fP (GZ _)) Aw Z)<|Ks [4,3] [(2,4),(1,3)] (gd0 Z) Z Z func20 Z Z (PT _ _ _ _) (Y1 Z) (cQ 3 Z<|cN) (Zi Z<|Zi Z<|rN) λbd ap=>Ae<|Ap<|Af<|Ai<|Zq (I.add Z Z)<|Zm Z<|Ae<|Au (λU ww h=>⟨nvl [(ap 0)],Zu h [4,3]⟩)
    ·refine AC<|AD<|AG<|BA (λU ww h=>⟨nvl [(ah 0)],Zu h [4,3]⟩)
   ·refine gEx λaq=>A6<|A2<|Zq (faB 3 Z Z underlying65 Z (by exact ti37))<|Zq (ld 3 Z Z (Foc.cast (Foc.next BG fH) Z) ty37 Z)<|Zq (I.neq Z Z)<|Zj Z (λar=>?_) (λar=>?_)
    ·refine A6<|Dh mixed (by kernel_rfl)<|Rq Z (faB 3 Z Z underlying65 Z (by exact ti37))<|Rq Z (ld 3 Z Z (Foc.cast (Foc.next BG fH) Z) ty37 Z)<|Rq Z (asg Z)<|Rq Z (asg Z)<|Dd<|Af<|A5<|An<|Cl u8R 5 48<|Ze [(.slice none 0 0)] [48] Z
    ·refine Zt<|A2<|Zq (faB 3 Z Z underlying65 Z (by exact ti63))<|Zq (faB 3 Z Z underlying63 Z (by exact CD))<|Zq (ldV 3 Z Z (At.cast At.here Z) sc36 Z)<|Za Z<|Zb Z<|A5<|Ze [(aq 0)] [4] Z
def KI (a0:Bt) (O:(List UInt8) × Int):Option (Sum ((List UInt8)) ((List UInt8) × Int)) :=
 if decide (O.2<(a0.Set.List.length:Int)) then
  idx a0.Set.List O.2>>=λU =>
  chk (U.Key.length<=281474976710656)>>=λa8 =>
  FP U.Key>>=λa1 =>
  app 1 O.1 a1>>=λa2 =>
  app 1 a2 U.ID.toList>>=λa6 =>
  some (w64 (O.2+1))>>=λa7 =>
  some (.inr (a6,a7))
 else
  some (.inl O.1)
def KJ (a0:Bt) (O:(List UInt8) × Int):Option (Sum ((List UInt8)) ((List UInt8) × Int)) :=
 if decide (O.2<(a0.Regs.List.length:Int)) then
  idx a0.Regs.List O.2>>=λU =>
  chk (U.Key.length<=281474976710656)>>=λad =>
  FP U.Key>>=λa1 =>
  app 1 O.1 a1>>=λa2 =>
  Jn U.Value>>=λa6 =>
  app 1 a2 a6>>=λa7 =>
  DV U.Stamp>>=λa8 =>
  app 1 a7 a8>>=λaa =>
  app 1 aa U.ID.toList>>=λab =>
  some (w64 (O.2+1))>>=λac =>
  some (.inr (ab,ac))
 else
  some (.inl O.1)
def KK (a0:Bt):Option ((List UInt8)) :=
 DV (UInt64.ofInt a0.Version)>>=λr2 =>
 Jk a0.Heads>>=λr4 =>
 app 1 r2 r4>>=λx6 =>
 DV (UInt64.ofInt (a0.Set.List.length:Int))>>=λr9 =>
 app 1 x6 r9>>=λO =>
 (iter (KI a0) (O,0))>>=λU =>
 DV (UInt64.ofInt (a0.Regs.List.length:Int))>>=λa1 =>
 app 1 U a1>>=λa2 =>
 (iter (KJ a0) (a2,0))>>=λa6 =>
 some a6
theorem Ux (a0:Bt):Ah Tryz.prog 24 [.rd Ch a0] [] (KK a0) (λr O=>⟨[.val (O 0)],[(100,some (O 0,.list u8R 5 r))]⟩):=by
 refine Am 88 func24 Z Z Z λH w=>?_;refine A2<|Eb Z (bx 1 Z) λv1=>Zb Z<|A6<|Bq [11,20] mixed Z Z<|A4 0 Z Z (faB 1 Z Z underlying30 Z (by exact ti3))<|A4 1 Z Z (ld 1 Z Z (fP (F8 _)) ty3 Z)<|A4 2 Z Z (I.toU Z tu3 tu52)<|A4 4 Z Z (faB 1 Z Z underlying30 Z (by exact AU))<|A4 5 Z Z (ld 1 Z Z (fP (F9 _)) B0 Z)<|Be 3 [] [(100,11)] Z (by kernel_rfl) Z (gd0 Z) Z func49 Z Z (Ew _) (Y1 Z) rN Z (λ_ _=>C1) λr2 n3=>Be 6 [] [(100,20)] Z (by kernel_rfl) Z (gd0 Z) Z func50 Z Z (T7 _) (Y1 Z) rN Z (λ_ _=>C1) λr4 n5=>AZ λx6 h7=>Zo 7 Z Z Z (apn 11 Z Z Z (.own 20 Z) h7 tu36 ti5 Z Z Z) λv8=>Zf 8 Z Z C1 (asg Z)<|AV (by kernel_rfl)<|Af<|A2<|Zm Z<|Zq (faB 1 Z Z underlying30 Z (by exact D7))<|Zq (faB 1 Z Z underlying24 Z (by exact Df))<|Zq (ld 1 Z Z ((fP (Fs _)).part (E6 _)) Ea Z)<|Zq (Aq Z .rd Z tu22)<|Zq (I.toU Z tu3 tu52)<|Zc [] [(100,32)] func49 Z (Ew _) λr9 bd=>Al λbe af=>Ef Z (apn 11 Z Z Z (.own 32 Z) af tu36 ti5 Z Z Z) λah=>Zb Z<|AY (λ(ad:(List UInt8)) U ww=>∃ O:Nat->Value,Sta (ctx 88 H [] w) [(1,.val (A7 v1 0)),(3,.val (O 0))] [(1,some (v1,.box 30 [.rd Ch a0])),(11,some ((O 0),.list u8R 5 ad))] U ww) ?_ (λad=>?_)
 ·refine A2<|Zb Z<|AJ (λ(a1:(List UInt8) × Int) U ww=>∃ O:Nat->Value,Sta (ctx 88 H [] w) [(1,.val (A7 v1 0)),(3,.val (O 0)),(4,.rd A3 a1.2)] [(1,some (v1,.box 30 [.rd Ch a0])),(11,some ((O 0),.list u8R 5 a1.1))] U ww) (λU ww h=>⟨nvl [ah],Zu h [1,11]⟩) (λa1=>?_);refine gEx λa2=>A6<|A2<|Zm Z<|Zq (faB 1 Z Z underlying30 Z (by exact D7))<|Zq (faB 1 Z Z underlying24 Z (by exact Df))<|Zq (ld 1 Z Z ((fP (Fs _)).part (E6 _)) Ea Z)<|Zq (Aq Z .rd Z tu22)<|Zq (I.lss Z Z)<|Zj Z (λai=>?_) (λai=>?_)
  ·refine Zt<|A6<|AB<|A2<|Zq (faB 1 Z Z underlying30 Z (by exact D7))<|Zq (faB 1 Z Z underlying24 Z (by exact Df))<|Zq (ld 1 Z Z ((fP (Fs _)).part (E6 _)) Ea Z)<|Zm Z<|Al λa6 aj=>Zq (ixR Z Z aj tu22 Cq Z)<|Zq (ldR Z EI)<|Eb Z (AN 33 Cq (.zr (R:=Bi) (x:=(⟨[],(Vector.replicate 32 0)⟩:AT)) Gm)) λbf=>Es (sto 33 Z Z fH Z Cq)<|Zn<|DO 33 5 Z Z<|EJ [(3,.val (a2 0)),(1,.val (A7 v1 0)),(4,.rd A3 a1.2),(5,.rp Bi a6)] [(1,some (v1,.box 30 [.rd Ch a0])),(11,some ((a2 0),.list u8R 5 a1.1))] [1,11] (Zs Z Z Z Z<|sN) (Zi Z<|Zi Z<|rN)<|Ca λbg ak=>Ca λam ao=>Ca λap aq=>Ca λar au=>gOr [(3,.val (a2 0),9)] [⟨34,none,[(4,some ([1], λO=>((O 1),.list u8R 5 am)))]⟩,⟨11,some ([], λO=>((a2 0),.list u8R 5 a1.1)),[(5,some ([2], λO=>((O 2),.list u8R 5 ap))),(8,some ([3], λO=>((O 3),.list u8R 5 ar)))]⟩] [⟨some (38,[], λO=>.val (a2 0)),[],[],[0]⟩,pd 39 (.rp BI a6.Key),pd 40 (.rd BI a6.Key),pd 41 (.rd (A8 u8R) a6.Key),⟨some (42,[1], λO=>.val (O 1)),[(0,0,true)],[1],[]⟩,⟨some (43,[2], λO=>.val (O 2)),[(0,1,false),(1,0,true)],[2],[]⟩,pd 44 (.rp aZ a6.ID),pd 45 (.rd (A8 u8R) a6.ID.toList),⟨some (46,[3], λO=>.val (O 3)),[(1,1,true)],[3],[]⟩,⟨some (3,[3], λO=>.val (O 3)),[],[],[]⟩] mixed (oC (oRn (λO E=>mv Z))<|oC (oRn (λO E=>faR Z (EH _) underlying73 Z Z (by exact ti9)))<|oC (oRn (λO E=>ldR Z ty9))<|oC (Uh Z (λ_=>rfl) ak tu9 tu36 tu5)<|oC (oCl [1] [] [(100,34)] ao func51 Z (λO=>(Jl _)) (λO=>(Y1 Z)) (λO E=>rN))<|oC (oEf 11 2 (λO E=>apn 11 Z Z Z (.own 34 Z) aq tu36 ti5 Z Z Z))<|oC (oRn (λO E=>faR Z (FL _) underlying73 Z Z (by exact Ak)))<|oC (oRn (λO E=>CO Z tu71 ti5 Z Z Z))<|oC (oEf 11 3 (λO E=>apn 11 Z Z Z .rd au tu36 ti5 Z Z Z))<|oC (oRn (λO E=>asg Z))<|oN) λav=>Ap<|Af<|Ai<|Zm Z<|Zq (I.add Z Z)<|Za Z<|AI 4 Z λbh=>Ae<|Au (λU ww h=>⟨nvl [(av 3)],Zu h [1,11]⟩)
  ·refine AC<|AD<|AG<|Av (λU ww h=>⟨nvl [(a2 0)],Zu h [1,11]⟩)
 ·refine gEx λbi=>A2<|Zm Z<|Zq (faB 1 Z Z underlying30 Z (by exact D8))<|Zq (faB 1 Z Z underlying27 Z (by exact Dm))<|Zq (ld 1 Z Z ((fP (Ft _)).part (E8 _)) Ec Z)<|Zq (Aq Z .rd Z tu25)<|Zq (I.toU Z tu3 tu52)<|Zc [] [(100,35)] func49 Z (Ew _) λbj bk=>Al λbl aw=>Ef Z (apn 11 Z Z Z (.own 35 Z) aw tu36 ti5 Z Z Z) λax=>Zb Z<|AY (λ(ae:(List UInt8)) U ww=>∃ O:Nat->Value,Sta (ctx 88 H [] w) [(3,.val (O 0))] [(11,some ((O 0),.list u8R 5 ae))] U ww) ?_ (λae=>?_)
  ·refine A2<|Zb Z<|AJ (λ(a7:(List UInt8) × Int) U ww=>∃ O:Nat->Value,Sta (ctx 88 H [] w) [(1,.val (A7 v1 0)),(3,.val (O 0)),(6,.rd A3 a7.2)] [(1,some (v1,.box 30 [.rd Ch a0])),(11,some ((O 0),.list u8R 5 a7.1))] U ww) (λU ww h=>⟨nvl [ax],Zu h [1,11]⟩) (λa7=>?_);refine gEx λa8=>A6<|A2<|Zm Z<|Zq (faB 1 Z Z underlying30 Z (by exact D8))<|Zq (faB 1 Z Z underlying27 Z (by exact Dm))<|Zq (ld 1 Z Z ((fP (Ft _)).part (E8 _)) Ec Z)<|Zq (Aq Z .rd Z tu25)<|Zq (I.lss Z Z)<|Zj Z (λay=>?_) (λay=>?_)
   ·refine Zt<|A6<|AB<|A2<|Zq (faB 1 Z Z underlying30 Z (by exact D8))<|Zq (faB 1 Z Z underlying27 Z (by exact Dm))<|Zq (ld 1 Z Z ((fP (Ft _)).part (E8 _)) Ec Z)<|Zm Z<|Al λab az=>Zq (ixR Z Z az tu25 Cf Z)<|Zq (ldR Z Ed)<|Eb Z (AN 36 Cf (.zr (R:=B7) (x:=(⟨[],(⟨0,0,0,[]⟩:Ay),0,(Vector.replicate 32 0)⟩:AP)) Gn)) λac=>Es (sto 36 Z Z fH Z Cf)<|Zn<|A6<|EJ [(3,.val (a8 0)),(1,.val (A7 v1 0)),(6,.rd A3 a7.2),(7,.val (A7 ac 0))] [(1,some (v1,.box 30 [.rd Ch a0])),(11,some ((a8 0),.list u8R 5 a7.1)),(36,some (ac,.box 75 [.rd B7 ab]))] [1,11,36] (Zs Z Z Z Z<|sN) (Zi Z<|Zi Z<|Zi Z<|rN)<|Ca λbm b0=>Ca λb1 b2=>Ca λb3 b4=>Ca λb5 b6=>Ca λb7 b8=>gOr [(3,.val (a8 0),10)] [⟨36,some ([], λO=>(ac,.box 75 [.rd B7 ab])),[]⟩,⟨37,none,[(4,some ([1], λO=>((O 1),.list u8R 5 b1)))]⟩,⟨11,some ([], λO=>((a8 0),.list u8R 5 a7.1)),[(5,some ([2], λO=>((O 2),.list u8R 5 b3))),(9,some ([4], λO=>((O 4),.list u8R 5 b7)))]⟩,⟨38,none,[(8,some ([3], λO=>((O 3),.list u8R 5 b5)))]⟩] [⟨some (69,[], λO=>.val (a8 0)),[],[],[0]⟩,pk 70 (.val (A7 ac (0+0))) [(0,0,false)],pk 71 (.rd BI ab.Key) [(0,0,false)],pd 72 (.rd (A8 u8R) ab.Key),⟨some (73,[1], λO=>.val (O 1)),[(1,0,true)],[1],[]⟩,⟨some (74,[2], λO=>.val (O 2)),[(1,1,false),(2,0,true)],[2],[]⟩,pk 75 (.val (A7 ac (0+1))) [(0,0,false)],pk 76 (.rd CP ab.Value) [(0,0,false)],⟨some (77,[3], λO=>.val (O 3)),[(3,0,true)],[3],[]⟩,⟨some (78,[4], λO=>.val (O 4)),[(2,1,true),(3,1,false)],[4],[]⟩,⟨some (3,[4], λO=>.val (O 4)),[],[],[]⟩] mixed (oC (oRn (λO E=>mv Z))<|oC (oRn (λO E=>faB 36 Z Z underlying75 Z (by exact ti9)))<|oC (oRn (λO E=>ld 36 Z Z (fP (E7 _)) ty9 Z))<|oC (Uh Z (λ_=>rfl) b0 tu9 tu36 tu5)<|oC (oCl [1] [] [(100,37)] b2 func51 Z (λO=>(Jl _)) (λO=>(Y1 Z)) (λO E=>rN))<|oC (oEf 11 2 (λO E=>apn 11 Z Z Z (.own 37 Z) b4 tu36 ti5 Z Z Z))<|oC (oRn (λO E=>faB 36 Z Z underlying75 Z (by exact Cp)))<|oC (oRn (λO E=>ld 36 Z Z (fP (GY _)) Dv Z))<|oC (oCl [3] [] [(100,38)] b6 func52 Z (λO=>(T8 _)) (λO=>(Y1 Z)) (λO E=>rN))<|oC (oEf 11 4 (λO E=>apn 11 Z Z Z (.own 38 Z) b8 tu36 ti5 Z Z Z))<|oC (oRn (λO E=>asg Z))<|oN) λbn=>Af<|DO 36 7 Z Z<|Bq [11,48] mixed Z Z<|A4 0 Z Z (mv Z)<|A4 1 Z Z (faR Z (Fr _) underlying75 Z Z (by exact CV))<|A4 2 Z Z (ldR Z CR)<|A4 5 Z Z (faR Z (GZ _) underlying75 Z Z (by exact Ak))<|A4 6 Z Z (CO Z tu71 ti5 Z Z Z)<|Be 3 [] [(100,48)] Z (by kernel_rfl) Z (gd0 Z) Z func49 Z Z (Ew _) (Y1 Z) rN Z (λ_ _=>C1) λbo bp=>AZ λbq b9=>Zo 4 Z Z Z (apn 11 Z Z Z (.own 48 Z) b9 tu36 ti5 Z Z Z) λbr=>AZ λbu ba=>Zo 7 Z Z Z (apn 11 Z Z Z .rd ba tu36 ti5 Z Z Z) λbb=>Zf 8 Z Z C1 (asg Z)<|AV (by kernel_rfl)<|Ap<|Af<|Ai<|Zm Z<|Zq (I.add Z Z)<|Za Z<|AI 6 Z λbv=>Ae<|Au (λU ww h=>⟨nvl [bb],Zu h [1,11]⟩)
   ·refine AC<|AD<|AG<|Av (λU ww h=>⟨nvl [(a8 0)],Zu h [11]⟩)
  ·refine gEx λbc=>A2<|Zm Z<|Zb Z<|A5<|Ze [(bc 0)] [11] Z
def Iu (a0:Bt):Option ((List UInt8) × Int) :=
 N9 a0>>=λO =>
 if O != 0 then
  some ([],O)
 else
  KK a0>>=λU =>
  some (U,0)
theorem zlu (a0:Bt):Ah Tryz.prog 7 [.rd Ch a0] [] (Iu a0) (λr O=>⟨[.val (O 0),.rd A3 r.2],[(100,some (O 0,.list u8R 5 r.1))]⟩):=by
 refine Am 12 func7 Z Z Z λH w=>?_;refine A2<|Eb Z (bx 1 Z) λv1=>Za Z<|Zb Z<|A6<|A2<|Zq (ld 1 Z Z fH DK Z)<|Zc [] [] func23 Z (zlw _) λr2 n3=>Zb Z<|A2<|Zm Z<|Zq (I.neq Z Z)<|Zj Z (λU=>?_) (λU=>?_)
 ·refine A2<|Zm Z<|Za Z<|Zb Z<|A5<|An<|Cl u8R 5 2<|Ze [(.slice none 0 0)] [2] Z
 ·refine Zt<|A2<|Zq (ld 1 Z Z fH DK Z)<|Zc [] [(100,3)] func24 Z (Ux _) λr5 n6=>Za Z<|Zb Z<|A5<|Ze [(n6 0)] [3] Z
def NU (a0:Ao):Option (Bt × V3 × Int) :=
 MQ a0>>=λO =>
 if O.2 != 0 then
  some ((⟨0,(⟨[]⟩:Bb),(⟨[]⟩:Bd),[]⟩:Bt),(Vector.replicate 32 0),O.2)
 else
  GD O.1>>=λr8 =>
  if r8.2 != 0 then
   some ((⟨0,(⟨[]⟩:Bb),(⟨[]⟩:Bd),[]⟩:Bt),(Vector.replicate 32 0),r8.2)
  else
   Hb r8.1>>=λU =>
   some (O.1,U.1,U.2)
theorem znf (a0:Ao):Ah Tryz.prog 26 [.rd AF a0] [AE] (NU a0) (λr nv=>⟨[.rd Ch r.1,.rd aZ r.2.1,.rd A3 r.2.2],[(1001,some (.bool true,.glob 1 (Az 64 A9) C6))]⟩):=by
 refine Am 37 func26 Z Z Z λH w=>?_;refine A2<|Eb Z (bx 1 Z) λv1=>Eb Z (AN 2 CE (ZrE.rd (R:=A3) (x:=0) (Zr.num Z) (ZrE.rd (R:=Bz) (x:=(⟨[]⟩:Bb)) Et (ZrE.rd (R:=BB) (x:=(⟨[]⟩:Bd)) Eu (ZrE.nilS ZrE.nil) Z) Z) Z)) λv2=>Eb Z (AN 3 Ak (.zr (R:=aZ) (x:=(Vector.replicate 32 0)) BU)) λv3=>Zb Z<|A2<|Zq (ld 1 Z Z fH BX Z)<|Zc [1001] [] func56 Z (z106 _) λr4 n5=>Zm Z<|Zq (ext Z Z)<|Zq (ext Z Z)<|Eb Z (AN 4 CE (ZrE.rd (R:=A3) (x:=0) (Zr.num Z) (ZrE.rd (R:=Bz) (x:=(⟨[]⟩:Bb)) Et (ZrE.rd (R:=BB) (x:=(⟨[]⟩:Bd)) Eu (ZrE.nilS ZrE.nil) Z) Z) Z)) λv6=>Cy aZ [.rd A3 0,.rd Bz (⟨[]⟩:Bb),.rd BB (⟨[]⟩:Bd),.rd (A8 aZ) []] 4 [.rd A3 0,.rd Bz (⟨[]⟩:Bb),.rd BB (⟨[]⟩:Bd)] [] Z Z Z<|Cm (R:=Ch) (⟨0,(⟨[]⟩:Bb),(⟨[]⟩:Bd),[]⟩:Bt) 4 Z (Sp.via (Sp.prod (Sp.prod (Sp.prod (Sp.prod Sp.unit)))))<|Es (sto 4 Z Z fH Z CE)<|Zb Z<|A6<|A2<|Zm Z<|Zq (I.neq Z Z)<|Zj Z (λU=>?_) (λU=>?_)
 ·refine A2<|Zq (bldE [(0,1),(1,1),(2,1),(3,1)] underlying30 CE (ZrE.rd (R:=A3) (x:=0) (Zr.num Z) (ZrE.rd (R:=Bz) (x:=(⟨[]⟩:Bb)) Et (ZrE.rd (R:=BB) (x:=(⟨[]⟩:Bd)) Eu (ZrE.nilS ZrE.nil) Z) Z) Z) Z (D3.done Z))<|Zq (bldG (x':=((Vector.replicate 32 0):V3)) tu71 Ak BU ti5 (Bld.done Z))<|Zm Z<|Es (stoG 2 Z Z (AH.cast (AH.cons Bj (AH.cons Bj (AH.cons Bj (AH.cons BG AH.nil)))) Z) Z (BO.cons D0 (BO.cons D0 (BO.cons D0 (BO.cons Cx BO.nil)))) (AH.cast (AH.cons Bj (AH.cons Bj (AH.cons Bj (AH.cons BG AH.nil)))) Z) CE)<|Es (sto 3 Z Z fH Z Ak)<|Zb Z<|A5<|An<|ePnl aZ [.rd A3 0,.rd Bz (⟨[]⟩:Bb),.rd BB (⟨[]⟩:Bd),.rd (A8 aZ) []] 2 [.rd A3 0,.rd Bz (⟨[]⟩:Bb),.rd BB (⟨[]⟩:Bd)] [] Z Z Z<|eJoi (R:=Ch) (⟨0,(⟨[]⟩:Bb),(⟨[]⟩:Bd),[]⟩:Bt) 2 Z (Sp.via (Sp.prod (Sp.prod (Sp.prod (Sp.prod Sp.unit)))))<|BF [] [1001] Z (eC 2 Z Z DK<|eC 3 Z Z Aw<|eE Z<|eN) (Y0 Z)
 ·refine Zt<|A2<|Zq (ld 4 Z Z fH DK Z)<|Zc [] [(100,5)] func6 Z (Uw _) λr8 n9=>Zm Z<|Zq (ext Z Z)<|Zq (ext Z Z)<|Za Z<|Zb Z<|A6<|A2<|Zm Z<|Zq (I.neq Z Z)<|Zj Z (λO=>?_) (λO=>?_)
  ·refine A2<|Zq (bldE [(0,1),(1,1),(2,1),(3,1)] underlying30 CE (ZrE.rd (R:=A3) (x:=0) (Zr.num Z) (ZrE.rd (R:=Bz) (x:=(⟨[]⟩:Bb)) Et (ZrE.rd (R:=BB) (x:=(⟨[]⟩:Bd)) Eu (ZrE.nilS ZrE.nil) Z) Z) Z) Z (D3.done Z))<|Zq (bldG (x':=((Vector.replicate 32 0):V3)) tu71 Ak BU ti5 (Bld.done Z))<|Zm Z<|Es (stoG 2 Z Z (AH.cast (AH.cons Bj (AH.cons Bj (AH.cons Bj (AH.cons BG AH.nil)))) Z) Z (BO.cons D0 (BO.cons D0 (BO.cons D0 (BO.cons Cx BO.nil)))) (AH.cast (AH.cons Bj (AH.cons Bj (AH.cons Bj (AH.cons BG AH.nil)))) Z) CE)<|Es (sto 3 Z Z fH Z Ak)<|Zb Z<|A5<|An<|ePnl aZ [.rd A3 0,.rd Bz (⟨[]⟩:Bb),.rd BB (⟨[]⟩:Bd),.rd (A8 aZ) []] 2 [.rd A3 0,.rd Bz (⟨[]⟩:Bb),.rd BB (⟨[]⟩:Bd)] [] Z Z Z<|eJoi (R:=Ch) (⟨0,(⟨[]⟩:Bb),(⟨[]⟩:Bd),[]⟩:Bt) 2 Z (Sp.via (Sp.prod (Sp.prod (Sp.prod (Sp.prod Sp.unit)))))<|BF [] [1001] Z (eC 2 Z Z DK<|eC 3 Z Z Aw<|eE Z<|eN) (Y0 Z)
  ·refine Zt<|A2<|Zm Z<|BW 5 [22,7,30] Z (fS Z<|fS Z<|fS Z<|fN)<|Zc [1001] [] func57 Z (M0 _) λa1 a2=>Zm Z<|Zq (ext Z Z)<|Zq (ext Z Z)<|Eb Z (AN 6 Ak (.zr (R:=aZ) (x:=(Vector.replicate 32 0)) BU)) λa6=>Es (sto 6 Z Z fH Z Ak)<|Zb Z<|A6<|Bq [2,3] mixed Z Z<|A4 0 Z Z (ld 4 Z Z fH DK Z)<|A4 1 Z Z (ld 6 Z Z fH Aw Z)<|A4 2 Z Z (mv Z)<|hPnl aZ [.rd A3 0,.rd Bz (⟨[]⟩:Bb),.rd BB (⟨[]⟩:Bd),.rd (A8 aZ) []] 2 [.rd A3 0,.rd Bz (⟨[]⟩:Bb),.rd BB (⟨[]⟩:Bd)] [] Z Z Z<|hJoi (R:=Ch) (⟨0,(⟨[]⟩:Bb),(⟨[]⟩:Bd),[]⟩:Bt) 2 Z (Sp.via (Sp.prod (Sp.prod (Sp.prod (Sp.prod Sp.unit)))))<|Zp 3 Z Z Z Z Z (sto 2 Z Z fH Z CE)<|Zp 4 Z Z Z Z Z (sto 3 Z Z fH Z Ak)<|A4 5 Z Z (asg Z)<|AV (by kernel_rfl)<|Af<|A5<|BF [] [1001] Z (eC 2 Z Z DK<|eC 3 Z Z Aw<|eE Z<|eN) (Y0 Z)
def KL (a0:Ao):Option ((List UInt8) × Int) :=
 Dx a0>>=λr2 =>
 if r2 != 0 then
  some ([],r2)
 else
  NU a0>>=λU =>
  if U.2.2 != 0 then
   some ([],U.2.2)
  else
   Hu a0.Ops>>=λO =>
   if O.2 != 0 then
    some ([],O.2)
   else
    Fd [[115],U.2.1.toList,O.1]>>=λa1 =>
    some (a1,0)
theorem zo1 (a0:Ao):Ah Tryz.prog 8 [.rd AF a0] [AE] (KL a0) (λr O=>⟨[.val (O 0),.rd A3 r.2],[(1001,some (.bool true,.glob 1 (Az 64 A9) C6)),(100,some (O 0,.list u8R 5 r.1))]⟩):=by
 refine Am 37 func8 Z Z Z λH w=>?_;refine A2<|Eb Z (bx 1 Z) λv1=>Za Z<|Zb Z<|A6<|A2<|Zq (ld 1 Z Z fH BX Z)<|Zc [1001] [] func25 Z (Hj _) λr2 n3=>Zb Z<|A2<|Zm Z<|Zq (I.neq Z Z)<|Zj Z (λh4=>?_) (λh4=>?_)
 ·refine A2<|Zm Z<|Za Z<|Zb Z<|A5<|An<|Cl u8R 5 2<|Ze [(.slice none 0 0)] [1001,2] Z
 ·refine Zt<|A2<|Zq (ld 1 Z Z fH BX Z)<|Zc [1001] [] func26 Z (znf _) λr5 n6=>Zm Z<|Zq (ext Z Z)<|Zq (ext Z Z)<|Zq (ext Z Z)<|Eb Z (AN 3 CE (ZrE.rd (R:=A3) (x:=0) (Zr.num Z) (ZrE.rd (R:=Bz) (x:=(⟨[]⟩:Bb)) Et (ZrE.rd (R:=BB) (x:=(⟨[]⟩:Bd)) Eu (ZrE.nilS ZrE.nil) Z) Z) Z)) λv7=>Eb Z (AN 4 Ak (.zr (R:=aZ) (x:=(Vector.replicate 32 0)) BU)) λv8=>Cy aZ [.rd A3 0,.rd Bz (⟨[]⟩:Bb),.rd BB (⟨[]⟩:Bd),.rd (A8 aZ) []] 3 [.rd A3 0,.rd Bz (⟨[]⟩:Bb),.rd BB (⟨[]⟩:Bd)] [] Z Z Z<|Cm (R:=Ch) (⟨0,(⟨[]⟩:Bb),(⟨[]⟩:Bd),[]⟩:Bt) 3 Z (Sp.via (Sp.prod (Sp.prod (Sp.prod (Sp.prod Sp.unit)))))<|Es (sto 3 Z Z fH Z CE)<|Es (sto 4 Z Z fH Z Ak)<|Zb Z<|A6<|A2<|Zm Z<|Zq (I.neq Z Z)<|Zj Z (λh9=>?_) (λh9=>?_)
  ·refine A2<|Zm Z<|Za Z<|Zb Z<|A5<|An<|Cl u8R 5 5<|Ze [(.slice none 0 0)] [1001,5] Z
  ·refine Zt<|A2<|Zq (faB 1 Z Z underlying33 Z (by exact BP))<|Zq (ld 1 Z Z (fP (BQ _)) BR Z)<|Zc [1001] [(100,6)] func27 Z (Ul _) λU a6=>Zm Z<|Zq (ext Z Z)<|Zq (ext Z Z)<|Za Z<|Zb Z<|A6<|A2<|Zm Z<|Zq (I.neq Z Z)<|Zj Z (λa1=>?_) (λa1=>?_)
   ·refine A2<|Zm Z<|Za Z<|Zb Z<|A5<|An<|Cl u8R 5 7<|Ze [(.slice none 0 0)] [1001,7] Z
   ·refine Zt<|A2<|Ef Z (lit (R:=u8R) ([115]:List UInt8) 8 (pP Z Z<|pN) Z tu36 ti5 Z Z) λa7=>Gg 4 6 Z Z<|Zq (CO Z tu71 ti5 Z Z Z)<|Zm Z<|BW 8 [32] Z (fS Z<|fN)<|BW 6 [27,8,34] Z (fS Z<|fS Z<|fS Z<|fN)<|Ef Z (lit (R:=(A8 u8R)) ([[115],r5.2.1.toList,U.1]:List (List UInt8)) 9 (pP Z Z<|pP Z Z<|pP Z Z<|pN) Z tu126 CD Z Z) λa8=>BW 9 [35] Z (fS Z<|fN)<|Zc [] [(100,10)] func28 Z (HV _) λaa a2=>Za Z<|Zb Z<|A5<|Ze [(a2 0)] [1001,10] Z
def NW (a0:Ao):Option (V3 × Bt) :=
 N6 a0>>=λO =>
 KK O.1>>=λU =>
 Gy U>>=λr9 =>
 some (r9,O.1)
theorem zo9 (a0:Ao):Ah Tryz.prog 30 [.rd AF a0] [] (NW a0) (λr nv=>⟨[.rd aZ r.1,.rd Ch r.2],[]⟩):=by
 refine Am 15 func30 Z Z Z λH w=>?_;refine A2<|Eb Z (bx 1 Z) λv1=>Eb Z (AN 2 Ak (.zr (R:=aZ) (x:=(Vector.replicate 32 0)) BU)) λv2=>Eb Z (AN 3 CE (ZrE.rd (R:=A3) (x:=0) (Zr.num Z) (ZrE.rd (R:=Bz) (x:=(⟨[]⟩:Bb)) Et (ZrE.rd (R:=BB) (x:=(⟨[]⟩:Bd)) Eu (ZrE.nilS ZrE.nil) Z) Z) Z)) λv3=>Zn<|A2<|Zq (ld 1 Z Z fH BX Z)<|Zc [] [] func64 Z (zpa _) λr4 n5=>Zm Z<|Zq (ext Z Z)<|Zq (ext Z Z)<|Eb Z (AN 4 CE (ZrE.rd (R:=A3) (x:=0) (Zr.num Z) (ZrE.rd (R:=Bz) (x:=(⟨[]⟩:Bb)) Et (ZrE.rd (R:=BB) (x:=(⟨[]⟩:Bd)) Eu (ZrE.nilS ZrE.nil) Z) Z) Z)) λv6=>Cy aZ [.rd A3 0,.rd Bz (⟨[]⟩:Bb),.rd BB (⟨[]⟩:Bd),.rd (A8 aZ) []] 4 [.rd A3 0,.rd Bz (⟨[]⟩:Bb),.rd BB (⟨[]⟩:Bd)] [] Z Z Z<|Cm (R:=Ch) (⟨0,(⟨[]⟩:Bb),(⟨[]⟩:Bd),[]⟩:Bt) 4 Z (Sp.via (Sp.prod (Sp.prod (Sp.prod (Sp.prod Sp.unit)))))<|Es (sto 4 Z Z fH Z CE)<|Zb Z<|A6<|Bq [2,3,8] mixed Z Z<|A4 0 Z Z (ld 4 Z Z fH DK Z)<|A4 3 Z Z (ld 4 Z Z fH DK Z)<|Be 1 [] [(100,8)] Z (by kernel_rfl) Z (gd0 Z) Z func24 Z Z (Ux _) (Y1 Z) rN Z (λ_ _=>C1) λr7 n8=>DJ 8 [12] Z (fS Z<|fN)<|Lq 2 [] [] Z (by kernel_rfl) Z (gd0 Z) Z func65 Z Z (Jw _) (Y1 Z) rN Z λr9 a1=>Zp 4 Z Z Z Z Z (sto 2 Z Z fH Z Ak)<|hPnl aZ [.rd A3 0,.rd Bz (⟨[]⟩:Bb),.rd BB (⟨[]⟩:Bd),.rd (A8 aZ) []] 3 [.rd A3 0,.rd Bz (⟨[]⟩:Bb),.rd BB (⟨[]⟩:Bd)] [] Z Z Z<|hJoi (R:=Ch) (⟨0,(⟨[]⟩:Bb),(⟨[]⟩:Bd),[]⟩:Bt) 3 Z (Sp.via (Sp.prod (Sp.prod (Sp.prod (Sp.prod Sp.unit)))))<|Zp 5 Z Z Z Z Z (sto 3 Z Z fH Z CE)<|AV (by kernel_rfl)<|Af<|A5<|BF [] [] Z (eC 2 Z Z Aw<|eC 3 Z Z DK<|eN) (rN)
def KM (a0:Ao):Option ((List UInt8) × Int) :=
 Ee a0>>=λO =>
 if O != 0 then
  some ([],O)
 else
  NW a0>>=λr5 =>
  Ip a0.Ops>>=λr9 =>
  app 1 [115] r5.1.toList>>=λU =>
  app 1 U r9.1>>=λa1 =>
  some (a1,0)
theorem zlv (a0:Ao):Ah Tryz.prog 9 [.rd AF a0] [] (KM a0) (λr O=>⟨[.val (O 0),.rd A3 r.2],[(100,some (O 0,.list u8R 5 r.1))]⟩):=by
 refine Am 30 func9 Z Z Z λH w=>?_;refine A2<|Eb Z (bx 1 Z) λv1=>Za Z<|Zb Z<|A6<|A2<|Zq (ld 1 Z Z fH BX Z)<|Zc [] [] func29 Z (FR _) λr2 n3=>Zb Z<|A2<|Zm Z<|Zq (I.neq Z Z)<|Zj Z (λh4=>?_) (λh4=>?_)
 ·refine A2<|Zm Z<|Za Z<|Zb Z<|A5<|An<|Cl u8R 5 2<|Ze [(.slice none 0 0)] [2] Z
 ·refine Zt<|A2<|Zq (ld 1 Z Z fH BX Z)<|Zc [] [] func30 Z (zo9 _) λr5 n6=>Zm Z<|Zq (ext Z Z)<|Zq (ext Z Z)<|Eb Z (AN 3 Ak (.zr (R:=aZ) (x:=(Vector.replicate 32 0)) BU)) λv7=>Eb Z (AN 4 CE (ZrE.rd (R:=A3) (x:=0) (Zr.num Z) (ZrE.rd (R:=Bz) (x:=(⟨[]⟩:Bb)) Et (ZrE.rd (R:=BB) (x:=(⟨[]⟩:Bd)) Eu (ZrE.nilS ZrE.nil) Z) Z) Z)) λv8=>Es (sto 3 Z Z fH Z Ak)<|Cy aZ [.rd A3 0,.rd Bz (⟨[]⟩:Bb),.rd BB (⟨[]⟩:Bd),.rd (A8 aZ) []] 4 [.rd A3 0,.rd Bz (⟨[]⟩:Bb),.rd BB (⟨[]⟩:Bd)] [] Z Z Z<|Cm (R:=Ch) (⟨0,(⟨[]⟩:Bb),(⟨[]⟩:Bd),[]⟩:Bt) 4 Z (Sp.via (Sp.prod (Sp.prod (Sp.prod (Sp.prod Sp.unit)))))<|Es (sto 4 Z Z fH Z CE)<|Zn<|A2<|Zq (faB 1 Z Z underlying33 Z (by exact BP))<|Zq (ld 1 Z Z (fP (BQ _)) BR Z)<|Zc [] [(100,5)] func31 Z (Uo _) λr9 a6=>Zm Z<|Zq (ext Z Z)<|Zq (ext Z Z)<|Za Z<|Zb Z<|A2<|Ef Z (lit (R:=u8R) ([115]:List UInt8) 6 (pP Z Z<|pN) Z tu36 ti5 Z Z) λa7=>Gg 3 5 Z Z<|Zq (CO Z tu71 ti5 Z Z Z)<|Al λa8 U=>Ef Z (apn 6 Z Z Z .rd U tu36 ti5 Z Z Z) λaa=>Zm Z<|Al λab a1=>Ef Z (apn 6 Z Z Z (.own 5 Z) a1 tu36 ti5 Z Z Z) λa2=>Za Z<|Zb Z<|A5<|Ze [a2] [6] Z
def GF (a0:Ao) (a1:Ao) (U:Int):Option (Sum (Sum Int Unit) Int) :=
 if decide (U<([a0,a1].length:Int)) then
  idx [a0,a1] U>>=λx7 =>
  Dx x7>>=λO =>
  if O != 0 then
   some (.inl (.inl O))
  else
   some (.inr (w64 (U+1)))
 else
  some (.inl (.inr ()))
def GG (a0:Ao) (a1:Ao) (O:Bool × Int):Option (Sum (Sum Int Bool) (Bool × Int)) :=
 if decide (O.2<(a0.IDs.length:Int)) then
  idx a0.IDs O.2>>=λa7 =>
  Ik a1.IDs a7>>=λa6 =>
  if decide (a6<0) then
   some (.inr (true,w64 (O.2+1)))
  else
   idx a0.Ops O.2>>=λU =>
   idx a1.Ops a6>>=λa2 =>
   (if U.Author != a2.Author then
    some true
   else
    if U.Stamp != a2.Stamp then
     some true
    else
     if !decide (U.Act=a2.Act) then
      some true
     else
      if !decide (U.Sig=a2.Sig) then
       some true
      else
       Kq U.Preds a2.Preds>>=λa8 =>
       some (!a8))>>=λaa =>
   if aa then
    some (.inl (.inl 14))
   else
    some (.inr (O.1,w64 (O.2+1)))
 else
  some (.inl (.inr O.1))
def GI (a0:Ao) (O:Ao):Option (Int) :=
 Bc (iter (GF a0 O) 0) λs3 =>
 Bc (iter (GG a0 O) (false,0)) λU =>
 if U then
  some 32
 else
  some 0
theorem zmr (a0:Ao) (a1:Ao):Ah Tryz.prog 32 [.rd AF a0,.rd AF a1] [AE] (GI a0 a1) (λr O=>⟨[.rd A3 r],[(1001,some (.bool true,.glob 1 (Az 64 A9) C6))]⟩):=by
 refine Am 88 func32 Z Z Z λH w=>?_;refine A2<|Eb Z (bx 1 Z) λv1=>Eb Z (bx 2 Z) λv2=>Zb Z<|BM (λ(s3:Unit) aa ww=>Sta (ctx 88 H [AE] w) [(2,.val (A7 v1 0)),(3,.val (A7 v2 0))] [(1,some (v1,.box 33 [.rd AF a0])),(2,some (v2,.box 33 [.rd AF a1])),AE] aa ww) ?_ (λs3=>?_)
 ·refine A2<|Zq (ld 1 Z Z fH BX Z)<|Zq (ld 2 Z Z fH BX Z)<|Ef Z (lit (R:=AF) ([a0,a1]:List Ao) 1100 (pP Z Z<|pP Z Z<|pN) Z underlying136 ti33 Z Z) λv4=>Zq (Aq Z (.own 1100 Z) Z underlying136)<|Zm Z<|Zn<|AJ (λ(s5:Int) aa ww=>Sta (ctx 88 H [AE] w) [(2,.val (A7 v1 0)),(3,.val (A7 v2 0)),(16,.val v4),(17,.rd A3 ([a0,a1].length:Int)),(18,.rd A3 s5)] [(1,some (v1,.box 33 [.rd AF a0])),(2,some (v2,.box 33 [.rd AF a1])),(1100,some (v4,.list AF 33 [a0,a1])),AE] aa ww) (λaa ww h=>Zu h [1,2,1100,1001]) (λs5=>?_)
  refine A2<|Zq (I.lss Z Z)<|Zn<|A6<|gIf Z Z (λh6=>?_) (λh6=>?_)
  ·refine Zt<|A6<|AB<|A2<|Al λx7 h8=>Zq (ixO 1100 Z Z Z h8 underlying136 ti33)<|Zq (ld 1100 Z Z (Foc.el h8) BX Z)<|Eb Z (AN 1101 ti33 (ZrE.nilS (ZrE.nilS ZrE.nil))) λv9=>Cy aZ [.rd (A8 aZ) [],.val (.slice none 0 0)] 1101 [] [.val (.slice none 0 0)] Z Z Z<|Cy AA [.rd (A8 aZ) [],.rd (A8 AA) []] 1101 [.rd (A8 aZ) []] [] Z Z Z<|Cm (R:=AF) (⟨[],[]⟩:Ao) 1101 Z (Sp.via (Sp.prod (Sp.prod Sp.unit)))<|Es (sto 1101 Z Z fH Z ti33)<|Zn<|A2<|Zq (ld 1101 Z Z fH BX Z)<|Zc [1001] [] func25 Z (Hj _) λaw ax=>Zb Z<|A2<|Zm Z<|Zq (I.neq Z Z)<|Zj Z (λaj=>?_) (λaj=>?_)
   ·refine A2<|Zm Z<|Zb Z<|A5<|Bh<|An<|BE<|Bk<|Ze [] [1001] Z
   ·refine AW<|Ap<|Af<|Ai<|Zq (I.add Z Z)<|Zm Z<|Ae<|Au (λaa ww h=>Zu h [1,2,1100,1001])
  ·refine AC<|AD<|AG<|BA (λaa ww h=>Zu h [1,2,1001])
 ·refine A2<|Zb Z<|BM (λ(af:Bool) aa ww=>Sta (ctx 88 H [AE] w) [(8,.rd Ac af)] [AE] aa ww) ?_ (λaf=>?_)
  ·refine A2<|Zq (faB 1 Z Z underlying33 Z (by exact AU))<|Zq (ld 1 Z Z (fP (C7 _)) B0 Z)<|Zq (Aq Z .rd Z tu28)<|Zm Z<|Zn<|AJ (λ(a2:Bool × Int) aa ww=>Sta (ctx 88 H [AE] w) [(2,.val (A7 v1 0)),(3,.val (A7 v2 0)),(8,.rd Ac a2.1),(29,.rd (A8 aZ) a0.IDs),(30,.rd A3 (a0.IDs.length:Int)),(31,.rd A3 a2.2)] [(1,some (v1,.box 33 [.rd AF a0])),(2,some (v2,.box 33 [.rd AF a1])),AE] aa ww) (λaa ww h=>Zu h [1,2,1001]) (λa2=>?_)
   refine A2<|Zq (I.lss Z Z)<|Zn<|A6<|gIf Z Z (λak=>?_) (λak=>?_)
   ·refine Zt<|A6<|AB<|A2<|Zm Z<|Al λam ao=>Zq (ixR Z Z ao tu28 Ak Z)<|Zq (ldR Z Aw)<|Eb Z (AN 1102 Ak (.zr (R:=aZ) (x:=(Vector.replicate 32 0)) BU)) λap=>Za Z<|Es (sto 1102 Z Z fH Z Ak)<|Zn<|A2<|Zq (faB 2 Z Z underlying33 Z (by exact AU))<|Zq (ld 2 Z Z (fP (C7 _)) B0 Z)<|Zq (ld 1102 Z Z fH Aw Z)<|Zc [] [] func69 Z (Um _ _) λah ay=>Zb Z<|A6<|A2<|Zm Z<|Zq (I.lss Z Z)<|Zj Z (λaq=>?_) (λaq=>?_)
    ·refine A2<|Zb Z<|AC<|AD<|Lg<|Af<|Ai<|Zq (I.add Z Z)<|Zm Z<|Ae<|Au (λaa ww h=>Zu h [1,2,1001])
    ·refine Zt<|A6<|EJ [(2,.val (A7 v1 0)),(3,.val (A7 v2 0)),(8,.rd Ac a2.1),(29,.rd (A8 aZ) a0.IDs),(30,.rd A3 (a0.IDs.length:Int)),(31,.rd A3 a2.2),(9,.rd A3 a2.2),(11,.rd A3 ah)] [(1,some (v1,.box 33 [.rd AF a0])),(2,some (v2,.box 33 [.rd AF a1])),AE,(1102,some (ap,.box 71 [.rd aZ am]))] [1,2,1001,1102] (Zs Z Z Z Z<|Zs Z Z Z Z<|sN) (Zi Z<|Zi Z<|Zi Z<|Zi Z<|rN)<|Ca λab ar=>Ca λac au=>gOr [] [⟨1,some ([], λO=>(v1,.box 33 [.rd AF a0])),[]⟩,⟨2,some ([], λO=>(v2,.box 33 [.rd AF a1])),[]⟩,⟨1103,none,[(10,some ([1], λO=>((O 1),.box 60 [.rd AA (⟨0,[],0,(⟨0,[],(⟨0,0,0,[]⟩:Ay)⟩:AX),(⟨0,0⟩:AQ)⟩:Ab)]))),(12,some ([1], λO=>((O 1),.box 60 [.rd AA ab])))]⟩,⟨1104,none,[(11,some ([2], λO=>((O 2),.box 60 [.rd AA (⟨0,[],0,(⟨0,[],(⟨0,0,0,[]⟩:Ay)⟩:AX),(⟨0,0⟩:AQ)⟩:Ab)]))),(13,some ([2], λO=>((O 2),.box 60 [.rd AA ac])))]⟩] [pk 42 (.val (A7 v1 (0+1))) [(0,0,false)],pk 43 (.rd (A8 AA) a0.Ops) [(0,0,false)],pd 44 (.rd A3 a2.2),pd 45 (.rp AA ab),pd 46 (.rd AA ab),pk 47 (.val (A7 v2 (0+1))) [(1,0,false)],pk 48 (.rd (A8 AA) a1.Ops) [(1,0,false)],pd 49 (.rd A3 ah),pd 50 (.rp AA ac),pd 51 (.rd AA ac),⟨some (12,[1], λO=>.val (A7 (O 1) 0)),[(2,0,true)],[1],[]⟩,⟨some (13,[2], λO=>.val (A7 (O 2) 0)),[(3,0,true)],[2],[]⟩,⟨none,[(2,1,true)],[],[]⟩,⟨none,[(3,1,true)],[],[]⟩] mixed (oC (oRn (λO E=>faB 1 Z Z underlying33 Z (by exact BP)))<|oC (oRn (λO E=>ld 1 Z Z (fP (BQ _)) BR Z))<|oC (oRn (λO E=>mv Z))<|oC (oRn (λO E=>ixR Z Z ar tu31 Ba Z))<|oC (oRn (λO E=>ldR Z C4))<|oC (oRn (λO E=>faB 2 Z Z underlying33 Z (by exact BP)))<|oC (oRn (λO E=>ld 2 Z Z (fP (BQ _)) BR Z))<|oC (oRn (λO E=>mv Z))<|oC (oRn (λO E=>ixR Z Z au tu31 Ba Z))<|oC (oRn (λO E=>ldR Z C4))<|oC (oEb 1103 1 (λO E=>AN 1103 Ba (.zr (R:=AA) (x:=(⟨0,[],0,(⟨0,[],(⟨0,0,0,[]⟩:Ay)⟩:AX),(⟨0,0⟩:AQ)⟩:Ab)) Lv)))<|oC (oEb 1104 2 (λO E=>AN 1104 Ba (.zr (R:=AA) (x:=(⟨0,[],0,(⟨0,[],(⟨0,0,0,[]⟩:Ay)⟩:AX),(⟨0,0⟩:AQ)⟩:Ab)) Lv)))<|oC (oEs 1103 (λO E=>sto 1103 Z Z fH Z Ba))<|oC (oEs 1104 (λO E=>sto 1104 Z Z fH Z Ba))<|oN) λaz=>Af<|AY (λ(ai:Bool) aa ww=>Sta (ctx 88 H [AE] w) [(2,.val (A7 v1 0)),(3,.val (A7 v2 0)),(8,.rd Ac a2.1),(29,.rd (A8 aZ) a0.IDs),(30,.rd A3 (a0.IDs.length:Int)),(31,.rd A3 a2.2),(85,.rd Ac ai)] [(1,some (v1,.box 33 [.rd AF a0])),(2,some (v2,.box 33 [.rd AF a1])),AE] aa ww) ?_ (λai=>?_)
     ·refine Ai<|Zq (faB 1103 Z Z underlying60 Z (by exact B4))<|Zq (ld 1103 Z Z (fP (Fv _)) Bm Z)<|Zq (faB 1104 Z Z underlying60 Z (by exact B4))<|Zq (ld 1104 Z Z (fP (Fv _)) Bm Z)<|Zq (W.neq Z Z)<|Zm Z<|Bf 57 Z (λad=>?_) (λad=>?_)
      ·refine Aj 56 Z ad<|Zk Z<|Zk Z<|Zk Z<|Zk Z<|Zk Z<|Zq (pkT Z Z)<|Zm Z<|Zk Z<|Zk Z<|Zk Z<|Zk Z<|Zk Z<|Zq (pkT Z Z)<|Zm Z<|Zk Z<|Zk Z<|Zk Z<|Zk Z<|Zk Z<|Zq (pkT Z Z)<|Zm Z<|Zk Z<|Zk Z<|Zk Z<|Zk Z<|Zk Z<|Zk Z<|Zq (pkT Z Z)<|Ae<|Av (λaa ww h=>Zu h [1,2,1001])
      ·refine Aj 56 Z ad<|Aa Zx Z Z (faB 1103 Z Z underlying60 Z (by exact CV))<|Aa Zx Z Z (ld 1103 Z Z (fP (Fc _)) CR Z)<|Aa Zx Z Z (faB 1104 Z Z underlying60 Z (by exact CV))<|Aa Zx Z Z (ld 1104 Z Z (fP (Fc _)) CR Z)<|Aa Zx Z Z (U.neq Z Z)<|Zq (pkF Z Z)<|Zm Z<|Bf 64 Z (λa6=>?_) (λa6=>?_)
       ·refine Aj 62 Z a6<|Aj 63 Z a6<|Zk Z<|Zk Z<|Zk Z<|Zk Z<|Zk Z<|Zq (pkT Z Z)<|Zm Z<|Zk Z<|Zk Z<|Zk Z<|Zk Z<|Zk Z<|Zq (pkT Z Z)<|Zm Z<|Zk Z<|Zk Z<|Zk Z<|Zk Z<|Zk Z<|Zk Z<|Zq (pkT Z Z)<|Ae<|Av (λaa ww h=>Zu h [1,2,1001])
       ·refine Aj 62 Z a6<|Aj 63 Z a6<|Aa Zx Z Z (faB 1103 Z Z underlying60 Z (by exact Cj))<|Aa Zx Z Z (ld 1103 Z Z (fP (Ct _)) ty56 Z)<|Aa Zx Z Z (faB 1104 Z Z underlying60 Z (by exact Cj))<|Aa Zx Z Z (ld 1104 Z Z (fP (Ct _)) ty56 Z)<|Aa Zx Z Z (neA Z Z eq56 Z Z gq56)<|Zq (pkF Z Z)<|Zm Z<|Bf 71 Z (λa7=>?_) (λa7=>?_)
        ·refine Aj 69 Z a7<|Aj 70 Z a7<|Zk Z<|Zk Z<|Zk Z<|Zk Z<|Zk Z<|Zq (pkT Z Z)<|Zm Z<|Zk Z<|Zk Z<|Zk Z<|Zk Z<|Zk Z<|Zk Z<|Zq (pkT Z Z)<|Ae<|Av (λaa ww h=>Zu h [1,2,1001])
        ·refine Aj 69 Z a7<|Aj 70 Z a7<|Aa Zx Z Z (faB 1103 Z Z underlying60 Z (by exact DR))<|Aa Zx Z Z (ld 1103 Z Z (fP (Er _)) ty58 Z)<|Aa Zx Z Z (faB 1104 Z Z underlying60 Z (by exact DR))<|Aa Zx Z Z (ld 1104 Z Z (fP (Er _)) ty58 Z)<|Aa Zx Z Z (neA Z Z eq58 Z Z gq58)<|Zq (pkF Z Z)<|Zm Z<|Bf 78 Z (λa8=>?_) (λa8=>?_)
         ·refine Aj 76 Z a8<|Aj 77 Z a8<|Zk Z<|Zk Z<|Zk Z<|Zk Z<|Zk Z<|Zk Z<|Zq (pkT Z Z)<|Ae<|Av (λaa ww h=>Zu h [1,2,1001])
         ·refine Aj 76 Z a8<|Aj 77 Z a8<|Aa Zx Z Z (faB 1103 Z Z underlying60 Z (by exact AU))<|Aa Zx Z Z (ld 1103 Z Z (fP (Co _)) B0 Z)<|Aa Zx Z Z (faB 1104 Z Z underlying60 Z (by exact AU))<|Aa Zx Z Z (ld 1104 Z Z (fP (Co _)) B0 Z)<|CN [] [] Zx Z func70 Z Z (zff _ _) (Y2 Z Z) rN λb0 b1=>Aa Zx Z Z (Cd Z)<|Zq (pkF Z Z)<|Ae<|Av (λaa ww h=>Zu h [1,2,1001])
     ·refine gIf Z Z (λav=>?_) (λav=>?_)
      ·refine A2<|Zb Z<|A5<|Bh<|An<|BE<|Bk<|Ze [] [1001] Z
      ·refine AW<|Ap<|Af<|Ai<|Zq (I.add Z Z)<|Zm Z<|Ae<|Au (λaa ww h=>Zu h [1,2,1001])
   ·refine AC<|AD<|AG<|BA (λaa ww h=>Zu h [1001])
  ·refine A6<|A2<|Zm Z<|Zj Z (λae=>?_) (λae=>?_)
   ·refine gKn 8 Z ae<|A2<|Zb Z<|A5<|An<|Ze [] [1001] Z
   ·refine gKn 8 Z ae<|Zt<|A2<|Zb Z<|A5<|Ze [] [1001] Z
def Iv (a0:Ao) (a1:Ao):Option ((List UInt8) × Int) :=
 GI a0 a1>>=λr3 =>
 if r3 != 0 then
  some ([],r3)
 else
  KD a0.IDs>>=λr6 =>
  if r6.2 != 0 then
   some ([],r6.2)
  else
   KD a1.IDs>>=λO =>
   if O.2 != 0 then
    some ([],O.2)
   else
    Nq a1 a0.IDs>>=λU =>
    if U.2 != 0 then
     some ([],U.2)
    else
     Hu U.1>>=λa2 =>
     if a2.2 != 0 then
      some ([],a2.2)
     else
      Fd [[100],r6.1.toList,O.1.toList,a2.1]>>=λa6 =>
      some (a6,0)
theorem zog (a0:Ao) (O:Ao):Ah Tryz.prog 10 [.rd AF a0,.rd AF O] [AE] (Iv a0 O) (λr U=>⟨[.val (U 0),.rd A3 r.2],[(1001,some (.bool true,.glob 1 (Az 64 A9) C6)),(100,some (U 0,.list u8R 5 r.1))]⟩):=by
 refine Am 60 func10 Z Z Z λH w=>?_;refine A2<|Eb Z (bx 1 Z) λv1=>Eb Z (bx 2 Z) λv2=>Za Z<|Zb Z<|A6<|A2<|Zq (ld 1 Z Z fH BX Z)<|Zq (ld 2 Z Z fH BX Z)<|Zc [1001] [] func32 Z (zmr _ _) λr3 n4=>Zb Z<|A2<|Zm Z<|Zq (I.neq Z Z)<|Zj Z (λh5=>?_) (λh5=>?_)
 ·refine A2<|Zm Z<|Za Z<|Zb Z<|A5<|An<|Cl u8R 5 3<|Ze [(.slice none 0 0)] [1001,3] Z
 ·refine Zt<|A2<|Zq (faB 1 Z Z underlying33 Z (by exact AU))<|Zq (ld 1 Z Z (fP (C7 _)) B0 Z)<|Zc [1001] [] func33 Z (Ur _) λr6 n7=>Zm Z<|Zq (ext Z Z)<|Zq (ext Z Z)<|Eb Z (AN 4 Ak (.zr (R:=aZ) (x:=(Vector.replicate 32 0)) BU)) λv8=>Es (sto 4 Z Z fH Z Ak)<|Zb Z<|A6<|A2<|Zm Z<|Zq (I.neq Z Z)<|Zj Z (λh9=>?_) (λh9=>?_)
  ·refine A2<|Zm Z<|Za Z<|Zb Z<|A5<|An<|Cl u8R 5 5<|Ze [(.slice none 0 0)] [1001,5] Z
  ·refine Zt<|A2<|Zq (faB 2 Z Z underlying33 Z (by exact AU))<|Zq (ld 2 Z Z (fP (C7 _)) B0 Z)<|Zc [1001] [] func33 Z (Ur _) λa2 ac=>Zm Z<|Zq (ext Z Z)<|Zq (ext Z Z)<|Eb Z (AN 6 Ak (.zr (R:=aZ) (x:=(Vector.replicate 32 0)) BU)) λad=>Es (sto 6 Z Z fH Z Ak)<|Zb Z<|A6<|A2<|Zm Z<|Zq (I.neq Z Z)<|Zj Z (λa6=>?_) (λa6=>?_)
   ·refine A2<|Zm Z<|Za Z<|Zb Z<|A5<|An<|Cl u8R 5 7<|Ze [(.slice none 0 0)] [1001,7] Z
   ·refine Zt<|A2<|Zq (ld 2 Z Z fH BX Z)<|Zq (faB 1 Z Z underlying33 Z (by exact AU))<|Zq (ld 1 Z Z (fP (C7 _)) B0 Z)<|Zc [1001] [(100,8)] func34 Z (zq8 _ _) λae af=>Zm Z<|Zq (ext Z Z)<|Zq (ext Z Z)<|Za Z<|Zb Z<|A6<|A2<|Zm Z<|Zq (I.neq Z Z)<|Zj Z (λa7=>?_) (λa7=>?_)
    ·refine A2<|Zm Z<|Za Z<|Zb Z<|A5<|An<|Cl u8R 5 9<|Ze [(.slice none 0 0)] [1001,9] Z
    ·refine Zt<|A2<|Zm Z<|BW 8 [41,10,47] Z (fS Z<|fS Z<|fS Z<|fN)<|Zc [1001] [(100,10)] func27 Z (Ul _) λa8 ah=>Zm Z<|Zq (ext Z Z)<|Zq (ext Z Z)<|Za Z<|Zb Z<|A6<|A2<|Zm Z<|Zq (I.neq Z Z)<|Zj Z (λaa=>?_) (λaa=>?_)
     ·refine A2<|Zm Z<|Za Z<|Zb Z<|A5<|An<|Cl u8R 5 11<|Ze [(.slice none 0 0)] [1001,11] Z
     ·refine Zt<|A6<|DO 4 7 Z Z<|DO 6 9 Z Z<|Bq [12,24,27] mixed Z Z<|A4 1 Z Z (CO Z tu71 ti5 Z Z Z)<|A4 2 Z Z (CO Z tu71 ti5 Z Z Z)<|A4 3 Z Z (mv Z)<|Zo 0 Z Z Z (lit (R:=u8R) ([100]:List UInt8) 12 (pP Z Z<|pN) Z tu36 ti5 Z Z) λai=>DJ 12 [54] Z (fS Z<|fN)<|DJ 10 [49,11,57] Z (fS Z<|fS Z<|fS Z<|fN)<|Zo 4 Z Z Z (lit (R:=(A8 u8R)) ([[100],r6.1.toList,a2.1.toList,a8.1]:List (List UInt8)) 24 (pP Z Z<|pP Z Z<|pP Z Z<|pP Z Z<|pN) Z tu126 CD Z Z) λaj=>DJ 24 [58] Z (fS Z<|fN)<|Be 5 [] [(100,27)] Z (by kernel_rfl) Z (gd0 Z) Z func28 Z Z (HV _) (Y1 Z) rN Z (λ_ _=>C1) λak ab=>Zf 6 Z Z C1 (asg Z)<|A4 7 Z Z (asg Z)<|AV (by kernel_rfl)<|Af<|A5<|Ze [(ab 0)] [1001,27] Z
def G0 (a0:Ao) (a1:Ao) (O:Int):Option (Sum (Sum ((List UInt8) × Int) Unit) Int) :=
 if decide (O<(a0.IDs.length:Int)) then
  idx a0.IDs O>>=λa2 =>
  EK a1.IDs a2>>=λU =>
  if decide (0<=U) then
   idx a0.Ops O>>=λa6 =>
   idx a1.Ops U>>=λa7 =>
   Nh a6 a7>>=λa8 =>
   if !a8 then
    some (.inl (.inl ([],14)))
   else
    some (w64 (O+1))>>=λaa =>
    some (.inr aa)
  else
   some (w64 (O+1))>>=λab =>
   some (.inr ab)
 else
  some (.inl (.inr ()))
def Iw (a0:Ao) (U:Ao) (O:(List Ab) × Int):Option (Sum ((List Ab)) ((List Ab) × Int)) :=
 if decide (O.2<(U.IDs.length:Int)) then
  idx U.IDs O.2>>=λa2 =>
  EK a0.IDs a2>>=λa6 =>
  if decide (a6<0) then
   idx U.Ops O.2>>=λa7 =>
   app 112 O.1 [a7]>>=λa8 =>
   some (w64 (O.2+1))>>=λaa =>
   some (.inr (a8,aa))
  else
   some (w64 (O.2+1))>>=λab =>
   some (.inr (O.1,ab))
 else
  some (.inl O.1)
def Hw (a0:Ao) (O:Ao):Option ((List UInt8) × Int) :=
 Ee a0>>=λU =>
 if U != 0 then
  some ([],U)
 else
  Ee O>>=λr6 =>
  if r6 != 0 then
   some ([],r6)
  else
   Bc (iter (G0 a0 O) 0) λs9 =>
   ER O.IDs a0.IDs>>=λa2 =>
   if !a2 then
    some ([],32)
   else
    (ET 1000) a0.IDs>>=λa6 =>
    (ET 1000) O.IDs>>=λa7 =>
    (iter (Iw a0 O) ([],0))>>=λa8 =>
    Ip a8>>=λaa =>
    app 1 [100] a6.toList>>=λab =>
    app 1 ab a7.toList>>=λac =>
    app 1 ac aa.1>>=λad =>
    some (ad,0)
end
section
theorem zli (a0:Ao) (a1:Ao):Ah Tryz.prog 11 [.rd AF a0,.rd AF a1] [] (Hw a0 a1) (λr O=>⟨[.val (O 0),.rd A3 r.2],[(100,some (O 0,.list u8R 5 r.1))]⟩):=by
 refine Am 105 func11 Z Z Z λH w=>?_;refine A2<|Eb Z (bx 1 Z) λv1=>Eb Z (bx 2 Z) λv2=>Za Z<|Zb Z<|A6<|A2<|Zq (ld 1 Z Z fH BX Z)<|Zc [] [] func29 Z (FR _) λr3 n4=>Zb Z<|A2<|Zm Z<|Zq (I.neq Z Z)<|Zj Z (λh5=>?_) (λh5=>?_)
 ·refine A2<|Zm Z<|Za Z<|Zb Z<|A5<|An<|Cl u8R 5 3<|Ze [(.slice none 0 0)] [3] Z
 ·refine Zt<|A6<|A2<|Zq (ld 2 Z Z fH BX Z)<|Zc [] [] func29 Z (FR _) λr6 n7=>Zb Z<|A2<|Zm Z<|Zq (I.neq Z Z)<|Zj Z (λh8=>?_) (λh8=>?_)
  ·refine A2<|Zm Z<|Za Z<|Zb Z<|A5<|An<|Cl u8R 5 4<|Ze [(.slice none 0 0)] [4] Z
  ·refine Zt<|BM (λ(s9:Unit) U ww=>Sta (ctx 105 H [] w) [(2,.val (A7 v1 0)),(3,.val (A7 v2 0))] [(1,some (v1,.box 33 [.rd AF a0])),(2,some (v2,.box 33 [.rd AF a1]))] U ww) ?_ (λs9=>?_)
   ·refine A2<|Zb Z<|AJ (λ(ad:Int) U ww=>Sta (ctx 105 H [] w) [(2,.val (A7 v1 0)),(3,.val (A7 v2 0)),(8,.rd A3 ad)] [(1,some (v1,.box 33 [.rd AF a0])),(2,some (v2,.box 33 [.rd AF a1]))] U ww) (λU ww h=>Zu h [1,2]) (λad=>?_);refine A6<|A2<|Zm Z<|Zq (faB 1 Z Z underlying33 Z (by exact AU))<|Zq (ld 1 Z Z (fP (C7 _)) B0 Z)<|Zq (Aq Z .rd Z tu28)<|Zq (I.lss Z Z)<|Zj Z (λah=>?_) (λah=>?_)
    ·refine Zt<|A6<|AB<|A6<|Bq [] mixed Z Z<|A4 0 Z Z (faB 2 Z Z underlying33 Z (by exact AU))<|A4 1 Z Z (ld 2 Z Z (fP (C7 _)) B0 Z)<|A4 2 Z Z (faB 1 Z Z underlying33 Z (by exact AU))<|A4 3 Z Z (ld 1 Z Z (fP (C7 _)) B0 Z)<|A4 4 Z Z (mv Z)<|AZ λb2 ai=>A4 5 Z Z (ixR Z Z ai tu28 Ak Z)<|A4 6 Z Z (ldR Z Aw)<|Be 7 [] [] Z (by kernel_rfl) Z (gd0 Z) Z func35 Z Z (Hk _ _) (Y2 Z Z) rN Z (λ_ _=>Cb) λb3 b4=>A4 8 Z Z (asg Z)<|AV (by kernel_rfl)<|Af<|A6<|Bq [] mixed Z Z<|A4 0 Z Z (mv Z)<|A4 1 Z Z (I.geq Z Z)<|A4 2 Z Z (mv Z)<|hIf 43 Z Z (λa8=>?_) (λa8=>?_)
     ·refine hKn 42 Z Z a8<|Zg 3 Z Z (faB 1 Z Z underlying33 Z (by exact BP))<|Zg 4 Z Z (ld 1 Z Z (fP (BQ _)) BR Z)<|Zg 5 Z Z (mv Z)<|AZ λb5 aj=>Zg 6 Z Z (ixR Z Z aj tu31 Ba Z)<|Zg 7 Z Z (ldR Z C4)<|Zg 8 Z Z (faB 2 Z Z underlying33 Z (by exact BP))<|Zg 9 Z Z (ld 2 Z Z (fP (BQ _)) BR Z)<|Zg 10 Z Z (mv Z)<|AZ λb6 ak=>Zg 11 Z Z (ixR Z Z ak tu31 Ba Z)<|Zg 12 Z Z (ldR Z C4)<|Be 13 [] [] Z (by kernel_rfl) Z Zx Z func36 Z Z (zmh _ _) (Y2 Z Z) rN Z (λ_ _=>DY) λb7 b8=>Zg 14 Z Z (Cd Z)<|A4 15 Z Z (pkT Z Z)<|AV (by kernel_rfl)<|Af<|gIf Z Z (λab=>?_) (λab=>?_)
      ·refine gKn 55 Z ab<|A2<|Za Z<|Zb Z<|A5<|Bh<|An<|BE<|Bk<|Cl u8R 5 86<|Ze [(.slice none 0 0)] [86] Z
      ·refine gKn 55 Z ab<|AW<|Ap<|Af<|Ai<|Zm Z<|Zq (I.add Z Z)<|Za Z<|AI 8 Z λb9=>Ae<|Au (λU ww h=>Zu h [1,2])
     ·refine hKn 42 Z Z a8<|hSk 3 Z Z<|hSk 4 Z Z<|hSk 5 Z Z<|hSk 6 Z Z<|hSk 7 Z Z<|hSk 8 Z Z<|hSk 9 Z Z<|hSk 10 Z Z<|hSk 11 Z Z<|hSk 12 Z Z<|hSk 13 Z Z<|hSk 14 Z Z<|A4 15 Z Z (pkF Z Z)<|AV (by kernel_rfl)<|Af<|DX Z<|AW<|Ap<|Af<|Ai<|Zm Z<|Zq (I.add Z Z)<|Za Z<|AI 8 Z λba=>Ae<|Au (λU ww h=>Zu h [1,2])
    ·refine AC<|AD<|AG<|BA (λU ww h=>Zu h [1,2])
   ·refine A6<|A2<|Zq (faB 2 Z Z underlying33 Z (by exact AU))<|Zq (ld 2 Z Z (fP (C7 _)) B0 Z)<|Zq (faB 1 Z Z underlying33 Z (by exact AU))<|Zq (ld 1 Z Z (fP (C7 _)) B0 Z)<|Zc [] [] func37 Z (Th _ _) λbb bc=>Zq (Cd Z)<|Zj Z (λam=>?_) (λam=>?_)
    ·refine A2<|Za Z<|Zb Z<|A5<|An<|Cl u8R 5 87<|Ze [(.slice none 0 0)] [87] Z
    ·refine Zt<|A6<|EJ [(2,.val (A7 v1 0)),(3,.val (A7 v2 0))] [(1,some (v1,.box 33 [.rd AF a0])),(2,some (v2,.box 33 [.rd AF a1]))] [1,2] (sS Z<|sS Z<|sN) (Zi Z<|Zi Z<|rN)<|Ca λa6 ao=>Ca λa7 ap=>gOr [] [⟨1,some ([], λO=>(v1,.box 33 [.rd AF a0])),[]⟩,⟨2,some ([], λO=>(v2,.box 33 [.rd AF a1])),[]⟩,⟨88,none,[(6,some ([1], λO=>((O 1),.box 71 [.rd aZ (Vector.replicate 32 0)]))),(8,some ([1], λO=>((O 1),.box 71 [.rd aZ a6])))]⟩,⟨89,none,[(7,some ([2], λO=>((O 2),.box 71 [.rd aZ (Vector.replicate 32 0)]))),(9,some ([2], λO=>((O 2),.box 71 [.rd aZ a7])))]⟩] [pk 63 (.val (A7 v1 (0+0))) [(0,0,false)],pk 64 (.rd (A8 aZ) a0.IDs) [(0,0,false)],pd 65 (.rd aZ a6),pk 66 (.val (A7 v2 (0+0))) [(1,0,false)],pk 67 (.rd (A8 aZ) a1.IDs) [(1,0,false)],pd 68 (.rd aZ a7),⟨some (10,[1], λO=>.val (A7 (O 1) 0)),[(2,0,true)],[1],[]⟩,⟨some (11,[2], λO=>.val (A7 (O 2) 0)),[(3,0,true)],[2],[]⟩,⟨none,[(2,1,true)],[],[]⟩,⟨none,[(3,1,true)],[],[]⟩] mixed (oC (oRn (λO E=>faB 1 Z Z underlying33 Z (by exact AU)))<|oC (oRn (λO E=>ld 1 Z Z (fP (C7 _)) B0 Z))<|oC (oCl [] [] [] ao func38 Z (λO=>(Uu _)) (λO=>(Y1 Z)) (λO E=>rN))<|oC (oRn (λO E=>faB 2 Z Z underlying33 Z (by exact AU)))<|oC (oRn (λO E=>ld 2 Z Z (fP (C7 _)) B0 Z))<|oC (oCl [] [] [] ap func38 Z (λO=>(Uu _)) (λO=>(Y1 Z)) (λO E=>rN))<|oC (oEb 88 1 (λO E=>AN 88 Ak (.zr (R:=aZ) (x:=(Vector.replicate 32 0)) BU)))<|oC (oEb 89 2 (λO E=>AN 89 Ak (.zr (R:=aZ) (x:=(Vector.replicate 32 0)) BU)))<|oC (oEs 88 (λO E=>sto 88 Z Z fH Z Ak))<|oC (oEs 89 (λO E=>sto 89 Z Z fH Z Ak))<|oN) λae=>Af<|A2<|Zb Z<|AY (λ(af:(List Ab)) U ww=>∃ O:Nat->Value,Sta (ctx 105 H [] w) [(10,.val (A7 (O 0) 0)),(11,.val (A7 (O 1) 0)),(12,.val (O 2))] [(88,some ((O 0),.box 71 [.rd aZ a6])),(89,some ((O 1),.box 71 [.rd aZ a7])),(121,some ((O 2),.list AA 60 af))] U ww) ?_ (λaf=>?_)
     ·refine A2<|Zb Z<|Dk AA 60 154<|AJ (λ(ac:(List Ab) × Int) U ww=>∃ O:Nat->Value,Sta (ctx 105 H [] w) [(2,.val (A7 v1 0)),(3,.val (A7 v2 0)),(10,.val (A7 (O 0) 0)),(11,.val (A7 (O 1) 0)),(12,.val (O 2)),(13,.rd A3 ac.2)] [(1,some (v1,.box 33 [.rd AF a0])),(2,some (v2,.box 33 [.rd AF a1])),(88,some ((O 0),.box 71 [.rd aZ a6])),(89,some ((O 1),.box 71 [.rd aZ a7])),(153,some ((O 2),.list AA 60 ac.1))] U ww) (λU ww h=>⟨nvl [(ae 1),(ae 2),(.slice none 0 0)],Zu h [1,2,88,89,154]⟩) (λac=>?_)
      refine gEx λa2=>A6<|A2<|Zm Z<|Zq (faB 2 Z Z underlying33 Z (by exact AU))<|Zq (ld 2 Z Z (fP (C7 _)) B0 Z)<|Zq (Aq Z .rd Z tu28)<|Zq (I.lss Z Z)<|Zj Z (λaq=>?_) (λaq=>?_)
      ·refine Zt<|A6<|AB<|A6<|Bq [] mixed Z Z<|A4 0 Z Z (faB 1 Z Z underlying33 Z (by exact AU))<|A4 1 Z Z (ld 1 Z Z (fP (C7 _)) B0 Z)<|A4 2 Z Z (faB 2 Z Z underlying33 Z (by exact AU))<|A4 3 Z Z (ld 2 Z Z (fP (C7 _)) B0 Z)<|A4 4 Z Z (mv Z)<|AZ λbd ar=>A4 5 Z Z (ixR Z Z ar tu28 Ak Z)<|A4 6 Z Z (ldR Z Aw)<|Be 7 [] [] Z (by kernel_rfl) Z (gd0 Z) Z func35 Z Z (Hk _ _) (Y2 Z Z) rN Z (λ_ _=>Cb) λbe bf=>A4 8 Z Z (I.lss Z Z)<|AV (by kernel_rfl)<|Af<|gIf Z Z (λau=>?_) (λau=>?_)
       ·refine Ai<|Zm Z<|Zq (faB 2 Z Z underlying33 Z (by exact BP))<|Zq (ld 2 Z Z (fP (BQ _)) BR Z)<|Zm Z<|Al λav aw=>Zq (ixR Z Z aw tu31 Ba Z)<|Zq (ldR Z C4)<|Ef Z (lit (R:=AA) ([av]:List Ab) 185 (pP Z Z<|pN) Z tu31 Ba Z Z) λbg=>BW 185 [91] Z (fS Z<|fN)<|Al λbh ax=>Ef Z (apn 153 Z Z Z .rd ax tu31 Ba Z Z Z) λv50=>Za Z<|Ae<|Ap<|Af<|Ai<|Zm Z<|Zq (I.add Z Z)<|Za Z<|AI 13 Z λbi=>Ae<|Au (λU ww h=>⟨nvl [(a2 0),(a2 1),v50],Zu h [1,2,88,89,153]⟩)
       ·refine AW<|Ap<|Af<|Ai<|Zm Z<|Zq (I.add Z Z)<|Za Z<|AI 13 Z λbj=>Ae<|Au (λU ww h=>⟨nvl [(a2 0),(a2 1),(a2 2)],Zu h [1,2,88,89,153]⟩)
      ·refine AC<|AD<|AG<|Av (λU ww h=>⟨nvl [(a2 0),(a2 1),(a2 2)],Zu h [88,89,153]⟩)
     ·refine gEx λbk=>A2<|Zm Z<|BW 121 [12,94] Z (fS Z<|fS Z<|fN)<|Zc [] [(100,186)] func31 Z (Uo _) λbl bm=>Zm Z<|Zq (ext Z Z)<|Zq (ext Z Z)<|Za Z<|Zb Z<|A6<|DO 88 10 Z Z<|DO 89 11 Z Z<|Bq [187] mixed Z Z<|A4 1 Z Z (CO Z tu71 ti5 Z Z Z)<|A4 3 Z Z (CO Z tu71 ti5 Z Z Z)<|A4 5 Z Z (mv Z)<|Zo 0 Z Z Z (lit (R:=u8R) ([100]:List UInt8) 187 (pP Z Z<|pN) Z tu36 ti5 Z Z) λbn=>AZ λbo ay=>Zo 2 Z Z Z (apn 187 Z Z Z .rd ay tu36 ti5 Z Z Z) λbp=>AZ λbq az=>Zo 4 Z Z Z (apn 187 Z Z Z .rd az tu36 ti5 Z Z Z) λbr=>AZ λbu b0=>Zo 6 Z Z Z (apn 187 Z Z Z (.own 186 Z) b0 tu36 ti5 Z Z Z) λb1=>Zf 7 Z Z C1 (asg Z)<|A4 8 Z Z (asg Z)<|AV (by kernel_rfl)<|Af<|A5<|Ze [b1] [187] Z
def PU (a0:Bt) (O:Ao) (a2:Ao):Option (Bool) :=
 (Nf a0>>=λr5 =>
 if r5 then
  some true
 else
  Fg O>>=λr8 =>
  if r8 then
   some true
  else
   Fg a2>>=λac =>
   some ac)>>=λs4 =>
 if s4 then
  some true
 else
  GD a0>>=λU =>
  Iu a0>>=λa6 =>
  KL O>>=λa7 =>
  KM O>>=λa8 =>
  Iv O a2>>=λaa =>
  Hw O a2>>=λab =>
  Ih U.1 a6.1>>=λad =>
  if ad then
   if U.2==a6.2 then
    Ih a7.1 a8.1>>=λae =>
    if ae then
     if a7.2==a8.2 then
      Ih aa.1 ab.1>>=λaf =>
      if af then
       some (aa.2==ab.2)>>=λah =>
       some ah
      else
       some false
     else
      some false
    else
     some false
   else
    some false
  else
   some false
theorem zfl (a0:Bt) (a1:Ao) (a2:Ao):Ah Tryz.prog 3 [.rd Ch a0,.rd AF a1,.rd AF a2] [AE] (PU a0 a1 a2) (λr nv=>⟨[.rd Ac r],[(1001,some (.bool true,.glob 1 (Az 64 A9) C6))]⟩):=by
 refine Am 89 func3 Z Z Z λH w=>?_;refine A2<|Eb Z (bx 1 Z) λv1=>Eb Z (bx 2 Z) λv2=>Eb Z (bx 3 Z) λv3=>Zb Z<|A6<|AY (λ(s4:Bool) aa ww=>Sta (ctx 89 H [AE] w) [(3,.val (A7 v1 0)),(4,.val (A7 v2 0)),(5,.val (A7 v3 0)),(28,.rd Ac s4)] [(1,some (v1,.box 30 [.rd Ch a0])),(2,some (v2,.box 33 [.rd AF a1])),(3,some (v3,.box 33 [.rd AF a2])),AE] aa ww) ?_ (λs4=>?_)
 ·refine Ai<|Zq (ld 1 Z Z fH DK Z)<|Zc [] [] func4 Z (zlk _) λr5 n6=>Zm Z<|Bf 21 Z (λh7=>?_) (λh7=>?_)
  ·refine Aj 20 Z h7<|Zk Z<|Zk Z<|Zq (pkT Z Z)<|Zm Z<|Zk Z<|Zk Z<|Zq (pkT Z Z)<|Ae<|Av (λaa ww h=>Zu h [1,2,3,1001])
  ·refine Aj 20 Z h7<|Aa Zx Z Z (ld 2 Z Z fH BX Z)<|CN [] [] Zx Z func5 Z Z (Ud _) (Y1 Z) rN λr8 n9=>Zq (pkF Z Z)<|Zm Z<|Bf 25 Z (λO=>?_) (λO=>?_)
   ·refine Aj 23 Z O<|Aj 24 Z O<|Zk Z<|Zk Z<|Zq (pkT Z Z)<|Ae<|Av (λaa ww h=>Zu h [1,2,3,1001])
   ·refine Aj 23 Z O<|Aj 24 Z O<|Aa Zx Z Z (ld 3 Z Z fH BX Z)<|CN [] [] Zx Z func5 Z Z (Ud _) (Y1 Z) rN λad ae=>Zq (pkF Z Z)<|Ae<|Av (λaa ww h=>Zu h [1,2,3,1001])
 ·refine gIf Z Z (λac=>?_) (λac=>?_)
  ·refine A2<|Zb Z<|A5<|An<|Ze [] [1001] Z
  ·refine Zt<|A2<|Zq (ld 1 Z Z fH DK Z)<|Zc [] [(100,1100)] func6 Z (Uw _) λaf ah=>Zm Z<|Zq (ext Z Z)<|Zq (ext Z Z)<|Za Z<|Zb Z<|A2<|Zq (ld 1 Z Z fH DK Z)<|Zc [] [(100,1101)] func7 Z (zlu _) λai aj=>Zm Z<|Zq (ext Z Z)<|Zq (ext Z Z)<|Za Z<|Zb Z<|A2<|Zq (ld 2 Z Z fH BX Z)<|Zc [1001] [(100,1102)] func8 Z (zo1 _) λak am=>Zm Z<|Zq (ext Z Z)<|Zq (ext Z Z)<|Za Z<|Zb Z<|A2<|Zq (ld 2 Z Z fH BX Z)<|Zc [] [(100,1103)] func9 Z (zlv _) λao ap=>Zm Z<|Zq (ext Z Z)<|Zq (ext Z Z)<|Za Z<|Zb Z<|A2<|Zq (ld 2 Z Z fH BX Z)<|Zq (ld 3 Z Z fH BX Z)<|Zc [1001] [(100,1104)] func10 Z (zog _ _) λaq ar=>Zm Z<|Zq (ext Z Z)<|Zq (ext Z Z)<|Za Z<|Zb Z<|A2<|Zq (ld 2 Z Z fH BX Z)<|Zq (ld 3 Z Z fH BX Z)<|Zc [] [(100,1105)] func11 Z (zli _ _) λau av=>Zm Z<|Zq (ext Z Z)<|Zq (ext Z Z)<|Za Z<|Zb Z<|A2<|Zm Z<|Zm Z<|BW 1100 [32,7,61] Z (fS Z<|fS Z<|fS Z<|fN)<|BW 1101 [37,9,62] Z (fS Z<|fS Z<|fS Z<|fN)<|Zc [] [] func12 Z (PL _ _) λaw ax=>Zm Z<|Bf 64 Z (λab=>?_) (λab=>?_)
   ·refine Aj 63 Z ab<|Aa Zx Z Z (mv Z)<|Aa Zx Z Z (mv Z)<|Aa Zx Z Z (I.eql Z Z)<|Zq (pkT Z Z)<|Zm Z<|Bf 69 Z (λU=>?_) (λU=>?_)
    ·refine Aj 67 Z U<|Aj 68 Z U<|Aa Zx Z Z (mv Z)<|Aa Zx Z Z (mv Z)<|BW 1102 [42,11,70] Z (fS Z<|fS Z<|fS Z<|fN)<|BW 1103 [47,13,71] Z (fS Z<|fS Z<|fS Z<|fN)<|CN [] [] Zx Z func12 Z Z (PL _ _) (Y2 Z Z) rN λay az=>Zq (pkT Z Z)<|Zm Z<|Bf 74 Z (λa6=>?_) (λa6=>?_)
     ·refine Aj 72 Z a6<|Aj 73 Z a6<|Aa Zx Z Z (mv Z)<|Aa Zx Z Z (mv Z)<|Aa Zx Z Z (I.eql Z Z)<|Zq (pkT Z Z)<|Zm Z<|Bf 79 Z (λa7=>?_) (λa7=>?_)
      ·refine Aj 77 Z a7<|Aj 78 Z a7<|Aa Zx Z Z (mv Z)<|Aa Zx Z Z (mv Z)<|BW 1104 [53,15,80] Z (fS Z<|fS Z<|fS Z<|fN)<|BW 1105 [59,17,81] Z (fS Z<|fS Z<|fS Z<|fN)<|CN [] [] Zx Z func12 Z Z (PL _ _) (Y2 Z Z) rN λb0 b1=>Zq (pkT Z Z)<|Zm Z<|Bf 84 Z (λa8=>?_) (λa8=>?_)
       ·refine Aj 82 Z a8<|Aj 83 Z a8<|Aa Zx Z Z (mv Z)<|Aa Zx Z Z (mv Z)<|Aa Zx Z Z (I.eql Z Z)<|Zq (pkT Z Z)<|Za Z<|AI 6 Z λb2=>Zn<|A5<|Ze [] [1001] Z
       ·refine Aj 82 Z a8<|Aj 83 Z a8<|Zk Z<|Zk Z<|Zk Z<|Zq (pkF Z Z)<|Zb Z<|A5<|Ze [] [1001] Z
      ·refine Aj 77 Z a7<|Aj 78 Z a7<|Zk Z<|Zk Z<|Zk Z<|Zq (pkF Z Z)<|Zm Z<|Zk Z<|Zk Z<|Zk Z<|Zq (pkF Z Z)<|Zb Z<|A5<|Ze [] [1001] Z
     ·refine Aj 72 Z a6<|Aj 73 Z a6<|Zk Z<|Zk Z<|Zk Z<|Zq (pkF Z Z)<|Zm Z<|Zk Z<|Zk Z<|Zk Z<|Zq (pkF Z Z)<|Zm Z<|Zk Z<|Zk Z<|Zk Z<|Zq (pkF Z Z)<|Zb Z<|A5<|Ze [] [1001] Z
    ·refine Aj 67 Z U<|Aj 68 Z U<|Zk Z<|Zk Z<|Zk Z<|Zq (pkF Z Z)<|Zm Z<|Zk Z<|Zk Z<|Zk Z<|Zq (pkF Z Z)<|Zm Z<|Zk Z<|Zk Z<|Zk Z<|Zq (pkF Z Z)<|Zm Z<|Zk Z<|Zk Z<|Zk Z<|Zq (pkF Z Z)<|Zb Z<|A5<|Ze [] [1001] Z
   ·refine Aj 63 Z ab<|Zk Z<|Zk Z<|Zk Z<|Zq (pkF Z Z)<|Zm Z<|Zk Z<|Zk Z<|Zk Z<|Zq (pkF Z Z)<|Zm Z<|Zk Z<|Zk Z<|Zk Z<|Zq (pkF Z Z)<|Zm Z<|Zk Z<|Zk Z<|Zk Z<|Zq (pkF Z Z)<|Zm Z<|Zk Z<|Zk Z<|Zk Z<|Zq (pkF Z Z)<|Zb Z<|A5<|Ze [] [1001] Z
end
section
section
variable {α:Type}
theorem DZ {l:List α} {i:Nat} (d:α) (h:i<l.length):idx l (i:Int)=some (l.getD i d):=by rw[Ax h]; simp[h]
theorem PV {n:Nat} {v:Vector α n} {i:Int}:B8 v i=idx v.toList i:=rfl
theorem Uy {n:Nat} {v:Vector α n} {i:Nat} {x:α}:(CB v (i:Int) x).toList=v.toList.set i x:=by
 unfold CB; simp
theorem z16o {l:List α} {i j:Nat} {x d:α} (h:i<l.length):(l.set i x).getD j d=if i=j then x else l.getD j d:=by
 simp only[List.getD_eq_getElem?_getD,List.getElem?_set];by_cases e:i=j
 ·subst e; simp[h]
 ·simp[e]
theorem Uz {l:List α} {n i:Nat} {d:α} (h:i<n):(l.take n).getD i d=l.getD i d:=by
 simp[List.getD_eq_getElem?_getD,List.getElem?_take,h]
theorem ztq {l:List α} {n:Nat} {x:α} (h:n<l.length):(l.set n x).take (n+1)=l.take n++[x]:=by
 rw[List.take_add_one,List.getElem?_set_self h,List.take_set_of_le (Nat.le_refl _)]; rfl
end
theorem zxw (a:UInt32) (n:Nat):(FH a n).toNat=a.toNat * 2 ^ (min n 32) % 4294967296:=by unfold FH; simp
theorem NX (a:UInt32) (n:Nat):(BV a n).toNat=a.toNat / 2 ^ (min n 32):=by
 unfold BV;have h1:=UInt32.toNat_lt a;have h2:a.toNat / 2 ^ (min n 32)<=a.toNat:=Nat.div_le_self _ _
 simp; omega
def tr (x:UInt32) (n:Nat):UInt32:=BV x n ||| FH x (32 - n)
theorem FC (x:UInt32) (n:Nat) (h:n<=32):EQ x (n:Int)=some (tr x n):=by
 unfold EQ;rw[CJ (by omega),B6 (by omega) (by omega),CJ (by omega)];simp only[bS];unfold tr;rw[show ((32:Int) - (n:Int)).toNat=32 - n by omega,Int.toNat_natCast]
theorem Hx (x:UInt32) (n:Nat) (h:1<=n) (h2:n<=31):Fz x (-(n:Int))=some (tr x n):=by
 have key:∀ n:Fin 32,1<=n.val->(UInt64.ofInt (-(n.val:Int)) &&& 31)=UInt64.ofNat (32 - n.val):=by decide +kernel
 have O:∀ n:Fin 32,1<=n.val->(UInt64.ofNat (32 - n.val)).toNat=32 - n.val/\(32 - UInt64.ofNat (32 - n.val)).toNat=n.val:=by decide +kernel
 unfold Fz;rw[key ⟨n, by omega⟩ h];simp only[bS];rw[(O ⟨n, by omega⟩ h).1,(O ⟨n, by omega⟩ h).2];unfold tr;rw[UInt32.or_comm]
theorem UA (x:UInt32) (a b c:Nat) (O:1<=a/\a<=31) (U:1<=b/\b<=31) (hc:1<=c/\c<=31):J9 x (a:Int) (b:Int) (c:Int)=some ((tr x a ^^^ tr x b) ^^^ tr x c):=by
 unfold J9;rw[B6 (by omega) (by omega),B6 (by omega) (by omega),B6 (by omega) (by omega)];rw[show (0:Int) - (a:Int) = -(a:Int) by omega, show (0:Int) - (b:Int) = -(b:Int) by omega, show (0:Int) - (c:Int) = -(c:Int) by omega];rw[Hx x a O.1 O.2,Hx x b U.1 U.2,Hx x c hc.1 hc.2];rfl
def sg0 (x:UInt32):UInt32:=(tr x 7 ^^^ tr x 18) ^^^ BV x 3
def sg1 (x:UInt32):UInt32:=(tr x 17 ^^^ tr x 19) ^^^ BV x 10
def word (b:List UInt8) (k:Nat):UInt32:=(((b.getD (4 * k) 0).toUInt32 * 256+(b.getD (4 * k+1) 0).toUInt32) * 256+(b.getD (4 * k+2) 0).toUInt32) * 256+(b.getD (4 * k+3) 0).toUInt32
def KN (l:List UInt32):List UInt32:=l++[((l.getD (l.length - 16) 0+l.getD (l.length - 7) 0)+sg0 (l.getD (l.length - 15) 0))+sg1 (l.getD (l.length - 2) 0)]
def CS (b:List UInt8):Nat->List UInt32
 | 0=>(List.range 16).map (word b)
 | n+1=>KN (CS b n)
theorem NY (b:List UInt8):∀ n,(CS b n).length=16+n
 | 0=>by simp[CS]
 | n+1=>by simp[CS,KN,NY b n]; omega
theorem UB (l:List UInt32) (t:Nat) (h:l.length=t):KN l=l++[((l.getD (t - 16) 0+l.getD (t - 7) 0)+sg0 (l.getD (t - 15) 0))+sg1 (l.getD (t - 2) 0)]:=by subst h; rfl
theorem z16w (b:List UInt8) (hb:64<=b.length):iter (Js b) ([],0)=some (CS b 0):=by
 refine Ck (F:=Js b) (b:=CS b 0) 16 (λi=>((List.range i).map (word b),(i:Int))) (λi hi=>?_) ?_
 ·unfold Js;rw[if_pos (by simp; omega)];simp only[];rw[B6 (x:=4 * (i:Int)) (by omega) (by omega),B6 (x:=4 * (i:Int)+1) (by omega) (by omega),B6 (x:=4 * (i:Int)+2) (by omega) (by omega),B6 (x:=4 * (i:Int)+3) (by omega) (by omega)];rw[show (4 * (i:Int))=((4 * i:Nat):Int) by omega, show (((4 * i:Nat):Int)+1)=((4 * i+1:Nat):Int) by omega, show (((4 * i:Nat):Int)+2)=((4 * i+2:Nat):Int) by omega, show (((4 * i:Nat):Int)+3)=((4 * i+3:Nat):Int) by omega]
  rw[DZ 0 (by omega),DZ 0 (by omega),DZ 0 (by omega),DZ 0 (by omega)];simp only[bS];rw[B1 (by simp; omega)];simp only[bS,AL (show i<9223372036854775807 by omega)];rw[List.range_succ,List.map_append];rfl
 ·unfold Js;rw[if_neg (by simp)];rfl
theorem z17l (b:List UInt8):iter (Jt) (CS b 0,16)=some (CS b 48):=by
 refine Ck (F:=Jt) (b:=CS b 48) 48 (λi=>(CS b i,((16+i:Nat):Int))) (λi hi=>?_) ?_
 ·have O:=NY b i;unfold Jt;rw[if_pos (by simp; omega)];simp only[];rw[B6 (x:=((16+i:Nat):Int) - 15) (by omega) (by omega),B6 (x:=((16+i:Nat):Int) - 2) (by omega) (by omega),B6 (x:=((16+i:Nat):Int) - 16) (by omega) (by omega),B6 (x:=((16+i:Nat):Int) - 7) (by omega) (by omega)];rw[show ((16+i:Nat):Int) - 15=((16+i - 15:Nat):Int) by omega, show ((16+i:Nat):Int) - 2=((16+i - 2:Nat):Int) by omega, show ((16+i:Nat):Int) - 16=((16+i - 16:Nat):Int) by omega, show ((16+i:Nat):Int) - 7=((16+i - 7:Nat):Int) by omega]
  rw[DZ 0 (by omega),DZ 0 (by omega),DZ 0 (by omega),DZ 0 (by omega)];simp only[bS];rw[show (7:Int)=((7:Nat):Int) from rfl, show (18:Int)=((18:Nat):Int) from rfl, show (17:Int)=((17:Nat):Int) from rfl, show (19:Int)=((19:Nat):Int) from rfl];rw[FC _ 7 (by omega),FC _ 18 (by omega),FC _ 17 (by omega),FC _ 19 (by omega)];simp only[bS];rw[B1 (by simp; omega)];simp only[bS,AL (show 16+i<9223372036854775807 by omega)]
  rw[show CS b (i+1)=KN (CS b i) from rfl,UB _ (16+i) O];rfl
 ·unfold Jt;rw[if_neg (by simp)]
theorem z1dh (x:UInt32) (y:UInt8) (h:x.toNat<16777216):(FH x 8) ||| y.toUInt32=x * 256+y.toUInt32:=by
 apply UInt32.toNat_inj.1
 have O:=UInt8.toNat_lt y;rw[UInt32.toNat_or,zxw,UInt32.toNat_add,UInt32.toNat_mul];have U:(y.toUInt32).toNat=y.toNat:=by simp
 have e2:(256:UInt32).toNat=256:=rfl;rw[U,e2, show (2:Nat) ^ (min 8 32)=256 from rfl,Nat.mod_eq_of_lt (a:=x.toNat * 256) (by omega),Nat.mod_eq_of_lt (a:=x.toNat * 256+y.toNat) (by omega)]
 have:=Nat.shiftLeft_add_eq_or_of_lt (i:=8) (b:=y.toNat) (by simpa using O) x.toNat
 rw[Nat.shiftLeft_eq, show (2:Nat) ^ 8=256 from rfl] at this;exact this.symm
def F0 (b:List UInt8) (k:Nat):Nat->UInt32
 | 0=>0
 | m+1=>F0 b k m * 256+(b.getD (4 * k+m) 0).toUInt32
theorem UC (b:List UInt8) (k:Nat):∀ m,m<=4->(F0 b k m).toNat<256 ^ m
 | 0,_=>by simp[F0]
 | m+1,h=>by
  have ih:=UC b k m (by omega);have hy:=UInt8.toNat_lt (b.getD (4 * k+m) 0);have hp:256 ^ m<=256 ^ 3:=Nat.pow_le_pow_right (by omega) (by omega);have e3:(256:Nat) ^ 3=16777216:=rfl;have ep:256 ^ (m+1)=256 ^ m * 256:=Nat.pow_succ ..;rw[F0,UInt32.toNat_add,UInt32.toNat_mul,ep];have O:((b.getD (4 * k+m) 0).toUInt32).toNat=(b.getD (4 * k+m) 0).toNat:=by simp
  have U:(256:UInt32).toNat=256:=rfl;rw[O,U,Nat.mod_eq_of_lt (a:=(F0 b k m).toNat * 256) (by omega),Nat.mod_eq_of_lt (by omega)];omega
theorem z10t (b:List UInt8) (k:Nat):F0 b k 4=word b k:=by
 simp only[F0,word,Nat.add_zero]
 simp
theorem z11u (b:List UInt8) (hb:b.length=64):∃ w,iter (J8 b) (Vector.replicate 64 0,0)=some w/\w.toList.take 16=CS b 0:=by
 refine D9 (F:=J8 b) 64 (λi s=>s.2=(i:Int)/\∀ k,k<16->s.1.toList.getD k 0=F0 b k (min 4 (i - 4 * k))) (λw=>w.toList.take 16=CS b 0) (λi s hi hs=>?_) (λs hs=>?_) (Vector.replicate 64 0,0) 0 (by omega) ⟨rfl, λk hk=>?_⟩
 ·obtain⟨w,j⟩:=s;obtain⟨U,O⟩:=hs;simp only at U O;subst U;have a6:w.toList.length=64:=by simp
  have a2:w64 (Int.tdiv (i:Int) 4)=((i / 4:Nat):Int):=by
   have:Int.tdiv (i:Int) 4=((i / 4:Nat):Int):=by
    rw[Int.tdiv_eq_ediv_of_nonneg (by omega)]; omega
   rw[this,B6 (by omega) (by omega)]
  refine⟨(CB w ((i / 4:Nat):Int) (F0 b (i / 4) (i % 4+1)),((i+1:Nat):Int)),?_,rfl, λk hk=>?_⟩
  ·unfold J8;rw[if_pos (by simp; omega)];simp only[a2,PV];rw[DZ 0 (by omega)];simp only[bS];rw[DZ 0 (by omega)];simp only[bS,AL (show i<9223372036854775807 by omega)];rw[O (i / 4) (by omega), show min 4 (i - 4 * (i / 4))=i % 4 by omega];have a7:=UC b (i / 4) (i % 4) (by omega);have hp:256 ^ (i % 4)<=256 ^ 3:=Nat.pow_le_pow_right (by omega) (by omega);have e3:(256:Nat) ^ 3=16777216:=rfl
   rw[z1dh _ _ (by omega)];have e4:F0 b (i / 4) (i % 4+1)=F0 b (i / 4) (i % 4) * 256+(b.getD i 0).toUInt32:=by
    show F0 b (i / 4) (i % 4) * 256+(b.getD (4 * (i / 4)+i % 4) 0).toUInt32=_;rw[show 4 * (i / 4)+i % 4=i by omega]
   rw[e4]
  ·simp only[];rw[Uy,z16o (by omega)];by_cases a1:i / 4=k
   ·subst a1;rw[if_pos rfl, show min 4 (i+1 - 4 * (i / 4))=i % 4+1 by omega]
   ·rw[if_neg a1,O k hk]
    congr 1; omega
 ·obtain⟨w,j⟩:=s;obtain⟨U,O⟩:=hs;simp only at U O;subst U;have a6:w.toList.length=64:=by simp
  refine⟨w,?_,?_⟩
  ·unfold J8;rw[if_neg (by simp[hb])]
  ·apply List.ext_getElem
   ·simp[CS]
   ·intro k k1 k2;have hk:k<16:=by simp[CS] at k2; exact k2
    have:=O k hk
    rw[show min 4 (64 - 4 * k)=4 by omega,z10t] at this;have e:w.toList.getD k 0=w.toList[k]'(by omega):=by rw[List.getD_eq_getElem?_getD,List.getElem?_eq_getElem (by omega)]; rfl
    rw[e] at this;simp only[List.getElem_take,this,CS,List.getElem_map,List.getElem_range]
 ·show (Vector.replicate 64 (0:UInt32)).toList.getD k 0=_;rw[show min 4 (0 - 4 * k)=0 by omega,Vector.toList_replicate,List.getD_eq_getElem?_getD,List.getElem?_replicate,if_pos (by omega)];rfl
theorem z10r (v:Vector UInt32 64) (t:Nat) (h1:16<=t) (h2:t<64) (p q r s u:UInt32) (O:B8 v ((t - 15:Nat):Int)=some p) (U:B8 v ((t - 2:Nat):Int)=some q) (e3:B8 v ((t - 16:Nat):Int)=some r) (e4:B8 v ((t - 7:Nat):Int)=some s) (e5:B8 v (t:Int)=some u) :
  HW (v,(t:Int))=some (.inr (CB v (t:Int) (((r+s)+sg0 p)+sg1 q),((t+1:Nat):Int))):=by
 have r1:=Hx p 7 (by omega) (by omega);have r2:=Hx p 18 (by omega) (by omega);have r3:=Hx q 17 (by omega) (by omega);have r4:=Hx q 19 (by omega) (by omega);have hw:=AL (show t<9223372036854775807 by omega);have hd:decide ((t:Int)<64)=true:=by simp; omega
 have w1:w64 ((t:Int) - 15)=((t - 15:Nat):Int):=by rw[B6 (by omega) (by omega)]; omega
 have w2:w64 ((t:Int) - 2)=((t - 2:Nat):Int):=by rw[B6 (by omega) (by omega)]; omega
 have w3:w64 ((t:Int) - 16)=((t - 16:Nat):Int):=by rw[B6 (by omega) (by omega)]; omega
 have w4:w64 ((t:Int) - 7)=((t - 7:Nat):Int):=by rw[B6 (by omega) (by omega)]; omega
 unfold HW;rw[if_pos hd];simp only[];rw[w1,w2,w3,w4,hw,O,U,e3,e4,e5];simp only[bS];rw[show (-7:Int) = -((7:Nat):Int) from rfl, show (-18:Int) = -((18:Nat):Int) from rfl, show (-17:Int) = -((17:Nat):Int) from rfl, show (-19:Int) = -((19:Nat):Int) from rfl,r1,r2,r3,r4];simp only[bS];rfl
theorem z13u (b:List UInt8) (w:Vector UInt32 64) (hw:w.toList.take 16=CS b 0):∃ v,iter (HW) (w,16)=some v/\v.toList=CS b 48:=by
 refine D9 (F:=HW) 48 (λi s=>s.2=((16+i:Nat):Int)/\s.1.toList.take (16+i)=CS b i) (λv=>v.toList=CS b 48) (λi s hi hs=>?_) (λs hs=>?_) (w,16) 0 (by omega) ⟨rfl,hw⟩
 ·obtain⟨w,j⟩:=s;obtain⟨U,O⟩:=hs;simp only at U O;subst U;have a1:w.toList.length=64:=by simp
  have hl:=NY b i;have hg:∀ k,k<16+i->w.toList.getD k 0=(CS b i).getD k 0:=λk hk=>by rw[<- O,Uz hk]
  have hv:∀ k,k<16+i->B8 w (k:Int)=some ((CS b i).getD k 0):=λk hk=>by rw[PV,DZ 0 (by omega),hg k hk]
  refine⟨_,z10r w (16+i) (by omega) (by omega) _ _ _ _ _ (hv _ (by omega)) (hv _ (by omega)) (hv _ (by omega)) (hv _ (by omega)) (DC (by omega)),rfl,?_⟩;simp only[];rw[Uy, show 16+(i+1)=16+i+1 by omega,ztq (by omega),O, show CS b (i+1)=KN (CS b i) from rfl,UB _ (16+i) hl]
 ·obtain⟨w,j⟩:=s;obtain⟨U,O⟩:=hs;simp only at U O;subst U;refine⟨w,?_,?_⟩
  ·unfold HW;rw[if_neg (by simp)]
  ·rw[<- O,List.take_of_length_le (by simp)]
abbrev O8:=UInt32 × UInt32 × UInt32 × UInt32 × UInt32 × UInt32 × UInt32 × UInt32
def toV (s:O8):Vector UInt32 8:=#v[s.1,s.2.1,s.2.2.1,s.2.2.2.1,s.2.2.2.2.1,s.2.2.2.2.2.1,s.2.2.2.2.2.2.1,s.2.2.2.2.2.2.2]
def ofV (h:Vector UInt32 8):O8:=(h[0],h[1],h[2],h[3],h[4],h[5],h[6],h[7])
theorem z1bb (h:Vector UInt32 8):toV (ofV h)=h:=by
 apply Vector.ext
 intro i hi;unfold toV ofV
 match i,hi with
 | 0,_=>rfl
 | 1,_=>rfl
 | 2,_=>rfl
 | 3,_=>rfl
 | 4,_=>rfl
 | 5,_=>rfl
 | 6,_=>rfl
 | 7,_=>rfl
def rnd1 (k w:UInt32) (s:O8):UInt32:=(((s.2.2.2.2.2.2.2+((tr s.2.2.2.2.1 6 ^^^ tr s.2.2.2.2.1 11) ^^^ tr s.2.2.2.2.1 25))+((s.2.2.2.2.1 &&& s.2.2.2.2.2.1) ^^^ ((~~~s.2.2.2.2.1) &&& s.2.2.2.2.2.2.1)))+k)+w
def rnd2 (s:O8):UInt32:=((tr s.1 2 ^^^ tr s.1 13) ^^^ tr s.1 22)+(((s.1 &&& s.2.1) ^^^ (s.1 &&& s.2.2.1)) ^^^ (s.2.1 &&& s.2.2.1))
def rnd (k w:UInt32) (s:O8):O8:=(rnd1 k w s+rnd2 s,s.1,s.2.1,s.2.2.1,s.2.2.2.1+rnd1 k w s,s.2.2.2.2.1,s.2.2.2.2.2.1,s.2.2.2.2.2.2.1)
def runs (K W:List UInt32) (s:O8):Nat->O8
 | 0=>s
 | n+1=>rnd (K.getD n 0) (W.getD n 0) (runs K W s n)
theorem z12w:Pj=some C6.toList:=rfl
theorem UD:C6.toList.length=64:=by simp
theorem z11x (w:Vector UInt32 64) (a b c d e f g z:UInt32) (i:Nat) (hi:i<64) (k u:UInt32) (O:B8 C6 (i:Int)=some k) (U:B8 w (i:Int)=some u) :
  Ha w (a,b,c,d,e,f,g,z,(i:Int))=some (.inr (rnd1 k u (a,b,c,d,e,f,g,z)+rnd2 (a,b,c,d,e,f,g,z),a,b,c,d+rnd1 k u (a,b,c,d,e,f,g,z),e,f,g,((i+1:Nat):Int))):=by
 have m1:=UA e 6 11 25 (by omega) (by omega) (by omega);have m2:=UA a 2 13 22 (by omega) (by omega) (by omega);have hw:=AL (show i<9223372036854775807 by omega);have hd:decide ((i:Int)<64)=true:=by simp; omega
 unfold Ha;rw[if_pos hd];simp only[];rw[O,U,hw];simp only[bS];rw[show (6:Int)=((6:Nat):Int) from rfl, show (11:Int)=((11:Nat):Int) from rfl, show (25:Int)=((25:Nat):Int) from rfl, show (2:Int)=((2:Nat):Int) from rfl, show (13:Int)=((13:Nat):Int) from rfl, show (22:Int)=((22:Nat):Int) from rfl,m1,m2];simp only[bS];rfl
theorem z168 (K W:List UInt32) (a b c d e f g z:UInt32) (i:Nat) (hi:i<64) (k u:UInt32) (O:idx K (i:Int)=some k) (U:idx W (i:Int)=some u) :
  Hd W K (#v[a,b,c,d,e,f,g,z],(i:Int))=some (.inr (#v[rnd1 k u (a,b,c,d,e,f,g,z)+rnd2 (a,b,c,d,e,f,g,z),a,b,c,d+rnd1 k u (a,b,c,d,e,f,g,z),e,f,g],((i+1:Nat):Int))):=by
 have t1:=FC e 6 (by omega);have t2:=FC e 11 (by omega);have t3:=FC e 25 (by omega);have t4:=FC a 2 (by omega);have t5:=FC a 13 (by omega);have t6:=FC a 22 (by omega);have hw:=AL (show i<9223372036854775807 by omega);have hd:decide ((i:Int)<64)=true:=by simp; omega
 have v0:B8 #v[a,b,c,d,e,f,g,z] 0=some a:=rfl;have v1:B8 #v[a,b,c,d,e,f,g,z] 1=some b:=rfl;have v2:B8 #v[a,b,c,d,e,f,g,z] 2=some c:=rfl;have v3:B8 #v[a,b,c,d,e,f,g,z] 3=some d:=rfl;have v4:B8 #v[a,b,c,d,e,f,g,z] 4=some e:=rfl;have v5:B8 #v[a,b,c,d,e,f,g,z] 5=some f:=rfl;have v6:B8 #v[a,b,c,d,e,f,g,z] 6=some g:=rfl;have v7:B8 #v[a,b,c,d,e,f,g,z] 7=some z:=rfl;unfold Hd;rw[if_pos hd];simp only[]
 rw[v0,v1,v2,v3,v4,v5,v6,v7,O,U,hw];simp only[bS];rw[show (6:Int)=((6:Nat):Int) from rfl, show (11:Int)=((11:Nat):Int) from rfl, show (25:Int)=((25:Nat):Int) from rfl, show (2:Int)=((2:Nat):Int) from rfl, show (13:Int)=((13:Nat):Int) from rfl, show (22:Int)=((22:Nat):Int) from rfl,t1,t2,t3,t4,t5,t6];simp only[bS];rfl
def Ix (s:O8) (i:Int):UInt32 × UInt32 × UInt32 × UInt32 × UInt32 × UInt32 × UInt32 × UInt32 × Int:=match s with
 | (a,b,c,d,e,f,g,z)=>(a,b,c,d,e,f,g,z,i)
theorem z10z (w:Vector UInt32 64) (s:O8) (i:Nat) (hi:i<64):Ha w (Ix s (i:Int))=some (.inr (Ix (rnd (C6.toList.getD i 0) (w.toList.getD i 0) s) ((i+1:Nat):Int))):=by
 obtain⟨a,b,c,d,e,f,g,z⟩:=s;exact z11x w a b c d e f g z i hi _ _ (DZ 0 (by rw[UD]; exact hi)) (DZ 0 (by simp; exact hi))
theorem z10f (w:Vector UInt32 64) (s:O8):iter (Ha w) (Ix s 0)=some (runs C6.toList w.toList s 64):=by
 refine Ck (F:=Ha w) (b:=runs C6.toList w.toList s 64) 64 (λi=>Ix (runs C6.toList w.toList s i) (i:Int)) (λi hi=>z10z w _ i hi) ?_;generalize runs C6.toList w.toList s 64=q;obtain⟨a,b,c,d,e,f,g,z⟩:=q;unfold Ix Ha;rw[if_neg (by simp)]
theorem z122 (K W:List UInt32) (hk:K.length=64) (hW:W.length=64) (s:O8) (i:Nat) (hi:i<64):Hd W K (toV s,(i:Int))=some (.inr (toV (rnd (K.getD i 0) (W.getD i 0) s),((i+1:Nat):Int))):=by
 obtain⟨a,b,c,d,e,f,g,z⟩:=s;exact z168 K W a b c d e f g z i hi _ _ (DZ 0 (by omega)) (DZ 0 (by omega))
theorem z14z (K W:List UInt32) (O:K.length=64) (hW:W.length=64) (s:O8):iter (Hd W K) (toV s,0)=some (toV (runs K W s 64)):=by
 refine Ck (F:=Hd W K) (b:=toV (runs K W s 64)) 64 (λi=>(toV (runs K W s i),(i:Int))) (λi hi=>z122 K W O hW _ i hi) ?_;generalize toV (runs K W s 64)=q;unfold Hd;rw[if_neg (by simp)]
theorem z1ay (s:O8):Pd s=Gx (toV s):=by
 funext x
 obtain⟨h,i⟩:=x;unfold Pd Gx;simp only[bS];show (if decide (i<8)=true then B8 (toV s) i >>= _ else _)=_
 split
 ·cases h1:B8 (toV s) i <;> cases h2:B8 h i <;> rfl
 ·rfl
def addV (h v:Vector UInt32 8):Vector UInt32 8:=(iter (Gx v) (h,0)).getD h
theorem UE (h v:Vector UInt32 8):iter (Gx v) (h,0)=some (addV h v):=by
 obtain⟨r,U,-⟩:=D9 (F:=Gx v) 8 (λi s=>s.2=(i:Int)) (λ_=>True) (λi s hi O=>by
  obtain⟨u,j⟩:=s;simp only at O;subst O;unfold Gx;rw[if_pos (by simp; omega)];rw[DC (show i<8 by omega),DC (show i<8 by omega)];simp only[bS,AL (show i<9223372036854775807 by omega)]
  exact⟨_,rfl,rfl⟩) (λs O=>by
  obtain⟨u,j⟩:=s;simp only at O;subst O;unfold Gx;rw[if_neg (by simp)]
  exact⟨_,rfl,trivial⟩) (h,0) 0 (by omega) rfl
 unfold addV;rw[U]; rfl
def gr (h:Vector UInt32 8) (b:List UInt8):Vector UInt32 8:=addV h (toV (runs C6.toList (CS b 48) (ofV h) 64))
theorem z1bg (h:Vector UInt32 8) (b:List UInt8) (hb:b.length=64):M7 h b=some (gr h b):=by
 unfold M7;rw[z16w b (by omega)];simp only[bS];rw[z17l b];simp only[bS,z12w]
 have:=z14z C6.toList (CS b 48) UD (by rw[NY]) (ofV h)
 rw[z1bb] at this;rw[this];simp only[bS];rw[UE];rfl
theorem z19t (h:Vector UInt32 8) (b:List UInt8) (U:64<=b.length):LX h b=some (gr h (b.take 64)):=by
 unfold LX Pb;rw[show (64:Int)=((64:Nat):Int) from rfl, show (0:Int)=((0:Nat):Int) from rfl,Hn (by omega) U];simp only[bS,List.drop_zero,Nat.sub_zero];obtain⟨w,h1,h2⟩:=z11u (b.take 64) (by simp; omega);rw[show ((0:Nat):Int)=0 from rfl,h1];simp only[bS];obtain⟨v,h3,h4⟩:=z13u (b.take 64) w h2;rw[h3];simp only[bS];have O:∀ i:Nat,(hi:i<8)->B8 h (i:Int)=some h[i]:=λi hi=>DC hi;rw[show B8 h 0=some h[0] from O 0 (by omega), show B8 h 1=some h[1] from O 1 (by omega), show B8 h 2=some h[2] from O 2 (by omega), show B8 h 3=some h[3] from O 3 (by omega), show B8 h 4=some h[4] from O 4 (by omega), show B8 h 5=some h[5] from O 5 (by omega), show B8 h 6=some h[6] from O 6 (by omega), show B8 h 7=some h[7] from O 7 (by omega)]
 simp only[bS]
 have:=z10f v (ofV h)
 rw[show (h[0],h[1],h[2],h[3],h[4],h[5],h[6],h[7],(0:Int))=Ix (ofV h) 0 from rfl,this];simp only[bS];rw[z1ay,h4,UE];rfl
end
section
def blk (h:Vector UInt32 8) (b:List UInt8):Vector UInt32 8:=if a1:64<=b.length then blk (gr h (b.take 64)) (b.drop 64) else h
termination_by b.length
decreasing_by simp; omega
theorem NZ {h:Vector UInt32 8} {b:List UInt8} (hb:b.length<64):blk h b=h:=by rw[blk,dif_neg (by omega)]
theorem O0 {h:Vector UInt32 8} {b:List UInt8} (O:64<=b.length):blk h b=blk (gr h (b.take 64)) (b.drop 64):=by rw[blk,dif_pos O]
def lft (b:List UInt8):List UInt8:=b.drop (b.length / 64 * 64)
theorem PW {b:List UInt8} (O:b.length<64):lft b=b:=by unfold lft; rw[Nat.div_eq_of_lt O]; simp
theorem PX {b:List UInt8} (hb:64<=b.length):lft b=lft (b.drop 64):=by
 unfold lft;rw[List.drop_drop,List.length_drop]
 congr 1
 omega
theorem UF (b:List UInt8):(lft b).length<64:=by unfold lft; simp; omega
theorem z19c (h:Vector UInt32 8):∀ (n:Nat) (a c:List UInt8),a.length=n->blk h (a++c)=blk (blk h a) (lft a++c)/\lft (a++c)=lft (lft a++c):=by
 intro n
 induction n using Nat.strongRecOn generalizing h with
 | _ n ih =>
  intro a c ha;by_cases O:64<=a.length
  ·have e1:(a++c).take 64=a.take 64:=by rw[List.take_append_of_le_length O]
   have U:(a++c).drop 64=a.drop 64++c:=by rw[List.drop_append_of_le_length O]
   have hl:64<=(a++c).length:=by simp; omega
   obtain⟨i1,i2⟩:=ih (a.drop 64).length (by simp; omega) (gr h (a.take 64)) (a.drop 64) c rfl;rw[O0 hl,e1,U,O0 O,PX O,PX hl,U];exact⟨i1,i2⟩
  ·rw[NZ (b:=a) (by omega),PW (b:=a) (by omega)];exact⟨rfl,rfl⟩
theorem z12n:∀ (n:Nat) (m:Cr) (r:List UInt8),r.length=n->iter Ja (m,r)=some ({ m with Words:=blk m.Words r },lft r):=by
 intro n
 induction n using Nat.strongRecOn with
 | _ n U =>
  intro m r hr;by_cases O:64<=r.length
  ·have hs:Ja (m,r)=some (.inr ({ m with Words:=gr m.Words (r.take 64) },r.drop 64)):=by
    unfold Ja;rw[if_pos (by simp; omega)];simp only[];rw[z19t _ _ O, show (64:Int)=((64:Nat):Int) from rfl,Hn O (Nat.le_refl _)];simp only[bS];rw[List.take_of_length_le (l:=r.drop 64) (by simp)]
   rw[Bl hs,U (r.drop 64).length (by simp; omega) _ _ rfl,O0 O,PX O]
  ·refine(B2 (b:=(m,r)) ?_).trans ?_
   ·unfold Ja;rw[if_neg (by simp; omega)]
   ·rw[NZ (by omega),PW (by omega)]
theorem z1dq {n:Nat} (h:n<=1000000):LR (n:Int)=some []:=by
 unfold LR;rw[if_neg (by simp), show ((([]:List UInt8).length:Nat):Int)=0 from rfl, show w64 ((0:Int) - 0)=0 by decide,Int.sub_zero,B6 (by omega) (by omega)];simp only[bS]
 split
 ·rw[FT (by omega) (by omega)];rfl
 ·rfl
theorem KO (ls:List (List UInt8)) (h:ls.flatten.length<=1000000) (hl:ls.length<=1000):Fd ls=some ls.flatten:=by
 have tk:∀ {i} (hi:i<ls.length),(ls.take (i+1)).flatten=(ls.take i).flatten++ls[i]:=by
  intro i hi;rw[<- List.take_append_getElem hi,List.flatten_append]
  simp
 have le:∀ i,(ls.take i).flatten.length<=1000000:=λi=>Nat.le_trans (by
  rw[<- congrArg (λl=>l.flatten.length) (List.take_append_drop i ls),List.flatten_append,List.length_append]
  omega) h
 have O:=Ck (F:=LS ls) ls.length (λi=>(((ls.take i).flatten.length:Int),(i:Int))) (λi hi=>by
  have e:=le (i+1);rw[tk hi,List.length_append] at e;unfold LS;rw[if_pos (by simpa using hi)];simp only[];rw[Ax hi];simp only[bS];rw[B6 (by omega) (by omega),if_neg (by simp; omega),AL (by omega),tk hi]
  simp) (by
  unfold LS
  rw[if_neg (by simp)])
 have U:=Ck (F:=LT ls) ls.length (λi=>((ls.take i).flatten,(i:Int))) (λi hi=>by
  have e:=le (i+1);rw[tk hi,List.length_append] at e;unfold LT;rw[if_pos (by simpa using hi)];simp only[];rw[Ax hi];simp only[bS];rw[B1 (by omega),AL (by omega),tk hi]
  rfl) (by
  unfold LT
  rw[if_neg (by simp)])
 rw[List.take_length] at O U;unfold Fd;refine(congrArg (· >>= _) O).trans ?_;simp only[bS];rw[z1dq h];simp only[bS];exact congrArg (· >>= _) U
theorem z1au (a b:List UInt8) (h:a.length+b.length<=1000000):Fd [a,b]=some (a++b):=by simpa using KO [a,b] (by simpa using h) (by simp)
theorem z1av (m:Cr) (b:List UInt8) (h:m.Rest.length+b.length<=1000000):HX m b=some ⟨blk m.Words (m.Rest++b),lft (m.Rest++b),w64 (m.N+(b.length:Int))⟩:=by
 unfold HX;rw[z1au _ _ h];simp only[bS];rw[z12n _ _ _ rfl];simp only[bS];unfold Pc
 have:=UF (m.Rest++b)
 rw[B1 (by simp; omega)];simp only[bS,List.nil_append]
def H0:Vector UInt32 8:=#v[1779033703,3144134277,1013904242,2773480762,1359893119,2600822924,528734635,1541459225]
def mill (a:List UInt8):Cr:=⟨blk H0 a,lft a,(a.length:Int)⟩
theorem z165:LW=some (mill []):=by
 unfold LW mill;rw[NZ (by simp),PW (by simp)];rfl
theorem UG (a b:List UInt8) (h:a.length+b.length<=500000):HX (mill a) b=some (mill (a++b)):=by
 have hl:=UF a;rw[z1av (mill a) b (by show (lft a).length+b.length<=1000000; omega)];obtain⟨O,U⟩:=z19c H0 _ a b rfl;unfold mill;rw[O,U,B6 (by simp; omega) (by simp; omega)]
 simp
theorem z10k (b:List UInt8) (hb:b.length<=1000000):∀ (n:Nat) (h:Vector UInt32 8) (i:Nat),(b.drop i).length=n->i<=b.length->iter (Ju b) (h,(i:Int))=some (blk h (b.drop i)):=by
 intro n
 induction n using Nat.strongRecOn with
 | _ n U =>
  intro h i hn hi;have hw:w64 ((i:Int)+64)=((i+64:Nat):Int):=by rw[B6 (by omega) (by omega)]; omega
  simp only[List.length_drop] at hn;by_cases O:i+64<=b.length
  ·have hs:Ju b (h,(i:Int))=some (.inr (gr h ((b.drop i).take 64),((i+64:Nat):Int))):=by
    unfold Ju;simp only[hw];rw[if_pos (by simp; omega),Hn (by omega) O];simp only[bS];rw[show i+64 - i=64 by omega,z1bg _ _ (by simp; omega)];simp only[bS]
   rw[Bl hs,U (b.drop (i+64)).length (by simp; omega) _ _ rfl O,O0 (b:=b.drop i) (by simp; omega),List.drop_drop]
  ·refine(B2 (b:=h) ?_).trans ?_
   ·unfold Ju;simp only[hw];rw[if_neg (by simp; omega)]
   ·rw[NZ (by simp; omega)]
theorem z15d (h:Vector UInt32 8) (b:List UInt8) (O:b.length<=1000000):M8 h b=some (blk h b):=by
 unfold M8
 have:=z10k b O _ h 0 rfl (by omega)
 rw[show (0:Int)=((0:Nat):Int) from rfl,this];simp only[bS,List.drop_zero]
def DD (n:Nat):Nat:=(119 - n % 64) % 64
def Dq (n:Nat):List UInt8:=(List.range 8).map λi=>(Ce (UInt64.ofNat n * 8) (56 - 8 * i)).toUInt8
def tl (n:Nat):List UInt8:=([128]++List.replicate (DD n) 0)++Dq n
theorem UH (n:Nat):UInt64.ofInt (n:Int)=UInt64.ofNat n:=by
 apply UInt64.toNat_inj.1
 unfold UInt64.ofInt;simp only[UInt64.toNat_ofNat'];omega
theorem z11l (n:Nat) (x:List UInt8) (hx:x.length<=100):iter (Jb (UInt64.ofNat n * 8)) (x,56)=some (x++Dq n):=by
 rw[show (x,(56:Int))=(x++(Dq n).take 0,56 - 8 * ((0:Nat):Int)) by simp];refine Ck (F:=Jb (UInt64.ofNat n * 8)) (b:=x++Dq n) 8 (λi=>(x++(Dq n).take i,56 - 8 * (i:Int))) (λi hi=>?_) ?_
 ·have O:(Dq n).length=8:=by simp[Dq]
  unfold Jb;rw[if_pos (by simp; omega)];simp only[];rw[CJ (by omega),B6 (by omega) (by omega)];simp only[bS];rw[B1 (by simp; omega)];simp only[bS];rw[List.take_add_one,List.getElem?_eq_getElem (by omega)];simp only[Option.toList_some,List.append_assoc];rw[show (56 - 8 * (i:Int)).toNat=56 - 8 * i by omega, show (56 - 8 * (i:Int) - 8)=56 - 8 * ((i+1:Nat):Int) by omega];simp[Dq]
 ·have O:(Dq n).length=8:=by simp[Dq]
  unfold Jb;rw[if_neg (by simp),List.take_of_length_le (by omega)]
theorem z14i (n:Nat) (x:List UInt8) (hx:x.length<=100):iter (Jr (n:Int)) (x,7)=some (x++Dq n):=by
 rw[show (x,(7:Int))=(x++(Dq n).take 0,7 - ((0:Nat):Int)) by simp];refine Ck (F:=Jr (n:Int)) (b:=x++Dq n) 8 (λi=>(x++(Dq n).take i,7 - (i:Int))) (λi hi=>?_) ?_
 ·have O:(Dq n).length=8:=by simp[Dq]
  unfold Jr;rw[if_pos (by simp; omega)];simp only[];rw[B6 (x:=8 * (7 - (i:Int))) (by omega) (by omega),CJ (by omega),B6 (by omega) (by omega)];simp only[bS];rw[B1 (by simp; omega)];simp only[bS];rw[List.take_add_one,List.getElem?_eq_getElem (by omega)];simp only[Option.toList_some,List.append_assoc];rw[show (8 * (7 - (i:Int))).toNat=56 - 8 * i by omega, show (7 - (i:Int) - 1)=7 - ((i+1:Nat):Int) by omega]
  rw[UH];simp[Dq,UInt64.mul_comm]
 ·have O:(Dq n).length=8:=by simp[Dq]
  unfold Jr;rw[if_neg (by simp),List.take_of_length_le (by omega)]
theorem z14m (n:Nat) (hn:n<=1000000):iter (Jq (n:Int)) [128]=some ([128]++List.replicate (DD n) 0):=by
 refine Ck (F:=Jq (n:Int)) (b:=[128]++List.replicate (DD n) 0) (DD n) (λi=>[128]++List.replicate i 0) (λi hi=>?_) ?_
 ·have hz:DD n<64:=Nat.mod_lt _ (by omega);have O:(([128]++List.replicate i 0:List UInt8).length:Int)=((1+i:Nat):Int):=by simp; omega
  unfold Jq;rw[O,B6 (x:=(n:Int)+((1+i:Nat):Int)) (by omega) (by omega),B6 (by omega) (by omega)];have U:Int.tmod ((n:Int)+((1+i:Nat):Int)+8) 64=(((n+9+i) % 64:Nat):Int):=by
   rw[Int.tmod_eq_emod_of_nonneg (by omega)]; omega
  rw[U,if_pos]
  ·rw[B1 (by simp; omega)];simp only[bS];rw[List.replicate_succ',List.append_assoc]
  ·simp only[bne_iff_ne,ne_eq];unfold DD at hi;omega
 ·have O:(([128]++List.replicate (DD n) 0:List UInt8).length:Int)=((1+DD n:Nat):Int):=by simp; omega
  have hz:DD n<64:=Nat.mod_lt _ (by omega);unfold Jq;rw[O,B6 (x:=(n:Int)+((1+DD n:Nat):Int)) (by omega) (by omega),B6 (by omega) (by omega)];have U:Int.tmod ((n:Int)+((1+DD n:Nat):Int)+8) 64=0:=by
   rw[Int.tmod_eq_emod_of_nonneg (by omega)];unfold DD;omega
  rw[U,if_neg (by simp)]
theorem z16n (n:Nat) (O:n<=1000000):M6 (n:Int)=some (tl n):=by
 have hz:DD n<64:=Nat.mod_lt _ (by omega);unfold M6;rw[z14m n O];simp only[bS];rw[z14i n _ (by simp; omega)];simp only[bS];rfl
def wr (h:Vector UInt32 8):V3:=Vector.ofFn λi=>(BV (h[i.val / 4]'(by omega)) (24 - 8 * (i.val % 4))).toUInt8
theorem z10s (h:Vector UInt32 8):M9 h=some (wr h):=by
 have:∃ r,iter (Jv h) (Vector.replicate 32 0,0)=some r/\r=wr h:=by
  refine D9 (F:=Jv h) 32 (λi s=>s.2=(i:Int)/\∀ k (O:k<32),k<i->s.1[k]=(wr h)[k]) (λr=>r=wr h) (λi s hi hs=>?_) (λs hs=>?_) (Vector.replicate 32 0,0) 0 (by omega) ⟨rfl, λk O h0=>by omega⟩
  ·obtain⟨v,j⟩:=s;obtain⟨U,h2⟩:=hs;simp only at U h2;subst U;have hd:w64 (Int.tdiv (i:Int) 4)=((i / 4:Nat):Int):=by
    have:Int.tdiv (i:Int) 4=((i / 4:Nat):Int):=by rw[Int.tdiv_eq_ediv_of_nonneg (by omega)]; omega
    rw[this,B6 (by omega) (by omega)]
   have hm:w64 (8 * (Int.tmod (i:Int) 4))=((8 * (i % 4):Nat):Int):=by
    have:Int.tmod (i:Int) 4=((i % 4:Nat):Int):=by rw[Int.tmod_eq_emod_of_nonneg (by omega)]; omega
    rw[this,B6 (by omega) (by omega)]; omega
   have hs:w64 (24 - ((8 * (i % 4):Nat):Int))=((24 - 8 * (i % 4):Nat):Int):=by rw[B6 (by omega) (by omega)]; omega
   refine⟨(CB v (i:Int) ((BV (h[i / 4]'(by omega)) (24 - 8 * (i % 4))).toUInt8),((i+1:Nat):Int)),?_,rfl, λk O a1=>?_⟩
   ·unfold Jv;rw[if_pos (by simp; omega)];simp only[];rw[hd,hm,hs,DC (show i / 4<8 by omega),CJ (by omega),DC hi,AL (show i<9223372036854775807 by omega)];simp only[bS,Int.toNat_natCast]
   ·simp only[];rw[JR O,Int.toNat_natCast];by_cases e:i=k
    ·subst e;rw[if_pos rfl];simp[wr]
    ·rw[if_neg e]; exact h2 k O (by omega)
  ·obtain⟨v,j⟩:=s;obtain⟨U,h2⟩:=hs;simp only at U h2;subst U;refine⟨v,?_,?_⟩
   ·unfold Jv;rw[if_neg (by simp)]
   ·exact Vector.ext λk O=>h2 k O O
 obtain⟨r,U,rfl⟩:=this;unfold M9;rw[U];simp only[bS]
theorem zv4 (m:Cr):iter (HY m) (Vector.replicate 32 0,0)=some (wr m.Words):=by
 have:∃ r,iter (HY m) (Vector.replicate 32 0,0)=some r/\r=wr m.Words:=by
  refine D9 (F:=HY m) 8 (λi s=>s.2=(i:Int)/\∀ k (O:k<32),k<4 * i->s.1[k]=(wr m.Words)[k]) (λr=>r=wr m.Words) (λi s hi hs=>?_) (λs hs=>?_) (Vector.replicate 32 0,0) 0 (by omega) ⟨rfl, λk O h0=>by omega⟩
  ·obtain⟨v,j⟩:=s;obtain⟨U,h2⟩:=hs;simp only at U h2;subst U;have e0:w64 (4 * (i:Int))=((4 * i:Nat):Int):=by rw[B6 (by omega) (by omega)]; omega
   have e1:w64 (((4 * i:Nat):Int)+1)=((4 * i+1:Nat):Int):=by rw[B6 (by omega) (by omega)]; omega
   have e2:w64 (((4 * i:Nat):Int)+2)=((4 * i+2:Nat):Int):=by rw[B6 (by omega) (by omega)]; omega
   have e3:w64 (((4 * i:Nat):Int)+3)=((4 * i+3:Nat):Int):=by rw[B6 (by omega) (by omega)]; omega
   refine⟨(CB (CB (CB (CB v ((4 * i:Nat):Int) (BV m.Words[i] 24).toUInt8) ((4 * i+1:Nat):Int) (BV m.Words[i] 16).toUInt8) ((4 * i+2:Nat):Int) (BV m.Words[i] 8).toUInt8) ((4 * i+3:Nat):Int) m.Words[i].toUInt8,((i+1:Nat):Int)),?_,rfl, λk O a6=>?_⟩
   ·unfold HY;rw[if_pos (by simp; omega)];simp only[];rw[e0,e1,e2,e3,DC hi,DC (show 4 * i<32 by omega),AL (show i<9223372036854775807 by omega)];simp only[bS];rw[DC (show 4 * i+1<32 by omega),DC (show 4 * i+2<32 by omega),DC (show 4 * i+3<32 by omega)];simp only[bS]
   ·simp only[];rw[JR O,JR O,JR O,JR O];simp only[Int.toNat_natCast];have hw:(wr m.Words)[k]=(BV (m.Words[k / 4]'(by omega)) (24 - 8 * (k % 4))).toUInt8:=by simp[wr]
    have s0:∀ x:UInt32,BV x 0=x:=λx=>by
     apply UInt32.toNat_inj.1; rw[NX]; simp
    by_cases c3:4 * i+3=k
    ·subst c3;rw[if_pos rfl,hw];have a1:(4 * i+3) / 4=i:=by omega
     have a2:24 - 8 * ((4 * i+3) % 4)=0:=by omega
     simp only[a1,a2,s0]
    ·rw[if_neg c3];by_cases c2:4 * i+2=k
     ·subst c2;rw[if_pos rfl,hw];have a1:(4 * i+2) / 4=i:=by omega
      have a2:24 - 8 * ((4 * i+2) % 4)=8:=by omega
      simp only[a1,a2]
     ·rw[if_neg c2];by_cases c1:4 * i+1=k
      ·subst c1;rw[if_pos rfl,hw];have a1:(4 * i+1) / 4=i:=by omega
       have a2:24 - 8 * ((4 * i+1) % 4)=16:=by omega
       simp only[a1,a2]
      ·rw[if_neg c1];by_cases c0:4 * i=k
       ·subst c0;rw[if_pos rfl,hw];have a1:(4 * i) / 4=i:=by omega
        have a2:24 - 8 * ((4 * i) % 4)=24:=by omega
        simp only[a1,a2]
       ·rw[if_neg c0];exact h2 k O (by omega)
  ·obtain⟨v,j⟩:=s;obtain⟨U,h2⟩:=hs;simp only at U h2;subst U;refine⟨v,?_,?_⟩
   ·unfold HY;rw[if_neg (by simp)]
   ·exact Vector.ext λk O=>h2 k O (by omega)
 obtain⟨r,U,rfl⟩:=this;exact U
def sha (b:List UInt8):V3:=wr (blk H0 (b++tl b.length))
theorem z1d9 (a:List UInt8) (h:a.length<=300000):LY (mill a)=some (sha a):=by
 have hz:DD a.length<64:=Nat.mod_lt _ (by omega);unfold LY;rw[show (mill a).N=((a.length:Nat):Int) from rfl,UH];simp only[bS];have U:Int.tmod (w64 (119 - Int.tmod ((a.length:Nat):Int) 64)) 64=((DD a.length:Nat):Int):=by
  have e1:Int.tmod ((a.length:Nat):Int) 64=((a.length % 64:Nat):Int):=by rw[Int.tmod_eq_emod_of_nonneg (by omega)]; omega
  rw[e1,B6 (by omega) (by omega),Int.tmod_eq_emod_of_nonneg (by omega)];unfold DD;omega
 rw[U];have O:appz 1 ([128]:List UInt8) 0 ((DD a.length:Nat):Int)=some ([128]++List.replicate (DD a.length) 0):=by
  unfold appz;rw[if_pos ⟨by omega, by simp; omega⟩,Int.toNat_natCast]
 rw[O];simp only[bS];rw[z11l _ _ (by simp; omega)];simp only[bS];have a1:(tl a.length).length<=200:=by simp[tl,Dq]; omega
 rw[show ([128]++List.replicate (DD a.length) 0)++Dq a.length=tl a.length from rfl,UG a _ (by omega)];simp only[bS];rw[zv4];simp only[bS];rfl
theorem KP (b:List UInt8) (h:b.length<=300000):Gy b=some (sha b):=by
 have hz:DD b.length<64:=Nat.mod_lt _ (by omega);have a1:(tl b.length).length<=200:=by simp[tl,Dq]; omega
 unfold Gy Pi;simp only[bS];rw[B1 (by simp; omega)];simp only[bS,List.nil_append];rw[z16n _ (by omega)];simp only[bS];rw[B1 (by simp; omega)];simp only[bS];rw[z15d _ _ (by simp; omega)];simp only[bS];rw[z10s];simp only[bS];rfl
end
section
def pmod:Nat->Nat->Nat->Nat->Nat
 | 0,_,_,m=>1 % m
 | f+1,a,n,m=>if n=0 then 1 % m else (if n % 2=1 then a * pmod f (a * a % m) (n / 2) m % m else pmod f (a * a % m) (n / 2) m)
theorem UI:∀ (f a n m:Nat),n<2 ^ f->pmod f a n m=a ^ n % m
 | 0,a,n,m,h=>by
  have:n=0:=by simpa using h
  subst this; rfl
 | f+1,a,n,m,h=>by
  have O:n / 2<2 ^ f:=by rw[Nat.pow_succ] at h; omega
  have key:(a * a % m) ^ (n / 2) % m=a ^ (2 * (n / 2)) % m:=by
   rw[<- Nat.pow_mod,<- Nat.pow_two,<- Nat.pow_mul]
  simp only[pmod,UI f _ _ _ O,key]
  split
  ·rename_i U; subst U; rfl
  ·split
   ·rename_i h1;rw[Nat.mul_mod,Nat.mod_mod,<- Nat.mul_mod, show a * a ^ (2 * (n / 2))=a ^ (2 * (n / 2)+1) by rw[Nat.pow_succ,Nat.mul_comm], show 2 * (n / 2)+1=n by omega]
   ·rename_i h1;rw[show 2 * (n / 2)=n by omega]
abbrev gp:Nat:=1000000007
abbrev gq:Nat:=500000003
theorem z1co:4 ^ gq % gp=1:=by
 rw[<- UI 64 4 gq gp (by decide)]
 decide +kernel
def inG (a:Nat):Prop:=0<a/\a<gp/\a ^ gq % gp=1
instance:DecidablePred inG:=λa=>by unfold inG; exact inferInstance
theorem UJ (a m n p:Nat):(a ^ m % p) ^ n % p=a ^ (m * n) % p:=by rw[<- Nat.pow_mod,<- Nat.pow_mul]
theorem UK {a:Nat} (h:a ^ gq % gp=1) (k:Nat):a ^ (gq * k) % gp=1:=by
 rw[Nat.pow_mul,Nat.pow_mod,h,Nat.one_pow];rfl
theorem z147 {a:Nat} (h:a ^ gq % gp=1) (k r:Nat):a ^ (gq * k+r) % gp=a ^ r % gp:=by
 rw[Nat.pow_add,Nat.mul_mod,UK h,Nat.one_mul,Nat.mod_mod]
theorem PY {a:Nat} (h:a ^ gq % gp=1) (n:Nat):inG (a ^ n % gp):=by
 have O:(a ^ n % gp) ^ gq % gp=1:=by rw[UJ,Nat.mul_comm,UK h]
 refine⟨Nat.pos_of_ne_zero λU=>?_,Nat.mod_lt _ (by decide),O⟩;rw[U,Nat.zero_pow (by decide)] at O;exact absurd O (by decide)
theorem z19d {y E:Nat} (h:y ^ gq % gp=1) (hE:E<gq):(y ^ E % gp) ^ (gq - 1) % gp=y ^ (gq - E) % gp:=by
 rw[UJ];by_cases O:E=0
 ·subst O;rw[Nat.zero_mul,Nat.sub_zero,h,Nat.pow_zero]
  decide
 ·have e:E * (gq - 1)=gq * (E - 1)+(gq - E):=by
   obtain⟨k,rfl⟩:∃ k,E=k+1:=⟨E - 1, by omega⟩
   have hE':k+1<500000003:=hE;show (k+1) * 500000002=500000003 * (k+1 - 1)+(500000003 - (k+1));omega
  rw[e,z147 h]
theorem z11w {a n i p:Nat}:((a ^ (n >>> (i+1)) % p) * (a ^ (n >>> (i+1)) % p) % p) * a ^ ((n >>> i) % 2) % p=a ^ (n >>> i) % p:=by
 have e:n >>> i=2 * (n >>> (i+1))+(n >>> i) % 2:=by
  rw[Nat.shiftRight_succ]; omega
 have key:∀ x y:Nat,((x % p) * (x % p) % p) * y % p=x * x * y % p:=λx y=>by
  rw[Nat.mul_mod ((x % p) * (x % p) % p) y,Nat.mod_mod,<- Nat.mul_mod x x,<- Nat.mul_mod]
 rw[key,<- Nat.pow_add,<- Nat.pow_add]
 congr 2
 omega
end
section
def u32 (n:Nat):UInt32:=UInt32.ofNat n
theorem F1 {n:Nat} (h:n<gp):(u32 n).toNat=n:=by
 have h:n<1000000007:=h;unfold u32; simp; omega
theorem m64 (x y:UInt64) (h:x.toNat * y.toNat<18446744073709551616):(x * y % 1000000007).toNat=x.toNat * y.toNat % gp:=by
 rw[UInt64.toNat_mod,UInt64.toNat_mul,Nat.mod_eq_of_lt h];rfl
theorem to32 (x:UInt64) (h:x.toNat<gp):x.toUInt32=u32 x.toNat:=by
 apply UInt32.toNat_inj.1
 have h:x.toNat<1000000007:=h;rw[F1 h]; simp; omega
theorem mul2 (x y:UInt32):HO 1000000007 [x,y]=some (u32 (x.toNat * y.toNat % gp)):=by
 have hx:=UInt32.toNat_lt x;have hy:=UInt32.toNat_lt y;have O:(1 * x.toUInt64 % 1000000007:UInt64).toNat=x.toNat % gp:=by
  rw[m64 _ _ (by simp; omega)]; simp
 have a1:x.toNat % gp<1000000007:=Nat.mod_lt _ (by decide);have a2:(x.toNat % gp) * y.toNat<=1000000007 * 4294967296:=Nat.mul_le_mul (by omega) (by omega);have U:(1 * x.toUInt64 % 1000000007 * y.toUInt64 % 1000000007:UInt64).toNat=x.toNat * y.toNat % gp:=by
  rw[m64 _ _ (by rw[O]; simp; omega),O];simp only[UInt32.toNat_toUInt64];rw[Nat.mod_mul_mod]
 have s1:H4 1000000007 [x,y] (1,0)=some (.inr (1 * x.toUInt64 % 1000000007,1)):=by
  unfold H4;rw[if_pos (by simp)];simp only[];rw[show idx [x,y] 0=some x from rfl,CJ (by decide),B6 (x:=(0:Int)+1) (by omega) (by omega)];simp only[bS];rfl
 have s2:H4 1000000007 [x,y] (1 * x.toUInt64 % 1000000007,1)=some (.inr (1 * x.toUInt64 % 1000000007 * y.toUInt64 % 1000000007,2)):=by
  unfold H4;rw[if_pos (by simp)];simp only[];rw[show idx [x,y] 1=some y from rfl,CJ (by decide),B6 (x:=(1:Int)+1) (by omega) (by omega)];simp only[bS];rfl
 have s3:H4 1000000007 [x,y] (1 * x.toUInt64 % 1000000007 * y.toUInt64 % 1000000007,2)=some (.inl (1 * x.toUInt64 % 1000000007 * y.toUInt64 % 1000000007)):=by
  unfold H4;rw[if_neg (by simp)]
 unfold HO;rw[Bl s1,Bl s2,B2 s3];simp only[bS];rw[to32 _ (by rw[U]; exact Nat.mod_lt _ (by decide)),U]
theorem z17m (a:UInt32) (n:UInt64) (i:Nat) (hi:i<64):IZ a n (u32 (a.toNat ^ (n.toNat >>> (64 - i)) % gp),(i:Int))=some (.inr (u32 (a.toNat ^ (n.toNat >>> (64 - (i+1))) % gp),((i+1:Nat):Int))):=by
 have a1:a.toNat ^ (n.toNat >>> (64 - i)) % gp<gp:=Nat.mod_lt _ (by decide);have hlt2:(a.toNat ^ (n.toNat >>> (64 - i)) % gp) * (a.toNat ^ (n.toNat >>> (64 - i)) % gp) % gp<gp:=Nat.mod_lt _ (by decide);have hw:w64 (63 - (i:Int))=((63 - i:Nat):Int):=by rw[B6 (by omega) (by omega)]; omega
 have key:=z11w (a:=a.toNat) (n:=n.toNat) (i:=63 - i) (p:=gp);rw[show 63 - i+1=64 - i by omega] at key;have hb:=z1e8 n (63 - i) (by omega);unfold IZ OX;rw[if_pos (by simp; omega)];simp only[];rw[mul2,F1 a1];simp only[bS];rw[hw,CJ (by omega),AL (show i<9223372036854775807 by omega)];simp only[bS];rw[show 64 - (i+1)=63 - i by omega];have O:n.toNat >>> (63 - i) % 2=(if n.toNat.testBit (63 - i) then 1 else 0):=by
  rw[Nat.testBit_eq_decide_div_mod_eq,<- Nat.shiftRight_eq_div_pow];by_cases h:n.toNat >>> (63 - i) % 2=1
  ·simp[h]
  ·simp[h]; omega
 cases U:n.toNat.testBit (63 - i) with
 | true =>
  rw[U] at O;rw[O,if_pos rfl,Nat.pow_one] at key;rw[if_pos (by rw[Int.toNat_natCast,hb]; exact U),mul2,F1 hlt2,key];simp only[bS]
 | false =>
  rw[U] at O;rw[O,if_neg (by simp),Nat.pow_zero,Nat.mul_one,Nat.mod_mod] at key;rw[if_neg (by rw[Int.toNat_natCast,hb,U]; simp),key]
theorem PZ (a:UInt32) (n:UInt64):HP a n=some (u32 (a.toNat ^ n.toNat % gp)):=by
 have O:n.toNat >>> 64=0:=by
  rw[Nat.shiftRight_eq_div_pow]; exact Nat.div_eq_of_lt (UInt64.toNat_lt n)
 have:=Ck (F:=IZ a n) (b:=u32 (a.toNat ^ n.toNat % gp)) 64 (λi=>(u32 (a.toNat ^ (n.toNat >>> (64 - i)) % gp),(i:Int))) (λi hi=>z17m a n i hi) (by
  unfold IZ;rw[if_neg (by simp)]
  simp)
 simp only[Nat.sub_zero,O,Nat.pow_zero] at this;unfold HP;rw[show ((1:UInt32),(0:Int))=(u32 (1 % gp),((0:Nat):Int)) from rfl,this];simp only[bS]
theorem z108:∀ (k:Nat) (a n o:UInt64),n.toNat=k->a.toNat<4294967296->o.toNat<gp->∃ r:UInt64,iter (JA 1000000007) (a,n,o)=some r/\r.toNat=o.toNat * a.toNat ^ n.toNat % gp:=by
 intro k
 induction k using Nat.strongRecOn with
 | _ k ih =>
  intro a n o hk ha ho;have aa:o.toNat<1000000007:=ho;by_cases hn:n.toNat=0
  ·refine⟨o,B2 ?_,?_⟩
   ·unfold JA;rw[if_neg];simp only[decide_eq_true_eq,UInt64.lt_iff_toNat_lt]
    simp; omega
   ·rw[hn,Nat.pow_zero,Nat.mul_one,Nat.mod_eq_of_lt ho]
  ·have O:(a * a % 1000000007).toNat=a.toNat * a.toNat % gp:=m64 a a (by
    have:a.toNat * a.toNat<=4294967295 * 4294967295:=Nat.mul_le_mul (by omega) (by omega)
    omega)
   have a6:(o * a % 1000000007).toNat=o.toNat * a.toNat % gp:=m64 o a (by
    have:o.toNat * a.toNat<=1000000007 * 4294967295:=Nat.mul_le_mul (by omega) (by omega)
    omega)
   have U:(n / 2).toNat=n.toNat / 2:=by simp
   have a7:((n % 2)==1)=decide (n.toNat % 2=1):=by
    rw[Bool.eq_iff_iff,beq_iff_eq,<- UInt64.toNat_inj]
    simp
   have ab:a.toNat * a.toNat % gp<1000000007:=Nat.mod_lt _ (by decide);have a8:o.toNat * a.toNat % gp<gp:=Nat.mod_lt _ (by decide);have a1:∀ m:Nat,(a.toNat * a.toNat % gp) ^ m % gp=a.toNat ^ (2 * m) % gp:=λm=>by
    rw[<- Nat.pow_mod,<- Nat.pow_two,<- Nat.pow_mul]
   have a2:JA 1000000007 (a,n,o)=some (.inr (a * a % 1000000007,n / 2, if n.toNat % 2=1 then o * a % 1000000007 else o)):=by
    unfold JA;rw[if_pos (by simp only[decide_eq_true_eq,UInt64.lt_iff_toNat_lt]; simp; omega)];simp only[];rw[a7,CJ (by decide)];by_cases h:n.toNat % 2=1
    ·rw[if_pos (by simpa using h),if_pos h];simp only[bS]
    ·rw[if_neg (by simpa using h),if_neg h];simp only[bS]
   rw[Bl a2];by_cases h:n.toNat % 2=1
   ·rw[if_pos h];obtain⟨r,h1,h2⟩:=ih (n / 2).toNat (by rw[U]; omega) (a * a % 1000000007) (n / 2) (o * a % 1000000007) rfl (by rw[O]; omega) (by rw[a6]; exact a8);refine⟨r,h1,?_⟩;rw[h2,O,a6,U,Nat.mul_mod,a1,Nat.mod_mod,<- Nat.mul_mod,Nat.mul_assoc, show a.toNat * a.toNat ^ (2 * (n.toNat / 2))=a.toNat ^ (2 * (n.toNat / 2)+1) by rw[Nat.pow_succ,Nat.mul_comm], show 2 * (n.toNat / 2)+1=n.toNat by omega]
   ·rw[if_neg h];obtain⟨r,h1,h2⟩:=ih (n / 2).toNat (by rw[U]; omega) (a * a % 1000000007) (n / 2) o rfl (by rw[O]; omega) ho;refine⟨r,h1,?_⟩;rw[h2,O,U,Nat.mul_mod,a1,<- Nat.mul_mod, show 2 * (n.toNat / 2)=n.toNat by omega]
theorem UL (a n:UInt64) (O:a.toNat<4294967296):∃ r:UInt64,JB a n 1000000007=some r/\r.toNat=a.toNat ^ n.toNat % gp:=by
 obtain⟨r,U,h2⟩:=z108 _ a n 1 rfl O (by decide);refine⟨r,?_, by rw[h2]; simp⟩
 unfold JB;rw[U];simp only[bS]
theorem Q0 (a:UInt32) (n:UInt64):I0 a n=some (u32 (a.toNat ^ n.toNat % gp)):=by
 obtain⟨r,U,O⟩:=UL a.toUInt64 n (by simp; exact UInt32.toNat_lt a);unfold I0;rw[U];simp only[bS];simp only[UInt32.toNat_toUInt64] at O;rw[to32 _ (by rw[O]; exact Nat.mod_lt _ (by decide)),O]
theorem z1cd (a:UInt32):(u32 (a.toNat ^ (500000003:UInt64).toNat % gp)==1)=decide (a.toNat ^ gq % gp=1):=by
 have O:a.toNat ^ gq % gp<gp:=Nat.mod_lt _ (by decide);rw[show (500000003:UInt64).toNat=gq from rfl,Bool.eq_iff_iff,beq_iff_eq,decide_eq_true_iff,<- UInt32.toNat_inj,F1 O];rfl
theorem KQ (a:UInt32):HQ a=some (decide (inG a.toNat)):=by
 unfold HQ;have U:decide (0<a)=decide (0<a.toNat):=by simp[UInt32.lt_iff_toNat_lt]
 have h2:decide (a<1000000007)=decide (a.toNat<gp):=by simp[UInt32.lt_iff_toNat_lt]
 rw[U,h2,PZ];simp only[bS];rw[z1cd];unfold inG;by_cases c1:0<a.toNat
 ·by_cases O:a.toNat<gp
  ·simp[c1,O]
  ·simp[c1,O]
 ·simp[c1]
theorem UM (a:UInt32):JC a=some (decide (inG a.toNat)):=by
 obtain⟨r,U,O⟩:=UL a.toUInt64 500000003 (by simp; exact UInt32.toNat_lt a);unfold JC;have h1:decide (1<=a)=decide (0<a.toNat):=by
  rw[decide_eq_decide,UInt32.le_iff_toNat_le]; simp; omega
 have h2:decide (a<1000000007)=decide (a.toNat<gp):=by simp[UInt32.lt_iff_toNat_lt]
 rw[h1,h2,U];simp only[bS];have h3:(r==1)=decide (a.toNat ^ gq % gp=1):=by
  simp only[UInt32.toNat_toUInt64] at O;rw[Bool.eq_iff_iff,beq_iff_eq,decide_eq_true_iff,<- UInt64.toNat_inj,O];rfl
 rw[h3];unfold inG;by_cases c1:0<a.toNat
 ·by_cases c2:a.toNat<gp
  ·simp[c1,c2]
  ·simp[c1,c2]
 ·simp[c1]
end
section
theorem z14e (l:List (List UInt8)) (h0:l.length<=20) (h:∀ b∈l,b.length<=10000):LZ l=some false:=by
 have:iter (Jc l) 0=some (.inr ()):=by
  refine Ck (F:=Jc l) (b:=.inr ()) l.length (λi=>(i:Int)) (λi hi=>?_) ?_
  ·have hb:=h l[i] (List.getElem_mem _);unfold Jc Pa;rw[if_pos (by simp; omega),Ax hi];simp only[bS];rw[if_neg (by simp; omega),AL (show i<9223372036854775807 by omega)]
  ·unfold Jc;rw[if_neg (by simp)]
 unfold LZ Pe;rw[this];simp only[DL,bS];rfl
theorem O1:∀ (l:List (List UInt8)),(∀ b∈l,b.length<=10000)->l.flatten.length<=l.length * 10000
 | [],_=>by simp
 | b::l,h=>by
  have h1:=h b (by simp);have h2:=O1 l (λc O=>h c (by simp[O]));simp only[List.flatten_cons,List.length_append,List.length_cons]; omega
theorem UN (l:List (List UInt8)) (h0:l.length<=20) (h:∀ b∈l,b.length<=10000):Je l=some (sha l.flatten,0):=by
 have hl:iter (Jd l) (mill [],0)=some (mill l.flatten):=by
  have:=Ck (F:=Jd l) (b:=mill l.flatten) l.length (λi=>(mill (l.take i).flatten,(i:Int))) (λi hi=>?_) ?_
  ·simpa using this
  ·have hb:=h l[i] (List.getElem_mem _);have O:=O1 (l.take i) (λb U=>h b (List.mem_of_mem_take U));simp only[List.length_take] at O;unfold Jd;rw[if_pos (by simp; omega)];simp only[];rw[Ax hi];simp only[bS];rw[UG _ _ (by omega),AL (show i<9223372036854775807 by omega)];simp only[bS];rw[List.take_add_one,List.getElem?_eq_getElem hi,List.flatten_append];rw[show ((some l[i]:Option (List UInt8)).toList).flatten=l[i] by simp]
  ·unfold Jd;rw[if_neg (by simp)]
   simp
 have O:=O1 l h;unfold Je;rw[if_neg (by simp; omega),z14e l h0 h];simp only[bS];rw[if_neg (by simp),z165];simp only[bS];rw[hl];simp only[bS];rw[z1d9 _ (by omega)];simp only[bS]
theorem O2 (b:List UInt8) (h:b.length<=10000):Hb b=some (sha b,0):=by
 unfold Hb;rw[UN [b] (by simp) (by simpa using h)]
 simp
def four (x:UInt32):List UInt8:=[(BV x 24).toUInt8,(BV x 16).toUInt8,(BV x 8).toUInt8,x.toUInt8]
theorem UO (x:UInt32):JG x=some (four x):=by
 unfold JG four;have hx:=UInt32.toNat_lt x;have O:(x / 16777216).toUInt8=(BV x 24).toUInt8:=by
  apply UInt8.toNat_inj.1
  simp only[UInt32.toNat_toUInt8,NX,UInt32.toNat_div]; rfl
 have U:((x / 65536) % 256).toUInt8=(BV x 16).toUInt8:=by
  apply UInt8.toNat_inj.1
  simp only[UInt32.toNat_toUInt8,NX,UInt32.toNat_div,UInt32.toNat_mod];exact Nat.mod_mod _ _
 have e3:((x / 256) % 256).toUInt8=(BV x 8).toUInt8:=by
  apply UInt8.toNat_inj.1
  simp only[UInt32.toNat_toUInt8,NX,UInt32.toNat_div,UInt32.toNat_mod];exact Nat.mod_mod _ _
 have e4:(x % 256).toUInt8=x.toUInt8:=by
  apply UInt8.toNat_inj.1
  simp only[UInt32.toNat_toUInt8,UInt32.toNat_mod];exact Nat.mod_mod _ _
 rw[O,U,e3,e4]
def EM (d:V3):Nat->UInt64
 | 0=>0
 | i+1=>256 * EM d i+(d.toList.getD i 0).toUInt64
theorem UP (d:V3):∀ i,i<=8->(EM d i).toNat<256 ^ i
 | 0,_=>by simp[EM]
 | i+1,h=>by
  have ih:=UP d i (by omega);have hy:=UInt8.toNat_lt (d.toList.getD i 0);have ep:256 ^ (i+1)=256 ^ i * 256:=Nat.pow_succ ..;have hp:256 ^ i<=256 ^ 7:=Nat.pow_le_pow_right (by omega) (by omega);have e7:(256:Nat) ^ 7=72057594037927936:=rfl;rw[EM,UInt64.toNat_add,UInt64.toNat_mul,ep];have O:((d.toList.getD i 0).toUInt64).toNat=(d.toList.getD i 0).toNat:=by simp
  have U:(256:UInt64).toNat=256:=rfl;rw[O,U,Nat.mod_eq_of_lt (a:=256 * (EM d i).toNat) (by omega),Nat.mod_eq_of_lt (by omega)];omega
theorem z17a (x:UInt64) (y:UInt8) (h:x.toNat<72057594037927936):(FI x 8) ||| y.toUInt64=256 * x+y.toUInt64:=by
 apply UInt64.toNat_inj.1
 have O:=UInt8.toNat_lt y;rw[UInt64.toNat_or,Ts,UInt64.toNat_add,UInt64.toNat_mul];have U:(y.toUInt64).toNat=y.toNat:=by simp
 have e2:(256:UInt64).toNat=256:=rfl;rw[U,e2, show (2:Nat) ^ (min 8 64)=256 from rfl,Nat.mod_eq_of_lt (a:=x.toNat * 256) (by omega),Nat.mod_eq_of_lt (a:=256 * x.toNat) (by omega),Nat.mod_eq_of_lt (by omega)]
 have:=Nat.shiftLeft_add_eq_or_of_lt (i:=8) (b:=y.toNat) (by simpa using O) x.toNat
 rw[Nat.shiftLeft_eq, show (2:Nat) ^ 8=256 from rfl] at this;rw[<- this]; omega
theorem z169 (d:V3) (e:Int):iter (Jg (d,e)) (0,0)=some (EM d 8):=by
 refine Ck (F:=Jg (d,e)) (b:=EM d 8) 8 (λi=>(EM d i,(i:Int))) (λi hi=>?_) ?_
 ·have O:((d.toList.drop 0).take 8).length=8:=by simp
  have a1:=UP d i (by omega);have hp:256 ^ i<=256 ^ 7:=Nat.pow_le_pow_right (by omega) (by omega);have e7:(256:Nat) ^ 7=72057594037927936:=rfl;unfold Jg;simp only[O];rw[if_pos (by simp; omega),DZ 0 (by rw[O]; exact hi)];simp only[bS];rw[List.drop_zero,Uz hi,z17a _ _ (by omega),AL (show i<9223372036854775807 by omega)];rfl
 ·have O:((d.toList.drop 0).take 8).length=8:=by simp
  unfold Jg;simp only[O];rw[if_neg (by simp)]
theorem z1ak (b:List UInt8) (h:b.length<=300000):Mi b=some (EM (sha b) 8):=by
 have:iter (JH (sha b)) (0,0)=some (EM (sha b) 8):=by
  refine Ck (F:=JH (sha b)) (b:=EM (sha b) 8) 8 (λi=>(EM (sha b) i,(i:Int))) (λi hi=>?_) ?_
  ·unfold JH;rw[if_pos (by simp; omega)];simp only[PV];rw[DZ 0 (by simp; omega),AL (show i<9223372036854775807 by omega)];simp only[bS];rfl
  ·unfold JH;rw[if_neg (by simp)]
 unfold Mi;rw[KP b h];simp only[bS];rw[this];simp only[bS]
def chal (r y:UInt32) (m:List UInt8):UInt32:=(EM (sha ((([99]++four r)++four y)++m)) 8 % 500000003).toUInt32
theorem z1ad (m:List UInt8) (r y:UInt32) (h:m.length<=9991):M1 99 m [r,y]=some (EM (sha ((([99]++four r)++four y)++m)) 8,0):=by
 have U:iter (Gw [r,y]) ([99],0)=some (([99]++four r)++four y):=by
  have s1:Gw [r,y] ([99],0)=some (.inr ([99]++four r,1)):=by
   unfold Gw;rw[if_pos (by simp)];simp only[];rw[show idx [r,y] 0=some r from rfl,B6 (x:=(0:Int)+1) (by omega) (by omega)];simp only[bS];rw[B1 (by simp)];rfl
  have s2:Gw [r,y] ([99]++four r,1)=some (.inr (([99]++four r)++four y,2)):=by
   unfold Gw;rw[if_pos (by simp)];simp only[];rw[show idx [r,y] 1=some y from rfl,B6 (x:=(1:Int)+1) (by omega) (by omega)];simp only[bS];rw[B1 (by simp[four])];rfl
  have s3:Gw [r,y] (([99]++four r)++four y,2)=some (.inl (([99]++four r)++four y)):=by
   unfold Gw;rw[if_neg (by simp)]
  rw[Bl s1,Bl s2,B2 s3]
 unfold M1;rw[if_neg (by simp; omega),U];simp only[bS]
 rw[UN _ (by simp) (by
  intro b O;simp only[List.mem_cons,List.not_mem_nil,or_false] at O;rcases O with rfl | rfl
  ·simp[four]
  ·omega)]
 simp only[bS];rw[z169, show [([99]++four r)++four y,m].flatten=(([99]++four r)++four y)++m by simp only[List.flatten_cons,List.flatten_nil,List.append_nil]];rfl
theorem zvz (r y:UInt32) (m:List UInt8) (h:m.length<=9991):M2 r y m=some (chal r y m,0):=by
 unfold M2;rw[z1ad m r y h];simp only[bS];rw[if_neg (by simp)];rfl
theorem zqi (r y:UInt32) (m:List UInt8) (h:m.length<=9991):Mj r y m=some (chal r y m):=by
 unfold Mj;rw[UO];simp only[bS];rw[B1 (by simp[four]),UO];simp only[bS];rw[B1 (by simp[four])];simp only[bS];rw[B1 (by simp[four]; omega)];simp only[bS];rw[z1ak _ (by simp[four]; omega)];simp only[bS];rfl
def Dg (x:UInt32):Bool:=decide (x.toNat<gq)
theorem O3 (x:UInt32):Hh x=some (Dg x):=by
 have e:decide (x.toUInt64<500000003)=Dg x:=by unfold Dg; simp[UInt64.lt_iff_toNat_lt]
 unfold Hh;rw[e];rfl
def sigR (y:UInt32) (s:AQ):UInt32:=u32 ((4 ^ s.S.toNat % gp) * (y.toNat ^ (gq - s.E.toNat) % gp) % gp)
def GJ (y:UInt32) (m:List UInt8) (s:AQ):Bool:=Dg s.E&&(Dg s.S&&(chal (sigR y s) y m==s.E))
theorem z16a (y:UInt32) (m:List UInt8) (s:AQ) (hy:inG y.toNat) (h:m.length<=9991):Mk y m s=some (GJ y m s):=by
 unfold Mk GJ;rw[O3];simp only[bS]
 cases hE:Dg s.E with
 | false=>rw[if_pos (by simp)]; rfl
 | true =>
  rw[if_neg (by simp),O3];simp only[bS]
  cases hS:Dg s.S with
  | false=>rw[if_pos (by simp)]; rfl
  | true =>
   have hE':s.E.toNat<gq:=by simpa [Dg] using hE
   have a7:=PY hy.2.2 s.E.toNat;have a1:y.toNat ^ s.E.toNat % gp<gp:=Nat.mod_lt _ (by decide);rw[if_neg (by simp),Q0];simp only[bS];unfold Po Pq Pp;rw[UM,F1 (by simpa using a1)];simp only[bS];have hE64:s.E.toUInt64.toNat=s.E.toNat:=by simp
   rw[hE64,decide_eq_true a7,if_neg (by simp),Q0,F1 a1,Q0];simp only[bS];rw[show (500000002:UInt64).toNat=gq - 1 from rfl,z19d hy.2.2 hE'];unfold Pr;simp only[bS];have hS64:s.S.toUInt64.toNat=s.S.toNat:=by simp
   have a2:4 ^ s.S.toNat % gp<gp:=Nat.mod_lt _ (by decide);have a6:y.toNat ^ (gq - s.E.toNat) % gp<gp:=Nat.mod_lt _ (by decide);have U:((u32 ((4:UInt32).toNat ^ s.S.toUInt64.toNat % gp)).toUInt64 * (u32 (y.toNat ^ (gq - s.E.toNat) % gp)).toUInt64 % 1000000007).toUInt32=sigR y s:=by
    have hb:(4 ^ s.S.toNat % gp) * (y.toNat ^ (gq - s.E.toNat) % gp)<=1000000007 * 1000000007:=Nat.mul_le_mul (Nat.le_of_lt a2) (Nat.le_of_lt a6);have O:=m64 (u32 ((4:UInt32).toNat ^ s.S.toUInt64.toNat % gp)).toUInt64 (u32 (y.toNat ^ (gq - s.E.toNat) % gp)).toUInt64;simp only[UInt32.toNat_toUInt64] at O;rw[show (4:UInt32).toNat=4 from rfl,F1 a2,F1 a6] at O;have O:=O (by omega);rw[show (4:UInt32).toNat=4 from rfl,hS64,to32 _ (by rw[O]; exact Nat.mod_lt _ (by decide)),O]
    rfl
   rw[U,zqi _ _ _ h];simp only[bS];rfl
theorem all1 (a:UInt32) (h:inG a.toNat):Hc [a]=some true:=by
 unfold Hc;have O:Fe [a] 0=some (.inr 1):=by
  unfold Fe;rw[if_pos (by simp), show idx [a] 0=some a from rfl];simp only[bS];rw[KQ,decide_eq_true h,B6 (x:=(0:Int)+1) (by omega) (by omega)];rfl
 have U:Fe [a] 1=some (.inl (.inr ())):=by
  unfold Fe;rw[if_neg (by simp)]
 rw[Bl O,B2 U];rfl
theorem all2 (a b:UInt32) (h:inG a.toNat) (O:inG b.toNat):Hc [a,b]=some true:=by
 unfold Hc;have U:Fe [a,b] 0=some (.inr 1):=by
  unfold Fe;rw[if_pos (by simp), show idx [a,b] 0=some a from rfl];simp only[bS];rw[KQ,decide_eq_true h,B6 (x:=(0:Int)+1) (by omega) (by omega)];rfl
 have s2:Fe [a,b] 1=some (.inr 2):=by
  unfold Fe;rw[if_pos (by simp), show idx [a,b] 1=some b from rfl];simp only[bS];rw[KQ,decide_eq_true O,B6 (x:=(1:Int)+1) (by omega) (by omega)];rfl
 have s3:Fe [a,b] 2=some (.inl (.inr ())):=by
  unfold Fe;rw[if_neg (by simp)]
 rw[Bl U,Bl s2,B2 s3];rfl
theorem z12a (y:UInt32) (m:List UInt8) (s:AQ) (hy:inG y.toNat) (h:m.length<=9991):M3 y m s=some (if GJ y m s then 0 else 22):=by
 have a1:decide (500000003<=max s.E s.S)=!(Dg s.E&&Dg s.S):=by
  have e1:(500000003<=max s.E s.S)↔(500000003<=s.E\/500000003<=s.S):=by
   rw[show max s.E s.S=if s.E<=s.S then s.S else s.E from rfl]
   split
   ·rename_i hh
    constructor
    ·exact λh=>.inr h
    ·rintro (h | h)
     ·exact UInt32.le_trans h hh
     ·exact h
   ·rename_i hh
    constructor
    ·exact λh=>.inl h
    ·rintro (h | h)
     ·exact h
     ·rw[UInt32.le_iff_toNat_le] at *; omega
  rw[Bool.eq_iff_iff,decide_eq_true_iff,e1];unfold Dg;simp only[UInt32.le_iff_toNat_le,Bool.not_eq_true',Bool.and_eq_false_iff,decide_eq_false_iff_not,Nat.not_lt];rfl
 unfold M3;rw[KQ,decide_eq_true hy];simp only[bS];rw[if_neg (by simp),if_neg (by simp; omega),a1]
 cases hE:Dg s.E with
 | false=>unfold GJ; rw[hE]; rfl
 | true =>
  cases hS:Dg s.S with
  | false=>unfold GJ; rw[hE,hS]; rfl
  | true =>
   have hE':s.E.toNat<gq:=by simpa [Dg] using hE
   have hE':s.E.toNat<500000003:=hE';rw[if_neg (by simp)];unfold Pf Pg Ph;rw[all1 y hy];simp only[bS];rw[if_neg (by simp),PZ];simp only[bS];rw[PZ];simp only[bS];have hS64:s.S.toUInt64.toNat=s.S.toNat:=by simp
   have hq:(500000003 - s.E.toUInt64).toNat=gq - s.E.toNat:=by
    rw[UInt64.toNat_sub_of_le _ _ (by rw[UInt64.le_iff_toNat_le]; simp; omega)]
    simp
   have O:4 ^ s.S.toNat % gp<gp:=Nat.mod_lt _ (by decide);have U:y.toNat ^ (gq - s.E.toNat) % gp<gp:=Nat.mod_lt _ (by decide);rw[hq,hS64, show (4:UInt32).toNat=4 from rfl];rw[all2 _ _ (by rw[F1 O]; exact PY z1co _) (by rw[F1 U]; exact PY hy.2.2 _)];simp only[bS];rw[if_neg (by simp),mul2,F1 O,F1 U];simp only[bS];rw[zvz _ _ _ h];simp only[bS];rw[if_neg (by simp)];unfold GJ
   rw[hE,hS];show (if (chal (sigR y s) y m != s.E)=true then some 22 else some 0)=_;by_cases hc:chal (sigR y s) y m=s.E
   ·simp[hc]
   ·simp[hc]
end
section
def okc (c:UInt8):Bool:=decide (33<=c.toNat)&&decide (c.toNat<=126)
theorem z19k (x:Int):LF x=some (decide (x<33) || decide (126<x)):=by
 unfold LF
 cases decide (x<33) <;> rfl
theorem UQ (b:List UInt8):∀ (rest pre:List UInt8),b=pre++rest ->
  (rest.all okc=true->iter (HR b true) pre.length=some (.inr ()))/\(rest.all okc=false->∃ i:Nat,iter (HR b true) pre.length=some (.inl (i:Int)))
 | [],pre,e=>by
  refine⟨λ_=>B2 ?_, λh=>by simp at h⟩;subst e;unfold HR
  simp
 | c::rest,pre,e=>by
  have O:pre.length<b.length:=by rw[e]; simp
  have U:b[pre.length]'O=c:=by subst e; simp
  have hF:HR b true pre.length=if ((decide (((Dl b pre.length).1:Int)<33) || decide (126<((Dl b pre.length).1:Int)))==true) then some (.inl (.inl (pre.length:Int))) else some (.inr (pre.length+(Dl b pre.length).2)):=by
   unfold HR;rw[if_pos O];simp only[bs,z19k]
  cases hc:okc c with
  | false =>
   refine⟨λh=>by simp[hc] at h, λ_=>⟨pre.length,B2 ?_⟩⟩;rw[hF,if_pos];by_cases h8:c.toNat<128
   ·rw[Mu O (by rw[U]; exact h8),U];simp only[okc,Bool.and_eq_false_iff,decide_eq_false_iff_not] at hc
    simp; omega
   ·have:=TA O (by rw[U]; omega)
    simp; omega
  | true =>
   simp only[okc,Bool.and_eq_true,decide_eq_true_eq] at hc;rw[Mu O (by rw[U]; omega),U,if_neg (by simp; omega)] at hF;have ih:=UQ b rest (pre++[c]) (by simp[e]);simp only[List.length_append,List.length_cons,List.length_nil,Nat.zero_add] at ih;rw[Bl hF];have a1:okc c=true:=by simp[okc,hc]
   simpa [a1] using ih
theorem UR (b:List UInt8) (hb:b.length<=9223372036854775807):∀ (rest pre:List UInt8),b=pre++rest->iter (JD b) (pre.length:Int)=some (if rest.all okc then .inr () else .inl false)
 | [],pre,e=>by
  refine B2 ?_;subst e;unfold JD
  simp
 | c::rest,pre,e=>by
  have O:pre.length<b.length:=by rw[e]; simp
  have a1:b[pre.length]'O=c:=by subst e; simp
  have hF:JD b (pre.length:Int)=if okc c then some (.inr ((pre.length+1:Nat):Int)) else some (.inl (.inl false)):=by
   unfold JD;rw[if_pos (by simp <;> omega)]
   simp only[Ax O,a1,bs,AL (show pre.length<9223372036854775807 by omega)];simp only[okc,UInt8.lt_iff_toNat_lt,UInt8.reduceToNat];by_cases h1:c.toNat<33
   ·have:¬ 33<=c.toNat:=by omega
    simp[h1,this]
   ·by_cases h2:126<c.toNat
    ·have:¬ c.toNat<=126:=by omega
     simp[h1,h2,this]
    ·have h3:33<=c.toNat:=by omega
     have h4:c.toNat<=126:=by omega
     simp[h1,h2,h3,h4]
  cases U:okc c with
  | false=>rw[U] at hF; rw[B2 hF]; simp[U]
  | true =>
   rw[U] at hF;rw[Bl hF];have ih:=UR b hb rest (pre++[c]) (by simp[e]);simp only[List.length_append,List.length_cons,List.length_nil,Nat.zero_add] at ih;rw[ih]; simp[U]
def CG (k:List UInt8):Bool:=decide (1<=k.length)&&(decide (k.length<=20)&&k.all okc)
theorem Q1 (k:List UInt8):Hg k=some (CG k):=by
 unfold Hg CG;by_cases O:1<=k.length
 ·by_cases U:k.length<=20
  ·have h:=UR k (by omega) k [] rfl;rw[if_neg (by simp; omega),if_neg (by simp; omega), show (0:Int)=(([]:List UInt8).length:Int) from rfl,h,decide_eq_true O,decide_eq_true U]
   cases k.all okc <;> rfl
  ·rw[if_neg (by simp; omega),if_pos (by simp; omega),decide_eq_false U]; simp
 ·rw[if_pos (by simp; omega),decide_eq_false O]; rfl
theorem z1ct (k:List UInt8):J0 k=some (CG k):=by
 unfold J0 CG P1 P0;by_cases O:1<=k.length
 ·by_cases U:k.length<=20
  ·obtain⟨e1,e2⟩:=UQ k k [] rfl;simp only[List.length_nil] at e1 e2;rw[if_pos (by simp; omega),if_pos (by simp; omega),decide_eq_true O,decide_eq_true U]
   cases h:k.all okc
   ·obtain⟨i,hi⟩:=e2 h;rw[hi];simp only[or_l,bS];rw[decide_eq_false (by omega)]; rfl
   ·rw[e1 h]; rfl
  ·rw[if_pos (by simp; omega),if_neg (by simp; omega),decide_eq_false U]; simp
 ·rw[if_neg (by simp; omega),decide_eq_false O]; rfl
def v0:Ay:=⟨0,0,0,[]⟩
def DW (a:AX):Bool :=
 if a.Kind=1 then decide (a.Key=[])&&decide (a.Value=v0)
 else if a.Kind=2\/a.Kind=3 then CG a.Key&&decide (a.Value=v0)
 else if a.Kind=4 then CG a.Key&&okV a.Value
 else false
theorem Q2 (a:AX) (h:a.Value.Text.length<=9223372036854775807):Gu a=some (if DW a then 0 else 8):=by
 obtain⟨K,key,v⟩:=a;unfold Gu DW;simp only at h ⊢;rw[z1ct,Mv v h];by_cases O:K=1
 ·subst O;by_cases hk:key=[] <;> by_cases U:v=⟨0,0,0,[]⟩ <;> simp[hk,U,v0]
 by_cases h2:K=2\/K=3
 ·have e:(if K==2 then some true else some (K==3))=some true:=by
   rcases h2 with rfl | rfl <;> rfl
  rw[if_neg (by simpa using O),e,if_neg O,if_pos h2];simp only[bS];rw[if_pos trivial]
  cases CG key with
  | false=>rfl
  | true =>
   by_cases U:v=⟨0,0,0,[]⟩
   ·subst U; rfl
   ·have a1:¬ v=v0:=U;simp only[bS,if_true,decide_eq_false U,decide_eq_false a1]; rfl
 ·have e:(if K==2 then some true else some (K==3))=some false:=by
   have e2:(K==2)=false:=by simp; exact λh=>h2 (.inl h)
   have e3:(K==3)=false:=by simp; exact λh=>h2 (.inr h)
   rw[e2,e3]; rfl
  rw[if_neg (by simpa using O),e,if_neg O,if_neg h2];simp only[bS];rw[if_neg (by simp)];by_cases h4:K=4
  ·subst h4;rw[if_pos (by decide),if_pos rfl]
   cases CG key with
   | false=>rfl
   | true=>cases okV v <;> rfl
  ·rw[if_neg (by simpa using h4),if_neg h4]; rfl
theorem z12i (a:AX) (h:a.Value.Text.length<=9223372036854775807):Mg a=some (if DW a then 0 else 8):=by
 obtain⟨K,key,v⟩:=a;unfold Mg DW;simp only at h ⊢;rw[Q1,TE v h];simp only[bS];by_cases O:K=1
 ·subst O;by_cases hk:key=[] <;> by_cases U:v=⟨0,0,0,[]⟩ <;> simp[hk,U,v0]
 by_cases h2:K=2\/K=3
 ·have e:(if K==2 then some true else some (K==3))=some true:=by
   rcases h2 with rfl | rfl <;> rfl
  rw[if_neg (by simpa using O),e,if_neg O,if_pos h2];simp only[bS];rw[if_pos trivial]
  cases CG key with
  | false=>rfl
  | true =>
   by_cases U:v=⟨0,0,0,[]⟩
   ·subst U; rfl
   ·have a1:¬ v=v0:=U;simp only[bS,if_true,decide_eq_false U,decide_eq_false a1]; rfl
 ·have e:(if K==2 then some true else some (K==3))=some false:=by
   have e2:(K==2)=false:=by simp; exact λh=>h2 (.inl h)
   have e3:(K==3)=false:=by simp; exact λh=>h2 (.inr h)
   rw[e2,e3]; rfl
  rw[if_neg (by simpa using O),e,if_neg O,if_neg h2];simp only[bS];rw[if_neg (by simp)];by_cases h4:K=4
  ·subst h4;rw[if_pos (by decide),if_pos rfl]
   cases CG key with
   | false=>rfl
   | true=>cases okV v <;> rfl
  ·rw[if_neg (by simpa using h4),if_neg h4]; rfl
theorem US (l:List V3) (h:l.length<=100):HN l=some l:=by
 unfold HN;rw[B1 (by simp; omega)]; rfl
def EN (a:Ab):Bool:=decide (inG a.Author.toNat)&&(!decide (1000000000000<a.Stamp)&&(DW a.Act&&(Dg a.Sig.E&&Dg a.Sig.S)))
def BK (a:Ab):Int:=if 4<a.Preds.length then 4 else if BH a.Preds=false then 32 else if EN a then 0 else 8
theorem z15y (x y:UInt32):decide (500000003<=max x y)=!(Dg x&&Dg y):=by
 have O:(500000003<=max x y)↔(500000003<=x\/500000003<=y):=by
  rw[show max x y=if x<=y then y else x from rfl]
  split
  ·rename_i hh
   constructor
   ·exact λh=>.inr h
   ·rintro (h | h)
    ·exact UInt32.le_trans h hh
    ·exact h
  ·rename_i hh
   constructor
   ·exact λh=>.inl h
   ·rintro (h | h)
    ·exact h
    ·rw[UInt32.le_iff_toNat_le] at *; omega
 rw[Bool.eq_iff_iff,decide_eq_true_iff,O];unfold Dg;simp only[UInt32.le_iff_toNat_le,Bool.not_eq_true',Bool.and_eq_false_iff,decide_eq_false_iff_not,Nat.not_lt];rfl
theorem zxh (l:List V3) (h:l.length<=4):(J1 l>>=λr5=>if !r5 then some true else HN l>>=λr8=>J3 r8>>=λa1=>some ((a1.length:Int) != (l.length:Int))>>=λa2=>some a2)=some (!BH l):=by
 obtain⟨b,e1,e2⟩:=z11s l (by omega);obtain⟨c,e3,e4⟩:=z104 l (by omega);have O:=z167 l;rw[e1];simp only[bS]
 cases b with
 | false =>
  have:BH l=false:=by
   rw[<- Bool.not_eq_true,O]; intro h; have:=e2.2 h.1; simp at this
  rw[this]; rfl
 | true =>
  rw[if_neg (by simp),US l (by omega)];simp only[bS];rw[e3];simp only[bS];by_cases U:c.length=l.length
  ·rw[O.2 ⟨e2.1 rfl,e4.1 U⟩,U]; simp
  ·have:BH l=false:=by
    rw[<- Bool.not_eq_true,O]; intro h; exact U (e4.2 h.2)
   rw[this]; simp; omega
theorem O4 (a:Ab) (h:a.Act.Value.Text.length<=9223372036854775807):H6 a=some (BK a):=by
 unfold H6 BK;simp only[bS];by_cases O:4<a.Preds.length
 ·rw[if_pos (by simp; omega),if_pos O]
 ·rw[if_neg (by simp; omega),if_neg O]
  have:=zxh a.Preds (by omega)
  simp only[bS] at this;rw[this];simp only[bS]
  cases hi:BH a.Preds with
  | false=>rfl
  | true =>
   rw[if_neg (by simp),KQ,Q2 _ h,z15y];simp only[bS];unfold EN
   cases decide (inG a.Author.toNat) with
   | false=>rfl
   | true =>
    cases decide (1000000000000<a.Stamp) with
    | true=>rfl
    | false=>cases DW a.Act <;> cases Dg a.Sig.E <;> cases Dg a.Sig.S <;> rfl
theorem UT (a:Ab) (h:a.Act.Value.Text.length<=9223372036854775807):HZ a=some (BK a):=by
 unfold HZ BK;by_cases O:4<a.Preds.length
 ·rw[if_pos (by simp; omega),if_pos O]
 ·rw[if_neg (by simp; omega),if_neg O,PC _ (by omega)];simp only[bS]
  cases hi:BH a.Preds with
  | false=>rfl
  | true =>
   rw[if_neg (by simp),UM,z12i _ h,O3,O3];simp only[bS];unfold EN
   cases decide (inG a.Author.toNat) with
   | false=>rfl
   | true =>
    cases decide (1000000000000<a.Stamp) with
    | true=>rfl
    | false=>cases DW a.Act <;> cases Dg a.Sig.E <;> cases Dg a.Sig.S <;> rfl
theorem DE {a:Ab} (h:BK a=0):a.Preds.length<=4/\BH a.Preds=true/\EN a=true:=by
 unfold BK at h;by_cases O:4<a.Preds.length
 ·rw[if_pos O] at h; omega
 ·rw[if_neg O] at h
  cases hi:BH a.Preds with
  | false=>rw[hi] at h; simp at h
  | true =>
   rw[hi] at h
   cases U:EN a with
   | false=>rw[U] at h; simp at h
   | true=>exact⟨by omega,rfl,rfl⟩
theorem GK {k:List UInt8} (h:CG k=true):k.length<=20:=by
 unfold CG at h;simp only[Bool.and_eq_true,decide_eq_true_eq] at h;exact h.2.1
theorem Iy {a:AX} (h:DW a=true):(a.Kind=1/\a.Key=[])\/((a.Kind=2\/a.Kind=3)/\a.Key.length<=20)\/(a.Kind=4/\a.Key.length<=20/\okV a.Value=true):=by
 unfold DW at h;by_cases O:a.Kind=1
 ·rw[if_pos O] at h; simp only[Bool.and_eq_true,decide_eq_true_eq] at h; exact .inl ⟨O,h.1⟩
 ·rw[if_neg O] at h;by_cases U:a.Kind=2\/a.Kind=3
  ·rw[if_pos U] at h; simp only[Bool.and_eq_true,decide_eq_true_eq] at h; exact .inr (.inl ⟨U,GK h.1⟩)
  ·rw[if_neg U] at h;by_cases h4:a.Kind=4
   ·rw[if_pos h4] at h; simp only[Bool.and_eq_true] at h; exact .inr (.inr ⟨h4,GK h.1,h.2⟩)
   ·rw[if_neg h4] at h; simp at h
end
section
theorem UU (l:List (List UInt8)) (h0:l.length<=20) (h:∀ b∈l,b.length<=10000):Fd l=some l.flatten :=
 KO l (by have:=O1 l h; omega) (by omega)
def head (a:Ab):List UInt8:=[111]++(BC a.Author.toNat++((BC a.Preds.length++Da a.Preds)++(BC a.Stamp.toNat++[a.Act.Kind])))
def keyB (a:AX):List UInt8:=BC a.Key.length++a.Key
def msg (a:Ab):List UInt8 :=
 if a.Act.Kind=1 then head a else if a.Act.Kind=4 then (head a++keyB a.Act)++encV a.Act.Value else head a++keyB a.Act
def Dr (a:Ab):List UInt8:=msg a++(BC a.Sig.E.toNat++BC a.Sig.S.toNat)
theorem Iz {v:Ay} (h:okV v=true) (hI:inI v.Num):(encV v).length<=100:=by
 unfold encV;rcases Py h with k | k | k
 ·have:=Bu (Eg v.Num) (Pz hI)
  rw[if_pos k]; simp; omega
 ·rw[k,if_neg (by decide),if_pos rfl]; simp[be8]
 ·have h3:=(okV3 h k).2.2.1
  have:=Bu v.Text.length (by omega)
  rw[k,if_neg (by decide),if_neg (by decide)]; simp; omega
theorem Q3 {a:Ab} (h:BK a=0):(head a).length<=160:=by
 obtain⟨h1,h2,h3⟩:=DE h;have l1:=Bu a.Author.toNat (by have:=UInt32.toNat_lt a.Author; omega);have l2:=Bu a.Preds.length (by omega);have l3:=Bu a.Stamp.toNat (UInt64.toNat_lt _);have l4:=FB a.Preds;unfold head;simp only[List.length_append,List.length_cons,List.length_nil]; omega
theorem Q4 {a:AX} (h:DW a=true):(keyB a).length<=30:=by
 have hk:a.Key.length<=20:=by
  rcases Iy h with ⟨_,h⟩ | ⟨_,h⟩ | ⟨_,h,_⟩
  ·simp[h]
  ·exact h
  ·exact h
 have:=Bu a.Key.length (by omega)
 unfold keyB; simp only[List.length_append]; omega
theorem Q5 {a:Ab} (h:EN a=true):DW a.Act=true:=by
 unfold EN at h;simp only[Bool.and_eq_true] at h;exact h.2.2.1
theorem UV {a:Ab} (h:EN a=true):inG a.Author.toNat:=by
 unfold EN at h;simp only[Bool.and_eq_true,decide_eq_true_eq] at h;exact h.1
theorem KS {a:Ab} (h:BK a=0) (hI:inI a.Act.Value.Num):(msg a).length<=300:=by
 have h1:=Q3 h;have O:=Q5 (DE h).2.2;have h2:=Q4 O;unfold msg
 split
 ·omega
 ·split
  ·rename_i U
   have:okV a.Act.Value=true:=by
    rcases Iy O with ⟨k,_⟩ | ⟨k,_⟩ | ⟨_,_,k⟩
    ·rw[U] at k; simp at k
    ·rw[U] at k; simp at k
    ·exact k
   have h3:=Iz this hI;simp only[List.length_append]; omega
  ·simp only[List.length_append]; omega
theorem KU {a:Ab} (h:BK a=0) (hI:inI a.Act.Value.Num):(Dr a).length<=400:=by
 have h1:=KS h hI;have l1:=Bu a.Sig.E.toNat (by have:=UInt32.toNat_lt a.Sig.E; omega);have l2:=Bu a.Sig.S.toNat (by have:=UInt32.toNat_lt a.Sig.S; omega);unfold Dr;simp only[List.length_append]; omega
def bare (a:Ab):Ab:={ a with Sig:=(⟨0,0⟩:AQ) }
theorem z12y {a:Ab} (h:BK a=0):BK (bare a)=0:=by
 obtain⟨h1,U,O⟩:=DE h;unfold EN at O;simp only[Bool.and_eq_true] at O;obtain⟨g1,g2,g3,g4,g5⟩:=O;unfold BK bare;rw[if_neg (by simp; omega),U,if_neg (by simp),if_pos];unfold EN;rw[g1,g2,g3]; rfl
theorem UW (a:Ab) (h:BK a=0) (hI:inI a.Act.Value.Num) (ht:a.Act.Value.Text.length<=9223372036854775807):J7 a=some (msg a,0):=by
 obtain⟨h1,h2,h3⟩:=DE h;have ha:=Q5 h3;have l1:=Bu a.Author.toNat (by have:=UInt32.toNat_lt a.Author; omega);have l2:=Bu a.Preds.length (by omega);have l3:=Bu a.Stamp.toNat (UInt64.toNat_lt _);have l4:=FB a.Preds;have hl:=Q3 h;have e1:H6 { a with Sig:=(⟨0,0⟩:AQ) }=some 0:=by
  have:=O4 (bare a) ht
  rw[z12y h] at this;exact this
 unfold J7;rw[e1];simp only[bS];rw[if_neg (by simp),z1b8 _ (by omega) h2];simp only[bS];rw[EZ,EZ];simp only[bS]
 rw[UU _ (by simp) (by
  intro b hb;simp only[List.mem_cons,List.not_mem_nil,or_false] at hb;rcases hb with rfl | rfl | rfl | rfl | rfl
  ·simp
  ·simp; omega
  ·simp only[List.length_append]; omega
  ·omega
  ·simp)]
 simp only[bS];have e2:[[111],BC a.Author.toUInt64.toNat,BC a.Preds.length++Da a.Preds,BC a.Stamp.toNat,[a.Act.Kind]].flatten=head a:=by
  unfold head;simp only[List.flatten_cons,List.flatten_nil,List.append_nil,UInt32.toNat_toUInt64]
 rw[e2];unfold msg;by_cases U:a.Act.Kind=1
 ·rw[if_pos (by simpa using U),if_pos U]
 ·rw[if_neg (by simpa using U),if_neg U];have hk:a.Act.Key.length<=20:=by
   rcases Iy ha with ⟨_,h⟩ | ⟨_,h⟩ | ⟨_,h,_⟩
   ·simp[h]
   ·exact h
   ·exact h
  have l5:=Q4 ha;have e3:Gv a.Act.Key=some (keyB a.Act,0):=Mw _ (by omega);rw[CJ (by omega)];simp only[bS];rw[e3];simp only[bS];rw[B1 (by omega)];simp only[bS];by_cases O:a.Act.Kind=4
  ·have hv:okV a.Act.Value=true:=by
    rcases Iy ha with ⟨k,_⟩ | ⟨k,_⟩ | ⟨_,_,k⟩
    ·rw[O] at k; simp at k
    ·rw[O] at k; simp at k
    ·exact k
   have l6:=Iz hv hI;rw[if_pos (by simpa using O),if_pos O,TG _ hI ht,hv];simp only[bS,if_true];rw[B1 (by simp only[List.length_append]; omega)];simp only[bS]
  ·rw[if_neg (by simpa using O),if_neg O]
theorem UX (a:Ab) (h:BK a=0) (hI:inI a.Act.Value.Num):Jo a=some (msg a):=by
 obtain⟨h1,h2,h3⟩:=DE h;have ha:=Q5 h3;have l1:=Bu a.Author.toNat (by have:=UInt32.toNat_lt a.Author; omega);have l2:=Bu a.Preds.length (by omega);have l3:=Bu a.Stamp.toNat (UInt64.toNat_lt _);have l4:=FB a.Preds;have hl:=Q3 h;unfold Jo;rw[Ey];simp only[bS];rw[B1 (by simp; omega),TJ _ (by omega)];simp only[bS];rw[B1 (by simp; omega),Ey];simp only[bS];rw[B1 (by simp; omega)];simp only[bS]
 rw[B1 (by simp; omega)];simp only[bS];have e2:[111]++BC a.Author.toUInt64.toNat++(BC a.Preds.length++Da a.Preds)++BC a.Stamp.toNat++[a.Act.Kind]=head a:=by
  unfold head;simp only[List.append_assoc,UInt32.toNat_toUInt64]
 rw[e2];unfold msg;by_cases U:a.Act.Kind=1
 ·rw[if_neg (by simp[U]),if_pos U];simp only[bS];rw[U]; rfl
 ·rw[if_pos (by simpa using U),if_neg U];have hk:a.Act.Key.length<=20:=by
   rcases Iy ha with ⟨_,h⟩ | ⟨_,h⟩ | ⟨_,h,_⟩
   ·simp[h]
   ·exact h
   ·exact h
  have l5:=Q4 ha;have e3:FP a.Act.Key=some (keyB a.Act):=JW _ (by omega);rw[CJ (by omega)];simp only[bS];rw[e3];simp only[bS];rw[B1 (by omega)];simp only[bS];by_cases O:a.Act.Kind=4
  ·have hv:okV a.Act.Value=true:=by
    rcases Iy ha with ⟨k,_⟩ | ⟨k,_⟩ | ⟨_,_,k⟩
    ·rw[O] at k; simp at k
    ·rw[O] at k; simp at k
    ·exact k
   have l6:=Iz hv hI;rw[if_pos (by simpa using O),if_pos O,TH _ hI hv];simp only[bS];rw[B1 (by simp only[List.length_append]; omega)];simp only[bS]
  ·rw[if_neg (by simpa using O),if_neg O]
theorem UY (a:Ab) (h:BK a=0) (hI:inI a.Act.Value.Num) (O:a.Act.Value.Text.length<=9223372036854775807):H8 a=some (Dr a,0):=by
 have hm:=KS h hI;have l1:=Bu a.Sig.E.toNat (by have:=UInt32.toNat_lt a.Sig.E; omega);have l2:=Bu a.Sig.S.toNat (by have:=UInt32.toNat_lt a.Sig.S; omega);unfold H8;rw[O4 _ O,h];simp only[bS];rw[if_neg (by simp),UW _ h hI O,EZ,EZ];simp only[bS,UInt32.toNat_toUInt64]
 rw[UU _ (by simp) (by
  intro b U;simp only[List.mem_cons,List.not_mem_nil,or_false] at U
  rcases U with rfl | rfl | rfl <;> omega)]
 simp only[bS,List.flatten_cons,List.flatten_nil,List.append_nil];rfl
theorem UZ (a:Ab) (h:BK a=0) (hI:inI a.Act.Value.Num):Jp a=some (Dr a):=by
 have hm:=KS h hI;have l1:=Bu a.Sig.E.toNat (by have:=UInt32.toNat_lt a.Sig.E; omega);have l2:=Bu a.Sig.S.toNat (by have:=UInt32.toNat_lt a.Sig.S; omega);unfold Jp Dr;rw[UX _ h hI,Ey,Ey];simp only[bS,UInt32.toNat_toUInt64];rw[B1 (by omega)];simp only[bS];rw[B1 (by simp only[List.length_append]; omega)];simp only[bS,List.append_assoc]
def V0:V3:=Vector.replicate 32 0
theorem V1 (a:Ab) (hI:inI a.Act.Value.Num) (O:a.Act.Value.Text.length<=9223372036854775807):Jf a=some (if BK a=0 then (sha (Dr a),0) else (V0,BK a)):=by
 unfold Jf;by_cases h:BK a=0
 ·have:=KU h hI
  rw[UY a h hI O];simp only[bS];rw[if_neg (by simp),O2 _ (by omega),if_pos h];simp only[bS]
 ·have e:H8 a=some ([],BK a):=by
   unfold H8;rw[O4 _ O];simp only[bS];rw[if_pos (by simpa using h)]
  rw[e];simp only[bS];rw[if_pos (by simpa using h),if_neg h]; rfl
theorem V2 (a:Ab) (h:BK a=0) (hI:inI a.Act.Value.Num):Jx a=some (sha (Dr a)):=by
 have:=KU h hI
 unfold Jx;rw[UZ a h hI];simp only[bS];rw[KP _ (by omega)];simp only[bS]
def F2 (a:Ab):Int:=if BK a=0 then (if GJ a.Author (msg a) a.Sig then 0 else 22) else BK a
theorem zyc (a:Ab) (hI:inI a.Act.Value.Num) (O:a.Act.Value.Text.length<=9223372036854775807):M4 a=some (F2 a):=by
 unfold M4 F2;rw[O4 _ O];simp only[bS];by_cases h:BK a=0
 ·have:=KS h hI
  rw[if_neg (by simp[h]),if_pos h,UW a h hI O];simp only[bS];rw[z12a _ _ _ (UV (DE h).2.2) (by omega)];simp only[bS]
 ·rw[if_pos (by simpa using h),if_neg h]
theorem zui (a:Ab) (hI:inI a.Act.Value.Num) (O:a.Act.Value.Text.length<=9223372036854775807):Ml a=some (F2 a):=by
 unfold Ml F2 Ps;rw[UT _ O];simp only[bS];by_cases h:BK a=0
 ·have:=KS h hI
  rw[if_neg (by simp[h]),if_pos h,UX a h hI];simp only[bS];rw[z16a _ _ _ (UV (DE h).2.2) (by omega)];simp only[bS]
  cases GJ a.Author (msg a) a.Sig <;> rfl
 ·rw[if_pos (by simpa using h),if_neg h]
end
section
theorem FD {α:Type} [DecidableEq α]:∀ (p q:List α),p.Nodup->(∀ x∈p,x∈q)->p.length<=q.length
 | [],_,_,_=>by simp
 | a::p,q,h,O=>by
  have U:=O a (by simp);have hn:=List.nodup_cons.1 h
  have:=FD p (q.erase a) hn.2 (λx hx=>by
   have a1:x≠a:=λe=>hn.1 (e ▸ hx)
   exact(List.mem_erase_of_ne a1).2 (O x (by simp[hx])))
  rw[List.length_erase_of_mem U] at this;have hp:=List.length_pos_of_mem U;simp only[List.length_cons]; omega
theorem z11r {α:Type} [DecidableEq α] {p q:List α} (U:p.Nodup) (h2:q.Nodup) (h:∀ x,x∈p↔x∈q):p.length=q.length :=
 Nat.le_antisymm (FD p q U λx O=>(h x).1 O) (FD q p h2 λx O=>(h x).2 O)
abbrev ID:=V3
theorem G1 {l:List ID} (h:BH l=true) {i j:Nat} (hi:i<l.length) (U:j<l.length) (O:i<j):kd l[i]<kd l[j] :=
 List.pairwise_iff_getElem.1 ((GA l).1 h) i j hi U O
theorem z171 {l:List ID} (h:BH l=true) {i j:Nat} (hi:i<l.length) (O:j<l.length) (e:l[i]=l[j]):i=j:=by
 rcases Nat.lt_trichotomy i j with c | c | c
 ·have:=G1 h hi O c; rw[e] at this; omega
 ·exact c
 ·have:=G1 h O hi c; rw[e] at this; omega
theorem KV {l:List ID} (h:BH l=true):l.Nodup:=by
 have:=(GA l).1 h
 exact this.imp λ{a b} O e=>by rw[e] at O; omega
theorem KW {l:List ID} (h:BH l=true) {k:Nat} (O:k<l.length):l.idxOf l[k]=k:=by
 have U:l.idxOf l[k]<l.length:=List.idxOf_lt_length_of_mem (List.getElem_mem O);exact z171 h U O (by simp)
theorem V4 (s e:Nat) (h:s+e<9223372036854775807):w64 ((Ce (UInt64.ofInt (w64 ((s:Int)+(e:Int)))) 1).toNat:Int)=(((s+e) / 2:Nat):Int):=by
 rw[B6 (x:=(s:Int)+(e:Int)) (by omega) (by omega), show ((s:Int)+(e:Int))=((s+e:Nat):Int) by omega,JS,ES (by omega)];rw[show min 1 64=1 from rfl,Nat.pow_one,B6 (by omega) (by omega)]
theorem z194 (l:List ID) (hl:l.length<=4611686018427387903) (hi:BH l=true) (x:ID):∃ b:Int,iter (I1 l x) (0,(l.length:Int))=some b/\∃ k:Nat,b=(k:Int)/\k<=l.length/\(∀ i (h:i<l.length),i<k->kd l[i]<kd x)/\(∀ i (h:i<l.length),k<=i->kd x<=kd l[i]):=by
 refine FS (F:=I1 l x)
  (λst=>∃ s e:Nat,st=((s:Int),(e:Int))/\s<=e/\e<=l.length/\(∀ i (h:i<l.length),i<s->kd l[i]<kd x)/\(∀ i (h:i<l.length),e<=i->kd x<=kd l[i]))
  (λst=>st.2.toNat - st.1.toNat) _ ?_ _ ⟨0,l.length,rfl, by omega, by omega, λi _ h=>by omega, λi h h2=>by omega⟩
 rintro st ⟨s,e,rfl,h1,h2,h3,h4⟩
 by_cases O:s<e
 ·right
  have hm:(s+e) / 2<l.length:=by omega
  have hF:I1 l x ((s:Int),(e:Int))=if decide (kd l[(s+e) / 2]<kd x) then some (.inr ((((s+e) / 2+1:Nat):Int),(e:Int))) else some (.inr ((s:Int),(((s+e) / 2:Nat):Int))):=by
   unfold I1;simp only[];rw[if_pos (by simpa using O),V4 _ _ (by omega)];simp only[bS];rw[Ax hm];simp only[bS];rw[My];simp only[bS];rw[JZ,AL (show (s+e) / 2<9223372036854775807 by omega)]
  by_cases hc:kd l[(s+e) / 2]<kd x
  ·rw[decide_eq_true hc,if_pos rfl] at hF;refine⟨_,hF,⟨(s+e) / 2+1,e,rfl, by omega,h2, λi h U=>?_,h4⟩, by simp; omega⟩;by_cases he:i=(s+e) / 2
   ·subst he; exact hc
   ·have:=G1 hi h hm (by omega); omega
  ·rw[decide_eq_false hc,if_neg (by simp)] at hF;refine⟨_,hF,⟨s,(s+e) / 2,rfl, by omega, by omega,h3, λi h U=>?_⟩, by simp; omega⟩;by_cases he:i=(s+e) / 2
   ·subst he; omega
   ·have:=G1 hi hm h (by omega); omega
 ·left
  refine⟨(s:Int),?_,s,rfl, by omega,h3, λi h U=>h4 i h (by omega)⟩;unfold I1;simp only[];rw[if_neg (by simpa using O)]
theorem V5 (l:List ID) (hl:l.length<=4611686018427387903) (hi:BH l=true) (x:ID):∃ k:Nat,JI l x=some ((k:Int),decide (x∈l))/\(x∈l->k=l.idxOf x/\k<l.length)/\k<=l.length:=by
 obtain⟨b,h1,k,rfl,h2,h3,h4⟩:=z194 l hl hi x;unfold JI;simp only[bS];rw[h1];simp only[bS];have O:x∈l->∃ h:k<l.length,l[k]=x:=λU=>by
  obtain⟨i,a6,rfl⟩:=List.getElem_of_mem U;have a1:¬ i<k:=λc=>by have:=h3 i a6 c; omega
  by_cases a2:k=i
  ·subst a2; exact⟨a6,rfl⟩
  ·have hk:k<l.length:=by omega
   have:=h4 k hk (Nat.le_refl _)
   have:=G1 hi hk a6 (by omega)
   omega
 by_cases hk:k<l.length
 ·rw[if_pos (by simpa using hk),Ax hk];simp only[bS];rw[My];simp only[bS];rw[z1do];refine⟨k,?_, λU=>?_, by omega⟩
  ·have:decide (l[k]=x)=decide (x∈l):=by
    rw[decide_eq_decide];exact⟨λe=>e ▸ List.getElem_mem hk, λU=>(O U).2⟩
   rw[this]
  ·obtain⟨h,e⟩:=O U;subst e;exact⟨(KW hi h).symm,h⟩
 ·rw[if_neg (by simpa using hk)];refine⟨k,?_, λU=>absurd (O U).1 hk, by omega⟩;rw[decide_eq_false λU=>hk (O U).1]
theorem zxy (g:Ao) (O:g.IDs.length<=4611686018427387903) (hi:BH g.IDs=true) (x:ID):∃ k:Nat,Mm g x=some ((k:Int),decide (x∈g.IDs))/\(x∈g.IDs->k=g.IDs.idxOf x/\k<g.IDs.length)/\k<=g.IDs.length:=by
 obtain⟨k,U,h2,h3⟩:=V5 g.IDs O hi x;refine⟨k,?_,h2,h3⟩;unfold Mm;rw[U];simp only[bS]
theorem V6 (l:List ID) (x:ID) (hl:l.length<=9223372036854775806):∀ (rest pre:List ID),l=pre++rest->∃ r:Sum Int Unit,iter (FQ l x) (pre.length:Int)=some r/\((r=.inr ()/\x∉rest)\/∃ i:Nat,r=.inl (i:Int)/\∃ h:i<l.length,l[i]=x)
 | [],pre,e=>by
  refine⟨_,B2 ?_,.inl ⟨rfl, by simp⟩⟩;subst e;unfold FQ;rw[if_neg (by simp)]
 | c::rest,pre,e=>by
  have O:pre.length<l.length:=by rw[e]; simp
  have U:l[pre.length]'O=c:=by subst e; simp
  have hF:FQ l x (pre.length:Int)=if decide (c=x) then some (.inl (.inl (pre.length:Int))) else some (.inr ((pre.length+1:Nat):Int)):=by
   unfold FQ;rw[if_pos (by simpa using O),Ax O,U,AL (by omega)];simp only[bS]
  by_cases hc:c=x
  ·rw[decide_eq_true hc,if_pos rfl] at hF;exact⟨_,B2 hF,.inr ⟨pre.length,rfl,O, by rw[U,hc]⟩⟩
  ·rw[decide_eq_false hc,if_neg (by simp)] at hF;obtain⟨r,h1,h2⟩:=V6 l x hl rest (pre++[c]) (by simp[e]);simp only[List.length_append,List.length_cons,List.length_nil,Nat.zero_add] at h1;refine⟨r, by rw[Bl hF]; exact h1,?_⟩;rcases h2 with ⟨h2,h3⟩ | h2
   ·exact .inl ⟨h2, by simp; exact⟨λe=>hc e.symm,h3⟩⟩
   ·exact .inr h2
theorem V7 (l:List ID) (x:ID) (U:l.length<=9223372036854775806):∃ k:Int,EK l x=some k/\((k = -1/\x∉l)\/∃ i:Nat,k=(i:Int)/\∃ h:i<l.length,l[i]=x):=by
 obtain⟨r,h1,h2⟩:=V6 l x U l [] rfl;unfold EK;rw[show (0:Int)=(([]:List ID).length:Int) from rfl,h1];rcases h2 with ⟨rfl,O⟩ | ⟨i,rfl,O⟩
 ·exact⟨-1,rfl,.inl ⟨rfl,O⟩⟩
 ·exact⟨(i:Int),rfl,.inr ⟨i,rfl,O⟩⟩
theorem z1bv (l:List ID) (x:ID) (U:l.length<=9223372036854775806):∃ k:Int,EK l x=some k/\decide (k<0)=!decide (x∈l):=by
 obtain⟨k,h1,O⟩:=V7 l x U;refine⟨k,h1,?_⟩;rcases O with ⟨rfl,O⟩ | ⟨i,rfl,h,rfl⟩
 ·rw[decide_eq_false O]; rfl
 ·rw[decide_eq_true (List.getElem_mem h),decide_eq_false (by omega)]; rfl
theorem V8 (l:List ID) (p:List ID) (hl:l.length<=9223372036854775806) (hp:p.length<=9223372036854775806):∀ (rest pre:List ID),p=pre++rest->iter (JL l p) (pre.length:Int)=some (if rest.all (λx=>decide (x∈l)) then .inr () else .inl false)
 | [],pre,e=>by
  refine B2 ?_;subst e;unfold JL
  simp
 | c::rest,pre,e=>by
  have O:pre.length<p.length:=by rw[e]; simp
  have a1:p[pre.length]'O=c:=by subst e; simp
  obtain⟨k,k1,k2⟩:=z1bv l c hl;have hF:JL l p (pre.length:Int)=if decide (c∈l) then some (.inr ((pre.length+1:Nat):Int)) else some (.inl (.inl false)):=by
   unfold JL;rw[if_pos (by simpa using O),Ax O,a1,AL (by omega)];simp only[bS];rw[k1];simp only[bS];rw[k2]
   cases decide (c∈l) <;> rfl
  cases U:decide (c∈l) with
  | false=>rw[U] at hF; rw[B2 hF,List.all_cons,U]; rfl
  | true =>
   rw[U] at hF;rw[Bl hF];have ih:=V8 l p hl hp rest (pre++[c]) (by simp[e]);simp only[List.length_append,List.length_cons,List.length_nil,Nat.zero_add] at ih;rw[ih,List.all_cons,U,Bool.true_and]
theorem Q6 (l p:List ID) (O:l.length<=9223372036854775806) (U:p.length<=9223372036854775806):ER l p=some (p.all λx=>decide (x∈l)):=by
 have h:=V8 l p O U p [] rfl;unfold ER;rw[show (0:Int)=(([]:List ID).length:Int) from rfl,h]
 cases p.all λx=>decide (x∈l) <;> rfl
theorem z17o (g:Ao) (hl:g.IDs.length<=9223372036854775807):Bc (ρ:=Int) (iter (Hi g) 1)=λk=>if BH g.IDs then k () else some 32:=by
 have key:∀ (n i:Nat),g.IDs.length - i=n->1<=i->i<=g.IDs.length->iter (Hi g) (i:Int)=some (if BH (g.IDs.drop (i - 1)) then .inr () else .inl 32):=by
  intro n
  induction n with
  | zero =>
   intro i hn h1 hi;have h:=PB g.IDs hl 0 i hn h1 hi;have e:g.IDs.drop (i - 1)=[g.IDs[i - 1]'(by omega)]:=by
    rw[List.drop_eq_getElem_cons (by omega),List.drop_eq_nil_of_le (by omega)]
   rw[e];refine B2 ?_;unfold Hi;rw[if_neg (by simp; omega)];simp[BH]
  | succ n ih =>
   intro i hn h1 hi;have O:i<g.IDs.length:=by omega
   have e:g.IDs.drop (i - 1)=g.IDs[i - 1]::g.IDs[i]::g.IDs.drop (i+1):=by
    rw[List.drop_eq_getElem_cons (by omega), show i - 1+1=i by omega,List.drop_eq_getElem_cons O]
   have e':g.IDs.drop (i+1 - 1)=g.IDs[i]::g.IDs.drop (i+1):=by rw[Nat.add_sub_cancel,List.drop_eq_getElem_cons O]
   have hF:Hi g (i:Int)=if decide (0<=Lib.compareBytes (g.IDs[i - 1]).toList (g.IDs[i]).toList) then some (.inl (.inl 32)) else some (.inr ((i+1:Nat):Int)):=by
    unfold Hi;rw[if_pos (by simp; omega),B6 (by omega) (by omega), show ((i:Int) - 1)=((i - 1:Nat):Int) by omega];simp only[Ax O,Ax (show i - 1<g.IDs.length by omega),bs,PA,AL (show i<9223372036854775807 by omega)]
   rw[e,BH]
   cases hc:decide (0<=Lib.compareBytes (g.IDs[i - 1]).toList (g.IDs[i]).toList) with
   | true=>rw[hc] at hF; rw[B2 hF]; rfl
   | false =>
    rw[hc] at hF;rw[Bl hF,ih (i+1) (by omega) (by omega) (by omega),e']; simp
 funext k
 by_cases h0:g.IDs.length=0
 ·have U:g.IDs=[]:=List.length_eq_zero_iff.1 h0;rw[B2 (b:=.inr ())]
  ·rw[U]; rfl
  ·unfold Hi;rw[if_neg (by simp; omega)]
 ·rw[show (1:Int)=((1:Nat):Int) from rfl,key (g.IDs.length - 1) 1 rfl (by omega) (by omega),Nat.sub_self,List.drop_zero]
  cases BH g.IDs <;> rfl
end
section
def il (l:List Nat):List Int:=l.map λk:Nat=>(k:Int)
theorem Ei (l:List Nat):(il l).length=l.length:=by simp[il]
theorem Q7 {l:List Nat} {i:Nat} (h:i<l.length):idx (il l) (i:Int)=some (l[i]:Int):=by
 rw[Ax (by rw[Ei]; exact h)]; simp[il]
theorem O5 (l m:List Nat):il (l++m)=il l++il m:=by simp[il]
def tab {α:Type} (n:Nat) (f:Nat->α):List α:=(List.range n).map f
theorem KX {α:Type} (n:Nat) (f:Nat->α):(tab n f).length=n:=by simp[tab]
theorem Q8 {α:Type} {n:Nat} {f:Nat->α} {i:Nat} (h:i<(tab n f).length):(tab n f)[i]=f i:=by simp[tab]
theorem Ej {α:Type} {n:Nat} {f:Nat->α} {i:Nat} (h:i<n):idx (tab n f) (i:Int)=some (f i):=by
 rw[Ax (by rw[KX]; exact h),Q8]
theorem G2 {α:Type} {n:Nat} {f g:Nat->α} {i:Nat} {x:α} (hi:i<n) (U:g i=x) (h2:∀ j,j<n->j≠i->g j=f j):(tab n f).set i x=tab n g:=by
 apply List.ext_getElem
 ·simp[KX]
 ·intro j a1 O;rw[List.getElem_set,Q8,Q8];rw[KX] at O
  split
  ·rename_i e; subst e; exact U.symm
  ·rename_i e; exact(h2 j O (λc=>e c.symm)).symm
theorem Hy {α:Type} {n:Nat} {f g:Nat->α} (h:∀ j,j<n->f j=g j):tab n f=tab n g:=by
 unfold tab;exact List.map_congr_left λj O=>h j (by simpa using O)
theorem Hz {α:Type} (n:Nat) (x:α):List.replicate n x=tab n (λ_=>x):=by
 apply List.ext_getElem
 ·simp[tab]
 ·intro j h1 h2; simp[tab]
def DM (g:Ao) (i:Nat):List ID:=match g.Ops[i]? with | some o=>o.Preds | none=>[]
theorem Ek {g:Ao} {i:Nat} (h:i<g.Ops.length):DM g i=(g.Ops[i]).Preds:=by unfold DM; rw[List.getElem?_eq_getElem h]
def B3 (g:Ao) (i:Nat):List Nat:=(DM g i).map λx=>g.IDs.idxOf x
structure Db (g:Ao):Prop where
 len:g.Ops.length<=60
 ids:g.IDs.length=g.Ops.length
 ri:BH g.IDs=true
 op:∀ i (h:i<g.Ops.length),(g.Ops[i]).Preds.length<=4/\BH (g.Ops[i]).Preds=true
variable {g:Ao}
theorem Db.four (E:Db g) (i:Nat):(DM g i).length<=4:=by
 unfold DM;by_cases h:i<g.Ops.length
 ·rw[List.getElem?_eq_getElem h]; exact(E.op i h).1
 ·rw[List.getElem?_eq_none (by omega)]; simp
theorem Db.nodup (E:Db g) (i:Nat):(DM g i).Nodup:=by
 unfold DM;by_cases h:i<g.Ops.length
 ·rw[List.getElem?_eq_getElem h]; exact KV (E.op i h).2
 ·rw[List.getElem?_eq_none (by omega)]; simp
theorem V9 {l:List ID} {x y:ID} (O:x∈l) (h:l.idxOf y=l.idxOf x):y=x:=by
 have U:l.idxOf x<l.length:=List.idxOf_lt_length_of_mem O;have h2:l.idxOf y<l.length:=by omega
 have e1:l[l.idxOf x]'U=x:=by simp
 have e2:l[l.idxOf y]'h2=y:=by simp
 rw[<- e1,<- e2]; congr 1
def E0 (g:Ao) (i x:Nat):List Nat:=(List.range i).filter λk=>decide (x∈B3 g k)
theorem z136 (g:Ao) (i x:Nat):(E0 g i x).length<=i:=by
 have:=List.length_filter_le (λk=>decide (x∈B3 g k)) (List.range i)
 unfold E0; simpa using this
def El (g:Ao) (i j x:Nat):List Nat:=E0 g i x++(if x∈(B3 g i).take j then [i] else [])
theorem z117 (g:Ao) (i x:Nat):E0 g (i+1) x=El g i (B3 g i).length x:=by
 unfold E0 El;rw[List.range_succ,List.filter_append,List.take_length];by_cases h:x∈B3 g i
 ·rw[if_pos h]; simp[E0,h]
 ·rw[if_neg h]; simp[E0,h]
theorem z110 (g:Ao) (i x:Nat):El g i 0 x=E0 g i x:=by unfold El; simp
theorem Va (E:Db g) {i:Nat} (hi:i<g.Ops.length) (s:(List Int) × (List (List Int)) × (List Int) × Int) (hs:s.2.2.2=(i:Int)):∀ (rest pre:List ID),g.Ops[i].Preds=pre++rest ->
  iter (I2 g s g.Ops[i]) (tab g.Ops.length (λx=>il (El g i pre.length x)),(pre.length:Int))=some (if rest.all (λx=>decide (x∈g.IDs)) then .inr (tab g.Ops.length λx=>il (El g i (B3 g i).length x)) else .inl (.inl (.inl 40)))
 | [],pre,e=>by
  refine B2 ?_;unfold I2
  have:(B3 g i).length=pre.length:=by unfold B3; rw[Ek hi,e]; simp
  rw[if_neg (by rw[e]; simp),this]
  rfl
 | c::rest,pre,e=>by
  have h4:=(E.op i hi).1;have hn:=E.nodup i;rw[Ek hi] at hn;have O:pre.length<g.Ops[i].Preds.length:=by rw[e]; simp
  have U:g.Ops[i].Preds[pre.length]'O=c:=by simp[e]
  have a7:(B3 g i).length=g.Ops[i].Preds.length:=by unfold B3; rw[Ek hi]; simp
  have a1:(B3 g i)[pre.length]'(by omega)=g.IDs.idxOf c:=by
   unfold B3;simp only[Ek hi,List.getElem_map,U]
  obtain⟨k,f1,f2,f3⟩:=zxy g (by have:=E.ids; have:=E.len; omega) E.ri c;rw[List.all_cons];by_cases hc:c∈g.IDs
  ·rw[decide_eq_true hc,Bool.true_and];obtain⟨rfl,hk⟩:=f2 hc;rw[E.ids] at hk;have a8:=z136 g i (g.IDs.idxOf c);have aa:(El g i pre.length (g.IDs.idxOf c)).length<=i+1:=by
    unfold El; rw[List.length_append]; split <;> simp <;> omega
   have a2:(tab g.Ops.length (λx=>il (El g i pre.length x))).set (g.IDs.idxOf c) (il (El g i pre.length (g.IDs.idxOf c))++[(i:Int)])=tab g.Ops.length (λx=>il (El g i (pre.length+1) x)):=by
    refine G2 hk ?_ λx hx a6=>?_
    ·have h1:¬ g.IDs.idxOf c∈(B3 g i).take pre.length:=by
      intro hm;have e5:(B3 g i).take pre.length=pre.map λx=>g.IDs.idxOf x:=by
       unfold B3;rw[Ek hi,e,List.map_append,List.take_left' (by simp)]
      rw[e5,List.mem_map] at hm;obtain⟨y,hy,e6⟩:=hm
      have:=V9 hc e6
      subst this;rw[e,List.nodup_append] at hn;exact hn.2.2 y hy y (by simp) rfl
     have h2:g.IDs.idxOf c∈(B3 g i).take (pre.length+1):=by
      rw[List.take_add_one,List.getElem?_eq_getElem (by omega),a1]; simp
     unfold El;rw[if_pos h2,if_neg h1]; simp[il]
    ·have:(x∈(B3 g i).take (pre.length+1))↔(x∈(B3 g i).take pre.length):=by
      rw[List.take_add_one,List.getElem?_eq_getElem (by omega),a1];simp[a6]
     unfold El;simp only[this]
   have hF:I2 g s g.Ops[i] (tab g.Ops.length (λx=>il (El g i pre.length x)),(pre.length:Int))=some (.inr (tab g.Ops.length (λx=>il (El g i (pre.length+1) x)),((pre.length+1:Nat):Int))):=by
    have hlen2:=E.len;unfold I2;rw[if_pos (by simpa using O)];simp only[];rw[Ax O,U];simp only[bS];rw[f1];simp only[bS];rw[decide_eq_true hc,if_neg (by simp),Ej hk];simp only[bS];rw[hs,B1 (by rw[Ei]; simp; omega),AL (by omega)];simp only[bS,Int.toNat_natCast];rw[a2]
   rw[Bl hF];have ih:=Va E hi s hs rest (pre++[c]) (by simp[e]);simp only[List.length_append,List.length_cons,List.length_nil,Nat.zero_add] at ih;exact ih
  ·rw[decide_eq_false hc];refine B2 ?_;unfold I2;rw[if_pos (by simpa using O)];simp only[];rw[Ax O,U];simp only[bS];rw[f1];simp only[bS];rw[decide_eq_false hc]; rfl
def Ez (g:Ao):Bool:=g.Ops.all λo=>o.Preds.all λx=>decide (x∈g.IDs)
def Em (g:Ao) (i x:Nat):Int:=if x<i then ((B3 g x).length:Int) else 0
def ready (g:Ao) (i:Nat):List Nat:=(List.range i).filter λk=>decide ((B3 g k).length=0)
theorem z125 (g:Ao) (i:Nat):(ready g i).length<=i:=by
 have:=List.length_filter_le (λk=>decide ((B3 g k).length=0)) (List.range i)
 unfold ready; simpa using this
theorem Vb (E:Db g):∀ (rest pre:List Ab),g.Ops=pre++rest ->
  iter (I3 g) (tab g.Ops.length (Em g pre.length),tab g.Ops.length (λx=>il (E0 g pre.length x)),il (ready g pre.length),(pre.length:Int)) =
   some (if rest.all (λo=>o.Preds.all λx=>decide (x∈g.IDs)) then .inr (tab g.Ops.length (Em g g.Ops.length),tab g.Ops.length (λx=>il (E0 g g.Ops.length x)),il (ready g g.Ops.length)) else .inl 40)
 | [],pre,e=>by
  refine B2 ?_;have hl:g.Ops.length=pre.length:=by rw[e]; simp
  unfold I3;rw[if_neg (by simp; omega),hl];rfl
 | o::rest,pre,e=>by
  have hlen2:=E.len;have O:pre.length<g.Ops.length:=by rw[e]; simp
  have U:g.Ops[pre.length]'O=o:=by simp[e]
  have h4:=Va E O (tab g.Ops.length (Em g pre.length),tab g.Ops.length (λx=>il (E0 g pre.length x)),il (ready g pre.length),(pre.length:Int)) rfl o.Preds [] (by rw[U]; rfl);rw[U] at h4;simp only[List.length_nil,z110] at h4;have a1:(B3 g pre.length).length=o.Preds.length:=by unfold B3; rw[Ek O,U]; simp
  rw[List.all_cons]
  cases hc:o.Preds.all λx=>decide (x∈g.IDs) with
  | false =>
   rw[hc] at h4;refine B2 ?_;unfold I3;rw[if_pos (by simpa using O)];simp only[];rw[Ax O,U];simp only[bS];rw[show (0:Int)=((0:Nat):Int) from rfl,h4];rfl
  | true =>
   rw[hc] at h4;rw[Bool.true_and];have a6:(tab g.Ops.length (Em g pre.length)).set pre.length (o.Preds.length:Int)=tab g.Ops.length (Em g (pre.length+1)):=by
    refine G2 O ?_ λx hx a7=>?_
    ·unfold Em; rw[if_pos (by omega),a1]
    ·unfold Em;by_cases h:x<pre.length
     ·rw[if_pos h,if_pos (by omega)]
     ·rw[if_neg h,if_neg (by omega)]
   have a8:=z125 g pre.length;have hready:il (ready g (pre.length+1))=if (o.Preds.length:Int)==0 then il (ready g pre.length)++[(pre.length:Int)] else il (ready g pre.length):=by
    unfold ready;rw[List.range_succ,List.filter_append,O5];by_cases h:o.Preds.length=0
    ·have hd:decide ((B3 g pre.length).length=0)=true:=decide_eq_true (by rw[a1]; exact h);rw[if_pos (by simpa using h),List.filter_cons_of_pos (p:=λk=>decide ((B3 g k).length=0)) hd]; rfl
    ·have hd:¬ decide ((B3 g pre.length).length=0)=true:=by rw[decide_eq_true_iff,a1]; exact h
     rw[if_neg (by simpa using h),List.filter_cons_of_neg (p:=λk=>decide ((B3 g k).length=0)) hd]; simp[il]
   have a2:(λx=>il (El g pre.length (B3 g pre.length).length x))=λx=>il (E0 g (pre.length+1) x):=by
    funext x; rw[z117]
   rw[a2] at h4;have hF:I3 g (tab g.Ops.length (Em g pre.length),tab g.Ops.length (λx=>il (E0 g pre.length x)),il (ready g pre.length),(pre.length:Int))=some (.inr (tab g.Ops.length (Em g (pre.length+1)),tab g.Ops.length (λx=>il (E0 g (pre.length+1) x)),il (ready g (pre.length+1)),((pre.length+1:Nat):Int))):=by
    unfold I3;rw[if_pos (by simpa using O)];simp only[];rw[Ax O,U];simp only[bS];rw[show (0:Int)=((0:Nat):Int) from rfl,h4];simp only[if_true,DL];rw[Ej O];simp only[bS,Int.toNat_natCast];rw[a6,Ej O];simp only[bS];have e5:Em g (pre.length+1) pre.length=(o.Preds.length:Int):=by unfold Em; rw[if_pos (by omega),a1]
    rw[e5,hready,AL (by omega)];by_cases h:o.Preds.length=0
    ·rw[if_pos (by simpa using h),if_pos (by simpa using h),B1 (by rw[Ei]; simp; omega)];simp only[bS]
    ·rw[if_neg (by simpa using h),if_neg (by simpa using h)]
   rw[Bl hF];have ih:=Vb E rest (pre++[o]) (by simp[e]);simp only[List.length_append,List.length_cons,List.length_nil,Nat.zero_add] at ih;exact ih
theorem Vc (E:Db g):∀ (rest pre:List Ab),g.Ops=pre++rest ->
  iter (JM g) (pre.length:Int)=some (if rest.all (λo=>o.Preds.all λx=>decide (x∈g.IDs)) then .inr () else .inl 40)
 | [],pre,e=>by
  refine B2 ?_;unfold JM;rw[if_neg (by rw[e]; simp)]; rfl
 | o::rest,pre,e=>by
  have hlen2:=E.len;have O:pre.length<g.Ops.length:=by rw[e]; simp
  have U:g.Ops[pre.length]'O=o:=by simp[e]
  have h4:=(E.op _ O).1;rw[U] at h4;have hF:JM g (pre.length:Int)=if (o.Preds.all λx=>decide (x∈g.IDs)) then some (.inr ((pre.length+1:Nat):Int)) else some (.inl (.inl 40)):=by
   unfold JM;rw[if_pos (by simpa using O),Ax O,U];simp only[bS];rw[Q6 _ _ (by have:=E.ids; omega) (by omega),AL (by omega)];simp only[bS]
   cases o.Preds.all λx=>decide (x∈g.IDs) <;> rfl
  rw[List.all_cons]
  cases hc:o.Preds.all λx=>decide (x∈g.IDs) with
  | false=>rw[hc] at hF; rw[B2 hF]; rfl
  | true =>
   rw[hc] at hF;rw[Bl hF];have ih:=Vc E rest (pre++[o]) (by simp[e]);simp only[List.length_append,List.length_cons,List.length_nil,Nat.zero_add] at ih;rw[ih,Bool.true_and]
end
section
theorem IA {α:Type} {l:List α} (h:l.Nodup) {i j:Nat} (hi:i<l.length) (O:j<l.length) (e:l[i]=l[j]):i=j:=by
 rcases Nat.lt_trichotomy i j with c | c | c
 ·exact absurd e (List.pairwise_iff_getElem.1 h i j hi O c)
 ·exact c
 ·exact absurd e.symm (List.pairwise_iff_getElem.1 h j i O hi c)
inductive Wf (P:Nat->List Nat):Nat->Prop
 | mk (i:Nat):(∀ p∈P i,Wf P p)->Wf P i
def cnt (P:Nat->List Nat) (T:List Nat) (i:Nat):Int:=(((P i).filter λp=>!decide (p∈T)).length:Int)
theorem Vd {P:Nat->List Nat} {T:List Nat} {i:Nat}:cnt P T i=0↔∀ p∈P i,p∈T:=by
 unfold cnt
 constructor
 ·intro h p U;have O:((P i).filter λp=>!decide (p∈T))=[]:=List.length_eq_zero_iff.1 (by omega);rw[List.filter_eq_nil_iff] at O
  simpa using O p U
 ·intro h;have O:((P i).filter λp=>!decide (p∈T))=[]:=by
   rw[List.filter_eq_nil_iff];intro p U
   simpa using h p U
  rw[O]; rfl
theorem Ve (P:Nat->List Nat) (i:Nat):cnt P [] i=((P i).length:Int):=by
 unfold cnt;rw[List.filter_eq_self.2 (λa _=>by simp)]
theorem z1c7 (P:Nat->List Nat) (T:List Nat) (i:Nat):cnt P T i<=((P i).length:Int):=by
 unfold cnt
 have:=List.length_filter_le (λp=>!decide (p∈T)) (P i)
 omega
theorem Q9 {T:List Nat} {x:Nat} (hx:x∉T):∀ l:List Nat,l.Nodup->(l.filter λp=>!decide (p∈T)).length=(l.filter λp=>!decide (p∈T++[x])).length+(if x∈l then 1 else 0)
 | [],_=>by simp
 | a::l,h=>by
  have hn:=List.nodup_cons.1 h;have O:=Q9 hx l hn.2;by_cases U:a=x
  ·subst U;rw[if_neg hn.1] at O;rw[if_pos (by simp),List.filter_cons_of_pos (by simpa using hx),List.filter_cons_of_neg (by simp),List.length_cons,O]
  ·have e:(x∈a::l)↔(x∈l):=by
    rw[List.mem_cons]; exact⟨λh=>h.resolve_left λe=>U e.symm,.inr⟩
   by_cases hT:a∈T
   ·rw[List.filter_cons_of_neg (by simp[hT]),List.filter_cons_of_neg (by simp[hT]),O];simp only[e]
   ·rw[List.filter_cons_of_pos (by simp[hT]),List.filter_cons_of_pos (by simp[hT,U]),List.length_cons,List.length_cons,O];simp only[e]; omega
theorem Vf {P:Nat->List Nat} {T:List Nat} {x i:Nat} (O:x∉T) (U:(P i).Nodup) (hi:x∈P i):cnt P T i=cnt P (T++[x]) i+1:=by
 unfold cnt;rw[Q9 O _ U,if_pos hi]; omega
theorem z1ah {P:Nat->List Nat} {T:List Nat} {x i:Nat} (O:x∉T) (U:(P i).Nodup) (hi:x∉P i):cnt P T i=cnt P (T++[x]) i:=by
 unfold cnt;rw[Q9 O _ U,if_neg hi]; omega
structure Qa (P:Nat->List Nat) (n:Nat):Prop where
 n60:n<=60
 nodup:∀ i,(P i).Nodup
 four:∀ i,(P i).length<=4
 lt:∀ i,∀ p∈P i,p<n
def over (P:Nat->List Nat) (n x:Nat):List Nat:=(List.range n).filter λk=>decide (x∈P k)
theorem Vg {P:Nat->List Nat} {n x k:Nat}:k∈over P n x↔k<n/\x∈P k:=by unfold over; simp
theorem z10e (P:Nat->List Nat) (n x:Nat):(over P n x).Nodup:=List.Pairwise.filter _ List.nodup_range
structure Got (P:Nat->List Nat) (n:Nat) (Q:List Nat):Prop where
 nodup:Q.Nodup
 lt:∀ x∈Q,x<n
 wf:∀ x∈Q,Wf P x
theorem Got.len {P:Nat->List Nat} {n:Nat} {Q:List Nat} (h:Got P n Q):Q.length<=n:=by
 have:=FD Q (List.range n) h.nodup λx O=>by simpa using h.lt x O
 simpa using this
variable {P:Nat->List Nat} {n:Nat}
theorem z1d6 (E:Qa P n) (Q:List Nat) (pos:Nat) (hp:pos<Q.length) (hQ:Got P n Q) (hd:∀ i,i<n->(i∈Q↔cnt P (Q.take pos) i=0)) :
  ∃ b:List Int × List Int,iter (I4 (il (over P n Q[pos]))) (tab n (cnt P (Q.take pos)),il Q,0)=some b/\∃ R,b=(tab n (cnt P ((Q++R).take (pos+1))),il (Q++R))/\Got P n (Q++R)/\∀ i,i<n->(i∈Q++R↔cnt P ((Q++R).take (pos+1)) i=0):=by
 have hx:Q[pos]∉Q.take pos:=by
  intro U;obtain⟨j,hj,e⟩:=List.getElem_of_mem U;rw[List.getElem_take] at e;rw[List.length_take] at hj
  have:=IA hQ.nodup _ _ e
  omega
 have aa:∀ R:List Nat,(Q++R).take (pos+1)=Q.take pos++[Q[pos]]:=λR=>by
  rw[List.take_append_of_le_length (by omega),List.take_add_one,List.getElem?_eq_getElem hp]; rfl
 let T:=Q.take pos
 let x:=Q[pos]
 have af:Wf P x:=hQ.wf x (List.getElem_mem hp);have hwT:∀ y∈T,Wf P y:=λy hy=>hQ.wf y (List.mem_of_mem_take hy)
 let c:=λ(j i:Nat)=>if i∈(over P n x).take j then cnt P (T++[x]) i else cnt P T i
 have hc_in:∀ j i,i∈(over P n x).take j->c j i=cnt P (T++[x]) i:=λj i h=>if_pos h;have hc_out:∀ j i,i∉(over P n x).take j->c j i=cnt P T i:=λj i h=>if_neg h;have hcnt2:∀ i,cnt P (T++[x]) i=0->Wf P i:=λi hi=>.mk i λp ah=>by
  have:=Vd.1 hi p ah
  rcases List.mem_append.1 this with h | h
  ·exact hwT p h
  ·rw[List.mem_singleton] at h; subst h; exact af
 have ad:=D9 (F:=I4 (il (over P n x))) (over P n x).length
  (λj st=>∃ R,st=(tab n (c j),il (Q++R),(j:Int))/\Got P n (Q++R)/\∀ i,i<n->(i∈Q++R↔c j i=0))
  (λb=>∃ R,b=(tab n (c (over P n x).length),il (Q++R))/\Got P n (Q++R)/\∀ i,i<n->(i∈Q++R↔c (over P n x).length i=0))
  (λj st hj a2=>by
   obtain⟨R,rfl,hR,U⟩:=a2;have ai:(over P n x)[j]∈over P n x:=List.getElem_mem hj;obtain⟨a1,ab⟩:=Vg.1 ai;have aj:(over P n x)[j]∉(over P n x).take j:=by
    intro U;obtain⟨k,hk,e⟩:=List.getElem_of_mem U;rw[List.getElem_take] at e;rw[List.length_take] at hk
    have:=IA (z10e P n x) _ _ e
    omega
   have ac:c j (over P n x)[j]=cnt P (T++[x]) (over P n x)[j]+1:=by
    rw[hc_out _ _ aj]; exact Vf hx (E.nodup _) ab
   have ao:cnt P T (over P n x)[j]<=4:=by have:=z1c7 P T (over P n x)[j]; have:=E.four (over P n x)[j]; omega
   have h0:0<=cnt P (T++[x]) (over P n x)[j]:=by unfold cnt; omega
   have ap:cnt P T (over P n x)[j]=cnt P (T++[x]) (over P n x)[j]+1:=Vf hx (E.nodup _) ab;have a6:(over P n x)[j]∉Q++R:=by
    rw[U _ a1,ac]; omega
   have hcy1:c (j+1) (over P n x)[j]=cnt P (T++[x]) (over P n x)[j]:=by
    refine hc_in _ _ ?_;rw[List.take_add_one,List.getElem?_eq_getElem hj];exact List.mem_append.2 (.inr (List.mem_singleton.2 rfl))
   have a7:∀ i,i≠(over P n x)[j]->c (j+1) i=c j i:=λi O=>by
    show (if _ then _ else _)=(if _ then _ else _)
    have:(i∈(over P n x).take (j+1))↔(i∈(over P n x).take j):=by
     rw[List.take_add_one,List.getElem?_eq_getElem hj,List.mem_append];exact⟨λh=>h.resolve_right λe=>O (List.mem_singleton.1 e),.inl⟩
    simp only[this]
   have ae:(tab n (c j)).set (over P n x)[j] (cnt P (T++[x]) (over P n x)[j])=tab n (c (j+1)):=G2 a1 hcy1 λi _ O=>a7 i O;have aq:(over P n x).length<=n:=by
    have:=List.length_filter_le (λk=>decide (x∈P k)) (List.range n)
    unfold over; simpa using this
   have ak:=E.n60;have am:=hR.len;have hF:I4 (il (over P n x)) (tab n (c j),il (Q++R),(j:Int))=if cnt P (T++[x]) (over P n x)[j]==0 then some (.inr (tab n (c (j+1)),il (Q++R)++[((over P n x)[j]:Int)],((j+1:Nat):Int))) else some (.inr (tab n (c (j+1)),il (Q++R),((j+1:Nat):Int))):=by
    unfold I4;rw[if_pos (by rw[Ei]; simpa using hj)]
    simp only[];rw[Q7 hj];simp only[bS];rw[Ej a1,ac];simp only[bS];rw[B6 (x:=_ - 1) (by omega) (by omega), show cnt P (T++[x]) (over P n x)[j]+1 - 1=cnt P (T++[x]) (over P n x)[j] by omega];simp only[bS,Int.toNat_natCast];rw[ae,Ej a1,hcy1];simp only[bS];rw[B1 (by rw[Ei]; simp only[List.length_cons,List.length_nil]; omega),AL (by omega)];simp only[bS]
   by_cases hz:cnt P (T++[x]) (over P n x)[j]=0
   ·rw[if_pos (by simpa using hz)] at hF;refine⟨_,hF,R++[(over P n x)[j]],?_,?_,?_⟩
    ·rw[<- List.append_assoc,O5 (Q++R)]; rfl
    ·rw[<- List.append_assoc];refine⟨?_,?_,?_⟩
     ·rw[List.nodup_append]
      exact⟨hR.nodup, by simp, λa ha b hb e=>by
       rw[List.mem_singleton] at hb; subst hb; exact a6 (e ▸ ha)⟩
     ·intro y hy;rcases List.mem_append.1 hy with h | h
      ·exact hR.lt y h
      ·rw[List.mem_singleton] at h; subst h; exact a1
     ·intro y hy;rcases List.mem_append.1 hy with h | h
      ·exact hR.wf y h
      ·rw[List.mem_singleton] at h; subst h; exact hcnt2 _ hz
    ·intro i hi;rw[<- List.append_assoc,List.mem_append,List.mem_singleton];by_cases O:i=(over P n x)[j]
     ·subst O;rw[hcy1];exact⟨λ_=>hz, λ_=>.inr rfl⟩
     ·rw[a7 i O,<- U i hi];exact⟨λh=>h.resolve_right O,.inl⟩
   ·rw[if_neg (by simpa using hz)] at hF;refine⟨_,hF,R,rfl,hR,?_⟩;intro i hi;by_cases O:i=(over P n x)[j]
    ·subst O;rw[hcy1];exact⟨λh=>absurd h a6, λh=>absurd h hz⟩
    ·rw[a7 i O,<- U i hi])
  (λst a2=>by
   obtain⟨R,rfl,hR,U⟩:=a2;refine⟨_,?_,R,rfl,hR,U⟩;unfold I4
   rw[if_neg (by rw[Ei]; simp)])
  (tab n (cnt P T),il Q,((0:Nat):Int)) 0 (Nat.zero_le _) ⟨[], by rw[List.append_nil]; rfl, by rw[List.append_nil]; exact hQ, by rw[List.append_nil]; exact hd⟩
 have a8:∀ i,i<n->c (over P n x).length i=cnt P (T++[x]) i:=λi hi=>by
  by_cases U:i∈over P n x
  ·exact hc_in _ _ (by rw[List.take_length]; exact U)
  ·rw[hc_out _ _ (by rw[List.take_length]; exact U)];exact z1ah hx (E.nodup i) λh=>U (Vg.2 ⟨hi,h⟩)
 obtain⟨b,h1,R,h2,h3,h4⟩:=ad;refine⟨b,h1,R,?_,h3, λi hi=>?_⟩
 ·rw[h2,aa R]
  congr 1
  exact Hy a8
 ·rw[h4 i hi,a8 i hi,aa R]
theorem z1cg (E:Qa P n) (s:List Int × List (List Int) × List Int) (hs:s.2.1=tab n λx=>il (over P n x)):∃ b:Int,iter (JJ s) (tab n (cnt P []),il ((List.range n).filter λk=>decide ((P k).length=0)),0)=some b/\∃ Q:List Nat,b=(Q.length:Int)/\Q.Nodup/\∀ i,i∈Q↔i<n/\Wf P i:=by
 have a6:=E.n60;refine FS (F:=JJ s)
  (λst=>∃ (Q:List Nat) (pos:Nat),st=(tab n (cnt P (Q.take pos)),il Q,(pos:Int))/\pos<=Q.length/\Got P n Q/\∀ i,i<n->(i∈Q↔cnt P (Q.take pos) i=0))
  (λst=>n - st.2.2.toNat) _ ?_ _ ⟨(List.range n).filter λk=>decide ((P k).length=0),0, by rw[List.take_zero]; rfl,Nat.zero_le _,?_,?_⟩
 ·rintro st ⟨Q,pos,rfl,h1,h2,h3⟩
  have a7:=h2.len;by_cases O:pos<Q.length
  ·right
   obtain⟨b,e1,R,rfl,e3,e4⟩:=z1d6 E Q pos O h2 h3;have U:=h2.lt _ (List.getElem_mem O);refine⟨_,?_,⟨Q++R,pos+1,rfl, by rw[List.length_append]; omega,e3,e4⟩,?_⟩
   ·unfold JJ;rw[if_pos (by rw[Ei]; simpa using O)]
    simp only[];rw[Q7 O,hs];simp only[bS];rw[Ej U];simp only[bS];rw[e1,AL (by omega)];simp only[bS]
   ·simp only[Int.toNat_natCast]; omega
  ·left
   have a2:pos=Q.length:=by omega
   subst a2;refine⟨(Q.length:Int),?_,Q,rfl,h2.nodup, λi=>⟨λh=>⟨h2.lt i h,h2.wf i h⟩, λh=>?_⟩⟩
   ·unfold JJ;rw[if_neg (by rw[Ei]; simp)]
   ·obtain⟨hi,hw⟩:=h;rw[List.take_length] at h3
    revert hi
    induction hw with
    | mk i a8 ih =>
     intro hi;rw[h3 i hi,Vd];exact λp a1=>ih p a1 (E.lt i p a1)
 ·refine⟨List.Pairwise.filter _ List.nodup_range, λx U=>?_, λx U=>?_⟩
  ·simp only[List.mem_filter,List.mem_range] at U; exact U.1
  ·simp only[List.mem_filter,List.mem_range,decide_eq_true_eq] at U;refine .mk x λp O=>?_;rw[List.length_eq_zero_iff.1 U.2] at O; simp at O
 ·intro i hi;rw[List.take_zero,Ve];simp only[List.mem_filter,List.mem_range,decide_eq_true_eq];omega
end
section
variable {g:Ao}
theorem GM (h:Ez g=true) (i:Nat):∀ x∈DM g i,x∈g.IDs:=by
 unfold DM;by_cases hi:i<g.Ops.length
 ·rw[List.getElem?_eq_getElem hi];unfold Ez at h;rw[List.all_eq_true] at h
  have:=h _ (List.getElem_mem hi)
  rw[List.all_eq_true] at this;exact λx O=>by simpa using this x O
 ·rw[List.getElem?_eq_none (by omega)];exact λx O=>by simp at O
theorem Qb (E:Db g) (h:Ez g=true):Qa (B3 g) g.Ops.length:=by
 refine⟨E.len, λi=>?_, λi=>?_, λi p O=>?_⟩
 ·unfold B3;rw[List.Nodup,List.pairwise_map];exact(E.nodup i).imp_of_mem λ{a b} ha hb U e=>U (V9 (GM h i b hb) e)
 ·unfold B3; rw[List.length_map]; exact E.four i
 ·unfold B3 at O;rw[List.mem_map] at O;obtain⟨x,hx,rfl⟩:=O;rw[<- E.ids];exact List.idxOf_lt_length_of_mem (GM h i x hx)
def B9 (g:Ao) (i:Nat):ID:=match g.IDs[i]? with | some x=>x | none=>V0
theorem Cv {i:Nat} (h:i<g.IDs.length):B9 g i=g.IDs[i]:=by unfold B9; rw[List.getElem?_eq_getElem h]
theorem IB {x:ID} (h:x∈g.IDs):B9 g (g.IDs.idxOf x)=x:=by
 rw[Cv (List.idxOf_lt_length_of_mem h)]; simp
theorem KY (E:Db g) {i:Nat} (h:i<g.Ops.length):g.IDs.idxOf (B9 g i)=i:=by
 have hi:i<g.IDs.length:=by rw[E.ids]; exact h
 rw[Cv hi]; exact KW E.ri hi
theorem Vh (E:Db g) {Q:List Nat} (hQ:∀ x∈Q,x<g.Ops.length) {x:ID} (U:x∈g.IDs):x∈Q.map (B9 g)↔g.IDs.idxOf x∈Q:=by
 rw[List.mem_map]
 constructor
 ·rintro⟨q,O,rfl⟩; rw[KY E (hQ q O)]; exact O
 ·exact λh=>⟨_,h,IB U⟩
theorem z10p (E:Db g) (h:Ez g=true) {Q:List Nat} (hQ:∀ x∈Q,x<g.Ops.length) (i:Nat):((DM g i).all λx=>decide (x∈Q.map (B9 g)))=decide (∀ p∈B3 g i,p∈Q):=by
 rw[Bool.eq_iff_iff,List.all_eq_true,decide_eq_true_iff];unfold B3
 constructor
 ·intro O p U;rw[List.mem_map] at U;obtain⟨x,a1,rfl⟩:=U;exact(Vh E hQ (GM h i x a1)).1 (by simpa using O x a1)
 ·intro U x O;rw[decide_eq_true_iff];exact(Vh E hQ (GM h i x O)).2 (U _ (List.mem_map.2 ⟨x,O,rfl⟩))
def Topo (P:Nat->List Nat) (Q:List Nat):Prop:=∀ k (h:k<Q.length),∀ p∈P Q[k],p∈Q.take k
theorem Topo.snoc {P:Nat->List Nat} {Q:List Nat} {i:Nat} (h:Topo P Q) (hi:∀ p∈P i,p∈Q):Topo P (Q++[i]):=by
 intro k hk p O;by_cases U:k<Q.length
 ·rw[List.getElem_append_left U] at O;rw[List.take_append_of_le_length (by omega)];exact h k U p O
 ·have a1:k=Q.length:=by simp at hk; omega
  subst a1;rw[List.getElem_append_right (by omega)] at O;simp at O;rw[List.take_left' rfl];exact hi p O
def En (g:Ao) (Q:List Nat) (b:Bool):(List Int) × (List ID) × (List Bool) × Bool:=(il Q,Q.map (B9 g),tab g.Ops.length (λi=>decide (i∈Q)),b)
theorem Vi (E:Db g) (h:Ez g=true) (Q:List Nat) (hQ:Got (B3 g) g.Ops.length Q) (hT:Topo (B3 g) Q) :
  ∃ b:Sum (List Int) ((List Int) × (List ID) × (List Bool) × Bool),iter (Hl g (En g Q true)) 0=some b /\
   ((∃ i,b=.inr (En g (Q++[i]) true)/\Got (B3 g) g.Ops.length (Q++[i])/\Topo (B3 g) (Q++[i])/\i<g.Ops.length/\i∉Q/\(∀ p∈B3 g i,p∈Q)/\∀ k,k<i->(∀ p∈B3 g k,p∈Q)->k∈Q)\/(b=.inr (En g Q false)/\∀ i,i<g.Ops.length->(∀ p∈B3 g i,p∈Q)->i∈Q)):=by
 have ab:=E.len;have ac:=hQ.len;refine FS (F:=Hl g (En g Q true)) (λs=>∃ i:Nat,s=(i:Int)/\i<=g.Ops.length/\∀ k,k<i->(∀ p∈B3 g k,p∈Q)->k∈Q) (λs=>g.Ops.length - s.toNat) _ ?_ _ ⟨0,rfl,Nat.zero_le _, λk hk=>by omega⟩
 rintro s ⟨i,rfl,h1,h2⟩
 by_cases hi:i<g.Ops.length
 ·have a2:(idx (tab g.Ops.length λi=>decide (i∈Q)) (i:Int)>>=λO=>if !O then idx g.Ops (i:Int)>>=λU=>ER (Q.map (B9 g)) U.Preds>>=λa1=>some a1 else some false)=some (!decide (i∈Q)&&decide (∀ p∈B3 g i,p∈Q)):=by
   rw[Ej hi];simp only[bS];by_cases hm:i∈Q
   ·rw[decide_eq_true hm]; rfl
   ·rw[decide_eq_false hm,if_pos (by simp),Ax hi];simp only[bS];have h4:=(E.op i hi).1;rw[Q6 _ _ (by rw[List.length_map]; omega) (by omega)];simp only[bS];rw[<- Ek hi,z10p E h hQ.lt]; rfl
  by_cases hm:i∈Q
  ·right
   refine⟨((i+1:Nat):Int),?_,⟨i+1,rfl,hi, λk hk hp=>?_⟩, by simp; omega⟩
   ·unfold Hl;rw[if_pos (by simpa using hi)];show ((idx (tab g.Ops.length λi=>decide (i∈Q)) (i:Int)>>=λO=>if !O then idx g.Ops (i:Int)>>=λU=>ER (Q.map (B9 g)) U.Preds>>=λa1=>some a1 else some false) >>= _)=_;rw[a2,decide_eq_true hm,AL (by omega)];rfl
   ·by_cases a6:k=i
    ·subst a6; exact hm
    ·exact h2 k (by omega) hp
  ·by_cases hp:∀ p∈B3 g i,p∈Q
   ·left
    refine⟨_,?_,.inl ⟨i,rfl,?_,hT.snoc hp,hi,hm,hp,h2⟩⟩
    ·have a7:i<g.IDs.length:=by rw[E.ids]; exact hi
     unfold Hl;rw[if_pos (by simpa using hi)];show ((idx (tab g.Ops.length λi=>decide (i∈Q)) (i:Int)>>=λO=>if !O then idx g.Ops (i:Int)>>=λU=>ER (Q.map (B9 g)) U.Preds>>=λa1=>some a1 else some false) >>= _)=_;rw[a2,decide_eq_false hm,decide_eq_true hp];simp only[bS];rw[if_pos (by simp),Ax a7];simp only[bS];rw[show (En g Q true).1=il Q from rfl, show (En g Q true).2.1=Q.map (B9 g) from rfl, show (En g Q true).2.2.1=tab g.Ops.length (λi=>decide (i∈Q)) from rfl]
     rw[B1 (by rw[Ei]; simp only[List.length_cons,List.length_nil]; omega)];simp only[bS];rw[B1 (by rw[List.length_map]; simp only[List.length_cons,List.length_nil]; omega),Ej hi];simp only[bS,Int.toNat_natCast];rw[G2 (g:=λj=>decide (j∈Q++[i])) hi (by simp) (λj _ hj=>by simp[hj])];unfold En;rw[O5,List.map_append,<- Cv a7];rfl
    ·refine⟨?_,?_,?_⟩
     ·rw[List.nodup_append]
      exact⟨hQ.nodup, by simp, λa ha b hb e=>by
       rw[List.mem_singleton] at hb; subst hb; exact hm (e ▸ ha)⟩
     ·intro y hy;rcases List.mem_append.1 hy with h | h
      ·exact hQ.lt y h
      ·rw[List.mem_singleton] at h; subst h; exact hi
     ·intro y hy;rcases List.mem_append.1 hy with h | h
      ·exact hQ.wf y h
      ·rw[List.mem_singleton] at h; subst h; exact .mk _ λp aa=>hQ.wf p (hp p aa)
   ·right
    refine⟨((i+1:Nat):Int),?_,⟨i+1,rfl,hi, λk hk a8=>?_⟩, by simp; omega⟩
    ·unfold Hl;rw[if_pos (by simpa using hi)];show ((idx (tab g.Ops.length λi=>decide (i∈Q)) (i:Int)>>=λO=>if !O then idx g.Ops (i:Int)>>=λU=>ER (Q.map (B9 g)) U.Preds>>=λa1=>some a1 else some false) >>= _)=_;rw[a2,decide_eq_false hp,AL (by omega),Bool.and_false];rfl
    ·by_cases a6:k=i
     ·subst a6; exact absurd a8 hp
     ·exact h2 k (by omega) a8
 ·left
  have:i=g.Ops.length:=by omega
  subst this;refine⟨_,?_,.inr ⟨rfl,h2⟩⟩;unfold Hl;rw[if_neg (by simp)];rfl
theorem Vj (E:Db g) (h:Ez g=true):∃ Q:List Nat,I5 g=some (il Q)/\Got (B3 g) g.Ops.length Q/\Topo (B3 g) Q/\∀ i,i∈Q↔i<g.Ops.length/\Wf (B3 g) i:=by
 have hP:=Qb E h;have a2:=E.len;have a1:=FS (F:=Hm g)
  (λs=>∃ Q b,s=En g Q b/\Got (B3 g) g.Ops.length Q/\Topo (B3 g) Q/\(b=false->∀ i,i<g.Ops.length->(∀ p∈B3 g i,p∈Q)->i∈Q))
  (λs=>(g.Ops.length - s.1.length)+(if s.2.2.2 then 1 else 0))
  (λr=>∃ Q:List Nat,r=il Q/\Got (B3 g) g.Ops.length Q/\Topo (B3 g) Q/\∀ i,i∈Q↔i<g.Ops.length/\Wf (B3 g) i)
  (λs hs=>by
   obtain⟨Q,b,rfl,O,h2,h3⟩:=hs;have a6:=O.len
   cases b with
   | false =>
    left
    refine⟨il Q,rfl,Q,rfl,O,h2, λi=>⟨λhi=>⟨O.lt i hi,O.wf i hi⟩, λhi=>?_⟩⟩;obtain⟨hi,hw⟩:=hi
    revert hi
    induction hw with
    | mk i a7 ih=>exact λhi=>h3 rfl i hi λp hp=>ih p hp (hP.lt i p hp)
   | true =>
    right
    obtain⟨r,e1,e2⟩:=Vi E h Q O h2;rcases e2 with ⟨i,rfl,U,e4,_⟩ | ⟨rfl,U⟩
    ·refine⟨_,?_,⟨Q++[i],true,rfl,U,e4, by simp⟩,?_⟩
     ·unfold Hm;exact(if_pos rfl).trans e1
     ·have:=U.len
      simp only[En,Ei,List.length_append,List.length_cons,List.length_nil] at this ⊢;omega
    ·refine⟨_,?_,⟨Q,false,rfl,O,h2, λ_=>U⟩,?_⟩
     ·unfold Hm;exact(if_pos rfl).trans e1
     ·simp[En])
  ([],[],List.replicate g.Ops.length false,true) ⟨[],true, by unfold En; rw[Hz]; simp[il],⟨by simp, by simp, by simp⟩, λk hk=>by simp at hk, by simp⟩
 obtain⟨r,e1,Q,rfl,e2,U,e4⟩:=a1;refine⟨Q,?_,e2,U,e4⟩;unfold I5;rw[FT (by omega) (by omega)];simp only[bS];rw[e1];simp only[bS]
theorem Qc {n:Nat} {Q:List Nat} (U:Q.Nodup) (hl:∀ x∈Q,x<n):¬ Q.length<n↔∀ i,i<n->i∈Q:=by
 constructor
 ·intro h i hi;refine Decidable.byContradiction λhm=>?_
  have:=FD (i::Q) (List.range n) (List.nodup_cons.2 ⟨hm,U⟩) λx O=>by
   rcases List.mem_cons.1 O with rfl | O
   ·simpa using hi
   ·simpa using hl x O
  simp at this; omega
 ·intro h
  have:=FD (List.range n) Q List.nodup_range λx O=>h x (by simpa using O)
  simp at this; omega
def Vk (g:Ao):Prop:=∀ i,i<g.Ops.length->Wf (B3 g) i
theorem z15j (hl:g.Ops.length<=60) (hi:g.IDs.length=g.Ops.length) (ho:∀ i (h:i<g.Ops.length),(g.Ops[i]).Preds.length<=4/\BH (g.Ops[i]).Preds=true) :
  ∃ c:Int,Mn g=some c/\Mo g=some c/\(c=0↔BH g.IDs=true/\Ez g=true/\Vk g):=by
 have s0:=z17o g (by omega);unfold Mn Mo;rw[s0,PC _ (by omega)];simp only[bS];by_cases U:BH g.IDs=true
 ·rw[if_pos U,U,if_neg (by simp),FT (by omega) (by omega)];simp only[bS];rw[FT (by omega) (by omega)];simp only[bS];have E:Db g:=⟨hl,hi,U,ho⟩
  have h2:=Vb E g.Ops [] rfl;have h3:=Vc E g.Ops [] rfl;have i1:tab g.Ops.length (Em g 0)=List.replicate g.Ops.length 0:=by
   rw[Hz]; exact Hy λj _=>by unfold Em; rw[if_neg (by omega)]
  have i2:tab g.Ops.length (λx=>il (E0 g 0 x))=List.replicate g.Ops.length []:=by
   rw[Hz]; exact Hy λj _=>by unfold E0; simp[il]
  have i3:il (ready g 0)=[]:=by unfold ready; simp[il]
  simp only[List.length_nil] at h2 h3;rw[i1,i2,i3] at h2;rw[show (0:Int)=((0:Nat):Int) from rfl] at *;rw[h2,h3]
  cases ha:g.Ops.all λo=>o.Preds.all λx=>decide (x∈g.IDs) with
  | false=>exact⟨40,rfl,rfl, by simp[Ez,ha]⟩
  | true =>
   have a1:Ez g=true:=ha;obtain⟨Q,q1,q2,q3,q4⟩:=Vj E a1;have hP:=Qb E a1;have i4:tab g.Ops.length (Em g g.Ops.length)=tab g.Ops.length (cnt (B3 g) []):=Hy λj hj=>by
    unfold Em; rw[if_pos hj,Ve]
   obtain⟨b,k1,R,rfl,k2,k3⟩:=z1cg hP (tab g.Ops.length (Em g g.Ops.length),tab g.Ops.length (λx=>il (E0 g g.Ops.length x)),il (ready g g.Ops.length)) rfl;have hRQ:R.length=Q.length:=z11r k2 q2.nodup λx=>by rw[k3,q4]
   simp only[if_true,DL];rw[i4] at k1;rw[i4, show il (ready g g.Ops.length)=il ((List.range g.Ops.length).filter λk=>decide ((B3 g k).length=0)) from rfl] at *;rw[show ((0:Nat):Int)=0 from rfl] at *;rw[k1,q1];simp only[bS];rw[Ei,hRQ];have O:=Qc q2.nodup q2.lt;by_cases hc:Q.length<g.Ops.length
   ·rw[if_pos (by simpa using hc)];refine⟨36,rfl,rfl, by simp, λh=>?_⟩
    have:=O.2 λi hi=>(q4 i).2 ⟨hi,h.2.2 i hi⟩
    exact absurd hc this
   ·rw[if_neg (by simpa using hc)];exact⟨0,rfl,rfl, λ_=>⟨by first | exact U | trivial,a1, λi hi=>((q4 i).1 (O.1 hc i hi)).2⟩, λ_=>rfl⟩
 ·have a2:BH g.IDs=false:=by simpa using U
  rw[if_neg U,a2];exact⟨32,rfl,rfl, by simp[a2]⟩
def Vl (g:Ao):Prop:=∀ i (h:i<g.Ops.length),F2 g.Ops[i]=0/\sha (Dr g.Ops[i])=B9 g i
structure C9 (g:Ao):Prop where
 e:Db g
 ops:Vl g
 ins:Ez g=true
 wf:Vk g
theorem G3 {a:Ab} (h:F2 a=0):BK a=0:=by
 unfold F2 at h;by_cases O:BK a=0
 ·exact O
 ·rw[if_neg O] at h; exact h
theorem z1dp {g:Ao} (h:EL g) {o:Ab} (O:o∈g.Ops):inI o.Act.Value.Num/\o.Act.Value.Text.length<=9223372036854775807:=by
 have:=h.2.1.1 o O
 exact⟨this.2.2.2.1.2.2.1.2.1,this.2.2.2.1.2.2.1.2.2.2.1⟩
def G4 (g:Ao) (i:Nat) (o:Ab):Bool:=decide (F2 o=0)&&decide (sha (Dr o)=B9 g i)
theorem z15q (hw:EL g) (hl:g.Ops.length<=60) (hi:g.IDs.length=g.Ops.length):∀ (k i:Nat),g.Ops.length - i=k->i<=g.Ops.length ->
  ∃ r:Sum Int Unit,iter (JK g) (i:Int)=some r/\iter (JN g) (i:Int)=some r/\((r=.inr ()/\∀ j (h:j<g.Ops.length),i<=j->G4 g j g.Ops[j]=true)\/(r=.inl 8/\∃ j,∃ h:j<g.Ops.length,G4 g j g.Ops[j]=false)):=by
 intro k
 induction k with
 | zero =>
  intro i hk a2;refine⟨.inr (),B2 ?_,B2 ?_,.inl ⟨rfl, λj hj a6=>by omega⟩⟩
  ·unfold JK; rw[if_neg (by simp; omega)]
  ·unfold JN; rw[if_neg (by simp; omega)]
 | succ k ih =>
  intro i hk a2;have U:i<g.Ops.length:=by omega
  have a1:i<g.IDs.length:=by omega
  obtain⟨w1,w2⟩:=z1dp hw (List.getElem_mem U);have e1:JK g (i:Int)=if G4 g i g.Ops[i] then some (.inr ((i+1:Nat):Int)) else some (.inl (.inl 8)):=by
   unfold JK G4;rw[if_pos (by simpa using U),Ax U];simp only[bS];rw[V1 _ w1 w2,AL (by omega)];simp only[bS];by_cases hc:BK g.Ops[i]=0
   ·rw[if_pos hc];simp only[];rw[if_neg (by simp),Ax a1,<- Cv a1];simp only[bS];by_cases hs:sha (Dr g.Ops[i])=B9 g i
    ·rw[decide_eq_true hs,if_neg (by simp),zyc _ w1 w2];simp only[bS];by_cases O:F2 g.Ops[i]=0
     ·rw[O]; rfl
     ·rw[if_pos (by simpa using O),decide_eq_false O]; rfl
    ·rw[decide_eq_false hs,Bool.and_false]; rfl
   ·have O:F2 g.Ops[i]≠0:=λh=>hc (G3 h);rw[if_neg hc,decide_eq_false O];simp only[];rw[if_pos (by simpa using hc)]; rfl
  have e2:JN g (i:Int)=if G4 g i g.Ops[i] then some (.inr ((i+1:Nat):Int)) else some (.inl (.inl 8)):=by
   unfold JN G4;rw[if_pos (by simpa using U),Ax U];simp only[bS];rw[zui _ w1 w2,AL (by omega)];simp only[bS];by_cases O:F2 g.Ops[i]=0
   ·rw[O,if_neg (by simp),Ax a1,<- Cv a1,V2 _ (G3 O) w1];simp only[bS];by_cases hs:sha (Dr g.Ops[i])=B9 g i
    ·rw[decide_eq_true hs]; rfl
    ·rw[decide_eq_false hs]; rfl
   ·rw[if_pos (by simpa using O),decide_eq_false O]; rfl
  cases hg:G4 g i g.Ops[i] with
  | false =>
   rw[hg] at e1 e2;exact⟨_,B2 e1,B2 e2,.inr ⟨rfl,i,U,hg⟩⟩
  | true =>
   rw[hg] at e1 e2;obtain⟨r,h1,h2,h3⟩:=ih (i+1) (by omega) (by omega);refine⟨r, by rw[Bl e1]; exact h1, by rw[Bl e2]; exact h2,?_⟩;rcases h3 with ⟨h3,h4⟩ | h3
   ·refine .inl ⟨h3, λj hj a6=>?_⟩;by_cases a7:j=i
    ·subst a7; exact hg
    ·exact h4 j hj (by omega)
   ·exact .inr h3
theorem Qd (hw:EL g):∃ c:Int,Dx g=some c/\Ee g=some c/\(c=0↔C9 g):=by
 unfold Dx Ee;by_cases hl:60<g.Ops.length
 ·have d:decide (60<(g.Ops.length:Int))=true:=by simp; omega
  rw[d];exact⟨4,rfl,rfl, by simp, λh=>by have:=h.e.len; omega⟩
 have d:decide (60<(g.Ops.length:Int))=false:=by simp; omega
 simp only[d,Bool.false_eq_true,if_false];by_cases hi:g.IDs.length=g.Ops.length
 ·have d2:((g.IDs.length:Int) != (g.Ops.length:Int))=false:=by simp; omega
  simp only[d2,Bool.false_eq_true,if_false];obtain⟨r,h1,h2,h3⟩:=z15q hw (by omega) hi g.Ops.length 0 rfl (by omega);rw[show (0:Int)=((0:Nat):Int) from rfl,h1,h2];rcases h3 with ⟨rfl,U⟩ | ⟨rfl,j,hj,U⟩
  ·have O:Vl g:=λi h=>by
    have:=U i h (by omega)
    unfold G4 at this
    simpa using this
   obtain⟨c,s1,s2,s3⟩:=z15j (g:=g) (by omega) hi λi h=>⟨(DE (G3 (O i h).1)).1,(DE (G3 (O i h).1)).2.1⟩;refine⟨c,?_,?_,s3.trans ⟨λ⟨a,b,d⟩=>⟨⟨by omega,hi,a, λi h=>⟨(DE (G3 (O i h).1)).1,(DE (G3 (O i h).1)).2.1⟩⟩,O,b,d⟩, λh=>⟨h.e.ri,h.ins,h.wf⟩⟩⟩
   ·simp only[DL]; rw[s1]; simp only[bS]
   ·simp only[DL]; rw[s2]; simp only[bS]
  ·refine⟨8,rfl,rfl, by simp, λh=>?_⟩
   have:=h.ops j hj
   unfold G4 at U;simp[this] at U
 ·have d2:((g.IDs.length:Int) != (g.Ops.length:Int))=true:=by simp; omega
  rw[d2];exact⟨8,rfl,rfl, by simp, λh=>absurd h.e.ids hi⟩
theorem KZ {κ β:Type} [DecidableEq κ] (k:κ) (v:β) (x:κ):∀ m:List (κ × β),Bv (D4 m k v) x=if x=k then some v else Bv m x
 | []=>rfl
 | p::m=>by
  have U:=KZ k v x m;unfold D4;by_cases h:k=p.1
  ·rw[if_pos h];show (if x=p.1 then some v else Bv m x)=if x=k then some v else if x=p.1 then some p.2 else Bv m x
   rw[<- h];by_cases O:x=k
   ·rw[if_pos O,if_pos O]
   ·rw[if_neg O,if_neg O,if_neg O]
  ·rw[if_neg h];show (if x=p.1 then some p.2 else Bv (D4 m k v) x)=if x=k then some v else if x=p.1 then some p.2 else Bv m x
   rw[U];by_cases O:x=p.1
   ·rw[if_pos O,if_pos O,if_neg (λe=>h (by rw[<- O,e]))]
   ·rw[if_neg O,if_neg O]
def L1 (g:Ao) (m:List (ID × Int)):Prop:=∀ x∈g.IDs,(Bv m x).getD 0=(g.IDs.idxOf x:Int)
theorem Vm (E:Db g):∃ m,K5 g=some m/\L1 g m:=by
 have a2:=E.len;have a6:=E.ids;have a1:=D9 (F:=MC g) g.IDs.length
  (λi s=>s.2=(i:Int)/\∀ x,x∈g.IDs->g.IDs.idxOf x<i->(Bv s.1 x).getD 0=(g.IDs.idxOf x:Int))
  (λm=>L1 g m)
  (λi s hi hs=>by
   obtain⟨m,i'⟩:=s;obtain⟨O,U⟩:=hs;simp only at O U;subst O;refine⟨(D4 m g.IDs[i] (i:Int),((i+1:Nat):Int)),?_,rfl, λx hx a7=>?_⟩
   ·unfold MC;rw[if_pos (by simpa using hi)];simp only[];rw[Ax hi,AL (by omega)];simp only[bS]
   ·simp only[];rw[KZ];by_cases he:x=g.IDs[i]
    ·rw[if_pos he,he,KW E.ri hi]; rfl
    ·rw[if_neg he];refine U x hx ?_;have a8:g.IDs.idxOf x≠i:=λe=>he (by subst e; simp)
     omega)
  (λs hs=>by
   obtain⟨m,i'⟩:=s;obtain⟨O,U⟩:=hs;simp only at O U;subst O;refine⟨m,?_, λx hx=>U x hx (List.idxOf_lt_length_of_mem hx)⟩;unfold MC
   rw[if_neg (by simp)])
  (([]:List (ID × Int)),0) 0 (Nat.zero_le _) ⟨rfl, λx hx h=>by omega⟩
 obtain⟨m,O,U⟩:=a1;refine⟨m,?_,U⟩;unfold K5;rw[O];simp only[bS]
inductive Rch (P:Nat->List Nat) (S:List Nat):Nat->Prop
 | base {i:Nat}:i∈S->Rch P S i
 | step {i p:Nat}:Rch P S i->p∈P i->Rch P S p
def unm (n:Nat) (m:Nat->Bool):List Nat:=(List.range n).filter λi=>!m i
theorem Vn (n:Nat) (m:Nat->Bool):(unm n m).Nodup:=List.Pairwise.filter _ List.nodup_range
theorem O6 {n:Nat} {m:Nat->Bool} {i:Nat}:i∈unm n m↔i<n/\m i=false:=by unfold unm; simp
theorem Vo {n:Nat} {m m':Nat->Bool} (h:∀ i,m i=true->m' i=true):(unm n m').length<=(unm n m).length :=
 FD _ _ (Vn n m') λx O=>by
  rw[O6] at *;refine⟨O.1,?_⟩
  cases U:m x with
  | false=>rfl
  | true=>have:=h x U; rw[O.2] at this; exact absurd this (by simp)
theorem z1c3 {n:Nat} {m m':Nat->Bool} (h:∀ i,m i=true->m' i=true) {y:Nat} (hy:y<n) (h1:m y=false) (h2:m' y=true):(unm n m').length<(unm n m).length:=by
 have U:y∈unm n m:=O6.2 ⟨hy,h1⟩
 have:=FD (unm n m') ((unm n m).erase y) (Vn n m') λx O=>by
  have a1:x≠y:=λe=>by subst e; rw[O6] at O; rw[h2] at O; exact absurd O.2 (by simp)
  rw[List.mem_erase_of_ne a1];rw[O6] at *;refine⟨O.1,?_⟩
  cases hm:m x with
  | false=>rfl
  | true=>have:=h x hm; rw[O.2] at this; exact absurd this (by simp)
 rw[List.length_erase_of_mem U] at this
 have:=List.length_pos_of_mem U
 omega
structure Grow (P:Nat->List Nat) (S:List Nat) (m m':Nat->Bool):Prop where
 sub:∀ i,m i=true->m' i=true
 src:∀ i∈S,m' i=true
 new:∀ i,m' i=true->m i=true\/Rch P S i
 clo:∀ i,m' i=true->m i=true\/∀ p∈P i,m' p=true
theorem G5 {i:Nat} {x:ID} (h:Ez g=true) (O:x∈DM g i):x∈g.IDs/\g.IDs.idxOf x∈B3 g i:=⟨GM h i x O,List.mem_map.2 ⟨x,O,rfl⟩⟩
theorem Rch.mono {P:Nat->List Nat} {S T:List Nat} (h:∀ x∈S,x∈T) {i:Nat} (O:Rch P S i):Rch P T i:=by
 induction O with
 | base U=>exact .base (h _ U)
 | step _ h2 ih=>exact .step ih h2
theorem Rch.thru {P:Nat->List Nat} {S T:List Nat} (h:∀ x∈S,Rch P T x) {i:Nat} (O:Rch P S i):Rch P T i:=by
 induction O with
 | base U=>exact h _ U
 | step _ h2 ih=>exact .step ih h2
theorem Vp (E:Db g) {σ:Type} (xs:List ID) (a2:∀ x∈xs,x∈g.IDs) (hl:xs.length<=100) (F:(List Bool × Int)->Option (Sum (List Bool) (List Bool × Int))) (V:ID->List Bool->Option (List Bool)) (m0:Nat->Bool) (N:Nat)
  (hF:∀ m (i:Nat) (h:i<xs.length),F (m,(i:Int))=(V xs[i] m>>=λr=>some (.inr (r,((i+1:Nat):Int))))) (hF2:∀ m,F (m,(xs.length:Int))=some (.inl m))
  (hV:∀ m x,x∈xs->(∀ i,m0 i=true->m i=true)->∃ m',V x (tab g.Ops.length m)=some (tab g.Ops.length m')/\Grow (B3 g) [g.IDs.idxOf x] m m') :
  ∃ m',iter F (tab g.Ops.length m0,0)=some (tab g.Ops.length m')/\Grow (B3 g) (xs.map λx=>g.IDs.idxOf x) m0 m':=by
 have a1:=D9 (F:=F) xs.length
  (λi s=>∃ m,s=(tab g.Ops.length m,(i:Int))/\Grow (B3 g) ((xs.take i).map λx=>g.IDs.idxOf x) m0 m)
  (λr=>∃ m',r=tab g.Ops.length m'/\Grow (B3 g) (xs.map λx=>g.IDs.idxOf x) m0 m')
  (λi s hi hs=>by
   obtain⟨m,rfl,U⟩:=hs;obtain⟨m',e1,e2⟩:=hV m xs[i] (List.getElem_mem hi) U.sub;refine⟨_, by rw[hF _ i hi,e1,bS],m',rfl,?_⟩;have et:(xs.take (i+1)).map (λx=>g.IDs.idxOf x)=(xs.take i).map (λx=>g.IDs.idxOf x)++[g.IDs.idxOf xs[i]]:=by
    rw[List.take_add_one,List.getElem?_eq_getElem hi,List.map_append]; rfl
   rw[et];refine⟨λj O=>e2.sub j (U.sub j O), λj O=>?_, λj O=>?_, λj O=>?_⟩
   ·rcases List.mem_append.1 O with h | h
    ·exact e2.sub j (U.src j h)
    ·exact e2.src j h
   ·rcases e2.new j O with h | h
    ·rcases U.new j h with h | h
     ·exact .inl h
     ·exact .inr (h.mono λx hx=>List.mem_append.2 (.inl hx))
    ·exact .inr (h.mono λx hx=>List.mem_append.2 (.inr hx))
   ·rcases e2.clo j O with h | h
    ·rcases U.clo j h with h | h
     ·exact .inl h
     ·exact .inr λp hp=>e2.sub p (h p hp)
    ·exact .inr h)
  (λs hs=>by
   obtain⟨m,rfl,U⟩:=hs;refine⟨_,hF2 _,m,rfl,?_⟩
   rw[List.take_length] at U; exact U)
  (tab g.Ops.length m0,((0:Nat):Int)) 0 (Nat.zero_le _) ⟨m0,rfl, by simp, by simp, λj O=>.inl O, λj O=>.inl O⟩
 obtain⟨r,h1,m',rfl,h2⟩:=a1;exact⟨m',h1,h2⟩
theorem Vq (E:Db g) (h:Ez g=true) {r:List (ID × Int)} (hr:L1 g r):∀ (N:Nat) (m:Nat->Bool) (x:ID),x∈g.IDs->(unm g.Ops.length m).length<N->∃ m',Ff N x r (tab g.Ops.length m) g=some (tab g.Ops.length m')/\Grow (B3 g) [g.IDs.idxOf x] m m'
 | 0,_,_,_,hn=>by omega
 | N+1,m,x,hx,hn=>by
  have aa:=E.len;have hk:g.IDs.idxOf x<g.Ops.length:=by rw[<- E.ids]; exact List.idxOf_lt_length_of_mem hx
  show ∃ m',ME (Ff N) x r (tab g.Ops.length m) g=_/\_;unfold ME;rw[hr x hx];simp only[bS];rw[Ej hk];simp only[bS]
  cases hm:m (g.IDs.idxOf x) with
  | true =>
   rw[if_pos rfl];exact⟨m,rfl, λi hi=>hi, λi hi=>by rw[List.mem_singleton] at hi; subst hi; exact hm, λi hi=>.inl hi, λi hi=>.inl hi⟩
  | false =>
   rw[if_neg (by simp),Ax hk];simp only[bS,Int.toNat_natCast]
   let m1:=λi=>if i=g.IDs.idxOf x then true else m i
   have a1:∀ i,m i=true->m1 i=true:=λi hi=>by
    show (if _ then _ else _)=true
    split
    ·rfl
    ·exact hi
   have h1x:m1 (g.IDs.idxOf x)=true:=if_pos rfl;have a2:(tab g.Ops.length m).set (g.IDs.idxOf x) true=tab g.Ops.length m1:=G2 hk h1x λj _ hj=>if_neg hj;rw[a2];have hu:=z1c3 a1 hk hm h1x;have U:DM g (g.IDs.idxOf x)=(g.Ops[g.IDs.idxOf x]).Preds:=Ek hk;have h4:=E.four (g.IDs.idxOf x);rw[U] at h4;obtain⟨m',e1,e2⟩:=Vp (σ:=Unit) E (g.Ops[g.IDs.idxOf x]).Preds (λy hy=>(G5 h (by rw[U]; exact hy)).1) (by omega)
    (MD r g (Ff N) g.Ops[g.IDs.idxOf x]) (λy l=>Ff N y r l g) m1 N
    (λl i hi=>by
     unfold MD;rw[if_pos (by simpa using hi)];simp only[];rw[Ax hi,AL (by omega)]
     simp only[bS])
    (λl=>by
     unfold MD
     rw[if_neg (by simp)])
    (λl y hy a6=>Vq E h hr N l y (G5 h (by rw[U]; exact hy)).1 (by have:=Vo (n:=g.Ops.length) a6; omega))
   refine⟨m',e1,?_⟩;have a7:((g.Ops[g.IDs.idxOf x]).Preds.map λx=>g.IDs.idxOf x)=B3 g (g.IDs.idxOf x):=by unfold B3; rw[U]
   rw[a7] at e2;have a8:m' (g.IDs.idxOf x)=true:=e2.sub _ h1x;refine⟨λi hi=>e2.sub i (a1 i hi), λi hi=>by rw[List.mem_singleton] at hi; subst hi; exact a8, λi hi=>?_, λi hi=>?_⟩
   ·rcases e2.new i hi with h | h
    ·by_cases O:i=g.IDs.idxOf x
     ·exact .inr (.base (by rw[O]; simp))
     ·have:m1 i=m i:=if_neg O
      rw[this] at h; exact .inl h
    ·exact .inr (h.thru λy hy=>.step (.base (by simp)) hy)
   ·rcases e2.clo i hi with h | h
    ·by_cases O:i=g.IDs.idxOf x
     ·rw[O]; exact .inr λp hp=>e2.src p hp
     ·have:m1 i=m i:=if_neg O
      rw[this] at h; exact .inl h
    ·exact .inr h
theorem z163 (E:Db g) (h:Ez g=true) (xs:List ID) (O:∀ x∈xs,x∈g.IDs) (hl:xs.length<=100):∃ m,MG g xs=some (tab g.Ops.length m)/\∀ i,m i=true↔Rch (B3 g) (xs.map λx=>g.IDs.idxOf x) i:=by
 have a2:=E.len;obtain⟨r,e1,e2⟩:=Vm E;have hu:(unm g.Ops.length λ_=>false).length<=60:=by
  have:=List.length_filter_le (λi=>!(false:Bool)) (List.range g.Ops.length)
  unfold unm; simp at this ⊢; omega
 obtain⟨m',e3,U⟩:=Vp (σ:=Unit) E xs O hl (MF g xs r) (λy l=>Ff 1000 y r l g) (λ_=>false) 1000
  (λl i hi=>by
   unfold MF;rw[if_pos (by simpa using hi)];simp only[];rw[Ax hi,AL (by omega)]
   simp only[bS])
  (λl=>by
   unfold MF
   rw[if_neg (by simp)])
  (λl y hy a1=>Vq E h e2 1000 l y (O y hy) (by have:=Vo (n:=g.Ops.length) a1; omega))
 refine⟨m',?_, λi=>⟨λhi=>(U.new i hi).resolve_left (by simp), λhi=>?_⟩⟩
 ·unfold MG;rw[e1];simp only[bS];rw[FT (by have:=E.ids; omega) (by have:=E.ids; omega),E.ids,Hz];simp only[bS];rw[e3];simp only[bS]
 ·induction hi with
  | base hs=>exact U.src _ hs
  | step _ hp ih=>exact((U.clo _ ih).resolve_left (by simp)) _ hp
def CT (g:Ao) (m:Nat->Bool):List ID:=((List.range g.Ops.length).filter m).map (B9 g)
theorem Vr (E:Db g) (m:Nat->Bool):K7 g (tab g.Ops.length m)=some (CT g m):=by
 have a1:=E.len;have hl:∀ i,i<=g.Ops.length->(((List.range i).filter m).map (B9 g)).length<=60:=λi hi=>by
  have:=List.length_filter_le m (List.range i)
  simp at this ⊢; omega
 have:iter (K6 g (tab g.Ops.length m)) ([],0)=some (CT g m):=by
  have:=Ck (F:=K6 g (tab g.Ops.length m)) (b:=CT g m) g.Ops.length (λi=>(((List.range i).filter m).map (B9 g),(i:Int))) (λi hi=>?_) ?_
  ·simpa using this
  ·have O:i<g.IDs.length:=by rw[E.ids]; exact hi
   have a2:=hl i (by omega);unfold K6;rw[if_pos (by rw[KX]; simpa using hi)]
   simp only[];rw[Ej hi,List.range_succ,List.filter_append,List.map_append,AL (by omega)];simp only[bS]
   cases U:m i with
   | true =>
    rw[if_pos rfl,Ax O];simp only[bS];rw[B1 (by simp only[List.length_cons,List.length_nil]; omega),List.filter_cons_of_pos (by exact U),<- Cv O];simp only[bS]; rfl
   | false =>
    rw[if_neg (by simp),List.filter_cons_of_neg (by rw[U]; simp)]
    simp
  ·unfold K6;rw[if_neg (by rw[KX]; simp)]; rfl
 unfold K7;rw[this];simp only[bS]
theorem GN (E:Db g) {m:Nat->Bool} {x:ID}:x∈CT g m↔x∈g.IDs/\m (g.IDs.idxOf x)=true:=by
 unfold CT;rw[List.mem_map]
 constructor
 ·rintro⟨i,hi,rfl⟩
  rw[List.mem_filter,List.mem_range] at hi;have O:i<g.IDs.length:=by rw[E.ids]; exact hi.1
  refine⟨by rw[Cv O]; exact List.getElem_mem _,?_⟩;rw[KY E hi.1]; exact hi.2
 ·rintro⟨U,h2⟩
  refine⟨_,?_,IB U⟩;rw[List.mem_filter,List.mem_range,<- E.ids];exact⟨List.idxOf_lt_length_of_mem U,h2⟩
theorem IC (E:Db g) (m:Nat->Bool):BH (CT g m)=true:=by
 rw[GA];unfold CT;rw[List.pairwise_map]
 have:(List.range g.Ops.length).Pairwise λa b=>a<g.Ops.length/\b<g.Ops.length/\a<b:=by
  rw[List.pairwise_iff_getElem];intro i j hi hj a1;simp at hi hj ⊢;omega
 refine(this.filter m).imp λ{a b} O=>?_;have U:a<g.IDs.length:=by rw[E.ids]; exact O.1
 have hb:b<g.IDs.length:=by rw[E.ids]; exact O.2.1
 rw[Cv U,Cv hb];exact G1 E.ri U hb O.2.2
theorem Vs:∀ (l m:List ID),l.Pairwise (λa b=>kd a<kd b)->m.Pairwise (λa b=>kd a<kd b)->(∀ x,x∈l↔x∈m)->l=m
 | [],m,_,_,h=>by
  cases m with
  | nil=>rfl
  | cons b m=>have:=(h b).2 (by simp); simp at this
 | a::l,[],_,_,h=>by have:=(h a).1 (by simp); simp at this
 | a::l,b::m,h1,h2,h=>by
  obtain⟨U,p2⟩:=List.pairwise_cons.1 h1;obtain⟨q1,q2⟩:=List.pairwise_cons.1 h2;have a1:a=b:=by
   have ha:=(h a).1 (by simp);have hb:=(h b).2 (by simp);rcases List.mem_cons.1 ha with e | a2
   ·exact e
   ·rcases List.mem_cons.1 hb with e | a6
    ·exact e.symm
    ·have:=q1 a a2; have:=U b a6; omega
  subst a1
  congr 1
  refine Vs l m p2 q2 λx=>⟨λO=>?_, λO=>?_⟩
  ·rcases List.mem_cons.1 ((h x).1 (by simp[O])) with e | h'
   ·subst e; have:=U x O; omega
   ·exact h'
  ·rcases List.mem_cons.1 ((h x).2 (by simp[O])) with e | h'
   ·subst e; have:=q1 x O; omega
   ·exact h'
theorem z18z (G:C9 g) (h:Dx g=some 0) (x:ID):MB g x=some (if x∈g.IDs then ((g.IDs.idxOf x:Int),0) else (0,6)):=by
 have a1:=G.e.len;have a2:=G.e.ids;obtain⟨k,U,h2,h3⟩:=V5 g.IDs (by omega) G.e.ri x;unfold MB;rw[h];simp only[bS];rw[if_neg (by simp),U];simp only[bS];by_cases O:x∈g.IDs
 ·rw[decide_eq_true O,if_neg (by simp),if_pos O,(h2 O).1]
 ·rw[decide_eq_false O,if_pos (by simp),if_neg O]
theorem Qe (G:C9 g) {x:ID} (h:x∈g.IDs):g.IDs.idxOf x<g.Ops.length:=by rw[<- G.e.ids]; exact List.idxOf_lt_length_of_mem h
theorem O7 {s:List ID} (O:BH s=true) (h:∀ y∈s,y∈g.IDs):s.length<=g.IDs.length:=FD _ _ (KV O) h
def top (g:Ao) (i x:Nat):Bool:=(List.range i).all λk=>!decide (x∈B3 g k)
theorem Vt (i x:Nat):top g (i+1) x=(top g i x&&!decide (x∈B3 g i)):=by
 unfold top; rw[List.range_succ,List.all_append]; simp
theorem z17e (E:Db g) (h:Ez g=true) {r:List (ID × Int)} (hr:L1 g r) {i:Nat} (hi:i<g.Ops.length) (m:Nat->Bool):iter (Kf r g.Ops[i]) (tab g.Ops.length m,0)=some (tab g.Ops.length λx=>m x&&!decide (x∈B3 g i)):=by
 have a7:=E.len;have h4:=(E.op i hi).1;have a2:(B3 g i).length=g.Ops[i].Preds.length:=by unfold B3; rw[Ek hi]; simp
 have:=Ck (F:=Kf r g.Ops[i]) (b:=tab g.Ops.length λx=>m x&&!decide (x∈B3 g i)) g.Ops[i].Preds.length (λj=>(tab g.Ops.length (λx=>m x&&!decide (x∈(B3 g i).take j)),(j:Int))) (λj hj=>?_) ?_
 ·simpa using this
 ·have O:g.Ops[i].Preds[j]∈g.IDs:=GM h i _ (by rw[Ek hi]; exact List.getElem_mem hj);have hk:g.IDs.idxOf g.Ops[i].Preds[j]<g.Ops.length:=by rw[<- E.ids]; exact List.idxOf_lt_length_of_mem O
  have U:(B3 g i)[j]'(by omega)=g.IDs.idxOf g.Ops[i].Preds[j]:=by
   unfold B3;simp only[Ek hi,List.getElem_map]
  unfold Kf;rw[if_pos (by simpa using hj)];simp only[];rw[Ax hj];simp only[bS];rw[hr _ O,Ej hk];simp only[bS,Int.toNat_natCast];rw[AL (by omega)];have a1:(tab g.Ops.length (λx=>m x&&!decide (x∈(B3 g i).take j))).set (g.IDs.idxOf g.Ops[i].Preds[j]) false=tab g.Ops.length (λx=>m x&&!decide (x∈(B3 g i).take (j+1))):=by
   refine G2 hk ?_ λx hx a6=>?_
   ·have:g.IDs.idxOf g.Ops[i].Preds[j]∈(B3 g i).take (j+1):=by
     rw[List.take_add_one,List.getElem?_eq_getElem (by omega),U];exact List.mem_append.2 (.inr (List.mem_singleton.2 rfl))
    rw[decide_eq_true this]; simp
   ·have:(x∈(B3 g i).take (j+1))↔(x∈(B3 g i).take j):=by
     rw[List.take_add_one,List.getElem?_eq_getElem (by omega),U,List.mem_append];exact⟨λh=>h.resolve_right λe=>a6 (List.mem_singleton.1 e),.inl⟩
    simp only[this]
  rw[a1]
 ·unfold Kf;rw[if_neg (by simp),<- a2,List.take_length]
theorem z115 (E:Db g) (h:Ez g=true) {r:List (ID × Int)} (O:L1 g r):iter (Kg g r) (tab g.Ops.length (λ_=>true),0)=some (tab g.Ops.length (top g g.Ops.length)):=by
 have a1:=E.len
 have:=Ck (F:=Kg g r) (b:=tab g.Ops.length (top g g.Ops.length)) g.Ops.length (λi=>(tab g.Ops.length (top g i),(i:Int))) (λi hi=>?_) ?_
 ·have e0:top g 0=λ_=>true:=by funext x; unfold top; simp
  rw[e0] at this; exact this
 ·unfold Kg;rw[if_pos (by simpa using hi)];simp only[];rw[Ax hi];simp only[bS];rw[z17e E h O hi,AL (by omega)];simp only[bS]
  have:(λx=>top g i x&&!decide (x∈B3 g i))=top g (i+1):=by funext x; rw[Vt]
  rw[this]
 ·unfold Kg;rw[if_neg (by simp)]
theorem z1dn (n:Nat) (h:n<=1000):iter (Ke (List.replicate n false)) (List.replicate n false,0)=some (tab n λ_=>true):=by
 have:=Ck (F:=Ke (List.replicate n false)) (b:=tab n λ_=>true) n (λi=>(tab n (λx=>decide (x<i)),(i:Int))) (λi hi=>?_) ?_
 ·have e0:tab n (λx=>decide (x<0))=List.replicate n false:=by
   rw[Hz]; exact Hy λj _=>by simp
  rw[e0] at this; exact this
 ·unfold Ke;rw[if_pos (by simpa using hi)];simp only[];rw[Ej hi,AL (by omega)];simp only[bS,Int.toNat_natCast]
  rw[G2 (g:=λx=>decide (x<i+1)) hi (by simp) (λj _ O=>by
   rw[decide_eq_decide]; omega)]
 ·unfold Ke;rw[if_neg (by simp)];simp only[];rw[Hy (f:=λx=>decide (x<n)) (g:=λ_=>true) λj O=>by simpa using O]
end
section
variable {P:Nat->List Nat} {n:Nat}
def L3 (P:Nat->List Nat) (Q:List Nat) (i:Nat):Bool:=!decide (i∈Q)&&decide (∀ p∈P i,p∈Q)
theorem Qf {Q:List Nat} {i:Nat}:L3 P Q i=true↔i∉Q/\∀ p∈P i,p∈Q:=by
 unfold L3; rw[Bool.and_eq_true,Bool.not_eq_true',decide_eq_false_iff_not,decide_eq_true_iff]
structure z1bx (P:Nat->List Nat) (n:Nat) (Q:List Nat) (i:Nat):Prop where
 lt:i<n
 can:L3 P Q i=true
 O9:∀ j,j<i->L3 P Q j=false
inductive GP (P:Nat->List Nat) (n:Nat):List Nat->Prop
 | nil:GP P n []
 | snoc {Q:List Nat} {i:Nat}:GP P n Q->z1bx P n Q i->GP P n (Q++[i])
theorem GP.got {Q:List Nat} (h:GP P n Q):Got P n Q/\Topo P Q:=by
 induction h with
 | nil=>exact⟨⟨by simp, by simp, by simp⟩, λk hk=>by simp at hk⟩
 | @snoc Q i _ hi O =>
  obtain⟨h1,h2⟩:=Qf.1 hi.can;refine⟨⟨?_, λx U=>?_, λx U=>?_⟩,O.2.snoc h2⟩
  ·rw[List.nodup_append];exact⟨O.1.nodup, by simp, λa ha b hb e=>by rw[List.mem_singleton] at hb; subst hb; exact h1 (e ▸ ha)⟩
  ·rcases List.mem_append.1 U with h | h
   ·exact O.1.lt x h
   ·rw[List.mem_singleton] at h; subst h; exact hi.lt
  ·rcases List.mem_append.1 U with h | h
   ·exact O.1.wf x h
   ·rw[List.mem_singleton] at h; subst h; exact .mk _ λp hp=>O.1.wf p (h2 p hp)
end
section
variable {g:Ao}
theorem z197 {o:Ab} (h:Ib o=some false):o.Preds.length<=20/\o.Act.Key.length<=100/\o.Act.Value.Text.length<=100:=by
 unfold Ib at h;by_cases h1:20<o.Preds.length
 ·rw[if_pos (by simp; omega)] at h; exact absurd h (by simp)
 ·rw[if_neg (by simp; omega)] at h;by_cases h2:100<o.Act.Key.length
  ·rw[if_pos (by simp; omega)] at h; exact absurd h (by simp)
  ·rw[if_neg (by simp; omega)] at h;simp only[bS] at h;have h:=Option.some.inj h;rw[decide_eq_false_iff_not] at h;exact⟨by omega, by omega, by omega⟩
theorem zwl (o:Ab):∃ b,Ib o=some b:=by
 unfold Ib
 split
 ·exact⟨_,rfl⟩
 ·split
  ·exact⟨_,rfl⟩
  ·exact⟨_,rfl⟩
structure L4 (g:Ao):Prop where
 ops:g.Ops.length<=70
 ids:g.IDs.length<=70
 op:∀ i (h:i<g.Ops.length),g.Ops[i].Preds.length<=20/\g.Ops[i].Act.Key.length<=100/\g.Ops[i].Act.Value.Text.length<=100
theorem Qg (g:Ao):∀ (k i:Nat),71 - i=k->i<=71->∃ r:Sum Bool Unit,iter (Ic g) (i:Int)=some r/\(r=.inl true\/(r=.inr ()/\∀ j (h:j<g.Ops.length),i<=j->j<=70->g.Ops[j].Preds.length<=20/\g.Ops[j].Act.Key.length<=100/\g.Ops[j].Act.Value.Text.length<=100))
 | 0,i,h1,h2=>by
  refine⟨.inr (),B2 ?_,.inr ⟨rfl, λj O h3 U=>by omega⟩⟩;unfold Ic
  split
  ·rw[if_neg (by simp; omega)]
  ·rfl
 | k+1,i,h1,h2=>by
  by_cases hi:i<g.Ops.length
  ·obtain⟨b,hb⟩:=zwl g.Ops[i];have hF:Ic g (i:Int)=if b then some (.inl (.inl true)) else some (.inr ((i+1:Nat):Int)):=by
    unfold Ic;rw[if_pos (by simpa using hi),if_pos (by simp; omega),Ax hi];simp only[bS];rw[hb,AL (by omega)];simp only[bS]
   cases b with
   | true=>exact⟨_,B2 hF,.inl rfl⟩
   | false =>
    rw[if_neg (by simp)] at hF;obtain⟨r,e1,e2⟩:=Qg g k (i+1) (by omega) (by omega);refine⟨r, by rw[Bl hF]; exact e1,e2.imp id λ⟨e2,e3⟩=>⟨e2, λj O h3 U=>?_⟩⟩;by_cases a1:j=i
    ·subst a1; exact z197 hb
    ·exact e3 j O (by omega) U
  ·refine⟨.inr (),B2 ?_,.inr ⟨rfl, λj O h3 U=>by omega⟩⟩;unfold Ic;rw[if_neg (by simpa using hi)]
theorem Oa (g:Ao):∃ b,Fg g=some b/\(b=false->L4 g):=by
 obtain⟨r,e1,e2⟩:=Qg g 71 0 rfl (by omega);unfold Fg;rw[show (0:Int)=((0:Nat):Int) from rfl,e1];rcases e2 with rfl | ⟨rfl,e3⟩
 ·exact⟨true,rfl, λh=>absurd h (by simp)⟩
 ·simp only[DL,bS];have key:∀ (P:Bool),(P=false->g.Ops.length<=70/\g.IDs.length<=70)->P=false->L4 g:=λP h O=>⟨(h O).1,(h O).2, λi hi=>e3 i hi (Nat.zero_le _) (by have:=(h O).1; omega)⟩;by_cases hA:70<g.Ops.length
  ·have U:decide (70<(g.Ops.length:Int))=true:=by simp; omega
   have a2:decide ((g.Ops.length:Int)<=60)=false:=by simp; omega
   rw[U,a2];simp only[if_true,Bool.false_eq_true,if_false];exact⟨true, by split <;> rfl, λh=>absurd h (by simp)⟩
  ·have U:decide (70<(g.Ops.length:Int))=false:=by simp; omega
   rw[U];simp only[Bool.false_eq_true,if_false];have k2:=key (decide (70<(g.IDs.length:Int))) λh=>by simp at h; omega
   split
   ·split
    ·exact⟨true,rfl, λh=>absurd h (by simp)⟩
    ·exact⟨_,rfl,k2⟩
   ·exact⟨_,rfl,k2⟩
end
section
variable {g a b:Ao}
theorem z19o (h:Fg g=some false):g.Ops.length<=16\/60<g.Ops.length:=by
 obtain⟨r,O,U⟩:=Qg g 71 0 rfl (by omega);unfold Fg at h;rw[show (0:Int)=((0:Nat):Int) from rfl,O] at h;rcases U with rfl | ⟨rfl,-⟩
 ·simp[or_l] at h
 ·simp only[DL] at h;refine Classical.byContradiction λa1=>?_;rw[if_pos (by simp; omega),if_pos (by simp; omega)] at h
  cases h
theorem z10b (l m:List ID) (a2:l.length=m.length) (hl:l.length<=1000):∃ r,iter (Ig l m) 0=some r/\((r=.inl false/\l≠m)\/(r=.inr ()/\l=m)):=by
 refine FS (F:=Ig l m) (λs=>∃ i:Nat,s=(i:Int)/\i<=l.length/\∀ k (h:k<l.length) (h2:k<m.length),k<i->l[k]=m[k]) (λs=>l.length - s.toNat) _ ?_ 0 ⟨0,rfl,Nat.zero_le _, λk _ _ h=>by omega⟩
 rintro s ⟨i,rfl,h1,h2⟩
 by_cases hi:i<l.length
 ·have a1:i<m.length:=by omega
  by_cases U:l[i]=m[i]
  ·refine .inr ⟨((i+1:Nat):Int),?_,⟨i+1,rfl,hi, λk hk O a7=>?_⟩, by simp; omega⟩
   ·unfold Ig;rw[if_pos (by simpa using hi),Ax hi,Ax a1,AL (by omega)];simp only[bS];rw[if_neg (by simpa using U)]
   ·by_cases a6:k=i
    ·subst a6; exact U
    ·exact h2 k hk O (by omega)
  ·refine .inl ⟨.inl false,?_,.inl ⟨rfl, λe=>U (by subst e; rfl)⟩⟩;unfold Ig;rw[if_pos (by simpa using hi),Ax hi,Ax a1];simp only[bS];rw[if_pos (by simpa using U)]
 ·refine .inl ⟨.inr (),?_,.inr ⟨rfl,List.ext_getElem a2 λk hk O=>h2 k hk O (by omega)⟩⟩;unfold Ig;rw[if_neg (by simpa using hi)]
theorem z1du (l m:List ID) (U:l.length<=1000):Kq l m=some (decide (l=m)):=by
 unfold Kq;by_cases O:l.length=m.length
 ·obtain⟨r,r1,r2⟩:=z10b l m O U;rw[if_neg (by simp[O]),r1];rcases r2 with ⟨rfl,h⟩ | ⟨rfl,h⟩
  ·rw[decide_eq_false h]; rfl
  ·rw[decide_eq_true h]; rfl
 ·rw[if_pos (by simp; omega),decide_eq_false λe=>O (by rw[e])]
theorem zxs (l m:List ID) (a2:l.length=m.length) (hl:l.length<=1000):∃ r,iter (Ie l m) 0=some r/\((r=.inl false/\l≠m)\/(r=.inr ()/\l=m)):=by
 refine FS (F:=Ie l m) (λs=>∃ i:Nat,s=(i:Int)/\i<=l.length/\∀ k (h:k<l.length) (h2:k<m.length),k<i->l[k]=m[k]) (λs=>l.length - s.toNat) _ ?_ 0 ⟨0,rfl,Nat.zero_le _, λk _ _ h=>by omega⟩
 rintro s ⟨i,rfl,h1,h2⟩
 by_cases hi:i<l.length
 ·have a1:i<m.length:=by omega
  by_cases U:l[i]=m[i]
  ·refine .inr ⟨((i+1:Nat):Int),?_,⟨i+1,rfl,hi, λk hk O a7=>?_⟩, by simp; omega⟩
   ·unfold Ie;rw[if_pos (by simpa using hi),Ax hi,Ax a1,AL (by omega)];simp only[bS];rw[if_neg (by simpa using U)]
   ·by_cases a6:k=i
    ·subst a6; exact U
    ·exact h2 k hk O (by omega)
  ·refine .inl ⟨.inl false,?_,.inl ⟨rfl, λe=>U (by subst e; rfl)⟩⟩;unfold Ie;rw[if_pos (by simpa using hi),Ax hi,Ax a1];simp only[bS];rw[if_pos (by simpa using U)]
 ·refine .inl ⟨.inr (),?_,.inr ⟨rfl,List.ext_getElem a2 λk hk O=>h2 k hk O (by omega)⟩⟩;unfold Ie;rw[if_neg (by simpa using hi)]
theorem z1c5 (l m:List ID) (U:l.length<=1000):Ng l m=some (decide (l=m)):=by
 unfold Ng;by_cases O:l.length=m.length
 ·obtain⟨r,r1,r2⟩:=zxs l m O U;rw[if_neg (by simp[O]),r1];rcases r2 with ⟨rfl,h⟩ | ⟨rfl,h⟩
  ·rw[decide_eq_false h]; rfl
  ·rw[decide_eq_true h]; rfl
 ·rw[if_pos (by simp; omega),decide_eq_false λe=>O (by rw[e])]
theorem HA {p q:Ab}:p=q↔p.Author=q.Author/\p.Preds=q.Preds/\p.Stamp=q.Stamp/\p.Act=q.Act/\p.Sig=q.Sig:=by
 cases p; cases q; simp
theorem z15t (p q:Ab) (hp:p.Preds.length<=1000):Nh p q=some (decide (p=q)):=by
 unfold Nh;rw[z1c5 _ _ hp];simp only[bS];by_cases O:p.Author=q.Author
 ·by_cases U:p.Preds=q.Preds
  ·by_cases h2:p.Stamp=q.Stamp
   ·by_cases h3:p.Act=q.Act
    ·by_cases h4:p.Sig=q.Sig
     ·simp[HA,O,h2,h3,h4,U]
     ·simp[HA,O,h2,h3,h4]
    ·simp[HA,O,h2,h3,U]
   ·simp[HA,O,h2,U]
  ·simp[HA,O,U]
 ·simp[HA,O]
structure Fit (g:Ao) (n:Nat):Prop where
 ids:g.IDs.length=g.Ops.length
 len:g.Ops.length<=n
 ri:BH g.IDs=true
 op:∀ o∈g.Ops,o.Preds.length<=20/\o.Act.Key.length<=100/\o.Act.Value.Text.length<=100
theorem Qh (G:C9 g) (S:L4 g):Fit g g.Ops.length:=⟨G.e.ids,Nat.le_refl _,G.e.ri, λo O=>by
 obtain⟨i,hi,rfl⟩:=List.getElem_of_mem O
 exact S.op i hi⟩
end
section
variable {g h a b:Ao} {n m:Nat}
def Cz (g:Ao) (x:ID):Option Ab:=if x∈g.IDs then g.Ops[g.IDs.idxOf x]? else none
theorem GR (F:Fit g n) {x:ID} {o:Ab}:Cz g x=some o↔∃ i:Nat,g.IDs[i]? = some x/\g.Ops[i]? = some o:=by
 unfold Cz
 constructor
 ·intro h
  split at h
  ·rename_i O;exact⟨_, by rw[List.getElem?_eq_getElem (List.idxOf_lt_length_of_mem O)]; simp,h⟩
  ·cases h
 ·rintro⟨i,U,h2⟩
  obtain⟨hi,rfl⟩:=List.getElem?_eq_some_iff.1 U;rw[if_pos (List.getElem_mem hi),KW F.ri hi,h2]
theorem IE (F:Fit g n) {i:Nat} (hi:i<g.Ops.length):Cz g (g.IDs[i]'(by rw[F.ids]; exact hi))=some g.Ops[i] :=
 (GR F).2 ⟨i,List.getElem?_eq_getElem (by rw[F.ids]; exact hi),List.getElem?_eq_getElem hi⟩
theorem Qi {x:ID} {o:Ab} (h:Cz g x=some o):x∈g.IDs/\o∈g.Ops:=by
 unfold Cz at h
 split at h
 ·exact⟨by assumption,List.mem_of_getElem? h⟩
 ·cases h
def Vu (g:Ao) (rk:ID->Nat):Prop:=∀ x o,Cz g x=some o->∀ p∈o.Preds,rk p<rk x
theorem Qj (G:C9 g) (F:Fit g n):∃ rk,Vu g rk:=by
 obtain⟨Q,-,q1,U,q3⟩:=Vj G.e G.ins;refine⟨λx=>Q.idxOf (g.IDs.idxOf x), λx o ho p hp=>?_⟩;obtain⟨i,h1,h2⟩:=(GR F).1 ho;obtain⟨hi,rfl⟩:=List.getElem?_eq_some_iff.1 h1;obtain⟨O,rfl⟩:=List.getElem?_eq_some_iff.1 h2;have hiQ:i∈Q:=(q3 i).2 ⟨O,G.wf i O⟩;have hk:Q.idxOf i<Q.length:=List.idxOf_lt_length_of_mem hiQ;show Q.idxOf (g.IDs.idxOf p)<Q.idxOf (g.IDs.idxOf g.IDs[i]);rw[KW F.ri hi]
 have hm:=U (Q.idxOf i) hk (g.IDs.idxOf p) (by
  have:Q[Q.idxOf i]=i:=by simp
  rw[this];unfold B3
  exact List.mem_map.2 ⟨p, by rw[Ek O]; exact hp,rfl⟩)
 obtain⟨j,hj,e⟩:=List.getElem_of_mem hm;rw[List.length_take] at hj;rw[List.getElem_take] at e
 have:Q.idxOf (g.IDs.idxOf p)<=j:=by
  rw[<- e];exact Nat.le_of_not_lt λc=>by
   have:=List.not_of_lt_findIdx (p:=λy=>y==Q[j]) (xs:=Q) (i:=j) (by simpa [List.idxOf] using c)
   simp at this
 omega
structure z1dy (g:Ao):Prop where
 ops:∀ x o,Cz g x=some o->F2 o=0/\sha (Dr o)=x/\o.Preds.length<=4/\BH o.Preds=true
 ins:∀ x o,Cz g x=some o->∀ p∈o.Preds,p∈g.IDs
 rk:∃ rk,Vu g rk
theorem z178 (G:C9 g) (F:Fit g n):z1dy g:=by
 refine⟨λx o U=>?_, λx o U p hp=>?_,Qj G F⟩
 ·obtain⟨i,h1,h2⟩:=(GR F).1 U;obtain⟨hi,rfl⟩:=List.getElem?_eq_some_iff.1 h1;obtain⟨O,rfl⟩:=List.getElem?_eq_some_iff.1 h2;obtain⟨k1,k2⟩:=G.ops i O;exact⟨k1,k2.trans (Cv hi),G.e.op i O⟩
 ·obtain⟨i,h1,h2⟩:=(GR F).1 U;obtain⟨O,rfl⟩:=List.getElem?_eq_some_iff.1 h2;exact GM G.ins i p (by rw[Ek O]; exact hp)
end
section
variable {g a b:Ao} {n m:Nat} {l l0:List Ao}
def Vv (l:List Ao):Prop:=∀ g∈l,∀ h∈l,g.IDs=h.IDs
instance (l:List Ao):Decidable (Vv l):=by unfold Vv; exact inferInstance
end
section
variable {g:Ao}
abbrev Str:=List UInt8
theorem Ob (x y:Str):Dp x y=decide (x<y):=bytesLess_eq x y
def sinc (l:List Str):Prop:=l.Pairwise (· < ·)
theorem z195 (x:Str):¬ x<x:=List.lt_irrefl x
theorem z1d3 {x y:Str} (h:x<=y) (O:x≠y):x<y:=by
 by_cases c:x<y
 ·exact c
 ·exact absurd (List.le_antisymm h (List.not_lt.1 c)) O
theorem Qk {x y z:Str} (h:x<y) (k:y<z):x<z:=List.lt_trans h k
theorem z19e (x y:Str):x<y\/x=y\/y<x:=by
 by_cases c:x<y
 ·exact .inl c
 ·by_cases e:x=y
  ·exact .inr (.inl e)
  ·exact .inr (.inr (z1d3 (List.not_lt.1 c) λh=>e h.symm))
theorem z1dz {α:Type} {l:List α} {n:Nat} (h:n<l.length):l.take (n+1)=l.take n++[l[n]]:=by
 rw[List.take_add_one,List.getElem?_eq_getElem h]; rfl
def kO (g:Ao) (i:Nat):Ab:=match g.Ops[i]? with | some o=>o | none=>⟨0,[],0,⟨0,[],⟨0,0,0,[]⟩⟩,⟨0,0⟩⟩
theorem GS {i:Nat} (h:i<g.Ops.length):g.Ops[i]=kO g i:=by unfold kO; rw[List.getElem?_eq_getElem h]
def CU (g:Ao) (key:Str):Nat->Option Nat
 | 0=>none
 | i+1=>if (kO g i).Act.Kind=4/\(kO g i).Act.Key=key/\(∀ b,CU g key i=some b->(kO g b).Stamp<=(kO g i).Stamp) then some i else CU g key i
def inN (g:Ao) (key:Str) (N:ID->Bool):Nat->Bool
 | 0=>false
 | i+1=>inN g key N i || (decide ((kO g i).Act.Kind=2)&&decide ((kO g i).Act.Key=key)&&!N (B9 g i))
theorem Ql (key:Str):∀ (i b:Nat),CU g key i=some b->b<i
 | 0,b,h=>by simp[CU] at h
 | i+1,b,h=>by
  unfold CU at h
  split at h
  ·cases h; omega
  ·have:=Ql key i b h; omega
theorem Qm {a b:UInt64}:a<=b↔a<b\/b=a:=by
 rw[UInt64.le_iff_toNat_le,UInt64.lt_iff_toNat_lt,<- UInt64.toNat_inj];omega
end
section
variable {g h a b:Ao} {n m:Nat}
inductive DF (g:Ao):ID->ID->Prop
 | one {x y:ID} {o:Ab}:Cz g y=some o->x∈o.Preds->DF g x y
 | step {x p y:ID} {o:Ab}:DF g p y->Cz g p=some o->x∈o.Preds->DF g x y
theorem Qn (G:C9 g) {x:ID} {o:Ab} (h:Cz g x=some o):DM g (g.IDs.idxOf x)=o.Preds:=by
 have O:=(Qi h).1;unfold Cz at h;rw[if_pos O] at h;unfold DM;rw[h]
theorem z1b7 (G:C9 g) (F:Fit g n) {y:ID} {o:Ab} (hy:Cz g y=some o) {i:Nat} (h:Rch (B3 g) ((DM g (g.IDs.idxOf y)).map λx=>g.IDs.idxOf x) i):i<g.Ops.length/\DF g (B9 g i) y:=by
 induction h with
 | base hm =>
  obtain⟨x,U,rfl⟩:=List.mem_map.1 hm;have O:=(G5 G.ins U).1;refine⟨Qe G O,?_⟩;rw[Cv (List.idxOf_lt_length_of_mem O),List.getElem_idxOf];rw[Qn G hy] at U;exact .one hy U
 | step _ hp ih =>
  rename_i t p hr;obtain⟨x,U,rfl⟩:=List.mem_map.1 hp;have O:=(G5 G.ins U).1;refine⟨Qe G O,?_⟩;rw[Cv (List.idxOf_lt_length_of_mem O),List.getElem_idxOf];obtain⟨a1,a2⟩:=ih;have a6:t<g.IDs.length:=by rw[F.ids]; exact a1
  have hl:Cz g (B9 g t)=some g.Ops[t]:=by rw[Cv a6]; exact IE F a1
  rw[Ek a1] at U;exact .step a2 hl U
theorem Vx (G:C9 g) {x y:ID} (h:DF g x y):x∈g.IDs/\Rch (B3 g) ((DM g (g.IDs.idxOf y)).map λx=>g.IDs.idxOf x) (g.IDs.idxOf x):=by
 induction h with
 | one U O =>
  rw[<- Qn G U] at O;exact⟨(G5 G.ins O).1,.base (List.mem_map.2 ⟨_,O,rfl⟩)⟩
 | step _ hp O ih =>
  rw[<- Qn G hp] at O;exact⟨(G5 G.ins O).1,.step ih.2 (G5 G.ins O).2⟩
theorem Vy (G:C9 g) {x y:ID} (h:DF g x y):x∈g.IDs:=(Vx G h).1
def Over (g:Ao) (key:Str) (x:ID):Prop:=∃ y q,Cz g y=some q/\q.Act.Key=key/\q.Act.Kind=3/\DF g x y
theorem z1an (key:Str) (N:ID->Bool):∀ i,inN g key N i=true↔∃ j,j<i/\(kO g j).Act.Kind=2/\(kO g j).Act.Key=key/\N (B9 g j)=false
 | 0=>by simp[inN]
 | i+1=>by
  show (_ || _)=true↔_;rw[Bool.or_eq_true,z1an key N i]
  constructor
  ·rintro (⟨j,h1,O⟩ | h)
   ·exact⟨j, by omega,O⟩
   ·simp at h;exact⟨i, by omega,h.1.1,h.1.2,h.2⟩
  ·rintro⟨j,h1,O,U,h4⟩
   by_cases e:j=i
   ·subst e; right; simp[O,U,h4]
   ·exact .inl ⟨j, by omega,O,U,h4⟩
theorem L5 (key:Str):∀ i, match CU g key i with
  | none=>∀ j,j<i->¬ ((kO g j).Act.Kind=4/\(kO g j).Act.Key=key)
  | some b=>b<i/\(kO g b).Act.Kind=4/\(kO g b).Act.Key=key/\∀ j,j<i->(kO g j).Act.Kind=4->(kO g j).Act.Key=key->(kO g j).Stamp<(kO g b).Stamp\/((kO g j).Stamp=(kO g b).Stamp/\j<=b)
 | 0=>λj hj=>absurd hj (by omega)
 | i+1=>by
  have O:=L5 key i;unfold CU;by_cases c:(kO g i).Act.Kind=4/\(kO g i).Act.Key=key/\(∀ b,CU g key i=some b->(kO g b).Stamp<=(kO g i).Stamp)
  ·rw[if_pos c];refine⟨by omega,c.1,c.2.1, λj hj h1 h2=>?_⟩;by_cases e:j=i
   ·subst e; exact .inr ⟨rfl,Nat.le_refl _⟩
   ·cases U:CU g key i with
    | none=>rw[U] at O; exact absurd ⟨h1,h2⟩ (O j (by omega))
    | some b =>
     rw[U] at O;have h3:=c.2.2 b U;rcases O.2.2.2 j (by omega) h1 h2 with h4 | ⟨h4,h5⟩
     ·rcases Qm.1 h3 with h6 | h6
      ·left; rw[UInt64.lt_iff_toNat_lt] at *; omega
      ·left; rw[h6]; exact h4
     ·rcases Qm.1 h3 with h6 | h6
      ·left; rw[h4]; exact h6
      ·right; exact⟨by rw[h4,h6], by omega⟩
  ·rw[if_neg c]
   cases U:CU g key i with
   | none =>
    rw[U] at O;intro j hj hk;by_cases e:j=i
    ·subst e; exact c ⟨hk.1,hk.2, λb h=>by rw[U] at h; cases h⟩
    ·exact O j (by omega) hk
   | some b =>
    rw[U] at O;refine⟨by omega,O.2.1,O.2.2.1, λj hj h1 h2=>?_⟩;by_cases e:j=i
    ·subst e
     left
     have:¬ (kO g b).Stamp<=(kO g j).Stamp:=λh3=>c ⟨h1,h2, λb' a1=>by rw[U] at a1; cases a1; exact h3⟩;rw[UInt64.le_iff_toNat_le] at this;rw[UInt64.lt_iff_toNat_lt]; omega
    ·exact O.2.2.2 j (by omega) h1 h2
theorem Oc (F:Fit g n) {i:Nat} (hi:i<g.Ops.length):Cz g (B9 g i)=some (kO g i):=by
 have hid:i<g.IDs.length:=by rw[F.ids]; exact hi
 rw[Cv hid,<- GS hi]; exact IE F hi
theorem Vz (F:Fit g n) {x:ID} {o:Ab} (h:Cz g x=some o):∃ i,i<g.Ops.length/\kO g i=o/\B9 g i=x:=by
 obtain⟨i,O,U⟩:=(GR F).1 h;obtain⟨hid,rfl⟩:=List.getElem?_eq_some_iff.1 O;obtain⟨hi,rfl⟩:=List.getElem?_eq_some_iff.1 U;exact⟨i,hi,(GS hi).symm,Cv hid⟩
theorem Qo (F:Fit g n) {i j:Nat} (hi:i<g.Ops.length) (hj:j<g.Ops.length):j<=i↔kd (B9 g j)<=kd (B9 g i):=by
 have O:i<g.IDs.length:=by rw[F.ids]; exact hi
 have U:j<g.IDs.length:=by rw[F.ids]; exact hj
 rw[Cv O,Cv U]
 constructor
 ·intro h;by_cases e:j=i
  ·subst e; exact Nat.le_refl _
  ·exact Nat.le_of_lt (G1 F.ri U O (by omega))
 ·intro h;refine Nat.le_of_not_lt λc=>?_
  have:=G1 F.ri O U c
  omega
end
section
variable {g:Ao}
theorem VA {α:Type} {l:List α} {n:Nat} (h:n<l.length):l.take (n+1)=l.take n++[l[n]]:=by
 rw[List.take_add_one,List.getElem?_eq_getElem h]; rfl
theorem zvr (G:C9 g):∃ Q,I5 g=some (il Q)/\GP (B3 g) g.Ops.length Q/\Q.length=g.Ops.length:=by
 have E:=G.e;have hP:=Qb E G.ins;have a2:=E.len;have a1:=FS (F:=Hm g)
  (λs=>∃ Q b,s=En g Q b/\GP (B3 g) g.Ops.length Q/\(b=false->∀ i,i<g.Ops.length->(∀ p∈B3 g i,p∈Q)->i∈Q))
  (λs=>(g.Ops.length - s.1.length)+(if s.2.2.2 then 1 else 0))
  (λr=>∃ Q:List Nat,r=il Q/\GP (B3 g) g.Ops.length Q/\Q.length=g.Ops.length)
  (λs hs=>by
   obtain⟨Q,b,rfl,U,h3⟩:=hs;obtain⟨hg,ht⟩:=U.got;have a6:=hg.len
   cases b with
   | false =>
    left
    refine⟨il Q,rfl,Q,rfl,U,?_⟩
    have:¬ Q.length<g.Ops.length:=(Qc hg.nodup hg.lt).2 λi hi=>by
     have hw:=G.wf i hi
     revert hi
     induction hw with
     | mk i a7 ih=>exact λhi=>h3 rfl i hi λp hp=>ih p hp (hP.lt i p hp)
    omega
   | true =>
    right
    obtain⟨r,e1,e2⟩:=Vi E G.ins Q hg ht;rcases e2 with ⟨i,rfl,O,e4,e5,e6,e7,e8⟩ | ⟨rfl,O⟩
    ·refine⟨_,?_,⟨Q++[i],true,rfl,.snoc U ⟨e5,Qf.2 ⟨e6,e7⟩, λj hj=>?_⟩, by simp⟩,?_⟩
     ·unfold Hm;exact(if_pos rfl).trans e1
     ·cases hc:L3 (B3 g) Q j with
      | false=>rfl
      | true =>
       obtain⟨c1,c2⟩:=Qf.1 hc;exact absurd (e8 j hj c2) c1
     ·have:=O.len
      simp only[En,Ei,List.length_append,List.length_cons,List.length_nil] at this ⊢;omega
    ·refine⟨_,?_,⟨Q,false,rfl,U, λ_=>O⟩,?_⟩
     ·unfold Hm;exact(if_pos rfl).trans e1
     ·simp[En])
  ([],[],List.replicate g.Ops.length false,true) ⟨[],true, by unfold En; rw[Hz]; simp[il],.nil, by simp⟩
 obtain⟨r,e1,Q,rfl,e2,O⟩:=a1;refine⟨Q,?_,e2,O⟩;unfold I5;rw[FT (by omega) (by omega)];simp only[bS];rw[e1];simp only[bS]
def subI (g:Ao) (m:Nat->Bool):Nat->List ID
 | 0=>[]
 | i+1=>if m i then subI g m i++[B9 g i] else subI g m i
def Dy (g:Ao) (m:Nat->Bool):Nat->List Ab
 | 0=>[]
 | i+1=>if m i then Dy g m i++g.Ops[i]?.toList else Dy g m i
theorem VB {g:Ao} {m:Nat->Bool} {i:Nat} (h:m i=true):subI g m (i+1)=subI g m i++[B9 g i]:=if_pos h
theorem Qp {g:Ao} {m:Nat->Bool} {i:Nat} (h:m i=true):Dy g m (i+1)=Dy g m i++g.Ops[i]?.toList:=if_pos h
theorem VC {g:Ao} {m:Nat->Bool} {i:Nat} (h:m i=false):subI g m (i+1)=subI g m i:=if_neg (by rw[h]; simp)
theorem Qq {g:Ao} {m:Nat->Bool} {i:Nat} (h:m i=false):Dy g m (i+1)=Dy g m i:=if_neg (by rw[h]; simp)
theorem z16y (g:Ao) (m:Nat->Bool):∀ i,(subI g m i).length<=i
 | 0=>Nat.le_refl _
 | i+1=>by
  have:=z16y g m i
  unfold subI
  split
  ·rw[List.length_append,List.length_singleton]; omega
  ·omega
theorem Od (g:Ao) (m:Nat->Bool):∀ i,(Dy g m i).length<=i
 | 0=>Nat.le_refl _
 | i+1=>by
  have:=Od g m i
  unfold Dy
  split
  ·rw[List.length_append]
   have:g.Ops[i]?.toList.length<=1:=by cases g.Ops[i]? <;> simp
   omega
  ·omega
theorem Oe (g:Ao) (m:Nat->Bool):∀ i,∀ o∈Dy g m i,o∈g.Ops
 | 0,o,h=>by simp[Dy] at h
 | i+1,o,h=>by
  unfold Dy at h
  split at h
  ·rcases List.mem_append.1 h with h | h
   ·exact Oe g m i o h
   ·cases O:g.Ops[i]? with
    | none=>rw[O] at h; simp at h
    | some q =>
     rw[O] at h
     have:o=q:=by simpa using h
     subst this;exact List.mem_of_getElem? O
  ·exact Oe g m i o h
def z1bo (g:Ao) (xs:List ID) (m:Nat->Bool):Prop:=∀ i,m i=true↔Rch (B3 g) (xs.map λx=>g.IDs.idxOf x) i
theorem z1br (G:C9 g) (h:Dx g=some 0) {x:ID} (O:x∈g.IDs):∃ m,K8 g x=some (CT g m,0)/\z1bo g (DM g (g.IDs.idxOf x)) m:=by
 have U:=Qe G O;have h4:=G.e.four (g.IDs.idxOf x);obtain⟨m,r1,r2⟩:=z163 G.e G.ins (DM g (g.IDs.idxOf x)) (GM G.ins _) (by omega);refine⟨m,?_,r2⟩;have d0:((0:Int) != 0)=false:=rfl;unfold K8;rw[z18z G h,if_pos O];simp only[bS,d0,Bool.false_eq_true,if_false];rw[Ax U];simp only[bS];rw[<- Ek U,r1];simp only[bS];rw[Vr G.e m];rfl
theorem z17f (G:C9 g) (h:Dx g=some 0):MP g=some (CT g (top g g.Ops.length),0):=by
 have a1:=G.e.len;have O:=G.e.ids;obtain⟨r,U,p2⟩:=Vm G.e;have d0:((0:Int) != 0)=false:=rfl;unfold MP;rw[h];simp only[bS,d0,Bool.false_eq_true,if_false];rw[U];simp only[bS];rw[FT (by omega) (by omega),O];simp only[bS];rw[z1dn _ (by omega)];simp only[bS];rw[z115 G.e G.ins p2];simp only[bS];rw[Vr G.e];rfl
end
section
variable {g:Ao} {n m:Nat}
theorem z19s (G:C9 g) (F:Fit g n) (h:Dx g=some 0) {y:ID} {o:Ab} (O:Cz g y=some o):∃ s,K8 g y=some (s,0)/\s.length<=60/\∀ x,x∈s↔DF g x y:=by
 obtain⟨m,p1,p2⟩:=z1br G h (Qi O).1;refine⟨_,p1,?_, λx=>?_⟩
 ·have:=O7 (g:=g) (IC G.e m) λy O=>((GN G.e).1 O).1
  have:=G.e.len; have:=G.e.ids; omega
 ·rw[GN G.e]
  constructor
  ·rintro⟨U,hm⟩
   have:=(z1b7 G F O ((p2 _).1 hm)).2
   rwa [IB U] at this
  ·intro U;obtain⟨a1,hr⟩:=Vx G U;exact⟨a1,(p2 _).2 hr⟩
theorem VD (F:Fit g n) {i:Nat} (hi:i<g.Ops.length):Cz g (B9 g i)=some g.Ops[i]:=by
 rw[Cv (by rw[F.ids]; exact hi)]; exact IE F hi
def G6 (g:Ao) (key:Str) (i:Nat) (x:ID):Prop:=∃ j,∃ h:j<g.Ops.length,j<i/\g.Ops[j].Act.Key=key/\g.Ops[j].Act.Kind=3/\DF g x (B9 g j)
theorem VF {key:Str} {x:ID}:¬ G6 g key 0 x:=λ⟨_,_,h,_⟩=>absurd h (by omega)
theorem IF {key:Str} {i:Nat} (hi:i<g.Ops.length) {x:ID}:G6 g key (i+1) x↔G6 g key i x\/g.Ops[i].Act.Key=key/\g.Ops[i].Act.Kind=3/\DF g x (B9 g i):=by
 constructor
 ·rintro⟨j,h,U,O⟩
  by_cases e:j=i
  ·subst e; exact .inr O
  ·exact .inl ⟨j,h, by omega,O⟩
 ·rintro (⟨j,h,U,O⟩ | h)
  ·exact⟨j,h, by omega,O⟩
  ·exact⟨i,hi, by omega,h⟩
theorem Qr (F:Fit g n) {key:Str} {x:ID}:G6 g key g.Ops.length x↔Over g key x:=by
 constructor
 ·rintro⟨j,O,-,U,h2,h3⟩
  exact⟨_,_,VD F O,U,h2,h3⟩
 ·rintro⟨y,q,hy,U,h2,h3⟩
  obtain⟨j,j1,j2⟩:=(GR F).1 hy;obtain⟨hid,rfl⟩:=List.getElem?_eq_some_iff.1 j1;obtain⟨O,rfl⟩:=List.getElem?_eq_some_iff.1 j2;exact⟨j,O,O,U,h2, by rw[Cv hid]; exact h3⟩
end
end Go.Proofs.YtdeegahcaekfaaaGreatDoor
