import Derived.Test.YtdeegahcaekfaaaGreatDoorVb
set_option linter.unusedSimpArgs false
set_option linter.unusedVariables false
namespace Go.Proofs.YtdeegahcaekfaaaGreatDoor
set_option maxRecDepth 100000
set_option maxHeartbeats 4000000
open Go Go.RowKit _root_.Go.Proofs.Tryz
section
theorem YS (O:Int):Ah Tryz.prog 60 [.val (.slice none 0 0),.rd A3 O] [] (LR O) (λr U=>⟨[.val (U 0)],[(100,some (U 0,.list u8R 5 r))]⟩):=by
 refine Am 27 func60 Z Z Z λH w=>?_;refine A2<|Zb Z<|A6<|A2<|Zm Z<|Zq (I.lss Z Z)<|Zj Z (λh1=>?_) (λh1=>?_)
 ·refine Sw
 ·refine Zt<|A6<|A2<|Zm Z<|Zm Z<|Zq (capN Z Z tu36)<|Zm Z<|Sk u8R 11 Z<|Zq (Aq Z .rd Z tu36)<|Zq (I.sub Z Z)<|Zq (I.sub Z Z)<|Za Z<|AI 1 Z λy2=>Zn<|A2<|Zm Z<|Zq (I.gtr Z Z)<|Zj Z (λh3=>?_) (λh3=>?_)
  ·refine Ai<|Zm Z<|Zm Z<|Zq (capN Z Z tu36)<|Zq (cutN Z Z tu36 ti5)<|Zm Z<|Al λx4 h5=>Ef Z (apZ 1 Z Z h5 tu36 tu3 ti5 (Zr.num Z) Z) λv6=>Zm Z<|Sk u8R 23 Z<|Zq (Aq Z .rd Z tu36)<|Al λx7 h8=>Ef Z (cutO 1 Z Z Z h8 tu36 ti5) λv9=>Zb Z<|A2<|Zm Z<|Zb Z<|A5<|Ze [v9] [1] Z
  ·refine Zt<|A2<|Zm Z<|Zb Z<|A5<|Cl u8R 5 2<|Ze [(.slice none 0 0)] [2] Z
def LS (a0:List (List UInt8)) (O:Int × Int):Option (Sum Int (Int × Int)) :=
 if decide (O.2<(a0.length:Int)) then
  idx a0 O.2>>=λx4 =>
  some (w64 (O.1+(x4.length:Int)))>>=λU =>
  if decide (U<0) then
   none
  else
   some (.inr (U,w64 (O.2+1)))
 else
  some (.inl O.1)
def LT (a0:List (List UInt8)) (O:(List UInt8) × Int):Option (Sum ((List UInt8)) ((List UInt8) × Int)) :=
 if decide (O.2<(a0.length:Int)) then
  idx a0 O.2>>=λU =>
  app 1 O.1 U>>=λa1 =>
  some (.inr (a1,w64 (O.2+1)))
 else
  some (.inl O.1)
def Fd (a0:List (List UInt8)):Option ((List UInt8)) :=
 (iter (LS a0) (0,0))>>=λU =>
 LR U>>=λr8 =>
 (iter (LT a0) (r8,0))>>=λO =>
 some O
theorem HV (a0:List (List UInt8)):Ah Tryz.prog 28 [.rd (A8 (A8 u8R)) a0] [] (Fd a0) (λr nv=>⟨[.val (nv 0)],[(100,some (nv 0,.list u8R 5 r))]⟩):=by
 refine Am 36 func28 Z Z Z λH w=>?_;refine A2<|Zb Z<|A2<|Zb Z<|AY (λ(s1:Int) O U=>Sta (ctx 36 H [] w) [(0,.rd (A8 (A8 u8R)) a0),(3,.rd A3 s1)] [] O U) ?_ (λs1=>?_)
 ·refine A2<|Zm Z<|Zq (Aq Z .rd Z tu126)<|Zm Z<|Zn<|AJ (λ(s2:Int × Int) O U=>Sta (ctx 36 H [] w) [(0,.rd (A8 (A8 u8R)) a0),(3,.rd A3 s2.1),(9,.rd (A8 (A8 u8R)) a0),(10,.rd A3 (a0.length:Int)),(11,.rd A3 s2.2)] [] O U) (λO U h=>Zu h []) (λs2=>?_);refine A2<|Zq (I.lss Z Z)<|Zn<|A6<|gIf Z Z (λh3=>?_) (λh3=>?_)
  ·refine Zt<|A6<|AB<|A2<|Al λx4 h5=>Zq (ixR Z Z h5 tu126 CD Z)<|Zq (ldR Z ty36)<|Zb Z<|A2<|Zm Z<|Zm Z<|Zq (Aq Z .rd Z tu36)<|Zq (I.add Z Z)<|Za Z<|AI 3 Z λy6=>Zn<|A2<|Zm Z<|Zq (I.lss Z Z)<|Zj Z (λh7=>?_) (λh7=>?_)
   ·refine Sw
   ·refine AW<|Ap<|Af<|Ai<|Zq (I.add Z Z)<|Zm Z<|Ae<|Au (λO U h=>Zu h [])
  ·refine AC<|AD<|AG<|Av (λO U h=>Zu h [])
 ·refine A2<|Zm Z<|Zc [] [(100,1)] func60 Z (YS _) λr8 n9=>Zb Z<|AY (λ(a2:(List UInt8)) O U=>∃ nv:Nat->Value,Sta (ctx 36 H [] w) [(6,.val (nv 0))] [(1,some ((nv 0),.list u8R 5 a2))] O U) ?_ (λa2=>?_)
  ·refine A2<|Zm Z<|Zq (Aq Z .rd Z tu126)<|Zm Z<|Zn<|AJ (λ(a1:(List UInt8) × Int) O U=>∃ nv:Nat->Value,Sta (ctx 36 H [] w) [(6,.val (nv 0)),(25,.rd (A8 (A8 u8R)) a0),(26,.rd A3 (a0.length:Int)),(27,.rd A3 a1.2)] [(1,some ((nv 0),.list u8R 5 a1.1))] O U) (λO U h=>⟨nvl [(n9 0)],Zu h [1]⟩) (λa1=>?_);refine gEx λa6=>A2<|Zq (I.lss Z Z)<|Zn<|A6<|gIf Z Z (λa7=>?_) (λa7=>?_)
   ·refine Zt<|A6<|AB<|A2<|Al λae a8=>Zq (ixR Z Z a8 tu126 CD Z)<|Zq (ldR Z ty36)<|Zb Z<|Ai<|Zm Z<|Zm Z<|Al λaf ab=>Ef Z (apn 1 Z Z Z .rd ab tu36 ti5 Z Z Z) λac=>Za Z<|Ae<|Ap<|Af<|Ai<|Zq (I.add Z Z)<|Zm Z<|Ae<|Au (λO U h=>⟨nvl [ac],Zu h [1]⟩)
   ·refine AC<|AD<|AG<|Av (λO U h=>⟨nvl [(a6 0)],Zu h [1]⟩)
  ·refine gEx λad=>A2<|Zm Z<|Zb Z<|A5<|Ze [(ad 0)] [1] Z
def Gv (a0:List UInt8):Option ((List UInt8) × Int) :=
 if decide (10000<(a0.length:Int)) then
  some ([],4)
 else
  Ev (UInt64.ofInt (a0.length:Int))>>=λO =>
  app 1 O a0>>=λU =>
  some (U,0)
theorem LU (a0:List UInt8):Ah Tryz.prog 42 [.rd (A8 u8R) a0] [] (Gv a0) (λr O=>⟨[.val (O 0),.rd A3 r.2],[(100,some (O 0,.list u8R 5 r.1))]⟩):=by
 refine Am 13 func42 Z Z Z λH w=>?_;refine A2<|Za Z<|Zb Z<|A6<|A2<|Zm Z<|Zq (Aq Z .rd Z tu36)<|Zq (I.gtr Z Z)<|Zj Z (λU=>?_) (λU=>?_)
 ·refine A2<|Za Z<|Zb Z<|A5<|An<|Cl u8R 5 1<|Ze [(.slice none 0 0)] [1] Z
 ·refine Zt<|A2<|Zm Z<|Zq (Aq Z .rd Z tu36)<|Zq (I.toU Z tu3 tu52)<|Zc [] [(100,2)] func22 Z (EX _) λr2 n3=>Zm Z<|Al λx4 h5=>Ef Z (apn 2 Z Z Z .rd h5 tu36 ti5 Z Z Z) λv6=>Za Z<|Zb Z<|A5<|Ze [v6] [2] Z
def LV (a0:Int):Option ((List UInt8)) :=
 Ev ((FI (UInt64.ofInt a0) 1) ^^^ (UInt64.ofInt (shrI a0 63)))>>=λO =>
 some O
theorem YT (a0:Int):Ah Tryz.prog 44 [.rd A3 a0] [] (LV a0) (λr O=>⟨[.val (O 0)],[(100,some (O 0,.list u8R 5 r))]⟩):=by
 refine Am 11 func44 Z Z Z λH w=>?_;refine A2<|Zb Z<|A2<|Zm Z<|Zq (I.toU Z underlying2 tu52)<|Zq (U.shl Z Z (Int.natCast_nonneg _))<|Zm Z<|Zq (I.shr Z Z (Int.natCast_nonneg _))<|Zq (I.toU Z underlying2 tu52)<|Zq (U.xor Z Z)<|Zc [] [(100,1)] func22 Z (EX _) λr1 n2=>Zb Z<|A5<|Ze [(n2 0)] [1] Z
def J5 (a0:Ay) (O:(List UInt8) × Int):Option (Sum ((List UInt8)) ((List UInt8) × Int)) :=
 if decide (0<=O.2) then
  chk (0<=O.2)>>=λa2 =>
  app 1 O.1 [(Ce a0.Bits ((O.2:Int).toNat)).toUInt8]>>=λU =>
  some (w64 (O.2 - 8))>>=λa1 =>
  some (.inr (U,a1))
 else
  some (.inl O.1)
def J6 (a0:Ay):Option ((List UInt8) × Int) :=
 HT a0>>=λO =>
 if O != 0 then
  some ([],O)
 else
  (if a0.Kind==1 then
   LV a0.Num>>=λr8 =>
   app 1 [a0.Kind] r8>>=λU =>
   some U
  else
   if a0.Kind==2 then
    iter (J5 a0) ([a0.Kind],56)
   else
    if a0.Kind==3 then
     chk (a0.Text.length<=281474976710656)>>=λa6 =>
     Gv a0.Text>>=λa1 =>
     app 1 [a0.Kind] a1.1>>=λa2 =>
     some a2
    else
     some [a0.Kind])>>=λs6 =>
  some (s6,0)
theorem SY (a0:Ay):Ah Tryz.prog 21 [.rd CP a0] [] (J6 a0) (λr nv=>⟨[.val (nv 0),.rd A3 r.2],[(100,some (nv 0,.list u8R 5 r.1))]⟩):=by
 refine Am 53 func21 Z Z Z λH w=>?_;refine A2<|Eb Z (bx 1 Z) λv1=>Za Z<|Zb Z<|A6<|A2<|Zq (ld 1 Z Z fH Dv Z)<|Zc [] [] func43 Z (P5 _) λr2 n3=>Zb Z<|A2<|Zm Z<|Zq (I.neq Z Z)<|Zj Z (λh4=>?_) (λh4=>?_)
 ·refine A2<|Zm Z<|Za Z<|Zb Z<|A5<|An<|Cl u8R 5 2<|Ze [(.slice none 0 0)] [2] Z
 ·refine Zt<|A2<|Zq (faB 1 Z Z underlying54 Z (by exact ti5))<|Zq (ld 1 Z Z (fP (Fp _)) ty5 Z)<|Ef Z (lit (R:=u8R) ([a0.Kind]:List UInt8) 3 (pP Z Z<|pN) Z tu36 ti5 Z Z) λv5=>Zb Z<|AY (λ(s6:(List UInt8)) O ww=>∃ nv:Nat->Value,Sta (ctx 53 H [] w) [(5,.val (nv 0))] [(3,some ((nv 0),.list u8R 5 s6))] O ww) ?_ (λs6=>?_)
  ·refine A2<|Zq (faB 1 Z Z underlying54 Z (by exact ti5))<|Zq (ld 1 Z Z (fP (Fp _)) ty5 Z)<|Zn<|AB<|A2<|Zq (B.eql Z Z)<|Zb Z<|gIf Z Z (λh7=>?_) (λh7=>?_)
   ·refine gKn 20 Z h7<|Ai<|Zm Z<|Zq (faB 1 Z Z underlying54 Z (by exact ti2))<|Zq (ld 1 Z Z (fP (HI _)) ty2 Z)<|Zc [] [(100,4)] func44 Z (YT _) λr8 n9=>Al λak a7=>Ef Z (apn 3 Z Z Z (.own 4 Z) a7 tu36 ti5 Z Z Z) λa8=>Za Z<|Ae<|Ap<|Av (λO ww h=>⟨nvl [a8],Zu h [3]⟩)
   ·refine gKn 20 Z h7<|A2<|Zq (B.eql Z Z)<|Zb Z<|gIf Z Z (λa2=>?_) (λa2=>?_)
    ·refine gKn 27 Z a2<|A2<|Zb Z<|AJ (λ(a1:(List UInt8) × Int) O ww=>∃ nv:Nat->Value,Sta (ctx 53 H [] w) [(1,.val (A7 v1 0)),(5,.val (nv 0)),(6,.rd A3 a1.2)] [(1,some (v1,.box 54 [.rd CP a0])),(3,some ((nv 0),.list u8R 5 a1.1))] O ww) (λO ww h=>⟨nvl [v5],Zu h [1,3]⟩) (λa1=>?_);refine gEx λab=>A6<|A2<|Zm Z<|Zq (I.geq Z Z)<|Zj Z (λac=>?_) (λac=>?_)
     ·refine Zt<|A6<|AB<|Ai<|Zm Z<|Zq (faB 1 Z Z underlying54 Z (by exact CV))<|Zq (ld 1 Z Z (fP (Gj _)) CR Z)<|Zm Z<|Al λam ad=>Zq (U.shr Z Z (DP ad))<|Zq (U.toB Z tu52 tu5)<|Ef Z (lit (R:=u8R) ([(Ce a0.Bits ((a1.2:Int).toNat)).toUInt8]:List UInt8) 5 (pP Z Z<|pN) Z tu36 ti5 Z Z) λao=>Al λap ae=>Ef Z (apn 3 Z Z Z (.own 5 Z) ae tu36 ti5 Z Z Z) λv22=>Za Z<|Ae<|Ap<|Af<|Ai<|Zm Z<|Zq (I.sub Z Z)<|Za Z<|AI 6 Z λaq=>Ae<|Au (λO ww h=>⟨nvl [v22],Zu h [1,3]⟩)
     ·refine AC<|AD<|AG<|Ap<|Av (λO ww h=>⟨nvl [(ab 0)],Zu h [3]⟩)
    ·refine gKn 27 Z a2<|A2<|Zq (B.eql Z Z)<|Zb Z<|gIf Z Z (λa6=>?_) (λa6=>?_)
     ·refine gKn 41 Z a6<|A2<|Zq (faB 1 Z Z underlying54 Z (by exact ti9))<|Zq (ld 1 Z Z (fP (Fq _)) ty9 Z)<|Al λar af=>IS Z Z af tu9 tu36 tu5<|Zc [] [(100,6)] func42 Z (LU _) λau av=>Zm Z<|Zq (ext Z Z)<|Zq (ext Z Z)<|Za Z<|Zb Z<|Ai<|Zm Z<|Zm Z<|Al λaw ah=>Ef Z (apn 3 Z Z Z (.own 6 Z) ah tu36 ti5 Z Z Z) λai=>Za Z<|Ae<|Ap<|Av (λO ww h=>⟨nvl [ai],Zu h [3]⟩)
     ·refine gKn 41 Z a6<|AW<|Ap<|Av (λO ww h=>⟨nvl [v5],Zu h [3]⟩)
  ·refine gEx λaj=>A2<|Zm Z<|Za Z<|Zb Z<|A5<|Ze [(aj 0)] [3] Z
def J7 (a0:Ab):Option ((List UInt8) × Int) :=
 H6 ({ a0 with Sig:=(⟨0,0⟩:AQ) })>>=λr2 =>
 if r2 != 0 then
  some ([],r2)
 else
  LQ (({ a0 with Sig:=(⟨0,0⟩:AQ) }).Preds)>>=λr5 =>
  Ev ((({ a0 with Sig:=(⟨0,0⟩:AQ) }).Author).toUInt64)>>=λr7 =>
  Ev (({ a0 with Sig:=(⟨0,0⟩:AQ) }).Stamp)>>=λa1 =>
  Fd [[111],r7,r5.1,a1,[(({ a0 with Sig:=(⟨0,0⟩:AQ) }).Act).Kind]]>>=λO =>
  if ((({ a0 with Sig:=(⟨0,0⟩:AQ) }).Act).Kind)==1 then
   some (O,0)
  else
   chk (((({ a0 with Sig:=(⟨0,0⟩:AQ) }).Act).Key).length<=281474976710656)>>=λa8 =>
   Gv ((({ a0 with Sig:=(⟨0,0⟩:AQ) }).Act).Key)>>=λa2 =>
   app 1 O a2.1>>=λU =>
   if ((({ a0 with Sig:=(⟨0,0⟩:AQ) }).Act).Kind)==4 then
    J6 ((({ a0 with Sig:=(⟨0,0⟩:AQ) }).Act).Value)>>=λa6 =>
    app 1 U a6.1>>=λa7 =>
    some (a7,0)
   else
    some (U,0)
theorem SZ (a0:Ab):Ah Tryz.prog 92 [.rd AA a0] [] (J7 a0) (λr O=>⟨[.val (O 0),.rd A3 r.2],[(100,some (O 0,.list u8R 5 r.1))]⟩):=by
 refine Am 71 func92 Z Z Z λH w=>?_;refine A2<|Eb Z (bx 1 Z) λv1=>Za Z<|Zb Z<|A2<|Zq (bld (x':=(⟨0,0⟩:AQ)) [(0,1),(1,1)] underlying58 DR Z E9 Z (Bld.done Z))<|Zq (faB 1 Z Z underlying60 Z (by exact DR))<|Es (sto 1 Z Z (fP (Er _)) Z DR)<|Zn<|A6<|A2<|Zq (ld 1 Z Z fH C4 Z)<|Zc [] [] func91 Z (P7 _) λr2 n3=>Zb Z<|A2<|Zm Z<|Zq (I.neq Z Z)<|Zj Z (λh4=>?_) (λh4=>?_)
 ·refine A2<|Zm Z<|Za Z<|Zb Z<|A5<|An<|Cl u8R 5 2<|Ze [(.slice none 0 0)] [2] Z
 ·refine Zt<|A2<|Zq (faB 1 Z Z underlying60 Z (by exact AU))<|Zq (ld 1 Z Z (fP (Co _)) B0 Z)<|Zc [] [(100,3)] func140 Z (YR _) λr5 n6=>Zm Z<|Zq (ext Z Z)<|Zq (ext Z Z)<|Za Z<|Zb Z<|A6<|gFrz 3 [23,5] Z (fS Z<|fS Z<|fN)<|EJ [(1,.val (A7 v1 0)),(5,.rd (A8 u8R) r5.1)] [(1,some (v1,.box 60 [.rd AA ({ a0 with Sig:=(⟨0,0⟩:AQ) })]))] [1] (sS Z<|sS Z<|sN) (Y0 Z)<|Ca λr7 h9=>Ca λU a1=>Ca λa2 a6=>gOr [] [⟨4,none,[(0,none)]⟩,⟨1,some ([], λO=>(v1,.box 60 [.rd AA ({ a0 with Sig:=(⟨0,0⟩:AQ) })])),[]⟩,⟨5,none,[(4,none)]⟩,⟨6,none,[(8,none)]⟩,⟨7,none,[(12,none)]⟩,⟨8,none,[(13,none)]⟩,⟨9,none,[(14,some ([6], λO=>((O 6),.list u8R 5 a2)))]⟩] [⟨some (25,[], λO=>.rd (A8 u8R) [111]),[(0,0,true)],[1],[]⟩,pk 26 (.val (A7 v1 (0+0))) [(1,0,false)],pk 27 (.rd A9 (({ a0 with Sig:=(⟨0,0⟩:AQ) }).Author)) [(1,0,false)],pd 28 (.rd Ar ((({ a0 with Sig:=(⟨0,0⟩:AQ) }).Author).toUInt64)),⟨some (29,[], λO=>.rd (A8 u8R) r7),[(2,0,true)],[2],[]⟩,pd 30 (.rd (A8 u8R) r5.1),pk 31 (.val (A7 v1 (0+2))) [(1,0,false)],pk 32 (.rd Ar (({ a0 with Sig:=(⟨0,0⟩:AQ) }).Stamp)) [(1,0,false)],⟨some (33,[], λO=>.rd (A8 u8R) U),[(3,0,true)],[3],[]⟩,pk 34 (.val (A7 v1 (0+3))) [(1,0,false)],pk 35 (.val (A7 v1 (0+3+0))) [(1,0,false)],pk 36 (.rd u8R ((({ a0 with Sig:=(⟨0,0⟩:AQ) }).Act).Kind)) [(1,0,false)],⟨some (37,[], λO=>.rd (A8 u8R) [(({ a0 with Sig:=(⟨0,0⟩:AQ) }).Act).Kind]),[(4,0,true)],[4],[]⟩,⟨some (38,[], λO=>.rd (A8 (A8 u8R)) [[111],r7,r5.1,U,[(({ a0 with Sig:=(⟨0,0⟩:AQ) }).Act).Kind]]),[(5,0,true)],[5],[]⟩,⟨some (39,[6], λO=>.val (O 6)),[(6,0,true)],[6],[]⟩,⟨some (7,[6], λO=>.val (O 6)),[],[],[]⟩] mixed (oC (oFz (A1:=λO=>[(4,some ((O 1),.list u8R 5 [111]))]) 4 1 (oEf 4 1 (λO E=>lit (R:=u8R) ([111]:List UInt8) 4 (pP Z Z<|pN) Z tu36 ti5 Z Z)))<|oC (oRn (λO E=>faB 1 Z Z underlying60 Z (by exact B4)))<|oC (oRn (λO E=>ld 1 Z Z (fP (Fv _)) Bm Z))<|oC (oRn (λO E=>W.toU Z tu51 tu52))<|oC (oFz (A1:=λO=>[(5,some ((O 2),.list u8R 5 r7))]) 5 2 (oCl [2] [] [(100,5)] h9 func22 Z (λO=>(EX _)) (λO=>(Y1 Z)) (λO E=>rN)))<|oC (oRn (λO E=>mv Z))<|oC (oRn (λO E=>faB 1 Z Z underlying60 Z (by exact CV)))<|oC (oRn (λO E=>ld 1 Z Z (fP (Fc _)) CR Z))<|oC (oFz (A1:=λO=>[(6,some ((O 3),.list u8R 5 U))]) 6 3 (oCl [3] [] [(100,6)] a1 func22 Z (λO=>(EX _)) (λO=>(Y1 Z)) (λO E=>rN)))<|oC (oRn (λO E=>faB 1 Z Z underlying60 Z (by exact Cj)))<|oC (oRn (λO E=>faB 1 Z Z underlying56 Z (by exact ti5)))<|oC (oRn (λO E=>ld 1 Z Z ((fP (Ct _)).part (DS _)) ty5 Z))<|oC (oFz (A1:=λO=>[(7,some ((O 4),.list u8R 5 [(({ a0 with Sig:=(⟨0,0⟩:AQ) }).Act).Kind]))]) 7 4 (oEf 7 4 (λO E=>lit (R:=u8R) ([(({ a0 with Sig:=(⟨0,0⟩:AQ) }).Act).Kind]:List UInt8) 7 (pP Z Z<|pN) Z tu36 ti5 Z Z)))<|oC (oFz (A1:=λO=>[(8,some ((O 5),.list (A8 u8R) 36 [[111],r7,r5.1,U,[(({ a0 with Sig:=(⟨0,0⟩:AQ) }).Act).Kind]]))]) 8 5 (oEf 8 5 (λO E=>lit (R:=(A8 u8R)) ([[111],r7,r5.1,U,[(({ a0 with Sig:=(⟨0,0⟩:AQ) }).Act).Kind]]:List (List UInt8)) 8 (pP Z Z<|pP Z Z<|pP Z Z<|pP Z Z<|pP Z Z<|pN) Z tu126 CD Z Z)))<|oC (oCl [6] [] [(100,9)] a6 func28 Z (λO=>(HV _)) (λO=>(Y1 Z)) (λO E=>rN))<|oC (oRn (λO E=>asg Z))<|oN) λa7=>Af<|A6<|A2<|Zq (faB 1 Z Z underlying60 Z (by exact Cj))<|Zq (faB 1 Z Z underlying56 Z (by exact ti5))<|Zq (ld 1 Z Z ((fP (Ct _)).part (DS _)) ty5 Z)<|Zq (B.eql Z Z)<|Zj Z (λa8=>?_) (λa8=>?_)
  ·refine A2<|Zm Z<|Za Z<|Zb Z<|A5<|An<|Ze [(a7 6)] [9] Z
  ·refine Zt<|A2<|Zq (faB 1 Z Z underlying60 Z (by exact Cj))<|Zq (faB 1 Z Z underlying56 Z (by exact ti9))<|Zq (ld 1 Z Z ((fP (Ct _)).part (DT _)) ty9 Z)<|Al λah aa=>IS Z Z aa tu9 tu36 tu5<|Zc [] [(100,10)] func42 Z (LU _) λai aj=>Zm Z<|Zq (ext Z Z)<|Zq (ext Z Z)<|Za Z<|Zb Z<|A2<|Zm Z<|Zm Z<|Al λak ab=>Ef Z (apn 9 Z Z Z (.own 10 Z) ab tu36 ti5 Z Z Z) λac=>Zb Z<|A6<|A2<|Zq (faB 1 Z Z underlying60 Z (by exact Cj))<|Zq (faB 1 Z Z underlying56 Z (by exact ti5))<|Zq (ld 1 Z Z ((fP (Ct _)).part (DS _)) ty5 Z)<|Zq (B.eql Z Z)<|Zj Z (λad=>?_) (λad=>?_)
   ·refine A2<|Zq (faB 1 Z Z underlying60 Z (by exact Cj))<|Zq (faB 1 Z Z underlying56 Z (by exact Cp))<|Zq (ld 1 Z Z ((fP (Ct _)).part (FM _)) Dv Z)<|Zc [] [(100,11)] func21 Z (SY _) λam ao=>Zm Z<|Zq (ext Z Z)<|Zq (ext Z Z)<|Za Z<|Zb Z<|Ai<|Zm Z<|Zm Z<|Al λap ae=>Ef Z (apn 9 Z Z Z (.own 11 Z) ae tu36 ti5 Z Z Z) λaf=>Zb Z<|A2<|Zm Z<|Za Z<|Zb Z<|A5<|Ze [af] [9] Z
   ·refine Zt<|A2<|Zm Z<|Za Z<|Zb Z<|A5<|Ze [ac] [9] Z
def H8 (a0:Ab):Option ((List UInt8) × Int) :=
 H6 a0>>=λO =>
 if O != 0 then
  some ([],O)
 else
  J7 a0>>=λr5 =>
  Ev a0.Sig.E.toUInt64>>=λr7 =>
  Ev a0.Sig.S.toUInt64>>=λr9 =>
  Fd [r5.1,r7,r9]>>=λU =>
  some (U,0)
theorem T0 (a0:Ab):Ah Tryz.prog 59 [.rd AA a0] [] (H8 a0) (λr O=>⟨[.val (O 0),.rd A3 r.2],[(100,some (O 0,.list u8R 5 r.1))]⟩):=by
 refine Am 30 func59 Z Z Z λH w=>?_;refine A2<|Eb Z (bx 1 Z) λv1=>Za Z<|Zb Z<|A6<|A2<|Zq (ld 1 Z Z fH C4 Z)<|Zc [] [] func91 Z (P7 _) λr2 n3=>Zb Z<|A2<|Zm Z<|Zq (I.neq Z Z)<|Zj Z (λh4=>?_) (λh4=>?_)
 ·refine A2<|Zm Z<|Za Z<|Zb Z<|A5<|An<|Cl u8R 5 2<|Ze [(.slice none 0 0)] [2] Z
 ·refine Zt<|A2<|Zq (ld 1 Z Z fH C4 Z)<|Zc [] [(100,3)] func92 Z (SZ _) λr5 n6=>Zm Z<|Zq (ext Z Z)<|Zq (ext Z Z)<|Za Z<|Zb Z<|A6<|Bq [19,34,37,40] mixed Z Z<|A4 0 Z Z (mv Z)<|A4 1 Z Z (faB 1 Z Z underlying60 Z (by exact DR))<|A4 2 Z Z (faB 1 Z Z underlying58 Z (by exact B4))<|A4 3 Z Z (ld 1 Z Z ((fP (Er _)).part (Fu _)) Bm Z)<|A4 4 Z Z (W.toU Z tu51 tu52)<|A4 6 Z Z (faB 1 Z Z underlying60 Z (by exact DR))<|A4 7 Z Z (faB 1 Z Z underlying58 Z (by exact B4))<|A4 8 Z Z (ld 1 Z Z ((fP (Er _)).part (Gk _)) Bm Z)<|A4 9 Z Z (W.toU Z tu51 tu52)<|Be 5 [] [(100,19)] Z (by kernel_rfl) Z (gd0 Z) Z func22 Z Z (EX _) (Y1 Z) rN Z (λ_ _=>C1) λr7 n8=>Be 10 [] [(100,34)] Z (by kernel_rfl) Z (gd0 Z) Z func22 Z Z (EX _) (Y1 Z) rN Z (λ_ _=>C1) λr9 a1=>DJ 3 [15,5,17] Z (fS Z<|fS Z<|fS Z<|fN)<|DJ 19 [22] Z (fS Z<|fN)<|DJ 34 [27] Z (fS Z<|fN)<|Zo 11 Z Z Z (lit (R:=(A8 u8R)) ([r5.1,r7,r9]:List (List UInt8)) 37 (pP Z Z<|pP Z Z<|pP Z Z<|pN) Z tu126 CD Z Z) λa2=>DJ 37 [28] Z (fS Z<|fN)<|Be 12 [] [(100,40)] Z (by kernel_rfl) Z (gd0 Z) Z func28 Z Z (HV _) (Y1 Z) rN Z (λ_ _=>C1) λa6 U=>Zf 13 Z Z C1 (asg Z)<|A4 14 Z Z (asg Z)<|AV (by kernel_rfl)<|Af<|A5<|Ze [(U 0)] [40] Z
def Pa (a0:List UInt8):Option (Bool) :=
 some (decide (10000<(a0.length:Int)))>>=λO =>
 some O
theorem YU (a0:List UInt8):Ah Tryz.prog 152 [.rd (A8 u8R) a0] [] (Pa a0) (λr nv=>⟨[.rd Ac r],[]⟩):=by
 refine Am 6 func152 Z Z Z λH w=>?_;refine A2<|Zb Z<|A2<|Zm Z<|Zq (Aq Z .rd Z tu36)<|Zq (I.gtr Z Z)<|Za Z<|AI 2 Z λy1=>Zn<|A5<|Ze [] [] Z
def LW  : Option (Cr) :=
 some (⟨(#v[1779033703,3144134277,1013904242,2773480762,1359893119,2600822924,528734635,1541459225]:Vector UInt32 8),[],0⟩:Cr)
theorem YV  : Ah Tryz.prog 153 [] [] (LW) (λr nv=>⟨[.rd Dn r],[]⟩):=by
 refine Am 3 func153 Z Z Z λH w=>?_;refine A2<|Eb Z (AN 1 Fo (ZrE.rd (R:=(Az 8 A9)) (x:=(Vector.replicate 8 0)) Gl (ZrE.nilS (ZrE.rd (R:=A3) (x:=0) (Zr.num Z) ZrE.nil Z)) Z)) λv1=>Zn<|A2<|Zq (litA (R:=A9) [1779033703,3144134277,1013904242,2773480762,1359893119,2600822924,528734635,1541459225] (#v[1779033703,3144134277,1013904242,2773480762,1359893119,2600822924,528734635,1541459225]:Vector UInt32 8) (pP Z Z<|pP Z Z<|pP Z Z<|pP Z Z<|pP Z Z<|pP Z Z<|pP Z Z<|pP Z Z<|pN) Z tu183 E5 Z B4)<|Zq (bldE [(0,8),(8,1),(9,1)] underlying220 Fo (ZrE.rd (R:=(Az 8 A9)) (x:=(Vector.replicate 8 0)) Gl (ZrE.nilS (ZrE.rd (R:=A3) (x:=0) (Zr.num Z) ZrE.nil Z)) Z) Z (D3.cons Z Z Bj (By.cast (By.here Bj) Z)<|D3.done Z))<|Es (stoG 1 Z Z (AH.cast (AH.cons Bj (AH.cons BG (AH.cons Bj AH.nil))) Z) Z (BO.cons D0 (BO.cons Cx (BO.cons D0 BO.nil))) (AH.cast (AH.cons Bj (AH.cons BG (AH.cons Bj AH.nil))) Z) Fo)<|Zn<|A5<|ePnl u8R [.rd (Az 8 A9) (#v[1779033703,3144134277,1013904242,2773480762,1359893119,2600822924,528734635,1541459225]:Vector UInt32 8),.rd (A8 u8R) [],.rd A3 0] 1 [.rd (Az 8 A9) (#v[1779033703,3144134277,1013904242,2773480762,1359893119,2600822924,528734635,1541459225]:Vector UInt32 8)] [.rd A3 0] Z Z Z<|eJoi (R:=Dn) (⟨(#v[1779033703,3144134277,1013904242,2773480762,1359893119,2600822924,528734635,1541459225]:Vector UInt32 8),[],0⟩:Cr) 1 Z (Sp.via (Sp.prod (Sp.prod (Sp.prod Sp.unit))))<|BF [] [] Z (eC 1 Z Z Gq<|eN) (rN)
def Fz (a0:UInt32) (U:Int):Option (UInt32) :=
 some ((UInt64.ofInt U) &&& 31)>>=λO =>
 some ((FH a0 O.toNat) ||| (BV a0 ((32 - O).toNat)))>>=λy2 =>
 some y2
theorem H9 (a0:UInt32) (O:Int):Ah Tryz.prog 247 [.rd A9 a0,.rd A3 O] [] (Fz a0 O) (λr nv=>⟨[.rd A9 r],[]⟩):=by
 refine Am 17 func247 Z Z Z λH w=>?_;refine A2<|Zb Z<|A2<|Zm Z<|Zq (I.toU Z tu3 underlying151)<|Zq (U.and Z Z)<|Za Z<|AI 5 Z λy1=>Zn<|A2<|Zm Z<|Zm Z<|Zq (W.shl Z Z (Int.natCast_nonneg _))<|Zm Z<|Zm Z<|Zq (U.sub Z Z)<|Zq (W.shr Z Z (Int.natCast_nonneg _))<|Zq (W.or Z Z)<|Za Z<|AI 4 Z λy2=>Zn<|A5<|Ze [] [] Z
def J8 (U:List UInt8) (O:(Vector UInt32 64) × Int):Option (Sum ((Vector UInt32 64)) ((Vector UInt32 64) × Int)) :=
 if decide (O.2<(U.length:Int)) then
  idx U O.2>>=λx7 =>
  B8 O.1 (w64 (Int.tdiv O.2 4))>>=λx9 =>
  B8 O.1 (w64 (Int.tdiv O.2 4))>>=λa1 =>
  some (.inr (CB O.1 (w64 (Int.tdiv O.2 4)) ((FH x9 8) ||| x7.toUInt32),w64 (O.2+1)))
 else
  some (.inl O.1)
def HW (O:(Vector UInt32 64) × Int):Option (Sum ((Vector UInt32 64)) ((Vector UInt32 64) × Int)) :=
 if decide (O.2<64) then
  B8 O.1 (w64 (O.2 - 15))>>=λU =>
  B8 O.1 (w64 (O.2 - 2))>>=λa1 =>
  Fz U (-7)>>=λa2 =>
  Fz U (-18)>>=λa6 =>
  some ((a2 ^^^ a6) ^^^ (BV U 3))>>=λa7 =>
  Fz a1 (-17)>>=λa8 =>
  Fz a1 (-19)>>=λaa =>
  some ((a8 ^^^ aa) ^^^ (BV a1 10))>>=λab =>
  B8 O.1 (w64 (O.2 - 16))>>=λac =>
  B8 O.1 (w64 (O.2 - 7))>>=λad =>
  B8 O.1 O.2>>=λaf =>
  some (w64 (O.2+1))>>=λae =>
  some (.inr (CB O.1 O.2 (((ac+ad)+a7)+ab),ae))
 else
  some (.inl O.1)
def Pb (a0:List UInt8):Option ((Vector UInt32 64)) :=
 (cut a0 0 64>>=λU =>
 iter (J8 U) ((Vector.replicate 64 0),0))>>=λs2 =>
 (iter (HW) (s2,16))>>=λO =>
 some O
theorem YW (a0:List UInt8):Ah Tryz.prog 232 [.rd (A8 u8R) a0] [] (Pb a0) (λr U=>⟨[.rd (Az 64 A9) r],[]⟩):=by
 refine Am 74 func232 Z Z Z λH w=>?_;refine A2<|Eb Z (AN 1 IU (.zr (R:=(Az 64 A9)) (x:=(Vector.replicate 64 0)) SI)) λv1=>Zn<|AY (λ(s2:(Vector UInt32 64)) aa ww=>Sta (ctx 74 H [] w) [(2,.val (A7 v1 0))] [(1,some (v1,.box 284 [.rd (Az 64 A9) s2]))] aa ww) ?_ (λs2=>?_)
 ·refine A2<|Zm Z<|Al λx3 h4=>Zq (cut' Z .no (.to Z) h4 tu36 ti5)<|Zq (Aq Z .rd Z tu36)<|Zm Z<|Zn<|AJ (λ(s5:(Vector UInt32 64) × Int) aa ww=>Sta (ctx 74 H [] w) [(2,.val (A7 v1 0)),(11,.rd (A8 u8R) x3),(12,.rd A3 (x3.length:Int)),(13,.rd A3 s5.2)] [(1,some (v1,.box 284 [.rd (Az 64 A9) s5.1]))] aa ww) (λaa ww h=>Zu h [1]) (λs5=>?_);refine A2<|Zq (I.lss Z Z)<|Zn<|A6<|gIf Z Z (λh6=>?_) (λh6=>?_)
  ·refine Zt<|A6<|AB<|A2<|Zm Z<|Al λx7 h8=>Zq (ixR Z Z h8 tu36 ti5 Z)<|Zq (ldR Z ty5)<|Za Z<|Zb Z<|Ai<|Zm Z<|Zq (I.quo Z Z (by decide))<|Zm Z<|Zq (I.quo Z Z (by decide))<|Al λx9 a8=>Zq (ixB 1 Z Z Z a8 underlying284 B4)<|Zq (ld 1 Z Z (fP (.el a8)) Bm Z)<|Zq (W.shl Z Z (Int.natCast_nonneg _))<|Zm Z<|Zq (B.toW Z tu5 tu51)<|Zq (W.or Z Z)<|Al λak ab=>Zq (ixB 1 Z Z Z ab underlying284 B4)<|Es (sto 1 Z Z (fP (.el ab)) Z B4)<|Ae<|Ap<|Af<|Ai<|Zq (I.add Z Z)<|Zm Z<|Ae<|Au (λaa ww h=>Zu h [1])
  ·refine AC<|AD<|AG<|Av (λaa ww h=>Zu h [1])
 ·refine AY (λ(ac:(Vector UInt32 64)) aa ww=>Sta (ctx 74 H [] w) [(2,.val (A7 v1 0))] [(1,some (v1,.box 284 [.rd (Az 64 A9) ac]))] aa ww) ?_ (λac=>?_)
  ·refine A2<|Zb Z<|AJ (λ(O:(Vector UInt32 64) × Int) aa ww=>Sta (ctx 74 H [] w) [(2,.val (A7 v1 0)),(5,.rd A3 O.2)] [(1,some (v1,.box 284 [.rd (Az 64 A9) O.1]))] aa ww) (λaa ww h=>Zu h [1]) (λO=>?_);refine A6<|A2<|Zm Z<|Zq (I.lss Z Z)<|Zj Z (λaj=>?_) (λaj=>?_)
   ·refine Zt<|A6<|AB<|A6<|Dh mixed (by kernel_rfl)<|Rq Z (mv Z)<|Rq Z (I.sub Z Z)<|C3 λam ad=>Rq Z (ixB 1 Z Z Z ad underlying284 B4)<|Rq Z (ld 1 Z Z (fP (.el ad)) Bm Z)<|Rq Z (mv Z)<|Rq Z (I.sub Z Z)<|C3 λao ae=>Rq Z (ixB 1 Z Z Z ae underlying284 B4)<|Rq Z (ld 1 Z Z (fP (.el ae)) Bm Z)<|Rq Z (asg Z)<|Rq Z (asg Z)<|Dd<|Af<|A2<|Zm Z<|Zc [] [] func247 Z (H9 _ _) λap aq=>Zm Z<|Zc [] [] func247 Z (H9 _ _) λar au=>Zq (W.xor Z Z)<|Zm Z<|Zq (W.shr Z Z (Int.natCast_nonneg _))<|Zq (W.xor Z Z)<|Za Z<|AI 8 Z λa1=>Zn<|A2<|Zm Z<|Zc [] [] func247 Z (H9 _ _) λav aw=>Zm Z<|Zc [] [] func247 Z (H9 _ _) λax ay=>Zq (W.xor Z Z)<|Zm Z<|Zq (W.shr Z Z (Int.natCast_nonneg _))<|Zq (W.xor Z Z)<|Za Z<|AI 9 Z λa7=>Zn<|EJ [(2,.val (A7 v1 0)),(5,.rd A3 O.2),(8,.rd A9 a1),(9,.rd A9 a7)] [(1,some (v1,.box 284 [.rd (Az 64 A9) O.1]))] [1] (Zs Z Z Z Z<|sN) (Y0 Z)<|Ca λa2 af=>Ca λa6 ah=>Ca λaz ai=>gOr [] [⟨1,some ([], λU=>(v1,.box 284 [.rd (Az 64 A9) O.1])),[(15,some ([], λU=>(v1,.box 284 [.rd (Az 64 A9) (CB O.1 O.2 (((a2+a6)+a1)+a7))])))]⟩] [pd 58 (.rd A3 O.2),pd 59 (.rd A3 O.2),pd 60 (.rd A3 (w64 (O.2 - 16))),pk 61 (.val (A7 v1 (0+(w64 (O.2 - 16):Int).toNat * 1))) [(0,0,false)],pk 62 (.rd A9 a2) [(0,0,false)],pd 63 (.rd A3 O.2),pd 64 (.rd A3 (w64 (O.2 - 7))),pk 65 (.val (A7 v1 (0+(w64 (O.2 - 7):Int).toNat * 1))) [(0,0,false)],pk 66 (.rd A9 a6) [(0,0,false)],pd 67 (.rd A9 (a2+a6)),pd 68 (.rd A9 a1),pd 69 (.rd A9 ((a2+a6)+a1)),pd 70 (.rd A9 a7),pd 71 (.rd A9 (((a2+a6)+a1)+a7)),pk 72 (.val (A7 v1 (0+(O.2:Int).toNat * 1))) [(0,0,false)],⟨none,[(0,0,true)],[],[]⟩] mixed (oC (oRn (λU E=>mv Z))<|oC (oRn (λU E=>mv Z))<|oC (oRn (λU E=>I.sub Z Z))<|oC (oRn (λU E=>ixB 1 Z Z Z af underlying284 B4))<|oC (oRn (λU E=>ld 1 Z Z (fP (.el af)) Bm Z))<|oC (oRn (λU E=>mv Z))<|oC (oRn (λU E=>I.sub Z Z))<|oC (oRn (λU E=>ixB 1 Z Z Z ah underlying284 B4))<|oC (oRn (λU E=>ld 1 Z Z (fP (.el ah)) Bm Z))<|oC (oRn (λU E=>W.add Z Z))<|oC (oRn (λU E=>mv Z))<|oC (oRn (λU E=>W.add Z Z))<|oC (oRn (λU E=>mv Z))<|oC (oRn (λU E=>W.add Z Z))<|oC (oRn (λU E=>ixB 1 Z Z Z ai underlying284 B4))<|oC (oEs 1 (λU E=>sto 1 Z Z (fP (.el ai)) Z B4))<|oN) λb0=>Ap<|Af<|Ai<|Zm Z<|Zq (I.add Z Z)<|Za Z<|AI 5 Z λb1=>Ae<|Au (λaa ww h=>Zu h [1])
   ·refine AC<|AD<|AG<|Av (λaa ww h=>Zu h [1])
  ·refine A2<|Zq (ld 1 Z Z fH SJ Z)<|Es (sto 1 Z Z fH Z IU)<|Zn<|A5<|BF [] [] Z (eC 1 Z Z SJ<|eN) (rN)
def J9 (a0:UInt32) (O:Int) (U:Int) (a3:Int):Option (UInt32) :=
 Fz a0 (w64 (0 - O))>>=λr1 =>
 Fz a0 (w64 (0 - U))>>=λr3 =>
 Fz a0 (w64 (0 - a3))>>=λr5 =>
 some ((r1 ^^^ r3) ^^^ r5)>>=λy7 =>
 some y7
theorem T1 (a0:UInt32) (O:Int) (U:Int) (a3:Int):Ah Tryz.prog 233 [.rd A9 a0,.rd A3 O,.rd A3 U,.rd A3 a3] [] (J9 a0 O U a3) (λr nv=>⟨[.rd A9 r],[]⟩):=by
 refine Am 23 func233 Z Z Z λH w=>?_;refine A2<|Zb Z<|A2<|Zm Z<|Zm Z<|Zq (I.neg Z)<|Zc [] [] func247 Z (H9 _ _) λr1 n2=>Zm Z<|Zm Z<|Zq (I.neg Z)<|Zc [] [] func247 Z (H9 _ _) λr3 n4=>Zq (W.xor Z Z)<|Zm Z<|Zm Z<|Zq (I.neg Z)<|Zc [] [] func247 Z (H9 _ _) λr5 n6=>Zq (W.xor Z Z)<|Za Z<|AI 8 Z λy7=>Zn<|A5<|Ze [] [] Z
def Pc (a0:List UInt8):Option ((List UInt8)) :=
 app 1 ([]:List UInt8) a0>>=λO =>
 some O
theorem T2 (a0:List UInt8):Ah Tryz.prog 193 [.rd (A8 u8R) a0] [] (Pc a0) (λr O=>⟨[.val (O 0)],[(100,some (O 0,.list u8R 5 r))]⟩):=by
 refine Am 8 func193 Z Z Z λH w=>?_;refine A2<|Zb Z<|A6<|A2<|Zm Z<|Sm Z Z .rd Z tu36 (λU=>?_) ?_
 ·subst U;refine Zn<|CL Z<|A2<|Zb Z<|A5<|An<|Cl u8R 5 1<|Ze [(.slice none 0 0)] [1] Z
 ·refine Zn<|DX Z<|Zt<|A2<|Ef Z (lit (R:=u8R) (([]:List UInt8):List UInt8) 2 (pN) Z tu36 ti5 Z Z) λv2=>Zm Z<|Al λx3 h4=>Ef Z (apn 2 Z Z Z .rd h4 tu36 ti5 Z Z Z) λv5=>Zb Z<|A5<|Ze [v5] [2] Z
def Ha (r1:(Vector UInt32 64)) (O:UInt32 × UInt32 × UInt32 × UInt32 × UInt32 × UInt32 × UInt32 × UInt32 × Int):Option (Sum (UInt32 × UInt32 × UInt32 × UInt32 × UInt32 × UInt32 × UInt32 × UInt32) (UInt32 × UInt32 × UInt32 × UInt32 × UInt32 × UInt32 × UInt32 × UInt32 × Int)) :=
 if decide (O.2.2.2.2.2.2.2.2<64) then
  B8 C6 O.2.2.2.2.2.2.2.2>>=λa1 =>
  B8 r1 O.2.2.2.2.2.2.2.2>>=λa2 =>
  J9 O.2.2.2.2.1 6 11 25>>=λa6 =>
  some ((((O.2.2.2.2.2.2.2.1+a6)+((O.2.2.2.2.1 &&& O.2.2.2.2.2.1) ^^^ ((~~~O.2.2.2.2.1) &&& O.2.2.2.2.2.2.1)))+a1)+a2)>>=λU =>
  J9 O.1 2 13 22>>=λa7 =>
  some (a7+(((O.1 &&& O.2.1) ^^^ (O.1 &&& O.2.2.1)) ^^^ (O.2.1 &&& O.2.2.1)))>>=λa8 =>
  some (O.2.2.2.1+U)>>=λaa =>
  some (.inr (U+a8,O.1,O.2.1,O.2.2.1,aa,O.2.2.2.2.1,O.2.2.2.2.2.1,O.2.2.2.2.2.2.1,w64 (O.2.2.2.2.2.2.2.2+1)))
 else
  some (.inl (O.1,O.2.1,O.2.2.1,O.2.2.2.1,O.2.2.2.2.1,O.2.2.2.2.2.1,O.2.2.2.2.2.2.1,O.2.2.2.2.2.2.2.1))
def Pd (U:UInt32 × UInt32 × UInt32 × UInt32 × UInt32 × UInt32 × UInt32 × UInt32) (O:(Vector UInt32 8) × Int):Option (Sum ((Vector UInt32 8)) ((Vector UInt32 8) × Int)) :=
 if decide (O.2<8) then
  B8 (#v[U.1,U.2.1,U.2.2.1,U.2.2.2.1,U.2.2.2.2.1,U.2.2.2.2.2.1,U.2.2.2.2.2.2.1,U.2.2.2.2.2.2.2]:Vector UInt32 8) O.2>>=λa1 =>
  B8 O.1 O.2>>=λa2 =>
  B8 O.1 O.2>>=λa6 =>
  some (.inr (CB O.1 O.2 (a2+a1),w64 (O.2+1)))
 else
  some (.inl O.1)
def LX (c0:Vector UInt32 8) (a1:List UInt8):Option ((Vector UInt32 8)) :=
 Pb a1>>=λr1 =>
 B8 c0 0>>=λx4 =>
 B8 c0 1>>=λx6 =>
 B8 c0 2>>=λx8 =>
 B8 c0 3>>=λO =>
 B8 c0 4>>=λU =>
 B8 c0 5>>=λa2 =>
 B8 c0 6>>=λa6 =>
 B8 c0 7>>=λa7 =>
 (iter (Ha r1) (x4,x6,x8,O,U,a2,a6,a7,0))>>=λa8 =>
 iter (Pd a8) (c0,0)
theorem YX (a2:Value) (a8:Nat) (a6:(Vector UInt32 8)->AO) (U:∀ y,Foc (a6 y) a8 (Az 8 A9) y a6) (c0:Vector UInt32 8) (a1:List UInt8):Ah Tryz.prog 192 [.val (A7 a2 a8),.rd (A8 u8R) a1] [(1,some (a2,a6 c0)),AE] (LX c0 a1) (λr nv=>⟨[],[(1,some (a2,a6 r)),(1001,some (.bool true,.glob 1 (Az 64 A9) C6))]⟩):=by
 refine Am 126 func192 Z Z Z λH w=>?_;refine A2<|Zm Z<|Zc [] [] func232 Z (YW _) λr1 n2=>Eb Z (AN 2 IU (.zr (R:=(Az 64 A9)) (x:=(Vector.replicate 64 0)) SI)) λv3=>Es (sto 2 Z Z fH Z IU)<|Zn<|A6<|Dh mixed (by kernel_rfl)<|Rq Z (mv Z)<|Rq Z (nckP 1 Z Z (U _))<|C3 λx4 h5=>Rq Z (ixH 1 Z Z (U _) Z h5 tu183 B4)<|Rq Z (ld 1 Z Z ((U _).part (.el h5)) Bm Z)<|Rq Z (mv Z)<|Rq Z (nckP 1 Z Z (U _))<|C3 λx6 h7=>Rq Z (ixH 1 Z Z (U _) Z h7 tu183 B4)<|Rq Z (ld 1 Z Z ((U _).part (.el h7)) Bm Z)<|Rq Z (mv Z)<|Rq Z (nckP 1 Z Z (U _))<|C3 λx8 h9=>Rq Z (ixH 1 Z Z (U _) Z h9 tu183 B4)<|Rq Z (ld 1 Z Z ((U _).part (.el h9)) Bm Z)<|Rq Z (mv Z)<|Rq Z (nckP 1 Z Z (U _))<|C3 λar ac=>Rq Z (ixH 1 Z Z (U _) Z ac tu183 B4)<|Rq Z (ld 1 Z Z ((U _).part (.el ac)) Bm Z)<|Rq Z (mv Z)<|Rq Z (nckP 1 Z Z (U _))<|C3 λau ad=>Rq Z (ixH 1 Z Z (U _) Z ad tu183 B4)<|Rq Z (ld 1 Z Z ((U _).part (.el ad)) Bm Z)<|Rq Z (mv Z)<|Rq Z (nckP 1 Z Z (U _))<|C3 λav ae=>Rq Z (ixH 1 Z Z (U _) Z ae tu183 B4)<|Rq Z (ld 1 Z Z ((U _).part (.el ae)) Bm Z)<|Rq Z (mv Z)<|Rq Z (nckP 1 Z Z (U _))<|C3 λaw af=>Rq Z (ixH 1 Z Z (U _) Z af tu183 B4)<|Rq Z (ld 1 Z Z ((U _).part (.el af)) Bm Z)<|Rq Z (mv Z)<|Rq Z (nckP 1 Z Z (U _))<|C3 λax ah=>Rq Z (ixH 1 Z Z (U _) Z ah tu183 B4)<|Rq Z (ld 1 Z Z ((U _).part (.el ah)) Bm Z)<|Rq Z (asg Z)<|Rq Z (asg Z)<|Rq Z (asg Z)<|Rq Z (asg Z)<|Rq Z (asg Z)<|Rq Z (asg Z)<|Rq Z (asg Z)<|Rq Z (asg Z)<|Dd<|Af<|AY (λ(O:UInt32 × UInt32 × UInt32 × UInt32 × UInt32 × UInt32 × UInt32 × UInt32) aa ww=>Sta (ctx 126 H [(1,some (a2,a6 c0)),AE] w) [(0,.val (A7 a2 a8)),(5,.rd A9 O.1),(6,.rd A9 O.2.1),(7,.rd A9 O.2.2.1),(8,.rd A9 O.2.2.2.1),(9,.rd A9 O.2.2.2.2.1),(10,.rd A9 O.2.2.2.2.2.1),(11,.rd A9 O.2.2.2.2.2.2.1),(12,.rd A9 O.2.2.2.2.2.2.2)] [(1,some (a2,a6 c0)),AE] aa ww) ?_ (λO=>?_)
 ·refine A2<|Zm Z<|Zn<|AJ (λ(a7:UInt32 × UInt32 × UInt32 × UInt32 × UInt32 × UInt32 × UInt32 × UInt32 × Int) aa ww=>Sta (ctx 126 H [(1,some (a2,a6 c0)),AE] w) [(0,.val (A7 a2 a8)),(4,.val (A7 v3 0)),(5,.rd A9 a7.1),(6,.rd A9 a7.2.1),(7,.rd A9 a7.2.2.1),(8,.rd A9 a7.2.2.2.1),(9,.rd A9 a7.2.2.2.2.1),(10,.rd A9 a7.2.2.2.2.2.1),(11,.rd A9 a7.2.2.2.2.2.2.1),(12,.rd A9 a7.2.2.2.2.2.2.2.1),(52,.rd A3 a7.2.2.2.2.2.2.2.2)] [(1,some (a2,a6 c0)),(2,some (v3,.box 284 [.rd (Az 64 A9) r1])),AE] aa ww) (λaa ww h=>Zu h [1,2,1001]) (λa7=>?_)
  refine A2<|Zq (I.lss Z Z)<|Zn<|A6<|gIf Z Z (λam=>?_) (λam=>?_)
  ·refine Zt<|A6<|AB<|A2<|Zm Z<|Zb Z<|A6<|Bq [] mixed Z Z<|A4 0 Z Z (mv Z)<|A4 1 Z Z (mv Z)<|A4 4 Z Z (mv Z)<|A4 5 Z Z (mv Z)<|A4 6 Z Z (W.and Z Z)<|A4 7 Z Z (mv Z)<|A4 8 Z Z (W.cpl Z)<|A4 9 Z Z (mv Z)<|A4 10 Z Z (W.and Z Z)<|A4 11 Z Z (W.xor Z Z)<|A4 13 Z Z (mv Z)<|AZ λay ao=>A4 14 Z Z (ixG 1001 Z Z ao underlying284 B4)<|A4 15 Z Z (ldR Z Bm)<|A4 17 Z Z (mv Z)<|AZ λaz ai=>A4 18 Z Z (ixB 2 Z Z Z ai underlying284 B4)<|A4 19 Z Z (ld 2 Z Z (fP (.el ai)) Bm Z)<|Be 2 [] [] Z (by kernel_rfl) Z (gd0 Z) Z func233 Z Z (T1 _ _ _ _) (aQ Z<|aQ Z<|aQ Z<|aQ Z<|aN) rN Z (λ_ _=>Cb) λb0 b1=>A4 3 Z Z (W.add Z Z)<|A4 12 Z Z (W.add Z Z)<|A4 16 Z Z (W.add Z Z)<|A4 20 Z Z (W.add Z Z)<|A4 21 Z Z (asg Z)<|HH 14 Z Z λb2=>AV (by kernel_rfl)<|Af<|A2<|Zm Z<|Zc [] [] func233 Z (T1 _ _ _ _) λb3 b4=>Zm Z<|Zm Z<|Zq (W.and Z Z)<|Zm Z<|Zm Z<|Zq (W.and Z Z)<|Zq (W.xor Z Z)<|Zm Z<|Zm Z<|Zq (W.and Z Z)<|Zq (W.xor Z Z)<|Zq (W.add Z Z)<|Za Z<|AI 15 Z λb5=>Zn<|Ai<|Zm Z<|Zm Z<|Zq (W.add Z Z)<|Zm Z<|Zm Z<|Zm Z<|Zm Z<|Zm Z<|Zq (W.add Z Z)<|Zm Z<|Zm Z<|Zm Z<|Za Z<|Za Z<|Za Z<|Za Z<|Za Z<|AI 9 Z λb6=>Za Z<|Za Z<|Za Z<|Ae<|Ap<|Af<|Ai<|Zq (I.add Z Z)<|Zm Z<|Ae<|Au (λaa ww h=>Zu h [1,2,1001])
  ·refine AC<|AD<|AG<|Av (λaa ww h=>Zu h [1,1001])
 ·refine A2<|Zm Z<|Zm Z<|Zm Z<|Zm Z<|Zm Z<|Zm Z<|Zm Z<|Zm Z<|Zq (litA (R:=A9) [O.1,O.2.1,O.2.2.1,O.2.2.2.1,O.2.2.2.2.1,O.2.2.2.2.2.1,O.2.2.2.2.2.2.1,O.2.2.2.2.2.2.2] (#v[O.1,O.2.1,O.2.2.1,O.2.2.2.1,O.2.2.2.2.1,O.2.2.2.2.2.1,O.2.2.2.2.2.2.1,O.2.2.2.2.2.2.2]:Vector UInt32 8) (pP Z Z<|pP Z Z<|pP Z Z<|pP Z Z<|pP Z Z<|pP Z Z<|pP Z Z<|pP Z Z<|pN) Z tu183 E5 Z B4)<|Zm Z<|Zn<|AJ (λ(ab:(Vector UInt32 8) × Int) aa ww=>Sta (ctx 126 H [(1,some (a2,a6 c0)),AE] w) [(0,.val (A7 a2 a8)),(111,.rd (Az 8 A9) (#v[O.1,O.2.1,O.2.2.1,O.2.2.2.1,O.2.2.2.2.1,O.2.2.2.2.2.1,O.2.2.2.2.2.2.1,O.2.2.2.2.2.2.2]:Vector UInt32 8)),(112,.rd A3 ab.2)] [(1,some (a2,a6 ab.1)),AE] aa ww) (λaa ww h=>Zu h [1,1001]) (λab=>?_)
  refine A2<|Zq (I.lss Z Z)<|Zn<|A6<|gIf Z Z (λap=>?_) (λap=>?_)
  ·refine Zt<|A6<|AB<|A2<|Zm Z<|Al λb7 aq=>Zq (idxV Z Z aq tu183 B4 Bm)<|Za Z<|Zb Z<|Bq [1] mixed Z Z<|A4 0 Z Z (mv Z)<|A4 1 Z Z (mv Z)<|A4 2 Z Z (nckP 1 Z Z (U _))<|AZ λb8 aj=>A4 3 Z Z (ixH 1 Z Z (U _) Z aj tu183 B4)<|A4 5 Z Z (mv Z)<|A4 7 Z Z (nckP 1 Z Z (U _))<|hRun 4 Z (by kernel_rfl) (gd0 Z) Z Z Cb (ld 1 Z Z ((U _).part (.el aj)) Bm Z)<|A4 6 Z Z (W.add Z Z)<|AZ λb9 ak=>A4 8 Z Z (ixH 1 Z Z (U _) Z ak tu183 B4)<|Zp 9 Z Z Z Z Z (sto 1 Z Z ((U _).part (.el ak)) Z B4)<|AV (by kernel_rfl)<|Ap<|Af<|Ai<|Zq (I.add Z Z)<|Zm Z<|Ae<|Au (λaa ww h=>Zu h [1,1001])
  ·refine AC<|AD<|AG<|Ze [] [1,1001] Z
def Ja (O:Cr × (List UInt8)):Option (Sum (Cr × (List UInt8)) (Cr × (List UInt8))) :=
 if decide (64<=(O.2.length:Int)) then
  LX O.1.Words O.2>>=λU =>
  cut O.2 64 (O.2.length:Int)>>=λa1 =>
  some (.inr ({ O.1 with Words:=U },a1))
 else
  some (.inl (O.1,O.2))
def HX (a0:Cr) (U:List UInt8):Option (Cr) :=
 Fd [a0.Rest,U]>>=λr4 =>
 (iter (Ja) (a0,r4))>>=λO =>
 Pc O.2>>=λa2 =>
 some (⟨({ O.1 with N:=w64 (O.1.N+(U.length:Int)) }).Words,a2,({ O.1 with N:=w64 (O.1.N+(U.length:Int)) }).N⟩:Cr)
theorem T3 (a0:Cr) (U:List UInt8):Ah Tryz.prog 154 [.rd Dn a0,.rd (A8 u8R) U] [AE] (HX a0 U) (λr nv=>⟨[.rd Dn r],[(1001,some (.bool true,.glob 1 (Az 64 A9) C6))]⟩):=by
 refine Am 29 func154 Z Z Z λH w=>?_;refine A2<|Eb Z (bx 1 Z) λv1=>Eb Z (AN 2 Fo (ZrE.rd (R:=(Az 8 A9)) (x:=(Vector.replicate 8 0)) Gl (ZrE.nilS (ZrE.rd (R:=A3) (x:=0) (Zr.num Z) ZrE.nil Z)) Z)) λv2=>Zn<|A2<|Zq (faB 1 Z Z underlying220 Z (by exact CD))<|Zq (ld 1 Z Z (fP (Yd _)) ty36 Z)<|Zm Z<|Ef Z (lit (R:=(A8 u8R)) ([a0.Rest,U]:List (List UInt8)) 3 (pP Z Z<|pP Z Z<|pN) Z tu126 CD Z Z) λv3=>BW 3 [9] Z (fS Z<|fN)<|Zc [] [(100,4)] func28 Z (HV _) λr4 n5=>Zb Z<|AY (λ(O:Cr × (List UInt8)) aa ww=>Sta (ctx 29 H [AE] w) [(1,.rd (A8 u8R) U),(2,.val (A7 v1 0)),(4,.val (A7 v2 0)),(5,.rd (A8 u8R) O.2)] [(1,some (v1,.box 220 [.rd Dn O.1])),(2,some (v2,.box 220 [.rd (Az 8 A9) (Vector.replicate 8 0),.val (.slice none 0 0),.rd A3 0])),AE] aa ww) ?_ (λO=>?_)
 ·refine gFrz 4 [10,5] Z (fS Z<|fS Z<|fN)<|AJ (λ(s7:Cr × (List UInt8)) aa ww=>Sta (ctx 29 H [AE] w) [(1,.rd (A8 u8R) U),(2,.val (A7 v1 0)),(4,.val (A7 v2 0)),(5,.rd (A8 u8R) s7.2)] [(1,some (v1,.box 220 [.rd Dn s7.1])),(2,some (v2,.box 220 [.rd (Az 8 A9) (Vector.replicate 8 0),.val (.slice none 0 0),.rd A3 0])),AE] aa ww) (λaa ww h=>Zu h [1,2,1001]) (λs7=>?_);refine A6<|A2<|Zm Z<|Zq (Aq Z .rd Z tu36)<|Zq (I.geq Z Z)<|Zj Z (λh8=>?_) (λh8=>?_)
  ·refine Zt<|AB<|A2<|Zq (faB 1 Z Z underlying220 Z (by exact E5))<|Zm Z<|call [1,1001] [(1,1)] Z func192 Z Z (YX _ _ (λy9=>.box 220 [.rd Dn ({ s7.1 with Words:=y9 })]) (λ_=>(fP (SG _))) _ _) (Y2 Z Z) (Zi Z<|Zi Z<|rN) λa8 ab=>Zn<|Ai<|Zm Z<|Al λac a7=>Zq (cut' Z (.to Z) .no a7 tu36 ti5)<|Za Z<|Ae<|Ap<|Au (λaa ww h=>Zu h [1,2,1001])
  ·refine AC<|AD<|AG<|Av (λaa ww h=>Zu h [1,2,1001])
 ·refine A6<|Bq [1,1020] mixed Z Z<|A4 0 Z Z (faB 1 Z Z underlying220 Z (by exact ti3))<|A4 2 Z Z (mv Z)<|A4 3 Z Z (Aq Z .rd Z tu36)<|A4 5 Z Z (mv Z)<|hAlt [1,6] (by kernel_rfl) Z ⟨?_,?_,trivial⟩
  ·refine oRun 1 Z (gd0 Z) Z Z Cb (ld 1 Z Z (fP (HK _)) ty3 Z)<|A4 4 Z Z (I.add Z Z)<|Be 6 [] [(100,1020)] Z (by kernel_rfl) Z (gd0 Z) Z func193 Z Z (T2 _) (Y1 Z) rN Z (λ_ _=>C1) λa2 ad=>A4 7 Z Z (faB 1 Z Z underlying220 Z (by exact ti3))<|Zp 8 Z Z Z Z Z (sto 1 Z Z (fP (HK _)) Z ti3)<|Zf 9 Z Z C1 (faB 1 Z Z underlying220 Z (by exact CD))<|hSpl (R:=Dn) 1 Z (Sp.via (Sp.prod (Sp.prod (Sp.prod Sp.unit))))<|Zp 10 Z Z Z Z Z (DI 1 Z Z (By.cast (By.next Bj (By.here Bj)) Z) Z Cx BG CD)<|AV (by kernel_rfl)<|Af<|A2<|lPow [.rd (Az 8 A9) (({ O.1 with N:=w64 (O.1.N+(U.length:Int)) }).Words),.rd (A8 u8R) a2,.rd A3 (({ O.1 with N:=w64 (O.1.N+(U.length:Int)) }).N)] 1 1020 [.rd (Az 8 A9) (({ O.1 with N:=w64 (O.1.N+(U.length:Int)) }).Words)] [.rd A3 (({ O.1 with N:=w64 (O.1.N+(U.length:Int)) }).N)] Z Z Z Z Z<|Cm (R:=Dn) (⟨({ O.1 with N:=w64 (O.1.N+(U.length:Int)) }).Words,a2,({ O.1 with N:=w64 (O.1.N+(U.length:Int)) }).N⟩:Cr) 1 Z (Sp.via (Sp.prod (Sp.prod (Sp.prod Sp.unit))))<|Zq (ld 1 Z Z fH Gq Z)<|Cy u8R [.rd (Az 8 A9) (Vector.replicate 8 0),.rd (A8 u8R) [],.rd A3 0] 2 [.rd (Az 8 A9) (Vector.replicate 8 0)] [.rd A3 0] Z Z Z<|Cm (R:=Dn) (⟨(Vector.replicate 8 0),[],0⟩:Cr) 2 Z (Sp.via (Sp.prod (Sp.prod (Sp.prod Sp.unit))))<|Es (sto 2 Z Z fH Z Fo)<|Zn<|A5<|BF [] [1001] Z (eC 2 Z Z Gq<|eN) (Y0 Z)
  ·refine XT 6 [] [(100,1020)] Z Z (gd0 Z) Z func193 Z Z (T2 _) (Y1 Z) rN Z (λ_ _=>C1) λa6 ae=>hRun 1 Z (by kernel_rfl) (gd0 Z) Z Z Cb (ld 1 Z Z (fP (HK _)) ty3 Z)<|A4 4 Z Z (I.add Z Z)<|A4 7 Z Z (faB 1 Z Z underlying220 Z (by exact ti3))<|Zp 8 Z Z Z Z Z (sto 1 Z Z (fP (HK _)) Z ti3)<|Zf 9 Z Z C1 (faB 1 Z Z underlying220 Z (by exact CD))<|hSpl (R:=Dn) 1 Z (Sp.via (Sp.prod (Sp.prod (Sp.prod Sp.unit))))<|Zp 10 Z Z Z Z Z (DI 1 Z Z (By.cast (By.next Bj (By.here Bj)) Z) Z Cx BG CD)<|AV (by kernel_rfl)<|Af<|A2<|lPow [.rd (Az 8 A9) (({ O.1 with N:=w64 (O.1.N+(U.length:Int)) }).Words),.rd (A8 u8R) a6,.rd A3 (({ O.1 with N:=w64 (O.1.N+(U.length:Int)) }).N)] 1 1020 [.rd (Az 8 A9) (({ O.1 with N:=w64 (O.1.N+(U.length:Int)) }).Words)] [.rd A3 (({ O.1 with N:=w64 (O.1.N+(U.length:Int)) }).N)] Z Z Z Z Z<|Cm (R:=Dn) (⟨({ O.1 with N:=w64 (O.1.N+(U.length:Int)) }).Words,a6,({ O.1 with N:=w64 (O.1.N+(U.length:Int)) }).N⟩:Cr) 1 Z (Sp.via (Sp.prod (Sp.prod (Sp.prod Sp.unit))))<|Zq (ld 1 Z Z fH Gq Z)<|Cy u8R [.rd (Az 8 A9) (Vector.replicate 8 0),.rd (A8 u8R) [],.rd A3 0] 2 [.rd (Az 8 A9) (Vector.replicate 8 0)] [.rd A3 0] Z Z Z<|Cm (R:=Dn) (⟨(Vector.replicate 8 0),[],0⟩:Cr) 2 Z (Sp.via (Sp.prod (Sp.prod (Sp.prod Sp.unit))))<|Es (sto 2 Z Z fH Z Fo)<|Zn<|A5<|BF [] [1001] Z (eC 2 Z Z Gq<|eN) (Y0 Z)
def Jb (y3:UInt64) (O:(List UInt8) × Int):Option (Sum ((List UInt8)) ((List UInt8) × Int)) :=
 if decide (0<=O.2) then
  chk (0<=O.2)>>=λa2 =>
  app 1 O.1 [(Ce y3 ((O.2:Int).toNat)).toUInt8]>>=λU =>
  some (w64 (O.2 - 8))>>=λa1 =>
  some (.inr (U,a1))
 else
  some (.inl O.1)
def HY (a1:Cr) (O:V3 × Int):Option (Sum (V3) (V3 × Int)) :=
 if decide (O.2<8) then
  B8 a1.Words O.2>>=λU =>
  B8 O.1 (w64 (4 * O.2))>>=λa2 =>
  B8 (CB O.1 (w64 (4 * O.2)) ((BV U 24).toUInt8)) (w64 ((w64 (4 * O.2))+1))>>=λa6 =>
  B8 (CB (CB O.1 (w64 (4 * O.2)) ((BV U 24).toUInt8)) (w64 ((w64 (4 * O.2))+1)) ((BV U 16).toUInt8)) (w64 ((w64 (4 * O.2))+2))>>=λa7 =>
  B8 (CB (CB (CB O.1 (w64 (4 * O.2)) ((BV U 24).toUInt8)) (w64 ((w64 (4 * O.2))+1)) ((BV U 16).toUInt8)) (w64 ((w64 (4 * O.2))+2)) ((BV U 8).toUInt8)) (w64 ((w64 (4 * O.2))+3))>>=λa8 =>
  some (.inr (CB (CB (CB (CB O.1 (w64 (4 * O.2)) ((BV U 24).toUInt8)) (w64 ((w64 (4 * O.2))+1)) ((BV U 16).toUInt8)) (w64 ((w64 (4 * O.2))+2)) ((BV U 8).toUInt8)) (w64 ((w64 (4 * O.2))+3)) U.toUInt8,w64 (O.2+1)))
 else
  some (.inl O.1)
def LY (a0:Cr):Option (V3) :=
 some ((UInt64.ofInt a0.N) * 8)>>=λy3 =>
 appz 1 [128] 0 (Int.tmod (w64 (119 - (Int.tmod a0.N 64))) 64)>>=λx5 =>
 (iter (Jb y3) (x5,56))>>=λs8 =>
 (HX a0 s8>>=λO =>
 iter (HY O) ((Vector.replicate 32 0),0))>>=λU =>
 some U
theorem YY (a0:Cr):Ah Tryz.prog 155 [.rd Dn a0] [AE] (LY a0) (λr nv=>⟨[.rd aZ r],[(1001,some (.bool true,.glob 1 (Az 64 A9) C6))]⟩):=by
 refine Am 66 func155 Z Z Z λH w=>?_;refine A2<|Eb Z (bx 1 Z) λv1=>Eb Z (AN 2 Ak (.zr (R:=aZ) (x:=(Vector.replicate 32 0)) BU)) λv2=>Zn<|A2<|Zq (faB 1 Z Z underlying220 Z (by exact ti3))<|Zq (ld 1 Z Z (fP (HK _)) ty3 Z)<|Zq (I.toU Z tu3 tu52)<|Zq (U.mul Z Z)<|Za Z<|AI 3 Z λy3=>Zn<|A2<|Ef Z (lit (R:=u8R) ([128]:List UInt8) 3 (pP Z Z<|pN) Z tu36 ti5 Z Z) λv4=>Zq (faB 1 Z Z underlying220 Z (by exact ti3))<|Zq (ld 1 Z Z (fP (HK _)) ty3 Z)<|Zq (I.rem Z Z (by decide))<|Zq (I.sub Z Z)<|Zq (I.rem Z Z (by decide))<|Al λx5 h6=>Ef Z (apZO 3 Z Z Z h6 tu36 tu3 ti5 (Zr.num Z) Z) λv7=>Zb Z<|AY (λ(s8:(List UInt8)) O ww=>∃ nv:Nat->Value,Sta (ctx 66 H [AE] w) [(1,.val (A7 v1 0)),(2,.val (A7 v2 0)),(4,.val (nv 0))] [(1,some (v1,.box 220 [.rd Dn a0])),(2,some (v2,.box 71 [.rd aZ (Vector.replicate 32 0)])),(3,some ((nv 0),.list u8R 5 s8)),AE] O ww) ?_ (λs8=>?_)
 ·refine A2<|Zb Z<|AJ (λ(s9:(List UInt8) × Int) O ww=>∃ nv:Nat->Value,Sta (ctx 66 H [AE] w) [(1,.val (A7 v1 0)),(2,.val (A7 v2 0)),(3,.rd Ar y3),(4,.val (nv 0)),(5,.rd A3 s9.2)] [(1,some (v1,.box 220 [.rd Dn a0])),(2,some (v2,.box 71 [.rd aZ (Vector.replicate 32 0)])),(3,some ((nv 0),.list u8R 5 s9.1)),AE] O ww) (λO ww h=>⟨nvl [v7],Zu h [1,2,3,1001]⟩) (λs9=>?_);refine gEx λac=>A6<|A2<|Zm Z<|Zq (I.geq Z Z)<|Zj Z (λad=>?_) (λad=>?_)
  ·refine Zt<|A6<|AB<|Ai<|Zm Z<|Zm Z<|Zm Z<|Al λam ae=>Zq (U.shr Z Z (DP ae))<|Zq (U.toB Z tu52 tu5)<|Ef Z (lit (R:=u8R) ([(Ce y3 ((s9.2:Int).toNat)).toUInt8]:List UInt8) 1100 (pP Z Z<|pN) Z tu36 ti5 Z Z) λao=>Al λap af=>Ef Z (apn 3 Z Z Z (.own 1100 Z) af tu36 ti5 Z Z Z) λah=>Za Z<|Ae<|Ap<|Af<|Ai<|Zm Z<|Zq (I.sub Z Z)<|Za Z<|AI 5 Z λaq=>Ae<|Au (λO ww h=>⟨nvl [ah],Zu h [1,2,3,1001]⟩)
  ·refine AC<|AD<|AG<|Av (λO ww h=>⟨nvl [(ac 0)],Zu h [1,2,3,1001]⟩)
 ·refine gEx λar=>AY (λ(a2:V3) O ww=>Sta (ctx 66 H [AE] w) [(2,.val (A7 v2 0))] [(2,some (v2,.box 71 [.rd aZ a2])),AE] O ww) ?_ (λa2=>?_)
  ·refine A2<|Zq (ld 1 Z Z fH Gq Z)<|Zm Z<|BW 3 [4,31] Z (fS Z<|fS Z<|fN)<|Zc [1001] [] func154 Z (T3 _ _) λai au=>Zq (fldV Z (SG _) Z underlying220 Z Gp)<|Zm Z<|Zn<|AJ (λ(a1:V3 × Int) O ww=>Sta (ctx 66 H [AE] w) [(2,.val (A7 v2 0)),(33,.rd (Az 8 A9) ai.Words),(34,.rd A3 a1.2)] [(2,some (v2,.box 71 [.rd aZ a1.1])),AE] O ww) (λO ww h=>Zu h [2,1001]) (λa1=>?_)
   refine A2<|Zq (I.lss Z Z)<|Zn<|A6<|gIf Z Z (λaj=>?_) (λaj=>?_)
   ·refine Zt<|A6<|AB<|A2<|Zm Z<|Al λav ak=>Zq (idxV Z Z ak tu183 B4 Bm)<|Za Z<|Zb Z<|Ai<|Zm Z<|Zq (I.mul Z Z)<|Zm Z<|Zq (I.mul Z Z)<|Zq (I.add Z Z)<|Zm Z<|Zq (I.mul Z Z)<|Zq (I.add Z Z)<|Zm Z<|Zq (I.mul Z Z)<|Zq (I.add Z Z)<|Zm Z<|Zq (W.shr Z Z (Int.natCast_nonneg _))<|Zq (W.toB Z tu51 tu5)<|Zm Z<|Zq (W.shr Z Z (Int.natCast_nonneg _))<|Zq (W.toB Z tu51 tu5)<|Zm Z<|Zq (W.shr Z Z (Int.natCast_nonneg _))<|Zq (W.toB Z tu51 tu5)<|Zm Z<|Zq (W.toB Z tu51 tu5)<|Al λaw a6=>Zq (ixB 2 Z Z Z a6 tu71 ti5)<|Es (sto 2 Z Z (fP (.el a6)) Z ti5)<|Al λax a7=>Zq (ixB 2 Z Z Z a7 tu71 ti5)<|Es (sto 2 Z Z (fP (.el a7)) Z ti5)<|Al λay a8=>Zq (ixB 2 Z Z Z a8 tu71 ti5)<|Es (sto 2 Z Z (fP (.el a8)) Z ti5)<|Al λaz ab=>Zq (ixB 2 Z Z Z ab tu71 ti5)<|Es (sto 2 Z Z (fP (.el ab)) Z ti5)<|Ae<|Ap<|Af<|Ai<|Zq (I.add Z Z)<|Zm Z<|Ae<|Au (λO ww h=>Zu h [2,1001])
   ·refine AC<|AD<|AG<|Av (λO ww h=>Zu h [2,1001])
  ·refine A2<|Zq (ld 2 Z Z fH Aw Z)<|Es (sto 2 Z Z fH Z Ak)<|Zn<|A5<|BF [] [1001] Z (eC 2 Z Z Aw<|eN) (Y0 Z)
def Jc (a0:List (List UInt8)) (O:Int):Option (Sum (Sum Int Unit) Int) :=
 if decide (O<(a0.length:Int)) then
  idx a0 O>>=λU =>
  Pa U>>=λr6 =>
  if r6 then
   some (.inl (.inl O))
  else
   some (.inr (w64 (O+1)))
 else
  some (.inl (.inr ()))
def Pe (a0:List (List UInt8)):Option (Int) :=
 Bc (iter (Jc a0) 0) λs1 =>
 some (-1)
theorem YZ (a0:List (List UInt8)):Ah Tryz.prog 191 [.rd (A8 (A8 u8R)) a0,.val (.func (.func 152) #[] #[])] [] (Pe a0) (λr nv=>⟨[.rd A3 r],[]⟩):=by
 refine Am 19 func191 Z Z Z λH w=>?_;refine A2<|Zb Z<|BM (λ(s1:Unit) O U=>Sta (ctx 19 H [] w) [] [] O U) ?_ (λs1=>?_)
 ·refine A2<|Zm Z<|Zq (Aq Z .rd Z tu126)<|Zm Z<|Zn<|AJ (λ(s2:Int) O U=>Sta (ctx 19 H [] w) [(0,.rd (A8 (A8 u8R)) a0),(1,.val (.func (.func 152) #[] #[])),(7,.rd A3 (a0.length:Int)),(8,.rd A3 s2)] [] O U) (λO U h=>Zu h []) (λs2=>?_);refine A2<|Zq (I.lss Z Z)<|Zn<|A6<|gIf Z Z (λh3=>?_) (λh3=>?_)
  ·refine Zt<|A6<|AB<|A2<|Zm Z<|Zb Z<|A2<|Zm Z<|Zm Z<|Zm Z<|Al λx4 h5=>Zq (ixR Z Z h5 tu126 CD Z)<|Zq (ldR Z ty36)<|EO [] [] (gd0 Z) Z Z func152 Z Z (YU _) (Y1 Z) (cN) rN λr6 n7=>Zj Z (λh8=>?_) (λh8=>?_)
   ·refine A2<|Zm Z<|Zb Z<|A5<|Bh<|An<|BE<|Bk<|Ze [] [] Z
   ·refine AW<|Ap<|Af<|Ai<|Zq (I.add Z Z)<|Zm Z<|Ae<|Au (λO U h=>Zu h [])
  ·refine AC<|AD<|AG<|BA (λO U h=>Zu h [])
 ·refine A2<|Zb Z<|A5<|Ze [] [] Z
def LZ (a0:List (List UInt8)):Option (Bool) :=
 Pe a0>>=λO =>
 some (decide (0<=O))>>=λU =>
 some U
theorem z8l (a0:List (List UInt8)):Ah Tryz.prog 151 [.rd (A8 (A8 u8R)) a0,.val (.func (.func 152) #[] #[])] [] (LZ a0) (λr nv=>⟨[.rd Ac r],[]⟩):=by
 refine Am 9 func151 Z Z Z λH w=>?_;refine A2<|Zb Z<|A2<|Zm Z<|Zm Z<|Zc [] [] func191 Z (YZ _) λr1 n2=>Zq (I.geq Z Z)<|Za Z<|AI 4 Z λy3=>Zn<|A5<|Ze [] [] Z
def Jd (a0:List (List UInt8)) (O:Cr × Int):Option (Sum Cr (Cr × Int)) :=
 if decide (O.2<(a0.length:Int)) then
  idx a0 O.2>>=λU =>
  HX O.1 U>>=λa1 =>
  some (.inr (a1,w64 (O.2+1)))
 else
  some (.inl O.1)
def Je (a0:List (List UInt8)):Option (V3 × Int) :=
 (if decide (20<(a0.length:Int)) then
  some true
 else
  LZ a0>>=λr4 =>
  some r4)>>=λs2 =>
 if s2 then
  some ((Vector.replicate 32 0),4)
 else
  LW>>=λr7 =>
  (iter (Jd a0) (r7,0))>>=λO =>
  LY O>>=λU =>
  some (U,0)
theorem T4 (a0:List (List UInt8)):Ah Tryz.prog 99 [.rd (A8 (A8 u8R)) a0] [AE] (Je a0) (λr nv=>⟨[.rd aZ r.1,.rd A3 r.2],[(1001,some (.bool true,.glob 1 (Az 64 A9) C6))]⟩):=by
 refine Am 28 func99 Z Z Z λH w=>?_;refine A2<|Eb Z (AN 1 Ak (.zr (R:=aZ) (x:=(Vector.replicate 32 0)) BU)) λv1=>Zb Z<|A6<|AY (λ(s2:Bool) O U=>Sta (ctx 28 H [AE] w) [(0,.rd (A8 (A8 u8R)) a0),(2,.val (A7 v1 0)),(13,.rd Ac s2)] [(1,some (v1,.box 71 [.rd aZ (Vector.replicate 32 0)])),AE] O U) ?_ (λs2=>?_)
 ·refine Ai<|Zm Z<|Zq (Aq Z .rd Z tu126)<|Zq (I.gtr Z Z)<|Zm Z<|Bf 10 Z (λh3=>?_) (λh3=>?_)
  ·refine Aj 9 Z h3<|Zk Z<|Zk Z<|Zq (pkT Z Z)<|Ae<|Av (λO U h=>Zu h [1,1001])
  ·refine Aj 9 Z h3<|Aa Zx Z Z (mv Z)<|CN [] [] Zx Z func151 Z Z (z8l _) (Y2 Z Z) rN λr4 n5=>Zq (pkF Z Z)<|Ae<|Av (λO U h=>Zu h [1,1001])
 ·refine gIf Z Z (λh6=>?_) (λh6=>?_)
  ·refine A2<|Zq (bldG (x':=((Vector.replicate 32 0):V3)) tu71 Ak BU ti5 (Bld.done Z))<|Es (sto 1 Z Z fH Z Ak)<|Zb Z<|A5<|An<|BF [] [1001] Z (eC 1 Z Z Aw<|eE Z<|eN) (Y0 Z)
  ·refine Zt<|A2<|Zc [] [] func153 Z (YV) λr7 n8=>Eb Z (AN 1100 Fo (ZrE.rd (R:=(Az 8 A9)) (x:=(Vector.replicate 8 0)) Gl (ZrE.nilS (ZrE.rd (R:=A3) (x:=0) (Zr.num Z) ZrE.nil Z)) Z)) λv9=>Cy u8R [.rd (Az 8 A9) (Vector.replicate 8 0),.rd (A8 u8R) [],.rd A3 0] 1100 [.rd (Az 8 A9) (Vector.replicate 8 0)] [.rd A3 0] Z Z Z<|Cm (R:=Dn) (⟨(Vector.replicate 8 0),[],0⟩:Cr) 1100 Z (Sp.via (Sp.prod (Sp.prod (Sp.prod Sp.unit))))<|Es (sto 1100 Z Z fH Z Fo)<|Zn<|AY (λ(a2:Cr) O U=>Sta (ctx 28 H [AE] w) [(2,.val (A7 v1 0)),(4,.val (A7 v9 0))] [(1,some (v1,.box 71 [.rd aZ (Vector.replicate 32 0)])),(1100,some (v9,.box 220 [.rd Dn a2])),AE] O U) ?_ (λa2=>?_)
   ·refine A2<|Zm Z<|Zq (Aq Z .rd Z tu126)<|Zm Z<|Zn<|AJ (λ(a1:Cr × Int) O U=>Sta (ctx 28 H [AE] w) [(2,.val (A7 v1 0)),(4,.val (A7 v9 0)),(16,.rd (A8 (A8 u8R)) a0),(17,.rd A3 (a0.length:Int)),(18,.rd A3 a1.2)] [(1,some (v1,.box 71 [.rd aZ (Vector.replicate 32 0)])),(1100,some (v9,.box 220 [.rd Dn a1.1])),AE] O U) (λO U h=>Zu h [1,1100,1001]) (λa1=>?_);refine A2<|Zq (I.lss Z Z)<|Zn<|A6<|gIf Z Z (λa6=>?_) (λa6=>?_)
    ·refine Zt<|A6<|AB<|A2<|Al λa8 a7=>Zq (ixR Z Z a7 tu126 CD Z)<|Zq (ldR Z ty36)<|Zb Z<|Ai<|Zq (ld 1100 Z Z fH Gq Z)<|Zm Z<|Zc [1001] [] func154 Z (T3 _ _) λab ac=>Es (sto 1100 Z Z fH Z Fo)<|Ae<|Ap<|Af<|Ai<|Zq (I.add Z Z)<|Zm Z<|Ae<|Au (λO U h=>Zu h [1,1100,1001])
    ·refine AC<|AD<|AG<|Av (λO U h=>Zu h [1,1100,1001])
   ·refine A2<|Zq (ld 1100 Z Z fH Gq Z)<|Zc [1001] [] func155 Z (YY _) λad ae=>Es (sto 1 Z Z fH Z Ak)<|Zb Z<|A5<|BF [] [1001] Z (eC 1 Z Z Aw<|eE Z<|eN) (Y0 Z)
def Hb (a0:List UInt8):Option (V3 × Int) :=
 Je [a0]>>=λO =>
 some (O.1,O.2)
theorem M0 (a0:List UInt8):Ah Tryz.prog 57 [.rd (A8 u8R) a0] [AE] (Hb a0) (λr nv=>⟨[.rd aZ r.1,.rd A3 r.2],[(1001,some (.bool true,.glob 1 (Az 64 A9) C6))]⟩):=by
 refine Am 9 func57 Z Z Z λH w=>?_;refine A2<|Eb Z (AN 1 Ak (.zr (R:=aZ) (x:=(Vector.replicate 32 0)) BU)) λv1=>Zb Z<|A2<|Zm Z<|Ef Z (lit (R:=(A8 u8R)) ([a0]:List (List UInt8)) 2 (pP Z Z<|pN) Z tu126 CD Z Z) λv2=>BW 2 [5] Z (fS Z<|fN)<|Zc [1001] [] func99 Z (T4 _) λr3 n4=>Zq (ext Z Z)<|Zq (ext Z Z)<|Es (sto 1 Z Z fH Z Ak)<|Zb Z<|A5<|BF [] [1001] Z (eC 1 Z Z Aw<|eE Z<|eN) (Y0 Z)
def Jf (a0:Ab):Option (V3 × Int) :=
 H8 a0>>=λO =>
 if O.2 != 0 then
  some ((Vector.replicate 32 0),O.2)
 else
  Hb O.1>>=λU =>
  some (U.1,U.2)
theorem T5 (a0:Ab):Ah Tryz.prog 53 [.rd AA a0] [AE] (Jf a0) (λr nv=>⟨[.rd aZ r.1,.rd A3 r.2],[(1001,some (.bool true,.glob 1 (Az 64 A9) C6))]⟩):=by
 refine Am 19 func53 Z Z Z λH w=>?_;refine A2<|Eb Z (bx 1 Z) λv1=>Eb Z (AN 2 Ak (.zr (R:=aZ) (x:=(Vector.replicate 32 0)) BU)) λv2=>Zb Z<|A2<|Zq (ld 1 Z Z fH C4 Z)<|Zc [] [(100,3)] func59 Z (T0 _) λr3 n4=>Zm Z<|Zq (ext Z Z)<|Zq (ext Z Z)<|Za Z<|Zb Z<|A6<|A2<|Zm Z<|Zq (I.neq Z Z)<|Zj Z (λO=>?_) (λO=>?_)
 ·refine A2<|Zq (bldG (x':=((Vector.replicate 32 0):V3)) tu71 Ak BU ti5 (Bld.done Z))<|Zm Z<|Es (sto 2 Z Z fH Z Ak)<|Zb Z<|A5<|An<|BF [] [1001] Z (eC 2 Z Z Aw<|eE Z<|eN) (Y0 Z)
 ·refine Zt<|A2<|Zm Z<|BW 3 [9,4,15] Z (fS Z<|fS Z<|fS Z<|fN)<|Zc [1001] [] func57 Z (M0 _) λr6 n7=>Zq (ext Z Z)<|Zq (ext Z Z)<|Es (sto 2 Z Z fH Z Ak)<|Zb Z<|A5<|BF [] [1001] Z (eC 2 Z Z Aw<|eE Z<|eN) (Y0 Z)
def Fe (a0:List UInt32) (O:Int):Option (Sum (Sum Bool Unit) Int) :=
 if decide (O<(a0.length:Int)) then
  idx a0 O>>=λU =>
  HQ U>>=λr6 =>
  if !r6 then
   some (.inl (.inl false))
  else
   some (.inr (w64 (O+1)))
 else
  some (.inl (.inr ()))
def Hc (a0:List UInt32):Option (Bool) :=
 Bc (iter (Fe a0) 0) λs1 =>
 some true
theorem T6 (a0:List UInt32):Ah Tryz.prog 181 [.rd (A8 A9) a0] [] (Hc a0) (λr nv=>⟨[.rd Ac r],[]⟩):=by
 refine Am 15 func181 Z Z Z λH w=>?_;refine A2<|Zb Z<|BM (λ(s1:Unit) O U=>Sta (ctx 15 H [] w) [] [] O U) ?_ (λs1=>?_)
 ·refine A2<|Zm Z<|Zq (Aq Z .rd Z tu269)<|Zm Z<|Zn<|AJ (λ(s2:Int) O U=>Sta (ctx 15 H [] w) [(5,.rd (A8 A9) a0),(6,.rd A3 (a0.length:Int)),(7,.rd A3 s2)] [] O U) (λO U h=>Zu h []) (λs2=>?_);refine A2<|Zq (I.lss Z Z)<|Zn<|A6<|gIf Z Z (λh3=>?_) (λh3=>?_)
  ·refine Zt<|A6<|AB<|A2<|Al λx4 h5=>Zq (ixR Z Z h5 tu269 B4 Z)<|Zq (ldR Z Bm)<|Zb Z<|A2<|Zm Z<|Zc [] [] func139 Z (OZ _) λr6 n7=>Zq (Cd Z)<|Zj Z (λh8=>?_) (λh8=>?_)
   ·refine A2<|Zb Z<|A5<|Bh<|An<|BE<|Bk<|Ze [] [] Z
   ·refine AW<|Ap<|Af<|Ai<|Zq (I.add Z Z)<|Zm Z<|Ae<|Au (λO U h=>Zu h [])
  ·refine AC<|AD<|AG<|BA (λO U h=>Zu h [])
 ·refine A2<|Zb Z<|A5<|Ze [] [] Z
def Pf (a0:UInt32) (O:UInt64):Option (UInt32 × Int) :=
 Hc [a0]>>=λU =>
 if !U then
  some (0,2)
 else
  HP a0 O>>=λr5 =>
  some (r5,0)
end
section
theorem zvs (a0:UInt32) (O:UInt64):Ah Tryz.prog 141 [.rd A9 a0,.rd Ar O] [] (Pf a0 O) (λr nv=>⟨[.rd A9 r.1,.rd A3 r.2],[]⟩):=by
 refine Am 13 func141 Z Z Z λH w=>?_;refine A2<|Za Z<|Zb Z<|A6<|A2<|Zm Z<|Ef Z (lit (R:=A9) ([a0]:List UInt32) 1 (pP Z Z<|pN) Z tu269 B4 Z Z) λv1=>BW 1 [7] Z (fS Z<|fN)<|Zc [] [] func181 Z (T6 _) λr2 n3=>Zq (Cd Z)<|Zj Z (λU=>?_) (λU=>?_)
 ·refine A2<|Za Z<|Zb Z<|A5<|An<|Ze [] [] Z
 ·refine Zt<|A2<|Zm Z<|Zm Z<|Zc [] [] func179 Z (OY _ _) λr5 n6=>Za Z<|Zb Z<|A5<|Ze [] [] Z
def Pg (a0:UInt64):Option (UInt32) :=
 HP 4 a0>>=λO =>
 some O
theorem zti (a0:UInt64):Ah Tryz.prog 143 [.rd Ar a0] [] (Pg a0) (λr nv=>⟨[.rd A9 r],[]⟩):=by
 refine Am 5 func143 Z Z Z λH w=>?_;refine A2<|Zb Z<|A2<|Zm Z<|Zc [] [] func179 Z (OY _ _) λr1 n2=>Zb Z<|A5<|Ze [] [] Z
def Ph (a0:UInt32) (O:UInt32):Option (UInt32 × Int) :=
 Hc [a0,O]>>=λU =>
 if !U then
  some (0,2)
 else
  HO 1000000007 [a0,O]>>=λr6 =>
  some (r6,0)
theorem zwp (a0:UInt32) (O:UInt32):Ah Tryz.prog 142 [.rd A9 a0,.rd A9 O] [] (Ph a0 O) (λr nv=>⟨[.rd A9 r.1,.rd A3 r.2],[]⟩):=by
 refine Am 15 func142 Z Z Z λH w=>?_;refine A2<|Za Z<|Zb Z<|A6<|A2<|Zm Z<|Zm Z<|Ef Z (lit (R:=A9) ([a0,O]:List UInt32) 1 (pP Z Z<|pP Z Z<|pN) Z tu269 B4 Z Z) λv1=>BW 1 [8] Z (fS Z<|fN)<|Zc [] [] func181 Z (T6 _) λr2 n3=>Zq (Cd Z)<|Zj Z (λU=>?_) (λU=>?_)
 ·refine A2<|Za Z<|Zb Z<|A5<|An<|Ze [] [] Z
 ·refine Zt<|A2<|Zm Z<|Zm Z<|Ef Z (lit (R:=A9) ([a0,O]:List UInt32) 2 (pP Z Z<|pP Z Z<|pN) Z tu269 B4 Z Z) λv5=>BW 2 [13] Z (fS Z<|fN)<|Zc [] [] func182 Z (OW _ _) λr6 n7=>Za Z<|Zb Z<|A5<|Ze [] [] Z
def Gw (a2:List UInt32) (O:(List UInt8) × Int):Option (Sum ((List UInt8)) ((List UInt8) × Int)) :=
 if decide (O.2<(a2.length:Int)) then
  idx a2 O.2>>=λU =>
  app 1 O.1 [(BV U 24).toUInt8,(BV U 16).toUInt8,(BV U 8).toUInt8,U.toUInt8]>>=λa1 =>
  some (.inr (a1,w64 (O.2+1)))
 else
  some (.inl O.1)
def Jg (U:V3 × Int) (O:UInt64 × Int):Option (Sum UInt64 (UInt64 × Int)) :=
 if decide (O.2<(((U.1.toList.drop 0).take 8).length:Int)) then
  idx ((U.1.toList.drop 0).take 8) O.2>>=λa1 =>
  some ((FI O.1 8) ||| a1.toUInt64)>>=λa2 =>
  some (.inr (a2,w64 (O.2+1)))
 else
  some (.inl O.1)
def M1 (a0:UInt8) (U:List UInt8) (a2:List UInt32):Option (UInt64 × Int) :=
 if decide (9991<(U.length:Int)) then
  some (0,4)
 else
  (iter (Gw a2) ([a0],0))>>=λs3 =>
  Je [s3,U]>>=λO =>
  (iter (Jg O) (0,0))>>=λa6 =>
  some (a6,O.2)
theorem zve (a0:UInt8) (a1:List UInt8) (a2:List UInt32):Ah Tryz.prog 183 [.rd u8R a0,.rd (A8 u8R) a1,.rd (A8 A9) a2] [AE] (M1 a0 a1 a2) (λr nv=>⟨[.rd Ar r.1,.rd A3 r.2],[(1001,some (.bool true,.glob 1 (Az 64 A9) C6))]⟩):=by
 refine Am 63 func183 Z Z Z λH w=>?_;refine A2<|Za Z<|Zb Z<|A6<|A2<|Zm Z<|Zq (Aq Z .rd Z tu36)<|Zq (I.gtr Z Z)<|Zj Z (λh1=>?_) (λh1=>?_)
 ·refine A2<|Za Z<|Zb Z<|A5<|An<|Ze [] [1001] Z
 ·refine Zt<|A2<|Zm Z<|Ef Z (lit (R:=u8R) ([a0]:List UInt8) 1 (pP Z Z<|pN) Z tu36 ti5 Z Z) λv2=>Zb Z<|AY (λ(s3:(List UInt8)) O ww=>∃ nv:Nat->Value,Sta (ctx 63 H [AE] w) [(1,.rd (A8 u8R) a1),(8,.val (nv 0))] [(1,some ((nv 0),.list u8R 5 s3)),AE] O ww) ?_ (λs3=>?_)
  ·refine A2<|Zm Z<|Zq (Aq Z .rd Z tu269)<|Zm Z<|Zn<|AJ (λ(s4:(List UInt8) × Int) O ww=>∃ nv:Nat->Value,Sta (ctx 63 H [AE] w) [(1,.rd (A8 u8R) a1),(8,.val (nv 0)),(21,.rd (A8 A9) a2),(22,.rd A3 (a2.length:Int)),(23,.rd A3 s4.2)] [(1,some ((nv 0),.list u8R 5 s4.1)),AE] O ww) (λO ww h=>⟨nvl [v2],Zu h [1,1001]⟩) (λs4=>?_);refine gEx λn5=>A2<|Zq (I.lss Z Z)<|Zn<|A6<|gIf Z Z (λh6=>?_) (λh6=>?_)
   ·refine Zt<|A6<|AB<|A2<|Al λx7 h8=>Zq (ixR Z Z h8 tu269 B4 Z)<|Zq (ldR Z Bm)<|Zb Z<|Ai<|Zm Z<|Zm Z<|Zq (W.shr Z Z (Int.natCast_nonneg _))<|Zq (W.toB Z tu51 tu5)<|Zm Z<|Zq (W.shr Z Z (Int.natCast_nonneg _))<|Zq (W.toB Z tu51 tu5)<|Zm Z<|Zq (W.shr Z Z (Int.natCast_nonneg _))<|Zq (W.toB Z tu51 tu5)<|Zm Z<|Zq (W.toB Z tu51 tu5)<|Ef Z (lit (R:=u8R) ([(BV x7 24).toUInt8,(BV x7 16).toUInt8,(BV x7 8).toUInt8,x7.toUInt8]:List UInt8) 1100 (pP Z Z<|pP Z Z<|pP Z Z<|pP Z Z<|pN) Z tu36 ti5 Z Z) λv9=>Al λaf ab=>Ef Z (apn 1 Z Z Z (.own 1100 Z) ab tu36 ti5 Z Z Z) λac=>Za Z<|Ae<|Ap<|Af<|Ai<|Zq (I.add Z Z)<|Zm Z<|Ae<|Au (λO ww h=>⟨nvl [ac],Zu h [1,1001]⟩)
   ·refine AC<|AD<|AG<|Av (λO ww h=>⟨nvl [(n5 0)],Zu h [1,1001]⟩)
  ·refine gEx λah=>A2<|Zm Z<|Zm Z<|BW 1 [8,43] Z (fS Z<|fS Z<|fN)<|Ef Z (lit (R:=(A8 u8R)) ([s3,a1]:List (List UInt8)) 1101 (pP Z Z<|pP Z Z<|pN) Z tu126 CD Z Z) λai=>BW 1101 [45] Z (fS Z<|fN)<|Zc [1001] [] func99 Z (T4 _) λa6 aj=>Zm Z<|Zq (ext Z Z)<|Zq (ext Z Z)<|Eb Z (AN 1102 Ak (.zr (R:=aZ) (x:=(Vector.replicate 32 0)) BU)) λak=>Es (sto 1102 Z Z fH Z Ak)<|Zb Z<|A2<|Zb Z<|AY (λ(a8:UInt64) O ww=>Sta (ctx 63 H [AE] w) [(12,.rd A3 a6.2),(13,.rd Ar a8)] [AE] O ww) ?_ (λa8=>?_)
   ·refine A2<|Gg 1102 11 Z Z<|Zq (Yp (i:=0) (j:=8) Z .no (.to Z) tu71 ti5 (by decide) Z Z Z)<|Zq (Aq Z .rd Z tu36)<|Zm Z<|Zn<|AJ (λ(a7:UInt64 × Int) O ww=>Sta (ctx 63 H [AE] w) [(12,.rd A3 a6.2),(13,.rd Ar a7.1),(49,.rd (A8 u8R) ((a6.1.toList.drop 0).take 8)),(50,.rd A3 (((a6.1.toList.drop 0).take 8).length:Int)),(51,.rd A3 a7.2)] [AE] O ww) (λO ww h=>Zu h [1001]) (λa7=>?_)
    refine A2<|Zq (I.lss Z Z)<|Zn<|A6<|gIf Z Z (λad=>?_) (λad=>?_)
    ·refine Zt<|A6<|AB<|A2<|Al λam ae=>Zq (ixR Z Z ae tu36 ti5 Z)<|Zq (ldR Z ty5)<|Zb Z<|Ai<|Zm Z<|Zq (U.shl Z Z (Int.natCast_nonneg _))<|Zm Z<|Zq (B.toU Z tu5 tu52)<|Zq (U.or Z Z)<|Za Z<|AI 13 Z λao=>Ae<|Ap<|Af<|Ai<|Zq (I.add Z Z)<|Zm Z<|Ae<|Au (λO ww h=>Zu h [1001])
    ·refine AC<|AD<|AG<|Av (λO ww h=>Zu h [1001])
   ·refine A2<|Zm Z<|Zm Z<|Za Z<|Zb Z<|A5<|Ze [] [1001] Z
def M2 (a0:UInt32) (U:UInt32) (a2:List UInt8):Option (UInt32 × Int) :=
 M1 99 a2 [a0,U]>>=λO =>
 if O.2 != 0 then
  some (0,O.2)
 else
  some ((O.1 % 500000003).toUInt32)>>=λy5 =>
  some (y5,0)
theorem zoa (a0:UInt32) (O:UInt32) (a2:List UInt8):Ah Tryz.prog 144 [.rd A9 a0,.rd A9 O,.rd (A8 u8R) a2] [AE] (M2 a0 O a2) (λr nv=>⟨[.rd A9 r.1,.rd A3 r.2],[(1001,some (.bool true,.glob 1 (Az 64 A9) C6))]⟩):=by
 refine Am 24 func144 Z Z Z λH w=>?_;refine A2<|Za Z<|Zb Z<|A2<|Zm Z<|Zm Z<|Zm Z<|Ef Z (lit (R:=A9) ([a0,O]:List UInt32) 1 (pP Z Z<|pP Z Z<|pN) Z tu269 B4 Z Z) λv1=>BW 1 [14] Z (fS Z<|fN)<|Zc [1001] [] func183 Z (zve _ _ _) λr2 n3=>Zm Z<|Zq (ext Z Z)<|Zq (ext Z Z)<|Za Z<|Zb Z<|A6<|A2<|Zm Z<|Zq (I.neq Z Z)<|Zj Z (λh4=>?_) (λh4=>?_)
 ·refine A2<|Zm Z<|Za Z<|Zb Z<|A5<|An<|Ze [] [1001] Z
 ·refine Zt<|A2<|Zm Z<|Zq (U.rem Z Z (by decide))<|Zq (U.toW Z tu52 tu51)<|Za Z<|AI 6 Z λy5=>Zb Z<|A5<|Ze [] [1001] Z
def M3 (a0:UInt32) (a1:List UInt8) (O:AQ):Option (Int) :=
 HQ a0>>=λr2 =>
 if !r2 then
  some 2
 else
  if decide (9991<(a1.length:Int)) then
   some 4
  else
   if decide (500000003<=(max O.E O.S)) then
    some 22
   else
    Pf a0 (500000003 - O.E.toUInt64)>>=λr7 =>
    Pg O.S.toUInt64>>=λr9 =>
    Ph r9 r7.1>>=λa6 =>
    M2 a6.1 a0 a1>>=λU =>
    if U.2 != 0 then
     some 22
    else
     if U.1 != O.E then
      some 22
     else
      some 0
theorem zrv (a0:UInt32) (a1:List UInt8) (a2:AQ):Ah Tryz.prog 93 [.rd A9 a0,.rd (A8 u8R) a1,.rd BJ a2] [AE] (M3 a0 a1 a2) (λr nv=>⟨[.rd A3 r],[(1001,some (.bool true,.glob 1 (Az 64 A9) C6))]⟩):=by
 refine Am 58 func93 Z Z Z λH w=>?_;refine A2<|Eb Z (bx 1 Z) λv1=>Zb Z<|A6<|A2<|Zm Z<|Zc [] [] func139 Z (OZ _) λr2 n3=>Zq (Cd Z)<|Zj Z (λh4=>?_) (λh4=>?_)
 ·refine A2<|Zb Z<|A5<|An<|Ze [] [1001] Z
 ·refine Zt<|A6<|A2<|Zm Z<|Zq (Aq Z .rd Z tu36)<|Zq (I.gtr Z Z)<|Zj Z (λh5=>?_) (λh5=>?_)
  ·refine A2<|Zb Z<|A5<|An<|Ze [] [1001] Z
  ·refine Zt<|A6<|A2<|Zq (faB 1 Z Z underlying58 Z (by exact B4))<|Zq (ld 1 Z Z (fP (Fu _)) Bm Z)<|Zq (faB 1 Z Z underlying58 Z (by exact B4))<|Zq (ld 1 Z Z (fP (Gk _)) Bm Z)<|Zq (W.max Z Z)<|Zq (W.geq Z Z)<|Zj Z (λh6=>?_) (λh6=>?_)
   ·refine A2<|Zb Z<|A5<|An<|Ze [] [1001] Z
   ·refine Zt<|A2<|Zm Z<|Zq (faB 1 Z Z underlying58 Z (by exact B4))<|Zq (ld 1 Z Z (fP (Fu _)) Bm Z)<|Zq (W.toU Z tu51 tu52)<|Zq (U.sub Z Z)<|Zc [] [] func141 Z (zvs _ _) λr7 n8=>Zm Z<|Zq (ext Z Z)<|Zq (ext Z Z)<|Za Z<|Zb Z<|A2<|Zq (faB 1 Z Z underlying58 Z (by exact B4))<|Zq (ld 1 Z Z (fP (Gk _)) Bm Z)<|Zq (W.toU Z tu51 tu52)<|Zc [] [] func143 Z (zti _) λr9 a7=>Zm Z<|Zc [] [] func142 Z (zwp _ _) λa8 aa=>Zm Z<|Zq (ext Z Z)<|Zq (ext Z Z)<|Za Z<|Zb Z<|A6<|A2<|Zm Z<|Zm Z<|Zm Z<|Zc [1001] [] func144 Z (zoa _ _ _) λab ac=>Zm Z<|Zq (ext Z Z)<|Zq (ext Z Z)<|Za Z<|Zb Z<|A2<|Zm Z<|Zq (I.neq Z Z)<|Zm Z<|Bf 52 Z (λO=>?_) (λO=>?_)
    ·refine Aj 51 Z O<|Zk Z<|Zk Z<|Zk Z<|Zk Z<|Zq (pkT Z Z)<|Zn<|CL Z<|A2<|Zb Z<|A5<|An<|Ze [] [1001] Z
    ·refine Aj 51 Z O<|Aa Zx Z Z (mv Z)<|Aa Zx Z Z (faB 1 Z Z underlying58 Z (by exact B4))<|Aa Zx Z Z (ld 1 Z Z (fP (Fu _)) Bm Z)<|Aa Zx Z Z (W.neq Z Z)<|Zq (pkF Z Z)<|Zj Z (λa6=>?_) (λa6=>?_)
     ·refine gKn 56 Z a6<|A2<|Zb Z<|A5<|An<|Ze [] [1001] Z
     ·refine gKn 56 Z a6<|Zt<|A2<|Zb Z<|A5<|Ze [] [1001] Z
def M4 (a0:Ab):Option (Int) :=
 H6 a0>>=λO =>
 if O != 0 then
  some O
 else
  J7 a0>>=λU =>
  M3 a0.Author U.1 a0.Sig>>=λr7 =>
  some r7
theorem zvb (a0:Ab):Ah Tryz.prog 54 [.rd AA a0] [AE] (M4 a0) (λr nv=>⟨[.rd A3 r],[(1001,some (.bool true,.glob 1 (Az 64 A9) C6))]⟩):=by
 refine Am 22 func54 Z Z Z λH w=>?_;refine A2<|Eb Z (bx 1 Z) λv1=>Zb Z<|A6<|A2<|Zq (ld 1 Z Z fH C4 Z)<|Zc [] [] func91 Z (P7 _) λr2 n3=>Zb Z<|A2<|Zm Z<|Zq (I.neq Z Z)<|Zj Z (λO=>?_) (λO=>?_)
 ·refine A2<|Zm Z<|Zb Z<|A5<|An<|Ze [] [1001] Z
 ·refine Zt<|A2<|Zq (ld 1 Z Z fH C4 Z)<|Zc [] [(100,2)] func92 Z (SZ _) λr5 n6=>Zm Z<|Zq (ext Z Z)<|Zq (ext Z Z)<|Za Z<|Zb Z<|A2<|Zq (faB 1 Z Z underlying60 Z (by exact B4))<|Zq (ld 1 Z Z (fP (Fv _)) Bm Z)<|Zm Z<|Zq (faB 1 Z Z underlying60 Z (by exact DR))<|Zq (ld 1 Z Z (fP (Er _)) ty58 Z)<|BW 2 [14,4,18] Z (fS Z<|fS Z<|fS Z<|fN)<|Zc [1001] [] func93 Z (zrv _ _ _) λr7 n8=>Zb Z<|A5<|Ze [] [1001] Z
def Jh (O:UInt64 × (List UInt8)):Option (Sum ((List UInt8)) (UInt64 × (List UInt8))) :=
 if decide (0<O.1) then
  app 1 O.2 [(O.1 % 256).toUInt8]>>=λU =>
  some (.inr (O.1 / 256,U))
 else
  some (.inl O.2)
def Ji (s3:(List UInt8)) (O:(List UInt8) × Int):Option (Sum ((List UInt8)) ((List UInt8) × Int)) :=
 if decide (0<=O.2) then
  idx s3 O.2>>=λU =>
  app 1 O.1 [U]>>=λa1 =>
  some (w64 (O.2 - 1))>>=λa2 =>
  some (.inr (a1,a2))
 else
  some (.inl O.1)
def DV (a0:UInt64):Option ((List UInt8)) :=
 if decide (a0<=247) then
  some [a0.toUInt8]
 else
  (iter (Jh) (a0,[]))>>=λO =>
  (some (w64 ((O.length:Int) - 1))>>=λU =>
  iter (Ji O) ([UInt8.ofInt (w64 (247+(O.length:Int)))],U))>>=λa1 =>
  some a1
theorem Ew (a0:UInt64):Ah Tryz.prog 49 [.rd Ar a0] [] (DV a0) (λr O=>⟨[.val (O 0)],[(100,some (O 0,.list u8R 5 r))]⟩):=by
 refine Am 41 func49 Z Z Z λH w=>?_;refine A2<|Zb Z<|A6<|A2<|Zm Z<|Zq (U.leq Z Z)<|Zj Z (λh1=>?_) (λh1=>?_)
 ·refine A2<|Zm Z<|Zq (U.toB Z tu52 tu5)<|Ef Z (lit (R:=u8R) ([a0.toUInt8]:List UInt8) 1 (pP Z Z<|pN) Z tu36 ti5 Z Z) λv2=>Zb Z<|A5<|An<|Ze [v2] [1] Z
 ·refine Zt<|A2<|Zb Z<|AY (λ(s3:(List UInt8)) aa ww=>∃ O:Nat->Value,Sta (ctx 41 H [] w) [(3,.val (O 0))] [(3,some ((O 0),.list u8R 5 s3))] aa ww) ?_ (λs3=>?_)
  ·refine Dk u8R 5 6<|AJ (λ(s4:UInt64 × (List UInt8)) aa ww=>∃ O:Nat->Value,Sta (ctx 41 H [] w) [(0,.rd Ar s4.1),(3,.val (O 0))] [(5,some ((O 0),.list u8R 5 s4.2))] aa ww) (λaa ww h=>⟨nvl [(.slice none 0 0)],Zu h [6]⟩) (λs4=>?_);refine gEx λn5=>A6<|A2<|Zm Z<|Zq (U.gtr Z Z)<|Zj Z (λh6=>?_) (λh6=>?_)
   ·refine Zt<|AB<|A2<|Zm Z<|Zm Z<|Zq (U.rem Z Z (by decide))<|Zq (U.toB Z tu52 tu5)<|Ef Z (lit (R:=u8R) ([(s4.1 % 256).toUInt8]:List UInt8) 7 (pP Z Z<|pN) Z tu36 ti5 Z Z) λv7=>Al λx8 h9=>Ef Z (apn 5 Z Z Z (.own 7 Z) h9 tu36 ti5 Z Z Z) λa8=>Zb Z<|Ai<|Zm Z<|Zq (U.quo Z Z (by decide))<|Za Z<|Ae<|Ap<|Au (λaa ww h=>⟨nvl [a8],Zu h [5]⟩)
   ·refine AC<|AD<|AG<|Av (λaa ww h=>⟨nvl [(n5 0)],Zu h [5]⟩)
  ·refine gEx λa2=>A2<|Zm Z<|Zq (Aq Z (.own 3 Z) Z tu36)<|Zq (I.add Z Z)<|Zq (I.toB Z tu3 tu5)<|Ef Z (lit (R:=u8R) ([UInt8.ofInt (w64 (247+(s3.length:Int)))]:List UInt8) 8 (pP Z Z<|pN) Z tu36 ti5 Z Z) λab=>Zb Z<|AY (λ(a6:(List UInt8)) aa ww=>∃ O:Nat->Value,Sta (ctx 41 H [] w) [(4,.val (O 0))] [(8,some ((O 0),.list u8R 5 a6))] aa ww) ?_ (λa6=>?_)
   ·refine A2<|Zm Z<|Zq (Aq Z (.own 3 Z) Z tu36)<|Zq (I.sub Z Z)<|Za Z<|AI 5 Z λaj=>Zn<|AJ (λ(a1:(List UInt8) × Int) aa ww=>∃ O:Nat->Value,Sta (ctx 41 H [] w) [(3,.val (a2 0)),(4,.val (O 0)),(5,.rd A3 a1.2)] [(3,some ((a2 0),.list u8R 5 s3)),(8,some ((O 0),.list u8R 5 a1.1))] aa ww) (λaa ww h=>⟨nvl [ab],Zu h [3,8]⟩) (λa1=>?_);refine gEx λac=>A6<|A2<|Zm Z<|Zq (I.geq Z Z)<|Zj Z (λad=>?_) (λad=>?_)
    ·refine Zt<|A6<|AB<|Ai<|Zm Z<|Zm Z<|Zm Z<|Al λae a7=>Zq (ixO 3 Z Z Z a7 tu36 ti5)<|Zq (ld 3 Z Z (Foc.el a7) ty5 Z)<|Ef Z (lit (R:=u8R) ([ae]:List UInt8) 9 (pP Z Z<|pN) Z tu36 ti5 Z Z) λak=>Al λam af=>Ef Z (apn 8 Z Z Z (.own 9 Z) af tu36 ti5 Z Z Z) λah=>Za Z<|Ae<|Ap<|Af<|Ai<|Zm Z<|Zq (I.sub Z Z)<|Za Z<|AI 5 Z λao=>Ae<|Au (λaa ww h=>⟨nvl [ah],Zu h [3,8]⟩)
    ·refine AC<|AD<|AG<|Av (λaa ww h=>⟨nvl [(ac 0)],Zu h [8]⟩)
   ·refine gEx λai=>A2<|Zm Z<|Zb Z<|A5<|Ze [(ai 0)] [8] Z
def Jj (a0:List V3) (O:(List UInt8) × Int):Option (Sum ((List UInt8)) ((List UInt8) × Int)) :=
 if decide (O.2<(a0.length:Int)) then
  idx a0 O.2>>=λx7 =>
  app 1 O.1 x7.toList>>=λx9 =>
  some (w64 (O.2+1))>>=λU =>
  some (.inr (x9,U))
 else
  some (.inl O.1)
def Jk (a0:List V3):Option ((List UInt8)) :=
 DV (UInt64.ofInt (a0.length:Int))>>=λO =>
 (iter (Jj a0) (O,0))>>=λU =>
 some U
theorem T7 (a0:List V3):Ah Tryz.prog 50 [.rd (A8 aZ) a0] [] (Jk a0) (λr O=>⟨[.val (O 0)],[(100,some (O 0,.list u8R 5 r))]⟩):=by
 refine Am 22 func50 Z Z Z λH w=>?_;refine A2<|Zb Z<|A2<|Zm Z<|Zq (Aq Z .rd Z tu28)<|Zq (I.toU Z tu3 tu52)<|Zc [] [(100,1)] func49 Z (Ew _) λr1 n2=>Zb Z<|AY (λ(s3:(List UInt8)) U ww=>∃ O:Nat->Value,Sta (ctx 22 H [] w) [(3,.val (O 0))] [(1,some ((O 0),.list u8R 5 s3))] U ww) ?_ (λs3=>?_)
 ·refine A2<|Zb Z<|AJ (λ(s4:(List UInt8) × Int) U ww=>∃ O:Nat->Value,Sta (ctx 22 H [] w) [(0,.rd (A8 aZ) a0),(3,.val (O 0)),(4,.rd A3 s4.2)] [(1,some ((O 0),.list u8R 5 s4.1))] U ww) (λU ww h=>⟨nvl [(n2 0)],Zu h [1]⟩) (λs4=>?_);refine gEx λn5=>A6<|A2<|Zm Z<|Zm Z<|Zq (Aq Z .rd Z tu28)<|Zq (I.lss Z Z)<|Zj Z (λh6=>?_) (λh6=>?_)
  ·refine Zt<|A6<|AB<|Ai<|Zm Z<|Zm Z<|Zm Z<|Al λx7 h8=>Zq (ixR Z Z h8 tu28 Ak Z)<|Zq (CO Z tu71 ti5 Z Z Z)<|Al λx9 a1=>Ef Z (apn 1 Z Z Z .rd a1 tu36 ti5 Z Z Z) λa2=>Za Z<|Ae<|Ap<|Af<|Ai<|Zm Z<|Zq (I.add Z Z)<|Za Z<|AI 4 Z λa7=>Ae<|Au (λU ww h=>⟨nvl [a2],Zu h [1]⟩)
  ·refine AC<|AD<|AG<|Av (λU ww h=>⟨nvl [(n5 0)],Zu h [1]⟩)
 ·refine gEx λa6=>A2<|Zm Z<|Zb Z<|A5<|Ze [(a6 0)] [1] Z
def FP (a0:List UInt8):Option ((List UInt8)) :=
 DV (UInt64.ofInt (a0.length:Int))>>=λO =>
 app 1 O a0>>=λU =>
 some U
theorem Jl (a0:List UInt8):Ah Tryz.prog 51 [.rd (A8 u8R) a0] [] (FP a0) (λr O=>⟨[.val (O 0)],[(100,some (O 0,.list u8R 5 r))]⟩):=by
 refine Am 9 func51 Z Z Z λH w=>?_;refine A2<|Zb Z<|A2<|Zm Z<|Zq (Aq Z .rd Z tu36)<|Zq (I.toU Z tu3 tu52)<|Zc [] [(100,1)] func49 Z (Ew _) λr1 n2=>Zm Z<|Al λx3 U=>Ef Z (apn 1 Z Z Z .rd U tu36 ti5 Z Z Z) λv5=>Zb Z<|A5<|Ze [v5] [1] Z
def M5 (a0:Int):Option ((List UInt8)) :=
 if decide (0<=a0) then
  DV (2 * (UInt64.ofInt a0))>>=λO =>
  some O
 else
  DV ((2 * (UInt64.ofInt (w64 (0 - (w64 (a0+1))))))+1)>>=λU =>
  some U
theorem zkj (a0:Int):Ah Tryz.prog 90 [.rd A3 a0] [] (M5 a0) (λr O=>⟨[.val (O 0)],[(100,some (O 0,.list u8R 5 r))]⟩):=by
 refine Am 16 func90 Z Z Z λH w=>?_;refine A2<|Zb Z<|A6<|A2<|Zm Z<|Zq (I.geq Z Z)<|Zj Z (λh1=>?_) (λh1=>?_)
 ·refine A2<|Zm Z<|Zq (I.toU Z underlying2 tu52)<|Zq (U.mul Z Z)<|Zc [] [(100,1)] func49 Z (Ew _) λr2 n3=>Zb Z<|A5<|An<|Ze [(n3 0)] [1] Z
 ·refine Zt<|A2<|Zm Z<|Zq (I.add Z Z)<|Zq (I.neg Z)<|Zq (I.toU Z underlying2 tu52)<|Zq (U.mul Z Z)<|Zq (U.add Z Z)<|Zc [] [(100,2)] func49 Z (Ew _) λr4 n5=>Zb Z<|A5<|Ze [(n5 0)] [2] Z
def Jm (a0:Ay) (O:(List UInt8) × Int):Option (Sum ((List UInt8)) ((List UInt8) × Int)) :=
 if decide (0<=O.2) then
  chk (0<=w64 (8 * O.2))>>=λa2 =>
  app 1 O.1 [(Ce a0.Bits ((w64 (8 * O.2):Int).toNat)).toUInt8]>>=λU =>
  some (w64 (O.2 - 1))>>=λa1 =>
  some (.inr (U,a1))
 else
  some (.inl O.1)
def Jn (a0:Ay):Option ((List UInt8)) :=
 if a0.Kind==1 then
  M5 a0.Num>>=λr4 =>
  app 1 [a0.Kind] r4>>=λx6 =>
  some x6
 else
  if a0.Kind==2 then
   (iter (Jm a0) ([a0.Kind],7))>>=λO =>
   some O
  else
   chk (a0.Text.length<=281474976710656)>>=λa2 =>
   FP a0.Text>>=λU =>
   app 1 [a0.Kind] U>>=λa1 =>
   some a1
theorem T8 (a0:Ay):Ah Tryz.prog 52 [.rd CP a0] [] (Jn a0) (λr O=>⟨[.val (O 0)],[(100,some (O 0,.list u8R 5 r))]⟩):=by
 refine Am 39 func52 Z Z Z λH w=>?_;refine A2<|Eb Z (bx 1 Z) λv1=>Zb Z<|A2<|Zq (faB 1 Z Z underlying54 Z (by exact ti5))<|Zq (ld 1 Z Z (fP (Fp _)) ty5 Z)<|Ef Z (lit (R:=u8R) ([a0.Kind]:List UInt8) 2 (pP Z Z<|pN) Z tu36 ti5 Z Z) λv2=>Zb Z<|A6<|A2<|Zq (faB 1 Z Z underlying54 Z (by exact ti5))<|Zq (ld 1 Z Z (fP (Fp _)) ty5 Z)<|Zn<|AB<|A2<|Zq (B.eql Z Z)<|Zb Z<|gIf Z Z (λh3=>?_) (λh3=>?_)
 ·refine gKn 11 Z h3<|A2<|Zm Z<|Zq (faB 1 Z Z underlying54 Z (by exact ti2))<|Zq (ld 1 Z Z (fP (HI _)) ty2 Z)<|Zc [] [(100,3)] func90 Z (zkj _) λr4 n5=>Al λx6 h7=>Ef Z (apn 2 Z Z Z (.own 3 Z) h7 tu36 ti5 Z Z Z) λv8=>Zb Z<|A5<|Bh<|An<|Ze [v8] [2] Z
 ·refine gKn 11 Z h3<|A2<|Zq (B.eql Z Z)<|Zb Z<|gIf Z Z (λh9=>?_) (λh9=>?_)
  ·refine gKn 18 Z h9<|AY (λ(a2:(List UInt8)) aa ww=>∃ O:Nat->Value,Sta (ctx 39 H [] w) [(3,.val (O 0))] [(2,some ((O 0),.list u8R 5 a2))] aa ww) ?_ (λa2=>?_)
   ·refine A2<|Zb Z<|AJ (λ(a1:(List UInt8) × Int) aa ww=>∃ O:Nat->Value,Sta (ctx 39 H [] w) [(1,.val (A7 v1 0)),(3,.val (O 0)),(4,.rd A3 a1.2)] [(1,some (v1,.box 54 [.rd CP a0])),(2,some ((O 0),.list u8R 5 a1.1))] aa ww) (λaa ww h=>⟨nvl [v2],Zu h [1,2]⟩) (λa1=>?_);refine gEx λa6=>A6<|A2<|Zm Z<|Zq (I.geq Z Z)<|Zj Z (λa7=>?_) (λa7=>?_)
    ·refine Zt<|A6<|AB<|Ai<|Zm Z<|Zq (faB 1 Z Z underlying54 Z (by exact CV))<|Zq (ld 1 Z Z (fP (Gj _)) CR Z)<|Zm Z<|Zq (I.mul Z Z)<|Al λai a8=>Zq (U.shr Z Z (DP a8))<|Zq (U.toB Z tu52 tu5)<|Ef Z (lit (R:=u8R) ([(Ce a0.Bits ((w64 (8 * a1.2):Int).toNat)).toUInt8]:List UInt8) 4 (pP Z Z<|pN) Z tu36 ti5 Z Z) λaj=>Al λak ab=>Ef Z (apn 2 Z Z Z (.own 4 Z) ab tu36 ti5 Z Z Z) λac=>Za Z<|Ae<|Ap<|Af<|Ai<|Zm Z<|Zq (I.sub Z Z)<|Za Z<|AI 4 Z λam=>Ae<|Au (λaa ww h=>⟨nvl [ac],Zu h [1,2]⟩)
    ·refine AC<|AD<|AG<|Av (λaa ww h=>⟨nvl [(a6 0)],Zu h [2]⟩)
   ·refine gEx λad=>A2<|Zm Z<|Zb Z<|A5<|Bh<|An<|Ze [(ad 0)] [2] Z
  ·refine gKn 18 Z h9<|AW<|Ap<|Af<|A2<|Zm Z<|Zq (faB 1 Z Z underlying54 Z (by exact ti9))<|Zq (ld 1 Z Z (fP (Fq _)) ty9 Z)<|Al λao ae=>IS Z Z ae tu9 tu36 tu5<|Zc [] [(100,5)] func51 Z (Jl _) λap aq=>Al λar af=>Ef Z (apn 2 Z Z Z (.own 5 Z) af tu36 ti5 Z Z Z) λah=>Zb Z<|A5<|Ze [ah] [2] Z
def Jo (a0:Ab):Option ((List UInt8)) :=
 DV a0.Author.toUInt64>>=λr3 =>
 app 1 [111] r3>>=λx5 =>
 Jk a0.Preds>>=λr8 =>
 app 1 x5 r8>>=λa1 =>
 DV a0.Stamp>>=λa2 =>
 app 1 a1 a2>>=λa6 =>
 app 1 a6 [a0.Act.Kind]>>=λO =>
 (if a0.Act.Kind != 1 then
  chk (a0.Act.Key.length<=281474976710656)>>=λac =>
  FP a0.Act.Key>>=λa7 =>
  app 1 O a7>>=λa8 =>
  some a8
 else
  some O)>>=λU =>
 if a0.Act.Kind==4 then
  Jn a0.Act.Value>>=λaa =>
  app 1 U aa>>=λab =>
  some ab
 else
  some U
theorem T9 (a0:Ab):Ah Tryz.prog 163 [.rd AA a0] [] (Jo a0) (λr O=>⟨[.val (O 0)],[(100,some (O 0,.list u8R 5 r))]⟩):=by
 refine Am 47 func163 Z Z Z λH w=>?_;refine A2<|Eb Z (bx 1 Z) λv1=>Zb Z<|A2<|Ef Z (lit (R:=u8R) ([111]:List UInt8) 2 (pP Z Z<|pN) Z tu36 ti5 Z Z) λv2=>Zq (faB 1 Z Z underlying60 Z (by exact B4))<|Zq (ld 1 Z Z (fP (Fv _)) Bm Z)<|Zq (W.toU Z tu51 tu52)<|Zc [] [(100,3)] func49 Z (Ew _) λr3 n4=>Al λx5 h6=>Ef Z (apn 2 Z Z Z (.own 3 Z) h6 tu36 ti5 Z Z Z) λv7=>Zb Z<|A6<|Bq [2,13,25] mixed Z Z<|A4 0 Z Z (mv Z)<|A4 1 Z Z (faB 1 Z Z underlying60 Z (by exact AU))<|A4 2 Z Z (ld 1 Z Z (fP (Co _)) B0 Z)<|A4 5 Z Z (faB 1 Z Z underlying60 Z (by exact CV))<|A4 6 Z Z (ld 1 Z Z (fP (Fc _)) CR Z)<|Be 3 [] [(100,13)] Z (by kernel_rfl) Z (gd0 Z) Z func50 Z Z (T7 _) (Y1 Z) rN Z (λ_ _=>C1) λr8 n9=>AZ λaj a1=>Zo 4 Z Z Z (apn 2 Z Z Z (.own 13 Z) a1 tu36 ti5 Z Z Z) λak=>Be 7 [] [(100,25)] Z (by kernel_rfl) Z (gd0 Z) Z func49 Z Z (Ew _) (Y1 Z) rN Z (λ_ _=>C1) λam ao=>AZ λap a2=>Zo 8 Z Z Z (apn 2 Z Z Z (.own 25 Z) a2 tu36 ti5 Z Z Z) λaq=>Zf 9 Z Z C1 (asg Z)<|AV (by kernel_rfl)<|Af<|A2<|Zm Z<|Zq (faB 1 Z Z underlying60 Z (by exact Cj))<|Zq (faB 1 Z Z underlying56 Z (by exact ti5))<|Zq (ld 1 Z Z ((fP (Ct _)).part (DS _)) ty5 Z)<|Ef Z (lit (R:=u8R) ([a0.Act.Kind]:List UInt8) 37 (pP Z Z<|pN) Z tu36 ti5 Z Z) λar=>Al λau a6=>Ef Z (apn 2 Z Z Z (.own 37 Z) a6 tu36 ti5 Z Z Z) λa7=>Zb Z<|AY (λ(U:(List UInt8)) aa ww=>∃ O:Nat->Value,Sta (ctx 47 H [] w) [(1,.val (A7 v1 0)),(3,.val (O 0))] [(1,some (v1,.box 60 [.rd AA a0])),(2,some ((O 0),.list u8R 5 U))] aa ww) ?_ (λU=>?_)
 ·refine A2<|Zq (faB 1 Z Z underlying60 Z (by exact Cj))<|Zq (faB 1 Z Z underlying56 Z (by exact ti5))<|Zq (ld 1 Z Z ((fP (Ct _)).part (DS _)) ty5 Z)<|Zq (B.neq Z Z)<|Zj Z (λa8=>?_) (λa8=>?_)
  ·refine Ai<|Zm Z<|Zq (faB 1 Z Z underlying60 Z (by exact Cj))<|Zq (faB 1 Z Z underlying56 Z (by exact ti9))<|Zq (ld 1 Z Z ((fP (Ct _)).part (DT _)) ty9 Z)<|Al λav ab=>IS Z Z ab tu9 tu36 tu5<|Zc [] [(100,38)] func51 Z (Jl _) λaw ax=>Al λay ac=>Ef Z (apn 2 Z Z Z (.own 38 Z) ac tu36 ti5 Z Z Z) λad=>Za Z<|Ae<|Av (λaa ww h=>⟨nvl [ad],Zu h [1,2]⟩)
  ·refine AW<|Av (λaa ww h=>⟨nvl [a7],Zu h [1,2]⟩)
 ·refine gEx λae=>A6<|A2<|Zq (faB 1 Z Z underlying60 Z (by exact Cj))<|Zq (faB 1 Z Z underlying56 Z (by exact ti5))<|Zq (ld 1 Z Z ((fP (Ct _)).part (DS _)) ty5 Z)<|Zq (B.eql Z Z)<|Zj Z (λaf=>?_) (λaf=>?_)
  ·refine Ai<|Zm Z<|Zq (faB 1 Z Z underlying60 Z (by exact Cj))<|Zq (faB 1 Z Z underlying56 Z (by exact Cp))<|Zq (ld 1 Z Z ((fP (Ct _)).part (FM _)) Dv Z)<|Zc [] [(100,39)] func52 Z (T8 _) λaz b0=>Al λb1 ah=>Ef Z (apn 2 Z Z Z (.own 39 Z) ah tu36 ti5 Z Z Z) λai=>Zb Z<|A2<|Zm Z<|Zb Z<|A5<|Ze [ai] [2] Z
  ·refine Zt<|A2<|Zm Z<|Zb Z<|A5<|Ze [(ae 0)] [2] Z
def Jp (a0:Ab):Option ((List UInt8)) :=
 Jo a0>>=λU =>
 DV a0.Sig.E.toUInt64>>=λr4 =>
 app 1 U r4>>=λx6 =>
 DV a0.Sig.S.toUInt64>>=λr9 =>
 app 1 x6 r9>>=λO =>
 some O
theorem Ta (a0:Ab):Ah Tryz.prog 110 [.rd AA a0] [] (Jp a0) (λr O=>⟨[.val (O 0)],[(100,some (O 0,.list u8R 5 r))]⟩):=by
 refine Am 17 func110 Z Z Z λH w=>?_;refine A2<|Eb Z (bx 1 Z) λv1=>Zb Z<|A6<|Bq [5,20,38] mixed Z Z<|A4 0 Z Z (ld 1 Z Z fH C4 Z)<|A4 2 Z Z (faB 1 Z Z underlying60 Z (by exact DR))<|A4 3 Z Z (faB 1 Z Z underlying58 Z (by exact B4))<|A4 4 Z Z (ld 1 Z Z ((fP (Er _)).part (Fu _)) Bm Z)<|A4 5 Z Z (W.toU Z tu51 tu52)<|A4 8 Z Z (faB 1 Z Z underlying60 Z (by exact DR))<|A4 9 Z Z (faB 1 Z Z underlying58 Z (by exact B4))<|A4 10 Z Z (ld 1 Z Z ((fP (Er _)).part (Gk _)) Bm Z)<|A4 11 Z Z (W.toU Z tu51 tu52)<|Be 1 [] [(100,5)] Z (by kernel_rfl) Z (gd0 Z) Z func163 Z Z (T9 _) (Y1 Z) rN Z (λ_ _=>C1) λr2 n3=>Be 6 [] [(100,20)] Z (by kernel_rfl) Z (gd0 Z) Z func49 Z Z (Ew _) (Y1 Z) rN Z (λ_ _=>C1) λr4 n5=>AZ λx6 h7=>Zo 7 Z Z Z (apn 5 Z Z Z (.own 20 Z) h7 tu36 ti5 Z Z Z) λv8=>Be 12 [] [(100,38)] Z (by kernel_rfl) Z (gd0 Z) Z func49 Z Z (Ew _) (Y1 Z) rN Z (λ_ _=>C1) λr9 a2=>AZ λa6 U=>Zo 13 Z Z Z (apn 5 Z Z Z (.own 38 Z) U tu36 ti5 Z Z Z) λa1=>Zf 14 Z Z C1 (asg Z)<|AV (by kernel_rfl)<|Af<|A5<|Ze [a1] [5] Z
def Pi  : Option ((Vector UInt32 8)) :=
 some (#v[1779033703,3144134277,1013904242,2773480762,1359893119,2600822924,528734635,1541459225]:Vector UInt32 8)
theorem zl9  : Ah Tryz.prog 117 [] [] (Pi) (λr nv=>⟨[.rd (Az 8 A9) r],[]⟩):=by
 refine Am 2 func117 Z Z Z λH w=>?_;refine A2<|Eb Z (AN 1 E5 (.zr (R:=(Az 8 A9)) (x:=(Vector.replicate 8 0)) Gl)) λv1=>Zn<|A2<|Zq (litA (R:=A9) [1779033703,3144134277,1013904242,2773480762,1359893119,2600822924,528734635,1541459225] (#v[1779033703,3144134277,1013904242,2773480762,1359893119,2600822924,528734635,1541459225]:Vector UInt32 8) (pP Z Z<|pP Z Z<|pP Z Z<|pP Z Z<|pP Z Z<|pP Z Z<|pP Z Z<|pP Z Z<|pN) Z tu183 E5 Z B4)<|Es (sto 1 Z Z fH Z E5)<|Zn<|A5<|BF [] [] Z (eC 1 Z Z Gp<|eN) (rN)
def Jq (a0:Int) (O:(List UInt8)):Option (Sum ((List UInt8)) ((List UInt8))) :=
 if (Int.tmod (w64 ((w64 (a0+(O.length:Int)))+8)) 64) != 0 then
  app 1 O [0]>>=λU =>
  some (.inr U)
 else
  some (.inl O)
def Jr (a0:Int) (O:(List UInt8) × Int):Option (Sum ((List UInt8)) ((List UInt8) × Int)) :=
 if decide (0<=O.2) then
  chk (0<=w64 (8 * O.2))>>=λa2 =>
  app 1 O.1 [(Ce (8 * (UInt64.ofInt a0)) ((w64 (8 * O.2):Int).toNat)).toUInt8]>>=λU =>
  some (w64 (O.2 - 1))>>=λa1 =>
  some (.inr (U,a1))
 else
  some (.inl O.1)
def M6 (a0:Int):Option ((List UInt8)) :=
 (iter (Jq a0) [128])>>=λU =>
 (iter (Jr a0) (U,7))>>=λO =>
 some O
theorem zm9 (a0:Int):Ah Tryz.prog 118 [.rd A3 a0] [] (M6 a0) (λr O=>⟨[.val (O 0)],[(100,some (O 0,.list u8R 5 r))]⟩):=by
 refine Am 31 func118 Z Z Z λH w=>?_;refine A2<|Zb Z<|A2<|Ef Z (lit (R:=u8R) ([128]:List UInt8) 1 (pP Z Z<|pN) Z tu36 ti5 Z Z) λv1=>Zb Z<|AY (λ(s2:(List UInt8)) aa ww=>∃ O:Nat->Value,Sta (ctx 31 H [] w) [(0,.rd A3 a0),(3,.val (O 0))] [(1,some ((O 0),.list u8R 5 s2))] aa ww) ?_ (λs2=>?_)
 ·refine AJ (λ(s3:(List UInt8)) aa ww=>∃ O:Nat->Value,Sta (ctx 31 H [] w) [(0,.rd A3 a0),(3,.val (O 0))] [(1,some ((O 0),.list u8R 5 s3))] aa ww) (λaa ww h=>⟨nvl [v1],Zu h [1]⟩) (λs3=>?_);refine gEx λn4=>A6<|A2<|Zm Z<|Zm Z<|Zq (Aq Z (.own 1 Z) Z tu36)<|Zq (I.add Z Z)<|Zq (I.add Z Z)<|Zq (I.rem Z Z (by decide))<|Zq (I.neq Z Z)<|Zj Z (λh5=>?_) (λh5=>?_)
  ·refine Zt<|AB<|Ai<|Zm Z<|Ef Z (lit (R:=u8R) ([0]:List UInt8) 2 (pP Z Z<|pN) Z tu36 ti5 Z Z) λv6=>Al λx7 h8=>Ef Z (apn 1 Z Z Z (.own 2 Z) h8 tu36 ti5 Z Z Z) λv9=>Za Z<|Ae<|Ap<|Au (λaa ww h=>⟨nvl [v9],Zu h [1]⟩)
  ·refine AC<|AD<|AG<|Av (λaa ww h=>⟨nvl [(n4 0)],Zu h [1]⟩)
 ·refine gEx λa6=>AY (λ(a2:(List UInt8)) aa ww=>∃ O:Nat->Value,Sta (ctx 31 H [] w) [(3,.val (O 0))] [(1,some ((O 0),.list u8R 5 a2))] aa ww) ?_ (λa2=>?_)
  ·refine A2<|Zb Z<|AJ (λ(a1:(List UInt8) × Int) aa ww=>∃ O:Nat->Value,Sta (ctx 31 H [] w) [(0,.rd A3 a0),(3,.val (O 0)),(4,.rd A3 a1.2)] [(1,some ((O 0),.list u8R 5 a1.1))] aa ww) (λaa ww h=>⟨nvl [(a6 0)],Zu h [1]⟩) (λa1=>?_);refine gEx λa7=>A6<|A2<|Zm Z<|Zq (I.geq Z Z)<|Zj Z (λa8=>?_) (λa8=>?_)
   ·refine Zt<|A6<|AB<|Ai<|Zm Z<|Zm Z<|Zq (I.toU Z tu3 tu52)<|Zq (U.mul Z Z)<|Zm Z<|Zq (I.mul Z Z)<|Al λaf ab=>Zq (U.shr Z Z (DP ab))<|Zq (U.toB Z tu52 tu5)<|Ef Z (lit (R:=u8R) ([(Ce (8 * (UInt64.ofInt a0)) ((w64 (8 * a1.2):Int).toNat)).toUInt8]:List UInt8) 3 (pP Z Z<|pN) Z tu36 ti5 Z Z) λah=>Al λai ac=>Ef Z (apn 1 Z Z Z (.own 3 Z) ac tu36 ti5 Z Z Z) λad=>Za Z<|Ae<|Ap<|Af<|Ai<|Zm Z<|Zq (I.sub Z Z)<|Za Z<|AI 4 Z λaj=>Ae<|Au (λaa ww h=>⟨nvl [ad],Zu h [1]⟩)
   ·refine AC<|AD<|AG<|Av (λaa ww h=>⟨nvl [(a7 0)],Zu h [1]⟩)
  ·refine gEx λae=>A2<|Zm Z<|Zb Z<|A5<|Ze [(ae 0)] [1] Z
def EQ (a0:UInt32) (O:Int):Option (UInt32) :=
 chk (0<=O)>>=λu1 =>
 chk (0<=w64 (32 - O))>>=λu3 =>
 some ((BV a0 ((O:Int).toNat)) ||| (FH a0 ((w64 (32 - O):Int).toNat)))>>=λU =>
 some U
theorem FA (a0:UInt32) (O:Int):Ah Tryz.prog 210 [.rd A9 a0,.rd A3 O] [] (EQ a0 O) (λr nv=>⟨[.rd A9 r],[]⟩):=by
 refine Am 13 func210 Z Z Z λH w=>?_;refine A2<|Zb Z<|A6<|Dh mixed (by kernel_rfl)<|Rq Z (mv Z)<|Rq Z (mv Z)<|C3 λu1 U=>Rq Z (W.shr Z Z (DP U))<|Rq Z (mv Z)<|Rq Z (mv Z)<|Rq Z (I.sub Z Z)<|C3 λu3 h4=>Rq Z (W.shl Z Z (DP h4))<|Rq Z (W.or Z Z)<|Rq Z (asg Z)<|Sl 4 Z λy5=>Dd<|Af<|A5<|Ze [] [] Z
def Pj  : Option ((List UInt32)) :=
 some [1116352408,1899447441,3049323471,3921009573,961987163,1508970993,2453635748,2870763221,3624381080,310598401,607225278,1426881987,1925078388,2162078206,2614888103,3248222580,3835390401,4022224774,264347078,604807628,770255983,1249150122,1555081692,1996064986,2554220882,2821834349,2952996808,3210313671,3336571891,3584528711,113926993,338241895,666307205,773529912,1294757372,1396182291,1695183700,1986661051,2177026350,2456956037,2730485921,2820302411,3259730800,3345764771,3516065817,3600352804,4094571909,275423344,430227734,506948616,659060556,883997877,958139571,1322822218,1537002063,1747873779,1955562222,2024104815,2227730452,2361852424,2428436474,2756734187,3204031479,3329325298]
theorem zit  : Ah Tryz.prog 211 [] [] (Pj) (λr O=>⟨[.val (O 0)],[(100,some (O 0,.list A9 51 r))]⟩):=by
 refine Am 2 func211 Z Z Z λH w=>?_;refine A2<|Zb Z<|A2<|Ef Z (lit (R:=A9) ([1116352408,1899447441,3049323471,3921009573,961987163,1508970993,2453635748,2870763221,3624381080,310598401,607225278,1426881987,1925078388,2162078206,2614888103,3248222580,3835390401,4022224774,264347078,604807628,770255983,1249150122,1555081692,1996064986,2554220882,2821834349,2952996808,3210313671,3336571891,3584528711,113926993,338241895,666307205,773529912,1294757372,1396182291,1695183700,1986661051,2177026350,2456956037,2730485921,2820302411,3259730800,3345764771,3516065817,3600352804,4094571909,275423344,430227734,506948616,659060556,883997877,958139571,1322822218,1537002063,1747873779,1955562222,2024104815,2227730452,2361852424,2428436474,2756734187,3204031479,3329325298]:List UInt32) 1 (pP Z Z<|pP Z Z<|pP Z Z<|pP Z Z<|pP Z Z<|pP Z Z<|pP Z Z<|pP Z Z<|pP Z Z<|pP Z Z<|pP Z Z<|pP Z Z<|pP Z Z<|pP Z Z<|pP Z Z<|pP Z Z<|pP Z Z<|pP Z Z<|pP Z Z<|pP Z Z<|pP Z Z<|pP Z Z<|pP Z Z<|pP Z Z<|pP Z Z<|pP Z Z<|pP Z Z<|pP Z Z<|pP Z Z<|pP Z Z<|pP Z Z<|pP Z Z<|pP Z Z<|pP Z Z<|pP Z Z<|pP Z Z<|pP Z Z<|pP Z Z<|pP Z Z<|pP Z Z<|pP Z Z<|pP Z Z<|pP Z Z<|pP Z Z<|pP Z Z<|pP Z Z<|pP Z Z<|pP Z Z<|pP Z Z<|pP Z Z<|pP Z Z<|pP Z Z<|pP Z Z<|pP Z Z<|pP Z Z<|pP Z Z<|pP Z Z<|pP Z Z<|pP Z Z<|pP Z Z<|pP Z Z<|pP Z Z<|pP Z Z<|pP Z Z<|pN) Z tu269 B4 Z Z) λv1=>Zb Z<|A5<|Ze [v1] [1] Z
def Js (U:List UInt8) (O:(List UInt32) × Int):Option (Sum ((List UInt32)) ((List UInt32) × Int)) :=
 if decide (O.2<16) then
  idx U (w64 (4 * O.2))>>=λx7 =>
  idx U (w64 ((w64 (4 * O.2))+1))>>=λx9 =>
  idx U (w64 ((w64 (4 * O.2))+2))>>=λa2 =>
  idx U (w64 ((w64 (4 * O.2))+3))>>=λa6 =>
  app 4 O.1 [(((((x7.toUInt32 * 256)+x9.toUInt32) * 256)+a2.toUInt32) * 256)+a6.toUInt32]>>=λa7 =>
  some (w64 (O.2+1))>>=λa8 =>
  some (.inr (a7,a8))
 else
  some (.inl O.1)
def Jt (O:(List UInt32) × Int):Option (Sum ((List UInt32)) ((List UInt32) × Int)) :=
 if decide (O.2<64) then
  idx O.1 (w64 (O.2 - 15))>>=λU =>
  idx O.1 (w64 (O.2 - 2))>>=λa1 =>
  idx O.1 (w64 (O.2 - 16))>>=λa2 =>
  idx O.1 (w64 (O.2 - 7))>>=λa6 =>
  EQ U 7>>=λa7 =>
  EQ U 18>>=λa8 =>
  EQ a1 17>>=λaa =>
  EQ a1 19>>=λab =>
  app 4 O.1 [((a2+a6)+((a7 ^^^ a8) ^^^ (BV U 3)))+((aa ^^^ ab) ^^^ (BV a1 10))]>>=λac =>
  some (w64 (O.2+1))>>=λad =>
  some (.inr (ac,ad))
 else
  some (.inl O.1)
def Hd (ab:(List UInt32)) (ac:(List UInt32)) (O:(Vector UInt32 8) × Int):Option (Sum ((Vector UInt32 8)) ((Vector UInt32 8) × Int)) :=
 if decide (O.2<64) then
  B8 O.1 0>>=λU =>
  B8 O.1 1>>=λa2 =>
  B8 O.1 2>>=λa6 =>
  B8 O.1 4>>=λa1 =>
  B8 O.1 5>>=λa7 =>
  B8 O.1 6>>=λa8 =>
  B8 O.1 7>>=λad =>
  idx ac O.2>>=λae =>
  idx ab O.2>>=λaf =>
  EQ a1 6>>=λah =>
  EQ a1 11>>=λai =>
  EQ a1 25>>=λaj =>
  some ((((ad+((ah ^^^ ai) ^^^ aj))+((a1 &&& a7) ^^^ ((~~~a1) &&& a8)))+ae)+af)>>=λaa =>
  EQ U 2>>=λak =>
  EQ U 13>>=λam =>
  EQ U 22>>=λao =>
  some (((ak ^^^ am) ^^^ ao)+(((U &&& a2) ^^^ (U &&& a6)) ^^^ (a2 &&& a6)))>>=λap =>
  B8 O.1 3>>=λaq =>
  some (w64 (O.2+1))>>=λar =>
  some (.inr ((#v[aa+ap,U,a2,a6,aq+aa,a1,a7,a8]:Vector UInt32 8),ar))
 else
  some (.inl O.1)
def Gx (a1:(Vector UInt32 8)) (O:(Vector UInt32 8) × Int):Option (Sum ((Vector UInt32 8)) ((Vector UInt32 8) × Int)) :=
 if decide (O.2<8) then
  B8 O.1 O.2>>=λa2 =>
  B8 a1 O.2>>=λa6 =>
  B8 O.1 O.2>>=λa7 =>
  some (w64 (O.2+1))>>=λU =>
  some (.inr (CB O.1 O.2 (a2+a6),U))
 else
  some (.inl O.1)
def M7 (a0:Vector UInt32 8) (a1:List UInt8):Option ((Vector UInt32 8)) :=
 (iter (Js a1) ([],0))>>=λs3 =>
 (iter (Jt) (s3,16))>>=λO =>
 Pj>>=λU =>
 (iter (Hd O U) (a0,0))>>=λa2 =>
 (iter (Gx a2) (a0,0))>>=λa6 =>
 some a6
theorem zkc (a0:Vector UInt32 8) (a1:List UInt8):Ah Tryz.prog 169 [.rd (Az 8 A9) a0,.rd (A8 u8R) a1] [] (M7 a0 a1) (λr O=>⟨[.rd (Az 8 A9) r],[]⟩):=by
 refine Am 203 func169 Z Z Z λH w=>?_;refine A2<|Eb Z (bx 1 Z) λv1=>Eb Z (AN 2 E5 (.zr (R:=(Az 8 A9)) (x:=(Vector.replicate 8 0)) Gl)) λv2=>Zn<|A2<|Zb Z<|AY (λ(s3:(List UInt32)) U ww=>∃ O:Nat->Value,Sta (ctx 203 H [] w) [(2,.val (A7 v1 0)),(4,.val (A7 v2 0)),(5,.val (O 0))] [(1,some (v1,.box 183 [.rd (Az 8 A9) a0])),(2,some (v2,.box 183 [.rd (Az 8 A9) (Vector.replicate 8 0)])),(108,some ((O 0),.list A9 51 s3))] U ww) ?_ (λs3=>?_)
 ·refine A2<|Zb Z<|Dk A9 51 215<|AJ (λ(s4:(List UInt32) × Int) U ww=>∃ O:Nat->Value,Sta (ctx 203 H [] w) [(1,.rd (A8 u8R) a1),(2,.val (A7 v1 0)),(4,.val (A7 v2 0)),(5,.val (O 0)),(6,.rd A3 s4.2)] [(1,some (v1,.box 183 [.rd (Az 8 A9) a0])),(2,some (v2,.box 183 [.rd (Az 8 A9) (Vector.replicate 8 0)])),(214,some ((O 0),.list A9 51 s4.1))] U ww) (λU ww h=>⟨nvl [(.slice none 0 0)],Zu h [1,2,215]⟩) (λs4=>?_)
  refine gEx λn5=>A6<|A2<|Zm Z<|Zq (I.lss Z Z)<|Zj Z (λh6=>?_) (λh6=>?_)
  ·refine Zt<|A6<|AB<|Bq [214,318] mixed Z Z<|A4 0 Z Z (mv Z)<|A4 1 Z Z (mv Z)<|A4 2 Z Z (mv Z)<|A4 3 Z Z (I.mul Z Z)<|AZ λx7 h8=>A4 4 Z Z (ixR Z Z h8 tu36 ti5 Z)<|A4 5 Z Z (ldR Z ty5)<|A4 6 Z Z (B.toW Z tu5 tu51)<|A4 7 Z Z (W.mul Z Z)<|A4 8 Z Z (mv Z)<|A4 9 Z Z (mv Z)<|A4 10 Z Z (I.mul Z Z)<|A4 11 Z Z (I.add Z Z)<|AZ λx9 bk=>A4 12 Z Z (ixR Z Z bk tu36 ti5 Z)<|A4 13 Z Z (ldR Z ty5)<|A4 14 Z Z (B.toW Z tu5 tu51)<|A4 15 Z Z (W.add Z Z)<|A4 16 Z Z (W.mul Z Z)<|A4 17 Z Z (mv Z)<|A4 18 Z Z (mv Z)<|A4 19 Z Z (I.mul Z Z)<|A4 20 Z Z (I.add Z Z)<|AZ λbl bm=>A4 21 Z Z (ixR Z Z bm tu36 ti5 Z)<|A4 22 Z Z (ldR Z ty5)<|A4 23 Z Z (B.toW Z tu5 tu51)<|A4 24 Z Z (W.add Z Z)<|A4 25 Z Z (W.mul Z Z)<|A4 26 Z Z (mv Z)<|A4 27 Z Z (mv Z)<|A4 28 Z Z (I.mul Z Z)<|A4 29 Z Z (I.add Z Z)<|AZ λbn bo=>A4 30 Z Z (ixR Z Z bo tu36 ti5 Z)<|A4 31 Z Z (ldR Z ty5)<|A4 32 Z Z (B.toW Z tu5 tu51)<|A4 33 Z Z (W.add Z Z)<|Zo 34 Z Z Z (lit (R:=A9) ([(((((x7.toUInt32 * 256)+x9.toUInt32) * 256)+bl.toUInt32) * 256)+bn.toUInt32]:List UInt32) 318 (pP Z Z<|pN) Z tu269 B4 Z Z) λca=>AZ λcb bp=>Zo 35 Z Z Z (apn 214 Z Z Z (.own 318 Z) bp tu269 B4 Z Z Z) λbq=>Zf 36 Z Z C1 (asg Z)<|AV (by kernel_rfl)<|Ap<|Af<|Ai<|Zm Z<|Zq (I.add Z Z)<|Za Z<|AI 6 Z λcc=>Ae<|Au (λU ww h=>⟨nvl [bq],Zu h [1,2,214]⟩)
  ·refine AC<|AD<|AG<|Av (λU ww h=>⟨nvl [(n5 0)],Zu h [1,2,214]⟩)
 ·refine gEx λbr=>AY (λ(ak:(List UInt32)) U ww=>∃ O:Nat->Value,Sta (ctx 203 H [] w) [(2,.val (A7 v1 0)),(4,.val (A7 v2 0)),(5,.val (O 0))] [(1,some (v1,.box 183 [.rd (Az 8 A9) a0])),(2,some (v2,.box 183 [.rd (Az 8 A9) (Vector.replicate 8 0)])),(108,some ((O 0),.list A9 51 ak))] U ww) ?_ (λak=>?_)
  ·refine A2<|Zb Z<|AJ (λ(a2:(List UInt32) × Int) U ww=>∃ O:Nat->Value,Sta (ctx 203 H [] w) [(2,.val (A7 v1 0)),(4,.val (A7 v2 0)),(5,.val (O 0)),(7,.rd A3 a2.2)] [(1,some (v1,.box 183 [.rd (Az 8 A9) a0])),(2,some (v2,.box 183 [.rd (Az 8 A9) (Vector.replicate 8 0)])),(108,some ((O 0),.list A9 51 a2.1))] U ww) (λU ww h=>⟨nvl [(br 0)],Zu h [1,2,108]⟩) (λa2=>?_);refine gEx λa6=>A6<|A2<|Zm Z<|Zq (I.lss Z Z)<|Zj Z (λbu=>?_) (λbu=>?_)
   ·refine Zt<|A6<|AB<|A6<|Dh mixed (by kernel_rfl)<|Rq Z (mv Z)<|Rq Z (mv Z)<|Rq Z (I.sub Z Z)<|C3 λa7 aq=>Rq Z (ixO 108 Z Z Z aq tu269 B4)<|Rq Z (ld 108 Z Z (Foc.el aq) Bm Z)<|Rq Z (mv Z)<|Rq Z (mv Z)<|Rq Z (I.sub Z Z)<|C3 λa8 ar=>Rq Z (ixO 108 Z Z Z ar tu269 B4)<|Rq Z (ld 108 Z Z (Foc.el ar) Bm Z)<|Rq Z (asg Z)<|Rq Z (asg Z)<|Dd<|Af<|EJ [(5,.val (a6 0)),(2,.val (A7 v1 0)),(4,.val (A7 v2 0)),(7,.rd A3 a2.2),(8,.rd A9 a7),(9,.rd A9 a8)] [(1,some (v1,.box 183 [.rd (Az 8 A9) a0])),(2,some (v2,.box 183 [.rd (Az 8 A9) (Vector.replicate 8 0)])),(108,some ((a6 0),.list A9 51 a2.1))] [1,2,108] (Zs Z Z Z Z<|sS Z<|sS Z<|sN) (Zi Z<|Zi Z<|Zi Z<|rN)<|Ca λad au=>Ca λae av=>Ca λab bv=>Ca λac bw=>Ca λaf bz=>Ca λah c2=>Ca λc3 c4=>gOr [(5,.val (a6 0),32)] [⟨108,some ([], λO=>((a6 0),.list A9 51 a2.1)),[(31,some ([2], λO=>((O 2),.list A9 51 c3)))]⟩,⟨330,none,[(30,some ([1], λO=>((O 1),.list A9 51 [((ad+ae)+((ab ^^^ ac) ^^^ (BV a7 3)))+((af ^^^ ah) ^^^ (BV a8 10))])))]⟩] [⟨some (76,[], λO=>.val (a6 0)),[],[],[0]⟩,⟨some (77,[], λO=>.val (a6 0)),[],[],[0]⟩,pd 78 (.rd A3 a2.2),pd 79 (.rd A3 (w64 (a2.2 - 16))),pk 80 (.val (A7 (a6 0) ((w64 (a2.2 - 16):Int).toNat * 1))) [(0,0,false)],pk 81 (.rd A9 ad) [(0,0,false)],⟨some (82,[], λO=>.val (a6 0)),[],[],[0]⟩,pd 83 (.rd A3 a2.2),pd 84 (.rd A3 (w64 (a2.2 - 7))),pk 85 (.val (A7 (a6 0) ((w64 (a2.2 - 7):Int).toNat * 1))) [(0,0,false)],pk 86 (.rd A9 ae) [(0,0,false)],pd 87 (.rd A9 (ad+ae)),pd 88 (.rd A9 a7),pd 89 (.rd A9 ab),pd 90 (.rd A9 a7),pd 91 (.rd A9 ac),pd 92 (.rd A9 (ab ^^^ ac)),pd 93 (.rd A9 a7),pd 94 (.rd A9 (BV a7 3)),pd 95 (.rd A9 ((ab ^^^ ac) ^^^ (BV a7 3))),pd 96 (.rd A9 ((ad+ae)+((ab ^^^ ac) ^^^ (BV a7 3)))),pd 97 (.rd A9 a8),pd 98 (.rd A9 af),pd 99 (.rd A9 a8),pd 100 (.rd A9 ah),pd 101 (.rd A9 (af ^^^ ah)),pd 102 (.rd A9 a8),pd 103 (.rd A9 (BV a8 10)),pd 104 (.rd A9 ((af ^^^ ah) ^^^ (BV a8 10))),pd 105 (.rd A9 (((ad+ae)+((ab ^^^ ac) ^^^ (BV a7 3)))+((af ^^^ ah) ^^^ (BV a8 10)))),⟨some (106,[1], λO=>.val (O 1)),[(1,0,true)],[1],[]⟩,⟨some (107,[2], λO=>.val (O 2)),[(1,1,false),(0,0,true)],[2],[]⟩,⟨some (5,[2], λO=>.val (O 2)),[],[],[]⟩] mixed (oC (oRn (λO E=>mv Z))<|oC (oRn (λO E=>mv Z))<|oC (oRn (λO E=>mv Z))<|oC (oRn (λO E=>I.sub Z Z))<|oC (oRn (λO E=>ixO 108 Z Z Z au tu269 B4))<|oC (oRn (λO E=>ld 108 Z Z (Foc.el au) Bm Z))<|oC (oRn (λO E=>mv Z))<|oC (oRn (λO E=>mv Z))<|oC (oRn (λO E=>I.sub Z Z))<|oC (oRn (λO E=>ixO 108 Z Z Z av tu269 B4))<|oC (oRn (λO E=>ld 108 Z Z (Foc.el av) Bm Z))<|oC (oRn (λO E=>W.add Z Z))<|oC (oRn (λO E=>mv Z))<|oC (oCl [] [] [] bv func210 Z (λO=>(FA _ _)) (λO=>(Y2 Z Z)) (λO E=>rN))<|oC (oRn (λO E=>mv Z))<|oC (oCl [] [] [] bw func210 Z (λO=>(FA _ _)) (λO=>(Y2 Z Z)) (λO E=>rN))<|oC (oRn (λO E=>W.xor Z Z))<|oC (oRn (λO E=>mv Z))<|oC (oRn (λO E=>W.shr Z Z (Int.natCast_nonneg _)))<|oC (oRn (λO E=>W.xor Z Z))<|oC (oRn (λO E=>W.add Z Z))<|oC (oRn (λO E=>mv Z))<|oC (oCl [] [] [] bz func210 Z (λO=>(FA _ _)) (λO=>(Y2 Z Z)) (λO E=>rN))<|oC (oRn (λO E=>mv Z))<|oC (oCl [] [] [] c2 func210 Z (λO=>(FA _ _)) (λO=>(Y2 Z Z)) (λO E=>rN))<|oC (oRn (λO E=>W.xor Z Z))<|oC (oRn (λO E=>mv Z))<|oC (oRn (λO E=>W.shr Z Z (Int.natCast_nonneg _)))<|oC (oRn (λO E=>W.xor Z Z))<|oC (oRn (λO E=>W.add Z Z))<|oC (oEf 330 1 (λO E=>lit (R:=A9) ([((ad+ae)+((ab ^^^ ac) ^^^ (BV a7 3)))+((af ^^^ ah) ^^^ (BV a8 10))]:List UInt32) 330 (pP Z Z<|pN) Z tu269 B4 Z Z))<|oC (oEf 108 2 (λO E=>apn 108 Z Z Z (.own 330 Z) c4 tu269 B4 Z Z Z))<|oC (oRn (λO E=>asg Z))<|oN) λc5=>Ap<|Af<|Ai<|Zm Z<|Zq (I.add Z Z)<|Za Z<|AI 7 Z λcd=>Ae<|Au (λU ww h=>⟨nvl [(c5 2)],Zu h [1,2,108]⟩)
   ·refine AC<|AD<|AG<|Av (λU ww h=>⟨nvl [(a6 0)],Zu h [1,2,108]⟩)
  ·refine gEx λaw=>A2<|Zc [] [(100,331)] func211 Z (zit) λc6 ax=>Zb Z<|A2<|Zq (ld 1 Z Z fH Gp Z)<|Eb Z (AN 332 E5 (.zr (R:=(Az 8 A9)) (x:=(Vector.replicate 8 0)) Gl)) λai=>Es (sto 332 Z Z fH Z E5)<|Zn<|AY (λ(am:(Vector UInt32 8)) U ww=>Sta (ctx 203 H [] w) [(2,.val (A7 v1 0)),(4,.val (A7 v2 0)),(11,.val (A7 ai 0))] [(1,some (v1,.box 183 [.rd (Az 8 A9) a0])),(2,some (v2,.box 183 [.rd (Az 8 A9) (Vector.replicate 8 0)])),(332,some (ai,.box 183 [.rd (Az 8 A9) am]))] U ww) ?_ (λam=>?_)
   ·refine A2<|Zb Z<|AJ (λ(ao:(Vector UInt32 8) × Int) U ww=>Sta (ctx 203 H [] w) [(2,.val (A7 v1 0)),(4,.val (A7 v2 0)),(5,.val (aw 0)),(10,.val (ax 0)),(11,.val (A7 ai 0)),(12,.rd A3 ao.2)] [(1,some (v1,.box 183 [.rd (Az 8 A9) a0])),(2,some (v2,.box 183 [.rd (Az 8 A9) (Vector.replicate 8 0)])),(108,some ((aw 0),.list A9 51 ak)),(331,some ((ax 0),.list A9 51 c6)),(332,some (ai,.box 183 [.rd (Az 8 A9) ao.1]))] U ww) (λU ww h=>Zu h [1,2,108,331,332]) (λao=>?_)
    refine A6<|A2<|Zm Z<|Zq (I.lss Z Z)<|Zj Z (λc7=>?_) (λc7=>?_)
    ·refine Zt<|A6<|AB<|A6<|Dh mixed (by kernel_rfl)<|C3 λay az=>Rq Z (ixB 332 Z Z Z az tu183 B4)<|Rq Z (ld 332 Z Z (fP (.el az)) Bm Z)<|C3 λb0 b1=>Rq Z (ixB 332 Z Z Z b1 tu183 B4)<|Rq Z (ld 332 Z Z (fP (.el b1)) Bm Z)<|C3 λb2 b3=>Rq Z (ixB 332 Z Z Z b3 tu183 B4)<|Rq Z (ld 332 Z Z (fP (.el b3)) Bm Z)<|C3 λb4 b5=>Rq Z (ixB 332 Z Z Z b5 tu183 B4)<|Rq Z (ld 332 Z Z (fP (.el b5)) Bm Z)<|C3 λb6 b7=>Rq Z (ixB 332 Z Z Z b7 tu183 B4)<|Rq Z (ld 332 Z Z (fP (.el b7)) Bm Z)<|C3 λb8 b9=>Rq Z (ixB 332 Z Z Z b9 tu183 B4)<|Rq Z (ld 332 Z Z (fP (.el b9)) Bm Z)<|Rq Z (asg Z)<|Rq Z (asg Z)<|Rq Z (asg Z)<|Rq Z (asg Z)<|Rq Z (asg Z)<|Rq Z (asg Z)<|Dd<|Af<|A6<|Bq [] mixed Z Z<|AZ λce ba=>A4 0 Z Z (ixB 332 Z Z Z ba tu183 B4)<|A4 1 Z Z (ld 332 Z Z (fP (.el ba)) Bm Z)<|A4 2 Z Z (mv Z)<|A4 4 Z Z (mv Z)<|A4 7 Z Z (mv Z)<|A4 11 Z Z (mv Z)<|A4 12 Z Z (mv Z)<|A4 13 Z Z (W.and Z Z)<|A4 14 Z Z (mv Z)<|A4 15 Z Z (W.cpl Z)<|A4 16 Z Z (mv Z)<|A4 17 Z Z (W.and Z Z)<|A4 18 Z Z (W.xor Z Z)<|A4 20 Z Z (mv Z)<|A4 21 Z Z (mv Z)<|AZ λcg bb=>A4 22 Z Z (ixO 331 Z Z Z bb tu269 B4)<|A4 23 Z Z (ld 331 Z Z (Foc.el bb) Bm Z)<|A4 25 Z Z (mv Z)<|A4 26 Z Z (mv Z)<|AZ λch bc=>A4 27 Z Z (ixO 108 Z Z Z bc tu269 B4)<|A4 28 Z Z (ld 108 Z Z (Foc.el bc) Bm Z)<|Be 3 [] [] Z (by kernel_rfl) Z (gd0 Z) Z func210 Z Z (FA _ _) (Y2 Z Z) rN Z (λ_ _=>Cb) λci cj=>Be 5 [] [] Z (by kernel_rfl) Z (gd0 Z) Z func210 Z Z (FA _ _) (Y2 Z Z) rN Z (λ_ _=>Cb) λck cl=>A4 6 Z Z (W.xor Z Z)<|Be 8 [] [] Z (by kernel_rfl) Z (gd0 Z) Z func210 Z Z (FA _ _) (Y2 Z Z) rN Z (λ_ _=>Cb) λcm cn=>A4 9 Z Z (W.xor Z Z)<|A4 10 Z Z (W.add Z Z)<|A4 19 Z Z (W.add Z Z)<|A4 24 Z Z (W.add Z Z)<|A4 29 Z Z (W.add Z Z)<|A4 30 Z Z (asg Z)<|HH 19 Z Z λaj=>AV (by kernel_rfl)<|Af<|A2<|Zm Z<|Zc [] [] func210 Z (FA _ _) λco cq=>Zm Z<|Zc [] [] func210 Z (FA _ _) λcr ct=>Zq (W.xor Z Z)<|Zm Z<|Zc [] [] func210 Z (FA _ _) λcu cv=>Zq (W.xor Z Z)<|Zm Z<|Zm Z<|Zq (W.and Z Z)<|Zm Z<|Zm Z<|Zq (W.and Z Z)<|Zq (W.xor Z Z)<|Zm Z<|Zm Z<|Zq (W.and Z Z)<|Zq (W.xor Z Z)<|Zq (W.add Z Z)<|Za Z<|AI 20 Z λbd=>Zn<|Ai<|Zm Z<|Zm Z<|Zq (W.add Z Z)<|Zm Z<|Zm Z<|Zm Z<|Al λbe bf=>Zq (ixB 332 Z Z Z bf tu183 B4)<|Zq (ld 332 Z Z (fP (.el bf)) Bm Z)<|Zm Z<|Zq (W.add Z Z)<|Zm Z<|Zm Z<|Zm Z<|Zq (litA (R:=A9) [aj+bd,ay,b0,b2,be+aj,b4,b6,b8] (#v[aj+bd,ay,b0,b2,be+aj,b4,b6,b8]:Vector UInt32 8) (pP Z Z<|pP Z Z<|pP Z Z<|pP Z Z<|pP Z Z<|pP Z Z<|pP Z Z<|pP Z Z<|pN) Z tu183 E5 Z B4)<|Es (sto 332 Z Z fH Z E5)<|Ae<|Ap<|Af<|Ai<|Zm Z<|Zq (I.add Z Z)<|Za Z<|AI 12 Z λcx=>Ae<|Au (λU ww h=>Zu h [1,2,108,331,332])
    ·refine AC<|AD<|AG<|Av (λU ww h=>Zu h [1,2,332])
   ·refine AY (λ(bg:(Vector UInt32 8)) U ww=>Sta (ctx 203 H [] w) [(2,.val (A7 v1 0)),(4,.val (A7 v2 0))] [(1,some (v1,.box 183 [.rd (Az 8 A9) bg])),(2,some (v2,.box 183 [.rd (Az 8 A9) (Vector.replicate 8 0)]))] U ww) ?_ (λbg=>?_)
    ·refine A2<|Zb Z<|AJ (λ(ap:(Vector UInt32 8) × Int) U ww=>Sta (ctx 203 H [] w) [(2,.val (A7 v1 0)),(4,.val (A7 v2 0)),(11,.val (A7 ai 0)),(21,.rd A3 ap.2)] [(1,some (v1,.box 183 [.rd (Az 8 A9) ap.1])),(2,some (v2,.box 183 [.rd (Az 8 A9) (Vector.replicate 8 0)])),(332,some (ai,.box 183 [.rd (Az 8 A9) am]))] U ww) (λU ww h=>Zu h [1,2,332]) (λap=>?_);refine A6<|A2<|Zm Z<|Zq (I.lss Z Z)<|Zj Z (λc8=>?_) (λc8=>?_)
     ·refine Zt<|A6<|AB<|Bq [1] mixed Z Z<|A4 0 Z Z (mv Z)<|AZ λcy bh=>A4 1 Z Z (ixB 1 Z Z Z bh tu183 B4)<|A4 3 Z Z (mv Z)<|AZ λcz bi=>A4 4 Z Z (ixB 332 Z Z Z bi tu183 B4)<|A4 5 Z Z (ld 332 Z Z (fP (.el bi)) Bm Z)<|hRun 2 Z (by kernel_rfl) (gd0 Z) Z Z Cb (ld 1 Z Z (fP (.el bh)) Bm Z)<|A4 6 Z Z (W.add Z Z)<|AZ λd0 bj=>A4 7 Z Z (ixB 1 Z Z Z bj tu183 B4)<|Zp 8 Z Z Z Z Z (sto 1 Z Z (fP (.el bj)) Z B4)<|AV (by kernel_rfl)<|Ap<|Af<|Ai<|Zm Z<|Zq (I.add Z Z)<|Za Z<|AI 21 Z λc9=>Ae<|Au (λU ww h=>Zu h [1,2,332])
     ·refine AC<|AD<|AG<|Av (λU ww h=>Zu h [1,2])
    ·refine A2<|Zq (ld 1 Z Z fH Gp Z)<|Es (sto 2 Z Z fH Z E5)<|Zn<|A5<|BF [] [] Z (eC 2 Z Z Gp<|eN) (rN)
def Ju (U:List UInt8) (O:(Vector UInt32 8) × Int):Option (Sum ((Vector UInt32 8)) ((Vector UInt32 8) × Int)) :=
 if decide ((w64 (O.2+64))<=(U.length:Int)) then
  cut U O.2 (w64 (O.2+64))>>=λx6 =>
  M7 O.1 x6>>=λr8 =>
  some (w64 (O.2+64))>>=λa2 =>
  some (.inr (r8,a2))
 else
  some (.inl O.1)
def M8 (a0:Vector UInt32 8) (O:List UInt8):Option ((Vector UInt32 8)) :=
 (iter (Ju O) (a0,0))>>=λU =>
 some U
theorem zkn (a0:Vector UInt32 8) (a1:List UInt8):Ah Tryz.prog 116 [.rd (Az 8 A9) a0,.rd (A8 u8R) a1] [] (M8 a0 a1) (λr nv=>⟨[.rd (Az 8 A9) r],[]⟩):=by
 refine Am 21 func116 Z Z Z λH w=>?_;refine A2<|Eb Z (bx 1 Z) λv1=>Eb Z (AN 2 E5 (.zr (R:=(Az 8 A9)) (x:=(Vector.replicate 8 0)) Gl)) λv2=>Zn<|AY (λ(s3:(Vector UInt32 8)) O U=>Sta (ctx 21 H [] w) [(2,.val (A7 v1 0)),(4,.val (A7 v2 0))] [(1,some (v1,.box 183 [.rd (Az 8 A9) s3])),(2,some (v2,.box 183 [.rd (Az 8 A9) (Vector.replicate 8 0)]))] O U) ?_ (λs3=>?_)
 ·refine A2<|Zb Z<|AJ (λ(s4:(Vector UInt32 8) × Int) O U=>Sta (ctx 21 H [] w) [(1,.rd (A8 u8R) a1),(2,.val (A7 v1 0)),(4,.val (A7 v2 0)),(5,.rd A3 s4.2)] [(1,some (v1,.box 183 [.rd (Az 8 A9) s4.1])),(2,some (v2,.box 183 [.rd (Az 8 A9) (Vector.replicate 8 0)]))] O U) (λO U h=>Zu h [1,2]) (λs4=>?_);refine A6<|A2<|Zm Z<|Zq (I.add Z Z)<|Zm Z<|Zq (Aq Z .rd Z tu36)<|Zq (I.leq Z Z)<|Zj Z (λh5=>?_) (λh5=>?_)
  ·refine Zt<|A6<|AB<|Bq [1] mixed Z Z<|A4 1 Z Z (mv Z)<|A4 2 Z Z (mv Z)<|A4 3 Z Z (mv Z)<|A4 4 Z Z (I.add Z Z)<|AZ λx6 h7=>A4 5 Z Z (cut' Z (.to Z) (.to Z) h7 tu36 ti5)<|hRun 0 Z (by kernel_rfl) (gd0 Z) Z Z anyJ (ld 1 Z Z fH Gp Z)<|Lq 6 [] [] Z (by kernel_rfl) Z (gd0 Z) Z func169 Z Z (zkc _ _) (Y2 Z Z) rN Z λr8 n9=>Zp 7 Z Z Z Z Z (sto 1 Z Z fH Z E5)<|AV (by kernel_rfl)<|Ap<|Af<|Ai<|Zm Z<|Zq (I.add Z Z)<|Za Z<|AI 5 Z λa2=>Ae<|Au (λO U h=>Zu h [1,2])
  ·refine AC<|AD<|AG<|Av (λO U h=>Zu h [1,2])
 ·refine A2<|Zq (ld 1 Z Z fH Gp Z)<|Es (sto 2 Z Z fH Z E5)<|Zn<|A5<|BF [] [] Z (eC 2 Z Z Gp<|eN) (rN)
def Jv (a0:Vector UInt32 8) (O:V3 × Int):Option (Sum (V3) (V3 × Int)) :=
 if decide (O.2<32) then
  B8 a0 (w64 (Int.tdiv O.2 4))>>=λx7 =>
  chk (0<=w64 (24 - (w64 (8 * (Int.tmod O.2 4)))))>>=λu9 =>
  B8 O.1 O.2>>=λa1 =>
  some (w64 (O.2+1))>>=λU =>
  some (.inr (CB O.1 O.2 ((BV x7 ((w64 (24 - (w64 (8 * (Int.tmod O.2 4)))):Int).toNat)).toUInt8),U))
 else
  some (.inl O.1)
def M9 (a0:Vector UInt32 8):Option (V3) :=
 (iter (Jv a0) ((Vector.replicate 32 0),0))>>=λO =>
 some O
theorem zj9 (a0:Vector UInt32 8):Ah Tryz.prog 115 [.rd (Az 8 A9) a0] [] (M9 a0) (λr nv=>⟨[.rd aZ r],[]⟩):=by
 refine Am 22 func115 Z Z Z λH w=>?_;refine A2<|Eb Z (bx 1 Z) λv1=>Eb Z (AN 2 Ak (.zr (R:=aZ) (x:=(Vector.replicate 32 0)) BU)) λv2=>Zn<|A2<|Eb Z (AN 3 Ak (.zr (R:=aZ) (x:=(Vector.replicate 32 0)) BU)) λv3=>Zn<|AY (λ(s4:V3) O U=>Sta (ctx 22 H [] w) [(2,.val (A7 v2 0)),(3,.val (A7 v3 0))] [(2,some (v2,.box 71 [.rd aZ (Vector.replicate 32 0)])),(3,some (v3,.box 71 [.rd aZ s4]))] O U) ?_ (λs4=>?_)
 ·refine A2<|Zb Z<|AJ (λ(s5:V3 × Int) O U=>Sta (ctx 22 H [] w) [(1,.val (A7 v1 0)),(2,.val (A7 v2 0)),(3,.val (A7 v3 0)),(4,.rd A3 s5.2)] [(1,some (v1,.box 183 [.rd (Az 8 A9) a0])),(2,some (v2,.box 71 [.rd aZ (Vector.replicate 32 0)])),(3,some (v3,.box 71 [.rd aZ s5.1]))] O U) (λO U h=>Zu h [1,2,3]) (λs5=>?_);refine A6<|A2<|Zm Z<|Zq (I.lss Z Z)<|Zj Z (λh6=>?_) (λh6=>?_)
  ·refine Zt<|A6<|AB<|Ai<|Zm Z<|Zm Z<|Zq (I.quo Z Z (by decide))<|Al λx7 h8=>Zq (ixB 1 Z Z Z h8 tu183 B4)<|Zq (ld 1 Z Z (fP (.el h8)) Bm Z)<|Zm Z<|Zq (I.rem Z Z (by decide))<|Zq (I.mul Z Z)<|Zq (I.sub Z Z)<|Al λu9 a2=>Zq (W.shr Z Z (DP a2))<|Zq (W.toB Z tu51 tu5)<|Al λa6 a1=>Zq (ixB 3 Z Z Z a1 tu71 ti5)<|Es (sto 3 Z Z (fP (.el a1)) Z ti5)<|Ae<|Ap<|Af<|Ai<|Zm Z<|Zq (I.add Z Z)<|Za Z<|AI 4 Z λa7=>Ae<|Au (λO U h=>Zu h [1,2,3])
  ·refine AC<|AD<|AG<|Av (λO U h=>Zu h [2,3])
 ·refine A2<|Zq (ld 3 Z Z fH Aw Z)<|Es (sto 2 Z Z fH Z Ak)<|Zn<|A5<|BF [] [] Z (eC 2 Z Z Aw<|eN) (rN)
def Gy (a0:List UInt8):Option (V3) :=
 Pi>>=λr2 =>
 app 1 ([]:List UInt8) a0>>=λx5 =>
 M6 (a0.length:Int)>>=λr8 =>
 app 1 x5 r8>>=λO =>
 M8 r2 O>>=λU =>
 M9 U>>=λa1 =>
 some a1
end
section
theorem Jw (a0:List UInt8):Ah Tryz.prog 65 [.rd (A8 u8R) a0] [] (Gy a0) (λr nv=>⟨[.rd aZ r],[]⟩):=by
 refine Am 13 func65 Z Z Z λH w=>?_;refine A2<|Eb Z (AN 1 Ak (.zr (R:=aZ) (x:=(Vector.replicate 32 0)) BU)) λv1=>Zn<|A2<|Zc [] [] func117 Z (zl9) λr2 n3=>Ef Z (lit (R:=u8R) (([]:List UInt8):List UInt8) 2 (pN) Z tu36 ti5 Z Z) λv4=>Zm Z<|Al λx5 U=>Ef Z (apn 2 Z Z Z .rd U tu36 ti5 Z Z Z) λv7=>Zm Z<|Zq (Aq Z .rd Z tu36)<|Zc [] [(100,3)] func118 Z (zm9 _) λr8 n9=>Al λa1 O=>Ef Z (apn 2 Z Z Z (.own 3 Z) O tu36 ti5 Z Z Z) λa2=>BW 2 [10] Z (fS Z<|fN)<|Zc [] [] func116 Z (zkn _ _) λa6 a7=>Zc [] [] func115 Z (zj9 _) λa8 aa=>Es (sto 1 Z Z fH Z Ak)<|Zn<|A5<|BF [] [] Z (eC 1 Z Z Aw<|eN) (rN)
def Jx (a0:Ab):Option (V3) :=
 Jp a0>>=λO =>
 Gy O>>=λU =>
 some U
theorem Tb (a0:Ab):Ah Tryz.prog 62 [.rd AA a0] [] (Jx a0) (λr nv=>⟨[.rd aZ r],[]⟩):=by
 refine Am 6 func62 Z Z Z λH w=>?_;refine A2<|Eb Z (bx 1 Z) λv1=>Eb Z (AN 2 Ak (.zr (R:=aZ) (x:=(Vector.replicate 32 0)) BU)) λv2=>Zn<|A2<|Zq (ld 1 Z Z fH C4 Z)<|Zc [] [(100,3)] func110 Z (Ta _) λr3 n4=>BW 3 [4] Z (fS Z<|fN)<|Zc [] [] func65 Z (Jw _) λr5 n6=>Es (sto 2 Z Z fH Z Ak)<|Zn<|A5<|BF [] [] Z (eC 2 Z Z Aw<|eN) (rN)
def Jy (a0:V3) (U:V3) (O:Int):Option (Sum (Sum Int Unit) Int) :=
 if decide (O<32) then
  B8 a0 O>>=λx6 =>
  B8 U O>>=λx8 =>
  if decide (x6<x8) then
   some (.inl (.inl (-1)))
  else
   B8 a0 O>>=λa2 =>
   B8 U O>>=λa6 =>
   if decide (a6<a2) then
    some (.inl (.inl 1))
   else
    some (.inr (w64 (O+1)))
 else
  some (.inl (.inr ()))
def Gz (a0:V3) (O:V3):Option (Int) :=
 Bc (iter (Jy a0 O) 0) λs3 =>
 some 0
theorem Jz (a0:V3) (a1:V3):Ah Tryz.prog 86 [.rd aZ a0,.rd aZ a1] [] (Gz a0 a1) (λr nv=>⟨[.rd A3 r],[]⟩):=by
 refine Am 24 func86 Z Z Z λH w=>?_;refine A2<|Eb Z (bx 1 Z) λv1=>Eb Z (bx 2 Z) λv2=>Zb Z<|BM (λ(s3:Unit) O U=>Sta (ctx 24 H [] w) [] [] O U) ?_ (λs3=>?_)
 ·refine A2<|Zb Z<|AJ (λ(s4:Int) O U=>Sta (ctx 24 H [] w) [(2,.val (A7 v1 0)),(3,.val (A7 v2 0)),(5,.rd A3 s4)] [(1,some (v1,.box 71 [.rd aZ a0])),(2,some (v2,.box 71 [.rd aZ a1]))] O U) (λO U h=>Zu h [1,2]) (λs4=>?_);refine A6<|A2<|Zm Z<|Zq (I.lss Z Z)<|Zj Z (λh5=>?_) (λh5=>?_)
  ·refine Zt<|A6<|AB<|A6<|A6<|Dh mixed (by kernel_rfl)<|Rq Z (mv Z)<|C3 λx6 h7=>Rq Z (ixB 1 Z Z Z h7 tu71 ti5)<|Rq Z (ld 1 Z Z (fP (.el h7)) ty5 Z)<|Rq Z (mv Z)<|C3 λx8 h9=>Rq Z (ixB 2 Z Z Z h9 tu71 ti5)<|Rq Z (ld 2 Z Z (fP (.el h9)) ty5 Z)<|Rq Z (B.lss Z Z)<|Dd<|Af<|gIf Z Z (λa7=>?_) (λa7=>?_)
   ·refine A2<|Zb Z<|A5<|An<|Bh<|An<|BE<|Bk<|Ze [] [] Z
   ·refine Zt<|A6<|Dh mixed (by kernel_rfl)<|Rq Z (mv Z)<|C3 λab a2=>Rq Z (ixB 1 Z Z Z a2 tu71 ti5)<|Rq Z (ld 1 Z Z (fP (.el a2)) ty5 Z)<|Rq Z (mv Z)<|C3 λac a6=>Rq Z (ixB 2 Z Z Z a6 tu71 ti5)<|Rq Z (ld 2 Z Z (fP (.el a6)) ty5 Z)<|Rq Z (B.gtr Z Z)<|Dd<|Af<|gIf Z Z (λa8=>?_) (λa8=>?_)
    ·refine A2<|Zb Z<|A5<|Bh<|An<|BE<|Bk<|Ze [] [] Z
    ·refine AW<|Ap<|Af<|Ai<|Zm Z<|Zq (I.add Z Z)<|Za Z<|Ae<|Au (λO U h=>Zu h [1,2])
  ·refine AC<|AD<|AG<|BA (λO U h=>Zu h [])
 ·refine A2<|Zb Z<|A5<|Ze [] [] Z
def He (a0:List V3) (O:Int):Option (Sum (Sum Bool Unit) Int) :=
 if decide (O<(a0.length:Int)) then
  idx a0 (w64 (O - 1))>>=λU =>
  idx a0 O>>=λx6 =>
  Gz U x6>>=λr8 =>
  if decide (0<=r8) then
   some (.inl (.inl false))
  else
   some (.inr (w64 (O+1)))
 else
  some (.inl (.inr ()))
def Hf (a0:List V3):Option (Bool) :=
 Bc (iter (He a0) 1) λs1 =>
 some true
theorem Ma (a0:List V3):Ah Tryz.prog 46 [.rd (A8 aZ) a0] [] (Hf a0) (λr nv=>⟨[.rd Ac r],[]⟩):=by
 refine Am 21 func46 Z Z Z λH w=>?_;refine A2<|Zb Z<|BM (λ(s1:Unit) O U=>Sta (ctx 21 H [] w) [] [] O U) ?_ (λs1=>?_)
 ·refine A2<|Zb Z<|AJ (λ(s2:Int) O U=>Sta (ctx 21 H [] w) [(0,.rd (A8 aZ) a0),(3,.rd A3 s2)] [] O U) (λO U h=>Zu h []) (λs2=>?_);refine A6<|A2<|Zm Z<|Zm Z<|Zq (Aq Z .rd Z tu28)<|Zq (I.lss Z Z)<|Zj Z (λh3=>?_) (λh3=>?_)
  ·refine Zt<|A6<|AB<|A6<|Bq [] mixed Z Z<|A4 0 Z Z (mv Z)<|A4 1 Z Z (mv Z)<|A4 2 Z Z (I.sub Z Z)<|AZ λx4 h5=>A4 3 Z Z (ixR Z Z h5 tu28 Ak Z)<|A4 4 Z Z (ldR Z Aw)<|A4 5 Z Z (mv Z)<|A4 6 Z Z (mv Z)<|AZ λx6 h7=>A4 7 Z Z (ixR Z Z h7 tu28 Ak Z)<|A4 8 Z Z (ldR Z Aw)<|Be 9 [] [] Z (by kernel_rfl) Z (gd0 Z) Z func86 Z Z (Jz _ _) (Y2 Z Z) rN Z (λ_ _=>Cb) λr8 n9=>A4 10 Z Z (I.geq Z Z)<|AV (by kernel_rfl)<|Af<|gIf Z Z (λa1=>?_) (λa1=>?_)
   ·refine A2<|Zb Z<|A5<|Bh<|An<|BE<|Bk<|Ze [] [] Z
   ·refine AW<|Ap<|Af<|Ai<|Zm Z<|Zq (I.add Z Z)<|Za Z<|Ae<|Au (λO U h=>Zu h [])
  ·refine AC<|AD<|AG<|BA (λO U h=>Zu h [])
 ·refine A2<|Zb Z<|A5<|Ze [] [] Z
def JA (U:UInt64) (O:UInt64 × UInt64 × UInt64):Option (Sum UInt64 (UInt64 × UInt64 × UInt64)) :=
 if decide (0<O.2.1) then
  (if (O.2.1 % 2)==1 then
   chk (U≠0)>>=λu6 =>
   some ((O.2.2 * O.1) % U)>>=λy8 =>
   some y8
  else
   some O.2.2)>>=λs4 =>
  chk (U≠0)>>=λu9 =>
  some ((O.1 * O.1) % U)>>=λa1 =>
  some (.inr (a1,O.2.1 / 2,s4))
 else
  some (.inl O.2.2)
def JB (a0:UInt64) (O:UInt64) (U:UInt64):Option (UInt64) :=
 (iter (JA U) (a0,O,1))>>=λs1 =>
 some s1
theorem Tc (a0:UInt64) (a1:UInt64) (a2:UInt64):Ah Tryz.prog 203 [.rd Ar a0,.rd Ar a1,.rd Ar a2] [] (JB a0 a1 a2) (λr nv=>⟨[.rd Ar r],[]⟩):=by
 refine Am 26 func203 Z Z Z λH w=>?_;refine A2<|Zb Z<|A2<|Zb Z<|AY (λ(s1:UInt64) O ww=>Sta (ctx 26 H [] w) [(7,.rd Ar s1)] [] O ww) ?_ (λs1=>?_)
 ·refine AJ (λ(s2:UInt64 × UInt64 × UInt64) O ww=>Sta (ctx 26 H [] w) [(0,.rd Ar s2.1),(1,.rd Ar s2.2.1),(2,.rd Ar a2),(7,.rd Ar s2.2.2)] [] O ww) (λO ww h=>Zu h []) (λs2=>?_);refine A6<|A2<|Zm Z<|Zq (U.gtr Z Z)<|Zj Z (λh3=>?_) (λh3=>?_)
  ·refine Zt<|AB<|AY (λ(s4:UInt64) O ww=>Sta (ctx 26 H [] w) [(0,.rd Ar s2.1),(1,.rd Ar s2.2.1),(2,.rd Ar a2),(7,.rd Ar s4)] [] O ww) ?_ (λs4=>?_)
   ·refine A2<|Zm Z<|Zq (U.rem Z Z (by decide))<|Zq (U.eql Z Z)<|Zj Z (λh5=>?_) (λh5=>?_)
    ·refine Ai<|Zm Z<|Zm Z<|Zq (U.mul Z Z)<|Zm Z<|Al λu6 h7=>Zq (U.rem Z Z (DP h7))<|Za Z<|AI 7 Z λy8=>Ae<|Av (λO ww h=>Zu h [])
    ·refine AW<|Av (λO ww h=>Zu h [])
   ·refine A2<|Zm Z<|Zm Z<|Zq (U.mul Z Z)<|Zm Z<|Al λu9 a6=>Zq (U.rem Z Z (DP a6))<|Za Z<|AI 0 Z λa7=>Zn<|Ai<|Zm Z<|Zq (U.quo Z Z (by decide))<|Za Z<|Ae<|Ap<|Au (λO ww h=>Zu h [])
  ·refine AC<|AD<|AG<|Av (λO ww h=>Zu h [])
 ·refine A2<|Zm Z<|Zb Z<|A5<|Ze [] [] Z
def JC (a0:UInt32):Option (Bool) :=
 if decide (1<=a0) then
  if decide (a0<1000000007) then
   JB a0.toUInt64 500000003 1000000007>>=λO =>
   some (O==1)
  else
   some false
 else
  some false
theorem Td (a0:UInt32):Ah Tryz.prog 159 [.rd A9 a0] [] (JC a0) (λr nv=>⟨[.rd Ac r],[]⟩):=by
 refine Am 15 func159 Z Z Z λH w=>?_;refine A2<|Zb Z<|A2<|Zm Z<|Zq (W.geq Z Z)<|Zm Z<|Bf 5 Z (λh1=>?_) (λh1=>?_)
 ·refine Aj 4 Z h1<|Aa Zx Z Z (mv Z)<|Aa Zx Z Z (W.lss Z Z)<|Zq (pkT Z Z)<|Zm Z<|Bf 9 Z (λO=>?_) (λO=>?_)
  ·refine Aj 7 Z O<|Aj 8 Z O<|Aa Zx Z Z (mv Z)<|Aa Zx Z Z (W.toU Z tu51 tu52)<|CN [] [] Zx Z func203 Z Z (Tc _ _ _) (aQ Z<|aQ Z<|aQ Z<|aN) rN λr3 n4=>Aa Zx Z Z (U.eql Z Z)<|Zq (pkT Z Z)<|Zb Z<|A5<|Ze [] [] Z
  ·refine Aj 7 Z O<|Aj 8 Z O<|Zk Z<|Zk Z<|Zk Z<|Zk Z<|Zq (pkF Z Z)<|Zb Z<|A5<|Ze [] [] Z
 ·refine Aj 4 Z h1<|Zk Z<|Zk Z<|Zq (pkF Z Z)<|Zm Z<|Zk Z<|Zk Z<|Zk Z<|Zk Z<|Zq (pkF Z Z)<|Zb Z<|A5<|Ze [] [] Z
def JD (a0:List UInt8) (O:Int):Option (Sum (Sum Bool Unit) Int) :=
 if decide (O<(a0.length:Int)) then
  idx a0 O>>=λU =>
  if decide (U<33) then
   some (.inl (.inl false))
  else
   idx a0 O>>=λx9 =>
   if decide (126<x9) then
    some (.inl (.inl false))
   else
    some (.inr (w64 (O+1)))
 else
  some (.inl (.inr ()))
def Hg (a0:List UInt8):Option (Bool) :=
 if decide ((a0.length:Int)<1) then
  some false
 else
  if decide (20<(a0.length:Int)) then
   some false
  else
   Bc (iter (JD a0) 0) λs3 =>
   some true
theorem Mb (a0:List UInt8):Ah Tryz.prog 87 [.rd BI a0] [] (Hg a0) (λr nv=>⟨[.rd Ac r],[]⟩):=by
 refine Am 28 func87 Z Z Z λH w=>?_;refine A2<|Zb Z<|A6<|A2<|Zm Z<|Zq (lenT Z Z tu9)<|Zq (I.lss Z Z)<|Zm Z<|Bf 7 Z (λh1=>?_) (λh1=>?_)
 ·refine Aj 6 Z h1<|Zk Z<|Zk Z<|Zk Z<|Zq (pkT Z Z)<|Zn<|CL Z<|A2<|Zb Z<|A5<|An<|Ze [] [] Z
 ·refine Aj 6 Z h1<|Aa Zx Z Z (mv Z)<|Aa Zx Z Z (lenT Z Z tu9)<|Aa Zx Z Z (I.gtr Z Z)<|Zq (pkF Z Z)<|Zj Z (λh2=>?_) (λh2=>?_)
  ·refine gKn 10 Z h2<|A2<|Zb Z<|A5<|An<|Ze [] [] Z
  ·refine gKn 10 Z h2<|Zt<|BM (λ(s3:Unit) O U=>Sta (ctx 28 H [] w) [] [] O U) ?_ (λs3=>?_)
   ·refine A2<|Zb Z<|AJ (λ(s4:Int) O U=>Sta (ctx 28 H [] w) [(0,.rd BI a0),(3,.rd A3 s4)] [] O U) (λO U h=>Zu h []) (λs4=>?_);refine A6<|A2<|Zm Z<|Zm Z<|Zq (lenT Z Z tu9)<|Zq (I.lss Z Z)<|Zj Z (λh5=>?_) (λh5=>?_)
    ·refine Zt<|A6<|AB<|A2<|Zm Z<|Zm Z<|Al λx6 h7=>Zq (idxT Z Z tu9 (Dt h7).1 (Dt h7).2.1)<|Zq (B.lss Z Z)<|Zm Z<|Bf 22 Z (λh8=>?_) (λh8=>?_)
     ·refine Aj 21 Z h8<|Zk Z<|Zk Z<|Zk Z<|Zk Z<|Zq (pkT Z Z)<|Zn<|CL Z<|A2<|Zb Z<|A5<|Bh<|An<|BE<|Bk<|Ze [] [] Z
     ·refine Aj 21 Z h8<|Aa Zx Z Z (mv Z)<|Aa Zx Z Z (mv Z)<|Al λx9 a2=>Aa Zx Z Z (idxT Z Z tu9 (Dt a2).1 (Dt a2).2.1)<|Aa Zx Z Z (B.gtr Z Z)<|Zq (pkF Z Z)<|Zj Z (λa1=>?_) (λa1=>?_)
      ·refine gKn 26 Z a1<|A2<|Zb Z<|A5<|Bh<|An<|BE<|Bk<|Ze [] [] Z
      ·refine gKn 26 Z a1<|AW<|Ap<|Af<|Ai<|Zm Z<|Zq (I.add Z Z)<|Za Z<|Ae<|Au (λO U h=>Zu h [])
    ·refine AC<|AD<|AG<|BA (λO U h=>Zu h [])
   ·refine A2<|Zb Z<|A5<|Ze [] [] Z
def Mc (a0:UInt64):Option (Int) :=
 some (w64 (((a0 % 9223372036854775808) / 4503599627370496).toNat:Int))>>=λO =>
 some O
theorem zj5 (a0:UInt64):Ah Tryz.prog 214 [.rd Ar a0] [] (Mc a0) (λr nv=>⟨[.rd A3 r],[]⟩):=by
 refine Am 7 func214 Z Z Z λH w=>?_;refine A2<|Zb Z<|A2<|Zm Z<|Zq (U.rem Z Z (by decide))<|Zq (U.quo Z Z (by decide))<|Zq (U.toI Z tu52 tu3)<|Za Z<|AI 2 Z λy1=>Zn<|A5<|Ze [] [] Z
def Pk (a0:UInt64):Option (UInt64) :=
 some (a0 % 4503599627370496)>>=λO =>
 some O
theorem zj7 (a0:UInt64):Ah Tryz.prog 215 [.rd Ar a0] [] (Pk a0) (λr nv=>⟨[.rd Ar r],[]⟩):=by
 refine Am 5 func215 Z Z Z λH w=>?_;refine A2<|Zb Z<|A2<|Zm Z<|Zq (U.rem Z Z (by decide))<|Za Z<|AI 2 Z λy1=>Zn<|A5<|Ze [] [] Z
def Md (a0:UInt64):Option (UInt8) :=
 Mc a0>>=λO =>
 Pk a0>>=λU =>
 Bc (if O==0 then
  if U==0 then
   some (.inl 1)
  else
   some (.inr ())
 else
  some (.inr ())) λs5 =>
 if O==0 then
  some 2
 else
  if decide (O<2047) then
   some 3
  else
   if U==0 then
    some 4
   else
    some 5
theorem zll (a0:UInt64):Ah Tryz.prog 178 [.rd Ar a0] [] (Md a0) (λr nv=>⟨[.rd u8R r],[]⟩):=by
 refine Am 21 func178 Z Z Z λH w=>?_;refine A2<|Zb Z<|A2<|Zm Z<|Zc [] [] func214 Z (zj5 _) λr1 n2=>Zm Z<|Zc [] [] func215 Z (zj7 _) λr3 n4=>Za Z<|Zb Z<|BM (λ(s5:Unit) O ww=>Sta (ctx 21 H [] w) [(3,.rd A3 r1),(4,.rd Ar r3)] [] O ww) ?_ (λs5=>?_)
 ·refine A2<|Zm Z<|Zq (I.eql Z Z)<|Zm Z<|Bf 11 Z (λh6=>?_) (λh6=>?_)
  ·refine Aj 10 Z h6<|Aa Zx Z Z (mv Z)<|Aa Zx Z Z (U.eql Z Z)<|Zq (pkT Z Z)<|Zj Z (λh7=>?_) (λh7=>?_)
   ·refine gKn 13 Z h7<|A2<|Zb Z<|A5<|Bk<|Ze [] [] Z
   ·refine gKn 13 Z h7<|AW<|BA (λO ww h=>Zu h [])
  ·refine Aj 10 Z h6<|Zk Z<|Zk Z<|Zq (pkF Z Z)<|Zn<|DX Z<|AW<|BA (λO ww h=>Zu h [])
 ·refine A6<|A2<|Zm Z<|Zq (I.eql Z Z)<|Zj Z (λh8=>?_) (λh8=>?_)
  ·refine A2<|Zb Z<|A5<|An<|Ze [] [] Z
  ·refine Zt<|A6<|A2<|Zm Z<|Zq (I.lss Z Z)<|Zj Z (λh9=>?_) (λh9=>?_)
   ·refine A2<|Zb Z<|A5<|An<|Ze [] [] Z
   ·refine Zt<|A6<|A2<|Zm Z<|Zq (U.eql Z Z)<|Zj Z (λa1=>?_) (λa1=>?_)
    ·refine A2<|Zb Z<|A5<|An<|Ze [] [] Z
    ·refine Zt<|A2<|Zb Z<|A5<|Ze [] [] Z
def Me (a0:UInt64):Option (UInt64) :=
 Md a0>>=λO =>
 if O==5 then
  some 9221120237041090560
 else
  some a0
theorem zla (a0:UInt64):Ah Tryz.prog 135 [.rd Ar a0] [] (Me a0) (λr nv=>⟨[.rd Ar r],[]⟩):=by
 refine Am 7 func135 Z Z Z λH w=>?_;refine A2<|Zb Z<|A6<|A2<|Zm Z<|Zc [] [] func178 Z (zll _) λr1 n2=>Zq (B.eql Z Z)<|Zj Z (λO=>?_) (λO=>?_)
 ·refine A2<|Zb Z<|A5<|An<|Ze [] [] Z
 ·refine Zt<|A2<|Zm Z<|Zb Z<|A5<|Ze [] [] Z
def JE (a0:List UInt8) (O:Int):Option (Sum (Sum Bool Unit) Int) :=
 if decide (O<(a0.length:Int)) then
  idx a0 O>>=λU =>
  if decide (U<32) then
   some (.inl (.inl false))
  else
   idx a0 O>>=λx7 =>
   if decide (126<x7) then
    some (.inl (.inl false))
   else
    some (.inr (w64 (O+1)))
 else
  some (.inl (.inr ()))
def Mf (a0:List UInt8):Option (Bool) :=
 Bc (iter (JE a0) 0) λs1 =>
 some true
theorem zif (a0:List UInt8):Ah Tryz.prog 136 [.rd BI a0] [] (Mf a0) (λr nv=>⟨[.rd Ac r],[]⟩):=by
 refine Am 20 func136 Z Z Z λH w=>?_;refine A2<|Zb Z<|BM (λ(s1:Unit) O U=>Sta (ctx 20 H [] w) [] [] O U) ?_ (λs1=>?_)
 ·refine A2<|Zb Z<|AJ (λ(s2:Int) O U=>Sta (ctx 20 H [] w) [(0,.rd BI a0),(3,.rd A3 s2)] [] O U) (λO U h=>Zu h []) (λs2=>?_);refine A6<|A2<|Zm Z<|Zm Z<|Zq (lenT Z Z tu9)<|Zq (I.lss Z Z)<|Zj Z (λh3=>?_) (λh3=>?_)
  ·refine Zt<|A6<|AB<|A2<|Zm Z<|Zm Z<|Al λx4 h5=>Zq (idxT Z Z tu9 (Dt h5).1 (Dt h5).2.1)<|Zq (B.lss Z Z)<|Zm Z<|Bf 14 Z (λh6=>?_) (λh6=>?_)
   ·refine Aj 13 Z h6<|Zk Z<|Zk Z<|Zk Z<|Zk Z<|Zq (pkT Z Z)<|Zn<|CL Z<|A2<|Zb Z<|A5<|Bh<|An<|BE<|Bk<|Ze [] [] Z
   ·refine Aj 13 Z h6<|Aa Zx Z Z (mv Z)<|Aa Zx Z Z (mv Z)<|Al λx7 h8=>Aa Zx Z Z (idxT Z Z tu9 (Dt h8).1 (Dt h8).2.1)<|Aa Zx Z Z (B.gtr Z Z)<|Zq (pkF Z Z)<|Zj Z (λh9=>?_) (λh9=>?_)
    ·refine gKn 18 Z h9<|A2<|Zb Z<|A5<|Bh<|An<|BE<|Bk<|Ze [] [] Z
    ·refine gKn 18 Z h9<|AW<|Ap<|Af<|Ai<|Zm Z<|Zq (I.add Z Z)<|Za Z<|Ae<|Au (λO U h=>Zu h [])
  ·refine AC<|AD<|AG<|BA (λO U h=>Zu h [])
 ·refine A2<|Zb Z<|A5<|Ze [] [] Z
def JF (a0:Ay):Option (Int) :=
 if a0.Kind==1 then
  if a0.Bits==0 then
   if a0.Text==[] then
    some 0
   else
    some 8
  else
   some 8
 else
  if a0.Kind==2 then
   (if a0.Num==0 then
    if a0.Text==[] then
     Me a0.Bits>>=λr9 =>
     some (r9==a0.Bits)
    else
     some false
   else
    some false)>>=λs6 =>
   if s6 then
    some 0
   else
    some 8
  else
   if a0.Kind==3 then
    (if a0.Num==0 then
     if a0.Bits==0 then
      if decide ((a0.Text.length:Int)<=30) then
       Mf a0.Text>>=λO =>
       some O
      else
       some false
     else
      some false
    else
     some false)>>=λU =>
    if U then
     some 0
    else
     some 8
   else
    some 8
theorem Te (a0:Ay):Ah Tryz.prog 89 [.rd CP a0] [] (JF a0) (λr nv=>⟨[.rd A3 r],[]⟩):=by
 refine Am 54 func89 Z Z Z λH w=>?_;refine A2<|Eb Z (bx 1 Z) λv1=>Zb Z<|A6<|A2<|Zq (faB 1 Z Z underlying54 Z (by exact ti5))<|Zq (ld 1 Z Z (fP (Fp _)) ty5 Z)<|Zn<|AB<|A2<|Zq (B.eql Z Z)<|Zb Z<|gIf Z Z (λh2=>?_) (λh2=>?_)
 ·refine gKn 6 Z h2<|A2<|Zq (faB 1 Z Z underlying54 Z (by exact CV))<|Zq (ld 1 Z Z (fP (Gj _)) CR Z)<|Zq (U.eql Z Z)<|Zm Z<|Bf 10 Z (λh3=>?_) (λh3=>?_)
  ·refine Aj 9 Z h3<|Aa Zx Z Z (faB 1 Z Z underlying54 Z (by exact ti9))<|Aa Zx Z Z (ld 1 Z Z (fP (Fq _)) ty9 Z)<|Aa Zx Z Z (eqS Z Z)<|Zq (pkT Z Z)<|Zj Z (λh4=>?_) (λh4=>?_)
   ·refine gKn 13 Z h4<|A2<|Zb Z<|A5<|Bh<|An<|Ze [] [] Z
   ·refine gKn 13 Z h4<|AW<|Ap<|Af<|A2<|Zb Z<|A5<|Ze [] [] Z
  ·refine Aj 9 Z h3<|Zk Z<|Zk Z<|Zk Z<|Zq (pkF Z Z)<|Zn<|DX Z<|AW<|Ap<|Af<|A2<|Zb Z<|A5<|Ze [] [] Z
 ·refine gKn 6 Z h2<|A2<|Zq (B.eql Z Z)<|Zb Z<|gIf Z Z (λh5=>?_) (λh5=>?_)
  ·refine gKn 16 Z h5<|AY (λ(s6:Bool) O ww=>Sta (ctx 54 H [] w) [(32,.rd Ac s6)] [] O ww) ?_ (λs6=>?_)
   ·refine Bq [] mixed Z Z<|A4 0 Z Z (faB 1 Z Z underlying54 Z (by exact ti2))<|A4 1 Z Z (ld 1 Z Z (fP (HI _)) ty2 Z)<|A4 2 Z Z (I.eql Z Z)<|A4 3 Z Z (mv Z)<|hIf 20 Z Z (λh7=>?_) (λh7=>?_)
    ·refine hKn 19 Z Z h7<|Zg 4 Z Z (faB 1 Z Z underlying54 Z (by exact ti9))<|Zg 5 Z Z (ld 1 Z Z (fP (Fq _)) ty9 Z)<|Zg 6 Z Z (eqS Z Z)<|A4 7 Z Z (pkT Z Z)<|A4 8 Z Z (mv Z)<|hIf 25 Z Z (λh8=>?_) (λh8=>?_)
     ·refine hKn 23 Z Z h8<|hKn 24 Z Z h8<|Zg 9 Z Z (faB 1 Z Z underlying54 Z (by exact CV))<|Zg 10 Z Z (ld 1 Z Z (fP (Gj _)) CR Z)<|Zg 12 Z Z (faB 1 Z Z underlying54 Z (by exact CV))<|Zg 13 Z Z (ld 1 Z Z (fP (Gj _)) CR Z)<|Be 11 [] [] Z (by kernel_rfl) Z Zx Z func135 Z Z (zla _) (Y1 Z) rN Z (λ_ _=>Cb) λr9 ad=>Zg 14 Z Z (U.eql Z Z)<|A4 15 Z Z (pkT Z Z)<|AV (by kernel_rfl)<|Av (λO ww h=>Zu h [])
     ·refine hKn 23 Z Z h8<|hKn 24 Z Z h8<|hSk 9 Z Z<|hSk 10 Z Z<|hSk 11 Z Z<|hSk 12 Z Z<|hSk 13 Z Z<|hSk 14 Z Z<|A4 15 Z Z (pkF Z Z)<|AV (by kernel_rfl)<|Av (λO ww h=>Zu h [])
    ·refine hKn 19 Z Z h7<|hSk 4 Z Z<|hSk 5 Z Z<|hSk 6 Z Z<|A4 7 Z Z (pkF Z Z)<|A4 8 Z Z (mv Z)<|hSk 9 Z Z<|hSk 10 Z Z<|hSk 11 Z Z<|hSk 12 Z Z<|hSk 13 Z Z<|hSk 14 Z Z<|A4 15 Z Z (pkF Z Z)<|AV (by kernel_rfl)<|Av (λO ww h=>Zu h [])
   ·refine gIf Z Z (λab=>?_) (λab=>?_)
    ·refine A2<|Zb Z<|A5<|Bh<|An<|Ze [] [] Z
    ·refine AW<|Ap<|Af<|A2<|Zb Z<|A5<|Ze [] [] Z
  ·refine gKn 16 Z h5<|A2<|Zq (B.eql Z Z)<|Zb Z<|gIf Z Z (λa6=>?_) (λa6=>?_)
   ·refine gKn 34 Z a6<|AY (λ(a8:Bool) O ww=>Sta (ctx 54 H [] w) [(53,.rd Ac a8)] [] O ww) ?_ (λa8=>?_)
    ·refine Ai<|Zq (faB 1 Z Z underlying54 Z (by exact ti2))<|Zq (ld 1 Z Z (fP (HI _)) ty2 Z)<|Zq (I.eql Z Z)<|Zm Z<|Bf 38 Z (λa7=>?_) (λa7=>?_)
     ·refine Aj 37 Z a7<|Aa Zx Z Z (faB 1 Z Z underlying54 Z (by exact CV))<|Aa Zx Z Z (ld 1 Z Z (fP (Gj _)) CR Z)<|Aa Zx Z Z (U.eql Z Z)<|Zq (pkT Z Z)<|Zm Z<|Bf 43 Z (λa1=>?_) (λa1=>?_)
      ·refine Aj 41 Z a1<|Aj 42 Z a1<|Aa Zx Z Z (faB 1 Z Z underlying54 Z (by exact ti9))<|Aa Zx Z Z (ld 1 Z Z (fP (Fq _)) ty9 Z)<|Aa Zx Z Z (lenT Z Z tu9)<|Aa Zx Z Z (I.leq Z Z)<|Zq (pkT Z Z)<|Zm Z<|Bf 49 Z (λa2=>?_) (λa2=>?_)
       ·refine Aj 47 Z a2<|Aj 48 Z a2<|Aa Zx Z Z (faB 1 Z Z underlying54 Z (by exact ti9))<|Aa Zx Z Z (ld 1 Z Z (fP (Fq _)) ty9 Z)<|CN [] [] Zx Z func136 Z Z (zif _) (Y1 Z) rN λae af=>Zq (pkT Z Z)<|Ae<|Av (λO ww h=>Zu h [])
       ·refine Aj 47 Z a2<|Aj 48 Z a2<|Zk Z<|Zk Z<|Zk Z<|Zq (pkF Z Z)<|Ae<|Av (λO ww h=>Zu h [])
      ·refine Aj 41 Z a1<|Aj 42 Z a1<|Zk Z<|Zk Z<|Zk Z<|Zk Z<|Zq (pkF Z Z)<|Zm Z<|Zk Z<|Zk Z<|Zk Z<|Zq (pkF Z Z)<|Ae<|Av (λO ww h=>Zu h [])
     ·refine Aj 37 Z a7<|Zk Z<|Zk Z<|Zk Z<|Zq (pkF Z Z)<|Zm Z<|Zk Z<|Zk Z<|Zk Z<|Zk Z<|Zq (pkF Z Z)<|Zm Z<|Zk Z<|Zk Z<|Zk Z<|Zq (pkF Z Z)<|Ae<|Av (λO ww h=>Zu h [])
    ·refine gIf Z Z (λac=>?_) (λac=>?_)
     ·refine A2<|Zb Z<|A5<|Bh<|An<|Ze [] [] Z
     ·refine AW<|Ap<|Af<|A2<|Zb Z<|A5<|Ze [] [] Z
   ·refine gKn 34 Z a6<|AW<|Ap<|Af<|A2<|Zb Z<|A5<|Ze [] [] Z
def Mg (a0:AX):Option (Int) :=
 some (decide (a0.Value=(⟨0,0,0,[]⟩:Ay)))>>=λO =>
 if a0.Kind==1 then
  if a0.Key==[] then
   if O then
    some 0
   else
    some 8
  else
   some 8
 else
  (if a0.Kind==2 then
   some true
  else
   some (a0.Kind==3))>>=λs6 =>
  if s6 then
   Hg a0.Key>>=λr9 =>
   if r9 then
    if O then
     some 0
    else
     some 8
   else
    some 8
  else
   if a0.Kind==4 then
    Hg a0.Key>>=λU =>
    if U then
     JF a0.Value>>=λa1 =>
     if a1==0 then
      some 0
     else
      some 8
    else
     some 8
   else
    some 8
theorem zj4 (a0:AX):Ah Tryz.prog 160 [.rd Bw a0] [] (Mg a0) (λr nv=>⟨[.rd A3 r],[]⟩):=by
 refine Am 38 func160 Z Z Z λH w=>?_;refine A2<|Eb Z (bx 1 Z) λv1=>Zb Z<|A2<|Zq (faB 1 Z Z underlying56 Z (by exact Cp))<|Zq (ld 1 Z Z (fP (FM _)) Dv Z)<|Zq (bld (x':=(⟨0,0,0,[]⟩:Ay)) [(0,1),(1,1),(2,1),(3,1)] underlying54 Cp Z EP Z (Bld.done Z))<|Zq (eqA Z Z eq54 Z Z gq54)<|Za Z<|AI 3 Z λy2=>Zn<|A6<|A2<|Zq (faB 1 Z Z underlying56 Z (by exact ti5))<|Zq (ld 1 Z Z (fP (DS _)) ty5 Z)<|Zn<|AB<|A2<|Zq (B.eql Z Z)<|Zb Z<|gIf Z Z (λh3=>?_) (λh3=>?_)
 ·refine gKn 11 Z h3<|A2<|Zq (faB 1 Z Z underlying56 Z (by exact ti9))<|Zq (ld 1 Z Z (fP (DT _)) ty9 Z)<|Zq (eqS Z Z)<|Zm Z<|Bf 15 Z (λh4=>?_) (λh4=>?_)
  ·refine Aj 14 Z h4<|Aa Zx Z Z (mv Z)<|Zq (pkT Z Z)<|Zj Z (λU=>?_) (λU=>?_)
   ·refine gKn 3 Z U<|gKn 16 Z U<|A2<|Zb Z<|A5<|Bh<|An<|Ze [] [] Z
   ·refine gKn 3 Z U<|gKn 16 Z U<|AW<|Ap<|Af<|A2<|Zb Z<|A5<|Ze [] [] Z
  ·refine Aj 14 Z h4<|Zk Z<|Zq (pkF Z Z)<|Zn<|DX Z<|AW<|Ap<|Af<|A2<|Zb Z<|A5<|Ze [] [] Z
 ·refine gKn 11 Z h3<|AY (λ(s6:Bool) aa ww=>Sta (ctx 38 H [] w) [(1,.val (A7 v1 0)),(3,.rd Ac y2),(9,.rd u8R a0.Kind),(18,.rd Ac s6)] [(1,some (v1,.box 56 [.rd Bw a0]))] aa ww) ?_ (λs6=>?_)
  ·refine A2<|Zq (B.eql Z Z)<|Zb Z<|gIf Z Z (λh7=>?_) (λh7=>?_)
   ·refine gKn 19 Z h7<|AW<|Av (λaa ww h=>Zu h [1])
   ·refine gKn 19 Z h7<|Ai<|Zq (B.eql Z Z)<|Za Z<|Ae<|Av (λaa ww h=>Zu h [1])
  ·refine gIf Z Z (λh8=>?_) (λh8=>?_)
   ·refine A2<|Zq (faB 1 Z Z underlying56 Z (by exact ti9))<|Zq (ld 1 Z Z (fP (DT _)) ty9 Z)<|Zc [] [] func87 Z (Mb _) λr9 a8=>Zm Z<|Bf 24 Z (λa1=>?_) (λa1=>?_)
    ·refine Aj 23 Z a1<|Aa Zx Z Z (mv Z)<|Zq (pkT Z Z)<|Zj Z (λO=>?_) (λO=>?_)
     ·refine gKn 3 Z O<|gKn 25 Z O<|A2<|Zb Z<|A5<|Bh<|An<|Ze [] [] Z
     ·refine gKn 3 Z O<|gKn 25 Z O<|AW<|Ap<|Af<|A2<|Zb Z<|A5<|Ze [] [] Z
    ·refine Aj 23 Z a1<|Zk Z<|Zq (pkF Z Z)<|Zn<|DX Z<|AW<|Ap<|Af<|A2<|Zb Z<|A5<|Ze [] [] Z
   ·refine A2<|Zq (B.eql Z Z)<|Zb Z<|gIf Z Z (λa2=>?_) (λa2=>?_)
    ·refine gKn 28 Z a2<|A2<|Zq (faB 1 Z Z underlying56 Z (by exact ti9))<|Zq (ld 1 Z Z (fP (DT _)) ty9 Z)<|Zc [] [] func87 Z (Mb _) λab ac=>Zm Z<|Bf 32 Z (λa6=>?_) (λa6=>?_)
     ·refine Aj 31 Z a6<|Aa Zx Z Z (faB 1 Z Z underlying56 Z (by exact Cp))<|Aa Zx Z Z (ld 1 Z Z (fP (FM _)) Dv Z)<|CN [] [] Zx Z func89 Z Z (Te _) (Y1 Z) rN λad ae=>Aa Zx Z Z (I.eql Z Z)<|Zq (pkT Z Z)<|Zj Z (λa7=>?_) (λa7=>?_)
      ·refine gKn 36 Z a7<|A2<|Zb Z<|A5<|Bh<|An<|Ze [] [] Z
      ·refine gKn 36 Z a7<|AW<|Ap<|Af<|A2<|Zb Z<|A5<|Ze [] [] Z
     ·refine Aj 31 Z a6<|Zk Z<|Zk Z<|Zk Z<|Zk Z<|Zq (pkF Z Z)<|Zn<|DX Z<|AW<|Ap<|Af<|A2<|Zb Z<|A5<|Ze [] [] Z
    ·refine gKn 28 Z a2<|AW<|Ap<|Af<|A2<|Zb Z<|A5<|Ze [] [] Z
def Hh (a0:UInt32):Option (Bool) :=
 some (decide (a0.toUInt64<500000003))>>=λO =>
 some O
theorem Mh (a0:UInt32):Ah Tryz.prog 161 [.rd A9 a0] [] (Hh a0) (λr nv=>⟨[.rd Ac r],[]⟩):=by
 refine Am 6 func161 Z Z Z λH w=>?_;refine A2<|Zb Z<|A2<|Zm Z<|Zq (W.toU Z tu51 tu52)<|Zq (U.lss Z Z)<|Za Z<|AI 2 Z λy1=>Zn<|A5<|Ze [] [] Z
def HZ (a0:Ab):Option (Int) :=
 if decide (4<(a0.Preds.length:Int)) then
  some 4
 else
  Hf a0.Preds>>=λr3 =>
  if !r3 then
   some 32
  else
   (JC a0.Author>>=λr7 =>
   if !r7 then
    some true
   else
    if decide (1000000000000<a0.Stamp) then
     some true
    else
     Mg a0.Act>>=λO =>
     if O != 0 then
      some true
     else
      Hh a0.Sig.E>>=λU =>
      if !U then
       some true
      else
       Hh a0.Sig.S>>=λa1 =>
       some (!a1))>>=λs6 =>
   if s6 then
    some 8
   else
    some 0
theorem Pm (a0:Ab):Ah Tryz.prog 108 [.rd AA a0] [] (HZ a0) (λr nv=>⟨[.rd A3 r],[]⟩):=by
 refine Am 40 func108 Z Z Z λH w=>?_;refine A2<|Eb Z (bx 1 Z) λv1=>Zb Z<|A6<|A2<|Zq (faB 1 Z Z underlying60 Z (by exact AU))<|Zq (ld 1 Z Z (fP (Co _)) B0 Z)<|Zq (Aq Z .rd Z tu28)<|Zq (I.gtr Z Z)<|Zj Z (λh2=>?_) (λh2=>?_)
 ·refine A2<|Zb Z<|A5<|An<|Ze [] [] Z
 ·refine Zt<|A6<|A2<|Zq (faB 1 Z Z underlying60 Z (by exact AU))<|Zq (ld 1 Z Z (fP (Co _)) B0 Z)<|Zc [] [] func46 Z (Ma _) λr3 n4=>Zq (Cd Z)<|Zj Z (λh5=>?_) (λh5=>?_)
  ·refine A2<|Zb Z<|A5<|An<|Ze [] [] Z
  ·refine Zt<|A6<|AY (λ(s6:Bool) aa ww=>Sta (ctx 40 H [] w) [(39,.rd Ac s6)] [] aa ww) ?_ (λs6=>?_)
   ·refine Ai<|Zq (faB 1 Z Z underlying60 Z (by exact B4))<|Zq (ld 1 Z Z (fP (Fv _)) Bm Z)<|Zc [] [] func159 Z (Td _) λr7 n8=>Zq (Cd Z)<|Zm Z<|Bf 15 Z (λh9=>?_) (λh9=>?_)
    ·refine Aj 14 Z h9<|Zk Z<|Zk Z<|Zk Z<|Zq (pkT Z Z)<|Zm Z<|Zk Z<|Zk Z<|Zk Z<|Zk Z<|Zq (pkT Z Z)<|Zm Z<|Zk Z<|Zk Z<|Zk Z<|Zk Z<|Zk Z<|Zq (pkT Z Z)<|Zm Z<|Zk Z<|Zk Z<|Zk Z<|Zk Z<|Zk Z<|Zq (pkT Z Z)<|Ae<|Av (λaa ww h=>Zu h [])
    ·refine Aj 14 Z h9<|Aa Zx Z Z (faB 1 Z Z underlying60 Z (by exact CV))<|Aa Zx Z Z (ld 1 Z Z (fP (Fc _)) CR Z)<|Aa Zx Z Z (U.gtr Z Z)<|Zq (pkF Z Z)<|Zm Z<|Bf 20 Z (λO=>?_) (λO=>?_)
     ·refine Aj 18 Z O<|Aj 19 Z O<|Zk Z<|Zk Z<|Zk Z<|Zk Z<|Zq (pkT Z Z)<|Zm Z<|Zk Z<|Zk Z<|Zk Z<|Zk Z<|Zk Z<|Zq (pkT Z Z)<|Zm Z<|Zk Z<|Zk Z<|Zk Z<|Zk Z<|Zk Z<|Zq (pkT Z Z)<|Ae<|Av (λaa ww h=>Zu h [])
     ·refine Aj 18 Z O<|Aj 19 Z O<|Aa Zx Z Z (faB 1 Z Z underlying60 Z (by exact Cj))<|Aa Zx Z Z (ld 1 Z Z (fP (Ct _)) ty56 Z)<|CN [] [] Zx Z func160 Z Z (zj4 _) (Y1 Z) rN λa7 a8=>Aa Zx Z Z (I.neq Z Z)<|Zq (pkF Z Z)<|Zm Z<|Bf 26 Z (λa1=>?_) (λa1=>?_)
      ·refine Aj 24 Z a1<|Aj 25 Z a1<|Zk Z<|Zk Z<|Zk Z<|Zk Z<|Zk Z<|Zq (pkT Z Z)<|Zm Z<|Zk Z<|Zk Z<|Zk Z<|Zk Z<|Zk Z<|Zq (pkT Z Z)<|Ae<|Av (λaa ww h=>Zu h [])
      ·refine Aj 24 Z a1<|Aj 25 Z a1<|Aa Zx Z Z (faB 1 Z Z underlying60 Z (by exact DR))<|Aa Zx Z Z (faB 1 Z Z underlying58 Z (by exact B4))<|Aa Zx Z Z (ld 1 Z Z ((fP (Er _)).part (Fu _)) Bm Z)<|CN [] [] Zx Z func161 Z Z (Mh _) (Y1 Z) rN λab ac=>Aa Zx Z Z (Cd Z)<|Zq (pkF Z Z)<|Zm Z<|Bf 33 Z (λa2=>?_) (λa2=>?_)
       ·refine Aj 31 Z a2<|Aj 32 Z a2<|Zk Z<|Zk Z<|Zk Z<|Zk Z<|Zk Z<|Zq (pkT Z Z)<|Ae<|Av (λaa ww h=>Zu h [])
       ·refine Aj 31 Z a2<|Aj 32 Z a2<|Aa Zx Z Z (faB 1 Z Z underlying60 Z (by exact DR))<|Aa Zx Z Z (faB 1 Z Z underlying58 Z (by exact B4))<|Aa Zx Z Z (ld 1 Z Z ((fP (Er _)).part (Gk _)) Bm Z)<|CN [] [] Zx Z func161 Z Z (Mh _) (Y1 Z) rN λad ae=>Aa Zx Z Z (Cd Z)<|Zq (pkF Z Z)<|Ae<|Av (λaa ww h=>Zu h [])
   ·refine gIf Z Z (λa6=>?_) (λa6=>?_)
    ·refine A2<|Zb Z<|A5<|An<|Ze [] [] Z
    ·refine Zt<|A2<|Zb Z<|A5<|Ze [] [] Z
def I0 (a0:UInt32) (O:UInt64):Option (UInt32) :=
 JB a0.toUInt64 O 1000000007>>=λU =>
 some U.toUInt32
theorem Pn (a0:UInt32) (O:UInt64):Ah Tryz.prog 205 [.rd A9 a0,.rd Ar O] [] (I0 a0 O) (λr nv=>⟨[.rd A9 r],[]⟩):=by
 refine Am 10 func205 Z Z Z λH w=>?_;refine A2<|Zb Z<|A2<|Zm Z<|Zq (W.toU Z tu51 tu52)<|Zm Z<|Zc [] [] func203 Z (Tc _ _ _) λr1 n2=>Zq (U.toW Z tu52 tu51)<|Zb Z<|A5<|Ze [] [] Z
def Po (a0:UInt32):Option (UInt32 × Int) :=
 JC a0>>=λO =>
 if !O then
  some (0,2)
 else
  I0 a0 500000002>>=λU =>
  some (U,0)
theorem znx (a0:UInt32):Ah Tryz.prog 204 [.rd A9 a0] [] (Po a0) (λr nv=>⟨[.rd A9 r.1,.rd A3 r.2],[]⟩):=by
 refine Am 9 func204 Z Z Z λH w=>?_;refine A2<|Za Z<|Zb Z<|A6<|A2<|Zm Z<|Zc [] [] func159 Z (Td _) λr1 n2=>Zq (Cd Z)<|Zj Z (λO=>?_) (λO=>?_)
 ·refine A2<|Za Z<|Zb Z<|A5<|An<|Ze [] [] Z
 ·refine Zt<|A2<|Zm Z<|Zc [] [] func205 Z (Pn _ _) λr4 n5=>Za Z<|Zb Z<|A5<|Ze [] [] Z
def Pp (a0:UInt64):Option (UInt32) :=
 I0 4 a0>>=λO =>
 some O
theorem zmp (a0:UInt64):Ah Tryz.prog 241 [.rd Ar a0] [] (Pp a0) (λr nv=>⟨[.rd A9 r],[]⟩):=by
 refine Am 5 func241 Z Z Z λH w=>?_;refine A2<|Zb Z<|A2<|Zm Z<|Zc [] [] func205 Z (Pn _ _) λr1 n2=>Zb Z<|A5<|Ze [] [] Z
def Pq (a0:UInt32):Option (UInt32) :=
 Pp a0.toUInt64>>=λO =>
 some O
theorem znu (a0:UInt32):Ah Tryz.prog 208 [.rd A9 a0] [] (Pq a0) (λr nv=>⟨[.rd A9 r],[]⟩):=by
 refine Am 6 func208 Z Z Z λH w=>?_;refine A2<|Zb Z<|A2<|Zm Z<|Zq (W.toU Z tu51 tu52)<|Zc [] [] func241 Z (zmp _) λr1 n2=>Zb Z<|A5<|Ze [] [] Z
def Pr (a0:UInt32) (O:UInt32):Option (UInt32) :=
 some (((a0.toUInt64 * O.toUInt64) % 1000000007).toUInt32)>>=λU =>
 some U
theorem zjm (a0:UInt32) (O:UInt32):Ah Tryz.prog 207 [.rd A9 a0,.rd A9 O] [] (Pr a0 O) (λr nv=>⟨[.rd A9 r],[]⟩):=by
 refine Am 12 func207 Z Z Z λH w=>?_;refine A2<|Zb Z<|A2<|Zm Z<|Zq (W.toU Z tu51 tu52)<|Zm Z<|Zq (W.toU Z tu51 tu52)<|Zq (U.mul Z Z)<|Zq (U.rem Z Z (by decide))<|Zq (U.toW Z tu52 tu51)<|Za Z<|AI 4 Z λy1=>Zn<|A5<|Ze [] [] Z
def JG (a0:UInt32):Option ((List UInt8)) :=
 some [(a0 / 16777216).toUInt8,((a0 / 65536) % 256).toUInt8,((a0 / 256) % 256).toUInt8,(a0 % 256).toUInt8]
theorem Tf (a0:UInt32):Ah Tryz.prog 239 [.rd A9 a0] [] (JG a0) (λr O=>⟨[.val (O 0)],[(100,some (O 0,.list u8R 5 r))]⟩):=by
 refine Am 18 func239 Z Z Z λH w=>?_;refine A2<|Zb Z<|A2<|Zm Z<|Zq (W.quo Z Z (by decide))<|Zq (W.toB Z tu51 tu5)<|Zm Z<|Zq (W.quo Z Z (by decide))<|Zq (W.rem Z Z (by decide))<|Zq (W.toB Z tu51 tu5)<|Zm Z<|Zq (W.quo Z Z (by decide))<|Zq (W.rem Z Z (by decide))<|Zq (W.toB Z tu51 tu5)<|Zm Z<|Zq (W.rem Z Z (by decide))<|Zq (W.toB Z tu51 tu5)<|Ef Z (lit (R:=u8R) ([(a0 / 16777216).toUInt8,((a0 / 65536) % 256).toUInt8,((a0 / 256) % 256).toUInt8,(a0 % 256).toUInt8]:List UInt8) 1 (pP Z Z<|pP Z Z<|pP Z Z<|pP Z Z<|pN) Z tu36 ti5 Z Z) λv1=>Zb Z<|A5<|Ze [v1] [1] Z
def JH (r1:V3) (O:UInt64 × Int):Option (Sum UInt64 (UInt64 × Int)) :=
 if decide (O.2<8) then
  B8 r1 O.2>>=λx7 =>
  some ((256 * O.1)+x7.toUInt64)>>=λy9 =>
  some (w64 (O.2+1))>>=λU =>
  some (.inr (y9,U))
 else
  some (.inl O.1)
def Mi (a0:List UInt8):Option (UInt64) :=
 Gy a0>>=λO =>
 (iter (JH O) (0,0))>>=λU =>
 some U
theorem zkd (a0:List UInt8):Ah Tryz.prog 240 [.rd (A8 u8R) a0] [] (Mi a0) (λr nv=>⟨[.rd Ar r],[]⟩):=by
 refine Am 20 func240 Z Z Z λH w=>?_;refine A2<|Zb Z<|A2<|Zm Z<|Zc [] [] func65 Z (Jw _) λr1 n2=>Eb Z (AN 1 Ak (.zr (R:=aZ) (x:=(Vector.replicate 32 0)) BU)) λv3=>Es (sto 1 Z Z fH Z Ak)<|Zn<|A2<|Zb Z<|AY (λ(s4:UInt64) O ww=>Sta (ctx 20 H [] w) [(4,.rd Ar s4)] [] O ww) ?_ (λs4=>?_)
 ·refine A2<|Zb Z<|AJ (λ(s5:UInt64 × Int) O ww=>Sta (ctx 20 H [] w) [(3,.val (A7 v3 0)),(4,.rd Ar s5.1),(5,.rd A3 s5.2)] [(1,some (v3,.box 71 [.rd aZ r1]))] O ww) (λO ww h=>Zu h [1]) (λs5=>?_);refine A6<|A2<|Zm Z<|Zq (I.lss Z Z)<|Zj Z (λh6=>?_) (λh6=>?_)
  ·refine Zt<|A6<|AB<|Ai<|Zm Z<|Zq (U.mul Z Z)<|Zm Z<|Al λx7 h8=>Zq (ixB 1 Z Z Z h8 tu71 ti5)<|Zq (ld 1 Z Z (fP (.el h8)) ty5 Z)<|Zq (B.toU Z tu5 tu52)<|Zq (U.add Z Z)<|Za Z<|AI 4 Z λy9=>Ae<|Ap<|Af<|Ai<|Zm Z<|Zq (I.add Z Z)<|Za Z<|AI 5 Z λa1=>Ae<|Au (λO ww h=>Zu h [1])
  ·refine AC<|AD<|AG<|Av (λO ww h=>Zu h [])
 ·refine A2<|Zm Z<|Zb Z<|A5<|Ze [] [] Z
def Mj (a0:UInt32) (a1:UInt32) (a2:List UInt8):Option (UInt32) :=
 JG a0>>=λr2 =>
 app 1 [99] r2>>=λx4 =>
 JG a1>>=λr7 =>
 app 1 x4 r7>>=λx9 =>
 app 1 x9 a2>>=λO =>
 Mi O>>=λU =>
 some ((U % 500000003).toUInt32)>>=λa6 =>
 some a6
theorem zic (a0:UInt32) (O:UInt32) (a2:List UInt8):Ah Tryz.prog 206 [.rd A9 a0,.rd A9 O,.rd (A8 u8R) a2] [] (Mj a0 O a2) (λr nv=>⟨[.rd A9 r],[]⟩):=by
 refine Am 21 func206 Z Z Z λH w=>?_;refine A2<|Zb Z<|A2<|Ef Z (lit (R:=u8R) ([99]:List UInt8) 1 (pP Z Z<|pN) Z tu36 ti5 Z Z) λv1=>Zm Z<|Zc [] [(100,2)] func239 Z (Tf _) λr2 n3=>Al λx4 h5=>Ef Z (apn 1 Z Z Z (.own 2 Z) h5 tu36 ti5 Z Z Z) λv6=>Zm Z<|Zc [] [(100,3)] func239 Z (Tf _) λr7 n8=>Al λx9 a6=>Ef Z (apn 1 Z Z Z (.own 3 Z) a6 tu36 ti5 Z Z Z) λa8=>Zb Z<|A2<|Zm Z<|Zm Z<|Al λaa a7=>Ef Z (apn 1 Z Z Z .rd a7 tu36 ti5 Z Z Z) λab=>BW 1 [17] Z (fS Z<|fN)<|Zc [] [] func240 Z (zkd _) λac ad=>Zq (U.rem Z Z (by decide))<|Zq (U.toW Z tu52 tu51)<|Za Z<|AI 6 Z λae=>Zn<|A5<|Ze [] [] Z
def Mk (a0:UInt32) (a1:List UInt8) (O:AQ):Option (Bool) :=
 Hh O.E>>=λr2 =>
 if !r2 then
  some false
 else
  Hh O.S>>=λr5 =>
  if !r5 then
   some false
  else
   I0 a0 O.E.toUInt64>>=λr8 =>
   Po r8>>=λU =>
   Pq O.S>>=λa6 =>
   Pr a6 U.1>>=λa7 =>
   Mj a7 a0 a1>>=λa8 =>
   some (a8==O.E)
theorem zlc (a0:UInt32) (a1:List UInt8) (a2:AQ):Ah Tryz.prog 162 [.rd A9 a0,.rd (A8 u8R) a1,.rd BJ a2] [] (Mk a0 a1 a2) (λr nv=>⟨[.rd Ac r],[]⟩):=by
 refine Am 39 func162 Z Z Z λH w=>?_;refine A2<|Eb Z (bx 1 Z) λv1=>Zb Z<|A6<|A2<|Zq (faB 1 Z Z underlying58 Z (by exact B4))<|Zq (ld 1 Z Z (fP (Fu _)) Bm Z)<|Zc [] [] func161 Z (Mh _) λr2 n3=>Zq (Cd Z)<|Zm Z<|Bf 13 Z (λO=>?_) (λO=>?_)
 ·refine Aj 12 Z O<|Zk Z<|Zk Z<|Zk Z<|Zk Z<|Zq (pkT Z Z)<|Zn<|CL Z<|A2<|Zb Z<|A5<|An<|Ze [] [] Z
 ·refine Aj 12 Z O<|Aa Zx Z Z (faB 1 Z Z underlying58 Z (by exact B4))<|Aa Zx Z Z (ld 1 Z Z (fP (Gk _)) Bm Z)<|CN [] [] Zx Z func161 Z Z (Mh _) (Y1 Z) rN λr5 n6=>Aa Zx Z Z (Cd Z)<|Zq (pkF Z Z)<|Zj Z (λU=>?_) (λU=>?_)
  ·refine gKn 17 Z U<|A2<|Zb Z<|A5<|An<|Ze [] [] Z
  ·refine gKn 17 Z U<|Zt<|A2<|Zm Z<|Zq (faB 1 Z Z underlying58 Z (by exact B4))<|Zq (ld 1 Z Z (fP (Fu _)) Bm Z)<|Zq (W.toU Z tu51 tu52)<|Zc [] [] func205 Z (Pn _ _) λr8 n9=>Zc [] [] func204 Z (znx _) λa6 a7=>Zm Z<|Zq (ext Z Z)<|Zq (ext Z Z)<|Za Z<|Zb Z<|A6<|Bq [] mixed Z Z<|A4 0 Z Z (faB 1 Z Z underlying58 Z (by exact B4))<|A4 1 Z Z (ld 1 Z Z (fP (Gk _)) Bm Z)<|A4 3 Z Z (mv Z)<|A4 5 Z Z (mv Z)<|A4 6 Z Z (mv Z)<|A4 8 Z Z (faB 1 Z Z underlying58 Z (by exact B4))<|A4 9 Z Z (ld 1 Z Z (fP (Fu _)) Bm Z)<|Be 2 [] [] Z (by kernel_rfl) Z (gd0 Z) Z func208 Z Z (znu _) (Y1 Z) rN Z (λ_ _=>Cb) λa8 aa=>Be 4 [] [] Z (by kernel_rfl) Z (gd0 Z) Z func207 Z Z (zjm _ _) (Y2 Z Z) rN Z (λ_ _=>Cb) λab ac=>Be 7 [] [] Z (by kernel_rfl) Z (gd0 Z) Z func206 Z Z (zic _ _ _) (aQ Z<|aQ Z<|aQ Z<|aN) rN Z (λ_ _=>Cb) λad ae=>A4 10 Z Z (W.eql Z Z)<|A4 11 Z Z (asg Z)<|AV (by kernel_rfl)<|Af<|A5<|Ze [] [] Z
def Ps (a0:Ab):Option (Bool) :=
 Jo a0>>=λO =>
 Mk a0.Author O a0.Sig>>=λU =>
 some U
theorem zkm (a0:Ab):Ah Tryz.prog 109 [.rd AA a0] [] (Ps a0) (λr nv=>⟨[.rd Ac r],[]⟩):=by
 refine Am 10 func109 Z Z Z λH w=>?_;refine A2<|Eb Z (bx 1 Z) λv1=>Zb Z<|A6<|Bq [11] mixed Z Z<|A4 0 Z Z (faB 1 Z Z underlying60 Z (by exact B4))<|A4 1 Z Z (ld 1 Z Z (fP (Fv _)) Bm Z)<|A4 2 Z Z (ld 1 Z Z fH C4 Z)<|A4 4 Z Z (faB 1 Z Z underlying60 Z (by exact DR))<|A4 5 Z Z (ld 1 Z Z (fP (Er _)) ty58 Z)<|Be 3 [] [(100,11)] Z (by kernel_rfl) Z (gd0 Z) Z func163 Z Z (T9 _) (Y1 Z) rN Z (λ_ _=>C1) λr2 n3=>DJ 11 [6] Z (fS Z<|fN)<|Be 6 [] [] Z (by kernel_rfl) Z (gd0 Z) Z func162 Z Z (zlc _ _ _) (aQ Z<|aQ Z<|aQ Z<|aN) rN Z (λ_ _=>DY) λr4 n5=>A4 7 Z Z (asg Z)<|AV (by kernel_rfl)<|Af<|A5<|Ze [] [] Z
def Ml (a0:Ab):Option (Int) :=
 HZ a0>>=λO =>
 if O != 0 then
  HZ a0>>=λU =>
  some U
 else
  Ps a0>>=λr7 =>
  if !r7 then
   some 22
  else
   some 0
theorem zko (a0:Ab):Ah Tryz.prog 61 [.rd AA a0] [] (Ml a0) (λr nv=>⟨[.rd A3 r],[]⟩):=by
 refine Am 11 func61 Z Z Z λH w=>?_;refine A2<|Eb Z (bx 1 Z) λv1=>Zb Z<|A6<|A2<|Zq (ld 1 Z Z fH C4 Z)<|Zc [] [] func108 Z (Pm _) λr2 n3=>Zq (I.neq Z Z)<|Zj Z (λO=>?_) (λO=>?_)
 ·refine A2<|Zq (ld 1 Z Z fH C4 Z)<|Zc [] [] func108 Z (Pm _) λr5 n6=>Zb Z<|A5<|An<|Ze [] [] Z
 ·refine Zt<|A6<|A2<|Zq (ld 1 Z Z fH C4 Z)<|Zc [] [] func109 Z (zkm _) λr7 n8=>Zq (Cd Z)<|Zj Z (λU=>?_) (λU=>?_)
  ·refine A2<|Zb Z<|A5<|An<|Ze [] [] Z
  ·refine Zt<|A2<|Zb Z<|A5<|Ze [] [] Z
end
section
def I1 (a0:List V3) (a1:V3) (O:Int × Int):Option (Sum Int (Int × Int)) :=
 if decide (O.1<O.2) then
  some (w64 ((Ce (UInt64.ofInt (w64 (O.1+O.2))) 1).toNat:Int))>>=λU =>
  idx a0 U>>=λx7 =>
  Fy x7 a1>>=λr9 =>
  if decide (r9<0) then
   some (.inr (w64 (U+1),O.2))
  else
   some (.inr (O.1,U))
 else
  some (.inl O.1)
def JI (a0:List V3) (U:V3):Option (Int × Bool) :=
 some (a0.length:Int)>>=λy2 =>
 (iter (I1 a0 U) (0,y2))>>=λO =>
 if decide (O<y2) then
  idx a0 O>>=λa2 =>
  Fy a2 U>>=λa6 =>
  some (O,a6==0)
 else
  some (O,false)
theorem Tg (a0:List V3) (a1:V3):Ah Tryz.prog 145 [.rd (A8 aZ) a0,.rd aZ a1,.val (.func (.func 94) #[] #[])] [] (JI a0 a1) (λr nv=>⟨[.rd A3 r.1,.rd Ac r.2],[]⟩):=by
 refine Am 49 func145 Z Z Z λH w=>?_;refine A2<|Eb Z (bx 1 Z) λv1=>Za Z<|Zb Z<|A2<|Zm Z<|Zq (Aq Z .rd Z tu28)<|Za Z<|AI 8 Z λy2=>Zn<|A2<|Zm Z<|Za Z<|Zb Z<|AY (λ(s3:Int) O ww=>Sta (ctx 49 H [] w) [(0,.rd (A8 aZ) a0),(2,.val (.func (.func 94) #[] #[])),(4,.val (A7 v1 0)),(8,.rd A3 y2),(9,.rd A3 s3)] [(1,some (v1,.box 71 [.rd aZ a1]))] O ww) ?_ (λs3=>?_)
 ·refine AJ (λ(s4:Int × Int) O ww=>Sta (ctx 49 H [] w) [(0,.rd (A8 aZ) a0),(2,.val (.func (.func 94) #[] #[])),(4,.val (A7 v1 0)),(8,.rd A3 y2),(9,.rd A3 s4.1),(10,.rd A3 s4.2)] [(1,some (v1,.box 71 [.rd aZ a1]))] O ww) (λO ww h=>Zu h [1]) (λs4=>?_);refine A6<|A2<|Zm Z<|Zm Z<|Zq (I.lss Z Z)<|Zj Z (λh5=>?_) (λh5=>?_)
  ·refine Zt<|AB<|A2<|Zm Z<|Zm Z<|Zq (I.add Z Z)<|Zq (I.toU Z tu3 underlying151)<|Zq (U.shr Z Z (Int.natCast_nonneg _))<|Zq (U.toI Z underlying151 tu3)<|Za Z<|AI 11 Z λy6=>Zn<|A6<|Bq [] mixed Z Z<|A4 0 Z Z (mv Z)<|A4 1 Z Z (mv Z)<|A4 2 Z Z (mv Z)<|AZ λx7 h8=>A4 3 Z Z (ixR Z Z h8 tu28 Ak Z)<|A4 4 Z Z (ldR Z Aw)<|A4 5 Z Z (ld 1 Z Z fH Aw Z)<|OK 6 [] [] Z (by kernel_rfl) Z (gd0 Z) Z func94 Z Z Z (HM _ _) (Y2 Z Z) (cN) Z rN Z (λ_ _=>Cb) λr9 a8=>A4 7 Z Z (I.lss Z Z)<|AV (by kernel_rfl)<|Af<|gIf Z Z (λa6=>?_) (λa6=>?_)
   ·refine Ai<|Zm Z<|Zq (I.add Z Z)<|Za Z<|Ae<|Ap<|Au (λO ww h=>Zu h [1])
   ·refine Ai<|Zm Z<|Za Z<|Ae<|Ap<|Au (λO ww h=>Zu h [1])
  ·refine AC<|AD<|AG<|Av (λO ww h=>Zu h [1])
 ·refine A6<|Bq [] mixed Z Z<|A4 0 Z Z (mv Z)<|A4 1 Z Z (mv Z)<|A4 2 Z Z (mv Z)<|A4 3 Z Z (I.lss Z Z)<|A4 4 Z Z (mv Z)<|hIf 39 Z Z (λa2=>?_) (λa2=>?_)
  ·refine hKn 38 Z Z a2<|Zg 5 Z Z (mv Z)<|Zg 6 Z Z (mv Z)<|Zg 7 Z Z (mv Z)<|AZ λab a7=>Zg 8 Z Z (ixR Z Z a7 tu28 Ak Z)<|Zg 9 Z Z (ldR Z Aw)<|Zg 10 Z Z (ld 1 Z Z fH Aw Z)<|OK 11 [] [] Z (by kernel_rfl) Z Zx Z func94 Z Z Z (HM _ _) (Y2 Z Z) (cN) Z rN Z (λ_ _=>Cb) λac ad=>Zg 12 Z Z (I.eql Z Z)<|A4 13 Z Z (pkT Z Z)<|A4 14 Z Z (asg Z)<|A4 15 Z Z (asg Z)<|AV (by kernel_rfl)<|Af<|A5<|Ze [] [] Z
  ·refine hKn 38 Z Z a2<|hSk 5 Z Z<|hSk 6 Z Z<|hSk 7 Z Z<|hSk 8 Z Z<|hSk 9 Z Z<|hSk 10 Z Z<|hSk 11 Z Z<|hSk 12 Z Z<|A4 13 Z Z (pkF Z Z)<|A4 14 Z Z (asg Z)<|A4 15 Z Z (asg Z)<|AV (by kernel_rfl)<|Af<|A5<|Ze [] [] Z
def Mm (a0:Ao) (U:V3):Option (Int × Bool) :=
 JI a0.IDs U>>=λO =>
 some (O.1,O.2)
theorem zxr (a0:Ao) (O:V3):Ah Tryz.prog 95 [.rd AF a0,.rd aZ O] [] (Mm a0 O) (λr nv=>⟨[.rd A3 r.1,.rd Ac r.2],[]⟩):=by
 refine Am 12 func95 Z Z Z λH w=>?_;refine A2<|Eb Z (bx 1 Z) λv1=>Eb Z (bx 2 Z) λv2=>Za Z<|Zb Z<|A2<|Zq (faB 1 Z Z underlying33 Z (by exact AU))<|Zq (ld 1 Z Z (fP (C7 _)) B0 Z)<|Zq (ld 2 Z Z fH Aw Z)<|Zc [] [] func145 Z (Tg _ _) λr3 n4=>Zq (ext Z Z)<|Zq (ext Z Z)<|Za Z<|Zb Z<|A5<|Ze [] [] Z
def Hi (a0:Ao) (O:Int):Option (Sum (Sum Int Unit) Int) :=
 if decide (O<(a0.IDs.length:Int)) then
  idx a0.IDs (w64 (O - 1))>>=λU =>
  idx a0.IDs O>>=λx7 =>
  Fy U x7>>=λr9 =>
  if decide (0<=r9) then
   some (.inl (.inl 32))
  else
   some (.inr (w64 (O+1)))
 else
  some (.inl (.inr ()))
def I2 (a0:Ao) (a2:(List Int) × (List (List Int)) × (List Int) × Int) (a1:Ab) (O:(List (List Int)) × Int):Option (Sum (Sum (Sum (Sum Int ((List Int) × (List (List Int)) × (List Int))) ((List Int) × (List (List Int)) × (List Int) × Int)) ((List (List Int)))) ((List (List Int)) × Int)) :=
 if decide (O.2<(a1.Preds.length:Int)) then
  idx a1.Preds O.2>>=λa6 =>
  Mm a0 a6>>=λU =>
  if !U.2 then
   some (.inl (.inl (.inl (.inl 40))))
  else
   idx O.1 U.1>>=λa7 =>
   app 8 a7 [a2.2.2.2]>>=λa8 =>
   some (.inr (O.1.set (U.1:Int).toNat a8,w64 (O.2+1)))
 else
  some (.inl (.inr O.1))
def I3 (a0:Ao) (O:(List Int) × (List (List Int)) × (List Int) × Int):Option (Sum (Sum Int ((List Int) × (List (List Int)) × (List Int))) ((List Int) × (List (List Int)) × (List Int) × Int)) :=
 if decide (O.2.2.2<(a0.Ops.length:Int)) then
  idx a0.Ops O.2.2.2>>=λU =>
  Bc (iter (I2 a0 O U) (O.2.1,0)) λa1 =>
  idx O.1 O.2.2.2>>=λa7 =>
  idx (O.1.set (O.2.2.2:Int).toNat (U.Preds.length:Int)) O.2.2.2>>=λa2 =>
  if a2==0 then
   app 8 O.2.2.1 [O.2.2.2]>>=λa6 =>
   some (.inr (O.1.set (O.2.2.2:Int).toNat (U.Preds.length:Int),a1,a6,w64 (O.2.2.2+1)))
  else
   some (.inr (O.1.set (O.2.2.2:Int).toNat (U.Preds.length:Int),a1,O.2.2.1,w64 (O.2.2.2+1)))
 else
  some (.inl (.inr (O.1,O.2.1,O.2.2.1)))
def I4 (a2:List Int) (O:(List Int) × (List Int) × Int):Option (Sum ((List Int) × (List Int)) ((List Int) × (List Int) × Int)) :=
 if decide (O.2.2<(a2.length:Int)) then
  idx a2 O.2.2>>=λU =>
  idx O.1 U>>=λa1 =>
  idx O.1 U>>=λa8 =>
  idx (O.1.set (U:Int).toNat (w64 (a1 - 1))) U>>=λa6 =>
  if a6==0 then
   app 8 O.2.1 [U]>>=λa7 =>
   some (.inr (O.1.set (U:Int).toNat (w64 (a1 - 1)),a7,w64 (O.2.2+1)))
  else
   some (.inr (O.1.set (U:Int).toNat (w64 (a1 - 1)),O.2.1,w64 (O.2.2+1)))
 else
  some (.inl (O.1,O.2.1))
def JJ (a1:(List Int) × (List (List Int)) × (List Int)) (O:(List Int) × (List Int) × Int):Option (Sum Int ((List Int) × (List Int) × Int)) :=
 if decide (O.2.2<(O.2.1.length:Int)) then
  (idx O.2.1 O.2.2>>=λa2 =>
  idx a1.2.1 a2>>=λa6 =>
  iter (I4 a6) (O.1,O.2.1,0))>>=λU =>
  some (w64 (O.2.2+1))>>=λa7 =>
  some (.inr (U.1,U.2,a7))
 else
  some (.inl O.2.2)
def Mn (a0:Ao):Option (Int) :=
 Bc (iter (Hi a0) 1) λs2 =>
 mkn 8 0 (a0.Ops.length:Int)>>=λU =>
 mkn 24 ([]:List Int) (a0.Ops.length:Int)>>=λa1 =>
 Bc (iter (I3 a0) (U,a1,[],0)) λO =>
 (iter (JJ O) (O.1,O.2.2,0))>>=λa2 =>
 if decide (a2<(a0.Ops.length:Int)) then
  some 36
 else
  some 0
theorem zvl (a0:Ao):Ah Tryz.prog 55 [.rd AF a0] [] (Mn a0) (λr nv=>⟨[.rd A3 r],[]⟩):=by
 refine Am 133 func55 Z Z Z λH w=>?_;refine A2<|Eb Z (bx 1 Z) λv1=>Zb Z<|BM (λ(s2:Unit) O U=>Sta (ctx 133 H [] w) [(1,.val (A7 v1 0))] [(1,some (v1,.box 33 [.rd AF a0]))] O U) ?_ (λs2=>?_)
 ·refine A2<|Zb Z<|AJ (λ(s3:Int) O U=>Sta (ctx 133 H [] w) [(1,.val (A7 v1 0)),(3,.rd A3 s3)] [(1,some (v1,.box 33 [.rd AF a0]))] O U) (λO U h=>h.sub [1] (sS Z<|sS Z<|sN) (Y0 Z)) (λs3=>?_);refine A6<|A2<|Zm Z<|Zq (faB 1 Z Z underlying33 Z (by exact AU))<|Zq (ld 1 Z Z (fP (C7 _)) B0 Z)<|Zq (Aq Z .rd Z tu28)<|Zq (I.lss Z Z)<|Zj Z (λh4=>?_) (λh4=>?_)
  ·refine Zt<|A6<|AB<|A6<|Bq [] mixed Z Z<|A4 0 Z Z (faB 1 Z Z underlying33 Z (by exact AU))<|A4 1 Z Z (ld 1 Z Z (fP (C7 _)) B0 Z)<|A4 2 Z Z (mv Z)<|A4 3 Z Z (I.sub Z Z)<|AZ λx5 h6=>A4 4 Z Z (ixR Z Z h6 tu28 Ak Z)<|A4 5 Z Z (ldR Z Aw)<|A4 6 Z Z (faB 1 Z Z underlying33 Z (by exact AU))<|A4 7 Z Z (ld 1 Z Z (fP (C7 _)) B0 Z)<|A4 8 Z Z (mv Z)<|AZ λx7 h8=>A4 9 Z Z (ixR Z Z h8 tu28 Ak Z)<|A4 10 Z Z (ldR Z Aw)<|Be 11 [] [] Z (by kernel_rfl) Z (gd0 Z) Z func94 Z Z (HM _ _) (Y2 Z Z) rN Z (λ_ _=>Cb) λr9 bu=>A4 12 Z Z (I.geq Z Z)<|AV (by kernel_rfl)<|Af<|gIf Z Z (λb2=>?_) (λb2=>?_)
   ·refine A2<|Zb Z<|A5<|Bh<|An<|BE<|Bk<|BF [] [] Z (eE Z<|eN) (rN)
   ·refine AW<|Ap<|Af<|Ai<|Zm Z<|Zq (I.add Z Z)<|Za Z<|Ae<|Au (λO U h=>h.sub [1] (sS Z<|sS Z<|sN) (Y0 Z))
  ·refine AC<|AD<|AG<|BA (λO U h=>h.sub [1] (sS Z<|sN) (Y0 Z))
 ·refine A2<|Zq (faB 1 Z Z underlying33 Z (by exact BP))<|Zq (ld 1 Z Z (fP (BQ _)) BR Z)<|Zq (Aq Z .rd Z tu31)<|Al λb3 b4=>Ef Z (mks (R:=A3) 44 Z Z b4 tu156 ti3 (Zr.num Z) Z) λa2=>Zb Z<|A2<|Zq (faB 1 Z Z underlying33 Z (by exact BP))<|Zq (ld 1 Z Z (fP (BQ _)) BR Z)<|Zq (Aq Z .rd Z tu31)<|Al λb5 ak=>Ef Z (mksF 45 Z Z ak underlying157 Lt Z) λa6=>Yk (base:=100000) (lits:=[(1,some (v1,.box 33 [.rd AF a0])),(44,some (a2,.list A3 3 b3)),(45,some (a6,.list Cu 156 (CF (λ_=>Value.slice none 0 0) b5)))]) A3 3 [1,44,45] (Yj ak) (Zi Z<|Zi Z<|Zi Z<|rN)<|Zb Z<|A2<|Zb Z<|BM (λ(a7:(List Int) × (List (List Int)) × (List Int)) O U=>∃ nv:Nat->Value,Sta (ctx 133 H [] w) [(1,.val (A7 v1 0)),(4,.val a2),(5,.val a6),(6,.val (nv 0))] ([(1,some (v1,.box 33 [.rd AF a0])),(44,some (a2,.list A3 3 a7.1)),(45,some (a6,.list Cu 156 (CF (λj=>nv (j+1)) a7.2.1))),(50,some ((nv 0),.list A3 3 a7.2.2))]++DU 100000 A3 3 (λj=>nv (j+1)) a7.2.1 0) O U) ?_ (λa7=>?_)
  ·refine A2<|Zq (faB 1 Z Z underlying33 Z (by exact BP))<|Zq (ld 1 Z Z (fP (BQ _)) BR Z)<|Zq (Aq Z .rd Z tu31)<|Zm Z<|Zn<|Dk A3 3 56<|AJ (λ(a1:(List Int) × (List (List Int)) × (List Int) × Int) O U=>∃ nv:Nat->Value,Sta (ctx 133 H [] w) [(1,.val (A7 v1 0)),(4,.val a2),(5,.val a6),(6,.val (nv 0)),(45,.rd (A8 AA) a0.Ops),(46,.rd A3 (a0.Ops.length:Int)),(47,.rd A3 a1.2.2.2)] ([(1,some (v1,.box 33 [.rd AF a0])),(44,some (a2,.list A3 3 a1.1)),(45,some (a6,.list Cu 156 (CF (λj=>nv (j+1)) a1.2.1))),(55,some ((nv 0),.list A3 3 a1.2.2.1))]++DU 100000 A3 3 (λj=>nv (j+1)) a1.2.1 0) O U) (λO U h=>⟨nvlF [(.slice none 0 0)] (λ_=>Value.slice none 0 0),h.subF (by repeat (first | refine CI.cons Z ?_ | exact CI.tail)) [1,44,45,56] (Zs Z Z Z Z<|sS Z<|sS Z<|sS Z<|sN) (Zi Z<|Zi Z<|Zi Z<|Zi Z<|rN) rfl⟩) (λa1=>?_)
   refine gEx λa8=>A2<|Zq (I.lss Z Z)<|Zn<|A6<|gIf Z Z (λb6=>?_) (λb6=>?_)
   ·refine Zt<|A6<|AB<|A2<|Zm Z<|Al λac b7=>Zq (ixR Z Z b7 tu31 Ba Z)<|Zq (ldR Z C4)<|Eb Z (AN 57 Ba (ZrE.rd (R:=A9) (x:=0) (Zr.num Z) (ZrE.nilS (ZrE.rd (R:=Ar) (x:=0) (Zr.num Z) (ZrE.rd (R:=Bw) (x:=(⟨0,[],(⟨0,0,0,[]⟩:Ay)⟩:AX)) DB (ZrE.rd (R:=BJ) (x:=(⟨0,0⟩:AQ)) E9 ZrE.nil Z) Z) Z)) Z)) λad=>Za Z<|Cy aZ [.rd A9 0,.rd (A8 aZ) [],.rd Ar 0,.rd Bw (⟨0,[],(⟨0,0,0,[]⟩:Ay)⟩:AX),.rd BJ (⟨0,0⟩:AQ)] 57 [.rd A9 0] [.rd Ar 0,.rd Bw (⟨0,[],(⟨0,0,0,[]⟩:Ay)⟩:AX),.rd BJ (⟨0,0⟩:AQ)] Z Z Z<|Cm (R:=AA) (⟨0,[],0,(⟨0,[],(⟨0,0,0,[]⟩:Ay)⟩:AX),(⟨0,0⟩:AQ)⟩:Ab) 57 Z (Sp.via (Sp.prod (Sp.prod (Sp.prod (Sp.prod (Sp.prod Sp.unit))))))<|Es (sto 57 Z Z fH Z Ba)<|Zn<|BM (λ(ah:(List (List Int))) O U=>∃ nv:Nat->Value,Sta (ctx 133 H [] w) [(1,.val (A7 v1 0)),(4,.val a2),(5,.val a6),(6,.val (a8 0)),(7,.rd A3 a1.2.2.2),(8,.val (A7 ad 0)),(45,.rd (A8 AA) a0.Ops),(46,.rd A3 (a0.Ops.length:Int)),(47,.rd A3 a1.2.2.2)] ([(1,some (v1,.box 33 [.rd AF a0])),(44,some (a2,.list A3 3 a1.1)),(45,some (a6,.list Cu 156 (CF (λj=>nv (j+0)) ah))),(55,some ((a8 0),.list A3 3 a1.2.2.1)),(57,some (ad,.box 60 [.rd AA ac]))]++DU 100000 A3 3 (λj=>nv (j+0)) ah 0) O U) ?_ (λah=>?_)
    ·refine A2<|Zq (faB 57 Z Z underlying60 Z (by exact AU))<|Zq (ld 57 Z Z (fP (Co _)) B0 Z)<|Zq (Aq Z .rd Z tu28)<|Zm Z<|Zn<|AJ (λ(ae:(List (List Int)) × Int) O U=>∃ nv:Nat->Value,Sta (ctx 133 H [] w) [(1,.val (A7 v1 0)),(4,.val a2),(5,.val a6),(6,.val (a8 0)),(7,.rd A3 a1.2.2.2),(8,.val (A7 ad 0)),(45,.rd (A8 AA) a0.Ops),(46,.rd A3 (a0.Ops.length:Int)),(47,.rd A3 a1.2.2.2),(53,.rd (A8 aZ) ac.Preds),(54,.rd A3 (ac.Preds.length:Int)),(55,.rd A3 ae.2)] ([(1,some (v1,.box 33 [.rd AF a0])),(44,some (a2,.list A3 3 a1.1)),(45,some (a6,.list Cu 156 (CF (λj=>nv (j+0)) ae.1))),(55,some ((a8 0),.list A3 3 a1.2.2.1)),(57,some (ad,.box 60 [.rd AA ac]))]++DU 100000 A3 3 (λj=>nv (j+0)) ae.1 0) O U) (λO U h=>⟨nvlF [] (λj=>a8 (j+1)),h.subF (by repeat (first | refine CI.cons Z ?_ | exact CI.tail)) [1,44,45,55,57] (Zs Z Z Z Z<|Zs Z Z Z Z<|Zs Z Z Z Z<|sN) (Zi Z<|Zi Z<|Zi Z<|Zi Z<|Zi Z<|rN) rfl⟩) (λae=>?_)
     refine gEx λam=>A2<|Zq (I.lss Z Z)<|Zn<|A6<|gIf Z Z (λb8=>?_) (λb8=>?_)
     ·refine Zt<|A6<|AB<|A2<|Al λb9 ba=>Zq (ixR Z Z ba tu28 Ak Z)<|Zq (ldR Z Aw)<|Eb Z (AN 58 Ak (.zr (R:=aZ) (x:=(Vector.replicate 32 0)) BU)) λbb=>Es (sto 58 Z Z fH Z Ak)<|Zn<|A2<|Zq (ld 1 Z Z fH BX Z)<|Zq (ld 58 Z Z fH Aw Z)<|call [] [] Z func95 Z Z (zxr _ _) (Y2 Z Z) rN λbc bv=>Zm Z<|Zq (ext Z Z)<|Zq (ext Z Z)<|Za Z<|Zb Z<|A6<|A2<|Zm Z<|Zq (Cd Z)<|Zj Z (λbd=>?_) (λbd=>?_)
      ·refine A2<|Zb Z<|A5<|An<|Bh<|An<|BE<|Bk<|Bh<|An<|BE<|Bk<|BF [] [] Z (eE Z<|eN) (rN)
      ·refine Zt<|Ai<|Zm Z<|Zm Z<|Zm Z<|Zm Z<|Al λbw ai=>Zq (ixO 45 Z Z Z (Lw ai) underlying157 Lt)<|Zq (ldF 45 Z Z ai OP Z)<|Zm Z<|Ef Z (lit (R:=A3) ([a1.2.2.2]:List Int) 59 (pP Z Z<|pN) Z tu156 ti3 Z Z) λbe=>Al λbz bf=>lApF (base:=100000) (lits:=[(1,some (v1,.box 33 [.rd AF a0])),(44,some (a2,.list A3 3 a1.1)),(55,some ((a8 0),.list A3 3 a1.2.2.1)),(57,some (ad,.box 60 [.rd AA ac])),(58,some (bb,.box 71 [.rd aZ b9])),(59,some (be,.list A3 3 [a1.2.2.2]))]) 45 [1,44,55,57,58,59] (by repeat (first | refine CI.cons Z ?_ | exact CI.tail)) Z Z Z ai Z Z Z Z (.own 59 Z) bf Z (λ_ h=>by cases h; rfl) (λ_ h=>by cases h; rfl) Z Z tu156 ti3 Z Z Z underlying157 Lt OP (Zi Z<|Zi Z<|Zi Z<|Zi Z<|Zi Z<|Zi Z<|rN) Z λbg=>Ae<|Ap<|Af<|Ai<|Zq (I.add Z Z)<|Zm Z<|Ae<|Au (λO U h=>⟨nvlF [] (updF (λj=>am (j+0)) (bc.1:Int).toNat bg),h.subF (by repeat (first | refine CI.cons Z ?_ | exact CI.tail)) [1,44,45,55,57] (Zs Z Z Z Z<|Zs Z Z Z Z<|Zs Z Z Z Z<|sN) (Zi Z<|Zi Z<|Zi Z<|Zi Z<|Zi Z<|rN) rfl⟩)
     ·refine AC<|AD<|AG<|BA (λO U h=>⟨nvlF [] (λj=>am (j+0)),h.subF (by repeat (first | refine CI.cons Z ?_ | exact CI.tail)) [1,44,45,55,57] (Zs Z Z Z Z<|Zs Z Z Z Z<|sS Z<|sN) (Zi Z<|Zi Z<|Zi Z<|Zi Z<|Zi Z<|rN) rfl⟩)
    ·refine gEx λao=>A2<|Zm Z<|Zm Z<|Zq (faB 57 Z Z underlying60 Z (by exact AU))<|Zq (ld 57 Z Z (fP (Co _)) B0 Z)<|Zq (Aq Z .rd Z tu28)<|Al λc2 ap=>Zq (ixO 44 Z Z Z ap tu156 ti3)<|Es (sto 44 Z Z (Foc.el ap) Z ti3)<|Zn<|A2<|Zm Z<|Zm Z<|Al λc3 aq=>Zq (ixO 44 Z Z Z aq tu156 ti3)<|Zq (ld 44 Z Z (Foc.el aq) ty3 Z)<|Zq (I.eql Z Z)<|Zj Z (λbh=>?_) (λbh=>?_)
     ·refine Ai<|Zm Z<|Zm Z<|Ef Z (lit (R:=A3) ([a1.2.2.2]:List Int) 60 (pP Z Z<|pN) Z tu156 ti3 Z Z) λc4=>Al λc5 bi=>Ef Z (apn 55 Z Z Z (.own 60 Z) bi tu156 ti3 Z Z Z) λv50=>Za Z<|Ae<|Ap<|Af<|Ai<|Zq (I.add Z Z)<|Zm Z<|Ae<|Au (λO U h=>⟨nvlF [v50] (λj=>ao (j+0)),h.subF (by repeat (first | refine CI.cons Z ?_ | exact CI.tail)) [1,44,45,55] (Zs Z Z Z Z<|sS Z<|sS Z<|sS Z<|sN) (Zi Z<|Zi Z<|Zi Z<|Zi Z<|rN) rfl⟩)
     ·refine AW<|Ap<|Af<|Ai<|Zq (I.add Z Z)<|Zm Z<|Ae<|Au (λO U h=>⟨nvlF [(a8 0)] (λj=>ao (j+0)),h.subF (by repeat (first | refine CI.cons Z ?_ | exact CI.tail)) [1,44,45,55] (Zs Z Z Z Z<|sS Z<|sS Z<|sS Z<|sN) (Zi Z<|Zi Z<|Zi Z<|Zi Z<|rN) rfl⟩)
   ·refine AC<|AD<|AG<|BA (λO U h=>⟨nvlF [(a8 0)] (λj=>a8 (j+1)),h.subF (by repeat (first | refine CI.cons Z ?_ | exact CI.tail)) [1,44,45,55] (Zs Z Z Z Z<|sN) (Zi Z<|Zi Z<|Zi Z<|Zi Z<|rN) rfl⟩)
  ·refine gEx λar=>A2<|Zb Z<|AY (λ(au:Int) O U=>Sta (ctx 133 H [] w) [(1,.val (A7 v1 0)),(13,.rd A3 au)] [(1,some (v1,.box 33 [.rd AF a0]))] O U) ?_ (λau=>?_)
   ·refine Ym (base:=100000) (T:=3) (lits:=[(1,some (v1,.box 33 [.rd AF a0])),(44,some (a2,.list A3 3 a7.1)),(50,some ((ar 0),.list A3 3 a7.2.2))]) (by repeat (first | refine CI.cons Z ?_ | exact CI.tail)) 45 Z [1,44,50] (Zi Z<|Zi Z<|Zi Z<|rN) Z Z<|AJ (λ(ab:(List Int) × (List Int) × Int) O U=>∃ nv:Nat->Value,Sta (ctx 133 H [] w) [(1,.val (A7 v1 0)),(4,.val a2),(5,.val a6),(6,.val (nv 0)),(13,.rd A3 ab.2.2)] [(1,some (v1,.box 33 [.rd AF a0])),(44,some (a2,.list A3 3 ab.1)),(45,some (a6,.list (A8 A3) 156 a7.2.1)),(50,some ((nv 0),.list A3 3 ab.2.1))] O U) (λO U h=>⟨nvl [(ar 0)],h.sub [1,44,45,50] (Zs Z Z Z Z<|sS Z<|sN) (Zi Z<|Zi Z<|Zi Z<|Zi Z<|rN)⟩) (λab=>?_)
    refine gEx λbj=>A6<|A2<|Zm Z<|Zm Z<|Zq (Aq Z (.own 50 Z) Z tu156)<|Zq (I.lss Z Z)<|Zj Z (λbk=>?_) (λbk=>?_)
    ·refine Zt<|AY (λ(aj:(List Int) × (List Int)) O U=>∃ nv:Nat->Value,Sta (ctx 133 H [] w) [(1,.val (A7 v1 0)),(4,.val a2),(5,.val a6),(6,.val (nv 0)),(13,.rd A3 ab.2.2)] [(1,some (v1,.box 33 [.rd AF a0])),(44,some (a2,.list A3 3 aj.1)),(45,some (a6,.list (A8 A3) 156 a7.2.1)),(50,some ((nv 0),.list A3 3 aj.2))] O U) ?_ (λaj=>?_)
     ·refine AB<|A2<|Zm Z<|Zm Z<|Zm Z<|Al λc6 av=>Zq (ixO 50 Z Z Z av tu156 ti3)<|Zq (ld 50 Z Z (Foc.el av) ty3 Z)<|Al λaw ax=>Zq (ixO 45 Z Z Z ax underlying157 Lt)<|Zq (ld 45 Z Z (Foc.el ax) OP Z)<|Zq (Aq Z .rd Z tu156)<|Zm Z<|Zn<|AJ (λ(af:(List Int) × (List Int) × Int) O U=>∃ nv:Nat->Value,Sta (ctx 133 H [] w) [(1,.val (A7 v1 0)),(4,.val a2),(5,.val a6),(6,.val (nv 0)),(13,.rd A3 ab.2.2),(106,.rd (A8 A3) aw),(107,.rd A3 (aw.length:Int)),(108,.rd A3 af.2.2)] [(1,some (v1,.box 33 [.rd AF a0])),(44,some (a2,.list A3 3 af.1)),(45,some (a6,.list (A8 A3) 156 a7.2.1)),(50,some ((nv 0),.list A3 3 af.2.1))] O U) (λO U h=>⟨nvl [(bj 0)],h.sub [1,44,45,50] (Zs Z Z Z Z<|Zs Z Z Z Z<|sN) (Zi Z<|Zi Z<|Zi Z<|Zi Z<|rN)⟩) (λaf=>?_)
      refine gEx λay=>A2<|Zq (I.lss Z Z)<|Zn<|A6<|gIf Z Z (λbl=>?_) (λbl=>?_)
      ·refine Zt<|A6<|AB<|A2<|Al λbm bn=>Zq (ixR Z Z bn tu156 ti3 Z)<|Zq (ldR Z ty3)<|Zb Z<|A2<|Zm Z<|Zm Z<|Al λc7 az=>Zq (ixO 44 Z Z Z az tu156 ti3)<|Zq (ld 44 Z Z (Foc.el az) ty3 Z)<|Zq (I.sub Z Z)<|Al λc8 b0=>Zq (ixO 44 Z Z Z b0 tu156 ti3)<|Es (sto 44 Z Z (Foc.el b0) Z ti3)<|Zn<|A2<|Zm Z<|Zm Z<|Al λc9 b1=>Zq (ixO 44 Z Z Z b1 tu156 ti3)<|Zq (ld 44 Z Z (Foc.el b1) ty3 Z)<|Zq (I.eql Z Z)<|Zj Z (λbo=>?_) (λbo=>?_)
       ·refine Ai<|Zm Z<|Zm Z<|Ef Z (lit (R:=A3) ([bm]:List Int) 61 (pP Z Z<|pN) Z tu156 ti3 Z Z) λca=>Al λcb bp=>Ef Z (apn 50 Z Z Z (.own 61 Z) bp tu156 ti3 Z Z Z) λv76=>Za Z<|Ae<|Ap<|Af<|Ai<|Zq (I.add Z Z)<|Zm Z<|Ae<|Au (λO U h=>⟨nvl [v76],h.sub [1,44,45,50] (Zs Z Z Z Z<|Zs Z Z Z Z<|sN) (Zi Z<|Zi Z<|Zi Z<|Zi Z<|rN)⟩)
       ·refine AW<|Ap<|Af<|Ai<|Zq (I.add Z Z)<|Zm Z<|Ae<|Au (λO U h=>⟨nvl [(ay 0)],h.sub [1,44,45,50] (Zs Z Z Z Z<|Zs Z Z Z Z<|sN) (Zi Z<|Zi Z<|Zi Z<|Zi Z<|rN)⟩)
      ·refine AC<|AD<|AG<|Ap<|Av (λO U h=>⟨nvl [(ay 0)],h.sub [1,44,45,50] (Zs Z Z Z Z<|sS Z<|sN) (Zi Z<|Zi Z<|Zi Z<|Zi Z<|rN)⟩)
     ·refine gEx λbq=>Ai<|Zm Z<|Zq (I.add Z Z)<|Za Z<|AI 13 Z λcc=>Ae<|Au (λO U h=>⟨nvl [(bq 0)],h.sub [1,44,45,50] (Zs Z Z Z Z<|sS Z<|sN) (Zi Z<|Zi Z<|Zi Z<|Zi Z<|rN)⟩)
    ·refine AC<|AD<|AG<|Av (λO U h=>h.sub [1] (sS Z<|sS Z<|sN) (Y0 Z))
   ·refine A6<|A2<|Zm Z<|Zq (faB 1 Z Z underlying33 Z (by exact BP))<|Zq (ld 1 Z Z (fP (BQ _)) BR Z)<|Zq (Aq Z .rd Z tu31)<|Zq (I.lss Z Z)<|Zj Z (λbr=>?_) (λbr=>?_)
    ·refine A2<|Zb Z<|A5<|An<|BF [] [] Z (eE Z<|eN) (rN)
    ·refine Zt<|A2<|Zb Z<|A5<|BF [] [] Z (eE Z<|eN) (rN)
def JK (a0:Ao) (O:Int):Option (Sum (Sum Int Unit) Int) :=
 if decide (O<(a0.Ops.length:Int)) then
  idx a0.Ops O>>=λx7 =>
  Jf x7>>=λU =>
  (if U.2 != 0 then
   some true
  else
   idx a0.IDs O>>=λa1 =>
   if !decide (U.1=a1) then
    some true
   else
    M4 x7>>=λa2 =>
    some (a2 != 0))>>=λa6 =>
  if a6 then
   some (.inl (.inl 8))
  else
   some (.inr (w64 (O+1)))
 else
  some (.inl (.inr ()))
def Dx (a0:Ao):Option (Int) :=
 if decide (60<(a0.Ops.length:Int)) then
  some 4
 else
  if (a0.IDs.length:Int) != (a0.Ops.length:Int) then
   some 8
  else
   Bc (iter (JK a0) 0) λs4 =>
   Mn a0>>=λO =>
   some O
theorem Hj (a0:Ao):Ah Tryz.prog 25 [.rd AF a0] [AE] (Dx a0) (λr nv=>⟨[.rd A3 r],[(1001,some (.bool true,.glob 1 (Az 64 A9) C6))]⟩):=by
 refine Am 50 func25 Z Z Z λH w=>?_;refine A2<|Eb Z (bx 1 Z) λv1=>Zb Z<|A6<|A2<|Zq (faB 1 Z Z underlying33 Z (by exact BP))<|Zq (ld 1 Z Z (fP (BQ _)) BR Z)<|Zq (Aq Z .rd Z tu31)<|Zq (I.gtr Z Z)<|Zj Z (λh2=>?_) (λh2=>?_)
 ·refine A2<|Zb Z<|A5<|An<|Ze [] [1001] Z
 ·refine Zt<|A6<|A2<|Zq (faB 1 Z Z underlying33 Z (by exact AU))<|Zq (ld 1 Z Z (fP (C7 _)) B0 Z)<|Zq (Aq Z .rd Z tu28)<|Zq (faB 1 Z Z underlying33 Z (by exact BP))<|Zq (ld 1 Z Z (fP (BQ _)) BR Z)<|Zq (Aq Z .rd Z tu31)<|Zq (I.neq Z Z)<|Zj Z (λh3=>?_) (λh3=>?_)
  ·refine A2<|Zb Z<|A5<|An<|Ze [] [1001] Z
  ·refine Zt<|BM (λ(s4:Unit) O U=>Sta (ctx 50 H [AE] w) [(1,.val (A7 v1 0))] [(1,some (v1,.box 33 [.rd AF a0])),AE] O U) ?_ (λs4=>?_)
   ·refine A2<|Zq (faB 1 Z Z underlying33 Z (by exact BP))<|Zq (ld 1 Z Z (fP (BQ _)) BR Z)<|Zq (Aq Z .rd Z tu31)<|Zm Z<|Zn<|AJ (λ(s5:Int) O U=>Sta (ctx 50 H [AE] w) [(1,.val (A7 v1 0)),(19,.rd (A8 AA) a0.Ops),(20,.rd A3 (a0.Ops.length:Int)),(21,.rd A3 s5)] [(1,some (v1,.box 33 [.rd AF a0])),AE] O U) (λO U h=>Zu h [1,1001]) (λs5=>?_);refine A2<|Zq (I.lss Z Z)<|Zn<|A6<|gIf Z Z (λh6=>?_) (λh6=>?_)
    ·refine Zt<|A6<|AB<|A2<|Zm Z<|Al λx7 h8=>Zq (ixR Z Z h8 tu31 Ba Z)<|Zq (ldR Z C4)<|Eb Z (AN 1100 Ba (ZrE.rd (R:=A9) (x:=0) (Zr.num Z) (ZrE.nilS (ZrE.rd (R:=Ar) (x:=0) (Zr.num Z) (ZrE.rd (R:=Bw) (x:=(⟨0,[],(⟨0,0,0,[]⟩:Ay)⟩:AX)) DB (ZrE.rd (R:=BJ) (x:=(⟨0,0⟩:AQ)) E9 ZrE.nil Z) Z) Z)) Z)) λv9=>Za Z<|Cy aZ [.rd A9 0,.rd (A8 aZ) [],.rd Ar 0,.rd Bw (⟨0,[],(⟨0,0,0,[]⟩:Ay)⟩:AX),.rd BJ (⟨0,0⟩:AQ)] 1100 [.rd A9 0] [.rd Ar 0,.rd Bw (⟨0,[],(⟨0,0,0,[]⟩:Ay)⟩:AX),.rd BJ (⟨0,0⟩:AQ)] Z Z Z<|Cm (R:=AA) (⟨0,[],0,(⟨0,[],(⟨0,0,0,[]⟩:Ay)⟩:AX),(⟨0,0⟩:AQ)⟩:Ab) 1100 Z (Sp.via (Sp.prod (Sp.prod (Sp.prod (Sp.prod (Sp.prod Sp.unit))))))<|Es (sto 1100 Z Z fH Z Ba)<|Zn<|A2<|Zq (ld 1100 Z Z fH C4 Z)<|Zc [1001] [] func53 Z (T5 _) λab ac=>Zm Z<|Zq (ext Z Z)<|Zq (ext Z Z)<|Eb Z (AN 1101 Ak (.zr (R:=aZ) (x:=(Vector.replicate 32 0)) BU)) λad=>Es (sto 1101 Z Z fH Z Ak)<|Zb Z<|AY (λ(a6:Bool) O U=>Sta (ctx 50 H [AE] w) [(1,.val (A7 v1 0)),(19,.rd (A8 AA) a0.Ops),(20,.rd A3 (a0.Ops.length:Int)),(21,.rd A3 s5),(46,.rd Ac a6)] [(1,some (v1,.box 33 [.rd AF a0])),AE] O U) ?_ (λa6=>?_)
     ·refine Bq [1001] mixed Z Z<|A4 0 Z Z (mv Z)<|A4 1 Z Z (I.neq Z Z)<|A4 2 Z Z (mv Z)<|hIf 33 Z Z (λa2=>?_) (λa2=>?_)
      ·refine hKn 32 Z Z a2<|hSk 3 Z Z<|hSk 4 Z Z<|hSk 5 Z Z<|hSk 6 Z Z<|hSk 7 Z Z<|hSk 8 Z Z<|hSk 9 Z Z<|A4 10 Z Z (pkT Z Z)<|A4 11 Z Z (mv Z)<|hSk 12 Z Z<|hSk 13 Z Z<|hSk 14 Z Z<|A4 15 Z Z (pkT Z Z)<|AV (by kernel_rfl)<|Av (λO U h=>Zu h [1,1001])
      ·refine hKn 32 Z Z a2<|Zg 3 Z Z (ld 1101 Z Z fH Aw Z)<|Zg 4 Z Z (faB 1 Z Z underlying33 Z (by exact AU))<|Zg 5 Z Z (ld 1 Z Z (fP (C7 _)) B0 Z)<|Zg 6 Z Z (mv Z)<|AZ λae a7=>Zg 7 Z Z (ixR Z Z a7 tu28 Ak Z)<|Zg 8 Z Z (ldR Z Aw)<|Zg 9 Z Z (neA Z Z eq71 Z Z gq71)<|A4 10 Z Z (pkF Z Z)<|A4 11 Z Z (mv Z)<|hIf 42 Z Z (λa1=>?_) (λa1=>?_)
       ·refine hKn 40 Z Z a1<|hKn 41 Z Z a1<|hSk 12 Z Z<|hSk 13 Z Z<|hSk 14 Z Z<|A4 15 Z Z (pkT Z Z)<|AV (by kernel_rfl)<|Av (λO U h=>Zu h [1,1001])
       ·refine hKn 40 Z Z a1<|hKn 41 Z Z a1<|Zg 12 Z Z (ld 1100 Z Z fH C4 Z)<|Be 13 [1001] [] Z (by kernel_rfl) Z Zx Z func54 Z Z (zvb _) (Y1 Z) (Y0 Z) Z (λ_ _=>Cb) λaf ah=>Zg 14 Z Z (I.neq Z Z)<|A4 15 Z Z (pkF Z Z)<|AV (by kernel_rfl)<|Av (λO U h=>Zu h [1,1001])
     ·refine gIf Z Z (λa8=>?_) (λa8=>?_)
      ·refine A2<|Zb Z<|A5<|Bh<|An<|BE<|Bk<|Ze [] [1001] Z
      ·refine AW<|Ap<|Af<|Ai<|Zq (I.add Z Z)<|Zm Z<|Ae<|Au (λO U h=>Zu h [1,1001])
    ·refine AC<|AD<|AG<|BA (λO U h=>Zu h [1,1001])
   ·refine A2<|Zq (ld 1 Z Z fH BX Z)<|Zc [] [] func55 Z (zvl _) λai aj=>Zb Z<|A5<|Ze [] [1001] Z
def FQ (a0:List V3) (U:V3) (O:Int):Option (Sum (Sum Int Unit) Int) :=
 if decide (O<(a0.length:Int)) then
  idx a0 O>>=λx5 =>
  if decide (x5=U) then
   some (.inl (.inl O))
  else
   some (.inr (w64 (O+1)))
 else
  some (.inl (.inr ()))
def EK (a0:List V3) (O:V3):Option (Int) :=
 Bc (iter (FQ a0 O) 0) λs2 =>
 some (-1)
theorem Hk (a0:List V3) (a1:V3):Ah Tryz.prog 35 [.rd (A8 aZ) a0,.rd aZ a1] [] (EK a0 a1) (λr nv=>⟨[.rd A3 r],[]⟩):=by
 refine Am 19 func35 Z Z Z λH w=>?_;refine A2<|Eb Z (bx 1 Z) λv1=>Zb Z<|BM (λ(s2:Unit) O U=>Sta (ctx 19 H [] w) [] [] O U) ?_ (λs2=>?_)
 ·refine A2<|Zb Z<|AJ (λ(s3:Int) O U=>Sta (ctx 19 H [] w) [(0,.rd (A8 aZ) a0),(3,.val (A7 v1 0)),(5,.rd A3 s3)] [(1,some (v1,.box 71 [.rd aZ a1]))] O U) (λO U h=>Zu h [1]) (λs3=>?_);refine A6<|A2<|Zm Z<|Zm Z<|Zq (Aq Z .rd Z tu28)<|Zq (I.lss Z Z)<|Zj Z (λh4=>?_) (λh4=>?_)
  ·refine Zt<|A6<|AB<|A6<|Dh mixed (by kernel_rfl)<|Rq Z (mv Z)<|Rq Z (mv Z)<|C3 λx5 h6=>Rq Z (ixR Z Z h6 tu28 Ak Z)<|Rq Z (ldR Z Aw)<|Rq Z (ld 1 Z Z fH Aw Z)<|Rq Z (eqA Z Z eq71 Z Z gq71)<|Dd<|Af<|gIf Z Z (λh7=>?_) (λh7=>?_)
   ·refine A2<|Zm Z<|Zb Z<|A5<|Bh<|An<|BE<|Bk<|Ze [] [] Z
   ·refine AW<|Ap<|Af<|Ai<|Zm Z<|Zq (I.add Z Z)<|Za Z<|Ae<|Au (λO U h=>Zu h [1])
  ·refine AC<|AD<|AG<|BA (λO U h=>Zu h [])
 ·refine A2<|Zb Z<|A5<|Ze [] [] Z
def JL (a0:List V3) (U:List V3) (O:Int):Option (Sum (Sum Bool Unit) Int) :=
 if decide (O<(U.length:Int)) then
  idx U O>>=λx4 =>
  EK a0 x4>>=λr6 =>
  if decide (r6<0) then
   some (.inl (.inl false))
  else
   some (.inr (w64 (O+1)))
 else
  some (.inl (.inr ()))
def ER (a0:List V3) (O:List V3):Option (Bool) :=
 Bc (iter (JL a0 O) 0) λs1 =>
 some true
theorem Th (a0:List V3) (a1:List V3):Ah Tryz.prog 37 [.rd (A8 aZ) a0,.rd (A8 aZ) a1] [] (ER a0 a1) (λr nv=>⟨[.rd Ac r],[]⟩):=by
 refine Am 19 func37 Z Z Z λH w=>?_;refine A2<|Zb Z<|BM (λ(s1:Unit) O U=>Sta (ctx 19 H [] w) [] [] O U) ?_ (λs1=>?_)
 ·refine A2<|Zb Z<|AJ (λ(s2:Int) O U=>Sta (ctx 19 H [] w) [(0,.rd (A8 aZ) a0),(1,.rd (A8 aZ) a1),(5,.rd A3 s2)] [] O U) (λO U h=>Zu h []) (λs2=>?_);refine A6<|A2<|Zm Z<|Zm Z<|Zq (Aq Z .rd Z tu28)<|Zq (I.lss Z Z)<|Zj Z (λh3=>?_) (λh3=>?_)
  ·refine Zt<|A6<|AB<|A2<|Zm Z<|Zm Z<|Zm Z<|Al λx4 h5=>Zq (ixR Z Z h5 tu28 Ak Z)<|Zq (ldR Z Aw)<|Zc [] [] func35 Z (Hk _ _) λr6 n7=>Zq (I.lss Z Z)<|Zj Z (λh8=>?_) (λh8=>?_)
   ·refine A2<|Zb Z<|A5<|Bh<|An<|BE<|Bk<|Ze [] [] Z
   ·refine AW<|Ap<|Af<|Ai<|Zm Z<|Zq (I.add Z Z)<|Za Z<|Ae<|Au (λO U h=>Zu h [])
  ·refine AC<|AD<|AG<|BA (λO U h=>Zu h [])
 ·refine A2<|Zb Z<|A5<|Ze [] [] Z
theorem zlp (a0:List V3) (O:Value) (l0:List V3) (a1:V3):Ah Tryz.prog 35 [.vw aZ O l0 a0,.rd aZ a1] [(1,some (O,.list aZ 71 l0))] (EK a0 a1) (λr nv=>⟨[.rd A3 r],[(1,some (O,.list aZ 71 l0))]⟩):=by
 refine Am 19 func35 Z Z Z λH w=>?_;refine A2<|Eb Z (bx 2 Z) λv1=>Zb Z<|BM (λ(s2:Unit) U ww=>Sta (ctx 19 H [(1,some (O,.list aZ 71 l0))] w) [] [(1,some (O,.list aZ 71 l0))] U ww) ?_ (λs2=>?_)
 ·refine A2<|Zb Z<|AJ (λ(s3:Int) U ww=>Sta (ctx 19 H [(1,some (O,.list aZ 71 l0))] w) [(0,.vw aZ O l0 a0),(3,.val (A7 v1 0)),(5,.rd A3 s3)] [(1,some (O,.list aZ 71 l0)),(2,some (v1,.box 71 [.rd aZ a1]))] U ww) (λU ww h=>Zu h [1,2]) (λs3=>?_);refine A6<|A2<|Zm Z<|Zm Z<|Zq (Aq Z (.vw 1 Z) Z tu28)<|Zq (I.lss Z Z)<|Zj Z (λh4=>?_) (λh4=>?_)
  ·refine Zt<|A6<|AB<|A6<|Dh mixed (by kernel_rfl)<|Rq Z (mv Z)<|Rq Z (mv Z)<|C3 λx5 h6=>Rq Z (ixQ 1 Z Z Z h6 tu28 Ak)<|Rq Z (ldQ 1 Z Z Aw Z)<|Rq Z (ld 2 Z Z fH Aw Z)<|Rq Z (eqA Z Z eq71 Z Z gq71)<|Dd<|Af<|gIf Z Z (λh7=>?_) (λh7=>?_)
   ·refine A2<|Zm Z<|Zb Z<|A5<|Bh<|An<|BE<|Bk<|Ze [] [1] Z
   ·refine AW<|Ap<|Af<|Ai<|Zm Z<|Zq (I.add Z Z)<|Za Z<|Ae<|Au (λU ww h=>Zu h [1,2])
  ·refine AC<|AD<|AG<|BA (λU ww h=>Zu h [1])
 ·refine A2<|Zb Z<|A5<|Ze [] [1] Z
theorem zkk (a0:List V3) (O:Value) (l0:List V3) (a1:List V3):Ah Tryz.prog 37 [.vw aZ O l0 a0,.rd (A8 aZ) a1] [(1,some (O,.list aZ 71 l0))] (ER a0 a1) (λr nv=>⟨[.rd Ac r],[(1,some (O,.list aZ 71 l0))]⟩):=by
 refine Am 19 func37 Z Z Z λH w=>?_;refine A2<|Zb Z<|BM (λ(s1:Unit) U ww=>Sta (ctx 19 H [(1,some (O,.list aZ 71 l0))] w) [] [(1,some (O,.list aZ 71 l0))] U ww) ?_ (λs1=>?_)
 ·refine A2<|Zb Z<|AJ (λ(s2:Int) U ww=>Sta (ctx 19 H [(1,some (O,.list aZ 71 l0))] w) [(0,.vw aZ O l0 a0),(1,.rd (A8 aZ) a1),(5,.rd A3 s2)] [(1,some (O,.list aZ 71 l0))] U ww) (λU ww h=>Zu h [1]) (λs2=>?_);refine A6<|A2<|Zm Z<|Zm Z<|Zq (Aq Z .rd Z tu28)<|Zq (I.lss Z Z)<|Zj Z (λh3=>?_) (λh3=>?_)
  ·refine Zt<|A6<|AB<|A2<|Zm Z<|Zm Z<|Zm Z<|Al λx4 h5=>Zq (ixR Z Z h5 tu28 Ak Z)<|Zq (ldR Z Aw)<|Zc [1] [(1,1)] func35 Z (zlp _ _ _ _) λr6 n7=>Zq (I.lss Z Z)<|Zj Z (λh8=>?_) (λh8=>?_)
   ·refine A2<|Zb Z<|A5<|Bh<|An<|BE<|Bk<|Ze [] [1] Z
   ·refine AW<|Ap<|Af<|Ai<|Zm Z<|Zq (I.add Z Z)<|Za Z<|Ae<|Au (λU ww h=>Zu h [1])
  ·refine AC<|AD<|AG<|BA (λU ww h=>Zu h [1])
 ·refine A2<|Zb Z<|A5<|Ze [] [1] Z
def Hl (a0:Ao) (O:(List Int) × (List V3) × (List Bool) × Bool) (U:Int):Option (Sum (Sum ((List Int)) ((List Int) × (List V3) × (List Bool) × Bool)) Int) :=
 if decide (U<(a0.Ops.length:Int)) then
  (idx O.2.2.1 U>>=λa1 =>
  if !a1 then
   idx a0.Ops U>>=λa2 =>
   ER O.2.1 a2.Preds>>=λa6 =>
   some a6
  else
   some false)>>=λa7 =>
  if a7 then
   app 8 O.1 [U]>>=λa8 =>
   idx a0.IDs U>>=λaa =>
   app 32 O.2.1 [aa]>>=λab =>
   idx O.2.2.1 U>>=λac =>
   some (.inl (.inr (a8,ab,O.2.2.1.set (U:Int).toNat true,true)))
  else
   some (.inr (w64 (U+1)))
 else
  some (.inl (.inr (O.1,O.2.1,O.2.2.1,false)))
def Hm (a0:Ao) (O:(List Int) × (List V3) × (List Bool) × Bool):Option (Sum ((List Int)) ((List Int) × (List V3) × (List Bool) × Bool)) :=
 if O.2.2.2 then
  iter (Hl a0 O) 0
 else
  some (.inl O.1)
def I5 (a0:Ao):Option ((List Int)) :=
 mkn 1 false (a0.Ops.length:Int)>>=λO =>
 (iter (Hm a0) ([],[],O,true))>>=λU =>
 some U
theorem zl7 (a0:Ao):Ah Tryz.prog 111 [.rd AF a0] [] (I5 a0) (λr O=>⟨[.val (O 0)],[(100,some (O 0,.list A3 3 r))]⟩):=by
 refine Am 51 func111 Z Z Z λH w=>?_;refine A2<|Eb Z (bx 1 Z) λv1=>Zb Z<|A2<|Zb Z<|A2<|Zb Z<|A2<|Zq (faB 1 Z Z underlying33 Z (by exact BP))<|Zq (ld 1 Z Z (fP (BQ _)) BR Z)<|Zq (Aq Z .rd Z tu31)<|Al λx2 h3=>Ef Z (mks (R:=Ac) 2 Z Z h3 tu215 ti4 Zr.bool Z) λv4=>Zb Z<|AY (λ(s5:(List Int)) aa ww=>∃ O:Nat->Value,Sta (ctx 51 H [] w) [(3,.val (O 0))] [(3,some ((O 0),.list A3 3 s5))] aa ww) ?_ (λs5=>?_)
 ·refine A2<|Zb Z<|Dk A3 3 6<|Dk aZ 71 7<|AJ (λ(s6:(List Int) × (List V3) × (List Bool) × Bool) aa ww=>∃ O:Nat->Value,Sta (ctx 51 H [] w) [(1,.val (A7 v1 0)),(3,.val (O 0)),(4,.val (O 1)),(5,.val v4),(6,.rd Ac s6.2.2.2)] [(1,some (v1,.box 33 [.rd AF a0])),(4,some ((O 0),.list A3 3 s6.1)),(5,some ((O 1),.list aZ 71 s6.2.1)),(2,some (v4,.list Ac 4 s6.2.2.1))] aa ww) (λaa ww h=>⟨nvl [(.slice none 0 0),(.slice none 0 0)],Zu h [1,6,7,2]⟩) (λs6=>?_)
  refine gEx λU=>A6<|A2<|Zm Z<|Zj Z (λh8=>?_) (λh8=>?_)
  ·refine gKn 6 Z h8<|Zt<|AB<|A2<|Zb Z<|A2<|Zb Z<|AJ (λ(s9:Int) aa ww=>Sta (ctx 51 H [] w) [(1,.val (A7 v1 0)),(3,.val (U 0)),(4,.val (U 1)),(5,.val v4),(6,.rd Ac false),(7,.rd A3 s9)] [(1,some (v1,.box 33 [.rd AF a0])),(4,some ((U 0),.list A3 3 s6.1)),(5,some ((U 1),.list aZ 71 s6.2.1)),(2,some (v4,.list Ac 4 s6.2.2.1))] aa ww) (λaa ww h=>Zu h [1,4,5,2]) (λs9=>?_);refine A6<|A2<|Zm Z<|Zq (faB 1 Z Z underlying33 Z (by exact BP))<|Zq (ld 1 Z Z (fP (BQ _)) BR Z)<|Zq (Aq Z .rd Z tu31)<|Zq (I.lss Z Z)<|Zj Z (λac=>?_) (λac=>?_)
   ·refine Zt<|A6<|AB<|AY (λ(a6:Bool) aa ww=>Sta (ctx 51 H [] w) [(1,.val (A7 v1 0)),(3,.val (U 0)),(4,.val (U 1)),(5,.val v4),(6,.rd Ac false),(7,.rd A3 s9),(34,.rd Ac a6)] [(1,some (v1,.box 33 [.rd AF a0])),(4,some ((U 0),.list A3 3 s6.1)),(5,some ((U 1),.list aZ 71 s6.2.1)),(2,some (v4,.list Ac 4 s6.2.2.1))] aa ww) ?_ (λa6=>?_)
    ·refine Ai<|Zm Z<|Zm Z<|Al λao a7=>Zq (ixO 2 Z Z Z a7 tu215 ti4)<|Zq (ld 2 Z Z (Foc.el a7) ty4 Z)<|Zq (Cd Z)<|Zm Z<|Bf 25 Z (λa2=>?_) (λa2=>?_)
     ·refine Aj 24 Z a2<|Aa Zx Z Z (mv Z)<|Aa Zx Z Z (faB 1 Z Z underlying33 Z (by exact BP))<|Aa Zx Z Z (ld 1 Z Z (fP (BQ _)) BR Z)<|Aa Zx Z Z (mv Z)<|Al λap ad=>Aa Zx Z Z (ixR Z Z ad tu31 Ba Z)<|Aa Zx Z Z (faR Z (Co _) underlying60 Z Z (by exact AU))<|Aa Zx Z Z (ldR Z B0)<|CN [5] [(1,5)] Zx Z func37 Z Z (zkk _ _ _ _) (aW Z<|aQ Z<|aN) (Y0 Z) λaq ar=>Zq (pkT Z Z)<|Ae<|Av (λaa ww h=>Zu h [1,4,5,2])
     ·refine Aj 24 Z a2<|Zk Z<|Zk Z<|Zk Z<|Zk Z<|Zk Z<|Zk Z<|Zk Z<|Zk Z<|Zq (pkF Z Z)<|Ae<|Av (λaa ww h=>Zu h [1,4,5,2])
    ·refine gIf Z Z (λae=>?_) (λae=>?_)
     ·refine A6<|EJ [(3,.val (U 0)),(4,.val (U 1)),(1,.val (A7 v1 0)),(5,.val v4),(7,.rd A3 s9)] [(1,some (v1,.box 33 [.rd AF a0])),(4,some ((U 0),.list A3 3 s6.1)),(5,some ((U 1),.list aZ 71 s6.2.1)),(2,some (v4,.list Ac 4 s6.2.2.1))] [1,4,5,2] (Zs Z Z Z Z<|sS Z<|sN) (Zi Z<|Zi Z<|Zi Z<|Zi Z<|rN)<|Ca λaf ah=>Ca λa1 ai=>Ca λaj ak=>Ca λau a8=>gOr [(3,.val (U 0),14),(4,.val (U 1),15)] [⟨8,none,[(4,some ([1], λO=>((O 1),.list A3 3 [s9])))]⟩,⟨4,some ([], λO=>((U 0),.list A3 3 s6.1)),[(5,some ([2], λO=>((O 2),.list A3 3 af)))]⟩,⟨1,some ([], λO=>(v1,.box 33 [.rd AF a0])),[]⟩,⟨9,none,[(12,none)]⟩,⟨5,some ([], λO=>((U 1),.list aZ 71 s6.2.1)),[(13,some ([4], λO=>((O 4),.list aZ 71 aj)))]⟩,⟨2,some ([], λO=>(v4,.list Ac 4 s6.2.2.1)),[(17,some ([], λO=>(v4,.list Ac 4 (s6.2.2.1.set (s9:Int).toNat true))))]⟩] [pd 35 (.val v4),pd 36 (.rd A3 s9),⟨some (37,[], λO=>.val (U 0)),[],[],[0]⟩,pd 38 (.rd A3 s9),⟨some (39,[1], λO=>.val (O 1)),[(0,0,true)],[1],[]⟩,⟨some (40,[2], λO=>.val (O 2)),[(1,0,true),(0,1,false)],[2],[]⟩,⟨some (41,[], λO=>.val (U 1)),[],[],[1]⟩,pk 42 (.val (A7 v1 (0+0))) [(2,0,false)],pk 43 (.rd (A8 aZ) a0.IDs) [(2,0,false)],pd 44 (.rd A3 s9),pd 45 (.rp aZ a1),pd 46 (.rd aZ a1),⟨some (47,[], λO=>.rd (A8 aZ) [a1]),[(3,0,true)],[3],[]⟩,⟨some (48,[4], λO=>.val (O 4)),[(4,0,true)],[4],[]⟩,⟨some (3,[2], λO=>.val (O 2)),[],[],[]⟩,⟨some (4,[4], λO=>.val (O 4)),[],[],[]⟩,pk 49 (.val (A7 v4 ((s9:Int).toNat * 1))) [(5,0,false)],⟨none,[(5,0,true)],[],[]⟩,pd 6 (.rd Ac true)] mixed (oC (oRn (λO E=>mv Z))<|oC (oRn (λO E=>mv Z))<|oC (oRn (λO E=>mv Z))<|oC (oRn (λO E=>mv Z))<|oC (oEf 8 1 (λO E=>lit (R:=A3) ([s9]:List Int) 8 (pP Z Z<|pN) Z tu156 ti3 Z Z))<|oC (oEf 4 2 (λO E=>apn 4 Z Z Z (.own 8 Z) ah tu156 ti3 Z Z Z))<|oC (oRn (λO E=>mv Z))<|oC (oRn (λO E=>faB 1 Z Z underlying33 Z (by exact AU)))<|oC (oRn (λO E=>ld 1 Z Z (fP (C7 _)) B0 Z))<|oC (oRn (λO E=>mv Z))<|oC (oRn (λO E=>ixR Z Z ai tu28 Ak Z))<|oC (oRn (λO E=>ldR Z Aw))<|oC (oFz (A1:=λO=>[(9,some ((O 3),.list aZ 71 [a1]))]) 9 3 (oEf 9 3 (λO E=>lit (R:=aZ) ([a1]:List V3) 9 (pP Z Z<|pN) Z tu28 Ak Z Z)))<|oC (oEf 5 4 (λO E=>apn 5 Z Z Z .rd ak tu28 Ak Z Z Z))<|oC (oRn (λO E=>asg Z))<|oC (oRn (λO E=>asg Z))<|oC (oRn (λO E=>ixO 2 Z Z Z a8 tu215 ti4))<|oC (oEs 2 (λO E=>sto 2 Z Z (Foc.el a8) Z ti4))<|oC (oRn (λO E=>asg Z))<|oN) λab=>Af<|AC<|X5 Z<|AD<|AG<|Ap<|Au (λaa ww h=>⟨nvl [(ab 2),(ab 4)],Zu h [1,4,5,2]⟩)
     ·refine AW<|Ap<|Af<|Ai<|Zm Z<|Zq (I.add Z Z)<|Za Z<|Ae<|Au (λaa ww h=>Zu h [1,4,5,2])
   ·refine AC<|AD<|AG<|Ap<|Au (λaa ww h=>⟨nvl [(U 0),(U 1)],Zu h [1,4,5,2]⟩)
  ·refine gKn 6 Z h8<|AC<|AD<|AG<|Av (λaa ww h=>⟨nvl [(U 0)],Zu h [4]⟩)
 ·refine gEx λam=>A2<|Zm Z<|Zb Z<|A5<|Ze [(am 0)] [3] Z
def JM (a0:Ao) (O:Int):Option (Sum (Sum Int Unit) Int) :=
 if decide (O<(a0.Ops.length:Int)) then
  idx a0.Ops O>>=λx8 =>
  ER a0.IDs x8.Preds>>=λU =>
  if !U then
   some (.inl (.inl 40))
  else
   some (.inr (w64 (O+1)))
 else
  some (.inl (.inr ()))
def Mo (a0:Ao):Option (Int) :=
 Hf a0.IDs>>=λU =>
 if !U then
  some 32
 else
  Bc (iter (JM a0) 0) λs5 =>
  I5 a0>>=λO =>
  if decide ((O.length:Int)<(a0.Ops.length:Int)) then
   some 36
  else
   some 0
theorem zm1 (a0:Ao):Ah Tryz.prog 63 [.rd AF a0] [] (Mo a0) (λr nv=>⟨[.rd A3 r],[]⟩):=by
 refine Am 32 func63 Z Z Z λH w=>?_;refine A2<|Eb Z (bx 1 Z) λv1=>Zb Z<|A6<|A2<|Zq (faB 1 Z Z underlying33 Z (by exact AU))<|Zq (ld 1 Z Z (fP (C7 _)) B0 Z)<|Zc [] [] func46 Z (Ma _) λr2 n3=>Zq (Cd Z)<|Zj Z (λh4=>?_) (λh4=>?_)
 ·refine A2<|Zb Z<|A5<|An<|Ze [] [] Z
 ·refine Zt<|BM (λ(s5:Unit) O U=>Sta (ctx 32 H [] w) [(1,.val (A7 v1 0))] [(1,some (v1,.box 33 [.rd AF a0]))] O U) ?_ (λs5=>?_)
  ·refine A2<|Zb Z<|AJ (λ(s6:Int) O U=>Sta (ctx 32 H [] w) [(1,.val (A7 v1 0)),(3,.rd A3 s6)] [(1,some (v1,.box 33 [.rd AF a0]))] O U) (λO U h=>Zu h [1]) (λs6=>?_);refine A6<|A2<|Zm Z<|Zq (faB 1 Z Z underlying33 Z (by exact BP))<|Zq (ld 1 Z Z (fP (BQ _)) BR Z)<|Zq (Aq Z .rd Z tu31)<|Zq (I.lss Z Z)<|Zj Z (λh7=>?_) (λh7=>?_)
   ·refine Zt<|A6<|AB<|A6<|Bq [] mixed Z Z<|A4 0 Z Z (faB 1 Z Z underlying33 Z (by exact AU))<|A4 1 Z Z (ld 1 Z Z (fP (C7 _)) B0 Z)<|A4 2 Z Z (faB 1 Z Z underlying33 Z (by exact BP))<|A4 3 Z Z (ld 1 Z Z (fP (BQ _)) BR Z)<|A4 4 Z Z (mv Z)<|AZ λx8 h9=>A4 5 Z Z (ixR Z Z h9 tu31 Ba Z)<|A4 6 Z Z (faR Z (Co _) underlying60 Z Z (by exact AU))<|A4 7 Z Z (ldR Z B0)<|Be 8 [] [] Z (by kernel_rfl) Z (gd0 Z) Z func37 Z Z (Th _ _) (Y2 Z Z) rN Z (λ_ _=>DY) λa6 a7=>A4 9 Z Z (Cd Z)<|AV (by kernel_rfl)<|Af<|gIf Z Z (λa1=>?_) (λa1=>?_)
    ·refine A2<|Zb Z<|A5<|Bh<|An<|BE<|Bk<|Ze [] [] Z
    ·refine AW<|Ap<|Af<|Ai<|Zm Z<|Zq (I.add Z Z)<|Za Z<|Ae<|Au (λO U h=>Zu h [1])
   ·refine AC<|AD<|AG<|BA (λO U h=>Zu h [1])
  ·refine A6<|A6<|Bq [38] mixed Z Z<|A4 0 Z Z (ld 1 Z Z fH BX Z)<|A4 3 Z Z (faB 1 Z Z underlying33 Z (by exact BP))<|A4 4 Z Z (ld 1 Z Z (fP (BQ _)) BR Z)<|A4 5 Z Z (Aq Z .rd Z tu31)<|Be 1 [] [(100,38)] Z (by kernel_rfl) Z (gd0 Z) Z func111 Z Z (zl7 _) (Y1 Z) rN Z (λ_ _=>C1) λa8 ab=>Zf 2 Z Z Cb (Aq Z (.own 38 Z) Z tu156)<|A4 6 Z Z (I.lss Z Z)<|AV (by kernel_rfl)<|Af<|gIf Z Z (λa2=>?_) (λa2=>?_)
   ·refine A2<|Zb Z<|A5<|An<|Ze [] [] Z
   ·refine Zt<|A2<|Zb Z<|A5<|Ze [] [] Z
def JN (a0:Ao) (O:Int):Option (Sum (Sum Int Unit) Int) :=
 if decide (O<(a0.Ops.length:Int)) then
  idx a0.Ops O>>=λx7 =>
  Ml x7>>=λr9 =>
  if r9 != 0 then
   some (.inl (.inl 8))
  else
   idx a0.Ops O>>=λU =>
   idx a0.IDs O>>=λa1 =>
   Jx U>>=λa2 =>
   if !decide (a2=a1) then
    some (.inl (.inl 8))
   else
    some (.inr (w64 (O+1)))
 else
  some (.inl (.inr ()))
def Ee (a0:Ao):Option (Int) :=
 if decide (60<(a0.Ops.length:Int)) then
  some 4
 else
  if (a0.IDs.length:Int) != (a0.Ops.length:Int) then
   some 8
  else
   Bc (iter (JN a0) 0) λs4 =>
   Mo a0>>=λO =>
   some O
theorem FR (a0:Ao):Ah Tryz.prog 29 [.rd AF a0] [] (Ee a0) (λr nv=>⟨[.rd A3 r],[]⟩):=by
 refine Am 45 func29 Z Z Z λH w=>?_;refine A2<|Eb Z (bx 1 Z) λv1=>Zb Z<|A6<|A2<|Zq (faB 1 Z Z underlying33 Z (by exact BP))<|Zq (ld 1 Z Z (fP (BQ _)) BR Z)<|Zq (Aq Z .rd Z tu31)<|Zq (I.gtr Z Z)<|Zj Z (λh2=>?_) (λh2=>?_)
 ·refine A2<|Zb Z<|A5<|An<|Ze [] [] Z
 ·refine Zt<|A6<|A2<|Zq (faB 1 Z Z underlying33 Z (by exact AU))<|Zq (ld 1 Z Z (fP (C7 _)) B0 Z)<|Zq (Aq Z .rd Z tu28)<|Zq (faB 1 Z Z underlying33 Z (by exact BP))<|Zq (ld 1 Z Z (fP (BQ _)) BR Z)<|Zq (Aq Z .rd Z tu31)<|Zq (I.neq Z Z)<|Zj Z (λh3=>?_) (λh3=>?_)
  ·refine A2<|Zb Z<|A5<|An<|Ze [] [] Z
  ·refine Zt<|BM (λ(s4:Unit) O U=>Sta (ctx 45 H [] w) [(1,.val (A7 v1 0))] [(1,some (v1,.box 33 [.rd AF a0]))] O U) ?_ (λs4=>?_)
   ·refine A2<|Zb Z<|AJ (λ(s5:Int) O U=>Sta (ctx 45 H [] w) [(1,.val (A7 v1 0)),(3,.rd A3 s5)] [(1,some (v1,.box 33 [.rd AF a0]))] O U) (λO U h=>Zu h [1]) (λs5=>?_);refine A6<|A2<|Zm Z<|Zq (faB 1 Z Z underlying33 Z (by exact BP))<|Zq (ld 1 Z Z (fP (BQ _)) BR Z)<|Zq (Aq Z .rd Z tu31)<|Zq (I.lss Z Z)<|Zj Z (λh6=>?_) (λh6=>?_)
    ·refine Zt<|A6<|AB<|A6<|Bq [] mixed Z Z<|A4 0 Z Z (faB 1 Z Z underlying33 Z (by exact BP))<|A4 1 Z Z (ld 1 Z Z (fP (BQ _)) BR Z)<|A4 2 Z Z (mv Z)<|AZ λx7 h8=>A4 3 Z Z (ixR Z Z h8 tu31 Ba Z)<|A4 4 Z Z (ldR Z C4)<|Be 5 [] [] Z (by kernel_rfl) Z (gd0 Z) Z func61 Z Z (zko _) (Y1 Z) rN Z (λ_ _=>Cb) λr9 a8=>A4 6 Z Z (I.neq Z Z)<|A4 7 Z Z (mv Z)<|hIf 29 Z Z (λa1=>?_) (λa1=>?_)
     ·refine hKn 28 Z Z a1<|hSk 8 Z Z<|hSk 9 Z Z<|hSk 10 Z Z<|hSk 11 Z Z<|hSk 12 Z Z<|hSk 13 Z Z<|hSk 14 Z Z<|hSk 15 Z Z<|hSk 16 Z Z<|hSk 17 Z Z<|hSk 18 Z Z<|hSk 19 Z Z<|A4 20 Z Z (pkT Z Z)<|AV (by kernel_rfl)<|Af<|CL Z<|A2<|Zb Z<|A5<|Bh<|An<|BE<|Bk<|Ze [] [] Z
     ·refine hKn 28 Z Z a1<|Zg 8 Z Z (faB 1 Z Z underlying33 Z (by exact BP))<|Zg 9 Z Z (ld 1 Z Z (fP (BQ _)) BR Z)<|Zg 10 Z Z (mv Z)<|AZ λab a6=>Zg 11 Z Z (ixR Z Z a6 tu31 Ba Z)<|Zg 12 Z Z (ldR Z C4)<|Zg 14 Z Z (faB 1 Z Z underlying33 Z (by exact AU))<|Zg 15 Z Z (ld 1 Z Z (fP (C7 _)) B0 Z)<|Zg 16 Z Z (mv Z)<|AZ λac a7=>Zg 17 Z Z (ixR Z Z a7 tu28 Ak Z)<|Zg 18 Z Z (ldR Z Aw)<|Lq 13 [] [] Z (by kernel_rfl) Z Zx Z func62 Z Z (Tb _) (Y1 Z) rN Z λad ae=>OH 19 Z (by kernel_rfl) (by kernel_rfl) (by kernel_rfl) Zx Z Z DY (neA Z Z eq71 Z Z gq71)<|A4 20 Z Z (pkF Z Z)<|AV (by kernel_rfl)<|Af<|gIf Z Z (λa2=>?_) (λa2=>?_)
      ·refine gKn 41 Z a2<|A2<|Zb Z<|A5<|Bh<|An<|BE<|Bk<|Ze [] [] Z
      ·refine gKn 41 Z a2<|AW<|Ap<|Af<|Ai<|Zm Z<|Zq (I.add Z Z)<|Za Z<|Ae<|Au (λO U h=>Zu h [1])
    ·refine AC<|AD<|AG<|BA (λO U h=>Zu h [1])
   ·refine A2<|Zq (ld 1 Z Z fH BX Z)<|Zc [] [] func63 Z (zm1 _) λaf ah=>Zb Z<|A5<|Ze [] [] Z
end
section
section
variable {ρ:Type} {C:World->World->Prop} {P:Program} {Γ:Ctx} {l:AR} {res:Res} {d:Tmp} {ty:TypeId} {pos:String} {after:Array Edge} {g:Option (Nat × Bool)}
def Dp (b c:List UInt8):Bool:=Op.bytesLess b c
theorem z19p {ρ:Operand->Value} {w:World} {x y:Operand} {T T':TypeId} {s s':ByteArray} (O:ρ x=(.string s)) (U:ρ y=(.string s')) :
  (execOp ρ ⟨some d,.binOp .lss T x y T',ty,pos,after,g⟩).run P w=.ok (.value (.bool (Op.bytesLess s.toList s'.toList))) w:=(Fj (by rw[O,U]; rfl) (by rw[O,U]; rfl))
theorem ltS {x y:Operand} {T T':TypeId} {b c:List UInt8} (U:opE l x=some (.rd BI b)) (hy:opE l y=some (.rd BI c)):Run C P Γ l res ⟨some d,.binOp .lss T x y T',ty,pos,after,g⟩ (.rd Ac (Dp b c)):=λ_ w O=>by
 obtain⟨s,h1,rfl⟩:=EC (O.vl U);obtain⟨t,h2,rfl⟩:=EC (O.vl hy);exact⟨_, λw' _=>z19p h1 h2, by rw[E4,E4]; exact EB⟩
theorem JO:∀ x y:List UInt8,Op.bytesLess y x=!(Op.bytesLess x y || x==y)
 | [],[]=>rfl
 | [],_::_=>rfl
 | _::_,[]=>rfl
 | a::x,b::y=>by
  have O:=JO x y;simp only[Op.bytesLess];by_cases e:a=b
  ·subst e;simp[O]
  ·have e':¬ b=a:=λh=>e h.symm;by_cases l:a<b
   ·have l':¬ b<a:=λh=>by rw[UInt8.lt_iff_toNat_lt] at *; omega
    simp[e,e',l,l']
   ·have l':b<a:=by
     rw[UInt8.lt_iff_toNat_lt] at *
     have:a.toNat≠b.toNat:=λh=>e (UInt8.toNat_inj.1 h)
     omega
    simp[e,e',l,l']
theorem z1bd {ρ:Operand->Value} {w:World} {x y:Operand} {T T':TypeId} {s s':ByteArray} (O:ρ x=(.string s)) (U:ρ y=(.string s')) :
  (execOp ρ ⟨some d,.binOp .gtr T x y T',ty,pos,after,g⟩).run P w=.ok (.value (.bool (!(Op.bytesLess s.toList s'.toList || s.toList==s'.toList)))) w:=(Fj (by rw[O,U]; rfl) (by rw[O,U]; rfl))
theorem z1b2 {ρ:Operand->Value} {w:World} {x y:Operand} {T T':TypeId} {s s':ByteArray} (O:ρ x=(.string s)) (U:ρ y=(.string s')) :
  (execOp ρ ⟨some d,.binOp .geq T x y T',ty,pos,after,g⟩).run P w=.ok (.value (.bool (!Op.bytesLess s.toList s'.toList))) w:=(Fj (by rw[O,U]; rfl) (by rw[O,U]; rfl))
theorem gtS {x y:Operand} {T T':TypeId} {b c:List UInt8} (U:opE l x=some (.rd BI b)) (hy:opE l y=some (.rd BI c)):Run C P Γ l res ⟨some d,.binOp .gtr T x y T',ty,pos,after,g⟩ (.rd Ac (Dp c b)):=λ_ w O=>by
 obtain⟨s,h1,rfl⟩:=EC (O.vl U);obtain⟨t,h2,rfl⟩:=EC (O.vl hy);exact⟨_, λw' _=>z1bd h1 h2, by rw[E4,E4,<- JO]; exact EB⟩
theorem geS {x y:Operand} {T T':TypeId} {b c:List UInt8} (U:opE l x=some (.rd BI b)) (hy:opE l y=some (.rd BI c)):Run C P Γ l res ⟨some d,.binOp .geq T x y T',ty,pos,after,g⟩ (.rd Ac (!Dp b c)):=λ_ w O=>by
 obtain⟨s,h1,rfl⟩:=EC (O.vl U);obtain⟨t,h2,rfl⟩:=EC (O.vl hy);exact⟨_, λw' _=>z1b2 h1 h2, by rw[E4,E4]; exact EB⟩
end
end
section
open Go Go.Shelf
def z10u:Go.Shelf.Ren:=⟨fun | 6=>147 | 15=>157 | 14=>186 | 28=>202 | 29=>45 | 20=>219 | 21=>220 | 22=>221 | 23=>222 | 24=>223 | 25=>224 | 26=>225 | 27=>226 | 46=>242 | 47=>235 | 48=>236 | 49=>243 | 50=>244 | 57=>249 | n=>n, fun | 22=>22 | 24=>73 | 25=>145 | 3=>3 | 39=>151 | 0=>0 | 53=>51 | 55=>52 | 4=>4 | 46=>256 | 45=>255 | 50=>125 | 5=>5 | 9=>9 | 66=>287 | 70=>291 | 76=>298 | 77=>299 | n=>n, fun | n=>n⟩
theorem Ti:Go.Proofs.SlLaysF0.n6 Tryz.prog z10u:={
 mixed:=by kernel_rfl
 f6:=⟨Tryz.f147.name, by decide,func147.trans (congrArg some (by kernel_rfl))⟩
 f14:=⟨Tryz.f186.name, by decide,func186.trans (congrArg some (by kernel_rfl))⟩
 f15:=func157.trans (congrArg some (by kernel_rfl))
 f20:=⟨Tryz.f219.name, by decide,func219.trans (congrArg some (by kernel_rfl))⟩
 f21:=⟨Tryz.f220.name, by decide,func220.trans (congrArg some (by kernel_rfl))⟩
 f22:=⟨Tryz.f221.name, by decide,func221.trans (congrArg some (by kernel_rfl))⟩
 f23:=⟨Tryz.f222.name, by decide,func222.trans (congrArg some (by kernel_rfl))⟩
 f24:=⟨Tryz.f223.name, by decide,func223.trans (congrArg some (by kernel_rfl))⟩
 f25:=⟨Tryz.f224.name, by decide,func224.trans (congrArg some (by kernel_rfl))⟩
 f26:=⟨Tryz.f225.name, by decide,func225.trans (congrArg some (by kernel_rfl))⟩
 f27:=⟨Tryz.f226.name, by decide,func226.trans (congrArg some (by kernel_rfl))⟩
 f28:=func202.trans (congrArg some (by kernel_rfl))
 f29:=func45.trans (congrArg some (by kernel_rfl))
 f46:=⟨Tryz.f242.name, by decide,func242.trans (congrArg some (by kernel_rfl))⟩
 f47:=func235.trans (congrArg some (by kernel_rfl))
 f48:=func236.trans (congrArg some (by kernel_rfl))
 f49:=⟨Tryz.f243.name, by decide,func243.trans (congrArg some (by kernel_rfl))⟩
 f50:=⟨Tryz.f244.name, by decide,func244.trans (congrArg some (by kernel_rfl))⟩
 f57:=⟨Tryz.f249.name, by decide,func249.trans (congrArg some (by kernel_rfl))⟩
 t0:=underlying0
 a0:=Tryz.isAgg0
 z0:=Tryz.sizeOf0
 v0:=Tryz.zeroValue0
 t3:=underlying3
 a3:=Tryz.isAgg3
 z3:=Tryz.sizeOf3
 v3:=Tryz.zeroValue3
 t4:=underlying4
 a4:=Tryz.isAgg4
 z4:=Tryz.sizeOf4
 v4:=Tryz.zeroValue4
 t5:=underlying5
 a5:=Tryz.isAgg5
 z5:=Tryz.sizeOf5
 v5:=Tryz.zeroValue5
 t9:=underlying9
 a9:=Tryz.isAgg9
 z9:=Tryz.sizeOf9
 v9:=Tryz.zeroValue9
 t22:=underlying22
 a22:=Tryz.isAgg22
 z22:=Tryz.sizeOf22
 v22:=Tryz.zeroValue22
 t25:=underlying145
 a25:=Tryz.isAgg145
 z25:=Tryz.sizeOf145
 v25:=Tryz.zeroValue145
 t39:=underlying151
 a39:=Tryz.isAgg151
 z39:=Tryz.sizeOf151
 v39:=Tryz.zeroValue151
 t45:=underlying255
 a45:=Tryz.isAgg255
 z45:=Tryz.sizeOf255
 v45:=Tryz.zeroValue255
 t46:=underlying256
 a46:=Tryz.isAgg256
 z46:=Tryz.sizeOf256
 v46:=Tryz.zeroValue256
 t50:=underlying125
 a50:=Tryz.isAgg125
 z50:=Tryz.sizeOf125
 v50:=Tryz.zeroValue125
 t53:=underlying51
 a53:=Tryz.isAgg51
 z53:=Tryz.sizeOf51
 v53:=Tryz.zeroValue51
 t55:=underlying52
 a55:=Tryz.isAgg52
 z55:=Tryz.sizeOf52
 v55:=Tryz.zeroValue52
 t66:=underlying287
 a66:=Tryz.isAgg287
 z66:=Tryz.sizeOf287
 v66:=Tryz.zeroValue287
 t70:=underlying291
 a70:=Tryz.isAgg291
 z70:=Tryz.sizeOf291
 v70:=Tryz.zeroValue291
 t76:=underlying298
 a76:=Tryz.isAgg298
 z76:=Tryz.sizeOf298
 v76:=Tryz.zeroValue298
 t77:=underlying299
 a77:=Tryz.isAgg299
 z77:=Tryz.sizeOf299
 v77:=Tryz.zeroValue299 }
end
section
open Go Go.Shelf Go.RowKit Go.Lib Go.Sort
def BL (x:V3):List Value:=x.toList.map λc=>Value.int .u8 (c.toNat:Int)
theorem JP (x:V3):(BL x).length=32:=by simp[BL]
theorem z17i (x y:V3) (b c:Nat) (W:World) (O:∀ j u,(BL x)[j]? = some u->W.cell? ⟨b,0+j,none⟩=some u) (U:∀ j u,(BL y)[j]? = some u->W.cell? ⟨c,0+j,none⟩=some u) :
  (callFunc 131 #[.slice (some ⟨b,0,none⟩) 32 32,.slice (some ⟨c,0,none⟩) 32 32]).run Tryz.prog W=.ok (.value (.int .i64 (Lib.compareBytes x.toList y.toList))) W:=by
 have lx:x.toList.length=32:=by simp
 have ly:y.toList.length=32:=by simp
 have e:=OI (P:=Tryz.prog) (w:=W) (p:=some ⟨b,0,none⟩) (q:=some ⟨c,0,none⟩) (c:=32) (d:=32) (x:=x.toList) (y:=y.toList) (xs:=BL x) (ys:=BL y)
  ⟨by rw[JP,lx],.inr ⟨b,0,none,32, by rfl, by omega, by decide,.inr rfl,O⟩⟩ rfl ⟨by rw[JP,ly],.inr ⟨c,0,none,32, by rfl, by omega, by decide,.inr rfl,U⟩⟩ rfl
 rw[lx,ly] at e;rw[run_callFunc_extern func131 rfl rfl (by kernel_rfl) (by kernel_rfl),e];rfl
set_option maxHeartbeats 1000000 in
theorem zt0 (x y:V3) (b c:Nat) (W:World) (O:∀ j u,(BL x)[j]? = some u->W.cell? ⟨b,0+j,none⟩=some u) (U:∀ j u,(BL y)[j]? = some u->W.cell? ⟨c,0+j,none⟩=some u) :
  Calls Tryz.prog 82 #[.slice (some ⟨b,0,none⟩) 32 32,.slice (some ⟨c,0,none⟩) 32 32] W λe w'=>e=.returned (.int .i64 (Lib.compareBytes x.toList y.toList))/\w'=W:=by
 have e:=z17i x y b c W O U
 go_enter func82,Tryz.ntmps82
 go_wp2
 go_ret
 exact⟨rfl,rfl⟩
theorem I6 {w:World} {b j:Nat} {c:Array Value} {T:TypeId} {fr:Nat × Nat} {u:Value} (h:w.heap[b]? = some (.cells c T fr)) (O:c[j]? = some u):w.cell? ⟨b,0+j,none⟩=some u:=by
 unfold World.cell?;rw[h]
 simpa using O
theorem z1ax (W:World) (xs ys:List Value) (n j:Nat) (u:Value) (h:xs[j]? = some u):(((W.alloc (.cells xs.toArray 71)).alloc (.cells ys.toArray 71)).drewN n).cell? ⟨W.heap.size,0+j,none⟩=some u :=
 I6 (c:=xs.toArray) (T:=71) (fr:=(0,0)) (by
  show ((W.heap.push _).push _)[W.heap.size]? = _
  rw[Array.getElem?_push_lt (by simp)]; simp) (by simpa using h)
theorem z191 (W:World) (xs ys:List Value) (n j:Nat) (u:Value) (h:ys[j]? = some u):(((W.alloc (.cells xs.toArray 71)).alloc (.cells ys.toArray 71)).drewN n).cell? ⟨W.heap.size+1,0+j,none⟩=some u :=
 I6 (c:=ys.toArray) (T:=71) (fr:=(0,0)) (by
  show ((W.heap.push _).push _)[W.heap.size+1]? = _
  have:W.heap.size+1=(W.heap.push (Obj.cells xs.toArray 71)).size:=by simp
  rw[this,Array.getElem?_push_size]) (by simpa using h)
set_option maxHeartbeats 1000000 in
theorem z112 (x y:V3) (W:World):Calls Tryz.prog 94 #[.agg (BL x).toArray,.agg (BL y).toArray] W λe w'=>e=.returned (.int .i64 (Lib.compareBytes x.toList y.toList))/\∃ q os',w'=grow (W.drewN q) os':=by
 have c0:=z1ax W (BL x) (BL y);have c1:=z191 W (BL x) (BL y)
 go_enter func94,Tryz.ntmps94
 go_wp2
 go_quiet (first | (go_at_call 82; refine Calls.quiet_of_same (zt0 x y _ _ _ (c0 _) (c1 _))))
 go_wp2
 go_ret
 exact⟨rfl,nq,#[.cells (BL x).toArray 71,.cells (BL y).toArray 71],rfl⟩
end
section
open Go Go.RowKit Go.Sort
theorem Tj {α:Type} [Inhabited α] (enc:α->List Value) (k:Nat) (O:∀ x,(enc x).length=k):∀ (l:List α) (t:Nat),t<l.length * k->(l.flatMap enc)[t]! = (enc l[t / k]!)[t % k]!
 | [],t,h=>by simp at h
 | x::l,t,h=>by
  have hx:=O x;have k0:0<k:=by
   rcases Nat.eq_zero_or_pos k with e | e
   ·subst e; simp at h
   ·exact e
  rw[List.flatMap_cons];by_cases U:t<k
  ·rw[List.getElem!_eq_getElem?_getD,List.getElem?_append_left (by omega),Nat.div_eq_of_lt U,Nat.mod_eq_of_lt U]
   simp
  ·have hl:t - k<l.length * k:=by
    simp only[List.length_cons,Nat.add_mul,Nat.one_mul] at h; omega
   have ih:=Tj enc k O l (t - k) hl;have e1:t / k=(t - k) / k+1:=by
    have h2:=Nat.add_div_right (t - k) k0;rw[Nat.sub_add_cancel (by omega)] at h2; exact h2
   have e2:t % k=(t - k) % k:=by rw[Nat.mod_eq_sub_mod (by omega)]
   rw[List.getElem!_eq_getElem?_getD,List.getElem?_append_right (by omega),hx,e1,e2,<- List.getElem!_eq_getElem?_getD,ih]
   simp
theorem JQ {α:Type} (enc:α->List Value) (k:Nat) (O:∀ x,(enc x).length=k):∀ l:List α,(l.flatMap enc).length=l.length * k
 | []=>by simp
 | x::l=>by rw[List.flatMap_cons,List.length_append,O,JQ enc k O l,List.length_cons,Nat.add_mul,Nat.one_mul,Nat.add_comm]
theorem Tk {α:Type} [Inhabited α] (enc:α->List Value) (k:Nat) (U:∀ x,(enc x).length=k) (l:List α):flatK enc k l.toArray=(l.flatMap enc).toArray:=by
 refine ext_get! (by rw[size_flatK]; simp only[List.size_toArray,JQ enc k U]) λt O=>?_;rw[size_flatK,List.size_toArray] at O;rw[get_flatK _ _ _ _ (by simpa using O)]
 have:=Tj enc k U l t O
 simp at this ⊢;rw[this]
theorem zvh {α:Type} [Inhabited α] (enc:α->List Value) (k:Nat) (U:∀ x,(enc x).length=k) {w:World} {b:Nat} {C:Array Value} {T:TypeId} (l:List α) (hb:w.heap[b]? = some (.cells C T (0,0))) (hc:C.toList.take (l.length * k)=l.flatMap enc):HoldsK enc k w b 0 l.toArray:=by
 intro j hj;rw[Tk enc k U] at hj ⊢;have O:j<(l.flatMap enc).length:=by simpa using hj
 constructor
 ·refine I6 hb ?_;have e:(C.toList.take (l.length * k))[j]? = (l.flatMap enc)[j]? := by rw[hc]
  rw[List.getElem?_take_of_lt (by rw[JQ enc k U] at O; exact O),List.getElem?_eq_getElem O] at e;rw[<- Array.getElem?_toList,e]
  have:((l.flatMap enc).toArray)[j]! = (l.flatMap enc)[j]:=by rw[getElem!_pos _ j (by simpa using O)]; simp
  rw[this]; rfl
 ·simp[World.frozen?,hb]
theorem Tl {α:Type} [Inhabited α] (enc:α->List Value) (k:Nat) (w:World) (b n:Nat) (d:Array α) (os:Array Obj) {i:Nat} (hi:i<w.heap.size) (O:i≠b):(sortWorldK enc k w b 0 n d os).heap[i]? = w.heap[i]? := by
 show (w.heap.modify b _++os)[i]? = _;rw[Array.getElem?_append_left (by simpa using hi),Array.getElem?_modify,if_neg (λe=>O e.symm)]
theorem z1a0 {α:Type} [Inhabited α] (enc:α->List Value) (k:Nat) (w:World) {b:Nat} (n:Nat) (d:Array α) (os:Array Obj) {C:Array Value} {T:TypeId} {fr:Nat × Nat} (O:w.heap[b]? = some (.cells C T fr)):(sortWorldK enc k w b 0 n d os).heap[b]? = some (.cells (putCells id 0 (flatK enc k d) C) T fr):=by
 have U:b<w.heap.size:=(Array.getElem?_eq_some_iff.1 O).1;show (w.heap.modify b _++os)[b]? = _;rw[Array.getElem?_append_left (by simpa using U),Array.getElem?_modify,if_pos rfl,O];rfl
theorem z17h {α:Type} [Inhabited α] (enc:α->List Value) (k:Nat) (O:∀ x,(enc x).length=k) (l:List α) (C:Array Value) (hC:l.length * k<=C.size):(putCells id 0 (flatK enc k l.toArray) C).toList.take (l.length * k)=l.flatMap enc:=by
 rw[Tk enc k O]
 apply List.ext_getElem?
 intro t;by_cases ht:t<l.length * k
 ·rw[List.getElem?_take_of_lt ht,Array.getElem?_toList];have U:t<(l.flatMap enc).length:=by rw[JQ enc k O]; exact ht
  simp only[putCells,Array.getElem?_mapIdx,Nat.sub_zero,Nat.zero_add,List.size_toArray,Nat.zero_le,true_and];rw[Array.getElem?_eq_getElem (by omega),Option.map_some,if_pos U,List.getElem?_eq_getElem U]
  have:((l.flatMap enc).toArray)[t]! = (l.flatMap enc)[t]:=by rw[getElem!_pos _ t (by simpa using U)]; simp
  rw[this]; rfl
 ·rw[List.getElem?_eq_none (by simp; omega),List.getElem?_eq_none (by rw[JQ enc k O]; omega)]
end
section
open Go Go.Shelf Go.RowKit Go.Sort
section
variable {α:Type} (x0:α) (cf:α->α->Int)
def ltI (l:List α) (i j:Nat):Int:=cf (l.getD i x0) (l.getD j x0)
def srtG (l:List α):List α:=(pdq (ltOf (ltI x0 cf l)) (Array.range l.length) 0 l.length (Lib.bitLen l.length) true true).toList.map λi=>l.getD i x0
theorem swoI (hO:SWO (ltOf cf)) (l:List α):SWO (ltOf (ltI x0 cf l)) where
 irrefl x:=hO.irrefl _
 trans x y z O U:=hO.trans _ _ _ O U
 ntrans x y z O U:=hO.ntrans _ _ _ O U
theorem pdqI (hO:SWO (ltOf cf)) (l:List α):∃ d:List Nat,d.Perm (List.range l.length)/\srtG x0 cf l=d.map (λi=>l.getD i x0)/\d.Pairwise λi j=>¬ cf (l.getD j x0) (l.getD i x0)<0:=by
 have h:=pdq_sorts (ltOf (ltI x0 cf l)) (swoI x0 cf hO l) (Array.range l.length) 0 l.length (Lib.bitLen l.length) true true (Nat.zero_le _) (by simp) (Or.inl rfl);have hs:(pdq (ltOf (ltI x0 cf l)) (Array.range l.length) 0 l.length (Lib.bitLen l.length) true true).size=l.length:=by rw[h.1.1]; simp
 refine⟨_,?_,rfl,?_⟩
 ·have p:=h.1.2.2;rw[Array.extract_eq_self_of_le (by omega),Array.extract_eq_self_of_le (by simp)] at p
  simpa using p
 ·rw[List.pairwise_iff_getElem];intro i j hi O U;have q:=h.2 i j (Nat.zero_le _) U (by simpa [hs] using O);rw[getElem!_pos _ i (by simpa using hi),getElem!_pos _ j (by simpa using O)] at q
  simpa [ltOf,ltI] using q
theorem Mq (hO:SWO (ltOf cf)) (l:List α):(srtG x0 cf l).Perm l:=by
 obtain⟨d,U,O,_⟩:=pdqI x0 cf hO l;rw[O];refine(U.map _).trans (List.Perm.of_eq ?_)
 apply List.ext_getElem (by simp)
 intro i U O;simp[List.getD_eq_getElem?_getD,O]
theorem Tm (hO:SWO (ltOf cf)) (l:List α):(srtG x0 cf l).Pairwise λx y=>¬ cf y x<0:=by
 obtain⟨d,_,O,U⟩:=pdqI x0 cf hO l;rw[O,List.pairwise_map];exact U
theorem Tn (hO:SWO (ltOf cf)) (l:List α):(srtG x0 cf l).length=l.length:=(Mq x0 cf hO l).length_eq
end
theorem To {α:Type} {R:Rep α} {S:Blk} {w:World}:∀ {l:List α} {cs:List Value} (i:Nat) (hi:i<l.length),B5 R S w cs l->R.rel S w ((cs.drop (i * R.sz)).take R.sz) l[i]
 | x::l,cs,0,hi,h=>by
  obtain⟨c,d,rfl,O,U⟩:=h
  have:=R.len O
  simp[<- this,O]
 | x::l,cs,i+1,hi,h=>by
  obtain⟨c,d,rfl,O,U⟩:=h;have hc:=R.len O
  have:=To i (by simpa using hi) U
  rw[show (i+1) * R.sz=c.length+i * R.sz by rw[hc,Nat.add_mul]; omega]
  simpa using this
theorem Tp (k:Nat):∀ (n:Nat) (cs:List Value),cs.length=n * k->(List.range n).flatMap (λi=>(cs.drop (i * k)).take k)=cs
 | 0,cs,h=>by simp at h; simp[h]
 | n+1,cs,h=>by
  have O:=Tp k n (cs.take (n * k)) (by rw[List.length_take,h,Nat.add_mul]; omega);rw[List.range_succ,List.flatMap_append];have e:(List.range n).flatMap (λi=>(cs.drop (i * k)).take k)=(List.range n).flatMap (λi=>((cs.take (n * k)).drop (i * k)).take k):=by
   simp only[List.flatMap_def]
   congr 1
   apply List.map_congr_left
   intro i hi;have a1:i<n:=by simpa using hi
   rw[List.drop_take,List.take_take]
   have:k<=n * k - i * k:=by
    rw[<- Nat.sub_mul];exact Nat.le_mul_of_pos_left k (by omega)
   rw[Nat.min_eq_left this]
  rw[e,O];simp only[List.flatMap_cons,List.flatMap_nil,List.append_nil];rw[List.take_of_length_le (l:=cs.drop (n * k)) (by rw[List.length_drop,h,Nat.add_mul]; omega),List.take_append_drop]
theorem Tq {α:Type} {R:Rep α} {S:Blk} {w:World} {enc:Nat->List Value} {g:Nat->α} (h:∀ i,R.rel S w (enc i) (g i)):∀ is:List Nat,B5 R S w (is.flatMap enc) (is.map g)
 | []=>rfl
 | i::is=>⟨enc i,is.flatMap enc,List.flatMap_cons,h i,Tq h is⟩
theorem Tr {α:Type} {R:Rep α} (ai:R.agg=true) (x0:α) (r0:List Value) (hz:∀ S w,R.rel S w r0 x0) (cf:α->α->Int) (hO:SWO (ltOf cf)) {P:Program} {f g T:Nat}
  (a6:∀ (cap:Nat) (w:World),Calls P f #[.slice none 0 cap,.func (.func g) #[] #[]] w λe w'=>e=.returned (.tuple #[])/\w'=w)
  (a7:∀ (enc:Nat->List Value) (hk:∀ x,(enc x).length=R.sz) (h1:∀ x,∀ v∈enc x,v.oneCell'=true) (cf':Nat->Nat->Int) (hO:SWO (ltOf cf')) (blk cap:Nat) (d:Array Nat) (w:World),
   CmpLays P g #[] enc R.sz cf' blk 0 d.size w->HoldsK enc R.sz w blk 0 d->blk<w.heap.size->d.size<4611686018427387904 ->
   Calls P f #[.slice (some ⟨blk,0,none⟩) d.size cap,.func (.func g) #[] #[]] w λe w'=>e=.returned (.tuple #[])/\∃ n os,w'=sortWorldK enc R.sz w blk 0 n (pdq (ltOf cf') d 0 d.size (Lib.bitLen d.size) true true) os)
  (ac:∀ (x y:α) (c d:List Value) (S:Blk) (w W:World),R.rel S w c x->R.rel S w d y->Calls P g #[.agg c.toArray,.agg d.toArray] W λe w'=>e=.returned (.int .i64 (cf x y))/\∃ q os',w'=grow (W.drewN q) os')
  (p0:Value) (c0:List α):Ah P f [.val p0,.val (.func (.func g) #[] #[])] [(1,some (p0,.list R T c0))] (chk (c0.length<=1000000)>>=λ_=>some (srtG x0 cf c0))
   (λr nv=>⟨[],[(1,some (p0,.list R T r))]⟩):=by
 intro r hr H vs w a1 ad;have hb:c0.length<=1000000/\r=srtG x0 cf c0:=by
  unfold chk at hr
  split at hr
  ·rename_i h; simp at hr; exact⟨h,hr.symm⟩
  ·simp at hr
 obtain⟨hlen0,rfl⟩:=hb
 match vs,a1 with
 | [v0,v1],a1 =>
 obtain⟨h0,h1,_⟩:=a1;have e0:v0=p0:=h0.1;have e1:v1=.func (.func g) #[] #[]:=h1.1;subst e0; subst e1;have hc:=ad.conts 1 v0 _ rfl;have only:∀ r v c (q:AO),lr [(1,some (v0,q))] r=some (v,c)->r=1/\v=v0/\c=q:=λr v c q h=>by
  rw[C0] at h
  split at h
  ·rename_i e; cases h; exact⟨e.symm,rfl,rfl⟩
  ·simp[lr,lk] at h
 have a2:=Tn x0 cf hO;rcases hc with ⟨rfl,rfl⟩ | ⟨b,o,k1,k2,b',cap,C,k3,rfl,k4,k5,k6,k7⟩
 ·refine(a6 0 w).mono λe w' ⟨he,hw⟩=>?_;subst hw;refine⟨λ_=>undef,[],he,trivial, λr v c h=>?_, λr v c r' v' c' h h' U=>?_, λr v c h b hb=>?_,CZ.rfl'⟩
  ·obtain⟨rfl,rfl,rfl⟩:=only _ _ _ _ h
   have:srtG x0 cf ([]:List α)=[]:=List.eq_nil_of_length_eq_zero (by rw[a2]; rfl);exact .inl ⟨rfl,this⟩
  ·exact absurd ((only _ _ _ _ h).1.trans (only _ _ _ _ h').1.symm) U
  ·obtain⟨rfl,rfl,rfl⟩:=only _ _ _ _ h; cases hb
 ·subst k3;simp only[AS,Option.some.injEq] at k1;subst k1;have ae:b'<w.heap.size:=(Array.getElem?_eq_some_iff.1 k2).1;have hC:c0.length * R.sz<=C.size:=by rw[k6]; exact Nat.mul_le_mul_right _ k4
  let cs:=C.toList.take (c0.length * R.sz)
  have aa:B5 R (Shr H [(1,some (.slice (some ⟨b',0,none⟩) c0.length cap,.list R T c0))] w) w cs c0:=k7
  let enc:Nat->List Value:=λi=>if i<c0.length then (cs.drop (i * R.sz)).take R.sz else r0
  have O:∀ i,R.rel (Shr H [(1,some (.slice (some ⟨b',0,none⟩) c0.length cap,.list R T c0))] w) w (enc i) (c0.getD i x0):=λi=>by
   by_cases hi:i<c0.length
   ·have:=To i hi aa
    simp only[enc,if_pos hi,List.getD_eq_getElem?_getD,List.getElem?_eq_getElem hi,Option.getD_some]; exact this
   ·simp only[enc,if_neg hi,List.getD_eq_getElem?_getD,List.getElem?_eq_none (Nat.le_of_not_lt hi),Option.getD_none]; exact hz _ _
  have hk:∀ i,(enc i).length=R.sz:=λi=>R.len (O i);have a8:(List.range c0.length).flatMap enc=cs:=by
   have:=Tp R.sz c0.length cs (aa.len)
   rw[<- this];simp only[List.flatMap_def]
   congr 1
   apply List.map_congr_left
   intro i hi;have af:i<c0.length:=by simpa using hi
   simp only[enc,if_pos af]
  have hH:HoldsK enc R.sz w b' 0 (Array.range c0.length):=by
   have:=zvh enc R.sz hk (List.range c0.length) k2 (by rw[List.length_range,a8])
   rwa [show (List.range c0.length).toArray=Array.range c0.length from by simp] at this
  have ab:=a7 enc hk (λi v hv=>R.one (O i) v hv) (ltI x0 cf c0) (swoI x0 cf hO c0) b' cap (Array.range c0.length) w
   (λm os dk aj x y=>ac _ _ _ _ _ w _ (O x) (O y)) hH ae (by simp; omega)
  rw[Array.size_range] at ab;refine ab.mono λe w' ⟨he,n,os,hw⟩=>?_;obtain⟨d,d1,d2,-⟩:=(⟨_,rfl,rfl,trivial⟩:∃ d:List Nat,d=(pdq (ltOf (ltI x0 cf c0)) (Array.range c0.length) 0 c0.length (Lib.bitLen c0.length) true true).toList/\srtG x0 cf c0=d.map (λi=>c0.getD i x0)/\True)
  have dl:d.length=c0.length:=by have:=a2 c0; rw[d2] at this; simpa using this
  have da:pdq (ltOf (ltI x0 cf c0)) (Array.range c0.length) 0 c0.length (Lib.bitLen c0.length) true true=d.toArray:=by rw[d1]
  rw[da] at hw;rw[d2];subst hw;have only':=only;have ah:Br (Shr H [(1,some (.slice (some ⟨b',0,none⟩) c0.length cap,.list R T c0))] w) (Shr H [(1,some (.slice (some ⟨b',0,none⟩) c0.length cap,.list R T (d.map λi=>c0.getD i x0)))] (sortWorldK enc R.sz w b' 0 n d.toArray os)) w (sortWorldK enc R.sz w b' 0 n d.toArray os):=λi hi=>by
   have U:i≠b':=λe=>hi.2.1 1 _ _ rfl (by rw[e]; rfl);refine⟨⟨?_, λr v c h=>?_,hi.2.2⟩,Tl enc R.sz w b' n _ os hi.1 U⟩
   ·show i<(w.heap.modify b' _++os).size
    have:=hi.1
    simp; omega
   ·obtain⟨rfl,rfl,rfl⟩:=only _ _ _ _ h;exact hi.2.1 1 _ _ rfl
  refine⟨λ_=>undef,[],he,trivial, λr v c h=>?_, λr v c r' v' c' h h' U=>?_, λr v c h b hb=>?_,rfl,rfl,rfl,?_, λi hi=>?_⟩
  ·obtain⟨rfl,rfl,rfl⟩:=only _ _ _ _ h;refine .inr ⟨b',_,rfl,z1a0 enc R.sz w n _ os k2,b',cap,_, by rw[List.length_map,dl],rfl, by rw[List.length_map,dl]; exact k4,k5,?_,?_⟩
   ·rw[<- k6]; simp[putCells]
   ·rw[List.length_map,z17h enc R.sz hk d C (by rw[dl]; exact hC)];exact Tq (λi=>R.mono ah (O i)) d
  ·exact absurd ((only _ _ _ _ h).1.trans (only _ _ _ _ h').1.symm) U
  ·obtain⟨rfl,rfl,rfl⟩:=only _ _ _ _ h;exact .inr ⟨1,_,_,rfl,hb⟩
  ·show w.heap.size<=(w.heap.modify b' _++os).size
   simp
  ·exact Tl enc R.sz w b' n _ os hi.1 λe=>hi.2 ⟨1,_,_,rfl, by rw[e]; rfl⟩
end
section
section
variable {σ β α ρ τ:Type}
theorem bs (x:α) (f:α->Option β):(some x >>= f)=f x:=rfl
theorem bS (x:α) (f:α->Option β):(some x >>= f)=f x:=Eq.trans (rfl:(some x >>= f)=f x) rfl
theorem or_l (r:ρ) (k:τ->Option ρ):Bc (some (.inl r)) k=some r:=rfl
theorem DL (t:τ) (k:τ->Option ρ):Bc (some (.inr t)) k=k t:=rfl
theorem B2 {F:σ->Option (Sum β σ)} {s:σ} {b:β} (h:F s=some (.inl b)):iter F s=some b:=by rw[iter,h]; rfl
theorem Bl {F:σ->Option (Sum β σ)} {s s':σ} (h:F s=some (.inr s')):iter F s=iter F s':=by rw[iter,h]; rfl
theorem FS {F:σ->Option (Sum β σ)} (I:σ->Prop) (μ:σ->Nat) (Q:β->Prop) (h:∀ s,I s->(∃ b,F s=some (.inl b)/\Q b)\/∃ s',F s=some (.inr s')/\I s'/\μ s'<μ s) (s:σ) (O:I s):∃ b,iter F s=some b/\Q b:=by
 have key:∀ n s,μ s=n->I s->∃ b,iter F s=some b/\Q b:=by
  intro n
  induction n using Nat.strongRecOn with
  | _ n ih =>
   intro s hn O;rcases h s O with ⟨b,U,h2⟩ | ⟨s',U,h2,h3⟩
   ·exact⟨b,B2 U,h2⟩
   ·rw[Bl U]; exact ih (μ s') (hn ▸ h3) s' rfl h2
 exact key _ s rfl O
theorem D9 {F:σ->Option (Sum β σ)} (n:Nat) (I:Nat->σ->Prop) (Q:β->Prop) (h1:∀ i s,i<n->I i s->∃ s',F s=some (.inr s')/\I (i+1) s') (h2:∀ s,I n s->∃ b,F s=some (.inl b)/\Q b) (s:σ) (i:Nat) (hi:i<=n) (O:I i s):∃ b,iter F s=some b/\Q b:=by
 have key:∀ k i s,n - i=k->i<=n->I i s->∃ b,iter F s=some b/\Q b:=by
  intro k
  induction k with
  | zero =>
   intro i s hk hi O
   have:i=n:=by omega
   subst this;obtain⟨b,U,h4⟩:=h2 s O;exact⟨b,B2 U,h4⟩
  | succ k ih =>
   intro i s hk hi O;obtain⟨s',U,h4⟩:=h1 i s (by omega) O;rw[Bl U]; exact ih (i+1) s' (by omega) (by omega) h4
 exact key _ i s rfl hi O
theorem Ck {F:σ->Option (Sum β σ)} (n:Nat) (g:Nat->σ) {b:β} (U:∀ i,i<n->F (g i)=some (.inr (g (i+1)))) (h2:F (g n)=some (.inl b)):iter F (g 0)=some b:=by
 obtain⟨b',h3,rfl⟩:=D9 n (λi s=>s=g i) (λx=>x=b) (λi s hi O=>⟨_, by rw[O]; exact U i hi,rfl⟩) (λs O=>⟨_, by rw[O]; exact h2,rfl⟩) (g 0) 0 (Nat.zero_le _) rfl;exact h3
theorem z17t {σ τ β γ:Type} {F:σ->Option (Sum β σ)} {G:τ->Option (Sum γ τ)} (f:σ->τ) (g:β->γ) (h:∀ s x,F s=some x->G (f s)=some (x.map g f)) (s:σ) (b:β) (U:iter F s=some b):iter G (f s)=some (g b):=by
 refine iter.partial_correctness F (λs b=>iter G (f s)=some (g b)) ?_ s b U;intro it ih s b O
 cases hF:F s with
 | none=>rw[hF] at O; cases O
 | some x =>
  have hG:=h s x hF;rw[hF] at O
  cases x with
  | inl b'=>cases O; exact B2 hG
  | inr s'=>rw[Bl hG]; exact ih s' b O
theorem Ax {l:List α} {i:Nat} (h:i<l.length):idx l (i:Int)=some l[i]:=by simp[idx,h]
theorem z19v {l:List α} {i:Int} (O:0<=i) (h:i.toNat<l.length):idx l i=some l[i.toNat]:=by simp[idx,O,h]
theorem DC {n:Nat} {v:Vector α n} {i:Nat} (h:i<n):B8 v (i:Int)=some v[i]:=by unfold B8; rw[Ax (by simpa using h)]; simp
theorem JR {n:Nat} {v:Vector α n} {i:Int} {x:α} {j:Nat} (O:j<n):(CB v i x)[j]=if i.toNat=j then x else v[j]:=by
 unfold CB; rw[Vector.getElem_setIfInBounds O]
theorem CJ {p:Prop} [Decidable p] (h:p):chk p=some ():=by simp[chk,h]
theorem B1 {by_:Nat} {b c:List α} (h:(b.length+c.length) * by_<=140737488355328):app by_ b c=some (b++c):=by simp[app,h]
theorem FT {by_:Nat} {x:α} {n:Nat} (h:by_ * n<=281474976710656) (h2:n<=9223372036854775807):mkn by_ x (n:Int)=some (List.replicate n x):=by
 unfold mkn; rw[if_pos ⟨by omega, by simpa using h, by omega⟩]; simp
theorem Hn {b:List α} {i j:Nat} (h:i<=j) (hj:j<=b.length):cut b (i:Int) (j:Int)=some ((b.drop i).take (j - i)):=by
 unfold cut; rw[if_pos ⟨by omega, by omega, by omega⟩]; simp
end
theorem B6 {x:Int} (O:-9223372036854775808<=x) (U:x<=9223372036854775807):w64 x=x:=IN O U
theorem AL {n:Nat} (h:n<9223372036854775807):w64 ((n:Int)+1)=((n+1:Nat):Int):=by rw[B6 (by omega) (by omega)]; omega
theorem JS (a:UInt64) (n:Nat):(Ce a n).toNat=a.toNat / 2 ^ (min n 64):=by
 unfold Ce;have h1:=UInt64.toNat_lt a;have h2:a.toNat / 2 ^ (min n 64)<=a.toNat:=Nat.div_le_self _ _
 simp; omega
theorem Ts (a:UInt64) (n:Nat):(FI a n).toNat=a.toNat * 2 ^ (min n 64) % 18446744073709551616:=by
 unfold FI; simp
theorem z1e8 (a:UInt64) (k:Nat) (hk:k<64):((Ce a k &&& 1)==1)=a.toNat.testBit k:=by
 rw[Bool.eq_iff_iff,beq_iff_eq,<- UInt64.toNat_inj,UInt64.toNat_and,JS,Nat.min_eq_left (by omega)]
 have:(1:UInt64).toNat=1:=rfl
 rw[this,Nat.and_one_is_mod,Nat.testBit_eq_decide_div_mod_eq]
 simp
end
section
def bitLen (n:Nat):Nat:=if n=0 then 0 else n.log2+1
theorem Mr (n k:Nat) (h:2 ^ k<=n):bitLen n=k+bitLen (n / 2 ^ k):=by
 have O:0<2 ^ k:=Nat.pow_pos (by decide);have U:n / 2 ^ k≠0:=by
  have:1<=n / 2 ^ k:=(Nat.le_div_iff_mul_le O).2 (by rw[Nat.one_mul]; exact h);omega
 have h2:n≠0:=by omega
 unfold bitLen;rw[if_neg U,if_neg h2];have h3:n.log2=k+(n / 2 ^ k).log2:=by
  rw[Nat.log2_eq_iff h2];have h4:=(Nat.log2_eq_iff U).1 rfl;refine⟨?_,?_⟩
  ·rw[Nat.pow_add,Nat.mul_comm]; exact(Nat.le_div_iff_mul_le O).1 h4.1
  ·rw[Nat.add_assoc,Nat.pow_add,Nat.mul_comm]; exact(Nat.div_lt_iff_lt_mul O).1 h4.2
 omega
theorem Ms (n k:Nat) (h:n<2 ^ k):bitLen n<=k:=by
 unfold bitLen; split
 ·omega
 ·rename_i O; have:=(Nat.log2_lt O).2 h; omega
def Tt:ByteArray:=⟨#[0,1,2,2,3,3,3,3,4,4,4,4,4,4,4,4,5,5,5,5,5,5,5,5,5,5,5,5,5,5,5,5,6,6,6,6,6,6,6,6,6,6,6,6,6,6,6,6,6,6,6,6,6,6,6,6,6,6,6,6,6,6,6,6,7,7,7,7,7,7,7,7,7,7,7,7,7,7,7,7,7,7,7,7,7,7,7,7,7,7,7,7,7,7,7,7,7,7,7,7,7,7,7,7,7,7,7,7,7,7,7,7,7,7,7,7,7,7,7,7,7,7,7,7,7,7,7,7,8,8,8,8,8,8,8,8,8,8,8,8,8,8,8,8,8,8,8,8,8,8,8,8,8,8,8,8,8,8,8,8,8,8,8,8,8,8,8,8,8,8,8,8,8,8,8,8,8,8,8,8,8,8,8,8,8,8,8,8,8,8,8,8,8,8,8,8,8,8,8,8,8,8,8,8,8,8,8,8,8,8,8,8,8,8,8,8,8,8,8,8,8,8,8,8,8,8,8,8,8,8,8,8,8,8,8,8,8,8,8,8,8,8,8,8,8,8,8,8,8,8,8,8,8,8,8,8]⟩
theorem z16q:∀ x:Fin 256,Tt.data[x.val]? = some (UInt8.ofNat (bitLen x.val)):=by decide +kernel
def C8 (n:Nat):List UInt8:=if h:n=0 then [] else UInt8.ofNat n::C8 (n / 256)
termination_by n
theorem Pt:C8 0=[]:=by rw[C8]; simp
theorem Pu (n:Nat) (h:n≠0):C8 n=UInt8.ofNat n::C8 (n / 256):=by rw[C8]; simp[h]
def BC (n:Nat):List UInt8:=if n<=247 then [UInt8.ofNat n] else UInt8.ofNat (247+(C8 n).length)::(C8 n).reverse
theorem Tu (n:Nat):(C8 n).length=(bitLen n+7) / 8:=by
 induction n using Nat.strongRecOn with
 | _ n ih =>
  by_cases h:n=0
  ·subst h; rw[Pt]; simp[bitLen]
  ·rw[Pu n h,List.length_cons,ih (n / 256) (by omega)];by_cases h2:n<256
   ·have:n / 256=0:=by omega
    rw[this];have O:bitLen n<=8:=Ms n 8 h2;have U:1<=bitLen n:=by unfold bitLen; rw[if_neg h]; omega
    simp[bitLen] at O U ⊢;rw[if_neg h] at O U ⊢; omega
   ·have:=Mr n 8 (by omega)
    rw[show (2:Nat) ^ 8=256 from rfl] at this;omega
theorem z109 (n:Nat):∀ (i:Nat),i<(C8 n).length->(C8 n)[i]? = some (UInt8.ofNat (n / 256 ^ i)):=by
 induction n using Nat.strongRecOn with
 | _ n O =>
  intro i hi;by_cases h:n=0
  ·subst h; rw[Pt] at hi; simp at hi
  ·rw[Pu n h] at hi ⊢
   cases i with
   | zero=>simp
   | succ i =>
    simp only[List.length_cons] at hi;rw[List.getElem?_cons_succ,O (n / 256) (by omega) i (by omega),Nat.div_div_eq_div_mul]
    congr 3
    rw[Nat.pow_succ,Nat.mul_comm]
theorem Pv (n:Nat) (h:n<18446744073709551616):(C8 n).length<=8:=by
 rw[Tu]; have:=Ms n 64 (by simpa using h); omega
theorem Bu (n:Nat) (h:n<18446744073709551616):1<=(BC n).length/\(BC n).length<=9:=by
 unfold BC; have:=Pv n h; split <;> simp <;> omega
def EY (n i:Nat):List UInt8:=UInt8.ofNat (247+(C8 n).length)::(List.replicate ((C8 n).length - i) 0++((C8 n).take i).reverse)
theorem zya (n i:Nat) (h:i<=(C8 n).length):(EY n i).length=(C8 n).length+1:=by simp[EY]; omega
theorem zup (n:Nat):(List.replicate ((C8 n).length+1) (0:UInt8)).set 0 (UInt8.ofNat (247+(C8 n).length))=EY n 0:=by
 simp[EY,List.replicate_succ]
theorem zwx (n i:Nat) (h:i<(C8 n).length):(EY n i).set ((C8 n).length - i) (UInt8.ofNat (n / 2 ^ (8 * i)))=EY n (i+1):=by
 have O:=z109 n i h;have he:n / 2 ^ (8 * i)=n / 256 ^ i:=by rw[Nat.pow_mul]
 rw[he];unfold EY;obtain⟨m,hm⟩:∃ m,(C8 n).length - i=m+1:=⟨(C8 n).length - i - 1, by omega⟩
 have U:(C8 n).length - (i+1)=m:=by omega
 rw[hm,U,List.set_cons_succ,List.take_succ_eq_append_getElem h,List.reverse_append,List.reverse_singleton,List.replicate_succ'];rw[List.getElem?_eq_getElem h,Option.some.injEq] at O;rw[O,List.append_assoc,List.set_append_right _ _ (by simp)]
 simp
theorem zvn (n:Nat) (h:247<n):EY n (C8 n).length=BC n:=by
 unfold EY BC; rw[if_neg (by omega)]; simp
theorem zww (n m:Nat) (ds:List UInt8) (O:m≠0) (h:C8 n=ds++C8 m):C8 n=(ds++[UInt8.ofNat (m % 256)])++C8 (m / 256):=by
 rw[h,Pu m O,List.append_assoc]
 have:UInt8.ofNat (m % 256)=UInt8.ofNat m:=by
  apply UInt8.toNat_inj.1; simp
 rw[this]; rfl
theorem zrx {α} {l a b:List α} (h:l=a++b):a.length<=l.length:=by rw[h]; simp
def Eg (n:Int):Nat:=if 0<=n then (2 * n).toNat else (-2 * n - 1).toNat
theorem z1cr {n:Int} (h1:-9223372036854775808<=n) (h2:n<=9223372036854775807):Eg n<18446744073709551616:=by unfold Eg; split <;> omega
end
section
def Tv (x:AT):Prop:=(λs:List UInt8=>s.length<=9223372036854775807) x.Key/\(λv:V3=>∀ x∈v.toList,(λ_=>True) x) x.ID/\True
def Tw (x:Bb):Prop:=(λl:List AT=>(∀ x∈l,Tv x)/\l.length<=9223372036854775807) x.List/\True
def JT (x:Ay):Prop:=(λ_=>True) x.Kind/\inI x.Num/\(λ_=>True) x.Bits/\(λs:List UInt8=>s.length<=9223372036854775807) x.Text/\True
def Tx (x:AP):Prop:=(λs:List UInt8=>s.length<=9223372036854775807) x.Key/\JT x.Value/\(λ_=>True) x.Stamp/\(λv:V3=>∀ x∈v.toList,(λ_=>True) x) x.ID/\True
def Tz (x:Bd):Prop:=(λl:List AP=>(∀ x∈l,Tx x)/\l.length<=9223372036854775807) x.List/\True
def JU (x:Bt):Prop:=inI x.Version/\Tw x.Set/\Tz x.Regs/\(λl:List V3=>(∀ x∈l,(λv:V3=>∀ x∈v.toList,(λ_=>True) x) x)/\l.length<=9223372036854775807) x.Heads/\True
def Pw (x:AX):Prop:=(λ_=>True) x.Kind/\(λs:List UInt8=>s.length<=9223372036854775807) x.Key/\JT x.Value/\True
def Px (x:AQ):Prop:=(λ_=>True) x.E/\(λ_=>True) x.S/\True
def Mt (x:Ab):Prop:=(λ_=>True) x.Author/\(λl:List V3=>(∀ x∈l,(λv:V3=>∀ x∈v.toList,(λ_=>True) x) x)/\l.length<=9223372036854775807) x.Preds/\(λ_=>True) x.Stamp/\Pw x.Act/\Px x.Sig/\True
def EL (x:Ao):Prop:=(λl:List V3=>(∀ x∈l,(λv:V3=>∀ x∈v.toList,(λ_=>True) x) x)/\l.length<=9223372036854775807) x.IDs/\(λl:List Ab=>(∀ x∈l,Mt x)/\l.length<=9223372036854775807) x.Ops/\True
end
section
theorem z177 {n k:Nat} (hn:n<9223372036854775808) (hk:k<9223372036854775808):andI (n:Int) (k:Int)=((n &&& k:Nat):Int):=by
 show IntKind.i64.wrap (BitVec.toNat (BitVec.ofInt 64 (n:Int) &&& BitVec.ofInt 64 (k:Int)):Int)=_;rw[BitVec.ofInt_natCast,BitVec.ofInt_natCast,BitVec.toNat_and,BitVec.toNat_ofNat,BitVec.toNat_ofNat,Nat.mod_eq_of_lt (by omega),Nat.mod_eq_of_lt (by omega)]
 have:=Nat.and_le_left (n:=n) (m:=k)
 exact IN (by omega) (by omega)
def okb (c:UInt8):Bool:=decide (32<=c.toNat)&&decide (c.toNat<=126)
theorem Mu {b:List UInt8} {q:Nat} (h:q<b.length) (O:(b[q]).toNat<128):Dl b q=((b[q]).toNat,1):=by
 unfold Dl;exact decode_ascii ⟨b.toArray⟩ q (by show q<b.toArray.size; simpa using h) O
theorem TA {b:List UInt8} {q:Nat} (h:q<b.length) (ha:128<=(b[q]).toNat):128<=(Dl b q).1:=by
 unfold Dl;have e:((ByteArray.mk b.toArray).get! (q+0)).toNat=(b[q]).toNat:=by
  show ((ByteArray.mk b.toArray).get! q).toNat=_;simp[ByteArray.get!,h]
 simp only[Utf8.decode,e];rw[if_neg (by omega)]
 repeat' split
 all_goals (first | (simp only[Utf8.runeError]; omega) | (rename_i O; simp at O; omega) | omega)
theorem z175 (x:Int):LK x=some (decide (x<32) || decide (126<x)):=by
 unfold LK
 cases decide (x<32) <;> rfl
theorem TB (b:List UInt8):∀ (rest pre:List UInt8),b=pre++rest ->
  (rest.all okb=true->iter (HS b true) pre.length=some (.inr ()))/\(rest.all okb=false->∃ i:Nat,iter (HS b true) pre.length=some (.inl (i:Int)))
 | [],pre,e=>by
  refine⟨λ_=>B2 ?_, λh=>by simp at h⟩;subst e;unfold HS
  simp
 | c::rest,pre,e=>by
  have O:pre.length<b.length:=by rw[e]; simp
  have U:b[pre.length]'O=c:=by subst e; simp
  have hF:HS b true pre.length=if ((decide (((Dl b pre.length).1:Int)<32) || decide (126<((Dl b pre.length).1:Int)))==true) then some (.inl (.inl (pre.length:Int))) else some (.inr (pre.length+(Dl b pre.length).2)):=by
   unfold HS;rw[if_pos O];simp only[bs,z175]
  cases hc:okb c with
  | false =>
   refine⟨λh=>by simp[hc] at h, λ_=>⟨pre.length,B2 ?_⟩⟩;rw[hF,if_pos];by_cases h8:c.toNat<128
   ·rw[Mu O (by rw[U]; exact h8),U];simp only[okb,Bool.and_eq_false_iff,decide_eq_false_iff_not] at hc
    simp; omega
   ·have:=TA O (by rw[U]; omega)
    simp; omega
  | true =>
   simp only[okb,Bool.and_eq_true,decide_eq_true_eq] at hc;rw[Mu O (by rw[U]; omega),U,if_neg (by simp; omega)] at hF;have ih:=TB b rest (pre++[c]) (by simp[e]);simp only[List.length_append,List.length_cons,List.length_nil,Nat.zero_add] at ih;rw[Bl hF];have a1:okb c=true:=by simp[okb,hc]
   simpa [a1] using ih
theorem TC (b:List UInt8) (hb:b.length<=9223372036854775807):∀ (rest pre:List UInt8),b=pre++rest->iter (JE b) (pre.length:Int)=some (if rest.all okb then .inr () else .inl false)
 | [],pre,e=>by
  refine B2 ?_;subst e;unfold JE
  simp
 | c::rest,pre,e=>by
  have O:pre.length<b.length:=by rw[e]; simp
  have a1:b[pre.length]'O=c:=by subst e; simp
  have hF:JE b (pre.length:Int)=if okb c then some (.inr ((pre.length+1:Nat):Int)) else some (.inl (.inl false)):=by
   unfold JE;rw[if_pos (by simp <;> omega)]
   simp only[Ax O,a1,bs,AL (show pre.length<9223372036854775807 by omega)];simp only[okb,UInt8.lt_iff_toNat_lt,UInt8.reduceToNat];by_cases h1:c.toNat<32
   ·have:¬ 32<=c.toNat:=by omega
    simp[h1,this]
   ·by_cases h2:126<c.toNat
    ·have:¬ c.toNat<=126:=by omega
     simp[h1,h2,this]
    ·have h3:32<=c.toNat:=by omega
     have h4:c.toNat<=126:=by omega
     simp[h1,h2,h3,h4]
  cases U:okb c with
  | false=>rw[U] at hF; rw[B2 hF]; simp[U]
  | true =>
   rw[U] at hF;rw[Bl hF];have ih:=TC b hb rest (pre++[c]) (by simp[e]);simp only[List.length_append,List.length_cons,List.length_nil,Nat.zero_add] at ih;rw[ih]; simp[U]
theorem zuz (b:List UInt8) (O:b.length<=9223372036854775807):Mf b=some (b.all okb):=by
 have h:=TC b O b [] rfl;unfold Mf;rw[show (0:Int)=(([]:List UInt8).length:Int) from rfl,h]
 cases b.all okb <;> rfl
theorem z17c (b:List UInt8) (hb:b.length<=9223372036854775807):LL b=some (if decide (30<(b.length:Int)) then (⟨0,0,0,[]⟩,4) else if b.all okb then (⟨3,0,0,b⟩,0) else (⟨0,0,0,[]⟩,8)):=by
 unfold LL P4 P3
 cases decide (30<(b.length:Int))
 ·simp only[Bool.false_eq_true,if_false];obtain⟨O,U⟩:=TB b b [] rfl;simp only[List.length_nil] at O U
  cases h:b.all okb
  ·obtain⟨i,hi⟩:=U h;rw[hi];simp only[or_l,bs];rw[if_pos (by simp)]; rfl
  ·rw[O h]; rfl
 ·rfl
theorem z17q (a:UInt64):LG a=some (((a.toNat / 4503599627370496 % 2048:Nat):Int),a % 4503599627370496):=by
 unfold LG;simp only[bs];have h0:=UInt64.toNat_lt a;rw[JS];have O:(2:Nat) ^ (min 52 64)=4503599627370496:=by decide
 rw[O,B6 (by omega) (by omega), show (2047:Int)=((2047:Nat):Int) from rfl,z177 (by omega) (by omega)]
 congr 2
 ·congr 1
  exact Nat.and_two_pow_sub_one_eq_mod _ 11
 ·apply UInt64.toNat_inj.1
  rw[UInt64.toNat_and,UInt64.toNat_mod];exact Nat.and_two_pow_sub_one_eq_mod _ 52
theorem z1dc (a:UInt64):Mc a=some ((a.toNat / 4503599627370496 % 2048:Nat):Int):=by
 unfold Mc;have h0:=UInt64.toNat_lt a;simp only[bs,UInt64.toNat_div,UInt64.toNat_mod,UInt64.reduceToNat];rw[B6 (by omega) (by omega)]
 congr 2
 omega
def Ex (a:UInt64):Nat:=a.toNat / 4503599627370496 % 2048
def mant (a:UInt64):Nat:=a.toNat % 4503599627370496
theorem z19h (a:UInt64):Ex a<2048:=Nat.mod_lt _ (by omega)
def clsF (a:UInt64):UInt8:=if Ex a=2047 then (if mant a=0 then 4 else 5) else if Ex a=0 then (if mant a=0 then 1 else 2) else 3
theorem TD (a:UInt64):(a % 4503599627370496==0)=decide (mant a=0):=by
 rw[Bool.eq_iff_iff];simp only[beq_iff_eq,decide_eq_true_eq,<- UInt64.toNat_inj,UInt64.toNat_mod];rfl
theorem z11c (a:UInt64):LH a=some (clsF a):=by
 unfold LH clsF;rw[z17q];simp only[bs];have hm:=TD a;have U:(a % 4503599627370496 != 0)=!decide (mant a=0):=by rw[<- hm]; rfl
 have he:((a.toNat / 4503599627370496 % 2048:Nat):Int)=(Ex a:Int):=rfl;rw[U,he];by_cases h1:Ex a=2047
 ·rw[h1];by_cases O:mant a=0
  ·rw[decide_eq_true O,if_pos O]; rfl
  ·rw[decide_eq_false O,if_neg O]; rfl
 ·have e1:((Ex a:Int)==2047)=false:=by simp; omega
  rw[if_neg h1,e1];simp only[Bool.false_eq_true,if_false,bs];by_cases h0:Ex a=0
  ·rw[h0];by_cases O:mant a=0
   ·rw[decide_eq_true O,if_pos O]; rfl
   ·rw[decide_eq_false O,if_neg O]; rfl
  ·have e0:((Ex a:Int) != 0)=true:=by simp; omega
   rw[e0,if_neg h0]; rfl
theorem z159 (a:UInt64):Md a=some (clsF a):=by
 unfold Md Pk clsF;rw[z1dc];simp only[bs];rw[TD a];have hx:=z19h a;show Bc (if ((Ex a:Int)==0)=true then if decide (mant a=0)=true then some (.inl 1) else some (.inr ()) else some (.inr ())) (λs5=>if ((Ex a:Int)==0)=true then some 2 else if decide ((Ex a:Int)<2047)=true then some 3 else if decide (mant a=0)=true then some 4 else some 5)=_;by_cases U:Ex a=2047
 ·rw[U];by_cases O:mant a=0 <;> simp[O,DL,or_l]
 ·by_cases h0:Ex a=0
  ·rw[h0];by_cases O:mant a=0 <;> simp[O,DL,or_l]
  ·have e0:((Ex a:Int)==0)=false:=by simp; omega
   have e2:decide ((Ex a:Int)<2047)=true:=by simp; omega
   rw[e0,e2,if_neg U,if_neg h0]; rfl
def FU (a:UInt64):UInt64:=if clsF a=5 then 9221120237041090560 else a
theorem z11q (a:UInt64):LI a=some (FU a):=by
 unfold LI FU;rw[z11c];simp only[bs];by_cases h:clsF a=5 <;> simp[h]
theorem z14p (a:UInt64):Me a=some (FU a):=by
 unfold Me FU;rw[z159];simp only[bs];by_cases h:clsF a=5 <;> simp[h]
theorem z139 (a:UInt64):LJ a=some ⟨2,0,FU a,[]⟩:=by
 unfold LJ; rw[z11q]; rfl
def okV (v:Ay):Bool :=
 if v.Kind=1 then decide (v.Bits=0)&&decide (v.Text=[])
 else if v.Kind=2 then decide (v.Num=0)&&decide (v.Text=[])&&decide (FU v.Bits=v.Bits)
 else if v.Kind=3 then decide (v.Num=0)&&decide (v.Bits=0)&&decide (v.Text.length<=30)&&v.Text.all okb
 else false
theorem TE (v:Ay) (hb:v.Text.length<=9223372036854775807):JF v=some (if okV v then 0 else 8):=by
 obtain⟨K,n,f,t⟩:=v;unfold JF okV;simp only at hb ⊢;rw[z14p,zuz t hb];by_cases h1:K=1
 ·subst h1;by_cases O:f=0 <;> by_cases ht:t=[] <;> simp[O,ht]
 by_cases h2:K=2
 ·subst h2;by_cases U:n=0 <;> by_cases ht:t=[] <;> by_cases hc:FU f=f <;> simp[U,ht,hc,bs]
 by_cases h3:K=3
 ·subst h3;by_cases hl:t.length<=30
  ·have a1:(t.length:Int)<=30:=by omega
   by_cases U:n=0 <;> by_cases O:f=0 <;> cases t.all okb <;> simp[U,O,hl,a1,bs]
  ·have a1:¬ (t.length:Int)<=30:=by omega
   by_cases U:n=0 <;> by_cases O:f=0 <;> simp[U,O,hl,a1,bs]
 ·simp[h1,h2,h3]
theorem Mv (v:Ay) (hb:v.Text.length<=9223372036854775807):HT v=some (if okV v then 0 else 8):=by
 obtain⟨K,n,f,t⟩:=v;unfold HT P2 okV;simp only at hb ⊢;rw[z139,z17c t hb];by_cases h1:K=1
 ·subst h1;by_cases hf:f=0 <;> by_cases O:t=[] <;> simp[hf,O,bs]
 by_cases h2:K=2
 ·subst h2;by_cases hc:FU f=f
  ·by_cases U:n=0 <;> by_cases O:t=[] <;> simp[U,O,hc,bs]
  ·have a1:¬ f=FU f:=λe=>hc e.symm;by_cases U:n=0 <;> by_cases O:t=[] <;> simp[U,O,hc,a1,bs]
 by_cases h3:K=3
 ·subst h3;by_cases hl:30<(t.length:Int)
  ·have h4:¬ t.length<=30:=by omega
   rw[decide_eq_true hl,decide_eq_false h4];simp[bs]
  ·have h4:t.length<=30:=by omega
   rw[decide_eq_false hl,decide_eq_true h4]
   cases t.all okb <;> by_cases U:n=0 <;> by_cases hf:f=0 <;> simp[U,hf,bs]
 ·have e1:(K==1)=false:=by simpa using h1
  have e2:(K==2)=false:=by simpa using h2
  have e3:(K==3)=false:=by simpa using h3
  simp only[e1,e2,e3,Bool.false_eq_true,if_false,bs,h1,h2,h3];by_cases h0:K=0
  ·subst h0
   split <;> rfl
  ·simp[h0]
end
section
theorem z12c:∀ (n:Nat) (a:UInt64) (ds:List UInt8) (N:Nat),a.toNat=n->C8 N=ds++C8 n->(C8 N).length<=8->iter Jh (a,ds)=some (C8 N):=by
 intro n
 induction n using Nat.strongRecOn with
 | _ n ih =>
  intro a ds N O hd U;by_cases h0:n=0
  ·subst h0;refine B2 ?_;unfold Jh;rw[if_neg (by simp[UInt64.lt_iff_toNat_lt,O])];rw[Pt,List.append_nil] at hd;rw[hd]
  ·have hF:Jh (a,ds)=some (.inr (a / 256,ds++[(a % 256).toUInt8])):=by
    unfold Jh;rw[if_pos (by simp[UInt64.lt_iff_toNat_lt,O]; omega)]
    have:ds.length<=8:=Nat.le_trans (zrx hd) U
    simp only[B1 (show (ds.length+[(a % 256).toUInt8].length) * 1<=140737488355328 by simp; omega),bs]
   rw[Bl hF];have a1:=zww N n ds h0 hd;refine ih (n / 256) (Nat.div_lt_self (by omega) (by omega)) _ _ N ?_ ?_ U
   ·simp[O]
   ·rw[a1]
    congr 2
    congr 1
    apply UInt8.toNat_inj.1
    simp[O]
theorem TF (s:List UInt8) (U:s.length<=8):∀ (i:Nat) (acc:List UInt8),i<=s.length->acc.length+i<=100->iter (Ji s) (acc,(i:Int) - 1)=some (acc++(s.take i).reverse)
 | 0,acc,_,_=>by
  refine B2 ?_;unfold Ji;rw[if_neg (by simp)]; simp
 | i+1,acc,hi,ha=>by
  have O:i<s.length:=by omega
  have e:((i+1:Nat):Int) - 1=(i:Int):=by omega
  have hF:Ji s (acc,((i+1:Nat):Int) - 1)=some (.inr (acc++[s[i]],(i:Int) - 1)):=by
   unfold Ji;rw[e,if_pos (by simp)];simp only[Ax O,bs];rw[B1 (by simp; omega)];simp only[bs,B6 (show -9223372036854775808<=(i:Int) - 1 by omega) (by omega)]
  rw[Bl hF,TF s U i _ (by omega) (by simp; omega)]
  have:List.take (i+1) s=List.take i s++[s[i]]:=by rw[List.take_add_one,List.getElem?_eq_getElem O]; rfl
  rw[this]; simp only[List.reverse_append,List.reverse_cons,List.reverse_nil,List.nil_append,List.append_assoc]
theorem Ey (a:UInt64):DV a=some (BC a.toNat):=by
 unfold DV BC;have O:=UInt64.toNat_lt a;by_cases h:a.toNat<=247
 ·have h':decide (a<=247)=true:=by simpa [UInt64.le_iff_toNat_le] using h
  rw[if_pos h',if_pos h]
  congr 2
 ·have h':¬ decide (a<=247)=true:=by simpa [UInt64.le_iff_toNat_le] using h
  rw[if_neg h',if_neg h];have hd:=Pv a.toNat O;rw[z12c a.toNat a [] a.toNat rfl rfl hd];simp only[bs];rw[B6 (show -9223372036854775808<=((C8 a.toNat).length:Int) - 1 by omega) (by omega),B6 (show -9223372036854775808<=247+((C8 a.toNat).length:Int) by omega) (by omega)];rw[TF _ hd _ _ (Nat.le_refl _) (by simp; omega)];simp only[bs,List.take_length];rw[show (247+((C8 a.toNat).length:Int))=((247+(C8 a.toNat).length:Nat):Int) by omega]
  congr 1
  show _::_=_
  congr 1
  apply UInt8.toNat_inj.1
  simp[UInt8.ofInt];omega
theorem z10m (a:UInt64) (k:Nat) (hk:k=(C8 a.toNat).length) (a1:k<=8):iter (LP a (k:Int)) (EY a.toNat 0,0)=some (EY a.toNat k):=by
 refine Ck k (λi=>(EY a.toNat i,(i:Int))) (λi hi=>?_) ?_
 ·have hf:=zya a.toNat i (by omega);unfold LP;rw[if_pos (by simp; omega)];simp only[B6 (show -9223372036854775808<=8 * (i:Int) by omega) (by omega),CJ (show (0:Int)<=8 * (i:Int) by omega),bs,B6 (show -9223372036854775808<=(k:Int) - (i:Int) by omega) (by omega),AL (show i<9223372036854775807 by omega)];rw[z19v (by omega) (by omega)];simp only[bs]
  have:=zwx a.toNat i (by omega)
  rw[<- this];have O:((k:Int) - (i:Int)).toNat=(C8 a.toNat).length - i:=by omega
  have U:(Ce a (8 * (i:Int)).toNat).toUInt8=UInt8.ofNat (a.toNat / 2 ^ (8 * i)):=by
   apply UInt8.toNat_inj.1
   have e3:(8 * (i:Int)).toNat=8 * i:=by omega
   rw[e3];simp only[UInt64.toNat_toUInt8,JS,Nat.min_eq_left (show 8 * i<=64 by omega)]
   simp
  rw[O,U]
 ·unfold LP;rw[if_neg (by simp)]
theorem I7 (a:UInt64) (k:Nat) (hk:k<64):(Ce a k).toNat=a.toNat / 2 ^ k:=by rw[JS,Nat.min_eq_left (by omega)]
theorem z160 (a:UInt64):LO a=some (bitLen a.toNat:Int):=by
 unfold LO;have h0:=UInt64.toNat_lt a;have s1:∃ (y:UInt64) (n:Nat),(if decide (4294967296<=a) then some (Ce a 32,(32:Int)) else some (a,0))=some (y,(n:Int))/\y.toNat<2 ^ 32/\n<=32/\bitLen a.toNat=n+bitLen y.toNat:=by
  by_cases h:4294967296<=a.toNat
  ·refine⟨Ce a 32,32, by rw[if_pos (by simpa [UInt64.le_iff_toNat_le] using h)]; rfl,?_, by omega,?_⟩
   ·rw[I7 a 32 (by omega)]; omega
   ·rw[I7 a 32 (by omega)]; exact Mr _ 32 (by omega)
  ·exact⟨a,0, by rw[if_neg (by simpa [UInt64.le_iff_toNat_le] using h)]; rfl, by omega, by omega, by omega⟩
 obtain⟨y,n,e1,hy,hn,hb⟩:=s1;rw[e1]; simp only[bs];have s2:∃ (z:UInt64) (k:Nat),(if decide (65536<=y) then some (Ce y 16)>>=λy5=>some (w64 ((n:Int)+16))>>=λy6=>some (y5,y6) else some (y,(n:Int)))=some (z,(k:Int))/\z.toNat<2 ^ 16/\k<=48/\bitLen a.toNat=k+bitLen z.toNat:=by
  by_cases h:65536<=y.toNat
  ·refine⟨Ce y 16,n+16, by rw[if_pos (by simpa [UInt64.le_iff_toNat_le] using h)]; simp only[bs,B6 (show -9223372036854775808<=(n:Int)+16 by omega) (by omega)]; rfl,?_, by omega,?_⟩
   ·rw[I7 y 16 (by omega)]; omega
   ·rw[I7 y 16 (by omega),hb,Mr y.toNat 16 (by omega)]; omega
  ·exact⟨y,n, by rw[if_neg (by simpa [UInt64.le_iff_toNat_le] using h)], by omega, by omega,hb⟩
 obtain⟨z,k,e2,hz,hk,U⟩:=s2;simp only[bs] at e2;rw[e2]; simp only[bs];have s3:∃ (x:UInt64) (j:Nat),(if decide (256<=z) then some (w64 ((k:Int)+8))>>=λy9=>some (Ce z 8,y9) else some (z,(k:Int)))=some (x,(j:Int))/\x.toNat<256/\j<=56/\bitLen a.toNat=j+bitLen x.toNat:=by
  by_cases h:256<=z.toNat
  ·refine⟨Ce z 8,k+8, by rw[if_pos (by simpa [UInt64.le_iff_toNat_le] using h)]; simp only[bs,B6 (show -9223372036854775808<=(k:Int)+8 by omega) (by omega)]; rfl,?_, by omega,?_⟩
   ·rw[I7 z 8 (by omega)]; omega
   ·rw[I7 z 8 (by omega),U,Mr z.toNat 8 (by omega)]; omega
  ·exact⟨z,k, by rw[if_neg (by simpa [UInt64.le_iff_toNat_le] using h)], by omega, by omega,U⟩
 obtain⟨x,j,e3,hx,hj,a1⟩:=s3;simp only[bs] at e3;rw[e3]; simp only[bs];have ht:=z16q ⟨x.toNat,hx⟩;have a2:(x.toUInt8.toNat:Int)=((x.toNat:Nat):Int):=by simp; omega
 have a7:bitLen x.toNat<=8:=Ms _ 8 (by omega);rw[a2];have O:∀ (l:List UInt8),l=Tt.data.toList->idx l ((x.toNat:Nat):Int)=some (UInt8.ofNat (bitLen x.toNat)):=λl hl=>by
  subst hl;unfold idx;rw[if_pos (by omega)]
  simpa using ht
 refine Eq.trans (congrArg (λo:Option UInt8=>o>>=λa6=>some (w64 ((j:Int)+(a6.toNat:Int)))) (O _ ?hh)) ?_
 case hh=>rfl
 simp only[bs];have e4:((UInt8.ofNat (bitLen x.toNat)).toNat:Int)=(bitLen x.toNat:Int):=by simp; omega
 rw[e4,B6 (by omega) (by omega),a1]
 simp
theorem EZ (a:UInt64):Ev a=some (BC a.toNat):=by
 unfold Ev;have O:=UInt64.toNat_lt a;by_cases h:a.toNat<=247
 ·have h':decide (a<=247)=true:=by simpa [UInt64.le_iff_toNat_le] using h
  unfold BC;rw[if_pos h',if_pos h]
  congr 2
 ·have h':¬ decide (a<=247)=true:=by simpa [UInt64.le_iff_toNat_le] using h
  rw[if_neg h',z160];have hd:=Pv a.toNat O;have U:=Tu a.toNat;have hb:bitLen a.toNat<=64:=Ms _ 64 O;simp only[bs];rw[B6 (show -9223372036854775808<=(bitLen a.toNat:Int)+7 by omega) (by omega)];have e1:Int.tdiv ((bitLen a.toNat:Int)+7) 8=((C8 a.toNat).length:Int):=by
   rw[U, show ((bitLen a.toNat:Int)+7)=((bitLen a.toNat+7:Nat):Int) by omega];rfl
  rw[e1,B6 (show -9223372036854775808<=((C8 a.toNat).length:Int) by omega) (by omega),AL (by omega),FT (by omega) (by omega)];simp only[bs];rw[show (0:Int)=((0:Nat):Int) from rfl,Ax (by simp)];simp only[bs,Int.toNat_natCast];rw[B6 (show -9223372036854775808<=247+((C8 a.toNat).length:Int) by omega) (by omega)];have e2:UInt8.ofInt (247+((C8 a.toNat).length:Int))=UInt8.ofNat (247+(C8 a.toNat).length):=by
   apply UInt8.toNat_inj.1
   rw[show (247+((C8 a.toNat).length:Int))=((247+(C8 a.toNat).length:Nat):Int) by omega];simp[UInt8.ofInt];omega
  have:=zup a.toNat
  rw[e2,this]
  have:=z10m a (C8 a.toNat).length rfl hd
  rw[show (0:Int)=((0:Nat):Int) from rfl] at this;rw[this];simp only[bs];rw[zvn a.toNat (by omega)]
end
section
theorem okV3 {v:Ay} (h:okV v=true) (k:v.Kind=3):v.Num=0/\v.Bits=0/\v.Text.length<=30/\v.Text.all okb=true:=by
 unfold okV at h; rw[if_neg (by rw[k]; decide),if_neg (by rw[k]; decide),if_pos k] at h
 simp only[Bool.and_eq_true,decide_eq_true_eq] at h;exact⟨h.1.1.1,h.1.1.2,h.1.2,h.2⟩
theorem Py {v:Ay} (h:okV v=true):v.Kind=1\/v.Kind=2\/v.Kind=3:=by
 by_cases O:v.Kind=1
 ·exact .inl O
 by_cases U:v.Kind=2
 ·exact .inr (.inl U)
 by_cases h3:v.Kind=3
 ·exact .inr (.inr h3)
 ·unfold okV at h; simp[O,U,h3] at h
theorem z173 (x:UInt64):(x ^^^ 18446744073709551615).toNat=18446744073709551615 - x.toNat:=by
 have e:x ^^^ 18446744073709551615 = ~~~x:=by
  apply UInt64.eq_of_toBitVec_eq
  rw[UInt64.toBitVec_xor,UInt64.toBitVec_not];exact BitVec.xor_allOnes
 rw[e,UInt64.toNat_not]; rfl
theorem JV (n:Int):(UInt64.ofInt n).toNat=(n % 18446744073709551616).toNat:=by
 simp[UInt64.ofInt]; omega
theorem z1ea (n:Int) (h:inI n):((FI (UInt64.ofInt n) 1) ^^^ (UInt64.ofInt (shrI n 63))).toNat=Eg n:=by
 obtain⟨h1,h2⟩:=h;have es:(FI (UInt64.ofInt n) 1).toNat=(n % 18446744073709551616).toNat * 2 % 18446744073709551616:=by
  rw[Ts,JV]; rfl
 by_cases O:0<=n
 ·have e:shrI n 63=0:=by
   unfold shrI;rw[show (2:Int) ^ (min 63 64)=9223372036854775808 from rfl,Int.fdiv_eq_ediv_of_nonneg _ (by omega)]; omega
  rw[e, show UInt64.ofInt 0=0 from rfl,UInt64.xor_zero,es];unfold Eg; rw[if_pos O]; omega
 ·have e:shrI n 63 = -1:=by
   unfold shrI;rw[show (2:Int) ^ (min 63 64)=9223372036854775808 from rfl,Int.fdiv_eq_ediv_of_nonneg _ (by omega)]; omega
  rw[e, show UInt64.ofInt (-1)=18446744073709551615 from rfl,z173,es];unfold Eg; rw[if_neg O]; omega
theorem z14h (n:Int) (h:inI n):LV n=some (BC (Eg n)):=by
 unfold LV;rw[EZ,z1ea n h]; rfl
theorem Mw (s:List UInt8) (h:s.length<=10000):Gv s=some (BC s.length++s,0):=by
 unfold Gv;rw[if_neg (by simp; omega),EZ];have e:(UInt64.ofInt (s.length:Int)).toNat=s.length:=by rw[JV]; omega
 have:=Bu s.length (by omega)
 simp only[bs,e];rw[B1 (by omega)]; rfl
def be8 (b:UInt64):List UInt8:=[(Ce b 56).toUInt8,(Ce b 48).toUInt8,(Ce b 40).toUInt8,(Ce b 32).toUInt8,(Ce b 24).toUInt8,(Ce b 16).toUInt8,(Ce b 8).toUInt8,(Ce b 0).toUInt8]
theorem z13i (v:Ay) (l:List UInt8) (k:Nat) (hl:l.length<=100) (hk:k<=56):J5 v (l,(k:Int))=some (.inr (l++[(Ce v.Bits k).toUInt8],(k:Int) - 8)):=by
 unfold J5;rw[if_pos (by simp)];simp only;rw[CJ (by omega)];simp only[bs,Int.toNat_natCast];rw[B1 (by simp; omega)];simp only[bs];rw[B6 (by omega) (by omega)]
theorem z15w (v:Ay):iter (J5 v) ([v.Kind],56)=some (v.Kind::be8 v.Bits):=by
 have O:=λl k U h2=>z13i v l k U h2;rw[show (56:Int)=((56:Nat):Int) from rfl,Bl (O [v.Kind] 56 (by simp) (by omega))];simp only[List.cons_append,List.nil_append, show ((56:Nat):Int) - 8=((48:Nat):Int) from rfl];rw[Bl (O _ 48 (by simp) (by omega))];simp only[List.cons_append,List.nil_append, show ((48:Nat):Int) - 8=((40:Nat):Int) from rfl];rw[Bl (O _ 40 (by simp) (by omega))];simp only[List.cons_append,List.nil_append, show ((40:Nat):Int) - 8=((32:Nat):Int) from rfl]
 rw[Bl (O _ 32 (by simp) (by omega))];simp only[List.cons_append,List.nil_append, show ((32:Nat):Int) - 8=((24:Nat):Int) from rfl];rw[Bl (O _ 24 (by simp) (by omega))];simp only[List.cons_append,List.nil_append, show ((24:Nat):Int) - 8=((16:Nat):Int) from rfl];rw[Bl (O _ 16 (by simp) (by omega))];simp only[List.cons_append,List.nil_append, show ((16:Nat):Int) - 8=((8:Nat):Int) from rfl]
 rw[Bl (O _ 8 (by simp) (by omega))];simp only[List.cons_append,List.nil_append, show ((8:Nat):Int) - 8=((0:Nat):Int) from rfl];rw[Bl (O _ 0 (by simp) (by omega))];simp only[List.cons_append,List.nil_append];refine B2 ?_;unfold J5;rw[if_neg (by simp)]; rfl
def encV (v:Ay):List UInt8:=v.Kind::(if v.Kind=1 then BC (Eg v.Num) else if v.Kind=2 then be8 v.Bits else BC v.Text.length++v.Text)
theorem Pz {n:Int} (h:inI n):Eg n<18446744073709551616:=z1cr h.1 h.2
theorem TG (v:Ay) (hI:inI v.Num) (U:v.Text.length<=9223372036854775807):J6 v=some (if okV v then (encV v,0) else ([],8)):=by
 unfold J6;rw[Mv v U]
 cases O:okV v
 ·rfl
 simp only[bs,if_true];rw[if_neg (by simp)];unfold encV;rcases Py O with k | k | k
 ·have h1:=Bu (Eg v.Num) (Pz hI);rw[k,z14h v.Num hI];simp only[bs];rw[if_pos (by decide),B1 (by simp; omega)]; simp[bs]
 ·rw[k,if_neg (by decide),if_pos (by decide),if_neg (by decide),if_pos rfl,<- k,z15w]; rfl
 ·have h3:=(okV3 O k).2.2.1;have h1:=Bu v.Text.length (by omega);rw[k,Mw v.Text (by omega)];rw[if_neg (by decide),if_neg (by decide),if_pos (by decide),if_neg (by decide),if_neg (by decide),CJ (by omega)];simp only[bs];rw[B1 (by simp; omega)]; rfl
theorem zwi (n:Int) (h:inI n):M5 n=some (BC (Eg n)):=by
 obtain⟨h1,h2⟩:=h;unfold M5;by_cases O:0<=n
 ·rw[if_pos (by simpa using O),Ey];have e:(2 * UInt64.ofInt n).toNat=Eg n:=by
   rw[UInt64.toNat_mul,JV, show (2:UInt64).toNat=2 from rfl];unfold Eg; rw[if_pos O]; omega
  rw[e]; rfl
 ·rw[if_neg (by simpa using O),Ey];have e:((2 * UInt64.ofInt (w64 (0 - (w64 (n+1)))))+1).toNat=Eg n:=by
   rw[B6 (x:=n+1) (by omega) (by omega),B6 (by omega) (by omega),UInt64.toNat_add,UInt64.toNat_mul,JV, show (2:UInt64).toNat=2 from rfl, show (1:UInt64).toNat=1 from rfl];unfold Eg; rw[if_neg O]; omega
  rw[e]; rfl
theorem JW (s:List UInt8) (h:s.length<=100000):FP s=some (BC s.length++s):=by
 unfold FP;rw[Ey];have e:(UInt64.ofInt (s.length:Int)).toNat=s.length:=by rw[JV]; omega
 have:=Bu s.length (by omega)
 rw[e];simp only[bs];rw[B1 (by omega)]; rfl
theorem z13k (v:Ay) (l:List UInt8) (k:Nat) (hl:l.length<=100) (hk:k<=7):Jm v (l,(k:Int))=some (.inr (l++[(Ce v.Bits (8 * k)).toUInt8],(k:Int) - 1)):=by
 unfold Jm;rw[if_pos (by simp)];simp only;have e:w64 (8 * (k:Int))=((8 * k:Nat):Int):=by rw[B6 (by omega) (by omega)]; omega
 rw[e,CJ (by omega)];simp only[bs,Int.toNat_natCast];rw[B1 (by simp; omega)];simp only[bs];rw[B6 (by omega) (by omega)]
theorem z15m (v:Ay):iter (Jm v) ([v.Kind],7)=some (v.Kind::be8 v.Bits):=by
 have O:=λl k U h2=>z13k v l k U h2;rw[show (7:Int)=((7:Nat):Int) from rfl,Bl (O [v.Kind] 7 (by simp) (by omega))];simp only[List.cons_append,List.nil_append, show ((7:Nat):Int) - 1=((6:Nat):Int) from rfl];rw[Bl (O _ 6 (by simp) (by omega))];simp only[List.cons_append,List.nil_append, show ((6:Nat):Int) - 1=((5:Nat):Int) from rfl];rw[Bl (O _ 5 (by simp) (by omega))];simp only[List.cons_append,List.nil_append, show ((5:Nat):Int) - 1=((4:Nat):Int) from rfl]
 rw[Bl (O _ 4 (by simp) (by omega))];simp only[List.cons_append,List.nil_append, show ((4:Nat):Int) - 1=((3:Nat):Int) from rfl];rw[Bl (O _ 3 (by simp) (by omega))];simp only[List.cons_append,List.nil_append, show ((3:Nat):Int) - 1=((2:Nat):Int) from rfl];rw[Bl (O _ 2 (by simp) (by omega))];simp only[List.cons_append,List.nil_append, show ((2:Nat):Int) - 1=((1:Nat):Int) from rfl];rw[Bl (O _ 1 (by simp) (by omega))]
 simp only[List.cons_append,List.nil_append, show ((1:Nat):Int) - 1=((0:Nat):Int) from rfl];rw[Bl (O _ 0 (by simp) (by omega))];simp only[List.cons_append,List.nil_append];refine B2 ?_;unfold Jm;rw[if_neg (by simp)]; rfl
theorem TH (v:Ay) (hI:inI v.Num) (O:okV v=true):Jn v=some (encV v):=by
 unfold encV Jn;rcases Py O with k | k | k
 ·have U:=Bu (Eg v.Num) (Pz hI);rw[k,zwi v.Num hI];simp only[bs];rw[if_pos (by decide),B1 (by simp; omega)]; simp[bs]
 ·rw[k,if_neg (by decide),if_pos (by decide),if_neg (by decide),if_pos rfl,<- k,z15m]; rfl
 ·have h3:=(okV3 O k).2.2.1;have U:=Bu v.Text.length (by omega);rw[k,JW v.Text (by omega)];rw[if_neg (by decide),if_neg (by decide),if_neg (by decide),if_neg (by decide),CJ (by omega)];simp only[bs];rw[B1 (by simp; omega)]; rfl
end
section
theorem z17u (a b:V3):∀ (n i:Nat),32 - i=n->i<=32->∃ r:Sum Int Unit,iter (Jy a b) (i:Int)=some r/\(Bc (some r) (λ_=>some 0)=some (Lib.compareBytes (a.toList.drop i) (b.toList.drop i))):=by
 intro n
 induction n with
 | zero =>
  intro i hn hi
  have:i=32:=by omega
  subst this;refine⟨.inr (),B2 ?_,?_⟩
  ·unfold Jy; rw[if_neg (by simp)]
  ·rw[List.drop_eq_nil_of_le (by simp),List.drop_eq_nil_of_le (by simp)]; rfl
 | succ n ih =>
  intro i hn hi;have O:i<32:=by omega
  have da:a.toList.drop i=a[i]::a.toList.drop (i+1):=by rw[List.drop_eq_getElem_cons (by simpa using O)]; simp
  have db:b.toList.drop i=b[i]::b.toList.drop (i+1):=by rw[List.drop_eq_getElem_cons (by simpa using O)]; simp
  have hF:Jy a b (i:Int)=if decide (a[i]<b[i]) then some (.inl (.inl (-1))) else if decide (b[i]<a[i]) then some (.inl (.inl 1)) else some (.inr ((i+1:Nat):Int)):=by
   unfold Jy;rw[if_pos (by simp; omega)];simp only[DC O,bs,AL (show i<9223372036854775807 by omega)]
  rw[da,db,Lib.compareBytes];by_cases U:a[i]<b[i]
  ·rw[decide_eq_true U] at hF;exact⟨_,B2 hF, by rw[if_pos U]; rfl⟩
  ·rw[decide_eq_false U] at hF;by_cases h2:b[i]<a[i]
   ·rw[decide_eq_true h2] at hF;exact⟨_,B2 hF, by rw[if_neg U,if_pos h2]; rfl⟩
   ·rw[decide_eq_false h2] at hF;obtain⟨r,k1,k2⟩:=ih (i+1) (by omega) (by omega);exact⟨r, by rw[Bl hF]; exact k1, by rw[if_neg U,if_neg h2]; exact k2⟩
theorem Mx (a b:V3):Gz a b=some (Lib.compareBytes a.toList b.toList):=by
 obtain⟨r,O,U⟩:=z17u a b 32 0 rfl (by omega);unfold Gz;rw[show (0:Int)=((0:Nat):Int) from rfl,O]
 simpa using U
theorem PA (a b:V3):Fy a b=some (Lib.compareBytes a.toList b.toList):=by
 unfold Fy Gt; rfl
def BH:List V3->Bool
 | a::b::l=>!decide (0<=Lib.compareBytes a.toList b.toList)&&BH (b::l)
 | _=>true
theorem PB (l:List V3) (hl:l.length<=9223372036854775807):∀ (n i:Nat),l.length - i=n->1<=i->i<=l.length->iter (He l) (i:Int)=some (if BH (l.drop (i - 1)) then .inr () else .inl false):=by
 intro n
 induction n with
 | zero =>
  intro i hn h1 hi
  have:i=l.length:=by omega
  refine B2 ?_;have e:l.drop (i - 1)=[l[i - 1]'(by omega)]:=by
   rw[List.drop_eq_getElem_cons (by omega),List.drop_eq_nil_of_le (by omega)]
  rw[e];unfold He;rw[if_neg (by simp; omega)];simp[BH]
 | succ n ih =>
  intro i hn h1 hi;have O:i<l.length:=by omega
  have e:l.drop (i - 1)=l[i - 1]::l[i]::l.drop (i+1):=by
   rw[List.drop_eq_getElem_cons (by omega), show i - 1+1=i by omega,List.drop_eq_getElem_cons O]
  have e':l.drop (i+1 - 1)=l[i]::l.drop (i+1):=by rw[Nat.add_sub_cancel,List.drop_eq_getElem_cons O]
  have hF:He l (i:Int)=if decide (0<=Lib.compareBytes (l[i - 1]).toList (l[i]).toList) then some (.inl (.inl false)) else some (.inr ((i+1:Nat):Int)):=by
   unfold He;rw[if_pos (by simp; omega),B6 (by omega) (by omega), show ((i:Int) - 1)=((i - 1:Nat):Int) by omega];simp only[Ax O,Ax (show i - 1<l.length by omega),bs,Mx,AL (show i<9223372036854775807 by omega)]
  rw[e,BH]
  cases U:decide (0<=Lib.compareBytes (l[i - 1]).toList (l[i]).toList) with
  | true=>rw[U] at hF; rw[B2 hF]; rfl
  | false =>
   rw[U] at hF;rw[Bl hF,ih (i+1) (by omega) (by omega) (by omega),e']; simp
theorem PC (l:List V3) (O:l.length<=9223372036854775807):Hf l=some (BH l):=by
 unfold Hf
 cases l with
 | nil =>
  rw[B2 (b:=.inr ()) (by unfold He; rw[if_neg (by simp)])]; rfl
 | cons x l =>
  have:=PB (x::l) O _ 1 rfl (by omega) (by simp)
  rw[show (1:Int)=((1:Nat):Int) from rfl,this];simp only[Nat.sub_self,List.drop_zero]
  cases BH (x::l) <;> rfl
theorem zuv (l:List V3) (hl:l.length<=9223372036854775806):∀ (n i:Nat),l.length - i=n->i<=l.length->∃ r,iter (H7 l l) ((i:Int),(i:Int))=some r/\(BH (l.drop i)=true->∃ c,r=.inr c)/\(BH (l.drop i)=false->∃ (k:Nat) (c:Int),r=.inl ((k:Int),c)):=by
 intro n
 induction n with
 | zero =>
  intro i hn hi
  have:i=l.length:=by omega
  refine⟨.inr (i:Int),B2 ?_, λ_=>⟨_,rfl⟩, λh=>?_⟩
  ·unfold H7;rw[if_neg (by simp; omega)]
  ·rw[List.drop_eq_nil_of_le (by omega)] at h; simp[BH] at h
 | succ n ih =>
  intro i hn hi;have O:i<l.length:=by omega
  by_cases h2:i+1<l.length
  ·have e:l.drop i=l[i]::l[i+1]::l.drop (i+2):=by rw[List.drop_eq_getElem_cons O,List.drop_eq_getElem_cons h2]
   have e':l.drop (i+1)=l[i+1]::l.drop (i+2):=by rw[List.drop_eq_getElem_cons h2]
   have hF:H7 l l ((i:Int),(i:Int))=if decide (0<=Lib.compareBytes (l[i]).toList (l[i+1]).toList) then some (.inl (.inl ((i:Int),((i+1:Nat):Int)))) else some (.inr (((i+1:Nat):Int),((i+1:Nat):Int))):=by
    unfold H7 LM;rw[if_pos (by simp; omega)];simp only[Ax O,bs,AL (show i<9223372036854775807 by omega)];rw[if_pos (by simp; omega),B6 (by omega) (by omega), show ((i+1:Nat):Int) - 1=(i:Int) by omega];simp only[Ax O,Ax h2,bs,PA]
   rw[e,BH]
   cases hc:decide (0<=Lib.compareBytes (l[i]).toList (l[i+1]).toList) with
   | true =>
    rw[hc] at hF;exact⟨_,B2 hF, λh=>by simp at h, λ_=>⟨i,_,rfl⟩⟩
   | false =>
    rw[hc] at hF;obtain⟨r,k1,U,k3⟩:=ih (i+1) (by omega) (by omega);rw[e'] at U k3;exact⟨r, by rw[Bl hF]; exact k1, λh=>U (by simpa using h), λh=>k3 (by simpa using h)⟩
  ·have e:l.drop i=[l[i]]:=by rw[List.drop_eq_getElem_cons O,List.drop_eq_nil_of_le (by omega)]
   have hF:H7 l l ((i:Int),(i:Int))=some (.inr (((i+1:Nat):Int),((i+1:Nat):Int))):=by
    unfold H7 LM;rw[if_pos (by simp; omega)];simp only[Ax O,bs,AL (show i<9223372036854775807 by omega)];rw[if_neg (by simp; omega)];simp only[bs]; rfl
   obtain⟨r,k1,U,k3⟩:=ih (i+1) (by omega) (by omega);rw[List.drop_eq_nil_of_le (by omega)] at U k3;exact⟨r, by rw[Bl hF]; exact k1, λ_=>U rfl, λh=>by rw[e] at h; simp[BH] at h⟩
theorem z116 (l:List V3) (hl:l.length<=9223372036854775806):LN l=some (BH l):=by
 obtain⟨r,k1,O,U⟩:=zuv l hl _ 0 rfl (by omega);unfold LN P9 P8;rw[show ((0:Int),(0:Int))=(((0:Nat):Int),((0:Nat):Int)) from rfl,k1];simp only[List.drop_zero] at O U
 cases h:BH l with
 | true=>obtain⟨c,rfl⟩:=O h; rfl
 | false =>
  obtain⟨k,c,rfl⟩:=U h;simp only[or_l,bs];rw[decide_eq_true (by omega)]; rfl
def Da (l:List V3):List UInt8:=l.flatMap Vector.toList
theorem FB (l:List V3):(Da l).length=32 * l.length:=by
 induction l with
 | nil=>rfl
 | cons x l O=>unfold Da at O ⊢; rw[List.flatMap_cons,List.length_append,O]; simp; omega
theorem PD (l:List V3) (i:Nat) (hi:i<l.length):Da (l.take (i+1))=Da (l.take i)++(l[i]).toList:=by
 rw[List.take_add_one,List.getElem?_eq_getElem hi]; unfold Da; rw[List.flatMap_append,Option.toList_some,List.flatMap_cons,List.flatMap_nil,List.append_nil]
theorem z1a9 (l:List V3) (h:l.length<=1000) (s:List UInt8) (hs:s.length<=9):iter (Jj l) (s,0)=some (s++Da l):=by
 have:=Ck (F:=Jj l) (b:=s++Da l) l.length (λi=>(s++Da (l.take i),(i:Int))) (λi hi=>?_) ?_
 ·simpa [Da] using this
 ·unfold Jj;have O:=FB (l.take i);rw[if_pos (by simp; omega)];simp only[Ax hi,bs];rw[B1 (by simp at O ⊢; omega)];simp only[bs,AL (show i<9223372036854775807 by omega),PD l i hi,List.append_assoc]
 ·unfold Jj;rw[if_neg (by simp)]
  simp
theorem z1cn (l:List V3) (h:l.length<=1000) (s:List UInt8) (hs:s.length<=9):iter (J4 l) (s,0)=some (s++Da l):=by
 have:=Ck (F:=J4 l) (b:=s++Da l) l.length (λi=>(s++Da (l.take i),(i:Int))) (λi hi=>?_) ?_
 ·simpa [Da] using this
 ·unfold J4;have O:=FB (l.take i);rw[if_pos (by simp; omega)];simp only[Ax hi,bs];rw[B1 (by simp at O ⊢; omega)];simp only[bs,AL (show i<9223372036854775807 by omega),PD l i hi,List.append_assoc]
 ·unfold J4;rw[if_neg (by simp)]
  simp
theorem ES {n:Nat} (h:n<18446744073709551616):(UInt64.ofInt (n:Int)).toNat=n:=by
 simp[UInt64.ofInt]; omega
theorem TJ (l:List V3) (h:l.length<=1000):Jk l=some (BC l.length++Da l):=by
 unfold Jk;have hn:=Bu l.length (by omega);rw[Ey,ES (by omega)];simp only[bs];rw[z1a9 l h _ (by omega)]; rfl
theorem z1b8 (l:List V3) (h:l.length<=60) (hi:BH l=true):LQ l=some (BC l.length++Da l,0):=by
 unfold LQ;have hn:=Bu l.length (by omega);rw[if_neg (by simp; omega),z116 l (by omega),hi,EZ,ES (by omega)];simp only[bs,Bool.not_true,Bool.false_eq_true,if_false];rw[z1cn l (by omega) _ (by omega)]; rfl
end
section
def nk:List UInt8->Nat
 | []=>0
 | a::l=>a.toNat * 256 ^ l.length+nk l
theorem JX:∀ l:List UInt8,nk l<256 ^ l.length
 | []=>by simp[nk]
 | a::l=>by
  have ih:=JX l;have ha:=UInt8.toNat_lt a;simp only[nk,List.length_cons,Nat.pow_succ];have O:(a.toNat+1) * 256 ^ l.length<=256 * 256 ^ l.length:=Nat.mul_le_mul_right _ (by omega);rw[Nat.add_mul,Nat.one_mul] at O;omega
theorem PE:∀ a b:List UInt8,a.length=b.length->Lib.compareBytes a b=(if nk a<nk b then -1 else if nk b<nk a then 1 else 0)/\(nk a=nk b->a=b)
 | [],[],_=>by simp[Lib.compareBytes,nk]
 | [],_::_,h=>by simp at h
 | _::_,[],h=>by simp at h
 | a::x,b::y,h=>by
  have hl:x.length=y.length:=by simpa using h
  obtain⟨i1,i2⟩:=PE x y hl;have lx:=JX x;have ly:=JX y;simp only[Lib.compareBytes,nk,hl] at *;have e:∀ u v:UInt8,u.toNat<v.toNat->u.toNat * 256 ^ y.length+256 ^ y.length<=v.toNat * 256 ^ y.length:=λu v a1=>by
   have:=Nat.mul_le_mul_right (256 ^ y.length) (show u.toNat+1<=v.toNat from a1)
   rwa [Nat.add_mul,Nat.one_mul] at this
  by_cases O:a<b
  ·have a2:a.toNat<b.toNat:=UInt8.lt_iff_toNat_lt.1 O
   have:=e a b a2
   rw[if_pos O,if_pos (by omega)];exact⟨rfl, λh=>by omega⟩
  ·by_cases U:b<a
   ·have a6:b.toNat<a.toNat:=UInt8.lt_iff_toNat_lt.1 U
    have:=e b a a6
    rw[if_neg O,if_pos U,if_neg (by omega),if_pos (by omega)];exact⟨rfl, λh=>by omega⟩
   ·have h3:a=b:=UInt8.toNat_inj.1 (by rw[UInt8.lt_iff_toNat_lt] at O U; omega);subst h3;rw[if_neg O,if_neg O,i1];refine⟨?_, λh=>by rw[i2 (by omega)]⟩;by_cases c1:nk x<nk y
    ·rw[if_pos c1,if_pos (by omega)]
    ·by_cases c2:nk y<nk x
     ·rw[if_neg c1,if_pos c2,if_neg (by omega),if_pos (by omega)]
     ·rw[if_neg c1,if_neg c2,if_neg (by omega),if_neg (by omega)]
def kd (d:V3):Nat:=nk d.toList
theorem FV (a b:V3):Lib.compareBytes a.toList b.toList=if kd a<kd b then -1 else if kd b<kd a then 1 else 0:=(PE a.toList b.toList (by simp)).1
theorem JY {a b:V3} (h:kd a=kd b):a=b:=by
 have:=(PE a.toList b.toList (by simp)).2 h
 exact Vector.toList_inj.1 this
theorem My (a b:V3):Fy a b=some (if kd a<kd b then -1 else if kd b<kd a then 1 else 0):=by rw[PA,FV]
theorem TK (a b:V3):Gz a b=some (if kd a<kd b then -1 else if kd b<kd a then 1 else 0):=by rw[Mx,FV]
theorem JZ (a b:V3):decide ((if kd a<kd b then (-1:Int) else if kd b<kd a then 1 else 0)<0)=decide (kd a<kd b):=by
 by_cases h:kd a<kd b
 ·simp[h]
 ·by_cases O:kd b<kd a <;> simp[h,O]
theorem TL (a b:V3):decide (0<=(if kd a<kd b then (-1:Int) else if kd b<kd a then 1 else 0))=decide (kd b<=kd a):=by
 by_cases h:kd a<kd b
 ·have:¬ kd b<=kd a:=by omega
  simp[h,this]
 ·have O:kd b<=kd a:=by omega
  by_cases U:kd b<kd a <;> simp[h,U,O]
theorem z1do (a b:V3):((if kd a<kd b then (-1:Int) else if kd b<kd a then 1 else 0)==0)=decide (a=b):=by
 by_cases h:kd a<kd b
 ·have:a≠b:=λe=>by rw[e] at h; omega
  simp[h,this]
 ·by_cases O:kd b<kd a
  ·have:a≠b:=λe=>by rw[e] at O; omega
   simp[h,O,this]
  ·have:a=b:=JY (by omega)
   simp[h,O,this]
theorem TM:∀ l:List V3,BH l=true↔∀ i (h:i+1<l.length),kd (l[i]'(by omega))<kd l[i+1]
 | []=>by simp[BH]
 | [a]=>by simp[BH]
 | a::b::l=>by
  have O:=TM (b::l);rw[BH,Bool.and_eq_true,O,FV,TL]
  constructor
  ·rintro⟨U,h2⟩ i hi
   cases i with
   | zero=>simpa using U
   | succ i=>exact h2 i (by simpa using hi)
  ·intro h;refine⟨?_, λi hi=>h (i+1) (by simpa using hi)⟩
   have:=h 0 (by simp)
   simpa using this
theorem GA:∀ l:List V3,BH l=true↔l.Pairwise (λa b=>kd a<kd b)
 | []=>by simp[BH]
 | [a]=>by simp[BH]
 | a::b::l=>by
  have ih:=GA (b::l);rw[BH,Bool.and_eq_true,ih,FV,TL]
  constructor
  ·rintro⟨U,O⟩
   have a1:kd a<kd b:=by simpa using U
   refine List.pairwise_cons.2 ⟨λc hc=>?_,O⟩;rcases List.mem_cons.1 hc with rfl | hc
   ·exact a1
   ·have:=(List.pairwise_cons.1 O).1 c hc; omega
  ·intro h;obtain⟨U,O⟩:=List.pairwise_cons.1 h
   have:=U b (by simp)
   exact⟨by simp; omega,O⟩
theorem z11s (l:List V3) (hl:l.length<=9223372036854775807):∃ b,J1 l=some b/\(b=true↔∀ i (h:i+1<l.length),kd (l[i]'(by omega))<=kd l[i+1]):=by
 have key:∀ n,n<l.length->∃ r:Sum Bool Unit,iter (HU l) (n:Int)=some r/\((r=.inr ()/\∀ i (h:i+1<l.length),i+1<=n->kd (l[i]'(by omega))<=kd l[i+1])\/(r=.inl false/\∃ i,∃ h:i+1<l.length,¬ kd (l[i]'(by omega))<=kd l[i+1])):=by
  intro n
  induction n with
  | zero =>
   intro h;refine⟨_,B2 ?_,.inl ⟨rfl, λi _ h=>by omega⟩⟩;unfold HU;rw[if_neg (by simp)]
  | succ n ih =>
   intro h;have hF:HU l ((n+1:Nat):Int)=if decide (kd l[n+1]<kd l[n]) then some (.inl (.inl false)) else some (.inr (n:Int)):=by
    unfold HU;rw[if_pos (by simp <;> omega),Ax h,B6 (by omega) (by omega), show (((n+1:Nat):Int) - 1)=(n:Int) by omega,Ax (by omega)]
    simp only[bS];rw[My];simp only[bS];rw[JZ]
   by_cases hc:kd l[n+1]<kd l[n]
   ·rw[decide_eq_true hc,if_pos rfl] at hF;exact⟨_,B2 hF,.inr ⟨rfl,n,h, by omega⟩⟩
   ·rw[decide_eq_false hc,if_neg (by simp)] at hF;obtain⟨r,h1,O⟩:=ih (by omega);refine⟨r, by rw[Bl hF]; exact h1,?_⟩;rcases O with ⟨O,U⟩ | O
    ·refine .inl ⟨O, λi hi hn=>?_⟩;by_cases a1:i=n
     ·subst a1; omega
     ·exact U i hi (by omega)
    ·exact .inr O
 unfold J1;simp only[bS];by_cases h0:l.length=0
 ·refine⟨true,?_, by simp; intro i hi; omega⟩;rw[h0,B6 (by omega) (by omega),B2 (b:=.inr ())]
  ·rfl
  ·unfold HU;rw[if_neg (by simp)]
 ·obtain⟨r,h1,O⟩:=key (l.length - 1) (by omega);rw[B6 (by omega) (by omega), show ((l.length:Int) - 1)=((l.length - 1:Nat):Int) by omega,h1];rcases O with ⟨rfl,U⟩ | ⟨rfl,i,hi,U⟩
  ·exact⟨true,rfl, by simp; exact λi hi=>U i hi (by omega)⟩
  ·exact⟨false,rfl, by simp; exact⟨i,hi, by omega⟩⟩
theorem TN {k n j:Nat} (h:j<n):subi k n (j:Int)=some (k+j):=by unfold subi; rw[if_pos (by omega)]; simp
theorem z1b0 {α:Type} (b:List α) (k n:Nat) (x:α) (h:k+n<=b.length):(clr b k n x).length=b.length:=by
 unfold clr;simp only[List.length_append,List.length_take,List.length_replicate,List.length_drop]; omega
theorem zy7 (l:List V3) (s:Nat) (h1:1<=s) (hs:s<l.length) (hl:l.length<=9223372036854775806):∃ b:List V3 × Int,iter (J2 l s) (l,(s:Int),1)=some b/\b.1.length=l.length/\∃ j:Nat,b.2=(j:Int)/\j<l.length:=by
 refine D9 (F:=J2 l s) (l.length - s) (λi st=>st.1.length=l.length/\st.2.2=(i:Int)/\1<=i/\∃ j:Nat,st.2.1=(j:Int)/\j+1<=s+i) _ ?_ ?_ _ 1 (by omega) ⟨rfl,rfl, by omega,s,rfl, by omega⟩
 ·rintro i ⟨c,j',i'⟩ hi ⟨O,U,e0,j,e3,e4⟩
  simp only at O U e3;subst U e3;unfold J2;rw[if_pos (by simp; omega)];simp only[Int.toNat_natCast];rw[TN (by omega),B6 (x:=(i:Int) - 1) (by omega) (by omega), show ((i:Int) - 1)=((i - 1:Nat):Int) by omega,TN (by omega)];simp only[bS];rw[Ax (by omega),Ax (by omega)];simp only[bS];by_cases hc:c[s+i]'(by omega)=c[s+(i - 1)]'(by omega)
  ·rw[decide_eq_true hc,if_neg (by simp)];exact⟨_,rfl,O,AL (by omega), by omega,j,rfl, by omega⟩
  ·rw[decide_eq_false hc,if_pos (by simp),Ax (by omega)];simp only[bS];exact⟨_,rfl, by simpa using O,AL (by omega), by omega,j+1,AL (by omega), by omega⟩
 ·rintro⟨c,j',i'⟩ ⟨O,U,e0,j,e3,e4⟩
  simp only at O U e3;subst U e3;unfold J2;rw[if_neg (by simp <;> omega)]
  exact⟨_,rfl,O,j,rfl, by omega⟩
theorem z104 (l:List V3) (hl:l.length<=9223372036854775806):∃ c,J3 l=some c/\(c.length=l.length↔∀ i (h:i+1<l.length),l[i]'(by omega)≠l[i+1]):=by
 have key:∀ k n,l.length - n=k->1<=n->n<=l.length->∃ r:Sum (List V3) Unit,iter (H5 l) (n:Int)=some r/\((r=.inr ()/\∀ i (h:i+1<l.length),n<=i+1->l[i]'(by omega)≠l[i+1])\/(∃ c,r=.inl c/\c.length≠l.length/\∃ i,∃ h:i+1<l.length,l[i]'(by omega)=l[i+1])):=by
  intro k
  induction k with
  | zero =>
   intro n hk h1 hn;refine⟨_,B2 ?_,.inl ⟨rfl, λi _ h=>by omega⟩⟩;unfold H5;rw[if_neg (by simp; omega)]
  | succ k ih =>
   intro n hk h1 hn;have U:n<l.length:=by omega
   by_cases hc:l[n]=l[n - 1]
   ·obtain⟨⟨c,j'⟩,e1,e2,j,e3,e4⟩:=zy7 l n h1 U hl;simp only at e2 e3;subst e3;have hF:H5 l (n:Int)=some (.inl (.inl ((clr c j (c.length - j) (Vector.replicate 32 0)).take j))):=by
     unfold H5;rw[if_pos (by simp; omega),Ax U,B6 (by omega) (by omega), show ((n:Int) - 1)=((n - 1:Nat):Int) by omega,Ax (by omega)];simp only[bS];rw[decide_eq_true hc,if_pos rfl,CJ (by omega)];simp only[bS];rw[e1];simp only[bS];rw[CJ (by omega),CJ (by simp; omega)];simp only[bS,Int.toNat_natCast];rw[show (0:Int)=((0:Nat):Int) from rfl,Hn (by omega) (by rw[z1b0 _ _ _ _ (by omega)]; omega)]
     simp
    refine⟨_,B2 hF,.inr ⟨_,rfl,?_,n - 1, by omega,?_⟩⟩
    ·rw[List.length_take]; omega
    ·have:n - 1+1=n:=by omega
     simp only[this]; exact hc.symm
   ·have hF:H5 l (n:Int)=some (.inr ((n+1:Nat):Int)):=by
     unfold H5;rw[if_pos (by simp; omega),Ax U,B6 (x:=(n:Int) - 1) (by omega) (by omega), show ((n:Int) - 1)=((n - 1:Nat):Int) by omega,Ax (by omega)];simp only[bS];rw[decide_eq_false hc,if_neg (by simp),AL (by omega)]
    obtain⟨r,h2,O⟩:=ih (n+1) (by omega) (by omega) (by omega);refine⟨r, by rw[Bl hF]; exact h2,?_⟩;rcases O with ⟨O,h4⟩ | O
    ·refine .inl ⟨O, λi hi a2=>?_⟩;by_cases a1:i+1=n
     ·subst a1; exact λe=>hc e.symm
     ·exact h4 i hi (by omega)
    ·exact .inr O
 unfold J3;by_cases h2:l.length<2
 ·rw[if_pos (by simp; omega)];exact⟨l,rfl, by simp; intro i hi; omega⟩
 ·rw[if_neg (by simp; omega)];obtain⟨r,e1,e2⟩:=key (l.length - 1) 1 rfl (by omega) (by omega);rw[show (1:Int)=((1:Nat):Int) from rfl,e1];rcases e2 with ⟨rfl,O⟩ | ⟨c,rfl,O,i,hi,h4⟩
  ·exact⟨l,rfl, by simp; exact λi hi=>O i hi (by omega)⟩
  ·exact⟨c,rfl,⟨λh=>absurd h O, λh=>absurd h4 (h i hi)⟩⟩
theorem z167 (l:List V3):BH l=true↔(∀ i (h:i+1<l.length),kd (l[i]'(by omega))<=kd l[i+1])/\∀ i (h:i+1<l.length),l[i]'(by omega)≠l[i+1]:=by
 rw[TM]
 constructor
 ·intro h;refine⟨λi hi=>Nat.le_of_lt (h i hi), λi hi e=>?_⟩
  have:=h i hi
  rw[e] at this; omega
 ·rintro⟨O,U⟩ i hi
  have:=O i hi
  rcases Nat.lt_or_eq_of_le this with h | h
  ·exact h
  ·exact absurd (JY h) (U i hi)
end
section
open Go Go.Shelf Go.RowKit Go.Lib Go.Sort
def Eh (a b:List UInt8):Int:=if Dp a b then -1 else if Dp b a then 1 else 0
theorem relT {S:Blk} {w:World} {c:List Value} {x:AT} (h:(Bi).rel S w c x):∃ s:ByteArray,s.data.toList=x.Key/\c=.string s::BL x.ID:=by
 obtain⟨c1,c2,rfl,⟨s,rfl,U⟩,c3,c4,rfl,h2,O⟩:=h;refine⟨s,U,?_⟩;have O:c4=[]:=O;rw[O,List.append_nil,IR h2]; rfl
theorem z1d7 (s:ByteArray) (W:World):Calls Tryz.prog 175 #[.string s] W λe w'=>e=.returned (.bool false)/\w'=W:=by
 go_enter func175,Tryz.ntmps175
 go_wp2
 go_ret
 exact⟨by simp,rfl⟩
set_option maxHeartbeats 1000000 in
theorem z1eb (s t:ByteArray) (W:World):Calls Tryz.prog 130 #[.string s,.string t] W λe w'=>e=.returned (.int .i64 (Eh s.data.toList t.data.toList))/\w'=W:=by
 go_enter func130,Tryz.ntmps130
 go_wp2_with (go_at_call 175; refine(z1d7 _ _).mono ?_; rintro e w' ⟨rfl,rfl⟩)
 ·rename_i h
  go_ret
  exact⟨by rw[Eh,Dp,<- E4,<- E4,h]; rfl,rfl⟩
 ·rename_i h K2 a2 K1 O K0 a0;have e:(binOp .gtr 9 (.string s) (.string t)).run Tryz.prog w'=.ok (.bool (Op.bytesLess t.toList s.toList)) w':=by
   rw[JO]; rfl
  go_wp2
  rw[e];show K0 _ _;refine a0 _ _ ?_
  cases U:Op.bytesLess t.toList s.toList
  all_goals refine O _ _ ?_
  all_goals go_wp2
  all_goals go_ret
  all_goals exact⟨by rw[Eh,Dp,Dp,<- E4,<- E4,h,U]; rfl,rfl⟩
set_option maxHeartbeats 1000000 in
theorem orE (i j:Int) (b:Nat) (W:World) (h0:W.cell? ⟨b,0+0,none⟩=some (.int .i64 i)) (h1:W.cell? ⟨b,0+1,none⟩=some (.int .i64 j)) :
  Calls Tryz.prog 129 #[.slice (some ⟨b,0,none⟩) 2 2] W λe w'=>e=.returned (.int .i64 (if i=0 then j else i))/\w'=W:=by
 go_enter func129,Tryz.ntmps129
 go_wp2
 go_loop [8] (λt=>∃ k:Nat,k<=2/\t=.int .i64 k/\(0<k->i=0)/\(1<k->j=0)) (λt=>match t with | .int _ n=>2 - n.toNat | _=>0)
 case atStart=>exact⟨0, by omega,rfl, by omega, by omega⟩
 case round =>
  obtain⟨k,hk,rfl,O,U⟩:=hrel;rcases (show k=0\/k=1\/k=2 by omega) with rfl | rfl | rfl
  ·go_wp2
   ·simp_all
   ·go_ret
    exact⟨rfl,rfl⟩
   ·rename_i h;exact⟨⟨1, by omega,rfl, λ_=>by simpa using h, by omega⟩, by simp⟩
  ·have e0:=O (by omega);subst e0
   go_wp2
   ·go_ret
    exact⟨rfl,rfl⟩
   ·rename_i h;exact⟨⟨2, by omega,rfl, by simp, λ_=>by simpa using h⟩, by simp⟩
  ·have e0:=O (by omega);have e1:=U (by omega);subst e0; subst e1
   go_wp2
   go_ret
   exact⟨rfl,rfl⟩
theorem z17k (x y:V3) (b c o:Nat) (W:World) (O:∀ j u,(BL x)[j]? = some u->W.cell? ⟨b,o+j,none⟩=some u) (U:∀ j u,(BL y)[j]? = some u->W.cell? ⟨c,o+j,none⟩=some u) :
  (callFunc 131 #[.slice (some ⟨b,o,none⟩) 32 32,.slice (some ⟨c,o,none⟩) 32 32]).run Tryz.prog W=.ok (.value (.int .i64 (Lib.compareBytes x.toList y.toList))) W:=by
 have lx:x.toList.length=32:=by simp
 have ly:y.toList.length=32:=by simp
 have e:=OI (P:=Tryz.prog) (w:=W) (p:=some ⟨b,o,none⟩) (q:=some ⟨c,o,none⟩) (c:=32) (d:=32) (x:=x.toList) (y:=y.toList) (xs:=BL x) (ys:=BL y)
  ⟨by rw[JP,lx],.inr ⟨b,o,none,32, by rfl, by omega, by decide,.inr rfl,O⟩⟩ rfl ⟨by rw[JP,ly],.inr ⟨c,o,none,32, by rfl, by omega, by decide,.inr rfl,U⟩⟩ rfl
 rw[lx,ly] at e;rw[run_callFunc_extern func131 rfl rfl (by kernel_rfl) (by kernel_rfl),e];rfl
set_option maxHeartbeats 1000000 in
theorem zu1 (x y:V3) (b c o:Nat) (W:World) (O:∀ j u,(BL x)[j]? = some u->W.cell? ⟨b,o+j,none⟩=some u) (U:∀ j u,(BL y)[j]? = some u->W.cell? ⟨c,o+j,none⟩=some u) :
  Calls Tryz.prog 82 #[.slice (some ⟨b,o,none⟩) 32 32,.slice (some ⟨c,o,none⟩) 32 32] W λe w'=>e=.returned (.int .i64 (Lib.compareBytes x.toList y.toList))/\w'=W:=by
 have e:=z17k x y b c o W O U
 go_enter func82,Tryz.ntmps82
 go_wp2
 go_ret
 exact⟨rfl,rfl⟩
theorem TO {W:World} {c:Array Value} {T:TypeId} {j:Nat} {u:Value} (h:c[j]? = some u):(W.alloc (.cells c T)).cell? ⟨W.heap.size,0+j,none⟩=some u :=
 I6 (c:=c) (T:=T) (fr:=(0,0)) (by show (W.heap.push _)[W.heap.size]? = _; rw[Array.getElem?_push_size]) h
theorem z1e5 {W:World} {xs ys:List Value} {n j:Nat} {u:Value} (h:xs[j]? = some u):({ (W.alloc (.cells xs.toArray 73)).alloc (.cells ys.toArray 73) with drawn:=n }:World).cell? ⟨W.heap.size,j,none⟩=some u:=by
 have:=I6 (w:={ (W.alloc (.cells xs.toArray 73)).alloc (.cells ys.toArray 73) with drawn:=n }) (b:=W.heap.size) (j:=j) (c:=xs.toArray) (T:=73) (fr:=(0,0)) (by
  show ((W.heap.push _).push _)[W.heap.size]? = _
  rw[Array.getElem?_push_lt (by simp)]; simp) (by simpa using h)
 rwa [Nat.zero_add] at this
theorem z1dr {W:World} {xs ys:List Value} {n j:Nat} {u:Value} (h:ys[j]? = some u):({ (W.alloc (.cells xs.toArray 73)).alloc (.cells ys.toArray 73) with drawn:=n }:World).cell? ⟨W.heap.size+1,j,none⟩=some u:=by
 have:=I6 (w:={ (W.alloc (.cells xs.toArray 73)).alloc (.cells ys.toArray 73) with drawn:=n }) (b:=W.heap.size+1) (j:=j) (c:=ys.toArray) (T:=73) (fr:=(0,0)) (by
  show ((W.heap.push _).push _)[W.heap.size+1]? = _
  have:W.heap.size+1=(W.heap.push (Obj.cells xs.toArray 73)).size:=by simp
  rw[this,Array.getElem?_push_size]) (by simpa using h)
 rwa [Nat.zero_add] at this
set_option maxHeartbeats 1000000 in
theorem tagE (s t:ByteArray) (x y:V3) (W:World) :
  Calls Tryz.prog 81 #[.agg (.string s::BL x).toArray,.agg (.string t::BL y).toArray] W λe w'=>e=.returned (.int .i64 (if Eh s.data.toList t.data.toList=0 then Lib.compareBytes x.toList y.toList else Eh s.data.toList t.data.toList))/\∃ q os',w'=grow (W.drewN q) os':=by
 go_enter func81,Tryz.ntmps81
 go_wp2
 obtain⟨W1,hW1⟩:∃ W1,W1=(W.alloc (.cells (Value.string s::BL x).toArray 73)).alloc (.cells (Value.string t::BL y).toArray 73):=⟨_,rfl⟩
 rw[<- hW1];refine wp_region_still_tail 10 (by kernel_rfl) (by kernel_rfl) ?_;obtain⟨W2,hW2⟩:∃ W2:World,W2 = { W1 with drawn:=W1.drawn+1 }:=⟨_,rfl⟩
 rw[<- hW2];have c0:∀ {j u},(Value.string s::BL x)[j]? = some u->W2.cell? ⟨W.heap.size,j,none⟩=some u:=λh=>by subst hW2; subst hW1; exact z1e5 h
 have c1:∀ {j u},(Value.string t::BL y)[j]? = some u->W2.cell? ⟨W.heap.size+1,j,none⟩=some u:=λh=>by subst hW2; subst hW1; exact z1dr h
 have l0:=c0 (j:=0) (u:=.string s) rfl;have l1:=c1 (j:=0) (u:=.string t) rfl;have keep:∀ (O:Obj) (W3:World),W3=W2.alloc O->W3=grow (W.drewN 1) #[.cells (Value.string s::BL x).toArray 73,.cells (Value.string t::BL y).toArray 73,O]:=λO W3 U=>by
  subst U; subst hW2; subst hW1
  have:((W.heap.push (.cells (Value.string s::BL x).toArray 73)).push (.cells (Value.string t::BL y).toArray 73)).push O=W.heap ++ #[.cells (Value.string s::BL x).toArray 73,.cells (Value.string t::BL y).toArray 73,O]:=by apply Array.toList_inj.1; simp
  show ({ W with drawn:=W.drawn+1,heap:=((W.heap.push (.cells (Value.string s::BL x).toArray 73)).push (.cells (Value.string t::BL y).toArray 73)).push O }:World) = { W with drawn:=W.drawn+1,heap:=W.heap ++ #[.cells (Value.string s::BL x).toArray 73,.cells (Value.string t::BL y).toArray 73,O] };rw[this]
 clear hW1 hW2
 simp only[List.take_succ_cons,List.take_zero,List.drop_succ_cons,List.drop_zero]
 iterate 4 still_step
 still_call (z1eb s t _)
 iterate 4 still_step
 still_call (zu1 x y _ _ 1 _ (λj u h=>c0 (by rw[Nat.add_comm]; exact h)) (λj u h=>c1 (by rw[Nat.add_comm]; exact h)));refine wpStill_nil ?_
 go_wp2_with (go_at_call 129; refine(orE _ _ _ _ (TO rfl) (TO rfl)).mono ?_; rintro e w' ⟨rfl,rfl⟩)
 all_goals (go_ret; exact⟨rfl,1,_,keep _ _ rfl⟩)
def GB:AT:=(⟨[],(Vector.replicate 32 0)⟩:AT)
def cfT (x y:AT):Int:=if Eh x.Key y.Key=0 then Lib.compareBytes x.ID.toList y.ID.toList else Eh x.Key y.Key
theorem K3 (a b:List UInt8):Op.bytesLess a b=decide (a<b):=Go.Proofs.bytesLess_eq a b
theorem PF (a b:List UInt8):Eh a b<0↔a<b:=by
 unfold Eh Dp;rw[K3,K3];by_cases h:a<b
 ·simp[h]
 ·by_cases k:b<a <;> simp[h,k]
theorem TP (a b:List UInt8):Eh a b=0↔a=b:=by
 unfold Eh Dp;have f:=JO a b
 cases h:Op.bytesLess a b <;> rw[h] at f
 ·cases k:(a==b) <;> rw[k] at f
  ·have e:a≠b:=by simpa using k
   have f:Op.bytesLess b a=true:=by simpa using f
   simp[f,e]
  ·have e:a=b:=by simpa using k
   subst e;simp[h]
 ·have e:a≠b:=λe=>by
   subst e;rw[K3] at h;exact absurd (of_decide_eq_true h) (List.lt_irrefl a)
  simp[e]
theorem I8 (x y:AT):cfT x y<0↔x.Key<y.Key\/x.Key=y.Key/\kd x.ID<kd y.ID:=by
 unfold cfT;have h:=PF x.Key y.Key;have z:=TP x.Key y.Key;by_cases e:Eh x.Key y.Key=0
 ·rw[if_pos e,FV];have e':=z.1 e;rw[e'];have c:=JZ x.ID y.ID;rw[decide_eq_decide] at c;rw[c];exact⟨λh=>.inr ⟨rfl,h⟩, λh=>h.elim (λh=>absurd h (List.lt_irrefl _)) And.right⟩
 ·rw[if_neg e,h];exact⟨.inl, λh=>h.elim id λh=>absurd (z.2 h.1) e⟩
theorem ltT (x y:AT):ltOf cfT x y=decide (x.Key<y.Key\/x.Key=y.Key/\kd x.ID<kd y.ID):=by
 unfold ltOf;rw[decide_eq_decide]; exact I8 x y
theorem Mz (x y:List UInt8):x<y\/x=y\/y<x:=by
 have f:=JO x y;rw[K3,K3] at f;by_cases h:x<y
 ·exact .inl h
 by_cases e:x=y
 ·exact .inr (.inl e)
 ·have e':(x==y)=false:=by simpa using e
  rw[decide_eq_false h,e'] at f;exact .inr (.inr (by simpa using f))
theorem swoT:SWO (ltOf cfT) where
 irrefl x:=by rw[ltT]; simp[List.lt_irrefl]
 trans x y z U O:=by
  rw[ltT,decide_eq_true_eq] at *;rcases U with U | ⟨U,h3⟩ <;> rcases O with O | ⟨O,h4⟩
  ·exact .inl (List.lt_trans U O)
  ·exact .inl (O ▸ U)
  ·exact .inl (U ▸ O)
  ·exact .inr ⟨U.trans O, by omega⟩
 ntrans x y z U O:=by
  rw[ltT,decide_eq_false_iff_not] at *;intro h;rcases h with h | ⟨h,h'⟩
  ·rcases Mz x.Key y.Key with k | k | k
   ·exact U (.inl k)
   ·exact O (.inl (k ▸ h))
   ·exact O (.inl (List.lt_trans k h))
  ·rcases Mz x.Key y.Key with k | k | k
   ·exact U (.inl k)
   ·by_cases q:kd x.ID<kd y.ID
    ·exact U (.inr ⟨k,q⟩)
    ·exact O (.inr ⟨k ▸ h, by omega⟩)
   ·exact O (.inl (h ▸ k))
def PG (l:List (AT)):Option (List (AT)):=chk (l.length<=1000000)>>=λ_=>some (srtG GB cfT l)
theorem z16k (O:Value) (c0:List (AT)):Ah Tryz.prog 147 [.val O,.val (.func (.func 81) #[] #[])] [(1,some (O,.list Bi 73 c0))] (PG c0) (λr nv=>⟨[],[(1,some (O,.list Bi 73 r))]⟩):=by
 refine Tr rfl GB _ Gm cfT swoT (λcap w=>?_) (λenc hk U cf' hO blk cap d w hc hH hb hs=>?_) (λx y c d S w W hx hy=>?_) O c0
 ·exact AnyF.slices_SortFunc_none Ti none cap _ w
 ·have eg:∀ args w,(callFunc 81 args).run Tryz.prog w=.ok (.enter 81 args) w:=enters_of func81 (by kernel_rfl) rfl;exact AnyQ.slices_SortFunc_eq Ti 33 Tryz.isAgg73 Tryz.sizeOf73 enc hk U cf' hO 81 #[] blk 0 cap d w eg hc hH hb hs
 ·obtain⟨s,U,rfl⟩:=relT hx;obtain⟨t,h2,rfl⟩:=relT hy
  have:=tagE s t x.ID y.ID W
  unfold cfT;rw[<- U,<- h2];exact this
end
section
open Go Go.Shelf Go.RowKit Go.Lib
theorem MA {P:Program} {k:Nat} (w:World) (dT sT ty elem:TypeId) (g o dLen dCap:Nat) (a:Addr) (sLen sCap:Nat) (cur:Array Value) (t:TypeId) (cs:List Value)
  (hu:P.underlying dT=some (.slice elem)) (hs:(P.info? elem).map (·.size)=some k)
  (hg:w.heap[g]? = some (.cells cur t (0,0))) (hn:cs.length=Nat.min sLen dLen * k)
  (O:∀ j v,cs[j]? = some v->w.cell? (a.add j)=some v) (U:o+cs.length<=cur.size) (h1:∀ v∈cs,v.oneCell'=true) :
  (Builtin.copy_ #[dT,sT] ty #[.slice (some ⟨g,o,none⟩) dLen dCap,.slice (some a) sLen sCap]).run P w =
   .ok (goInt (Nat.min sLen dLen)) (w.setRow g (cur.toList.take o++cs++cur.toList.drop (o+cs.length)).toArray):=by
 have hl:=run_firstCells_some (P:=P) w k (Nat.min sLen dLen) a sLen sCap cs hn O;have a1:=run_storeCells_at P g o t cs 0 cur w hg (by simpa using U) h1
 cases hq:P.info? elem with
 | none=>simp[hq] at hs
 | some i =>
  have hi:i.size=k:=by simpa [hq] using hs
  simp[Builtin.copy_,run_underlying hu,Builtin.lenOf,sizeOf,typeInfo,hq,hi,hl,a1]
theorem z15s {P:Program} (w:World) {o:Oper} {a:Act} {K:Act->World->Prop} {Q:Exit->Act->World->Prop} (d s:Operand) (t t':TypeId)
  (O:o.op=.call { callee:=.builtin .copy,args:=#[d,s],argTypes:=#[t,t'] }) (v u:Value) (hd:a.eval d=v) (U:a.eval s=u) {v':Value} {w':World}
  (hr:(Builtin.copy_ #[t,t'] o.type #[v,u]).run P w=.ok v' w') (h:K (a.put o.dst v') w'):o.wp P a w K Q:=by
 unfold Oper.wp execOp;simp only[O,resolve,invoke,builtin,Sem.run_bind,Sem.run_pure,Result.andThen_ok,List.map_toArray,List.map_cons,List.map_nil,hd,U,hr];exact h
theorem TQ {P:Program} (w:World) {ops:Array Oper} {rest:List Oper} {o:Oper} {a:Act} {Q:Exit->Act->World->Prop} (O:o.guard=none) (d s:Operand) (t t':TypeId)
  (U:o.op=.call { callee:=.builtin .copy,args:=#[d,s],argTypes:=#[t,t'] }) (v u:Value) (hd:a.eval d=v) (hs:a.eval s=u) {v':Value} {w':World}
  (hr:(Builtin.copy_ #[t,t'] o.type #[v,u]).run P w=.ok v' w') (h:wpList P ops Q rest (a.put o.dst v') w'):wpList P ops Q (o::rest) a w :=
 wpList_plain O λ_ hK=>z15s w d s t t' U v u hd hs hr (hK _ _ h)
theorem TR {P:Program} {ops:Array Oper} {o:Oper} {a:Act} {w:World} {K:Act->World->Prop} {Q:Exit->Act->World->Prop} {E:Prop}
  (U:o.guard=none) (d x:Operand) (dT sT:TypeId) (O:o.op=Op.call { callee:=Callee.builtin Builtin.copy,args:=#[d,x],argTypes:=#[dT,sT] })
  (v u:Value) (hd:a.eval d=v) (hx:a.eval x=u) {v':Value} {w':World} (hr:(Builtin.copy_ #[dT,sT] o.type #[v,u]).run P w=.ok v' w') (hK:K (a.put o.dst v') w') :
  if Region.wanted o (yielded ops a.tmps)=true then Oper.wp P o a w K Q else E:=by
 have hw:Region.wanted o (yielded ops a.tmps)=true:=by simp[Region.wanted,U]
 rw[if_pos hw];unfold Oper.wp;simp[execOp,O,resolve,invoke,builtin,hd,hx,hr,Result.andThen];exact hK
end
end Go.Proofs.YtdeegahcaekfaaaGreatDoor
