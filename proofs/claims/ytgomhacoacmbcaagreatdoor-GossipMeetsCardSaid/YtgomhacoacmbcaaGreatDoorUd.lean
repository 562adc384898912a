import Derived.Test.YtgomhacoacmbcaaGreatDoorUc
set_option linter.unusedSimpArgs false
set_option linter.unusedVariables false
namespace Go.Proofs.YtgomhacoacmbcaaGreatDoor
set_option maxRecDepth 100000
set_option maxHeartbeats 4000000
open Go Go.RowKit _root_.Go.Proofs.Tryz
section
theorem okV3 {v:Az} (h:okV v=true) (k:v.Kind=3):v.Num=0/\v.Bits=0/\v.Text.length<=30/\v.Text.all okb=true:=by
 unfold okV at h; rw[if_neg (by rw[k]; decide),if_neg (by rw[k]; decide),if_pos k] at h
 simp only[Bool.and_eq_true,decide_eq_true_eq] at h;exact⟨h.1.1.1,h.1.1.2,h.1.2,h.2⟩
theorem OX {v:Az} (h:okV v=true):v.Kind=1\/v.Kind=2\/v.Kind=3:=by
 by_cases h1:v.Kind=1
 ·exact .inl h1
 by_cases h2:v.Kind=2
 ·exact .inr (.inl h2)
 by_cases h3:v.Kind=3
 ·exact .inr (.inr h3)
 ·unfold okV at h; simp[h1,h2,h3] at h
theorem z16g (x:UInt64):(x ^^^ 18446744073709551615).toNat=18446744073709551615 - x.toNat:=by
 have e:x ^^^ 18446744073709551615 = ~~~x:=by
  apply UInt64.eq_of_toBitVec_eq
  rw[UInt64.toBitVec_xor,UInt64.toBitVec_not];exact BitVec.xor_allOnes
 rw[e,UInt64.toNat_not]; rfl
theorem Kg (n:Int):(UInt64.ofInt n).toNat=(n % 18446744073709551616).toNat:=by
 simp[UInt64.ofInt]; omega
theorem z1eg (n:Int) (h:inI n):((EW (UInt64.ofInt n) 1) ^^^ (UInt64.ofInt (shrI n 63))).toNat=DW n:=by
 obtain⟨h1,h2⟩:=h;have es:(EW (UInt64.ofInt n) 1).toNat=(n % 18446744073709551616).toNat * 2 % 18446744073709551616:=by
  rw[OV,Kg]; rfl
 by_cases M:0<=n
 ·have e:shrI n 63=0:=by
   unfold shrI;rw[show (2:Int) ^ (min 63 64)=9223372036854775808 from rfl,Int.fdiv_eq_ediv_of_nonneg _ (by omega)]; omega
  rw[e, show UInt64.ofInt 0=0 from rfl,UInt64.xor_zero,es];unfold DW; rw[if_pos M]; omega
 ·have e:shrI n 63 = -1:=by
   unfold shrI;rw[show (2:Int) ^ (min 63 64)=9223372036854775808 from rfl,Int.fdiv_eq_ediv_of_nonneg _ (by omega)]; omega
  rw[e, show UInt64.ofInt (-1)=18446744073709551615 from rfl,z16g,es];unfold DW; rw[if_neg M]; omega
theorem z11s (n:Int) (h:inI n):LV n=some (BW (DW n)):=by
 unfold LV;rw[GI,z1eg n h]; rfl
theorem OY (s:List UInt8) (h:s.length<=10000):Hj s=some (BW s.length++s,0):=by
 unfold Hj;rw[if_neg (by simp; omega),GI];have e:(UInt64.ofInt (s.length:Int)).toNat=s.length:=by rw[Kg]; omega
 have:=Ct s.length (by omega)
 simp only[bs,e];rw[Bw (by omega)]; rfl
def be8 (b:UInt64):List UInt8:=[(BZ b 56).toUInt8,(BZ b 48).toUInt8,(BZ b 40).toUInt8,(BZ b 32).toUInt8,(BZ b 24).toUInt8,(BZ b 16).toUInt8,(BZ b 8).toUInt8,(BZ b 0).toUInt8]
theorem z129 (v:Az) (l:List UInt8) (k:Nat) (hl:l.length<=100) (hk:k<=56):Jx v (l,(k:Int))=some (.inr (l++[(BZ v.Bits k).toUInt8],(k:Int) - 8)):=by
 unfold Jx;rw[if_pos (by simp)];simp only;rw[Cn (by omega)];simp only[bs,Int.toNat_natCast];rw[Bw (by simp; omega)];simp only[bs];rw[B1 (by omega) (by omega)]
theorem z16q (v:Az):iter (Jx v) ([v.Kind],56)=some (v.Kind::be8 v.Bits):=by
 have M:=λl k h1 h2=>z129 v l k h1 h2;rw[show (56:Int)=((56:Nat):Int) from rfl,B9 (M [v.Kind] 56 (by simp) (by omega))];simp only[List.cons_append,List.nil_append, show ((56:Nat):Int) - 8=((48:Nat):Int) from rfl];rw[B9 (M _ 48 (by simp) (by omega))];simp only[List.cons_append,List.nil_append, show ((48:Nat):Int) - 8=((40:Nat):Int) from rfl];rw[B9 (M _ 40 (by simp) (by omega))];simp only[List.cons_append,List.nil_append, show ((40:Nat):Int) - 8=((32:Nat):Int) from rfl]
 rw[B9 (M _ 32 (by simp) (by omega))];simp only[List.cons_append,List.nil_append, show ((32:Nat):Int) - 8=((24:Nat):Int) from rfl];rw[B9 (M _ 24 (by simp) (by omega))];simp only[List.cons_append,List.nil_append, show ((24:Nat):Int) - 8=((16:Nat):Int) from rfl];rw[B9 (M _ 16 (by simp) (by omega))];simp only[List.cons_append,List.nil_append, show ((16:Nat):Int) - 8=((8:Nat):Int) from rfl]
 rw[B9 (M _ 8 (by simp) (by omega))];simp only[List.cons_append,List.nil_append, show ((8:Nat):Int) - 8=((0:Nat):Int) from rfl];rw[B9 (M _ 0 (by simp) (by omega))];simp only[List.cons_append,List.nil_append];refine AW ?_;unfold Jx;rw[if_neg (by simp)]; rfl
def encV (v:Az):List UInt8:=v.Kind::(if v.Kind=1 then BW (DW v.Num) else if v.Kind=2 then be8 v.Bits else BW v.Text.length++v.Text)
theorem OZ {n:Int} (h:inI n):DW n<18446744073709551616:=z1bt h.1 h.2
theorem z1bi (v:Az) (hI:inI v.Num) (hl:v.Text.length<=9223372036854775807):LW v=some (if okV v then (encV v,0) else ([],8)):=by
 unfold LW;rw[TG v hl]
 cases M:okV v
 ·rfl
 simp only[bs,if_true];rw[if_neg (by simp)];unfold encV;rcases OX M with k | k | k
 ·have h1:=Ct (DW v.Num) (OZ hI);rw[k,z11s v.Num hI];simp only[bs];rw[if_pos (by decide),Bw (by simp; omega)]; simp[bs]
 ·rw[k,if_neg (by decide),if_pos (by decide),if_neg (by decide),if_pos rfl,<- k,z16q]; rfl
 ·have h3:=(okV3 M k).2.2.1;have h1:=Ct v.Text.length (by omega);rw[k,OY v.Text (by omega)];rw[if_neg (by decide),if_neg (by decide),if_pos (by decide),if_neg (by decide),if_neg (by decide),Cn (by omega)];simp only[bs];rw[Bw (by simp; omega)]; rfl
theorem zty (n:Int) (h:inI n):M5 n=some (BW (DW n)):=by
 obtain⟨h1,h2⟩:=h;unfold M5;by_cases M:0<=n
 ·rw[if_pos (by simpa using M),GG];have e:(2 * UInt64.ofInt n).toNat=DW n:=by
   rw[UInt64.toNat_mul,Kg, show (2:UInt64).toNat=2 from rfl];unfold DW; rw[if_pos M]; omega
  rw[e]; rfl
 ·rw[if_neg (by simpa using M),GG];have e:((2 * UInt64.ofInt (w64 (0 - (w64 (n+1)))))+1).toNat=DW n:=by
   rw[B1 (x:=n+1) (by omega) (by omega),B1 (by omega) (by omega),UInt64.toNat_add,UInt64.toNat_mul,Kg, show (2:UInt64).toNat=2 from rfl, show (1:UInt64).toNat=1 from rfl];unfold DW; rw[if_neg M]; omega
  rw[e]; rfl
theorem TJ (s:List UInt8) (h:s.length<=100000):It s=some (BW s.length++s):=by
 unfold It;rw[GG];have e:(UInt64.ofInt (s.length:Int)).toNat=s.length:=by rw[Kg]; omega
 have:=Ct s.length (by omega)
 rw[e];simp only[bs];rw[Bw (by omega)]; rfl
theorem z14w (v:Az) (l:List UInt8) (k:Nat) (hl:l.length<=100) (hk:k<=7):JK v (l,(k:Int))=some (.inr (l++[(BZ v.Bits (8 * k)).toUInt8],(k:Int) - 1)):=by
 unfold JK;rw[if_pos (by simp)];simp only;have e:w64 (8 * (k:Int))=((8 * k:Nat):Int):=by rw[B1 (by omega) (by omega)]; omega
 rw[e,Cn (by omega)];simp only[bs,Int.toNat_natCast];rw[Bw (by simp; omega)];simp only[bs];rw[B1 (by omega) (by omega)]
theorem z17c (v:Az):iter (JK v) ([v.Kind],7)=some (v.Kind::be8 v.Bits):=by
 have M:=λl k h1 h2=>z14w v l k h1 h2;rw[show (7:Int)=((7:Nat):Int) from rfl,B9 (M [v.Kind] 7 (by simp) (by omega))];simp only[List.cons_append,List.nil_append, show ((7:Nat):Int) - 1=((6:Nat):Int) from rfl];rw[B9 (M _ 6 (by simp) (by omega))];simp only[List.cons_append,List.nil_append, show ((6:Nat):Int) - 1=((5:Nat):Int) from rfl];rw[B9 (M _ 5 (by simp) (by omega))];simp only[List.cons_append,List.nil_append, show ((5:Nat):Int) - 1=((4:Nat):Int) from rfl]
 rw[B9 (M _ 4 (by simp) (by omega))];simp only[List.cons_append,List.nil_append, show ((4:Nat):Int) - 1=((3:Nat):Int) from rfl];rw[B9 (M _ 3 (by simp) (by omega))];simp only[List.cons_append,List.nil_append, show ((3:Nat):Int) - 1=((2:Nat):Int) from rfl];rw[B9 (M _ 2 (by simp) (by omega))];simp only[List.cons_append,List.nil_append, show ((2:Nat):Int) - 1=((1:Nat):Int) from rfl];rw[B9 (M _ 1 (by simp) (by omega))]
 simp only[List.cons_append,List.nil_append, show ((1:Nat):Int) - 1=((0:Nat):Int) from rfl];rw[B9 (M _ 0 (by simp) (by omega))];simp only[List.cons_append,List.nil_append];refine AW ?_;unfold JK;rw[if_neg (by simp)]; rfl
theorem z14d (v:Az) (hI:inI v.Num) (M:okV v=true):M6 v=some (encV v):=by
 unfold encV M6;rcases OX M with k | k | k
 ·have h1:=Ct (DW v.Num) (OZ hI);rw[k,zty v.Num hI];simp only[bs];rw[if_pos (by decide),Bw (by simp; omega)]; simp[bs]
 ·rw[k,if_neg (by decide),if_pos (by decide),if_neg (by decide),if_pos rfl,<- k,z17c]; rfl
 ·have h3:=(okV3 M k).2.2.1;have h1:=Ct v.Text.length (by omega);rw[k,TJ v.Text (by omega)];rw[if_neg (by decide),if_neg (by decide),if_neg (by decide),if_neg (by decide),Cn (by omega)];simp only[bs];rw[Bw (by simp; omega)]; rfl
end
section
theorem z15l (a b:V3):∀ (n i:Nat),32 - i=n->i<=32->∃ r:Sum Int Unit,iter (JT a b) (i:Int)=some r/\(Bi (some r) (λ_=>some 0)=some (Lib.compareBytes (a.toList.drop i) (b.toList.drop i))):=by
 intro n
 induction n with
 | zero =>
  intro i O hi
  have:i=32:=by omega
  subst this;refine⟨.inr (),AW ?_,?_⟩
  ·unfold JT; rw[if_neg (by simp)]
  ·rw[List.drop_eq_nil_of_le (by simp),List.drop_eq_nil_of_le (by simp)]; rfl
 | succ n U =>
  intro i O hi;have M:i<32:=by omega
  have da:a.toList.drop i=a[i]::a.toList.drop (i+1):=by rw[List.drop_eq_getElem_cons (by simpa using M)]; simp
  have db:b.toList.drop i=b[i]::b.toList.drop (i+1):=by rw[List.drop_eq_getElem_cons (by simpa using M)]; simp
  have hF:JT a b (i:Int)=if decide (a[i]<b[i]) then some (.inl (.inl (-1))) else if decide (b[i]<a[i]) then some (.inl (.inl 1)) else some (.inr ((i+1:Nat):Int)):=by
   unfold JT;rw[if_pos (by simp; omega)];simp only[DO M,bs,AO (show i<9223372036854775807 by omega)]
  rw[da,db,Lib.compareBytes];by_cases h1:a[i]<b[i]
  ·rw[decide_eq_true h1] at hF;exact⟨_,AW hF, by rw[if_pos h1]; rfl⟩
  ·rw[decide_eq_false h1] at hF;by_cases h2:b[i]<a[i]
   ·rw[decide_eq_true h2] at hF;exact⟨_,AW hF, by rw[if_neg h1,if_pos h2]; rfl⟩
   ·rw[decide_eq_false h2] at hF;obtain⟨r,k1,k2⟩:=U (i+1) (by omega) (by omega);exact⟨r, by rw[B9 hF]; exact k1, by rw[if_neg h1,if_neg h2]; exact k2⟩
theorem z142 (a b:V3):Md a b=some (Lib.compareBytes a.toList b.toList):=by
 obtain⟨r,h1,h2⟩:=z15l a b 32 0 rfl (by omega);unfold Md;rw[show (0:Int)=((0:Nat):Int) from rfl,h1]
 simpa using h2
theorem P0 (a b:V3):Fz a b=some (Lib.compareBytes a.toList b.toList):=by
 unfold Fz Oj; rfl
def Bf:List V3->Bool
 | a::b::l=>!decide (0<=Lib.compareBytes a.toList b.toList)&&Bf (b::l)
 | _=>true
theorem TK (l:List V3) (hl:l.length<=9223372036854775807):∀ (n i:Nat),l.length - i=n->1<=i->i<=l.length->iter (Iu l) (i:Int)=some (if Bf (l.drop (i - 1)) then .inr () else .inl false):=by
 intro n
 induction n with
 | zero =>
  intro i U h1 hi
  have:i=l.length:=by omega
  refine AW ?_;have e:l.drop (i - 1)=[l[i - 1]'(by omega)]:=by
   rw[List.drop_eq_getElem_cons (by omega),List.drop_eq_nil_of_le (by omega)]
  rw[e];unfold Iu;rw[if_neg (by simp; omega)];simp[Bf]
 | succ n ih =>
  intro i U h1 hi;have M:i<l.length:=by omega
  have e:l.drop (i - 1)=l[i - 1]::l[i]::l.drop (i+1):=by
   rw[List.drop_eq_getElem_cons (by omega), show i - 1+1=i by omega,List.drop_eq_getElem_cons M]
  have e':l.drop (i+1 - 1)=l[i]::l.drop (i+1):=by rw[Nat.add_sub_cancel,List.drop_eq_getElem_cons M]
  have hF:Iu l (i:Int)=if decide (0<=Lib.compareBytes (l[i - 1]).toList (l[i]).toList) then some (.inl (.inl false)) else some (.inr ((i+1:Nat):Int)):=by
   unfold Iu;rw[if_pos (by simp; omega),B1 (by omega) (by omega), show ((i:Int) - 1)=((i - 1:Nat):Int) by omega];simp only[AE M,AE (show i - 1<l.length by omega),bs,z142,AO (show i<9223372036854775807 by omega)]
  rw[e,Bf]
  cases O:decide (0<=Lib.compareBytes (l[i - 1]).toList (l[i]).toList) with
  | true=>rw[O] at hF; rw[AW hF]; rfl
  | false =>
   rw[O] at hF;rw[B9 hF,ih (i+1) (by omega) (by omega) (by omega),e']; simp
theorem TL (l:List V3) (hl:l.length<=9223372036854775807):JU l=some (Bf l):=by
 unfold JU
 cases l with
 | nil =>
  rw[AW (b:=.inr ()) (by unfold Iu; rw[if_neg (by simp)])]; rfl
 | cons x l =>
  have:=TK (x::l) hl _ 1 rfl (by omega) (by simp)
  rw[show (1:Int)=((1:Nat):Int) from rfl,this];simp only[Nat.sub_self,List.drop_zero]
  cases Bf (x::l) <;> rfl
theorem zvh (l:List V3) (hl:l.length<=9223372036854775806):∀ (n i:Nat),l.length - i=n->i<=l.length->∃ r,iter (Hi l l) ((i:Int),(i:Int))=some r/\(Bf (l.drop i)=true->∃ c,r=.inr c)/\(Bf (l.drop i)=false->∃ (k:Nat) (c:Int),r=.inl ((k:Int),c)):=by
 intro n
 induction n with
 | zero =>
  intro i hn hi
  have:i=l.length:=by omega
  refine⟨.inr (i:Int),AW ?_, λ_=>⟨_,rfl⟩, λh=>?_⟩
  ·unfold Hi;rw[if_neg (by simp; omega)]
  ·rw[List.drop_eq_nil_of_le (by omega)] at h; simp[Bf] at h
 | succ n ih =>
  intro i hn hi;have M:i<l.length:=by omega
  by_cases h2:i+1<l.length
  ·have e:l.drop i=l[i]::l[i+1]::l.drop (i+2):=by rw[List.drop_eq_getElem_cons M,List.drop_eq_getElem_cons h2]
   have e':l.drop (i+1)=l[i+1]::l.drop (i+2):=by rw[List.drop_eq_getElem_cons h2]
   have hF:Hi l l ((i:Int),(i:Int))=if decide (0<=Lib.compareBytes (l[i]).toList (l[i+1]).toList) then some (.inl (.inl ((i:Int),((i+1:Nat):Int)))) else some (.inr (((i+1:Nat):Int),((i+1:Nat):Int))):=by
    unfold Hi LR;rw[if_pos (by simp; omega)];simp only[AE M,bs,AO (show i<9223372036854775807 by omega)];rw[if_pos (by simp; omega),B1 (by omega) (by omega), show ((i+1:Nat):Int) - 1=(i:Int) by omega];simp only[AE M,AE h2,bs,P0]
   rw[e,Bf]
   cases hc:decide (0<=Lib.compareBytes (l[i]).toList (l[i+1]).toList) with
   | true =>
    rw[hc] at hF;exact⟨_,AW hF, λh=>by simp at h, λ_=>⟨i,_,rfl⟩⟩
   | false =>
    rw[hc] at hF;obtain⟨r,k1,O,U⟩:=ih (i+1) (by omega) (by omega);rw[e'] at O U;exact⟨r, by rw[B9 hF]; exact k1, λh=>O (by simpa using h), λh=>U (by simpa using h)⟩
  ·have e:l.drop i=[l[i]]:=by rw[List.drop_eq_getElem_cons M,List.drop_eq_nil_of_le (by omega)]
   have hF:Hi l l ((i:Int),(i:Int))=some (.inr (((i+1:Nat):Int),((i+1:Nat):Int))):=by
    unfold Hi LR;rw[if_pos (by simp; omega)];simp only[AE M,bs,AO (show i<9223372036854775807 by omega)];rw[if_neg (by simp; omega)];simp only[bs]; rfl
   obtain⟨r,k1,O,U⟩:=ih (i+1) (by omega) (by omega);rw[List.drop_eq_nil_of_le (by omega)] at O U;exact⟨r, by rw[B9 hF]; exact k1, λ_=>O rfl, λh=>by rw[e] at h; simp[Bf] at h⟩
theorem z105 (l:List V3) (hl:l.length<=9223372036854775806):LS l=some (Bf l):=by
 obtain⟨r,U,M,O⟩:=zvh l hl _ 0 rfl (by omega);unfold LS Ox Ow;rw[show ((0:Int),(0:Int))=(((0:Nat):Int),((0:Nat):Int)) from rfl,U];simp only[List.drop_zero] at M O
 cases h:Bf l with
 | true=>obtain⟨c,rfl⟩:=M h; rfl
 | false =>
  obtain⟨k,c,rfl⟩:=O h;simp only[or_l,bs];rw[decide_eq_true (by omega)]; rfl
def Dg (l:List V3):List UInt8:=l.flatMap Vector.toList
theorem Kh (l:List V3):(Dg l).length=32 * l.length:=by
 induction l with
 | nil=>rfl
 | cons x l M=>unfold Dg at M ⊢; rw[List.flatMap_cons,List.length_append,M]; simp; omega
theorem TM (l:List V3) (i:Nat) (hi:i<l.length):Dg (l.take (i+1))=Dg (l.take i)++(l[i]).toList:=by
 rw[List.take_add_one,List.getElem?_eq_getElem hi]; unfold Dg; rw[List.flatMap_append,Option.toList_some,List.flatMap_cons,List.flatMap_nil,List.append_nil]
theorem z191 (l:List V3) (h:l.length<=1000) (s:List UInt8) (hs:s.length<=9):iter (JJ l) (s,0)=some (s++Dg l):=by
 have:=C1 (F:=JJ l) (b:=s++Dg l) l.length (λi=>(s++Dg (l.take i),(i:Int))) (λi hi=>?_) ?_
 ·simpa [Dg] using this
 ·unfold JJ;have M:=Kh (l.take i);rw[if_pos (by simp; omega)];simp only[AE hi,bs];rw[Bw (by simp at M ⊢; omega)];simp only[bs,AO (show i<9223372036854775807 by omega),TM l i hi,List.append_assoc]
 ·unfold JJ;rw[if_neg (by simp)]
  simp
theorem z1bd (l:List V3) (h:l.length<=1000) (s:List UInt8) (hs:s.length<=9):iter (Jv l) (s,0)=some (s++Dg l):=by
 have:=C1 (F:=Jv l) (b:=s++Dg l) l.length (λi=>(s++Dg (l.take i),(i:Int))) (λi hi=>?_) ?_
 ·simpa [Dg] using this
 ·unfold Jv;have M:=Kh (l.take i);rw[if_pos (by simp; omega)];simp only[AE hi,bs];rw[Bw (by simp at M ⊢; omega)];simp only[bs,AO (show i<9223372036854775807 by omega),TM l i hi,List.append_assoc]
 ·unfold Jv;rw[if_neg (by simp)]
  simp
theorem Mz {n:Nat} (h:n<18446744073709551616):(UInt64.ofInt (n:Int)).toNat=n:=by
 simp[UInt64.ofInt]; omega
theorem z16i (l:List V3) (h:l.length<=1000):M4 l=some (BW l.length++Dg l):=by
 unfold M4;have hn:=Ct l.length (by omega);rw[GG,Mz (by omega)];simp only[bs];rw[z191 l h _ (by omega)]; rfl
theorem z196 (l:List V3) (h:l.length<=60) (hi:Bf l=true):Jw l=some (BW l.length++Dg l,0):=by
 unfold Jw;have hn:=Ct l.length (by omega);rw[if_neg (by simp; omega),z105 l (by omega),hi,GI,Mz (by omega)];simp only[bs,Bool.not_true,Bool.false_eq_true,if_false];rw[z1bd l (by omega) _ (by omega)]; rfl
end
section
def nk:List UInt8->Nat
 | []=>0
 | a::l=>a.toNat * 256 ^ l.length+nk l
theorem P1:∀ l:List UInt8,nk l<256 ^ l.length
 | []=>by simp[nk]
 | a::l=>by
  have ih:=P1 l;have ha:=UInt8.toNat_lt a;simp only[nk,List.length_cons,Nat.pow_succ];have h1:(a.toNat+1) * 256 ^ l.length<=256 * 256 ^ l.length:=Nat.mul_le_mul_right _ (by omega);rw[Nat.add_mul,Nat.one_mul] at h1;omega
theorem P2:∀ a b:List UInt8,a.length=b.length->Lib.compareBytes a b=(if nk a<nk b then -1 else if nk b<nk a then 1 else 0)/\(nk a=nk b->a=b)
 | [],[],_=>by simp[Lib.compareBytes,nk]
 | [],_::_,h=>by simp at h
 | _::_,[],h=>by simp at h
 | a::x,b::y,h=>by
  have hl:x.length=y.length:=by simpa using h
  obtain⟨i1,i2⟩:=P2 x y hl;have lx:=P1 x;have ly:=P1 y;simp only[Lib.compareBytes,nk,hl] at *;have e:∀ u v:UInt8,u.toNat<v.toNat->u.toNat * 256 ^ y.length+256 ^ y.length<=v.toNat * 256 ^ y.length:=λu v O=>by
   have:=Nat.mul_le_mul_right (256 ^ y.length) (show u.toNat+1<=v.toNat from O)
   rwa [Nat.add_mul,Nat.one_mul] at this
  by_cases h1:a<b
  ·have U:a.toNat<b.toNat:=UInt8.lt_iff_toNat_lt.1 h1
   have:=e a b U
   rw[if_pos h1,if_pos (by omega)];exact⟨rfl, λh=>by omega⟩
  ·by_cases h2:b<a
   ·have a1:b.toNat<a.toNat:=UInt8.lt_iff_toNat_lt.1 h2
    have:=e b a a1
    rw[if_neg h1,if_pos h2,if_neg (by omega),if_pos (by omega)];exact⟨rfl, λh=>by omega⟩
   ·have h3:a=b:=UInt8.toNat_inj.1 (by rw[UInt8.lt_iff_toNat_lt] at h1 h2; omega);subst h3;rw[if_neg h1,if_neg h1,i1];refine⟨?_, λh=>by rw[i2 (by omega)]⟩;by_cases M:nk x<nk y
    ·rw[if_pos M,if_pos (by omega)]
    ·by_cases c2:nk y<nk x
     ·rw[if_neg M,if_pos c2,if_neg (by omega),if_pos (by omega)]
     ·rw[if_neg M,if_neg c2,if_neg (by omega),if_neg (by omega)]
def kd (d:V3):Nat:=nk d.toList
theorem Ki (a b:V3):Lib.compareBytes a.toList b.toList=if kd a<kd b then -1 else if kd b<kd a then 1 else 0:=(P2 a.toList b.toList (by simp)).1
theorem Hu {a b:V3} (h:kd a=kd b):a=b:=by
 have:=(P2 a.toList b.toList (by simp)).2 h
 exact Vector.toList_inj.1 this
theorem MA (a b:V3):Fz a b=some (if kd a<kd b then -1 else if kd b<kd a then 1 else 0):=by rw[P0,Ki]
theorem P3 (a b:V3):decide ((if kd a<kd b then (-1:Int) else if kd b<kd a then 1 else 0)<0)=decide (kd a<kd b):=by
 by_cases h:kd a<kd b
 ·simp[h]
 ·by_cases h2:kd b<kd a <;> simp[h,h2]
theorem TN (a b:V3):decide (0<=(if kd a<kd b then (-1:Int) else if kd b<kd a then 1 else 0))=decide (kd b<=kd a):=by
 by_cases h:kd a<kd b
 ·have:¬ kd b<=kd a:=by omega
  simp[h,this]
 ·have h3:kd b<=kd a:=by omega
  by_cases h2:kd b<kd a <;> simp[h,h2,h3]
theorem TO (a b:V3):((if kd a<kd b then (-1:Int) else if kd b<kd a then 1 else 0)==0)=decide (a=b):=by
 by_cases h:kd a<kd b
 ·have:a≠b:=λe=>by rw[e] at h; omega
  simp[h,this]
 ·by_cases h2:kd b<kd a
  ·have:a≠b:=λe=>by rw[e] at h2; omega
   simp[h,h2,this]
  ·have:a=b:=Hu (by omega)
   simp[h,h2,this]
theorem TP:∀ l:List V3,Bf l=true↔∀ i (h:i+1<l.length),kd (l[i]'(by omega))<kd l[i+1]
 | []=>by simp[Bf]
 | [a]=>by simp[Bf]
 | a::b::l=>by
  have M:=TP (b::l);rw[Bf,Bool.and_eq_true,M,Ki,TN]
  constructor
  ·rintro⟨h1,h2⟩ i hi
   cases i with
   | zero=>simpa using h1
   | succ i=>exact h2 i (by simpa using hi)
  ·intro h;refine⟨?_, λi hi=>h (i+1) (by simpa using hi)⟩
   have:=h 0 (by simp)
   simpa using this
theorem F7:∀ l:List V3,Bf l=true↔l.Pairwise (λa b=>kd a<kd b)
 | []=>by simp[Bf]
 | [a]=>by simp[Bf]
 | a::b::l=>by
  have U:=F7 (b::l);rw[Bf,Bool.and_eq_true,U,Ki,TN]
  constructor
  ·rintro⟨h1,h2⟩
   have O:kd a<kd b:=by simpa using h1
   refine List.pairwise_cons.2 ⟨λc M=>?_,h2⟩;rcases List.mem_cons.1 M with rfl | M
   ·exact O
   ·have:=(List.pairwise_cons.1 h2).1 c M; omega
  ·intro h;obtain⟨h1,h2⟩:=List.pairwise_cons.1 h
   have:=h1 b (by simp)
   exact⟨by simp; omega,h2⟩
theorem z13o (l:List V3) (hl:l.length<=9223372036854775807):∃ b,Jt l=some b/\(b=true↔∀ i (h:i+1<l.length),kd (l[i]'(by omega))<=kd l[i+1]):=by
 have key:∀ n,n<l.length->∃ r:Sum Bool Unit,iter (Il l) (n:Int)=some r/\((r=.inr ()/\∀ i (h:i+1<l.length),i+1<=n->kd (l[i]'(by omega))<=kd l[i+1])\/(r=.inl false/\∃ i,∃ h:i+1<l.length,¬ kd (l[i]'(by omega))<=kd l[i+1])):=by
  intro n
  induction n with
  | zero =>
   intro h;refine⟨_,AW ?_,.inl ⟨rfl, λi _ h=>by omega⟩⟩;unfold Il;rw[if_neg (by simp)]
  | succ n U =>
   intro h;have hF:Il l ((n+1:Nat):Int)=if decide (kd l[n+1]<kd l[n]) then some (.inl (.inl false)) else some (.inr (n:Int)):=by
    unfold Il;rw[if_pos (by simp <;> omega),AE h,B1 (by omega) (by omega), show (((n+1:Nat):Int) - 1)=(n:Int) by omega,AE (by omega)]
    simp only[bS];rw[MA];simp only[bS];rw[P3]
   by_cases M:kd l[n+1]<kd l[n]
   ·rw[decide_eq_true M,if_pos rfl] at hF;exact⟨_,AW hF,.inr ⟨rfl,n,h, by omega⟩⟩
   ·rw[decide_eq_false M,if_neg (by simp)] at hF;obtain⟨r,h1,h2⟩:=U (by omega);refine⟨r, by rw[B9 hF]; exact h1,?_⟩;rcases h2 with ⟨h2,h3⟩ | h2
    ·refine .inl ⟨h2, λi hi hn=>?_⟩;by_cases O:i=n
     ·subst O; omega
     ·exact h3 i hi (by omega)
    ·exact .inr h2
 unfold Jt;simp only[bS];by_cases h0:l.length=0
 ·refine⟨true,?_, by simp; intro i hi; omega⟩;rw[h0,B1 (by omega) (by omega),AW (b:=.inr ())]
  ·rfl
  ·unfold Il;rw[if_neg (by simp)]
 ·obtain⟨r,h1,h2⟩:=key (l.length - 1) (by omega);rw[B1 (by omega) (by omega), show ((l.length:Int) - 1)=((l.length - 1:Nat):Int) by omega,h1];rcases h2 with ⟨rfl,h3⟩ | ⟨rfl,i,hi,h3⟩
  ·exact⟨true,rfl, by simp; exact λi hi=>h3 i hi (by omega)⟩
  ·exact⟨false,rfl, by simp; exact⟨i,hi, by omega⟩⟩
theorem MB {k n j:Nat} (h:j<n):subi k n (j:Int)=some (k+j):=by unfold subi; rw[if_pos (by omega)]; simp
theorem P4 {α:Type} (b:List α) (k n:Nat) (x:α) (h:k+n<=b.length):(clr b k n x).length=b.length:=by
 unfold clr;simp only[List.length_append,List.length_take,List.length_replicate,List.length_drop]; omega
theorem zwy (l:List V3) (s:Nat) (h1:1<=s) (hs:s<l.length) (hl:l.length<=9223372036854775806):∃ b:List V3 × Int,iter (FZ l s) (l,(s:Int),1)=some b/\b.1.length=l.length/\∃ j:Nat,b.2=(j:Int)/\j<l.length:=by
 refine DV (F:=FZ l s) (l.length - s) (λi st=>st.1.length=l.length/\st.2.2=(i:Int)/\1<=i/\∃ j:Nat,st.2.1=(j:Int)/\j+1<=s+i) _ ?_ ?_ _ 1 (by omega) ⟨rfl,rfl, by omega,s,rfl, by omega⟩
 ·rintro i ⟨c,j',i'⟩ hi ⟨e1,e2,e0,j,e3,e4⟩
  simp only at e1 e2 e3;subst e2 e3;unfold FZ;rw[if_pos (by simp; omega)];simp only[Int.toNat_natCast];rw[MB (by omega),B1 (x:=(i:Int) - 1) (by omega) (by omega), show ((i:Int) - 1)=((i - 1:Nat):Int) by omega,MB (by omega)];simp only[bS];rw[AE (by omega),AE (by omega)];simp only[bS];by_cases M:c[s+i]'(by omega)=c[s+(i - 1)]'(by omega)
  ·rw[decide_eq_true M,if_neg (by simp)];exact⟨_,rfl,e1,AO (by omega), by omega,j,rfl, by omega⟩
  ·rw[decide_eq_false M,if_pos (by simp),AE (by omega)];simp only[bS];exact⟨_,rfl, by simpa using e1,AO (by omega), by omega,j+1,AO (by omega), by omega⟩
 ·rintro⟨c,j',i'⟩ ⟨e1,e2,e0,j,e3,e4⟩
  simp only at e1 e2 e3;subst e2 e3;unfold FZ;rw[if_neg (by simp <;> omega)]
  exact⟨_,rfl,e1,j,rfl, by omega⟩
theorem z114 (l:List V3) (hl:l.length<=9223372036854775806):∃ c,F0 l=some c/\(c.length=l.length↔∀ i (h:i+1<l.length),l[i]'(by omega)≠l[i+1]):=by
 have key:∀ k n,l.length - n=k->1<=n->n<=l.length->∃ r:Sum (List V3) Unit,iter (Ez l) (n:Int)=some r/\((r=.inr ()/\∀ i (h:i+1<l.length),n<=i+1->l[i]'(by omega)≠l[i+1])\/(∃ c,r=.inl c/\c.length≠l.length/\∃ i,∃ h:i+1<l.length,l[i]'(by omega)=l[i+1])):=by
  intro k
  induction k with
  | zero =>
   intro n hk h1 hn;refine⟨_,AW ?_,.inl ⟨rfl, λi _ h=>by omega⟩⟩;unfold Ez;rw[if_neg (by simp; omega)]
  | succ k ih =>
   intro n hk h1 hn;have M:n<l.length:=by omega
   by_cases O:l[n]=l[n - 1]
   ·obtain⟨⟨c,j'⟩,e1,e2,j,e3,e4⟩:=zwy l n h1 M hl;simp only at e2 e3;subst e3;have hF:Ez l (n:Int)=some (.inl (.inl ((clr c j (c.length - j) (Vector.replicate 32 0)).take j))):=by
     unfold Ez;rw[if_pos (by simp; omega),AE M,B1 (by omega) (by omega), show ((n:Int) - 1)=((n - 1:Nat):Int) by omega,AE (by omega)];simp only[bS];rw[decide_eq_true O,if_pos rfl,Cn (by omega)];simp only[bS];rw[e1];simp only[bS];rw[Cn (by omega),Cn (by simp; omega)];simp only[bS,Int.toNat_natCast];rw[show (0:Int)=((0:Nat):Int) from rfl,GF (by omega) (by rw[P4 _ _ _ _ (by omega)]; omega)]
     simp
    refine⟨_,AW hF,.inr ⟨_,rfl,?_,n - 1, by omega,?_⟩⟩
    ·rw[List.length_take]; omega
    ·have:n - 1+1=n:=by omega
     simp only[this]; exact O.symm
   ·have hF:Ez l (n:Int)=some (.inr ((n+1:Nat):Int)):=by
     unfold Ez;rw[if_pos (by simp; omega),AE M,B1 (x:=(n:Int) - 1) (by omega) (by omega), show ((n:Int) - 1)=((n - 1:Nat):Int) by omega,AE (by omega)];simp only[bS];rw[decide_eq_false O,if_neg (by simp),AO (by omega)]
    obtain⟨r,h2,h3⟩:=ih (n+1) (by omega) (by omega) (by omega);refine⟨r, by rw[B9 hF]; exact h2,?_⟩;rcases h3 with ⟨h3,U⟩ | h3
    ·refine .inl ⟨h3, λi hi a2=>?_⟩;by_cases a1:i+1=n
     ·subst a1; exact λe=>O e.symm
     ·exact U i hi (by omega)
    ·exact .inr h3
 unfold F0;by_cases h2:l.length<2
 ·rw[if_pos (by simp; omega)];exact⟨l,rfl, by simp; intro i hi; omega⟩
 ·rw[if_neg (by simp; omega)];obtain⟨r,e1,e2⟩:=key (l.length - 1) 1 rfl (by omega) (by omega);rw[show (1:Int)=((1:Nat):Int) from rfl,e1];rcases e2 with ⟨rfl,h3⟩ | ⟨c,rfl,h3,i,hi,U⟩
  ·exact⟨l,rfl, by simp; exact λi hi=>h3 i hi (by omega)⟩
  ·exact⟨c,rfl,⟨λh=>absurd h h3, λh=>absurd U (h i hi)⟩⟩
theorem z15p (l:List V3):Bf l=true↔(∀ i (h:i+1<l.length),kd (l[i]'(by omega))<=kd l[i+1])/\∀ i (h:i+1<l.length),l[i]'(by omega)≠l[i+1]:=by
 rw[TP]
 constructor
 ·intro h;refine⟨λi hi=>Nat.le_of_lt (h i hi), λi hi e=>?_⟩
  have:=h i hi
  rw[e] at this; omega
 ·rintro⟨h1,h2⟩ i hi
  have:=h1 i hi
  rcases Nat.lt_or_eq_of_le this with h | h
  ·exact h
  ·exact absurd (Hu h) (h2 i hi)
end
section
open Go Go.Shelf Go.RowKit Go.Lib Go.Sort
def cfID (x y:V3):Int:=Lib.compareBytes x.toList y.toList
theorem ltID (x y:V3):ltOf cfID x y=decide (kd x<kd y):=by
 unfold ltOf cfID;rw[Ki,P3]
theorem TQ:SWO (ltOf cfID) where
 irrefl x:=by rw[ltID]; simp
 trans x y z h1 h2:=by rw[ltID] at *; simp at *; omega
 ntrans x y z h1 h2:=by rw[ltID] at *; simp at *; omega
def GJ (l:List V3):List V3:=l.mergeSort λx y=>!(ltOf cfID) y x
theorem MC (l:List V3):(GJ l).length=l.length:=List.length_mergeSort l
theorem TR (l:List V3) (x:V3):x∈GJ l↔x∈l:=List.mem_mergeSort
theorem TS (l:List V3):(GJ l).Pairwise λx y=>kd x<=kd y:=by
 have h:=List.pairwise_mergeSort (le:=λx y=>!(ltOf cfID) y x) (λa b c h1 h2=>by
  rw[ltID] at *; simp at *; omega) (λa b=>by rw[ltID,ltID]; simp; omega) l
 exact h.imp λ{a b} M=>by rw[ltID] at M; simp at M; omega
def FF (l:List V3):Option (List V3):=chk (l.length<=1000000)>>=λ_=>some (GJ l)
theorem z16w (M:Value) (c0:List V3):Aj Tryz.prog 78 [.val M,.val (.func (.func 44) #[] #[])] [(1,some (M,.list (Av 32 u8R) 61 c0))] (FF c0) (λr nv=>⟨[],[(1,some (M,.list (Av 32 u8R) 61 r))]⟩):=by
 refine Tt GJ MC (λcap w=>?_) (λblk cap d w hH hb U=>?_) M c0
 ·exact AnyF.slices_SortFunc_none Mu none cap _ w
 ·have eg:∀ args w,(callFunc 44 args).run Tryz.prog w=.ok (.enter 44 args) w:=enters_of func44 (by kernel_rfl) rfl
  exact AnyQ.slices_SortFunc_total Mu 32 Tryz.isAgg61 Tryz.sizeOf61 C8 IC (λx v O=>by
   unfold C8 at O;obtain⟨c,_,rfl⟩:=List.mem_map.1 O;rfl) cfID TQ 44 #[] blk 0 cap d w eg (λm os dk _ x y=>z10b x y _) hH hb U (λx y h1 h2=>by
   rw[ltID] at h1 h2;simp at h1 h2
   exact Hu (by omega))
theorem TU (M:Value) (c0:List V3):Aj Tryz.prog 78 [.val M,.val (.func (.func 79) #[] #[])] [(1,some (M,.list (Av 32 u8R) 61 c0))] (FF c0) (λr nv=>⟨[],[(1,some (M,.list (Av 32 u8R) 61 r))]⟩):=by
 refine Tt GJ MC (λcap w=>?_) (λblk cap d w hH hb U=>?_) M c0
 ·exact AnyF.slices_SortFunc_none Mu none cap _ w
 ·have eg:∀ args w,(callFunc 79 args).run Tryz.prog w=.ok (.enter 79 args) w:=enters_of func79 (by kernel_rfl) rfl
  exact AnyQ.slices_SortFunc_total Mu 32 Tryz.isAgg61 Tryz.sizeOf61 C8 IC (λx v O=>by
   unfold C8 at O;obtain⟨c,_,rfl⟩:=List.mem_map.1 O;rfl) cfID TQ 79 #[] blk 0 cap d w eg (λm os dk _ x y=>zxm x y _) hH hb U (λx y h1 h2=>by
   rw[ltID] at h1 h2;simp at h1 h2
   exact Hu (by omega))
end
section
open Go Go.Shelf Go.RowKit Go.Lib
theorem MD {P:Program} {k:Nat} (w:World) (dT sT ty elem:TypeId) (g o dLen dCap:Nat) (a:Addr) (sLen sCap:Nat) (cur:Array Value) (t:TypeId) (cs:List Value)
  (hu:P.underlying dT=some (.slice elem)) (hs:(P.info? elem).map (·.size)=some k)
  (hg:w.heap[g]? = some (.cells cur t (0,0))) (hn:cs.length=Nat.min sLen dLen * k)
  (M:∀ j v,cs[j]? = some v->w.cell? (a.add j)=some v) (O:o+cs.length<=cur.size) (h1:∀ v∈cs,v.oneCell'=true) :
  (Builtin.copy_ #[dT,sT] ty #[.slice (some ⟨g,o,none⟩) dLen dCap,.slice (some a) sLen sCap]).run P w =
   .ok (goInt (Nat.min sLen dLen)) (w.setRow g (cur.toList.take o++cs++cur.toList.drop (o+cs.length)).toArray):=by
 have hl:=run_firstCells_some (P:=P) w k (Nat.min sLen dLen) a sLen sCap cs hn M;have a1:=run_storeCells_at P g o t cs 0 cur w hg (by simpa using O) h1
 cases U:P.info? elem with
 | none=>simp[U] at hs
 | some i =>
  have hi:i.size=k:=by simpa [U] using hs
  simp[Builtin.copy_,run_underlying hu,Builtin.lenOf,sizeOf,typeInfo,U,hi,hl,a1]
theorem z169 {P:Program} (w:World) {o:Oper} {a:Act} {K:Act->World->Prop} {Q:Exit->Act->World->Prop} (d s:Operand) (t t':TypeId)
  (M:o.op=.call { callee:=.builtin .copy,args:=#[d,s],argTypes:=#[t,t'] }) (v u:Value) (hd:a.eval d=v) (O:a.eval s=u) {v':Value} {w':World}
  (U:(Builtin.copy_ #[t,t'] o.type #[v,u]).run P w=.ok v' w') (h:K (a.put o.dst v') w'):o.wp P a w K Q:=by
 unfold Oper.wp execOp;simp only[M,resolve,invoke,builtin,Sem.run_bind,Sem.run_pure,Result.andThen_ok,List.map_toArray,List.map_cons,List.map_nil,hd,O,U];exact h
theorem TV {P:Program} (w:World) {ops:Array Oper} {rest:List Oper} {o:Oper} {a:Act} {Q:Exit->Act->World->Prop} (M:o.guard=none) (d s:Operand) (t t':TypeId)
  (O:o.op=.call { callee:=.builtin .copy,args:=#[d,s],argTypes:=#[t,t'] }) (v u:Value) (hd:a.eval d=v) (U:a.eval s=u) {v':Value} {w':World}
  (hr:(Builtin.copy_ #[t,t'] o.type #[v,u]).run P w=.ok v' w') (h:wpList P ops Q rest (a.put o.dst v') w'):wpList P ops Q (o::rest) a w :=
 wpList_plain M λ_ hK=>z169 w d s t t' O v u hd U hr (hK _ _ h)
theorem TW {P:Program} {ops:Array Oper} {o:Oper} {a:Act} {w:World} {K:Act->World->Prop} {Q:Exit->Act->World->Prop} {E:Prop}
  (O:o.guard=none) (d x:Operand) (dT sT:TypeId) (M:o.op=Op.call { callee:=Callee.builtin Builtin.copy,args:=#[d,x],argTypes:=#[dT,sT] })
  (v u:Value) (hd:a.eval d=v) (U:a.eval x=u) {v':Value} {w':World} (hr:(Builtin.copy_ #[dT,sT] o.type #[v,u]).run P w=.ok v' w') (hK:K (a.put o.dst v') w') :
  if Region.wanted o (yielded ops a.tmps)=true then Oper.wp P o a w K Q else E:=by
 have hw:Region.wanted o (yielded ops a.tmps)=true:=by simp[Region.wanted,O]
 rw[if_pos hw];unfold Oper.wp;simp[execOp,M,resolve,invoke,builtin,hd,U,hr,Result.andThen];exact hK
section
variable (b n c i vb vc:Nat) (xs ys:List Value) (C V:Array Value) (w:World)
theorem TX:TI Tryz.prog 61 (.agg (Array.replicate 32 (.int .u8 0))) 32 32:=Ax
theorem TY:(Tryz.prog.info? 61).map (·.size)=some 32:=by kernel_rfl
theorem z11k (hi:i<n) (ai:n+1<=c) (aj:c<=9223372036854775807) (a8:vb≠b) (hC:w.heap[b]? = some (.cells C 61 (0,0))) (hV:w.heap[vb]? = some (.cells V 61 (0,0)))
  (hCs:C.size=c * 32) (a1:C.toList.take (n * 32)=xs) (a2:V.toList.take 32=ys) (O:ys.length=32) (h1x:∀ v∈xs,v.oneCell'=true) (h1y:∀ v∈ys,v.oneCell'=true) :
  Calls Tryz.prog 46 #[.slice (some ⟨b,0,none⟩) n c,.int .i64 i,.slice (some ⟨vb,0,none⟩) 1 vc] w λe w' =>
   e=.returned (.slice (some ⟨b,0,none⟩) (n+1) c)/\∃ D,w'=w.drew.setRow b D/\D.size=C.size/\D.toList.take ((n+1) * 32)=xs.take (i * 32)++ys++xs.drop (i * 32):=by
 have aa:=TY;have a6:Tryz.prog.underlying 31=some (.slice 61):=underlying31;have ab:∀ j v,C.toList[j]? = some v->w.cell? ⟨b,j,none⟩=some v:=λj v M=>by
  rw[Array.getElem?_toList] at M; unfold World.cell?; rw[hC]; exact M
 have af:∀ j v,V.toList[j]? = some v->w.cell? ⟨vb,j,none⟩=some v:=λj v M=>by
  rw[Array.getElem?_toList] at M; unfold World.cell?; rw[hV]; exact M
 have a7:xs.length=n * 32:=by rw[<- a1,List.length_take,Array.length_toList]; omega
 have ac:∀ j v,xs[j]? = some v->C.toList[j]? = some v:=λj v M=>by
  rw[<- a1,List.getElem?_take] at M; split at M
  ·exact M
  ·cases M
 have ad:∀ j v,ys[j]? = some v->V.toList[j]? = some v:=λj v M=>by
  rw[<- a2,List.getElem?_take] at M; split at M
  ·exact M
  ·cases M
 have hVs:V.size≠0:=by
  have:ys.length<=V.size:=by rw[<- a2,List.length_take,Array.length_toList]; omega
  omega
 have ah:∀ lb cb,(callFunc 69 #[.slice (some ⟨vb,0,none⟩) 1 vc,.slice (some ⟨b,(i+1) * 32,none⟩) lb cb]).run Tryz.prog w=.ok (.value (.bool false)) w:=λlb cb=>by
  rw[run_callFunc_extern func69 (by kernel_rfl) (by kernel_rfl) (by kernel_rfl) (e:=Extern.SlicesOverlaps.overlaps #[31,31] #[4]) (by kernel_rfl),
   Lib.run_overlaps_apart w 31 4 61 a6 32 Tryz.sizeOf61 ⟨vb,0,none⟩ ⟨b,(i+1) * 32,none⟩ 1 vc lb cb a8 61 61 V.size C.size (by simp[World.shape?,hV]) (by simp[World.shape?,hC]) (by omega) (by simp[World.frozen?,hV]) (by simp[World.frozen?,hV])]
  rfl
 have U:(xs.drop (i * 32)).length=(n - i) * 32:=by rw[List.length_drop,a7,Nat.sub_mul]
 have hmin1:Nat.min (n+1 - i) (n - i)=n - i:=by simp only[Nat.min_def]; split <;> omega
 have hcp1:∀ ty dc sc,(Builtin.copy_ #[31,31] ty #[.slice (some ⟨b,(i+1) * 32,none⟩) (n - i) dc,.slice (some ⟨b,i * 32,none⟩) (n+1 - i) sc]).run Tryz.prog w.drew =
   .ok (goInt ((n - i:Nat):Int)) (w.drew.setRow b (C.toList.take ((i+1) * 32)++xs.drop (i * 32)++C.toList.drop ((i+1) * 32+(xs.drop (i * 32)).length)).toArray):=λty dc sc=>by
  have e:=MD (P:=Tryz.prog) w.drew 31 31 ty 61 b ((i+1) * 32) (n - i) dc ⟨b,i * 32,none⟩ (n+1 - i) sc C 61 (xs.drop (i * 32)) a6 aa hC (by rw[hmin1,U])
   (λj v M=>by rw[Addr.add_lit]; exact ab _ v (ac _ v (by rwa [List.getElem?_drop] at M))) (by rw[U,hCs]; omega) (λv hv=>h1x v (List.mem_of_mem_drop hv))
  rw[hmin1] at e; exact e
 obtain⟨D1,hD1⟩:∃ D1,D1=(C.toList.take ((i+1) * 32)++xs.drop (i * 32)++C.toList.drop ((i+1) * 32+(xs.drop (i * 32)).length)).toArray:=⟨_,rfl⟩
 rw[<- hD1] at hcp1;have hD1s:D1.size=C.size:=by
  rw[hD1]; simp only[List.size_toArray,List.length_append,List.length_take,List.length_drop,Array.length_toList,a7]; omega
 obtain⟨W1,hW1⟩:∃ W1,W1=w.drew.setRow b D1:=⟨_,rfl⟩
 have hB1:W1.heap[b]? = some (.cells D1 61 (0,0)):=by rw[hW1]; exact setRow_heap w.drew b C D1 61 (0,0) hC
 have hV1:W1.heap[vb]? = some (.cells V 61 (0,0)):=by rw[hW1,setRow_other w.drew b vb D1 a8]; exact hV
 obtain⟨D2,hD2⟩:∃ D2,D2=(D1.toList.take (i * 32)++ys++D1.toList.drop (i * 32+ys.length)).toArray:=⟨_,rfl⟩
 have hcp2:∀ ty dc,(Builtin.copy_ #[31,31] ty #[.slice (some ⟨b,i * 32,none⟩) (n+1 - i) dc,.slice (some ⟨vb,0,none⟩) 1 vc]).run Tryz.prog W1=.ok (goInt 1) (W1.setRow b D2):=λty dc=>by
  have hm:Nat.min 1 (n+1 - i)=1:=by simp only[Nat.min_def]; split <;> omega
  have e:=MD (P:=Tryz.prog) W1 31 31 ty 61 b (i * 32) (n+1 - i) dc ⟨vb,0,none⟩ 1 vc D1 61 ys a6 aa hB1 (by rw[hm,O])
   (λj v M=>by
    rw[Addr.add_lit,Nat.zero_add]
    have:=ad j v M
    rw[Array.getElem?_toList] at this
    unfold World.cell?; rw[hV1]; exact this) (by rw[O,hD1s,hCs]; omega) h1y
  rw[hm,<- hD2] at e; exact e
 have ae:D2.size=C.size/\D2.toList.take ((n+1) * 32)=xs.take (i * 32)++ys++xs.drop (i * 32):=by
  have t1:D1.toList.take (i * 32)=xs.take (i * 32):=by
   rw[hD1,<- a1,List.take_take];simp only[List.append_assoc];rw[List.take_append_of_le_length (by rw[List.length_take,Array.length_toList]; omega),List.take_take]
   congr 1; omega
  have t2:(D1.toList.drop ((i+1) * 32)).take ((n - i) * 32)=xs.drop (i * 32):=by
   have el:(C.toList.take ((i+1) * 32)).length=(i+1) * 32:=by rw[List.length_take,Array.length_toList]; omega
   rw[hD1];simp only[List.append_assoc];rw[List.drop_append,el,Nat.sub_self,List.drop_zero,List.drop_eq_nil_of_le (by rw[el]; omega),List.nil_append,List.take_append_of_le_length (by rw[U]; omega),List.take_of_length_le (by rw[U]; omega)]
  constructor
  ·rw[hD2]; simp only[List.size_toArray,List.length_append,List.length_take,List.length_drop,Array.length_toList,O]; omega
  ·rw[hD2];simp only[List.append_assoc];have el:(D1.toList.take (i * 32)).length=i * 32:=by rw[List.length_take,Array.length_toList]; omega
   rw[List.take_append,el,List.take_of_length_le (by rw[el]; omega),List.take_append,O,List.take_of_length_le (l:=ys) (by rw[O]; omega),t1,
    show i * 32+32=(i+1) * 32 by omega, show (n+1) * 32 - i * 32 - 32=(n - i) * 32 by omega,t2]
 have ak:¬ ((1:Int)=0):=by decide
 have am:¬ ((i:Int)=(n:Int)):=by omega
 have ao:IntKind.i64.wrap ((i:Int)+1)=(i:Int)+1:=by rw[IntKind.wrap_i64]; omega
 have ap:(0:Int)<=(i:Int)+1:=by omega
 have aq:i<=n:=by omega
 have ar:((i:Int)+1).toNat=i+1:=by omega
 have av:¬ (c=i+1):=by omega
 have aw:(i:Int)<=(n:Int)+1:=by omega
 have ax:¬ (c=i):=by omega
 subst hW1
 clear ab af ac ad hD1 hD2 a1 a2 hC hV hB1 hV1 h1x h1y U hmin1 a7 O
 go_enter func46,Tryz.ntmps46
 go_wp2_with (simp only[ah])
 go_region_law (refine TW rfl _ _ 31 31 rfl (.slice (some ⟨b,(i+1) * 32,none⟩) (n - i) (c - (i+1))) (.slice (some ⟨b,i * 32,none⟩) (n+1 - i) (c - i)) (by simp[Act.eval,Act.put]) (by simp[Act.eval,Act.put]) (hcp1 3 (c - (i+1)) (c - i)) ?_)
 go_wp2_with (at_builtin; refine TV _ rfl _ _ 31 31 rfl _ _ rfl rfl (hcp2 _ _) ?_)
 go_ret
 exact⟨rfl,D2, by rw[setRow_setRow],ae⟩
theorem z16r (hi:i<n) (aq:n<=c) (ab:c<n+1) (hn:n<=1000000) (aw:vb≠b) (hC:w.heap[b]? = some (.cells C 61 (0,0))) (hV:w.heap[vb]? = some (.cells V 61 (0,0)))
  (hCs:C.size=c * 32) (a2:C.toList.take (n * 32)=xs) (ac:V.toList.take 32=ys) (O:ys.length=32) (h1x:∀ v∈xs,v.oneCell'=true) (h1y:∀ v∈ys,v.oneCell'=true) :
  Calls Tryz.prog 46 #[.slice (some ⟨b,0,none⟩) n c,.int .i64 i,.slice (some ⟨vb,0,none⟩) 1 vc] w λe w' =>
   ∃ G,e=.returned (.slice (some ⟨w.heap.size,0,none⟩) (n+1) G)/\n+1<=G/\G<=maxLen/\∃ D,w'.heap[w.heap.size]? = some (.cells D 61 (0,0))/\w.grownBy w' none/\D.size=G * 32/\D.toList.take ((n+1) * 32)=xs.take (i * 32)++ys++xs.drop (i * 32):=by
 have ad:=TY;have a6:Tryz.prog.underlying 31=some (.slice 61):=underlying31;have u3:Tryz.prog.underlying 3=some (.int .i64):=underlying3;have ar:c=n:=by omega
 subst ar;have ae:∀ j v,C.toList[j]? = some v->w.cell? ⟨b,j,none⟩=some v:=λj v M=>by
  rw[Array.getElem?_toList] at M; unfold World.cell?; rw[hC]; exact M
 have a1:xs.length=c * 32:=by rw[<- a2,List.length_take,Array.length_toList]; omega
 have a7:∀ j v,xs[j]? = some v->C.toList[j]? = some v:=λj v M=>by
  rw[<- a2,List.getElem?_take] at M; split at M
  ·exact M
  ·cases M
 have af:∀ j v,ys[j]? = some v->V.toList[j]? = some v:=λj v M=>by
  rw[<- ac,List.getElem?_take] at M; split at M
  ·exact M
  ·cases M
 have ah:b<w.heap.size:=(Array.getElem?_eq_some_iff.1 hC).1;have ai:vb<w.heap.size:=(Array.getElem?_eq_some_iff.1 hV).1;have aj:(c:Int)+1 - (i:Int)=((c+1 - i:Nat):Int):=by omega
 obtain⟨i0,ak,am,ao,a8⟩:=TX;have aa:(Builtin.firstCells i0.size i (.slice (some ⟨b,0,none⟩) i c)).run Tryz.prog w.drew=.ok (xs.take (i * 32)).toArray w.drew:=by
  rw[ao]
  exact run_firstCells_some w.drew 32 i ⟨b,0,none⟩ i c (xs.take (i * 32)) (by rw[List.length_take]; omega) (λj v M=>by
   rw[Addr.add_lit,Nat.zero_add];rw[List.getElem?_take] at M
   split at M
   ·exact ae j v (a7 j v M)
   ·cases M)
 obtain⟨G,hG⟩:∃ G,G=grownCap w (c+1) c 61:=⟨_,rfl⟩
 obtain⟨ROW,hROW⟩:∃ ROW:Array Value,ROW=(xs.take (i * 32)).toArray++Builtin.zeroCells (Array.replicate 32 (.int .u8 0)) (c+1 - i)++Builtin.zeroCells (Array.replicate 32 (.int .u8 0)) (G - (c+1)):=⟨_,rfl⟩
 have av:∀ ty,(Builtin.append_ #[31,3] ty #[.slice (some ⟨b,0,none⟩) i c,.int .i64 ((c:Int)+1 - (i:Int))]).run Tryz.prog w =
   .ok (.slice (some ⟨w.heap.size,0,none⟩) (c+1) G) (w.drew.alloc (.cells ROW 61)):=λty=>by
  have h:=Lib.run_append_grow_zeros w 31 3 ty 61 i0 _ .i64 .i64 a6 u3 ak am (some ⟨b,0,none⟩) i c (xs.take (i * 32)) aa (c+1 - i) (by omega) (by omega) (by omega) (by omega) (by rw[a8]; omega) (by rw[a8, show i+(c+1 - i)=c+1 by omega]; exact growslice_fits (by omega) (by omega));rw[show i+(c+1 - i)=c+1 by omega] at h;rw[aj,hROW,hG];exact h
 have hGn:c+1<=G:=by rw[hG]; exact grownCap_ge w _ _ _
 have hGm:G<=maxLen:=by rw[hG]; exact grownCap_le_maxLen w (c+1) c 61 (by unfold maxLen; omega)
 have hG63:G<=9223372036854775807:=by unfold maxLen at hGm; omega
 have hRs:ROW.size=G * 32:=by
  rw[hROW]; simp only[Array.size_append,List.size_toArray,List.length_take,size_zeroCells,Array.size_replicate,a1]; omega
 have hRt:ROW.toList.take (i * 32)=xs.take (i * 32):=by
  rw[hROW]; simp only[Array.toList_append,List.append_assoc];rw[List.take_append_of_le_length (by rw[List.length_take]; omega),List.take_take]; congr 1; omega
 obtain⟨D1,hD1⟩:∃ D1,D1=(ROW.toList.take (i * 32)++ys++ROW.toList.drop (i * 32+ys.length)).toArray:=⟨_,rfl⟩
 have hD1s:D1.size=G * 32:=by
  rw[hD1]; simp only[List.size_toArray,List.length_append,List.length_take,List.length_drop,Array.length_toList,O]; omega
 obtain⟨D2,hD2⟩:∃ D2,D2=(D1.toList.take ((i+1) * 32)++xs.drop (i * 32)++D1.toList.drop ((i+1) * 32+(xs.drop (i * 32)).length)).toArray:=⟨_,rfl⟩
 have U:(xs.drop (i * 32)).length=(c - i) * 32:=by rw[List.length_drop,a1,Nat.sub_mul]
 have hD2s:D2.size=G * 32:=by
  rw[hD2]; simp only[List.size_toArray,List.length_append,List.length_take,List.length_drop,Array.length_toList,a1]; omega
 have ap:D2.toList.take ((c+1) * 32)=xs.take (i * 32)++ys++xs.drop (i * 32):=by
  have e1:(ROW.toList.take (i * 32)).length=i * 32:=by rw[List.length_take,Array.length_toList]; omega
  have e2:D1.toList.take ((i+1) * 32)=xs.take (i * 32)++ys:=by
   rw[hD1]; simp only[List.append_assoc];rw[List.take_append,e1,List.take_of_length_le (by rw[e1]; omega),List.take_append_of_le_length (by rw[O]; omega),List.take_of_length_le (l:=ys) (by rw[O]; omega),hRt]
  have e3:(D1.toList.take ((i+1) * 32)).length=(i+1) * 32:=by rw[List.length_take,Array.length_toList]; omega
  rw[hD2]; simp only[List.append_assoc];rw[List.take_append,e3,List.take_of_length_le (by rw[e3]; omega),List.take_append_of_le_length (by rw[U]; omega),List.take_of_length_le (l:=xs.drop (i * 32)) (by rw[U]; omega),e2,List.append_assoc]
 have hcpA:∀ (W:World),W.heap=w.heap.push (.cells ROW 61)->∀ ty dc,(Builtin.copy_ #[31,31] ty #[.slice (some ⟨w.heap.size,i * 32,none⟩) (c+1 - i) dc,.slice (some ⟨vb,0,none⟩) 1 vc]).run Tryz.prog W=.ok (goInt 1) (W.setRow w.heap.size D1):=λW hW ty dc=>by
  have hm:Nat.min 1 (c+1 - i)=1:=by simp only[Nat.min_def]; split <;> omega
  have hN:W.heap[w.heap.size]? = some (.cells ROW 61 (0,0)):=by rw[hW,Array.getElem?_push_size]
  have hV1:W.heap[vb]? = some (.cells V 61 (0,0)):=by rw[hW,Array.getElem?_push_lt ai]; rw[<- hV,Array.getElem?_eq_getElem ai]
  have e:=MD (P:=Tryz.prog) W 31 31 ty 61 w.heap.size (i * 32) (c+1 - i) dc ⟨vb,0,none⟩ 1 vc ROW 61 ys a6 ad hN (by rw[hm,O])
   (λj v M=>by
    rw[Addr.add_lit,Nat.zero_add]
    have:=af j v M
    rw[Array.getElem?_toList] at this
    unfold World.cell?; rw[hV1]; exact this) (by rw[O,hRs]; omega) h1y
  rw[hm,<- hD1] at e; exact e
 have hcpB:∀ (W W0:World),W0.heap=w.heap.push (.cells ROW 61)->W.heap=(W0.setRow w.heap.size D1).heap->∀ ty dc sc,(Builtin.copy_ #[31,31] ty #[.slice (some ⟨w.heap.size,(i+1) * 32,none⟩) (c - i) dc,.slice (some ⟨b,i * 32,none⟩) (c - i) sc]).run Tryz.prog W=.ok (goInt ((c - i:Nat):Int)) (W.setRow w.heap.size D2):=λW W0 hW0 hW ty dc sc=>by
  have hm:Nat.min (c - i) (c - i)=c - i:=Nat.min_self _;have hN:W.heap[w.heap.size]? = some (.cells D1 61 (0,0)):=by rw[hW]; exact setRow_heap W0 w.heap.size ROW D1 61 (0,0) (by rw[hW0,Array.getElem?_push_size])
  have hB1:W.heap[b]? = some (.cells C 61 (0,0)):=by
   rw[hW,setRow_other W0 w.heap.size b D1 (by omega),hW0,Array.getElem?_push_lt ah,<- hC,Array.getElem?_eq_getElem ah]
  have e:=MD (P:=Tryz.prog) W 31 31 ty 61 w.heap.size ((i+1) * 32) (c - i) dc ⟨b,i * 32,none⟩ (c - i) sc D1 61 (xs.drop (i * 32)) a6 ad hN (by rw[hm,U])
   (λj v M=>by
    rw[Addr.add_lit]
    have:=a7 _ v (by rwa [List.getElem?_drop] at M)
    rw[Array.getElem?_toList] at this
    unfold World.cell?; rw[hB1]; exact this) (by rw[U,hD1s]; omega) (λv hv=>h1x v (List.mem_of_mem_drop hv))
  rw[hm,<- hD2] at e; exact e
 have ax:¬ ((1:Int)=0):=by decide
 have ay:¬ ((i:Int)=(c:Int)):=by omega
 have az:(c:Int)<(c:Int)+1:=by omega
 have b0:IntKind.i64.wrap ((i:Int)+1)=(i:Int)+1:=by rw[IntKind.wrap_i64]; omega
 have b1:(0:Int)<=(i:Int)+1:=by omega
 have b2:i<=c:=by omega
 have b3:((i:Int)+1).toNat=i+1:=by omega
 have hGi:¬ (G=i):=by omega
 have hGim:¬ (G=i+1):=by omega
 have b4:¬ (c=i):=by omega
 have b5:(i:Int)<=(c:Int):=by omega
 have hE1:((w.alloc (.cells ROW 61)).drew).heap=w.heap.push (.cells ROW 61):=rfl;have hF1:(((w.alloc (.cells ROW 61)).drew.setRow w.heap.size D1).drew).heap=(((w.alloc (.cells ROW 61)).drew).setRow w.heap.size D1).heap:=rfl
 clear hROW aa hG hRt hD1 hD2 a2 ac hC hV h1x h1y U a1 O ae a7 af ak am ao a8 aj aq ab
 go_enter func46,Tryz.ntmps46
 go_wp2_with (first
  | (at_builtin; refine Lib.wpList_append_run _ rfl _ _ _ _ rfl _ _ rfl rfl _ _ (av _) ?_)
  | (at_builtin; refine TV _ rfl _ _ 31 31 rfl _ _ rfl rfl (hcpA _ hE1 _ _) ?_))
 go_region_law (refine TW rfl _ _ 31 31 rfl (.slice (some ⟨w.heap.size,(i+1) * 32,none⟩) (c - i) (G - (i+1))) (.slice (some ⟨b,i * 32,none⟩) (c - i) (c - i)) (by simp[Act.eval,Act.put]) (by simp[Act.eval,Act.put]) (hcpB _ _ hE1 hF1 3 (G - (i+1)) (c - i)) ?_)
 go_wp2
 go_ret
 refine⟨G,rfl,hGn,hGm,D2,?_,⟨rfl,rfl,rfl,?_, λk hk _=>?_⟩,hD2s,ap⟩
 ·exact setRow_heap _ w.heap.size D1 D2 61 (0,0) (setRow_heap ((w.alloc (.cells ROW 61)).drew) w.heap.size ROW D1 61 (0,0) (by rw[hE1,Array.getElem?_push_size]))
 ·rw[setRow_size]; show _<=((w.alloc (.cells ROW 61)).drew.setRow w.heap.size D1).heap.size; rw[setRow_size,hE1,Array.size_push]; omega
 ·rw[setRow_other _ w.heap.size k D2 (by omega)]; show ((w.alloc (.cells ROW 61)).drew.setRow w.heap.size D1).heap[k]? = _;rw[setRow_other _ w.heap.size k D1 (by omega),hE1,Array.getElem?_push_lt hk,Array.getElem?_eq_getElem hk]
theorem z1a2 (p0 p1:Value) (M:w.ownsRow 0 61 32 p0 n xs) (h1:w.ownsRow 0 61 32 p1 1 ys) (hn:n<=1000000) (h1y:∀ v∈ys,v.oneCell'=true) :
  Calls Tryz.prog 46 #[p0,.int .i64 n,p1] w λe w'=>∃ v',e=.returned v'/\w'.ownsRow 0 61 32 v' (n+1) (xs++ys)/\w.grownBy w' p0.ownBlock/\∀ b,v'.ownBlock=some b->p0.ownBlock=some b\/w.heap.size<=b:=by
 have a1:Tryz.prog.underlying 31=some (.slice 61):=underlying31;obtain⟨p,c,rfl⟩:=DT M;obtain⟨q,d,rfl⟩:=DT h1;obtain⟨p',c',w',O,ho,hg,hs⟩:=QL (P:=Tryz.prog) (rt:=31) (w:=w) a1 TX (by simp[Value.cells]) (by decide) M (Rd.of_own h1) h1y (by omega) (by omega) (Nat.zero_le _);have a6:¬ ((1:Int)=0):=by decide
 have a7:n<=c:=by
  rcases M.2 with ⟨e,rfl⟩ | ⟨g,cap,cur,e,_,_,h,_⟩
  ·omega
  ·simp only[Value.slice.injEq] at e; omega
 have a2:c<=9223372036854775807:=by
  rcases M.2 with ⟨e,rfl⟩ | ⟨g,cap,cur,e,_,_,_,h,_⟩
  ·simp only[Value.slice.injEq] at e; omega
  ·simp only[Value.slice.injEq] at e; unfold maxLen at h; omega
 have a8:n<=n:=Nat.le_refl _;have U:p=none->n=0/\c=0:=λe=>by
  rcases M.2 with ⟨e',rfl⟩ | ⟨g,cap,cur,e',_⟩
  ·simp only[Value.slice.injEq] at e'; omega
  ·rw[e] at e'; simp at e'
 clear M h1 h1y
 go_enter func46,Tryz.ntmps46
 cases p with
 | none =>
  obtain⟨rfl,rfl⟩:=U rfl
  clear U
  go_wp2_with (at_builtin; refine Lib.wpList_append_run _ rfl _ _ _ _ rfl _ _ rfl rfl _ _ O ?_)
  go_ret
  exact⟨_,rfl,ho,hg,hs⟩
 | some a =>
  clear U
  obtain⟨ab,ao,asp⟩:=a
  go_wp2_with (at_builtin; refine Lib.wpList_append_run _ rfl _ _ _ _ rfl _ _ rfl rfl _ _ O ?_)
  all_goals (go_ret; exact⟨_,rfl,ho,hg,hs⟩)
end
end
section
theorem relB {S S':Blk} {w w':World}:∀ {l:List UInt8} {cs:List Value},B5 u8R S w cs l->B5 u8R S' w' cs l
 | [],cs,h=>h
 | x::l,cs,h=>by
  obtain⟨c,d,rfl,h1,h2⟩:=h;exact⟨c,d,rfl,h1,relB h2⟩
theorem relD {S S':Blk} {w w':World}:∀ {l:List V3} {cs:List Value},B5 (Av 32 u8R) S w cs l->B5 (Av 32 u8R) S' w' cs l
 | [],cs,h=>h
 | x::l,cs,h=>by
  obtain⟨c,d,rfl,h1,h2⟩:=h;exact⟨c,d,rfl,relB h1,relD h2⟩
def insF (c0:List V3) (i:Int) (M:List V3):Option (List V3) :=
 chk (0<=i/\i.toNat<=c0.length/\c0.length<=1000000/\M.length=1)>>=λ_=>some (c0.take i.toNat++M++c0.drop i.toNat)
theorem z19s (U p1:Value) (n i:Nat) (xs ys:List Value) (w:World) (hi:i<=n) (h0:w.ownsRow 0 61 32 U n xs) (h1:w.ownsRow 0 61 32 p1 1 ys) (ae:∀ b,U.ownBlock=some b->p1.ownBlock≠some b) (hn:n<=1000000)
  (h1x:∀ v∈xs,v.oneCell'=true) (h1y:∀ v∈ys,v.oneCell'=true) :
  Calls Tryz.prog 46 #[U,.int .i64 i,p1] w λe w'=>∃ v',e=.returned v'/\w'.ownsRow 0 61 32 v' (n+1) (xs.take (i * 32)++ys++xs.drop (i * 32))/\w.grownBy w' U.ownBlock/\∀ b,v'.ownBlock=some b->U.ownBlock=some b\/w.heap.size<=b:=by
 have aj:=h0.1;by_cases af:i=n
 ·subst af;refine(z1a2 i xs ys w U p1 h0 h1 hn h1y).mono λe w' ⟨v',a,b,c,d⟩=>⟨v',a,?_,c,d⟩;rw[List.take_of_length_le (by omega),List.drop_eq_nil_of_le (by omega),List.append_nil];exact b
 ·rcases h0.2 with ⟨rfl,rfl⟩ | ⟨b,c,C,rfl,-,hC,ah,aa,hCs,ab⟩
  ·omega
  rcases h1.2 with ⟨rfl,e⟩ | ⟨vb,vc,V,rfl,-,hV,-,-,hVs,ac⟩
  ·omega
  have ad:vb≠b:=λe=>ae b rfl (by rw[e]; rfl);have a6:ys.length=32:=by have:=h1.1; omega
  have a7:(xs.take (i * 32)++ys++xs.drop (i * 32)).length=(n+1) * 32:=by
   simp only[List.length_append,List.length_take,List.length_drop,a6]; omega
  by_cases O:n+1<=c
  ·refine(z11k b n c i vb vc xs ys C V w (by omega) O (by unfold maxLen at aa; omega) ad hC hV hCs ab (by simpa using ac) a6 h1x h1y).mono λe w' ⟨a,D,M,a3,a4⟩=>⟨_,a,?_,?_, λb' a8=>.inl a8⟩
   ·refine⟨a7,.inr ⟨b,c,D,rfl,Nat.zero_le _,?_,O,aa,a3.trans hCs,a4⟩⟩;rw[M]; exact setRow_heap w.drew b C D 61 (0,0) hC
   ·rw[M];refine⟨rfl,rfl,rfl,?_, λk hk ai=>?_⟩
    ·rw[setRow_size]; exact Nat.le_refl _
    ·rw[setRow_other w.drew b k D (λe=>ai (by rw[e]; rfl))]; rfl
  ·refine(z16r b n c i vb vc xs ys C V w (by omega) ah (by omega) hn ad hC hV hCs ab (by simpa using ac) a6 h1x h1y).mono λe w' ⟨G,a,g1,g2,D,a1,M,a3,a4⟩=>⟨_,a,?_,?_, λb' a8=>.inr ?_⟩
   ·exact⟨a7,.inr ⟨w.heap.size,G,D,rfl,Nat.zero_le _,a1,g1,g2,a3,a4⟩⟩
   ·exact⟨M.os,M.tape,M.output,M.size, λk hk _=>M.block k hk (by simp)⟩
   ·simp only[Value.ownBlock,Option.some.injEq] at a8; omega
theorem z18s (p0 p1:Value) (c0 O:List V3) (i:Int):Aj Tryz.prog 46 [.val p0,.rd A2 i,.val p1] [(1,some (p0,.list (Av 32 u8R) 61 c0)),(2,some (p1,.list (Av 32 u8R) 61 O))] (insF c0 i O)
  (λr nv=>⟨[.val (nv 0)],[(100,some (nv 0,.list (Av 32 u8R) 61 r))]⟩):=by
 intro r U H vs w a1 M;have hb:(0<=i/\i.toNat<=c0.length/\c0.length<=1000000/\O.length=1)/\r=c0.take i.toNat++O++c0.drop i.toNat:=by
  unfold insF chk at U
  split at U
  ·rename_i h; simp at U; exact⟨h, by rw[<- U,List.append_assoc]⟩
  ·simp at U
 obtain⟨⟨ac,a2,hn,a6⟩,rfl⟩:=hb
 match vs,a1 with
 | [v0,v1,v2],a1 =>
 obtain⟨h0,h1,h2,_⟩:=a1;have e0:v0=p0:=h0.1;have e2:v2=p1:=h2.1;have e1:v1=.int .i64 i:=Ca h1;subst e0; subst e2; subst e1;obtain⟨j,rfl⟩:∃ j:Nat,i=(j:Int):=⟨i.toNat, by omega⟩
 simp only[Int.toNat_natCast] at a2 ⊢;obtain⟨xs,x1,x2⟩:=EG (M.conts 1 v0 _ rfl);obtain⟨ys,y1,y2⟩:=EG (M.conts 2 v2 _ rfl);rw[a6] at y1;have a7:∀ b,v0.ownBlock=some b->v2.ownBlock≠some b:=λb hb aa=>by
  obtain⟨p,c,rfl⟩:=DT x1;obtain⟨q,d,rfl⟩:=DT y1;exact M.excl 1 _ _ 2 _ _ rfl rfl (by decide) b (by rw[Ew]; exact hb) (by rw[Ew]; exact aa)
 refine(z19s v0 v2 c0.length j xs ys w a2 x1 y1 a7 hn x2.one y2.one).mono λe w' ⟨v',he,hw,hg,hs⟩=>?_;have only:∀ r v c (q:AK),lr [(100,some (v',q))] r=some (v,c)->r=100/\v=v'/\c=q:=λr v c q h=>by
  rw[BB] at h
  split at h
  ·rename_i e; cases h; exact⟨e.symm,rfl,rfl⟩
  ·simp[lr,lk] at h
 have a8:(c0.take j++O++c0.drop j).length=c0.length+1:=by
  simp only[List.length_append,List.length_take,List.length_drop,a6]; omega
 obtain⟨p',c',rfl⟩:=DT hw;refine⟨λ_=>.slice p' (c0.length+1) c',[.slice p' (c0.length+1) c'],he,⟨⟨rfl,rfl⟩,trivial⟩, λr v c h=>?_, λr v c r' v2' c2' h h' ab=>?_, λr v c h b hb=>?_,hg.os,hg.tape,hg.output,hg.size, λk hk=>?_⟩
 ·obtain⟨rfl,rfl,rfl⟩:=only _ _ _ _ h;refine Lf (B:=0) (xs:=xs.take (j * 32)++ys++xs.drop (j * 32)) (by rw[a8]; exact hw) ?_;exact((relD (x2.take j)).append (relD y2)).append (relD (x2.drop j))
 ·exact absurd ((only _ _ _ _ h).1.trans (only _ _ _ _ h').1.symm) ab
 ·obtain⟨rfl,rfl,rfl⟩:=only _ _ _ _ h;rw[Ew] at hb;rcases hs b hb with h | h
  ·exact .inr ⟨1,_,_,rfl, by obtain⟨p,c,rfl⟩:=DT x1; rw[Ew]; exact h⟩
  ·exact .inl h
 ·refine hg.block k hk.1 λe=>hk.2 ⟨1,_,_,rfl,?_⟩;obtain⟨p,c,rfl⟩:=DT x1; rw[Ew]; exact e.symm
end
section
def Hv (a0:List A4) (M:Int):Option (Sum (Sum Int Unit) Int) :=
 if decide (M<(a0.length:Int)) then
  idx a0 M>>=λU =>
  Cb U>>=λO =>
  if O != 0 then
   some (.inl (.inl O))
  else
   some (.inr (w64 (M+1)))
 else
  some (.inl (.inr ()))
def ME (a0:List A4):Option (Int) :=
 Bi (iter (Hv a0) 0) λs1 =>
 some 0
theorem zsc (a0:List A4):Aj Tryz.prog 22 [.rd (A3 A8) a0] [Am] (ME a0) (λr nv=>⟨[.rd A2 r],[(1001,some (.bool true,.glob 1 (Av 64 Aa) Bv))]⟩):=by
 refine Aq 18 func22 Z Z Z λH w=>?_;refine A0<|Zb Z<|Bt (λ(s1:Unit) M O=>Sta (ctx 18 H [Am] w) [] [Am] M O) ?_ (λs1=>?_)
 ·refine A0<|Zm Z<|Zq (Ar Z .rd Z tu22)<|Zm Z<|Zn<|AJ (λ(U:Int) M O=>Sta (ctx 18 H [Am] w) [(6,.rd (A3 A8) a0),(7,.rd A2 (a0.length:Int)),(8,.rd A2 U)] [Am] M O) (λM O h=>Zu h [1001]) (λU=>?_);refine A0<|Zq (I.lss Z Z)<|Zn<|A9<|gIf Z Z (λh3=>?_) (λh3=>?_)
  ·refine Zt<|A9<|AD<|A0<|An λx4 h5=>Zq (ixR Z Z h5 tu22 Aw Z)<|Zq (ldR Z AH)<|Eb Z (AL 1100 Aw (ZrE.nilS (ZrE.nilS ZrE.nil))) λv6=>Bh aZ [.rd (A3 aZ) [],.val (.slice none 0 0)] 1100 [] [.val (.slice none 0 0)] Z Z Z<|Bh Ad [.rd (A3 aZ) [],.rd (A3 Ad) []] 1100 [.rd (A3 aZ) []] [] Z Z Z<|BC (R:=A8) (⟨[],[]⟩:A4) 1100 Z (Sp.via (Sp.prod (Sp.prod Sp.unit)))<|Es (sto 1100 Z Z fH Z Aw)<|Zn<|A0<|Zq (ld 1100 Z Z fH AH Z)<|Zc [1001] [] func42 Z (GD _) λr7 n8=>Zb Z<|A0<|Zm Z<|Zq (I.neq Z Z)<|Zj Z (λh9=>?_) (λh9=>?_)
   ·refine A0<|Zm Z<|Zb Z<|A5<|B7<|Ap<|Bp<|Bl<|Ze [] [1001] Z
   ·refine AU<|Au<|Ak<|Al<|Zq (I.add Z Z)<|Zm Z<|Ah<|AB (λM O h=>Zu h [1001])
  ·refine AF<|AG<|AI<|Bk (λM O h=>Zu h [1001])
 ·refine A0<|Zb Z<|A5<|Ze [] [1001] Z
def IG (a0:List V3) (O:List V3) (M:Int):Option (Sum (Sum Bool Unit) Int) :=
 if decide (M<(a0.length:Int)) then
  idx a0 M>>=λU =>
  idx O M>>=λx7 =>
  if !decide (U=x7) then
   some (.inl (.inl false))
  else
   some (.inr (w64 (M+1)))
 else
  some (.inl (.inr ()))
def GK (a0:List V3) (M:List V3):Option (Bool) :=
 if (a0.length:Int) != (M.length:Int) then
  some false
 else
  Bi (iter (IG a0 M) 0) λs2 =>
  some true
theorem P5 (a0:List V3) (U:List V3):Aj Tryz.prog 45 [.rd (A3 aZ) a0,.rd (A3 aZ) U] [] (GK a0 U) (λr nv=>⟨[.rd Ai r],[]⟩):=by
 refine Aq 26 func45 Z Z Z λH w=>?_;refine A0<|Zb Z<|A9<|A0<|Zm Z<|Zq (Ar Z .rd Z tu31)<|Zm Z<|Zq (Ar Z .rd Z tu31)<|Zq (I.neq Z Z)<|Zj Z (λh1=>?_) (λh1=>?_)
 ·refine A0<|Zb Z<|A5<|Ap<|Ze [] [] Z
 ·refine Zt<|Bt (λ(s2:Unit) M O=>Sta (ctx 26 H [] w) [] [] M O) ?_ (λs2=>?_)
  ·refine A0<|Zm Z<|Zq (Ar Z .rd Z tu31)<|Zm Z<|Zn<|AJ (λ(s3:Int) M O=>Sta (ctx 26 H [] w) [(0,.rd (A3 aZ) a0),(1,.rd (A3 aZ) U),(12,.rd A2 (a0.length:Int)),(13,.rd A2 s3)] [] M O) (λM O h=>Zu h []) (λs3=>?_);refine A0<|Zq (I.lss Z Z)<|Zn<|A9<|gIf Z Z (λh4=>?_) (λh4=>?_)
   ·refine Zt<|A9<|AD<|A0<|Zm Z<|Zb Z<|A9<|Dr mixed (by kernel_rfl)<|Rq Z (mv Z)<|Rq Z (mv Z)<|BM λx5 h6=>Rq Z (ixR Z Z h6 tu31 Ax Z)<|Rq Z (ldR Z AN)<|Rq Z (mv Z)<|Rq Z (mv Z)<|BM λx7 h8=>Rq Z (ixR Z Z h8 tu31 Ax Z)<|Rq Z (ldR Z AN)<|Rq Z (neA Z Z eq61 Z Z gq61)<|Ds<|Ak<|gIf Z Z (λh9=>?_) (λh9=>?_)
    ·refine A0<|Zb Z<|A5<|B7<|Ap<|Bp<|Bl<|Ze [] [] Z
    ·refine AU<|Au<|Ak<|Al<|Zq (I.add Z Z)<|Zm Z<|Ah<|AB (λM O h=>Zu h [])
   ·refine AF<|AG<|AI<|Bk (λM O h=>Zu h [])
  ·refine A0<|Zb Z<|A5<|Ze [] [] Z
def MF (a0:Ae) (M:Ae):Option (Bool) :=
 if a0.Author==M.Author then
  if a0.Stamp==M.Stamp then
   if decide (a0.Act=M.Act) then
    if decide (a0.Sig=M.Sig) then
     GK a0.Preds M.Preds>>=λO =>
     some O
    else
     some false
   else
    some false
  else
   some false
 else
  some false
theorem zxi (a0:Ae) (a1:Ae):Aj Tryz.prog 24 [.rd Ad a0,.rd Ad a1] [] (MF a0 a1) (λr nv=>⟨[.rd Ai r],[]⟩):=by
 refine Aq 38 func24 Z Z Z λH w=>?_;refine A0<|Eb Z (bx 1 Z) λv1=>Eb Z (bx 2 Z) λv2=>Zb Z<|A0<|Zq (faB 1 Z Z underlying73 Z (by exact B0))<|Zq (ld 1 Z Z (fP (Ex _)) Be Z)<|Zq (faB 2 Z Z underlying73 Z (by exact B0))<|Zq (ld 2 Z Z (fP (Ex _)) Be Z)<|Zq (W.eql Z Z)<|Zm Z<|AY 10 Z (λh3=>?_) (λh3=>?_)
 ·refine Ac 9 Z h3<|Ab Zx Z Z (faB 1 Z Z underlying73 Z (by exact CJ))<|Ab Zx Z Z (ld 1 Z Z (fP (EK _)) CU Z)<|Ab Zx Z Z (faB 2 Z Z underlying73 Z (by exact CJ))<|Ab Zx Z Z (ld 2 Z Z (fP (EK _)) CU Z)<|Ab Zx Z Z (U.eql Z Z)<|Zq (pkT Z Z)<|Zm Z<|AY 17 Z (λM=>?_) (λM=>?_)
  ·refine Ac 15 Z M<|Ac 16 Z M<|Ab Zx Z Z (faB 1 Z Z underlying73 Z (by exact CP))<|Ab Zx Z Z (ld 1 Z Z (fP (D4 _)) ty69 Z)<|Ab Zx Z Z (faB 2 Z Z underlying73 Z (by exact CP))<|Ab Zx Z Z (ld 2 Z Z (fP (D4 _)) ty69 Z)<|Ab Zx Z Z (eqA Z Z eq69 Z Z gq69)<|Zq (pkT Z Z)<|Zm Z<|AY 24 Z (λO=>?_) (λO=>?_)
   ·refine Ac 22 Z O<|Ac 23 Z O<|Ab Zx Z Z (faB 1 Z Z underlying73 Z (by exact CG))<|Ab Zx Z Z (ld 1 Z Z (fP (DF _)) ty71 Z)<|Ab Zx Z Z (faB 2 Z Z underlying73 Z (by exact CG))<|Ab Zx Z Z (ld 2 Z Z (fP (DF _)) ty71 Z)<|Ab Zx Z Z (eqA Z Z eq71 Z Z gq71)<|Zq (pkT Z Z)<|Zm Z<|AY 31 Z (λh6=>?_) (λh6=>?_)
    ·refine Ac 29 Z h6<|Ac 30 Z h6<|Ab Zx Z Z (faB 1 Z Z underlying73 Z (by exact B2))<|Ab Zx Z Z (ld 1 Z Z (fP (Cv _)) B8 Z)<|Ab Zx Z Z (faB 2 Z Z underlying73 Z (by exact B2))<|Ab Zx Z Z (ld 2 Z Z (fP (Cv _)) B8 Z)<|CH [] [] Zx Z func45 Z Z (P5 _ _) (Y2 Z Z) rN λr7 n8=>Zq (pkT Z Z)<|Zb Z<|A5<|Ze [] [] Z
    ·refine Ac 29 Z h6<|Ac 30 Z h6<|Zk Z<|Zk Z<|Zk Z<|Zk Z<|Zk Z<|Zq (pkF Z Z)<|Zb Z<|A5<|Ze [] [] Z
   ·refine Ac 22 Z O<|Ac 23 Z O<|Zk Z<|Zk Z<|Zk Z<|Zk Z<|Zk Z<|Zq (pkF Z Z)<|Zm Z<|Zk Z<|Zk Z<|Zk Z<|Zk Z<|Zk Z<|Zq (pkF Z Z)<|Zb Z<|A5<|Ze [] [] Z
  ·refine Ac 15 Z M<|Ac 16 Z M<|Zk Z<|Zk Z<|Zk Z<|Zk Z<|Zk Z<|Zq (pkF Z Z)<|Zm Z<|Zk Z<|Zk Z<|Zk Z<|Zk Z<|Zk Z<|Zq (pkF Z Z)<|Zm Z<|Zk Z<|Zk Z<|Zk Z<|Zk Z<|Zk Z<|Zq (pkF Z Z)<|Zb Z<|A5<|Ze [] [] Z
 ·refine Ac 9 Z h3<|Zk Z<|Zk Z<|Zk Z<|Zk Z<|Zk Z<|Zq (pkF Z Z)<|Zm Z<|Zk Z<|Zk Z<|Zk Z<|Zk Z<|Zk Z<|Zq (pkF Z Z)<|Zm Z<|Zk Z<|Zk Z<|Zk Z<|Zk Z<|Zk Z<|Zq (pkF Z Z)<|Zm Z<|Zk Z<|Zk Z<|Zk Z<|Zk Z<|Zk Z<|Zq (pkF Z Z)<|Zb Z<|A5<|Ze [] [] Z
def G6 (a0:Ae):Option (Ae) :=
 DN a0.Preds>>=λM =>
 some (⟨a0.Author,M,a0.Stamp,a0.Act,a0.Sig⟩:Ae)
theorem Kj (a0:Ae):Aj Tryz.prog 26 [.rd Ad a0] [] (G6 a0) (λr nv=>⟨[.rd Ad r],[]⟩):=by
 refine Aq 8 func26 Z Z Z λH w=>?_;refine A0<|Eb Z (bx 1 Z) λv1=>Eb Z (AL 2 B4 (ZrE.rd (R:=Aa) (x:=0) (Zr.num Z) (ZrE.nilS (ZrE.rd (R:=Ao) (x:=0) (Zr.num Z) (ZrE.rd (R:=Ba) (x:=(⟨0,[],(⟨0,0,0,[]⟩:Az)⟩:AP)) CR (ZrE.rd (R:=Bc) (x:=(⟨0,0⟩:AC)) CM ZrE.nil Z) Z) Z)) Z)) λv2=>Zn<|A0<|Zq (faB 1 Z Z underlying73 Z (by exact B2))<|Zq (ld 1 Z Z (fP (Cv _)) B8 Z)<|Zc [] [(100,3)] func25 Z (EM _) λM n4=>Zq (faB 1 Z Z underlying73 Z (by exact B2))<|lSpl (R:=Ad) 1 Z (Sp.via (Sp.prod (Sp.prod (Sp.prod (Sp.prod (Sp.prod Sp.unit))))))<|Es (Dp 1 Z Z (Bb.cast (Bb.next BF (Bb.here BF)) Z) Z Bo Ay B2)<|Zn<|A0<|lPow [.rd Aa a0.Author,.rd (A3 aZ) M,.rd Ao a0.Stamp,.rd Ba a0.Act,.rd Bc a0.Sig] 1 3 [.rd Aa a0.Author] [.rd Ao a0.Stamp,.rd Ba a0.Act,.rd Bc a0.Sig] Z Z Z Z Z<|BC (R:=Ad) (⟨a0.Author,M,a0.Stamp,a0.Act,a0.Sig⟩:Ae) 1 Z (Sp.via (Sp.prod (Sp.prod (Sp.prod (Sp.prod (Sp.prod Sp.unit))))))<|Zq (ld 1 Z Z fH Bz Z)<|Bh aZ [.rd Aa 0,.rd (A3 aZ) [],.rd Ao 0,.rd Ba (⟨0,[],(⟨0,0,0,[]⟩:Az)⟩:AP),.rd Bc (⟨0,0⟩:AC)] 2 [.rd Aa 0] [.rd Ao 0,.rd Ba (⟨0,[],(⟨0,0,0,[]⟩:Az)⟩:AP),.rd Bc (⟨0,0⟩:AC)] Z Z Z<|BC (R:=Ad) (⟨0,[],0,(⟨0,[],(⟨0,0,0,[]⟩:Az)⟩:AP),(⟨0,0⟩:AC)⟩:Ae) 2 Z (Sp.via (Sp.prod (Sp.prod (Sp.prod (Sp.prod (Sp.prod Sp.unit))))))<|Es (sto 2 Z Z fH Z B4)<|Zn<|A5<|Bu [] [] Z (eC 2 Z Z Bz<|eN) (rN)
def MG (a0:A4) (a2:Ae) (O:Int × Bool) (U:List V3) (M:(List Ae) × Int):Option (Sum ((List Ae)) ((List Ae) × Int)) :=
 if decide (M.2<(U.length:Int)) then
  some (decide (M.2<O.1))>>=λa1 =>
  if a1 then
   idx a0.Ops M.2>>=λa6 =>
   G6 a6>>=λa7 =>
   app 112 M.1 [a7]>>=λa8 =>
   some (.inr (a8,w64 (M.2+1)))
  else
   some (M.2==O.1)>>=λaa =>
   if aa then
    G6 a2>>=λab =>
    app 112 M.1 [ab]>>=λac =>
    some (.inr (ac,w64 (M.2+1)))
   else
    idx a0.Ops (w64 (M.2 - 1))>>=λad =>
    G6 ad>>=λae =>
    app 112 M.1 [ae]>>=λaf =>
    some (.inr (af,w64 (M.2+1)))
 else
  some (.inl M.1)
def FG (a0:A4) (U:V3) (a2:Ae):Option (A4 × Bool) :=
 FC a0 U>>=λO =>
 if O.2 then
  some (a0,false)
 else
  DN a0.IDs>>=λr8 =>
  insF r8 O.1 [U]>>=λM =>
  (iter (MG a0 a2 O M) ([],0))>>=λa6 =>
  some ((⟨M,a6⟩:A4),true)
theorem P6 (a0:A4) (a1:V3) (a2:Ae):Aj Tryz.prog 27 [.rd A8 a0,.rd aZ a1,.rd Ad a2] [] (FG a0 a1 a2) (λr M=>⟨[.rd A8 r.1,.rd Ai r.2],[]⟩):=by
 refine Aq 74 func27 Z Z Z λH w=>?_;refine A0<|Eb Z (bx 1 Z) λv1=>Eb Z (bx 2 Z) λv2=>Eb Z (bx 3 Z) λv3=>Eb Z (AL 4 Aw (ZrE.nilS (ZrE.nilS ZrE.nil))) λv4=>Zb Z<|A0<|Zq (ld 1 Z Z fH AH Z)<|Zq (ld 2 Z Z fH AN Z)<|Zc [] [] func23 Z (K4 _ _) λr5 n6=>Zm Z<|Zq (ext Z Z)<|Zq (ext Z Z)<|Za Z<|Zb Z<|A9<|A0<|Zm Z<|Zj Z (λh7=>?_) (λh7=>?_)
 ·refine gKn 17 Z h7<|gKn 9 Z h7<|A0<|Zq (ld 1 Z Z fH AH Z)<|Bh aZ [.rd (A3 aZ) [],.val (.slice none 0 0)] 4 [] [.val (.slice none 0 0)] Z Z Z<|Bh Ad [.rd (A3 aZ) [],.rd (A3 Ad) []] 4 [.rd (A3 aZ) []] [] Z Z Z<|BC (R:=A8) (⟨[],[]⟩:A4) 4 Z (Sp.via (Sp.prod (Sp.prod Sp.unit)))<|Es (sto 4 Z Z fH Z Aw)<|Zb Z<|A5<|Ap<|Bu [] [] Z (eC 4 Z Z AH<|eE Z<|eN) (rN)
 ·refine gKn 17 Z h7<|gKn 9 Z h7<|Zt<|A9<|E7 [(3,.val (A7 v1 0)),(4,.val (A7 v2 0)),(5,.val (A7 v3 0)),(6,.val (A7 v4 0)),(8,.rd A2 r5.1)] [(1,some (v1,.box 34 [.rd A8 a0])),(2,some (v2,.box 61 [.rd aZ a1])),(3,some (v3,.box 73 [.rd Ad a2])),(4,some (v4,.box 34 [.val (.slice none 0 0),.val (.slice none 0 0)]))] [1,2,3,4] (Zs Z Z Z Z<|sS Z<|sN) (Zi Z<|Zi Z<|Zi Z<|Zi Z<|rN)<|BV λr8 ai=>BV λa6 aj=>gOr [] [⟨1,some ([], λM=>(v1,.box 34 [.rd A8 a0])),[]⟩,⟨5,none,[(2,some ([1], λM=>((M 1),.list aZ 61 r8))),(6,none)]⟩,⟨2,some ([], λM=>(v2,.box 61 [.rd aZ a1])),[]⟩,⟨6,none,[(5,some ([2], λM=>((M 2),.list aZ 61 [a1]))),(6,none)]⟩,⟨7,none,[(6,some ([3], λM=>((M 3),.list aZ 61 a6)))]⟩,⟨8,none,[(8,some ([4], λM=>((M 4),.box 34 [.val (.slice none 0 0),.val (.slice none 0 0)]))),(9,some ([3,4], λM=>((M 4),.box 34 [.val (M 3),.val (.slice none 0 0)])))]⟩] [pk 20 (.val (A7 v1 (0+0))) [(0,0,false)],pk 21 (.rd (A3 aZ) a0.IDs) [(0,0,false)],⟨some (22,[1], λM=>.val (M 1)),[(1,0,true)],[1],[]⟩,pd 23 (.rd A2 r5.1),pk 24 (.rd aZ a1) [(2,0,false)],⟨some (25,[2], λM=>.val (M 2)),[(3,0,true)],[2],[]⟩,⟨some (26,[3], λM=>.val (M 3)),[(3,1,true),(1,1,true),(4,0,true)],[3],[]⟩,⟨some (27,[3], λM=>.agg [.val (M 3),.val (.slice none 0 0)]),[],[],[]⟩,⟨some (10,[4], λM=>.val (A7 (M 4) 0)),[(5,0,true)],[4],[]⟩,⟨none,[(5,1,true)],[],[]⟩] mixed (oC (oRn (λM E=>faB 1 Z Z underlying34 Z (by exact B2)))<|oC (oRn (λM E=>ld 1 Z Z (fP (BT _)) B8 Z))<|oC (oCl [1] [] [(100,5)] ai func25 Z (λM=>(EM _)) (λM=>(Y1 Z)) (λM E=>rN))<|oC (oRn (λM E=>mv Z))<|oC (oRn (λM E=>ld 2 Z Z fH AN Z))<|oC (oEf 6 2 (λM E=>lit (R:=aZ) ([a1]:List V3) 6 (pP Z Z<|pN) Z tu31 Ax Z Z))<|oC (oCl [3] [5,6] [(100,7)] aj func46 Z (λM=>(z18s _ _ _ _ _)) (λM=>(aQ Z<|aQ Z<|aQ Z<|aN)) (λM E=>(Zi Z<|Zi Z<|rN)))<|oC (oRn (λM E=>CD [(0,1),(1,1)] underlying34 Aw (ZrE.nilS (ZrE.nilS ZrE.nil)) Z (BQ.cons Z Z Ay (Bb.cast (Bb.here Ay) Z)<|BQ.done Z)))<|oC (oEb 8 4 (λM E=>AL 8 Aw (ZrE.nilS (ZrE.nilS ZrE.nil))))<|oC (oEs 8 (λM E=>CE 8 Z Z (Af.cast (Af.cons Ay (Af.cons Ay Af.nil)) Z) Z (AZ.cons Bo (AZ.cons Bo AZ.nil)) (Af.cast (Af.cons Ay (Af.cons Ay Af.nil)) Z) Aw))<|oN) λad=>Ak<|B6 (λ(a7:(List Ae)) aa ww=>∃ M:Nat->Value,Sta (ctx 74 H [] w) [(6,.val (A7 v4 0)),(10,.val (A7 (M 0) 0))] [(4,some (v4,.box 34 [.val (.slice none 0 0),.val (.slice none 0 0)])),(7,some ((M 1),.list aZ 61 a6)),(9,some ((M 2),.list Ad 73 a7)),(8,some ((M 0),.box 34 [.val (M 1),.val (M 2)]))] aa ww) ?_ (λa7=>?_)
  ·refine A0<|Zq (faB 8 Z Z underlying34 Z (by exact B2))<|Zq (ldV 8 Z Z (At.cast At.here Z) sc31 Z)<|Zq (Ar Z (.own 7 Z) Z tu31)<|Zm Z<|Zn<|DB Ad 73 11<|AJ (λ(U:(List Ae) × Int) aa ww=>∃ M:Nat->Value,Sta (ctx 74 H [] w) [(3,.val (A7 v1 0)),(5,.val (A7 v3 0)),(6,.val (A7 v4 0)),(8,.rd A2 r5.1),(10,.val (A7 (M 0) 0)),(30,.rd A2 (a6.length:Int)),(31,.rd A2 U.2)] [(1,some (v1,.box 34 [.rd A8 a0])),(3,some (v3,.box 73 [.rd Ad a2])),(4,some (v4,.box 34 [.val (.slice none 0 0),.val (.slice none 0 0)])),(7,some ((M 1),.list aZ 61 a6)),(10,some ((M 2),.list Ad 73 U.1)),(8,some ((M 0),.box 34 [.val (M 1),.val (M 2)]))] aa ww) (λaa ww h=>⟨nvl [(ad 4),(ad 3),(.slice none 0 0)],Zu h [1,3,4,7,11,8]⟩) (λU=>?_)
   refine gEx λO=>A0<|Zq (I.lss Z Z)<|Zn<|A9<|gIf Z Z (λak=>?_) (λak=>?_)
   ·refine Zt<|A9<|AD<|A0<|Zm Z<|Zb Z<|AD<|A0<|Zm Z<|Zm Z<|Zq (I.lss Z Z)<|Za Z<|AR 46 Z λb6=>Zj Z (λam=>?_) (λam=>?_)
    ·refine E7 [(3,.val (A7 v1 0)),(5,.val (A7 v3 0)),(6,.val (A7 v4 0)),(8,.rd A2 r5.1),(10,.val (A7 (O 0) 0)),(30,.rd A2 (a6.length:Int)),(31,.rd A2 U.2),(11,.rd A2 U.2)] [(1,some (v1,.box 34 [.rd A8 a0])),(3,some (v3,.box 73 [.rd Ad a2])),(4,some (v4,.box 34 [.val (.slice none 0 0),.val (.slice none 0 0)])),(7,some ((O 1),.list aZ 61 a6)),(10,some ((O 2),.list Ad 73 U.1)),(8,some ((O 0),.box 34 [.val (O 1),.val (O 2)]))] [1,3,4,7,10,8] (Zs Z Z Z Z<|Zs Z Z Z Z<|sN) (Zi Z<|Zi Z<|Zi Z<|Zi Z<|Zi Z<|Zi Z<|rN)<|BV λae ao=>BV λa8 ap=>BV λaq ar=>gOr [] [⟨8,some ([], λM=>((O 0),.box 34 [.val (O 1),.val (O 2)])),[(11,some ([2], λM=>((O 0),.box 34 [.val (O 1),.val (M 2)])))]⟩,⟨1,some ([], λM=>(v1,.box 34 [.rd A8 a0])),[]⟩,⟨12,none,[(8,none)]⟩,⟨10,some ([], λM=>((O 2),.list Ad 73 U.1)),[(9,some ([2], λM=>((M 2),.list Ad 73 aq)))]⟩] [pk 50 (.val (A7 (O 0) (0+1))) [(0,0,false)],pk 51 (.val (O 2)) [(0,0,false)],pk 52 (.val (A7 v1 (0+1))) [(1,0,false)],pk 53 (.rd (A3 Ad) a0.Ops) [(1,0,false)],pd 54 (.rd A2 U.2),pd 55 (.rp Ad ae),pd 56 (.rd Ad ae),pd 57 (.rd Ad a8),⟨some (58,[], λM=>.rd (A3 Ad) [a8]),[(2,0,true)],[1],[]⟩,⟨some (59,[2], λM=>.val (M 2)),[(3,0,true)],[2],[]⟩,pk 60 (.val (A7 (O 0) (0+1))) [(0,0,false)],⟨none,[(3,1,false),(0,0,true)],[],[]⟩] mixed (oC (oRn (λM E=>faB 8 Z Z underlying34 Z (by exact Bq)))<|oC (oRn (λM E=>ldV 8 Z Z (At.cast (At.next Ay At.here) Z) sc32 Z))<|oC (oRn (λM E=>faB 1 Z Z underlying34 Z (by exact Bq)))<|oC (oRn (λM E=>ld 1 Z Z (fP (BN _)) BL Z))<|oC (oRn (λM E=>mv Z))<|oC (oRn (λM E=>ixR Z Z ao tu32 B4 Z))<|oC (oRn (λM E=>ldR Z Bz))<|oC (oCl [] [] [] ap func26 Z (λM=>(Kj _)) (λM=>(Y1 Z)) (λM E=>rN))<|oC (oFz (A1:=λM=>[(12,some ((M 1),.list Ad 73 [a8]))]) 12 1 (oEf 12 1 (λM E=>lit (R:=Ad) ([a8]:List Ae) 12 (pP Z Z<|pN) Z tu32 B4 Z Z)))<|oC (oEf 10 2 (λM E=>apn 10 Z Z Z .rd ar tu32 B4 Z Z Z))<|oC (oRn (λM E=>faB 8 Z Z underlying34 Z (by exact Bq)))<|oC (oEs 8 (λM E=>Dp 8 Z Z (Bb.cast (Bb.next Ay (Bb.here Ay)) Z) Z Bo Ay Bq))<|oN) λav=>Au<|Au<|Ak<|Al<|Zq (I.add Z Z)<|Zm Z<|Ah<|AB (λaa ww h=>⟨nvl [(O 0),(O 1),(av 2)],Zu h [1,3,4,7,10,8]⟩)
    ·refine A0<|Zm Z<|Zm Z<|Zq (I.eql Z Z)<|Za Z<|AR 61 Z λb7=>Zj Z (λaw=>?_) (λaw=>?_)
     ·refine E7 [(3,.val (A7 v1 0)),(5,.val (A7 v3 0)),(6,.val (A7 v4 0)),(8,.rd A2 r5.1),(10,.val (A7 (O 0) 0)),(30,.rd A2 (a6.length:Int)),(31,.rd A2 U.2)] [(1,some (v1,.box 34 [.rd A8 a0])),(3,some (v3,.box 73 [.rd Ad a2])),(4,some (v4,.box 34 [.val (.slice none 0 0),.val (.slice none 0 0)])),(7,some ((O 1),.list aZ 61 a6)),(10,some ((O 2),.list Ad 73 U.1)),(8,some ((O 0),.box 34 [.val (O 1),.val (O 2)]))] [1,3,4,7,10,8] (Zs Z Z Z Z<|sS Z<|sS Z<|sS Z<|sN) (Zi Z<|Zi Z<|Zi Z<|Zi Z<|Zi Z<|Zi Z<|rN)<|BV λab ax=>BV λay az=>gOr [] [⟨8,some ([], λM=>((O 0),.box 34 [.val (O 1),.val (O 2)])),[(7,some ([2], λM=>((O 0),.box 34 [.val (O 1),.val (M 2)])))]⟩,⟨3,some ([], λM=>(v3,.box 73 [.rd Ad a2])),[]⟩,⟨13,none,[(4,none)]⟩,⟨10,some ([], λM=>((O 2),.list Ad 73 U.1)),[(5,some ([2], λM=>((M 2),.list Ad 73 ay)))]⟩] [pk 65 (.val (A7 (O 0) (0+1))) [(0,0,false)],pk 66 (.val (O 2)) [(0,0,false)],pk 67 (.rd Ad a2) [(1,0,false)],pd 68 (.rd Ad ab),⟨some (69,[], λM=>.rd (A3 Ad) [ab]),[(2,0,true)],[1],[]⟩,⟨some (70,[2], λM=>.val (M 2)),[(3,0,true)],[2],[]⟩,pk 71 (.val (A7 (O 0) (0+1))) [(0,0,false)],⟨none,[(3,1,false),(0,0,true)],[],[]⟩] mixed (oC (oRn (λM E=>faB 8 Z Z underlying34 Z (by exact Bq)))<|oC (oRn (λM E=>ldV 8 Z Z (At.cast (At.next Ay At.here) Z) sc32 Z))<|oC (oRn (λM E=>ld 3 Z Z fH Bz Z))<|oC (oCl [] [] [] ax func26 Z (λM=>(Kj _)) (λM=>(Y1 Z)) (λM E=>rN))<|oC (oFz (A1:=λM=>[(13,some ((M 1),.list Ad 73 [ab]))]) 13 1 (oEf 13 1 (λM E=>lit (R:=Ad) ([ab]:List Ae) 13 (pP Z Z<|pN) Z tu32 B4 Z Z)))<|oC (oEf 10 2 (λM E=>apn 10 Z Z Z .rd az tu32 B4 Z Z Z))<|oC (oRn (λM E=>faB 8 Z Z underlying34 Z (by exact Bq)))<|oC (oEs 8 (λM E=>Dp 8 Z Z (Bb.cast (Bb.next Ay (Bb.here Ay)) Z) Z Bo Ay Bq))<|oN) λb0=>Au<|Au<|Ak<|Al<|Zq (I.add Z Z)<|Zm Z<|Ah<|AB (λaa ww h=>⟨nvl [(O 0),(O 1),(b0 2)],Zu h [1,3,4,7,10,8]⟩)
     ·refine E7 [(3,.val (A7 v1 0)),(5,.val (A7 v3 0)),(6,.val (A7 v4 0)),(8,.rd A2 r5.1),(10,.val (A7 (O 0) 0)),(30,.rd A2 (a6.length:Int)),(31,.rd A2 U.2),(11,.rd A2 U.2)] [(1,some (v1,.box 34 [.rd A8 a0])),(3,some (v3,.box 73 [.rd Ad a2])),(4,some (v4,.box 34 [.val (.slice none 0 0),.val (.slice none 0 0)])),(7,some ((O 1),.list aZ 61 a6)),(10,some ((O 2),.list Ad 73 U.1)),(8,some ((O 0),.box 34 [.val (O 1),.val (O 2)]))] [1,3,4,7,10,8] (Zs Z Z Z Z<|Zs Z Z Z Z<|sN) (Zi Z<|Zi Z<|Zi Z<|Zi Z<|Zi Z<|Zi Z<|rN)<|BV λaf b1=>BV λac b2=>BV λb3 b4=>gOr [] [⟨8,some ([], λM=>((O 0),.box 34 [.val (O 1),.val (O 2)])),[(12,some ([2], λM=>((O 0),.box 34 [.val (O 1),.val (M 2)])))]⟩,⟨1,some ([], λM=>(v1,.box 34 [.rd A8 a0])),[]⟩,⟨14,none,[(9,none)]⟩,⟨10,some ([], λM=>((O 2),.list Ad 73 U.1)),[(10,some ([2], λM=>((M 2),.list Ad 73 b3)))]⟩] [pk 34 (.val (A7 (O 0) (0+1))) [(0,0,false)],pk 35 (.val (O 2)) [(0,0,false)],pk 36 (.val (A7 v1 (0+1))) [(1,0,false)],pk 37 (.rd (A3 Ad) a0.Ops) [(1,0,false)],pd 38 (.rd A2 U.2),pd 39 (.rd A2 (w64 (U.2 - 1))),pd 40 (.rp Ad af),pd 41 (.rd Ad af),pd 42 (.rd Ad ac),⟨some (43,[], λM=>.rd (A3 Ad) [ac]),[(2,0,true)],[1],[]⟩,⟨some (44,[2], λM=>.val (M 2)),[(3,0,true)],[2],[]⟩,pk 45 (.val (A7 (O 0) (0+1))) [(0,0,false)],⟨none,[(3,1,false),(0,0,true)],[],[]⟩] mixed (oC (oRn (λM E=>faB 8 Z Z underlying34 Z (by exact Bq)))<|oC (oRn (λM E=>ldV 8 Z Z (At.cast (At.next Ay At.here) Z) sc32 Z))<|oC (oRn (λM E=>faB 1 Z Z underlying34 Z (by exact Bq)))<|oC (oRn (λM E=>ld 1 Z Z (fP (BN _)) BL Z))<|oC (oRn (λM E=>mv Z))<|oC (oRn (λM E=>I.sub Z Z))<|oC (oRn (λM E=>ixR Z Z b1 tu32 B4 Z))<|oC (oRn (λM E=>ldR Z Bz))<|oC (oCl [] [] [] b2 func26 Z (λM=>(Kj _)) (λM=>(Y1 Z)) (λM E=>rN))<|oC (oFz (A1:=λM=>[(14,some ((M 1),.list Ad 73 [ac]))]) 14 1 (oEf 14 1 (λM E=>lit (R:=Ad) ([ac]:List Ae) 14 (pP Z Z<|pN) Z tu32 B4 Z Z)))<|oC (oEf 10 2 (λM E=>apn 10 Z Z Z .rd b4 tu32 B4 Z Z Z))<|oC (oRn (λM E=>faB 8 Z Z underlying34 Z (by exact Bq)))<|oC (oEs 8 (λM E=>Dp 8 Z Z (Bb.cast (Bb.next Ay (Bb.here Ay)) Z) Z Bo Ay Bq))<|oN) λb5=>Au<|Au<|Ak<|Al<|Zq (I.add Z Z)<|Zm Z<|Ah<|AB (λaa ww h=>⟨nvl [(O 0),(O 1),(b5 2)],Zu h [1,3,4,7,10,8]⟩)
   ·refine AF<|AG<|AI<|AA (λaa ww h=>⟨nvl [(O 0),(O 1),(O 2)],Zu h [4,7,10,8]⟩)
  ·refine gEx λah=>A0<|lPow [.rd (A3 aZ) a6,.val (ah 2)] 8 7 [] [.val (ah 2)] Z Z Z Z Z<|lPow [.rd (A3 aZ) a6,.rd (A3 Ad) a7] 8 9 [.rd (A3 aZ) a6] [] Z Z Z Z Z<|BC (R:=A8) (⟨a6,a7⟩:A4) 8 Z (Sp.via (Sp.prod (Sp.prod Sp.unit)))<|Zq (ld 8 Z Z fH AH Z)<|Bh aZ [.rd (A3 aZ) [],.val (.slice none 0 0)] 4 [] [.val (.slice none 0 0)] Z Z Z<|Bh Ad [.rd (A3 aZ) [],.rd (A3 Ad) []] 4 [.rd (A3 aZ) []] [] Z Z Z<|BC (R:=A8) (⟨[],[]⟩:A4) 4 Z (Sp.via (Sp.prod (Sp.prod Sp.unit)))<|Es (sto 4 Z Z fH Z Aw)<|Zb Z<|A5<|Bu [] [] Z (eC 4 Z Z AH<|eE Z<|eN) (rN)
def G7 (a0:A4) (U:A4) (M:Int):Option (Sum (Sum (A4 × Int) Unit) Int) :=
 if decide (M<(U.IDs.length:Int)) then
  idx U.IDs M>>=λa2 =>
  FC a0 a2>>=λO =>
  (if O.2 then
   idx a0.Ops O.1>>=λa6 =>
   idx U.Ops M>>=λa7 =>
   MF a6 a7>>=λa8 =>
   some (!a8)
  else
   some false)>>=λaa =>
  if aa then
   some (.inl (.inl ((⟨[],[]⟩:A4),14)))
  else
   some (.inr (w64 (M+1)))
 else
  some (.inl (.inr ()))
def Kk (a0:A4) (M:(List Ae) × Int):Option (Sum ((List Ae)) ((List Ae) × Int)) :=
 if decide (M.2<(a0.Ops.length:Int)) then
  idx a0.Ops M.2>>=λO =>
  G6 O>>=λU =>
  app 112 M.1 [U]>>=λa1 =>
  some (.inr (a1,w64 (M.2+1)))
 else
  some (.inl M.1)
def Kl (U:A4) (M:(List V3) × (List Ae) × Int):Option (Sum ((List V3) × (List Ae)) ((List V3) × (List Ae) × Int)) :=
 if decide (M.2.2<(U.IDs.length:Int)) then
  idx U.IDs M.2.2>>=λa2 =>
  idx U.Ops M.2.2>>=λa6 =>
  FG (⟨M.1,M.2.1⟩:A4) a2 a6>>=λO =>
  some (.inr (O.1.IDs,O.1.Ops,w64 (M.2.2+1)))
 else
  some (.inl (M.1,M.2.1))
def F8 (a0:A4) (O:A4):Option (A4 × Int) :=
 ME [a0,O]>>=λU =>
 if U != 0 then
  some ((⟨[],[]⟩:A4),U)
 else
  Bi (iter (G7 a0 O) 0) λs8 =>
  DN a0.IDs>>=λa2 =>
  (iter (Kk a0) ([],0))>>=λa6 =>
  (iter (Kl O) (a2,a6,0))>>=λM =>
  if decide (60<(M.2.length:Int)) then
   some ((⟨[],[]⟩:A4),4)
  else
   some ((⟨M.1,M.2⟩:A4),0)
theorem MH (a0:A4) (a1:A4):Aj Tryz.prog 8 [.rd A8 a0,.rd A8 a1] [Am] (F8 a0 a1) (λr M=>⟨[.rd A8 r.1,.rd A2 r.2],[(1001,some (.bool true,.glob 1 (Av 64 Aa) Bv))]⟩):=by
 refine Aq 100 func8 Z Z Z λH w=>?_;refine A0<|Eb Z (bx 1 Z) λv1=>Eb Z (bx 2 Z) λv2=>Eb Z (AL 3 Aw (ZrE.nilS (ZrE.nilS ZrE.nil))) λv3=>Zb Z<|A9<|A0<|Zq (ld 1 Z Z fH AH Z)<|Zq (ld 2 Z Z fH AH Z)<|Ef Z (lit (R:=A8) ([a0,a1]:List A4) 4 (pP Z Z<|pP Z Z<|pN) Z tu22 Aw Z Z) λv4=>BG 4 [18] Z (fS Z<|fN)<|Zc [1001] [] func22 Z (zsc _) λr5 n6=>Zb Z<|A0<|Zm Z<|Zq (I.neq Z Z)<|Zj Z (λh7=>?_) (λh7=>?_)
 ·refine A0<|Zq (CD [(0,1),(1,1)] underlying34 Aw (ZrE.nilS (ZrE.nilS ZrE.nil)) Z (BQ.done Z))<|Zm Z<|Es (CE 3 Z Z (Af.cast (Af.cons Ay (Af.cons Ay Af.nil)) Z) Z (AZ.cons Bo (AZ.cons Bo AZ.nil)) (Af.cast (Af.cons Ay (Af.cons Ay Af.nil)) Z) Aw)<|Zb Z<|A5<|Ap<|C6 aZ [.rd (A3 aZ) [],.val (.slice none 0 0)] 3 [] [.val (.slice none 0 0)] Z Z Z<|C6 Ad [.rd (A3 aZ) [],.rd (A3 Ad) []] 3 [.rd (A3 aZ) []] [] Z Z Z<|D0 (R:=A8) (⟨[],[]⟩:A4) 3 Z (Sp.via (Sp.prod (Sp.prod Sp.unit)))<|Bu [] [1001] Z (eC 3 Z Z AH<|eE Z<|eN) (y1 Z)
 ·refine Zt<|Bt (λ(s8:Unit) O U=>Sta (ctx 100 H [Am] w) [(2,.val (A7 v1 0)),(3,.val (A7 v2 0)),(4,.val (A7 v3 0))] [(1,some (v1,.box 34 [.rd A8 a0])),(2,some (v2,.box 34 [.rd A8 a1])),(3,some (v3,.box 34 [.val (.slice none 0 0),.val (.slice none 0 0)])),Am] O U) ?_ (λs8=>?_)
  ·refine A0<|Zq (faB 2 Z Z underlying34 Z (by exact B2))<|Zq (ld 2 Z Z (fP (BT _)) B8 Z)<|Zq (Ar Z .rd Z tu31)<|Zm Z<|Zn<|AJ (λ(s9:Int) O U=>Sta (ctx 100 H [Am] w) [(2,.val (A7 v1 0)),(3,.val (A7 v2 0)),(4,.val (A7 v3 0)),(25,.rd (A3 aZ) a1.IDs),(26,.rd A2 (a1.IDs.length:Int)),(27,.rd A2 s9)] [(1,some (v1,.box 34 [.rd A8 a0])),(2,some (v2,.box 34 [.rd A8 a1])),(3,some (v3,.box 34 [.val (.slice none 0 0),.val (.slice none 0 0)])),Am] O U) (λO U h=>Zu h [1,2,3,1001]) (λs9=>?_)
   refine A0<|Zq (I.lss Z Z)<|Zn<|A9<|gIf Z Z (λao=>?_) (λao=>?_)
   ·refine Zt<|A9<|AD<|A0<|Zm Z<|An λb6 ap=>Zq (ixR Z Z ap tu31 Ax Z)<|Zq (ldR Z AN)<|Eb Z (AL 1100 Ax (.zr (R:=aZ) (x:=(Vector.replicate 32 0)) C0)) λb7=>Za Z<|Es (sto 1100 Z Z fH Z Ax)<|Zn<|A0<|Zq (ld 1 Z Z fH AH Z)<|Zq (ld 1100 Z Z fH AN Z)<|Zc [] [] func23 Z (K4 _ _) λb8 b9=>Zm Z<|Zq (ext Z Z)<|Zq (ext Z Z)<|Za Z<|Zb Z<|B6 (λ(ak:Bool) O U=>Sta (ctx 100 H [Am] w) [(2,.val (A7 v1 0)),(3,.val (A7 v2 0)),(4,.val (A7 v3 0)),(25,.rd (A3 aZ) a1.IDs),(26,.rd A2 (a1.IDs.length:Int)),(27,.rd A2 s9),(52,.rd Ai ak)] [(1,some (v1,.box 34 [.rd A8 a0])),(2,some (v2,.box 34 [.rd A8 a1])),(3,some (v3,.box 34 [.val (.slice none 0 0),.val (.slice none 0 0)])),Am] O U) ?_ (λak=>?_)
    ·refine BK [] mixed Z Z<|A6 0 Z Z (mv Z)<|A6 1 Z Z (mv Z)<|hIf 39 Z Z (λa7=>?_) (λa7=>?_)
     ·refine hKn 37 Z Z a7<|hKn 10 Z Z a7<|hKn 38 Z Z a7<|Zg 2 Z Z (faB 1 Z Z underlying34 Z (by exact Bq))<|Zg 3 Z Z (ld 1 Z Z (fP (BN _)) BL Z)<|Zg 4 Z Z (mv Z)<|BA λba aq=>Zg 5 Z Z (ixR Z Z aq tu32 B4 Z)<|Zg 6 Z Z (ldR Z Bz)<|Zg 7 Z Z (faB 2 Z Z underlying34 Z (by exact Bq))<|Zg 8 Z Z (ld 2 Z Z (fP (BN _)) BL Z)<|Zg 9 Z Z (mv Z)<|BA λbb ar=>Zg 10 Z Z (ixR Z Z ar tu32 B4 Z)<|Zg 11 Z Z (ldR Z Bz)<|BH 12 [] [] Z (by kernel_rfl) Z Zx Z func24 Z Z (zxi _ _) (Y2 Z Z) rN Z (λ_ _=>DD) λbc bd=>Zg 13 Z Z (By Z)<|A6 14 Z Z (pkT Z Z)<|Bg (by kernel_rfl)<|AA (λO U h=>Zu h [1,2,3,1001])
     ·refine hKn 37 Z Z a7<|hKn 10 Z Z a7<|hKn 38 Z Z a7<|hSk 2 Z Z<|hSk 3 Z Z<|hSk 4 Z Z<|hSk 5 Z Z<|hSk 6 Z Z<|hSk 7 Z Z<|hSk 8 Z Z<|hSk 9 Z Z<|hSk 10 Z Z<|hSk 11 Z Z<|hSk 12 Z Z<|hSk 13 Z Z<|A6 14 Z Z (pkF Z Z)<|Bg (by kernel_rfl)<|AA (λO U h=>Zu h [1,2,3,1001])
    ·refine gIf Z Z (λav=>?_) (λav=>?_)
     ·refine A0<|Zq (CD [(0,1),(1,1)] underlying34 Aw (ZrE.nilS (ZrE.nilS ZrE.nil)) Z (BQ.done Z))<|Es (CE 3 Z Z (Af.cast (Af.cons Ay (Af.cons Ay Af.nil)) Z) Z (AZ.cons Bo (AZ.cons Bo AZ.nil)) (Af.cast (Af.cons Ay (Af.cons Ay Af.nil)) Z) Aw)<|Zb Z<|A5<|B7<|Ap<|Bp<|Bl<|C6 aZ [.rd (A3 aZ) [],.val (.slice none 0 0)] 3 [] [.val (.slice none 0 0)] Z Z Z<|C6 Ad [.rd (A3 aZ) [],.rd (A3 Ad) []] 3 [.rd (A3 aZ) []] [] Z Z Z<|D0 (R:=A8) (⟨[],[]⟩:A4) 3 Z (Sp.via (Sp.prod (Sp.prod Sp.unit)))<|Bu [] [1001] Z (eC 3 Z Z AH<|eE Z<|eN) (y1 Z)
     ·refine AU<|Au<|Ak<|Al<|Zq (I.add Z Z)<|Zm Z<|Ah<|AB (λO U h=>Zu h [1,2,3,1001])
   ·refine AF<|AG<|AI<|Bk (λO U h=>Zu h [1,2,3,1001])
  ·refine A0<|Zq (faB 1 Z Z underlying34 Z (by exact B2))<|Zq (ld 1 Z Z (fP (BT _)) B8 Z)<|Zc [] [(100,1149)] func25 Z (EM _) λa8 a6=>Zq (CD [(0,1),(1,1)] underlying34 Aw (ZrE.nilS (ZrE.nilS ZrE.nil)) Z (BQ.cons Z Z Ay (Bb.cast (Bb.here Ay) Z)<|BQ.done Z))<|Eb Z (AL 1150 Aw (ZrE.nilS (ZrE.nilS ZrE.nil))) λa2=>Es (CE 1150 Z Z (Af.cast (Af.cons Ay (Af.cons Ay Af.nil)) Z) Z (AZ.cons Bo (AZ.cons Bo AZ.nil)) (Af.cast (Af.cons Ay (Af.cons Ay Af.nil)) Z) Aw)<|Zn<|B6 (λ(ah:(List Ae)) O U=>∃ M:Nat->Value,Sta (ctx 100 H [Am] w) [(3,.val (A7 v2 0)),(4,.val (A7 v3 0)),(11,.val (A7 a2 0))] [(2,some (v2,.box 34 [.rd A8 a1])),(3,some (v3,.box 34 [.val (.slice none 0 0),.val (.slice none 0 0)])),(1149,some ((a6 0),.list aZ 61 a8)),(1152,some ((M 0),.list Ad 73 ah)),(1150,some (a2,.box 34 [.val (a6 0),.val (M 0)])),Am] O U) ?_ (λah=>?_)
   ·refine A0<|Zq (faB 1 Z Z underlying34 Z (by exact Bq))<|Zq (ld 1 Z Z (fP (BN _)) BL Z)<|Zq (Ar Z .rd Z tu32)<|Zm Z<|Zn<|DB Ad 73 1155<|AJ (λ(ab:(List Ae) × Int) O U=>∃ M:Nat->Value,Sta (ctx 100 H [Am] w) [(3,.val (A7 v2 0)),(4,.val (A7 v3 0)),(11,.val (A7 a2 0)),(60,.rd (A3 Ad) a0.Ops),(61,.rd A2 (a0.Ops.length:Int)),(62,.rd A2 ab.2)] [(2,some (v2,.box 34 [.rd A8 a1])),(3,some (v3,.box 34 [.val (.slice none 0 0),.val (.slice none 0 0)])),(1149,some ((a6 0),.list aZ 61 a8)),(1154,some ((M 0),.list Ad 73 ab.1)),(1150,some (a2,.box 34 [.val (a6 0),.val (M 0)])),Am] O U) (λO U h=>⟨nvl [(.slice none 0 0)],Zu h [2,3,1149,1155,1150,1001]⟩) (λab=>?_)
    refine gEx λac=>A0<|Zq (I.lss Z Z)<|Zn<|A9<|gIf Z Z (λaw=>?_) (λaw=>?_)
    ·refine Zt<|A9<|AD<|A0<|An λai ax=>Zq (ixR Z Z ax tu32 B4 Z)<|Zq (ldR Z Bz)<|Eb Z (AL 1156 B4 (ZrE.rd (R:=Aa) (x:=0) (Zr.num Z) (ZrE.nilS (ZrE.rd (R:=Ao) (x:=0) (Zr.num Z) (ZrE.rd (R:=Ba) (x:=(⟨0,[],(⟨0,0,0,[]⟩:Az)⟩:AP)) CR (ZrE.rd (R:=Bc) (x:=(⟨0,0⟩:AC)) CM ZrE.nil Z) Z) Z)) Z)) λaj=>Bh aZ [.rd Aa 0,.rd (A3 aZ) [],.rd Ao 0,.rd Ba (⟨0,[],(⟨0,0,0,[]⟩:Az)⟩:AP),.rd Bc (⟨0,0⟩:AC)] 1156 [.rd Aa 0] [.rd Ao 0,.rd Ba (⟨0,[],(⟨0,0,0,[]⟩:Az)⟩:AP),.rd Bc (⟨0,0⟩:AC)] Z Z Z<|BC (R:=Ad) (⟨0,[],0,(⟨0,[],(⟨0,0,0,[]⟩:Az)⟩:AP),(⟨0,0⟩:AC)⟩:Ae) 1156 Z (Sp.via (Sp.prod (Sp.prod (Sp.prod (Sp.prod (Sp.prod Sp.unit))))))<|Es (sto 1156 Z Z fH Z B4)<|Zn<|E7 [(3,.val (A7 v2 0)),(4,.val (A7 v3 0)),(11,.val (A7 a2 0)),(60,.rd (A3 Ad) a0.Ops),(61,.rd A2 (a0.Ops.length:Int)),(62,.rd A2 ab.2),(13,.val (A7 aj 0))] [(2,some (v2,.box 34 [.rd A8 a1])),(3,some (v3,.box 34 [.val (.slice none 0 0),.val (.slice none 0 0)])),(1149,some ((a6 0),.list aZ 61 a8)),(1154,some ((ac 0),.list Ad 73 ab.1)),(1150,some (a2,.box 34 [.val (a6 0),.val (ac 0)])),Am,(1156,some (aj,.box 73 [.rd Ad ai]))] [2,3,1149,1154,1150,1001,1156] (Zs Z Z Z Z<|sS Z<|sS Z<|sS Z<|sN) (Zi Z<|Zi Z<|Zi Z<|Zi Z<|Zi Z<|Zi Z<|Zi Z<|rN)<|BV λaf ay=>BV λaz b0=>gOr [] [⟨1150,some ([], λM=>(a2,.box 34 [.val (a6 0),.val (ac 0)])),[(7,some ([2], λM=>(a2,.box 34 [.val (a6 0),.val (M 2)])))]⟩,⟨1156,some ([], λM=>(aj,.box 73 [.rd Ad ai])),[]⟩,⟨1157,none,[(4,none)]⟩,⟨1154,some ([], λM=>((ac 0),.list Ad 73 ab.1)),[(5,some ([2], λM=>((M 2),.list Ad 73 az)))]⟩] [pk 66 (.val (A7 a2 (0+1))) [(0,0,false)],pk 67 (.val (ac 0)) [(0,0,false)],pk 68 (.rd Ad ai) [(1,0,false)],pd 69 (.rd Ad af),⟨some (70,[], λM=>.rd (A3 Ad) [af]),[(2,0,true)],[1],[]⟩,⟨some (71,[2], λM=>.val (M 2)),[(3,0,true)],[2],[]⟩,pk 72 (.val (A7 a2 (0+1))) [(0,0,false)],⟨none,[(0,0,true),(3,1,false)],[],[]⟩] mixed (oC (oRn (λM E=>faB 1150 Z Z underlying34 Z (by exact Bq)))<|oC (oRn (λM E=>ldV 1150 Z Z (At.cast (At.next Ay At.here) Z) sc32 Z))<|oC (oRn (λM E=>ld 1156 Z Z fH Bz Z))<|oC (oCl [] [] [] ay func26 Z (λM=>(Kj _)) (λM=>(Y1 Z)) (λM E=>rN))<|oC (oFz (A1:=λM=>[(1157,some ((M 1),.list Ad 73 [af]))]) 1157 1 (oEf 1157 1 (λM E=>lit (R:=Ad) ([af]:List Ae) 1157 (pP Z Z<|pN) Z tu32 B4 Z Z)))<|oC (oEf 1154 2 (λM E=>apn 1154 Z Z Z .rd b0 tu32 B4 Z Z Z))<|oC (oRn (λM E=>faB 1150 Z Z underlying34 Z (by exact Bq)))<|oC (oEs 1150 (λM E=>Dp 1150 Z Z (Bb.cast (Bb.next Ay (Bb.here Ay)) Z) Z Bo Ay Bq))<|oN) λb1=>Au<|Ak<|Al<|Zq (I.add Z Z)<|Zm Z<|Ah<|AB (λO U h=>⟨nvl [(b1 2)],Zu h [2,3,1149,1154,1150,1001]⟩)
    ·refine AF<|AG<|AI<|AA (λO U h=>⟨nvl [(ac 0)],Zu h [2,3,1149,1154,1150,1001]⟩)
   ·refine gEx λam=>B6 (λ(ae:(List V3) × (List Ae)) O U=>Sta (ctx 100 H [Am] w) [(4,.val (A7 v3 0)),(11,.val (A7 a2 0))] [(3,some (v3,.box 34 [.val (.slice none 0 0),.val (.slice none 0 0)])),(1150,some (a2,.box 34 [.rd (A3 aZ) ae.1,.rd (A3 Ad) ae.2])),Am] O U) ?_ (λae=>?_)
    ·refine A0<|Zq (faB 2 Z Z underlying34 Z (by exact B2))<|Zq (ld 2 Z Z (fP (BT _)) B8 Z)<|Zq (Ar Z .rd Z tu31)<|Zm Z<|Zn<|gPow [.rd (A3 aZ) a8,.val (am 0)] 1150 1149 [] [.val (am 0)] Z Z Z Z Z<|gPow [.rd (A3 aZ) a8,.rd (A3 Ad) ah] 1150 1152 [.rd (A3 aZ) a8] [] Z Z Z Z Z<|AJ (λ(ad:(List V3) × (List Ae) × Int) O U=>Sta (ctx 100 H [Am] w) [(3,.val (A7 v2 0)),(4,.val (A7 v3 0)),(11,.val (A7 a2 0)),(75,.rd (A3 aZ) a1.IDs),(76,.rd A2 (a1.IDs.length:Int)),(77,.rd A2 ad.2.2)] [(2,some (v2,.box 34 [.rd A8 a1])),(3,some (v3,.box 34 [.val (.slice none 0 0),.val (.slice none 0 0)])),(1150,some (a2,.box 34 [.rd (A3 aZ) ad.1,.rd (A3 Ad) ad.2.1])),Am] O U) (λO U h=>Zu h [2,3,1150,1001]) (λad=>?_)
     refine A0<|Zq (I.lss Z Z)<|Zn<|A9<|gIf Z Z (λb2=>?_) (λb2=>?_)
     ·refine Zt<|A9<|AD<|A0<|Zm Z<|An λbe b3=>Zq (ixR Z Z b3 tu31 Ax Z)<|Zq (ldR Z AN)<|Eb Z (AL 1158 Ax (.zr (R:=aZ) (x:=(Vector.replicate 32 0)) C0)) λbf=>Za Z<|Es (sto 1158 Z Z fH Z Ax)<|Zn<|gJoi (R:=A8) (⟨ad.1,ad.2.1⟩:A4) 1150 Z (Sp.via (Sp.prod (Sp.prod Sp.unit)))<|BK [1150] mixed Z Z<|A6 1 Z Z (ld 1158 Z Z fH AN Z)<|A6 2 Z Z (faB 2 Z Z underlying34 Z (by exact Bq))<|A6 3 Z Z (ld 2 Z Z (fP (BN _)) BL Z)<|A6 4 Z Z (mv Z)<|BA λbg b4=>A6 5 Z Z (ixR Z Z b4 tu32 B4 Z)<|A6 6 Z Z (ldR Z Bz)<|hRun 0 Z (by kernel_rfl) (gd0 Z) Z Z anyJ (ld 1150 Z Z fH AH Z)<|I5 7 [] [] Z (by kernel_rfl) Z (gd0 Z) Z func27 Z Z (P6 _ _ _) (aQ Z<|aQ Z<|aQ Z<|aN) rN Z λbh bi=>E4 8 Z (by kernel_rfl) (by kernel_rfl) (by kernel_rfl) (gd0 Z) Z Z (mv Z)<|E4 9 Z (by kernel_rfl) (by kernel_rfl) (by kernel_rfl) (gd0 Z) Z Z (ext Z Z)<|Zf 10 Z Z DD (ext Z Z)<|Zp 11 Z Z Z Z Z (sto 1150 Z Z fH Z Aw)<|Bg (by kernel_rfl)<|Au<|Ak<|Al<|Zq (I.add Z Z)<|Zm Z<|Ah<|eSpl (R:=A8) 1150 Z (Sp.via (Sp.prod (Sp.prod Sp.unit)))<|AB (λO U h=>Zu h [2,3,1150,1001])
     ·refine AF<|AG<|AI<|AA (λO U h=>Zu h [3,1150,1001])
    ·refine A9<|A0<|Zq (faB 1150 Z Z underlying34 Z (by exact Bq))<|Zq (ld 1150 Z Z (Foc.cast (Foc.next BF fH) Z) BL Z)<|Zq (Ar Z .rd Z tu32)<|Zq (I.gtr Z Z)<|Zj Z (λb5=>?_) (λb5=>?_)
     ·refine A0<|Zq (CD [(0,1),(1,1)] underlying34 Aw (ZrE.nilS (ZrE.nilS ZrE.nil)) Z (BQ.done Z))<|Es (CE 3 Z Z (Af.cast (Af.cons Ay (Af.cons Ay Af.nil)) Z) Z (AZ.cons Bo (AZ.cons Bo AZ.nil)) (Af.cast (Af.cons Ay (Af.cons Ay Af.nil)) Z) Aw)<|Zb Z<|A5<|Ap<|C6 aZ [.rd (A3 aZ) [],.val (.slice none 0 0)] 3 [] [.val (.slice none 0 0)] Z Z Z<|C6 Ad [.rd (A3 aZ) [],.rd (A3 Ad) []] 3 [.rd (A3 aZ) []] [] Z Z Z<|D0 (R:=A8) (⟨[],[]⟩:A4) 3 Z (Sp.via (Sp.prod (Sp.prod Sp.unit)))<|Bu [] [1001] Z (eC 3 Z Z AH<|eE Z<|eN) (y1 Z)
     ·refine Zt<|A0<|BC (R:=A8) (⟨ae.1,ae.2⟩:A4) 1150 Z (Sp.via (Sp.prod (Sp.prod Sp.unit)))<|Zq (ld 1150 Z Z fH AH Z)<|Bh aZ [.rd (A3 aZ) [],.val (.slice none 0 0)] 3 [] [.val (.slice none 0 0)] Z Z Z<|Bh Ad [.rd (A3 aZ) [],.rd (A3 Ad) []] 3 [.rd (A3 aZ) []] [] Z Z Z<|BC (R:=A8) (⟨[],[]⟩:A4) 3 Z (Sp.via (Sp.prod (Sp.prod Sp.unit)))<|Es (sto 3 Z Z fH Z Aw)<|Zb Z<|A5<|Bu [] [1001] Z (eC 3 Z Z AH<|eE Z<|eN) (y1 Z)
def Km (a0:List Ae) (M:Int):Option (Sum (Sum (A4 × Int) Unit) Int) :=
 if decide (M<(a0.length:Int)) then
  idx a0 M>>=λU =>
  Ir U>>=λO =>
  if O != 0 then
   some (.inl (.inl ((⟨[],[]⟩:A4),O)))
  else
   some (.inr (w64 (M+1)))
 else
  some (.inl (.inr ()))
def Kn (a0:List Ae) (M:(List V3) × (List Ae) × Int):Option (Sum (Sum (A4 × Int) ((List V3) × (List Ae))) ((List V3) × (List Ae) × Int)) :=
 if decide (M.2.2<(a0.length:Int)) then
  idx a0 M.2.2>>=λU =>
  Iq U>>=λa1 =>
  FG (⟨M.1,M.2.1⟩:A4) a1.1 U>>=λO =>
  if !O.2 then
   some (.inl (.inl ((⟨[],[]⟩:A4),14)))
  else
   some (.inr (O.1.IDs,O.1.Ops,w64 (M.2.2+1)))
 else
  some (.inl (.inr (M.1,M.2.1)))
def Ko (a0:List Ae):Option (A4 × Int) :=
 if decide (60<(a0.length:Int)) then
  some ((⟨[],[]⟩:A4),4)
 else
  Bi (iter (Km a0) 0) λs3 =>
  Bi (iter (Kn a0) ([],[],0)) λM =>
  K6 (⟨M.1,M.2⟩:A4)>>=λO =>
  if O != 0 then
   some ((⟨[],[]⟩:A4),O)
  else
   some ((⟨M.1,M.2⟩:A4),0)
theorem TZ (a0:List Ae):Aj Tryz.prog 37 [.rd (A3 Ad) a0] [Am] (Ko a0) (λr nv=>⟨[.rd A8 r.1,.rd A2 r.2],[(1001,some (.bool true,.glob 1 (Av 64 Aa) Bv))]⟩):=by
 refine Aq 62 func37 Z Z Z λH w=>?_;refine A0<|Eb Z (AL 1 Aw (ZrE.nilS (ZrE.nilS ZrE.nil))) λv1=>Zb Z<|A9<|A0<|Zm Z<|Zq (Ar Z .rd Z tu32)<|Zq (I.gtr Z Z)<|Zj Z (λh2=>?_) (λh2=>?_)
 ·refine A0<|Zq (CD [(0,1),(1,1)] underlying34 Aw (ZrE.nilS (ZrE.nilS ZrE.nil)) Z (BQ.done Z))<|Es (CE 1 Z Z (Af.cast (Af.cons Ay (Af.cons Ay Af.nil)) Z) Z (AZ.cons Bo (AZ.cons Bo AZ.nil)) (Af.cast (Af.cons Ay (Af.cons Ay Af.nil)) Z) Aw)<|Zb Z<|A5<|Ap<|C6 aZ [.rd (A3 aZ) [],.val (.slice none 0 0)] 1 [] [.val (.slice none 0 0)] Z Z Z<|C6 Ad [.rd (A3 aZ) [],.rd (A3 Ad) []] 1 [.rd (A3 aZ) []] [] Z Z Z<|D0 (R:=A8) (⟨[],[]⟩:A4) 1 Z (Sp.via (Sp.prod (Sp.prod Sp.unit)))<|Bu [] [1001] Z (eC 1 Z Z AH<|eE Z<|eN) (y1 Z)
 ·refine Zt<|Bt (λ(s3:Unit) M O=>Sta (ctx 62 H [Am] w) [(0,.rd (A3 Ad) a0),(2,.val (A7 v1 0))] [(1,some (v1,.box 34 [.val (.slice none 0 0),.val (.slice none 0 0)])),Am] M O) ?_ (λs3=>?_)
  ·refine A0<|Zm Z<|Zq (Ar Z .rd Z tu32)<|Zm Z<|Zn<|AJ (λ(s4:Int) M O=>Sta (ctx 62 H [Am] w) [(0,.rd (A3 Ad) a0),(2,.val (A7 v1 0)),(19,.rd (A3 Ad) a0),(20,.rd A2 (a0.length:Int)),(21,.rd A2 s4)] [(1,some (v1,.box 34 [.val (.slice none 0 0),.val (.slice none 0 0)])),Am] M O) (λM O h=>Zu h [1,1001]) (λs4=>?_);refine A0<|Zq (I.lss Z Z)<|Zn<|A9<|gIf Z Z (λh5=>?_) (λh5=>?_)
   ·refine Zt<|A9<|AD<|A0<|An λx6 h7=>Zq (ixR Z Z h7 tu32 B4 Z)<|Zq (ldR Z Bz)<|Eb Z (AL 1100 B4 (ZrE.rd (R:=Aa) (x:=0) (Zr.num Z) (ZrE.nilS (ZrE.rd (R:=Ao) (x:=0) (Zr.num Z) (ZrE.rd (R:=Ba) (x:=(⟨0,[],(⟨0,0,0,[]⟩:Az)⟩:AP)) CR (ZrE.rd (R:=Bc) (x:=(⟨0,0⟩:AC)) CM ZrE.nil Z) Z) Z)) Z)) λv8=>Bh aZ [.rd Aa 0,.rd (A3 aZ) [],.rd Ao 0,.rd Ba (⟨0,[],(⟨0,0,0,[]⟩:Az)⟩:AP),.rd Bc (⟨0,0⟩:AC)] 1100 [.rd Aa 0] [.rd Ao 0,.rd Ba (⟨0,[],(⟨0,0,0,[]⟩:Az)⟩:AP),.rd Bc (⟨0,0⟩:AC)] Z Z Z<|BC (R:=Ad) (⟨0,[],0,(⟨0,[],(⟨0,0,0,[]⟩:Az)⟩:AP),(⟨0,0⟩:AC)⟩:Ae) 1100 Z (Sp.via (Sp.prod (Sp.prod (Sp.prod (Sp.prod (Sp.prod Sp.unit))))))<|Es (sto 1100 Z Z fH Z B4)<|Zn<|A0<|Zq (ld 1100 Z Z fH Bz Z)<|Zc [1001] [] func60 Z (OK _) λr9 ad=>Zb Z<|A0<|Zm Z<|Zq (I.neq Z Z)<|Zj Z (λa6=>?_) (λa6=>?_)
    ·refine A0<|Zq (CD [(0,1),(1,1)] underlying34 Aw (ZrE.nilS (ZrE.nilS ZrE.nil)) Z (BQ.done Z))<|Zm Z<|Es (CE 1 Z Z (Af.cast (Af.cons Ay (Af.cons Ay Af.nil)) Z) Z (AZ.cons Bo (AZ.cons Bo AZ.nil)) (Af.cast (Af.cons Ay (Af.cons Ay Af.nil)) Z) Aw)<|Zb Z<|A5<|B7<|Ap<|Bp<|Bl<|C6 aZ [.rd (A3 aZ) [],.val (.slice none 0 0)] 1 [] [.val (.slice none 0 0)] Z Z Z<|C6 Ad [.rd (A3 aZ) [],.rd (A3 Ad) []] 1 [.rd (A3 aZ) []] [] Z Z Z<|D0 (R:=A8) (⟨[],[]⟩:A4) 1 Z (Sp.via (Sp.prod (Sp.prod Sp.unit)))<|Bu [] [1001] Z (eC 1 Z Z AH<|eE Z<|eN) (y1 Z)
    ·refine AU<|Au<|Ak<|Al<|Zq (I.add Z Z)<|Zm Z<|Ah<|AB (λM O h=>Zu h [1,1001])
   ·refine AF<|AG<|AI<|Bk (λM O h=>Zu h [1,1001])
  ·refine A0<|Eb Z (AL 1101 Aw (ZrE.nilS (ZrE.nilS ZrE.nil))) λa2=>Zn<|Bt (λ(a1:(List V3) × (List Ae)) M O=>Sta (ctx 62 H [Am] w) [(2,.val (A7 v1 0)),(7,.val (A7 a2 0))] [(1,some (v1,.box 34 [.val (.slice none 0 0),.val (.slice none 0 0)])),(1101,some (a2,.box 34 [.rd (A3 aZ) a1.1,.rd (A3 Ad) a1.2])),Am] M O) ?_ (λa1=>?_)
   ·refine A0<|Zm Z<|Zq (Ar Z .rd Z tu32)<|Zm Z<|Zn<|gPnl aZ [.rd (A3 aZ) [],.val (.slice none 0 0)] 1101 [] [.val (.slice none 0 0)] Z Z Z<|gPnl Ad [.rd (A3 aZ) [],.rd (A3 Ad) []] 1101 [.rd (A3 aZ) []] [] Z Z Z<|AJ (λ(U:(List V3) × (List Ae) × Int) M O=>Sta (ctx 62 H [Am] w) [(2,.val (A7 v1 0)),(7,.val (A7 a2 0)),(32,.rd (A3 Ad) a0),(33,.rd A2 (a0.length:Int)),(34,.rd A2 U.2.2)] [(1,some (v1,.box 34 [.val (.slice none 0 0),.val (.slice none 0 0)])),(1101,some (a2,.box 34 [.rd (A3 aZ) U.1,.rd (A3 Ad) U.2.1])),Am] M O) (λM O h=>Zu h [1,1101,1001]) (λU=>?_)
    refine A0<|Zq (I.lss Z Z)<|Zn<|A9<|gIf Z Z (λa7=>?_) (λa7=>?_)
    ·refine Zt<|A9<|AD<|A0<|An λae a8=>Zq (ixR Z Z a8 tu32 B4 Z)<|Zq (ldR Z Bz)<|Eb Z (AL 1102 B4 (ZrE.rd (R:=Aa) (x:=0) (Zr.num Z) (ZrE.nilS (ZrE.rd (R:=Ao) (x:=0) (Zr.num Z) (ZrE.rd (R:=Ba) (x:=(⟨0,[],(⟨0,0,0,[]⟩:Az)⟩:AP)) CR (ZrE.rd (R:=Bc) (x:=(⟨0,0⟩:AC)) CM ZrE.nil Z) Z) Z)) Z)) λaf=>Bh aZ [.rd Aa 0,.rd (A3 aZ) [],.rd Ao 0,.rd Ba (⟨0,[],(⟨0,0,0,[]⟩:Az)⟩:AP),.rd Bc (⟨0,0⟩:AC)] 1102 [.rd Aa 0] [.rd Ao 0,.rd Ba (⟨0,[],(⟨0,0,0,[]⟩:Az)⟩:AP),.rd Bc (⟨0,0⟩:AC)] Z Z Z<|BC (R:=Ad) (⟨0,[],0,(⟨0,[],(⟨0,0,0,[]⟩:Az)⟩:AP),(⟨0,0⟩:AC)⟩:Ae) 1102 Z (Sp.via (Sp.prod (Sp.prod (Sp.prod (Sp.prod (Sp.prod Sp.unit))))))<|Es (sto 1102 Z Z fH Z B4)<|Zn<|A0<|Zq (ld 1102 Z Z fH Bz Z)<|Zc [1001] [] func61 Z (OG _) λah ai=>Zm Z<|Zq (ext Z Z)<|Zq (ext Z Z)<|Eb Z (AL 1103 Ax (.zr (R:=aZ) (x:=(Vector.replicate 32 0)) C0)) λaj=>Es (sto 1103 Z Z fH Z Ax)<|Zb Z<|A0<|BC (R:=A8) (⟨U.1,U.2.1⟩:A4) 1101 Z (Sp.via (Sp.prod (Sp.prod Sp.unit)))<|Zq (ld 1101 Z Z fH AH Z)<|Zq (ld 1103 Z Z fH AN Z)<|Zq (ld 1102 Z Z fH Bz Z)<|Zc [] [] func27 Z (P6 _ _ _) λak am=>Zm Z<|Zq (ext Z Z)<|Zq (ext Z Z)<|Eb Z (AL 1104 Aw (ZrE.nilS (ZrE.nilS ZrE.nil))) λao=>Bh aZ [.rd (A3 aZ) [],.val (.slice none 0 0)] 1104 [] [.val (.slice none 0 0)] Z Z Z<|Bh Ad [.rd (A3 aZ) [],.rd (A3 Ad) []] 1104 [.rd (A3 aZ) []] [] Z Z Z<|BC (R:=A8) (⟨[],[]⟩:A4) 1104 Z (Sp.via (Sp.prod (Sp.prod Sp.unit)))<|Es (sto 1104 Z Z fH Z Aw)<|Zb Z<|A9<|A0<|Zm Z<|Zq (By Z)<|Zj Z (λab=>?_) (λab=>?_)
     ·refine A0<|Zq (CD [(0,1),(1,1)] underlying34 Aw (ZrE.nilS (ZrE.nilS ZrE.nil)) Z (BQ.done Z))<|Es (CE 1 Z Z (Af.cast (Af.cons Ay (Af.cons Ay Af.nil)) Z) Z (AZ.cons Bo (AZ.cons Bo AZ.nil)) (Af.cast (Af.cons Ay (Af.cons Ay Af.nil)) Z) Aw)<|Zb Z<|A5<|Ap<|B7<|Ap<|Bp<|Bl<|C6 aZ [.rd (A3 aZ) [],.val (.slice none 0 0)] 1 [] [.val (.slice none 0 0)] Z Z Z<|C6 Ad [.rd (A3 aZ) [],.rd (A3 Ad) []] 1 [.rd (A3 aZ) []] [] Z Z Z<|D0 (R:=A8) (⟨[],[]⟩:A4) 1 Z (Sp.via (Sp.prod (Sp.prod Sp.unit)))<|Bu [] [1001] Z (eC 1 Z Z AH<|eE Z<|eN) (y1 Z)
     ·refine Zt<|Al<|Zq (ld 1104 Z Z fH AH Z)<|Es (sto 1101 Z Z fH Z Aw)<|Ah<|Au<|Ak<|Al<|Zq (I.add Z Z)<|Zm Z<|Ah<|eSpl (R:=A8) 1101 Z (Sp.via (Sp.prod (Sp.prod Sp.unit)))<|AB (λM O h=>Zu h [1,1101,1001])
    ·refine AF<|AG<|AI<|Bk (λM O h=>Zu h [1,1101,1001])
   ·refine A9<|A0<|BC (R:=A8) (⟨a1.1,a1.2⟩:A4) 1101 Z (Sp.via (Sp.prod (Sp.prod Sp.unit)))<|Zq (ld 1101 Z Z fH AH Z)<|Zc [] [] func62 Z (Tk _) λap aq=>Zb Z<|A0<|Zm Z<|Zq (I.neq Z Z)<|Zj Z (λac=>?_) (λac=>?_)
    ·refine A0<|Zq (CD [(0,1),(1,1)] underlying34 Aw (ZrE.nilS (ZrE.nilS ZrE.nil)) Z (BQ.done Z))<|Zm Z<|Es (CE 1 Z Z (Af.cast (Af.cons Ay (Af.cons Ay Af.nil)) Z) Z (AZ.cons Bo (AZ.cons Bo AZ.nil)) (Af.cast (Af.cons Ay (Af.cons Ay Af.nil)) Z) Aw)<|Zb Z<|A5<|Ap<|C6 aZ [.rd (A3 aZ) [],.val (.slice none 0 0)] 1 [] [.val (.slice none 0 0)] Z Z Z<|C6 Ad [.rd (A3 aZ) [],.rd (A3 Ad) []] 1 [.rd (A3 aZ) []] [] Z Z Z<|D0 (R:=A8) (⟨[],[]⟩:A4) 1 Z (Sp.via (Sp.prod (Sp.prod Sp.unit)))<|Bu [] [1001] Z (eC 1 Z Z AH<|eE Z<|eN) (y1 Z)
    ·refine Zt<|A0<|Zq (ld 1101 Z Z fH AH Z)<|Bh aZ [.rd (A3 aZ) [],.val (.slice none 0 0)] 1 [] [.val (.slice none 0 0)] Z Z Z<|Bh Ad [.rd (A3 aZ) [],.rd (A3 Ad) []] 1 [.rd (A3 aZ) []] [] Z Z Z<|BC (R:=A8) (⟨[],[]⟩:A4) 1 Z (Sp.via (Sp.prod (Sp.prod Sp.unit)))<|Es (sto 1 Z Z fH Z Aw)<|Zb Z<|A5<|Bu [] [1001] Z (eC 1 Z Z AH<|eE Z<|eN) (y1 Z)
def MI (a0:V3) (c1_0:A4):Option (Bool) :=
 FC c1_0 a0>>=λM =>
 some (!M.2)
theorem zv0 (a0:V3) (p1_0:Value) (c1_0:A4):Aj Tryz.prog 83 [.rd aZ a0,.val (A7 p1_0 0)] [(1,some (p1_0,.box 34 [.rd A8 c1_0]))] (MI a0 c1_0) (λr nv=>⟨[.rd Ai r],[(1,some (p1_0,.box 34 [.rd A8 c1_0]))]⟩):=by
 refine Aq 14 func83 Z Z Z λH w=>?_;refine A0<|Eb Z (bx 2 Z) λv1=>Zb Z<|A0<|Zq (ld 1 Z Z fH AH Z)<|Zq (ld 2 Z Z fH AN Z)<|Zc [] [] func23 Z (K4 _ _) λr2 n3=>Zm Z<|Zq (ext Z Z)<|Zq (ext Z Z)<|Za Z<|Zb Z<|A0<|Zm Z<|Zq (By Z)<|Zb Z<|A5<|Ze [] [1] Z
def Kp (a0:List V3) (c1_0:A4) (M:Int):Option (Sum (Sum Int Unit) Int) :=
 if decide (M<(a0.length:Int)) then
  idx a0 M>>=λO =>
  MI O c1_0>>=λU =>
  if U then
   some (.inl (.inl M))
  else
   some (.inr (w64 (M+1)))
 else
  some (.inl (.inr ()))
def P7 (a0:List V3) (c1_0:A4):Option (Int) :=
 Bi (iter (Kp a0 c1_0) 0) λs1 =>
 some (-1)
theorem z9i (a0:List V3) (p1_0:Value) (c1_0:A4):Aj Tryz.prog 116 [.rd (A3 aZ) a0,.val (.func (.func 83) #[] #[A7 p1_0 0])] [(1,some (p1_0,.box 34 [.rd A8 c1_0]))] (P7 a0 c1_0) (λr nv=>⟨[.rd A2 r],[(1,some (p1_0,.box 34 [.rd A8 c1_0]))]⟩):=by
 refine Aq 19 func116 Z Z Z λH w=>?_;refine A0<|Zb Z<|Bt (λ(s1:Unit) M O=>Sta (ctx 19 H [(1,some (p1_0,.box 34 [.rd A8 c1_0]))] w) [] [(1,some (p1_0,.box 34 [.rd A8 c1_0]))] M O) ?_ (λs1=>?_)
 ·refine A0<|Zm Z<|Zq (Ar Z .rd Z tu31)<|Zm Z<|Zn<|AJ (λ(U:Int) M O=>Sta (ctx 19 H [(1,some (p1_0,.box 34 [.rd A8 c1_0]))] w) [(0,.rd (A3 aZ) a0),(1,.val (.func (.func 83) #[] #[A7 p1_0 0])),(7,.rd A2 (a0.length:Int)),(8,.rd A2 U)] [(1,some (p1_0,.box 34 [.rd A8 c1_0]))] M O) (λM O h=>Zu h [1]) (λU=>?_);refine A0<|Zq (I.lss Z Z)<|Zn<|A9<|gIf Z Z (λh3=>?_) (λh3=>?_)
  ·refine Zt<|A9<|AD<|A0<|Zm Z<|Zb Z<|A0<|Zm Z<|Zm Z<|Zm Z<|An λx4 h5=>Zq (ixR Z Z h5 tu31 Ax Z)<|Zq (ldR Z AN)<|DC [1] [(1,1)] (gd0 Z) Z Z func83 Z Z (zv0 _ _ _) (Y1 Z) (cQ 1 Z<|cN) (y1 Z) λr6 n7=>Zj Z (λh8=>?_) (λh8=>?_)
   ·refine A0<|Zm Z<|Zb Z<|A5<|B7<|Ap<|Bp<|Bl<|Ze [] [1] Z
   ·refine AU<|Au<|Ak<|Al<|Zq (I.add Z Z)<|Zm Z<|Ah<|AB (λM O h=>Zu h [1])
  ·refine AF<|AG<|AI<|Bk (λM O h=>Zu h [1])
 ·refine A0<|Zb Z<|A5<|Ze [] [1] Z
def MJ (a0:List V3) (c1_0:A4):Option (Bool) :=
 P7 a0 c1_0>>=λM =>
 some (decide (0<=M))>>=λO =>
 some O
theorem z8h (a0:List V3) (p1_0:Value) (c1_0:A4):Aj Tryz.prog 82 [.rd (A3 aZ) a0,.val (.func (.func 83) #[] #[A7 p1_0 0])] [(1,some (p1_0,.box 34 [.rd A8 c1_0]))] (MJ a0 c1_0) (λr nv=>⟨[.rd Ai r],[(1,some (p1_0,.box 34 [.rd A8 c1_0]))]⟩):=by
 refine Aq 9 func82 Z Z Z λH w=>?_;refine A0<|Zb Z<|A0<|Zm Z<|Zm Z<|Zc [1] [(1,1)] func116 Z (z9i _ _ _) λr1 n2=>Zq (I.geq Z Z)<|Za Z<|AR 4 Z λy3=>Zn<|A5<|Ze [] [1] Z
def Kq (a0:A4) (M:Ae):Option (A4 × V3 × Int) :=
 Cb a0>>=λr5 =>
 (if r5==0 then
  Ir M>>=λr9 =>
  some r9
 else
  some r5)>>=λs7 =>
 if s7 != 0 then
  some ((⟨[],[]⟩:A4),(Vector.replicate 32 0),s7)
 else
  Iq M>>=λO =>
  FG a0 O.1 M>>=λU =>
  if !U.2 then
   some ((⟨[],[]⟩:A4),(Vector.replicate 32 0),14)
  else
   MJ M.Preds a0>>=λa2 =>
   if a2 then
    some ((⟨[],[]⟩:A4),(Vector.replicate 32 0),40)
   else
    some ((a0.Ops.length:Int)==60)>>=λa6 =>
    if a6 then
     some ((⟨[],[]⟩:A4),(Vector.replicate 32 0),18)
    else
     some (U.1,O.1,0)
theorem z10c (a0:A4) (U:Ae):Aj Tryz.prog 52 [.rd A8 a0,.rd Ad U] [Am] (Kq a0 U) (λr nv=>⟨[.rd A8 r.1,.rd aZ r.2.1,.rd A2 r.2.2],[(1001,some (.bool true,.glob 1 (Av 64 Aa) Bv))]⟩):=by
 refine Aq 56 func52 Z Z Z λH w=>?_;refine A0<|Eb Z (bx 1 Z) λv1=>Eb Z (bx 2 Z) λv2=>Eb Z (AL 3 Aw (ZrE.nilS (ZrE.nilS ZrE.nil))) λv3=>Eb Z (AL 4 Ax (.zr (R:=aZ) (x:=(Vector.replicate 32 0)) C0)) λv4=>Zb Z<|A0<|Zq (ld 1 Z Z fH AH Z)<|Zc [1001] [] func42 Z (GD _) λr5 n6=>Zb Z<|B6 (λ(s7:Int) aa ww=>Sta (ctx 56 H [Am] w) [(2,.val (A7 v1 0)),(3,.val (A7 v2 0)),(4,.val (A7 v3 0)),(5,.val (A7 v4 0)),(7,.rd A2 s7)] [(1,some (v1,.box 34 [.rd A8 a0])),(2,some (v2,.box 73 [.rd Ad U])),(3,some (v3,.box 34 [.val (.slice none 0 0),.val (.slice none 0 0)])),(4,some (v4,.box 61 [.rd aZ (Vector.replicate 32 0)])),Am] aa ww) ?_ (λs7=>?_)
 ·refine A0<|Zm Z<|Zq (I.eql Z Z)<|Zj Z (λh8=>?_) (λh8=>?_)
  ·refine Al<|Zq (ld 2 Z Z fH Bz Z)<|Zc [1001] [] func60 Z (OK _) λr9 a7=>Za Z<|Ah<|AA (λaa ww h=>Zu h [1,2,3,4,1001])
  ·refine AU<|AA (λaa ww h=>Zu h [1,2,3,4,1001])
 ·refine A9<|A0<|Zm Z<|Zq (I.neq Z Z)<|Zj Z (λa2=>?_) (λa2=>?_)
  ·refine A0<|Zq (CD [(0,1),(1,1)] underlying34 Aw (ZrE.nilS (ZrE.nilS ZrE.nil)) Z (BQ.done Z))<|Zq (bldG (x':=((Vector.replicate 32 0):V3)) tu61 Ax C0 ti5 (Bld.done Z))<|Zm Z<|Es (CE 3 Z Z (Af.cast (Af.cons Ay (Af.cons Ay Af.nil)) Z) Z (AZ.cons Bo (AZ.cons Bo AZ.nil)) (Af.cast (Af.cons Ay (Af.cons Ay Af.nil)) Z) Aw)<|Es (sto 4 Z Z fH Z Ax)<|Zb Z<|A5<|Ap<|C6 aZ [.rd (A3 aZ) [],.val (.slice none 0 0)] 3 [] [.val (.slice none 0 0)] Z Z Z<|C6 Ad [.rd (A3 aZ) [],.rd (A3 Ad) []] 3 [.rd (A3 aZ) []] [] Z Z Z<|D0 (R:=A8) (⟨[],[]⟩:A4) 3 Z (Sp.via (Sp.prod (Sp.prod Sp.unit)))<|Bu [] [1001] Z (eC 3 Z Z AH<|eC 4 Z Z AN<|eE Z<|eN) (y1 Z)
  ·refine Zt<|A0<|Zq (ld 2 Z Z fH Bz Z)<|Zc [1001] [] func61 Z (OG _) λa8 ab=>Zm Z<|Zq (ext Z Z)<|Zq (ext Z Z)<|Eb Z (AL 1100 Ax (.zr (R:=aZ) (x:=(Vector.replicate 32 0)) C0)) λac=>Es (sto 1100 Z Z fH Z Ax)<|Zb Z<|A0<|Zq (ld 1 Z Z fH AH Z)<|Zq (ld 1100 Z Z fH AN Z)<|Zq (ld 2 Z Z fH Bz Z)<|Zc [] [] func27 Z (P6 _ _ _) λad ae=>Zm Z<|Zq (ext Z Z)<|Zq (ext Z Z)<|Eb Z (AL 1101 Aw (ZrE.nilS (ZrE.nilS ZrE.nil))) λaf=>Bh aZ [.rd (A3 aZ) [],.val (.slice none 0 0)] 1101 [] [.val (.slice none 0 0)] Z Z Z<|Bh Ad [.rd (A3 aZ) [],.rd (A3 Ad) []] 1101 [.rd (A3 aZ) []] [] Z Z Z<|BC (R:=A8) (⟨[],[]⟩:A4) 1101 Z (Sp.via (Sp.prod (Sp.prod Sp.unit)))<|Es (sto 1101 Z Z fH Z Aw)<|Zb Z<|A9<|AD<|A0<|Zm Z<|Zq (By Z)<|Zb Z<|gIf Z Z (λM=>?_) (λM=>?_)
   ·refine gKn 37 Z M<|A0<|Zq (CD [(0,1),(1,1)] underlying34 Aw (ZrE.nilS (ZrE.nilS ZrE.nil)) Z (BQ.done Z))<|Zq (bldG (x':=((Vector.replicate 32 0):V3)) tu61 Ax C0 ti5 (Bld.done Z))<|Es (CE 3 Z Z (Af.cast (Af.cons Ay (Af.cons Ay Af.nil)) Z) Z (AZ.cons Bo (AZ.cons Bo AZ.nil)) (Af.cast (Af.cons Ay (Af.cons Ay Af.nil)) Z) Aw)<|Es (sto 4 Z Z fH Z Ax)<|Zb Z<|A5<|B7<|Ap<|C6 aZ [.rd (A3 aZ) [],.val (.slice none 0 0)] 3 [] [.val (.slice none 0 0)] Z Z Z<|C6 Ad [.rd (A3 aZ) [],.rd (A3 Ad) []] 3 [.rd (A3 aZ) []] [] Z Z Z<|D0 (R:=A8) (⟨[],[]⟩:A4) 3 Z (Sp.via (Sp.prod (Sp.prod Sp.unit)))<|Bu [] [1001] Z (eC 3 Z Z AH<|eC 4 Z Z AN<|eE Z<|eN) (y1 Z)
   ·refine gKn 37 Z M<|A0<|Zq (faB 2 Z Z underlying73 Z (by exact B2))<|Zq (ld 2 Z Z (fP (Cv _)) B8 Z)<|Zq (mkf mp0 (mp1 Z))<|Zc [1] [(1,1)] func82 Z (z8h _ _ _) λah ai=>Zb Z<|gIf Z Z (λO=>?_) (λO=>?_)
    ·refine gKn 44 Z O<|A0<|Zq (CD [(0,1),(1,1)] underlying34 Aw (ZrE.nilS (ZrE.nilS ZrE.nil)) Z (BQ.done Z))<|Zq (bldG (x':=((Vector.replicate 32 0):V3)) tu61 Ax C0 ti5 (Bld.done Z))<|Es (CE 3 Z Z (Af.cast (Af.cons Ay (Af.cons Ay Af.nil)) Z) Z (AZ.cons Bo (AZ.cons Bo AZ.nil)) (Af.cast (Af.cons Ay (Af.cons Ay Af.nil)) Z) Aw)<|Es (sto 4 Z Z fH Z Ax)<|Zb Z<|A5<|B7<|Ap<|C6 aZ [.rd (A3 aZ) [],.val (.slice none 0 0)] 3 [] [.val (.slice none 0 0)] Z Z Z<|C6 Ad [.rd (A3 aZ) [],.rd (A3 Ad) []] 3 [.rd (A3 aZ) []] [] Z Z Z<|D0 (R:=A8) (⟨[],[]⟩:A4) 3 Z (Sp.via (Sp.prod (Sp.prod Sp.unit)))<|Bu [] [1001] Z (eC 3 Z Z AH<|eC 4 Z Z AN<|eE Z<|eN) (y1 Z)
    ·refine gKn 44 Z O<|A0<|Zq (faB 1 Z Z underlying34 Z (by exact Bq))<|Zq (ld 1 Z Z (fP (BN _)) BL Z)<|Zq (Ar Z .rd Z tu32)<|Zq (I.eql Z Z)<|Za Z<|AR 47 Z λaj=>Zj Z (λa6=>?_) (λa6=>?_)
     ·refine A0<|Zq (CD [(0,1),(1,1)] underlying34 Aw (ZrE.nilS (ZrE.nilS ZrE.nil)) Z (BQ.done Z))<|Zq (bldG (x':=((Vector.replicate 32 0):V3)) tu61 Ax C0 ti5 (Bld.done Z))<|Es (CE 3 Z Z (Af.cast (Af.cons Ay (Af.cons Ay Af.nil)) Z) Z (AZ.cons Bo (AZ.cons Bo AZ.nil)) (Af.cast (Af.cons Ay (Af.cons Ay Af.nil)) Z) Aw)<|Es (sto 4 Z Z fH Z Ax)<|Zb Z<|A5<|B7<|Ap<|C6 aZ [.rd (A3 aZ) [],.val (.slice none 0 0)] 3 [] [.val (.slice none 0 0)] Z Z Z<|C6 Ad [.rd (A3 aZ) [],.rd (A3 Ad) []] 3 [.rd (A3 aZ) []] [] Z Z Z<|D0 (R:=A8) (⟨[],[]⟩:A4) 3 Z (Sp.via (Sp.prod (Sp.prod Sp.unit)))<|Bu [] [1001] Z (eC 3 Z Z AH<|eC 4 Z Z AN<|eE Z<|eN) (y1 Z)
     ·refine AU<|Au<|Ak<|A9<|BK [3,4] mixed Z Z<|A6 0 Z Z (ld 1101 Z Z fH AH Z)<|A6 1 Z Z (ld 1100 Z Z fH AN Z)<|DE aZ [.rd (A3 aZ) [],.val (.slice none 0 0)] 3 [] [.val (.slice none 0 0)] Z Z Z<|DE Ad [.rd (A3 aZ) [],.rd (A3 Ad) []] 3 [.rd (A3 aZ) []] [] Z Z Z<|hJoi (R:=A8) (⟨[],[]⟩:A4) 3 Z (Sp.via (Sp.prod (Sp.prod Sp.unit)))<|Zp 2 Z Z Z Z Z (sto 3 Z Z fH Z Aw)<|Zp 3 Z Z Z Z Z (sto 4 Z Z fH Z Ax)<|A6 4 Z Z (asg Z)<|Bg (by kernel_rfl)<|Ak<|A5<|Bu [] [1001] Z (eC 3 Z Z AH<|eC 4 Z Z AN<|eE Z<|eN) (y1 Z)
end
section
def Hw (a0:A4) (a1:V3):Option (Ae × Int) :=
 Cb a0>>=λM =>
 if M != 0 then
  some ((⟨0,[],0,(⟨0,[],(⟨0,0,0,[]⟩:Az)⟩:AP),(⟨0,0⟩:AC)⟩:Ae),M)
 else
  FC a0 a1>>=λO =>
  if !O.2 then
   some ((⟨0,[],0,(⟨0,[],(⟨0,0,0,[]⟩:Az)⟩:AP),(⟨0,0⟩:AC)⟩:Ae),6)
  else
   idx a0.Ops O.1>>=λU =>
   G6 U>>=λa2 =>
   some (a2,0)
theorem U0 (a0:A4) (M:V3):Aj Tryz.prog 51 [.rd A8 a0,.rd aZ M] [Am] (Hw a0 M) (λr nv=>⟨[.rd Ad r.1,.rd A2 r.2],[(1001,some (.bool true,.glob 1 (Av 64 Aa) Bv))]⟩):=by
 refine Aq 30 func51 Z Z Z λH w=>?_;refine A0<|Eb Z (bx 1 Z) λv1=>Eb Z (bx 2 Z) λv2=>Eb Z (AL 3 B4 (ZrE.rd (R:=Aa) (x:=0) (Zr.num Z) (ZrE.nilS (ZrE.rd (R:=Ao) (x:=0) (Zr.num Z) (ZrE.rd (R:=Ba) (x:=(⟨0,[],(⟨0,0,0,[]⟩:Az)⟩:AP)) CR (ZrE.rd (R:=Bc) (x:=(⟨0,0⟩:AC)) CM ZrE.nil Z) Z) Z)) Z)) λv3=>Zb Z<|A9<|A0<|Zq (ld 1 Z Z fH AH Z)<|Zc [1001] [] func42 Z (GD _) λr4 n5=>Zb Z<|A0<|Zm Z<|Zq (I.neq Z Z)<|Zj Z (λU=>?_) (λU=>?_)
 ·refine A0<|Zq (CD [(0,1),(1,1),(2,1),(3,6),(9,2)] underlying73 B4 (ZrE.rd (R:=Aa) (x:=0) (Zr.num Z) (ZrE.nilS (ZrE.rd (R:=Ao) (x:=0) (Zr.num Z) (ZrE.rd (R:=Ba) (x:=(⟨0,[],(⟨0,0,0,[]⟩:Az)⟩:AP)) CR (ZrE.rd (R:=Bc) (x:=(⟨0,0⟩:AC)) CM ZrE.nil Z) Z) Z)) Z) Z (BQ.done Z))<|Zm Z<|Es (CE 3 Z Z (Af.cast (Af.cons BF (Af.cons Ay (Af.cons BF (Af.cons BF (Af.cons BF Af.nil))))) Z) Z (AZ.cons Do (AZ.cons Bo (AZ.cons Do (AZ.cons Do (AZ.cons Do AZ.nil))))) (Af.cast (Af.cons BF (Af.cons Ay (Af.cons BF (Af.cons BF (Af.cons BF Af.nil))))) Z) B4)<|Zb Z<|A5<|Ap<|C6 aZ [.rd Aa 0,.rd (A3 aZ) [],.rd Ao 0,.rd Ba (⟨0,[],(⟨0,0,0,[]⟩:Az)⟩:AP),.rd Bc (⟨0,0⟩:AC)] 3 [.rd Aa 0] [.rd Ao 0,.rd Ba (⟨0,[],(⟨0,0,0,[]⟩:Az)⟩:AP),.rd Bc (⟨0,0⟩:AC)] Z Z Z<|D0 (R:=Ad) (⟨0,[],0,(⟨0,[],(⟨0,0,0,[]⟩:Az)⟩:AP),(⟨0,0⟩:AC)⟩:Ae) 3 Z (Sp.via (Sp.prod (Sp.prod (Sp.prod (Sp.prod (Sp.prod Sp.unit))))))<|Bu [] [1001] Z (eC 3 Z Z Bz<|eE Z<|eN) (y1 Z)
 ·refine Zt<|A0<|Zq (ld 1 Z Z fH AH Z)<|Zq (ld 2 Z Z fH AN Z)<|Zc [] [] func23 Z (K4 _ _) λr7 n8=>Zm Z<|Zq (ext Z Z)<|Zq (ext Z Z)<|Za Z<|Zb Z<|A9<|A0<|Zm Z<|Zq (By Z)<|Zj Z (λh9=>?_) (λh9=>?_)
  ·refine A0<|Zq (CD [(0,1),(1,1),(2,1),(3,6),(9,2)] underlying73 B4 (ZrE.rd (R:=Aa) (x:=0) (Zr.num Z) (ZrE.nilS (ZrE.rd (R:=Ao) (x:=0) (Zr.num Z) (ZrE.rd (R:=Ba) (x:=(⟨0,[],(⟨0,0,0,[]⟩:Az)⟩:AP)) CR (ZrE.rd (R:=Bc) (x:=(⟨0,0⟩:AC)) CM ZrE.nil Z) Z) Z)) Z) Z (BQ.done Z))<|Es (CE 3 Z Z (Af.cast (Af.cons BF (Af.cons Ay (Af.cons BF (Af.cons BF (Af.cons BF Af.nil))))) Z) Z (AZ.cons Do (AZ.cons Bo (AZ.cons Do (AZ.cons Do (AZ.cons Do AZ.nil))))) (Af.cast (Af.cons BF (Af.cons Ay (Af.cons BF (Af.cons BF (Af.cons BF Af.nil))))) Z) B4)<|Zb Z<|A5<|Ap<|C6 aZ [.rd Aa 0,.rd (A3 aZ) [],.rd Ao 0,.rd Ba (⟨0,[],(⟨0,0,0,[]⟩:Az)⟩:AP),.rd Bc (⟨0,0⟩:AC)] 3 [.rd Aa 0] [.rd Ao 0,.rd Ba (⟨0,[],(⟨0,0,0,[]⟩:Az)⟩:AP),.rd Bc (⟨0,0⟩:AC)] Z Z Z<|D0 (R:=Ad) (⟨0,[],0,(⟨0,[],(⟨0,0,0,[]⟩:Az)⟩:AP),(⟨0,0⟩:AC)⟩:Ae) 3 Z (Sp.via (Sp.prod (Sp.prod (Sp.prod (Sp.prod (Sp.prod Sp.unit))))))<|Bu [] [1001] Z (eC 3 Z Z Bz<|eE Z<|eN) (y1 Z)
  ·refine Zt<|A0<|Zq (faB 1 Z Z underlying34 Z (by exact Bq))<|Zq (ld 1 Z Z (fP (BN _)) BL Z)<|Zm Z<|An λa2 O=>Zq (ixR Z Z O tu32 B4 Z)<|Zq (ldR Z Bz)<|Zc [] [] func26 Z (Kj _) λa6 a7=>Bh aZ [.rd Aa 0,.rd (A3 aZ) [],.rd Ao 0,.rd Ba (⟨0,[],(⟨0,0,0,[]⟩:Az)⟩:AP),.rd Bc (⟨0,0⟩:AC)] 3 [.rd Aa 0] [.rd Ao 0,.rd Ba (⟨0,[],(⟨0,0,0,[]⟩:Az)⟩:AP),.rd Bc (⟨0,0⟩:AC)] Z Z Z<|BC (R:=Ad) (⟨0,[],0,(⟨0,[],(⟨0,0,0,[]⟩:Az)⟩:AP),(⟨0,0⟩:AC)⟩:Ae) 3 Z (Sp.via (Sp.prod (Sp.prod (Sp.prod (Sp.prod (Sp.prod Sp.unit))))))<|Es (sto 3 Z Z fH Z B4)<|Zb Z<|A5<|Bu [] [1001] Z (eC 3 Z Z Bz<|eE Z<|eN) (y1 Z)
def Hx (a0:A4) (M:(List (V3 × Int)) × Int):Option (Sum ((List (V3 × Int))) ((List (V3 × Int)) × Int)) :=
 if decide (M.2<(a0.IDs.length:Int)) then
  idx a0.IDs M.2>>=λO =>
  some (.inr (Du M.1 O M.2,w64 (M.2+1)))
 else
  some (.inl M.1)
def G8 (a0:A4):Option ((List (V3 × Int))) :=
 (iter (Hx a0) (([]:List (V3 × Int)),0))>>=λM =>
 some M
theorem MK (a0:A4):Aj Tryz.prog 71 [.rd A8 a0] [] (G8 a0) (λr nv=>⟨[.val (nv 0)],[(100,some (nv 0,.map aZ A2 r))]⟩):=by
 refine Aq 23 func71 Z Z Z λH w=>?_;refine A0<|Eb Z (bx 1 Z) λv1=>Zb Z<|A0<|Zq (faB 1 Z Z underlying34 Z (by exact B2))<|Zq (ld 1 Z Z (fP (BT _)) B8 Z)<|Zq (Ar Z .rd Z tu31)<|Ef Z (mkm aZ A2 2 (Or.inr ⟨_,_,Z,rfl⟩) underlying128) λU=>Zb Z<|B6 (λ(s3:(List (V3 × Int))) M O=>Sta (ctx 23 H [] w) [(3,.val U)] [(2,some (U,.map aZ A2 s3))] M O) ?_ (λs3=>?_)
 ·refine A0<|Zq (faB 1 Z Z underlying34 Z (by exact B2))<|Zq (ld 1 Z Z (fP (BT _)) B8 Z)<|Zq (Ar Z .rd Z tu31)<|Zm Z<|Zn<|AJ (λ(s4:(List (V3 × Int)) × Int) M O=>Sta (ctx 23 H [] w) [(3,.val U),(11,.rd (A3 aZ) a0.IDs),(12,.rd A2 (a0.IDs.length:Int)),(13,.rd A2 s4.2)] [(2,some (U,.map aZ A2 s4.1))] M O) (λM O h=>Zu h [2]) (λs4=>?_);refine A0<|Zq (I.lss Z Z)<|Zn<|A9<|gIf Z Z (λh5=>?_) (λh5=>?_)
  ·refine Zt<|A9<|AD<|A0<|Zm Z<|An λx6 h7=>Zq (ixR Z Z h7 tu31 Ax Z)<|Zq (ldR Z AN)<|Eb Z (AL 3 Ax (.zr (R:=aZ) (x:=(Vector.replicate 32 0)) C0)) λv8=>Za Z<|Es (sto 3 Z Z fH Z Ax)<|Zn<|Al<|Zm Z<|Zq (ld 3 Z Z fH AN Z)<|Zm Z<|Es (mup 2 Z Z Z Z ky61 underlying128)<|Ah<|Au<|Ak<|Al<|Zq (I.add Z Z)<|Zm Z<|Ah<|AB (λM O h=>Zu h [2])
  ·refine AF<|AG<|AI<|AA (λM O h=>Zu h [2])
 ·refine A0<|Zm Z<|Zb Z<|A5<|Ze [U] [2] Z
def Kr (a0:A4) (O:List Bool) (M:(List V3) × Int):Option (Sum ((List V3)) ((List V3) × Int)) :=
 if decide (M.2<(O.length:Int)) then
  idx O M.2>>=λx6 =>
  if x6 then
   idx a0.IDs M.2>>=λx9 =>
   app 32 M.1 [x9]>>=λU =>
   some (.inr (U,w64 (M.2+1)))
  else
   some (.inr (M.1,w64 (M.2+1)))
 else
  some (.inl M.1)
def ML (a0:A4) (M:List Bool):Option ((List V3)) :=
 (iter (Kr a0 M) ([],0))>>=λO =>
 some O
theorem zml (a0:A4) (a1:List Bool):Aj Tryz.prog 72 [.rd A8 a0,.rd (A3 Ai) a1] [] (ML a0 a1) (λr M=>⟨[.val (M 0)],[(100,some (M 0,.list aZ 61 r))]⟩):=by
 refine Aq 26 func72 Z Z Z λH w=>?_;refine A0<|Eb Z (bx 1 Z) λv1=>Zb Z<|A0<|Zb Z<|B6 (λ(s2:(List V3)) O U=>∃ M:Nat->Value,Sta (ctx 26 H [] w) [(5,.val (M 0))] [(3,some ((M 0),.list aZ 61 s2))] O U) ?_ (λs2=>?_)
 ·refine A0<|Zm Z<|Zq (Ar Z .rd Z tu130)<|Zm Z<|Zn<|DB aZ 61 6<|AJ (λ(s3:(List V3) × Int) O U=>∃ M:Nat->Value,Sta (ctx 26 H [] w) [(1,.rd (A3 Ai) a1),(2,.val (A7 v1 0)),(5,.val (M 0)),(8,.rd A2 (a1.length:Int)),(9,.rd A2 s3.2)] [(1,some (v1,.box 34 [.rd A8 a0])),(5,some ((M 0),.list aZ 61 s3.1))] O U) (λO U h=>⟨nvl [(.slice none 0 0)],Zu h [1,6]⟩) (λs3=>?_);refine gEx λn4=>A0<|Zq (I.lss Z Z)<|Zn<|A9<|gIf Z Z (λh5=>?_) (λh5=>?_)
  ·refine Zt<|A9<|AD<|A0<|Zm Z<|Zb Z<|A0<|Zm Z<|Zm Z<|An λx6 h7=>Zq (ixR Z Z h7 tu130 ti4 Z)<|Zq (ldR Z ty4)<|Zj Z (λh8=>?_) (λh8=>?_)
   ·refine Al<|Zm Z<|Zq (faB 1 Z Z underlying34 Z (by exact B2))<|Zq (ld 1 Z Z (fP (BT _)) B8 Z)<|Zm Z<|An λx9 a2=>Zq (ixR Z Z a2 tu31 Ax Z)<|Zq (ldR Z AN)<|Ef Z (lit (R:=aZ) ([x9]:List V3) 7 (pP Z Z<|pN) Z tu31 Ax Z Z) λab=>BG 7 [22] Z (fS Z<|fN)<|An λac a6=>Ef Z (apn 5 Z Z Z .rd a6 tu31 Ax Z Z Z) λa7=>Za Z<|Ah<|Au<|Ak<|Al<|Zq (I.add Z Z)<|Zm Z<|Ah<|AB (λO U h=>⟨nvl [a7],Zu h [1,5]⟩)
   ·refine AU<|Au<|Ak<|Al<|Zq (I.add Z Z)<|Zm Z<|Ah<|AB (λO U h=>⟨nvl [(n4 0)],Zu h [1,5]⟩)
  ·refine AF<|AG<|AI<|AA (λO U h=>⟨nvl [(n4 0)],Zu h [5]⟩)
 ·refine gEx λa8=>A0<|Zm Z<|Zb Z<|A5<|Ze [(a8 0)] [3] Z
def Ks (O:List Bool) (M:(List Bool) × Int):Option (Sum ((List Bool)) ((List Bool) × Int)) :=
 if decide (M.2<(O.length:Int)) then
  idx M.1 M.2>>=λa1 =>
  some (.inr (M.1.set (M.2:Int).toNat true,w64 (M.2+1)))
 else
  some (.inl M.1)
def Kt (r5:(List (V3 × Int))) (O:Ae) (M:(List Bool) × Int):Option (Sum ((List Bool)) ((List Bool) × Int)) :=
 if decide (M.2<(O.Preds.length:Int)) then
  idx O.Preds M.2>>=λU =>
  idx M.1 ((C7 r5 U).getD 0)>>=λa1 =>
  some (.inr (M.1.set ((C7 r5 U).getD 0:Int).toNat false,w64 (M.2+1)))
 else
  some (.inl M.1)
def Ku (a0:A4) (r5:(List (V3 × Int))) (M:(List Bool) × Int):Option (Sum ((List Bool)) ((List Bool) × Int)) :=
 if decide (M.2<(a0.Ops.length:Int)) then
  (idx a0.Ops M.2>>=λO =>
  iter (Kt r5 O) (M.1,0))>>=λU =>
  some (.inr (U,w64 (M.2+1)))
 else
  some (.inl M.1)
def Hy (a0:A4):Option ((List V3) × Int) :=
 Cb a0>>=λM =>
 if M != 0 then
  some ([],M)
 else
  G8 a0>>=λr5 =>
  mkn 1 false (a0.IDs.length:Int)>>=λO =>
  (iter (Ks O) (O,0))>>=λU =>
  (iter (Ku a0 r5) (U,0))>>=λa1 =>
  ML a0 a1>>=λa2 =>
  some (a2,0)
theorem U1 (a0:A4):Aj Tryz.prog 47 [.rd A8 a0] [Am] (Hy a0) (λr nv=>⟨[.val (nv 0),.rd A2 r.2],[(1001,some (.bool true,.glob 1 (Av 64 Aa) Bv)),(100,some (nv 0,.list aZ 61 r.1))]⟩):=by
 refine Aq 56 func47 Z Z Z λH w=>?_;refine A0<|Eb Z (bx 1 Z) λU=>Za Z<|Zb Z<|A9<|A0<|Zq (ld 1 Z Z fH AH Z)<|Zc [1001] [] func42 Z (GD _) λr2 n3=>Zb Z<|A0<|Zm Z<|Zq (I.neq Z Z)<|Zj Z (λh4=>?_) (λh4=>?_)
 ·refine A0<|Zm Z<|Za Z<|Zb Z<|A5<|Ap<|Cq aZ 61 2<|Ze [(.slice none 0 0)] [1001,2] Z
 ·refine Zt<|A0<|Zq (ld 1 Z Z fH AH Z)<|Zc [] [(100,3)] func71 Z (MK _) λr5 n6=>Zb Z<|A0<|Zq (faB 1 Z Z underlying34 Z (by exact B2))<|Zq (ld 1 Z Z (fP (BT _)) B8 Z)<|Zq (Ar Z .rd Z tu31)<|An λx7 h8=>Ef Z (mks (R:=Ai) 4 Z Z h8 tu130 ti4 Zr.bool Z) λv9=>Zb Z<|B6 (λ(a7:(List Bool)) M O=>Sta (ctx 56 H [Am] w) [(1,.val (A7 U 0)),(5,.val (n6 0)),(6,.val v9)] [(1,some (U,.box 34 [.rd A8 a0])),(3,some ((n6 0),.map aZ A2 r5)),(4,some (v9,.list Ai 4 a7)),Am] M O) ?_ (λa7=>?_)
  ·refine A0<|Zm Z<|Zq (Ar Z (.own 4 Z) Z tu130)<|Zm Z<|Zn<|AJ (λ(a2:(List Bool) × Int) M O=>Sta (ctx 56 H [Am] w) [(1,.val (A7 U 0)),(5,.val (n6 0)),(6,.val v9),(24,.rd A2 (x7.length:Int)),(25,.rd A2 a2.2)] [(1,some (U,.box 34 [.rd A8 a0])),(3,some ((n6 0),.map aZ A2 r5)),(4,some (v9,.list Ai 4 a2.1)),Am] M O) (λM O h=>Zu h [1,3,4,1001]) (λa2=>?_);refine A0<|Zq (I.lss Z Z)<|Zn<|A9<|gIf Z Z (λaf=>?_) (λaf=>?_)
   ·refine Zt<|A9<|AD<|A0<|Zm Z<|Zb Z<|Al<|Zm Z<|Zm Z<|An λao a8=>Zq (ixO 4 Z Z Z a8 tu130 ti4)<|Es (sto 4 Z Z (Foc.el a8) Z ti4)<|Ah<|Au<|Ak<|Al<|Zq (I.add Z Z)<|Zm Z<|Ah<|AB (λM O h=>Zu h [1,3,4,1001])
   ·refine AF<|AG<|AI<|AA (λM O h=>Zu h [1,3,4,1001])
  ·refine B6 (λ(ab:(List Bool)) M O=>Sta (ctx 56 H [Am] w) [(1,.val (A7 U 0)),(6,.val v9)] [(1,some (U,.box 34 [.rd A8 a0])),(4,some (v9,.list Ai 4 ab)),Am] M O) ?_ (λab=>?_)
   ·refine A0<|Zq (faB 1 Z Z underlying34 Z (by exact Bq))<|Zq (ld 1 Z Z (fP (BN _)) BL Z)<|Zq (Ar Z .rd Z tu32)<|Zm Z<|Zn<|AJ (λ(a1:(List Bool) × Int) M O=>Sta (ctx 56 H [Am] w) [(1,.val (A7 U 0)),(5,.val (n6 0)),(6,.val v9),(33,.rd (A3 Ad) a0.Ops),(34,.rd A2 (a0.Ops.length:Int)),(35,.rd A2 a1.2)] [(1,some (U,.box 34 [.rd A8 a0])),(3,some ((n6 0),.map aZ A2 r5)),(4,some (v9,.list Ai 4 a1.1)),Am] M O) (λM O h=>Zu h [1,3,4,1001]) (λa1=>?_)
    refine A0<|Zq (I.lss Z Z)<|Zn<|A9<|gIf Z Z (λah=>?_) (λah=>?_)
    ·refine Zt<|B6 (λ(ac:(List Bool)) M O=>Sta (ctx 56 H [Am] w) [(1,.val (A7 U 0)),(5,.val (n6 0)),(6,.val v9),(33,.rd (A3 Ad) a0.Ops),(34,.rd A2 (a0.Ops.length:Int)),(35,.rd A2 a1.2)] [(1,some (U,.box 34 [.rd A8 a0])),(3,some ((n6 0),.map aZ A2 r5)),(4,some (v9,.list Ai 4 ac)),Am] M O) ?_ (λac=>?_)
     ·refine AD<|A0<|An λad ai=>Zq (ixR Z Z ai tu32 B4 Z)<|Zq (ldR Z Bz)<|Eb Z (AL 1100 B4 (ZrE.rd (R:=Aa) (x:=0) (Zr.num Z) (ZrE.nilS (ZrE.rd (R:=Ao) (x:=0) (Zr.num Z) (ZrE.rd (R:=Ba) (x:=(⟨0,[],(⟨0,0,0,[]⟩:Az)⟩:AP)) CR (ZrE.rd (R:=Bc) (x:=(⟨0,0⟩:AC)) CM ZrE.nil Z) Z) Z)) Z)) λap=>Bh aZ [.rd Aa 0,.rd (A3 aZ) [],.rd Ao 0,.rd Ba (⟨0,[],(⟨0,0,0,[]⟩:Az)⟩:AP),.rd Bc (⟨0,0⟩:AC)] 1100 [.rd Aa 0] [.rd Ao 0,.rd Ba (⟨0,[],(⟨0,0,0,[]⟩:Az)⟩:AP),.rd Bc (⟨0,0⟩:AC)] Z Z Z<|BC (R:=Ad) (⟨0,[],0,(⟨0,[],(⟨0,0,0,[]⟩:Az)⟩:AP),(⟨0,0⟩:AC)⟩:Ae) 1100 Z (Sp.via (Sp.prod (Sp.prod (Sp.prod (Sp.prod (Sp.prod Sp.unit))))))<|Es (sto 1100 Z Z fH Z B4)<|Zn<|A0<|Zq (faB 1100 Z Z underlying73 Z (by exact B2))<|Zq (ld 1100 Z Z (fP (Cv _)) B8 Z)<|Zq (Ar Z .rd Z tu31)<|Zm Z<|Zn<|AJ (λ(a6:(List Bool) × Int) M O=>Sta (ctx 56 H [Am] w) [(1,.val (A7 U 0)),(5,.val (n6 0)),(6,.val v9),(33,.rd (A3 Ad) a0.Ops),(34,.rd A2 (a0.Ops.length:Int)),(35,.rd A2 a1.2),(40,.rd (A3 aZ) ad.Preds),(41,.rd A2 (ad.Preds.length:Int)),(42,.rd A2 a6.2)] [(1,some (U,.box 34 [.rd A8 a0])),(3,some ((n6 0),.map aZ A2 r5)),(4,some (v9,.list Ai 4 a6.1)),Am] M O) (λM O h=>Zu h [1,3,4,1001]) (λa6=>?_)
      refine A0<|Zq (I.lss Z Z)<|Zn<|A9<|gIf Z Z (λaj=>?_) (λaj=>?_)
      ·refine Zt<|A9<|AD<|A0<|An λaq ak=>Zq (ixR Z Z ak tu31 Ax Z)<|Zq (ldR Z AN)<|Eb Z (AL 1101 Ax (.zr (R:=aZ) (x:=(Vector.replicate 32 0)) C0)) λar=>Es (sto 1101 Z Z fH Z Ax)<|Zn<|Al<|Zm Z<|Zm Z<|Zq (ld 1101 Z Z fH AN Z)<|Zq (mlk Z (.own 3 Z Z) Z ky61 underlying128 ti3 (Zr.num Z) Z)<|An λav ae=>Zq (ixO 4 Z Z Z ae tu130 ti4)<|Es (sto 4 Z Z (Foc.el ae) Z ti4)<|Ah<|Au<|Ak<|Al<|Zq (I.add Z Z)<|Zm Z<|Ah<|AB (λM O h=>Zu h [1,3,4,1001])
      ·refine AF<|AG<|AI<|Au<|AA (λM O h=>Zu h [1,3,4,1001])
     ·refine Al<|Zq (I.add Z Z)<|Zm Z<|Ah<|AB (λM O h=>Zu h [1,3,4,1001])
    ·refine AF<|AG<|AI<|AA (λM O h=>Zu h [1,4,1001])
   ·refine A0<|Zq (ld 1 Z Z fH AH Z)<|Zm Z<|BG 4 [6,54] Z (fS Z<|fS Z<|fN)<|Zc [] [(100,1102)] func72 Z (zml _ _) λaw am=>Za Z<|Zb Z<|A5<|Ze [(am 0)] [1001,1102] Z
def P8 (a0:V3) (c1_0:List Bool) (c2_0:List (V3 × Int)):Option (Bool) :=
 idx c1_0 ((C7 c2_0 a0).getD 0)>>=λM =>
 some (!M)
theorem ziq (a0:V3) (p1_0:Value) (q1_0:Value) (c1_0:List Bool) (p2_0:Value) (q2_0:Value) (c2_0:List (V3 × Int)):Aj Tryz.prog 115 [.rd aZ a0,.val (A7 p1_0 0),.val (A7 p2_0 0)] [(1,some (p1_0,.box 130 [.val q1_0])),(2,some (q1_0,.list Ai 4 c1_0)),(3,some (p2_0,.box 128 [.val q2_0])),(4,some (q2_0,.map aZ A2 c2_0))] (P8 a0 c1_0 c2_0) (λr nv=>⟨[.rd Ai r],[(1,some (p1_0,.box 130 [.val q1_0])),(2,some (q1_0,.list Ai 4 c1_0)),(3,some (p2_0,.box 128 [.val q2_0])),(4,some (q2_0,.map aZ A2 c2_0))]⟩):=by
 refine Aq 12 func115 Z Z Z λH w=>?_;refine A0<|Eb Z (bx 5 Z) λv1=>Zb Z<|A9<|Dr mixed (by kernel_rfl)<|Rq Z (ldV 1 Z Z .here I7 Z)<|Rq Z (ldV 3 Z Z .here O7 Z)<|Rq Z (ld 5 Z Z fH AN Z)<|Rq Z (mlk Z (.own 4 Z Z) Z ky61 underlying128 ti3 (Zr.num Z) Z)<|BM λx2 h3=>Rq Z (ixO 2 Z Z Z h3 tu130 ti4)<|Rq Z (ld 2 Z Z (Foc.el h3) ty4 Z)<|Rq Z (By Z)<|Rq Z (asg Z)<|Ds<|Ak<|A5<|Ze [] [1,2,3,4] Z
def Kv (a0:List V3) (c1_0:List Bool) (c1_1:List (V3 × Int)) (M:Int):Option (Sum (Sum Int Unit) Int) :=
 if decide (M<(a0.length:Int)) then
  idx a0 M>>=λO =>
  P8 O c1_0 c1_1>>=λU =>
  if U then
   some (.inl (.inl M))
  else
   some (.inr (w64 (M+1)))
 else
  some (.inl (.inr ()))
def P9 (a0:List V3) (c1_0:List Bool) (c1_1:List (V3 × Int)):Option (Int) :=
 Bi (iter (Kv a0 c1_0 c1_1) 0) λs1 =>
 some (-1)
theorem z6n (a0:List V3) (p1_0:Value) (q1_0:Value) (c1_0:List Bool) (p1_1:Value) (q1_1:Value) (c1_1:List (V3 × Int)):Aj Tryz.prog 116 [.rd (A3 aZ) a0,.val (.func (.func 115) #[] #[A7 p1_0 0,A7 p1_1 0])] [(1,some (p1_0,.box 130 [.val q1_0])),(2,some (q1_0,.list Ai 4 c1_0)),(3,some (p1_1,.box 128 [.val q1_1])),(4,some (q1_1,.map aZ A2 c1_1))] (P9 a0 c1_0 c1_1) (λr nv=>⟨[.rd A2 r],[(1,some (p1_0,.box 130 [.val q1_0])),(2,some (q1_0,.list Ai 4 c1_0)),(3,some (p1_1,.box 128 [.val q1_1])),(4,some (q1_1,.map aZ A2 c1_1))]⟩):=by
 refine Aq 19 func116 Z Z Z λH w=>?_;refine A0<|Zb Z<|Bt (λ(s1:Unit) M O=>Sta (ctx 19 H [(1,some (p1_0,.box 130 [.val q1_0])),(2,some (q1_0,.list Ai 4 c1_0)),(3,some (p1_1,.box 128 [.val q1_1])),(4,some (q1_1,.map aZ A2 c1_1))] w) [] [(2,some (q1_0,.list Ai 4 c1_0)),(1,some (p1_0,.box 130 [.val q1_0])),(4,some (q1_1,.map aZ A2 c1_1)),(3,some (p1_1,.box 128 [.val q1_1]))] M O) ?_ (λs1=>?_)
 ·refine A0<|Zm Z<|Zq (Ar Z .rd Z tu31)<|Zm Z<|Zn<|AJ (λ(U:Int) M O=>Sta (ctx 19 H [(1,some (p1_0,.box 130 [.val q1_0])),(2,some (q1_0,.list Ai 4 c1_0)),(3,some (p1_1,.box 128 [.val q1_1])),(4,some (q1_1,.map aZ A2 c1_1))] w) [(0,.rd (A3 aZ) a0),(1,.val (.func (.func 115) #[] #[A7 p1_0 0,A7 p1_1 0])),(7,.rd A2 (a0.length:Int)),(8,.rd A2 U)] [(2,some (q1_0,.list Ai 4 c1_0)),(1,some (p1_0,.box 130 [.val q1_0])),(4,some (q1_1,.map aZ A2 c1_1)),(3,some (p1_1,.box 128 [.val q1_1]))] M O) (λM O h=>Zu h [2,1,4,3]) (λU=>?_)
  refine A0<|Zq (I.lss Z Z)<|Zn<|A9<|gIf Z Z (λh3=>?_) (λh3=>?_)
  ·refine Zt<|A9<|AD<|A0<|Zm Z<|Zb Z<|A0<|Zm Z<|Zm Z<|Zm Z<|An λx4 h5=>Zq (ixR Z Z h5 tu31 Ax Z)<|Zq (ldR Z AN)<|DC [1,2,3,4] [(1,1),(2,2),(3,3),(4,4)] (gd0 Z) Z Z func115 Z Z (ziq _ _ _ _ _ _ _) (Y1 Z) (cQ 1 Z<|cQ 3 Z<|cN) (Zi Z<|Zi Z<|Zi Z<|Zi Z<|rN) λr6 n7=>Zj Z (λh8=>?_) (λh8=>?_)
   ·refine A0<|Zm Z<|Zb Z<|A5<|B7<|Ap<|Bp<|Bl<|Ze [] [1,2,3,4] Z
   ·refine AU<|Au<|Ak<|Al<|Zq (I.add Z Z)<|Zm Z<|Ah<|AB (λM O h=>Zu h [2,1,4,3])
  ·refine AF<|AG<|AI<|Bk (λM O h=>Zu h [2,1,4,3])
 ·refine A0<|Zb Z<|A5<|Ze [] [1,2,3,4] Z
def MM (a0:List V3) (c1_0:List Bool) (c1_1:List (V3 × Int)):Option (Bool) :=
 P9 a0 c1_0 c1_1>>=λM =>
 some (decide (0<=M))>>=λO =>
 some O
theorem z62 (a0:List V3) (p1_0:Value) (q1_0:Value) (c1_0:List Bool) (p1_1:Value) (q1_1:Value) (c1_1:List (V3 × Int)):Aj Tryz.prog 82 [.rd (A3 aZ) a0,.val (.func (.func 115) #[] #[A7 p1_0 0,A7 p1_1 0])] [(1,some (p1_0,.box 130 [.val q1_0])),(2,some (q1_0,.list Ai 4 c1_0)),(3,some (p1_1,.box 128 [.val q1_1])),(4,some (q1_1,.map aZ A2 c1_1))] (MM a0 c1_0 c1_1) (λr nv=>⟨[.rd Ai r],[(1,some (p1_0,.box 130 [.val q1_0])),(2,some (q1_0,.list Ai 4 c1_0)),(3,some (p1_1,.box 128 [.val q1_1])),(4,some (q1_1,.map aZ A2 c1_1))]⟩):=by
 refine Aq 9 func82 Z Z Z λH w=>?_;refine A0<|Zb Z<|A0<|Zm Z<|Zm Z<|Zc [1,2,3,4] [(1,1),(2,2),(3,3),(4,4)] func116 Z (z6n _ _ _ _ _ _ _) λr1 n2=>Zq (I.geq Z Z)<|Za Z<|AR 4 Z λy3=>Zn<|A5<|Ze [] [1,2,3,4] Z
def MN (a0:Int) (c1_0:List Bool) (c2_0:A4) (c3_0:List (V3 × Int)):Option (Bool) :=
 idx c1_0 a0>>=λM =>
 if !M then
  idx c2_0.Ops a0>>=λO =>
  MM O.Preds c1_0 c3_0>>=λU =>
  some (!U)
 else
  some false
theorem zkv (a0:Int) (p1_0:Value) (q1_0:Value) (c1_0:List Bool) (p2_0:Value) (c2_0:A4) (p3_0:Value) (q3_0:Value) (c3_0:List (V3 × Int)):Aj Tryz.prog 114 [.rd A2 a0,.val (A7 p1_0 0),.val (A7 p2_0 0),.val (A7 p3_0 0)] [(1,some (p1_0,.box 130 [.val q1_0])),(2,some (q1_0,.list Ai 4 c1_0)),(3,some (p2_0,.box 34 [.rd A8 c2_0])),(4,some (p3_0,.box 128 [.val q3_0])),(5,some (q3_0,.map aZ A2 c3_0))] (MN a0 c1_0 c2_0 c3_0) (λr nv=>⟨[.rd Ai r],[(1,some (p1_0,.box 130 [.val q1_0])),(2,some (q1_0,.list Ai 4 c1_0)),(3,some (p2_0,.box 34 [.rd A8 c2_0])),(4,some (p3_0,.box 128 [.val q3_0])),(5,some (q3_0,.map aZ A2 c3_0))]⟩):=by
 refine Aq 22 func114 Z Z Z λH w=>?_;refine A0<|Zb Z<|A0<|Zq (ldV 1 Z Z .here I7 Z)<|Zm Z<|An λx1 h2=>Zq (ixO 2 Z Z Z h2 tu130 ti4)<|Zq (ld 2 Z Z (Foc.el h2) ty4 Z)<|Zq (By Z)<|Zm Z<|AY 11 Z (λh3=>?_) (λh3=>?_)
 ·refine Ac 10 Z h3<|Ab Zx Z Z (faB 3 Z Z underlying34 Z (by exact Bq))<|Ab Zx Z Z (ld 3 Z Z (fP (BN _)) BL Z)<|Ab Zx Z Z (mv Z)<|An λx4 M=>Ab Zx Z Z (ixR Z Z M tu32 B4 Z)<|Ab Zx Z Z (faR Z (Cv _) underlying73 Z Z (by exact B2))<|Ab Zx Z Z (ldR Z B8)<|Ab Zx Z Z (mkf mp0 (mp2 Z Z))<|CH [1,2,4,5] [(1,1),(2,2),(3,4),(4,5)] Zx Z func82 Z Z (z62 _ _ _ _ _ _ _) (Y2 Z Z) (Zi Z<|Zi Z<|Zi Z<|Zi Z<|rN) λr6 n7=>Ab Zx Z Z (By Z)<|Zq (pkT Z Z)<|Zb Z<|A5<|Ze [] [1,2,3,4,5] Z
 ·refine Ac 10 Z h3<|Zk Z<|Zk Z<|Zk Z<|Zk Z<|Zk Z<|Zk Z<|Zk Z<|Zk Z<|Zk Z<|Zq (pkF Z Z)<|Zb Z<|A5<|Ze [] [1,2,3,4,5] Z
def Kw (a0:A4) (r5:(List (V3 × Int))) (O:(List Bool) × (List V3) × Int) (M:Int):Option (Sum Int Int) :=
 MN M O.1 a0 r5>>=λU =>
 if !U then
  some (w64 (M+1))>>=λa1 =>
  some (.inr a1)
 else
  some (.inl M)
def MO (a0:A4) (r5:(List (V3 × Int))) (M:(List Bool) × (List V3) × Int):Option (Sum ((List V3)) ((List Bool) × (List V3) × Int)) :=
 if decide (M.2.2<(a0.IDs.length:Int)) then
  (iter (Kw a0 r5 M) 0)>>=λO =>
  idx M.1 O>>=λa2 =>
  idx a0.IDs O>>=λU =>
  app 32 M.2.1 [U]>>=λa1 =>
  some (.inr (M.1.set (O:Int).toNat true,a1,w64 (M.2.2+1)))
 else
  some (.inl M.2.1)
def MP (a0:A4):Option ((List V3) × Int) :=
 Cb a0>>=λM =>
 if M != 0 then
  some ([],M)
 else
  G8 a0>>=λU =>
  mkn 1 false (a0.IDs.length:Int)>>=λx8 =>
  (iter (MO a0 U) (x8,[],0))>>=λO =>
  some (O,0)
theorem znn (a0:A4):Aj Tryz.prog 74 [.rd A8 a0] [Am] (MP a0) (λr nv=>⟨[.val (nv 0),.rd A2 r.2],[(1001,some (.bool true,.glob 1 (Av 64 Aa) Bv)),(100,some (nv 0,.list aZ 61 r.1))]⟩):=by
 refine Aq 46 func74 Z Z Z λH w=>?_;refine A0<|Eb Z (bx 1 Z) λv1=>Za Z<|Zb Z<|A9<|A0<|Zq (ld 1 Z Z fH AH Z)<|Zc [1001] [] func42 Z (GD _) λr2 n3=>Zb Z<|A0<|Zm Z<|Zq (I.neq Z Z)<|Zj Z (λh4=>?_) (λh4=>?_)
 ·refine A0<|Zm Z<|Za Z<|Zb Z<|A5<|Ap<|Cq aZ 61 2<|Ze [(.slice none 0 0)] [1001,2] Z
 ·refine Zt<|A0<|Zq (ld 1 Z Z fH AH Z)<|Zc [] [(100,3)] func71 Z (MK _) λr5 n6=>Eb Z (AL 4 I6 (.val Z)) λv7=>Es (Dp 4 Z Z (.here Ay) Z Bo Ay I6)<|Zn<|A0<|Zq (faB 1 Z Z underlying34 Z (by exact B2))<|Zq (ld 1 Z Z (fP (BT _)) B8 Z)<|Zq (Ar Z .rd Z tu31)<|An λx8 h9=>Ef Z (mks (R:=Ai) 5 Z Z h9 tu130 ti4 Zr.bool Z) λa1=>Eb Z (AL 6 Lw (.val Z)) λO=>Es (Dp 6 Z Z (.here Ay) Z Bo Ay Lw)<|Zn<|A0<|Zq (mkf mp0 (mp3 Z Z Z))<|Zb Z<|A0<|Zb Z<|B6 (λ(a6:(List V3)) U ww=>∃ nv:Nat->Value,Sta (ctx 46 H [Am] w) [(8,.val (nv 0))] [(1101,some ((nv 0),.list aZ 61 a6)),Am] U ww) ?_ (λa6=>?_)
  ·refine A0<|Zq (faB 1 Z Z underlying34 Z (by exact B2))<|Zq (ld 1 Z Z (fP (BT _)) B8 Z)<|Zq (Ar Z .rd Z tu31)<|Zm Z<|Zn<|DB aZ 61 1104<|AJ (λ(M:(List Bool) × (List V3) × Int) U ww=>∃ nv:Nat->Value,Sta (ctx 46 H [Am] w) [(1,.val (A7 v1 0)),(6,.val (A7 O 0)),(7,.val (.func (.func 114) #[] #[A7 O 0,A7 v1 0,A7 v7 0])),(8,.val (nv 0)),(24,.rd A2 (a0.IDs.length:Int)),(25,.rd A2 M.2.2)] [(1,some (v1,.box 34 [.rd A8 a0])),(5,some (a1,.list Ai 4 M.1)),(6,some (O,.box 130 [.val a1])),(3,some ((n6 0),.map aZ A2 r5)),(4,some (v7,.box 128 [.val (n6 0)])),(1103,some ((nv 0),.list aZ 61 M.2.1)),Am] U ww) (λU ww h=>⟨nvl [(.slice none 0 0)],Zu h [1,5,6,3,4,1104,1001]⟩) (λM=>?_)
   refine gEx λa2=>A0<|Zq (I.lss Z Z)<|Zn<|A9<|gIf Z Z (λac=>?_) (λac=>?_)
   ·refine Zt<|A9<|AD<|A0<|Zb Z<|B6 (λ(a7:Int) U ww=>Sta (ctx 46 H [Am] w) [(1,.val (A7 v1 0)),(6,.val (A7 O 0)),(7,.val (.func (.func 114) #[] #[A7 O 0,A7 v1 0,A7 v7 0])),(8,.val (a2 0)),(9,.rd A2 a7),(24,.rd A2 (a0.IDs.length:Int)),(25,.rd A2 M.2.2)] [(1,some (v1,.box 34 [.rd A8 a0])),(5,some (a1,.list Ai 4 M.1)),(6,some (O,.box 130 [.val a1])),(3,some ((n6 0),.map aZ A2 r5)),(4,some (v7,.box 128 [.val (n6 0)])),(1103,some ((a2 0),.list aZ 61 M.2.1)),Am] U ww) ?_ (λa7=>?_)
    ·refine AJ (λ(a8:Int) U ww=>Sta (ctx 46 H [Am] w) [(1,.val (A7 v1 0)),(6,.val (A7 O 0)),(7,.val (.func (.func 114) #[] #[A7 O 0,A7 v1 0,A7 v7 0])),(8,.val (a2 0)),(9,.rd A2 a8),(24,.rd A2 (a0.IDs.length:Int)),(25,.rd A2 M.2.2)] [(1,some (v1,.box 34 [.rd A8 a0])),(5,some (a1,.list Ai 4 M.1)),(6,some (O,.box 130 [.val a1])),(3,some ((n6 0),.map aZ A2 r5)),(4,some (v7,.box 128 [.val (n6 0)])),(1103,some ((a2 0),.list aZ 61 M.2.1)),Am] U ww) (λU ww h=>Zu h [1,5,6,3,4,1103,1001]) (λa8=>?_)
     refine A9<|A0<|Zm Z<|Zm Z<|DC [6,5,1,4,3] [(1,6),(2,5),(3,1),(4,4),(5,3)] (gd0 Z) Z Z func114 Z Z (zkv _ _ _ _ _ _ _ _ _) (Y1 Z) (cQ 6 Z<|cQ 1 Z<|cQ 4 Z<|cN) (Zi Z<|Zi Z<|Zi Z<|Zi Z<|Zi Z<|rN) λak am=>Zq (By Z)<|Zj Z (λad=>?_) (λad=>?_)
     ·refine Zt<|AD<|Al<|Zm Z<|Zq (I.add Z Z)<|Za Z<|AR 9 Z λao=>Ah<|Au<|AB (λU ww h=>Zu h [1,5,6,3,4,1103,1001])
     ·refine AF<|AG<|AI<|AA (λU ww h=>Zu h [1,5,6,3,4,1103,1001])
    ·refine A0<|Zq (ldV 6 Z Z .here I7 Z)<|Zm Z<|An λap ab=>Zq (ixO 5 Z Z Z ab tu130 ti4)<|Es (sto 5 Z Z (Foc.el ab) Z ti4)<|Zn<|Al<|Zm Z<|Zq (faB 1 Z Z underlying34 Z (by exact B2))<|Zq (ld 1 Z Z (fP (BT _)) B8 Z)<|Zm Z<|An λae af=>Zq (ixR Z Z af tu31 Ax Z)<|Zq (ldR Z AN)<|Ef Z (lit (R:=aZ) ([ae]:List V3) 1105 (pP Z Z<|pN) Z tu31 Ax Z Z) λaq=>BG 1105 [42] Z (fS Z<|fN)<|An λar ah=>Ef Z (apn 1103 Z Z Z .rd ah tu31 Ax Z Z Z) λai=>Za Z<|Ah<|Au<|Ak<|Al<|Zq (I.add Z Z)<|Zm Z<|Ah<|AB (λU ww h=>⟨nvl [ai],Zu h [1,5,6,3,4,1103,1001]⟩)
   ·refine AF<|AG<|AI<|AA (λU ww h=>⟨nvl [(a2 0)],Zu h [1103,1001]⟩)
  ·refine gEx λaj=>A0<|Zm Z<|Za Z<|Zb Z<|A5<|Ze [(aj 0)] [1001,1101] Z
def Kx (a0:V3) (c1_0:List (V3 × Int)):Option (Bool) :=
 some ((C7 c1_0 a0).getD 0)>>=λy2 =>
 some ((C7 c1_0 a0).isSome)>>=λM =>
 some M
theorem U2 (a0:V3) (p1_0:Value) (q1_0:Value) (c1_0:List (V3 × Int)):Aj Tryz.prog 183 [.rd aZ a0,.val (A7 p1_0 0)] [(1,some (p1_0,.box 128 [.val q1_0])),(2,some (q1_0,.map aZ A2 c1_0))] (Kx a0 c1_0) (λr nv=>⟨[.rd Ai r],[(1,some (p1_0,.box 128 [.val q1_0])),(2,some (q1_0,.map aZ A2 c1_0))]⟩):=by
 refine Aq 13 func183 Z Z Z λH w=>?_;refine A0<|Eb Z (bx 3 Z) λv1=>Zb Z<|A0<|Zq (ldV 1 Z Z .here O7 Z)<|Zq (ld 3 Z Z fH AN Z)<|Zq (mlk2 Z (.own 2 Z Z) Z ky61 underlying128 ti3 (Zr.num Z) Z)<|Zm Z<|Zq (ext Z Z)<|Zq (ext Z Z)<|Za Z<|AR 4 Z λy2=>Za Z<|AR 5 Z λy3=>Zn<|A0<|Zm Z<|Zb Z<|A5<|Ze [] [1,2] Z
def z60 (a0:List V3) (c1_0:List (V3 × Int)) (M:Int):Option (Sum (Sum Int Unit) Int) :=
 if decide (M<(a0.length:Int)) then
  idx a0 M>>=λO =>
  Kx O c1_0>>=λU =>
  if U then
   some (.inl (.inl M))
  else
   some (.inr (w64 (M+1)))
 else
  some (.inl (.inr ()))
def U3 (a0:List V3) (c1_0:List (V3 × Int)):Option (Int) :=
 Bi (iter (z60 a0 c1_0) 0) λs1 =>
 some (-1)
theorem z61 (a0:List V3) (M:Value) (l0:List V3) (p1_0:Value) (q1_0:Value) (c1_0:List (V3 × Int)):Aj Tryz.prog 116 [.vw aZ M l0 a0,.val (.func (.func 183) #[] #[A7 p1_0 0])] [(1,some (M,.list aZ 61 l0)),(2,some (p1_0,.box 128 [.val q1_0])),(3,some (q1_0,.map aZ A2 c1_0))] (U3 a0 c1_0) (λr nv=>⟨[.rd A2 r],[(1,some (M,.list aZ 61 l0)),(2,some (p1_0,.box 128 [.val q1_0])),(3,some (q1_0,.map aZ A2 c1_0))]⟩):=by
 refine Aq 19 func116 Z Z Z λH w=>?_;refine A0<|Zb Z<|Bt (λ(s1:Unit) O U=>Sta (ctx 19 H [(1,some (M,.list aZ 61 l0)),(2,some (p1_0,.box 128 [.val q1_0])),(3,some (q1_0,.map aZ A2 c1_0))] w) [] [(1,some (M,.list aZ 61 l0)),(3,some (q1_0,.map aZ A2 c1_0)),(2,some (p1_0,.box 128 [.val q1_0]))] O U) ?_ (λs1=>?_)
 ·refine A0<|Zm Z<|Zq (Ar Z (.vw 1 Z) Z tu31)<|Zm Z<|Zn<|AJ (λ(s2:Int) O U=>Sta (ctx 19 H [(1,some (M,.list aZ 61 l0)),(2,some (p1_0,.box 128 [.val q1_0])),(3,some (q1_0,.map aZ A2 c1_0))] w) [(0,.vw aZ M l0 a0),(1,.val (.func (.func 183) #[] #[A7 p1_0 0])),(7,.rd A2 (a0.length:Int)),(8,.rd A2 s2)] [(1,some (M,.list aZ 61 l0)),(3,some (q1_0,.map aZ A2 c1_0)),(2,some (p1_0,.box 128 [.val q1_0]))] O U) (λO U h=>Zu h [1,3,2]) (λs2=>?_)
  refine A0<|Zq (I.lss Z Z)<|Zn<|A9<|gIf Z Z (λh3=>?_) (λh3=>?_)
  ·refine Zt<|A9<|AD<|A0<|Zm Z<|Zb Z<|A0<|Zm Z<|Zm Z<|Zm Z<|An λx4 h5=>Zq (ixQ 1 Z Z Z h5 tu31 Ax)<|Zq (ldQ 1 Z Z AN Z)<|DC [2,3] [(1,2),(2,3)] (gd0 Z) Z Z func183 Z Z (U2 _ _ _ _) (Y1 Z) (cQ 2 Z<|cN) (Zi Z<|Zi Z<|rN) λr6 n7=>Zj Z (λh8=>?_) (λh8=>?_)
   ·refine A0<|Zm Z<|Zb Z<|A5<|B7<|Ap<|Bp<|Bl<|Ze [] [1,2,3] Z
   ·refine AU<|Au<|Ak<|Al<|Zq (I.add Z Z)<|Zm Z<|Ah<|AB (λO U h=>Zu h [1,3,2])
  ·refine AF<|AG<|AI<|Bk (λO U h=>Zu h [1,3,2])
 ·refine A0<|Zb Z<|A5<|Ze [] [1,2,3] Z
def z6b (c1_0:List (V3 × Int)) (M:(List V3) × Int × Int):Option (Sum ((List V3) × Int) ((List V3) × Int × Int)) :=
 if decide (M.2.2<(M.1.length:Int)) then
  idx M.1 M.2.2>>=λO =>
  Kx O c1_0>>=λU =>
  if !U then
   idx M.1 M.2.1>>=λa7 =>
   some (w64 (M.2.1+1))>>=λa1 =>
   some (w64 (M.2.2+1))>>=λa2 =>
   some (.inr (M.1.set (M.2.1:Int).toNat O,a1,a2))
  else
   some (w64 (M.2.2+1))>>=λa6 =>
   some (.inr (M.1,M.2.1,a6))
 else
  some (.inl (M.1,M.2.1))
def MQ (c0:List V3) (c1_0:List (V3 × Int)):Option ((List V3)) :=
 U3 c0 c1_0>>=λO =>
 if O==(-1) then
  some c0
 else
  (iter (z6b c1_0) (c0,O,w64 (O+1)))>>=λM =>
  chk (0<=M.2/\M.2<=(M.1.length:Int)/\(M.1.length:Int)<=(M.1.length:Int))>>=λa1 =>
  chk ((M.2:Int).toNat+(((M.1.length:Int):Int).toNat - (M.2:Int).toNat)<=M.1.length)>>=λa2 =>
  cut (clr M.1 ((M.2:Int).toNat) (((M.1.length:Int):Int).toNat - (M.2:Int).toNat) (Vector.replicate 32 0)) 0 M.2>>=λU =>
  some U
theorem z6e (M:Value) (c0:List V3) (p1_0:Value) (q1_0:Value) (c1_0:List (V3 × Int)):Aj Tryz.prog 75 [.val M,.val (.func (.func 183) #[] #[A7 p1_0 0])] [(1,some (M,.list aZ 61 c0)),(2,some (p1_0,.box 128 [.val q1_0])),(3,some (q1_0,.map aZ A2 c1_0))] (MQ c0 c1_0) (λr nv=>⟨[.val (nv 0)],[(2,some (p1_0,.box 128 [.val q1_0])),(3,some (q1_0,.map aZ A2 c1_0)),(100,some (nv 0,.list aZ 61 r))]⟩):=by
 refine Aq 42 func75 Z Z Z λH w=>?_;refine A0<|Zb Z<|A0<|Zm Z<|Zm Z<|call [1,2,3] [(1,1),(2,2),(3,3)] Z func116 Z Z (z61 _ _ _ _ _ _) (aW Z<|aQ Z<|aN) (Zi Z<|Zi Z<|Zi Z<|rN) λr1 n2=>Zb Z<|A9<|A0<|Zm Z<|Zq (I.eql Z Z)<|Zj Z (λh3=>?_) (λh3=>?_)
 ·refine A0<|Zm Z<|Zb Z<|A5<|Ap<|Ze [M] [2,3,1] Z
 ·refine Zt<|B6 (λ(s4:(List V3) × Int) O U=>Sta (ctx 42 H [(1,some (M,.list aZ 61 c0)),(2,some (p1_0,.box 128 [.val q1_0])),(3,some (q1_0,.map aZ A2 c1_0))] w) [(0,.val M),(5,.rd A2 s4.2)] [(1,some (M,.list aZ 61 s4.1)),(3,some (q1_0,.map aZ A2 c1_0)),(2,some (p1_0,.box 128 [.val q1_0]))] O U) ?_ (λs4=>?_)
  ·refine A0<|Zm Z<|Zq (I.add Z Z)<|Zb Z<|AJ (λ(s5:(List V3) × Int × Int) O U=>Sta (ctx 42 H [(1,some (M,.list aZ 61 c0)),(2,some (p1_0,.box 128 [.val q1_0])),(3,some (q1_0,.map aZ A2 c1_0))] w) [(0,.val M),(1,.val (.func (.func 183) #[] #[A7 p1_0 0])),(5,.rd A2 s5.2.1),(6,.rd A2 s5.2.2)] [(1,some (M,.list aZ 61 s5.1)),(3,some (q1_0,.map aZ A2 c1_0)),(2,some (p1_0,.box 128 [.val q1_0]))] O U) (λO U h=>Zu h [1,3,2]) (λs5=>?_)
   refine A9<|A0<|Zm Z<|Zm Z<|Zq (Ar Z (.own 1 Z) Z tu31)<|Zq (I.lss Z Z)<|Zj Z (λh6=>?_) (λh6=>?_)
   ·refine Zt<|A9<|AD<|A0<|Zm Z<|Zm Z<|An λx7 h8=>Zq (ixO 1 Z Z Z h8 tu31 Ax)<|Zq (ld 1 Z Z (Foc.el h8) AN Z)<|Eb Z (AL 4 Ax (.zr (R:=aZ) (x:=(Vector.replicate 32 0)) C0)) λv9=>Es (sto 4 Z Z fH Z Ax)<|Zn<|A0<|Zm Z<|Zq (ld 4 Z Z fH AN Z)<|DC [2,3] [(1,2),(2,3)] (gd0 Z) Z Z func183 Z Z (U2 _ _ _ _) (Y1 Z) (cQ 2 Z<|cN) (Zi Z<|Zi Z<|rN) λac ad=>Zq (By Z)<|Zj Z (λa2=>?_) (λa2=>?_)
    ·refine A0<|Zm Z<|Zm Z<|Zq (ld 4 Z Z fH AN Z)<|An λae a1=>Zq (ixO 1 Z Z Z a1 tu31 Ax)<|Es (sto 1 Z Z (Foc.el a1) Z Ax)<|Zn<|Al<|Zm Z<|Zq (I.add Z Z)<|Za Z<|AR 5 Z λaf=>Ah<|Au<|Ak<|Al<|Zm Z<|Zq (I.add Z Z)<|Za Z<|AR 6 Z λah=>Ah<|AB (λO U h=>Zu h [1,3,2])
    ·refine AU<|Au<|Ak<|Al<|Zm Z<|Zq (I.add Z Z)<|Za Z<|AR 6 Z λai=>Ah<|AB (λO U h=>Zu h [1,3,2])
   ·refine AF<|AG<|AI<|AA (λO U h=>Zu h [1,3,2])
  ·refine A0<|Zm Z<|Zm Z<|An λaj a6=>Zq (Ie 1 Z Z (.to Z) .no (CI a6) tu31 Ax)<|An λak a7=>EsV (clrS 1 Z Z (CI a7) Z tu31 Ax C0 Z)<|Zn<|A0<|Zm Z<|Zm Z<|An λam a8=>Ef Z (cutO 1 Z Z Z a8 tu31 Ax) λab=>Zb Z<|A5<|Ze [ab] [2,3,1] Z
def MR (a0:A4) (M:List V3):Option ((List V3) × Int) :=
 Cb a0>>=λO =>
 if O != 0 then
  some ([],O)
 else
  if decide (60<(M.length:Int)) then
   some ([],4)
  else
   G8 a0>>=λr6 =>
   DN M>>=λr9 =>
   MQ r9 r6>>=λU =>
   FF U>>=λa2 =>
   F0 a2>>=λa6 =>
   some (a6,0)
theorem zkp (a0:A4) (M:List V3):Aj Tryz.prog 146 [.rd A8 a0,.rd (A3 aZ) M] [Am] (MR a0 M) (λr O=>⟨[.val (O 0),.rd A2 r.2],[(1001,some (.bool true,.glob 1 (Av 64 Aa) Bv)),(100,some (O 0,.list aZ 61 r.1))]⟩):=by
 refine Aq 27 func146 Z Z Z λH w=>?_;refine A0<|Eb Z (bx 1 Z) λv1=>Za Z<|Zb Z<|A9<|A0<|Zq (ld 1 Z Z fH AH Z)<|Zc [1001] [] func42 Z (GD _) λr2 n3=>Zb Z<|A0<|Zm Z<|Zq (I.neq Z Z)<|Zj Z (λh4=>?_) (λh4=>?_)
 ·refine A0<|Zm Z<|Za Z<|Zb Z<|A5<|Ap<|Cq aZ 61 2<|Ze [(.slice none 0 0)] [1001,2] Z
 ·refine Zt<|A9<|A0<|Zm Z<|Zq (Ar Z .rd Z tu31)<|Zq (I.gtr Z Z)<|Zj Z (λh5=>?_) (λh5=>?_)
  ·refine A0<|Za Z<|Zb Z<|A5<|Ap<|Cq aZ 61 3<|Ze [(.slice none 0 0)] [1001,3] Z
  ·refine Zt<|A0<|Zq (ld 1 Z Z fH AH Z)<|Zc [] [(100,4)] func71 Z (MK _) λr6 n7=>Eb Z (AL 5 I6 (.val Z)) λv8=>Es (Dp 5 Z Z (.here Ay) Z Bo Ay I6)<|Zn<|A0<|Zm Z<|Zc [] [(100,6)] func25 Z (EM _) λr9 a2=>Zq (mkf mp0 (mp1 Z))<|Zc [6,5,4] [(100,7),(2,5),(3,4)] func75 Z (z6e _ _ _ _ _) λa6 a7=>Zb Z<|A0<|Zm Z<|Zc [7] [(1,7)] func78 Z (z16w _ _) λa8 aa=>Zn<|A0<|Zm Z<|Zc [7] [(100,8)] func80 Z (Ju _ _) λab U=>Za Z<|Zb Z<|A5<|Ze [(U 0)] [1001,8] Z
def MS (c1_0:List (V3 × Int)) (c3_0:A4) (rec:V3->(List (V3 × Int))->(List Bool)->A4->Option ((List Bool))) (O:Ae) (M:(List Bool) × Int):Option (Sum ((List Bool)) ((List Bool) × Int)) :=
 if decide (M.2<(O.Preds.length:Int)) then
  idx O.Preds M.2>>=λU =>
  rec U c1_0 M.1 c3_0>>=λa1 =>
  some (.inr (a1,w64 (M.2+1)))
 else
  some (.inl M.1)
def MT (rec:V3->(List (V3 × Int))->(List Bool)->A4->Option ((List Bool))) (a0:V3) (c1_0:List (V3 × Int)) (c2_0:List Bool) (c3_0:A4):Option ((List Bool)) :=
 some ((C7 c1_0 a0).getD 0)>>=λM =>
 idx c2_0 M>>=λO =>
 if O then
  some c2_0
 else
  idx c2_0 M>>=λx6 =>
  idx c3_0.Ops M>>=λU =>
  iter (MS c1_0 c3_0 rec U) (c2_0.set (M:Int).toNat true,0)
def F9:Nat->V3->(List (V3 × Int))->(List Bool)->A4->Option ((List Bool))
 | 0,_,_,_,_=>none
 | N+1,a0,c1_0,c2_0,c3_0=>MT (F9 N) a0 c1_0 c2_0 c3_0
theorem zl4 (rec:V3->(List (V3 × Int))->(List Bool)->A4->Option ((List Bool))) (ih:∀ (a0:V3) (p1_0:Value) (q1_0:Value) (c1_0:List (V3 × Int)) (p2_0:Value) (q2_0:Value) (c2_0:List Bool) (p3_0:Value) (c3_0:A4) (p4_0:Value),Aj Tryz.prog 184 [.rd aZ a0,.val (A7 p1_0 0),.val (A7 p2_0 0),.val (A7 p3_0 0),.val (A7 p4_0 0)] [(1,some (p1_0,.box 128 [.val q1_0])),(2,some (q1_0,.map aZ A2 c1_0)),(3,some (p2_0,.box 130 [.val q2_0])),(4,some (q2_0,.list Ai 4 c2_0)),(5,some (p3_0,.box 34 [.rd A8 c3_0])),(6,some (p4_0,.box 222 [.val (.func (.func 184) #[] #[A7 p1_0 0,A7 p2_0 0,A7 p3_0 0,A7 p4_0 0])]))] (rec a0 c1_0 c2_0 c3_0) (λr nv=>⟨[],[(1,some (p1_0,.box 128 [.val q1_0])),(2,some (q1_0,.map aZ A2 c1_0)),(3,some (p2_0,.box 130 [.val q2_0])),(4,some (q2_0,.list Ai 4 r)),(5,some (p3_0,.box 34 [.rd A8 c3_0])),(6,some (p4_0,.box 222 [.val (.func (.func 184) #[] #[A7 p1_0 0,A7 p2_0 0,A7 p3_0 0,A7 p4_0 0])]))]⟩)) (a0:V3) (p1_0:Value) (q1_0:Value) (c1_0:List (V3 × Int)) (p2_0:Value) (q2_0:Value) (c2_0:List Bool) (p3_0:Value) (c3_0:A4) (p4_0:Value):Aj Tryz.prog 184 [.rd aZ a0,.val (A7 p1_0 0),.val (A7 p2_0 0),.val (A7 p3_0 0),.val (A7 p4_0 0)] [(1,some (p1_0,.box 128 [.val q1_0])),(2,some (q1_0,.map aZ A2 c1_0)),(3,some (p2_0,.box 130 [.val q2_0])),(4,some (q2_0,.list Ai 4 c2_0)),(5,some (p3_0,.box 34 [.rd A8 c3_0])),(6,some (p4_0,.box 222 [.val (.func (.func 184) #[] #[A7 p1_0 0,A7 p2_0 0,A7 p3_0 0,A7 p4_0 0])]))] (MT rec a0 c1_0 c2_0 c3_0) (λr nv=>⟨[],[(1,some (p1_0,.box 128 [.val q1_0])),(2,some (q1_0,.map aZ A2 c1_0)),(3,some (p2_0,.box 130 [.val q2_0])),(4,some (q2_0,.list Ai 4 r)),(5,some (p3_0,.box 34 [.rd A8 c3_0])),(6,some (p4_0,.box 222 [.val (.func (.func 184) #[] #[A7 p1_0 0,A7 p2_0 0,A7 p3_0 0,A7 p4_0 0])]))]⟩):=by
 refine Aq 34 func184 Z Z Z λH w=>?_;refine A0<|Eb Z (bx 7 Z) λv1=>Zn<|A0<|Zq (ldV 1 Z Z .here O7 Z)<|Zq (ld 7 Z Z fH AN Z)<|Zq (mlk Z (.own 2 Z Z) Z ky61 underlying128 ti3 (Zr.num Z) Z)<|Za Z<|AR 6 Z λy2=>Zn<|A9<|A0<|Zq (ldV 3 Z Z .here I7 Z)<|Zm Z<|An λx3 h4=>Zq (ixO 4 Z Z Z h4 tu130 ti4)<|Zq (ld 4 Z Z (Foc.el h4) ty4 Z)<|Zj Z (λh5=>?_) (λh5=>?_)
 ·refine A5<|Ap<|Ze [] [1,2,3,4,5,6] Z
 ·refine Zt<|A0<|Zq (ldV 3 Z Z .here I7 Z)<|Zm Z<|An λx6 h7=>Zq (ixO 4 Z Z Z h7 tu130 ti4)<|Es (sto 4 Z Z (Foc.el h7) Z ti4)<|Zn<|A0<|Zq (faB 5 Z Z underlying34 Z (by exact Bq))<|Zq (ld 5 Z Z (fP (BN _)) BL Z)<|Zm Z<|An λx8 h9=>Zq (ixR Z Z h9 tu32 B4 Z)<|Zq (faR Z (Cv _) underlying73 Z Z (by exact B2))<|Zq (ldR Z B8)<|Zq (Ar Z .rd Z tu31)<|Zm Z<|Zn<|AJ (λ(M:(List Bool) × Int) O U=>Sta (ctx 34 H [(1,some (p1_0,.box 128 [.val q1_0])),(2,some (q1_0,.map aZ A2 c1_0)),(3,some (p2_0,.box 130 [.val q2_0])),(4,some (q2_0,.list Ai 4 c2_0)),(5,some (p3_0,.box 34 [.rd A8 c3_0])),(6,some (p4_0,.box 222 [.val (.func (.func 184) #[] #[A7 p1_0 0,A7 p2_0 0,A7 p3_0 0,A7 p4_0 0])]))] w) [(4,.val (A7 p4_0 0)),(24,.rd (A3 aZ) x8.Preds),(25,.rd A2 (x8.Preds.length:Int)),(26,.rd A2 M.2)] [(6,some (p4_0,.box 222 [.val (.func (.func 184) #[] #[A7 p1_0 0,A7 p2_0 0,A7 p3_0 0,A7 p4_0 0])])),(2,some (q1_0,.map aZ A2 c1_0)),(1,some (p1_0,.box 128 [.val q1_0])),(4,some (q2_0,.list Ai 4 M.1)),(3,some (p2_0,.box 130 [.val q2_0])),(5,some (p3_0,.box 34 [.rd A8 c3_0]))] O U) (λO U h=>Zu h [6,2,1,4,3,5]) (λM=>?_)
  refine A0<|Zq (I.lss Z Z)<|Zn<|A9<|gIf Z Z (λa1=>?_) (λa1=>?_)
  ·refine Zt<|A9<|AD<|A0<|An λa6 a2=>Zq (ixR Z Z a2 tu31 Ax Z)<|Zq (ldR Z AN)<|Eb Z (AL 8 Ax (.zr (R:=aZ) (x:=(Vector.replicate 32 0)) C0)) λa7=>Es (sto 8 Z Z fH Z Ax)<|Zn<|Al<|Zq (ldV 6 Z Z .here Sz Z)<|Zq (ld 8 Z Z fH AN Z)<|DC [1,2,3,4,5,6] [(1,1),(2,2),(3,3),(4,4),(5,5),(6,6)] (gd0 Z) Z Z func184 Z Z (ih _ _ _ _ _ _ _ _ _ _) (Y1 Z) (cQ 1 Z<|cQ 3 Z<|cQ 5 Z<|cQ 6 Z<|cN) (Zi Z<|Zi Z<|Zi Z<|Zi Z<|Zi Z<|Zi Z<|rN) λa8 ab=>Ah<|Au<|Ak<|Al<|Zq (I.add Z Z)<|Zm Z<|Ah<|AB (λO U h=>Zu h [6,2,1,4,3,5])
  ·refine AF<|AG<|AI<|Ze [] [1,2,3,4,5,6] Z
theorem U4:∀ (N:Nat) (a0:V3) (p1_0:Value) (q1_0:Value) (c1_0:List (V3 × Int)) (p2_0:Value) (q2_0:Value) (c2_0:List Bool) (p3_0:Value) (c3_0:A4) (p4_0:Value),Aj Tryz.prog 184 [.rd aZ a0,.val (A7 p1_0 0),.val (A7 p2_0 0),.val (A7 p3_0 0),.val (A7 p4_0 0)] [(1,some (p1_0,.box 128 [.val q1_0])),(2,some (q1_0,.map aZ A2 c1_0)),(3,some (p2_0,.box 130 [.val q2_0])),(4,some (q2_0,.list Ai 4 c2_0)),(5,some (p3_0,.box 34 [.rd A8 c3_0])),(6,some (p4_0,.box 222 [.val (.func (.func 184) #[] #[A7 p1_0 0,A7 p2_0 0,A7 p3_0 0,A7 p4_0 0])]))] (F9 N a0 c1_0 c2_0 c3_0) (λr nv=>⟨[],[(1,some (p1_0,.box 128 [.val q1_0])),(2,some (q1_0,.map aZ A2 c1_0)),(3,some (p2_0,.box 130 [.val q2_0])),(4,some (q2_0,.list Ai 4 r)),(5,some (p3_0,.box 34 [.rd A8 c3_0])),(6,some (p4_0,.box 222 [.val (.func (.func 184) #[] #[A7 p1_0 0,A7 p2_0 0,A7 p3_0 0,A7 p4_0 0])]))]⟩)
 | 0,a0,p1_0,q1_0,c1_0,p2_0,q2_0,c2_0,p3_0,c3_0,p4_0=>λr M=>absurd M (by simp[F9])
 | N+1,a0,p1_0,q1_0,c1_0,p2_0,q2_0,c2_0,p3_0,c3_0,p4_0=>zl4 (F9 N) (U4 N) a0 p1_0 q1_0 c1_0 p2_0 q2_0 c2_0 p3_0 c3_0 p4_0
theorem zkw (a0:V3) (p1_0:Value) (q1_0:Value) (c1_0:List (V3 × Int)) (p2_0:Value) (q2_0:Value) (c2_0:List Bool) (p3_0:Value) (c3_0:A4) (p4_0:Value):Aj Tryz.prog 184 [.rd aZ a0,.val (A7 p1_0 0),.val (A7 p2_0 0),.val (A7 p3_0 0),.val (A7 p4_0 0)] [(1,some (p1_0,.box 128 [.val q1_0])),(2,some (q1_0,.map aZ A2 c1_0)),(3,some (p2_0,.box 130 [.val q2_0])),(4,some (q2_0,.list Ai 4 c2_0)),(5,some (p3_0,.box 34 [.rd A8 c3_0])),(6,some (p4_0,.box 222 [.val (.func (.func 184) #[] #[A7 p1_0 0,A7 p2_0 0,A7 p3_0 0,A7 p4_0 0])]))] (F9 1000 a0 c1_0 c2_0 c3_0) (λr nv=>⟨[],[(1,some (p1_0,.box 128 [.val q1_0])),(2,some (q1_0,.map aZ A2 c1_0)),(3,some (p2_0,.box 130 [.val q2_0])),(4,some (q2_0,.list Ai 4 r)),(5,some (p3_0,.box 34 [.rd A8 c3_0])),(6,some (p4_0,.box 222 [.val (.func (.func 184) #[] #[A7 p1_0 0,A7 p2_0 0,A7 p3_0 0,A7 p4_0 0])]))]⟩):=U4 1000 a0 p1_0 q1_0 c1_0 p2_0 q2_0 c2_0 p3_0 c3_0 p4_0
def MU (a0:A4) (O:List V3) (r2:(List (V3 × Int))) (M:(List Bool) × Int):Option (Sum ((List Bool)) ((List Bool) × Int)) :=
 if decide (M.2<(O.length:Int)) then
  idx O M.2>>=λU =>
  (F9 1000) U r2 M.1 a0>>=λa2 =>
  some (.inr (a2,w64 (M.2+1)))
 else
  some (.inl M.1)
def MV (a0:A4) (O:List V3):Option ((List Bool)) :=
 G8 a0>>=λU =>
 mkn 1 false (a0.IDs.length:Int)>>=λx5 =>
 (iter (MU a0 O U) (x5,0))>>=λM =>
 some M
theorem zn4 (a0:A4) (a1:List V3):Aj Tryz.prog 147 [.rd A8 a0,.rd (A3 aZ) a1] [] (MV a0 a1) (λr nv=>⟨[.val (nv 0)],[(100,some (nv 0,.list Ai 4 r))]⟩):=by
 refine Aq 28 func147 Z Z Z λH w=>?_;refine A0<|Eb Z (bx 1 Z) λv1=>Zb Z<|A0<|Zq (ld 1 Z Z fH AH Z)<|Zc [] [(100,2)] func71 Z (MK _) λr2 n3=>Eb Z (AL 3 I6 (.val Z)) λv4=>Es (Dp 3 Z Z (.here Ay) Z Bo Ay I6)<|Zn<|A0<|Zq (faB 1 Z Z underlying34 Z (by exact B2))<|Zq (ld 1 Z Z (fP (BT _)) B8 Z)<|Zq (Ar Z .rd Z tu31)<|An λx5 h6=>Ef Z (mks (R:=Ai) 4 Z Z h6 tu130 ti4 Zr.bool Z) λU=>Eb Z (AL 5 Lw (.val Z)) λv8=>Es (Dp 5 Z Z (.here Ay) Z Bo Ay Lw)<|Zn<|A0<|Eb Z (AL 6 Sw (.val Z)) λv9=>Zn<|A0<|Zq (mkf mp0 (mp4 Z Z Z Z))<|Es (Dp 6 Z Z (.here Ay) Z Bo Ay Sw)<|Zn<|B6 (λ(a6:(List Bool)) M O=>Sta (ctx 28 H [] w) [(6,.val (A7 v8 0))] [(4,some (U,.list Ai 4 a6)),(5,some (v8,.box 130 [.val U]))] M O) ?_ (λa6=>?_)
 ·refine A0<|Zm Z<|Zq (Ar Z .rd Z tu31)<|Zm Z<|Zn<|AJ (λ(a2:(List Bool) × Int) M O=>Sta (ctx 28 H [] w) [(6,.val (A7 v8 0)),(7,.val (A7 v9 0)),(17,.rd (A3 aZ) a1),(18,.rd A2 (a1.length:Int)),(19,.rd A2 a2.2)] [(4,some (U,.list Ai 4 a2.1)),(5,some (v8,.box 130 [.val U])),(6,some (v9,.box 222 [.val (.func (.func 184) #[] #[A7 v4 0,A7 v8 0,A7 v1 0,A7 v9 0])])),(2,some ((n3 0),.map aZ A2 r2)),(3,some (v4,.box 128 [.val (n3 0)])),(1,some (v1,.box 34 [.rd A8 a0]))] M O) (λM O h=>Zu h [4,5,6,2,3,1]) (λa2=>?_)
  refine A0<|Zq (I.lss Z Z)<|Zn<|A9<|gIf Z Z (λa7=>?_) (λa7=>?_)
  ·refine Zt<|A9<|AD<|A0<|An λab a8=>Zq (ixR Z Z a8 tu31 Ax Z)<|Zq (ldR Z AN)<|Eb Z (AL 7 Ax (.zr (R:=aZ) (x:=(Vector.replicate 32 0)) C0)) λac=>Es (sto 7 Z Z fH Z Ax)<|Zn<|Al<|Zq (ldV 6 Z Z .here Sz Z)<|Zq (ld 7 Z Z fH AN Z)<|DC [3,2,5,4,1,6] [(1,3),(2,2),(3,5),(4,4),(5,1),(6,6)] (gd0 Z) Z Z func184 Z Z (zkw _ _ _ _ _ _ _ _ _ _) (Y1 Z) (cQ 3 Z<|cQ 5 Z<|cQ 1 Z<|cQ 6 Z<|cN) (Zi Z<|Zi Z<|Zi Z<|Zi Z<|Zi Z<|Zi Z<|rN) λad ae=>Ah<|Au<|Ak<|Al<|Zq (I.add Z Z)<|Zm Z<|Ah<|AB (λM O h=>Zu h [4,5,6,2,3,1])
  ·refine AF<|AG<|AI<|AA (λM O h=>Zu h [4,5])
 ·refine A0<|Zq (ldV 5 Z Z .here I7 Z)<|Zb Z<|A5<|Ze [U] [4] Z
def Ky (a0:A4) (U:(List Bool)) (M:(List V3) × (List Ae) × Int):Option (Sum ((List V3) × (List Ae)) ((List V3) × (List Ae) × Int)) :=
 if decide (M.2.2<(U.length:Int)) then
  idx U M.2.2>>=λa1 =>
  if a1 then
   idx a0.Ops M.2.2>>=λO =>
   DN O.Preds>>=λa2 =>
   idx a0.IDs M.2.2>>=λa6 =>
   app 32 M.1 [a6]>>=λa7 =>
   app 112 M.2.1 [(⟨O.Author,a2,O.Stamp,O.Act,O.Sig⟩:Ae)]>>=λa8 =>
   some (.inr (a7,a8,w64 (M.2.2+1)))
  else
   some (.inr (M.1,M.2.1,w64 (M.2.2+1)))
 else
  some (.inl (M.1,M.2.1))
def MW (a0:A4) (O:List V3):Option (A4 × Int) :=
 MR a0 O>>=λM =>
 if M.2 != 0 then
  some ((⟨[],[]⟩:A4),M.2)
 else
  some (decide (0<(M.1.length:Int)))>>=λy6 =>
  if y6 then
   some ((⟨[],[]⟩:A4),6)
  else
   (MV a0 O>>=λU =>
   iter (Ky a0 U) ([],[],0))>>=λs9 =>
   some ((⟨s9.1,s9.2⟩:A4),0)
end
section
theorem Pa (a0:A4) (a1:List V3):Aj Tryz.prog 113 [.rd A8 a0,.rd (A3 aZ) a1] [Am] (MW a0 a1) (λr O=>⟨[.rd A8 r.1,.rd A2 r.2],[(1001,some (.bool true,.glob 1 (Av 64 Aa) Bv))]⟩):=by
 refine Aq 65 func113 Z Z Z λH w=>?_;refine A0<|Eb Z (bx 1 Z) λv1=>Eb Z (AL 2 Aw (ZrE.nilS (ZrE.nilS ZrE.nil))) λv2=>Zb Z<|A0<|Zq (ld 1 Z Z fH AH Z)<|Zm Z<|Zc [1001] [(100,3)] func146 Z (zkp _ _) λr3 n4=>Zm Z<|Zq (ext Z Z)<|Zq (ext Z Z)<|Za Z<|Zb Z<|A9<|AD<|A0<|Zm Z<|Zq (I.neq Z Z)<|Zb Z<|gIf Z Z (λh5=>?_) (λh5=>?_)
 ·refine gKn 20 Z h5<|A0<|Zq (CD [(0,1),(1,1)] underlying34 Aw (ZrE.nilS (ZrE.nilS ZrE.nil)) Z (BQ.done Z))<|Zm Z<|Es (CE 2 Z Z (Af.cast (Af.cons Ay (Af.cons Ay Af.nil)) Z) Z (AZ.cons Bo (AZ.cons Bo AZ.nil)) (Af.cast (Af.cons Ay (Af.cons Ay Af.nil)) Z) Aw)<|Zb Z<|A5<|B7<|Ap<|C6 aZ [.rd (A3 aZ) [],.val (.slice none 0 0)] 2 [] [.val (.slice none 0 0)] Z Z Z<|C6 Ad [.rd (A3 aZ) [],.rd (A3 Ad) []] 2 [.rd (A3 aZ) []] [] Z Z Z<|D0 (R:=A8) (⟨[],[]⟩:A4) 2 Z (Sp.via (Sp.prod (Sp.prod Sp.unit)))<|Bu [] [1001] Z (eC 2 Z Z AH<|eE Z<|eN) (y1 Z)
 ·refine gKn 20 Z h5<|A0<|Zm Z<|Zq (Ar Z (.own 3 Z) Z tu31)<|Zq (I.gtr Z Z)<|Za Z<|AR 23 Z λy6=>Zj Z (λh7=>?_) (λh7=>?_)
  ·refine A0<|Zq (CD [(0,1),(1,1)] underlying34 Aw (ZrE.nilS (ZrE.nilS ZrE.nil)) Z (BQ.done Z))<|Es (CE 2 Z Z (Af.cast (Af.cons Ay (Af.cons Ay Af.nil)) Z) Z (AZ.cons Bo (AZ.cons Bo AZ.nil)) (Af.cast (Af.cons Ay (Af.cons Ay Af.nil)) Z) Aw)<|Zb Z<|A5<|B7<|Ap<|C6 aZ [.rd (A3 aZ) [],.val (.slice none 0 0)] 2 [] [.val (.slice none 0 0)] Z Z Z<|C6 Ad [.rd (A3 aZ) [],.rd (A3 Ad) []] 2 [.rd (A3 aZ) []] [] Z Z Z<|D0 (R:=A8) (⟨[],[]⟩:A4) 2 Z (Sp.via (Sp.prod (Sp.prod Sp.unit)))<|Bu [] [1001] Z (eC 2 Z Z AH<|eE Z<|eN) (y1 Z)
  ·refine AU<|Au<|Ak<|A0<|Eb Z (AL 4 Aw (ZrE.nilS (ZrE.nilS ZrE.nil))) λv8=>Zn<|B6 (λ(s9:(List V3) × (List Ae)) aa ww=>∃ O:Nat->Value,Sta (ctx 65 H [Am] w) [(4,.val (A7 v2 0)),(8,.val (A7 v8 0))] [(2,some (v2,.box 34 [.val (.slice none 0 0),.val (.slice none 0 0)])),(8,some ((O 0),.list aZ 61 s9.1)),(9,some ((O 1),.list Ad 73 s9.2)),(4,some (v8,.box 34 [.val (O 0),.val (O 1)])),Am] aa ww) ?_ (λs9=>?_)
   ·refine A0<|Zq (ld 1 Z Z fH AH Z)<|Zm Z<|Zc [] [(100,1100)] func147 Z (zn4 _ _) λab ac=>Zq (Ar Z (.own 1100 Z) Z tu130)<|Zm Z<|Zn<|DB aZ 61 1105<|DB Ad 73 1106<|AJ (λ(a2:(List V3) × (List Ae) × Int) aa ww=>∃ O:Nat->Value,Sta (ctx 65 H [Am] w) [(2,.val (A7 v1 0)),(4,.val (A7 v2 0)),(8,.val (A7 v8 0)),(30,.val (ac 0)),(31,.rd A2 (ab.length:Int)),(32,.rd A2 a2.2.2)] [(1,some (v1,.box 34 [.rd A8 a0])),(2,some (v2,.box 34 [.val (.slice none 0 0),.val (.slice none 0 0)])),(1103,some ((O 0),.list aZ 61 a2.1)),(1104,some ((O 1),.list Ad 73 a2.2.1)),(4,some (v8,.box 34 [.val (O 0),.val (O 1)])),(1100,some ((ac 0),.list Ai 4 ab)),Am] aa ww) (λaa ww h=>⟨nvl [(.slice none 0 0),(.slice none 0 0)],Zu h [1,2,1105,1106,4,1100,1001]⟩) (λa2=>?_)
    refine gEx λU=>A0<|Zq (I.lss Z Z)<|Zn<|A9<|gIf Z Z (λai=>?_) (λai=>?_)
    ·refine Zt<|A9<|AD<|A0<|Zm Z<|An λar ae=>Zq (ixO 1100 Z Z Z ae tu130 ti4)<|Zq (ld 1100 Z Z (Foc.el ae) ty4 Z)<|Za Z<|Zb Z<|A0<|Zm Z<|Zj Z (λa7=>?_) (λa7=>?_)
     ·refine gKn 36 Z a7<|gKn 10 Z a7<|A0<|Zq (faB 1 Z Z underlying34 Z (by exact Bq))<|Zq (ld 1 Z Z (fP (BN _)) BL Z)<|Zm Z<|An λM aj=>Zq (ixR Z Z aj tu32 B4 Z)<|Zq (ldR Z Bz)<|Eb Z (AL 1107 B4 (ZrE.rd (R:=Aa) (x:=0) (Zr.num Z) (ZrE.nilS (ZrE.rd (R:=Ao) (x:=0) (Zr.num Z) (ZrE.rd (R:=Ba) (x:=(⟨0,[],(⟨0,0,0,[]⟩:Az)⟩:AP)) CR (ZrE.rd (R:=Bc) (x:=(⟨0,0⟩:AC)) CM ZrE.nil Z) Z) Z)) Z)) λad=>Bh aZ [.rd Aa 0,.rd (A3 aZ) [],.rd Ao 0,.rd Ba (⟨0,[],(⟨0,0,0,[]⟩:Az)⟩:AP),.rd Bc (⟨0,0⟩:AC)] 1107 [.rd Aa 0] [.rd Ao 0,.rd Ba (⟨0,[],(⟨0,0,0,[]⟩:Az)⟩:AP),.rd Bc (⟨0,0⟩:AC)] Z Z Z<|BC (R:=Ad) (⟨0,[],0,(⟨0,[],(⟨0,0,0,[]⟩:Az)⟩:AP),(⟨0,0⟩:AC)⟩:Ae) 1107 Z (Sp.via (Sp.prod (Sp.prod (Sp.prod (Sp.prod (Sp.prod Sp.unit))))))<|Es (sto 1107 Z Z fH Z B4)<|Zn<|A0<|Zq (faB 1107 Z Z underlying73 Z (by exact B2))<|Zq (ld 1107 Z Z (fP (Cv _)) B8 Z)<|Zc [] [(100,1108)] func25 Z (EM _) λa6 av=>Zq (faB 1107 Z Z underlying73 Z (by exact B2))<|lSpl (R:=Ad) 1107 Z (Sp.via (Sp.prod (Sp.prod (Sp.prod (Sp.prod (Sp.prod Sp.unit))))))<|Es (Dp 1107 Z Z (Bb.cast (Bb.next BF (Bb.here BF)) Z) Z Bo Ay B2)<|Zn<|gPow [.rd Aa M.Author,.rd (A3 aZ) a6,.rd Ao M.Stamp,.rd Ba M.Act,.rd Bc M.Sig] 1107 1108 [.rd Aa M.Author] [.rd Ao M.Stamp,.rd Ba M.Act,.rd Bc M.Sig] Z Z Z Z Z<|gJoi (R:=Ad) (⟨M.Author,a6,M.Stamp,M.Act,M.Sig⟩:Ae) 1107 Z (Sp.via (Sp.prod (Sp.prod (Sp.prod (Sp.prod (Sp.prod Sp.unit))))))<|E7 [(2,.val (A7 v1 0)),(4,.val (A7 v2 0)),(8,.val (A7 v8 0)),(30,.val (ac 0)),(31,.rd A2 (ab.length:Int)),(32,.rd A2 a2.2.2),(9,.rd A2 a2.2.2),(11,.val (A7 ad 0))] [(1,some (v1,.box 34 [.rd A8 a0])),(2,some (v2,.box 34 [.val (.slice none 0 0),.val (.slice none 0 0)])),(1103,some ((U 0),.list aZ 61 a2.1)),(1104,some ((U 1),.list Ad 73 a2.2.1)),(4,some (v8,.box 34 [.val (U 0),.val (U 1)])),(1100,some ((ac 0),.list Ai 4 ab)),Am,(1107,some (ad,.box 73 [.rd Ad (⟨M.Author,a6,M.Stamp,M.Act,M.Sig⟩:Ae)]))] [1,2,1103,1104,4,1100,1001,1107] (Zs Z Z Z Z<|Zs Z Z Z Z<|sN) (Zi Z<|Zi Z<|Zi Z<|Zi Z<|Zi Z<|Zi Z<|Zi Z<|Zi Z<|rN)<|BV λa8 ak=>BV λam ao=>BV λap aq=>gOr [] [⟨4,some ([], λO=>(v8,.box 34 [.val (U 0),.val (U 1)])),[(15,some ([2], λO=>(v8,.box 34 [.val (O 2),.val (U 1)]))),(17,some ([2,4], λO=>(v8,.box 34 [.val (O 2),.val (O 4)])))]⟩,⟨1,some ([], λO=>(v1,.box 34 [.rd A8 a0])),[]⟩,⟨1109,none,[(7,none)]⟩,⟨1103,some ([], λO=>((U 0),.list aZ 61 a2.1)),[(8,some ([2], λO=>((O 2),.list aZ 61 am)))]⟩,⟨1107,some ([], λO=>(ad,.box 73 [.rd Ad (⟨M.Author,a6,M.Stamp,M.Act,M.Sig⟩:Ae)])),[]⟩,⟨1110,none,[(12,none)]⟩,⟨1104,some ([], λO=>((U 1),.list Ad 73 a2.2.1)),[(13,some ([4], λO=>((O 4),.list Ad 73 ap)))]⟩] [pk 47 (.val (A7 v8 (0+0))) [(0,0,false)],pk 48 (.val (U 0)) [(0,0,false)],pk 49 (.val (A7 v1 (0+0))) [(1,0,false)],pk 50 (.rd (A3 aZ) a0.IDs) [(1,0,false)],pd 51 (.rd A2 a2.2.2),pd 52 (.rp aZ a8),pd 53 (.rd aZ a8),⟨some (54,[], λO=>.rd (A3 aZ) [a8]),[(2,0,true)],[1],[]⟩,⟨some (55,[2], λO=>.val (O 2)),[(3,0,true)],[2],[]⟩,pk 56 (.val (A7 v8 (0+1))) [(0,0,false)],pk 57 (.val (U 1)) [(0,0,false)],pk 58 (.rd Ad (⟨M.Author,a6,M.Stamp,M.Act,M.Sig⟩:Ae)) [(4,0,false)],⟨some (59,[], λO=>.rd (A3 Ad) [(⟨M.Author,a6,M.Stamp,M.Act,M.Sig⟩:Ae)]),[(5,0,true)],[3],[]⟩,⟨some (60,[4], λO=>.val (O 4)),[(6,0,true)],[4],[]⟩,pk 61 (.val (A7 v8 (0+0))) [(0,0,false)],⟨none,[(0,0,true),(3,1,false)],[],[]⟩,pk 62 (.val (A7 v8 (0+1))) [(0,1,false)],⟨none,[(6,1,false),(0,1,true)],[],[]⟩] mixed (oC (oRn (λO E=>faB 4 Z Z underlying34 Z (by exact B2)))<|oC (oRn (λO E=>ldV 4 Z Z (At.cast At.here Z) sc31 Z))<|oC (oRn (λO E=>faB 1 Z Z underlying34 Z (by exact B2)))<|oC (oRn (λO E=>ld 1 Z Z (fP (BT _)) B8 Z))<|oC (oRn (λO E=>mv Z))<|oC (oRn (λO E=>ixR Z Z ak tu31 Ax Z))<|oC (oRn (λO E=>ldR Z AN))<|oC (oFz (A1:=λO=>[(1109,some ((O 1),.list aZ 61 [a8]))]) 1109 1 (oEf 1109 1 (λO E=>lit (R:=aZ) ([a8]:List V3) 1109 (pP Z Z<|pN) Z tu31 Ax Z Z)))<|oC (oEf 1103 2 (λO E=>apn 1103 Z Z Z .rd ao tu31 Ax Z Z Z))<|oC (oRn (λO E=>faB 4 Z Z underlying34 Z (by exact Bq)))<|oC (oRn (λO E=>ldV 4 Z Z (At.cast (At.next Ay At.here) Z) sc32 Z))<|oC (oRn (λO E=>ld 1107 Z Z fH Bz Z))<|oC (oFz (A1:=λO=>[(1110,some ((O 3),.list Ad 73 [(⟨M.Author,a6,M.Stamp,M.Act,M.Sig⟩:Ae)]))]) 1110 3 (oEf 1110 3 (λO E=>lit (R:=Ad) ([(⟨M.Author,a6,M.Stamp,M.Act,M.Sig⟩:Ae)]:List Ae) 1110 (pP Z Z<|pN) Z tu32 B4 Z Z)))<|oC (oEf 1104 4 (λO E=>apn 1104 Z Z Z .rd aq tu32 B4 Z Z Z))<|oC (oRn (λO E=>faB 4 Z Z underlying34 Z (by exact B2)))<|oC (oEs 4 (λO E=>Dp 4 Z Z (Bb.cast (Bb.here Ay) Z) Z Bo Ay B2))<|oC (oRn (λO E=>faB 4 Z Z underlying34 Z (by exact Bq)))<|oC (oEs 4 (λO E=>Dp 4 Z Z (Bb.cast (Bb.next Ay (Bb.here Ay)) Z) Z Bo Ay Bq))<|oN) λaf=>Au<|Ak<|Al<|Zq (I.add Z Z)<|Zm Z<|Ah<|AB (λaa ww h=>⟨nvl [(af 2),(af 4)],Zu h [1,2,1103,1104,4,1100,1001]⟩)
     ·refine gKn 36 Z a7<|gKn 10 Z a7<|AU<|Au<|Ak<|Al<|Zq (I.add Z Z)<|Zm Z<|Ah<|AB (λaa ww h=>⟨nvl [(U 0),(U 1)],Zu h [1,2,1103,1104,4,1100,1001]⟩)
    ·refine AF<|AG<|AI<|AA (λaa ww h=>⟨nvl [(U 0),(U 1)],Zu h [2,1103,1104,4,1001]⟩)
   ·refine gEx λah=>A0<|lPow [.rd (A3 aZ) s9.1,.val (ah 1)] 4 8 [] [.val (ah 1)] Z Z Z Z Z<|lPow [.rd (A3 aZ) s9.1,.rd (A3 Ad) s9.2] 4 9 [.rd (A3 aZ) s9.1] [] Z Z Z Z Z<|BC (R:=A8) (⟨s9.1,s9.2⟩:A4) 4 Z (Sp.via (Sp.prod (Sp.prod Sp.unit)))<|Zq (ld 4 Z Z fH AH Z)<|Bh aZ [.rd (A3 aZ) [],.val (.slice none 0 0)] 2 [] [.val (.slice none 0 0)] Z Z Z<|Bh Ad [.rd (A3 aZ) [],.rd (A3 Ad) []] 2 [.rd (A3 aZ) []] [] Z Z Z<|BC (R:=A8) (⟨[],[]⟩:A4) 2 Z (Sp.via (Sp.prod (Sp.prod Sp.unit)))<|Es (sto 2 Z Z fH Z Aw)<|Zb Z<|A5<|Bu [] [1001] Z (eC 2 Z Z AH<|eE Z<|eN) (y1 Z)
def G9 (a0:List V3) (O:List V3) (M:Int):Option (Sum (Sum Bool Unit) Int) :=
 if decide (M<(a0.length:Int)) then
  idx a0 M>>=λU =>
  idx O M>>=λx7 =>
  if !decide (U=x7) then
   some (.inl (.inl false))
  else
   some (.inr (w64 (M+1)))
 else
  some (.inl (.inr ()))
def Hz (a0:List V3) (M:List V3):Option (Bool) :=
 if (a0.length:Int) != (M.length:Int) then
  some false
 else
  Bi (iter (G9 a0 M) 0) λs2 =>
  some true
theorem U5 (a0:List V3) (U:List V3):Aj Tryz.prog 29 [.rd (A3 aZ) a0,.rd (A3 aZ) U] [] (Hz a0 U) (λr nv=>⟨[.rd Ai r],[]⟩):=by
 refine Aq 26 func29 Z Z Z λH w=>?_;refine A0<|Zb Z<|A9<|A0<|Zm Z<|Zq (Ar Z .rd Z tu31)<|Zm Z<|Zq (Ar Z .rd Z tu31)<|Zq (I.neq Z Z)<|Zj Z (λh1=>?_) (λh1=>?_)
 ·refine A0<|Zb Z<|A5<|Ap<|Ze [] [] Z
 ·refine Zt<|Bt (λ(s2:Unit) M O=>Sta (ctx 26 H [] w) [] [] M O) ?_ (λs2=>?_)
  ·refine A0<|Zb Z<|AJ (λ(s3:Int) M O=>Sta (ctx 26 H [] w) [(0,.rd (A3 aZ) a0),(1,.rd (A3 aZ) U),(5,.rd A2 s3)] [] M O) (λM O h=>Zu h []) (λs3=>?_);refine A9<|A0<|Zm Z<|Zm Z<|Zq (Ar Z .rd Z tu31)<|Zq (I.lss Z Z)<|Zj Z (λh4=>?_) (λh4=>?_)
   ·refine Zt<|A9<|AD<|A9<|Dr mixed (by kernel_rfl)<|Rq Z (mv Z)<|Rq Z (mv Z)<|BM λx5 h6=>Rq Z (ixR Z Z h6 tu31 Ax Z)<|Rq Z (ldR Z AN)<|Rq Z (mv Z)<|Rq Z (mv Z)<|BM λx7 h8=>Rq Z (ixR Z Z h8 tu31 Ax Z)<|Rq Z (ldR Z AN)<|Rq Z (neA Z Z eq61 Z Z gq61)<|Ds<|Ak<|gIf Z Z (λh9=>?_) (λh9=>?_)
    ·refine A0<|Zb Z<|A5<|B7<|Ap<|Bp<|Bl<|Ze [] [] Z
    ·refine AU<|Au<|Ak<|Al<|Zm Z<|Zq (I.add Z Z)<|Za Z<|Ah<|AB (λM O h=>Zu h [])
   ·refine AF<|AG<|AI<|Bk (λM O h=>Zu h [])
  ·refine A0<|Zb Z<|A5<|Ze [] [] Z
def HA (a0:Ae) (M:Ae):Option (Bool) :=
 if a0.Author==M.Author then
  Hz a0.Preds M.Preds>>=λO =>
  if O then
   if a0.Stamp==M.Stamp then
    if decide (a0.Act=M.Act) then
     some (decide (a0.Sig=M.Sig))>>=λU =>
     some U
    else
     some false
   else
    some false
  else
   some false
 else
  some false
theorem U6 (a0:Ae) (a1:Ae):Aj Tryz.prog 30 [.rd Ad a0,.rd Ad a1] [] (HA a0 a1) (λr nv=>⟨[.rd Ai r],[]⟩):=by
 refine Aq 38 func30 Z Z Z λH w=>?_;refine A0<|Eb Z (bx 1 Z) λv1=>Eb Z (bx 2 Z) λv2=>Zb Z<|A0<|Zq (faB 1 Z Z underlying73 Z (by exact B0))<|Zq (ld 1 Z Z (fP (Ex _)) Be Z)<|Zq (faB 2 Z Z underlying73 Z (by exact B0))<|Zq (ld 2 Z Z (fP (Ex _)) Be Z)<|Zq (W.eql Z Z)<|Zm Z<|AY 10 Z (λh3=>?_) (λh3=>?_)
 ·refine Ac 9 Z h3<|Ab Zx Z Z (faB 1 Z Z underlying73 Z (by exact B2))<|Ab Zx Z Z (ld 1 Z Z (fP (Cv _)) B8 Z)<|Ab Zx Z Z (faB 2 Z Z underlying73 Z (by exact B2))<|Ab Zx Z Z (ld 2 Z Z (fP (Cv _)) B8 Z)<|CH [] [] Zx Z func29 Z Z (U5 _ _) (Y2 Z Z) rN λr4 n5=>Zq (pkT Z Z)<|Zm Z<|AY 17 Z (λM=>?_) (λM=>?_)
  ·refine Ac 15 Z M<|Ac 16 Z M<|Ab Zx Z Z (faB 1 Z Z underlying73 Z (by exact CJ))<|Ab Zx Z Z (ld 1 Z Z (fP (EK _)) CU Z)<|Ab Zx Z Z (faB 2 Z Z underlying73 Z (by exact CJ))<|Ab Zx Z Z (ld 2 Z Z (fP (EK _)) CU Z)<|Ab Zx Z Z (U.eql Z Z)<|Zq (pkT Z Z)<|Zm Z<|AY 24 Z (λO=>?_) (λO=>?_)
   ·refine Ac 22 Z O<|Ac 23 Z O<|Ab Zx Z Z (faB 1 Z Z underlying73 Z (by exact CP))<|Ab Zx Z Z (ld 1 Z Z (fP (D4 _)) ty69 Z)<|Ab Zx Z Z (faB 2 Z Z underlying73 Z (by exact CP))<|Ab Zx Z Z (ld 2 Z Z (fP (D4 _)) ty69 Z)<|Ab Zx Z Z (eqA Z Z eq69 Z Z gq69)<|Zq (pkT Z Z)<|Zm Z<|AY 31 Z (λh8=>?_) (λh8=>?_)
    ·refine Ac 29 Z h8<|Ac 30 Z h8<|Ab Zx Z Z (faB 1 Z Z underlying73 Z (by exact CG))<|Ab Zx Z Z (ld 1 Z Z (fP (DF _)) ty71 Z)<|Ab Zx Z Z (faB 2 Z Z underlying73 Z (by exact CG))<|Ab Zx Z Z (ld 2 Z Z (fP (DF _)) ty71 Z)<|Ab Zx Z Z (eqA Z Z eq71 Z Z gq71)<|Zq (pkT Z Z)<|Za Z<|AR 4 Z λy9=>Zn<|A5<|Ze [] [] Z
    ·refine Ac 29 Z h8<|Ac 30 Z h8<|Zk Z<|Zk Z<|Zk Z<|Zk Z<|Zk Z<|Zq (pkF Z Z)<|Zb Z<|A5<|Ze [] [] Z
   ·refine Ac 22 Z O<|Ac 23 Z O<|Zk Z<|Zk Z<|Zk Z<|Zk Z<|Zk Z<|Zq (pkF Z Z)<|Zm Z<|Zk Z<|Zk Z<|Zk Z<|Zk Z<|Zk Z<|Zq (pkF Z Z)<|Zb Z<|A5<|Ze [] [] Z
  ·refine Ac 15 Z M<|Ac 16 Z M<|Zk Z<|Zk Z<|Zk Z<|Zk Z<|Zk Z<|Zq (pkF Z Z)<|Zm Z<|Zk Z<|Zk Z<|Zk Z<|Zk Z<|Zk Z<|Zq (pkF Z Z)<|Zm Z<|Zk Z<|Zk Z<|Zk Z<|Zk Z<|Zk Z<|Zq (pkF Z Z)<|Zb Z<|A5<|Ze [] [] Z
 ·refine Ac 9 Z h3<|Zk Z<|Zk Z<|Zk Z<|Zk Z<|Zk Z<|Zq (pkF Z Z)<|Zm Z<|Zk Z<|Zk Z<|Zk Z<|Zk Z<|Zk Z<|Zq (pkF Z Z)<|Zm Z<|Zk Z<|Zk Z<|Zk Z<|Zk Z<|Zk Z<|Zq (pkF Z Z)<|Zm Z<|Zk Z<|Zk Z<|Zk Z<|Zk Z<|Zk Z<|Zq (pkF Z Z)<|Zb Z<|A5<|Ze [] [] Z
def MX (a0:A4) (a1:A4) (M:Int):Option (Sum (Sum Bool Unit) Int) :=
 if decide (M<(a0.Ops.length:Int)) then
  idx a0.Ops M>>=λO =>
  idx a1.Ops M>>=λU =>
  HA O U>>=λa2 =>
  if !a2 then
   some (.inl (.inl false))
  else
   some (.inr (w64 (M+1)))
 else
  some (.inl (.inr ()))
def GM (a0:A4) (M:A4):Option (Bool) :=
 Hz a0.IDs M.IDs>>=λO =>
 if !O then
  some false
 else
  if (a0.Ops.length:Int) != (M.Ops.length:Int) then
   some false
  else
   Bi (iter (MX a0 M) 0) λs7 =>
   some true
theorem Kz (a0:A4) (U:A4):Aj Tryz.prog 11 [.rd A8 a0,.rd A8 U] [] (GM a0 U) (λr nv=>⟨[.rd Ai r],[]⟩):=by
 refine Aq 40 func11 Z Z Z λH w=>?_;refine A0<|Eb Z (bx 1 Z) λv1=>Eb Z (bx 2 Z) λv2=>Zb Z<|A9<|A0<|Zq (faB 1 Z Z underlying34 Z (by exact B2))<|Zq (ld 1 Z Z (fP (BT _)) B8 Z)<|Zq (faB 2 Z Z underlying34 Z (by exact B2))<|Zq (ld 2 Z Z (fP (BT _)) B8 Z)<|Zc [] [] func29 Z (U5 _ _) λr3 n4=>Zq (By Z)<|Zm Z<|AY 12 Z (λh5=>?_) (λh5=>?_)
 ·refine Ac 11 Z h5<|Zk Z<|Zk Z<|Zk Z<|Zk Z<|Zk Z<|Zk Z<|Zk Z<|Zq (pkT Z Z)<|Zn<|Dm Z<|A0<|Zb Z<|A5<|Ap<|Ze [] [] Z
 ·refine Ac 11 Z h5<|Ab Zx Z Z (faB 1 Z Z underlying34 Z (by exact Bq))<|Ab Zx Z Z (ld 1 Z Z (fP (BN _)) BL Z)<|Ab Zx Z Z (Ar Z .rd Z tu32)<|Ab Zx Z Z (faB 2 Z Z underlying34 Z (by exact Bq))<|Ab Zx Z Z (ld 2 Z Z (fP (BN _)) BL Z)<|Ab Zx Z Z (Ar Z .rd Z tu32)<|Ab Zx Z Z (I.neq Z Z)<|Zq (pkF Z Z)<|Zj Z (λh6=>?_) (λh6=>?_)
  ·refine gKn 19 Z h6<|A0<|Zb Z<|A5<|Ap<|Ze [] [] Z
  ·refine gKn 19 Z h6<|Zt<|Bt (λ(s7:Unit) M O=>Sta (ctx 40 H [] w) [] [] M O) ?_ (λs7=>?_)
   ·refine A0<|Zb Z<|AJ (λ(s8:Int) M O=>Sta (ctx 40 H [] w) [(2,.val (A7 v1 0)),(3,.val (A7 v2 0)),(5,.rd A2 s8)] [(1,some (v1,.box 34 [.rd A8 a0])),(2,some (v2,.box 34 [.rd A8 U]))] M O) (λM O h=>Zu h [1,2]) (λs8=>?_);refine A9<|A0<|Zm Z<|Zq (faB 1 Z Z underlying34 Z (by exact Bq))<|Zq (ld 1 Z Z (fP (BN _)) BL Z)<|Zq (Ar Z .rd Z tu32)<|Zq (I.lss Z Z)<|Zj Z (λh9=>?_) (λh9=>?_)
    ·refine Zt<|A9<|AD<|A9<|BK [] mixed Z Z<|A6 0 Z Z (faB 1 Z Z underlying34 Z (by exact Bq))<|A6 1 Z Z (ld 1 Z Z (fP (BN _)) BL Z)<|A6 2 Z Z (mv Z)<|BA λa8 a2=>A6 3 Z Z (ixR Z Z a2 tu32 B4 Z)<|A6 4 Z Z (ldR Z Bz)<|A6 5 Z Z (faB 2 Z Z underlying34 Z (by exact Bq))<|A6 6 Z Z (ld 2 Z Z (fP (BN _)) BL Z)<|A6 7 Z Z (mv Z)<|BA λab a6=>A6 8 Z Z (ixR Z Z a6 tu32 B4 Z)<|A6 9 Z Z (ldR Z Bz)<|BH 10 [] [] Z (by kernel_rfl) Z (gd0 Z) Z func30 Z Z (U6 _ _) (Y2 Z Z) rN Z (λ_ _=>DD) λac ad=>A6 11 Z Z (By Z)<|Bg (by kernel_rfl)<|Ak<|gIf Z Z (λa7=>?_) (λa7=>?_)
     ·refine A0<|Zb Z<|A5<|B7<|Ap<|Bp<|Bl<|Ze [] [] Z
     ·refine AU<|Au<|Ak<|Al<|Zm Z<|Zq (I.add Z Z)<|Za Z<|Ah<|AB (λM O h=>Zu h [1,2])
    ·refine AF<|AG<|AI<|Bk (λM O h=>Zu h [])
   ·refine A0<|Zb Z<|A5<|Ze [] [] Z
def IH (a0:Ae):Option (Bool) :=
 if decide (20<(a0.Preds.length:Int)) then
  some true
 else
  if decide (100<(a0.Act.Key.length:Int)) then
   some true
  else
   some (decide (100<(a0.Act.Value.Text.length:Int)))>>=λM =>
   some M
theorem zl3 (a0:Ae):Aj Tryz.prog 63 [.rd Ad a0] [] (IH a0) (λr nv=>⟨[.rd Ai r],[]⟩):=by
 refine Aq 22 func63 Z Z Z λH w=>?_;refine A0<|Eb Z (bx 1 Z) λv1=>Zb Z<|A0<|Zq (faB 1 Z Z underlying73 Z (by exact B2))<|Zq (ld 1 Z Z (fP (Cv _)) B8 Z)<|Zq (Ar Z .rd Z tu31)<|Zq (I.gtr Z Z)<|Zm Z<|AY 7 Z (λh2=>?_) (λh2=>?_)
 ·refine Ac 6 Z h2<|Zk Z<|Zk Z<|Zk Z<|Zk Z<|Zk Z<|Zq (pkT Z Z)<|Zm Z<|Zk Z<|Zk Z<|Zk Z<|Zk Z<|Zk Z<|Zk Z<|Zq (pkT Z Z)<|Zb Z<|A5<|Ze [] [] Z
 ·refine Ac 6 Z h2<|Ab Zx Z Z (faB 1 Z Z underlying73 Z (by exact CP))<|Ab Zx Z Z (faB 1 Z Z underlying69 Z (by exact ti9))<|Ab Zx Z Z (ld 1 Z Z ((fP (D4 _)).part (Gr _)) ty9 Z)<|Ab Zx Z Z (lenT Z Z tu9)<|Ab Zx Z Z (I.gtr Z Z)<|Zq (pkF Z Z)<|Zm Z<|AY 14 Z (λh3=>?_) (λh3=>?_)
  ·refine Ac 12 Z h3<|Ac 13 Z h3<|Zk Z<|Zk Z<|Zk Z<|Zk Z<|Zk Z<|Zk Z<|Zq (pkT Z Z)<|Zb Z<|A5<|Ze [] [] Z
  ·refine Ac 12 Z h3<|Ac 13 Z h3<|Ab Zx Z Z (faB 1 Z Z underlying73 Z (by exact CP))<|Ab Zx Z Z (faB 1 Z Z underlying69 Z (by exact CF))<|Ab Zx Z Z (faB 1 Z Z underlying67 Z (by exact ti9))<|Ab Zx Z Z (ld 1 Z Z (((fP (D4 _)).part (Hc _)).part (FS _)) ty9 Z)<|Ab Zx Z Z (lenT Z Z tu9)<|Ab Zx Z Z (I.gtr Z Z)<|Zq (pkF Z Z)<|Za Z<|AR 2 Z λy4=>Zn<|A5<|Ze [] [] Z
def II (a0:A4) (M:Int):Option (Sum (Sum Bool Unit) Int) :=
 if decide (M<(a0.Ops.length:Int)) then
  if decide (M<=70) then
   idx a0.Ops M>>=λO =>
   IH O>>=λU =>
   if U then
    some (.inl (.inl true))
   else
    some (.inr (w64 (M+1)))
  else
   some (.inl (.inr ()))
 else
  some (.inl (.inr ()))
def GN (a0:A4):Option (Bool) :=
 Bi (iter (II a0) 0) λs2 =>
 if decide (16<(a0.Ops.length:Int)) then
  if decide ((a0.Ops.length:Int)<=60) then
   some true
  else
   if decide (70<(a0.Ops.length:Int)) then
    some true
   else
    some (decide (70<(a0.IDs.length:Int)))>>=λM =>
    some M
 else
  if decide (70<(a0.Ops.length:Int)) then
   some true
  else
   some (decide (70<(a0.IDs.length:Int)))>>=λO =>
   some O
theorem zla (a0:A4):Aj Tryz.prog 39 [.rd A8 a0] [] (GN a0) (λr nv=>⟨[.rd Ai r],[]⟩):=by
 refine Aq 43 func39 Z Z Z λH w=>?_;refine A0<|Eb Z (bx 1 Z) λv1=>Zb Z<|Bt (λ(s2:Unit) aa ww=>Sta (ctx 43 H [] w) [(1,.val (A7 v1 0))] [(1,some (v1,.box 34 [.rd A8 a0]))] aa ww) ?_ (λs2=>?_)
 ·refine A0<|Zb Z<|AJ (λ(s3:Int) aa ww=>Sta (ctx 43 H [] w) [(1,.val (A7 v1 0)),(3,.rd A2 s3)] [(1,some (v1,.box 34 [.rd A8 a0]))] aa ww) (λaa ww h=>Zu h [1]) (λs3=>?_);refine A9<|A0<|Zm Z<|Zq (faB 1 Z Z underlying34 Z (by exact Bq))<|Zq (ld 1 Z Z (fP (BN _)) BL Z)<|Zq (Ar Z .rd Z tu32)<|Zq (I.lss Z Z)<|Zm Z<|AY 9 Z (λh4=>?_) (λh4=>?_)
  ·refine Ac 8 Z h4<|Ab Zx Z Z (mv Z)<|Ab Zx Z Z (I.leq Z Z)<|Zq (pkT Z Z)<|Zj Z (λh5=>?_) (λh5=>?_)
   ·refine gKn 11 Z h5<|Zt<|A9<|AD<|A0<|Zq (faB 1 Z Z underlying34 Z (by exact Bq))<|Zq (ld 1 Z Z (fP (BN _)) BL Z)<|Zm Z<|An λx6 h7=>Zq (ixR Z Z h7 tu32 B4 Z)<|Zq (ldR Z Bz)<|Zc [] [] func63 Z (zl3 _) λr8 n9=>Zj Z (λa2=>?_) (λa2=>?_)
    ·refine A0<|Zb Z<|A5<|B7<|Ap<|Bp<|Bl<|Ze [] [] Z
    ·refine AU<|Au<|Ak<|Al<|Zm Z<|Zq (I.add Z Z)<|Za Z<|Ah<|AB (λaa ww h=>Zu h [1])
   ·refine gKn 11 Z h5<|AF<|AG<|AI<|Bk (λaa ww h=>Zu h [1])
  ·refine Ac 8 Z h4<|Zk Z<|Zk Z<|Zq (pkF Z Z)<|Zn<|DL Z<|AF<|AG<|AI<|Bk (λaa ww h=>Zu h [1])
 ·refine A0<|Zq (faB 1 Z Z underlying34 Z (by exact Bq))<|Zq (ld 1 Z Z (fP (BN _)) BL Z)<|Zq (Ar Z .rd Z tu32)<|Zq (I.gtr Z Z)<|Zm Z<|AY 25 Z (λa1=>?_) (λa1=>?_)
  ·refine Ac 24 Z a1<|Ab Zx Z Z (faB 1 Z Z underlying34 Z (by exact Bq))<|Ab Zx Z Z (ld 1 Z Z (fP (BN _)) BL Z)<|Ab Zx Z Z (Ar Z .rd Z tu32)<|Ab Zx Z Z (I.leq Z Z)<|Zq (pkT Z Z)<|Zm Z<|AY 31 Z (λM=>?_) (λM=>?_)
   ·refine Ac 29 Z M<|Ac 30 Z M<|Zk Z<|Zk Z<|Zk Z<|Zk Z<|Zq (pkT Z Z)<|Zm Z<|Zk Z<|Zk Z<|Zk Z<|Zk Z<|Zq (pkT Z Z)<|Zb Z<|A5<|Ze [] [] Z
   ·refine Ac 29 Z M<|Ac 30 Z M<|Ab Zx Z Z (faB 1 Z Z underlying34 Z (by exact Bq))<|Ab Zx Z Z (ld 1 Z Z (fP (BN _)) BL Z)<|Ab Zx Z Z (Ar Z .rd Z tu32)<|Ab Zx Z Z (I.gtr Z Z)<|Zq (pkF Z Z)<|Zm Z<|AY 37 Z (λO=>?_) (λO=>?_)
    ·refine Ac 35 Z O<|Ac 36 Z O<|Zk Z<|Zk Z<|Zk Z<|Zk Z<|Zq (pkT Z Z)<|Zb Z<|A5<|Ze [] [] Z
    ·refine Ac 35 Z O<|Ac 36 Z O<|Ab Zx Z Z (faB 1 Z Z underlying34 Z (by exact B2))<|Ab Zx Z Z (ld 1 Z Z (fP (BT _)) B8 Z)<|Ab Zx Z Z (Ar Z .rd Z tu31)<|Ab Zx Z Z (I.gtr Z Z)<|Zq (pkF Z Z)<|Za Z<|AR 2 Z λa6=>Zn<|A5<|Ze [] [] Z
  ·refine Ac 24 Z a1<|Zk Z<|Zk Z<|Zk Z<|Zk Z<|Zq (pkF Z Z)<|Zm Z<|Ab Zx Z Z (faB 1 Z Z underlying34 Z (by exact Bq))<|Ab Zx Z Z (ld 1 Z Z (fP (BN _)) BL Z)<|Ab Zx Z Z (Ar Z .rd Z tu32)<|Ab Zx Z Z (I.gtr Z Z)<|Zq (pkF Z Z)<|Zm Z<|AY 37 Z (λU=>?_) (λU=>?_)
   ·refine Ac 35 Z U<|Ac 36 Z U<|Zk Z<|Zk Z<|Zk Z<|Zk Z<|Zq (pkT Z Z)<|Zb Z<|A5<|Ze [] [] Z
   ·refine Ac 35 Z U<|Ac 36 Z U<|Ab Zx Z Z (faB 1 Z Z underlying34 Z (by exact B2))<|Ab Zx Z Z (ld 1 Z Z (fP (BT _)) B8 Z)<|Ab Zx Z Z (Ar Z .rd Z tu31)<|Ab Zx Z Z (I.gtr Z Z)<|Zq (pkF Z Z)<|Za Z<|AR 2 Z λa7=>Zn<|A5<|Ze [] [] Z
end
section
def KA (a0:UInt32):Option (Int) :=
 if decide (500000002<=(a0 - 1)) then
  some 2
 else
  some 0
theorem U7 (a0:UInt32):Aj Tryz.prog 89 [.rd Aa a0] [] (KA a0) (λr nv=>⟨[.rd A2 r],[]⟩):=by
 refine Aq 6 func89 Z Z Z λH w=>?_;refine A0<|Zb Z<|A9<|A0<|Zm Z<|Zq (W.sub Z Z)<|Zq (W.geq Z Z)<|Zj Z (λh1=>?_) (λh1=>?_)
 ·refine A0<|Zb Z<|A5<|Ap<|Ze [] [] Z
 ·refine Zt<|A0<|Zb Z<|A5<|Ze [] [] Z
def KB (a0:UInt32):Option (UInt32 × Int) :=
 KA a0>>=λM =>
 if M != 0 then
  some (0,M)
 else
  Ho a0.toUInt64>>=λO =>
  some (O,0)
theorem U8 (a0:UInt32):Aj Tryz.prog 57 [.rd Aa a0] [] (KB a0) (λr nv=>⟨[.rd Aa r.1,.rd A2 r.2],[]⟩):=by
 refine Aq 13 func57 Z Z Z λH w=>?_;refine A0<|Za Z<|Zb Z<|A9<|A0<|Zm Z<|Zc [] [] func89 Z (U7 _) λr1 n2=>Zb Z<|A0<|Zm Z<|Zq (I.neq Z Z)<|Zj Z (λh3=>?_) (λh3=>?_)
 ·refine A0<|Zm Z<|Za Z<|Zb Z<|A5<|Ap<|Ze [] [] Z
 ·refine Zt<|A0<|Zm Z<|Zq (W.toU Z tu65 tu52)<|Zc [] [] func90 Z (OI _) λr4 n5=>Za Z<|Zb Z<|A5<|Ze [] [] Z
def MY (a0:UInt32) (U:List UInt8):Option (UInt32 × Int) :=
 KA a0>>=λO =>
 if O != 0 then
  some (0,O)
 else
  Hp 110 U [a0]>>=λM =>
  if M.2 != 0 then
   some (0,M.2)
  else
   some (((M.1 % 500000002).toUInt32)+1)>>=λy8 =>
   some (y8,0)
theorem ztf (a0:UInt32) (M:List UInt8):Aj Tryz.prog 97 [.rd Aa a0,.rd (A3 u8R) M] [Am] (MY a0 M) (λr nv=>⟨[.rd Aa r.1,.rd A2 r.2],[(1001,some (.bool true,.glob 1 (Av 64 Aa) Bv))]⟩):=by
 refine Aq 28 func97 Z Z Z λH w=>?_;refine A0<|Za Z<|Zb Z<|A9<|A0<|Zm Z<|Zc [] [] func89 Z (U7 _) λr1 n2=>Zb Z<|A0<|Zm Z<|Zq (I.neq Z Z)<|Zj Z (λh3=>?_) (λh3=>?_)
 ·refine A0<|Zm Z<|Za Z<|Zb Z<|A5<|Ap<|Ze [] [1001] Z
 ·refine Zt<|A0<|Zm Z<|Zm Z<|Ef Z (lit (R:=Aa) ([a0]:List UInt32) 1 (pP Z Z<|pN) Z tu203 B0 Z Z) λv4=>BG 1 [17] Z (fS Z<|fN)<|Zc [1001] [] func129 Z (T9 _ _ _) λr5 n6=>Zm Z<|Zq (ext Z Z)<|Zq (ext Z Z)<|Za Z<|Zb Z<|A9<|A0<|Zm Z<|Zq (I.neq Z Z)<|Zj Z (λO=>?_) (λO=>?_)
  ·refine A0<|Zm Z<|Za Z<|Zb Z<|A5<|Ap<|Ze [] [1001] Z
  ·refine Zt<|A0<|Zm Z<|Zq (U.rem Z Z (by decide))<|Zq (U.toW Z tu52 tu65)<|Zq (W.add Z Z)<|Za Z<|AR 4 Z λy8=>Zb Z<|A5<|Ze [] [1001] Z
def MZ (a0:UInt32) (M:UInt32):Option (UInt32 × Int) :=
 if decide (500000003<=(max a0 M)) then
  some (0,2)
 else
  FY 500000003 [a0,M]>>=λO =>
  some (O,0)
theorem zr7 (a0:UInt32) (M:UInt32):Aj Tryz.prog 99 [.rd Aa a0,.rd Aa M] [] (MZ a0 M) (λr nv=>⟨[.rd Aa r.1,.rd A2 r.2],[]⟩):=by
 refine Aq 14 func99 Z Z Z λH w=>?_;refine A0<|Za Z<|Zb Z<|A9<|A0<|Zm Z<|Zm Z<|Zq (W.max Z Z)<|Zq (W.geq Z Z)<|Zj Z (λh1=>?_) (λh1=>?_)
 ·refine A0<|Za Z<|Zb Z<|A5<|Ap<|Ze [] [] Z
 ·refine Zt<|A0<|Zm Z<|Zm Z<|Ef Z (lit (R:=Aa) ([a0,M]:List UInt32) 1 (pP Z Z<|pP Z Z<|pN) Z tu203 B0 Z Z) λv2=>BG 1 [12] Z (fS Z<|fN)<|Zc [] [] func130 Z (LI _ _) λr3 n4=>Za Z<|Zb Z<|A5<|Ze [] [] Z
def N0 (a0:UInt32) (M:UInt32):Option (UInt32 × Int) :=
 if decide (500000003<=(max a0 M)) then
  some (0,2)
 else
  some ((a0+M) % 500000003)>>=λO =>
  some (O,0)
theorem ztl (a0:UInt32) (M:UInt32):Aj Tryz.prog 100 [.rd Aa a0,.rd Aa M] [] (N0 a0 M) (λr nv=>⟨[.rd Aa r.1,.rd A2 r.2],[]⟩):=by
 refine Aq 14 func100 Z Z Z λH w=>?_;refine A0<|Za Z<|Zb Z<|A9<|A0<|Zm Z<|Zm Z<|Zq (W.max Z Z)<|Zq (W.geq Z Z)<|Zj Z (λh1=>?_) (λh1=>?_)
 ·refine A0<|Za Z<|Zb Z<|A5<|Ap<|Ze [] [] Z
 ·refine Zt<|A0<|Zm Z<|Zm Z<|Zq (W.add Z Z)<|Zq (W.rem Z Z (by decide))<|Za Z<|AR 4 Z λy2=>Zb Z<|A5<|Ze [] [] Z
def N1 (a0:UInt32) (O:List UInt8):Option (AC × Int) :=
 MY a0 O>>=λM =>
 if M.2 != 0 then
  some ((⟨0,0⟩:AC),M.2)
 else
  KB a0>>=λr5 =>
  Ho M.1.toUInt64>>=λr7 =>
  JG r7 r5.1 O>>=λU =>
  MZ U.1 a0>>=λa2 =>
  N0 M.1 a2.1>>=λa6 =>
  some ((⟨U.1,a6.1⟩:AC),0)
theorem zum (a0:UInt32) (M:List UInt8):Aj Tryz.prog 59 [.rd Aa a0,.rd (A3 u8R) M] [Am] (N1 a0 M) (λr nv=>⟨[.rd Bc r.1,.rd A2 r.2],[(1001,some (.bool true,.glob 1 (Av 64 Aa) Bv))]⟩):=by
 refine Aq 55 func59 Z Z Z λH w=>?_;refine A0<|Eb Z (AL 1 CG (.zr (R:=Bc) (x:=(⟨0,0⟩:AC)) CM)) λv1=>Zb Z<|A0<|Zm Z<|Zm Z<|Zc [1001] [] func97 Z (ztf _ _) λr2 n3=>Zm Z<|Zq (ext Z Z)<|Zq (ext Z Z)<|Za Z<|Zb Z<|A9<|A0<|Zm Z<|Zq (I.neq Z Z)<|Zj Z (λU=>?_) (λU=>?_)
 ·refine A0<|Zq (bld (x':=(⟨0,0⟩:AC)) [(0,1),(1,1)] underlying71 CG Z CM Z (Bld.done Z))<|Zm Z<|Es (sto 1 Z Z fH Z CG)<|Zb Z<|A5<|Ap<|Bu [] [1001] Z (eC 1 Z Z ty71<|eE Z<|eN) (y1 Z)
 ·refine Zt<|A0<|Zm Z<|Zc [] [] func57 Z (U8 _) λr5 n6=>Zm Z<|Zq (ext Z Z)<|Zq (ext Z Z)<|Za Z<|Zb Z<|A0<|Zm Z<|Zq (W.toU Z tu65 tu52)<|Zc [] [] func90 Z (OI _) λr7 n8=>Zm Z<|Zm Z<|Zc [1001] [] func98 Z (Ta _ _ _) λr9 a2=>Zm Z<|Zq (ext Z Z)<|Zq (ext Z Z)<|Za Z<|Zb Z<|A0<|Zm Z<|Zm Z<|Zc [] [] func99 Z (zr7 _ _) λa6 a7=>Zm Z<|Zq (ext Z Z)<|Zq (ext Z Z)<|Za Z<|Zb Z<|A0<|Zm Z<|Zm Z<|Zc [] [] func100 Z (ztl _ _) λO a8=>Zm Z<|Zq (ext Z Z)<|Zq (ext Z Z)<|Za Z<|Zb Z<|A0<|Zm Z<|Zm Z<|Zq (bld (x':=(⟨r9.1,O.1⟩:AC)) [(0,1),(1,1)] underlying71 CG Z CM Z (Bld.cons (EY _) Z Z<|Bld.cons (FT _) Z Z<|Bld.done Z))<|Es (sto 1 Z Z fH Z CG)<|Zb Z<|A5<|Bu [] [1001] Z (eC 1 Z Z ty71<|eE Z<|eN) (y1 Z)
def IJ (a0:UInt32) (O:Ae):Option (Ae × Int) :=
 KB a0>>=λM =>
 if M.2 != 0 then
  some ((⟨0,[],0,(⟨0,[],(⟨0,0,0,[]⟩:Az)⟩:AP),(⟨0,0⟩:AC)⟩:Ae),M.2)
 else
  DN O.Preds>>=λr6 =>
  Hk (⟨({ O with Author:=M.1 }).Author,r6,({ O with Author:=M.1 }).Stamp,({ O with Author:=M.1 }).Act,({ O with Author:=M.1 }).Sig⟩:Ae)>>=λU =>
  if U.2 != 0 then
   some ((⟨0,[],0,(⟨0,[],(⟨0,0,0,[]⟩:Az)⟩:AP),(⟨0,0⟩:AC)⟩:Ae),U.2)
  else
   N1 a0 U.1>>=λa2 =>
   some ({ (⟨({ O with Author:=M.1 }).Author,r6,({ O with Author:=M.1 }).Stamp,({ O with Author:=M.1 }).Act,({ O with Author:=M.1 }).Sig⟩:Ae) with Sig:=a2.1 },0)
theorem U9 (a0:UInt32) (M:Ae):Aj Tryz.prog 36 [.rd Aa a0,.rd Ad M] [Am] (IJ a0 M) (λr nv=>⟨[.rd Ad r.1,.rd A2 r.2],[(1001,some (.bool true,.glob 1 (Av 64 Aa) Bv))]⟩):=by
 refine Aq 41 func36 Z Z Z λH w=>?_;refine A0<|Eb Z (bx 1 Z) λv1=>Eb Z (AL 2 B4 (ZrE.rd (R:=Aa) (x:=0) (Zr.num Z) (ZrE.nilS (ZrE.rd (R:=Ao) (x:=0) (Zr.num Z) (ZrE.rd (R:=Ba) (x:=(⟨0,[],(⟨0,0,0,[]⟩:Az)⟩:AP)) CR (ZrE.rd (R:=Bc) (x:=(⟨0,0⟩:AC)) CM ZrE.nil Z) Z) Z)) Z)) λv2=>Zb Z<|A0<|Zm Z<|Zc [] [] func57 Z (U8 _) λO n4=>Zm Z<|Zq (ext Z Z)<|Zq (ext Z Z)<|Za Z<|Zb Z<|A9<|A0<|Zm Z<|Zq (I.neq Z Z)<|Zj Z (λh5=>?_) (λh5=>?_)
 ·refine A0<|Zq (CD [(0,1),(1,1),(2,1),(3,6),(9,2)] underlying73 B4 (ZrE.rd (R:=Aa) (x:=0) (Zr.num Z) (ZrE.nilS (ZrE.rd (R:=Ao) (x:=0) (Zr.num Z) (ZrE.rd (R:=Ba) (x:=(⟨0,[],(⟨0,0,0,[]⟩:Az)⟩:AP)) CR (ZrE.rd (R:=Bc) (x:=(⟨0,0⟩:AC)) CM ZrE.nil Z) Z) Z)) Z) Z (BQ.done Z))<|Zm Z<|Es (CE 2 Z Z (Af.cast (Af.cons BF (Af.cons Ay (Af.cons BF (Af.cons BF (Af.cons BF Af.nil))))) Z) Z (AZ.cons Do (AZ.cons Bo (AZ.cons Do (AZ.cons Do (AZ.cons Do AZ.nil))))) (Af.cast (Af.cons BF (Af.cons Ay (Af.cons BF (Af.cons BF (Af.cons BF Af.nil))))) Z) B4)<|Zb Z<|A5<|Ap<|C6 aZ [.rd Aa 0,.rd (A3 aZ) [],.rd Ao 0,.rd Ba (⟨0,[],(⟨0,0,0,[]⟩:Az)⟩:AP),.rd Bc (⟨0,0⟩:AC)] 2 [.rd Aa 0] [.rd Ao 0,.rd Ba (⟨0,[],(⟨0,0,0,[]⟩:Az)⟩:AP),.rd Bc (⟨0,0⟩:AC)] Z Z Z<|D0 (R:=Ad) (⟨0,[],0,(⟨0,[],(⟨0,0,0,[]⟩:Az)⟩:AP),(⟨0,0⟩:AC)⟩:Ae) 2 Z (Sp.via (Sp.prod (Sp.prod (Sp.prod (Sp.prod (Sp.prod Sp.unit))))))<|Bu [] [1001] Z (eC 2 Z Z Bz<|eE Z<|eN) (y1 Z)
 ·refine Zt<|A0<|Zm Z<|Zq (faB 1 Z Z underlying73 Z (by exact B2))<|Zq (ld 1 Z Z (fP (Cv _)) B8 Z)<|Zc [] [(100,3)] func25 Z (EM _) λU n7=>Zq (faB 1 Z Z underlying73 Z (by exact B0))<|Es (sto 1 Z Z (fP (Ex _)) Z B0)<|Zq (faB 1 Z Z underlying73 Z (by exact B2))<|lSpl (R:=Ad) 1 Z (Sp.via (Sp.prod (Sp.prod (Sp.prod (Sp.prod (Sp.prod Sp.unit))))))<|Es (Dp 1 Z Z (Bb.cast (Bb.next BF (Bb.here BF)) Z) Z Bo Ay B2)<|Zn<|A0<|lPow [.rd Aa (({ M with Author:=O.1 }).Author),.rd (A3 aZ) U,.rd Ao (({ M with Author:=O.1 }).Stamp),.rd Ba (({ M with Author:=O.1 }).Act),.rd Bc (({ M with Author:=O.1 }).Sig)] 1 3 [.rd Aa (({ M with Author:=O.1 }).Author)] [.rd Ao (({ M with Author:=O.1 }).Stamp),.rd Ba (({ M with Author:=O.1 }).Act),.rd Bc (({ M with Author:=O.1 }).Sig)] Z Z Z Z Z<|BC (R:=Ad) (⟨({ M with Author:=O.1 }).Author,U,({ M with Author:=O.1 }).Stamp,({ M with Author:=O.1 }).Act,({ M with Author:=O.1 }).Sig⟩:Ae) 1 Z (Sp.via (Sp.prod (Sp.prod (Sp.prod (Sp.prod (Sp.prod Sp.unit))))))<|Zq (ld 1 Z Z fH Bz Z)<|Zc [] [(100,4)] func58 Z (OA _) λr8 n9=>Zm Z<|Zq (ext Z Z)<|Zq (ext Z Z)<|Za Z<|Zb Z<|A9<|A0<|Zm Z<|Zq (I.neq Z Z)<|Zj Z (λa2=>?_) (λa2=>?_)
  ·refine A0<|Zq (CD [(0,1),(1,1),(2,1),(3,6),(9,2)] underlying73 B4 (ZrE.rd (R:=Aa) (x:=0) (Zr.num Z) (ZrE.nilS (ZrE.rd (R:=Ao) (x:=0) (Zr.num Z) (ZrE.rd (R:=Ba) (x:=(⟨0,[],(⟨0,0,0,[]⟩:Az)⟩:AP)) CR (ZrE.rd (R:=Bc) (x:=(⟨0,0⟩:AC)) CM ZrE.nil Z) Z) Z)) Z) Z (BQ.done Z))<|Zm Z<|Es (CE 2 Z Z (Af.cast (Af.cons BF (Af.cons Ay (Af.cons BF (Af.cons BF (Af.cons BF Af.nil))))) Z) Z (AZ.cons Do (AZ.cons Bo (AZ.cons Do (AZ.cons Do (AZ.cons Do AZ.nil))))) (Af.cast (Af.cons BF (Af.cons Ay (Af.cons BF (Af.cons BF (Af.cons BF Af.nil))))) Z) B4)<|Zb Z<|A5<|Ap<|C6 aZ [.rd Aa 0,.rd (A3 aZ) [],.rd Ao 0,.rd Ba (⟨0,[],(⟨0,0,0,[]⟩:Az)⟩:AP),.rd Bc (⟨0,0⟩:AC)] 2 [.rd Aa 0] [.rd Ao 0,.rd Ba (⟨0,[],(⟨0,0,0,[]⟩:Az)⟩:AP),.rd Bc (⟨0,0⟩:AC)] Z Z Z<|D0 (R:=Ad) (⟨0,[],0,(⟨0,[],(⟨0,0,0,[]⟩:Az)⟩:AP),(⟨0,0⟩:AC)⟩:Ae) 2 Z (Sp.via (Sp.prod (Sp.prod (Sp.prod (Sp.prod (Sp.prod Sp.unit))))))<|Bu [] [1001] Z (eC 2 Z Z Bz<|eE Z<|eN) (y1 Z)
  ·refine Zt<|A0<|Zm Z<|Zm Z<|BG 4 [27,8,35] Z (fS Z<|fS Z<|fS Z<|fN)<|Zc [1001] [] func59 Z (zum _ _) λa6 a7=>Zm Z<|Zq (ext Z Z)<|Zq (ext Z Z)<|Zq (faB 1 Z Z underlying73 Z (by exact CG))<|Es (sto 1 Z Z (fP (DF _)) Z CG)<|Zn<|A0<|Zq (ld 1 Z Z fH Bz Z)<|Bh aZ [.rd Aa 0,.rd (A3 aZ) [],.rd Ao 0,.rd Ba (⟨0,[],(⟨0,0,0,[]⟩:Az)⟩:AP),.rd Bc (⟨0,0⟩:AC)] 2 [.rd Aa 0] [.rd Ao 0,.rd Ba (⟨0,[],(⟨0,0,0,[]⟩:Az)⟩:AP),.rd Bc (⟨0,0⟩:AC)] Z Z Z<|BC (R:=Ad) (⟨0,[],0,(⟨0,[],(⟨0,0,0,[]⟩:Az)⟩:AP),(⟨0,0⟩:AC)⟩:Ae) 2 Z (Sp.via (Sp.prod (Sp.prod (Sp.prod (Sp.prod (Sp.prod Sp.unit))))))<|Es (sto 2 Z Z fH Z B4)<|Zb Z<|A5<|Bu [] [1001] Z (eC 2 Z Z Bz<|eE Z<|eN) (y1 Z)
end
section
def GP (v:Value) (n:Nat):Prop:=∃ b,v=.slice (some ⟨b,0,none⟩) n n
def AK.listF {α:Type} (R:Rep α) (T:TypeId) (l:List α):AK where
 nil _ _ _:=False
 nilm _ h:=h
 nilb h:=h.elim
 rel S w v o:=GP v l.length/\(AK.list R T l).rel S w v o
 mono k h:=⟨h.1,(AK.list R T l).mono k h.2⟩
theorem Ua {α:Type} {R:Rep α} {T:TypeId} {l:List α} {S:Blk} {w:World} {v:Value} (h:(AK.listF R T l).holds S w v):GP v l.length/\(AK.list R T l).holds S w v:=by
 rcases h with h | ⟨b,o,h1,h2,h3,M⟩
 ·exact h.elim
 ·exact⟨h3,.inr ⟨b,o,h1,h2,M⟩⟩
theorem Ub {α:Type} {R:Rep α} {T:TypeId} {l:List α} {S:Blk} {w:World} {v:Value} (hF:GP v l.length) (h:(AK.list R T l).holds S w v):(AK.listF R T l).holds S w v:=by
 rcases h with ⟨h,-⟩ | ⟨b,o,h1,h2,M⟩
 ·obtain⟨b,e⟩:=hF; rw[h] at e; cases e
 ·exact .inr ⟨b,o,h1,h2,hF,M⟩
section
variable {C:World->World->Prop} {ρ:Type} {P:Program} {Γ:Ctx} {l:AQ} {res:Res} {m:Option ρ} {os rest:List Oper} {N:ρ->Exit->Act->World->Prop}
 {d:Tmp} {ty:TypeId} {pos:String} {after:Array Edge} {g:Option (Nat × Bool)} {ro:Option Nat} {Q:ρ->Exit->Act->World->Prop} {c:Code} {e:Exit}
theorem xOpF {X:ρ->Act->World->Prop} {α:Type} {R:Rep α} {T:TypeId} {b:List α} {v:Value} (r:Nat) (M:lr res r=some (v,.listF R T b)) (k:GP v b.length->GX X (Sta Γ l ((r,some (v,.list R T b))::res)) m):GX X (Sta Γ l res) m:=λa w O =>
 k (Ua (O.conts _ _ _ M)).1 a w (O.recont r M λh=>(Ua h).2)
theorem xShF {X:ρ->Act->World->Prop} {α:Type} {R:Rep α} {T:TypeId} {b:List α} {v:Value} (r:Nat) (M:lr res r=some (v,.list R T b)) (hF:GP v b.length) (k:GX X (Sta Γ l ((r,some (v,.listF R T b))::res)) m):GX X (Sta Γ l res) m:=λa w O =>
 k a w (O.recont r M λh=>Ub hF h)
theorem lOpF {α:Type} {R:Rep α} {T:TypeId} {b:List α} {v:Value} (r:Nat) (M:lr res r=some (v,.listF R T b)) (k:GP v b.length->GL P os (Sta Γ l ((r,some (v,.list R T b))::res)) rest N m):GL P os (Sta Γ l res) rest N m:=xOpF r M k
theorem eShF {α:Type} {R:Rep α} {T:TypeId} {b:List α} {v:Value} (r:Nat) (M:lr res r=some (v,.list R T b)) (hF:GP v b.length) (k:GE (Sta Γ l ((r,some (v,.listF R T b))::res)) e Q m):GE (Sta Γ l res) e Q m:=xShF r M hF k
theorem z1e5 {α:Type} {R:Rep α} (b:List α) {n:Nat} (xs:List Operand) {parts:Array (Nat × Operand)} {z:Value} {T e:TypeId} {by_:Nat} (r:Nat) (hp:parts=(xs.zipIdx.map λx=>(x.2,x.1)).toArray) (hx:RdA l R xs b) (hl:b.length=n)
  (hT:P.underlying T=some (.slice e)) (hE:TI P e z R.sz by_) (O:Nat.blt 0 R.sz=true) (U:Nat.ble (n * R.sz) 16777216=true) :
  Eff P Γ l res ⟨some d,.buildSlice T n parts,ty,pos,after,g⟩ r (λu=>(u,.listF R e b)):=λa w ha=>by
 have O:0<R.sz:=Eq.mp Nat.blt_eq O;have U:n * R.sz<=16777216:=Nat.le_of_ble_eq_true U;subst hl;obtain⟨k1,k2,k3⟩:=RdA.get ha hx;have hc:Instr.fill (λi=>some (i * R.sz,R.sz)) (Gp z (b.length * R.sz)) ((xs.map a.eval).zipIdx.map λx=>(x.2,x.1))=some (Bd (xs.map a.eval)).toArray:=by
  have:=Lo (xs.map a.eval) 0 (Gp z (b.length * R.sz)) k3 (by simp[Gp,k2])
  simpa using this
 have a2:(parts.map λ(i,x)=>(i,a.eval x)).toList=(xs.map a.eval).zipIdx.map λx=>(x.2,x.1):=by
  subst hp;simp[List.zipIdx_map]
 have a1:=QK (P:=P) (w:=w) (m:=b.length) (vs:=parts.map λ(i,x)=>(i,a.eval x)) hT hE U (by rw[a2]; exact hc);have M:=k1.len;refine⟨w.alloc (.cells (Bd (xs.map a.eval)).toArray e),.slice (some ⟨w.heap.size,0,none⟩) b.length b.length,?_,?_,rfl,_,EJ w _, by simp⟩
 ·simp only[execOp,Sem.run_bind,a1,Result.andThen,Sem.run_pure]
 ·refine ha.upd r (c:=.listF R e b) (v:=.slice (some ⟨w.heap.size,0,none⟩) b.length b.length) (EJ w _) (by simp) (λbb a6=>.inr (by simp[AM] at a6; omega)) (λS' k'=>?_);refine Ub ⟨_,rfl⟩ (.inr ⟨w.heap.size,_,rfl,heap_alloc_new _ _,w.heap.size,b.length,_,rfl,rfl,Nat.le_refl _,?_, by simp[M],?_⟩)
  ·have:b.length<=b.length * R.sz:=Nat.le_mul_of_pos_right _ O
   unfold maxLen; omega
  ·simp only[];rw[<- M,List.take_length]; exact k1.mono k'
theorem litF {α:Type} {R:Rep α} (b:List α) {n:Nat} {parts:List (Nat × Operand)} {z:Value} {T e:TypeId} {by_:Nat} (r:Nat) (M:RdP l R 0 parts b) (hl:b.length=n)
  (hT:P.underlying T=some (.slice e)) (hE:TI P e z R.sz by_) (O:Nat.blt 0 R.sz=true) (U:Nat.ble (n * R.sz) 16777216=true) :
  Eff P Γ l res ⟨some d,.buildSlice T n parts.toArray,ty,pos,after,g⟩ r (λu=>(u,.listF R e b)):=by
 obtain⟨os,rfl,h2⟩:=M.get;exact z1e5 b os r rfl h2 hl hT hE O U
theorem apF {α:Type} {R:Rep α} {b U b3:List α} {x y:Operand} {v z:Value} {E:Ent} {T e:TypeId} {by_:Nat} (r r2:Nat) (hx:opE l x=some (.val v)) (hr:lr res r=some (v,.list R e b)) (hF:GP v b.length) (hy:opE l y=some E) (hv:Vw R res E U) (a1:Nat.blt 0 U.length=true) (hb:app by_ b U=some b3)
  (hT:P.underlying T=some (.slice e)) (hE:TI P e z R.sz by_) (hz:z.cells.size=R.sz) (h0:Nat.blt 0 R.sz=true) (h1:Nat.blt 0 by_=true) :
  Eff P Γ l res ⟨some d,.call ⟨.builtin .append,#[x,y],#[T,T]⟩,ty,pos,after,g⟩ r2 (λu=>(u,.list R e b3)):=λa w ha=>by
 have h0:0<R.sz:=Eq.mp Nat.blt_eq h0;have h1:0<by_:=Eq.mp Nat.blt_eq h1;have a1:0<U.length:=Eq.mp Nat.blt_eq a1;obtain⟨a2,rfl⟩:=QZ hb;have e1:=(ha.vl hx).1;obtain⟨q,c2,news,e2,k1,k2⟩:=hv.get ha (ha.vl hy);obtain⟨xs,k3,k4⟩:=EG (ha.conts r v _ hr);obtain⟨blk,rfl⟩:=hF;have ac:b.length+U.length<=140737488355328:=Nat.le_trans (Nat.le_mul_of_pos_right _ h1) a2;obtain⟨ti,g1,g2,g3,g4⟩:=hE;have k1l:=k1.1
 have a8:∀ j u,xs[j]? = some u->w.cell? ((⟨blk,0,none⟩:Addr).add j)=some u:=λj u hu=>by
  rcases (Rd.of_own k3).2 with ⟨O,-⟩ | ⟨b',o,sp,cap,O,_,_,a6,M⟩
  ·cases O
  ·simp only[Value.slice.injEq,true_and,Option.some.injEq,Addr.mk.injEq] at O;obtain⟨⟨rfl,rfl,rfl⟩,-⟩:=O;rw[D8];exact M j u hu
 rcases k1.2 with ⟨hq,-⟩ | ⟨b',o,sp,cap,hq,_,_,a6,M⟩
 ·simp only[Value.slice.injEq] at hq;omega
 ·simp only[Value.slice.injEq,true_and] at hq;obtain⟨rfl,rfl⟩:=hq;have aa:∀ j u,news[j]? = some u->w.cell? ((⟨b',o,sp⟩:Addr).add j)=some u:=λj u hu=>by
   rcases a6 with rfl | rfl
   ·simp at hu
   ·rw[D8]; exact M j u hu
  obtain⟨v',w',r1,r3,r4⟩:=run_append_arg_grows (P:=P) w T ty e ti z R.sz by_ hT g1 g2 g3 g4 hz h0 ⟨blk,0,none⟩ b.length b.length xs k3.1 a8 ⟨b',o,sp⟩ U.length c2 news k1l aa (by omega) (by unfold maxLen; omega) a2;have a7:v'.oneCell'=true/\∀ bb,AM v'=some bb->w.heap.size<=bb:=by
   rcases r3.2 with ⟨rfl,-⟩ | ⟨gg,cp,cur,rfl,ad,-⟩
   ·exact⟨rfl, λbb h=>by simp[AM] at h⟩
   ·exact⟨rfl, λbb h=>by simp only[AM,Option.some.injEq] at h; omega⟩
  refine⟨w',v',?_,?_,a7.1,_,r4, by simp⟩
  ·simp[execOp,resolve,invoke,builtin,e1,e2,r1]
  ·refine ha.upd r2 r4 (by simp) (λbb ab=>.inr (a7.2 bb ab)) (λS' k'=>?_);exact Lf (B:=w.heap.size) (xs:=xs++news) (by rw[List.length_append]; exact r3) ((k4.mono k').append (k2.mono k'))
end
end
section
def KC (a0:List UInt64) (M:(List Ae) × Int):Option (Sum (Sum (A4 × Bool) ((List Ae))) ((List Ae) × Int)) :=
 if decide (M.2<(a0.length:Int)) then
  idx a0 M.2>>=λx6 =>
  IJ 1 (⟨0,[],x6,(⟨1,[],(⟨0,0,0,[]⟩:Az)⟩:AP),(⟨0,0⟩:AC)⟩:Ae)>>=λO =>
  if O.2 != 0 then
   some (.inl (.inl ((⟨[],[]⟩:A4),false)))
  else
   app 112 M.1 [O.1]>>=λU =>
   some (w64 (M.2+1))>>=λa1 =>
   some (.inr (U,a1))
 else
  some (.inl (.inr M.1))
def EQ (a0:List UInt64):Option (A4 × Bool) :=
 Bi (iter (KC a0) ([],0)) λU =>
 Ko U>>=λM =>
 if M.2==0 then
  some ((M.1.IDs.length:Int)==(a0.length:Int))>>=λO =>
  some (M.1,O)
 else
  some (M.1,false)
theorem Pb (a0:List UInt64):Aj Tryz.prog 16 [.rd (A3 Ao) a0] [Am] (EQ a0) (λr M=>⟨[.rd A8 r.1,.rd Ai r.2],[(1001,some (.bool true,.glob 1 (Av 64 Aa) Bv))]⟩):=by
 refine Aq 49 func16 Z Z Z λH w=>?_;refine A0<|Eb Z (AL 1 Aw (ZrE.nilS (ZrE.nilS ZrE.nil))) λv1=>Zb Z<|A0<|Zb Z<|Bt (λ(s2:(List Ae)) O U=>∃ M:Nat->Value,Sta (ctx 49 H [Am] w) [(0,.rd (A3 Ao) a0),(2,.val (A7 v1 0)),(4,.val (M 0))] [(1,some (v1,.box 34 [.val (.slice none 0 0),.val (.slice none 0 0)])),(4,some ((M 0),.list Ad 73 s2)),Am] O U) ?_ (λs2=>?_)
 ·refine A0<|Zb Z<|DB Ad 73 1103<|AJ (λ(s3:(List Ae) × Int) O U=>∃ M:Nat->Value,Sta (ctx 49 H [Am] w) [(0,.rd (A3 Ao) a0),(2,.val (A7 v1 0)),(4,.val (M 0)),(5,.rd A2 s3.2)] [(1,some (v1,.box 34 [.val (.slice none 0 0),.val (.slice none 0 0)])),(1102,some ((M 0),.list Ad 73 s3.1)),Am] O U) (λO U h=>⟨nvl [(.slice none 0 0)],Zu h [1,1103,1001]⟩) (λs3=>?_);refine gEx λn4=>A9<|A0<|Zm Z<|Zm Z<|Zq (Ar Z .rd Z underlying85)<|Zq (I.lss Z Z)<|Zj Z (λh5=>?_) (λh5=>?_)
  ·refine Zt<|A9<|AD<|A0<|Zm Z<|Zm Z<|An λx6 h7=>Zq (ixR Z Z h7 underlying85 CJ Z)<|Zq (ldR Z CU)<|Zq (bld (x':=(⟨1,[],(⟨0,0,0,[]⟩:Az)⟩:AP)) [(0,1),(1,1),(2,4)] underlying69 CP Z CR Z (Bld.cons (EX _) Z Z<|Bld.done Z))<|Zq (bld (x':=(⟨0,[],x6,(⟨1,[],(⟨0,0,0,[]⟩:Az)⟩:AP),(⟨0,0⟩:AC)⟩:Ae)) [(0,1),(1,1),(2,1),(3,6),(9,2)] underlying73 B4 Z Lx Z (Bld.cons (EK _) Z Z<|Bld.cons (D4 _) Z Z<|Bld.done Z))<|Zc [1001] [] func36 Z (U9 _ _) λr8 n9=>Zm Z<|Zq (ext Z Z)<|Zq (ext Z Z)<|Eb Z (AL 1104 B4 (ZrE.rd (R:=Aa) (x:=0) (Zr.num Z) (ZrE.nilS (ZrE.rd (R:=Ao) (x:=0) (Zr.num Z) (ZrE.rd (R:=Ba) (x:=(⟨0,[],(⟨0,0,0,[]⟩:Az)⟩:AP)) CR (ZrE.rd (R:=Bc) (x:=(⟨0,0⟩:AC)) CM ZrE.nil Z) Z) Z)) Z)) λa8=>Bh aZ [.rd Aa 0,.rd (A3 aZ) [],.rd Ao 0,.rd Ba (⟨0,[],(⟨0,0,0,[]⟩:Az)⟩:AP),.rd Bc (⟨0,0⟩:AC)] 1104 [.rd Aa 0] [.rd Ao 0,.rd Ba (⟨0,[],(⟨0,0,0,[]⟩:Az)⟩:AP),.rd Bc (⟨0,0⟩:AC)] Z Z Z<|BC (R:=Ad) (⟨0,[],0,(⟨0,[],(⟨0,0,0,[]⟩:Az)⟩:AP),(⟨0,0⟩:AC)⟩:Ae) 1104 Z (Sp.via (Sp.prod (Sp.prod (Sp.prod (Sp.prod (Sp.prod Sp.unit))))))<|Es (sto 1104 Z Z fH Z B4)<|Zb Z<|A9<|A0<|Zm Z<|Zq (I.neq Z Z)<|Zj Z (λa2=>?_) (λa2=>?_)
   ·refine A0<|Zq (CD [(0,1),(1,1)] underlying34 Aw (ZrE.nilS (ZrE.nilS ZrE.nil)) Z (BQ.done Z))<|Es (CE 1 Z Z (Af.cast (Af.cons Ay (Af.cons Ay Af.nil)) Z) Z (AZ.cons Bo (AZ.cons Bo AZ.nil)) (Af.cast (Af.cons Ay (Af.cons Ay Af.nil)) Z) Aw)<|Zb Z<|A5<|Ap<|B7<|Ap<|Bp<|Bl<|C6 aZ [.rd (A3 aZ) [],.val (.slice none 0 0)] 1 [] [.val (.slice none 0 0)] Z Z Z<|C6 Ad [.rd (A3 aZ) [],.rd (A3 Ad) []] 1 [.rd (A3 aZ) []] [] Z Z Z<|D0 (R:=A8) (⟨[],[]⟩:A4) 1 Z (Sp.via (Sp.prod (Sp.prod Sp.unit)))<|Bu [] [1001] Z (eC 1 Z Z AH<|eE Z<|eN) (y1 Z)
   ·refine Zt<|Al<|Zm Z<|Zq (ld 1104 Z Z fH Bz Z)<|Ef Z (lit (R:=Ad) ([r8.1]:List Ae) 1105 (pP Z Z<|pN) Z tu32 B4 Z Z) λab=>BG 1105 [31] Z (fS Z<|fN)<|An λac a6=>Ef Z (apn 1102 Z Z Z .rd a6 tu32 B4 Z Z Z) λa7=>Za Z<|Ah<|Au<|Ak<|Al<|Zm Z<|Zq (I.add Z Z)<|Za Z<|AR 5 Z λad=>Ah<|AB (λO U h=>⟨nvl [a7],Zu h [1,1102,1001]⟩)
  ·refine AF<|AG<|AI<|Bk (λO U h=>⟨nvl [(n4 0)],Zu h [1,1102,1001]⟩)
 ·refine gEx λae=>A0<|Zm Z<|BG 4 [4,34] Z (fS Z<|fS Z<|fN)<|Zc [1001] [] func37 Z (TZ _) λaf ah=>Zm Z<|Zq (ext Z Z)<|Zq (ext Z Z)<|Eb Z (AL 1106 Aw (ZrE.nilS (ZrE.nilS ZrE.nil))) λai=>Bh aZ [.rd (A3 aZ) [],.val (.slice none 0 0)] 1106 [] [.val (.slice none 0 0)] Z Z Z<|Bh Ad [.rd (A3 aZ) [],.rd (A3 Ad) []] 1106 [.rd (A3 aZ) []] [] Z Z Z<|BC (R:=A8) (⟨[],[]⟩:A4) 1106 Z (Sp.via (Sp.prod (Sp.prod Sp.unit)))<|Es (sto 1106 Z Z fH Z Aw)<|Zb Z<|A9<|BK [1] mixed Z Z<|A6 0 Z Z (ld 1106 Z Z fH AH Z)<|A6 1 Z Z (mv Z)<|A6 2 Z Z (I.eql Z Z)<|A6 3 Z Z (mv Z)<|hIf 41 Z Z (λa1=>?_) (λa1=>?_)
  ·refine hKn 40 Z Z a1<|Zg 4 Z Z (faB 1106 Z Z underlying34 Z (by exact B2))<|Zg 5 Z Z (ld 1106 Z Z (fP (BT _)) B8 Z)<|Zg 6 Z Z (Ar Z .rd Z tu31)<|Zg 7 Z Z (mv Z)<|Zg 8 Z Z (Ar Z .rd Z underlying85)<|Zg 9 Z Z (I.eql Z Z)<|A6 10 Z Z (pkT Z Z)<|DE aZ [.rd (A3 aZ) [],.val (.slice none 0 0)] 1 [] [.val (.slice none 0 0)] Z Z Z<|DE Ad [.rd (A3 aZ) [],.rd (A3 Ad) []] 1 [.rd (A3 aZ) []] [] Z Z Z<|hJoi (R:=A8) (⟨[],[]⟩:A4) 1 Z (Sp.via (Sp.prod (Sp.prod Sp.unit)))<|Zp 11 Z Z Z Z Z (sto 1 Z Z fH Z Aw)<|A6 12 Z Z (asg Z)<|Ha 3 Z Z λaj=>Bg (by kernel_rfl)<|Ak<|A5<|Bu [] [1001] Z (eC 1 Z Z AH<|eE Z<|eN) (y1 Z)
  ·refine hKn 40 Z Z a1<|hSk 4 Z Z<|hSk 5 Z Z<|hSk 6 Z Z<|hSk 7 Z Z<|hSk 8 Z Z<|hSk 9 Z Z<|A6 10 Z Z (pkF Z Z)<|DE aZ [.rd (A3 aZ) [],.val (.slice none 0 0)] 1 [] [.val (.slice none 0 0)] Z Z Z<|DE Ad [.rd (A3 aZ) [],.rd (A3 Ad) []] 1 [.rd (A3 aZ) []] [] Z Z Z<|hJoi (R:=A8) (⟨[],[]⟩:A4) 1 Z (Sp.via (Sp.prod (Sp.prod Sp.unit)))<|Zp 11 Z Z Z Z Z (sto 1 Z Z fH Z Aw)<|A6 12 Z Z (asg Z)<|Bg (by kernel_rfl)<|Ak<|A5<|Bu [] [1001] Z (eC 1 Z Z AH<|eE Z<|eN) (y1 Z)
def N2  : Option ((List A4) × Bool) :=
 EQ [1]>>=λO =>
 EQ [2]>>=λU =>
 EQ [3]>>=λM =>
 if O.2 then
  if U.2 then
   some ([O.1,U.1,M.1],M.2)
  else
   some ([O.1,U.1,M.1],false)
 else
  some ([O.1,U.1,M.1],false)
theorem zl6  : Aj Tryz.prog 13 [] [Am] (N2) (λr nv=>⟨[.val (nv 0),.rd Ai r.2],[(1001,some (.bool true,.glob 1 (Av 64 Aa) Bv)),(100,some (nv 0,.listF A8 34 r.1))]⟩):=by
 refine Aq 34 func13 Z Z Z λH w=>?_;refine A0<|Za Z<|Zb Z<|A0<|Ef Z (lit (R:=Ao) ([1]:List UInt64) 1 (pP Z Z<|pN) Z underlying85 CJ Z Z) λv1=>BG 1 [9] Z (fS Z<|fN)<|Zc [1001] [] func16 Z (Pb _) λr2 n3=>Zm Z<|Zq (ext Z Z)<|Zq (ext Z Z)<|Eb Z (AL 2 Aw (ZrE.nilS (ZrE.nilS ZrE.nil))) λv4=>Bh aZ [.rd (A3 aZ) [],.val (.slice none 0 0)] 2 [] [.val (.slice none 0 0)] Z Z Z<|Bh Ad [.rd (A3 aZ) [],.rd (A3 Ad) []] 2 [.rd (A3 aZ) []] [] Z Z Z<|BC (R:=A8) (⟨[],[]⟩:A4) 2 Z (Sp.via (Sp.prod (Sp.prod Sp.unit)))<|Es (sto 2 Z Z fH Z Aw)<|Zb Z<|A0<|Ef Z (lit (R:=Ao) ([2]:List UInt64) 3 (pP Z Z<|pN) Z underlying85 CJ Z Z) λv5=>BG 3 [14] Z (fS Z<|fN)<|Zc [1001] [] func16 Z (Pb _) λr6 n7=>Zm Z<|Zq (ext Z Z)<|Zq (ext Z Z)<|Eb Z (AL 4 Aw (ZrE.nilS (ZrE.nilS ZrE.nil))) λv8=>Bh aZ [.rd (A3 aZ) [],.val (.slice none 0 0)] 4 [] [.val (.slice none 0 0)] Z Z Z<|Bh Ad [.rd (A3 aZ) [],.rd (A3 Ad) []] 4 [.rd (A3 aZ) []] [] Z Z Z<|BC (R:=A8) (⟨[],[]⟩:A4) 4 Z (Sp.via (Sp.prod (Sp.prod Sp.unit)))<|Es (sto 4 Z Z fH Z Aw)<|Zb Z<|A0<|Ef Z (lit (R:=Ao) ([3]:List UInt64) 5 (pP Z Z<|pN) Z underlying85 CJ Z Z) λv9=>BG 5 [19] Z (fS Z<|fN)<|Zc [1001] [] func16 Z (Pb _) λa1 a2=>Zm Z<|Zq (ext Z Z)<|Zq (ext Z Z)<|Eb Z (AL 6 Aw (ZrE.nilS (ZrE.nilS ZrE.nil))) λa6=>Bh aZ [.rd (A3 aZ) [],.val (.slice none 0 0)] 6 [] [.val (.slice none 0 0)] Z Z Z<|Bh Ad [.rd (A3 aZ) [],.rd (A3 Ad) []] 6 [.rd (A3 aZ) []] [] Z Z Z<|BC (R:=A8) (⟨[],[]⟩:A4) 6 Z (Sp.via (Sp.prod (Sp.prod Sp.unit)))<|Es (sto 6 Z Z fH Z Aw)<|Zb Z<|A0<|Zq (ld 2 Z Z fH AH Z)<|Zq (ld 4 Z Z fH AH Z)<|Zq (ld 6 Z Z fH AH Z)<|Ef Z (litF (R:=A8) ([r2.1,r6.1,a1.1]:List A4) 7 (pP Z Z<|pP Z Z<|pP Z Z<|pN) Z tu22 Aw Z Z) λU=>lOpF 7 Z λhF14=>Zm Z<|Zm Z<|AY 28 Z (λO=>?_) (λO=>?_)
 ·refine Ac 12 Z O<|Ac 3 Z O<|Ac 27 Z O<|Ab Zx Z Z (mv Z)<|Zq (pkT Z Z)<|Zm Z<|AY 31 Z (λM=>?_) (λM=>?_)
  ·refine Ac 17 Z M<|Ac 5 Z M<|Ac 29 Z M<|Ac 30 Z M<|Ab Zx Z Z (mv Z)<|Zq (pkT Z Z)<|Za Z<|Zb Z<|A5<|eShF 7 Z hF14<|Ze [U] [1001,7] Z
  ·refine Ac 17 Z M<|Ac 5 Z M<|Ac 29 Z M<|Ac 30 Z M<|Zk Z<|Zq (pkF Z Z)<|Za Z<|Zb Z<|A5<|eShF 7 Z hF14<|Ze [U] [1001,7] Z
 ·refine Ac 12 Z O<|Ac 3 Z O<|Ac 27 Z O<|Zk Z<|Zq (pkF Z Z)<|Zm Z<|Zk Z<|Zq (pkF Z Z)<|Za Z<|Zb Z<|A5<|eShF 7 Z hF14<|Ze [U] [1001,7] Z
def IK (a0:Ae) (M:Ae):Option (Bool) :=
 if a0.Author==M.Author then
  if a0.Stamp==M.Stamp then
   if decide (a0.Act=M.Act) then
    if decide (a0.Sig=M.Sig) then
     GK a0.Preds M.Preds>>=λO =>
     some O
    else
     some false
   else
    some false
  else
   some false
 else
  some false
theorem Uc (a0:Ae) (a1:Ae):Aj Tryz.prog 54 [.rd Ad a0,.rd Ad a1] [] (IK a0 a1) (λr nv=>⟨[.rd Ai r],[]⟩):=by
 refine Aq 38 func54 Z Z Z λH w=>?_;refine A0<|Eb Z (bx 1 Z) λv1=>Eb Z (bx 2 Z) λv2=>Zb Z<|A0<|Zq (faB 1 Z Z underlying73 Z (by exact B0))<|Zq (ld 1 Z Z (fP (Ex _)) Be Z)<|Zq (faB 2 Z Z underlying73 Z (by exact B0))<|Zq (ld 2 Z Z (fP (Ex _)) Be Z)<|Zq (W.eql Z Z)<|Zm Z<|AY 10 Z (λh3=>?_) (λh3=>?_)
 ·refine Ac 9 Z h3<|Ab Zx Z Z (faB 1 Z Z underlying73 Z (by exact CJ))<|Ab Zx Z Z (ld 1 Z Z (fP (EK _)) CU Z)<|Ab Zx Z Z (faB 2 Z Z underlying73 Z (by exact CJ))<|Ab Zx Z Z (ld 2 Z Z (fP (EK _)) CU Z)<|Ab Zx Z Z (U.eql Z Z)<|Zq (pkT Z Z)<|Zm Z<|AY 17 Z (λM=>?_) (λM=>?_)
  ·refine Ac 15 Z M<|Ac 16 Z M<|Ab Zx Z Z (faB 1 Z Z underlying73 Z (by exact CP))<|Ab Zx Z Z (ld 1 Z Z (fP (D4 _)) ty69 Z)<|Ab Zx Z Z (faB 2 Z Z underlying73 Z (by exact CP))<|Ab Zx Z Z (ld 2 Z Z (fP (D4 _)) ty69 Z)<|Ab Zx Z Z (eqA Z Z eq69 Z Z gq69)<|Zq (pkT Z Z)<|Zm Z<|AY 24 Z (λO=>?_) (λO=>?_)
   ·refine Ac 22 Z O<|Ac 23 Z O<|Ab Zx Z Z (faB 1 Z Z underlying73 Z (by exact CG))<|Ab Zx Z Z (ld 1 Z Z (fP (DF _)) ty71 Z)<|Ab Zx Z Z (faB 2 Z Z underlying73 Z (by exact CG))<|Ab Zx Z Z (ld 2 Z Z (fP (DF _)) ty71 Z)<|Ab Zx Z Z (eqA Z Z eq71 Z Z gq71)<|Zq (pkT Z Z)<|Zm Z<|AY 31 Z (λh6=>?_) (λh6=>?_)
    ·refine Ac 29 Z h6<|Ac 30 Z h6<|Ab Zx Z Z (faB 1 Z Z underlying73 Z (by exact B2))<|Ab Zx Z Z (ld 1 Z Z (fP (Cv _)) B8 Z)<|Ab Zx Z Z (faB 2 Z Z underlying73 Z (by exact B2))<|Ab Zx Z Z (ld 2 Z Z (fP (Cv _)) B8 Z)<|CH [] [] Zx Z func45 Z Z (P5 _ _) (Y2 Z Z) rN λr7 n8=>Zq (pkT Z Z)<|Zb Z<|A5<|Ze [] [] Z
    ·refine Ac 29 Z h6<|Ac 30 Z h6<|Zk Z<|Zk Z<|Zk Z<|Zk Z<|Zk Z<|Zq (pkF Z Z)<|Zb Z<|A5<|Ze [] [] Z
   ·refine Ac 22 Z O<|Ac 23 Z O<|Zk Z<|Zk Z<|Zk Z<|Zk Z<|Zk Z<|Zq (pkF Z Z)<|Zm Z<|Zk Z<|Zk Z<|Zk Z<|Zk Z<|Zk Z<|Zq (pkF Z Z)<|Zb Z<|A5<|Ze [] [] Z
  ·refine Ac 15 Z M<|Ac 16 Z M<|Zk Z<|Zk Z<|Zk Z<|Zk Z<|Zk Z<|Zq (pkF Z Z)<|Zm Z<|Zk Z<|Zk Z<|Zk Z<|Zk Z<|Zk Z<|Zq (pkF Z Z)<|Zm Z<|Zk Z<|Zk Z<|Zk Z<|Zk Z<|Zk Z<|Zq (pkF Z Z)<|Zb Z<|A5<|Ze [] [] Z
 ·refine Ac 9 Z h3<|Zk Z<|Zk Z<|Zk Z<|Zk Z<|Zk Z<|Zq (pkF Z Z)<|Zm Z<|Zk Z<|Zk Z<|Zk Z<|Zk Z<|Zk Z<|Zq (pkF Z Z)<|Zm Z<|Zk Z<|Zk Z<|Zk Z<|Zk Z<|Zk Z<|Zq (pkF Z Z)<|Zm Z<|Zk Z<|Zk Z<|Zk Z<|Zk Z<|Zk Z<|Zq (pkF Z Z)<|Zb Z<|A5<|Ze [] [] Z
def IL (a0:List A4) (M:Int):Option (Sum (Sum Int Unit) Int) :=
 if decide (M<(a0.length:Int)) then
  idx a0 M>>=λU =>
  Cb U>>=λO =>
  if O != 0 then
   some (.inl (.inl O))
  else
   some (.inr (w64 (M+1)))
 else
  some (.inl (.inr ()))
def HB (O:A4) (M:(List (V3 × Ae)) × Int):Option (Sum (Sum (Sum (Sum Int Unit) ((List (V3 × Ae)) × Int)) ((List (V3 × Ae)))) ((List (V3 × Ae)) × Int)) :=
 if decide (M.2<(O.IDs.length:Int)) then
  idx O.IDs M.2>>=λU =>
  Bi (some ((C7 M.1 U).isSome)>>=λa1 =>
  if a1 then
   idx O.Ops M.2>>=λa2 =>
   IK ((C7 M.1 U).getD (⟨0,[],0,(⟨0,[],(⟨0,0,0,[]⟩:Az)⟩:AP),(⟨0,0⟩:AC)⟩:Ae)) a2>>=λa6 =>
   if !a6 then
    some (.inl (.inl (.inl (.inl (.inl 14)))))
   else
    some (.inr ())
  else
   some (.inr ())) λa8 =>
  idx O.Ops M.2>>=λa7 =>
  some (.inr (Du M.1 U a7,w64 (M.2+1)))
 else
  some (.inl (.inr M.1))
def KD (a0:List A4) (M:(List (V3 × Ae)) × Int):Option (Sum (Sum Int Unit) ((List (V3 × Ae)) × Int)) :=
 if decide (M.2<(a0.length:Int)) then
  Bi (idx a0 M.2>>=λO =>
  iter (HB O) (M.1,0)) λU =>
  some (.inr (U,w64 (M.2+1)))
 else
  some (.inl (.inr ()))
def Fc (a0:List A4):Option (Int) :=
 if decide (5<(a0.length:Int)) then
  some 4
 else
  Bi (iter (IL a0) 0) λs2 =>
  Bi (iter (KD a0) (([]:List (V3 × Ae)),0)) λa1 =>
  some 0
theorem zmw (a0:List A4):Aj Tryz.prog 31 [.rd (A3 A8) a0] [Am] (Fc a0) (λr nv=>⟨[.rd A2 r],[(1001,some (.bool true,.glob 1 (Av 64 Aa) Bv))]⟩):=by
 refine Aq 69 func31 Z Z Z λH w=>?_;refine A0<|Zb Z<|A9<|A0<|Zm Z<|Zq (Ar Z .rd Z tu22)<|Zq (I.gtr Z Z)<|Zj Z (λh1=>?_) (λh1=>?_)
 ·refine A0<|Zb Z<|A5<|Ap<|Ze [] [1001] Z
 ·refine Zt<|Bt (λ(s2:Unit) M O=>Sta (ctx 69 H [Am] w) [(0,.rd (A3 A8) a0)] [Am] M O) ?_ (λs2=>?_)
  ·refine A0<|Zm Z<|Zq (Ar Z .rd Z tu22)<|Zm Z<|Zn<|AJ (λ(s3:Int) M O=>Sta (ctx 69 H [Am] w) [(0,.rd (A3 A8) a0),(16,.rd (A3 A8) a0),(17,.rd A2 (a0.length:Int)),(18,.rd A2 s3)] [Am] M O) (λM O h=>Zu h [1001]) (λs3=>?_);refine A0<|Zq (I.lss Z Z)<|Zn<|A9<|gIf Z Z (λh4=>?_) (λh4=>?_)
   ·refine Zt<|A9<|AD<|A0<|An λx5 h6=>Zq (ixR Z Z h6 tu22 Aw Z)<|Zq (ldR Z AH)<|Eb Z (AL 1100 Aw (ZrE.nilS (ZrE.nilS ZrE.nil))) λv7=>Bh aZ [.rd (A3 aZ) [],.val (.slice none 0 0)] 1100 [] [.val (.slice none 0 0)] Z Z Z<|Bh Ad [.rd (A3 aZ) [],.rd (A3 Ad) []] 1100 [.rd (A3 aZ) []] [] Z Z Z<|BC (R:=A8) (⟨[],[]⟩:A4) 1100 Z (Sp.via (Sp.prod (Sp.prod Sp.unit)))<|Es (sto 1100 Z Z fH Z Aw)<|Zn<|A0<|Zq (ld 1100 Z Z fH AH Z)<|Zc [1001] [] func42 Z (GD _) λr8 n9=>Zb Z<|A0<|Zm Z<|Zq (I.neq Z Z)<|Zj Z (λae=>?_) (λae=>?_)
    ·refine A0<|Zm Z<|Zb Z<|A5<|B7<|Ap<|Bp<|Bl<|Ze [] [1001] Z
    ·refine AU<|Au<|Ak<|Al<|Zq (I.add Z Z)<|Zm Z<|Ah<|AB (λM O h=>Zu h [1001])
   ·refine AF<|AG<|AI<|Bk (λM O h=>Zu h [1001])
  ·refine A0<|Ef Z (mkm aZ Ad 1101 (Or.inl Z) underlying107) λU=>Zb Z<|Bt (λ(af:Unit) M O=>Sta (ctx 69 H [Am] w) [] [Am] M O) ?_ (λaf=>?_)
   ·refine A0<|Zm Z<|Zq (Ar Z .rd Z tu22)<|Zm Z<|Zn<|AJ (λ(a1:(List (V3 × Ae)) × Int) M O=>Sta (ctx 69 H [Am] w) [(6,.val U),(29,.rd (A3 A8) a0),(30,.rd A2 (a0.length:Int)),(31,.rd A2 a1.2)] [(1101,some (U,.map aZ Ad a1.1)),Am] M O) (λM O h=>Zu h [1101,1001]) (λa1=>?_);refine A0<|Zq (I.lss Z Z)<|Zn<|A9<|gIf Z Z (λah=>?_) (λah=>?_)
    ·refine Zt<|Bt (λ(ac:(List (V3 × Ae))) M O=>Sta (ctx 69 H [Am] w) [(6,.val U),(29,.rd (A3 A8) a0),(30,.rd A2 (a0.length:Int)),(31,.rd A2 a1.2)] [(1101,some (U,.map aZ Ad ac)),Am] M O) ?_ (λac=>?_)
     ·refine AD<|A0<|An λa2 ai=>Zq (ixR Z Z ai tu22 Aw Z)<|Zq (ldR Z AH)<|Eb Z (AL 1102 Aw (ZrE.nilS (ZrE.nilS ZrE.nil))) λa8=>Bh aZ [.rd (A3 aZ) [],.val (.slice none 0 0)] 1102 [] [.val (.slice none 0 0)] Z Z Z<|Bh Ad [.rd (A3 aZ) [],.rd (A3 Ad) []] 1102 [.rd (A3 aZ) []] [] Z Z Z<|BC (R:=A8) (⟨[],[]⟩:A4) 1102 Z (Sp.via (Sp.prod (Sp.prod Sp.unit)))<|Es (sto 1102 Z Z fH Z Aw)<|Zn<|A0<|Zq (faB 1102 Z Z underlying34 Z (by exact B2))<|Zq (ld 1102 Z Z (fP (BT _)) B8 Z)<|Zq (Ar Z .rd Z tu31)<|Zm Z<|Zn<|AJ (λ(a6:(List (V3 × Ae)) × Int) M O=>Sta (ctx 69 H [Am] w) [(6,.val U),(8,.val (A7 a8 0)),(29,.rd (A3 A8) a0),(30,.rd A2 (a0.length:Int)),(31,.rd A2 a1.2),(36,.rd (A3 aZ) a2.IDs),(37,.rd A2 (a2.IDs.length:Int)),(38,.rd A2 a6.2)] [(1101,some (U,.map aZ Ad a6.1)),(1102,some (a8,.box 34 [.rd A8 a2])),Am] M O) (λM O h=>Zu h [1101,1102,1001]) (λa6=>?_)
      refine A0<|Zq (I.lss Z Z)<|Zn<|A9<|gIf Z Z (λaj=>?_) (λaj=>?_)
      ·refine Zt<|A9<|AD<|A0<|Zm Z<|An λak am=>Zq (ixR Z Z am tu31 Ax Z)<|Zq (ldR Z AN)<|Eb Z (AL 1103 Ax (.zr (R:=aZ) (x:=(Vector.replicate 32 0)) C0)) λad=>Za Z<|Es (sto 1103 Z Z fH Z Ax)<|Zn<|Bt (λ(ao:Unit) M O=>Sta (ctx 69 H [Am] w) [(6,.val U),(8,.val (A7 a8 0)),(9,.rd A2 a6.2),(10,.val (A7 ad 0)),(29,.rd (A3 A8) a0),(30,.rd A2 (a0.length:Int)),(31,.rd A2 a1.2),(36,.rd (A3 aZ) a2.IDs),(37,.rd A2 (a2.IDs.length:Int)),(38,.rd A2 a6.2)] [(1101,some (U,.map aZ Ad a6.1)),(1102,some (a8,.box 34 [.rd A8 a2])),(1103,some (ad,.box 61 [.rd aZ ak])),Am] M O) ?_ (λao=>?_)
       ·refine A0<|Zm Z<|Zq (ld 1103 Z Z fH AN Z)<|Zq (mlk2 Z (.own 1101 Z Z) Z ky61 underlying107 B4 Lx Z)<|Zm Z<|Zq (ext Z Z)<|Zq (ext Z Z)<|Eb Z (AL 1104 B4 (ZrE.rd (R:=Aa) (x:=0) (Zr.num Z) (ZrE.nilS (ZrE.rd (R:=Ao) (x:=0) (Zr.num Z) (ZrE.rd (R:=Ba) (x:=(⟨0,[],(⟨0,0,0,[]⟩:Az)⟩:AP)) CR (ZrE.rd (R:=Bc) (x:=(⟨0,0⟩:AC)) CM ZrE.nil Z) Z) Z)) Z)) λv25=>Bh aZ [.rd Aa 0,.rd (A3 aZ) [],.rd Ao 0,.rd Ba (⟨0,[],(⟨0,0,0,[]⟩:Az)⟩:AP),.rd Bc (⟨0,0⟩:AC)] 1104 [.rd Aa 0] [.rd Ao 0,.rd Ba (⟨0,[],(⟨0,0,0,[]⟩:Az)⟩:AP),.rd Bc (⟨0,0⟩:AC)] Z Z Z<|BC (R:=Ad) (⟨0,[],0,(⟨0,[],(⟨0,0,0,[]⟩:Az)⟩:AP),(⟨0,0⟩:AC)⟩:Ae) 1104 Z (Sp.via (Sp.prod (Sp.prod (Sp.prod (Sp.prod (Sp.prod Sp.unit))))))<|Es (sto 1104 Z Z fH Z B4)<|Za Z<|AR 12 Z λar=>Zn<|A9<|BK [] mixed Z Z<|A6 0 Z Z (mv Z)<|A6 1 Z Z (mv Z)<|hIf 50 Z Z (λa7=>?_) (λa7=>?_)
        ·refine hKn 12 Z Z a7<|hKn 49 Z Z a7<|Zg 2 Z Z (ld 1104 Z Z fH Bz Z)<|Zg 3 Z Z (faB 1102 Z Z underlying34 Z (by exact Bq))<|Zg 4 Z Z (ld 1102 Z Z (fP (BN _)) BL Z)<|Zg 5 Z Z (mv Z)<|BA λav ap=>Zg 6 Z Z (ixR Z Z ap tu32 B4 Z)<|Zg 7 Z Z (ldR Z Bz)<|BH 8 [] [] Z (by kernel_rfl) Z Zx Z func54 Z Z (Uc _ _) (Y2 Z Z) rN Z (λ_ _=>DD) λaw ax=>Zg 9 Z Z (By Z)<|A6 10 Z Z (pkT Z Z)<|Bg (by kernel_rfl)<|Ak<|gIf Z Z (λab=>?_) (λab=>?_)
         ·refine gKn 58 Z ab<|A0<|Zb Z<|A5<|Bl<|B7<|Ap<|Bp<|B7<|Bl<|Bp<|Bl<|Ze [] [1001] Z
         ·refine gKn 58 Z ab<|AU<|Bk (λM O h=>Zu h [1101,1102,1103,1001])
        ·refine hKn 12 Z Z a7<|hKn 49 Z Z a7<|hSk 2 Z Z<|hSk 3 Z Z<|hSk 4 Z Z<|hSk 5 Z Z<|hSk 6 Z Z<|hSk 7 Z Z<|hSk 8 Z Z<|hSk 9 Z Z<|A6 10 Z Z (pkF Z Z)<|Bg (by kernel_rfl)<|Ak<|DL Z<|AU<|Bk (λM O h=>Zu h [1101,1102,1103,1001])
       ·refine BK [1101] mixed Z Z<|A6 0 Z Z (mv Z)<|A6 1 Z Z (ld 1103 Z Z fH AN Z)<|A6 2 Z Z (faB 1102 Z Z underlying34 Z (by exact Bq))<|A6 3 Z Z (ld 1102 Z Z (fP (BN _)) BL Z)<|A6 4 Z Z (mv Z)<|BA λay aq=>A6 5 Z Z (ixR Z Z aq tu32 B4 Z)<|A6 6 Z Z (ldR Z Bz)<|Zp 7 Z Z Z Z Z (mup 1101 Z Z Z Z ky61 underlying107)<|Bg (by kernel_rfl)<|Au<|Ak<|Al<|Zq (I.add Z Z)<|Zm Z<|Ah<|AB (λM O h=>Zu h [1101,1102,1001])
      ·refine AF<|AG<|AI<|Au<|Bk (λM O h=>Zu h [1101,1001])
     ·refine Al<|Zq (I.add Z Z)<|Zm Z<|Ah<|AB (λM O h=>Zu h [1101,1001])
    ·refine AF<|AG<|AI<|Bk (λM O h=>Zu h [1001])
   ·refine A0<|Zb Z<|A5<|Ze [] [1001] Z
def Pc (a0:List Ae):Option ((List Ae)) :=
 app 112 ([]:List Ae) a0>>=λM =>
 some M
theorem Pd (a0:List Ae):Aj Tryz.prog 87 [.rd (A3 Ad) a0] [] (Pc a0) (λr M=>⟨[.val (M 0)],[(100,some (M 0,.list Ad 73 r))]⟩):=by
 refine Aq 8 func87 Z Z Z λH w=>?_;refine A0<|Zb Z<|A9<|A0<|Zm Z<|Lr Z Z .rd Z tu32 (λh1=>?_) ?_
 ·subst h1;refine Zn<|Dm Z<|A0<|Zb Z<|A5<|Ap<|Cq Ad 73 1<|Ze [(.slice none 0 0)] [1] Z
 ·refine Zn<|DL Z<|Zt<|A0<|Ef Z (lit (R:=Ad) (([]:List Ae):List Ae) 2 (pN) Z tu32 B4 Z Z) λv2=>Zm Z<|An λx3 O=>Ef Z (apn 2 Z Z Z .rd O tu32 B4 Z Z Z) λv5=>Zb Z<|A5<|Ze [v5] [2] Z
def N3 (s3:(List V3) × (List Ae)) (M:(List Ae) × Int):Option (Sum ((List Ae)) ((List Ae) × Int)) :=
 if decide (M.2<(s3.2.length:Int)) then
  idx M.1 M.2>>=λO =>
  DN O.Preds>>=λU =>
  idx M.1 M.2>>=λa1 =>
  some (.inr (M.1.set (M.2:Int).toNat ({ a1 with Preds:=U }),w64 (M.2+1)))
 else
  some (.inl M.1)
def KE (a0:A4):Option (A4) :=
 (DN a0.IDs>>=λU =>
 Pc a0.Ops>>=λr6 =>
 some (U,r6))>>=λM =>
 (iter (N3 M) (M.2,0))>>=λO =>
 some (⟨M.1,O⟩:A4)
theorem Pe (a0:A4):Aj Tryz.prog 55 [.rd A8 a0] [] (KE a0) (λr nv=>⟨[.rd A8 r],[]⟩):=by
 refine Aq 32 func55 Z Z Z λH w=>?_;refine A0<|Eb Z (bx 1 Z) λv1=>Eb Z (AL 2 Aw (ZrE.nilS (ZrE.nilS ZrE.nil))) λv2=>Zn<|B6 (λ(s3:(List V3) × (List Ae)) O U=>∃ nv:Nat->Value,Sta (ctx 32 H [] w) [(2,.val (A7 v2 0)),(3,.val (A7 (nv 0) 0))] [(2,some (v2,.box 34 [.val (.slice none 0 0),.val (.slice none 0 0)])),(9,some ((nv 1),.list aZ 61 s3.1)),(18,some ((nv 2),.list Ad 73 s3.2)),(24,some ((nv 0),.box 34 [.val (nv 1),.val (nv 2)]))] O U) ?_ (λs3=>?_)
 ·refine BK [31,40,46] mixed Z Z<|A6 0 Z Z (faB 1 Z Z underlying34 Z (by exact B2))<|A6 1 Z Z (ld 1 Z Z (fP (BT _)) B8 Z)<|A6 3 Z Z (faB 1 Z Z underlying34 Z (by exact Bq))<|A6 4 Z Z (ld 1 Z Z (fP (BN _)) BL Z)<|hAlt [2,7] (by kernel_rfl) Z ⟨?_,?_,trivial⟩
  ·refine Lt 2 [] [(100,31)] Z Z (gd0 Z) Z func25 Z Z (EM _) (Y1 Z) rN Z (λ_ _=>Ce) λr4 n5=>hAlt [5,7] (by kernel_rfl) Z ⟨?_,?_,trivial⟩
   ·refine Lt 5 [] [(100,40)] Z Z (gd0 Z) Z func87 Z Z (Pd _) (Y1 Z) rN Z (λ_ _=>Ce) λr6 n7=>E4 6 Z (by kernel_rfl) (by kernel_rfl) (by kernel_rfl) (gd0 Z) Z Z (CD [(0,1),(1,1)] underlying34 Aw (ZrE.nilS (ZrE.nilS ZrE.nil)) Z (BQ.cons Z Z Ay (Bb.cast (Bb.here Ay) Z)<|BQ.cons Z Z Ay (Bb.cast (Bb.next Ay (Bb.here Ay)) Z)<|BQ.done Z))<|hDoB 7 Z (by kernel_rfl) (gd0 Z) Z Z Z (AL 46 Aw (ZrE.nilS (ZrE.nilS ZrE.nil))) λv8=>Zp 8 Z Z Z Z Z (CE 46 Z Z (Af.cast (Af.cons Ay (Af.cons Ay Af.nil)) Z) Z (AZ.cons Bo (AZ.cons Bo AZ.nil)) (Af.cast (Af.cons Ay (Af.cons Ay Af.nil)) Z) Aw)<|Bg (by kernel_rfl)<|AA (λO U h=>⟨nvl [v8,(n5 0),(n7 0)],Zu h [2,31,40,46]⟩)
   ·refine oDoB 7 Z (gd0 Z) Z Z Z (AL 46 Aw (ZrE.nilS (ZrE.nilS ZrE.nil))) λv9=>BH 5 [] [(100,40)] Z (by kernel_rfl) Z (gd0 Z) Z func87 Z Z (Pd _) (Y1 Z) rN Z (λ_ _=>Ce) λaf a8=>E4 6 Z (by kernel_rfl) (by kernel_rfl) (by kernel_rfl) (gd0 Z) Z Z (CD [(0,1),(1,1)] underlying34 Aw (ZrE.nilS (ZrE.nilS ZrE.nil)) Z (BQ.cons Z Z Ay (Bb.cast (Bb.here Ay) Z)<|BQ.cons Z Z Ay (Bb.cast (Bb.next Ay (Bb.here Ay)) Z)<|BQ.done Z))<|Zp 8 Z Z Z Z Z (CE 46 Z Z (Af.cast (Af.cons Ay (Af.cons Ay Af.nil)) Z) Z (AZ.cons Bo (AZ.cons Bo AZ.nil)) (Af.cast (Af.cons Ay (Af.cons Ay Af.nil)) Z) Aw)<|Bg (by kernel_rfl)<|AA (λO U h=>⟨nvl [v9,(n5 0),(a8 0)],Zu h [2,31,40,46]⟩)
  ·refine oDoB 7 Z (gd0 Z) Z Z Z (AL 46 Aw (ZrE.nilS (ZrE.nilS ZrE.nil))) λab=>BH 2 [] [(100,31)] Z (by kernel_rfl) Z (gd0 Z) Z func25 Z Z (EM _) (Y1 Z) rN Z (λ_ _=>Ce) λah ac=>BH 5 [] [(100,40)] Z (by kernel_rfl) Z (gd0 Z) Z func87 Z Z (Pd _) (Y1 Z) rN Z (λ_ _=>Ce) λai ad=>E4 6 Z (by kernel_rfl) (by kernel_rfl) (by kernel_rfl) (gd0 Z) Z Z (CD [(0,1),(1,1)] underlying34 Aw (ZrE.nilS (ZrE.nilS ZrE.nil)) Z (BQ.cons Z Z Ay (Bb.cast (Bb.here Ay) Z)<|BQ.cons Z Z Ay (Bb.cast (Bb.next Ay (Bb.here Ay)) Z)<|BQ.done Z))<|Zp 8 Z Z Z Z Z (CE 46 Z Z (Af.cast (Af.cons Ay (Af.cons Ay Af.nil)) Z) Z (AZ.cons Bo (AZ.cons Bo AZ.nil)) (Af.cast (Af.cons Ay (Af.cons Ay Af.nil)) Z) Aw)<|Bg (by kernel_rfl)<|AA (λO U h=>⟨nvl [ab,(ac 0),(ad 0)],Zu h [2,31,40,46]⟩)
 ·refine gEx λM=>B6 (λ(a1:(List Ae)) O U=>Sta (ctx 32 H [] w) [(2,.val (A7 v2 0)),(3,.val (A7 (M 0) 0))] [(2,some (v2,.box 34 [.val (.slice none 0 0),.val (.slice none 0 0)])),(9,some ((M 1),.list aZ 61 s3.1)),(18,some ((M 2),.list Ad 73 a1)),(24,some ((M 0),.box 34 [.val (M 1),.val (M 2)]))] O U) ?_ (λa1=>?_)
  ·refine A0<|Zq (faB 24 Z Z underlying34 Z (by exact Bq))<|Zq (ldV 24 Z Z (At.cast (At.next Ay At.here) Z) sc32 Z)<|Zq (Ar Z (.own 18 Z) Z tu32)<|Zm Z<|Zn<|AJ (λ(a2:(List Ae) × Int) O U=>Sta (ctx 32 H [] w) [(2,.val (A7 v2 0)),(3,.val (A7 (M 0) 0)),(14,.rd A2 (s3.2.length:Int)),(15,.rd A2 a2.2)] [(2,some (v2,.box 34 [.val (.slice none 0 0),.val (.slice none 0 0)])),(9,some ((M 1),.list aZ 61 s3.1)),(18,some ((M 2),.list Ad 73 a2.1)),(24,some ((M 0),.box 34 [.val (M 1),.val (M 2)]))] O U) (λO U h=>Zu h [2,9,18,24]) (λa2=>?_)
   refine A0<|Zq (I.lss Z Z)<|Zn<|A9<|gIf Z Z (λae=>?_) (λae=>?_)
   ·refine Zt<|A9<|AD<|A0<|Zm Z<|Zb Z<|BK [18,82] mixed Z Z<|A6 0 Z Z (faB 24 Z Z underlying34 Z (by exact Bq))<|A6 1 Z Z (ldV 24 Z Z (At.cast (At.next Ay At.here) Z) sc32 Z)<|A6 2 Z Z (mv Z)<|A6 3 Z Z (faB 24 Z Z underlying34 Z (by exact Bq))<|A6 4 Z Z (ldV 24 Z Z (At.cast (At.next Ay At.here) Z) sc32 Z)<|A6 5 Z Z (mv Z)<|BA λaj a6=>A6 6 Z Z (ixO 18 Z Z Z a6 tu32 B4)<|A6 7 Z Z (fa 18 Z Z QX (So a6) underlying73 Z (by exact B2))<|hRun 8 Z (by kernel_rfl) (gd0 Z) Z Z anyJ (ld 18 Z Z ((Foc.el a6).part (Cv _)) B8 Z)<|BH 9 [] [(100,82)] Z (by kernel_rfl) Z (gd0 Z) Z func25 Z Z (EM _) (Y1 Z) rN Z (λ_ _=>Ce) λak am=>BA λao a7=>A6 10 Z Z (ixO 18 Z Z Z a7 tu32 B4)<|A6 11 Z Z (fa 18 Z Z QX (So a7) underlying73 Z (by exact B2))<|Em 82 [27] Z (fS Z<|fN)<|Zp 12 Z Z Z Z Z (sto 18 Z Z ((Foc.el a7).part (Cv _)) Z B2)<|Bg (by kernel_rfl)<|Au<|Ak<|Al<|Zq (I.add Z Z)<|Zm Z<|Ah<|AB (λO U h=>Zu h [2,9,18,24])
   ·refine AF<|AG<|AI<|AA (λO U h=>Zu h [2,9,18,24])
  ·refine A0<|lPow [.rd (A3 aZ) s3.1,.val (M 2)] 24 9 [] [.val (M 2)] Z Z Z Z Z<|lPow [.rd (A3 aZ) s3.1,.rd (A3 Ad) a1] 24 18 [.rd (A3 aZ) s3.1] [] Z Z Z Z Z<|BC (R:=A8) (⟨s3.1,a1⟩:A4) 24 Z (Sp.via (Sp.prod (Sp.prod Sp.unit)))<|Zq (ld 24 Z Z fH AH Z)<|Bh aZ [.rd (A3 aZ) [],.val (.slice none 0 0)] 2 [] [.val (.slice none 0 0)] Z Z Z<|Bh Ad [.rd (A3 aZ) [],.rd (A3 Ad) []] 2 [.rd (A3 aZ) []] [] Z Z Z<|BC (R:=A8) (⟨[],[]⟩:A4) 2 Z (Sp.via (Sp.prod (Sp.prod Sp.unit)))<|Es (sto 2 Z Z fH Z Aw)<|Zn<|A5<|Bu [] [] Z (eC 2 Z Z AH<|eN) (rN)
def N4 (a0:List A4) (M:(List A4) × Int):Option (Sum ((List A4)) ((List A4) × Int)) :=
 if decide (M.2<(a0.length:Int)) then
  idx a0 M.2>>=λU =>
  KE U>>=λr8 =>
  app 48 M.1 [r8]>>=λO =>
  some (.inr (O,w64 (M.2+1)))
 else
  some (.inl M.1)
def HC (a0:List A4):Option ((List A4)) :=
 (iter (N4 a0) ([],0))>>=λM =>
 some M
theorem zsm (a0:List A4):Aj Tryz.prog 32 [.rd (A3 A8) a0] [] (HC a0) (λr M=>⟨[.val (M 0)],[(100,some (M 0,.list A8 34 r))]⟩):=by
 refine Aq 19 func32 Z Z Z λH w=>?_;refine A0<|Zb Z<|A0<|Zb Z<|B6 (λ(s1:(List A4)) O U=>∃ M:Nat->Value,Sta (ctx 19 H [] w) [(3,.val (M 0))] [(3,some ((M 0),.list A8 34 s1))] O U) ?_ (λs1=>?_)
 ·refine A0<|Zm Z<|Zq (Ar Z .rd Z tu22)<|Zm Z<|Zn<|DB A8 34 7<|AJ (λ(s2:(List A4) × Int) O U=>∃ M:Nat->Value,Sta (ctx 19 H [] w) [(3,.val (M 0)),(6,.rd (A3 A8) a0),(7,.rd A2 (a0.length:Int)),(8,.rd A2 s2.2)] [(6,some ((M 0),.list A8 34 s2.1))] O U) (λO U h=>⟨nvl [(.slice none 0 0)],Zu h [7]⟩) (λs2=>?_);refine gEx λn3=>A0<|Zq (I.lss Z Z)<|Zn<|A9<|gIf Z Z (λh4=>?_) (λh4=>?_)
  ·refine Zt<|A9<|AD<|A0<|An λx5 h6=>Zq (ixR Z Z h6 tu22 Aw Z)<|Zq (ldR Z AH)<|Eb Z (AL 8 Aw (ZrE.nilS (ZrE.nilS ZrE.nil))) λv7=>Bh aZ [.rd (A3 aZ) [],.val (.slice none 0 0)] 8 [] [.val (.slice none 0 0)] Z Z Z<|Bh Ad [.rd (A3 aZ) [],.rd (A3 Ad) []] 8 [.rd (A3 aZ) []] [] Z Z Z<|BC (R:=A8) (⟨[],[]⟩:A4) 8 Z (Sp.via (Sp.prod (Sp.prod Sp.unit)))<|Es (sto 8 Z Z fH Z Aw)<|Zn<|Al<|Zm Z<|Zq (ld 8 Z Z fH AH Z)<|Zc [] [] func55 Z (Pe _) λr8 n9=>Ef Z (lit (R:=A8) ([r8]:List A4) 9 (pP Z Z<|pN) Z tu22 Aw Z Z) λa7=>BG 9 [15] Z (fS Z<|fN)<|An λa8 a1=>Ef Z (apn 6 Z Z Z .rd a1 tu22 Aw Z Z Z) λa2=>Za Z<|Ah<|Au<|Ak<|Al<|Zq (I.add Z Z)<|Zm Z<|Ah<|AB (λO U h=>⟨nvl [a2],Zu h [6]⟩)
  ·refine AF<|AG<|AI<|AA (λO U h=>⟨nvl [(n3 0)],Zu h [6]⟩)
 ·refine gEx λa6=>A0<|Zm Z<|Zb Z<|A5<|Ze [(a6 0)] [3] Z
def HD (a0:Int) (M:AX):Option (Bool) :=
 if decide (0<=(min M.A M.B)) then
  if decide ((max M.A M.B)<a0) then
   some (M.A != M.B)
  else
   some false
 else
  some false
theorem Ud (a0:Int) (M:AX):Aj Tryz.prog 34 [.rd A2 a0,.rd Bn M] [] (HD a0 M) (λr nv=>⟨[.rd Ai r],[]⟩):=by
 refine Aq 27 func34 Z Z Z λH w=>?_;refine A0<|Eb Z (bx 1 Z) λv1=>Zb Z<|A0<|Zq (faB 1 Z Z underlying24 Z (by exact ti3))<|Zq (ld 1 Z Z (fP (CT _)) ty3 Z)<|Zq (faB 1 Z Z underlying24 Z (by exact ti3))<|Zq (ld 1 Z Z (fP (D3 _)) ty3 Z)<|Zq (I.min Z Z)<|Zq (I.geq Z Z)<|Zm Z<|AY 11 Z (λh2=>?_) (λh2=>?_)
 ·refine Ac 10 Z h2<|Ab Zx Z Z (faB 1 Z Z underlying24 Z (by exact ti3))<|Ab Zx Z Z (ld 1 Z Z (fP (CT _)) ty3 Z)<|Ab Zx Z Z (faB 1 Z Z underlying24 Z (by exact ti3))<|Ab Zx Z Z (ld 1 Z Z (fP (D3 _)) ty3 Z)<|Ab Zx Z Z (I.max Z Z)<|Ab Zx Z Z (mv Z)<|Ab Zx Z Z (I.lss Z Z)<|Zq (pkT Z Z)<|Zm Z<|AY 20 Z (λh3=>?_) (λh3=>?_)
  ·refine Ac 18 Z h3<|Ac 19 Z h3<|Ab Zx Z Z (faB 1 Z Z underlying24 Z (by exact ti3))<|Ab Zx Z Z (ld 1 Z Z (fP (CT _)) ty3 Z)<|Ab Zx Z Z (faB 1 Z Z underlying24 Z (by exact ti3))<|Ab Zx Z Z (ld 1 Z Z (fP (D3 _)) ty3 Z)<|Ab Zx Z Z (I.neq Z Z)<|Zq (pkT Z Z)<|Zb Z<|A5<|Ze [] [] Z
  ·refine Ac 18 Z h3<|Ac 19 Z h3<|Zk Z<|Zk Z<|Zk Z<|Zk Z<|Zk Z<|Zq (pkF Z Z)<|Zb Z<|A5<|Ze [] [] Z
 ·refine Ac 10 Z h2<|Zk Z<|Zk Z<|Zk Z<|Zk Z<|Zk Z<|Zk Z<|Zk Z<|Zq (pkF Z Z)<|Zm Z<|Zk Z<|Zk Z<|Zk Z<|Zk Z<|Zk Z<|Zq (pkF Z Z)<|Zb Z<|A5<|Ze [] [] Z
def KF (c0:List A4) (M:AX):Option (Int × (List A4)) :=
 HD (c0.length:Int) M>>=λr2 =>
 if !r2 then
  some (2,c0)
 else
  idx c0 M.A>>=λx5 =>
  idx c0 M.B>>=λx7 =>
  F8 x5 x7>>=λO =>
  if O.2 != 0 then
   some (O.2,c0)
  else
   KE O.1>>=λU =>
   idx c0 M.A>>=λa2 =>
   idx (c0.set (M.A:Int).toNat O.1) M.B>>=λa6 =>
   some (0,(c0.set (M.A:Int).toNat O.1).set (M.B:Int).toNat U)
theorem Pf (O:Value) (c0:List A4) (U:AX):Aj Tryz.prog 33 [.val O,.rd Bn U] [(1,some (O,.list A8 34 c0)),Am] (KF c0 U) (λr M=>⟨[.rd A2 r.1],[(1,some (O,.list A8 34 r.2)),(1001,some (.bool true,.glob 1 (Av 64 Aa) Bv))]⟩):=by
 refine Aq 40 func33 Z Z Z λH w=>?_;refine A0<|Eb Z (bx 2 Z) λv1=>Zb Z<|A9<|A0<|Zm Z<|Zq (Ar Z (.own 1 Z) Z tu22)<|Zq (ld 2 Z Z fH DM Z)<|Zc [] [] func34 Z (Ud _ _) λr2 n3=>Zq (By Z)<|Zj Z (λh4=>?_) (λh4=>?_)
 ·refine A0<|Zb Z<|A5<|Ap<|Ze [] [1,1001] Z
 ·refine Zt<|A9<|E7 [(0,.val O),(3,.val (A7 v1 0))] [(1,some (O,.list A8 34 c0)),Am,(2,some (v1,.box 24 [.rd Bn U]))] [1,1001,2] (sS Z<|sS Z<|sN) (Zi Z<|Zi Z<|Zi Z<|rN)<|BV λx5 h6=>BV λx7 h8=>BV λr9 a7=>gOr [] [⟨2,some ([], λM=>(v1,.box 24 [.rd Bn U])),[]⟩,⟨1,some ([], λM=>(O,.list A8 34 c0)),[]⟩,⟨1001,some ([], λM=>((.bool true),.glob 1 (Av 64 Aa) Bv)),[]⟩,⟨3,none,[(14,some ([1], λM=>((M 1),.box 34 [.rd A8 (⟨[],[]⟩:A4)]))),(15,some ([1], λM=>((M 1),.box 34 [.rd A8 r9.1])))]⟩] [pd 13 (.val O),pk 14 (.val (A7 v1 (0+0))) [(0,0,false)],pk 15 (.rd A2 U.A) [(0,0,false)],pk 16 (.val (A7 O ((U.A:Int).toNat * 2))) [(1,0,false)],pk 17 (.rd A8 x5) [(1,0,false)],pd 18 (.val O),pk 19 (.val (A7 v1 (0+1))) [(0,0,false)],pk 20 (.rd A2 U.B) [(0,0,false)],pk 21 (.val (A7 O ((U.B:Int).toNat * 2))) [(1,0,false)],pk 22 (.rd A8 x7) [(1,0,false)],pk 23 (.tup [.rd A8 r9.1,.rd A2 r9.2]) [(2,0,false)],pd 12 (.tup [.rd A8 r9.1,.rd A2 r9.2]),pd 24 (.rd A8 r9.1),pd 25 (.rd A2 r9.2),⟨some (5,[1], λM=>.val (A7 (M 1) 0)),[(3,0,true)],[1],[]⟩,⟨none,[(3,1,true)],[],[]⟩,pd 6 (.rd A2 r9.2)] mixed (oC (oRn (λM E=>mv Z))<|oC (oRn (λM E=>faB 2 Z Z underlying24 Z (by exact ti3)))<|oC (oRn (λM E=>ld 2 Z Z (fP (CT _)) ty3 Z))<|oC (oRn (λM E=>ixO 1 Z Z Z h6 tu22 Aw))<|oC (oRn (λM E=>ld 1 Z Z (Foc.el h6) AH Z))<|oC (oRn (λM E=>mv Z))<|oC (oRn (λM E=>faB 2 Z Z underlying24 Z (by exact ti3)))<|oC (oRn (λM E=>ld 2 Z Z (fP (D3 _)) ty3 Z))<|oC (oRn (λM E=>ixO 1 Z Z Z h8 tu22 Aw))<|oC (oRn (λM E=>ld 1 Z Z (Foc.el h8) AH Z))<|oC (oCl [] [1001] [] a7 func8 Z (λM=>(MH _ _)) (λM=>(Y2 Z Z)) (λM E=>(y1 Z)))<|oC (oRn (λM E=>mv Z))<|oC (oRn (λM E=>ext Z Z))<|oC (oRn (λM E=>ext Z Z))<|oC (oEb 3 1 (λM E=>AL 3 Aw (.zr (R:=A8) (x:=(⟨[],[]⟩:A4)) Jn)))<|oC (oEs 3 (λM E=>sto 3 Z Z fH Z Aw))<|oC (oRn (λM E=>asg Z))<|oN) λaa=>Ak<|A9<|A0<|Zm Z<|Zq (I.neq Z Z)<|Zj Z (λa8=>?_) (λa8=>?_)
  ·refine A0<|Zm Z<|Zb Z<|A5<|Ap<|Ze [] [1,1001] Z
  ·refine Zt<|A9<|BK [1] mixed Z Z<|A6 0 Z Z (mv Z)<|A6 1 Z Z (faB 2 Z Z underlying24 Z (by exact ti3))<|A6 2 Z Z (ld 2 Z Z (fP (CT _)) ty3 Z)<|A6 3 Z Z (mv Z)<|A6 4 Z Z (faB 2 Z Z underlying24 Z (by exact ti3))<|A6 5 Z Z (ld 2 Z Z (fP (D3 _)) ty3 Z)<|A6 6 Z Z (ld 3 Z Z fH AH Z)<|A6 7 Z Z (ld 3 Z Z fH AH Z)<|I5 8 [] [] Z (by kernel_rfl) Z (gd0 Z) Z func55 Z Z (Pe _) (Y1 Z) rN Z λab ac=>BA λad a2=>A6 9 Z Z (ixO 1 Z Z Z a2 tu22 Aw)<|Zp 10 Z Z Z Z Z (sto 1 Z Z (Foc.el a2) Z Aw)<|BA λae a6=>Zf 11 Z Z Ce (ixO 1 Z Z Z a6 tu22 Aw)<|Zp 12 Z Z Z Z Z (sto 1 Z Z (Foc.el a6) Z Aw)<|Bg (by kernel_rfl)<|Ak<|A0<|Zb Z<|A5<|Ze [] [1,1001] Z
def IM (U:List AX) (M:(List A4) × Int):Option (Sum (Sum ((List A4) × Int) ((List A4))) ((List A4) × Int)) :=
 if decide (M.2<(U.length:Int)) then
  idx U M.2>>=λa2 =>
  KF M.1 a2>>=λO =>
  if O.1 != 0 then
   some (.inl (.inl ([],O.1)))
  else
   some (.inr (O.2,w64 (M.2+1)))
 else
  some (.inl (.inr M.1))
def GR (a0:List A4) (M:List AX):Option ((List A4) × Int) :=
 Fc a0>>=λO =>
 if O != 0 then
  some ([],O)
 else
  if decide (100<(M.length:Int)) then
   some ([],4)
  else
   HC a0>>=λU =>
   Bi (iter (IM M) (U,0)) λs7 =>
   some (s7,0)
theorem Pg (a0:List A4) (a1:List AX):Aj Tryz.prog 12 [.rd (A3 A8) a0,.rd (A3 Bn) a1] [Am] (GR a0 a1) (λr nv=>⟨[.val (nv 0),.rd A2 r.2],[(1001,some (.bool true,.glob 1 (Av 64 Aa) Bv)),(100,some (nv 0,.list A8 34 r.1))]⟩):=by
 refine Aq 35 func12 Z Z Z λH w=>?_;refine A0<|Za Z<|Zb Z<|A9<|A0<|Zm Z<|Zc [1001] [] func31 Z (zmw _) λr1 n2=>Zb Z<|A0<|Zm Z<|Zq (I.neq Z Z)<|Zj Z (λh3=>?_) (λh3=>?_)
 ·refine A0<|Zm Z<|Za Z<|Zb Z<|A5<|Ap<|Cq A8 34 1<|Ze [(.slice none 0 0)] [1001,1] Z
 ·refine Zt<|A9<|A0<|Zm Z<|Zq (Ar Z .rd Z tu42)<|Zq (I.gtr Z Z)<|Zj Z (λh4=>?_) (λh4=>?_)
  ·refine A0<|Za Z<|Zb Z<|A5<|Ap<|Cq A8 34 2<|Ze [(.slice none 0 0)] [1001,2] Z
  ·refine Zt<|A0<|Zm Z<|Zc [] [(100,3)] func32 Z (zsm _) λr5 U=>Zb Z<|Bt (λ(s7:(List A4)) M O=>Sta (ctx 35 H [Am] w) [(7,.val (U 0))] [(3,some ((U 0),.list A8 34 s7)),Am] M O) ?_ (λs7=>?_)
   ·refine A0<|Zm Z<|Zq (Ar Z .rd Z tu42)<|Zm Z<|Zn<|AJ (λ(s8:(List A4) × Int) M O=>Sta (ctx 35 H [Am] w) [(7,.val (U 0)),(21,.rd (A3 Bn) a1),(22,.rd A2 (a1.length:Int)),(23,.rd A2 s8.2)] [(3,some ((U 0),.list A8 34 s8.1)),Am] M O) (λM O h=>Zu h [3,1001]) (λs8=>?_);refine A0<|Zq (I.lss Z Z)<|Zn<|A9<|gIf Z Z (λh9=>?_) (λh9=>?_)
    ·refine Zt<|A9<|AD<|A0<|An λa7 a2=>Zq (ixR Z Z a2 tu42 Db Z)<|Zq (ldR Z DM)<|Eb Z (AL 1100 Db (.zr (R:=Bn) (x:=(⟨0,0⟩:AX)) FV)) λa8=>Es (sto 1100 Z Z fH Z Db)<|Zn<|A0<|Zm Z<|Zq (ld 1100 Z Z fH DM Z)<|Zc [3,1001] [(1,3)] func33 Z (Pf _ _ _) λab ac=>Zb Z<|A0<|Zm Z<|Zq (I.neq Z Z)<|Zj Z (λa6=>?_) (λa6=>?_)
     ·refine A0<|Zm Z<|Za Z<|Zb Z<|A5<|B7<|Ap<|Bp<|Bl<|Cq A8 34 1101<|Ze [(.slice none 0 0)] [1001,1101] Z
     ·refine AU<|Au<|Ak<|Al<|Zq (I.add Z Z)<|Zm Z<|Ah<|AB (λM O h=>Zu h [3,1001])
    ·refine AF<|AG<|AI<|Bk (λM O h=>Zu h [3,1001])
   ·refine A0<|Zm Z<|Za Z<|Zb Z<|A5<|Ze [(U 0)] [1001,3] Z
def N5 (M:(Vector UInt64 5) × Int):Option (Sum ((Vector UInt64 5)) ((Vector UInt64 5) × Int)) :=
 if decide (M.2<5) then
  chk (0<=M.2)>>=λu8 =>
  B3 M.1 M.2>>=λa1 =>
  some (.inr (BY M.1 M.2 (EW 1 ((M.2:Int).toNat)),w64 (M.2+1)))
 else
  some (.inl M.1)
def IN (a0:Int) (a1:List AX) (M:(Vector UInt64 5) × Int):Option (Sum (Sum ((List (List Int)) × Int) ((Vector UInt64 5))) ((Vector UInt64 5) × Int)) :=
 if decide (M.2<(a1.length:Int)) then
  idx a1 M.2>>=λO =>
  HD a0 O>>=λa6 =>
  if !a6 then
   some (.inl (.inl ([],2)))
  else
   B3 M.1 O.A>>=λU =>
   B3 M.1 O.B>>=λa2 =>
   B3 M.1 O.A>>=λa7 =>
   B3 (BY M.1 O.A (U ||| a2)) O.B>>=λa8 =>
   some (.inr (BY (BY M.1 O.A (U ||| a2)) O.B (U ||| a2),w64 (M.2+1)))
 else
  some (.inl (.inr M.1))
def N6 (a0:Int) (O:(Vector UInt64 5)) (U:(List (List Int)) × Int) (M:(List Int) × Int):Option (Sum ((List Int)) ((List Int) × Int)) :=
 if decide (M.2<a0) then
  B3 O U.2>>=λa1 =>
  chk (0<=M.2)>>=λa6 =>
  if ((BZ a1 ((M.2:Int).toNat)) &&& 1)==1 then
   app 8 M.1 [M.2]>>=λa2 =>
   some (.inr (a2,w64 (M.2+1)))
  else
   some (.inr (M.1,w64 (M.2+1)))
 else
  some (.inl M.1)
def N7 (a0:Int) (O:(Vector UInt64 5)) (M:(List (List Int)) × Int):Option (Sum ((List (List Int))) ((List (List Int)) × Int)) :=
 if decide (M.2<a0) then
  (iter (N6 a0 O M) ([],0))>>=λU =>
  app 24 M.1 [U]>>=λa1 =>
  some (.inr (a1,w64 (M.2+1)))
 else
  some (.inl M.1)
def IP (a0:Int) (M:List AX):Option ((List (List Int)) × Int) :=
 if decide (a0<0) then
  some ([],2)
 else
  if decide (5<a0) then
   some ([],2)
  else
   if decide (100<(M.length:Int)) then
    some ([],4)
   else
    (iter (N5) ((Vector.replicate 5 0),0))>>=λs5 =>
    Bi (iter (IN a0 M) (s5,0)) λO =>
    (iter (N7 a0 O) ([],0))>>=λU =>
    some (U,0)
def Ph (a0:Int):Option ((Int)) :=
 some (a0)
theorem zp8 (a0:Int):Aj Tryz.prog 56 [.rd A2 a0] [] (Ph a0) (λr nv=>⟨[.clo 88 [.rp A2 r]],[]⟩):=by
 refine Aq 4 func56 Z Z Z λH w=>?_;refine A0<|Eb Z (bx 1 Z) λv1=>Zb Z<|A0<|Zq (mkf mp0 (mp1 Z))<|Zb Z<|A5<|Ys 2 1 Z Z<|Ze [] [] Z
def HE {σ:Type} (Y:AX->σ->Option σ) (go:σ->Bool) (M:Int × Int × σ):Option (Sum (Sum σ σ) (Int × Int × σ)) :=
 if decide (M.2.1<M.1) then
  Y (⟨M.2.1,w64 (M.2.1+1)⟩:AX) M.2.2>>=λO =>
  if !(go O) then
   some (.inl (.inl O))
  else
   some (.inr (M.1,w64 (M.2.1+1),O))
 else
  some (.inl (.inr M.2.2))
def N8 {σ:Type} (M:Int) (Y:AX->σ->Option σ) (go:σ->Bool) (s0:σ):Option σ :=
 Bi (iter (HE Y go) (w64 (M - 1),0,s0)) λO =>
 if decide (2<M) then
  Y (⟨w64 (M - 1),0⟩:AX) O>>=λU =>
  some U
 else
  some O
theorem zna (O:Int):ItC Tryz.prog 88 Bn [.rp A2 O] (λ{σ} Y go s=>N8 (σ:=σ) O Y go s):=by
 refine Yj 24 func88 Z Z Z ?_;intro σ E V0 W0 s0 hJ0 a7;refine Bt (λ(s1:σ)=>iAs E 24 [(0,.val (.func (.yield E.l) #[] #[])),(1,.rp A2 O)] s1) ?_ (λs1=>?_)
 ·refine A0<|Zq (ldR Z ty3)<|Zq (I.sub Z Z)<|Zm Z<|Zn<|AJ (λ(M:Int × Int × σ)=>iAs E 24 [(0,.val (.func (.yield E.l) #[] #[])),(1,.rp A2 O),(5,.rd A2 M.1),(6,.rd A2 M.2.1)] M.2.2) (λaa ww h=>⟨_,_,hJ0,a7,Zu h []⟩) (λM=>?_);refine gExI λV3 W4 hJ5 U=>A0<|Zq (I.lss Z Z)<|Zn<|A9<|gIf Z Z (λh7=>?_) (λh7=>?_)
  ·refine Zt<|A9<|AD<|A0<|Zm Z<|Zb Z<|A9<|SL 5<|Zm Z<|Zm Z<|Zm Z<|Zq (I.add Z Z)<|Zq (bld (x':=(⟨M.2.1,w64 (M.2.1+1)⟩:AX)) [(0,1),(1,1)] underlying24 Db Z FV Z (Bld.cons (CT _) Z Z<|Bld.cons (D3 _) Z Z<|Bld.done Z))<|Ah<|SM hJ5 U Z Z Z λs8 V9 W10 hJ11=>Zq (By Z)<|Zj Z (λa2=>?_) (λa2=>?_)
   ·refine A5<|B7<|Ap<|Bp<|Bl<|Yk hJ11 Z
   ·refine AU<|Au<|Ak<|Al<|Zq (I.add Z Z)<|Zm Z<|Ah<|AB (λaa ww h=>⟨_,_,hJ11,(Yf a2),Zu h []⟩)
  ·refine AF<|AG<|AI<|Bk (λaa ww h=>⟨_,_,hJ5,U,Zu h []⟩)
 ·refine gExI λV13 W14 hJ15 a6=>A0<|Zq (ldR Z ty3)<|Zq (I.gtr Z Z)<|Zj Z (λa8=>?_) (λa8=>?_)
  ·refine SL 4<|Zm Z<|Zq (ldR Z ty3)<|Zq (I.sub Z Z)<|Zq (bld (x':=(⟨w64 (O - 1),0⟩:AX)) [(0,1),(1,1)] underlying24 Db Z FV Z (Bld.cons (CT _) Z Z<|Bld.done Z))<|Ah<|SM hJ15 a6 Z Z Z λab V19 W20 hJ21=>Ah<|SJ hJ21 Z
  ·refine AU<|SJ hJ15 Z
def Gc (O:AX) (U:(List A4)):Option (Sum (Int × (List A4)) ((List A4))) :=
 KF U O>>=λM =>
 if M.1 != 0 then
  some (.inl (M.1,M.2))
 else
  some (.inr M.2)
def KG (c0:List A4):Option (Int × (List A4)) :=
 Ph (c0.length:Int)>>=λO =>
 Bi (N8 O (FW (Gc)) Sum.isRight (.inr c0)) λM =>
 some (0,M)
theorem Ue (M:Value) (c0:List A4):Aj Tryz.prog 35 [.val M] [(1,some (M,.list A8 34 c0)),Am] (KG c0) (λr nv=>⟨[.rd A2 r.1],[(1,some (M,.list A8 34 r.2)),(1001,some (.bool true,.glob 1 (Av 64 Aa) Bv))]⟩):=by
 refine Yh 15 func35 Z Z Z λH w=>?_;refine A0<|Eb Z (bx 2 Z) λv1=>Eb Z (AL 3 ti28 (.zr (R:=A2) (x:=0) (Zr.num Z))) λv2=>Zn<|A9<|A0<|Zq (ldV 2 Z Z .here sc22 Z)<|Zq (Ar Z (.own 1 Z) Z tu22)<|Zc [] [] func56 Z (zp8 _) λr3 n4=>Zn<|Yr (Yg (it:=λ{σ} Y go s=>N8 (σ:=σ) r3 Y go s) (λ(O:Int × (List A4)) (n6:Nat->Value)=>[(1,some (M,.list A8 34 O.2)),Am,(3,some (v2,.box 28 [.rd A2 O.1]))]) (λ(s5:(List A4)) (n6:Nat->Value)=>[(1,some (M,.list A8 34 s5)),(2,some (v1,.box 22 [.val M])),(3,some (v2,.box 28 [.rd A2 0])),Am]) [(1,.val (A7 v1 0)),(2,.val (A7 v2 0))] 4 [] [1,2,3,1001] (zna r3) (λ_ _=>Gm func88 Z Z) Z (sS Z<|sS Z<|sN) (Zi Z<|Zi Z<|Zi Z<|Zi Z<|rN) Z ?_ ?_) (λac=>?_)
 ·intro ad rec8 H9 W10 n6 ae s5 a6 hlp13 a7;refine Al<|Eb Z (AL 1100 Db (.zr (R:=Bn) (x:=(⟨0,0⟩:AX)) FV)) λaf=>Es (sto 1100 Z Z fH Z Db)<|Ah<|Yc a6 hlp13 a7 λW18 U a1 a2=>AD<|A0<|Zq (ldV 2 Z Z .here sc22 Z)<|Zq (ld 1100 Z Z fH DM Z)<|Zc [1,1001] [(1,1)] func33 Z (Pf _ _ _) λah ai=>Zb Z<|A0<|Zm Z<|Zq (I.neq Z Z)<|Zj Z (λa8=>?_) (λa8=>?_)
  ·refine A0<|Zm Z<|Es (sto 3 Z Z fH Z ti28)<|Zn<|A5<|B7<|Ye [] [1,1001,3] U a1 a2 (Zi Z<|Zi Z<|Zi Z<|rN)
  ·refine AU<|Au<|Yd [] [1,2,3,1001] U a1 a2 (Zi Z<|Zi Z<|Zi Z<|Zi Z<|rN)
 ·intro O aa ab;refine Ap<|SG 4 [] [1,1001] Z Z (eC 3 Z Z ty28<|eN) (Zi Z<|Zi Z<|rN)
 ·refine eRng λaa ab=>Ak<|A0<|Es (sto 3 Z Z fH Z ti28)<|Zn<|A5<|SG 4 [] [1,1001] Z Z (eC 3 Z Z ty28<|eN) (Zi Z<|Zi Z<|rN)
def KH (U:Int) (O:(List A4) × Int):Option (Sum (Sum ((List A4) × Int) ((List A4))) ((List A4) × Int)) :=
 if decide (O.2<U) then
  KG O.1>>=λM =>
  if M.1 != 0 then
   some (.inl (.inl ([],M.1)))
  else
   some (.inr (M.2,w64 (O.2+1)))
 else
  some (.inl (.inr O.1))
def HF (a0:List A4) (M:Int):Option ((List A4) × Int) :=
 Fc a0>>=λO =>
 if O != 0 then
  some ([],O)
 else
  if decide (M<0) then
   some ([],2)
  else
   if decide (5<M) then
    some ([],2)
   else
    HC a0>>=λU =>
    Bi (iter (KH M) (U,0)) λs8 =>
    some (s8,0)
def KI (a0:List A4) (M:Int):Option (Sum (Sum (Bool × Int) Unit) Int) :=
 if decide (M<(a0.length:Int)) then
  idx a0 M>>=λx7 =>
  idx a0 0>>=λO =>
  GK x7.IDs O.IDs>>=λU =>
  if !U then
   some (.inl (.inl (false,0)))
  else
   some (.inr (w64 (M+1)))
 else
  some (.inl (.inr ()))
def IQ (a0:List A4):Option (Bool × Int) :=
 Fc a0>>=λM =>
 if M != 0 then
  some (false,M)
 else
  Bi (iter (KI a0) 0) λs4 =>
  some (true,0)
end
section
theorem N9 (a0:List A4) (M:Value) (l0:List A4):Aj Tryz.prog 31 [.vw A8 M l0 a0] [(1,some (M,.list A8 34 l0)),Am] (Fc a0) (λr nv=>⟨[.rd A2 r],[(1,some (M,.list A8 34 l0)),(1001,some (.bool true,.glob 1 (Av 64 Aa) Bv))]⟩):=by
 refine Aq 69 func31 Z Z Z λH w=>?_;refine A0<|Zb Z<|A9<|A0<|Zm Z<|Zq (Ar Z (.vw 1 Z) Z tu22)<|Zq (I.gtr Z Z)<|Zj Z (λh1=>?_) (λh1=>?_)
 ·refine A0<|Zb Z<|A5<|Ap<|Ze [] [1,1001] Z
 ·refine Zt<|Bt (λ(s2:Unit) O U=>Sta (ctx 69 H [(1,some (M,.list A8 34 l0)),Am] w) [(0,.vw A8 M l0 a0)] [(1,some (M,.list A8 34 l0)),Am] O U) ?_ (λs2=>?_)
  ·refine A0<|Zm Z<|Zq (Ar Z (.vw 1 Z) Z tu22)<|Zm Z<|Zn<|AJ (λ(s3:Int) O U=>Sta (ctx 69 H [(1,some (M,.list A8 34 l0)),Am] w) [(0,.vw A8 M l0 a0),(16,.vw A8 M l0 a0),(17,.rd A2 (a0.length:Int)),(18,.rd A2 s3)] [(1,some (M,.list A8 34 l0)),Am] O U) (λO U h=>Zu h [1,1001]) (λs3=>?_);refine A0<|Zq (I.lss Z Z)<|Zn<|A9<|gIf Z Z (λh4=>?_) (λh4=>?_)
   ·refine Zt<|A9<|AD<|A0<|An λx5 h6=>Zq (ixQ 1 Z Z Z h6 tu22 Aw)<|Zq (ldQ 1 Z Z AH Z)<|Eb Z (AL 1100 Aw (ZrE.nilS (ZrE.nilS ZrE.nil))) λv7=>Bh aZ [.rd (A3 aZ) [],.val (.slice none 0 0)] 1100 [] [.val (.slice none 0 0)] Z Z Z<|Bh Ad [.rd (A3 aZ) [],.rd (A3 Ad) []] 1100 [.rd (A3 aZ) []] [] Z Z Z<|BC (R:=A8) (⟨[],[]⟩:A4) 1100 Z (Sp.via (Sp.prod (Sp.prod Sp.unit)))<|Es (sto 1100 Z Z fH Z Aw)<|Zn<|A0<|Zq (ld 1100 Z Z fH AH Z)<|Zc [1001] [] func42 Z (GD _) λr8 n9=>Zb Z<|A0<|Zm Z<|Zq (I.neq Z Z)<|Zj Z (λaf=>?_) (λaf=>?_)
    ·refine A0<|Zm Z<|Zb Z<|A5<|B7<|Ap<|Bp<|Bl<|Ze [] [1,1001] Z
    ·refine AU<|Au<|Ak<|Al<|Zq (I.add Z Z)<|Zm Z<|Ah<|AB (λO U h=>Zu h [1,1001])
   ·refine AF<|AG<|AI<|Bk (λO U h=>Zu h [1,1001])
  ·refine A0<|Ef Z (mkm aZ Ad 1101 (Or.inl Z) underlying107) λa1=>Zb Z<|Bt (λ(ah:Unit) O U=>Sta (ctx 69 H [(1,some (M,.list A8 34 l0)),Am] w) [] [(1,some (M,.list A8 34 l0)),Am] O U) ?_ (λah=>?_)
   ·refine A0<|Zm Z<|Zq (Ar Z (.vw 1 Z) Z tu22)<|Zm Z<|Zn<|AJ (λ(a2:(List (V3 × Ae)) × Int) O U=>Sta (ctx 69 H [(1,some (M,.list A8 34 l0)),Am] w) [(6,.val a1),(29,.vw A8 M l0 a0),(30,.rd A2 (a0.length:Int)),(31,.rd A2 a2.2)] [(1101,some (a1,.map aZ Ad a2.1)),(1,some (M,.list A8 34 l0)),Am] O U) (λO U h=>Zu h [1101,1,1001]) (λa2=>?_);refine A0<|Zq (I.lss Z Z)<|Zn<|A9<|gIf Z Z (λai=>?_) (λai=>?_)
    ·refine Zt<|Bt (λ(ad:(List (V3 × Ae))) O U=>Sta (ctx 69 H [(1,some (M,.list A8 34 l0)),Am] w) [(6,.val a1),(29,.vw A8 M l0 a0),(30,.rd A2 (a0.length:Int)),(31,.rd A2 a2.2)] [(1101,some (a1,.map aZ Ad ad)),(1,some (M,.list A8 34 l0)),Am] O U) ?_ (λad=>?_)
     ·refine AD<|A0<|An λa6 aj=>Zq (ixQ 1 Z Z Z aj tu22 Aw)<|Zq (ldQ 1 Z Z AH Z)<|Eb Z (AL 1102 Aw (ZrE.nilS (ZrE.nilS ZrE.nil))) λab=>Bh aZ [.rd (A3 aZ) [],.val (.slice none 0 0)] 1102 [] [.val (.slice none 0 0)] Z Z Z<|Bh Ad [.rd (A3 aZ) [],.rd (A3 Ad) []] 1102 [.rd (A3 aZ) []] [] Z Z Z<|BC (R:=A8) (⟨[],[]⟩:A4) 1102 Z (Sp.via (Sp.prod (Sp.prod Sp.unit)))<|Es (sto 1102 Z Z fH Z Aw)<|Zn<|A0<|Zq (faB 1102 Z Z underlying34 Z (by exact B2))<|Zq (ld 1102 Z Z (fP (BT _)) B8 Z)<|Zq (Ar Z .rd Z tu31)<|Zm Z<|Zn<|AJ (λ(a7:(List (V3 × Ae)) × Int) O U=>Sta (ctx 69 H [(1,some (M,.list A8 34 l0)),Am] w) [(6,.val a1),(8,.val (A7 ab 0)),(29,.vw A8 M l0 a0),(30,.rd A2 (a0.length:Int)),(31,.rd A2 a2.2),(36,.rd (A3 aZ) a6.IDs),(37,.rd A2 (a6.IDs.length:Int)),(38,.rd A2 a7.2)] [(1101,some (a1,.map aZ Ad a7.1)),(1102,some (ab,.box 34 [.rd A8 a6])),(1,some (M,.list A8 34 l0)),Am] O U) (λO U h=>Zu h [1101,1102,1,1001]) (λa7=>?_)
      refine A0<|Zq (I.lss Z Z)<|Zn<|A9<|gIf Z Z (λak=>?_) (λak=>?_)
      ·refine Zt<|A9<|AD<|A0<|Zm Z<|An λam ao=>Zq (ixR Z Z ao tu31 Ax Z)<|Zq (ldR Z AN)<|Eb Z (AL 1103 Ax (.zr (R:=aZ) (x:=(Vector.replicate 32 0)) C0)) λae=>Za Z<|Es (sto 1103 Z Z fH Z Ax)<|Zn<|Bt (λ(ap:Unit) O U=>Sta (ctx 69 H [(1,some (M,.list A8 34 l0)),Am] w) [(6,.val a1),(8,.val (A7 ab 0)),(9,.rd A2 a7.2),(10,.val (A7 ae 0)),(29,.vw A8 M l0 a0),(30,.rd A2 (a0.length:Int)),(31,.rd A2 a2.2),(36,.rd (A3 aZ) a6.IDs),(37,.rd A2 (a6.IDs.length:Int)),(38,.rd A2 a7.2)] [(1101,some (a1,.map aZ Ad a7.1)),(1102,some (ab,.box 34 [.rd A8 a6])),(1103,some (ae,.box 61 [.rd aZ am])),(1,some (M,.list A8 34 l0)),Am] O U) ?_ (λap=>?_)
       ·refine A0<|Zm Z<|Zq (ld 1103 Z Z fH AN Z)<|Zq (mlk2 Z (.own 1101 Z Z) Z ky61 underlying107 B4 Lx Z)<|Zm Z<|Zq (ext Z Z)<|Zq (ext Z Z)<|Eb Z (AL 1104 B4 (ZrE.rd (R:=Aa) (x:=0) (Zr.num Z) (ZrE.nilS (ZrE.rd (R:=Ao) (x:=0) (Zr.num Z) (ZrE.rd (R:=Ba) (x:=(⟨0,[],(⟨0,0,0,[]⟩:Az)⟩:AP)) CR (ZrE.rd (R:=Bc) (x:=(⟨0,0⟩:AC)) CM ZrE.nil Z) Z) Z)) Z)) λv25=>Bh aZ [.rd Aa 0,.rd (A3 aZ) [],.rd Ao 0,.rd Ba (⟨0,[],(⟨0,0,0,[]⟩:Az)⟩:AP),.rd Bc (⟨0,0⟩:AC)] 1104 [.rd Aa 0] [.rd Ao 0,.rd Ba (⟨0,[],(⟨0,0,0,[]⟩:Az)⟩:AP),.rd Bc (⟨0,0⟩:AC)] Z Z Z<|BC (R:=Ad) (⟨0,[],0,(⟨0,[],(⟨0,0,0,[]⟩:Az)⟩:AP),(⟨0,0⟩:AC)⟩:Ae) 1104 Z (Sp.via (Sp.prod (Sp.prod (Sp.prod (Sp.prod (Sp.prod Sp.unit))))))<|Es (sto 1104 Z Z fH Z B4)<|Za Z<|AR 12 Z λav=>Zn<|A9<|BK [] mixed Z Z<|A6 0 Z Z (mv Z)<|A6 1 Z Z (mv Z)<|hIf 50 Z Z (λa8=>?_) (λa8=>?_)
        ·refine hKn 12 Z Z a8<|hKn 49 Z Z a8<|Zg 2 Z Z (ld 1104 Z Z fH Bz Z)<|Zg 3 Z Z (faB 1102 Z Z underlying34 Z (by exact Bq))<|Zg 4 Z Z (ld 1102 Z Z (fP (BN _)) BL Z)<|Zg 5 Z Z (mv Z)<|BA λaw aq=>Zg 6 Z Z (ixR Z Z aq tu32 B4 Z)<|Zg 7 Z Z (ldR Z Bz)<|BH 8 [] [] Z (by kernel_rfl) Z Zx Z func54 Z Z (Uc _ _) (Y2 Z Z) rN Z (λ_ _=>DD) λax ay=>Zg 9 Z Z (By Z)<|A6 10 Z Z (pkT Z Z)<|Bg (by kernel_rfl)<|Ak<|gIf Z Z (λac=>?_) (λac=>?_)
         ·refine gKn 58 Z ac<|A0<|Zb Z<|A5<|Bl<|B7<|Ap<|Bp<|B7<|Bl<|Bp<|Bl<|Ze [] [1,1001] Z
         ·refine gKn 58 Z ac<|AU<|Bk (λO U h=>Zu h [1101,1102,1103,1,1001])
        ·refine hKn 12 Z Z a8<|hKn 49 Z Z a8<|hSk 2 Z Z<|hSk 3 Z Z<|hSk 4 Z Z<|hSk 5 Z Z<|hSk 6 Z Z<|hSk 7 Z Z<|hSk 8 Z Z<|hSk 9 Z Z<|A6 10 Z Z (pkF Z Z)<|Bg (by kernel_rfl)<|Ak<|DL Z<|AU<|Bk (λO U h=>Zu h [1101,1102,1103,1,1001])
       ·refine BK [1101] mixed Z Z<|A6 0 Z Z (mv Z)<|A6 1 Z Z (ld 1103 Z Z fH AN Z)<|A6 2 Z Z (faB 1102 Z Z underlying34 Z (by exact Bq))<|A6 3 Z Z (ld 1102 Z Z (fP (BN _)) BL Z)<|A6 4 Z Z (mv Z)<|BA λaz ar=>A6 5 Z Z (ixR Z Z ar tu32 B4 Z)<|A6 6 Z Z (ldR Z Bz)<|Zp 7 Z Z Z Z Z (mup 1101 Z Z Z Z ky61 underlying107)<|Bg (by kernel_rfl)<|Au<|Ak<|Al<|Zq (I.add Z Z)<|Zm Z<|Ah<|AB (λO U h=>Zu h [1101,1102,1,1001])
      ·refine AF<|AG<|AI<|Au<|Bk (λO U h=>Zu h [1101,1,1001])
     ·refine Al<|Zq (I.add Z Z)<|Zm Z<|Ah<|AB (λO U h=>Zu h [1101,1,1001])
    ·refine AF<|AG<|AI<|Bk (λO U h=>Zu h [1,1001])
   ·refine A0<|Zb Z<|A5<|Ze [] [1,1001] Z
theorem zkx (a0:List A4) (M:Value) (l0:List A4):Aj Tryz.prog 38 [.vw A8 M l0 a0] [(1,some (M,.list A8 34 l0)),Am] (IQ a0) (λr nv=>⟨[.rd Ai r.1,.rd A2 r.2],[(1,some (M,.list A8 34 l0)),(1001,some (.bool true,.glob 1 (Av 64 Aa) Bv))]⟩):=by
 refine Aq 27 func38 Z Z Z λH w=>?_;refine A0<|Za Z<|Zb Z<|A9<|A0<|Zm Z<|Zc [1,1001] [(1,1)] func31 Z (N9 _ _ _) λr1 n2=>Zb Z<|A0<|Zm Z<|Zq (I.neq Z Z)<|Zj Z (λh3=>?_) (λh3=>?_)
 ·refine A0<|Zm Z<|Za Z<|Zb Z<|A5<|Ap<|Ze [] [1,1001] Z
 ·refine Zt<|Bt (λ(s4:Unit) O U=>Sta (ctx 27 H [(1,some (M,.list A8 34 l0)),Am] w) [] [(1,some (M,.list A8 34 l0)),Am] O U) ?_ (λs4=>?_)
  ·refine A0<|Zm Z<|Zq (Ar Z (.vw 1 Z) Z tu22)<|Zm Z<|Zn<|AJ (λ(s5:Int) O U=>Sta (ctx 27 H [(1,some (M,.list A8 34 l0)),Am] w) [(0,.vw A8 M l0 a0),(12,.vw A8 M l0 a0),(13,.rd A2 (a0.length:Int)),(14,.rd A2 s5)] [(1,some (M,.list A8 34 l0)),Am] O U) (λO U h=>Zu h [1,1001]) (λs5=>?_);refine A0<|Zq (I.lss Z Z)<|Zn<|A9<|gIf Z Z (λh6=>?_) (λh6=>?_)
   ·refine Zt<|A9<|AD<|A0<|An λx7 h8=>Zq (ixQ 1 Z Z Z h8 tu22 Aw)<|Zq (ldQ 1 Z Z AH Z)<|Eb Z (AL 1100 Aw (ZrE.nilS (ZrE.nilS ZrE.nil))) λv9=>Bh aZ [.rd (A3 aZ) [],.val (.slice none 0 0)] 1100 [] [.val (.slice none 0 0)] Z Z Z<|Bh Ad [.rd (A3 aZ) [],.rd (A3 Ad) []] 1100 [.rd (A3 aZ) []] [] Z Z Z<|BC (R:=A8) (⟨[],[]⟩:A4) 1100 Z (Sp.via (Sp.prod (Sp.prod Sp.unit)))<|Es (sto 1100 Z Z fH Z Aw)<|Zn<|A9<|BK [] mixed Z Z<|A6 0 Z Z (faB 1100 Z Z underlying34 Z (by exact B2))<|A6 1 Z Z (ld 1100 Z Z (fP (BT _)) B8 Z)<|A6 2 Z Z (mv Z)<|BA λa6 a1=>A6 3 Z Z (ixQ 1 Z Z Z a1 tu22 Aw)<|A6 4 Z Z (faQ Z (BT _) underlying34 Z Z (by exact B2))<|A6 5 Z Z (ldVf 1 Z Z B8 Z)<|BH 6 [] [] Z (by kernel_rfl) Z (gd0 Z) Z func45 Z Z (P5 _ _) (Y2 Z Z) rN Z (λ_ _=>DD) λa7 a8=>A6 7 Z Z (By Z)<|Bg (by kernel_rfl)<|Ak<|gIf Z Z (λa2=>?_) (λa2=>?_)
    ·refine A0<|Za Z<|Zb Z<|A5<|B7<|Ap<|Bp<|Bl<|Ze [] [1,1001] Z
    ·refine AU<|Au<|Ak<|Al<|Zq (I.add Z Z)<|Zm Z<|Ah<|AB (λO U h=>Zu h [1,1001])
   ·refine AF<|AG<|AI<|Bk (λO U h=>Zu h [1,1001])
  ·refine A0<|Za Z<|Zb Z<|A5<|Ze [] [1,1001] Z
def Pi (M:(List A4) × Int):Option (Sum (Sum (Int × Int) Unit) ((List A4) × Int)) :=
 if decide (M.2<3) then
  IQ M.1>>=λU =>
  (if U.2 != 0 then
   some true
  else
   some U.1)>>=λa1 =>
  if a1 then
   some (.inl (.inl (M.2,U.2)))
  else
   KG M.1>>=λO =>
   if O.1 != 0 then
    some (.inl (.inl (0,O.1)))
   else
    some (.inr (O.2,w64 (M.2+1)))
 else
  some (.inl (.inr ()))
def Na (a0:List A4):Option (Int × Int) :=
 Fc a0>>=λM =>
 if M != 0 then
  some (0,M)
 else
  HC a0>>=λO =>
  Bi (iter (Pi) (O,0)) λs6 =>
  some (0,2)
def KJ (a0:List A4) (O:List Int) (M:Int):Option (Sum (Sum Bool Unit) Int) :=
 if decide (M<(a0.length:Int)) then
  idx a0 M>>=λU =>
  idx O M>>=λx7 =>
  if (U.IDs.length:Int) != x7 then
   some (.inl (.inl false))
  else
   some (.inr (w64 (M+1)))
 else
  some (.inl (.inr ()))
def FH (a0:List A4) (M:List Int):Option (Bool) :=
 if (a0.length:Int) != (M.length:Int) then
  some false
 else
  Bi (iter (KJ a0 M) 0) λs2 =>
  some true
def KK (a0:List (List Int)) (a1:List (List Int)) (O:Int) (M:Int):Option (Sum (Sum (Sum (Sum Bool Unit) Int) Unit) Int) :=
 idx a0 O>>=λU =>
 if decide (M<(U.length:Int)) then
  idx a0 O>>=λa2 =>
  idx a2 M>>=λa6 =>
  idx a1 O>>=λa7 =>
  idx a7 M>>=λa8 =>
  if a6 != a8 then
   some (.inl (.inl (.inl (.inl false))))
  else
   some (w64 (M+1))>>=λaa =>
   some (.inr aa)
 else
  some (.inl (.inr ()))
def KL (a0:List (List Int)) (O:List (List Int)) (M:Int):Option (Sum (Sum Bool Unit) Int) :=
 if decide (M<(a0.length:Int)) then
  Bi (idx a0 M>>=λU =>
  idx O M>>=λx8 =>
  if (U.length:Int) != (x8.length:Int) then
   some (.inl (.inl (.inl false)))
  else
   iter (KK a0 O M) 0) λs5 =>
  some (.inr (w64 (M+1)))
 else
  some (.inl (.inr ()))
def Nb (a0:List (List Int)) (M:List (List Int)):Option (Bool) :=
 if (a0.length:Int) != (M.length:Int) then
  some false
 else
  Bi (iter (KL a0 M) 0) λs2 =>
  some true
theorem zid (a0:List (List Int)) (U:List (List Int)):Aj Tryz.prog 19 [.rd (A3 (A3 A2)) a0,.rd (A3 (A3 A2)) U] [] (Nb a0 U) (λr nv=>⟨[.rd Ai r],[]⟩):=by
 refine Aq 53 func19 Z Z Z λH w=>?_;refine A0<|Zb Z<|A9<|A0<|Zm Z<|Zq (Ar Z .rd Z tu46)<|Zm Z<|Zq (Ar Z .rd Z tu46)<|Zq (I.neq Z Z)<|Zj Z (λh1=>?_) (λh1=>?_)
 ·refine A0<|Zb Z<|A5<|Ap<|Ze [] [] Z
 ·refine Zt<|Bt (λ(s2:Unit) M O=>Sta (ctx 53 H [] w) [] [] M O) ?_ (λs2=>?_)
  ·refine A0<|Zb Z<|AJ (λ(s3:Int) M O=>Sta (ctx 53 H [] w) [(0,.rd (A3 (A3 A2)) a0),(1,.rd (A3 (A3 A2)) U),(5,.rd A2 s3)] [] M O) (λM O h=>Zu h []) (λs3=>?_);refine A9<|A0<|Zm Z<|Zm Z<|Zq (Ar Z .rd Z tu46)<|Zq (I.lss Z Z)<|Zj Z (λh4=>?_) (λh4=>?_)
   ·refine Zt<|Bt (λ(s5:Unit) M O=>Sta (ctx 53 H [] w) [(0,.rd (A3 (A3 A2)) a0),(1,.rd (A3 (A3 A2)) U),(5,.rd A2 s3)] [] M O) ?_ (λs5=>?_)
    ·refine AD<|A9<|A9<|Dr mixed (by kernel_rfl)<|Rq Z (mv Z)<|Rq Z (mv Z)<|BM λx6 h7=>Rq Z (ixR Z Z h7 tu46 ti57 Z)<|Rq Z (ldR Z ty57)<|Rq Z (Ar Z .rd Z tu57)<|Rq Z (mv Z)<|Rq Z (mv Z)<|BM λx8 h9=>Rq Z (ixR Z Z h9 tu46 ti57 Z)<|Rq Z (ldR Z ty57)<|Rq Z (Ar Z .rd Z tu57)<|Rq Z (I.neq Z Z)<|Ds<|Ak<|gIf Z Z (λa6=>?_) (λa6=>?_)
     ·refine A0<|Zb Z<|A5<|Ap<|B7<|Bl<|Bp<|Bl<|Ze [] [] Z
     ·refine Zt<|A0<|Zb Z<|AJ (λ(a2:Int) M O=>Sta (ctx 53 H [] w) [(0,.rd (A3 (A3 A2)) a0),(1,.rd (A3 (A3 A2)) U),(5,.rd A2 s3),(6,.rd A2 a2)] [] M O) (λM O h=>Zu h []) (λa2=>?_);refine A9<|A0<|Zm Z<|Zm Z<|Zm Z<|An λah a7=>Zq (ixR Z Z a7 tu46 ti57 Z)<|Zq (ldR Z ty57)<|Zq (Ar Z .rd Z tu57)<|Zq (I.lss Z Z)<|Zj Z (λa8=>?_) (λa8=>?_)
      ·refine Zt<|A9<|AD<|A9<|Dr mixed (by kernel_rfl)<|Rq Z (mv Z)<|Rq Z (mv Z)<|BM λai ab=>Rq Z (ixR Z Z ab tu46 ti57 Z)<|Rq Z (ldR Z ty57)<|Rq Z (mv Z)<|BM λaj ac=>Rq Z (ixR Z Z ac tu57 ti3 Z)<|Rq Z (ldR Z ty3)<|Rq Z (mv Z)<|Rq Z (mv Z)<|BM λak ad=>Rq Z (ixR Z Z ad tu46 ti57 Z)<|Rq Z (ldR Z ty57)<|Rq Z (mv Z)<|BM λam ae=>Rq Z (ixR Z Z ae tu57 ti3 Z)<|Rq Z (ldR Z ty3)<|Rq Z (I.neq Z Z)<|Ds<|Ak<|gIf Z Z (λaf=>?_) (λaf=>?_)
       ·refine A0<|Zb Z<|A5<|B7<|Ap<|Bp<|B7<|Bl<|Bp<|Bl<|Ze [] [] Z
       ·refine AU<|Au<|Ak<|Al<|Zm Z<|Zq (I.add Z Z)<|Za Z<|AR 6 Z λao=>Ah<|AB (λM O h=>Zu h [])
      ·refine AF<|AG<|AI<|Au<|Bk (λM O h=>Zu h [])
    ·refine Al<|Zm Z<|Zq (I.add Z Z)<|Za Z<|Ah<|AB (λM O h=>Zu h [])
   ·refine AF<|AG<|AI<|Bk (λM O h=>Zu h [])
  ·refine A0<|Zb Z<|A5<|Ze [] [] Z
theorem Pj (a0:List A4) (M:Value) (l0:List A4):Aj Tryz.prog 32 [.vw A8 M l0 a0] [(1,some (M,.list A8 34 l0))] (HC a0) (λr O=>⟨[.val (O 0)],[(1,some (M,.list A8 34 l0)),(100,some (O 0,.list A8 34 r))]⟩):=by
 refine Aq 19 func32 Z Z Z λH w=>?_;refine A0<|Zb Z<|A0<|Zb Z<|B6 (λ(s1:(List A4)) U ww=>∃ O:Nat->Value,Sta (ctx 19 H [(1,some (M,.list A8 34 l0))] w) [(3,.val (O 0))] [(4,some ((O 0),.list A8 34 s1)),(1,some (M,.list A8 34 l0))] U ww) ?_ (λs1=>?_)
 ·refine A0<|Zm Z<|Zq (Ar Z (.vw 1 Z) Z tu22)<|Zm Z<|Zn<|DB A8 34 8<|AJ (λ(s2:(List A4) × Int) U ww=>∃ O:Nat->Value,Sta (ctx 19 H [(1,some (M,.list A8 34 l0))] w) [(3,.val (O 0)),(6,.vw A8 M l0 a0),(7,.rd A2 (a0.length:Int)),(8,.rd A2 s2.2)] [(7,some ((O 0),.list A8 34 s2.1)),(1,some (M,.list A8 34 l0))] U ww) (λU ww h=>⟨nvl [(.slice none 0 0)],Zu h [8,1]⟩) (λs2=>?_);refine gEx λn3=>A0<|Zq (I.lss Z Z)<|Zn<|A9<|gIf Z Z (λh4=>?_) (λh4=>?_)
  ·refine Zt<|A9<|AD<|A0<|An λx5 h6=>Zq (ixQ 1 Z Z Z h6 tu22 Aw)<|Zq (ldQ 1 Z Z AH Z)<|Eb Z (AL 9 Aw (ZrE.nilS (ZrE.nilS ZrE.nil))) λv7=>Bh aZ [.rd (A3 aZ) [],.val (.slice none 0 0)] 9 [] [.val (.slice none 0 0)] Z Z Z<|Bh Ad [.rd (A3 aZ) [],.rd (A3 Ad) []] 9 [.rd (A3 aZ) []] [] Z Z Z<|BC (R:=A8) (⟨[],[]⟩:A4) 9 Z (Sp.via (Sp.prod (Sp.prod Sp.unit)))<|Es (sto 9 Z Z fH Z Aw)<|Zn<|Al<|Zm Z<|Zq (ld 9 Z Z fH AH Z)<|Zc [] [] func55 Z (Pe _) λr8 n9=>Ef Z (lit (R:=A8) ([r8]:List A4) 10 (pP Z Z<|pN) Z tu22 Aw Z Z) λa7=>BG 10 [15] Z (fS Z<|fN)<|An λa8 a1=>Ef Z (apn 7 Z Z Z .rd a1 tu22 Aw Z Z Z) λa2=>Za Z<|Ah<|Au<|Ak<|Al<|Zq (I.add Z Z)<|Zm Z<|Ah<|AB (λU ww h=>⟨nvl [a2],Zu h [7,1]⟩)
  ·refine AF<|AG<|AI<|AA (λU ww h=>⟨nvl [(n3 0)],Zu h [7,1]⟩)
 ·refine gEx λa6=>A0<|Zm Z<|Zb Z<|A5<|Ze [(a6 0)] [1,4] Z
theorem zlz (a0:List A4) (U:Value) (l0:List A4) (a1:List AX) (M:Value) (O:List AX):Aj Tryz.prog 12 [.vw A8 U l0 a0,.vw Bn M O a1] [(1,some (U,.list A8 34 l0)),(2,some (M,.list Bn 24 O)),Am] (GR a0 a1) (λr nv=>⟨[.val (nv 0),.rd A2 r.2],[(1,some (U,.list A8 34 l0)),(2,some (M,.list Bn 24 O)),(1001,some (.bool true,.glob 1 (Av 64 Aa) Bv)),(100,some (nv 0,.list A8 34 r.1))]⟩):=by
 refine Aq 35 func12 Z Z Z λH w=>?_;refine A0<|Za Z<|Zb Z<|A9<|A0<|Zm Z<|Zc [1,1001] [(1,1)] func31 Z (N9 _ _ _) λr1 n2=>Zb Z<|A0<|Zm Z<|Zq (I.neq Z Z)<|Zj Z (λh3=>?_) (λh3=>?_)
 ·refine A0<|Zm Z<|Za Z<|Zb Z<|A5<|Ap<|Cq A8 34 3<|Ze [(.slice none 0 0)] [1,2,1001,3] Z
 ·refine Zt<|A9<|A0<|Zm Z<|Zq (Ar Z (.vw 2 Z) Z tu42)<|Zq (I.gtr Z Z)<|Zj Z (λh4=>?_) (λh4=>?_)
  ·refine A0<|Za Z<|Zb Z<|A5<|Ap<|Cq A8 34 4<|Ze [(.slice none 0 0)] [1,2,1001,4] Z
  ·refine Zt<|A0<|Zm Z<|Zc [1] [(100,5),(1,1)] func32 Z (Pj _ _ _) λr5 n6=>Zb Z<|Bt (λ(s7:(List A4)) aa ww=>Sta (ctx 35 H [(1,some (U,.list A8 34 l0)),(2,some (M,.list Bn 24 O)),Am] w) [(7,.val (n6 0))] [(5,some ((n6 0),.list A8 34 s7)),(1,some (U,.list A8 34 l0)),(2,some (M,.list Bn 24 O)),Am] aa ww) ?_ (λs7=>?_)
   ·refine A0<|Zm Z<|Zq (Ar Z (.vw 2 Z) Z tu42)<|Zm Z<|Zn<|AJ (λ(s8:(List A4) × Int) aa ww=>Sta (ctx 35 H [(1,some (U,.list A8 34 l0)),(2,some (M,.list Bn 24 O)),Am] w) [(7,.val (n6 0)),(21,.vw Bn M O a1),(22,.rd A2 (a1.length:Int)),(23,.rd A2 s8.2)] [(5,some ((n6 0),.list A8 34 s8.1)),(2,some (M,.list Bn 24 O)),(1,some (U,.list A8 34 l0)),Am] aa ww) (λaa ww h=>Zu h [5,2,1,1001]) (λs8=>?_)
    refine A0<|Zq (I.lss Z Z)<|Zn<|A9<|gIf Z Z (λh9=>?_) (λh9=>?_)
    ·refine Zt<|A9<|AD<|A0<|An λa7 a2=>Zq (ixQ 2 Z Z Z a2 tu42 Db)<|Zq (ldQ 2 Z Z DM Z)<|Eb Z (AL 1100 Db (.zr (R:=Bn) (x:=(⟨0,0⟩:AX)) FV)) λa8=>Es (sto 1100 Z Z fH Z Db)<|Zn<|A0<|Zm Z<|Zq (ld 1100 Z Z fH DM Z)<|Zc [5,1001] [(1,5)] func33 Z (Pf _ _ _) λab ac=>Zb Z<|A0<|Zm Z<|Zq (I.neq Z Z)<|Zj Z (λa6=>?_) (λa6=>?_)
     ·refine A0<|Zm Z<|Za Z<|Zb Z<|A5<|B7<|Ap<|Bp<|Bl<|Cq A8 34 1101<|Ze [(.slice none 0 0)] [1,2,1001,1101] Z
     ·refine AU<|Au<|Ak<|Al<|Zq (I.add Z Z)<|Zm Z<|Ah<|AB (λaa ww h=>Zu h [5,2,1,1001])
    ·refine AF<|AG<|AI<|Bk (λaa ww h=>Zu h [5,1,2,1001])
   ·refine A0<|Zm Z<|Za Z<|Zb Z<|A5<|Ze [(n6 0)] [1,2,1001,5] Z
theorem zm1 (a0:Int) (a1:List AX) (q1:Value) (l1:List AX):Aj Tryz.prog 14 [.rd A2 a0,.vw Bn q1 l1 a1] [(1,some (q1,.list Bn 24 l1))] (IP a0 a1) (λr nv=>⟨[.val (nv 0),.rd A2 r.2],[(1,some (q1,.list Bn 24 l1)),(100,some (nv 0,.list (A3 A2) 57 r.1))]⟩):=by
 refine Aq 86 func14 Z Z Z λH w=>?_;refine A0<|Za Z<|Zb Z<|A9<|A0<|Zm Z<|Zq (I.lss Z Z)<|Zm Z<|AY 17 Z (λh1=>?_) (λh1=>?_)
 ·refine Ac 16 Z h1<|Zk Z<|Zk Z<|Zq (pkT Z Z)<|Zn<|Dm Z<|A0<|Za Z<|Zb Z<|A5<|Ap<|Cq (A3 A2) 57 2<|Ze [(.slice none 0 0)] [1,2] Z
 ·refine Ac 16 Z h1<|Ab Zx Z Z (mv Z)<|Ab Zx Z Z (I.gtr Z Z)<|Zq (pkF Z Z)<|Zj Z (λh2=>?_) (λh2=>?_)
  ·refine gKn 19 Z h2<|A0<|Za Z<|Zb Z<|A5<|Ap<|Cq (A3 A2) 57 3<|Ze [(.slice none 0 0)] [1,3] Z
  ·refine gKn 19 Z h2<|Zt<|A9<|A0<|Zm Z<|Zq (Ar Z (.vw 1 Z) Z tu42)<|Zq (I.gtr Z Z)<|Zj Z (λh3=>?_) (λh3=>?_)
   ·refine A0<|Za Z<|Zb Z<|A5<|Ap<|Cq (A3 A2) 57 4<|Ze [(.slice none 0 0)] [1,4] Z
   ·refine Zt<|A0<|Eb Z (AL 5 ti84 (.zr (R:=(Av 5 Ao)) (x:=(Vector.replicate 5 0)) Y7)) λv4=>Zn<|B6 (λ(s5:(Vector UInt64 5)) M O=>Sta (ctx 86 H [(1,some (q1,.list Bn 24 l1))] w) [(0,.rd A2 a0),(1,.vw Bn q1 l1 a1),(6,.val (A7 v4 0))] [(1,some (q1,.list Bn 24 l1)),(5,some (v4,.box 84 [.rd (Av 5 Ao) s5]))] M O) ?_ (λs5=>?_)
    ·refine A0<|Zm Z<|Zn<|AJ (λ(s6:(Vector UInt64 5) × Int) M O=>Sta (ctx 86 H [(1,some (q1,.list Bn 24 l1))] w) [(0,.rd A2 a0),(1,.vw Bn q1 l1 a1),(6,.val (A7 v4 0)),(24,.rd A2 s6.2)] [(1,some (q1,.list Bn 24 l1)),(5,some (v4,.box 84 [.rd (Av 5 Ao) s6.1]))] M O) (λM O h=>Zu h [1,5]) (λs6=>?_);refine A0<|Zq (I.lss Z Z)<|Zn<|A9<|gIf Z Z (λh7=>?_) (λh7=>?_)
     ·refine Zt<|A9<|AD<|A0<|Zm Z<|Zb Z<|Al<|Zm Z<|Zm Z<|An λu8 h9=>Zq (U.shl Z Z (CI h9))<|An λb1 ad=>Zq (ixB 5 Z Z Z ad underlying84 ti83)<|Es (sto 5 Z Z (fP (.el ad)) Z ti83)<|Ah<|Au<|Ak<|Al<|Zq (I.add Z Z)<|Zm Z<|Ah<|AB (λM O h=>Zu h [1,5])
     ·refine AF<|AG<|AI<|AA (λM O h=>Zu h [1,5])
    ·refine Bt (λ(a6:(Vector UInt64 5)) M O=>Sta (ctx 86 H [(1,some (q1,.list Bn 24 l1))] w) [(0,.rd A2 a0),(6,.val (A7 v4 0))] [(5,some (v4,.box 84 [.rd (Av 5 Ao) a6])),(1,some (q1,.list Bn 24 l1))] M O) ?_ (λa6=>?_)
     ·refine A0<|Zm Z<|Zq (Ar Z (.vw 1 Z) Z tu42)<|Zm Z<|Zn<|AJ (λ(ab:(Vector UInt64 5) × Int) M O=>Sta (ctx 86 H [(1,some (q1,.list Bn 24 l1))] w) [(0,.rd A2 a0),(6,.val (A7 v4 0)),(32,.vw Bn q1 l1 a1),(33,.rd A2 (a1.length:Int)),(34,.rd A2 ab.2)] [(5,some (v4,.box 84 [.rd (Av 5 Ao) ab.1])),(1,some (q1,.list Bn 24 l1))] M O) (λM O h=>Zu h [5,1]) (λab=>?_);refine A0<|Zq (I.lss Z Z)<|Zn<|A9<|gIf Z Z (λao=>?_) (λao=>?_)
      ·refine Zt<|A9<|AD<|A0<|An λb2 ap=>Zq (ixQ 1 Z Z Z ap tu42 Db)<|Zq (ldQ 1 Z Z DM Z)<|Eb Z (AL 6 Db (.zr (R:=Bn) (x:=(⟨0,0⟩:AX)) FV)) λb3=>Es (sto 6 Z Z fH Z Db)<|Zn<|A9<|A0<|Zm Z<|Zq (ld 6 Z Z fH DM Z)<|Zc [] [] func34 Z (Ud _ _) λb4 b5=>Zq (By Z)<|Zj Z (λaq=>?_) (λaq=>?_)
       ·refine A0<|Za Z<|Zb Z<|A5<|Ap<|B7<|Ap<|Bp<|Bl<|Cq (A3 A2) 57 7<|Ze [(.slice none 0 0)] [1,7] Z
       ·refine Zt<|A9<|Dr mixed (by kernel_rfl)<|Rq Z (faB 6 Z Z underlying24 Z (by exact ti3))<|Rq Z (ld 6 Z Z (fP (CT _)) ty3 Z)<|BM λb6 ae=>Rq Z (ixB 5 Z Z Z ae underlying84 ti83)<|Rq Z (ld 5 Z Z (fP (.el ae)) ty83 Z)<|Rq Z (faB 6 Z Z underlying24 Z (by exact ti3))<|Rq Z (ld 6 Z Z (fP (D3 _)) ty3 Z)<|BM λb7 af=>Rq Z (ixB 5 Z Z Z af underlying84 ti83)<|Rq Z (ld 5 Z Z (fP (.el af)) ty83 Z)<|Rq Z (U.or Z Z)<|Rq Z (asg Z)<|Ds<|Ak<|BK [5] mixed Z Z<|A6 0 Z Z (faB 6 Z Z underlying24 Z (by exact ti3))<|A6 1 Z Z (ld 6 Z Z (fP (CT _)) ty3 Z)<|A6 2 Z Z (faB 6 Z Z underlying24 Z (by exact ti3))<|A6 3 Z Z (ld 6 Z Z (fP (D3 _)) ty3 Z)<|A6 4 Z Z (mv Z)<|A6 5 Z Z (mv Z)<|BA λb8 ah=>A6 6 Z Z (ixB 5 Z Z Z ah underlying84 ti83)<|Zp 7 Z Z Z Z Z (sto 5 Z Z (fP (.el ah)) Z ti83)<|BA λb9 ai=>Zf 8 Z Z Ce (ixB 5 Z Z Z ai underlying84 ti83)<|Zp 9 Z Z Z Z Z (sto 5 Z Z (fP (.el ai)) Z ti83)<|Bg (by kernel_rfl)<|Au<|Ak<|Al<|Zq (I.add Z Z)<|Zm Z<|Ah<|AB (λM O h=>Zu h [5,1])
      ·refine AF<|AG<|AI<|Bk (λM O h=>Zu h [5,1])
     ·refine A0<|Zb Z<|B6 (λ(aj:(List (List Int))) M O=>∃ nv:Nat->Value,Sta (ctx 86 H [(1,some (q1,.list Bn 24 l1))] w) [(11,.val (nv 0))] [(48,some ((nv 0),.list (A3 A2) 57 aj)),(1,some (q1,.list Bn 24 l1))] M O) ?_ (λaj=>?_)
      ·refine A0<|Zm Z<|Zm Z<|Zn<|DB (A3 A2) 57 57<|AJ (λ(a2:(List (List Int)) × Int) M O=>∃ nv:Nat->Value,Sta (ctx 86 H [(1,some (q1,.list Bn 24 l1))] w) [(0,.rd A2 a0),(6,.val (A7 v4 0)),(11,.val (nv 0)),(60,.rd A2 a0),(61,.rd A2 a2.2)] [(5,some (v4,.box 84 [.rd (Av 5 Ao) a6])),(56,some ((nv 0),.list (A3 A2) 57 a2.1)),(1,some (q1,.list Bn 24 l1))] M O) (λM O h=>⟨nvl [(.slice none 0 0)],Zu h [5,57,1]⟩) (λa2=>?_)
       refine gEx λa7=>A0<|Zq (I.lss Z Z)<|Zn<|A9<|gIf Z Z (λar=>?_) (λar=>?_)
       ·refine Zt<|A9<|AD<|A0<|Zm Z<|Zb Z<|A0<|Zb Z<|B6 (λ(ac:(List Int)) M O=>∃ nv:Nat->Value,Sta (ctx 86 H [(1,some (q1,.list Bn 24 l1))] w) [(0,.rd A2 a0),(6,.val (A7 v4 0)),(11,.val (a7 0)),(13,.val (nv 0)),(60,.rd A2 a0),(61,.rd A2 a2.2)] [(5,some (v4,.box 84 [.rd (Av 5 Ao) a6])),(56,some ((a7 0),.list (A3 A2) 57 a2.1)),(59,some ((nv 0),.list A2 3 ac)),(1,some (q1,.list Bn 24 l1))] M O) ?_ (λac=>?_)
        ·refine A0<|Zm Z<|Zm Z<|Zn<|DB A2 3 62<|AJ (λ(a8:(List Int) × Int) M O=>∃ nv:Nat->Value,Sta (ctx 86 H [(1,some (q1,.list Bn 24 l1))] w) [(0,.rd A2 a0),(6,.val (A7 v4 0)),(11,.val (a7 0)),(12,.rd A2 a2.2),(13,.val (nv 0)),(60,.rd A2 a0),(61,.rd A2 a2.2),(64,.rd A2 a0),(65,.rd A2 a8.2)] [(5,some (v4,.box 84 [.rd (Av 5 Ao) a6])),(56,some ((a7 0),.list (A3 A2) 57 a2.1)),(61,some ((nv 0),.list A2 3 a8.1)),(1,some (q1,.list Bn 24 l1))] M O) (λM O h=>⟨nvl [(.slice none 0 0)],Zu h [5,56,62,1]⟩) (λa8=>?_)
         refine gEx λak=>A0<|Zq (I.lss Z Z)<|Zn<|A9<|gIf Z Z (λav=>?_) (λav=>?_)
         ·refine Zt<|A9<|AD<|A0<|Zm Z<|Zb Z<|A0<|Zm Z<|An λba am=>Zq (ixB 5 Z Z Z am underlying84 ti83)<|Zq (ld 5 Z Z (fP (.el am)) ty83 Z)<|Zm Z<|An λbb aw=>Zq (U.shr Z Z (CI aw))<|Zq (U.and Z Z)<|Zq (U.eql Z Z)<|Zj Z (λax=>?_) (λax=>?_)
          ·refine Al<|Zm Z<|Zm Z<|Ef Z (lit (R:=A2) ([a8.2]:List Int) 63 (pP Z Z<|pN) Z tu57 ti3 Z Z) λbc=>An λbd ay=>Ef Z (apn 61 Z Z Z (.own 63 Z) ay tu57 ti3 Z Z Z) λv45=>Za Z<|Ah<|Au<|Ak<|Al<|Zq (I.add Z Z)<|Zm Z<|Ah<|AB (λM O h=>⟨nvl [v45],Zu h [5,56,61,1]⟩)
          ·refine AU<|Au<|Ak<|Al<|Zq (I.add Z Z)<|Zm Z<|Ah<|AB (λM O h=>⟨nvl [(ak 0)],Zu h [5,56,61,1]⟩)
         ·refine AF<|AG<|AI<|AA (λM O h=>⟨nvl [(ak 0)],Zu h [5,56,61,1]⟩)
        ·refine gEx λbe=>Al<|Zm Z<|Zm Z<|BG 59 [13,81] Z (fS Z<|fS Z<|fN)<|Ef Z (lit (R:=(A3 A2)) ([ac]:List (List Int)) 64 (pP Z Z<|pN) Z tu46 ti57 Z Z) λbf=>BG 64 [82] Z (fS Z<|fN)<|An λbg az=>Ef Z (apn 56 Z Z Z .rd az tu46 ti57 Z Z Z) λv50=>Za Z<|Ah<|Au<|Ak<|Al<|Zq (I.add Z Z)<|Zm Z<|Ah<|AB (λM O h=>⟨nvl [v50],Zu h [5,56,1]⟩)
       ·refine AF<|AG<|AI<|AA (λM O h=>⟨nvl [(a7 0)],Zu h [56,1]⟩)
      ·refine gEx λb0=>A0<|Zm Z<|Za Z<|Zb Z<|A5<|Ze [(b0 0)] [1,48] Z
theorem Uf (a0:List A4) (M:Value) (l0:List A4) (a1:Int):Aj Tryz.prog 15 [.vw A8 M l0 a0,.rd A2 a1] [(1,some (M,.list A8 34 l0)),Am] (HF a0 a1) (λr nv=>⟨[.val (nv 0),.rd A2 r.2],[(1,some (M,.list A8 34 l0)),(1001,some (.bool true,.glob 1 (Av 64 Aa) Bv)),(100,some (nv 0,.list A8 34 r.1))]⟩):=by
 refine Aq 32 func15 Z Z Z λH w=>?_;refine A0<|Za Z<|Zb Z<|A9<|A0<|Zm Z<|Zc [1,1001] [(1,1)] func31 Z (N9 _ _ _) λr1 n2=>Zb Z<|A0<|Zm Z<|Zq (I.neq Z Z)<|Zj Z (λh3=>?_) (λh3=>?_)
 ·refine A0<|Zm Z<|Za Z<|Zb Z<|A5<|Ap<|Cq A8 34 2<|Ze [(.slice none 0 0)] [1,1001,2] Z
 ·refine Zt<|A9<|A0<|Zm Z<|Zq (I.lss Z Z)<|Zm Z<|AY 16 Z (λh4=>?_) (λh4=>?_)
  ·refine Ac 15 Z h4<|Zk Z<|Zk Z<|Zq (pkT Z Z)<|Zn<|Dm Z<|A0<|Za Z<|Zb Z<|A5<|Ap<|Cq A8 34 3<|Ze [(.slice none 0 0)] [1,1001,3] Z
  ·refine Ac 15 Z h4<|Ab Zx Z Z (mv Z)<|Ab Zx Z Z (I.gtr Z Z)<|Zq (pkF Z Z)<|Zj Z (λh5=>?_) (λh5=>?_)
   ·refine gKn 18 Z h5<|A0<|Za Z<|Zb Z<|A5<|Ap<|Cq A8 34 4<|Ze [(.slice none 0 0)] [1,1001,4] Z
   ·refine gKn 18 Z h5<|Zt<|A0<|Zm Z<|Zc [1] [(100,5),(1,1)] func32 Z (Pj _ _ _) λr6 n7=>Zb Z<|Bt (λ(s8:(List A4)) O U=>Sta (ctx 32 H [(1,some (M,.list A8 34 l0)),Am] w) [(7,.val (n7 0))] [(5,some ((n7 0),.list A8 34 s8)),(1,some (M,.list A8 34 l0)),Am] O U) ?_ (λs8=>?_)
    ·refine A0<|Zm Z<|Zm Z<|Zn<|AJ (λ(s9:(List A4) × Int) O U=>Sta (ctx 32 H [(1,some (M,.list A8 34 l0)),Am] w) [(7,.val (n7 0)),(22,.rd A2 a1),(23,.rd A2 s9.2)] [(5,some ((n7 0),.list A8 34 s9.1)),(1,some (M,.list A8 34 l0)),Am] O U) (λO U h=>Zu h [5,1,1001]) (λs9=>?_);refine A0<|Zq (I.lss Z Z)<|Zn<|A9<|gIf Z Z (λa2=>?_) (λa2=>?_)
     ·refine Zt<|A9<|AD<|A0<|Zm Z<|Zc [5,1001] [(1,5)] func35 Z (Ue _ _) λa7 a8=>Zb Z<|A0<|Zm Z<|Zq (I.neq Z Z)<|Zj Z (λa6=>?_) (λa6=>?_)
      ·refine A0<|Zm Z<|Za Z<|Zb Z<|A5<|B7<|Ap<|Bp<|Bl<|Cq A8 34 1100<|Ze [(.slice none 0 0)] [1,1001,1100] Z
      ·refine AU<|Au<|Ak<|Al<|Zq (I.add Z Z)<|Zm Z<|Ah<|AB (λO U h=>Zu h [5,1,1001])
     ·refine AF<|AG<|AI<|Bk (λO U h=>Zu h [5,1,1001])
    ·refine A0<|Zm Z<|Za Z<|Zb Z<|A5<|Ze [(n7 0)] [1,1001,5] Z
theorem zjy (a0:List UInt64) (M:Value) (l0:List UInt64):Aj Tryz.prog 16 [.vw Ao M l0 a0] [(1,some (M,.list Ao 52 l0)),Am] (EQ a0) (λr O=>⟨[.rd A8 r.1,.rd Ai r.2],[(1,some (M,.list Ao 52 l0)),(1001,some (.bool true,.glob 1 (Av 64 Aa) Bv))]⟩):=by
 refine Aq 49 func16 Z Z Z λH w=>?_;refine A0<|Eb Z (AL 2 Aw (ZrE.nilS (ZrE.nilS ZrE.nil))) λv1=>Zb Z<|A0<|Zb Z<|Bt (λ(s2:(List Ae)) U ww=>∃ O:Nat->Value,Sta (ctx 49 H [(1,some (M,.list Ao 52 l0)),Am] w) [(0,.vw Ao M l0 a0),(2,.val (A7 v1 0)),(4,.val (O 0))] [(1,some (M,.list Ao 52 l0)),(2,some (v1,.box 34 [.val (.slice none 0 0),.val (.slice none 0 0)])),(5,some ((O 0),.list Ad 73 s2)),Am] U ww) ?_ (λs2=>?_)
 ·refine A0<|Zb Z<|DB Ad 73 1103<|AJ (λ(s3:(List Ae) × Int) U ww=>∃ O:Nat->Value,Sta (ctx 49 H [(1,some (M,.list Ao 52 l0)),Am] w) [(0,.vw Ao M l0 a0),(2,.val (A7 v1 0)),(4,.val (O 0)),(5,.rd A2 s3.2)] [(1,some (M,.list Ao 52 l0)),(2,some (v1,.box 34 [.val (.slice none 0 0),.val (.slice none 0 0)])),(1102,some ((O 0),.list Ad 73 s3.1)),Am] U ww) (λU ww h=>⟨nvl [(.slice none 0 0)],Zu h [1,2,1103,1001]⟩) (λs3=>?_)
  refine gEx λn4=>A9<|A0<|Zm Z<|Zm Z<|Zq (Ar Z (.vw 1 Z) Z underlying85)<|Zq (I.lss Z Z)<|Zj Z (λh5=>?_) (λh5=>?_)
  ·refine Zt<|A9<|AD<|A0<|Zm Z<|Zm Z<|An λx6 h7=>Zq (ixQ 1 Z Z Z h7 underlying85 CJ)<|Zq (ldQ 1 Z Z CU Z)<|Zq (bld (x':=(⟨1,[],(⟨0,0,0,[]⟩:Az)⟩:AP)) [(0,1),(1,1),(2,4)] underlying69 CP Z CR Z (Bld.cons (EX _) Z Z<|Bld.done Z))<|Zq (bld (x':=(⟨0,[],x6,(⟨1,[],(⟨0,0,0,[]⟩:Az)⟩:AP),(⟨0,0⟩:AC)⟩:Ae)) [(0,1),(1,1),(2,1),(3,6),(9,2)] underlying73 B4 Z Lx Z (Bld.cons (EK _) Z Z<|Bld.cons (D4 _) Z Z<|Bld.done Z))<|Zc [1001] [] func36 Z (U9 _ _) λr8 n9=>Zm Z<|Zq (ext Z Z)<|Zq (ext Z Z)<|Eb Z (AL 1104 B4 (ZrE.rd (R:=Aa) (x:=0) (Zr.num Z) (ZrE.nilS (ZrE.rd (R:=Ao) (x:=0) (Zr.num Z) (ZrE.rd (R:=Ba) (x:=(⟨0,[],(⟨0,0,0,[]⟩:Az)⟩:AP)) CR (ZrE.rd (R:=Bc) (x:=(⟨0,0⟩:AC)) CM ZrE.nil Z) Z) Z)) Z)) λa8=>Bh aZ [.rd Aa 0,.rd (A3 aZ) [],.rd Ao 0,.rd Ba (⟨0,[],(⟨0,0,0,[]⟩:Az)⟩:AP),.rd Bc (⟨0,0⟩:AC)] 1104 [.rd Aa 0] [.rd Ao 0,.rd Ba (⟨0,[],(⟨0,0,0,[]⟩:Az)⟩:AP),.rd Bc (⟨0,0⟩:AC)] Z Z Z<|BC (R:=Ad) (⟨0,[],0,(⟨0,[],(⟨0,0,0,[]⟩:Az)⟩:AP),(⟨0,0⟩:AC)⟩:Ae) 1104 Z (Sp.via (Sp.prod (Sp.prod (Sp.prod (Sp.prod (Sp.prod Sp.unit))))))<|Es (sto 1104 Z Z fH Z B4)<|Zb Z<|A9<|A0<|Zm Z<|Zq (I.neq Z Z)<|Zj Z (λa2=>?_) (λa2=>?_)
   ·refine A0<|Zq (CD [(0,1),(1,1)] underlying34 Aw (ZrE.nilS (ZrE.nilS ZrE.nil)) Z (BQ.done Z))<|Es (CE 2 Z Z (Af.cast (Af.cons Ay (Af.cons Ay Af.nil)) Z) Z (AZ.cons Bo (AZ.cons Bo AZ.nil)) (Af.cast (Af.cons Ay (Af.cons Ay Af.nil)) Z) Aw)<|Zb Z<|A5<|Ap<|B7<|Ap<|Bp<|Bl<|C6 aZ [.rd (A3 aZ) [],.val (.slice none 0 0)] 2 [] [.val (.slice none 0 0)] Z Z Z<|C6 Ad [.rd (A3 aZ) [],.rd (A3 Ad) []] 2 [.rd (A3 aZ) []] [] Z Z Z<|D0 (R:=A8) (⟨[],[]⟩:A4) 2 Z (Sp.via (Sp.prod (Sp.prod Sp.unit)))<|Bu [] [1,1001] Z (eC 2 Z Z AH<|eE Z<|eN) (Zi Z<|Zi Z<|rN)
   ·refine Zt<|Al<|Zm Z<|Zq (ld 1104 Z Z fH Bz Z)<|Ef Z (lit (R:=Ad) ([r8.1]:List Ae) 1105 (pP Z Z<|pN) Z tu32 B4 Z Z) λab=>BG 1105 [31] Z (fS Z<|fN)<|An λac a6=>Ef Z (apn 1102 Z Z Z .rd a6 tu32 B4 Z Z Z) λa7=>Za Z<|Ah<|Au<|Ak<|Al<|Zm Z<|Zq (I.add Z Z)<|Za Z<|AR 5 Z λad=>Ah<|AB (λU ww h=>⟨nvl [a7],Zu h [1,2,1102,1001]⟩)
  ·refine AF<|AG<|AI<|Bk (λU ww h=>⟨nvl [(n4 0)],Zu h [1,2,1102,1001]⟩)
 ·refine gEx λae=>A0<|Zm Z<|BG 5 [4,34] Z (fS Z<|fS Z<|fN)<|Zc [1001] [] func37 Z (TZ _) λaf ah=>Zm Z<|Zq (ext Z Z)<|Zq (ext Z Z)<|Eb Z (AL 1106 Aw (ZrE.nilS (ZrE.nilS ZrE.nil))) λai=>Bh aZ [.rd (A3 aZ) [],.val (.slice none 0 0)] 1106 [] [.val (.slice none 0 0)] Z Z Z<|Bh Ad [.rd (A3 aZ) [],.rd (A3 Ad) []] 1106 [.rd (A3 aZ) []] [] Z Z Z<|BC (R:=A8) (⟨[],[]⟩:A4) 1106 Z (Sp.via (Sp.prod (Sp.prod Sp.unit)))<|Es (sto 1106 Z Z fH Z Aw)<|Zb Z<|A9<|BK [2] mixed Z Z<|A6 0 Z Z (ld 1106 Z Z fH AH Z)<|A6 1 Z Z (mv Z)<|A6 2 Z Z (I.eql Z Z)<|A6 3 Z Z (mv Z)<|hIf 41 Z Z (λa1=>?_) (λa1=>?_)
  ·refine hKn 40 Z Z a1<|Zg 4 Z Z (faB 1106 Z Z underlying34 Z (by exact B2))<|Zg 5 Z Z (ld 1106 Z Z (fP (BT _)) B8 Z)<|Zg 6 Z Z (Ar Z .rd Z tu31)<|Zg 7 Z Z (mv Z)<|Zg 8 Z Z (Ar Z (.vw 1 Z) Z underlying85)<|Zg 9 Z Z (I.eql Z Z)<|A6 10 Z Z (pkT Z Z)<|DE aZ [.rd (A3 aZ) [],.val (.slice none 0 0)] 2 [] [.val (.slice none 0 0)] Z Z Z<|DE Ad [.rd (A3 aZ) [],.rd (A3 Ad) []] 2 [.rd (A3 aZ) []] [] Z Z Z<|hJoi (R:=A8) (⟨[],[]⟩:A4) 2 Z (Sp.via (Sp.prod (Sp.prod Sp.unit)))<|Zp 11 Z Z Z Z Z (sto 2 Z Z fH Z Aw)<|A6 12 Z Z (asg Z)<|Ha 3 Z Z λaj=>Bg (by kernel_rfl)<|Ak<|A5<|Bu [] [1,1001] Z (eC 2 Z Z AH<|eE Z<|eN) (Zi Z<|Zi Z<|rN)
  ·refine hKn 40 Z Z a1<|hSk 4 Z Z<|hSk 5 Z Z<|hSk 6 Z Z<|hSk 7 Z Z<|hSk 8 Z Z<|hSk 9 Z Z<|A6 10 Z Z (pkF Z Z)<|DE aZ [.rd (A3 aZ) [],.val (.slice none 0 0)] 2 [] [.val (.slice none 0 0)] Z Z Z<|DE Ad [.rd (A3 aZ) [],.rd (A3 Ad) []] 2 [.rd (A3 aZ) []] [] Z Z Z<|hJoi (R:=A8) (⟨[],[]⟩:A4) 2 Z (Sp.via (Sp.prod (Sp.prod Sp.unit)))<|Zp 11 Z Z Z Z Z (sto 2 Z Z fH Z Aw)<|A6 12 Z Z (asg Z)<|Bg (by kernel_rfl)<|Ak<|A5<|Bu [] [1,1001] Z (eC 2 Z Z AH<|eE Z<|eN) (Zi Z<|Zi Z<|rN)
theorem zkz (a0:List A4) (U:Value) (l0:List A4):Aj Tryz.prog 17 [.vw A8 U l0 a0] [(1,some (U,.list A8 34 l0)),Am] (Na a0) (λr nv=>⟨[.rd A2 r.1,.rd A2 r.2],[(1,some (U,.list A8 34 l0)),(1001,some (.bool true,.glob 1 (Av 64 Aa) Bv))]⟩):=by
 refine Aq 38 func17 Z Z Z λH w=>?_;refine A0<|Za Z<|Zb Z<|A9<|A0<|Zm Z<|Zc [1,1001] [(1,1)] func31 Z (N9 _ _ _) λr1 n2=>Zb Z<|A0<|Zm Z<|Zq (I.neq Z Z)<|Zj Z (λh3=>?_) (λh3=>?_)
 ·refine A0<|Zm Z<|Za Z<|Zb Z<|A5<|Ap<|Ze [] [1,1001] Z
 ·refine Zt<|A0<|Zm Z<|Zc [1] [(100,2),(1,1)] func32 Z (Pj _ _ _) λr4 n5=>Zb Z<|Bt (λ(s6:Unit) M O=>Sta (ctx 38 H [(1,some (U,.list A8 34 l0)),Am] w) [] [(1,some (U,.list A8 34 l0)),Am] M O) ?_ (λs6=>?_)
  ·refine A0<|Zm Z<|Zn<|AJ (λ(s7:(List A4) × Int) M O=>Sta (ctx 38 H [(1,some (U,.list A8 34 l0)),Am] w) [(5,.val (n5 0)),(17,.rd A2 s7.2)] [(2,some ((n5 0),.list A8 34 s7.1)),(1,some (U,.list A8 34 l0)),Am] M O) (λM O h=>Zu h [2,1,1001]) (λs7=>?_);refine A0<|Zq (I.lss Z Z)<|Zn<|A9<|gIf Z Z (λh8=>?_) (λh8=>?_)
   ·refine Zt<|A9<|AD<|A0<|Zm Z<|Zb Z<|A0<|Zm Z<|call [2,1001] [(1,2)] Z func38 Z Z (zkx _ _ _) (aW Z<|aN) (Zi Z<|Zi Z<|rN) λr9 a8=>Zm Z<|Zq (ext Z Z)<|Zq (ext Z Z)<|Za Z<|Zb Z<|A9<|B6 (λ(a2:Bool) M O=>Sta (ctx 38 H [(1,some (U,.list A8 34 l0)),Am] w) [(5,.val (n5 0)),(6,.rd A2 s7.2),(8,.rd A2 r9.2),(17,.rd A2 s7.2),(29,.rd Ai a2)] [(2,some ((n5 0),.list A8 34 s7.1)),(1,some (U,.list A8 34 l0)),Am] M O) ?_ (λa2=>?_)
    ·refine Al<|Zm Z<|Zq (I.neq Z Z)<|Zm Z<|AY 27 Z (λa1=>?_) (λa1=>?_)
     ·refine Ac 26 Z a1<|Zk Z<|Zq (pkT Z Z)<|Ah<|AA (λM O h=>Zu h [2,1,1001])
     ·refine Ac 26 Z a1<|Ab Zx Z Z (mv Z)<|Zq (pkF Z Z)<|Ah<|AA (λM O h=>Zu h [2,1,1001])
    ·refine gIf Z Z (λa6=>?_) (λa6=>?_)
     ·refine A0<|Zm Z<|Zm Z<|Za Z<|Zb Z<|A5<|Ap<|B7<|Ap<|Bp<|Bl<|Ze [] [1,1001] Z
     ·refine Zt<|A0<|Zm Z<|Zc [2,1001] [(1,2)] func35 Z (Ue _ _) λab ac=>Zb Z<|A0<|Zm Z<|Zq (I.neq Z Z)<|Zj Z (λa7=>?_) (λa7=>?_)
      ·refine A0<|Zm Z<|Za Z<|Zb Z<|A5<|B7<|Ap<|Bp<|Bl<|Ze [] [1,1001] Z
      ·refine AU<|Au<|Ak<|Al<|Zq (I.add Z Z)<|Zm Z<|Ah<|AB (λM O h=>Zu h [2,1,1001])
   ·refine AF<|AG<|AI<|Bk (λM O h=>Zu h [1,1001])
  ·refine A0<|Za Z<|Zb Z<|A5<|Ze [] [1,1001] Z
theorem Pk (a0:List A4) (a1:List Int) (M:Value) (O:List Int):Aj Tryz.prog 18 [.rd (A3 A8) a0,.vw A2 M O a1] [(1,some (M,.list A2 3 O))] (FH a0 a1) (λr nv=>⟨[.rd Ai r],[(1,some (M,.list A2 3 O))]⟩):=by
 refine Aq 28 func18 Z Z Z λH w=>?_;refine A0<|Zb Z<|A9<|A0<|Zm Z<|Zq (Ar Z .rd Z tu22)<|Zm Z<|Zq (Ar Z (.vw 1 Z) Z tu57)<|Zq (I.neq Z Z)<|Zj Z (λh1=>?_) (λh1=>?_)
 ·refine A0<|Zb Z<|A5<|Ap<|Ze [] [1] Z
 ·refine Zt<|Bt (λ(s2:Unit) U ww=>Sta (ctx 28 H [(1,some (M,.list A2 3 O))] w) [] [(1,some (M,.list A2 3 O))] U ww) ?_ (λs2=>?_)
  ·refine A0<|Zb Z<|AJ (λ(s3:Int) U ww=>Sta (ctx 28 H [(1,some (M,.list A2 3 O))] w) [(0,.rd (A3 A8) a0),(1,.vw A2 M O a1),(5,.rd A2 s3)] [(1,some (M,.list A2 3 O))] U ww) (λU ww h=>Zu h [1]) (λs3=>?_);refine A9<|A0<|Zm Z<|Zm Z<|Zq (Ar Z .rd Z tu22)<|Zq (I.lss Z Z)<|Zj Z (λh4=>?_) (λh4=>?_)
   ·refine Zt<|A9<|AD<|A9<|Dr mixed (by kernel_rfl)<|Rq Z (mv Z)<|Rq Z (mv Z)<|BM λx5 h6=>Rq Z (ixR Z Z h6 tu22 Aw Z)<|Rq Z (faR Z (BT _) underlying34 Z Z (by exact B2))<|Rq Z (ldR Z B8)<|Rq Z (Ar Z .rd Z tu31)<|Rq Z (mv Z)<|Rq Z (mv Z)<|BM λx7 h8=>Rq Z (ixQ 1 Z Z Z h8 tu57 ti3)<|Rq Z (ldQ 1 Z Z ty3 Z)<|Rq Z (I.neq Z Z)<|Ds<|Ak<|gIf Z Z (λh9=>?_) (λh9=>?_)
    ·refine A0<|Zb Z<|A5<|B7<|Ap<|Bp<|Bl<|Ze [] [1] Z
    ·refine AU<|Au<|Ak<|Al<|Zm Z<|Zq (I.add Z Z)<|Za Z<|Ah<|AB (λU ww h=>Zu h [1])
   ·refine AF<|AG<|AI<|Bk (λU ww h=>Zu h [1])
  ·refine A0<|Zb Z<|A5<|Ze [] [1] Z
def Nc  : Option (Bool) :=
 N2>>=λM =>
 GR M.1 [(⟨0,1⟩:AX),(⟨1,2⟩:AX)]>>=λr6 =>
 IP 3 [(⟨0,1⟩:AX),(⟨1,2⟩:AX)]>>=λr8 =>
 HF M.1 1>>=λU =>
 EQ [4]>>=λO =>
 app 48 M.1 [O.1]>>=λa6 =>
 HF a6 1>>=λa1 =>
 app 48 M.1 [O.1]>>=λa7 =>
 Na a7>>=λa2 =>
 if M.2 then
  if r6.2==0 then
   FH r6.1 [2,3,3]>>=λa8 =>
   if a8 then
    if r8.2==0 then
     Nb r8.1 [[0,1],[0,1,2],[0,1,2]]>>=λaa =>
     if aa then
      if U.2==0 then
       FH U.1 [3,3,3]>>=λab =>
       if ab then
        if O.2 then
         if a1.2==0 then
          FH a1.1 [4,3,4,4]>>=λac =>
          if ac then
           if a2.2==0 then
            some (a2.1==2)
           else
            some false
          else
           some false
         else
          some false
        else
         some false
       else
        some false
      else
       some false
     else
      some false
    else
     some false
   else
    some false
  else
   some false
 else
  some false
end
end Go.Proofs.YtgomhacoacmbcaaGreatDoor
