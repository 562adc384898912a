import Derived.Test.YtojceajkeefnpaaGreatDoorQe
set_option linter.unusedSimpArgs false
set_option linter.unusedVariables false
namespace Go.Proofs.YtojceajkeefnpaaGreatDoor
section
open Go
theorem or8 (a:UInt64) (x:UInt8) (h:a.toNat<72057594037927936):(zkj a 8 ||| x.toUInt64).toNat=256 * a.toNat+x.toNat:=by
 have hx:=x.toNat_lt;rw [UInt64.toNat_or,zja, show (2:Nat) ^ min 8 64=256 from rfl,Nat.mod_eq_of_lt (by omega),UInt8.toNat_toUInt64]
 have:=Nat.two_pow_add_eq_or_of_lt (i:=8) (b:=x.toNat) (by omega) a.toNat
 rw [Nat.mul_comm a.toNat 256]; exact this.symm
theorem z15n {a:UInt64} {n:Nat} (h:a.toNat=n):a=UInt64.ofNat n:=by rw [← h]; simp
theorem zhf {l:List UInt8} {i:Nat} (h:i<l.length):l.getD i 0=l[i]:=by simp [List.getD,h]
theorem z1at (l:List UInt8) (h8:l.length≤8):iter (z72 l) (0,0)=some (UInt64.ofNat (z8f l)):=by
 obtain ⟨b,h1,h2⟩:=z7b (F:=z72 l) l.length (fun i s=>s.1.toNat=z8f (l.take i)∧s.2=(i:Int)) (fun b=>b=UInt64.ofNat (z8f l))
  (fun i s hi hs=>by
   obtain ⟨s1,s2⟩:=s;obtain ⟨e1,e2⟩:=hs;simp only at e1 e2;subst e2;have hb:=zk3 hi h8;have ht:=zl0 hi;rw [zhf hi] at hb ht;refine ⟨_, by unfold z72; rw [if_pos (by simp <;> omega)]; simp only [z0k hi,bs]; rfl,?_,?_⟩
   ·show (zkj s1 8 ||| l[i].toUInt64).toNat=_;rw [or8 s1 l[i] (by omega),ht,e1]
   ·exact z0l (by omega))
  (fun s hs=>by
   obtain ⟨s1,s2⟩:=s;obtain ⟨e1,e2⟩:=hs;simp only at e1 e2;subst e2;refine ⟨_, by unfold z72; rw [if_neg (by simp)],?_⟩;rw [List.take_length] at e1
   exact z15n e1) (0,0) 0 (by omega) ⟨rfl,rfl⟩
 rw [h1,h2]
theorem z18e (x:UInt8):decide (x≤247)=decide (x.toNat≤247):=by
 rw [decide_eq_decide,UInt8.le_iff_toNat_le]; rfl
theorem u8z (x:UInt8):(x==0)=decide (x.toNat=0):=by
 rw [Bool.eq_iff_iff,beq_iff_eq,decide_eq_true_eq,← UInt8.toNat_inj]; rfl
theorem zmv (b:List UInt8) (hb:b.length≤9223372036854775806):z60 b=some (UInt64.ofNat (z11 b).1,((z11 b).2.1:Int),((z11 b).2.2:Int)):=by
 unfold z60;by_cases h0:b.length=0
 ·rw [if_pos (by simp [h0]),zkz (zva h0)]; rfl
 rw [if_neg (by simp; intro e; simp [e] at h0)];have h0':0<b.length:=by omega
 have i0:=z0k h0';have g0:=zhf h0';have i0':idx b 0=some (b[0]):=i0;rw [i0'];simp only [bs,z18e];by_cases h1:b[0].toNat≤247
 ·rw [decide_eq_true h1,if_pos rfl,zc0 (zre h0 (by rw [g0]; exact h1)),g0]
  congr 2
  apply UInt64.toNat_inj.1
  rw [UInt8.toNat_toUInt64]; simp
 rw [decide_eq_false h1,if_neg (by simp)];have hx:=b[0].toNat_lt;obtain ⟨k,hk⟩:∃ k:Nat,b[0].toNat - 247=k:=Exists.intro (b[0].toNat - 247) rfl;have ek:w64 ((b[0].toNat:Int) - 247)=(k:Int):=by rw [z17 (by omega) (by omega)]; omega
 rw [ek];by_cases hbad:b.length≤k∨(b.getD 1 0).toNat=0∨(k=1∧(b.getD 1 0).toNat≤247)
 ·rw [zkz (zut h0 (by rw [g0]; exact h1) (by rw [g0,hk]; exact hbad))];by_cases c1:b.length≤k
  ·rw [if_pos (by simp; omega)]; rfl
  ·rw [if_neg (by simp; omega)];have l1:1<b.length:=by omega
   have i1:idx b 1=some (b[1]):=z0k l1;have g1:=zhf l1;rw [g1] at hbad;rw [i1];simp only [bs,u8z,z18e];by_cases c2:b[1].toNat=0
   ·rw [decide_eq_true c2]; rfl
   ·have c3:k=1∧b[1].toNat≤247:=by omega
    rw [decide_eq_false c2,c3.1];simp only [Bool.false_eq_true,if_false];rw [if_pos (by decide),decide_eq_true c3.2]; rfl
 ·rw [zc0 (zse h0 (by rw [g0]; exact h1) (by rw [g0,hk]; exact hbad)),g0,hk];have l1:1<b.length:=by omega
  have i1:idx b 1=some (b[1]):=z0k l1;have g1:=zhf l1;rw [g1] at hbad;rw [if_neg (by simp; omega),i1];simp only [bs,u8z,z18e];have c2:¬ b[1].toNat=0:=by omega
  rw [decide_eq_false c2];simp only [Bool.false_eq_true,if_false];have hc:cut b 1 (w64 ((k:Int)+1))=some ((b.drop 1).take k):=by
   have e:w64 ((k:Int)+1)=((k+1:Nat):Int):=z0l (by omega);rw [e]
   have:=zav (b:=b) (i:=1) (j:=k+1) (by omega) (by omega)
   rw [show ((1:Nat):Int)=1 from rfl] at this;rw [this,Nat.add_sub_cancel]
  have he:w64 ((k:Int)+1)=((k+1:Nat):Int):=z0l (by omega);have hin:(if ((k:Int)==1)=true then (if decide (b[1].toNat≤247)=true then some (.inl (0,0,12)) else some (.inr ())) else some (.inr ()):Option (Sum (UInt64 × Int × Int) Unit))=some (.inr ()):=by
   by_cases c3:k=1
   ·have c4:¬ b[1].toNat≤247:=by omega
    rw [decide_eq_false c4]; split <;> rfl
   ·rw [if_neg (by simp; omega)]
  rw [hin,zq5,hc];simp only [bs];rw [z1at _ (by rw [List.length_take]; omega)];simp only [bs,he]; rfl
theorem zxr (u:UInt64):xorI (w64 ((z6l u 1).toNat:Int)) (w64 (0 - (w64 ((u &&& 1).toNat:Int))))=zl5 u.toNat:=by
 have h0:=UInt64.toNat_lt u;have h1:=zxz (u:=u.toNat) (by omega);have e1:(z6l u 1).toNat=u.toNat / 2:=by rw [zat]; rfl
 have e2:(u &&& 1).toNat=u.toNat % 2:=by rw [UInt64.toNat_and]; exact Nat.and_one_is_mod _
 rw [← h1];unfold xorI w64
 congr 2
 ·rw [e1]; show ((u.toNat / 2:Nat):Int)=Int.fdiv (u.toNat:Int) 2; rw [Int.fdiv_eq_ediv_of_nonneg _ (by omega)]; rfl
 ·congr 2
  rw [e2]
  have:za8 .and .u64 ((u.toNat:Nat):Int) 1=((u.toNat % 2:Nat):Int):=by
   rw [zq7];have e3:BitVec.ofInt 64 (u.toNat:Int)=BitVec.ofNat 64 u.toNat:=BitVec.ofInt_natCast ..;rw [e3, show BitVec.ofInt 64 1=BitVec.ofNat 64 1 from rfl,BitVec.toNat_and,BitVec.toNat_ofNat,BitVec.toNat_ofNat,Nat.mod_eq_of_lt (by omega), show 1 % 2 ^ 64=1 from rfl,Nat.and_one_is_mod];rw [show ((u.toNat % 2:Nat):Int)=((u.toNat % 2:Nat):Int) from rfl];exact z180 _ (by omega)
  rw [this]
theorem z132 (b:List UInt8) (hb:b.length≤9223372036854775806):zbe b=some ((zh5 b).1,((zh5 b).2.1:Int),((zh5 b).2.2:Int)):=by
 unfold zbe;rw [zmv b hb];simp only [bs];have h1:=zhj b;by_cases h:(z11 b).2.2=0
 ·rw [zmp h,h,if_neg (by simp),zxr]
  have:(UInt64.ofNat (z11 b).1).toNat=(z11 b).1:=by simp; omega
  rw [this]; rfl
 ·rw [zqn h,if_pos (by simp; omega)]; rfl
theorem zto (b:List UInt8) (hb:b.length≤9223372036854775806) (most:Int) (hm:most≤9223372036854775807) (k:Nat) (hk:0<k) (hk2:k≤1000):zey b most (k:Int)=some ((z3q b most k).1,((z3q b most k).2.1:Int),((z3q b most k).2.2:Int)):=by
 unfold zey;by_cases h1:most<0
 ·rw [decide_eq_true h1,if_pos rfl,znz h1]; rfl
 rw [decide_eq_false h1,if_neg (by simp),zmv b hb];simp only [bs];have hl:=zhj b;have hu:=zez b;have en:(UInt64.ofNat (z11 b).1).toNat=(z11 b).1:=by simp; omega
 have e1:decide (UInt64.ofInt most<UInt64.ofNat (z11 b).1)=decide (most<((z11 b).1:Int)):=by
  rw [decide_eq_decide,UInt64.lt_iff_toNat_lt,zas,en]; omega
 obtain ⟨D,hD⟩:∃ D:Nat,(b.length - (z11 b).2.1) / k=D:=Exists.intro _ rfl;have hd:D≤b.length:=by rw [← hD]; exact Nat.le_trans (Nat.div_le_self _ _) (Nat.sub_le _ _)
 have e2:w64 (Int.tdiv (w64 ((b.length:Int) - (z11 b).2.1)) (k:Int))=(D:Int):=by
  rw [z17 (x:=(b.length:Int) - (z11 b).2.1) (by omega) (by omega), show (b.length:Int) - ((z11 b).2.1:Int)=((b.length - (z11 b).2.1:Nat):Int) by omega,Int.tdiv_eq_ediv_of_nonneg (by omega),← Int.natCast_ediv,hD,z17 (by omega) (by omega)]
 have e3:decide (UInt64.ofInt (w64 (Int.tdiv (w64 ((b.length:Int) - (z11 b).2.1)) (k:Int)))<UInt64.ofNat (z11 b).1)=decide ((b.length - (z11 b).2.1) / k<(z11 b).1):=by
  rw [decide_eq_decide,UInt64.lt_iff_toNat_lt,e2,zas,en,hD]; omega
 rw [e1,e3];by_cases h2:(z11 b).2.2≠0∨most<((z11 b).1:Int)∨(b.length - (z11 b).2.1) / k<(z11 b).1
 ·rw [zku h1 h2];have hs:(if ((((z11 b).2.2:Nat):Int) != 0)=true then some true else if decide (most<((z11 b).1:Int))=true then some true else chk ((k:Int)≠0) >>= fun u7=>some (decide ((b.length - (z11 b).2.1) / k<(z11 b).1)))=some true:=by
   by_cases c1:(z11 b).2.2=0
   ·rw [if_neg (by simp [c1])];by_cases c2:most<((z11 b).1:Int)
    ·rw [decide_eq_true c2,if_pos rfl]
    ·rw [decide_eq_false c2,if_neg (by simp),z2z (by omega),decide_eq_true (by omega)]; rfl
   ·rw [if_pos (by simp; omega)]
  rw [hs]; rfl
 ·rw [zbv h1 h2];have hf:=zkg (b:=b) (k:=k) (by omega);have hs:(if ((((z11 b).2.2:Nat):Int) != 0)=true then some true else if decide (most<((z11 b).1:Int))=true then some true else chk ((k:Int)≠0) >>= fun u7=>some (decide ((b.length - (z11 b).2.1) / k<(z11 b).1)))=some false:=by
   rw [if_neg (by simp; omega),decide_eq_false (by omega),if_neg (by simp),z2z (by omega),decide_eq_false (by omega)]; rfl
  rw [hs];simp only [bs,Bool.false_eq_true,if_false,en];have hmul:(k:Int) * ((z11 b).1:Int)=((k * (z11 b).1:Nat):Int):=by rw [Int.natCast_mul]
  have h9:(z11 b).1≤k * (z11 b).1:=Nat.le_mul_of_pos_left _ hk;have e5:w64 (((z11 b).2.1:Int)+w64 ((k:Int) * w64 ((z11 b).1:Int)))=(((z11 b).2.1+k * (z11 b).1:Nat):Int):=by
   rw [z17 (x:=((z11 b).1:Int)) (by omega) (by omega),hmul,z17 (x:=((k * (z11 b).1:Nat):Int)) (by omega) (by omega),z17 (by omega) (by omega)]; omega
  rw [e5,zav (by omega) (by omega)];simp only [bs,Nat.add_sub_cancel_left]; rfl
theorem zhn (b:List UInt8) (hb:b.length≤100000) (most:Int) (hm:most≤9223372036854775807):z7e b most=some ((z3q b most 1).1,((z3q b most 1).2.1:Int),((z3q b most 1).2.2:Int)):=by
 unfold z7e zjb
 have:=zto b (by omega) most hm 1 (by decide) (by decide)
 rw [show ((1:Nat):Int)=1 from rfl] at this;rw [this];have hl:=ztx b most 1;simp only [bs];rw [z1l (by simp; omega)]; rfl
end
section
open Go
def idR (s:List UInt8) (o:Nat):V3:=Vector.ofFn fun j:Fin 32=>s.getD (o+j.val) 0
def zge (s:List UInt8) (n:Nat):List V3:=(List.range n).map fun i=>idR s (32 * i)
theorem zdi (s:List UInt8) (n:Nat):(zge s n).length=n:=by simp [zge]
theorem zpw (s:List UInt8) (n:Nat):zge s (n+1)=zge s n++[idR s (32 * n)]:=by simp [zge,List.range_succ]
theorem zw4 (s:List UInt8) (o:Nat) (h:o+32≤s.length):(idR s o).toList=(s.drop o).take 32:=by
 apply List.ext_getElem
 ·simp; omega
 ·intro j h1 h2;have hj:j<32:=by simpa using h1
  simp only [idR,Vector.getElem_toList,Vector.getElem_ofFn,List.getElem_take,List.getElem_drop];exact zhf (by omega)
theorem zuo (s:List UInt8):∀ n:Nat,32 * n≤s.length→zg4 (zge s n)=s.take (32 * n)
 | 0,_=>by simp [zge,zg4]
 | n+1,h=>by
  rw [zpw];have ih:=zuo s n (by omega);unfold zg4 at ih ⊢;rw [List.flatMap_append,ih,List.flatMap_cons,List.flatMap_nil,List.append_nil,zw4 s (32 * n) (by omega), show 32 * (n+1)=32 * n+32 by omega,List.take_add]
theorem z14u (x:V3) (s:List UInt8) (o:Nat) (h:o+32≤s.length):zkx x (s.drop o)=idR s o:=by
 apply Vector.toList_inj.1
 rw [zla,zw4 s o h]
 have:(s.drop o).length=s.length - o:=by simp
 rw [Nat.min_eq_right (by omega)]
 simp
def zek (b:List UInt8) (most:Int):List V3 × Nat × Nat :=
 if (z3q b most 32).2.2≠0 then ([],0,(z3q b most 32).2.2)
 else if z8a (zge (z3q b most 32).1 ((z3q b most 32).1.length / 32)) then (zge (z3q b most 32).1 ((z3q b most 32).1.length / 32),(z3q b most 32).2.1,0) else ([],0,12)
theorem zpt {b:List UInt8} {most:Int} (h:(z3q b most 32).2.2=0):(z3q b most 32).1.length=32 * (z11 b).1∧(z3q b most 32).2.1=(z11 b).2.1+32 * (z11 b).1∧(z11 b).2.2=0∧(z3q b most 32).1=(b.drop (z11 b).2.1).take (32 * (z11 b).1)∧((z11 b).1:Int)≤most∧(z11 b).2.1+32 * (z11 b).1≤b.length:=by
 have hu:=zez b;by_cases h1:most<0
 ·rw [znz h1] at h; cases h
 by_cases h2:(z11 b).2.2≠0∨most<((z11 b).1:Int)∨(b.length - (z11 b).2.1) / 32<(z11 b).1
 ·rw [zku h1 h2] at h; cases h
 ·have hf:=zkg (b:=b) (k:=32) (by omega);rw [zbv h1 h2];refine ⟨?_,rfl, by omega,rfl, by omega, by omega⟩;simp only [List.length_take,List.length_drop]; omega
theorem z1ay (s:List UInt8) (n:Nat) (hs:s.length=32 * n) (hn:n≤1000):iter (z9a (List.replicate n (Vector.replicate 32 0))) (s,List.replicate n (Vector.replicate 32 0),0)=some (zge s n):=by
 have h:=z3d (F:=z9a (List.replicate n (Vector.replicate 32 0))) (b:=zge s n) n (fun i=>(s.drop (32 * i),zge s i++List.replicate (n - i) (Vector.replicate 32 0),(i:Int)))
  (fun i hi=>by
   unfold z9a;rw [if_pos (by simp; omega)];have hl:(zge s i++List.replicate (n - i) (Vector.replicate 32 (0:UInt8))).length=n:=by simp [zdi]; omega
   have hidx:idx (zge s i++List.replicate (n - i) (Vector.replicate 32 (0:UInt8))) (i:Int)=some (Vector.replicate 32 0):=by
    rw [z0k (by omega)];rw [List.getElem_append_right (by rw [zdi]; omega)]
    simp
   have hd:(s.drop (32 * i)).length=32 * (n - i):=by rw [List.length_drop,hs]; omega
   have hmin:min (s.drop (32 * i)).length 32=32:=by rw [hd]; omega
   have hcut:cut (s.drop (32 * i)) ((32:Nat):Int) ((s.drop (32 * i)).length:Int)=some (s.drop (32 * (i+1))):=by
    rw [zav (by omega) (Nat.le_refl _),List.drop_drop,List.take_of_length_le (by simp; omega)]
    congr 2
   simp only [hidx,bs,hmin,hcut];rw [z14u _ s (32 * i) (by omega),z0l (by omega)]
   congr 3
   have e:n - i=(n - (i+1))+1:=by omega
   rw [Int.toNat_natCast,List.set_append_right _ _ (by rw [zdi]; exact Nat.le_refl _),zdi,Nat.sub_self,e,List.replicate_succ,List.set_cons_zero,zpw,List.append_assoc]
   rfl)
  (by
   unfold z9a;rw [if_neg (by simp)]
   simp)
 simpa [zge] using h
theorem z13s (b:List UInt8) (hb:b.length≤20000) (most:Int) (hm:most≤1000):ze9 b most=some ((zek b most).1,((zek b most).2.1:Int),((zek b most).2.2:Int)):=by
 unfold ze9 zek;have hp:=zto b (by omega) most (by omega) 32 (by omega) (by omega);rw [show ((32:Nat):Int)=32 from rfl] at hp;rw [hp];simp only [bs];by_cases h:(z3q b most 32).2.2=0
 ·obtain ⟨l1,l2,l3,l4,l5,l6⟩:=zpt h;have hn:(z3q b most 32).1.length / 32=(z11 b).1:=by omega
  rw [if_neg (by simp [h]),if_neg (by simp [h]),hn];have e:w64 (Int.tdiv ((z3q b most 32).1.length:Int) 32)=((z11 b).1:Int):=by
   rw [l1,Int.tdiv_eq_ediv_of_nonneg (by omega),z17 (by omega) (by omega)]; omega
  rw [e,zks (by omega) (by omega)];simp only [bs];rw [z1ay _ _ l1 (by omega)];simp only [bs];rw [zpz _ (by rw [zdi]; omega)];simp only [bs]
  cases z8a (zge (z3q b most 32).1 (z11 b).1) <;> rfl
 ·rw [if_pos (by simp; omega),if_pos h]; rfl
end
section
open Go
theorem zui {a b:z00} (h1:a.Kind=b.Kind) (h2:a.Num=b.Num) (h3:a.Bits=b.Bits) (h4:a.Text=b.Text):a=b:=by
 cases a; cases b; simp only at h1 h2 h3 h4; subst h1 h2 h3 h4; rfl
theorem z11n:inI 0:=⟨by decide, by decide⟩
theorem shrB (b:UInt64) (k:Nat) (hk:k≤63):(z6l b k).toUInt8.toNat=b.toNat / 2 ^ k % 256:=by
 rw [UInt64.toNat_toUInt8,zat,Nat.min_eq_left (by omega)]
theorem z17r (b:UInt64):z8f (be8 b)=b.toNat:=by
 have h:=UInt64.toNat_lt b;unfold be8;simp only [z8f,List.foldl_cons,List.foldl_nil,shrB b 56 (by omega),shrB b 48 (by omega),shrB b 40 (by omega),shrB b 32 (by omega),shrB b 24 (by omega),shrB b 16 (by omega),shrB b 8 (by omega),shrB b 0 (by omega)];omega
theorem z19m (l:List UInt8) (h:l.length=8):be8 (UInt64.ofNat (z8f l))=l:=by
 match l,h with
 | [x0,x1,x2,x3,x4,x5,x6,x7],_ =>
  have h0:=x0.toNat_lt; have h1:=x1.toNat_lt; have h2:=x2.toNat_lt; have h3:=x3.toNat_lt; have h4:=x4.toNat_lt; have h5:=x5.toNat_lt; have h6:=x6.toNat_lt; have h7:=x7.toNat_lt;have hv:(UInt64.ofNat (z8f [x0,x1,x2,x3,x4,x5,x6,x7])).toNat=((((((x0.toNat * 256+x1.toNat) * 256+x2.toNat) * 256+x3.toNat) * 256+x4.toNat) * 256+x5.toNat) * 256+x6.toNat) * 256+x7.toNat:=by
   simp only [z8f,List.foldl_cons,List.foldl_nil,UInt64.toNat_ofNat']; omega
  generalize UInt64.ofNat (z8f [x0,x1,x2,x3,x4,x5,x6,x7])=b at hv;unfold be8;have e:∀ (k:Nat) (x:UInt8),k≤63→b.toNat / 2 ^ k % 256=x.toNat→(z6l b k).toUInt8=x:=fun k x hk he=>UInt8.toNat_inj.1 (by rw [shrB b k hk,he]);rw [e 56 x0 (by omega) (by omega),e 48 x1 (by omega) (by omega),e 40 x2 (by omega) (by omega),e 32 x3 (by omega) (by omega),e 24 x4 (by omega) (by omega),e 16 x5 (by omega) (by omega),e 8 x6 (by omega) (by omega),e 0 x7 (by omega) (by omega)]
theorem z11y (b:UInt64):(be8 b).length=8:=rfl
def badV:z00 × Nat × Nat:=(⟨0,0,0,[]⟩,0,12)
def zdt (k:UInt8) (r:List UInt8):z00 × Nat × Nat :=
 if k=1 then (⟨1,(zh5 r).1,0,[]⟩,(zh5 r).2.1,(zh5 r).2.2)
 else if k=2 then (if r.length<8 then badV else (⟨2,0,UInt64.ofNat (z8f (r.take 8)),[]⟩,8,0))
 else if k=3 then (⟨3,0,0,(z3q r 30 1).1⟩,(z3q r 30 1).2.1,(z3q r 30 1).2.2)
 else (⟨k,0,0,[]⟩,0,0)
def zmt (b:List UInt8):z00 × Nat × Nat :=
 match b with
 | []=>badV
 | k::r=>if (zdt k r).2.2=0∧okV (zdt k r).1=true then ((zdt k r).1,(zdt k r).2.1+1,0) else badV
theorem z19c (k:UInt8) (l:List UInt8) (h8:l.length≤8):iter (z98 l) (⟨k,0,0,[]⟩,0)=some ⟨k,0,UInt64.ofNat (z8f l),[]⟩:=by
 obtain ⟨b,h1,h2⟩:=z7b (F:=z98 l) l.length (fun i s=>∃ u:UInt64,s.1=⟨k,0,u,[]⟩∧u.toNat=z8f (l.take i)∧s.2=(i:Int)) (fun b=>b=(⟨k,0,UInt64.ofNat (z8f l),[]⟩:z00))
  (fun i s hi hs=>by
   obtain ⟨s1,s2⟩:=s;obtain ⟨u,e0,e1,e2⟩:=hs;simp only at e0 e1 e2;subst e2 e0;have hb:=zk3 hi h8;have ht:=zl0 hi;rw [zhf hi] at hb ht;refine ⟨_, by unfold z98; rw [if_pos (by simp <;> omega)]; simp only [z0k hi,bs]; rfl,zkj u 8 ||| l[i].toUInt64,rfl,?_,?_⟩
   ·rw [or8 u l[i] (by omega),ht,e1]
   ·exact z0l (by omega))
  (fun s hs=>by
   obtain ⟨s1,s2⟩:=s;obtain ⟨u,e0,e1,e2⟩:=hs;simp only at e0 e1 e2;subst e2 e0;refine ⟨_, by unfold z98; rw [if_neg (by simp)],?_⟩;rw [List.take_length] at e1
   rw [z15n e1]) (⟨k,0,0,[]⟩,0) 0 (by omega) ⟨0,rfl,rfl,rfl⟩
 rw [h1,h2]
theorem znu (r:List UInt8):(zh5 r).2.1≤9∧((zh5 r).2.2=0∨(zh5 r).2.2=12)∧inI (zh5 r).1:=by
 have h:=zhj r;by_cases h1:(z11 r).2.2=0
 ·rw [zmp h1]; have:=zok h.1; exact ⟨h.2.1,.inl rfl,this⟩
 ·rw [zqn h1]; exact ⟨by simp,h.2.2,z11n⟩
theorem zup (r:List UInt8):(z3q r 30 1).2.1≤39∧((z3q r 30 1).2.2=0∨(z3q r 30 1).2.2=12)∧(z3q r 30 1).1.length≤r.length:=by
 have h:=zhj r;refine ⟨?_,?_,ztx r 30 1⟩ <;> unfold z3q
 ·split
  ·simp
  ·split
   ·simp
   ·simp only; omega
 ·split
  ·rename_i e; exact absurd e (by decide)
  ·split <;> simp
theorem z1ba (v:z00) (u e:Nat) (hv:v.Text.length≤9223372036854775807) (hu:u≤100) :
  ((if ((e:Int) != 0)=true then some true else z9d v >>= fun r29=>some (r29 != 0)) >>= fun s27=>if s27 then some ((⟨0,0,0,[]⟩:z00),(0:Int),(12:Int)) else some (w64 ((u:Int)+1)) >>= fun y32=>some (v,y32,0)) =
  some (if e=0∧okV v=true then (v,((u+1:Nat):Int),0) else (⟨0,0,0,[]⟩,0,12)):=by
 rw [zon v hv];by_cases he:e=0
 ·rw [if_neg (by simp [he])]
  cases ok:okV v
  ·have hn:¬ (e=0∧false=true):=by simp
   rw [if_neg hn]; rfl
  ·rw [if_pos (⟨he,rfl⟩:e=0∧true=true)];simp only [bs,if_true,bne_self_eq_false,Bool.false_eq_true,if_false];rw [z0l (by omega)]
 ·rw [if_pos (by simp; omega),if_neg (fun h=>he h.1)]; rfl
theorem z194 (b:List UInt8) (hb:b.length≤10000):zca b=some ((zmt b).1,((zmt b).2.1:Int),((zmt b).2.2:Int)):=by
 unfold zca zmt
 match b,hb with
 | [],_=>rfl
 | k::r,hb =>
  simp only [List.length_cons] at hb;rw [if_neg (by simp; omega)];have i0:idx (k::r) 0=some k:=z0k (l:=k::r) (i:=0) (by simp);have hc:cut (k::r) 1 ((k::r).length:Int)=some r:=by
   have:=zav (b:=k::r) (i:=1) (j:=(k::r).length) (by simp) (by simp)
   rw [show ((1:Nat):Int)=1 from rfl] at this;rw [this]; simp
  rw [i0];simp only [bs];rw [hc];simp only [bs];have fin:∀ (v:z00) (u e:Nat),v.Text.length≤9223372036854775807→u≤100→zdt k r=(v,u,e) →
    ((if ((e:Int) != 0)=true then some true else z9d v >>= fun r29=>some (r29 != 0)) >>= fun s27=>if s27 then some ((⟨0,0,0,[]⟩:z00),(0:Int),(12:Int)) else some (w64 ((u:Int)+1)) >>= fun y32=>some (v,y32,0)) =
    some ((if (zdt k r).2.2=0∧okV (zdt k r).1=true then ((zdt k r).1,(zdt k r).2.1+1,0) else badV).1,(((if (zdt k r).2.2=0∧okV (zdt k r).1=true then ((zdt k r).1,(zdt k r).2.1+1,0) else badV).2.1:Nat):Int),(((if (zdt k r).2.2=0∧okV (zdt k r).1=true then ((zdt k r).1,(zdt k r).2.1+1,0) else badV).2.2:Nat):Int)):=by
   intro v u e hv hu hr;rw [z1ba v u e hv hu,hr];by_cases h:e=0∧okV v=true
   ·rw [if_pos h,if_pos h]; rfl
   ·rw [if_neg h,if_neg h]; rfl
  by_cases k1:k=1
  ·have hr:=znu r;subst k1;rw [if_pos (by decide),z132 r (by omega)];simp only [bs,zq5];exact fin _ _ _ (by simp) (by omega) (by unfold zdt; rw [if_pos rfl])
  have c1:(k==1)=false:=by simpa using k1
  rw [c1];simp only [Bool.false_eq_true,if_false];by_cases k2:k=2
  ·subst k2;rw [if_pos (by decide)];by_cases h8:r.length<8
   ·rw [if_pos (by simp; omega)]
    have:zdt 2 r=badV:=by unfold zdt; rw [if_neg (by decide),if_pos rfl,if_pos h8]
    rw [this]; rfl
   ·rw [if_neg (by simp; omega)];have hc8:cut r 0 8=some (r.take 8):=by
     have:=zav (b:=r) (i:=0) (j:=8) (by omega) (by omega)
     rw [show ((0:Nat):Int)=0 from rfl, show ((8:Nat):Int)=8 from rfl] at this;rw [this]; simp
    rw [hc8];simp only [bs];rw [z19c 2 (r.take 8) (by rw [List.length_take]; omega)];simp only [bs,zq5];exact fin ⟨2,0,UInt64.ofNat (z8f (r.take 8)),[]⟩ 8 0 (by simp) (by omega) (by unfold zdt; rw [if_neg (by decide),if_pos rfl,if_neg h8])
  have c2:(k==2)=false:=by simpa using k2
  rw [c2];simp only [Bool.false_eq_true,if_false];by_cases k3:k=3
  ·have hr:=zup r;subst k3;rw [if_pos (by decide),zhn r (by omega) 30 (by decide)];simp only [bs,zq5];exact fin _ _ _ (by show (z3q r 30 1).1.length≤_; omega) (by omega) (by unfold zdt; rw [if_neg (by decide),if_neg (by decide),if_pos rfl])
  have c3:(k==3)=false:=by simpa using k3
  rw [c3];simp only [Bool.false_eq_true,if_false,zq5];exact fin ⟨k,0,0,[]⟩ 0 0 (by simp) (by omega) (by unfold zdt; rw [if_neg k1,if_neg k2,if_neg k3])
theorem z183 (v:z00) (hI:inI v.Num) (h:okV v=true) (b:List UInt8):zmt (zue v++b)=(v,(zue v).length,0):=by
 unfold zue;have key:∀ (k:UInt8) (x:List UInt8) (w:z00),zdt k (x++b)=(w,x.length,0)→okV w=true→zmt ((k::x)++b)=(w,(k::x).length,0):=by
  intro k x w h1 h2;show (if (zdt k (x++b)).2.2=0∧okV (zdt k (x++b)).1=true then ((zdt k (x++b)).1,(zdt k (x++b)).2.1+1,0) else badV)=_;rw [h1,if_pos ⟨rfl,h2⟩]; rfl
 have rd:∀ (n:Nat) (c:List UInt8),n<18446744073709551616→z11 (z0i n++c)=(n,(z0i n).length,0):=fun n c hn=>zc0 ((z3r _ _ _).2 ⟨hn,rfl,List.take_left⟩);rcases zhk h with k | k | k
 ·rw [if_pos k,k];refine key 1 _ v ?_ h;have hz:=zwc hI;unfold zdt;have hr:=rd (zig v.Num) b hz;rw [if_pos rfl,zmp (by rw [hr]),hr,zzi];obtain ⟨e1,e2⟩:=okV1 h k
  congr 1
  exact zui k.symm rfl e1.symm e2.symm
 ·rw [if_neg (by rw [k]; decide),if_pos k,k]
  refine key 2 _ v ?_ h;unfold zdt;rw [if_neg (by decide),if_pos rfl,if_neg (by rw [List.length_append,z11y]; omega)];have e:(be8 v.Bits++b).take 8=be8 v.Bits:=List.take_left' (z11y _);rw [e,z17r];obtain ⟨e1,e2,-⟩:=okV2 h k;rw [show UInt64.ofNat v.Bits.toNat=v.Bits by simp]
  congr 1
  exact zui k.symm e1.symm rfl e2.symm
 ·rw [if_neg (by rw [k]; decide),if_neg (by rw [k]; decide),k]
  refine key 3 _ v ?_ h;obtain ⟨e1,e2,e3,-⟩:=okV3 h k;unfold zdt;have hr:=rd v.Text.length (v.Text++b) (by omega);rw [if_neg (by decide),if_neg (by decide),if_pos rfl,List.append_assoc];rw [zbv (by decide) (by rw [hr]; simp only [List.length_append,Nat.div_one]; omega),hr];simp only [List.drop_left,Nat.one_mul,List.take_left,List.length_append]
  congr 1
  exact zui k.symm e1.symm e2.symm rfl
theorem zze (b:List UInt8) (h:(zmt b).2.2=0):inI (zmt b).1.Num∧okV (zmt b).1=true∧1≤(zmt b).2.1∧(zmt b).2.1≤b.length∧zue (zmt b).1=b.take (zmt b).2.1∧(zmt b).1.Text.length≤30:=by
 match b,h with
 | [],h=>simp [zmt,badV] at h
 | k::r,h =>
  unfold zmt at h ⊢;by_cases hc:(zdt k r).2.2=0∧okV (zdt k r).1=true
  ·simp only [if_pos hc];obtain ⟨c1,c2⟩:=hc;have ht:(zdt k r).1.Text.length≤30:=by
    rcases zhk c2 with q | q | q
    ·rw [(okV1 c2 q).2]; simp
    ·rw [(okV2 c2 q).2.1]; simp
    ·exact (okV3 c2 q).2.2.1
   suffices hs:inI (zdt k r).1.Num∧(zdt k r).2.1≤r.length∧zue (zdt k r).1=k::r.take (zdt k r).2.1 by
    refine ⟨hs.1,c2, by omega, by simp only [List.length_cons]; omega,?_,ht⟩;rw [hs.2.2,List.take_succ_cons]
   by_cases k1:k=1
   ·subst k1;have hw:zdt 1 r=(⟨1,(zh5 r).1,0,[]⟩,(zh5 r).2.1,(zh5 r).2.2):=by unfold zdt; rw [if_pos rfl]
    rw [hw] at c1 ⊢;have hr:=znu r;have e0:(z11 r).2.2=0:=by
     by_cases h1:(z11 r).2.2=0
     ·exact h1
     ·rw [zqn h1] at c1; exact c1
    rw [zmp e0] at hr ⊢;rcases zbs r with ⟨h1,h2⟩ | ⟨n,u,h1,h2⟩
    ·rw [h2] at e0; cases e0
    ·obtain ⟨a1,a2,a3⟩:=(z3r r n u).1 h1
     have:=zda h1
     rw [h2];refine ⟨zok a1,this.2.2.2,?_⟩;unfold zue;rw [if_pos rfl];simp only [z10i];rw [a3]
   by_cases k2:k=2
   ·subst k2;have hw:zdt 2 r=if r.length<8 then badV else (⟨2,0,UInt64.ofNat (z8f (r.take 8)),[]⟩,8,0):=by unfold zdt; rw [if_neg (by decide),if_pos rfl]
    rw [hw] at c1 ⊢;by_cases h8:r.length<8
    ·rw [if_pos h8] at c1; cases c1
    ·rw [if_neg h8];refine ⟨z11n, by show 8≤r.length; omega,?_⟩;show (2:UInt8)::be8 (UInt64.ofNat (z8f (r.take 8)))=2::r.take 8;rw [z19m _ (by rw [List.length_take]; omega)]
   by_cases k3:k=3
   ·subst k3;have hw:zdt 3 r=(⟨3,0,0,(z3q r 30 1).1⟩,(z3q r 30 1).2.1,(z3q r 30 1).2.2):=by unfold zdt; rw [if_neg (by decide),if_neg (by decide),if_pos rfl]
    rw [hw] at c1 ⊢;by_cases hb:(z11 r).2.2≠0∨(30:Int)<((z11 r).1:Int)∨(r.length - (z11 r).2.1) / 1<(z11 r).1
    ·rw [zku (by decide) hb] at c1; cases c1
    ·have hf:=zkg (b:=r) (k:=1) (by omega);rw [zbv (by decide) hb];have e0:(z11 r).2.2=0:=by omega
     rcases zbs r with ⟨h1,h2⟩ | ⟨n,u,h1,h2⟩
     ·rw [h2] at e0; cases e0
     ·obtain ⟨a1,a2,a3⟩:=(z3r r n u).1 h1
      have:=zda h1
      rw [h2] at hf ⊢;simp only [Nat.one_mul] at hf ⊢;refine ⟨z11n, by omega,?_⟩;show (3:UInt8)::(z0i ((r.drop u).take n).length++(r.drop u).take n)=_;have hl:((r.drop u).take n).length=n:=by rw [List.length_take,List.length_drop]; omega
      simp only [hl];rw [← a3,List.take_add]
   ·exfalso
    have hw:zdt k r=(⟨k,0,0,[]⟩,0,0):=by unfold zdt; rw [if_neg k1,if_neg k2,if_neg k3]
    rw [hw] at c2;rcases zhk c2 with q | q | q
    ·exact k1 q
    ·exact k2 q
    ·exact k3 q
  ·simp only [if_neg hc,badV] at h
   cases h
end
section
open Go
def rp1:List UInt8→Option (UInt8 × List UInt8)
 | []=>none
 | x::r=>some (x,r)
def rpN (lim:Nat) (b:List UInt8):Option (Nat × List UInt8):=if (z11 b).2.2=0∧(z11 b).1≤lim then some ((z11 b).1,b.drop (z11 b).2.1) else none
def rpI (b:List UInt8):Option (List ID × List UInt8):=if (zek b 4).2.2=0 then some ((zek b 4).1,b.drop (zek b 4).2.1) else none
def rpB (lim:Int) (b:List UInt8):Option (List UInt8 × List UInt8):=if (z3q b lim 1).2.2=0 then some ((z3q b lim 1).1,b.drop (z3q b lim 1).2.1) else none
def rpV (b:List UInt8):Option (z00 × List UInt8):=if (zmt b).2.2=0 then some ((zmt b).1,b.drop (zmt b).2.1) else none
def rpA (b:List UInt8):Option (z0b × List UInt8):=rp1 b >>= fun x=>if x.1=1 then some (⟨x.1,[],v0⟩,x.2) else rpB 20 x.2 >>= fun y=>if x.1=4 then rpV y.2 >>= fun z=>some (⟨x.1,y.1,z.1⟩,z.2) else some (⟨x.1,y.1,v0⟩,y.2)
def rpO (la ls le:Nat) (b:List UInt8):Option z05 :=
 rp1 b >>= fun x=>if x.1=111 then rpN la x.2 >>= fun a=>rpI a.2 >>= fun ps=>rpN ls ps.2 >>= fun st=>rpA st.2 >>= fun act=>rpN le act.2 >>= fun e=>rpN le e.2 >>= fun s =>
  if s.2=[] then some ⟨UInt32.ofNat a.1,ps.1,UInt64.ofNat st.1,act.1,⟨UInt32.ofNat e.1,UInt32.ofNat s.1⟩⟩ else none
 else none
theorem zz4 {b r:List UInt8} {x:UInt8} (h:rp1 b=some (x,r)):b=x::r:=by
 cases b with
 | nil=>cases h
 | cons y l=>unfold rp1 at h; injection h with h; injection h with h1 h2; rw [h1,h2]
theorem zoe {b:List UInt8} (h:(z11 b).2.2=0):b=z0i (z11 b).1++b.drop (z11 b).2.1∧(z11 b).1<18446744073709551616∧(z11 b).2.1≤b.length:=by
 rcases zbs b with ⟨h1,h2⟩ | ⟨n,u,h1,h2⟩
 ·rw [h2] at h; cases h
 ·obtain ⟨a1,a2,a3⟩:=(z3r b n u).1 h1;have h4:=(zda h1).2.2.2;rw [h2];refine ⟨?_,a1,h4⟩;show b=z0i n++b.drop u;rw [← a3,List.take_append_drop]
theorem zl1 {lim:Nat} {b r:List UInt8} {n:Nat} (h:rpN lim b=some (n,r)):b=z0i n++r∧n≤lim∧n<18446744073709551616∧r.length≤b.length:=by
 unfold rpN at h
 split at h
 ·rename_i hc
  injection h with h; injection h with h1 h2
  have hs:=zoe hc.1;rw [h1,h2] at hs;exact ⟨hs.1, by rw [← h1]; exact hc.2,hs.2.1, by rw [← h2,List.length_drop]; omega⟩
 ·cases h
theorem zpo {b:List UInt8} {most:Int} (h:(z3q b most 1).2.2=0):b=(z0i (z3q b most 1).1.length++(z3q b most 1).1)++b.drop (z3q b most 1).2.1∧((z3q b most 1).1.length:Int)≤most∧(z3q b most 1).2.1≤b.length:=by
 have hu:=zez b;by_cases h1:most<0
 ·rw [znz h1] at h; cases h
 by_cases h2:(z11 b).2.2≠0∨most<((z11 b).1:Int)∨(b.length - (z11 b).2.1) / 1<(z11 b).1
 ·rw [zku h1 h2] at h; cases h
 ·have hf:=zkg (b:=b) (k:=1) (by omega);rw [zbv h1 h2];have e0:(z11 b).2.2=0:=by omega
  rcases zbs b with ⟨h3,h4⟩ | ⟨n,u,h3,h4⟩
  ·rw [h4] at e0; cases e0
  ·obtain ⟨a1,a2,a3⟩:=(z3r b n u).1 h3;rw [h4] at hf h2 ⊢;simp only [Nat.one_mul] at hf ⊢;have hl:((b.drop u).take n).length=n:=by rw [List.length_take,List.length_drop]; omega
   simp only at h2;refine ⟨?_, by rw [hl]; omega, by have:=zda h3; omega⟩;rw [hl,← a3,← List.take_add,List.take_append_drop]
theorem z18x {lim:Int} {b r s:List UInt8} (h:rpB lim b=some (s,r)):b=(z0i s.length++s)++r∧(s.length:Int)≤lim∧r.length≤b.length:=by
 unfold rpB at h
 split at h
 ·rename_i hc
  injection h with h; injection h with h1 h2
  have hs:=zpo hc;rw [h1,h2] at hs;exact ⟨hs.1,hs.2.1, by rw [← h2,List.length_drop]; omega⟩
 ·cases h
theorem zwm {b:List UInt8} (h:(zek b 4).2.2=0):b=(z0i (zek b 4).1.length++zg4 (zek b 4).1)++b.drop (zek b 4).2.1∧(zek b 4).1.length≤4∧z8a (zek b 4).1=true∧(zek b 4).2.1≤b.length:=by
 unfold zek at h ⊢;by_cases h0:(z3q b 4 32).2.2=0
 ·obtain ⟨l1,l2,l3,l4,l5,l6⟩:=zpt h0;have hn:(z3q b 4 32).1.length / 32=(z11 b).1:=by omega
  rw [if_neg (by simp [h0])] at h ⊢;by_cases hi:z8a (zge (z3q b 4 32).1 ((z3q b 4 32).1.length / 32))=true
  ·rw [if_pos hi] at h ⊢;have hs:=zoe l3;simp only;rw [hn] at hi ⊢;rw [zdi,l2];refine ⟨?_, by omega,hi,l6⟩;have ht:(z3q b 4 32).1.take (32 * (z11 b).1)=(b.drop (z11 b).2.1).take (32 * (z11 b).1):=by rw [l4,List.take_take,Nat.min_self]
   rw [zuo _ _ (by omega),ht,← List.drop_drop,List.append_assoc,List.take_append_drop];exact hs.1
  ·rw [if_neg hi] at h; cases h
 ·rw [if_pos h0] at h; exact absurd h h0
theorem z18k {b r:List UInt8} {l:List ID} (h:rpI b=some (l,r)):b=(z0i l.length++zg4 l)++r∧l.length≤4∧z8a l=true∧r.length≤b.length:=by
 unfold rpI at h
 split at h
 ·rename_i hc
  injection h with h; injection h with h1 h2
  have hs:=zwm hc;rw [h1,h2] at hs;exact ⟨hs.1,hs.2.1,hs.2.2.1, by rw [← h2,List.length_drop]; omega⟩
 ·cases h
theorem z173 {b r:List UInt8} {v:z00} (h:rpV b=some (v,r)):b=zue v++r∧okV v=true∧inI v.Num∧v.Text.length≤30∧r.length≤b.length:=by
 unfold rpV at h
 split at h
 ·rename_i hc
  injection h with h; injection h with h1 h2
  obtain ⟨e1,e2,e3,e4,e5,e6⟩:=zze b hc;rw [h1] at e1 e2 e5 e6;refine ⟨?_,e2,e1,e6, by rw [← h2,List.length_drop]; omega⟩;rw [e5,← h2,List.take_append_drop]
 ·cases h
def actB (a:z0b):List UInt8:=a.Kind::(if a.Kind=1 then [] else if a.Kind=4 then zwx a++zue a.Value else zwx a)
theorem z17s {b r:List UInt8} {a:z0b} (h:rpA b=some (a,r)):b=actB a++r∧inI a.Value.Num∧a.Value.Text.length≤30∧a.Key.length≤20∧r.length≤b.length:=by
 unfold rpA at h;have z:inI v0.Num∧v0.Text.length≤30:=⟨⟨by decide, by decide⟩, by decide⟩
 cases h1:rp1 b with
 | none=>rw [h1] at h; cases h
 | some x =>
  obtain ⟨k,b1⟩:=x;have e1:=zz4 h1;rw [h1] at h;simp only [bs] at h;by_cases k1:k=1
  ·rw [if_pos k1] at h
   injection h with h; injection h with h2 h3
   subst h2 h3;refine ⟨?_,z.1,z.2, by simp, by rw [e1]; simp⟩
   rw [e1]; unfold actB; simp [k1]
  ·rw [if_neg k1] at h
   cases h2:rpB 20 b1 with
   | none=>rw [h2] at h; cases h
   | some y =>
    obtain ⟨key,b2⟩:=y;have e2:=z18x h2;rw [h2] at h;simp only [bs] at h;by_cases k4:k=4
    ·rw [if_pos k4] at h
     cases h3:rpV b2 with
     | none=>rw [h3] at h; cases h
     | some w =>
      obtain ⟨v,b3⟩:=w;have e3:=z173 h3;rw [h3] at h;simp only [bs] at h
      injection h with h; injection h with h4 h5
      subst h4 h5;refine ⟨?_,e3.2.2.1,e3.2.2.2.1, by show key.length≤20; omega, by rw [e1]; simp only [List.length_cons]; omega⟩;rw [e1,e2.1,e3.1]; unfold actB zwx;simp only [if_neg k1,if_pos k4,List.cons_append,List.append_assoc]
    ·rw [if_neg k4] at h
     injection h with h; injection h with h4 h5
     subst h4 h5;refine ⟨?_,z.1,z.2, by show key.length≤20; omega, by rw [e1]; simp only [List.length_cons]; omega⟩;rw [e1,e2.1]; unfold actB zwx;simp only [if_neg k1,if_neg k4,List.cons_append,List.append_assoc]
theorem zs0 (o:z05):z7h o=111::(z0i o.Author.toNat++((z0i o.Preds.length++zg4 o.Preds)++(z0i o.Stamp.toNat++(actB o.Act++(z0i o.Sig.E.toNat++z0i o.Sig.S.toNat))))):=by
 unfold z7h msg head actB;by_cases k1:o.Act.Kind=1
 ·simp only [if_pos k1,List.append_assoc,List.cons_append,List.nil_append]
 ·by_cases k4:o.Act.Kind=4
  ·simp only [if_neg k1,if_pos k4,List.append_assoc,List.cons_append,List.nil_append]
  ·simp only [if_neg k1,if_neg k4,List.append_assoc,List.cons_append,List.nil_append]
theorem z11w {n:Nat} (h:n≤4294967295):(UInt32.ofNat n).toNat=n:=by simp; omega
theorem z18u {n:Nat} (h:n<18446744073709551616):(UInt64.ofNat n).toNat=n:=by simp; omega
theorem z10r {la ls le:Nat} (hla:la≤4294967295) (hle:le≤4294967295) {b:List UInt8} {o:z05} (h:rpO la ls le b=some o):z7h o=b∧inI o.Act.Value.Num∧o.Act.Value.Text.length≤30∧o.Preds.length≤4:=by
 unfold rpO at h
 cases h1:rp1 b with
 | none=>rw [h1] at h; cases h
 | some x =>
  rw [h1] at h;simp only [bs] at h;by_cases kc:x.1=111
  ·rw [if_pos kc] at h
   cases h2:rpN la x.2 with
   | none=>rw [h2] at h; cases h
   | some a =>
    rw [h2] at h; simp only [bs] at h
    cases h3:rpI a.2 with
    | none=>rw [h3] at h; cases h
    | some ps =>
     rw [h3] at h; simp only [bs] at h
     cases h4:rpN ls ps.2 with
     | none=>rw [h4] at h; cases h
     | some st =>
      rw [h4] at h; simp only [bs] at h
      cases h5:rpA st.2 with
      | none=>rw [h5] at h; cases h
      | some act =>
       rw [h5] at h; simp only [bs] at h
       cases h6:rpN le act.2 with
       | none=>rw [h6] at h; cases h
       | some e =>
        rw [h6] at h; simp only [bs] at h
        cases h7:rpN le e.2 with
        | none=>rw [h7] at h; cases h
        | some s =>
         rw [h7] at h; simp only [bs] at h;by_cases hz:s.2=[]
         ·rw [if_pos hz] at h
          injection h with h
          subst h;have e1:=zz4 h1;have e2:=zl1 h2;have e3:=z18k h3;have e4:=zl1 h4;have e5:=z17s h5;have e6:=zl1 h6;have e7:=zl1 h7;refine ⟨?_,e5.2.1,e5.2.2.1,e3.2.1⟩;rw [zs0];simp only;rw [z11w (by omega),z18u e4.2.2.1,z11w (by omega),z11w (by omega),e1,kc,e2.1,e3.1,e4.1,e5.1,e6.1,e7.1,hz,List.append_nil]
         ·rw [if_neg hz] at h; cases h
  ·rw [if_neg kc] at h; cases h
theorem zmg {lim n:Nat} (h:n<18446744073709551616) (hl:n≤lim) (r:List UInt8):rpN lim (z0i n++r)=some (n,r):=by
 have hr:z11 (z0i n++r)=(n,(z0i n).length,0):=zc0 ((z3r _ _ _).2 ⟨h,rfl,List.take_left⟩);unfold rpN;rw [hr,if_pos ⟨rfl,hl⟩];simp only [List.drop_left]
theorem z125 {lim:Int} {s:List UInt8} (h:s.length≤100000) (hl:(s.length:Int)≤lim) (r:List UInt8):z3q ((z0i s.length++s)++r) lim 1=(s,(z0i s.length).length+s.length,0):=by
 have hr:z11 ((z0i s.length++s)++r)=(s.length,(z0i s.length).length,0):=zc0 ((z3r _ _ _).2 ⟨by omega,rfl, by rw [List.append_assoc]; exact List.take_left⟩);rw [zbv (by omega) (by rw [hr]; simp only [List.length_append,Nat.div_one]; omega),hr];simp only [Nat.one_mul];rw [List.append_assoc,List.drop_left,List.take_left]
theorem z161 {lim:Int} {s:List UInt8} (h:s.length≤100000) (hl:(s.length:Int)≤lim) (r:List UInt8):rpB lim ((z0i s.length++s)++r)=some (s,r):=by
 unfold rpB;rw [z125 h hl r,if_pos rfl];simp only;rw [← List.length_append,List.drop_left]
theorem zxj:∀ {l m:List ID},l.length=m.length→zg4 l=zg4 m→l=m
 | [],[],_,_=>rfl
 | x::l,y::m,hl,h=>by
  unfold zg4 at h;simp only [List.flatMap_cons] at h;have e:=List.append_inj h (by simp);rw [Vector.toList_inj.1 e.1,zxj (by simpa using hl) e.2]
theorem z19n {l:List ID} (h:l.length≤4) (hi:z8a l=true) (r:List UInt8):rpI ((z0i l.length++zg4 l)++r)=some (l,r):=by
 have hr:z11 ((z0i l.length++zg4 l)++r)=(l.length,(z0i l.length).length,0):=zc0 ((z3r _ _ _).2 ⟨by omega,rfl, by rw [List.append_assoc]; exact List.take_left⟩);have hl:=zhp l;have hp:z3q ((z0i l.length++zg4 l)++r) 4 32=(zg4 l,(z0i l.length).length+32 * l.length,0):=by
  rw [zbv (by omega) (by rw [hr]; simp only [List.length_append]; omega),hr];simp only;rw [List.append_assoc,List.drop_left,← hl,List.take_left]
 have he:zge (zg4 l) l.length=l:=zxj (zdi _ _) (by rw [zuo _ _ (by omega),← hl,List.take_length]);have hn:(zg4 l).length / 32=l.length:=by omega
 have hq:zek ((z0i l.length++zg4 l)++r) 4=(l,(z0i l.length).length+32 * l.length,0):=by
  unfold zek;rw [hp];simp only [ne_eq,not_true,if_false,hn,he,hi,if_true]
 unfold rpI;rw [hq,if_pos rfl];simp only;rw [← hl,← List.length_append,List.drop_left]
theorem z1ak {v:z00} (hI:inI v.Num) (h:okV v=true) (r:List UInt8):rpV (zue v++r)=some (v,r):=by
 unfold rpV;rw [z183 v hI h r,if_pos rfl];simp only [List.drop_left]
theorem z1ae {a:z0b} (h:zl7 a=true) (hI:inI a.Value.Num) (r:List UInt8):rpA (actB a++r)=some (a,r):=by
 obtain ⟨k,key,v⟩:=a;have hk:=zbz h;unfold zl7 at h;unfold rpA actB;simp only at h hI hk ⊢;simp only [List.cons_append,rp1,bs];by_cases k1:k=1
 ·rw [if_pos k1] at h;simp only [Bool.and_eq_true,decide_eq_true_eq] at h;rw [if_pos k1,if_pos k1,h.1,h.2]; rfl
 ·rw [if_neg k1] at h;have hkey:key.length≤20:=by
   rcases hk with ⟨a,_⟩ | ⟨_,a⟩ | ⟨_,a,_⟩
   ·exact absurd a k1
   ·exact a
   ·exact a
  rw [if_neg k1,if_neg k1];by_cases k4:k=4
  ·have hv:okV v=true:=by
    rw [if_neg (by rw [k4]; decide),if_pos k4] at h
    simp only [Bool.and_eq_true] at h; exact h.2
   simp only [if_pos k4];unfold zwx;rw [List.append_assoc (z0i _++_),z161 (by show key.length≤_; omega) (by show (key.length:Int)≤20; omega)];simp only [bs];rw [z1ak hI hv];simp only [bs]
  ·have hv:v=v0:=by
    by_cases k23:k=2∨k=3
    ·rw [if_pos k23] at h;simp only [Bool.and_eq_true,decide_eq_true_eq] at h; exact h.2
    ·rw [if_neg k23,if_neg k4] at h; cases h
   simp only [if_neg k4];unfold zwx;rw [z161 (by show key.length≤_; omega) (by show (key.length:Int)≤20; omega)];simp only [bs,hv]
theorem z1as {la ls le:Nat} (hla:1000000007≤la) (hls:1000000000000≤ls) (hle:500000003≤le) {o:z05} (h:z1v o=0) (hI:inI o.Act.Value.Num):rpO la ls le (z7h o)=some o:=by
 obtain ⟨h1,h2,h3⟩:=z40 h;have ha:=zhg h3;have hg:=zoj h3;unfold zcd zd1 at h3;simp only [Bool.and_eq_true,decide_eq_true_eq,Bool.not_eq_true',decide_eq_false_iff_not] at h3;have hs:o.Stamp.toNat≤1000000000000:=by
  have:=h3.2.1
  rw [UInt64.lt_iff_toNat_lt] at this;have e:(1000000000000:UInt64).toNat=1000000000000:=rfl;omega
 have hA:o.Author.toNat≤1000000007:=by unfold inG gp at hg; omega
 have hE:o.Sig.E.toNat≤500000003:=by have:=h3.2.2.2.1; unfold gq at this; omega
 have hS:o.Sig.S.toNat≤500000003:=by have:=h3.2.2.2.2; unfold gq at this; omega
 rw [zs0];unfold rpO;simp only [rp1,bs,if_true];rw [zmg (by omega) (by omega)];simp only [bs];rw [z19n h1 h2];simp only [bs];rw [zmg (by omega) (by omega)];simp only [bs];rw [z1ae ha hI];simp only [bs];rw [zmg (by omega) (by omega)];simp only [bs]
 have:=zmg (lim:=le) (n:=o.Sig.S.toNat) (by omega) (by omega) []
 rw [List.append_nil] at this;rw [this];simp only [bs,if_true]
 congr 1
 obtain ⟨A,P,T,C,⟨E,S⟩⟩:=o
 simp
end
section
open Go
def pseq {α β:Type} (p:List UInt8→Option (α × List UInt8)) (q:List UInt8→Option (β × List UInt8)) (b:List UInt8):Option ((α × β) × List UInt8):=p b >>= fun x=>(q x.2).map fun y=>((x.1,y.1),y.2)
def vwS (s:z20):Option (List UInt8):=if s.bad then none else some s.b
structure RdS {α:Type} (s s':z20) (p:List UInt8→Option (α × List UInt8)) (v:α):Prop where
 len:s'.b.length≤s.b.length
 ok:∀ x,(vwS s >>= p)=some x→v=x.1∧vwS s'=some x.2
 no:(vwS s >>= p)=none→vwS s'=none
theorem RdS.comp {α β γ:Type} {s s1 s2:z20} {v:α} {w:β} {p:List UInt8→Option (α × List UInt8)} {q:List UInt8→Option (β × List UInt8)} {pq:List UInt8→Option (γ × List UInt8)} (R1:RdS s s1 p v) (R2:RdS s1 s2 q w) (f:β→γ) (h1:∀ b,p b=none→pq b=none) (h2:∀ b r,p b=some (v,r)→pq b=(q r).map fun y=>(f y.1,y.2)):RdS s s2 pq (f w) where
 len:=Nat.le_trans R2.len R1.len
 ok:=fun x hx=>by
  cases hv:vwS s with
  | none=>rw [hv] at hx; cases hx
  | some b =>
   rw [hv] at hx;have hx':pq b=some x:=hx
   cases hp:p b with
   | none=>rw [h1 b hp] at hx'; cases hx'
   | some y =>
    obtain ⟨y1,y2⟩:=y;have r1:=R1.ok (y1,y2) (by rw [hv]; exact hp);simp only at r1;rw [← r1.1] at hp;rw [h2 b y2 hp] at hx'
    cases hq:q y2 with
    | none=>rw [hq] at hx'; cases hx'
    | some z =>
     rw [hq] at hx';have r2:=R2.ok z (by rw [r1.2]; exact hq);simp only [Option.map_some,Option.some.injEq] at hx';rw [← hx'];exact ⟨by rw [r2.1],r2.2⟩
 no:=fun hx=>by
  cases hv:vwS s with
  | none=>exact R2.no (by rw [R1.no (by rw [hv]; rfl)]; rfl)
  | some b =>
   rw [hv] at hx;have hx':pq b=none:=hx
   cases hp:p b with
   | none=>exact R2.no (by rw [R1.no (by rw [hv]; exact hp)]; rfl)
   | some y =>
    obtain ⟨y1,y2⟩:=y;have r1:=R1.ok (y1,y2) (by rw [hv]; exact hp);simp only at r1;rw [← r1.1] at hp;rw [h2 b y2 hp] at hx'
    cases hq:q y2 with
    | none=>exact R2.no (by rw [r1.2]; exact hq)
    | some z=>rw [hq] at hx'; cases hx'
theorem RdS.seq {α β:Type} {s s1 s2:z20} {v:α} {w:β} {p:List UInt8→Option (α × List UInt8)} {q:List UInt8→Option (β × List UInt8)} (R1:RdS s s1 p v) (R2:RdS s1 s2 q w):RdS s s2 (pseq p q) (v,w) :=
 R1.comp R2 (fun y=>(v,y)) (fun b h=>by unfold pseq; rw [h]; rfl) (fun b r h=>by unfold pseq; rw [h]; rfl)
theorem zuv (s:z20) (u e:Nat) (h:e=0→u≤s.b.length):z2j s (u:Int) (e:Int)=some (if e=0 then ⟨s.b.drop u,s.bad⟩ else ⟨s.b,true⟩):=by
 unfold z2j;by_cases he:e=0
 ·rw [if_neg (by simp [he]),if_pos he,zav (h he) (Nat.le_refl _),List.take_of_length_le (by simp)]; rfl
 ·rw [if_pos (by simp; omega),if_neg he]
theorem nx {α:Type} (s:z20) (v:α) (u e:Nat) (p:List UInt8→Option (α × List UInt8)) (hu:e=0→u≤s.b.length) (hp:p s.b=if e=0 then some (v,s.b.drop u) else none):∃ s',z2j s (u:Int) (e:Int)=some s'∧RdS s s' p v:=by
 refine ⟨_,zuv s u e hu,?_,?_,?_⟩
 ·by_cases he:e=0
  ·rw [if_pos he]; show (s.b.drop u).length≤_; rw [List.length_drop]; omega
  ·rw [if_neg he]; exact Nat.le_refl _
 ·intro x hx
  cases hb:s.bad with
  | true=>unfold vwS at hx; rw [hb] at hx; cases hx
  | false =>
   unfold vwS at hx; rw [hb] at hx;have hx':p s.b=some x:=hx;rw [hp] at hx';by_cases he:e=0
   ·rw [if_pos he] at hx' ⊢
    injection hx' with hx'
    rw [← hx']; exact ⟨rfl,rfl⟩
   ·rw [if_neg he] at hx'; cases hx'
 ·intro hx;by_cases he:e=0
  ·rw [if_pos he]
   cases hb:s.bad with
   | true=>rfl
   | false =>
    unfold vwS at hx; rw [hb] at hx;have hx':p s.b=none:=hx;rw [hp,if_pos he] at hx'; cases hx'
  ·rw [if_neg he]; rfl
theorem zvz (s:z20):∃ v s',z9o s=some (v,s')∧RdS s s' rp1 v:=by
 obtain ⟨b,bad⟩:=s
 cases bad with
 | true=>exact ⟨0,⟨b,true⟩,rfl,Nat.le_refl _, fun x hx=>(by cases hx), fun _=>rfl⟩
 | false =>
  cases b with
  | nil=>exact ⟨0,⟨[],true⟩,rfl,Nat.le_refl _, fun x hx=>(by cases hx), fun _=>rfl⟩
  | cons x r =>
   refine ⟨x,⟨r,false⟩,?_, by simp, fun y hy=>?_, fun h=>by cases h⟩
   ·unfold z9o;have hn:z2j ⟨x::r,false⟩ 1 0=some ⟨r,false⟩:=zuv ⟨x::r,false⟩ 1 0 (fun _=>by simp);have i0:idx (x::r) 0=some x:=z0k (l:=x::r) (i:=0) (by simp);simp only [Bool.false_eq_true,if_false,bs];rw [if_neg (by simp; omega),i0];simp only [bs];rw [hn]; rfl
   ·have hy':some (x,r)=some y:=hy
    injection hy' with hy'
    rw [← hy']; exact ⟨rfl,rfl⟩
theorem zn3 (s:z20) (lim:UInt64) (L:Nat) (hL:lim.toNat=L) (hb:s.b.length≤10000):∃ (v:UInt64) (s':z20),z5d s lim=some (v,s')∧RdS s s' (rpN L) v.toNat:=by
 have hl:=zhj s.b;have hu:=zez s.b;have en:(UInt64.ofNat (z11 s.b).1).toNat=(z11 s.b).1:=by simp; omega
 unfold z5d;rw [zmv s.b (by omega)];simp only [bs];rw [zuv s _ _ (fun _=>hu)];simp only [bs];obtain ⟨b,bad⟩:=s;simp only at hl hu en hb ⊢;by_cases he:(z11 b).2.2=0
 ·rw [if_pos he]
  cases bad with
  | true=>exact ⟨_,_,rfl, by show (b.drop _).length≤_; rw [List.length_drop]; exact Nat.sub_le _ _, fun x hx=>(by cases hx), fun _=>rfl⟩
  | false =>
   by_cases hlim:(z11 b).1≤L
   ·have hd:decide (lim<UInt64.ofNat (z11 b).1)=false:=by rw [decide_eq_false_iff_not,UInt64.lt_iff_toNat_lt,en]; omega
    refine ⟨UInt64.ofNat (z11 b).1,⟨b.drop (z11 b).2.1,false⟩, by simp [hd], by show (b.drop _).length≤_; rw [List.length_drop]; exact Nat.sub_le _ _, fun x hx=>?_, fun hx=>?_⟩
    ·have hx':rpN L b=some x:=hx;unfold rpN at hx';rw [if_pos ⟨he,hlim⟩] at hx'
     injection hx' with hx'
     rw [← hx']; exact ⟨en,rfl⟩
    ·have hx':rpN L b=none:=hx;unfold rpN at hx';rw [if_pos ⟨he,hlim⟩] at hx'; cases hx'
   ·have hd:decide (lim<UInt64.ofNat (z11 b).1)=true:=by rw [decide_eq_true_eq,UInt64.lt_iff_toNat_lt,en]; omega
    refine ⟨UInt64.ofNat (z11 b).1,⟨b.drop (z11 b).2.1,true⟩, by simp [hd], by show (b.drop _).length≤_; rw [List.length_drop]; exact Nat.sub_le _ _, fun x hx=>?_, fun _=>rfl⟩;have hx':rpN L b=some x:=hx;unfold rpN at hx';rw [if_neg (fun h=>hlim h.2)] at hx'; cases hx'
 ·rw [if_neg he];refine ⟨UInt64.ofNat (z11 b).1,⟨b,true⟩,rfl,Nat.le_refl _, fun x hx=>?_, fun _=>rfl⟩
  cases bad with
  | true=>cases hx
  | false =>
   have hx':rpN L b=some x:=hx;unfold rpN at hx';rw [if_neg (fun h=>he h.1)] at hx'; cases hx'
theorem z14d (s:z20) (hb:s.b.length≤10000):∃ s',z2j s ((zek s.b 4).2.1:Int) ((zek s.b 4).2.2:Int)=some s'∧RdS s s' rpI (zek s.b 4).1 :=
 nx s _ _ _ rpI (fun h=>(zwm h).2.2.2) (by unfold rpI; rfl)
theorem z14e (s:z20) (lim:Int) (hb:s.b.length≤10000):∃ s',z2j s ((z3q s.b lim 1).2.1:Int) ((z3q s.b lim 1).2.2:Int)=some s'∧RdS s s' (rpB lim) (z3q s.b lim 1).1 :=
 nx s _ _ _ (rpB lim) (fun h=>(zpo h).2.2) (by unfold rpB; rfl)
theorem z133 (s:z20) (hb:s.b.length≤10000):∃ s',z2j s ((zmt s.b).2.1:Int) ((zmt s.b).2.2:Int)=some s'∧RdS s s' rpV (zmt s.b).1 :=
 nx s _ _ _ rpV (fun h=>(zze _ h).2.2.2.1) (by unfold rpV; rfl)
theorem z13d {β:Type} (s:z20) (hb:s.b.length≤10000):∃ (a:z0b) (s':z20),RdS s s' rpA a∧∀ K:z20 × z0b→Option β,
  (z9o s >>= fun r17 =>
  (if (({ (⟨0,[],(⟨0,0,0,[]⟩:z00)⟩:z0b) with Kind:=r17.1 }).Kind) != 1 then
   z7e r17.2.b 20 >>= fun r21 =>
   z2j r17.2 r21.2.1 r21.2.2 >>= fun r23 =>
   some (r23,{ { (⟨0,[],(⟨0,0,0,[]⟩:z00)⟩:z0b) with Kind:=r17.1 } with Key:=r21.1 })
  else
   some (r17.2,{ (⟨0,[],(⟨0,0,0,[]⟩:z00)⟩:z0b) with Kind:=r17.1 })) >>= fun s19 =>
  (if s19.2.Kind==4 then
   zca s19.1.b >>= fun r27 =>
   z2j s19.1 r27.2.1 r27.2.2 >>= fun r30 =>
   some (r30,{ s19.2 with Value:=r27.1 })
  else
   some (s19.1,s19.2)) >>= fun s25=>K s25)=K (s',a):=by
 obtain ⟨k,s1,e1,R1⟩:=zvz s;have l1:=R1.len;by_cases k1:k=1
 ·refine ⟨⟨1,[],v0⟩,s1,?_, fun K=>?_⟩
  ·have R0:RdS s1 s1 (fun b=>some ((),b)) ():=⟨Nat.le_refl _, fun x hx=>⟨rfl, by
    cases hv:vwS s1 with
    | none=>rw [hv] at hx; cases hx
    | some b=>rw [hv] at hx; have hx':some ((),b)=some x:=hx; injection hx' with hx'; rw [← hx']⟩, fun hx=>by
    cases hv:vwS s1 with
    | none=>rfl
    | some b=>rw [hv] at hx; cases hx⟩
   exact R1.comp R0 (pq:=rpA) (fun _=>⟨1,[],v0⟩) (fun b h=>by unfold rpA; rw [h]; rfl) (fun b r h=>by unfold rpA; rw [h,k1]; rfl)
  ·rw [e1,k1]; rfl
 ·obtain ⟨s2,e2,R2⟩:=z14e s1 20 (by omega);have l2:=R2.len;have c1:(k != 1)=true:=by simpa using k1
  by_cases k4:k=4
  ·obtain ⟨s3,e3,R3⟩:=z133 s2 (by omega);refine ⟨⟨4,(z3q s1.b 20 1).1,(zmt s2.b).1⟩,s3,?_, fun K=>?_⟩
   ·have R23:RdS s1 s3 (fun b=>rpB 20 b >>= fun y=>(rpV y.2).map fun z=>((⟨4,y.1,z.1⟩:z0b),z.2)) ⟨4,(z3q s1.b 20 1).1,(zmt s2.b).1⟩ :=
     R2.comp R3 (fun z=>(⟨4,(z3q s1.b 20 1).1,z⟩:z0b)) (fun b h=>by rw [h]; rfl) (fun b r h=>by rw [h]; rfl)
    refine R1.comp R23 (pq:=rpA) id (fun b h=>by unfold rpA; rw [h]; rfl) (fun b r h=>?_);unfold rpA; rw [h,k4];simp only [bs,id];rw [if_neg (by decide)]
    cases rpB 20 r with
    | none=>rfl
    | some y =>
     simp only [bs,if_true]
     cases rpV y.2 <;> rfl
   ·rw [e1];simp only [bs,c1,if_true];rw [zhn s1.b (by omega) 20 (by decide)];simp only [bs];rw [e2];simp only [bs];rw [if_pos (by simpa using k4),z194 s2.b (by omega)];simp only [bs];rw [e3,k4];simp only [bs]
  ·refine ⟨⟨k,(z3q s1.b 20 1).1,v0⟩,s2,?_, fun K=>?_⟩
   ·refine R1.comp R2 (pq:=rpA) (fun key=>(⟨k,key,v0⟩:z0b)) (fun b h=>by unfold rpA; rw [h]; rfl) (fun b r h=>?_);unfold rpA; rw [h];simp only [bs];rw [if_neg k1]
    cases rpB 20 r with
    | none=>rfl
    | some y=>simp only [bs,if_neg k4,Option.map_some]
   ·rw [e1];simp only [bs,c1,if_true];rw [zhn s1.b (by omega) 20 (by decide)];simp only [bs];rw [e2];simp only [bs];rw [if_neg (by simpa using k4)]; rfl
def pAll (la ls le:Nat):List UInt8→Option ((UInt8 × Nat × List ID × Nat × z0b × Nat × Nat) × List UInt8):=pseq rp1 (pseq (rpN la) (pseq rpI (pseq (rpN ls) (pseq rpA (pseq (rpN le) (rpN le))))))
theorem z190 (la ls le:Nat) (b:List UInt8):rpO la ls le b=match pAll la ls le b with
  | some ((c,a,ps,st,act,e,s),r)=>if c=111∧r=[] then some ⟨UInt32.ofNat a,ps,UInt64.ofNat st,act,⟨UInt32.ofNat e,UInt32.ofNat s⟩⟩ else none
  | none=>none:=by
 unfold rpO pAll;simp only [pseq]
 cases rp1 b with
 | none=>rfl
 | some x =>
  simp only [bs];by_cases kc:x.1=111
  ·rw [if_pos kc]
   cases rpN la x.2 with
   | none=>rfl
   | some a =>
    simp only [bs]
    cases rpI a.2 with
    | none=>rfl
    | some ps =>
     simp only [bs]
     cases rpN ls ps.2 with
     | none=>rfl
     | some st =>
      simp only [bs]
      cases rpA st.2 with
      | none=>rfl
      | some act =>
       simp only [bs]
       cases rpN le act.2 with
       | none=>rfl
       | some e =>
        simp only [bs]
        cases rpN le e.2 with
        | none=>rfl
        | some s =>
         simp only [bs,Option.map_some];by_cases hz:s.2=[]
         ·rw [if_pos hz,if_pos ⟨kc,hz⟩]
         ·rw [if_neg hz,if_neg (fun h=>hz h.2)]
  ·rw [if_neg kc]
   cases h:((rpN la x.2 >>= fun x=>((rpI x.2 >>= fun x=>((rpN ls x.2 >>= fun x=>((rpA x.2 >>= fun x=>((rpN le x.2 >>= fun x=>(rpN le x.2).map fun y=>((x.1,y.1),y.2)).map fun y=>((x.1,y.1),y.2)))).map fun y=>((x.1,y.1),y.2))).map fun y=>((x.1,y.1),y.2))).map fun y=>((x.1,y.1),y.2))) with
   | none=>rfl
   | some y =>
    obtain ⟨⟨a,ps,st,act,e,s⟩,r⟩:=y;simp only [Option.map_some];rw [if_neg (fun h=>kc h.1)]
def decO (b:List UInt8):z05 × Int:=match rpO 1000000007 1000000000000 500000003 b with
 | some o=>if z1v o=0 then (o,0) else (zO,12)
 | none=>(zO,12)
theorem z10h {x:UInt64} {n:Nat} (h:x.toNat=n):x.toUInt32=UInt32.ofNat n:=by
 apply UInt32.toNat_inj.1
 rw [UInt64.toNat_toUInt32,h]; simp
end
section
open Go
theorem z11v:zff=some (zO,12):=rfl
theorem z17d {b:List UInt8} {s7:z20} {c:UInt8} {a:UInt64} {ps:List ID} {st:UInt64} {act:z0b} {e s:UInt64} (R:RdS ⟨b,false⟩ s7 (pAll 1000000007 1000000000000 500000003) (c,a.toNat,ps,st.toNat,act,e.toNat,s.toNat)) :
  (c≠111→rpO 1000000007 1000000000000 500000003 b=none) ∧
  (s7.bad=true→rpO 1000000007 1000000000000 500000003 b=none) ∧
  (s7.bad=false→0<s7.b.length→rpO 1000000007 1000000000000 500000003 b=none) ∧
  (c=111→s7.bad=false→¬ 0<s7.b.length→rpO 1000000007 1000000000000 500000003 b=some ⟨a.toUInt32,ps,st,act,⟨e.toUInt32,s.toUInt32⟩⟩):=by
 rw [z190]
 cases hp:pAll 1000000007 1000000000000 500000003 b with
 | none =>
  have hn:=R.no (show (vwS ⟨b,false⟩ >>= _)=none from hp);refine ⟨fun _=>rfl, fun _=>rfl, fun _ _=>rfl, fun _ h=>?_⟩;unfold vwS at hn; rw [h] at hn; cases hn
 | some x =>
  obtain ⟨⟨c',a',ps',st',act',e',s'⟩,r⟩:=x;have hk:=R.ok _ (show (vwS ⟨b,false⟩ >>= _)=some _ from hp);obtain ⟨h1,h2⟩:=hk;simp only [Prod.mk.injEq] at h1 h2;obtain ⟨rfl,h1,rfl,h3,rfl,h5,h6⟩:=h1;have hbad:s7.bad=false:=by
   cases h:s7.bad with
   | false=>rfl
   | true=>unfold vwS at h2; rw [h] at h2; cases h2
  have hb:s7.b=r:=by unfold vwS at h2; rw [hbad] at h2; injection h2
  refine ⟨fun hc=>?_, fun h=>?_, fun _ h=>?_, fun hc _ h=>?_⟩
  ·simp only; rw [if_neg (fun h=>hc h.1)]
  ·rw [hbad] at h; cases h
  ·simp only; rw [if_neg (fun h'=>by rw [hb,h'.2] at h; simp at h)]
  ·have:r=[]:=by rw [← hb]; exact List.eq_nil_of_length_eq_zero (by omega)
   simp only;rw [if_pos ⟨hc,this⟩,z10h h1,z10h h5,z10h h6,← h3]
   congr 2
   simp
theorem zus (b:List UInt8) (hb:b.length≤10000):zfw b=some (decO b):=by
 unfold zfw;obtain ⟨c,s1,e1,R1⟩:=zvz ⟨b,false⟩;have l1:s1.b.length≤b.length:=R1.len;rw [e1];simp only [bs];obtain ⟨a,s2,e2,R2⟩:=zn3 s1 1000000007 1000000007 rfl (by omega);have l2:=R2.len;obtain ⟨s3,e3,R3⟩:=z14d s2 (by omega);have l3:=R3.len;obtain ⟨st,s4,e4,R4⟩:=zn3 s3 1000000000000 1000000000000 rfl (by omega);have l4:=R4.len;obtain ⟨act,s5,R5,hK⟩:=z13d (β:=z05 × Int) s4 (by omega);have l5:=R5.len
 obtain ⟨e,s6,e6,R6⟩:=zn3 s5 500000003 500000003 rfl (by omega);have l6:=R6.len;obtain ⟨s,s7,e7,R7⟩:=zn3 s6 500000003 500000003 rfl (by omega);have R:=RdS.seq R1 (RdS.seq R2 (RdS.seq R3 (RdS.seq R4 (RdS.seq R5 (RdS.seq R6 R7)))));obtain ⟨q1,q2,q3,q4⟩:=z17d R;by_cases hc:c=111
 ·rw [if_neg (by simp [hc]),e2];simp only [bs];rw [z13s s2.b (by omega) 4 (by decide)];simp only [bs];rw [e3];simp only [bs];rw [e4];simp only [bs];refine Eq.trans (hK _) ?_;simp only [bs];rw [e6];simp only [bs];rw [e7];simp only [bs];unfold decO
  cases hbad:s7.bad with
  | true =>
   rw [q2 hbad];simp only [if_true,bs,z11v]
  | false =>
   simp only [Bool.false_eq_true,if_false];by_cases hz:0<s7.b.length
   ·rw [if_pos (by simp; omega),q3 hbad hz];simp only [if_true,bs,z11v]
   ·have h:=q4 hc hbad hz;have he:=z10r (by decide) (by decide) h;rw [if_neg (by rw [decide_eq_true_eq]; omega),h];simp only;rw [zf0 _ (Nat.le_trans he.2.2.1 (by decide))];simp only [bs];by_cases ho:z1v ⟨a.toUInt32,(zek s2.b 4).1,st,act,⟨e.toUInt32,s.toUInt32⟩⟩=0
    ·rw [if_pos ho,if_neg (by simp [ho])]
    ·rw [if_neg ho,if_pos (by simpa using ho)]; rfl
 ·rw [if_pos (by simpa using hc),z11v];unfold decO;rw [q1 hc]; rfl
def outO (o:Option z05):z05 × Int:=match o with
 | some o=>if z1v o=0 then (o,0) else (zO,12)
 | none=>(zO,12)
theorem z158 {la ls le:Nat} (h1:1000000007≤la) (h2:1000000000000≤ls) (h3:500000003≤le) (h4:la≤4294967295) (h5:le≤4294967295) (b:List UInt8) :
  (∀ o,z1v o=0→inI o.Act.Value.Num→z7h o=b→outO (rpO la ls le b)=(o,0))∧((∃ o,z1v o=0∧inI o.Act.Value.Num∧o.Act.Value.Text.length≤30∧z7h o=b∧outO (rpO la ls le b)=(o,0))∨outO (rpO la ls le b)=(zO,12)):=by
 refine ⟨fun o ho hI he=>?_,?_⟩
 ·subst he;rw [z1as h1 h2 h3 ho hI];unfold outO; simp only [if_pos ho]
 ·cases h:rpO la ls le b with
  | none=>exact .inr rfl
  | some o =>
   have he:=z10r h4 h5 h;unfold outO;simp only;by_cases ho:z1v o=0
   ·exact .inl ⟨o,ho,he.2.1,he.2.2.1,he.1, by rw [if_pos ho]⟩
   ·exact .inr (by rw [if_neg ho])
theorem z136 (b:List UInt8):(∀ o,z1v o=0→inI o.Act.Value.Num→z7h o=b→decO b=(o,0))∧((∃ o,z1v o=0∧inI o.Act.Value.Num∧o.Act.Value.Text.length≤30∧z7h o=b∧decO b=(o,0))∨decO b=(zO,12)):=z158 (by decide) (by decide) (by decide) (by decide) (by decide) b
end
section
open Go
def zrp (M:List z05):Prop:=(zjk M).2=0∧(z6g M).map (·.o)=M
theorem zoq:∀ {l m:List z0d},l.Perm m→l.Pairwise (fun x y=>kd x.id<kd y.id)→m.Pairwise (fun x y=>kd x.id<kd y.id)→l=m
 | [],m,hp,_,_=>(List.nil_perm.1 hp).symm
 | x::l,[],hp,_,_=>absurd hp.length_eq (by simp)
 | x::l,y::m,hp,hl,hm=>by
  obtain ⟨hx,hl'⟩:=List.pairwise_cons.1 hl;obtain ⟨hy,hm'⟩:=List.pairwise_cons.1 hm;have hxm:x∈y::m:=hp.mem_iff.1 (List.mem_cons_self ..);have hyl:y∈x::l:=hp.mem_iff.2 (List.mem_cons_self ..);have e:x=y:=by
   rcases List.mem_cons.1 hxm with h | h
   ·exact h
   ·rcases List.mem_cons.1 hyl with h' | h'
    ·exact h'.symm
    ·have h1:=hy x h;have h2:=hx y h';omega
  subst e;rw [zoq (List.perm_cons x |>.1 hp) hl' hm']
theorem zq4 {l:List z05} (hn:(l.map oid).Nodup):(zir l).Pairwise fun x y=>kd x.id<kd y.id:=by
 have h1:=zjf l;have h2:(z85 (zir l)).Nodup:=(ze5 l).nodup_iff.2 hn;have h3:(zir l).Pairwise fun x y=>x.id≠y.id:=List.pairwise_map.1 h2;exact (h1.and h3).imp fun {a b} h=>by
  have:kd a.id≠kd b.id:=fun e=>h.2 (zmd e)
  have:=h.1
  omega
theorem z13t {l M:List z05} (hp:M.Perm l) (hn:(l.map oid).Nodup):zir M=zir l:=by
 have hm:(M.map oid).Nodup:=(hp.map oid).nodup_iff.2 hn;exact zoq (((z9b M).trans (hp.map nmd)).trans (z9b l).symm) (zq4 hm) (zq4 hn)
theorem zzq {l M:List z05} (hp:M.Perm l) (h0:(zjk l).2=0):zjk M=(z6g l,0)∧z6g M=z6g l:=by
 obtain ⟨e,hl,hc,hn,hcl⟩:=zef h0;have hs:=z13t hp hn;have hcm:z6g M=z6g l:=by unfold z6g; rw [hs,hp.length_eq]
 refine ⟨?_,hcm⟩;have f:zxl M=0:=(zdg M).2 fun o ho=>hc o (hp.mem_iff.1 ho);have hnn:(z85 (zir M)).Nodup:=by rw [hs]; exact (ze5 l).nodup_iff.2 hn
 unfold zjk;rw [if_neg (by rw [hp.length_eq]; omega),if_neg (by rw [f]; simp),if_neg (by exact fun h=>h hnn)]
 show (if (z6g M).length=M.length then (z6g M,0) else _)=_;rw [if_pos (by rw [hcm,hcl,hp.length_eq]),hcm]
theorem z14q {l:List z05} (h0:(zjk l).2=0):zrp ((z6g l).map (·.o)):=by
 obtain ⟨e,hl,hc,hn,hcl⟩:=zef h0;have h:=zzq (z12u hcl).perm h0;exact ⟨by rw [h.1], by rw [h.2]⟩
theorem zrp.topo {M:List z05} (h:zrp M):zsz M:=by
 have:=zod M
 rw [h.2] at this; exact this
theorem zrp.write {M:List z05} (h:zrp M) (hw:wfO M):z5w M=some (zf7 M,0):=by
 rw [zts M hw,h.1,if_pos rfl,h.2]
theorem z17z {lim:Nat} {b r:List UInt8} {n:Nat} (h:rpN lim b=some (n,r)):n≤lim∧r.length≤b.length:=⟨(zl1 h).2.1,(zl1 h).2.2.2⟩
def pkN (c:z0w) (o:Option (Nat × List UInt8)):Int × z0w:=match o with
 | some (n,r)=>((n:Int),⟨r,c.bad⟩)
 | none=>(0,⟨c.b,true⟩)
theorem zqo (c:z0w) (n:Nat) (r:List UInt8):pkN c (some (n,r))=((n:Int),⟨r,c.bad⟩):=rfl
theorem z13r (c:z0w):pkN c none=(0,⟨c.b,true⟩):=rfl
theorem zv3 (c:z0w) (lim:Nat) (hl:lim≤1000000) (hb:c.b.length≤100000):z54 c (lim:Int)=some (pkN c (rpN lim c.b)):=by
 have h1:=zhj c.b;have hu:=zez c.b;have en:(UInt64.ofNat (z11 c.b).1).toNat=(z11 c.b).1:=by simp; omega
 have el:(UInt64.ofInt (lim:Int)).toNat=lim:=zdr (by omega);unfold z54 rpN;rw [zmv c.b (by omega)];simp only [bs];have hd:decide (UInt64.ofInt (lim:Int)<UInt64.ofNat (z11 c.b).1)=decide (lim<(z11 c.b).1):=by rw [decide_eq_decide,UInt64.lt_iff_toNat_lt,en,el]
 rw [hd];by_cases he:(z11 c.b).2.2=0
 ·rw [if_neg (by simp [he])];simp only [bs];by_cases hm:(z11 c.b).1≤lim
  ·rw [decide_eq_false (by omega),if_neg (by simp),if_pos ⟨he,hm⟩,zav hu (Nat.le_refl _),List.take_of_length_le (Nat.le_of_eq List.length_drop)];simp only [bs,en,pkN];rw [z17 (by omega) (by omega)]
  ·rw [decide_eq_true (by omega),if_pos rfl,if_neg (fun h=>hm h.2)]; rfl
 ·rw [if_pos (by simp; omega),if_neg (fun h=>he h.1)]; rfl
theorem zxs (p:ID) (r:List UInt8):zkx (Vector.replicate 32 0) (p.toList++r)=p:=by
 apply Vector.toList_inj.1
 rw [zla];have e:min (p.toList++r).length 32=32:=by rw [List.length_append,Vector.length_toList]; omega
 rw [e,List.take_left' (by simp),List.drop_of_length_le (by simp),List.append_nil]
theorem z19w (c:z0w) (hb:32≤c.b.length):z8t c=some (zkx (Vector.replicate 32 0) c.b,⟨c.b.drop 32,c.bad⟩):=by
 unfold z8t;rw [if_neg (by simp; omega)];have e:min c.b.length 32=32:=by omega
 rw [e,zav hb (Nat.le_refl _),List.take_of_length_le (Nat.le_of_eq List.length_drop)]; rfl
theorem z18r (c:z0w) (hb:¬ 32≤c.b.length):z8t c=some (Vector.replicate 32 0,⟨c.b,true⟩):=by
 unfold z8t;rw [if_pos (by simp; omega)]
theorem z15c:z0i 0=[0]:=by unfold z0i; rw [if_pos (by omega)]; rfl
theorem z153 {names:List ID} {k:Nat} {p:ID} (h:p∈names):zbg names k p=z0i (k - names.idxOf p):=by unfold zbg; rw [if_pos h]
theorem zzy {names:List ID} {k:Nat} {p:ID} (h:p∉names):zbg names k p=z0i 0++p.toList:=by unfold zbg; rw [if_neg h,z15c]; rfl
theorem zyi (ids:List ID) (hi:ids.length≤60) (r14:Int × z0w) (c:z0w) (acc:List ID) (i:Nat) (hb:c.b.length≤100000) (ha:acc.length≤100) (hn:(i:Int)<r14.1) (hi2:i≤1000) :
  z2t ids r14 (c,acc,(i:Int))=some (.inr (match rpN ids.length c.b with
   | some (n,r)=>if h:0<n∧n≤ids.length then (⟨r,c.bad⟩,acc++[ids[ids.length - n]'(by omega)],((i+1:Nat):Int))
    else if c.bad then (⟨r,true⟩,acc,((i+1:Nat):Int))
    else if 32≤r.length then (⟨r.drop 32,false⟩,acc++[zkx (Vector.replicate 32 0) r],((i+1:Nat):Int))
    else (⟨r,true⟩,acc++[Vector.replicate 32 0],((i+1:Nat):Int))
   | none=>(⟨c.b,true⟩,acc,((i+1:Nat):Int)))):=by
 unfold z2t;rw [if_pos (by simpa using hn)];simp only;rw [zv3 c ids.length (by omega) hb];simp only [bs]
 cases hr:rpN ids.length c.b with
 | none =>
  rw [z13r];simp only [decide_eq_true_eq,Int.lt_irrefl,if_false,Bool.not_true,Bool.false_eq_true];rw [z0l (by omega)]
 | some x =>
  obtain ⟨n,r⟩:=x;have hl:=z17z hr;rw [zqo];simp only;by_cases h:0<n∧n≤ids.length
  ·rw [if_pos (show decide ((0:Int)<(n:Int))=true by rw [decide_eq_true_eq]; omega),dif_pos h];have e:w64 ((ids.length:Int) - (n:Int))=((ids.length - n:Nat):Int):=by rw [z17 (by omega) (by omega)]; omega
   rw [e,z0k (by omega)];simp only [bs];rw [z1l (by simp only [List.length_cons,List.length_nil]; omega)];simp only [bs];rw [z0l (by omega)]
  ·rw [if_neg (show ¬ decide ((0:Int)<(n:Int))=true by rw [decide_eq_true_eq]; omega),dif_neg h]
   cases hbad:c.bad with
   | true =>
    simp only [Bool.not_true,Bool.false_eq_true,if_false,if_true];rw [z0l (by omega)]
   | false =>
    simp only [Bool.not_false,if_true,Bool.false_eq_true,if_false];by_cases h32:32≤r.length
    ·rw [z19w ⟨r,false⟩ h32,if_pos h32];simp only [bs];rw [z1l (by simp only [List.length_cons,List.length_nil]; omega)];simp only [bs];rw [z0l (by omega)]
    ·rw [z18r ⟨r,false⟩ h32,if_neg h32];simp only [bs];rw [z1l (by simp only [List.length_cons,List.length_nil]; omega)];simp only [bs];rw [z0l (by omega)]
theorem zv1 (ids:List ID) (hi:ids.length≤60) (ps:List ID) (hp:ps.length≤4) (rest:List UInt8) (hr:rest.length≤50000) (c0:z0w) :
  iter (z2t ids ((ps.length:Int),c0)) (⟨ps.flatMap (zbg ids ids.length)++rest,false⟩,[],0)=some (ps,⟨rest,false⟩):=by
 have hlen:∀ i,((ps.drop i).flatMap (zbg ids ids.length)).length≤33 * (ps.drop i).length:=fun i=>zcg _ 33 _ fun x _=>zh3 _ _ _ (by omega);have h:=z3d (F:=z2t ids ((ps.length:Int),c0)) (b:=(ps,⟨rest,false⟩)) ps.length (fun i=>((⟨(ps.drop i).flatMap (zbg ids ids.length)++rest,false⟩:z0w),ps.take i,(i:Int)))
  (fun i hin=>by
   have h1:=hlen i;rw [List.length_drop] at h1;rw [zyi ids hi _ _ _ i (by simp only [List.length_append]; omega) (by rw [List.length_take]; omega) (by show (i:Int)<(ps.length:Int); omega) (by omega)];simp only;rw [List.drop_eq_getElem_cons hin,List.flatMap_cons,List.append_assoc,List.take_succ_eq_append_getElem hin];by_cases hm:ps[i]∈ids
   ·have hlt:=List.idxOf_lt_length_of_mem hm;rw [z153 hm,zmg (by omega) (by omega)];simp only;rw [dif_pos ⟨by omega, by omega⟩];have e:ids.length - (ids.length - ids.idxOf ps[i])=ids.idxOf ps[i]:=by omega
    simp only [e,List.getElem_idxOf]
   ·rw [zzy hm,List.append_assoc,zmg (by omega) (by omega)];simp only
    rw [dif_neg (by omega),if_neg (by simp),if_pos (by simp only [List.length_append,Vector.length_toList]; omega),zxs,List.drop_left' (by simp)])
  (by
   unfold z2t;rw [if_neg (by simp)]
   simp)
 simpa using h
end
section
open Go
theorem zm8 {α β:Type} {f g:α→List β}:∀ l:List α,(∀ x∈l,f x=g x)→l.flatMap f=l.flatMap g
 | [],_=>rfl
 | x::l,h=>by rw [List.flatMap_cons,List.flatMap_cons,h x (List.mem_cons_self ..),zm8 l fun y hy=>h y (List.mem_cons_of_mem _ hy)]
def wf1 (o:z05):Prop:=inI o.Act.Value.Num∧o.Act.Value.Text.length≤9223372036854775807
theorem z1c1:((4:Nat):Int)=4:=rfl
theorem z11r {o:z05} (hc:z1v o=0) (hI:inI o.Act.Value.Num) (ids:List ID) (hi:ids.length≤60) (rest:List UInt8) (hr:rest.length≤40000):z3g ⟨opB ids ids.length o++rest,false⟩ ids=some (o,⟨rest,false⟩):=by
 have hn:=zju hc;have hIn:inI (nop o).Act.Value.Num:=hI;have hle:=zo0 hn hIn;have hp:=(z40 hc).1;have hob:=zzz hc hI ids ids.length (by omega);have eb:opB ids ids.length o++rest=(z0i (z7h (nop o)).length++z7h (nop o))++(z0i o.Preds.length++(o.Preds.flatMap (zbg ids ids.length)++rest)):=by unfold opB; simp only [List.append_assoc]
 have hpl:=zcg (zbg ids ids.length) 33 o.Preds (fun x _=>zh3 _ _ _ (by omega));have hnl:=z0o o.Preds.length (by omega);have hpart:=z125 (lim:=400) (s:=z7h (nop o)) (by omega) (by omega) (z0i o.Preds.length++(o.Preds.flatMap (zbg ids ids.length)++rest));unfold z3g;simp only;rw [eb,zhn _ (by rw [← eb,List.length_append]; omega) 400 (by decide),hpart];simp only [bs];rw [if_neg (by simp),zav (by simp only [List.length_append]; omega) (Nat.le_refl _),List.take_of_length_le (Nat.le_of_eq List.length_drop)]
 rw [← List.length_append,List.drop_left];simp only [bs];rw [zus _ (by omega),(z136 _).1 (nop o) hn hIn rfl];simp only [bs];rw [if_neg (by simp), show (nop o).Preds=[] from rfl];simp only [bs];rw [if_neg (by simp)];have e:=zv3 ⟨z0i o.Preds.length++(o.Preds.flatMap (zbg ids ids.length)++rest),false⟩ 4 (by decide) (by simp only [List.length_append]; omega);rw [z1c1] at e;rw [e,zmg (by omega) (by omega),zqo]
 simp only [bs];rw [zv1 ids hi o.Preds hp rest (by omega)];rfl
def zgg (M:List z05) (i:Nat):List UInt8:=((List.range M.length).drop i).flatMap fun k=>opB (M.map oid) k (opJ M k)
theorem zpq (M:List z05) {i:Nat} (hi:i<M.length):zgg M i=opB (M.map oid) i M[i]++zgg M (i+1):=by
 unfold zgg;rw [List.drop_eq_getElem_cons (by rw [List.length_range]; exact hi),List.flatMap_cons,List.getElem_range,zrk hi]
theorem zzh (M:List z05):zgg M M.length=[]:=by unfold zgg; rw [List.drop_of_length_le (by simp)]; rfl
theorem zlh (M:List z05):zf7 M=112::(z0i M.length++zgg M 0):=by unfold zf7 zu8 zgg; simp
theorem z140 {M:List z05} (hT:zsz M) {i:Nat} (hi:i<M.length):opB (M.map oid) i M[i]=opB ((M.take i).map oid) i M[i]:=by
 unfold opB
 congr 1
 refine zm8 _ fun p hp=>?_;have h:=zhb hT hi hp;rw [List.map_take];unfold zbg;by_cases hm:p∈(M.map oid).take i
 ·rw [if_pos (h.2 hm),if_pos hm,(zpx hm).1]
 ·rw [if_neg (fun h'=>hm (h.1 h')),if_neg hm]
theorem z10q {M:List z05} (hb:(zf7 M).length≤30000) (i:Nat):(zgg M i).length≤30000:=by
 rw [zlh] at hb;have h:∀ j,(zgg M j).length≤(zgg M 0).length:=by
  intro j
  induction j with
  | zero=>exact Nat.le_refl _
  | succ j ih =>
   by_cases hj:j<M.length
   ·have:=zpq M hj
    have h2:=congrArg List.length this;rw [List.length_append] at h2;omega
   ·have:zgg M (j+1)=[]:=by unfold zgg; rw [List.drop_of_length_le (by simp; omega)]; rfl
    rw [this]; exact Nat.zero_le _
 have:=h i
 simp only [List.length_cons,List.length_append] at hb;omega
theorem zt8 (r10:Int × z0w) (c:z0w) (ops:List z05) (ids:List ID) (i:Nat) (hn:(i:Int)<r10.1) (ho:ops.length≤100) (hi:ids.length≤100) (hi2:i≤1000) {o:z05} {c':z0w} (h:z3g c ids=some (o,c')) (hw:wf1 o) :
  zcf r10 (c,ops,ids,(i:Int))=some (if c'.bad=true∨z1v o≠0 then .inl (.inl ([],12)) else .inr (c',ops++[o],ids++[oid o],((i+1:Nat):Int))):=by
 unfold zcf;rw [if_pos (by simpa using hn)];simp only;rw [h];simp only [bs];rw [zky o hw.1 hw.2];simp only [bs];by_cases hbad:c'.bad=true
 ·rw [if_pos hbad,if_pos (.inl hbad)]
 ·rw [if_neg hbad];by_cases hc:z1v o=0
  ·rw [if_pos hc,if_neg (show ¬ (c'.bad=true∨z1v o≠0) from fun h=>h.elim hbad fun h=>h hc)];simp only;rw [if_neg (by simp),z1l (by simp only [List.length_cons,List.length_nil]; omega)];simp only [bs];rw [z1l (by simp only [List.length_cons,List.length_nil]; omega)];simp only [bs];rw [z0l (by omega)]; rfl
  ·rw [if_neg hc,if_pos (show c'.bad=true∨z1v o≠0 from .inr hc)];simp only;rw [if_pos (by simpa using hc)]
theorem z1b8:((60:Nat):Int)=60:=rfl
theorem zym {M:List z05} (hC:zrp M) (hw:wfO M) (hb:(zf7 M).length≤30000):zk2 (zf7 M)=some (M,0):=by
 obtain ⟨-,hl,hc,-,-⟩:=zef hC.1;have ht:=z10q hb;have hwr:=hC.write hw;have hT:=hC.topo;unfold zk2;rw [if_neg (by simp; omega)];rw [zlh] at hb hwr ⊢;generalize hr:z0i M.length++zgg M 0=r at hb hwr ⊢;rw [if_neg (by simp; omega)];have i0:idx (112::r) 0=some (112:UInt8):=z0k (l:=112::r) (i:=0) (by simp);have hcu:cut (112::r) 1 ((112::r).length:Int)=some r:=by
  have:=zav (b:=112::r) (i:=1) (j:=(112::r).length) (by simp) (by simp)
  rw [show ((1:Nat):Int)=1 from rfl] at this;rw [this]; simp
 rw [i0];simp only [bs];rw [if_neg (by simp),hcu];simp only [bs];simp only [List.length_cons] at hb;have e:=zv3 ⟨r,false⟩ 60 (by decide) (by show r.length≤_; omega);rw [z1b8] at e;rw [e];simp only [bs];rw [← hr,zmg (by omega) hl,zqo];simp only;have hloop:=z3d (F:=zcf ((M.length:Int),⟨zgg M 0,false⟩)) (b:=.inr ((⟨[],false⟩:z0w),M)) M.length (fun i=>((⟨zgg M i,false⟩:z0w),M.take i,(M.take i).map oid,(i:Int)))
  (fun i hin=>by
   have hci:=hc M[i] (List.getElem_mem hin);have hwi:=hw M[i] (List.getElem_mem hin);have hil:((M.take i).map oid).length=i:=by rw [List.length_map,List.length_take]; omega
   have hpop:z3g ⟨zgg M i,false⟩ ((M.take i).map oid)=some (M[i],⟨zgg M (i+1),false⟩):=by
    rw [zpq M hin,z140 hT hin]
    have:=z11r hci hwi.1 ((M.take i).map oid) (by omega) (zgg M (i+1)) (by have:=ht (i+1); omega);rw [hil] at this;exact this
   rw [zt8 _ _ _ _ i (by show (i:Int)<(M.length:Int); omega) (by rw [List.length_take]; omega) (by omega) (by omega) hpop hwi]
   rw [if_neg (by simp [hci]),List.take_succ_eq_append_getElem hin,List.map_append]; rfl)
  (by
   unfold zcf
   rw [if_neg (by simp),List.take_length,zzh])
 rw [show M.take 0=[] from rfl, show ([]:List z05).map oid=[] from rfl, show ((0:Nat):Int)=0 from rfl] at hloop;rw [hloop,zq5];simp only;rw [hC.write hw];simp only [bs,Bool.false_eq_true,if_false];rw [if_neg (by simp),zlh];simp [zj8,bs]
end
section
open Go
def frc {α:Type} (x:Nat) (k:Nat→α):α:=match x with
 | 0=>k 0
 | n+1=>k (n+1)
theorem z163 {α:Type} (x:Nat) (k:Nat→α):frc x k=k x:=by cases x <;> rfl
def zvd {α:Type} (x:UInt32) (k:UInt32→α):α:=frc x.toNat fun n=>k (UInt32.ofNat n)
theorem zlj {α:Type} (x:UInt32) (k:UInt32→α):zvd x k=k x:=by unfold zvd; rw [z163,UInt32.ofNat_toNat]
def fB {α:Type}:List UInt8→(List UInt8→α)→α
 | [],k=>k []
 | x::l,k=>frc x.toNat fun n=>fB l fun m=>k (UInt8.ofNat n::m)
theorem z19i {α:Type}:∀ (l:List UInt8) (k:List UInt8→α),fB l k=k l
 | [],k=>rfl
 | x::l,k=>by rw [fB,z163,z19i l,UInt8.ofNat_toNat]
def fW {α:Type}:List UInt32→(List UInt32→α)→α
 | [],k=>k []
 | x::l,k=>zvd x fun n=>fW l fun m=>k (n::m)
theorem z19s {α:Type}:∀ (l:List UInt32) (k:List UInt32→α),fW l k=k l
 | [],k=>rfl
 | x::l,k=>by rw [fW,zlj,z19s l]
def wL:Nat→List UInt8→List UInt32
 | 0,_=>[]
 | n+1,l=>word l 0::wL n (l.drop 4)
theorem z110 (l:List UInt8) (k:Nat):word (l.drop 4) k=word l (k+1):=by
 unfold word;have e:∀ j,(l.drop 4).getD (4 * k+j) 0=l.getD (4 * (k+1)+j) 0:=fun j=>by
  rw [List.getD_eq_getElem?_getD,List.getD_eq_getElem?_getD,List.getElem?_drop]
  congr 2; omega
 have e0:=e 0;rw [Nat.add_zero,Nat.add_zero] at e0;rw [e0,e 1,e 2,e 3]
theorem z198:∀ (n:Nat) (l:List UInt8),wL n l=(List.range n).map (word l)
 | 0,l=>rfl
 | n+1,l=>by
  rw [wL,z198 n,List.range_succ_eq_map,List.map_cons,List.map_map];exact congrArg (List.cons (word l 0)) (List.map_congr_left fun k hk=>z110 l k)
def sF {α:Type}:Nat→List UInt32→(List UInt32→α)→α
 | 0,r,k=>k r.reverse
 | n+1,r,k=>zvd (((r.getD 15 0+r.getD 6 0)+sg0 (r.getD 14 0))+sg1 (r.getD 1 0)) fun w=>sF n (w::r) k
theorem zmq (l:List UInt32) (i:Nat) (h:i<l.length):l.reverse.getD i 0=l.getD (l.length - (i+1)) 0:=by
 rw [List.getD_eq_getElem?_getD,List.getD_eq_getElem?_getD,List.getElem?_reverse h]
 congr 2
 omega
theorem z19k {α:Type} (b:List UInt8) (k:List UInt32→α):∀ (n m:Nat),sF n (z79 b m).reverse k=k (z79 b (m+n))
 | 0,m=>by rw [sF,List.reverse_reverse]; rfl
 | n+1,m=>by
  have hl:=zf2 b m;rw [sF,zlj,zmq _ 15 (by omega),zmq _ 6 (by omega),zmq _ 14 (by omega),zmq _ 1 (by omega)]
  have:((((z79 b m).getD ((z79 b m).length - (15+1)) 0+(z79 b m).getD ((z79 b m).length - (6+1)) 0)+sg0 ((z79 b m).getD ((z79 b m).length - (14+1)) 0))+sg1 ((z79 b m).getD ((z79 b m).length - (1+1)) 0))::(z79 b m).reverse=(z79 b (m+1)).reverse:=by
   show _=(zve (z79 b m)).reverse;unfold zve;rw [List.reverse_append]; rfl
  rw [this,z19k b k n (m+1)]
  congr 2; omega
def rF {α:Type}:List UInt32→List UInt32→O8→(O8→α)→α
 | q::K,w::W,s,k=>zvd (rnd1 q w s) fun t=>zvd (t+rnd2 s) fun x=>zvd (s.2.2.2.1+t) fun y=>rF K W (x,s.1,s.2.1,s.2.2.1,y,s.2.2.2.2.1,s.2.2.2.2.2.1,s.2.2.2.2.2.2.1) k
 | _,_,s,k=>k s
theorem z1a5 {α:Type} (K W:List UInt32) (hK:K.length=64) (hW:W.length=64) (s:O8) (k:O8→α):∀ (n i:Nat),64 - i=n→i≤64→rF (K.drop i) (W.drop i) (zwu K W s i) k=k (zwu K W s 64)
 | 0,i,h,hi=>by
  have:i=64:=by omega
  subst this;rw [List.drop_eq_nil_of_le (by omega)]; rfl
 | n+1,i,h,hi=>by
  rw [List.drop_eq_getElem_cons (by omega),List.drop_eq_getElem_cons (by omega:i<W.length),rF,zlj,zlj,zlj];rw [← z1a5 K W hK hW s k n (i+1) (by omega) (by omega)]
  congr 1
  rw [zwu,rnd,List.getD_eq_getElem?_getD,List.getD_eq_getElem?_getD,List.getElem?_eq_getElem (by omega),List.getElem?_eq_getElem (by omega)];rfl
def grK {α:Type} (h:O8) (b:List UInt8) (k:O8→α):α :=
 fW (wL 16 b).reverse fun r=>sF 48 r fun W=>rF z6j.toList W h fun s =>
 zvd (h.1+s.1) fun a=>zvd (h.2.1+s.2.1) fun b=>zvd (h.2.2.1+s.2.2.1) fun c=>zvd (h.2.2.2.1+s.2.2.2.1) fun d =>
 zvd (h.2.2.2.2.1+s.2.2.2.2.1) fun e=>zvd (h.2.2.2.2.2.1+s.2.2.2.2.2.1) fun f=>zvd (h.2.2.2.2.2.2.1+s.2.2.2.2.2.2.1) fun g=>zvd (h.2.2.2.2.2.2.2+s.2.2.2.2.2.2.2) fun z=>k (a,b,c,d,e,f,g,z)
def add8 (h s:O8):O8:=(h.1+s.1,h.2.1+s.2.1,h.2.2.1+s.2.2.1,h.2.2.2.1+s.2.2.2.1,h.2.2.2.2.1+s.2.2.2.2.1,h.2.2.2.2.2.1+s.2.2.2.2.2.1,h.2.2.2.2.2.2.1+s.2.2.2.2.2.2.1,h.2.2.2.2.2.2.2+s.2.2.2.2.2.2.2)
theorem z138 (h v:Vector UInt32 8):∀ j (hj:j<8),(addV h v)[j]=h[j]+v[j]:=by
 obtain ⟨r,h1,h2⟩:=z7b (F:=z21 v) 8 (fun i s=>s.2=(i:Int)∧∀ j (hj:j<8),s.1[j]=if j<i then h[j]+v[j] else h[j]) (fun r=>∀ j (hj:j<8),r[j]=h[j]+v[j]) (fun i s hi hs=>by
  obtain ⟨u,k⟩:=s;obtain ⟨hs,hu⟩:=hs;simp only at hs hu;subst hs;unfold z21;rw [if_pos (by simp; omega)];rw [z8y (show i<8 by omega),z8y (show i<8 by omega)];simp only [bS,z0l (show i<9223372036854775807 by omega)];refine ⟨_,rfl,rfl, fun j hj=>?_⟩;simp only;rw [zhl hj,hu j hj,hu i hi];simp only [Int.toNat_natCast];by_cases e:i=j
  ·subst e; simp
  ·rw [if_neg e];by_cases l:j<i
   ·rw [if_pos l,if_pos (by omega)]
   ·rw [if_neg l,if_neg (by omega)]) (fun s hs=>by
  obtain ⟨u,k⟩:=s;obtain ⟨hs,hu⟩:=hs;simp only at hs hu;subst hs;unfold z21;rw [if_neg (by simp)]
  exact ⟨_,rfl, fun j hj=>by rw [hu j hj,if_pos hj]⟩) (h,0) 0 (by omega) ⟨rfl, fun j hj=>by simp⟩
 unfold addV;rw [h1];exact h2
theorem z175 (h s:O8):addV (toV h) (toV s)=toV (add8 h s):=by
 apply Vector.ext
 intro j hj;rw [z138]
 match j,hj with
 | 0,_=>rfl
 | 1,_=>rfl
 | 2,_=>rfl
 | 3,_=>rfl
 | 4,_=>rfl
 | 5,_=>rfl
 | 6,_=>rfl
 | 7,_=>rfl
theorem z18j (s:O8):ofV (toV s)=s:=rfl
theorem z19h {α:Type} (h:O8) (b:List UInt8) (k:O8→α):∃ s,gr (toV h) b=toV s∧grK h b k=k s:=by
 refine ⟨add8 h (zwu z6j.toList (z79 b 48) h 64),?_,?_⟩
 ·unfold gr;rw [z18j,z175]
 ·unfold grK;have e:wL 16 b=z79 b 0:=z198 16 b;rw [z19s,e,z19k b _ 48 0]
  have:=z1a5 z6j.toList (z79 b 48) zqk (by rw [zf2]) h (fun s=>k (add8 h s)) 64 0 rfl (by omega)
  rw [← this];simp only [zlj];rfl
def blkK {α:Type}:Nat→O8→List UInt8→(O8→α)→α
 | 0,h,b,k=>k h
 | n+1,h,b,k=>grK h (b.take 64) fun s=>blkK n s (b.drop 64) k
theorem z113 {α:Type}:∀ (n:Nat) (h:O8) (b:List UInt8) (k:O8→α),b.length=64 * n→∃ s,blk (toV h) b=toV s∧blkK n h b k=k s
 | 0,h,b,k,hb=>⟨h,zua (by omega),rfl⟩
 | n+1,h,b,k,hb=>by
  obtain ⟨s,s1,s2⟩:=z19h h (b.take 64) (fun s=>blkK n s (b.drop 64) k);obtain ⟨t,t1,t2⟩:=z113 n s (b.drop 64) k (by rw [List.length_drop]; omega);refine ⟨t,?_,?_⟩
  ·rw [zsj (by omega),s1,t1]
  ·rw [blkK,s2,t2]
def H8:O8:=(1779033703,3144134277,1013904242,2773480762,1359893119,2600822924,528734635,1541459225)
def shaK {α:Type} (b:List UInt8) (k:O8→α):α:=fB (b++tl b.length) fun m=>blkK (m.length / 64) H8 m k
theorem z19o (n:Nat):(n+(tl n).length) % 64=0:=by
 unfold tl z94 zrs
 simp
 omega
theorem z174 {α:Type} (b:List UInt8) (k:O8→α):∃ s,sha b=wr (toV s)∧shaK b k=k s:=by
 have hl:=z19o b.length;obtain ⟨s,s1,s2⟩:=z113 ((b++tl b.length).length / 64) H8 (b++tl b.length) k (by rw [List.length_append]; omega);refine ⟨s,?_,?_⟩
 ·unfold sha;rw [show H0=toV H8 from rfl,s1]
 ·unfold shaK;rw [z19i,s2]
def z17c (b:List UInt8) (s:O8):Bool:=shaK b fun t=>t==s
theorem z1a9 {b:List UInt8} {s:O8} (h:z17c b s=true):sha b=wr (toV s):=by
 unfold z17c at h;obtain ⟨t,t1,t2⟩:=z174 b (fun t=>t==s);rw [t2] at h;rw [t1,eq_of_beq h]
end
section
open Go
@[irreducible] def idv (s:O8):V3:=wr (toV s)
theorem z121 {b:List UInt8} {s:O8} (h:z17c b s=true):sha b=idv s:=by rw [idv]; exact z1a9 h
def wds (s:O8):List UInt32:=[s.1,s.2.1,s.2.2.1,s.2.2.2.1,s.2.2.2.2.1,s.2.2.2.2.2.1,s.2.2.2.2.2.2.1,s.2.2.2.2.2.2.2]
@[irreducible] def wrL (s:O8):List UInt8:=(List.range 32).map fun i=>(z4i ((wds s).getD (i / 4) 0) (24 - 8 * (i % 4))).toUInt8
theorem zyg {α:Type} (n:Nat) (g:Nat→α):(Vector.ofFn (fun i:Fin n=>g i.val)).toList=(List.range n).map g:=by
 apply List.ext_getElem
 ·simp
 ·intro i h1 h2
  simp
theorem z17g (h:Vector UInt32 8):(wr h).toList=(List.range 32).map fun i=>(z4i (h.toList.getD (i / 4) 0) (24 - 8 * (i % 4))).toUInt8:=by
 rw [← zyg 32 (fun i=>(z4i (h.toList.getD (i / 4) 0) (24 - 8 * (i % 4))).toUInt8)]
 have:∀ i (hi:i / 4<8),h[i / 4]=h.toList.getD (i / 4) 0:=fun i hi=>by
  rw [List.getD_eq_getElem?_getD,List.getElem?_eq_getElem (by simpa using hi)]
  simp
 unfold wr;exact congrArg (fun f=>(Vector.ofFn f).toList) (funext fun i=>by rw [this i.val (by omega)])
theorem zwp (s:O8):(idv s).toList=wrL s:=by
 rw [idv,z17g,wrL];rfl
theorem z166 (s:O8):kd (idv s)=nk (wrL s):=by unfold kd; rw [zwp]
theorem zx3:∀ P:List O8,zg4 (P.map idv)=P.flatMap wrL
 | []=>rfl
 | a::l=>by
  have:=zx3 l
  unfold zg4 at this ⊢;rw [List.map_cons,List.flatMap_cons,List.flatMap_cons,this,zwp]
end
section
open Go
def ia8:O8:=(970372312,2442032114,4196713698,873319014,2597337110,1109282703,3353382519,590280687)
def ib8:O8:=(3577164125,4011542332,3331852227,3499622753,1708370532,3436663303,883092666,547847311)
def xa0:z05:=⟨4,[],7,⟨2,[97],⟨0,0,0,[]⟩⟩,⟨5,6⟩⟩
def xb0:z05:=⟨4,[idv ia8],7,⟨2,[97],⟨0,0,0,[]⟩⟩,⟨5,6⟩⟩
def ea:List UInt8:=[111,4,0,7,2,1,97,5,6]
def eb:List UInt8:=[111,4,1]++(wrL ia8++[7,2,1,97,5,6])
theorem zpa (n:Nat) (h:n≤247):z0i n=[UInt8.ofNat n]:=by unfold z0i; rw [if_pos h]
theorem z184:z7h xa0=ea:=by
 unfold z7h msg;rw [if_neg (by decide),if_neg (by decide)];unfold head zwx;rw [zpa xa0.Author.toNat (by decide),zpa xa0.Preds.length (by decide),zpa xa0.Stamp.toNat (by decide),zpa xa0.Act.Key.length (by decide),zpa xa0.Sig.E.toNat (by decide),zpa xa0.Sig.S.toNat (by decide)];rfl
theorem z1bz:z7h xb0=eb:=by
 unfold z7h msg;rw [if_neg (by decide),if_neg (by decide)];unfold head zwx;rw [zpa xb0.Author.toNat (by decide),zpa xb0.Preds.length (by decide),zpa xb0.Stamp.toNat (by decide),zpa xb0.Act.Key.length (by decide),zpa xb0.Sig.E.toNat (by decide),zpa xb0.Sig.S.toNat (by decide)]
 rw [show zg4 xb0.Preds=wrL ia8 from by
  show zg4 ([ia8].map idv)=_
  rw [zx3]; simp]
 unfold eb;simp only [List.append_assoc];rfl
theorem z1ax:zcd xa0=true:=by
 unfold zcd;have h:inG xa0.Author.toNat:=zqh z16i 1;rw [decide_eq_true h]
 decide
theorem z16b:z1v xa0=0:=by
 unfold z1v;rw [if_neg (by decide),if_neg (by decide),if_pos z1ax]
theorem z1b1:z1v xb0=0:=by
 unfold z1v;rw [if_neg (by decide),if_neg (by show ¬ z8a [idv ia8]=false; simp [z8a]),if_pos (show zcd xb0=true from z1ax)]
set_option maxRecDepth 100000 in
theorem z12j:oid xa0=idv ia8:=by
 unfold oid;rw [z184];exact z121 (by decide +kernel)
set_option maxRecDepth 100000 in
theorem zys:oid xb0=idv ib8:=by
 unfold oid;rw [z1bz];exact z121 (by decide +kernel)
theorem z19g:kd (idv ia8)<kd (idv ib8):=by rw [z166,z166]; decide +kernel
theorem zzs:idv ia8≠idv ib8:=fun e=>by have:=z19g; rw [e] at this; exact absurd this (Nat.lt_irrefl _)
theorem wf_a:inI xa0.Act.Value.Num∧xa0.Act.Value.Text.length≤9223372036854775807:=⟨⟨by decide, by decide⟩, by decide⟩
theorem wf_l {l:List z05} (h:∀ o∈l,o=xa0∨o=xb0):wfO l:=fun o ho=>by
 rcases h o ho with e | e <;> subst e <;> exact wf_a
theorem z10f {l:List z05} (h:∀ o∈l,o=xa0∨o=xb0):∀ o∈l,z1v o=0:=fun o ho=>by
 rcases h o ho with e | e <;> subst e
 ·exact z16b
 ·exact z1b1
theorem zqf {l m:List z05} (hl:l.length≤60) (hc:∀ o∈l,z1v o=0) (hn:(l.map oid).Nodup) (h:z6g l=m.map nmd) (hm:m.length=l.length):zjk l=(m.map nmd,0):=by
 unfold zjk;rw [if_neg (by omega),if_neg (by rw [(zdg l).2 hc]; simp),if_neg (fun h=>h ((ze5 l).nodup_iff.2 hn))]
 unfold z6g at h;rw [h,if_pos (by simp [hm])]
theorem z170 (o:z05):zir [o]=[nmd o]:=List.perm_singleton.1 (z9b [o])
theorem z103 (o:z05) (h:oid o∉o.Preds):z6g [o]=[o].map nmd:=by
 unfold z6g;rw [z170];have hf:free (z85 [nmd o]) (nmd o)=true:=by
  unfold free;rw [List.all_eq_true];intro p hp
  have:p∉z85 [nmd o]:=fun h2=>by
   simp only [z85,List.map_cons,List.map_nil,List.mem_singleton] at h2;subst h2;exact h hp
  simp [this]
 show za4 1 [nmd o]=[nmd o];unfold za4;rw [List.findIdx?_cons,hf];rfl
theorem z17h:zir [xb0,xa0]=[nmd xa0,nmd xb0]:=by
 have hp:(zir [xb0,xa0]).Perm [nmd xa0,nmd xb0]:=(z9b _).trans (List.Perm.swap _ _ _);have ha:(nmd xa0).id=idv ia8:=z12j;have hb:(nmd xb0).id=idv ib8:=zys;have hlt:=z19g;refine hp.eq_of_pairwise (le:=fun a b:z0d=>kd a.id≤kd b.id) (fun a b h1 h2 h3 h4=>?_) (zjf _) ?_
 ·have h1:=hp.mem_iff.1 h1;simp only [List.mem_cons,List.not_mem_nil,or_false] at h1 h2;rcases h1 with e | e <;> rcases h2 with e2 | e2 <;> rw [e,e2] at h3 h4 ⊢
  ·rw [ha,hb] at h3 h4; omega
  ·rw [ha,hb] at h3 h4; omega
 ·simp only [List.pairwise_cons,List.mem_cons,List.not_mem_nil,or_false,List.Pairwise.nil,and_true];refine ⟨fun x hx=>?_, fun x hx=>hx.elim⟩;rw [hx,ha,hb]; omega
theorem z17v:z6g [xb0,xa0]=[xa0,xb0].map nmd:=by
 unfold z6g;rw [z17h];have ha:(nmd xa0).id=idv ia8:=z12j;have hb:(nmd xb0).id=idv ib8:=zys;have hf:free (z85 [nmd xa0,nmd xb0]) (nmd xa0)=true:=rfl;have hf2:free (z85 [nmd xb0]) (nmd xb0)=true:=by
  unfold free z85;rw [List.map_cons,List.map_nil,hb]
  have:idv ia8∉[idv ib8]:=by simp [zzs]
  show ([idv ia8].all fun p=>!decide (p∈[idv ib8]))=true;simp [this,zzs]
 show za4 2 [nmd xa0,nmd xb0]=[nmd xa0,nmd xb0];unfold za4;rw [List.findIdx?_cons,hf];show nmd xa0::za4 1 [nmd xb0]=_;unfold za4;rw [List.findIdx?_cons,hf2];rfl
theorem z1c7:nop xb0=xa0:=rfl
theorem z1bo:nop xa0=xa0:=rfl
theorem z1b0 (names:List ID) (i:Nat):opB names i xa0=[9]++ea++[0]:=by
 unfold opB;rw [z1bo,z184,zpa ea.length (by decide),zpa xa0.Preds.length (by decide)];rfl
theorem z19t (names:List ID) (i:Nat):opB names i xb0=[9]++ea++[1]++zbg names i (idv ia8):=by
 unfold opB;rw [z1c7,z184,zpa ea.length (by decide),zpa xb0.Preds.length (by decide)];show _++[idv ia8].flatMap (zbg names i)=_;rw [List.flatMap_cons,List.flatMap_nil,List.append_nil];rfl
theorem z159:z5w []=some ([112,0],0):=by
 have h:zjk []=([].map nmd,0):=zqf (l:=[]) (m:=[]) (by simp) (by simp) (by simp) (by
  unfold z6g
  rfl) rfl
 rw [zkq [] (fun o ho=>by simp at ho),h,if_pos rfl];unfold zf7 zu8;rw [zpa _ (by simp)];rfl
theorem z1a1:z5w [xa0]=some ([112,1,9]++ea++[0],0):=by
 have hm:∀ o∈[xa0],o=xa0∨o=xb0:=fun o ho=>.inl (by simpa using ho);rw [zkq [xa0] (wf_l hm),zqf (m:=[xa0]) (by simp) (z10f hm) (by simp) (z103 xa0 (by simp [xa0])) rfl,if_pos rfl];show some (zf7 [xa0],(0:Int))=_;unfold zf7 zu8;rw [zpa _ (by simp)];show some ([112,1]++(List.range 1).flatMap (fun k=>opB ([xa0].map oid) k (opJ [xa0] k)),(0:Int))=_;rw [show List.range 1=[0] from rfl,List.flatMap_cons,List.flatMap_nil, show opJ [xa0] 0=xa0 from rfl,z1b0]
 rfl
theorem z1a2:z5w [xb0]=some ([112,1,9]++ea++[1,0]++(idv ia8).toList,0):=by
 have hm:∀ o∈[xb0],o=xa0∨o=xb0:=fun o ho=>.inr (by simpa using ho);have hb:oid xb0∉xb0.Preds:=by
  rw [zys];show idv ib8∉[idv ia8];simp [zzs.symm]
 rw [zkq [xb0] (wf_l hm),zqf (m:=[xb0]) (by simp) (z10f hm) (by simp) (z103 xb0 hb) rfl,if_pos rfl];show some (zf7 [xb0],(0:Int))=_;unfold zf7 zu8;rw [zpa _ (by simp)];show some ([112,1]++(List.range 1).flatMap (fun k=>opB ([xb0].map oid) k (opJ [xb0] k)),(0:Int))=_;rw [show List.range 1=[0] from rfl,List.flatMap_cons,List.flatMap_nil, show opJ [xb0] 0=xb0 from rfl,z19t]
 have:zbg ([xb0].map oid) 0 (idv ia8)=0::(idv ia8).toList:=by
  unfold zbg;rw [if_neg (by rw [List.map_cons,List.map_nil,zys]; simp [zzs])]
 rw [this]
 simp
theorem z16x:z5w [xb0,xa0]=some ([112,2,9]++ea++[0]++([9]++ea++[1,1]),0):=by
 have hm:∀ o∈[xb0,xa0],o=xa0∨o=xb0:=fun o ho=>by
  simp only [List.mem_cons,List.not_mem_nil,or_false] at ho;exact ho.symm
 have hn:([xb0,xa0].map oid).Nodup:=by
  rw [List.map_cons,List.map_cons,List.map_nil,z12j,zys];simp [zzs.symm]
 rw [zkq [xb0,xa0] (wf_l hm),zqf (m:=[xa0,xb0]) (by simp) (z10f hm) hn z17v rfl,if_pos rfl];show some (zf7 [xa0,xb0],(0:Int))=_;unfold zf7 zu8;rw [zpa _ (by simp)];show some ([112,2]++(List.range 2).flatMap (fun k=>opB ([xa0,xb0].map oid) k (opJ [xa0,xb0] k)),(0:Int))=_;rw [show List.range 2=[0,1] from rfl,List.flatMap_cons,List.flatMap_cons,List.flatMap_nil, show opJ [xa0,xb0] 0=xa0 from rfl, show opJ [xa0,xb0] 1=xb0 from rfl,z1b0,z19t]
 have:zbg ([xa0,xb0].map oid) 1 (idv ia8)=[1]:=by
  unfold zbg;rw [List.map_cons,List.map_cons,List.map_nil,z12j,zys,if_pos (by simp),List.idxOf_cons_self,zpa _ (by decide)];rfl
 rw [this]
 simp
theorem zn4 {l:List z05} {b:List UInt8} (h:z5w l=some (b,0)) (hb:b.length≤1000) {c:List UInt8} (hc:b=c):z56 l c=some true:=by
 subst hc;unfold z56;rw [h];simp only [bS];rw [if_pos (by rfl),z13u _ _ (by omega)]
 simp
theorem z14i:zad=some (xa0,xb0,true):=by
 unfold zad
 rw [show zow (⟨4,[],7,(⟨2,([97]:List UInt8),(⟨0,0,0,[]⟩:z00)⟩:z0b),(⟨5,6⟩:z0a)⟩:z05)=some (idv ia8,0) from by
  have h:=zky xa0 wf_a.1 wf_a.2;rw [if_pos z16b] at h;have e:sha (z7h xa0)=idv ia8:=z12j
  rw [e] at h; exact h]
 rfl
theorem ztw:zaq=some true:=by
 unfold zaq;rw [z14i];simp only [bS];rw [if_neg (by simp)];rw [z1l (by simp)];simp only [bS];rw [z1l (by simp)];simp only [bS];rw [z1l (by simp)];simp only [bS];rw [z1l (by simp)];simp only [bS];rw [z1l (by simp)];simp only [bS];rw [z1l (by simp)];simp only [bS];rw [z1l (by simp)];simp only [bS];rw [show idx xb0.Preds 0=some (idv ia8) from rfl];simp only [bS];rw [z1l (by simp)];simp only [bS];rw [z1l (by simp)]
 simp only [bS];rw [zn4 z159 (by simp) rfl];simp only [bS];rw [if_pos trivial,zn4 z1a1 (by simp [ea]) (by simp [ea])];simp only [bS];rw [if_pos trivial,zn4 z16x (by simp [ea]) (by simp [ea])];simp only [bS];rw [if_pos trivial,zn4 z1a2 (by simp [ea]) (by simp [ea])];rfl
end
section
open Go
theorem z13w {a:z05} (h:z1v a=0) (hI:inI a.Act.Value.Num):(z7h a).length≤318:=by
 have h1:=zlk h hI;have l1:=z0o a.Sig.E.toNat (by have:=UInt32.toNat_lt a.Sig.E; omega);have l2:=z0o a.Sig.S.toNat (by have:=UInt32.toNat_lt a.Sig.S; omega);unfold z7h;simp only [List.length_append]; omega
theorem z15i {o:z05} (h:z1v o=0) (hI:inI o.Act.Value.Num) (names:List ID) (i:Nat) (hi:i≤1000):(opB names i o).length≤468:=by
 have h1:=z13w (zju h) hI;have h2:=z0o (z7h (nop o)).length (by omega);have h3:=(z40 h).1;have h4:=z0o o.Preds.length (by omega);have h5:=zcg (zbg names i) 33 o.Preds (fun x _=>zh3 names i x hi);unfold opB;simp only [List.length_append];omega
theorem zyw {m:List z05} (hw:wfO m) (hl:m.length≤60) (hc:∀ o∈m,z1v o=0):(zf7 m).length≤30000:=by
 have h1:=z0o m.length (by omega)
 have h2:=zcg (fun k=>opB (m.map oid) k (opJ m k)) 468 (List.range m.length) (fun k hk=>by
  have hk:k<m.length:=by simpa using hk
  rw [zrk hk];have hm:=List.getElem_mem hk
  exact z15i (hc _ hm) (hw _ hm).1 _ _ (by omega))
 rw [List.length_range] at h2;unfold zf7 zu8;simp only [List.length_append,List.length_cons];omega
theorem zrp.len {M:List z05} (h:zrp M) (hw:wfO M):(zf7 M).length≤30000:=zyw hw (zef h.1).2.1 (zef h.1).2.2.1
end
section
open Go
theorem zo7:∀ (n:Nat) (left:List z0d),left.length=n→(za4 n left).length=n→left.Pairwise (fun x y=>kd x.id≤kd y.id)→∀ k i (hk:k<(za4 n left).length) (hi:i<(za4 n left).length),k<i →
  (∀ p∈((za4 n left)[i]).o.Preds,p∉z85 ((za4 n left).drop k))→kd ((za4 n left)[k]).id≤kd ((za4 n left)[i]).id
 | 0,left,h1,h2,h3,k,i,hk,hi,hki,hp=>by simp [za4] at hk
 | n+1,left,h1,h2,h3,k,i,hk,hi,hki,hp=>by
  cases hf:left.findIdx? (free (z85 left)) with
  | none =>
   have e:za4 (n+1) left=[]:=by unfold za4; rw [hf]
   rw [e] at hk; simp at hk
  | some p =>
   obtain ⟨hil,hfr,hbef⟩:=List.findIdx?_eq_some_iff_getElem.1 hf;have hperm:=znb (n+1) left h1 h2;have e:za4 (n+1) left=left[p]'hil::za4 n (left.eraseIdx p):=by
    conv=>lhs; unfold za4
    rw [hf];simp only [];rw [List.getElem?_eq_getElem hil]
   have hel:(left.eraseIdx p).length=n:=by rw [List.length_eraseIdx_of_lt hil]; omega
   have hin:(za4 (n+1) left)[i]∈left:=hperm.mem_iff.1 (List.getElem_mem hi)
   cases k with
   | zero =>
    have hfree:free (z85 left) (za4 (n+1) left)[i]=true:=by
     unfold free;rw [List.all_eq_true];intro q hq;have h4:=hp q hq;rw [List.drop_zero] at h4
     have:q∉z85 left:=fun h5=>h4 (by
      unfold z85 at h5 ⊢
      exact (hperm.map (fun x:z0d=>x.id)).mem_iff.2 h5)
     simp [this]
    obtain ⟨r,hr,hre⟩:=List.getElem_of_mem hin;have hpr:p≤r:=by
     by_cases h:r<p
     ·have:=hbef r h
      rw [hre] at this;exact absurd hfree this
     ·omega
    have h6:=z1bl h3 hil hr hpr;rw [hre] at h6;have e0:(za4 (n+1) left)[0]=left[p]'hil:=by simp only [e,List.getElem_cons_zero]
    rw [e0]; exact h6
   | succ k =>
    obtain ⟨i,rfl⟩:∃ j,i=j+1:=⟨i - 1, by omega⟩
    simp only [e] at hk hi hp h2 ⊢;simp only [List.getElem_cons_succ,List.drop_succ_cons,List.length_cons] at hk hi hp h2 ⊢;exact zo7 n (left.eraseIdx p) hel (by omega) (h3.sublist (List.eraseIdx_sublist _ _)) k i (by omega) (by omega) (by omega) hp
def z106 (m:List z05):Prop:=∀ k i (hk:k<m.length) (hi:i<m.length),k<i→(∀ p∈m[i].Preds,p∉(m.map oid).drop k)→kd (oid m[k])≤kd (oid m[i])
theorem z151 (l:List z05):((z6g l).map (·.o)).map oid=z85 (z6g l):=by
 unfold z85;rw [List.map_map]
 apply List.map_congr_left
 intro x hx;obtain ⟨o,-,rfl⟩:=zmu l x hx;rfl
theorem zv0 {l:List z05} (hcl:(z6g l).length=l.length):z106 ((z6g l).map (·.o)):=fun k i hk hi hki hp=>by
 have hk':k<(z6g l).length:=by simpa using hk
 have hi':i<(z6g l).length:=by simpa using hi
 rw [z151] at hp;have e1:∀ j (hj:j<((z6g l).map (·.o)).length) (hj':j<(z6g l).length),oid (((z6g l).map (·.o))[j]'hj)=((z6g l)[j]'hj').id:=fun j hj hj'=>by
  rw [List.getElem_map];obtain ⟨o,-,e2⟩:=zmu l _ (List.getElem_mem hj');rw [e2]; rfl
 rw [e1 k hk hk',e1 i hi hi'];refine zo7 l.length (zir l) (zmx l) hcl (zjf l) k i hk' hi' hki (fun p hp2=>?_);have h:=hp p (by rw [List.getElem_map]; exact hp2);unfold z85 at h ⊢;rw [List.map_drop]; exact h
end
section
open Go
variable {g:z01} {n:Nat}
structure OkN (o:z05):Prop where
 good:zk9 o=0
 pre:o.Preds.length≤4
 key:o.Act.Key.length≤100
 text:o.Act.Value.Text.length≤100
 num:inI o.Act.Value.Num
def zee (l:List z05):List (ID × z05):=l.map fun o=>(oid o,o)
theorem zt7 (l:List z05):(zee l).map Prod.fst=l.map oid:=by unfold zee; rw [List.map_map]; rfl
theorem zqg {l:List z05} (h:∀ o∈l,OkN o):∀ p∈zee l,p.2.Preds.length≤20∧p.2.Act.Key.length≤100∧p.2.Act.Value.Text.length≤100:=fun p hp=>by
 obtain ⟨o,ho,rfl⟩:=List.mem_map.1 hp
 have:=h o ho
 exact ⟨Nat.le_trans this.pre (by omega),this.key,this.text⟩
theorem fit0:Fit (⟨[],[]⟩:z01) 0:=⟨rfl,Nat.le_refl _,rfl, fun o ho=>by simp at ho⟩
theorem zw3:∀ {l:List (ID × z05)} {g:z01} {n:Nat},Fit g n→(∀ p∈l,p.2.Preds.length≤20∧p.2.Act.Key.length≤100∧p.2.Act.Value.Text.length≤100)→∀ x,x∈(zei g l).IDs↔x∈g.IDs∨x∈l.map Prod.fst
 | [],g,n,F,_,x=>by simp [zei]
 | p::l,g,n,F,hp,x=>by
  have ih:=zw3 (l:=l) (zk4 F (hp p (by simp))) (fun q hq=>hp q (by simp [hq])) x
  have:zei g (p::l)=zei (zqx g p) l:=rfl
  rw [this,ih,z18i F p,List.map_cons,List.mem_cons]
  constructor
  ·rintro ((h | h) | h)
   ·exact .inr (.inl h)
   ·exact .inl h
   ·exact .inr (.inr h)
  ·rintro (h | h | h)
   ·exact .inl (.inr h)
   ·exact .inl (.inl h)
   ·exact .inr h
theorem z1bp (l:List z05) (hl:l.length≤60) (h:∀ o∈l,OkN o):iter (zgm l) 0=some (.inr ()):=by
 refine z3d (F:=zgm l) l.length (fun i=>(i:Int)) (fun i hi=>?_) ?_
 ·have ho:=h l[i] (List.getElem_mem hi);unfold zgm;rw [if_pos (by simpa using hi),z0k hi];simp only [bS];rw [ziw _ ho.num (Nat.le_trans ho.text (by omega)),ho.good];simp only [bS];rw [if_neg (by simp),z0l (by omega)]
 ·unfold zgm;rw [if_neg (by simp)]
theorem z1ce (l:List z05) (hl:l.length≤60) (h:∀ o∈l,OkN o) (hn:(l.map oid).Nodup):iter (zh1 l) ([],[],0)=some (.inr ((zei ⟨[],[]⟩ (zee l)).IDs,(zei ⟨[],[]⟩ (zee l)).Ops)):=by
 have hpl:(zee l).length=l.length:=by simp [zee]
 have hsz:=zqg h;have fit:∀ i,i≤l.length→Fit (zei ⟨[],[]⟩ ((zee l).take i)) i:=fun i hi=>by
  have:=zrv (l:=(zee l).take i) fit0 (fun p hp=>hsz p (List.mem_of_mem_take hp))
  rw [List.length_take,hpl,Nat.min_eq_left hi,Nat.zero_add] at this;exact this
 refine z3d (F:=zh1 l) l.length (fun i=>((zei ⟨[],[]⟩ ((zee l).take i)).IDs,(zei ⟨[],[]⟩ ((zee l).take i)).Ops,(i:Int))) (fun i hi=>?_) ?_
 ·have ho:=h l[i] (List.getElem_mem hi);have F:=fit i (by omega);have hx:oid l[i]∉(zei ⟨[],[]⟩ ((zee l).take i)).IDs:=fun hc=>by
   rw [zw3 fit0 (fun p hp=>hsz p (List.mem_of_mem_take hp))] at hc;rcases hc with hc | hc
   ·simp at hc
   ·rw [List.map_take,zt7] at hc;obtain ⟨j,hj,e⟩:=List.getElem_of_mem hc;have hj':j<i:=by rw [List.length_take] at hj; omega
    rw [List.getElem_take,List.getElem_map] at e
    have:=(List.getElem_inj (xs:=l.map oid) (i:=j) (j:=i) (h₀:=by simp; omega) (h₁:=by simpa using hi) hn).1 (by rw [List.getElem_map,List.getElem_map,e]);omega
  unfold zh1;rw [if_pos (by simpa using hi)];simp only [];rw [z0k hi];simp only [bS];rw [zky _ ho.num (Nat.le_trans ho.text (by omega)),if_pos (z7o ho.good)];simp only [bS];have hput:=z118 F (by omega) (oid l[i],l[i]) (Nat.le_trans ho.pre (by omega));rw [decide_eq_false hx] at hput;have hput:zfr (⟨(zei ⟨[],[]⟩ ((zee l).take i)).IDs,(zei ⟨[],[]⟩ ((zee l).take i)).Ops⟩:z01) (sha (z7h l[i])) l[i]=_:=hput
  rw [hput];simp only [bS];rw [if_neg (by simp),z0l (by omega)];have ht:(zee l).take (i+1)=(zee l).take i++[(oid l[i],l[i])]:=by
   rw [List.take_add_one,List.getElem?_eq_getElem (by omega)];simp [zee]
  rw [ht,zyr]
 ·unfold zh1;rw [if_neg (by simp),List.take_of_length_le (by omega)]
theorem zsx:∀ (l:List z05) (o:z05),(l.map oid).Nodup→o∈l→((zee l).find? fun p=>decide (p.1=oid o)).map Prod.snd=some o
 | [],o,_,h=>by simp at h
 | a::l,o,hn,ho=>by
  rw [List.map_cons,List.nodup_cons] at hn;have e0:zee (a::l)=(oid a,a)::zee l:=rfl;rw [e0];by_cases e:oid a=oid o
  ·rw [List.find?_cons_of_pos (by simpa using e)];rcases List.mem_cons.1 ho with rfl | h
   ·rfl
   ·exact absurd (List.mem_map.2 ⟨o,h,e.symm⟩) hn.1
  ·rw [List.find?_cons_of_neg (by simpa using e)];rcases List.mem_cons.1 ho with rfl | h
   ·exact absurd rfl e
   ·exact zsx l o hn.2 h
theorem z185 (F:Fit g n) (S:zzm g) {l:List z05} (hl:∀ o,o∈l↔o∈g.Ops) (h:∀ o∈l,OkN o) (hn:(l.map oid).Nodup):zei ⟨[],[]⟩ (zee l)=g:=by
 refine ztv (zrv fit0 (zqg h)) F fun y=>?_;rw [zz9 fit0 (zqg h) (by rw [zt7]; exact hn),zkr (by simp),Option.none_or]
 cases hy:zbo g y with
 | some o =>
  have:=(S.ops y o hy).2.1
  have ho:=(hl o).2 (zjn hy).2
  have:=zsx l o hn ho
  rw [show oid o=y from (S.ops y o hy).2.1] at this;exact this
 | none =>
  rw [Option.map_eq_none_iff,List.find?_eq_none];intro p hp hc;obtain ⟨o,ho,rfl⟩:=List.mem_map.1 hp;have hc:oid o=y:=by simpa using hc
  obtain ⟨i,hi,rfl⟩:=List.getElem_of_mem ((hl o).1 ho);have h1:=zc2 F hi;have h2:=(S.ops _ _ h1).2.1;rw [← h2, show sha (z7h g.Ops[i])=y from hc,hy] at h1;simp at h1
theorem of_eq (F:Fit g 60) (S:zzm g) {l:List z05} (hl:∀ o,o∈l↔o∈g.Ops) (h6:l.length≤60) (h:∀ o∈l,OkN o) (hn:(l.map oid).Nodup):zss l=some (g,0):=by
 have G:=zz8 F S;obtain ⟨c,c1,-,c3⟩:=zw7 (g:=g) G.e.len G.e.ids G.e.op;have hc:c=0:=c3.2 ⟨G.e.ri,G.ins,G.wf⟩;unfold zss;rw [if_neg (by simp; omega),z1bp l h6 h];simp only [z4y];rw [z1ce l h6 h hn,z185 F S hl h hn];simp only [z4y,bS];rw [c1,hc];simp only [bS];rw [if_neg (by simp)]
theorem z1cb (F:Fit g n) (hn:n≤1000) (h:∀ o∈g.Ops,zgs o):z3o g:=by
 have h1:=F.len; have h2:=F.ids;exact ⟨⟨fun x _ y _=>trivial, by omega⟩,⟨h, by omega⟩,trivial⟩
theorem z1ap {o:z05} (h:zgs o):inI o.Act.Value.Num∧o.Act.Value.Text.length≤9223372036854775807:=⟨h.2.2.2.1.2.2.1.2.1,h.2.2.2.1.2.2.1.2.2.2.1⟩
theorem zth (F:Fit g n) (hn:n≤1000) (l:List ID) (hl:l.length≤1000):z26 l g=some (l.any fun x=>!decide (x∈g.IDs)):=by
 have h1:=F.len; have h2:=F.ids;have hcl:∀ x,zkk x g=some (!decide (x∈g.IDs)):=fun x=>by
  obtain ⟨k,k1,-⟩:=zjc g (by omega) F.ri x;unfold zkk;rw [k1];simp only [bS]
 have main:=zfi (F:=z1m l g) (fun s=>∃ i:Nat,s=(i:Int)∧i≤l.length∧∀ k (h:k<l.length),k<i→l[k]∈g.IDs) (fun s=>l.length - s.toNat)
  (fun b:Sum Int Unit=>(b=.inr ()∧∀ x∈l,x∈g.IDs)∨∃ i:Nat,b=.inl (i:Int)∧∃ x∈l,x∉g.IDs)
  (fun s hs=>by
   obtain ⟨i,rfl,h1,h2⟩:=hs;by_cases hi:i<l.length
   ·have hF:z1m l g (i:Int)=if !decide (l[i]∈g.IDs) then some (.inl (.inl (i:Int))) else some (.inr ((i+1:Nat):Int)):=by
     unfold z1m;rw [if_pos (by simpa using hi),z0k hi,z0l (by omega)];simp only [bS];rw [hcl];simp only [bS]
    by_cases hc:l[i]∈g.IDs
    ·rw [decide_eq_true hc,if_neg (by simp)] at hF;refine .inr ⟨_,hF,⟨i+1,rfl,hi, fun k hk hki=>?_⟩, by simp; omega⟩;by_cases hk':k=i
     ·subst hk'; exact hc
     ·exact h2 k hk (by omega)
    ·rw [decide_eq_false hc,if_pos (by simp)] at hF;exact .inl ⟨_,hF,.inr ⟨i,rfl,l[i],List.getElem_mem hi,hc⟩⟩
   ·refine .inl ⟨.inr (),?_,.inl ⟨rfl, fun x hx=>?_⟩⟩
    ·unfold z1m;rw [if_neg (by simpa using hi)]
    ·obtain ⟨k,hk,rfl⟩:=List.getElem_of_mem hx
     exact h2 k hk (by omega))
  0 ⟨0,rfl,Nat.zero_le _, fun k _ h=>by omega⟩
 obtain ⟨r,r1,r2⟩:=main;unfold z26 z3f;rw [r1];rcases r2 with ⟨rfl,h⟩ | ⟨i,rfl,x,hx,hxn⟩
 ·simp only [zq5,bS]
  have:(l.any fun x=>!decide (x∈g.IDs))=false:=by
   rw [List.any_eq_false]; intro x hx; simp [h x hx]
  rw [this]; rfl
 ·simp only [zz3,bS]
  have:(l.any fun x=>!decide (x∈g.IDs))=true:=by
   rw [List.any_eq_true]; exact ⟨x,hx, by simp [hxn]⟩
  rw [this]; simp
theorem z145 (F:Fit g n) (hn:n≤59) (hc:z7v g=some 0) {p:ID × z05} (hw:zgs p.2) (hp:p.2.Preds.length≤20) (h1:zk9 p.2=0) (h2:sha (z7h p.2)=p.1) (hx:p.1∉g.IDs) (hq:∀ q∈p.2.Preds,q∈g.IDs):zof g p.2=some (zqx g p,p.1,0):=by
 obtain ⟨w1,w2⟩:=z1ap hw;have hl:=F.len;have hany:(p.2.Preds.any fun x=>!decide (x∈g.IDs))=false:=by
  rw [List.any_eq_false]; intro x hx; simp [hq x hx]
 unfold zof;rw [hc];simp only [bS];rw [if_pos (by simp),ziw _ w1 w2,h1];simp only [bS];rw [if_neg (by simp),zky _ w1 w2,if_pos (z7o h1),h2];simp only [bS];rw [z118 F (by omega) p hp,decide_eq_false hx];simp only [bS];rw [if_neg (by simp),zth F (by omega) _ (by omega),hany];simp only [bS];rw [if_neg (by simp),if_neg (by simp; omega)]
theorem z10v {α β:Type} {A:List α} {B:List β} (h:A.length=B.length) (x x':α) (o o':β):(∃ j:Nat,(A++[x])[j]? = some x'∧(B++[o])[j]? = some o')↔(∃ j:Nat,A[j]? = some x'∧B[j]? = some o')∨(x'=x∧o'=o):=by
 constructor
 ·rintro ⟨j,h1,h2⟩
  by_cases c:j<A.length
  ·rw [List.getElem?_append_left c] at h1;rw [List.getElem?_append_left (by omega)] at h2;exact .inl ⟨j,h1,h2⟩
  ·have hj:j<(A++[x]).length:=(List.getElem?_eq_some_iff.1 h1).1;rw [List.length_append,List.length_singleton] at hj;have e:j=A.length:=by omega
   subst e;rw [List.getElem?_append_right (by omega)] at h1;rw [List.getElem?_append_right (by omega),h] at h2;simp at h1 h2;exact .inr ⟨h1.symm,h2.symm⟩
 ·rintro (⟨j,h1,h2⟩ | ⟨rfl,rfl⟩)
  ·have c:j<A.length:=(List.getElem?_eq_some_iff.1 h1).1;exact ⟨j, by rw [List.getElem?_append_left c]; exact h1, by rw [List.getElem?_append_left (by omega)]; exact h2⟩
  ·exact ⟨A.length, by simp, by rw [h]; simp⟩
theorem zo8 {m:Nat→Bool} (hl:g.IDs.length=g.Ops.length):∀ i,i≤g.Ops.length→(zou g m i).length=(zkv g m i).length∧∀ x o,(∃ j:Nat,(zou g m i)[j]? = some x∧(zkv g m i)[j]? = some o)↔∃ t:Nat,t<i∧m t=true∧g.IDs[t]? = some x∧g.Ops[t]? = some o
 | 0,_=>⟨rfl, fun x o=>by simp [zou,zkv]⟩
 | i+1,hi=>by
  obtain ⟨h1,h2⟩:=zo8 hl i (by omega);have hii:i<g.IDs.length:=by omega
  cases hm:m i with
  | false =>
   rw [zsn hm,ztm hm];refine ⟨h1, fun x o=>(h2 x o).trans ⟨?_,?_⟩⟩
   ·rintro ⟨t,t1,t2,t3⟩; exact ⟨t, by omega,t2,t3⟩
   ·rintro ⟨t,t1,t2,t3⟩
    by_cases e:t=i
    ·subst e; rw [hm] at t2; simp at t2
    ·exact ⟨t, by omega,t2,t3⟩
  | true =>
   have ho:g.Ops[i]?.toList=[g.Ops[i]]:=by rw [List.getElem?_eq_getElem (by omega)]; rfl
   rw [ztl hm,zta hm,ho,z69 hii];refine ⟨by simp [h1], fun x o=>(z10v h1 _ _ _ _).trans ?_⟩;rw [h2]
   constructor
   ·rintro (⟨t,t1,t2,t3⟩ | ⟨rfl,rfl⟩)
    ·exact ⟨t, by omega,t2,t3⟩
    ·exact ⟨i, by omega,hm,List.getElem?_eq_getElem hii,List.getElem?_eq_getElem (by omega)⟩
   ·rintro ⟨t,t1,t2,t3,t4⟩
    by_cases e:t=i
    ·subst e;rw [List.getElem?_eq_getElem hii] at t3;rw [List.getElem?_eq_getElem (by omega)] at t4;exact .inr ⟨(Option.some.inj t3).symm,(Option.some.inj t4).symm⟩
    ·exact .inl ⟨t, by omega,t2,t3,t4⟩
theorem z12c (G:zbi g) (S:zqj g) (m:Nat→Bool):Fit (subG g m) 60:=by
 have F:=z114 G S;refine ⟨(zo8 G.e.ids _ (Nat.le_refl _)).1,Nat.le_trans (zho g m _) G.e.len,?_, fun o ho=>F.op o (zms g m _ o ho)⟩;rw [show (subG g m).IDs=zb2 g m from zht g m]; exact zmh G.e m
theorem z13x {m:Nat→Bool} (G:zbi g) (S:zqj g) {x:ID} {o:z05}:zbo (subG g m) x=some o↔zbo g x=some o∧m (g.IDs.idxOf x)=true:=by
 rw [zc6 (z12c G S m),zc6 (z114 G S)]
 have:=(zo8 (m:=m) G.e.ids _ (Nat.le_refl _)).2 x o
 refine Iff.trans this ⟨?_,?_⟩
 ·rintro ⟨t,t1,t2,t3,t4⟩
  refine ⟨⟨t,t3,t4⟩,?_⟩;obtain ⟨ht,rfl⟩:=List.getElem?_eq_some_iff.1 t3;rw [zc7 G.e.ri ht]; exact t2
 ·rintro ⟨⟨t,t3,t4⟩,h⟩
  obtain ⟨ht,rfl⟩:=List.getElem?_eq_some_iff.1 t3;rw [zc7 G.e.ri ht] at h;exact ⟨t, by rw [← G.e.ids]; exact ht,h,t3,t4⟩
theorem zle (G:zbi g):g.Ops.map oid=g.IDs:=by
 apply List.ext_getElem
 ·rw [List.length_map,G.e.ids]
 ·intro i h1 h2;rw [List.length_map] at h1;rw [List.getElem_map]
  have:=(G.ops i h1).2
  rw [z69 h2] at this;exact this
end
section
open Go
variable {g:z01} {n:Nat}
theorem z15r {α:Type} (f:α→Nat):∀ l:List α,l≠[]→∃ x∈l,∀ y∈l,f x≤f y
 | [],h=>absurd rfl h
 | [x],_=>⟨x, by simp, fun y hy=>by rw [List.mem_singleton.1 hy]; exact Nat.le_refl _⟩
 | x::z::l,_=>by
  obtain ⟨y,hy,hm⟩:=z15r f (z::l) (by simp);by_cases h:f x≤f y
  ·refine ⟨x, by simp, fun w hw=>?_⟩;rcases List.mem_cons.1 hw with rfl | hw
   ·exact Nat.le_refl _
   ·exact Nat.le_trans h (hm w hw)
  ·refine ⟨y,List.mem_cons_of_mem _ hy, fun w hw=>?_⟩;rcases List.mem_cons.1 hw with rfl | hw
   ·omega
   ·exact hm w hw
theorem zu1 (rk:ID→Nat):∀ (n:Nat) (left:List z0d),left.length=n→(∀ x∈left,∀ p∈x.o.Preds,p∈z85 left→rk p<rk x.id)→(za4 n left).length=n
 | 0,left,_,_=>rfl
 | n+1,left,h,hr=>by
  obtain ⟨x,hx,hm⟩:=z15r (fun x:z0d=>rk x.id) left (fun e=>by rw [e] at h; simp at h);have hf:free (z85 left) x=true:=by
   unfold free;rw [List.all_eq_true];intro p hp;rw [Bool.not_eq_true',decide_eq_false_iff_not];intro hpl;have h1:=hr x hx p hp hpl;unfold z85 at hpl;obtain ⟨y,hy,rfl⟩:=List.mem_map.1 hpl
   have:=hm y hy
   omega
  cases hi:left.findIdx? (free (z85 left)) with
  | none =>
   have:=List.findIdx?_eq_none_iff.1 hi x hx
   rw [hf] at this; cases this
  | some i =>
   obtain ⟨hil,hfr,-⟩:=List.findIdx?_eq_some_iff_getElem.1 hi;have e:za4 (n+1) left=left[i]'hil::za4 n (left.eraseIdx i):=by
    conv=>lhs; unfold za4
    rw [hi];simp only [];rw [List.getElem?_eq_getElem hil]
   rw [e,List.length_cons,zu1 rk n (left.eraseIdx i) (by rw [List.length_eraseIdx_of_lt hil]; omega) ?_];intro y hy p hp hpl;refine hr y (List.mem_of_mem_eraseIdx hy) p hp ?_;rw [zep] at hpl;exact List.mem_of_mem_eraseIdx hpl
theorem z15z {l:List z05} (h6:l.length≤60) (hc:∀ o∈l,z1v o=0) (hn:(l.map oid).Nodup) (rk:ID→Nat) (hr:∀ o∈l,∀ p∈o.Preds,p∈l.map oid→rk p<rk (oid o)):(zjk l).2=0:=by
 have hp:=z9b l;have hcl:(z6g l).length=l.length:=by
  refine zu1 rk l.length (zir l) (zmx l) fun x hx p hp' hpl=>?_;obtain ⟨o,ho,rfl⟩:=List.mem_map.1 (hp.mem_iff.1 hx);exact hr o ho p hp' ((ze5 l).mem_iff.1 hpl)
 have f:zxl l=0:=(zdg l).2 hc;have hnn:(z85 (zir l)).Nodup:=(ze5 l).nodup_iff.2 hn;unfold zjk;rw [if_neg (by omega),if_neg (by rw [f]; simp),if_neg (by exact fun h=>h hnn)]
 show (if (z6g l).length=l.length then (z6g l,0) else _).2=0;rw [if_pos hcl]
theorem zv6 (G:zbi g) {i:Nat} (hi:i<g.Ops.length):oid g.Ops[i]=g.IDs[i]'(by rw [G.e.ids]; exact hi):=by
 have:=(G.ops i hi).2
 rw [z69 (by rw [G.e.ids]; exact hi)] at this; exact this
theorem zrh (G:zbi g) (F:Fit g n) {o:z05} (ho:o∈g.Ops):zbo g (oid o)=some o:=by
 obtain ⟨i,hi,rfl⟩:=List.getElem_of_mem ho;rw [zv6 G hi]; exact zc2 F hi
theorem z186 (G:zbi g) {o:z05} (ho:o∈g.Ops):oid o∈g.IDs:=by
 rw [← zle G]; exact List.mem_map.2 ⟨o,ho,rfl⟩
theorem zmy (G:zbi g) {o:z05} (ho:o∈g.Ops) {p:ID} (hp:p∈o.Preds):p∈g.IDs:=by
 obtain ⟨i,hi,rfl⟩:=List.getElem_of_mem ho;exact zdz G.ins i p (by rw [z7l hi]; exact hp)
theorem zrt (G:zbi g) (F:Fit g n):(zjk g.Ops).2=0:=by
 obtain ⟨rk,hrk⟩:=zvr G F;refine z15z G.e.len (fun o ho=>?_) (by rw [zle G]; exact zd7 G.e.ri) rk (fun o ho p hp _=>hrk _ _ (zrh G F ho) p hp);obtain ⟨i,hi,rfl⟩:=List.getElem_of_mem ho;exact z7o (G.ops i hi).1
theorem zgv {M:List z05} {k:Nat} {x:ID} (h:x∈(M.map oid).take k):∃ j,∃ hj:j<M.length,j<k∧oid M[j]=x:=by
 rw [← List.map_take] at h;obtain ⟨o,ho,rfl⟩:=List.mem_map.1 h;obtain ⟨j,hj,rfl⟩:=List.getElem_of_mem ho;rw [List.length_take] at hj;exact ⟨j, by omega, by omega, by rw [List.getElem_take]⟩
theorem zvw (G:zbi g) (F:Fit g n) (hc:z7v g=some 0) {M:List z05} (hp:M.Perm g.Ops) (hT:zsz M) (hG:z106 M):zaa g=some (M.map oid,0):=by
 obtain ⟨Q,q1,q2,q3⟩:=z13n G hc;have hids:∀ x,x∈M.map oid↔x∈g.IDs:=fun x=>by rw [(hp.map oid).mem_iff,zle G]
 have hnd:(M.map oid).Nodup:=(hp.map oid).nodup_iff.2 (by rw [zle G]; exact zd7 G.e.ri);have hml:M.length=g.Ops.length:=hp.length_eq;have hix:∀ k (h:k<M.length),oid M[k]∈g.IDs:=fun k h=>(hids _).1 (List.mem_map.2 ⟨_,List.getElem_mem h,rfl⟩);have hop:∀ k (h:k<M.length),zy8 g (g.IDs.idxOf (oid M[k]))=M[k].Preds:=fun k h=>by
  have hm:M[k]∈g.Ops:=hp.mem_iff.1 (List.getElem_mem h);obtain ⟨i,hi,e⟩:=List.getElem_of_mem hm;rw [← e,zv6 G hi,zc7 G.e.ri (by rw [G.e.ids]; exact hi),z7l hi]
 have key:∀ k,k≤M.length→zg3 (z2n g) g.Ops.length ((M.map fun o=>g.IDs.idxOf (oid o)).take k):=by
  intro k
  induction k with
  | zero=>intro _; exact .nil
  | succ k ih =>
   intro hk;have hkl:k<M.length:=by omega
   rw [List.take_succ_eq_append_getElem (by rw [List.length_map]; exact hkl),List.getElem_map];have hmem:∀ {x:ID},x∈(M.map oid).take k→g.IDs.idxOf x∈(M.map fun o=>g.IDs.idxOf (oid o)).take k:=fun {x} hx=>by
    rw [← List.map_take] at hx ⊢;obtain ⟨o,ho,rfl⟩:=List.mem_map.1 hx;exact List.mem_map.2 ⟨o,ho,rfl⟩
   have hback:∀ {x:ID},x∈g.IDs→g.IDs.idxOf x∈(M.map fun o=>g.IDs.idxOf (oid o)).take k→x∈(M.map oid).take k:=fun {x} hx h=>by
    rw [← List.map_take] at h ⊢;obtain ⟨o,ho,e⟩:=List.mem_map.1 h;have hox:oid o∈g.IDs:=(hids _).1 (List.mem_map.2 ⟨o,List.mem_of_mem_take ho,rfl⟩)
    have:=znx hx e
    exact List.mem_map.2 ⟨o,ho,this⟩
   refine .snoc (ih (by omega)) ⟨?_,?_,?_⟩
   ·rw [← G.e.ids]; exact List.idxOf_lt_length_of_mem (hix k hkl)
   ·rw [zfh];refine ⟨fun h=>?_, fun p hpp=>?_⟩
    ·have:=hback (hix k hkl) h
     obtain ⟨j,hj,hjk,e⟩:=zgv this
     have:=(List.getElem_inj (xs:=M.map oid) (i:=j) (j:=k) (h₀:=by rw [List.length_map]; exact hj) (h₁:=by rw [List.length_map]; exact hkl) hnd).1 (by rw [List.getElem_map,List.getElem_map]; exact e);omega
    ·unfold z2n at hpp;rw [hop k hkl] at hpp;obtain ⟨q,hq,rfl⟩:=List.mem_map.1 hpp;have hqm:q∈g.IDs:=zmy G (hp.mem_iff.1 (List.getElem_mem hkl)) hq;exact hmem ((zhb hT hkl hq).1 ((hids q).2 hqm))
   ·intro j hj
    cases hct:zfd (z2n g) ((M.map fun o=>g.IDs.idxOf (oid o)).take k) j with
    | false=>rfl
    | true =>
     exfalso
     obtain ⟨h1,h2⟩:=zfh.1 hct;have hkl2:=List.idxOf_lt_length_of_mem (hix k hkl);have hjl:j<g.IDs.length:=by omega
     have hjm:g.IDs[j]∈M.map oid:=(hids _).2 (List.getElem_mem hjl);obtain ⟨o,ho,e⟩:=List.mem_map.1 hjm;obtain ⟨i,hi,rfl⟩:=List.getElem_of_mem ho;have hjx:g.IDs.idxOf (oid M[i])=j:=by rw [e,zc7 G.e.ri hjl]
     have hki:k<i:=by
      rcases Nat.lt_trichotomy i k with c | c | c
      ·exfalso
       apply h1
       rw [← hjx];refine hmem ?_;rw [← List.map_take];exact List.mem_map.2 ⟨M[i],List.mem_take_iff_getElem.2 ⟨i, by omega,rfl⟩,rfl⟩
      ·subst c; omega
      ·exact c
     have hlow:=hG k i hkl hi hki (fun p hpp hd=>by
      have hpm:p∈g.IDs:=zmy G (hp.mem_iff.1 (List.getElem_mem hi)) hpp
      have h3:=h2 (g.IDs.idxOf p) (by
       unfold z2n;rw [← hjx,hop i hi]
       exact List.mem_map.2 ⟨p,hpp,rfl⟩)
      have h4:=hback hpm h3;have hnd2:=hnd;rw [← List.take_append_drop k (M.map oid),List.nodup_append] at hnd2
      exact hnd2.2.2 p h4 p hd rfl)
     have hup:=zfa G.e.ri hjl hkl2 hj;rw [List.getElem_idxOf,← e] at hup;omega
 have hk:=key M.length (Nat.le_refl _);rw [List.take_of_length_le (by simp)] at hk;have hQ:Q=M.map fun o=>g.IDs.idxOf (oid o):=q2.unique _ hk (by rw [q3,List.length_map,hml]);rw [q1,hQ,List.map_map];refine congrArg (fun l:List ID=>some (l,(0:Int))) ?_;refine List.map_congr_left fun o ho=>?_;exact zqi ((hids _).1 (List.mem_map.2 ⟨o,ho,rfl⟩))
theorem zq3 (l:List ID) (x:ID) (hl:l.length≤9223372036854775806):∀ (rest pre:List ID),l=pre++rest→iter (z33 l x) (pre.length:Int)=some (if x∈rest then .inl ((pre.length+rest.idxOf x:Nat):Int) else .inr ())
 | [],pre,e=>by
  refine z1r ?_;subst e;unfold z33;rw [if_neg (by simp)]
  simp
 | c::rest,pre,e=>by
  have hlen:pre.length<l.length:=by rw [e]; simp
  have hget:l[pre.length]'hlen=c:=by subst e; simp
  have hF:z33 l x (pre.length:Int)=if decide (x=c) then some (.inl (.inl (pre.length:Int))) else some (.inr ((pre.length+1:Nat):Int)):=by
   unfold z33;rw [if_pos (by simpa using hlen),z0k hlen,hget,z0l (by omega)];simp only [bS]
  by_cases hc:x=c
  ·rw [decide_eq_true hc,if_pos rfl] at hF;rw [z1r hF,if_pos (by simp [hc])];simp [hc]
  ·rw [decide_eq_false hc,if_neg (by simp)] at hF;have ih:=zq3 l x hl rest (pre++[c]) (by simp [e]);simp only [List.length_append,List.length_cons,List.length_nil,Nat.zero_add] at ih;rw [z2c hF,ih];by_cases hx:x∈rest
   ·have hi:(c::rest).idxOf x=rest.idxOf x+1:=by
     rw [List.idxOf_cons, show (c==x)=false by simpa using fun e:c=x=>hc e.symm]; rfl
    rw [if_pos hx,if_pos (by simp [hx]),hi]
    congr 3; omega
   ·rw [if_neg hx,if_neg (by simp [hx]; exact hc)]
theorem z10y (l:List ID) (x:ID) (hl:l.length≤9223372036854775806):z3u l x=some (decide (x∈l)):=by
 have h:=zq3 l x hl l [] rfl;unfold z3u z6k;rw [show (0:Int)=(([]:List ID).length:Int) from rfl,h];by_cases hx:x∈l
 ·rw [if_pos hx,decide_eq_true hx]; simp [zz3,bS]
 ·rw [if_neg hx,decide_eq_false hx]; rfl
theorem z14f (G:zbi g) (m:Nat→Bool) {i:Nat} (hi:i<g.Ops.length):decide (zm7 g i∈zb2 g m)=m i:=by
 have hm:=zo2 G.e (m:=m) (x:=zm7 g i);rw [zr6 G.e hi] at hm;rw [Bool.eq_iff_iff,decide_eq_true_iff,hm];refine ⟨fun h=>h.2, fun h=>⟨?_,h⟩⟩;rw [z69 (by rw [G.e.ids]; exact hi)]; exact List.getElem_mem _
theorem z12h {i:Nat} (hi:i<g.Ops.length):g.Ops[i]?.toList=[g.Ops[i]]:=by rw [List.getElem?_eq_getElem hi]; rfl
theorem zy5 (G:zbi g) (m:Nat→Bool):iter (z99 g (zb2 g m)) ([],0)=some (zkv g (fun i=>!m i) g.Ops.length):=by
 have hlen:=G.e.len;have hids:=G.e.ids;have hml:(zb2 g m).length≤60:=by
  unfold zb2;rw [List.length_map]
  have:=List.length_filter_le m (List.range g.Ops.length)
  rw [List.length_range] at this; omega
 have h:=z3d (F:=z99 g (zb2 g m)) (b:=zkv g (fun i=>!m i) g.Ops.length) g.Ops.length (fun i=>(zkv g (fun i=>!m i) i,(i:Int)))
  (fun i hi=>by
   have hii:i<g.IDs.length:=by omega
   unfold z99;rw [if_pos (by simp; omega)];simp only;rw [z0k hii];simp only [bS];rw [z10y _ _ (by omega),← z69 hii,z14f G m hi];simp only [bS];have hsl:=zho g (fun i=>!m i) i
   cases hm:m i with
   | true =>
    rw [if_neg (by simp),z0l (by omega),ztm (by show (!m i)=false; rw [hm]; rfl)]
   | false =>
    rw [if_pos (by simp),z0k hi,z0l (by omega),zta (by show (!m i)=true; rw [hm]; rfl),z12h hi];simp only [bS];rw [z1l (by simp only [List.length_cons,List.length_nil]; omega)]
    simp only [bS])
  (by
   unfold z99
   rw [if_neg (by simp; omega)])
 exact h
theorem z128 (G:zbi g) (m:Nat→Bool):∀ i,i≤g.Ops.length→(zkv g m i).map oid=zou g m i
 | 0,_=>rfl
 | i+1,hi=>by
  have ih:=z128 G m i (by omega)
  cases hm:m i with
  | false=>rw [ztm hm,zsn hm,ih]
  | true =>
   rw [zta hm,ztl hm,z12h (by omega),List.map_append,ih,List.map_singleton,zv6 G (by omega),z69 (by rw [G.e.ids]; omega)]
theorem z10g (G:zbi g) (m:Nat→Bool):∀ i,i≤g.Ops.length→(zkv g (fun i=>!m i) i).length+(zou g m i).length=i
 | 0,_=>rfl
 | i+1,hi=>by
  have ih:=z10g G m i (by omega)
  cases hm:m i with
  | false =>
   rw [zta (show (!m i)=true by rw [hm]; rfl),zsn hm,z12h (by omega),List.length_append,List.length_singleton]; omega
  | true =>
   rw [ztm (show (!m i)=false by rw [hm]; rfl),ztl hm,List.length_append,List.length_singleton]; omega
end
section
open Go
variable {g h:z01} {m:Nat→Bool} {W:List z05} {k:Nat}
structure znt (g:z01) (m:Nat→Bool) (W:List z05) (k:Nat) (h:z01):Prop where
 fit:Fit h 60
 look:∀ y o,zbo h y=some o↔zbo g y=some o∧(m (g.IDs.idxOf y)=true∨y∈(W.map oid).take k)
structure Rest (g:z01) (m:Nat→Bool) (W:List z05):Prop where
 ids:∀ y,y∈W.map oid↔y∈g.IDs∧m (g.IDs.idxOf y)=false
 ops:∀ o∈W,o∈g.Ops
 nodup:(W.map oid).Nodup
 topo:zsz W
theorem zrd (F:Fit g 60) (I:znt g m W k h) {y:ID}:y∈h.IDs↔y∈g.IDs∧(m (g.IDs.idxOf y)=true∨y∈(W.map oid).take k):=by
 constructor
 ·intro hy;obtain ⟨o,ho⟩:=zgq I.fit hy;obtain ⟨h1,h2⟩:=(I.look y o).1 ho;exact ⟨(zjn h1).1,h2⟩
 ·rintro ⟨h1,h2⟩
  obtain ⟨o,ho⟩:=zgq F h1;exact (zjn ((I.look y o).2 ⟨ho,h2⟩)).1
theorem z117 (G:zbi g) (F:Fit g 60) (cl:∀ i,m i=true→∀ p∈z2n g i,m p=true) (R:Rest g m W) (I:znt g m W k h) (hk:k≤W.length):zzm h:=by
 have Sg:=zr3 G F;refine ⟨fun x o ho=>Sg.ops x o ((I.look x o).1 ho).1, fun x o ho p hp=>?_,?_⟩
 ·obtain ⟨h1,h2⟩:=(I.look x o).1 ho;have hpm:=Sg.ins x o h1 p hp;rw [zrd F I];refine ⟨hpm,?_⟩
  cases hmp:m (g.IDs.idxOf p) with
  | true=>exact .inl rfl
  | false =>
   right
   have hpw:p∈W.map oid:=(R.ids p).2 ⟨hpm,hmp⟩;rcases h2 with h2 | h2
   ·have:g.IDs.idxOf p∈z2n g (g.IDs.idxOf x):=by
     obtain ⟨i,i1,i2⟩:=(zc6 F).1 h1;obtain ⟨hi,rfl⟩:=List.getElem?_eq_some_iff.1 i1;obtain ⟨hio,rfl⟩:=List.getElem?_eq_some_iff.1 i2;rw [zc7 F.ri hi];unfold z2n;exact List.mem_map.2 ⟨p, by rw [z7l hio]; exact hp,rfl⟩
    rw [cl _ h2 _ this] at hmp; cases hmp
   ·obtain ⟨j,hj,hjk,e⟩:=zgv h2;have ho':W[j]=o:=by
     have:=zrh G F (R.ops _ (List.getElem_mem hj))
     rw [e,h1] at this;exact (Option.some.inj this).symm
    rw [← ho'] at hp;have ht:=(zhb R.topo hj hp).1 hpw;exact (List.take_prefix_take_left (by omega)).subset ht
 ·obtain ⟨rk,hrk⟩:=Sg.rk;exact ⟨rk, fun x o ho p hp=>hrk x o ((I.look x o).1 ho).1 p hp⟩
theorem z1b3 (F:Fit g 60) (I:znt g m W k h) {o:z05} (ho:o∈h.Ops):o∈g.Ops:=by
 obtain ⟨i,hi,rfl⟩:=List.getElem_of_mem ho;exact (zjn ((I.look _ _).1 (zc2 I.fit hi)).1).2
theorem z15g (w:z3o g) (G:zbi g) (F:Fit g 60) (cl:∀ i,m i=true→∀ p∈z2n g i,m p=true) (R:Rest g m W) (I:znt g m W k h) (hk:k<W.length):zof h W[k]=some (zqx h (oid W[k],W[k]),oid W[k],0)∧znt g m W (k+1) (zqx h (oid W[k],W[k])):=by
 have ho:=R.ops _ (List.getElem_mem hk);have hxg:=z186 G ho;have hxw:oid W[k]∈W.map oid:=List.mem_map.2 ⟨_,List.getElem_mem hk,rfl⟩;have hx:oid W[k]∉h.IDs:=fun hx=>by
  rcases ((zrd F I).1 hx).2 with h1 | h1
  ·rw [((R.ids _).1 hxw).2] at h1; cases h1
  ·obtain ⟨j,hj,hjk,e⟩:=zgv h1
   have:=(List.getElem_inj (xs:=W.map oid) (i:=j) (j:=k) (h₀:=by rw [List.length_map]; exact hj) (h₁:=by rw [List.length_map]; exact hk) R.nodup).1 (by rw [List.getElem_map,List.getElem_map]; exact e);omega
 have hlen:h.Ops.length≤59:=by
  have h1:=zcz (oid W[k]::h.IDs) g.IDs (List.nodup_cons.2 ⟨hx,zd7 I.fit.ri⟩) (fun y hy=>by
   rcases List.mem_cons.1 hy with rfl | hy
   ·exact hxg
   ·exact ((zrd F I).1 hy).1)
  have h2:=F.ids; have h3:=F.len; have h4:=I.fit.ids;rw [List.length_cons] at h1;omega
 have F59:Fit h 59:=⟨I.fit.ids,hlen,I.fit.ri,I.fit.op⟩
 have Sh:=z117 G F cl R I (by omega);have wh:z3o h:=z1cb F59 (by omega) fun o ho=>w.2.1.1 o (z1b3 F I ho);obtain ⟨c,c1,-,c3⟩:=zw5 wh;have hc:c=0:=c3.2 (zz8 I.fit Sh);rw [hc] at c1;have hlo:=zrh G F ho;have hsz:=F.op _ ho;have hops:=(zr3 G F).ops _ _ hlo;refine ⟨z145 F59 (by omega) c1 (p:=(oid W[k],W[k])) (w.2.1.1 _ ho) hsz.1 hops.1 rfl hx (fun q hq=>?_),?_⟩
 ·have hqg:=zmy G ho hq;rw [zrd F I];refine ⟨hqg,?_⟩
  cases hmq:m (g.IDs.idxOf q) with
  | true=>exact .inl rfl
  | false=>exact .inr ((zhb R.topo hk hq).1 ((R.ids q).2 ⟨hqg,hmq⟩))
 ·refine ⟨zk4 F59 (p:=(oid W[k],W[k])) hsz, fun y o=>?_⟩;rw [zwj F59 (p:=(oid W[k],W[k])) hsz hx];have ht:y∈(W.map oid).take (k+1)↔y∈(W.map oid).take k∨y=oid W[k]:=by
   rw [List.take_succ_eq_append_getElem (by rw [List.length_map]; exact hk),List.mem_append,List.mem_singleton,List.getElem_map]
  rw [ht]
  dsimp only
  generalize hxx:oid W[k]=x at hlo;by_cases hy:y=x
  ·subst hy;rw [if_pos rfl,hlo];exact ⟨fun e=>⟨e,Or.inr (Or.inr rfl)⟩, fun e=>e.1⟩
  ·rw [if_neg hy,I.look];exact ⟨fun e=>⟨e.1,e.2.elim .inl fun e=>.inr (.inl e)⟩, fun e=>⟨e.1,e.2.elim .inl fun e=>.inr (e.elim id fun e=>absurd e hy)⟩⟩
theorem z18a (F:Fit g 60) (R:Rest g m W) (I:znt g m W W.length h):h=g:=by
 refine ztv I.fit F fun x=>?_
 cases hg:zbo g x with
 | none =>
  cases hh:zbo h x with
  | none=>rfl
  | some o=>rw [((I.look x o).1 hh).1] at hg; cases hg
 | some o =>
  rw [I.look];refine ⟨hg,?_⟩
  cases hm:m (g.IDs.idxOf x) with
  | true=>exact .inl rfl
  | false =>
   right
   rw [List.take_of_length_le (by simp)];exact (R.ids x).2 ⟨(zjn hg).1,hm⟩
theorem z13i (w:z3o g) (G:zbi g) (F:Fit g 60) (S:zqj g) (cl:∀ i,m i=true→∀ p∈z2n g i,m p=true) (R:Rest g m W) (hl:W.length≤1000):iter (z4a (W,0)) (subG g m,0)=some (.inr g):=by
 obtain ⟨b,h1,h2⟩:=z7b (F:=z4a (W,0)) W.length (fun i s=>s.2=(i:Int)∧znt g m W i s.1) (fun b=>b=.inr g)
  (fun i s hi hs=>by
   obtain ⟨s1,s2⟩:=s;obtain ⟨e1,I⟩:=hs;simp only at e1 I;subst e1;obtain ⟨ha,I'⟩:=z15g w G F cl R I hi;refine ⟨(zqx s1 (oid W[i],W[i]),((i+1:Nat):Int)),?_,rfl,I'⟩;unfold z4a;rw [if_pos (by simp; omega)];simp only;rw [z0k hi];simp only [bS];rw [ha];simp only [bS]
   rw [if_neg (by simp),z0l (by omega)])
  (fun s hs=>by
   obtain ⟨s1,s2⟩:=s;obtain ⟨e1,I⟩:=hs;simp only at e1 I;subst e1;refine ⟨_, by unfold z4a; rw [if_neg (by simp)],?_⟩
   rw [z18a F R I]) (subG g m,0) 0 (by omega) ⟨rfl,z12c G S m, fun y o=>by
    rw [z13x G S]; simp⟩
 rw [h1,h2]
theorem z172 (G:zbi g) (F:Fit g 60) (S:zqj g) (w:z3o g) (m:Nat→Bool):∃ W,zf4 (zkv g (fun i=>!m i) g.Ops.length)=some (W,0)∧Rest g m W∧W.length=(zkv g (fun i=>!m i) g.Ops.length).length:=by
 have hids:=z128 G (fun i=>!m i) g.Ops.length (Nat.le_refl _);have hsub:∀ o∈zkv g (fun i=>!m i) g.Ops.length,o∈g.Ops:=zms g _ _;have hlen:=zho g (fun i=>!m i) g.Ops.length;have hinc:z8a (zou g (fun i=>!m i) g.Ops.length)=true:=by rw [zht]; exact zmh G.e _
 have hmem:∀ y,y∈zou g (fun i=>!m i) g.Ops.length↔y∈g.IDs∧m (g.IDs.idxOf y)=false:=fun y=>by
  rw [zht,zo2 G.e]; simp
 generalize zkv g (fun i=>!m i) g.Ops.length=l at hids hsub hlen ⊢;have hl:=G.e.len;have hn:(l.map oid).Nodup:=by rw [hids]; exact zd7 hinc
 obtain ⟨rk,hrk⟩:=zvr G F
 have h0:(zjk l).2=0:=z15z (by omega) (fun o ho=>by
  obtain ⟨i,hi,rfl⟩:=List.getElem_of_mem (hsub o ho)
  exact z7o (G.ops i hi).1) hn rk (fun o ho p hp _=>hrk _ _ (zrh G F (hsub o ho)) p hp)
 have hw:wfO l:=fun o ho=>zy0 w (hsub o ho);have hcl:=(zef h0).2.2.2.2;have hM:=z12u hcl;refine ⟨(z6g l).map (·.o), by rw [z16m l hw,h0,if_pos rfl],⟨fun y=>?_, fun o ho=>hsub o (hM.perm.mem_iff.1 ho),(hM.perm.map oid).nodup_iff.2 hn,hM.topo⟩,hM.perm.length_eq⟩;rw [(hM.perm.map oid).mem_iff,hids,hmem]
theorem z1bd (G:zbi g) (F:Fit g 60) (w:z3o g) (S:zqj g) {M:List z05} (hp:M.Perm g.Ops):zss M=some (g,0):=by
 refine of_eq F (zr3 G F) (fun o=>hp.mem_iff) (by rw [hp.length_eq]; exact G.e.len) (fun o ho=>?_) ((hp.map oid).nodup_iff.2 (by rw [zle G]; exact zd7 G.e.ri));have hg:=hp.mem_iff.1 ho;obtain ⟨i,hi,rfl⟩:=List.getElem_of_mem hg;have hs:=S.op i hi;exact ⟨(G.ops i hi).1,(G.e.op i hi).1,hs.2.1,hs.2.2,(zy0 w hg).1⟩
theorem z14c (G:zbi g) (F:Fit g 60) (w:z3o g):zck g.Ops=some ([],0):=by
 have hw:wfO g.Ops:=fun o ho=>zy0 w ho;obtain ⟨s,h1,h2,h3⟩:=zya hw (zrt G F)
 cases s with
 | nil=>exact h1
 | cons a b =>
  exfalso
  obtain ⟨⟨o,ho,hp⟩,hx⟩:=(h3 a).1 (by simp);rw [zle G] at hx;exact hx (zmy G ho hp)
theorem z13z (G:zbi g) (w:z3o g) {M:List z05} (hp:M.Perm g.Ops):iter (z4b (M,0) (M.map oid,0)) 0=some (.inr ()):=by
 have hl:=G.e.len;have hml:=hp.length_eq
 have h:=zwr (F:=z4b (M,0) (M.map oid,0)) M.length (fun _=>true) (fun i hi=>by
  have hg:=hp.mem_iff.1 (List.getElem_mem hi);have hc:z1v M[i]=0:=by
   obtain ⟨j,hj,e⟩:=List.getElem_of_mem hg;rw [← e]; exact z7o (G.ops j hj).1
  unfold z4b;rw [if_pos (by simp; omega)];simp only;rw [z0k hi,z0k (l:=M.map oid) (i:=i) (by rw [List.length_map]; exact hi)];simp only [bS];rw [zwt _ hc (zy0 w hg).1,List.getElem_map];simp only [bS]
  rw [if_neg (by rw [show sha (z7h M[i])=oid M[i] from rfl]; simp),z0l (by omega)]; rfl) (by
  unfold z4b
  rw [if_neg (by simp)])
 rw [h]
 congr 1
 rw [if_pos (by rw [List.all_eq_true]; intro x _; rfl)]
theorem zxq (G:zbi g) (hc:z7v g=some 0) (m:Nat→Bool) {W:List z05} (h:zf4 (zkv g (fun i=>!m i) g.Ops.length)=some (W,0)):ze6 g (subG g m).IDs=some (W,0):=by
 have hlen:=G.e.len;have hml:(zb2 g m).length≤60:=by
  unfold zb2;rw [List.length_map]
  have:=List.length_filter_le m (List.range g.Ops.length)
  rw [List.length_range] at this; omega
 unfold ze6;rw [hc, show (subG g m).IDs=zb2 g m from zht g m];simp only [bS];rw [if_neg (by simp),if_neg (by simp; omega),zy5 G m];simp only [bS];rw [h];simp only [bS]
theorem zp4 (a0:z01) (a1:List ID) (w0:z3o a0) (_:(∀ x∈a1,∀ y∈x.toList,(fun _=>True) y)∧a1.length≤9223372036854775807):za2 a0 a1=some true:=by
 obtain ⟨b,hb,hS⟩:=z14r a0;obtain ⟨c,c1,c2,c3⟩:=zw5 w0;unfold za2;rw [ztw];simp only [bS];rw [hb];simp only [bS]
 cases b with
 | true=>rfl
 | false =>
  have S:=hS rfl;simp only [Bool.false_eq_true,if_false];rw [c2];simp only [bS];by_cases hc:c=0
  ·subst hc;have G:=c3.1 rfl;have hlen:=G.e.len;have F0:=z114 G S;have F:Fit a0 60:=⟨F0.ids,hlen,F0.ri,F0.op⟩
   rw [if_neg (by simp)];by_cases h20:20<a1.length
   ·rw [if_pos (by simp; omega)]; rfl
   rw [if_neg (by simp; omega),zzo _ _ (by have:=F.ids; omega) (by omega)];simp only [bS]
   cases hal:a1.all fun x=>decide (x∈a0.IDs) with
   | false=>rfl
   | true =>
    have hin:∀ x∈a1,x∈a0.IDs:=fun x hx=>by simpa using List.all_eq_true.1 hal x hx
    have hw:wfO a0.Ops:=fun o ho=>zy0 w0 ho;have h0:=zrt G F;have hcl:=(zef h0).2.2.2.2;have hM:=z12u hcl;have hC:=z14q h0;have hwM:=z14z hM.perm hw;have hlenB:=hC.len hwM;have hord:=zvw G F c1 hM.perm hM.topo (zv0 hcl);obtain ⟨m,hb1,hb2⟩:=zyf G c1 a1 (by omega) hin;have cl:∀ i,m i=true→∀ p∈z2n a0 i,m p=true:=fun i hi p hp=>(hb2 p).2 (.step ((hb2 i).1 hi) hp);obtain ⟨W,hs,R,hWl⟩:=z172 G F S w0 m;simp only [Bool.not_true,Bool.false_eq_true,if_false]
    rw [zts a0.Ops hw,h0];simp only [bS,if_true];rw [zym hC hwM hlenB];simp only [bS];rw [z1bd G F w0 S hM.perm];simp only [bS];rw [z14c G F w0];simp only [bS];rw [hord];simp only [bS,bne_self_eq_false,Bool.false_eq_true,if_false];rw [zs5 S];simp only [bS,Bool.not_true,Bool.false_eq_true,if_false];rw [if_neg (by simp),List.length_map,bne_self_eq_false];simp only [bS,Bool.false_eq_true,if_false];rw [z13z G w0 hM.perm,zq5,hb1]
    simp only [bS];rw [zxq G c1 m hs];simp only [bS,bne_self_eq_false,Bool.false_eq_true,if_false];have htwo:=z10g G m a0.Ops.length (Nat.le_refl _);have hsum:w64 ((W.length:Int)+((subG a0 m).IDs.length:Int))=(a0.IDs.length:Int):=by
     have e1:(subG a0 m).IDs.length=(zou a0 m a0.Ops.length).length:=rfl;have e2:=F.ids;rw [e1,z17 (by omega) (by omega)]; omega
    rw [hsum,bne_self_eq_false];simp only [bS,Bool.false_eq_true,if_false];rw [z13i w0 G F S cl R (by have:=zho a0 (fun i=>!m i) a0.Ops.length; omega),zq5];rw [zs5 S]; rfl
  ·rw [if_pos (by simpa using hc)]; rfl
end
end Go.Proofs.YtojceajkeefnpaaGreatDoor
