import Derived.Test.YtojceajkeefnpaaGreatDoorRd
set_option linter.unusedSimpArgs false
set_option linter.unusedVariables false
namespace Go.Proofs.YtojceajkeefnpaaGreatDoor
section
open Go
def blk (h:Vector UInt32 8) (b:List UInt8):Vector UInt32 8:=if h64:64≤b.length then blk (gr h (b.take 64)) (b.drop 64) else h
termination_by b.length
decreasing_by simp; omega
theorem zvp {h:Vector UInt32 8} {b:List UInt8} (hb:b.length<64):blk h b=h:=by rw [blk,dif_neg (by omega)]
theorem zvo {h:Vector UInt32 8} {b:List UInt8} (hb:64≤b.length):blk h b=blk (gr h (b.take 64)) (b.drop 64):=by rw [blk,dif_pos hb]
def lft (b:List UInt8):List UInt8:=b.drop (b.length / 64 * 64)
theorem z112 {b:List UInt8} (hb:b.length<64):lft b=b:=by unfold lft; rw [Nat.div_eq_of_lt hb]; simp
theorem zzv {b:List UInt8} (hb:64≤b.length):lft b=lft (b.drop 64):=by
 unfold lft;rw [List.drop_drop,List.length_drop]
 congr 1
 omega
theorem zzp (b:List UInt8):(lft b).length<64:=by unfold lft; simp; omega
theorem z16i (h:Vector UInt32 8):∀ (n:Nat) (a c:List UInt8),a.length=n→blk h (a++c)=blk (blk h a) (lft a++c)∧lft (a++c)=lft (lft a++c):=by
 intro n
 induction n using Nat.strongRecOn generalizing h with
 | _ n ih =>
  intro a c ha;by_cases h64:64≤a.length
  ·have e1:(a++c).take 64=a.take 64:=by rw [List.take_append_of_le_length h64]
   have e2:(a++c).drop 64=a.drop 64++c:=by rw [List.drop_append_of_le_length h64]
   have hl:64≤(a++c).length:=by simp; omega
   obtain ⟨i1,i2⟩:=ih (a.drop 64).length (by simp; omega) (gr h (a.take 64)) (a.drop 64) c rfl;rw [zvo hl,e1,e2,zvo h64,zzv h64,zzv hl,e2];exact ⟨i1,i2⟩
  ·rw [zvp (b:=a) (by omega),z112 (b:=a) (by omega)];exact ⟨rfl,rfl⟩
theorem z11f:∀ (n:Nat) (m:z2t) (r:List UInt8),r.length=n→iter zao (m,r)=some ({ m with Words:=blk m.Words r },lft r):=by
 intro n
 induction n using Nat.strongRecOn with
 | _ n ih =>
  intro m r hr;by_cases h64:64≤r.length
  ·have hs:zao (m,r)=some (.inr ({ m with Words:=gr m.Words (r.take 64) },r.drop 64)):=by
    unfold zao;rw [if_pos (by simp; omega)];simp only [];rw [z14x _ _ h64, show (64:Int)=((64:Nat):Int) from rfl,z5i h64 (Nat.le_refl _)];simp only [bS];rw [List.take_of_length_le (l:=r.drop 64) (by simp)]
   rw [z29 hs,ih (r.drop 64).length (by simp; omega) _ _ rfl,zvo h64,zzv h64]
  ·refine (z1l (b:=(m,r)) ?_).trans ?_
   ·unfold zao;rw [if_neg (by simp; omega)]
   ·rw [zvp (by omega),z112 (by omega)]
theorem z14y (a b:List UInt8) (h:a.length+b.length≤1000000):z2k [a,b]=some (a++b):=by
 have l1:iter (z1c [a,b]) (0,0)=some ((a.length+b.length:Nat):Int):=by
  have s1:z1c [a,b] (0,0)=some (.inr ((a.length:Int),1)):=by
   unfold z1c;rw [if_pos (by simp)];simp only [];rw [show idx [a,b] 0=some a from rfl];simp only [bS];rw [z13 (x:=(0:Int)+(a.length:Int)) (by omega) (by omega),z13 (x:=(0:Int)+1) (by omega) (by omega)];rw [if_neg (by simp)]
   simp
  have s2:z1c [a,b] ((a.length:Int),1)=some (.inr (((a.length+b.length:Nat):Int),2)):=by
   unfold z1c;rw [if_pos (by simp)];simp only [];rw [show idx [a,b] 1=some b from rfl];simp only [bS];rw [z13 (x:=(a.length:Int)+(b.length:Int)) (by omega) (by omega),z13 (x:=(1:Int)+1) (by omega) (by omega)];rw [if_neg (by simp; omega)]
   simp
  have s3:z1c [a,b] (((a.length+b.length:Nat):Int),2)=some (.inl ((a.length+b.length:Nat):Int)):=by
   unfold z1c;rw [if_neg (by simp)]
  rw [z29 s1,z29 s2,z1l s3]
 have gw:z41 ((a.length+b.length:Nat):Int)=some []:=by
  unfold z41;rw [if_neg (by simp; omega)];rw [show ((([]:List UInt8).length:Nat):Int)=0 from rfl, show w64 ((0:Int) - 0)=0 by decide,Int.sub_zero,z13 (by omega) (by omega)];simp only [bS]
  split
  ·rw [zlp (by omega) (by omega)];simp only [bS];rw [show (0:Int)=((0:Nat):Int) from rfl,z5i (Nat.le_refl _) (Nat.zero_le _)]
   simp
  ·rfl
 have l2:iter (z1b [a,b]) ([],0)=some (a++b):=by
  have s1:z1b [a,b] ([],0)=some (.inr (a,1)):=by
   unfold z1b;rw [if_pos (by simp)];simp only [];rw [show idx [a,b] 0=some a from rfl,z13 (x:=(0:Int)+1) (by omega) (by omega)];simp only [bS];rw [z1m (by simp; omega)]
   simp
  have s2:z1b [a,b] (a,1)=some (.inr (a++b,2)):=by
   unfold z1b;rw [if_pos (by simp)];simp only [];rw [show idx [a,b] 1=some b from rfl,z13 (x:=(1:Int)+1) (by omega) (by omega)];simp only [bS];rw [z1m (by simp; omega)]
   simp
  have s3:z1b [a,b] (a++b,2)=some (.inl (a++b)):=by
   unfold z1b;rw [if_neg (by simp)]
  rw [z29 s1,z29 s2,z1l s3]
 unfold z2k;rw [l1];simp only [bS];rw [gw];simp only [bS];rw [l2];simp only [bS]
theorem z15l (m:z2t) (b:List UInt8) (h:m.Rest.length+b.length≤1000000):zcj m b=some ⟨blk m.Words (m.Rest++b),lft (m.Rest++b),w64 (m.N+(b.length:Int))⟩:=by
 unfold zcj;rw [z14y _ _ h];simp only [bS];rw [z11f _ _ _ rfl];simp only [bS];unfold z8x
 have:=zzp (m.Rest++b)
 rw [z1m (by simp; omega)];simp only [bS,List.nil_append]
def H0:Vector UInt32 8:=#v[1779033703,3144134277,1013904242,2773480762,1359893119,2600822924,528734635,1541459225]
def zxx (a:List UInt8):z2t:=⟨blk H0 a,lft a,(a.length:Int)⟩
theorem z132:zev=some (zxx []):=by
 unfold zev zxx;rw [zvp (by simp),z112 (by simp)];rfl
theorem zra (a b:List UInt8) (h:a.length+b.length≤500000):zcj (zxx a) b=some (zxx (a++b)):=by
 have hl:=zzp a;rw [z15l (zxx a) b (by show (lft a).length+b.length≤1000000; omega)];obtain ⟨h1,h2⟩:=z16i H0 _ a b rfl;unfold zxx;rw [h1,h2,z13 (by simp; omega) (by simp; omega)]
 simp
theorem zxh (b:List UInt8) (hb:b.length≤1000000):∀ (n:Nat) (h:Vector UInt32 8) (i:Nat),(b.drop i).length=n→i≤b.length→iter (z5t b) (h,(i:Int))=some (blk h (b.drop i)):=by
 intro n
 induction n using Nat.strongRecOn with
 | _ n ih =>
  intro h i hn hi;have hw:w64 ((i:Int)+64)=((i+64:Nat):Int):=by rw [z13 (by omega) (by omega)]; omega
  simp only [List.length_drop] at hn;by_cases h64:i+64≤b.length
  ·have hs:z5t b (h,(i:Int))=some (.inr (gr h ((b.drop i).take 64),((i+64:Nat):Int))):=by
    unfold z5t;simp only [hw];rw [if_pos (by simp; omega),z5i (by omega) h64];simp only [bS];rw [show i+64 - i=64 by omega,z187 _ _ (by simp; omega)];simp only [bS]
   rw [z29 hs,ih (b.drop (i+64)).length (by simp; omega) _ _ rfl h64,zvo (b:=b.drop i) (by simp; omega),List.drop_drop]
  ·refine (z1l (b:=h) ?_).trans ?_
   ·unfold z5t;simp only [hw];rw [if_neg (by simp; omega)]
   ·rw [zvp (by simp; omega)]
theorem z103 (h:Vector UInt32 8) (b:List UInt8) (hb:b.length≤1000000):z9y h b=some (blk h b):=by
 unfold z9y
 have:=zxh b hb _ h 0 rfl (by omega)
 rw [show (0:Int)=((0:Nat):Int) from rfl,this];simp only [bS,List.drop_zero]
def zrs (n:Nat):Nat:=(119 - n % 64) % 64
def zaa (n:Nat):List UInt8:=(List.range 8).map fun i=>(z6r (UInt64.ofNat n * 8) (56 - 8 * i)).toUInt8
def tl (n:Nat):List UInt8:=([128]++List.replicate (zrs n) 0)++zaa n
theorem zsx (n:Nat):UInt64.ofInt (n:Int)=UInt64.ofNat n:=by
 apply UInt64.toNat_inj.1
 unfold UInt64.ofInt;simp only [UInt64.toNat_ofNat'];omega
theorem zyy (n:Nat) (x:List UInt8) (hx:x.length≤100):iter (zc3 (UInt64.ofNat n * 8)) (x,56)=some (x++zaa n):=by
 rw [show (x,(56:Int))=(x++(zaa n).take 0,56 - 8 * ((0:Nat):Int)) by simp];refine z3m (F:=zc3 (UInt64.ofNat n * 8)) (b:=x++zaa n) 8 (fun i=>(x++(zaa n).take i,56 - 8 * (i:Int))) (fun i hi=>?_) ?_
 ·have hl:(zaa n).length=8:=by simp [zaa]
  unfold zc3;rw [if_pos (by simp; omega)];simp only [];rw [z4f (by omega),z13 (by omega) (by omega)];simp only [bS];rw [z1m (by simp; omega)];simp only [bS];rw [List.take_add_one,List.getElem?_eq_getElem (by omega)];simp only [Option.toList_some,List.append_assoc];rw [show (56 - 8 * (i:Int)).toNat=56 - 8 * i by omega, show (56 - 8 * (i:Int) - 8)=56 - 8 * ((i+1:Nat):Int) by omega];simp [zaa]
 ·have hl:(zaa n).length=8:=by simp [zaa]
  unfold zc3;rw [if_neg (by simp),List.take_of_length_le (by omega)]
theorem z119 (n:Nat) (x:List UInt8) (hx:x.length≤100):iter (z79 (n:Int)) (x,7)=some (x++zaa n):=by
 rw [show (x,(7:Int))=(x++(zaa n).take 0,7 - ((0:Nat):Int)) by simp];refine z3m (F:=z79 (n:Int)) (b:=x++zaa n) 8 (fun i=>(x++(zaa n).take i,7 - (i:Int))) (fun i hi=>?_) ?_
 ·have hl:(zaa n).length=8:=by simp [zaa]
  unfold z79;rw [if_pos (by simp; omega)];simp only [];rw [z13 (x:=8 * (7 - (i:Int))) (by omega) (by omega),z4f (by omega),z13 (by omega) (by omega)];simp only [bS];rw [z1m (by simp; omega)];simp only [bS];rw [List.take_add_one,List.getElem?_eq_getElem (by omega)];simp only [Option.toList_some,List.append_assoc];rw [show (8 * (7 - (i:Int))).toNat=56 - 8 * i by omega, show (7 - (i:Int) - 1)=7 - ((i+1:Nat):Int) by omega]
  rw [zsx];simp [zaa,UInt64.mul_comm]
 ·have hl:(zaa n).length=8:=by simp [zaa]
  unfold z79;rw [if_neg (by simp),List.take_of_length_le (by omega)]
theorem zzu (n:Nat) (hn:n≤1000000):iter (z7f (n:Int)) [128]=some ([128]++List.replicate (zrs n) 0):=by
 refine z3m (F:=z7f (n:Int)) (b:=[128]++List.replicate (zrs n) 0) (zrs n) (fun i=>[128]++List.replicate i 0) (fun i hi=>?_) ?_
 ·have hz:zrs n<64:=Nat.mod_lt _ (by omega);have hl:(([128]++List.replicate i 0:List UInt8).length:Int)=((1+i:Nat):Int):=by simp; omega
  unfold z7f;rw [hl,z13 (x:=(n:Int)+((1+i:Nat):Int)) (by omega) (by omega),z13 (by omega) (by omega)];have ht:Int.tmod ((n:Int)+((1+i:Nat):Int)+8) 64=(((n+9+i) % 64:Nat):Int):=by
   rw [Int.tmod_eq_emod_of_nonneg (by omega)]; omega
  rw [ht,if_pos]
  ·rw [z1m (by simp; omega)];simp only [bS];rw [List.replicate_succ',List.append_assoc]
  ·simp only [bne_iff_ne,ne_eq];unfold zrs at hi;omega
 ·have hl:(([128]++List.replicate (zrs n) 0:List UInt8).length:Int)=((1+zrs n:Nat):Int):=by simp; omega
  have hz:zrs n<64:=Nat.mod_lt _ (by omega);unfold z7f;rw [hl,z13 (x:=(n:Int)+((1+zrs n:Nat):Int)) (by omega) (by omega),z13 (by omega) (by omega)];have ht:Int.tmod ((n:Int)+((1+zrs n:Nat):Int)+8) 64=0:=by
   rw [Int.tmod_eq_emod_of_nonneg (by omega)];unfold zrs;omega
  rw [ht,if_neg (by simp)]
theorem z12b (n:Nat) (hn:n≤1000000):zbj (n:Int)=some (tl n):=by
 have hz:zrs n<64:=Nat.mod_lt _ (by omega);unfold zbj;rw [zzu n hn];simp only [bS];rw [z119 n _ (by simp; omega)];simp only [bS];rfl
def wr (h:Vector UInt32 8):V3:=Vector.ofFn fun i=>(z57 (h[i.val / 4]'(by omega)) (24 - 8 * (i.val % 4))).toUInt8
theorem zxl (h:Vector UInt32 8):z95 h=some (wr h):=by
 have:∃ r,iter (z5f h) (Vector.replicate 32 0,0)=some r∧r=wr h:=by
  refine z9o (F:=z5f h) 32 (fun i s=>s.2=(i:Int)∧∀ k (hk:k<32),k<i→s.1[k]=(wr h)[k]) (fun r=>r=wr h) (fun i s hi hs=>?_) (fun s hs=>?_) (Vector.replicate 32 0,0) 0 (by omega) ⟨rfl, fun k hk h0=>by omega⟩
  ·obtain ⟨v,j⟩:=s;obtain ⟨h1,h2⟩:=hs;simp only at h1 h2;subst h1;have hd:w64 (Int.tdiv (i:Int) 4)=((i / 4:Nat):Int):=by
    have:Int.tdiv (i:Int) 4=((i / 4:Nat):Int):=by rw [Int.tdiv_eq_ediv_of_nonneg (by omega)]; omega
    rw [this,z13 (by omega) (by omega)]
   have hm:w64 (8 * (Int.tmod (i:Int) 4))=((8 * (i % 4):Nat):Int):=by
    have:Int.tmod (i:Int) 4=((i % 4:Nat):Int):=by rw [Int.tmod_eq_emod_of_nonneg (by omega)]; omega
    rw [this,z13 (by omega) (by omega)]; omega
   have hs:w64 (24 - ((8 * (i % 4):Nat):Int))=((24 - 8 * (i % 4):Nat):Int):=by rw [z13 (by omega) (by omega)]; omega
   refine ⟨(zi0 v (i:Int) ((z57 (h[i / 4]'(by omega)) (24 - 8 * (i % 4))).toUInt8),((i+1:Nat):Int)),?_,rfl, fun k hk hk2=>?_⟩
   ·unfold z5f;rw [if_pos (by simp; omega)];simp only [];rw [hd,hm,hs,za1 (show i / 4<8 by omega),z4f (by omega),za1 hi,z0u (show i<9223372036854775807 by omega)];simp only [bS,Int.toNat_natCast]
   ·simp only [];rw [zhv hk,Int.toNat_natCast];by_cases e:i=k
    ·subst e;rw [if_pos rfl];simp [wr]
    ·rw [if_neg e]; exact h2 k hk (by omega)
  ·obtain ⟨v,j⟩:=s;obtain ⟨h1,h2⟩:=hs;simp only at h1 h2;subst h1;refine ⟨v,?_,?_⟩
   ·unfold z5f;rw [if_neg (by simp)]
   ·exact Vector.ext fun k hk=>h2 k hk hk
 obtain ⟨r,h1,rfl⟩:=this;unfold z95;rw [h1];simp only [bS]
theorem zt3 (m:z2t):iter (za6 m) (Vector.replicate 32 0,0)=some (wr m.Words):=by
 have:∃ r,iter (za6 m) (Vector.replicate 32 0,0)=some r∧r=wr m.Words:=by
  refine z9o (F:=za6 m) 8 (fun i s=>s.2=(i:Int)∧∀ k (hk:k<32),k<4 * i→s.1[k]=(wr m.Words)[k]) (fun r=>r=wr m.Words) (fun i s hi hs=>?_) (fun s hs=>?_) (Vector.replicate 32 0,0) 0 (by omega) ⟨rfl, fun k hk h0=>by omega⟩
  ·obtain ⟨v,j⟩:=s;obtain ⟨h1,h2⟩:=hs;simp only at h1 h2;subst h1;have e0:w64 (4 * (i:Int))=((4 * i:Nat):Int):=by rw [z13 (by omega) (by omega)]; omega
   have e1:w64 (((4 * i:Nat):Int)+1)=((4 * i+1:Nat):Int):=by rw [z13 (by omega) (by omega)]; omega
   have e2:w64 (((4 * i:Nat):Int)+2)=((4 * i+2:Nat):Int):=by rw [z13 (by omega) (by omega)]; omega
   have e3:w64 (((4 * i:Nat):Int)+3)=((4 * i+3:Nat):Int):=by rw [z13 (by omega) (by omega)]; omega
   refine ⟨(zi0 (zi0 (zi0 (zi0 v ((4 * i:Nat):Int) (z57 m.Words[i] 24).toUInt8) ((4 * i+1:Nat):Int) (z57 m.Words[i] 16).toUInt8) ((4 * i+2:Nat):Int) (z57 m.Words[i] 8).toUInt8) ((4 * i+3:Nat):Int) m.Words[i].toUInt8,((i+1:Nat):Int)),?_,rfl, fun k hk hk2=>?_⟩
   ·unfold za6;rw [if_pos (by simp; omega)];simp only [];rw [e0,e1,e2,e3,za1 hi,za1 (show 4 * i<32 by omega),z0u (show i<9223372036854775807 by omega)];simp only [bS];rw [za1 (show 4 * i+1<32 by omega),za1 (show 4 * i+2<32 by omega),za1 (show 4 * i+3<32 by omega)];simp only [bS]
   ·simp only [];rw [zhv hk,zhv hk,zhv hk,zhv hk];simp only [Int.toNat_natCast];have hw:(wr m.Words)[k]=(z57 (m.Words[k / 4]'(by omega)) (24 - 8 * (k % 4))).toUInt8:=by simp [wr]
    have s0:∀ x:UInt32,z57 x 0=x:=fun x=>by
     apply UInt32.toNat_inj.1; rw [zfz]; simp
    by_cases c3:4 * i+3=k
    ·subst c3;rw [if_pos rfl,hw];have a1:(4 * i+3) / 4=i:=by omega
     have a2:24 - 8 * ((4 * i+3) % 4)=0:=by omega
     simp only [a1,a2,s0]
    ·rw [if_neg c3];by_cases c2:4 * i+2=k
     ·subst c2;rw [if_pos rfl,hw];have a1:(4 * i+2) / 4=i:=by omega
      have a2:24 - 8 * ((4 * i+2) % 4)=8:=by omega
      simp only [a1,a2]
     ·rw [if_neg c2];by_cases c1:4 * i+1=k
      ·subst c1;rw [if_pos rfl,hw];have a1:(4 * i+1) / 4=i:=by omega
       have a2:24 - 8 * ((4 * i+1) % 4)=16:=by omega
       simp only [a1,a2]
      ·rw [if_neg c1];by_cases c0:4 * i=k
       ·subst c0;rw [if_pos rfl,hw];have a1:(4 * i) / 4=i:=by omega
        have a2:24 - 8 * ((4 * i) % 4)=24:=by omega
        simp only [a1,a2]
       ·rw [if_neg c0];exact h2 k hk (by omega)
  ·obtain ⟨v,j⟩:=s;obtain ⟨h1,h2⟩:=hs;simp only at h1 h2;subst h1;refine ⟨v,?_,?_⟩
   ·unfold za6;rw [if_neg (by simp)]
   ·exact Vector.ext fun k hk=>h2 k hk (by omega)
 obtain ⟨r,h1,rfl⟩:=this;exact h1
def sha (b:List UInt8):V3:=wr (blk H0 (b++tl b.length))
theorem z189 (a:List UInt8) (h:a.length≤300000):zhh (zxx a)=some (sha a):=by
 have hz:zrs a.length<64:=Nat.mod_lt _ (by omega);unfold zhh;rw [show (zxx a).N=((a.length:Nat):Int) from rfl,zsx];simp only [bS];have ht:Int.tmod (w64 (119 - Int.tmod ((a.length:Nat):Int) 64)) 64=((zrs a.length:Nat):Int):=by
  have e1:Int.tmod ((a.length:Nat):Int) 64=((a.length % 64:Nat):Int):=by rw [Int.tmod_eq_emod_of_nonneg (by omega)]; omega
  rw [e1,z13 (by omega) (by omega),Int.tmod_eq_emod_of_nonneg (by omega)];unfold zrs;omega
 rw [ht];have hap:appz 1 ([128]:List UInt8) 0 ((zrs a.length:Nat):Int)=some ([128]++List.replicate (zrs a.length) 0):=by
  unfold appz;rw [if_pos ⟨by omega, by simp; omega⟩,Int.toNat_natCast]
 rw [hap];simp only [bS];rw [zyy _ _ (by simp; omega)];simp only [bS];have htl:(tl a.length).length≤200:=by simp [tl,zaa]; omega
 rw [show ([128]++List.replicate (zrs a.length) 0)++zaa a.length=tl a.length from rfl,zra a _ (by omega)];simp only [bS];rw [zt3];simp only [bS];rfl
theorem z16m (b:List UInt8) (h:b.length≤300000):zc4 b=some (sha b):=by
 have hz:zrs b.length<64:=Nat.mod_lt _ (by omega);have htl:(tl b.length).length≤200:=by simp [tl,zaa]; omega
 unfold zc4 zd7;simp only [bS];rw [z1m (by simp; omega)];simp only [bS,List.nil_append];rw [z12b _ (by omega)];simp only [bS];rw [z1m (by simp; omega)];simp only [bS];rw [z103 _ _ (by simp; omega)];simp only [bS];rw [zxl];simp only [bS];rfl
end
section
open Go Go.RowKit
def pmod:Nat→Nat→Nat→Nat→Nat
 | 0,_,_,m=>1 % m
 | f+1,a,n,m=>if n=0 then 1 % m else (if n % 2=1 then a * pmod f (a * a % m) (n / 2) m % m else pmod f (a * a % m) (n / 2) m)
theorem zy7:∀ (f a n m:Nat),n<2 ^ f→pmod f a n m=a ^ n % m
 | 0,a,n,m,h=>by
  have:n=0:=by simpa using h
  subst this; rfl
 | f+1,a,n,m,h=>by
  have h2:n / 2<2 ^ f:=by rw [Nat.pow_succ] at h; omega
  have key:(a * a % m) ^ (n / 2) % m=a ^ (2 * (n / 2)) % m:=by
   rw [← Nat.pow_mod,← Nat.pow_two,← Nat.pow_mul]
  simp only [pmod,zy7 f _ _ _ h2,key]
  split
  ·rename_i h0; subst h0; rfl
  ·split
   ·rename_i h1;rw [Nat.mul_mod,Nat.mod_mod,← Nat.mul_mod, show a * a ^ (2 * (n / 2))=a ^ (2 * (n / 2)+1) by rw [Nat.pow_succ,Nat.mul_comm], show 2 * (n / 2)+1=n by omega]
   ·rename_i h1;rw [show 2 * (n / 2)=n by omega]
abbrev gp:Nat:=1000000007
abbrev gq:Nat:=500000003
theorem z183:4 ^ gq % gp=1:=by
 rw [← zy7 64 4 gq gp (by decide)]
 decide +kernel
def inG (a:Nat):Prop:=0<a∧a<gp∧a ^ gq % gp=1
instance:DecidablePred inG:=fun a=>by unfold inG; exact inferInstance
theorem zn1 (a m n p:Nat):(a ^ m % p) ^ n % p=a ^ (m * n) % p:=by rw [← Nat.pow_mod,← Nat.pow_mul]
theorem zro {a:Nat} (h:a ^ gq % gp=1) (k:Nat):a ^ (gq * k) % gp=1:=by
 rw [Nat.pow_mul,Nat.pow_mod,h,Nat.one_pow];rfl
theorem zz4 {a:Nat} (h:a ^ gq % gp=1) (k r:Nat):a ^ (gq * k+r) % gp=a ^ r % gp:=by
 rw [Nat.pow_add,Nat.mul_mod,zro h,Nat.one_mul,Nat.mod_mod]
theorem ztz {a:Nat} (h:a ^ gq % gp=1) (n:Nat):inG (a ^ n % gp):=by
 have h2:(a ^ n % gp) ^ gq % gp=1:=by rw [zn1,Nat.mul_comm,zro h]
 refine ⟨Nat.pos_of_ne_zero fun h0=>?_,Nat.mod_lt _ (by decide),h2⟩;rw [h0,Nat.zero_pow (by decide)] at h2;exact absurd h2 (by decide)
theorem z160 {y E:Nat} (h:y ^ gq % gp=1) (hE:E<gq):(y ^ E % gp) ^ (gq - 1) % gp=y ^ (gq - E) % gp:=by
 rw [zn1];by_cases h0:E=0
 ·subst h0;rw [Nat.zero_mul,Nat.sub_zero,h,Nat.pow_zero]
  decide
 ·have e:E * (gq - 1)=gq * (E - 1)+(gq - E):=by
   obtain ⟨k,rfl⟩:∃ k,E=k+1:=⟨E - 1, by omega⟩
   have hE':k+1<500000003:=hE;show (k+1) * 500000002=500000003 * (k+1 - 1)+(500000003 - (k+1));omega
  rw [e,zz4 h]
theorem z10h {a n i p:Nat}:((a ^ (n >>> (i+1)) % p) * (a ^ (n >>> (i+1)) % p) % p) * a ^ ((n >>> i) % 2) % p=a ^ (n >>> i) % p:=by
 have e:n >>> i=2 * (n >>> (i+1))+(n >>> i) % 2:=by
  rw [Nat.shiftRight_succ]; omega
 have key:∀ x y:Nat,((x % p) * (x % p) % p) * y % p=x * x * y % p:=fun x y=>by
  rw [Nat.mul_mod ((x % p) * (x % p) % p) y,Nat.mod_mod,← Nat.mul_mod x x,← Nat.mul_mod]
 rw [key,← Nat.pow_add,← Nat.pow_add]
 congr 2
 omega
end
section
open Go
def u32 (n:Nat):UInt32:=UInt32.ofNat n
theorem z8q {n:Nat} (h:n<gp):(u32 n).toNat=n:=by
 have h:n<1000000007:=h;unfold u32; simp; omega
theorem m64 (x y:UInt64) (h:x.toNat * y.toNat<18446744073709551616):(x * y % 1000000007).toNat=x.toNat * y.toNat % gp:=by
 rw [UInt64.toNat_mod,UInt64.toNat_mul,Nat.mod_eq_of_lt h];rfl
theorem to32 (x:UInt64) (h:x.toNat<gp):x.toUInt32=u32 x.toNat:=by
 apply UInt32.toNat_inj.1
 have h:x.toNat<1000000007:=h;rw [z8q h]; simp; omega
theorem mul2 (x y:UInt32):zf8 1000000007 [x,y]=some (u32 (x.toNat * y.toNat % gp)):=by
 have hx:=UInt32.toNat_lt x;have hy:=UInt32.toNat_lt y;have e1:(1 * x.toUInt64 % 1000000007:UInt64).toNat=x.toNat % gp:=by
  rw [m64 _ _ (by simp; omega)]; simp
 have hlt:x.toNat % gp<1000000007:=Nat.mod_lt _ (by decide);have hpr:(x.toNat % gp) * y.toNat≤1000000007 * 4294967296:=Nat.mul_le_mul (by omega) (by omega);have e2:(1 * x.toUInt64 % 1000000007 * y.toUInt64 % 1000000007:UInt64).toNat=x.toNat * y.toNat % gp:=by
  rw [m64 _ _ (by rw [e1]; simp; omega),e1];simp only [UInt32.toNat_toUInt64];rw [Nat.mod_mul_mod]
 have s1:z9n 1000000007 [x,y] (1,0)=some (.inr (1 * x.toUInt64 % 1000000007,1)):=by
  unfold z9n;rw [if_pos (by simp)];simp only [];rw [show idx [x,y] 0=some x from rfl,z4f (by decide),z13 (x:=(0:Int)+1) (by omega) (by omega)];simp only [bS];rfl
 have s2:z9n 1000000007 [x,y] (1 * x.toUInt64 % 1000000007,1)=some (.inr (1 * x.toUInt64 % 1000000007 * y.toUInt64 % 1000000007,2)):=by
  unfold z9n;rw [if_pos (by simp)];simp only [];rw [show idx [x,y] 1=some y from rfl,z4f (by decide),z13 (x:=(1:Int)+1) (by omega) (by omega)];simp only [bS];rfl
 have s3:z9n 1000000007 [x,y] (1 * x.toUInt64 % 1000000007 * y.toUInt64 % 1000000007,2)=some (.inl (1 * x.toUInt64 % 1000000007 * y.toUInt64 % 1000000007)):=by
  unfold z9n;rw [if_neg (by simp)]
 unfold zf8;rw [z29 s1,z29 s2,z1l s3];simp only [bS];rw [to32 _ (by rw [e2]; exact Nat.mod_lt _ (by decide)),e2]
theorem z12s (a:UInt32) (n:UInt64) (i:Nat) (hi:i<64):zcx a n (u32 (a.toNat ^ (n.toNat >>> (64 - i)) % gp),(i:Int))=some (.inr (u32 (a.toNat ^ (n.toNat >>> (64 - (i+1))) % gp),((i+1:Nat):Int))):=by
 have hlt:a.toNat ^ (n.toNat >>> (64 - i)) % gp<gp:=Nat.mod_lt _ (by decide);have hlt2:(a.toNat ^ (n.toNat >>> (64 - i)) % gp) * (a.toNat ^ (n.toNat >>> (64 - i)) % gp) % gp<gp:=Nat.mod_lt _ (by decide);have hw:w64 (63 - (i:Int))=((63 - i:Nat):Int):=by rw [z13 (by omega) (by omega)]; omega
 have key:=z10h (a:=a.toNat) (n:=n.toNat) (i:=63 - i) (p:=gp);rw [show 63 - i+1=64 - i by omega] at key;have hb:=z18q n (63 - i) (by omega);unfold zcx zj7;rw [if_pos (by simp; omega)];simp only [];rw [mul2,z8q hlt];simp only [bS];rw [hw,z4f (by omega),z0u (show i<9223372036854775807 by omega)];simp only [bS];rw [show 64 - (i+1)=63 - i by omega];have hs:n.toNat >>> (63 - i) % 2=(if n.toNat.testBit (63 - i) then 1 else 0):=by
  rw [Nat.testBit_eq_decide_div_mod_eq,← Nat.shiftRight_eq_div_pow];by_cases h:n.toNat >>> (63 - i) % 2=1
  ·simp [h]
  ·simp [h]; omega
 cases ht:n.toNat.testBit (63 - i) with
 | true =>
  rw [ht] at hs;rw [hs,if_pos rfl,Nat.pow_one] at key;rw [if_pos (by rw [Int.toNat_natCast,hb]; exact ht),mul2,z8q hlt2,key];simp only [bS]
 | false =>
  rw [ht] at hs;rw [hs,if_neg (by simp),Nat.pow_zero,Nat.mul_one,Nat.mod_mod] at key;rw [if_neg (by rw [Int.toNat_natCast,hb,ht]; simp),key]
theorem zz5 (a:UInt32) (n:UInt64):zfb a n=some (u32 (a.toNat ^ n.toNat % gp)):=by
 have h0:n.toNat >>> 64=0:=by
  rw [Nat.shiftRight_eq_div_pow]; exact Nat.div_eq_of_lt (UInt64.toNat_lt n)
 have:=z3m (F:=zcx a n) (b:=u32 (a.toNat ^ n.toNat % gp)) 64 (fun i=>(u32 (a.toNat ^ (n.toNat >>> (64 - i)) % gp),(i:Int))) (fun i hi=>z12s a n i hi) (by
  unfold zcx;rw [if_neg (by simp)]
  simp)
 simp only [Nat.sub_zero,h0,Nat.pow_zero] at this;unfold zfb;rw [show ((1:UInt32),(0:Int))=(u32 (1 % gp),((0:Nat):Int)) from rfl,this];simp only [bS]
theorem zxj:∀ (k:Nat) (a n o:UInt64),n.toNat=k→a.toNat<4294967296→o.toNat<gp→∃ r:UInt64,iter (z6j 1000000007) (a,n,o)=some r∧r.toNat=o.toNat * a.toNat ^ n.toNat % gp:=by
 intro k
 induction k using Nat.strongRecOn with
 | _ k ih =>
  intro a n o hk ha ho;have ho':o.toNat<1000000007:=ho;by_cases hn:n.toNat=0
  ·refine ⟨o,z1l ?_,?_⟩
   ·unfold z6j;rw [if_neg];simp only [decide_eq_true_eq,UInt64.lt_iff_toNat_lt]
    simp; omega
   ·rw [hn,Nat.pow_zero,Nat.mul_one,Nat.mod_eq_of_lt ho]
  ·have haa:(a * a % 1000000007).toNat=a.toNat * a.toNat % gp:=m64 a a (by
    have:a.toNat * a.toNat≤4294967295 * 4294967295:=Nat.mul_le_mul (by omega) (by omega)
    omega)
   have hoa:(o * a % 1000000007).toNat=o.toNat * a.toNat % gp:=m64 o a (by
    have:o.toNat * a.toNat≤1000000007 * 4294967295:=Nat.mul_le_mul (by omega) (by omega)
    omega)
   have hn2:(n / 2).toNat=n.toNat / 2:=by simp
   have hm2:((n % 2)==1)=decide (n.toNat % 2=1):=by
    rw [Bool.eq_iff_iff,beq_iff_eq,← UInt64.toNat_inj]
    simp
   have hlt:a.toNat * a.toNat % gp<1000000007:=Nat.mod_lt _ (by decide);have hol:o.toNat * a.toNat % gp<gp:=Nat.mod_lt _ (by decide);have hpow:∀ m:Nat,(a.toNat * a.toNat % gp) ^ m % gp=a.toNat ^ (2 * m) % gp:=fun m=>by
    rw [← Nat.pow_mod,← Nat.pow_two,← Nat.pow_mul]
   have hstep:z6j 1000000007 (a,n,o)=some (.inr (a * a % 1000000007,n / 2, if n.toNat % 2=1 then o * a % 1000000007 else o)):=by
    unfold z6j;rw [if_pos (by simp only [decide_eq_true_eq,UInt64.lt_iff_toNat_lt]; simp; omega)];simp only [];rw [hm2,z4f (by decide)];by_cases h:n.toNat % 2=1
    ·rw [if_pos (by simpa using h),if_pos h];simp only [bS]
    ·rw [if_neg (by simpa using h),if_neg h];simp only [bS]
   rw [z29 hstep];by_cases h:n.toNat % 2=1
   ·rw [if_pos h];obtain ⟨r,h1,h2⟩:=ih (n / 2).toNat (by rw [hn2]; omega) (a * a % 1000000007) (n / 2) (o * a % 1000000007) rfl (by rw [haa]; omega) (by rw [hoa]; exact hol);refine ⟨r,h1,?_⟩;rw [h2,haa,hoa,hn2,Nat.mul_mod,hpow,Nat.mod_mod,← Nat.mul_mod,Nat.mul_assoc, show a.toNat * a.toNat ^ (2 * (n.toNat / 2))=a.toNat ^ (2 * (n.toNat / 2)+1) by rw [Nat.pow_succ,Nat.mul_comm], show 2 * (n.toNat / 2)+1=n.toNat by omega]
   ·rw [if_neg h];obtain ⟨r,h1,h2⟩:=ih (n / 2).toNat (by rw [hn2]; omega) (a * a % 1000000007) (n / 2) o rfl (by rw [haa]; omega) ho;refine ⟨r,h1,?_⟩;rw [h2,haa,hn2,Nat.mul_mod,hpow,← Nat.mul_mod, show 2 * (n.toNat / 2)=n.toNat by omega]
theorem zw3 (a n:UInt64) (ha:a.toNat<4294967296):∃ r:UInt64,z8k a n 1000000007=some r∧r.toNat=a.toNat ^ n.toNat % gp:=by
 obtain ⟨r,h1,h2⟩:=zxj _ a n 1 rfl ha (by decide);refine ⟨r,?_, by rw [h2]; simp⟩
 unfold z8k;rw [h1];simp only [bS]
theorem znn (a:UInt32) (n:UInt64):z65 a n=some (u32 (a.toNat ^ n.toNat % gp)):=by
 obtain ⟨r,h1,h2⟩:=zw3 a.toUInt64 n (by simp; exact UInt32.toNat_lt a);unfold z65;rw [h1];simp only [bS];simp only [UInt32.toNat_toUInt64] at h2;rw [to32 _ (by rw [h2]; exact Nat.mod_lt _ (by decide)),h2]
theorem z16n (a:UInt32):(u32 (a.toNat ^ (500000003:UInt64).toNat % gp)==1)=decide (a.toNat ^ gq % gp=1):=by
 have hlt:a.toNat ^ gq % gp<gp:=Nat.mod_lt _ (by decide);rw [show (500000003:UInt64).toNat=gq from rfl,Bool.eq_iff_iff,beq_iff_eq,decide_eq_true_iff,← UInt32.toNat_inj,z8q hlt];rfl
theorem zyj (a:UInt32):zhi a=some (decide (inG a.toNat)):=by
 unfold zhi;have h1:decide (0<a)=decide (0<a.toNat):=by simp [UInt32.lt_iff_toNat_lt]
 have h2:decide (a<1000000007)=decide (a.toNat<gp):=by simp [UInt32.lt_iff_toNat_lt]
 rw [h1,h2,zz5];simp only [bS];rw [z16n];unfold inG;by_cases c1:0<a.toNat
 ·by_cases c2:a.toNat<gp
  ·simp [c1,c2]
  ·simp [c1,c2]
 ·simp [c1]
theorem zwh (a:UInt32):zbp a=some (decide (inG a.toNat)):=by
 obtain ⟨r,hr1,hr2⟩:=zw3 a.toUInt64 500000003 (by simp; exact UInt32.toNat_lt a);unfold zbp;have h1:decide (1≤a)=decide (0<a.toNat):=by
  rw [decide_eq_decide,UInt32.le_iff_toNat_le]; simp; omega
 have h2:decide (a<1000000007)=decide (a.toNat<gp):=by simp [UInt32.lt_iff_toNat_lt]
 rw [h1,h2,hr1];simp only [bS];have h3:(r==1)=decide (a.toNat ^ gq % gp=1):=by
  simp only [UInt32.toNat_toUInt64] at hr2;rw [Bool.eq_iff_iff,beq_iff_eq,decide_eq_true_iff,← UInt64.toNat_inj,hr2];rfl
 rw [h3];unfold inG;by_cases c1:0<a.toNat
 ·by_cases c2:a.toNat<gp
  ·simp [c1,c2]
  ·simp [c1,c2]
 ·simp [c1]
end
section
open Go
theorem z10s (l:List (List UInt8)) (h0:l.length≤20) (h:∀ b∈l,b.length≤10000):z24 l=some false:=by
 have:iter (z1i l) 0=some (.inr ()):=by
  refine z3m (F:=z1i l) (b:=.inr ()) l.length (fun i=>(i:Int)) (fun i hi=>?_) ?_
  ·have hb:=h l[i] (List.getElem_mem _);unfold z1i ze5;rw [if_pos (by simp; omega),z0p hi];simp only [bS];rw [if_neg (by simp; omega),z0u (show i<9223372036854775807 by omega)]
  ·unfold z1i;rw [if_neg (by simp)]
 unfold z24 z38;rw [this];simp only [zpn,bS];rfl
theorem zm0:∀ (l:List (List UInt8)),(∀ b∈l,b.length≤10000)→l.flatten.length≤l.length * 10000
 | [],_=>by simp
 | b::l,h=>by
  have h1:=h b (by simp);have h2:=zm0 l (fun c hc=>h c (by simp [hc]));simp only [List.flatten_cons,List.length_append,List.length_cons]; omega
theorem zt9 (l:List (List UInt8)) (h0:l.length≤20) (h:∀ b∈l,b.length≤10000):zbv l=some (sha l.flatten,0):=by
 have hl:iter (z8p l) (zxx [],0)=some (zxx l.flatten):=by
  have:=z3m (F:=z8p l) (b:=zxx l.flatten) l.length (fun i=>(zxx (l.take i).flatten,(i:Int))) (fun i hi=>?_) ?_
  ·simpa using this
  ·have hb:=h l[i] (List.getElem_mem _);have hf:=zm0 (l.take i) (fun b hb'=>h b (List.mem_of_mem_take hb'));simp only [List.length_take] at hf;unfold z8p;rw [if_pos (by simp; omega)];simp only [];rw [z0p hi];simp only [bS];rw [zra _ _ (by omega),z0u (show i<9223372036854775807 by omega)];simp only [bS];rw [List.take_add_one,List.getElem?_eq_getElem hi,List.flatten_append];rw [show ((some l[i]:Option (List UInt8)).toList).flatten=l[i] by simp]
  ·unfold z8p;rw [if_neg (by simp)]
   simp
 have hf:=zm0 l h;unfold zbv;rw [if_neg (by simp; omega),z10s l h0 h];simp only [bS];rw [if_neg (by simp),z132];simp only [bS];rw [hl];simp only [bS];rw [z189 _ (by omega)];simp only [bS]
theorem z170 (b:List UInt8) (h:b.length≤10000):zhr b=some (sha b,0):=by
 unfold zhr;rw [zt9 [b] (by simp) (by simpa using h)]
 simp
def four (x:UInt32):List UInt8:=[(z57 x 24).toUInt8,(z57 x 16).toUInt8,(z57 x 8).toUInt8,x.toUInt8]
theorem zzn (x:UInt32):z97 x=some (four x):=by
 unfold z97 four;have hx:=UInt32.toNat_lt x;have e1:(x / 16777216).toUInt8=(z57 x 24).toUInt8:=by
  apply UInt8.toNat_inj.1
  simp only [UInt32.toNat_toUInt8,zfz,UInt32.toNat_div]; rfl
 have e2:((x / 65536) % 256).toUInt8=(z57 x 16).toUInt8:=by
  apply UInt8.toNat_inj.1
  simp only [UInt32.toNat_toUInt8,zfz,UInt32.toNat_div,UInt32.toNat_mod];exact Nat.mod_mod _ _
 have e3:((x / 256) % 256).toUInt8=(z57 x 8).toUInt8:=by
  apply UInt8.toNat_inj.1
  simp only [UInt32.toNat_toUInt8,zfz,UInt32.toNat_div,UInt32.toNat_mod];exact Nat.mod_mod _ _
 have e4:(x % 256).toUInt8=x.toUInt8:=by
  apply UInt8.toNat_inj.1
  simp only [UInt32.toNat_toUInt8,UInt32.toNat_mod];exact Nat.mod_mod _ _
 rw [e1,e2,e3,e4]
def zw2 (d:V3):Nat→UInt64
 | 0=>0
 | i+1=>256 * zw2 d i+(d.toList.getD i 0).toUInt64
theorem zz0 (d:V3):∀ i,i≤8→(zw2 d i).toNat<256 ^ i
 | 0,_=>by simp [zw2]
 | i+1,h=>by
  have ih:=zz0 d i (by omega);have hy:=UInt8.toNat_lt (d.toList.getD i 0);have ep:256 ^ (i+1)=256 ^ i * 256:=Nat.pow_succ ..;have hp:256 ^ i≤256 ^ 7:=Nat.pow_le_pow_right (by omega) (by omega);have e7:(256:Nat) ^ 7=72057594037927936:=rfl;rw [zw2,UInt64.toNat_add,UInt64.toNat_mul,ep];have e1:((d.toList.getD i 0).toUInt64).toNat=(d.toList.getD i 0).toNat:=by simp
  have e2:(256:UInt64).toNat=256:=rfl;rw [e1,e2,Nat.mod_eq_of_lt (a:=256 * (zw2 d i).toNat) (by omega),Nat.mod_eq_of_lt (by omega)];omega
theorem z128 (x:UInt64) (y:UInt8) (h:x.toNat<72057594037927936):(zjc x 8) ||| y.toUInt64=256 * x+y.toUInt64:=by
 apply UInt64.toNat_inj.1
 have hy:=UInt8.toNat_lt y;rw [UInt64.toNat_or,zix,UInt64.toNat_add,UInt64.toNat_mul];have e1:(y.toUInt64).toNat=y.toNat:=by simp
 have e2:(256:UInt64).toNat=256:=rfl;rw [e1,e2, show (2:Nat) ^ (min 8 64)=256 from rfl,Nat.mod_eq_of_lt (a:=x.toNat * 256) (by omega),Nat.mod_eq_of_lt (a:=256 * x.toNat) (by omega),Nat.mod_eq_of_lt (by omega)]
 have:=Nat.shiftLeft_add_eq_or_of_lt (i:=8) (b:=y.toNat) (by simpa using hy) x.toNat
 rw [Nat.shiftLeft_eq, show (2:Nat) ^ 8=256 from rfl] at this;rw [← this]; omega
theorem z12m (d:V3) (e:Int):iter (zct (d,e)) (0,0)=some (zw2 d 8):=by
 refine z3m (F:=zct (d,e)) (b:=zw2 d 8) 8 (fun i=>(zw2 d i,(i:Int))) (fun i hi=>?_) ?_
 ·have hl:((d.toList.drop 0).take 8).length=8:=by simp
  have hlt:=zz0 d i (by omega);have hp:256 ^ i≤256 ^ 7:=Nat.pow_le_pow_right (by omega) (by omega);have e7:(256:Nat) ^ 7=72057594037927936:=rfl;unfold zct;simp only [hl];rw [if_pos (by simp; omega),zhc 0 (by rw [hl]; exact hi)];simp only [bS];rw [List.drop_zero,zrm hi,z128 _ _ (by omega),z0u (show i<9223372036854775807 by omega)];rfl
 ·have hl:((d.toList.drop 0).take 8).length=8:=by simp
  unfold zct;simp only [hl];rw [if_neg (by simp)]
theorem z15o (b:List UInt8) (h:b.length≤300000):za0 b=some (zw2 (sha b) 8):=by
 have:iter (z5s (sha b)) (0,0)=some (zw2 (sha b) 8):=by
  refine z3m (F:=z5s (sha b)) (b:=zw2 (sha b) 8) 8 (fun i=>(zw2 (sha b) i,(i:Int))) (fun i hi=>?_) ?_
  ·unfold z5s;rw [if_pos (by simp; omega)];simp only [z11m];rw [zhc 0 (by simp; omega),z0u (show i<9223372036854775807 by omega)];simp only [bS];rfl
  ·unfold z5s;rw [if_neg (by simp)]
 unfold za0;rw [z16m b h];simp only [bS];rw [this];simp only [bS]
def chal (r y:UInt32) (m:List UInt8):UInt32:=(zw2 (sha ((([99]++four r)++four y)++m)) 8 % 500000003).toUInt32
theorem z155 (m:List UInt8) (r y:UInt32) (h:m.length≤9991):zka 99 m [r,y]=some (zw2 (sha ((([99]++four r)++four y)++m)) 8,0):=by
 have l1:iter (z84 [r,y]) ([99],0)=some (([99]++four r)++four y):=by
  have s1:z84 [r,y] ([99],0)=some (.inr ([99]++four r,1)):=by
   unfold z84;rw [if_pos (by simp)];simp only [];rw [show idx [r,y] 0=some r from rfl,z13 (x:=(0:Int)+1) (by omega) (by omega)];simp only [bS];rw [z1m (by simp)];rfl
  have s2:z84 [r,y] ([99]++four r,1)=some (.inr (([99]++four r)++four y,2)):=by
   unfold z84;rw [if_pos (by simp)];simp only [];rw [show idx [r,y] 1=some y from rfl,z13 (x:=(1:Int)+1) (by omega) (by omega)];simp only [bS];rw [z1m (by simp [four])];rfl
  have s3:z84 [r,y] (([99]++four r)++four y,2)=some (.inl (([99]++four r)++four y)):=by
   unfold z84;rw [if_neg (by simp)]
  rw [z29 s1,z29 s2,z1l s3]
 unfold zka;rw [if_neg (by simp; omega),l1];simp only [bS]
 rw [zt9 _ (by simp) (by
  intro b hb;simp only [List.mem_cons,List.not_mem_nil,or_false] at hb;rcases hb with rfl | rfl
  ·simp [four]
  ·omega)]
 simp only [bS];rw [z12m, show [([99]++four r)++four y,m].flatten=(([99]++four r)++four y)++m by simp only [List.flatten_cons,List.flatten_nil,List.append_nil]];rfl
theorem zs3 (r y:UInt32) (m:List UInt8) (h:m.length≤9991):zco r y m=some (chal r y m,0):=by
 unfold zco;rw [z155 m r y h];simp only [bS];rw [if_neg (by simp)];rfl
theorem zn2 (r y:UInt32) (m:List UInt8) (h:m.length≤9991):z7n r y m=some (chal r y m):=by
 unfold z7n;rw [zzn];simp only [bS];rw [z1m (by simp [four]),zzn];simp only [bS];rw [z1m (by simp [four])];simp only [bS];rw [z1m (by simp [four]; omega)];simp only [bS];rw [z15o _ (by simp [four]; omega)];simp only [bS];rfl
def zdl (x:UInt32):Bool:=decide (x.toNat<gq)
theorem zfn (x:UInt32):z3z x=some (zdl x):=by
 have e:decide (x.toUInt64<500000003)=zdl x:=by unfold zdl; simp [UInt64.lt_iff_toNat_lt]
 unfold z3z;rw [e];rfl
def sigR (y:UInt32) (s:z0b):UInt32:=u32 ((4 ^ s.S.toNat % gp) * (y.toNat ^ (gq - s.E.toNat) % gp) % gp)
def zte (y:UInt32) (m:List UInt8) (s:z0b):Bool:=zdl s.E&&(zdl s.S&&(chal (sigR y s) y m==s.E))
theorem z12a (y:UInt32) (m:List UInt8) (s:z0b) (hy:inG y.toNat) (h:m.length≤9991):zaq y m s=some (zte y m s):=by
 unfold zaq zte;rw [zfn];simp only [bS]
 cases hE:zdl s.E with
 | false=>rw [if_pos (by simp)]; rfl
 | true =>
  rw [if_neg (by simp),zfn];simp only [bS]
  cases hS:zdl s.S with
  | false=>rw [if_pos (by simp)]; rfl
  | true =>
   have hE':s.E.toNat<gq:=by simpa [zdl] using hE
   have hin:=ztz hy.2.2 s.E.toNat;have hlt:y.toNat ^ s.E.toNat % gp<gp:=Nat.mod_lt _ (by decide);rw [if_neg (by simp),znn];simp only [bS];unfold zf2 zf1 zdz;rw [zwh,z8q (by simpa using hlt)];simp only [bS];have hE64:s.E.toUInt64.toNat=s.E.toNat:=by simp
   rw [hE64,decide_eq_true hin,if_neg (by simp),znn,z8q hlt,znn];simp only [bS];rw [show (500000002:UInt64).toNat=gq - 1 from rfl,z160 hy.2.2 hE'];unfold zbw;simp only [bS];have hS64:s.S.toUInt64.toNat=s.S.toNat:=by simp
   have hl1:4 ^ s.S.toNat % gp<gp:=Nat.mod_lt _ (by decide);have hl2:y.toNat ^ (gq - s.E.toNat) % gp<gp:=Nat.mod_lt _ (by decide);have hprod:((u32 ((4:UInt32).toNat ^ s.S.toUInt64.toNat % gp)).toUInt64 * (u32 (y.toNat ^ (gq - s.E.toNat) % gp)).toUInt64 % 1000000007).toUInt32=sigR y s:=by
    have hb:(4 ^ s.S.toNat % gp) * (y.toNat ^ (gq - s.E.toNat) % gp)≤1000000007 * 1000000007:=Nat.mul_le_mul (Nat.le_of_lt hl1) (Nat.le_of_lt hl2);have e1:=m64 (u32 ((4:UInt32).toNat ^ s.S.toUInt64.toNat % gp)).toUInt64 (u32 (y.toNat ^ (gq - s.E.toNat) % gp)).toUInt64;simp only [UInt32.toNat_toUInt64] at e1;rw [show (4:UInt32).toNat=4 from rfl,z8q hl1,z8q hl2] at e1;have e1:=e1 (by omega);rw [show (4:UInt32).toNat=4 from rfl,hS64,to32 _ (by rw [e1]; exact Nat.mod_lt _ (by decide)),e1]
    rfl
   rw [hprod,zn2 _ _ _ h];simp only [bS];rfl
theorem all1 (a:UInt32) (h:inG a.toNat):ze9 [a]=some true:=by
 unfold ze9;have s1:z5e [a] 0=some (.inr 1):=by
  unfold z5e;rw [if_pos (by simp), show idx [a] 0=some a from rfl];simp only [bS];rw [zyj,decide_eq_true h,z13 (x:=(0:Int)+1) (by omega) (by omega)];rfl
 have s2:z5e [a] 1=some (.inl (.inr ())):=by
  unfold z5e;rw [if_neg (by simp)]
 rw [z29 s1,z1l s2];rfl
theorem all2 (a b:UInt32) (h:inG a.toNat) (h2:inG b.toNat):ze9 [a,b]=some true:=by
 unfold ze9;have s1:z5e [a,b] 0=some (.inr 1):=by
  unfold z5e;rw [if_pos (by simp), show idx [a,b] 0=some a from rfl];simp only [bS];rw [zyj,decide_eq_true h,z13 (x:=(0:Int)+1) (by omega) (by omega)];rfl
 have s2:z5e [a,b] 1=some (.inr 2):=by
  unfold z5e;rw [if_pos (by simp), show idx [a,b] 1=some b from rfl];simp only [bS];rw [zyj,decide_eq_true h2,z13 (x:=(1:Int)+1) (by omega) (by omega)];rfl
 have s3:z5e [a,b] 2=some (.inl (.inr ())):=by
  unfold z5e;rw [if_neg (by simp)]
 rw [z29 s1,z29 s2,z1l s3];rfl
theorem z10i (y:UInt32) (m:List UInt8) (s:z0b) (hy:inG y.toNat) (h:m.length≤9991):zfl y m s=some (if zte y m s then 0 else 22):=by
 have hmax:decide (500000003≤max s.E s.S)=!(zdl s.E&&zdl s.S):=by
  have e1:(500000003≤max s.E s.S)↔(500000003≤s.E∨500000003≤s.S):=by
   rw [show max s.E s.S=if s.E≤s.S then s.S else s.E from rfl]
   split
   ·rename_i hh
    constructor
    ·exact fun h=>.inr h
    ·rintro (h | h)
     ·exact UInt32.le_trans h hh
     ·exact h
   ·rename_i hh
    constructor
    ·exact fun h=>.inl h
    ·rintro (h | h)
     ·exact h
     ·rw [UInt32.le_iff_toNat_le] at *; omega
  rw [Bool.eq_iff_iff,decide_eq_true_iff,e1];unfold zdl;simp only [UInt32.le_iff_toNat_le,Bool.not_eq_true',Bool.and_eq_false_iff,decide_eq_false_iff_not,Nat.not_lt];rfl
 unfold zfl;rw [zyj,decide_eq_true hy];simp only [bS];rw [if_neg (by simp),if_neg (by simp; omega),hmax]
 cases hE:zdl s.E with
 | false=>unfold zte; rw [hE]; rfl
 | true =>
  cases hS:zdl s.S with
  | false=>unfold zte; rw [hE,hS]; rfl
  | true =>
   have hE':s.E.toNat<gq:=by simpa [zdl] using hE
   have hE':s.E.toNat<500000003:=hE';rw [if_neg (by simp)];unfold zn0 zkr zmm;rw [all1 y hy];simp only [bS];rw [if_neg (by simp),zz5];simp only [bS];rw [zz5];simp only [bS];have hS64:s.S.toUInt64.toNat=s.S.toNat:=by simp
   have hq:(500000003 - s.E.toUInt64).toNat=gq - s.E.toNat:=by
    rw [UInt64.toNat_sub_of_le _ _ (by rw [UInt64.le_iff_toNat_le]; simp; omega)]
    simp
   have hl1:4 ^ s.S.toNat % gp<gp:=Nat.mod_lt _ (by decide);have hl2:y.toNat ^ (gq - s.E.toNat) % gp<gp:=Nat.mod_lt _ (by decide);rw [hq,hS64, show (4:UInt32).toNat=4 from rfl];rw [all2 _ _ (by rw [z8q hl1]; exact ztz z183 _) (by rw [z8q hl2]; exact ztz hy.2.2 _)];simp only [bS];rw [if_neg (by simp),mul2,z8q hl1,z8q hl2];simp only [bS];rw [zs3 _ _ _ h];simp only [bS];rw [if_neg (by simp)];unfold zte
   rw [hE,hS];show (if (chal (sigR y s) y m != s.E)=true then some 22 else some 0)=_;by_cases hc:chal (sigR y s) y m=s.E
   ·simp [hc]
   ·simp [hc]
end
section
open Go
def okc (c:UInt8):Bool:=decide (33≤c.toNat)&&decide (c.toNat≤126)
theorem z163 (x:Int):zm5 x=some (decide (x<33) || decide (126<x)):=by
 unfold zm5
 cases decide (x<33) <;> rfl
theorem zv7 (b:List UInt8):∀ (rest pre:List UInt8),b=pre++rest →
  (rest.all okc=true→iter (z2g b true) pre.length=some (.inr ()))∧(rest.all okc=false→∃ i:Nat,iter (z2g b true) pre.length=some (.inl (i:Int)))
 | [],pre,e=>by
  refine ⟨fun _=>z1l ?_, fun h=>by simp at h⟩;subst e;unfold z2g
  simp
 | c::rest,pre,e=>by
  have hlen:pre.length<b.length:=by rw [e]; simp
  have hget:b[pre.length]'hlen=c:=by subst e; simp
  have hF:z2g b true pre.length=if ((decide (((za7 b pre.length).1:Int)<33) || decide (126<((za7 b pre.length).1:Int)))==true) then some (.inl (.inl (pre.length:Int))) else some (.inr (pre.length+(za7 b pre.length).2)):=by
   unfold z2g;rw [if_pos hlen];simp only [bs,z163]
  cases hc:okc c with
  | false =>
   refine ⟨fun h=>by simp [hc] at h, fun _=>⟨pre.length,z1l ?_⟩⟩;rw [hF,if_pos];by_cases h8:c.toNat<128
   ·rw [zpz hlen (by rw [hget]; exact h8),hget];simp only [okc,Bool.and_eq_false_iff,decide_eq_false_iff_not] at hc
    simp; omega
   ·have:=z111 hlen (by rw [hget]; omega)
    simp; omega
  | true =>
   simp only [okc,Bool.and_eq_true,decide_eq_true_eq] at hc;rw [zpz hlen (by rw [hget]; omega),hget,if_neg (by simp; omega)] at hF;have ih:=zv7 b rest (pre++[c]) (by simp [e]);simp only [List.length_append,List.length_cons,List.length_nil,Nat.zero_add] at ih;rw [z29 hF];have hc':okc c=true:=by simp [okc,hc]
   simpa [hc'] using ih
theorem zzc (b:List UInt8) (hb:b.length≤9223372036854775807):∀ (rest pre:List UInt8),b=pre++rest→iter (z75 b) (pre.length:Int)=some (if rest.all okc then .inr () else .inl false)
 | [],pre,e=>by
  refine z1l ?_;subst e;unfold z75
  simp
 | c::rest,pre,e=>by
  have hlen:pre.length<b.length:=by rw [e]; simp
  have hget:b[pre.length]'hlen=c:=by subst e; simp
  have hF:z75 b (pre.length:Int)=if okc c then some (.inr ((pre.length+1:Nat):Int)) else some (.inl (.inl false)):=by
   unfold z75;rw [if_pos (by simp <;> omega)]
   simp only [z0p hlen,hget,bs,z0u (show pre.length<9223372036854775807 by omega)];simp only [okc,UInt8.lt_iff_toNat_lt,UInt8.reduceToNat];by_cases h1:c.toNat<33
   ·have:¬ 33≤c.toNat:=by omega
    simp [h1,this]
   ·by_cases h2:126<c.toNat
    ·have:¬ c.toNat≤126:=by omega
     simp [h1,h2,this]
    ·have h3:33≤c.toNat:=by omega
     have h4:c.toNat≤126:=by omega
     simp [h1,h2,h3,h4]
  cases hc:okc c with
  | false=>rw [hc] at hF; rw [z1l hF]; simp [hc]
  | true =>
   rw [hc] at hF;rw [z29 hF];have ih:=zzc b hb rest (pre++[c]) (by simp [e]);simp only [List.length_append,List.length_cons,List.length_nil,Nat.zero_add] at ih;rw [ih]; simp [hc]
def zgk (k:List UInt8):Bool:=decide (1≤k.length)&&(decide (k.length≤20)&&k.all okc)
theorem z168 (k:List UInt8):z9g k=some (zgk k):=by
 unfold z9g zgk;by_cases h1:1≤k.length
 ·by_cases h2:k.length≤20
  ·have h:=zzc k (by omega) k [] rfl;rw [if_neg (by simp; omega),if_neg (by simp; omega), show (0:Int)=(([]:List UInt8).length:Int) from rfl,h,decide_eq_true h1,decide_eq_true h2]
   cases k.all okc <;> rfl
  ·rw [if_neg (by simp; omega),if_pos (by simp; omega),decide_eq_false h2]; simp
 ·rw [if_pos (by simp; omega),decide_eq_false h1]; rfl
theorem z17b (k:List UInt8):zru k=some (zgk k):=by
 unfold zru zgk z6q z6p;by_cases h1:1≤k.length
 ·by_cases h2:k.length≤20
  ·obtain ⟨e1,e2⟩:=zv7 k k [] rfl;simp only [List.length_nil] at e1 e2;rw [if_pos (by simp; omega),if_pos (by simp; omega),decide_eq_true h1,decide_eq_true h2]
   cases h:k.all okc
   ·obtain ⟨i,hi⟩:=e2 h;rw [hi];simp only [or_l,bS];rw [decide_eq_false (by omega)]; rfl
   ·rw [e1 h]; rfl
  ·rw [if_pos (by simp; omega),if_neg (by simp; omega),decide_eq_false h2]; simp
 ·rw [if_neg (by simp; omega),decide_eq_false h1]; rfl
def v0:z01:=⟨0,0,0,[]⟩
def zl1 (a:z0a):Bool :=
 if a.Kind=1 then decide (a.Key=[])&&decide (a.Value=v0)
 else if a.Kind=2∨a.Kind=3 then zgk a.Key&&decide (a.Value=v0)
 else if a.Kind=4 then zgk a.Key&&okV a.Value
 else false
theorem z18e (a:z0a) (h:a.Value.Text.length≤9223372036854775807):zfj a=some (if zl1 a then 0 else 8):=by
 obtain ⟨K,key,v⟩:=a;unfold zfj zl1;simp only at h ⊢;rw [z17b,zn8 v h];by_cases h1:K=1
 ·subst h1;by_cases hk:key=[] <;> by_cases hv:v=⟨0,0,0,[]⟩ <;> simp [hk,hv,v0]
 by_cases h2:K=2∨K=3
 ·have e:(if K==2 then some true else some (K==3))=some true:=by
   rcases h2 with rfl | rfl <;> rfl
  rw [if_neg (by simpa using h1),e,if_neg h1,if_pos h2];simp only [bS];rw [if_pos trivial]
  cases zgk key with
  | false=>rfl
  | true =>
   by_cases hv:v=⟨0,0,0,[]⟩
   ·subst hv; rfl
   ·have hv':¬ v=v0:=hv;simp only [bS,if_true,decide_eq_false hv,decide_eq_false hv']; rfl
 ·have e:(if K==2 then some true else some (K==3))=some false:=by
   have e2:(K==2)=false:=by simp; exact fun h=>h2 (.inl h)
   have e3:(K==3)=false:=by simp; exact fun h=>h2 (.inr h)
   rw [e2,e3]; rfl
  rw [if_neg (by simpa using h1),e,if_neg h1,if_neg h2];simp only [bS];rw [if_neg (by simp)];by_cases h4:K=4
  ·subst h4;rw [if_pos (by decide),if_pos rfl]
   cases zgk key with
   | false=>rfl
   | true=>cases okV v <;> rfl
  ·rw [if_neg (by simpa using h4),if_neg h4]; rfl
theorem zzq (a:z0a) (h:a.Value.Text.length≤9223372036854775807):z8b a=some (if zl1 a then 0 else 8):=by
 obtain ⟨K,key,v⟩:=a;unfold z8b zl1;simp only at h ⊢;rw [z168,zth v h];simp only [bS];by_cases h1:K=1
 ·subst h1;by_cases hk:key=[] <;> by_cases hv:v=⟨0,0,0,[]⟩ <;> simp [hk,hv,v0]
 by_cases h2:K=2∨K=3
 ·have e:(if K==2 then some true else some (K==3))=some true:=by
   rcases h2 with rfl | rfl <;> rfl
  rw [if_neg (by simpa using h1),e,if_neg h1,if_pos h2];simp only [bS];rw [if_pos trivial]
  cases zgk key with
  | false=>rfl
  | true =>
   by_cases hv:v=⟨0,0,0,[]⟩
   ·subst hv; rfl
   ·have hv':¬ v=v0:=hv;simp only [bS,if_true,decide_eq_false hv,decide_eq_false hv']; rfl
 ·have e:(if K==2 then some true else some (K==3))=some false:=by
   have e2:(K==2)=false:=by simp; exact fun h=>h2 (.inl h)
   have e3:(K==3)=false:=by simp; exact fun h=>h2 (.inr h)
   rw [e2,e3]; rfl
  rw [if_neg (by simpa using h1),e,if_neg h1,if_neg h2];simp only [bS];rw [if_neg (by simp)];by_cases h4:K=4
  ·subst h4;rw [if_pos (by decide),if_pos rfl]
   cases zgk key with
   | false=>rfl
   | true=>cases okV v <;> rfl
  ·rw [if_neg (by simpa using h4),if_neg h4]; rfl
theorem zrc (l:List V3) (h:l.length≤100):z35 l=some l:=by
 unfold z35;rw [z1m (by simp; omega)]; rfl
def zeo (a:z03):Bool:=decide (inG a.Author.toNat)&&(!decide (1000000000000<a.Stamp)&&(zl1 a.Act&&(zdl a.Sig.E&&zdl a.Sig.S)))
def z1h (a:z03):Int:=if 4<a.Preds.length then 4 else if zbc a.Preds=false then 32 else if zeo a then 0 else 8
theorem z133 (x y:UInt32):decide (500000003≤max x y)=!(zdl x&&zdl y):=by
 have e1:(500000003≤max x y)↔(500000003≤x∨500000003≤y):=by
  rw [show max x y=if x≤y then y else x from rfl]
  split
  ·rename_i hh
   constructor
   ·exact fun h=>.inr h
   ·rintro (h | h)
    ·exact UInt32.le_trans h hh
    ·exact h
  ·rename_i hh
   constructor
   ·exact fun h=>.inl h
   ·rintro (h | h)
    ·exact h
    ·rw [UInt32.le_iff_toNat_le] at *; omega
 rw [Bool.eq_iff_iff,decide_eq_true_iff,e1];unfold zdl;simp only [UInt32.le_iff_toNat_le,Bool.not_eq_true',Bool.and_eq_false_iff,decide_eq_false_iff_not,Nat.not_lt];rfl
theorem zug (l:List V3) (h:l.length≤4):(z1j l >>= fun r5=>if !r5 then some true else z35 l >>= fun r8=>z3h r8 >>= fun r10=>some ((r10.length:Int) != (l.length:Int)) >>= fun y12=>some y12)=some (!zbc l):=by
 obtain ⟨b,e1,e2⟩:=zzj l (by omega);obtain ⟨c,e3,e4⟩:=zxd l (by omega);have e5:=z13j l;rw [e1];simp only [bS]
 cases b with
 | false =>
  have:zbc l=false:=by
   rw [← Bool.not_eq_true,e5]; intro h; have:=e2.2 h.1; simp at this
  rw [this]; rfl
 | true =>
  rw [if_neg (by simp),zrc l (by omega)];simp only [bS];rw [e3];simp only [bS];by_cases hc:c.length=l.length
  ·rw [e5.2 ⟨e2.1 rfl,e4.1 hc⟩,hc]; simp
  ·have:zbc l=false:=by
    rw [← Bool.not_eq_true,e5]; intro h; exact hc (e4.2 h.2)
   rw [this]; simp; omega
theorem zff (a:z03) (h:a.Act.Value.Text.length≤9223372036854775807):zeq a=some (z1h a):=by
 unfold zeq z1h;simp only [bS];by_cases h4:4<a.Preds.length
 ·rw [if_pos (by simp; omega),if_pos h4]
 ·rw [if_neg (by simp; omega),if_neg h4]
  have:=zug a.Preds (by omega)
  simp only [bS] at this;rw [this];simp only [bS]
  cases hi:zbc a.Preds with
  | false=>rfl
  | true =>
   rw [if_neg (by simp),zyj,z18e _ h,z133];simp only [bS];unfold zeo
   cases decide (inG a.Author.toNat) with
   | false=>rfl
   | true =>
    cases decide (1000000000000<a.Stamp) with
    | true=>rfl
    | false=>cases zl1 a.Act <;> cases zdl a.Sig.E <;> cases zdl a.Sig.S <;> rfl
theorem zfs (a:z03) (h:a.Act.Value.Text.length≤9223372036854775807):z4p a=some (z1h a):=by
 unfold z4p z1h;by_cases h4:4<a.Preds.length
 ·rw [if_pos (by simp; omega),if_pos h4]
 ·rw [if_neg (by simp; omega),if_neg h4,znv _ (by omega)];simp only [bS]
  cases hi:zbc a.Preds with
  | false=>rfl
  | true =>
   rw [if_neg (by simp),zwh,zzq _ h,zfn,zfn];simp only [bS];unfold zeo
   cases decide (inG a.Author.toNat) with
   | false=>rfl
   | true =>
    cases decide (1000000000000<a.Stamp) with
    | true=>rfl
    | false=>cases zl1 a.Act <;> cases zdl a.Sig.E <;> cases zdl a.Sig.S <;> rfl
theorem z33 {a:z03} (h:z1h a=0):a.Preds.length≤4∧zbc a.Preds=true∧zeo a=true:=by
 unfold z1h at h;by_cases h4:4<a.Preds.length
 ·rw [if_pos h4] at h; omega
 ·rw [if_neg h4] at h
  cases hi:zbc a.Preds with
  | false=>rw [hi] at h; simp at h
  | true =>
   rw [hi] at h
   cases hr:zeo a with
   | false=>rw [hr] at h; simp at h
   | true=>exact ⟨by omega,rfl,rfl⟩
theorem zpo {k:List UInt8} (h:zgk k=true):k.length≤20:=by
 unfold zgk at h;simp only [Bool.and_eq_true,decide_eq_true_eq] at h;exact h.2.1
theorem zce {a:z0a} (h:zl1 a=true):(a.Kind=1∧a.Key=[])∨((a.Kind=2∨a.Kind=3)∧a.Key.length≤20)∨(a.Kind=4∧a.Key.length≤20∧okV a.Value=true):=by
 unfold zl1 at h;by_cases h1:a.Kind=1
 ·rw [if_pos h1] at h; simp only [Bool.and_eq_true,decide_eq_true_eq] at h; exact .inl ⟨h1,h.1⟩
 ·rw [if_neg h1] at h;by_cases h2:a.Kind=2∨a.Kind=3
  ·rw [if_pos h2] at h; simp only [Bool.and_eq_true,decide_eq_true_eq] at h; exact .inr (.inl ⟨h2,zpo h.1⟩)
  ·rw [if_neg h2] at h;by_cases h4:a.Kind=4
   ·rw [if_pos h4] at h; simp only [Bool.and_eq_true] at h; exact .inr (.inr ⟨h4,zpo h.1,h.2⟩)
   ·rw [if_neg h4] at h; simp at h
end
section
open Go
theorem zrf {α:Type} (l:List (List α)) (i:Nat) (h:i<l.length):(l.take (i+1)).flatten=(l.take i).flatten++l[i]:=by
 rw [List.take_add_one,List.getElem?_eq_getElem h,List.flatten_append]
 simp
theorem zta (l:List (List UInt8)) (h0:l.length≤20) (h:∀ b∈l,b.length≤10000):z2k l=some l.flatten:=by
 have hb:∀ i,(l.take i).flatten.length≤200000:=fun i=>by
  have:=zm0 (l.take i) (fun b hb'=>h b (List.mem_of_mem_take hb'))
  simp only [List.length_take] at this; omega
 have e1:iter (z1c l) (0,0)=some (l.flatten.length:Int):=by
  have:=z3m (F:=z1c l) (b:=(l.flatten.length:Int)) l.length (fun i=>(((l.take i).flatten.length:Int),(i:Int))) (fun i hi=>?_) ?_
  ·simpa using this
  ·have h1:=hb (i+1);have e:=congrArg List.length (zrf l i hi);rw [List.length_append] at e;unfold z1c;rw [if_pos (by simp; omega)];simp only [];rw [z0p hi];simp only [bS];rw [z13 (x:=((l.take i).flatten.length:Int)+(l[i].length:Int)) (by omega) (by omega),if_neg (by simp; omega),z0u (show i<9223372036854775807 by omega),e]
   simp
  ·unfold z1c;rw [if_neg (by simp)]
   simp
 have e2:z41 (l.flatten.length:Int)=some []:=by
  have h1:=hb l.length;rw [List.take_length] at h1;unfold z41;rw [if_neg (by simp)];simp only [bS];generalize l.flatten.length=n at h1 ⊢;rw [show (0:Int) - (([]:List UInt8).length:Int)=0 from rfl,z13 (x:=0) (by omega) (by omega), show (n:Int) - 0=(n:Int) by omega,z13 (by omega) (by omega)];by_cases h2:0<n
  ·rw [if_pos (by simpa using h2),zlp (by omega) (by omega)];simp only [bS];rw [show (0:Int)=((0:Nat):Int) from rfl, show ((([]:List UInt8).length:Nat):Int)=((0:Nat):Int) from rfl,z5i (by omega) (by simp)]
   simp
  ·rw [if_neg (by simpa using h2)]
 have e3:iter (z1b l) ([],0)=some l.flatten:=by
  have:=z3m (F:=z1b l) (b:=l.flatten) l.length (fun i=>((l.take i).flatten,(i:Int))) (fun i hi=>?_) ?_
  ·simpa using this
  ·have h1:=hb (i+1);have e:=zrf l i hi;rw [e,List.length_append] at h1;unfold z1b;rw [if_pos (by simp; omega)];simp only [];rw [z0p hi];simp only [bS];rw [z1m (by omega),z0u (show i<9223372036854775807 by omega),e];simp only [bS]
  ·unfold z1b;rw [if_neg (by simp)]
   simp
 unfold z2k;rw [e1];simp only [bS];rw [e2];simp only [bS];rw [e3];simp only [bS]
def head (a:z03):List UInt8:=[111]++(z0g a.Author.toNat++((z0g a.Preds.length++zhu a.Preds)++(z0g a.Stamp.toNat++[a.Act.Kind])))
def zxv (a:z0a):List UInt8:=z0g a.Key.length++a.Key
def msg (a:z03):List UInt8 :=
 if a.Act.Kind=1 then head a else if a.Act.Kind=4 then (head a++zxv a.Act)++ztk a.Act.Value else head a++zxv a.Act
def z8n (a:z03):List UInt8:=msg a++(z0g a.Sig.E.toNat++z0g a.Sig.S.toNat)
theorem zqk {v:z01} (h:okV v=true) (hI:inI v.Num):(ztk v).length≤100:=by
 unfold ztk;rcases zhk h with k | k | k
 ·have:=z0n (zig v.Num) (zwq hI)
  rw [if_pos k]; simp; omega
 ·rw [k,if_neg (by decide),if_pos rfl]; simp [be8]
 ·have h3:=(okV3 h k).2.2.1
  have:=z0n v.Text.length (by omega)
  rw [k,if_neg (by decide),if_neg (by decide)]; simp; omega
theorem zqc {a:z03} (h:z1h a=0):(head a).length≤160:=by
 obtain ⟨h1,h2,h3⟩:=z33 h;have l1:=z0n a.Author.toNat (by have:=UInt32.toNat_lt a.Author; omega);have l2:=z0n a.Preds.length (by omega);have l3:=z0n a.Stamp.toNat (UInt64.toNat_lt _);have l4:=zho a.Preds;unfold head;simp only [List.length_append,List.length_cons,List.length_nil]; omega
theorem zq7 {a:z0a} (h:zl1 a=true):(zxv a).length≤30:=by
 have hk:a.Key.length≤20:=by
  rcases zce h with ⟨_,h⟩ | ⟨_,h⟩ | ⟨_,h,_⟩
  ·simp [h]
  ·exact h
  ·exact h
 have:=z0n a.Key.length (by omega)
 unfold zxv; simp only [List.length_append]; omega
theorem zhg {a:z03} (h:zeo a=true):zl1 a.Act=true:=by
 unfold zeo at h;simp only [Bool.and_eq_true] at h;exact h.2.2.1
theorem zmn {a:z03} (h:zeo a=true):inG a.Author.toNat:=by
 unfold zeo at h;simp only [Bool.and_eq_true,decide_eq_true_eq] at h;exact h.1
theorem zkt {a:z03} (h:z1h a=0) (hI:inI a.Act.Value.Num):(msg a).length≤300:=by
 have h1:=zqc h;have ha:=zhg (z33 h).2.2;have h2:=zq7 ha;unfold msg
 split
 ·omega
 ·split
  ·rename_i h4
   have:okV a.Act.Value=true:=by
    rcases zce ha with ⟨k,_⟩ | ⟨k,_⟩ | ⟨_,_,k⟩
    ·rw [h4] at k; simp at k
    ·rw [h4] at k; simp at k
    ·exact k
   have h3:=zqk this hI;simp only [List.length_append]; omega
  ·simp only [List.length_append]; omega
theorem zgu {a:z03} (h:z1h a=0) (hI:inI a.Act.Value.Num):(z8n a).length≤400:=by
 have h1:=zkt h hI;have l1:=z0n a.Sig.E.toNat (by have:=UInt32.toNat_lt a.Sig.E; omega);have l2:=z0n a.Sig.S.toNat (by have:=UInt32.toNat_lt a.Sig.S; omega);unfold z8n;simp only [List.length_append]; omega
def bare (a:z03):z03:={ a with Sig:=(⟨0,0⟩:z0b) }
theorem zzb {a:z03} (h:z1h a=0):z1h (bare a)=0:=by
 obtain ⟨h1,h2,h3⟩:=z33 h;unfold zeo at h3;simp only [Bool.and_eq_true] at h3;obtain ⟨g1,g2,g3,g4,g5⟩:=h3;unfold z1h bare;rw [if_neg (by simp; omega),h2,if_neg (by simp),if_pos];unfold zeo;rw [g1,g2,g3]; rfl
theorem zos (a:z03) (h:z1h a=0) (hI:inI a.Act.Value.Num) (ht:a.Act.Value.Text.length≤9223372036854775807):zfa a=some (msg a,0):=by
 obtain ⟨h1,h2,h3⟩:=z33 h;have ha:=zhg h3;have l1:=z0n a.Author.toNat (by have:=UInt32.toNat_lt a.Author; omega);have l2:=z0n a.Preds.length (by omega);have l3:=z0n a.Stamp.toNat (UInt64.toNat_lt _);have l4:=zho a.Preds;have hl:=zqc h;have e1:zeq { a with Sig:=(⟨0,0⟩:z0b) }=some 0:=by
  have:=zff (bare a) ht
  rw [zzb h] at this;exact this
 unfold zfa;rw [e1];simp only [bS];rw [if_neg (by simp),z14w _ (by omega) h2];simp only [bS];rw [z56,z56];simp only [bS]
 rw [zta _ (by simp) (by
  intro b hb;simp only [List.mem_cons,List.not_mem_nil,or_false] at hb;rcases hb with rfl | rfl | rfl | rfl | rfl
  ·simp
  ·simp; omega
  ·simp only [List.length_append]; omega
  ·omega
  ·simp)]
 simp only [bS];have e2:[[111],z0g a.Author.toUInt64.toNat,z0g a.Preds.length++zhu a.Preds,z0g a.Stamp.toNat,[a.Act.Kind]].flatten=head a:=by
  unfold head;simp only [List.flatten_cons,List.flatten_nil,List.append_nil,UInt32.toNat_toUInt64]
 rw [e2];unfold msg;by_cases k1:a.Act.Kind=1
 ·rw [if_pos (by simpa using k1),if_pos k1]
 ·rw [if_neg (by simpa using k1),if_neg k1];have hk:a.Act.Key.length≤20:=by
   rcases zce ha with ⟨_,h⟩ | ⟨_,h⟩ | ⟨_,h,_⟩
   ·simp [h]
   ·exact h
   ·exact h
  have l5:=zq7 ha;have e3:zcc a.Act.Key=some (zxv a.Act,0):=zmx _ (by omega);rw [z4f (by omega)];simp only [bS];rw [e3];simp only [bS];rw [z1m (by omega)];simp only [bS];by_cases k4:a.Act.Kind=4
  ·have hv:okV a.Act.Value=true:=by
    rcases zce ha with ⟨k,_⟩ | ⟨k,_⟩ | ⟨_,_,k⟩
    ·rw [k4] at k; simp at k
    ·rw [k4] at k; simp at k
    ·exact k
   have l6:=zqk hv hI;rw [if_pos (by simpa using k4),if_pos k4,z17t _ hI ht,hv];simp only [bS,if_true];rw [z1m (by simp only [List.length_append]; omega)];simp only [bS]
  ·rw [if_neg (by simpa using k4),if_neg k4]
theorem zyf (a:z03) (h:z1h a=0) (hI:inI a.Act.Value.Num):z9a a=some (msg a):=by
 obtain ⟨h1,h2,h3⟩:=z33 h;have ha:=zhg h3;have l1:=z0n a.Author.toNat (by have:=UInt32.toNat_lt a.Author; omega);have l2:=z0n a.Preds.length (by omega);have l3:=z0n a.Stamp.toNat (UInt64.toNat_lt _);have l4:=zho a.Preds;have hl:=zqc h;unfold z9a;rw [z4o];simp only [bS];rw [z1m (by simp; omega),z12g _ (by omega)];simp only [bS];rw [z1m (by simp; omega),z4o];simp only [bS];rw [z1m (by simp; omega)];simp only [bS]
 rw [z1m (by simp; omega)];simp only [bS];have e2:[111]++z0g a.Author.toUInt64.toNat++(z0g a.Preds.length++zhu a.Preds)++z0g a.Stamp.toNat++[a.Act.Kind]=head a:=by
  unfold head;simp only [List.append_assoc,UInt32.toNat_toUInt64]
 rw [e2];unfold msg;by_cases k1:a.Act.Kind=1
 ·rw [if_neg (by simp [k1]),if_pos k1];simp only [bS];rw [k1]; rfl
 ·rw [if_pos (by simpa using k1),if_neg k1];have hk:a.Act.Key.length≤20:=by
   rcases zce ha with ⟨_,h⟩ | ⟨_,h⟩ | ⟨_,h,_⟩
   ·simp [h]
   ·exact h
   ·exact h
  have l5:=zq7 ha;have e3:z6d a.Act.Key=some (zxv a.Act):=zks _ (by omega);rw [z4f (by omega)];simp only [bS];rw [e3];simp only [bS];rw [z1m (by omega)];simp only [bS];by_cases k4:a.Act.Kind=4
  ·have hv:okV a.Act.Value=true:=by
    rcases zce ha with ⟨k,_⟩ | ⟨k,_⟩ | ⟨_,_,k⟩
    ·rw [k4] at k; simp at k
    ·rw [k4] at k; simp at k
    ·exact k
   have l6:=zqk hv hI;rw [if_pos (by simpa using k4),if_pos k4,zzx _ hI hv];simp only [bS];rw [z1m (by simp only [List.length_append]; omega)];simp only [bS]
  ·rw [if_neg (by simpa using k4),if_neg k4]
theorem zsc (a:z03) (h:z1h a=0) (hI:inI a.Act.Value.Num) (ht:a.Act.Value.Text.length≤9223372036854775807):ze7 a=some (z8n a,0):=by
 have hm:=zkt h hI;have l1:=z0n a.Sig.E.toNat (by have:=UInt32.toNat_lt a.Sig.E; omega);have l2:=z0n a.Sig.S.toNat (by have:=UInt32.toNat_lt a.Sig.S; omega);unfold ze7;rw [zff _ ht,h];simp only [bS];rw [if_neg (by simp),zos _ h hI ht,z56,z56];simp only [bS,UInt32.toNat_toUInt64]
 rw [zta _ (by simp) (by
  intro b hb;simp only [List.mem_cons,List.not_mem_nil,or_false] at hb
  rcases hb with rfl | rfl | rfl <;> omega)]
 simp only [bS,List.flatten_cons,List.flatten_nil,List.append_nil];rfl
theorem zj6 (a:z03) (h:z1h a=0) (hI:inI a.Act.Value.Num):z71 a=some (z8n a):=by
 have hm:=zkt h hI;have l1:=z0n a.Sig.E.toNat (by have:=UInt32.toNat_lt a.Sig.E; omega);have l2:=z0n a.Sig.S.toNat (by have:=UInt32.toNat_lt a.Sig.S; omega);unfold z71 z8n;rw [zyf _ h hI,z4o,z4o];simp only [bS,UInt32.toNat_toUInt64];rw [z1m (by omega)];simp only [bS];rw [z1m (by simp only [List.length_append]; omega)];simp only [bS,List.append_assoc]
def z32:V3:=Vector.replicate 32 0
theorem zv4 (a:z03) (hI:inI a.Act.Value.Num) (ht:a.Act.Value.Text.length≤9223372036854775807):zs2 a=some (if z1h a=0 then (sha (z8n a),0) else (z32,z1h a)):=by
 unfold zs2;by_cases h:z1h a=0
 ·have:=zgu h hI
  rw [zsc a h hI ht];simp only [bS];rw [if_neg (by simp),z170 _ (by omega),if_pos h];simp only [bS]
 ·have e:ze7 a=some ([],z1h a):=by
   unfold ze7;rw [zff _ ht];simp only [bS];rw [if_pos (by simpa using h)]
  rw [e];simp only [bS];rw [if_pos (by simpa using h),if_neg h]; rfl
theorem zqi (a:z03) (h:z1h a=0) (hI:inI a.Act.Value.Num):za5 a=some (sha (z8n a)):=by
 have:=zgu h hI
 unfold za5;rw [zj6 a h hI];simp only [bS];rw [z16m _ (by omega)];simp only [bS]
def zns (a:z03):Int:=if z1h a=0 then (if zte a.Author (msg a) a.Sig then 0 else 22) else z1h a
theorem zun (a:z03) (hI:inI a.Act.Value.Num) (ht:a.Act.Value.Text.length≤9223372036854775807):zkc a=some (zns a):=by
 unfold zkc zns;rw [zff _ ht];simp only [bS];by_cases h:z1h a=0
 ·have:=zkt h hI
  rw [if_neg (by simp [h]),if_pos h,zos a h hI ht];simp only [bS];rw [z10i _ _ _ (zmn (z33 h).2.2) (by omega)];simp only [bS]
 ·rw [if_pos (by simpa using h),if_neg h]
theorem zt2 (a:z03) (hI:inI a.Act.Value.Num) (ht:a.Act.Value.Text.length≤9223372036854775807):z9t a=some (zns a):=by
 unfold z9t zns zcg;rw [zfs _ ht];simp only [bS];by_cases h:z1h a=0
 ·have:=zkt h hI
  rw [if_neg (by simp [h]),if_pos h,zyf a h hI];simp only [bS];rw [z12a _ _ _ (zmn (z33 h).2.2) (by omega)];simp only [bS]
  cases zte a.Author (msg a) a.Sig <;> rfl
 ·rw [if_pos (by simpa using h),if_neg h]
end
section
open Go
theorem zht {α:Type} [DecidableEq α]:∀ (p q:List α),p.Nodup→(∀ x∈p,x∈q)→p.length≤q.length
 | [],_,_,_=>by simp
 | a::p,q,h,hs=>by
  have ha:=hs a (by simp);have hn:=List.nodup_cons.1 h
  have:=zht p (q.erase a) hn.2 (fun x hx=>by
   have hne:x≠a:=fun e=>hn.1 (e ▸ hx)
   exact (List.mem_erase_of_ne hne).2 (hs x (by simp [hx])))
  rw [List.length_erase_of_mem ha] at this;have hp:=List.length_pos_of_mem ha;simp only [List.length_cons]; omega
theorem z11g {α:Type} [DecidableEq α] {p q:List α} (h1:p.Nodup) (h2:q.Nodup) (h:∀ x,x∈p↔x∈q):p.length=q.length :=
 Nat.le_antisymm (zht p q h1 fun x hx=>(h x).1 hx) (zht q p h2 fun x hx=>(h x).2 hx)
abbrev ID:=V3
theorem zl2 {l:List ID} (h:zbc l=true) {i j:Nat} (hi:i<l.length) (hj:j<l.length) (hij:i<j):kd l[i]<kd l[j] :=
 List.pairwise_iff_getElem.1 ((zqt l).1 h) i j hi hj hij
theorem z120 {l:List ID} (h:zbc l=true) {i j:Nat} (hi:i<l.length) (hj:j<l.length) (e:l[i]=l[j]):i=j:=by
 rcases Nat.lt_trichotomy i j with c | c | c
 ·have:=zl2 h hi hj c; rw [e] at this; omega
 ·exact c
 ·have:=zl2 h hj hi c; rw [e] at this; omega
theorem zp1 {l:List ID} (h:zbc l=true):l.Nodup:=by
 have:=(zqt l).1 h
 exact this.imp fun {a b} hab e=>by rw [e] at hab; omega
theorem zlz {l:List ID} (h:zbc l=true) {k:Nat} (hk:k<l.length):l.idxOf l[k]=k:=by
 have h1:l.idxOf l[k]<l.length:=List.idxOf_lt_length_of_mem (List.getElem_mem hk);exact z120 h h1 hk (by simp)
theorem z15u (s e:Nat) (h:s+e<9223372036854775807):w64 ((z6r (UInt64.ofInt (w64 ((s:Int)+(e:Int)))) 1).toNat:Int)=(((s+e) / 2:Nat):Int):=by
 rw [z13 (x:=(s:Int)+(e:Int)) (by omega) (by omega), show ((s:Int)+(e:Int))=((s+e:Nat):Int) by omega,zb1,zan (by omega)];rw [show min 1 64=1 from rfl,Nat.pow_one,z13 (by omega) (by omega)]
theorem z15e (l:List ID) (hl:l.length≤4611686018427387903) (hi:zbc l=true) (x:ID):∃ b:Int,iter (z0t l x) (0,(l.length:Int))=some b∧∃ k:Nat,b=(k:Int)∧k≤l.length∧(∀ i (h:i<l.length),i<k→kd l[i]<kd x)∧(∀ i (h:i<l.length),k≤i→kd x≤kd l[i]):=by
 refine zmg (F:=z0t l x)
  (fun st=>∃ s e:Nat,st=((s:Int),(e:Int))∧s≤e∧e≤l.length∧(∀ i (h:i<l.length),i<s→kd l[i]<kd x)∧(∀ i (h:i<l.length),e≤i→kd x≤kd l[i]))
  (fun st=>st.2.toNat - st.1.toNat) _ ?_ _ ⟨0,l.length,rfl, by omega, by omega, fun i _ h=>by omega, fun i h h2=>by omega⟩
 rintro st ⟨s,e,rfl,h1,h2,h3,h4⟩
 by_cases hse:s<e
 ·right
  have hm:(s+e) / 2<l.length:=by omega
  have hF:z0t l x ((s:Int),(e:Int))=if decide (kd l[(s+e) / 2]<kd x) then some (.inr ((((s+e) / 2+1:Nat):Int),(e:Int))) else some (.inr ((s:Int),(((s+e) / 2:Nat):Int))):=by
   unfold z0t;simp only [];rw [if_pos (by simpa using hse),z15u _ _ (by omega)];simp only [bS];rw [z0p hm];simp only [bS];rw [z10e];simp only [bS];rw [zvz,z0u (show (s+e) / 2<9223372036854775807 by omega)]
  by_cases hc:kd l[(s+e) / 2]<kd x
  ·rw [decide_eq_true hc,if_pos rfl] at hF;refine ⟨_,hF,⟨(s+e) / 2+1,e,rfl, by omega,h2, fun i h hi2=>?_,h4⟩, by simp; omega⟩;by_cases he:i=(s+e) / 2
   ·subst he; exact hc
   ·have:=zl2 hi h hm (by omega); omega
  ·rw [decide_eq_false hc,if_neg (by simp)] at hF;refine ⟨_,hF,⟨s,(s+e) / 2,rfl, by omega, by omega,h3, fun i h hi2=>?_⟩, by simp; omega⟩;by_cases he:i=(s+e) / 2
   ·subst he; omega
   ·have:=zl2 hi hm h (by omega); omega
 ·left
  refine ⟨(s:Int),?_,s,rfl, by omega,h3, fun i h hi2=>h4 i h (by omega)⟩;unfold z0t;simp only [];rw [if_neg (by simpa using hse)]
theorem z14l (l:List ID) (hl:l.length≤4611686018427387903) (hi:zbc l=true) (x:ID):∃ k:Nat,z1f l x=some ((k:Int),decide (x∈l))∧(x∈l→k=l.idxOf x∧k<l.length)∧k≤l.length:=by
 obtain ⟨b,h1,k,rfl,h2,h3,h4⟩:=z15e l hl hi x;unfold z1f;simp only [bS];rw [h1];simp only [bS];have hmem:x∈l→∃ h:k<l.length,l[k]=x:=fun hx=>by
  obtain ⟨i,hi1,rfl⟩:=List.getElem_of_mem hx;have a1:¬ i<k:=fun c=>by have:=h3 i hi1 c; omega
  by_cases a2:k=i
  ·subst a2; exact ⟨hi1,rfl⟩
  ·have hk:k<l.length:=by omega
   have:=h4 k hk (Nat.le_refl _)
   have:=zl2 hi hk hi1 (by omega)
   omega
 by_cases hk:k<l.length
 ·rw [if_pos (by simpa using hk),z0p hk];simp only [bS];rw [z10e];simp only [bS];rw [z190];refine ⟨k,?_, fun hx=>?_, by omega⟩
  ·have:decide (l[k]=x)=decide (x∈l):=by
    rw [decide_eq_decide];exact ⟨fun e=>e ▸ List.getElem_mem hk, fun hx=>(hmem hx).2⟩
   rw [this]
  ·obtain ⟨h,e⟩:=hmem hx;subst e;exact ⟨(zlz hi h).symm,h⟩
 ·rw [if_neg (by simpa using hk)];refine ⟨k,?_, fun hx=>absurd (hmem hx).1 hk, by omega⟩;rw [decide_eq_false fun hx=>hk (hmem hx).1]
theorem zuo (g:z0f) (hl:g.IDs.length≤4611686018427387903) (hi:zbc g.IDs=true) (x:ID):∃ k:Nat,zmj g x=some ((k:Int),decide (x∈g.IDs))∧(x∈g.IDs→k=g.IDs.idxOf x∧k<g.IDs.length)∧k≤g.IDs.length:=by
 obtain ⟨k,h1,h2,h3⟩:=z14l g.IDs hl hi x;refine ⟨k,?_,h2,h3⟩;unfold zmj;rw [h1];simp only [bS]
theorem z10l (l:List ID) (x:ID) (hl:l.length≤9223372036854775806):∀ (rest pre:List ID),l=pre++rest→∃ r:Sum Int Unit,iter (z3v l x) (pre.length:Int)=some r∧((r=.inr ()∧x∉rest)∨∃ i:Nat,r=.inl (i:Int)∧∃ h:i<l.length,l[i]=x)
 | [],pre,e=>by
  refine ⟨_,z1l ?_,.inl ⟨rfl, by simp⟩⟩;subst e;unfold z3v;rw [if_neg (by simp)]
 | c::rest,pre,e=>by
  have hlen:pre.length<l.length:=by rw [e]; simp
  have hget:l[pre.length]'hlen=c:=by subst e; simp
  have hF:z3v l x (pre.length:Int)=if decide (c=x) then some (.inl (.inl (pre.length:Int))) else some (.inr ((pre.length+1:Nat):Int)):=by
   unfold z3v;rw [if_pos (by simpa using hlen),z0p hlen,hget,z0u (by omega)];simp only [bS]
  by_cases hc:c=x
  ·rw [decide_eq_true hc,if_pos rfl] at hF;exact ⟨_,z1l hF,.inr ⟨pre.length,rfl,hlen, by rw [hget,hc]⟩⟩
  ·rw [decide_eq_false hc,if_neg (by simp)] at hF;obtain ⟨r,h1,h2⟩:=z10l l x hl rest (pre++[c]) (by simp [e]);simp only [List.length_append,List.length_cons,List.length_nil,Nat.zero_add] at h1;refine ⟨r, by rw [z29 hF]; exact h1,?_⟩;rcases h2 with ⟨h2,h3⟩ | h2
   ·exact .inl ⟨h2, by simp; exact ⟨fun e=>hc e.symm,h3⟩⟩
   ·exact .inr h2
theorem z18t (l:List ID) (x:ID) (hl:l.length≤9223372036854775806):∃ k:Int,z3u l x=some k∧((k = -1∧x∉l)∨∃ i:Nat,k=(i:Int)∧∃ h:i<l.length,l[i]=x):=by
 obtain ⟨r,h1,h2⟩:=z10l l x hl l [] rfl;unfold z3u;rw [show (0:Int)=(([]:List ID).length:Int) from rfl,h1];rcases h2 with ⟨rfl,h3⟩ | ⟨i,rfl,h3⟩
 ·exact ⟨-1,rfl,.inl ⟨rfl,h3⟩⟩
 ·exact ⟨(i:Int),rfl,.inr ⟨i,rfl,h3⟩⟩
theorem z184 (l:List ID) (x:ID) (hl:l.length≤9223372036854775806):∃ k:Int,z3u l x=some k∧decide (k<0)=!decide (x∈l):=by
 obtain ⟨k,h1,h2⟩:=z18t l x hl;refine ⟨k,h1,?_⟩;rcases h2 with ⟨rfl,h2⟩ | ⟨i,rfl,h,rfl⟩
 ·rw [decide_eq_false h2]; rfl
 ·rw [decide_eq_true (List.getElem_mem h),decide_eq_false (by omega)]; rfl
theorem zvb (l:List ID) (p:List ID) (hl:l.length≤9223372036854775806) (hp:p.length≤9223372036854775806):∀ (rest pre:List ID),p=pre++rest→iter (z7v l p) (pre.length:Int)=some (if rest.all (fun x=>decide (x∈l)) then .inr () else .inl false)
 | [],pre,e=>by
  refine z1l ?_;subst e;unfold z7v
  simp
 | c::rest,pre,e=>by
  have hlen:pre.length<p.length:=by rw [e]; simp
  have hget:p[pre.length]'hlen=c:=by subst e; simp
  obtain ⟨k,k1,k2⟩:=z184 l c hl;have hF:z7v l p (pre.length:Int)=if decide (c∈l) then some (.inr ((pre.length+1:Nat):Int)) else some (.inl (.inl false)):=by
   unfold z7v;rw [if_pos (by simpa using hlen),z0p hlen,hget,z0u (by omega)];simp only [bS];rw [k1];simp only [bS];rw [k2]
   cases decide (c∈l) <;> rfl
  cases hc:decide (c∈l) with
  | false=>rw [hc] at hF; rw [z1l hF,List.all_cons,hc]; rfl
  | true =>
   rw [hc] at hF;rw [z29 hF];have ih:=zvb l p hl hp rest (pre++[c]) (by simp [e]);simp only [List.length_append,List.length_cons,List.length_nil,Nat.zero_add] at ih;rw [ih,List.all_cons,hc,Bool.true_and]
theorem z13v (l p:List ID) (hl:l.length≤9223372036854775806) (hp:p.length≤9223372036854775806):z47 l p=some (p.all fun x=>decide (x∈l)):=by
 have h:=zvb l p hl hp p [] rfl;unfold z47;rw [show (0:Int)=(([]:List ID).length:Int) from rfl,h]
 cases p.all fun x=>decide (x∈l) <;> rfl
theorem z131 (g:z0f) (hl:g.IDs.length≤9223372036854775807):z5o (ρ:=Int) (iter (z9c g) 1)=fun k=>if zbc g.IDs then k () else some 32:=by
 have key:∀ (n i:Nat),g.IDs.length - i=n→1≤i→i≤g.IDs.length→iter (z9c g) (i:Int)=some (if zbc (g.IDs.drop (i - 1)) then .inr () else .inl 32):=by
  intro n
  induction n with
  | zero =>
   intro i hn h1 hi;have h:=znw g.IDs hl 0 i hn h1 hi;have e:g.IDs.drop (i - 1)=[g.IDs[i - 1]'(by omega)]:=by
    rw [List.drop_eq_getElem_cons (by omega),List.drop_eq_nil_of_le (by omega)]
   rw [e];refine z1l ?_;unfold z9c;rw [if_neg (by simp; omega)];simp [zbc]
  | succ n ih =>
   intro i hn h1 hi;have hlt:i<g.IDs.length:=by omega
   have e:g.IDs.drop (i - 1)=g.IDs[i - 1]::g.IDs[i]::g.IDs.drop (i+1):=by
    rw [List.drop_eq_getElem_cons (by omega), show i - 1+1=i by omega,List.drop_eq_getElem_cons hlt]
   have e':g.IDs.drop (i+1 - 1)=g.IDs[i]::g.IDs.drop (i+1):=by rw [Nat.add_sub_cancel,List.drop_eq_getElem_cons hlt]
   have hF:z9c g (i:Int)=if decide (0≤Lib.compareBytes (g.IDs[i - 1]).toList (g.IDs[i]).toList) then some (.inl (.inl 32)) else some (.inr ((i+1:Nat):Int)):=by
    unfold z9c;rw [if_pos (by simp; omega),z13 (by omega) (by omega), show ((i:Int) - 1)=((i - 1:Nat):Int) by omega];simp only [z0p hlt,z0p (show i - 1<g.IDs.length by omega),bs,zud,z0u (show i<9223372036854775807 by omega)]
   rw [e,zbc]
   cases hc:decide (0≤Lib.compareBytes (g.IDs[i - 1]).toList (g.IDs[i]).toList) with
   | true=>rw [hc] at hF; rw [z1l hF]; rfl
   | false =>
    rw [hc] at hF;rw [z29 hF,ih (i+1) (by omega) (by omega) (by omega),e']; simp
 funext k
 by_cases h0:g.IDs.length=0
 ·have hnil:g.IDs=[]:=List.length_eq_zero_iff.1 h0;rw [z1l (b:=.inr ())]
  ·rw [hnil]; rfl
  ·unfold z9c;rw [if_neg (by simp; omega)]
 ·rw [show (1:Int)=((1:Nat):Int) from rfl,key (g.IDs.length - 1) 1 rfl (by omega) (by omega),Nat.sub_self,List.drop_zero]
  cases zbc g.IDs <;> rfl
end
section
open Go
def il (l:List Nat):List Int:=l.map fun k:Nat=>(k:Int)
theorem zdx (l:List Nat):(il l).length=l.length:=by simp [il]
theorem zy8 {l:List Nat} {i:Nat} (h:i<l.length):idx (il l) (i:Int)=some (l[i]:Int):=by
 rw [z0p (by rw [zdx]; exact h)]; simp [il]
theorem zwp (l m:List Nat):il (l++m)=il l++il m:=by simp [il]
def tab {α:Type} (n:Nat) (f:Nat→α):List α:=(List.range n).map f
theorem ztx {α:Type} (n:Nat) (f:Nat→α):(tab n f).length=n:=by simp [tab]
theorem ztv {α:Type} {n:Nat} {f:Nat→α} {i:Nat} (h:i<(tab n f).length):(tab n f)[i]=f i:=by simp [tab]
theorem zdc {α:Type} {n:Nat} {f:Nat→α} {i:Nat} (h:i<n):idx (tab n f) (i:Int)=some (f i):=by
 rw [z0p (by rw [ztx]; exact h),ztv]
theorem zko {α:Type} {n:Nat} {f g:Nat→α} {i:Nat} {x:α} (hi:i<n) (h1:g i=x) (h2:∀ j,j<n→j≠i→g j=f j):(tab n f).set i x=tab n g:=by
 apply List.ext_getElem
 ·simp [ztx]
 ·intro j hj1 hj2;rw [List.getElem_set,ztv,ztv];rw [ztx] at hj2
  split
  ·rename_i e; subst e; exact h1.symm
  ·rename_i e; exact (h2 j hj2 (fun c=>e c.symm)).symm
theorem zgy {α:Type} {n:Nat} {f g:Nat→α} (h:∀ j,j<n→f j=g j):tab n f=tab n g:=by
 unfold tab;exact List.map_congr_left fun j hj=>h j (by simpa using hj)
theorem zjm {α:Type} (n:Nat) (x:α):List.replicate n x=tab n (fun _=>x):=by
 apply List.ext_getElem
 ·simp [tab]
 ·intro j h1 h2; simp [tab]
def opAt (g:z0f) (i:Nat):List ID:=match g.Ops[i]? with | some o=>o.Preds | none=>[]
theorem zel {g:z0f} {i:Nat} (h:i<g.Ops.length):opAt g i=(g.Ops[i]).Preds:=by unfold opAt; rw [List.getElem?_eq_getElem h]
def z4q (g:z0f) (i:Nat):List Nat:=(opAt g i).map fun x=>g.IDs.idxOf x
structure zhe (g:z0f):Prop where
 len:g.Ops.length≤60
 ids:g.IDs.length=g.Ops.length
 ri:zbc g.IDs=true
 op:∀ i (h:i<g.Ops.length),(g.Ops[i]).Preds.length≤4∧zbc (g.Ops[i]).Preds=true
variable {g:z0f}
theorem zhe.four (E:zhe g) (i:Nat):(opAt g i).length≤4:=by
 unfold opAt;by_cases h:i<g.Ops.length
 ·rw [List.getElem?_eq_getElem h]; exact (E.op i h).1
 ·rw [List.getElem?_eq_none (by omega)]; simp
theorem zhe.nodup (E:zhe g) (i:Nat):(opAt g i).Nodup:=by
 unfold opAt;by_cases h:i<g.Ops.length
 ·rw [List.getElem?_eq_getElem h]; exact zp1 (E.op i h).2
 ·rw [List.getElem?_eq_none (by omega)]; simp
theorem zrl {l:List ID} {x y:ID} (hx:x∈l) (h:l.idxOf y=l.idxOf x):y=x:=by
 have h1:l.idxOf x<l.length:=List.idxOf_lt_length_of_mem hx;have h2:l.idxOf y<l.length:=by omega
 have e1:l[l.idxOf x]'h1=x:=by simp
 have e2:l[l.idxOf y]'h2=y:=by simp
 rw [← e1,← e2]; congr 1
def zgw (g:z0f) (i x:Nat):List Nat:=(List.range i).filter fun k=>decide (x∈z4q g k)
theorem zyd (g:z0f) (i x:Nat):(zgw g i x).length≤i:=by
 have:=List.length_filter_le (fun k=>decide (x∈z4q g k)) (List.range i)
 unfold zgw; simpa using this
def zi7 (g:z0f) (i j x:Nat):List Nat:=zgw g i x++(if x∈(z4q g i).take j then [i] else [])
theorem zx3 (g:z0f) (i x:Nat):zgw g (i+1) x=zi7 g i (z4q g i).length x:=by
 unfold zgw zi7;rw [List.range_succ,List.filter_append,List.take_length];by_cases h:x∈z4q g i
 ·rw [if_pos h]; simp [zgw,h]
 ·rw [if_neg h]; simp [zgw,h]
theorem zx2 (g:z0f) (i x:Nat):zi7 g i 0 x=zgw g i x:=by unfold zi7; simp
theorem z149 (E:zhe g) {i:Nat} (hi:i<g.Ops.length) (s:(List Int) × (List (List Int)) × (List Int) × Int) (hs:s.2.2.2=(i:Int)):∀ (rest pre:List ID),g.Ops[i].Preds=pre++rest →
  iter (zb6 g s g.Ops[i]) (tab g.Ops.length (fun x=>il (zi7 g i pre.length x)),(pre.length:Int))=some (if rest.all (fun x=>decide (x∈g.IDs)) then .inr (tab g.Ops.length fun x=>il (zi7 g i (z4q g i).length x)) else .inl (.inl (.inl 40)))
 | [],pre,e=>by
  refine z1l ?_;unfold zb6
  have:(z4q g i).length=pre.length:=by unfold z4q; rw [zel hi,e]; simp
  rw [if_neg (by rw [e]; simp),this]
  rfl
 | c::rest,pre,e=>by
  have h4:=(E.op i hi).1;have hn:=E.nodup i;rw [zel hi] at hn;have hlen:pre.length<g.Ops[i].Preds.length:=by rw [e]; simp
  have hget:g.Ops[i].Preds[pre.length]'hlen=c:=by simp [e]
  have hpl:(z4q g i).length=g.Ops[i].Preds.length:=by unfold z4q; rw [zel hi]; simp
  have hpg:(z4q g i)[pre.length]'(by omega)=g.IDs.idxOf c:=by
   unfold z4q;simp only [zel hi,List.getElem_map,hget]
  obtain ⟨k,f1,f2,f3⟩:=zuo g (by have:=E.ids; have:=E.len; omega) E.ri c;rw [List.all_cons];by_cases hc:c∈g.IDs
  ·rw [decide_eq_true hc,Bool.true_and];obtain ⟨rfl,hk⟩:=f2 hc;rw [E.ids] at hk;have hsl:=zyd g i (g.IDs.idxOf c);have hll:(zi7 g i pre.length (g.IDs.idxOf c)).length≤i+1:=by
    unfold zi7; rw [List.length_append]; split <;> simp <;> omega
   have hset:(tab g.Ops.length (fun x=>il (zi7 g i pre.length x))).set (g.IDs.idxOf c) (il (zi7 g i pre.length (g.IDs.idxOf c))++[(i:Int)])=tab g.Ops.length (fun x=>il (zi7 g i (pre.length+1) x)):=by
    refine zko hk ?_ fun x hx hne=>?_
    ·have h1:¬ g.IDs.idxOf c∈(z4q g i).take pre.length:=by
      intro hm;have e5:(z4q g i).take pre.length=pre.map fun x=>g.IDs.idxOf x:=by
       unfold z4q;rw [zel hi,e,List.map_append,List.take_left' (by simp)]
      rw [e5,List.mem_map] at hm;obtain ⟨y,hy,e6⟩:=hm
      have:=zrl hc e6
      subst this;rw [e,List.nodup_append] at hn;exact hn.2.2 y hy y (by simp) rfl
     have h2:g.IDs.idxOf c∈(z4q g i).take (pre.length+1):=by
      rw [List.take_add_one,List.getElem?_eq_getElem (by omega),hpg]; simp
     unfold zi7;rw [if_pos h2,if_neg h1]; simp [il]
    ·have:(x∈(z4q g i).take (pre.length+1))↔(x∈(z4q g i).take pre.length):=by
      rw [List.take_add_one,List.getElem?_eq_getElem (by omega),hpg];simp [hne]
     unfold zi7;simp only [this]
   have hF:zb6 g s g.Ops[i] (tab g.Ops.length (fun x=>il (zi7 g i pre.length x)),(pre.length:Int))=some (.inr (tab g.Ops.length (fun x=>il (zi7 g i (pre.length+1) x)),((pre.length+1:Nat):Int))):=by
    have hlen2:=E.len;unfold zb6;rw [if_pos (by simpa using hlen)];simp only [];rw [z0p hlen,hget];simp only [bS];rw [f1];simp only [bS];rw [decide_eq_true hc,if_neg (by simp),zdc hk];simp only [bS];rw [hs,z1m (by rw [zdx]; simp; omega),z0u (by omega)];simp only [bS,Int.toNat_natCast];rw [hset]
   rw [z29 hF];have ih:=z149 E hi s hs rest (pre++[c]) (by simp [e]);simp only [List.length_append,List.length_cons,List.length_nil,Nat.zero_add] at ih;exact ih
  ·rw [decide_eq_false hc];refine z1l ?_;unfold zb6;rw [if_pos (by simpa using hlen)];simp only [];rw [z0p hlen,hget];simp only [bS];rw [f1];simp only [bS];rw [decide_eq_false hc]; rfl
def zoe (g:z0f):Bool:=g.Ops.all fun o=>o.Preds.all fun x=>decide (x∈g.IDs)
def zi2 (g:z0f) (i x:Nat):Int:=if x<i then ((z4q g x).length:Int) else 0
def ready (g:z0f) (i:Nat):List Nat:=(List.range i).filter fun k=>decide ((z4q g k).length=0)
theorem zya (g:z0f) (i:Nat):(ready g i).length≤i:=by
 have:=List.length_filter_le (fun k=>decide ((z4q g k).length=0)) (List.range i)
 unfold ready; simpa using this
theorem z13s (E:zhe g):∀ (rest pre:List z03),g.Ops=pre++rest →
  iter (zb5 g) (tab g.Ops.length (zi2 g pre.length),tab g.Ops.length (fun x=>il (zgw g pre.length x)),il (ready g pre.length),(pre.length:Int)) =
   some (if rest.all (fun o=>o.Preds.all fun x=>decide (x∈g.IDs)) then .inr (tab g.Ops.length (zi2 g g.Ops.length),tab g.Ops.length (fun x=>il (zgw g g.Ops.length x)),il (ready g g.Ops.length)) else .inl 40)
 | [],pre,e=>by
  refine z1l ?_;have hl:g.Ops.length=pre.length:=by rw [e]; simp
  unfold zb5;rw [if_neg (by simp; omega),hl];rfl
 | o::rest,pre,e=>by
  have hlen2:=E.len;have hlen:pre.length<g.Ops.length:=by rw [e]; simp
  have hget:g.Ops[pre.length]'hlen=o:=by simp [e]
  have h4:=z149 E hlen (tab g.Ops.length (zi2 g pre.length),tab g.Ops.length (fun x=>il (zgw g pre.length x)),il (ready g pre.length),(pre.length:Int)) rfl o.Preds [] (by rw [hget]; rfl);rw [hget] at h4;simp only [List.length_nil,zx2] at h4;have hpl:(z4q g pre.length).length=o.Preds.length:=by unfold z4q; rw [zel hlen,hget]; simp
  rw [List.all_cons]
  cases hc:o.Preds.all fun x=>decide (x∈g.IDs) with
  | false =>
   rw [hc] at h4;refine z1l ?_;unfold zb5;rw [if_pos (by simpa using hlen)];simp only [];rw [z0p hlen,hget];simp only [bS];rw [show (0:Int)=((0:Nat):Int) from rfl,h4];rfl
  | true =>
   rw [hc] at h4;rw [Bool.true_and];have hset:(tab g.Ops.length (zi2 g pre.length)).set pre.length (o.Preds.length:Int)=tab g.Ops.length (zi2 g (pre.length+1)):=by
    refine zko hlen ?_ fun x hx hne=>?_
    ·unfold zi2; rw [if_pos (by omega),hpl]
    ·unfold zi2;by_cases h:x<pre.length
     ·rw [if_pos h,if_pos (by omega)]
     ·rw [if_neg h,if_neg (by omega)]
   have hrl:=zya g pre.length;have hready:il (ready g (pre.length+1))=if (o.Preds.length:Int)==0 then il (ready g pre.length)++[(pre.length:Int)] else il (ready g pre.length):=by
    unfold ready;rw [List.range_succ,List.filter_append,zwp];by_cases h:o.Preds.length=0
    ·have hd:decide ((z4q g pre.length).length=0)=true:=decide_eq_true (by rw [hpl]; exact h);rw [if_pos (by simpa using h),List.filter_cons_of_pos (p:=fun k=>decide ((z4q g k).length=0)) hd]; rfl
    ·have hd:¬ decide ((z4q g pre.length).length=0)=true:=by rw [decide_eq_true_iff,hpl]; exact h
     rw [if_neg (by simpa using h),List.filter_cons_of_neg (p:=fun k=>decide ((z4q g k).length=0)) hd]; simp [il]
   have hsucc:(fun x=>il (zi7 g pre.length (z4q g pre.length).length x))=fun x=>il (zgw g (pre.length+1) x):=by
    funext x; rw [zx3]
   rw [hsucc] at h4;have hF:zb5 g (tab g.Ops.length (zi2 g pre.length),tab g.Ops.length (fun x=>il (zgw g pre.length x)),il (ready g pre.length),(pre.length:Int))=some (.inr (tab g.Ops.length (zi2 g (pre.length+1)),tab g.Ops.length (fun x=>il (zgw g (pre.length+1) x)),il (ready g (pre.length+1)),((pre.length+1:Nat):Int))):=by
    unfold zb5;rw [if_pos (by simpa using hlen)];simp only [];rw [z0p hlen,hget];simp only [bS];rw [show (0:Int)=((0:Nat):Int) from rfl,h4];simp only [if_true,zpn];rw [zdc hlen];simp only [bS,Int.toNat_natCast];rw [hset,zdc hlen];simp only [bS];have e5:zi2 g (pre.length+1) pre.length=(o.Preds.length:Int):=by unfold zi2; rw [if_pos (by omega),hpl]
    rw [e5,hready,z0u (by omega)];by_cases h:o.Preds.length=0
    ·rw [if_pos (by simpa using h),if_pos (by simpa using h),z1m (by rw [zdx]; simp; omega)];simp only [bS]
    ·rw [if_neg (by simpa using h),if_neg (by simpa using h)]
   rw [z29 hF];have ih:=z13s E rest (pre++[o]) (by simp [e]);simp only [List.length_append,List.length_cons,List.length_nil,Nat.zero_add] at ih;exact ih
theorem zot (E:zhe g):∀ (rest pre:List z03),g.Ops=pre++rest →
  iter (z6h g) (pre.length:Int)=some (if rest.all (fun o=>o.Preds.all fun x=>decide (x∈g.IDs)) then .inr () else .inl 40)
 | [],pre,e=>by
  refine z1l ?_;unfold z6h;rw [if_neg (by rw [e]; simp)]; rfl
 | o::rest,pre,e=>by
  have hlen2:=E.len;have hlen:pre.length<g.Ops.length:=by rw [e]; simp
  have hget:g.Ops[pre.length]'hlen=o:=by simp [e]
  have h4:=(E.op _ hlen).1;rw [hget] at h4;have hF:z6h g (pre.length:Int)=if (o.Preds.all fun x=>decide (x∈g.IDs)) then some (.inr ((pre.length+1:Nat):Int)) else some (.inl (.inl 40)):=by
   unfold z6h;rw [if_pos (by simpa using hlen),z0p hlen,hget];simp only [bS];rw [z13v _ _ (by have:=E.ids; omega) (by omega),z0u (by omega)];simp only [bS]
   cases o.Preds.all fun x=>decide (x∈g.IDs) <;> rfl
  rw [List.all_cons]
  cases hc:o.Preds.all fun x=>decide (x∈g.IDs) with
  | false=>rw [hc] at hF; rw [z1l hF]; rfl
  | true =>
   rw [hc] at hF;rw [z29 hF];have ih:=zot E rest (pre++[o]) (by simp [e]);simp only [List.length_append,List.length_cons,List.length_nil,Nat.zero_add] at ih;rw [ih,Bool.true_and]
end
section
open Go
theorem zhf {α:Type} {l:List α} (h:l.Nodup) {i j:Nat} (hi:i<l.length) (hj:j<l.length) (e:l[i]=l[j]):i=j:=by
 rcases Nat.lt_trichotomy i j with c | c | c
 ·exact absurd e (List.pairwise_iff_getElem.1 h i j hi hj c)
 ·exact c
 ·exact absurd e.symm (List.pairwise_iff_getElem.1 h j i hj hi c)
inductive Wf (P:Nat→List Nat):Nat→Prop
 | mk (i:Nat):(∀ p∈P i,Wf P p)→Wf P i
def cnt (P:Nat→List Nat) (T:List Nat) (i:Nat):Int:=(((P i).filter fun p=>!decide (p∈T)).length:Int)
theorem zve {P:Nat→List Nat} {T:List Nat} {i:Nat}:cnt P T i=0↔∀ p∈P i,p∈T:=by
 unfold cnt
 constructor
 ·intro h p hp;have h0:((P i).filter fun p=>!decide (p∈T))=[]:=List.length_eq_zero_iff.1 (by omega);rw [List.filter_eq_nil_iff] at h0
  simpa using h0 p hp
 ·intro h;have h0:((P i).filter fun p=>!decide (p∈T))=[]:=by
   rw [List.filter_eq_nil_iff];intro p hp
   simpa using h p hp
  rw [h0]; rfl
theorem zza (P:Nat→List Nat) (i:Nat):cnt P [] i=((P i).length:Int):=by
 unfold cnt;rw [List.filter_eq_self.2 (fun a _=>by simp)]
theorem z17l (P:Nat→List Nat) (T:List Nat) (i:Nat):cnt P T i≤((P i).length:Int):=by
 unfold cnt
 have:=List.length_filter_le (fun p=>!decide (p∈T)) (P i)
 omega
theorem ziw {T:List Nat} {x:Nat} (hx:x∉T):∀ l:List Nat,l.Nodup→(l.filter fun p=>!decide (p∈T)).length=(l.filter fun p=>!decide (p∈T++[x])).length+(if x∈l then 1 else 0)
 | [],_=>by simp
 | a::l,h=>by
  have hn:=List.nodup_cons.1 h;have ih:=ziw hx l hn.2;by_cases ha:a=x
  ·subst ha;rw [if_neg hn.1] at ih;rw [if_pos (by simp),List.filter_cons_of_pos (by simpa using hx),List.filter_cons_of_neg (by simp),List.length_cons,ih]
  ·have e:(x∈a::l)↔(x∈l):=by
    rw [List.mem_cons]; exact ⟨fun h=>h.resolve_left fun e=>ha e.symm,.inr⟩
   by_cases hT:a∈T
   ·rw [List.filter_cons_of_neg (by simp [hT]),List.filter_cons_of_neg (by simp [hT]),ih];simp only [e]
   ·rw [List.filter_cons_of_pos (by simp [hT]),List.filter_cons_of_pos (by simp [hT,ha]),List.length_cons,List.length_cons,ih];simp only [e]; omega
theorem z13w {P:Nat→List Nat} {T:List Nat} {x i:Nat} (hx:x∉T) (hn:(P i).Nodup) (hi:x∈P i):cnt P T i=cnt P (T++[x]) i+1:=by
 unfold cnt;rw [ziw hx _ hn,if_pos hi]; omega
theorem z150 {P:Nat→List Nat} {T:List Nat} {x i:Nat} (hx:x∉T) (hn:(P i).Nodup) (hi:x∉P i):cnt P T i=cnt P (T++[x]) i:=by
 unfold cnt;rw [ziw hx _ hn,if_neg hi]; omega
structure z14n (P:Nat→List Nat) (n:Nat):Prop where
 n60:n≤60
 nodup:∀ i,(P i).Nodup
 four:∀ i,(P i).length≤4
 lt:∀ i,∀ p∈P i,p<n
def over (P:Nat→List Nat) (n x:Nat):List Nat:=(List.range n).filter fun k=>decide (x∈P k)
theorem zvu {P:Nat→List Nat} {n x k:Nat}:k∈over P n x↔k<n∧x∈P k:=by unfold over; simp
theorem zxm (P:Nat→List Nat) (n x:Nat):(over P n x).Nodup:=List.Pairwise.filter _ List.nodup_range
structure Got (P:Nat→List Nat) (n:Nat) (Q:List Nat):Prop where
 nodup:Q.Nodup
 lt:∀ x∈Q,x<n
 wf:∀ x∈Q,Wf P x
theorem Got.len {P:Nat→List Nat} {n:Nat} {Q:List Nat} (h:Got P n Q):Q.length≤n:=by
 have:=zht Q (List.range n) h.nodup fun x hx=>by simpa using h.lt x hx
 simpa using this
variable {P:Nat→List Nat} {n:Nat}
theorem z16x (E:z14n P n) (Q:List Nat) (pos:Nat) (hp:pos<Q.length) (hQ:Got P n Q) (hd:∀ i,i<n→(i∈Q↔cnt P (Q.take pos) i=0)) :
  ∃ b:List Int × List Int,iter (zb7 (il (over P n Q[pos]))) (tab n (cnt P (Q.take pos)),il Q,0)=some b∧∃ R,b=(tab n (cnt P ((Q++R).take (pos+1))),il (Q++R))∧Got P n (Q++R)∧∀ i,i<n→(i∈Q++R↔cnt P ((Q++R).take (pos+1)) i=0):=by
 have hx:Q[pos]∉Q.take pos:=by
  intro hm;obtain ⟨j,hj,e⟩:=List.getElem_of_mem hm;rw [List.getElem_take] at e;rw [List.length_take] at hj
  have:=zhf hQ.nodup _ _ e
  omega
 have htk:∀ R:List Nat,(Q++R).take (pos+1)=Q.take pos++[Q[pos]]:=fun R=>by
  rw [List.take_append_of_le_length (by omega),List.take_add_one,List.getElem?_eq_getElem hp]; rfl
 let T:=Q.take pos
 let x:=Q[pos]
 have hwx:Wf P x:=hQ.wf x (List.getElem_mem hp);have hwT:∀ y∈T,Wf P y:=fun y hy=>hQ.wf y (List.mem_of_mem_take hy)
 let c:=fun (j i:Nat)=>if i∈(over P n x).take j then cnt P (T++[x]) i else cnt P T i
 have hc_in:∀ j i,i∈(over P n x).take j→c j i=cnt P (T++[x]) i:=fun j i h=>if_pos h;have hc_out:∀ j i,i∉(over P n x).take j→c j i=cnt P T i:=fun j i h=>if_neg h;have hcnt2:∀ i,cnt P (T++[x]) i=0→Wf P i:=fun i hi=>.mk i fun p hpi=>by
  have:=zve.1 hi p hpi
  rcases List.mem_append.1 this with h | h
  ·exact hwT p h
  ·rw [List.mem_singleton] at h; subst h; exact hwx
 have main:=z9o (F:=zb7 (il (over P n x))) (over P n x).length
  (fun j st=>∃ R,st=(tab n (c j),il (Q++R),(j:Int))∧Got P n (Q++R)∧∀ i,i<n→(i∈Q++R↔c j i=0))
  (fun b=>∃ R,b=(tab n (c (over P n x).length),il (Q++R))∧Got P n (Q++R)∧∀ i,i<n→(i∈Q++R↔c (over P n x).length i=0))
  (fun j st hj hst=>by
   obtain ⟨R,rfl,hR,hm⟩:=hst;have hyo:(over P n x)[j]∈over P n x:=List.getElem_mem hj;obtain ⟨hyn,hyx⟩:=zvu.1 hyo;have hyt:(over P n x)[j]∉(over P n x).take j:=by
    intro hm;obtain ⟨k,hk,e⟩:=List.getElem_of_mem hm;rw [List.getElem_take] at e;rw [List.length_take] at hk
    have:=zhf (zxm P n x) _ _ e
    omega
   have hcy:c j (over P n x)[j]=cnt P (T++[x]) (over P n x)[j]+1:=by
    rw [hc_out _ _ hyt]; exact z13w hx (E.nodup _) hyx
   have hcl:cnt P T (over P n x)[j]≤4:=by have:=z17l P T (over P n x)[j]; have:=E.four (over P n x)[j]; omega
   have h0:0≤cnt P (T++[x]) (over P n x)[j]:=by unfold cnt; omega
   have hcs:cnt P T (over P n x)[j]=cnt P (T++[x]) (over P n x)[j]+1:=z13w hx (E.nodup _) hyx;have hnot:(over P n x)[j]∉Q++R:=by
    rw [hm _ hyn,hcy]; omega
   have hcy1:c (j+1) (over P n x)[j]=cnt P (T++[x]) (over P n x)[j]:=by
    refine hc_in _ _ ?_;rw [List.take_add_one,List.getElem?_eq_getElem hj];exact List.mem_append.2 (.inr (List.mem_singleton.2 rfl))
   have hc1:∀ i,i≠(over P n x)[j]→c (j+1) i=c j i:=fun i hne=>by
    show (if _ then _ else _)=(if _ then _ else _)
    have:(i∈(over P n x).take (j+1))↔(i∈(over P n x).take j):=by
     rw [List.take_add_one,List.getElem?_eq_getElem hj,List.mem_append];exact ⟨fun h=>h.resolve_right fun e=>hne (List.mem_singleton.1 e),.inl⟩
    simp only [this]
   have hset:(tab n (c j)).set (over P n x)[j] (cnt P (T++[x]) (over P n x)[j])=tab n (c (j+1)):=zko hyn hcy1 fun i _ hne=>hc1 i hne;have hov:(over P n x).length≤n:=by
    have:=List.length_filter_le (fun k=>decide (x∈P k)) (List.range n)
    unfold over; simpa using this
   have hn60:=E.n60;have hlen:=hR.len;have hF:zb7 (il (over P n x)) (tab n (c j),il (Q++R),(j:Int))=if cnt P (T++[x]) (over P n x)[j]==0 then some (.inr (tab n (c (j+1)),il (Q++R)++[((over P n x)[j]:Int)],((j+1:Nat):Int))) else some (.inr (tab n (c (j+1)),il (Q++R),((j+1:Nat):Int))):=by
    unfold zb7;rw [if_pos (by rw [zdx]; simpa using hj)]
    simp only [];rw [zy8 hj];simp only [bS];rw [zdc hyn,hcy];simp only [bS];rw [z13 (x:=_ - 1) (by omega) (by omega), show cnt P (T++[x]) (over P n x)[j]+1 - 1=cnt P (T++[x]) (over P n x)[j] by omega];simp only [bS,Int.toNat_natCast];rw [hset,zdc hyn,hcy1];simp only [bS];rw [z1m (by rw [zdx]; simp only [List.length_cons,List.length_nil]; omega),z0u (by omega)];simp only [bS]
   by_cases hz:cnt P (T++[x]) (over P n x)[j]=0
   ·rw [if_pos (by simpa using hz)] at hF;refine ⟨_,hF,R++[(over P n x)[j]],?_,?_,?_⟩
    ·rw [← List.append_assoc,zwp (Q++R)]; rfl
    ·rw [← List.append_assoc];refine ⟨?_,?_,?_⟩
     ·rw [List.nodup_append]
      exact ⟨hR.nodup, by simp, fun a ha b hb e=>by
       rw [List.mem_singleton] at hb; subst hb; exact hnot (e ▸ ha)⟩
     ·intro y hy;rcases List.mem_append.1 hy with h | h
      ·exact hR.lt y h
      ·rw [List.mem_singleton] at h; subst h; exact hyn
     ·intro y hy;rcases List.mem_append.1 hy with h | h
      ·exact hR.wf y h
      ·rw [List.mem_singleton] at h; subst h; exact hcnt2 _ hz
    ·intro i hi;rw [← List.append_assoc,List.mem_append,List.mem_singleton];by_cases hne:i=(over P n x)[j]
     ·subst hne;rw [hcy1];exact ⟨fun _=>hz, fun _=>.inr rfl⟩
     ·rw [hc1 i hne,← hm i hi];exact ⟨fun h=>h.resolve_right hne,.inl⟩
   ·rw [if_neg (by simpa using hz)] at hF;refine ⟨_,hF,R,rfl,hR,?_⟩;intro i hi;by_cases hne:i=(over P n x)[j]
    ·subst hne;rw [hcy1];exact ⟨fun h=>absurd h hnot, fun h=>absurd h hz⟩
    ·rw [hc1 i hne,← hm i hi])
  (fun st hst=>by
   obtain ⟨R,rfl,hR,hm⟩:=hst;refine ⟨_,?_,R,rfl,hR,hm⟩;unfold zb7
   rw [if_neg (by rw [zdx]; simp)])
  (tab n (cnt P T),il Q,((0:Nat):Int)) 0 (Nat.zero_le _) ⟨[], by rw [List.append_nil]; rfl, by rw [List.append_nil]; exact hQ, by rw [List.append_nil]; exact hd⟩
 have hend:∀ i,i<n→c (over P n x).length i=cnt P (T++[x]) i:=fun i hi=>by
  by_cases hm:i∈over P n x
  ·exact hc_in _ _ (by rw [List.take_length]; exact hm)
  ·rw [hc_out _ _ (by rw [List.take_length]; exact hm)];exact z150 hx (E.nodup i) fun h=>hm (zvu.2 ⟨hi,h⟩)
 obtain ⟨b,h1,R,h2,h3,h4⟩:=main;refine ⟨b,h1,R,?_,h3, fun i hi=>?_⟩
 ·rw [h2,htk R]
  congr 1
  exact zgy hend
 ·rw [h4 i hi,hend i hi,htk R]
theorem z17e (E:z14n P n) (s:List Int × List (List Int) × List Int) (hs:s.2.1=tab n fun x=>il (over P n x)):∃ b:Int,iter (zd3 s) (tab n (cnt P []),il ((List.range n).filter fun k=>decide ((P k).length=0)),0)=some b∧∃ Q:List Nat,b=(Q.length:Int)∧Q.Nodup∧∀ i,i∈Q↔i<n∧Wf P i:=by
 have hn60:=E.n60;refine zmg (F:=zd3 s)
  (fun st=>∃ (Q:List Nat) (pos:Nat),st=(tab n (cnt P (Q.take pos)),il Q,(pos:Int))∧pos≤Q.length∧Got P n Q∧∀ i,i<n→(i∈Q↔cnt P (Q.take pos) i=0))
  (fun st=>n - st.2.2.toNat) _ ?_ _ ⟨(List.range n).filter fun k=>decide ((P k).length=0),0, by rw [List.take_zero]; rfl,Nat.zero_le _,?_,?_⟩
 ·rintro st ⟨Q,pos,rfl,h1,h2,h3⟩
  have hlen:=h2.len;by_cases hp:pos<Q.length
  ·right
   obtain ⟨b,e1,R,rfl,e3,e4⟩:=z16x E Q pos hp h2 h3;have hx:=h2.lt _ (List.getElem_mem hp);refine ⟨_,?_,⟨Q++R,pos+1,rfl, by rw [List.length_append]; omega,e3,e4⟩,?_⟩
   ·unfold zd3;rw [if_pos (by rw [zdx]; simpa using hp)]
    simp only [];rw [zy8 hp,hs];simp only [bS];rw [zdc hx];simp only [bS];rw [e1,z0u (by omega)];simp only [bS]
   ·simp only [Int.toNat_natCast]; omega
  ·left
   have hpe:pos=Q.length:=by omega
   subst hpe;refine ⟨(Q.length:Int),?_,Q,rfl,h2.nodup, fun i=>⟨fun h=>⟨h2.lt i h,h2.wf i h⟩, fun h=>?_⟩⟩
   ·unfold zd3;rw [if_neg (by rw [zdx]; simp)]
   ·obtain ⟨hi,hw⟩:=h;rw [List.take_length] at h3
    revert hi
    induction hw with
    | mk i hpi ih =>
     intro hi;rw [h3 i hi,zve];exact fun p hpp=>ih p hpp (E.lt i p hpp)
 ·refine ⟨List.Pairwise.filter _ List.nodup_range, fun x hx=>?_, fun x hx=>?_⟩
  ·simp only [List.mem_filter,List.mem_range] at hx; exact hx.1
  ·simp only [List.mem_filter,List.mem_range,decide_eq_true_eq] at hx;refine .mk x fun p hp=>?_;rw [List.length_eq_zero_iff.1 hx.2] at hp; simp at hp
 ·intro i hi;rw [List.take_zero,zza];simp only [List.mem_filter,List.mem_range,decide_eq_true_eq];omega
end
section
open Go
variable {g:z0f}
theorem zmh (h:zoe g=true) (i:Nat):∀ x∈opAt g i,x∈g.IDs:=by
 unfold opAt;by_cases hi:i<g.Ops.length
 ·rw [List.getElem?_eq_getElem hi];unfold zoe at h;rw [List.all_eq_true] at h
  have:=h _ (List.getElem_mem hi)
  rw [List.all_eq_true] at this;exact fun x hx=>by simpa using this x hx
 ·rw [List.getElem?_eq_none (by omega)];exact fun x hx=>by simp at hx
theorem z17g (E:zhe g) (h:zoe g=true):z14n (z4q g) g.Ops.length:=by
 refine ⟨E.len, fun i=>?_, fun i=>?_, fun i p hp=>?_⟩
 ·unfold z4q;rw [List.Nodup,List.pairwise_map];exact (E.nodup i).imp_of_mem fun {a b} ha hb hne e=>hne (zrl (zmh h i b hb) e)
 ·unfold z4q; rw [List.length_map]; exact E.four i
 ·unfold z4q at hp;rw [List.mem_map] at hp;obtain ⟨x,hx,rfl⟩:=hp;rw [← E.ids];exact List.idxOf_lt_length_of_mem (zmh h i x hx)
def zga (g:z0f) (i:Nat):ID:=match g.IDs[i]? with | some x=>x | none=>z32
theorem zar {i:Nat} (h:i<g.IDs.length):zga g i=g.IDs[i]:=by unfold zga; rw [List.getElem?_eq_getElem h]
theorem zvd {x:ID} (h:x∈g.IDs):zga g (g.IDs.idxOf x)=x:=by
 rw [zar (List.idxOf_lt_length_of_mem h)]; simp
theorem zvq (E:zhe g) {i:Nat} (h:i<g.Ops.length):g.IDs.idxOf (zga g i)=i:=by
 have hi:i<g.IDs.length:=by rw [E.ids]; exact h
 rw [zar hi]; exact zlz E.ri hi
theorem zp8 (E:zhe g) {Q:List Nat} (hQ:∀ x∈Q,x<g.Ops.length) {x:ID} (hx:x∈g.IDs):x∈Q.map (zga g)↔g.IDs.idxOf x∈Q:=by
 rw [List.mem_map]
 constructor
 ·rintro ⟨q,hq,rfl⟩; rw [zvq E (hQ q hq)]; exact hq
 ·exact fun h=>⟨_,h,zvd hx⟩
theorem zx5 (E:zhe g) (h:zoe g=true) {Q:List Nat} (hQ:∀ x∈Q,x<g.Ops.length) (i:Nat):((opAt g i).all fun x=>decide (x∈Q.map (zga g)))=decide (∀ p∈z4q g i,p∈Q):=by
 rw [Bool.eq_iff_iff,List.all_eq_true,decide_eq_true_iff];unfold z4q
 constructor
 ·intro hx p hp;rw [List.mem_map] at hp;obtain ⟨x,hx',rfl⟩:=hp;exact (zp8 E hQ (zmh h i x hx')).1 (by simpa using hx x hx')
 ·intro hp x hx;rw [decide_eq_true_iff];exact (zp8 E hQ (zmh h i x hx)).2 (hp _ (List.mem_map.2 ⟨x,hx,rfl⟩))
def Topo (P:Nat→List Nat) (Q:List Nat):Prop:=∀ k (h:k<Q.length),∀ p∈P Q[k],p∈Q.take k
theorem Topo.snoc {P:Nat→List Nat} {Q:List Nat} {i:Nat} (h:Topo P Q) (hi:∀ p∈P i,p∈Q):Topo P (Q++[i]):=by
 intro k hk p hp;by_cases hkq:k<Q.length
 ·rw [List.getElem_append_left hkq] at hp;rw [List.take_append_of_le_length (by omega)];exact h k hkq p hp
 ·have hk':k=Q.length:=by simp at hk; omega
  subst hk';rw [List.getElem_append_right (by omega)] at hp;simp at hp;rw [List.take_left' rfl];exact hi p hp
def zlt (g:z0f) (Q:List Nat) (b:Bool):(List Int) × (List ID) × (List Bool) × Bool:=(il Q,Q.map (zga g),tab g.Ops.length (fun i=>decide (i∈Q)),b)
theorem z18h (E:zhe g) (h:zoe g=true) (Q:List Nat) (hQ:Got (z4q g) g.Ops.length Q) (hT:Topo (z4q g) Q) :
  ∃ b:Sum (List Int) ((List Int) × (List ID) × (List Bool) × Bool),iter (z3y g (zlt g Q true)) 0=some b ∧
   ((∃ i,b=.inr (zlt g (Q++[i]) true)∧Got (z4q g) g.Ops.length (Q++[i])∧Topo (z4q g) (Q++[i])∧i<g.Ops.length∧i∉Q∧(∀ p∈z4q g i,p∈Q)∧∀ k,k<i→(∀ p∈z4q g k,p∈Q)→k∈Q)∨(b=.inr (zlt g Q false)∧∀ i,i<g.Ops.length→(∀ p∈z4q g i,p∈Q)→i∈Q)):=by
 have hlen:=E.len;have hql:=hQ.len;refine zmg (F:=z3y g (zlt g Q true)) (fun s=>∃ i:Nat,s=(i:Int)∧i≤g.Ops.length∧∀ k,k<i→(∀ p∈z4q g k,p∈Q)→k∈Q) (fun s=>g.Ops.length - s.toNat) _ ?_ _ ⟨0,rfl,Nat.zero_le _, fun k hk=>by omega⟩
 rintro s ⟨i,rfl,h1,h2⟩
 by_cases hi:i<g.Ops.length
 ·have hcond:(idx (tab g.Ops.length fun i=>decide (i∈Q)) (i:Int) >>= fun x12=>if !x12 then idx g.Ops (i:Int) >>= fun x15=>z47 (Q.map (zga g)) x15.Preds >>= fun r17=>some r17 else some false)=some (!decide (i∈Q)&&decide (∀ p∈z4q g i,p∈Q)):=by
   rw [zdc hi];simp only [bS];by_cases hm:i∈Q
   ·rw [decide_eq_true hm]; rfl
   ·rw [decide_eq_false hm,if_pos (by simp),z0p hi];simp only [bS];have h4:=(E.op i hi).1;rw [z13v _ _ (by rw [List.length_map]; omega) (by omega)];simp only [bS];rw [← zel hi,zx5 E h hQ.lt]; rfl
  by_cases hm:i∈Q
  ·right
   refine ⟨((i+1:Nat):Int),?_,⟨i+1,rfl,hi, fun k hk hp=>?_⟩, by simp; omega⟩
   ·unfold z3y;rw [if_pos (by simpa using hi)];show ((idx (tab g.Ops.length fun i=>decide (i∈Q)) (i:Int) >>= fun x12=>if !x12 then idx g.Ops (i:Int) >>= fun x15=>z47 (Q.map (zga g)) x15.Preds >>= fun r17=>some r17 else some false) >>= _)=_;rw [hcond,decide_eq_true hm,z0u (by omega)];rfl
   ·by_cases hk':k=i
    ·subst hk'; exact hm
    ·exact h2 k (by omega) hp
  ·by_cases hp:∀ p∈z4q g i,p∈Q
   ·left
    refine ⟨_,?_,.inl ⟨i,rfl,?_,hT.snoc hp,hi,hm,hp,h2⟩⟩
    ·have hii:i<g.IDs.length:=by rw [E.ids]; exact hi
     unfold z3y;rw [if_pos (by simpa using hi)];show ((idx (tab g.Ops.length fun i=>decide (i∈Q)) (i:Int) >>= fun x12=>if !x12 then idx g.Ops (i:Int) >>= fun x15=>z47 (Q.map (zga g)) x15.Preds >>= fun r17=>some r17 else some false) >>= _)=_;rw [hcond,decide_eq_false hm,decide_eq_true hp];simp only [bS];rw [if_pos (by simp),z0p hii];simp only [bS];rw [show (zlt g Q true).1=il Q from rfl, show (zlt g Q true).2.1=Q.map (zga g) from rfl, show (zlt g Q true).2.2.1=tab g.Ops.length (fun i=>decide (i∈Q)) from rfl]
     rw [z1m (by rw [zdx]; simp only [List.length_cons,List.length_nil]; omega)];simp only [bS];rw [z1m (by rw [List.length_map]; simp only [List.length_cons,List.length_nil]; omega),zdc hi];simp only [bS,Int.toNat_natCast];rw [zko (g:=fun j=>decide (j∈Q++[i])) hi (by simp) (fun j _ hj=>by simp [hj])];unfold zlt;rw [zwp,List.map_append,← zar hii];rfl
    ·refine ⟨?_,?_,?_⟩
     ·rw [List.nodup_append]
      exact ⟨hQ.nodup, by simp, fun a ha b hb e=>by
       rw [List.mem_singleton] at hb; subst hb; exact hm (e ▸ ha)⟩
     ·intro y hy;rcases List.mem_append.1 hy with h | h
      ·exact hQ.lt y h
      ·rw [List.mem_singleton] at h; subst h; exact hi
     ·intro y hy;rcases List.mem_append.1 hy with h | h
      ·exact hQ.wf y h
      ·rw [List.mem_singleton] at h; subst h; exact .mk _ fun p hpp=>hQ.wf p (hp p hpp)
   ·right
    refine ⟨((i+1:Nat):Int),?_,⟨i+1,rfl,hi, fun k hk hpk=>?_⟩, by simp; omega⟩
    ·unfold z3y;rw [if_pos (by simpa using hi)];show ((idx (tab g.Ops.length fun i=>decide (i∈Q)) (i:Int) >>= fun x12=>if !x12 then idx g.Ops (i:Int) >>= fun x15=>z47 (Q.map (zga g)) x15.Preds >>= fun r17=>some r17 else some false) >>= _)=_;rw [hcond,decide_eq_false hp,z0u (by omega),Bool.and_false];rfl
    ·by_cases hk':k=i
     ·subst hk'; exact absurd hpk hp
     ·exact h2 k (by omega) hpk
 ·left
  have:i=g.Ops.length:=by omega
  subst this;refine ⟨_,?_,.inr ⟨rfl,h2⟩⟩;unfold z3y;rw [if_neg (by simp)];rfl
theorem zvr (E:zhe g) (h:zoe g=true):∃ Q:List Nat,zav g=some (il Q)∧Got (z4q g) g.Ops.length Q∧Topo (z4q g) Q∧∀ i,i∈Q↔i<g.Ops.length∧Wf (z4q g) i:=by
 have hP:=z17g E h;have hlen:=E.len;have main:=zmg (F:=z8f g)
  (fun s=>∃ Q b,s=zlt g Q b∧Got (z4q g) g.Ops.length Q∧Topo (z4q g) Q∧(b=false→∀ i,i<g.Ops.length→(∀ p∈z4q g i,p∈Q)→i∈Q))
  (fun s=>(g.Ops.length - s.1.length)+(if s.2.2.2 then 1 else 0))
  (fun r=>∃ Q:List Nat,r=il Q∧Got (z4q g) g.Ops.length Q∧Topo (z4q g) Q∧∀ i,i∈Q↔i<g.Ops.length∧Wf (z4q g) i)
  (fun s hs=>by
   obtain ⟨Q,b,rfl,h1,h2,h3⟩:=hs;have hql:=h1.len
   cases b with
   | false =>
    left
    refine ⟨il Q,rfl,Q,rfl,h1,h2, fun i=>⟨fun hi=>⟨h1.lt i hi,h1.wf i hi⟩, fun hi=>?_⟩⟩;obtain ⟨hi,hw⟩:=hi
    revert hi
    induction hw with
    | mk i hpi ih=>exact fun hi=>h3 rfl i hi fun p hp=>ih p hp (hP.lt i p hp)
   | true =>
    right
    obtain ⟨r,e1,e2⟩:=z18h E h Q h1 h2;rcases e2 with ⟨i,rfl,e3,e4,_⟩ | ⟨rfl,e3⟩
    ·refine ⟨_,?_,⟨Q++[i],true,rfl,e3,e4, by simp⟩,?_⟩
     ·unfold z8f;exact (if_pos rfl).trans e1
     ·have:=e3.len
      simp only [zlt,zdx,List.length_append,List.length_cons,List.length_nil] at this ⊢;omega
    ·refine ⟨_,?_,⟨Q,false,rfl,h1,h2, fun _=>e3⟩,?_⟩
     ·unfold z8f;exact (if_pos rfl).trans e1
     ·simp [zlt])
  ([],[],List.replicate g.Ops.length false,true) ⟨[],true, by unfold zlt; rw [zjm]; simp [il],⟨by simp, by simp, by simp⟩, fun k hk=>by simp at hk, by simp⟩
 obtain ⟨r,e1,Q,rfl,e2,e3,e4⟩:=main;refine ⟨Q,?_,e2,e3,e4⟩;unfold zav;rw [zlp (by omega) (by omega)];simp only [bS];rw [e1];simp only [bS]
theorem z138 {n:Nat} {Q:List Nat} (hn:Q.Nodup) (hl:∀ x∈Q,x<n):¬ Q.length<n↔∀ i,i<n→i∈Q:=by
 constructor
 ·intro h i hi;refine Decidable.byContradiction fun hm=>?_
  have:=zht (i::Q) (List.range n) (List.nodup_cons.2 ⟨hm,hn⟩) fun x hx=>by
   rcases List.mem_cons.1 hx with rfl | hx
   ·simpa using hi
   ·simpa using hl x hx
  simp at this; omega
 ·intro h
  have:=zht (List.range n) Q List.nodup_range fun x hx=>h x (by simpa using hx)
  simp at this; omega
def z174 (g:z0f):Prop:=∀ i,i<g.Ops.length→Wf (z4q g) i
theorem z12h (hl:g.Ops.length≤60) (hi:g.IDs.length=g.Ops.length) (ho:∀ i (h:i<g.Ops.length),(g.Ops[i]).Preds.length≤4∧zbc (g.Ops[i]).Preds=true) :
  ∃ c:Int,zkd g=some c∧zau g=some c∧(c=0↔zbc g.IDs=true∧zoe g=true∧z174 g):=by
 have s0:=z131 g (by omega);unfold zkd zau;rw [s0,znv _ (by omega)];simp only [bS];by_cases hr:zbc g.IDs=true
 ·rw [if_pos hr,hr,if_neg (by simp),zlp (by omega) (by omega)];simp only [bS];rw [zlp (by omega) (by omega)];simp only [bS];have E:zhe g:=⟨hl,hi,hr,ho⟩
  have h2:=z13s E g.Ops [] rfl;have h3:=zot E g.Ops [] rfl;have i1:tab g.Ops.length (zi2 g 0)=List.replicate g.Ops.length 0:=by
   rw [zjm]; exact zgy fun j _=>by unfold zi2; rw [if_neg (by omega)]
  have i2:tab g.Ops.length (fun x=>il (zgw g 0 x))=List.replicate g.Ops.length []:=by
   rw [zjm]; exact zgy fun j _=>by unfold zgw; simp [il]
  have i3:il (ready g 0)=[]:=by unfold ready; simp [il]
  simp only [List.length_nil] at h2 h3;rw [i1,i2,i3] at h2;rw [show (0:Int)=((0:Nat):Int) from rfl] at *;rw [h2,h3]
  cases ha:g.Ops.all fun o=>o.Preds.all fun x=>decide (x∈g.IDs) with
  | false=>exact ⟨40,rfl,rfl, by simp [zoe,ha]⟩
  | true =>
   have ha':zoe g=true:=ha;obtain ⟨Q,q1,q2,q3,q4⟩:=zvr E ha';have hP:=z17g E ha';have i4:tab g.Ops.length (zi2 g g.Ops.length)=tab g.Ops.length (cnt (z4q g) []):=zgy fun j hj=>by
    unfold zi2; rw [if_pos hj,zza]
   obtain ⟨b,k1,R,rfl,k2,k3⟩:=z17e hP (tab g.Ops.length (zi2 g g.Ops.length),tab g.Ops.length (fun x=>il (zgw g g.Ops.length x)),il (ready g g.Ops.length)) rfl;have hRQ:R.length=Q.length:=z11g k2 q2.nodup fun x=>by rw [k3,q4]
   simp only [if_true,zpn];rw [i4] at k1;rw [i4, show il (ready g g.Ops.length)=il ((List.range g.Ops.length).filter fun k=>decide ((z4q g k).length=0)) from rfl] at *;rw [show ((0:Nat):Int)=0 from rfl] at *;rw [k1,q1];simp only [bS];rw [zdx,hRQ];have hfull:=z138 q2.nodup q2.lt;by_cases hc:Q.length<g.Ops.length
   ·rw [if_pos (by simpa using hc)];refine ⟨36,rfl,rfl, by simp, fun h=>?_⟩
    have:=hfull.2 fun i hi=>(q4 i).2 ⟨hi,h.2.2 i hi⟩
    exact absurd hc this
   ·rw [if_neg (by simpa using hc)];exact ⟨0,rfl,rfl, fun _=>⟨by first | exact hr | trivial,ha', fun i hi=>((q4 i).1 (hfull.1 hc i hi)).2⟩, fun _=>rfl⟩
 ·have hr':zbc g.IDs=false:=by simpa using hr
  rw [if_neg hr,hr'];exact ⟨32,rfl,rfl, by simp [hr']⟩
def z16t (g:z0f):Prop:=∀ i (h:i<g.Ops.length),zns g.Ops[i]=0∧sha (z8n g.Ops[i])=zga g i
structure zpr (g:z0f):Prop where
 e:zhe g
 ops:z16t g
 ins:zoe g=true
 wf:z174 g
theorem zcb {a:z03} (h:zns a=0):z1h a=0:=by
 unfold zns at h;by_cases hc:z1h a=0
 ·exact hc
 ·rw [if_neg hc] at h; exact h
theorem z15h {g:z0f} (h:z85 g) {o:z03} (ho:o∈g.Ops):inI o.Act.Value.Num∧o.Act.Value.Text.length≤9223372036854775807:=by
 have:=h.2.1.1 o ho
 exact ⟨this.2.2.2.1.2.2.1.2.1,this.2.2.2.1.2.2.1.2.2.2.1⟩
def zjw (g:z0f) (i:Nat) (o:z03):Bool:=decide (zns o=0)&&decide (sha (z8n o)=zga g i)
theorem z12v (hw:z85 g) (hl:g.Ops.length≤60) (hi:g.IDs.length=g.Ops.length):∀ (k i:Nat),g.Ops.length - i=k→i≤g.Ops.length →
  ∃ r:Sum Int Unit,iter (zd1 g) (i:Int)=some r∧iter (z6g g) (i:Int)=some r∧((r=.inr ()∧∀ j (h:j<g.Ops.length),i≤j→zjw g j g.Ops[j]=true)∨(r=.inl 8∧∃ j,∃ h:j<g.Ops.length,zjw g j g.Ops[j]=false)):=by
 intro k
 induction k with
 | zero =>
  intro i hk hle;refine ⟨.inr (),z1l ?_,z1l ?_,.inl ⟨rfl, fun j hj hij=>by omega⟩⟩
  ·unfold zd1; rw [if_neg (by simp; omega)]
  ·unfold z6g; rw [if_neg (by simp; omega)]
 | succ k ih =>
  intro i hk hle;have hlt:i<g.Ops.length:=by omega
  have hii:i<g.IDs.length:=by omega
  obtain ⟨w1,w2⟩:=z15h hw (List.getElem_mem hlt);have e1:zd1 g (i:Int)=if zjw g i g.Ops[i] then some (.inr ((i+1:Nat):Int)) else some (.inl (.inl 8)):=by
   unfold zd1 zjw;rw [if_pos (by simpa using hlt),z0p hlt];simp only [bS];rw [zv4 _ w1 w2,z0u (by omega)];simp only [bS];by_cases hc:z1h g.Ops[i]=0
   ·rw [if_pos hc];simp only [];rw [if_neg (by simp),z0p hii,← zar hii];simp only [bS];by_cases hs:sha (z8n g.Ops[i])=zga g i
    ·rw [decide_eq_true hs,if_neg (by simp),zun _ w1 w2];simp only [bS];by_cases hb:zns g.Ops[i]=0
     ·rw [hb]; rfl
     ·rw [if_pos (by simpa using hb),decide_eq_false hb]; rfl
    ·rw [decide_eq_false hs,Bool.and_false]; rfl
   ·have hb:zns g.Ops[i]≠0:=fun h=>hc (zcb h);rw [if_neg hc,decide_eq_false hb];simp only [];rw [if_pos (by simpa using hc)]; rfl
  have e2:z6g g (i:Int)=if zjw g i g.Ops[i] then some (.inr ((i+1:Nat):Int)) else some (.inl (.inl 8)):=by
   unfold z6g zjw;rw [if_pos (by simpa using hlt),z0p hlt];simp only [bS];rw [zt2 _ w1 w2,z0u (by omega)];simp only [bS];by_cases hb:zns g.Ops[i]=0
   ·rw [hb,if_neg (by simp),z0p hii,← zar hii,zqi _ (zcb hb) w1];simp only [bS];by_cases hs:sha (z8n g.Ops[i])=zga g i
    ·rw [decide_eq_true hs]; rfl
    ·rw [decide_eq_false hs]; rfl
   ·rw [if_pos (by simpa using hb),decide_eq_false hb]; rfl
  cases hg:zjw g i g.Ops[i] with
  | false =>
   rw [hg] at e1 e2;exact ⟨_,z1l e1,z1l e2,.inr ⟨rfl,i,hlt,hg⟩⟩
  | true =>
   rw [hg] at e1 e2;obtain ⟨r,h1,h2,h3⟩:=ih (i+1) (by omega) (by omega);refine ⟨r, by rw [z29 e1]; exact h1, by rw [z29 e2]; exact h2,?_⟩;rcases h3 with ⟨h3,h4⟩ | h3
   ·refine .inl ⟨h3, fun j hj hij=>?_⟩;by_cases hji:j=i
    ·subst hji; exact hg
    ·exact h4 j hj (by omega)
   ·exact .inr h3
theorem z13a (hw:z85 g):∃ c:Int,zjs g=some c∧zax g=some c∧(c=0↔zpr g):=by
 unfold zjs zax;by_cases hl:60<g.Ops.length
 ·have d:decide (60<(g.Ops.length:Int))=true:=by simp; omega
  rw [d];exact ⟨4,rfl,rfl, by simp, fun h=>by have:=h.e.len; omega⟩
 have d:decide (60<(g.Ops.length:Int))=false:=by simp; omega
 simp only [d,Bool.false_eq_true,if_false];by_cases hi:g.IDs.length=g.Ops.length
 ·have d2:((g.IDs.length:Int) != (g.Ops.length:Int))=false:=by simp; omega
  simp only [d2,Bool.false_eq_true,if_false];obtain ⟨r,h1,h2,h3⟩:=z12v hw (by omega) hi g.Ops.length 0 rfl (by omega);rw [show (0:Int)=((0:Nat):Int) from rfl,h1,h2];rcases h3 with ⟨rfl,h4⟩ | ⟨rfl,j,hj,h4⟩
  ·have hok:z16t g:=fun i h=>by
    have:=h4 i h (by omega)
    unfold zjw at this
    simpa using this
   obtain ⟨c,s1,s2,s3⟩:=z12h (g:=g) (by omega) hi fun i h=>⟨(z33 (zcb (hok i h).1)).1,(z33 (zcb (hok i h).1)).2.1⟩;refine ⟨c,?_,?_,s3.trans ⟨fun ⟨a,b,d⟩=>⟨⟨by omega,hi,a, fun i h=>⟨(z33 (zcb (hok i h).1)).1,(z33 (zcb (hok i h).1)).2.1⟩⟩,hok,b,d⟩, fun h=>⟨h.e.ri,h.ins,h.wf⟩⟩⟩
   ·simp only [zpn]; rw [s1]; simp only [bS]
   ·simp only [zpn]; rw [s2]; simp only [bS]
  ·refine ⟨8,rfl,rfl, by simp, fun h=>?_⟩
   have:=h.ops j hj
   unfold zjw at h4;simp [this] at h4
 ·have d2:((g.IDs.length:Int) != (g.Ops.length:Int))=true:=by simp; omega
  rw [d2];exact ⟨8,rfl,rfl, by simp, fun h=>absurd h.e.ids hi⟩
end
section
open Go
variable {g:z0f}
theorem zmk {κ β:Type} [DecidableEq κ] (k:κ) (v:β) (x:κ):∀ m:List (κ × β),zfh (zo6 m k v) x=if x=k then some v else zfh m x
 | []=>rfl
 | p::m=>by
  have ih:=zmk k v x m;unfold zo6;by_cases h:k=p.1
  ·rw [if_pos h];show (if x=p.1 then some v else zfh m x)=if x=k then some v else if x=p.1 then some p.2 else zfh m x
   rw [← h];by_cases hx:x=k
   ·rw [if_pos hx,if_pos hx]
   ·rw [if_neg hx,if_neg hx,if_neg hx]
  ·rw [if_neg h];show (if x=p.1 then some p.2 else zfh (zo6 m k v) x)=if x=k then some v else if x=p.1 then some p.2 else zfh m x
   rw [ih];by_cases hx:x=p.1
   ·rw [if_pos hx,if_pos hx,if_neg (fun e=>h (by rw [← hx,e]))]
   ·rw [if_neg hx,if_neg hx]
def znq (g:z0f) (m:Nat→Bool):List ID:=((List.range g.Ops.length).filter m).map (zga g)
theorem ztp (E:zhe g) {m:Nat→Bool} {x:ID}:x∈znq g m↔x∈g.IDs∧m (g.IDs.idxOf x)=true:=by
 unfold znq;rw [List.mem_map]
 constructor
 ·rintro ⟨i,hi,rfl⟩
  rw [List.mem_filter,List.mem_range] at hi;have hii:i<g.IDs.length:=by rw [E.ids]; exact hi.1
  refine ⟨by rw [zar hii]; exact List.getElem_mem _,?_⟩;rw [zvq E hi.1]; exact hi.2
 ·rintro ⟨h1,h2⟩
  refine ⟨_,?_,zvd h1⟩;rw [List.mem_filter,List.mem_range,← E.ids];exact ⟨List.idxOf_lt_length_of_mem h1,h2⟩
theorem zrg (E:zhe g) (m:Nat→Bool):zbc (znq g m)=true:=by
 rw [zqt];unfold znq;rw [List.pairwise_map]
 have:(List.range g.Ops.length).Pairwise fun a b=>a<g.Ops.length∧b<g.Ops.length∧a<b:=by
  rw [List.pairwise_iff_getElem];intro i j hi hj hij;simp at hi hj ⊢;omega
 refine (this.filter m).imp fun {a b} hab=>?_;have ha:a<g.IDs.length:=by rw [E.ids]; exact hab.1
 have hb:b<g.IDs.length:=by rw [E.ids]; exact hab.2.1
 rw [zar ha,zar hb];exact zl2 E.ri ha hb hab.2.2
end
section
open Go
variable {g:z0f}
theorem z161 {o:z03} (h:z73 o=some false):o.Preds.length≤20∧o.Act.Key.length≤100∧o.Act.Value.Text.length≤100:=by
 unfold z73 at h;by_cases h1:20<o.Preds.length
 ·rw [if_pos (by simp; omega)] at h; exact absurd h (by simp)
 ·rw [if_neg (by simp; omega)] at h;by_cases h2:100<o.Act.Key.length
  ·rw [if_pos (by simp; omega)] at h; exact absurd h (by simp)
  ·rw [if_neg (by simp; omega)] at h;simp only [bS] at h;have h:=Option.some.inj h;rw [decide_eq_false_iff_not] at h;exact ⟨by omega, by omega, by omega⟩
theorem zr6 (o:z03):∃ b,z73 o=some b:=by
 unfold z73
 split
 ·exact ⟨_,rfl⟩
 ·split
  ·exact ⟨_,rfl⟩
  ·exact ⟨_,rfl⟩
structure zv0 (g:z0f):Prop where
 ops:g.Ops.length≤70
 ids:g.IDs.length≤70
 op:∀ i (h:i<g.Ops.length),g.Ops[i].Preds.length≤20∧g.Ops[i].Act.Key.length≤100∧g.Ops[i].Act.Value.Text.length≤100
theorem zph (g:z0f):∀ (k i:Nat),71 - i=k→i≤71→∃ r:Sum Bool Unit,iter (z51 g) (i:Int)=some r∧(r=.inl true∨(r=.inr ()∧∀ j (h:j<g.Ops.length),i≤j→j≤70→g.Ops[j].Preds.length≤20∧g.Ops[j].Act.Key.length≤100∧g.Ops[j].Act.Value.Text.length≤100))
 | 0,i,h1,h2=>by
  refine ⟨.inr (),z1l ?_,.inr ⟨rfl, fun j hj h3 h4=>by omega⟩⟩;unfold z51
  split
  ·rw [if_neg (by simp; omega)]
  ·rfl
 | k+1,i,h1,h2=>by
  by_cases hi:i<g.Ops.length
  ·obtain ⟨b,hb⟩:=zr6 g.Ops[i];have hF:z51 g (i:Int)=if b then some (.inl (.inl true)) else some (.inr ((i+1:Nat):Int)):=by
    unfold z51;rw [if_pos (by simpa using hi),if_pos (by simp; omega),z0p hi];simp only [bS];rw [hb,z0u (by omega)];simp only [bS]
   cases b with
   | true=>exact ⟨_,z1l hF,.inl rfl⟩
   | false =>
    rw [if_neg (by simp)] at hF;obtain ⟨r,e1,e2⟩:=zph g k (i+1) (by omega) (by omega);refine ⟨r, by rw [z29 hF]; exact e1,e2.imp id fun ⟨e2,e3⟩=>⟨e2, fun j hj h3 h4=>?_⟩⟩;by_cases hji:j=i
    ·subst hji; exact z161 hb
    ·exact e3 j hj (by omega) h4
  ·refine ⟨.inr (),z1l ?_,.inr ⟨rfl, fun j hj h3 h4=>by omega⟩⟩;unfold z51;rw [if_neg (by simpa using hi)]
theorem z12o (g:z0f):∃ b,z4m g=some b∧(b=false→zv0 g):=by
 obtain ⟨r,e1,e2⟩:=zph g 71 0 rfl (by omega);unfold z4m;rw [show (0:Int)=((0:Nat):Int) from rfl,e1];rcases e2 with rfl | ⟨rfl,e3⟩
 ·exact ⟨true,rfl, fun h=>absurd h (by simp)⟩
 ·simp only [zpn,bS];have key:∀ (P:Bool),(P=false→g.Ops.length≤70∧g.IDs.length≤70)→P=false→zv0 g:=fun P h hp=>⟨(h hp).1,(h hp).2, fun i hi=>e3 i hi (Nat.zero_le _) (by have:=(h hp).1; omega)⟩;by_cases hA:70<g.Ops.length
  ·have a1:decide (70<(g.Ops.length:Int))=true:=by simp; omega
   have a2:decide ((g.Ops.length:Int)≤60)=false:=by simp; omega
   rw [a1,a2];simp only [if_true,Bool.false_eq_true,if_false];exact ⟨true, by split <;> rfl, fun h=>absurd h (by simp)⟩
  ·have a1:decide (70<(g.Ops.length:Int))=false:=by simp; omega
   rw [a1];simp only [Bool.false_eq_true,if_false];have k2:=key (decide (70<(g.IDs.length:Int))) fun h=>by simp at h; omega
   split
   ·split
    ·exact ⟨true,rfl, fun h=>absurd h (by simp)⟩
    ·exact ⟨_,rfl,k2⟩
   ·exact ⟨_,rfl,k2⟩
end
section
open Go
variable {g:z0f}
theorem z16l {α:Type} {l:List α} {n:Nat} (h:n<l.length):l.take (n+1)=l.take n++[l[n]]:=by
 rw [List.take_add_one,List.getElem?_eq_getElem h]; rfl
end
section
open Go Go.Sort
theorem zw0 {κ β:Type} [DecidableEq κ] (x:κ):∀ m:List (κ × β),zfh m x=none↔x∉m.map Prod.fst
 | []=>by simp [zfh]
 | p::m=>by
  unfold zfh;by_cases h:x=p.1
  ·rw [if_pos h]; simp [h]
  ·rw [if_neg h,zw0 x m]; simp [h]
theorem zyp {κ β:Type} [DecidableEq κ] (k:κ) (v:β):∀ m:List (κ × β),(m.map Prod.fst).Nodup→((zo6 m k v).map Prod.fst).Nodup∧∀ x,x∈(zo6 m k v).map Prod.fst→x=k∨x∈m.map Prod.fst
 | [],_=>by simp [zo6]
 | p::m,h=>by
  simp only [List.map_cons,List.nodup_cons] at h;obtain ⟨h1,h2⟩:=zyp k v m h.2;unfold zo6;by_cases hk:k=p.1
  ·rw [if_pos hk];refine ⟨by simp only [List.map_cons,List.nodup_cons]; exact h, fun x hx=>.inr ?_⟩
   simpa using hx
  ·rw [if_neg hk];refine ⟨?_, fun x hx=>?_⟩
   ·simp only [List.map_cons,List.nodup_cons];refine ⟨fun hx=>?_,h1⟩;rcases h2 _ hx with e | e
    ·exact hk e.symm
    ·exact h.1 e
   ·simp only [List.map_cons,List.mem_cons] at hx ⊢;rcases hx with e | e
    ·exact .inr (.inl e)
    ·rcases h2 _ e with e | e
     ·exact .inl e
     ·exact .inr (.inr e)
theorem zrx {κ β:Type} [DecidableEq κ] (k x:κ):∀ m:List (κ × β),(m.map Prod.fst).Nodup→zfh (zqw m k) x=if x=k then none else zfh m x
 | [],_=>by simp [zqw,zfh]
 | p::m,h=>by
  simp only [List.map_cons,List.nodup_cons] at h;unfold zqw;by_cases hk:k=p.1
  ·rw [if_pos hk];by_cases hx:x=k
   ·rw [if_pos hx,zw0,hx,hk]; exact h.1
   ·rw [if_neg hx];show _=if x=p.1 then some p.2 else zfh m x
    rw [if_neg (fun e=>hx (e.trans hk.symm))]
  ·rw [if_neg hk];show (if x=p.1 then some p.2 else zfh (zqw m k) x)=if x=k then none else if x=p.1 then some p.2 else zfh m x
   rw [zrx k x m h.2];by_cases hx:x=p.1
   ·rw [if_pos hx,if_pos hx,if_neg (fun e=>hk (e.symm.trans hx))]
   ·rw [if_neg hx,if_neg hx]
theorem z10y {κ β:Type} [DecidableEq κ] (k:κ):∀ m:List (κ × β),(m.map Prod.fst).Nodup→((zqw m k).map Prod.fst).Nodup∧∀ x,x∈(zqw m k).map Prod.fst→x∈m.map Prod.fst
 | [],_=>by simp [zqw]
 | p::m,h=>by
  simp only [List.map_cons,List.nodup_cons] at h;obtain ⟨h1,h2⟩:=z10y k m h.2;unfold zqw;by_cases hk:k=p.1
  ·rw [if_pos hk]; exact ⟨h.2, fun x hx=>by simp only [List.map_cons,List.mem_cons]; exact .inr hx⟩
  ·rw [if_neg hk];refine ⟨?_, fun x hx=>?_⟩
   ·simp only [List.map_cons,List.nodup_cons];exact ⟨fun hx=>h.1 (h2 _ hx),h1⟩
   ·simp only [List.map_cons,List.mem_cons] at hx ⊢;exact hx.imp id (h2 _)
def zum {α:Type} (cl:α→Option Bool) (a0:List α) (s2:Int):Option (Sum (Sum Int Unit) Int) :=
 if decide (s2<(a0.length:Int)) then
  idx a0 s2 >>= fun x4 =>
  cl x4 >>= fun r6 =>
  if r6 then
   some (.inl (.inl s2))
  else
   some (.inr (w64 (s2+1)))
 else
  some (.inl (.inr ()))
theorem zpm {α:Type} (cl:α→Option Bool) (p:α→Bool) (l:List α) (hp:∀ x∈l,cl x=some (p x)) (hl:l.length≤9223372036854775806):∀ rest pre:List α,l=pre++rest →
  iter (zum cl l) (pre.length:Int)=some (match rest.findIdx? p with | some i=>.inl ((pre.length+i:Nat):Int) | none=>.inr ())
 | [],pre,e=>by
  subst e;refine z1l ?_;unfold zum;rw [if_neg (by simp)]; rfl
 | c::rest,pre,e=>by
  have hlen:pre.length<l.length:=by rw [e]; simp
  have hget:l[pre.length]'hlen=c:=by subst e; simp
  have hF:zum cl l (pre.length:Int)=if p c then some (.inl (.inl (pre.length:Int))) else some (.inr ((pre.length+1:Nat):Int)):=by
   unfold zum;rw [if_pos (by simpa using hlen),z0p hlen,hget];simp only [bS];rw [hp c (by rw [e]; simp),z0u (by omega)]
   simp only [bS]
  rw [List.findIdx?_cons]
  cases hc:p c with
  | true =>
   rw [hc,if_pos rfl] at hF;rw [z1l hF]; simp
  | false =>
   rw [hc,if_neg (by simp)] at hF;have ih:=zpm cl p l hp hl rest (pre++[c]) (by simp [e]);simp only [List.length_append,List.length_cons,List.length_nil,Nat.zero_add] at ih;rw [z29 hF,ih]
   cases rest.findIdx? p with
   | none=>simp
   | some i=>simp; omega
theorem zw1 {α:Type} (cl:α→Option Bool) (p:α→Bool) (l:List α) (hp:∀ x∈l,cl x=some (p x)) (hl:l.length≤9223372036854775806):iter (zum cl l) 0=some (match l.findIdx? p with | some i=>.inl (i:Int) | none=>.inr ()):=by
 have:=zpm cl p l hp hl l [] rfl
 simpa using this
theorem z12u {α:Type} (p:α→Bool) (l:List α):(l.findIdx? p).isSome=l.any p:=by
 induction l with
 | nil=>rfl
 | cons a l ih =>
  rw [List.findIdx?_cons,List.any_cons]
  cases h:p a with
  | true=>rfl
  | false=>simp
def wfO (l:List z03):Prop:=∀ o∈l,inI o.Act.Value.Num∧o.Act.Value.Text.length≤9223372036854775807
def oid (o:z03):ID:=sha (z8n o)
def nmd (o:z03):z0d:=⟨o,oid o⟩
def zow:List z03→Int
 | []=>0
 | o::l=>if z1h o=0 then zow l else z1h o
theorem zdu:∀ l:List z03,zow l=0↔∀ o∈l,z1h o=0
 | []=>by simp [zow]
 | o::l=>by
  unfold zow;by_cases h:z1h o=0
  ·rw [if_pos h,zdu l]; simp [h]
  ·rw [if_neg h]; simp [h]
theorem z14i (l:List z03) (hw:wfO l) (hl:l.length≤60):∀ rest pre:List z03,l=pre++rest→iter (z8l l) (pre.map nmd,(pre.length:Int))=some (if zow rest=0 then .inr (l.map nmd) else .inl ([],zow rest))
 | [],pre,e=>by
  subst e;refine z1l ?_;unfold z8l;rw [if_neg (by simp)];simp [zow]
 | o::rest,pre,e=>by
  have hlen:pre.length<l.length:=by rw [e]; simp
  have hget:l[pre.length]'hlen=o:=by subst e; simp
  obtain ⟨w1,w2⟩:=hw o (by rw [e]; simp)
  have hfb:zow (o::rest)=if z1h o=0 then zow rest else z1h o:=rfl
  have hF:z8l l (pre.map nmd,(pre.length:Int))=if z1h o=0 then some (.inr ((pre++[o]).map nmd,((pre.length+1:Nat):Int))) else some (.inl (.inl ([],z1h o))):=by
   unfold z8l;rw [if_pos (by simpa using hlen)];simp only [];rw [z0p hlen,hget];simp only [bS];rw [zv4 o w1 w2];simp only [bS];by_cases h:z1h o=0
   ·rw [if_pos h,if_pos h,if_neg (by simp)];rw [zrc _ (by have:=(z33 h).1; omega)];simp only [bS];rw [z1m (by simp only [List.length_map,List.length_cons,List.length_nil]; omega)];simp only [bS];rw [z0u (by omega),List.map_append];rfl
   ·rw [if_neg h,if_neg h,if_pos (by simpa using h)]
  by_cases h:z1h o=0
  ·rw [if_pos h] at hF;have ih:=z14i l hw hl rest (pre++[o]) (by simp [e]);simp only [List.length_append,List.length_cons,List.length_nil,Nat.zero_add] at ih;rw [z29 hF,ih,hfb,if_pos h]
  ·rw [if_neg h] at hF;rw [z1l hF,hfb,if_neg h,if_neg h]
def zbb (l:List z0d):List ID:=l.map (·.id)
theorem z14h (S:List z0d) (hS:S.length≤60):∀ (rest pre:List z0d) (m:List (ID × Bool)),S=pre++rest→(m.map Prod.fst).Nodup→(zbb pre).Nodup→(∀ x,(zfh m x).getD false=decide (x∈zbb pre)) →
  ∃ r,iter (z8j S) (m,(pre.length:Int))=some r∧((r=.inl ([],14)∧¬ (zbb S).Nodup)∨∃ m',r=.inr m'∧(zbb S).Nodup∧(m'.map Prod.fst).Nodup∧∀ x,(zfh m' x).getD false=decide (x∈zbb S))
 | [],pre,m,e,hm,hn,hx=>by
  rw [List.append_nil] at e;subst e;refine ⟨.inr m,z1l ?_,.inr ⟨m,rfl,hn,hm,hx⟩⟩;unfold z8j;rw [if_neg (by simp)]
 | c::rest,pre,m,e,hm,hn,hx=>by
  have hlen:pre.length<S.length:=by rw [e]; simp
  have hget:S[pre.length]'hlen=c:=by subst e; simp
  have hF:z8j S (m,(pre.length:Int))=if decide (c.id∈zbb pre) then some (.inl (.inl ([],14))) else some (.inr (zo6 m c.id true,((pre.length+1:Nat):Int))):=by
   unfold z8j;rw [if_pos (by simpa using hlen)];simp only [];rw [z0p hlen,hget];simp only [bS];rw [hx,z0u (by omega)]
  by_cases hc:c.id∈zbb pre
  ·rw [decide_eq_true hc,if_pos rfl] at hF;refine ⟨_,z1l hF,.inl ⟨rfl, fun hS=>?_⟩⟩;rw [e] at hS;unfold zbb at hS hc;rw [List.map_append,List.map_cons,List.nodup_append] at hS;exact hS.2.2 _ hc _ (by simp) rfl
  ·rw [decide_eq_false hc,if_neg (by simp)] at hF;have hids:zbb (pre++[c])=zbb pre++[c.id]:=by simp [zbb]
   obtain ⟨r,h1,h2⟩:=z14h S hS rest (pre++[c]) (zo6 m c.id true) (by simp [e]) (zyp _ _ m hm).1 (by
    rw [hids,List.nodup_append];refine ⟨hn, by simp, fun a ha b hb=>?_⟩;simp only [List.mem_singleton] at hb;subst hb
    exact fun e=>hc (e ▸ ha)) (fun x=>by
    rw [zmk,hids];by_cases hxc:x=c.id
    ·rw [if_pos hxc]; simp [hxc]
    ·rw [if_neg hxc,hx]; simp [hxc])
   simp only [List.length_append,List.length_cons,List.length_nil,Nat.zero_add] at h1;exact ⟨r, by rw [z29 hF]; exact h1,h2⟩
def free (W:List ID) (x:z0d):Bool:=x.o.Preds.all fun p=>!decide (p∈W)
def zcv:Nat→List z0d→List z0d
 | 0,_=>[]
 | n+1,left=>match left.findIdx? (free (zbb left)) with
  | none=>[]
  | some i=>match left[i]? with
   | none=>[]
   | some x=>x::zcv n (left.eraseIdx i)
theorem z118 (x:z0d) (hx:x.o.Preds.length≤4) (m:List (ID × Bool)) (W:List ID) (hm:∀ x,(zfh m x).getD false=decide (x∈W)):z7w x m=some (free W x):=by
 have h:=zw1 (fun y=>z7o y m) (fun y=>decide (y∈W)) x.o.Preds (fun y _=>by unfold z7o; simp only [bS]; rw [hm]) (by omega);unfold z7w z2c z2l;have hE:z3n x.o.Preds m=zum (fun y=>z7o y m) x.o.Preds:=rfl;rw [hE,h];have ha:=z12u (fun y=>decide (y∈W)) x.o.Preds;have hfr:free W x=!(x.o.Preds.any fun y=>decide (y∈W)):=by unfold free; rw [List.all_eq_not_any_not]; simp
 rw [hfr,← ha]
 cases x.o.Preds.findIdx? fun y=>decide (y∈W) with
 | none=>rfl
 | some i=>simp only [or_l,bS]; simp
theorem zxb (left:List z0d) (hl:left.length≤60) (hp:∀ x∈left,x.o.Preds.length≤4) (m:List (ID × Bool)) (W:List ID) (hm:∀ x,(zfh m x).getD false=decide (x∈W)) :
  z1e left m=some (match left.findIdx? (free W) with | some i=>(i:Int) | none=>-1):=by
 have h:=zw1 (fun y=>z7w y m) (free W) left (fun y hy=>z118 y (hp y hy) m W hm) (by omega);unfold z1e;have hE:z2r left m=zum (fun y=>z7w y m) left:=rfl;rw [hE,h]
 cases left.findIdx? (free W) with
 | none=>rfl
 | some i=>rfl
theorem zfi (l:List z0d) (i:Nat):zbb (l.eraseIdx i)=(zbb l).eraseIdx i:=by
 unfold zbb;rw [List.eraseIdx_eq_take_drop_succ,List.eraseIdx_eq_take_drop_succ,List.map_append,List.map_take,List.map_drop]
theorem znu {l:List ID} (hn:l.Nodup) {i:Nat} (hi:i<l.length) (x:ID):x∈l.eraseIdx i↔x∈l∧x≠l[i]:=by
 rw [List.mem_eraseIdx_iff_getElem]
 constructor
 ·rintro ⟨j,hj,h1,h2⟩
  subst h2;exact ⟨List.getElem_mem hj, fun e=>h1 (zhf hn hj hi e)⟩
 ·rintro ⟨h1,h2⟩
  obtain ⟨j,hj,rfl⟩:=List.getElem_of_mem h1;exact ⟨j,hj, fun e=>h2 (by subst e; rfl),rfl⟩
theorem z145:∀ (n:Nat) (left:List z0d) (m:List (ID × Bool)) (out:List z0d),left.length=n→out.length+n≤60→(∀ x∈left,x.o.Preds.length≤4)→(zbb left).Nodup→(m.map Prod.fst).Nodup→(∀ x,(zfh m x).getD false=decide (x∈zbb left)) →
  iter z6y (left,m,out)=some (if (zcv n left).length=n then .inr (out++zcv n left) else .inl ([],36))
 | 0,left,m,out,hl,ho,hp,hn,hk,hm=>by
  refine z1l ?_;unfold z6y;rw [if_neg (by simp [hl])];simp [zcv]
 | n+1,left,m,out,hl,ho,hp,hn,hk,hm=>by
  have hf:=zxb left (by omega) hp m _ hm
  cases hi:left.findIdx? (free (zbb left)) with
  | none =>
   rw [hi] at hf;have hc:zcv (n+1) left=[]:=by unfold zcv; rw [hi]
   rw [hc,if_neg (by simp)];refine z1l ?_;unfold z6y;rw [if_pos (by simp; omega)];simp only [];rw [hf];rfl
  | some i =>
   rw [hi] at hf;have hil:i<left.length:=by
    have:=List.findIdx?_eq_some_iff_findIdx_eq.1 hi
    exact this.1
   have hc:zcv (n+1) left=left[i]::zcv n (left.eraseIdx i):=by
    conv=>lhs; unfold zcv
    rw [hi];simp only [];rw [List.getElem?_eq_getElem hil]
   have hidl:i<(zbb left).length:=by simpa [zbb] using hil
   have hF:z6y (left,m,out)=some (.inr (left.eraseIdx i,zqw m left[i].id,out++[left[i]])):=by
    unfold z6y;rw [if_pos (by simp; omega)];simp only [];rw [hf];simp only [bS];rw [if_neg (by simp),z0p hil];simp only [bS];rw [z1m (by simp only [List.length_cons,List.length_nil]; omega)];simp only [bS];rw [z0u (by omega)];unfold delL;rw [z4f ⟨⟨by omega, by omega⟩, by simp; omega, by omega⟩];simp only [bS,Int.toNat_natCast];rw [List.eraseIdx_eq_take_drop_succ]
   have hlen:(left.eraseIdx i).length=n:=by rw [List.length_eraseIdx_of_lt hil]; omega
   rw [z29 hF,z145 n (left.eraseIdx i) _ _ hlen (by simp; omega) (fun x hx=>hp x (List.mem_of_mem_eraseIdx hx)) (by rw [zfi]; exact hn.sublist (List.eraseIdx_sublist _ _)) (z10y _ m hk).1 (fun x=>by
    rw [zrx _ _ m hk,zfi];have e:(zbb left)[i]=left[i].id:=by simp [zbb]
    by_cases hx:x=left[i].id
    ·rw [if_pos hx]
     symm
     simp only [Option.getD_none,decide_eq_false_iff_not];rw [znu hn hidl,e];exact fun h=>h.2 hx
    ·rw [if_neg hx,hm]
     congr 1
     rw [znu hn hidl,e]
     simp [hx]),hc]
   by_cases hq:(zcv n (left.eraseIdx i)).length=n
   ·rw [if_pos hq,if_pos (by simp [hq]),List.append_assoc]; rfl
   ·rw [if_neg hq,if_neg (by simp [hq])]
def zin (l:List z03):List z0d:=srtG zyr cfN (l.map nmd)
theorem zbh (l:List z03):(zin l).Perm (l.map nmd):=zt7 zyr cfN swoN _
theorem zms (l:List z03):(zin l).Pairwise fun x y=>kd x.id≤kd y.id:=(zuu zyr cfN swoN (l.map nmd)).imp fun {a b} h=>by
 have:=ltN b a
 unfold ltOf at this;rw [decide_eq_false h] at this
 have:=(decide_eq_false_iff_not.1 this.symm)
 omega
theorem zmd (l:List z03):(zin l).length=l.length:=by rw [(zbh l).length_eq,List.length_map]
def zjb (l:List z03):List z0d × Int :=
 if 60<l.length then ([],4) else if zow l≠0 then ([],zow l) else if ¬ (zbb (zin l)).Nodup then ([],14) else if (zcv l.length (zin l)).length=l.length then (zcv l.length (zin l),0) else ([],36)
theorem znr (l:List z03) (hw:wfO l):zbe l=some (zjb l):=by
 unfold zbe zjb;by_cases h60:60<l.length
 ·rw [if_pos (by simp; omega),if_pos h60]
 ·rw [if_neg (by simp; omega),if_neg h60];have h0:=z14i l hw (by omega) l [] rfl;simp only [List.map_nil,List.length_nil] at h0;rw [show ((0:Nat):Int)=0 from rfl] at h0;rw [h0];by_cases hb:zow l=0
  ·rw [if_pos hb,if_neg (by simp [hb])];simp only [zpn];have hs:z12z (l.map nmd)=some (zin l):=by
    unfold z12z;rw [z4f (by simp; omega)];rfl
   rw [hs];simp only [bS];have hlen:=zmd l;obtain ⟨r,h1,h2⟩:=z14h (zin l) (by omega) (zin l) [] [] rfl (by simp) (by simp [zbb]) (fun x=>by simp [zfh,zbb]);simp only [List.length_nil] at h1;rw [show ((0:Nat):Int)=0 from rfl] at h1;rw [h1];rcases h2 with ⟨rfl,h2⟩ | ⟨m,rfl,h2,h3,h4⟩
   ·rw [if_pos h2]; rfl
   ·rw [if_neg (fun h=>h h2)];simp only [zpn];have hp:∀ x∈zin l,x.o.Preds.length≤4:=fun x hx=>by
     obtain ⟨o,ho,rfl⟩:=List.mem_map.1 ((zbh l).mem_iff.1 hx);exact (z33 ((zdu l).1 hb o ho)).1
    rw [z145 l.length (zin l) m [] hlen (by simp; omega) hp h2 h3 h4];by_cases hq:(zcv l.length (zin l)).length=l.length
    ·rw [if_pos hq,if_pos hq]; rfl
    ·rw [if_neg hq,if_neg hq]; rfl
  ·rw [if_neg hb,if_pos hb]; rfl
end
section
open Go
theorem zv8 (l:List ID) (x:ID) (hl:l.length≤9223372036854775806):∀ (rest pre:List ID),l=pre++rest→iter (z3v l x) (pre.length:Int)=some (if x∈rest then .inl ((pre.length+rest.idxOf x:Nat):Int) else .inr ())
 | [],pre,e=>by
  refine z1l ?_;subst e;unfold z3v;rw [if_neg (by simp)]
  simp
 | c::rest,pre,e=>by
  have hlen:pre.length<l.length:=by rw [e]; simp
  have hget:l[pre.length]'hlen=c:=by subst e; simp
  have hF:z3v l x (pre.length:Int)=if decide (c=x) then some (.inl (.inl (pre.length:Int))) else some (.inr ((pre.length+1:Nat):Int)):=by
   unfold z3v;rw [if_pos (by simpa using hlen),z0p hlen,hget,z0u (by omega)];simp only [bS]
  by_cases hc:c=x
  ·rw [decide_eq_true hc,if_pos rfl] at hF;rw [z1l hF,if_pos (by simp [hc])];simp [hc]
  ·rw [decide_eq_false hc,if_neg (by simp)] at hF;have ih:=zv8 l x hl rest (pre++[c]) (by simp [e]);simp only [List.length_append,List.length_cons,List.length_nil,Nat.zero_add] at ih;rw [z29 hF,ih];by_cases hx:x∈rest
   ·have hi:(c::rest).idxOf x=rest.idxOf x+1:=by
     rw [List.idxOf_cons, show (c==x)=false by simpa using hc]; rfl
    rw [if_pos hx,if_pos (by simp [hx]),hi]
    congr 3; omega
   ·rw [if_neg hx,if_neg (by simp [hx]; exact fun e=>hc e.symm)]
theorem zwk (l:List ID) (x:ID) (hl:l.length≤9223372036854775806):z3u l x=some (if x∈l then (l.idxOf x:Int) else -1):=by
 have h:=zv8 l x hl l [] rfl;unfold z3u;rw [show (0:Int)=(([]:List ID).length:Int) from rfl,h];by_cases hx:x∈l
 ·rw [if_pos hx,if_pos hx]; simp [or_l]
 ·rw [if_neg hx,if_neg hx]; rfl
theorem zma {F:Int→Option (Sum (Sum Bool Unit) Int)} (n:Nat) (q:Nat→Bool) (h1:∀ i,i<n→F (i:Int)=if q i then some (.inr ((i+1:Nat):Int)) else some (.inl (.inl false))) (h2:F (n:Int)=some (.inl (.inr ()))):iter F 0=some (if (List.range n).all q then .inr () else .inl false):=by
 have key:∀ k i,n - i=k→i≤n→iter F (i:Int)=some (if (List.range' i k).all q then .inr () else .inl false):=by
  intro k
  induction k with
  | zero =>
   intro i hk hi
   have:i=n:=by omega
   subst this;rw [z1l h2]; rfl
  | succ k ih =>
   intro i hk hi;have hF:=h1 i (by omega);rw [List.range'_succ,List.all_cons]
   cases hq:q i with
   | true =>
    rw [hq,if_pos rfl] at hF;rw [z29 hF,ih (i+1) (by omega) (by omega),Bool.true_and]
   | false =>
    rw [hq,if_neg (by simp)] at hF;rw [z1l hF]; simp
 have:=key n 0 (by omega) (by omega)
 rw [List.range_eq_range']; exact this
theorem zjt {α β:Type} {F:List β × Int→Option (Sum (List β) (List β × Int))} (l:List α) (g:α→List β) (s0:List β) (h1:∀ i (h:i<l.length),F (s0++(l.take i).flatMap g,(i:Int))=some (.inr (s0++(l.take i).flatMap g++g l[i],((i+1:Nat):Int)))) (h2:F (s0++l.flatMap g,(l.length:Int))=some (.inl (s0++l.flatMap g))):iter F (s0,0)=some (s0++l.flatMap g):=by
 have main:=z3m (F:=F) (b:=s0++l.flatMap g) l.length (fun i=>(s0++(l.take i).flatMap g,(i:Int))) (fun i hi=>by
  rw [h1 i hi]
  simp only [z16l hi,List.flatMap_append,List.flatMap_cons,List.flatMap_nil,List.append_nil,List.append_assoc]) (by simpa using h2)
 simpa using main
theorem zca {α β:Type} (f:α→β) (l:List α):(l.flatMap fun x=>[f x])=l.map f:=by
 induction l with
 | nil=>rfl
 | cons a l ih=>rw [List.flatMap_cons,ih]; rfl
theorem zpw (l:List z03) (hw:wfO l) (hl:l.length≤1000) (hc:∀ o∈l,z1h o=0):z8u l=some (l.map oid):=by
 unfold z8u
 have:=zjt (F:=za4 l) l (fun o=>[oid o]) [] (fun i hi=>by
  have hm:=List.getElem_mem hi;unfold za4;rw [if_pos (by simpa using hi)];simp only [];rw [z0p hi];simp only [bS];rw [zqi _ (hc _ hm) (hw _ hm).1];simp only [bS];rw [z1m (by simp only [List.nil_append,zca,List.length_map,List.length_take,List.length_cons,List.length_nil]; omega)];simp only [bS]
  rw [z0u (by omega)]; rfl) (by
  unfold za4
  rw [if_neg (by simp)])
 rw [this,zca]; rfl
theorem zwg (l:List z03) (hw:wfO l) (hl:l.length≤60):∀ rest pre:List z03,l=pre++rest→iter (z69 l) (pre.length:Int)=some (if zow rest=0 then .inr () else .inl (zow rest))
 | [],pre,e=>by
  subst e;refine z1l ?_;unfold z69;rw [if_neg (by simp)];simp [zow]
 | o::rest,pre,e=>by
  have hlen:pre.length<l.length:=by rw [e]; simp
  have hget:l[pre.length]'hlen=o:=by subst e; simp
  obtain ⟨w1,w2⟩:=hw o (by rw [e]; simp)
  have hfb:zow (o::rest)=if z1h o=0 then zow rest else z1h o:=rfl
  have hF:z69 l (pre.length:Int)=if z1h o=0 then some (.inr ((pre.length+1:Nat):Int)) else some (.inl (.inl (z1h o))):=by
   unfold z69;rw [if_pos (by simpa using hlen),z0p hlen,hget];simp only [bS];rw [zfs o w2];simp only [bS];by_cases h:z1h o=0
   ·rw [if_pos h,if_neg (by simp [h]),z0u (by omega)]
   ·rw [if_neg h,if_pos (by simpa using h)]
  by_cases h:z1h o=0
  ·rw [if_pos h] at hF;have ih:=zwg l hw hl rest (pre++[o]) (by simp [e]);simp only [List.length_append,List.length_cons,List.length_nil,Nat.zero_add] at ih;rw [z29 hF,ih,hfb,if_pos h]
  ·rw [if_neg h] at hF;rw [z1l hF,hfb,if_neg h,if_neg h]
theorem z12p (names:List ID) (hl:names.length≤60):iter z4z (names,0)=some (if names.Nodup then .inr () else .inl 14):=by
 have key:∀ rest pre:List ID,names=pre++rest→pre.Nodup→iter z4z (names,(pre.length:Int))=some (if names.Nodup then .inr () else .inl 14)
  := by
  intro rest
  induction rest with
  | nil =>
   intro pre e hn;rw [List.append_nil] at e;subst e;rw [if_pos hn];refine z1l ?_;unfold z4z;rw [if_neg (by simp)]
  | cons c rest ih =>
   intro pre e hn;have hlen:pre.length<names.length:=by rw [e]; simp
   have hget:names[pre.length]'hlen=c:=by subst e; simp
   have hidx:(names.idxOf c:Int)<pre.length↔c∈pre:=by
    rw [e,List.idxOf_append];by_cases hc:c∈pre
    ·rw [if_pos hc]
     have:=List.idxOf_lt_length_of_mem hc
     constructor
     ·intro _; exact hc
     ·intro _; omega
    ·rw [if_neg hc]
     constructor
     ·intro h; omega
     ·intro h; exact absurd h hc
   have hF:z4z (names,(pre.length:Int))=if decide (c∈pre) then some (.inl (.inl 14)) else some (.inr (names,((pre.length+1:Nat):Int))):=by
    unfold z4z;rw [if_pos (by simpa using hlen)];simp only [];rw [z0p hlen,hget];simp only [bS];rw [zwk names c (by omega),if_pos (by rw [e]; simp)]
    simp only [bS];rw [decide_eq_decide.2 hidx,z0u (by omega)]
   by_cases hc:c∈pre
   ·rw [decide_eq_true hc,if_pos rfl] at hF;rw [z1l hF,if_neg];intro h;rw [e,List.nodup_append] at h;exact h.2.2 c hc c (by simp) rfl
   ·rw [decide_eq_false hc,if_neg (by simp)] at hF
    have:=ih (pre++[c]) (by simp [e]) (by
     rw [List.nodup_append]
     exact ⟨hn, by simp, fun a ha b hb=>by simp only [List.mem_singleton] at hb; subst hb; exact fun e=>hc (e ▸ ha)⟩)
    simp only [List.length_append,List.length_cons,List.length_nil,Nat.zero_add] at this;rw [z29 hF,this]
 exact key names [] rfl (by simp)
def zO:z03:=⟨0,[],0,⟨0,[],⟨0,0,0,[]⟩⟩,⟨0,0⟩⟩
def opJ (l:List z03) (j:Nat):z03:=l.getD j zO
theorem zbd {l:List z03} {j:Nat} (h:j<l.length):opJ l j=l[j]:=by unfold opJ; rw [List.getD_eq_getElem?_getD,List.getElem?_eq_getElem h]; rfl
def frK (l:List z03) (f:Nat→Bool) (k:Nat):Bool:=(List.range l.length).all fun i=>!(f i&&decide (oid (opJ l i)∈(opJ l k).Preds))
theorem zzw (l:List z03) (hl:l.length≤60) (f:Nat→Bool) (o:z03) (ho:o.Preds.length≤4):zbx o (l.map oid) (tab l.length f)=some ((List.range l.length).all fun i=>!(f i&&decide (oid (opJ l i)∈o.Preds))):=by
 unfold zbx
 have h:=zma (F:=z94 o (l.map oid) (tab l.length f)) l.length (fun i=>!(f i&&decide (oid (opJ l i)∈o.Preds))) (fun i hi=>by
  unfold z94;rw [if_pos (by simpa using hi),zdc hi,z0p (by simpa using hi)];simp only [bS,List.getElem_map];rw [← zbd hi]
  cases hf:f i with
  | false=>rw [if_neg (by simp),z0u (by omega)]; simp
  | true =>
   rw [if_pos rfl,zwk _ _ (by omega)];simp only [bS];by_cases hm:oid (opJ l i)∈o.Preds
   ·rw [if_pos hm,if_pos (by simp),if_neg (by simp [hm])]
   ·rw [if_neg hm,if_neg (by simp),if_pos (by simp [hm]),z0u (by omega)]) (by
  unfold z94
  rw [if_neg (by simp)])
 rw [h]
 cases (List.range l.length).all fun i=>!(f i&&decide (oid (opJ l i)∈o.Preds)) with
 | true=>rfl
 | false=>rfl
def cnd (l:List z03) (f:Nat→Bool) (k:Nat):Bool:=f k&&frK l f k
def Bst (l:List z03) (f:Nat→Bool) (i:Nat) (b:Int):Prop :=
 (b = -1∧∀ k,k<i→cnd l f k=false)∨∃ j:Nat,b=(j:Int)∧j<i∧cnd l f j=true∧∀ k,k<i→cnd l f k=true→kd (oid (opJ l j))≤kd (oid (opJ l k))
theorem z11c (l:List z03) (hl:l.length≤60) (hp:∀ o∈l,o.Preds.length≤4) (f:Nat→Bool) (out:List Int):∃ b,iter (z4x l (l.map oid) (tab l.length f,out)) (-1,0)=some b∧Bst l f l.length b:=by
 refine z9o (F:=z4x l (l.map oid) (tab l.length f,out)) l.length (fun i s=>s.2=(i:Int)∧Bst l f i s.1) (fun b=>Bst l f l.length b) (fun i s hi hs=>?_) (fun s hs=>?_) (-1,0) 0 (Nat.zero_le _) ⟨rfl,.inl ⟨rfl, fun k hk=>by omega⟩⟩
 ·obtain ⟨b,i'⟩:=s;obtain ⟨h1,h2⟩:=hs;simp only at h1 h2;subst h1;have hpi:(opJ l i).Preds.length≤4:=by rw [zbd hi]; exact hp _ (List.getElem_mem hi)
  have hfr:=zzw l hl f (opJ l i) hpi;have hF:z4x l (l.map oid) (tab l.length f,out) (b,(i:Int))=if cnd l f i&&(decide (b<0) || decide (kd (oid (opJ l i))<kd (oid (opJ l b.toNat)))) then some (.inr ((i:Int),((i+1:Nat):Int))) else some (.inr (b,((i+1:Nat):Int))):=by
   unfold z4x;rw [if_pos (by simpa using hi)];simp only [];rw [zdc hi];simp only [bS]
   cases hf:f i with
   | false =>
    rw [if_neg (by simp)];simp only [bS];rw [if_neg (by simp),if_neg (by simp [cnd,hf]),z0u (by omega)]
   | true =>
    rw [if_pos rfl,z0p hi];simp only [bS];rw [← zbd hi,hfr];simp only [bS];have hc:cnd l f i=(List.range l.length).all fun i_1=>!(f i_1&&decide (oid (opJ l i_1)∈(opJ l i).Preds)):=by unfold cnd frK; rw [hf]; rfl
    rw [← hc]
    cases cnd l f i with
    | false =>
     rw [if_neg (by simp)];simp only [bS];rw [if_neg (by simp),if_neg (by simp),z0u (by omega)]
    | true =>
     rw [if_pos rfl];rcases h2 with ⟨rfl,h3⟩ | ⟨j,rfl,hj,h3,h4⟩
     ·rw [if_pos (by simp)];simp only [bS];rw [if_pos trivial,if_pos (by simp),z0u (by omega)]
     ·rw [if_neg (by simp),z0p (by simpa using hi),z0p (by simp; omega)];simp only [bS,List.getElem_map];rw [z15r];simp only [bS];rw [zvz,← zbd hi,← zbd (by omega)];simp only [Int.toNat_natCast,Bool.true_and];rw [decide_eq_false (by omega:¬ ((j:Int)<0)),Bool.false_or,z0u (by omega)]
  refine ⟨_,hF.trans (by rw [← apply_ite some,← apply_ite Sum.inr]),?_⟩;by_cases hc:cnd l f i=true
  ·rcases h2 with ⟨rfl,h3⟩ | ⟨j,rfl,hj,h3,h4⟩
   ·rw [hc,if_pos (by simp)];refine ⟨rfl,.inr ⟨i,rfl, by omega,hc, fun k hk hk2=>?_⟩⟩;by_cases hki:k=i
    ·rw [hki]; exact Nat.le_refl _
    ·rw [h3 k (by omega)] at hk2; cases hk2
   ·by_cases hlt:kd (oid (opJ l i))<kd (oid (opJ l j))
    ·rw [hc,if_pos (by simp [hlt])];refine ⟨rfl,.inr ⟨i,rfl, by omega,hc, fun k hk hk2=>?_⟩⟩;by_cases hki:k=i
     ·rw [hki]; exact Nat.le_refl _
     ·have:=h4 k (by omega) hk2; omega
    ·rw [hc,if_neg (by simp [hlt])];refine ⟨rfl,.inr ⟨j,rfl, by omega,h3, fun k hk hk2=>?_⟩⟩;by_cases hki:k=i
     ·rw [hki]; omega
     ·exact h4 k (by omega) hk2
  ·rw [Bool.not_eq_true] at hc;rw [hc,if_neg (by simp)];refine ⟨rfl,?_⟩;rcases h2 with ⟨h2,h3⟩ | ⟨j,h2,hj,h3,h4⟩
   ·refine .inl ⟨h2, fun k hk=>?_⟩;by_cases hki:k=i
    ·rw [hki]; exact hc
    ·exact h3 k (by omega)
   ·refine .inr ⟨j,h2, by omega,h3, fun k hk hk2=>?_⟩;by_cases hki:k=i
    ·rw [hki,hc] at hk2; cases hk2
    ·exact h4 k (by omega) hk2
 ·obtain ⟨b,i'⟩:=s;obtain ⟨h1,h2⟩:=hs;simp only at h1 h2;subst h1;refine ⟨b,?_,h2⟩;unfold z4x;rw [if_neg (by simp)]
def nmJ (l:List z03) (j:Nat):z0d:=nmd (opJ l j)
theorem zxe (n:Nat) (f:Nat→Bool) {j:Nat} (hj:j<n) (hf:f j=true):((List.range n).filter f).Perm (j::(List.range n).filter fun i=>f i&&!decide (i=j)):=by
 have hm:j∈(List.range n).filter f:=List.mem_filter.2 ⟨by simpa using hj,hf⟩;have hn:((List.range n).filter f).Nodup:=List.Pairwise.filter _ List.nodup_range;refine (List.perm_cons_erase hm).trans (List.Perm.cons _ (List.Perm.of_eq ?_));rw [hn.erase_eq_filter,List.filter_filter]
 apply List.filter_congr
 intro x _;by_cases hx:x=j
 ·simp [hx]
 ·simp [hx]
theorem z18v {l:List z0d} (hs:l.Pairwise fun x y=>kd x.id≤kd y.id) {p q:Nat} (hp:p<l.length) (hq:q<l.length) (h:p≤q):kd l[p].id≤kd l[q].id:=by
 by_cases e:p=q
 ·subst e; exact Nat.le_refl _
 ·exact List.pairwise_iff_getElem.1 hs p q hp hq (by omega)
theorem zp2 {α:Type} (l:List α) (i:Nat) (hi:i<l.length):(l[i]::l.eraseIdx i).Perm l:=by
 rw [List.eraseIdx_eq_take_drop_succ];refine List.perm_middle.symm.trans (List.Perm.of_eq ?_);rw [← List.drop_eq_getElem_cons hi,List.take_append_drop]
theorem z15c (l:List z03) (hl:l.length≤60) (hp:∀ o∈l,o.Preds.length≤4) (hn:(l.map oid).Nodup):∀ (m:Nat) (f:Nat→Bool) (left:List z0d) (out:List Nat),left.length=m→out.length+m≤60 →
  left.Perm (((List.range l.length).filter f).map (nmJ l))→left.Pairwise (fun x y=>kd x.id≤kd y.id) →
  ∃ js:List Nat,iter (z4v l (l.map oid)) (tab l.length f,il out)=some (il (out++js))∧(∀ j∈js,j<l.length)∧zcv m left=js.map (nmJ l):=by
 intro m
 induction m with
 | zero =>
  intro f left out hlen ho hperm hs;obtain ⟨b,hb,hB⟩:=z11c l hl hp f (il out);have hno:∀ k,k<l.length→f k=false:=fun k hk=>by
   by_cases h:f k=true
   ·have:nmJ l k∈left:=hperm.mem_iff.2 (List.mem_map.2 ⟨k,List.mem_filter.2 ⟨by simpa using hk,h⟩,rfl⟩)
    rw [List.eq_nil_of_length_eq_zero hlen] at this; cases this
   ·simpa using h
  rcases hB with ⟨rfl,-⟩ | ⟨j,rfl,hj,h3,-⟩
  ·refine ⟨[],?_, by simp,rfl⟩;rw [List.append_nil];refine z1l ?_;unfold z4v;rw [hb];simp only [bS];rw [if_pos (by simp)]
  ·unfold cnd at h3;rw [hno j hj] at h3; cases h3
 | succ m ih =>
  intro f left out hlen ho hperm hs;obtain ⟨b,hb,hB⟩:=z11c l hl hp f (il out);have hmem:∀ x,x∈left↔∃ k,k<l.length∧f k=true∧x=nmJ l k:=fun x=>by
   rw [hperm.mem_iff,List.mem_map]
   constructor
   ·rintro ⟨k,hk,rfl⟩
    rw [List.mem_filter] at hk;exact ⟨k, by simpa using hk.1,hk.2,rfl⟩
   ·rintro ⟨k,h1,h2,rfl⟩
    exact ⟨k,List.mem_filter.2 ⟨by simpa using h1,h2⟩,rfl⟩
  have hids:∀ y:ID,y∈zbb left↔∃ k,k<l.length∧f k=true∧y=oid (opJ l k):=fun y=>by
   unfold zbb;rw [List.mem_map]
   constructor
   ·rintro ⟨x,hx,rfl⟩
    obtain ⟨k,h1,h2,rfl⟩:=(hmem x).1 hx;exact ⟨k,h1,h2,rfl⟩
   ·rintro ⟨k,h1,h2,rfl⟩
    exact ⟨nmJ l k,(hmem _).2 ⟨k,h1,h2,rfl⟩,rfl⟩
  have hfree:∀ k,free (zbb left) (nmJ l k)=frK l f k:=fun k=>by
   unfold free frK;rw [Bool.eq_iff_iff,List.all_eq_true,List.all_eq_true]
   constructor
   ·intro h i hi;have hi:i<l.length:=by simpa using hi
    cases hf:f i with
    | false=>rfl
    | true =>
     by_cases hm2:oid (opJ l i)∈(opJ l k).Preds
     ·have:=h _ hm2
      rw [decide_eq_true ((hids _).2 ⟨i,hi,hf,rfl⟩)] at this; cases this
     ·simp [hm2]
   ·intro h y hy;by_cases hin:y∈zbb left
    ·obtain ⟨i,h1,h2,rfl⟩:=(hids y).1 hin
     have:=h i (by simpa using h1)
     rw [h2,decide_eq_true (show oid (opJ l i)∈(opJ l k).Preds from hy)] at this; cases this
    ·simp [hin]
  rcases hB with ⟨rfl,hno⟩ | ⟨j,rfl,hj,hcj,hmin⟩
  ·refine ⟨[],?_, by simp,?_⟩
   ·rw [List.append_nil];refine z1l ?_;unfold z4v;rw [hb];simp only [bS];rw [if_pos (by simp)]
   ·have:left.findIdx? (free (zbb left))=none:=by
     rw [List.findIdx?_eq_none_iff];intro x hx;obtain ⟨k,h1,h2,rfl⟩:=(hmem x).1 hx;rw [hfree]
     have:=hno k h1
     unfold cnd at this;rw [h2] at this; simpa using this
    unfold zcv;rw [this]; rfl
  ·have hfj:f j=true:=by unfold cnd at hcj; simp at hcj; exact hcj.1
   have hin:nmJ l j∈left:=(hmem _).2 ⟨j,hj,hfj,rfl⟩
   cases hi:left.findIdx? (free (zbb left)) with
   | none =>
    rw [List.findIdx?_eq_none_iff] at hi;have h1:=hi _ hin;rw [hfree] at h1;unfold cnd at hcj;rw [h1] at hcj; simp at hcj
   | some p =>
    obtain ⟨hpl,hpf,hpb⟩:=List.findIdx?_eq_some_iff_getElem.1 hi;obtain ⟨k,hk1,hk2,hk3⟩:=(hmem _).1 (List.getElem_mem hpl);have hck:cnd l f k=true:=by unfold cnd; rw [hk2,← hfree,← hk3,hpf]; rfl
    have h5:=hmin k hk1 hck;obtain ⟨q,hq,hqe⟩:=List.getElem_of_mem hin;have hqp:p≤q:=by
     by_cases h:q<p
     ·have:=hpb q h
      rw [hqe,hfree] at this;unfold cnd at hcj;simp at hcj;exact absurd hcj.2 this
     ·omega
    have h6:=z18v hs hpl hq hqp;rw [hqe,hk3] at h6;have hid:oid (opJ l k)=oid (opJ l j):=zw8 (Nat.le_antisymm h6 h5);have hkj:k=j:=by
     have e1:(l.map oid)[k]'(by simpa using hk1)=(l.map oid)[j]'(by simpa using hj):=by
      rw [List.getElem_map,List.getElem_map,← zbd hk1,← zbd hj]; exact hid
     exact zhf hn (by simpa using hk1) (by simpa using hj) e1
    subst hkj;have hF:z4v l (l.map oid) (tab l.length f,il out)=some (.inr (tab l.length (fun i=>f i&&!decide (i=k)),il (out++[k]))):=by
     unfold z4v;rw [hb];simp only [bS];rw [if_neg (by simp),z1m (by simp only [zdx,List.length_cons,List.length_nil]; omega)];simp only [bS];rw [zdc hj];simp only [bS,Int.toNat_natCast];rw [zko (g:=fun i=>f i&&!decide (i=k)) hj (by simp) (fun i hi hne=>by simp [hne]),zwp];rfl
    have hperm2:(left.eraseIdx p).Perm (((List.range l.length).filter fun i=>f i&&!decide (i=k)).map (nmJ l)):=by
     have h7:(left[p]'hpl::left.eraseIdx p).Perm (nmJ l k::((List.range l.length).filter fun i=>f i&&!decide (i=k)).map (nmJ l)) :=
      (zp2 left p hpl).trans (hperm.trans ((zxe l.length f hj hfj).map (nmJ l)))
     rw [hk3] at h7;exact List.Perm.cons_inv h7
    obtain ⟨js,h8,h9,h10⟩:=ih (fun i=>f i&&!decide (i=k)) (left.eraseIdx p) (out++[k]) (by rw [List.length_eraseIdx_of_lt hpl]; omega) (by simp; omega) hperm2 (hs.sublist (List.eraseIdx_sublist _ _));refine ⟨k::js,?_,?_,?_⟩
    ·rw [z29 hF,h8,List.append_assoc]; rfl
    ·intro x hx;rcases List.mem_cons.1 hx with e | e
     ·rw [e]; exact hj
     ·exact h9 x e
    ·unfold zcv;rw [hi];simp only [];rw [List.getElem?_eq_getElem hpl];simp only [];rw [h10,hk3]; rfl
theorem zpu:∀ (n:Nat) (left:List z0d),(zcv n left).length≤n
 | 0,left=>by simp [zcv]
 | n+1,left=>by
  unfold zcv
  split
  ·simp
  ·split
   ·simp
   ·simp only [List.length_cons]
    have:=zpu n
    exact Nat.succ_le_succ (this _)
theorem zer (l:List z03):(zbb (zin l)).Perm (l.map oid):=by
 have:=(zbh l).map (fun x:z0d=>x.id)
 rw [List.map_map] at this;exact this
theorem z159 (l:List z03):(List.range l.length).map (nmJ l)=l.map nmd:=by
 apply List.ext_getElem (by simp)
 intro i h1 h2;have hi:i<l.length:=by simpa using h2
 simp [nmJ,zbd hi]
theorem zs5 (l:List z03) (hw:wfO l) (hl:l.length≤60) (hc:∀ o∈l,z1h o=0) (hn:(l.map oid).Nodup):∃ js:List Nat,z8s l=some (il js)∧(∀ j∈js,j<l.length)∧zcv l.length (zin l)=js.map (nmJ l):=by
 have hp:∀ o∈l,o.Preds.length≤4:=fun o ho=>(z33 (hc o ho)).1;have h0:iter (z6k l) (tab l.length (fun _=>false),0)=some (tab l.length fun _=>true):=by
  have:=z3m (F:=z6k l) (b:=tab l.length fun _=>true) l.length (fun i=>(tab l.length (fun k=>decide (k<i)),(i:Int))) (fun i hi=>by
   unfold z6k;rw [if_pos (by simpa using hi)];simp only [];rw [zdc hi];simp only [bS,Int.toNat_natCast]
   rw [z0u (by omega),zko (g:=fun k=>decide (k<i+1)) hi (by simp) (fun j _ hne=>by simp; omega)]) (by
   unfold z6k;rw [if_neg (by simp)];simp only []
   rw [zgy (g:=fun _=>true) fun j hj=>by simp [hj]])
  simpa using this
 obtain ⟨js,h1,h2,h3⟩:=z15c l hl hp hn l.length (fun _=>true) (zin l) [] (zmd l) (by simp; omega) (by
  rw [List.filter_eq_self.2 (fun _ _=>rfl),z159]; exact zbh l) (zms l)
 refine ⟨js,?_,h2,h3⟩;unfold z8s;rw [zpw l hw (by omega) hc];simp only [bS];rw [zlp (by omega) (by omega)];simp only [bS];rw [zjm,h0];simp only [bS];exact h1
theorem zxq (l:List z03) (hw:wfO l):z8i l=some (zjb l).2:=by
 unfold z8i zjb;by_cases h60:60<l.length
 ·rw [if_pos (by simp; omega),if_pos h60]
 ·rw [if_neg (by simp; omega),if_neg h60];have h0:=zwg l hw (by omega) l [] rfl;rw [show ((([]:List z03).length:Nat):Int)=0 from rfl] at h0;rw [h0];by_cases hb:zow l=0
  ·rw [if_pos hb,if_neg (by simp [hb])];simp only [zpn];have hc:=(zdu l).1 hb;rw [zpw l hw (by omega) hc];simp only [bS];rw [z12p _ (by simp; omega)];have hnn:(zbb (zin l)).Nodup↔(l.map oid).Nodup:=(zer l).nodup_iff;by_cases hn:(l.map oid).Nodup
   ·rw [if_pos hn,if_neg (fun h=>h (hnn.2 hn))];simp only [zpn];obtain ⟨js,h1,h2,h3⟩:=zs5 l hw (by omega) hc hn;rw [h1,h3];simp only [bS,zdx,List.length_map];have hle:js.length≤l.length:=by
     have:(zcv l.length (zin l)).length≤l.length:=zpu _ _
     rw [h3,List.length_map] at this; exact this
    by_cases hq:js.length=l.length
    ·rw [if_neg (by simp; omega),if_pos hq]
    ·rw [if_pos (by simp; omega),if_neg hq]
   ·rw [if_neg hn,if_pos (fun h=>hn (hnn.1 h))]; rfl
  ·rw [if_neg hb,if_pos hb]; rfl
end
section
open Go
variable {g:z0f}
def zwv (g:z0f) (m:Nat→Bool):Nat→List ID
 | 0=>[]
 | i+1=>if m i then zwv g m i++[zga g i] else zwv g m i
def zm1 (g:z0f) (m:Nat→Bool):Nat→List z03
 | 0=>[]
 | i+1=>if m i then zm1 g m i++g.Ops[i]?.toList else zm1 g m i
theorem z13r {g:z0f} {m:Nat→Bool} {i:Nat} (h:m i=true):zwv g m (i+1)=zwv g m i++[zga g i]:=if_pos h
theorem zzo {g:z0f} {m:Nat→Bool} {i:Nat} (h:m i=true):zm1 g m (i+1)=zm1 g m i++g.Ops[i]?.toList:=if_pos h
theorem z13x {g:z0f} {m:Nat→Bool} {i:Nat} (h:m i=false):zwv g m (i+1)=zwv g m i:=if_neg (by rw [h]; simp)
theorem z10g {g:z0f} {m:Nat→Bool} {i:Nat} (h:m i=false):zm1 g m (i+1)=zm1 g m i:=if_neg (by rw [h]; simp)
theorem z13p (g:z0f) (m:Nat→Bool):∀ i,(zwv g m i).length≤i
 | 0=>Nat.le_refl _
 | i+1=>by
  have:=z13p g m i
  unfold zwv
  split
  ·rw [List.length_append,List.length_singleton]; omega
  ·omega
theorem zjn (g:z0f) (m:Nat→Bool):∀ i,(zm1 g m i).length≤i
 | 0=>Nat.le_refl _
 | i+1=>by
  have:=zjn g m i
  unfold zm1
  split
  ·rw [List.length_append]
   have:g.Ops[i]?.toList.length≤1:=by cases g.Ops[i]? <;> simp
   omega
  ·omega
theorem zm6 (g:z0f) (m:Nat→Bool):∀ i,∀ o∈zm1 g m i,o∈g.Ops
 | 0,o,h=>by simp [zm1] at h
 | i+1,o,h=>by
  unfold zm1 at h
  split at h
  ·rcases List.mem_append.1 h with h | h
   ·exact zm6 g m i o h
   ·cases ho:g.Ops[i]? with
    | none=>rw [ho] at h; simp at h
    | some q =>
     rw [ho] at h
     have:o=q:=by simpa using h
     subst this;exact List.mem_of_getElem? ho
  ·exact zm6 g m i o h
end
section
open Go
theorem zto {α:Type} [DecidableEq α] (a b:List α) (hl:a.length=b.length):(List.range a.length).all (fun i=>decide (a[i]? = b[i]?))=decide (a=b):=by
 rw [Bool.eq_iff_iff,List.all_eq_true,decide_eq_true_iff]
 constructor
 ·intro h
  apply List.ext_getElem?
  intro i;by_cases hi:i<a.length
  ·simpa using h i (by simpa using hi)
  ·rw [List.getElem?_eq_none (by omega),List.getElem?_eq_none (by omega)]
 ·rintro rfl i _
  simp
theorem zul (b:Bool):z5o (some (if b then Sum.inr () else Sum.inl false)) (fun _=>some true)=some b:=by cases b <;> rfl
theorem zqh (a b:List UInt8) (hb:a.length≤9223372036854775806):z3e a b=some (decide (a=b)):=by
 unfold z3e;by_cases hl:a.length=b.length
 ·rw [if_neg (by simp [hl]),zma a.length (fun i=>decide (a[i]? = b[i]?)) (fun i hi=>by
   unfold z8e;rw [if_pos (by simpa using hi),z0p hi,z0p (by omega),List.getElem?_eq_getElem hi,List.getElem?_eq_getElem (by omega),z0u (by omega)];simp only [bS]
   by_cases h:a[i]=b[i] <;> simp [h]) (by unfold z8e; rw [if_neg (by simp)]),zto a b hl]
  exact zul _
 ·rw [if_pos (by simp; omega),decide_eq_false (fun e=>hl (by rw [e]))]
theorem zwu (a b:List ID) (hb:a.length≤9223372036854775806):z92 a b=some (decide (a=b)):=by
 unfold z92;by_cases hl:a.length=b.length
 ·rw [if_neg (by simp [hl]),zma a.length (fun i=>decide (a[i]? = b[i]?)) (fun i hi=>by
   unfold z9q;rw [if_pos (by simpa using hi),z0p hi,z0p (by omega),List.getElem?_eq_getElem hi,List.getElem?_eq_getElem (by omega),z0u (by omega)];simp only [bS]
   by_cases h:a[i]=b[i] <;> simp [h]) (by unfold z9q; rw [if_neg (by simp)]),zto a b hl]
  exact zul _
 ·rw [if_pos (by simp; omega),decide_eq_false (fun e=>hl (by rw [e]))]
theorem z14k {a b:z03} (h1:a.Author=b.Author) (h2:a.Preds=b.Preds) (h3:a.Stamp=b.Stamp) (h4:a.Act=b.Act) (h5:a.Sig=b.Sig):a=b:=by
 cases a; cases b; simp only at h1 h2 h3 h4 h5; subst h1 h2 h3 h4 h5; rfl
theorem zyn (a b:z03) (h:a.Preds.length≤9223372036854775806):zbg a b=some (decide (a=b)):=by
 unfold zbg;by_cases h1:a.Author=b.Author
 ·rw [if_pos (by simp [h1]),zwu _ _ h];simp only [bS];by_cases h2:a.Preds=b.Preds
  ·rw [if_pos (by simp [h2])];by_cases h3:a.Stamp=b.Stamp
   ·rw [if_pos (by simp [h3])];by_cases h4:a.Act=b.Act
    ·rw [if_pos (by simp [h4])];by_cases h5:a.Sig=b.Sig
     ·rw [decide_eq_true h5,decide_eq_true (z14k h1 h2 h3 h4 h5)]
     ·rw [decide_eq_false h5,decide_eq_false (fun e=>h5 (by rw [e]))]
    ·rw [if_neg (by simp [h4]),decide_eq_false (fun e=>h4 (by rw [e]))]
   ·rw [if_neg (by simp [h3]),decide_eq_false (fun e=>h3 (by rw [e]))]
  ·rw [if_neg (by simp [h2]),decide_eq_false (fun e=>h2 (by rw [e]))]
 ·rw [if_neg (by simp [h1]),decide_eq_false (fun e=>h1 (by rw [e]))]
theorem zfe (a b:List z03) (hb:a.length≤9223372036854775806) (hp:∀ o∈a,o.Preds.length≤9223372036854775806):z1t a b=some (decide (a=b)):=by
 unfold z1t;by_cases hl:a.length=b.length
 ·rw [if_neg (by simp [hl]),zma a.length (fun i=>decide (a[i]? = b[i]?)) (fun i hi=>by
   unfold z99;rw [if_pos (by simpa using hi),z0p hi,z0p (by omega),List.getElem?_eq_getElem hi,List.getElem?_eq_getElem (by omega),z0u (by omega)];simp only [bS];rw [zyn _ _ (hp _ (List.getElem_mem hi))];simp only [bS]
   by_cases h:a[i]=b[i] <;> simp [h]) (by unfold z99; rw [if_neg (by simp)]),zto a b hl]
  exact zul _
 ·rw [if_pos (by simp; omega),decide_eq_false (fun e=>hl (by rw [e]))]
theorem z109 (o:z03) (h:o.Preds.length≤1000):zbm o=some o:=by
 unfold zbm;rw [z1m (by simp only [List.length_nil]; omega)];rfl
theorem zqj (m:List z0d) (hl:m.length≤1000):zc2 m=some (m.map (·.o)):=by
 unfold zc2
 have:=zjt (F:=z91 m) m (fun x=>[x.o]) [] (fun i hi=>by
  unfold z91;rw [if_pos (by simpa using hi)];simp only [];rw [z0p hi];simp only [bS];rw [z1m (by simp only [List.nil_append,zca,List.length_map,List.length_take,List.length_cons,List.length_nil]; omega)];simp only [bS]
  rw [z0u (by omega)]) (by
  unfold z91
  rw [if_neg (by simp)])
 rw [this,zca]; rfl
def zdj (l:List z03):List z0d:=zcv l.length (zin l)
theorem zk4:∀ (n:Nat) (left:List z0d),∀ x∈zcv n left,x∈left
 | 0,left,x,hx=>by simp [zcv] at hx
 | n+1,left,x,hx=>by
  unfold zcv at hx
  split at hx
  ·simp at hx
  ·rename_i i hi
   split at hx
   ·simp at hx
   ·rename_i y hy;rcases List.mem_cons.1 hx with e | e
    ·rw [e]; exact List.mem_of_getElem? hy
    ·exact List.mem_of_mem_eraseIdx (zk4 n _ x e)
theorem zvs (l:List z03):∀ x∈zdj l,∃ o∈l,x=nmd o:=fun x hx=>by
 obtain ⟨o,h1,h2⟩:=List.mem_map.1 ((zbh l).mem_iff.1 (zk4 _ _ x hx));exact ⟨o,h1,h2.symm⟩
theorem z13d (l:List z03):(zdj l).length≤l.length:=zpu _ _
theorem zmu (l:List z03) (hw:wfO l) (hl:l.length≤60) (hc:∀ o∈l,z1h o=0) (hn:(l.map oid).Nodup):z63 l=some ((zdj l).map (·.o)):=by
 obtain ⟨js,h1,h2,h3⟩:=zs5 l hw hl hc hn;have hjl:js.length≤60:=by
  have:=z13d l
  unfold zdj at this;rw [h3,List.length_map] at this; omega
 unfold z63 zdj;rw [h1,h3];simp only [bS]
 have:=zjt (F:=z7l l (il js)) js (fun j=>[opJ l j]) [] (fun i hi=>by
  have hj:=h2 _ (List.getElem_mem hi);unfold z7l;rw [if_pos (by simpa [zdx] using hi)];simp only [];rw [zy8 hi];simp only [bS];rw [z0p hj];simp only [bS];rw [← zbd hj,z109 _ (by rw [zbd hj]; have:=(z33 (hc _ (List.getElem_mem hj))).1; omega)];simp only [bS];rw [z1m (by simp only [List.nil_append,zca,List.length_map,List.length_take,List.length_cons,List.length_nil]; omega)];simp only [bS]
  rw [z0u (by omega)]) (by
  unfold z7l
  rw [if_neg (by simp [zdx])])
 rw [this,zca,List.map_map]; rfl
theorem zsy:∀ (n:Nat) (left:List z0d) (k:Nat) (h:k<(zcv n left).length),∀ p∈((zcv n left)[k]).o.Preds,p∉zbb ((zcv n left).drop k)
 | 0,left,k,h=>by simp [zcv] at h
 | n+1,left,k,h=>by
  cases hi:left.findIdx? (free (zbb left)) with
  | none =>
   have hc:zcv (n+1) left=[]:=by unfold zcv; rw [hi]
   rw [hc] at h; simp at h
  | some i =>
   obtain ⟨hil,hfr,-⟩:=List.findIdx?_eq_some_iff_getElem.1 hi;have hc:zcv (n+1) left=left[i]'hil::zcv n (left.eraseIdx i):=by
    conv=>lhs; unfold zcv
    rw [hi];simp only [];rw [List.getElem?_eq_getElem hil]
   simp only [hc] at h ⊢
   cases k with
   | zero =>
    intro p hp hin;simp only [List.getElem_cons_zero,List.drop_zero] at hp hin;unfold free at hfr;rw [List.all_eq_true] at hfr;have h1:=hfr p hp
    have:p∈zbb left:=by
     unfold zbb at hin ⊢;obtain ⟨x,hx,e⟩:=List.mem_map.1 hin;refine List.mem_map.2 ⟨x,?_,e⟩;rcases List.mem_cons.1 hx with e | e
     ·rw [e]; exact List.getElem_mem hil
     ·exact List.mem_of_mem_eraseIdx (zk4 n _ x e)
    rw [decide_eq_true this] at h1; cases h1
   | succ k =>
    simp only [List.getElem_cons_succ,List.drop_succ_cons];exact zsy n _ k (by simpa using h)
theorem zpi:∀ (n:Nat) (left:List z0d),(zbb left).Nodup→(zbb (zcv n left)).Nodup
 | 0,left,h=>by simp [zcv,zbb]
 | n+1,left,h=>by
  cases hi:left.findIdx? (free (zbb left)) with
  | none =>
   have hc:zcv (n+1) left=[]:=by unfold zcv; rw [hi]
   rw [hc]; simp [zbb]
  | some i =>
   obtain ⟨hil,hfr,-⟩:=List.findIdx?_eq_some_iff_getElem.1 hi;have hc:zcv (n+1) left=left[i]'hil::zcv n (left.eraseIdx i):=by
    conv=>lhs; unfold zcv
    rw [hi];simp only [];rw [List.getElem?_eq_getElem hil]
   rw [hc];have hidl:i<(zbb left).length:=by simpa [zbb] using hil
   have he:(zbb (left.eraseIdx i)).Nodup:=by rw [zfi]; exact h.sublist (List.eraseIdx_sublist _ _)
   show ((left[i]'hil).id::zbb (zcv n (left.eraseIdx i))).Nodup;rw [List.nodup_cons];refine ⟨fun hin=>?_,zpi n _ he⟩;obtain ⟨x,hx,e⟩:=List.mem_map.1 hin;have hx2:x.id∈zbb (left.eraseIdx i):=List.mem_map.2 ⟨x,zk4 n _ x hx,rfl⟩;rw [zfi,znu h hidl] at hx2;exact hx2.2 (by rw [e]; simp [zbb])
def zsg (m:List z03):Prop:=∀ k (h:k<m.length),∀ p∈m[k].Preds,p∉(m.map oid).drop k
theorem zmv (l:List z03):zsg ((zdj l).map (·.o)):=fun k hk p hp=>by
 have hk':k<(zdj l).length:=by simpa using hk
 have h:=zsy l.length (zin l) k hk' p (by simp only [List.getElem_map] at hp; exact hp);have e:(((zdj l).map (·.o)).map oid)=zbb (zdj l):=by
  unfold zbb;rw [List.map_map]
  apply List.map_congr_left
  intro x hx;obtain ⟨o,-,rfl⟩:=zvs l x hx;rfl
 rw [e];unfold zbb at h ⊢;rw [← List.map_drop]; exact h
theorem zmc {m:List z03} (hT:zsg m) {k:Nat} (hk:k<m.length) {p:ID} (hp:p∈m[k].Preds):p∈m.map oid↔p∈(m.map oid).take k:=by
 constructor
 ·intro h;rw [← List.take_append_drop k (m.map oid)] at h;rcases List.mem_append.1 h with h | h
  ·exact h
  ·exact absurd h (hT k hk p hp)
 ·exact fun h=>List.mem_of_mem_take h
theorem zkl {l:List ID} {k:Nat} {p:ID} (h:p∈l.take k):l.idxOf p=(l.take k).idxOf p∧(l.take k).idxOf p<k:=by
 have h1:=List.idxOf_lt_length_of_mem h;have h2:(l.take k).length≤k:=by rw [List.length_take]; omega
 refine ⟨?_, by omega⟩
 conv=>lhs; rw [← List.take_append_drop k l]
 rw [List.idxOf_append,if_pos h]
def nop (o:z03):z03:=⟨o.Author,[],o.Stamp,o.Act,o.Sig⟩
theorem zen {o:z03} (h:z1h o=0):z1h (nop o)=0:=by
 obtain ⟨-,-,h3⟩:=z33 h;unfold z1h;rw [if_neg (by simp [nop]),if_neg (by simp [nop,zbc]), show zeo (nop o)=zeo o from rfl,if_pos h3]
def z82 (names:List ID) (i:Nat) (p:ID):List UInt8:=if p∈names then z0g (i - names.idxOf p) else 0::p.toList
def opB (names:List ID) (i:Nat) (o:z03):List UInt8:=(z0g (z8n (nop o)).length++z8n (nop o))++z0g o.Preds.length++o.Preds.flatMap (z82 names i)
def zqz (m:List z03) (i:Nat):List UInt8:=112::z0g m.length++(List.range i).flatMap fun k=>opB (m.map oid) k (opJ m k)
def zfk (m:List z03):List UInt8:=zqz m m.length
theorem zcz (names:List ID) (i:Nat) (p:ID) (hi:i≤1000):(z82 names i p).length≤33:=by
 unfold z82
 split
 ·have:=z0n (i - names.idxOf p) (by omega); omega
 ·simp
theorem z9d {α:Type} (f:α→List UInt8) (c:Nat):∀ l:List α,(∀ x∈l,(f x).length≤c)→(l.flatMap f).length≤c * l.length
 | [],_=>by simp
 | x::l,h=>by
  rw [List.flatMap_cons,List.length_append,List.length_cons,Nat.mul_add];have h1:=h x (by simp);have h2:=z9d f c l (fun y hy=>h y (by simp [hy]));omega
theorem ztn {o:z03} (h:z1h o=0) (hI:inI o.Act.Value.Num) (names:List ID) (i:Nat) (hi:i≤1000):(opB names i o).length≤600:=by
 have h1:=zgu (zen h) hI;have h2:=z0n (z8n (nop o)).length (by omega);have h3:=(z33 h).1;have h4:=z0n o.Preds.length (by omega);have h5:=z9d (z82 names i) 33 o.Preds (fun x _=>zcz names i x hi);unfold opB;simp only [List.length_append];omega
theorem zwi {m:List z03} (hw:wfO m) (hl:m.length≤60) (hc:∀ o∈m,z1h o=0) {i:Nat} (hi:i≤m.length):(zqz m i).length≤10+600 * i:=by
 have h1:=z0n m.length (by omega)
 have h2:=z9d (fun k=>opB (m.map oid) k (opJ m k)) 600 (List.range i) (fun k hk=>by
  have hk:k<i:=by simpa using hk
  rw [zbd (by omega)];have hm:=List.getElem_mem (show k<m.length by omega)
  exact ztn (hc _ hm) (hw _ hm).1 _ _ (by omega))
 rw [List.length_range] at h2;unfold zqz;simp only [List.length_append,List.length_cons];omega
theorem zsm (m:List z03) {i:Nat} (hi:i<m.length):zqz m (i+1)=zqz m i++opB (m.map oid) i m[i]:=by
 unfold zqz;rw [List.range_succ,List.flatMap_append,List.flatMap_cons,List.flatMap_nil,List.append_nil,zbd hi,List.append_assoc]
theorem zz8 {i j:Nat} (h:j≤i) (hi:i≤1000):(UInt64.ofInt (w64 ((i:Int) - (j:Int)))).toNat=i - j:=by
 rw [z13 (by omega) (by omega), show (i:Int) - (j:Int)=((i - j:Nat):Int) by omega,zan (by omega)]
theorem zxu (m:List z03) (hw:wfO m) (hl:m.length≤60) (hc:∀ o∈m,z1h o=0) (hT:zsg m):z8m m=some (zfk m):=by
 unfold z8m;rw [zpw m hw (by omega) hc];simp only [bS];rw [z4o,zan (by omega)];simp only [bS];have hnm:=z0n m.length (by omega);rw [z1m (by simp only [List.length_cons,List.length_nil]; omega)];simp only [bS]
 have main:=z3m (F:=z8c m) (b:=zfk m) m.length (fun i=>(m.map oid,zqz m i,(i:Int))) (fun i hi=>by
  have hm:=List.getElem_mem hi;have hci:=hc _ hm;have hwi:=hw _ hm;have hpl:=zwi hw hl hc (Nat.le_of_lt hi);have hel:=zgu (zen hci) hwi.1;have h4:=(z33 hci).1;have hnl:=z0n (z8n (nop m[i])).length (by omega);have hnp:=z0n m[i].Preds.length (by omega);unfold z8c;rw [if_pos (by simpa using hi)];simp only [];rw [z0p hi];simp only [bS];rw [show (⟨m[i].Author,[],m[i].Stamp,m[i].Act,m[i].Sig⟩:z03)=nop m[i] from rfl,zj6 _ (zen hci) hwi.1]
  simp only [bS];rw [zks _ (by omega)];simp only [bS];rw [z1m (by simp only [List.length_append]; omega)];simp only [bS];rw [z4o,zan (by omega)];simp only [bS];rw [z1m (by simp only [List.length_append]; omega)];simp only [bS]
  have inner:=zjt (F:=z8a m (m.map oid,zqz m i,(i:Int))) m[i].Preds (z82 (m.map oid) i) (zqz m i++(z0g (z8n (nop m[i])).length++z8n (nop m[i]))++z0g m[i].Preds.length) (fun j hj=>by
   have hfl:=z9d (z82 (m.map oid) i) 33 (m[i].Preds.take j) (fun x _=>zcz _ _ _ (by omega));have htl:(m[i].Preds.take j).length≤4:=by rw [List.length_take]; omega
   unfold z8a;simp only [];rw [z0p hi];simp only [bS];rw [if_pos (by simpa using hj),z0p hj];simp only [bS];rw [zwk _ _ (by simp; omega)];simp only [bS];by_cases hin:m[i].Preds[j]∈m.map oid
   ·have ht:=(zmc hT hi (List.getElem_mem hj)).1 hin;obtain ⟨e1,e2⟩:=zkl ht;rw [if_pos hin,if_pos (by simp),z4o,zz8 (by omega) (by omega)];simp only [bS];have hnl2:=z0n (i - (m.map oid).idxOf m[i].Preds[j]) (by omega);rw [z1m (by simp only [List.length_append]; omega)];simp only [bS];rw [z0u (by omega), show z82 (m.map oid) i m[i].Preds[j]=z0g (i - (m.map oid).idxOf m[i].Preds[j]) by unfold z82; rw [if_pos hin]]
   ·rw [if_neg hin,if_neg (by simp)];rw [z1m (by simp only [List.length_append,List.length_cons,List.length_nil]; omega)];simp only [bS];rw [z1m (by simp only [List.length_append,List.length_cons,List.length_nil,Vector.length_toList]; omega)];simp only [bS];rw [z0u (by omega), show z82 (m.map oid) i m[i].Preds[j]=0::m[i].Preds[j].toList by unfold z82; rw [if_neg hin]]
    simp) (by
   unfold z8a;simp only [];rw [z0p hi];simp only [bS]
   rw [if_neg (by simp)])
  rw [inner];simp only [bS];rw [z0u (by omega),zsm m hi];unfold opB
  simp only [List.append_assoc]) (by
  unfold z8c;rw [if_neg (by simp)]
  rfl)
 have e0:zqz m 0=[112]++z0g m.length:=by unfold zqz; simp
 simp only [e0] at main;rw [show ((0:Nat):Int)=0 from rfl] at main;rw [main]; rfl
theorem z12c (m:List (ID × Int)) (W:List ID) (h:∀ x,zfh m x=if x∈W then some (W.idxOf x:Int) else none) (y:ID) (hy:y∉W):∀ x,zfh (zo6 m y (W.length:Int)) x=if x∈W++[y] then some ((W++[y]).idxOf x:Int) else none:=fun x=>by
 rw [zmk];by_cases hx:x=y
 ·rw [if_pos hx,if_pos (by simp [hx]),hx,List.idxOf_append,if_neg hy]; simp
 ·rw [if_neg hx,h,List.idxOf_append];by_cases hxW:x∈W
  ·rw [if_pos hxW,if_pos (by simp [hxW]),if_pos hxW]
  ·rw [if_neg hxW,if_neg (by simp [hxW,hx])]
theorem z12e (l:List z03) (hw:wfO l):zb9 l=some (if (zjb l).2=0 then zfk ((zjb l).1.map (·.o)) else [],(zjb l).2):=by
 unfold zb9;rw [znr l hw];simp only [bS];by_cases h0:(zjb l).2=0
 ·have hA:zjb l=(zdj l,0)∧l.length≤60∧(∀ o∈l,z1h o=0)∧(l.map oid).Nodup∧(zdj l).length=l.length:=by
   unfold zjb at h0 ⊢
   split at h0
   ·cases h0
   ·rename_i h1
    split at h0
    ·rename_i h2; exact absurd h0 h2
    ·rename_i h2
     split at h0
     ·cases h0
     ·rename_i h3
      split at h0
      ·rename_i h4;refine ⟨?_, by omega,(zdu l).1 (by simpa using h2),?_,h4⟩
       ·rw [if_neg h1,if_neg h2,if_neg h3,if_pos h4]; rfl
       ·exact (zer l).nodup_iff.1 (Classical.not_not.1 h3)
      ·cases h0
  obtain ⟨e,hl,hc,hn,hcl⟩:=hA;rw [e];simp only [if_true];rw [if_neg (by simp),z56,zan (by omega)];simp only [bS];have hm:∀ x∈zdj l,z1h x.o=0∧(inI x.o.Act.Value.Num∧x.o.Act.Value.Text.length≤9223372036854775807)∧x.id=oid x.o:=fun x hx=>by
   obtain ⟨o,ho,rfl⟩:=zvs l x hx;exact ⟨hc o ho,hw o ho,rfl⟩
  generalize hM:(zdj l).map (·.o)=M;have hMl:M.length=(zdj l).length:=by rw [← hM,List.length_map]
  have hMi:M.map oid=zbb (zdj l):=by
   rw [← hM,List.map_map];unfold zbb;exact List.map_congr_left fun x hx=>((hm x hx).2.2).symm
  have hMg:∀ i (h:i<(zdj l).length),M[i]'(by omega)=(zdj l)[i].o:=fun i h=>by simp [← hM]
  have hMc:∀ o∈M,z1h o=0:=fun o ho=>by
   rw [← hM] at ho;obtain ⟨x,hx,rfl⟩:=List.mem_map.1 ho;exact (hm x hx).1
  have hMw:wfO M:=fun o ho=>by
   rw [← hM] at ho;obtain ⟨x,hx,rfl⟩:=List.mem_map.1 ho;exact (hm x hx).2.1
  have hMn:(M.map oid).Nodup:=by
   rw [hMi];have h1:∀ x∈zdj l,x∈zin l:=zk4 _ _;exact zpi l.length (zin l) ((zer l).nodup_iff.2 hn)
  have hT:zsg M:=by rw [← hM]; exact zmv l
  have hnm:=z0n M.length (by omega);rw [← hMl,z1m (by simp only [List.length_cons,List.length_nil]; omega)];simp only [bS]
  have main:=z9o (F:=zdp (zdj l,0)) M.length (fun i s=>s.1=zqz M i∧s.2.2=(i:Int)∧∀ x,zfh s.2.1 x=if x∈(M.map oid).take i then some (((M.map oid).take i).idxOf x:Int) else none) (fun b=>b=.inr (zfk M)) (fun i s hi hs=>by
   obtain ⟨s1,s2,s3⟩:=s;obtain ⟨h1,h2,h3⟩:=hs;simp only at h1 h2 h3;subst h1 h2;have hic:i<(zdj l).length:=by omega
   have hx:=hMg i hic;have hmm:=List.getElem_mem hi;have hci:=hMc _ hmm;have hwi:=hMw _ hmm;have hpl:=zwi hMw (by omega) hMc (Nat.le_of_lt hi);have hel:=zgu (zen hci) hwi.1;have h4:=(z33 hci).1;have hnl:=z0n (z8n (nop M[i])).length (by omega);have hnp:=z0n M[i].Preds.length (by omega);have hidx:(zdj l)[i].id=(M.map oid)[i]'(by simpa using hi):=by
    rw [List.getElem_map,hx]; exact (hm _ (List.getElem_mem hic)).2.2
   have inner:=zjt (F:=zdq (zqz M i,s2,(i:Int)) (zdj l)[i]) M[i].Preds (z82 (M.map oid) i) (zqz M i++(z0g (z8n (nop M[i])).length++z8n (nop M[i]))++z0g M[i].Preds.length) (fun j hj=>by
    have hfl:=z9d (z82 (M.map oid) i) 33 (M[i].Preds.take j) (fun x _=>zcz _ _ _ (by omega));have htl:(M[i].Preds.take j).length≤4:=by rw [List.length_take]; omega
    unfold zdq;simp only [];rw [← hx,if_pos (by simpa using hj),z0p hj];simp only [bS];rw [h3];by_cases hin:M[i].Preds[j]∈M.map oid
    ·have ht:=(zmc hT hi (List.getElem_mem hj)).1 hin;obtain ⟨e1,e2⟩:=zkl ht;rw [if_pos ht,if_pos (by simp)];simp only [Option.getD_some];rw [z56,zz8 (by omega) (by omega)];simp only [bS];have hnl2:=z0n (i - ((M.map oid).take i).idxOf M[i].Preds[j]) (by omega);rw [z1m (by simp only [List.length_append]; omega)];simp only [bS];rw [z0u (by omega), show z82 (M.map oid) i M[i].Preds[j]=z0g (i - ((M.map oid).take i).idxOf M[i].Preds[j]) by unfold z82; rw [if_pos hin,e1]]
    ·rw [if_neg (fun h=>hin ((zmc hT hi (List.getElem_mem hj)).2 h)),if_neg (by simp)];rw [z1m (by simp only [List.length_append,List.length_cons,List.length_nil]; omega)];simp only [bS];rw [z1m (by simp only [List.length_append,List.length_cons,List.length_nil,Vector.length_toList]; omega)];simp only [bS];rw [z0u (by omega), show z82 (M.map oid) i M[i].Preds[j]=0::M[i].Preds[j].toList by unfold z82; rw [if_neg hin]]
     simp) (by
    unfold zdq;simp only []
    rw [← hx,if_neg (by simp)])
   refine ⟨(zqz M (i+1),zo6 s2 (zdj l)[i].id (i:Int),((i+1:Nat):Int)),?_,rfl,rfl, fun x=>?_⟩
   ·unfold zdp;rw [if_pos (by simp; omega)];simp only [];rw [z0p hic];simp only [bS];rw [← hx, show (⟨M[i].Author,[],M[i].Stamp,M[i].Act,M[i].Sig⟩:z03)=nop M[i] from rfl,zsc _ (zen hci) hwi.1 hwi.2];simp only [bS];rw [if_neg (by simp),zmx _ (by omega)];simp only [bS];rw [if_neg (by simp),z1m (by simp only [List.length_append]; omega)];simp only [bS];rw [z56,zan (by omega)];simp only [bS];rw [z1m (by simp only [List.length_append]; omega)]
    simp only [bS];rw [inner];simp only [bS];rw [z0u (by omega),zsm M hi];unfold opB;simp only [List.append_assoc]
   ·have hni:(M.map oid)[i]'(by simpa using hi)∉(M.map oid).take i:=fun h=>by
     obtain ⟨q,hq,e⟩:=List.getElem_of_mem h;rw [List.length_take] at hq;rw [List.getElem_take] at e
     have:=zhf hMn (by omega) (by simpa using hi) e
     omega
    have hlen:((M.map oid).take i).length=i:=by rw [List.length_take,List.length_map]; omega
    have:=z12c s2 _ h3 _ hni x
    rw [hlen] at this
    rw [hidx,this,z16l (by simpa using hi)]) (fun s hs=>by
   obtain ⟨s1,s2,s3⟩:=s;obtain ⟨h1,h2,h3⟩:=hs;simp only at h1 h2 h3;subst h1 h2;refine ⟨_,?_,rfl⟩;unfold zdp;rw [if_neg (by simp; omega)]
   rfl) ([112]++z0g M.length,[],0) 0 (Nat.zero_le _) ⟨by unfold zqz; simp,rfl, fun x=>by simp [zfh]⟩
  obtain ⟨b,hb,rfl⟩:=main;rw [hb];rfl
 ·rw [if_neg h0,if_pos (by simpa using h0)]
end
section
open Go
theorem zc1 {l:List z03} (h0:(zjb l).2=0):zjb l=(zdj l,0)∧l.length≤60∧(∀ o∈l,z1h o=0)∧(l.map oid).Nodup∧(zdj l).length=l.length:=by
 unfold zjb at h0 ⊢
 split at h0
 ·cases h0
 ·rename_i h1
  split at h0
  ·rename_i h2; exact absurd h0 h2
  ·rename_i h2
   split at h0
   ·cases h0
   ·rename_i h3
    split at h0
    ·rename_i h4;refine ⟨?_, by omega,(zdu l).1 (by simpa using h2),?_,h4⟩
     ·rw [if_neg h1,if_neg h2,if_neg h3,if_pos h4]; rfl
     ·exact (zer l).nodup_iff.1 (Classical.not_not.1 h3)
    ·cases h0
theorem z101 (l:List z03) (hw:wfO l):zgt l=some (if (zjb l).2=0 then (zdj l).map (·.o) else [],(zjb l).2):=by
 unfold zgt;rw [znr l hw];simp only [bS];by_cases h0:(zjb l).2=0
 ·obtain ⟨e,hl,hc,hn,hcl⟩:=zc1 h0;rw [e];simp only [if_true];rw [if_neg (by simp),zqj _ (by omega)];rfl
 ·rw [if_neg h0,if_pos (by simpa using h0)]
structure CanM (l M:List z03):Prop where
 perm:M.Perm l
 topo:zsg M
theorem zsk:∀ (n:Nat) (left:List z0d),left.length=n→(zcv n left).length=n→(zcv n left).Perm left
 | 0,left,h,_=>by rw [List.eq_nil_of_length_eq_zero h]; exact List.Perm.refl _
 | n+1,left,h,hc=>by
  cases hi:left.findIdx? (free (zbb left)) with
  | none =>
   have e:zcv (n+1) left=[]:=by unfold zcv; rw [hi]
   rw [e] at hc; simp at hc
  | some i =>
   obtain ⟨hil,hfr,-⟩:=List.findIdx?_eq_some_iff_getElem.1 hi;have e:zcv (n+1) left=left[i]'hil::zcv n (left.eraseIdx i):=by
    conv=>lhs; unfold zcv
    rw [hi];simp only [];rw [List.getElem?_eq_getElem hil]
   rw [e] at hc ⊢
   have:=zsk n (left.eraseIdx i) (by rw [List.length_eraseIdx_of_lt hil]; omega) (by simpa using hc);exact (this.cons _).trans (zp2 left i hil)
theorem zz3 {l:List z03} (hcl:(zdj l).length=l.length):(zdj l).Perm (zin l):=zsk l.length (zin l) (zmd l) hcl
theorem zvx {l:List z03} (hcl:(zdj l).length=l.length):CanM l ((zdj l).map (·.o)):=by
 refine ⟨?_,zmv l⟩;have h:=((zz3 hcl).trans (zbh l)).map (fun x:z0d=>x.o);rw [List.map_map] at h
 simpa [Function.comp_def,nmd] using h
theorem z13k {l M:List z03} (h:M.Perm l) (hw:wfO l):wfO M:=fun o ho=>hw o (h.mem_iff.1 ho)
theorem zk0 (l:List z03) (hw:wfO l):zb9 l=some (if (zjb l).2=0 then zfk ((zdj l).map (·.o)) else [],(zjb l).2):=by
 rw [z12e l hw];by_cases h0:(zjb l).2=0
 ·obtain ⟨e,-⟩:=zc1 h0;rw [e]
 ·rw [if_neg h0,if_neg h0]
end
section
open Go
theorem or8 (a:UInt64) (x:UInt8) (h:a.toNat<72057594037927936):(zjc a 8 ||| x.toUInt64).toNat=256 * a.toNat+x.toNat:=by
 have hx:=x.toNat_lt;rw [UInt64.toNat_or,zix, show (2:Nat) ^ min 8 64=256 from rfl,Nat.mod_eq_of_lt (by omega),UInt8.toNat_toUInt64]
 have:=Nat.two_pow_add_eq_or_of_lt (i:=8) (b:=x.toNat) (by omega) a.toNat
 rw [Nat.mul_comm a.toNat 256]; exact this.symm
theorem zsr {a:UInt64} {n:Nat} (h:a.toNat=n):a=UInt64.ofNat n:=by rw [← h]; simp
theorem zcq {l:List UInt8} {i:Nat} (h:i<l.length):l.getD i 0=l[i]:=by simp [List.getD,h]
theorem z18c (l:List UInt8) (h8:l.length≤8):iter (z7a l) (0,0)=some (UInt64.ofNat (z5j l)):=by
 obtain ⟨b,h1,h2⟩:=z9o (F:=z7a l) l.length (fun i s=>s.1.toNat=z5j (l.take i)∧s.2=(i:Int)) (fun b=>b=UInt64.ofNat (z5j l))
  (fun i s hi hs=>by
   obtain ⟨s1,s2⟩:=s;obtain ⟨e1,e2⟩:=hs;simp only at e1 e2;subst e2;have hb:=zk8 hi h8;have ht:=zhj hi;rw [zcq hi] at hb ht;refine ⟨_, by unfold z7a; rw [if_pos (by simp <;> omega)]; simp only [z0p hi,bs]; rfl,?_,?_⟩
   ·show (zjc s1 8 ||| l[i].toUInt64).toNat=_;rw [or8 s1 l[i] (by omega),ht,e1]
   ·exact z0u (by omega))
  (fun s hs=>by
   obtain ⟨s1,s2⟩:=s;obtain ⟨e1,e2⟩:=hs;simp only at e1 e2;subst e2;refine ⟨_, by unfold z7a; rw [if_neg (by simp)],?_⟩;rw [List.take_length] at e1
   exact zsr e1) (0,0) 0 (by omega) ⟨rfl,rfl⟩
 rw [h1,h2]
theorem z16e (x:UInt8):decide (x≤247)=decide (x.toNat≤247):=by
 rw [decide_eq_decide,UInt8.le_iff_toNat_le]; rfl
theorem u8z (x:UInt8):(x==0)=decide (x.toNat=0):=by
 rw [Bool.eq_iff_iff,beq_iff_eq,decide_eq_true_eq,← UInt8.toNat_inj]; rfl
theorem zmi (b:List UInt8) (hb:b.length≤9223372036854775806):z4c b=some (UInt64.ofNat (z0h b).1,((z0h b).2.1:Int),((z0h b).2.2:Int)):=by
 unfold z4c;by_cases h0:b.length=0
 ·rw [if_pos (by simp [h0]),zhl (znc h0)]; rfl
 rw [if_neg (by simp; intro e; simp [e] at h0)];have h0':0<b.length:=by omega
 have i0:=z0p h0';have g0:=zcq h0';have i0':idx b 0=some (b[0]):=i0;rw [i0'];simp only [bs,z16e];by_cases h1:b[0].toNat≤247
 ·rw [decide_eq_true h1,if_pos rfl,zb8 (zqg h0 (by rw [g0]; exact h1)),g0]
  congr 2
  apply UInt64.toNat_inj.1
  rw [UInt8.toNat_toUInt64]; simp
 rw [decide_eq_false h1,if_neg (by simp)];have hx:=b[0].toNat_lt;obtain ⟨k,hk⟩:∃ k:Nat,b[0].toNat - 247=k:=Exists.intro (b[0].toNat - 247) rfl;have ek:w64 ((b[0].toNat:Int) - 247)=(k:Int):=by rw [z13 (by omega) (by omega)]; omega
 rw [ek];by_cases hbad:b.length≤k∨(b.getD 1 0).toNat=0∨(k=1∧(b.getD 1 0).toNat≤247)
 ·rw [zhl (ztq h0 (by rw [g0]; exact h1) (by rw [g0,hk]; exact hbad))];by_cases c1:b.length≤k
  ·rw [if_pos (by simp; omega)]; rfl
  ·rw [if_neg (by simp; omega)];have l1:1<b.length:=by omega
   have i1:idx b 1=some (b[1]):=z0p l1;have g1:=zcq l1;rw [g1] at hbad;rw [i1];simp only [bs,u8z,z16e];by_cases c2:b[1].toNat=0
   ·rw [decide_eq_true c2]; rfl
   ·have c3:k=1∧b[1].toNat≤247:=by omega
    rw [decide_eq_false c2,c3.1];simp only [Bool.false_eq_true,if_false];rw [if_pos (by decide),decide_eq_true c3.2]; rfl
 ·rw [zb8 (zr1 h0 (by rw [g0]; exact h1) (by rw [g0,hk]; exact hbad)),g0,hk];have l1:1<b.length:=by omega
  have i1:idx b 1=some (b[1]):=z0p l1;have g1:=zcq l1;rw [g1] at hbad;rw [if_neg (by simp; omega),i1];simp only [bs,u8z,z16e];have c2:¬ b[1].toNat=0:=by omega
  rw [decide_eq_false c2];simp only [Bool.false_eq_true,if_false];have hc:cut b 1 (w64 ((k:Int)+1))=some ((b.drop 1).take k):=by
   have e:w64 ((k:Int)+1)=((k+1:Nat):Int):=z0u (by omega);rw [e]
   have:=z5i (b:=b) (i:=1) (j:=k+1) (by omega) (by omega)
   rw [show ((1:Nat):Int)=1 from rfl] at this;rw [this,Nat.add_sub_cancel]
  have he:w64 ((k:Int)+1)=((k+1:Nat):Int):=z0u (by omega);have hin:(if ((k:Int)==1)=true then (if decide (b[1].toNat≤247)=true then some (.inl (0,0,12)) else some (.inr ())) else some (.inr ()):Option (Sum (UInt64 × Int × Int) Unit))=some (.inr ()):=by
   by_cases c3:k=1
   ·have c4:¬ b[1].toNat≤247:=by omega
    rw [decide_eq_false c4]; split <;> rfl
   ·rw [if_neg (by simp; omega)]
  rw [hin,zpn,hc];simp only [bs];rw [z18c _ (by rw [List.length_take]; omega)];simp only [bs,he]; rfl
theorem zx7 (u:UInt64):xorI (w64 ((z6r u 1).toNat:Int)) (w64 (0 - (w64 ((u &&& 1).toNat:Int))))=zjr u.toNat:=by
 have h0:=UInt64.toNat_lt u;have h1:=zx4 (u:=u.toNat) (by omega);have e1:(z6r u 1).toNat=u.toNat / 2:=by rw [zb1]; rfl
 have e2:(u &&& 1).toNat=u.toNat % 2:=by rw [UInt64.toNat_and]; exact Nat.and_one_is_mod _
 rw [← h1];unfold xorI w64
 congr 2
 ·rw [e1]; show ((u.toNat / 2:Nat):Int)=Int.fdiv (u.toNat:Int) 2; rw [Int.fdiv_eq_ediv_of_nonneg _ (by omega)]; rfl
 ·congr 2
  rw [e2]
  have:zal .and .u64 ((u.toNat:Nat):Int) 1=((u.toNat % 2:Nat):Int):=by
   rw [zoy];have e3:BitVec.ofInt 64 (u.toNat:Int)=BitVec.ofNat 64 u.toNat:=BitVec.ofInt_natCast ..;rw [e3, show BitVec.ofInt 64 1=BitVec.ofNat 64 1 from rfl,BitVec.toNat_and,BitVec.toNat_ofNat,BitVec.toNat_ofNat,Nat.mod_eq_of_lt (by omega), show 1 % 2 ^ 64=1 from rfl,Nat.and_one_is_mod];rw [show ((u.toNat % 2:Nat):Int)=((u.toNat % 2:Nat):Int) from rfl];exact z169 _ (by omega)
  rw [this]
theorem z125 (b:List UInt8) (hb:b.length≤9223372036854775806):zbi b=some ((zdd b).1,((zdd b).2.1:Int),((zdd b).2.2:Int)):=by
 unfold zbi;rw [zmi b hb];simp only [bs];have h1:=zat b;by_cases h:(z0h b).2.2=0
 ·rw [zhm h,h,if_neg (by simp),zx7]
  have:(UInt64.ofNat (z0h b).1).toNat=(z0h b).1:=by simp; omega
  rw [this]; rfl
 ·rw [zk5 h,if_pos (by simp; omega)]; rfl
theorem zrq (b:List UInt8) (hb:b.length≤9223372036854775806) (most:Int) (hm:most≤9223372036854775807) (k:Nat) (hk:0<k) (hk2:k≤1000):zdy b most (k:Int)=some ((z2f b most k).1,((z2f b most k).2.1:Int),((z2f b most k).2.2:Int)):=by
 unfold zdy;by_cases h1:most<0
 ·rw [decide_eq_true h1,if_pos rfl,zh6 h1]; rfl
 rw [decide_eq_false h1,if_neg (by simp),zmi b hb];simp only [bs];have hl:=zat b;have hu:=z6x b;have en:(UInt64.ofNat (z0h b).1).toNat=(z0h b).1:=by simp; omega
 have e1:decide (UInt64.ofInt most<UInt64.ofNat (z0h b).1)=decide (most<((z0h b).1:Int)):=by
  rw [decide_eq_decide,UInt64.lt_iff_toNat_lt,z6f,en]; omega
 obtain ⟨D,hD⟩:∃ D:Nat,(b.length - (z0h b).2.1) / k=D:=Exists.intro _ rfl;have hd:D≤b.length:=by rw [← hD]; exact Nat.le_trans (Nat.div_le_self _ _) (Nat.sub_le _ _)
 have e2:w64 (Int.tdiv (w64 ((b.length:Int) - (z0h b).2.1)) (k:Int))=(D:Int):=by
  rw [z13 (x:=(b.length:Int) - (z0h b).2.1) (by omega) (by omega), show (b.length:Int) - ((z0h b).2.1:Int)=((b.length - (z0h b).2.1:Nat):Int) by omega,Int.tdiv_eq_ediv_of_nonneg (by omega),← Int.natCast_ediv,hD,z13 (by omega) (by omega)]
 have e3:decide (UInt64.ofInt (w64 (Int.tdiv (w64 ((b.length:Int) - (z0h b).2.1)) (k:Int)))<UInt64.ofNat (z0h b).1)=decide ((b.length - (z0h b).2.1) / k<(z0h b).1):=by
  rw [decide_eq_decide,UInt64.lt_iff_toNat_lt,e2,z6f,en,hD]; omega
 rw [e1,e3];by_cases h2:(z0h b).2.2≠0∨most<((z0h b).1:Int)∨(b.length - (z0h b).2.1) / k<(z0h b).1
 ·rw [zea h1 h2];have hs:(if ((((z0h b).2.2:Nat):Int) != 0)=true then some true else if decide (most<((z0h b).1:Int))=true then some true else chk ((k:Int)≠0) >>= fun u7=>some (decide ((b.length - (z0h b).2.1) / k<(z0h b).1)))=some true:=by
   by_cases c1:(z0h b).2.2=0
   ·rw [if_neg (by simp [c1])];by_cases c2:most<((z0h b).1:Int)
    ·rw [decide_eq_true c2,if_pos rfl]
    ·rw [decide_eq_false c2,if_neg (by simp),z4f (by omega),decide_eq_true (by omega)]; rfl
   ·rw [if_pos (by simp; omega)]
  rw [hs]; rfl
 ·rw [z8v h1 h2];have hf:=ze0 (b:=b) (k:=k) (by omega);have hs:(if ((((z0h b).2.2:Nat):Int) != 0)=true then some true else if decide (most<((z0h b).1:Int))=true then some true else chk ((k:Int)≠0) >>= fun u7=>some (decide ((b.length - (z0h b).2.1) / k<(z0h b).1)))=some false:=by
   rw [if_neg (by simp; omega),decide_eq_false (by omega),if_neg (by simp),z4f (by omega),decide_eq_false (by omega)]; rfl
  rw [hs];simp only [bs,Bool.false_eq_true,if_false,en];have hmul:(k:Int) * ((z0h b).1:Int)=((k * (z0h b).1:Nat):Int):=by rw [Int.natCast_mul]
  have h9:(z0h b).1≤k * (z0h b).1:=Nat.le_mul_of_pos_left _ hk;have e5:w64 (((z0h b).2.1:Int)+w64 ((k:Int) * w64 ((z0h b).1:Int)))=(((z0h b).2.1+k * (z0h b).1:Nat):Int):=by
   rw [z13 (x:=((z0h b).1:Int)) (by omega) (by omega),hmul,z13 (x:=((k * (z0h b).1:Nat):Int)) (by omega) (by omega),z13 (by omega) (by omega)]; omega
  rw [e5,z5i (by omega) (by omega)];simp only [bs,Nat.add_sub_cancel_left]; rfl
theorem zfc (b:List UInt8) (hb:b.length≤100000) (most:Int) (hm:most≤9223372036854775807):z49 b most=some ((z2f b most 1).1,((z2f b most 1).2.1:Int),((z2f b most 1).2.2:Int)):=by
 unfold z49 zfw
 have:=zrq b (by omega) most hm 1 (by decide) (by decide)
 rw [show ((1:Nat):Int)=1 from rfl] at this;rw [this];have hl:=ztd b most 1;simp only [bs];rw [z1m (by simp; omega)]; rfl
theorem zs6 (b s:List UInt8) (hb:b.length≤9223372036854775806):z9x b s=some (decide (b.take s.length=s)):=by
 unfold z9x;by_cases h:s.length≤b.length
 ·rw [if_pos (by simp; omega)]
  have:=z5i (b:=b) (i:=0) (j:=s.length) (by omega) h
  rw [show ((0:Nat):Int)=0 from rfl,List.drop_zero,Nat.sub_zero] at this;rw [this];simp only [bs];rw [zqh _ _ (by rw [List.length_take]; omega)]; rfl
 ·rw [if_neg (by simp; omega),decide_eq_false (fun e=>by have:=congrArg List.length e; rw [List.length_take] at this; omega)]
theorem zzh (b:List UInt8) (h0:b.length≠0) (k:Nat) (hk:k≤8):iter (z3l b (k:Int)) (0,1)=some (UInt64.ofNat (z5j ((b.drop 1).take k))):=by
 have hn:∀ i,i≤min k (b.length - 1)→((b.drop 1).take i).length=i:=fun i hi=>by rw [List.length_take,List.length_drop]; omega
 obtain ⟨r,h1,h2⟩:=z9o (F:=z3l b (k:Int)) (min k (b.length - 1)) (fun i s=>s.1.toNat=z5j ((b.drop 1).take i)∧s.2=((i+1:Nat):Int)) (fun r=>r=UInt64.ofNat (z5j ((b.drop 1).take k)))
  (fun i s hi hs=>by
   obtain ⟨s1,s2⟩:=s;obtain ⟨e1,e2⟩:=hs;simp only at e1 e2;subst e2;have hi1:i+1<b.length:=by omega
   have hb:=zh4 hi1;rw [zcq hi1] at hb;have h7:=zsh ((b.drop 1).take i) (by rw [hn i (by omega)]; omega);have hx:=b[i+1].toNat_lt;refine ⟨_, by unfold z3l; rw [if_pos (by simp; omega),if_pos (by simp; omega)]; simp only [z0p hi1,bs]; rfl,?_,?_⟩
   ·show ((256:UInt64) * s1+b[i+1].toUInt64).toNat=_;rw [UInt64.toNat_add,UInt64.toNat_mul,UInt8.toNat_toUInt64,hb,e1, show (256:UInt64).toNat=256 from rfl]; omega
   ·exact z0u (by omega))
  (fun s hs=>by
   obtain ⟨s1,s2⟩:=s;obtain ⟨e1,e2⟩:=hs;simp only at e1 e2;subst e2;have e3:(b.drop 1).take (min k (b.length - 1))=(b.drop 1).take k:=by
    rcases Nat.le_total k (b.length - 1) with h | h
    ·rw [Nat.min_eq_left h]
    ·rw [Nat.min_eq_right h,List.take_of_length_le (by simp),List.take_of_length_le (by simp; omega)]
   rw [e3] at e1;refine ⟨s1,?_,zsr e1⟩;unfold z3l;by_cases c:((min k (b.length - 1)+1:Nat):Int)≤(k:Int)
   ·rw [if_pos (by simpa using c),if_neg (by simp; omega)]
   ·rw [if_neg (by simpa using c)]) (0,1) 0 (by omega) ⟨rfl,rfl⟩
 rw [h1,h2]
theorem zch (b:List UInt8) (hb:b.length≤9223372036854775806):z2j b=some (UInt64.ofNat (z0h b).1,((z0h b).2.1:Int),((z0h b).2.2:Int)):=by
 unfold z2j;by_cases h0:b.length=0
 ·rw [if_pos (by simp [h0]),zhl (znc h0)]; rfl
 rw [if_neg (by simp; intro e; simp [e] at h0)];have h0':0<b.length:=by omega
 have g0:=zcq h0';have i0:idx b 0=some (b[0]):=z0p h0';have hx:=b[0].toNat_lt;have hr:=zr9 b;have hs4:(if decide ((247:UInt64)<b[0].toUInt64)=true then iter (z3l b (w64 ((w64 (b[0].toUInt64.toNat:Int)) - 247))) (0,1) else some b[0].toUInt64)=some (UInt64.ofNat (zd0 b)):=by
  have e1:decide ((247:UInt64)<b[0].toUInt64)=decide (247<b[0].toNat):=by rw [decide_eq_decide,UInt64.lt_iff_toNat_lt,UInt8.toNat_toUInt64]; rfl
  rw [e1,UInt8.toNat_toUInt64];by_cases h1:b[0].toNat≤247
  ·rw [decide_eq_false (by omega),if_neg (by simp)]
   congr 1
   refine zsr ?_;rw [UInt8.toNat_toUInt64]; unfold zd0; rw [g0,if_pos h1]
  ·rw [decide_eq_true (by omega),if_pos rfl];have e9:∀ n:Nat,247≤n→(n:Int) - 247=((n - 247:Nat):Int):=by omega
   rw [z13 (x:=(b[0].toNat:Int)) (by omega) (by omega),z13 (by omega) (by omega),e9 _ (by omega),zzh b h0 _ (by omega)];unfold zd0; rw [g0,if_neg h1]
 rw [i0];simp only [bs];rw [hs4];simp only [bs];have en:(UInt64.ofNat (zd0 b)).toNat=zd0 b:=by simp; omega
 rw [z4o,en];simp only [bs];rw [zs6 b _ hb];simp only [bs];by_cases h:b.take (z0g (zd0 b)).length=z0g (zd0 b)
 ·rw [znp h,decide_eq_true h]; rfl
 ·rw [zoq h0 h,decide_eq_false h]; rfl
theorem zdm (b:List UInt8) (hb:b.length≤100000) (most:Int) (hm:most≤9223372036854775807):z4i b most=some ((z2f b most 1).1,((z2f b most 1).2.1:Int),((z2f b most 1).2.2:Int)):=by
 unfold z4i;by_cases h1:most<0
 ·rw [decide_eq_true h1,if_pos rfl,zh6 h1]; rfl
 rw [decide_eq_false h1,if_neg (by simp),zch b (by omega)];simp only [bs];have hl:=zat b;have hu:=z6x b;have en:(UInt64.ofNat (z0h b).1).toNat=(z0h b).1:=by simp; omega
 have e1:decide (UInt64.ofInt most<UInt64.ofNat (z0h b).1)=decide (most<((z0h b).1:Int)):=by
  rw [decide_eq_decide,UInt64.lt_iff_toNat_lt,z6f,en]; omega
 have e2:w64 ((b.length:Int) - (z0h b).2.1)=((b.length - (z0h b).2.1:Nat):Int):=by rw [z13 (by omega) (by omega)]; omega
 have e3:decide (UInt64.ofInt (w64 ((b.length:Int) - (z0h b).2.1))<UInt64.ofNat (z0h b).1)=decide (b.length - (z0h b).2.1<(z0h b).1):=by
  rw [decide_eq_decide,UInt64.lt_iff_toNat_lt,e2,z6f,en]; omega
 rw [e1,e3];have hd:(b.length - (z0h b).2.1) / 1=b.length - (z0h b).2.1:=Nat.div_one _;by_cases h2:(z0h b).2.2≠0∨most<((z0h b).1:Int)∨(b.length - (z0h b).2.1) / 1<(z0h b).1
 ·rw [zea h1 h2];have hs:(if ((((z0h b).2.2:Nat):Int) != 0)=true then some true else if decide (most<((z0h b).1:Int))=true then some true else some (decide (b.length - (z0h b).2.1<(z0h b).1)))=some true:=by
   by_cases c1:(z0h b).2.2=0
   ·rw [if_neg (by simp [c1])];by_cases c2:most<((z0h b).1:Int)
    ·rw [decide_eq_true c2,if_pos rfl]
    ·rw [decide_eq_false c2,if_neg (by simp),decide_eq_true (by omega)]
   ·rw [if_pos (by simp; omega)]
  rw [hs]; rfl
 ·rw [z8v h1 h2];have hf:=ze0 (b:=b) (k:=1) (by omega);have hs:(if ((((z0h b).2.2:Nat):Int) != 0)=true then some true else if decide (most<((z0h b).1:Int))=true then some true else some (decide (b.length - (z0h b).2.1<(z0h b).1)))=some false:=by
   rw [if_neg (by simp; omega),decide_eq_false (by omega),if_neg (by simp),decide_eq_false (by omega)]
  rw [hs];simp only [bs,Bool.false_eq_true,if_false,en];have e5:w64 (((z0h b).2.1:Int)+w64 ((z0h b).1:Int))=(((z0h b).2.1+1 * (z0h b).1:Nat):Int):=by
   rw [z13 (x:=((z0h b).1:Int)) (by omega) (by omega),z13 (by omega) (by omega)]; omega
  rw [e5,z5i (by omega) (by omega)];simp only [bs,Nat.add_sub_cancel_left];rw [z1m (by simp; omega)]; rfl
theorem zut (b:List UInt8) (hb:b.length≤9223372036854775806):z7e b=some ((zdd b).1,((zdd b).2.1:Int),((zdd b).2.2:Int)):=by
 unfold z7e;rw [zch b hb];simp only [bs];have h1:=zat b;by_cases h:(z0h b).2.2=0
 ·have en:(UInt64.ofNat (z0h b).1).toNat=(z0h b).1:=by simp; omega
  rw [zhm h,h,if_neg (by simp)];have e1:(UInt64.ofNat (z0h b).1 % 2==0)=decide ((z0h b).1 % 2=0):=by
   rw [Bool.eq_iff_iff,beq_iff_eq,decide_eq_true_eq,← UInt64.toNat_inj,UInt64.toNat_mod,en]; rfl
  have e2:(UInt64.ofNat (z0h b).1 / 2).toNat=(z0h b).1 / 2:=by rw [UInt64.toNat_div,en]; rfl
  rw [e1,e2];unfold zjr;by_cases c:(z0h b).1 % 2=0
  ·rw [decide_eq_true c,if_pos rfl,if_pos c];simp only [bs];rw [z13 (by omega) (by omega)]; rfl
  ·rw [decide_eq_false c,if_neg (by simp),if_neg c];simp only [bs];rw [z13 (x:=(((z0h b).1 / 2:Nat):Int)) (by omega) (by omega),z13 (x:=0 - (((z0h b).1 / 2:Nat):Int)) (by omega) (by omega),z13 (by omega) (by omega)]
   congr 2; omega
 ·rw [zk5 h,if_pos (by simp; omega)]; rfl
end
section
open Go
def idR (s:List UInt8) (o:Nat):V3:=Vector.ofFn fun j:Fin 32=>s.getD (o+j.val) 0
def zed (s:List UInt8) (n:Nat):List V3:=(List.range n).map fun i=>idR s (32 * i)
theorem zbr (s:List UInt8) (n:Nat):(zed s n).length=n:=by simp [zed]
theorem zkv (s:List UInt8) (n:Nat):zed s (n+1)=zed s n++[idR s (32 * n)]:=by simp [zed,List.range_succ]
theorem zvc (s:List UInt8) (o:Nat) (h:o+32≤s.length):(idR s o).toList=(s.drop o).take 32:=by
 apply List.ext_getElem
 ·simp; omega
 ·intro j h1 h2;have hj:j<32:=by simpa using h1
  simp only [idR,Vector.getElem_toList,Vector.getElem_ofFn,List.getElem_take,List.getElem_drop];exact zcq (by omega)
theorem zuv (s:List UInt8):∀ n:Nat,32 * n≤s.length→zhu (zed s n)=s.take (32 * n)
 | 0,_=>by simp [zed,zhu]
 | n+1,h=>by
  rw [zkv];have ih:=zuv s n (by omega);unfold zhu at ih ⊢;rw [List.flatMap_append,ih,List.flatMap_cons,List.flatMap_nil,List.append_nil,zvc s (32 * n) (by omega), show 32 * (n+1)=32 * n+32 by omega,List.take_add]
theorem z11u (x:V3) (s:List UInt8) (o:Nat) (h:o+32≤s.length):zg4 x (s.drop o)=idR s o:=by
 apply Vector.toList_inj.1
 rw [zkq,zvc s o h]
 have:(s.drop o).length=s.length - o:=by simp
 rw [Nat.min_eq_right (by omega)]
 simp
def zbz (b:List UInt8) (most:Int):List V3 × Nat × Nat :=
 if (z2f b most 32).2.2≠0 then ([],0,(z2f b most 32).2.2)
 else if zbc (zed (z2f b most 32).1 ((z2f b most 32).1.length / 32)) then (zed (z2f b most 32).1 ((z2f b most 32).1.length / 32),(z2f b most 32).2.1,0) else ([],0,12)
theorem zpf {b:List UInt8} {most:Int} (h:(z2f b most 32).2.2=0):(z2f b most 32).1.length=32 * (z0h b).1∧(z2f b most 32).2.1=(z0h b).2.1+32 * (z0h b).1∧(z0h b).2.2=0∧(z2f b most 32).1=(b.drop (z0h b).2.1).take (32 * (z0h b).1)∧((z0h b).1:Int)≤most∧(z0h b).2.1+32 * (z0h b).1≤b.length:=by
 have hu:=z6x b;by_cases h1:most<0
 ·rw [zh6 h1] at h; cases h
 by_cases h2:(z0h b).2.2≠0∨most<((z0h b).1:Int)∨(b.length - (z0h b).2.1) / 32<(z0h b).1
 ·rw [zea h1 h2] at h; cases h
 ·have hf:=ze0 (b:=b) (k:=32) (by omega);rw [z8v h1 h2];refine ⟨?_,rfl, by omega,rfl, by omega, by omega⟩;simp only [List.length_take,List.length_drop]; omega
theorem z17i (s:List UInt8) (n:Nat) (hs:s.length=32 * n) (hn:n≤1000):iter (z9j (List.replicate n (Vector.replicate 32 0))) (s,List.replicate n (Vector.replicate 32 0),0)=some (zed s n):=by
 have h:=z3m (F:=z9j (List.replicate n (Vector.replicate 32 0))) (b:=zed s n) n (fun i=>(s.drop (32 * i),zed s i++List.replicate (n - i) (Vector.replicate 32 0),(i:Int)))
  (fun i hi=>by
   unfold z9j;rw [if_pos (by simp; omega)];have hl:(zed s i++List.replicate (n - i) (Vector.replicate 32 (0:UInt8))).length=n:=by simp [zbr]; omega
   have hidx:idx (zed s i++List.replicate (n - i) (Vector.replicate 32 (0:UInt8))) (i:Int)=some (Vector.replicate 32 0):=by
    rw [z0p (by omega)];rw [List.getElem_append_right (by rw [zbr]; omega)]
    simp
   have hd:(s.drop (32 * i)).length=32 * (n - i):=by rw [List.length_drop,hs]; omega
   have hmin:min (s.drop (32 * i)).length 32=32:=by rw [hd]; omega
   have hcut:cut (s.drop (32 * i)) ((32:Nat):Int) ((s.drop (32 * i)).length:Int)=some (s.drop (32 * (i+1))):=by
    rw [z5i (by omega) (Nat.le_refl _),List.drop_drop,List.take_of_length_le (by simp; omega)]
    congr 2
   simp only [hidx,bs,hmin,hcut];rw [z11u _ s (32 * i) (by omega),z0u (by omega)]
   congr 3
   have e:n - i=(n - (i+1))+1:=by omega
   rw [Int.toNat_natCast,List.set_append_right _ _ (by rw [zbr]; exact Nat.le_refl _),zbr,Nat.sub_self,e,List.replicate_succ,List.set_cons_zero,zkv,List.append_assoc]
   rfl)
  (by
   unfold z9j;rw [if_neg (by simp)]
   simp)
 simpa [zed] using h
theorem z12i (b:List UInt8) (hb:b.length≤20000) (most:Int) (hm:most≤1000):zet b most=some ((zbz b most).1,((zbz b most).2.1:Int),((zbz b most).2.2:Int)):=by
 unfold zet zbz;have hp:=zrq b (by omega) most (by omega) 32 (by omega) (by omega);rw [show ((32:Nat):Int)=32 from rfl] at hp;rw [hp];simp only [bs];by_cases h:(z2f b most 32).2.2=0
 ·obtain ⟨l1,l2,l3,l4,l5,l6⟩:=zpf h;have hn:(z2f b most 32).1.length / 32=(z0h b).1:=by omega
  rw [if_neg (by simp [h]),if_neg (by simp [h]),hn];have e:w64 (Int.tdiv ((z2f b most 32).1.length:Int) 32)=((z0h b).1:Int):=by
   rw [l1,Int.tdiv_eq_ediv_of_nonneg (by omega),z13 (by omega) (by omega)]; omega
  rw [e,zlp (by omega) (by omega)];simp only [bs];rw [z17i _ _ l1 (by omega)];simp only [bs];rw [zp0 _ (by rw [zbr]; omega)];simp only [bs]
  cases zbc (zed (z2f b most 32).1 (z0h b).1) <;> rfl
 ·rw [if_pos (by simp; omega),if_pos h]; rfl
theorem z17f (b:List UInt8) (r2:UInt64 × Int × Int) (s9:List V3 × Int) (o:Nat) (ho:w64 (r2.2.1+(w64 (32 * s9.2)))=(o:Int)) (hb:o+32≤b.length) (hb2:b.length≤20000):iter (z5g b r2 s9) ((Vector.replicate 32 0),0)=some (idR b o):=by
 obtain ⟨v,h1,h2⟩:=z9o (F:=z5g b r2 s9) 32 (fun i s=>s.2=(i:Int)∧∀ j (hj:j<32),s.1[j]=if j<i then b.getD (o+j) 0 else 0) (fun v=>v=idR b o)
  (fun i s hi hs=>by
   obtain ⟨v,k⟩:=s;obtain ⟨e1,e2⟩:=hs;simp only at e1 e2;subst e1;have e3:w64 ((o:Int)+(i:Int))=((o+i:Nat):Int):=by rw [z13 (by omega) (by omega)]; omega
   have hg:o+i<b.length:=by omega
   refine ⟨(zi0 v (i:Int) b[o+i],((i+1:Nat):Int)),?_,rfl, fun j hj=>?_⟩
   ·unfold z5g;rw [if_pos (by simp; omega)];simp only;rw [ho,e3,z0p hg,za1 hi];simp only [bs];rw [z0u (by omega)]
   ·show (zi0 v (i:Int) b[o+i])[j]=_;rw [zhv hj,Int.toNat_natCast];by_cases hij:i=j
    ·subst hij;rw [if_pos rfl,if_pos (by omega),zcq hg]
    ·rw [if_neg hij,e2 j hj];by_cases hlt:j<i
     ·rw [if_pos hlt,if_pos (by omega)]
     ·rw [if_neg hlt,if_neg (by omega)])
  (fun s hs=>by
   obtain ⟨v,k⟩:=s;obtain ⟨e1,e2⟩:=hs;simp only at e1 e2;subst e1;refine ⟨v, by unfold z5g; rw [if_neg (by simp)],?_⟩
   apply Vector.ext
   intro j hj
   rw [e2 j hj,if_pos hj]; simp [idR]) (Vector.replicate 32 0,0) 0 (by omega) ⟨rfl, fun j hj=>by simp⟩
 rw [h1,h2]
theorem z14u (b:List UInt8) (u m o:Nat) (h:o+32≤m):idR ((b.drop u).take m) o=idR b (u+o):=by
 apply Vector.ext
 intro j hj;simp only [idR,Vector.getElem_ofFn,List.getD_eq_getElem?_getD,List.getElem?_take,List.getElem?_drop];rw [if_pos (by omega),Nat.add_assoc]
theorem z17w (b:List UInt8) (n u:Nat) (e:Int) (hb:b.length≤20000) (hu:u+32 * n≤b.length):iter (z5c b (UInt64.ofNat n,(u:Int),e)) ([],0)=some (zed ((b.drop u).take (32 * n)) n):=by
 have en:(UInt64.ofNat n).toNat=n:=by simp; omega
 have h:=z3m (F:=z5c b (UInt64.ofNat n,(u:Int),e)) (b:=zed ((b.drop u).take (32 * n)) n) n (fun i=>(zed ((b.drop u).take (32 * n)) i,(i:Int)))
  (fun i hi=>by
   unfold z5c;simp only [en];rw [z13 (x:=(n:Int)) (by omega) (by omega),if_pos (by simp; omega)];have ho:w64 ((u:Int)+w64 (32 * (i:Int)))=((u+32 * i:Nat):Int):=by
    rw [z13 (x:=32 * (i:Int)) (by omega) (by omega),z13 (by omega) (by omega)]; omega
   rw [z17f b _ _ (u+32 * i) ho (by omega) hb];simp only [bs];rw [z1m (by simp [zbr]; omega)];simp only [bs]
   rw [z0u (by omega),zkv,z14u b u (32 * n) (32 * i) (by omega)])
  (by
   unfold z5c;simp only [en]
   rw [z13 (x:=(n:Int)) (by omega) (by omega),if_neg (by simp)])
 simpa [zed] using h
theorem zuk (b:List UInt8) (hb:b.length≤20000) (most:Int) (hm:most≤1000):z90 b most=some ((zbz b most).1,((zbz b most).2.1:Int),((zbz b most).2.2:Int)):=by
 unfold z90 zbz;by_cases h1:most<0
 ·rw [decide_eq_true h1,if_pos rfl,zh6 h1]; rfl
 rw [decide_eq_false h1,if_neg (by simp),zch b (by omega)];simp only [bs];have hl:=zat b;have hu:=z6x b;have en:(UInt64.ofNat (z0h b).1).toNat=(z0h b).1:=by simp; omega
 have e1:decide (UInt64.ofInt most<UInt64.ofNat (z0h b).1)=decide (most<((z0h b).1:Int)):=by
  rw [decide_eq_decide,UInt64.lt_iff_toNat_lt,z6f,en]; omega
 have e2:w64 ((b.length:Int) - (z0h b).2.1)=((b.length - (z0h b).2.1:Nat):Int):=by rw [z13 (by omega) (by omega)]; omega
 have e3:decide (UInt64.ofInt (w64 ((b.length:Int) - (z0h b).2.1)) / 32<UInt64.ofNat (z0h b).1)=decide ((b.length - (z0h b).2.1) / 32<(z0h b).1):=by
  rw [decide_eq_decide,UInt64.lt_iff_toNat_lt,UInt64.toNat_div,e2,z6f,en, show (32:UInt64).toNat=32 from rfl]; omega
 rw [e1,e3];by_cases h2:(z0h b).2.2≠0∨most<((z0h b).1:Int)∨(b.length - (z0h b).2.1) / 32<(z0h b).1
 ·rw [zea h1 h2];have hs:(if ((((z0h b).2.2:Nat):Int) != 0)=true then some true else if decide (most<((z0h b).1:Int))=true then some true else some (decide ((b.length - (z0h b).2.1) / 32<(z0h b).1)))=some true:=by
   by_cases c1:(z0h b).2.2=0
   ·rw [if_neg (by simp [c1])];by_cases c2:most<((z0h b).1:Int)
    ·rw [decide_eq_true c2,if_pos rfl]
    ·rw [decide_eq_false c2,if_neg (by simp),decide_eq_true (by omega)]
   ·rw [if_pos (by simp; omega)]
  rw [hs]; rfl
 ·have hf:=ze0 (b:=b) (k:=32) (by omega);have hs:(if ((((z0h b).2.2:Nat):Int) != 0)=true then some true else if decide (most<((z0h b).1:Int))=true then some true else some (decide ((b.length - (z0h b).2.1) / 32<(z0h b).1)))=some false:=by
   rw [if_neg (by simp; omega),decide_eq_false (by omega),if_neg (by simp),decide_eq_false (by omega)]
  rw [hs];simp only [bs,Bool.false_eq_true,if_false];rw [z17w b _ _ _ hb (by omega)];have hg:z2f b most 32=((b.drop (z0h b).2.1).take (32 * (z0h b).1),(z0h b).2.1+32 * (z0h b).1,0):=z8v h1 h2;have hlen:((b.drop (z0h b).2.1).take (32 * (z0h b).1)).length / 32=(z0h b).1:=by simp only [List.length_take,List.length_drop]; omega
  rw [hg];simp only [bs,hlen,ne_eq,not_true,if_false];rw [znv _ (by rw [zbr]; omega)];simp only [bs,en];have e5:w64 (((z0h b).2.1:Int)+w64 (32 * w64 ((z0h b).1:Int)))=(((z0h b).2.1+32 * (z0h b).1:Nat):Int):=by
   rw [z13 (x:=((z0h b).1:Int)) (by omega) (by omega),z13 (x:=32 * ((z0h b).1:Int)) (by omega) (by omega),z13 (by omega) (by omega)]; omega
  rw [e5]
  cases zbc (zed ((b.drop (z0h b).2.1).take (32 * (z0h b).1)) (z0h b).1) <;> rfl
end
section
open Go
theorem zu9 {a b:z01} (h1:a.Kind=b.Kind) (h2:a.Num=b.Num) (h3:a.Bits=b.Bits) (h4:a.Text=b.Text):a=b:=by
 cases a; cases b; simp only at h1 h2 h3 h4; subst h1 h2 h3 h4; rfl
theorem zzy:inI 0:=⟨by decide, by decide⟩
theorem shrB (b:UInt64) (k:Nat) (hk:k≤63):(z6r b k).toUInt8.toNat=b.toNat / 2 ^ k % 256:=by
 rw [UInt64.toNat_toUInt8,zb1,Nat.min_eq_left (by omega)]
theorem z14o (b:UInt64):z5j (be8 b)=b.toNat:=by
 have h:=UInt64.toNat_lt b;unfold be8;simp only [z5j,List.foldl_cons,List.foldl_nil,shrB b 56 (by omega),shrB b 48 (by omega),shrB b 40 (by omega),shrB b 32 (by omega),shrB b 24 (by omega),shrB b 16 (by omega),shrB b 8 (by omega),shrB b 0 (by omega)];omega
theorem z16z (l:List UInt8) (h:l.length=8):be8 (UInt64.ofNat (z5j l))=l:=by
 match l,h with
 | [x0,x1,x2,x3,x4,x5,x6,x7],_ =>
  have h0:=x0.toNat_lt; have h1:=x1.toNat_lt; have h2:=x2.toNat_lt; have h3:=x3.toNat_lt; have h4:=x4.toNat_lt; have h5:=x5.toNat_lt; have h6:=x6.toNat_lt; have h7:=x7.toNat_lt;have hv:(UInt64.ofNat (z5j [x0,x1,x2,x3,x4,x5,x6,x7])).toNat=((((((x0.toNat * 256+x1.toNat) * 256+x2.toNat) * 256+x3.toNat) * 256+x4.toNat) * 256+x5.toNat) * 256+x6.toNat) * 256+x7.toNat:=by
   simp only [z5j,List.foldl_cons,List.foldl_nil,UInt64.toNat_ofNat']; omega
  generalize UInt64.ofNat (z5j [x0,x1,x2,x3,x4,x5,x6,x7])=b at hv;unfold be8;have e:∀ (k:Nat) (x:UInt8),k≤63→b.toNat / 2 ^ k % 256=x.toNat→(z6r b k).toUInt8=x:=fun k x hk he=>UInt8.toNat_inj.1 (by rw [shrB b k hk,he]);rw [e 56 x0 (by omega) (by omega),e 48 x1 (by omega) (by omega),e 40 x2 (by omega) (by omega),e 32 x3 (by omega) (by omega),e 24 x4 (by omega) (by omega),e 16 x5 (by omega) (by omega),e 8 x6 (by omega) (by omega),e 0 x7 (by omega) (by omega)]
theorem z10q (b:UInt64):(be8 b).length=8:=rfl
def zti:z01 × Nat × Nat:=(⟨0,0,0,[]⟩,0,12)
def z9p (k:UInt8) (r:List UInt8):z01 × Nat × Nat :=
 if k=1 then (⟨1,(zdd r).1,0,[]⟩,(zdd r).2.1,(zdd r).2.2)
 else if k=2 then (if r.length<8 then zti else (⟨2,0,UInt64.ofNat (z5j (r.take 8)),[]⟩,8,0))
 else if k=3 then (⟨3,0,0,(z2f r 30 1).1⟩,(z2f r 30 1).2.1,(z2f r 30 1).2.2)
 else (⟨k,0,0,[]⟩,0,0)
def zi1 (b:List UInt8):z01 × Nat × Nat :=
 match b with
 | []=>zti
 | k::r=>if (z9p k r).2.2=0∧okV (z9p k r).1=true then ((z9p k r).1,(z9p k r).2.1+1,0) else zti
theorem z180 (k:UInt8) (l:List UInt8) (h8:l.length≤8):iter (z9i l) (⟨k,0,0,[]⟩,0)=some ⟨k,0,UInt64.ofNat (z5j l),[]⟩:=by
 obtain ⟨b,h1,h2⟩:=z9o (F:=z9i l) l.length (fun i s=>∃ u:UInt64,s.1=⟨k,0,u,[]⟩∧u.toNat=z5j (l.take i)∧s.2=(i:Int)) (fun b=>b=(⟨k,0,UInt64.ofNat (z5j l),[]⟩:z01))
  (fun i s hi hs=>by
   obtain ⟨s1,s2⟩:=s;obtain ⟨u,e0,e1,e2⟩:=hs;simp only at e0 e1 e2;subst e2 e0;have hb:=zk8 hi h8;have ht:=zhj hi;rw [zcq hi] at hb ht;refine ⟨_, by unfold z9i; rw [if_pos (by simp <;> omega)]; simp only [z0p hi,bs]; rfl,zjc u 8 ||| l[i].toUInt64,rfl,?_,?_⟩
   ·rw [or8 u l[i] (by omega),ht,e1]
   ·exact z0u (by omega))
  (fun s hs=>by
   obtain ⟨s1,s2⟩:=s;obtain ⟨u,e0,e1,e2⟩:=hs;simp only at e0 e1 e2;subst e2 e0;refine ⟨_, by unfold z9i; rw [if_neg (by simp)],?_⟩;rw [List.take_length] at e1
   rw [zsr e1]) (⟨k,0,0,[]⟩,0) 0 (by omega) ⟨0,rfl,rfl,rfl⟩
 rw [h1,h2]
theorem ziv (r:List UInt8):(zdd r).2.1≤9∧((zdd r).2.2=0∨(zdd r).2.2=12)∧inI (zdd r).1:=by
 have h:=zat r;by_cases h1:(z0h r).2.2=0
 ·rw [zhm h1]; have:=zo0 h.1; exact ⟨h.2.1,.inl rfl,this⟩
 ·rw [zk5 h1]; exact ⟨by simp,h.2.2,zzy⟩
theorem zna (r:List UInt8):(z2f r 30 1).2.1≤39∧((z2f r 30 1).2.2=0∨(z2f r 30 1).2.2=12)∧(z2f r 30 1).1.length≤r.length:=by
 have h:=zat r;refine ⟨?_,?_,ztd r 30 1⟩ <;> unfold z2f
 ·split
  ·simp
  ·split
   ·simp
   ·simp only; omega
 ·split
  ·rename_i e; exact absurd e (by decide)
  ·split <;> simp
theorem z16p (v:z01) (u e:Nat) (hv:v.Text.length≤9223372036854775807) (hu:u≤100) :
  ((if ((e:Int) != 0)=true then some true else z9l v >>= fun r29=>some (r29 != 0)) >>= fun s27=>if s27 then some ((⟨0,0,0,[]⟩:z01),(0:Int),(12:Int)) else some (w64 ((u:Int)+1)) >>= fun y32=>some (v,y32,0)) =
  some (if e=0∧okV v=true then (v,((u+1:Nat):Int),0) else (⟨0,0,0,[]⟩,0,12)):=by
 rw [zn8 v hv];by_cases he:e=0
 ·rw [if_neg (by simp [he])]
  cases ok:okV v
  ·have hn:¬ (e=0∧false=true):=by simp
   rw [if_neg hn]; rfl
  ·rw [if_pos (⟨he,rfl⟩:e=0∧true=true)];simp only [bs,if_true,bne_self_eq_false,Bool.false_eq_true,if_false];rw [z0u (by omega)]
 ·rw [if_pos (by simp; omega),if_neg (fun h=>he h.1)]; rfl
theorem z16o (b:List UInt8) (hb:b.length≤10000):zd2 b=some ((zi1 b).1,((zi1 b).2.1:Int),((zi1 b).2.2:Int)):=by
 unfold zd2 zi1
 match b,hb with
 | [],_=>rfl
 | k::r,hb =>
  simp only [List.length_cons] at hb;rw [if_neg (by simp; omega)];have i0:idx (k::r) 0=some k:=z0p (l:=k::r) (i:=0) (by simp);have hc:cut (k::r) 1 ((k::r).length:Int)=some r:=by
   have:=z5i (b:=k::r) (i:=1) (j:=(k::r).length) (by simp) (by simp)
   rw [show ((1:Nat):Int)=1 from rfl] at this;rw [this]; simp
  rw [i0];simp only [bs];rw [hc];simp only [bs];have fin:∀ (v:z01) (u e:Nat),v.Text.length≤9223372036854775807→u≤100→z9p k r=(v,u,e) →
    ((if ((e:Int) != 0)=true then some true else z9l v >>= fun r29=>some (r29 != 0)) >>= fun s27=>if s27 then some ((⟨0,0,0,[]⟩:z01),(0:Int),(12:Int)) else some (w64 ((u:Int)+1)) >>= fun y32=>some (v,y32,0)) =
    some ((if (z9p k r).2.2=0∧okV (z9p k r).1=true then ((z9p k r).1,(z9p k r).2.1+1,0) else zti).1,(((if (z9p k r).2.2=0∧okV (z9p k r).1=true then ((z9p k r).1,(z9p k r).2.1+1,0) else zti).2.1:Nat):Int),(((if (z9p k r).2.2=0∧okV (z9p k r).1=true then ((z9p k r).1,(z9p k r).2.1+1,0) else zti).2.2:Nat):Int)):=by
   intro v u e hv hu hr;rw [z16p v u e hv hu,hr];by_cases h:e=0∧okV v=true
   ·rw [if_pos h,if_pos h]; rfl
   ·rw [if_neg h,if_neg h]; rfl
  by_cases k1:k=1
  ·have hr:=ziv r;subst k1;rw [if_pos (by decide),z125 r (by omega)];simp only [bs,zpn];exact fin _ _ _ (by simp) (by omega) (by unfold z9p; rw [if_pos rfl])
  have c1:(k==1)=false:=by simpa using k1
  rw [c1];simp only [Bool.false_eq_true,if_false];by_cases k2:k=2
  ·subst k2;rw [if_pos (by decide)];by_cases h8:r.length<8
   ·rw [if_pos (by simp; omega)]
    have:z9p 2 r=zti:=by unfold z9p; rw [if_neg (by decide),if_pos rfl,if_pos h8]
    rw [this]; rfl
   ·rw [if_neg (by simp; omega)];have hc8:cut r 0 8=some (r.take 8):=by
     have:=z5i (b:=r) (i:=0) (j:=8) (by omega) (by omega)
     rw [show ((0:Nat):Int)=0 from rfl, show ((8:Nat):Int)=8 from rfl] at this;rw [this]; simp
    rw [hc8];simp only [bs];rw [z180 2 (r.take 8) (by rw [List.length_take]; omega)];simp only [bs,zpn];exact fin ⟨2,0,UInt64.ofNat (z5j (r.take 8)),[]⟩ 8 0 (by simp) (by omega) (by unfold z9p; rw [if_neg (by decide),if_pos rfl,if_neg h8])
  have c2:(k==2)=false:=by simpa using k2
  rw [c2];simp only [Bool.false_eq_true,if_false];by_cases k3:k=3
  ·have hr:=zna r;subst k3;rw [if_pos (by decide),zfc r (by omega) 30 (by decide)];simp only [bs,zpn];exact fin _ _ _ (by show (z2f r 30 1).1.length≤_; omega) (by omega) (by unfold z9p; rw [if_neg (by decide),if_neg (by decide),if_pos rfl])
  have c3:(k==3)=false:=by simpa using k3
  rw [c3];simp only [Bool.false_eq_true,if_false,zpn];exact fin ⟨k,0,0,[]⟩ 0 0 (by simp) (by omega) (by unfold z9p; rw [if_neg k1,if_neg k2,if_neg k3])
theorem z16g (v:z01) (hI:inI v.Num) (h:okV v=true) (b:List UInt8):zi1 (ztk v++b)=(v,(ztk v).length,0):=by
 unfold ztk;have key:∀ (k:UInt8) (x:List UInt8) (w:z01),z9p k (x++b)=(w,x.length,0)→okV w=true→zi1 ((k::x)++b)=(w,(k::x).length,0):=by
  intro k x w h1 h2;show (if (z9p k (x++b)).2.2=0∧okV (z9p k (x++b)).1=true then ((z9p k (x++b)).1,(z9p k (x++b)).2.1+1,0) else zti)=_;rw [h1,if_pos ⟨rfl,h2⟩]; rfl
 have rd:∀ (n:Nat) (c:List UInt8),n<18446744073709551616→z0h (z0g n++c)=(n,(z0g n).length,0):=fun n c hn=>zb8 ((z3c _ _ _).2 ⟨hn,rfl,List.take_left⟩);rcases zhk h with k | k | k
 ·rw [if_pos k,k];refine key 1 _ v ?_ h;have hz:=zwq hI;unfold z9p;have hr:=rd (zig v.Num) b hz;rw [if_pos rfl,zhm (by rw [hr]),hr,zys];obtain ⟨e1,e2⟩:=okV1 h k
  congr 1
  exact zu9 k.symm rfl e1.symm e2.symm
 ·rw [if_neg (by rw [k]; decide),if_pos k,k]
  refine key 2 _ v ?_ h;unfold z9p;rw [if_neg (by decide),if_pos rfl,if_neg (by rw [List.length_append,z10q]; omega)];have e:(be8 v.Bits++b).take 8=be8 v.Bits:=List.take_left' (z10q _);rw [e,z14o];obtain ⟨e1,e2,-⟩:=okV2 h k;rw [show UInt64.ofNat v.Bits.toNat=v.Bits by simp]
  congr 1
  exact zu9 k.symm e1.symm rfl e2.symm
 ·rw [if_neg (by rw [k]; decide),if_neg (by rw [k]; decide),k]
  refine key 3 _ v ?_ h;obtain ⟨e1,e2,e3,-⟩:=okV3 h k;unfold z9p;have hr:=rd v.Text.length (v.Text++b) (by omega);rw [if_neg (by decide),if_neg (by decide),if_pos rfl,List.append_assoc];rw [z8v (by decide) (by rw [hr]; simp only [List.length_append,Nat.div_one]; omega),hr];simp only [List.drop_left,Nat.one_mul,List.take_left,List.length_append]
  congr 1
  exact zu9 k.symm e1.symm e2.symm rfl
theorem zu5 (b:List UInt8) (h:(zi1 b).2.2=0):inI (zi1 b).1.Num∧okV (zi1 b).1=true∧1≤(zi1 b).2.1∧(zi1 b).2.1≤b.length∧ztk (zi1 b).1=b.take (zi1 b).2.1∧(zi1 b).1.Text.length≤30:=by
 match b,h with
 | [],h=>simp [zi1,zti] at h
 | k::r,h =>
  unfold zi1 at h ⊢;by_cases hc:(z9p k r).2.2=0∧okV (z9p k r).1=true
  ·simp only [if_pos hc];obtain ⟨c1,c2⟩:=hc;have ht:(z9p k r).1.Text.length≤30:=by
    rcases zhk c2 with q | q | q
    ·rw [(okV1 c2 q).2]; simp
    ·rw [(okV2 c2 q).2.1]; simp
    ·exact (okV3 c2 q).2.2.1
   suffices hs:inI (z9p k r).1.Num∧(z9p k r).2.1≤r.length∧ztk (z9p k r).1=k::r.take (z9p k r).2.1 by
    refine ⟨hs.1,c2, by omega, by simp only [List.length_cons]; omega,?_,ht⟩;rw [hs.2.2,List.take_succ_cons]
   by_cases k1:k=1
   ·subst k1;have hw:z9p 1 r=(⟨1,(zdd r).1,0,[]⟩,(zdd r).2.1,(zdd r).2.2):=by unfold z9p; rw [if_pos rfl]
    rw [hw] at c1 ⊢;have hr:=ziv r;have e0:(z0h r).2.2=0:=by
     by_cases h1:(z0h r).2.2=0
     ·exact h1
     ·rw [zk5 h1] at c1; exact c1
    rw [zhm e0] at hr ⊢;rcases zb0 r with ⟨h1,h2⟩ | ⟨n,u,h1,h2⟩
    ·rw [h2] at e0; cases e0
    ·obtain ⟨a1,a2,a3⟩:=(z3c r n u).1 h1
     have:=zds h1
     rw [h2];refine ⟨zo0 a1,this.2.2.2,?_⟩;unfold ztk;rw [if_pos rfl];simp only [zyk];rw [a3]
   by_cases k2:k=2
   ·subst k2;have hw:z9p 2 r=if r.length<8 then zti else (⟨2,0,UInt64.ofNat (z5j (r.take 8)),[]⟩,8,0):=by unfold z9p; rw [if_neg (by decide),if_pos rfl]
    rw [hw] at c1 ⊢;by_cases h8:r.length<8
    ·rw [if_pos h8] at c1; cases c1
    ·rw [if_neg h8];refine ⟨zzy, by show 8≤r.length; omega,?_⟩;show (2:UInt8)::be8 (UInt64.ofNat (z5j (r.take 8)))=2::r.take 8;rw [z16z _ (by rw [List.length_take]; omega)]
   by_cases k3:k=3
   ·subst k3;have hw:z9p 3 r=(⟨3,0,0,(z2f r 30 1).1⟩,(z2f r 30 1).2.1,(z2f r 30 1).2.2):=by unfold z9p; rw [if_neg (by decide),if_neg (by decide),if_pos rfl]
    rw [hw] at c1 ⊢;by_cases hb:(z0h r).2.2≠0∨(30:Int)<((z0h r).1:Int)∨(r.length - (z0h r).2.1) / 1<(z0h r).1
    ·rw [zea (by decide) hb] at c1; cases c1
    ·have hf:=ze0 (b:=r) (k:=1) (by omega);rw [z8v (by decide) hb];have e0:(z0h r).2.2=0:=by omega
     rcases zb0 r with ⟨h1,h2⟩ | ⟨n,u,h1,h2⟩
     ·rw [h2] at e0; cases e0
     ·obtain ⟨a1,a2,a3⟩:=(z3c r n u).1 h1
      have:=zds h1
      rw [h2] at hf ⊢;simp only [Nat.one_mul] at hf ⊢;refine ⟨zzy, by omega,?_⟩;show (3:UInt8)::(z0g ((r.drop u).take n).length++(r.drop u).take n)=_;have hl:((r.drop u).take n).length=n:=by rw [List.length_take,List.length_drop]; omega
      simp only [hl];rw [← a3,List.take_add]
   ·exfalso
    have hw:z9p k r=(⟨k,0,0,[]⟩,0,0):=by unfold z9p; rw [if_neg k1,if_neg k2,if_neg k3]
    rw [hw] at c2;rcases zhk c2 with q | q | q
    ·exact k1 q
    ·exact k2 q
    ·exact k3 q
  ·simp only [if_neg hc,zti] at h
   cases h
theorem z11p (b:List UInt8):(zi1 b).2.2=0∨zi1 b=zti:=by
 match b with
 | []=>exact .inr rfl
 | k::r =>
  unfold zi1;by_cases hc:(z9p k r).2.2=0∧okV (z9p k r).1=true
  ·left; simp only [if_pos hc]
  ·right; simp only [if_neg hc]
theorem z15a (k:UInt8) (b:List UInt8) (h0:b.length≠0):iter (z5x b) (⟨k,0,0,[]⟩,1)=some ⟨k,0,UInt64.ofNat (z5j ((b.drop 1).take 8)),[]⟩:=by
 have hn:∀ i,i≤min 8 (b.length - 1)→((b.drop 1).take i).length=i:=fun i hi=>by rw [List.length_take,List.length_drop]; omega
 obtain ⟨r,h1,h2⟩:=z9o (F:=z5x b) (min 8 (b.length - 1)) (fun i s=>∃ u:UInt64,s.1=⟨k,0,u,[]⟩∧u.toNat=z5j ((b.drop 1).take i)∧s.2=((i+1:Nat):Int)) (fun r=>r=(⟨k,0,UInt64.ofNat (z5j ((b.drop 1).take 8)),[]⟩:z01))
  (fun i s hi hs=>by
   obtain ⟨s1,s2⟩:=s;obtain ⟨u,e0,e1,e2⟩:=hs;simp only at e0 e1 e2;subst e2 e0;have hi1:i+1<b.length:=by omega
   have hb:=zh4 hi1;rw [zcq hi1] at hb;have h7:=zsh ((b.drop 1).take i) (by rw [hn i (by omega)]; omega);have hx:=b[i+1].toNat_lt;refine ⟨_, by unfold z5x; rw [if_pos (by simp; omega),if_pos (by simp; omega)]; simp only [z0p hi1,bs]; rfl,256 * u+b[i+1].toUInt64,rfl,?_,?_⟩
   ·rw [UInt64.toNat_add,UInt64.toNat_mul,UInt8.toNat_toUInt64,hb,e1, show (256:UInt64).toNat=256 from rfl]; omega
   ·exact z0u (by omega))
  (fun s hs=>by
   obtain ⟨s1,s2⟩:=s;obtain ⟨u,e0,e1,e2⟩:=hs;simp only at e0 e1 e2;subst e2 e0;have e3:(b.drop 1).take (min 8 (b.length - 1))=(b.drop 1).take 8:=by
    rcases Nat.le_total 8 (b.length - 1) with h | h
    ·rw [Nat.min_eq_left h]
    ·rw [Nat.min_eq_right h,List.take_of_length_le (by simp),List.take_of_length_le (by simp; omega)]
   rw [e3] at e1;refine ⟨⟨k,0,u,[]⟩,?_, by rw [zsr e1]⟩;unfold z5x;by_cases c:((min 8 (b.length - 1)+1:Nat):Int)≤8
   ·rw [if_pos (by simpa using c),if_neg (by simp; omega)]
   ·rw [if_neg (by simpa using c)]) (⟨k,0,0,[]⟩,1) 0 (by omega) ⟨0,rfl,rfl,rfl⟩
 rw [h1,h2]
theorem zzg (n:Nat) (v:z01) (u e:Nat) (hv:v.Text.length≤9223372036854775807) (hu:u≤100) :
  ((if ((e:Int) != 0)=true then some true else if decide ((n:Int)<w64 ((u:Int)+1))=true then some true else z5p v >>= fun r31=>some (r31 != 0)) >>= fun s28=>if s28 then some ((⟨0,0,0,[]⟩:z01),(0:Int),(12:Int)) else some (w64 ((u:Int)+1)) >>= fun y34=>some (v,y34,0)) =
  some (if e=0∧u<n∧okV v=true then (v,((u+1:Nat):Int),0) else (⟨0,0,0,[]⟩,0,12)):=by
 rw [zth v hv,z0u (by omega)];by_cases he:e=0
 ·rw [if_neg (by simp [he])];by_cases hn:u<n
  ·rw [if_neg (by simp; omega)]
   cases ok:okV v
   ·have hn:¬ (e=0∧u<n∧false=true):=by simp
    rw [if_neg hn]; rfl
   ·rw [if_pos (⟨he,hn,rfl⟩:e=0∧u<n∧true=true)]; rfl
  ·rw [if_pos (by simp; omega),if_neg (fun h=>hn h.2.1)]; rfl
 ·rw [if_pos (by simp; omega),if_neg (fun h=>he h.1)]; rfl
theorem z15f (b:List UInt8) (hb:b.length≤10000):z9s b=some ((zi1 b).1,((zi1 b).2.1:Int),((zi1 b).2.2:Int)):=by
 unfold z9s zi1
 match b,hb with
 | [],_=>rfl
 | k::r,hb =>
  simp only [List.length_cons] at hb;rw [if_neg (by simp; omega)];have i0:idx (k::r) 0=some k:=z0p (l:=k::r) (i:=0) (by simp);have hc:cut (k::r) 1 ((k::r).length:Int)=some r:=by
   have:=z5i (b:=k::r) (i:=1) (j:=(k::r).length) (by simp) (by simp)
   rw [show ((1:Nat):Int)=1 from rfl] at this;rw [this]; simp
  rw [i0];simp only [bs];rw [hc];have fin:∀ (v:z01) (u e:Nat),v.Text.length≤9223372036854775807→u≤100→(e=0∧okV v=true→u<(k::r).length∧z9p k r=(v,u,0))→((z9p k r).2.2=0∧okV (z9p k r).1=true→e=0∧u<(k::r).length∧okV v=true) →
    ((if ((e:Int) != 0)=true then some true else if decide (((k::r).length:Int)<w64 ((u:Int)+1))=true then some true else z5p v >>= fun r31=>some (r31 != 0)) >>= fun s28=>if s28 then some ((⟨0,0,0,[]⟩:z01),(0:Int),(12:Int)) else some (w64 ((u:Int)+1)) >>= fun y34=>some (v,y34,0)) =
    some ((if (z9p k r).2.2=0∧okV (z9p k r).1=true then ((z9p k r).1,(z9p k r).2.1+1,0) else zti).1,(((if (z9p k r).2.2=0∧okV (z9p k r).1=true then ((z9p k r).1,(z9p k r).2.1+1,0) else zti).2.1:Nat):Int),(((if (z9p k r).2.2=0∧okV (z9p k r).1=true then ((z9p k r).1,(z9p k r).2.1+1,0) else zti).2.2:Nat):Int)):=by
   intro v u e hv hu hr hq;rw [zzg _ v u e hv hu];by_cases h:e=0∧u<(k::r).length∧okV v=true
   ·have hw:=(hr ⟨h.1,h.2.2⟩).2;rw [if_pos h,hw,if_pos ⟨rfl,h.2.2⟩]; rfl
   ·rw [if_neg h,if_neg (fun h'=>h (hq h'))]; rfl
  by_cases k1:k=1
  ·have hr:=ziv r;have hu:(zdd r).2.1≤r.length:=by
    by_cases h1:(z0h r).2.2=0
    ·rw [zhm h1]; exact z6x r
    ·rw [zk5 h1]; exact Nat.zero_le _
   subst k1;have hw:z9p 1 r=(⟨1,(zdd r).1,0,[]⟩,(zdd r).2.1,(zdd r).2.2):=by unfold z9p; rw [if_pos rfl]
   rw [if_pos (by decide)];simp only [bs];rw [zut r (by omega)];simp only [bs];refine fin ⟨1,(zdd r).1,0,[]⟩ _ _ (by simp) (by omega) (fun h=>⟨by simp only [List.length_cons]; omega, by rw [hw,h.1]⟩) (fun h=>?_);rw [hw] at h;exact ⟨h.1, by simp only [List.length_cons]; omega,h.2⟩
  have c1:(k==1)=false:=by simpa using k1
  rw [c1];simp only [Bool.false_eq_true,if_false,bs];by_cases k2:k=2
  ·subst k2;rw [if_pos (by decide),z15a 2 (2::r) (by simp)];simp only [bs];have hd:((2::r).drop 1).take 8=r.take 8:=by simp
   have hw:z9p 2 r=if r.length<8 then zti else (⟨2,0,UInt64.ofNat (z5j (r.take 8)),[]⟩,8,0):=by unfold z9p; rw [if_neg (by decide),if_pos rfl]
   rw [hd];by_cases h8:r.length<8
   ·rw [if_pos h8] at hw;refine Eq.trans (zzg (2::r).length ⟨2,0,UInt64.ofNat (z5j (r.take 8)),[]⟩ 8 0 (by simp) (by omega)) ?_;rw [hw,if_neg (fun h=>by have:=h.2.1; simp only [List.length_cons] at this; omega)]; rfl
   ·rw [if_neg h8] at hw;exact fin ⟨2,0,UInt64.ofNat (z5j (r.take 8)),[]⟩ 8 0 (by simp) (by omega) (fun h=>⟨by simp only [List.length_cons]; omega,hw⟩) (fun h=>by rw [hw] at h; exact ⟨rfl, by simp only [List.length_cons]; omega,h.2⟩)
  have c2:(k==2)=false:=by simpa using k2
  rw [c2];simp only [Bool.false_eq_true,if_false,bs];by_cases k3:k=3
  ·have hr:=zna r;have hu:(z2f r 30 1).2.1≤r.length:=by
    unfold z2f
    split
    ·simp
    ·split
     ·simp
     ·rename_i h2
      have:=ze0 (b:=r) (k:=1) (by omega)
      have:=z6x r
      simp only; omega
   subst k3;have hw:z9p 3 r=(⟨3,0,0,(z2f r 30 1).1⟩,(z2f r 30 1).2.1,(z2f r 30 1).2.2):=by unfold z9p; rw [if_neg (by decide),if_neg (by decide),if_pos rfl]
   rw [if_pos (by decide)];rw [zdm r (by omega) 30 (by decide)];simp only [bs];refine fin ⟨3,0,0,(z2f r 30 1).1⟩ _ _ (by show (z2f r 30 1).1.length≤_; omega) (by omega) (fun h=>⟨by simp only [List.length_cons]; omega, by rw [hw,h.1]⟩) (fun h=>?_);rw [hw] at h;exact ⟨h.1, by simp only [List.length_cons]; omega,h.2⟩
  have c3:(k==3)=false:=by simpa using k3
  rw [c3];simp only [Bool.false_eq_true,if_false,bs];have hw:z9p k r=(⟨k,0,0,[]⟩,0,0):=by unfold z9p; rw [if_neg k1,if_neg k2,if_neg k3]
  exact fin ⟨k,0,0,[]⟩ 0 0 (by simp) (by omega) (fun h=>⟨by simp,hw⟩) (fun h=>by rw [hw] at h; exact ⟨rfl, by simp,h.2⟩)
theorem zy4 (b:List UInt8):(zi1 b).2.1≤b.length:=by
 rcases z11p b with h | h
 ·exact (zu5 b h).2.2.2.1
 ·rw [h]; exact Nat.zero_le _
end
section
open Go
def rp1:List UInt8→Option (UInt8 × List UInt8)
 | []=>none
 | x::r=>some (x,r)
def rpN (lim:Nat) (b:List UInt8):Option (Nat × List UInt8):=if (z0h b).2.2=0∧(z0h b).1≤lim then some ((z0h b).1,b.drop (z0h b).2.1) else none
def rpI (b:List UInt8):Option (List ID × List UInt8):=if (zbz b 4).2.2=0 then some ((zbz b 4).1,b.drop (zbz b 4).2.1) else none
def rpB (lim:Int) (b:List UInt8):Option (List UInt8 × List UInt8):=if (z2f b lim 1).2.2=0 then some ((z2f b lim 1).1,b.drop (z2f b lim 1).2.1) else none
def rpV (b:List UInt8):Option (z01 × List UInt8):=if (zi1 b).2.2=0 then some ((zi1 b).1,b.drop (zi1 b).2.1) else none
def rpA (b:List UInt8):Option (z0a × List UInt8):=rp1 b >>= fun x=>if x.1=1 then some (⟨x.1,[],v0⟩,x.2) else rpB 20 x.2 >>= fun y=>if x.1=4 then rpV y.2 >>= fun z=>some (⟨x.1,y.1,z.1⟩,z.2) else some (⟨x.1,y.1,v0⟩,y.2)
def rpO (la ls le:Nat) (b:List UInt8):Option z03 :=
 rp1 b >>= fun x=>if x.1=111 then rpN la x.2 >>= fun a=>rpI a.2 >>= fun ps=>rpN ls ps.2 >>= fun st=>rpA st.2 >>= fun act=>rpN le act.2 >>= fun e=>rpN le e.2 >>= fun s =>
  if s.2=[] then some ⟨UInt32.ofNat a.1,ps.1,UInt64.ofNat st.1,act.1,⟨UInt32.ofNat e.1,UInt32.ofNat s.1⟩⟩ else none
 else none
theorem zyx {b r:List UInt8} {x:UInt8} (h:rp1 b=some (x,r)):b=x::r:=by
 cases b with
 | nil=>cases h
 | cons y l=>unfold rp1 at h; injection h with h; injection h with h1 h2; rw [h1,h2]
theorem zni {b:List UInt8} (h:(z0h b).2.2=0):b=z0g (z0h b).1++b.drop (z0h b).2.1∧(z0h b).1<18446744073709551616∧(z0h b).2.1≤b.length:=by
 rcases zb0 b with ⟨h1,h2⟩ | ⟨n,u,h1,h2⟩
 ·rw [h2] at h; cases h
 ·obtain ⟨a1,a2,a3⟩:=(z3c b n u).1 h1;have h4:=(zds h1).2.2.2;rw [h2];refine ⟨?_,a1,h4⟩;show b=z0g n++b.drop u;rw [← a3,List.take_append_drop]
theorem zgv {lim:Nat} {b r:List UInt8} {n:Nat} (h:rpN lim b=some (n,r)):b=z0g n++r∧n≤lim∧n<18446744073709551616∧r.length≤b.length:=by
 unfold rpN at h
 split at h
 ·rename_i hc
  injection h with h; injection h with h1 h2
  have hs:=zni hc.1;rw [h1,h2] at hs;exact ⟨hs.1, by rw [← h1]; exact hc.2,hs.2.1, by rw [← h2,List.length_drop]; omega⟩
 ·cases h
theorem zdr {b:List UInt8} {most:Int} (h:(z2f b most 1).2.2=0):b=(z0g (z2f b most 1).1.length++(z2f b most 1).1)++b.drop (z2f b most 1).2.1∧((z2f b most 1).1.length:Int)≤most∧(z2f b most 1).2.1≤b.length:=by
 have hu:=z6x b;by_cases h1:most<0
 ·rw [zh6 h1] at h; cases h
 by_cases h2:(z0h b).2.2≠0∨most<((z0h b).1:Int)∨(b.length - (z0h b).2.1) / 1<(z0h b).1
 ·rw [zea h1 h2] at h; cases h
 ·have hf:=ze0 (b:=b) (k:=1) (by omega);rw [z8v h1 h2];have e0:(z0h b).2.2=0:=by omega
  rcases zb0 b with ⟨h3,h4⟩ | ⟨n,u,h3,h4⟩
  ·rw [h4] at e0; cases e0
  ·obtain ⟨a1,a2,a3⟩:=(z3c b n u).1 h3;rw [h4] at hf h2 ⊢;simp only [Nat.one_mul] at hf ⊢;have hl:((b.drop u).take n).length=n:=by rw [List.length_take,List.length_drop]; omega
   simp only at h2;refine ⟨?_, by rw [hl]; omega, by have:=zds h3; omega⟩;rw [hl,← a3,← List.take_add,List.take_append_drop]
theorem z165 {lim:Int} {b r s:List UInt8} (h:rpB lim b=some (s,r)):b=(z0g s.length++s)++r∧(s.length:Int)≤lim∧r.length≤b.length:=by
 unfold rpB at h
 split at h
 ·rename_i hc
  injection h with h; injection h with h1 h2
  have hs:=zdr hc;rw [h1,h2] at hs;exact ⟨hs.1,hs.2.1, by rw [← h2,List.length_drop]; omega⟩
 ·cases h
theorem zq4 {b:List UInt8} (h:(zbz b 4).2.2=0):b=(z0g (zbz b 4).1.length++zhu (zbz b 4).1)++b.drop (zbz b 4).2.1∧(zbz b 4).1.length≤4∧zbc (zbz b 4).1=true∧(zbz b 4).2.1≤b.length:=by
 unfold zbz at h ⊢;by_cases h0:(z2f b 4 32).2.2=0
 ·obtain ⟨l1,l2,l3,l4,l5,l6⟩:=zpf h0;have hn:(z2f b 4 32).1.length / 32=(z0h b).1:=by omega
  rw [if_neg (by simp [h0])] at h ⊢;by_cases hi:zbc (zed (z2f b 4 32).1 ((z2f b 4 32).1.length / 32))=true
  ·rw [if_pos hi] at h ⊢;have hs:=zni l3;simp only;rw [hn] at hi ⊢;rw [zbr,l2];refine ⟨?_, by omega,hi,l6⟩;have ht:(z2f b 4 32).1.take (32 * (z0h b).1)=(b.drop (z0h b).2.1).take (32 * (z0h b).1):=by rw [l4,List.take_take,Nat.min_self]
   rw [zuv _ _ (by omega),ht,← List.drop_drop,List.append_assoc,List.take_append_drop];exact hs.1
  ·rw [if_neg hi] at h; cases h
 ·rw [if_pos h0] at h; exact absurd h h0
theorem z15p {b r:List UInt8} {l:List ID} (h:rpI b=some (l,r)):b=(z0g l.length++zhu l)++r∧l.length≤4∧zbc l=true∧r.length≤b.length:=by
 unfold rpI at h
 split at h
 ·rename_i hc
  injection h with h; injection h with h1 h2
  have hs:=zq4 hc;rw [h1,h2] at hs;exact ⟨hs.1,hs.2.1,hs.2.2.1, by rw [← h2,List.length_drop]; omega⟩
 ·cases h
theorem z15x {b r:List UInt8} {v:z01} (h:rpV b=some (v,r)):b=ztk v++r∧okV v=true∧inI v.Num∧v.Text.length≤30∧r.length≤b.length:=by
 unfold rpV at h
 split at h
 ·rename_i hc
  injection h with h; injection h with h1 h2
  obtain ⟨e1,e2,e3,e4,e5,e6⟩:=zu5 b hc;rw [h1] at e1 e2 e5 e6;refine ⟨?_,e2,e1,e6, by rw [← h2,List.length_drop]; omega⟩;rw [e5,← h2,List.take_append_drop]
 ·cases h
def actB (a:z0a):List UInt8:=a.Kind::(if a.Kind=1 then [] else if a.Kind=4 then zxv a++ztk a.Value else zxv a)
theorem zyh {b r:List UInt8} {a:z0a} (h:rpA b=some (a,r)):b=actB a++r∧inI a.Value.Num∧a.Value.Text.length≤30∧a.Key.length≤20∧r.length≤b.length:=by
 unfold rpA at h;have z:inI v0.Num∧v0.Text.length≤30:=⟨⟨by decide, by decide⟩, by decide⟩
 cases h1:rp1 b with
 | none=>rw [h1] at h; cases h
 | some x =>
  obtain ⟨k,b1⟩:=x;have e1:=zyx h1;rw [h1] at h;simp only [bs] at h;by_cases k1:k=1
  ·rw [if_pos k1] at h
   injection h with h; injection h with h2 h3
   subst h2 h3;refine ⟨?_,z.1,z.2, by simp, by rw [e1]; simp⟩
   rw [e1]; unfold actB; simp [k1]
  ·rw [if_neg k1] at h
   cases h2:rpB 20 b1 with
   | none=>rw [h2] at h; cases h
   | some y =>
    obtain ⟨key,b2⟩:=y;have e2:=z165 h2;rw [h2] at h;simp only [bs] at h;by_cases k4:k=4
    ·rw [if_pos k4] at h
     cases h3:rpV b2 with
     | none=>rw [h3] at h; cases h
     | some w =>
      obtain ⟨v,b3⟩:=w;have e3:=z15x h3;rw [h3] at h;simp only [bs] at h
      injection h with h; injection h with h4 h5
      subst h4 h5;refine ⟨?_,e3.2.2.1,e3.2.2.2.1, by show key.length≤20; omega, by rw [e1]; simp only [List.length_cons]; omega⟩;rw [e1,e2.1,e3.1]; unfold actB zxv;simp only [if_neg k1,if_pos k4,List.cons_append,List.append_assoc]
    ·rw [if_neg k4] at h
     injection h with h; injection h with h4 h5
     subst h4 h5;refine ⟨?_,z.1,z.2, by show key.length≤20; omega, by rw [e1]; simp only [List.length_cons]; omega⟩;rw [e1,e2.1]; unfold actB zxv;simp only [if_neg k1,if_neg k4,List.cons_append,List.append_assoc]
theorem zss (o:z03):z8n o=111::(z0g o.Author.toNat++((z0g o.Preds.length++zhu o.Preds)++(z0g o.Stamp.toNat++(actB o.Act++(z0g o.Sig.E.toNat++z0g o.Sig.S.toNat))))):=by
 unfold z8n msg head actB;by_cases k1:o.Act.Kind=1
 ·simp only [if_pos k1,List.append_assoc,List.cons_append,List.nil_append]
 ·by_cases k4:o.Act.Kind=4
  ·simp only [if_neg k1,if_pos k4,List.append_assoc,List.cons_append,List.nil_append]
  ·simp only [if_neg k1,if_neg k4,List.append_assoc,List.cons_append,List.nil_append]
theorem zzt {n:Nat} (h:n≤4294967295):(UInt32.ofNat n).toNat=n:=by simp; omega
theorem z162 {n:Nat} (h:n<18446744073709551616):(UInt64.ofNat n).toNat=n:=by simp; omega
theorem ztr {la ls le:Nat} (hla:la≤4294967295) (hle:le≤4294967295) {b:List UInt8} {o:z03} (h:rpO la ls le b=some o):z8n o=b∧inI o.Act.Value.Num∧o.Act.Value.Text.length≤30∧o.Preds.length≤4:=by
 unfold rpO at h
 cases h1:rp1 b with
 | none=>rw [h1] at h; cases h
 | some x =>
  rw [h1] at h;simp only [bs] at h;by_cases kc:x.1=111
  ·rw [if_pos kc] at h
   cases h2:rpN la x.2 with
   | none=>rw [h2] at h; cases h
   | some a =>
    rw [h2] at h; simp only [bs] at h
    cases h3:rpI a.2 with
    | none=>rw [h3] at h; cases h
    | some ps =>
     rw [h3] at h; simp only [bs] at h
     cases h4:rpN ls ps.2 with
     | none=>rw [h4] at h; cases h
     | some st =>
      rw [h4] at h; simp only [bs] at h
      cases h5:rpA st.2 with
      | none=>rw [h5] at h; cases h
      | some act =>
       rw [h5] at h; simp only [bs] at h
       cases h6:rpN le act.2 with
       | none=>rw [h6] at h; cases h
       | some e =>
        rw [h6] at h; simp only [bs] at h
        cases h7:rpN le e.2 with
        | none=>rw [h7] at h; cases h
        | some s =>
         rw [h7] at h; simp only [bs] at h;by_cases hz:s.2=[]
         ·rw [if_pos hz] at h
          injection h with h
          subst h;have e1:=zyx h1;have e2:=zgv h2;have e3:=z15p h3;have e4:=zgv h4;have e5:=zyh h5;have e6:=zgv h6;have e7:=zgv h7;refine ⟨?_,e5.2.1,e5.2.2.1,e3.2.1⟩;rw [zss];simp only;rw [zzt (by omega),z162 e4.2.2.1,zzt (by omega),zzt (by omega),e1,kc,e2.1,e3.1,e4.1,e5.1,e6.1,e7.1,hz,List.append_nil]
         ·rw [if_neg hz] at h; cases h
  ·rw [if_neg kc] at h; cases h
theorem zgh {lim n:Nat} (h:n<18446744073709551616) (hl:n≤lim) (r:List UInt8):rpN lim (z0g n++r)=some (n,r):=by
 have hr:z0h (z0g n++r)=(n,(z0g n).length,0):=zb8 ((z3c _ _ _).2 ⟨h,rfl,List.take_left⟩);unfold rpN;rw [hr,if_pos ⟨rfl,hl⟩];simp only [List.drop_left]
theorem zui {lim:Int} {s:List UInt8} (h:s.length≤100000) (hl:(s.length:Int)≤lim) (r:List UInt8):z2f ((z0g s.length++s)++r) lim 1=(s,(z0g s.length).length+s.length,0):=by
 have hr:z0h ((z0g s.length++s)++r)=(s.length,(z0g s.length).length,0):=zb8 ((z3c _ _ _).2 ⟨by omega,rfl, by rw [List.append_assoc]; exact List.take_left⟩);rw [z8v (by omega) (by rw [hr]; simp only [List.length_append,Nat.div_one]; omega),hr];simp only [Nat.one_mul];rw [List.append_assoc,List.drop_left,List.take_left]
theorem z14g {lim:Int} {s:List UInt8} (h:s.length≤100000) (hl:(s.length:Int)≤lim) (r:List UInt8):rpB lim ((z0g s.length++s)++r)=some (s,r):=by
 unfold rpB;rw [zui h hl r,if_pos rfl];simp only;rw [← List.length_append,List.drop_left]
theorem zvh:∀ {l m:List ID},l.length=m.length→zhu l=zhu m→l=m
 | [],[],_,_=>rfl
 | x::l,y::m,hl,h=>by
  unfold zhu at h;simp only [List.flatMap_cons] at h;have e:=List.append_inj h (by simp);rw [Vector.toList_inj.1 e.1,zvh (by simpa using hl) e.2]
theorem z17c {l:List ID} (h:l.length≤4) (hi:zbc l=true) (r:List UInt8):rpI ((z0g l.length++zhu l)++r)=some (l,r):=by
 have hr:z0h ((z0g l.length++zhu l)++r)=(l.length,(z0g l.length).length,0):=zb8 ((z3c _ _ _).2 ⟨by omega,rfl, by rw [List.append_assoc]; exact List.take_left⟩);have hl:=zho l;have hp:z2f ((z0g l.length++zhu l)++r) 4 32=(zhu l,(z0g l.length).length+32 * l.length,0):=by
  rw [z8v (by omega) (by rw [hr]; simp only [List.length_append]; omega),hr];simp only;rw [List.append_assoc,List.drop_left,← hl,List.take_left]
 have he:zed (zhu l) l.length=l:=zvh (zbr _ _) (by rw [zuv _ _ (by omega),← hl,List.take_length]);have hn:(zhu l).length / 32=l.length:=by omega
 have hq:zbz ((z0g l.length++zhu l)++r) 4=(l,(z0g l.length).length+32 * l.length,0):=by
  unfold zbz;rw [hp];simp only [ne_eq,not_true,if_false,hn,he,hi,if_true]
 unfold rpI;rw [hq,if_pos rfl];simp only;rw [← hl,← List.length_append,List.drop_left]
theorem z17r {v:z01} (hI:inI v.Num) (h:okV v=true) (r:List UInt8):rpV (ztk v++r)=some (v,r):=by
 unfold rpV;rw [z16g v hI h r,if_pos rfl];simp only [List.drop_left]
theorem z178 {a:z0a} (h:zl1 a=true) (hI:inI a.Value.Num) (r:List UInt8):rpA (actB a++r)=some (a,r):=by
 obtain ⟨k,key,v⟩:=a;have hk:=zce h;unfold zl1 at h;unfold rpA actB;simp only at h hI hk ⊢;simp only [List.cons_append,rp1,bs];by_cases k1:k=1
 ·rw [if_pos k1] at h;simp only [Bool.and_eq_true,decide_eq_true_eq] at h;rw [if_pos k1,if_pos k1,h.1,h.2]; rfl
 ·rw [if_neg k1] at h;have hkey:key.length≤20:=by
   rcases hk with ⟨a,_⟩ | ⟨_,a⟩ | ⟨_,a,_⟩
   ·exact absurd a k1
   ·exact a
   ·exact a
  rw [if_neg k1,if_neg k1];by_cases k4:k=4
  ·have hv:okV v=true:=by
    rw [if_neg (by rw [k4]; decide),if_pos k4] at h
    simp only [Bool.and_eq_true] at h; exact h.2
   simp only [if_pos k4];unfold zxv;rw [List.append_assoc (z0g _++_),z14g (by show key.length≤_; omega) (by show (key.length:Int)≤20; omega)];simp only [bs];rw [z17r hI hv];simp only [bs]
  ·have hv:v=v0:=by
    by_cases k23:k=2∨k=3
    ·rw [if_pos k23] at h;simp only [Bool.and_eq_true,decide_eq_true_eq] at h; exact h.2
    ·rw [if_neg k23,if_neg k4] at h; cases h
   simp only [if_neg k4];unfold zxv;rw [z14g (by show key.length≤_; omega) (by show (key.length:Int)≤20; omega)];simp only [bs,hv]
theorem z16r {la ls le:Nat} (hla:1000000007≤la) (hls:1000000000000≤ls) (hle:500000003≤le) {o:z03} (h:z1h o=0) (hI:inI o.Act.Value.Num):rpO la ls le (z8n o)=some o:=by
 obtain ⟨h1,h2,h3⟩:=z33 h;have ha:=zhg h3;have hg:=zmn h3;unfold zeo zdl at h3;simp only [Bool.and_eq_true,decide_eq_true_eq,Bool.not_eq_true',decide_eq_false_iff_not] at h3;have hs:o.Stamp.toNat≤1000000000000:=by
  have:=h3.2.1
  rw [UInt64.lt_iff_toNat_lt] at this;have e:(1000000000000:UInt64).toNat=1000000000000:=rfl;omega
 have hA:o.Author.toNat≤1000000007:=by unfold inG gp at hg; omega
 have hE:o.Sig.E.toNat≤500000003:=by have:=h3.2.2.2.1; unfold gq at this; omega
 have hS:o.Sig.S.toNat≤500000003:=by have:=h3.2.2.2.2; unfold gq at this; omega
 rw [zss];unfold rpO;simp only [rp1,bs,if_true];rw [zgh (by omega) (by omega)];simp only [bs];rw [z17c h1 h2];simp only [bs];rw [zgh (by omega) (by omega)];simp only [bs];rw [z178 ha hI];simp only [bs];rw [zgh (by omega) (by omega)];simp only [bs]
 have:=zgh (lim:=le) (n:=o.Sig.S.toNat) (by omega) (by omega) []
 rw [List.append_nil] at this;rw [this];simp only [bs,if_true]
 congr 1
 obtain ⟨A,P,T,C,⟨E,S⟩⟩:=o
 simp
end
section
open Go
def pseq {α β:Type} (p:List UInt8→Option (α × List UInt8)) (q:List UInt8→Option (β × List UInt8)) (b:List UInt8):Option ((α × β) × List UInt8):=p b >>= fun x=>(q x.2).map fun y=>((x.1,y.1),y.2)
def vwS (s:z28):Option (List UInt8):=if s.bad then none else some s.b
structure RdS {α:Type} (s s':z28) (p:List UInt8→Option (α × List UInt8)) (v:α):Prop where
 len:s'.b.length≤s.b.length
 ok:∀ x,(vwS s >>= p)=some x→v=x.1∧vwS s'=some x.2
 no:(vwS s >>= p)=none→vwS s'=none
theorem RdS.comp {α β γ:Type} {s s1 s2:z28} {v:α} {w:β} {p:List UInt8→Option (α × List UInt8)} {q:List UInt8→Option (β × List UInt8)} {pq:List UInt8→Option (γ × List UInt8)} (R1:RdS s s1 p v) (R2:RdS s1 s2 q w) (f:β→γ) (h1:∀ b,p b=none→pq b=none) (h2:∀ b r,p b=some (v,r)→pq b=(q r).map fun y=>(f y.1,y.2)):RdS s s2 pq (f w) where
 len:=Nat.le_trans R2.len R1.len
 ok:=fun x hx=>by
  cases hv:vwS s with
  | none=>rw [hv] at hx; cases hx
  | some b =>
   rw [hv] at hx;have hx':pq b=some x:=hx
   cases hp:p b with
   | none=>rw [h1 b hp] at hx'; cases hx'
   | some y =>
    obtain ⟨y1,y2⟩:=y;have r1:=R1.ok (y1,y2) (by rw [hv]; exact hp);simp only at r1;rw [← r1.1] at hp;rw [h2 b y2 hp] at hx'
    cases hq:q y2 with
    | none=>rw [hq] at hx'; cases hx'
    | some z =>
     rw [hq] at hx';have r2:=R2.ok z (by rw [r1.2]; exact hq);simp only [Option.map_some,Option.some.injEq] at hx';rw [← hx'];exact ⟨by rw [r2.1],r2.2⟩
 no:=fun hx=>by
  cases hv:vwS s with
  | none=>exact R2.no (by rw [R1.no (by rw [hv]; rfl)]; rfl)
  | some b =>
   rw [hv] at hx;have hx':pq b=none:=hx
   cases hp:p b with
   | none=>exact R2.no (by rw [R1.no (by rw [hv]; exact hp)]; rfl)
   | some y =>
    obtain ⟨y1,y2⟩:=y;have r1:=R1.ok (y1,y2) (by rw [hv]; exact hp);simp only at r1;rw [← r1.1] at hp;rw [h2 b y2 hp] at hx'
    cases hq:q y2 with
    | none=>exact R2.no (by rw [r1.2]; exact hq)
    | some z=>rw [hq] at hx'; cases hx'
theorem RdS.seq {α β:Type} {s s1 s2:z28} {v:α} {w:β} {p:List UInt8→Option (α × List UInt8)} {q:List UInt8→Option (β × List UInt8)} (R1:RdS s s1 p v) (R2:RdS s1 s2 q w):RdS s s2 (pseq p q) (v,w) :=
 R1.comp R2 (fun y=>(v,y)) (fun b h=>by unfold pseq; rw [h]; rfl) (fun b r h=>by unfold pseq; rw [h]; rfl)
theorem zua (s:z28) (u e:Nat) (h:e=0→u≤s.b.length):z2p s (u:Int) (e:Int)=some (if e=0 then ⟨s.b.drop u,s.bad⟩ else ⟨s.b,true⟩):=by
 unfold z2p;by_cases he:e=0
 ·rw [if_neg (by simp [he]),if_pos he,z5i (h he) (Nat.le_refl _),List.take_of_length_le (by simp)]; rfl
 ·rw [if_pos (by simp; omega),if_neg he]
theorem nx {α:Type} (s:z28) (v:α) (u e:Nat) (p:List UInt8→Option (α × List UInt8)) (hu:e=0→u≤s.b.length) (hp:p s.b=if e=0 then some (v,s.b.drop u) else none):∃ s',z2p s (u:Int) (e:Int)=some s'∧RdS s s' p v:=by
 refine ⟨_,zua s u e hu,?_,?_,?_⟩
 ·by_cases he:e=0
  ·rw [if_pos he]; show (s.b.drop u).length≤_; rw [List.length_drop]; omega
  ·rw [if_neg he]; exact Nat.le_refl _
 ·intro x hx
  cases hb:s.bad with
  | true=>unfold vwS at hx; rw [hb] at hx; cases hx
  | false =>
   unfold vwS at hx; rw [hb] at hx;have hx':p s.b=some x:=hx;rw [hp] at hx';by_cases he:e=0
   ·rw [if_pos he] at hx' ⊢
    injection hx' with hx'
    rw [← hx']; exact ⟨rfl,rfl⟩
   ·rw [if_neg he] at hx'; cases hx'
 ·intro hx;by_cases he:e=0
  ·rw [if_pos he]
   cases hb:s.bad with
   | true=>rfl
   | false =>
    unfold vwS at hx; rw [hb] at hx;have hx':p s.b=none:=hx;rw [hp,if_pos he] at hx'; cases hx'
  ·rw [if_neg he]; rfl
theorem zv5 (s:z28):∃ v s',z9z s=some (v,s')∧RdS s s' rp1 v:=by
 obtain ⟨b,bad⟩:=s
 cases bad with
 | true=>exact ⟨0,⟨b,true⟩,rfl,Nat.le_refl _, fun x hx=>(by cases hx), fun _=>rfl⟩
 | false =>
  cases b with
  | nil=>exact ⟨0,⟨[],true⟩,rfl,Nat.le_refl _, fun x hx=>(by cases hx), fun _=>rfl⟩
  | cons x r =>
   refine ⟨x,⟨r,false⟩,?_, by simp, fun y hy=>?_, fun h=>by cases h⟩
   ·unfold z9z;have hn:z2p ⟨x::r,false⟩ 1 0=some ⟨r,false⟩:=zua ⟨x::r,false⟩ 1 0 (fun _=>by simp);have i0:idx (x::r) 0=some x:=z0p (l:=x::r) (i:=0) (by simp);simp only [Bool.false_eq_true,if_false,bs];rw [if_neg (by simp; omega),i0];simp only [bs];rw [hn]; rfl
   ·have hy':some (x,r)=some y:=hy
    injection hy' with hy'
    rw [← hy']; exact ⟨rfl,rfl⟩
theorem zm8 (s:z28) (lim:UInt64) (L:Nat) (hL:lim.toNat=L) (hb:s.b.length≤10000):∃ (v:UInt64) (s':z28),z5n s lim=some (v,s')∧RdS s s' (rpN L) v.toNat:=by
 have hl:=zat s.b;have hu:=z6x s.b;have en:(UInt64.ofNat (z0h s.b).1).toNat=(z0h s.b).1:=by simp; omega
 unfold z5n;rw [zmi s.b (by omega)];simp only [bs];rw [zua s _ _ (fun _=>hu)];simp only [bs];obtain ⟨b,bad⟩:=s;simp only at hl hu en hb ⊢;by_cases he:(z0h b).2.2=0
 ·rw [if_pos he]
  cases bad with
  | true=>exact ⟨_,_,rfl, by show (b.drop _).length≤_; rw [List.length_drop]; exact Nat.sub_le _ _, fun x hx=>(by cases hx), fun _=>rfl⟩
  | false =>
   by_cases hlim:(z0h b).1≤L
   ·have hd:decide (lim<UInt64.ofNat (z0h b).1)=false:=by rw [decide_eq_false_iff_not,UInt64.lt_iff_toNat_lt,en]; omega
    refine ⟨UInt64.ofNat (z0h b).1,⟨b.drop (z0h b).2.1,false⟩, by simp [hd], by show (b.drop _).length≤_; rw [List.length_drop]; exact Nat.sub_le _ _, fun x hx=>?_, fun hx=>?_⟩
    ·have hx':rpN L b=some x:=hx;unfold rpN at hx';rw [if_pos ⟨he,hlim⟩] at hx'
     injection hx' with hx'
     rw [← hx']; exact ⟨en,rfl⟩
    ·have hx':rpN L b=none:=hx;unfold rpN at hx';rw [if_pos ⟨he,hlim⟩] at hx'; cases hx'
   ·have hd:decide (lim<UInt64.ofNat (z0h b).1)=true:=by rw [decide_eq_true_eq,UInt64.lt_iff_toNat_lt,en]; omega
    refine ⟨UInt64.ofNat (z0h b).1,⟨b.drop (z0h b).2.1,true⟩, by simp [hd], by show (b.drop _).length≤_; rw [List.length_drop]; exact Nat.sub_le _ _, fun x hx=>?_, fun _=>rfl⟩;have hx':rpN L b=some x:=hx;unfold rpN at hx';rw [if_neg (fun h=>hlim h.2)] at hx'; cases hx'
 ·rw [if_neg he];refine ⟨UInt64.ofNat (z0h b).1,⟨b,true⟩,rfl,Nat.le_refl _, fun x hx=>?_, fun _=>rfl⟩
  cases bad with
  | true=>cases hx
  | false =>
   have hx':rpN L b=some x:=hx;unfold rpN at hx';rw [if_neg (fun h=>he h.1)] at hx'; cases hx'
theorem z11t (s:z28) (hb:s.b.length≤10000):∃ s',z2p s ((zbz s.b 4).2.1:Int) ((zbz s.b 4).2.2:Int)=some s'∧RdS s s' rpI (zbz s.b 4).1 :=
 nx s _ _ _ rpI (fun h=>(zq4 h).2.2.2) (by unfold rpI; rfl)
theorem z126 (s:z28) (lim:Int) (hb:s.b.length≤10000):∃ s',z2p s ((z2f s.b lim 1).2.1:Int) ((z2f s.b lim 1).2.2:Int)=some s'∧RdS s s' (rpB lim) (z2f s.b lim 1).1 :=
 nx s _ _ _ (rpB lim) (fun h=>(zdr h).2.2) (by unfold rpB; rfl)
theorem z13g (s:z28) (hb:s.b.length≤10000):∃ s',z2p s ((zi1 s.b).2.1:Int) ((zi1 s.b).2.2:Int)=some s'∧RdS s s' rpV (zi1 s.b).1 :=
 nx s _ _ _ rpV (fun h=>(zu5 _ h).2.2.2.1) (by unfold rpV; rfl)
theorem z13i {β:Type} (s:z28) (hb:s.b.length≤10000):∃ (a:z0a) (s':z28),RdS s s' rpA a∧∀ K:z28 × z0a→Option β,
  (z9z s >>= fun r17 =>
  (if (({ (⟨0,[],(⟨0,0,0,[]⟩:z01)⟩:z0a) with Kind:=r17.1 }).Kind) != 1 then
   z49 r17.2.b 20 >>= fun r21 =>
   z2p r17.2 r21.2.1 r21.2.2 >>= fun r23 =>
   some (r23,{ { (⟨0,[],(⟨0,0,0,[]⟩:z01)⟩:z0a) with Kind:=r17.1 } with Key:=r21.1 })
  else
   some (r17.2,{ (⟨0,[],(⟨0,0,0,[]⟩:z01)⟩:z0a) with Kind:=r17.1 })) >>= fun s19 =>
  (if s19.2.Kind==4 then
   zd2 s19.1.b >>= fun r27 =>
   z2p s19.1 r27.2.1 r27.2.2 >>= fun r30 =>
   some (r30,{ s19.2 with Value:=r27.1 })
  else
   some (s19.1,s19.2)) >>= fun s25=>K s25)=K (s',a):=by
 obtain ⟨k,s1,e1,R1⟩:=zv5 s;have l1:=R1.len;by_cases k1:k=1
 ·refine ⟨⟨1,[],v0⟩,s1,?_, fun K=>?_⟩
  ·have R0:RdS s1 s1 (fun b=>some ((),b)) ():=⟨Nat.le_refl _, fun x hx=>⟨rfl, by
    cases hv:vwS s1 with
    | none=>rw [hv] at hx; cases hx
    | some b=>rw [hv] at hx; have hx':some ((),b)=some x:=hx; injection hx' with hx'; rw [← hx']⟩, fun hx=>by
    cases hv:vwS s1 with
    | none=>rfl
    | some b=>rw [hv] at hx; cases hx⟩
   exact R1.comp R0 (pq:=rpA) (fun _=>⟨1,[],v0⟩) (fun b h=>by unfold rpA; rw [h]; rfl) (fun b r h=>by unfold rpA; rw [h,k1]; rfl)
  ·rw [e1,k1]; rfl
 ·obtain ⟨s2,e2,R2⟩:=z126 s1 20 (by omega);have l2:=R2.len;have c1:(k != 1)=true:=by simpa using k1
  by_cases k4:k=4
  ·obtain ⟨s3,e3,R3⟩:=z13g s2 (by omega);refine ⟨⟨4,(z2f s1.b 20 1).1,(zi1 s2.b).1⟩,s3,?_, fun K=>?_⟩
   ·have R23:RdS s1 s3 (fun b=>rpB 20 b >>= fun y=>(rpV y.2).map fun z=>((⟨4,y.1,z.1⟩:z0a),z.2)) ⟨4,(z2f s1.b 20 1).1,(zi1 s2.b).1⟩ :=
     R2.comp R3 (fun z=>(⟨4,(z2f s1.b 20 1).1,z⟩:z0a)) (fun b h=>by rw [h]; rfl) (fun b r h=>by rw [h]; rfl)
    refine R1.comp R23 (pq:=rpA) id (fun b h=>by unfold rpA; rw [h]; rfl) (fun b r h=>?_);unfold rpA; rw [h,k4];simp only [bs,id];rw [if_neg (by decide)]
    cases rpB 20 r with
    | none=>rfl
    | some y =>
     simp only [bs,if_true]
     cases rpV y.2 <;> rfl
   ·rw [e1];simp only [bs,c1,if_true];rw [zfc s1.b (by omega) 20 (by decide)];simp only [bs];rw [e2];simp only [bs];rw [if_pos (by simpa using k4),z16o s2.b (by omega)];simp only [bs];rw [e3,k4];simp only [bs]
  ·refine ⟨⟨k,(z2f s1.b 20 1).1,v0⟩,s2,?_, fun K=>?_⟩
   ·refine R1.comp R2 (pq:=rpA) (fun key=>(⟨k,key,v0⟩:z0a)) (fun b h=>by unfold rpA; rw [h]; rfl) (fun b r h=>?_);unfold rpA; rw [h];simp only [bs];rw [if_neg k1]
    cases rpB 20 r with
    | none=>rfl
    | some y=>simp only [bs,if_neg k4,Option.map_some]
   ·rw [e1];simp only [bs,c1,if_true];rw [zfc s1.b (by omega) 20 (by decide)];simp only [bs];rw [e2];simp only [bs];rw [if_neg (by simpa using k4)]; rfl
def pAll (la ls le:Nat):List UInt8→Option ((UInt8 × Nat × List ID × Nat × z0a × Nat × Nat) × List UInt8):=pseq rp1 (pseq (rpN la) (pseq rpI (pseq (rpN ls) (pseq rpA (pseq (rpN le) (rpN le))))))
theorem z16j (la ls le:Nat) (b:List UInt8):rpO la ls le b=match pAll la ls le b with
  | some ((c,a,ps,st,act,e,s),r)=>if c=111∧r=[] then some ⟨UInt32.ofNat a,ps,UInt64.ofNat st,act,⟨UInt32.ofNat e,UInt32.ofNat s⟩⟩ else none
  | none=>none:=by
 unfold rpO pAll;simp only [pseq]
 cases rp1 b with
 | none=>rfl
 | some x =>
  simp only [bs];by_cases kc:x.1=111
  ·rw [if_pos kc]
   cases rpN la x.2 with
   | none=>rfl
   | some a =>
    simp only [bs]
    cases rpI a.2 with
    | none=>rfl
    | some ps =>
     simp only [bs]
     cases rpN ls ps.2 with
     | none=>rfl
     | some st =>
      simp only [bs]
      cases rpA st.2 with
      | none=>rfl
      | some act =>
       simp only [bs]
       cases rpN le act.2 with
       | none=>rfl
       | some e =>
        simp only [bs]
        cases rpN le e.2 with
        | none=>rfl
        | some s =>
         simp only [bs,Option.map_some];by_cases hz:s.2=[]
         ·rw [if_pos hz,if_pos ⟨kc,hz⟩]
         ·rw [if_neg hz,if_neg (fun h=>hz h.2)]
  ·rw [if_neg kc]
   cases h:((rpN la x.2 >>= fun x=>((rpI x.2 >>= fun x=>((rpN ls x.2 >>= fun x=>((rpA x.2 >>= fun x=>((rpN le x.2 >>= fun x=>(rpN le x.2).map fun y=>((x.1,y.1),y.2)).map fun y=>((x.1,y.1),y.2)))).map fun y=>((x.1,y.1),y.2))).map fun y=>((x.1,y.1),y.2))).map fun y=>((x.1,y.1),y.2))) with
   | none=>rfl
   | some y =>
    obtain ⟨⟨a,ps,st,act,e,s⟩,r⟩:=y;simp only [Option.map_some];rw [if_neg (fun h=>kc h.1)]
def zy0 (b:List UInt8):z03 × Int:=match rpO 1000000007 1000000000000 500000003 b with
 | some o=>if z1h o=0 then (o,0) else (zO,12)
 | none=>(zO,12)
theorem zwn {x:UInt64} {n:Nat} (h:x.toNat=n):x.toUInt32=UInt32.ofNat n:=by
 apply UInt32.toNat_inj.1
 rw [UInt64.toNat_toUInt32,h]; simp
end
section
open Go
theorem z11b:zg6=some (zO,12):=rfl
theorem z14r {b:List UInt8} {s7:z28} {c:UInt8} {a:UInt64} {ps:List ID} {st:UInt64} {act:z0a} {e s:UInt64} (R:RdS ⟨b,false⟩ s7 (pAll 1000000007 1000000000000 500000003) (c,a.toNat,ps,st.toNat,act,e.toNat,s.toNat)) :
  (c≠111→rpO 1000000007 1000000000000 500000003 b=none) ∧
  (s7.bad=true→rpO 1000000007 1000000000000 500000003 b=none) ∧
  (s7.bad=false→0<s7.b.length→rpO 1000000007 1000000000000 500000003 b=none) ∧
  (c=111→s7.bad=false→¬ 0<s7.b.length→rpO 1000000007 1000000000000 500000003 b=some ⟨a.toUInt32,ps,st,act,⟨e.toUInt32,s.toUInt32⟩⟩):=by
 rw [z16j]
 cases hp:pAll 1000000007 1000000000000 500000003 b with
 | none =>
  have hn:=R.no (show (vwS ⟨b,false⟩ >>= _)=none from hp);refine ⟨fun _=>rfl, fun _=>rfl, fun _ _=>rfl, fun _ h=>?_⟩;unfold vwS at hn; rw [h] at hn; cases hn
 | some x =>
  obtain ⟨⟨c',a',ps',st',act',e',s'⟩,r⟩:=x;have hk:=R.ok _ (show (vwS ⟨b,false⟩ >>= _)=some _ from hp);obtain ⟨h1,h2⟩:=hk;simp only [Prod.mk.injEq] at h1 h2;obtain ⟨rfl,h1,rfl,h3,rfl,h5,h6⟩:=h1;have hbad:s7.bad=false:=by
   cases h:s7.bad with
   | false=>rfl
   | true=>unfold vwS at h2; rw [h] at h2; cases h2
  have hb:s7.b=r:=by unfold vwS at h2; rw [hbad] at h2; injection h2
  refine ⟨fun hc=>?_, fun h=>?_, fun _ h=>?_, fun hc _ h=>?_⟩
  ·simp only; rw [if_neg (fun h=>hc h.1)]
  ·rw [hbad] at h; cases h
  ·simp only; rw [if_neg (fun h'=>by rw [hb,h'.2] at h; simp at h)]
  ·have:r=[]:=by rw [← hb]; exact List.eq_nil_of_length_eq_zero (by omega)
   simp only;rw [if_pos ⟨hc,this⟩,zwn h1,zwn h5,zwn h6,← h3]
   congr 2
   simp
theorem znk (b:List UInt8) (hb:b.length≤10000):zck b=some (zy0 b):=by
 unfold zck;obtain ⟨c,s1,e1,R1⟩:=zv5 ⟨b,false⟩;have l1:s1.b.length≤b.length:=R1.len;rw [e1];simp only [bs];obtain ⟨a,s2,e2,R2⟩:=zm8 s1 1000000007 1000000007 rfl (by omega);have l2:=R2.len;obtain ⟨s3,e3,R3⟩:=z11t s2 (by omega);have l3:=R3.len;obtain ⟨st,s4,e4,R4⟩:=zm8 s3 1000000000000 1000000000000 rfl (by omega);have l4:=R4.len;obtain ⟨act,s5,R5,hK⟩:=z13i (β:=z03 × Int) s4 (by omega);have l5:=R5.len
 obtain ⟨e,s6,e6,R6⟩:=zm8 s5 500000003 500000003 rfl (by omega);have l6:=R6.len;obtain ⟨s,s7,e7,R7⟩:=zm8 s6 500000003 500000003 rfl (by omega);have R:=RdS.seq R1 (RdS.seq R2 (RdS.seq R3 (RdS.seq R4 (RdS.seq R5 (RdS.seq R6 R7)))));obtain ⟨q1,q2,q3,q4⟩:=z14r R;by_cases hc:c=111
 ·rw [if_neg (by simp [hc]),e2];simp only [bs];rw [z12i s2.b (by omega) 4 (by decide)];simp only [bs];rw [e3];simp only [bs];rw [e4];simp only [bs];refine Eq.trans (hK _) ?_;simp only [bs];rw [e6];simp only [bs];rw [e7];simp only [bs];unfold zy0
  cases hbad:s7.bad with
  | true =>
   rw [q2 hbad];simp only [if_true,bs,z11b]
  | false =>
   simp only [Bool.false_eq_true,if_false];by_cases hz:0<s7.b.length
   ·rw [if_pos (by simp; omega),q3 hbad hz];simp only [if_true,bs,z11b]
   ·have h:=q4 hc hbad hz;have he:=ztr (by decide) (by decide) h;rw [if_neg (by rw [decide_eq_true_eq]; omega),h];simp only;rw [zff _ (Nat.le_trans he.2.2.1 (by decide))];simp only [bs];by_cases ho:z1h ⟨a.toUInt32,(zbz s2.b 4).1,st,act,⟨e.toUInt32,s.toUInt32⟩⟩=0
    ·rw [if_pos ho,if_neg (by simp [ho])]
    ·rw [if_neg ho,if_pos (by simpa using ho)]; rfl
 ·rw [if_pos (by simpa using hc),z11b];unfold zy0;rw [q1 hc]; rfl
def shS (o:Option (Nat × List UInt8)):UInt32 × List UInt8 × Bool:=match o with
 | some (n,r)=>(UInt32.ofNat n,r,true)
 | none=>(0,[],false)
theorem zq6 (b:List UInt8) (hb:b.length≤10000):z72 b=some (shS (rpN 4294967295 b)):=by
 have hl:=zat b;have hu:=z6x b;have en:(UInt64.ofNat (z0h b).1).toNat=(z0h b).1:=by simp; omega
 unfold z72 rpN;rw [zch b (by omega)];simp only [bs];by_cases he:(z0h b).2.2=0
 ·rw [if_neg (by simp [he])];have hd:decide (4294967295<UInt64.ofNat (z0h b).1)=decide (4294967295<(z0h b).1):=by rw [decide_eq_decide,UInt64.lt_iff_toNat_lt,en]; rfl
  rw [hd];simp only [bs];by_cases hm:(z0h b).1≤4294967295
  ·rw [decide_eq_false (by omega),if_neg (by simp),if_pos ⟨he,hm⟩,z5i hu (Nat.le_refl _),List.take_of_length_le (by simp)];simp only [bs,shS];rw [zwn en]
  ·rw [decide_eq_true (by omega),if_pos rfl,if_neg (fun h=>hm h.2)]; rfl
 ·rw [if_pos (by simp; omega),if_neg (fun h=>he h.1)]; rfl
theorem z15q (b:List UInt8) (hb:b.length≤10000):∃ a r ok,zcp b=some (a,r,ok)∧rpA b=if ok then some (a,r) else none:=by
 unfold zcp rpA
 cases b with
 | nil=>exact ⟨_,_,false,rfl,rfl⟩
 | cons k r =>
  rw [if_neg (by simp; omega)];have i0:idx (k::r) 0=some k:=z0p (l:=k::r) (i:=0) (by simp);have hc:cut (k::r) 1 ((k::r).length:Int)=some r:=by
   have:=z5i (b:=k::r) (i:=1) (j:=(k::r).length) (by simp) (by simp)
   rw [show ((1:Nat):Int)=1 from rfl] at this;rw [this]; simp
  rw [i0];simp only [bs];rw [hc];simp only [bs,rp1];by_cases k1:k=1
  ·rw [if_pos (by simpa using k1),if_pos k1]; exact ⟨_,_,true,rfl,rfl⟩
  ·rw [if_neg (by simpa using k1),if_neg k1,zdm r (by simp only [List.length_cons] at hb; omega) 20 (by decide)];simp only [bs,rpB];by_cases he:(z2f r 20 1).2.2=0
   ·have hp:=zdr he;rw [if_neg (by simp [he]),if_pos he,z5i hp.2.2 (Nat.le_refl _),List.take_of_length_le (by simp)];simp only [bs];have hl:(r.drop (z2f r 20 1).2.1).length≤10000:=by rw [List.length_drop]; simp only [List.length_cons] at hb; omega
    by_cases k4:k=4
    ·rw [if_pos (by simpa using k4),if_pos k4,z15f _ hl];simp only [bs,rpV];by_cases hv:(zi1 (r.drop (z2f r 20 1).2.1)).2.2=0
     ·rw [if_neg (by simp [hv]),if_pos hv,z5i (zy4 _) (Nat.le_refl _),List.take_of_length_le (Nat.le_of_eq List.length_drop)];exact ⟨_,_,true,rfl,rfl⟩
     ·rw [if_pos (by simp; omega),if_neg hv]; exact ⟨_,_,false,rfl,rfl⟩
    ·rw [if_neg (by simpa using k4),if_neg k4]; exact ⟨_,_,true,rfl,rfl⟩
   ·rw [if_pos (by simp; omega),if_neg he]; exact ⟨_,_,false,rfl,rfl⟩
def outO (o:Option z03):z03 × Int:=match o with
 | some o=>if z1h o=0 then (o,0) else (zO,12)
 | none=>(zO,12)
theorem zu4 (b:List UInt8) (hb:b.length≤10000):z7x b=some (outO (rpO 4294967295 18446744073709551615 4294967295 b)):=by
 cases b with
 | nil=>rfl
 | cons c b1 =>
  unfold z7x;simp only [List.length_cons] at hb;rw [if_neg (by simp; omega)];have i0:idx (c::b1) 0=some c:=z0p (l:=c::b1) (i:=0) (by simp);have hc1:cut (c::b1) 1 ((c::b1).length:Int)=some b1:=by
   have:=z5i (b:=c::b1) (i:=1) (j:=(c::b1).length) (by simp) (by simp)
   rw [show ((1:Nat):Int)=1 from rfl] at this;rw [this]; simp
  rw [i0];simp only [bs];have hE:=fun (o:z03)=>ztr (la:=4294967295) (ls:=18446744073709551615) (le:=4294967295) (by decide) (by decide) (b:=c::b1) (o:=o);unfold rpO at hE ⊢;simp only [rp1,bs] at hE ⊢;by_cases hc:c=111
  ·rw [if_neg (by simp [hc]),if_pos hc,hc1];rw [if_pos hc] at hE;simp only [bs];rw [zq6 b1 (by omega)]
   cases h2:rpN 4294967295 b1 with
   | none=>rfl
   | some a =>
    obtain ⟨a,b2⟩:=a;have l2:=(zgv h2).2.2.2;rw [h2] at hE;simp only [bs,shS,Bool.not_true,Bool.false_eq_true,if_false] at hE ⊢;rw [zuk b2 (by omega) 4 (by decide)];simp only [bs];unfold rpI at hE ⊢;by_cases h3:(zbz b2 4).2.2=0
    ·have hi:=zq4 h3;rw [if_pos h3] at hE;rw [if_neg (by simp [h3]),if_pos h3,z5i hi.2.2.2 (Nat.le_refl _),List.take_of_length_le (by simp)];have l3:(b2.drop (zbz b2 4).2.1).length≤b2.length:=by rw [List.length_drop]; omega
     generalize b2.drop (zbz b2 4).2.1=b3 at *;simp only [bs] at hE ⊢;rw [zch b3 (by omega)];simp only [bs];have hl:=zat b3;have hu:=z6x b3;unfold rpN at hE ⊢;by_cases h4:(z0h b3).2.2=0
     ·have hcond:(z0h b3).2.2=0∧(z0h b3).1≤18446744073709551615:=⟨h4, by omega⟩
      rw [if_pos hcond] at hE;rw [if_neg (by simp [h4]),if_pos hcond,z5i hu (Nat.le_refl _),List.take_of_length_le (by simp)];have l4:(b3.drop (z0h b3).2.1).length≤b3.length:=by rw [List.length_drop]; omega
      generalize b3.drop (z0h b3).2.1=b4 at *;simp only [bs] at hE ⊢;obtain ⟨act,b5,ok,ea,ha⟩:=z15q b4 (by omega);rw [ea,ha];rw [ha] at hE
      cases ok with
      | false=>rfl
      | true =>
       have l5:b5.length≤b4.length:=(zyh (by rw [ha]; rfl)).2.2.2.2;simp only [bs,if_true,Bool.not_true,Bool.false_eq_true,if_false] at hE ⊢;have fold:=fun b=>(show rpN 4294967295 b=if (z0h b).2.2=0∧(z0h b).1≤4294967295 then some ((z0h b).1,b.drop (z0h b).2.1) else none from rfl);simp only [← fold] at hE ⊢;rw [zq6 b5 (by omega)]
       cases h6:rpN 4294967295 b5 with
       | none=>rfl
       | some e =>
        obtain ⟨e,b6⟩:=e;have l6:=(zgv h6).2.2.2;rw [h6] at hE;simp only [bs,shS,Bool.not_true,Bool.false_eq_true,if_false] at hE ⊢;rw [zq6 b6 (by omega)]
        cases h7:rpN 4294967295 b6 with
        | none=>rfl
        | some s =>
         obtain ⟨s,b7⟩:=s;rw [h7] at hE;simp only [bs,shS,Bool.not_true,Bool.false_eq_true,if_false] at hE ⊢;by_cases hz:b7=[]
         ·rw [if_pos hz] at hE;have he:=hE _ rfl;rw [if_neg (by simp [hz]),if_pos hz,zfs _ (Nat.le_trans he.2.2.1 (by decide))];simp only [bs,outO];by_cases ho:z1h ⟨UInt32.ofNat a,(zbz b2 4).1,UInt64.ofNat (z0h b3).1,act,⟨UInt32.ofNat e,UInt32.ofNat s⟩⟩=0
          ·rw [if_neg (by simp [ho]),if_pos ho,zj6 _ ho he.2.1];simp only [bs];rw [zqh _ _ (by have:=zgu ho he.2.1; omega),decide_eq_true he.1]; rfl
          ·rw [if_pos (by simpa using ho),if_neg ho]; rfl
         ·rw [if_neg hz,if_pos (by simp; exact List.length_pos_iff.2 hz)]; rfl
     ·rw [if_pos (by simp; omega),if_neg (fun h=>h4 h.1)]; rfl
    ·rw [if_pos (by simp; omega),if_neg h3]; rfl
  ·rw [if_pos (by simpa using hc),if_neg hc]; rfl
theorem zwa {la ls le:Nat} (h1:1000000007≤la) (h2:1000000000000≤ls) (h3:500000003≤le) (h4:la≤4294967295) (h5:le≤4294967295) (b:List UInt8) :
  (∀ o,z1h o=0→inI o.Act.Value.Num→z8n o=b→outO (rpO la ls le b)=(o,0))∧((∃ o,z1h o=0∧inI o.Act.Value.Num∧o.Act.Value.Text.length≤30∧z8n o=b∧outO (rpO la ls le b)=(o,0))∨outO (rpO la ls le b)=(zO,12)):=by
 refine ⟨fun o ho hI he=>?_,?_⟩
 ·subst he;rw [z16r h1 h2 h3 ho hI];unfold outO; simp only [if_pos ho]
 ·cases h:rpO la ls le b with
  | none=>exact .inr rfl
  | some o =>
   have he:=ztr h4 h5 h;unfold outO;simp only;by_cases ho:z1h o=0
   ·exact .inl ⟨o,ho,he.2.1,he.2.2.1,he.1, by rw [if_pos ho]⟩
   ·exact .inr (by rw [if_neg ho])
theorem zhq (b:List UInt8):(∀ o,z1h o=0→inI o.Act.Value.Num→z8n o=b→zy0 b=(o,0))∧((∃ o,z1h o=0∧inI o.Act.Value.Num∧o.Act.Value.Text.length≤30∧z8n o=b∧zy0 b=(o,0))∨zy0 b=(zO,12)):=zwa (by decide) (by decide) (by decide) (by decide) (by decide) b
theorem zpq (b:List UInt8) (hb:b.length≤10000):z7x b=some (zy0 b):=by
 rw [zu4 b hb]
 congr 1
 have h:=zwa (la:=4294967295) (ls:=18446744073709551615) (le:=4294967295) (by decide) (by decide) (by decide) (by decide) (by decide) b;rcases (zhq b).2 with ⟨o,ho,hI,_,he,hd⟩ | hd
 ·rw [hd]; exact h.1 o ho hI he
 ·rw [hd];rcases h.2 with ⟨o,ho,hI,_,he,_⟩ | h2
  ·have:=(zhq b).1 o ho hI he
   rw [hd] at this
   have:=congrArg Prod.snd this
   cases this
  ·exact h2
end
section
open Go
def zkm (M:List z03):Prop:=(zjb M).2=0∧(zdj M).map (·.o)=M
theorem znf:∀ {l m:List z0d},l.Perm m→l.Pairwise (fun x y=>kd x.id<kd y.id)→m.Pairwise (fun x y=>kd x.id<kd y.id)→l=m
 | [],m,hp,_,_=>(List.nil_perm.1 hp).symm
 | x::l,[],hp,_,_=>absurd hp.length_eq (by simp)
 | x::l,y::m,hp,hl,hm=>by
  obtain ⟨hx,hl'⟩:=List.pairwise_cons.1 hl;obtain ⟨hy,hm'⟩:=List.pairwise_cons.1 hm;have hxm:x∈y::m:=hp.mem_iff.1 (List.mem_cons_self ..);have hyl:y∈x::l:=hp.mem_iff.2 (List.mem_cons_self ..);have e:x=y:=by
   rcases List.mem_cons.1 hxm with h | h
   ·exact h
   ·rcases List.mem_cons.1 hyl with h' | h'
    ·exact h'.symm
    ·have h1:=hy x h;have h2:=hx y h';omega
  subst e;rw [znf (List.perm_cons x |>.1 hp) hl' hm']
theorem zox {l:List z03} (hn:(l.map oid).Nodup):(zin l).Pairwise fun x y=>kd x.id<kd y.id:=by
 have h1:=zms l;have h2:(zbb (zin l)).Nodup:=(zer l).nodup_iff.2 hn;have h3:(zin l).Pairwise fun x y=>x.id≠y.id:=List.pairwise_map.1 h2;exact (h1.and h3).imp fun {a b} h=>by
  have:kd a.id≠kd b.id:=fun e=>h.2 (zw8 e)
  have:=h.1
  omega
theorem z13b {l M:List z03} (hp:M.Perm l) (hn:(l.map oid).Nodup):zin M=zin l:=by
 have hm:(M.map oid).Nodup:=(hp.map oid).nodup_iff.2 hn;exact znf (((zbh M).trans (hp.map nmd)).trans (zbh l).symm) (zox hm) (zox hn)
theorem z10a {l M:List z03} (hp:M.Perm l) (h0:(zjb l).2=0):zjb M=(zdj l,0)∧zdj M=zdj l:=by
 obtain ⟨e,hl,hc,hn,hcl⟩:=zc1 h0;have hs:=z13b hp hn;have hcm:zdj M=zdj l:=by unfold zdj; rw [hs,hp.length_eq]
 refine ⟨?_,hcm⟩;have f:zow M=0:=(zdu M).2 fun o ho=>hc o (hp.mem_iff.1 ho);have hnn:(zbb (zin M)).Nodup:=by rw [hs]; exact (zer l).nodup_iff.2 hn
 unfold zjb;rw [if_neg (by rw [hp.length_eq]; omega),if_neg (by rw [f]; simp),if_neg (by exact fun h=>h hnn)]
 show (if (zdj M).length=M.length then (zdj M,0) else _)=_;rw [if_pos (by rw [hcm,hcl,hp.length_eq]),hcm]
theorem z13o {l:List z03} (h0:(zjb l).2=0):zkm ((zdj l).map (·.o)):=by
 obtain ⟨e,hl,hc,hn,hcl⟩:=zc1 h0;have h:=z10a (zvx hcl).perm h0;exact ⟨by rw [h.1], by rw [h.2]⟩
theorem zkm.topo {M:List z03} (h:zkm M):zsg M:=by
 have:=zmv M
 rw [h.2] at this; exact this
theorem zkm.write {M:List z03} (h:zkm M) (hw:wfO M):zb9 M=some (zfk M,0):=by
 rw [zk0 M hw,h.1,if_pos rfl,h.2]
theorem zgx {lim:Nat} {b r:List UInt8} {n:Nat} (h:rpN lim b=some (n,r)):n≤lim∧r.length≤b.length:=⟨(zgv h).2.1,(zgv h).2.2.2⟩
def pkN (c:z0e) (o:Option (Nat × List UInt8)):Int × z0e:=match o with
 | some (n,r)=>((n:Int),⟨r,c.bad⟩)
 | none=>(0,⟨c.b,true⟩)
theorem zjf (c:z0e) (n:Nat) (r:List UInt8):pkN c (some (n,r))=((n:Int),⟨r,c.bad⟩):=rfl
theorem zql (c:z0e):pkN c none=(0,⟨c.b,true⟩):=rfl
theorem zmz (c:z0e) (lim:Nat) (hl:lim≤1000000) (hb:c.b.length≤100000):z2y c (lim:Int)=some (pkN c (rpN lim c.b)):=by
 have h1:=zat c.b;have hu:=z6x c.b;have en:(UInt64.ofNat (z0h c.b).1).toNat=(z0h c.b).1:=by simp; omega
 have el:(UInt64.ofInt (lim:Int)).toNat=lim:=zan (by omega);unfold z2y rpN;rw [zmi c.b (by omega)];simp only [bs];have hd:decide (UInt64.ofInt (lim:Int)<UInt64.ofNat (z0h c.b).1)=decide (lim<(z0h c.b).1):=by rw [decide_eq_decide,UInt64.lt_iff_toNat_lt,en,el]
 rw [hd];by_cases he:(z0h c.b).2.2=0
 ·rw [if_neg (by simp [he])];simp only [bs];by_cases hm:(z0h c.b).1≤lim
  ·rw [decide_eq_false (by omega),if_neg (by simp),if_pos ⟨he,hm⟩,z5i hu (Nat.le_refl _),List.take_of_length_le (Nat.le_of_eq List.length_drop)];simp only [bs,en,pkN];rw [z13 (by omega) (by omega)]
  ·rw [decide_eq_true (by omega),if_pos rfl,if_neg (fun h=>hm h.2)]; rfl
 ·rw [if_pos (by simp; omega),if_neg (fun h=>he h.1)]; rfl
def rkN (c:z08) (o:Option (Nat × List UInt8)):UInt64 × z08:=if c.ok then (match o with
 | some (n,r)=>(UInt64.ofNat n,⟨r,c.ok⟩)
 | none=>(0,⟨c.b,false⟩)) else (0,⟨c.b,false⟩)
theorem zn6 (c:z08) (lim:UInt64) (L:Nat) (hL:lim.toNat=L) (hb:c.b.length≤100000):z3k c lim=some (rkN c (rpN L c.b)):=by
 have h1:=zat c.b;have hu:=z6x c.b;have en:(UInt64.ofNat (z0h c.b).1).toNat=(z0h c.b).1:=by simp; omega
 unfold z3k rpN rkN;rw [zch c.b (by omega)];simp only [bs];have hd:decide (lim<UInt64.ofNat (z0h c.b).1)=decide (L<(z0h c.b).1):=by rw [decide_eq_decide,UInt64.lt_iff_toNat_lt,en,hL]
 rw [hd]
 cases hok:c.ok with
 | false=>rfl
 | true =>
  rw [if_neg (by simp),if_pos (rfl:true=true)];by_cases he:(z0h c.b).2.2=0
  ·rw [if_neg (by simp [he])];simp only [bs];by_cases hm:(z0h c.b).1≤L
   ·rw [decide_eq_false (by omega),if_neg (by simp),if_pos ⟨he,hm⟩,z5i hu (Nat.le_refl _),List.take_of_length_le (Nat.le_of_eq List.length_drop)];rw [← hok]; rfl
   ·rw [decide_eq_true (by omega),if_pos rfl,if_neg (fun h=>hm h.2)]
  ·rw [if_pos (by simp; omega),if_neg (fun h=>he h.1)]; rfl
theorem zp6 (p:ID) (r:List UInt8):zg4 (Vector.replicate 32 0) (p.toList++r)=p:=by
 apply Vector.toList_inj.1
 rw [zkq];have e:min (p.toList++r).length 32=32:=by rw [List.length_append,Vector.length_toList]; omega
 rw [e,List.take_left' (by simp),List.drop_of_length_le (by simp),List.append_nil]
theorem z16y (c:z0e) (hb:32≤c.b.length):z7h c=some (zg4 (Vector.replicate 32 0) c.b,⟨c.b.drop 32,c.bad⟩):=by
 unfold z7h;rw [if_neg (by simp; omega)];have e:min c.b.length 32=32:=by omega
 rw [e,z5i hb (Nat.le_refl _),List.take_of_length_le (Nat.le_of_eq List.length_drop)]; rfl
theorem z16f (c:z0e) (hb:¬ 32≤c.b.length):z7h c=some (Vector.replicate 32 0,⟨c.b,true⟩):=by
 unfold z7h;rw [if_pos (by simp; omega)]
theorem z11r:z0g 0=[0]:=by unfold z0g; rw [if_pos (by omega)]; rfl
theorem zvl {names:List ID} {k:Nat} {p:ID} (h:p∈names):z82 names k p=z0g (k - names.idxOf p):=by unfold z82; rw [if_pos h]
theorem zt1 {names:List ID} {k:Nat} {p:ID} (h:p∉names):z82 names k p=z0g 0++p.toList:=by unfold z82; rw [if_neg h,z11r]; rfl
theorem zpg (ids:List ID) (hi:ids.length≤60) (r14:Int × z0e) (c:z0e) (acc:List ID) (i:Nat) (hb:c.b.length≤100000) (ha:acc.length≤100) (hn:(i:Int)<r14.1) (hi2:i≤1000) :
  z0y ids r14 (c,acc,(i:Int))=some (.inr (match rpN ids.length c.b with
   | some (n,r)=>if h:0<n∧n≤ids.length then (⟨r,c.bad⟩,acc++[ids[ids.length - n]'(by omega)],((i+1:Nat):Int))
    else if c.bad then (⟨r,true⟩,acc,((i+1:Nat):Int))
    else if 32≤r.length then (⟨r.drop 32,false⟩,acc++[zg4 (Vector.replicate 32 0) r],((i+1:Nat):Int))
    else (⟨r,true⟩,acc++[Vector.replicate 32 0],((i+1:Nat):Int))
   | none=>(⟨c.b,true⟩,acc,((i+1:Nat):Int)))):=by
 unfold z0y;rw [if_pos (by simpa using hn)];simp only;rw [zmz c ids.length (by omega) hb];simp only [bs]
 cases hr:rpN ids.length c.b with
 | none =>
  rw [zql];simp only [decide_eq_true_eq,Int.lt_irrefl,if_false,Bool.not_true,Bool.false_eq_true];rw [z0u (by omega)]
 | some x =>
  obtain ⟨n,r⟩:=x;have hl:=zgx hr;rw [zjf];simp only;by_cases h:0<n∧n≤ids.length
  ·rw [if_pos (show decide ((0:Int)<(n:Int))=true by rw [decide_eq_true_eq]; omega),dif_pos h];have e:w64 ((ids.length:Int) - (n:Int))=((ids.length - n:Nat):Int):=by rw [z13 (by omega) (by omega)]; omega
   rw [e,z0p (by omega)];simp only [bs];rw [z1m (by simp only [List.length_cons,List.length_nil]; omega)];simp only [bs];rw [z0u (by omega)]
  ·rw [if_neg (show ¬ decide ((0:Int)<(n:Int))=true by rw [decide_eq_true_eq]; omega),dif_neg h]
   cases hbad:c.bad with
   | true =>
    simp only [Bool.not_true,Bool.false_eq_true,if_false,if_true];rw [z0u (by omega)]
   | false =>
    simp only [Bool.not_false,if_true,Bool.false_eq_true,if_false];by_cases h32:32≤r.length
    ·rw [z16y ⟨r,false⟩ h32,if_pos h32];simp only [bs];rw [z1m (by simp only [List.length_cons,List.length_nil]; omega)];simp only [bs];rw [z0u (by omega)]
    ·rw [z16f ⟨r,false⟩ h32,if_neg h32];simp only [bs];rw [z1m (by simp only [List.length_cons,List.length_nil]; omega)];simp only [bs];rw [z0u (by omega)]
theorem znb (ids:List ID) (hi:ids.length≤60) (n:Nat) (hn:n≤4) (c0 c:z0e) (hb:c.b.length≤100000):∃ ps c',iter (z0y ids ((n:Int),c0)) (c,[],0)=some (ps,c')∧ps.length≤4∧c'.b.length≤c.b.length:=by
 obtain ⟨r,h1,h2⟩:=z9o (F:=z0y ids ((n:Int),c0)) n (fun i s=>s.2.2=(i:Int)∧s.1.b.length≤c.b.length∧s.2.1.length≤i) (fun r=>r.1.length≤4∧r.2.b.length≤c.b.length)
  (fun i s hin hs=>by
   obtain ⟨s1,s2,s3⟩:=s;obtain ⟨e1,e2,e3⟩:=hs;simp only at e1 e2 e3;subst e1;refine ⟨_,zpg ids hi _ s1 s2 i (by omega) (by omega) (by show (i:Int)<(n:Int); omega) (by omega),?_⟩
   cases hr:rpN ids.length s1.b with
   | none=>exact ⟨rfl,e2,Nat.le_succ_of_le e3⟩
   | some x =>
    obtain ⟨m,r⟩:=x;have hl:=zgx hr;simp only;by_cases h:0<m∧m≤ids.length
    ·rw [dif_pos h]; exact ⟨rfl, by show r.length≤_; omega, by simp only [List.length_append,List.length_cons,List.length_nil]; omega⟩
    ·rw [dif_neg h]
     split
     ·exact ⟨rfl, by show r.length≤_; omega, by show s2.length≤_; omega⟩
     ·split
      ·exact ⟨rfl, by show (r.drop 32).length≤_; rw [List.length_drop]; omega, by simp only [List.length_append,List.length_cons,List.length_nil]; omega⟩
      ·exact ⟨rfl, by show r.length≤_; omega, by simp only [List.length_append,List.length_cons,List.length_nil]; omega⟩)
  (fun s hs=>by
   obtain ⟨s1,s2,s3⟩:=s;obtain ⟨e1,e2,e3⟩:=hs;simp only at e1 e2 e3;subst e1
   exact ⟨(s2,s1), by unfold z0y; rw [if_neg (by simp)], by show s2.length≤4; omega,e2⟩) (c,[],0) 0 (by omega) ⟨rfl,Nat.le_refl _,Nat.le_refl _⟩
 exact ⟨r.1,r.2,h1,h2.1,h2.2⟩
theorem zux (ids:List ID) (hi:ids.length≤60) (ps:List ID) (hp:ps.length≤4) (rest:List UInt8) (hr:rest.length≤50000) (c0:z0e) :
  iter (z0y ids ((ps.length:Int),c0)) (⟨ps.flatMap (z82 ids ids.length)++rest,false⟩,[],0)=some (ps,⟨rest,false⟩):=by
 have hlen:∀ i,((ps.drop i).flatMap (z82 ids ids.length)).length≤33 * (ps.drop i).length:=fun i=>z9d _ 33 _ fun x _=>zcz _ _ _ (by omega);have h:=z3m (F:=z0y ids ((ps.length:Int),c0)) (b:=(ps,⟨rest,false⟩)) ps.length (fun i=>((⟨(ps.drop i).flatMap (z82 ids ids.length)++rest,false⟩:z0e),ps.take i,(i:Int)))
  (fun i hin=>by
   have h1:=hlen i;rw [List.length_drop] at h1;rw [zpg ids hi _ _ _ i (by simp only [List.length_append]; omega) (by rw [List.length_take]; omega) (by show (i:Int)<(ps.length:Int); omega) (by omega)];simp only;rw [List.drop_eq_getElem_cons hin,List.flatMap_cons,List.append_assoc,List.take_succ_eq_append_getElem hin];by_cases hm:ps[i]∈ids
   ·have hlt:=List.idxOf_lt_length_of_mem hm;rw [zvl hm,zgh (by omega) (by omega)];simp only;rw [dif_pos ⟨by omega, by omega⟩];have e:ids.length - (ids.length - ids.idxOf ps[i])=ids.idxOf ps[i]:=by omega
    simp only [e,List.getElem_idxOf]
   ·rw [zt1 hm,List.append_assoc,zgh (by omega) (by omega)];simp only
    rw [dif_neg (by omega),if_neg (by simp),if_pos (by simp only [List.length_append,Vector.length_toList]; omega),zp6,List.drop_left' (by simp)])
  (by
   unfold z0y;rw [if_neg (by simp)]
   simp)
 simpa using h
end
section
open Go
theorem zq8 {β σ:Type} {F:σ→Option (Sum β σ)} (n:Nat) (I:Nat→σ→Prop) (Q:β→Prop) (h1:∀ i s,i<n→I i s→(∃ s',F s=some (.inr s')∧I (i+1) s')∨(∃ b,F s=some (.inl b)∧Q b)) (h2:∀ s,I n s→∃ b,F s=some (.inl b)∧Q b):∀ (k i:Nat) (s:σ),n - i=k→i≤n→I i s→∃ b,iter F s=some b∧Q b
 | 0,i,s,hk,hi,hs=>by
  have:i=n:=by omega
  subst this;obtain ⟨b,hb,hq⟩:=h2 s hs;exact ⟨b,z1l hb,hq⟩
 | k+1,i,s,hk,hi,hs=>by
  rcases h1 i s (by omega) hs with ⟨s',hF,hs'⟩ | ⟨b,hF,hq⟩
  ·obtain ⟨b,hb,hq⟩:=zq8 n I Q h1 h2 k (i+1) s' (by omega) (by omega) hs';exact ⟨b, by rw [z29 hF]; exact hb,hq⟩
  ·exact ⟨b,z1l hF,hq⟩
theorem zld {α β:Type} {f g:α→List β}:∀ l:List α,(∀ x∈l,f x=g x)→l.flatMap f=l.flatMap g
 | [],_=>rfl
 | x::l,h=>by rw [List.flatMap_cons,List.flatMap_cons,h x (List.mem_cons_self ..),zld l fun y hy=>h y (List.mem_cons_of_mem _ hy)]
def wf1 (o:z03):Prop:=inI o.Act.Value.Num∧o.Act.Value.Text.length≤9223372036854775807
theorem zwy:wf1 zO:=⟨⟨by decide, by decide⟩, by decide⟩
theorem z11a (b:List UInt8):wf1 (zy0 b).1:=by
 rcases (zhq b).2 with ⟨o,_,hI,ht,_,hd⟩ | hd
 ·rw [hd]; exact ⟨hI,Nat.le_trans ht (by decide)⟩
 ·rw [hd]; exact zwy
theorem z116 {b:List UInt8} (h:(z2f b 400 1).2.2=0):(z2f b 400 1).1.length≤400:=by have:=(zdr h).2.1; omega
theorem z17v:((4:Nat):Int)=4:=rfl
theorem zzr (c:z0e) (hb:c.b.length≤30000) (ids:List ID) (hi:ids.length≤60):∃ o c',z1r c ids=some (o,c')∧c'.b.length≤c.b.length∧wf1 o:=by
 unfold z1r;rw [zfc c.b (by omega) 400 (by decide)];simp only [bs];by_cases he:(z2f c.b 400 1).2.2=0
 ·have hp:=zdr he;rw [if_neg (by simp [he]),z5i hp.2.2 (Nat.le_refl _),List.take_of_length_le (Nat.le_of_eq List.length_drop)];simp only [bs];rw [znk _ (by have:=z116 he; omega)];simp only [bs];have hw:=z11a (z2f c.b 400 1).1;have hl:(c.b.drop (z2f c.b 400 1).2.1).length≤c.b.length:=by rw [List.length_drop]; omega
  generalize zy0 (z2f c.b 400 1).1=d at hw ⊢;generalize c.b.drop (z2f c.b 400 1).2.1=b1 at hl ⊢
  have key:∀ x:Bool,∃ o c',(if x then some ((⟨0,[],0,(⟨0,[],(⟨0,0,0,[]⟩:z01)⟩:z0a),(⟨0,0⟩:z0b)⟩:z03),({ { c with b:=b1 } with bad:=true }:z0e))
   else (z2y ({ c with b:=b1 }) 4 >>= fun r14=>iter (z0y ids r14) (r14.2,d.1.Preds,0)) >>= fun s13=>some ((⟨d.1.Author,s13.1,d.1.Stamp,d.1.Act,d.1.Sig⟩:z03),s13.2))=some (o,c')∧(d.1.Preds=[]∨x=true→c'.b.length≤c.b.length∧wf1 o)∨d.1.Preds≠[]∧x=false:=by
   intro x
   cases x with
   | true=>exact ⟨zO,⟨b1,true⟩,.inl ⟨rfl, fun _=>⟨hl,zwy⟩⟩⟩
   | false =>
    by_cases hd:d.1.Preds=[]
    ·simp only [Bool.false_eq_true,if_false];have e:=zmz ⟨b1,c.bad⟩ 4 (by decide) (by show b1.length≤_; omega);rw [z17v] at e;rw [e];simp only [bs];rw [hd]
     cases hr:rpN 4 b1 with
     | none =>
      rw [zql];obtain ⟨ps,c',h1,h2,h3⟩:=znb ids hi 0 (by decide) ⟨b1,true⟩ ⟨b1,true⟩ (by show b1.length≤_; omega);refine ⟨⟨d.1.Author,ps,d.1.Stamp,d.1.Act,d.1.Sig⟩,c',.inl ⟨?_, fun _=>⟨Nat.le_trans h3 hl,?_⟩⟩⟩
      ·rw [show ((0:Nat):Int)=0 from rfl] at h1;rw [h1]; rfl
      ·exact hw
     | some y =>
      obtain ⟨n,r⟩:=y;have hn:=zgx hr;rw [zjf];obtain ⟨ps,c',h1,h2,h3⟩:=znb ids hi n hn.1 ⟨r,c.bad⟩ ⟨r,c.bad⟩ (by show r.length≤_; omega);refine ⟨⟨d.1.Author,ps,d.1.Stamp,d.1.Act,d.1.Sig⟩,c',.inl ⟨?_, fun _=>⟨?_,?_⟩⟩⟩
      ·simp only;rw [h1]; rfl
      ·exact Nat.le_trans h3 (Nat.le_trans hn.2 hl)
      ·exact hw
    ·exact ⟨zO,c,.inr ⟨hd,rfl⟩⟩
  by_cases hx:d.2=0
  ·rw [if_neg (by simp [hx])];simp only [bs];obtain ⟨o,c',h⟩:=key (decide (0<(d.1.Preds.length:Int)));rcases h with ⟨h1,h2⟩ | ⟨h1,h2⟩
   ·refine ⟨o,c',h1,h2 ?_⟩;by_cases hd:d.1.Preds=[]
    ·exact .inl hd
    ·exact .inr (by rw [decide_eq_true_eq]; have:=List.length_pos_iff.2 hd; omega)
   ·exfalso
    rw [decide_eq_false_iff_not] at h2
    have:=List.length_pos_iff.2 h1; omega
  ·rw [if_pos (by simpa using hx)];simp only [bs];obtain ⟨o,c',h⟩:=key true;rcases h with ⟨h1,h2⟩ | ⟨h1,h2⟩
   ·exact ⟨o,c',h1,h2 (.inr rfl)⟩
   ·cases h2
 ·rw [if_pos (by simp; omega)];exact ⟨zO,⟨c.b,true⟩,rfl,Nat.le_refl _,zwy⟩
theorem z100 {o:z03} (hc:z1h o=0) (hI:inI o.Act.Value.Num) (ids:List ID) (hi:ids.length≤60) (rest:List UInt8) (hr:rest.length≤40000):z1r ⟨opB ids ids.length o++rest,false⟩ ids=some (o,⟨rest,false⟩):=by
 have hn:=zen hc;have hIn:inI (nop o).Act.Value.Num:=hI;have hle:=zgu hn hIn;have hp:=(z33 hc).1;have hob:=ztn hc hI ids ids.length (by omega);have eb:opB ids ids.length o++rest=(z0g (z8n (nop o)).length++z8n (nop o))++(z0g o.Preds.length++(o.Preds.flatMap (z82 ids ids.length)++rest)):=by unfold opB; simp only [List.append_assoc]
 have hpl:=z9d (z82 ids ids.length) 33 o.Preds (fun x _=>zcz _ _ _ (by omega));have hnl:=z0n o.Preds.length (by omega);have hpart:=zui (lim:=400) (s:=z8n (nop o)) (by omega) (by omega) (z0g o.Preds.length++(o.Preds.flatMap (z82 ids ids.length)++rest));unfold z1r;simp only;rw [eb,zfc _ (by rw [← eb,List.length_append]; omega) 400 (by decide),hpart];simp only [bs];rw [if_neg (by simp),z5i (by simp only [List.length_append]; omega) (Nat.le_refl _),List.take_of_length_le (Nat.le_of_eq List.length_drop)]
 rw [← List.length_append,List.drop_left];simp only [bs];rw [znk _ (by omega),(zhq _).1 (nop o) hn hIn rfl];simp only [bs];rw [if_neg (by simp), show (nop o).Preds=[] from rfl];simp only [bs];rw [if_neg (by simp)];have e:=zmz ⟨z0g o.Preds.length++(o.Preds.flatMap (z82 ids ids.length)++rest),false⟩ 4 (by decide) (by simp only [List.length_append]; omega);rw [z17v] at e;rw [e,zgh (by omega) (by omega),zjf]
 simp only [bs];rw [zux ids hi o.Preds hp rest (by omega)];rfl
def zci (M:List z03) (i:Nat):List UInt8:=((List.range M.length).drop i).flatMap fun k=>opB (M.map oid) k (opJ M k)
theorem zl3 (M:List z03) {i:Nat} (hi:i<M.length):zci M i=opB (M.map oid) i M[i]++zci M (i+1):=by
 unfold zci;rw [List.drop_eq_getElem_cons (by rw [List.length_range]; exact hi),List.flatMap_cons,List.getElem_range,zbd hi]
theorem zsi (M:List z03):zci M M.length=[]:=by unfold zci; rw [List.drop_of_length_le (by simp)]; rfl
theorem zf9 (M:List z03):zfk M=112::(z0g M.length++zci M 0):=by unfold zfk zqz zci; simp
theorem zwf {M:List z03} (hT:zsg M) {i:Nat} (hi:i<M.length):opB (M.map oid) i M[i]=opB ((M.take i).map oid) i M[i]:=by
 unfold opB
 congr 1
 refine zld _ fun p hp=>?_;have h:=zmc hT hi hp;rw [List.map_take];unfold z82;by_cases hm:p∈(M.map oid).take i
 ·rw [if_pos (h.2 hm),if_pos hm,(zkl hm).1]
 ·rw [if_neg (fun h'=>hm (h.1 h')),if_neg hm]
theorem zr3 {M:List z03} (hb:(zfk M).length≤30000) (i:Nat):(zci M i).length≤30000:=by
 rw [zf9] at hb;have h:∀ j,(zci M j).length≤(zci M 0).length:=by
  intro j
  induction j with
  | zero=>exact Nat.le_refl _
  | succ j ih =>
   by_cases hj:j<M.length
   ·have:=zl3 M hj
    have h2:=congrArg List.length this;rw [List.length_append] at h2;omega
   ·have:zci M (j+1)=[]:=by unfold zci; rw [List.drop_of_length_le (by simp; omega)]; rfl
    rw [this]; exact Nat.zero_le _
 have:=h i
 simp only [List.length_cons,List.length_append] at hb;omega
theorem zlg (r10:Int × z0e) (c:z0e) (ops:List z03) (ids:List ID) (i:Nat) (hn:(i:Int)<r10.1) (ho:ops.length≤100) (hi:ids.length≤100) (hi2:i≤1000) {o:z03} {c':z0e} (h:z1r c ids=some (o,c')) (hw:wf1 o) :
  z42 r10 (c,ops,ids,(i:Int))=some (if c'.bad=true∨z1h o≠0 then .inl (.inl ([],12)) else .inr (c',ops++[o],ids++[oid o],((i+1:Nat):Int))):=by
 unfold z42;rw [if_pos (by simpa using hn)];simp only;rw [h];simp only [bs];rw [zv4 o hw.1 hw.2];simp only [bs];by_cases hbad:c'.bad=true
 ·rw [if_pos hbad,if_pos (.inl hbad)]
 ·rw [if_neg hbad];by_cases hc:z1h o=0
  ·rw [if_pos hc,if_neg (show ¬ (c'.bad=true∨z1h o≠0) from fun h=>h.elim hbad fun h=>h hc)];simp only;rw [if_neg (by simp),z1m (by simp only [List.length_cons,List.length_nil]; omega)];simp only [bs];rw [z1m (by simp only [List.length_cons,List.length_nil]; omega)];simp only [bs];rw [z0u (by omega)]; rfl
  ·rw [if_neg hc,if_pos (show c'.bad=true∨z1h o≠0 from .inr hc)];simp only;rw [if_pos (by simpa using hc)]
theorem z14d:((60:Nat):Int)=60:=rfl
theorem zr2 (n:Nat) (hn:n≤60) (c0 c:z0e) (hb:c.b.length≤30000):∃ r,iter (z42 ((n:Int),c0)) (c,[],[],0)=some r∧(r=.inl ([],12)∨∃ c' ops,r=.inr (c',ops)∧wfO ops):=by
 refine zq8 (F:=z42 ((n:Int),c0)) n (fun i s=>s.2.2.2=(i:Int)∧s.1.b.length≤30000∧s.2.1.length=i∧s.2.2.1.length=i∧wfO s.2.1) (fun r=>r=.inl ([],12)∨∃ c' ops,r=.inr (c',ops)∧wfO ops) ?_ ?_ n 0 (c,[],[],0) (by omega) (by omega) ⟨rfl,hb,rfl,rfl, fun o ho=>by cases ho⟩
 ·rintro i ⟨s1,s2,s3,s4⟩ hin ⟨e1,e2,e3,e4,e5⟩
  simp only at e1 e2 e3 e4 e5;subst e1;obtain ⟨o,c',h,hl,hw⟩:=zzr s1 e2 s3 (by omega);have hs:=zlg ((n:Int),c0) s1 s2 s3 i (by show (i:Int)<(n:Int); omega) (by omega) (by omega) (by omega) h hw;by_cases hx:c'.bad=true∨z1h o≠0
  ·rw [if_pos hx] at hs;exact .inr ⟨_,hs,.inl rfl⟩
  ·rw [if_neg hx] at hs;refine .inl ⟨_,hs,rfl,Nat.le_trans hl e2, by simp [e3], by simp [e4],?_⟩;intro q hq;rcases List.mem_append.1 hq with hq | hq
   ·exact e5 q hq
   ·rw [List.mem_singleton.1 hq]; exact hw
 ·rintro ⟨s1,s2,s3,s4⟩ ⟨e1,e2,e3,e4,e5⟩
  simp only at e1 e2 e3 e4 e5;subst e1;exact ⟨.inr (s1,s2), by unfold z42; rw [if_neg (by simp)],.inr ⟨s1,s2,rfl,e5⟩⟩
theorem zyc (b:List UInt8) (h:30000<b.length):z9f b=some ([],4):=by
 unfold z9f;rw [if_pos (by simp; omega)]
theorem zx6 (b:List UInt8) (hb:b.length≤30000):∃ r,z9f b=some r∧(r=([],12)∨∃ M,r=(M,0)∧wfO M∧zb9 M=some (b,0)):=by
 unfold z9f;rw [if_neg (by simp; omega)]
 cases b with
 | nil=>exact ⟨_,rfl,.inl rfl⟩
 | cons k r =>
  rw [if_neg (by simp; omega)];have i0:idx (k::r) 0=some k:=z0p (l:=k::r) (i:=0) (by simp);have hc:cut (k::r) 1 ((k::r).length:Int)=some r:=by
   have:=z5i (b:=k::r) (i:=1) (j:=(k::r).length) (by simp) (by simp)
   rw [show ((1:Nat):Int)=1 from rfl] at this;rw [this]; simp
  rw [i0];simp only [bs];by_cases hk:k=112
  ·rw [if_neg (by simp [hk]),hc];simp only [bs];simp only [List.length_cons] at hb;have e:=zmz ⟨r,false⟩ 60 (by decide) (by show r.length≤_; omega);rw [z14d] at e;rw [e];simp only [bs];have hloop:∃ q,iter (z42 (pkN ⟨r,false⟩ (rpN 60 r))) ((pkN ⟨r,false⟩ (rpN 60 r)).2,[],[],0)=some q∧(q=.inl ([],12)∨∃ c' ops,q=.inr (c',ops)∧wfO ops):=by
    cases hr:rpN 60 r with
    | none=>rw [zql]; exact zr2 0 (by decide) ⟨r,true⟩ ⟨r,true⟩ (by show r.length≤_; omega)
    | some x =>
     obtain ⟨n,r1⟩:=x;have hl:=zgx hr;rw [zjf]; exact zr2 n hl.1 ⟨r1,false⟩ ⟨r1,false⟩ (by show r1.length≤_; omega)
   obtain ⟨q,hq,hq2⟩:=hloop;rw [hq];rcases hq2 with rfl | ⟨c',ops,rfl,hw⟩
   ·exact ⟨_,rfl,.inl rfl⟩
   ·rw [zpn,zk0 ops hw];simp only [bs]
    cases hbad:c'.bad with
    | true=>exact ⟨_,rfl,.inl rfl⟩
    | false =>
     simp only [Bool.false_eq_true,if_false];by_cases h0:(zjb ops).2=0
     ·rw [if_neg (by simp [h0]),if_pos h0];simp only [bs,zdw];by_cases he:zfk ((zdj ops).map (·.o))=k::r
      ·rw [he];refine ⟨(ops,0), by simp,.inr ⟨ops,rfl,hw,?_⟩⟩;rw [zk0 ops hw,h0,if_pos rfl,he]
      ·have:(zfk ((zdj ops).map (·.o))==k::r)=false:=by simpa using he
       rw [this];exact ⟨_,rfl,.inl rfl⟩
     ·rw [if_pos (by simpa using h0)];exact ⟨_,rfl,.inl rfl⟩
  ·rw [if_pos (by simpa using hk)];exact ⟨_,rfl,.inl rfl⟩
theorem zp7 {M:List z03} (hC:zkm M) (hw:wfO M) (hb:(zfk M).length≤30000):z9f (zfk M)=some (M,0):=by
 obtain ⟨-,hl,hc,-,-⟩:=zc1 hC.1;have ht:=zr3 hb;have hwr:=hC.write hw;have hT:=hC.topo;unfold z9f;rw [if_neg (by simp; omega)];rw [zf9] at hb hwr ⊢;generalize hr:z0g M.length++zci M 0=r at hb hwr ⊢;rw [if_neg (by simp; omega)];have i0:idx (112::r) 0=some (112:UInt8):=z0p (l:=112::r) (i:=0) (by simp);have hcu:cut (112::r) 1 ((112::r).length:Int)=some r:=by
  have:=z5i (b:=112::r) (i:=1) (j:=(112::r).length) (by simp) (by simp)
  rw [show ((1:Nat):Int)=1 from rfl] at this;rw [this]; simp
 rw [i0];simp only [bs];rw [if_neg (by simp),hcu];simp only [bs];simp only [List.length_cons] at hb;have e:=zmz ⟨r,false⟩ 60 (by decide) (by show r.length≤_; omega);rw [z14d] at e;rw [e];simp only [bs];rw [← hr,zgh (by omega) hl,zjf];simp only;have hloop:=z3m (F:=z42 ((M.length:Int),⟨zci M 0,false⟩)) (b:=.inr ((⟨[],false⟩:z0e),M)) M.length (fun i=>((⟨zci M i,false⟩:z0e),M.take i,(M.take i).map oid,(i:Int)))
  (fun i hin=>by
   have hci:=hc M[i] (List.getElem_mem hin);have hwi:=hw M[i] (List.getElem_mem hin);have hil:((M.take i).map oid).length=i:=by rw [List.length_map,List.length_take]; omega
   have hpop:z1r ⟨zci M i,false⟩ ((M.take i).map oid)=some (M[i],⟨zci M (i+1),false⟩):=by
    rw [zl3 M hin,zwf hT hin]
    have:=z100 hci hwi.1 ((M.take i).map oid) (by omega) (zci M (i+1)) (by have:=ht (i+1); omega);rw [hil] at this;exact this
   rw [zlg _ _ _ _ i (by show (i:Int)<(M.length:Int); omega) (by rw [List.length_take]; omega) (by omega) (by omega) hpop hwi]
   rw [if_neg (by simp [hci]),List.take_succ_eq_append_getElem hin,List.map_append]; rfl)
  (by
   unfold z42
   rw [if_neg (by simp),List.take_length,zsi])
 rw [show M.take 0=[] from rfl, show ([]:List z03).map oid=[] from rfl, show ((0:Nat):Int)=0 from rfl] at hloop;rw [hloop,zpn];simp only;rw [hC.write hw];simp only [bs,Bool.false_eq_true,if_false];rw [if_neg (by simp),zf9];simp [zdw,bs]
def zk3 (b:List UInt8) (M:List z03):Prop:=zkm M∧wfO M∧zfk M=b
theorem z15w (b:List UInt8) (hb:b.length≤30000):(∃ M,zk3 b M∧z9f b=some (M,0))∨((∀ M,¬ zk3 b M)∧z9f b=some ([],12)):=by
 have hall:∀ M,zk3 b M→z9f b=some (M,0):=fun M h=>by
  have:=zp7 h.1 h.2.1 (by rw [h.2.2]; exact hb);rw [h.2.2] at this; exact this
 obtain ⟨r,hr,h⟩:=zx6 b hb;rcases h with rfl | ⟨M,rfl,hw,hwr⟩
 ·refine .inr ⟨fun M hM=>?_,hr⟩
  have:=hall M hM
  rw [hr] at this
  injection this with this; cases congrArg Prod.snd this
 ·rw [zk0 M hw] at hwr
  injection hwr with hwr
  have h0:(zjb M).2=0:=congrArg Prod.snd hwr;rw [h0,if_pos rfl] at hwr;have hp:zk3 b ((zdj M).map (·.o)):=⟨z13o h0,z13k (zvx (zc1 h0).2.2.2.2).perm hw,congrArg Prod.fst hwr⟩
  exact .inl ⟨_,hp,hall _ hp⟩
end
section
open Go
def frc {α:Type} (x:Nat) (k:Nat→α):α:=match x with
 | 0=>k 0
 | n+1=>k (n+1)
def fr32 {α:Type} (x:UInt32) (k:UInt32→α):α:=frc x.toNat fun n=>k (UInt32.ofNat n)
def fW {α:Type}:List UInt32→(List UInt32→α)→α
 | [],k=>k []
 | x::l,k=>fr32 x fun n=>fW l fun m=>k (n::m)
end
section
open Go
def wds (s:O8):List UInt32:=[s.1,s.2.1,s.2.2.1,s.2.2.2.1,s.2.2.2.2.1,s.2.2.2.2.2.1,s.2.2.2.2.2.2.1,s.2.2.2.2.2.2.2]
@[irreducible] def wrL (s:O8):List UInt8:=(List.range 32).map fun i=>(z57 ((wds s).getD (i / 4) 0) (24 - 8 * (i % 4))).toUInt8
end
section
open Go
def ia8:O8:=(970372312,2442032114,4196713698,873319014,2597337110,1109282703,3353382519,590280687)
def ea:List UInt8:=[111,4,0,7,2,1,97,5,6]
def eb:List UInt8:=[111,4,1]++(wrL ia8++[7,2,1,97,5,6])
end
end Go.Proofs.YtojceajkeefnpaaGreatDoor
