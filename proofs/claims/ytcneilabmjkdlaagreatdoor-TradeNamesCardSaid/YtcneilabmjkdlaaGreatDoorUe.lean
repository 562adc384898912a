import Derived.Test.YtcneilabmjkdlaaGreatDoorUd
set_option linter.unusedSimpArgs false
set_option linter.unusedVariables false
namespace Go.Proofs.YtcneilabmjkdlaaGreatDoor
section
open Go Go.RowKit
def pmod:Nat→Nat→Nat→Nat→Nat
 | 0,_,_,m=>1 % m
 | f+1,a,n,m=>if n=0 then 1 % m else (if n % 2=1 then a * pmod f (a * a % m) (n / 2) m % m else pmod f (a * a % m) (n / 2) m)
theorem zqc:∀ (f a n m:Nat),n<2 ^ f→pmod f a n m=a ^ n % m
 | 0,a,n,m,h=>by
  have:n=0:=by simpa using h
  subst this; rfl
 | f+1,a,n,m,h=>by
  have h2:n / 2<2 ^ f:=by rw [Nat.pow_succ] at h; omega
  have key:(a * a % m) ^ (n / 2) % m=a ^ (2 * (n / 2)) % m:=by
   rw [← Nat.pow_mod,← Nat.pow_two,← Nat.pow_mul]
  simp only [pmod,zqc f _ _ _ h2,key]
  split
  ·rename_i h0; subst h0; rfl
  ·split
   ·rename_i h1;rw [Nat.mul_mod,Nat.mod_mod,← Nat.mul_mod, show a * a ^ (2 * (n / 2))=a ^ (2 * (n / 2)+1) by rw [Nat.pow_succ,Nat.mul_comm], show 2 * (n / 2)+1=n by omega]
   ·rename_i h1;rw [show 2 * (n / 2)=n by omega]
abbrev gp:Nat:=1000000007
abbrev gq:Nat:=500000003
theorem zv3:4 ^ gq % gp=1:=by
 rw [← zqc 64 4 gq gp (by decide)]
 decide +kernel
def inG (a:Nat):Prop:=0<a∧a<gp∧a ^ gq % gp=1
instance:DecidablePred inG:=fun a=>by unfold inG; exact inferInstance
theorem zj7 (a m n p:Nat):(a ^ m % p) ^ n % p=a ^ (m * n) % p:=by rw [← Nat.pow_mod,← Nat.pow_mul]
theorem zrh {a:Nat} (h:a ^ gq % gp=1) (k:Nat):a ^ (gq * k) % gp=1:=by
 rw [Nat.pow_mul,Nat.pow_mod,h,Nat.one_pow];rfl
theorem zmu {a:Nat} (h:a ^ gq % gp=1) (k r:Nat):a ^ (gq * k+r) % gp=a ^ r % gp:=by
 rw [Nat.pow_add,Nat.mul_mod,zrh h,Nat.one_mul,Nat.mod_mod]
theorem zqh {a:Nat} (h:a ^ gq % gp=1) (n:Nat):inG (a ^ n % gp):=by
 have h2:(a ^ n % gp) ^ gq % gp=1:=by rw [zj7,Nat.mul_comm,zrh h]
 refine ⟨Nat.pos_of_ne_zero fun h0=>?_,Nat.mod_lt _ (by decide),h2⟩;rw [h0,Nat.zero_pow (by decide)] at h2;exact absurd h2 (by decide)
theorem z15o {y E:Nat} (h:y ^ gq % gp=1) (hE:E<gq):(y ^ E % gp) ^ (gq - 1) % gp=y ^ (gq - E) % gp:=by
 rw [zj7];by_cases h0:E=0
 ·subst h0;rw [Nat.zero_mul,Nat.sub_zero,h,Nat.pow_zero]
  decide
 ·have e:E * (gq - 1)=gq * (E - 1)+(gq - E):=by
   obtain ⟨k,rfl⟩:∃ k,E=k+1:=⟨E - 1, by omega⟩
   have hE':k+1<500000003:=hE;show (k+1) * 500000002=500000003 * (k+1 - 1)+(500000003 - (k+1));omega
  rw [e,zmu h]
theorem z10j {a n i p:Nat}:((a ^ (n >>> (i+1)) % p) * (a ^ (n >>> (i+1)) % p) % p) * a ^ ((n >>> i) % 2) % p=a ^ (n >>> i) % p:=by
 have e:n >>> i=2 * (n >>> (i+1))+(n >>> i) % 2:=by
  rw [Nat.shiftRight_succ]; omega
 have key:∀ x y:Nat,((x % p) * (x % p) % p) * y % p=x * x * y % p:=fun x y=>by
  rw [Nat.mul_mod ((x % p) * (x % p) % p) y,Nat.mod_mod,← Nat.mul_mod x x,← Nat.mul_mod]
 rw [key,← Nat.pow_add,← Nat.pow_add]
 congr 2
 omega
end
section
open Go
def u32 (n:Nat):UInt32:=UInt32.ofNat n
theorem z2w {n:Nat} (h:n<gp):(u32 n).toNat=n:=by
 have h:n<1000000007:=h;unfold u32; simp; omega
theorem m64 (x y:UInt64) (h:x.toNat * y.toNat<18446744073709551616):(x * y % 1000000007).toNat=x.toNat * y.toNat % gp:=by
 rw [UInt64.toNat_mod,UInt64.toNat_mul,Nat.mod_eq_of_lt h];rfl
theorem to32 (x:UInt64) (h:x.toNat<gp):x.toUInt32=u32 x.toNat:=by
 apply UInt32.toNat_inj.1
 have h:x.toNat<1000000007:=h;rw [z2w h]; simp; omega
theorem mul2 (x y:UInt32):zf9 1000000007 [x,y]=some (u32 (x.toNat * y.toNat % gp)):=by
 have hx:=UInt32.toNat_lt x;have hy:=UInt32.toNat_lt y;have e1:(1 * x.toUInt64 % 1000000007:UInt64).toNat=x.toNat % gp:=by
  rw [m64 _ _ (by simp; omega)]; simp
 have hlt:x.toNat % gp<1000000007:=Nat.mod_lt _ (by decide);have hpr:(x.toNat % gp) * y.toNat≤1000000007 * 4294967296:=Nat.mul_le_mul (by omega) (by omega);have e2:(1 * x.toUInt64 % 1000000007 * y.toUInt64 % 1000000007:UInt64).toNat=x.toNat * y.toNat % gp:=by
  rw [m64 _ _ (by rw [e1]; simp; omega),e1];simp only [UInt32.toNat_toUInt64];rw [Nat.mod_mul_mod]
 have s1:za2 1000000007 [x,y] (1,0)=some (.inr (1 * x.toUInt64 % 1000000007,1)):=by
  unfold za2;rw [if_pos (by simp)];simp only [];rw [show idx [x,y] 0=some x from rfl,z3i (by decide),z18 (x:=(0:Int)+1) (by omega) (by omega)];simp only [bS];rfl
 have s2:za2 1000000007 [x,y] (1 * x.toUInt64 % 1000000007,1)=some (.inr (1 * x.toUInt64 % 1000000007 * y.toUInt64 % 1000000007,2)):=by
  unfold za2;rw [if_pos (by simp)];simp only [];rw [show idx [x,y] 1=some y from rfl,z3i (by decide),z18 (x:=(1:Int)+1) (by omega) (by omega)];simp only [bS];rfl
 have s3:za2 1000000007 [x,y] (1 * x.toUInt64 % 1000000007 * y.toUInt64 % 1000000007,2)=some (.inl (1 * x.toUInt64 % 1000000007 * y.toUInt64 % 1000000007)):=by
  unfold za2;rw [if_neg (by simp)]
 unfold zf9;rw [z26 s1,z26 s2,z1u s3];simp only [bS];rw [to32 _ (by rw [e2]; exact Nat.mod_lt _ (by decide)),e2]
theorem z11s (a:UInt32) (n:UInt64) (i:Nat) (hi:i<64):zd5 a n (u32 (a.toNat ^ (n.toNat >>> (64 - i)) % gp),(i:Int))=some (.inr (u32 (a.toNat ^ (n.toNat >>> (64 - (i+1))) % gp),((i+1:Nat):Int))):=by
 have hlt:a.toNat ^ (n.toNat >>> (64 - i)) % gp<gp:=Nat.mod_lt _ (by decide);have hlt2:(a.toNat ^ (n.toNat >>> (64 - i)) % gp) * (a.toNat ^ (n.toNat >>> (64 - i)) % gp) % gp<gp:=Nat.mod_lt _ (by decide);have hw:w64 (63 - (i:Int))=((63 - i:Nat):Int):=by rw [z18 (by omega) (by omega)]; omega
 have key:=z10j (a:=a.toNat) (n:=n.toNat) (i:=63 - i) (p:=gp);rw [show 63 - i+1=64 - i by omega] at key;have hb:=z18i n (63 - i) (by omega);unfold zd5 ziv;rw [if_pos (by simp; omega)];simp only [];rw [mul2,z2w hlt];simp only [bS];rw [hw,z3i (by omega),z0r (show i<9223372036854775807 by omega)];simp only [bS];rw [show 64 - (i+1)=63 - i by omega];have hs:n.toNat >>> (63 - i) % 2=(if n.toNat.testBit (63 - i) then 1 else 0):=by
  rw [Nat.testBit_eq_decide_div_mod_eq,← Nat.shiftRight_eq_div_pow];by_cases h:n.toNat >>> (63 - i) % 2=1
  ·simp [h]
  ·simp [h]; omega
 cases ht:n.toNat.testBit (63 - i) with
 | true =>
  rw [ht] at hs;rw [hs,if_pos rfl,Nat.pow_one] at key;rw [if_pos (by rw [Int.toNat_natCast,hb]; exact ht),mul2,z2w hlt2,key];simp only [bS]
 | false =>
  rw [ht] at hs;rw [hs,if_neg (by simp),Nat.pow_zero,Nat.mul_one,Nat.mod_mod] at key;rw [if_neg (by rw [Int.toNat_natCast,hb,ht]; simp),key]
theorem zzd (a:UInt32) (n:UInt64):zf7 a n=some (u32 (a.toNat ^ n.toNat % gp)):=by
 have h0:n.toNat >>> 64=0:=by
  rw [Nat.shiftRight_eq_div_pow]; exact Nat.div_eq_of_lt (UInt64.toNat_lt n)
 have:=z2k (F:=zd5 a n) (b:=u32 (a.toNat ^ n.toNat % gp)) 64 (fun i=>(u32 (a.toNat ^ (n.toNat >>> (64 - i)) % gp),(i:Int))) (fun i hi=>z11s a n i hi) (by
  unfold zd5;rw [if_neg (by simp)]
  simp)
 simp only [Nat.sub_zero,h0,Nat.pow_zero] at this;unfold zf7;rw [show ((1:UInt32),(0:Int))=(u32 (1 % gp),((0:Nat):Int)) from rfl,this];simp only [bS]
theorem zwf:∀ (k:Nat) (a n o:UInt64),n.toNat=k→a.toNat<4294967296→o.toNat<gp→∃ r:UInt64,iter (z5z 1000000007) (a,n,o)=some r∧r.toNat=o.toNat * a.toNat ^ n.toNat % gp:=by
 intro k
 induction k using Nat.strongRecOn with
 | _ k ih =>
  intro a n o hk ha ho;have ho':o.toNat<1000000007:=ho;by_cases hn:n.toNat=0
  ·refine ⟨o,z1u ?_,?_⟩
   ·unfold z5z;rw [if_neg];simp only [decide_eq_true_eq,UInt64.lt_iff_toNat_lt]
    simp; omega
   ·rw [hn,Nat.pow_zero,Nat.mul_one,Nat.mod_eq_of_lt ho]
  ·have haa:(a * a % 1000000007).toNat=a.toNat * a.toNat % gp:=m64 a a (by
    have:a.toNat * a.toNat≤4294967295 * 4294967295:=Nat.mul_le_mul (by omega) (by omega)
    omega)
   have hoa:(o * a % 1000000007).toNat=o.toNat * a.toNat % gp:=m64 o a (by
    have:o.toNat * a.toNat≤1000000007 * 4294967295:=Nat.mul_le_mul (by omega) (by omega)
    omega)
   have hn2:(n / 2).toNat=n.toNat / 2:=by simp
   have hm2:((n % 2)==1)=decide (n.toNat % 2=1):=by
    rw [Bool.eq_iff_iff,beq_iff_eq,← UInt64.toNat_inj]
    simp
   have hlt:a.toNat * a.toNat % gp<1000000007:=Nat.mod_lt _ (by decide);have hol:o.toNat * a.toNat % gp<gp:=Nat.mod_lt _ (by decide);have hpow:∀ m:Nat,(a.toNat * a.toNat % gp) ^ m % gp=a.toNat ^ (2 * m) % gp:=fun m=>by
    rw [← Nat.pow_mod,← Nat.pow_two,← Nat.pow_mul]
   have hstep:z5z 1000000007 (a,n,o)=some (.inr (a * a % 1000000007,n / 2, if n.toNat % 2=1 then o * a % 1000000007 else o)):=by
    unfold z5z;rw [if_pos (by simp only [decide_eq_true_eq,UInt64.lt_iff_toNat_lt]; simp; omega)];simp only [];rw [hm2,z3i (by decide)];by_cases h:n.toNat % 2=1
    ·rw [if_pos (by simpa using h),if_pos h];simp only [bS]
    ·rw [if_neg (by simpa using h),if_neg h];simp only [bS]
   rw [z26 hstep];by_cases h:n.toNat % 2=1
   ·rw [if_pos h];obtain ⟨r,h1,h2⟩:=ih (n / 2).toNat (by rw [hn2]; omega) (a * a % 1000000007) (n / 2) (o * a % 1000000007) rfl (by rw [haa]; omega) (by rw [hoa]; exact hol);refine ⟨r,h1,?_⟩;rw [h2,haa,hoa,hn2,Nat.mul_mod,hpow,Nat.mod_mod,← Nat.mul_mod,Nat.mul_assoc, show a.toNat * a.toNat ^ (2 * (n.toNat / 2))=a.toNat ^ (2 * (n.toNat / 2)+1) by rw [Nat.pow_succ,Nat.mul_comm], show 2 * (n.toNat / 2)+1=n.toNat by omega]
   ·rw [if_neg h];obtain ⟨r,h1,h2⟩:=ih (n / 2).toNat (by rw [hn2]; omega) (a * a % 1000000007) (n / 2) o rfl (by rw [haa]; omega) ho;refine ⟨r,h1,?_⟩;rw [h2,haa,hn2,Nat.mul_mod,hpow,← Nat.mul_mod, show 2 * (n.toNat / 2)=n.toNat by omega]
theorem zv4 (a n:UInt64) (ha:a.toNat<4294967296):∃ r:UInt64,z95 a n 1000000007=some r∧r.toNat=a.toNat ^ n.toNat % gp:=by
 obtain ⟨r,h1,h2⟩:=zwf _ a n 1 rfl ha (by decide);refine ⟨r,?_, by rw [h2]; simp⟩
 unfold z95;rw [h1];simp only [bS]
theorem zk2 (a:UInt32) (n:UInt64):z5r a n=some (u32 (a.toNat ^ n.toNat % gp)):=by
 obtain ⟨r,h1,h2⟩:=zv4 a.toUInt64 n (by simp; exact UInt32.toNat_lt a);unfold z5r;rw [h1];simp only [bS];simp only [UInt32.toNat_toUInt64] at h2;rw [to32 _ (by rw [h2]; exact Nat.mod_lt _ (by decide)),h2]
theorem z166 (a:UInt32):(u32 (a.toNat ^ (500000003:UInt64).toNat % gp)==1)=decide (a.toNat ^ gq % gp=1):=by
 have hlt:a.toNat ^ gq % gp<gp:=Nat.mod_lt _ (by decide);rw [show (500000003:UInt64).toNat=gq from rfl,Bool.eq_iff_iff,beq_iff_eq,decide_eq_true_iff,← UInt32.toNat_inj,z2w hlt];rfl
theorem zyr (a:UInt32):zhw a=some (decide (inG a.toNat)):=by
 unfold zhw;have h1:decide (0<a)=decide (0<a.toNat):=by simp [UInt32.lt_iff_toNat_lt]
 have h2:decide (a<1000000007)=decide (a.toNat<gp):=by simp [UInt32.lt_iff_toNat_lt]
 rw [h1,h2,zzd];simp only [bS];rw [z166];unfold inG;by_cases c1:0<a.toNat
 ·by_cases c2:a.toNat<gp
  ·simp [c1,c2]
  ·simp [c1,c2]
 ·simp [c1]
theorem zv1 (a:UInt32):zbo a=some (decide (inG a.toNat)):=by
 obtain ⟨r,hr1,hr2⟩:=zv4 a.toUInt64 500000003 (by simp; exact UInt32.toNat_lt a);unfold zbo;have h1:decide (1≤a)=decide (0<a.toNat):=by
  rw [decide_eq_decide,UInt32.le_iff_toNat_le]; simp; omega
 have h2:decide (a<1000000007)=decide (a.toNat<gp):=by simp [UInt32.lt_iff_toNat_lt]
 rw [h1,h2,hr1];simp only [bS];have h3:(r==1)=decide (a.toNat ^ gq % gp=1):=by
  simp only [UInt32.toNat_toUInt64] at hr2;rw [Bool.eq_iff_iff,beq_iff_eq,decide_eq_true_iff,← UInt64.toNat_inj,hr2];rfl
 rw [h3];unfold inG;by_cases c1:0<a.toNat
 ·by_cases c2:a.toNat<gp
  ·simp [c1,c2]
  ·simp [c1,c2]
 ·simp [c1]
end
section
open Go
theorem z10a (l:List (List UInt8)) (h0:l.length≤20) (h:∀ b∈l,b.length≤10000):z1r l=some false:=by
 have:iter (z1b l) 0=some (.inr ()):=by
  refine z2k (F:=z1b l) (b:=.inr ()) l.length (fun i=>(i:Int)) (fun i hi=>?_) ?_
  ·have hb:=h l[i] (List.getElem_mem _);unfold z1b zdt;rw [if_pos (by simp; omega),z0g hi];simp only [bS];rw [if_neg (by simp; omega),z0r (show i<9223372036854775807 by omega)]
  ·unfold z1b;rw [if_neg (by simp)]
 unfold z1r z35;rw [this];simp only [zx0,bS];rfl
theorem zmj:∀ (l:List (List UInt8)),(∀ b∈l,b.length≤10000)→l.flatten.length≤l.length * 10000
 | [],_=>by simp
 | b::l,h=>by
  have h1:=h b (by simp);have h2:=zmj l (fun c hc=>h c (by simp [hc]));simp only [List.flatten_cons,List.length_append,List.length_cons]; omega
theorem zsm (l:List (List UInt8)) (h0:l.length≤20) (h:∀ b∈l,b.length≤10000):zc0 l=some (sha l.flatten,0):=by
 have hl:iter (z97 l) (zx2 [],0)=some (zx2 l.flatten):=by
  have:=z2k (F:=z97 l) (b:=zx2 l.flatten) l.length (fun i=>(zx2 (l.take i).flatten,(i:Int))) (fun i hi=>?_) ?_
  ·simpa using this
  ·have hb:=h l[i] (List.getElem_mem _);have hf:=zmj (l.take i) (fun b hb'=>h b (List.mem_of_mem_take hb'));simp only [List.length_take] at hf;unfold z97;rw [if_pos (by simp; omega)];simp only [];rw [z0g hi];simp only [bS];rw [zs3 _ _ (by omega),z0r (show i<9223372036854775807 by omega)];simp only [bS];rw [List.take_add_one,List.getElem?_eq_getElem hi,List.flatten_append];rw [show ((some l[i]:Option (List UInt8)).toList).flatten=l[i] by simp]
  ·unfold z97;rw [if_neg (by simp)]
   simp
 have hf:=zmj l h;unfold zc0;rw [if_neg (by simp; omega),z10a l h0 h];simp only [bS];rw [if_neg (by simp),z11t];simp only [bS];rw [hl];simp only [bS];rw [z179 _ (by omega)];simp only [bS]
theorem z16q (b:List UInt8) (h:b.length≤10000):zhx b=some (sha b,0):=by
 unfold zhx;rw [zsm [b] (by simp) (by simpa using h)]
 simp
def four (x:UInt32):List UInt8:=[(z4h x 24).toUInt8,(z4h x 16).toUInt8,(z4h x 8).toUInt8,x.toUInt8]
theorem zt4 (x:UInt32):z7x x=some (four x):=by
 unfold z7x four;have hx:=UInt32.toNat_lt x;have e1:(x / 16777216).toUInt8=(z4h x 24).toUInt8:=by
  apply UInt8.toNat_inj.1
  simp only [UInt32.toNat_toUInt8,zfv,UInt32.toNat_div]; rfl
 have e2:((x / 65536) % 256).toUInt8=(z4h x 16).toUInt8:=by
  apply UInt8.toNat_inj.1
  simp only [UInt32.toNat_toUInt8,zfv,UInt32.toNat_div,UInt32.toNat_mod];exact Nat.mod_mod _ _
 have e3:((x / 256) % 256).toUInt8=(z4h x 8).toUInt8:=by
  apply UInt8.toNat_inj.1
  simp only [UInt32.toNat_toUInt8,zfv,UInt32.toNat_div,UInt32.toNat_mod];exact Nat.mod_mod _ _
 have e4:(x % 256).toUInt8=x.toUInt8:=by
  apply UInt8.toNat_inj.1
  simp only [UInt32.toNat_toUInt8,UInt32.toNat_mod];exact Nat.mod_mod _ _
 rw [e1,e2,e3,e4]
def zqg (d:V3):Nat→UInt64
 | 0=>0
 | i+1=>256 * zqg d i+(d.toList.getD i 0).toUInt64
theorem zt5 (d:V3):∀ i,i≤8→(zqg d i).toNat<256 ^ i
 | 0,_=>by simp [zqg]
 | i+1,h=>by
  have ih:=zt5 d i (by omega);have hy:=UInt8.toNat_lt (d.toList.getD i 0);have ep:256 ^ (i+1)=256 ^ i * 256:=Nat.pow_succ ..;have hp:256 ^ i≤256 ^ 7:=Nat.pow_le_pow_right (by omega) (by omega);have e7:(256:Nat) ^ 7=72057594037927936:=rfl;rw [zqg,UInt64.toNat_add,UInt64.toNat_mul,ep];have e1:((d.toList.getD i 0).toUInt64).toNat=(d.toList.getD i 0).toNat:=by simp
  have e2:(256:UInt64).toNat=256:=rfl;rw [e1,e2,Nat.mod_eq_of_lt (a:=256 * (zqg d i).toNat) (by omega),Nat.mod_eq_of_lt (by omega)];omega
theorem z12l (x:UInt64) (y:UInt8) (h:x.toNat<72057594037927936):(zpq x 8) ||| y.toUInt64=256 * x+y.toUInt64:=by
 apply UInt64.toNat_inj.1
 have hy:=UInt8.toNat_lt y;rw [UInt64.toNat_or,zo4,UInt64.toNat_add,UInt64.toNat_mul];have e1:(y.toUInt64).toNat=y.toNat:=by simp
 have e2:(256:UInt64).toNat=256:=rfl;rw [e1,e2, show (2:Nat) ^ (min 8 64)=256 from rfl,Nat.mod_eq_of_lt (a:=x.toNat * 256) (by omega),Nat.mod_eq_of_lt (a:=256 * x.toNat) (by omega),Nat.mod_eq_of_lt (by omega)]
 have:=Nat.shiftLeft_add_eq_or_of_lt (i:=8) (b:=y.toNat) (by simpa using hy) x.toNat
 rw [Nat.shiftLeft_eq, show (2:Nat) ^ 8=256 from rfl] at this;rw [← this]; omega
theorem z11q (d:V3) (e:Int):iter (zd7 (d,e)) (0,0)=some (zqg d 8):=by
 refine z2k (F:=zd7 (d,e)) (b:=zqg d 8) 8 (fun i=>(zqg d i,(i:Int))) (fun i hi=>?_) ?_
 ·have hl:((d.toList.drop 0).take 8).length=8:=by simp
  have hlt:=zt5 d i (by omega);have hp:256 ^ i≤256 ^ 7:=Nat.pow_le_pow_right (by omega) (by omega);have e7:(256:Nat) ^ 7=72057594037927936:=rfl;unfold zd7;simp only [hl];rw [if_pos (by simp; omega),zh7 0 (by rw [hl]; exact hi)];simp only [bS];rw [List.drop_zero,zrw hi,z12l _ _ (by omega),z0r (show i<9223372036854775807 by omega)];rfl
 ·have hl:((d.toList.drop 0).take 8).length=8:=by simp
  unfold zd7;simp only [hl];rw [if_neg (by simp)]
theorem zyk (b:List UInt8) (h:b.length≤300000):z84 b=some (zqg (sha b) 8):=by
 have:iter (z5e (sha b)) (0,0)=some (zqg (sha b) 8):=by
  refine z2k (F:=z5e (sha b)) (b:=zqg (sha b) 8) 8 (fun i=>(zqg (sha b) i,(i:Int))) (fun i hi=>?_) ?_
  ·unfold z5e;rw [if_pos (by simp; omega)];simp only [z10i];rw [zh7 0 (by simp; omega),z0r (show i<9223372036854775807 by omega)];simp only [bS];rfl
  ·unfold z5e;rw [if_neg (by simp)]
 unfold z84;rw [z162 b h];simp only [bS];rw [this];simp only [bS]
def zx5 (r y:UInt32) (m:List UInt8):UInt32:=(zqg (sha ((([99]++four r)++four y)++m)) 8 % 500000003).toUInt32
theorem z14o (m:List UInt8) (r y:UInt32) (h:m.length≤9991):zk9 99 m [r,y]=some (zqg (sha ((([99]++four r)++four y)++m)) 8,0):=by
 have l1:iter (z8h [r,y]) ([99],0)=some (([99]++four r)++four y):=by
  have s1:z8h [r,y] ([99],0)=some (.inr ([99]++four r,1)):=by
   unfold z8h;rw [if_pos (by simp)];simp only [];rw [show idx [r,y] 0=some r from rfl,z18 (x:=(0:Int)+1) (by omega) (by omega)];simp only [bS];rw [z1t (by simp)];rfl
  have s2:z8h [r,y] ([99]++four r,1)=some (.inr (([99]++four r)++four y,2)):=by
   unfold z8h;rw [if_pos (by simp)];simp only [];rw [show idx [r,y] 1=some y from rfl,z18 (x:=(1:Int)+1) (by omega) (by omega)];simp only [bS];rw [z1t (by simp [four])];rfl
  have s3:z8h [r,y] (([99]++four r)++four y,2)=some (.inl (([99]++four r)++four y)):=by
   unfold z8h;rw [if_neg (by simp)]
  rw [z26 s1,z26 s2,z1u s3]
 unfold zk9;rw [if_neg (by simp; omega),l1];simp only [bS]
 rw [zsm _ (by simp) (by
  intro b hb;simp only [List.mem_cons,List.not_mem_nil,or_false] at hb;rcases hb with rfl | rfl
  ·simp [four]
  ·omega)]
 simp only [bS];rw [z11q, show [([99]++four r)++four y,m].flatten=(([99]++four r)++four y)++m by simp only [List.flatten_cons,List.flatten_nil,List.append_nil]];rfl
theorem zrn (r y:UInt32) (m:List UInt8) (h:m.length≤9991):zco r y m=some (zx5 r y m,0):=by
 unfold zco;rw [z14o m r y h];simp only [bS];rw [if_neg (by simp)];rfl
theorem zhk (r y:UInt32) (m:List UInt8) (h:m.length≤9991):z5d r y m=some (zx5 r y m):=by
 unfold z5d;rw [zt4];simp only [bS];rw [z1t (by simp [four]),zt4];simp only [bS];rw [z1t (by simp [four])];simp only [bS];rw [z1t (by simp [four]; omega)];simp only [bS];rw [zyk _ (by simp [four]; omega)];simp only [bS];rfl
def zcg (x:UInt32):Bool:=decide (x.toNat<gq)
theorem zfo (x:UInt32):z3u x=some (zcg x):=by
 have e:decide (x.toUInt64<500000003)=zcg x:=by unfold zcg; simp [UInt64.lt_iff_toNat_lt]
 unfold z3u;rw [e];rfl
def sigR (y:UInt32) (s:z09):UInt32:=u32 ((4 ^ s.S.toNat % gp) * (y.toNat ^ (gq - s.E.toNat) % gp) % gp)
def zo3 (y:UInt32) (m:List UInt8) (s:z09):Bool:=zcg s.E&&(zcg s.S&&(zx5 (sigR y s) y m==s.E))
theorem z112 (y:UInt32) (m:List UInt8) (s:z09) (hy:inG y.toNat) (h:m.length≤9991):zb8 y m s=some (zo3 y m s):=by
 unfold zb8 zo3;rw [zfo];simp only [bS]
 cases hE:zcg s.E with
 | false=>rw [if_pos (by simp)]; rfl
 | true =>
  rw [if_neg (by simp),zfo];simp only [bS]
  cases hS:zcg s.S with
  | false=>rw [if_pos (by simp)]; rfl
  | true =>
   have hE':s.E.toNat<gq:=by simpa [zcg] using hE
   have hin:=zqh hy.2.2 s.E.toNat;have hlt:y.toNat ^ s.E.toNat % gp<gp:=Nat.mod_lt _ (by decide);rw [if_neg (by simp),zk2];simp only [bS];unfold zew z5n zc7;rw [zv1,z2w (by simpa using hlt)];simp only [bS];have hE64:s.E.toUInt64.toNat=s.E.toNat:=by simp
   rw [hE64,decide_eq_true hin,if_neg (by simp),zk2,z2w hlt,zk2];simp only [bS];rw [show (500000002:UInt64).toNat=gq - 1 from rfl,z15o hy.2.2 hE'];unfold zbj;simp only [bS];have hS64:s.S.toUInt64.toNat=s.S.toNat:=by simp
   have hl1:4 ^ s.S.toNat % gp<gp:=Nat.mod_lt _ (by decide);have hl2:y.toNat ^ (gq - s.E.toNat) % gp<gp:=Nat.mod_lt _ (by decide);have hprod:((u32 ((4:UInt32).toNat ^ s.S.toUInt64.toNat % gp)).toUInt64 * (u32 (y.toNat ^ (gq - s.E.toNat) % gp)).toUInt64 % 1000000007).toUInt32=sigR y s:=by
    have hb:(4 ^ s.S.toNat % gp) * (y.toNat ^ (gq - s.E.toNat) % gp)≤1000000007 * 1000000007:=Nat.mul_le_mul (Nat.le_of_lt hl1) (Nat.le_of_lt hl2);have e1:=m64 (u32 ((4:UInt32).toNat ^ s.S.toUInt64.toNat % gp)).toUInt64 (u32 (y.toNat ^ (gq - s.E.toNat) % gp)).toUInt64;simp only [UInt32.toNat_toUInt64] at e1;rw [show (4:UInt32).toNat=4 from rfl,z2w hl1,z2w hl2] at e1;have e1:=e1 (by omega);rw [show (4:UInt32).toNat=4 from rfl,hS64,to32 _ (by rw [e1]; exact Nat.mod_lt _ (by decide)),e1]
    rfl
   rw [hprod,zhk _ _ _ h];simp only [bS];rfl
theorem all1 (a:UInt32) (h:inG a.toNat):ze7 [a]=some true:=by
 unfold ze7;have s1:z4t [a] 0=some (.inr 1):=by
  unfold z4t;rw [if_pos (by simp), show idx [a] 0=some a from rfl];simp only [bS];rw [zyr,decide_eq_true h,z18 (x:=(0:Int)+1) (by omega) (by omega)];rfl
 have s2:z4t [a] 1=some (.inl (.inr ())):=by
  unfold z4t;rw [if_neg (by simp)]
 rw [z26 s1,z1u s2];rfl
theorem all2 (a b:UInt32) (h:inG a.toNat) (h2:inG b.toNat):ze7 [a,b]=some true:=by
 unfold ze7;have s1:z4t [a,b] 0=some (.inr 1):=by
  unfold z4t;rw [if_pos (by simp), show idx [a,b] 0=some a from rfl];simp only [bS];rw [zyr,decide_eq_true h,z18 (x:=(0:Int)+1) (by omega) (by omega)];rfl
 have s2:z4t [a,b] 1=some (.inr 2):=by
  unfold z4t;rw [if_pos (by simp), show idx [a,b] 1=some b from rfl];simp only [bS];rw [zyr,decide_eq_true h2,z18 (x:=(1:Int)+1) (by omega) (by omega)];rfl
 have s3:z4t [a,b] 2=some (.inl (.inr ())):=by
  unfold z4t;rw [if_neg (by simp)]
 rw [z26 s1,z26 s2,z1u s3];rfl
theorem zzm (y:UInt32) (m:List UInt8) (s:z09) (hy:inG y.toNat) (h:m.length≤9991):zfp y m s=some (if zo3 y m s then 0 else 22):=by
 have hmax:decide (500000003≤max s.E s.S)=!(zcg s.E&&zcg s.S):=by
  have e1:(500000003≤max s.E s.S)↔(500000003≤s.E∨500000003≤s.S):=by
   rw [show max s.E s.S=if s.E≤s.S then s.S else s.E from rfl]
   split
   ·rename_i hh
    constructor
    ·exact fun h=>.inr h
    ·rintro (h | h)
     ·exact UInt32.le_trans h hh
     ·exact h
   ·rename_i hh
    constructor
    ·exact fun h=>.inl h
    ·rintro (h | h)
     ·exact h
     ·rw [UInt32.le_iff_toNat_le] at *; omega
  rw [Bool.eq_iff_iff,decide_eq_true_iff,e1];unfold zcg;simp only [UInt32.le_iff_toNat_le,Bool.not_eq_true',Bool.and_eq_false_iff,decide_eq_false_iff_not,Nat.not_lt];rfl
 unfold zfp;rw [zyr,decide_eq_true hy];simp only [bS];rw [if_neg (by simp),if_neg (by simp; omega),hmax]
 cases hE:zcg s.E with
 | false=>unfold zo3; rw [hE]; rfl
 | true =>
  cases hS:zcg s.S with
  | false=>unfold zo3; rw [hE,hS]; rfl
  | true =>
   have hE':s.E.toNat<gq:=by simpa [zcg] using hE
   have hE':s.E.toNat<500000003:=hE';rw [if_neg (by simp)];unfold zo6 zku znb;rw [all1 y hy];simp only [bS];rw [if_neg (by simp),zzd];simp only [bS];rw [zzd];simp only [bS];have hS64:s.S.toUInt64.toNat=s.S.toNat:=by simp
   have hq:(500000003 - s.E.toUInt64).toNat=gq - s.E.toNat:=by
    rw [UInt64.toNat_sub_of_le _ _ (by rw [UInt64.le_iff_toNat_le]; simp; omega)]
    simp
   have hl1:4 ^ s.S.toNat % gp<gp:=Nat.mod_lt _ (by decide);have hl2:y.toNat ^ (gq - s.E.toNat) % gp<gp:=Nat.mod_lt _ (by decide);rw [hq,hS64, show (4:UInt32).toNat=4 from rfl];rw [all2 _ _ (by rw [z2w hl1]; exact zqh zv3 _) (by rw [z2w hl2]; exact zqh hy.2.2 _)];simp only [bS];rw [if_neg (by simp),mul2,z2w hl1,z2w hl2];simp only [bS];rw [zrn _ _ _ h];simp only [bS];rw [if_neg (by simp)];unfold zo3
   rw [hE,hS];show (if (zx5 (sigR y s) y m != s.E)=true then some 22 else some 0)=_;by_cases hc:zx5 (sigR y s) y m=s.E
   ·simp [hc]
   ·simp [hc]
end
section
open Go
def frc {α:Type} (x:Nat) (k:Nat→α):α:=match x with
 | 0=>k 0
 | n+1=>k (n+1)
theorem z13f {α:Type} (x:Nat) (k:Nat→α):frc x k=k x:=by cases x <;> rfl
def ztb {α:Type} (x:UInt32) (k:UInt32→α):α:=frc x.toNat fun n=>k (UInt32.ofNat n)
theorem zla {α:Type} (x:UInt32) (k:UInt32→α):ztb x k=k x:=by unfold ztb; rw [z13f,UInt32.ofNat_toNat]
def fB {α:Type}:List UInt8→(List UInt8→α)→α
 | [],k=>k []
 | x::l,k=>frc x.toNat fun n=>fB l fun m=>k (UInt8.ofNat n::m)
theorem z17p {α:Type}:∀ (l:List UInt8) (k:List UInt8→α),fB l k=k l
 | [],k=>rfl
 | x::l,k=>by rw [fB,z13f,z17p l,UInt8.ofNat_toNat]
def fW {α:Type}:List UInt32→(List UInt32→α)→α
 | [],k=>k []
 | x::l,k=>ztb x fun n=>fW l fun m=>k (n::m)
theorem z164 {α:Type}:∀ (l:List UInt32) (k:List UInt32→α),fW l k=k l
 | [],k=>rfl
 | x::l,k=>by rw [fW,zla,z164 l]
def wL:Nat→List UInt8→List UInt32
 | 0,_=>[]
 | n+1,l=>word l 0::wL n (l.drop 4)
theorem zyo (l:List UInt8) (k:Nat):word (l.drop 4) k=word l (k+1):=by
 unfold word;have e:∀ j,(l.drop 4).getD (4 * k+j) 0=l.getD (4 * (k+1)+j) 0:=fun j=>by
  rw [List.getD_eq_getElem?_getD,List.getD_eq_getElem?_getD,List.getElem?_drop]
  congr 2; omega
 have e0:=e 0;rw [Nat.add_zero,Nat.add_zero] at e0;rw [e0,e 1,e 2,e 3]
theorem z163:∀ (n:Nat) (l:List UInt8),wL n l=(List.range n).map (word l)
 | 0,l=>rfl
 | n+1,l=>by
  rw [wL,z163 n,List.range_succ_eq_map,List.map_cons,List.map_map];exact congrArg (List.cons (word l 0)) (List.map_congr_left fun k hk=>zyo l k)
def sF {α:Type}:Nat→List UInt32→(List UInt32→α)→α
 | 0,r,k=>k r.reverse
 | n+1,r,k=>ztb (((r.getD 15 0+r.getD 6 0)+sg0 (r.getD 14 0))+sg1 (r.getD 1 0)) fun w=>sF n (w::r) k
theorem zmh (l:List UInt32) (i:Nat) (h:i<l.length):l.reverse.getD i 0=l.getD (l.length - (i+1)) 0:=by
 rw [List.getD_eq_getElem?_getD,List.getD_eq_getElem?_getD,List.getElem?_reverse h]
 congr 2
 omega
theorem z17a {α:Type} (b:List UInt8) (k:List UInt32→α):∀ (n m:Nat),sF n (z7i b m).reverse k=k (z7i b (m+n))
 | 0,m=>by rw [sF,List.reverse_reverse]; rfl
 | n+1,m=>by
  have hl:=zfg b m;rw [sF,zla,zmh _ 15 (by omega),zmh _ 6 (by omega),zmh _ 14 (by omega),zmh _ 1 (by omega)]
  have:((((z7i b m).getD ((z7i b m).length - (15+1)) 0+(z7i b m).getD ((z7i b m).length - (6+1)) 0)+sg0 ((z7i b m).getD ((z7i b m).length - (14+1)) 0))+sg1 ((z7i b m).getD ((z7i b m).length - (1+1)) 0))::(z7i b m).reverse=(z7i b (m+1)).reverse:=by
   show _=(zte (z7i b m)).reverse;unfold zte;rw [List.reverse_append]; rfl
  rw [this,z17a b k n (m+1)]
  congr 2; omega
def rF {α:Type}:List UInt32→List UInt32→O8→(O8→α)→α
 | q::K,w::W,s,k=>ztb (rnd1 q w s) fun t=>ztb (t+rnd2 s) fun x=>ztb (s.2.2.2.1+t) fun y=>rF K W (x,s.1,s.2.1,s.2.2.1,y,s.2.2.2.2.1,s.2.2.2.2.2.1,s.2.2.2.2.2.2.1) k
 | _,_,s,k=>k s
theorem z16l {α:Type} (K W:List UInt32) (hK:K.length=64) (hW:W.length=64) (s:O8) (k:O8→α):∀ (n i:Nat),64 - i=n→i≤64→rF (K.drop i) (W.drop i) (zv7 K W s i) k=k (zv7 K W s 64)
 | 0,i,h,hi=>by
  have:i=64:=by omega
  subst this;rw [List.drop_eq_nil_of_le (by omega)]; rfl
 | n+1,i,h,hi=>by
  rw [List.drop_eq_getElem_cons (by omega),List.drop_eq_getElem_cons (by omega:i<W.length),rF,zla,zla,zla];rw [← z16l K W hK hW s k n (i+1) (by omega) (by omega)]
  congr 1
  rw [zv7,rnd,List.getD_eq_getElem?_getD,List.getD_eq_getElem?_getD,List.getElem?_eq_getElem (by omega),List.getElem?_eq_getElem (by omega)];rfl
def grK {α:Type} (h:O8) (b:List UInt8) (k:O8→α):α :=
 fW (wL 16 b).reverse fun r=>sF 48 r fun W=>rF z52.toList W h fun s =>
 ztb (h.1+s.1) fun a=>ztb (h.2.1+s.2.1) fun b=>ztb (h.2.2.1+s.2.2.1) fun c=>ztb (h.2.2.2.1+s.2.2.2.1) fun d =>
 ztb (h.2.2.2.2.1+s.2.2.2.2.1) fun e=>ztb (h.2.2.2.2.2.1+s.2.2.2.2.2.1) fun f=>ztb (h.2.2.2.2.2.2.1+s.2.2.2.2.2.2.1) fun g=>ztb (h.2.2.2.2.2.2.2+s.2.2.2.2.2.2.2) fun z=>k (a,b,c,d,e,f,g,z)
def add8 (h s:O8):O8:=(h.1+s.1,h.2.1+s.2.1,h.2.2.1+s.2.2.1,h.2.2.2.1+s.2.2.2.1,h.2.2.2.2.1+s.2.2.2.2.1,h.2.2.2.2.2.1+s.2.2.2.2.2.1,h.2.2.2.2.2.2.1+s.2.2.2.2.2.2.1,h.2.2.2.2.2.2.2+s.2.2.2.2.2.2.2)
theorem z11l (h v:Vector UInt32 8):∀ j (hj:j<8),(addV h v)[j]=h[j]+v[j]:=by
 obtain ⟨r,h1,h2⟩:=zap (F:=z1y v) 8 (fun i s=>s.2=(i:Int)∧∀ j (hj:j<8),s.1[j]=if j<i then h[j]+v[j] else h[j]) (fun r=>∀ j (hj:j<8),r[j]=h[j]+v[j]) (fun i s hi hs=>by
  obtain ⟨u,k⟩:=s;obtain ⟨hs,hu⟩:=hs;simp only at hs hu;subst hs;unfold z1y;rw [if_pos (by simp; omega)];rw [z8o (show i<8 by omega),z8o (show i<8 by omega)];simp only [bS,z0r (show i<9223372036854775807 by omega)];refine ⟨_,rfl,rfl, fun j hj=>?_⟩;simp only;rw [zg7 hj,hu j hj,hu i hi];simp only [Int.toNat_natCast];by_cases e:i=j
  ·subst e; simp
  ·rw [if_neg e];by_cases l:j<i
   ·rw [if_pos l,if_pos (by omega)]
   ·rw [if_neg l,if_neg (by omega)]) (fun s hs=>by
  obtain ⟨u,k⟩:=s;obtain ⟨hs,hu⟩:=hs;simp only at hs hu;subst hs;unfold z1y;rw [if_neg (by simp)]
  exact ⟨_,rfl, fun j hj=>by rw [hu j hj,if_pos hj]⟩) (h,0) 0 (by omega) ⟨rfl, fun j hj=>by simp⟩
 unfold addV;rw [h1];exact h2
theorem z151 (h s:O8):addV (toV h) (toV s)=toV (add8 h s):=by
 apply Vector.ext
 intro j hj;rw [z11l]
 match j,hj with
 | 0,_=>rfl
 | 1,_=>rfl
 | 2,_=>rfl
 | 3,_=>rfl
 | 4,_=>rfl
 | 5,_=>rfl
 | 6,_=>rfl
 | 7,_=>rfl
theorem z13u (s:O8):ofV (toV s)=s:=rfl
theorem z16k {α:Type} (h:O8) (b:List UInt8) (k:O8→α):∃ s,gr (toV h) b=toV s∧grK h b k=k s:=by
 refine ⟨add8 h (zv7 z52.toList (z7i b 48) h 64),?_,?_⟩
 ·unfold gr;rw [z13u,z151]
 ·unfold grK;have e:wL 16 b=z7i b 0:=z163 16 b;rw [z164,e,z17a b _ 48 0]
  have:=z16l z52.toList (z7i b 48) zqe (by rw [zfg]) h (fun s=>k (add8 h s)) 64 0 rfl (by omega)
  rw [← this];simp only [zla];rfl
def blkK {α:Type}:Nat→O8→List UInt8→(O8→α)→α
 | 0,h,b,k=>k h
 | n+1,h,b,k=>grK h (b.take 64) fun s=>blkK n s (b.drop 64) k
theorem zzh {α:Type}:∀ (n:Nat) (h:O8) (b:List UInt8) (k:O8→α),b.length=64 * n→∃ s,blk (toV h) b=toV s∧blkK n h b k=k s
 | 0,h,b,k,hb=>⟨h,zr1 (by omega),rfl⟩
 | n+1,h,b,k,hb=>by
  obtain ⟨s,s1,s2⟩:=z16k h (b.take 64) (fun s=>blkK n s (b.drop 64) k);obtain ⟨t,t1,t2⟩:=zzh n s (b.drop 64) k (by rw [List.length_drop]; omega);refine ⟨t,?_,?_⟩
  ·rw [zrk (by omega),s1,t1]
  ·rw [blkK,s2,t2]
def H8:O8:=(1779033703,3144134277,1013904242,2773480762,1359893119,2600822924,528734635,1541459225)
def shaK {α:Type} (b:List UInt8) (k:O8→α):α:=fB (b++tl b.length) fun m=>blkK (m.length / 64) H8 m k
theorem z16b (n:Nat):(n+(tl n).length) % 64=0:=by
 unfold tl z9z zrs
 simp
 omega
theorem z157 {α:Type} (b:List UInt8) (k:O8→α):∃ s,sha b=wr (toV s)∧shaK b k=k s:=by
 have hl:=z16b b.length;obtain ⟨s,s1,s2⟩:=zzh ((b++tl b.length).length / 64) H8 (b++tl b.length) k (by rw [List.length_append]; omega);refine ⟨s,?_,?_⟩
 ·unfold sha;rw [show H0=toV H8 from rfl,s1]
 ·unfold shaK;rw [z17p,s2]
def zwb (b:List UInt8) (s:O8):Bool:=shaK b fun t=>t==s
theorem z16c {b:List UInt8} {s:O8} (h:zwb b s=true):sha b=wr (toV s):=by
 unfold zwb at h;obtain ⟨t,t1,t2⟩:=z157 b (fun t=>t==s);rw [t2] at h;rw [t1,eq_of_beq h]
end
section
open Go
def okc (c:UInt8):Bool:=decide (33≤c.toNat)&&decide (c.toNat≤126)
theorem z13t (x:Int):zmd x=some (decide (x<33) || decide (126<x)):=by
 unfold zmd
 cases decide (x<33) <;> rfl
theorem zuf (b:List UInt8):∀ (rest pre:List UInt8),b=pre++rest →
  (rest.all okc=true→iter (z2e b true) pre.length=some (.inr ()))∧(rest.all okc=false→∃ i:Nat,iter (z2e b true) pre.length=some (.inl (i:Int)))
 | [],pre,e=>by
  refine ⟨fun _=>z1u ?_, fun h=>by simp at h⟩;subst e;unfold z2e
  simp
 | c::rest,pre,e=>by
  have hlen:pre.length<b.length:=by rw [e]; simp
  have hget:b[pre.length]'hlen=c:=by subst e; simp
  have hF:z2e b true pre.length=if ((decide (((zaj b pre.length).1:Int)<33) || decide (126<((zaj b pre.length).1:Int)))==true) then some (.inl (.inl (pre.length:Int))) else some (.inr (pre.length+(zaj b pre.length).2)):=by
   unfold z2e;rw [if_pos hlen];simp only [bs,z13t]
  cases hc:okc c with
  | false =>
   refine ⟨fun h=>by simp [hc] at h, fun _=>⟨pre.length,z1u ?_⟩⟩;rw [hF,if_pos];by_cases h8:c.toNat<128
   ·rw [zpp hlen (by rw [hget]; exact h8),hget];simp only [okc,Bool.and_eq_false_iff,decide_eq_false_iff_not] at hc
    simp; omega
   ·have:=zzk hlen (by rw [hget]; omega)
    simp; omega
  | true =>
   simp only [okc,Bool.and_eq_true,decide_eq_true_eq] at hc;rw [zpp hlen (by rw [hget]; omega),hget,if_neg (by simp; omega)] at hF;have ih:=zuf b rest (pre++[c]) (by simp [e]);simp only [List.length_append,List.length_cons,List.length_nil,Nat.zero_add] at ih;rw [z26 hF];have hc':okc c=true:=by simp [okc,hc]
   simpa [hc'] using ih
theorem zyy (b:List UInt8) (hb:b.length≤9223372036854775807):∀ (rest pre:List UInt8),b=pre++rest→iter (z72 b) (pre.length:Int)=some (if rest.all okc then .inr () else .inl false)
 | [],pre,e=>by
  refine z1u ?_;subst e;unfold z72
  simp
 | c::rest,pre,e=>by
  have hlen:pre.length<b.length:=by rw [e]; simp
  have hget:b[pre.length]'hlen=c:=by subst e; simp
  have hF:z72 b (pre.length:Int)=if okc c then some (.inr ((pre.length+1:Nat):Int)) else some (.inl (.inl false)):=by
   unfold z72;rw [if_pos (by simp <;> omega)]
   simp only [z0g hlen,hget,bs,z0r (show pre.length<9223372036854775807 by omega)];simp only [okc,UInt8.lt_iff_toNat_lt,UInt8.reduceToNat];by_cases h1:c.toNat<33
   ·have:¬ 33≤c.toNat:=by omega
    simp [h1,this]
   ·by_cases h2:126<c.toNat
    ·have:¬ c.toNat≤126:=by omega
     simp [h1,h2,this]
    ·have h3:33≤c.toNat:=by omega
     have h4:c.toNat≤126:=by omega
     simp [h1,h2,h3,h4]
  cases hc:okc c with
  | false=>rw [hc] at hF; rw [z1u hF]; simp [hc]
  | true =>
   rw [hc] at hF;rw [z26 hF];have ih:=zyy b hb rest (pre++[c]) (by simp [e]);simp only [List.length_append,List.length_cons,List.length_nil,Nat.zero_add] at ih;rw [ih]; simp [hc]
def zgj (k:List UInt8):Bool:=decide (1≤k.length)&&(decide (k.length≤20)&&k.all okc)
theorem z150 (k:List UInt8):za1 k=some (zgj k):=by
 unfold za1 zgj;by_cases h1:1≤k.length
 ·by_cases h2:k.length≤20
  ·have h:=zyy k (by omega) k [] rfl;rw [if_neg (by simp; omega),if_neg (by simp; omega), show (0:Int)=(([]:List UInt8).length:Int) from rfl,h,decide_eq_true h1,decide_eq_true h2]
   cases k.all okc <;> rfl
  ·rw [if_neg (by simp; omega),if_pos (by simp; omega),decide_eq_false h2]; simp
 ·rw [if_pos (by simp; omega),decide_eq_false h1]; rfl
theorem z15y (k:List UInt8):zsi k=some (zgj k):=by
 unfold zsi zgj z6d z6h;by_cases h1:1≤k.length
 ·by_cases h2:k.length≤20
  ·obtain ⟨e1,e2⟩:=zuf k k [] rfl;simp only [List.length_nil] at e1 e2;rw [if_pos (by simp; omega),if_pos (by simp; omega),decide_eq_true h1,decide_eq_true h2]
   cases h:k.all okc
   ·obtain ⟨i,hi⟩:=e2 h;rw [hi];simp only [or_l,bS];rw [decide_eq_false (by omega)]; rfl
   ·rw [e1 h]; rfl
  ·rw [if_pos (by simp; omega),if_neg (by simp; omega),decide_eq_false h2]; simp
 ·rw [if_neg (by simp; omega),decide_eq_false h1]; rfl
def v0:z06:=⟨0,0,0,[]⟩
def zn1 (a:z0f):Bool :=
 if a.Kind=1 then decide (a.Key=[])&&decide (a.Value=v0)
 else if a.Kind=2∨a.Kind=3 then zgj a.Key&&decide (a.Value=v0)
 else if a.Kind=4 then zgj a.Key&&okV a.Value
 else false
theorem z17m (a:z0f) (h:a.Value.Text.length≤9223372036854775807):zfy a=some (if zn1 a then 0 else 8):=by
 obtain ⟨K,key,v⟩:=a;unfold zfy zn1;simp only at h ⊢;rw [z15y,zro v h];by_cases h1:K=1
 ·subst h1;by_cases hk:key=[] <;> by_cases hv:v=⟨0,0,0,[]⟩ <;> simp [hk,hv,v0]
 by_cases h2:K=2∨K=3
 ·have e:(if K==2 then some true else some (K==3))=some true:=by
   rcases h2 with rfl | rfl <;> rfl
  rw [if_neg (by simpa using h1),e,if_neg h1,if_pos h2];simp only [bS];rw [if_pos trivial]
  cases zgj key with
  | false=>rfl
  | true =>
   by_cases hv:v=⟨0,0,0,[]⟩
   ·subst hv; rfl
   ·have hv':¬ v=v0:=hv;simp only [bS,if_true,decide_eq_false hv,decide_eq_false hv']; rfl
 ·have e:(if K==2 then some true else some (K==3))=some false:=by
   have e2:(K==2)=false:=by simp; exact fun h=>h2 (.inl h)
   have e3:(K==3)=false:=by simp; exact fun h=>h2 (.inr h)
   rw [e2,e3]; rfl
  rw [if_neg (by simpa using h1),e,if_neg h1,if_neg h2];simp only [bS];rw [if_neg (by simp)];by_cases h4:K=4
  ·subst h4;rw [if_pos (by decide),if_pos rfl]
   cases zgj key with
   | false=>rfl
   | true=>cases okV v <;> rfl
  ·rw [if_neg (by simpa using h4),if_neg h4]; rfl
theorem zyb (a:z0f) (h:a.Value.Text.length≤9223372036854775807):z8r a=some (if zn1 a then 0 else 8):=by
 obtain ⟨K,key,v⟩:=a;unfold z8r zn1;simp only at h ⊢;rw [z150,z104 v h];simp only [bS];by_cases h1:K=1
 ·subst h1;by_cases hk:key=[] <;> by_cases hv:v=⟨0,0,0,[]⟩ <;> simp [hk,hv,v0]
 by_cases h2:K=2∨K=3
 ·have e:(if K==2 then some true else some (K==3))=some true:=by
   rcases h2 with rfl | rfl <;> rfl
  rw [if_neg (by simpa using h1),e,if_neg h1,if_pos h2];simp only [bS];rw [if_pos trivial]
  cases zgj key with
  | false=>rfl
  | true =>
   by_cases hv:v=⟨0,0,0,[]⟩
   ·subst hv; rfl
   ·have hv':¬ v=v0:=hv;simp only [bS,if_true,decide_eq_false hv,decide_eq_false hv']; rfl
 ·have e:(if K==2 then some true else some (K==3))=some false:=by
   have e2:(K==2)=false:=by simp; exact fun h=>h2 (.inl h)
   have e3:(K==3)=false:=by simp; exact fun h=>h2 (.inr h)
   rw [e2,e3]; rfl
  rw [if_neg (by simpa using h1),e,if_neg h1,if_neg h2];simp only [bS];rw [if_neg (by simp)];by_cases h4:K=4
  ·subst h4;rw [if_pos (by decide),if_pos rfl]
   cases zgj key with
   | false=>rfl
   | true=>cases okV v <;> rfl
  ·rw [if_neg (by simpa using h4),if_neg h4]; rfl
theorem ze2 (l:List V3) (h:l.length≤100):z0p l=some l:=by
 unfold z0p;rw [z1t (by simp; omega)]; rfl
def zet (a:z08):Bool:=decide (inG a.Author.toNat)&&(!decide (1000000000000<a.Stamp)&&(zn1 a.Act&&(zcg a.Sig.E&&zcg a.Sig.S)))
def z4l (a:z08):Int:=if 4<a.Preds.length then 4 else if z8b a.Preds=false then 32 else if zet a then 0 else 8
theorem z117 (x y:UInt32):decide (500000003≤max x y)=!(zcg x&&zcg y):=by
 have e1:(500000003≤max x y)↔(500000003≤x∨500000003≤y):=by
  rw [show max x y=if x≤y then y else x from rfl]
  split
  ·rename_i hh
   constructor
   ·exact fun h=>.inr h
   ·rintro (h | h)
    ·exact UInt32.le_trans h hh
    ·exact h
  ·rename_i hh
   constructor
   ·exact fun h=>.inl h
   ·rintro (h | h)
    ·exact h
    ·rw [UInt32.le_iff_toNat_le] at *; omega
 rw [Bool.eq_iff_iff,decide_eq_true_iff,e1];unfold zcg;simp only [UInt32.le_iff_toNat_le,Bool.not_eq_true',Bool.and_eq_false_iff,decide_eq_false_iff_not,Nat.not_lt];rfl
theorem ztr (l:List V3) (h:l.length≤4):(z1c l >>= fun r5=>if !r5 then some true else z0p l >>= fun r8=>z10 r8 >>= fun r10=>some ((r10.length:Int) != (l.length:Int)) >>= fun y12=>some y12)=some (!z8b l):=by
 obtain ⟨b,e1,e2⟩:=zzs l (by omega);obtain ⟨c,e3,e4⟩:=zvu l (by omega);have e5:=z120 l;rw [e1];simp only [bS]
 cases b with
 | false =>
  have:z8b l=false:=by
   rw [← Bool.not_eq_true,e5]; intro h; have:=e2.2 h.1; simp at this
  rw [this]; rfl
 | true =>
  rw [if_neg (by simp),ze2 l (by omega)];simp only [bS];rw [e3];simp only [bS];by_cases hc:c.length=l.length
  ·rw [e5.2 ⟨e2.1 rfl,e4.1 hc⟩,hc]; simp
  ·have:z8b l=false:=by
    rw [← Bool.not_eq_true,e5]; intro h; exact hc (e4.2 h.2)
   rw [this]; simp; omega
theorem zhr (a:z08) (h:a.Act.Value.Text.length≤9223372036854775807):zg2 a=some (z4l a):=by
 unfold zg2 z4l;simp only [bS];by_cases h4:4<a.Preds.length
 ·rw [if_pos (by simp; omega),if_pos h4]
 ·rw [if_neg (by simp; omega),if_neg h4]
  have:=ztr a.Preds (by omega)
  simp only [bS] at this;rw [this];simp only [bS]
  cases hi:z8b a.Preds with
  | false=>rfl
  | true =>
   rw [if_neg (by simp),zyr,z17m _ h,z117];simp only [bS];unfold zet
   cases decide (inG a.Author.toNat) with
   | false=>rfl
   | true =>
    cases decide (1000000000000<a.Stamp) with
    | true=>rfl
    | false=>cases zn1 a.Act <;> cases zcg a.Sig.E <;> cases zcg a.Sig.S <;> rfl
theorem zo0 (a:z08) (h:a.Act.Value.Text.length≤9223372036854775807):z4f a=some (z4l a):=by
 unfold z4f z4l;by_cases h4:4<a.Preds.length
 ·rw [if_pos (by simp; omega),if_pos h4]
 ·rw [if_neg (by simp; omega),if_neg h4,zr2 _ (by omega)];simp only [bS]
  cases hi:z8b a.Preds with
  | false=>rfl
  | true =>
   rw [if_neg (by simp),zv1,zyb _ h,zfo,zfo];simp only [bS];unfold zet
   cases decide (inG a.Author.toNat) with
   | false=>rfl
   | true =>
    cases decide (1000000000000<a.Stamp) with
    | true=>rfl
    | false=>cases zn1 a.Act <;> cases zcg a.Sig.E <;> cases zcg a.Sig.S <;> rfl
theorem z85 {a:z08} (h:z4l a=0):a.Preds.length≤4∧z8b a.Preds=true∧zet a=true:=by
 unfold z4l at h;by_cases h4:4<a.Preds.length
 ·rw [if_pos h4] at h; omega
 ·rw [if_neg h4] at h
  cases hi:z8b a.Preds with
  | false=>rw [hi] at h; simp at h
  | true =>
   rw [hi] at h
   cases hr:zet a with
   | false=>rw [hr] at h; simp at h
   | true=>exact ⟨by omega,rfl,rfl⟩
theorem zp8 {k:List UInt8} (h:zgj k=true):k.length≤20:=by
 unfold zgj at h;simp only [Bool.and_eq_true,decide_eq_true_eq] at h;exact h.2.1
theorem zdr {a:z0f} (h:zn1 a=true):(a.Kind=1∧a.Key=[])∨((a.Kind=2∨a.Kind=3)∧a.Key.length≤20)∨(a.Kind=4∧a.Key.length≤20∧okV a.Value=true):=by
 unfold zn1 at h;by_cases h1:a.Kind=1
 ·rw [if_pos h1] at h; simp only [Bool.and_eq_true,decide_eq_true_eq] at h; exact .inl ⟨h1,h.1⟩
 ·rw [if_neg h1] at h;by_cases h2:a.Kind=2∨a.Kind=3
  ·rw [if_pos h2] at h; simp only [Bool.and_eq_true,decide_eq_true_eq] at h; exact .inr (.inl ⟨h2,zp8 h.1⟩)
  ·rw [if_neg h2] at h;by_cases h4:a.Kind=4
   ·rw [if_pos h4] at h; simp only [Bool.and_eq_true] at h; exact .inr (.inr ⟨h4,zp8 h.1,h.2⟩)
   ·rw [if_neg h4] at h; simp at h
end
section
open Go
theorem zs8 {α:Type} (l:List (List α)) (i:Nat) (h:i<l.length):(l.take (i+1)).flatten=(l.take i).flatten++l[i]:=by
 rw [List.take_add_one,List.getElem?_eq_getElem h,List.flatten_append]
 simp
theorem zrt (l:List (List UInt8)) (h0:l.length≤20) (h:∀ b∈l,b.length≤10000):z2f l=some l.flatten:=by
 have hb:∀ i,(l.take i).flatten.length≤200000:=fun i=>by
  have:=zmj (l.take i) (fun b hb'=>h b (List.mem_of_mem_take hb'))
  simp only [List.length_take] at this; omega
 have e1:iter (z13 l) (0,0)=some (l.flatten.length:Int):=by
  have:=z2k (F:=z13 l) (b:=(l.flatten.length:Int)) l.length (fun i=>(((l.take i).flatten.length:Int),(i:Int))) (fun i hi=>?_) ?_
  ·simpa using this
  ·have h1:=hb (i+1);have e:=congrArg List.length (zs8 l i hi);rw [List.length_append] at e;unfold z13;rw [if_pos (by simp; omega)];simp only [];rw [z0g hi];simp only [bS];rw [z18 (x:=((l.take i).flatten.length:Int)+(l[i].length:Int)) (by omega) (by omega),if_neg (by simp; omega),z0r (show i<9223372036854775807 by omega),e]
   simp
  ·unfold z13;rw [if_neg (by simp)]
   simp
 have e2:z3y (l.flatten.length:Int)=some []:=by
  have h1:=hb l.length;rw [List.take_length] at h1;unfold z3y;rw [if_neg (by simp)];simp only [bS];generalize l.flatten.length=n at h1 ⊢;rw [show (0:Int) - (([]:List UInt8).length:Int)=0 from rfl,z18 (x:=0) (by omega) (by omega), show (n:Int) - 0=(n:Int) by omega,z18 (by omega) (by omega)];by_cases h2:0<n
  ·rw [if_pos (by simpa using h2),zis (by omega) (by omega)];simp only [bS];rw [show (0:Int)=((0:Nat):Int) from rfl, show ((([]:List UInt8).length:Nat):Int)=((0:Nat):Int) from rfl,zgg (by omega) (by simp)]
   simp
  ·rw [if_neg (by simpa using h2)]
 have e3:iter (z12 l) ([],0)=some l.flatten:=by
  have:=z2k (F:=z12 l) (b:=l.flatten) l.length (fun i=>((l.take i).flatten,(i:Int))) (fun i hi=>?_) ?_
  ·simpa using this
  ·have h1:=hb (i+1);have e:=zs8 l i hi;rw [e,List.length_append] at h1;unfold z12;rw [if_pos (by simp; omega)];simp only [];rw [z0g hi];simp only [bS];rw [z1t (by omega),z0r (show i<9223372036854775807 by omega),e];simp only [bS]
  ·unfold z12;rw [if_neg (by simp)]
   simp
 unfold z2f;rw [e1];simp only [bS];rw [e2];simp only [bS];rw [e3];simp only [bS]
def zvp (a:z08):List UInt8:=[111]++(z1m a.Author.toNat++((z1m a.Preds.length++zob a.Preds)++(z1m a.Stamp.toNat++[a.Act.Kind])))
def keyB (a:z0f):List UInt8:=z1m a.Key.length++a.Key
def msg (a:z08):List UInt8 :=
 if a.Act.Kind=1 then zvp a else if a.Act.Kind=4 then (zvp a++keyB a.Act)++encV a.Act.Value else zvp a++keyB a.Act
def zed (a:z08):List UInt8:=msg a++(z1m a.Sig.E.toNat++z1m a.Sig.S.toNat)
theorem zq1 {v:z06} (h:okV v=true) (hI:inI v.Num):(encV v).length≤100:=by
 unfold encV;rcases zq6 h with k | k | k
 ·have:=z0u (zig v.Num) (z10m hI)
  rw [if_pos k]; simp; omega
 ·rw [k,if_neg (by decide),if_pos rfl]; simp [be8]
 ·have h3:=(okV3 h k).2.2.1
  have:=z0u v.Text.length (by omega)
  rw [k,if_neg (by decide),if_neg (by decide)]; simp; omega
theorem zqb {a:z08} (h:z4l a=0):(zvp a).length≤160:=by
 obtain ⟨h1,h2,h3⟩:=z85 h;have l1:=z0u a.Author.toNat (by have:=UInt32.toNat_lt a.Author; omega);have l2:=z0u a.Preds.length (by omega);have l3:=z0u a.Stamp.toNat (UInt64.toNat_lt _);have l4:=zko a.Preds;unfold zvp;simp only [List.length_append,List.length_cons,List.length_nil]; omega
theorem zq9 {a:z0f} (h:zn1 a=true):(keyB a).length≤30:=by
 have hk:a.Key.length≤20:=by
  rcases zdr h with ⟨_,h⟩ | ⟨_,h⟩ | ⟨_,h,_⟩
  ·simp [h]
  ·exact h
  ·exact h
 have:=z0u a.Key.length (by omega)
 unfold keyB; simp only [List.length_append]; omega
theorem zl2 {a:z08} (h:zet a=true):zn1 a.Act=true:=by
 unfold zet at h;simp only [Bool.and_eq_true] at h;exact h.2.2.1
theorem zrz {a:z08} (h:zet a=true):inG a.Author.toNat:=by
 unfold zet at h;simp only [Bool.and_eq_true,decide_eq_true_eq] at h;exact h.1
theorem zkz {a:z08} (h:z4l a=0) (hI:inI a.Act.Value.Num):(msg a).length≤300:=by
 have h1:=zqb h;have ha:=zl2 (z85 h).2.2;have h2:=zq9 ha;unfold msg
 split
 ·omega
 ·split
  ·rename_i h4
   have:okV a.Act.Value=true:=by
    rcases zdr ha with ⟨k,_⟩ | ⟨k,_⟩ | ⟨_,_,k⟩
    ·rw [h4] at k; simp at k
    ·rw [h4] at k; simp at k
    ·exact k
   have h3:=zq1 this hI;simp only [List.length_append]; omega
  ·simp only [List.length_append]; omega
theorem zt9 {a:z08} (h:z4l a=0) (hI:inI a.Act.Value.Num):(zed a).length≤400:=by
 have h1:=zkz h hI;have l1:=z0u a.Sig.E.toNat (by have:=UInt32.toNat_lt a.Sig.E; omega);have l2:=z0u a.Sig.S.toNat (by have:=UInt32.toNat_lt a.Sig.S; omega);unfold zed;simp only [List.length_append]; omega
def bare (a:z08):z08:={ a with Sig:=(⟨0,0⟩:z09) }
theorem z10n {a:z08} (h:z4l a=0):z4l (bare a)=0:=by
 obtain ⟨h1,h2,h3⟩:=z85 h;unfold zet at h3;simp only [Bool.and_eq_true] at h3;obtain ⟨g1,g2,g3,g4,g5⟩:=h3;unfold z4l bare;rw [if_neg (by simp; omega),h2,if_neg (by simp),if_pos];unfold zet;rw [g1,g2,g3]; rfl
theorem zpg (a:z08) (h:z4l a=0) (hI:inI a.Act.Value.Num) (ht:a.Act.Value.Text.length≤9223372036854775807):zfk a=some (msg a,0):=by
 obtain ⟨h1,h2,h3⟩:=z85 h;have ha:=zl2 h3;have l1:=z0u a.Author.toNat (by have:=UInt32.toNat_lt a.Author; omega);have l2:=z0u a.Preds.length (by omega);have l3:=z0u a.Stamp.toNat (UInt64.toNat_lt _);have l4:=zko a.Preds;have hl:=zqb h;have e1:zg2 { a with Sig:=(⟨0,0⟩:z09) }=some 0:=by
  have:=zhr (bare a) ht
  rw [z10n h] at this;exact this
 unfold zfk;rw [e1];simp only [bS];rw [if_neg (by simp),z149 _ (by omega) h2];simp only [bS];rw [z71,z71];simp only [bS]
 rw [zrt _ (by simp) (by
  intro b hb;simp only [List.mem_cons,List.not_mem_nil,or_false] at hb;rcases hb with rfl | rfl | rfl | rfl | rfl
  ·simp
  ·simp; omega
  ·simp only [List.length_append]; omega
  ·omega
  ·simp)]
 simp only [bS];have e2:[[111],z1m a.Author.toUInt64.toNat,z1m a.Preds.length++zob a.Preds,z1m a.Stamp.toNat,[a.Act.Kind]].flatten=zvp a:=by
  unfold zvp;simp only [List.flatten_cons,List.flatten_nil,List.append_nil,UInt32.toNat_toUInt64]
 rw [e2];unfold msg;by_cases k1:a.Act.Kind=1
 ·rw [if_pos (by simpa using k1),if_pos k1]
 ·rw [if_neg (by simpa using k1),if_neg k1];have hk:a.Act.Key.length≤20:=by
   rcases zdr ha with ⟨_,h⟩ | ⟨_,h⟩ | ⟨_,h,_⟩
   ·simp [h]
   ·exact h
   ·exact h
  have l5:=zq9 ha;have e3:zcl a.Act.Key=some (keyB a.Act,0):=zmt _ (by omega);rw [z3i (by omega)];simp only [bS];rw [e3];simp only [bS];rw [z1t (by omega)];simp only [bS];by_cases k4:a.Act.Kind=4
  ·have hv:okV a.Act.Value=true:=by
    rcases zdr ha with ⟨k,_⟩ | ⟨k,_⟩ | ⟨_,_,k⟩
    ·rw [k4] at k; simp at k
    ·rw [k4] at k; simp at k
    ·exact k
   have l6:=zq1 hv hI;rw [if_pos (by simpa using k4),if_pos k4,z16p _ hI ht,hv];simp only [bS,if_true];rw [z1t (by simp only [List.length_append]; omega)];simp only [bS]
  ·rw [if_neg (by simpa using k4),if_neg k4]
theorem ztz (a:z08) (h:z4l a=0) (hI:inI a.Act.Value.Num):z60 a=some (msg a):=by
 obtain ⟨h1,h2,h3⟩:=z85 h;have ha:=zl2 h3;have l1:=z0u a.Author.toNat (by have:=UInt32.toNat_lt a.Author; omega);have l2:=z0u a.Preds.length (by omega);have l3:=z0u a.Stamp.toNat (UInt64.toNat_lt _);have l4:=zko a.Preds;have hl:=zqb h;unfold z60;rw [z8i];simp only [bS];rw [z1t (by simp; omega),z126 _ (by omega)];simp only [bS];rw [z1t (by simp; omega),z8i];simp only [bS];rw [z1t (by simp; omega)];simp only [bS]
 rw [z1t (by simp; omega)];simp only [bS];have e2:[111]++z1m a.Author.toUInt64.toNat++(z1m a.Preds.length++zob a.Preds)++z1m a.Stamp.toNat++[a.Act.Kind]=zvp a:=by
  unfold zvp;simp only [List.append_assoc,UInt32.toNat_toUInt64]
 rw [e2];unfold msg;by_cases k1:a.Act.Kind=1
 ·rw [if_neg (by simp [k1]),if_pos k1];simp only [bS];rw [k1]; rfl
 ·rw [if_pos (by simpa using k1),if_neg k1];have hk:a.Act.Key.length≤20:=by
   rcases zdr ha with ⟨_,h⟩ | ⟨_,h⟩ | ⟨_,h,_⟩
   ·simp [h]
   ·exact h
   ·exact h
  have l5:=zq9 ha;have e3:z8c a.Act.Key=some (keyB a.Act):=zpd _ (by omega);rw [z3i (by omega)];simp only [bS];rw [e3];simp only [bS];rw [z1t (by omega)];simp only [bS];by_cases k4:a.Act.Kind=4
  ·have hv:okV a.Act.Value=true:=by
    rcases zdr ha with ⟨k,_⟩ | ⟨k,_⟩ | ⟨_,_,k⟩
    ·rw [k4] at k; simp at k
    ·rw [k4] at k; simp at k
    ·exact k
   have l6:=zq1 hv hI;rw [if_pos (by simpa using k4),if_pos k4,z10k _ hI hv];simp only [bS];rw [z1t (by simp only [List.length_append]; omega)];simp only [bS]
  ·rw [if_neg (by simpa using k4),if_neg k4]
theorem zrr (a:z08) (h:z4l a=0) (hI:inI a.Act.Value.Num) (ht:a.Act.Value.Text.length≤9223372036854775807):zd6 a=some (zed a,0):=by
 have hm:=zkz h hI;have l1:=z0u a.Sig.E.toNat (by have:=UInt32.toNat_lt a.Sig.E; omega);have l2:=z0u a.Sig.S.toNat (by have:=UInt32.toNat_lt a.Sig.S; omega);unfold zd6;rw [zhr _ ht,h];simp only [bS];rw [if_neg (by simp),zpg _ h hI ht,z71,z71];simp only [bS,UInt32.toNat_toUInt64]
 rw [zrt _ (by simp) (by
  intro b hb;simp only [List.mem_cons,List.not_mem_nil,or_false] at hb
  rcases hb with rfl | rfl | rfl <;> omega)]
 simp only [bS,List.flatten_cons,List.flatten_nil,List.append_nil];rfl
theorem zts (a:z08) (h:z4l a=0) (hI:inI a.Act.Value.Num):zb0 a=some (zed a):=by
 have hm:=zkz h hI;have l1:=z0u a.Sig.E.toNat (by have:=UInt32.toNat_lt a.Sig.E; omega);have l2:=z0u a.Sig.S.toNat (by have:=UInt32.toNat_lt a.Sig.S; omega);unfold zb0 zed;rw [ztz _ h hI,z8i,z8i];simp only [bS,UInt32.toNat_toUInt64];rw [z1t (by omega)];simp only [bS];rw [z1t (by simp only [List.length_append]; omega)];simp only [bS,List.append_assoc]
def z32:V3:=Vector.replicate 32 0
theorem zxb (a:z08) (hI:inI a.Act.Value.Num) (ht:a.Act.Value.Text.length≤9223372036854775807):z10r a=some (if z4l a=0 then (sha (zed a),0) else (z32,z4l a)):=by
 unfold z10r;by_cases h:z4l a=0
 ·have:=zt9 h hI
  rw [zrr a h hI ht];simp only [bS];rw [if_neg (by simp),z16q _ (by omega),if_pos h];simp only [bS]
 ·have e:zd6 a=some ([],z4l a):=by
   unfold zd6;rw [zhr _ ht];simp only [bS];rw [if_pos (by simpa using h)]
  rw [e];simp only [bS];rw [if_pos (by simpa using h),if_neg h]; rfl
theorem zqa (a:z08) (h:z4l a=0) (hI:inI a.Act.Value.Num):z3p a=some (sha (zed a)):=by
 have:=zt9 h hI
 unfold z3p;rw [zts a h hI];simp only [bS];rw [z162 _ (by omega)];simp only [bS]
def zg8 (a:z08):Int:=if z4l a=0 then (if zo3 a.Author (msg a) a.Sig then 0 else 22) else z4l a
theorem znc (a:z08) (hI:inI a.Act.Value.Num) (ht:a.Act.Value.Text.length≤9223372036854775807):zhd a=some (zg8 a):=by
 unfold zhd zg8;rw [zhr _ ht];simp only [bS];by_cases h:z4l a=0
 ·have:=zkz h hI
  rw [if_neg (by simp [h]),if_pos h,zpg a h hI ht];simp only [bS];rw [zzm _ _ _ (zrz (z85 h).2.2) (by omega)];simp only [bS]
 ·rw [if_pos (by simpa using h),if_neg h]
theorem zlk (a:z08) (hI:inI a.Act.Value.Num) (ht:a.Act.Value.Text.length≤9223372036854775807):z5p a=some (zg8 a):=by
 unfold z5p zg8 zcd;rw [zo0 _ ht];simp only [bS];by_cases h:z4l a=0
 ·have:=zkz h hI
  rw [if_neg (by simp [h]),if_pos h,ztz a h hI];simp only [bS];rw [z112 _ _ _ (zrz (z85 h).2.2) (by omega)];simp only [bS]
  cases zo3 a.Author (msg a) a.Sig <;> rfl
 ·rw [if_pos (by simpa using h),if_neg h]
end
section
open Go
def zl5 (k:UInt32) (m:List UInt8):UInt32:=(zqg (sha (([110]++four k)++m)) 8 % 500000002).toUInt32+1
theorem q64 (x y:UInt64) (h:x.toNat * y.toNat<18446744073709551616):(x * y % 500000003).toNat=x.toNat * y.toNat % gq:=by
 rw [UInt64.toNat_mod,UInt64.toNat_mul,Nat.mod_eq_of_lt h];rfl
theorem z158 (r y:UInt32) (m:List UInt8):(zx5 r y m).toNat<gq:=by
 unfold zx5;rw [UInt64.toNat_toUInt32,UInt64.toNat_mod];exact Nat.lt_of_le_of_lt (Nat.mod_le _ _) (Nat.mod_lt _ (by decide))
def zz3 (k:UInt32) (m:List UInt8):z09 :=
 ⟨zx5 (u32 (4 ^ (zl5 k m).toNat % gp)) (u32 (4 ^ k.toNat % gp)) m,u32 (((zl5 k m).toNat+(zx5 (u32 (4 ^ (zl5 k m).toNat % gp)) (u32 (4 ^ k.toNat % gp)) m).toNat * k.toNat % gq) % gq)⟩
theorem z12g {n:Nat}:4 ^ (n % gq) % gp=4 ^ n % gp:=by
 have:=zmu zv3 (n / gq) (n % gq)
 rw [Nat.div_add_mod] at this;exact this.symm
theorem z17y {k:UInt32} (h2:k.toNat<gq) (m:List UInt8) (hK:(zl5 k m).toNat<gq):zo3 (u32 (4 ^ k.toNat % gp)) m (zz3 k m)=true:=by
 have hg:∀ n,n % gq<gp:=fun n=>Nat.lt_trans (Nat.mod_lt _ (by decide)) (by decide);have hp:∀ n,n % gp<gp:=fun n=>Nat.mod_lt _ (by decide);have hE:=z158 (u32 (4 ^ (zl5 k m).toNat % gp)) (u32 (4 ^ k.toNat % gp)) m;have hr:sigR (u32 (4 ^ k.toNat % gp)) (zz3 k m)=u32 (4 ^ (zl5 k m).toNat % gp):=by
  unfold sigR zz3;generalize (zx5 (u32 (4 ^ (zl5 k m).toNat % gp)) (u32 (4 ^ k.toNat % gp)) m).toNat=E at *;generalize (zl5 k m).toNat=K at *;generalize k.toNat=k at *;rw [z2w (hg _),z2w (hp _),Nat.add_mod_mod,z12g,zj7,← Nat.mul_mod,← Nat.pow_add]
  have:K+E * k+k * (gq - E)=gq * k+K:=by
   have e:k * (gq - E)+k * E=k * gq:=by rw [← Nat.mul_add,Nat.sub_add_cancel (Nat.le_of_lt hE)]
   rw [Nat.mul_comm E k,Nat.mul_comm gq k,← e]; omega
  rw [this,zmu zv3]
 unfold zo3;rw [hr];have e1:zcg (zz3 k m).E=true:=decide_eq_true hE
 have e2:zcg (zz3 k m).S=true:=decide_eq_true (by
  show (u32 _).toNat<gq
  rw [z2w (hg _)]; exact Nat.mod_lt _ (by decide))
 rw [e1,e2];simp only [Bool.true_and];show (_==_)=true;simp [zz3]
def au (o:z08) (y:UInt32):z08:=⟨y,o.Preds,o.Stamp,o.Act,⟨0,0⟩⟩
def zx4 (k:UInt32) (o:z08):z08:=⟨u32 (4 ^ k.toNat % gp),o.Preds,o.Stamp,o.Act,zz3 k (msg (au o (u32 (4 ^ k.toNat % gp))))⟩
theorem zyd (a b:z08) (h1:a.Author=b.Author) (h2:a.Preds=b.Preds) (h3:a.Stamp=b.Stamp) (h4:a.Act=b.Act):msg a=msg b:=by
 unfold msg zvp;rw [h1,h2,h3,h4]
theorem z129 {k:UInt32} (h2:k.toNat<gq) (o:z08) (hc:z4l (au o (u32 (4 ^ k.toNat % gp)))=0) (hK:(zl5 k (msg (au o (u32 (4 ^ k.toNat % gp))))).toNat<gq):zg8 (zx4 k o)=0:=by
 have hs:=z17y h2 _ hK;have hx:zcg (zx4 k o).Sig.E=true∧zcg (zx4 k o).Sig.S=true:=by
  have:=hs
  unfold zo3 at this;simp only [Bool.and_eq_true] at this;exact ⟨this.1,this.2.1⟩
 have hc2:z4l (zx4 k o)=0:=by
  obtain ⟨a1,a2,a3⟩:=z85 hc;unfold zet at a3;simp only [Bool.and_eq_true] at a3;unfold z4l;rw [if_neg (by exact Nat.not_lt.2 a1),if_neg (by rw [show (zx4 k o).Preds=(au o (u32 (4 ^ k.toNat % gp))).Preds from rfl,a2]; simp),if_pos]
  unfold zet;simp only [Bool.and_eq_true];exact ⟨a3.1,a3.2.1,a3.2.2.1,hx.1,hx.2⟩
 have hm:msg (zx4 k o)=msg (au o (u32 (4 ^ k.toNat % gp))):=zyd _ _ rfl rfl rfl rfl;have ha:(zx4 k o).Author=u32 (4 ^ k.toNat % gp):=rfl;have hg:(zx4 k o).Sig=zz3 k (msg (au o (u32 (4 ^ k.toNat % gp)))):=rfl;unfold zg8;rw [if_pos hc2,hm,ha,hg,if_pos hs]
end
section
open Go
@[irreducible] def idv (s:O8):V3:=wr (toV s)
theorem zto {b:List UInt8} {s:O8} (h:zwb b s=true):sha b=idv s:=by rw [idv]; exact z16c h
def wds (s:O8):List UInt32:=[s.1,s.2.1,s.2.2.1,s.2.2.2.1,s.2.2.2.2.1,s.2.2.2.2.2.1,s.2.2.2.2.2.2.1,s.2.2.2.2.2.2.2]
@[irreducible] def wrL (s:O8):List UInt8:=(List.range 32).map fun i=>(z4h ((wds s).getD (i / 4) 0) (24 - 8 * (i % 4))).toUInt8
theorem zwx {α:Type} (n:Nat) (g:Nat→α):(Vector.ofFn (fun i:Fin n=>g i.val)).toList=(List.range n).map g:=by
 apply List.ext_getElem
 ·simp
 ·intro i h1 h2
  simp
theorem z13z (h:Vector UInt32 8):(wr h).toList=(List.range 32).map fun i=>(z4h (h.toList.getD (i / 4) 0) (24 - 8 * (i % 4))).toUInt8:=by
 rw [← zwx 32 (fun i=>(z4h (h.toList.getD (i / 4) 0) (24 - 8 * (i % 4))).toUInt8)]
 have:∀ i (hi:i / 4<8),h[i / 4]=h.toList.getD (i / 4) 0:=fun i hi=>by
  rw [List.getD_eq_getElem?_getD,List.getElem?_eq_getElem (by simpa using hi)]
  simp
 unfold wr;exact congrArg (fun f=>(Vector.ofFn f).toList) (funext fun i=>by rw [this i.val (by omega)])
theorem zml (s:O8):(idv s).toList=wrL s:=by
 rw [idv,z13z,wrL];rfl
def dig:Nat→Nat→List UInt8
 | 0,_=>[]
 | f+1,n=>if n=0 then [] else UInt8.ofNat n::dig f (n / 256)
theorem z138:∀ (f n:Nat),n<256 ^ f→z3e n=dig f n
 | 0,n,h=>by
  have:n=0:=by simpa using h
  subst this; exact ze1
 | f+1,n,h=>by
  rw [dig];by_cases hn:n=0
  ·rw [if_pos hn,hn,ze1]
  ·rw [if_neg hn,zhp n hn,z138 f (n / 256) (by rw [Nat.pow_succ] at h; omega)]
def numK (n:Nat):List UInt8:=if n≤247 then [UInt8.ofNat n] else UInt8.ofNat (247+(dig 8 n).length)::(dig 8 n).reverse
theorem znv (n:Nat) (h:n<256 ^ 8):z1m n=numK n:=by
 unfold z1m numK;rw [z138 8 n h]
def numl (l:List UInt8):Nat→Nat
 | 0=>0
 | i+1=>256 * numl l i+(l.getD i 0).toNat
theorem zuc (d:V3):∀ i,i≤8→(zqg d i).toNat=numl d.toList i
 | 0,_=>rfl
 | i+1,h=>by
  have ih:=zuc d i (by omega);have hl:=zt5 d i (by omega);have hy:=UInt8.toNat_lt (d.toList.getD i 0);have hp:256 ^ i≤256 ^ 7:=Nat.pow_le_pow_right (by omega) (by omega);have e7:(256:Nat) ^ 7=72057594037927936:=rfl;rw [zqg,UInt64.toNat_add,UInt64.toNat_mul];have e1:((d.toList.getD i 0).toUInt64).toNat=(d.toList.getD i 0).toNat:=by simp
  have e2:(256:UInt64).toNat=256:=rfl;rw [e1,e2,Nat.mod_eq_of_lt (a:=256 * (zqg d i).toNat) (by omega),Nat.mod_eq_of_lt (by omega),ih];rfl
def num8 (s:O8):Nat:=numl (wrL s) 8
theorem zxc (s:O8):(zqg (idv s) 8).toNat=num8 s:=by rw [zuc _ 8 (Nat.le_refl _),zml]; rfl
def zsh:List O8→Bool
 | a::b::l=>decide (nk (wrL a)<nk (wrL b))&&zsh (b::l)
 | _=>true
theorem z12t (s:O8):kd (idv s)=nk (wrL s):=by unfold kd; rw [zml]
theorem zmb:∀ l:List O8,z8b (l.map idv)=zsh l
 | []=>by rw [List.map_nil,z8b,zsh] <;> simp
 | [a]=>by rw [List.map_cons,List.map_nil,z8b,zsh] <;> simp
 | a::b::l=>by
  have ih:=zmb (b::l);simp only [List.map_cons] at ih ⊢;rw [z8b,zsh,ih,zvq,z12t,z12t];generalize nk (wrL a)=x;generalize nk (wrL b)=y;by_cases h:x<y
  ·rw [if_pos h,decide_eq_true h]; rfl
  ·rw [if_neg h,decide_eq_false h]
   split <;> rfl
def zgp (y:UInt32) (st:UInt64) (P:List O8) (sg:z09):z08:=⟨y,P.map idv,st,⟨1,[],⟨0,0,0,[]⟩⟩,sg⟩
def zxh (y st:Nat) (P:List O8):List UInt8:=[111]++(numK y++((numK P.length++P.flatMap wrL)++(numK st++[1])))
theorem zv9:∀ P:List O8,zob (P.map idv)=P.flatMap wrL
 | []=>rfl
 | a::l=>by
  have:=zv9 l
  unfold zob at this ⊢;rw [List.map_cons,List.flatMap_cons,List.flatMap_cons,this,zml]
theorem zxa (y:UInt32) (st:UInt64) (P:List O8) (sg:z09) (hP:P.length≤4):msg (zgp y st P sg)=zxh y.toNat st.toNat P:=by
 have hy:=UInt32.toNat_lt y;have hs:=UInt64.toNat_lt st;unfold msg;rw [if_pos (show (zgp y st P sg).Act.Kind=1 from rfl)];unfold zvp zxh;show [111]++(z1m y.toNat++((z1m (P.map idv).length++zob (P.map idv))++(z1m st.toNat++[1])))=_;rw [List.length_map,zv9,znv _ (by omega),znv P.length (by omega),znv st.toNat (by omega)]
def opIs (k y K r E S st:Nat) (P:List O8) (h1 h2 h3:O8):Bool :=
 decide (1≤k)&&(decide (k<gq)&&(decide (st≤1000000000000)&&(decide (P.length≤4)&&(zsh P&&(pmod 30 4 k gp==y &&
 (zwb (([110]++four (UInt32.ofNat k))++zxh y st P) h1&&(num8 h1 % 500000002+1==K&&(pmod 30 4 K gp==r &&
 (zwb ((([99]++four (UInt32.ofNat r))++four (UInt32.ofNat y))++zxh y st P) h2&&(num8 h2 % gq==E&&((K+E * k % gq) % gq==S &&
 zwb (zxh y st P++(numK E++numK S)) h3)))))))))))
theorem of32 {n:Nat} (h:n<gq):(UInt32.ofNat n).toNat=n:=z2w (Nat.lt_trans h (by decide))
def zzo (st:Nat) (P:List O8):z08:=⟨0,P.map idv,UInt64.ofNat st,⟨1,[],⟨0,0,0,[]⟩⟩,⟨0,0⟩⟩
theorem zp7 {k y K r E S st:Nat} {P:List O8} {h1 h2 h3:O8} (h:opIs k y K r E S st P h1 h2 h3=true) :
  1≤(UInt32.ofNat k).toNat∧(UInt32.ofNat k).toNat<gq∧z4l (au (zzo st P) (u32 (4 ^ (UInt32.ofNat k).toNat % gp)))=0∧(zl5 (UInt32.ofNat k) (msg (au (zzo st P) (u32 (4 ^ (UInt32.ofNat k).toNat % gp))))).toNat<gq ∧
  zx4 (UInt32.ofNat k) (zzo st P)=zgp (u32 y) (UInt64.ofNat st) P ⟨u32 E,u32 S⟩∧sha (zed (zgp (u32 y) (UInt64.ofNat st) P ⟨u32 E,u32 S⟩))=idv h3:=by
 unfold opIs at h;simp only [Bool.and_eq_true,decide_eq_true_eq,beq_iff_eq] at h;obtain ⟨k1,k2,st1,p4,pi,hy,s1,hK,hr,s2,hE,hS,s3⟩:=h;have g1:∀ n,n % gp<gp:=fun n=>Nat.mod_lt _ (by decide);have g2:∀ n,n % gq<gq:=fun n=>Nat.mod_lt _ (by decide);have q30:gq<2 ^ 30:=by decide
 rw [zqc 30 4 k gp (by omega)] at hy;have hKq:K<gq:=by
  have:=Nat.mod_lt (num8 h1) (show 0<500000002 by decide)
  show K<500000003;omega
 rw [zqc 30 4 K gp (by omega)] at hr;have yl:y<gp:=by rw [← hy]; exact g1 _
 have rl:r<gp:=by rw [← hr]; exact g1 _
 have El:E<gq:=by rw [← hE]; exact g2 _
 have Sl:S<gq:=by rw [← hS]; exact g2 _
 have ek:=of32 k2;have est:(UInt64.ofNat st).toNat=st:=by rw [UInt64.toNat_ofNat',Nat.mod_eq_of_lt (by omega)]
 have ey:u32 (4 ^ (UInt32.ofNat k).toNat % gp)=u32 y:=by rw [ek,hy]
 have eau:au (zzo st P) (u32 (4 ^ (UInt32.ofNat k).toNat % gp))=zgp (u32 y) (UInt64.ofNat st) P ⟨0,0⟩:=by rw [ey]; rfl
 have em:msg (au (zzo st P) (u32 (4 ^ (UInt32.ofNat k).toNat % gp)))=zxh y st P:=by rw [eau,zxa _ _ _ _ p4,z2w yl,est]
 have eK:zl5 (UInt32.ofNat k) (zxh y st P)=u32 K:=by
  apply UInt32.toNat_inj.1
  unfold zl5;rw [zto s1,z2w (Nat.lt_trans hKq (by decide)),UInt32.toNat_add,UInt64.toNat_toUInt32,UInt64.toNat_mod];rw [zxc h1, show (500000002:UInt64).toNat=500000002 from rfl, show (1:UInt32).toNat=1 from rfl]
  have:=Nat.mod_lt (num8 h1) (show 0<500000002 by decide)
  rw [Nat.mod_eq_of_lt (a:=num8 h1 % 500000002) (by omega),Nat.mod_eq_of_lt (by omega),hK]
 have eKn:(u32 K).toNat=K:=z2w (Nat.lt_trans hKq (by decide));have eE:zx5 (u32 r) (u32 y) (zxh y st P)=u32 E:=by
  apply UInt32.toNat_inj.1
  unfold zx5
  have:sha ((([99]++four (u32 r))++four (u32 y))++zxh y st P)=idv h2:=zto s2
  rw [this,z2w (Nat.lt_trans El (by decide)),UInt64.toNat_toUInt32,UInt64.toNat_mod];rw [zxc h2, show (500000003:UInt64).toNat=gq from rfl,hE,Nat.mod_eq_of_lt (by have:E<500000003:=El; omega)]
 have eS:zz3 (UInt32.ofNat k) (zxh y st P)=⟨u32 E,u32 S⟩:=by
  unfold zz3;rw [eK,eKn,hr,ey,eE,z2w (Nat.lt_trans El (by decide)),ek,hS]
 have eO:zx4 (UInt32.ofNat k) (zzo st P)=zgp (u32 y) (UInt64.ofNat st) P ⟨u32 E,u32 S⟩:=by
  unfold zx4;rw [em,eS,ey];rfl
 have hc:z4l (zgp (u32 y) (UInt64.ofNat st) P ⟨0,0⟩)=0:=by
  unfold z4l;rw [if_neg (by show ¬ 4<(P.map idv).length; rw [List.length_map]; omega),if_neg (by show ¬ z8b (P.map idv)=false; rw [zmb,pi]; simp),if_pos]
  unfold zet;have hg:inG (u32 y).toNat:=by rw [z2w yl,← hy]; exact zqh zv3 k
  rw [decide_eq_true (show inG (zgp (u32 y) (UInt64.ofNat st) P ⟨0,0⟩).Author.toNat from hg)]
  have hst:decide (1000000000000<(zgp (u32 y) (UInt64.ofNat st) P ⟨0,0⟩).Stamp)=false:=decide_eq_false (by
   show ¬ 1000000000000<UInt64.ofNat st
   rw [UInt64.lt_iff_toNat_lt,est, show (1000000000000:UInt64).toNat=1000000000000 from rfl]; omega)
  rw [hst];rfl
 refine ⟨by rw [ek]; exact k1, by rw [ek]; exact k2, by rw [eau]; exact hc, by rw [em,eK,eKn]; exact hKq,eO,?_⟩;unfold zed;rw [zxa _ _ _ _ p4,z2w yl,est];show sha (zxh y st P++(z1m (u32 E).toNat++z1m (u32 S).toNat))=_;have e8:(256:Nat) ^ 8=18446744073709551616:=rfl;have El':E<500000003:=El;have Sl':S<500000003:=Sl;rw [z2w (Nat.lt_trans El (by decide)),z2w (Nat.lt_trans Sl (by decide)),znv E (by omega),znv S (by omega)]
 exact zto s3
theorem zvo {k y K r E S st:Nat} {P:List O8} {h1 h2 h3:O8} (h:opIs k y K r E S st P h1 h2 h3=true):zg8 (zgp (u32 y) (UInt64.ofNat st) P ⟨u32 E,u32 S⟩)=0:=by
 obtain ⟨a1,a2,a3,a4,a5,a6⟩:=zp7 h
 have:=z129 a2 (zzo st P) a3 a4
 rw [a5] at this;exact this
end
section
open Go
set_option maxRecDepth 100000
def ia:O8:=(727833617,618775750,695531208,101739436,2725571842,2693270978,263691846,2584927200)
def ib:O8:=(400203308,4131279567,1074384759,846851925,1258488725,1126849485,1154170306,3451253236)
def ic:O8:=(2818343018,2877535596,3914054038,88197170,1980849476,1751699523,2103884178,1941648074)
def id4:O8:=(1890535272,1877151526,552440863,2223620819,3196442782,3138263745,1557444304,2089109622)
theorem runA:opIs 5 1024 308783706 573768374 157360651 95586955 1 [] (2294472810,1216304513,3461726050,1917625866,2748044446,653205376,2897610402,1750938383) (2351432562,3213823669,1493543547,2826407571,1843128997,2312903122,3280519251,4273593694) ia=true:=by decide +kernel
theorem runB:opIs 5 1024 13634344 854844481 59285983 310064259 2 [ia] (2426339676,1790596317,1372559080,952767307,3477896008,2613896522,695327340,2665938603) (1539123128,3944964876,357956654,3210067971,1421329026,2032704668,1254932006,3563857620) ib=true:=by decide +kernel
theorem runC:opIs 5 1024 363404228 898779824 10477285 415790653 3 [ib] (662027585,112091327,3056115106,695732156,3017888495,33768376,3045777715,3164386808) (802882970,35264633,1269477485,3359315632,3036922801,1806170643,1716263392,1838284017) ic=true:=by decide +kernel
theorem runD:opIs 5 1024 110598465 164008916 271637721 468787064 9 [ia] (410994302,1739079394,2347473965,568104762,867419784,1787081624,3952630068,709001791) (2032306916,2989168725,923796418,768662720,2549549315,444530440,1397513581,1968622027) id4=true:=by decide +kernel
def xA:z08:=zgp (u32 1024) (UInt64.ofNat 1) [] ⟨u32 157360651,u32 95586955⟩
def xB:z08:=zgp (u32 1024) (UInt64.ofNat 2) [ia] ⟨u32 59285983,u32 310064259⟩
def xC:z08:=zgp (u32 1024) (UInt64.ofNat 3) [ib] ⟨u32 10477285,u32 415790653⟩
def xD:z08:=zgp (u32 1024) (UInt64.ofNat 9) [ia] ⟨u32 271637721,u32 468787064⟩
end
section
open Go
theorem z13x {k:UInt32} (h1:1≤k.toNat) (h2:k.toNat<gq):z92 k=some 0:=by
 have h2:k.toNat<500000003:=h2;have e1:(k==0)=false:=by
  rw [beq_eq_false_iff_ne];intro h;rw [h] at h1;simp at h1
 have e2:decide (500000003≤k.toUInt64)=false:=decide_eq_false (by
  rw [UInt64.le_iff_toNat_le, show (500000003:UInt64).toNat=500000003 from rfl]
  simp; omega)
 unfold z92;rw [e1,e2];rfl
theorem zu1 (k:UInt32):z5n k=some (u32 (4 ^ k.toNat % gp)):=by
 unfold z5n zc7;rw [zk2];simp [bS]
theorem zz0 (k:UInt32) (m:List UInt8) (h:m.length≤9991):zb6 k m=some (zl5 k m):=by
 unfold zb6;rw [zt4];simp only [bS];rw [z1t (by simp [four])];simp only [bS];rw [z1t (by simp [four]; omega)];simp only [bS];rw [zyk _ (by simp [four]; omega)];rfl
theorem zz6 (x y:UInt32):zai x y=some (u32 (x.toNat * y.toNat % gq)):=by
 have hx:=UInt32.toNat_lt x;have hy:=UInt32.toNat_lt y;have hp:x.toNat * y.toNat≤4294967295 * 4294967295:=Nat.mul_le_mul (by omega) (by omega);have e:=q64 x.toUInt64 y.toUInt64 (by simp only [UInt32.toNat_toUInt64]; omega);simp only [UInt32.toNat_toUInt64] at e;unfold zai;rw [to32 _ (by rw [e]; exact Nat.lt_trans (Nat.mod_lt _ (by decide)) (by decide)),e];rfl
theorem zxl (x y:UInt32):zcq x y=some (u32 ((x.toNat+y.toNat) % gq)):=by
 have hx:=UInt32.toNat_lt x;have hy:=UInt32.toNat_lt y;have e:((x.toUInt64+y.toUInt64) % 500000003).toNat=(x.toNat+y.toNat) % gq:=by
  rw [UInt64.toNat_mod,UInt64.toNat_add];simp only [UInt32.toNat_toUInt64];rw [Nat.mod_eq_of_lt (a:=x.toNat+y.toNat) (by omega)];rfl
 unfold zcq;rw [to32 _ (by rw [e]; exact Nat.lt_trans (Nat.mod_lt _ (by decide)) (by decide)),e];rfl
theorem zwv (k:UInt32) (m:List UInt8) (h:m.length≤9991):zac k m=some (zz3 k m):=by
 have hg:∀ n,n % gq<gp:=fun n=>Nat.lt_trans (Nat.mod_lt _ (by decide)) (by decide);unfold zac;rw [zz0 k m h];simp only [bS];rw [zu1,zu1];simp only [bS];rw [zhk _ _ _ h];simp only [bS];rw [zz6];simp only [bS];rw [zxl,z2w (hg _)];rfl
theorem z12c {k:UInt32} (h1:1≤k.toNat) (h2:k.toNat<gq) (o:z08) (hc:z4l (au o (u32 (4 ^ k.toNat % gp)))=0) (hI:inI o.Act.Value.Num) (ht:o.Act.Value.Text.length≤9223372036854775807):z49 k o=some (zx4 k o,0):=by
 have hp:=(z85 hc).1;have hl:=zkz hc hI;have hp:o.Preds.length≤4:=hp;have c1:z4f (⟨u32 (4 ^ k.toNat % gp),o.Preds,o.Stamp,o.Act,⟨0,0⟩⟩:z08)=some 0:=(zo0 (au o (u32 (4 ^ k.toNat % gp))) ht).trans (by rw [hc]);have t1:z60 (⟨u32 (4 ^ k.toNat % gp),o.Preds,o.Stamp,o.Act,⟨0,0⟩⟩:z08)=some (msg (au o (u32 (4 ^ k.toNat % gp)))):=ztz (au o (u32 (4 ^ k.toNat % gp))) hc hI;unfold z49;rw [z13x h1 h2];simp only [bS]
 rw [if_neg (by simp)];unfold zee;simp only [bS];unfold z9u;rw [z1t (by simp; omega),zu1];simp only [bS,List.nil_append];rw [c1];simp only [bS];rw [if_neg (by simp),t1];simp only [bS];rw [zwv k _ (by omega)];rfl
theorem zuo {k y K r E S st:Nat} {P:List O8} {h1 h2 h3:O8} (h:opIs k y K r E S st P h1 h2 h3=true):z49 (UInt32.ofNat k) (zzo st P)=some (zgp (u32 y) (UInt64.ofNat st) P ⟨u32 E,u32 S⟩,0):=by
 obtain ⟨a1,a2,a3,a4,a5,a6⟩:=zp7 h
 have:=z12c a1 a2 (zzo st P) a3 (by show inI 0; unfold inI; omega) (by show ([]:List UInt8).length≤_; simp)
 rw [a5] at this;exact this
end
section
open Go
theorem z9l {α:Type} [DecidableEq α]:∀ (p q:List α),p.Nodup→(∀ x∈p,x∈q)→p.length≤q.length
 | [],_,_,_=>by simp
 | a::p,q,h,hs=>by
  have ha:=hs a (by simp);have hn:=List.nodup_cons.1 h
  have:=z9l p (q.erase a) hn.2 (fun x hx=>by
   have hne:x≠a:=fun e=>hn.1 (e ▸ hx)
   exact (List.mem_erase_of_ne hne).2 (hs x (by simp [hx])))
  rw [List.length_erase_of_mem ha] at this;have hp:=List.length_pos_of_mem ha;simp only [List.length_cons]; omega
theorem znh {α:Type} [DecidableEq α] {p q:List α} (h1:p.Nodup) (h2:q.Nodup) (h:∀ x,x∈p↔x∈q):p.length=q.length :=
 Nat.le_antisymm (z9l p q h1 fun x hx=>(h x).1 hx) (z9l q p h2 fun x hx=>(h x).2 hx)
abbrev ID:=V3
theorem zfr {l:List ID} (h:z8b l=true) {i j:Nat} (hi:i<l.length) (hj:j<l.length) (hij:i<j):kd l[i]<kd l[j] :=
 List.pairwise_iff_getElem.1 ((z8m l).1 h) i j hi hj hij
theorem z10v {l:List ID} (h:z8b l=true) {i j:Nat} (hi:i<l.length) (hj:j<l.length) (e:l[i]=l[j]):i=j:=by
 rcases Nat.lt_trichotomy i j with c | c | c
 ·have:=zfr h hi hj c; rw [e] at this; omega
 ·exact c
 ·have:=zfr h hj hi c; rw [e] at this; omega
theorem z99 {l:List ID} (h:z8b l=true):l.Nodup:=by
 have:=(z8m l).1 h
 exact this.imp fun {a b} hab e=>by rw [e] at hab; omega
theorem z79 {l:List ID} (h:z8b l=true) {k:Nat} (hk:k<l.length):l.idxOf l[k]=k:=by
 have h1:l.idxOf l[k]<l.length:=List.idxOf_lt_length_of_mem (List.getElem_mem hk);exact z10v h h1 hk (by simp)
theorem z14j (s e:Nat) (h:s+e<9223372036854775807):w64 ((z8f (UInt64.ofInt (w64 ((s:Int)+(e:Int)))) 1).toNat:Int)=(((s+e) / 2:Nat):Int):=by
 rw [z18 (x:=(s:Int)+(e:Int)) (by omega) (by omega), show ((s:Int)+(e:Int))=((s+e:Nat):Int) by omega,ze4,zke (by omega)];rw [show min 1 64=1 from rfl,Nat.pow_one,z18 (by omega) (by omega)]
theorem zyj (l:List ID) (hl:l.length≤4611686018427387903) (hi:z8b l=true) (x:ID):∃ b:Int,iter (z0l l x) (0,(l.length:Int))=some b∧∃ k:Nat,b=(k:Int)∧k≤l.length∧(∀ i (h:i<l.length),i<k→kd l[i]<kd x)∧(∀ i (h:i<l.length),k≤i→kd x≤kd l[i]):=by
 refine zej (F:=z0l l x)
  (fun st=>∃ s e:Nat,st=((s:Int),(e:Int))∧s≤e∧e≤l.length∧(∀ i (h:i<l.length),i<s→kd l[i]<kd x)∧(∀ i (h:i<l.length),e≤i→kd x≤kd l[i]))
  (fun st=>st.2.toNat - st.1.toNat) _ ?_ _ ⟨0,l.length,rfl, by omega, by omega, fun i _ h=>by omega, fun i h h2=>by omega⟩
 rintro st ⟨s,e,rfl,h1,h2,h3,h4⟩
 by_cases hse:s<e
 ·right
  have hm:(s+e) / 2<l.length:=by omega
  have hF:z0l l x ((s:Int),(e:Int))=if decide (kd l[(s+e) / 2]<kd x) then some (.inr ((((s+e) / 2+1:Nat):Int),(e:Int))) else some (.inr ((s:Int),(((s+e) / 2:Nat):Int))):=by
   unfold z0l;simp only [];rw [if_pos (by simpa using hse),z14j _ _ (by omega)];simp only [bS];rw [z0g hm];simp only [bS];rw [zup];simp only [bS];rw [zs7,z0r (show (s+e) / 2<9223372036854775807 by omega)]
  by_cases hc:kd l[(s+e) / 2]<kd x
  ·rw [decide_eq_true hc,if_pos rfl] at hF;refine ⟨_,hF,⟨(s+e) / 2+1,e,rfl, by omega,h2, fun i h hi2=>?_,h4⟩, by simp; omega⟩;by_cases he:i=(s+e) / 2
   ·subst he; exact hc
   ·have:=zfr hi h hm (by omega); omega
  ·rw [decide_eq_false hc,if_neg (by simp)] at hF;refine ⟨_,hF,⟨s,(s+e) / 2,rfl, by omega, by omega,h3, fun i h hi2=>?_⟩, by simp; omega⟩;by_cases he:i=(s+e) / 2
   ·subst he; omega
   ·have:=zfr hi hm h (by omega); omega
 ·left
  refine ⟨(s:Int),?_,s,rfl, by omega,h3, fun i h hi2=>h4 i h (by omega)⟩;unfold z0l;simp only [];rw [if_neg (by simpa using hse)]
theorem z13q (l:List ID) (hl:l.length≤4611686018427387903) (hi:z8b l=true) (x:ID):∃ k:Nat,z0q l x=some ((k:Int),decide (x∈l))∧(x∈l→k=l.idxOf x∧k<l.length)∧k≤l.length:=by
 obtain ⟨b,h1,k,rfl,h2,h3,h4⟩:=zyj l hl hi x;unfold z0q;simp only [bS];rw [h1];simp only [bS];have hmem:x∈l→∃ h:k<l.length,l[k]=x:=fun hx=>by
  obtain ⟨i,hi1,rfl⟩:=List.getElem_of_mem hx;have a1:¬ i<k:=fun c=>by have:=h3 i hi1 c; omega
  by_cases a2:k=i
  ·subst a2; exact ⟨hi1,rfl⟩
  ·have hk:k<l.length:=by omega
   have:=h4 k hk (Nat.le_refl _)
   have:=zfr hi hk hi1 (by omega)
   omega
 by_cases hk:k<l.length
 ·rw [if_pos (by simpa using hk),z0g hk];simp only [bS];rw [zup];simp only [bS];rw [z16w];refine ⟨k,?_, fun hx=>?_, by omega⟩
  ·have:decide (l[k]=x)=decide (x∈l):=by
    rw [decide_eq_decide];exact ⟨fun e=>e ▸ List.getElem_mem hk, fun hx=>(hmem hx).2⟩
   rw [this]
  ·obtain ⟨h,e⟩:=hmem hx;subst e;exact ⟨(z79 hi h).symm,h⟩
 ·rw [if_neg (by simpa using hk)];refine ⟨k,?_, fun hx=>absurd (hmem hx).1 hk, by omega⟩;rw [decide_eq_false fun hx=>hk (hmem hx).1]
theorem zcb (g:z00) (hl:g.IDs.length≤4611686018427387903) (hi:z8b g.IDs=true) (x:ID):∃ k:Nat,zcs g x=some ((k:Int),decide (x∈g.IDs))∧(x∈g.IDs→k=g.IDs.idxOf x∧k<g.IDs.length)∧k≤g.IDs.length:=by
 obtain ⟨k,h1,h2,h3⟩:=z13q g.IDs hl hi x;refine ⟨k,?_,h2,h3⟩;unfold zcs;rw [h1];simp only [bS]
theorem zyn (l:List ID) (x:ID) (hl:l.length≤9223372036854775806):∀ (rest pre:List ID),l=pre++rest→∃ r:Sum Int Unit,iter (z90 l x) (pre.length:Int)=some r∧((r=.inr ()∧x∉rest)∨∃ i:Nat,r=.inl (i:Int)∧∃ h:i<l.length,l[i]=x)
 | [],pre,e=>by
  refine ⟨_,z1u ?_,.inl ⟨rfl, by simp⟩⟩;subst e;unfold z90;rw [if_neg (by simp)]
 | c::rest,pre,e=>by
  have hlen:pre.length<l.length:=by rw [e]; simp
  have hget:l[pre.length]'hlen=c:=by subst e; simp
  have hF:z90 l x (pre.length:Int)=if decide (c=x) then some (.inl (.inl (pre.length:Int))) else some (.inr ((pre.length+1:Nat):Int)):=by
   unfold z90;rw [if_pos (by simpa using hlen),z0g hlen,hget,z0r (by omega)];simp only [bS]
  by_cases hc:c=x
  ·rw [decide_eq_true hc,if_pos rfl] at hF;exact ⟨_,z1u hF,.inr ⟨pre.length,rfl,hlen, by rw [hget,hc]⟩⟩
  ·rw [decide_eq_false hc,if_neg (by simp)] at hF;obtain ⟨r,h1,h2⟩:=zyn l x hl rest (pre++[c]) (by simp [e]);simp only [List.length_append,List.length_cons,List.length_nil,Nat.zero_add] at h1;refine ⟨r, by rw [z26 hF]; exact h1,?_⟩;rcases h2 with ⟨h2,h3⟩ | h2
   ·exact .inl ⟨h2, by simp; exact ⟨fun e=>hc e.symm,h3⟩⟩
   ·exact .inr h2
theorem z14l (l:List ID) (x:ID) (hl:l.length≤9223372036854775806):∃ k:Int,z5l l x=some k∧((k = -1∧x∉l)∨∃ i:Nat,k=(i:Int)∧∃ h:i<l.length,l[i]=x):=by
 obtain ⟨r,h1,h2⟩:=zyn l x hl l [] rfl;unfold z5l;rw [show (0:Int)=(([]:List ID).length:Int) from rfl,h1];rcases h2 with ⟨rfl,h3⟩ | ⟨i,rfl,h3⟩
 ·exact ⟨-1,rfl,.inl ⟨rfl,h3⟩⟩
 ·exact ⟨(i:Int),rfl,.inr ⟨i,rfl,h3⟩⟩
theorem z16x (l:List ID) (x:ID) (hl:l.length≤9223372036854775806):∃ k:Int,z5l l x=some k∧decide (k<0)=!decide (x∈l):=by
 obtain ⟨k,h1,h2⟩:=z14l l x hl;refine ⟨k,h1,?_⟩;rcases h2 with ⟨rfl,h2⟩ | ⟨i,rfl,h,rfl⟩
 ·rw [decide_eq_false h2]; rfl
 ·rw [decide_eq_true (List.getElem_mem h),decide_eq_false (by omega)]; rfl
theorem zut (l:List ID) (p:List ID) (hl:l.length≤9223372036854775806) (hp:p.length≤9223372036854775806):∀ (rest pre:List ID),p=pre++rest→iter (z8a l p) (pre.length:Int)=some (if rest.all (fun x=>decide (x∈l)) then .inr () else .inl false)
 | [],pre,e=>by
  refine z1u ?_;subst e;unfold z8a
  simp
 | c::rest,pre,e=>by
  have hlen:pre.length<p.length:=by rw [e]; simp
  have hget:p[pre.length]'hlen=c:=by subst e; simp
  obtain ⟨k,k1,k2⟩:=z16x l c hl;have hF:z8a l p (pre.length:Int)=if decide (c∈l) then some (.inr ((pre.length+1:Nat):Int)) else some (.inl (.inl false)):=by
   unfold z8a;rw [if_pos (by simpa using hlen),z0g hlen,hget,z0r (by omega)];simp only [bS];rw [k1];simp only [bS];rw [k2]
   cases decide (c∈l) <;> rfl
  cases hc:decide (c∈l) with
  | false=>rw [hc] at hF; rw [z1u hF,List.all_cons,hc]; rfl
  | true =>
   rw [hc] at hF;rw [z26 hF];have ih:=zut l p hl hp rest (pre++[c]) (by simp [e]);simp only [List.length_append,List.length_cons,List.length_nil,Nat.zero_add] at ih;rw [ih,List.all_cons,hc,Bool.true_and]
theorem z13b (l p:List ID) (hl:l.length≤9223372036854775806) (hp:p.length≤9223372036854775806):z47 l p=some (p.all fun x=>decide (x∈l)):=by
 have h:=zut l p hl hp p [] rfl;unfold z47;rw [show (0:Int)=(([]:List ID).length:Int) from rfl,h]
 cases p.all fun x=>decide (x∈l) <;> rfl
theorem z11j (g:z00) (hl:g.IDs.length≤9223372036854775807):z5u (ρ:=Int) (iter (z9x g) 1)=fun k=>if z8b g.IDs then k () else some 32:=by
 have key:∀ (n i:Nat),g.IDs.length - i=n→1≤i→i≤g.IDs.length→iter (z9x g) (i:Int)=some (if z8b (g.IDs.drop (i - 1)) then .inr () else .inl 32):=by
  intro n
  induction n with
  | zero =>
   intro i hn h1 hi;have h:=znu g.IDs hl 0 i hn h1 hi;have e:g.IDs.drop (i - 1)=[g.IDs[i - 1]'(by omega)]:=by
    rw [List.drop_eq_getElem_cons (by omega),List.drop_eq_nil_of_le (by omega)]
   rw [e];refine z1u ?_;unfold z9x;rw [if_neg (by simp; omega)];simp [z8b]
  | succ n ih =>
   intro i hn h1 hi;have hlt:i<g.IDs.length:=by omega
   have e:g.IDs.drop (i - 1)=g.IDs[i - 1]::g.IDs[i]::g.IDs.drop (i+1):=by
    rw [List.drop_eq_getElem_cons (by omega), show i - 1+1=i by omega,List.drop_eq_getElem_cons hlt]
   have e':g.IDs.drop (i+1 - 1)=g.IDs[i]::g.IDs.drop (i+1):=by rw [Nat.add_sub_cancel,List.drop_eq_getElem_cons hlt]
   have hF:z9x g (i:Int)=if decide (0≤Lib.compareBytes (g.IDs[i - 1]).toList (g.IDs[i]).toList) then some (.inl (.inl 32)) else some (.inr ((i+1:Nat):Int)):=by
    unfold z9x;rw [if_pos (by simp; omega),z18 (by omega) (by omega), show ((i:Int) - 1)=((i - 1:Nat):Int) by omega];simp only [z0g hlt,z0g (show i - 1<g.IDs.length by omega),bs,zsz,z0r (show i<9223372036854775807 by omega)]
   rw [e,z8b]
   cases hc:decide (0≤Lib.compareBytes (g.IDs[i - 1]).toList (g.IDs[i]).toList) with
   | true=>rw [hc] at hF; rw [z1u hF]; rfl
   | false =>
    rw [hc] at hF;rw [z26 hF,ih (i+1) (by omega) (by omega) (by omega),e']; simp
 funext k
 by_cases h0:g.IDs.length=0
 ·have hnil:g.IDs=[]:=List.length_eq_zero_iff.1 h0;rw [z1u (b:=.inr ())]
  ·rw [hnil]; rfl
  ·unfold z9x;rw [if_neg (by simp; omega)]
 ·rw [show (1:Int)=((1:Nat):Int) from rfl,key (g.IDs.length - 1) 1 rfl (by omega) (by omega),Nat.sub_self,List.drop_zero]
  cases z8b g.IDs <;> rfl
end
section
open Go
def il (l:List Nat):List Int:=l.map fun k:Nat=>(k:Int)
theorem zh8 (l:List Nat):(il l).length=l.length:=by simp [il]
theorem z13c {l:List Nat} {i:Nat} (h:i<l.length):idx (il l) (i:Int)=some (l[i]:Int):=by
 rw [z0g (by rw [zh8]; exact h)]; simp [il]
theorem zz1 (l m:List Nat):il (l++m)=il l++il m:=by simp [il]
def tab {α:Type} (n:Nat) (f:Nat→α):List α:=(List.range n).map f
theorem zje {α:Type} (n:Nat) (f:Nat→α):(tab n f).length=n:=by simp [tab]
theorem zth {α:Type} {n:Nat} {f:Nat→α} {i:Nat} (h:i<(tab n f).length):(tab n f)[i]=f i:=by simp [tab]
theorem zaq {α:Type} {n:Nat} {f:Nat→α} {i:Nat} (h:i<n):idx (tab n f) (i:Int)=some (f i):=by
 rw [z0g (by rw [zje]; exact h),zth]
theorem zhh {α:Type} {n:Nat} {f g:Nat→α} {i:Nat} {x:α} (hi:i<n) (h1:g i=x) (h2:∀ j,j<n→j≠i→g j=f j):(tab n f).set i x=tab n g:=by
 apply List.ext_getElem
 ·simp [zje]
 ·intro j hj1 hj2;rw [List.getElem_set,zth,zth];rw [zje] at hj2
  split
  ·rename_i e; subst e; exact h1.symm
  ·rename_i e; exact (h2 j hj2 (fun c=>e c.symm)).symm
theorem zfh {α:Type} {n:Nat} {f g:Nat→α} (h:∀ j,j<n→f j=g j):tab n f=tab n g:=by
 unfold tab;exact List.map_congr_left fun j hj=>h j (by simpa using hj)
theorem zf8 {α:Type} (n:Nat) (x:α):List.replicate n x=tab n (fun _=>x):=by
 apply List.ext_getElem
 ·simp [tab]
 ·intro j h1 h2; simp [tab]
def zx3 (g:z00) (i:Nat):List ID:=match g.Ops[i]? with | some o=>o.Preds | none=>[]
theorem z5h {g:z00} {i:Nat} (h:i<g.Ops.length):zx3 g i=(g.Ops[i]).Preds:=by unfold zx3; rw [List.getElem?_eq_getElem h]
def z1k (g:z00) (i:Nat):List Nat:=(zx3 g i).map fun x=>g.IDs.idxOf x
structure zay (g:z00):Prop where
 len:g.Ops.length≤60
 ids:g.IDs.length=g.Ops.length
 ri:z8b g.IDs=true
 op:∀ i (h:i<g.Ops.length),(g.Ops[i]).Preds.length≤4∧z8b (g.Ops[i]).Preds=true
variable {g:z00}
theorem zay.four (E:zay g) (i:Nat):(zx3 g i).length≤4:=by
 unfold zx3;by_cases h:i<g.Ops.length
 ·rw [List.getElem?_eq_getElem h]; exact (E.op i h).1
 ·rw [List.getElem?_eq_none (by omega)]; simp
theorem zay.nodup (E:zay g) (i:Nat):(zx3 g i).Nodup:=by
 unfold zx3;by_cases h:i<g.Ops.length
 ·rw [List.getElem?_eq_getElem h]; exact z99 (E.op i h).2
 ·rw [List.getElem?_eq_none (by omega)]; simp
theorem zh4 {l:List ID} {x y:ID} (hx:x∈l) (h:l.idxOf y=l.idxOf x):y=x:=by
 have h1:l.idxOf x<l.length:=List.idxOf_lt_length_of_mem hx;have h2:l.idxOf y<l.length:=by omega
 have e1:l[l.idxOf x]'h1=x:=by simp
 have e2:l[l.idxOf y]'h2=y:=by simp
 rw [← e1,← e2]; congr 1
def zh1 (g:z00) (i x:Nat):List Nat:=(List.range i).filter fun k=>decide (x∈z1k g k)
theorem zyi (g:z00) (i x:Nat):(zh1 g i x).length≤i:=by
 have:=List.length_filter_le (fun k=>decide (x∈z1k g k)) (List.range i)
 unfold zh1; simpa using this
def zi8 (g:z00) (i j x:Nat):List Nat:=zh1 g i x++(if x∈(z1k g i).take j then [i] else [])
theorem zvv (g:z00) (i x:Nat):zh1 g (i+1) x=zi8 g i (z1k g i).length x:=by
 unfold zh1 zi8;rw [List.range_succ,List.filter_append,List.take_length];by_cases h:x∈z1k g i
 ·rw [if_pos h]; simp [zh1,h]
 ·rw [if_neg h]; simp [zh1,h]
theorem zwn (g:z00) (i x:Nat):zi8 g i 0 x=zh1 g i x:=by unfold zi8; simp
theorem z137 (E:zay g) {i:Nat} (hi:i<g.Ops.length) (s:(List Int) × (List (List Int)) × (List Int) × Int) (hs:s.2.2.2=(i:Int)):∀ (rest pre:List ID),g.Ops[i].Preds=pre++rest →
  iter (zbh g s g.Ops[i]) (tab g.Ops.length (fun x=>il (zi8 g i pre.length x)),(pre.length:Int))=some (if rest.all (fun x=>decide (x∈g.IDs)) then .inr (tab g.Ops.length fun x=>il (zi8 g i (z1k g i).length x)) else .inl (.inl (.inl 40)))
 | [],pre,e=>by
  refine z1u ?_;unfold zbh
  have:(z1k g i).length=pre.length:=by unfold z1k; rw [z5h hi,e]; simp
  rw [if_neg (by rw [e]; simp),this]
  rfl
 | c::rest,pre,e=>by
  have h4:=(E.op i hi).1;have hn:=E.nodup i;rw [z5h hi] at hn;have hlen:pre.length<g.Ops[i].Preds.length:=by rw [e]; simp
  have hget:g.Ops[i].Preds[pre.length]'hlen=c:=by simp [e]
  have hpl:(z1k g i).length=g.Ops[i].Preds.length:=by unfold z1k; rw [z5h hi]; simp
  have hpg:(z1k g i)[pre.length]'(by omega)=g.IDs.idxOf c:=by
   unfold z1k;simp only [z5h hi,List.getElem_map,hget]
  obtain ⟨k,f1,f2,f3⟩:=zcb g (by have:=E.ids; have:=E.len; omega) E.ri c;rw [List.all_cons];by_cases hc:c∈g.IDs
  ·rw [decide_eq_true hc,Bool.true_and];obtain ⟨rfl,hk⟩:=f2 hc;rw [E.ids] at hk;have hsl:=zyi g i (g.IDs.idxOf c);have hll:(zi8 g i pre.length (g.IDs.idxOf c)).length≤i+1:=by
    unfold zi8; rw [List.length_append]; split <;> simp <;> omega
   have hset:(tab g.Ops.length (fun x=>il (zi8 g i pre.length x))).set (g.IDs.idxOf c) (il (zi8 g i pre.length (g.IDs.idxOf c))++[(i:Int)])=tab g.Ops.length (fun x=>il (zi8 g i (pre.length+1) x)):=by
    refine zhh hk ?_ fun x hx hne=>?_
    ·have h1:¬ g.IDs.idxOf c∈(z1k g i).take pre.length:=by
      intro hm;have e5:(z1k g i).take pre.length=pre.map fun x=>g.IDs.idxOf x:=by
       unfold z1k;rw [z5h hi,e,List.map_append,List.take_left' (by simp)]
      rw [e5,List.mem_map] at hm;obtain ⟨y,hy,e6⟩:=hm
      have:=zh4 hc e6
      subst this;rw [e,List.nodup_append] at hn;exact hn.2.2 y hy y (by simp) rfl
     have h2:g.IDs.idxOf c∈(z1k g i).take (pre.length+1):=by
      rw [List.take_add_one,List.getElem?_eq_getElem (by omega),hpg]; simp
     unfold zi8;rw [if_pos h2,if_neg h1]; simp [il]
    ·have:(x∈(z1k g i).take (pre.length+1))↔(x∈(z1k g i).take pre.length):=by
      rw [List.take_add_one,List.getElem?_eq_getElem (by omega),hpg];simp [hne]
     unfold zi8;simp only [this]
   have hF:zbh g s g.Ops[i] (tab g.Ops.length (fun x=>il (zi8 g i pre.length x)),(pre.length:Int))=some (.inr (tab g.Ops.length (fun x=>il (zi8 g i (pre.length+1) x)),((pre.length+1:Nat):Int))):=by
    have hlen2:=E.len;unfold zbh;rw [if_pos (by simpa using hlen)];simp only [];rw [z0g hlen,hget];simp only [bS];rw [f1];simp only [bS];rw [decide_eq_true hc,if_neg (by simp),zaq hk];simp only [bS];rw [hs,z1t (by rw [zh8]; simp; omega),z0r (by omega)];simp only [bS,Int.toNat_natCast];rw [hset]
   rw [z26 hF];have ih:=z137 E hi s hs rest (pre++[c]) (by simp [e]);simp only [List.length_append,List.length_cons,List.length_nil,Nat.zero_add] at ih;exact ih
  ·rw [decide_eq_false hc];refine z1u ?_;unfold zbh;rw [if_pos (by simpa using hlen)];simp only [];rw [z0g hlen,hget];simp only [bS];rw [f1];simp only [bS];rw [decide_eq_false hc]; rfl
def zfw (g:z00):Bool:=g.Ops.all fun o=>o.Preds.all fun x=>decide (x∈g.IDs)
def zi5 (g:z00) (i x:Nat):Int:=if x<i then ((z1k g x).length:Int) else 0
def ready (g:z00) (i:Nat):List Nat:=(List.range i).filter fun k=>decide ((z1k g k).length=0)
theorem zzx (g:z00) (i:Nat):(ready g i).length≤i:=by
 have:=List.length_filter_le (fun k=>decide ((z1k g k).length=0)) (List.range i)
 unfold ready; simpa using this
theorem z13a (E:zay g):∀ (rest pre:List z08),g.Ops=pre++rest →
  iter (zbi g) (tab g.Ops.length (zi5 g pre.length),tab g.Ops.length (fun x=>il (zh1 g pre.length x)),il (ready g pre.length),(pre.length:Int)) =
   some (if rest.all (fun o=>o.Preds.all fun x=>decide (x∈g.IDs)) then .inr (tab g.Ops.length (zi5 g g.Ops.length),tab g.Ops.length (fun x=>il (zh1 g g.Ops.length x)),il (ready g g.Ops.length)) else .inl 40)
 | [],pre,e=>by
  refine z1u ?_;have hl:g.Ops.length=pre.length:=by rw [e]; simp
  unfold zbi;rw [if_neg (by simp; omega),hl];rfl
 | o::rest,pre,e=>by
  have hlen2:=E.len;have hlen:pre.length<g.Ops.length:=by rw [e]; simp
  have hget:g.Ops[pre.length]'hlen=o:=by simp [e]
  have h4:=z137 E hlen (tab g.Ops.length (zi5 g pre.length),tab g.Ops.length (fun x=>il (zh1 g pre.length x)),il (ready g pre.length),(pre.length:Int)) rfl o.Preds [] (by rw [hget]; rfl);rw [hget] at h4;simp only [List.length_nil,zwn] at h4;have hpl:(z1k g pre.length).length=o.Preds.length:=by unfold z1k; rw [z5h hlen,hget]; simp
  rw [List.all_cons]
  cases hc:o.Preds.all fun x=>decide (x∈g.IDs) with
  | false =>
   rw [hc] at h4;refine z1u ?_;unfold zbi;rw [if_pos (by simpa using hlen)];simp only [];rw [z0g hlen,hget];simp only [bS];rw [show (0:Int)=((0:Nat):Int) from rfl,h4];rfl
  | true =>
   rw [hc] at h4;rw [Bool.true_and];have hset:(tab g.Ops.length (zi5 g pre.length)).set pre.length (o.Preds.length:Int)=tab g.Ops.length (zi5 g (pre.length+1)):=by
    refine zhh hlen ?_ fun x hx hne=>?_
    ·unfold zi5; rw [if_pos (by omega),hpl]
    ·unfold zi5;by_cases h:x<pre.length
     ·rw [if_pos h,if_pos (by omega)]
     ·rw [if_neg h,if_neg (by omega)]
   have hrl:=zzx g pre.length;have hready:il (ready g (pre.length+1))=if (o.Preds.length:Int)==0 then il (ready g pre.length)++[(pre.length:Int)] else il (ready g pre.length):=by
    unfold ready;rw [List.range_succ,List.filter_append,zz1];by_cases h:o.Preds.length=0
    ·have hd:decide ((z1k g pre.length).length=0)=true:=decide_eq_true (by rw [hpl]; exact h);rw [if_pos (by simpa using h),List.filter_cons_of_pos (p:=fun k=>decide ((z1k g k).length=0)) hd]; rfl
    ·have hd:¬ decide ((z1k g pre.length).length=0)=true:=by rw [decide_eq_true_iff,hpl]; exact h
     rw [if_neg (by simpa using h),List.filter_cons_of_neg (p:=fun k=>decide ((z1k g k).length=0)) hd]; simp [il]
   have hsucc:(fun x=>il (zi8 g pre.length (z1k g pre.length).length x))=fun x=>il (zh1 g (pre.length+1) x):=by
    funext x; rw [zvv]
   rw [hsucc] at h4;have hF:zbi g (tab g.Ops.length (zi5 g pre.length),tab g.Ops.length (fun x=>il (zh1 g pre.length x)),il (ready g pre.length),(pre.length:Int))=some (.inr (tab g.Ops.length (zi5 g (pre.length+1)),tab g.Ops.length (fun x=>il (zh1 g (pre.length+1) x)),il (ready g (pre.length+1)),((pre.length+1:Nat):Int))):=by
    unfold zbi;rw [if_pos (by simpa using hlen)];simp only [];rw [z0g hlen,hget];simp only [bS];rw [show (0:Int)=((0:Nat):Int) from rfl,h4];simp only [if_true,zx0];rw [zaq hlen];simp only [bS,Int.toNat_natCast];rw [hset,zaq hlen];simp only [bS];have e5:zi5 g (pre.length+1) pre.length=(o.Preds.length:Int):=by unfold zi5; rw [if_pos (by omega),hpl]
    rw [e5,hready,z0r (by omega)];by_cases h:o.Preds.length=0
    ·rw [if_pos (by simpa using h),if_pos (by simpa using h),z1t (by rw [zh8]; simp; omega)];simp only [bS]
    ·rw [if_neg (by simpa using h),if_neg (by simpa using h)]
   rw [z26 hF];have ih:=z13a E rest (pre++[o]) (by simp [e]);simp only [List.length_append,List.length_cons,List.length_nil,Nat.zero_add] at ih;exact ih
theorem zpa (E:zay g):∀ (rest pre:List z08),g.Ops=pre++rest →
  iter (z5x g) (pre.length:Int)=some (if rest.all (fun o=>o.Preds.all fun x=>decide (x∈g.IDs)) then .inr () else .inl 40)
 | [],pre,e=>by
  refine z1u ?_;unfold z5x;rw [if_neg (by rw [e]; simp)]; rfl
 | o::rest,pre,e=>by
  have hlen2:=E.len;have hlen:pre.length<g.Ops.length:=by rw [e]; simp
  have hget:g.Ops[pre.length]'hlen=o:=by simp [e]
  have h4:=(E.op _ hlen).1;rw [hget] at h4;have hF:z5x g (pre.length:Int)=if (o.Preds.all fun x=>decide (x∈g.IDs)) then some (.inr ((pre.length+1:Nat):Int)) else some (.inl (.inl 40)):=by
   unfold z5x;rw [if_pos (by simpa using hlen),z0g hlen,hget];simp only [bS];rw [z13b _ _ (by have:=E.ids; omega) (by omega),z0r (by omega)];simp only [bS]
   cases o.Preds.all fun x=>decide (x∈g.IDs) <;> rfl
  rw [List.all_cons]
  cases hc:o.Preds.all fun x=>decide (x∈g.IDs) with
  | false=>rw [hc] at hF; rw [z1u hF]; rfl
  | true =>
   rw [hc] at hF;rw [z26 hF];have ih:=zpa E rest (pre++[o]) (by simp [e]);simp only [List.length_append,List.length_cons,List.length_nil,Nat.zero_add] at ih;rw [ih,Bool.true_and]
end
section
open Go
theorem zni {α:Type} {l:List α} (h:l.Nodup) {i j:Nat} (hi:i<l.length) (hj:j<l.length) (e:l[i]=l[j]):i=j:=by
 rcases Nat.lt_trichotomy i j with c | c | c
 ·exact absurd e (List.pairwise_iff_getElem.1 h i j hi hj c)
 ·exact c
 ·exact absurd e.symm (List.pairwise_iff_getElem.1 h j i hj hi c)
inductive Wf (P:Nat→List Nat):Nat→Prop
 | mk (i:Nat):(∀ p∈P i,Wf P p)→Wf P i
def cnt (P:Nat→List Nat) (T:List Nat) (i:Nat):Int:=(((P i).filter fun p=>!decide (p∈T)).length:Int)
theorem zu5 {P:Nat→List Nat} {T:List Nat} {i:Nat}:cnt P T i=0↔∀ p∈P i,p∈T:=by
 unfold cnt
 constructor
 ·intro h p hp;have h0:((P i).filter fun p=>!decide (p∈T))=[]:=List.length_eq_zero_iff.1 (by omega);rw [List.filter_eq_nil_iff] at h0
  simpa using h0 p hp
 ·intro h;have h0:((P i).filter fun p=>!decide (p∈T))=[]:=by
   rw [List.filter_eq_nil_iff];intro p hp
   simpa using h p hp
  rw [h0]; rfl
theorem zzn (P:Nat→List Nat) (i:Nat):cnt P [] i=((P i).length:Int):=by
 unfold cnt;rw [List.filter_eq_self.2 (fun a _=>by simp)]
theorem z17d (P:Nat→List Nat) (T:List Nat) (i:Nat):cnt P T i≤((P i).length:Int):=by
 unfold cnt
 have:=List.length_filter_le (fun p=>!decide (p∈T)) (P i)
 omega
theorem zjd {T:List Nat} {x:Nat} (hx:x∉T):∀ l:List Nat,l.Nodup→(l.filter fun p=>!decide (p∈T)).length=(l.filter fun p=>!decide (p∈T++[x])).length+(if x∈l then 1 else 0)
 | [],_=>by simp
 | a::l,h=>by
  have hn:=List.nodup_cons.1 h;have ih:=zjd hx l hn.2;by_cases ha:a=x
  ·subst ha;rw [if_neg hn.1] at ih;rw [if_pos (by simp),List.filter_cons_of_pos (by simpa using hx),List.filter_cons_of_neg (by simp),List.length_cons,ih]
  ·have e:(x∈a::l)↔(x∈l):=by
    rw [List.mem_cons]; exact ⟨fun h=>h.resolve_left fun e=>ha e.symm,.inr⟩
   by_cases hT:a∈T
   ·rw [List.filter_cons_of_neg (by simp [hT]),List.filter_cons_of_neg (by simp [hT]),ih];simp only [e]
   ·rw [List.filter_cons_of_pos (by simp [hT]),List.filter_cons_of_pos (by simp [hT,ha]),List.length_cons,List.length_cons,ih];simp only [e]; omega
theorem z134 {P:Nat→List Nat} {T:List Nat} {x i:Nat} (hx:x∉T) (hn:(P i).Nodup) (hi:x∈P i):cnt P T i=cnt P (T++[x]) i+1:=by
 unfold cnt;rw [zjd hx _ hn,if_pos hi]; omega
theorem z14d {P:Nat→List Nat} {T:List Nat} {x i:Nat} (hx:x∉T) (hn:(P i).Nodup) (hi:x∉P i):cnt P T i=cnt P (T++[x]) i:=by
 unfold cnt;rw [zjd hx _ hn,if_neg hi]; omega
structure z15g (P:Nat→List Nat) (n:Nat):Prop where
 n60:n≤60
 nodup:∀ i,(P i).Nodup
 four:∀ i,(P i).length≤4
 lt:∀ i,∀ p∈P i,p<n
def over (P:Nat→List Nat) (n x:Nat):List Nat:=(List.range n).filter fun k=>decide (x∈P k)
theorem zua {P:Nat→List Nat} {n x k:Nat}:k∈over P n x↔k<n∧x∈P k:=by unfold over; simp
theorem zwo (P:Nat→List Nat) (n x:Nat):(over P n x).Nodup:=List.Pairwise.filter _ List.nodup_range
structure Got (P:Nat→List Nat) (n:Nat) (Q:List Nat):Prop where
 nodup:Q.Nodup
 lt:∀ x∈Q,x<n
 wf:∀ x∈Q,Wf P x
theorem Got.len {P:Nat→List Nat} {n:Nat} {Q:List Nat} (h:Got P n Q):Q.length≤n:=by
 have:=z9l Q (List.range n) h.nodup fun x hx=>by simpa using h.lt x hx
 simpa using this
variable {P:Nat→List Nat} {n:Nat}
theorem z16z (E:z15g P n) (Q:List Nat) (pos:Nat) (hp:pos<Q.length) (hQ:Got P n Q) (hd:∀ i,i<n→(i∈Q↔cnt P (Q.take pos) i=0)) :
  ∃ b:List Int × List Int,iter (zbg (il (over P n Q[pos]))) (tab n (cnt P (Q.take pos)),il Q,0)=some b∧∃ R,b=(tab n (cnt P ((Q++R).take (pos+1))),il (Q++R))∧Got P n (Q++R)∧∀ i,i<n→(i∈Q++R↔cnt P ((Q++R).take (pos+1)) i=0):=by
 have hx:Q[pos]∉Q.take pos:=by
  intro hm;obtain ⟨j,hj,e⟩:=List.getElem_of_mem hm;rw [List.getElem_take] at e;rw [List.length_take] at hj
  have:=zni hQ.nodup _ _ e
  omega
 have htk:∀ R:List Nat,(Q++R).take (pos+1)=Q.take pos++[Q[pos]]:=fun R=>by
  rw [List.take_append_of_le_length (by omega),List.take_add_one,List.getElem?_eq_getElem hp]; rfl
 let T:=Q.take pos
 let x:=Q[pos]
 have hwx:Wf P x:=hQ.wf x (List.getElem_mem hp);have hwT:∀ y∈T,Wf P y:=fun y hy=>hQ.wf y (List.mem_of_mem_take hy)
 let c:=fun (j i:Nat)=>if i∈(over P n x).take j then cnt P (T++[x]) i else cnt P T i
 have hc_in:∀ j i,i∈(over P n x).take j→c j i=cnt P (T++[x]) i:=fun j i h=>if_pos h;have hc_out:∀ j i,i∉(over P n x).take j→c j i=cnt P T i:=fun j i h=>if_neg h;have hcnt2:∀ i,cnt P (T++[x]) i=0→Wf P i:=fun i hi=>.mk i fun p hpi=>by
  have:=zu5.1 hi p hpi
  rcases List.mem_append.1 this with h | h
  ·exact hwT p h
  ·rw [List.mem_singleton] at h; subst h; exact hwx
 have main:=zap (F:=zbg (il (over P n x))) (over P n x).length
  (fun j st=>∃ R,st=(tab n (c j),il (Q++R),(j:Int))∧Got P n (Q++R)∧∀ i,i<n→(i∈Q++R↔c j i=0))
  (fun b=>∃ R,b=(tab n (c (over P n x).length),il (Q++R))∧Got P n (Q++R)∧∀ i,i<n→(i∈Q++R↔c (over P n x).length i=0))
  (fun j st hj hst=>by
   obtain ⟨R,rfl,hR,hm⟩:=hst;have hyo:(over P n x)[j]∈over P n x:=List.getElem_mem hj;obtain ⟨hyn,hyx⟩:=zua.1 hyo;have hyt:(over P n x)[j]∉(over P n x).take j:=by
    intro hm;obtain ⟨k,hk,e⟩:=List.getElem_of_mem hm;rw [List.getElem_take] at e;rw [List.length_take] at hk
    have:=zni (zwo P n x) _ _ e
    omega
   have hcy:c j (over P n x)[j]=cnt P (T++[x]) (over P n x)[j]+1:=by
    rw [hc_out _ _ hyt]; exact z134 hx (E.nodup _) hyx
   have hcl:cnt P T (over P n x)[j]≤4:=by have:=z17d P T (over P n x)[j]; have:=E.four (over P n x)[j]; omega
   have h0:0≤cnt P (T++[x]) (over P n x)[j]:=by unfold cnt; omega
   have hcs:cnt P T (over P n x)[j]=cnt P (T++[x]) (over P n x)[j]+1:=z134 hx (E.nodup _) hyx;have hnot:(over P n x)[j]∉Q++R:=by
    rw [hm _ hyn,hcy]; omega
   have hcy1:c (j+1) (over P n x)[j]=cnt P (T++[x]) (over P n x)[j]:=by
    refine hc_in _ _ ?_;rw [List.take_add_one,List.getElem?_eq_getElem hj];exact List.mem_append.2 (.inr (List.mem_singleton.2 rfl))
   have hc1:∀ i,i≠(over P n x)[j]→c (j+1) i=c j i:=fun i hne=>by
    show (if _ then _ else _)=(if _ then _ else _)
    have:(i∈(over P n x).take (j+1))↔(i∈(over P n x).take j):=by
     rw [List.take_add_one,List.getElem?_eq_getElem hj,List.mem_append];exact ⟨fun h=>h.resolve_right fun e=>hne (List.mem_singleton.1 e),.inl⟩
    simp only [this]
   have hset:(tab n (c j)).set (over P n x)[j] (cnt P (T++[x]) (over P n x)[j])=tab n (c (j+1)):=zhh hyn hcy1 fun i _ hne=>hc1 i hne;have hov:(over P n x).length≤n:=by
    have:=List.length_filter_le (fun k=>decide (x∈P k)) (List.range n)
    unfold over; simpa using this
   have hn60:=E.n60;have hlen:=hR.len;have hF:zbg (il (over P n x)) (tab n (c j),il (Q++R),(j:Int))=if cnt P (T++[x]) (over P n x)[j]==0 then some (.inr (tab n (c (j+1)),il (Q++R)++[((over P n x)[j]:Int)],((j+1:Nat):Int))) else some (.inr (tab n (c (j+1)),il (Q++R),((j+1:Nat):Int))):=by
    unfold zbg;rw [if_pos (by rw [zh8]; simpa using hj)]
    simp only [];rw [z13c hj];simp only [bS];rw [zaq hyn,hcy];simp only [bS];rw [z18 (x:=_ - 1) (by omega) (by omega), show cnt P (T++[x]) (over P n x)[j]+1 - 1=cnt P (T++[x]) (over P n x)[j] by omega];simp only [bS,Int.toNat_natCast];rw [hset,zaq hyn,hcy1];simp only [bS];rw [z1t (by rw [zh8]; simp only [List.length_cons,List.length_nil]; omega),z0r (by omega)];simp only [bS]
   by_cases hz:cnt P (T++[x]) (over P n x)[j]=0
   ·rw [if_pos (by simpa using hz)] at hF;refine ⟨_,hF,R++[(over P n x)[j]],?_,?_,?_⟩
    ·rw [← List.append_assoc,zz1 (Q++R)]; rfl
    ·rw [← List.append_assoc];refine ⟨?_,?_,?_⟩
     ·rw [List.nodup_append]
      exact ⟨hR.nodup, by simp, fun a ha b hb e=>by
       rw [List.mem_singleton] at hb; subst hb; exact hnot (e ▸ ha)⟩
     ·intro y hy;rcases List.mem_append.1 hy with h | h
      ·exact hR.lt y h
      ·rw [List.mem_singleton] at h; subst h; exact hyn
     ·intro y hy;rcases List.mem_append.1 hy with h | h
      ·exact hR.wf y h
      ·rw [List.mem_singleton] at h; subst h; exact hcnt2 _ hz
    ·intro i hi;rw [← List.append_assoc,List.mem_append,List.mem_singleton];by_cases hne:i=(over P n x)[j]
     ·subst hne;rw [hcy1];exact ⟨fun _=>hz, fun _=>.inr rfl⟩
     ·rw [hc1 i hne,← hm i hi];exact ⟨fun h=>h.resolve_right hne,.inl⟩
   ·rw [if_neg (by simpa using hz)] at hF;refine ⟨_,hF,R,rfl,hR,?_⟩;intro i hi;by_cases hne:i=(over P n x)[j]
    ·subst hne;rw [hcy1];exact ⟨fun h=>absurd h hnot, fun h=>absurd h hz⟩
    ·rw [hc1 i hne,← hm i hi])
  (fun st hst=>by
   obtain ⟨R,rfl,hR,hm⟩:=hst;refine ⟨_,?_,R,rfl,hR,hm⟩;unfold zbg
   rw [if_neg (by rw [zh8]; simp)])
  (tab n (cnt P T),il Q,((0:Nat):Int)) 0 (Nat.zero_le _) ⟨[], by rw [List.append_nil]; rfl, by rw [List.append_nil]; exact hQ, by rw [List.append_nil]; exact hd⟩
 have hend:∀ i,i<n→c (over P n x).length i=cnt P (T++[x]) i:=fun i hi=>by
  by_cases hm:i∈over P n x
  ·exact hc_in _ _ (by rw [List.take_length]; exact hm)
  ·rw [hc_out _ _ (by rw [List.take_length]; exact hm)];exact z14d hx (E.nodup i) fun h=>hm (zua.2 ⟨hi,h⟩)
 obtain ⟨b,h1,R,h2,h3,h4⟩:=main;refine ⟨b,h1,R,?_,h3, fun i hi=>?_⟩
 ·rw [h2,htk R]
  congr 1
  exact zfh hend
 ·rw [h4 i hi,hend i hi,htk R]
theorem z17g (E:z15g P n) (s:List Int × List (List Int) × List Int) (hs:s.2.1=tab n fun x=>il (over P n x)):∃ b:Int,iter (zd1 s) (tab n (cnt P []),il ((List.range n).filter fun k=>decide ((P k).length=0)),0)=some b∧∃ Q:List Nat,b=(Q.length:Int)∧Q.Nodup∧∀ i,i∈Q↔i<n∧Wf P i:=by
 have hn60:=E.n60;refine zej (F:=zd1 s)
  (fun st=>∃ (Q:List Nat) (pos:Nat),st=(tab n (cnt P (Q.take pos)),il Q,(pos:Int))∧pos≤Q.length∧Got P n Q∧∀ i,i<n→(i∈Q↔cnt P (Q.take pos) i=0))
  (fun st=>n - st.2.2.toNat) _ ?_ _ ⟨(List.range n).filter fun k=>decide ((P k).length=0),0, by rw [List.take_zero]; rfl,Nat.zero_le _,?_,?_⟩
 ·rintro st ⟨Q,pos,rfl,h1,h2,h3⟩
  have hlen:=h2.len;by_cases hp:pos<Q.length
  ·right
   obtain ⟨b,e1,R,rfl,e3,e4⟩:=z16z E Q pos hp h2 h3;have hx:=h2.lt _ (List.getElem_mem hp);refine ⟨_,?_,⟨Q++R,pos+1,rfl, by rw [List.length_append]; omega,e3,e4⟩,?_⟩
   ·unfold zd1;rw [if_pos (by rw [zh8]; simpa using hp)]
    simp only [];rw [z13c hp,hs];simp only [bS];rw [zaq hx];simp only [bS];rw [e1,z0r (by omega)];simp only [bS]
   ·simp only [Int.toNat_natCast]; omega
  ·left
   have hpe:pos=Q.length:=by omega
   subst hpe;refine ⟨(Q.length:Int),?_,Q,rfl,h2.nodup, fun i=>⟨fun h=>⟨h2.lt i h,h2.wf i h⟩, fun h=>?_⟩⟩
   ·unfold zd1;rw [if_neg (by rw [zh8]; simp)]
   ·obtain ⟨hi,hw⟩:=h;rw [List.take_length] at h3
    revert hi
    induction hw with
    | mk i hpi ih =>
     intro hi;rw [h3 i hi,zu5];exact fun p hpp=>ih p hpp (E.lt i p hpp)
 ·refine ⟨List.Pairwise.filter _ List.nodup_range, fun x hx=>?_, fun x hx=>?_⟩
  ·simp only [List.mem_filter,List.mem_range] at hx; exact hx.1
  ·simp only [List.mem_filter,List.mem_range,decide_eq_true_eq] at hx;refine .mk x fun p hp=>?_;rw [List.length_eq_zero_iff.1 hx.2] at hp; simp at hp
 ·intro i hi;rw [List.take_zero,zzn];simp only [List.mem_filter,List.mem_range,decide_eq_true_eq];omega
end
section
open Go
variable {g:z00}
theorem zcw (h:zfw g=true) (i:Nat):∀ x∈zx3 g i,x∈g.IDs:=by
 unfold zx3;by_cases hi:i<g.Ops.length
 ·rw [List.getElem?_eq_getElem hi];unfold zfw at h;rw [List.all_eq_true] at h
  have:=h _ (List.getElem_mem hi)
  rw [List.all_eq_true] at this;exact fun x hx=>by simpa using this x hx
 ·rw [List.getElem?_eq_none (by omega)];exact fun x hx=>by simp at hx
theorem z14s (E:zay g) (h:zfw g=true):z15g (z1k g) g.Ops.length:=by
 refine ⟨E.len, fun i=>?_, fun i=>?_, fun i p hp=>?_⟩
 ·unfold z1k;rw [List.Nodup,List.pairwise_map];exact (E.nodup i).imp_of_mem fun {a b} ha hb hne e=>hne (zh4 (zcw h i b hb) e)
 ·unfold z1k; rw [List.length_map]; exact E.four i
 ·unfold z1k at hp;rw [List.mem_map] at hp;obtain ⟨x,hx,rfl⟩:=hp;rw [← E.ids];exact List.idxOf_lt_length_of_mem (zcw h i x hx)
def zec (g:z00) (i:Nat):ID:=match g.IDs[i]? with | some x=>x | none=>z32
theorem z7r {i:Nat} (h:i<g.IDs.length):zec g i=g.IDs[i]:=by unfold zec; rw [List.getElem?_eq_getElem h]
theorem zeu {x:ID} (h:x∈g.IDs):zec g (g.IDs.idxOf x)=x:=by
 rw [z7r (List.idxOf_lt_length_of_mem h)]; simp
theorem zfz (E:zay g) {i:Nat} (h:i<g.Ops.length):g.IDs.idxOf (zec g i)=i:=by
 have hi:i<g.IDs.length:=by rw [E.ids]; exact h
 rw [z7r hi]; exact z79 E.ri hi
theorem zp6 (E:zay g) {Q:List Nat} (hQ:∀ x∈Q,x<g.Ops.length) {x:ID} (hx:x∈g.IDs):x∈Q.map (zec g)↔g.IDs.idxOf x∈Q:=by
 rw [List.mem_map]
 constructor
 ·rintro ⟨q,hq,rfl⟩; rw [zfz E (hQ q hq)]; exact hq
 ·exact fun h=>⟨_,h,zeu hx⟩
theorem zwp (E:zay g) (h:zfw g=true) {Q:List Nat} (hQ:∀ x∈Q,x<g.Ops.length) (i:Nat):((zx3 g i).all fun x=>decide (x∈Q.map (zec g)))=decide (∀ p∈z1k g i,p∈Q):=by
 rw [Bool.eq_iff_iff,List.all_eq_true,decide_eq_true_iff];unfold z1k
 constructor
 ·intro hx p hp;rw [List.mem_map] at hp;obtain ⟨x,hx',rfl⟩:=hp;exact (zp6 E hQ (zcw h i x hx')).1 (by simpa using hx x hx')
 ·intro hp x hx;rw [decide_eq_true_iff];exact (zp6 E hQ (zcw h i x hx)).2 (hp _ (List.mem_map.2 ⟨x,hx,rfl⟩))
def Topo (P:Nat→List Nat) (Q:List Nat):Prop:=∀ k (h:k<Q.length),∀ p∈P Q[k],p∈Q.take k
theorem Topo.snoc {P:Nat→List Nat} {Q:List Nat} {i:Nat} (h:Topo P Q) (hi:∀ p∈P i,p∈Q):Topo P (Q++[i]):=by
 intro k hk p hp;by_cases hkq:k<Q.length
 ·rw [List.getElem_append_left hkq] at hp;rw [List.take_append_of_le_length (by omega)];exact h k hkq p hp
 ·have hk':k=Q.length:=by simp at hk; omega
  subst hk';rw [List.getElem_append_right (by omega)] at hp;simp at hp;rw [List.take_left' rfl];exact hi p hp
def zly (g:z00) (Q:List Nat) (b:Bool):(List Int) × (List ID) × (List Bool) × Bool:=(il Q,Q.map (zec g),tab g.Ops.length (fun i=>decide (i∈Q)),b)
theorem z17t (E:zay g) (h:zfw g=true) (Q:List Nat) (hQ:Got (z1k g) g.Ops.length Q) (hT:Topo (z1k g) Q) :
  ∃ b:Sum (List Int) ((List Int) × (List ID) × (List Bool) × Bool),iter (z3s g (zly g Q true)) 0=some b ∧
   ((∃ i,b=.inr (zly g (Q++[i]) true)∧Got (z1k g) g.Ops.length (Q++[i])∧Topo (z1k g) (Q++[i])∧i<g.Ops.length∧i∉Q∧(∀ p∈z1k g i,p∈Q)∧∀ k,k<i→(∀ p∈z1k g k,p∈Q)→k∈Q)∨(b=.inr (zly g Q false)∧∀ i,i<g.Ops.length→(∀ p∈z1k g i,p∈Q)→i∈Q)):=by
 have hlen:=E.len;have hql:=hQ.len;refine zej (F:=z3s g (zly g Q true)) (fun s=>∃ i:Nat,s=(i:Int)∧i≤g.Ops.length∧∀ k,k<i→(∀ p∈z1k g k,p∈Q)→k∈Q) (fun s=>g.Ops.length - s.toNat) _ ?_ _ ⟨0,rfl,Nat.zero_le _, fun k hk=>by omega⟩
 rintro s ⟨i,rfl,h1,h2⟩
 by_cases hi:i<g.Ops.length
 ·have hcond:(idx (tab g.Ops.length fun i=>decide (i∈Q)) (i:Int) >>= fun x12=>if !x12 then idx g.Ops (i:Int) >>= fun x15=>z47 (Q.map (zec g)) x15.Preds >>= fun r17=>some r17 else some false)=some (!decide (i∈Q)&&decide (∀ p∈z1k g i,p∈Q)):=by
   rw [zaq hi];simp only [bS];by_cases hm:i∈Q
   ·rw [decide_eq_true hm]; rfl
   ·rw [decide_eq_false hm,if_pos (by simp),z0g hi];simp only [bS];have h4:=(E.op i hi).1;rw [z13b _ _ (by rw [List.length_map]; omega) (by omega)];simp only [bS];rw [← z5h hi,zwp E h hQ.lt]; rfl
  by_cases hm:i∈Q
  ·right
   refine ⟨((i+1:Nat):Int),?_,⟨i+1,rfl,hi, fun k hk hp=>?_⟩, by simp; omega⟩
   ·unfold z3s;rw [if_pos (by simpa using hi)];show ((idx (tab g.Ops.length fun i=>decide (i∈Q)) (i:Int) >>= fun x12=>if !x12 then idx g.Ops (i:Int) >>= fun x15=>z47 (Q.map (zec g)) x15.Preds >>= fun r17=>some r17 else some false) >>= _)=_;rw [hcond,decide_eq_true hm,z0r (by omega)];rfl
   ·by_cases hk':k=i
    ·subst hk'; exact hm
    ·exact h2 k (by omega) hp
  ·by_cases hp:∀ p∈z1k g i,p∈Q
   ·left
    refine ⟨_,?_,.inl ⟨i,rfl,?_,hT.snoc hp,hi,hm,hp,h2⟩⟩
    ·have hii:i<g.IDs.length:=by rw [E.ids]; exact hi
     unfold z3s;rw [if_pos (by simpa using hi)];show ((idx (tab g.Ops.length fun i=>decide (i∈Q)) (i:Int) >>= fun x12=>if !x12 then idx g.Ops (i:Int) >>= fun x15=>z47 (Q.map (zec g)) x15.Preds >>= fun r17=>some r17 else some false) >>= _)=_;rw [hcond,decide_eq_false hm,decide_eq_true hp];simp only [bS];rw [if_pos (by simp),z0g hii];simp only [bS];rw [show (zly g Q true).1=il Q from rfl, show (zly g Q true).2.1=Q.map (zec g) from rfl, show (zly g Q true).2.2.1=tab g.Ops.length (fun i=>decide (i∈Q)) from rfl]
     rw [z1t (by rw [zh8]; simp only [List.length_cons,List.length_nil]; omega)];simp only [bS];rw [z1t (by rw [List.length_map]; simp only [List.length_cons,List.length_nil]; omega),zaq hi];simp only [bS,Int.toNat_natCast];rw [zhh (g:=fun j=>decide (j∈Q++[i])) hi (by simp) (fun j _ hj=>by simp [hj])];unfold zly;rw [zz1,List.map_append,← z7r hii];rfl
    ·refine ⟨?_,?_,?_⟩
     ·rw [List.nodup_append]
      exact ⟨hQ.nodup, by simp, fun a ha b hb e=>by
       rw [List.mem_singleton] at hb; subst hb; exact hm (e ▸ ha)⟩
     ·intro y hy;rcases List.mem_append.1 hy with h | h
      ·exact hQ.lt y h
      ·rw [List.mem_singleton] at h; subst h; exact hi
     ·intro y hy;rcases List.mem_append.1 hy with h | h
      ·exact hQ.wf y h
      ·rw [List.mem_singleton] at h; subst h; exact .mk _ fun p hpp=>hQ.wf p (hp p hpp)
   ·right
    refine ⟨((i+1:Nat):Int),?_,⟨i+1,rfl,hi, fun k hk hpk=>?_⟩, by simp; omega⟩
    ·unfold z3s;rw [if_pos (by simpa using hi)];show ((idx (tab g.Ops.length fun i=>decide (i∈Q)) (i:Int) >>= fun x12=>if !x12 then idx g.Ops (i:Int) >>= fun x15=>z47 (Q.map (zec g)) x15.Preds >>= fun r17=>some r17 else some false) >>= _)=_;rw [hcond,decide_eq_false hp,z0r (by omega),Bool.and_false];rfl
    ·by_cases hk':k=i
     ·subst hk'; exact absurd hpk hp
     ·exact h2 k (by omega) hpk
 ·left
  have:i=g.Ops.length:=by omega
  subst this;refine ⟨_,?_,.inr ⟨rfl,h2⟩⟩;unfold z3s;rw [if_neg (by simp)];rfl
theorem zva (E:zay g) (h:zfw g=true):∃ Q:List Nat,zbb g=some (il Q)∧Got (z1k g) g.Ops.length Q∧Topo (z1k g) Q∧∀ i,i∈Q↔i<g.Ops.length∧Wf (z1k g) i:=by
 have hP:=z14s E h;have hlen:=E.len;have main:=zej (F:=z8p g)
  (fun s=>∃ Q b,s=zly g Q b∧Got (z1k g) g.Ops.length Q∧Topo (z1k g) Q∧(b=false→∀ i,i<g.Ops.length→(∀ p∈z1k g i,p∈Q)→i∈Q))
  (fun s=>(g.Ops.length - s.1.length)+(if s.2.2.2 then 1 else 0))
  (fun r=>∃ Q:List Nat,r=il Q∧Got (z1k g) g.Ops.length Q∧Topo (z1k g) Q∧∀ i,i∈Q↔i<g.Ops.length∧Wf (z1k g) i)
  (fun s hs=>by
   obtain ⟨Q,b,rfl,h1,h2,h3⟩:=hs;have hql:=h1.len
   cases b with
   | false =>
    left
    refine ⟨il Q,rfl,Q,rfl,h1,h2, fun i=>⟨fun hi=>⟨h1.lt i hi,h1.wf i hi⟩, fun hi=>?_⟩⟩;obtain ⟨hi,hw⟩:=hi
    revert hi
    induction hw with
    | mk i hpi ih=>exact fun hi=>h3 rfl i hi fun p hp=>ih p hp (hP.lt i p hp)
   | true =>
    right
    obtain ⟨r,e1,e2⟩:=z17t E h Q h1 h2;rcases e2 with ⟨i,rfl,e3,e4,_⟩ | ⟨rfl,e3⟩
    ·refine ⟨_,?_,⟨Q++[i],true,rfl,e3,e4, by simp⟩,?_⟩
     ·unfold z8p;exact (if_pos rfl).trans e1
     ·have:=e3.len
      simp only [zly,zh8,List.length_append,List.length_cons,List.length_nil] at this ⊢;omega
    ·refine ⟨_,?_,⟨Q,false,rfl,h1,h2, fun _=>e3⟩,?_⟩
     ·unfold z8p;exact (if_pos rfl).trans e1
     ·simp [zly])
  ([],[],List.replicate g.Ops.length false,true) ⟨[],true, by unfold zly; rw [zf8]; simp [il],⟨by simp, by simp, by simp⟩, fun k hk=>by simp at hk, by simp⟩
 obtain ⟨r,e1,Q,rfl,e2,e3,e4⟩:=main;refine ⟨Q,?_,e2,e3,e4⟩;unfold zbb;rw [zis (by omega) (by omega)];simp only [bS];rw [e1];simp only [bS]
theorem zqd {n:Nat} {Q:List Nat} (hn:Q.Nodup) (hl:∀ x∈Q,x<n):¬ Q.length<n↔∀ i,i<n→i∈Q:=by
 constructor
 ·intro h i hi;refine Decidable.byContradiction fun hm=>?_
  have:=z9l (i::Q) (List.range n) (List.nodup_cons.2 ⟨hm,hn⟩) fun x hx=>by
   rcases List.mem_cons.1 hx with rfl | hx
   ·simpa using hi
   ·simpa using hl x hx
  simp at this; omega
 ·intro h
  have:=z9l (List.range n) Q List.nodup_range fun x hx=>h x (by simpa using hx)
  simp at this; omega
def z16i (g:z00):Prop:=∀ i,i<g.Ops.length→Wf (z1k g) i
theorem zvl (hl:g.Ops.length≤60) (hi:g.IDs.length=g.Ops.length) (ho:∀ i (h:i<g.Ops.length),(g.Ops[i]).Preds.length≤4∧z8b (g.Ops[i]).Preds=true) :
  ∃ c:Int,zkf g=some c∧z6j g=some c∧(c=0↔z8b g.IDs=true∧zfw g=true∧z16i g):=by
 have s0:=z11j g (by omega);unfold zkf z6j;rw [s0,zr2 _ (by omega)];simp only [bS];by_cases hr:z8b g.IDs=true
 ·rw [if_pos hr,hr,if_neg (by simp),zis (by omega) (by omega)];simp only [bS];rw [zis (by omega) (by omega)];simp only [bS];have E:zay g:=⟨hl,hi,hr,ho⟩
  have h2:=z13a E g.Ops [] rfl;have h3:=zpa E g.Ops [] rfl;have i1:tab g.Ops.length (zi5 g 0)=List.replicate g.Ops.length 0:=by
   rw [zf8]; exact zfh fun j _=>by unfold zi5; rw [if_neg (by omega)]
  have i2:tab g.Ops.length (fun x=>il (zh1 g 0 x))=List.replicate g.Ops.length []:=by
   rw [zf8]; exact zfh fun j _=>by unfold zh1; simp [il]
  have i3:il (ready g 0)=[]:=by unfold ready; simp [il]
  simp only [List.length_nil] at h2 h3;rw [i1,i2,i3] at h2;rw [show (0:Int)=((0:Nat):Int) from rfl] at *;rw [h2,h3]
  cases ha:g.Ops.all fun o=>o.Preds.all fun x=>decide (x∈g.IDs) with
  | false=>exact ⟨40,rfl,rfl, by simp [zfw,ha]⟩
  | true =>
   have ha':zfw g=true:=ha;obtain ⟨Q,q1,q2,q3,q4⟩:=zva E ha';have hP:=z14s E ha';have i4:tab g.Ops.length (zi5 g g.Ops.length)=tab g.Ops.length (cnt (z1k g) []):=zfh fun j hj=>by
    unfold zi5; rw [if_pos hj,zzn]
   obtain ⟨b,k1,R,rfl,k2,k3⟩:=z17g hP (tab g.Ops.length (zi5 g g.Ops.length),tab g.Ops.length (fun x=>il (zh1 g g.Ops.length x)),il (ready g g.Ops.length)) rfl;have hRQ:R.length=Q.length:=znh k2 q2.nodup fun x=>by rw [k3,q4]
   simp only [if_true,zx0];rw [i4] at k1;rw [i4, show il (ready g g.Ops.length)=il ((List.range g.Ops.length).filter fun k=>decide ((z1k g k).length=0)) from rfl] at *;rw [show ((0:Nat):Int)=0 from rfl] at *;rw [k1,q1];simp only [bS];rw [zh8,hRQ];have hfull:=zqd q2.nodup q2.lt;by_cases hc:Q.length<g.Ops.length
   ·rw [if_pos (by simpa using hc)];refine ⟨36,rfl,rfl, by simp, fun h=>?_⟩
    have:=hfull.2 fun i hi=>(q4 i).2 ⟨hi,h.2.2 i hi⟩
    exact absurd hc this
   ·rw [if_neg (by simpa using hc)];exact ⟨0,rfl,rfl, fun _=>⟨by first | exact hr | trivial,ha', fun i hi=>((q4 i).1 (hfull.1 hc i hi)).2⟩, fun _=>rfl⟩
 ·have hr':z8b g.IDs=false:=by simpa using hr
  rw [if_neg hr,hr'];exact ⟨32,rfl,rfl, by simp [hr']⟩
def z16g (g:z00):Prop:=∀ i (h:i<g.Ops.length),zg8 g.Ops[i]=0∧sha (zed g.Ops[i])=zec g i
structure z7o (g:z00):Prop where
 e:zay g
 ops:z16g g
 ins:zfw g=true
 wf:z16i g
theorem z9f {a:z08} (h:zg8 a=0):z4l a=0:=by
 unfold zg8 at h;by_cases hc:z4l a=0
 ·exact hc
 ·rw [if_neg hc] at h; exact h
theorem z17w {g:z00} (h:z28 g) {o:z08} (ho:o∈g.Ops):inI o.Act.Value.Num∧o.Act.Value.Text.length≤9223372036854775807:=by
 have:=h.2.1.1 o ho
 exact ⟨this.2.2.2.1.2.2.1.2.1,this.2.2.2.1.2.2.1.2.2.2.1⟩
def zkb (g:z00) (i:Nat) (o:z08):Bool:=decide (zg8 o=0)&&decide (sha (zed o)=zec g i)
theorem z12e (hw:z28 g) (hl:g.Ops.length≤60) (hi:g.IDs.length=g.Ops.length):∀ (k i:Nat),g.Ops.length - i=k→i≤g.Ops.length →
  ∃ r:Sum Int Unit,iter (zd0 g) (i:Int)=some r∧iter (z63 g) (i:Int)=some r∧((r=.inr ()∧∀ j (h:j<g.Ops.length),i≤j→zkb g j g.Ops[j]=true)∨(r=.inl 8∧∃ j,∃ h:j<g.Ops.length,zkb g j g.Ops[j]=false)):=by
 intro k
 induction k with
 | zero =>
  intro i hk hle;refine ⟨.inr (),z1u ?_,z1u ?_,.inl ⟨rfl, fun j hj hij=>by omega⟩⟩
  ·unfold zd0; rw [if_neg (by simp; omega)]
  ·unfold z63; rw [if_neg (by simp; omega)]
 | succ k ih =>
  intro i hk hle;have hlt:i<g.Ops.length:=by omega
  have hii:i<g.IDs.length:=by omega
  obtain ⟨w1,w2⟩:=z17w hw (List.getElem_mem hlt);have e1:zd0 g (i:Int)=if zkb g i g.Ops[i] then some (.inr ((i+1:Nat):Int)) else some (.inl (.inl 8)):=by
   unfold zd0 zkb;rw [if_pos (by simpa using hlt),z0g hlt];simp only [bS];rw [zxb _ w1 w2,z0r (by omega)];simp only [bS];by_cases hc:z4l g.Ops[i]=0
   ·rw [if_pos hc];simp only [];rw [if_neg (by simp),z0g hii,← z7r hii];simp only [bS];by_cases hs:sha (zed g.Ops[i])=zec g i
    ·rw [decide_eq_true hs,if_neg (by simp),znc _ w1 w2];simp only [bS];by_cases hb:zg8 g.Ops[i]=0
     ·rw [hb]; rfl
     ·rw [if_pos (by simpa using hb),decide_eq_false hb]; rfl
    ·rw [decide_eq_false hs,Bool.and_false]; rfl
   ·have hb:zg8 g.Ops[i]≠0:=fun h=>hc (z9f h);rw [if_neg hc,decide_eq_false hb];simp only [];rw [if_pos (by simpa using hc)]; rfl
  have e2:z63 g (i:Int)=if zkb g i g.Ops[i] then some (.inr ((i+1:Nat):Int)) else some (.inl (.inl 8)):=by
   unfold z63 zkb;rw [if_pos (by simpa using hlt),z0g hlt];simp only [bS];rw [zlk _ w1 w2,z0r (by omega)];simp only [bS];by_cases hb:zg8 g.Ops[i]=0
   ·rw [hb,if_neg (by simp),z0g hii,← z7r hii,zqa _ (z9f hb) w1];simp only [bS];by_cases hs:sha (zed g.Ops[i])=zec g i
    ·rw [decide_eq_true hs]; rfl
    ·rw [decide_eq_false hs]; rfl
   ·rw [if_pos (by simpa using hb),decide_eq_false hb]; rfl
  cases hg:zkb g i g.Ops[i] with
  | false =>
   rw [hg] at e1 e2;exact ⟨_,z1u e1,z1u e2,.inr ⟨rfl,i,hlt,hg⟩⟩
  | true =>
   rw [hg] at e1 e2;obtain ⟨r,h1,h2,h3⟩:=ih (i+1) (by omega) (by omega);refine ⟨r, by rw [z26 e1]; exact h1, by rw [z26 e2]; exact h2,?_⟩;rcases h3 with ⟨h3,h4⟩ | h3
   ·refine .inl ⟨h3, fun j hj hij=>?_⟩;by_cases hji:j=i
    ·subst hji; exact hg
    ·exact h4 j hj (by omega)
   ·exact .inr h3
theorem zmm (hw:z28 g):∃ c:Int,z11 g=some c∧z2y g=some c∧(c=0↔z7o g):=by
 unfold z11 z2y;by_cases hl:60<g.Ops.length
 ·have d:decide (60<(g.Ops.length:Int))=true:=by simp; omega
  rw [d];exact ⟨4,rfl,rfl, by simp, fun h=>by have:=h.e.len; omega⟩
 have d:decide (60<(g.Ops.length:Int))=false:=by simp; omega
 simp only [d,Bool.false_eq_true,if_false];by_cases hi:g.IDs.length=g.Ops.length
 ·have d2:((g.IDs.length:Int) != (g.Ops.length:Int))=false:=by simp; omega
  simp only [d2,Bool.false_eq_true,if_false];obtain ⟨r,h1,h2,h3⟩:=z12e hw (by omega) hi g.Ops.length 0 rfl (by omega);rw [show (0:Int)=((0:Nat):Int) from rfl,h1,h2];rcases h3 with ⟨rfl,h4⟩ | ⟨rfl,j,hj,h4⟩
  ·have hok:z16g g:=fun i h=>by
    have:=h4 i h (by omega)
    unfold zkb at this
    simpa using this
   obtain ⟨c,s1,s2,s3⟩:=zvl (g:=g) (by omega) hi fun i h=>⟨(z85 (z9f (hok i h).1)).1,(z85 (z9f (hok i h).1)).2.1⟩;refine ⟨c,?_,?_,s3.trans ⟨fun ⟨a,b,d⟩=>⟨⟨by omega,hi,a, fun i h=>⟨(z85 (z9f (hok i h).1)).1,(z85 (z9f (hok i h).1)).2.1⟩⟩,hok,b,d⟩, fun h=>⟨h.e.ri,h.ins,h.wf⟩⟩⟩
   ·simp only [zx0]; rw [s1]; simp only [bS]
   ·simp only [zx0]; rw [s2]; simp only [bS]
  ·refine ⟨8,rfl,rfl, by simp, fun h=>?_⟩
   have:=h.ops j hj
   unfold zkb at h4;simp [this] at h4
 ·have d2:((g.IDs.length:Int) != (g.Ops.length:Int))=true:=by simp; omega
  rw [d2];exact ⟨8,rfl,rfl, by simp, fun h=>absurd h.e.ids hi⟩
end
section
open Go
variable {g:z00}
theorem znn {κ β:Type} [DecidableEq κ] (k:κ) (v:β) (x:κ):∀ m:List (κ × β),zj9 (zsu m k v) x=if x=k then some v else zj9 m x
 | []=>rfl
 | p::m=>by
  have ih:=znn k v x m;unfold zsu;by_cases h:k=p.1
  ·rw [if_pos h];show (if x=p.1 then some v else zj9 m x)=if x=k then some v else if x=p.1 then some p.2 else zj9 m x
   rw [← h];by_cases hx:x=k
   ·rw [if_pos hx,if_pos hx]
   ·rw [if_neg hx,if_neg hx,if_neg hx]
  ·rw [if_neg h];show (if x=p.1 then some p.2 else zj9 (zsu m k v) x)=if x=k then some v else if x=p.1 then some p.2 else zj9 m x
   rw [ih];by_cases hx:x=p.1
   ·rw [if_pos hx,if_pos hx,if_neg (fun e=>h (by rw [← hx,e]))]
   ·rw [if_neg hx,if_neg hx]
def zjo (g:z00) (m:List (ID × Int)):Prop:=∀ x∈g.IDs,(zj9 m x).getD 0=(g.IDs.idxOf x:Int)
theorem zn0 (E:zay g):∃ m,z48 g=some m∧zjo g m:=by
 have hlen:=E.len;have hids:=E.ids;have main:=zap (F:=z4c g) g.IDs.length
  (fun i s=>s.2=(i:Int)∧∀ x,x∈g.IDs→g.IDs.idxOf x<i→(zj9 s.1 x).getD 0=(g.IDs.idxOf x:Int))
  (fun m=>zjo g m)
  (fun i s hi hs=>by
   obtain ⟨m,i'⟩:=s;obtain ⟨h1,h2⟩:=hs;simp only at h1 h2;subst h1;refine ⟨(zsu m g.IDs[i] (i:Int),((i+1:Nat):Int)),?_,rfl, fun x hx hlt=>?_⟩
   ·unfold z4c;rw [if_pos (by simpa using hi)];simp only [];rw [z0g hi,z0r (by omega)];simp only [bS]
   ·simp only [];rw [znn];by_cases he:x=g.IDs[i]
    ·rw [if_pos he,he,z79 E.ri hi]; rfl
    ·rw [if_neg he];refine h2 x hx ?_;have hne:g.IDs.idxOf x≠i:=fun e=>he (by subst e; simp)
     omega)
  (fun s hs=>by
   obtain ⟨m,i'⟩:=s;obtain ⟨h1,h2⟩:=hs;simp only at h1 h2;subst h1;refine ⟨m,?_, fun x hx=>h2 x hx (List.idxOf_lt_length_of_mem hx)⟩;unfold z4c
   rw [if_neg (by simp)])
  (([]:List (ID × Int)),0) 0 (Nat.zero_le _) ⟨rfl, fun x hx h=>by omega⟩
 obtain ⟨m,h1,h2⟩:=main;refine ⟨m,?_,h2⟩;unfold z48;rw [h1];simp only [bS]
inductive Rch (P:Nat→List Nat) (S:List Nat):Nat→Prop
 | base {i:Nat}:i∈S→Rch P S i
 | step {i p:Nat}:Rch P S i→p∈P i→Rch P S p
def unm (n:Nat) (m:Nat→Bool):List Nat:=(List.range n).filter fun i=>!m i
theorem zsg (n:Nat) (m:Nat→Bool):(unm n m).Nodup:=List.Pairwise.filter _ List.nodup_range
theorem zpt {n:Nat} {m:Nat→Bool} {i:Nat}:i∈unm n m↔i<n∧m i=false:=by unfold unm; simp
theorem z131 {n:Nat} {m m':Nat→Bool} (h:∀ i,m i=true→m' i=true):(unm n m').length≤(unm n m).length :=
 z9l _ _ (zsg n m') fun x hx=>by
  rw [zpt] at *;refine ⟨hx.1,?_⟩
  cases hm:m x with
  | false=>rfl
  | true=>have:=h x hm; rw [hx.2] at this; exact absurd this (by simp)
theorem z165 {n:Nat} {m m':Nat→Bool} (h:∀ i,m i=true→m' i=true) {y:Nat} (hy:y<n) (h1:m y=false) (h2:m' y=true):(unm n m').length<(unm n m).length:=by
 have hin:y∈unm n m:=zpt.2 ⟨hy,h1⟩
 have:=z9l (unm n m') ((unm n m).erase y) (zsg n m') fun x hx=>by
  have hne:x≠y:=fun e=>by subst e; rw [zpt] at hx; rw [h2] at hx; exact absurd hx.2 (by simp)
  rw [List.mem_erase_of_ne hne];rw [zpt] at *;refine ⟨hx.1,?_⟩
  cases hm:m x with
  | false=>rfl
  | true=>have:=h x hm; rw [hx.2] at this; exact absurd this (by simp)
 rw [List.length_erase_of_mem hin] at this
 have:=List.length_pos_of_mem hin
 omega
structure Grow (P:Nat→List Nat) (S:List Nat) (m m':Nat→Bool):Prop where
 sub:∀ i,m i=true→m' i=true
 src:∀ i∈S,m' i=true
 new:∀ i,m' i=true→m i=true∨Rch P S i
 clo:∀ i,m' i=true→m i=true∨∀ p∈P i,m' p=true
theorem zuj {i:Nat} {x:ID} (h:zfw g=true) (hx:x∈zx3 g i):x∈g.IDs∧g.IDs.idxOf x∈z1k g i:=⟨zcw h i x hx,List.mem_map.2 ⟨x,hx,rfl⟩⟩
theorem Rch.mono {P:Nat→List Nat} {S T:List Nat} (h:∀ x∈S,x∈T) {i:Nat} (hr:Rch P S i):Rch P T i:=by
 induction hr with
 | base h1=>exact .base (h _ h1)
 | step _ h2 ih=>exact .step ih h2
theorem Rch.thru {P:Nat→List Nat} {S T:List Nat} (h:∀ x∈S,Rch P T x) {i:Nat} (hr:Rch P S i):Rch P T i:=by
 induction hr with
 | base h1=>exact h _ h1
 | step _ h2 ih=>exact .step ih h2
theorem z13m (E:zay g) {σ:Type} (xs:List ID) (hxs:∀ x∈xs,x∈g.IDs) (hl:xs.length≤100) (F:(List Bool × Int)→Option (Sum (List Bool) (List Bool × Int))) (V:ID→List Bool→Option (List Bool)) (m0:Nat→Bool) (N:Nat)
  (hF:∀ m (i:Nat) (h:i<xs.length),F (m,(i:Int))=(V xs[i] m >>= fun r=>some (.inr (r,((i+1:Nat):Int))))) (hF2:∀ m,F (m,(xs.length:Int))=some (.inl m))
  (hV:∀ m x,x∈xs→(∀ i,m0 i=true→m i=true)→∃ m',V x (tab g.Ops.length m)=some (tab g.Ops.length m')∧Grow (z1k g) [g.IDs.idxOf x] m m') :
  ∃ m',iter F (tab g.Ops.length m0,0)=some (tab g.Ops.length m')∧Grow (z1k g) (xs.map fun x=>g.IDs.idxOf x) m0 m':=by
 have main:=zap (F:=F) xs.length
  (fun i s=>∃ m,s=(tab g.Ops.length m,(i:Int))∧Grow (z1k g) ((xs.take i).map fun x=>g.IDs.idxOf x) m0 m)
  (fun r=>∃ m',r=tab g.Ops.length m'∧Grow (z1k g) (xs.map fun x=>g.IDs.idxOf x) m0 m')
  (fun i s hi hs=>by
   obtain ⟨m,rfl,hm⟩:=hs;obtain ⟨m',e1,e2⟩:=hV m xs[i] (List.getElem_mem hi) hm.sub;refine ⟨_, by rw [hF _ i hi,e1,bS],m',rfl,?_⟩;have et:(xs.take (i+1)).map (fun x=>g.IDs.idxOf x)=(xs.take i).map (fun x=>g.IDs.idxOf x)++[g.IDs.idxOf xs[i]]:=by
    rw [List.take_add_one,List.getElem?_eq_getElem hi,List.map_append]; rfl
   rw [et];refine ⟨fun j hj=>e2.sub j (hm.sub j hj), fun j hj=>?_, fun j hj=>?_, fun j hj=>?_⟩
   ·rcases List.mem_append.1 hj with h | h
    ·exact e2.sub j (hm.src j h)
    ·exact e2.src j h
   ·rcases e2.new j hj with h | h
    ·rcases hm.new j h with h | h
     ·exact .inl h
     ·exact .inr (h.mono fun x hx=>List.mem_append.2 (.inl hx))
    ·exact .inr (h.mono fun x hx=>List.mem_append.2 (.inr hx))
   ·rcases e2.clo j hj with h | h
    ·rcases hm.clo j h with h | h
     ·exact .inl h
     ·exact .inr fun p hp=>e2.sub p (h p hp)
    ·exact .inr h)
  (fun s hs=>by
   obtain ⟨m,rfl,hm⟩:=hs;refine ⟨_,hF2 _,m,rfl,?_⟩
   rw [List.take_length] at hm; exact hm)
  (tab g.Ops.length m0,((0:Nat):Int)) 0 (Nat.zero_le _) ⟨m0,rfl, by simp, by simp, fun j hj=>.inl hj, fun j hj=>.inl hj⟩
 obtain ⟨r,h1,m',rfl,h2⟩:=main;exact ⟨m',h1,h2⟩
theorem zvc (E:zay g) (h:zfw g=true) {r:List (ID × Int)} (hr:zjo g r):∀ (N:Nat) (m:Nat→Bool) (x:ID),x∈g.IDs→(unm g.Ops.length m).length<N→∃ m',z34 N x r (tab g.Ops.length m) g=some (tab g.Ops.length m')∧Grow (z1k g) [g.IDs.idxOf x] m m'
 | 0,_,_,_,hn=>by omega
 | N+1,m,x,hx,hn=>by
  have hlen:=E.len;have hk:g.IDs.idxOf x<g.Ops.length:=by rw [← E.ids]; exact List.idxOf_lt_length_of_mem hx
  show ∃ m',z78 (z34 N) x r (tab g.Ops.length m) g=_∧_;unfold z78;rw [hr x hx];simp only [bS];rw [zaq hk];simp only [bS]
  cases hm:m (g.IDs.idxOf x) with
  | true =>
   rw [if_pos rfl];exact ⟨m,rfl, fun i hi=>hi, fun i hi=>by rw [List.mem_singleton] at hi; subst hi; exact hm, fun i hi=>.inl hi, fun i hi=>.inl hi⟩
  | false =>
   rw [if_neg (by simp),z0g hk];simp only [bS,Int.toNat_natCast]
   let m1:=fun i=>if i=g.IDs.idxOf x then true else m i
   have hs1:∀ i,m i=true→m1 i=true:=fun i hi=>by
    show (if _ then _ else _)=true
    split
    ·rfl
    ·exact hi
   have h1x:m1 (g.IDs.idxOf x)=true:=if_pos rfl;have hset:(tab g.Ops.length m).set (g.IDs.idxOf x) true=tab g.Ops.length m1:=zhh hk h1x fun j _ hj=>if_neg hj;rw [hset];have hu:=z165 hs1 hk hm h1x;have hop:zx3 g (g.IDs.idxOf x)=(g.Ops[g.IDs.idxOf x]).Preds:=z5h hk;have h4:=E.four (g.IDs.idxOf x);rw [hop] at h4;obtain ⟨m',e1,e2⟩:=z13m (σ:=Unit) E (g.Ops[g.IDs.idxOf x]).Preds (fun y hy=>(zuj h (by rw [hop]; exact hy)).1) (by omega)
    (z8k r g (z34 N) g.Ops[g.IDs.idxOf x]) (fun y l=>z34 N y r l g) m1 N
    (fun l i hi=>by
     unfold z8k;rw [if_pos (by simpa using hi)];simp only [];rw [z0g hi,z0r (by omega)]
     simp only [bS])
    (fun l=>by
     unfold z8k
     rw [if_neg (by simp)])
    (fun l y hy hsub=>zvc E h hr N l y (zuj h (by rw [hop]; exact hy)).1 (by have:=z131 (n:=g.Ops.length) hsub; omega))
   refine ⟨m',e1,?_⟩;have hpe:((g.Ops[g.IDs.idxOf x]).Preds.map fun x=>g.IDs.idxOf x)=z1k g (g.IDs.idxOf x):=by unfold z1k; rw [hop]
   rw [hpe] at e2;have hxx:m' (g.IDs.idxOf x)=true:=e2.sub _ h1x;refine ⟨fun i hi=>e2.sub i (hs1 i hi), fun i hi=>by rw [List.mem_singleton] at hi; subst hi; exact hxx, fun i hi=>?_, fun i hi=>?_⟩
   ·rcases e2.new i hi with h | h
    ·by_cases hix:i=g.IDs.idxOf x
     ·exact .inr (.base (by rw [hix]; simp))
     ·have:m1 i=m i:=if_neg hix
      rw [this] at h; exact .inl h
    ·exact .inr (h.thru fun y hy=>.step (.base (by simp)) hy)
   ·rcases e2.clo i hi with h | h
    ·by_cases hix:i=g.IDs.idxOf x
     ·rw [hix]; exact .inr fun p hp=>e2.src p hp
     ·have:m1 i=m i:=if_neg hix
      rw [this] at h; exact .inl h
    ·exact .inr h
theorem z10s (E:zay g) (h:zfw g=true) (xs:List ID) (hxs:∀ x∈xs,x∈g.IDs) (hl:xs.length≤100):∃ m,zcv g xs=some (tab g.Ops.length m)∧∀ i,m i=true↔Rch (z1k g) (xs.map fun x=>g.IDs.idxOf x) i:=by
 have hlen:=E.len;obtain ⟨r,e1,e2⟩:=zn0 E;have hu:(unm g.Ops.length fun _=>false).length≤60:=by
  have:=List.length_filter_le (fun i=>!(false:Bool)) (List.range g.Ops.length)
  unfold unm; simp at this ⊢; omega
 obtain ⟨m',e3,e4⟩:=z13m (σ:=Unit) E xs hxs hl (zag g xs r) (fun y l=>z34 1000 y r l g) (fun _=>false) 1000
  (fun l i hi=>by
   unfold zag;rw [if_pos (by simpa using hi)];simp only [];rw [z0g hi,z0r (by omega)]
   simp only [bS])
  (fun l=>by
   unfold zag
   rw [if_neg (by simp)])
  (fun l y hy hsub=>zvc E h e2 1000 l y (hxs y hy) (by have:=z131 (n:=g.Ops.length) hsub; omega))
 refine ⟨m',?_, fun i=>⟨fun hi=>(e4.new i hi).resolve_left (by simp), fun hi=>?_⟩⟩
 ·unfold zcv;rw [e1];simp only [bS];rw [zis (by have:=E.ids; omega) (by have:=E.ids; omega),E.ids,zf8];simp only [bS];rw [e3];simp only [bS]
 ·induction hi with
  | base hs=>exact e4.src _ hs
  | step _ hp ih=>exact ((e4.clo _ ih).resolve_left (by simp)) _ hp
def z8w (g:z00) (m:Nat→Bool):List ID:=((List.range g.Ops.length).filter m).map (zec g)
theorem zxx (E:zay g) (m:Nat→Bool):zc5 g (tab g.Ops.length m)=some (z8w g m):=by
 have hlen:=E.len;have hl:∀ i,i≤g.Ops.length→(((List.range i).filter m).map (zec g)).length≤60:=fun i hi=>by
  have:=List.length_filter_le m (List.range i)
  simp at this ⊢; omega
 have:iter (z6o g (tab g.Ops.length m)) ([],0)=some (z8w g m):=by
  have:=z2k (F:=z6o g (tab g.Ops.length m)) (b:=z8w g m) g.Ops.length (fun i=>(((List.range i).filter m).map (zec g),(i:Int))) (fun i hi=>?_) ?_
  ·simpa using this
  ·have hii:i<g.IDs.length:=by rw [E.ids]; exact hi
   have hli:=hl i (by omega);unfold z6o;rw [if_pos (by rw [zje]; simpa using hi)]
   simp only [];rw [zaq hi,List.range_succ,List.filter_append,List.map_append,z0r (by omega)];simp only [bS]
   cases hm:m i with
   | true =>
    rw [if_pos rfl,z0g hii];simp only [bS];rw [z1t (by simp only [List.length_cons,List.length_nil]; omega),List.filter_cons_of_pos (by exact hm),← z7r hii];simp only [bS]; rfl
   | false =>
    rw [if_neg (by simp),List.filter_cons_of_neg (by rw [hm]; simp)]
    simp
  ·unfold z6o;rw [if_neg (by rw [zje]; simp)]; rfl
 unfold zc5;rw [this];simp only [bS]
theorem ze3 (E:zay g) {m:Nat→Bool} {x:ID}:x∈z8w g m↔x∈g.IDs∧m (g.IDs.idxOf x)=true:=by
 unfold z8w;rw [List.mem_map]
 constructor
 ·rintro ⟨i,hi,rfl⟩
  rw [List.mem_filter,List.mem_range] at hi;have hii:i<g.IDs.length:=by rw [E.ids]; exact hi.1
  refine ⟨by rw [z7r hii]; exact List.getElem_mem _,?_⟩;rw [zfz E hi.1]; exact hi.2
 ·rintro ⟨h1,h2⟩
  refine ⟨_,?_,zeu h1⟩;rw [List.mem_filter,List.mem_range,← E.ids];exact ⟨List.idxOf_lt_length_of_mem h1,h2⟩
theorem zgx (E:zay g) (m:Nat→Bool):z8b (z8w g m)=true:=by
 rw [z8m];unfold z8w;rw [List.pairwise_map]
 have:(List.range g.Ops.length).Pairwise fun a b=>a<g.Ops.length∧b<g.Ops.length∧a<b:=by
  rw [List.pairwise_iff_getElem];intro i j hi hj hij;simp at hi hj ⊢;omega
 refine (this.filter m).imp fun {a b} hab=>?_;have ha:a<g.IDs.length:=by rw [E.ids]; exact hab.1
 have hb:b<g.IDs.length:=by rw [E.ids]; exact hab.2.1
 rw [z7r ha,z7r hb];exact zfr E.ri ha hb hab.2.2
theorem zbt:∀ (l m:List ID),l.Pairwise (fun a b=>kd a<kd b)→m.Pairwise (fun a b=>kd a<kd b)→(∀ x,x∈l↔x∈m)→l=m
 | [],m,_,_,h=>by
  cases m with
  | nil=>rfl
  | cons b m=>have:=(h b).2 (by simp); simp at this
 | a::l,[],_,_,h=>by have:=(h a).1 (by simp); simp at this
 | a::l,b::m,h1,h2,h=>by
  obtain ⟨p1,p2⟩:=List.pairwise_cons.1 h1;obtain ⟨q1,q2⟩:=List.pairwise_cons.1 h2;have hab:a=b:=by
   have ha:=(h a).1 (by simp);have hb:=(h b).2 (by simp);rcases List.mem_cons.1 ha with e | ha'
   ·exact e
   ·rcases List.mem_cons.1 hb with e | hb'
    ·exact e.symm
    ·have:=q1 a ha'; have:=p1 b hb'; omega
  subst hab
  congr 1
  refine zbt l m p2 q2 fun x=>⟨fun hx=>?_, fun hx=>?_⟩
  ·rcases List.mem_cons.1 ((h x).1 (by simp [hx])) with e | h'
   ·subst e; have:=p1 x hx; omega
   ·exact h'
  ·rcases List.mem_cons.1 ((h x).2 (by simp [hx])) with e | h'
   ·subst e; have:=q1 x hx; omega
   ·exact h'
end
section
open Go
variable {g:z00}
theorem zeq (G:z7o g) {x:ID} (h:x∈g.IDs):g.IDs.idxOf x<g.Ops.length:=by rw [← G.e.ids]; exact List.idxOf_lt_length_of_mem h
theorem zqf {s:List ID} (hs:z8b s=true) (h:∀ y∈s,y∈g.IDs):s.length≤g.IDs.length:=z9l _ _ (z99 hs) h
def top (g:z00) (i x:Nat):Bool:=(List.range i).all fun k=>!decide (x∈z1k g k)
theorem z11m (i x:Nat):top g (i+1) x=(top g i x&&!decide (x∈z1k g i)):=by
 unfold top; rw [List.range_succ,List.all_append]; simp
theorem z11a (E:zay g) (h:zfw g=true) {r:List (ID × Int)} (hr:zjo g r) {i:Nat} (hi:i<g.Ops.length) (m:Nat→Bool):iter (z7y r g.Ops[i]) (tab g.Ops.length m,0)=some (tab g.Ops.length fun x=>m x&&!decide (x∈z1k g i)):=by
 have hlen:=E.len;have h4:=(E.op i hi).1;have hpl:(z1k g i).length=g.Ops[i].Preds.length:=by unfold z1k; rw [z5h hi]; simp
 have:=z2k (F:=z7y r g.Ops[i]) (b:=tab g.Ops.length fun x=>m x&&!decide (x∈z1k g i)) g.Ops[i].Preds.length (fun j=>(tab g.Ops.length (fun x=>m x&&!decide (x∈(z1k g i).take j)),(j:Int))) (fun j hj=>?_) ?_
 ·simpa using this
 ·have hin:g.Ops[i].Preds[j]∈g.IDs:=zcw h i _ (by rw [z5h hi]; exact List.getElem_mem hj);have hk:g.IDs.idxOf g.Ops[i].Preds[j]<g.Ops.length:=by rw [← E.ids]; exact List.idxOf_lt_length_of_mem hin
  have hpj:(z1k g i)[j]'(by omega)=g.IDs.idxOf g.Ops[i].Preds[j]:=by
   unfold z1k;simp only [z5h hi,List.getElem_map]
  unfold z7y;rw [if_pos (by simpa using hj)];simp only [];rw [z0g hj];simp only [bS];rw [hr _ hin,zaq hk];simp only [bS,Int.toNat_natCast];rw [z0r (by omega)];have hset:(tab g.Ops.length (fun x=>m x&&!decide (x∈(z1k g i).take j))).set (g.IDs.idxOf g.Ops[i].Preds[j]) false=tab g.Ops.length (fun x=>m x&&!decide (x∈(z1k g i).take (j+1))):=by
   refine zhh hk ?_ fun x hx hne=>?_
   ·have:g.IDs.idxOf g.Ops[i].Preds[j]∈(z1k g i).take (j+1):=by
     rw [List.take_add_one,List.getElem?_eq_getElem (by omega),hpj];exact List.mem_append.2 (.inr (List.mem_singleton.2 rfl))
    rw [decide_eq_true this]; simp
   ·have:(x∈(z1k g i).take (j+1))↔(x∈(z1k g i).take j):=by
     rw [List.take_add_one,List.getElem?_eq_getElem (by omega),hpj,List.mem_append];exact ⟨fun h=>h.resolve_right fun e=>hne (List.mem_singleton.1 e),.inl⟩
    simp only [this]
  rw [hset]
 ·unfold z7y;rw [if_neg (by simp),← hpl,List.take_length]
theorem zw1 (E:zay g) (h:zfw g=true) {r:List (ID × Int)} (hr:zjo g r):iter (z81 g r) (tab g.Ops.length (fun _=>true),0)=some (tab g.Ops.length (top g g.Ops.length)):=by
 have hlen:=E.len
 have:=z2k (F:=z81 g r) (b:=tab g.Ops.length (top g g.Ops.length)) g.Ops.length (fun i=>(tab g.Ops.length (top g i),(i:Int))) (fun i hi=>?_) ?_
 ·have e0:top g 0=fun _=>true:=by funext x; unfold top; simp
  rw [e0] at this; exact this
 ·unfold z81;rw [if_pos (by simpa using hi)];simp only [];rw [z0g hi];simp only [bS];rw [z11a E h hr hi,z0r (by omega)];simp only [bS]
  have:(fun x=>top g i x&&!decide (x∈z1k g i))=top g (i+1):=by funext x; rw [z11m]
  rw [this]
 ·unfold z81;rw [if_neg (by simp)]
theorem z188 (n:Nat) (h:n≤1000):iter (z87 (List.replicate n false)) (List.replicate n false,0)=some (tab n fun _=>true):=by
 have:=z2k (F:=z87 (List.replicate n false)) (b:=tab n fun _=>true) n (fun i=>(tab n (fun x=>decide (x<i)),(i:Int))) (fun i hi=>?_) ?_
 ·have e0:tab n (fun x=>decide (x<0))=List.replicate n false:=by
   rw [zf8]; exact zfh fun j _=>by simp
  rw [e0] at this; exact this
 ·unfold z87;rw [if_pos (by simpa using hi)];simp only [];rw [zaq hi,z0r (by omega)];simp only [bS,Int.toNat_natCast]
  rw [zhh (g:=fun x=>decide (x<i+1)) hi (by simp) (fun j _ hj=>by
   rw [decide_eq_decide]; omega)]
 ·unfold z87;rw [if_neg (by simp)];simp only [];rw [zfh (f:=fun x=>decide (x<n)) (g:=fun _=>true) fun j hj=>by simpa using hj]
end
section
open Go
variable {P:Nat→List Nat} {n:Nat}
def zhf (P:Nat→List Nat) (Q:List Nat) (i:Nat):Bool:=!decide (i∈Q)&&decide (∀ p∈P i,p∈Q)
theorem zn5 {Q:List Nat} {i:Nat}:zhf P Q i=true↔i∉Q∧∀ p∈P i,p∈Q:=by
 unfold zhf; rw [Bool.and_eq_true,Bool.not_eq_true',decide_eq_false_iff_not,decide_eq_true_iff]
structure zxk (P:Nat→List Nat) (n:Nat) (Q:List Nat) (i:Nat):Prop where
 lt:i<n
 can:zhf P Q i=true
 least:∀ j,j<i→zhf P Q j=false
inductive zlc (P:Nat→List Nat) (n:Nat):List Nat→Prop
 | nil:zlc P n []
 | snoc {Q:List Nat} {i:Nat}:zlc P n Q→zxk P n Q i→zlc P n (Q++[i])
theorem zlc.got {Q:List Nat} (h:zlc P n Q):Got P n Q∧Topo P Q:=by
 induction h with
 | nil=>exact ⟨⟨by simp, by simp, by simp⟩, fun k hk=>by simp at hk⟩
 | @snoc Q i _ hi ih =>
  obtain ⟨h1,h2⟩:=zn5.1 hi.can;refine ⟨⟨?_, fun x hx=>?_, fun x hx=>?_⟩,ih.2.snoc h2⟩
  ·rw [List.nodup_append];exact ⟨ih.1.nodup, by simp, fun a ha b hb e=>by rw [List.mem_singleton] at hb; subst hb; exact h1 (e ▸ ha)⟩
  ·rcases List.mem_append.1 hx with h | h
   ·exact ih.1.lt x h
   ·rw [List.mem_singleton] at h; subst h; exact hi.lt
  ·rcases List.mem_append.1 hx with h | h
   ·exact ih.1.wf x h
   ·rw [List.mem_singleton] at h; subst h; exact .mk _ fun p hp=>ih.1.wf p (h2 p hp)
theorem zvn (f:Nat→Bool):∀ (m i:Nat),i≤m→f i=true→∃ j,j≤m∧f j=true∧∀ k,k<j→f k=false
 | 0,i,h,hf=>⟨0,Nat.le_refl _, by rw [show i=0 by omega] at hf; exact hf, fun k hk=>by omega⟩
 | m+1,i,h,hf=>by
  by_cases hm:∃ i,i≤m∧f i=true
  ·obtain ⟨i,h1,h2⟩:=hm;obtain ⟨j,j1,j2,j3⟩:=zvn f m i h1 h2;exact ⟨j, by omega,j2,j3⟩
  ·refine ⟨i,h,hf, fun k hk=>?_⟩
   cases hfk:f k with
   | false=>rfl
   | true=>exact absurd ⟨k, by omega,hfk⟩ hm
theorem z15d (hall:∀ i,i<n→Wf P i) (hlt:∀ i,∀ p∈P i,p<n) {Q:List Nat} (hQ:Got P n Q) (hl:Q.length<n):∃ i,zxk P n Q i:=by
 have h1:¬ ∀ i,i<n→i∈Q:=fun h=>(zqd hQ.nodup hQ.lt).2 h hl;have key:∀ i,Wf P i→i<n→i∉Q→∃ j,j<n∧zhf P Q j=true:=by
  intro i hi
  induction hi with
  | mk i hp ih =>
   intro hi hn;by_cases h:∀ p∈P i,p∈Q
   ·exact ⟨i,hi,zn5.2 ⟨hn,h⟩⟩
   ·refine Classical.byContradiction fun hc=>h fun p hp=>?_;refine Decidable.byContradiction fun hpq=>hc (ih p hp (hlt i p hp) hpq)
 have h2:∃ i,i<n∧i∉Q:=Classical.byContradiction fun hc=>h1 fun i hi=>Decidable.byContradiction fun h=>hc ⟨i,hi,h⟩;obtain ⟨i,hi,hiQ⟩:=h2;obtain ⟨j,hj,hc⟩:=key i (hall i hi) hi hiQ;obtain ⟨k,k1,k2,k3⟩:=zvn (zhf P Q) j j (Nat.le_refl _) hc;exact ⟨k, by omega,k2,k3⟩
end
section
open Go
variable {g:z00}
theorem zp9 {r:List (ID × Int)} (hr:zjo g r) (E:zay g) (f:Nat→Bool) (ps:List ID) (hin:∀ x∈ps,x∈g.IDs) (hl:ps.length≤1000):∀ (rest pre:List ID),ps=pre++rest →
  ∃ b:Sum Int Unit,iter (z14 ps (tab g.Ops.length f) r) (pre.length:Int)=some b∧((b=.inr ()∧(rest.all fun x=>f (g.IDs.idxOf x))=true)∨∃ i:Nat,b=.inl (i:Int)∧(rest.all fun x=>f (g.IDs.idxOf x))=false)
 | [],pre,e=>by
  refine ⟨.inr (),z1u ?_,.inl ⟨rfl,rfl⟩⟩;unfold z14;rw [if_neg (by rw [e]; simp)]
 | c::rest,pre,e=>by
  have hlen:pre.length<ps.length:=by rw [e]; simp
  have hget:ps[pre.length]'hlen=c:=by simp [e]
  have hc:c∈g.IDs:=hin c (by rw [e]; simp)
  have hk:g.IDs.idxOf c<g.Ops.length:=by rw [← E.ids]; exact List.idxOf_lt_length_of_mem hc
  have hF:z14 ps (tab g.Ops.length f) r (pre.length:Int)=if f (g.IDs.idxOf c) then some (.inr ((pre.length+1:Nat):Int)) else some (.inl (.inl (pre.length:Int))):=by
   unfold z14 zbn;rw [if_pos (by simpa using hlen),z0g hlen,hget,z0r (by omega)];simp only [bS];rw [hr c hc,zaq hk];simp only [bS]
   cases f (g.IDs.idxOf c) <;> rfl
  rw [List.all_cons]
  cases hf:f (g.IDs.idxOf c) with
  | false=>rw [hf] at hF; exact ⟨_,z1u hF,.inr ⟨_,rfl,rfl⟩⟩
  | true =>
   rw [hf] at hF;rw [z26 hF];obtain ⟨b,h1,h2⟩:=zp9 hr E f ps hin hl rest (pre++[c]) (by simp [e]);simp only [List.length_append,List.length_cons,List.length_nil,Nat.zero_add] at h1;exact ⟨b,h1, by rw [Bool.true_and]; exact h2⟩
theorem ztj {r:List (ID × Int)} (hr:zjo g r) (E:zay g) (f:Nat→Bool) (ps:List ID) (hin:∀ x∈ps,x∈g.IDs) (hl:ps.length≤1000):z1d ps (tab g.Ops.length f) r=some (!(ps.all fun x=>f (g.IDs.idxOf x))):=by
 obtain ⟨b,h1,h2⟩:=zp9 hr E f ps hin hl ps [] rfl;unfold z1d z2c;rw [show (0:Int)=(([]:List ID).length:Int) from rfl,h1];rcases h2 with ⟨rfl,h2⟩ | ⟨i,rfl,h2⟩
 ·rw [h2]; rfl
 ·rw [h2];simp only [or_l,bS];rw [decide_eq_true (by simp)]; rfl
theorem zqr {r:List (ID × Int)} (hr:zjo g r) (E:zay g) (h:zfw g=true) (Q:List Nat) {i:Nat} (hi:i<g.Ops.length):zb5 (i:Int) (tab g.Ops.length fun j=>decide (j∈Q)) g r=some (zhf (z1k g) Q i):=by
 have h4:=(E.op i hi).1;unfold zb5;rw [zaq hi,z0g hi];simp only [bS];rw [ztj hr E _ _ (by rw [← z5h hi]; exact zcw h i) (by omega)];simp only [bS,Bool.not_not]
 have:((g.Ops[i]).Preds.all fun x=>decide (g.IDs.idxOf x∈Q))=decide (∀ p∈z1k g i,p∈Q):=by
  rw [Bool.eq_iff_iff,List.all_eq_true,decide_eq_true_iff];unfold z1k;rw [z5h hi]
  constructor
  ·intro hx p hp;rw [List.mem_map] at hp;obtain ⟨x,hx',rfl⟩:=hp
   simpa using hx x hx'
  ·intro hp x hx;rw [decide_eq_true_iff];exact hp _ (List.mem_map.2 ⟨x,hx,rfl⟩)
 rw [this];unfold zhf
 cases decide (i∈Q) <;> rfl
theorem z15c {r:List (ID × Int)} (hr:zjo g r) (E:zay g) (h:zfw g=true) (Q:List Nat) (s:(List Bool) × (List ID) × Int) (hs:s.1=tab g.Ops.length fun j=>decide (j∈Q)) {i:Nat} (hi:zxk (z1k g) g.Ops.length Q i):iter (z88 g r s) 0=some (i:Int):=by
 have hlen:=E.len;have hlt:=hi.lt
 have:=z2k (F:=z88 g r s) (b:=(i:Int)) i (fun k=>(k:Int)) (fun k hk=>?_) ?_
 ·exact this
 ·unfold z88;rw [hs,zqr hr E h Q (by omega),hi.least k hk,z0r (by omega)];rfl
 ·unfold z88;rw [hs,zqr hr E h Q hi.lt,hi.can];rfl
theorem zv6 (G:z7o g) (h:z11 g=some 0):∃ Q,zct g=some (Q.map (zec g),0)∧zlc (z1k g) g.Ops.length Q∧Q.length=g.Ops.length:=by
 have E:=G.e;have hlen:=E.len;have hids:=E.ids;have hP:=z14s E G.ins;obtain ⟨r,r1,hr⟩:=zn0 E;have main:=zap (F:=zae g r) g.Ops.length
  (fun k s=>∃ Q,s=(tab g.Ops.length (fun j=>decide (j∈Q)),Q.map (zec g),(k:Int))∧zlc (z1k g) g.Ops.length Q∧Q.length=k)
  (fun b=>∃ Q,b=Q.map (zec g)∧zlc (z1k g) g.Ops.length Q∧Q.length=g.Ops.length)
  (fun k s hk hs=>by
   obtain ⟨Q,rfl,h1,h2⟩:=hs;obtain ⟨i,hi⟩:=z15d G.wf hP.lt h1.got.1 (by omega);have hil:=hi.lt;have hii:i<g.IDs.length:=by omega
   refine ⟨(tab g.Ops.length (fun j=>decide (j∈Q++[i])),(Q++[i]).map (zec g),((k+1:Nat):Int)),?_,Q++[i],rfl,.snoc h1 hi, by simp [h2]⟩;unfold zae;rw [if_pos (by simp; omega),z15c hr E G.ins Q _ rfl hi];simp only [bS];rw [zaq hil,z0g hii];simp only [bS,Int.toNat_natCast];rw [z1t (by rw [List.length_map]; simp only [List.length_cons,List.length_nil]; omega),z0r (by omega),zhh (g:=fun j=>decide (j∈Q++[i])) hil (by simp) (fun j _ hj=>by simp [hj]),List.map_append,← z7r hii]
   simp only [bS]
   rfl)
  (fun s hs=>by
   obtain ⟨Q,rfl,h1,h2⟩:=hs;refine ⟨_,?_,Q,rfl,h1,h2⟩;unfold zae
   rw [if_neg (by simp; omega)])
  (List.replicate g.Ops.length false,[],((0:Nat):Int)) 0 (Nat.zero_le _) ⟨[], by rw [zf8]; simp,.nil,rfl⟩
 obtain ⟨b,b1,Q,rfl,b2,b3⟩:=main;refine ⟨Q,?_,b2,b3⟩;unfold zct;rw [h,r1];simp only [bS];rw [if_neg (by simp),zis (by omega) (by omega),hids];simp only [bS];rw [show (0:Int)=((0:Nat):Int) from rfl,b1];rfl
end
section
open Go
variable {g:z00}
structure z113 (g:z00):Prop where
 ops:g.Ops.length≤70
 ids:g.IDs.length≤70
 op:∀ i (h:i<g.Ops.length),g.Ops[i].Preds.length≤20∧g.Ops[i].Act.Key.length≤100∧g.Ops[i].Act.Value.Text.length≤100
theorem z107 (S:z113 g):z83 g=some g:=by
 have h1:=S.ops;have h2:=S.ids;have main:=z2k (F:=z9q g) (b:=g.Ops) g.Ops.length (fun i=>(g.Ops.take i,(i:Int))) (fun i hi=>?_) ?_
 ·unfold z83;rw [z1t (by simp; omega)];simp only [bS,List.nil_append];rw [List.take_zero] at main;rw [show (0:Int)=((0:Nat):Int) from rfl,main];simp only [bS]
 ·have h4:=(S.op i hi).1;unfold z9q z9u;rw [if_pos (by simpa using hi)];simp only [];rw [z0g hi];simp only [bS];rw [z1t (by simp; omega)];simp only [bS,List.nil_append];rw [z1t (by simp; omega),z0r (by omega)];simp only [bS];rw [List.take_add_one,List.getElem?_eq_getElem hi]; rfl
 ·unfold z9q;rw [if_neg (by simp),List.take_length]
theorem zlf (l:List ID) (hl:l.length≤1000):z6s l l=some true:=by
 have:=z2k (F:=z74 l l) (b:=.inr ()) l.length (fun i=>(i:Int)) (fun i hi=>?_) ?_
 ·unfold z6s;rw [if_neg (by simp), show (0:Int)=((0:Nat):Int) from rfl,this]; rfl
 ·unfold z74;rw [if_pos (by simpa using hi),z0g hi,z0r (by omega)];simp only [bS];rw [if_neg (by simp)]
 ·unfold z74;rw [if_neg (by simp)]
theorem zqu (S:z113 g):z89 g g=some true:=by
 have h1:=S.ops;have h2:=S.ids
 have:=z2k (F:=z9k g g) (b:=.inr ()) g.Ops.length (fun i=>(i:Int)) (fun i hi=>?_) ?_
 ·unfold z89;rw [zlf _ (by omega)];simp only [bS];rw [if_neg (by simp),if_neg (by simp), show (0:Int)=((0:Nat):Int) from rfl,this]; rfl
 ·have h4:=(S.op i hi).1;have hs:zbu g.Ops[i] g.Ops[i]=some true:=by
   unfold zbu;rw [if_pos (by simp),zlf _ (by omega)];simp only [bS]
   simp
  unfold z9k;rw [if_pos (by simpa using hi),z0g hi];simp only [bS];rw [hs,z0r (by omega)];simp only [bS];rw [if_neg (by simp)]
 ·unfold z9k;rw [if_neg (by simp)]
end
section
open Go
structure Pos (l:List ID) (x:ID) (k:Nat):Prop where
 le:k≤l.length
 lo:∀ i (h:i<l.length),i<k→kd l[i]<kd x
 hi:∀ i (h:i<l.length),k≤i→kd x≤kd l[i]
theorem Pos.uniq {l:List ID} {x:ID} {k k':Nat} (h:Pos l x k) (h':Pos l x k'):k=k':=by
 have a:=h.le; have b:=h'.le;refine Nat.le_antisymm (Nat.le_of_not_lt fun c=>?_) (Nat.le_of_not_lt fun c=>?_)
 ·have:=h.lo k' (by omega) c; have:=h'.hi k' (by omega) (Nat.le_refl _); omega
 ·have:=h'.lo k (by omega) c; have:=h.hi k (by omega) (Nat.le_refl _); omega
def ziq {α:Type} (l:List α) (k:Nat) (x:α):List α:=l.take k++[x]++l.drop k
theorem zht {α:Type} {l:List α} {k:Nat} {x:α} (h:k≤l.length):(ziq l k x).length=l.length+1:=by
 unfold ziq; simp; omega
theorem zt8 {α:Type} {l:List α} {k i:Nat} {x:α} (h:k≤l.length) (hi:i<k):(ziq l k x)[i]? = l[i]? := by
 unfold ziq;rw [List.append_assoc,List.getElem?_append_left (by simp; omega),List.getElem?_take_of_lt hi]
theorem zu3 {α:Type} {l:List α} {k:Nat} {x:α} (h:k≤l.length):(ziq l k x)[k]? = some x:=by
 unfold ziq;rw [List.append_assoc,List.getElem?_append_right (by simp; omega)];simp [Nat.min_eq_left h]
theorem zti {α:Type} {l:List α} {k i:Nat} {x:α} (h:k≤l.length) (hi:k<i):(ziq l k x)[i]? = l[i - 1]? := by
 unfold ziq;rw [List.getElem?_append_right (by simp; omega),List.getElem?_drop]
 congr 1; simp; omega
theorem zme {α:Type} {l:List α} {k:Nat} {x y:α}:y∈ziq l k x↔y=x∨y∈l:=by
 unfold ziq
 have:y∈l↔y∈l.take k∨y∈l.drop k:=by rw [← List.mem_append,List.take_append_drop]
 rw [this];simp only [List.mem_append,List.mem_singleton]
 constructor
 ·rintro ((h | h) | h) <;> simp [h]
 ·rintro (h | h | h) <;> simp [h]
def insG (g:z00) (k:Nat) (x:ID) (o:z08):z00:=⟨ziq g.IDs k x,ziq g.Ops k o⟩
theorem z118 (l:List ID) (hl:l.length≤4611686018427387903) (hi:z8b l=true) (x:ID) (hx:x∉l):∃ k:Nat,z0q l x=some ((k:Int),false)∧Pos l x k:=by
 obtain ⟨b,h1,k,rfl,h2,h3,h4⟩:=zyj l hl hi x;refine ⟨k,?_,h2,h3,h4⟩;unfold z0q;simp only [bS];rw [h1];simp only [bS];by_cases hk:k<l.length
 ·rw [if_pos (by simpa using hk),z0g hk];simp only [bS];rw [zup];simp only [bS];rw [z16w,decide_eq_false fun (e:l[k]=x)=>hx (e ▸ List.getElem_mem hk)]
 ·rw [if_neg (by simpa using hk)]
theorem zlo (g:z00) (hl:g.IDs.length≤4611686018427387903) (hi:z8b g.IDs=true) (x:ID) (hx:x∉g.IDs):∃ k:Nat,zcs g x=some ((k:Int),false)∧Pos g.IDs x k:=by
 obtain ⟨k,h1,h2⟩:=z118 g.IDs hl hi x hx;refine ⟨k,?_,h2⟩;unfold zcs;rw [h1];simp only [bS]
theorem z11r {l:List ID} (hi:z8b l=true) (x:ID):∃ k,Pos l x k:=by
 induction l with
 | nil=>exact ⟨0,Nat.le_refl _, fun i h=>by simp at h, fun i h=>by simp at h⟩
 | cons y l ih =>
  have h1:=(z8m _).1 hi;obtain ⟨h2,h3⟩:=List.pairwise_cons.1 h1;by_cases hy:kd y<kd x
  ·obtain ⟨k,hk⟩:=ih ((z8m _).2 h3);refine ⟨k+1, by simpa using hk.le, fun i h hik=>?_, fun i h hik=>?_⟩
   ·cases i with
    | zero=>exact hy
    | succ i=>exact hk.lo i (by simpa using h) (by omega)
   ·cases i with
    | zero=>omega
    | succ i=>exact hk.hi i (by simpa using h) (by omega)
  ·refine ⟨0,Nat.zero_le _, fun i h hik=>by omega, fun i h _=>?_⟩
   cases i with
   | zero=>simpa using Nat.le_of_not_lt hy
   | succ i =>
    have hil:i<l.length:=by simpa using h
    have:=h2 l[i] (List.getElem_mem hil)
    simp only [List.getElem_cons_succ]; omega
theorem z13v {l:List ID} {k:Nat} {x:ID} (hk:k≤l.length) (hl:l.length≤1000000):insF l (k:Int) [x]=some (ziq l k x):=by
 unfold insF;rw [z3i ⟨by omega, by simpa using hk,hl,rfl⟩];simp only [bS,Int.toNat_natCast];rfl
theorem zzu {l:List ID} (h:l.length≤1000000):z0p l=some l:=by
 unfold z0p;rw [z1t (by simp; omega)];rfl
theorem zk6 {o:z08} (h:o.Preds.length≤1000):zdm o=some o:=by
 unfold zdm;rw [zzu (by omega)];simp only [bS]
theorem z13d {α:Type} {l:List α} {i:Nat} {x:α} (h:l[i]? = some x):l.take i++[x]=l.take (i+1):=by
 rw [List.take_add_one,h]; rfl
theorem z17q {g:z00} (hl:g.IDs.length≤1000) (hi:z8b g.IDs=true) {x:ID} (hx:x∈g.IDs) (o:z08):zhg g x o=some (g,false):=by
 obtain ⟨k,k1,-,-⟩:=zcb g (by omega) hi x;unfold zhg;rw [k1,decide_eq_true hx];rfl
theorem z143 {g:z00} (hg:g.IDs.length=g.Ops.length) (hl:g.IDs.length≤1000) (hi:z8b g.IDs=true) {x:ID} (hx:x∉g.IDs) {o:z08} (ho:o.Preds.length≤1000) (hp:∀ p∈g.Ops,p.Preds.length≤1000) :
  ∃ k,zhg g x o=some (insG g k x o,true)∧Pos g.IDs x k:=by
 obtain ⟨k,k1,k2⟩:=zlo g (by omega) hi x hx;have hk:=k2.le;have hko:k≤g.Ops.length:=by omega
 refine ⟨k,?_,k2⟩;have hlen:(ziq g.Ops k o).length=g.Ops.length+1:=zht hko;have hleni:(ziq g.IDs k x).length=g.Ops.length+1:=by rw [zht hk,hg]
 have main:=z2k (F:=zi0 g o ((k:Int),false) (ziq g.IDs k x)) (b:=ziq g.Ops k o) (g.Ops.length+1) (fun i=>((ziq g.Ops k o).take i,(i:Int))) (fun i hin=>?_) ?_
 ·unfold zhg;rw [k1];simp only [bS];rw [if_neg (by simp),zzu (by omega)];simp only [bS];rw [z13v hk (by omega)];simp only [bS];rw [List.take_zero] at main;rw [show (([]:List z08),(0:Int))=([],((0:Nat):Int)) from rfl,main];simp only [bS];rfl
 ·have happ:∀ z,(ziq g.Ops k o)[i]? = some z→app 112 ((ziq g.Ops k o).take i) [z]=some ((ziq g.Ops k o).take (i+1)):=fun z hz=>by
   rw [z1t (by simp; omega),z13d hz]
  unfold zi0;simp only [bS];rw [if_pos (by rw [hleni]; simp; omega)];by_cases h1:i<k
  ·have hio:i<g.Ops.length:=by omega
   rw [if_pos (by simpa using h1),z0g hio];simp only [bS];rw [zk6 (hp _ (List.getElem_mem hio))];simp only [bS];rw [happ _ (by rw [zt8 hko h1,List.getElem?_eq_getElem hio]),z0r (by omega)];simp only [bS]
  ·by_cases h2:i=k
   ·subst h2;rw [if_neg (by simp),if_pos (by simp),zk6 ho];simp only [bS];rw [happ _ (zu3 hko),z0r (by omega)];simp only [bS]
   ·have hio:i - 1<g.Ops.length:=by omega
    have e:w64 ((i:Int) - 1)=((i - 1:Nat):Int):=by rw [z18 (by omega) (by omega)]; omega
    rw [if_neg (by simp; omega),if_neg (by simp; omega),e,z0g hio];simp only [bS];rw [zk6 (hp _ (List.getElem_mem hio))];simp only [bS];rw [happ _ (by rw [zti hko (by omega),List.getElem?_eq_getElem hio]),z0r (by omega)];simp only [bS]
 ·unfold zi0;rw [if_neg (by rw [hleni]; simp)]
  rw [List.take_of_length_le (by rw [hlen]; exact Nat.le_refl _)]
theorem z14f {g:z00} (hg:g.IDs.length=g.Ops.length) (hi:z8b g.IDs=true) {x:ID} {o:z08} {k:Nat} (hk:Pos g.IDs x k) (S:z113 (insG g k x o)):z9d g x o=some (insG g k x o):=by
 have hkl:=hk.le;have hlen:g.Ops.length≤69:=by have:=S.ops; unfold insG at this; rw [zht (by omega)] at this; omega
 have main:=zap (F:=za7 g x) k (fun i s=>s=(i:Int)) (fun b=>b=(k:Int)) (fun i s hik hs=>?_) (fun s hs=>?_) 0 0 (Nat.zero_le _) rfl
 ·obtain ⟨b,b1,rfl⟩:=main;unfold z9d;rw [b1];simp only [bS];rw [show (0:Int)=((0:Nat):Int) from rfl,zgg (Nat.zero_le _) hkl];simp only [bS];rw [z1t (by simp; omega)];simp only [bS];rw [z1t (by simp; omega),zgg hkl (Nat.le_refl _)];simp only [bS];rw [z1t (by simp; omega),zgg (Nat.zero_le _) (by omega)];simp only [bS];rw [z1t (by simp; omega)];simp only [bS];rw [z1t (by simp; omega),zgg (by omega) (Nat.le_refl _)]
  simp only [bS];rw [z1t (by simp; omega)];simp only [bS];have e:(⟨[]++List.take (k - 0) (List.drop 0 g.IDs)++[x]++List.take (g.IDs.length - k) (List.drop k g.IDs),[]++List.take (k - 0) (List.drop 0 g.Ops)++[o]++List.take (g.Ops.length - k) (List.drop k g.Ops)⟩:z00)=insG g k x o:=by
   unfold insG ziq;rw [List.take_of_length_le (l:=List.drop k g.IDs) (by simp),List.take_of_length_le (l:=List.drop k g.Ops) (by simp)]
   simp
  rw [e,z107 S];simp only [bS]
 ·subst hs;have h:i<g.IDs.length:=by omega
  refine ⟨_,?_,rfl⟩;unfold za7;rw [if_pos (by simpa using h),z0g h];simp only [bS];rw [zzq];simp only [bS];rw [zs7,decide_eq_true (hk.lo i h hik),if_pos rfl,z0r (by omega)]
 ·subst hs;refine ⟨_,?_,rfl⟩;unfold za7;by_cases h:k<g.IDs.length
  ·rw [if_pos (by simpa using h),z0g h];simp only [bS];rw [zzq];simp only [bS];rw [zs7,decide_eq_false (by have:=hk.hi k h (Nat.le_refl _); omega),if_neg (by simp)]
  ·rw [if_neg (by simpa using h)]
theorem z10t {l:List ID} (hi:z8b l=true) {x:ID} (hx:x∉l) {k:Nat} (hk:Pos l x k):z8b (ziq l k x)=true:=by
 rw [z8m] at hi ⊢;have hsplit:(l.take k++l.drop k).Pairwise (fun a b=>kd a<kd b):=by rw [List.take_append_drop]; exact hi
 obtain ⟨h1,h2,h3⟩:=List.pairwise_append.1 hsplit;have hlo:∀ a∈l.take k,kd a<kd x:=fun a ha=>by
  obtain ⟨i,hi',rfl⟩:=List.getElem_of_mem ha;rw [List.length_take] at hi';rw [List.getElem_take];exact hk.lo i (by omega) (by omega)
 have hhi:∀ a∈l.drop k,kd x<kd a:=fun a ha=>by
  obtain ⟨i,hi',rfl⟩:=List.getElem_of_mem ha;rw [List.length_drop] at hi';rw [List.getElem_drop];have h:=hk.hi (k+i) (by omega) (by omega);have hne:kd x≠kd l[k+i]:=fun e=>hx (zo1 e ▸ List.getElem_mem _);omega
 unfold ziq;rw [List.append_assoc,List.pairwise_append];refine ⟨h1,?_, fun a ha b hb=>?_⟩
 ·rw [List.singleton_append,List.pairwise_cons]; exact ⟨hhi,h2⟩
 ·rw [List.singleton_append] at hb;rcases List.mem_cons.1 hb with rfl | hb
  ·exact hlo a ha
  ·exact h3 a ha b hb
end
section
open Go
variable {g a b:z00}
theorem zww (l m:List ID) (hlm:l.length=m.length) (hl:l.length≤1000):∃ r,iter (z2d l m) 0=some r∧((r=.inl false∧l≠m)∨(r=.inr ()∧l=m)):=by
 refine zej (F:=z2d l m) (fun s=>∃ i:Nat,s=(i:Int)∧i≤l.length∧∀ k (h:k<l.length) (h2:k<m.length),k<i→l[k]=m[k]) (fun s=>l.length - s.toNat) _ ?_ 0 ⟨0,rfl,Nat.zero_le _, fun k _ _ h=>by omega⟩
 rintro s ⟨i,rfl,h1,h2⟩
 by_cases hi:i<l.length
 ·have him:i<m.length:=by omega
  by_cases hc:l[i]=m[i]
  ·refine .inr ⟨((i+1:Nat):Int),?_,⟨i+1,rfl,hi, fun k hk hk2 hki=>?_⟩, by simp; omega⟩
   ·unfold z2d;rw [if_pos (by simpa using hi),z0g hi,z0g him,z0r (by omega)];simp only [bS];rw [if_neg (by simpa using hc)]
   ·by_cases hk':k=i
    ·subst hk'; exact hc
    ·exact h2 k hk hk2 (by omega)
  ·refine .inl ⟨.inl false,?_,.inl ⟨rfl, fun e=>hc (by subst e; rfl)⟩⟩;unfold z2d;rw [if_pos (by simpa using hi),z0g hi,z0g him];simp only [bS];rw [if_pos (by simpa using hc)]
 ·refine .inl ⟨.inr (),?_,.inr ⟨rfl,List.ext_getElem hlm fun k hk hk2=>h2 k hk hk2 (by omega)⟩⟩;unfold z2d;rw [if_neg (by simpa using hi)]
theorem z187 (l m:List ID) (hl:l.length≤1000):z4g l m=some (decide (l=m)):=by
 unfold z4g;by_cases hlm:l.length=m.length
 ·obtain ⟨r,r1,r2⟩:=zww l m hlm hl;rw [if_neg (by simp [hlm]),r1];rcases r2 with ⟨rfl,h⟩ | ⟨rfl,h⟩
  ·rw [decide_eq_false h]; rfl
  ·rw [decide_eq_true h]; rfl
 ·rw [if_pos (by simp; omega),decide_eq_false fun e=>hlm (by rw [e])]
theorem zs4 {p q:z08}:p=q↔p.Author=q.Author∧p.Preds=q.Preds∧p.Stamp=q.Stamp∧p.Act=q.Act∧p.Sig=q.Sig:=by
 cases p; cases q; simp
theorem zuw (p q:z08) (hp:p.Preds.length≤1000):zm6 p q=some (decide (p=q)):=by
 unfold zm6;rw [z187 _ _ hp];simp only [bS];by_cases h1:p.Author=q.Author
 ·by_cases h2:p.Stamp=q.Stamp
  ·by_cases h3:p.Act=q.Act
   ·by_cases h4:p.Sig=q.Sig
    ·simp [zs4,h1,h2,h3,h4]
    ·simp [zs4,h1,h2,h3,h4]
   ·simp [zs4,h1,h2,h3]
  ·simp [zs4,h1,h2]
 ·simp [zs4,h1]
structure Fit (g:z00) (n:Nat):Prop where
 ids:g.IDs.length=g.Ops.length
 len:g.Ops.length≤n
 ri:z8b g.IDs=true
 op:∀ o∈g.Ops,o.Preds.length≤20∧o.Act.Key.length≤100∧o.Act.Value.Text.length≤100
theorem Fit.small {n:Nat} (h:Fit g n) (hn:n≤70):z113 g:=⟨by have:=h.len; omega, by have:=h.len; have:=h.ids; omega, fun i hi=>h.op _ (List.getElem_mem hi)⟩
def posF (l:List ID) (x:ID):Nat:=(l.filter fun y=>decide (kd y<kd x)).length
theorem zmi {l:List ID} (hi:z8b l=true) (x:ID):Pos l x (posF l x):=by
 obtain ⟨k,hk⟩:=z11r hi x;have hkl:=hk.le
 have:posF l x=k:=by
  unfold posF;rw [← List.take_append_drop k l,List.filter_append,List.filter_eq_self.2 fun y hy=>?_,List.filter_eq_nil_iff.2 fun y hy=>?_]
  ·simp; omega
  ·obtain ⟨i,hi',rfl⟩:=List.getElem_of_mem hy;rw [List.length_drop] at hi';rw [List.getElem_drop]
   have:=hk.hi (k+i) (by omega) (by omega)
   simp; omega
  ·obtain ⟨i,hi',rfl⟩:=List.getElem_of_mem hy;rw [List.length_take] at hi';rw [List.getElem_take]
   have:=hk.lo i (by omega) (by omega)
   simpa using this
 rw [this]; exact hk
def zm7 (g:z00) (p:ID × z08):z00:=if p.1∈g.IDs then g else insG g (posF g.IDs p.1) p.1 p.2
theorem zi1 {n:Nat} (h:Fit g n) {p:ID × z08} (hp:p.2.Preds.length≤20∧p.2.Act.Key.length≤100∧p.2.Act.Value.Text.length≤100):Fit (zm7 g p) (n+1):=by
 unfold zm7
 split
 ·exact ⟨h.ids, by have:=h.len; omega,h.ri,h.op⟩
 ·rename_i hx;have hk:=zmi h.ri p.1;have hkl:=hk.le;have hi:=h.ids;refine ⟨?_,?_,z10t h.ri hx hk, fun o ho=>?_⟩
  ·show (ziq g.IDs _ _).length=(ziq g.Ops _ _).length;rw [zht hkl,zht (by omega),hi]
  ·show (ziq g.Ops _ _).length≤_;rw [zht (by omega)]; have:=h.len; omega
  ·rcases zme.1 ho with rfl | ho
   ·exact hp
   ·exact h.op o ho
theorem zy5 {n:Nat} (h:Fit g n) (hn:n≤900) (p:ID × z08) (hp:p.2.Preds.length≤20):zhg g p.1 p.2=some (zm7 g p,!decide (p.1∈g.IDs)):=by
 have h1:=h.len;have h2:=h.ids;unfold zm7;by_cases hx:p.1∈g.IDs
 ·rw [z17q (by omega) h.ri hx,if_pos hx,decide_eq_true hx]; rfl
 ·obtain ⟨k,k1,k2⟩:=z143 h2 (by omega) h.ri hx (o:=p.2) (by omega) (fun q hq=>by have:=(h.op q hq).1; omega);rw [k1,if_neg hx,decide_eq_false hx,k2.uniq (zmi h.ri p.1)]; rfl
theorem z11x {n:Nat} (h:Fit g n) (hn:n≤69) (p:ID × z08) (hp:p.2.Preds.length≤20∧p.2.Act.Key.length≤100∧p.2.Act.Value.Text.length≤100) (hx:p.1∉g.IDs):z9d g p.1 p.2=some (zm7 g p):=by
 have hf:=(zi1 h hp).small (by omega);unfold zm7 at hf ⊢;rw [if_neg hx] at hf ⊢;exact z14f h.ids h.ri (zmi h.ri p.1) hf
def zcm (g:z00) (l:List (ID × z08)):z00:=l.foldl zm7 g
theorem zpf (g:z00) (l:List (ID × z08)) (p:ID × z08):zcm g (l++[p])=zm7 (zcm g l) p:=by unfold zcm; rw [List.foldl_append]; rfl
theorem zmn {n:Nat}:∀ {l:List (ID × z08)} {g:z00},Fit g n→(∀ p∈l,p.2.Preds.length≤20∧p.2.Act.Key.length≤100∧p.2.Act.Value.Text.length≤100)→Fit (zcm g l) (n+l.length):=by
 intro l
 induction l generalizing n with
 | nil=>intro g h _; exact h
 | cons p l ih =>
  intro g h hp
  have:=ih (zi1 h (hp p (by simp))) fun q hq=>hp q (by simp [hq])
  rw [List.length_cons, show n+(l.length+1)=n+1+l.length by omega];exact this
def zf2 (g:z00):List (ID × z08):=g.IDs.zip g.Ops
theorem zo9 (h:g.IDs.length=g.Ops.length) {i:Nat} (hi:i<g.Ops.length):(zf2 g)[i]? = some (g.IDs[i],g.Ops[i]):=by
 unfold zf2; rw [List.getElem?_zip_eq_some]; exact ⟨List.getElem?_eq_getElem (by omega),List.getElem?_eq_getElem hi⟩
theorem zha (h:g.IDs.length=g.Ops.length):(zf2 g).length=g.Ops.length:=by unfold zf2; rw [List.length_zip,h,Nat.min_self]
theorem znj {p:ID × z08} (h:p∈zf2 g):p.1∈g.IDs∧p.2∈g.Ops:=by
 unfold zf2 at h;exact ⟨(List.of_mem_zip h).1,(List.of_mem_zip h).2⟩
def zcz (a b:z00):z00:=zcm a (zf2 b)
def zao (a b:z00):Prop:=∀ i (h:i<b.IDs.length) (h2:i<b.Ops.length),b.IDs[i]∈a.IDs→a.Ops[a.IDs.idxOf b.IDs[i]]? = some b.Ops[i]
theorem z18o {l:List ID} (hi:z8b l=true) (hl:l.length≤1000) {x:ID} (hx:x∈l):z5l l x=some (l.idxOf x:Int):=by
 obtain ⟨k,k1,k2⟩:=z14l l x (by omega);rcases k2 with ⟨-,h⟩ | ⟨i,rfl,h,rfl⟩
 ·exact absurd hx h
 ·rw [k1,z79 hi h]
theorem z17n {l:List ID} (hl:l.length≤1000) {x:ID} (hx:x∉l):z5l l x=some (-1):=by
 obtain ⟨k,k1,k2⟩:=z14l l x (by omega);rcases k2 with ⟨rfl,h⟩ | ⟨i,rfl,h,rfl⟩
 ·exact k1
 ·exact absurd (List.getElem_mem h) hx
end
section
open Go
variable {g a b:z00}
theorem zwd (h:b.IDs.length=b.Ops.length) {i:Nat} (hi:i<b.Ops.length):(zf2 b).take (i+1)=(zf2 b).take i++[(b.IDs[i],b.Ops[i])]:=by
 rw [List.take_add_one,zo9 h hi]; rfl
theorem zv0 {n m:Nat} (Fa:Fit a n) (Fb:Fit b m) (i:Nat):Fit (zcm a ((zf2 b).take i)) (n+m):=by
 have h:=zmn (l:=(zf2 b).take i) Fa fun p hp=>Fb.op _ (znj (List.mem_of_mem_take hp)).2;have hl:((zf2 b).take i).length≤m:=by rw [List.length_take,zha Fb.ids]; have:=Fb.len; omega
 exact ⟨h.ids, by have:=h.len; omega,h.ri,h.op⟩
theorem zz7 {n:Nat} (Fa:Fit a n) (hn:n≤500):iter (zd9 a) ([],0)=some a.Ops:=by
 have h1:=Fa.len;have main:=z2k (F:=zd9 a) (b:=a.Ops) a.Ops.length (fun i=>(a.Ops.take i,(i:Int))) (fun i hi=>?_) ?_
 ·rw [List.take_zero] at main; exact main
 ·unfold zd9;simp only [];rw [if_pos (by simpa using hi),z0g hi];simp only [bS];rw [zk6 (by have:=(Fa.op _ (List.getElem_mem hi)).1; omega)];simp only [bS];rw [z1t (by simp; omega),z0r (by omega),z13d (List.getElem?_eq_getElem hi)];simp only [bS]
 ·unfold zd9;rw [if_neg (by simp),List.take_length]
theorem z11g {n m:Nat} (Fa:Fit a n) (Fb:Fit b m) (hn:n≤400) (hm:m≤400):iter (zd2 b) (a.IDs,a.Ops,0)=some ((zcz a b).IDs,(zcz a b).Ops):=by
 have hb1:=Fb.len; have hb2:=Fb.ids;have main:=z2k (F:=zd2 b) (b:=((zcz a b).IDs,(zcz a b).Ops)) b.Ops.length (fun i=>((zcm a ((zf2 b).take i)).IDs,(zcm a ((zf2 b).take i)).Ops,(i:Int))) (fun i hi=>?_) ?_
 ·exact main
 ·have hf:=zv0 Fa Fb i;unfold zd2;simp only [];rw [if_pos (by simp; omega),z0g (by omega),z0g hi];simp only [bS];have hp:=zy5 (g:=⟨(zcm a ((zf2 b).take i)).IDs,(zcm a ((zf2 b).take i)).Ops⟩) hf (by omega) (b.IDs[i],b.Ops[i]) (Fb.op _ (List.getElem_mem hi)).1;simp only at hp;rw [hp,z0r (by omega)];simp only [bS];rw [zwd hb2 hi,zpf]
 ·unfold zd2;simp only [];rw [if_neg (by simp; omega)];unfold zcz;rw [List.take_of_length_le (by rw [zha hb2]; exact Nat.le_refl _)]
theorem zu0 {c d:Int} (ha:z11 a=some c) (hb:z11 b=some d):zhv [a,b]=some (if c≠0 then c else d):=by
 have e0:z8l [a,b] 0=if c≠0 then some (.inl (.inl c)) else some (.inr 1):=by
  unfold z8l;rw [if_pos (by simp), show idx [a,b] (0:Int)=some a from rfl];simp only [bS];rw [ha];simp only [bS];by_cases h:c=0
  ·subst h; rfl
  ·rw [if_pos (by simpa using h),if_pos h]
 have e1:z8l [a,b] 1=if d≠0 then some (.inl (.inl d)) else some (.inr 2):=by
  unfold z8l;rw [if_pos (by simp), show idx [a,b] (1:Int)=some b from rfl];simp only [bS];rw [hb];simp only [bS];by_cases h:d=0
  ·subst h; rfl
  ·rw [if_pos (by simpa using h),if_pos h]
 have e2:z8l [a,b] 2=some (.inl (.inr ())):=by
  unfold z8l;rw [if_neg (by simp)]
 unfold zhv;by_cases h:c=0
 ·rw [if_neg (by simpa using h)] at e0;rw [z26 e0,if_neg (by simpa using h)];by_cases h2:d=0
  ·rw [if_neg (by simpa using h2)] at e1;rw [z26 e1,z1u e2,h2]; rfl
  ·rw [if_pos h2] at e1;rw [z1u e1]; rfl
 ·rw [if_pos h] at e0;rw [z1u e0,if_pos h]; rfl
end
section
open Go
variable {g h a b:z00} {n m:Nat}
theorem zyv:∀ {l:List Nat} {x:Nat},x∈l→x≤l.sum
 | [],_,h=>by simp at h
 | y::l,x,h=>by
  rw [List.sum_cons];rcases List.mem_cons.1 h with rfl | h
  ·omega
  ·have:=zyv h; omega
def z4r (g:z00) (x:ID):Option z08:=if x∈g.IDs then g.Ops[g.IDs.idxOf x]? else none
theorem za5 (F:Fit g n) {x:ID} {o:z08}:z4r g x=some o↔∃ i:Nat,g.IDs[i]? = some x∧g.Ops[i]? = some o:=by
 unfold z4r
 constructor
 ·intro h
  split at h
  ·rename_i hx;exact ⟨_, by rw [List.getElem?_eq_getElem (List.idxOf_lt_length_of_mem hx)]; simp,h⟩
  ·cases h
 ·rintro ⟨i,h1,h2⟩
  obtain ⟨hi,rfl⟩:=List.getElem?_eq_some_iff.1 h1;rw [if_pos (List.getElem_mem hi),z79 F.ri hi,h2]
theorem zcn (F:Fit g n) {i:Nat} (hi:i<g.Ops.length):z4r g (g.IDs[i]'(by rw [F.ids]; exact hi))=some g.Ops[i] :=
 (za5 F).2 ⟨i,List.getElem?_eq_getElem (by rw [F.ids]; exact hi),List.getElem?_eq_getElem hi⟩
theorem zhy {x:ID} {o:z08} (h:z4r g x=some o):x∈g.IDs∧o∈g.Ops:=by
 unfold z4r at h
 split at h
 ·exact ⟨by assumption,List.mem_of_getElem? h⟩
 ·cases h
theorem zbp (F:Fit g n) {x:ID} (hx:x∈g.IDs):∃ o,z4r g x=some o:=by
 have h1:g.IDs.idxOf x<g.Ops.length:=by rw [← F.ids]; exact List.idxOf_lt_length_of_mem hx
 exact ⟨g.Ops[g.IDs.idxOf x], by unfold z4r; rw [if_pos hx,List.getElem?_eq_getElem h1]⟩
theorem zc1 {x:ID} (hx:x∉g.IDs):z4r g x=none:=by unfold z4r; rw [if_neg hx]
theorem znp (F:Fit g n) {x:ID}:(z4r g x).isSome=decide (x∈g.IDs):=by
 by_cases hx:x∈g.IDs
 ·obtain ⟨o,ho⟩:=zbp F hx; rw [ho,decide_eq_true hx]; rfl
 ·rw [zc1 hx,decide_eq_false hx]; rfl
theorem zhm (Fg:Fit g n) (Fh:Fit h m) (e:∀ x,z4r g x=z4r h x):g=h:=by
 have hids:g.IDs=h.IDs:=zbt _ _ ((z8m _).1 Fg.ri) ((z8m _).1 Fh.ri) fun x=>by
  have h1:=znp Fg (x:=x);have h2:=znp Fh (x:=x);rw [e] at h1;rw [h1] at h2
  simpa using h2
 have hl:g.Ops.length=h.Ops.length:=by rw [← Fg.ids,← Fh.ids,hids]
 have hops:g.Ops=h.Ops:=List.ext_getElem hl fun i h1 h2=>by
  have e1:=zcn Fg h1;have e2:=zcn Fh h2;have e3:g.IDs[i]'(by rw [Fg.ids]; exact h1)=h.IDs[i]'(by rw [Fh.ids]; exact h2):=by simp [hids]
  rw [e3,e,e2] at e1;exact (Option.some.inj e1).symm
 cases g; cases h
 simp only at hids hops;rw [hids,hops]
theorem ztq (F:Fit g n) (p:ID × z08) {x:ID}:x∈(zm7 g p).IDs↔x=p.1∨x∈g.IDs:=by
 unfold zm7
 split
 ·rename_i h; constructor
  ·exact .inr
  ·rintro (rfl | h2)
   ·exact h
   ·exact h2
 ·exact zme
theorem zq7 (F:Fit g n) {p:ID × z08} (hp:p.2.Preds.length≤20∧p.2.Act.Key.length≤100∧p.2.Act.Value.Text.length≤100) (hx:p.1∉g.IDs) (y:ID):z4r (zm7 g p) y=if y=p.1 then some p.2 else z4r g y:=by
 have Fa:=zi1 F hp;have hk:=zmi F.ri p.1;have hkl:=hk.le;have hi:=F.ids;have e:zm7 g p=insG g (posF g.IDs p.1) p.1 p.2:=by unfold zm7; rw [if_neg hx]
 rw [e] at Fa ⊢;generalize posF g.IDs p.1=k at hk hkl Fa;by_cases hy:y=p.1
 ·rw [if_pos hy,za5 Fa];exact ⟨k, by show (ziq g.IDs k p.1)[k]? = _; rw [zu3 hkl,hy],zu3 (by omega)⟩
 ·rw [if_neg hy]
  cases ho:z4r g y with
  | some o =>
   obtain ⟨i,h1,h2⟩:=(za5 F).1 ho;rw [za5 Fa];by_cases hik:i<k
   ·exact ⟨i, by show (ziq g.IDs k p.1)[i]? = _; rw [zt8 hkl hik,h1], by show (ziq g.Ops k p.2)[i]? = _; rw [zt8 (by omega) hik,h2]⟩
   ·exact ⟨i+1, by show (ziq g.IDs k p.1)[i+1]? = _; rw [zti hkl (by omega)]; exact h1, by show (ziq g.Ops k p.2)[i+1]? = _; rw [zti (by omega) (by omega)]; exact h2⟩
  | none =>
   refine zc1 fun hm=>?_;rcases zme.1 hm with rfl | hm
   ·exact hy rfl
   ·obtain ⟨o,h⟩:=zbp F hm; rw [h] at ho; cases ho
def z13n (g:z00) (rk:ID→Nat):Prop:=∀ x o,z4r g x=some o→∀ p∈o.Preds,rk p<rk x
theorem z155 (G:z7o g) (F:Fit g n):∃ rk,z13n g rk:=by
 obtain ⟨Q,-,q1,q2,q3⟩:=zva G.e G.ins;refine ⟨fun x=>Q.idxOf (g.IDs.idxOf x), fun x o ho p hp=>?_⟩;obtain ⟨i,h1,h2⟩:=(za5 F).1 ho;obtain ⟨hi,rfl⟩:=List.getElem?_eq_some_iff.1 h1;obtain ⟨hio,rfl⟩:=List.getElem?_eq_some_iff.1 h2;have hiQ:i∈Q:=(q3 i).2 ⟨hio,G.wf i hio⟩;have hk:Q.idxOf i<Q.length:=List.idxOf_lt_length_of_mem hiQ;show Q.idxOf (g.IDs.idxOf p)<Q.idxOf (g.IDs.idxOf g.IDs[i]);rw [z79 F.ri hi]
 have hm:=q2 (Q.idxOf i) hk (g.IDs.idxOf p) (by
  have:Q[Q.idxOf i]=i:=by simp
  rw [this];unfold z1k
  exact List.mem_map.2 ⟨p, by rw [z5h hio]; exact hp,rfl⟩)
 obtain ⟨j,hj,e⟩:=List.getElem_of_mem hm;rw [List.length_take] at hj;rw [List.getElem_take] at e
 have:Q.idxOf (g.IDs.idxOf p)≤j:=by
  rw [← e];exact Nat.le_of_not_lt fun c=>by
   have:=List.not_of_lt_findIdx (p:=fun y=>y==Q[j]) (xs:=Q) (i:=j) (by simpa [List.idxOf] using c)
   simp at this
 omega
structure zlz (g:z00):Prop where
 ops:∀ x o,z4r g x=some o→zg8 o=0∧sha (zed o)=x∧o.Preds.length≤4∧z8b o.Preds=true
 ins:∀ x o,z4r g x=some o→∀ p∈o.Preds,p∈g.IDs
 rk:∃ rk,z13n g rk
theorem zm9 (G:z7o g) (F:Fit g n):zlz g:=by
 refine ⟨fun x o ho=>?_, fun x o ho p hp=>?_,z155 G F⟩
 ·obtain ⟨i,h1,h2⟩:=(za5 F).1 ho;obtain ⟨hi,rfl⟩:=List.getElem?_eq_some_iff.1 h1;obtain ⟨hio,rfl⟩:=List.getElem?_eq_some_iff.1 h2;obtain ⟨k1,k2⟩:=G.ops i hio;exact ⟨k1,k2.trans (z7r hi),G.e.op i hio⟩
 ·obtain ⟨i,h1,h2⟩:=(za5 F).1 ho;obtain ⟨hio,rfl⟩:=List.getElem?_eq_some_iff.1 h2;exact zcw G.ins i p (by rw [z5h hio]; exact hp)
theorem zn6 (F:Fit g 60) (S:zlz g):z7o g:=by
 have hl:=F.len;have E:zay g:=⟨hl,F.ids,F.ri, fun i hi=>(S.ops _ _ (zcn F hi)).2.2⟩
 have hin:zfw g=true:=by
  unfold zfw;rw [List.all_eq_true];intro o ho;rw [List.all_eq_true];intro p hp;obtain ⟨i,hi,rfl⟩:=List.getElem_of_mem ho
  simpa using S.ins _ _ (zcn F hi) p hp
 obtain ⟨rk,hrk⟩:=S.rk;refine ⟨E, fun i hi=>?_,hin, fun i hi=>?_⟩
 ·obtain ⟨k1,k2,-⟩:=S.ops _ _ (zcn F hi);exact ⟨k1,k2.trans (z7r (by rw [F.ids]; exact hi)).symm⟩
 ·have key:∀ r i (hi:i<g.Ops.length),rk (g.IDs[i]'(by rw [F.ids]; exact hi))=r→Wf (z1k g) i:=by
   intro r
   induction r using Nat.strongRecOn with
   | _ r ih =>
    intro i hi hr;refine .mk i fun p hp=>?_;unfold z1k at hp;obtain ⟨x,hx,rfl⟩:=List.mem_map.1 hp;rw [z5h hi] at hx;have hlt:=hrk _ _ (zcn F hi) x hx;have hxm:=S.ins _ _ (zcn F hi) x hx;have hpl:g.IDs.idxOf x<g.IDs.length:=List.idxOf_lt_length_of_mem hxm;refine ih (rk x) (by omega) (g.IDs.idxOf x) (by rw [← F.ids]; exact hpl) ?_
    congr 1
    simp
  exact key _ i hi rfl
theorem zy8 (F:Fit g n) (S:zlz g) {p:ID × z08} (hp:p.2.Preds.length≤20∧p.2.Act.Key.length≤100∧p.2.Act.Value.Text.length≤100) (hx:p.1∉g.IDs) (h1:zg8 p.2=0∧sha (zed p.2)=p.1∧p.2.Preds.length≤4∧z8b p.2.Preds=true) (h2:∀ q∈p.2.Preds,q∈g.IDs):zlz (zm7 g p):=by
 obtain ⟨rk,hrk⟩:=S.rk;have hl:=zq7 F hp hx;refine ⟨fun x o ho=>?_, fun x o ho q hq=>?_,?_⟩
 ·rw [hl] at ho
  split at ho
  ·rename_i e; cases ho; subst e; exact h1
  ·exact S.ops x o ho
 ·rw [ztq F];rw [hl] at ho
  split at ho
  ·cases ho; exact .inr (h2 q hq)
  ·exact .inr (S.ins x o ho q hq)
 ·refine ⟨fun y=>if y=p.1 then (g.IDs.map rk).sum+1 else rk y, fun x o ho q hq=>?_⟩;have hqm:q∈g.IDs:=by
   rw [hl] at ho
   split at ho
   ·cases ho; exact h2 q hq
   ·exact S.ins x o ho q hq
  have hqp:q≠p.1:=fun e=>hx (e ▸ hqm);simp only [if_neg hqp];rw [hl] at ho
  split at ho
  ·rename_i e;rw [if_pos e]
   have:rk q≤(g.IDs.map rk).sum:=zyv (List.mem_map.2 ⟨q,hqm,rfl⟩)
   omega
  ·rename_i e;rw [if_neg e];exact hrk x o ho q hq
theorem zqv {l:List (ID × z08)}:∀ {g:z00} {n:Nat},Fit g n→(∀ p∈l,p.2.Preds.length≤20∧p.2.Act.Key.length≤100∧p.2.Act.Value.Text.length≤100)→(l.map Prod.fst).Nodup→∀ y,z4r (zcm g l) y=(z4r g y).or ((l.find? fun p=>decide (p.1=y)).map Prod.snd):=by
 induction l with
 | nil=>intro g n F _ _ y; simp [zcm]
 | cons p l ih =>
  intro g n F hp hnd y;rw [List.map_cons,List.nodup_cons] at hnd;have hpp:=hp p (by simp);have e:zcm g (p::l)=zcm (zm7 g p) l:=rfl;rw [e,ih (zi1 F hpp) (fun q hq=>hp q (by simp [hq])) hnd.2,List.find?_cons];have hnf:p.1=y→l.find? (fun q=>decide (q.1=y))=none:=fun e=>by
   rw [List.find?_eq_none];intro q hq hh;exact hnd.1 (List.mem_map.2 ⟨q,hq, by simpa [e] using hh⟩)
  by_cases hx:p.1∈g.IDs
  ·have ea:zm7 g p=g:=by unfold zm7; rw [if_pos hx]
   rw [ea];by_cases hy:p.1=y
   ·obtain ⟨o,ho⟩:=zbp F hx;rw [← hy,ho]; rfl
   ·rw [decide_eq_false hy]
  ·rw [zq7 F hpp hx];by_cases hy:p.1=y
   ·rw [if_pos hy.symm,decide_eq_true hy,zc1 (by rw [← hy]; exact hx)]; rfl
   ·rw [if_neg fun e=>hy e.symm,decide_eq_false hy]
theorem z11i (F:Fit b m) (y:ID):((zf2 b).find? fun p=>decide (p.1=y)).map Prod.snd=z4r b y:=by
 cases ho:z4r b y with
 | none =>
  have:(zf2 b).find? (fun p=>decide (p.1=y))=none:=List.find?_eq_none.2 fun q hq hh=>by
   have h1:=(znj hq).1
   have:q.1=y:=by simpa using hh
   rw [this] at h1;obtain ⟨o,h⟩:=zbp F h1;rw [h] at ho; cases ho
  rw [this]; rfl
 | some o =>
  cases hf:(zf2 b).find? (fun p=>decide (p.1=y)) with
  | none =>
   obtain ⟨i,h1,h2⟩:=(za5 F).1 ho;obtain ⟨hio,rfl⟩:=List.getElem?_eq_some_iff.1 h2;have hi:=zo9 F.ids hio
   have:=List.find?_eq_none.1 hf _ (List.mem_of_getElem? hi)
   rw [List.getElem?_eq_getElem (by rw [F.ids]; exact hio)] at h1;simp only [Option.some.injEq] at h1;simp [h1] at this
  | some q =>
   have h1:=List.find?_some hf;have h2:=List.mem_of_find?_eq_some hf;have h1:q.1=y:=by simpa using h1
   obtain ⟨i,hi,rfl⟩:=List.getElem_of_mem h2;rw [zha F.ids] at hi;have e:=zo9 F.ids hi;rw [List.getElem?_eq_getElem (by rw [zha F.ids]; exact hi)] at e;simp only [Option.some.injEq] at e;rw [e] at h1 ⊢
   have:=zcn F hi
   simp only at h1;rw [h1,ho] at this;exact this.symm
theorem zt7 (F:Fit b m):((zf2 b).map Prod.fst).Nodup:=by
 unfold zf2;rw [List.map_fst_zip (by rw [F.ids]; exact Nat.le_refl _)];exact z99 F.ri
theorem zhq (Fa:Fit a n) (Fb:Fit b m) (y:ID):z4r (zcz a b) y=(z4r a y).or (z4r b y):=by
 unfold zcz;rw [zqv Fa (fun p hp=>Fb.op _ (znj hp).2) (zt7 Fb),z11i Fb]
theorem zk7 (Fa:Fit a n) (Fb:Fit b m):Fit (zcz a b) (n+m):=by
 have:=zv0 Fa Fb b.Ops.length
 rw [List.take_of_length_le (by rw [zha Fb.ids]; exact Nat.le_refl _)] at this;exact this
theorem zcc (Fa:Fit a n) (Fb:Fit b m):zao a b↔∀ x o q,z4r a x=some o→z4r b x=some q→o=q:=by
 constructor
 ·intro h x o q ho hq;obtain ⟨i,h1,h2⟩:=(za5 Fb).1 hq;obtain ⟨hi,rfl⟩:=List.getElem?_eq_some_iff.1 h1;obtain ⟨hio,rfl⟩:=List.getElem?_eq_some_iff.1 h2;have hm:=(zhy ho).1
  have:=h i hi hio hm
  unfold z4r at ho;rw [if_pos hm,this] at ho;exact (Option.some.inj ho).symm
 ·intro h i hi hio hm;obtain ⟨o,ho⟩:=zbp Fa hm
  have:=h _ o _ ho (zcn Fb hio)
  unfold z4r at ho;rw [if_pos hm,this] at ho;exact ho
end
section
open Go
variable {g:z00} {n:Nat}
def oid (o:z08):ID:=sha (zed o)
structure OkN (o:z08):Prop where
 good:zg8 o=0
 pre:o.Preds.length≤4
 key:o.Act.Key.length≤100
 text:o.Act.Value.Text.length≤100
 num:inI o.Act.Value.Num
def zf1 (l:List z08):List (ID × z08):=l.map fun o=>(oid o,o)
theorem zr8 (l:List z08):(zf1 l).map Prod.fst=l.map oid:=by unfold zf1; rw [List.map_map]; rfl
theorem zq5 {l:List z08} (h:∀ o∈l,OkN o):∀ p∈zf1 l,p.2.Preds.length≤20∧p.2.Act.Key.length≤100∧p.2.Act.Value.Text.length≤100:=fun p hp=>by
 obtain ⟨o,ho,rfl⟩:=List.mem_map.1 hp
 have:=h o ho
 exact ⟨Nat.le_trans this.pre (by omega),this.key,this.text⟩
theorem fit0:Fit (⟨[],[]⟩:z00) 0:=⟨rfl,Nat.le_refl _,rfl, fun o ho=>by simp at ho⟩
theorem zux:∀ {l:List (ID × z08)} {g:z00} {n:Nat},Fit g n→(∀ p∈l,p.2.Preds.length≤20∧p.2.Act.Key.length≤100∧p.2.Act.Value.Text.length≤100)→∀ x,x∈(zcm g l).IDs↔x∈g.IDs∨x∈l.map Prod.fst
 | [],g,n,F,_,x=>by simp [zcm]
 | p::l,g,n,F,hp,x=>by
  have ih:=zux (l:=l) (zi1 F (hp p (by simp))) (fun q hq=>hp q (by simp [hq])) x
  have:zcm g (p::l)=zcm (zm7 g p) l:=rfl
  rw [this,ih,ztq F p,List.map_cons,List.mem_cons]
  constructor
  ·rintro ((h | h) | h)
   ·exact .inr (.inl h)
   ·exact .inl h
   ·exact .inr (.inr h)
  ·rintro (h | h | h)
   ·exact .inl (.inr h)
   ·exact .inl (.inl h)
   ·exact .inr h
theorem zs2:∀ (l:List z08) (o:z08),(l.map oid).Nodup→o∈l→((zf1 l).find? fun p=>decide (p.1=oid o)).map Prod.snd=some o
 | [],o,_,h=>by simp at h
 | a::l,o,hn,ho=>by
  rw [List.map_cons,List.nodup_cons] at hn;have e0:zf1 (a::l)=(oid a,a)::zf1 l:=rfl;rw [e0];by_cases e:oid a=oid o
  ·rw [List.find?_cons_of_pos (by simpa using e)];rcases List.mem_cons.1 ho with rfl | h
   ·rfl
   ·exact absurd (List.mem_map.2 ⟨o,h,e.symm⟩) hn.1
  ·rw [List.find?_cons_of_neg (by simpa using e)];rcases List.mem_cons.1 ho with rfl | h
   ·exact absurd rfl e
   ·exact zs2 l o hn.2 h
theorem z145 (F:Fit g n) (S:zlz g) {l:List z08} (hl:∀ o,o∈l↔o∈g.Ops) (h:∀ o∈l,OkN o) (hn:(l.map oid).Nodup):zcm ⟨[],[]⟩ (zf1 l)=g:=by
 refine zhm (zmn fit0 (zq5 h)) F fun y=>?_;rw [zqv fit0 (zq5 h) (by rw [zr8]; exact hn),zc1 (by simp),Option.none_or]
 cases hy:z4r g y with
 | some o =>
  have:=(S.ops y o hy).2.1
  have ho:=(hl o).2 (zhy hy).2
  have:=zs2 l o hn ho
  rw [show oid o=y from (S.ops y o hy).2.1] at this;exact this
 | none =>
  rw [Option.map_eq_none_iff,List.find?_eq_none];intro p hp hc;obtain ⟨o,ho,rfl⟩:=List.mem_map.1 hp;have hc:oid o=y:=by simpa using hc
  obtain ⟨i,hi,rfl⟩:=List.getElem_of_mem ((hl o).1 ho);have h1:=zcn F hi;have h2:=(S.ops _ _ h1).2.1;rw [← h2, show sha (zed g.Ops[i])=y from hc,hy] at h1;simp at h1
end
section
open Go
variable {g:z00} {n:Nat}
theorem z17c (l:List z08) (hl:l.length≤60) (h:∀ o∈l,OkN o):iter (z96 l) 0=some (.inr ()):=by
 refine z2k (F:=z96 l) l.length (fun i=>(i:Int)) (fun i hi=>?_) ?_
 ·have ho:=h l[i] (List.getElem_mem hi);unfold z96;rw [if_pos (by simpa using hi),z0g hi];simp only [bS];rw [zlk _ ho.num (Nat.le_trans ho.text (by omega)),ho.good];simp only [bS];rw [if_neg (by simp),z0r (by omega)]
 ·unfold z96;rw [if_neg (by simp)]
theorem z16t (l:List z08) (hl:l.length≤60) (h:∀ o∈l,OkN o) (hn:(l.map oid).Nodup):iter (z8z l) ([],[],0)=some (.inr ((zcm ⟨[],[]⟩ (zf1 l)).IDs,(zcm ⟨[],[]⟩ (zf1 l)).Ops)):=by
 have hpl:(zf1 l).length=l.length:=by simp [zf1]
 have hsz:=zq5 h;have fit:∀ i,i≤l.length→Fit (zcm ⟨[],[]⟩ ((zf1 l).take i)) i:=fun i hi=>by
  have:=zmn (l:=(zf1 l).take i) fit0 (fun p hp=>hsz p (List.mem_of_mem_take hp))
  rw [List.length_take,hpl,Nat.min_eq_left hi,Nat.zero_add] at this;exact this
 refine z2k (F:=z8z l) l.length (fun i=>((zcm ⟨[],[]⟩ ((zf1 l).take i)).IDs,(zcm ⟨[],[]⟩ ((zf1 l).take i)).Ops,(i:Int))) (fun i hi=>?_) ?_
 ·have ho:=h l[i] (List.getElem_mem hi);have F:=fit i (by omega);have hx:oid l[i]∉(zcm ⟨[],[]⟩ ((zf1 l).take i)).IDs:=fun hc=>by
   rw [zux fit0 (fun p hp=>hsz p (List.mem_of_mem_take hp))] at hc;rcases hc with hc | hc
   ·simp at hc
   ·rw [List.map_take,zr8] at hc;obtain ⟨j,hj,e⟩:=List.getElem_of_mem hc;have hj':j<i:=by rw [List.length_take] at hj; omega
    rw [List.getElem_take,List.getElem_map] at e
    have:=(List.getElem_inj (xs:=l.map oid) (i:=j) (j:=i) (h₀:=by simp; omega) (h₁:=by simpa using hi) hn).1 (by rw [List.getElem_map,List.getElem_map,e]);omega
  unfold z8z;rw [if_pos (by simpa using hi)];simp only [];rw [z0g hi];simp only [bS];rw [zqa _ (z9f ho.good) ho.num];simp only [bS];rw [show sha (zed l[i])=oid l[i] from rfl,z17n (by have:=F.len; have:=F.ids; omega) hx];simp only [bS];rw [if_neg (by simp)];have hput:=z11x F (by omega) (oid l[i],l[i]) ⟨Nat.le_trans ho.pre (by omega),ho.key,ho.text⟩ hx;have hput:z9d (⟨(zcm ⟨[],[]⟩ ((zf1 l).take i)).IDs,(zcm ⟨[],[]⟩ ((zf1 l).take i)).Ops⟩:z00) (oid l[i]) l[i]=_:=hput
  rw [hput];simp only [bS];rw [z0r (by omega)];have ht:(zf1 l).take (i+1)=(zf1 l).take i++[(oid l[i],l[i])]:=by
   rw [List.take_add_one,List.getElem?_eq_getElem (by omega)];simp [zf1]
  rw [ht,zpf]
 ·unfold z8z;rw [if_neg (by simp),List.take_of_length_le (by omega)]
theorem zxg (F:Fit g 60) (S:zlz g) {l:List z08} (hl:∀ o,o∈l↔o∈g.Ops) (h6:l.length≤60) (h:∀ o∈l,OkN o) (hn:(l.map oid).Nodup):z4o l=some (g,0):=by
 have G:=zn6 F S;obtain ⟨c,-,c1,c3⟩:=zvl (g:=g) G.e.len G.e.ids G.e.op;have hc:c=0:=c3.2 ⟨G.e.ri,G.ins,G.wf⟩;unfold z4o;rw [if_neg (by simp; omega),z17c l h6 h];simp only [z5u];rw [z16t l h6 h hn,z145 F S hl h hn];simp only [z5u,bS];rw [c1,hc];simp only [bS];rw [if_neg (by simp)]
end
section
open Go
theorem zmw {ids:List ID} {ops:List z08} (tbl:List Nat) (hl:ids.length=ops.length) (h6:ops.length≤60) (hinc:z8b ids=true)
  (h:∀ i (hi:i<ops.length),OkN ops[i]∧oid ops[i]=ids[i]∧z8b ops[i].Preds=true∧∀ p∈ops[i].Preds,p∈ids∧tbl.getD (ids.idxOf p) 0<tbl.getD i 0) :
  Fit ⟨ids,ops⟩ 60∧zlz ⟨ids,ops⟩:=by
 have F:Fit ⟨ids,ops⟩ 60:=⟨hl,h6,hinc, fun o ho=>by
  obtain ⟨i,hi,rfl⟩:=List.getElem_of_mem ho
  have:=(h i hi).1
  exact ⟨Nat.le_trans this.pre (by omega),this.key,this.text⟩⟩
 have at_:∀ x o,z4r ⟨ids,ops⟩ x=some o→∃ i,∃ hi:i<ops.length,x=ids[i]∧o=ops[i]:=fun x o ho=>by
  obtain ⟨i,h1,h2⟩:=(za5 F).1 ho;obtain ⟨hi,rfl⟩:=List.getElem?_eq_some_iff.1 h2;obtain ⟨hi',rfl⟩:=List.getElem?_eq_some_iff.1 h1;exact ⟨i,hi,rfl,rfl⟩
 refine ⟨F, fun x o ho=>?_, fun x o ho p hp=>?_, fun x=>tbl.getD (ids.idxOf x) 0, fun x o ho p hp=>?_⟩
 ·obtain ⟨i,hi,rfl,rfl⟩:=at_ x o ho;exact ⟨(h i hi).1.good,(h i hi).2.1,(h i hi).1.pre,(h i hi).2.2.1⟩
 ·obtain ⟨i,hi,rfl,rfl⟩:=at_ x o ho;exact ((h i hi).2.2.2 p hp).1
 ·obtain ⟨i,hi,rfl,rfl⟩:=at_ x o ho;show tbl.getD (ids.idxOf p) 0<tbl.getD (ids.idxOf ids[i]) 0;rw [z79 hinc (by omega)];exact ((h i hi).2.2.2 p hp).2
end
section
open Go
variable {g:z00}
theorem zmz {α:Type} {l:List α} {n:Nat} (h:n<l.length):l.take (n+1)=l.take n++[l[n]]:=by
  rw [List.take_add_one,List.getElem?_eq_getElem h]; rfl
theorem z12v {l:List V3} (hso:l.Pairwise fun x y=>kd x≤kd y) {n i:Nat} (hi:i<l.length) (hn:n≤i+1):∀ x∈l.take n,kd x≤kd l[i]:=by
  intro x hx;obtain ⟨j,hj,rfl⟩:=List.getElem_of_mem hx;rw [List.length_take] at hj;rw [List.getElem_take];by_cases hji:j=i
  · subst hji; exact Nat.le_refl _
  · exact List.pairwise_iff_getElem.1 hso j i (by omega) hi (by omega)
theorem znl {l:List V3} {x:V3} (h:l.Pairwise fun a b=>kd a<kd b) (hx:∀ y∈l,kd y<kd x):(l++[x]).Pairwise fun a b=>kd a<kd b:=by
  rw [List.pairwise_append];exact ⟨h, by simp, fun a ha b hb=>by rw [List.mem_singleton] at hb; subst hb; exact hx a ha⟩
theorem zqn (l : List V3) (hl : l.length ≤ 1000) (hso : l.Pairwise fun x y => kd x ≤ kd y) (s : Nat) (h1 : 1 ≤ s) (hs : s < l.length) (hst : (l.take s).Pairwise fun x y => kd x < kd y) (heq : l[s] = l[s - 1]) :
    ∃ b:List V3 × Int,iter (z15 l s) (l,(s:Int),1)=some b∧b.1.length=l.length∧∃ j:Nat,b.2=(j:Int)∧j<l.length∧(b.1.take j).Pairwise (fun x y=>kd x<kd y)∧∀ x,x∈b.1.take j↔x∈l:=by
  refine zap (F:=z15 l s) (l.length - s)
    (fun i st=>st.1.length=l.length∧st.2.2=(i:Int)∧1≤i∧∃ j:Nat,st.2.1=(j:Int)∧j+1≤s+i∧(∀ q,s+i - 1≤q→st.1[q]? = l[q]?)∧(st.1.take j).Pairwise (fun x y=>kd x<kd y)∧∀ x,x∈st.1.take j↔x∈l.take (s+i)) _ ?_ ?_ _ 1 (by omega)
    ⟨rfl,rfl, by omega,s,rfl, by omega, fun _ _=>rfl,hst, fun x=>?_⟩
  · rintro i ⟨c,j',i'⟩ hi ⟨e1,e2,e0,j,e3,e4,e5,e6,e7⟩
    simp only at e1 e2 e3 e5 e6 e7;subst e2 e3;have g1:c[s+i]'(by omega)=l[s+i]'(by omega):=by
      have:=e5 (s+i) (by omega)
      rw [List.getElem?_eq_getElem (by omega),List.getElem?_eq_getElem (by omega)] at this;exact Option.some.inj this
    have g2:c[s+(i - 1)]'(by omega)=l[s+(i - 1)]'(by omega):=by
      have:=e5 (s+(i - 1)) (by omega)
      rw [List.getElem?_eq_getElem (by omega),List.getElem?_eq_getElem (by omega)] at this;exact Option.some.inj this
    have hs1:l.take (s+(i+1))=l.take (s+i)++[l[s+i]'(by omega)]:=zmz (n:=s+i) (by omega);unfold z15;rw [if_pos (by simp; omega)];simp only [Int.toNat_natCast];rw [zq2 (by omega),z18 (x:=(i:Int) - 1) (by omega) (by omega), show ((i:Int) - 1)=((i - 1:Nat):Int) by omega,zq2 (by omega)];simp only [bS];rw [z0g (by omega),z0g (by omega)];simp only [bS];by_cases hc:c[s+i]'(by omega)=c[s+(i - 1)]'(by omega)
    · rw [decide_eq_true hc,if_neg (by simp)]
      refine ⟨_,rfl,e1,z0r (by omega), by omega,j,rfl, by omega, fun q hq=>e5 q (by omega),e6, fun x=>?_⟩;rw [e7,hs1,List.mem_append];refine ⟨.inl, fun h=>h.elim id fun h=>?_⟩;have hx:x=l[s+i]'(by omega):=List.mem_singleton.1 h;rw [hx,← g1,hc,g2,List.mem_take_iff_getElem];exact ⟨s+(i - 1), by omega,rfl⟩
    · rw [decide_eq_false hc,if_pos (by simp),z0g (by omega)]
      simp only [bS];have hset:(c.set j (l[s+i]'(by omega))).take (j+1)=c.take j++[l[s+i]'(by omega)]:=by
        rw [zmz (by rw [List.length_set]; omega),List.take_set_of_le (Nat.le_refl _),List.getElem_set_self]
      refine ⟨_,rfl, by simpa using e1,z0r (by omega), by omega,j+1,z0r (by omega), by omega, fun q hq=>?_,?_, fun x=>?_⟩
      · show (c.set j _)[q]? = _
        rw [List.getElem?_set_ne (by omega)]; exact e5 q (by omega)
      · show ((c.set j (c[s+i]'(by omega))).take (j+1)).Pairwise _
        rw [g1,hset];refine znl e6 fun y hy=>?_;have h1:=z12v hso (n:=s+i) (i:=s+(i - 1)) (by omega) (by omega) y ((e7 y).1 hy);have h2:kd (l[s+(i - 1)]'(by omega))≤kd (l[s+i]'(by omega)):=List.pairwise_iff_getElem.1 hso _ _ (by omega) (by omega) (by omega);have h3:kd (l[s+(i - 1)]'(by omega))≠kd (l[s+i]'(by omega)):=fun e=>hc (by rw [g1,g2]; exact (zo1 e).symm);omega
      · show x∈(c.set j (c[s+i]'(by omega))).take (j+1)↔_
        rw [g1,hset,hs1,List.mem_append,List.mem_append,e7]
  · rintro ⟨c,j',i'⟩ ⟨e1,e2,e0,j,e3,e4,e5,e6,e7⟩
    simp only at e1 e2 e3 e5 e6 e7;subst e2 e3;unfold z15;rw [if_neg (by simp <;> omega)]
    refine ⟨_,rfl,e1,j,rfl, by omega,e6, fun x=>?_⟩;rw [e7,List.take_of_length_le (by omega)]
  · show x∈l.take s↔x∈l.take (s+1)
    rw [zmz hs,List.mem_append];refine ⟨.inl, fun h=>h.elim id fun h=>?_⟩;have hx:x=l[s]:=List.mem_singleton.1 h;rw [hx,heq,List.mem_take_iff_getElem];exact ⟨s - 1, by omega,rfl⟩
theorem zil (l:List V3) (hl:l.length≤1000) (hso:l.Pairwise fun x y=>kd x≤kd y):∃ c,z10 l=some c∧z8b c=true∧∀ x,x∈c↔x∈l:=by
  have key:∀ k n,l.length - n=k→1≤n→n≤l.length→(l.take n).Pairwise (fun x y=>kd x<kd y)→∃ r:Sum (List V3) Unit,iter (z0k l) (n:Int)=some r∧((r=.inr ()∧l.Pairwise fun x y=>kd x<kd y)∨(∃ c,r=.inl c∧(c.Pairwise fun x y=>kd x<kd y)∧∀ x,x∈c↔x∈l)):=by
    intro k
    induction k with
    | zero =>
      intro n hk h1 hn hst;refine ⟨_,z1u ?_,.inl ⟨rfl,?_⟩⟩
      · unfold z0k
        rw [if_neg (by simp; omega)]
      · rw [List.take_of_length_le (by omega)] at hst; exact hst
    | succ k ih =>
      intro n hk h1 hn hst;have hlt:n<l.length:=by omega
      by_cases hc:l[n]=l[n - 1]
      · obtain ⟨⟨c,j'⟩,e1,e2,j,e3,e4,e5,e6⟩:=zqn l hl hso n h1 hlt hst hc
        simp only at e2 e3 e5 e6;subst e3;have hF:z0k l (n:Int)=some (.inl (.inl (c.take j))):=by
          unfold z0k;rw [if_pos (by simp; omega),z0g hlt,z18 (by omega) (by omega), show ((n:Int) - 1)=((n - 1:Nat):Int) by omega,z0g (by omega)];simp only [bS];rw [decide_eq_true hc,if_pos rfl,z3i (by omega)];simp only [bS];rw [e1];simp only [bS];rw [z3i (by omega),z3i (by simp; omega)];simp only [bS,Int.toNat_natCast];rw [show (0:Int)=((0:Nat):Int) from rfl,zgg (by omega) (by rw [ztt _ _ _ _ (by omega)]; omega)]
          simp only [bS,List.drop_zero,Nat.sub_zero]
          have:(clr c j (c.length - j) (Vector.replicate 32 0)).take j=c.take j:=by
            unfold clr
            first
              | rw [List.append_assoc,List.take_append_of_le_length (by rw [List.length_take]; omega),List.take_take,Nat.min_self]
              | rw [List.take_append_of_le_length (by rw [List.length_take]; omega),List.take_take,Nat.min_self]
          rw [this]
        exact ⟨_,z1u hF,.inr ⟨_,rfl,e5,e6⟩⟩
      · have hF : z0k l (n : Int) = some (.inr ((n + 1 : Nat) : Int)) := by
          unfold z0k;rw [if_pos (by simp; omega),z0g hlt,z18 (x:=(n:Int) - 1) (by omega) (by omega), show ((n:Int) - 1)=((n - 1:Nat):Int) by omega,z0g (by omega)];simp only [bS];rw [decide_eq_false hc,if_neg (by simp),z0r (by omega)]
        obtain ⟨r,h2,h3⟩:=ih (n+1) (by omega) (by omega) (by omega) (by
          rw [zmz hlt];refine znl hst fun y hy=>?_;have h1':=z12v hso (n:=n) (i:=n - 1) (by omega) (by omega) y hy;have h2':kd (l[n - 1]'(by omega))≤kd l[n]:=List.pairwise_iff_getElem.1 hso _ _ (by omega) hlt (by omega);have h3':kd (l[n - 1]'(by omega))≠kd l[n]:=fun e=>hc (zo1 e).symm
          omega)
        exact ⟨r, by rw [z26 hF]; exact h2,h3⟩
  unfold z10;by_cases h2:l.length<2
  · rw [if_pos (by simp; omega)]
    refine ⟨l,rfl,?_, fun x=>Iff.rfl⟩
    match l,h2 with
    | [],_=>rfl
    | [_],_=>rfl
  · rw [if_neg (by simp; omega)]
    obtain ⟨r,e1,e2⟩:=key (l.length - 1) 1 rfl (by omega) (by omega) (by rw [zmz (by omega)]; simp)
    rw [show (1:Int)=((1:Nat):Int) from rfl,e1];rcases e2 with ⟨rfl,h3⟩ | ⟨c,rfl,h3,h4⟩
    · exact ⟨l,rfl,(z8m l).2 h3, fun x=>Iff.rfl⟩
    · exact ⟨c,rfl,(z8m c).2 h3,h4⟩
def zvz (cl:ID→Option Bool) (a0:List ID) (s2:Int):Option (Sum (Sum Int Unit) Int) :=
  if decide (s2<(a0.length:Int)) then
    idx a0 s2 >>= fun x4 =>
    cl x4 >>= fun r6 =>
    if r6 then
      some (.inl (.inl s2))
    else
      some (.inr (w64 (s2+1)))
  else
    some (.inl (.inr ()))
def z10l (cl:ID→Option Bool) (s5:(List ID) × Int × Int):Option (Sum ((List ID) × Int) ((List ID) × Int × Int)) :=
  if decide (s5.2.2<(s5.1.length:Int)) then
    idx s5.1 s5.2.2 >>= fun x7 =>
    cl x7 >>= fun r10 =>
    if !r10 then
      idx s5.1 s5.2.1 >>= fun x13 =>
      some (w64 (s5.2.1+1)) >>= fun y15 =>
      some (w64 (s5.2.2+1)) >>= fun y16 =>
      some (.inr (s5.1.set (s5.2.1:Int).toNat x7,y15,y16))
    else
      some (w64 (s5.2.2+1)) >>= fun y17 =>
      some (.inr (s5.1,s5.2.1,y17))
  else
    some (.inl (s5.1,s5.2.1))
def z161 (cl:ID→Option Bool) (c0:List ID):Option (List ID) :=
  (z5u (iter (zvz cl c0) 0) fun s1=>some (-1)) >>= fun r1 =>
  if r1==(-1) then
    some c0
  else
    (iter (z10l cl) (c0,r1,w64 (r1+1))) >>= fun s4 =>
    chk (0≤s4.2∧s4.2≤(s4.1.length:Int)∧(s4.1.length:Int)≤(s4.1.length:Int)) >>= fun u18 =>
    chk ((s4.2:Int).toNat+(((s4.1.length:Int):Int).toNat - (s4.2:Int).toNat)≤s4.1.length) >>= fun u20 =>
    cut (clr s4.1 ((s4.2:Int).toNat) (((s4.1.length:Int):Int).toNat - (s4.2:Int).toNat) (Vector.replicate 32 0)) 0 s4.2 >>= fun x22 =>
    some x22
theorem z11c (cl:ID→Option Bool) (p:ID→Bool) (hp:∀ x,cl x=some (p x)) (l:List ID) (hl:l.length≤1000):∃ b:Sum Int Unit,iter (zvz cl l) 0=some b∧((b=.inr ()∧∀ x∈l,p x=false)∨∃ i:Nat,b=.inl (i:Int)∧(∃ h:i<l.length,p l[i]=true)∧∀ k (h:k<l.length),k<i→p l[k]=false):=by
  refine zej (F:=zvz cl l) (fun s=>∃ i:Nat,s=(i:Int)∧i≤l.length∧∀ k (h:k<l.length),k<i→p l[k]=false) (fun s=>l.length - s.toNat) _ ?_ 0 ⟨0,rfl,Nat.zero_le _, fun k _ h=>by omega⟩
  rintro s ⟨i,rfl,h1,h2⟩
  by_cases hi:i<l.length
  · have hF : zvz cl l (i : Int) = if p l[i] then some (.inl (.inl (i : Int))) else some (.inr ((i + 1 : Nat) : Int)) := by
      unfold zvz;rw [if_pos (by simpa using hi),z0g hi,z0r (by omega)];simp only [bS];rw [hp];simp only [bS]
    cases hc:p l[i] with
    | true=>rw [hc] at hF; exact .inl ⟨_,hF,.inr ⟨i,rfl,⟨hi,hc⟩,h2⟩⟩
    | false =>
      rw [hc] at hF;refine .inr ⟨_,hF,⟨i+1,rfl,hi, fun k hk hki=>?_⟩, by simp; omega⟩;by_cases hk':k=i
      · subst hk'; exact hc
      · exact h2 k hk (by omega)
  · refine .inl ⟨.inr (),?_,.inl ⟨rfl, fun x hx=>?_⟩⟩
    · unfold zvz
      rw [if_neg (by simpa using hi)]
    · obtain ⟨k,hk,rfl⟩:=List.getElem_of_mem hx
      exact h2 k hk (by omega)
theorem zpi (cl:ID→Option Bool) (p:ID→Bool) (hp:∀ x,cl x=some (p x)) (l:List ID) (hl:l.length≤1000):z161 cl l=some (l.filter fun x=>!p x):=by
  obtain ⟨b,b1,b2⟩:=z11c cl p hp l hl;unfold z161;rw [b1];rcases b2 with ⟨rfl,b3⟩ | ⟨i,rfl,⟨b3,b5⟩,b4⟩
  · simp only [zx0,bS]
    rw [if_pos (by rfl),List.filter_eq_self.2 (fun x hx=>by rw [b3 x hx]; first | done | rfl)]
  · simp only [or_l,bS]
    rw [if_neg (by simp <;> omega),z0r (by omega)]
    have h0:(l.take (i+1)).filter (fun x=>!p x)=l.take i:=by
      rw [zmz b3,List.filter_append,List.filter_cons_of_neg (by rw [b5]; simp),List.filter_nil,List.append_nil]
      refine List.filter_eq_self.2 fun x hx=>?_;obtain ⟨k,hk,rfl⟩:=List.getElem_of_mem hx;rw [List.length_take] at hk;rw [List.getElem_take,b4 k (by omega) (by omega)]; rfl
    have main:=zap (F:=z10l cl) l.length
      (fun j st=>st.1.length=l.length∧st.2.2=(j:Int)∧∃ i:Nat,st.2.1=(i:Int)∧i<j∧(∀ q,j≤q→st.1[q]? = l[q]?)∧st.1.take i=(l.take j).filter fun x=>!p x)
      (fun b=>b.1.length=l.length∧∃ i:Nat,b.2=(i:Int)∧i≤l.length∧b.1.take i=l.filter fun x=>!p x)
      (fun j st hj hst=>by
        obtain ⟨c,i',j'⟩:=st;obtain ⟨e1,e2,i,e3,e4,e5,e6⟩:=hst;simp only at e1 e2 e3 e5 e6;subst e2 e3;have g1:c[j]'(by omega)=l[j]:=by
          have:=e5 j (Nat.le_refl _)
          rw [List.getElem?_eq_getElem (by omega),List.getElem?_eq_getElem (by omega)] at this;exact Option.some.inj this
        have hF:z10l cl (c,(i:Int),(j:Int))=if !p l[j] then some (.inr (c.set i l[j],((i+1:Nat):Int),((j+1:Nat):Int))) else some (.inr (c,(i:Int),((j+1:Nat):Int))):=by
          unfold z10l;rw [if_pos (by simp; omega)];simp only [];rw [z0g (by omega),g1];simp only [bS];rw [hp];simp only [bS];rw [z0g (by omega),z0r (by omega),z0r (by omega)];simp only [bS,Int.toNat_natCast]
        cases hc:p l[j] with
        | true =>
          rw [hc,if_neg (by simp)] at hF;refine ⟨_,hF,e1,rfl,i,rfl, by omega, fun q hq=>e5 q (by omega),?_⟩;rw [zmz hj,List.filter_append,List.filter_cons_of_neg (by rw [hc]; simp),List.filter_nil,List.append_nil]
          exact e6
        | false =>
          rw [hc,if_pos (by simp)] at hF;refine ⟨_,hF, by simpa using e1,rfl,i+1,rfl, by omega, fun q hq=>?_,?_⟩
          · show (c.set i _)[q]? = _
            rw [List.getElem?_set_ne (by omega)]; exact e5 q (by omega)
          · show (c.set i l[j]).take (i+1)=_
            rw [zmz (by rw [List.length_set]; omega),List.take_set_of_le (Nat.le_refl _),List.getElem_set_self,e6,zmz hj,List.filter_append,List.filter_cons_of_pos (by rw [hc]; simp),List.filter_nil])
      (fun st hst=>by
        obtain ⟨c,i',j'⟩:=st;obtain ⟨e1,e2,i,e3,e4,e5,e6⟩:=hst;simp only at e1 e2 e3 e5 e6;subst e2 e3;refine ⟨(c,(i:Int)),?_,e1,i,rfl, by omega,?_⟩
        · unfold z10l
          rw [if_neg (by simp; omega)]
        · rw [List.take_length] at e6; exact e6)
      (l,(i:Int),((i+1:Nat):Int)) (i+1) b3 ⟨rfl,rfl,i,rfl, by omega, fun _ _=>rfl,h0.symm⟩
    obtain ⟨⟨c,k'⟩,m1,m2,k,m3,m4,m5⟩:=main;simp only at m2 m3 m5;subst m3;rw [m1];simp only [bS];rw [z3i (by omega),z3i (by simp; omega)];simp only [bS,Int.toNat_natCast];rw [show (0:Int)=((0:Nat):Int) from rfl,zgg (by omega) (by rw [ztt _ _ _ _ (by omega)]; omega)];simp only [bS,List.drop_zero,Nat.sub_zero]
    have:(clr c k (c.length - k) (Vector.replicate 32 0)).take k=c.take k:=by
      unfold clr
      first
              | rw [List.append_assoc,List.take_append_of_le_length (by rw [List.length_take]; omega),List.take_take,Nat.min_self]
              | rw [List.take_append_of_le_length (by rw [List.length_take]; omega),List.take_take,Nat.min_self]
    rw [this,m5]
theorem z17v (m:List (ID × Int)) (p:ID→Bool) (hp:∀ x,(zj9 m x).isSome=p x) (l:List ID) (hl:l.length≤1000):z1g l m=some (l.filter fun x=>!p x):=by
  have:=zpi (fun x=>z6t x m) p (fun x=>by unfold z6t; simp only [bS]; rw [hp]) l hl;exact this
theorem zt0 (E:zay g):∃ m,z48 g=some m∧∀ x,(zj9 m x).isSome=decide (x∈g.IDs):=by
  have hlen:=E.len;have hids:=E.ids;have main:=zap (F:=z4c g) g.IDs.length
    (fun i s=>s.2=(i:Int)∧∀ x,(zj9 s.1 x).isSome=decide (x∈g.IDs.take i))
    (fun m=>∀ x,(zj9 m x).isSome=decide (x∈g.IDs))
    (fun i s hi hs=>by
      obtain ⟨m,i'⟩:=s;obtain ⟨h1,h2⟩:=hs;simp only at h1 h2;subst h1;refine ⟨(zsu m g.IDs[i] (i:Int),((i+1:Nat):Int)),?_,rfl, fun x=>?_⟩
      · unfold z4c
        rw [if_pos (by simpa using hi)];simp only [];rw [z0g hi,z0r (by omega)];simp only [bS]
      · simp only []
        rw [znn,zmz hi];by_cases he:x=g.IDs[i]
        · rw [if_pos he,decide_eq_true (List.mem_append.2 (.inr (List.mem_singleton.2 he)))]; rfl
        · rw [if_neg he,h2,decide_eq_decide,List.mem_append]
          exact ⟨.inl, fun h=>h.resolve_right fun h=>he (List.mem_singleton.1 h)⟩)
    (fun s hs=>by
      obtain ⟨m,i'⟩:=s;obtain ⟨h1,h2⟩:=hs;simp only at h1 h2;subst h1;rw [List.take_length] at h2;refine ⟨m,?_,h2⟩;unfold z4c
      rw [if_neg (by simp)])
    (([]:List (ID × Int)),0) 0 (Nat.zero_le _) ⟨rfl, fun x=>by simp [zj9]⟩
  obtain ⟨m,h1,h2⟩:=main;refine ⟨m,?_,h2⟩;unfold z48;rw [h1];simp only [bS]
end
section
open Go
variable {g:z00}
def zud (g:z00) (m:Nat→Bool):Nat→List ID
 | 0=>[]
 | i+1=>if m i then zud g m i++[zec g i] else zud g m i
def zx6 (g:z00) (m:Nat→Bool):Nat→List z08
 | 0=>[]
 | i+1=>if m i then zx6 g m i++g.Ops[i]?.toList else zx6 g m i
theorem z136 {g:z00} {m:Nat→Bool} {i:Nat} (h:m i=true):zud g m (i+1)=zud g m i++[zec g i]:=if_pos h
theorem z16y {g:z00} {m:Nat→Bool} {i:Nat} (h:m i=true):zx6 g m (i+1)=zx6 g m i++g.Ops[i]?.toList:=if_pos h
theorem z13l {g:z00} {m:Nat→Bool} {i:Nat} (h:m i=false):zud g m (i+1)=zud g m i:=if_neg (by rw [h]; simp)
theorem z181 {g:z00} {m:Nat→Bool} {i:Nat} (h:m i=false):zx6 g m (i+1)=zx6 g m i:=if_neg (by rw [h]; simp)
def subG (g:z00) (m:Nat→Bool):z00:=⟨zud g m g.Ops.length,zx6 g m g.Ops.length⟩
theorem zu6 (g:z00) (m:Nat→Bool):∀ i,(zud g m i).length≤i
 | 0=>Nat.le_refl _
 | i+1=>by
  have:=zu6 g m i
  unfold zud
  split
  ·rw [List.length_append,List.length_singleton]; omega
  ·omega
theorem zv5 (g:z00) (m:Nat→Bool):∀ i,(zx6 g m i).length≤i
 | 0=>Nat.le_refl _
 | i+1=>by
  have:=zv5 g m i
  unfold zx6
  split
  ·rw [List.length_append]
   have:g.Ops[i]?.toList.length≤1:=by cases g.Ops[i]? <;> simp
   omega
  ·omega
theorem z12f (E:zay g) (m:Nat→Bool):iter (z7w g (tab g.Ops.length m)) ([],[],0)=some (zud g m g.Ops.length,zx6 g m g.Ops.length):=by
 have hlen:=E.len;have hids:=E.ids;have main:=z2k (F:=z7w g (tab g.Ops.length m)) (b:=(zud g m g.Ops.length,zx6 g m g.Ops.length)) g.Ops.length (fun i=>(zud g m i,zx6 g m i,(i:Int))) (fun i hi=>?_) ?_
 ·exact main
 ·have hii:i<g.IDs.length:=by omega
  have l1:=zu6 g m i;have l2:=zv5 g m i;have h4:=(E.op i hi).1;unfold z7w;rw [if_pos (by rw [zje]; simpa using hi)]
  simp only [];rw [zaq hi,z0r (by omega)];simp only [bS]
  cases hm:m i with
  | false =>
   rw [if_neg (by simp),z13l hm,z181 hm]
  | true =>
   rw [if_pos rfl,z0g hi];simp only [bS];rw [ze2 _ (by omega),z0g hii];simp only [bS];rw [z1t (by simp only [List.length_cons,List.length_nil]; omega)];simp only [bS];rw [z1t (by simp only [List.length_cons,List.length_nil]; omega)];simp only [bS];rw [z136 hm,z16y hm,z7r hii,List.getElem?_eq_getElem hi];rfl
 ·unfold z7w;rw [if_neg (by rw [zje]; simp)]
theorem zkc {P:Nat→List Nat} {S:List Nat} {i:Nat}:Rch P S i↔i∈S∨∃ s∈S,Rch P (P s) i:=by
 constructor
 ·intro h
  induction h with
  | base h=>exact .inl h
  | @step i p _ hp ih =>
   rcases ih with h | ⟨s,hs,h⟩
   ·exact .inr ⟨i,h,.base hp⟩
   ·exact .inr ⟨s,hs,.step h hp⟩
 ·rintro (h | ⟨s,hs,h⟩)
  ·exact .base h
  ·exact h.thru fun x hx=>.step (.base hs) hx
end
section
open Go
variable {g:z00}
theorem zyt (g:z00) (m:Nat→Bool):∀ i,zud g m i=((List.range i).filter m).map (zec g)
 | 0=>rfl
 | i+1=>by
  have ih:=zyt g m i;rw [List.range_succ,List.filter_append,List.map_append,← ih]
  cases hm:m i with
  | true=>rw [z136 hm,List.filter_cons_of_pos (by exact hm)]; rfl
  | false=>rw [z13l hm,List.filter_cons_of_neg (by rw [hm]; simp)]; simp
theorem zwr (g:z00) (m:Nat→Bool):zud g m g.Ops.length=z8w g m:=zyt g m _
theorem zsb (G:z7o g) (h1:z11 g=some 0) (l:List ID) (hl:l.length≤60):∃ r,zaz g l=some (r,0)∧∀ x,x∈r↔x∈l∧x∉g.IDs:=by
 unfold zaz;rw [h1];simp only [bS];rw [if_neg (by simp),if_neg (by simp; omega)];obtain ⟨m,m1,m2⟩:=zt0 G.e;obtain ⟨F,f1,f2,f3⟩:∃ F,z1g l m=some F∧F.length≤l.length∧∀ x,x∈F↔x∈l∧x∉g.IDs :=
  ⟨_,z17v m _ m2 l (by omega),List.length_filter_le _ _, fun x=>by rw [List.mem_filter]; simp⟩
 obtain ⟨d,d1,d2,d3⟩:=zil (zrp F) (by rw [zka]; omega) (zlm _);rw [m1];simp only [bS];rw [ze2 l (by omega)];simp only [bS];rw [f1];simp only [bS];unfold zou;rw [z3i (by omega)];simp only [bS];rw [d1];simp only [bS];exact ⟨d,rfl, fun x=>by rw [d3,zsl,f3]⟩
theorem zvx (G:z7o g) (h1:z11 g=some 0) (l:List ID) (hb:l.length≤60) (hin:∀ x∈l,x∈g.IDs):∃ m,zcp g l=some (subG g m,0)∧∀ i,m i=true↔Rch (z1k g) (l.map fun x=>g.IDs.idxOf x) i:=by
 obtain ⟨r,r1,r2⟩:=zsb G h1 l hb;have he:r=[]:=by
  cases r with
  | nil=>rfl
  | cons a b =>
   have:=(r2 a).1 (by simp)
   exact absurd (hin a this.1) this.2
 subst he;obtain ⟨m,m1,m2⟩:=z10s G.e G.ins l hin (by omega);refine ⟨m,?_,m2⟩;unfold zcp;rw [r1];simp only [bS];rw [if_neg (by simp),if_neg (by simp),m1];simp only [bS];rw [z12f G.e m];simp only [bS];rfl
end
section
open Go
variable {g:z00}
theorem zcf (l:List ID) (x:ID) (hl:l.length≤1000):z1h l x=some (decide (x∈l)):=by
 have main:=zej (F:=z33 l x) (fun s=>∃ i:Nat,s=(i:Int)∧i≤l.length∧∀ k (h:k<l.length),k<i→l[k]≠x) (fun s=>l.length - s.toNat)
  (fun b:Sum Int Unit=>(b=.inr ()∧x∉l)∨∃ i:Nat,b=.inl (i:Int)∧x∈l)
  (fun s hs=>by
   obtain ⟨i,rfl,h1,h2⟩:=hs;by_cases hi:i<l.length
   ·have hF:z33 l x (i:Int)=if decide (x=l[i]) then some (.inl (.inl (i:Int))) else some (.inr ((i+1:Nat):Int)):=by
     unfold z33;rw [if_pos (by simpa using hi),z0g hi,z0r (by omega)];simp only [bS]
    by_cases hc:x=l[i]
    ·rw [decide_eq_true hc,if_pos rfl] at hF;exact .inl ⟨_,hF,.inr ⟨i,rfl,hc ▸ List.getElem_mem hi⟩⟩
    ·rw [decide_eq_false hc,if_neg (by simp)] at hF;refine .inr ⟨_,hF,⟨i+1,rfl,hi, fun k hk hki=>?_⟩, by simp; omega⟩;by_cases hk':k=i
     ·subst hk'; exact fun e=>hc e.symm
     ·exact h2 k hk (by omega)
   ·refine .inl ⟨.inr (),?_,.inl ⟨rfl, fun hx=>?_⟩⟩
    ·unfold z33;rw [if_neg (by simpa using hi)]
    ·obtain ⟨k,hk,e⟩:=List.getElem_of_mem hx
     exact h2 k hk (by omega) e)
  0 ⟨0,rfl,Nat.zero_le _, fun k _ h=>by omega⟩
 obtain ⟨b,b1,b2⟩:=main;unfold z1h z6i;rw [b1];rcases b2 with ⟨rfl,h⟩ | ⟨i,rfl,h⟩
 ·rw [decide_eq_false h]; rfl
 ·rw [decide_eq_true h];simp only [or_l,bS];rw [decide_eq_true (by simp)]
theorem z15f (cap:z00) (p:ID→Bool) (hp:∀ x,za6 x cap=some (p x)) (l:List ID) (hl:l.length≤1000):z1q l cap=some (l.filter fun x=>!p x) :=
 zpi (fun x=>za6 x cap) p hp l hl
theorem z13p (cap:z00) (p:ID→Bool) (hp:∀ x,zad x cap=some (p x)) (l:List ID) (hl:l.length≤1000):z1s l cap=some (l.filter fun x=>!p x) :=
 zpi (fun x=>zad x cap) p hp l hl
theorem z14q (cap cap2:List ID) (p:ID→Bool) (hp:∀ x,zbf x cap cap2=some (p x)) (l:List ID) (hl:l.length≤1000):z2v l cap cap2=some (l.filter fun x=>!p x) :=
 zpi (fun x=>zbf x cap cap2) p hp l hl
theorem zvb (F:List ID) (hF:F.length≤100):∃ d,(zou F >>= fun r6=>z10 r6)=some d∧z8b d=true∧∀ x,x∈d↔x∈F:=by
 obtain ⟨d,d1,d2,d3⟩:=zil (zrp F) (by rw [zka]; omega) (zlm _);refine ⟨d,?_,d2, fun x=>by rw [d3,zsl]⟩;unfold zou;rw [z3i (by omega)];simp only [bS];rw [d1]
theorem zp4 (E:zay g) (l:List ID) (hl:l.length≤60):∃ d,ze5 g l=some d∧z8b d=true∧∀ x,x∈d↔x∈l∧x∉g.IDs:=by
 have hlen:=E.len;have hids:=E.ids;obtain ⟨F,f1,f2,f3⟩:∃ F,z1q l g=some F∧F.length≤l.length∧∀ x,x∈F↔x∈l∧x∉g.IDs :=
  ⟨_,z15f g (fun x=>decide (x∈g.IDs)) (fun x=>by unfold za6; rw [zcf _ _ (by omega)]; rfl) l (by omega),List.length_filter_le _ _, fun x=>by rw [List.mem_filter]; simp⟩
 obtain ⟨d,d1,d2,d3⟩:=zvb F (by omega);refine ⟨d,?_,d2, fun x=>by rw [d3,f3]⟩;unfold ze5;rw [ze2 l (by omega)];simp only [bS];rw [f1];simp only [bS]
 cases hs:zou F with
 | none=>rw [hs] at d1; cases d1
 | some r6 =>
  rw [hs] at d1;simp only [bS] at d1 ⊢;rw [d1];simp only [bS]
end
section
open Go
variable {g:z00}
def z8v (g:z00) (l:List ID) (y:ID):Prop:=y∈g.IDs∧((y∈l)∨∃ x∈l,x∈g.IDs∧Rch (z1k g) (z1k g (g.IDs.idxOf x)) (g.IDs.idxOf y))
theorem zhn (G:z7o g) (h1:z11 g=some 0) (l:List ID) (hl:l.length≤60):∃ d,zce g l=some d∧z8b d=true∧∀ y,y∈d↔z8v g l y:=by
 have E:=G.e;have hlen:=E.len;have hids:=E.ids;obtain ⟨F,f1,f2,f3⟩:∃ F,z1s l g=some F∧F.length≤l.length∧∀ x,x∈F↔x∈l∧x∈g.IDs :=
  ⟨_,z13p g (fun x=>!decide (x∈g.IDs)) (fun x=>by unfold zad; rw [zcf _ _ (by omega)]; rfl) l (by omega),List.length_filter_le _ _, fun x=>by rw [List.mem_filter]; simp⟩
 obtain ⟨d,d1,d2,d3⟩:=zvb F (by omega);have hin:∀ x∈d,x∈g.IDs:=fun x hx=>((f3 x).1 ((d3 x).1 hx)).2;have hdl:=zqf (g:=g) d2 hin;obtain ⟨m,m1,m2⟩:=zvx G h1 d (by omega) hin;refine ⟨z8w g m,?_,zgx E m, fun y=>?_⟩
 ·unfold zce;rw [ze2 l (by omega)];simp only [bS];rw [f1];simp only [bS]
  cases hs:zou F with
  | none=>rw [hs] at d1; cases d1
  | some r6 =>
   rw [hs] at d1;simp only [bS] at d1 ⊢;rw [d1];simp only [bS];rw [m1];simp only [bS];rw [← zwr]; rfl
 ·rw [ze3 E,m2,zkc];unfold z8v
  constructor
  ·rintro ⟨hy,h | ⟨q,hq,hr⟩⟩
   ·obtain ⟨x,hx,e⟩:=List.mem_map.1 h
    have:x=y:=zh4 hy e
    subst this;exact ⟨hy,.inl ((f3 _).1 ((d3 _).1 hx)).1⟩
   ·obtain ⟨x,hx,e⟩:=List.mem_map.1 hq;rw [← e] at hr;exact ⟨hy,.inr ⟨x,((f3 _).1 ((d3 _).1 hx)).1,hin x hx,hr⟩⟩
  ·rintro ⟨hy,h | ⟨x,hx,hxi,hr⟩⟩
   ·exact ⟨hy,.inl (List.mem_map.2 ⟨y,(d3 _).2 ((f3 _).2 ⟨h,hy⟩),rfl⟩)⟩
   ·exact ⟨hy,.inr ⟨_,List.mem_map.2 ⟨x,(d3 _).2 ((f3 _).2 ⟨hx,hxi⟩),rfl⟩,hr⟩⟩
end
section
open Go
variable {g:z00}
def bts (g:z00) (x:ID):List UInt8:=match g.Ops[g.IDs.idxOf x]? with | some o=>zed o | none=>[]
theorem z12x (G:z7o g) (hw:z28 g) {i:Nat} (hi:i<g.Ops.length):z4l g.Ops[i]=0∧inI g.Ops[i].Act.Value.Num∧g.Ops[i].Act.Value.Text.length≤9223372036854775807:=by
 obtain ⟨w1,w2⟩:=z17w hw (List.getElem_mem hi);exact ⟨z9f (G.ops i hi).1,w1,w2⟩
theorem zxf (G:z7o g) {x:ID} (hx:x∈g.IDs):bts g x=zed (g.Ops[g.IDs.idxOf x]'(zeq G hx)):=by
 unfold bts;rw [List.getElem?_eq_getElem (zeq G hx)]
theorem zj1 (G:z7o g) (hw:z28 g) {x:ID} (hx:x∈g.IDs):(bts g x).length≤400:=by
 rw [zxf G hx];obtain ⟨h1,h2,_⟩:=z12x G hw (zeq G hx);exact zt9 h1 h2
theorem zp2 (G:z7o g) (hw:z28 g) (h1:z11 g=some 0) {x:ID} (hx:x∈g.IDs):∃ r,zjg g x=some r∧zd6 r.1=some (bts g x,0):=by
 have hlen:=G.e.len;have hids:=G.e.ids;obtain ⟨k,k1,k2,k3⟩:=zcb g (by omega) G.e.ri x;obtain ⟨rfl,hk⟩:=k2 hx;have hi:=zeq G hx;have h4:=(G.e.op _ hi).1;refine ⟨(g.Ops[g.IDs.idxOf x],0),?_,?_⟩
 ·unfold zjg;rw [h1];simp only [bS];rw [if_neg (by simp),k1,decide_eq_true hx];simp only [bS];rw [if_neg (by simp),z0g hi];simp only [bS];unfold zdm;rw [ze2 _ (by omega)];rfl
 ·obtain ⟨c1,c2,c3⟩:=z12x G hw hi;rw [zxf G hx];exact zrr _ c1 c2 c3
def fr (ops:List (List UInt8)):z27:=⟨5,0,[],ops⟩
def zhb (ops:List (List UInt8)):List UInt8:=ops.flatMap fun o=>z1m o.length++o
def zle (ops:List (List UInt8)):List UInt8:=([5]++z1m ops.length)++zhb ops
def okF (ops:List (List UInt8)):Bool:=decide (ops.length≤8)&&decide ((zle ops).length≤2000)
theorem zl7:∀ (l:List (List UInt8)),(∀ o∈l,o.length≤400)→(zhb l).length≤409 * l.length
 | [],_=>by simp [zhb]
 | o::l,h=>by
  have ih:=zl7 l fun q hq=>h q (by simp [hq]);have ho:=h o (by simp)
  have:=z0u o.length (by omega)
  unfold zhb at *;rw [List.flatMap_cons];simp only [List.length_append,List.length_cons]; omega
theorem ztg (l:List (List UInt8)) (o:List UInt8):zhb (l++[o])=zhb l++(z1m o.length++o):=by
 unfold zhb; rw [List.flatMap_append]; simp
theorem zwa (ops:List (List UInt8)) (h9:ops.length≤9) (hall:∀ o∈ops,o.length≤400):zfs (fr ops)=some (if okF ops then 0 else 8):=by
 have hn:=z0u ops.length (by omega);have hb:=zl7 ops hall;have hL:ops.length≤8→iter (z7f (fr ops)) ([5]++z1m ops.length,true,0)=some (zle ops,true):=fun h8=>by
  have main:=z2k (F:=z7f (fr ops)) (b:=(zle ops,true)) ops.length (fun i=>(([5]++z1m ops.length)++zhb (ops.take i),true,(i:Int))) (fun i hi=>?_) ?_
  ·simpa [zhb] using main
  ·have ho:ops[i].length≤400:=hall _ (List.getElem_mem hi);have ht:=zl7 (ops.take i) fun o ho=>hall o (List.mem_of_mem_take ho);rw [List.length_take] at ht;have hno:=z0u ops[i].length (by omega);unfold z7f;rw [if_pos rfl,if_pos (by show decide ((i:Int)<((ops.length:Nat):Int))=true; simpa using hi)]
   show (idx ops (i:Int) >>= _)=_;rw [z0g hi];simp only [bS];rw [zmt _ (by omega)];simp only [bS];rw [z1t (by simp only [List.length_append,List.length_cons,List.length_nil]; omega)];simp only [bS];show (idx ops (i:Int) >>= _)=_;rw [z0g hi];simp only [bS];rw [decide_eq_true (by omega),z0r (by omega),zmz hi,ztg];simp only [List.append_assoc]
  ·unfold z7f;rw [if_pos rfl,if_neg (by show ¬ decide (((ops.length:Nat):Int)<((ops.length:Nat):Int))=true; simp),List.take_length]
   rfl
 have hw:zg3 (fr ops)=some (if ops.length≤8 then (zle ops,decide (((zle ops).length:Int)≤2000)) else ([5]++z1m ops.length,false)):=by
  unfold zg3;have e1:zh6 (fr ops).Kind=some false:=rfl;rw [e1];simp only [bS,Bool.false_eq_true,if_false];rw [if_pos (by rfl),if_pos (by rfl),if_pos (by rfl)];simp only [bS];show ((z4j (UInt64.ofInt (ops.length:Int)) >>= fun r24=>app 1 [(5:UInt8)] r24 >>= fun x26=>iter (z7f (fr ops)) (x26,decide ((ops.length:Int)≤8),0)) >>= _)=_;rw [z71,zke (by omega)];simp only [bS];rw [z1t (by simp only [List.length_cons,List.length_nil]; omega)]
  simp only [bS];by_cases h8:ops.length≤8
  ·rw [decide_eq_true (by omega),hL h8,if_pos h8];simp only [bS];rw [if_pos trivial]
  ·rw [decide_eq_false (by omega),if_neg h8,z1u (b:=([5]++z1m ops.length,false)) (by unfold z7f; rw [if_neg (by simp)])];simp only [bS];rw [if_neg (by simp)]
 unfold zfs;rw [hw];simp only [bS];unfold okF;by_cases h8:ops.length≤8
 ·rw [if_pos h8,decide_eq_true h8,Bool.true_and];by_cases h2:(zle ops).length≤2000
  ·rw [decide_eq_true h2];simp only [];rw [decide_eq_true (by omega)]; rfl
  ·rw [decide_eq_false h2];simp only [];rw [decide_eq_false (by omega)]; rfl
 ·rw [if_neg h8,decide_eq_false h8]; rfl
def zf5 (bs:List (List UInt8)):Nat→Option (List (List (List UInt8)) × List (List UInt8))
 | 0=>none
 | i+1=>match bs[i]? with
  | none=>zf5 bs i
  | some b=>match zf5 bs i with
   | none=>some ([],[b])
   | some (a,l)=>if okF (l++[b]) then some (a,l++[b]) else some (a++[l],[b])
theorem zqq (bs:List (List UInt8)) (hb:∀ b∈bs,b.length≤400):∀ i,i≤bs.length→(zf5 bs i=none∧i=0)∨∃ a l,zf5 bs i=some (a,l)∧a.length+1≤i∧l≠[]∧l.length≤8∧∀ o∈l,o.length≤400
 | 0,_=>.inl ⟨rfl,rfl⟩
 | i+1,hi=>by
  have hlt:i<bs.length:=by omega
  have hbi:bs[i].length≤400:=hb _ (List.getElem_mem hlt)
  right
  unfold zf5;rw [List.getElem?_eq_getElem hlt];rcases zqq bs hb i (by omega) with ⟨h,h0⟩ | ⟨a,l,h,h1,h2,h3,h4⟩
  ·simp only [h];exact ⟨[],[bs[i]],rfl, by simp, by simp, by simp, fun o ho=>by rw [List.mem_singleton] at ho; rw [ho]; exact hbi⟩
  ·simp only [h];by_cases hc:okF (l++[bs[i]])=true
   ·rw [if_pos hc];have h8:(l++[bs[i]]).length≤8:=by unfold okF at hc; simp only [Bool.and_eq_true,decide_eq_true_eq] at hc; exact hc.1
    exact ⟨a,l++[bs[i]],rfl, by omega, by simp,h8, fun o ho=>(List.mem_append.1 ho).elim (h4 o) fun h=>by rw [List.mem_singleton] at h; rw [h]; exact hbi⟩
   ·rw [if_neg hc];exact ⟨a++[l],[bs[i]],rfl, by simp; omega, by simp, by simp, fun o ho=>by rw [List.mem_singleton] at ho; rw [ho]; exact hbi⟩
theorem zhu (bs:List (List UInt8)) {i:Nat} (hlt:i<bs.length):zf5 bs (i+1)=match zf5 bs i with | none=>some ([],[bs[i]]) | some (a,l)=>if okF (l++[bs[i]]) then some (a,l++[bs[i]]) else some (a++[l],[bs[i]]):=by
 rw [zf5,List.getElem?_eq_getElem hlt]
def zyc:Option (List (List (List UInt8)) × List (List UInt8))→List z27
 | none=>[]
 | some (a,l)=>a.map fr++[fr l]
theorem z119 (G:z7o g) (hw:z28 g) (h1:z11 g=some 0) (l:List ID) (hin:∀ x∈l,x∈g.IDs) {i:Nat} (hi:i<l.length) (hl:l.length≤60):z4y g l ([],(i:Int))=some (.inr ([fr [bts g l[i]]],((i+1:Nat):Int))):=by
 obtain ⟨r,r1,r2⟩:=zp2 G hw h1 (hin _ (List.getElem_mem hi));unfold z4y;rw [if_pos (by simpa using hi)];simp only [];rw [z0g hi];simp only [bS];rw [r1];simp only [bS];rw [r2];simp only [bS];rw [if_neg (by simp)];simp only [zx0];rw [z1t (by simp),z0r (by omega)];rfl
theorem z109 (G:z7o g) (hw:z28 g) (h1:z11 g=some 0) (l:List ID) (hin:∀ x∈l,x∈g.IDs) (X:List z27) (q:List (List UInt8)) (hX:X.length≤100) (g3:q.length≤8) (g4:∀ o∈q,o.length≤400) {i:Nat} (hi:i<l.length) (hl:l.length≤60) :
  z4y g l (X++[fr q],(i:Int))=if okF (q++[bts g l[i]]) then some (.inr (X++[fr (q++[bts g l[i]])],((i+1:Nat):Int))) else some (.inr ((X++[fr q])++[fr [bts g l[i]]],((i+1:Nat):Int))):=by
 obtain ⟨r,r1,r2⟩:=zp2 G hw h1 (hin _ (List.getElem_mem hi));have hb400:=zj1 G hw (hin _ (List.getElem_mem hi));have hol:(X++[fr q]).length=X.length+1:=by simp
 have hge:(X++[fr q])[X.length]'(by omega)=fr q:=by
  rw [List.getElem_append_right (by simp)]; simp
 have e1:z5j (fr q).Ops=some q:=by
  unfold z5j;show (app 24 ([]:List (List UInt8)) q >>= _)=_;rw [z1t (by simp; omega)]; rfl
 have hck:=zwa (q++[bts g l[i]]) (by simp; omega) (fun o ho=>(List.mem_append.1 ho).elim (g4 o) fun h=>by rw [List.mem_singleton] at h; rw [h]; exact hb400);have e2:(⟨(fr q).Kind,(fr q).N,(fr q).IDs,q++[bts g l[i]]⟩:z27)=fr (q++[bts g l[i]]):=rfl;have e3:(X++[fr q]).set X.length (fr (q++[bts g l[i]]))=X++[fr (q++[bts g l[i]])]:=by
  simp [List.set_append]
 have e4:w64 (((X++[fr q]).length:Int) - 1)=(X.length:Int):=by
  rw [hol,z18 (by omega) (by omega)]; omega
 unfold z4y;rw [if_pos (by simpa using hi)];simp only [];rw [z0g hi];simp only [bS];rw [r1];simp only [bS];rw [r2];simp only [bS];rw [if_pos (by simp <;> omega),e4,z0g (by omega),hge]
 simp only [bS];rw [e1];simp only [bS];rw [z1t (by simp only [List.length_cons,List.length_nil]; omega)];simp only [bS];rw [e2];by_cases hc:okF (q++[bts g l[i]])=true
 ·rw [if_pos hc] at hck;rw [hck];simp only [bS,if_pos hc];rw [if_pos (by rfl)];simp only [or_l,Int.toNat_natCast];rw [z0r (by omega),e3]
 ·rw [if_neg hc] at hck;rw [hck];simp only [bS,if_neg hc];rw [if_neg (by decide)];simp only [zx0];rw [z1t (by simp; omega),z0r (by omega)];rfl
theorem znq (G:z7o g) (hw:z28 g) (h1:z11 g=some 0) (l:List ID) (hl:l.length≤60) (hin:∀ x∈l,x∈g.IDs):zcx g l=some (zyc (zf5 (l.map (bts g)) l.length)):=by
 have hb:∀ b∈l.map (bts g),b.length≤400:=fun b hb=>by
  obtain ⟨x,hx,rfl⟩:=List.mem_map.1 hb;exact zj1 G hw (hin x hx)
 have main:=z2k (F:=z4y g l) (b:=zyc (zf5 (l.map (bts g)) l.length)) l.length (fun i=>(zyc (zf5 (l.map (bts g)) i),(i:Int))) (fun i hi=>?_) ?_
 ·unfold zcx;have e0:(([]:List z27),(0:Int))=(zyc (zf5 (l.map (bts g)) 0),((0:Nat):Int)):=rfl;rw [e0,main];simp only [bS]
 ·have him:i<(l.map (bts g)).length:=by simpa using hi
  have hbi:(l.map (bts g))[i]=bts g l[i]:=by simp
  rw [zhu _ him,hbi];rcases zqq (l.map (bts g)) hb i (by omega) with ⟨h,h0⟩ | ⟨a,q,h,g1,g2,g3,g4⟩
  ·rw [h];exact z119 G hw h1 l hin hi hl
  ·rw [h];have hs:=z109 G hw h1 l hin (a.map fr) q (by simp; omega) g3 g4 hi hl;show z4y g l (a.map fr++[fr q],(i:Int))=_;rw [hs];by_cases hc:okF (q++[bts g l[i]])=true
   ·simp only [if_pos hc]; rfl
   ·simp only [if_neg hc];show some (Sum.inr ((a.map fr++[fr q])++[fr [bts g l[i]]],_))=some (Sum.inr ((a++[q]).map fr++[fr [bts g l[i]]],_));rw [List.map_append]; rfl
 ·unfold z4y;rw [if_neg (by simp)]
end
section
open Go
variable {g:z00}
theorem zrg (l:List ID) (hl:l.length≤1000):z4s l l=some true:=by
 have main:=z2k (F:=z9n l l) (b:=(.inr ():Sum Bool Unit)) l.length (fun i=>(i:Int)) (fun i hi=>?_) ?_
 ·unfold z4s;rw [if_neg (by simp), show (0:Int)=((0:Nat):Int) from rfl,main]; rfl
 ·unfold z9n;rw [if_pos (by simpa using hi),z0g hi,z0r (by omega)];simp only [bS];rw [if_neg (by simp)]
 ·unfold z9n;rw [if_neg (by simp)]
def zff (c:Int) (a b:List ID):Int:=if c≠0 then c else if 60<a.length then 4 else if 60<b.length then 4 else 0
theorem zjv {c:Int} (h1:z11 g=some c) (a:List ID):z8j g [a]=some (zff c a []):=by
 unfold z8j zff;rw [h1];simp only [bS];by_cases hc:c=0
 ·subst hc;rw [if_neg (by simp),if_neg (by simp)];have e0:z3m [a] ((0:Nat):Int)=if decide (60<(a.length:Int)) then some (.inl (.inl 4)) else some (.inr ((1:Nat):Int)):=by
   unfold z3m;rw [if_pos (by simp),z0g (by simp),z0r (by omega)];rfl
  have e1:z3m [a] ((1:Nat):Int)=some (.inl (.inr ())):=by
   unfold z3m;rw [if_neg (by simp)]
  rw [show (0:Int)=((0:Nat):Int) from rfl];by_cases hb:60<a.length
  ·rw [if_pos (by simp; omega)] at e0;rw [z1u e0,if_pos hb]; rfl
  ·rw [if_neg (by simp; omega)] at e0;rw [z26 e0,z1u e1,if_neg hb,if_neg (by simp)]; rfl
 ·rw [if_pos (by simpa using hc),if_pos hc]
theorem zkk {c:Int} (h1:z11 g=some c) (a b:List ID):z8j g [a,b]=some (zff c a b):=by
 unfold z8j zff;rw [h1];simp only [bS];by_cases hc:c=0
 ·subst hc;rw [if_neg (by simp),if_neg (by simp)];have e0:z3m [a,b] ((0:Nat):Int)=if decide (60<(a.length:Int)) then some (.inl (.inl 4)) else some (.inr ((1:Nat):Int)):=by
   unfold z3m;rw [if_pos (by simp),z0g (by simp),z0r (by omega)];rfl
  have e1:z3m [a,b] ((1:Nat):Int)=if decide (60<(b.length:Int)) then some (.inl (.inl 4)) else some (.inr ((2:Nat):Int)):=by
   unfold z3m;rw [if_pos (by simp),z0g (by simp),z0r (by omega)];rfl
  have e2:z3m [a,b] ((2:Nat):Int)=some (.inl (.inr ())):=by
   unfold z3m;rw [if_neg (by simp)]
  rw [show (0:Int)=((0:Nat):Int) from rfl];by_cases ha:60<a.length
  ·rw [if_pos (by simp; omega)] at e0;rw [z1u e0,if_pos ha]; rfl
  ·rw [if_neg (by simp; omega)] at e0;rw [z26 e0,if_neg ha];by_cases hb:60<b.length
   ·rw [if_pos (by simp; omega)] at e1;rw [z1u e1,if_pos hb]; rfl
   ·rw [if_neg (by simp; omega)] at e1;rw [z26 e1,z1u e2,if_neg hb]; rfl
 ·rw [if_pos (by simpa using hc),if_pos hc]
section
variable {c:Int} (h1:z11 g=some c) (h2:z2y g=some c) (h3:c=0↔z7o g)
include h1 h2 h3
end
end
section
open Go
variable {g a b:z00} {n m:Nat}
theorem z130 (h:z28 g) {o:z08} (ho:o∈g.Ops):zdy o:=h.2.1.1 o ho
theorem z115 (F:Fit g n) (hn:n≤1000) (h:∀ o∈g.Ops,zdy o):z28 g:=by
 have h1:=F.len; have h2:=F.ids;exact ⟨⟨fun x _ y _=>trivial, by omega⟩,⟨h, by omega⟩,trivial⟩
theorem z171 {o:z08} (h:zdy o):inI o.Act.Value.Num∧o.Act.Value.Text.length≤9223372036854775807:=⟨h.2.2.2.1.2.2.1.2.1,h.2.2.2.1.2.2.1.2.2.2.1⟩
theorem z15j {p:ID × z08} {o:z08} (h:o∈(zm7 g p).Ops):o=p.2∨o∈g.Ops:=by
 unfold zm7 at h
 split at h
 ·exact .inr h
 ·exact zme.1 h
theorem zrm (F:Fit g n) (hn:n≤1000) (l:List ID) (hl:l.length≤1000):z23 l g=some (l.any fun x=>!decide (x∈g.IDs)):=by
 have h1:=F.len; have h2:=F.ids;have hcl:∀ x,zkq x g=some (!decide (x∈g.IDs)):=fun x=>by
  obtain ⟨k,k1,-⟩:=zcb g (by omega) F.ri x;unfold zkq;rw [k1];simp only [bS]
 have main:=zej (F:=z1e l g) (fun s=>∃ i:Nat,s=(i:Int)∧i≤l.length∧∀ k (h:k<l.length),k<i→l[k]∈g.IDs) (fun s=>l.length - s.toNat)
  (fun b:Sum Int Unit=>(b=.inr ()∧∀ x∈l,x∈g.IDs)∨∃ i:Nat,b=.inl (i:Int)∧∃ x∈l,x∉g.IDs)
  (fun s hs=>by
   obtain ⟨i,rfl,h1,h2⟩:=hs;by_cases hi:i<l.length
   ·have hF:z1e l g (i:Int)=if !decide (l[i]∈g.IDs) then some (.inl (.inl (i:Int))) else some (.inr ((i+1:Nat):Int)):=by
     unfold z1e;rw [if_pos (by simpa using hi),z0g hi,z0r (by omega)];simp only [bS];rw [hcl];simp only [bS]
    by_cases hc:l[i]∈g.IDs
    ·rw [decide_eq_true hc,if_neg (by simp)] at hF;refine .inr ⟨_,hF,⟨i+1,rfl,hi, fun k hk hki=>?_⟩, by simp; omega⟩;by_cases hk':k=i
     ·subst hk'; exact hc
     ·exact h2 k hk (by omega)
    ·rw [decide_eq_false hc,if_pos (by simp)] at hF;exact .inl ⟨_,hF,.inr ⟨i,rfl,l[i],List.getElem_mem hi,hc⟩⟩
   ·refine .inl ⟨.inr (),?_,.inl ⟨rfl, fun x hx=>?_⟩⟩
    ·unfold z1e;rw [if_neg (by simpa using hi)]
    ·obtain ⟨k,hk,rfl⟩:=List.getElem_of_mem hx
     exact h2 k hk (by omega))
  0 ⟨0,rfl,Nat.zero_le _, fun k _ h=>by omega⟩
 obtain ⟨r,r1,r2⟩:=main;unfold z23 z3d;rw [r1];rcases r2 with ⟨rfl,h⟩ | ⟨i,rfl,x,hx,hxn⟩
 ·simp only [zx0,bS]
  have:(l.any fun x=>!decide (x∈g.IDs))=false:=by
   rw [List.any_eq_false]; intro x hx; simp [h x hx]
  rw [this]; rfl
 ·simp only [or_l,bS]
  have:(l.any fun x=>!decide (x∈g.IDs))=true:=by
   rw [List.any_eq_true]; exact ⟨x,hx, by simp [hxn]⟩
  rw [this]; simp
theorem z123 (F:Fit g n) (hn:n≤59) (hc:z11 g=some 0) {p:ID × z08} (hw:zdy p.2) (hp:p.2.Preds.length≤20) (h1:zg8 p.2=0) (h2:sha (zed p.2)=p.1) (hx:p.1∉g.IDs) (hq:∀ q∈p.2.Preds,q∈g.IDs):znr g p.2=some (zm7 g p,p.1,0):=by
 obtain ⟨w1,w2⟩:=z171 hw;have hl:=F.len;have hany:(p.2.Preds.any fun x=>!decide (x∈g.IDs))=false:=by
  rw [List.any_eq_false]; intro x hx; simp [hq x hx]
 unfold znr;rw [hc];simp only [bS];rw [if_pos (by simp),znc _ w1 w2,h1];simp only [bS];rw [if_neg (by simp),zxb _ w1 w2,if_pos (z9f h1),h2];simp only [bS];rw [zy5 F (by omega) p hp,decide_eq_false hx];simp only [bS];rw [if_neg (by simp),zrm F (by omega) _ (by omega),hany];simp only [bS];rw [if_neg (by simp),if_neg (by simp; omega)]
theorem zwt (G:z7o g) (F:Fit g n) {l:List ID} {y p:ID} {o:z08} (h:z8v g l y) (ho:z4r g y=some o) (hp:p∈o.Preds):z8v g l p:=by
 have S:=zm9 G F;have hpm:=S.ins y o ho p hp;obtain ⟨i,i1,i2⟩:=(za5 F).1 ho;obtain ⟨hi,rfl⟩:=List.getElem?_eq_some_iff.1 i1;obtain ⟨hio,rfl⟩:=List.getElem?_eq_some_iff.1 i2;have hpp:g.IDs.idxOf p∈z1k g (g.IDs.idxOf g.IDs[i]):=by
  rw [z79 F.ri hi];unfold z1k;exact List.mem_map.2 ⟨p, by rw [z5h hio]; exact hp,rfl⟩
 refine ⟨hpm,.inr ?_⟩;rcases h.2 with hl | ⟨x,hx,hxg,hr⟩
 ·exact ⟨_,hl,h.1,.base hpp⟩
 ·exact ⟨x,hx,hxg,.step hr hpp⟩
theorem zji {α:Type} (f:α→Bool):∀ (l:List α) (i:Nat) (h:i<(l.filter f).length),∃ k,∃ hk:k<l.length,l[k]=(l.filter f)[i]∧(l.take k).filter f=(l.filter f).take i
 | [],i,h=>by simp at h
 | x::l,i,h=>by
  by_cases hx:f x=true
  ·cases i with
   | zero=>exact ⟨0, by simp, by simp [List.filter_cons_of_pos hx], by simp⟩
   | succ i =>
    have h':i<(l.filter f).length:=by rw [List.filter_cons_of_pos hx] at h; simpa using h
    obtain ⟨k,hk,e1,e2⟩:=zji f l i h';exact ⟨k+1, by simpa using hk, by simp [List.filter_cons_of_pos hx,e1], by simp [List.filter_cons_of_pos hx,e2]⟩
  ·have h':i<(l.filter f).length:=by rw [List.filter_cons_of_neg hx] at h; exact h
   obtain ⟨k,hk,e1,e2⟩:=zji f l i h';exact ⟨k+1, by simpa using hk, by simp [List.filter_cons_of_neg hx,e1], by simp [List.filter_cons_of_neg hx,e2]⟩
structure zo2 (g:z00) (l r d:List ID):Prop where
 len:d.length≤60
 nd:d.Nodup
 mem:∀ x,x∈d↔z8v g l x∧¬ z8v g r x
 topo:∀ i (h:i<d.length) o,z4r g d[i]=some o→∀ p∈o.Preds,p∈d.take i∨z8v g r p
structure Mid (a b s:z00) (d:List ID) (i:Nat):Prop where
 fit:Fit s (16+i)
 sound:zlz s
 wf:∀ o∈s.Ops,zdy o
 ids:∀ x,x∈s.IDs↔x∈b.IDs∨x∈d.take i
 look:∀ x o,z4r s x=some o→z4r a x=some o∨z4r b x=some o
theorem zmx:Fit (⟨[],[]⟩:z00) 0:=⟨rfl,Nat.le_refl _,rfl, fun o ho=>by simp at ho⟩
theorem zyq (F:Fit g n) (hn:n≤1000) (hc:z11 g=some 0) {x:ID} {o:z08} (ho:z4r g x=some o):zjg g x=some (o,0):=by
 have h1:=F.len; have h2:=F.ids;have hx:=(zhy ho).1;obtain ⟨k,k1,k2,-⟩:=zcb g (by omega) F.ri x;obtain ⟨rfl,hk⟩:=k2 hx;have hko:g.IDs.idxOf x<g.Ops.length:=by omega
 have e:g.Ops[g.IDs.idxOf x]=o:=by
  unfold z4r at ho;rw [if_pos hx,List.getElem?_eq_getElem hko] at ho;exact Option.some.inj ho
 unfold zjg;rw [hc];simp only [bS];rw [if_neg (by simp),k1,decide_eq_true hx];simp only [bS];rw [if_neg (by simp),z0g hko];simp only [bS];rw [e,zk6 (by have:=(F.op o (zhy ho).2).1; omega)];simp only [bS]
theorem zo7 (Ga:z7o a) (Fa:Fit a n) (Gb:z7o b) (Fb:Fit b m) (hc:zao a b) {l:List ID} (hl:∀ x∈l,x∈b.IDs) {x:ID} (h:z8v a l x):x∈b.IDs:=by
 have Sb:=zm9 Gb Fb;have step:∀ y p,y∈b.IDs→y∈a.IDs→a.IDs.idxOf p∈z1k a (a.IDs.idxOf y)→p∈a.IDs→p∈b.IDs:=fun y p hy hya hp hpa=>by
  obtain ⟨o,ho⟩:=zbp Fa hya;obtain ⟨q,hq⟩:=zbp Fb hy
  have:=(zcc Fa Fb).1 hc y o q ho hq
  subst this;obtain ⟨i,i1,i2⟩:=(za5 Fa).1 ho;obtain ⟨hi,rfl⟩:=List.getElem?_eq_some_iff.1 i1;obtain ⟨hio,rfl⟩:=List.getElem?_eq_some_iff.1 i2;rw [z79 Fa.ri hi] at hp;unfold z1k at hp;obtain ⟨z,hz,e⟩:=List.mem_map.1 hp;rw [z5h hio] at hz
  have:z=p:=zh4 hpa e
  subst this;exact Sb.ins _ _ hq z hz
 obtain ⟨hxa,h⟩:=h;rcases h with h | ⟨y,hy,hya,hr⟩
 ·exact hl x h
 ·have key:∀ j,Rch (z1k a) (z1k a (a.IDs.idxOf y)) j→j<a.Ops.length∧zec a j∈b.IDs:=fun j hj=>by
   induction hj with
   | @base i hi =>
    have hi':=hi;unfold z1k at hi';obtain ⟨z,hz,e⟩:=List.mem_map.1 hi';have hza:=zcw Ga.ins _ z hz;have hlt:i<a.Ops.length:=by rw [← e]; exact zeq Ga hza
    refine ⟨hlt,?_⟩
    have:zec a i=z:=by rw [← e]; exact zeu hza
    rw [this];exact step y z (hl y hy) hya (by rw [e]; exact hi) hza
   | @step i p hr hp ih =>
    have hp':=hp;unfold z1k at hp';obtain ⟨z,hz,e⟩:=List.mem_map.1 hp';have hza:=zcw Ga.ins _ z hz;have hlt:p<a.Ops.length:=by rw [← e]; exact zeq Ga hza
    refine ⟨hlt,?_⟩
    have:zec a p=z:=by rw [← e]; exact zeu hza
    rw [this];have hia:zec a i∈a.IDs:=by rw [z7r (by rw [Fa.ids]; exact ih.1)]; exact List.getElem_mem _
    refine step (zec a i) z ih.2 hia ?_ hza;rw [zfz Ga.e ih.1,e]; exact hp
  have:=(key _ hr).2
  rw [zeu hxa] at this;exact this
end
section
open Go
variable {g a b:z00} {n m:Nat}
theorem zqt (Fa:Fit a n) (Fb:Fit b m) (h:zao a b):zao b a:=(zcc Fb Fa).2 fun x o q ho hq=>((zcc Fa Fb).1 h x q o hq ho).symm
end
section
open Go
variable {g:z00}
theorem zng {n x:Nat}:top g n x=true↔∀ k,k<n→x∉z1k g k:=by
 unfold top;rw [List.all_eq_true]
 constructor
 ·intro h k hk hx
  have:=h k (by simpa using hk)
  simp [hx] at this
 ·intro h k hk
  have:=h k (by simpa using hk)
  simp [this]
theorem z124 (G:z7o g) (hc:z11 g=some 0):∀ i,i<g.Ops.length→∃ t,t<g.Ops.length∧top g g.Ops.length t=true∧Rch (z1k g) [t] i:=by
 obtain ⟨Q,q1,q2,q3⟩:=zv6 G hc;obtain ⟨got,topo⟩:=q2.got;have hall:∀ i,i<g.Ops.length→i∈Q:=(zqd got.nodup got.lt).1 (by omega);have key:∀ m i,g.Ops.length - Q.idxOf i=m→i<g.Ops.length→∃ t,t<g.Ops.length∧top g g.Ops.length t=true∧Rch (z1k g) [t] i:=by
  intro m
  induction m using Nat.strongRecOn with
  | _ m ih =>
   intro i hm hi
   cases ht:top g g.Ops.length i with
   | true=>exact ⟨i,hi,ht,.base (by simp)⟩
   | false =>
    have:∃ k,k<g.Ops.length∧i∈z1k g k:=by
     refine Classical.byContradiction fun hn=>?_
     have:top g g.Ops.length i=true:=zng.2 fun k hk hx=>hn ⟨k,hk,hx⟩
     rw [ht] at this; simp at this
    obtain ⟨k,hk,hx⟩:=this;have hkQ:=List.idxOf_lt_length_of_mem (hall k hk);have hlt:Q.idxOf i<Q.idxOf k:=by
     have h1:=topo (Q.idxOf k) hkQ i (by rw [List.getElem_idxOf]; exact hx);obtain ⟨j,hj,e⟩:=List.getElem_of_mem h1;rw [List.length_take] at hj;rw [List.getElem_take] at e;have h2:Q.idxOf i≤j:=by
      refine Nat.le_of_not_lt fun c=>?_;have h3:=List.idxOf_lt_length_of_mem (hall i hi)
      have:=(List.getElem_inj (xs:=Q) (i:=j) (j:=Q.idxOf i) (h₀:=by omega) (h₁:=h3) got.nodup).1 (by rw [e,List.getElem_idxOf])
      omega
     omega
    obtain ⟨t,t1,t2,t3⟩:=ih _ (by omega) k rfl hk;exact ⟨t,t1,t2,.step t3 hx⟩
 exact fun i hi=>key _ i rfl hi
end
section
open Go
variable {g:z00}
theorem zui (G:z7o g) (h:z11 g=some 0):z7b g=some (z8w g (top g g.Ops.length),0):=by
 have hlen:=G.e.len;have hids:=G.e.ids;obtain ⟨r,p1,p2⟩:=zn0 G.e;have d0:((0:Int) != 0)=false:=rfl;unfold z7b;rw [h];simp only [bS,d0,Bool.false_eq_true,if_false];rw [p1];simp only [bS];rw [zis (by omega) (by omega),hids];simp only [bS];rw [z188 _ (by omega)];simp only [bS];rw [zw1 G.e G.ins p2];simp only [bS];rw [zxx G.e];rfl
end
section
open Go
variable {g a b:z00} {n m:Nat}
theorem zwu (Fa:Fit a n) (Fb:Fit b m) (hn:n≤500) (hm:m≤500):∃ r,iter (z6p a b) 0=some r∧((r=.inl ((⟨[],[]⟩:z00),14)∧¬ zao a b)∨(r=.inr ()∧zao a b)):=by
 have ha1:=Fa.len; have ha2:=Fa.ids; have hb1:=Fb.len; have hb2:=Fb.ids;have key:∀ k i,b.IDs.length - i=k→i≤b.IDs.length→(∀ j (h:j<b.IDs.length) (h2:j<b.Ops.length),j<i→b.IDs[j]∈a.IDs→a.Ops[a.IDs.idxOf b.IDs[j]]? = some b.Ops[j]) →
   ∃ r,iter (z6p a b) (i:Int)=some r∧((r=.inl ((⟨[],[]⟩:z00),14)∧¬ zao a b)∨(r=.inr ()∧zao a b)):=by
  intro k
  induction k with
  | zero =>
   intro i hk hi hall;refine ⟨.inr (),z1u ?_,.inr ⟨rfl, fun j h h2 hj=>hall j h h2 (by omega) hj⟩⟩
   ·unfold z6p; rw [if_neg (by simp; omega)]
  | succ k ih =>
   intro i hk hi hall;have hib:i<b.IDs.length:=by omega
   have hio:i<b.Ops.length:=by omega
   by_cases hx:b.IDs[i]∈a.IDs
   ·obtain ⟨q,q1,q2,-⟩:=zcb a (by omega) Fa.ri b.IDs[i];obtain ⟨rfl,hq⟩:=q2 hx;have hqo:a.IDs.idxOf b.IDs[i]<a.Ops.length:=by omega
    have hq20:=(Fa.op _ (List.getElem_mem hqo)).1;by_cases hs:a.Ops[a.IDs.idxOf b.IDs[i]]=b.Ops[i]
    ·have hF:z6p a b (i:Int)=some (.inr ((i+1:Nat):Int)):=by
      unfold z6p;rw [if_pos (by simpa using hib),z0g hib];simp only [bS];rw [q1,decide_eq_true hx];simp only [bS];rw [if_pos trivial,z0g hqo,z0g hio];simp only [bS];rw [zuw _ _ (by omega),decide_eq_true hs,z0r (by omega)];simp only [bS];rw [if_neg (by simp)]
     rw [z26 hF];refine ih (i+1) (by omega) (by omega) fun j h h2 hj hm=>?_;by_cases e:j=i
     ·subst e; rw [List.getElem?_eq_getElem hqo,hs]
     ·exact hall j h h2 (by omega) hm
    ·refine ⟨.inl ((⟨[],[]⟩:z00),14),z1u ?_,.inl ⟨rfl, fun h=>hs ?_⟩⟩
     ·unfold z6p;rw [if_pos (by simpa using hib),z0g hib];simp only [bS];rw [q1,decide_eq_true hx];simp only [bS];rw [if_pos trivial,z0g hqo,z0g hio];simp only [bS];rw [zuw _ _ (by omega),decide_eq_false hs];simp only [bS];rw [if_pos (by simp)]
     ·have:=h i hib hio hx
      rw [List.getElem?_eq_getElem hqo] at this
      simpa using this
   ·obtain ⟨q,q1,-⟩:=zlo a (by omega) Fa.ri b.IDs[i] hx;have hF:z6p a b (i:Int)=some (.inr ((i+1:Nat):Int)):=by
     unfold z6p;rw [if_pos (by simpa using hib),z0g hib];simp only [bS];rw [q1];simp only [bS];rw [if_neg (by simp),z0r (by omega)];simp only [bS];rw [if_neg (by simp)]
    rw [z26 hF];refine ih (i+1) (by omega) (by omega) fun j h h2 hj hm=>?_;by_cases e:j=i
    ·subst e; exact absurd hm hx
    ·exact hall j h h2 (by omega) hm
 exact key _ 0 rfl (Nat.zero_le _) fun j _ _ h=>by omega
theorem zrd (Ga:z7o a) (Gb:z7o b) (ha:z11 a=some 0) (hb:z11 b=some 0) (Fa:Fit a 60) (Fb:Fit b 60) (hc:zao a b) :
  z9v a b=some (if 60<(zcz a b).Ops.length then (⟨[],[]⟩,4) else (zcz a b,0)):=by
 obtain ⟨r,r1,r3⟩:=zwu Fa Fb (by omega) (by omega);rcases r3 with ⟨-,h⟩ | ⟨rfl,-⟩
 ·exact absurd hc h
 unfold z9v;rw [zu0 ha hb];simp only [bS];rw [if_neg (by simp),r1];simp only [zx0];rw [zzu (by have:=Fa.ids; have:=Fa.len; omega),zz7 Fa (by omega)];simp only [bS];rw [z11g Fa Fb (by omega) (by omega)];simp only [bS];by_cases h:60<(zcz a b).Ops.length
 ·rw [if_pos (by simp; omega),if_pos h]
 ·rw [if_neg (by simp; omega),if_neg h]
end
section
open Go
variable {a b g:z00} {n m:Nat}
theorem zy1 (G:z7o g) (F:Fit g n) (h1:z11 g=some 0) (l r:List ID) (hl:l.length≤60) (hr:r.length≤60):∃ d,zck g l r=some d∧zo2 g l r d:=by
 obtain ⟨p,p1,p3,p4⟩:=zhn G h1 l hl;obtain ⟨q,q1,q3,q4⟩:=zhn G h1 r hr;obtain ⟨Q,Q1,Q2,Q3⟩:=zv6 G h1;obtain ⟨Qg,Qt⟩:=Q2.got;have hlen:=G.e.len;have hids:=G.e.ids;have hpl:=z9l p g.IDs (z99 p3) fun y hy=>((p4 y).1 hy).1;have hql:=z9l q g.IDs (z99 q3) fun y hy=>((q4 y).1 hy).1;have h0:zck g l r=some ((Q.map (zec g)).filter fun x=>!(!decide (x∈p) || decide (x∈q))):=by
  unfold zck;rw [p1,q1];simp only [bS];rw [Q1];simp only [bS]
  rw [z14q p q (fun x=>!decide (x∈p) || decide (x∈q)) (fun x=>by
   unfold zbf;rw [zcf _ _ (by omega),zcf _ _ (by omega)];simp only [bS]
   cases decide (x∈p) <;> rfl) _ (by simp; omega)]
  rfl
 have d3:((Q.map (zec g)).filter fun x=>!(!decide (x∈p) || decide (x∈q))).length≤60:=Nat.le_trans (List.length_filter_le _ _) (by rw [List.length_map]; omega);have hmemQ:∀ x,x∈Q.map (zec g)↔x∈g.IDs:=fun x=>by
  constructor
  ·intro hx;obtain ⟨i,hi,rfl⟩:=List.mem_map.1 hx
   have:=Qg.lt i hi
   rw [z7r (by rw [F.ids]; exact this)];exact List.getElem_mem _
  ·intro hx;have hlt:g.IDs.idxOf x<g.Ops.length:=zeq G hx;refine List.mem_map.2 ⟨g.IDs.idxOf x,?_,zeu hx⟩;refine Classical.byContradiction fun hno=>?_
   have:=z9l (Q++[g.IDs.idxOf x]) (List.range g.Ops.length) (by
    rw [List.nodup_append]; exact ⟨Qg.nodup, by simp, fun a ha c hc e=>by rw [List.mem_singleton] at hc; subst hc; subst e; exact hno ha⟩) (fun y hy=>by
    rcases List.mem_append.1 hy with hy | hy
    ·simpa using Qg.lt y hy
    ·rw [List.mem_singleton] at hy; subst hy; simpa using hlt)
   rw [List.length_append,List.length_range,Q3] at this;simp at this;omega
 have hndQ:(Q.map (zec g)).Nodup:=by
  rw [List.Nodup,List.pairwise_map];exact Qg.nodup.imp_of_mem fun {a b} ha hb hne e=>hne (by rw [← zfz G.e (Qg.lt a ha),e,zfz G.e (Qg.lt b hb)])
 have hf:∀ x,(!(!decide (x∈p) || decide (x∈q)))=true↔z8v g l x∧¬ z8v g r x:=fun x=>by
  rw [← p4,← q4]; simp
 refine ⟨_,h0,d3,hndQ.sublist List.filter_sublist, fun x=>?_, fun i hi o ho y hy=>?_⟩
 ·rw [List.mem_filter,hmemQ,hf];exact ⟨fun h=>h.2, fun h=>⟨h.1.1,h⟩⟩
 ·by_cases hb:z8v g r y
  ·exact .inr hb
  refine .inl ?_;obtain ⟨k,hk,e1,e2⟩:=zji _ _ i hi;rw [← e2,List.mem_filter,hf];have hxd:((Q.map (zec g)).filter fun x=>!(!decide (x∈p) || decide (x∈q)))[i]∈(Q.map (zec g)).filter fun x=>!(!decide (x∈p) || decide (x∈q)):=List.getElem_mem hi;rw [List.mem_filter,hf] at hxd;have hbl:=zwt G F hxd.2.1 ho hy;refine ⟨?_,hbl,hb⟩;have hkQ:k<Q.length:=by simpa using hk
  rw [List.map_take.symm];have hxk:zec g Q[k]=((Q.map (zec g)).filter fun x=>!(!decide (x∈p) || decide (x∈q)))[i]:=by rw [← e1]; simp
  have hlt:=Qg.lt Q[k] (List.getElem_mem hkQ);obtain ⟨j,j1,j2⟩:=(za5 F).1 ho;obtain ⟨hj,ej⟩:=List.getElem?_eq_some_iff.1 j1;obtain ⟨hjo,rfl⟩:=List.getElem?_eq_some_iff.1 j2;have hjk:j=Q[k]:=by
   have:=z79 F.ri hj
   rw [ej,← hxk,zfz G.e hlt] at this;exact this.symm
  have hpp:g.IDs.idxOf y∈z1k g Q[k]:=by
   unfold z1k;refine List.mem_map.2 ⟨y,?_,rfl⟩;rw [← hjk,z5h hjo]; exact hy
  exact List.mem_map.2 ⟨_,Qt k hkQ _ hpp,zeu hbl.1⟩
theorem z18b (Ga:z7o a) (Fa:Fit a n) (wa:z28 a) (Gb:z7o b) (Fb:Fit b m) (hcl:zao a b) {l r:List ID} (hr:∀ x∈r,x∈b.IDs) {d:List ID} (P:zo2 a l r d) {s:z00} {i:Nat} (hi:i<d.length) (hd:d.length≤16) (M:Mid a b s d i) :
  (d[i]∈b.IDs∧d[i]∈s.IDs∧Mid a b s d (i+1))∨(∃ o,d[i]∉b.IDs∧d[i]∉s.IDs∧z4r a d[i]=some o∧znr s o=some (zm7 s (d[i],o),d[i],0)∧Mid a b (zm7 s (d[i],o)) d (i+1)):=by
 have htk:d.take (i+1)=d.take i++[d[i]]:=by rw [List.take_add_one,List.getElem?_eq_getElem hi]; rfl
 by_cases hb:d[i]∈b.IDs
 ·refine .inl ⟨hb,(M.ids _).2 (.inl hb),⟨M.fit.ids, by have:=M.fit.len; omega,M.fit.ri,M.fit.op⟩,M.sound,M.wf, fun x=>?_,M.look⟩;rw [M.ids,htk,List.mem_append,List.mem_singleton]
  constructor
  ·rintro (h | h) <;> simp [h]
  ·rintro (h | h | rfl)
   ·exact .inl h
   ·exact .inr h
   ·exact .inl hb
 ·have hbel:=((P.mem _).1 (List.getElem_mem hi)).1;obtain ⟨o,ho⟩:=zbp Fa hbel.1;have hxs:d[i]∉s.IDs:=fun h=>by
   rcases (M.ids _).1 h with h | h
   ·exact hb h
   ·obtain ⟨j,hj,e⟩:=List.getElem_of_mem h;rw [List.length_take] at hj;rw [List.getElem_take] at e
    have:=zni P.nd (by omega) hi e
    omega
  have Sa:=zm9 Ga Fa;obtain ⟨k1,k2,k3,k4⟩:=Sa.ops _ o ho;have hop:=Fa.op o (zhy ho).2;have hq:∀ q∈o.Preds,q∈s.IDs:=fun q hq=>by
   rw [M.ids];rcases P.topo i hi o ho q hq with h | h
   ·exact .inr h
   ·exact .inl (zo7 Ga Fa Gb Fb hcl hr h)
  have hw:=z130 wa (zhy ho).2;have Fs:Fit s 60:=⟨M.fit.ids, by have:=M.fit.len; omega,M.fit.ri,M.fit.op⟩
  have Gs:=zn6 Fs M.sound;obtain ⟨c,c1,c2,c3⟩:=zmm (z115 M.fit (by omega) M.wf);have hc0:=c3.2 Gs;subst hc0;refine .inr ⟨o,hb,hxs,ho,z123 M.fit (by omega) c1 (p:=(d[i],o)) hw hop.1 k1 k2 hxs hq,zi1 M.fit hop,zy8 M.fit M.sound (p:=(d[i],o)) hop hxs ⟨k1,k2,k3,k4⟩ hq, fun q hq'=>?_, fun x=>?_, fun x q hx=>?_⟩
  ·rcases z15j hq' with rfl | h
   ·exact hw
   ·exact M.wf q h
  ·rw [ztq M.fit,M.ids,htk,List.mem_append,List.mem_singleton]
   constructor
   ·rintro (h | h | h) <;> simp [h]
   ·rintro (h | h | h) <;> simp [h]
  ·rw [zq7 M.fit hop hxs] at hx
   split at hx
   ·rename_i e
    cases hx
    subst e;exact .inl ho
   ·exact M.look x q hx
theorem z17k (Ga:z7o a) (Fa:Fit a n) (hn:n≤60) (wa:z28 a) (ha:z11 a=some 0) (Gb:z7o b) (Fb:Fit b m) (hm:m≤60) (hcl:zao a b) {l r:List ID} (hr:∀ x∈r,x∈b.IDs) {d:List ID} (P:zo2 a l r d) (hd:d.length≤16) :
  ∀ k i s,d.length - i=k→i≤d.length→Mid a b s d i→∃ s',iter (z8t a b d) (s,(i:Int))=some s'∧Mid a b s' d d.length:=by
 have hb1:=Fb.len; have hb2:=Fb.ids;intro k
 induction k with
 | zero =>
  intro i s hk hi M
  have:i=d.length:=by omega
  subst this;exact ⟨s,z1u (by unfold z8t; rw [if_neg (by simp)]),M⟩
 | succ k ih =>
  intro i s hk hi M;have hid:i<d.length:=by omega
  rcases z18b Ga Fa wa Gb Fb hcl hr P hid hd M with ⟨hb,hs,M'⟩ | ⟨o,hb,hs,ho,h1,M'⟩
  ·have hF:z8t a b d (s,(i:Int))=some (.inr (s,((i+1:Nat):Int))):=by
    unfold z8t;simp only [];rw [if_pos (by simpa using hid),z0g hid];simp only [bS];rw [zcf _ _ (by omega),decide_eq_true hb,z0r (by omega)];simp only [bS];rfl
   rw [z26 hF];exact ih (i+1) s (by omega) (by omega) M'
  ·have hF:z8t a b d (s,(i:Int))=some (.inr (zm7 s (d[i],o),((i+1:Nat):Int))):=by
    unfold z8t;simp only [];rw [if_pos (by simpa using hid),z0g hid];simp only [bS];rw [zcf _ _ (by omega),decide_eq_false hb];simp only [bS];rw [if_neg (by simp),zyq Fa (by omega) ha ho];simp only [bS];rw [h1,z0r (by omega)];simp only [bS]
   rw [z26 hF];exact ih (i+1) _ (by omega) (by omega) M'
theorem z18d:zlz (⟨[],[]⟩:z00):=⟨fun x o h=>by simp [z4r] at h, fun x o h=>by simp [z4r] at h, fun _=>0, fun x o h=>by simp [z4r] at h⟩
theorem z12h:z7o (⟨[],[]⟩:z00):=zn6 (g:=⟨[],[]⟩) ⟨rfl, by simp,rfl, fun o ho=>by simp at ho⟩ z18d
theorem z170:z11 (⟨[],[]⟩:z00)=some 0:=by
 obtain ⟨c,c1,c2,c3⟩:=zmm (g:=⟨[],[]⟩) (z115 zmx (by omega) fun o ho=>by simp at ho)
 have:=c3.2 z12h
 subst this;exact c1
theorem zqp (Gb:z7o b) (hb:z11 b=some 0) (Fb:Fit b 60):z9v b (⟨[],[]⟩:z00)=some (b,0):=by
 have h:=zrd Gb z12h hb z170 Fb ⟨rfl, by simp,rfl, fun o ho=>by simp at ho⟩ (fun i hi=>by simp at hi);have e:zcz b (⟨[],[]⟩:z00)=b:=rfl;rw [e,if_neg (by have:=Fb.len; omega)] at h;exact h
theorem zyf (Ga:z7o a) (Fa:Fit a n) (Gb:z7o b) (Fb:Fit b m) (hc:zao a b) {t:ID} (ht:t∈b.IDs) (hta:t∈a.IDs) {x:ID} (hx:x∈a.IDs) (hr:Rch (z1k a) [a.IDs.idxOf t] (a.IDs.idxOf x)):x∈b.IDs :=
 zo7 Ga Fa Gb Fb hc (l:=[t]) (fun z hz=>by rw [List.mem_singleton] at hz; subst hz; exact ht) ⟨hx, by
  rcases zkc.1 hr with h | ⟨s,h1,h2⟩
  ·rw [List.mem_singleton] at h;exact .inl (by rw [List.mem_singleton]; exact zh4 hta h)
  ·rw [List.mem_singleton] at h1;subst h1
   exact .inr ⟨t, by simp,hta,h2⟩⟩
theorem zno (Ga:z7o a) (Gb:z7o b) (wa:z28 a) (wb:z28 b) (ha:z11 a=some 0) (hb:z11 b=some 0) (ha':z2y a=some 0) (hb':z2y b=some 0) (Fa:Fit a 16) (Fb:Fit b 16) (hcl:zao a b) :
  ∃ w d,za9 a b=some (zcz a b,((zyc (zf5 (d.map (bts a)) d.length)).length:Int))∧zo2 a w (z8w b (top b b.Ops.length)) d∧(∀ x,x∈w↔x∈z8w a (top a a.Ops.length)∧x∉b.IDs)∧d.length≤16:=by
 obtain ⟨x,x1,x3,x4⟩:∃ x,z7b a=some (x,0)∧x.length≤60∧x=z8w a (top a a.Ops.length):=⟨_,zui Ga ha, by
  have:=zqf (g:=a) (zgx Ga.e (top a a.Ops.length)) fun y hy=>((ze3 Ga.e).1 hy).1
  have:=Fa.len; have:=Fa.ids; omega,rfl⟩
 obtain ⟨y,y1,y3,y4⟩:∃ y,z7b b=some (y,0)∧y.length≤60∧y=z8w b (top b b.Ops.length):=⟨_,zui Gb hb, by
  have:=zqf (g:=b) (zgx Gb.e (top b b.Ops.length)) fun y hy=>((ze3 Gb.e).1 hy).1
  have:=Fb.len; have:=Fb.ids; omega,rfl⟩
 obtain ⟨w,w1,w2,w4⟩:=zp4 Gb.e x x3;have w3:=z9l w x (z99 w2) fun z hz=>((w4 z).1 hz).1;obtain ⟨d,d1,P⟩:=zy1 Ga Fa ha w y (by omega) y3;have hyb:∀ z∈y,z∈b.IDs:=fun z hz=>by rw [y4] at hz; exact ((ze3 Gb.e).1 hz).1
 have hdin:∀ z∈d,z∈a.IDs:=fun z hz=>((P.mem z).1 hz).1.1;have hd16:d.length≤16:=by
  have:=z9l _ _ P.nd hdin
  have:=Fa.len; have:=Fa.ids
  omega
 have M0:Mid a b b d 0:=⟨⟨Fb.ids, by have:=Fb.len; omega,Fb.ri,Fb.op⟩,zm9 Gb Fb, fun o ho=>z130 wb ho, fun z=>by simp, fun z o h=>.inr h⟩
 obtain ⟨s,s1,M⟩:=z17k Ga Fa (by omega) wa ha Gb Fb (by omega) hcl hyb P hd16 _ 0 b rfl (Nat.zero_le _) M0;have hs:s=zcz a b:=by
  refine zhm M.fit (zk7 Fa Fb) fun z=>?_;rw [zhq Fa Fb];have hM:=M.ids z;rw [List.take_length] at hM
  cases hz:z4r s z with
  | some o =>
   rcases M.look z o hz with h | h
   ·rw [h]; rfl
   ·cases ho:z4r a z with
    | none=>rw [h]; rfl
    | some q=>rw [(zcc Fa Fb).1 hcl z q o ho h]; rfl
  | none =>
   have hn:z∉s.IDs:=fun hc=>by
    obtain ⟨o,ho⟩:=zbp M.fit hc;rw [hz] at ho; simp at ho
   have hzb:z∉b.IDs:=fun hc=>hn (hM.2 (.inl hc));have hza:z∉a.IDs:=fun hc=>by
    obtain ⟨t,t1,t2,t3⟩:=z124 Ga ha (a.IDs.idxOf z) (zeq Ga hc);have htl:t<a.IDs.length:=by have:=Ga.e.ids; omega
    have hta:zec a t∈a.IDs:=by rw [z7r htl]; exact List.getElem_mem _
    have htx:a.IDs.idxOf (zec a t)=t:=zfz Ga.e t1;have htb:zec a t∉b.IDs:=fun hb=>hzb (zyf Ga Fa Gb Fb hcl hb hta hc (by rw [htx]; exact t3));have htw:zec a t∈w:=by rw [w4,x4]; exact ⟨(ze3 Ga.e).2 ⟨hta, by rw [htx]; exact t2⟩,htb⟩
    refine hn (hM.2 (.inr ((P.mem z).2 ⟨⟨hc,?_⟩, fun hk=>hzb (zo7 Ga Fa Gb Fb hcl hyb hk)⟩)));rcases zkc.1 t3 with h | ⟨q,h1,h2⟩
    ·rw [List.mem_singleton] at h
     have:z=zec a t:=by rw [← h]; exact (zeu hc).symm
     rw [this]; exact .inl htw
    ·rw [List.mem_singleton] at h1;subst h1;exact .inr ⟨zec a q,htw,hta, by rw [htx]; exact h2⟩
   rw [zc1 hza,zc1 hzb]; rfl
 refine ⟨w,d,?_,y4 ▸ P, fun z=>by rw [w4,x4],hd16⟩;rw [← hs];unfold za9;rw [x1,y1];simp only [bS];rw [w1];simp only [bS];rw [d1,zqp Gb hb ⟨Fb.ids, by have:=Fb.len; omega,Fb.ri,Fb.op⟩];simp only [bS];rw [show ((b,(0:Int)):z00 × Int)=(b,((0:Nat):Int)) from rfl,s1,znq Ga wa ha d (by omega) hdin];simp only [bS]
end
section
open Go
theorem okB_ {y:UInt32} {st:UInt64} {P:List O8} {sg:z09} (hp:P.length≤4) (h:zg8 (zgp y st P sg)=0):OkN (zgp y st P sg):=⟨h, by show (P.map idv).length≤4; rw [List.length_map]; exact hp, by show ([]:List UInt8).length≤100; simp, by show ([]:List UInt8).length≤100; simp, by show inI 0; unfold inI; omega⟩
theorem wfB_ {y:UInt32} {st:UInt64} {P:List O8} {sg:z09} (hp:P.length≤4):zdy (zgp y st P sg):=by
 have h4:(P.map idv).length≤4:=by rw [List.length_map]; exact hp
 refine ⟨trivial,⟨fun x _ y _=>trivial,Nat.le_trans h4 (by omega)⟩,trivial,?_,?_⟩
 ·refine ⟨trivial,?_,⟨trivial,?_,trivial,?_,trivial⟩,trivial⟩
  ·show ([]:List UInt8).length≤_; simp
  ·show inI 0; unfold inI; omega
  ·show ([]:List UInt8).length≤_; simp
 ·exact ⟨⟨trivial,trivial,trivial⟩,trivial⟩
theorem z156:z8b [idv ib,idv ia,idv id4,idv ic]=true:=by
 have h:=zmb [ib,ia,id4,ic];rw [show zsh [ib,ia,id4,ic]=true by decide +kernel] at h;exact h
theorem pw27:kd (idv ib)<kd (idv ia)∧kd (idv ia)<kd (idv id4)∧kd (idv id4)<kd (idv ic) :=
 ⟨zfr z156 (i:=0) (j:=1) (by simp) (by simp) (by omega),zfr z156 (i:=1) (j:=2) (by simp) (by simp) (by omega),zfr z156 (i:=2) (j:=3) (by simp) (by simp) (by omega)⟩
theorem okA:OkN xA:=okB_ (by simp) (zvo runA)
theorem okB:OkN xB:=okB_ (by simp) (zvo runB)
theorem okC:OkN xC:=okB_ (by simp) (zvo runC)
theorem okD:OkN xD:=okB_ (by simp) (zvo runD)
theorem jA:oid xA=idv ia:=(zp7 runA).2.2.2.2.2
theorem jB:oid xB=idv ib:=(zp7 runB).2.2.2.2.2
theorem jC:oid xC=idv ic:=(zp7 runC).2.2.2.2.2
theorem jD:oid xD=idv id4:=(zp7 runD).2.2.2.2.2
abbrev gA:z00:=⟨[idv ib,idv ia,idv ic],[xB,xA,xC]⟩
abbrev gB:z00:=⟨[idv ia],[xA]⟩
abbrev gC:z00:=⟨[idv ia,idv id4],[xA,xD]⟩
theorem incA:z8b [idv ib,idv ia,idv ic]=true:=by
 obtain ⟨h1,h2,h3⟩:=pw27;rw [z8m];simp only [List.pairwise_cons,List.mem_cons,List.not_mem_nil,or_false];refine ⟨?_,?_,⟨fun z hz=>absurd hz id,List.Pairwise.nil⟩⟩
 ·rintro z (rfl | rfl)
  ·exact h1
  ·omega
 ·rintro z rfl; omega
theorem incC:z8b [idv ia,idv id4]=true:=by
 obtain ⟨h1,h2,h3⟩:=pw27;rw [z8m];simp only [List.pairwise_cons,List.mem_cons,List.not_mem_nil,or_false];exact ⟨fun z hz=>by subst hz; exact h2,⟨fun z hz=>absurd hz id,List.Pairwise.nil⟩⟩
theorem inc1 (z:ID):z8b [z]=true:=by rw [z8m]; simp
theorem inc0:z8b []=true:=by rw [z8m]; simp
theorem isA:Fit gA 60∧zlz gA:=by
 have i0:[idv ib,idv ia,idv ic].idxOf (idv ib)=0:=z79 incA (k:=0) (by simp);have i1:[idv ib,idv ia,idv ic].idxOf (idv ia)=1:=z79 incA (k:=1) (by simp);refine zmw [1,0,2] rfl (by simp) incA fun i hi=>?_
 match i,hi with
 | 0,_=>exact ⟨okB,jB,inc1 _, fun p hp=>by
   have hp:p∈[idv ia]:=hp;rw [List.mem_singleton] at hp;subst hp
   exact ⟨by simp, by rw [i1]; decide⟩⟩
 | 1,_=>exact ⟨okA,jA,inc0, fun p hp=>by
   have hp:p∈([]:List ID):=hp
   simp at hp⟩
 | 2,_=>exact ⟨okC,jC,inc1 _, fun p hp=>by
   have hp:p∈[idv ib]:=hp;rw [List.mem_singleton] at hp;subst hp
   exact ⟨by simp, by rw [i0]; decide⟩⟩
theorem isB:Fit gB 60∧zlz gB:=by
 refine zmw [0] rfl (by simp) (inc1 _) fun i hi=>?_
 match i,hi with
 | 0,_=>exact ⟨okA,jA,inc0, fun p hp=>by
   have hp:p∈([]:List ID):=hp
   simp at hp⟩
theorem isC:Fit gC 60∧zlz gC:=by
 have i0:[idv ia,idv id4].idxOf (idv ia)=0:=z79 incC (k:=0) (by simp);refine zmw [0,1] rfl (by simp) incC fun i hi=>?_
 match i,hi with
 | 0,_=>exact ⟨okA,jA,inc0, fun p hp=>by
   have hp:p∈([]:List ID):=hp
   simp at hp⟩
 | 1,_=>exact ⟨okD,jD,inc1 _, fun p hp=>by
   have hp:p∈[idv ia]:=hp;rw [List.mem_singleton] at hp;subst hp
   exact ⟨by simp, by rw [i0]; decide⟩⟩
theorem ofB:z4o [xA]=some (gB,0):=zxg isB.1 isB.2 (fun o=>Iff.rfl) (by simp) (fun o ho=>by rw [List.mem_singleton] at ho; subst ho; exact okA) (by simp)
theorem ofC:z4o [xA,xD]=some (gC,0):=zxg isC.1 isC.2 (fun o=>Iff.rfl) (by simp) (fun o ho=>by
 simp only [List.mem_cons,List.not_mem_nil,or_false] at ho;rcases ho with rfl | rfl
 ·exact okA
 ·exact okD) (by
 rw [List.map_cons,List.map_cons,List.map_nil,jA,jD]; exact z99 incC)
theorem ofA:z4o [xA,xB,xC]=some (gA,0):=zxg isA.1 isA.2 (fun o=>by
 simp only [List.mem_cons,List.not_mem_nil,or_false]
 constructor
 ·rintro (h | h | h) <;> simp [h]
 ·rintro (h | h | h) <;> simp [h]) (by simp) (fun o ho=>by
 simp only [List.mem_cons,List.not_mem_nil,or_false] at ho;rcases ho with rfl | rfl | rfl
 ·exact okA
 ·exact okB
 ·exact okC) (by
 rw [List.map_cons,List.map_cons,List.map_cons,List.map_nil,jA,jB,jC];have h:=z99 incA;simp only [List.nodup_cons,List.mem_cons,List.not_mem_nil,or_false,not_or,not_false_eq_true,List.nodup_nil,and_true] at h ⊢;obtain ⟨⟨h1,h2⟩,h3⟩:=h
 exact ⟨⟨fun e=>h1 e.symm,h3⟩,h2⟩)
end
section
open Go
variable {g:z00} {n:Nat}
theorem zm8 {a b:List ID} (ha:a.length≤60) (hb:b.length≤60):zff 0 a b=0:=by
 unfold zff;rw [if_neg (by simp),if_neg (by omega),if_neg (by omega)]
theorem zpz (G:z7o g) (h1:z11 g=some 0) (l:List ID) (hl:l.length≤60):∃ d,z4k g l=some (d,0)∧z8b d=true∧∀ x,x∈d↔x∈l∧x∉g.IDs:=by
 obtain ⟨d,d1,d2,d3⟩:=zp4 G.e l hl;refine ⟨d,?_,d2,d3⟩;unfold z4k;rw [zjv h1,zm8 hl (by simp)];simp only [bS];rw [if_neg (by simp),d1];rfl
theorem z128 (G:z7o g) (h1:z11 g=some 0) (l:List ID) (hl:l.length≤60):∃ d,z9w g l=some (d,0)∧z8b d=true∧∀ y,y∈d↔z8v g l y:=by
 obtain ⟨d,d1,d2,d3⟩:=zhn G h1 l hl;refine ⟨d,?_,d2,d3⟩;unfold z9w;rw [zjv h1,zm8 hl (by simp)];simp only [bS];have hdl:=zqf (g:=g) d2 fun y hy=>((d3 y).1 hy).1
 have:=G.e.len; have:=G.e.ids
 rw [if_neg (by simp),d1];simp only [bS];rw [ze2 d (by omega)];rfl
theorem zyg (G:z7o g) (F:Fit g n) (h1:z11 g=some 0) (h2:z2y g=some 0) (a b:List ID) (ha:a.length≤60) (hb:b.length≤60):∃ d,z7v g a b=some (d,0)∧zo2 g a b d:=by
 obtain ⟨d,d1,P⟩:=zy1 G F h1 a b ha hb;refine ⟨d,?_,P⟩;unfold z7v;rw [zkk h1,zm8 ha hb];simp only [bS];rw [if_neg (by simp),d1];rfl
end
section
open Go
theorem zca:z7o gA:=zn6 isA.1 isA.2
theorem zsn:z7o gB:=zn6 isB.1 isB.2
theorem wfA:z28 gA:=⟨⟨fun x _ y _=>trivial, by simp⟩,⟨fun o ho=>by
 simp only [List.mem_cons,List.not_mem_nil,or_false] at ho;rcases ho with rfl | rfl | rfl
 ·exact wfB_ (by simp)
 ·exact wfB_ (by simp)
 ·exact wfB_ (by simp), by simp⟩,trivial⟩
theorem wfB:z28 gB:=⟨⟨fun x _ y _=>trivial, by simp⟩,⟨fun o ho=>by
 rw [List.mem_singleton] at ho;subst ho
 exact wfB_ (by simp), by simp⟩,trivial⟩
theorem z5y {g:z00} (G:z7o g) (w:z28 g):z11 g=some 0∧z2y g=some 0:=by
 obtain ⟨c,c1,c2,c3⟩:=zmm w;have hc:=c3.2 G;subst hc;exact ⟨c1,c2⟩
theorem idxA:gA.IDs.idxOf (idv ib)=0∧gA.IDs.idxOf (idv ia)=1∧gA.IDs.idxOf (idv ic)=2 :=
 ⟨z79 (l:=gA.IDs) incA (k:=0) (by simp),z79 (l:=gA.IDs) incA (k:=1) (by simp),z79 (l:=gA.IDs) incA (k:=2) (by simp)⟩
theorem z10c:z1k gA 0=[1]∧z1k gA 1=[]∧z1k gA 2=[0]∧∀ n,z1k gA (n+3)=[]:=by
 obtain ⟨i0,i1,i2⟩:=idxA;refine ⟨?_,rfl,?_, fun n=>rfl⟩
 ·show [gA.IDs.idxOf (idv ia)]=[1]; rw [i1]
 ·show [gA.IDs.idxOf (idv ib)]=[0]; rw [i0]
theorem z176:∀ n,z1k gB n=[]
 | 0=>rfl
 | n+1=>rfl
theorem z12y {x:ID}:z8v gA [idv ic] x↔x∈gA.IDs:=by
 obtain ⟨i0,i1,i2⟩:=idxA;obtain ⟨p0,p1,p2,p3⟩:=z10c;refine ⟨fun h=>h.1, fun h=>⟨h,?_⟩⟩;have h':=h;simp only [List.mem_cons,List.not_mem_nil,or_false] at h';rcases h' with rfl | rfl | rfl
 ·exact .inr ⟨idv ic, by simp, by simp, by rw [i2,i0,p2]; exact .base (by simp)⟩
 ·exact .inr ⟨idv ic, by simp, by simp, by rw [i2,i1,p2]; exact .step (.base (i:=0) (by simp)) (by rw [p0]; simp)⟩
 ·exact .inl (by simp)
theorem z133 {x:ID}:z8v gA [idv ia] x↔x=idv ia:=by
 obtain ⟨i0,i1,i2⟩:=idxA;obtain ⟨p0,p1,p2,p3⟩:=z10c
 constructor
 ·rintro ⟨h,h1 | ⟨z,h1,h2,h3⟩⟩
  ·exact List.mem_singleton.1 h1
  ·rw [List.mem_singleton] at h1;subst h1;rw [i1,p1] at h3;rcases zkc.1 h3 with h4 | ⟨s,h4,-⟩ <;> simp at h4
 ·rintro rfl
  exact ⟨by simp,.inl (by simp)⟩
theorem ne_D:idv id4∉gA.IDs:=fun h=>by
 obtain ⟨h1,h2,h3⟩:=pw27;simp only [List.mem_cons,List.not_mem_nil,or_false] at h;rcases h with h | h | h
 ·rw [h] at h2; omega
 ·rw [h] at h2; omega
 ·rw [h] at h3; omega
theorem zn9 {x:ID}:¬ z8v gA [idv id4] x:=by
 rintro ⟨h,h1 | ⟨z,h1,h2,h3⟩⟩
 ·rw [List.mem_singleton] at h1; subst h1; exact ne_D h
 ·rw [List.mem_singleton] at h1; subst h1; exact ne_D h2
end
section
open Go
theorem neAB:idv ia≠idv ib∧idv ia≠idv ic∧idv ib≠idv ic:=by
 have h:=z99 incA;simp only [List.nodup_cons,List.mem_cons,List.not_mem_nil,or_false,not_or,not_false_eq_true,List.nodup_nil,and_true] at h;exact ⟨fun e=>h.1.1 e.symm,h.2,h.1.2⟩
theorem z10g:z4r gA (idv ib)=some xB∧z4r gA (idv ia)=some xA∧z4r gA (idv ic)=some xC:=by
 obtain ⟨i0,i1,i2⟩:=idxA;refine ⟨?_,?_,?_⟩
 ·unfold z4r; rw [if_pos (by simp),i0]; rfl
 ·unfold z4r; rw [if_pos (by simp),i1]; rfl
 ·unfold z4r; rw [if_pos (by simp),i2]; rfl
theorem zub {d:List ID} (P:zo2 gA [idv ic] [idv ia] d):d=[idv ib,idv ic]:=by
 obtain ⟨n1,n2,n3⟩:=neAB;obtain ⟨l1,l2,l3⟩:=z10g;have hm:∀ x,x∈d↔x∈[idv ib,idv ic]:=fun x=>by
  rw [P.mem,z12y,z133];simp only [List.mem_cons,List.not_mem_nil,or_false]
  constructor
  ·rintro ⟨h | h | h,hn⟩
   ·exact .inl h
   ·exact absurd h hn
   ·exact .inr h
  ·rintro (rfl | rfl)
   ·exact ⟨.inl rfl, fun e=>n1 e.symm⟩
   ·exact ⟨.inr (.inr rfl), fun e=>n2 e.symm⟩
 have hl:d.length=2:=znh P.nd (q:=[idv ib,idv ic]) (by simp [n3]) hm;obtain ⟨p,q,rfl⟩:∃ p q,d=[p,q]:=by
  match d,hl with
  | [p,q],_=>exact ⟨p,q,rfl⟩
 have hp:=(hm p).1 (by simp);have hq:=(hm q).1 (by simp);have hpq:p≠q:=by have:=P.nd; simp at this; exact this
 simp only [List.mem_cons,List.not_mem_nil,or_false] at hp hq;rcases hp with rfl | rfl
 ·rcases hq with rfl | rfl
  ·exact absurd rfl hpq
  ·rfl
 ·exfalso
  rcases P.topo 0 (by simp) xC l3 (idv ib) (by show idv ib∈[idv ib]; simp) with h | h
  ·simp at h
  ·exact n1 (z133.1 h).symm
theorem zow {d:List ID} (P:zo2 gA [idv ic] [idv id4] d):d=[idv ia,idv ib,idv ic]:=by
 obtain ⟨n1,n2,n3⟩:=neAB;obtain ⟨l1,l2,l3⟩:=z10g;have hm:∀ x,x∈d↔x∈[idv ia,idv ib,idv ic]:=fun x=>by
  rw [P.mem,z12y];simp only [List.mem_cons,List.not_mem_nil,or_false]
  constructor
  ·rintro ⟨h | h | h,hn⟩
   ·exact .inr (.inl h)
   ·exact .inl h
   ·exact .inr (.inr h)
  ·rintro (rfl | rfl | rfl)
   ·exact ⟨.inr (.inl rfl),zn9⟩
   ·exact ⟨.inl rfl,zn9⟩
   ·exact ⟨.inr (.inr rfl),zn9⟩
 have hl:d.length=3:=znh P.nd (q:=[idv ia,idv ib,idv ic]) (by simp [n1,n2,n3]) hm;obtain ⟨p,q,r,rfl⟩:∃ p q r,d=[p,q,r]:=by
  match d,hl with
  | [p,q,r],_=>exact ⟨p,q,r,rfl⟩
 have hp:=(hm p).1 (by simp);have hq:=(hm q).1 (by simp);have hr:=(hm r).1 (by simp);have hnd:=P.nd;simp only [List.nodup_cons,List.mem_cons,List.not_mem_nil,or_false,not_or,not_false_eq_true,List.nodup_nil,and_true] at hnd;obtain ⟨⟨k1,k2⟩,k3⟩:=hnd;simp only [List.mem_cons,List.not_mem_nil,or_false] at hp hq hr;rcases hp with rfl | rfl | rfl
 ·rcases hq with rfl | rfl | rfl
  ·exact absurd rfl k1
  ·rcases hr with rfl | rfl | rfl
   ·exact absurd rfl k2
   ·exact absurd rfl k3
   ·rfl
  ·exfalso
   rcases P.topo 1 (by simp) xC l3 (idv ib) (by show idv ib∈[idv ib]; simp) with h | h
   ·simp at h; exact n1 h.symm
   ·exact zn9 h
 ·exfalso
  rcases P.topo 0 (by simp) xB l1 (idv ia) (by show idv ia∈[idv ia]; simp) with h | h
  ·simp at h
  ·exact zn9 h
 ·exfalso
  rcases P.topo 0 (by simp) xC l3 (idv ib) (by show idv ib∈[idv ib]; simp) with h | h
  ·simp at h
  ·exact zn9 h
end
section
open Go
theorem z105 {b c:List UInt8} (h:b.length≤400) (h':c.length≤400):okF [b,c]=true:=by
 have h1:=z0u ([b,c]:List (List UInt8)).length (by simp);have h2:=z0u b.length (by omega);have h3:=z0u c.length (by omega);unfold okF zle zhb;simp only [Bool.and_eq_true,decide_eq_true_eq,List.length_append,List.flatMap_cons,List.flatMap_nil,List.length_cons,List.length_nil] at *;omega
theorem z14y {b c:List UInt8} (h:b.length≤400) (h':c.length≤400):(zyc (zf5 [b,c] 2)).length=1:=by
 have e1:zf5 [b,c] 1=some ([],[b]):=rfl;rw [zhu [b,c] (i:=1) (by simp),e1];show (zyc (if okF ([b]++[c]) then some ([],[b]++[c]) else some ([]++[[b]],[c]))).length=1;rw [show [b]++[c]=[b,c] from rfl,z105 h h',if_pos rfl];rfl
end
section
open Go
theorem zdx:Fit gA 16:=⟨isA.1.ids, by simp,isA.1.ri,isA.1.op⟩
theorem zlq:Fit gB 16:=⟨isB.1.ids, by simp,isB.1.ri,isB.1.op⟩
theorem idxB:gB.IDs.idxOf (idv ia)=0:=z79 (l:=gB.IDs) isB.1.ri (k:=0) (by simp)
theorem z144 {x:ID}:z4r gB x=if x=idv ia then some xA else none:=by
 by_cases h:x=idv ia
 ·subst h;rw [if_pos rfl];unfold z4r;rw [if_pos (by simp),idxB]; rfl
 ·rw [if_neg h,zc1 (by simpa using h)]
theorem zmo:zao gA gB:=(zcc zdx zlq).2 fun x o q ho hq=>by
 rw [z144] at hq;by_cases h:x=idv ia
 ·subst h;rw [if_pos rfl] at hq;rw [z10g.2.1] at ho;rw [← Option.some.inj ho,← Option.some.inj hq]
 ·rw [if_neg h] at hq; simp at hq
theorem zye:zao gB gA:=zqt zdx zlq zmo
theorem zyx:zcz gA gB=gA:=zhm (zk7 zdx zlq) zdx fun x=>by
 rw [zhq zdx zlq]
 cases h:z4r gA x with
 | some o=>rfl
 | none =>
  rw [z144,if_neg (fun e=>by subst e; rw [z10g.2.1] at h; simp at h)];rfl
theorem z15u:zcz gB gA=gA:=zhm (zk7 zlq zdx) zdx fun x=>by
 rw [zhq zlq zdx,z144];by_cases e:x=idv ia
 ·subst e; rw [if_pos rfl,z10g.2.1]; rfl
 ·rw [if_neg e]; rfl
theorem topB:z8w gB (top gB gB.Ops.length)=[idv ia]:=by
 have t:top gB 1 0=true:=zng.2 fun k hk h=>by rw [z176] at h; simp at h
 show ([0].filter (top gB 1)).map (zec gB)=[idv ia];simp only [List.filter_cons,t,List.filter_nil,if_true];rfl
theorem topA:z8w gA (top gA gA.Ops.length)=[idv ic]:=by
 obtain ⟨p0,p1,p2,p3⟩:=z10c;have t0:top gA 3 0=false:=by
  rw [← Bool.not_eq_true,zng];intro h;exact h 2 (by omega) (by rw [p2]; simp)
 have t1:top gA 3 1=false:=by
  rw [← Bool.not_eq_true,zng];intro h;exact h 0 (by omega) (by rw [p0]; simp)
 have t2:top gA 3 2=true:=zng.2 fun k hk h=>by
  rcases (show k=0∨k=1∨k=2 by omega) with rfl | rfl | rfl
  ·rw [p0] at h; simp at h
  ·rw [p1] at h; simp at h
  ·rw [p2] at h; simp at h
 show ([0,1,2].filter (top gA 3)).map (zec gA)=[idv ic];simp only [List.filter_cons,t0,t1,t2,List.filter_nil,if_true,Bool.false_eq_true,if_false];rfl
end
section
open Go
theorem znd {g:z00} {l l':List ID} (h:∀ x,x∈l↔x∈l') (y:ID):z8v g l y↔z8v g l' y:=by
 unfold z8v;rw [h]
 constructor
 ·rintro ⟨h1,h2 | ⟨x,h2,h3⟩⟩
  ·exact ⟨h1,.inl h2⟩
  ·exact ⟨h1,.inr ⟨x,(h x).1 h2,h3⟩⟩
 ·rintro ⟨h1,h2 | ⟨x,h2,h3⟩⟩
  ·exact ⟨h1,.inl h2⟩
  ·exact ⟨h1,.inr ⟨x,(h x).2 h2,h3⟩⟩
theorem z17o:za9 gA gB=some (gA,1):=by
 obtain ⟨ca,ca'⟩:=z5y zca wfA;obtain ⟨cb,cb'⟩:=z5y zsn wfB;obtain ⟨n1,n2,n3⟩:=neAB;obtain ⟨w,d,e1,P,hw,-⟩:=zno zca zsn wfA wfB ca cb ca' cb' zdx zlq zmo;rw [topB] at P;have hw:∀ x,x∈w↔x∈[idv ic]:=fun x=>by
  rw [hw,topA]
  constructor
  ·exact fun h=>h.1
  ·intro h;refine ⟨h,?_⟩;rw [List.mem_singleton] at h ⊢;subst h;exact fun e=>n2 e.symm
 have hd:=zub (d:=d) ⟨P.len,P.nd, fun x=>(P.mem x).trans (by rw [znd hw]),P.topo⟩;rw [e1,zyx,hd];have h1:=zj1 zca wfA (x:=idv ib) (by simp);have h2:=zj1 zca wfA (x:=idv ic) (by simp)
 have:=z14y h1 h2
 show some (gA,((zyc (zf5 [bts gA (idv ib),bts gA (idv ic)] 2)).length:Int))=_;rw [this]; rfl
theorem z17r:za9 gB gA=some (gA,0):=by
 obtain ⟨ca,ca'⟩:=z5y zca wfA;obtain ⟨cb,cb'⟩:=z5y zsn wfB;obtain ⟨w,d,e1,P,hw,-⟩:=zno zsn zca wfB wfA cb ca cb' ca' zlq zdx zye;have hw:∀ x,x∉w:=fun x h=>by
  rw [hw,topB,List.mem_singleton] at h;obtain ⟨rfl,h⟩:=h;exact h (by simp)
 have hd:d=[]:=by
  refine List.eq_nil_iff_forall_not_mem.2 fun x hx=>?_;obtain ⟨⟨-,h | ⟨z,h,-⟩⟩,-⟩:=(P.mem x).1 hx
  ·exact hw _ h
  ·exact hw _ h
 rw [e1,z15u,hd];rfl
end
section
open Go
theorem opA_:z3c 1 []=some xA:=by
 unfold z3c
 have:z49 5 (⟨0,[],1,⟨1,[],⟨0,0,0,[]⟩⟩,⟨0,0⟩⟩:z08)=some (xA,0):=by
  have e:(⟨0,[],1,⟨1,[],⟨0,0,0,[]⟩⟩,⟨0,0⟩⟩:z08)=zzo 1 []:=by
   unfold zzo;rfl
  rw [e];exact zuo runA
 rw [this]; rfl
theorem opB_:z3c 2 [idv ia]=some xB:=by
 unfold z3c
 have:z49 5 (⟨0,[idv ia],2,⟨1,[],⟨0,0,0,[]⟩⟩,⟨0,0⟩⟩:z08)=some (xB,0):=zuo runB
 rw [this]; rfl
theorem opC_:z3c 3 [idv ib]=some xC:=by
 unfold z3c
 have:z49 5 (⟨0,[idv ib],3,⟨1,[],⟨0,0,0,[]⟩⟩,⟨0,0⟩⟩:z08)=some (xC,0):=zuo runC
 rw [this]; rfl
theorem opD_:z3c 9 [idv ia]=some xD:=by
 unfold z3c
 have:z49 5 (⟨0,[idv ia],9,⟨1,[],⟨0,0,0,[]⟩⟩,⟨0,0⟩⟩:z08)=some (xD,0):=zuo runD
 rw [this]; rfl
theorem zpc {o:z08} (h:OkN o):z3p o=some (oid o):=zqa _ (z9f h.good) h.num
theorem zuy:z6v=some [xA,xB,xC]:=by
 unfold z6v;rw [opA_];simp only [bS];rw [zpc okA,jA];simp only [bS];rw [opB_];simp only [bS];rw [zpc okB,jB];simp only [bS];rw [opC_];rfl
theorem exch:z7h gA gB=some (gA,gA,1,0):=by
 obtain ⟨ca,ca'⟩:=z5y zca wfA;obtain ⟨cb,cb'⟩:=z5y zsn wfB;have h:=zrd zca zsn ca cb isA.1 isB.1 zmo;rw [zyx,if_neg (by simp)] at h;unfold z7h;rw [h];simp only [bS];rw [if_neg (by simp),z17o];simp only [bS];rw [z17r];rfl
theorem z147:z4k gB [idv ic]=some ([idv ic],0):=by
 obtain ⟨cb,cb'⟩:=z5y zsn wfB;obtain ⟨d,d1,d2,d3⟩:=zpz zsn cb [idv ic] (by simp)
 have:d=[idv ic]:=zbt _ _ ((z8m _).1 d2) (List.pairwise_singleton _ _) fun x=>by
  rw [d3];refine ⟨fun h=>h.1, fun h=>⟨h, fun e=>?_⟩⟩;rw [List.mem_singleton] at h e;exact neAB.2.1 (e.symm.trans h)
 rw [d1,this]
theorem z14w:z7v gA [idv ic] [idv ia]=some ([idv ib,idv ic],0):=by
 obtain ⟨ca,ca'⟩:=z5y zca wfA;obtain ⟨d,d1,P⟩:=zyg zca isA.1 ca ca' [idv ic] [idv ia] (by simp) (by simp);rw [d1,zub P]
theorem z15t:z7v gA [idv ic] [idv id4]=some ([idv ia,idv ib,idv ic],0):=by
 obtain ⟨ca,ca'⟩:=z5y zca wfA;obtain ⟨d,d1,P⟩:=zyg zca isA.1 ca ca' [idv ic] [idv id4] (by simp) (by simp);rw [d1,zow P]
end
section
open Go
theorem zqs:zb3=some true:=by
 unfold zb3;rw [zuy];simp only [bS];rw [ofA];simp only [bS];rw [show cut [xA,xB,xC] 0 1=some [xA] from rfl];simp only [bS];rw [ofB, show idx [xA,xB,xC] 0=some xA from rfl, show idx [xA,xB,xC] 1=some xB from rfl, show idx [xA,xB,xC] 2=some xC from rfl];simp only [bS];rw [zpc okA,jA];simp only [bS];rw [zpc okB,jB];simp only [bS];rw [zpc okC,jC];simp only [bS];rw [opD_];simp only [bS];rw [ofC];simp only [bS]
 rw [z147];simp only [bS];rw [z14w];simp only [bS];rw [zpc okD,jD];simp only [bS];rw [z15t];simp only [bS];rw [exch];simp only [bS];have s:=(isA.1.small (by omega))
 rw [zrg [idv ic] (by simp),zrg [idv ib,idv ic] (by simp),zrg [idv ia,idv ib,idv ic] (by simp),zqu s];rfl
end
section
open Go
variable {g:z00} {n:Nat}
def i00:O8:=(0,0,0,0,0,0,0,0)
abbrev idZ:ID:=Vector.replicate 32 0
theorem z14c:idv i00=idZ:=by
 apply Vector.toList_inj.1
 rw [zml]
 decide +kernel
theorem z11h:idZ∉gA.IDs:=by
 have h:z8b [idZ,idv ib,idv ia,idv ic]=true:=by
  have h:=zmb [i00,ib,ia,ic];rw [show zsh [i00,ib,ia,ic]=true by decide +kernel] at h;rw [← z14c]; exact h
 have:=z99 h
 exact (List.nodup_cons.1 this).1
def badI:ID:=zf3 (idv ib) 0 ((idv ib)[0]+1)
abbrev gX:z00:=⟨[badI,idv ia,idv ic],[xB,xA,xC]⟩
theorem z153:badI≠idv ib:=fun e=>by
 have h:badI[0]=(idv ib)[0]:=by rw [e]
 unfold badI at h;rw [zg7 (by omega),if_pos (by rfl)] at h
 have:=congrArg UInt8.toNat h
 rw [UInt8.toNat_add] at this;have h2:=UInt8.toNat_lt (idv ib)[0];have h3:(1:UInt8).toNat=1:=rfl;omega
theorem wfX:z28 gX:=⟨⟨fun x _ y _=>trivial, by simp⟩,wfA.2⟩
theorem z18k:∃ c:Int,c≠0∧z11 gX=some c∧z2y gX=some c:=by
 obtain ⟨c,c1,c2,c3⟩:=zmm wfX;refine ⟨c, fun h=>?_,c1,c2⟩
 have:=((c3.1 h).ops 0 (by simp)).2
 have e:sha (zed xB)=badI:=this;have e2:sha (zed xB)=idv ib:=jB;exact z153 (e.symm.trans e2)
theorem z14z {c:Int} (h0:c≠0) {a b:z00} (ha:z11 a=some c) {d:Int} (hb:z11 b=some d):z9v a b=some (⟨[],[]⟩,c):=by
 unfold z9v;rw [zu0 ha hb,if_pos h0];simp only [bS];rw [if_pos (by simpa using h0)]
theorem zy6 {c:Int} (h0:c≠0) {a b:z00} (ha:z11 a=some 0) (hb:z11 b=some c):z9v a b=some (⟨[],[]⟩,c):=by
 unfold z9v;rw [zu0 ha hb,if_neg (by simp)];simp only [bS];rw [if_pos (by simpa using h0)]
theorem zsd {c:Int} (h:z11 g=some c) (l:List ID) (h0:zff c l []≠0):z4k g l=some ([],zff c l []):=by
 unfold z4k;rw [zjv h];simp only [bS];rw [if_pos (by simpa using h0)]
theorem zxs {c:Int} (h:z11 g=some c) (l:List ID) (h0:zff c l []≠0):z9w g l=some ([],zff c l []):=by
 unfold z9w;rw [zjv h];simp only [bS];rw [if_pos (by simpa using h0)]
theorem zus {c:Int} (h:z11 g=some c) (l m:List ID) (h0:zff c l m≠0):z7v g l m=some ([],zff c l m):=by
 unfold z7v;rw [zkk h];simp only [bS];rw [if_pos (by simpa using h0)]
theorem z10p {c:Int} (h:z11 g=some c) (l m:List ID) (h0:zff c l m≠0):zbc g l m=some ([],zff c l m):=by
 unfold zbc;rw [zkk h];simp only [bS];rw [if_pos (by simpa using h0)]
abbrev many:List ID:=List.replicate 61 idZ
theorem z16f {c:Int} (h0:c≠0) (a b:List ID):zff c a b=c:=by unfold zff; rw [if_pos h0]
theorem z121 (b:List ID):zff 0 many b=4:=by unfold zff; rw [if_neg (by simp),if_pos (by simp)]
theorem z140:zff 0 [] many=4:=by unfold zff; rw [if_neg (by simp),if_neg (by simp),if_pos (by simp)]
theorem zwe (G:z7o g) (h1:z11 g=some 0):z4k g []=some ([],0):=by
 obtain ⟨d,d1,d2,d3⟩:=zpz G h1 [] (by simp);have hd:d=[]:=List.eq_nil_iff_forall_not_mem.2 fun z hz=>by have:=((d3 z).1 hz).1; simp at this
 rw [d1,hd]
theorem z127:z4k gA (List.replicate 60 idZ)=some ([idZ],0):=by
 obtain ⟨ca,ca'⟩:=z5y zca wfA;obtain ⟨d,d1,d2,d3⟩:=zpz zca ca (List.replicate 60 idZ) (by simp)
 have:d=[idZ]:=zbt _ _ ((z8m _).1 d2) (List.pairwise_singleton _ _) fun x=>by
  rw [d3,List.mem_replicate,List.mem_singleton];exact ⟨fun h=>h.1.2, fun h=>⟨⟨by omega,h⟩, fun e=>z11h (h ▸ e)⟩⟩
 rw [d1,this]
theorem zy9:z9w gA gA.IDs=some (gA.IDs,0):=by
 obtain ⟨ca,ca'⟩:=z5y zca wfA;obtain ⟨d,d1,d2,d3⟩:=z128 zca ca gA.IDs (by simp)
 have:d=gA.IDs:=zbt _ _ ((z8m _).1 d2) ((z8m _).1 incA) fun x=>by
  rw [d3];exact ⟨fun h=>h.1, fun h=>⟨h,.inl h⟩⟩
 rw [d1,this]
theorem zwc:zbc gA [] []=some ([],0):=by
 obtain ⟨ca,ca'⟩:=z5y zca wfA;obtain ⟨d,d1,P⟩:=zy1 zca isA.1 ca [] [] (by simp) (by simp);have hd:d=[]:=List.eq_nil_iff_forall_not_mem.2 fun z hz=>by
  obtain ⟨⟨-,h⟩,-⟩:=(P.mem z).1 hz;rcases h with h | ⟨y,hy,-⟩
  ·simp at h
  ·simp at hy
 subst hd;unfold zbc;rw [zkk ca,zm8 (by simp) (by simp)];simp only [bS];rw [if_neg (by simp),d1];simp only [bS];rw [znq zca wfA ca [] (by simp) (by simp)];rfl
theorem zz4 {b c d:List UInt8} (h:b.length≤400) (h':c.length≤400) (h'':d.length≤400):okF [b,c,d]=true:=by
 have h1:=z0u ([b,c,d]:List (List UInt8)).length (by simp);have h2:=z0u b.length (by omega);have h3:=z0u c.length (by omega);have h4:=z0u d.length (by omega);unfold okF zle zhb;simp only [Bool.and_eq_true,decide_eq_true_eq,List.length_append,List.flatMap_cons,List.flatMap_nil,List.length_cons,List.length_nil] at *;omega
theorem zzc {b c d:List UInt8} (h:b.length≤400) (h':c.length≤400) (h'':d.length≤400):(zyc (zf5 [b,c,d] 3)).length=1:=by
 have e1:zf5 [b,c,d] 1=some ([],[b]):=rfl;have e2:zf5 [b,c,d] 2=some ([],[b,c]):=by
  rw [zhu [b,c,d] (i:=1) (by simp),e1];show (if okF ([b]++[c]) then some ([],[b]++[c]) else some ([]++[[b]],[c]))=_;rw [show [b]++[c]=[b,c] from rfl,z105 h h',if_pos rfl]
 rw [zhu [b,c,d] (i:=2) (by simp),e2];show (zyc (if okF ([b,c]++[d]) then some ([],[b,c]++[d]) else some ([]++[[b,c]],[d]))).length=1;rw [show [b,c]++[d]=[b,c,d] from rfl,zz4 h h' h'',if_pos rfl];rfl
theorem fitN:Fit (⟨[],[]⟩:z00) 16:=⟨rfl, by simp,rfl, fun o ho=>by simp at ho⟩
theorem z174:z2y (⟨[],[]⟩:z00)=some 0:=(z5y z12h (z115 zmx (by omega) fun o ho=>by simp at ho)).2
theorem zys:za9 gA (⟨[],[]⟩:z00)=some (gA,1):=by
 obtain ⟨ca,ca'⟩:=z5y zca wfA;have wN:z28 (⟨[],[]⟩:z00):=z115 zmx (by omega) fun o ho=>by simp at ho
 have hcl:zao gA (⟨[],[]⟩:z00):=(zcc zdx fitN).2 fun x o q ho hq=>by
  rw [zc1 (by simp)] at hq; simp at hq
 obtain ⟨w,d,e1,P,hw,-⟩:=zno zca z12h wfA wN ca z170 ca' z174 zdx fitN hcl;have hu:zcz gA (⟨[],[]⟩:z00)=gA:=zhm (zk7 zdx fitN) zdx fun x=>by
  rw [zhq zdx fitN,zc1 (g:=⟨[],[]⟩) (by simp)]
  cases z4r gA x <;> rfl
 have hw:∀ x,x∈w↔x∈[idv ic]:=fun x=>by
  rw [hw,topA];exact ⟨fun h=>h.1, fun h=>⟨h, by simp⟩⟩
 have hN:∀ x,¬ z8v gA (z8w (⟨[],[]⟩:z00) (top (⟨[],[]⟩:z00) (⟨[],[]⟩:z00).Ops.length)) x:=fun x h=>by
  rcases h.2 with h | ⟨y,h,-⟩
  ·exact absurd h (by simp [z8w])
  ·exact absurd h (by simp [z8w])
 have hd:=zow (d:=d) ⟨P.len,P.nd, fun x=>by
  rw [P.mem,znd hw]
  exact ⟨fun h=>⟨h.1,zn9⟩, fun h=>⟨h.1,hN x⟩⟩, fun i hi o ho p hp=>(P.topo i hi o ho p hp).imp id fun h=>absurd h (hN p)⟩
 rw [e1,hu,hd];have h0:=zj1 zca wfA (x:=idv ia) (by simp);have h1:=zj1 zca wfA (x:=idv ib) (by simp);have h2:=zj1 zca wfA (x:=idv ic) (by simp);show some (gA,((zyc (zf5 [bts gA (idv ia),bts gA (idv ib),bts gA (idv ic)] 3)).length:Int))=_;rw [zzc h0 h1 h2]; rfl
theorem z108 (k:Nat) (h:k≤1000:=by omega):mkn 32 (Vector.replicate 32 (0:UInt8)) (k:Int)=some (List.replicate k idZ):=zis (by omega) (by omega)
theorem zsw:za0=some true:=by
 obtain ⟨ca,ca'⟩:=z5y zca wfA;obtain ⟨c,c0,c1,c2⟩:=z18k;have s:=(isA.1.small (by omega))
 unfold za0;rw [zuy];simp only [bS];rw [ofA];simp only [bS];rw [if_neg (by simp),z107 s];simp only [bS];rw [show idx gA.IDs 0=some (idv ib) from rfl];simp only [bS];rw [show z7n (idv ib) 0=some (idv ib)[0] from z8o (i:=0) (by omega)];simp only [bS];rw [show (⟨gA.IDs.set (0:Int).toNat (zf3 (idv ib) 0 ((idv ib)[0]+1)),gA.Ops⟩:z00)=gX from rfl];rw [show ((61:Int))=((61:Nat):Int) from rfl,z108 61];simp only [bS]
 rw [c2];simp only [bS];rw [zsd c1 _ (by rw [z16f c0]; exact c0),zsd ca many (by rw [z121]; omega),zxs ca many (by rw [z121]; omega),zus ca many [] (by rw [z121]; omega),zus ca [] many (by rw [z140]; omega),z10p ca [] many (by rw [z140]; omega),z16f c0,z121,z140];simp only [bS];have e1:z9a gX gA=some (⟨[],[]⟩,0,c):=by
  unfold z9a; rw [z14z c0 c1 ca]; simp only [bS]; rw [if_pos (by simpa using c0)]
 have e2:z9a gA gX=some (⟨[],[]⟩,0,c):=by
  unfold z9a; rw [zy6 c0 ca c1]; simp only [bS]; rw [if_pos (by simpa using c0)]
 have e3:z7h gA gX=some (⟨[],[]⟩,⟨[],[]⟩,0,c):=by
  unfold z7h; rw [zy6 c0 ca c1]; simp only [bS]; rw [if_pos (by simpa using c0)]
 have e4:z9a gA (⟨[],[]⟩:z00)=some (gA,1,0):=by
  unfold z9a; rw [zqp zca ca isA.1]; simp only [bS]; rw [if_neg (by simp),zys]; rfl
 rw [e1,e2,e3,zwe zca ca,zwc,z127,zy9,e4];simp only [bS];rw [zqs];simp only [bS];have hc:(c != 0)=true:=by simpa using c0
 rw [hc];simp only [beq_self_eq_true,if_true,bS];rw [show ((1:Int))=((1:Nat):Int) from rfl,z108 1];simp only [bS];rw [show List.replicate 1 idZ=[idZ] from rfl,zrg [idZ] (by simp),zrg [idv ib,idv ia,idv ic] (by simp),zqu s];rfl
end
end Go.Proofs.YtcneilabmjkdlaaGreatDoor
