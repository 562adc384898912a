import Derived.Test.YthimiiphpckifaaGreatDoorXc
set_option linter.unusedSimpArgs false
set_option linter.unusedVariables false
namespace Go.Proofs.YthimiiphpckifaaGreatDoor
section
open Go
theorem z10k:∀ (n:Nat) (a:UInt64) (ds:List UInt8) (N:Nat),a.toNat=n→z33 N=ds++z33 n→(z33 N).length≤8→iter z58 (a,ds)=some (z33 N):=by
 intro n
 induction n using Nat.strongRecOn with
 | _ n ih =>
  intro a ds N ha hd hl
  by_cases h0:n=0
  ·
   subst h0
   refine z12 ?_
   unfold z58
   rw [if_neg (by simp [UInt64.lt_iff_toNat_lt,ha])]
   rw [zcj,List.append_nil] at hd
   rw [hd]
  ·
   have hF:z58 (a,ds)=some (.inr (a / 256,ds++[(a % 256).toUInt8])):=by
    unfold z58
    rw [if_pos (by simp [UInt64.lt_iff_toNat_lt,ha]; omega)]
    have:ds.length≤8:=Nat.le_trans (zn1 hd) hl
    simp only [z1q (show (ds.length+[(a % 256).toUInt8].length) * 1≤140737488355328 by simp; omega),bs]
   rw [z1b hF]
   have hd2:=zru N n ds h0 hd
   refine ih (n / 256) (Nat.div_lt_self (by omega) (by omega)) _ _ N ?_ ?_ hl
   ·
    simp [ha]
   ·
    rw [hd2]
    congr 2
    congr 1
    apply UInt8.toNat_inj.1
    simp [ha]
theorem zrn (s:List UInt8) (hl:s.length≤8):∀ (i:Nat) (acc:List UInt8),i≤s.length→acc.length+i≤100→iter (z5a s) (acc,(i:Int) - 1)=some (acc++(s.take i).reverse)
 | 0,acc,_,_=>by
  refine z12 ?_
  unfold z5a
  rw [if_neg (by simp)]; simp
 | i+1,acc,hi,ha=>by
  have hlt:i<s.length:=by omega
  have e:((i+1:Nat):Int) - 1=(i:Int):=by omega
  have hF:z5a s (acc,((i+1:Nat):Int) - 1)=some (.inr (acc++[s[i]],(i:Int) - 1)):=by
   unfold z5a
   rw [e,if_pos (by simp)]
   simp only [z0d hlt,bs]
   rw [z1q (by simp; omega)]
   simp only [bs,z14 (show -9223372036854775808≤(i:Int) - 1 by omega) (by omega)]
  rw [z1b hF,zrn s hl i _ (by omega) (by simp; omega)]
  have:List.take (i+1) s=List.take i s++[s[i]]:=by rw [List.take_add_one,List.getElem?_eq_getElem hlt]; rfl
  rw [this]; simp only [List.reverse_append,List.reverse_cons,List.reverse_nil,List.nil_append,List.append_assoc]
theorem z7c (a:UInt64):z2i a=some (z1z a.toNat):=by
 unfold z2i z1z
 have h0:=UInt64.toNat_lt a
 by_cases h:a.toNat≤247
 ·
  have h':decide (a≤247)=true:=by simpa [UInt64.le_iff_toNat_le] using h
  rw [if_pos h',if_pos h]
  congr 2
 ·
  have h':¬ decide (a≤247)=true:=by simpa [UInt64.le_iff_toNat_le] using h
  rw [if_neg h',if_neg h]
  have hd:=zly a.toNat h0
  rw [z10k a.toNat a [] a.toNat rfl rfl hd]
  simp only [bs]
  rw [z14 (show -9223372036854775808≤((z33 a.toNat).length:Int) - 1 by omega) (by omega),z14 (show -9223372036854775808≤247+((z33 a.toNat).length:Int) by omega) (by omega)]
  rw [zrn _ hd _ _ (Nat.le_refl _) (by simp; omega)]
  simp only [bs,List.take_length]
  rw [show (247+((z33 a.toNat).length:Int))=((247+(z33 a.toNat).length:Nat):Int) by omega]
  congr 1
  show _::_=_
  congr 1
  apply UInt8.toNat_inj.1
  simp [UInt8.ofInt]
  omega
theorem zw8 (a:UInt64) (k:Nat) (hk:k=(z33 a.toNat).length) (hk8:k≤8):iter (zb3 a (k:Int)) (zbm a.toNat 0,0)=some (zbm a.toNat k):=by
 refine z1v k (fun i=>(zbm a.toNat i,(i:Int))) (fun i hi=>?_) ?_
 ·
  have hf:=ztf a.toNat i (by omega)
  unfold zb3
  rw [if_pos (by simp; omega)]
  simp only [z14 (show -9223372036854775808≤8 * (i:Int) by omega) (by omega),z3p (show (0:Int)≤8 * (i:Int) by omega),bs,z14 (show -9223372036854775808≤(k:Int) - (i:Int) by omega) (by omega),z0k (show i<9223372036854775807 by omega)]
  rw [zpc (by omega) (by omega)]
  simp only [bs]
  have:=zq3 a.toNat i (by omega)
  rw [← this]
  have e1:((k:Int) - (i:Int)).toNat=(z33 a.toNat).length - i:=by omega
  have e2:(z79 a (8 * (i:Int)).toNat).toUInt8=UInt8.ofNat (a.toNat / 2 ^ (8 * i)):=by
   apply UInt8.toNat_inj.1
   have e3:(8 * (i:Int)).toNat=8 * i:=by omega
   rw [e3]
   simp only [UInt64.toNat_toUInt8,zcd,Nat.min_eq_left (show 8 * i≤64 by omega)]
   simp
  rw [e1,e2]
 ·
  unfold zb3
  rw [if_neg (by simp)]
theorem zge (a:UInt64) (k:Nat) (hk:k<64):(z79 a k).toNat=a.toNat / 2 ^ k:=by rw [zcd,Nat.min_eq_left (by omega)]
set_option maxRecDepth 100000 in
theorem z11t (a:UInt64):za1 a=some (z6u a.toNat:Int):=by
 unfold za1
 have h0:=UInt64.toNat_lt a
 have s1:∃ (y:UInt64) (n:Nat),(if decide (4294967296≤a) then some (z79 a 32,(32:Int)) else some (a,0))=some (y,(n:Int))∧y.toNat<2 ^ 32∧n≤32∧z6u a.toNat=n+z6u y.toNat:=by
  by_cases h:4294967296≤a.toNat
  ·
   refine ⟨z79 a 32,32, by rw [if_pos (by simpa [UInt64.le_iff_toNat_le] using h)]; rfl,?_, by omega,?_⟩
   ·
    rw [zge a 32 (by omega)]; omega
   ·
    rw [zge a 32 (by omega)]; exact zdb _ 32 (by omega)
  ·
   exact ⟨a,0, by rw [if_neg (by simpa [UInt64.le_iff_toNat_le] using h)]; rfl, by omega, by omega, by omega⟩
 obtain ⟨y,n,e1,hy,hn,hb⟩:=s1
 rw [e1]; simp only [bs]
 have s2:∃ (z:UInt64) (k:Nat),(if decide (65536≤y) then some (z79 y 16) >>= fun y5=>some (w64 ((n:Int)+16)) >>= fun y6=>some (y5,y6) else some (y,(n:Int)))=some (z,(k:Int))∧z.toNat<2 ^ 16∧k≤48∧z6u a.toNat=k+z6u z.toNat:=by
  by_cases h:65536≤y.toNat
  ·
   refine ⟨z79 y 16,n+16, by rw [if_pos (by simpa [UInt64.le_iff_toNat_le] using h)]; simp only [bs,z14 (show -9223372036854775808≤(n:Int)+16 by omega) (by omega)]; rfl,?_, by omega,?_⟩
   ·
    rw [zge y 16 (by omega)]; omega
   ·
    rw [zge y 16 (by omega),hb,zdb y.toNat 16 (by omega)]; omega
  ·
   exact ⟨y,n, by rw [if_neg (by simpa [UInt64.le_iff_toNat_le] using h)], by omega, by omega,hb⟩
 obtain ⟨z,k,e2,hz,hk,hb2⟩:=s2
 simp only [bs] at e2
 rw [e2]; simp only [bs]
 have s3:∃ (x:UInt64) (j:Nat),(if decide (256≤z) then some (w64 ((k:Int)+8)) >>= fun y9=>some (z79 z 8,y9) else some (z,(k:Int)))=some (x,(j:Int))∧x.toNat<256∧j≤56∧z6u a.toNat=j+z6u x.toNat:=by
  by_cases h:256≤z.toNat
  ·
   refine ⟨z79 z 8,k+8, by rw [if_pos (by simpa [UInt64.le_iff_toNat_le] using h)]; simp only [bs,z14 (show -9223372036854775808≤(k:Int)+8 by omega) (by omega)]; rfl,?_, by omega,?_⟩
   ·
    rw [zge z 8 (by omega)]; omega
   ·
    rw [zge z 8 (by omega),hb2,zdb z.toNat 8 (by omega)]; omega
  ·
   exact ⟨z,k, by rw [if_neg (by simpa [UInt64.le_iff_toNat_le] using h)], by omega, by omega,hb2⟩
 obtain ⟨x,j,e3,hx,hj,hb3⟩:=s3
 simp only [bs] at e3
 rw [e3]; simp only [bs]
 have ht:=z12k ⟨x.toNat,hx⟩
 have hx8:(x.toUInt8.toNat:Int)=((x.toNat:Nat):Int):=by simp; omega
 have hle:z6u x.toNat≤8:=zij _ 8 (by omega)
 rw [hx8]
 have hlist:∀ (l:List UInt8),l=zyb.data.toList→idx l ((x.toNat:Nat):Int)=some (UInt8.ofNat (z6u x.toNat)):=fun l hl=>by
  subst hl
  unfold idx
  rw [if_pos (by omega)]
  simpa using ht
 refine Eq.trans (congrArg (fun o:Option UInt8=>o >>= fun x10=>some (w64 ((j:Int)+(x10.toNat:Int)))) (hlist _ ?hh)) ?_
 case hh=>rfl
 simp only [bs]
 have e4:((UInt8.ofNat (z6u x.toNat)).toNat:Int)=(z6u x.toNat:Int):=by simp; omega
 rw [e4,z14 (by omega) (by omega),hb3]
 simp
theorem z7g (a:UInt64):z6t a=some (z1z a.toNat):=by
 unfold z6t
 have h0:=UInt64.toNat_lt a
 by_cases h:a.toNat≤247
 ·
  have h':decide (a≤247)=true:=by simpa [UInt64.le_iff_toNat_le] using h
  unfold z1z
  rw [if_pos h',if_pos h]
  congr 2
 ·
  have h':¬ decide (a≤247)=true:=by simpa [UInt64.le_iff_toNat_le] using h
  rw [if_neg h',z11t]
  have hd:=zly a.toNat h0
  have hl:=zo0 a.toNat
  have hb:z6u a.toNat≤64:=zij _ 64 h0
  simp only [bs]
  rw [z14 (show -9223372036854775808≤(z6u a.toNat:Int)+7 by omega) (by omega)]
  have e1:Int.tdiv ((z6u a.toNat:Int)+7) 8=((z33 a.toNat).length:Int):=by
   rw [hl, show ((z6u a.toNat:Int)+7)=((z6u a.toNat+7:Nat):Int) by omega]
   rfl
  rw [e1,z14 (show -9223372036854775808≤((z33 a.toNat).length:Int) by omega) (by omega),z0k (by omega),znq (by omega) (by omega)]
  simp only [bs]
  rw [show (0:Int)=((0:Nat):Int) from rfl,z0d (by simp)]
  simp only [bs,Int.toNat_natCast]
  rw [z14 (show -9223372036854775808≤247+((z33 a.toNat).length:Int) by omega) (by omega)]
  have e2:UInt8.ofInt (247+((z33 a.toNat).length:Int))=UInt8.ofNat (247+(z33 a.toNat).length):=by
   apply UInt8.toNat_inj.1
   rw [show (247+((z33 a.toNat).length:Int))=((247+(z33 a.toNat).length:Nat):Int) by omega]
   simp [UInt8.ofInt]
   omega
  have:=zrb a.toNat
  rw [e2,this]
  have:=zw8 a (z33 a.toNat).length rfl hd
  rw [show (0:Int)=((0:Nat):Int) from rfl] at this
  rw [this]
  simp only [bs]
  rw [zq8 a.toNat (by omega)]
end
section
open Go
theorem okV3 {v:z05} (h:okV v=true) (k:v.Kind=3):v.Num=0∧v.Bits=0∧v.Text.length≤30∧v.Text.all okb=true:=by
 unfold okV at h; rw [if_neg (by rw [k]; decide),if_neg (by rw [k]; decide),if_pos k] at h
 simp only [Bool.and_eq_true,decide_eq_true_eq] at h
 exact ⟨h.1.1.1,h.1.1.2,h.1.2,h.2⟩
theorem zoq {v:z05} (h:okV v=true):v.Kind=1∨v.Kind=2∨v.Kind=3:=by
 by_cases h1:v.Kind=1
 ·
  exact .inl h1
 by_cases h2:v.Kind=2
 ·
  exact .inr (.inl h2)
 by_cases h3:v.Kind=3
 ·
  exact .inr (.inr h3)
 ·
  unfold okV at h; simp [h1,h2,h3] at h
theorem z123 (x:UInt64):(x ^^^ 18446744073709551615).toNat=18446744073709551615 - x.toNat:=by
 have e:x ^^^ 18446744073709551615 = ~~~x:=by
  apply UInt64.eq_of_toBitVec_eq
  rw [UInt64.toBitVec_xor,UInt64.toBitVec_not]
  exact BitVec.xor_allOnes
 rw [e,UInt64.toNat_not]; rfl
theorem zcn (n:Int):(UInt64.ofInt n).toNat=(n % 18446744073709551616).toNat:=by
 simp [UInt64.ofInt]; omega
theorem z19m (n:Int) (h:inI n):((zmn (UInt64.ofInt n) 1) ^^^ (UInt64.ofInt (shrI n 63))).toNat=zig n:=by
 obtain ⟨h1,h2⟩:=h
 have es:(zmn (UInt64.ofInt n) 1).toNat=(n % 18446744073709551616).toNat * 2 % 18446744073709551616:=by
  rw [zhg,zcn]; rfl
 by_cases h0:0≤n
 ·
  have e:shrI n 63=0:=by
   unfold shrI
   rw [show (2:Int) ^ (min 63 64)=9223372036854775808 from rfl,Int.fdiv_eq_ediv_of_nonneg _ (by omega)]; omega
  rw [e, show UInt64.ofInt 0=0 from rfl,UInt64.xor_zero,es]
  unfold zig; rw [if_pos h0]; omega
 ·
  have e:shrI n 63 = -1:=by
   unfold shrI
   rw [show (2:Int) ^ (min 63 64)=9223372036854775808 from rfl,Int.fdiv_eq_ediv_of_nonneg _ (by omega)]; omega
  rw [e, show UInt64.ofInt (-1)=18446744073709551615 from rfl,z123,es]
  unfold zig; rw [if_neg h0]; omega
theorem zy1 (n:Int) (h:inI n):zeq n=some (z1z (zig n)):=by
 unfold zeq
 rw [z7g,z19m n h]; rfl
theorem zqc (s:List UInt8) (h:s.length≤10000):zc5 s=some (z1z s.length++s,0):=by
 unfold zc5
 rw [if_neg (by simp; omega),z7g]
 have e:(UInt64.ofInt (s.length:Int)).toNat=s.length:=by rw [zcn]; omega
 have:=z19 s.length (by omega)
 simp only [bs,e]
 rw [z1q (by omega)]; rfl
def be8 (b:UInt64):List UInt8:=[(z79 b 56).toUInt8,(z79 b 48).toUInt8,(z79 b 40).toUInt8,(z79 b 32).toUInt8,(z79 b 24).toUInt8,(z79 b 16).toUInt8,(z79 b 8).toUInt8,(z79 b 0).toUInt8]
theorem zxq (v:z05) (l:List UInt8) (k:Nat) (hl:l.length≤100) (hk:k≤56):z83 v (l,(k:Int))=some (.inr (l++[(z79 v.Bits k).toUInt8],(k:Int) - 8)):=by
 unfold z83
 rw [if_pos (by simp)]
 simp only
 rw [z3p (by omega)]
 simp only [bs,Int.toNat_natCast]
 rw [z1q (by simp; omega)]
 simp only [bs]
 rw [z14 (by omega) (by omega)]
theorem z12l (v:z05):iter (z83 v) ([v.Kind],56)=some (v.Kind::be8 v.Bits):=by
 have hs:=fun l k h1 h2=>zxq v l k h1 h2
 rw [show (56:Int)=((56:Nat):Int) from rfl,z1b (hs [v.Kind] 56 (by simp) (by omega))]
 simp only [List.cons_append,List.nil_append, show ((56:Nat):Int) - 8=((48:Nat):Int) from rfl]
 rw [z1b (hs _ 48 (by simp) (by omega))]
 simp only [List.cons_append,List.nil_append, show ((48:Nat):Int) - 8=((40:Nat):Int) from rfl]
 rw [z1b (hs _ 40 (by simp) (by omega))]
 simp only [List.cons_append,List.nil_append, show ((40:Nat):Int) - 8=((32:Nat):Int) from rfl]
 rw [z1b (hs _ 32 (by simp) (by omega))]
 simp only [List.cons_append,List.nil_append, show ((32:Nat):Int) - 8=((24:Nat):Int) from rfl]
 rw [z1b (hs _ 24 (by simp) (by omega))]
 simp only [List.cons_append,List.nil_append, show ((24:Nat):Int) - 8=((16:Nat):Int) from rfl]
 rw [z1b (hs _ 16 (by simp) (by omega))]
 simp only [List.cons_append,List.nil_append, show ((16:Nat):Int) - 8=((8:Nat):Int) from rfl]
 rw [z1b (hs _ 8 (by simp) (by omega))]
 simp only [List.cons_append,List.nil_append, show ((8:Nat):Int) - 8=((0:Nat):Int) from rfl]
 rw [z1b (hs _ 0 (by simp) (by omega))]
 simp only [List.cons_append,List.nil_append]
 refine z12 ?_
 unfold z83
 rw [if_neg (by simp)]; rfl
def encV (v:z05):List UInt8:=v.Kind::(if v.Kind=1 then z1z (zig v.Num) else if v.Kind=2 then be8 v.Bits else z1z v.Text.length++v.Text)
theorem z107 {n:Int} (h:inI n):zig n<18446744073709551616:=z187 h.1 h.2
theorem z18d (v:z05) (hI:inI v.Num) (hl:v.Text.length≤9223372036854775807):zd1 v=some (if okV v then (encV v,0) else ([],8)):=by
 unfold zd1
 rw [zrg v hl]
 cases hv:okV v
 ·
  rfl
 simp only [bs,if_true]
 rw [if_neg (by simp)]
 unfold encV
 rcases zoq hv with k | k | k
 ·
  have h1:=z19 (zig v.Num) (z107 hI)
  rw [k,zy1 v.Num hI]
  simp only [bs]
  rw [if_pos (by decide),z1q (by simp; omega)]; simp [bs]
 ·
  rw [k,if_neg (by decide),if_pos (by decide),if_neg (by decide),if_pos rfl,← k,z12l]; rfl
 ·
  have h3:=(okV3 hv k).2.2.1
  have h1:=z19 v.Text.length (by omega)
  rw [k,zqc v.Text (by omega)]
  rw [if_neg (by decide),if_neg (by decide),if_pos (by decide),if_neg (by decide),if_neg (by decide),z3p (by omega)]
  simp only [bs]
  rw [z1q (by simp; omega)]; rfl
theorem zq7 (n:Int) (h:inI n):z8o n=some (z1z (zig n)):=by
 obtain ⟨h1,h2⟩:=h
 unfold z8o
 by_cases h0:0≤n
 ·
  rw [if_pos (by simpa using h0),z7c]
  have e:(2 * UInt64.ofInt n).toNat=zig n:=by
   rw [UInt64.toNat_mul,zcn, show (2:UInt64).toNat=2 from rfl]
   unfold zig; rw [if_pos h0]; omega
  rw [e]; rfl
 ·
  rw [if_neg (by simpa using h0),z7c]
  have e:((2 * UInt64.ofInt (w64 (0 - (w64 (n+1)))))+1).toNat=zig n:=by
   rw [z14 (x:=n+1) (by omega) (by omega),z14 (by omega) (by omega),UInt64.toNat_add,UInt64.toNat_mul,zcn, show (2:UInt64).toNat=2 from rfl, show (1:UInt64).toNat=1 from rfl]
   unfold zig; rw [if_neg h0]; omega
  rw [e]; rfl
theorem znw (s:List UInt8) (h:s.length≤100000):z72 s=some (z1z s.length++s):=by
 unfold z72
 rw [z7c]
 have e:(UInt64.ofInt (s.length:Int)).toNat=s.length:=by rw [zcn]; omega
 have:=z19 s.length (by omega)
 rw [e]
 simp only [bs]
 rw [z1q (by omega)]; rfl
theorem zzs (v:z05) (l:List UInt8) (k:Nat) (hl:l.length≤100) (hk:k≤7):z5n v (l,(k:Int))=some (.inr (l++[(z79 v.Bits (8 * k)).toUInt8],(k:Int) - 1)):=by
 unfold z5n
 rw [if_pos (by simp)]
 simp only
 have e:w64 (8 * (k:Int))=((8 * k:Nat):Int):=by rw [z14 (by omega) (by omega)]; omega
 rw [e,z3p (by omega)]
 simp only [bs,Int.toNat_natCast]
 rw [z1q (by simp; omega)]
 simp only [bs]
 rw [z14 (by omega) (by omega)]
theorem z11d (v:z05):iter (z5n v) ([v.Kind],7)=some (v.Kind::be8 v.Bits):=by
 have hs:=fun l k h1 h2=>zzs v l k h1 h2
 rw [show (7:Int)=((7:Nat):Int) from rfl,z1b (hs [v.Kind] 7 (by simp) (by omega))]
 simp only [List.cons_append,List.nil_append, show ((7:Nat):Int) - 1=((6:Nat):Int) from rfl]
 rw [z1b (hs _ 6 (by simp) (by omega))]
 simp only [List.cons_append,List.nil_append, show ((6:Nat):Int) - 1=((5:Nat):Int) from rfl]
 rw [z1b (hs _ 5 (by simp) (by omega))]
 simp only [List.cons_append,List.nil_append, show ((5:Nat):Int) - 1=((4:Nat):Int) from rfl]
 rw [z1b (hs _ 4 (by simp) (by omega))]
 simp only [List.cons_append,List.nil_append, show ((4:Nat):Int) - 1=((3:Nat):Int) from rfl]
 rw [z1b (hs _ 3 (by simp) (by omega))]
 simp only [List.cons_append,List.nil_append, show ((3:Nat):Int) - 1=((2:Nat):Int) from rfl]
 rw [z1b (hs _ 2 (by simp) (by omega))]
 simp only [List.cons_append,List.nil_append, show ((2:Nat):Int) - 1=((1:Nat):Int) from rfl]
 rw [z1b (hs _ 1 (by simp) (by omega))]
 simp only [List.cons_append,List.nil_append, show ((1:Nat):Int) - 1=((0:Nat):Int) from rfl]
 rw [z1b (hs _ 0 (by simp) (by omega))]
 simp only [List.cons_append,List.nil_append]
 refine z12 ?_
 unfold z5n
 rw [if_neg (by simp)]; rfl
theorem z10p (v:z05) (hI:inI v.Num) (hv:okV v=true):z9k v=some (encV v):=by
 unfold encV z9k
 rcases zoq hv with k | k | k
 ·
  have h1:=z19 (zig v.Num) (z107 hI)
  rw [k,zq7 v.Num hI]
  simp only [bs]
  rw [if_pos (by decide),z1q (by simp; omega)]; simp [bs]
 ·
  rw [k,if_neg (by decide),if_pos (by decide),if_neg (by decide),if_pos rfl,← k,z11d]; rfl
 ·
  have h3:=(okV3 hv k).2.2.1
  have h1:=z19 v.Text.length (by omega)
  rw [k,znw v.Text (by omega)]
  rw [if_neg (by decide),if_neg (by decide),if_neg (by decide),if_neg (by decide),z3p (by omega)]
  simp only [bs]
  rw [z1q (by simp; omega)]; rfl
end
section
open Go
theorem z10z (a b:V3):∀ (n i:Nat),32 - i=n→i≤32→∃ r:Sum Int Unit,iter (z7a a b) (i:Int)=some r∧(z3g (some r) (fun _=>some 0)=some (Lib.compareBytes (a.toList.drop i) (b.toList.drop i))):=by
 intro n
 induction n with
 | zero =>
  intro i hn hi
  have:i=32:=by omega
  subst this
  refine ⟨.inr (),z12 ?_,?_⟩
  ·
   unfold z7a; rw [if_neg (by simp)]
  ·
   rw [List.drop_eq_nil_of_le (by simp),List.drop_eq_nil_of_le (by simp)]; rfl
 | succ n ih =>
  intro i hn hi
  have hlt:i<32:=by omega
  have da:a.toList.drop i=a[i]::a.toList.drop (i+1):=by rw [List.drop_eq_getElem_cons (by simpa using hlt)]; simp
  have db:b.toList.drop i=b[i]::b.toList.drop (i+1):=by rw [List.drop_eq_getElem_cons (by simpa using hlt)]; simp
  have hF:z7a a b (i:Int)=if decide (a[i]<b[i]) then some (.inl (.inl (-1))) else if decide (b[i]<a[i]) then some (.inl (.inl 1)) else some (.inr ((i+1:Nat):Int)):=by
   unfold z7a
   rw [if_pos (by simp; omega)]
   simp only [z6c hlt,bs,z0k (show i<9223372036854775807 by omega)]
  rw [da,db,Lib.compareBytes]
  by_cases h1:a[i]<b[i]
  ·
   rw [decide_eq_true h1] at hF
   exact ⟨_,z12 hF, by rw [if_pos h1]; rfl⟩
  ·
   rw [decide_eq_false h1] at hF
   by_cases h2:b[i]<a[i]
   ·
    rw [decide_eq_true h2] at hF
    exact ⟨_,z12 hF, by rw [if_neg h1,if_pos h2]; rfl⟩
   ·
    rw [decide_eq_false h2] at hF
    obtain ⟨r,k1,k2⟩:=ih (i+1) (by omega) (by omega)
    exact ⟨r, by rw [z1b hF]; exact k1, by rw [if_neg h1,if_neg h2]; exact k2⟩
theorem zya (a b:V3):zb2 a b=some (Lib.compareBytes a.toList b.toList):=by
 obtain ⟨r,h1,h2⟩:=z10z a b 32 0 rfl (by omega)
 unfold zb2
 rw [show (0:Int)=((0:Nat):Int) from rfl,h1]
 simpa using h2
theorem zso (a b:V3):z8j a b=some (Lib.compareBytes a.toList b.toList):=by
 unfold z8j zem; rfl
def z8l:List V3→Bool
 | a::b::l=>!decide (0≤Lib.compareBytes a.toList b.toList)&&z8l (b::l)
 | _=>true
theorem zm9 (l:List V3) (hl:l.length≤9223372036854775807):∀ (n i:Nat),l.length - i=n→1≤i→i≤l.length→iter (z4b l) (i:Int)=some (if z8l (l.drop (i - 1)) then .inr () else .inl false):=by
 intro n
 induction n with
 | zero =>
  intro i hn h1 hi
  have:i=l.length:=by omega
  refine z12 ?_
  have e:l.drop (i - 1)=[l[i - 1]'(by omega)]:=by
   rw [List.drop_eq_getElem_cons (by omega),List.drop_eq_nil_of_le (by omega)]
  rw [e]
  unfold z4b
  rw [if_neg (by simp; omega)]
  simp [z8l]
 | succ n ih =>
  intro i hn h1 hi
  have hlt:i<l.length:=by omega
  have e:l.drop (i - 1)=l[i - 1]::l[i]::l.drop (i+1):=by
   rw [List.drop_eq_getElem_cons (by omega), show i - 1+1=i by omega,List.drop_eq_getElem_cons hlt]
  have e':l.drop (i+1 - 1)=l[i]::l.drop (i+1):=by rw [Nat.add_sub_cancel,List.drop_eq_getElem_cons hlt]
  have hF:z4b l (i:Int)=if decide (0≤Lib.compareBytes (l[i - 1]).toList (l[i]).toList) then some (.inl (.inl false)) else some (.inr ((i+1:Nat):Int)):=by
   unfold z4b
   rw [if_pos (by simp; omega),z14 (by omega) (by omega), show ((i:Int) - 1)=((i - 1:Nat):Int) by omega]
   simp only [z0d hlt,z0d (show i - 1<l.length by omega),bs,zya,z0k (show i<9223372036854775807 by omega)]
  rw [e,z8l]
  cases hc:decide (0≤Lib.compareBytes (l[i - 1]).toList (l[i]).toList) with
  | true=>rw [hc] at hF; rw [z12 hF]; rfl
  | false =>
   rw [hc] at hF
   rw [z1b hF,ih (i+1) (by omega) (by omega) (by omega),e']; simp
theorem zqs (l:List V3) (hl:l.length≤9223372036854775807):z7b l=some (z8l l):=by
 unfold z7b
 cases l with
 | nil =>
  rw [z12 (b:=.inr ()) (by unfold z4b; rw [if_neg (by simp)])]; rfl
 | cons x l =>
  have:=zm9 (x::l) hl _ 1 rfl (by omega) (by simp)
  rw [show (1:Int)=((1:Nat):Int) from rfl,this]
  simp only [Nat.sub_self,List.drop_zero]
  cases z8l (x::l) <;> rfl
theorem zql (l:List V3) (hl:l.length≤9223372036854775806):∀ (n i:Nat),l.length - i=n→i≤l.length→∃ r,iter (z0t l l) ((i:Int),(i:Int))=some r∧(z8l (l.drop i)=true→∃ c,r=.inr c)∧(z8l (l.drop i)=false→∃ (k:Nat) (c:Int),r=.inl ((k:Int),c)):=by
 intro n
 induction n with
 | zero =>
  intro i hn hi
  have:i=l.length:=by omega
  refine ⟨.inr (i:Int),z12 ?_, fun _=>⟨_,rfl⟩, fun h=>?_⟩
  ·
   unfold z0t
   rw [if_neg (by simp; omega)]
  ·
   rw [List.drop_eq_nil_of_le (by omega)] at h; simp [z8l] at h
 | succ n ih =>
  intro i hn hi
  have hlt:i<l.length:=by omega
  by_cases h2:i+1<l.length
  ·
   have e:l.drop i=l[i]::l[i+1]::l.drop (i+2):=by rw [List.drop_eq_getElem_cons hlt,List.drop_eq_getElem_cons h2]
   have e':l.drop (i+1)=l[i+1]::l.drop (i+2):=by rw [List.drop_eq_getElem_cons h2]
   have hF:z0t l l ((i:Int),(i:Int))=if decide (0≤Lib.compareBytes (l[i]).toList (l[i+1]).toList) then some (.inl (.inl ((i:Int),((i+1:Nat):Int)))) else some (.inr (((i+1:Nat):Int),((i+1:Nat):Int))):=by
    unfold z0t zc2
    rw [if_pos (by simp; omega)]
    simp only [z0d hlt,bs,z0k (show i<9223372036854775807 by omega)]
    rw [if_pos (by simp; omega),z14 (by omega) (by omega), show ((i+1:Nat):Int) - 1=(i:Int) by omega]
    simp only [z0d hlt,z0d h2,bs,zso]
   rw [e,z8l]
   cases hc:decide (0≤Lib.compareBytes (l[i]).toList (l[i+1]).toList) with
   | true =>
    rw [hc] at hF
    exact ⟨_,z12 hF, fun h=>by simp at h, fun _=>⟨i,_,rfl⟩⟩
   | false =>
    rw [hc] at hF
    obtain ⟨r,k1,k2,k3⟩:=ih (i+1) (by omega) (by omega)
    rw [e'] at k2 k3
    exact ⟨r, by rw [z1b hF]; exact k1, fun h=>k2 (by simpa using h), fun h=>k3 (by simpa using h)⟩
  ·
   have e:l.drop i=[l[i]]:=by rw [List.drop_eq_getElem_cons hlt,List.drop_eq_nil_of_le (by omega)]
   have hF:z0t l l ((i:Int),(i:Int))=some (.inr (((i+1:Nat):Int),((i+1:Nat):Int))):=by
    unfold z0t zc2
    rw [if_pos (by simp; omega)]
    simp only [z0d hlt,bs,z0k (show i<9223372036854775807 by omega)]
    rw [if_neg (by simp; omega)]
    simp only [bs]; rfl
   obtain ⟨r,k1,k2,k3⟩:=ih (i+1) (by omega) (by omega)
   rw [List.drop_eq_nil_of_le (by omega)] at k2 k3
   exact ⟨r, by rw [z1b hF]; exact k1, fun _=>k2 rfl, fun h=>by rw [e] at h; simp [z8l] at h⟩
theorem zwf (l:List V3) (hl:l.length≤9223372036854775806):zec l=some (z8l l):=by
 obtain ⟨r,k1,k2,k3⟩:=zql l hl _ 0 rfl (by omega)
 unfold zec z29 z2n
 rw [show ((0:Int),(0:Int))=(((0:Nat):Int),((0:Nat):Int)) from rfl,k1]
 simp only [List.drop_zero] at k2 k3
 cases h:z8l l with
 | true=>obtain ⟨c,rfl⟩:=k2 h; rfl
 | false =>
  obtain ⟨k,c,rfl⟩:=k3 h
  simp only [or_l,bs]
  rw [decide_eq_true (by omega)]; rfl
def zn6 (l:List V3):List UInt8:=l.flatMap Vector.toList
theorem zj2 (l:List V3):(zn6 l).length=32 * l.length:=by
 induction l with
 | nil=>rfl
 | cons x l ih=>unfold zn6 at ih ⊢; rw [List.flatMap_cons,List.length_append,ih]; simp; omega
theorem zqb (l:List V3) (i:Nat) (hi:i<l.length):zn6 (l.take (i+1))=zn6 (l.take i)++(l[i]).toList:=by
 rw [List.take_add_one,List.getElem?_eq_getElem hi]; unfold zn6; rw [List.flatMap_append,Option.toList_some,List.flatMap_cons,List.flatMap_nil,List.append_nil]
theorem z155 (l:List V3) (h:l.length≤1000) (s:List UInt8) (hs:s.length≤9):iter (z6a l) (s,0)=some (s++zn6 l):=by
 have:=z1v (F:=z6a l) (b:=s++zn6 l) l.length (fun i=>(s++zn6 (l.take i),(i:Int))) (fun i hi=>?_) ?_
 ·
  simpa [zn6] using this
 ·
  unfold z6a
  have hf:=zj2 (l.take i)
  rw [if_pos (by simp; omega)]
  simp only [z0d hi,bs]
  rw [z1q (by simp at hf ⊢; omega)]
  simp only [bs,z0k (show i<9223372036854775807 by omega),zqb l i hi,List.append_assoc]
 ·
  unfold z6a
  rw [if_neg (by simp)]
  simp
theorem z18j (l:List V3) (h:l.length≤1000) (s:List UInt8) (hs:s.length≤9):iter (zci l) (s,0)=some (s++zn6 l):=by
 have:=z1v (F:=zci l) (b:=s++zn6 l) l.length (fun i=>(s++zn6 (l.take i),(i:Int))) (fun i hi=>?_) ?_
 ·
  simpa [zn6] using this
 ·
  unfold zci
  have hf:=zj2 (l.take i)
  rw [if_pos (by simp; omega)]
  simp only [z0d hi,bs]
  rw [z1q (by simp at hf ⊢; omega)]
  simp only [bs,z0k (show i<9223372036854775807 by omega),zqb l i hi,List.append_assoc]
 ·
  unfold zci
  rw [if_neg (by simp)]
  simp
theorem zmg {n:Nat} (h:n<18446744073709551616):(UInt64.ofInt (n:Int)).toNat=n:=by
 simp [UInt64.ofInt]; omega
theorem z12g (l:List V3) (h:l.length≤1000):zad l=some (z1z l.length++zn6 l):=by
 unfold zad
 have hn:=z19 l.length (by omega)
 rw [z7c,zmg (by omega)]
 simp only [bs]
 rw [z155 l h _ (by omega)]; rfl
theorem z14r (l:List V3) (h:l.length≤60) (hi:z8l l=true):zl9 l=some (z1z l.length++zn6 l,0):=by
 unfold zl9
 have hn:=z19 l.length (by omega)
 rw [if_neg (by simp; omega),zwf l (by omega),hi,z7g,zmg (by omega)]
 simp only [bs,Bool.not_true,Bool.false_eq_true,if_false]
 rw [z18j l (by omega) _ (by omega)]; rfl
end
section
open Go
def nk:List UInt8→Nat
 | []=>0
 | a::l=>a.toNat * 256 ^ l.length+nk l
theorem z146:∀ l:List UInt8,nk l<256 ^ l.length
 | []=>by simp [nk]
 | a::l=>by
  have ih:=z146 l
  have ha:=UInt8.toNat_lt a
  simp only [nk,List.length_cons,Nat.pow_succ]
  have h1:(a.toNat+1) * 256 ^ l.length≤256 * 256 ^ l.length:=Nat.mul_le_mul_right _ (by omega)
  rw [Nat.add_mul,Nat.one_mul] at h1
  omega
theorem zzu:∀ a b:List UInt8,a.length=b.length→Lib.compareBytes a b=(if nk a<nk b then -1 else if nk b<nk a then 1 else 0)∧(nk a=nk b→a=b)
 | [],[],_=>by simp [Lib.compareBytes,nk]
 | [],_::_,h=>by simp at h
 | _::_,[],h=>by simp at h
 | a::x,b::y,h=>by
  have hl:x.length=y.length:=by simpa using h
  obtain ⟨i1,i2⟩:=zzu x y hl
  have lx:=z146 x
  have ly:=z146 y
  simp only [Lib.compareBytes,nk,hl] at *
  have e:∀ u v:UInt8,u.toNat<v.toNat→u.toNat * 256 ^ y.length+256 ^ y.length≤v.toNat * 256 ^ y.length:=fun u v huv=>by
   have:=Nat.mul_le_mul_right (256 ^ y.length) (show u.toNat+1≤v.toNat from huv)
   rwa [Nat.add_mul,Nat.one_mul] at this
  by_cases h1:a<b
  ·
   have h1':a.toNat<b.toNat:=UInt8.lt_iff_toNat_lt.1 h1
   have:=e a b h1'
   rw [if_pos h1,if_pos (by omega)]
   exact ⟨rfl, fun h=>by omega⟩
  ·
   by_cases h2:b<a
   ·
    have h2':b.toNat<a.toNat:=UInt8.lt_iff_toNat_lt.1 h2
    have:=e b a h2'
    rw [if_neg h1,if_pos h2,if_neg (by omega),if_pos (by omega)]
    exact ⟨rfl, fun h=>by omega⟩
   ·
    have h3:a=b:=UInt8.toNat_inj.1 (by rw [UInt8.lt_iff_toNat_lt] at h1 h2; omega)
    subst h3
    rw [if_neg h1,if_neg h1,i1]
    refine ⟨?_, fun h=>by rw [i2 (by omega)]⟩
    by_cases c1:nk x<nk y
    ·
     rw [if_pos c1,if_pos (by omega)]
    ·
     by_cases c2:nk y<nk x
     ·
      rw [if_neg c1,if_pos c2,if_neg (by omega),if_pos (by omega)]
     ·
      rw [if_neg c1,if_neg c2,if_neg (by omega),if_neg (by omega)]
def kd (d:V3):Nat:=nk d.toList
theorem zza (a b:V3):Lib.compareBytes a.toList b.toList=if kd a<kd b then -1 else if kd b<kd a then 1 else 0:=(zzu a.toList b.toList (by simp)).1
theorem zo9 {a b:V3} (h:kd a=kd b):a=b:=by
 have:=(zzu a.toList b.toList (by simp)).2 h
 exact Vector.toList_inj.1 this
theorem zub (a b:V3):z8j a b=some (if kd a<kd b then -1 else if kd b<kd a then 1 else 0):=by rw [zso,zza]
theorem zx4 (a b:V3):decide ((if kd a<kd b then (-1:Int) else if kd b<kd a then 1 else 0)<0)=decide (kd a<kd b):=by
 by_cases h:kd a<kd b
 ·
  simp [h]
 ·
  by_cases h2:kd b<kd a <;> simp [h,h2]
theorem z13w (a b:V3):decide (0≤(if kd a<kd b then (-1:Int) else if kd b<kd a then 1 else 0))=decide (kd b≤kd a):=by
 by_cases h:kd a<kd b
 ·
  have:¬ kd b≤kd a:=by omega
  simp [h,this]
 ·
  have h3:kd b≤kd a:=by omega
  by_cases h2:kd b<kd a <;> simp [h,h2,h3]
theorem z16r (a b:V3):((if kd a<kd b then (-1:Int) else if kd b<kd a then 1 else 0)==0)=decide (a=b):=by
 by_cases h:kd a<kd b
 ·
  have:a≠b:=fun e=>by rw [e] at h; omega
  simp [h,this]
 ·
  by_cases h2:kd b<kd a
  ·
   have:a≠b:=fun e=>by rw [e] at h2; omega
   simp [h,h2,this]
  ·
   have:a=b:=zo9 (by omega)
   simp [h,h2,this]
theorem zvl:∀ l:List V3,z8l l=true↔∀ i (h:i+1<l.length),kd (l[i]'(by omega))<kd l[i+1]
 | []=>by simp [z8l]
 | [a]=>by simp [z8l]
 | a::b::l=>by
  have ih:=zvl (b::l)
  rw [z8l,Bool.and_eq_true,ih,zza,z13w]
  constructor
  ·
   rintro ⟨h1,h2⟩ i hi
   cases i with
   | zero=>simpa using h1
   | succ i=>exact h2 i (by simpa using hi)
  ·
   intro h
   refine ⟨?_, fun i hi=>h (i+1) (by simpa using hi)⟩
   have:=h 0 (by simp)
   simpa using this
theorem zeu:∀ l:List V3,z8l l=true↔l.Pairwise (fun a b=>kd a<kd b)
 | []=>by simp [z8l]
 | [a]=>by simp [z8l]
 | a::b::l=>by
  have ih:=zeu (b::l)
  rw [z8l,Bool.and_eq_true,ih,zza,z13w]
  constructor
  ·
   rintro ⟨h1,h2⟩
   have h1':kd a<kd b:=by simpa using h1
   refine List.pairwise_cons.2 ⟨fun c hc=>?_,h2⟩
   rcases List.mem_cons.1 hc with rfl | hc
   ·
    exact h1'
   ·
    have:=(List.pairwise_cons.1 h2).1 c hc; omega
  ·
   intro h
   obtain ⟨h1,h2⟩:=List.pairwise_cons.1 h
   have:=h1 b (by simp)
   exact ⟨by simp; omega,h2⟩
theorem zyw (l:List V3) (hl:l.length≤9223372036854775807):∃ b,z18 l=some b∧(b=true↔∀ i (h:i+1<l.length),kd (l[i]'(by omega))≤kd l[i+1]):=by
 have key:∀ n,n<l.length→∃ r:Sum Bool Unit,iter (z0x l) (n:Int)=some r∧((r=.inr ()∧∀ i (h:i+1<l.length),i+1≤n→kd (l[i]'(by omega))≤kd l[i+1])∨(r=.inl false∧∃ i,∃ h:i+1<l.length,¬ kd (l[i]'(by omega))≤kd l[i+1])):=by
  intro n
  induction n with
  | zero =>
   intro h
   refine ⟨_,z12 ?_,.inl ⟨rfl, fun i _ h=>by omega⟩⟩
   unfold z0x
   rw [if_neg (by simp)]
  | succ n ih =>
   intro h
   have hF:z0x l ((n+1:Nat):Int)=if decide (kd l[n+1]<kd l[n]) then some (.inl (.inl false)) else some (.inr (n:Int)):=by
    unfold z0x
    rw [if_pos (by simp <;> omega),z0d h,z14 (by omega) (by omega), show (((n+1:Nat):Int) - 1)=(n:Int) by omega,z0d (by omega)]
    simp only [bS]
    rw [zub]
    simp only [bS]
    rw [zx4]
   by_cases hc:kd l[n+1]<kd l[n]
   ·
    rw [decide_eq_true hc,if_pos rfl] at hF
    exact ⟨_,z12 hF,.inr ⟨rfl,n,h, by omega⟩⟩
   ·
    rw [decide_eq_false hc,if_neg (by simp)] at hF
    obtain ⟨r,h1,h2⟩:=ih (by omega)
    refine ⟨r, by rw [z1b hF]; exact h1,?_⟩
    rcases h2 with ⟨h2,h3⟩ | h2
    ·
     refine .inl ⟨h2, fun i hi hn=>?_⟩
     by_cases hin:i=n
     ·
      subst hin; omega
     ·
      exact h3 i hi (by omega)
    ·
     exact .inr h2
 unfold z18
 simp only [bS]
 by_cases h0:l.length=0
 ·
  refine ⟨true,?_, by simp; intro i hi; omega⟩
  rw [h0,z14 (by omega) (by omega),z12 (b:=.inr ())]
  ·
   rfl
  ·
   unfold z0x
   rw [if_neg (by simp)]
 ·
  obtain ⟨r,h1,h2⟩:=key (l.length - 1) (by omega)
  rw [z14 (by omega) (by omega), show ((l.length:Int) - 1)=((l.length - 1:Nat):Int) by omega,h1]
  rcases h2 with ⟨rfl,h3⟩ | ⟨rfl,i,hi,h3⟩
  ·
   exact ⟨true,rfl, by simp; exact fun i hi=>h3 i hi (by omega)⟩
  ·
   exact ⟨false,rfl, by simp; exact ⟨i,hi, by omega⟩⟩
theorem zzh {k n j:Nat} (h:j<n):subi k n (j:Int)=some (k+j):=by unfold subi; rw [if_pos (by omega)]; simp
theorem z15p {α:Type} (b:List α) (k n:Nat) (x:α) (h:k+n≤b.length):(clr b k n x).length=b.length:=by
 unfold clr
 simp only [List.length_append,List.length_take,List.length_replicate,List.length_drop]; omega
theorem zsf (l:List V3) (s:Nat) (h1:1≤s) (hs:s<l.length) (hl:l.length≤9223372036854775806):∃ b:List V3 × Int,iter (z2k l s) (l,(s:Int),1)=some b∧b.1.length=l.length∧∃ j:Nat,b.2=(j:Int)∧j<l.length:=by
 refine zbu (F:=z2k l s) (l.length - s) (fun i st=>st.1.length=l.length∧st.2.2=(i:Int)∧1≤i∧∃ j:Nat,st.2.1=(j:Int)∧j+1≤s+i) _ ?_ ?_ _ 1 (by omega) ⟨rfl,rfl, by omega,s,rfl, by omega⟩
 ·
  rintro i ⟨c,j',i'⟩ hi ⟨e1,e2,e0,j,e3,e4⟩
  simp only at e1 e2 e3
  subst e2 e3
  unfold z2k
  rw [if_pos (by simp; omega)]
  simp only [Int.toNat_natCast]
  rw [zzh (by omega),z14 (x:=(i:Int) - 1) (by omega) (by omega), show ((i:Int) - 1)=((i - 1:Nat):Int) by omega,zzh (by omega)]
  simp only [bS]
  rw [z0d (by omega),z0d (by omega)]
  simp only [bS]
  by_cases hc:c[s+i]'(by omega)=c[s+(i - 1)]'(by omega)
  ·
   rw [decide_eq_true hc,if_neg (by simp)]
   exact ⟨_,rfl,e1,z0k (by omega), by omega,j,rfl, by omega⟩
  ·
   rw [decide_eq_false hc,if_pos (by simp),z0d (by omega)]
   simp only [bS]
   exact ⟨_,rfl, by simpa using e1,z0k (by omega), by omega,j+1,z0k (by omega), by omega⟩
 ·
  rintro ⟨c,j',i'⟩ ⟨e1,e2,e0,j,e3,e4⟩
  simp only at e1 e2 e3
  subst e2 e3
  unfold z2k
  rw [if_neg (by simp <;> omega)]
  exact ⟨_,rfl,e1,j,rfl, by omega⟩
theorem zwv (l:List V3) (hl:l.length≤9223372036854775806):∃ c,z30 l=some c∧(c.length=l.length↔∀ i (h:i+1<l.length),l[i]'(by omega)≠l[i+1]):=by
 have key:∀ k n,l.length - n=k→1≤n→n≤l.length→∃ r:Sum (List V3) Unit,iter (z1g l) (n:Int)=some r∧((r=.inr ()∧∀ i (h:i+1<l.length),n≤i+1→l[i]'(by omega)≠l[i+1])∨(∃ c,r=.inl c∧c.length≠l.length∧∃ i,∃ h:i+1<l.length,l[i]'(by omega)=l[i+1])):=by
  intro k
  induction k with
  | zero =>
   intro n hk h1 hn
   refine ⟨_,z12 ?_,.inl ⟨rfl, fun i _ h=>by omega⟩⟩
   unfold z1g
   rw [if_neg (by simp; omega)]
  | succ k ih =>
   intro n hk h1 hn
   have hlt:n<l.length:=by omega
   by_cases hc:l[n]=l[n - 1]
   ·
    obtain ⟨⟨c,j'⟩,e1,e2,j,e3,e4⟩:=zsf l n h1 hlt hl
    simp only at e2 e3
    subst e3
    have hF:z1g l (n:Int)=some (.inl (.inl ((clr c j (c.length - j) (Vector.replicate 32 0)).take j))):=by
     unfold z1g
     rw [if_pos (by simp; omega),z0d hlt,z14 (by omega) (by omega), show ((n:Int) - 1)=((n - 1:Nat):Int) by omega,z0d (by omega)]
     simp only [bS]
     rw [decide_eq_true hc,if_pos rfl,z3p (by omega)]
     simp only [bS]
     rw [e1]
     simp only [bS]
     rw [z3p (by omega),z3p (by simp; omega)]
     simp only [bS,Int.toNat_natCast]
     rw [show (0:Int)=((0:Nat):Int) from rfl,zob (by omega) (by rw [z15p _ _ _ _ (by omega)]; omega)]
     simp
    refine ⟨_,z12 hF,.inr ⟨_,rfl,?_,n - 1, by omega,?_⟩⟩
    ·
     rw [List.length_take]; omega
    ·
     have:n - 1+1=n:=by omega
     simp only [this]; exact hc.symm
   ·
    have hF:z1g l (n:Int)=some (.inr ((n+1:Nat):Int)):=by
     unfold z1g
     rw [if_pos (by simp; omega),z0d hlt,z14 (x:=(n:Int) - 1) (by omega) (by omega), show ((n:Int) - 1)=((n - 1:Nat):Int) by omega,z0d (by omega)]
     simp only [bS]
     rw [decide_eq_false hc,if_neg (by simp),z0k (by omega)]
    obtain ⟨r,h2,h3⟩:=ih (n+1) (by omega) (by omega) (by omega)
    refine ⟨r, by rw [z1b hF]; exact h2,?_⟩
    rcases h3 with ⟨h3,h4⟩ | h3
    ·
     refine .inl ⟨h3, fun i hi hni=>?_⟩
     by_cases hin:i+1=n
     ·
      subst hin; exact fun e=>hc e.symm
     ·
      exact h4 i hi (by omega)
    ·
     exact .inr h3
 unfold z30
 by_cases h2:l.length<2
 ·
  rw [if_pos (by simp; omega)]
  exact ⟨l,rfl, by simp; intro i hi; omega⟩
 ·
  rw [if_neg (by simp; omega)]
  obtain ⟨r,e1,e2⟩:=key (l.length - 1) 1 rfl (by omega) (by omega)
  rw [show (1:Int)=((1:Nat):Int) from rfl,e1]
  rcases e2 with ⟨rfl,h3⟩ | ⟨c,rfl,h3,i,hi,h4⟩
  ·
   exact ⟨l,rfl, by simp; exact fun i hi=>h3 i hi (by omega)⟩
  ·
   exact ⟨c,rfl,⟨fun h=>absurd h h3, fun h=>absurd h4 (h i hi)⟩⟩
theorem z12o (l:List V3):z8l l=true↔(∀ i (h:i+1<l.length),kd (l[i]'(by omega))≤kd l[i+1])∧∀ i (h:i+1<l.length),l[i]'(by omega)≠l[i+1]:=by
 rw [zvl]
 constructor
 ·
  intro h
  refine ⟨fun i hi=>Nat.le_of_lt (h i hi), fun i hi e=>?_⟩
  have:=h i hi
  rw [e] at this; omega
 ·
  rintro ⟨h1,h2⟩ i hi
  have:=h1 i hi
  rcases Nat.lt_or_eq_of_le this with h | h
  ·
   exact h
  ·
   exact absurd (zo9 h) (h2 i hi)
end
section
open Go Go.Shelf Go.RowKit Go.Lib Go.Sort
def cfID (x y:V3):Int:=Lib.compareBytes x.toList y.toList
theorem ltID (x y:V3):ltOf cfID x y=decide (kd x<kd y):=by
 unfold ltOf cfID
 rw [zza,zx4]
theorem z19k:SWO (ltOf cfID) where
 irrefl x:=by rw [ltID]; simp
 trans x y z h1 h2:=by rw [ltID] at *; simp at *; omega
 ntrans x y z h1 h2:=by rw [ltID] at *; simp at *; omega
def zin (l:List V3):List V3:=l.mergeSort fun x y=>!(ltOf cfID) y x
theorem zmu (l:List V3):(zin l).length=l.length:=List.length_mergeSort l
theorem zqq (l:List V3) (x:V3):x∈zin l↔x∈l:=List.mem_mergeSort
theorem zfu (l:List V3):(zin l).Pairwise fun x y=>kd x≤kd y:=by
 have h:=List.pairwise_mergeSort (le:=fun x y=>!(ltOf cfID) y x) (fun a b c h1 h2=>by
  rw [ltID] at *; simp at *; omega) (fun a b=>by rw [ltID,ltID]; simp; omega) l
 exact h.imp fun {a b} hab=>by rw [ltID] at hab; simp at hab; omega
def ztq (l:List V3):Option (List V3):=chk (l.length≤1000000) >>= fun _=>some (zin l)
theorem zte {l l':List V3} (h:l.Perm l'):zin l=zin l' :=
 (((List.mergeSort_perm l _).trans h).trans (List.mergeSort_perm l' _).symm).eq_of_pairwise (le:=fun a b=>kd a≤kd b) (fun a b _ _ h1 h2=>zo9 (Nat.le_antisymm h1 h2)) (zfu l) (zfu l')
theorem zwc {l l':List V3} (h:l.Perm l'):ztq l=ztq l':=by unfold ztq; rw [h.length_eq,zte h]
theorem z11c (p0:Value) (c0:List V3):z1w Tryz.prog 68 [.val p0,.val (.func (.func 69) #[] #[])] [(1,some (p0,.list (z2o 32 u8R) 94 c0))] (ztq c0) (fun r nv=>⟨[],[(1,some (p0,.list (z2o 32 u8R) 94 r))]⟩):=by
 refine z12i zin zmu (fun cap w=>?_) (fun blk cap d w hH hb hs=>?_) p0 c0
 ·
  exact AnyF.slices_SortFunc_none z189 none cap _ w
 ·
  have eg:∀ args w,(callFunc 69 args).run Tryz.prog w=.ok (.enter 69 args) w:=enters_of Tryz.func69 (by kernel_rfl) rfl
  exact AnyQ.slices_SortFunc_total z189 32 Tryz.isAgg94 Tryz.sizeOf94 zak zfp (fun x v hv=>by
   unfold zak at hv
   obtain ⟨c,_,rfl⟩:=List.mem_map.1 hv
   rfl) cfID z19k 69 #[] blk 0 cap d w eg (fun m os dk _ x y=>zwn x y _) hH hb hs (fun x y h1 h2=>by
   rw [ltID] at h1 h2
   simp at h1 h2
   exact zo9 (by omega))
end
section
open Go Go.Shelf Go.RowKit Go.Lib
theorem z12r {P:Program} {k:Nat} (w:World) (dT sT ty elem:TypeId) (g o dLen dCap:Nat) (a:Addr) (sLen sCap:Nat) (cur:Array Value) (t:TypeId) (cs:List Value)
  (hu:P.underlying dT=some (.slice elem)) (hs:(P.info? elem).map (·.size)=some k)
  (hg:w.heap[g]? = some (.cells cur t (0,0))) (hn:cs.length=Nat.min sLen dLen * k)
  (hsrc:∀ j v,cs[j]? = some v→w.cell? (a.add j)=some v) (hfit:o+cs.length≤cur.size) (h1:∀ v∈cs,v.oneCell'=true) :
  (Builtin.copy_ #[dT,sT] ty #[.slice (some ⟨g,o,none⟩) dLen dCap,.slice (some a) sLen sCap]).run P w =
   .ok (goInt (Nat.min sLen dLen)) (w.setRow g (cur.toList.take o++cs++cur.toList.drop (o+cs.length)).toArray):=by
 have hl:=run_firstCells_some (P:=P) w k (Nat.min sLen dLen) a sLen sCap cs hn hsrc
 have hst:=run_storeCells_at P g o t cs 0 cur w hg (by simpa using hfit) h1
 cases hq:P.info? elem with
 | none=>simp [hq] at hs
 | some i =>
  have hi:i.size=k:=by simpa [hq] using hs
  simp [Builtin.copy_,run_underlying hu,Builtin.lenOf,sizeOf,typeInfo,hq,hi,hl,hst]
theorem z10y {P:Program} (w:World) {o:Oper} {a:Act} {K:Act→World→Prop} {Q:Exit→Act→World→Prop} (d s:Operand) (t t':TypeId)
  (ho:o.op=.call { callee:=.builtin .copy,args:=#[d,s],argTypes:=#[t,t'] }) (v u:Value) (hd:a.eval d=v) (hs:a.eval s=u) {v':Value} {w':World}
  (hr:(Builtin.copy_ #[t,t'] o.type #[v,u]).run P w=.ok v' w') (h:K (a.put o.dst v') w'):o.wp P a w K Q:=by
 unfold Oper.wp execOp
 simp only [ho,resolve,invoke,builtin,Sem.run_bind,Sem.run_pure,Result.andThen_ok,List.map_toArray,List.map_cons,List.map_nil,hd,hs,hr]
 exact h
theorem zkg {P:Program} (w:World) {ops:Array Oper} {rest:List Oper} {o:Oper} {a:Act} {Q:Exit→Act→World→Prop} (hgd:o.guard=none) (d s:Operand) (t t':TypeId)
  (ho:o.op=.call { callee:=.builtin .copy,args:=#[d,s],argTypes:=#[t,t'] }) (v u:Value) (hd:a.eval d=v) (hs:a.eval s=u) {v':Value} {w':World}
  (hr:(Builtin.copy_ #[t,t'] o.type #[v,u]).run P w=.ok v' w') (h:wpList P ops Q rest (a.put o.dst v') w'):wpList P ops Q (o::rest) a w :=
 wpList_plain hgd fun _ hK=>z10y w d s t t' ho v u hd hs hr (hK _ _ h)
theorem znm {P:Program} {ops:Array Oper} {o:Oper} {a:Act} {w:World} {K:Act→World→Prop} {Q:Exit→Act→World→Prop} {E:Prop}
  (hg:o.guard=none) (d x:Operand) (dT sT:TypeId) (hop:o.op=Op.call { callee:=Callee.builtin Builtin.copy,args:=#[d,x],argTypes:=#[dT,sT] })
  (v u:Value) (hd:a.eval d=v) (hx:a.eval x=u) {v':Value} {w':World} (hr:(Builtin.copy_ #[dT,sT] o.type #[v,u]).run P w=.ok v' w') (hK:K (a.put o.dst v') w') :
  if Region.wanted o (yielded ops a.tmps)=true then Oper.wp P o a w K Q else E:=by
 have hw:Region.wanted o (yielded ops a.tmps)=true:=by simp [Region.wanted,hg]
 rw [if_pos hw]
 unfold Oper.wp
 simp [execOp,hop,resolve,invoke,builtin,hd,hx,hr,Result.andThen]
 exact hK
section
variable (b n c i vb vc:Nat) (xs ys:List Value) (C V:Array Value) (w:World)
theorem zy2:TI Tryz.prog 94 (.agg (Array.replicate 32 (.int .u8 0))) 32 32:=z5i
theorem z10u:(Tryz.prog.info? 94).map (·.size)=some 32:=by kernel_rfl
set_option maxHeartbeats 4000000 in
set_option maxRecDepth 100000 in
theorem z108 (hi:i<n) (hroom:n+1≤c) (hc63:c≤9223372036854775807) (hvb:vb≠b) (hC:w.heap[b]? = some (.cells C 94 (0,0))) (hV:w.heap[vb]? = some (.cells V 94 (0,0)))
  (hCs:C.size=c * 32) (hxs:C.toList.take (n * 32)=xs) (hys:V.toList.take 32=ys) (hyl:ys.length=32) (h1x:∀ v∈xs,v.oneCell'=true) (h1y:∀ v∈ys,v.oneCell'=true) :
  Calls Tryz.prog 95 #[.slice (some ⟨b,0,none⟩) n c,.int .i64 i,.slice (some ⟨vb,0,none⟩) 1 vc] w fun e w' =>
   e=.returned (.slice (some ⟨b,0,none⟩) (n+1) c)∧∃ D,w'=w.drew.setRow b D∧D.size=C.size∧D.toList.take ((n+1) * 32)=xs.take (i * 32)++ys++xs.drop (i * 32):=by
 have hsz:=z10u
 have u22:Tryz.prog.underlying 46=some (.slice 94):=Tryz.underlying46
 have hcc:∀ j v,C.toList[j]? = some v→w.cell? ⟨b,j,none⟩=some v:=fun j v hj=>by
  rw [Array.getElem?_toList] at hj; unfold World.cell?; rw [hC]; exact hj
 have hcv:∀ j v,V.toList[j]? = some v→w.cell? ⟨vb,j,none⟩=some v:=fun j v hj=>by
  rw [Array.getElem?_toList] at hj; unfold World.cell?; rw [hV]; exact hj
 have hxl:xs.length=n * 32:=by rw [← hxs,List.length_take,Array.length_toList]; omega
 have hxg:∀ j v,xs[j]? = some v→C.toList[j]? = some v:=fun j v hj=>by
  rw [← hxs,List.getElem?_take] at hj; split at hj
  ·
   exact hj
  ·
   cases hj
 have hyg:∀ j v,ys[j]? = some v→V.toList[j]? = some v:=fun j v hj=>by
  rw [← hys,List.getElem?_take] at hj; split at hj
  ·
   exact hj
  ·
   cases hj
 have hVs:V.size≠0:=by
  have:ys.length≤V.size:=by rw [← hys,List.length_take,Array.length_toList]; omega
  omega
 have hov:∀ lb cb,(callFunc 122 #[.slice (some ⟨vb,0,none⟩) 1 vc,.slice (some ⟨b,(i+1) * 32,none⟩) lb cb]).run Tryz.prog w=.ok (.value (.bool false)) w:=fun lb cb=>by
  rw [run_callFunc_extern Tryz.func122 (by kernel_rfl) (by kernel_rfl) (by kernel_rfl) (e:=Extern.SlicesOverlaps.overlaps #[46,46] #[4]) (by kernel_rfl),
   Lib.run_overlaps_apart w 46 4 94 u22 32 Tryz.sizeOf94 ⟨vb,0,none⟩ ⟨b,(i+1) * 32,none⟩ 1 vc lb cb hvb 94 94 V.size C.size (by simp [World.shape?,hV]) (by simp [World.shape?,hC]) (by omega) (by simp [World.frozen?,hV]) (by simp [World.frozen?,hV])]
  rfl
 have hdl:(xs.drop (i * 32)).length=(n - i) * 32:=by rw [List.length_drop,hxl,Nat.sub_mul]
 have hmin1:Nat.min (n+1 - i) (n - i)=n - i:=by simp only [Nat.min_def]; split <;> omega
 have hcp1:∀ ty dc sc,(Builtin.copy_ #[46,46] ty #[.slice (some ⟨b,(i+1) * 32,none⟩) (n - i) dc,.slice (some ⟨b,i * 32,none⟩) (n+1 - i) sc]).run Tryz.prog w.drew =
   .ok (goInt ((n - i:Nat):Int)) (w.drew.setRow b (C.toList.take ((i+1) * 32)++xs.drop (i * 32)++C.toList.drop ((i+1) * 32+(xs.drop (i * 32)).length)).toArray):=fun ty dc sc=>by
  have e:=z12r (P:=Tryz.prog) w.drew 46 46 ty 94 b ((i+1) * 32) (n - i) dc ⟨b,i * 32,none⟩ (n+1 - i) sc C 94 (xs.drop (i * 32)) u22 hsz hC (by rw [hmin1,hdl])
   (fun j v hj=>by rw [Addr.add_lit]; exact hcc _ v (hxg _ v (by rwa [List.getElem?_drop] at hj))) (by rw [hdl,hCs]; omega) (fun v hv=>h1x v (List.mem_of_mem_drop hv))
  rw [hmin1] at e; exact e
 obtain ⟨D1,hD1⟩:∃ D1,D1=(C.toList.take ((i+1) * 32)++xs.drop (i * 32)++C.toList.drop ((i+1) * 32+(xs.drop (i * 32)).length)).toArray:=⟨_,rfl⟩
 rw [← hD1] at hcp1
 have hD1s:D1.size=C.size:=by
  rw [hD1]; simp only [List.size_toArray,List.length_append,List.length_take,List.length_drop,Array.length_toList,hxl]; omega
 obtain ⟨W1,hW1⟩:∃ W1,W1=w.drew.setRow b D1:=⟨_,rfl⟩
 have hB1:W1.heap[b]? = some (.cells D1 94 (0,0)):=by rw [hW1]; exact setRow_heap w.drew b C D1 94 (0,0) hC
 have hV1:W1.heap[vb]? = some (.cells V 94 (0,0)):=by rw [hW1,setRow_other w.drew b vb D1 hvb]; exact hV
 obtain ⟨D2,hD2⟩:∃ D2,D2=(D1.toList.take (i * 32)++ys++D1.toList.drop (i * 32+ys.length)).toArray:=⟨_,rfl⟩
 have hcp2:∀ ty dc,(Builtin.copy_ #[46,46] ty #[.slice (some ⟨b,i * 32,none⟩) (n+1 - i) dc,.slice (some ⟨vb,0,none⟩) 1 vc]).run Tryz.prog W1=.ok (goInt 1) (W1.setRow b D2):=fun ty dc=>by
  have hm:Nat.min 1 (n+1 - i)=1:=by simp only [Nat.min_def]; split <;> omega
  have e:=z12r (P:=Tryz.prog) W1 46 46 ty 94 b (i * 32) (n+1 - i) dc ⟨vb,0,none⟩ 1 vc D1 94 ys u22 hsz hB1 (by rw [hm,hyl])
   (fun j v hj=>by
    rw [Addr.add_lit,Nat.zero_add]
    have:=hyg j v hj
    rw [Array.getElem?_toList] at this
    unfold World.cell?; rw [hV1]; exact this) (by rw [hyl,hD1s,hCs]; omega) h1y
  rw [hm,← hD2] at e; exact e
 have hfin:D2.size=C.size∧D2.toList.take ((n+1) * 32)=xs.take (i * 32)++ys++xs.drop (i * 32):=by
  have t1:D1.toList.take (i * 32)=xs.take (i * 32):=by
   rw [hD1,← hxs,List.take_take]
   simp only [List.append_assoc]
   rw [List.take_append_of_le_length (by rw [List.length_take,Array.length_toList]; omega),List.take_take]
   congr 1; omega
  have t2:(D1.toList.drop ((i+1) * 32)).take ((n - i) * 32)=xs.drop (i * 32):=by
   have el:(C.toList.take ((i+1) * 32)).length=(i+1) * 32:=by rw [List.length_take,Array.length_toList]; omega
   rw [hD1]
   simp only [List.append_assoc]
   rw [List.drop_append,el,Nat.sub_self,List.drop_zero,List.drop_eq_nil_of_le (by rw [el]; omega),List.nil_append,List.take_append_of_le_length (by rw [hdl]; omega),List.take_of_length_le (by rw [hdl]; omega)]
  constructor
  ·
   rw [hD2]; simp only [List.size_toArray,List.length_append,List.length_take,List.length_drop,Array.length_toList,hyl]; omega
  ·
   rw [hD2]
   simp only [List.append_assoc]
   have el:(D1.toList.take (i * 32)).length=i * 32:=by rw [List.length_take,Array.length_toList]; omega
   rw [List.take_append,el,List.take_of_length_le (by rw [el]; omega),List.take_append,hyl,List.take_of_length_le (l:=ys) (by rw [hyl]; omega),t1,
    show i * 32+32=(i+1) * 32 by omega, show (n+1) * 32 - i * 32 - 32=(n - i) * 32 by omega,t2]
 have hz1:¬ ((1:Int)=0):=by decide
 have hz2:¬ ((i:Int)=(n:Int)):=by omega
 have hw1:IntKind.i64.wrap ((i:Int)+1)=(i:Int)+1:=by rw [IntKind.wrap_i64]; omega
 have hb1:(0:Int)≤(i:Int)+1:=by omega
 have hin:i≤n:=by omega
 have htn:((i:Int)+1).toNat=i+1:=by omega
 have hb2:¬ (c=i+1):=by omega
 have hb3:(i:Int)≤(n:Int)+1:=by omega
 have hb4:¬ (c=i):=by omega
 subst hW1
 clear hcc hcv hxg hyg hD1 hD2 hxs hys hC hV hB1 hV1 h1x h1y hdl hmin1 hxl hyl
 go_enter Tryz.func95,Tryz.ntmps95
 go_wp2_with (simp only [hov])
 go_region_law (refine znm rfl _ _ 46 46 rfl (.slice (some ⟨b,(i+1) * 32,none⟩) (n - i) (c - (i+1))) (.slice (some ⟨b,i * 32,none⟩) (n+1 - i) (c - i)) (by simp [Act.eval,Act.put]) (by simp [Act.eval,Act.put]) (hcp1 3 (c - (i+1)) (c - i)) ?_)
 go_wp2_with (at_builtin; refine zkg _ rfl _ _ 46 46 rfl _ _ rfl rfl (hcp2 _ _) ?_)
 go_ret
 exact ⟨rfl,D2, by rw [setRow_setRow],hfin⟩
set_option maxHeartbeats 4000000 in
set_option maxRecDepth 100000 in
theorem z12d (hi:i<n) (hnc:n≤c) (hroom:c<n+1) (hn:n≤1000000) (hvb:vb≠b) (hC:w.heap[b]? = some (.cells C 94 (0,0))) (hV:w.heap[vb]? = some (.cells V 94 (0,0)))
  (hCs:C.size=c * 32) (hxs:C.toList.take (n * 32)=xs) (hys:V.toList.take 32=ys) (hyl:ys.length=32) (h1x:∀ v∈xs,v.oneCell'=true) (h1y:∀ v∈ys,v.oneCell'=true) :
  Calls Tryz.prog 95 #[.slice (some ⟨b,0,none⟩) n c,.int .i64 i,.slice (some ⟨vb,0,none⟩) 1 vc] w fun e w' =>
   ∃ G,e=.returned (.slice (some ⟨w.heap.size,0,none⟩) (n+1) G)∧n+1≤G∧G≤maxLen∧∃ D,w'.heap[w.heap.size]? = some (.cells D 94 (0,0))∧w.grownBy w' none∧D.size=G * 32∧D.toList.take ((n+1) * 32)=xs.take (i * 32)++ys++xs.drop (i * 32):=by
 have hsz:=z10u
 have u22:Tryz.prog.underlying 46=some (.slice 94):=Tryz.underlying46
 have u3:Tryz.prog.underlying 3=some (.int .i64):=Tryz.underlying3
 have hcn:c=n:=by omega
 subst hcn
 have hcc:∀ j v,C.toList[j]? = some v→w.cell? ⟨b,j,none⟩=some v:=fun j v hj=>by
  rw [Array.getElem?_toList] at hj; unfold World.cell?; rw [hC]; exact hj
 have hxl:xs.length=c * 32:=by rw [← hxs,List.length_take,Array.length_toList]; omega
 have hxg:∀ j v,xs[j]? = some v→C.toList[j]? = some v:=fun j v hj=>by
  rw [← hxs,List.getElem?_take] at hj; split at hj
  ·
   exact hj
  ·
   cases hj
 have hyg:∀ j v,ys[j]? = some v→V.toList[j]? = some v:=fun j v hj=>by
  rw [← hys,List.getElem?_take] at hj; split at hj
  ·
   exact hj
  ·
   cases hj
 have hbw:b<w.heap.size:=(Array.getElem?_eq_some_iff.1 hC).1
 have hvw:vb<w.heap.size:=(Array.getElem?_eq_some_iff.1 hV).1
 have hkk:(c:Int)+1 - (i:Int)=((c+1 - i:Nat):Int):=by omega
 obtain ⟨i0,hi0,hz0,hzs,hzb⟩:=zy2
 have hold:(Builtin.firstCells i0.size i (.slice (some ⟨b,0,none⟩) i c)).run Tryz.prog w.drew=.ok (xs.take (i * 32)).toArray w.drew:=by
  rw [hzs]
  exact run_firstCells_some w.drew 32 i ⟨b,0,none⟩ i c (xs.take (i * 32)) (by rw [List.length_take]; omega) (fun j v hj=>by
   rw [Addr.add_lit,Nat.zero_add]
   rw [List.getElem?_take] at hj
   split at hj
   ·
    exact hcc j v (hxg j v hj)
   ·
    cases hj)
 obtain ⟨G,hG⟩:∃ G,G=grownCap w (c+1) c 94:=⟨_,rfl⟩
 obtain ⟨ROW,hROW⟩:∃ ROW:Array Value,ROW=(xs.take (i * 32)).toArray++Builtin.zeroCells (Array.replicate 32 (.int .u8 0)) (c+1 - i)++Builtin.zeroCells (Array.replicate 32 (.int .u8 0)) (G - (c+1)):=⟨_,rfl⟩
 have hrz:∀ ty,(Builtin.append_ #[46,3] ty #[.slice (some ⟨b,0,none⟩) i c,.int .i64 ((c:Int)+1 - (i:Int))]).run Tryz.prog w =
   .ok (.slice (some ⟨w.heap.size,0,none⟩) (c+1) G) (w.drew.alloc (.cells ROW 94)):=fun ty=>by
  have h:=Lib.run_append_grow_zeros w 46 3 ty 94 i0 _ .i64 .i64 u22 u3 hi0 hz0 (some ⟨b,0,none⟩) i c (xs.take (i * 32)) hold (c+1 - i) (by omega) (by omega) (by omega) (by omega) (by rw [hzb]; omega) (by rw [hzb, show i+(c+1 - i)=c+1 by omega]; exact growslice_fits (by omega) (by omega))
  rw [show i+(c+1 - i)=c+1 by omega] at h
  rw [hkk,hROW,hG]
  exact h
 have hGn:c+1≤G:=by rw [hG]; exact grownCap_ge w _ _ _
 have hGm:G≤maxLen:=by rw [hG]; exact grownCap_le_maxLen w (c+1) c 94 (by unfold maxLen; omega)
 have hG63:G≤9223372036854775807:=by unfold maxLen at hGm; omega
 have hRs:ROW.size=G * 32:=by
  rw [hROW]; simp only [Array.size_append,List.size_toArray,List.length_take,size_zeroCells,Array.size_replicate,hxl]; omega
 have hRt:ROW.toList.take (i * 32)=xs.take (i * 32):=by
  rw [hROW]; simp only [Array.toList_append,List.append_assoc]
  rw [List.take_append_of_le_length (by rw [List.length_take]; omega),List.take_take]; congr 1; omega
 obtain ⟨D1,hD1⟩:∃ D1,D1=(ROW.toList.take (i * 32)++ys++ROW.toList.drop (i * 32+ys.length)).toArray:=⟨_,rfl⟩
 have hD1s:D1.size=G * 32:=by
  rw [hD1]; simp only [List.size_toArray,List.length_append,List.length_take,List.length_drop,Array.length_toList,hyl]; omega
 obtain ⟨D2,hD2⟩:∃ D2,D2=(D1.toList.take ((i+1) * 32)++xs.drop (i * 32)++D1.toList.drop ((i+1) * 32+(xs.drop (i * 32)).length)).toArray:=⟨_,rfl⟩
 have hdl:(xs.drop (i * 32)).length=(c - i) * 32:=by rw [List.length_drop,hxl,Nat.sub_mul]
 have hD2s:D2.size=G * 32:=by
  rw [hD2]; simp only [List.size_toArray,List.length_append,List.length_take,List.length_drop,Array.length_toList,hxl]; omega
 have hfin:D2.toList.take ((c+1) * 32)=xs.take (i * 32)++ys++xs.drop (i * 32):=by
  have e1:(ROW.toList.take (i * 32)).length=i * 32:=by rw [List.length_take,Array.length_toList]; omega
  have e2:D1.toList.take ((i+1) * 32)=xs.take (i * 32)++ys:=by
   rw [hD1]; simp only [List.append_assoc]
   rw [List.take_append,e1,List.take_of_length_le (by rw [e1]; omega),List.take_append_of_le_length (by rw [hyl]; omega),List.take_of_length_le (l:=ys) (by rw [hyl]; omega),hRt]
  have e3:(D1.toList.take ((i+1) * 32)).length=(i+1) * 32:=by rw [List.length_take,Array.length_toList]; omega
  rw [hD2]; simp only [List.append_assoc]
  rw [List.take_append,e3,List.take_of_length_le (by rw [e3]; omega),List.take_append_of_le_length (by rw [hdl]; omega),List.take_of_length_le (l:=xs.drop (i * 32)) (by rw [hdl]; omega),e2,List.append_assoc]
 have hcpA:∀ (W:World),W.heap=w.heap.push (.cells ROW 94)→∀ ty dc,(Builtin.copy_ #[46,46] ty #[.slice (some ⟨w.heap.size,i * 32,none⟩) (c+1 - i) dc,.slice (some ⟨vb,0,none⟩) 1 vc]).run Tryz.prog W=.ok (goInt 1) (W.setRow w.heap.size D1):=fun W hW ty dc=>by
  have hm:Nat.min 1 (c+1 - i)=1:=by simp only [Nat.min_def]; split <;> omega
  have hN:W.heap[w.heap.size]? = some (.cells ROW 94 (0,0)):=by rw [hW,Array.getElem?_push_size]
  have hV1:W.heap[vb]? = some (.cells V 94 (0,0)):=by rw [hW,Array.getElem?_push_lt hvw]; rw [← hV,Array.getElem?_eq_getElem hvw]
  have e:=z12r (P:=Tryz.prog) W 46 46 ty 94 w.heap.size (i * 32) (c+1 - i) dc ⟨vb,0,none⟩ 1 vc ROW 94 ys u22 hsz hN (by rw [hm,hyl])
   (fun j v hj=>by
    rw [Addr.add_lit,Nat.zero_add]
    have:=hyg j v hj
    rw [Array.getElem?_toList] at this
    unfold World.cell?; rw [hV1]; exact this) (by rw [hyl,hRs]; omega) h1y
  rw [hm,← hD1] at e; exact e
 have hcpB:∀ (W W0:World),W0.heap=w.heap.push (.cells ROW 94)→W.heap=(W0.setRow w.heap.size D1).heap→∀ ty dc sc,(Builtin.copy_ #[46,46] ty #[.slice (some ⟨w.heap.size,(i+1) * 32,none⟩) (c - i) dc,.slice (some ⟨b,i * 32,none⟩) (c - i) sc]).run Tryz.prog W=.ok (goInt ((c - i:Nat):Int)) (W.setRow w.heap.size D2):=fun W W0 hW0 hW ty dc sc=>by
  have hm:Nat.min (c - i) (c - i)=c - i:=Nat.min_self _
  have hN:W.heap[w.heap.size]? = some (.cells D1 94 (0,0)):=by rw [hW]; exact setRow_heap W0 w.heap.size ROW D1 94 (0,0) (by rw [hW0,Array.getElem?_push_size])
  have hB1:W.heap[b]? = some (.cells C 94 (0,0)):=by
   rw [hW,setRow_other W0 w.heap.size b D1 (by omega),hW0,Array.getElem?_push_lt hbw,← hC,Array.getElem?_eq_getElem hbw]
  have e:=z12r (P:=Tryz.prog) W 46 46 ty 94 w.heap.size ((i+1) * 32) (c - i) dc ⟨b,i * 32,none⟩ (c - i) sc D1 94 (xs.drop (i * 32)) u22 hsz hN (by rw [hm,hdl])
   (fun j v hj=>by
    rw [Addr.add_lit]
    have:=hxg _ v (by rwa [List.getElem?_drop] at hj)
    rw [Array.getElem?_toList] at this
    unfold World.cell?; rw [hB1]; exact this) (by rw [hdl,hD1s]; omega) (fun v hv=>h1x v (List.mem_of_mem_drop hv))
  rw [hm,← hD2] at e; exact e
 have hz1:¬ ((1:Int)=0):=by decide
 have hz2:¬ ((i:Int)=(c:Int)):=by omega
 have hz3:(c:Int)<(c:Int)+1:=by omega
 have hw1:IntKind.i64.wrap ((i:Int)+1)=(i:Int)+1:=by rw [IntKind.wrap_i64]; omega
 have hb1:(0:Int)≤(i:Int)+1:=by omega
 have hin:i≤c:=by omega
 have htn:((i:Int)+1).toNat=i+1:=by omega
 have hGi:¬ (G=i):=by omega
 have hGim:¬ (G=i+1):=by omega
 have hci:¬ (c=i):=by omega
 have hb3:(i:Int)≤(c:Int):=by omega
 have hE1:((w.alloc (.cells ROW 94)).drew).heap=w.heap.push (.cells ROW 94):=rfl
 have hF1:(((w.alloc (.cells ROW 94)).drew.setRow w.heap.size D1).drew).heap=(((w.alloc (.cells ROW 94)).drew).setRow w.heap.size D1).heap:=rfl
 clear hROW hold hG hRt hD1 hD2 hxs hys hC hV h1x h1y hdl hxl hyl hcc hxg hyg hi0 hz0 hzs hzb hkk hnc hroom
 go_enter Tryz.func95,Tryz.ntmps95
 go_wp2_with (first
  | (at_builtin; refine Lib.wpList_append_run _ rfl _ _ _ _ rfl _ _ rfl rfl _ _ (hrz _) ?_)
  | (at_builtin; refine zkg _ rfl _ _ 46 46 rfl _ _ rfl rfl (hcpA _ hE1 _ _) ?_))
 go_region_law (refine znm rfl _ _ 46 46 rfl (.slice (some ⟨w.heap.size,(i+1) * 32,none⟩) (c - i) (G - (i+1))) (.slice (some ⟨b,i * 32,none⟩) (c - i) (c - i)) (by simp [Act.eval,Act.put]) (by simp [Act.eval,Act.put]) (hcpB _ _ hE1 hF1 3 (G - (i+1)) (c - i)) ?_)
 go_wp2
 go_ret
 refine ⟨G,rfl,hGn,hGm,D2,?_,⟨rfl,rfl,rfl,?_, fun k hk _=>?_⟩,hD2s,hfin⟩
 ·
  exact setRow_heap _ w.heap.size D1 D2 94 (0,0) (setRow_heap ((w.alloc (.cells ROW 94)).drew) w.heap.size ROW D1 94 (0,0) (by rw [hE1,Array.getElem?_push_size]))
 ·
  rw [setRow_size]; show _≤((w.alloc (.cells ROW 94)).drew.setRow w.heap.size D1).heap.size; rw [setRow_size,hE1,Array.size_push]; omega
 ·
  rw [setRow_other _ w.heap.size k D2 (by omega)]; show ((w.alloc (.cells ROW 94)).drew.setRow w.heap.size D1).heap[k]? = _
  rw [setRow_other _ w.heap.size k D1 (by omega),hE1,Array.getElem?_push_lt hk,Array.getElem?_eq_getElem hk]
set_option maxHeartbeats 4000000 in
set_option maxRecDepth 100000 in
theorem z16a (p0 p1:Value) (h0:w.ownsRow 0 94 32 p0 n xs) (h1:w.ownsRow 0 94 32 p1 1 ys) (hn:n≤1000000) (h1y:∀ v∈ys,v.oneCell'=true) :
  Calls Tryz.prog 95 #[p0,.int .i64 n,p1] w fun e w'=>∃ v',e=.returned v'∧w'.ownsRow 0 94 32 v' (n+1) (xs++ys)∧w.grownBy w' p0.ownBlock∧∀ b,v'.ownBlock=some b→p0.ownBlock=some b∨w.heap.size≤b:=by
 have u22:Tryz.prog.underlying 46=some (.slice 94):=Tryz.underlying46
 obtain ⟨p,c,rfl⟩:=z4a h0
 obtain ⟨q,d,rfl⟩:=z4a h1
 obtain ⟨p',c',w',hrun,ho,hg,hs⟩:=zis (P:=Tryz.prog) (rt:=46) (w:=w) u22 zy2 (by simp [Value.cells]) (by decide) h0 (Rd.of_own h1) h1y (by omega) (by omega) (Nat.zero_le _)
 have hz1:¬ ((1:Int)=0):=by decide
 have hnc:n≤c:=by
  rcases h0.2 with ⟨e,rfl⟩ | ⟨g,cap,cur,e,_,_,h,_⟩
  ·
   omega
  ·
   simp only [Value.slice.injEq] at e; omega
 have hc63:c≤9223372036854775807:=by
  rcases h0.2 with ⟨e,rfl⟩ | ⟨g,cap,cur,e,_,_,_,h,_⟩
  ·
   simp only [Value.slice.injEq] at e; omega
  ·
   simp only [Value.slice.injEq] at e; unfold maxLen at h; omega
 have hin:n≤n:=Nat.le_refl _
 have hp0:p=none→n=0∧c=0:=fun e=>by
  rcases h0.2 with ⟨e',rfl⟩ | ⟨g,cap,cur,e',_⟩
  ·
   simp only [Value.slice.injEq] at e'; omega
  ·
   rw [e] at e'; simp at e'
 clear h0 h1 h1y
 go_enter Tryz.func95,Tryz.ntmps95
 cases p with
 | none =>
  obtain ⟨rfl,rfl⟩:=hp0 rfl
  clear hp0
  go_wp2_with (at_builtin; refine Lib.wpList_append_run _ rfl _ _ _ _ rfl _ _ rfl rfl _ _ hrun ?_)
  go_ret
  exact ⟨_,rfl,ho,hg,hs⟩
 | some a =>
  clear hp0
  obtain ⟨ab,ao,asp⟩:=a
  go_wp2_with (at_builtin; refine Lib.wpList_append_run _ rfl _ _ _ _ rfl _ _ rfl rfl _ _ hrun ?_)
  all_goals (go_ret; exact ⟨_,rfl,ho,hg,hs⟩)
end
end
section
open Go Go.RowKit
theorem relB {S S':Blk} {w w':World}:∀ {l:List UInt8} {cs:List Value},z68 u8R S w cs l→z68 u8R S' w' cs l
 | [],cs,h=>h
 | x::l,cs,h=>by
  obtain ⟨c,d,rfl,h1,h2⟩:=h
  exact ⟨c,d,rfl,h1,relB h2⟩
theorem relD {S S':Blk} {w w':World}:∀ {l:List V3} {cs:List Value},z68 (z2o 32 u8R) S w cs l→z68 (z2o 32 u8R) S' w' cs l
 | [],cs,h=>h
 | x::l,cs,h=>by
  obtain ⟨c,d,rfl,h1,h2⟩:=h
  exact ⟨c,d,rfl,relB h1,relD h2⟩
def insF (c0:List V3) (i:Int) (c1:List V3):Option (List V3) :=
 chk (0≤i∧i.toNat≤c0.length∧c0.length≤1000000∧c1.length=1) >>= fun _=>some (c0.take i.toNat++c1++c0.drop i.toNat)
theorem z14q (p0 p1:Value) (n i:Nat) (xs ys:List Value) (w:World) (hi:i≤n) (h0:w.ownsRow 0 94 32 p0 n xs) (h1:w.ownsRow 0 94 32 p1 1 ys) (hsep:∀ b,p0.ownBlock=some b→p1.ownBlock≠some b) (hn:n≤1000000)
  (h1x:∀ v∈xs,v.oneCell'=true) (h1y:∀ v∈ys,v.oneCell'=true) :
  Calls Tryz.prog 95 #[p0,.int .i64 i,p1] w fun e w'=>∃ v',e=.returned v'∧w'.ownsRow 0 94 32 v' (n+1) (xs.take (i * 32)++ys++xs.drop (i * 32))∧w.grownBy w' p0.ownBlock∧∀ b,v'.ownBlock=some b→p0.ownBlock=some b∨w.heap.size≤b:=by
 have hxl:=h0.1
 by_cases hin:i=n
 ·
  subst hin
  refine (z16a i xs ys w p0 p1 h0 h1 hn h1y).mono fun e w' ⟨v',a,b,c,d⟩=>⟨v',a,?_,c,d⟩
  rw [List.take_of_length_le (by omega),List.drop_eq_nil_of_le (by omega),List.append_nil]
  exact b
 ·
  rcases h0.2 with ⟨rfl,rfl⟩ | ⟨b,c,C,rfl,-,hC,hnc,hcm,hCs,hxs⟩
  ·
   omega
  rcases h1.2 with ⟨rfl,e⟩ | ⟨vb,vc,V,rfl,-,hV,-,-,hVs,hys⟩
  ·
   omega
  have hvb:vb≠b:=fun e=>hsep b rfl (by rw [e]; rfl)
  have hyl:ys.length=32:=by have:=h1.1; omega
  have hlen:(xs.take (i * 32)++ys++xs.drop (i * 32)).length=(n+1) * 32:=by
   simp only [List.length_append,List.length_take,List.length_drop,hyl]; omega
  by_cases hroom:n+1≤c
  ·
   refine (z108 b n c i vb vc xs ys C V w (by omega) hroom (by unfold maxLen at hcm; omega) hvb hC hV hCs hxs (by simpa using hys) hyl h1x h1y).mono fun e w' ⟨a,D,a2,a3,a4⟩=>⟨_,a,?_,?_, fun b' hb'=>.inl hb'⟩
   ·
    refine ⟨hlen,.inr ⟨b,c,D,rfl,Nat.zero_le _,?_,hroom,hcm,a3.trans hCs,a4⟩⟩
    rw [a2]; exact setRow_heap w.drew b C D 94 (0,0) hC
   ·
    rw [a2]
    refine ⟨rfl,rfl,rfl,?_, fun k hk hne=>?_⟩
    ·
     rw [setRow_size]; exact Nat.le_refl _
    ·
     rw [setRow_other w.drew b k D (fun e=>hne (by rw [e]; rfl))]; rfl
  ·
   refine (z12d b n c i vb vc xs ys C V w (by omega) hnc (by omega) hn hvb hC hV hCs hxs (by simpa using hys) hyl h1x h1y).mono fun e w' ⟨G,a,g1,g2,D,a1,a2,a3,a4⟩=>⟨_,a,?_,?_, fun b' hb'=>.inr ?_⟩
   ·
    exact ⟨hlen,.inr ⟨w.heap.size,G,D,rfl,Nat.zero_le _,a1,g1,g2,a3,a4⟩⟩
   ·
    exact ⟨a2.os,a2.tape,a2.output,a2.size, fun k hk _=>a2.block k hk (by simp)⟩
   ·
    simp only [Value.ownBlock,Option.some.injEq] at hb'; omega
theorem z145 (p0 p1:Value) (c0 c1:List V3) (i:Int):z1w Tryz.prog 95 [.val p0,.rd z07 i,.val p1] [(1,some (p0,.list (z2o 32 u8R) 94 c0)),(2,some (p1,.list (z2o 32 u8R) 94 c1))] (insF c0 i c1)
  (fun r nv=>⟨[.val (nv 0)],[(100,some (nv 0,.list (z2o 32 u8R) 94 r))]⟩):=by
 intro r hr H vs w hvs hres
 have hb:(0≤i∧i.toNat≤c0.length∧c0.length≤1000000∧c1.length=1)∧r=c0.take i.toNat++c1++c0.drop i.toNat:=by
  unfold insF chk at hr
  split at hr
  ·
   rename_i h; simp at hr; exact ⟨h, by rw [← hr,List.append_assoc]⟩
  ·
   simp at hr
 obtain ⟨⟨hi0,hi1,hn,hc1⟩,rfl⟩:=hb
 match vs,hvs with
 | [v0,v1,v2],hvs =>
 obtain ⟨h0,h1,h2,_⟩:=hvs
 have e0:v0=p0:=h0.1
 have e2:v2=p1:=h2.1
 have e1:v1=.int .i64 i:=z4c h1
 subst e0; subst e2; subst e1
 obtain ⟨j,rfl⟩:∃ j:Nat,i=(j:Int):=⟨i.toNat, by omega⟩
 simp only [Int.toNat_natCast] at hi1 ⊢
 obtain ⟨xs,x1,x2⟩:=z7q (hres.conts 1 v0 _ rfl)
 obtain ⟨ys,y1,y2⟩:=z7q (hres.conts 2 v2 _ rfl)
 rw [hc1] at y1
 have hsep:∀ b,v0.ownBlock=some b→v2.ownBlock≠some b:=fun b hb hb2=>by
  obtain ⟨p,c,rfl⟩:=z4a x1
  obtain ⟨q,d,rfl⟩:=z4a y1
  exact hres.excl 1 _ _ 2 _ _ rfl rfl (by decide) b (by rw [z8i]; exact hb) (by rw [z8i]; exact hb2)
 refine (z14q v0 v2 c0.length j xs ys w hi1 x1 y1 hsep hn x2.one y2.one).mono fun e w' ⟨v',he,hw,hg,hs⟩=>?_
 have only:∀ r v c (q:z37),lr [(100,some (v',q))] r=some (v,c)→r=100∧v=v'∧c=q:=fun r v c q h=>by
  rw [z13] at h
  split at h
  ·
   rename_i e; cases h; exact ⟨e.symm,rfl,rfl⟩
  ·
   simp [lr,lk] at h
 have hlen:(c0.take j++c1++c0.drop j).length=c0.length+1:=by
  simp only [List.length_append,List.length_take,List.length_drop,hc1]; omega
 obtain ⟨p',c',rfl⟩:=z4a hw
 refine ⟨fun _=>.slice p' (c0.length+1) c',[.slice p' (c0.length+1) c'],he,⟨⟨rfl,rfl⟩,trivial⟩, fun r v c h=>?_, fun r v c r' v2' c2' h h' hne=>?_, fun r v c h b hb=>?_,hg.os,hg.tape,hg.output,hg.size, fun k hk=>?_⟩
 ·
  obtain ⟨rfl,rfl,rfl⟩:=only _ _ _ _ h
  refine zj9 (B:=0) (xs:=xs.take (j * 32)++ys++xs.drop (j * 32)) (by rw [hlen]; exact hw) ?_
  exact ((relD (x2.take j)).append (relD y2)).append (relD (x2.drop j))
 ·
  exact absurd ((only _ _ _ _ h).1.trans (only _ _ _ _ h').1.symm) hne
 ·
  obtain ⟨rfl,rfl,rfl⟩:=only _ _ _ _ h
  rw [z8i] at hb
  rcases hs b hb with h | h
  ·
   exact .inr ⟨1,_,_,rfl, by obtain ⟨p,c,rfl⟩:=z4a x1; rw [z8i]; exact h⟩
  ·
   exact .inl h
 ·
  refine hg.block k hk.1 fun e=>hk.2 ⟨1,_,_,rfl,?_⟩
  obtain ⟨p,c,rfl⟩:=z4a x1; rw [z8i]; exact e.symm
end
section
open Go Go.RowKit
set_option maxRecDepth 100000
def z7f (a0:List z00) (s2:Int):Option (Sum (Sum Int Unit) Int) :=
 if decide (s2<(a0.length:Int)) then
  idx a0 s2 >>= fun x4 =>
  z97 x4 >>= fun r7 =>
  if r7 != 0 then
   some (.inl (.inl r7))
  else
   some (.inr (w64 (s2+1)))
 else
  some (.inl (.inr ()))
def zgh (a0:List z00):Option (Int) :=
 z3g (iter (z7f a0) 0) fun s1 =>
 some 0
theorem zoz (a0:List z00):z1w Tryz.prog 75 [.rd (z02 z01) a0] [zG1] (zgh a0) (fun r nv=>⟨[.rd z07 r],[(1001,some (.bool true,.glob 1 (z2o 64 z0r) z54))]⟩):=by
 refine z2l 18 Tryz.func75 Z Z Z fun H w=>?_
 refine gSR<|Zb Z<|z42 (fun (s1:Unit) aa ww=>Sta (ctx 18 H [zG1] w) [] [zG1] aa ww) ?_ (fun s1=>?_)
 ·
  refine gSR<|Zm Z<|Zq (z2w Z .rd Z tu22)<|Zm Z<|Zn<|z1h (fun (s2:Int) aa ww=>Sta (ctx 18 H [zG1] w) [(6,.rd (z02 z01) a0),(7,.rd z07 (a0.length:Int)),(8,.rd z07 s2)] [zG1] aa ww) (fun aa ww h=>Zu h [1001]) (fun s2=>?_)
  refine gSR<|Zq (I.lss Z Z)<|Zn<|z0m<|gIf Z Z (fun h3=>?_) (fun h3=>?_)
  ·
   refine Zt<|z0m<|z43<|gSR<|z0w fun x4 h5=>Zq (ixR Z Z h5 tu22 z3c Z)<|Zq (ldR Z z7t)<|Eb Z (z5w 1100 z3c (ZrE.nilS (ZrE.nilS ZrE.nil))) fun v6=>z8t aZ [.rd (z02 aZ) [],.val (.slice none 0 0)] 1100 [] [.val (.slice none 0 0)] Z Z Z<|z8t z03 [.rd (z02 aZ) [],.rd (z02 z03) []] 1100 [.rd (z02 aZ) []] [] Z Z Z<|zbb (R:=z01) (⟨[],[]⟩:z00) 1100 Z (Sp.via (Sp.prod (Sp.prod Sp.unit)))<|Es (sto 1100 Z Z fH Z z3c)<|Zn<|gSR<|Zq (ld 1100 Z Z fH z7t Z)<|Zc [1001] [] Tryz.func55 Z (zfo _) fun r7 n8=>Zb Z<|gSR<|Zm Z<|Zq (I.neq Z Z)<|Zj Z (fun h9=>?_) (fun h9=>?_)
   ·
    refine gSR<|Zm Z<|Zb Z<|z0g<|z2j<|z0l<|z3e<|z2z<|Ze [] [1001] Z
   ·
    refine z24<|z2t<|z0j<|z1y<|Zq (I.add Z Z)<|Zm Z<|z1k<|z1a (fun aa ww h=>Zu h [1001])
  ·
   refine z1f<|z0u<|z0v<|z3k (fun aa ww h=>Zu h [1001])
 ·
  refine gSR<|Zb Z<|z0g<|Ze [] [1001] Z
def z20 (a0:List V3) (a1:List V3) (s3:Int):Option (Sum (Sum Bool Unit) Int) :=
 if decide (s3<(a0.length:Int)) then
  idx a0 s3 >>= fun x5 =>
  idx a1 s3 >>= fun x7 =>
  if !decide (x5=x7) then
   some (.inl (.inl false))
  else
   some (.inr (w64 (s3+1)))
 else
  some (.inl (.inr ()))
def z1m (a0:List V3) (a1:List V3):Option (Bool) :=
 if (a0.length:Int) != (a1.length:Int) then
  some false
 else
  z3g (iter (z20 a0 a1) 0) fun s2 =>
  some true
theorem z56 (a0:List V3) (a1:List V3):z1w Tryz.prog 48 [.rd (z02 aZ) a0,.rd (z02 aZ) a1] [] (z1m a0 a1) (fun r nv=>⟨[.rd z0p r],[]⟩):=by
 refine z2l 26 Tryz.func48 Z Z Z fun H w=>?_
 refine gSR<|Zb Z<|z0m<|gSR<|Zm Z<|Zq (z2w Z .rd Z tu46)<|Zm Z<|Zq (z2w Z .rd Z tu46)<|Zq (I.neq Z Z)<|Zj Z (fun h1=>?_) (fun h1=>?_)
 ·
  refine gSR<|Zb Z<|z0g<|z0l<|Ze [] [] Z
 ·
  refine Zt<|z42 (fun (s2:Unit) aa ww=>Sta (ctx 26 H [] w) [] [] aa ww) ?_ (fun s2=>?_)
  ·
   refine gSR<|Zm Z<|Zq (z2w Z .rd Z tu46)<|Zm Z<|Zn<|z1h (fun (s3:Int) aa ww=>Sta (ctx 26 H [] w) [(0,.rd (z02 aZ) a0),(1,.rd (z02 aZ) a1),(12,.rd z07 (a0.length:Int)),(13,.rd z07 s3)] [] aa ww) (fun aa ww h=>Zu h []) (fun s3=>?_)
   refine gSR<|Zq (I.lss Z Z)<|Zn<|z0m<|gIf Z Z (fun h4=>?_) (fun h4=>?_)
   ·
    refine Zt<|z0m<|z43<|gSR<|Zm Z<|Zb Z<|z0m<|zfa mixed (by kernel_rfl)<|Rq Z (mv Z)<|Rq Z (mv Z)<|z5h fun x5 h6=>Rq Z (ixR Z Z h6 tu46 z5i Z)<|Rq Z (ldR Z z8z)<|Rq Z (mv Z)<|Rq Z (mv Z)<|z5h fun x7 h8=>Rq Z (ixR Z Z h8 tu46 z5i Z)<|Rq Z (ldR Z z8z)<|Rq Z (neA Z Z eq94 Z Z gq94)<|zpu<|z0j<|gIf Z Z (fun h9=>?_) (fun h9=>?_)
    ·
     refine gSR<|Zb Z<|z0g<|z2j<|z0l<|z3e<|z2z<|Ze [] [] Z
    ·
     refine z24<|z2t<|z0j<|z1y<|Zq (I.add Z Z)<|Zm Z<|z1k<|z1a (fun aa ww h=>Zu h [])
   ·
    refine z1f<|z0u<|z0v<|z3k (fun aa ww h=>Zu h [])
  ·
   refine gSR<|Zb Z<|z0g<|Ze [] [] Z
def zl6 (a0:z04) (a1:z04):Option (Bool) :=
 if a0.Author==a1.Author then
  if a0.Stamp==a1.Stamp then
   if decide (a0.Act=a1.Act) then
    if decide (a0.Sig=a1.Sig) then
     z1m a0.Preds a1.Preds >>= fun r7 =>
     some r7
    else
     some false
   else
    some false
  else
   some false
 else
  some false
theorem zsd (a0:z04) (a1:z04):z1w Tryz.prog 77 [.rd z03 a0,.rd z03 a1] [] (zl6 a0 a1) (fun r nv=>⟨[.rd z0p r],[]⟩):=by
 refine z2l 38 Tryz.func77 Z Z Z fun H w=>?_
 refine gSR<|Eb Z (bx 1 Z) fun v1=>Eb Z (bx 2 Z) fun v2=>Zb Z<|gSR<|Zq (faB 1 Z Z Tryz.underlying86 Z (by exact z5e))<|Zq (ld 1 Z Z (fP (z23 _)) z7w Z)<|Zq (faB 2 Z Z Tryz.underlying86 Z (by exact z5e))<|Zq (ld 2 Z Z (fP (z23 _)) z7w Z)<|Zq (W.eql Z Z)<|Zm Z<|z15 10 Z (fun h3=>?_) (fun h3=>?_)
 ·
  refine lKn 9 Z h3<|z0y Zx Z Z (faB 1 Z Z Tryz.underlying86 Z (by exact zlq))<|z0y Zx Z Z (ld 1 Z Z (fP (z2r _)) znt Z)<|z0y Zx Z Z (faB 2 Z Z Tryz.underlying86 Z (by exact zlq))<|z0y Zx Z Z (ld 2 Z Z (fP (z2r _)) znt Z)<|z0y Zx Z Z (U.eql Z Z)<|Zq (pkT Z Z)<|Zm Z<|z15 17 Z (fun h4=>?_) (fun h4=>?_)
  ·
   refine lKn 15 Z h4<|lKn 16 Z h4<|z0y Zx Z Z (faB 1 Z Z Tryz.underlying86 Z (by exact zks))<|z0y Zx Z Z (ld 1 Z Z (fP (z1e _)) ty82 Z)<|z0y Zx Z Z (faB 2 Z Z Tryz.underlying86 Z (by exact zks))<|z0y Zx Z Z (ld 2 Z Z (fP (z1e _)) ty82 Z)<|z0y Zx Z Z (eqA Z Z eq82 Z Z gq82)<|Zq (pkT Z Z)<|Zm Z<|z15 24 Z (fun h5=>?_) (fun h5=>?_)
   ·
    refine lKn 22 Z h5<|lKn 23 Z h5<|z0y Zx Z Z (faB 1 Z Z Tryz.underlying86 Z (by exact zjr))<|z0y Zx Z Z (ld 1 Z Z (fP (z1x _)) ty84 Z)<|z0y Zx Z Z (faB 2 Z Z Tryz.underlying86 Z (by exact zjr))<|z0y Zx Z Z (ld 2 Z Z (fP (z1x _)) ty84 Z)<|z0y Zx Z Z (eqA Z Z eq84 Z Z gq84)<|Zq (pkT Z Z)<|Zm Z<|z15 31 Z (fun h6=>?_) (fun h6=>?_)
    ·
     refine lKn 29 Z h6<|lKn 30 Z h6<|z0y Zx Z Z (faB 1 Z Z Tryz.underlying86 Z (by exact z8d))<|z0y Zx Z Z (ld 1 Z Z (fP (z0z _)) z9w Z)<|z0y Zx Z Z (faB 2 Z Z Tryz.underlying86 Z (by exact z8d))<|z0y Zx Z Z (ld 2 Z Z (fP (z0z _)) z9w Z)<|zdo [] [] Zx Z Tryz.func48 Z Z (z56 _ _) (Y2 Z Z) rN fun r7 n8=>Zq (pkT Z Z)<|Zb Z<|z0g<|Ze [] [] Z
    ·
     refine lKn 29 Z h6<|lKn 30 Z h6<|Zk Z<|Zk Z<|Zk Z<|Zk Z<|Zk Z<|Zq (pkF Z Z)<|Zb Z<|z0g<|Ze [] [] Z
   ·
    refine lKn 22 Z h5<|lKn 23 Z h5<|Zk Z<|Zk Z<|Zk Z<|Zk Z<|Zk Z<|Zq (pkF Z Z)<|Zm Z<|Zk Z<|Zk Z<|Zk Z<|Zk Z<|Zk Z<|Zq (pkF Z Z)<|Zb Z<|z0g<|Ze [] [] Z
  ·
   refine lKn 15 Z h4<|lKn 16 Z h4<|Zk Z<|Zk Z<|Zk Z<|Zk Z<|Zk Z<|Zq (pkF Z Z)<|Zm Z<|Zk Z<|Zk Z<|Zk Z<|Zk Z<|Zk Z<|Zq (pkF Z Z)<|Zm Z<|Zk Z<|Zk Z<|Zk Z<|Zk Z<|Zk Z<|Zq (pkF Z Z)<|Zb Z<|z0g<|Ze [] [] Z
 ·
  refine lKn 9 Z h3<|Zk Z<|Zk Z<|Zk Z<|Zk Z<|Zk Z<|Zq (pkF Z Z)<|Zm Z<|Zk Z<|Zk Z<|Zk Z<|Zk Z<|Zk Z<|Zq (pkF Z Z)<|Zm Z<|Zk Z<|Zk Z<|Zk Z<|Zk Z<|Zk Z<|Zq (pkF Z Z)<|Zm Z<|Zk Z<|Zk Z<|Zk Z<|Zk Z<|Zk Z<|Zq (pkF Z Z)<|Zb Z<|z0g<|Ze [] [] Z
def zea (a0:z04):Option (z04) :=
 z0n a0.Preds >>= fun r3 =>
 some (⟨a0.Author,r3,a0.Stamp,a0.Act,a0.Sig⟩:z04)
theorem zex (a0:z04):z1w Tryz.prog 78 [.rd z03 a0] [] (zea a0) (fun r nv=>⟨[.rd z03 r],[]⟩):=by
 refine z2l 8 Tryz.func78 Z Z Z fun H w=>?_
 refine gSR<|Eb Z (bx 1 Z) fun v1=>Eb Z (z5w 2 z7r (ZrE.rd (R:=z0r) (x:=0) (Zr.num Z) (ZrE.nilS (ZrE.rd (R:=z1u) (x:=0) (Zr.num Z) (ZrE.rd (R:=z0q) (x:=(⟨0,[],(⟨0,0,0,[]⟩:z05)⟩:z0f)) zpr (ZrE.rd (R:=z0s) (x:=(⟨0,0⟩:z0a)) zou ZrE.nil Z) Z) Z)) Z)) fun v2=>Zn<|gSR<|Zq (faB 1 Z Z Tryz.underlying86 Z (by exact z8d))<|Zq (ld 1 Z Z (fP (z0z _)) z9w Z)<|Zc [] [(100,3)] Tryz.func61 Z (z16 _) fun r3 n4=>Zq (faB 1 Z Z Tryz.underlying86 Z (by exact z8d))<|lSpl (R:=z03) 1 Z (Sp.via (Sp.prod (Sp.prod (Sp.prod (Sp.prod (Sp.prod Sp.unit))))))<|Es (stoE 1 Z Z (z87.cast (z87.next z2e (z87.here z2e)) Z) Z z1c z06 z8d)<|Zn<|gSR<|zxr [.rd z0r a0.Author,.rd (z02 aZ) r3,.rd z1u a0.Stamp,.rd z0q a0.Act,.rd z0s a0.Sig] 1 3 [.rd z0r a0.Author] [.rd z1u a0.Stamp,.rd z0q a0.Act,.rd z0s a0.Sig] Z Z Z Z Z<|zbb (R:=z03) (⟨a0.Author,r3,a0.Stamp,a0.Act,a0.Sig⟩:z04) 1 Z (Sp.via (Sp.prod (Sp.prod (Sp.prod (Sp.prod (Sp.prod Sp.unit))))))<|Zq (ld 1 Z Z fH zbe Z)<|z8t aZ [.rd z0r 0,.rd (z02 aZ) [],.rd z1u 0,.rd z0q (⟨0,[],(⟨0,0,0,[]⟩:z05)⟩:z0f),.rd z0s (⟨0,0⟩:z0a)] 2 [.rd z0r 0] [.rd z1u 0,.rd z0q (⟨0,[],(⟨0,0,0,[]⟩:z05)⟩:z0f),.rd z0s (⟨0,0⟩:z0a)] Z Z Z<|zbb (R:=z03) (⟨0,[],0,(⟨0,[],(⟨0,0,0,[]⟩:z05)⟩:z0f),(⟨0,0⟩:z0a)⟩:z04) 2 Z (Sp.via (Sp.prod (Sp.prod (Sp.prod (Sp.prod (Sp.prod Sp.unit))))))<|Es (sto 2 Z Z fH Z z7r)<|Zn<|z0g<|zap [] [] Z (eC 2 Z Z zbe<|eN) (rN)
def zg7 (a0:z00) (a2:z04) (r5:Int × Bool) (r11:List V3) (s16:(List z04) × Int):Option (Sum ((List z04)) ((List z04) × Int)) :=
 if decide (s16.2<(r11.length:Int)) then
  some (decide (s16.2<r5.1)) >>= fun y19 =>
  if y19 then
   idx a0.Ops s16.2 >>= fun x21 =>
   zea x21 >>= fun r23 =>
   app 112 s16.1 [r23] >>= fun x26 =>
   some (.inr (x26,w64 (s16.2+1)))
  else
   some (s16.2==r5.1) >>= fun y29 =>
   if y29 then
    zea a2 >>= fun r31 =>
    app 112 s16.1 [r31] >>= fun x34 =>
    some (.inr (x34,w64 (s16.2+1)))
   else
    idx a0.Ops (w64 (s16.2 - 1)) >>= fun x37 =>
    zea x37 >>= fun r39 =>
    app 112 s16.1 [r39] >>= fun x42 =>
    some (.inr (x42,w64 (s16.2+1)))
 else
  some (.inl s16.1)
def zf2 (a0:z00) (a1:V3) (a2:z04):Option (z00 × Bool) :=
 zcz a0 a1 >>= fun r5 =>
 if r5.2 then
  some (a0,false)
 else
  z0n a0.IDs >>= fun r8 =>
  insF r8 r5.1 [a1] >>= fun r11 =>
  (iter (zg7 a0 a2 r5 r11) ([],0)) >>= fun s15 =>
  some ((⟨r11,s15⟩:z00),true)
set_option maxHeartbeats 4000000 in
theorem zoc (a0:z00) (a1:V3) (a2:z04):z1w Tryz.prog 66 [.rd z01 a0,.rd aZ a1,.rd z03 a2] [] (zf2 a0 a1 a2) (fun r nv=>⟨[.rd z01 r.1,.rd z0p r.2],[]⟩):=by
 refine z2l 74 Tryz.func66 Z Z Z fun H w=>?_
 refine gSR<|Eb Z (bx 1 Z) fun v1=>Eb Z (bx 2 Z) fun v2=>Eb Z (bx 3 Z) fun v3=>Eb Z (z5w 4 z3c (ZrE.nilS (ZrE.nilS ZrE.nil))) fun v4=>Zb Z<|gSR<|Zq (ld 1 Z Z fH z7t Z)<|Zq (ld 2 Z Z fH z8z Z)<|Zc [] [] Tryz.func76 Z (zi1 _ _) fun r5 n6=>Zm Z<|Zq (ext Z Z)<|Zq (ext Z Z)<|Za Z<|Zb Z<|z0m<|gSR<|Zm Z<|Zj Z (fun h7=>?_) (fun h7=>?_)
 ·
  refine gKn 17 Z h7<|gKn 9 Z h7<|gSR<|Zq (ld 1 Z Z fH z7t Z)<|z8t aZ [.rd (z02 aZ) [],.val (.slice none 0 0)] 4 [] [.val (.slice none 0 0)] Z Z Z<|z8t z03 [.rd (z02 aZ) [],.rd (z02 z03) []] 4 [.rd (z02 aZ) []] [] Z Z Z<|zbb (R:=z01) (⟨[],[]⟩:z00) 4 Z (Sp.via (Sp.prod (Sp.prod Sp.unit)))<|Es (sto 4 Z Z fH Z z3c)<|Zb Z<|z0g<|z0l<|zap [] [] Z (eC 4 Z Z z7t<|eE Z<|eN) (rN)
 ·
  refine gKn 17 Z h7<|gKn 9 Z h7<|Zt<|z0m<|gSub [(3,.val (z09 v1 0)),(4,.val (z09 v2 0)),(5,.val (z09 v3 0)),(6,.val (z09 v4 0)),(8,.rd z07 r5.1)] [(1,some (v1,.box 49 [.rd z01 a0])),(2,some (v2,.box 94 [.rd aZ a1])),(3,some (v3,.box 86 [.rd z03 a2])),(4,some (v4,.box 49 [.val (.slice none 0 0),.val (.slice none 0 0)]))] [1,2,3,4] (Zs Z Z Z Z<|sS Z<|sN) (Zi Z<|Zi Z<|Zi Z<|Zi Z<|rN)<|z95 fun r8 h10=>z95 fun r11 h13=>gOr [] [⟨1,some ([], fun nv=>(v1,.box 49 [.rd z01 a0])),[]⟩,⟨5,none,[(2,some ([1], fun nv=>((nv 1),.list aZ 94 r8))),(6,none)]⟩,⟨2,some ([], fun nv=>(v2,.box 94 [.rd aZ a1])),[]⟩,⟨6,none,[(5,some ([2], fun nv=>((nv 2),.list aZ 94 [a1]))),(6,none)]⟩,⟨7,none,[(6,some ([3], fun nv=>((nv 3),.list aZ 94 r11)))]⟩,⟨8,none,[(8,some ([4], fun nv=>((nv 4),.box 49 [.val (.slice none 0 0),.val (.slice none 0 0)]))),(9,some ([3,4], fun nv=>((nv 4),.box 49 [.val (nv 3),.val (.slice none 0 0)])))]⟩] [pk 20 (.val (z09 v1 (0+0))) [(0,0,false)],pk 21 (.rd (z02 aZ) a0.IDs) [(0,0,false)],⟨some (22,[1], fun nv=>.val (nv 1)),[(1,0,true)],[1],[]⟩,pd 23 (.rd z07 r5.1),pk 24 (.rd aZ a1) [(2,0,false)],⟨some (25,[2], fun nv=>.val (nv 2)),[(3,0,true)],[2],[]⟩,⟨some (26,[3], fun nv=>.val (nv 3)),[(3,1,true),(1,1,true),(4,0,true)],[3],[]⟩,⟨some (27,[3], fun nv=>.agg [.val (nv 3),.val (.slice none 0 0)]),[],[],[]⟩,⟨some (10,[4], fun nv=>.val (z09 (nv 4) 0)),[(5,0,true)],[4],[]⟩,⟨none,[(5,1,true)],[],[]⟩] mixed (oC (oRn (fun nv E=>faB 1 Z Z Tryz.underlying49 Z (by exact z8d)))<|oC (oRn (fun nv E=>ld 1 Z Z (fP (z0e _)) z9w Z))<|oC (oCl [1] [] [(100,5)] h10 Tryz.func61 Z (fun nv=>(z16 _)) (fun nv=>(Y1 Z)) (fun nv E=>rN))<|oC (oRn (fun nv E=>mv Z))<|oC (oRn (fun nv E=>ld 2 Z Z fH z8z Z))<|oC (oEf 6 2 (fun nv E=>lit (R:=aZ) ([a1]:List V3) 6 (pP Z Z<|pN) Z tu46 z5i Z Z))<|oC (oCl [3] [5,6] [(100,7)] h13 Tryz.func95 Z (fun nv=>(z145 _ _ _ _ _)) (fun nv=>(aQ Z<|aQ Z<|aQ Z<|aN)) (fun nv E=>(Zi Z<|Zi Z<|rN)))<|oC (oRn (fun nv E=>zpb [(0,1),(1,1)] Tryz.underlying49 z3c (ZrE.nilS (ZrE.nilS ZrE.nil)) Z (zf4.cons Z Z z06 (z87.cast (z87.here z06) Z)<|zf4.done Z)))<|oC (oEb 8 4 (fun nv E=>z5w 8 z3c (ZrE.nilS (ZrE.nilS ZrE.nil))))<|oC (oEs 8 (fun nv E=>zom 8 Z Z (z0b.cast (z0b.cons z06 (z0b.cons z06 z0b.nil)) Z) Z (z3b.cons z1c (z3b.cons z1c z3b.nil)) (z0b.cast (z0b.cons z06 (z0b.cons z06 z0b.nil)) Z) z3c))<|oN) fun n14=>z0j<|z7x (fun (s15:(List z04)) aa ww=>∃ nv:Nat→Value,Sta (ctx 74 H [] w) [(6,.val (z09 v4 0)),(10,.val (z09 (nv 0) 0))] [(4,some (v4,.box 49 [.val (.slice none 0 0),.val (.slice none 0 0)])),(7,some ((nv 1),.list aZ 94 r11)),(9,some ((nv 2),.list z03 86 s15)),(8,some ((nv 0),.box 49 [.val (nv 1),.val (nv 2)]))] aa ww) ?_ (fun s15=>?_)
  ·
   refine gSR<|Zq (faB 8 Z Z Tryz.underlying49 Z (by exact z8d))<|Zq (ldV 8 Z Z (At.cast At.here Z) sc46 Z)<|Zq (z2w Z (.own 7 Z) Z tu46)<|Zm Z<|Zn<|zps z03 86 11<|z1h (fun (s16:(List z04) × Int) aa ww=>∃ nv:Nat→Value,Sta (ctx 74 H [] w) [(3,.val (z09 v1 0)),(5,.val (z09 v3 0)),(6,.val (z09 v4 0)),(8,.rd z07 r5.1),(10,.val (z09 (nv 0) 0)),(30,.rd z07 (r11.length:Int)),(31,.rd z07 s16.2)] [(1,some (v1,.box 49 [.rd z01 a0])),(3,some (v3,.box 86 [.rd z03 a2])),(4,some (v4,.box 49 [.val (.slice none 0 0),.val (.slice none 0 0)])),(7,some ((nv 1),.list aZ 94 r11)),(10,some ((nv 2),.list z03 86 s16.1)),(8,some ((nv 0),.box 49 [.val (nv 1),.val (nv 2)]))] aa ww) (fun aa ww h=>⟨nvl [(n14 4),(n14 3),(.slice none 0 0)],Zu h [1,3,4,7,11,8]⟩) (fun s16=>?_)
   refine gEx fun n17=>gSR<|Zq (I.lss Z Z)<|Zn<|z0m<|gIf Z Z (fun h18=>?_) (fun h18=>?_)
   ·
    refine Zt<|z0m<|z43<|gSR<|Zm Z<|Zb Z<|z43<|gSR<|Zm Z<|Zm Z<|Zq (I.lss Z Z)<|Za Z<|z2d 46 Z fun y19=>Zj Z (fun h20=>?_) (fun h20=>?_)
    ·
     refine gSub [(3,.val (z09 v1 0)),(5,.val (z09 v3 0)),(6,.val (z09 v4 0)),(8,.rd z07 r5.1),(10,.val (z09 (n17 0) 0)),(30,.rd z07 (r11.length:Int)),(31,.rd z07 s16.2),(11,.rd z07 s16.2)] [(1,some (v1,.box 49 [.rd z01 a0])),(3,some (v3,.box 86 [.rd z03 a2])),(4,some (v4,.box 49 [.val (.slice none 0 0),.val (.slice none 0 0)])),(7,some ((n17 1),.list aZ 94 r11)),(10,some ((n17 2),.list z03 86 s16.1)),(8,some ((n17 0),.box 49 [.val (n17 1),.val (n17 2)]))] [1,3,4,7,10,8] (Zs Z Z Z Z<|Zs Z Z Z Z<|sN) (Zi Z<|Zi Z<|Zi Z<|Zi Z<|Zi Z<|Zi Z<|rN)<|z95 fun x21 h22=>z95 fun r23 h25=>z95 fun x26 h27=>gOr [] [⟨8,some ([], fun nv=>((n17 0),.box 49 [.val (n17 1),.val (n17 2)])),[(11,some ([2], fun nv=>((n17 0),.box 49 [.val (n17 1),.val (nv 2)])))]⟩,⟨1,some ([], fun nv=>(v1,.box 49 [.rd z01 a0])),[]⟩,⟨12,none,[(8,none)]⟩,⟨10,some ([], fun nv=>((n17 2),.list z03 86 s16.1)),[(9,some ([2], fun nv=>((nv 2),.list z03 86 x26)))]⟩] [pk 50 (.val (z09 (n17 0) (0+1))) [(0,0,false)],pk 51 (.val (n17 2)) [(0,0,false)],pk 52 (.val (z09 v1 (0+1))) [(1,0,false)],pk 53 (.rd (z02 z03) a0.Ops) [(1,0,false)],pd 54 (.rd z07 s16.2),pd 55 (.rp z03 x21),pd 56 (.rd z03 x21),pd 57 (.rd z03 r23),⟨some (58,[], fun nv=>.rd (z02 z03) [r23]),[(2,0,true)],[1],[]⟩,⟨some (59,[2], fun nv=>.val (nv 2)),[(3,0,true)],[2],[]⟩,pk 60 (.val (z09 (n17 0) (0+1))) [(0,0,false)],⟨none,[(3,1,false),(0,0,true)],[],[]⟩] mixed (oC (oRn (fun nv E=>faB 8 Z Z Tryz.underlying49 Z (by exact z9o)))<|oC (oRn (fun nv E=>ldV 8 Z Z (At.cast (At.next z06 At.here) Z) sc47 Z))<|oC (oRn (fun nv E=>faB 1 Z Z Tryz.underlying49 Z (by exact z9o)))<|oC (oRn (fun nv E=>ld 1 Z Z (fP (z08 _)) zcv Z))<|oC (oRn (fun nv E=>mv Z))<|oC (oRn (fun nv E=>ixR Z Z h22 tu47 z7r Z))<|oC (oRn (fun nv E=>ldR Z zbe))<|oC (oCl [] [] [] h25 Tryz.func78 Z (fun nv=>(zex _)) (fun nv=>(Y1 Z)) (fun nv E=>rN))<|oC (oFz (A1:=fun nv=>[(12,some ((nv 1),.list z03 86 [r23]))]) 12 1 (oEf 12 1 (fun nv E=>lit (R:=z03) ([r23]:List z04) 12 (pP Z Z<|pN) Z tu47 z7r Z Z)))<|oC (oEf 10 2 (fun nv E=>apn 10 Z Z Z .rd h27 tu47 z7r Z Z Z))<|oC (oRn (fun nv E=>faB 8 Z Z Tryz.underlying49 Z (by exact z9o)))<|oC (oEs 8 (fun nv E=>stoE 8 Z Z (z87.cast (z87.next z06 (z87.here z06)) Z) Z z1c z06 z9o))<|oN) fun n28=>z2t<|z2t<|z0j<|z1y<|Zq (I.add Z Z)<|Zm Z<|z1k<|z1a (fun aa ww h=>⟨nvl [(n17 0),(n17 1),(n28 2)],Zu h [1,3,4,7,10,8]⟩)
    ·
     refine gSR<|Zm Z<|Zm Z<|Zq (I.eql Z Z)<|Za Z<|z2d 61 Z fun y29=>Zj Z (fun h30=>?_) (fun h30=>?_)
     ·
      refine gSub [(3,.val (z09 v1 0)),(5,.val (z09 v3 0)),(6,.val (z09 v4 0)),(8,.rd z07 r5.1),(10,.val (z09 (n17 0) 0)),(30,.rd z07 (r11.length:Int)),(31,.rd z07 s16.2)] [(1,some (v1,.box 49 [.rd z01 a0])),(3,some (v3,.box 86 [.rd z03 a2])),(4,some (v4,.box 49 [.val (.slice none 0 0),.val (.slice none 0 0)])),(7,some ((n17 1),.list aZ 94 r11)),(10,some ((n17 2),.list z03 86 s16.1)),(8,some ((n17 0),.box 49 [.val (n17 1),.val (n17 2)]))] [1,3,4,7,10,8] (Zs Z Z Z Z<|sS Z<|sS Z<|sS Z<|sN) (Zi Z<|Zi Z<|Zi Z<|Zi Z<|Zi Z<|Zi Z<|rN)<|z95 fun r31 h33=>z95 fun x34 h35=>gOr [] [⟨8,some ([], fun nv=>((n17 0),.box 49 [.val (n17 1),.val (n17 2)])),[(7,some ([2], fun nv=>((n17 0),.box 49 [.val (n17 1),.val (nv 2)])))]⟩,⟨3,some ([], fun nv=>(v3,.box 86 [.rd z03 a2])),[]⟩,⟨13,none,[(4,none)]⟩,⟨10,some ([], fun nv=>((n17 2),.list z03 86 s16.1)),[(5,some ([2], fun nv=>((nv 2),.list z03 86 x34)))]⟩] [pk 65 (.val (z09 (n17 0) (0+1))) [(0,0,false)],pk 66 (.val (n17 2)) [(0,0,false)],pk 67 (.rd z03 a2) [(1,0,false)],pd 68 (.rd z03 r31),⟨some (69,[], fun nv=>.rd (z02 z03) [r31]),[(2,0,true)],[1],[]⟩,⟨some (70,[2], fun nv=>.val (nv 2)),[(3,0,true)],[2],[]⟩,pk 71 (.val (z09 (n17 0) (0+1))) [(0,0,false)],⟨none,[(3,1,false),(0,0,true)],[],[]⟩] mixed (oC (oRn (fun nv E=>faB 8 Z Z Tryz.underlying49 Z (by exact z9o)))<|oC (oRn (fun nv E=>ldV 8 Z Z (At.cast (At.next z06 At.here) Z) sc47 Z))<|oC (oRn (fun nv E=>ld 3 Z Z fH zbe Z))<|oC (oCl [] [] [] h33 Tryz.func78 Z (fun nv=>(zex _)) (fun nv=>(Y1 Z)) (fun nv E=>rN))<|oC (oFz (A1:=fun nv=>[(13,some ((nv 1),.list z03 86 [r31]))]) 13 1 (oEf 13 1 (fun nv E=>lit (R:=z03) ([r31]:List z04) 13 (pP Z Z<|pN) Z tu47 z7r Z Z)))<|oC (oEf 10 2 (fun nv E=>apn 10 Z Z Z .rd h35 tu47 z7r Z Z Z))<|oC (oRn (fun nv E=>faB 8 Z Z Tryz.underlying49 Z (by exact z9o)))<|oC (oEs 8 (fun nv E=>stoE 8 Z Z (z87.cast (z87.next z06 (z87.here z06)) Z) Z z1c z06 z9o))<|oN) fun n36=>z2t<|z2t<|z0j<|z1y<|Zq (I.add Z Z)<|Zm Z<|z1k<|z1a (fun aa ww h=>⟨nvl [(n17 0),(n17 1),(n36 2)],Zu h [1,3,4,7,10,8]⟩)
     ·
      refine gSub [(3,.val (z09 v1 0)),(5,.val (z09 v3 0)),(6,.val (z09 v4 0)),(8,.rd z07 r5.1),(10,.val (z09 (n17 0) 0)),(30,.rd z07 (r11.length:Int)),(31,.rd z07 s16.2),(11,.rd z07 s16.2)] [(1,some (v1,.box 49 [.rd z01 a0])),(3,some (v3,.box 86 [.rd z03 a2])),(4,some (v4,.box 49 [.val (.slice none 0 0),.val (.slice none 0 0)])),(7,some ((n17 1),.list aZ 94 r11)),(10,some ((n17 2),.list z03 86 s16.1)),(8,some ((n17 0),.box 49 [.val (n17 1),.val (n17 2)]))] [1,3,4,7,10,8] (Zs Z Z Z Z<|Zs Z Z Z Z<|sN) (Zi Z<|Zi Z<|Zi Z<|Zi Z<|Zi Z<|Zi Z<|rN)<|z95 fun x37 h38=>z95 fun r39 h41=>z95 fun x42 h43=>gOr [] [⟨8,some ([], fun nv=>((n17 0),.box 49 [.val (n17 1),.val (n17 2)])),[(12,some ([2], fun nv=>((n17 0),.box 49 [.val (n17 1),.val (nv 2)])))]⟩,⟨1,some ([], fun nv=>(v1,.box 49 [.rd z01 a0])),[]⟩,⟨14,none,[(9,none)]⟩,⟨10,some ([], fun nv=>((n17 2),.list z03 86 s16.1)),[(10,some ([2], fun nv=>((nv 2),.list z03 86 x42)))]⟩] [pk 34 (.val (z09 (n17 0) (0+1))) [(0,0,false)],pk 35 (.val (n17 2)) [(0,0,false)],pk 36 (.val (z09 v1 (0+1))) [(1,0,false)],pk 37 (.rd (z02 z03) a0.Ops) [(1,0,false)],pd 38 (.rd z07 s16.2),pd 39 (.rd z07 (w64 (s16.2 - 1))),pd 40 (.rp z03 x37),pd 41 (.rd z03 x37),pd 42 (.rd z03 r39),⟨some (43,[], fun nv=>.rd (z02 z03) [r39]),[(2,0,true)],[1],[]⟩,⟨some (44,[2], fun nv=>.val (nv 2)),[(3,0,true)],[2],[]⟩,pk 45 (.val (z09 (n17 0) (0+1))) [(0,0,false)],⟨none,[(3,1,false),(0,0,true)],[],[]⟩] mixed (oC (oRn (fun nv E=>faB 8 Z Z Tryz.underlying49 Z (by exact z9o)))<|oC (oRn (fun nv E=>ldV 8 Z Z (At.cast (At.next z06 At.here) Z) sc47 Z))<|oC (oRn (fun nv E=>faB 1 Z Z Tryz.underlying49 Z (by exact z9o)))<|oC (oRn (fun nv E=>ld 1 Z Z (fP (z08 _)) zcv Z))<|oC (oRn (fun nv E=>mv Z))<|oC (oRn (fun nv E=>I.sub Z Z))<|oC (oRn (fun nv E=>ixR Z Z h38 tu47 z7r Z))<|oC (oRn (fun nv E=>ldR Z zbe))<|oC (oCl [] [] [] h41 Tryz.func78 Z (fun nv=>(zex _)) (fun nv=>(Y1 Z)) (fun nv E=>rN))<|oC (oFz (A1:=fun nv=>[(14,some ((nv 1),.list z03 86 [r39]))]) 14 1 (oEf 14 1 (fun nv E=>lit (R:=z03) ([r39]:List z04) 14 (pP Z Z<|pN) Z tu47 z7r Z Z)))<|oC (oEf 10 2 (fun nv E=>apn 10 Z Z Z .rd h43 tu47 z7r Z Z Z))<|oC (oRn (fun nv E=>faB 8 Z Z Tryz.underlying49 Z (by exact z9o)))<|oC (oEs 8 (fun nv E=>stoE 8 Z Z (z87.cast (z87.next z06 (z87.here z06)) Z) Z z1c z06 z9o))<|oN) fun n44=>z2t<|z2t<|z0j<|z1y<|Zq (I.add Z Z)<|Zm Z<|z1k<|z1a (fun aa ww h=>⟨nvl [(n17 0),(n17 1),(n44 2)],Zu h [1,3,4,7,10,8]⟩)
   ·
    refine z1f<|z0u<|z0v<|z40 (fun aa ww h=>⟨nvl [(n17 0),(n17 1),(n17 2)],Zu h [4,7,10,8]⟩)
  ·
   refine gEx fun n45=>gSR<|zxr [.rd (z02 aZ) r11,.val (n45 2)] 8 7 [] [.val (n45 2)] Z Z Z Z Z<|zxr [.rd (z02 aZ) r11,.rd (z02 z03) s15] 8 9 [.rd (z02 aZ) r11] [] Z Z Z Z Z<|zbb (R:=z01) (⟨r11,s15⟩:z00) 8 Z (Sp.via (Sp.prod (Sp.prod Sp.unit)))<|Zq (ld 8 Z Z fH z7t Z)<|z8t aZ [.rd (z02 aZ) [],.val (.slice none 0 0)] 4 [] [.val (.slice none 0 0)] Z Z Z<|z8t z03 [.rd (z02 aZ) [],.rd (z02 z03) []] 4 [.rd (z02 aZ) []] [] Z Z Z<|zbb (R:=z01) (⟨[],[]⟩:z00) 4 Z (Sp.via (Sp.prod (Sp.prod Sp.unit)))<|Es (sto 4 Z Z fH Z z3c)<|Zb Z<|z0g<|zap [] [] Z (eC 4 Z Z z7t<|eE Z<|eN) (rN)
def z6h (a0:z00) (a1:z00) (s9:Int):Option (Sum (Sum (z00 × Int) Unit) Int) :=
 if decide (s9<(a1.IDs.length:Int)) then
  idx a1.IDs s9 >>= fun x11 =>
  zcz a0 x11 >>= fun r14 =>
  (if r14.2 then
   idx a0.Ops r14.1 >>= fun x18 =>
   idx a1.Ops s9 >>= fun x20 =>
   zl6 x18 x20 >>= fun r22 =>
   some (!r22)
  else
   some false) >>= fun s16 =>
  if s16 then
   some (.inl (.inl ((⟨[],[]⟩:z00),14)))
  else
   some (.inr (w64 (s9+1)))
 else
  some (.inl (.inr ()))
def zbf (a0:z00) (s29:(List z04) × Int):Option (Sum ((List z04)) ((List z04) × Int)) :=
 if decide (s29.2<(a0.Ops.length:Int)) then
  idx a0.Ops s29.2 >>= fun x32 =>
  zea x32 >>= fun r35 =>
  app 112 s29.1 [r35] >>= fun x38 =>
  some (.inr (x38,w64 (s29.2+1)))
 else
  some (.inl s29.1)
def zbd (a1:z00) (s43:(List V3) × (List z04) × Int):Option (Sum ((List V3) × (List z04)) ((List V3) × (List z04) × Int)) :=
 if decide (s43.2.2<(a1.IDs.length:Int)) then
  idx a1.IDs s43.2.2 >>= fun x45 =>
  idx a1.Ops s43.2.2 >>= fun x48 =>
  zf2 (⟨s43.1,s43.2.1⟩:z00) x45 x48 >>= fun r50 =>
  some (.inr (r50.1.IDs,r50.1.Ops,w64 (s43.2.2+1)))
 else
  some (.inl (s43.1,s43.2.1))
def ziv (a0:z00) (a1:z00):Option (z00 × Int) :=
 zgh [a0,a1] >>= fun r5 =>
 if r5 != 0 then
  some ((⟨[],[]⟩:z00),r5)
 else
  z3g (iter (z6h a0 a1) 0) fun s8 =>
  z0n a0.IDs >>= fun r25 =>
  (iter (zbf a0) ([],0)) >>= fun s28 =>
  (iter (zbd a1) (r25,s28,0)) >>= fun s42 =>
  if decide (60<(s42.2.length:Int)) then
   some ((⟨[],[]⟩:z00),4)
  else
   some ((⟨s42.1,s42.2⟩:z00),0)
set_option maxHeartbeats 4000000 in
theorem zq4 (a0:z00) (a1:z00):z1w Tryz.prog 58 [.rd z01 a0,.rd z01 a1] [zG1] (ziv a0 a1) (fun r nv=>⟨[.rd z01 r.1,.rd z07 r.2],[(1001,some (.bool true,.glob 1 (z2o 64 z0r) z54))]⟩):=by
 refine z2l 100 Tryz.func58 Z Z Z fun H w=>?_
 refine gSR<|Eb Z (bx 1 Z) fun v1=>Eb Z (bx 2 Z) fun v2=>Eb Z (z5w 3 z3c (ZrE.nilS (ZrE.nilS ZrE.nil))) fun v3=>Zb Z<|z0m<|gSR<|Zq (ld 1 Z Z fH z7t Z)<|Zq (ld 2 Z Z fH z7t Z)<|Ef Z (lit (R:=z01) ([a0,a1]:List z00) 4 (pP Z Z<|pP Z Z<|pN) Z tu22 z3c Z Z) fun v4=>zc6 4 [18] Z (fS Z<|fN)<|Zc [1001] [] Tryz.func75 Z (zoz _) fun r5 n6=>Zb Z<|gSR<|Zm Z<|Zq (I.neq Z Z)<|Zj Z (fun h7=>?_) (fun h7=>?_)
 ·
  refine gSR<|Zq (zpb [(0,1),(1,1)] Tryz.underlying49 z3c (ZrE.nilS (ZrE.nilS ZrE.nil)) Z (zf4.done Z))<|Zm Z<|Es (zom 3 Z Z (z0b.cast (z0b.cons z06 (z0b.cons z06 z0b.nil)) Z) Z (z3b.cons z1c (z3b.cons z1c z3b.nil)) (z0b.cast (z0b.cons z06 (z0b.cons z06 z0b.nil)) Z) z3c)<|Zb Z<|z0g<|z0l<|zkp aZ [.rd (z02 aZ) [],.val (.slice none 0 0)] 3 [] [.val (.slice none 0 0)] Z Z Z<|zkp z03 [.rd (z02 aZ) [],.rd (z02 z03) []] 3 [.rd (z02 aZ) []] [] Z Z Z<|zue (R:=z01) (⟨[],[]⟩:z00) 3 Z (Sp.via (Sp.prod (Sp.prod Sp.unit)))<|zap [] [1001] Z (eC 3 Z Z z7t<|eE Z<|eN) (y1 Z)
 ·
  refine Zt<|z42 (fun (s8:Unit) aa ww=>Sta (ctx 100 H [zG1] w) [(2,.val (z09 v1 0)),(3,.val (z09 v2 0)),(4,.val (z09 v3 0))] [(1,some (v1,.box 49 [.rd z01 a0])),(2,some (v2,.box 49 [.rd z01 a1])),(3,some (v3,.box 49 [.val (.slice none 0 0),.val (.slice none 0 0)])),zG1] aa ww) ?_ (fun s8=>?_)
  ·
   refine gSR<|Zq (faB 2 Z Z Tryz.underlying49 Z (by exact z8d))<|Zq (ld 2 Z Z (fP (z0e _)) z9w Z)<|Zq (z2w Z .rd Z tu46)<|Zm Z<|Zn<|z1h (fun (s9:Int) aa ww=>Sta (ctx 100 H [zG1] w) [(2,.val (z09 v1 0)),(3,.val (z09 v2 0)),(4,.val (z09 v3 0)),(25,.rd (z02 aZ) a1.IDs),(26,.rd z07 (a1.IDs.length:Int)),(27,.rd z07 s9)] [(1,some (v1,.box 49 [.rd z01 a0])),(2,some (v2,.box 49 [.rd z01 a1])),(3,some (v3,.box 49 [.val (.slice none 0 0),.val (.slice none 0 0)])),zG1] aa ww) (fun aa ww h=>Zu h [1,2,3,1001]) (fun s9=>?_)
   refine gSR<|Zq (I.lss Z Z)<|Zn<|z0m<|gIf Z Z (fun h10=>?_) (fun h10=>?_)
   ·
    refine Zt<|z0m<|z43<|gSR<|Zm Z<|z0w fun x11 h12=>Zq (ixR Z Z h12 tu46 z5i Z)<|Zq (ldR Z z8z)<|Eb Z (z5w 1100 z5i (.zr (R:=aZ) (x:=(Vector.replicate 32 0)) zku)) fun v13=>Za Z<|Es (sto 1100 Z Z fH Z z5i)<|Zn<|gSR<|Zq (ld 1 Z Z fH z7t Z)<|Zq (ld 1100 Z Z fH z8z Z)<|Zc [] [] Tryz.func76 Z (zi1 _ _) fun r14 n15=>Zm Z<|Zq (ext Z Z)<|Zq (ext Z Z)<|Za Z<|Zb Z<|z7x (fun (s16:Bool) aa ww=>Sta (ctx 100 H [zG1] w) [(2,.val (z09 v1 0)),(3,.val (z09 v2 0)),(4,.val (z09 v3 0)),(25,.rd (z02 aZ) a1.IDs),(26,.rd z07 (a1.IDs.length:Int)),(27,.rd z07 s9),(52,.rd z0p s16)] [(1,some (v1,.box 49 [.rd z01 a0])),(2,some (v2,.box 49 [.rd z01 a1])),(3,some (v3,.box 49 [.val (.slice none 0 0),.val (.slice none 0 0)])),zG1] aa ww) ?_ (fun s16=>?_)
    ·
     refine z5v [] mixed Z Z<|hTk 0 Z Z (mv Z)<|hTk 1 Z Z (mv Z)<|hIf 39 Z Z (fun h17=>?_) (fun h17=>?_)
     ·
      refine hKn 37 Z Z h17<|hKn 10 Z Z h17<|hKn 38 Z Z h17<|Zg 2 Z Z (faB 1 Z Z Tryz.underlying49 Z (by exact z9o))<|Zg 3 Z Z (ld 1 Z Z (fP (z08 _)) zcv Z)<|Zg 4 Z Z (mv Z)<|z3z fun x18 h19=>Zg 5 Z Z (ixR Z Z h19 tu47 z7r Z)<|Zg 6 Z Z (ldR Z zbe)<|Zg 7 Z Z (faB 2 Z Z Tryz.underlying49 Z (by exact z9o))<|Zg 8 Z Z (ld 2 Z Z (fP (z08 _)) zcv Z)<|Zg 9 Z Z (mv Z)<|z3z fun x20 h21=>Zg 10 Z Z (ixR Z Z h21 tu47 z7r Z)<|Zg 11 Z Z (ldR Z zbe)<|z3i 12 [] [] Z (by kernel_rfl) Z Zx Z Tryz.func77 Z Z (zsd _ _) (Y2 Z Z) rN Z (fun _ _=>z6j) fun r22 n23=>Zg 13 Z Z (zct Z)<|hTk 14 Z Z (pkT Z Z)<|z3f (by kernel_rfl)<|z40 (fun aa ww h=>Zu h [1,2,3,1001])
     ·
      refine hKn 37 Z Z h17<|hKn 10 Z Z h17<|hKn 38 Z Z h17<|hSk 2 Z Z<|hSk 3 Z Z<|hSk 4 Z Z<|hSk 5 Z Z<|hSk 6 Z Z<|hSk 7 Z Z<|hSk 8 Z Z<|hSk 9 Z Z<|hSk 10 Z Z<|hSk 11 Z Z<|hSk 12 Z Z<|hSk 13 Z Z<|hTk 14 Z Z (pkF Z Z)<|z3f (by kernel_rfl)<|z40 (fun aa ww h=>Zu h [1,2,3,1001])
    ·
     refine gIf Z Z (fun h24=>?_) (fun h24=>?_)
     ·
      refine gSR<|Zq (zpb [(0,1),(1,1)] Tryz.underlying49 z3c (ZrE.nilS (ZrE.nilS ZrE.nil)) Z (zf4.done Z))<|Es (zom 3 Z Z (z0b.cast (z0b.cons z06 (z0b.cons z06 z0b.nil)) Z) Z (z3b.cons z1c (z3b.cons z1c z3b.nil)) (z0b.cast (z0b.cons z06 (z0b.cons z06 z0b.nil)) Z) z3c)<|Zb Z<|z0g<|z2j<|z0l<|z3e<|z2z<|zkp aZ [.rd (z02 aZ) [],.val (.slice none 0 0)] 3 [] [.val (.slice none 0 0)] Z Z Z<|zkp z03 [.rd (z02 aZ) [],.rd (z02 z03) []] 3 [.rd (z02 aZ) []] [] Z Z Z<|zue (R:=z01) (⟨[],[]⟩:z00) 3 Z (Sp.via (Sp.prod (Sp.prod Sp.unit)))<|zap [] [1001] Z (eC 3 Z Z z7t<|eE Z<|eN) (y1 Z)
     ·
      refine z24<|z2t<|z0j<|z1y<|Zq (I.add Z Z)<|Zm Z<|z1k<|z1a (fun aa ww h=>Zu h [1,2,3,1001])
   ·
    refine z1f<|z0u<|z0v<|z3k (fun aa ww h=>Zu h [1,2,3,1001])
  ·
   refine gSR<|Zq (faB 1 Z Z Tryz.underlying49 Z (by exact z8d))<|Zq (ld 1 Z Z (fP (z0e _)) z9w Z)<|Zc [] [(100,1149)] Tryz.func61 Z (z16 _) fun r25 n26=>Zq (zpb [(0,1),(1,1)] Tryz.underlying49 z3c (ZrE.nilS (ZrE.nilS ZrE.nil)) Z (zf4.cons Z Z z06 (z87.cast (z87.here z06) Z)<|zf4.done Z))<|Eb Z (z5w 1150 z3c (ZrE.nilS (ZrE.nilS ZrE.nil))) fun v27=>Es (zom 1150 Z Z (z0b.cast (z0b.cons z06 (z0b.cons z06 z0b.nil)) Z) Z (z3b.cons z1c (z3b.cons z1c z3b.nil)) (z0b.cast (z0b.cons z06 (z0b.cons z06 z0b.nil)) Z) z3c)<|Zn<|z7x (fun (s28:(List z04)) aa ww=>∃ nv:Nat→Value,Sta (ctx 100 H [zG1] w) [(3,.val (z09 v2 0)),(4,.val (z09 v3 0)),(11,.val (z09 v27 0))] [(2,some (v2,.box 49 [.rd z01 a1])),(3,some (v3,.box 49 [.val (.slice none 0 0),.val (.slice none 0 0)])),(1149,some ((n26 0),.list aZ 94 r25)),(1152,some ((nv 0),.list z03 86 s28)),(1150,some (v27,.box 49 [.val (n26 0),.val (nv 0)])),zG1] aa ww) ?_ (fun s28=>?_)
   ·
    refine gSR<|Zq (faB 1 Z Z Tryz.underlying49 Z (by exact z9o))<|Zq (ld 1 Z Z (fP (z08 _)) zcv Z)<|Zq (z2w Z .rd Z tu47)<|Zm Z<|Zn<|zps z03 86 1155<|z1h (fun (s29:(List z04) × Int) aa ww=>∃ nv:Nat→Value,Sta (ctx 100 H [zG1] w) [(3,.val (z09 v2 0)),(4,.val (z09 v3 0)),(11,.val (z09 v27 0)),(60,.rd (z02 z03) a0.Ops),(61,.rd z07 (a0.Ops.length:Int)),(62,.rd z07 s29.2)] [(2,some (v2,.box 49 [.rd z01 a1])),(3,some (v3,.box 49 [.val (.slice none 0 0),.val (.slice none 0 0)])),(1149,some ((n26 0),.list aZ 94 r25)),(1154,some ((nv 0),.list z03 86 s29.1)),(1150,some (v27,.box 49 [.val (n26 0),.val (nv 0)])),zG1] aa ww) (fun aa ww h=>⟨nvl [(.slice none 0 0)],Zu h [2,3,1149,1155,1150,1001]⟩) (fun s29=>?_)
    refine gEx fun n30=>gSR<|Zq (I.lss Z Z)<|Zn<|z0m<|gIf Z Z (fun h31=>?_) (fun h31=>?_)
    ·
     refine Zt<|z0m<|z43<|gSR<|z0w fun x32 h33=>Zq (ixR Z Z h33 tu47 z7r Z)<|Zq (ldR Z zbe)<|Eb Z (z5w 1156 z7r (ZrE.rd (R:=z0r) (x:=0) (Zr.num Z) (ZrE.nilS (ZrE.rd (R:=z1u) (x:=0) (Zr.num Z) (ZrE.rd (R:=z0q) (x:=(⟨0,[],(⟨0,0,0,[]⟩:z05)⟩:z0f)) zpr (ZrE.rd (R:=z0s) (x:=(⟨0,0⟩:z0a)) zou ZrE.nil Z) Z) Z)) Z)) fun v34=>z8t aZ [.rd z0r 0,.rd (z02 aZ) [],.rd z1u 0,.rd z0q (⟨0,[],(⟨0,0,0,[]⟩:z05)⟩:z0f),.rd z0s (⟨0,0⟩:z0a)] 1156 [.rd z0r 0] [.rd z1u 0,.rd z0q (⟨0,[],(⟨0,0,0,[]⟩:z05)⟩:z0f),.rd z0s (⟨0,0⟩:z0a)] Z Z Z<|zbb (R:=z03) (⟨0,[],0,(⟨0,[],(⟨0,0,0,[]⟩:z05)⟩:z0f),(⟨0,0⟩:z0a)⟩:z04) 1156 Z (Sp.via (Sp.prod (Sp.prod (Sp.prod (Sp.prod (Sp.prod Sp.unit))))))<|Es (sto 1156 Z Z fH Z z7r)<|Zn<|gSub [(3,.val (z09 v2 0)),(4,.val (z09 v3 0)),(11,.val (z09 v27 0)),(60,.rd (z02 z03) a0.Ops),(61,.rd z07 (a0.Ops.length:Int)),(62,.rd z07 s29.2),(13,.val (z09 v34 0))] [(2,some (v2,.box 49 [.rd z01 a1])),(3,some (v3,.box 49 [.val (.slice none 0 0),.val (.slice none 0 0)])),(1149,some ((n26 0),.list aZ 94 r25)),(1154,some ((n30 0),.list z03 86 s29.1)),(1150,some (v27,.box 49 [.val (n26 0),.val (n30 0)])),zG1,(1156,some (v34,.box 86 [.rd z03 x32]))] [2,3,1149,1154,1150,1001,1156] (Zs Z Z Z Z<|sS Z<|sS Z<|sS Z<|sN) (Zi Z<|Zi Z<|Zi Z<|Zi Z<|Zi Z<|Zi Z<|Zi Z<|rN)<|z95 fun r35 h37=>z95 fun x38 h39=>gOr [] [⟨1150,some ([], fun nv=>(v27,.box 49 [.val (n26 0),.val (n30 0)])),[(7,some ([2], fun nv=>(v27,.box 49 [.val (n26 0),.val (nv 2)])))]⟩,⟨1156,some ([], fun nv=>(v34,.box 86 [.rd z03 x32])),[]⟩,⟨1157,none,[(4,none)]⟩,⟨1154,some ([], fun nv=>((n30 0),.list z03 86 s29.1)),[(5,some ([2], fun nv=>((nv 2),.list z03 86 x38)))]⟩] [pk 66 (.val (z09 v27 (0+1))) [(0,0,false)],pk 67 (.val (n30 0)) [(0,0,false)],pk 68 (.rd z03 x32) [(1,0,false)],pd 69 (.rd z03 r35),⟨some (70,[], fun nv=>.rd (z02 z03) [r35]),[(2,0,true)],[1],[]⟩,⟨some (71,[2], fun nv=>.val (nv 2)),[(3,0,true)],[2],[]⟩,pk 72 (.val (z09 v27 (0+1))) [(0,0,false)],⟨none,[(0,0,true),(3,1,false)],[],[]⟩] mixed (oC (oRn (fun nv E=>faB 1150 Z Z Tryz.underlying49 Z (by exact z9o)))<|oC (oRn (fun nv E=>ldV 1150 Z Z (At.cast (At.next z06 At.here) Z) sc47 Z))<|oC (oRn (fun nv E=>ld 1156 Z Z fH zbe Z))<|oC (oCl [] [] [] h37 Tryz.func78 Z (fun nv=>(zex _)) (fun nv=>(Y1 Z)) (fun nv E=>rN))<|oC (oFz (A1:=fun nv=>[(1157,some ((nv 1),.list z03 86 [r35]))]) 1157 1 (oEf 1157 1 (fun nv E=>lit (R:=z03) ([r35]:List z04) 1157 (pP Z Z<|pN) Z tu47 z7r Z Z)))<|oC (oEf 1154 2 (fun nv E=>apn 1154 Z Z Z .rd h39 tu47 z7r Z Z Z))<|oC (oRn (fun nv E=>faB 1150 Z Z Tryz.underlying49 Z (by exact z9o)))<|oC (oEs 1150 (fun nv E=>stoE 1150 Z Z (z87.cast (z87.next z06 (z87.here z06)) Z) Z z1c z06 z9o))<|oN) fun n40=>z2t<|z0j<|z1y<|Zq (I.add Z Z)<|Zm Z<|z1k<|z1a (fun aa ww h=>⟨nvl [(n40 2)],Zu h [2,3,1149,1154,1150,1001]⟩)
    ·
     refine z1f<|z0u<|z0v<|z40 (fun aa ww h=>⟨nvl [(n30 0)],Zu h [2,3,1149,1154,1150,1001]⟩)
   ·
    refine gEx fun n41=>z7x (fun (s42:(List V3) × (List z04)) aa ww=>Sta (ctx 100 H [zG1] w) [(4,.val (z09 v3 0)),(11,.val (z09 v27 0))] [(3,some (v3,.box 49 [.val (.slice none 0 0),.val (.slice none 0 0)])),(1150,some (v27,.box 49 [.rd (z02 aZ) s42.1,.rd (z02 z03) s42.2])),zG1] aa ww) ?_ (fun s42=>?_)
    ·
     refine gSR<|Zq (faB 2 Z Z Tryz.underlying49 Z (by exact z8d))<|Zq (ld 2 Z Z (fP (z0e _)) z9w Z)<|Zq (z2w Z .rd Z tu46)<|Zm Z<|Zn<|gPow [.rd (z02 aZ) r25,.val (n41 0)] 1150 1149 [] [.val (n41 0)] Z Z Z Z Z<|gPow [.rd (z02 aZ) r25,.rd (z02 z03) s28] 1150 1152 [.rd (z02 aZ) r25] [] Z Z Z Z Z<|z1h (fun (s43:(List V3) × (List z04) × Int) aa ww=>Sta (ctx 100 H [zG1] w) [(3,.val (z09 v2 0)),(4,.val (z09 v3 0)),(11,.val (z09 v27 0)),(75,.rd (z02 aZ) a1.IDs),(76,.rd z07 (a1.IDs.length:Int)),(77,.rd z07 s43.2.2)] [(2,some (v2,.box 49 [.rd z01 a1])),(3,some (v3,.box 49 [.val (.slice none 0 0),.val (.slice none 0 0)])),(1150,some (v27,.box 49 [.rd (z02 aZ) s43.1,.rd (z02 z03) s43.2.1])),zG1] aa ww) (fun aa ww h=>Zu h [2,3,1150,1001]) (fun s43=>?_)
     refine gSR<|Zq (I.lss Z Z)<|Zn<|z0m<|gIf Z Z (fun h44=>?_) (fun h44=>?_)
     ·
      refine Zt<|z0m<|z43<|gSR<|Zm Z<|z0w fun x45 h46=>Zq (ixR Z Z h46 tu46 z5i Z)<|Zq (ldR Z z8z)<|Eb Z (z5w 1158 z5i (.zr (R:=aZ) (x:=(Vector.replicate 32 0)) zku)) fun v47=>Za Z<|Es (sto 1158 Z Z fH Z z5i)<|Zn<|gJoi (R:=z01) (⟨s43.1,s43.2.1⟩:z00) 1150 Z (Sp.via (Sp.prod (Sp.prod Sp.unit)))<|z5v [1150] mixed Z Z<|hTk 1 Z Z (ld 1158 Z Z fH z8z Z)<|hTk 2 Z Z (faB 2 Z Z Tryz.underlying49 Z (by exact z9o))<|hTk 3 Z Z (ld 2 Z Z (fP (z08 _)) zcv Z)<|hTk 4 Z Z (mv Z)<|z3z fun x48 h49=>hTk 5 Z Z (ixR Z Z h49 tu47 z7r Z)<|hTk 6 Z Z (ldR Z zbe)<|hRun 0 Z (by kernel_rfl) (gd0 Z) Z Z anyJ (ld 1150 Z Z fH z7t Z)<|zuu 7 [] [] Z (by kernel_rfl) Z (gd0 Z) Z Tryz.func66 Z Z (zoc _ _ _) (aQ Z<|aQ Z<|aQ Z<|aN) rN Z fun r50 n51=>zq1 8 Z (by kernel_rfl) (by kernel_rfl) (by kernel_rfl) (gd0 Z) Z Z (mv Z)<|zq1 9 Z (by kernel_rfl) (by kernel_rfl) (by kernel_rfl) (gd0 Z) Z Z (ext Z Z)<|Zf 10 Z Z z6j (ext Z Z)<|Zp 11 Z Z Z Z Z (sto 1150 Z Z fH Z z3c)<|z3f (by kernel_rfl)<|z2t<|z0j<|z1y<|Zq (I.add Z Z)<|Zm Z<|z1k<|eSpl (R:=z01) 1150 Z (Sp.via (Sp.prod (Sp.prod Sp.unit)))<|z1a (fun aa ww h=>Zu h [2,3,1150,1001])
     ·
      refine z1f<|z0u<|z0v<|z40 (fun aa ww h=>Zu h [3,1150,1001])
    ·
     refine z0m<|gSR<|Zq (faB 1150 Z Z Tryz.underlying49 Z (by exact z9o))<|Zq (ld 1150 Z Z (Foc.cast (Foc.next z2e fH) Z) zcv Z)<|Zq (z2w Z .rd Z tu47)<|Zq (I.gtr Z Z)<|Zj Z (fun h52=>?_) (fun h52=>?_)
     ·
      refine gSR<|Zq (zpb [(0,1),(1,1)] Tryz.underlying49 z3c (ZrE.nilS (ZrE.nilS ZrE.nil)) Z (zf4.done Z))<|Es (zom 3 Z Z (z0b.cast (z0b.cons z06 (z0b.cons z06 z0b.nil)) Z) Z (z3b.cons z1c (z3b.cons z1c z3b.nil)) (z0b.cast (z0b.cons z06 (z0b.cons z06 z0b.nil)) Z) z3c)<|Zb Z<|z0g<|z0l<|zkp aZ [.rd (z02 aZ) [],.val (.slice none 0 0)] 3 [] [.val (.slice none 0 0)] Z Z Z<|zkp z03 [.rd (z02 aZ) [],.rd (z02 z03) []] 3 [.rd (z02 aZ) []] [] Z Z Z<|zue (R:=z01) (⟨[],[]⟩:z00) 3 Z (Sp.via (Sp.prod (Sp.prod Sp.unit)))<|zap [] [1001] Z (eC 3 Z Z z7t<|eE Z<|eN) (y1 Z)
     ·
      refine Zt<|gSR<|zbb (R:=z01) (⟨s42.1,s42.2⟩:z00) 1150 Z (Sp.via (Sp.prod (Sp.prod Sp.unit)))<|Zq (ld 1150 Z Z fH z7t Z)<|z8t aZ [.rd (z02 aZ) [],.val (.slice none 0 0)] 3 [] [.val (.slice none 0 0)] Z Z Z<|z8t z03 [.rd (z02 aZ) [],.rd (z02 z03) []] 3 [.rd (z02 aZ) []] [] Z Z Z<|zbb (R:=z01) (⟨[],[]⟩:z00) 3 Z (Sp.via (Sp.prod (Sp.prod Sp.unit)))<|Es (sto 3 Z Z fH Z z3c)<|Zb Z<|z0g<|zap [] [1001] Z (eC 3 Z Z z7t<|eE Z<|eN) (y1 Z)
def zg2 (a0:List z04) (s4:Int):Option (Sum (Sum (z00 × Int) Unit) Int) :=
 if decide (s4<(a0.length:Int)) then
  idx a0 s4 >>= fun x6 =>
  zg4 x6 >>= fun r9 =>
  if r9 != 0 then
   some (.inl (.inl ((⟨[],[]⟩:z00),r9)))
  else
   some (.inr (w64 (s4+1)))
 else
  some (.inl (.inr ()))
def zft (a0:List z04) (s14:(List V3) × (List z04) × Int):Option (Sum (Sum (z00 × Int) ((List V3) × (List z04))) ((List V3) × (List z04) × Int)) :=
 if decide (s14.2.2<(a0.length:Int)) then
  idx a0 s14.2.2 >>= fun x16 =>
  zyf x16 >>= fun r19 =>
  zf2 (⟨s14.1,s14.2.1⟩:z00) r19.1 x16 >>= fun r22 =>
  if !r22.2 then
   some (.inl (.inl ((⟨[],[]⟩:z00),14)))
  else
   some (.inr (r22.1.IDs,r22.1.Ops,w64 (s14.2.2+1)))
 else
  some (.inl (.inr (s14.1,s14.2.1)))
def zr6 (a0:List z04):Option (z00 × Int) :=
 if decide (60<(a0.length:Int)) then
  some ((⟨[],[]⟩:z00),4)
 else
  z3g (iter (zg2 a0) 0) fun s3 =>
  z3g (iter (zft a0) ([],[],0)) fun s13 =>
  zfi (⟨s13.1,s13.2⟩:z00) >>= fun r26 =>
  if r26 != 0 then
   some ((⟨[],[]⟩:z00),r26)
  else
   some ((⟨s13.1,s13.2⟩:z00),0)
theorem zqh (a0:List z04):z1w Tryz.prog 43 [.rd (z02 z03) a0] [zG1] (zr6 a0) (fun r nv=>⟨[.rd z01 r.1,.rd z07 r.2],[(1001,some (.bool true,.glob 1 (z2o 64 z0r) z54))]⟩):=by
 refine z2l 62 Tryz.func43 Z Z Z fun H w=>?_
 refine gSR<|Eb Z (z5w 1 z3c (ZrE.nilS (ZrE.nilS ZrE.nil))) fun v1=>Zb Z<|z0m<|gSR<|Zm Z<|Zq (z2w Z .rd Z tu47)<|Zq (I.gtr Z Z)<|Zj Z (fun h2=>?_) (fun h2=>?_)
 ·
  refine gSR<|Zq (zpb [(0,1),(1,1)] Tryz.underlying49 z3c (ZrE.nilS (ZrE.nilS ZrE.nil)) Z (zf4.done Z))<|Es (zom 1 Z Z (z0b.cast (z0b.cons z06 (z0b.cons z06 z0b.nil)) Z) Z (z3b.cons z1c (z3b.cons z1c z3b.nil)) (z0b.cast (z0b.cons z06 (z0b.cons z06 z0b.nil)) Z) z3c)<|Zb Z<|z0g<|z0l<|zkp aZ [.rd (z02 aZ) [],.val (.slice none 0 0)] 1 [] [.val (.slice none 0 0)] Z Z Z<|zkp z03 [.rd (z02 aZ) [],.rd (z02 z03) []] 1 [.rd (z02 aZ) []] [] Z Z Z<|zue (R:=z01) (⟨[],[]⟩:z00) 1 Z (Sp.via (Sp.prod (Sp.prod Sp.unit)))<|zap [] [1001] Z (eC 1 Z Z z7t<|eE Z<|eN) (y1 Z)
 ·
  refine Zt<|z42 (fun (s3:Unit) aa ww=>Sta (ctx 62 H [zG1] w) [(0,.rd (z02 z03) a0),(2,.val (z09 v1 0))] [(1,some (v1,.box 49 [.val (.slice none 0 0),.val (.slice none 0 0)])),zG1] aa ww) ?_ (fun s3=>?_)
  ·
   refine gSR<|Zm Z<|Zq (z2w Z .rd Z tu47)<|Zm Z<|Zn<|z1h (fun (s4:Int) aa ww=>Sta (ctx 62 H [zG1] w) [(0,.rd (z02 z03) a0),(2,.val (z09 v1 0)),(19,.rd (z02 z03) a0),(20,.rd z07 (a0.length:Int)),(21,.rd z07 s4)] [(1,some (v1,.box 49 [.val (.slice none 0 0),.val (.slice none 0 0)])),zG1] aa ww) (fun aa ww h=>Zu h [1,1001]) (fun s4=>?_)
   refine gSR<|Zq (I.lss Z Z)<|Zn<|z0m<|gIf Z Z (fun h5=>?_) (fun h5=>?_)
   ·
    refine Zt<|z0m<|z43<|gSR<|z0w fun x6 h7=>Zq (ixR Z Z h7 tu47 z7r Z)<|Zq (ldR Z zbe)<|Eb Z (z5w 1100 z7r (ZrE.rd (R:=z0r) (x:=0) (Zr.num Z) (ZrE.nilS (ZrE.rd (R:=z1u) (x:=0) (Zr.num Z) (ZrE.rd (R:=z0q) (x:=(⟨0,[],(⟨0,0,0,[]⟩:z05)⟩:z0f)) zpr (ZrE.rd (R:=z0s) (x:=(⟨0,0⟩:z0a)) zou ZrE.nil Z) Z) Z)) Z)) fun v8=>z8t aZ [.rd z0r 0,.rd (z02 aZ) [],.rd z1u 0,.rd z0q (⟨0,[],(⟨0,0,0,[]⟩:z05)⟩:z0f),.rd z0s (⟨0,0⟩:z0a)] 1100 [.rd z0r 0] [.rd z1u 0,.rd z0q (⟨0,[],(⟨0,0,0,[]⟩:z05)⟩:z0f),.rd z0s (⟨0,0⟩:z0a)] Z Z Z<|zbb (R:=z03) (⟨0,[],0,(⟨0,[],(⟨0,0,0,[]⟩:z05)⟩:z0f),(⟨0,0⟩:z0a)⟩:z04) 1100 Z (Sp.via (Sp.prod (Sp.prod (Sp.prod (Sp.prod (Sp.prod Sp.unit))))))<|Es (sto 1100 Z Z fH Z z7r)<|Zn<|gSR<|Zq (ld 1100 Z Z fH zbe Z)<|Zc [1001] [] Tryz.func64 Z (zk7 _) fun r9 n10=>Zb Z<|gSR<|Zm Z<|Zq (I.neq Z Z)<|Zj Z (fun h11=>?_) (fun h11=>?_)
    ·
     refine gSR<|Zq (zpb [(0,1),(1,1)] Tryz.underlying49 z3c (ZrE.nilS (ZrE.nilS ZrE.nil)) Z (zf4.done Z))<|Zm Z<|Es (zom 1 Z Z (z0b.cast (z0b.cons z06 (z0b.cons z06 z0b.nil)) Z) Z (z3b.cons z1c (z3b.cons z1c z3b.nil)) (z0b.cast (z0b.cons z06 (z0b.cons z06 z0b.nil)) Z) z3c)<|Zb Z<|z0g<|z2j<|z0l<|z3e<|z2z<|zkp aZ [.rd (z02 aZ) [],.val (.slice none 0 0)] 1 [] [.val (.slice none 0 0)] Z Z Z<|zkp z03 [.rd (z02 aZ) [],.rd (z02 z03) []] 1 [.rd (z02 aZ) []] [] Z Z Z<|zue (R:=z01) (⟨[],[]⟩:z00) 1 Z (Sp.via (Sp.prod (Sp.prod Sp.unit)))<|zap [] [1001] Z (eC 1 Z Z z7t<|eE Z<|eN) (y1 Z)
    ·
     refine z24<|z2t<|z0j<|z1y<|Zq (I.add Z Z)<|Zm Z<|z1k<|z1a (fun aa ww h=>Zu h [1,1001])
   ·
    refine z1f<|z0u<|z0v<|z3k (fun aa ww h=>Zu h [1,1001])
  ·
   refine gSR<|Eb Z (z5w 1101 z3c (ZrE.nilS (ZrE.nilS ZrE.nil))) fun v12=>Zn<|z42 (fun (s13:(List V3) × (List z04)) aa ww=>Sta (ctx 62 H [zG1] w) [(2,.val (z09 v1 0)),(7,.val (z09 v12 0))] [(1,some (v1,.box 49 [.val (.slice none 0 0),.val (.slice none 0 0)])),(1101,some (v12,.box 49 [.rd (z02 aZ) s13.1,.rd (z02 z03) s13.2])),zG1] aa ww) ?_ (fun s13=>?_)
   ·
    refine gSR<|Zm Z<|Zq (z2w Z .rd Z tu47)<|Zm Z<|Zn<|gPnl aZ [.rd (z02 aZ) [],.val (.slice none 0 0)] 1101 [] [.val (.slice none 0 0)] Z Z Z<|gPnl z03 [.rd (z02 aZ) [],.rd (z02 z03) []] 1101 [.rd (z02 aZ) []] [] Z Z Z<|z1h (fun (s14:(List V3) × (List z04) × Int) aa ww=>Sta (ctx 62 H [zG1] w) [(2,.val (z09 v1 0)),(7,.val (z09 v12 0)),(32,.rd (z02 z03) a0),(33,.rd z07 (a0.length:Int)),(34,.rd z07 s14.2.2)] [(1,some (v1,.box 49 [.val (.slice none 0 0),.val (.slice none 0 0)])),(1101,some (v12,.box 49 [.rd (z02 aZ) s14.1,.rd (z02 z03) s14.2.1])),zG1] aa ww) (fun aa ww h=>Zu h [1,1101,1001]) (fun s14=>?_)
    refine gSR<|Zq (I.lss Z Z)<|Zn<|z0m<|gIf Z Z (fun h15=>?_) (fun h15=>?_)
    ·
     refine Zt<|z0m<|z43<|gSR<|z0w fun x16 h17=>Zq (ixR Z Z h17 tu47 z7r Z)<|Zq (ldR Z zbe)<|Eb Z (z5w 1102 z7r (ZrE.rd (R:=z0r) (x:=0) (Zr.num Z) (ZrE.nilS (ZrE.rd (R:=z1u) (x:=0) (Zr.num Z) (ZrE.rd (R:=z0q) (x:=(⟨0,[],(⟨0,0,0,[]⟩:z05)⟩:z0f)) zpr (ZrE.rd (R:=z0s) (x:=(⟨0,0⟩:z0a)) zou ZrE.nil Z) Z) Z)) Z)) fun v18=>z8t aZ [.rd z0r 0,.rd (z02 aZ) [],.rd z1u 0,.rd z0q (⟨0,[],(⟨0,0,0,[]⟩:z05)⟩:z0f),.rd z0s (⟨0,0⟩:z0a)] 1102 [.rd z0r 0] [.rd z1u 0,.rd z0q (⟨0,[],(⟨0,0,0,[]⟩:z05)⟩:z0f),.rd z0s (⟨0,0⟩:z0a)] Z Z Z<|zbb (R:=z03) (⟨0,[],0,(⟨0,[],(⟨0,0,0,[]⟩:z05)⟩:z0f),(⟨0,0⟩:z0a)⟩:z04) 1102 Z (Sp.via (Sp.prod (Sp.prod (Sp.prod (Sp.prod (Sp.prod Sp.unit))))))<|Es (sto 1102 Z Z fH Z z7r)<|Zn<|gSR<|Zq (ld 1102 Z Z fH zbe Z)<|Zc [1001] [] Tryz.func65 Z (zuf _) fun r19 n20=>Zm Z<|Zq (ext Z Z)<|Zq (ext Z Z)<|Eb Z (z5w 1103 z5i (.zr (R:=aZ) (x:=(Vector.replicate 32 0)) zku)) fun v21=>Es (sto 1103 Z Z fH Z z5i)<|Zb Z<|gSR<|zbb (R:=z01) (⟨s14.1,s14.2.1⟩:z00) 1101 Z (Sp.via (Sp.prod (Sp.prod Sp.unit)))<|Zq (ld 1101 Z Z fH z7t Z)<|Zq (ld 1103 Z Z fH z8z Z)<|Zq (ld 1102 Z Z fH zbe Z)<|Zc [] [] Tryz.func66 Z (zoc _ _ _) fun r22 n23=>Zm Z<|Zq (ext Z Z)<|Zq (ext Z Z)<|Eb Z (z5w 1104 z3c (ZrE.nilS (ZrE.nilS ZrE.nil))) fun v24=>z8t aZ [.rd (z02 aZ) [],.val (.slice none 0 0)] 1104 [] [.val (.slice none 0 0)] Z Z Z<|z8t z03 [.rd (z02 aZ) [],.rd (z02 z03) []] 1104 [.rd (z02 aZ) []] [] Z Z Z<|zbb (R:=z01) (⟨[],[]⟩:z00) 1104 Z (Sp.via (Sp.prod (Sp.prod Sp.unit)))<|Es (sto 1104 Z Z fH Z z3c)<|Zb Z<|z0m<|gSR<|Zm Z<|Zq (zct Z)<|Zj Z (fun h25=>?_) (fun h25=>?_)
     ·
      refine gSR<|Zq (zpb [(0,1),(1,1)] Tryz.underlying49 z3c (ZrE.nilS (ZrE.nilS ZrE.nil)) Z (zf4.done Z))<|Es (zom 1 Z Z (z0b.cast (z0b.cons z06 (z0b.cons z06 z0b.nil)) Z) Z (z3b.cons z1c (z3b.cons z1c z3b.nil)) (z0b.cast (z0b.cons z06 (z0b.cons z06 z0b.nil)) Z) z3c)<|Zb Z<|z0g<|z0l<|z2j<|z0l<|z3e<|z2z<|zkp aZ [.rd (z02 aZ) [],.val (.slice none 0 0)] 1 [] [.val (.slice none 0 0)] Z Z Z<|zkp z03 [.rd (z02 aZ) [],.rd (z02 z03) []] 1 [.rd (z02 aZ) []] [] Z Z Z<|zue (R:=z01) (⟨[],[]⟩:z00) 1 Z (Sp.via (Sp.prod (Sp.prod Sp.unit)))<|zap [] [1001] Z (eC 1 Z Z z7t<|eE Z<|eN) (y1 Z)
     ·
      refine Zt<|z1y<|Zq (ld 1104 Z Z fH z7t Z)<|Es (sto 1101 Z Z fH Z z3c)<|z1k<|z2t<|z0j<|z1y<|Zq (I.add Z Z)<|Zm Z<|z1k<|eSpl (R:=z01) 1101 Z (Sp.via (Sp.prod (Sp.prod Sp.unit)))<|z1a (fun aa ww h=>Zu h [1,1101,1001])
    ·
     refine z1f<|z0u<|z0v<|z3k (fun aa ww h=>Zu h [1,1101,1001])
   ·
    refine z0m<|gSR<|zbb (R:=z01) (⟨s13.1,s13.2⟩:z00) 1101 Z (Sp.via (Sp.prod (Sp.prod Sp.unit)))<|Zq (ld 1101 Z Z fH z7t Z)<|Zc [] [] Tryz.func67 Z (zkf _) fun r26 n27=>Zb Z<|gSR<|Zm Z<|Zq (I.neq Z Z)<|Zj Z (fun h28=>?_) (fun h28=>?_)
    ·
     refine gSR<|Zq (zpb [(0,1),(1,1)] Tryz.underlying49 z3c (ZrE.nilS (ZrE.nilS ZrE.nil)) Z (zf4.done Z))<|Zm Z<|Es (zom 1 Z Z (z0b.cast (z0b.cons z06 (z0b.cons z06 z0b.nil)) Z) Z (z3b.cons z1c (z3b.cons z1c z3b.nil)) (z0b.cast (z0b.cons z06 (z0b.cons z06 z0b.nil)) Z) z3c)<|Zb Z<|z0g<|z0l<|zkp aZ [.rd (z02 aZ) [],.val (.slice none 0 0)] 1 [] [.val (.slice none 0 0)] Z Z Z<|zkp z03 [.rd (z02 aZ) [],.rd (z02 z03) []] 1 [.rd (z02 aZ) []] [] Z Z Z<|zue (R:=z01) (⟨[],[]⟩:z00) 1 Z (Sp.via (Sp.prod (Sp.prod Sp.unit)))<|zap [] [1001] Z (eC 1 Z Z z7t<|eE Z<|eN) (y1 Z)
    ·
     refine Zt<|gSR<|Zq (ld 1101 Z Z fH z7t Z)<|z8t aZ [.rd (z02 aZ) [],.val (.slice none 0 0)] 1 [] [.val (.slice none 0 0)] Z Z Z<|z8t z03 [.rd (z02 aZ) [],.rd (z02 z03) []] 1 [.rd (z02 aZ) []] [] Z Z Z<|zbb (R:=z01) (⟨[],[]⟩:z00) 1 Z (Sp.via (Sp.prod (Sp.prod Sp.unit)))<|Es (sto 1 Z Z fH Z z3c)<|Zb Z<|z0g<|zap [] [1001] Z (eC 1 Z Z z7t<|eE Z<|eN) (y1 Z)
def zck (a0:z04):Option (z04) :=
 app 32 ([]:List V3) a0.Preds >>= fun x4 =>
 some (⟨a0.Author,x4,a0.Stamp,a0.Act,a0.Sig⟩:z04)
def z47 (a0:z00) (s9:(List z04) × Int):Option (Sum ((List z04)) ((List z04) × Int)) :=
 if decide (s9.2<(a0.Ops.length:Int)) then
  idx a0.Ops s9.2 >>= fun x12 =>
  zck x12 >>= fun r14 =>
  app 112 s9.1 [r14] >>= fun x17 =>
  some (w64 (s9.2+1)) >>= fun y20 =>
  some (.inr (x17,y20))
 else
  some (.inl s9.1)
def zae (a0:z00):Option (z00) :=
 app 32 ([]:List V3) a0.IDs >>= fun x4 =>
 (iter (z47 a0) ([],0)) >>= fun s8 =>
 some (⟨x4,s8⟩:z00)
def z28 (a0:List V3) (a1:List V3) (s3:Int):Option (Sum (Sum Bool Unit) Int) :=
 if decide (s3<(a0.length:Int)) then
  idx a0 s3 >>= fun x5 =>
  idx a1 s3 >>= fun x7 =>
  if !decide (x5=x7) then
   some (.inl (.inl false))
  else
   some (.inr (w64 (s3+1)))
 else
  some (.inl (.inr ()))
def z3j (a0:List V3) (a1:List V3):Option (Bool) :=
 if (a0.length:Int) != (a1.length:Int) then
  some false
 else
  z3g (iter (z28 a0 a1) 0) fun s2 =>
  some true
theorem zb8 (a0:List V3) (a1:List V3):z1w Tryz.prog 46 [.rd (z02 aZ) a0,.rd (z02 aZ) a1] [] (z3j a0 a1) (fun r nv=>⟨[.rd z0p r],[]⟩):=by
 refine z2l 26 Tryz.func46 Z Z Z fun H w=>?_
 refine gSR<|Zb Z<|z0m<|gSR<|Zm Z<|Zq (z2w Z .rd Z tu46)<|Zm Z<|Zq (z2w Z .rd Z tu46)<|Zq (I.neq Z Z)<|Zj Z (fun h1=>?_) (fun h1=>?_)
 ·
  refine gSR<|Zb Z<|z0g<|z0l<|Ze [] [] Z
 ·
  refine Zt<|z42 (fun (s2:Unit) aa ww=>Sta (ctx 26 H [] w) [] [] aa ww) ?_ (fun s2=>?_)
  ·
   refine gSR<|Zb Z<|z1h (fun (s3:Int) aa ww=>Sta (ctx 26 H [] w) [(0,.rd (z02 aZ) a0),(1,.rd (z02 aZ) a1),(5,.rd z07 s3)] [] aa ww) (fun aa ww h=>Zu h []) (fun s3=>?_)
   refine z0m<|gSR<|Zm Z<|Zm Z<|Zq (z2w Z .rd Z tu46)<|Zq (I.lss Z Z)<|Zj Z (fun h4=>?_) (fun h4=>?_)
   ·
    refine Zt<|z0m<|z43<|z0m<|zfa mixed (by kernel_rfl)<|Rq Z (mv Z)<|Rq Z (mv Z)<|z5h fun x5 h6=>Rq Z (ixR Z Z h6 tu46 z5i Z)<|Rq Z (ldR Z z8z)<|Rq Z (mv Z)<|Rq Z (mv Z)<|z5h fun x7 h8=>Rq Z (ixR Z Z h8 tu46 z5i Z)<|Rq Z (ldR Z z8z)<|Rq Z (neA Z Z eq94 Z Z gq94)<|zpu<|z0j<|gIf Z Z (fun h9=>?_) (fun h9=>?_)
    ·
     refine gSR<|Zb Z<|z0g<|z2j<|z0l<|z3e<|z2z<|Ze [] [] Z
    ·
     refine z24<|z2t<|z0j<|z1y<|Zm Z<|Zq (I.add Z Z)<|Za Z<|z1k<|z1a (fun aa ww h=>Zu h [])
   ·
    refine z1f<|z0u<|z0v<|z3k (fun aa ww h=>Zu h [])
  ·
   refine gSR<|Zb Z<|z0g<|Ze [] [] Z
def z5q (a0:z04) (a1:z04):Option (Bool) :=
 if a0.Author==a1.Author then
  z3j a0.Preds a1.Preds >>= fun r4 =>
  if r4 then
   if a0.Stamp==a1.Stamp then
    if decide (a0.Act=a1.Act) then
     some (decide (a0.Sig=a1.Sig)) >>= fun y9 =>
     some y9
    else
     some false
   else
    some false
  else
   some false
 else
  some false
theorem zd6 (a0:z04) (a1:z04):z1w Tryz.prog 47 [.rd z03 a0,.rd z03 a1] [] (z5q a0 a1) (fun r nv=>⟨[.rd z0p r],[]⟩):=by
 refine z2l 38 Tryz.func47 Z Z Z fun H w=>?_
 refine gSR<|Eb Z (bx 1 Z) fun v1=>Eb Z (bx 2 Z) fun v2=>Zb Z<|gSR<|Zq (faB 1 Z Z Tryz.underlying86 Z (by exact z5e))<|Zq (ld 1 Z Z (fP (z23 _)) z7w Z)<|Zq (faB 2 Z Z Tryz.underlying86 Z (by exact z5e))<|Zq (ld 2 Z Z (fP (z23 _)) z7w Z)<|Zq (W.eql Z Z)<|Zm Z<|z15 10 Z (fun h3=>?_) (fun h3=>?_)
 ·
  refine lKn 9 Z h3<|z0y Zx Z Z (faB 1 Z Z Tryz.underlying86 Z (by exact z8d))<|z0y Zx Z Z (ld 1 Z Z (fP (z0z _)) z9w Z)<|z0y Zx Z Z (faB 2 Z Z Tryz.underlying86 Z (by exact z8d))<|z0y Zx Z Z (ld 2 Z Z (fP (z0z _)) z9w Z)<|zdo [] [] Zx Z Tryz.func46 Z Z (zb8 _ _) (Y2 Z Z) rN fun r4 n5=>Zq (pkT Z Z)<|Zm Z<|z15 17 Z (fun h6=>?_) (fun h6=>?_)
  ·
   refine lKn 15 Z h6<|lKn 16 Z h6<|z0y Zx Z Z (faB 1 Z Z Tryz.underlying86 Z (by exact zlq))<|z0y Zx Z Z (ld 1 Z Z (fP (z2r _)) znt Z)<|z0y Zx Z Z (faB 2 Z Z Tryz.underlying86 Z (by exact zlq))<|z0y Zx Z Z (ld 2 Z Z (fP (z2r _)) znt Z)<|z0y Zx Z Z (U.eql Z Z)<|Zq (pkT Z Z)<|Zm Z<|z15 24 Z (fun h7=>?_) (fun h7=>?_)
   ·
    refine lKn 22 Z h7<|lKn 23 Z h7<|z0y Zx Z Z (faB 1 Z Z Tryz.underlying86 Z (by exact zks))<|z0y Zx Z Z (ld 1 Z Z (fP (z1e _)) ty82 Z)<|z0y Zx Z Z (faB 2 Z Z Tryz.underlying86 Z (by exact zks))<|z0y Zx Z Z (ld 2 Z Z (fP (z1e _)) ty82 Z)<|z0y Zx Z Z (eqA Z Z eq82 Z Z gq82)<|Zq (pkT Z Z)<|Zm Z<|z15 31 Z (fun h8=>?_) (fun h8=>?_)
    ·
     refine lKn 29 Z h8<|lKn 30 Z h8<|z0y Zx Z Z (faB 1 Z Z Tryz.underlying86 Z (by exact zjr))<|z0y Zx Z Z (ld 1 Z Z (fP (z1x _)) ty84 Z)<|z0y Zx Z Z (faB 2 Z Z Tryz.underlying86 Z (by exact zjr))<|z0y Zx Z Z (ld 2 Z Z (fP (z1x _)) ty84 Z)<|z0y Zx Z Z (eqA Z Z eq84 Z Z gq84)<|Zq (pkT Z Z)<|Za Z<|z2d 4 Z fun y9=>Zn<|z0g<|Ze [] [] Z
    ·
     refine lKn 29 Z h8<|lKn 30 Z h8<|Zk Z<|Zk Z<|Zk Z<|Zk Z<|Zk Z<|Zq (pkF Z Z)<|Zb Z<|z0g<|Ze [] [] Z
   ·
    refine lKn 22 Z h7<|lKn 23 Z h7<|Zk Z<|Zk Z<|Zk Z<|Zk Z<|Zk Z<|Zq (pkF Z Z)<|Zm Z<|Zk Z<|Zk Z<|Zk Z<|Zk Z<|Zk Z<|Zq (pkF Z Z)<|Zb Z<|z0g<|Ze [] [] Z
  ·
   refine lKn 15 Z h6<|lKn 16 Z h6<|Zk Z<|Zk Z<|Zk Z<|Zk Z<|Zk Z<|Zq (pkF Z Z)<|Zm Z<|Zk Z<|Zk Z<|Zk Z<|Zk Z<|Zk Z<|Zq (pkF Z Z)<|Zm Z<|Zk Z<|Zk Z<|Zk Z<|Zk Z<|Zk Z<|Zq (pkF Z Z)<|Zb Z<|z0g<|Ze [] [] Z
 ·
  refine lKn 9 Z h3<|Zk Z<|Zk Z<|Zk Z<|Zk Z<|Zk Z<|Zq (pkF Z Z)<|Zm Z<|Zk Z<|Zk Z<|Zk Z<|Zk Z<|Zk Z<|Zq (pkF Z Z)<|Zm Z<|Zk Z<|Zk Z<|Zk Z<|Zk Z<|Zk Z<|Zq (pkF Z Z)<|Zm Z<|Zk Z<|Zk Z<|Zk Z<|Zk Z<|Zk Z<|Zq (pkF Z Z)<|Zb Z<|z0g<|Ze [] [] Z
def z7y (a0:z00) (a1:z00) (s8:Int):Option (Sum (Sum Bool Unit) Int) :=
 if decide (s8<(a0.Ops.length:Int)) then
  idx a0.Ops s8 >>= fun x10 =>
  idx a1.Ops s8 >>= fun x12 =>
  z5q x10 x12 >>= fun r14 =>
  if !r14 then
   some (.inl (.inl false))
  else
   some (.inr (w64 (s8+1)))
 else
  some (.inl (.inr ()))
def z84 (a0:z00) (a1:z00):Option (Bool) :=
 z3j a0.IDs a1.IDs >>= fun r3 =>
 if !r3 then
  some false
 else
  if (a0.Ops.length:Int) != (a1.Ops.length:Int) then
   some false
  else
   z3g (iter (z7y a0 a1) 0) fun s7 =>
   some true
theorem zd7 (a0:z00) (a1:z00):z1w Tryz.prog 26 [.rd z01 a0,.rd z01 a1] [] (z84 a0 a1) (fun r nv=>⟨[.rd z0p r],[]⟩):=by
 refine z2l 40 Tryz.func26 Z Z Z fun H w=>?_
 refine gSR<|Eb Z (bx 1 Z) fun v1=>Eb Z (bx 2 Z) fun v2=>Zb Z<|z0m<|gSR<|Zq (faB 1 Z Z Tryz.underlying49 Z (by exact z8d))<|Zq (ld 1 Z Z (fP (z0e _)) z9w Z)<|Zq (faB 2 Z Z Tryz.underlying49 Z (by exact z8d))<|Zq (ld 2 Z Z (fP (z0e _)) z9w Z)<|Zc [] [] Tryz.func46 Z (zb8 _ _) fun r3 n4=>Zq (zct Z)<|Zm Z<|z15 12 Z (fun h5=>?_) (fun h5=>?_)
 ·
  refine lKn 11 Z h5<|Zk Z<|Zk Z<|Zk Z<|Zk Z<|Zk Z<|Zk Z<|Zk Z<|Zq (pkT Z Z)<|Zn<|zcu Z<|gSR<|Zb Z<|z0g<|z0l<|Ze [] [] Z
 ·
  refine lKn 11 Z h5<|z0y Zx Z Z (faB 1 Z Z Tryz.underlying49 Z (by exact z9o))<|z0y Zx Z Z (ld 1 Z Z (fP (z08 _)) zcv Z)<|z0y Zx Z Z (z2w Z .rd Z tu47)<|z0y Zx Z Z (faB 2 Z Z Tryz.underlying49 Z (by exact z9o))<|z0y Zx Z Z (ld 2 Z Z (fP (z08 _)) zcv Z)<|z0y Zx Z Z (z2w Z .rd Z tu47)<|z0y Zx Z Z (I.neq Z Z)<|Zq (pkF Z Z)<|Zj Z (fun h6=>?_) (fun h6=>?_)
  ·
   refine gKn 19 Z h6<|gSR<|Zb Z<|z0g<|z0l<|Ze [] [] Z
  ·
   refine gKn 19 Z h6<|Zt<|z42 (fun (s7:Unit) aa ww=>Sta (ctx 40 H [] w) [] [] aa ww) ?_ (fun s7=>?_)
   ·
    refine gSR<|Zb Z<|z1h (fun (s8:Int) aa ww=>Sta (ctx 40 H [] w) [(2,.val (z09 v1 0)),(3,.val (z09 v2 0)),(5,.rd z07 s8)] [(1,some (v1,.box 49 [.rd z01 a0])),(2,some (v2,.box 49 [.rd z01 a1]))] aa ww) (fun aa ww h=>Zu h [1,2]) (fun s8=>?_)
    refine z0m<|gSR<|Zm Z<|Zq (faB 1 Z Z Tryz.underlying49 Z (by exact z9o))<|Zq (ld 1 Z Z (fP (z08 _)) zcv Z)<|Zq (z2w Z .rd Z tu47)<|Zq (I.lss Z Z)<|Zj Z (fun h9=>?_) (fun h9=>?_)
    ·
     refine Zt<|z0m<|z43<|z0m<|z5v [] mixed Z Z<|hTk 0 Z Z (faB 1 Z Z Tryz.underlying49 Z (by exact z9o))<|hTk 1 Z Z (ld 1 Z Z (fP (z08 _)) zcv Z)<|hTk 2 Z Z (mv Z)<|z3z fun x10 h11=>hTk 3 Z Z (ixR Z Z h11 tu47 z7r Z)<|hTk 4 Z Z (ldR Z zbe)<|hTk 5 Z Z (faB 2 Z Z Tryz.underlying49 Z (by exact z9o))<|hTk 6 Z Z (ld 2 Z Z (fP (z08 _)) zcv Z)<|hTk 7 Z Z (mv Z)<|z3z fun x12 h13=>hTk 8 Z Z (ixR Z Z h13 tu47 z7r Z)<|hTk 9 Z Z (ldR Z zbe)<|z3i 10 [] [] Z (by kernel_rfl) Z (gd0 Z) Z Tryz.func47 Z Z (zd6 _ _) (Y2 Z Z) rN Z (fun _ _=>z6j) fun r14 n15=>hTk 11 Z Z (zct Z)<|z3f (by kernel_rfl)<|z0j<|gIf Z Z (fun h16=>?_) (fun h16=>?_)
     ·
      refine gSR<|Zb Z<|z0g<|z2j<|z0l<|z3e<|z2z<|Ze [] [] Z
     ·
      refine z24<|z2t<|z0j<|z1y<|Zm Z<|Zq (I.add Z Z)<|Za Z<|z1k<|z1a (fun aa ww h=>Zu h [1,2])
    ·
     refine z1f<|z0u<|z0v<|z3k (fun aa ww h=>Zu h [])
   ·
    refine gSR<|Zb Z<|z0g<|Ze [] [] Z
end
section
open Go Go.RowKit
set_option maxRecDepth 100000
def z67 (a0:z04):Option (Bool) :=
 if decide (20<(a0.Preds.length:Int)) then
  some true
 else
  if decide (100<(a0.Act.Key.length:Int)) then
   some true
  else
   some (decide (100<(a0.Act.Value.Text.length:Int))) >>= fun y4 =>
   some y4
theorem zhx (a0:z04):z1w Tryz.prog 50 [.rd z03 a0] [] (z67 a0) (fun r nv=>⟨[.rd z0p r],[]⟩):=by
 refine z2l 22 Tryz.func50 Z Z Z fun H w=>?_
 refine gSR<|Eb Z (bx 1 Z) fun v1=>Zb Z<|gSR<|Zq (faB 1 Z Z Tryz.underlying86 Z (by exact z8d))<|Zq (ld 1 Z Z (fP (z0z _)) z9w Z)<|Zq (z2w Z .rd Z tu46)<|Zq (I.gtr Z Z)<|Zm Z<|z15 7 Z (fun h2=>?_) (fun h2=>?_)
 ·
  refine lKn 6 Z h2<|Zk Z<|Zk Z<|Zk Z<|Zk Z<|Zk Z<|Zq (pkT Z Z)<|Zm Z<|Zk Z<|Zk Z<|Zk Z<|Zk Z<|Zk Z<|Zk Z<|Zq (pkT Z Z)<|Zb Z<|z0g<|Ze [] [] Z
 ·
  refine lKn 6 Z h2<|z0y Zx Z Z (faB 1 Z Z Tryz.underlying86 Z (by exact zks))<|z0y Zx Z Z (faB 1 Z Z Tryz.underlying82 Z (by exact ti9))<|z0y Zx Z Z (ld 1 Z Z ((fP (z1e _)).part (z5g _)) ty9 Z)<|z0y Zx Z Z (lenT Z Z tu9)<|z0y Zx Z Z (I.gtr Z Z)<|Zq (pkF Z Z)<|Zm Z<|z15 14 Z (fun h3=>?_) (fun h3=>?_)
  ·
   refine lKn 12 Z h3<|lKn 13 Z h3<|Zk Z<|Zk Z<|Zk Z<|Zk Z<|Zk Z<|Zk Z<|Zq (pkT Z Z)<|Zb Z<|z0g<|Ze [] [] Z
  ·
   refine lKn 12 Z h3<|lKn 13 Z h3<|z0y Zx Z Z (faB 1 Z Z Tryz.underlying86 Z (by exact zks))<|z0y Zx Z Z (faB 1 Z Z Tryz.underlying82 Z (by exact zjo))<|z0y Zx Z Z (faB 1 Z Z Tryz.underlying80 Z (by exact ti9))<|z0y Zx Z Z (ld 1 Z Z (((fP (z1e _)).part (z57 _)).part (z3d _)) ty9 Z)<|z0y Zx Z Z (lenT Z Z tu9)<|z0y Zx Z Z (I.gtr Z Z)<|Zq (pkF Z Z)<|Za Z<|z2d 2 Z fun y4=>Zn<|z0g<|Ze [] [] Z
def z4k (a0:z00) (s3:Int):Option (Sum (Sum Bool Unit) Int) :=
 if decide (s3<(a0.Ops.length:Int)) then
  if decide (s3≤70) then
   idx a0.Ops s3 >>= fun x6 =>
   z67 x6 >>= fun r8 =>
   if r8 then
    some (.inl (.inl true))
   else
    some (.inr (w64 (s3+1)))
  else
   some (.inl (.inr ()))
 else
  some (.inl (.inr ()))
def z9c (a0:z00):Option (Bool) :=
 z3g (iter (z4k a0) 0) fun s2 =>
 if decide (16<(a0.Ops.length:Int)) then
  if decide ((a0.Ops.length:Int)≤60) then
   some true
  else
   if decide (70<(a0.Ops.length:Int)) then
    some true
   else
    some (decide (70<(a0.IDs.length:Int))) >>= fun y14 =>
    some y14
 else
  if decide (70<(a0.Ops.length:Int)) then
   some true
  else
   some (decide (70<(a0.IDs.length:Int))) >>= fun y16 =>
   some y16
theorem zhr (a0:z00):z1w Tryz.prog 30 [.rd z01 a0] [] (z9c a0) (fun r nv=>⟨[.rd z0p r],[]⟩):=by
 refine z2l 43 Tryz.func30 Z Z Z fun H w=>?_
 refine gSR<|Eb Z (bx 1 Z) fun v1=>Zb Z<|z42 (fun (s2:Unit) aa ww=>Sta (ctx 43 H [] w) [(1,.val (z09 v1 0))] [(1,some (v1,.box 49 [.rd z01 a0]))] aa ww) ?_ (fun s2=>?_)
 ·
  refine gSR<|Zb Z<|z1h (fun (s3:Int) aa ww=>Sta (ctx 43 H [] w) [(1,.val (z09 v1 0)),(3,.rd z07 s3)] [(1,some (v1,.box 49 [.rd z01 a0]))] aa ww) (fun aa ww h=>Zu h [1]) (fun s3=>?_)
  refine z0m<|gSR<|Zm Z<|Zq (faB 1 Z Z Tryz.underlying49 Z (by exact z9o))<|Zq (ld 1 Z Z (fP (z08 _)) zcv Z)<|Zq (z2w Z .rd Z tu47)<|Zq (I.lss Z Z)<|Zm Z<|z15 9 Z (fun h4=>?_) (fun h4=>?_)
  ·
   refine lKn 8 Z h4<|z0y Zx Z Z (mv Z)<|z0y Zx Z Z (I.leq Z Z)<|Zq (pkT Z Z)<|Zj Z (fun h5=>?_) (fun h5=>?_)
   ·
    refine gKn 11 Z h5<|Zt<|z0m<|z43<|gSR<|Zq (faB 1 Z Z Tryz.underlying49 Z (by exact z9o))<|Zq (ld 1 Z Z (fP (z08 _)) zcv Z)<|Zm Z<|z0w fun x6 h7=>Zq (ixR Z Z h7 tu47 z7r Z)<|Zq (ldR Z zbe)<|Zc [] [] Tryz.func50 Z (zhx _) fun r8 n9=>Zj Z (fun h10=>?_) (fun h10=>?_)
    ·
     refine gSR<|Zb Z<|z0g<|z2j<|z0l<|z3e<|z2z<|Ze [] [] Z
    ·
     refine z24<|z2t<|z0j<|z1y<|Zm Z<|Zq (I.add Z Z)<|Za Z<|z1k<|z1a (fun aa ww h=>Zu h [1])
   ·
    refine gKn 11 Z h5<|z1f<|z0u<|z0v<|z3k (fun aa ww h=>Zu h [1])
  ·
   refine lKn 8 Z h4<|Zk Z<|Zk Z<|Zq (pkF Z Z)<|Zn<|zbi Z<|z1f<|z0u<|z0v<|z3k (fun aa ww h=>Zu h [1])
 ·
  refine gSR<|Zq (faB 1 Z Z Tryz.underlying49 Z (by exact z9o))<|Zq (ld 1 Z Z (fP (z08 _)) zcv Z)<|Zq (z2w Z .rd Z tu47)<|Zq (I.gtr Z Z)<|Zm Z<|z15 25 Z (fun h11=>?_) (fun h11=>?_)
  ·
   refine lKn 24 Z h11<|z0y Zx Z Z (faB 1 Z Z Tryz.underlying49 Z (by exact z9o))<|z0y Zx Z Z (ld 1 Z Z (fP (z08 _)) zcv Z)<|z0y Zx Z Z (z2w Z .rd Z tu47)<|z0y Zx Z Z (I.leq Z Z)<|Zq (pkT Z Z)<|Zm Z<|z15 31 Z (fun h12=>?_) (fun h12=>?_)
   ·
    refine lKn 29 Z h12<|lKn 30 Z h12<|Zk Z<|Zk Z<|Zk Z<|Zk Z<|Zq (pkT Z Z)<|Zm Z<|Zk Z<|Zk Z<|Zk Z<|Zk Z<|Zq (pkT Z Z)<|Zb Z<|z0g<|Ze [] [] Z
   ·
    refine lKn 29 Z h12<|lKn 30 Z h12<|z0y Zx Z Z (faB 1 Z Z Tryz.underlying49 Z (by exact z9o))<|z0y Zx Z Z (ld 1 Z Z (fP (z08 _)) zcv Z)<|z0y Zx Z Z (z2w Z .rd Z tu47)<|z0y Zx Z Z (I.gtr Z Z)<|Zq (pkF Z Z)<|Zm Z<|z15 37 Z (fun h13=>?_) (fun h13=>?_)
    ·
     refine lKn 35 Z h13<|lKn 36 Z h13<|Zk Z<|Zk Z<|Zk Z<|Zk Z<|Zq (pkT Z Z)<|Zb Z<|z0g<|Ze [] [] Z
    ·
     refine lKn 35 Z h13<|lKn 36 Z h13<|z0y Zx Z Z (faB 1 Z Z Tryz.underlying49 Z (by exact z8d))<|z0y Zx Z Z (ld 1 Z Z (fP (z0e _)) z9w Z)<|z0y Zx Z Z (z2w Z .rd Z tu46)<|z0y Zx Z Z (I.gtr Z Z)<|Zq (pkF Z Z)<|Za Z<|z2d 2 Z fun y14=>Zn<|z0g<|Ze [] [] Z
  ·
   refine lKn 24 Z h11<|Zk Z<|Zk Z<|Zk Z<|Zk Z<|Zq (pkF Z Z)<|Zm Z<|z0y Zx Z Z (faB 1 Z Z Tryz.underlying49 Z (by exact z9o))<|z0y Zx Z Z (ld 1 Z Z (fP (z08 _)) zcv Z)<|z0y Zx Z Z (z2w Z .rd Z tu47)<|z0y Zx Z Z (I.gtr Z Z)<|Zq (pkF Z Z)<|Zm Z<|z15 37 Z (fun h15=>?_) (fun h15=>?_)
   ·
    refine lKn 35 Z h15<|lKn 36 Z h15<|Zk Z<|Zk Z<|Zk Z<|Zk Z<|Zq (pkT Z Z)<|Zb Z<|z0g<|Ze [] [] Z
   ·
    refine lKn 35 Z h15<|lKn 36 Z h15<|z0y Zx Z Z (faB 1 Z Z Tryz.underlying49 Z (by exact z8d))<|z0y Zx Z Z (ld 1 Z Z (fP (z0e _)) z9w Z)<|z0y Zx Z Z (z2w Z .rd Z tu46)<|z0y Zx Z Z (I.gtr Z Z)<|Zq (pkF Z Z)<|Za Z<|z2d 2 Z fun y16=>Zn<|z0g<|Ze [] [] Z
end
section
open Go Go.RowKit
set_option maxRecDepth 100000
def zdv (a0:UInt32):Option (Int) :=
 if decide (500000002≤(a0 - 1)) then
  some 2
 else
  some 0
theorem zil (a0:UInt32):z1w Tryz.prog 80 [.rd z0r a0] [] (zdv a0) (fun r nv=>⟨[.rd z07 r],[]⟩):=by
 refine z2l 6 Tryz.func80 Z Z Z fun H w=>?_
 refine gSR<|Zb Z<|z0m<|gSR<|Zm Z<|Zq (W.sub Z Z)<|Zq (W.geq Z Z)<|Zj Z (fun h1=>?_) (fun h1=>?_)
 ·
  refine gSR<|Zb Z<|z0g<|z0l<|Ze [] [] Z
 ·
  refine Zt<|gSR<|Zb Z<|z0g<|Ze [] [] Z
def zch (a0:UInt32):Option (UInt32 × Int) :=
 zdv a0 >>= fun r1 =>
 if r1 != 0 then
  some (0,r1)
 else
  zaw a0.toUInt64 >>= fun r4 =>
  some (r4,0)
theorem zh4 (a0:UInt32):z1w Tryz.prog 60 [.rd z0r a0] [] (zch a0) (fun r nv=>⟨[.rd z0r r.1,.rd z07 r.2],[]⟩):=by
 refine z2l 13 Tryz.func60 Z Z Z fun H w=>?_
 refine gSR<|Za Z<|Zb Z<|z0m<|gSR<|Zm Z<|Zc [] [] Tryz.func80 Z (zil _) fun r1 n2=>Zb Z<|gSR<|Zm Z<|Zq (I.neq Z Z)<|Zj Z (fun h3=>?_) (fun h3=>?_)
 ·
  refine gSR<|Zm Z<|Za Z<|Zb Z<|z0g<|z0l<|Ze [] [] Z
 ·
  refine Zt<|gSR<|Zm Z<|Zq (W.toU Z tu78 tu56)<|Zc [] [] Tryz.func81 Z (zez _) fun r4 n5=>Za Z<|Zb Z<|z0g<|Ze [] [] Z
def zgi (a0:UInt32) (a1:List UInt8):Option (UInt32 × Int) :=
 zdv a0 >>= fun r1 =>
 if r1 != 0 then
  some (0,r1)
 else
  zcl 110 a1 [a0] >>= fun r5 =>
  if r5.2 != 0 then
   some (0,r5.2)
  else
   some (((r5.1 % 500000002).toUInt32)+1) >>= fun y8 =>
   some (y8,0)
theorem zpo (a0:UInt32) (a1:List UInt8):z1w Tryz.prog 88 [.rd z0r a0,.rd (z02 u8R) a1] [zG1] (zgi a0 a1) (fun r nv=>⟨[.rd z0r r.1,.rd z07 r.2],[(1001,some (.bool true,.glob 1 (z2o 64 z0r) z54))]⟩):=by
 refine z2l 28 Tryz.func88 Z Z Z fun H w=>?_
 refine gSR<|Za Z<|Zb Z<|z0m<|gSR<|Zm Z<|Zc [] [] Tryz.func80 Z (zil _) fun r1 n2=>Zb Z<|gSR<|Zm Z<|Zq (I.neq Z Z)<|Zj Z (fun h3=>?_) (fun h3=>?_)
 ·
  refine gSR<|Zm Z<|Za Z<|Zb Z<|z0g<|z0l<|Ze [] [1001] Z
 ·
  refine Zt<|gSR<|Zm Z<|Zm Z<|Ef Z (lit (R:=z0r) ([a0]:List UInt32) 1 (pP Z Z<|pN) Z tu188 z5e Z Z) fun v4=>zc6 1 [17] Z (fS Z<|fN)<|Zc [1001] [] Tryz.func117 Z (zke _ _ _) fun r5 n6=>Zm Z<|Zq (ext Z Z)<|Zq (ext Z Z)<|Za Z<|Zb Z<|z0m<|gSR<|Zm Z<|Zq (I.neq Z Z)<|Zj Z (fun h7=>?_) (fun h7=>?_)
  ·
   refine gSR<|Zm Z<|Za Z<|Zb Z<|z0g<|z0l<|Ze [] [1001] Z
  ·
   refine Zt<|gSR<|Zm Z<|Zq (U.rem Z Z (by decide))<|Zq (U.toW Z tu56 tu78)<|Zq (W.add Z Z)<|Za Z<|z2d 4 Z fun y8=>Zb Z<|z0g<|Ze [] [1001] Z
def zen (a0:UInt32) (a1:UInt32):Option (UInt32 × Int) :=
 if decide (500000003≤(max a0 a1)) then
  some (0,2)
 else
  zah 500000003 [a0,a1] >>= fun r3 =>
  some (r3,0)
theorem znd (a0:UInt32) (a1:UInt32):z1w Tryz.prog 90 [.rd z0r a0,.rd z0r a1] [] (zen a0 a1) (fun r nv=>⟨[.rd z0r r.1,.rd z07 r.2],[]⟩):=by
 refine z2l 14 Tryz.func90 Z Z Z fun H w=>?_
 refine gSR<|Za Z<|Zb Z<|z0m<|gSR<|Zm Z<|Zm Z<|Zq (W.max Z Z)<|Zq (W.geq Z Z)<|Zj Z (fun h1=>?_) (fun h1=>?_)
 ·
  refine gSR<|Za Z<|Zb Z<|z0g<|z0l<|Ze [] [] Z
 ·
  refine Zt<|gSR<|Zm Z<|Zm Z<|Ef Z (lit (R:=z0r) ([a0,a1]:List UInt32) 1 (pP Z Z<|pP Z Z<|pN) Z tu188 z5e Z Z) fun v2=>zc6 1 [12] Z (fS Z<|fN)<|Zc [] [] Tryz.func118 Z (zd9 _ _) fun r3 n4=>Za Z<|Zb Z<|z0g<|Ze [] [] Z
def zga (a0:UInt32) (a1:UInt32):Option (UInt32 × Int) :=
 if decide (500000003≤(max a0 a1)) then
  some (0,2)
 else
  some ((a0+a1) % 500000003) >>= fun y2 =>
  some (y2,0)
theorem zp9 (a0:UInt32) (a1:UInt32):z1w Tryz.prog 91 [.rd z0r a0,.rd z0r a1] [] (zga a0 a1) (fun r nv=>⟨[.rd z0r r.1,.rd z07 r.2],[]⟩):=by
 refine z2l 14 Tryz.func91 Z Z Z fun H w=>?_
 refine gSR<|Za Z<|Zb Z<|z0m<|gSR<|Zm Z<|Zm Z<|Zq (W.max Z Z)<|Zq (W.geq Z Z)<|Zj Z (fun h1=>?_) (fun h1=>?_)
 ·
  refine gSR<|Za Z<|Zb Z<|z0g<|z0l<|Ze [] [] Z
 ·
  refine Zt<|gSR<|Zm Z<|Zm Z<|Zq (W.add Z Z)<|Zq (W.rem Z Z (by decide))<|Za Z<|z2d 4 Z fun y2=>Zb Z<|z0g<|Ze [] [] Z
def zj0 (a0:UInt32) (a1:List UInt8):Option (z0a × Int) :=
 zgi a0 a1 >>= fun r2 =>
 if r2.2 != 0 then
  some ((⟨0,0⟩:z0a),r2.2)
 else
  zch a0 >>= fun r5 =>
  zaw r2.1.toUInt64 >>= fun r7 =>
  z90 r7 r5.1 a1 >>= fun r9 =>
  zen r9.1 a0 >>= fun r11 =>
  zga r2.1 r11.1 >>= fun r13 =>
  some ((⟨r9.1,r13.1⟩:z0a),0)
theorem zqp (a0:UInt32) (a1:List UInt8):z1w Tryz.prog 63 [.rd z0r a0,.rd (z02 u8R) a1] [zG1] (zj0 a0 a1) (fun r nv=>⟨[.rd z0s r.1,.rd z07 r.2],[(1001,some (.bool true,.glob 1 (z2o 64 z0r) z54))]⟩):=by
 refine z2l 55 Tryz.func63 Z Z Z fun H w=>?_
 refine gSR<|Eb Z (z5w 1 zjr (.zr (R:=z0s) (x:=(⟨0,0⟩:z0a)) zou)) fun v1=>Zb Z<|gSR<|Zm Z<|Zm Z<|Zc [1001] [] Tryz.func88 Z (zpo _ _) fun r2 n3=>Zm Z<|Zq (ext Z Z)<|Zq (ext Z Z)<|Za Z<|Zb Z<|z0m<|gSR<|Zm Z<|Zq (I.neq Z Z)<|Zj Z (fun h4=>?_) (fun h4=>?_)
 ·
  refine gSR<|Zq (bld (x':=(⟨0,0⟩:z0a)) [(0,1),(1,1)] Tryz.underlying84 zjr Z zou Z (Bld.done Z))<|Zm Z<|Es (sto 1 Z Z fH Z zjr)<|Zb Z<|z0g<|z0l<|zap [] [1001] Z (eC 1 Z Z ty84<|eE Z<|eN) (y1 Z)
 ·
  refine Zt<|gSR<|Zm Z<|Zc [] [] Tryz.func60 Z (zh4 _) fun r5 n6=>Zm Z<|Zq (ext Z Z)<|Zq (ext Z Z)<|Za Z<|Zb Z<|gSR<|Zm Z<|Zq (W.toU Z tu78 tu56)<|Zc [] [] Tryz.func81 Z (zez _) fun r7 n8=>Zm Z<|Zm Z<|Zc [1001] [] Tryz.func89 Z (ze2 _ _ _) fun r9 n10=>Zm Z<|Zq (ext Z Z)<|Zq (ext Z Z)<|Za Z<|Zb Z<|gSR<|Zm Z<|Zm Z<|Zc [] [] Tryz.func90 Z (znd _ _) fun r11 n12=>Zm Z<|Zq (ext Z Z)<|Zq (ext Z Z)<|Za Z<|Zb Z<|gSR<|Zm Z<|Zm Z<|Zc [] [] Tryz.func91 Z (zp9 _ _) fun r13 n14=>Zm Z<|Zq (ext Z Z)<|Zq (ext Z Z)<|Za Z<|Zb Z<|gSR<|Zm Z<|Zm Z<|Zq (bld (x':=(⟨r9.1,r13.1⟩:z0a)) [(0,1),(1,1)] Tryz.underlying84 zjr Z zou Z (Bld.cons (z4w _) Z Z<|Bld.cons (z6f _) Z Z<|Bld.done Z))<|Es (sto 1 Z Z fH Z zjr)<|Zb Z<|z0g<|zap [] [1001] Z (eC 1 Z Z ty84<|eE Z<|eN) (y1 Z)
def zjw (a0:UInt32) (a1:z04):Option (z04 × Int) :=
 zch a0 >>= fun r3 =>
 if r3.2 != 0 then
  some ((⟨0,[],0,(⟨0,[],(⟨0,0,0,[]⟩:z05)⟩:z0f),(⟨0,0⟩:z0a)⟩:z04),r3.2)
 else
  z0n a1.Preds >>= fun r6 =>
  zas (⟨({ a1 with Author:=r3.1 }).Author,r6,({ a1 with Author:=r3.1 }).Stamp,({ a1 with Author:=r3.1 }).Act,({ a1 with Author:=r3.1 }).Sig⟩:z04) >>= fun r8 =>
  if r8.2 != 0 then
   some ((⟨0,[],0,(⟨0,[],(⟨0,0,0,[]⟩:z05)⟩:z0f),(⟨0,0⟩:z0a)⟩:z04),r8.2)
  else
   zj0 a0 r8.1 >>= fun r11 =>
   some ({ (⟨({ a1 with Author:=r3.1 }).Author,r6,({ a1 with Author:=r3.1 }).Stamp,({ a1 with Author:=r3.1 }).Act,({ a1 with Author:=r3.1 }).Sig⟩:z04) with Sig:=r11.1 },0)
theorem zno (a0:UInt32) (a1:z04):z1w Tryz.prog 42 [.rd z0r a0,.rd z03 a1] [zG1] (zjw a0 a1) (fun r nv=>⟨[.rd z03 r.1,.rd z07 r.2],[(1001,some (.bool true,.glob 1 (z2o 64 z0r) z54))]⟩):=by
 refine z2l 41 Tryz.func42 Z Z Z fun H w=>?_
 refine gSR<|Eb Z (bx 1 Z) fun v1=>Eb Z (z5w 2 z7r (ZrE.rd (R:=z0r) (x:=0) (Zr.num Z) (ZrE.nilS (ZrE.rd (R:=z1u) (x:=0) (Zr.num Z) (ZrE.rd (R:=z0q) (x:=(⟨0,[],(⟨0,0,0,[]⟩:z05)⟩:z0f)) zpr (ZrE.rd (R:=z0s) (x:=(⟨0,0⟩:z0a)) zou ZrE.nil Z) Z) Z)) Z)) fun v2=>Zb Z<|gSR<|Zm Z<|Zc [] [] Tryz.func60 Z (zh4 _) fun r3 n4=>Zm Z<|Zq (ext Z Z)<|Zq (ext Z Z)<|Za Z<|Zb Z<|z0m<|gSR<|Zm Z<|Zq (I.neq Z Z)<|Zj Z (fun h5=>?_) (fun h5=>?_)
 ·
  refine gSR<|Zq (zpb [(0,1),(1,1),(2,1),(3,6),(9,2)] Tryz.underlying86 z7r (ZrE.rd (R:=z0r) (x:=0) (Zr.num Z) (ZrE.nilS (ZrE.rd (R:=z1u) (x:=0) (Zr.num Z) (ZrE.rd (R:=z0q) (x:=(⟨0,[],(⟨0,0,0,[]⟩:z05)⟩:z0f)) zpr (ZrE.rd (R:=z0s) (x:=(⟨0,0⟩:z0a)) zou ZrE.nil Z) Z) Z)) Z) Z (zf4.done Z))<|Zm Z<|Es (zom 2 Z Z (z0b.cast (z0b.cons z2e (z0b.cons z06 (z0b.cons z2e (z0b.cons z2e (z0b.cons z2e z0b.nil))))) Z) Z (z3b.cons zdm (z3b.cons z1c (z3b.cons zdm (z3b.cons zdm (z3b.cons zdm z3b.nil))))) (z0b.cast (z0b.cons z2e (z0b.cons z06 (z0b.cons z2e (z0b.cons z2e (z0b.cons z2e z0b.nil))))) Z) z7r)<|Zb Z<|z0g<|z0l<|zkp aZ [.rd z0r 0,.rd (z02 aZ) [],.rd z1u 0,.rd z0q (⟨0,[],(⟨0,0,0,[]⟩:z05)⟩:z0f),.rd z0s (⟨0,0⟩:z0a)] 2 [.rd z0r 0] [.rd z1u 0,.rd z0q (⟨0,[],(⟨0,0,0,[]⟩:z05)⟩:z0f),.rd z0s (⟨0,0⟩:z0a)] Z Z Z<|zue (R:=z03) (⟨0,[],0,(⟨0,[],(⟨0,0,0,[]⟩:z05)⟩:z0f),(⟨0,0⟩:z0a)⟩:z04) 2 Z (Sp.via (Sp.prod (Sp.prod (Sp.prod (Sp.prod (Sp.prod Sp.unit))))))<|zap [] [1001] Z (eC 2 Z Z zbe<|eE Z<|eN) (y1 Z)
 ·
  refine Zt<|gSR<|Zm Z<|Zq (faB 1 Z Z Tryz.underlying86 Z (by exact z8d))<|Zq (ld 1 Z Z (fP (z0z _)) z9w Z)<|Zc [] [(100,3)] Tryz.func61 Z (z16 _) fun r6 n7=>Zq (faB 1 Z Z Tryz.underlying86 Z (by exact z5e))<|Es (sto 1 Z Z (fP (z23 _)) Z z5e)<|Zq (faB 1 Z Z Tryz.underlying86 Z (by exact z8d))<|lSpl (R:=z03) 1 Z (Sp.via (Sp.prod (Sp.prod (Sp.prod (Sp.prod (Sp.prod Sp.unit))))))<|Es (stoE 1 Z Z (z87.cast (z87.next z2e (z87.here z2e)) Z) Z z1c z06 z8d)<|Zn<|gSR<|zxr [.rd z0r (({ a1 with Author:=r3.1 }).Author),.rd (z02 aZ) r6,.rd z1u (({ a1 with Author:=r3.1 }).Stamp),.rd z0q (({ a1 with Author:=r3.1 }).Act),.rd z0s (({ a1 with Author:=r3.1 }).Sig)] 1 3 [.rd z0r (({ a1 with Author:=r3.1 }).Author)] [.rd z1u (({ a1 with Author:=r3.1 }).Stamp),.rd z0q (({ a1 with Author:=r3.1 }).Act),.rd z0s (({ a1 with Author:=r3.1 }).Sig)] Z Z Z Z Z<|zbb (R:=z03) (⟨({ a1 with Author:=r3.1 }).Author,r6,({ a1 with Author:=r3.1 }).Stamp,({ a1 with Author:=r3.1 }).Act,({ a1 with Author:=r3.1 }).Sig⟩:z04) 1 Z (Sp.via (Sp.prod (Sp.prod (Sp.prod (Sp.prod (Sp.prod Sp.unit))))))<|Zq (ld 1 Z Z fH zbe Z)<|Zc [] [(100,4)] Tryz.func62 Z (zes _) fun r8 n9=>Zm Z<|Zq (ext Z Z)<|Zq (ext Z Z)<|Za Z<|Zb Z<|z0m<|gSR<|Zm Z<|Zq (I.neq Z Z)<|Zj Z (fun h10=>?_) (fun h10=>?_)
  ·
   refine gSR<|Zq (zpb [(0,1),(1,1),(2,1),(3,6),(9,2)] Tryz.underlying86 z7r (ZrE.rd (R:=z0r) (x:=0) (Zr.num Z) (ZrE.nilS (ZrE.rd (R:=z1u) (x:=0) (Zr.num Z) (ZrE.rd (R:=z0q) (x:=(⟨0,[],(⟨0,0,0,[]⟩:z05)⟩:z0f)) zpr (ZrE.rd (R:=z0s) (x:=(⟨0,0⟩:z0a)) zou ZrE.nil Z) Z) Z)) Z) Z (zf4.done Z))<|Zm Z<|Es (zom 2 Z Z (z0b.cast (z0b.cons z2e (z0b.cons z06 (z0b.cons z2e (z0b.cons z2e (z0b.cons z2e z0b.nil))))) Z) Z (z3b.cons zdm (z3b.cons z1c (z3b.cons zdm (z3b.cons zdm (z3b.cons zdm z3b.nil))))) (z0b.cast (z0b.cons z2e (z0b.cons z06 (z0b.cons z2e (z0b.cons z2e (z0b.cons z2e z0b.nil))))) Z) z7r)<|Zb Z<|z0g<|z0l<|zkp aZ [.rd z0r 0,.rd (z02 aZ) [],.rd z1u 0,.rd z0q (⟨0,[],(⟨0,0,0,[]⟩:z05)⟩:z0f),.rd z0s (⟨0,0⟩:z0a)] 2 [.rd z0r 0] [.rd z1u 0,.rd z0q (⟨0,[],(⟨0,0,0,[]⟩:z05)⟩:z0f),.rd z0s (⟨0,0⟩:z0a)] Z Z Z<|zue (R:=z03) (⟨0,[],0,(⟨0,[],(⟨0,0,0,[]⟩:z05)⟩:z0f),(⟨0,0⟩:z0a)⟩:z04) 2 Z (Sp.via (Sp.prod (Sp.prod (Sp.prod (Sp.prod (Sp.prod Sp.unit))))))<|zap [] [1001] Z (eC 2 Z Z zbe<|eE Z<|eN) (y1 Z)
  ·
   refine Zt<|gSR<|Zm Z<|Zm Z<|zc6 4 [27,8,35] Z (fS Z<|fS Z<|fS Z<|fN)<|Zc [1001] [] Tryz.func63 Z (zqp _ _) fun r11 n12=>Zm Z<|Zq (ext Z Z)<|Zq (ext Z Z)<|Zq (faB 1 Z Z Tryz.underlying86 Z (by exact zjr))<|Es (sto 1 Z Z (fP (z1x _)) Z zjr)<|Zn<|gSR<|Zq (ld 1 Z Z fH zbe Z)<|z8t aZ [.rd z0r 0,.rd (z02 aZ) [],.rd z1u 0,.rd z0q (⟨0,[],(⟨0,0,0,[]⟩:z05)⟩:z0f),.rd z0s (⟨0,0⟩:z0a)] 2 [.rd z0r 0] [.rd z1u 0,.rd z0q (⟨0,[],(⟨0,0,0,[]⟩:z05)⟩:z0f),.rd z0s (⟨0,0⟩:z0a)] Z Z Z<|zbb (R:=z03) (⟨0,[],0,(⟨0,[],(⟨0,0,0,[]⟩:z05)⟩:z0f),(⟨0,0⟩:z0a)⟩:z04) 2 Z (Sp.via (Sp.prod (Sp.prod (Sp.prod (Sp.prod (Sp.prod Sp.unit))))))<|Es (sto 2 Z Z fH Z z7r)<|Zb Z<|z0g<|zap [] [1001] Z (eC 2 Z Z zbe<|eE Z<|eN) (y1 Z)
end
section
open Go Go.RowKit
def zqj (v:Value) (n:Nat):Prop:=∃ b,v=.slice (some ⟨b,0,none⟩) n n
def z37.listF {α:Type} (R:Rep α) (T:TypeId) (l:List α):z37 where
 nil _ _ _:=False
 nilm _ h:=h
 nilb h:=h.elim
 rel S w v o:=zqj v l.length∧(z37.list R T l).rel S w v o
 mono k h:=⟨h.1,(z37.list R T l).mono k h.2⟩
theorem zo2 {α:Type} {R:Rep α} {T:TypeId} {l:List α} {S:Blk} {w:World} {v:Value} (h:(z37.listF R T l).holds S w v):zqj v l.length∧(z37.list R T l).holds S w v:=by
 rcases h with h | ⟨b,o,h1,h2,h3,h4⟩
 ·
  exact h.elim
 ·
  exact ⟨h3,.inr ⟨b,o,h1,h2,h4⟩⟩
theorem zns {α:Type} {R:Rep α} {T:TypeId} {l:List α} {S:Blk} {w:World} {v:Value} (hF:zqj v l.length) (h:(z37.list R T l).holds S w v):(z37.listF R T l).holds S w v:=by
 rcases h with ⟨h,-⟩ | ⟨b,o,h1,h2,h4⟩
 ·
  obtain ⟨b,e⟩:=hF; rw [h] at e; cases e
 ·
  exact .inr ⟨b,o,h1,h2,hF,h4⟩
section
variable {C:World→World→Prop} {ρ:Type} {P:Program} {Γ:Ctx} {l:z1d} {res:Res} {m:Option ρ} {os rest:List Oper} {N:ρ→Exit→Act→World→Prop}
 {d:Tmp} {ty:TypeId} {pos:String} {after:Array Edge} {g:Option (Nat × Bool)} {ro:Option Nat} {Q:ρ→Exit→Act→World→Prop} {c:Code} {e:Exit}
theorem xOpF {X:ρ→Act→World→Prop} {α:Type} {R:Rep α} {T:TypeId} {b:List α} {v:Value} (r:Nat) (hr:lr res r=some (v,.listF R T b)) (k:zqj v b.length→GX X (Sta Γ l ((r,some (v,.list R T b))::res)) m):GX X (Sta Γ l res) m:=fun a w ha =>
 k (zo2 (ha.conts _ _ _ hr)).1 a w (ha.recont r hr fun h=>(zo2 h).2)
theorem xShF {X:ρ→Act→World→Prop} {α:Type} {R:Rep α} {T:TypeId} {b:List α} {v:Value} (r:Nat) (hr:lr res r=some (v,.list R T b)) (hF:zqj v b.length) (k:GX X (Sta Γ l ((r,some (v,.listF R T b))::res)) m):GX X (Sta Γ l res) m:=fun a w ha =>
 k a w (ha.recont r hr fun h=>zns hF h)
theorem lOpF {α:Type} {R:Rep α} {T:TypeId} {b:List α} {v:Value} (r:Nat) (hr:lr res r=some (v,.listF R T b)) (k:zqj v b.length→GL P os (Sta Γ l ((r,some (v,.list R T b))::res)) rest N m):GL P os (Sta Γ l res) rest N m:=xOpF r hr k
theorem eShF {α:Type} {R:Rep α} {T:TypeId} {b:List α} {v:Value} (r:Nat) (hr:lr res r=some (v,.list R T b)) (hF:zqj v b.length) (k:GE (Sta Γ l ((r,some (v,.listF R T b))::res)) e Q m):GE (Sta Γ l res) e Q m:=xShF r hr hF k
theorem z19n {α:Type} {R:Rep α} (b:List α) {n:Nat} (xs:List Operand) {parts:Array (Nat × Operand)} {z:Value} {T e:TypeId} {by_:Nat} (r:Nat) (hp:parts=(xs.zipIdx.map fun x=>(x.2,x.1)).toArray) (hx:RdA l R xs b) (hl:b.length=n)
  (hT:P.underlying T=some (.slice e)) (hE:TI P e z R.sz by_) (h0:Nat.blt 0 R.sz=true) (hm:Nat.ble (n * R.sz) 16777216=true) :
  Eff P Γ l res ⟨some d,.buildSlice T n parts,ty,pos,after,g⟩ r (fun u=>(u,.listF R e b)):=fun a w ha=>by
 have h0:0<R.sz:=Eq.mp Nat.blt_eq h0
 have hm:n * R.sz≤16777216:=Nat.le_of_ble_eq_true hm
 subst hl
 obtain ⟨k1,k2,k3⟩:=RdA.get ha hx
 have hc:Instr.fill (fun i=>some (i * R.sz,R.sz)) (zfh z (b.length * R.sz)) ((xs.map a.eval).zipIdx.map fun x=>(x.2,x.1))=some (z81 (xs.map a.eval)).toArray:=by
  have:=zl8 (xs.map a.eval) 0 (zfh z (b.length * R.sz)) k3 (by simp [zfh,k2])
  simpa using this
 have hev:(parts.map fun (i,x)=>(i,a.eval x)).toList=(xs.map a.eval).zipIdx.map fun x=>(x.2,x.1):=by
  subst hp
  simp [List.zipIdx_map]
 have hrun:=zny (P:=P) (w:=w) (m:=b.length) (vs:=parts.map fun (i,x)=>(i,a.eval x)) hT hE hm (by rw [hev]; exact hc)
 have hlen:=k1.len
 refine ⟨w.alloc (.cells (z81 (xs.map a.eval)).toArray e),.slice (some ⟨w.heap.size,0,none⟩) b.length b.length,?_,?_,rfl,_,zdz w _, by simp⟩
 ·
  simp only [execOp,Sem.run_bind,hrun,Result.andThen,Sem.run_pure]
 ·
  refine ha.upd r (c:=.listF R e b) (v:=.slice (some ⟨w.heap.size,0,none⟩) b.length b.length) (zdz w _) (by simp) (fun bb hbb=>.inr (by simp [z41] at hbb; omega)) (fun S' k'=>?_)
  refine zns ⟨_,rfl⟩ (.inr ⟨w.heap.size,_,rfl,heap_alloc_new _ _,w.heap.size,b.length,_,rfl,rfl,Nat.le_refl _,?_, by simp [hlen],?_⟩)
  ·
   have:b.length≤b.length * R.sz:=Nat.le_mul_of_pos_right _ h0
   unfold maxLen; omega
  ·
   simp only []
   rw [← hlen,List.take_length]; exact k1.mono k'
theorem litF {α:Type} {R:Rep α} (b:List α) {n:Nat} {parts:List (Nat × Operand)} {z:Value} {T e:TypeId} {by_:Nat} (r:Nat) (hx:RdP l R 0 parts b) (hl:b.length=n)
  (hT:P.underlying T=some (.slice e)) (hE:TI P e z R.sz by_) (h0:Nat.blt 0 R.sz=true) (hm:Nat.ble (n * R.sz) 16777216=true) :
  Eff P Γ l res ⟨some d,.buildSlice T n parts.toArray,ty,pos,after,g⟩ r (fun u=>(u,.listF R e b)):=by
 obtain ⟨os,rfl,h2⟩:=hx.get
 exact z19n b os r rfl h2 hl hT hE h0 hm
theorem apF {α:Type} {R:Rep α} {b b2 b3:List α} {x y:Operand} {v z:Value} {E:Ent} {T e:TypeId} {by_:Nat} (r r2:Nat) (hx:opE l x=some (.val v)) (hr:lr res r=some (v,.list R e b)) (hF:zqj v b.length) (hy:opE l y=some E) (hv:Vw R res E b2) (hne:Nat.blt 0 b2.length=true) (hb:app by_ b b2=some b3)
  (hT:P.underlying T=some (.slice e)) (hE:TI P e z R.sz by_) (hz:z.cells.size=R.sz) (h0:Nat.blt 0 R.sz=true) (h1:Nat.blt 0 by_=true) :
  Eff P Γ l res ⟨some d,.call ⟨.builtin .append,#[x,y],#[T,T]⟩,ty,pos,after,g⟩ r2 (fun u=>(u,.list R e b3)):=fun a w ha=>by
 have h0:0<R.sz:=Eq.mp Nat.blt_eq h0
 have h1:0<by_:=Eq.mp Nat.blt_eq h1
 have hne:0<b2.length:=Eq.mp Nat.blt_eq hne
 obtain ⟨hby,rfl⟩:=zu9 hb
 have e1:=(ha.vl hx).1
 obtain ⟨q,c2,news,e2,k1,k2⟩:=hv.get ha (ha.vl hy)
 obtain ⟨xs,k3,k4⟩:=z7q (ha.conts r v _ hr)
 obtain ⟨blk,rfl⟩:=hF
 have hlen:b.length+b2.length≤140737488355328:=Nat.le_trans (Nat.le_mul_of_pos_right _ h1) hby
 obtain ⟨ti,g1,g2,g3,g4⟩:=hE
 have k1l:=k1.1
 have hold:∀ j u,xs[j]? = some u→w.cell? ((⟨blk,0,none⟩:Addr).add j)=some u:=fun j u hu=>by
  rcases (Rd.of_own k3).2 with ⟨hv0,-⟩ | ⟨b',o,sp,cap,hv0,_,_,hsp,hcell⟩
  ·
   cases hv0
  ·
   simp only [Value.slice.injEq,true_and,Option.some.injEq,Addr.mk.injEq] at hv0
   obtain ⟨⟨rfl,rfl,rfl⟩,-⟩:=hv0
   rw [z4o]
   exact hcell j u hu
 rcases k1.2 with ⟨hq,-⟩ | ⟨b',o,sp,cap,hq,_,_,hsp,hcell⟩
 ·
  simp only [Value.slice.injEq] at hq
  omega
 ·
  simp only [Value.slice.injEq,true_and] at hq
  obtain ⟨rfl,rfl⟩:=hq
  have hnew:∀ j u,news[j]? = some u→w.cell? ((⟨b',o,sp⟩:Addr).add j)=some u:=fun j u hu=>by
   rcases hsp with rfl | rfl
   ·
    simp at hu
   ·
    rw [z4o]; exact hcell j u hu
  obtain ⟨v',w',r1,r3,r4⟩:=run_append_arg_grows (P:=P) w T ty e ti z R.sz by_ hT g1 g2 g3 g4 hz h0 ⟨blk,0,none⟩ b.length b.length xs k3.1 hold ⟨b',o,sp⟩ b2.length c2 news k1l hnew (by omega) (by unfold maxLen; omega) hby
  have hvb:v'.oneCell'=true∧∀ bb,z41 v'=some bb→w.heap.size≤bb:=by
   rcases r3.2 with ⟨rfl,-⟩ | ⟨gg,cp,cur,rfl,hge,-⟩
   ·
    exact ⟨rfl, fun bb h=>by simp [z41] at h⟩
   ·
    exact ⟨rfl, fun bb h=>by simp only [z41,Option.some.injEq] at h; omega⟩
  refine ⟨w',v',?_,?_,hvb.1,_,r4, by simp⟩
  ·
   simp [execOp,resolve,invoke,builtin,e1,e2,r1]
  ·
   refine ha.upd r2 r4 (by simp) (fun bb hbb=>.inr (hvb.2 bb hbb)) (fun S' k'=>?_)
   exact zj9 (B:=w.heap.size) (xs:=xs++news) (by rw [List.length_append]; exact r3) ((k4.mono k').append (k2.mono k'))
end
end
section
open Go Go.RowKit
def ziw {α σ:Type} (F:α→σ→Option σ):List α→σ→Option σ
 | [],s=>some s
 | e::L,s=>F e s >>= ziw F L
def z181 {α σ:Type} (F:α→σ→Option σ) (E:σ→σ→Prop):Prop:=∀ (L L':List α) (s r:σ),L.Perm L'→ziw F L s=some r→∃ r',ziw F L' s=some r'∧E r r'
def zve {κ:Type} (by_:Nat) (acc:List κ) (l:List κ):Option (List κ):=if l=[] then some acc else app by_ acc l
theorem zv4 {κ:Type} {by_:Nat} {acc l r:List κ}:zve by_ acc l=some r↔r=acc++l∧(l=[]∨(acc.length+l.length) * by_≤140737488355328):=by
 unfold zve app
 by_cases h:l=[]
 ·
  rw [if_pos h,h,List.append_nil]
  exact ⟨fun e=>⟨(Option.some.inj e).symm,.inl rfl⟩, fun e=>by rw [e.1]⟩
 ·
  rw [if_neg h]
  by_cases h2:(acc.length+l.length) * by_≤140737488355328
  ·
   rw [if_pos h2]
   exact ⟨fun e=>⟨(Option.some.inj e).symm,.inr h2⟩, fun e=>by rw [e.1]⟩
  ·
   rw [if_neg h2]
   exact ⟨fun e=>(by cases e), fun e=>(e.2.elim h h2).elim⟩
def AppF {α κ:Type} (by_:Nat) (F:α→List κ→Option (List κ)):Prop:=∀ e,∃ o:Option (List κ),∀ acc,F e acc=o >>= fun l=>zve by_ acc l
theorem AppF.fold {α κ:Type} {by_:Nat} {F:α→List κ→Option (List κ)} {sel:α→Option (List κ)} (h:∀ e acc,F e acc=sel e >>= fun l=>zve by_ acc l):∀ (L:List α) (s r:List κ),ziw F L s=some r↔(∀ e∈L,(sel e).isSome)∧r=s++(L.flatMap fun e=>(sel e).getD [])∧(L.flatMap (fun e=>(sel e).getD [])=[]∨r.length * by_≤140737488355328)
 | [],s,r=>by
  simp only [ziw,List.flatMap_nil,List.append_nil]
  exact ⟨fun e=>⟨fun _ h=>absurd h (by simp),(Option.some.inj e).symm,.inl trivial⟩, fun e=>by rw [e.2.1]⟩
 | e::L,s,r=>by
  unfold ziw
  rw [h]
  cases hs:sel e with
  | none=>simp [hs]
  | some l =>
   simp only [Option.bind_eq_bind,Option.bind_some]
   cases ha:zve by_ s l with
   | none =>
    simp only [Option.bind_none]
    constructor
    ·
     intro h; cases h
    ·
     rintro ⟨-,h2,h3⟩
     exfalso
     simp only [List.flatMap_cons,hs,Option.getD_some] at h2 h3
     have:zve by_ s l=some (s++l):=by
      rw [zv4]
      refine ⟨rfl,?_⟩
      rcases h3 with h3 | h3
      ·
       exact .inl (by simpa using (List.append_eq_nil_iff.1 h3).1)
      ·
       refine .inr (Nat.le_trans (Nat.mul_le_mul_right _ ?_) h3)
       rw [h2]; simp
     rw [this] at ha; cases ha
   | some t =>
    obtain ⟨rfl,hb⟩:=zv4.1 ha
    simp only [Option.bind_some]
    rw [AppF.fold h L (s++l) r]
    simp only [List.flatMap_cons,hs,Option.getD_some,List.mem_cons,forall_eq_or_imp,Option.isSome_some,true_and,List.append_assoc]
    constructor
    ·
     rintro ⟨h1,h2,h3⟩
     refine ⟨h1,h2,?_⟩
     rcases h3 with h3 | h3
     ·
      rcases hb with hb | hb
      ·
       exact .inl (by rw [hb,h3]; rfl)
      ·
       refine .inr ?_
       rw [h2,h3]; simpa using hb
     ·
      exact .inr h3
    ·
     rintro ⟨h1,h2,h3⟩
     refine ⟨h1,h2,?_⟩
     rcases h3 with h3 | h3
     ·
      exact .inl (List.append_eq_nil_iff.1 h3).2
     ·
      exact .inr h3
theorem AppF.comm {α κ:Type} {by_:Nat} {F:α→List κ→Option (List κ)} (hF:AppF by_ F):z181 F List.Perm:=by
 have hF':∃ sel:α→Option (List κ),∀ e acc,F e acc=sel e >>= fun l=>zve by_ acc l:=⟨fun e=>Classical.choose (hF e), fun e=>Classical.choose_spec (hF e)⟩
 obtain ⟨sel,h⟩:=hF'
 intro L L' s r hp hr
 obtain ⟨h1,h2,h3⟩:=(AppF.fold h L s r).1 hr
 have hq:(L.flatMap fun e=>(sel e).getD []).Perm (L'.flatMap fun e=>(sel e).getD []):=hp.flatMap_right _
 refine ⟨s++L'.flatMap fun e=>(sel e).getD [],(AppF.fold h L' s _).2 ⟨fun e he=>h1 e (hp.mem_iff.2 he),rfl,?_⟩, by rw [h2]; exact hq.append_left s⟩
 rcases h3 with h3 | h3
 ·
  rw [h3] at hq; exact .inl hq.symm.eq_nil
 ·
  refine .inr ?_
  rw [h2,List.length_append,hq.length_eq] at h3
  rwa [List.length_append]
theorem z14k {κ:Type} {by_:Nat} (x:κ):∃ o:Option (List κ),∀ acc:List κ,(app by_ acc [x] >>= fun z=>some z)=o >>= fun l=>zve by_ acc l:=⟨some [x], fun acc=>by
 simp only [Option.bind_eq_bind,Option.bind_some,zve]
 rw [if_neg (by simp)]
 cases app by_ acc [x] <;> rfl⟩
theorem z129 {κ τ:Type} {by_:Nat} {m:Option τ} {f:τ→List κ→Option (List κ)} (h:∀ r,∃ o:Option (List κ),∀ acc,f r acc=o >>= fun l=>zve by_ acc l):∃ o:Option (List κ),∀ acc,(m >>= fun r=>f r acc)=o >>= fun l=>zve by_ acc l:=by
 cases m with
 | none=>exact ⟨none, fun _=>rfl⟩
 | some r=>obtain ⟨o,ho⟩:=h r; exact ⟨o, fun acc=>ho acc⟩
theorem z14w {κ:Type} {by_:Nat} {c:Prop} [Decidable c] {f g:List κ→Option (List κ)} (hf:∃ o:Option (List κ),∀ acc,f acc=o >>= fun l=>zve by_ acc l) (hg:∃ o:Option (List κ),∀ acc,g acc=o >>= fun l=>zve by_ acc l):∃ o:Option (List κ),∀ acc,(if c then f acc else g acc)=o >>= fun l=>zve by_ acc l:=by
 by_cases h:c
 ·
  obtain ⟨o,ho⟩:=hf; exact ⟨o, fun acc=>by rw [if_pos h]; exact ho acc⟩
 ·
  obtain ⟨o,ho⟩:=hg; exact ⟨o, fun acc=>by rw [if_neg h]; exact ho acc⟩
theorem gExM {ρ σ τ:Type} {ro:Option Nat} {P:Program} {A:σ→τ→Asn} {E:σ→Prop} {c:Code} {Q:ρ→Exit→Act→World→Prop} {m:Option ρ} (h:∀ s nv,E s→G ro P (A s nv) c Q m):G ro P (fun a w=>∃ s nv,E s∧A s nv a w) c Q m:=fun a w ⟨s,nv,h1,h2⟩=>h s nv h1 a w h2
theorem eExM {ρ σ τ:Type} {A:σ→τ→Asn} {E:σ→Prop} {e:Exit} {Q:ρ→Exit→Act→World→Prop} {m:Option ρ} (h:∀ s nv,E s→GE (A s nv) e Q m):GE (fun a w=>∃ s nv,E s∧A s nv a w) e Q m:=fun a w ⟨s,nv,h1,h2⟩=>h s nv h1 a w h2
theorem z1w.congr {ρ:Type} {P:Program} {f:FuncId} {pin:List Ent} {rin:Res} {m m':Option ρ} {q:ρ→(Nat→Value)→zkj} (e:m=m') (h:z1w P f pin rin m q):z1w P f pin rin m' q:=e ▸ h
section
variable {κ β:Type}
def z37.mapX (RK:Rep κ) (RV:Rep β) (es:Array MapEntry) (clock:Nat) (m:List (κ × β)):z37 where
 nil _ _ _:=False
 nilm _ h:=h
 nilb h:=h.elim
 rel S w v o:=∃ b,v=.map (some b)∧o=.map es clock∧zgm RK RV S w es.toList m∧zv3 es.toList clock
 mono k h:=by obtain ⟨b,h1,h2,h3,h4⟩:=h; exact ⟨b,h1,h2,h3.mono k,h4⟩
def z37.mit (vm:Value) (since:Nat) (seen:Array Nat) (c0:Nat):z37 where
 nil _ _ _:=False
 nilm _ h:=h
 nilb h:=h.elim
 rel S w v o:=∃ g bm,v=.pointer (some ⟨g,0,none⟩)∧vm=.map (some bm)∧o=.mapIter (some bm) since seen c0
 mono k h:=h
theorem zi5 {RK:Rep κ} {RV:Rep β} {es clock m S w v} (h:(z37.mapX RK RV es clock m).holds S w v):∃ b,v=.map (some b)∧w.heap[b]? = some (.map es clock)∧zgm RK RV S w es.toList m∧zv3 es.toList clock:=by
 rcases h with h | ⟨b,o,h1,h2,b',rfl,rfl,h3,h4⟩
 ·
  exact h.elim
 ·
  simp only [z41,Option.some.injEq] at h1
  subst h1
  exact ⟨_,rfl,h2,h3,h4⟩
theorem zuo {vm v:Value} {since c0:Nat} {seen:Array Nat} {S:Blk} {w:World} (h:(z37.mit vm since seen c0).holds S w v):∃ g bm,v=.pointer (some ⟨g,0,none⟩)∧vm=.map (some bm)∧w.heap[g]? = some (.mapIter (some bm) since seen c0):=by
 rcases h with h | ⟨b,o,h1,h2,g,bm,rfl,rfl,rfl⟩
 ·
  exact h.elim
 ·
  simp only [z41,Option.some.injEq] at h1
  subst h1
  exact ⟨_,_,rfl,rfl,h2⟩
def z8b (es:List MapEntry) (m:List (κ × β)) (seen:Array Nat):List (κ × β):=((es.zip m).filter fun p=>!seen.contains p.1.born).map (·.2)
theorem zwm {RK:Rep κ} {RV:Rep β} {S:Blk} {w:World} {es:List MapEntry} {m:List (κ × β)} (h:zgm RK RV S w es m):z8b es m #[]=m:=by
 have hl:=h.size
 unfold z8b
 rw [List.filter_eq_self.2 (fun p _=>by simp)]
 exact List.map_snd_zip (by omega)
theorem z10c {es:List MapEntry} {m:List (κ × β)} {seen:Array Nat} {b:Nat} (h:∀ e∈es,e.born≠b):z8b es m (seen.push b)=z8b es m seen:=by
 unfold z8b
 congr 1
 apply List.filter_congr
 intro p hp
 have:=h p.1 (List.of_mem_zip hp).1
 simp [this]
theorem zs5 {RK:Rep κ} {RV:Rep β} {S:Blk} {w:World} {seen:Array Nat} {e:MapEntry}:∀ {es:List MapEntry} {m:List (κ × β)},zgm RK RV S w es m→(es.map (·.born)).Nodup→e∈es→seen.contains e.born=false→∃ (i:Nat) (k:κ) (x:β),es[i]? = some e∧m[i]? = some (k,x)∧(z8b es m seen).Perm ((k,x)::z8b es m (seen.push e.born))
 | e0::es,p::m,h,hn,he,hs=>by
  simp only [List.map_cons,List.nodup_cons] at hn
  rcases List.mem_cons.1 he with rfl | he
  ·
   refine ⟨0,p.1,p.2,rfl,rfl,?_⟩
   have hfar:∀ e'∈es,e'.born≠e.born:=fun e' h' h2=>hn.1 (List.mem_map.2 ⟨e',h',h2⟩)
   have hs':e.born∉seen:=by simpa using hs
   have h1:z8b (e::es) (p::m) seen=p::z8b es m seen:=by simp [z8b,hs']
   have h2:z8b (e::es) (p::m) (seen.push e.born)=z8b es m (seen.push e.born):=by simp [z8b]
   rw [h1,h2,z10c hfar]
  ·
   obtain ⟨i,k,x,h1,h2,h3⟩:=zs5 h.2 hn.2 he hs
   refine ⟨i+1,k,x, by simpa using h1, by simpa using h2,?_⟩
   have hne:e0.born≠e.born:=fun hh=>hn.1 (List.mem_map.2 ⟨e,he,hh.symm⟩)
   by_cases h0:seen.contains e0.born=true
   ·
    have g1:z8b (e0::es) (p::m) seen=z8b es m seen:=by simp [z8b] at h0 ⊢; simp [h0]
    have g2:z8b (e0::es) (p::m) (seen.push e.born)=z8b es m (seen.push e.born):=by simp [z8b] at h0 ⊢; simp [h0]
    rw [g1,g2]; exact h3
   ·
    have g1:z8b (e0::es) (p::m) seen=p::z8b es m seen:=by simp [z8b] at h0 ⊢; simp [h0]
    have g2:z8b (e0::es) (p::m) (seen.push e.born)=p::z8b es m (seen.push e.born):=by simp [z8b] at h0 ⊢; simp [h0,hne]
    rw [g1,g2]
    exact (h3.cons p).trans (List.Perm.swap _ _ _)
theorem ztw {RK:Rep κ} {RV:Rep β} {S:Blk} {w:World} {seen:Array Nat}:∀ {es:List MapEntry} {m:List (κ × β)},zgm RK RV S w es m→(es.filter fun e=>!seen.contains e.born)=[]→z8b es m seen=[]
 | [],[],_,_=>rfl
 | e::es,p::m,h,h0=>by
  rw [List.filter_cons] at h0
  split at h0
  ·
   cases h0
  ·
   rename_i hs
   have:=ztw h.2 h0
   simp [z8b] at hs this ⊢
   simp [hs]
   exact this
 | [],_::_,h,_=>h.elim
 | _::_,[],h,_=>h.elim
theorem zu0 {RK:Rep κ} {RV:Rep β} {S:Blk} {w:World}:∀ {es:List MapEntry} {m:List (κ × β)} {i:Nat} {e:MapEntry} {k:κ} {x:β},zgm RK RV S w es m→es[i]? = some e→m[i]? = some (k,x)→RK.vrel S w e.key k∧RV.vrel S w e.val x
 | e0::es,p::m,0,e,k,x,h,h1,h2=>by
  simp only [List.getElem?_cons_zero,Option.some.injEq] at h1 h2
  subst h1; subst h2; exact h.1
 | e0::es,p::m,i+1,e,k,x,h,h1,h2=>zu0 h.2 (by simpa using h1) (by simpa using h2)
 | [],_,_,_,_,_,_,h1,_=>by simp at h1
def ItAt (P:Program) (Ci Cm:z37) (u v:Value) (RK:Rep κ) (RV:Rep β) (k:κ) (x:β):Prop :=
 ∀ S w,Ci.holds S w u→Cm.holds S w v→∃ key val,(∀ w',(∀ b,z41 u=some b→w'.heap[b]? = w.heap[b]?)→(∀ b,z41 v=some b→w'.heap[b]? = w.heap[b]?)→(Instr.entry u).run P w'=.ok (.tuple #[key,val]) w')∧RK.vrel S w key k∧RV.vrel S w val x
theorem itAt {P:Program} {u v:Value} {RK:Rep κ} {RV:Rep β} {es:Array MapEntry} {clock:Nat} {seen:Array Nat} {m:List (κ × β)} {i:Nat} {e:MapEntry} {k:κ} {x:β} (h1:es.toList[i]? = some e) (h2:m[i]? = some (k,x)) :
  ItAt P (.mit v clock (seen.push e.born) clock) (.mapX RK RV es clock m) u v RK RV k x:=fun S w hi hm=>by
 obtain ⟨g,bm,rfl,rfl,g1⟩:=zuo hi
 obtain ⟨b,hb,m1,m2,m3⟩:=zi5 hm
 cases hb
 obtain ⟨k1,k2⟩:=zu0 m2 h1 h2
 refine ⟨e.key,e.val, fun w' q1 q2=>?_,k1,k2⟩
 have g1':w'.heap[g]? = some (.mapIter (some bm) clock (seen.push e.born) clock):=(q1 g rfl).trans g1
 have m1':w'.heap[bm]? = some (.map es clock):=(q2 bm rfl).trans m1
 obtain ⟨hi,he⟩:=List.getElem?_eq_some_iff.1 h1
 have hmem:e∈es.toList:=by rw [← he]; exact List.getElem_mem _
 have hf:es.find? (·.born==e.born)=some e:=by rw [← Array.find?_toList]; exact find_born e es.toList m3.1 hmem
 simp only [Instr.entry,getObj,Sem.run_bind,Sem.run,g1',m1',Result.andThen,Array.back?_push,bne_self_eq_false,Bool.false_eq_true,if_false,hf]
 rfl
end
section
variable {ρ:Type} {P:Program} {Γ:Ctx} {l:z1d} {res:Res} {m:Option ρ} {os rest:List Oper} {N:ρ→Exit→Act→World→Prop}
 {d:Tmp} {ty:TypeId} {pos:String} {after:Array Edge} {g:Option (Nat × Bool)} {ro:Option Nat} {κ β:Type} {RK:Rep κ} {RV:Rep β} {mm:List (κ × β)}
theorem Sta.less {res':Res} {a:Act} {w:World} (ha:Sta Γ l res a w) (h:∀ r y,lr res' r=some y→lr res r=some y):Sta Γ l res' a w:=by
 have hst:z80 (Shr Γ.H res w) (Shr Γ.H res' w) w w:=fun b hb=>⟨⟨hb.1, fun r v c h1=>hb.2.1 r v c (h _ _ h1),hb.2.2⟩,rfl⟩
 exact ⟨ha.size,ha.defers, fun t e ht=>by obtain ⟨u,h1,h2⟩:=ha.slots t e ht; exact ⟨u,h1,e.mono hst h2⟩, fun r v c hr=>(ha.conts r v c (h _ _ hr)).mono hst (fun _ _=>rfl),
  fun r1 v1 c1 r2 v2 c2 h1 h2=>ha.excl r1 v1 c1 r2 v2 c2 (h _ _ h1) (h _ _ h2), fun r v c hr=>ha.own r v c (h _ _ hr),ha.keep,ha.old,ha.hid⟩
theorem z195 {x:Operand} {v:Value} {T K V:TypeId} (ri rm:Nat) (hn:Nat.blt d Γ.n=true) (hx:opE l x=some (.val v)) (hr:lr res rm=some (v,.map RK RV mm)) (hT:P.underlying T=some (.map K V))
  (k:∀ u es clock,GL P os (Sta Γ ((d,.val u)::l) ((ri,some (u,.mit v clock #[] clock))::(rm,some (v,.mapX RK RV es clock mm))::res)) rest N m) :
  GL P os (Sta Γ l res) (⟨some d,.range T x,ty,pos,after,none⟩::rest) N m:=fun a w ha ρ hm=>by
 have h1:=(ha.vl hx).1
 obtain ⟨b,es,clock,rfl,h2,h3,h4⟩:=zl2 (ha.conts rm v _ hr)
 have ha2:=ha.recont (c':=.mapX RK RV es clock mm) rm hr (fun _=>.inr ⟨b,_,rfl,h2,b,rfl,rfl,h3,h4⟩)
 have hrun:(execOp a.eval ⟨some d,.range T x,ty,pos,after,none⟩).run P w=.ok (.value (.pointer (some ⟨w.heap.size,0,none⟩))) (w.alloc (.mapIter (some b) clock #[] clock)):=by
  simp [execOp,h1,run_range_map w T K V b es clock hT h2]
 obtain ⟨h5,h6⟩:=ha2.upd ri (c:=.mit (.map (some b)) clock #[] clock) (v:=.pointer (some ⟨w.heap.size,0,none⟩)) (zdz w (.mapIter (some b) clock #[] clock)) (by simp) (fun b hb=>.inr (by simp [z41] at hb; omega)) (fun S' k'=>.inr ⟨w.heap.size,_,rfl,heap_alloc_new _ _,_,_,rfl,rfl,rfl⟩)
 exact st (zcb rfl) hrun (k _ es clock _ _ (h5.put hn ⟨rfl,rfl⟩) ρ hm)
theorem entM {k:κ} {x0:β} {u v:Value} {Ci Cm:z37} {x:Operand} (ri rm:Nat) (hx:opE l x=some (.val u)) (h1:lr res ri=some (u,Ci)) (h2:lr res rm=some (v,Cm)) (hI:ItAt P Ci Cm u v RK RV k x0) :
  Run Eq P Γ l res ⟨some d,.entry x,ty,pos,after,g⟩ (.tup [.rd RK k,.rd RV x0]):=fun a w ha=>by
 obtain ⟨key,val,q1,q2,q3⟩:=hI _ _ (ha.conts ri u _ h1) (ha.conts rm v _ h2)
 refine ⟨.tuple #[key,val], fun w' hw=>?_,[key,val],⟨q2,q3,trivial⟩,rfl⟩
 subst hw
 simp [execOp,(ha.vl hx).1,q1 w (fun _ _=>rfl) (fun _ _=>rfl)]
theorem z16i {u v:Value} {x:Operand} {es:Array MapEntry} {clock c0:Nat} {seen:Array Nat} (ri rm:Nat) (hn:Nat.blt d Γ.n=true) (hx:opE l x=some (.val u)) (h1:lr res ri=some (u,.mit v clock seen c0)) (h2:lr res rm=some (v,.mapX RK RV es clock mm)) (hc:clock≤c0)
  (k0:z8b es.toList mm seen=[]→GL P os (Sta Γ ((d,.tup [.rd z0p false])::l) res) rest N m)
  (k1:∀ (i:Nat) (e:MapEntry) (k:κ) (x:β),es.toList[i]? = some e→mm[i]? = some (k,x)→(z8b es.toList mm seen).Perm ((k,x)::z8b es.toList mm (seen.push e.born))→GL P os (Sta Γ ((d,.tup [.rd z0p true,.junk,.junk])::l) ((ri,some (u,.mit v clock (seen.push e.born) clock))::res)) rest N m) :
  GL P os (Sta Γ l res) (⟨some d,.next x false,ty,pos,after,none⟩::rest) N m:=fun a w ha ρ hm=>by
 have hu:=(ha.vl hx).1
 obtain ⟨gb,bm,rfl,rfl,g1⟩:=zuo (ha.conts ri u _ h1)
 obtain ⟨b,hb,m1,m2,m3⟩:=zi5 (ha.conts rm _ _ h2)
 cases hb
 rcases run_next_at (P:=P) w ty gb bm clock c0 seen es clock g1 m1 (fun x hx=>m3.2 x hx) hc with ⟨hz,hrun⟩ | ⟨e,he,w1,hw1,hrun⟩
 ·
  have hnil:(es.toList.filter fun e=>!seen.contains e.born)=[]:=by
   have:(leftOf es seen).toList=[]:=by
    rw [Array.toList_eq_nil_iff]; exact Array.eq_empty_of_size_eq_zero hz
   unfold leftOf at this
   rwa [Array.toList_filter] at this
  have hrun':(execOp a.eval ⟨some d,.next x false,ty,pos,after,none⟩).run P w=.ok (.value (.tuple #[.bool false])) w:=by
   simp [execOp,hu,hrun]
  exact st (zcb rfl) hrun' (k0 (ztw m2 hnil) _ _ (ha.put hn ⟨[_],⟨⟨_,rfl,rfl⟩,trivial⟩,rfl⟩) ρ hm)
 ·
  have hmem:e∈es.toList∧seen.contains e.born=false:=by
   unfold leftOf at he
   rw [Array.toList_filter,List.mem_filter] at he
   exact ⟨he.1, by simpa using he.2⟩
  obtain ⟨i,k,x0,e1,e2,e3⟩:=zs5 m2 m3.1 hmem.1 hmem.2
  have hlt:gb<w.heap.size:=(Array.getElem?_eq_some_iff.1 g1).1
  have hheap:w1.heap=w.heap:=by rcases hw1 with rfl | rfl <;> rfl
  have hgr:w.grownBy (ChangeMaps.setBlock w1 gb (.mapIter (some bm) clock (seen.push e.born) clock)) (some gb):=by
   refine ⟨?_,?_,?_,?_, fun q hq hne=>?_⟩
   ·
    rcases hw1 with rfl | rfl <;> rfl
   ·
    rcases hw1 with rfl | rfl <;> rfl
   ·
    rcases hw1 with rfl | rfl <;> rfl
   ·
    show w.heap.size≤(w1.heap.setIfInBounds gb _).size
    rw [hheap]; simp
   ·
    have hne:q≠gb:=fun e=>hne (by rw [e])
    show (w1.heap.setIfInBounds gb _)[q]? = w.heap[q]?
    rw [hheap,Array.getElem?_setIfInBounds_ne (fun e=>hne e.symm)]
  obtain ⟨h5,h6⟩:=ha.upd ri (v:=.pointer (some ⟨gb,0,none⟩)) (c:=.mit (.map (some bm)) clock (seen.push e.born) clock) hgr (fun b hb=>⟨_,_,h1, by cases hb; rfl⟩) (fun b hb=>.inl ⟨_,_,h1,hb⟩)
   (fun S' k'=>.inr ⟨gb,.mapIter (some bm) clock (seen.push e.born) clock,rfl, by show (w1.heap.setIfInBounds gb _)[gb]? = _; rw [hheap]; simp [hlt],gb,bm,rfl,rfl,rfl⟩)
  have hrun':(execOp a.eval ⟨some d,.next x false,ty,pos,after,none⟩).run P w=.ok (.value (.tuple #[.bool true,e.key,e.val])) (ChangeMaps.setBlock w1 gb (.mapIter (some bm) clock (seen.push e.born) clock)):=by
   simp [execOp,hu,hrun]
  exact st (zcb rfl) hrun' (k1 i e k x0 e1 e2 e3 _ _ (h5.put hn ⟨[_,_,_],⟨⟨_,rfl,rfl⟩,trivial,trivial,trivial⟩,rfl⟩) ρ hm)
def mcnt:Nat→Option (Sum Unit Nat)
 | 0=>some (.inl ())
 | k+1=>some (.inr k)
theorem zqu:∀ n,iter mcnt n=some ()
 | 0=>by rw [iter]; rfl
 | n+1=>by rw [iter]; exact zqu n
def z16h {σ:Type} (Γ:Ctx) (L:(Nat→Value)→z1d) (ri rm:Nat) (u v:Value) (RK:Rep κ) (RV:Rep β) (es:Array MapEntry) (clock:Nat) (mm:List (κ × β)) (Rs:σ→(Nat→Value)→Res) (F:κ × β→σ→Option σ) (E:σ→σ→Prop) (r:σ) (k:Nat):Asn:=fun a w =>
 ∃ s seen c0 nv,Sta Γ (L nv) ((ri,some (u,.mit v clock seen c0))::(rm,some (v,.mapX RK RV es clock mm))::Rs s nv) a w∧clock≤c0∧(z8b es.toList mm seen).length=k∧∃ r',ziw F (z8b es.toList mm seen) s=some r'∧E r r'
theorem z18l {σ:Type} {A:Asn} {ib nb id1:Nat} {t tn tm:Tmp} {ty1 ty2:TypeId} {p1 p2:String} {a1 a2:Array Edge} {body:Code} {u v:Value} {es:Array MapEntry} {clock:Nat} {L:(Nat→Value)→z1d} {s0:σ} {nv0:Nat→Value} {F:κ × β→σ→Option σ}
  (ri rm:Nat) (E:σ→σ→Prop) (hEt:∀ a b c,E a b→E b c→E a c) (hE0:∀ a,E a a) (hC:z181 F E) (Rs:σ→(Nat→Value)→Res) (h0:∀ a w,A a w→Sta Γ (L nv0) ((ri,some (u,.mit v clock #[] clock))::(rm,some (v,.mapX RK RV es clock mm))::Rs s0 nv0) a w)
  (ht:∀ nv,lk (L nv) t=some (.val u)) (hn1:Nat.blt tn Γ.n=true) (hn2:Nat.blt tm Γ.n=true) (hL:∀ nv e1 e2,ztl ((tm,e1)::(tn,e2)::L nv) (L nv)) (hri:∀ s nv,lr (Rs s nv) ri=none) (hne:Nat.beq ri rm=false)
  (hbody:∀ (Ci Cm:z37) (k:κ) (x:β) (s:σ) (nv:Nat→Value),ItAt P Ci Cm u v RK RV k x→G ro P (Sta Γ (L nv) ((ri,some (u,Ci))::(rm,some (v,Cm))::Rs s nv)) (.block nb body) (midQ fun s1 aa ww=>∃ nv',Sta Γ (L nv') ((ri,some (u,Ci))::(rm,some (v,Cm))::Rs s1 nv') aa ww) (F (k,x) s)) :
  G ro P A (.block ib (.loop (.seq (.region id1 #[⟨some tn,.next (.tmp t) false,ty1,p1,a1,none⟩,⟨some tm,.extract (.tmp tn) 0,ty2,p2,a2,none⟩] false) (.seq (.cond (.tmp tm) .skip (.exit ib)) (.block nb body)))))
   (midQ fun r aa ww=>∃ s nv,E r s∧Sta Γ (L nv) ((rm,some (v,.map RK RV mm))::Rs s nv) aa ww) (ziw F mm s0):=fun a w ha r hr=>by
 have hsta:=h0 a w ha
 obtain ⟨bm,hbm,m1,m2,m3⟩:=zi5 (hsta.conts rm v (.mapX RK RV es clock mm) (by
  rw [z13,if_neg (Nat.ne_of_beq_eq_false hne),z13,if_pos rfl]))
 have hleft:z8b es.toList mm #[]=mm:=zwm m2
 have main:G ro P (fun aa ww=>aa=a∧ww=w) (.block ib (.loop (.seq (.region id1 #[⟨some tn,.next (.tmp t) false,ty1,p1,a1,none⟩,⟨some tm,.extract (.tmp tn) 0,ty2,p2,a2,none⟩] false) (.seq (.cond (.tmp tm) .skip (.exit ib)) (.block nb body)))))
   (midQ fun (_:Unit) aa ww=>∃ s nv,E r s∧Sta Γ (L nv) ((rm,some (v,.map RK RV mm))::Rs s nv) aa ww) (iter mcnt mm.length):=by
  refine z1h (z16h Γ L ri rm u v RK RV es clock mm Rs F E r) ?_ fun k=>?_
  ·
   rintro aa ww ⟨rfl,rfl⟩
   exact ⟨s0,#[],clock,nv0,hsta,Nat.le_refl _, by rw [hleft],r, by rw [hleft]; exact hr,hE0 r⟩
  ·
   rintro aa ww ⟨s,seen,c0,nv,hs,hc,hk,r',hf,hE⟩
   have hlr1:∀ (x:Option (Value × z37)),lr ((ri,x)::(rm,some (v,z37.mapX RK RV es clock mm))::Rs s nv) rm=some (v,.mapX RK RV es clock mm):=fun x=>by
    rw [z13,if_neg (Nat.ne_of_beq_eq_false hne),z13,if_pos rfl]
   have goal:G ro P (Sta Γ (L nv) ((ri,some (u,.mit v clock seen c0))::(rm,some (v,.mapX RK RV es clock mm))::Rs s nv)) (.seq (.region id1 #[⟨some tn,.next (.tmp t) false,ty1,p1,a1,none⟩,⟨some tm,.extract (.tmp tn) 0,ty2,p2,a2,none⟩] false) (.seq (.cond (.tmp tm) .skip (.exit ib)) (.block nb body)))
     (zmv ib (z16h Γ L ri rm u v RK RV es clock mm Rs F E r) (midQ fun (_:Unit) aa ww=>∃ s nv,E r s∧Sta Γ (L nv) ((rm,some (v,.map RK RV mm))::Rs s nv) aa ww)) (mcnt k):=by
    refine z0m<|z1y (os:=[⟨some tn,.next (.tmp t) false,ty1,p1,a1,none⟩,⟨some tm,.extract (.tmp tn) 0,ty2,p2,a2,none⟩])<|z16i ri rm hn1 (ht nv) (by rw [z13,if_pos rfl]) (hlr1 _) hc (fun hnil=>?_) (fun i e kk x e1 e2 e3=>?_)
    ·
     rw [hnil] at hk hf
     have hk:k=0:=hk.symm
     subst hk
     have hf:s=r':=Option.some.inj hf
     subst hf
     refine R hn2 (ext (es:=[.rd z0p false]) (by show lk _ _=_; rw [z26,if_pos rfl]) rfl)<|z1k<|z0j<|z0m<|zbi (by show lk _ _=_; rw [z26,if_pos rfl])<|z1f<|z0u<|z0v<|z40 fun aa ww h=>⟨s,nv,hE,?_⟩
     have h':Sta Γ (L nv) ((ri,some (u,.mit v clock seen c0))::(rm,some (v,.mapX RK RV es clock mm))::Rs s nv) aa ww:=⟨h.size,h.defers, fun t' e' ht'=>h.slots t' e' ((hL _ _ _).get ht'),h.conts,h.excl,h.own,h.keep,h.old,h.hid⟩
     refine (h'.recont (c':=.map RK RV mm) rm (hlr1 _) (fun hh=>?_)).less fun q y hq=>?_
     ·
      obtain ⟨b,rfl,q1,q2,q3⟩:=zi5 hh
      exact ziq q1 q2 q3
     ·
      rw [z13] at hq ⊢
      by_cases e:rm=q
      ·
       rw [if_pos e] at hq ⊢; exact hq
      ·
       rw [if_neg e] at hq ⊢
       rw [z13]
       by_cases e2:ri=q
       ·
        subst e2; rw [hri] at hq; cases hq
       ·
        rw [if_neg e2,z13,if_neg e]; exact hq
    ·
     obtain ⟨r2,hr2,hE2⟩:=hC _ _ s r' e3 hf
     have hlen:=e3.length_eq
     rw [List.length_cons,hk] at hlen
     subst hlen
     unfold ziw at hr2
     cases hF:F (kk,x) s with
     | none=>rw [hF] at hr2; cases hr2
     | some s1 =>
      rw [hF] at hr2
      have hr2:ziw F (z8b es.toList mm (seen.push e.born)) s1=some r2:=hr2
      refine R hn2 (ext (es:=[.rd z0p true,.junk,.junk]) (by show lk _ _=_; rw [z26,if_pos rfl]) rfl)<|z1k<|z0j<|z0m<|zcu (by show lk _ _=_; rw [z26,if_pos rfl])<|z24<|z0j ?_
      intro aa ww h ρ hρ
      have h':Sta Γ (L nv) ((ri,some (u,.mit v clock (seen.push e.born) clock))::(rm,some (v,.mapX RK RV es clock mm))::Rs s nv) aa ww:=by
       refine Sta.less (res:=(ri,some (u,.mit v clock (seen.push e.born) clock))::(ri,some (u,.mit v clock seen c0))::(rm,some (v,.mapX RK RV es clock mm))::Rs s nv) ⟨h.size,h.defers, fun t' e' ht'=>h.slots t' e' ((hL _ _ _).get ht'),h.conts,h.excl,h.own,h.keep,h.old,h.hid⟩ fun q y hq=>?_
       rw [z13] at hq ⊢
       by_cases e:ri=q
       ·
        rw [if_pos e] at hq ⊢; exact hq
       ·
        rw [if_neg e] at hq ⊢
        rw [z13,if_neg e]; exact hq
      have hb:=hbody (.mit v clock (seen.push e.born) clock) (.mapX RK RV es clock mm) kk x s nv (itAt e1 e2) aa ww h' s1 hF
      have hρ:Sum.inr (z8b es.toList mm (seen.push e.born)).length=ρ:=Option.some.inj hρ
      subst hρ
      refine zi4 (fun ex a3 w3 hq=>?_) hb
      obtain ⟨rfl,nv',hq⟩:=hq
      exact ⟨rfl,s1,seen.push e.born,clock,nv',hq,Nat.le_refl _,rfl,r2,hr2,hEt _ _ _ hE hE2⟩
   exact goal aa ww hs
 exact main a w ⟨rfl,rfl⟩ () (zqu _)
end
end
section
open Go Go.RowKit
section
variable {κ β:Type} [DecidableEq κ] {RK:Rep κ} {RV:Rep β}
theorem zs0 (k:κ) (x y:β):∀ m:List (κ × β),zbj (zbj m k x) k y=zbj m k y
 | []=>by simp [zbj]
 | p::m=>by
  by_cases h:k=p.1
  ·
   have e1:zbj (p::m) k x=(p.1,x)::m:=if_pos h
   have e2:zbj (p::m) k y=(p.1,y)::m:=if_pos h
   have e3:zbj ((p.1,x)::m) k y=(p.1,y)::m:=if_pos h
   rw [e1,e2,e3]
  ·
   have e1:zbj (p::m) k x=p::zbj m k x:=if_neg h
   have e2:zbj (p::m) k y=p::zbj m k y:=if_neg h
   have e3:zbj (p::zbj m k x) k y=p::zbj (zbj m k x) k y:=if_neg h
   rw [e1,e2,e3,zs0 k x y m]
theorem zr5 {k:κ} {x:β}:∀ {m:List (κ × β)},z60 m k=some x→zbj m k x=m
 | [],h=>by cases h
 | p::m,h=>by
  unfold z60 at h
  unfold zbj
  by_cases hk:k=p.1
  ·
   rw [if_pos hk] at h ⊢
   cases h; rfl
  ·
   rw [if_neg hk] at h ⊢
   rw [zr5 h]
theorem zv1 (k:κ) (x:β):∀ m:List (κ × β),z60 (zbj m k x) k=some x
 | []=>by simp [zbj,z60]
 | p::m=>by
  unfold zbj
  by_cases h:k=p.1
  ·
   rw [if_pos h]; simp [z60,h]
  ·
   rw [if_neg h]; simp [z60,h,zv1 k x m]
theorem ztv {k:κ} {z:β} {e:MapEntry} {S:Blk} {w:World}:∀ {es:List MapEntry} {m:List (κ × β)} {i:Nat},zgm RK RV S w es m→fnd k es m i=none→fnd k (es++[e]) (m++[(k,z)]) i=some (i+es.length,e.val)
 | [],[],i,_,_=>by simp [fnd]
 | e0::es,p::m,i,h,h0=>by
  simp only [fnd] at h0
  split at h0
  ·
   cases h0
  ·
   rename_i hk
   simp only [List.cons_append,fnd,if_neg hk]
   rw [ztv h.2 h0,List.length_cons]
   congr 2
   omega
 | [],_::_,_,h,_=>h.elim
 | _::_,[],_,h,_=>h.elim
def z37.mapP (RK:Rep κ) (RV:Rep β) (m:List (κ × β)) (k:κ) (z:β) (born:Nat):z37 where
 nil _ _ _:=False
 nilm _ h:=h
 nilb h:=h.elim
 rel S w v o:=∃ b es clock i u e,v=.map (some b)∧o=.map es clock∧zgm RK RV S w es.toList (zbj m k z)∧zv3 es.toList clock∧fnd k es.toList (zbj m k z) 0=some (i,u)∧es.toList[i]? = some e∧e.born=born
 mono k h:=by obtain ⟨b,es,clock,i,u,e,h1,h2,h3,h4⟩:=h; exact ⟨b,es,clock,i,u,e,h1,h2,h3.mono k,h4⟩
theorem zrf {m:List (κ × β)} {k:κ} {z:β} {born:Nat} {S:Blk} {w:World} {v:Value} (h:(z37.mapP RK RV m k z born).holds S w v):∃ b es clock i u e,v=.map (some b)∧w.heap[b]? = some (.map es clock)∧zgm RK RV S w es.toList (zbj m k z)∧zv3 es.toList clock∧fnd k es.toList (zbj m k z) 0=some (i,u)∧es.toList[i]? = some e∧e.born=born:=by
 rcases h with h | ⟨b,o,h1,h2,b',es,clock,i,u,e,rfl,rfl,h3⟩
 ·
  exact h.elim
 ·
  simp only [z41,Option.some.injEq] at h1
  subst h1
  exact ⟨_,es,clock,i,u,e,rfl,h2,h3⟩
theorem zpf {es:Array MapEntry} {i:Nat} {e:MapEntry} (hn:(es.toList.map (·.born)).Nodup) (h:es.toList[i]? = some e):es.findIdx? (fun x=>(x.born:Int)==(e.born:Int))=some i:=by
 obtain ⟨hi,he⟩:=List.getElem?_eq_some_iff.1 h
 rw [Array.findIdx?_eq_some_iff_getElem]
 have he':es[i]'(by simpa using hi)=e:=by rw [← Array.getElem_toList]; exact he
 refine ⟨by simpa using hi, by rw [he']; simp, fun j hj=>?_⟩
 have hp:=List.pairwise_iff_getElem.1 hn j i (by rw [List.length_map]; omega) (by rw [List.length_map]; exact hi) hj
 simp only [List.getElem_map] at hp
 rw [he] at hp
 simp only [beq_iff_eq,Int.natCast_inj]
 simpa using hp
end
section
variable {ρ:Type} {P:Program} {Γ:Ctx} {l l0:z1d} {res res0:Res} {ws:List Nat} {m m1 m2:Option ρ} {os:List Oper} {N:ρ→Exit→Act→World→Prop}
 {d:Tmp} {op:Op} {ty:TypeId} {pos:String} {after:Array Edge} {g:Option (Nat × Bool)} {fuel i:Nat} {listed listed':Array Bool} {rest:List Oper}
def EffE (P:Program) (Γ:Ctx) (l:z1d) (res:Res) (o:Oper) (r:Nat) (v0:Value) (e:Nat→Ent) (c:Nat→z37):Prop:=∀ a w,Sta Γ l res a w →
 ∃ w' v n,(execOp a.eval o).run P w=.ok (.value v) w'∧(Sta Γ l ((r,some (v0,c n))::res) a w'∧z80 (Shr Γ.H res w) (Shr Γ.H ((r,some (v0,c n))::res) w') w w')∧Grew res r w w'∧(e n).holds (Shr Γ.H ((r,some (v0,c n))::res) w') w' v
theorem oDoE {r:Nat} {e:Nat→Ent} {v0:Value} {c:Nat→z37} {c0:z37} (i:Nat) (hi:os.toArray[i]? = some ⟨some d,op,ty,pos,after,g⟩) (hg:Grd os l ⟨some d,op,ty,pos,after,g⟩ true) (hn:Nat.blt d Γ.n=true) (hl:listed.setIfInBounds i true=listed') (hw:ws.contains r=true) (hv:lr res r=some (v0,c0))
  (he:EffE P Γ l res ⟨some d,op,ty,pos,after,g⟩ r v0 e c) (k:∀ n,GH P os Γ ((d,.junk)::l0) res0 ws ((d,e n)::l) ((r,some (v0,c n))::res) N fuel listed' m):GO P os Γ l0 res0 ws l res N fuel listed i m:=fun a w0 w ha ρ' hm=>by
 obtain ⟨w',v,n,h1,h2,h3,h4⟩:=he a w ha.s
 have hgw:=hg.wanted ha.s
 unfold wpOp
 simp only [hi,hgw,if_true]
 refine .inl ?_
 unfold Oper.wp; rw [h1]
 have hS:=ha.grew hw h2 h3 (fun b hb=>.inl ⟨v0,c0,hv,hb⟩)
 refine ⟨hS.cw,?_⟩
 rw [hl]
 exact k n _ w0 w' (hS.put hn trivial h4) ρ' hm
theorem hDoE {r:Nat} {e:Nat→Ent} {v0:Value} {c:Nat→z37} {c0:z37} (i:Nat) (hi:os.toArray[i]? = some ⟨some d,op,ty,pos,after,g⟩) (hr:Region.ready .any os.toArray listed=[i]) (hg:Grd os l ⟨some d,op,ty,pos,after,g⟩ true) (hn:Nat.blt d Γ.n=true) (hl:listed.setIfInBounds i true=listed') (hw:ws.contains r=true) (hv:lr res r=some (v0,c0))
  (he:EffE P Γ l res ⟨some d,op,ty,pos,after,g⟩ r v0 e c) (k:∀ n,GH P os Γ ((d,.junk)::l0) res0 ws ((d,e n)::l) ((r,some (v0,c n))::res) N fuel listed' m):GH P os Γ l0 res0 ws l res N (fuel+1) listed m :=
 hAlt [i] hr rfl ⟨oDoE i hi hg hn hl hw hv he k,trivial⟩
variable {κ β:Type} [DecidableEq κ] {RK:Rep κ} {RV:Rep β} {mm:List (κ × β)} {x y s:Operand} {v:Value} {k:κ} {x0 b0:β} {T K V:TypeId} {n by_:Nat} {z:Value}
theorem men (r:Nat) (hx:opE l x=some (.val v)) (hr:lr res r=some (v,.map RK RV mm)) (hy:opE l y=some (.rd RK k)) (hK:zn7 P K RK n) (hT:P.underlying T=some (.map K V)) (hV:TI P V z RV.sz by_) (hz:Zr RV z.cells.toList x0) (hzv:z=RV.val z.cells.toList) :
  EffE P Γ l res ⟨some d,.mapEntry T x y,ty,pos,after,g⟩ r v (fun n=>.tup [.rd RV ((z60 mm k).getD x0),.rd z07 (n:Int)]) (fun n=>.mapP RK RV mm k ((z60 mm k).getD x0) n):=fun a w ha=>by
 have e1:=(ha.vl hx).1
 obtain ⟨bk,es,clock,rfl,h1,h2,h3⟩:=zl2 (ha.conts r v _ hr)
 have hy1:=ha.vl hy
 obtain ⟨cs,hk1,hk2⟩:=hy1
 have hck:=hK.chk hk1 10000 (Nat.le_of_ble_eq_true hK.deep) false w
 rw [← hk2] at hck
 have hf:=zkt hK ⟨cs,hk1,hk2⟩ w h2
 have hbi:=hK.bits hk1 10000 (Nat.le_of_ble_eq_true hK.deep)
 rw [← hk2] at hbi
 have hlt:bk<w.heap.size:=(Array.getElem?_eq_some_iff.1 h1).1
 cases hq:fnd k es.toList mm 0 with
 | none =>
  obtain ⟨q1,q2,-⟩:=zl4 h2 hq
  have hu:=ha.upd r (v:=.map (some bk)) (c:=.mapP RK RV mm k ((z60 mm k).getD x0) clock) (w':={ w with heap:=w.heap.setIfInBounds bk (.map (es.push { key:=a.eval y,val:=z,born:=clock }) (clock+1)) }) z92 (fun bb hbb=>⟨_,_,hr, by cases hbb; rfl⟩) (fun bb hbb=>.inl ⟨_,_,hr,hbb⟩)
   (fun S' k'=>.inr ⟨bk,_,rfl, by simp [hlt],bk,es.push { key:=a.eval y,val:=z,born:=clock },clock+1,es.toList.length,z,{ key:=a.eval y,val:=z,born:=clock },rfl,rfl, by
    rw [q2,Array.toList_push]
    refine (h2.mono k').push (Rep.vrel.mono ⟨cs,hk1,hk2⟩ k') ?_
    rw [q1]; exact ⟨_,hz _ _,hzv⟩, by rw [Array.toList_push]; exact h3.push rfl, by rw [q2,Array.toList_push,ztv h2 hq,Nat.zero_add], by rw [Array.toList_push]; simp,rfl⟩)
  refine ⟨_,.tuple #[z,.int .i64 (clock:Int)],clock,?_,hu,⟨some bk,z92, fun bb hbb=>⟨_,_,hr, by cases hbb; rfl⟩⟩,⟨[z,.int .i64 (clock:Int)],⟨?_,z6r,trivial⟩,rfl⟩⟩
  ·
   have:(Instr.mapEntry T (a.eval x) (a.eval y)).run P w=.ok (.tuple #[z,.int .i64 (clock:Int)]) { w with heap:=w.heap.setIfInBounds bk (.map (es.push { key:=a.eval y,val:=z,born:=clock }) (clock+1)) }:=by
    rw [e1]
    unfold Instr.mapEntry
    simp only [Sem.run_bind,run_underlying hT,Result.andThen,MapKept.run_getObj_map h1,hck,hf,hq,zbx hV,MapKept.run_setObj_map _ h1,Sem.run_pure,goInt]
   simp [execOp,this]
  ·
   rw [q1]; exact ⟨_,hz _ _,hzv⟩
 | some ju =>
  obtain ⟨j,u⟩:=ju
  obtain ⟨-,e,x1,q1,q2,q3,q4,q5,q6,q7⟩:=zgb h2 hq
  simp only [Nat.sub_zero] at q1 q6
  have hj:es[j]? = some e:=by rw [← Array.getElem?_toList]; exact q1
  have hkey:e.key=a.eval y:=by
   obtain ⟨cs',h4,h5⟩:=q5
   rw [h5,hk2,hK.one h4 hk1]
  have hsame:Instr.sameBits 10000 e.key (a.eval y)=true:=by rw [hkey]; exact hbi
  have hmod:es.modify j (fun e=>{ e with key:=a.eval y })=es:=by
   apply Array.toList_inj.1
   rw [Array.toList_modify]
   apply List.ext_getElem?
   intro i
   simp only [List.getElem?_modify]
   by_cases hi:j=i
   ·
    subst hi
    rw [q1]
    show some (if j=j then _ else _)=_
    rw [if_pos rfl,← hkey]
   ·
    simp [hi]
  have hself:zbj mm k x1=mm:=zr5 q3
  have hu:=ha.upd r (v:=.map (some bk)) (c:=.mapP RK RV mm k ((z60 mm k).getD x0) e.born) (w':={ w with heap:=w.heap.setIfInBounds bk (.map es clock) }) z92 (fun bb hbb=>⟨_,_,hr, by cases hbb; rfl⟩) (fun bb hbb=>.inl ⟨_,_,hr,hbb⟩)
   (fun S' k'=>.inr ⟨bk,_,rfl, by simp [hlt],bk,es,clock,j,u,e,rfl,rfl, by rw [q3]; show zgm RK RV S' _ es.toList (zbj mm k x1); rw [hself]; exact h2.mono k',h3, by rw [q3]; show fnd k es.toList (zbj mm k x1) 0=_; rw [hself]; exact hq,q1,rfl⟩)
  refine ⟨_,.tuple #[u,.int .i64 (e.born:Int)],e.born,?_,hu,⟨some bk,z92, fun bb hbb=>⟨_,_,hr, by cases hbb; rfl⟩⟩,⟨[u,.int .i64 (e.born:Int)],⟨?_,z6r,trivial⟩,rfl⟩⟩
  ·
   have:(Instr.mapEntry T (a.eval x) (a.eval y)).run P w=.ok (.tuple #[u,.int .i64 (e.born:Int)]) { w with heap:=w.heap.setIfInBounds bk (.map es clock) }:=by
    rw [e1]
    unfold Instr.mapEntry
    simp only [Sem.run_bind,run_underlying hT,Result.andThen,MapKept.run_getObj_map h1,hck,hf,hq,hj,Option.map_some,Option.getD_some,Instr.keyThatStays,hsame,if_true,Sem.run_pure,goInt]
    rw [hmod,MapKept.run_setObj_map _ h1]
   simp [execOp,this]
  ·
   have hq4:RV.vrel (Shr Γ.H res w) w u ((z60 mm k).getD x0):=by rw [q3,← q2]; exact q4
   exact Rep.vrel.mono hq4 hu.2
theorem ens {T:TypeId} (r:Nat) (hx:opE l x=some (.val v)) (hr:lr res r=some (v,.mapP RK RV mm k x0 n)) (hs:opE l s=some (.rd z07 (n:Int))) (hy:opE l y=some (.rd RV b0)) :
  EffS P Γ l res ⟨none,.entryStore T x s y,ty,pos,after,g⟩ r (v,.map RK RV (zbj mm k b0)):=fun a w ha=>by
 have e1:=(ha.vl hx).1
 have e2:a.eval s=.int .i64 (n:Int):=z4c (ha.vl hs)
 have e3:(asInt (.int .i64 (n:Int))).run P w=.ok (n:Int) w:=rfl
 obtain ⟨bk,es,clock,i,u,e,rfl,h1,h2,h3,h4,h5,h6⟩:=zrf (ha.conts r v _ hr)
 have hy1:=ha.vl hy
 have hlt:bk<w.heap.size:=(Array.getElem?_eq_some_iff.1 h1).1
 obtain ⟨-,e',x1,q1,q2,q3,q4,q5,q6,q7⟩:=zgb h2 h4
 simp only [Nat.sub_zero] at q6
 have hfi:=zpf h3.1 h5
 rw [h6] at hfi
 refine ⟨{ w with heap:=w.heap.setIfInBounds bk (.map (es.modify i fun e=>{ e with val:=a.eval y }) clock) },?_,?_,some bk,z92, fun bb hbb=>⟨_,_,hr, by cases hbb; rfl⟩⟩
 ·
  have:(Instr.entryStore T (a.eval x) (a.eval s) (a.eval y)).run P w=.ok () { w with heap:=w.heap.setIfInBounds bk (.map (es.modify i fun e=>{ e with val:=a.eval y }) clock) }:=by
   rw [e1,e2]
   unfold Instr.entryStore
   simp only [Sem.run_bind,Result.andThen,MapKept.run_getObj_map h1,e3,Sem.run_pure,hfi,MapKept.run_setObj_map _ h1]
  simp [execOp,this]
 ·
  refine ha.upd r (v:=.map (some bk)) z92 (fun bb hbb=>⟨_,_,hr, by cases hbb; rfl⟩) (fun bb hbb=>.inl ⟨_,_,hr,hbb⟩) (fun S' k'=>ziq (es:=es.modify i fun e=>{ e with val:=a.eval y }) (clock:=clock) (by simp [hlt]) ?_ ?_)
  ·
   rw [Array.toList_modify,← zs0 k x0 b0 mm]
   exact q6 S' _ _ b0 k' (Rep.vrel.mono hy1 k')
  ·
   rw [Array.toList_modify]; exact h3.modify (fun _=>rfl)
theorem mlkP {n':Nat} (r:Nat) (hx:opE l x=some (.val v)) (hr:lr res r=some (v,.mapP RK RV mm k x0 n')) (hy:opE l y=some (.rd RK k)) (hK:zn7 P K RK n) (hT:P.underlying T=some (.map K V)) :
  Run Eq P Γ l res ⟨some d,.lookup T x y false,ty,pos,after,g⟩ (.rd RV x0):=fun a w ha=>by
 have e1:=(ha.vl hx).1
 obtain ⟨bk,es,clock,i,u,e,rfl,h1,h2,h3,h4,h5,h6⟩:=zrf (ha.conts r v _ hr)
 obtain ⟨cs,hk1,hk2⟩:=ha.vl hy
 have hck:=fun em w'=>hK.chk hk1 10000 (Nat.le_of_ble_eq_true hK.deep) em w'
 rw [← hk2] at hck
 have hf:=fun w'=>zkt hK ⟨cs,hk1,hk2⟩ w' h2
 obtain ⟨-,e',x1,q1,q2,q3,q4,q5,q6,q7⟩:=zgb h2 h4
 have hx1:x1=x0:=by rw [zv1] at q3; exact (Option.some.inj q3).symm
 subst hx1
 refine ⟨u, fun w' hw'=>?_, by rw [← q2]; exact q4⟩
 subst hw'
 have:(Instr.lookup T (a.eval x) (a.eval y) false).run P w=.ok u w:=by
  rw [e1]
  unfold Instr.lookup
  simp only [Sem.run_bind,run_underlying hT,Result.andThen,MapKept.run_getObj_map h1,Sem.run_pure,hck,hf,h4]
  rfl
 simp [execOp,this]
end
end
section
open Go Go.RowKit
set_option maxRecDepth 100000
def z4n (a0:List z00) (s2:Int):Option (Sum (Sum Bool Unit) Int) :=
 if decide (s2<(a0.length:Int)) then
  if decide (s2≤10) then
   idx a0 s2 >>= fun x5 =>
   z9c x5 >>= fun r7 =>
   if r7 then
    some (.inl (.inl true))
   else
    some (.inr (w64 (s2+1)))
  else
   some (.inl (.inr ()))
 else
  some (.inl (.inr ()))
def z9h (a0:List z00):Option (Bool) :=
 z3g (iter (z4n a0) 0) fun s1 =>
 some (decide (10<(a0.length:Int))) >>= fun y10 =>
 some y10
theorem zhh (a0:List z00):z1w Tryz.prog 7 [.rd (z02 z01) a0] [] (z9h a0) (fun r nv=>⟨[.rd z0p r],[]⟩):=by
 refine z2l 22 Tryz.func7 Z Z Z fun H w=>?_
 refine gSR<|Zb Z<|z42 (fun (s1:Unit) aa ww=>Sta (ctx 22 H [] w) [(0,.rd (z02 z01) a0)] [] aa ww) ?_ (fun s1=>?_)
 ·
  refine gSR<|Zb Z<|z1h (fun (s2:Int) aa ww=>Sta (ctx 22 H [] w) [(0,.rd (z02 z01) a0),(3,.rd z07 s2)] [] aa ww) (fun aa ww h=>Zu h []) (fun s2=>?_)
  refine z0m<|gSR<|Zm Z<|Zm Z<|Zq (z2w Z .rd Z tu22)<|Zq (I.lss Z Z)<|Zm Z<|z15 8 Z (fun h3=>?_) (fun h3=>?_)
  ·
   refine lKn 7 Z h3<|z0y Zx Z Z (mv Z)<|z0y Zx Z Z (I.leq Z Z)<|Zq (pkT Z Z)<|Zj Z (fun h4=>?_) (fun h4=>?_)
   ·
    refine gKn 10 Z h4<|Zt<|z0m<|z43<|gSR<|Zm Z<|Zm Z<|z0w fun x5 h6=>Zq (ixR Z Z h6 tu22 z3c Z)<|Zq (ldR Z z7t)<|Zc [] [] Tryz.func30 Z (zhr _) fun r7 n8=>Zj Z (fun h9=>?_) (fun h9=>?_)
    ·
     refine gSR<|Zb Z<|z0g<|z2j<|z0l<|z3e<|z2z<|Ze [] [] Z
    ·
     refine z24<|z2t<|z0j<|z1y<|Zm Z<|Zq (I.add Z Z)<|Za Z<|z1k<|z1a (fun aa ww h=>Zu h [])
   ·
    refine gKn 10 Z h4<|z1f<|z0u<|z0v<|z3k (fun aa ww h=>Zu h [])
  ·
   refine lKn 7 Z h3<|Zk Z<|Zk Z<|Zq (pkF Z Z)<|Zn<|zbi Z<|z1f<|z0u<|z0v<|z3k (fun aa ww h=>Zu h [])
 ·
  refine gSR<|Zm Z<|Zq (z2w Z .rd Z tu22)<|Zq (I.gtr Z Z)<|Za Z<|z2d 2 Z fun y10=>Zn<|z0g<|Ze [] [] Z
def z8e (a0:z04) (a1:z04):Option (Bool) :=
 if a0.Author==a1.Author then
  if a0.Stamp==a1.Stamp then
   if decide (a0.Act=a1.Act) then
    if decide (a0.Sig=a1.Sig) then
     z1m a0.Preds a1.Preds >>= fun r7 =>
     some r7
    else
     some false
   else
    some false
  else
   some false
 else
  some false
theorem zf6 (a0:z04) (a1:z04):z1w Tryz.prog 56 [.rd z03 a0,.rd z03 a1] [] (z8e a0 a1) (fun r nv=>⟨[.rd z0p r],[]⟩):=by
 refine z2l 38 Tryz.func56 Z Z Z fun H w=>?_
 refine gSR<|Eb Z (bx 1 Z) fun v1=>Eb Z (bx 2 Z) fun v2=>Zb Z<|gSR<|Zq (faB 1 Z Z Tryz.underlying86 Z (by exact z5e))<|Zq (ld 1 Z Z (fP (z23 _)) z7w Z)<|Zq (faB 2 Z Z Tryz.underlying86 Z (by exact z5e))<|Zq (ld 2 Z Z (fP (z23 _)) z7w Z)<|Zq (W.eql Z Z)<|Zm Z<|z15 10 Z (fun h3=>?_) (fun h3=>?_)
 ·
  refine lKn 9 Z h3<|z0y Zx Z Z (faB 1 Z Z Tryz.underlying86 Z (by exact zlq))<|z0y Zx Z Z (ld 1 Z Z (fP (z2r _)) znt Z)<|z0y Zx Z Z (faB 2 Z Z Tryz.underlying86 Z (by exact zlq))<|z0y Zx Z Z (ld 2 Z Z (fP (z2r _)) znt Z)<|z0y Zx Z Z (U.eql Z Z)<|Zq (pkT Z Z)<|Zm Z<|z15 17 Z (fun h4=>?_) (fun h4=>?_)
  ·
   refine lKn 15 Z h4<|lKn 16 Z h4<|z0y Zx Z Z (faB 1 Z Z Tryz.underlying86 Z (by exact zks))<|z0y Zx Z Z (ld 1 Z Z (fP (z1e _)) ty82 Z)<|z0y Zx Z Z (faB 2 Z Z Tryz.underlying86 Z (by exact zks))<|z0y Zx Z Z (ld 2 Z Z (fP (z1e _)) ty82 Z)<|z0y Zx Z Z (eqA Z Z eq82 Z Z gq82)<|Zq (pkT Z Z)<|Zm Z<|z15 24 Z (fun h5=>?_) (fun h5=>?_)
   ·
    refine lKn 22 Z h5<|lKn 23 Z h5<|z0y Zx Z Z (faB 1 Z Z Tryz.underlying86 Z (by exact zjr))<|z0y Zx Z Z (ld 1 Z Z (fP (z1x _)) ty84 Z)<|z0y Zx Z Z (faB 2 Z Z Tryz.underlying86 Z (by exact zjr))<|z0y Zx Z Z (ld 2 Z Z (fP (z1x _)) ty84 Z)<|z0y Zx Z Z (eqA Z Z eq84 Z Z gq84)<|Zq (pkT Z Z)<|Zm Z<|z15 31 Z (fun h6=>?_) (fun h6=>?_)
    ·
     refine lKn 29 Z h6<|lKn 30 Z h6<|z0y Zx Z Z (faB 1 Z Z Tryz.underlying86 Z (by exact z8d))<|z0y Zx Z Z (ld 1 Z Z (fP (z0z _)) z9w Z)<|z0y Zx Z Z (faB 2 Z Z Tryz.underlying86 Z (by exact z8d))<|z0y Zx Z Z (ld 2 Z Z (fP (z0z _)) z9w Z)<|zdo [] [] Zx Z Tryz.func48 Z Z (z56 _ _) (Y2 Z Z) rN fun r7 n8=>Zq (pkT Z Z)<|Zb Z<|z0g<|Ze [] [] Z
    ·
     refine lKn 29 Z h6<|lKn 30 Z h6<|Zk Z<|Zk Z<|Zk Z<|Zk Z<|Zk Z<|Zq (pkF Z Z)<|Zb Z<|z0g<|Ze [] [] Z
   ·
    refine lKn 22 Z h5<|lKn 23 Z h5<|Zk Z<|Zk Z<|Zk Z<|Zk Z<|Zk Z<|Zq (pkF Z Z)<|Zm Z<|Zk Z<|Zk Z<|Zk Z<|Zk Z<|Zk Z<|Zq (pkF Z Z)<|Zb Z<|z0g<|Ze [] [] Z
  ·
   refine lKn 15 Z h4<|lKn 16 Z h4<|Zk Z<|Zk Z<|Zk Z<|Zk Z<|Zk Z<|Zq (pkF Z Z)<|Zm Z<|Zk Z<|Zk Z<|Zk Z<|Zk Z<|Zk Z<|Zq (pkF Z Z)<|Zm Z<|Zk Z<|Zk Z<|Zk Z<|Zk Z<|Zk Z<|Zq (pkF Z Z)<|Zb Z<|z0g<|Ze [] [] Z
 ·
  refine lKn 9 Z h3<|Zk Z<|Zk Z<|Zk Z<|Zk Z<|Zk Z<|Zq (pkF Z Z)<|Zm Z<|Zk Z<|Zk Z<|Zk Z<|Zk Z<|Zk Z<|Zq (pkF Z Z)<|Zm Z<|Zk Z<|Zk Z<|Zk Z<|Zk Z<|Zk Z<|Zq (pkF Z Z)<|Zm Z<|Zk Z<|Zk Z<|Zk Z<|Zk Z<|Zk Z<|Zq (pkF Z Z)<|Zb Z<|z0g<|Ze [] [] Z
def z5k (a0:List z00) (s3:Int):Option (Sum (Sum Int Unit) Int) :=
 if decide (s3<(a0.length:Int)) then
  idx a0 s3 >>= fun x5 =>
  z97 x5 >>= fun r8 =>
  if r8 != 0 then
   some (.inl (.inl r8))
  else
   some (.inr (w64 (s3+1)))
 else
  some (.inl (.inr ()))
def z4l (x16:z00) (s19:(List (V3 × z04)) × Int):Option (Sum (Sum (Sum (Sum Int Unit) ((List (V3 × z04)) × Int)) ((List (V3 × z04)))) ((List (V3 × z04)) × Int)) :=
 if decide (s19.2<(x16.IDs.length:Int)) then
  idx x16.IDs s19.2 >>= fun x21 =>
  z3g (some ((z60 s19.1 x21).isSome) >>= fun y26 =>
  if y26 then
   idx x16.Ops s19.2 >>= fun x28 =>
   z8e ((z60 s19.1 x21).getD (⟨0,[],0,(⟨0,[],(⟨0,0,0,[]⟩:z05)⟩:z0f),(⟨0,0⟩:z0a)⟩:z04)) x28 >>= fun r30 =>
   if !r30 then
    some (.inl (.inl (.inl (.inl (.inl 14)))))
   else
    some (.inr ())
  else
   some (.inr ())) fun s24 =>
  idx x16.Ops s19.2 >>= fun x33 =>
  some (.inr (zbj s19.1 x21 x33,w64 (s19.2+1)))
 else
  some (.inl (.inr s19.1))
def z74 (a0:List z00) (s13:(List (V3 × z04)) × Int):Option (Sum (Sum Int Unit) ((List (V3 × z04)) × Int)) :=
 if decide (s13.2<(a0.length:Int)) then
  z3g (idx a0 s13.2 >>= fun x16 =>
  iter (z4l x16) (s13.1,0)) fun s15 =>
  some (.inr (s15,w64 (s13.2+1)))
 else
  some (.inl (.inr ()))
def z3a (a0:List z00):Option (Int) :=
 if decide (5<(a0.length:Int)) then
  some 4
 else
  z3g (iter (z5k a0) 0) fun s2 =>
  z3g (iter (z74 a0) (([]:List (V3 × z04)),0)) fun s12 =>
  some 0
theorem ze4 (a0:List z00):z1w Tryz.prog 34 [.rd (z02 z01) a0] [zG1] (z3a a0) (fun r nv=>⟨[.rd z07 r],[(1001,some (.bool true,.glob 1 (z2o 64 z0r) z54))]⟩):=by
 refine z2l 69 Tryz.func34 Z Z Z fun H w=>?_
 refine gSR<|Zb Z<|z0m<|gSR<|Zm Z<|Zq (z2w Z .rd Z tu22)<|Zq (I.gtr Z Z)<|Zj Z (fun h1=>?_) (fun h1=>?_)
 ·
  refine gSR<|Zb Z<|z0g<|z0l<|Ze [] [1001] Z
 ·
  refine Zt<|z42 (fun (s2:Unit) aa ww=>Sta (ctx 69 H [zG1] w) [(0,.rd (z02 z01) a0)] [zG1] aa ww) ?_ (fun s2=>?_)
  ·
   refine gSR<|Zm Z<|Zq (z2w Z .rd Z tu22)<|Zm Z<|Zn<|z1h (fun (s3:Int) aa ww=>Sta (ctx 69 H [zG1] w) [(0,.rd (z02 z01) a0),(16,.rd (z02 z01) a0),(17,.rd z07 (a0.length:Int)),(18,.rd z07 s3)] [zG1] aa ww) (fun aa ww h=>Zu h [1001]) (fun s3=>?_)
   refine gSR<|Zq (I.lss Z Z)<|Zn<|z0m<|gIf Z Z (fun h4=>?_) (fun h4=>?_)
   ·
    refine Zt<|z0m<|z43<|gSR<|z0w fun x5 h6=>Zq (ixR Z Z h6 tu22 z3c Z)<|Zq (ldR Z z7t)<|Eb Z (z5w 1100 z3c (ZrE.nilS (ZrE.nilS ZrE.nil))) fun v7=>z8t aZ [.rd (z02 aZ) [],.val (.slice none 0 0)] 1100 [] [.val (.slice none 0 0)] Z Z Z<|z8t z03 [.rd (z02 aZ) [],.rd (z02 z03) []] 1100 [.rd (z02 aZ) []] [] Z Z Z<|zbb (R:=z01) (⟨[],[]⟩:z00) 1100 Z (Sp.via (Sp.prod (Sp.prod Sp.unit)))<|Es (sto 1100 Z Z fH Z z3c)<|Zn<|gSR<|Zq (ld 1100 Z Z fH z7t Z)<|Zc [1001] [] Tryz.func55 Z (zfo _) fun r8 n9=>Zb Z<|gSR<|Zm Z<|Zq (I.neq Z Z)<|Zj Z (fun h10=>?_) (fun h10=>?_)
    ·
     refine gSR<|Zm Z<|Zb Z<|z0g<|z2j<|z0l<|z3e<|z2z<|Ze [] [1001] Z
    ·
     refine z24<|z2t<|z0j<|z1y<|Zq (I.add Z Z)<|Zm Z<|z1k<|z1a (fun aa ww h=>Zu h [1001])
   ·
    refine z1f<|z0u<|z0v<|z3k (fun aa ww h=>Zu h [1001])
  ·
   refine gSR<|Ef Z (mkm aZ z03 1101 (Or.inl Z) Tryz.underlying101) fun v11=>Zb Z<|z42 (fun (s12:Unit) aa ww=>Sta (ctx 69 H [zG1] w) [] [zG1] aa ww) ?_ (fun s12=>?_)
   ·
    refine gSR<|Zm Z<|Zq (z2w Z .rd Z tu22)<|Zm Z<|Zn<|z1h (fun (s13:(List (V3 × z04)) × Int) aa ww=>Sta (ctx 69 H [zG1] w) [(6,.val v11),(29,.rd (z02 z01) a0),(30,.rd z07 (a0.length:Int)),(31,.rd z07 s13.2)] [(1101,some (v11,.map aZ z03 s13.1)),zG1] aa ww) (fun aa ww h=>Zu h [1101,1001]) (fun s13=>?_)
    refine gSR<|Zq (I.lss Z Z)<|Zn<|z0m<|gIf Z Z (fun h14=>?_) (fun h14=>?_)
    ·
     refine Zt<|z42 (fun (s15:(List (V3 × z04))) aa ww=>Sta (ctx 69 H [zG1] w) [(6,.val v11),(29,.rd (z02 z01) a0),(30,.rd z07 (a0.length:Int)),(31,.rd z07 s13.2)] [(1101,some (v11,.map aZ z03 s15)),zG1] aa ww) ?_ (fun s15=>?_)
     ·
      refine z43<|gSR<|z0w fun x16 h17=>Zq (ixR Z Z h17 tu22 z3c Z)<|Zq (ldR Z z7t)<|Eb Z (z5w 1102 z3c (ZrE.nilS (ZrE.nilS ZrE.nil))) fun v18=>z8t aZ [.rd (z02 aZ) [],.val (.slice none 0 0)] 1102 [] [.val (.slice none 0 0)] Z Z Z<|z8t z03 [.rd (z02 aZ) [],.rd (z02 z03) []] 1102 [.rd (z02 aZ) []] [] Z Z Z<|zbb (R:=z01) (⟨[],[]⟩:z00) 1102 Z (Sp.via (Sp.prod (Sp.prod Sp.unit)))<|Es (sto 1102 Z Z fH Z z3c)<|Zn<|gSR<|Zq (faB 1102 Z Z Tryz.underlying49 Z (by exact z8d))<|Zq (ld 1102 Z Z (fP (z0e _)) z9w Z)<|Zq (z2w Z .rd Z tu46)<|Zm Z<|Zn<|z1h (fun (s19:(List (V3 × z04)) × Int) aa ww=>Sta (ctx 69 H [zG1] w) [(6,.val v11),(8,.val (z09 v18 0)),(29,.rd (z02 z01) a0),(30,.rd z07 (a0.length:Int)),(31,.rd z07 s13.2),(36,.rd (z02 aZ) x16.IDs),(37,.rd z07 (x16.IDs.length:Int)),(38,.rd z07 s19.2)] [(1101,some (v11,.map aZ z03 s19.1)),(1102,some (v18,.box 49 [.rd z01 x16])),zG1] aa ww) (fun aa ww h=>Zu h [1101,1102,1001]) (fun s19=>?_)
      refine gSR<|Zq (I.lss Z Z)<|Zn<|z0m<|gIf Z Z (fun h20=>?_) (fun h20=>?_)
      ·
       refine Zt<|z0m<|z43<|gSR<|Zm Z<|z0w fun x21 h22=>Zq (ixR Z Z h22 tu46 z5i Z)<|Zq (ldR Z z8z)<|Eb Z (z5w 1103 z5i (.zr (R:=aZ) (x:=(Vector.replicate 32 0)) zku)) fun v23=>Za Z<|Es (sto 1103 Z Z fH Z z5i)<|Zn<|z42 (fun (s24:Unit) aa ww=>Sta (ctx 69 H [zG1] w) [(6,.val v11),(8,.val (z09 v18 0)),(9,.rd z07 s19.2),(10,.val (z09 v23 0)),(29,.rd (z02 z01) a0),(30,.rd z07 (a0.length:Int)),(31,.rd z07 s13.2),(36,.rd (z02 aZ) x16.IDs),(37,.rd z07 (x16.IDs.length:Int)),(38,.rd z07 s19.2)] [(1101,some (v11,.map aZ z03 s19.1)),(1102,some (v18,.box 49 [.rd z01 x16])),(1103,some (v23,.box 94 [.rd aZ x21])),zG1] aa ww) ?_ (fun s24=>?_)
       ·
        refine gSR<|Zm Z<|Zq (ld 1103 Z Z fH z8z Z)<|Zq (mlk2 Z (.own 1101 Z Z) Z ky94 Tryz.underlying101 z7r zr86 Z)<|Zm Z<|Zq (ext Z Z)<|Zq (ext Z Z)<|Eb Z (z5w 1104 z7r (ZrE.rd (R:=z0r) (x:=0) (Zr.num Z) (ZrE.nilS (ZrE.rd (R:=z1u) (x:=0) (Zr.num Z) (ZrE.rd (R:=z0q) (x:=(⟨0,[],(⟨0,0,0,[]⟩:z05)⟩:z0f)) zpr (ZrE.rd (R:=z0s) (x:=(⟨0,0⟩:z0a)) zou ZrE.nil Z) Z) Z)) Z)) fun v25=>z8t aZ [.rd z0r 0,.rd (z02 aZ) [],.rd z1u 0,.rd z0q (⟨0,[],(⟨0,0,0,[]⟩:z05)⟩:z0f),.rd z0s (⟨0,0⟩:z0a)] 1104 [.rd z0r 0] [.rd z1u 0,.rd z0q (⟨0,[],(⟨0,0,0,[]⟩:z05)⟩:z0f),.rd z0s (⟨0,0⟩:z0a)] Z Z Z<|zbb (R:=z03) (⟨0,[],0,(⟨0,[],(⟨0,0,0,[]⟩:z05)⟩:z0f),(⟨0,0⟩:z0a)⟩:z04) 1104 Z (Sp.via (Sp.prod (Sp.prod (Sp.prod (Sp.prod (Sp.prod Sp.unit))))))<|Es (sto 1104 Z Z fH Z z7r)<|Za Z<|z2d 12 Z fun y26=>Zn<|z0m<|z5v [] mixed Z Z<|hTk 0 Z Z (mv Z)<|hTk 1 Z Z (mv Z)<|hIf 50 Z Z (fun h27=>?_) (fun h27=>?_)
        ·
         refine hKn 12 Z Z h27<|hKn 49 Z Z h27<|Zg 2 Z Z (ld 1104 Z Z fH zbe Z)<|Zg 3 Z Z (faB 1102 Z Z Tryz.underlying49 Z (by exact z9o))<|Zg 4 Z Z (ld 1102 Z Z (fP (z08 _)) zcv Z)<|Zg 5 Z Z (mv Z)<|z3z fun x28 h29=>Zg 6 Z Z (ixR Z Z h29 tu47 z7r Z)<|Zg 7 Z Z (ldR Z zbe)<|z3i 8 [] [] Z (by kernel_rfl) Z Zx Z Tryz.func56 Z Z (zf6 _ _) (Y2 Z Z) rN Z (fun _ _=>z6j) fun r30 n31=>Zg 9 Z Z (zct Z)<|hTk 10 Z Z (pkT Z Z)<|z3f (by kernel_rfl)<|z0j<|gIf Z Z (fun h32=>?_) (fun h32=>?_)
         ·
          refine gKn 58 Z h32<|gSR<|Zb Z<|z0g<|z2z<|z2j<|z0l<|z3e<|z2j<|z2z<|z3e<|z2z<|Ze [] [1001] Z
         ·
          refine gKn 58 Z h32<|z24<|z3k (fun aa ww h=>Zu h [1101,1102,1103,1001])
        ·
         refine hKn 12 Z Z h27<|hKn 49 Z Z h27<|hSk 2 Z Z<|hSk 3 Z Z<|hSk 4 Z Z<|hSk 5 Z Z<|hSk 6 Z Z<|hSk 7 Z Z<|hSk 8 Z Z<|hSk 9 Z Z<|hTk 10 Z Z (pkF Z Z)<|z3f (by kernel_rfl)<|z0j<|zbi Z<|z24<|z3k (fun aa ww h=>Zu h [1101,1102,1103,1001])
       ·
        refine z5v [1101] mixed Z Z<|hTk 0 Z Z (mv Z)<|hTk 1 Z Z (ld 1103 Z Z fH z8z Z)<|hTk 2 Z Z (faB 1102 Z Z Tryz.underlying49 Z (by exact z9o))<|hTk 3 Z Z (ld 1102 Z Z (fP (z08 _)) zcv Z)<|hTk 4 Z Z (mv Z)<|z3z fun x33 h34=>hTk 5 Z Z (ixR Z Z h34 tu47 z7r Z)<|hTk 6 Z Z (ldR Z zbe)<|Zp 7 Z Z Z Z Z (mup 1101 Z Z Z Z ky94 Tryz.underlying101)<|z3f (by kernel_rfl)<|z2t<|z0j<|z1y<|Zq (I.add Z Z)<|Zm Z<|z1k<|z1a (fun aa ww h=>Zu h [1101,1102,1001])
      ·
       refine z1f<|z0u<|z0v<|z2t<|z3k (fun aa ww h=>Zu h [1101,1001])
     ·
      refine z1y<|Zq (I.add Z Z)<|Zm Z<|z1k<|z1a (fun aa ww h=>Zu h [1101,1001])
    ·
     refine z1f<|z0u<|z0v<|z3k (fun aa ww h=>Zu h [1001])
   ·
    refine gSR<|Zb Z<|z0g<|Ze [] [1001] Z
def z61 (a0:List z04):Option ((List z04)) :=
 app 112 ([]:List z04) a0 >>= fun x3 =>
 some x3
theorem z52 (a0:List z04):z1w Tryz.prog 74 [.rd (z02 z03) a0] [] (z61 a0) (fun r nv=>⟨[.val (nv 0)],[(100,some (nv 0,.list z03 86 r))]⟩):=by
 refine z2l 8 Tryz.func74 Z Z Z fun H w=>?_
 refine gSR<|Zb Z<|z0m<|gSR<|Zm Z<|z150 Z Z .rd Z tu47 (fun h1=>?_) ?_
 ·
  subst h1
  refine Zn<|zcu Z<|gSR<|Zb Z<|z0g<|z0l<|zje z03 86 1<|Ze [(.slice none 0 0)] [1] Z
 ·
  refine Zn<|zbi Z<|Zt<|gSR<|Ef Z (lit (R:=z03) (([]:List z04):List z04) 2 (pN) Z tu47 z7r Z Z) fun v2=>Zm Z<|z0w fun x3 h4=>Ef Z (apn 2 Z Z Z .rd h4 tu47 z7r Z Z Z) fun v5=>Zb Z<|z0g<|Ze [v5] [2] Z
def z9a (s3:(List V3) × (List z04)) (s19:(List z04) × Int):Option (Sum ((List z04)) ((List z04) × Int)) :=
 if decide (s19.2<(s3.2.length:Int)) then
  idx s19.1 s19.2 >>= fun x21 =>
  z0n x21.Preds >>= fun r23 =>
  idx s19.1 s19.2 >>= fun x25 =>
  some (.inr (s19.1.set (s19.2:Int).toNat ({ x25 with Preds:=r23 }),w64 (s19.2+1)))
 else
  some (.inl s19.1)
def za8 (a0:z00):Option (z00) :=
 (z0n a0.IDs >>= fun r4 =>
 z61 a0.Ops >>= fun r6 =>
 some (r4,r6)) >>= fun s3 =>
 (iter (z9a s3) (s3.2,0)) >>= fun s18 =>
 some (⟨s3.1,s18⟩:z00)
theorem zbq (a0:z00):z1w Tryz.prog 57 [.rd z01 a0] [] (za8 a0) (fun r nv=>⟨[.rd z01 r],[]⟩):=by
 refine z2l 32 Tryz.func57 Z Z Z fun H w=>?_
 refine gSR<|Eb Z (bx 1 Z) fun v1=>Eb Z (z5w 2 z3c (ZrE.nilS (ZrE.nilS ZrE.nil))) fun v2=>Zn<|z7x (fun (s3:(List V3) × (List z04)) aa ww=>∃ nv:Nat→Value,Sta (ctx 32 H [] w) [(2,.val (z09 v2 0)),(3,.val (z09 (nv 0) 0))] [(2,some (v2,.box 49 [.val (.slice none 0 0),.val (.slice none 0 0)])),(9,some ((nv 1),.list aZ 94 s3.1)),(18,some ((nv 2),.list z03 86 s3.2)),(24,some ((nv 0),.box 49 [.val (nv 1),.val (nv 2)]))] aa ww) ?_ (fun s3=>?_)
 ·
  refine z5v [31,40,46] mixed Z Z<|hTk 0 Z Z (faB 1 Z Z Tryz.underlying49 Z (by exact z8d))<|hTk 1 Z Z (ld 1 Z Z (fP (z0e _)) z9w Z)<|hTk 3 Z Z (faB 1 Z Z Tryz.underlying49 Z (by exact z9o))<|hTk 4 Z Z (ld 1 Z Z (fP (z08 _)) zcv Z)<|hAlt [2,7] (by kernel_rfl) Z ⟨?_,?_,trivial⟩
  ·
   refine zzn 2 [] [(100,31)] Z Z (gd0 Z) Z Tryz.func61 Z Z (z16 _) (Y1 Z) rN Z (fun _ _=>z31) fun r4 n5=>hAlt [5,7] (by kernel_rfl) Z ⟨?_,?_,trivial⟩
   ·
    refine zzn 5 [] [(100,40)] Z Z (gd0 Z) Z Tryz.func74 Z Z (z52 _) (Y1 Z) rN Z (fun _ _=>z31) fun r6 n7=>zq1 6 Z (by kernel_rfl) (by kernel_rfl) (by kernel_rfl) (gd0 Z) Z Z (zpb [(0,1),(1,1)] Tryz.underlying49 z3c (ZrE.nilS (ZrE.nilS ZrE.nil)) Z (zf4.cons Z Z z06 (z87.cast (z87.here z06) Z)<|zf4.cons Z Z z06 (z87.cast (z87.next z06 (z87.here z06)) Z)<|zf4.done Z))<|hDoB 7 Z (by kernel_rfl) (gd0 Z) Z Z Z (z5w 46 z3c (ZrE.nilS (ZrE.nilS ZrE.nil))) fun v8=>Zp 8 Z Z Z Z Z (zom 46 Z Z (z0b.cast (z0b.cons z06 (z0b.cons z06 z0b.nil)) Z) Z (z3b.cons z1c (z3b.cons z1c z3b.nil)) (z0b.cast (z0b.cons z06 (z0b.cons z06 z0b.nil)) Z) z3c)<|z3f (by kernel_rfl)<|z40 (fun aa ww h=>⟨nvl [v8,(n5 0),(n7 0)],Zu h [2,31,40,46]⟩)
   ·
    refine oDoB 7 Z (gd0 Z) Z Z Z (z5w 46 z3c (ZrE.nilS (ZrE.nilS ZrE.nil))) fun v9=>z3i 5 [] [(100,40)] Z (by kernel_rfl) Z (gd0 Z) Z Tryz.func74 Z Z (z52 _) (Y1 Z) rN Z (fun _ _=>z31) fun r10 n11=>zq1 6 Z (by kernel_rfl) (by kernel_rfl) (by kernel_rfl) (gd0 Z) Z Z (zpb [(0,1),(1,1)] Tryz.underlying49 z3c (ZrE.nilS (ZrE.nilS ZrE.nil)) Z (zf4.cons Z Z z06 (z87.cast (z87.here z06) Z)<|zf4.cons Z Z z06 (z87.cast (z87.next z06 (z87.here z06)) Z)<|zf4.done Z))<|Zp 8 Z Z Z Z Z (zom 46 Z Z (z0b.cast (z0b.cons z06 (z0b.cons z06 z0b.nil)) Z) Z (z3b.cons z1c (z3b.cons z1c z3b.nil)) (z0b.cast (z0b.cons z06 (z0b.cons z06 z0b.nil)) Z) z3c)<|z3f (by kernel_rfl)<|z40 (fun aa ww h=>⟨nvl [v9,(n5 0),(n11 0)],Zu h [2,31,40,46]⟩)
  ·
   refine oDoB 7 Z (gd0 Z) Z Z Z (z5w 46 z3c (ZrE.nilS (ZrE.nilS ZrE.nil))) fun v12=>z3i 2 [] [(100,31)] Z (by kernel_rfl) Z (gd0 Z) Z Tryz.func61 Z Z (z16 _) (Y1 Z) rN Z (fun _ _=>z31) fun r13 n14=>z3i 5 [] [(100,40)] Z (by kernel_rfl) Z (gd0 Z) Z Tryz.func74 Z Z (z52 _) (Y1 Z) rN Z (fun _ _=>z31) fun r15 n16=>zq1 6 Z (by kernel_rfl) (by kernel_rfl) (by kernel_rfl) (gd0 Z) Z Z (zpb [(0,1),(1,1)] Tryz.underlying49 z3c (ZrE.nilS (ZrE.nilS ZrE.nil)) Z (zf4.cons Z Z z06 (z87.cast (z87.here z06) Z)<|zf4.cons Z Z z06 (z87.cast (z87.next z06 (z87.here z06)) Z)<|zf4.done Z))<|Zp 8 Z Z Z Z Z (zom 46 Z Z (z0b.cast (z0b.cons z06 (z0b.cons z06 z0b.nil)) Z) Z (z3b.cons z1c (z3b.cons z1c z3b.nil)) (z0b.cast (z0b.cons z06 (z0b.cons z06 z0b.nil)) Z) z3c)<|z3f (by kernel_rfl)<|z40 (fun aa ww h=>⟨nvl [v12,(n14 0),(n16 0)],Zu h [2,31,40,46]⟩)
 ·
  refine gEx fun n17=>z7x (fun (s18:(List z04)) aa ww=>Sta (ctx 32 H [] w) [(2,.val (z09 v2 0)),(3,.val (z09 (n17 0) 0))] [(2,some (v2,.box 49 [.val (.slice none 0 0),.val (.slice none 0 0)])),(9,some ((n17 1),.list aZ 94 s3.1)),(18,some ((n17 2),.list z03 86 s18)),(24,some ((n17 0),.box 49 [.val (n17 1),.val (n17 2)]))] aa ww) ?_ (fun s18=>?_)
  ·
   refine gSR<|Zq (faB 24 Z Z Tryz.underlying49 Z (by exact z9o))<|Zq (ldV 24 Z Z (At.cast (At.next z06 At.here) Z) sc47 Z)<|Zq (z2w Z (.own 18 Z) Z tu47)<|Zm Z<|Zn<|z1h (fun (s19:(List z04) × Int) aa ww=>Sta (ctx 32 H [] w) [(2,.val (z09 v2 0)),(3,.val (z09 (n17 0) 0)),(14,.rd z07 (s3.2.length:Int)),(15,.rd z07 s19.2)] [(2,some (v2,.box 49 [.val (.slice none 0 0),.val (.slice none 0 0)])),(9,some ((n17 1),.list aZ 94 s3.1)),(18,some ((n17 2),.list z03 86 s19.1)),(24,some ((n17 0),.box 49 [.val (n17 1),.val (n17 2)]))] aa ww) (fun aa ww h=>Zu h [2,9,18,24]) (fun s19=>?_)
   refine gSR<|Zq (I.lss Z Z)<|Zn<|z0m<|gIf Z Z (fun h20=>?_) (fun h20=>?_)
   ·
    refine Zt<|z0m<|z43<|gSR<|Zm Z<|Zb Z<|z5v [18,82] mixed Z Z<|hTk 0 Z Z (faB 24 Z Z Tryz.underlying49 Z (by exact z9o))<|hTk 1 Z Z (ldV 24 Z Z (At.cast (At.next z06 At.here) Z) sc47 Z)<|hTk 2 Z Z (mv Z)<|hTk 3 Z Z (faB 24 Z Z Tryz.underlying49 Z (by exact z9o))<|hTk 4 Z Z (ldV 24 Z Z (At.cast (At.next z06 At.here) Z) sc47 Z)<|hTk 5 Z Z (mv Z)<|z3z fun x21 h22=>hTk 6 Z Z (ixO 18 Z Z Z h22 tu47 z7r)<|hTk 7 Z Z (fa 18 Z Z zs2 (z17r h22) Tryz.underlying86 Z (by exact z8d))<|hRun 8 Z (by kernel_rfl) (gd0 Z) Z Z anyJ (ld 18 Z Z ((Foc.el h22).part (z0z _)) z9w Z)<|z3i 9 [] [(100,82)] Z (by kernel_rfl) Z (gd0 Z) Z Tryz.func61 Z Z (z16 _) (Y1 Z) rN Z (fun _ _=>z31) fun r23 n24=>z3z fun x25 h26=>hTk 10 Z Z (ixO 18 Z Z Z h26 tu47 z7r)<|hTk 11 Z Z (fa 18 Z Z zs2 (z17r h26) Tryz.underlying86 Z (by exact z8d))<|hFrz 82 [27] Z (fS Z<|fN)<|Zp 12 Z Z Z Z Z (sto 18 Z Z ((Foc.el h26).part (z0z _)) Z z8d)<|z3f (by kernel_rfl)<|z2t<|z0j<|z1y<|Zq (I.add Z Z)<|Zm Z<|z1k<|z1a (fun aa ww h=>Zu h [2,9,18,24])
   ·
    refine z1f<|z0u<|z0v<|z40 (fun aa ww h=>Zu h [2,9,18,24])
  ·
   refine gSR<|zxr [.rd (z02 aZ) s3.1,.val (n17 2)] 24 9 [] [.val (n17 2)] Z Z Z Z Z<|zxr [.rd (z02 aZ) s3.1,.rd (z02 z03) s18] 24 18 [.rd (z02 aZ) s3.1] [] Z Z Z Z Z<|zbb (R:=z01) (⟨s3.1,s18⟩:z00) 24 Z (Sp.via (Sp.prod (Sp.prod Sp.unit)))<|Zq (ld 24 Z Z fH z7t Z)<|z8t aZ [.rd (z02 aZ) [],.val (.slice none 0 0)] 2 [] [.val (.slice none 0 0)] Z Z Z<|z8t z03 [.rd (z02 aZ) [],.rd (z02 z03) []] 2 [.rd (z02 aZ) []] [] Z Z Z<|zbb (R:=z01) (⟨[],[]⟩:z00) 2 Z (Sp.via (Sp.prod (Sp.prod Sp.unit)))<|Es (sto 2 Z Z fH Z z3c)<|Zn<|z0g<|zap [] [] Z (eC 2 Z Z z7t<|eN) (rN)
def zc3 (a0:List z00) (s2:(List z00) × Int):Option (Sum ((List z00)) ((List z00) × Int)) :=
 if decide (s2.2<(a0.length:Int)) then
  idx a0 s2.2 >>= fun x5 =>
  za8 x5 >>= fun r8 =>
  app 48 s2.1 [r8] >>= fun x11 =>
  some (.inr (x11,w64 (s2.2+1)))
 else
  some (.inl s2.1)
def zaq (a0:List z00):Option ((List z00)) :=
 (iter (zc3 a0) ([],0)) >>= fun s1 =>
 some s1
theorem zol (a0:List z00):z1w Tryz.prog 35 [.rd (z02 z01) a0] [] (zaq a0) (fun r nv=>⟨[.val (nv 0)],[(100,some (nv 0,.list z01 49 r))]⟩):=by
 refine z2l 19 Tryz.func35 Z Z Z fun H w=>?_
 refine gSR<|Zb Z<|gSR<|Zb Z<|z7x (fun (s1:(List z00)) aa ww=>∃ nv:Nat→Value,Sta (ctx 19 H [] w) [(3,.val (nv 0))] [(3,some ((nv 0),.list z01 49 s1))] aa ww) ?_ (fun s1=>?_)
 ·
  refine gSR<|Zm Z<|Zq (z2w Z .rd Z tu22)<|Zm Z<|Zn<|zps z01 49 7<|z1h (fun (s2:(List z00) × Int) aa ww=>∃ nv:Nat→Value,Sta (ctx 19 H [] w) [(3,.val (nv 0)),(6,.rd (z02 z01) a0),(7,.rd z07 (a0.length:Int)),(8,.rd z07 s2.2)] [(6,some ((nv 0),.list z01 49 s2.1))] aa ww) (fun aa ww h=>⟨nvl [(.slice none 0 0)],Zu h [7]⟩) (fun s2=>?_)
  refine gEx fun n3=>gSR<|Zq (I.lss Z Z)<|Zn<|z0m<|gIf Z Z (fun h4=>?_) (fun h4=>?_)
  ·
   refine Zt<|z0m<|z43<|gSR<|z0w fun x5 h6=>Zq (ixR Z Z h6 tu22 z3c Z)<|Zq (ldR Z z7t)<|Eb Z (z5w 8 z3c (ZrE.nilS (ZrE.nilS ZrE.nil))) fun v7=>z8t aZ [.rd (z02 aZ) [],.val (.slice none 0 0)] 8 [] [.val (.slice none 0 0)] Z Z Z<|z8t z03 [.rd (z02 aZ) [],.rd (z02 z03) []] 8 [.rd (z02 aZ) []] [] Z Z Z<|zbb (R:=z01) (⟨[],[]⟩:z00) 8 Z (Sp.via (Sp.prod (Sp.prod Sp.unit)))<|Es (sto 8 Z Z fH Z z3c)<|Zn<|z1y<|Zm Z<|Zq (ld 8 Z Z fH z7t Z)<|Zc [] [] Tryz.func57 Z (zbq _) fun r8 n9=>Ef Z (lit (R:=z01) ([r8]:List z00) 9 (pP Z Z<|pN) Z tu22 z3c Z Z) fun v10=>zc6 9 [15] Z (fS Z<|fN)<|z0w fun x11 h12=>Ef Z (apn 6 Z Z Z .rd h12 tu22 z3c Z Z Z) fun v13=>Za Z<|z1k<|z2t<|z0j<|z1y<|Zq (I.add Z Z)<|Zm Z<|z1k<|z1a (fun aa ww h=>⟨nvl [v13],Zu h [6]⟩)
  ·
   refine z1f<|z0u<|z0v<|z40 (fun aa ww h=>⟨nvl [(n3 0)],Zu h [6]⟩)
 ·
  refine gEx fun n14=>gSR<|Zm Z<|Zb Z<|z0g<|Ze [(n14 0)] [3] Z
def zau (a0:Int) (a1:z0c):Option (Bool) :=
 if decide (0≤(min a1.A a1.B)) then
  if decide ((max a1.A a1.B)<a0) then
   some (a1.A != a1.B)
  else
   some false
 else
  some false
theorem zev (a0:Int) (a1:z0c):z1w Tryz.prog 41 [.rd z07 a0,.rd z0h a1] [] (zau a0 a1) (fun r nv=>⟨[.rd z0p r],[]⟩):=by
 refine z2l 27 Tryz.func41 Z Z Z fun H w=>?_
 refine gSR<|Eb Z (bx 1 Z) fun v1=>Zb Z<|gSR<|Zq (faB 1 Z Z Tryz.underlying24 Z (by exact ti3))<|Zq (ld 1 Z Z (fP (z2f _)) ty3 Z)<|Zq (faB 1 Z Z Tryz.underlying24 Z (by exact ti3))<|Zq (ld 1 Z Z (fP (z2q _)) ty3 Z)<|Zq (I.min Z Z)<|Zq (I.geq Z Z)<|Zm Z<|z15 11 Z (fun h2=>?_) (fun h2=>?_)
 ·
  refine lKn 10 Z h2<|z0y Zx Z Z (faB 1 Z Z Tryz.underlying24 Z (by exact ti3))<|z0y Zx Z Z (ld 1 Z Z (fP (z2f _)) ty3 Z)<|z0y Zx Z Z (faB 1 Z Z Tryz.underlying24 Z (by exact ti3))<|z0y Zx Z Z (ld 1 Z Z (fP (z2q _)) ty3 Z)<|z0y Zx Z Z (I.max Z Z)<|z0y Zx Z Z (mv Z)<|z0y Zx Z Z (I.lss Z Z)<|Zq (pkT Z Z)<|Zm Z<|z15 20 Z (fun h3=>?_) (fun h3=>?_)
  ·
   refine lKn 18 Z h3<|lKn 19 Z h3<|z0y Zx Z Z (faB 1 Z Z Tryz.underlying24 Z (by exact ti3))<|z0y Zx Z Z (ld 1 Z Z (fP (z2f _)) ty3 Z)<|z0y Zx Z Z (faB 1 Z Z Tryz.underlying24 Z (by exact ti3))<|z0y Zx Z Z (ld 1 Z Z (fP (z2q _)) ty3 Z)<|z0y Zx Z Z (I.neq Z Z)<|Zq (pkT Z Z)<|Zb Z<|z0g<|Ze [] [] Z
  ·
   refine lKn 18 Z h3<|lKn 19 Z h3<|Zk Z<|Zk Z<|Zk Z<|Zk Z<|Zk Z<|Zq (pkF Z Z)<|Zb Z<|z0g<|Ze [] [] Z
 ·
  refine lKn 10 Z h2<|Zk Z<|Zk Z<|Zk Z<|Zk Z<|Zk Z<|Zk Z<|Zk Z<|Zq (pkF Z Z)<|Zm Z<|Zk Z<|Zk Z<|Zk Z<|Zk Z<|Zk Z<|Zq (pkF Z Z)<|Zb Z<|z0g<|Ze [] [] Z
def zce (c0:List z00) (a1:z0c):Option (Int × (List z00)) :=
 zau (c0.length:Int) a1 >>= fun r2 =>
 if !r2 then
  some (2,c0)
 else
  idx c0 a1.A >>= fun x5 =>
  idx c0 a1.B >>= fun x7 =>
  ziv x5 x7 >>= fun r9 =>
  if r9.2 != 0 then
   some (r9.2,c0)
  else
   za8 r9.1 >>= fun r14 =>
   idx c0 a1.A >>= fun x16 =>
   idx (c0.set (a1.A:Int).toNat r9.1) a1.B >>= fun x18 =>
   some (0,(c0.set (a1.A:Int).toNat r9.1).set (a1.B:Int).toNat r14)
set_option maxHeartbeats 4000000 in
theorem zdf (p0:Value) (c0:List z00) (a1:z0c):z1w Tryz.prog 36 [.val p0,.rd z0h a1] [(1,some (p0,.list z01 49 c0)),zG1] (zce c0 a1) (fun r nv=>⟨[.rd z07 r.1],[(1,some (p0,.list z01 49 r.2)),(1001,some (.bool true,.glob 1 (z2o 64 z0r) z54))]⟩):=by
 refine z2l 40 Tryz.func36 Z Z Z fun H w=>?_
 refine gSR<|Eb Z (bx 2 Z) fun v1=>Zb Z<|z0m<|gSR<|Zm Z<|Zq (z2w Z (.own 1 Z) Z tu22)<|Zq (ld 2 Z Z fH zz6 Z)<|Zc [] [] Tryz.func41 Z (zev _ _) fun r2 n3=>Zq (zct Z)<|Zj Z (fun h4=>?_) (fun h4=>?_)
 ·
  refine gSR<|Zb Z<|z0g<|z0l<|Ze [] [1,1001] Z
 ·
  refine Zt<|z0m<|gSub [(0,.val p0),(3,.val (z09 v1 0))] [(1,some (p0,.list z01 49 c0)),zG1,(2,some (v1,.box 24 [.rd z0h a1]))] [1,1001,2] (sS Z<|sS Z<|sN) (Zi Z<|Zi Z<|Zi Z<|rN)<|z95 fun x5 h6=>z95 fun x7 h8=>z95 fun r9 h11=>gOr [] [⟨2,some ([], fun nv=>(v1,.box 24 [.rd z0h a1])),[]⟩,⟨1,some ([], fun nv=>(p0,.list z01 49 c0)),[]⟩,⟨1001,some ([], fun nv=>((.bool true),.glob 1 (z2o 64 z0r) z54)),[]⟩,⟨3,none,[(14,some ([1], fun nv=>((nv 1),.box 49 [.rd z01 (⟨[],[]⟩:z00)]))),(15,some ([1], fun nv=>((nv 1),.box 49 [.rd z01 r9.1])))]⟩] [pd 13 (.val p0),pk 14 (.val (z09 v1 (0+0))) [(0,0,false)],pk 15 (.rd z07 a1.A) [(0,0,false)],pk 16 (.val (z09 p0 ((a1.A:Int).toNat * 2))) [(1,0,false)],pk 17 (.rd z01 x5) [(1,0,false)],pd 18 (.val p0),pk 19 (.val (z09 v1 (0+1))) [(0,0,false)],pk 20 (.rd z07 a1.B) [(0,0,false)],pk 21 (.val (z09 p0 ((a1.B:Int).toNat * 2))) [(1,0,false)],pk 22 (.rd z01 x7) [(1,0,false)],pk 23 (.tup [.rd z01 r9.1,.rd z07 r9.2]) [(2,0,false)],pd 12 (.tup [.rd z01 r9.1,.rd z07 r9.2]),pd 24 (.rd z01 r9.1),pd 25 (.rd z07 r9.2),⟨some (5,[1], fun nv=>.val (z09 (nv 1) 0)),[(3,0,true)],[1],[]⟩,⟨none,[(3,1,true)],[],[]⟩,pd 6 (.rd z07 r9.2)] mixed (oC (oRn (fun nv E=>mv Z))<|oC (oRn (fun nv E=>faB 2 Z Z Tryz.underlying24 Z (by exact ti3)))<|oC (oRn (fun nv E=>ld 2 Z Z (fP (z2f _)) ty3 Z))<|oC (oRn (fun nv E=>ixO 1 Z Z Z h6 tu22 z3c))<|oC (oRn (fun nv E=>ld 1 Z Z (Foc.el h6) z7t Z))<|oC (oRn (fun nv E=>mv Z))<|oC (oRn (fun nv E=>faB 2 Z Z Tryz.underlying24 Z (by exact ti3)))<|oC (oRn (fun nv E=>ld 2 Z Z (fP (z2q _)) ty3 Z))<|oC (oRn (fun nv E=>ixO 1 Z Z Z h8 tu22 z3c))<|oC (oRn (fun nv E=>ld 1 Z Z (Foc.el h8) z7t Z))<|oC (oCl [] [1001] [] h11 Tryz.func58 Z (fun nv=>(zq4 _ _)) (fun nv=>(Y2 Z Z)) (fun nv E=>(y1 Z)))<|oC (oRn (fun nv E=>mv Z))<|oC (oRn (fun nv E=>ext Z Z))<|oC (oRn (fun nv E=>ext Z Z))<|oC (oEb 3 1 (fun nv E=>z5w 3 z3c (.zr (R:=z01) (x:=(⟨[],[]⟩:z00)) zr49)))<|oC (oEs 3 (fun nv E=>sto 3 Z Z fH Z z3c))<|oC (oRn (fun nv E=>asg Z))<|oN) fun n12=>z0j<|z0m<|gSR<|Zm Z<|Zq (I.neq Z Z)<|Zj Z (fun h13=>?_) (fun h13=>?_)
  ·
   refine gSR<|Zm Z<|Zb Z<|z0g<|z0l<|Ze [] [1,1001] Z
  ·
   refine Zt<|z0m<|z5v [1] mixed Z Z<|hTk 0 Z Z (mv Z)<|hTk 1 Z Z (faB 2 Z Z Tryz.underlying24 Z (by exact ti3))<|hTk 2 Z Z (ld 2 Z Z (fP (z2f _)) ty3 Z)<|hTk 3 Z Z (mv Z)<|hTk 4 Z Z (faB 2 Z Z Tryz.underlying24 Z (by exact ti3))<|hTk 5 Z Z (ld 2 Z Z (fP (z2q _)) ty3 Z)<|hTk 6 Z Z (ld 3 Z Z fH z7t Z)<|hTk 7 Z Z (ld 3 Z Z fH z7t Z)<|zuu 8 [] [] Z (by kernel_rfl) Z (gd0 Z) Z Tryz.func57 Z Z (zbq _) (Y1 Z) rN Z fun r14 n15=>z3z fun x16 h17=>hTk 9 Z Z (ixO 1 Z Z Z h17 tu22 z3c)<|Zp 10 Z Z Z Z Z (sto 1 Z Z (Foc.el h17) Z z3c)<|z3z fun x18 h19=>Zf 11 Z Z z31 (ixO 1 Z Z Z h19 tu22 z3c)<|Zp 12 Z Z Z Z Z (sto 1 Z Z (Foc.el h19) Z z3c)<|z3f (by kernel_rfl)<|z0j<|gSR<|Zb Z<|z0g<|Ze [] [1,1001] Z
def z8g (a1:List z0c) (s8:(List z00) × Int):Option (Sum (Sum ((List z00) × Int) ((List z00))) ((List z00) × Int)) :=
 if decide (s8.2<(a1.length:Int)) then
  idx a1 s8.2 >>= fun x10 =>
  zce s8.1 x10 >>= fun r13 =>
  if r13.1 != 0 then
   some (.inl (.inl ([],r13.1)))
  else
   some (.inr (r13.2,w64 (s8.2+1)))
 else
  some (.inl (.inr s8.1))
def zam (a0:List z00) (a1:List z0c):Option ((List z00) × Int) :=
 z3a a0 >>= fun r1 =>
 if r1 != 0 then
  some ([],r1)
 else
  if decide (100<(a1.length:Int)) then
   some ([],4)
  else
   zaq a0 >>= fun r5 =>
   z3g (iter (z8g a1) (r5,0)) fun s7 =>
   some (s7,0)
theorem zp0 (a0:List z00) (a1:List z0c):z1w Tryz.prog 11 [.rd (z02 z01) a0,.rd (z02 z0h) a1] [zG1] (zam a0 a1) (fun r nv=>⟨[.val (nv 0),.rd z07 r.2],[(1001,some (.bool true,.glob 1 (z2o 64 z0r) z54)),(100,some (nv 0,.list z01 49 r.1))]⟩):=by
 refine z2l 35 Tryz.func11 Z Z Z fun H w=>?_
 refine gSR<|Za Z<|Zb Z<|z0m<|gSR<|Zm Z<|Zc [1001] [] Tryz.func34 Z (ze4 _) fun r1 n2=>Zb Z<|gSR<|Zm Z<|Zq (I.neq Z Z)<|Zj Z (fun h3=>?_) (fun h3=>?_)
 ·
  refine gSR<|Zm Z<|Za Z<|Zb Z<|z0g<|z0l<|zje z01 49 1<|Ze [(.slice none 0 0)] [1001,1] Z
 ·
  refine Zt<|z0m<|gSR<|Zm Z<|Zq (z2w Z .rd Z tu25)<|Zq (I.gtr Z Z)<|Zj Z (fun h4=>?_) (fun h4=>?_)
  ·
   refine gSR<|Za Z<|Zb Z<|z0g<|z0l<|zje z01 49 2<|Ze [(.slice none 0 0)] [1001,2] Z
  ·
   refine Zt<|gSR<|Zm Z<|Zc [] [(100,3)] Tryz.func35 Z (zol _) fun r5 n6=>Zb Z<|z42 (fun (s7:(List z00)) aa ww=>Sta (ctx 35 H [zG1] w) [(7,.val (n6 0))] [(3,some ((n6 0),.list z01 49 s7)),zG1] aa ww) ?_ (fun s7=>?_)
   ·
    refine gSR<|Zm Z<|Zq (z2w Z .rd Z tu25)<|Zm Z<|Zn<|z1h (fun (s8:(List z00) × Int) aa ww=>Sta (ctx 35 H [zG1] w) [(7,.val (n6 0)),(21,.rd (z02 z0h) a1),(22,.rd z07 (a1.length:Int)),(23,.rd z07 s8.2)] [(3,some ((n6 0),.list z01 49 s8.1)),zG1] aa ww) (fun aa ww h=>Zu h [3,1001]) (fun s8=>?_)
    refine gSR<|Zq (I.lss Z Z)<|Zn<|z0m<|gIf Z Z (fun h9=>?_) (fun h9=>?_)
    ·
     refine Zt<|z0m<|z43<|gSR<|z0w fun x10 h11=>Zq (ixR Z Z h11 tu25 zng Z)<|Zq (ldR Z zz6)<|Eb Z (z5w 1100 zng (.zr (R:=z0h) (x:=(⟨0,0⟩:z0c)) zr24)) fun v12=>Es (sto 1100 Z Z fH Z zng)<|Zn<|gSR<|Zm Z<|Zq (ld 1100 Z Z fH zz6 Z)<|Zc [3,1001] [(1,3)] Tryz.func36 Z (zdf _ _ _) fun r13 n14=>Zb Z<|gSR<|Zm Z<|Zq (I.neq Z Z)<|Zj Z (fun h15=>?_) (fun h15=>?_)
     ·
      refine gSR<|Zm Z<|Za Z<|Zb Z<|z0g<|z2j<|z0l<|z3e<|z2z<|zje z01 49 1101<|Ze [(.slice none 0 0)] [1001,1101] Z
     ·
      refine z24<|z2t<|z0j<|z1y<|Zq (I.add Z Z)<|Zm Z<|z1k<|z1a (fun aa ww h=>Zu h [3,1001])
    ·
     refine z1f<|z0u<|z0v<|z3k (fun aa ww h=>Zu h [3,1001])
   ·
    refine gSR<|Zm Z<|Za Z<|Zb Z<|z0g<|Ze [(n6 0)] [1001,3] Z
def z3r (a0:z00) (a1:z00) (s4:Int):Option (Sum (Sum Bool Unit) Int) :=
 if decide (s4<(a0.IDs.length:Int)) then
  idx a0.IDs s4 >>= fun x6 =>
  z5f a1.IDs x6 >>= fun r8 =>
  if decide (0≤r8) then
   idx a0.Ops s4 >>= fun x11 =>
   idx a1.Ops r8 >>= fun x13 =>
   z5q x11 x13 >>= fun r15 =>
   if !r15 then
    some (.inl (.inl true))
   else
    some (.inr (w64 (s4+1)))
  else
   some (.inr (w64 (s4+1)))
 else
  some (.inl (.inr ()))
def z9j (a0:z00) (a1:z00):Option (Bool) :=
 z3g (iter (z3r a0 a1) 0) fun s3 =>
 some false
theorem zhp (a0:z00) (a1:z00):z1w Tryz.prog 53 [.rd z01 a0,.rd z01 a1] [] (z9j a0 a1) (fun r nv=>⟨[.rd z0p r],[]⟩):=by
 refine z2l 38 Tryz.func53 Z Z Z fun H w=>?_
 refine gSR<|Eb Z (bx 1 Z) fun v1=>Eb Z (bx 2 Z) fun v2=>Zb Z<|z42 (fun (s3:Unit) aa ww=>Sta (ctx 38 H [] w) [] [] aa ww) ?_ (fun s3=>?_)
 ·
  refine gSR<|Zb Z<|z1h (fun (s4:Int) aa ww=>Sta (ctx 38 H [] w) [(2,.val (z09 v1 0)),(3,.val (z09 v2 0)),(5,.rd z07 s4)] [(1,some (v1,.box 49 [.rd z01 a0])),(2,some (v2,.box 49 [.rd z01 a1]))] aa ww) (fun aa ww h=>Zu h [1,2]) (fun s4=>?_)
  refine z0m<|gSR<|Zm Z<|Zq (faB 1 Z Z Tryz.underlying49 Z (by exact z8d))<|Zq (ld 1 Z Z (fP (z0e _)) z9w Z)<|Zq (z2w Z .rd Z tu46)<|Zq (I.lss Z Z)<|Zj Z (fun h5=>?_) (fun h5=>?_)
  ·
   refine Zt<|z0m<|z43<|z0m<|z5v [] mixed Z Z<|hTk 0 Z Z (faB 2 Z Z Tryz.underlying49 Z (by exact z8d))<|hTk 1 Z Z (ld 2 Z Z (fP (z0e _)) z9w Z)<|hTk 2 Z Z (faB 1 Z Z Tryz.underlying49 Z (by exact z8d))<|hTk 3 Z Z (ld 1 Z Z (fP (z0e _)) z9w Z)<|hTk 4 Z Z (mv Z)<|z3z fun x6 h7=>hTk 5 Z Z (ixR Z Z h7 tu46 z5i Z)<|hTk 6 Z Z (ldR Z z8z)<|z3i 7 [] [] Z (by kernel_rfl) Z (gd0 Z) Z Tryz.func49 Z Z (zf3 _ _) (Y2 Z Z) rN Z (fun _ _=>z34) fun r8 n9=>hTk 8 Z Z (asg Z)<|z3f (by kernel_rfl)<|z0j<|z0m<|z5v [] mixed Z Z<|hTk 0 Z Z (mv Z)<|hTk 1 Z Z (I.geq Z Z)<|hTk 2 Z Z (mv Z)<|hIf 24 Z Z (fun h10=>?_) (fun h10=>?_)
   ·
    refine hKn 23 Z Z h10<|Zg 3 Z Z (faB 1 Z Z Tryz.underlying49 Z (by exact z9o))<|Zg 4 Z Z (ld 1 Z Z (fP (z08 _)) zcv Z)<|Zg 5 Z Z (mv Z)<|z3z fun x11 h12=>Zg 6 Z Z (ixR Z Z h12 tu47 z7r Z)<|Zg 7 Z Z (ldR Z zbe)<|Zg 8 Z Z (faB 2 Z Z Tryz.underlying49 Z (by exact z9o))<|Zg 9 Z Z (ld 2 Z Z (fP (z08 _)) zcv Z)<|Zg 10 Z Z (mv Z)<|z3z fun x13 h14=>Zg 11 Z Z (ixR Z Z h14 tu47 z7r Z)<|Zg 12 Z Z (ldR Z zbe)<|z3i 13 [] [] Z (by kernel_rfl) Z Zx Z Tryz.func47 Z Z (zd6 _ _) (Y2 Z Z) rN Z (fun _ _=>z6j) fun r15 n16=>Zg 14 Z Z (zct Z)<|hTk 15 Z Z (pkT Z Z)<|z3f (by kernel_rfl)<|z0j<|gIf Z Z (fun h17=>?_) (fun h17=>?_)
    ·
     refine gKn 36 Z h17<|gSR<|Zb Z<|z0g<|z2j<|z0l<|z3e<|z2z<|Ze [] [] Z
    ·
     refine gKn 36 Z h17<|z24<|z2t<|z0j<|z1y<|Zm Z<|Zq (I.add Z Z)<|Za Z<|z1k<|z1a (fun aa ww h=>Zu h [1,2])
   ·
    refine hKn 23 Z Z h10<|hSk 3 Z Z<|hSk 4 Z Z<|hSk 5 Z Z<|hSk 6 Z Z<|hSk 7 Z Z<|hSk 8 Z Z<|hSk 9 Z Z<|hSk 10 Z Z<|hSk 11 Z Z<|hSk 12 Z Z<|hSk 13 Z Z<|hSk 14 Z Z<|hTk 15 Z Z (pkF Z Z)<|z3f (by kernel_rfl)<|z0j<|zbi Z<|z24<|z2t<|z0j<|z1y<|Zm Z<|Zq (I.add Z Z)<|Za Z<|z1k<|z1a (fun aa ww h=>Zu h [1,2])
  ·
   refine z1f<|z0u<|z0v<|z3k (fun aa ww h=>Zu h [])
 ·
  refine gSR<|Zb Z<|z0g<|Ze [] [] Z
def z4m (a0:List z00) (s3:Int):Option (Sum (Sum Int Unit) Int) :=
 if decide (s3<(a0.length:Int)) then
  idx a0 s3 >>= fun x5 =>
  z7o x5 >>= fun r7 =>
  if r7 != 0 then
   some (.inl (.inl r7))
  else
   some (.inr (w64 (s3+1)))
 else
  some (.inl (.inr ()))
def z4i (a0:List z00) (s11:Int) (s14:Int):Option (Sum (Sum (Sum (Sum Int Unit) Int) Unit) Int) :=
 if decide (s14<s11) then
  idx a0 s11 >>= fun x16 =>
  idx a0 s14 >>= fun x18 =>
  z9j x16 x18 >>= fun r20 =>
  if r20 then
   some (.inl (.inl (.inl (.inl 14))))
  else
   some (w64 (s14+1)) >>= fun y23 =>
   some (.inr y23)
 else
  some (.inl (.inr ()))
def z5o (a0:List z00) (s11:Int):Option (Sum (Sum Int Unit) Int) :=
 if decide (s11<(a0.length:Int)) then
  z3g (iter (z4i a0 s11) 0) fun s13 =>
  some (w64 (s11+1)) >>= fun y24 =>
  some (.inr y24)
 else
  some (.inl (.inr ()))
def z4d (a0:List z00):Option (Int) :=
 if decide (5<(a0.length:Int)) then
  some 4
 else
  z3g (iter (z4m a0) 0) fun s2 =>
  z3g (iter (z5o a0) 0) fun s10 =>
  some 0
theorem zhq (a0:List z00):z1w Tryz.prog 32 [.rd (z02 z01) a0] [] (z4d a0) (fun r nv=>⟨[.rd z07 r],[]⟩):=by
 refine z2l 44 Tryz.func32 Z Z Z fun H w=>?_
 refine gSR<|Zb Z<|z0m<|gSR<|Zm Z<|Zq (z2w Z .rd Z tu22)<|Zq (I.gtr Z Z)<|Zj Z (fun h1=>?_) (fun h1=>?_)
 ·
  refine gSR<|Zb Z<|z0g<|z0l<|Ze [] [] Z
 ·
  refine Zt<|z42 (fun (s2:Unit) aa ww=>Sta (ctx 44 H [] w) [(0,.rd (z02 z01) a0)] [] aa ww) ?_ (fun s2=>?_)
  ·
   refine gSR<|Zb Z<|z1h (fun (s3:Int) aa ww=>Sta (ctx 44 H [] w) [(0,.rd (z02 z01) a0),(3,.rd z07 s3)] [] aa ww) (fun aa ww h=>Zu h []) (fun s3=>?_)
   refine z0m<|gSR<|Zm Z<|Zm Z<|Zq (z2w Z .rd Z tu22)<|Zq (I.lss Z Z)<|Zj Z (fun h4=>?_) (fun h4=>?_)
   ·
    refine Zt<|z0m<|z43<|gSR<|Zm Z<|Zm Z<|z0w fun x5 h6=>Zq (ixR Z Z h6 tu22 z3c Z)<|Zq (ldR Z z7t)<|Zc [] [] Tryz.func52 Z (zhk _) fun r7 n8=>Zb Z<|gSR<|Zm Z<|Zq (I.neq Z Z)<|Zj Z (fun h9=>?_) (fun h9=>?_)
    ·
     refine gSR<|Zm Z<|Zb Z<|z0g<|z2j<|z0l<|z3e<|z2z<|Ze [] [] Z
    ·
     refine z24<|z2t<|z0j<|z1y<|Zm Z<|Zq (I.add Z Z)<|Za Z<|z1k<|z1a (fun aa ww h=>Zu h [])
   ·
    refine z1f<|z0u<|z0v<|z3k (fun aa ww h=>Zu h [])
  ·
   refine z42 (fun (s10:Unit) aa ww=>Sta (ctx 44 H [] w) [] [] aa ww) ?_ (fun s10=>?_)
   ·
    refine gSR<|Zb Z<|z1h (fun (s11:Int) aa ww=>Sta (ctx 44 H [] w) [(0,.rd (z02 z01) a0),(5,.rd z07 s11)] [] aa ww) (fun aa ww h=>Zu h []) (fun s11=>?_)
    refine z0m<|gSR<|Zm Z<|Zm Z<|Zq (z2w Z .rd Z tu22)<|Zq (I.lss Z Z)<|Zj Z (fun h12=>?_) (fun h12=>?_)
    ·
     refine Zt<|z42 (fun (s13:Unit) aa ww=>Sta (ctx 44 H [] w) [(0,.rd (z02 z01) a0),(5,.rd z07 s11)] [] aa ww) ?_ (fun s13=>?_)
     ·
      refine z43<|gSR<|Zb Z<|z1h (fun (s14:Int) aa ww=>Sta (ctx 44 H [] w) [(0,.rd (z02 z01) a0),(5,.rd z07 s11),(6,.rd z07 s14)] [] aa ww) (fun aa ww h=>Zu h []) (fun s14=>?_)
      refine z0m<|gSR<|Zm Z<|Zm Z<|Zq (I.lss Z Z)<|Zj Z (fun h15=>?_) (fun h15=>?_)
      ·
       refine Zt<|z0m<|z43<|z0m<|z5v [] mixed Z Z<|hTk 0 Z Z (mv Z)<|hTk 1 Z Z (mv Z)<|z3z fun x16 h17=>hTk 2 Z Z (ixR Z Z h17 tu22 z3c Z)<|hTk 3 Z Z (ldR Z z7t)<|hTk 4 Z Z (mv Z)<|hTk 5 Z Z (mv Z)<|z3z fun x18 h19=>hTk 6 Z Z (ixR Z Z h19 tu22 z3c Z)<|hTk 7 Z Z (ldR Z z7t)<|z3i 8 [] [] Z (by kernel_rfl) Z (gd0 Z) Z Tryz.func53 Z Z (zhp _ _) (Y2 Z Z) rN Z (fun _ _=>z6j) fun r20 n21=>z3f (by kernel_rfl)<|z0j<|gIf Z Z (fun h22=>?_) (fun h22=>?_)
       ·
        refine gSR<|Zb Z<|z0g<|z2j<|z0l<|z3e<|z2j<|z2z<|z3e<|z2z<|Ze [] [] Z
       ·
        refine z24<|z2t<|z0j<|z1y<|Zm Z<|Zq (I.add Z Z)<|Za Z<|z2d 6 Z fun y23=>z1k<|z1a (fun aa ww h=>Zu h [])
      ·
       refine z1f<|z0u<|z0v<|z2t<|z3k (fun aa ww h=>Zu h [])
     ·
      refine z1y<|Zm Z<|Zq (I.add Z Z)<|Za Z<|z2d 5 Z fun y24=>z1k<|z1a (fun aa ww h=>Zu h [])
    ·
     refine z1f<|z0u<|z0v<|z3k (fun aa ww h=>Zu h [])
   ·
    refine gSR<|Zb Z<|z0g<|Ze [] [] Z
def zb0 (a0:Int) (a1:z0c):Option (Bool) :=
 if decide (0≤a1.A) then
  if decide (a1.A<a0) then
   if decide (0≤a1.B) then
    if decide (a1.B<a0) then
     some (a1.A != a1.B)
    else
     some false
   else
    some false
  else
   some false
 else
  some false
theorem zju (a0:Int) (a1:z0c):z1w Tryz.prog 28 [.rd z07 a0,.rd z0h a1] [] (zb0 a0 a1) (fun r nv=>⟨[.rd z0p r],[]⟩):=by
 refine z2l 32 Tryz.func28 Z Z Z fun H w=>?_
 refine gSR<|Eb Z (bx 1 Z) fun v1=>Zb Z<|gSR<|Zq (faB 1 Z Z Tryz.underlying24 Z (by exact ti3))<|Zq (ld 1 Z Z (fP (z2f _)) ty3 Z)<|Zq (I.geq Z Z)<|Zm Z<|z15 8 Z (fun h2=>?_) (fun h2=>?_)
 ·
  refine lKn 7 Z h2<|z0y Zx Z Z (faB 1 Z Z Tryz.underlying24 Z (by exact ti3))<|z0y Zx Z Z (ld 1 Z Z (fP (z2f _)) ty3 Z)<|z0y Zx Z Z (mv Z)<|z0y Zx Z Z (I.lss Z Z)<|Zq (pkT Z Z)<|Zm Z<|z15 14 Z (fun h3=>?_) (fun h3=>?_)
  ·
   refine lKn 12 Z h3<|lKn 13 Z h3<|z0y Zx Z Z (faB 1 Z Z Tryz.underlying24 Z (by exact ti3))<|z0y Zx Z Z (ld 1 Z Z (fP (z2q _)) ty3 Z)<|z0y Zx Z Z (I.geq Z Z)<|Zq (pkT Z Z)<|Zm Z<|z15 19 Z (fun h4=>?_) (fun h4=>?_)
   ·
    refine lKn 17 Z h4<|lKn 18 Z h4<|z0y Zx Z Z (faB 1 Z Z Tryz.underlying24 Z (by exact ti3))<|z0y Zx Z Z (ld 1 Z Z (fP (z2q _)) ty3 Z)<|z0y Zx Z Z (mv Z)<|z0y Zx Z Z (I.lss Z Z)<|Zq (pkT Z Z)<|Zm Z<|z15 25 Z (fun h5=>?_) (fun h5=>?_)
    ·
     refine lKn 23 Z h5<|lKn 24 Z h5<|z0y Zx Z Z (faB 1 Z Z Tryz.underlying24 Z (by exact ti3))<|z0y Zx Z Z (ld 1 Z Z (fP (z2f _)) ty3 Z)<|z0y Zx Z Z (faB 1 Z Z Tryz.underlying24 Z (by exact ti3))<|z0y Zx Z Z (ld 1 Z Z (fP (z2q _)) ty3 Z)<|z0y Zx Z Z (I.neq Z Z)<|Zq (pkT Z Z)<|Zb Z<|z0g<|Ze [] [] Z
    ·
     refine lKn 23 Z h5<|lKn 24 Z h5<|Zk Z<|Zk Z<|Zk Z<|Zk Z<|Zk Z<|Zq (pkF Z Z)<|Zb Z<|z0g<|Ze [] [] Z
   ·
    refine lKn 17 Z h4<|lKn 18 Z h4<|Zk Z<|Zk Z<|Zk Z<|Zk Z<|Zq (pkF Z Z)<|Zm Z<|Zk Z<|Zk Z<|Zk Z<|Zk Z<|Zk Z<|Zq (pkF Z Z)<|Zb Z<|z0g<|Ze [] [] Z
  ·
   refine lKn 12 Z h3<|lKn 13 Z h3<|Zk Z<|Zk Z<|Zk Z<|Zq (pkF Z Z)<|Zm Z<|Zk Z<|Zk Z<|Zk Z<|Zk Z<|Zq (pkF Z Z)<|Zm Z<|Zk Z<|Zk Z<|Zk Z<|Zk Z<|Zk Z<|Zq (pkF Z Z)<|Zb Z<|z0g<|Ze [] [] Z
 ·
  refine lKn 7 Z h2<|Zk Z<|Zk Z<|Zk Z<|Zk Z<|Zq (pkF Z Z)<|Zm Z<|Zk Z<|Zk Z<|Zk Z<|Zq (pkF Z Z)<|Zm Z<|Zk Z<|Zk Z<|Zk Z<|Zk Z<|Zq (pkF Z Z)<|Zm Z<|Zk Z<|Zk Z<|Zk Z<|Zk Z<|Zk Z<|Zq (pkF Z Z)<|Zb Z<|z0g<|Ze [] [] Z
def zfn (a0:Int):Option ((Int)) :=
 some (a0)
theorem zlk (a0:Int):z1w Tryz.prog 59 [.rd z07 a0] [] (zfn a0) (fun r nv=>⟨[.clo 79 [.rp z07 r]],[]⟩):=by
 refine z2l 4 Tryz.func59 Z Z Z fun H w=>?_
 refine gSR<|Eb Z (bx 1 Z) fun v1=>Zb Z<|gSR<|Zq (mkf mp0 (mp1 Z))<|Zb Z<|z0g<|z191 2 1 Z Z<|Ze [] [] Z
def z4j {σ:Type} (Y:z0c→σ→Option σ) (go:σ→Bool) (s2:Int × Int × σ):Option (Sum (Sum σ σ) (Int × Int × σ)) :=
 if decide (s2.2.1<s2.1) then
  Y (⟨s2.2.1,w64 (s2.2.1+1)⟩:z0c) s2.2.2 >>= fun s8 =>
  if !(go s8) then
   some (.inl (.inl s8))
  else
   some (.inr (s2.1,w64 (s2.2.1+1),s8))
 else
  some (.inl (.inr s2.2.2))
def zb4 {σ:Type} (a1:Int) (Y:z0c→σ→Option σ) (go:σ→Bool) (s0:σ):Option σ :=
 z3g (iter (z4j Y go) (w64 (a1 - 1),0,s0)) fun s1 =>
 if decide (2<a1) then
  Y (⟨w64 (a1 - 1),0⟩:z0c) s1 >>= fun s18 =>
  some s18
 else
  some s1
theorem zjs (a1:Int):ItC Tryz.prog 79 z0h [.rp z07 a1] (fun {σ} Y go s=>zb4 (σ:=σ) a1 Y go s):=by
 refine z192 24 Tryz.func79 Z Z Z ?_
 intro σ E V0 W0 s0 hJ0 hg0
 refine z42 (fun (s1:σ)=>iAs E 24 [(0,.val (.func (.yield E.l) #[] #[])),(1,.rp z07 a1)] s1) ?_ (fun s1=>?_)
 ·
  refine gSR<|Zq (ldR Z ty3)<|Zq (I.sub Z Z)<|Zm Z<|Zn<|z1h (fun (s2:Int × Int × σ)=>iAs E 24 [(0,.val (.func (.yield E.l) #[] #[])),(1,.rp z07 a1),(5,.rd z07 s2.1),(6,.rd z07 s2.2.1)] s2.2.2) (fun aa ww h=>⟨_,_,hJ0,hg0,Zu h []⟩) (fun s2=>?_)
  refine gExI fun V3 W4 hJ5 hg6=>gSR<|Zq (I.lss Z Z)<|Zn<|z0m<|gIf Z Z (fun h7=>?_) (fun h7=>?_)
  ·
   refine Zt<|z0m<|z43<|gSR<|Zm Z<|Zb Z<|z0m<|z170 5<|Zm Z<|Zm Z<|Zm Z<|Zq (I.add Z Z)<|Zq (bld (x':=(⟨s2.2.1,w64 (s2.2.1+1)⟩:z0c)) [(0,1),(1,1)] Tryz.underlying24 zng Z zr24 Z (Bld.cons (z2f _) Z Z<|Bld.cons (z2q _) Z Z<|Bld.done Z))<|z1k<|z13a hJ5 hg6 Z Z Z fun s8 V9 W10 hJ11=>Zq (zct Z)<|Zj Z (fun h12=>?_) (fun h12=>?_)
   ·
    refine z0g<|z2j<|z0l<|z3e<|z2z<|z19c hJ11 Z
   ·
    refine z24<|z2t<|z0j<|z1y<|Zq (I.add Z Z)<|Zm Z<|z1k<|z1a (fun aa ww h=>⟨_,_,hJ11,(z193 h12),Zu h []⟩)
  ·
   refine z1f<|z0u<|z0v<|z3k (fun aa ww h=>⟨_,_,hJ5,hg6,Zu h []⟩)
 ·
  refine gExI fun V13 W14 hJ15 hg16=>gSR<|Zq (ldR Z ty3)<|Zq (I.gtr Z Z)<|Zj Z (fun h17=>?_) (fun h17=>?_)
  ·
   refine z170 4<|Zm Z<|Zq (ldR Z ty3)<|Zq (I.sub Z Z)<|Zq (bld (x':=(⟨w64 (a1 - 1),0⟩:z0c)) [(0,1),(1,1)] Tryz.underlying24 zng Z zr24 Z (Bld.cons (z2f _) Z Z<|Bld.done Z))<|z1k<|z13a hJ15 hg16 Z Z Z fun s18 V19 W20 hJ21=>z1k<|z18v hJ21 Z
  ·
   refine z24<|z18v hJ15 Z
def z49 (x11:z0c) (s5:(List z00)):Option (Sum (Int × (List z00)) ((List z00))) :=
 zce s5 x11 >>= fun r22 =>
 if r22.1 != 0 then
  some (.inl (r22.1,r22.2))
 else
  some (.inr r22.2)
def zbh (c0:List z00):Option (Int × (List z00)) :=
 zfn (c0.length:Int) >>= fun r3 =>
 z3g (zb4 r3 (zok (z49)) Sum.isRight (.inr c0)) fun s15 =>
 some (0,s15)
theorem zfy (p0:Value) (c0:List z00):z1w Tryz.prog 38 [.val p0] [(1,some (p0,.list z01 49 c0)),zG1] (zbh c0) (fun r nv=>⟨[.rd z07 r.1],[(1,some (p0,.list z01 49 r.2)),(1001,some (.bool true,.glob 1 (z2o 64 z0r) z54))]⟩):=by
 refine z19f 15 Tryz.func38 Z Z Z fun H w=>?_
 refine gSR<|Eb Z (bx 2 Z) fun v1=>Eb Z (z5w 3 ti28 (.zr (R:=z07) (x:=0) (Zr.num Z))) fun v2=>Zn<|z0m<|gSR<|Zq (ldV 2 Z Z .here sc22 Z)<|Zq (z2w Z (.own 1 Z) Z tu22)<|Zc [] [] Tryz.func59 Z (zlk _) fun r3 n4=>Zn<|z18c (z17c (it:=fun {σ} Y go s=>zb4 (σ:=σ) r3 Y go s) (fun (b16:Int × (List z00)) (n6:Nat→Value)=>[(1,some (p0,.list z01 49 b16.2)),zG1,(3,some (v2,.box 28 [.rd z07 b16.1]))]) (fun (s5:(List z00)) (n6:Nat→Value)=>[(1,some (p0,.list z01 49 s5)),(2,some (v1,.box 22 [.val p0])),(3,some (v2,.box 28 [.rd z07 0])),zG1]) [(1,.val (z09 v1 0)),(2,.val (z09 v2 0))] 4 [] [1,2,3,1001] (zjs r3) (fun _ _=>zba Tryz.func79 Z Z) Z (sS Z<|sS Z<|sN) (Zi Z<|Zi Z<|Zi Z<|Zi Z<|rN) Z ?_ ?_) (fun s15=>?_)
 ·
  intro lp7 rec8 H9 W10 n6 x11 s5 hr12 hlp13 hl14
  refine z1y<|Eb Z (z5w 1100 zng (.zr (R:=z0h) (x:=(⟨0,0⟩:z0c)) zr24)) fun v17=>Es (sto 1100 Z Z fH Z zng)<|z1k<|z17f hr12 hlp13 hl14 fun W18 hk19 ho20 hl21=>z43<|gSR<|Zq (ldV 2 Z Z .here sc22 Z)<|Zq (ld 1100 Z Z fH zz6 Z)<|Zc [1,1001] [(1,1)] Tryz.func36 Z (zdf _ _ _) fun r22 n23=>Zb Z<|gSR<|Zm Z<|Zq (I.neq Z Z)<|Zj Z (fun h24=>?_) (fun h24=>?_)
  ·
   refine gSR<|Zm Z<|Es (sto 3 Z Z fH Z ti28)<|Zn<|z0g<|z2j<|z14s [] [1,1001,3] hk19 ho20 hl21 (Zi Z<|Zi Z<|Zi Z<|rN)
  ·
   refine z24<|z2t<|z18k [] [1,2,3,1001] hk19 ho20 hl21 (Zi Z<|Zi Z<|Zi Z<|Zi Z<|rN)
 ·
  intro b16 n25 d26
  refine z0l<|z17z 4 [] [1,1001] Z Z (eC 3 Z Z ty28<|eN) (Zi Z<|Zi Z<|rN)
 ·
  refine eRng fun n25 d26=>z0j<|gSR<|Es (sto 3 Z Z fH Z ti28)<|Zn<|z0g<|z17z 4 [] [1,1001] Z Z (eC 3 Z Z ty28<|eN) (Zi Z<|Zi Z<|rN)
def z96 (a1:Int) (s9:(List z00) × Int):Option (Sum (Sum ((List z00) × Int) ((List z00))) ((List z00) × Int)) :=
 if decide (s9.2<a1) then
  zbh s9.1 >>= fun r11 =>
  if r11.1 != 0 then
   some (.inl (.inl ([],r11.1)))
  else
   some (.inr (r11.2,w64 (s9.2+1)))
 else
  some (.inl (.inr s9.1))
def z9q (a0:List z00) (a1:Int):Option ((List z00) × Int) :=
 z3a a0 >>= fun r1 =>
 if r1 != 0 then
  some ([],r1)
 else
  if decide (a1<0) then
   some ([],2)
  else
   if decide (5<a1) then
    some ([],2)
   else
    zaq a0 >>= fun r6 =>
    z3g (iter (z96 a1) (r6,0)) fun s8 =>
    some (s8,0)
def z7p (a0:List z00) (s5:Int):Option (Sum (Sum (Bool × Int) Unit) Int) :=
 if decide (s5<(a0.length:Int)) then
  idx a0 s5 >>= fun x7 =>
  idx a0 0 >>= fun x10 =>
  z1m x7.IDs x10.IDs >>= fun r12 =>
  if !r12 then
   some (.inl (.inl (false,0)))
  else
   some (.inr (w64 (s5+1)))
 else
  some (.inl (.inr ()))
def z8r (a0:List z00):Option (Bool × Int) :=
 z3a a0 >>= fun r1 =>
 if r1 != 0 then
  some (false,r1)
 else
  z3g (iter (z7p a0) 0) fun s4 =>
  some (true,0)
end
section
open Go Go.RowKit
set_option maxRecDepth 100000
theorem z6w (a0:List z00) (q0:Value) (l0:List z00):z1w Tryz.prog 34 [.vw z01 q0 l0 a0] [(1,some (q0,.list z01 49 l0)),zG1] (z3a a0) (fun r nv=>⟨[.rd z07 r],[(1,some (q0,.list z01 49 l0)),(1001,some (.bool true,.glob 1 (z2o 64 z0r) z54))]⟩):=by
 refine z2l 69 Tryz.func34 Z Z Z fun H w=>?_
 refine gSR<|Zb Z<|z0m<|gSR<|Zm Z<|Zq (z2w Z (.vw 1 Z) Z tu22)<|Zq (I.gtr Z Z)<|Zj Z (fun h1=>?_) (fun h1=>?_)
 ·
  refine gSR<|Zb Z<|z0g<|z0l<|Ze [] [1,1001] Z
 ·
  refine Zt<|z42 (fun (s2:Unit) aa ww=>Sta (ctx 69 H [(1,some (q0,.list z01 49 l0)),zG1] w) [(0,.vw z01 q0 l0 a0)] [(1,some (q0,.list z01 49 l0)),zG1] aa ww) ?_ (fun s2=>?_)
  ·
   refine gSR<|Zm Z<|Zq (z2w Z (.vw 1 Z) Z tu22)<|Zm Z<|Zn<|z1h (fun (s3:Int) aa ww=>Sta (ctx 69 H [(1,some (q0,.list z01 49 l0)),zG1] w) [(0,.vw z01 q0 l0 a0),(16,.vw z01 q0 l0 a0),(17,.rd z07 (a0.length:Int)),(18,.rd z07 s3)] [(1,some (q0,.list z01 49 l0)),zG1] aa ww) (fun aa ww h=>Zu h [1,1001]) (fun s3=>?_)
   refine gSR<|Zq (I.lss Z Z)<|Zn<|z0m<|gIf Z Z (fun h4=>?_) (fun h4=>?_)
   ·
    refine Zt<|z0m<|z43<|gSR<|z0w fun x5 h6=>Zq (ixQ 1 Z Z Z h6 tu22 z3c)<|Zq (ldQ 1 Z Z z7t Z)<|Eb Z (z5w 1100 z3c (ZrE.nilS (ZrE.nilS ZrE.nil))) fun v7=>z8t aZ [.rd (z02 aZ) [],.val (.slice none 0 0)] 1100 [] [.val (.slice none 0 0)] Z Z Z<|z8t z03 [.rd (z02 aZ) [],.rd (z02 z03) []] 1100 [.rd (z02 aZ) []] [] Z Z Z<|zbb (R:=z01) (⟨[],[]⟩:z00) 1100 Z (Sp.via (Sp.prod (Sp.prod Sp.unit)))<|Es (sto 1100 Z Z fH Z z3c)<|Zn<|gSR<|Zq (ld 1100 Z Z fH z7t Z)<|Zc [1001] [] Tryz.func55 Z (zfo _) fun r8 n9=>Zb Z<|gSR<|Zm Z<|Zq (I.neq Z Z)<|Zj Z (fun h10=>?_) (fun h10=>?_)
    ·
     refine gSR<|Zm Z<|Zb Z<|z0g<|z2j<|z0l<|z3e<|z2z<|Ze [] [1,1001] Z
    ·
     refine z24<|z2t<|z0j<|z1y<|Zq (I.add Z Z)<|Zm Z<|z1k<|z1a (fun aa ww h=>Zu h [1,1001])
   ·
    refine z1f<|z0u<|z0v<|z3k (fun aa ww h=>Zu h [1,1001])
  ·
   refine gSR<|Ef Z (mkm aZ z03 1101 (Or.inl Z) Tryz.underlying101) fun v11=>Zb Z<|z42 (fun (s12:Unit) aa ww=>Sta (ctx 69 H [(1,some (q0,.list z01 49 l0)),zG1] w) [] [(1,some (q0,.list z01 49 l0)),zG1] aa ww) ?_ (fun s12=>?_)
   ·
    refine gSR<|Zm Z<|Zq (z2w Z (.vw 1 Z) Z tu22)<|Zm Z<|Zn<|z1h (fun (s13:(List (V3 × z04)) × Int) aa ww=>Sta (ctx 69 H [(1,some (q0,.list z01 49 l0)),zG1] w) [(6,.val v11),(29,.vw z01 q0 l0 a0),(30,.rd z07 (a0.length:Int)),(31,.rd z07 s13.2)] [(1101,some (v11,.map aZ z03 s13.1)),(1,some (q0,.list z01 49 l0)),zG1] aa ww) (fun aa ww h=>Zu h [1101,1,1001]) (fun s13=>?_)
    refine gSR<|Zq (I.lss Z Z)<|Zn<|z0m<|gIf Z Z (fun h14=>?_) (fun h14=>?_)
    ·
     refine Zt<|z42 (fun (s15:(List (V3 × z04))) aa ww=>Sta (ctx 69 H [(1,some (q0,.list z01 49 l0)),zG1] w) [(6,.val v11),(29,.vw z01 q0 l0 a0),(30,.rd z07 (a0.length:Int)),(31,.rd z07 s13.2)] [(1101,some (v11,.map aZ z03 s15)),(1,some (q0,.list z01 49 l0)),zG1] aa ww) ?_ (fun s15=>?_)
     ·
      refine z43<|gSR<|z0w fun x16 h17=>Zq (ixQ 1 Z Z Z h17 tu22 z3c)<|Zq (ldQ 1 Z Z z7t Z)<|Eb Z (z5w 1102 z3c (ZrE.nilS (ZrE.nilS ZrE.nil))) fun v18=>z8t aZ [.rd (z02 aZ) [],.val (.slice none 0 0)] 1102 [] [.val (.slice none 0 0)] Z Z Z<|z8t z03 [.rd (z02 aZ) [],.rd (z02 z03) []] 1102 [.rd (z02 aZ) []] [] Z Z Z<|zbb (R:=z01) (⟨[],[]⟩:z00) 1102 Z (Sp.via (Sp.prod (Sp.prod Sp.unit)))<|Es (sto 1102 Z Z fH Z z3c)<|Zn<|gSR<|Zq (faB 1102 Z Z Tryz.underlying49 Z (by exact z8d))<|Zq (ld 1102 Z Z (fP (z0e _)) z9w Z)<|Zq (z2w Z .rd Z tu46)<|Zm Z<|Zn<|z1h (fun (s19:(List (V3 × z04)) × Int) aa ww=>Sta (ctx 69 H [(1,some (q0,.list z01 49 l0)),zG1] w) [(6,.val v11),(8,.val (z09 v18 0)),(29,.vw z01 q0 l0 a0),(30,.rd z07 (a0.length:Int)),(31,.rd z07 s13.2),(36,.rd (z02 aZ) x16.IDs),(37,.rd z07 (x16.IDs.length:Int)),(38,.rd z07 s19.2)] [(1101,some (v11,.map aZ z03 s19.1)),(1102,some (v18,.box 49 [.rd z01 x16])),(1,some (q0,.list z01 49 l0)),zG1] aa ww) (fun aa ww h=>Zu h [1101,1102,1,1001]) (fun s19=>?_)
      refine gSR<|Zq (I.lss Z Z)<|Zn<|z0m<|gIf Z Z (fun h20=>?_) (fun h20=>?_)
      ·
       refine Zt<|z0m<|z43<|gSR<|Zm Z<|z0w fun x21 h22=>Zq (ixR Z Z h22 tu46 z5i Z)<|Zq (ldR Z z8z)<|Eb Z (z5w 1103 z5i (.zr (R:=aZ) (x:=(Vector.replicate 32 0)) zku)) fun v23=>Za Z<|Es (sto 1103 Z Z fH Z z5i)<|Zn<|z42 (fun (s24:Unit) aa ww=>Sta (ctx 69 H [(1,some (q0,.list z01 49 l0)),zG1] w) [(6,.val v11),(8,.val (z09 v18 0)),(9,.rd z07 s19.2),(10,.val (z09 v23 0)),(29,.vw z01 q0 l0 a0),(30,.rd z07 (a0.length:Int)),(31,.rd z07 s13.2),(36,.rd (z02 aZ) x16.IDs),(37,.rd z07 (x16.IDs.length:Int)),(38,.rd z07 s19.2)] [(1101,some (v11,.map aZ z03 s19.1)),(1102,some (v18,.box 49 [.rd z01 x16])),(1103,some (v23,.box 94 [.rd aZ x21])),(1,some (q0,.list z01 49 l0)),zG1] aa ww) ?_ (fun s24=>?_)
       ·
        refine gSR<|Zm Z<|Zq (ld 1103 Z Z fH z8z Z)<|Zq (mlk2 Z (.own 1101 Z Z) Z ky94 Tryz.underlying101 z7r zr86 Z)<|Zm Z<|Zq (ext Z Z)<|Zq (ext Z Z)<|Eb Z (z5w 1104 z7r (ZrE.rd (R:=z0r) (x:=0) (Zr.num Z) (ZrE.nilS (ZrE.rd (R:=z1u) (x:=0) (Zr.num Z) (ZrE.rd (R:=z0q) (x:=(⟨0,[],(⟨0,0,0,[]⟩:z05)⟩:z0f)) zpr (ZrE.rd (R:=z0s) (x:=(⟨0,0⟩:z0a)) zou ZrE.nil Z) Z) Z)) Z)) fun v25=>z8t aZ [.rd z0r 0,.rd (z02 aZ) [],.rd z1u 0,.rd z0q (⟨0,[],(⟨0,0,0,[]⟩:z05)⟩:z0f),.rd z0s (⟨0,0⟩:z0a)] 1104 [.rd z0r 0] [.rd z1u 0,.rd z0q (⟨0,[],(⟨0,0,0,[]⟩:z05)⟩:z0f),.rd z0s (⟨0,0⟩:z0a)] Z Z Z<|zbb (R:=z03) (⟨0,[],0,(⟨0,[],(⟨0,0,0,[]⟩:z05)⟩:z0f),(⟨0,0⟩:z0a)⟩:z04) 1104 Z (Sp.via (Sp.prod (Sp.prod (Sp.prod (Sp.prod (Sp.prod Sp.unit))))))<|Es (sto 1104 Z Z fH Z z7r)<|Za Z<|z2d 12 Z fun y26=>Zn<|z0m<|z5v [] mixed Z Z<|hTk 0 Z Z (mv Z)<|hTk 1 Z Z (mv Z)<|hIf 50 Z Z (fun h27=>?_) (fun h27=>?_)
        ·
         refine hKn 12 Z Z h27<|hKn 49 Z Z h27<|Zg 2 Z Z (ld 1104 Z Z fH zbe Z)<|Zg 3 Z Z (faB 1102 Z Z Tryz.underlying49 Z (by exact z9o))<|Zg 4 Z Z (ld 1102 Z Z (fP (z08 _)) zcv Z)<|Zg 5 Z Z (mv Z)<|z3z fun x28 h29=>Zg 6 Z Z (ixR Z Z h29 tu47 z7r Z)<|Zg 7 Z Z (ldR Z zbe)<|z3i 8 [] [] Z (by kernel_rfl) Z Zx Z Tryz.func56 Z Z (zf6 _ _) (Y2 Z Z) rN Z (fun _ _=>z6j) fun r30 n31=>Zg 9 Z Z (zct Z)<|hTk 10 Z Z (pkT Z Z)<|z3f (by kernel_rfl)<|z0j<|gIf Z Z (fun h32=>?_) (fun h32=>?_)
         ·
          refine gKn 58 Z h32<|gSR<|Zb Z<|z0g<|z2z<|z2j<|z0l<|z3e<|z2j<|z2z<|z3e<|z2z<|Ze [] [1,1001] Z
         ·
          refine gKn 58 Z h32<|z24<|z3k (fun aa ww h=>Zu h [1101,1102,1103,1,1001])
        ·
         refine hKn 12 Z Z h27<|hKn 49 Z Z h27<|hSk 2 Z Z<|hSk 3 Z Z<|hSk 4 Z Z<|hSk 5 Z Z<|hSk 6 Z Z<|hSk 7 Z Z<|hSk 8 Z Z<|hSk 9 Z Z<|hTk 10 Z Z (pkF Z Z)<|z3f (by kernel_rfl)<|z0j<|zbi Z<|z24<|z3k (fun aa ww h=>Zu h [1101,1102,1103,1,1001])
       ·
        refine z5v [1101] mixed Z Z<|hTk 0 Z Z (mv Z)<|hTk 1 Z Z (ld 1103 Z Z fH z8z Z)<|hTk 2 Z Z (faB 1102 Z Z Tryz.underlying49 Z (by exact z9o))<|hTk 3 Z Z (ld 1102 Z Z (fP (z08 _)) zcv Z)<|hTk 4 Z Z (mv Z)<|z3z fun x33 h34=>hTk 5 Z Z (ixR Z Z h34 tu47 z7r Z)<|hTk 6 Z Z (ldR Z zbe)<|Zp 7 Z Z Z Z Z (mup 1101 Z Z Z Z ky94 Tryz.underlying101)<|z3f (by kernel_rfl)<|z2t<|z0j<|z1y<|Zq (I.add Z Z)<|Zm Z<|z1k<|z1a (fun aa ww h=>Zu h [1101,1102,1,1001])
      ·
       refine z1f<|z0u<|z0v<|z2t<|z3k (fun aa ww h=>Zu h [1101,1,1001])
     ·
      refine z1y<|Zq (I.add Z Z)<|Zm Z<|z1k<|z1a (fun aa ww h=>Zu h [1101,1,1001])
    ·
     refine z1f<|z0u<|z0v<|z3k (fun aa ww h=>Zu h [1,1001])
   ·
    refine gSR<|Zb Z<|z0g<|Ze [] [1,1001] Z
theorem zhf (a0:List z00) (q0:Value) (l0:List z00):z1w Tryz.prog 27 [.vw z01 q0 l0 a0] [(1,some (q0,.list z01 49 l0)),zG1] (z8r a0) (fun r nv=>⟨[.rd z0p r.1,.rd z07 r.2],[(1,some (q0,.list z01 49 l0)),(1001,some (.bool true,.glob 1 (z2o 64 z0r) z54))]⟩):=by
 refine z2l 27 Tryz.func27 Z Z Z fun H w=>?_
 refine gSR<|Za Z<|Zb Z<|z0m<|gSR<|Zm Z<|Zc [1,1001] [(1,1)] Tryz.func34 Z (z6w _ _ _) fun r1 n2=>Zb Z<|gSR<|Zm Z<|Zq (I.neq Z Z)<|Zj Z (fun h3=>?_) (fun h3=>?_)
 ·
  refine gSR<|Zm Z<|Za Z<|Zb Z<|z0g<|z0l<|Ze [] [1,1001] Z
 ·
  refine Zt<|z42 (fun (s4:Unit) aa ww=>Sta (ctx 27 H [(1,some (q0,.list z01 49 l0)),zG1] w) [] [(1,some (q0,.list z01 49 l0)),zG1] aa ww) ?_ (fun s4=>?_)
  ·
   refine gSR<|Zm Z<|Zq (z2w Z (.vw 1 Z) Z tu22)<|Zm Z<|Zn<|z1h (fun (s5:Int) aa ww=>Sta (ctx 27 H [(1,some (q0,.list z01 49 l0)),zG1] w) [(0,.vw z01 q0 l0 a0),(12,.vw z01 q0 l0 a0),(13,.rd z07 (a0.length:Int)),(14,.rd z07 s5)] [(1,some (q0,.list z01 49 l0)),zG1] aa ww) (fun aa ww h=>Zu h [1,1001]) (fun s5=>?_)
   refine gSR<|Zq (I.lss Z Z)<|Zn<|z0m<|gIf Z Z (fun h6=>?_) (fun h6=>?_)
   ·
    refine Zt<|z0m<|z43<|gSR<|z0w fun x7 h8=>Zq (ixQ 1 Z Z Z h8 tu22 z3c)<|Zq (ldQ 1 Z Z z7t Z)<|Eb Z (z5w 1100 z3c (ZrE.nilS (ZrE.nilS ZrE.nil))) fun v9=>z8t aZ [.rd (z02 aZ) [],.val (.slice none 0 0)] 1100 [] [.val (.slice none 0 0)] Z Z Z<|z8t z03 [.rd (z02 aZ) [],.rd (z02 z03) []] 1100 [.rd (z02 aZ) []] [] Z Z Z<|zbb (R:=z01) (⟨[],[]⟩:z00) 1100 Z (Sp.via (Sp.prod (Sp.prod Sp.unit)))<|Es (sto 1100 Z Z fH Z z3c)<|Zn<|z0m<|z5v [] mixed Z Z<|hTk 0 Z Z (faB 1100 Z Z Tryz.underlying49 Z (by exact z8d))<|hTk 1 Z Z (ld 1100 Z Z (fP (z0e _)) z9w Z)<|hTk 2 Z Z (mv Z)<|z3z fun x10 h11=>hTk 3 Z Z (ixQ 1 Z Z Z h11 tu22 z3c)<|hTk 4 Z Z (faQ Z (z0e _) Tryz.underlying49 Z Z (by exact z8d))<|hTk 5 Z Z (ldVf 1 Z Z z9w Z)<|z3i 6 [] [] Z (by kernel_rfl) Z (gd0 Z) Z Tryz.func48 Z Z (z56 _ _) (Y2 Z Z) rN Z (fun _ _=>z6j) fun r12 n13=>hTk 7 Z Z (zct Z)<|z3f (by kernel_rfl)<|z0j<|gIf Z Z (fun h14=>?_) (fun h14=>?_)
    ·
     refine gSR<|Za Z<|Zb Z<|z0g<|z2j<|z0l<|z3e<|z2z<|Ze [] [1,1001] Z
    ·
     refine z24<|z2t<|z0j<|z1y<|Zq (I.add Z Z)<|Zm Z<|z1k<|z1a (fun aa ww h=>Zu h [1,1001])
   ·
    refine z1f<|z0u<|z0v<|z3k (fun aa ww h=>Zu h [1,1001])
  ·
   refine gSR<|Za Z<|Zb Z<|z0g<|Ze [] [1,1001] Z
def zbl (s7:(List z00) × Int):Option (Sum (Sum (Int × Int) Unit) ((List z00) × Int)) :=
 if decide (s7.2<3) then
  z8r s7.1 >>= fun r9 =>
  (if r9.2 != 0 then
   some true
  else
   some r9.1) >>= fun s11 =>
  if s11 then
   some (.inl (.inl (s7.2,r9.2)))
  else
   zbh s7.1 >>= fun r14 =>
   if r14.1 != 0 then
    some (.inl (.inl (0,r14.1)))
   else
    some (.inr (r14.2,w64 (s7.2+1)))
 else
  some (.inl (.inr ()))
def zby (a0:List z00):Option (Int × Int) :=
 z3a a0 >>= fun r1 =>
 if r1 != 0 then
  some (0,r1)
 else
  zaq a0 >>= fun r4 =>
  z3g (iter (zbl) (r4,0)) fun s6 =>
  some (0,2)
def z6e (a0:List z00) (s5:Int):Option (Sum (Sum (Bool × Int) Unit) Int) :=
 if decide (s5<(a0.length:Int)) then
  idx a0 s5 >>= fun x7 =>
  idx a0 0 >>= fun x9 =>
  z3j x7.IDs x9.IDs >>= fun r11 =>
  if !r11 then
   some (.inl (.inl (false,0)))
  else
   some (.inr (w64 (s5+1)))
 else
  some (.inl (.inr ()))
def za3 (a0:List z00):Option (Bool × Int) :=
 z4d a0 >>= fun r1 =>
 if r1 != 0 then
  some (false,r1)
 else
  z3g (iter (z6e a0) 1) fun s4 =>
  some (true,0)
def z78 (a0:List UInt64) (s3:(List z04) × Int):Option (Sum (Sum (z00 × Bool) ((List z04))) ((List z04) × Int)) :=
 if decide (s3.2<(a0.length:Int)) then
  idx a0 s3.2 >>= fun x6 =>
  zjw 1 (⟨0,[],x6,(⟨1,[],(⟨0,0,0,[]⟩:z05)⟩:z0f),(⟨0,0⟩:z0a)⟩:z04) >>= fun r8 =>
  if r8.2 != 0 then
   some (.inl (.inl ((⟨[],[]⟩:z00),false)))
  else
   app 112 s3.1 [r8.1] >>= fun x13 =>
   some (w64 (s3.2+1)) >>= fun y16 =>
   some (.inr (x13,y16))
 else
  some (.inl (.inr s3.1))
def z38 (a0:List UInt64):Option (z00 × Bool) :=
 z3g (iter (z78 a0) ([],0)) fun s2 =>
 zr6 s2 >>= fun r18 =>
 if r18.2==0 then
  some ((r18.1.IDs.length:Int)==(a0.length:Int)) >>= fun y22 =>
  some (r18.1,y22)
 else
  some (r18.1,false)
theorem zav (a0:List UInt64):z1w Tryz.prog 22 [.rd (z02 z1u) a0] [zG1] (z38 a0) (fun r nv=>⟨[.rd z01 r.1,.rd z0p r.2],[(1001,some (.bool true,.glob 1 (z2o 64 z0r) z54))]⟩):=by
 refine z2l 49 Tryz.func22 Z Z Z fun H w=>?_
 refine gSR<|Eb Z (z5w 1 z3c (ZrE.nilS (ZrE.nilS ZrE.nil))) fun v1=>Zb Z<|gSR<|Zb Z<|z42 (fun (s2:(List z04)) aa ww=>∃ nv:Nat→Value,Sta (ctx 49 H [zG1] w) [(0,.rd (z02 z1u) a0),(2,.val (z09 v1 0)),(4,.val (nv 0))] [(1,some (v1,.box 49 [.val (.slice none 0 0),.val (.slice none 0 0)])),(4,some ((nv 0),.list z03 86 s2)),zG1] aa ww) ?_ (fun s2=>?_)
 ·
  refine gSR<|Zb Z<|zps z03 86 1103<|z1h (fun (s3:(List z04) × Int) aa ww=>∃ nv:Nat→Value,Sta (ctx 49 H [zG1] w) [(0,.rd (z02 z1u) a0),(2,.val (z09 v1 0)),(4,.val (nv 0)),(5,.rd z07 s3.2)] [(1,some (v1,.box 49 [.val (.slice none 0 0),.val (.slice none 0 0)])),(1102,some ((nv 0),.list z03 86 s3.1)),zG1] aa ww) (fun aa ww h=>⟨nvl [(.slice none 0 0)],Zu h [1,1103,1001]⟩) (fun s3=>?_)
  refine gEx fun n4=>z0m<|gSR<|Zm Z<|Zm Z<|Zq (z2w Z .rd Z tu55)<|Zq (I.lss Z Z)<|Zj Z (fun h5=>?_) (fun h5=>?_)
  ·
   refine Zt<|z0m<|z43<|gSR<|Zm Z<|Zm Z<|z0w fun x6 h7=>Zq (ixR Z Z h7 tu55 zlq Z)<|Zq (ldR Z znt)<|Zq (bld (x':=(⟨1,[],(⟨0,0,0,[]⟩:z05)⟩:z0f)) [(0,1),(1,1),(2,4)] Tryz.underlying82 zks Z zpr Z (Bld.cons (z36 _) Z Z<|Bld.done Z))<|Zq (bld (x':=(⟨0,[],x6,(⟨1,[],(⟨0,0,0,[]⟩:z05)⟩:z0f),(⟨0,0⟩:z0a)⟩:z04)) [(0,1),(1,1),(2,1),(3,6),(9,2)] Tryz.underlying86 z7r Z zr86 Z (Bld.cons (z2r _) Z Z<|Bld.cons (z1e _) Z Z<|Bld.done Z))<|Zc [1001] [] Tryz.func42 Z (zno _ _) fun r8 n9=>Zm Z<|Zq (ext Z Z)<|Zq (ext Z Z)<|Eb Z (z5w 1104 z7r (ZrE.rd (R:=z0r) (x:=0) (Zr.num Z) (ZrE.nilS (ZrE.rd (R:=z1u) (x:=0) (Zr.num Z) (ZrE.rd (R:=z0q) (x:=(⟨0,[],(⟨0,0,0,[]⟩:z05)⟩:z0f)) zpr (ZrE.rd (R:=z0s) (x:=(⟨0,0⟩:z0a)) zou ZrE.nil Z) Z) Z)) Z)) fun v10=>z8t aZ [.rd z0r 0,.rd (z02 aZ) [],.rd z1u 0,.rd z0q (⟨0,[],(⟨0,0,0,[]⟩:z05)⟩:z0f),.rd z0s (⟨0,0⟩:z0a)] 1104 [.rd z0r 0] [.rd z1u 0,.rd z0q (⟨0,[],(⟨0,0,0,[]⟩:z05)⟩:z0f),.rd z0s (⟨0,0⟩:z0a)] Z Z Z<|zbb (R:=z03) (⟨0,[],0,(⟨0,[],(⟨0,0,0,[]⟩:z05)⟩:z0f),(⟨0,0⟩:z0a)⟩:z04) 1104 Z (Sp.via (Sp.prod (Sp.prod (Sp.prod (Sp.prod (Sp.prod Sp.unit))))))<|Es (sto 1104 Z Z fH Z z7r)<|Zb Z<|z0m<|gSR<|Zm Z<|Zq (I.neq Z Z)<|Zj Z (fun h11=>?_) (fun h11=>?_)
   ·
    refine gSR<|Zq (zpb [(0,1),(1,1)] Tryz.underlying49 z3c (ZrE.nilS (ZrE.nilS ZrE.nil)) Z (zf4.done Z))<|Es (zom 1 Z Z (z0b.cast (z0b.cons z06 (z0b.cons z06 z0b.nil)) Z) Z (z3b.cons z1c (z3b.cons z1c z3b.nil)) (z0b.cast (z0b.cons z06 (z0b.cons z06 z0b.nil)) Z) z3c)<|Zb Z<|z0g<|z0l<|z2j<|z0l<|z3e<|z2z<|zkp aZ [.rd (z02 aZ) [],.val (.slice none 0 0)] 1 [] [.val (.slice none 0 0)] Z Z Z<|zkp z03 [.rd (z02 aZ) [],.rd (z02 z03) []] 1 [.rd (z02 aZ) []] [] Z Z Z<|zue (R:=z01) (⟨[],[]⟩:z00) 1 Z (Sp.via (Sp.prod (Sp.prod Sp.unit)))<|zap [] [1001] Z (eC 1 Z Z z7t<|eE Z<|eN) (y1 Z)
   ·
    refine Zt<|z1y<|Zm Z<|Zq (ld 1104 Z Z fH zbe Z)<|Ef Z (lit (R:=z03) ([r8.1]:List z04) 1105 (pP Z Z<|pN) Z tu47 z7r Z Z) fun v12=>zc6 1105 [31] Z (fS Z<|fN)<|z0w fun x13 h14=>Ef Z (apn 1102 Z Z Z .rd h14 tu47 z7r Z Z Z) fun v15=>Za Z<|z1k<|z2t<|z0j<|z1y<|Zm Z<|Zq (I.add Z Z)<|Za Z<|z2d 5 Z fun y16=>z1k<|z1a (fun aa ww h=>⟨nvl [v15],Zu h [1,1102,1001]⟩)
  ·
   refine z1f<|z0u<|z0v<|z3k (fun aa ww h=>⟨nvl [(n4 0)],Zu h [1,1102,1001]⟩)
 ·
  refine gEx fun n17=>gSR<|Zm Z<|zc6 4 [4,34] Z (fS Z<|fS Z<|fN)<|Zc [1001] [] Tryz.func43 Z (zqh _) fun r18 n19=>Zm Z<|Zq (ext Z Z)<|Zq (ext Z Z)<|Eb Z (z5w 1106 z3c (ZrE.nilS (ZrE.nilS ZrE.nil))) fun v20=>z8t aZ [.rd (z02 aZ) [],.val (.slice none 0 0)] 1106 [] [.val (.slice none 0 0)] Z Z Z<|z8t z03 [.rd (z02 aZ) [],.rd (z02 z03) []] 1106 [.rd (z02 aZ) []] [] Z Z Z<|zbb (R:=z01) (⟨[],[]⟩:z00) 1106 Z (Sp.via (Sp.prod (Sp.prod Sp.unit)))<|Es (sto 1106 Z Z fH Z z3c)<|Zb Z<|z0m<|z5v [1] mixed Z Z<|hTk 0 Z Z (ld 1106 Z Z fH z7t Z)<|hTk 1 Z Z (mv Z)<|hTk 2 Z Z (I.eql Z Z)<|hTk 3 Z Z (mv Z)<|hIf 41 Z Z (fun h21=>?_) (fun h21=>?_)
  ·
   refine hKn 40 Z Z h21<|Zg 4 Z Z (faB 1106 Z Z Tryz.underlying49 Z (by exact z8d))<|Zg 5 Z Z (ld 1106 Z Z (fP (z0e _)) z9w Z)<|Zg 6 Z Z (z2w Z .rd Z tu46)<|Zg 7 Z Z (mv Z)<|Zg 8 Z Z (z2w Z .rd Z tu55)<|Zg 9 Z Z (I.eql Z Z)<|hTk 10 Z Z (pkT Z Z)<|hPnl aZ [.rd (z02 aZ) [],.val (.slice none 0 0)] 1 [] [.val (.slice none 0 0)] Z Z Z<|hPnl z03 [.rd (z02 aZ) [],.rd (z02 z03) []] 1 [.rd (z02 aZ) []] [] Z Z Z<|hJoi (R:=z01) (⟨[],[]⟩:z00) 1 Z (Sp.via (Sp.prod (Sp.prod Sp.unit)))<|Zp 11 Z Z Z Z Z (sto 1 Z Z fH Z z3c)<|hTk 12 Z Z (asg Z)<|zw2 3 Z Z fun y22=>z3f (by kernel_rfl)<|z0j<|z0g<|zap [] [1001] Z (eC 1 Z Z z7t<|eE Z<|eN) (y1 Z)
  ·
   refine hKn 40 Z Z h21<|hSk 4 Z Z<|hSk 5 Z Z<|hSk 6 Z Z<|hSk 7 Z Z<|hSk 8 Z Z<|hSk 9 Z Z<|hTk 10 Z Z (pkF Z Z)<|hPnl aZ [.rd (z02 aZ) [],.val (.slice none 0 0)] 1 [] [.val (.slice none 0 0)] Z Z Z<|hPnl z03 [.rd (z02 aZ) [],.rd (z02 z03) []] 1 [.rd (z02 aZ) []] [] Z Z Z<|hJoi (R:=z01) (⟨[],[]⟩:z00) 1 Z (Sp.via (Sp.prod (Sp.prod Sp.unit)))<|Zp 11 Z Z Z Z Z (sto 1 Z Z fH Z z3c)<|hTk 12 Z Z (asg Z)<|z3f (by kernel_rfl)<|z0j<|z0g<|zap [] [1001] Z (eC 1 Z Z z7t<|eE Z<|eN) (y1 Z)
def z9f  : Option ((List z00) × Bool) :=
 z38 [1] >>= fun r2 =>
 z38 [2] >>= fun r6 =>
 z38 [3] >>= fun r10 =>
 if r2.2 then
  if r6.2 then
   some ([r2.1,r6.1,r10.1],r10.2)
  else
   some ([r2.1,r6.1,r10.1],false)
 else
  some ([r2.1,r6.1,r10.1],false)
theorem zh8  : z1w Tryz.prog 18 [] [zG1] (z9f) (fun r nv=>⟨[.val (nv 0),.rd z0p r.2],[(1001,some (.bool true,.glob 1 (z2o 64 z0r) z54)),(100,some (nv 0,.listF z01 49 r.1))]⟩):=by
 refine z2l 34 Tryz.func18 Z Z Z fun H w=>?_
 refine gSR<|Za Z<|Zb Z<|gSR<|Ef Z (lit (R:=z1u) ([1]:List UInt64) 1 (pP Z Z<|pN) Z tu55 zlq Z Z) fun v1=>zc6 1 [9] Z (fS Z<|fN)<|Zc [1001] [] Tryz.func22 Z (zav _) fun r2 n3=>Zm Z<|Zq (ext Z Z)<|Zq (ext Z Z)<|Eb Z (z5w 2 z3c (ZrE.nilS (ZrE.nilS ZrE.nil))) fun v4=>z8t aZ [.rd (z02 aZ) [],.val (.slice none 0 0)] 2 [] [.val (.slice none 0 0)] Z Z Z<|z8t z03 [.rd (z02 aZ) [],.rd (z02 z03) []] 2 [.rd (z02 aZ) []] [] Z Z Z<|zbb (R:=z01) (⟨[],[]⟩:z00) 2 Z (Sp.via (Sp.prod (Sp.prod Sp.unit)))<|Es (sto 2 Z Z fH Z z3c)<|Zb Z<|gSR<|Ef Z (lit (R:=z1u) ([2]:List UInt64) 3 (pP Z Z<|pN) Z tu55 zlq Z Z) fun v5=>zc6 3 [14] Z (fS Z<|fN)<|Zc [1001] [] Tryz.func22 Z (zav _) fun r6 n7=>Zm Z<|Zq (ext Z Z)<|Zq (ext Z Z)<|Eb Z (z5w 4 z3c (ZrE.nilS (ZrE.nilS ZrE.nil))) fun v8=>z8t aZ [.rd (z02 aZ) [],.val (.slice none 0 0)] 4 [] [.val (.slice none 0 0)] Z Z Z<|z8t z03 [.rd (z02 aZ) [],.rd (z02 z03) []] 4 [.rd (z02 aZ) []] [] Z Z Z<|zbb (R:=z01) (⟨[],[]⟩:z00) 4 Z (Sp.via (Sp.prod (Sp.prod Sp.unit)))<|Es (sto 4 Z Z fH Z z3c)<|Zb Z<|gSR<|Ef Z (lit (R:=z1u) ([3]:List UInt64) 5 (pP Z Z<|pN) Z tu55 zlq Z Z) fun v9=>zc6 5 [19] Z (fS Z<|fN)<|Zc [1001] [] Tryz.func22 Z (zav _) fun r10 n11=>Zm Z<|Zq (ext Z Z)<|Zq (ext Z Z)<|Eb Z (z5w 6 z3c (ZrE.nilS (ZrE.nilS ZrE.nil))) fun v12=>z8t aZ [.rd (z02 aZ) [],.val (.slice none 0 0)] 6 [] [.val (.slice none 0 0)] Z Z Z<|z8t z03 [.rd (z02 aZ) [],.rd (z02 z03) []] 6 [.rd (z02 aZ) []] [] Z Z Z<|zbb (R:=z01) (⟨[],[]⟩:z00) 6 Z (Sp.via (Sp.prod (Sp.prod Sp.unit)))<|Es (sto 6 Z Z fH Z z3c)<|Zb Z<|gSR<|Zq (ld 2 Z Z fH z7t Z)<|Zq (ld 4 Z Z fH z7t Z)<|Zq (ld 6 Z Z fH z7t Z)<|Ef Z (litF (R:=z01) ([r2.1,r6.1,r10.1]:List z00) 7 (pP Z Z<|pP Z Z<|pP Z Z<|pN) Z tu22 z3c Z Z) fun v13=>lOpF 7 Z fun hF14=>Zm Z<|Zm Z<|z15 28 Z (fun h15=>?_) (fun h15=>?_)
 ·
  refine lKn 12 Z h15<|lKn 3 Z h15<|lKn 27 Z h15<|z0y Zx Z Z (mv Z)<|Zq (pkT Z Z)<|Zm Z<|z15 31 Z (fun h16=>?_) (fun h16=>?_)
  ·
   refine lKn 17 Z h16<|lKn 5 Z h16<|lKn 29 Z h16<|lKn 30 Z h16<|z0y Zx Z Z (mv Z)<|Zq (pkT Z Z)<|Za Z<|Zb Z<|z0g<|eShF 7 Z hF14<|Ze [v13] [1001,7] Z
  ·
   refine lKn 17 Z h16<|lKn 5 Z h16<|lKn 29 Z h16<|lKn 30 Z h16<|Zk Z<|Zq (pkF Z Z)<|Za Z<|Zb Z<|z0g<|eShF 7 Z hF14<|Ze [v13] [1001,7] Z
 ·
  refine lKn 12 Z h15<|lKn 3 Z h15<|lKn 27 Z h15<|Zk Z<|Zq (pkF Z Z)<|Zm Z<|Zk Z<|Zq (pkF Z Z)<|Za Z<|Zb Z<|z0g<|eShF 7 Z hF14<|Ze [v13] [1001,7] Z
def za4 (s6:(Vector UInt64 5) × Int):Option (Sum ((Vector UInt64 5)) ((Vector UInt64 5) × Int)) :=
 if decide (s6.2<5) then
  chk (0≤s6.2) >>= fun u8 =>
  z5y s6.1 s6.2 >>= fun x10 =>
  some (.inr (zdr s6.1 s6.2 (zmn 1 ((s6.2:Int).toNat)),w64 (s6.2+1)))
 else
  some (.inl s6.1)
def z6z (a0:Int) (a1:List z0c) (s13:(Vector UInt64 5) × Int):Option (Sum (Sum ((List (List Int)) × Int) ((Vector UInt64 5))) ((Vector UInt64 5) × Int)) :=
 if decide (s13.2<(a1.length:Int)) then
  idx a1 s13.2 >>= fun x15 =>
  zau a0 x15 >>= fun r18 =>
  if !r18 then
   some (.inl (.inl ([],2)))
  else
   z5y s13.1 x15.A >>= fun x21 =>
   z5y s13.1 x15.B >>= fun x23 =>
   z5y s13.1 x15.A >>= fun x25 =>
   z5y (zdr s13.1 x15.A (x21 ||| x23)) x15.B >>= fun x27 =>
   some (.inr (zdr (zdr s13.1 x15.A (x21 ||| x23)) x15.B (x21 ||| x23),w64 (s13.2+1)))
 else
  some (.inl (.inr s13.1))
def zac (a0:Int) (s12:(Vector UInt64 5)) (s30:(List (List Int)) × Int) (s34:(List Int) × Int):Option (Sum ((List Int)) ((List Int) × Int)) :=
 if decide (s34.2<a0) then
  z5y s12 s30.2 >>= fun x37 =>
  chk (0≤s34.2) >>= fun u39 =>
  if ((z79 x37 ((s34.2:Int).toNat)) &&& 1)==1 then
   app 8 s34.1 [s34.2] >>= fun x43 =>
   some (.inr (x43,w64 (s34.2+1)))
  else
   some (.inr (s34.1,w64 (s34.2+1)))
 else
  some (.inl s34.1)
def za0 (a0:Int) (s12:(Vector UInt64 5)) (s30:(List (List Int)) × Int):Option (Sum ((List (List Int))) ((List (List Int)) × Int)) :=
 if decide (s30.2<a0) then
  (iter (zac a0 s12 s30) ([],0)) >>= fun s33 =>
  app 24 s30.1 [s33] >>= fun x48 =>
  some (.inr (x48,w64 (s30.2+1)))
 else
  some (.inl s30.1)
def z6k (a0:Int) (a1:List z0c):Option ((List (List Int)) × Int) :=
 if decide (a0<0) then
  some ([],2)
 else
  if decide (5<a0) then
   some ([],2)
  else
   if decide (100<(a1.length:Int)) then
    some ([],4)
   else
    (iter (za4) ((Vector.replicate 5 0),0)) >>= fun s5 =>
    z3g (iter (z6z a0 a1) (s5,0)) fun s12 =>
    (iter (za0 a0 s12) ([],0)) >>= fun s29 =>
    some (s29,0)
theorem zld (a0:Int) (a1:List z0c):z1w Tryz.prog 20 [.rd z07 a0,.rd (z02 z0h) a1] [] (z6k a0 a1) (fun r nv=>⟨[.val (nv 0),.rd z07 r.2],[(100,some (nv 0,.list (z02 z07) 54 r.1))]⟩):=by
 refine z2l 86 Tryz.func20 Z Z Z fun H w=>?_
 refine gSR<|Za Z<|Zb Z<|z0m<|gSR<|Zm Z<|Zq (I.lss Z Z)<|Zm Z<|z15 17 Z (fun h1=>?_) (fun h1=>?_)
 ·
  refine lKn 16 Z h1<|Zk Z<|Zk Z<|Zq (pkT Z Z)<|Zn<|zcu Z<|gSR<|Za Z<|Zb Z<|z0g<|z0l<|zje (z02 z07) 54 1<|Ze [(.slice none 0 0)] [1] Z
 ·
  refine lKn 16 Z h1<|z0y Zx Z Z (mv Z)<|z0y Zx Z Z (I.gtr Z Z)<|Zq (pkF Z Z)<|Zj Z (fun h2=>?_) (fun h2=>?_)
  ·
   refine gKn 19 Z h2<|gSR<|Za Z<|Zb Z<|z0g<|z0l<|zje (z02 z07) 54 2<|Ze [(.slice none 0 0)] [2] Z
  ·
   refine gKn 19 Z h2<|Zt<|z0m<|gSR<|Zm Z<|Zq (z2w Z .rd Z tu25)<|Zq (I.gtr Z Z)<|Zj Z (fun h3=>?_) (fun h3=>?_)
   ·
    refine gSR<|Za Z<|Zb Z<|z0g<|z0l<|zje (z02 z07) 54 3<|Ze [(.slice none 0 0)] [3] Z
   ·
    refine Zt<|gSR<|Eb Z (z5w 4 ti77 (.zr (R:=(z2o 5 z1u)) (x:=(Vector.replicate 5 0)) zr77)) fun v4=>Zn<|z7x (fun (s5:(Vector UInt64 5)) aa ww=>Sta (ctx 86 H [] w) [(0,.rd z07 a0),(1,.rd (z02 z0h) a1),(6,.val (z09 v4 0))] [(4,some (v4,.box 77 [.rd (z2o 5 z1u) s5]))] aa ww) ?_ (fun s5=>?_)
    ·
     refine gSR<|Zm Z<|Zn<|z1h (fun (s6:(Vector UInt64 5) × Int) aa ww=>Sta (ctx 86 H [] w) [(0,.rd z07 a0),(1,.rd (z02 z0h) a1),(6,.val (z09 v4 0)),(24,.rd z07 s6.2)] [(4,some (v4,.box 77 [.rd (z2o 5 z1u) s6.1]))] aa ww) (fun aa ww h=>Zu h [4]) (fun s6=>?_)
     refine gSR<|Zq (I.lss Z Z)<|Zn<|z0m<|gIf Z Z (fun h7=>?_) (fun h7=>?_)
     ·
      refine Zt<|z0m<|z43<|gSR<|Zm Z<|Zb Z<|z1y<|Zm Z<|Zm Z<|z0w fun u8 h9=>Zq (U.shl Z Z (z4z h9))<|z0w fun x10 h11=>Zq (ixB 4 Z Z Z h11 Tryz.underlying77 zpp)<|Es (sto 4 Z Z (fP (.el h11)) Z zpp)<|z1k<|z2t<|z0j<|z1y<|Zq (I.add Z Z)<|Zm Z<|z1k<|z1a (fun aa ww h=>Zu h [4])
     ·
      refine z1f<|z0u<|z0v<|z40 (fun aa ww h=>Zu h [4])
    ·
     refine z42 (fun (s12:(Vector UInt64 5)) aa ww=>Sta (ctx 86 H [] w) [(0,.rd z07 a0),(6,.val (z09 v4 0))] [(4,some (v4,.box 77 [.rd (z2o 5 z1u) s12]))] aa ww) ?_ (fun s12=>?_)
     ·
      refine gSR<|Zm Z<|Zq (z2w Z .rd Z tu25)<|Zm Z<|Zn<|z1h (fun (s13:(Vector UInt64 5) × Int) aa ww=>Sta (ctx 86 H [] w) [(0,.rd z07 a0),(6,.val (z09 v4 0)),(32,.rd (z02 z0h) a1),(33,.rd z07 (a1.length:Int)),(34,.rd z07 s13.2)] [(4,some (v4,.box 77 [.rd (z2o 5 z1u) s13.1]))] aa ww) (fun aa ww h=>Zu h [4]) (fun s13=>?_)
      refine gSR<|Zq (I.lss Z Z)<|Zn<|z0m<|gIf Z Z (fun h14=>?_) (fun h14=>?_)
      ·
       refine Zt<|z0m<|z43<|gSR<|z0w fun x15 h16=>Zq (ixR Z Z h16 tu25 zng Z)<|Zq (ldR Z zz6)<|Eb Z (z5w 5 zng (.zr (R:=z0h) (x:=(⟨0,0⟩:z0c)) zr24)) fun v17=>Es (sto 5 Z Z fH Z zng)<|Zn<|z0m<|gSR<|Zm Z<|Zq (ld 5 Z Z fH zz6 Z)<|Zc [] [] Tryz.func41 Z (zev _ _) fun r18 n19=>Zq (zct Z)<|Zj Z (fun h20=>?_) (fun h20=>?_)
       ·
        refine gSR<|Za Z<|Zb Z<|z0g<|z0l<|z2j<|z0l<|z3e<|z2z<|zje (z02 z07) 54 6<|Ze [(.slice none 0 0)] [6] Z
       ·
        refine Zt<|z0m<|zfa mixed (by kernel_rfl)<|Rq Z (faB 5 Z Z Tryz.underlying24 Z (by exact ti3))<|Rq Z (ld 5 Z Z (fP (z2f _)) ty3 Z)<|z5h fun x21 h22=>Rq Z (ixB 4 Z Z Z h22 Tryz.underlying77 zpp)<|Rq Z (ld 4 Z Z (fP (.el h22)) ty76 Z)<|Rq Z (faB 5 Z Z Tryz.underlying24 Z (by exact ti3))<|Rq Z (ld 5 Z Z (fP (z2q _)) ty3 Z)<|z5h fun x23 h24=>Rq Z (ixB 4 Z Z Z h24 Tryz.underlying77 zpp)<|Rq Z (ld 4 Z Z (fP (.el h24)) ty76 Z)<|Rq Z (U.or Z Z)<|Rq Z (asg Z)<|zpu<|z0j<|z5v [4] mixed Z Z<|hTk 0 Z Z (faB 5 Z Z Tryz.underlying24 Z (by exact ti3))<|hTk 1 Z Z (ld 5 Z Z (fP (z2f _)) ty3 Z)<|hTk 2 Z Z (faB 5 Z Z Tryz.underlying24 Z (by exact ti3))<|hTk 3 Z Z (ld 5 Z Z (fP (z2q _)) ty3 Z)<|hTk 4 Z Z (mv Z)<|hTk 5 Z Z (mv Z)<|z3z fun x25 h26=>hTk 6 Z Z (ixB 4 Z Z Z h26 Tryz.underlying77 zpp)<|Zp 7 Z Z Z Z Z (sto 4 Z Z (fP (.el h26)) Z zpp)<|z3z fun x27 h28=>Zf 8 Z Z z31 (ixB 4 Z Z Z h28 Tryz.underlying77 zpp)<|Zp 9 Z Z Z Z Z (sto 4 Z Z (fP (.el h28)) Z zpp)<|z3f (by kernel_rfl)<|z2t<|z0j<|z1y<|Zq (I.add Z Z)<|Zm Z<|z1k<|z1a (fun aa ww h=>Zu h [4])
      ·
       refine z1f<|z0u<|z0v<|z3k (fun aa ww h=>Zu h [4])
     ·
      refine gSR<|Zb Z<|z7x (fun (s29:(List (List Int))) aa ww=>∃ nv:Nat→Value,Sta (ctx 86 H [] w) [(11,.val (nv 0))] [(47,some ((nv 0),.list (z02 z07) 54 s29))] aa ww) ?_ (fun s29=>?_)
      ·
       refine gSR<|Zm Z<|Zm Z<|Zn<|zps (z02 z07) 54 56<|z1h (fun (s30:(List (List Int)) × Int) aa ww=>∃ nv:Nat→Value,Sta (ctx 86 H [] w) [(0,.rd z07 a0),(6,.val (z09 v4 0)),(11,.val (nv 0)),(60,.rd z07 a0),(61,.rd z07 s30.2)] [(4,some (v4,.box 77 [.rd (z2o 5 z1u) s12])),(55,some ((nv 0),.list (z02 z07) 54 s30.1))] aa ww) (fun aa ww h=>⟨nvl [(.slice none 0 0)],Zu h [4,56]⟩) (fun s30=>?_)
       refine gEx fun n31=>gSR<|Zq (I.lss Z Z)<|Zn<|z0m<|gIf Z Z (fun h32=>?_) (fun h32=>?_)
       ·
        refine Zt<|z0m<|z43<|gSR<|Zm Z<|Zb Z<|gSR<|Zb Z<|z7x (fun (s33:(List Int)) aa ww=>∃ nv:Nat→Value,Sta (ctx 86 H [] w) [(0,.rd z07 a0),(6,.val (z09 v4 0)),(11,.val (n31 0)),(13,.val (nv 0)),(60,.rd z07 a0),(61,.rd z07 s30.2)] [(4,some (v4,.box 77 [.rd (z2o 5 z1u) s12])),(55,some ((n31 0),.list (z02 z07) 54 s30.1)),(58,some ((nv 0),.list z07 3 s33))] aa ww) ?_ (fun s33=>?_)
        ·
         refine gSR<|Zm Z<|Zm Z<|Zn<|zps z07 3 61<|z1h (fun (s34:(List Int) × Int) aa ww=>∃ nv:Nat→Value,Sta (ctx 86 H [] w) [(0,.rd z07 a0),(6,.val (z09 v4 0)),(11,.val (n31 0)),(12,.rd z07 s30.2),(13,.val (nv 0)),(60,.rd z07 a0),(61,.rd z07 s30.2),(64,.rd z07 a0),(65,.rd z07 s34.2)] [(4,some (v4,.box 77 [.rd (z2o 5 z1u) s12])),(55,some ((n31 0),.list (z02 z07) 54 s30.1)),(60,some ((nv 0),.list z07 3 s34.1))] aa ww) (fun aa ww h=>⟨nvl [(.slice none 0 0)],Zu h [4,55,61]⟩) (fun s34=>?_)
         refine gEx fun n35=>gSR<|Zq (I.lss Z Z)<|Zn<|z0m<|gIf Z Z (fun h36=>?_) (fun h36=>?_)
         ·
          refine Zt<|z0m<|z43<|gSR<|Zm Z<|Zb Z<|gSR<|Zm Z<|z0w fun x37 h38=>Zq (ixB 4 Z Z Z h38 Tryz.underlying77 zpp)<|Zq (ld 4 Z Z (fP (.el h38)) ty76 Z)<|Zm Z<|z0w fun u39 h40=>Zq (U.shr Z Z (z4z h40))<|Zq (U.and Z Z)<|Zq (U.eql Z Z)<|Zj Z (fun h41=>?_) (fun h41=>?_)
          ·
           refine z1y<|Zm Z<|Zm Z<|Ef Z (lit (R:=z07) ([s34.2]:List Int) 62 (pP Z Z<|pN) Z tu54 ti3 Z Z) fun v42=>z0w fun x43 h44=>Ef Z (apn 60 Z Z Z (.own 62 Z) h44 tu54 ti3 Z Z Z) fun v45=>Za Z<|z1k<|z2t<|z0j<|z1y<|Zq (I.add Z Z)<|Zm Z<|z1k<|z1a (fun aa ww h=>⟨nvl [v45],Zu h [4,55,60]⟩)
          ·
           refine z24<|z2t<|z0j<|z1y<|Zq (I.add Z Z)<|Zm Z<|z1k<|z1a (fun aa ww h=>⟨nvl [(n35 0)],Zu h [4,55,60]⟩)
         ·
          refine z1f<|z0u<|z0v<|z40 (fun aa ww h=>⟨nvl [(n35 0)],Zu h [4,55,60]⟩)
        ·
         refine gEx fun n46=>z1y<|Zm Z<|Zm Z<|zc6 58 [13,81] Z (fS Z<|fS Z<|fN)<|Ef Z (lit (R:=(z02 z07)) ([s33]:List (List Int)) 63 (pP Z Z<|pN) Z tu50 zrc Z Z) fun v47=>zc6 63 [82] Z (fS Z<|fN)<|z0w fun x48 h49=>Ef Z (apn 55 Z Z Z .rd h49 tu50 zrc Z Z Z) fun v50=>Za Z<|z1k<|z2t<|z0j<|z1y<|Zq (I.add Z Z)<|Zm Z<|z1k<|z1a (fun aa ww h=>⟨nvl [v50],Zu h [4,55]⟩)
       ·
        refine z1f<|z0u<|z0v<|z40 (fun aa ww h=>⟨nvl [(n31 0)],Zu h [55]⟩)
      ·
       refine gEx fun n51=>gSR<|Zm Z<|Za Z<|Zb Z<|z0g<|Ze [(n51 0)] [47] Z
def z6g (a0:List z00) (a1:List Int) (s3:Int):Option (Sum (Sum Bool Unit) Int) :=
 if decide (s3<(a0.length:Int)) then
  idx a0 s3 >>= fun x5 =>
  idx a1 s3 >>= fun x7 =>
  if (x5.IDs.length:Int) != x7 then
   some (.inl (.inl false))
  else
   some (.inr (w64 (s3+1)))
 else
  some (.inl (.inr ()))
def z3l (a0:List z00) (a1:List Int):Option (Bool) :=
 if (a0.length:Int) != (a1.length:Int) then
  some false
 else
  z3g (iter (z6g a0 a1) 0) fun s2 =>
  some true
def z4f (a0:List (List Int)) (a1:List (List Int)) (s3:Int) (s11:Int):Option (Sum (Sum (Sum (Sum Bool Unit) Int) Unit) Int) :=
 idx a0 s3 >>= fun x12 =>
 if decide (s11<(x12.length:Int)) then
  idx a0 s3 >>= fun x15 =>
  idx x15 s11 >>= fun x17 =>
  idx a1 s3 >>= fun x19 =>
  idx x19 s11 >>= fun x21 =>
  if x17 != x21 then
   some (.inl (.inl (.inl (.inl false))))
  else
   some (w64 (s11+1)) >>= fun y24 =>
   some (.inr y24)
 else
  some (.inl (.inr ()))
def z4h (a0:List (List Int)) (a1:List (List Int)) (s3:Int):Option (Sum (Sum Bool Unit) Int) :=
 if decide (s3<(a0.length:Int)) then
  z3g (idx a0 s3 >>= fun x6 =>
  idx a1 s3 >>= fun x8 =>
  if (x6.length:Int) != (x8.length:Int) then
   some (.inl (.inl (.inl false)))
  else
   iter (z4f a0 a1 s3) 0) fun s5 =>
  some (.inr (w64 (s3+1)))
 else
  some (.inl (.inr ()))
def z7j (a0:List (List Int)) (a1:List (List Int)):Option (Bool) :=
 if (a0.length:Int) != (a1.length:Int) then
  some false
 else
  z3g (iter (z4h a0 a1) 0) fun s2 =>
  some true
theorem zfb (a0:List (List Int)) (a1:List (List Int)):z1w Tryz.prog 21 [.rd (z02 (z02 z07)) a0,.rd (z02 (z02 z07)) a1] [] (z7j a0 a1) (fun r nv=>⟨[.rd z0p r],[]⟩):=by
 refine z2l 53 Tryz.func21 Z Z Z fun H w=>?_
 refine gSR<|Zb Z<|z0m<|gSR<|Zm Z<|Zq (z2w Z .rd Z tu50)<|Zm Z<|Zq (z2w Z .rd Z tu50)<|Zq (I.neq Z Z)<|Zj Z (fun h1=>?_) (fun h1=>?_)
 ·
  refine gSR<|Zb Z<|z0g<|z0l<|Ze [] [] Z
 ·
  refine Zt<|z42 (fun (s2:Unit) aa ww=>Sta (ctx 53 H [] w) [] [] aa ww) ?_ (fun s2=>?_)
  ·
   refine gSR<|Zb Z<|z1h (fun (s3:Int) aa ww=>Sta (ctx 53 H [] w) [(0,.rd (z02 (z02 z07)) a0),(1,.rd (z02 (z02 z07)) a1),(5,.rd z07 s3)] [] aa ww) (fun aa ww h=>Zu h []) (fun s3=>?_)
   refine z0m<|gSR<|Zm Z<|Zm Z<|Zq (z2w Z .rd Z tu50)<|Zq (I.lss Z Z)<|Zj Z (fun h4=>?_) (fun h4=>?_)
   ·
    refine Zt<|z42 (fun (s5:Unit) aa ww=>Sta (ctx 53 H [] w) [(0,.rd (z02 (z02 z07)) a0),(1,.rd (z02 (z02 z07)) a1),(5,.rd z07 s3)] [] aa ww) ?_ (fun s5=>?_)
    ·
     refine z43<|z0m<|z0m<|zfa mixed (by kernel_rfl)<|Rq Z (mv Z)<|Rq Z (mv Z)<|z5h fun x6 h7=>Rq Z (ixR Z Z h7 tu50 zrc Z)<|Rq Z (ldR Z zxp)<|Rq Z (z2w Z .rd Z tu54)<|Rq Z (mv Z)<|Rq Z (mv Z)<|z5h fun x8 h9=>Rq Z (ixR Z Z h9 tu50 zrc Z)<|Rq Z (ldR Z zxp)<|Rq Z (z2w Z .rd Z tu54)<|Rq Z (I.neq Z Z)<|zpu<|z0j<|gIf Z Z (fun h10=>?_) (fun h10=>?_)
     ·
      refine gSR<|Zb Z<|z0g<|z0l<|z2j<|z2z<|z3e<|z2z<|Ze [] [] Z
     ·
      refine Zt<|gSR<|Zb Z<|z1h (fun (s11:Int) aa ww=>Sta (ctx 53 H [] w) [(0,.rd (z02 (z02 z07)) a0),(1,.rd (z02 (z02 z07)) a1),(5,.rd z07 s3),(6,.rd z07 s11)] [] aa ww) (fun aa ww h=>Zu h []) (fun s11=>?_)
      refine z0m<|gSR<|Zm Z<|Zm Z<|Zm Z<|z0w fun x12 h13=>Zq (ixR Z Z h13 tu50 zrc Z)<|Zq (ldR Z zxp)<|Zq (z2w Z .rd Z tu54)<|Zq (I.lss Z Z)<|Zj Z (fun h14=>?_) (fun h14=>?_)
      ·
       refine Zt<|z0m<|z43<|z0m<|zfa mixed (by kernel_rfl)<|Rq Z (mv Z)<|Rq Z (mv Z)<|z5h fun x15 h16=>Rq Z (ixR Z Z h16 tu50 zrc Z)<|Rq Z (ldR Z zxp)<|Rq Z (mv Z)<|z5h fun x17 h18=>Rq Z (ixR Z Z h18 tu54 ti3 Z)<|Rq Z (ldR Z ty3)<|Rq Z (mv Z)<|Rq Z (mv Z)<|z5h fun x19 h20=>Rq Z (ixR Z Z h20 tu50 zrc Z)<|Rq Z (ldR Z zxp)<|Rq Z (mv Z)<|z5h fun x21 h22=>Rq Z (ixR Z Z h22 tu54 ti3 Z)<|Rq Z (ldR Z ty3)<|Rq Z (I.neq Z Z)<|zpu<|z0j<|gIf Z Z (fun h23=>?_) (fun h23=>?_)
       ·
        refine gSR<|Zb Z<|z0g<|z2j<|z0l<|z3e<|z2j<|z2z<|z3e<|z2z<|Ze [] [] Z
       ·
        refine z24<|z2t<|z0j<|z1y<|Zm Z<|Zq (I.add Z Z)<|Za Z<|z2d 6 Z fun y24=>z1k<|z1a (fun aa ww h=>Zu h [])
      ·
       refine z1f<|z0u<|z0v<|z2t<|z3k (fun aa ww h=>Zu h [])
    ·
     refine z1y<|Zm Z<|Zq (I.add Z Z)<|Za Z<|z1k<|z1a (fun aa ww h=>Zu h [])
   ·
    refine z1f<|z0u<|z0v<|z3k (fun aa ww h=>Zu h [])
  ·
   refine gSR<|Zb Z<|z0g<|Ze [] [] Z
theorem zbn (a0:List z00) (q0:Value) (l0:List z00):z1w Tryz.prog 35 [.vw z01 q0 l0 a0] [(1,some (q0,.list z01 49 l0))] (zaq a0) (fun r nv=>⟨[.val (nv 0)],[(1,some (q0,.list z01 49 l0)),(100,some (nv 0,.list z01 49 r))]⟩):=by
 refine z2l 19 Tryz.func35 Z Z Z fun H w=>?_
 refine gSR<|Zb Z<|gSR<|Zb Z<|z7x (fun (s1:(List z00)) aa ww=>∃ nv:Nat→Value,Sta (ctx 19 H [(1,some (q0,.list z01 49 l0))] w) [(3,.val (nv 0))] [(4,some ((nv 0),.list z01 49 s1)),(1,some (q0,.list z01 49 l0))] aa ww) ?_ (fun s1=>?_)
 ·
  refine gSR<|Zm Z<|Zq (z2w Z (.vw 1 Z) Z tu22)<|Zm Z<|Zn<|zps z01 49 8<|z1h (fun (s2:(List z00) × Int) aa ww=>∃ nv:Nat→Value,Sta (ctx 19 H [(1,some (q0,.list z01 49 l0))] w) [(3,.val (nv 0)),(6,.vw z01 q0 l0 a0),(7,.rd z07 (a0.length:Int)),(8,.rd z07 s2.2)] [(7,some ((nv 0),.list z01 49 s2.1)),(1,some (q0,.list z01 49 l0))] aa ww) (fun aa ww h=>⟨nvl [(.slice none 0 0)],Zu h [8,1]⟩) (fun s2=>?_)
  refine gEx fun n3=>gSR<|Zq (I.lss Z Z)<|Zn<|z0m<|gIf Z Z (fun h4=>?_) (fun h4=>?_)
  ·
   refine Zt<|z0m<|z43<|gSR<|z0w fun x5 h6=>Zq (ixQ 1 Z Z Z h6 tu22 z3c)<|Zq (ldQ 1 Z Z z7t Z)<|Eb Z (z5w 9 z3c (ZrE.nilS (ZrE.nilS ZrE.nil))) fun v7=>z8t aZ [.rd (z02 aZ) [],.val (.slice none 0 0)] 9 [] [.val (.slice none 0 0)] Z Z Z<|z8t z03 [.rd (z02 aZ) [],.rd (z02 z03) []] 9 [.rd (z02 aZ) []] [] Z Z Z<|zbb (R:=z01) (⟨[],[]⟩:z00) 9 Z (Sp.via (Sp.prod (Sp.prod Sp.unit)))<|Es (sto 9 Z Z fH Z z3c)<|Zn<|z1y<|Zm Z<|Zq (ld 9 Z Z fH z7t Z)<|Zc [] [] Tryz.func57 Z (zbq _) fun r8 n9=>Ef Z (lit (R:=z01) ([r8]:List z00) 10 (pP Z Z<|pN) Z tu22 z3c Z Z) fun v10=>zc6 10 [15] Z (fS Z<|fN)<|z0w fun x11 h12=>Ef Z (apn 7 Z Z Z .rd h12 tu22 z3c Z Z Z) fun v13=>Za Z<|z1k<|z2t<|z0j<|z1y<|Zq (I.add Z Z)<|Zm Z<|z1k<|z1a (fun aa ww h=>⟨nvl [v13],Zu h [7,1]⟩)
  ·
   refine z1f<|z0u<|z0v<|z40 (fun aa ww h=>⟨nvl [(n3 0)],Zu h [7,1]⟩)
 ·
  refine gEx fun n14=>gSR<|Zm Z<|Zb Z<|z0g<|Ze [(n14 0)] [1,4] Z
theorem zio (a0:List z00) (q0:Value) (l0:List z00) (a1:List z0c) (q1:Value) (l1:List z0c):z1w Tryz.prog 11 [.vw z01 q0 l0 a0,.vw z0h q1 l1 a1] [(1,some (q0,.list z01 49 l0)),(2,some (q1,.list z0h 24 l1)),zG1] (zam a0 a1) (fun r nv=>⟨[.val (nv 0),.rd z07 r.2],[(1,some (q0,.list z01 49 l0)),(2,some (q1,.list z0h 24 l1)),(1001,some (.bool true,.glob 1 (z2o 64 z0r) z54)),(100,some (nv 0,.list z01 49 r.1))]⟩):=by
 refine z2l 35 Tryz.func11 Z Z Z fun H w=>?_
 refine gSR<|Za Z<|Zb Z<|z0m<|gSR<|Zm Z<|Zc [1,1001] [(1,1)] Tryz.func34 Z (z6w _ _ _) fun r1 n2=>Zb Z<|gSR<|Zm Z<|Zq (I.neq Z Z)<|Zj Z (fun h3=>?_) (fun h3=>?_)
 ·
  refine gSR<|Zm Z<|Za Z<|Zb Z<|z0g<|z0l<|zje z01 49 3<|Ze [(.slice none 0 0)] [1,2,1001,3] Z
 ·
  refine Zt<|z0m<|gSR<|Zm Z<|Zq (z2w Z (.vw 2 Z) Z tu25)<|Zq (I.gtr Z Z)<|Zj Z (fun h4=>?_) (fun h4=>?_)
  ·
   refine gSR<|Za Z<|Zb Z<|z0g<|z0l<|zje z01 49 4<|Ze [(.slice none 0 0)] [1,2,1001,4] Z
  ·
   refine Zt<|gSR<|Zm Z<|Zc [1] [(100,5),(1,1)] Tryz.func35 Z (zbn _ _ _) fun r5 n6=>Zb Z<|z42 (fun (s7:(List z00)) aa ww=>Sta (ctx 35 H [(1,some (q0,.list z01 49 l0)),(2,some (q1,.list z0h 24 l1)),zG1] w) [(7,.val (n6 0))] [(5,some ((n6 0),.list z01 49 s7)),(1,some (q0,.list z01 49 l0)),(2,some (q1,.list z0h 24 l1)),zG1] aa ww) ?_ (fun s7=>?_)
   ·
    refine gSR<|Zm Z<|Zq (z2w Z (.vw 2 Z) Z tu25)<|Zm Z<|Zn<|z1h (fun (s8:(List z00) × Int) aa ww=>Sta (ctx 35 H [(1,some (q0,.list z01 49 l0)),(2,some (q1,.list z0h 24 l1)),zG1] w) [(7,.val (n6 0)),(21,.vw z0h q1 l1 a1),(22,.rd z07 (a1.length:Int)),(23,.rd z07 s8.2)] [(5,some ((n6 0),.list z01 49 s8.1)),(2,some (q1,.list z0h 24 l1)),(1,some (q0,.list z01 49 l0)),zG1] aa ww) (fun aa ww h=>Zu h [5,2,1,1001]) (fun s8=>?_)
    refine gSR<|Zq (I.lss Z Z)<|Zn<|z0m<|gIf Z Z (fun h9=>?_) (fun h9=>?_)
    ·
     refine Zt<|z0m<|z43<|gSR<|z0w fun x10 h11=>Zq (ixQ 2 Z Z Z h11 tu25 zng)<|Zq (ldQ 2 Z Z zz6 Z)<|Eb Z (z5w 1100 zng (.zr (R:=z0h) (x:=(⟨0,0⟩:z0c)) zr24)) fun v12=>Es (sto 1100 Z Z fH Z zng)<|Zn<|gSR<|Zm Z<|Zq (ld 1100 Z Z fH zz6 Z)<|Zc [5,1001] [(1,5)] Tryz.func36 Z (zdf _ _ _) fun r13 n14=>Zb Z<|gSR<|Zm Z<|Zq (I.neq Z Z)<|Zj Z (fun h15=>?_) (fun h15=>?_)
     ·
      refine gSR<|Zm Z<|Za Z<|Zb Z<|z0g<|z2j<|z0l<|z3e<|z2z<|zje z01 49 1101<|Ze [(.slice none 0 0)] [1,2,1001,1101] Z
     ·
      refine z24<|z2t<|z0j<|z1y<|Zq (I.add Z Z)<|Zm Z<|z1k<|z1a (fun aa ww h=>Zu h [5,2,1,1001])
    ·
     refine z1f<|z0u<|z0v<|z3k (fun aa ww h=>Zu h [5,1,2,1001])
   ·
    refine gSR<|Zm Z<|Za Z<|Zb Z<|z0g<|Ze [(n6 0)] [1,2,1001,5] Z
theorem zie (a0:Int) (a1:List z0c) (q1:Value) (l1:List z0c):z1w Tryz.prog 20 [.rd z07 a0,.vw z0h q1 l1 a1] [(1,some (q1,.list z0h 24 l1))] (z6k a0 a1) (fun r nv=>⟨[.val (nv 0),.rd z07 r.2],[(1,some (q1,.list z0h 24 l1)),(100,some (nv 0,.list (z02 z07) 54 r.1))]⟩):=by
 refine z2l 86 Tryz.func20 Z Z Z fun H w=>?_
 refine gSR<|Za Z<|Zb Z<|z0m<|gSR<|Zm Z<|Zq (I.lss Z Z)<|Zm Z<|z15 17 Z (fun h1=>?_) (fun h1=>?_)
 ·
  refine lKn 16 Z h1<|Zk Z<|Zk Z<|Zq (pkT Z Z)<|Zn<|zcu Z<|gSR<|Za Z<|Zb Z<|z0g<|z0l<|zje (z02 z07) 54 2<|Ze [(.slice none 0 0)] [1,2] Z
 ·
  refine lKn 16 Z h1<|z0y Zx Z Z (mv Z)<|z0y Zx Z Z (I.gtr Z Z)<|Zq (pkF Z Z)<|Zj Z (fun h2=>?_) (fun h2=>?_)
  ·
   refine gKn 19 Z h2<|gSR<|Za Z<|Zb Z<|z0g<|z0l<|zje (z02 z07) 54 3<|Ze [(.slice none 0 0)] [1,3] Z
  ·
   refine gKn 19 Z h2<|Zt<|z0m<|gSR<|Zm Z<|Zq (z2w Z (.vw 1 Z) Z tu25)<|Zq (I.gtr Z Z)<|Zj Z (fun h3=>?_) (fun h3=>?_)
   ·
    refine gSR<|Za Z<|Zb Z<|z0g<|z0l<|zje (z02 z07) 54 4<|Ze [(.slice none 0 0)] [1,4] Z
   ·
    refine Zt<|gSR<|Eb Z (z5w 5 ti77 (.zr (R:=(z2o 5 z1u)) (x:=(Vector.replicate 5 0)) zr77)) fun v4=>Zn<|z7x (fun (s5:(Vector UInt64 5)) aa ww=>Sta (ctx 86 H [(1,some (q1,.list z0h 24 l1))] w) [(0,.rd z07 a0),(1,.vw z0h q1 l1 a1),(6,.val (z09 v4 0))] [(1,some (q1,.list z0h 24 l1)),(5,some (v4,.box 77 [.rd (z2o 5 z1u) s5]))] aa ww) ?_ (fun s5=>?_)
    ·
     refine gSR<|Zm Z<|Zn<|z1h (fun (s6:(Vector UInt64 5) × Int) aa ww=>Sta (ctx 86 H [(1,some (q1,.list z0h 24 l1))] w) [(0,.rd z07 a0),(1,.vw z0h q1 l1 a1),(6,.val (z09 v4 0)),(24,.rd z07 s6.2)] [(1,some (q1,.list z0h 24 l1)),(5,some (v4,.box 77 [.rd (z2o 5 z1u) s6.1]))] aa ww) (fun aa ww h=>Zu h [1,5]) (fun s6=>?_)
     refine gSR<|Zq (I.lss Z Z)<|Zn<|z0m<|gIf Z Z (fun h7=>?_) (fun h7=>?_)
     ·
      refine Zt<|z0m<|z43<|gSR<|Zm Z<|Zb Z<|z1y<|Zm Z<|Zm Z<|z0w fun u8 h9=>Zq (U.shl Z Z (z4z h9))<|z0w fun x10 h11=>Zq (ixB 5 Z Z Z h11 Tryz.underlying77 zpp)<|Es (sto 5 Z Z (fP (.el h11)) Z zpp)<|z1k<|z2t<|z0j<|z1y<|Zq (I.add Z Z)<|Zm Z<|z1k<|z1a (fun aa ww h=>Zu h [1,5])
     ·
      refine z1f<|z0u<|z0v<|z40 (fun aa ww h=>Zu h [1,5])
    ·
     refine z42 (fun (s12:(Vector UInt64 5)) aa ww=>Sta (ctx 86 H [(1,some (q1,.list z0h 24 l1))] w) [(0,.rd z07 a0),(6,.val (z09 v4 0))] [(5,some (v4,.box 77 [.rd (z2o 5 z1u) s12])),(1,some (q1,.list z0h 24 l1))] aa ww) ?_ (fun s12=>?_)
     ·
      refine gSR<|Zm Z<|Zq (z2w Z (.vw 1 Z) Z tu25)<|Zm Z<|Zn<|z1h (fun (s13:(Vector UInt64 5) × Int) aa ww=>Sta (ctx 86 H [(1,some (q1,.list z0h 24 l1))] w) [(0,.rd z07 a0),(6,.val (z09 v4 0)),(32,.vw z0h q1 l1 a1),(33,.rd z07 (a1.length:Int)),(34,.rd z07 s13.2)] [(5,some (v4,.box 77 [.rd (z2o 5 z1u) s13.1])),(1,some (q1,.list z0h 24 l1))] aa ww) (fun aa ww h=>Zu h [5,1]) (fun s13=>?_)
      refine gSR<|Zq (I.lss Z Z)<|Zn<|z0m<|gIf Z Z (fun h14=>?_) (fun h14=>?_)
      ·
       refine Zt<|z0m<|z43<|gSR<|z0w fun x15 h16=>Zq (ixQ 1 Z Z Z h16 tu25 zng)<|Zq (ldQ 1 Z Z zz6 Z)<|Eb Z (z5w 6 zng (.zr (R:=z0h) (x:=(⟨0,0⟩:z0c)) zr24)) fun v17=>Es (sto 6 Z Z fH Z zng)<|Zn<|z0m<|gSR<|Zm Z<|Zq (ld 6 Z Z fH zz6 Z)<|Zc [] [] Tryz.func41 Z (zev _ _) fun r18 n19=>Zq (zct Z)<|Zj Z (fun h20=>?_) (fun h20=>?_)
       ·
        refine gSR<|Za Z<|Zb Z<|z0g<|z0l<|z2j<|z0l<|z3e<|z2z<|zje (z02 z07) 54 7<|Ze [(.slice none 0 0)] [1,7] Z
       ·
        refine Zt<|z0m<|zfa mixed (by kernel_rfl)<|Rq Z (faB 6 Z Z Tryz.underlying24 Z (by exact ti3))<|Rq Z (ld 6 Z Z (fP (z2f _)) ty3 Z)<|z5h fun x21 h22=>Rq Z (ixB 5 Z Z Z h22 Tryz.underlying77 zpp)<|Rq Z (ld 5 Z Z (fP (.el h22)) ty76 Z)<|Rq Z (faB 6 Z Z Tryz.underlying24 Z (by exact ti3))<|Rq Z (ld 6 Z Z (fP (z2q _)) ty3 Z)<|z5h fun x23 h24=>Rq Z (ixB 5 Z Z Z h24 Tryz.underlying77 zpp)<|Rq Z (ld 5 Z Z (fP (.el h24)) ty76 Z)<|Rq Z (U.or Z Z)<|Rq Z (asg Z)<|zpu<|z0j<|z5v [5] mixed Z Z<|hTk 0 Z Z (faB 6 Z Z Tryz.underlying24 Z (by exact ti3))<|hTk 1 Z Z (ld 6 Z Z (fP (z2f _)) ty3 Z)<|hTk 2 Z Z (faB 6 Z Z Tryz.underlying24 Z (by exact ti3))<|hTk 3 Z Z (ld 6 Z Z (fP (z2q _)) ty3 Z)<|hTk 4 Z Z (mv Z)<|hTk 5 Z Z (mv Z)<|z3z fun x25 h26=>hTk 6 Z Z (ixB 5 Z Z Z h26 Tryz.underlying77 zpp)<|Zp 7 Z Z Z Z Z (sto 5 Z Z (fP (.el h26)) Z zpp)<|z3z fun x27 h28=>Zf 8 Z Z z31 (ixB 5 Z Z Z h28 Tryz.underlying77 zpp)<|Zp 9 Z Z Z Z Z (sto 5 Z Z (fP (.el h28)) Z zpp)<|z3f (by kernel_rfl)<|z2t<|z0j<|z1y<|Zq (I.add Z Z)<|Zm Z<|z1k<|z1a (fun aa ww h=>Zu h [5,1])
      ·
       refine z1f<|z0u<|z0v<|z3k (fun aa ww h=>Zu h [5,1])
     ·
      refine gSR<|Zb Z<|z7x (fun (s29:(List (List Int))) aa ww=>∃ nv:Nat→Value,Sta (ctx 86 H [(1,some (q1,.list z0h 24 l1))] w) [(11,.val (nv 0))] [(48,some ((nv 0),.list (z02 z07) 54 s29)),(1,some (q1,.list z0h 24 l1))] aa ww) ?_ (fun s29=>?_)
      ·
       refine gSR<|Zm Z<|Zm Z<|Zn<|zps (z02 z07) 54 57<|z1h (fun (s30:(List (List Int)) × Int) aa ww=>∃ nv:Nat→Value,Sta (ctx 86 H [(1,some (q1,.list z0h 24 l1))] w) [(0,.rd z07 a0),(6,.val (z09 v4 0)),(11,.val (nv 0)),(60,.rd z07 a0),(61,.rd z07 s30.2)] [(5,some (v4,.box 77 [.rd (z2o 5 z1u) s12])),(56,some ((nv 0),.list (z02 z07) 54 s30.1)),(1,some (q1,.list z0h 24 l1))] aa ww) (fun aa ww h=>⟨nvl [(.slice none 0 0)],Zu h [5,57,1]⟩) (fun s30=>?_)
       refine gEx fun n31=>gSR<|Zq (I.lss Z Z)<|Zn<|z0m<|gIf Z Z (fun h32=>?_) (fun h32=>?_)
       ·
        refine Zt<|z0m<|z43<|gSR<|Zm Z<|Zb Z<|gSR<|Zb Z<|z7x (fun (s33:(List Int)) aa ww=>∃ nv:Nat→Value,Sta (ctx 86 H [(1,some (q1,.list z0h 24 l1))] w) [(0,.rd z07 a0),(6,.val (z09 v4 0)),(11,.val (n31 0)),(13,.val (nv 0)),(60,.rd z07 a0),(61,.rd z07 s30.2)] [(5,some (v4,.box 77 [.rd (z2o 5 z1u) s12])),(56,some ((n31 0),.list (z02 z07) 54 s30.1)),(59,some ((nv 0),.list z07 3 s33)),(1,some (q1,.list z0h 24 l1))] aa ww) ?_ (fun s33=>?_)
        ·
         refine gSR<|Zm Z<|Zm Z<|Zn<|zps z07 3 62<|z1h (fun (s34:(List Int) × Int) aa ww=>∃ nv:Nat→Value,Sta (ctx 86 H [(1,some (q1,.list z0h 24 l1))] w) [(0,.rd z07 a0),(6,.val (z09 v4 0)),(11,.val (n31 0)),(12,.rd z07 s30.2),(13,.val (nv 0)),(60,.rd z07 a0),(61,.rd z07 s30.2),(64,.rd z07 a0),(65,.rd z07 s34.2)] [(5,some (v4,.box 77 [.rd (z2o 5 z1u) s12])),(56,some ((n31 0),.list (z02 z07) 54 s30.1)),(61,some ((nv 0),.list z07 3 s34.1)),(1,some (q1,.list z0h 24 l1))] aa ww) (fun aa ww h=>⟨nvl [(.slice none 0 0)],Zu h [5,56,62,1]⟩) (fun s34=>?_)
         refine gEx fun n35=>gSR<|Zq (I.lss Z Z)<|Zn<|z0m<|gIf Z Z (fun h36=>?_) (fun h36=>?_)
         ·
          refine Zt<|z0m<|z43<|gSR<|Zm Z<|Zb Z<|gSR<|Zm Z<|z0w fun x37 h38=>Zq (ixB 5 Z Z Z h38 Tryz.underlying77 zpp)<|Zq (ld 5 Z Z (fP (.el h38)) ty76 Z)<|Zm Z<|z0w fun u39 h40=>Zq (U.shr Z Z (z4z h40))<|Zq (U.and Z Z)<|Zq (U.eql Z Z)<|Zj Z (fun h41=>?_) (fun h41=>?_)
          ·
           refine z1y<|Zm Z<|Zm Z<|Ef Z (lit (R:=z07) ([s34.2]:List Int) 63 (pP Z Z<|pN) Z tu54 ti3 Z Z) fun v42=>z0w fun x43 h44=>Ef Z (apn 61 Z Z Z (.own 63 Z) h44 tu54 ti3 Z Z Z) fun v45=>Za Z<|z1k<|z2t<|z0j<|z1y<|Zq (I.add Z Z)<|Zm Z<|z1k<|z1a (fun aa ww h=>⟨nvl [v45],Zu h [5,56,61,1]⟩)
          ·
           refine z24<|z2t<|z0j<|z1y<|Zq (I.add Z Z)<|Zm Z<|z1k<|z1a (fun aa ww h=>⟨nvl [(n35 0)],Zu h [5,56,61,1]⟩)
         ·
          refine z1f<|z0u<|z0v<|z40 (fun aa ww h=>⟨nvl [(n35 0)],Zu h [5,56,61,1]⟩)
        ·
         refine gEx fun n46=>z1y<|Zm Z<|Zm Z<|zc6 59 [13,81] Z (fS Z<|fS Z<|fN)<|Ef Z (lit (R:=(z02 z07)) ([s33]:List (List Int)) 64 (pP Z Z<|pN) Z tu50 zrc Z Z) fun v47=>zc6 64 [82] Z (fS Z<|fN)<|z0w fun x48 h49=>Ef Z (apn 56 Z Z Z .rd h49 tu50 zrc Z Z Z) fun v50=>Za Z<|z1k<|z2t<|z0j<|z1y<|Zq (I.add Z Z)<|Zm Z<|z1k<|z1a (fun aa ww h=>⟨nvl [v50],Zu h [5,56,1]⟩)
       ·
        refine z1f<|z0u<|z0v<|z40 (fun aa ww h=>⟨nvl [(n31 0)],Zu h [56,1]⟩)
      ·
       refine gEx fun n51=>gSR<|Zm Z<|Za Z<|Zb Z<|z0g<|Ze [(n51 0)] [1,48] Z
theorem zdu (a0:List z00) (q0:Value) (l0:List z00) (a1:Int):z1w Tryz.prog 13 [.vw z01 q0 l0 a0,.rd z07 a1] [(1,some (q0,.list z01 49 l0)),zG1] (z9q a0 a1) (fun r nv=>⟨[.val (nv 0),.rd z07 r.2],[(1,some (q0,.list z01 49 l0)),(1001,some (.bool true,.glob 1 (z2o 64 z0r) z54)),(100,some (nv 0,.list z01 49 r.1))]⟩):=by
 refine z2l 32 Tryz.func13 Z Z Z fun H w=>?_
 refine gSR<|Za Z<|Zb Z<|z0m<|gSR<|Zm Z<|Zc [1,1001] [(1,1)] Tryz.func34 Z (z6w _ _ _) fun r1 n2=>Zb Z<|gSR<|Zm Z<|Zq (I.neq Z Z)<|Zj Z (fun h3=>?_) (fun h3=>?_)
 ·
  refine gSR<|Zm Z<|Za Z<|Zb Z<|z0g<|z0l<|zje z01 49 2<|Ze [(.slice none 0 0)] [1,1001,2] Z
 ·
  refine Zt<|z0m<|gSR<|Zm Z<|Zq (I.lss Z Z)<|Zm Z<|z15 16 Z (fun h4=>?_) (fun h4=>?_)
  ·
   refine lKn 15 Z h4<|Zk Z<|Zk Z<|Zq (pkT Z Z)<|Zn<|zcu Z<|gSR<|Za Z<|Zb Z<|z0g<|z0l<|zje z01 49 3<|Ze [(.slice none 0 0)] [1,1001,3] Z
  ·
   refine lKn 15 Z h4<|z0y Zx Z Z (mv Z)<|z0y Zx Z Z (I.gtr Z Z)<|Zq (pkF Z Z)<|Zj Z (fun h5=>?_) (fun h5=>?_)
   ·
    refine gKn 18 Z h5<|gSR<|Za Z<|Zb Z<|z0g<|z0l<|zje z01 49 4<|Ze [(.slice none 0 0)] [1,1001,4] Z
   ·
    refine gKn 18 Z h5<|Zt<|gSR<|Zm Z<|Zc [1] [(100,5),(1,1)] Tryz.func35 Z (zbn _ _ _) fun r6 n7=>Zb Z<|z42 (fun (s8:(List z00)) aa ww=>Sta (ctx 32 H [(1,some (q0,.list z01 49 l0)),zG1] w) [(7,.val (n7 0))] [(5,some ((n7 0),.list z01 49 s8)),(1,some (q0,.list z01 49 l0)),zG1] aa ww) ?_ (fun s8=>?_)
    ·
     refine gSR<|Zm Z<|Zm Z<|Zn<|z1h (fun (s9:(List z00) × Int) aa ww=>Sta (ctx 32 H [(1,some (q0,.list z01 49 l0)),zG1] w) [(7,.val (n7 0)),(22,.rd z07 a1),(23,.rd z07 s9.2)] [(5,some ((n7 0),.list z01 49 s9.1)),(1,some (q0,.list z01 49 l0)),zG1] aa ww) (fun aa ww h=>Zu h [5,1,1001]) (fun s9=>?_)
     refine gSR<|Zq (I.lss Z Z)<|Zn<|z0m<|gIf Z Z (fun h10=>?_) (fun h10=>?_)
     ·
      refine Zt<|z0m<|z43<|gSR<|Zm Z<|Zc [5,1001] [(1,5)] Tryz.func38 Z (zfy _ _) fun r11 n12=>Zb Z<|gSR<|Zm Z<|Zq (I.neq Z Z)<|Zj Z (fun h13=>?_) (fun h13=>?_)
      ·
       refine gSR<|Zm Z<|Za Z<|Zb Z<|z0g<|z2j<|z0l<|z3e<|z2z<|zje z01 49 1100<|Ze [(.slice none 0 0)] [1,1001,1100] Z
      ·
       refine z24<|z2t<|z0j<|z1y<|Zq (I.add Z Z)<|Zm Z<|z1k<|z1a (fun aa ww h=>Zu h [5,1,1001])
     ·
      refine z1f<|z0u<|z0v<|z3k (fun aa ww h=>Zu h [5,1,1001])
    ·
     refine gSR<|Zm Z<|Za Z<|Zb Z<|z0g<|Ze [(n7 0)] [1,1001,5] Z
end
end Go.Proofs.YthimiiphpckifaaGreatDoor
