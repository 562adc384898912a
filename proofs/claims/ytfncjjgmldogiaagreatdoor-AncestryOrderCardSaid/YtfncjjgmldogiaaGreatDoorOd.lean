import Derived.Test.YtfncjjgmldogiaaGreatDoorOc
set_option linter.unusedSimpArgs false
set_option linter.unusedVariables false
namespace Go.Proofs.YtfncjjgmldogiaaGreatDoor
section
open Go
theorem ztr:∀ (n:Nat) (a:UInt64) (ds:List UInt8) (N:Nat),a.toNat=n→z2r N=ds++z2r n→(z2r N).length≤8→iter z4a (a,ds)=some (z2r N):=by
 intro n
 induction n using Nat.strongRecOn with
 | _ n ih =>
  intro a ds N ha hd hl
  by_cases h0:n=0
  ·
   subst h0
   refine z1j ?_
   unfold z4a
   rw [if_neg (by simp [UInt64.lt_iff_toNat_lt,ha])]
   rw [zb5,List.append_nil] at hd
   rw [hd]
  ·
   have hF:z4a (a,ds)=some (.inr (a / 256,ds++[(a % 256).toUInt8])):=by
    unfold z4a
    rw [if_pos (by simp [UInt64.lt_iff_toNat_lt,ha]; omega)]
    have:ds.length≤8:=Nat.le_trans (zkg hd) hl
    simp only [z2a (show (ds.length+[(a % 256).toUInt8].length) * 1≤140737488355328 by simp; omega),bs]
   rw [z1q hF]
   have hd2:=znf N n ds h0 hd
   refine ih (n / 256) (Nat.div_lt_self (by omega) (by omega)) _ _ N ?_ ?_ hl
   ·
    simp [ha]
   ·
    rw [hd2]
    congr 2
    congr 1
    apply UInt8.toNat_inj.1
    simp [ha]
theorem zml (s:List UInt8) (hl:s.length≤8):∀ (i:Nat) (acc:List UInt8),i≤s.length→acc.length+i≤100→iter (z4b s) (acc,(i:Int) - 1)=some (acc++(s.take i).reverse)
 | 0,acc,_,_=>by
  refine z1j ?_
  unfold z4b
  rw [if_neg (by simp)]; simp
 | i+1,acc,hi,ha=>by
  have hlt:i<s.length:=by omega
  have e:((i+1:Nat):Int) - 1=(i:Int):=by omega
  have hF:z4b s (acc,((i+1:Nat):Int) - 1)=some (.inr (acc++[s[i]],(i:Int) - 1)):=by
   unfold z4b
   rw [e,if_pos (by simp)]
   simp only [z0j hlt,bs]
   rw [z2a (by simp; omega)]
   simp only [bs,z0z (show -9223372036854775808≤(i:Int) - 1 by omega) (by omega)]
  rw [z1q hF,zml s hl i _ (by omega) (by simp; omega)]
  have:List.take (i+1) s=List.take i s++[s[i]]:=by rw [List.take_add_one,List.getElem?_eq_getElem hlt]; rfl
  rw [this]; simp only [List.reverse_append,List.reverse_cons,List.reverse_nil,List.nil_append,List.append_assoc]
theorem z6p (a:UInt64):z21 a=some (z1k a.toNat):=by
 unfold z21 z1k
 have h0:=UInt64.toNat_lt a
 by_cases h:a.toNat≤247
 ·
  have h':decide (a≤247)=true:=by simpa [UInt64.le_iff_toNat_le] using h
  rw [if_pos h',if_pos h]
  congr 2
 ·
  have h':¬ decide (a≤247)=true:=by simpa [UInt64.le_iff_toNat_le] using h
  rw [if_neg h',if_neg h]
  have hd:=ziu a.toNat h0
  rw [ztr a.toNat a [] a.toNat rfl rfl hd]
  simp only [bs]
  rw [z0z (show -9223372036854775808≤((z2r a.toNat).length:Int) - 1 by omega) (by omega),z0z (show -9223372036854775808≤247+((z2r a.toNat).length:Int) by omega) (by omega)]
  rw [zml _ hd _ _ (Nat.le_refl _) (by simp; omega)]
  simp only [bs,List.take_length]
  rw [show (247+((z2r a.toNat).length:Int))=((247+(z2r a.toNat).length:Nat):Int) by omega]
  congr 1
  show _::_=_
  congr 1
  apply UInt8.toNat_inj.1
  simp [UInt8.ofInt]
  omega
theorem zrf (a:UInt64) (k:Nat) (hk:k=(z2r a.toNat).length) (hk8:k≤8):iter (za2 a (k:Int)) (zaf a.toNat 0,0)=some (zaf a.toNat k):=by
 refine z2u k (fun i=>(zaf a.toNat i,(i:Int))) (fun i hi=>?_) ?_
 ·
  have hf:=zov a.toNat i (by omega)
  unfold za2
  rw [if_pos (by simp; omega)]
  simp only [z0z (show -9223372036854775808≤8 * (i:Int) by omega) (by omega),z2t (show (0:Int)≤8 * (i:Int) by omega),bs,z0z (show -9223372036854775808≤(k:Int) - (i:Int) by omega) (by omega),z0p (show i<9223372036854775807 by omega)]
  rw [zzd (by omega) (by omega)]
  simp only [bs]
  have:=zo4 a.toNat i (by omega)
  rw [← this]
  have e1:((k:Int) - (i:Int)).toNat=(z2r a.toNat).length - i:=by omega
  have e2:(z6k a (8 * (i:Int)).toNat).toUInt8=UInt8.ofNat (a.toNat / 2 ^ (8 * i)):=by
   apply UInt8.toNat_inj.1
   have e3:(8 * (i:Int)).toNat=8 * i:=by omega
   rw [e3]
   simp only [UInt64.toNat_toUInt8,zb8,Nat.min_eq_left (show 8 * i≤64 by omega)]
   simp
  rw [e1,e2]
 ·
  unfold za2
  rw [if_neg (by simp)]
theorem zee (a:UInt64) (k:Nat) (hk:k<64):(z6k a k).toNat=a.toNat / 2 ^ k:=by rw [zb8,Nat.min_eq_left (by omega)]
set_option maxRecDepth 100000 in
theorem zxf (a:UInt64):z9a a=some (z5z a.toNat:Int):=by
 unfold z9a
 have h0:=UInt64.toNat_lt a
 have s1:∃ (y:UInt64) (n:Nat),(if decide (4294967296≤a) then some (z6k a 32,(32:Int)) else some (a,0))=some (y,(n:Int))∧y.toNat<2 ^ 32∧n≤32∧z5z a.toNat=n+z5z y.toNat:=by
  by_cases h:4294967296≤a.toNat
  ·
   refine ⟨z6k a 32,32, by rw [if_pos (by simpa [UInt64.le_iff_toNat_le] using h)]; rfl,?_, by omega,?_⟩
   ·
    rw [zee a 32 (by omega)]; omega
   ·
    rw [zee a 32 (by omega)]; exact zbq _ 32 (by omega)
  ·
   exact ⟨a,0, by rw [if_neg (by simpa [UInt64.le_iff_toNat_le] using h)]; rfl, by omega, by omega, by omega⟩
 obtain ⟨y,n,e1,hy,hn,hb⟩:=s1
 rw [e1]; simp only [bs]
 have s2:∃ (z:UInt64) (k:Nat),(if decide (65536≤y) then some (z6k y 16) >>= fun y5=>some (w64 ((n:Int)+16)) >>= fun y6=>some (y5,y6) else some (y,(n:Int)))=some (z,(k:Int))∧z.toNat<2 ^ 16∧k≤48∧z5z a.toNat=k+z5z z.toNat:=by
  by_cases h:65536≤y.toNat
  ·
   refine ⟨z6k y 16,n+16, by rw [if_pos (by simpa [UInt64.le_iff_toNat_le] using h)]; simp only [bs,z0z (show -9223372036854775808≤(n:Int)+16 by omega) (by omega)]; rfl,?_, by omega,?_⟩
   ·
    rw [zee y 16 (by omega)]; omega
   ·
    rw [zee y 16 (by omega),hb,zbq y.toNat 16 (by omega)]; omega
  ·
   exact ⟨y,n, by rw [if_neg (by simpa [UInt64.le_iff_toNat_le] using h)], by omega, by omega,hb⟩
 obtain ⟨z,k,e2,hz,hk,hb2⟩:=s2
 simp only [bs] at e2
 rw [e2]; simp only [bs]
 have s3:∃ (x:UInt64) (j:Nat),(if decide (256≤z) then some (w64 ((k:Int)+8)) >>= fun y9=>some (z6k z 8,y9) else some (z,(k:Int)))=some (x,(j:Int))∧x.toNat<256∧j≤56∧z5z a.toNat=j+z5z x.toNat:=by
  by_cases h:256≤z.toNat
  ·
   refine ⟨z6k z 8,k+8, by rw [if_pos (by simpa [UInt64.le_iff_toNat_le] using h)]; simp only [bs,z0z (show -9223372036854775808≤(k:Int)+8 by omega) (by omega)]; rfl,?_, by omega,?_⟩
   ·
    rw [zee z 8 (by omega)]; omega
   ·
    rw [zee z 8 (by omega),hb2,zbq z.toNat 8 (by omega)]; omega
  ·
   exact ⟨z,k, by rw [if_neg (by simpa [UInt64.le_iff_toNat_le] using h)], by omega, by omega,hb2⟩
 obtain ⟨x,j,e3,hx,hj,hb3⟩:=s3
 simp only [bs] at e3
 rw [e3]; simp only [bs]
 have ht:=zx1 ⟨x.toNat,hx⟩
 have hx8:(x.toUInt8.toNat:Int)=((x.toNat:Nat):Int):=by simp; omega
 have hle:z5z x.toNat≤8:=zg6 _ 8 (by omega)
 rw [hx8]
 have hlist:∀ (l:List UInt8),l=zta.data.toList→idx l ((x.toNat:Nat):Int)=some (UInt8.ofNat (z5z x.toNat)):=fun l hl=>by
  subst hl
  unfold idx
  rw [if_pos (by omega)]
  simpa using ht
 refine Eq.trans (congrArg (fun o:Option UInt8=>o >>= fun x10=>some (w64 ((j:Int)+(x10.toNat:Int)))) (hlist _ ?hh)) ?_
 case hh=>rfl
 simp only [bs]
 have e4:((UInt8.ofNat (z5z x.toNat)).toNat:Int)=(z5z x.toNat:Int):=by simp; omega
 rw [e4,z0z (by omega) (by omega),hb3]
 simp
theorem z6u (a:UInt64):z5x a=some (z1k a.toNat):=by
 unfold z5x
 have h0:=UInt64.toNat_lt a
 by_cases h:a.toNat≤247
 ·
  have h':decide (a≤247)=true:=by simpa [UInt64.le_iff_toNat_le] using h
  unfold z1k
  rw [if_pos h',if_pos h]
  congr 2
 ·
  have h':¬ decide (a≤247)=true:=by simpa [UInt64.le_iff_toNat_le] using h
  rw [if_neg h',zxf]
  have hd:=ziu a.toNat h0
  have hl:=zki a.toNat
  have hb:z5z a.toNat≤64:=zg6 _ 64 h0
  simp only [bs]
  rw [z0z (show -9223372036854775808≤(z5z a.toNat:Int)+7 by omega) (by omega)]
  have e1:Int.tdiv ((z5z a.toNat:Int)+7) 8=((z2r a.toNat).length:Int):=by
   rw [hl, show ((z5z a.toNat:Int)+7)=((z5z a.toNat+7:Nat):Int) by omega]
   rfl
  rw [e1,z0z (show -9223372036854775808≤((z2r a.toNat).length:Int) by omega) (by omega),z0p (by omega),zf5 (by omega) (by omega)]
  simp only [bs]
  rw [show (0:Int)=((0:Nat):Int) from rfl,z0j (by simp)]
  simp only [bs,Int.toNat_natCast]
  rw [z0z (show -9223372036854775808≤247+((z2r a.toNat).length:Int) by omega) (by omega)]
  have e2:UInt8.ofInt (247+((z2r a.toNat).length:Int))=UInt8.ofNat (247+(z2r a.toNat).length):=by
   apply UInt8.toNat_inj.1
   rw [show (247+((z2r a.toNat).length:Int))=((247+(z2r a.toNat).length:Nat):Int) by omega]
   simp [UInt8.ofInt]
   omega
  have:=zo1 a.toNat
  rw [e2,this]
  have:=zrf a (z2r a.toNat).length rfl hd
  rw [show (0:Int)=((0:Nat):Int) from rfl] at this
  rw [this]
  simp only [bs]
  rw [zmk a.toNat (by omega)]
end
section
open Go
theorem okV3 {v:z04} (h:okV v=true) (k:v.Kind=3):v.Num=0∧v.Bits=0∧v.Text.length≤30∧v.Text.all okb=true:=by
 unfold okV at h; rw [if_neg (by rw [k]; decide),if_neg (by rw [k]; decide),if_pos k] at h
 simp only [Bool.and_eq_true,decide_eq_true_eq] at h
 exact ⟨h.1.1.1,h.1.1.2,h.1.2,h.2⟩
theorem zli {v:z04} (h:okV v=true):v.Kind=1∨v.Kind=2∨v.Kind=3:=by
 by_cases h1:v.Kind=1
 ·
  exact .inl h1
 by_cases h2:v.Kind=2
 ·
  exact .inr (.inl h2)
 by_cases h3:v.Kind=3
 ·
  exact .inr (.inr h3)
 ·
  unfold okV at h; simp [h1,h2,h3] at h
theorem zw5 (x:UInt64):(x ^^^ 18446744073709551615).toNat=18446744073709551615 - x.toNat:=by
 have e:x ^^^ 18446744073709551615 = ~~~x:=by
  apply UInt64.eq_of_toBitVec_eq
  rw [UInt64.toBitVec_xor,UInt64.toBitVec_not]
  exact BitVec.xor_allOnes
 rw [e,UInt64.toNat_not]; rfl
theorem zb3 (n:Int):(UInt64.ofInt n).toNat=(n % 18446744073709551616).toNat:=by
 simp [UInt64.ofInt]; omega
theorem z13a (n:Int) (h:inI n):((zlr (UInt64.ofInt n) 1) ^^^ (UInt64.ofInt (shrI n 63))).toNat=zig n:=by
 obtain ⟨h1,h2⟩:=h
 have es:(zlr (UInt64.ofInt n) 1).toNat=(n % 18446744073709551616).toNat * 2 % 18446744073709551616:=by
  rw [ziy,zb3]; rfl
 by_cases h0:0≤n
 ·
  have e:shrI n 63=0:=by
   unfold shrI
   rw [show (2:Int) ^ (min 63 64)=9223372036854775808 from rfl,Int.fdiv_eq_ediv_of_nonneg _ (by omega)]; omega
  rw [e, show UInt64.ofInt 0=0 from rfl,UInt64.xor_zero,es]
  unfold zig; rw [if_pos h0]; omega
 ·
  have e:shrI n 63 = -1:=by
   unfold shrI
   rw [show (2:Int) ^ (min 63 64)=9223372036854775808 from rfl,Int.fdiv_eq_ediv_of_nonneg _ (by omega)]; omega
  rw [e, show UInt64.ofInt (-1)=18446744073709551615 from rfl,zw5,es]
  unfold zig; rw [if_neg h0]; omega
theorem zuq (n:Int) (h:inI n):zcn n=some (z1k (zig n)):=by
 unfold zcn
 rw [z6u,z13a n h]; rfl
theorem zmp (s:List UInt8) (h:s.length≤10000):zao s=some (z1k s.length++s,0):=by
 unfold zao
 rw [if_neg (by simp; omega),z6u]
 have e:(UInt64.ofInt (s.length:Int)).toNat=s.length:=by rw [zb3]; omega
 have:=z17 s.length (by omega)
 simp only [bs,e]
 rw [z2a (by omega)]; rfl
def be8 (b:UInt64):List UInt8:=[(z6k b 56).toUInt8,(z6k b 48).toUInt8,(z6k b 40).toUInt8,(z6k b 32).toUInt8,(z6k b 24).toUInt8,(z6k b 16).toUInt8,(z6k b 8).toUInt8,(z6k b 0).toUInt8]
theorem zu3 (v:z04) (l:List UInt8) (k:Nat) (hl:l.length≤100) (hk:k≤56):z7e v (l,(k:Int))=some (.inr (l++[(z6k v.Bits k).toUInt8],(k:Int) - 8)):=by
 unfold z7e
 rw [if_pos (by simp)]
 simp only
 rw [z2t (by omega)]
 simp only [bs,Int.toNat_natCast]
 rw [z2a (by simp; omega)]
 simp only [bs]
 rw [z0z (by omega) (by omega)]
theorem zwy (v:z04):iter (z7e v) ([v.Kind],56)=some (v.Kind::be8 v.Bits):=by
 have hs:=fun l k h1 h2=>zu3 v l k h1 h2
 rw [show (56:Int)=((56:Nat):Int) from rfl,z1q (hs [v.Kind] 56 (by simp) (by omega))]
 simp only [List.cons_append,List.nil_append, show ((56:Nat):Int) - 8=((48:Nat):Int) from rfl]
 rw [z1q (hs _ 48 (by simp) (by omega))]
 simp only [List.cons_append,List.nil_append, show ((48:Nat):Int) - 8=((40:Nat):Int) from rfl]
 rw [z1q (hs _ 40 (by simp) (by omega))]
 simp only [List.cons_append,List.nil_append, show ((40:Nat):Int) - 8=((32:Nat):Int) from rfl]
 rw [z1q (hs _ 32 (by simp) (by omega))]
 simp only [List.cons_append,List.nil_append, show ((32:Nat):Int) - 8=((24:Nat):Int) from rfl]
 rw [z1q (hs _ 24 (by simp) (by omega))]
 simp only [List.cons_append,List.nil_append, show ((24:Nat):Int) - 8=((16:Nat):Int) from rfl]
 rw [z1q (hs _ 16 (by simp) (by omega))]
 simp only [List.cons_append,List.nil_append, show ((16:Nat):Int) - 8=((8:Nat):Int) from rfl]
 rw [z1q (hs _ 8 (by simp) (by omega))]
 simp only [List.cons_append,List.nil_append, show ((8:Nat):Int) - 8=((0:Nat):Int) from rfl]
 rw [z1q (hs _ 0 (by simp) (by omega))]
 simp only [List.cons_append,List.nil_append]
 refine z1j ?_
 unfold z7e
 rw [if_neg (by simp)]; rfl
def zyx (v:z04):List UInt8:=v.Kind::(if v.Kind=1 then z1k (zig v.Num) else if v.Kind=2 then be8 v.Bits else z1k v.Text.length++v.Text)
theorem zur {n:Int} (h:inI n):zig n<18446744073709551616:=z11x h.1 h.2
theorem z123 (v:z04) (hI:inI v.Num) (hl:v.Text.length≤9223372036854775807):zbe v=some (if okV v then (zyx v,0) else ([],8)):=by
 unfold zbe
 rw [znq v hl]
 cases hv:okV v
 ·
  rfl
 simp only [bs,if_true]
 rw [if_neg (by simp)]
 unfold zyx
 rcases zli hv with k | k | k
 ·
  have h1:=z17 (zig v.Num) (zur hI)
  rw [k,zuq v.Num hI]
  simp only [bs]
  rw [if_pos (by decide),z2a (by simp; omega)]; simp [bs]
 ·
  rw [k,if_neg (by decide),if_pos (by decide),if_neg (by decide),if_pos rfl,← k,zwy]; rfl
 ·
  have h3:=(okV3 hv k).2.2.1
  have h1:=z17 v.Text.length (by omega)
  rw [k,zmp v.Text (by omega)]
  rw [if_neg (by decide),if_neg (by decide),if_pos (by decide),if_neg (by decide),if_neg (by decide),z2t (by omega)]
  simp only [bs]
  rw [z2a (by simp; omega)]; rfl
theorem zn2 (n:Int) (h:inI n):z7r n=some (z1k (zig n)):=by
 obtain ⟨h1,h2⟩:=h
 unfold z7r
 by_cases h0:0≤n
 ·
  rw [if_pos (by simpa using h0),z6p]
  have e:(2 * UInt64.ofInt n).toNat=zig n:=by
   rw [UInt64.toNat_mul,zb3, show (2:UInt64).toNat=2 from rfl]
   unfold zig; rw [if_pos h0]; omega
  rw [e]; rfl
 ·
  rw [if_neg (by simpa using h0),z6p]
  have e:((2 * UInt64.ofInt (w64 (0 - (w64 (n+1)))))+1).toNat=zig n:=by
   rw [z0z (x:=n+1) (by omega) (by omega),z0z (by omega) (by omega),UInt64.toNat_add,UInt64.toNat_mul,zb3, show (2:UInt64).toNat=2 from rfl, show (1:UInt64).toNat=1 from rfl]
   unfold zig; rw [if_neg h0]; omega
  rw [e]; rfl
theorem zko (s:List UInt8) (h:s.length≤100000):z6f s=some (z1k s.length++s):=by
 unfold z6f
 rw [z6p]
 have e:(UInt64.ofInt (s.length:Int)).toNat=s.length:=by rw [zb3]; omega
 have:=z17 s.length (by omega)
 rw [e]
 simp only [bs]
 rw [z2a (by omega)]; rfl
theorem ztn (v:z04) (l:List UInt8) (k:Nat) (hl:l.length≤100) (hk:k≤7):z4o v (l,(k:Int))=some (.inr (l++[(z6k v.Bits (8 * k)).toUInt8],(k:Int) - 1)):=by
 unfold z4o
 rw [if_pos (by simp)]
 simp only
 have e:w64 (8 * (k:Int))=((8 * k:Nat):Int):=by rw [z0z (by omega) (by omega)]; omega
 rw [e,z2t (by omega)]
 simp only [bs,Int.toNat_natCast]
 rw [z2a (by simp; omega)]
 simp only [bs]
 rw [z0z (by omega) (by omega)]
theorem zwh (v:z04):iter (z4o v) ([v.Kind],7)=some (v.Kind::be8 v.Bits):=by
 have hs:=fun l k h1 h2=>ztn v l k h1 h2
 rw [show (7:Int)=((7:Nat):Int) from rfl,z1q (hs [v.Kind] 7 (by simp) (by omega))]
 simp only [List.cons_append,List.nil_append, show ((7:Nat):Int) - 1=((6:Nat):Int) from rfl]
 rw [z1q (hs _ 6 (by simp) (by omega))]
 simp only [List.cons_append,List.nil_append, show ((6:Nat):Int) - 1=((5:Nat):Int) from rfl]
 rw [z1q (hs _ 5 (by simp) (by omega))]
 simp only [List.cons_append,List.nil_append, show ((5:Nat):Int) - 1=((4:Nat):Int) from rfl]
 rw [z1q (hs _ 4 (by simp) (by omega))]
 simp only [List.cons_append,List.nil_append, show ((4:Nat):Int) - 1=((3:Nat):Int) from rfl]
 rw [z1q (hs _ 3 (by simp) (by omega))]
 simp only [List.cons_append,List.nil_append, show ((3:Nat):Int) - 1=((2:Nat):Int) from rfl]
 rw [z1q (hs _ 2 (by simp) (by omega))]
 simp only [List.cons_append,List.nil_append, show ((2:Nat):Int) - 1=((1:Nat):Int) from rfl]
 rw [z1q (hs _ 1 (by simp) (by omega))]
 simp only [List.cons_append,List.nil_append, show ((1:Nat):Int) - 1=((0:Nat):Int) from rfl]
 rw [z1q (hs _ 0 (by simp) (by omega))]
 simp only [List.cons_append,List.nil_append]
 refine z1j ?_
 unfold z4o
 rw [if_neg (by simp)]; rfl
theorem zux (v:z04) (hI:inI v.Num) (hv:okV v=true):z8u v=some (zyx v):=by
 unfold zyx z8u
 rcases zli hv with k | k | k
 ·
  have h1:=z17 (zig v.Num) (zur hI)
  rw [k,zn2 v.Num hI]
  simp only [bs]
  rw [if_pos (by decide),z2a (by simp; omega)]; simp [bs]
 ·
  rw [k,if_neg (by decide),if_pos (by decide),if_neg (by decide),if_pos rfl,← k,zwh]; rfl
 ·
  have h3:=(okV3 hv k).2.2.1
  have h1:=z17 v.Text.length (by omega)
  rw [k,zko v.Text (by omega)]
  rw [if_neg (by decide),if_neg (by decide),if_neg (by decide),if_neg (by decide),z2t (by omega)]
  simp only [bs]
  rw [z2a (by simp; omega)]; rfl
end
section
open Go
theorem zwc (a b:V3):∀ (n i:Nat),32 - i=n→i≤32→∃ r:Sum Int Unit,iter (z6d a b) (i:Int)=some r∧(z6l (some r) (fun _=>some 0)=some (Lib.compareBytes (a.toList.drop i) (b.toList.drop i))):=by
 intro n
 induction n with
 | zero =>
  intro i hn hi
  have:i=32:=by omega
  subst this
  refine ⟨.inr (),z1j ?_,?_⟩
  ·
   unfold z6d; rw [if_neg (by simp)]
  ·
   rw [List.drop_eq_nil_of_le (by simp),List.drop_eq_nil_of_le (by simp)]; rfl
 | succ n ih =>
  intro i hn hi
  have hlt:i<32:=by omega
  have da:a.toList.drop i=a[i]::a.toList.drop (i+1):=by rw [List.drop_eq_getElem_cons (by simpa using hlt)]; simp
  have db:b.toList.drop i=b[i]::b.toList.drop (i+1):=by rw [List.drop_eq_getElem_cons (by simpa using hlt)]; simp
  have hF:z6d a b (i:Int)=if decide (a[i]<b[i]) then some (.inl (.inl (-1))) else if decide (b[i]<a[i]) then some (.inl (.inl 1)) else some (.inr ((i+1:Nat):Int)):=by
   unfold z6d
   rw [if_pos (by simp; omega)]
   simp only [z79 hlt,bs,z0p (show i<9223372036854775807 by omega)]
  rw [da,db,Lib.compareBytes]
  by_cases h1:a[i]<b[i]
  ·
   rw [decide_eq_true h1] at hF
   exact ⟨_,z1j hF, by rw [if_pos h1]; rfl⟩
  ·
   rw [decide_eq_false h1] at hF
   by_cases h2:b[i]<a[i]
   ·
    rw [decide_eq_true h2] at hF
    exact ⟨_,z1j hF, by rw [if_neg h1,if_pos h2]; rfl⟩
   ·
    rw [decide_eq_false h2] at hF
    obtain ⟨r,k1,k2⟩:=ih (i+1) (by omega) (by omega)
    exact ⟨r, by rw [z1q hF]; exact k1, by rw [if_neg h1,if_neg h2]; exact k2⟩
theorem zmb (a b:V3):z5r a b=some (Lib.compareBytes a.toList b.toList):=by
 obtain ⟨r,h1,h2⟩:=zwc a b 32 0 rfl (by omega)
 unfold z5r
 rw [show (0:Int)=((0:Nat):Int) from rfl,h1]
 simpa using h2
theorem zoz (a b:V3):z7s a b=some (Lib.compareBytes a.toList b.toList):=by
 unfold z7s zd7; rfl
def z74:List V3→Bool
 | a::b::l=>!decide (0≤Lib.compareBytes a.toList b.toList)&&z74 (b::l)
 | _=>true
theorem zj0 (l:List V3) (hl:l.length≤9223372036854775807):∀ (n i:Nat),l.length - i=n→1≤i→i≤l.length→iter (z3m l) (i:Int)=some (if z74 (l.drop (i - 1)) then .inr () else .inl false):=by
 intro n
 induction n with
 | zero =>
  intro i hn h1 hi
  have:i=l.length:=by omega
  refine z1j ?_
  have e:l.drop (i - 1)=[l[i - 1]'(by omega)]:=by
   rw [List.drop_eq_getElem_cons (by omega),List.drop_eq_nil_of_le (by omega)]
  rw [e]
  unfold z3m
  rw [if_neg (by simp; omega)]
  simp [z74]
 | succ n ih =>
  intro i hn h1 hi
  have hlt:i<l.length:=by omega
  have e:l.drop (i - 1)=l[i - 1]::l[i]::l.drop (i+1):=by
   rw [List.drop_eq_getElem_cons (by omega), show i - 1+1=i by omega,List.drop_eq_getElem_cons hlt]
  have e':l.drop (i+1 - 1)=l[i]::l.drop (i+1):=by rw [Nat.add_sub_cancel,List.drop_eq_getElem_cons hlt]
  have hF:z3m l (i:Int)=if decide (0≤Lib.compareBytes (l[i - 1]).toList (l[i]).toList) then some (.inl (.inl false)) else some (.inr ((i+1:Nat):Int)):=by
   unfold z3m
   rw [if_pos (by simp; omega),z0z (by omega) (by omega), show ((i:Int) - 1)=((i - 1:Nat):Int) by omega]
   simp only [z0j hlt,z0j (show i - 1<l.length by omega),bs,zmb,z0p (show i<9223372036854775807 by omega)]
  rw [e,z74]
  cases hc:decide (0≤Lib.compareBytes (l[i - 1]).toList (l[i]).toList) with
  | true=>rw [hc] at hF; rw [z1j hF]; rfl
  | false =>
   rw [hc] at hF
   rw [z1q hF,ih (i+1) (by omega) (by omega) (by omega),e']; simp
theorem zna (l:List V3) (hl:l.length≤9223372036854775807):z65 l=some (z74 l):=by
 unfold z65
 cases l with
 | nil =>
  rw [z1j (b:=.inr ()) (by unfold z3m; rw [if_neg (by simp)])]; rfl
 | cons x l =>
  have:=zj0 (x::l) hl _ 1 rfl (by omega) (by simp)
  rw [show (1:Int)=((1:Nat):Int) from rfl,this]
  simp only [Nat.sub_self,List.drop_zero]
  cases z74 (x::l) <;> rfl
theorem znl (l:List V3) (hl:l.length≤9223372036854775806):∀ (n i:Nat),l.length - i=n→i≤l.length→∃ r,iter (z0h l l) ((i:Int),(i:Int))=some r∧(z74 (l.drop i)=true→∃ c,r=.inr c)∧(z74 (l.drop i)=false→∃ (k:Nat) (c:Int),r=.inl ((k:Int),c)):=by
 intro n
 induction n with
 | zero =>
  intro i hn hi
  have:i=l.length:=by omega
  refine ⟨.inr (i:Int),z1j ?_, fun _=>⟨_,rfl⟩, fun h=>?_⟩
  ·
   unfold z0h
   rw [if_neg (by simp; omega)]
  ·
   rw [List.drop_eq_nil_of_le (by omega)] at h; simp [z74] at h
 | succ n ih =>
  intro i hn hi
  have hlt:i<l.length:=by omega
  by_cases h2:i+1<l.length
  ·
   have e:l.drop i=l[i]::l[i+1]::l.drop (i+2):=by rw [List.drop_eq_getElem_cons hlt,List.drop_eq_getElem_cons h2]
   have e':l.drop (i+1)=l[i+1]::l.drop (i+2):=by rw [List.drop_eq_getElem_cons h2]
   have hF:z0h l l ((i:Int),(i:Int))=if decide (0≤Lib.compareBytes (l[i]).toList (l[i+1]).toList) then some (.inl (.inl ((i:Int),((i+1:Nat):Int)))) else some (.inr (((i+1:Nat):Int),((i+1:Nat):Int))):=by
    unfold z0h zam
    rw [if_pos (by simp; omega)]
    simp only [z0j hlt,bs,z0p (show i<9223372036854775807 by omega)]
    rw [if_pos (by simp; omega),z0z (by omega) (by omega), show ((i+1:Nat):Int) - 1=(i:Int) by omega]
    simp only [z0j hlt,z0j h2,bs,zoz]
   rw [e,z74]
   cases hc:decide (0≤Lib.compareBytes (l[i]).toList (l[i+1]).toList) with
   | true =>
    rw [hc] at hF
    exact ⟨_,z1j hF, fun h=>by simp at h, fun _=>⟨i,_,rfl⟩⟩
   | false =>
    rw [hc] at hF
    obtain ⟨r,k1,k2,k3⟩:=ih (i+1) (by omega) (by omega)
    rw [e'] at k2 k3
    exact ⟨r, by rw [z1q hF]; exact k1, fun h=>k2 (by simpa using h), fun h=>k3 (by simpa using h)⟩
  ·
   have e:l.drop i=[l[i]]:=by rw [List.drop_eq_getElem_cons hlt,List.drop_eq_nil_of_le (by omega)]
   have hF:z0h l l ((i:Int),(i:Int))=some (.inr (((i+1:Nat):Int),((i+1:Nat):Int))):=by
    unfold z0h zam
    rw [if_pos (by simp; omega)]
    simp only [z0j hlt,bs,z0p (show i<9223372036854775807 by omega)]
    rw [if_neg (by simp; omega)]
    simp only [bs]; rfl
   obtain ⟨r,k1,k2,k3⟩:=ih (i+1) (by omega) (by omega)
   rw [List.drop_eq_nil_of_le (by omega)] at k2 k3
   exact ⟨r, by rw [z1q hF]; exact k1, fun _=>k2 rfl, fun h=>by rw [e] at h; simp [z74] at h⟩
theorem zr9 (l:List V3) (hl:l.length≤9223372036854775806):zd8 l=some (z74 l):=by
 obtain ⟨r,k1,k2,k3⟩:=znl l hl _ 0 rfl (by omega)
 unfold zd8 z1s z29
 rw [show ((0:Int),(0:Int))=(((0:Nat):Int),((0:Nat):Int)) from rfl,k1]
 simp only [List.drop_zero] at k2 k3
 cases h:z74 l with
 | true=>obtain ⟨c,rfl⟩:=k2 h; rfl
 | false =>
  obtain ⟨k,c,rfl⟩:=k3 h
  simp only [zze,bs]
  rw [decide_eq_true (by omega)]; rfl
def zk7 (l:List V3):List UInt8:=l.flatMap Vector.toList
theorem zgm (l:List V3):(zk7 l).length=32 * l.length:=by
 induction l with
 | nil=>rfl
 | cons x l ih=>unfold zk7 at ih ⊢; rw [List.flatMap_cons,List.length_append,ih]; simp; omega
theorem znz (l:List V3) (i:Nat) (hi:i<l.length):zk7 (l.take (i+1))=zk7 (l.take i)++(l[i]).toList:=by
 rw [List.take_add_one,List.getElem?_eq_getElem hi]; unfold zk7; rw [List.flatMap_append,Option.toList_some,List.flatMap_cons,List.flatMap_nil,List.append_nil]
theorem z10b (l:List V3) (h:l.length≤1000) (s:List UInt8) (hs:s.length≤9):iter (z5i l) (s,0)=some (s++zk7 l):=by
 have:=z2u (F:=z5i l) (b:=s++zk7 l) l.length (fun i=>(s++zk7 (l.take i),(i:Int))) (fun i hi=>?_) ?_
 ·
  simpa [zk7] using this
 ·
  unfold z5i
  have hf:=zgm (l.take i)
  rw [if_pos (by simp; omega)]
  simp only [z0j hi,bs]
  rw [z2a (by simp at hf ⊢; omega)]
  simp only [bs,z0p (show i<9223372036854775807 by omega),znz l i hi,List.append_assoc]
 ·
  unfold z5i
  rw [if_neg (by simp)]
  simp
theorem z10s (l:List V3) (h:l.length≤1000) (s:List UInt8) (hs:s.length≤9):iter (zaw l) (s,0)=some (s++zk7 l):=by
 have:=z2u (F:=zaw l) (b:=s++zk7 l) l.length (fun i=>(s++zk7 (l.take i),(i:Int))) (fun i hi=>?_) ?_
 ·
  simpa [zk7] using this
 ·
  unfold zaw
  have hf:=zgm (l.take i)
  rw [if_pos (by simp; omega)]
  simp only [z0j hi,bs]
  rw [z2a (by simp at hf ⊢; omega)]
  simp only [bs,z0p (show i<9223372036854775807 by omega),znz l i hi,List.append_assoc]
 ·
  unfold zaw
  rw [if_neg (by simp)]
  simp
theorem zj5 {n:Nat} (h:n<18446744073709551616):(UInt64.ofInt (n:Int)).toNat=n:=by
 simp [UInt64.ofInt]; omega
theorem zwj (l:List V3) (h:l.length≤1000):z9h l=some (z1k l.length++zk7 l):=by
 unfold z9h
 have hn:=z17 l.length (by omega)
 rw [z6p,zj5 (by omega)]
 simp only [bs]
 rw [z10b l h _ (by omega)]; rfl
theorem z10a (l:List V3) (h:l.length≤60) (hi:z74 l=true):zih l=some (z1k l.length++zk7 l,0):=by
 unfold zih
 have hn:=z17 l.length (by omega)
 rw [if_neg (by simp; omega),zr9 l (by omega),hi,z6u,zj5 (by omega)]
 simp only [bs,Bool.not_true,Bool.false_eq_true,if_false]
 rw [z10s l (by omega) _ (by omega)]; rfl
end
section
open Go
def nk:List UInt8→Nat
 | []=>0
 | a::l=>a.toNat * 256 ^ l.length+nk l
theorem z102:∀ l:List UInt8,nk l<256 ^ l.length
 | []=>by simp [nk]
 | a::l=>by
  have ih:=z102 l
  have ha:=UInt8.toNat_lt a
  simp only [nk,List.length_cons,Nat.pow_succ]
  have h1:(a.toNat+1) * 256 ^ l.length≤256 * 256 ^ l.length:=Nat.mul_le_mul_right _ (by omega)
  rw [Nat.add_mul,Nat.one_mul] at h1
  omega
theorem ztu:∀ a b:List UInt8,a.length=b.length→Lib.compareBytes a b=(if nk a<nk b then -1 else if nk b<nk a then 1 else 0)∧(nk a=nk b→a=b)
 | [],[],_=>by simp [Lib.compareBytes,nk]
 | [],_::_,h=>by simp at h
 | _::_,[],h=>by simp at h
 | a::x,b::y,h=>by
  have hl:x.length=y.length:=by simpa using h
  obtain ⟨i1,i2⟩:=ztu x y hl
  have lx:=z102 x
  have ly:=z102 y
  simp only [Lib.compareBytes,nk,hl] at *
  have e:∀ u v:UInt8,u.toNat<v.toNat→u.toNat * 256 ^ y.length+256 ^ y.length≤v.toNat * 256 ^ y.length:=fun u v huv=>by
   have:=Nat.mul_le_mul_right (256 ^ y.length) (show u.toNat+1≤v.toNat from huv)
   rwa [Nat.add_mul,Nat.one_mul] at this
  by_cases h1:a<b
  ·
   have h1':a.toNat<b.toNat:=UInt8.lt_iff_toNat_lt.1 h1
   have:=e a b h1'
   rw [if_pos h1,if_pos (by omega)]
   exact ⟨rfl, fun h=>by omega⟩
  ·
   by_cases h2:b<a
   ·
    have h2':b.toNat<a.toNat:=UInt8.lt_iff_toNat_lt.1 h2
    have:=e b a h2'
    rw [if_neg h1,if_pos h2,if_neg (by omega),if_pos (by omega)]
    exact ⟨rfl, fun h=>by omega⟩
   ·
    have h3:a=b:=UInt8.toNat_inj.1 (by rw [UInt8.lt_iff_toNat_lt] at h1 h2; omega)
    subst h3
    rw [if_neg h1,if_neg h1,i1]
    refine ⟨?_, fun h=>by rw [i2 (by omega)]⟩
    by_cases c1:nk x<nk y
    ·
     rw [if_pos c1,if_pos (by omega)]
    ·
     by_cases c2:nk y<nk x
     ·
      rw [if_neg c1,if_pos c2,if_neg (by omega),if_pos (by omega)]
     ·
      rw [if_neg c1,if_neg c2,if_neg (by omega),if_neg (by omega)]
def kd (d:V3):Nat:=nk d.toList
theorem zre (a b:V3):Lib.compareBytes a.toList b.toList=if kd a<kd b then -1 else if kd b<kd a then 1 else 0:=(ztu a.toList b.toList (by simp)).1
theorem zkt {a b:V3} (h:kd a=kd b):a=b:=by
 have:=(ztu a.toList b.toList (by simp)).2 h
 exact Vector.toList_inj.1 this
theorem zps (a b:V3):z7s a b=some (if kd a<kd b then -1 else if kd b<kd a then 1 else 0):=by rw [zoz,zre]
theorem zog (a b:V3):z5r a b=some (if kd a<kd b then -1 else if kd b<kd a then 1 else 0):=by rw [zmb,zre]
theorem zsu (a b:V3):decide ((if kd a<kd b then (-1:Int) else if kd b<kd a then 1 else 0)<0)=decide (kd a<kd b):=by
 by_cases h:kd a<kd b
 ·
  simp [h]
 ·
  by_cases h2:kd b<kd a <;> simp [h,h2]
theorem zxu (a b:V3):decide (0≤(if kd a<kd b then (-1:Int) else if kd b<kd a then 1 else 0))=decide (kd b≤kd a):=by
 by_cases h:kd a<kd b
 ·
  have:¬ kd b≤kd a:=by omega
  simp [h,this]
 ·
  have h3:kd b≤kd a:=by omega
  by_cases h2:kd b<kd a <;> simp [h,h2,h3]
theorem z114 (a b:V3):((if kd a<kd b then (-1:Int) else if kd b<kd a then 1 else 0)==0)=decide (a=b):=by
 by_cases h:kd a<kd b
 ·
  have:a≠b:=fun e=>by rw [e] at h; omega
  simp [h,this]
 ·
  by_cases h2:kd b<kd a
  ·
   have:a≠b:=fun e=>by rw [e] at h2; omega
   simp [h,h2,this]
  ·
   have:a=b:=zkt (by omega)
   simp [h,h2,this]
theorem zqj:∀ l:List V3,z74 l=true↔∀ i (h:i+1<l.length),kd (l[i]'(by omega))<kd l[i+1]
 | []=>by simp [z74]
 | [a]=>by simp [z74]
 | a::b::l=>by
  have ih:=zqj (b::l)
  rw [z74,Bool.and_eq_true,ih,zre,zxu]
  constructor
  ·
   rintro ⟨h1,h2⟩ i hi
   cases i with
   | zero=>simpa using h1
   | succ i=>exact h2 i (by simpa using hi)
  ·
   intro h
   refine ⟨?_, fun i hi=>h (i+1) (by simpa using hi)⟩
   have:=h 0 (by simp)
   simpa using this
theorem z9v:∀ l:List V3,z74 l=true↔l.Pairwise (fun a b=>kd a<kd b)
 | []=>by simp [z74]
 | [a]=>by simp [z74]
 | a::b::l=>by
  have ih:=z9v (b::l)
  rw [z74,Bool.and_eq_true,ih,zre,zxu]
  constructor
  ·
   rintro ⟨h1,h2⟩
   have h1':kd a<kd b:=by simpa using h1
   refine List.pairwise_cons.2 ⟨fun c hc=>?_,h2⟩
   rcases List.mem_cons.1 hc with rfl | hc
   ·
    exact h1'
   ·
    have:=(List.pairwise_cons.1 h2).1 c hc; omega
  ·
   intro h
   obtain ⟨h1,h2⟩:=List.pairwise_cons.1 h
   have:=h1 b (by simp)
   exact ⟨by simp; omega,h2⟩
theorem ztv (l:List V3) (hl:l.length≤9223372036854775807):∃ b,z15 l=some b∧(b=true↔∀ i (h:i+1<l.length),kd (l[i]'(by omega))≤kd l[i+1]):=by
 have key:∀ n,n<l.length→∃ r:Sum Bool Unit,iter (z0q l) (n:Int)=some r∧((r=.inr ()∧∀ i (h:i+1<l.length),i+1≤n→kd (l[i]'(by omega))≤kd l[i+1])∨(r=.inl false∧∃ i,∃ h:i+1<l.length,¬ kd (l[i]'(by omega))≤kd l[i+1])):=by
  intro n
  induction n with
  | zero =>
   intro h
   refine ⟨_,z1j ?_,.inl ⟨rfl, fun i _ h=>by omega⟩⟩
   unfold z0q
   rw [if_neg (by simp)]
  | succ n ih =>
   intro h
   have hF:z0q l ((n+1:Nat):Int)=if decide (kd l[n+1]<kd l[n]) then some (.inl (.inl false)) else some (.inr (n:Int)):=by
    unfold z0q
    rw [if_pos (by simp <;> omega),z0j h,z0z (by omega) (by omega), show (((n+1:Nat):Int) - 1)=(n:Int) by omega,z0j (by omega)]
    simp only [bS]
    rw [zps]
    simp only [bS]
    rw [zsu]
   by_cases hc:kd l[n+1]<kd l[n]
   ·
    rw [decide_eq_true hc,if_pos rfl] at hF
    exact ⟨_,z1j hF,.inr ⟨rfl,n,h, by omega⟩⟩
   ·
    rw [decide_eq_false hc,if_neg (by simp)] at hF
    obtain ⟨r,h1,h2⟩:=ih (by omega)
    refine ⟨r, by rw [z1q hF]; exact h1,?_⟩
    rcases h2 with ⟨h2,h3⟩ | h2
    ·
     refine .inl ⟨h2, fun i hi hn=>?_⟩
     by_cases hin:i=n
     ·
      subst hin; omega
     ·
      exact h3 i hi (by omega)
    ·
     exact .inr h2
 unfold z15
 simp only [bS]
 by_cases h0:l.length=0
 ·
  refine ⟨true,?_, by simp; intro i hi; omega⟩
  rw [h0,z0z (by omega) (by omega),z1j (b:=.inr ())]
  ·
   rfl
  ·
   unfold z0q
   rw [if_neg (by simp)]
 ·
  obtain ⟨r,h1,h2⟩:=key (l.length - 1) (by omega)
  rw [z0z (by omega) (by omega), show ((l.length:Int) - 1)=((l.length - 1:Nat):Int) by omega,h1]
  rcases h2 with ⟨rfl,h3⟩ | ⟨rfl,i,hi,h3⟩
  ·
   exact ⟨true,rfl, by simp; exact fun i hi=>h3 i hi (by omega)⟩
  ·
   exact ⟨false,rfl, by simp; exact ⟨i,hi, by omega⟩⟩
theorem zl6 {k n j:Nat} (h:j<n):zzu k n (j:Int)=some (k+j):=by unfold zzu; rw [if_pos (by omega)]; simp
theorem zoc {α:Type} (b:List α) (k n:Nat) (x:α) (h:k+n≤b.length):(clr b k n x).length=b.length:=by
 unfold clr
 simp only [List.length_append,List.length_take,List.length_replicate,List.length_drop]; omega
theorem zp8 (l:List V3) (s:Nat) (h1:1≤s) (hs:s<l.length) (hl:l.length≤9223372036854775806):∃ b:List V3 × Int,iter (z0y l s) (l,(s:Int),1)=some b∧b.1.length=l.length∧∃ j:Nat,b.2=(j:Int)∧j<l.length:=by
 refine z7k (F:=z0y l s) (l.length - s) (fun i st=>st.1.length=l.length∧st.2.2=(i:Int)∧1≤i∧∃ j:Nat,st.2.1=(j:Int)∧j+1≤s+i) _ ?_ ?_ _ 1 (by omega) ⟨rfl,rfl, by omega,s,rfl, by omega⟩
 ·
  rintro i ⟨c,j',i'⟩ hi ⟨e1,e2,e0,j,e3,e4⟩
  simp only at e1 e2 e3
  subst e2 e3
  unfold z0y
  rw [if_pos (by simp; omega)]
  simp only [Int.toNat_natCast]
  rw [zl6 (by omega),z0z (x:=(i:Int) - 1) (by omega) (by omega), show ((i:Int) - 1)=((i - 1:Nat):Int) by omega,zl6 (by omega)]
  simp only [bS]
  rw [z0j (by omega),z0j (by omega)]
  simp only [bS]
  by_cases hc:c[s+i]'(by omega)=c[s+(i - 1)]'(by omega)
  ·
   rw [decide_eq_true hc,if_neg (by simp)]
   exact ⟨_,rfl,e1,z0p (by omega), by omega,j,rfl, by omega⟩
  ·
   rw [decide_eq_false hc,if_pos (by simp),z0j (by omega)]
   simp only [bS]
   exact ⟨_,rfl, by simpa using e1,z0p (by omega), by omega,j+1,z0p (by omega), by omega⟩
 ·
  rintro ⟨c,j',i'⟩ ⟨e1,e2,e0,j,e3,e4⟩
  simp only at e1 e2 e3
  subst e2 e3
  unfold z0y
  rw [if_neg (by simp <;> omega)]
  exact ⟨_,rfl,e1,j,rfl, by omega⟩
theorem zrz (l:List V3) (hl:l.length≤9223372036854775806):∃ c,z19 l=some c∧(c.length=l.length↔∀ i (h:i+1<l.length),l[i]'(by omega)≠l[i+1]):=by
 have key:∀ k n,l.length - n=k→1≤n→n≤l.length→∃ r:Sum (List V3) Unit,iter (z0d l) (n:Int)=some r∧((r=.inr ()∧∀ i (h:i+1<l.length),n≤i+1→l[i]'(by omega)≠l[i+1])∨(∃ c,r=.inl c∧c.length≠l.length∧∃ i,∃ h:i+1<l.length,l[i]'(by omega)=l[i+1])):=by
  intro k
  induction k with
  | zero =>
   intro n hk h1 hn
   refine ⟨_,z1j ?_,.inl ⟨rfl, fun i _ h=>by omega⟩⟩
   unfold z0d
   rw [if_neg (by simp; omega)]
  | succ k ih =>
   intro n hk h1 hn
   have hlt:n<l.length:=by omega
   by_cases hc:l[n]=l[n - 1]
   ·
    obtain ⟨⟨c,j'⟩,e1,e2,j,e3,e4⟩:=zp8 l n h1 hlt hl
    simp only at e2 e3
    subst e3
    have hF:z0d l (n:Int)=some (.inl (.inl ((clr c j (c.length - j) (Vector.replicate 32 0)).take j))):=by
     unfold z0d
     rw [if_pos (by simp; omega),z0j hlt,z0z (by omega) (by omega), show ((n:Int) - 1)=((n - 1:Nat):Int) by omega,z0j (by omega)]
     simp only [bS]
     rw [decide_eq_true hc,if_pos rfl,z2t (by omega)]
     simp only [bS]
     rw [e1]
     simp only [bS]
     rw [z2t (by omega),z2t (by simp; omega)]
     simp only [bS,Int.toNat_natCast]
     rw [show (0:Int)=((0:Nat):Int) from rfl,zdt (by omega) (by rw [zoc _ _ _ _ (by omega)]; omega)]
     simp
    refine ⟨_,z1j hF,.inr ⟨_,rfl,?_,n - 1, by omega,?_⟩⟩
    ·
     rw [List.length_take]; omega
    ·
     have:n - 1+1=n:=by omega
     simp only [this]; exact hc.symm
   ·
    have hF:z0d l (n:Int)=some (.inr ((n+1:Nat):Int)):=by
     unfold z0d
     rw [if_pos (by simp; omega),z0j hlt,z0z (x:=(n:Int) - 1) (by omega) (by omega), show ((n:Int) - 1)=((n - 1:Nat):Int) by omega,z0j (by omega)]
     simp only [bS]
     rw [decide_eq_false hc,if_neg (by simp),z0p (by omega)]
    obtain ⟨r,h2,h3⟩:=ih (n+1) (by omega) (by omega) (by omega)
    refine ⟨r, by rw [z1q hF]; exact h2,?_⟩
    rcases h3 with ⟨h3,h4⟩ | h3
    ·
     refine .inl ⟨h3, fun i hi hni=>?_⟩
     by_cases hin:i+1=n
     ·
      subst hin; exact fun e=>hc e.symm
     ·
      exact h4 i hi (by omega)
    ·
     exact .inr h3
 unfold z19
 by_cases h2:l.length<2
 ·
  rw [if_pos (by simp; omega)]
  exact ⟨l,rfl, by simp; intro i hi; omega⟩
 ·
  rw [if_neg (by simp; omega)]
  obtain ⟨r,e1,e2⟩:=key (l.length - 1) 1 rfl (by omega) (by omega)
  rw [show (1:Int)=((1:Nat):Int) from rfl,e1]
  rcases e2 with ⟨rfl,h3⟩ | ⟨c,rfl,h3,i,hi,h4⟩
  ·
   exact ⟨l,rfl, by simp; exact fun i hi=>h3 i hi (by omega)⟩
  ·
   exact ⟨c,rfl,⟨fun h=>absurd h h3, fun h=>absurd h4 (h i hi)⟩⟩
theorem zwe (l:List V3):z74 l=true↔(∀ i (h:i+1<l.length),kd (l[i]'(by omega))≤kd l[i+1])∧∀ i (h:i+1<l.length),l[i]'(by omega)≠l[i+1]:=by
 rw [zqj]
 constructor
 ·
  intro h
  refine ⟨fun i hi=>Nat.le_of_lt (h i hi), fun i hi e=>?_⟩
  have:=h i hi
  rw [e] at this; omega
 ·
  rintro ⟨h1,h2⟩ i hi
  have:=h1 i hi
  rcases Nat.lt_or_eq_of_le this with h | h
  ·
   exact h
  ·
   exact absurd (zkt h) (h2 i hi)
end
section
open Go Go.Shelf Go.RowKit Go.Lib Go.Sort
def cfID (x y:V3):Int:=Lib.compareBytes x.toList y.toList
theorem zyo (x y:V3):ltOf cfID x y=decide (kd x<kd y):=by
 unfold ltOf cfID
 rw [zre,zsu]
theorem z131:SWO (ltOf cfID) where
 irrefl x:=by rw [zyo]; simp
 trans x y z h1 h2:=by rw [zyo] at *; simp at *; omega
 ntrans x y z h1 h2:=by rw [zyo] at *; simp at *; omega
def zs0 (l:List V3):List V3:=l.mergeSort fun x y=>!(ltOf cfID) y x
theorem zmo (l:List V3):(zs0 l).length=l.length:=List.length_mergeSort l
theorem ztl (l:List V3) (x:V3):x∈zs0 l↔x∈l:=List.mem_mergeSort
theorem zmz (l:List V3):(zs0 l).Pairwise fun x y=>kd x≤kd y:=by
 have h:=List.pairwise_mergeSort (le:=fun x y=>!(ltOf cfID) y x) (fun a b c h1 h2=>by
  rw [zyo] at *; simp at *; omega) (fun a b=>by rw [zyo,zyo]; simp; omega) l
 exact h.imp fun {a b} hab=>by rw [zyo] at hab; simp at hab; omega
def zyw (l:List V3):Option (List V3):=chk (l.length≤1000000) >>= fun _=>some (zs0 l)
theorem zwn (p0:Value) (c0:List V3):z1u Tryz.prog 50 [.val p0,.val (.func (.func 51) #[] #[])] [(1,some (p0,.list (z2y 32 u8R) 36 c0))] (zyw c0) (fun r nv=>⟨[],[(1,some (p0,.list (z2y 32 u8R) 36 r))]⟩):=by
 refine zvy zs0 zmo (fun cap w=>?_) (fun blk cap d w hH hb hs=>?_) p0 c0
 ·
  exact AnyF.slices_SortFunc_none z12m none cap _ w
 ·
  have eg:∀ args w,(callFunc 51 args).run Tryz.prog w=.ok (.enter 51 args) w:=enters_of Tryz.func51 (by kernel_rfl) rfl
  exact AnyQ.slices_SortFunc_total z12m 32 Tryz.isAgg36 Tryz.sizeOf36 z9p zdp (fun x v hv=>by
   unfold z9p at hv
   obtain ⟨c,_,rfl⟩:=List.mem_map.1 hv
   rfl) cfID z131 51 #[] blk 0 cap d w eg (fun m os dk _ x y=>zrl x y _) hH hb hs (fun x y h1 h2=>by
   rw [zyo] at h1 h2
   simp at h1 h2
   exact zkt (by omega))
end
section
open Go Go.RowKit
set_option maxRecDepth 100000
def z5l (a0:V3) (c1_0:List (V3 × Int)):Option (Bool) :=
 some ((zc3 c1_0 a0).getD 0) >>= fun y2 =>
 some ((zc3 c1_0 a0).isSome) >>= fun y3 =>
 some y3
theorem za5 (a0:V3) (p1_0:Value) (q1_0:Value) (c1_0:List (V3 × Int)):z1u Tryz.prog 49 [.rd aZ a0,.val (z05 p1_0 0)] [(1,some (p1_0,.box 65 [.val q1_0])),(2,some (q1_0,.map aZ z07 c1_0))] (z5l a0 c1_0) (fun r nv=>⟨[.rd z0f r],[(1,some (p1_0,.box 65 [.val q1_0])),(2,some (q1_0,.map aZ z07 c1_0))]⟩):=by
 refine z2m 13 Tryz.func49 Z Z Z fun H w=>?_
 refine gSR<|Eb Z (bx 3 Z) fun v1=>Zb Z<|gSR<|Zq (ldV 1 Z Z .here sc65 Z)<|Zq (ld 3 Z Z fH z56 Z)<|Zq (mlk2 Z (.own 2 Z Z) Z zwa Tryz.underlying65 ti3 (Zr.num Z) Z)<|Zm Z<|Zq (ext Z Z)<|Zq (ext Z Z)<|Za Z<|z1z 4 Z fun y2=>Za Z<|z1z 5 Z fun y3=>Zn<|gSR<|Zm Z<|Zb Z<|z0m<|Ze [] [1,2] Z
def z43 (a0:List V3) (c1_0:List (V3 × Int)) (s2:Int):Option (Sum (Sum Int Unit) Int) :=
 if decide (s2<(a0.length:Int)) then
  idx a0 s2 >>= fun x4 =>
  z5l x4 c1_0 >>= fun r6 =>
  if r6 then
   some (.inl (.inl s2))
  else
   some (.inr (w64 (s2+1)))
 else
  some (.inl (.inr ()))
def z2q (a0:List V3) (c1_0:List (V3 × Int)):Option (Int) :=
 z6l (iter (z43 a0 c1_0) 0) fun s1 =>
 some (-1)
theorem z42 (a0:List V3) (q0:Value) (l0:List V3) (p1_0:Value) (q1_0:Value) (c1_0:List (V3 × Int)):z1u Tryz.prog 54 [.vw aZ q0 l0 a0,.val (.func (.func 49) #[] #[z05 p1_0 0])] [(1,some (q0,.list aZ 36 l0)),(2,some (p1_0,.box 65 [.val q1_0])),(3,some (q1_0,.map aZ z07 c1_0))] (z2q a0 c1_0) (fun r nv=>⟨[.rd z07 r],[(1,some (q0,.list aZ 36 l0)),(2,some (p1_0,.box 65 [.val q1_0])),(3,some (q1_0,.map aZ z07 c1_0))]⟩):=by
 refine z2m 19 Tryz.func54 Z Z Z fun H w=>?_
 refine gSR<|Zb Z<|z95 (fun (s1:Unit) aa ww=>Sta (ctx 19 H [(1,some (q0,.list aZ 36 l0)),(2,some (p1_0,.box 65 [.val q1_0])),(3,some (q1_0,.map aZ z07 c1_0))] w) [] [(1,some (q0,.list aZ 36 l0)),(3,some (q1_0,.map aZ z07 c1_0)),(2,some (p1_0,.box 65 [.val q1_0]))] aa ww) ?_ (fun s1=>?_)
 ·
  refine gSR<|Zm Z<|Zq (z3q Z (.vw 1 Z) Z tu22)<|Zm Z<|Zn<|z2b (fun (s2:Int) aa ww=>Sta (ctx 19 H [(1,some (q0,.list aZ 36 l0)),(2,some (p1_0,.box 65 [.val q1_0])),(3,some (q1_0,.map aZ z07 c1_0))] w) [(0,.vw aZ q0 l0 a0),(1,.val (.func (.func 49) #[] #[z05 p1_0 0])),(7,.rd z07 (a0.length:Int)),(8,.rd z07 s2)] [(1,some (q0,.list aZ 36 l0)),(3,some (q1_0,.map aZ z07 c1_0)),(2,some (p1_0,.box 65 [.val q1_0]))] aa ww) (fun aa ww h=>Zu h [1,3,2]) (fun s2=>?_)
  refine gSR<|Zq (I.lss Z Z)<|Zn<|z0w<|gIf Z Z (fun h3=>?_) (fun h3=>?_)
  ·
   refine Zt<|z0w<|z58<|gSR<|Zm Z<|Zb Z<|gSR<|Zm Z<|Zm Z<|Zm Z<|z0u fun x4 h5=>Zq (ixQ 1 Z Z Z h5 tu22 z36)<|Zq (ldQ 1 Z Z z56 Z)<|zj1 [2,3] [(1,2),(2,3)] (gd0 Z) Z Z Tryz.func49 Z Z (za5 _ _ _ _) (Y1 Z) (cQ 2 Z<|cN) (Zi Z<|Zi Z<|rN) fun r6 n7=>Zj Z (fun h8=>?_) (fun h8=>?_)
   ·
    refine gSR<|Zm Z<|Zb Z<|z0m<|z4c<|z10<|z85<|z80<|Ze [] [1,2,3] Z
   ·
    refine z3a<|z3h<|z0n<|z2o<|Zq (I.add Z Z)<|Zm Z<|z23<|z1l (fun aa ww h=>Zu h [1,3,2])
  ·
   refine z24<|z14<|z13<|z8b (fun aa ww h=>Zu h [1,3,2])
 ·
  refine gSR<|Zb Z<|z0m<|Ze [] [1,2,3] Z
def z4g (c1_0:List (V3 × Int)) (s5:(List V3) × Int × Int):Option (Sum ((List V3) × Int) ((List V3) × Int × Int)) :=
 if decide (s5.2.2<(s5.1.length:Int)) then
  idx s5.1 s5.2.2 >>= fun x7 =>
  z5l x7 c1_0 >>= fun r10 =>
  if !r10 then
   idx s5.1 s5.2.1 >>= fun x13 =>
   some (w64 (s5.2.1+1)) >>= fun y15 =>
   some (w64 (s5.2.2+1)) >>= fun y16 =>
   some (.inr (s5.1.set (s5.2.1:Int).toNat x7,y15,y16))
  else
   some (w64 (s5.2.2+1)) >>= fun y17 =>
   some (.inr (s5.1,s5.2.1,y17))
 else
  some (.inl (s5.1,s5.2.1))
def z18 (c0:List V3) (c1_0:List (V3 × Int)):Option ((List V3)) :=
 z2q c0 c1_0 >>= fun r1 =>
 if r1==(-1) then
  some c0
 else
  (iter (z4g c1_0) (c0,r1,w64 (r1+1))) >>= fun s4 =>
  chk (0≤s4.2∧s4.2≤(s4.1.length:Int)∧(s4.1.length:Int)≤(s4.1.length:Int)) >>= fun u18 =>
  chk ((s4.2:Int).toNat+(((s4.1.length:Int):Int).toNat - (s4.2:Int).toNat)≤s4.1.length) >>= fun u20 =>
  cut (clr s4.1 ((s4.2:Int).toNat) (((s4.1.length:Int):Int).toNat - (s4.2:Int).toNat) (Vector.replicate 32 0)) 0 s4.2 >>= fun x22 =>
  some x22
theorem z4h (p0:Value) (c0:List V3) (p1_0:Value) (q1_0:Value) (c1_0:List (V3 × Int)):z1u Tryz.prog 48 [.val p0,.val (.func (.func 49) #[] #[z05 p1_0 0])] [(1,some (p0,.list aZ 36 c0)),(2,some (p1_0,.box 65 [.val q1_0])),(3,some (q1_0,.map aZ z07 c1_0))] (z18 c0 c1_0) (fun r nv=>⟨[.val (nv 0)],[(2,some (p1_0,.box 65 [.val q1_0])),(3,some (q1_0,.map aZ z07 c1_0)),(100,some (nv 0,.list aZ 36 r))]⟩):=by
 refine z2m 42 Tryz.func48 Z Z Z fun H w=>?_
 refine gSR<|Zb Z<|gSR<|Zm Z<|Zm Z<|call [1,2,3] [(1,1),(2,2),(3,3)] Z Tryz.func54 Z Z (z42 _ _ _ _ _ _) (aW Z<|aQ Z<|aN) (Zi Z<|Zi Z<|Zi Z<|rN) fun r1 n2=>Zb Z<|z0w<|gSR<|Zm Z<|Zq (I.eql Z Z)<|Zj Z (fun h3=>?_) (fun h3=>?_)
 ·
  refine gSR<|Zm Z<|Zb Z<|z0m<|z10<|Ze [p0] [2,3,1] Z
 ·
  refine Zt<|z7m (fun (s4:(List V3) × Int) aa ww=>Sta (ctx 42 H [(1,some (p0,.list aZ 36 c0)),(2,some (p1_0,.box 65 [.val q1_0])),(3,some (q1_0,.map aZ z07 c1_0))] w) [(0,.val p0),(5,.rd z07 s4.2)] [(1,some (p0,.list aZ 36 s4.1)),(3,some (q1_0,.map aZ z07 c1_0)),(2,some (p1_0,.box 65 [.val q1_0]))] aa ww) ?_ (fun s4=>?_)
  ·
   refine gSR<|Zm Z<|Zq (I.add Z Z)<|Zb Z<|z2b (fun (s5:(List V3) × Int × Int) aa ww=>Sta (ctx 42 H [(1,some (p0,.list aZ 36 c0)),(2,some (p1_0,.box 65 [.val q1_0])),(3,some (q1_0,.map aZ z07 c1_0))] w) [(0,.val p0),(1,.val (.func (.func 49) #[] #[z05 p1_0 0])),(5,.rd z07 s5.2.1),(6,.rd z07 s5.2.2)] [(1,some (p0,.list aZ 36 s5.1)),(3,some (q1_0,.map aZ z07 c1_0)),(2,some (p1_0,.box 65 [.val q1_0]))] aa ww) (fun aa ww h=>Zu h [1,3,2]) (fun s5=>?_)
   refine z0w<|gSR<|Zm Z<|Zm Z<|Zq (z3q Z (.own 1 Z) Z tu22)<|Zq (I.lss Z Z)<|Zj Z (fun h6=>?_) (fun h6=>?_)
   ·
    refine Zt<|z0w<|z58<|gSR<|Zm Z<|Zm Z<|z0u fun x7 h8=>Zq (ixO 1 Z Z Z h8 tu22 z36)<|Zq (ld 1 Z Z (Foc.el h8) z56 Z)<|Eb Z (z7q 4 z36 (.zr (R:=aZ) (x:=(Vector.replicate 32 0)) zhl)) fun v9=>Es (sto 4 Z Z fH Z z36)<|Zn<|gSR<|Zm Z<|Zq (ld 4 Z Z fH z56 Z)<|zj1 [2,3] [(1,2),(2,3)] (gd0 Z) Z Z Tryz.func49 Z Z (za5 _ _ _ _) (Y1 Z) (cQ 2 Z<|cN) (Zi Z<|Zi Z<|rN) fun r10 n11=>Zq (zd9 Z)<|Zj Z (fun h12=>?_) (fun h12=>?_)
    ·
     refine gSR<|Zm Z<|Zm Z<|Zq (ld 4 Z Z fH z56 Z)<|z0u fun x13 h14=>Zq (ixO 1 Z Z Z h14 tu22 z36)<|Es (sto 1 Z Z (Foc.el h14) Z z36)<|Zn<|z2o<|Zm Z<|Zq (I.add Z Z)<|Za Z<|z1z 5 Z fun y15=>z23<|z3h<|z0n<|z2o<|Zm Z<|Zq (I.add Z Z)<|Za Z<|z1z 6 Z fun y16=>z23<|z1l (fun aa ww h=>Zu h [1,3,2])
    ·
     refine z3a<|z3h<|z0n<|z2o<|Zm Z<|Zq (I.add Z Z)<|Za Z<|z1z 6 Z fun y17=>z23<|z1l (fun aa ww h=>Zu h [1,3,2])
   ·
    refine z24<|z14<|z13<|z3s (fun aa ww h=>Zu h [1,3,2])
  ·
   refine gSR<|Zm Z<|Zm Z<|z0u fun u18 h19=>Zq (zyt 1 Z Z (.to Z) .no (z4w h19) tu22 z36)<|z0u fun u20 h21=>EsV (clrS 1 Z Z (z4w h21) Z tu22 z36 zhl Z)<|Zn<|gSR<|Zm Z<|Zm Z<|z0u fun x22 h23=>Ef Z (cutO 1 Z Z Z h23 tu22 z36) fun v24=>Zb Z<|z0m<|Ze [v24] [2,3,1] Z
def z8o (a0:z00) (a1:List V3):Option ((List V3) × Int) :=
 z49 a0 >>= fun r2 =>
 if r2 != 0 then
  some ([],r2)
 else
  if decide (60<(a1.length:Int)) then
   some ([],4)
  else
   z33 a0 >>= fun r6 =>
   z0t a1 >>= fun r9 =>
   z18 r9 r6 >>= fun r11 =>
   zyw r11 >>= fun r13 =>
   z19 r13 >>= fun r15 =>
   some (r15,0)
theorem zfs (a0:z00) (a1:List V3):z1u Tryz.prog 28 [.rd z01 a0,.rd (z02 aZ) a1] [zG1] (z8o a0 a1) (fun r nv=>⟨[.val (nv 0),.rd z07 r.2],[(1001,some (.bool true,.glob 1 (z2y 64 z0i) z4q)),(100,some (nv 0,.list aZ 36 r.1))]⟩):=by
 refine z2m 27 Tryz.func28 Z Z Z fun H w=>?_
 refine gSR<|Eb Z (bx 1 Z) fun v1=>Za Z<|Zb Z<|z0w<|gSR<|Zq (ld 1 Z Z fH zal Z)<|Zc [1001] [] Tryz.func23 Z (zbu _) fun r2 n3=>Zb Z<|gSR<|Zm Z<|Zq (I.neq Z Z)<|Zj Z (fun h4=>?_) (fun h4=>?_)
 ·
  refine gSR<|Zm Z<|Za Z<|Zb Z<|z0m<|z10<|zpm aZ 36 2<|Ze [(.slice none 0 0)] [1001,2] Z
 ·
  refine Zt<|z0w<|gSR<|Zm Z<|Zq (z3q Z .rd Z tu22)<|Zq (I.gtr Z Z)<|Zj Z (fun h5=>?_) (fun h5=>?_)
  ·
   refine gSR<|Za Z<|Zb Z<|z0m<|z10<|zpm aZ 36 3<|Ze [(.slice none 0 0)] [1001,3] Z
  ·
   refine Zt<|gSR<|Zq (ld 1 Z Z fH zal Z)<|Zc [] [(100,4)] Tryz.func31 Z (z5e _) fun r6 n7=>Eb Z (z7q 5 ti65 (.val Z)) fun v8=>Es (zo8 5 Z Z (.here z0a) Z z1v z0a ti65)<|Zn<|gSR<|Zm Z<|Zc [] [(100,6)] Tryz.func41 Z (z1n _) fun r9 n10=>Zq (mkf mp0 (mp1 Z))<|Zc [6,5,4] [(100,7),(2,5),(3,4)] Tryz.func48 Z (z4h _ _ _ _ _) fun r11 n12=>Zb Z<|gSR<|Zm Z<|Zc [7] [(1,7)] Tryz.func50 Z (zwn _ _) fun r13 n14=>Zn<|gSR<|Zm Z<|Zc [7] [(100,8)] Tryz.func52 Z (z6g _ _) fun r15 n16=>Za Z<|Zb Z<|z0m<|Ze [(n16 0)] [1001,8] Z
def z69 (a0:z00) (r10:(List Bool)) (s12:(List V3) × (List z06) × Int):Option (Sum ((List V3) × (List z06)) ((List V3) × (List z06) × Int)) :=
 if decide (s12.2.2<(r10.length:Int)) then
  idx r10 s12.2.2 >>= fun x15 =>
  if x15 then
   idx a0.Ops s12.2.2 >>= fun x18 =>
   z0t x18.Preds >>= fun r21 =>
   idx a0.IDs s12.2.2 >>= fun x23 =>
   app 32 s12.1 [x23] >>= fun x25 =>
   app 112 s12.2.1 [(⟨x18.Author,r21,x18.Stamp,x18.Act,x18.Sig⟩:z06)] >>= fun x27 =>
   some (.inr (x25,x27,w64 (s12.2.2+1)))
  else
   some (.inr (s12.1,s12.2.1,w64 (s12.2.2+1)))
 else
  some (.inl (s12.1,s12.2.1))
def z8d (a0:z00) (a1:List V3):Option (z00 × Int) :=
 z8o a0 a1 >>= fun r3 =>
 if r3.2 != 0 then
  some ((⟨[],[]⟩:z00),r3.2)
 else
  some (decide (0<(r3.1.length:Int))) >>= fun y6 =>
  if y6 then
   some ((⟨[],[]⟩:z00),6)
  else
   (z8e a0 a1 >>= fun r10 =>
   iter (z69 a0 r10) ([],[],0)) >>= fun s9 =>
   some ((⟨s9.1,s9.2⟩:z00),0)
set_option maxHeartbeats 4000000 in
theorem zhc (a0:z00) (a1:List V3):z1u Tryz.prog 17 [.rd z01 a0,.rd (z02 aZ) a1] [zG1] (z8d a0 a1) (fun r nv=>⟨[.rd z01 r.1,.rd z07 r.2],[(1001,some (.bool true,.glob 1 (z2y 64 z0i) z4q))]⟩):=by
 refine z2m 65 Tryz.func17 Z Z Z fun H w=>?_
 refine gSR<|Eb Z (bx 1 Z) fun v1=>Eb Z (z7q 2 zeb (ZrE.nilS (ZrE.nilS ZrE.nil))) fun v2=>Zb Z<|gSR<|Zq (ld 1 Z Z fH zal Z)<|Zm Z<|Zc [1001] [(100,3)] Tryz.func28 Z (zfs _ _) fun r3 n4=>Zm Z<|Zq (ext Z Z)<|Zq (ext Z Z)<|Za Z<|Zb Z<|z0w<|z58<|gSR<|Zm Z<|Zq (I.neq Z Z)<|Zb Z<|gIf Z Z (fun h5=>?_) (fun h5=>?_)
 ·
  refine gKn 20 Z h5<|gSR<|Zq (zve [(0,1),(1,1)] Tryz.underlying25 zeb (ZrE.nilS (ZrE.nilS ZrE.nil)) Z (zjt.done Z))<|Zm Z<|Es (zvd 2 Z Z (z0o.cast (z0o.cons z0a (z0o.cons z0a z0o.nil)) Z) Z (z5u.cons z1v (z5u.cons z1v z5u.nil)) (z0o.cast (z0o.cons z0a (z0o.cons z0a z0o.nil)) Z) zeb)<|Zb Z<|z0m<|z4c<|z10<|zp4 aZ [.rd (z02 aZ) [],.val (.slice none 0 0)] 2 [] [.val (.slice none 0 0)] Z Z Z<|zp4 z03 [.rd (z02 aZ) [],.rd (z02 z03) []] 2 [.rd (z02 aZ) []] [] Z Z Z<|zwd (R:=z01) (⟨[],[]⟩:z00) 2 Z (Sp.via (Sp.prod (Sp.prod Sp.unit)))<|zbf [] [1001] Z (eC 2 Z Z zal<|eE Z<|eN) (y1 Z)
 ·
  refine gKn 20 Z h5<|gSR<|Zm Z<|Zq (z3q Z (.own 3 Z) Z tu22)<|Zq (I.gtr Z Z)<|Za Z<|z1z 23 Z fun y6=>Zj Z (fun h7=>?_) (fun h7=>?_)
  ·
   refine gSR<|Zq (zve [(0,1),(1,1)] Tryz.underlying25 zeb (ZrE.nilS (ZrE.nilS ZrE.nil)) Z (zjt.done Z))<|Es (zvd 2 Z Z (z0o.cast (z0o.cons z0a (z0o.cons z0a z0o.nil)) Z) Z (z5u.cons z1v (z5u.cons z1v z5u.nil)) (z0o.cast (z0o.cons z0a (z0o.cons z0a z0o.nil)) Z) zeb)<|Zb Z<|z0m<|z4c<|z10<|zp4 aZ [.rd (z02 aZ) [],.val (.slice none 0 0)] 2 [] [.val (.slice none 0 0)] Z Z Z<|zp4 z03 [.rd (z02 aZ) [],.rd (z02 z03) []] 2 [.rd (z02 aZ) []] [] Z Z Z<|zwd (R:=z01) (⟨[],[]⟩:z00) 2 Z (Sp.via (Sp.prod (Sp.prod Sp.unit)))<|zbf [] [1001] Z (eC 2 Z Z zal<|eE Z<|eN) (y1 Z)
  ·
   refine z3a<|z3h<|z0n<|gSR<|Eb Z (z7q 4 zeb (ZrE.nilS (ZrE.nilS ZrE.nil))) fun v8=>Zn<|z7m (fun (s9:(List V3) × (List z06)) aa ww=>∃ nv:Nat→Value,Sta (ctx 65 H [zG1] w) [(4,.val (z05 v2 0)),(8,.val (z05 v8 0))] [(2,some (v2,.box 25 [.val (.slice none 0 0),.val (.slice none 0 0)])),(8,some ((nv 0),.list aZ 36 s9.1)),(9,some ((nv 1),.list z03 46 s9.2)),(4,some (v8,.box 25 [.val (nv 0),.val (nv 1)])),zG1] aa ww) ?_ (fun s9=>?_)
   ·
    refine gSR<|Zq (ld 1 Z Z fH zal Z)<|Zm Z<|Zc [] [(100,1100)] Tryz.func40 Z (zc8 _ _) fun r10 n11=>Zq (z3q Z (.own 1100 Z) Z tu67)<|Zm Z<|Zn<|zvl aZ 36 1105<|zvl z03 46 1106<|z2b (fun (s12:(List V3) × (List z06) × Int) aa ww=>∃ nv:Nat→Value,Sta (ctx 65 H [zG1] w) [(2,.val (z05 v1 0)),(4,.val (z05 v2 0)),(8,.val (z05 v8 0)),(30,.val (n11 0)),(31,.rd z07 (r10.length:Int)),(32,.rd z07 s12.2.2)] [(1,some (v1,.box 25 [.rd z01 a0])),(2,some (v2,.box 25 [.val (.slice none 0 0),.val (.slice none 0 0)])),(1103,some ((nv 0),.list aZ 36 s12.1)),(1104,some ((nv 1),.list z03 46 s12.2.1)),(4,some (v8,.box 25 [.val (nv 0),.val (nv 1)])),(1100,some ((n11 0),.list z0f 4 r10)),zG1] aa ww) (fun aa ww h=>⟨nvl [(.slice none 0 0),(.slice none 0 0)],Zu h [1,2,1105,1106,4,1100,1001]⟩) (fun s12=>?_)
    refine gEx fun n13=>gSR<|Zq (I.lss Z Z)<|Zn<|z0w<|gIf Z Z (fun h14=>?_) (fun h14=>?_)
    ·
     refine Zt<|z0w<|z58<|gSR<|Zm Z<|z0u fun x15 h16=>Zq (ixO 1100 Z Z Z h16 tu67 ti4)<|Zq (ld 1100 Z Z (Foc.el h16) ty4 Z)<|Za Z<|Zb Z<|gSR<|Zm Z<|Zj Z (fun h17=>?_) (fun h17=>?_)
     ·
      refine gKn 36 Z h17<|gKn 10 Z h17<|gSR<|Zq (faB 1 Z Z Tryz.underlying25 Z (by exact zap))<|Zq (ld 1 Z Z (fP (z08 _)) zdk Z)<|Zm Z<|z0u fun x18 h19=>Zq (ixR Z Z h19 tu23 z88 Z)<|Zq (ldR Z z9q)<|Eb Z (z7q 1107 z88 (ZrE.rd (R:=z0i) (x:=0) (Zr.num Z) (ZrE.nilS (ZrE.rd (R:=z2e) (x:=0) (Zr.num Z) (ZrE.rd (R:=z0g) (x:=(⟨0,[],(⟨0,0,0,[]⟩:z04)⟩:z0k)) zn0 (ZrE.rd (R:=z0l) (x:=(⟨0,0⟩:z09)) zl1 ZrE.nil Z) Z) Z)) Z)) fun v20=>zhh aZ [.rd z0i 0,.rd (z02 aZ) [],.rd z2e 0,.rd z0g (⟨0,[],(⟨0,0,0,[]⟩:z04)⟩:z0k),.rd z0l (⟨0,0⟩:z09)] 1107 [.rd z0i 0] [.rd z2e 0,.rd z0g (⟨0,[],(⟨0,0,0,[]⟩:z04)⟩:z0k),.rd z0l (⟨0,0⟩:z09)] Z Z Z<|zgu (R:=z03) (⟨0,[],0,(⟨0,[],(⟨0,0,0,[]⟩:z04)⟩:z0k),(⟨0,0⟩:z09)⟩:z06) 1107 Z (Sp.via (Sp.prod (Sp.prod (Sp.prod (Sp.prod (Sp.prod Sp.unit))))))<|Es (sto 1107 Z Z fH Z z88)<|Zn<|gSR<|Zq (faB 1107 Z Z Tryz.underlying46 Z (by exact z8p))<|Zq (ld 1107 Z Z (fP (z0x _)) z9o Z)<|Zc [] [(100,1108)] Tryz.func41 Z (z1n _) fun r21 n22=>Zq (faB 1107 Z Z Tryz.underlying46 Z (by exact z8p))<|lSpl (R:=z03) 1107 Z (Sp.via (Sp.prod (Sp.prod (Sp.prod (Sp.prod (Sp.prod Sp.unit))))))<|Es (zo8 1107 Z Z (zai.cast (zai.next z27 (zai.here z27)) Z) Z z1v z0a z8p)<|Zn<|gPow [.rd z0i x18.Author,.rd (z02 aZ) r21,.rd z2e x18.Stamp,.rd z0g x18.Act,.rd z0l x18.Sig] 1107 1108 [.rd z0i x18.Author] [.rd z2e x18.Stamp,.rd z0g x18.Act,.rd z0l x18.Sig] Z Z Z Z Z<|gJoi (R:=z03) (⟨x18.Author,r21,x18.Stamp,x18.Act,x18.Sig⟩:z06) 1107 Z (Sp.via (Sp.prod (Sp.prod (Sp.prod (Sp.prod (Sp.prod Sp.unit))))))<|zrm [(2,.val (z05 v1 0)),(4,.val (z05 v2 0)),(8,.val (z05 v8 0)),(30,.val (n11 0)),(31,.rd z07 (r10.length:Int)),(32,.rd z07 s12.2.2),(9,.rd z07 s12.2.2),(11,.val (z05 v20 0))] [(1,some (v1,.box 25 [.rd z01 a0])),(2,some (v2,.box 25 [.val (.slice none 0 0),.val (.slice none 0 0)])),(1103,some ((n13 0),.list aZ 36 s12.1)),(1104,some ((n13 1),.list z03 46 s12.2.1)),(4,some (v8,.box 25 [.val (n13 0),.val (n13 1)])),(1100,some ((n11 0),.list z0f 4 r10)),zG1,(1107,some (v20,.box 46 [.rd z03 (⟨x18.Author,r21,x18.Stamp,x18.Act,x18.Sig⟩:z06)]))] [1,2,1103,1104,4,1100,1001,1107] (Zs Z Z Z Z<|Zs Z Z Z Z<|sN) (Zi Z<|Zi Z<|Zi Z<|Zi Z<|Zi Z<|Zi Z<|Zi Z<|Zi Z<|rN)<|z5g fun x23 h24=>z5g fun x25 h26=>z5g fun x27 h28=>gOr [] [⟨4,some ([], fun nv=>(v8,.box 25 [.val (n13 0),.val (n13 1)])),[(15,some ([2], fun nv=>(v8,.box 25 [.val (nv 2),.val (n13 1)]))),(17,some ([2,4], fun nv=>(v8,.box 25 [.val (nv 2),.val (nv 4)])))]⟩,⟨1,some ([], fun nv=>(v1,.box 25 [.rd z01 a0])),[]⟩,⟨1109,none,[(7,none)]⟩,⟨1103,some ([], fun nv=>((n13 0),.list aZ 36 s12.1)),[(8,some ([2], fun nv=>((nv 2),.list aZ 36 x25)))]⟩,⟨1107,some ([], fun nv=>(v20,.box 46 [.rd z03 (⟨x18.Author,r21,x18.Stamp,x18.Act,x18.Sig⟩:z06)])),[]⟩,⟨1110,none,[(12,none)]⟩,⟨1104,some ([], fun nv=>((n13 1),.list z03 46 s12.2.1)),[(13,some ([4], fun nv=>((nv 4),.list z03 46 x27)))]⟩] [pk 47 (.val (z05 v8 (0+0))) [(0,0,false)],pk 48 (.val (n13 0)) [(0,0,false)],pk 49 (.val (z05 v1 (0+0))) [(1,0,false)],pk 50 (.rd (z02 aZ) a0.IDs) [(1,0,false)],pd 51 (.rd z07 s12.2.2),pd 52 (.rp aZ x23),pd 53 (.rd aZ x23),⟨some (54,[], fun nv=>.rd (z02 aZ) [x23]),[(2,0,true)],[1],[]⟩,⟨some (55,[2], fun nv=>.val (nv 2)),[(3,0,true)],[2],[]⟩,pk 56 (.val (z05 v8 (0+1))) [(0,0,false)],pk 57 (.val (n13 1)) [(0,0,false)],pk 58 (.rd z03 (⟨x18.Author,r21,x18.Stamp,x18.Act,x18.Sig⟩:z06)) [(4,0,false)],⟨some (59,[], fun nv=>.rd (z02 z03) [(⟨x18.Author,r21,x18.Stamp,x18.Act,x18.Sig⟩:z06)]),[(5,0,true)],[3],[]⟩,⟨some (60,[4], fun nv=>.val (nv 4)),[(6,0,true)],[4],[]⟩,pk 61 (.val (z05 v8 (0+0))) [(0,0,false)],⟨none,[(0,0,true),(3,1,false)],[],[]⟩,pk 62 (.val (z05 v8 (0+1))) [(0,1,false)],⟨none,[(6,1,false),(0,1,true)],[],[]⟩] mixed (oC (oRn (fun nv E=>faB 4 Z Z Tryz.underlying25 Z (by exact z8p)))<|oC (oRn (fun nv E=>ldV 4 Z Z (At.cast At.here Z) sc22 Z))<|oC (oRn (fun nv E=>faB 1 Z Z Tryz.underlying25 Z (by exact z8p)))<|oC (oRn (fun nv E=>ld 1 Z Z (fP (z0b _)) z9o Z))<|oC (oRn (fun nv E=>mv Z))<|oC (oRn (fun nv E=>ixR Z Z h24 tu22 z36 Z))<|oC (oRn (fun nv E=>ldR Z z56))<|oC (oFz (A1:=fun nv=>[(1109,some ((nv 1),.list aZ 36 [x23]))]) 1109 1 (oEf 1109 1 (fun nv E=>lit (R:=aZ) ([x23]:List V3) 1109 (pP Z Z<|pN) Z tu22 z36 Z Z)))<|oC (oEf 1103 2 (fun nv E=>apn 1103 Z Z Z .rd h26 tu22 z36 Z Z Z))<|oC (oRn (fun nv E=>faB 4 Z Z Tryz.underlying25 Z (by exact zap)))<|oC (oRn (fun nv E=>ldV 4 Z Z (At.cast (At.next z0a At.here) Z) sc23 Z))<|oC (oRn (fun nv E=>ld 1107 Z Z fH z9q Z))<|oC (oFz (A1:=fun nv=>[(1110,some ((nv 3),.list z03 46 [(⟨x18.Author,r21,x18.Stamp,x18.Act,x18.Sig⟩:z06)]))]) 1110 3 (oEf 1110 3 (fun nv E=>lit (R:=z03) ([(⟨x18.Author,r21,x18.Stamp,x18.Act,x18.Sig⟩:z06)]:List z06) 1110 (pP Z Z<|pN) Z tu23 z88 Z Z)))<|oC (oEf 1104 4 (fun nv E=>apn 1104 Z Z Z .rd h28 tu23 z88 Z Z Z))<|oC (oRn (fun nv E=>faB 4 Z Z Tryz.underlying25 Z (by exact z8p)))<|oC (oEs 4 (fun nv E=>zo8 4 Z Z (zai.cast (zai.here z0a) Z) Z z1v z0a z8p))<|oC (oRn (fun nv E=>faB 4 Z Z Tryz.underlying25 Z (by exact zap)))<|oC (oEs 4 (fun nv E=>zo8 4 Z Z (zai.cast (zai.next z0a (zai.here z0a)) Z) Z z1v z0a zap))<|oN) fun n29=>z3h<|z0n<|z2o<|Zq (I.add Z Z)<|Zm Z<|z23<|z1l (fun aa ww h=>⟨nvl [(n29 2),(n29 4)],Zu h [1,2,1103,1104,4,1100,1001]⟩)
     ·
      refine gKn 36 Z h17<|gKn 10 Z h17<|z3a<|z3h<|z0n<|z2o<|Zq (I.add Z Z)<|Zm Z<|z23<|z1l (fun aa ww h=>⟨nvl [(n13 0),(n13 1)],Zu h [1,2,1103,1104,4,1100,1001]⟩)
    ·
     refine z24<|z14<|z13<|z3s (fun aa ww h=>⟨nvl [(n13 0),(n13 1)],Zu h [2,1103,1104,4,1001]⟩)
   ·
    refine gEx fun n30=>gSR<|zyh [.rd (z02 aZ) s9.1,.val (n30 1)] 4 8 [] [.val (n30 1)] Z Z Z Z Z<|zyh [.rd (z02 aZ) s9.1,.rd (z02 z03) s9.2] 4 9 [.rd (z02 aZ) s9.1] [] Z Z Z Z Z<|zgu (R:=z01) (⟨s9.1,s9.2⟩:z00) 4 Z (Sp.via (Sp.prod (Sp.prod Sp.unit)))<|Zq (ld 4 Z Z fH zal Z)<|zhh aZ [.rd (z02 aZ) [],.val (.slice none 0 0)] 2 [] [.val (.slice none 0 0)] Z Z Z<|zhh z03 [.rd (z02 aZ) [],.rd (z02 z03) []] 2 [.rd (z02 aZ) []] [] Z Z Z<|zgu (R:=z01) (⟨[],[]⟩:z00) 2 Z (Sp.via (Sp.prod (Sp.prod Sp.unit)))<|Es (sto 2 Z Z fH Z zeb)<|Zb Z<|z0m<|zbf [] [1001] Z (eC 2 Z Z zal<|eE Z<|eN) (y1 Z)
end
section
open Go Go.Shelf Go.RowKit Go.Lib
theorem zvo {P:Program} {k:Nat} (w:World) (dT sT ty elem:TypeId) (g o dLen dCap:Nat) (a:Addr) (sLen sCap:Nat) (cur:Array Value) (t:TypeId) (cs:List Value)
  (hu:P.underlying dT=some (.slice elem)) (hs:(P.info? elem).map (·.size)=some k)
  (hg:w.heap[g]? = some (.cells cur t (0,0))) (hn:cs.length=Nat.min sLen dLen * k)
  (hsrc:∀ j v,cs[j]? = some v→w.cell? (a.add j)=some v) (hfit:o+cs.length≤cur.size) (h1:∀ v∈cs,v.oneCell'=true) :
  (Builtin.copy_ #[dT,sT] ty #[.slice (some ⟨g,o,none⟩) dLen dCap,.slice (some a) sLen sCap]).run P w =
   .ok (goInt (Nat.min sLen dLen)) (w.setRow g (cur.toList.take o++cs++cur.toList.drop (o+cs.length)).toArray):=by
 have hl:=run_firstCells_some (P:=P) w k (Nat.min sLen dLen) a sLen sCap cs hn hsrc
 have hst:=run_storeCells_at P g o t cs 0 cur w hg (by simpa using hfit) h1
 cases hq:P.info? elem with
 | none=>simp [hq] at hs
 | some i =>
  have hi:i.size=k:=by simpa [hq] using hs
  simp [Builtin.copy_,run_underlying hu,Builtin.lenOf,sizeOf,typeInfo,hq,hi,hl,hst]
theorem zvr {P:Program} (w:World) {o:Oper} {a:Act} {K:Act→World→Prop} {Q:Exit→Act→World→Prop} (d s:Operand) (t t':TypeId)
  (ho:o.op=.call { callee:=.builtin .copy,args:=#[d,s],argTypes:=#[t,t'] }) (v u:Value) (hd:a.eval d=v) (hs:a.eval s=u) {v':Value} {w':World}
  (hr:(Builtin.copy_ #[t,t'] o.type #[v,u]).run P w=.ok v' w') (h:K (a.put o.dst v') w'):o.wp P a w K Q:=by
 unfold Oper.wp execOp
 simp only [ho,resolve,invoke,builtin,Sem.run_bind,Sem.run_pure,Result.andThen_ok,List.map_toArray,List.map_cons,List.map_nil,hd,hs,hr]
 exact h
theorem zhp {P:Program} (w:World) {ops:Array Oper} {rest:List Oper} {o:Oper} {a:Act} {Q:Exit→Act→World→Prop} (hgd:o.guard=none) (d s:Operand) (t t':TypeId)
  (ho:o.op=.call { callee:=.builtin .copy,args:=#[d,s],argTypes:=#[t,t'] }) (v u:Value) (hd:a.eval d=v) (hs:a.eval s=u) {v':Value} {w':World}
  (hr:(Builtin.copy_ #[t,t'] o.type #[v,u]).run P w=.ok v' w') (h:wpList P ops Q rest (a.put o.dst v') w'):wpList P ops Q (o::rest) a w :=
 wpList_plain hgd fun _ hK=>zvr w d s t t' ho v u hd hs hr (hK _ _ h)
theorem zkn {P:Program} {ops:Array Oper} {o:Oper} {a:Act} {w:World} {K:Act→World→Prop} {Q:Exit→Act→World→Prop} {E:Prop}
  (hg:o.guard=none) (d x:Operand) (dT sT:TypeId) (hop:o.op=Op.call { callee:=Callee.builtin Builtin.copy,args:=#[d,x],argTypes:=#[dT,sT] })
  (v u:Value) (hd:a.eval d=v) (hx:a.eval x=u) {v':Value} {w':World} (hr:(Builtin.copy_ #[dT,sT] o.type #[v,u]).run P w=.ok v' w') (hK:K (a.put o.dst v') w') :
  if Region.wanted o (yielded ops a.tmps)=true then Oper.wp P o a w K Q else E:=by
 have hw:Region.wanted o (yielded ops a.tmps)=true:=by simp [Region.wanted,hg]
 rw [if_pos hw]
 unfold Oper.wp
 simp [execOp,hop,resolve,invoke,builtin,hd,hx,hr,Result.andThen]
 exact hK
section
variable (b n c i vb vc:Nat) (xs ys:List Value) (C V:Array Value) (w:World)
theorem ztd:TI Tryz.prog 36 (.agg (Array.replicate 32 (.int .u8 0))) 32 32:=z36
theorem zu9:(Tryz.prog.info? 36).map (·.size)=some 32:=by kernel_rfl
set_option maxHeartbeats 4000000 in
set_option maxRecDepth 100000 in
theorem ztk (hi:i<n) (hroom:n+1≤c) (hc63:c≤9223372036854775807) (hvb:vb≠b) (hC:w.heap[b]? = some (.cells C 36 (0,0))) (hV:w.heap[vb]? = some (.cells V 36 (0,0)))
  (hCs:C.size=c * 32) (hxs:C.toList.take (n * 32)=xs) (hys:V.toList.take 32=ys) (hyl:ys.length=32) (h1x:∀ v∈xs,v.oneCell'=true) (h1y:∀ v∈ys,v.oneCell'=true) :
  Calls Tryz.prog 61 #[.slice (some ⟨b,0,none⟩) n c,.int .i64 i,.slice (some ⟨vb,0,none⟩) 1 vc] w fun e w' =>
   e=.returned (.slice (some ⟨b,0,none⟩) (n+1) c)∧∃ D,w'=w.drew.setRow b D∧D.size=C.size∧D.toList.take ((n+1) * 32)=xs.take (i * 32)++ys++xs.drop (i * 32):=by
 have hsz:=zu9
 have u22:Tryz.prog.underlying 22=some (.slice 36):=Tryz.underlying22
 have hcc:∀ j v,C.toList[j]? = some v→w.cell? ⟨b,j,none⟩=some v:=fun j v hj=>by
  rw [Array.getElem?_toList] at hj; unfold World.cell?; rw [hC]; exact hj
 have hcv:∀ j v,V.toList[j]? = some v→w.cell? ⟨vb,j,none⟩=some v:=fun j v hj=>by
  rw [Array.getElem?_toList] at hj; unfold World.cell?; rw [hV]; exact hj
 have hxl:xs.length=n * 32:=by rw [← hxs,List.length_take,Array.length_toList]; omega
 have hxg:∀ j v,xs[j]? = some v→C.toList[j]? = some v:=fun j v hj=>by
  rw [← hxs,List.getElem?_take] at hj; split at hj
  ·
   exact hj
  ·
   cases hj
 have hyg:∀ j v,ys[j]? = some v→V.toList[j]? = some v:=fun j v hj=>by
  rw [← hys,List.getElem?_take] at hj; split at hj
  ·
   exact hj
  ·
   cases hj
 have hVs:V.size≠0:=by
  have:ys.length≤V.size:=by rw [← hys,List.length_take,Array.length_toList]; omega
  omega
 have hov:∀ lb cb,(callFunc 88 #[.slice (some ⟨vb,0,none⟩) 1 vc,.slice (some ⟨b,(i+1) * 32,none⟩) lb cb]).run Tryz.prog w=.ok (.value (.bool false)) w:=fun lb cb=>by
  rw [run_callFunc_extern Tryz.func88 (by kernel_rfl) (by kernel_rfl) (by kernel_rfl) (e:=Extern.SlicesOverlaps.overlaps #[22,22] #[4]) (by kernel_rfl),
   Lib.run_overlaps_apart w 22 4 36 u22 32 Tryz.sizeOf36 ⟨vb,0,none⟩ ⟨b,(i+1) * 32,none⟩ 1 vc lb cb hvb 36 36 V.size C.size (by simp [World.shape?,hV]) (by simp [World.shape?,hC]) (by omega) (by simp [World.frozen?,hV]) (by simp [World.frozen?,hV])]
  rfl
 have hdl:(xs.drop (i * 32)).length=(n - i) * 32:=by rw [List.length_drop,hxl,Nat.sub_mul]
 have hmin1:Nat.min (n+1 - i) (n - i)=n - i:=by simp only [Nat.min_def]; split <;> omega
 have hcp1:∀ ty dc sc,(Builtin.copy_ #[22,22] ty #[.slice (some ⟨b,(i+1) * 32,none⟩) (n - i) dc,.slice (some ⟨b,i * 32,none⟩) (n+1 - i) sc]).run Tryz.prog w.drew =
   .ok (goInt ((n - i:Nat):Int)) (w.drew.setRow b (C.toList.take ((i+1) * 32)++xs.drop (i * 32)++C.toList.drop ((i+1) * 32+(xs.drop (i * 32)).length)).toArray):=fun ty dc sc=>by
  have e:=zvo (P:=Tryz.prog) w.drew 22 22 ty 36 b ((i+1) * 32) (n - i) dc ⟨b,i * 32,none⟩ (n+1 - i) sc C 36 (xs.drop (i * 32)) u22 hsz hC (by rw [hmin1,hdl])
   (fun j v hj=>by rw [Addr.add_lit]; exact hcc _ v (hxg _ v (by rwa [List.getElem?_drop] at hj))) (by rw [hdl,hCs]; omega) (fun v hv=>h1x v (List.mem_of_mem_drop hv))
  rw [hmin1] at e; exact e
 obtain ⟨D1,hD1⟩:∃ D1,D1=(C.toList.take ((i+1) * 32)++xs.drop (i * 32)++C.toList.drop ((i+1) * 32+(xs.drop (i * 32)).length)).toArray:=⟨_,rfl⟩
 rw [← hD1] at hcp1
 have hD1s:D1.size=C.size:=by
  rw [hD1]; simp only [List.size_toArray,List.length_append,List.length_take,List.length_drop,Array.length_toList,hxl]; omega
 obtain ⟨W1,hW1⟩:∃ W1,W1=w.drew.setRow b D1:=⟨_,rfl⟩
 have hB1:W1.heap[b]? = some (.cells D1 36 (0,0)):=by rw [hW1]; exact setRow_heap w.drew b C D1 36 (0,0) hC
 have hV1:W1.heap[vb]? = some (.cells V 36 (0,0)):=by rw [hW1,setRow_other w.drew b vb D1 hvb]; exact hV
 obtain ⟨D2,hD2⟩:∃ D2,D2=(D1.toList.take (i * 32)++ys++D1.toList.drop (i * 32+ys.length)).toArray:=⟨_,rfl⟩
 have hcp2:∀ ty dc,(Builtin.copy_ #[22,22] ty #[.slice (some ⟨b,i * 32,none⟩) (n+1 - i) dc,.slice (some ⟨vb,0,none⟩) 1 vc]).run Tryz.prog W1=.ok (goInt 1) (W1.setRow b D2):=fun ty dc=>by
  have hm:Nat.min 1 (n+1 - i)=1:=by simp only [Nat.min_def]; split <;> omega
  have e:=zvo (P:=Tryz.prog) W1 22 22 ty 36 b (i * 32) (n+1 - i) dc ⟨vb,0,none⟩ 1 vc D1 36 ys u22 hsz hB1 (by rw [hm,hyl])
   (fun j v hj=>by
    rw [Addr.add_lit,Nat.zero_add]
    have:=hyg j v hj
    rw [Array.getElem?_toList] at this
    unfold World.cell?; rw [hV1]; exact this) (by rw [hyl,hD1s,hCs]; omega) h1y
  rw [hm,← hD2] at e; exact e
 have hfin:D2.size=C.size∧D2.toList.take ((n+1) * 32)=xs.take (i * 32)++ys++xs.drop (i * 32):=by
  have t1:D1.toList.take (i * 32)=xs.take (i * 32):=by
   rw [hD1,← hxs,List.take_take]
   simp only [List.append_assoc]
   rw [List.take_append_of_le_length (by rw [List.length_take,Array.length_toList]; omega),List.take_take]
   congr 1; omega
  have t2:(D1.toList.drop ((i+1) * 32)).take ((n - i) * 32)=xs.drop (i * 32):=by
   have el:(C.toList.take ((i+1) * 32)).length=(i+1) * 32:=by rw [List.length_take,Array.length_toList]; omega
   rw [hD1]
   simp only [List.append_assoc]
   rw [List.drop_append,el,Nat.sub_self,List.drop_zero,List.drop_eq_nil_of_le (by rw [el]; omega),List.nil_append,List.take_append_of_le_length (by rw [hdl]; omega),List.take_of_length_le (by rw [hdl]; omega)]
  constructor
  ·
   rw [hD2]; simp only [List.size_toArray,List.length_append,List.length_take,List.length_drop,Array.length_toList,hyl]; omega
  ·
   rw [hD2]
   simp only [List.append_assoc]
   have el:(D1.toList.take (i * 32)).length=i * 32:=by rw [List.length_take,Array.length_toList]; omega
   rw [List.take_append,el,List.take_of_length_le (by rw [el]; omega),List.take_append,hyl,List.take_of_length_le (l:=ys) (by rw [hyl]; omega),t1,
    show i * 32+32=(i+1) * 32 by omega, show (n+1) * 32 - i * 32 - 32=(n - i) * 32 by omega,t2]
 have hz1:¬ ((1:Int)=0):=by decide
 have hz2:¬ ((i:Int)=(n:Int)):=by omega
 have hw1:IntKind.i64.wrap ((i:Int)+1)=(i:Int)+1:=by rw [IntKind.wrap_i64]; omega
 have hb1:(0:Int)≤(i:Int)+1:=by omega
 have hin:i≤n:=by omega
 have htn:((i:Int)+1).toNat=i+1:=by omega
 have hb2:¬ (c=i+1):=by omega
 have hb3:(i:Int)≤(n:Int)+1:=by omega
 have hb4:¬ (c=i):=by omega
 subst hW1
 clear hcc hcv hxg hyg hD1 hD2 hxs hys hC hV hB1 hV1 h1x h1y hdl hmin1 hxl hyl
 go_enter Tryz.func61,Tryz.ntmps61
 go_wp2_with (simp only [hov])
 go_region_law (refine zkn rfl _ _ 22 22 rfl (.slice (some ⟨b,(i+1) * 32,none⟩) (n - i) (c - (i+1))) (.slice (some ⟨b,i * 32,none⟩) (n+1 - i) (c - i)) (by simp [Act.eval,Act.put]) (by simp [Act.eval,Act.put]) (hcp1 3 (c - (i+1)) (c - i)) ?_)
 go_wp2_with (at_builtin; refine zhp _ rfl _ _ 22 22 rfl _ _ rfl rfl (hcp2 _ _) ?_)
 go_ret
 exact ⟨rfl,D2, by rw [setRow_setRow],hfin⟩
set_option maxHeartbeats 4000000 in
set_option maxRecDepth 100000 in
theorem zx0 (hi:i<n) (hnc:n≤c) (hroom:c<n+1) (hn:n≤1000000) (hvb:vb≠b) (hC:w.heap[b]? = some (.cells C 36 (0,0))) (hV:w.heap[vb]? = some (.cells V 36 (0,0)))
  (hCs:C.size=c * 32) (hxs:C.toList.take (n * 32)=xs) (hys:V.toList.take 32=ys) (hyl:ys.length=32) (h1x:∀ v∈xs,v.oneCell'=true) (h1y:∀ v∈ys,v.oneCell'=true) :
  Calls Tryz.prog 61 #[.slice (some ⟨b,0,none⟩) n c,.int .i64 i,.slice (some ⟨vb,0,none⟩) 1 vc] w fun e w' =>
   ∃ G,e=.returned (.slice (some ⟨w.heap.size,0,none⟩) (n+1) G)∧n+1≤G∧G≤maxLen∧∃ D,w'.heap[w.heap.size]? = some (.cells D 36 (0,0))∧w.grownBy w' none∧D.size=G * 32∧D.toList.take ((n+1) * 32)=xs.take (i * 32)++ys++xs.drop (i * 32):=by
 have hsz:=zu9
 have u22:Tryz.prog.underlying 22=some (.slice 36):=Tryz.underlying22
 have u3:Tryz.prog.underlying 3=some (.int .i64):=Tryz.underlying3
 have hcn:c=n:=by omega
 subst hcn
 have hcc:∀ j v,C.toList[j]? = some v→w.cell? ⟨b,j,none⟩=some v:=fun j v hj=>by
  rw [Array.getElem?_toList] at hj; unfold World.cell?; rw [hC]; exact hj
 have hxl:xs.length=c * 32:=by rw [← hxs,List.length_take,Array.length_toList]; omega
 have hxg:∀ j v,xs[j]? = some v→C.toList[j]? = some v:=fun j v hj=>by
  rw [← hxs,List.getElem?_take] at hj; split at hj
  ·
   exact hj
  ·
   cases hj
 have hyg:∀ j v,ys[j]? = some v→V.toList[j]? = some v:=fun j v hj=>by
  rw [← hys,List.getElem?_take] at hj; split at hj
  ·
   exact hj
  ·
   cases hj
 have hbw:b<w.heap.size:=(Array.getElem?_eq_some_iff.1 hC).1
 have hvw:vb<w.heap.size:=(Array.getElem?_eq_some_iff.1 hV).1
 have hkk:(c:Int)+1 - (i:Int)=((c+1 - i:Nat):Int):=by omega
 obtain ⟨i0,hi0,hz0,hzs,hzb⟩:=ztd
 have hold:(Builtin.firstCells i0.size i (.slice (some ⟨b,0,none⟩) i c)).run Tryz.prog w.drew=.ok (xs.take (i * 32)).toArray w.drew:=by
  rw [hzs]
  exact run_firstCells_some w.drew 32 i ⟨b,0,none⟩ i c (xs.take (i * 32)) (by rw [List.length_take]; omega) (fun j v hj=>by
   rw [Addr.add_lit,Nat.zero_add]
   rw [List.getElem?_take] at hj
   split at hj
   ·
    exact hcc j v (hxg j v hj)
   ·
    cases hj)
 obtain ⟨G,hG⟩:∃ G,G=grownCap w (c+1) c 36:=⟨_,rfl⟩
 obtain ⟨ROW,hROW⟩:∃ ROW:Array Value,ROW=(xs.take (i * 32)).toArray++Builtin.zeroCells (Array.replicate 32 (.int .u8 0)) (c+1 - i)++Builtin.zeroCells (Array.replicate 32 (.int .u8 0)) (G - (c+1)):=⟨_,rfl⟩
 have hrz:∀ ty,(Builtin.append_ #[22,3] ty #[.slice (some ⟨b,0,none⟩) i c,.int .i64 ((c:Int)+1 - (i:Int))]).run Tryz.prog w =
   .ok (.slice (some ⟨w.heap.size,0,none⟩) (c+1) G) (w.drew.alloc (.cells ROW 36)):=fun ty=>by
  have h:=Lib.run_append_grow_zeros w 22 3 ty 36 i0 _ .i64 .i64 u22 u3 hi0 hz0 (some ⟨b,0,none⟩) i c (xs.take (i * 32)) hold (c+1 - i) (by omega) (by omega) (by omega) (by omega) (by rw [hzb]; omega) (by rw [hzb, show i+(c+1 - i)=c+1 by omega]; exact growslice_fits (by omega) (by omega))
  rw [show i+(c+1 - i)=c+1 by omega] at h
  rw [hkk,hROW,hG]
  exact h
 have hGn:c+1≤G:=by rw [hG]; exact grownCap_ge w _ _ _
 have hGm:G≤maxLen:=by rw [hG]; exact grownCap_le_maxLen w (c+1) c 36 (by unfold maxLen; omega)
 have hG63:G≤9223372036854775807:=by unfold maxLen at hGm; omega
 have hRs:ROW.size=G * 32:=by
  rw [hROW]; simp only [Array.size_append,List.size_toArray,List.length_take,size_zeroCells,Array.size_replicate,hxl]; omega
 have hRt:ROW.toList.take (i * 32)=xs.take (i * 32):=by
  rw [hROW]; simp only [Array.toList_append,List.append_assoc]
  rw [List.take_append_of_le_length (by rw [List.length_take]; omega),List.take_take]; congr 1; omega
 obtain ⟨D1,hD1⟩:∃ D1,D1=(ROW.toList.take (i * 32)++ys++ROW.toList.drop (i * 32+ys.length)).toArray:=⟨_,rfl⟩
 have hD1s:D1.size=G * 32:=by
  rw [hD1]; simp only [List.size_toArray,List.length_append,List.length_take,List.length_drop,Array.length_toList,hyl]; omega
 obtain ⟨D2,hD2⟩:∃ D2,D2=(D1.toList.take ((i+1) * 32)++xs.drop (i * 32)++D1.toList.drop ((i+1) * 32+(xs.drop (i * 32)).length)).toArray:=⟨_,rfl⟩
 have hdl:(xs.drop (i * 32)).length=(c - i) * 32:=by rw [List.length_drop,hxl,Nat.sub_mul]
 have hD2s:D2.size=G * 32:=by
  rw [hD2]; simp only [List.size_toArray,List.length_append,List.length_take,List.length_drop,Array.length_toList,hxl]; omega
 have hfin:D2.toList.take ((c+1) * 32)=xs.take (i * 32)++ys++xs.drop (i * 32):=by
  have e1:(ROW.toList.take (i * 32)).length=i * 32:=by rw [List.length_take,Array.length_toList]; omega
  have e2:D1.toList.take ((i+1) * 32)=xs.take (i * 32)++ys:=by
   rw [hD1]; simp only [List.append_assoc]
   rw [List.take_append,e1,List.take_of_length_le (by rw [e1]; omega),List.take_append_of_le_length (by rw [hyl]; omega),List.take_of_length_le (l:=ys) (by rw [hyl]; omega),hRt]
  have e3:(D1.toList.take ((i+1) * 32)).length=(i+1) * 32:=by rw [List.length_take,Array.length_toList]; omega
  rw [hD2]; simp only [List.append_assoc]
  rw [List.take_append,e3,List.take_of_length_le (by rw [e3]; omega),List.take_append_of_le_length (by rw [hdl]; omega),List.take_of_length_le (l:=xs.drop (i * 32)) (by rw [hdl]; omega),e2,List.append_assoc]
 have hcpA:∀ (W:World),W.heap=w.heap.push (.cells ROW 36)→∀ ty dc,(Builtin.copy_ #[22,22] ty #[.slice (some ⟨w.heap.size,i * 32,none⟩) (c+1 - i) dc,.slice (some ⟨vb,0,none⟩) 1 vc]).run Tryz.prog W=.ok (goInt 1) (W.setRow w.heap.size D1):=fun W hW ty dc=>by
  have hm:Nat.min 1 (c+1 - i)=1:=by simp only [Nat.min_def]; split <;> omega
  have hN:W.heap[w.heap.size]? = some (.cells ROW 36 (0,0)):=by rw [hW,Array.getElem?_push_size]
  have hV1:W.heap[vb]? = some (.cells V 36 (0,0)):=by rw [hW,Array.getElem?_push_lt hvw]; rw [← hV,Array.getElem?_eq_getElem hvw]
  have e:=zvo (P:=Tryz.prog) W 22 22 ty 36 w.heap.size (i * 32) (c+1 - i) dc ⟨vb,0,none⟩ 1 vc ROW 36 ys u22 hsz hN (by rw [hm,hyl])
   (fun j v hj=>by
    rw [Addr.add_lit,Nat.zero_add]
    have:=hyg j v hj
    rw [Array.getElem?_toList] at this
    unfold World.cell?; rw [hV1]; exact this) (by rw [hyl,hRs]; omega) h1y
  rw [hm,← hD1] at e; exact e
 have hcpB:∀ (W W0:World),W0.heap=w.heap.push (.cells ROW 36)→W.heap=(W0.setRow w.heap.size D1).heap→∀ ty dc sc,(Builtin.copy_ #[22,22] ty #[.slice (some ⟨w.heap.size,(i+1) * 32,none⟩) (c - i) dc,.slice (some ⟨b,i * 32,none⟩) (c - i) sc]).run Tryz.prog W=.ok (goInt ((c - i:Nat):Int)) (W.setRow w.heap.size D2):=fun W W0 hW0 hW ty dc sc=>by
  have hm:Nat.min (c - i) (c - i)=c - i:=Nat.min_self _
  have hN:W.heap[w.heap.size]? = some (.cells D1 36 (0,0)):=by rw [hW]; exact setRow_heap W0 w.heap.size ROW D1 36 (0,0) (by rw [hW0,Array.getElem?_push_size])
  have hB1:W.heap[b]? = some (.cells C 36 (0,0)):=by
   rw [hW,setRow_other W0 w.heap.size b D1 (by omega),hW0,Array.getElem?_push_lt hbw,← hC,Array.getElem?_eq_getElem hbw]
  have e:=zvo (P:=Tryz.prog) W 22 22 ty 36 w.heap.size ((i+1) * 32) (c - i) dc ⟨b,i * 32,none⟩ (c - i) sc D1 36 (xs.drop (i * 32)) u22 hsz hN (by rw [hm,hdl])
   (fun j v hj=>by
    rw [Addr.add_lit]
    have:=hxg _ v (by rwa [List.getElem?_drop] at hj)
    rw [Array.getElem?_toList] at this
    unfold World.cell?; rw [hB1]; exact this) (by rw [hdl,hD1s]; omega) (fun v hv=>h1x v (List.mem_of_mem_drop hv))
  rw [hm,← hD2] at e; exact e
 have hz1:¬ ((1:Int)=0):=by decide
 have hz2:¬ ((i:Int)=(c:Int)):=by omega
 have hz3:(c:Int)<(c:Int)+1:=by omega
 have hw1:IntKind.i64.wrap ((i:Int)+1)=(i:Int)+1:=by rw [IntKind.wrap_i64]; omega
 have hb1:(0:Int)≤(i:Int)+1:=by omega
 have hin:i≤c:=by omega
 have htn:((i:Int)+1).toNat=i+1:=by omega
 have hGi:¬ (G=i):=by omega
 have hGim:¬ (G=i+1):=by omega
 have hci:¬ (c=i):=by omega
 have hb3:(i:Int)≤(c:Int):=by omega
 have hE1:((w.alloc (.cells ROW 36)).drew).heap=w.heap.push (.cells ROW 36):=rfl
 have hF1:(((w.alloc (.cells ROW 36)).drew.setRow w.heap.size D1).drew).heap=(((w.alloc (.cells ROW 36)).drew).setRow w.heap.size D1).heap:=rfl
 clear hROW hold hG hRt hD1 hD2 hxs hys hC hV h1x h1y hdl hxl hyl hcc hxg hyg hi0 hz0 hzs hzb hkk hnc hroom
 go_enter Tryz.func61,Tryz.ntmps61
 go_wp2_with (first
  | (at_builtin; refine Lib.wpList_append_run _ rfl _ _ _ _ rfl _ _ rfl rfl _ _ (hrz _) ?_)
  | (at_builtin; refine zhp _ rfl _ _ 22 22 rfl _ _ rfl rfl (hcpA _ hE1 _ _) ?_))
 go_region_law (refine zkn rfl _ _ 22 22 rfl (.slice (some ⟨w.heap.size,(i+1) * 32,none⟩) (c - i) (G - (i+1))) (.slice (some ⟨b,i * 32,none⟩) (c - i) (c - i)) (by simp [Act.eval,Act.put]) (by simp [Act.eval,Act.put]) (hcpB _ _ hE1 hF1 3 (G - (i+1)) (c - i)) ?_)
 go_wp2
 go_ret
 refine ⟨G,rfl,hGn,hGm,D2,?_,⟨rfl,rfl,rfl,?_, fun k hk _=>?_⟩,hD2s,hfin⟩
 ·
  exact setRow_heap _ w.heap.size D1 D2 36 (0,0) (setRow_heap ((w.alloc (.cells ROW 36)).drew) w.heap.size ROW D1 36 (0,0) (by rw [hE1,Array.getElem?_push_size]))
 ·
  rw [setRow_size]; show _≤((w.alloc (.cells ROW 36)).drew.setRow w.heap.size D1).heap.size; rw [setRow_size,hE1,Array.size_push]; omega
 ·
  rw [setRow_other _ w.heap.size k D2 (by omega)]; show ((w.alloc (.cells ROW 36)).drew.setRow w.heap.size D1).heap[k]? = _
  rw [setRow_other _ w.heap.size k D1 (by omega),hE1,Array.getElem?_push_lt hk,Array.getElem?_eq_getElem hk]
set_option maxHeartbeats 4000000 in
set_option maxRecDepth 100000 in
theorem zyp (p0 p1:Value) (h0:w.ownsRow 0 36 32 p0 n xs) (h1:w.ownsRow 0 36 32 p1 1 ys) (hn:n≤1000000) (h1y:∀ v∈ys,v.oneCell'=true) :
  Calls Tryz.prog 61 #[p0,.int .i64 n,p1] w fun e w'=>∃ v',e=.returned v'∧w'.ownsRow 0 36 32 v' (n+1) (xs++ys)∧w.grownBy w' p0.ownBlock∧∀ b,v'.ownBlock=some b→p0.ownBlock=some b∨w.heap.size≤b:=by
 have u22:Tryz.prog.underlying 22=some (.slice 36):=Tryz.underlying22
 obtain ⟨p,c,rfl⟩:=z3l h0
 obtain ⟨q,d,rfl⟩:=z3l h1
 obtain ⟨p',c',w',hrun,ho,hg,hs⟩:=zgb (P:=Tryz.prog) (rt:=22) (w:=w) u22 ztd (by simp [Value.cells]) (by decide) h0 (Rd.of_own h1) h1y (by omega) (by omega) (Nat.zero_le _)
 have hz1:¬ ((1:Int)=0):=by decide
 have hnc:n≤c:=by
  rcases h0.2 with ⟨e,rfl⟩ | ⟨g,cap,cur,e,_,_,h,_⟩
  ·
   omega
  ·
   simp only [Value.slice.injEq] at e; omega
 have hc63:c≤9223372036854775807:=by
  rcases h0.2 with ⟨e,rfl⟩ | ⟨g,cap,cur,e,_,_,_,h,_⟩
  ·
   simp only [Value.slice.injEq] at e; omega
  ·
   simp only [Value.slice.injEq] at e; unfold maxLen at h; omega
 have hin:n≤n:=Nat.le_refl _
 have hp0:p=none→n=0∧c=0:=fun e=>by
  rcases h0.2 with ⟨e',rfl⟩ | ⟨g,cap,cur,e',_⟩
  ·
   simp only [Value.slice.injEq] at e'; omega
  ·
   rw [e] at e'; simp at e'
 clear h0 h1 h1y
 go_enter Tryz.func61,Tryz.ntmps61
 cases p with
 | none =>
  obtain ⟨rfl,rfl⟩:=hp0 rfl
  clear hp0
  go_wp2_with (at_builtin; refine Lib.wpList_append_run _ rfl _ _ _ _ rfl _ _ rfl rfl _ _ hrun ?_)
  go_ret
  exact ⟨_,rfl,ho,hg,hs⟩
 | some a =>
  clear hp0
  obtain ⟨ab,ao,asp⟩:=a
  go_wp2_with (at_builtin; refine Lib.wpList_append_run _ rfl _ _ _ _ rfl _ _ rfl rfl _ _ hrun ?_)
  all_goals (go_ret; exact ⟨_,rfl,ho,hg,hs⟩)
end
end
section
open Go Go.RowKit
theorem relB {S S':Blk} {w w':World}:∀ {l:List UInt8} {cs:List Value},z59 u8R S w cs l→z59 u8R S' w' cs l
 | [],cs,h=>h
 | x::l,cs,h=>by
  obtain ⟨c,d,rfl,h1,h2⟩:=h
  exact ⟨c,d,rfl,h1,relB h2⟩
theorem relD {S S':Blk} {w w':World}:∀ {l:List V3} {cs:List Value},z59 (z2y 32 u8R) S w cs l→z59 (z2y 32 u8R) S' w' cs l
 | [],cs,h=>h
 | x::l,cs,h=>by
  obtain ⟨c,d,rfl,h1,h2⟩:=h
  exact ⟨c,d,rfl,relB h1,relD h2⟩
def insF (c0:List V3) (i:Int) (c1:List V3):Option (List V3) :=
 chk (0≤i∧i.toNat≤c0.length∧c0.length≤1000000∧c1.length=1) >>= fun _=>some (c0.take i.toNat++c1++c0.drop i.toNat)
theorem z10m (p0 p1:Value) (n i:Nat) (xs ys:List Value) (w:World) (hi:i≤n) (h0:w.ownsRow 0 36 32 p0 n xs) (h1:w.ownsRow 0 36 32 p1 1 ys) (hsep:∀ b,p0.ownBlock=some b→p1.ownBlock≠some b) (hn:n≤1000000)
  (h1x:∀ v∈xs,v.oneCell'=true) (h1y:∀ v∈ys,v.oneCell'=true) :
  Calls Tryz.prog 61 #[p0,.int .i64 i,p1] w fun e w'=>∃ v',e=.returned v'∧w'.ownsRow 0 36 32 v' (n+1) (xs.take (i * 32)++ys++xs.drop (i * 32))∧w.grownBy w' p0.ownBlock∧∀ b,v'.ownBlock=some b→p0.ownBlock=some b∨w.heap.size≤b:=by
 have hxl:=h0.1
 by_cases hin:i=n
 ·
  subst hin
  refine (zyp i xs ys w p0 p1 h0 h1 hn h1y).mono fun e w' ⟨v',a,b,c,d⟩=>⟨v',a,?_,c,d⟩
  rw [List.take_of_length_le (by omega),List.drop_eq_nil_of_le (by omega),List.append_nil]
  exact b
 ·
  rcases h0.2 with ⟨rfl,rfl⟩ | ⟨b,c,C,rfl,-,hC,hnc,hcm,hCs,hxs⟩
  ·
   omega
  rcases h1.2 with ⟨rfl,e⟩ | ⟨vb,vc,V,rfl,-,hV,-,-,hVs,hys⟩
  ·
   omega
  have hvb:vb≠b:=fun e=>hsep b rfl (by rw [e]; rfl)
  have hyl:ys.length=32:=by have:=h1.1; omega
  have hlen:(xs.take (i * 32)++ys++xs.drop (i * 32)).length=(n+1) * 32:=by
   simp only [List.length_append,List.length_take,List.length_drop,hyl]; omega
  by_cases hroom:n+1≤c
  ·
   refine (ztk b n c i vb vc xs ys C V w (by omega) hroom (by unfold maxLen at hcm; omega) hvb hC hV hCs hxs (by simpa using hys) hyl h1x h1y).mono fun e w' ⟨a,D,a2,a3,a4⟩=>⟨_,a,?_,?_, fun b' hb'=>.inl hb'⟩
   ·
    refine ⟨hlen,.inr ⟨b,c,D,rfl,Nat.zero_le _,?_,hroom,hcm,a3.trans hCs,a4⟩⟩
    rw [a2]; exact setRow_heap w.drew b C D 36 (0,0) hC
   ·
    rw [a2]
    refine ⟨rfl,rfl,rfl,?_, fun k hk hne=>?_⟩
    ·
     rw [setRow_size]; exact Nat.le_refl _
    ·
     rw [setRow_other w.drew b k D (fun e=>hne (by rw [e]; rfl))]; rfl
  ·
   refine (zx0 b n c i vb vc xs ys C V w (by omega) hnc (by omega) hn hvb hC hV hCs hxs (by simpa using hys) hyl h1x h1y).mono fun e w' ⟨G,a,g1,g2,D,a1,a2,a3,a4⟩=>⟨_,a,?_,?_, fun b' hb'=>.inr ?_⟩
   ·
    exact ⟨hlen,.inr ⟨w.heap.size,G,D,rfl,Nat.zero_le _,a1,g1,g2,a3,a4⟩⟩
   ·
    exact ⟨a2.os,a2.tape,a2.output,a2.size, fun k hk _=>a2.block k hk (by simp)⟩
   ·
    simp only [Value.ownBlock,Option.some.injEq] at hb'; omega
theorem z10c (p0 p1:Value) (c0 c1:List V3) (i:Int):z1u Tryz.prog 61 [.val p0,.rd z07 i,.val p1] [(1,some (p0,.list (z2y 32 u8R) 36 c0)),(2,some (p1,.list (z2y 32 u8R) 36 c1))] (insF c0 i c1)
  (fun r nv=>⟨[.val (nv 0)],[(100,some (nv 0,.list (z2y 32 u8R) 36 r))]⟩):=by
 intro r hr H vs w hvs hres
 have hb:(0≤i∧i.toNat≤c0.length∧c0.length≤1000000∧c1.length=1)∧r=c0.take i.toNat++c1++c0.drop i.toNat:=by
  unfold insF chk at hr
  split at hr
  ·
   rename_i h; simp at hr; exact ⟨h, by rw [← hr,List.append_assoc]⟩
  ·
   simp at hr
 obtain ⟨⟨hi0,hi1,hn,hc1⟩,rfl⟩:=hb
 match vs,hvs with
 | [v0,v1,v2],hvs =>
 obtain ⟨h0,h1,h2,_⟩:=hvs
 have e0:v0=p0:=h0.1
 have e2:v2=p1:=h2.1
 have e1:v1=.int .i64 i:=z3u h1
 subst e0; subst e2; subst e1
 obtain ⟨j,rfl⟩:∃ j:Nat,i=(j:Int):=⟨i.toNat, by omega⟩
 simp only [Int.toNat_natCast] at hi1 ⊢
 obtain ⟨xs,x1,x2⟩:=z7j (hres.conts 1 v0 _ rfl)
 obtain ⟨ys,y1,y2⟩:=z7j (hres.conts 2 v2 _ rfl)
 rw [hc1] at y1
 have hsep:∀ b,v0.ownBlock=some b→v2.ownBlock≠some b:=fun b hb hb2=>by
  obtain ⟨p,c,rfl⟩:=z3l x1
  obtain ⟨q,d,rfl⟩:=z3l y1
  exact hres.excl 1 _ _ 2 _ _ rfl rfl (by decide) b (by rw [z7o]; exact hb) (by rw [z7o]; exact hb2)
 refine (z10m v0 v2 c0.length j xs ys w hi1 x1 y1 hsep hn x2.one y2.one).mono fun e w' ⟨v',he,hw,hg,hs⟩=>?_
 have only:∀ r v c (q:z4k),lr [(100,some (v',q))] r=some (v,c)→r=100∧v=v'∧c=q:=fun r v c q h=>by
  rw [z1f] at h
  split at h
  ·
   rename_i e; cases h; exact ⟨e.symm,rfl,rfl⟩
  ·
   simp [lr,lk] at h
 have hlen:(c0.take j++c1++c0.drop j).length=c0.length+1:=by
  simp only [List.length_append,List.length_take,List.length_drop,hc1]; omega
 obtain ⟨p',c',rfl⟩:=z3l hw
 refine ⟨fun _=>.slice p' (c0.length+1) c',[.slice p' (c0.length+1) c'],he,⟨⟨rfl,rfl⟩,trivial⟩, fun r v c h=>?_, fun r v c r' v2' c2' h h' hne=>?_, fun r v c h b hb=>?_,hg.os,hg.tape,hg.output,hg.size, fun k hk=>?_⟩
 ·
  obtain ⟨rfl,rfl,rfl⟩:=only _ _ _ _ h
  refine zin (B:=0) (xs:=xs.take (j * 32)++ys++xs.drop (j * 32)) (by rw [hlen]; exact hw) ?_
  exact ((relD (x2.take j)).append (relD y2)).append (relD (x2.drop j))
 ·
  exact absurd ((only _ _ _ _ h).1.trans (only _ _ _ _ h').1.symm) hne
 ·
  obtain ⟨rfl,rfl,rfl⟩:=only _ _ _ _ h
  rw [z7o] at hb
  rcases hs b hb with h | h
  ·
   exact .inr ⟨1,_,_,rfl, by obtain ⟨p,c,rfl⟩:=z3l x1; rw [z7o]; exact h⟩
  ·
   exact .inl h
 ·
  refine hg.block k hk.1 fun e=>hk.2 ⟨1,_,_,rfl,?_⟩
  obtain ⟨p,c,rfl⟩:=z3l x1; rw [z7o]; exact e.symm
end
section
open Go Go.RowKit
set_option maxRecDepth 100000
def z9z (a0:z00):Option (Bool) :=
 z8v a0 >>= fun r2 =>
 if !r2 then
  z73 a0 >>= fun r5 =>
  some (r5==0)
 else
  some false
theorem zhg (a0:z00):z1u Tryz.prog 8 [.rd z01 a0] [] (z9z a0) (fun r nv=>⟨[.rd z0f r],[]⟩):=by
 refine z2m 11 Tryz.func8 Z Z Z fun H w=>?_
 refine gSR<|Eb Z (bx 1 Z) fun v1=>Zb Z<|gSR<|Zq (ld 1 Z Z fH zal Z)<|Zc [] [] Tryz.func29 Z (zfq _) fun r2 n3=>Zq (zd9 Z)<|Zm Z<|z2n 6 Z (fun h4=>?_) (fun h4=>?_)
 ·
  refine lKn 5 Z h4<|z1y Zx Z Z (ld 1 Z Z fH zal Z)<|zew [] [] Zx Z Tryz.func24 Z Z (zg3 _) (Y1 Z) rN fun r5 n6=>z1y Zx Z Z (I.eql Z Z)<|Zq (pkT Z Z)<|Zb Z<|z0m<|Ze [] [] Z
 ·
  refine lKn 5 Z h4<|Zk Z<|Zk Z<|Zk Z<|Zq (pkF Z Z)<|Zb Z<|z0m<|Ze [] [] Z
def zcf (a0:UInt32):Option (Int) :=
 if decide (500000002≤(a0 - 1)) then
  some 2
 else
  some 0
theorem zge (a0:UInt32):z1u Tryz.prog 100 [.rd z0i a0] [] (zcf a0) (fun r nv=>⟨[.rd z07 r],[]⟩):=by
 refine z2m 6 Tryz.func100 Z Z Z fun H w=>?_
 refine gSR<|Zb Z<|z0w<|gSR<|Zm Z<|Zq (W.sub Z Z)<|Zq (W.geq Z Z)<|Zj Z (fun h1=>?_) (fun h1=>?_)
 ·
  refine gSR<|Zb Z<|z0m<|z10<|Ze [] [] Z
 ·
  refine Zt<|gSR<|Zb Z<|z0m<|Ze [] [] Z
def zau (a0:UInt32):Option (UInt32 × Int) :=
 zcf a0 >>= fun r1 =>
 if r1 != 0 then
  some (0,r1)
 else
  z9t a0.toUInt64 >>= fun r4 =>
  some (r4,0)
theorem zfd (a0:UInt32):z1u Tryz.prog 70 [.rd z0i a0] [] (zau a0) (fun r nv=>⟨[.rd z0i r.1,.rd z07 r.2],[]⟩):=by
 refine z2m 13 Tryz.func70 Z Z Z fun H w=>?_
 refine gSR<|Za Z<|Zb Z<|z0w<|gSR<|Zm Z<|Zc [] [] Tryz.func100 Z (zge _) fun r1 n2=>Zb Z<|gSR<|Zm Z<|Zq (I.neq Z Z)<|Zj Z (fun h3=>?_) (fun h3=>?_)
 ·
  refine gSR<|Zm Z<|Za Z<|Zb Z<|z0m<|z10<|Ze [] [] Z
 ·
  refine Zt<|gSR<|Zm Z<|Zq (W.toU Z tu37 tu38)<|Zc [] [] Tryz.func85 Z (zcy _) fun r4 n5=>Za Z<|Zb Z<|z0m<|Ze [] [] Z
def zej (a0:UInt32) (a1:List UInt8):Option (UInt32 × Int) :=
 zcf a0 >>= fun r1 =>
 if r1 != 0 then
  some (0,r1)
 else
  zaz 110 a1 [a0] >>= fun r5 =>
  if r5.2 != 0 then
   some (0,r5.2)
  else
   some (((r5.1 % 500000002).toUInt32)+1) >>= fun y8 =>
   some (y8,0)
theorem zlq (a0:UInt32) (a1:List UInt8):z1u Tryz.prog 101 [.rd z0i a0,.rd (z02 u8R) a1] [zG1] (zej a0 a1) (fun r nv=>⟨[.rd z0i r.1,.rd z07 r.2],[(1001,some (.bool true,.glob 1 (z2y 64 z0i) z4q))]⟩):=by
 refine z2m 28 Tryz.func101 Z Z Z fun H w=>?_
 refine gSR<|Za Z<|Zb Z<|z0w<|gSR<|Zm Z<|Zc [] [] Tryz.func100 Z (zge _) fun r1 n2=>Zb Z<|gSR<|Zm Z<|Zq (I.neq Z Z)<|Zj Z (fun h3=>?_) (fun h3=>?_)
 ·
  refine gSR<|Zm Z<|Za Z<|Zb Z<|z0m<|z10<|Ze [] [1001] Z
 ·
  refine Zt<|gSR<|Zm Z<|Zm Z<|Ef Z (lit (R:=z0i) ([a0]:List UInt32) 1 (pP Z Z<|pN) Z tu182 z4z Z Z) fun v4=>zhq 1 [17] Z (fS Z<|fN)<|Zc [1001] [] Tryz.func123 Z (zhm _ _ _) fun r5 n6=>Zm Z<|Zq (ext Z Z)<|Zq (ext Z Z)<|Za Z<|Zb Z<|z0w<|gSR<|Zm Z<|Zq (I.neq Z Z)<|Zj Z (fun h7=>?_) (fun h7=>?_)
  ·
   refine gSR<|Zm Z<|Za Z<|Zb Z<|z0m<|z10<|Ze [] [1001] Z
  ·
   refine Zt<|gSR<|Zm Z<|Zq (U.rem Z Z (by decide))<|Zq (U.toW Z tu38 tu37)<|Zq (W.add Z Z)<|Za Z<|z1z 4 Z fun y8=>Zb Z<|z0m<|Ze [] [1001] Z
def zco (a0:UInt32) (a1:UInt32):Option (UInt32 × Int) :=
 if decide (500000003≤(max a0 a1)) then
  some (0,2)
 else
  z9k 500000003 [a0,a1] >>= fun r3 =>
  some (r3,0)
theorem zkd (a0:UInt32) (a1:UInt32):z1u Tryz.prog 102 [.rd z0i a0,.rd z0i a1] [] (zco a0 a1) (fun r nv=>⟨[.rd z0i r.1,.rd z07 r.2],[]⟩):=by
 refine z2m 14 Tryz.func102 Z Z Z fun H w=>?_
 refine gSR<|Za Z<|Zb Z<|z0w<|gSR<|Zm Z<|Zm Z<|Zq (W.max Z Z)<|Zq (W.geq Z Z)<|Zj Z (fun h1=>?_) (fun h1=>?_)
 ·
  refine gSR<|Za Z<|Zb Z<|z0m<|z10<|Ze [] [] Z
 ·
  refine Zt<|gSR<|Zm Z<|Zm Z<|Ef Z (lit (R:=z0i) ([a0,a1]:List UInt32) 1 (pP Z Z<|pP Z Z<|pN) Z tu182 z4z Z Z) fun v2=>zhq 1 [12] Z (fS Z<|fN)<|Zc [] [] Tryz.func122 Z (zbl _ _) fun r3 n4=>Za Z<|Zb Z<|z0m<|Ze [] [] Z
def zef (a0:UInt32) (a1:UInt32):Option (UInt32 × Int) :=
 if decide (500000003≤(max a0 a1)) then
  some (0,2)
 else
  some ((a0+a1) % 500000003) >>= fun y2 =>
  some (y2,0)
theorem zlt (a0:UInt32) (a1:UInt32):z1u Tryz.prog 103 [.rd z0i a0,.rd z0i a1] [] (zef a0 a1) (fun r nv=>⟨[.rd z0i r.1,.rd z07 r.2],[]⟩):=by
 refine z2m 14 Tryz.func103 Z Z Z fun H w=>?_
 refine gSR<|Za Z<|Zb Z<|z0w<|gSR<|Zm Z<|Zm Z<|Zq (W.max Z Z)<|Zq (W.geq Z Z)<|Zj Z (fun h1=>?_) (fun h1=>?_)
 ·
  refine gSR<|Za Z<|Zb Z<|z0m<|z10<|Ze [] [] Z
 ·
  refine Zt<|gSR<|Zm Z<|Zm Z<|Zq (W.add Z Z)<|Zq (W.rem Z Z (by decide))<|Za Z<|z1z 4 Z fun y2=>Zb Z<|z0m<|Ze [] [] Z
def zgs (a0:UInt32) (a1:List UInt8):Option (z09 × Int) :=
 zej a0 a1 >>= fun r2 =>
 if r2.2 != 0 then
  some ((⟨0,0⟩:z09),r2.2)
 else
  zau a0 >>= fun r5 =>
  z9t r2.1.toUInt64 >>= fun r7 =>
  z8j r7 r5.1 a1 >>= fun r9 =>
  zco r9.1 a0 >>= fun r11 =>
  zef r2.1 r11.1 >>= fun r13 =>
  some ((⟨r9.1,r13.1⟩:z09),0)
theorem zn8 (a0:UInt32) (a1:List UInt8):z1u Tryz.prog 71 [.rd z0i a0,.rd (z02 u8R) a1] [zG1] (zgs a0 a1) (fun r nv=>⟨[.rd z0l r.1,.rd z07 r.2],[(1001,some (.bool true,.glob 1 (z2y 64 z0i) z4q))]⟩):=by
 refine z2m 55 Tryz.func71 Z Z Z fun H w=>?_
 refine gSR<|Eb Z (z7q 1 zjy (.zr (R:=z0l) (x:=(⟨0,0⟩:z09)) zl1)) fun v1=>Zb Z<|gSR<|Zm Z<|Zm Z<|Zc [1001] [] Tryz.func101 Z (zlq _ _) fun r2 n3=>Zm Z<|Zq (ext Z Z)<|Zq (ext Z Z)<|Za Z<|Zb Z<|z0w<|gSR<|Zm Z<|Zq (I.neq Z Z)<|Zj Z (fun h4=>?_) (fun h4=>?_)
 ·
  refine gSR<|Zq (bld (x':=(⟨0,0⟩:z09)) [(0,1),(1,1)] Tryz.underlying44 zjy Z zl1 Z (Bld.done Z))<|Zm Z<|Es (sto 1 Z Z fH Z zjy)<|Zb Z<|z0m<|z10<|zbf [] [1001] Z (eC 1 Z Z ty44<|eE Z<|eN) (y1 Z)
 ·
  refine Zt<|gSR<|Zm Z<|Zc [] [] Tryz.func70 Z (zfd _) fun r5 n6=>Zm Z<|Zq (ext Z Z)<|Zq (ext Z Z)<|Za Z<|Zb Z<|gSR<|Zm Z<|Zq (W.toU Z tu37 tu38)<|Zc [] [] Tryz.func85 Z (zcy _) fun r7 n8=>Zm Z<|Zm Z<|Zc [1001] [] Tryz.func86 Z (zc7 _ _ _) fun r9 n10=>Zm Z<|Zq (ext Z Z)<|Zq (ext Z Z)<|Za Z<|Zb Z<|gSR<|Zm Z<|Zm Z<|Zc [] [] Tryz.func102 Z (zkd _ _) fun r11 n12=>Zm Z<|Zq (ext Z Z)<|Zq (ext Z Z)<|Za Z<|Zb Z<|gSR<|Zm Z<|Zm Z<|Zc [] [] Tryz.func103 Z (zlt _ _) fun r13 n14=>Zm Z<|Zq (ext Z Z)<|Zq (ext Z Z)<|Za Z<|Zb Z<|gSR<|Zm Z<|Zm Z<|Zq (bld (x':=(⟨r9.1,r13.1⟩:z09)) [(0,1),(1,1)] Tryz.underlying44 zjy Z zl1 Z (Bld.cons (z3w _) Z Z<|Bld.cons (z5c _) Z Z<|Bld.done Z))<|Es (sto 1 Z Z fH Z zjy)<|Zb Z<|z0m<|zbf [] [1001] Z (eC 1 Z Z ty44<|eE Z<|eN) (y1 Z)
def zcl (a0:UInt32) (a1:z06):Option (z06 × Int) :=
 zau a0 >>= fun r3 =>
 if r3.2 != 0 then
  some ((⟨0,[],0,(⟨0,[],(⟨0,0,0,[]⟩:z04)⟩:z0k),(⟨0,0⟩:z09)⟩:z06),r3.2)
 else
  z0t a1.Preds >>= fun r6 =>
  z9x (⟨({ a1 with Author:=r3.1 }).Author,r6,({ a1 with Author:=r3.1 }).Stamp,({ a1 with Author:=r3.1 }).Act,({ a1 with Author:=r3.1 }).Sig⟩:z06) >>= fun r8 =>
  if r8.2 != 0 then
   some ((⟨0,[],0,(⟨0,[],(⟨0,0,0,[]⟩:z04)⟩:z0k),(⟨0,0⟩:z09)⟩:z06),r8.2)
  else
   zgs a0 r8.1 >>= fun r11 =>
   some ({ (⟨({ a1 with Author:=r3.1 }).Author,r6,({ a1 with Author:=r3.1 }).Stamp,({ a1 with Author:=r3.1 }).Act,({ a1 with Author:=r3.1 }).Sig⟩:z06) with Sig:=r11.1 },0)
theorem zri (a0:UInt32) (a1:z06):z1u Tryz.prog 47 [.rd z0i a0,.rd z03 a1] [zG1] (zcl a0 a1) (fun r nv=>⟨[.rd z03 r.1,.rd z07 r.2],[(1001,some (.bool true,.glob 1 (z2y 64 z0i) z4q))]⟩):=by
 refine z2m 41 Tryz.func47 Z Z Z fun H w=>?_
 refine gSR<|Eb Z (bx 1 Z) fun v1=>Eb Z (z7q 2 z88 (ZrE.rd (R:=z0i) (x:=0) (Zr.num Z) (ZrE.nilS (ZrE.rd (R:=z2e) (x:=0) (Zr.num Z) (ZrE.rd (R:=z0g) (x:=(⟨0,[],(⟨0,0,0,[]⟩:z04)⟩:z0k)) zn0 (ZrE.rd (R:=z0l) (x:=(⟨0,0⟩:z09)) zl1 ZrE.nil Z) Z) Z)) Z)) fun v2=>Zb Z<|gSR<|Zm Z<|Zc [] [] Tryz.func70 Z (zfd _) fun r3 n4=>Zm Z<|Zq (ext Z Z)<|Zq (ext Z Z)<|Za Z<|Zb Z<|z0w<|gSR<|Zm Z<|Zq (I.neq Z Z)<|Zj Z (fun h5=>?_) (fun h5=>?_)
 ·
  refine gSR<|Zq (zve [(0,1),(1,1),(2,1),(3,6),(9,2)] Tryz.underlying46 z88 (ZrE.rd (R:=z0i) (x:=0) (Zr.num Z) (ZrE.nilS (ZrE.rd (R:=z2e) (x:=0) (Zr.num Z) (ZrE.rd (R:=z0g) (x:=(⟨0,[],(⟨0,0,0,[]⟩:z04)⟩:z0k)) zn0 (ZrE.rd (R:=z0l) (x:=(⟨0,0⟩:z09)) zl1 ZrE.nil Z) Z) Z)) Z) Z (zjt.done Z))<|Zm Z<|Es (zvd 2 Z Z (z0o.cast (z0o.cons z27 (z0o.cons z0a (z0o.cons z27 (z0o.cons z27 (z0o.cons z27 z0o.nil))))) Z) Z (z5u.cons zby (z5u.cons z1v (z5u.cons zby (z5u.cons zby (z5u.cons zby z5u.nil))))) (z0o.cast (z0o.cons z27 (z0o.cons z0a (z0o.cons z27 (z0o.cons z27 (z0o.cons z27 z0o.nil))))) Z) z88)<|Zb Z<|z0m<|z10<|zp4 aZ [.rd z0i 0,.rd (z02 aZ) [],.rd z2e 0,.rd z0g (⟨0,[],(⟨0,0,0,[]⟩:z04)⟩:z0k),.rd z0l (⟨0,0⟩:z09)] 2 [.rd z0i 0] [.rd z2e 0,.rd z0g (⟨0,[],(⟨0,0,0,[]⟩:z04)⟩:z0k),.rd z0l (⟨0,0⟩:z09)] Z Z Z<|zwd (R:=z03) (⟨0,[],0,(⟨0,[],(⟨0,0,0,[]⟩:z04)⟩:z0k),(⟨0,0⟩:z09)⟩:z06) 2 Z (Sp.via (Sp.prod (Sp.prod (Sp.prod (Sp.prod (Sp.prod Sp.unit))))))<|zbf [] [1001] Z (eC 2 Z Z z9q<|eE Z<|eN) (y1 Z)
 ·
  refine Zt<|gSR<|Zm Z<|Zq (faB 1 Z Z Tryz.underlying46 Z (by exact z8p))<|Zq (ld 1 Z Z (fP (z0x _)) z9o Z)<|Zc [] [(100,3)] Tryz.func41 Z (z1n _) fun r6 n7=>Zq (faB 1 Z Z Tryz.underlying46 Z (by exact z4z))<|Es (sto 1 Z Z (fP (z41 _)) Z z4z)<|Zq (faB 1 Z Z Tryz.underlying46 Z (by exact z8p))<|lSpl (R:=z03) 1 Z (Sp.via (Sp.prod (Sp.prod (Sp.prod (Sp.prod (Sp.prod Sp.unit))))))<|Es (zo8 1 Z Z (zai.cast (zai.next z27 (zai.here z27)) Z) Z z1v z0a z8p)<|Zn<|gSR<|zyh [.rd z0i (({ a1 with Author:=r3.1 }).Author),.rd (z02 aZ) r6,.rd z2e (({ a1 with Author:=r3.1 }).Stamp),.rd z0g (({ a1 with Author:=r3.1 }).Act),.rd z0l (({ a1 with Author:=r3.1 }).Sig)] 1 3 [.rd z0i (({ a1 with Author:=r3.1 }).Author)] [.rd z2e (({ a1 with Author:=r3.1 }).Stamp),.rd z0g (({ a1 with Author:=r3.1 }).Act),.rd z0l (({ a1 with Author:=r3.1 }).Sig)] Z Z Z Z Z<|zgu (R:=z03) (⟨({ a1 with Author:=r3.1 }).Author,r6,({ a1 with Author:=r3.1 }).Stamp,({ a1 with Author:=r3.1 }).Act,({ a1 with Author:=r3.1 }).Sig⟩:z06) 1 Z (Sp.via (Sp.prod (Sp.prod (Sp.prod (Sp.prod (Sp.prod Sp.unit))))))<|Zq (ld 1 Z Z fH z9q Z)<|Zc [] [(100,4)] Tryz.func56 Z (zcs _) fun r8 n9=>Zm Z<|Zq (ext Z Z)<|Zq (ext Z Z)<|Za Z<|Zb Z<|z0w<|gSR<|Zm Z<|Zq (I.neq Z Z)<|Zj Z (fun h10=>?_) (fun h10=>?_)
  ·
   refine gSR<|Zq (zve [(0,1),(1,1),(2,1),(3,6),(9,2)] Tryz.underlying46 z88 (ZrE.rd (R:=z0i) (x:=0) (Zr.num Z) (ZrE.nilS (ZrE.rd (R:=z2e) (x:=0) (Zr.num Z) (ZrE.rd (R:=z0g) (x:=(⟨0,[],(⟨0,0,0,[]⟩:z04)⟩:z0k)) zn0 (ZrE.rd (R:=z0l) (x:=(⟨0,0⟩:z09)) zl1 ZrE.nil Z) Z) Z)) Z) Z (zjt.done Z))<|Zm Z<|Es (zvd 2 Z Z (z0o.cast (z0o.cons z27 (z0o.cons z0a (z0o.cons z27 (z0o.cons z27 (z0o.cons z27 z0o.nil))))) Z) Z (z5u.cons zby (z5u.cons z1v (z5u.cons zby (z5u.cons zby (z5u.cons zby z5u.nil))))) (z0o.cast (z0o.cons z27 (z0o.cons z0a (z0o.cons z27 (z0o.cons z27 (z0o.cons z27 z0o.nil))))) Z) z88)<|Zb Z<|z0m<|z10<|zp4 aZ [.rd z0i 0,.rd (z02 aZ) [],.rd z2e 0,.rd z0g (⟨0,[],(⟨0,0,0,[]⟩:z04)⟩:z0k),.rd z0l (⟨0,0⟩:z09)] 2 [.rd z0i 0] [.rd z2e 0,.rd z0g (⟨0,[],(⟨0,0,0,[]⟩:z04)⟩:z0k),.rd z0l (⟨0,0⟩:z09)] Z Z Z<|zwd (R:=z03) (⟨0,[],0,(⟨0,[],(⟨0,0,0,[]⟩:z04)⟩:z0k),(⟨0,0⟩:z09)⟩:z06) 2 Z (Sp.via (Sp.prod (Sp.prod (Sp.prod (Sp.prod (Sp.prod Sp.unit))))))<|zbf [] [1001] Z (eC 2 Z Z z9q<|eE Z<|eN) (y1 Z)
  ·
   refine Zt<|gSR<|Zm Z<|Zm Z<|zhq 4 [27,8,35] Z (fS Z<|fS Z<|fS Z<|fN)<|Zc [1001] [] Tryz.func71 Z (zn8 _ _) fun r11 n12=>Zm Z<|Zq (ext Z Z)<|Zq (ext Z Z)<|Zq (faB 1 Z Z Tryz.underlying46 Z (by exact zjy))<|Es (sto 1 Z Z (fP (z35 _)) Z zjy)<|Zn<|gSR<|Zq (ld 1 Z Z fH z9q Z)<|zhh aZ [.rd z0i 0,.rd (z02 aZ) [],.rd z2e 0,.rd z0g (⟨0,[],(⟨0,0,0,[]⟩:z04)⟩:z0k),.rd z0l (⟨0,0⟩:z09)] 2 [.rd z0i 0] [.rd z2e 0,.rd z0g (⟨0,[],(⟨0,0,0,[]⟩:z04)⟩:z0k),.rd z0l (⟨0,0⟩:z09)] Z Z Z<|zgu (R:=z03) (⟨0,[],0,(⟨0,[],(⟨0,0,0,[]⟩:z04)⟩:z0k),(⟨0,0⟩:z09)⟩:z06) 2 Z (Sp.via (Sp.prod (Sp.prod (Sp.prod (Sp.prod (Sp.prod Sp.unit))))))<|Es (sto 2 Z Z fH Z z88)<|Zb Z<|z0m<|zbf [] [1001] Z (eC 2 Z Z z9q<|eE Z<|eN) (y1 Z)
def z1i (a0:UInt32) (a1:List V3):Option (z06) :=
 zcl a0 (⟨0,a1,0,(⟨1,[],(⟨0,0,0,[]⟩:z04)⟩:z0k),(⟨0,0⟩:z09)⟩:z06) >>= fun r2 =>
 some r2.1
theorem z60 (a0:UInt32) (a1:List V3):z1u Tryz.prog 26 [.rd z0i a0,.rd (z02 aZ) a1] [zG1] (z1i a0 a1) (fun r nv=>⟨[.rd z03 r],[(1001,some (.bool true,.glob 1 (z2y 64 z0i) z4q))]⟩):=by
 refine z2m 16 Tryz.func26 Z Z Z fun H w=>?_
 refine gSR<|Eb Z (z7q 1 z88 (ZrE.rd (R:=z0i) (x:=0) (Zr.num Z) (ZrE.nilS (ZrE.rd (R:=z2e) (x:=0) (Zr.num Z) (ZrE.rd (R:=z0g) (x:=(⟨0,[],(⟨0,0,0,[]⟩:z04)⟩:z0k)) zn0 (ZrE.rd (R:=z0l) (x:=(⟨0,0⟩:z09)) zl1 ZrE.nil Z) Z) Z)) Z)) fun v1=>Zn<|gSR<|Zm Z<|Zm Z<|Zq (bld (x':=(⟨1,[],(⟨0,0,0,[]⟩:z04)⟩:z0k)) [(0,1),(1,1),(2,4)] Tryz.underlying42 zn5 Z zn0 Z (Bld.cons (z34 _) Z Z<|Bld.done Z))<|Zq (bld (x':=(⟨0,a1,0,(⟨1,[],(⟨0,0,0,[]⟩:z04)⟩:z0k),(⟨0,0⟩:z09)⟩:z06)) [(0,1),(1,1),(2,1),(3,6),(9,2)] Tryz.underlying46 z88 Z zr46 Z (Bld.cons (z0x _) Z Z<|Bld.cons (z2d _) Z Z<|Bld.done Z))<|Zc [1001] [] Tryz.func47 Z (zri _ _) fun r2 n3=>Zm Z<|Zq (ext Z Z)<|Zq (ext Z Z)<|Eb Z (z7q 2 z88 (ZrE.rd (R:=z0i) (x:=0) (Zr.num Z) (ZrE.nilS (ZrE.rd (R:=z2e) (x:=0) (Zr.num Z) (ZrE.rd (R:=z0g) (x:=(⟨0,[],(⟨0,0,0,[]⟩:z04)⟩:z0k)) zn0 (ZrE.rd (R:=z0l) (x:=(⟨0,0⟩:z09)) zl1 ZrE.nil Z) Z) Z)) Z)) fun v4=>zhh aZ [.rd z0i 0,.rd (z02 aZ) [],.rd z2e 0,.rd z0g (⟨0,[],(⟨0,0,0,[]⟩:z04)⟩:z0k),.rd z0l (⟨0,0⟩:z09)] 2 [.rd z0i 0] [.rd z2e 0,.rd z0g (⟨0,[],(⟨0,0,0,[]⟩:z04)⟩:z0k),.rd z0l (⟨0,0⟩:z09)] Z Z Z<|zgu (R:=z03) (⟨0,[],0,(⟨0,[],(⟨0,0,0,[]⟩:z04)⟩:z0k),(⟨0,0⟩:z09)⟩:z06) 2 Z (Sp.via (Sp.prod (Sp.prod (Sp.prod (Sp.prod (Sp.prod Sp.unit))))))<|Es (sto 2 Z Z fH Z z88)<|Zb Z<|gSR<|Zq (ld 2 Z Z fH z9q Z)<|zhh aZ [.rd z0i 0,.rd (z02 aZ) [],.rd z2e 0,.rd z0g (⟨0,[],(⟨0,0,0,[]⟩:z04)⟩:z0k),.rd z0l (⟨0,0⟩:z09)] 1 [.rd z0i 0] [.rd z2e 0,.rd z0g (⟨0,[],(⟨0,0,0,[]⟩:z04)⟩:z0k),.rd z0l (⟨0,0⟩:z09)] Z Z Z<|zgu (R:=z03) (⟨0,[],0,(⟨0,[],(⟨0,0,0,[]⟩:z04)⟩:z0k),(⟨0,0⟩:z09)⟩:z06) 1 Z (Sp.via (Sp.prod (Sp.prod (Sp.prod (Sp.prod (Sp.prod Sp.unit))))))<|Es (sto 1 Z Z fH Z z88)<|Zn<|z0m<|zbf [] [1001] Z (eC 1 Z Z z9q<|eN) (y1 Z)
def z1g (a0:z06):Option (V3) :=
 zqy a0 >>= fun r3 =>
 some r3.1
theorem z1x (a0:z06):z1u Tryz.prog 27 [.rd z03 a0] [zG1] (z1g a0) (fun r nv=>⟨[.rd aZ r],[(1001,some (.bool true,.glob 1 (z2y 64 z0i) z4q))]⟩):=by
 refine z2m 11 Tryz.func27 Z Z Z fun H w=>?_
 refine gSR<|Eb Z (bx 1 Z) fun v1=>Eb Z (z7q 2 z36 (.zr (R:=aZ) (x:=(Vector.replicate 32 0)) zhl)) fun v2=>Zn<|gSR<|Zq (ld 1 Z Z fH z9q Z)<|Zc [1001] [] Tryz.func36 Z (zll _) fun r3 n4=>Zm Z<|Zq (ext Z Z)<|Zq (ext Z Z)<|Eb Z (z7q 3 z36 (.zr (R:=aZ) (x:=(Vector.replicate 32 0)) zhl)) fun v5=>Es (sto 3 Z Z fH Z z36)<|Zb Z<|gSR<|Zq (ld 3 Z Z fH z56 Z)<|Es (sto 2 Z Z fH Z z36)<|Zn<|z0m<|zbf [] [1001] Z (eC 2 Z Z z56<|eN) (y1 Z)
def z5q (a0:V3) (a1:V3):Option ((List V3)) :=
 z5r a0 a1 >>= fun r3 =>
 if decide (0<r3) then
  some [a1,a0]
 else
  some [a0,a1]
theorem zci (a0:V3) (a1:V3):z1u Tryz.prog 30 [.rd aZ a0,.rd aZ a1] [] (z5q a0 a1) (fun r nv=>⟨[.val (nv 0)],[(100,some (nv 0,.list aZ 36 r))]⟩):=by
 refine z2m 15 Tryz.func30 Z Z Z fun H w=>?_
 refine gSR<|Eb Z (bx 1 Z) fun v1=>Eb Z (bx 2 Z) fun v2=>Zb Z<|z0w<|gSR<|Zq (ld 1 Z Z fH z56 Z)<|Zq (ld 2 Z Z fH z56 Z)<|Zc [] [] Tryz.func15 Z (z9y _ _) fun r3 n4=>Zq (I.gtr Z Z)<|Zj Z (fun h5=>?_) (fun h5=>?_)
 ·
  refine gSR<|Zq (ld 2 Z Z fH z56 Z)<|Zq (ld 1 Z Z fH z56 Z)<|Ef Z (lit (R:=aZ) ([a1,a0]:List V3) 3 (pP Z Z<|pP Z Z<|pN) Z tu22 z36 Z Z) fun v6=>Zb Z<|z0m<|z10<|Ze [v6] [3] Z
 ·
  refine Zt<|gSR<|Zq (ld 1 Z Z fH z56 Z)<|Zq (ld 2 Z Z fH z56 Z)<|Ef Z (lit (R:=aZ) ([a0,a1]:List V3) 4 (pP Z Z<|pP Z Z<|pN) Z tu22 z36 Z Z) fun v7=>Zb Z<|z0m<|Ze [v7] [4] Z
def zes (a0:z06):Option (z06) :=
 z0t a0.Preds >>= fun r3 =>
 some (⟨a0.Author,r3,a0.Stamp,a0.Act,a0.Sig⟩:z06)
theorem zfe (a0:z06):z1u Tryz.prog 62 [.rd z03 a0] [] (zes a0) (fun r nv=>⟨[.rd z03 r],[]⟩):=by
 refine z2m 8 Tryz.func62 Z Z Z fun H w=>?_
 refine gSR<|Eb Z (bx 1 Z) fun v1=>Eb Z (z7q 2 z88 (ZrE.rd (R:=z0i) (x:=0) (Zr.num Z) (ZrE.nilS (ZrE.rd (R:=z2e) (x:=0) (Zr.num Z) (ZrE.rd (R:=z0g) (x:=(⟨0,[],(⟨0,0,0,[]⟩:z04)⟩:z0k)) zn0 (ZrE.rd (R:=z0l) (x:=(⟨0,0⟩:z09)) zl1 ZrE.nil Z) Z) Z)) Z)) fun v2=>Zn<|gSR<|Zq (faB 1 Z Z Tryz.underlying46 Z (by exact z8p))<|Zq (ld 1 Z Z (fP (z0x _)) z9o Z)<|Zc [] [(100,3)] Tryz.func41 Z (z1n _) fun r3 n4=>Zq (faB 1 Z Z Tryz.underlying46 Z (by exact z8p))<|lSpl (R:=z03) 1 Z (Sp.via (Sp.prod (Sp.prod (Sp.prod (Sp.prod (Sp.prod Sp.unit))))))<|Es (zo8 1 Z Z (zai.cast (zai.next z27 (zai.here z27)) Z) Z z1v z0a z8p)<|Zn<|gSR<|zyh [.rd z0i a0.Author,.rd (z02 aZ) r3,.rd z2e a0.Stamp,.rd z0g a0.Act,.rd z0l a0.Sig] 1 3 [.rd z0i a0.Author] [.rd z2e a0.Stamp,.rd z0g a0.Act,.rd z0l a0.Sig] Z Z Z Z Z<|zgu (R:=z03) (⟨a0.Author,r3,a0.Stamp,a0.Act,a0.Sig⟩:z06) 1 Z (Sp.via (Sp.prod (Sp.prod (Sp.prod (Sp.prod (Sp.prod Sp.unit))))))<|Zq (ld 1 Z Z fH z9q Z)<|zhh aZ [.rd z0i 0,.rd (z02 aZ) [],.rd z2e 0,.rd z0g (⟨0,[],(⟨0,0,0,[]⟩:z04)⟩:z0k),.rd z0l (⟨0,0⟩:z09)] 2 [.rd z0i 0] [.rd z2e 0,.rd z0g (⟨0,[],(⟨0,0,0,[]⟩:z04)⟩:z0k),.rd z0l (⟨0,0⟩:z09)] Z Z Z<|zgu (R:=z03) (⟨0,[],0,(⟨0,[],(⟨0,0,0,[]⟩:z04)⟩:z0k),(⟨0,0⟩:z09)⟩:z06) 2 Z (Sp.via (Sp.prod (Sp.prod (Sp.prod (Sp.prod (Sp.prod Sp.unit))))))<|Es (sto 2 Z Z fH Z z88)<|Zn<|z0m<|zbf [] [] Z (eC 2 Z Z z9q<|eN) (rN)
def zer (a0:z00) (a2:z06) (r5:Int × Bool) (r11:List V3) (s16:(List z06) × Int):Option (Sum ((List z06)) ((List z06) × Int)) :=
 if decide (s16.2<(r11.length:Int)) then
  some (decide (s16.2<r5.1)) >>= fun y19 =>
  if y19 then
   idx a0.Ops s16.2 >>= fun x21 =>
   zes x21 >>= fun r23 =>
   app 112 s16.1 [r23] >>= fun x26 =>
   some (.inr (x26,w64 (s16.2+1)))
  else
   some (s16.2==r5.1) >>= fun y29 =>
   if y29 then
    zes a2 >>= fun r31 =>
    app 112 s16.1 [r31] >>= fun x34 =>
    some (.inr (x34,w64 (s16.2+1)))
   else
    idx a0.Ops (w64 (s16.2 - 1)) >>= fun x37 =>
    zes x37 >>= fun r39 =>
    app 112 s16.1 [r39] >>= fun x42 =>
    some (.inr (x42,w64 (s16.2+1)))
 else
  some (.inl s16.1)
def zdw (a0:z00) (a1:V3) (a2:z06):Option (z00 × Bool) :=
 zd0 a0 a1 >>= fun r5 =>
 if r5.2 then
  some (a0,false)
 else
  z0t a0.IDs >>= fun r8 =>
  insF r8 r5.1 [a1] >>= fun r11 =>
  (iter (zer a0 a2 r5 r11) ([],0)) >>= fun s15 =>
  some ((⟨r11,s15⟩:z00),true)
set_option maxHeartbeats 4000000 in
theorem zrt (a0:z00) (a1:V3) (a2:z06):z1u Tryz.prog 37 [.rd z01 a0,.rd aZ a1,.rd z03 a2] [] (zdw a0 a1 a2) (fun r nv=>⟨[.rd z01 r.1,.rd z0f r.2],[]⟩):=by
 refine z2m 74 Tryz.func37 Z Z Z fun H w=>?_
 refine gSR<|Eb Z (bx 1 Z) fun v1=>Eb Z (bx 2 Z) fun v2=>Eb Z (bx 3 Z) fun v3=>Eb Z (z7q 4 zeb (ZrE.nilS (ZrE.nilS ZrE.nil))) fun v4=>Zb Z<|gSR<|Zq (ld 1 Z Z fH zal Z)<|Zq (ld 2 Z Z fH z56 Z)<|Zc [] [] Tryz.func60 Z (zje _ _) fun r5 n6=>Zm Z<|Zq (ext Z Z)<|Zq (ext Z Z)<|Za Z<|Zb Z<|z0w<|gSR<|Zm Z<|Zj Z (fun h7=>?_) (fun h7=>?_)
 ·
  refine gKn 17 Z h7<|gKn 9 Z h7<|gSR<|Zq (ld 1 Z Z fH zal Z)<|zhh aZ [.rd (z02 aZ) [],.val (.slice none 0 0)] 4 [] [.val (.slice none 0 0)] Z Z Z<|zhh z03 [.rd (z02 aZ) [],.rd (z02 z03) []] 4 [.rd (z02 aZ) []] [] Z Z Z<|zgu (R:=z01) (⟨[],[]⟩:z00) 4 Z (Sp.via (Sp.prod (Sp.prod Sp.unit)))<|Es (sto 4 Z Z fH Z zeb)<|Zb Z<|z0m<|z10<|zbf [] [] Z (eC 4 Z Z zal<|eE Z<|eN) (rN)
 ·
  refine gKn 17 Z h7<|gKn 9 Z h7<|Zt<|z0w<|zrm [(3,.val (z05 v1 0)),(4,.val (z05 v2 0)),(5,.val (z05 v3 0)),(6,.val (z05 v4 0)),(8,.rd z07 r5.1)] [(1,some (v1,.box 25 [.rd z01 a0])),(2,some (v2,.box 36 [.rd aZ a1])),(3,some (v3,.box 46 [.rd z03 a2])),(4,some (v4,.box 25 [.val (.slice none 0 0),.val (.slice none 0 0)]))] [1,2,3,4] (Zs Z Z Z Z<|sS Z<|sN) (Zi Z<|Zi Z<|Zi Z<|Zi Z<|rN)<|z5g fun r8 h10=>z5g fun r11 h13=>gOr [] [⟨1,some ([], fun nv=>(v1,.box 25 [.rd z01 a0])),[]⟩,⟨5,none,[(2,some ([1], fun nv=>((nv 1),.list aZ 36 r8))),(6,none)]⟩,⟨2,some ([], fun nv=>(v2,.box 36 [.rd aZ a1])),[]⟩,⟨6,none,[(5,some ([2], fun nv=>((nv 2),.list aZ 36 [a1]))),(6,none)]⟩,⟨7,none,[(6,some ([3], fun nv=>((nv 3),.list aZ 36 r11)))]⟩,⟨8,none,[(8,some ([4], fun nv=>((nv 4),.box 25 [.val (.slice none 0 0),.val (.slice none 0 0)]))),(9,some ([3,4], fun nv=>((nv 4),.box 25 [.val (nv 3),.val (.slice none 0 0)])))]⟩] [pk 20 (.val (z05 v1 (0+0))) [(0,0,false)],pk 21 (.rd (z02 aZ) a0.IDs) [(0,0,false)],⟨some (22,[1], fun nv=>.val (nv 1)),[(1,0,true)],[1],[]⟩,pd 23 (.rd z07 r5.1),pk 24 (.rd aZ a1) [(2,0,false)],⟨some (25,[2], fun nv=>.val (nv 2)),[(3,0,true)],[2],[]⟩,⟨some (26,[3], fun nv=>.val (nv 3)),[(3,1,true),(1,1,true),(4,0,true)],[3],[]⟩,⟨some (27,[3], fun nv=>.agg [.val (nv 3),.val (.slice none 0 0)]),[],[],[]⟩,⟨some (10,[4], fun nv=>.val (z05 (nv 4) 0)),[(5,0,true)],[4],[]⟩,⟨none,[(5,1,true)],[],[]⟩] mixed (oC (oRn (fun nv E=>faB 1 Z Z Tryz.underlying25 Z (by exact z8p)))<|oC (oRn (fun nv E=>ld 1 Z Z (fP (z0b _)) z9o Z))<|oC (oCl [1] [] [(100,5)] h10 Tryz.func41 Z (fun nv=>(z1n _)) (fun nv=>(Y1 Z)) (fun nv E=>rN))<|oC (oRn (fun nv E=>mv Z))<|oC (oRn (fun nv E=>ld 2 Z Z fH z56 Z))<|oC (oEf 6 2 (fun nv E=>lit (R:=aZ) ([a1]:List V3) 6 (pP Z Z<|pN) Z tu22 z36 Z Z))<|oC (oCl [3] [5,6] [(100,7)] h13 Tryz.func61 Z (fun nv=>(z10c _ _ _ _ _)) (fun nv=>(aQ Z<|aQ Z<|aQ Z<|aN)) (fun nv E=>(Zi Z<|Zi Z<|rN)))<|oC (oRn (fun nv E=>zve [(0,1),(1,1)] Tryz.underlying25 zeb (ZrE.nilS (ZrE.nilS ZrE.nil)) Z (zjt.cons Z Z z0a (zai.cast (zai.here z0a) Z)<|zjt.done Z)))<|oC (oEb 8 4 (fun nv E=>z7q 8 zeb (ZrE.nilS (ZrE.nilS ZrE.nil))))<|oC (oEs 8 (fun nv E=>zvd 8 Z Z (z0o.cast (z0o.cons z0a (z0o.cons z0a z0o.nil)) Z) Z (z5u.cons z1v (z5u.cons z1v z5u.nil)) (z0o.cast (z0o.cons z0a (z0o.cons z0a z0o.nil)) Z) zeb))<|oN) fun n14=>z0n<|z7m (fun (s15:(List z06)) aa ww=>∃ nv:Nat→Value,Sta (ctx 74 H [] w) [(6,.val (z05 v4 0)),(10,.val (z05 (nv 0) 0))] [(4,some (v4,.box 25 [.val (.slice none 0 0),.val (.slice none 0 0)])),(7,some ((nv 1),.list aZ 36 r11)),(9,some ((nv 2),.list z03 46 s15)),(8,some ((nv 0),.box 25 [.val (nv 1),.val (nv 2)]))] aa ww) ?_ (fun s15=>?_)
  ·
   refine gSR<|Zq (faB 8 Z Z Tryz.underlying25 Z (by exact z8p))<|Zq (ldV 8 Z Z (At.cast At.here Z) sc22 Z)<|Zq (z3q Z (.own 7 Z) Z tu22)<|Zm Z<|Zn<|zvl z03 46 11<|z2b (fun (s16:(List z06) × Int) aa ww=>∃ nv:Nat→Value,Sta (ctx 74 H [] w) [(3,.val (z05 v1 0)),(5,.val (z05 v3 0)),(6,.val (z05 v4 0)),(8,.rd z07 r5.1),(10,.val (z05 (nv 0) 0)),(30,.rd z07 (r11.length:Int)),(31,.rd z07 s16.2)] [(1,some (v1,.box 25 [.rd z01 a0])),(3,some (v3,.box 46 [.rd z03 a2])),(4,some (v4,.box 25 [.val (.slice none 0 0),.val (.slice none 0 0)])),(7,some ((nv 1),.list aZ 36 r11)),(10,some ((nv 2),.list z03 46 s16.1)),(8,some ((nv 0),.box 25 [.val (nv 1),.val (nv 2)]))] aa ww) (fun aa ww h=>⟨nvl [(n14 4),(n14 3),(.slice none 0 0)],Zu h [1,3,4,7,11,8]⟩) (fun s16=>?_)
   refine gEx fun n17=>gSR<|Zq (I.lss Z Z)<|Zn<|z0w<|gIf Z Z (fun h18=>?_) (fun h18=>?_)
   ·
    refine Zt<|z0w<|z58<|gSR<|Zm Z<|Zb Z<|z58<|gSR<|Zm Z<|Zm Z<|Zq (I.lss Z Z)<|Za Z<|z1z 46 Z fun y19=>Zj Z (fun h20=>?_) (fun h20=>?_)
    ·
     refine zrm [(3,.val (z05 v1 0)),(5,.val (z05 v3 0)),(6,.val (z05 v4 0)),(8,.rd z07 r5.1),(10,.val (z05 (n17 0) 0)),(30,.rd z07 (r11.length:Int)),(31,.rd z07 s16.2),(11,.rd z07 s16.2)] [(1,some (v1,.box 25 [.rd z01 a0])),(3,some (v3,.box 46 [.rd z03 a2])),(4,some (v4,.box 25 [.val (.slice none 0 0),.val (.slice none 0 0)])),(7,some ((n17 1),.list aZ 36 r11)),(10,some ((n17 2),.list z03 46 s16.1)),(8,some ((n17 0),.box 25 [.val (n17 1),.val (n17 2)]))] [1,3,4,7,10,8] (Zs Z Z Z Z<|Zs Z Z Z Z<|sN) (Zi Z<|Zi Z<|Zi Z<|Zi Z<|Zi Z<|Zi Z<|rN)<|z5g fun x21 h22=>z5g fun r23 h25=>z5g fun x26 h27=>gOr [] [⟨8,some ([], fun nv=>((n17 0),.box 25 [.val (n17 1),.val (n17 2)])),[(11,some ([2], fun nv=>((n17 0),.box 25 [.val (n17 1),.val (nv 2)])))]⟩,⟨1,some ([], fun nv=>(v1,.box 25 [.rd z01 a0])),[]⟩,⟨12,none,[(8,none)]⟩,⟨10,some ([], fun nv=>((n17 2),.list z03 46 s16.1)),[(9,some ([2], fun nv=>((nv 2),.list z03 46 x26)))]⟩] [pk 50 (.val (z05 (n17 0) (0+1))) [(0,0,false)],pk 51 (.val (n17 2)) [(0,0,false)],pk 52 (.val (z05 v1 (0+1))) [(1,0,false)],pk 53 (.rd (z02 z03) a0.Ops) [(1,0,false)],pd 54 (.rd z07 s16.2),pd 55 (.rp z03 x21),pd 56 (.rd z03 x21),pd 57 (.rd z03 r23),⟨some (58,[], fun nv=>.rd (z02 z03) [r23]),[(2,0,true)],[1],[]⟩,⟨some (59,[2], fun nv=>.val (nv 2)),[(3,0,true)],[2],[]⟩,pk 60 (.val (z05 (n17 0) (0+1))) [(0,0,false)],⟨none,[(3,1,false),(0,0,true)],[],[]⟩] mixed (oC (oRn (fun nv E=>faB 8 Z Z Tryz.underlying25 Z (by exact zap)))<|oC (oRn (fun nv E=>ldV 8 Z Z (At.cast (At.next z0a At.here) Z) sc23 Z))<|oC (oRn (fun nv E=>faB 1 Z Z Tryz.underlying25 Z (by exact zap)))<|oC (oRn (fun nv E=>ld 1 Z Z (fP (z08 _)) zdk Z))<|oC (oRn (fun nv E=>mv Z))<|oC (oRn (fun nv E=>ixR Z Z h22 tu23 z88 Z))<|oC (oRn (fun nv E=>ldR Z z9q))<|oC (oCl [] [] [] h25 Tryz.func62 Z (fun nv=>(zfe _)) (fun nv=>(Y1 Z)) (fun nv E=>rN))<|oC (oFz (A1:=fun nv=>[(12,some ((nv 1),.list z03 46 [r23]))]) 12 1 (oEf 12 1 (fun nv E=>lit (R:=z03) ([r23]:List z06) 12 (pP Z Z<|pN) Z tu23 z88 Z Z)))<|oC (oEf 10 2 (fun nv E=>apn 10 Z Z Z .rd h27 tu23 z88 Z Z Z))<|oC (oRn (fun nv E=>faB 8 Z Z Tryz.underlying25 Z (by exact zap)))<|oC (oEs 8 (fun nv E=>zo8 8 Z Z (zai.cast (zai.next z0a (zai.here z0a)) Z) Z z1v z0a zap))<|oN) fun n28=>z3h<|z3h<|z0n<|z2o<|Zq (I.add Z Z)<|Zm Z<|z23<|z1l (fun aa ww h=>⟨nvl [(n17 0),(n17 1),(n28 2)],Zu h [1,3,4,7,10,8]⟩)
    ·
     refine gSR<|Zm Z<|Zm Z<|Zq (I.eql Z Z)<|Za Z<|z1z 61 Z fun y29=>Zj Z (fun h30=>?_) (fun h30=>?_)
     ·
      refine zrm [(3,.val (z05 v1 0)),(5,.val (z05 v3 0)),(6,.val (z05 v4 0)),(8,.rd z07 r5.1),(10,.val (z05 (n17 0) 0)),(30,.rd z07 (r11.length:Int)),(31,.rd z07 s16.2)] [(1,some (v1,.box 25 [.rd z01 a0])),(3,some (v3,.box 46 [.rd z03 a2])),(4,some (v4,.box 25 [.val (.slice none 0 0),.val (.slice none 0 0)])),(7,some ((n17 1),.list aZ 36 r11)),(10,some ((n17 2),.list z03 46 s16.1)),(8,some ((n17 0),.box 25 [.val (n17 1),.val (n17 2)]))] [1,3,4,7,10,8] (Zs Z Z Z Z<|sS Z<|sS Z<|sS Z<|sN) (Zi Z<|Zi Z<|Zi Z<|Zi Z<|Zi Z<|Zi Z<|rN)<|z5g fun r31 h33=>z5g fun x34 h35=>gOr [] [⟨8,some ([], fun nv=>((n17 0),.box 25 [.val (n17 1),.val (n17 2)])),[(7,some ([2], fun nv=>((n17 0),.box 25 [.val (n17 1),.val (nv 2)])))]⟩,⟨3,some ([], fun nv=>(v3,.box 46 [.rd z03 a2])),[]⟩,⟨13,none,[(4,none)]⟩,⟨10,some ([], fun nv=>((n17 2),.list z03 46 s16.1)),[(5,some ([2], fun nv=>((nv 2),.list z03 46 x34)))]⟩] [pk 65 (.val (z05 (n17 0) (0+1))) [(0,0,false)],pk 66 (.val (n17 2)) [(0,0,false)],pk 67 (.rd z03 a2) [(1,0,false)],pd 68 (.rd z03 r31),⟨some (69,[], fun nv=>.rd (z02 z03) [r31]),[(2,0,true)],[1],[]⟩,⟨some (70,[2], fun nv=>.val (nv 2)),[(3,0,true)],[2],[]⟩,pk 71 (.val (z05 (n17 0) (0+1))) [(0,0,false)],⟨none,[(3,1,false),(0,0,true)],[],[]⟩] mixed (oC (oRn (fun nv E=>faB 8 Z Z Tryz.underlying25 Z (by exact zap)))<|oC (oRn (fun nv E=>ldV 8 Z Z (At.cast (At.next z0a At.here) Z) sc23 Z))<|oC (oRn (fun nv E=>ld 3 Z Z fH z9q Z))<|oC (oCl [] [] [] h33 Tryz.func62 Z (fun nv=>(zfe _)) (fun nv=>(Y1 Z)) (fun nv E=>rN))<|oC (oFz (A1:=fun nv=>[(13,some ((nv 1),.list z03 46 [r31]))]) 13 1 (oEf 13 1 (fun nv E=>lit (R:=z03) ([r31]:List z06) 13 (pP Z Z<|pN) Z tu23 z88 Z Z)))<|oC (oEf 10 2 (fun nv E=>apn 10 Z Z Z .rd h35 tu23 z88 Z Z Z))<|oC (oRn (fun nv E=>faB 8 Z Z Tryz.underlying25 Z (by exact zap)))<|oC (oEs 8 (fun nv E=>zo8 8 Z Z (zai.cast (zai.next z0a (zai.here z0a)) Z) Z z1v z0a zap))<|oN) fun n36=>z3h<|z3h<|z0n<|z2o<|Zq (I.add Z Z)<|Zm Z<|z23<|z1l (fun aa ww h=>⟨nvl [(n17 0),(n17 1),(n36 2)],Zu h [1,3,4,7,10,8]⟩)
     ·
      refine zrm [(3,.val (z05 v1 0)),(5,.val (z05 v3 0)),(6,.val (z05 v4 0)),(8,.rd z07 r5.1),(10,.val (z05 (n17 0) 0)),(30,.rd z07 (r11.length:Int)),(31,.rd z07 s16.2),(11,.rd z07 s16.2)] [(1,some (v1,.box 25 [.rd z01 a0])),(3,some (v3,.box 46 [.rd z03 a2])),(4,some (v4,.box 25 [.val (.slice none 0 0),.val (.slice none 0 0)])),(7,some ((n17 1),.list aZ 36 r11)),(10,some ((n17 2),.list z03 46 s16.1)),(8,some ((n17 0),.box 25 [.val (n17 1),.val (n17 2)]))] [1,3,4,7,10,8] (Zs Z Z Z Z<|Zs Z Z Z Z<|sN) (Zi Z<|Zi Z<|Zi Z<|Zi Z<|Zi Z<|Zi Z<|rN)<|z5g fun x37 h38=>z5g fun r39 h41=>z5g fun x42 h43=>gOr [] [⟨8,some ([], fun nv=>((n17 0),.box 25 [.val (n17 1),.val (n17 2)])),[(12,some ([2], fun nv=>((n17 0),.box 25 [.val (n17 1),.val (nv 2)])))]⟩,⟨1,some ([], fun nv=>(v1,.box 25 [.rd z01 a0])),[]⟩,⟨14,none,[(9,none)]⟩,⟨10,some ([], fun nv=>((n17 2),.list z03 46 s16.1)),[(10,some ([2], fun nv=>((nv 2),.list z03 46 x42)))]⟩] [pk 34 (.val (z05 (n17 0) (0+1))) [(0,0,false)],pk 35 (.val (n17 2)) [(0,0,false)],pk 36 (.val (z05 v1 (0+1))) [(1,0,false)],pk 37 (.rd (z02 z03) a0.Ops) [(1,0,false)],pd 38 (.rd z07 s16.2),pd 39 (.rd z07 (w64 (s16.2 - 1))),pd 40 (.rp z03 x37),pd 41 (.rd z03 x37),pd 42 (.rd z03 r39),⟨some (43,[], fun nv=>.rd (z02 z03) [r39]),[(2,0,true)],[1],[]⟩,⟨some (44,[2], fun nv=>.val (nv 2)),[(3,0,true)],[2],[]⟩,pk 45 (.val (z05 (n17 0) (0+1))) [(0,0,false)],⟨none,[(3,1,false),(0,0,true)],[],[]⟩] mixed (oC (oRn (fun nv E=>faB 8 Z Z Tryz.underlying25 Z (by exact zap)))<|oC (oRn (fun nv E=>ldV 8 Z Z (At.cast (At.next z0a At.here) Z) sc23 Z))<|oC (oRn (fun nv E=>faB 1 Z Z Tryz.underlying25 Z (by exact zap)))<|oC (oRn (fun nv E=>ld 1 Z Z (fP (z08 _)) zdk Z))<|oC (oRn (fun nv E=>mv Z))<|oC (oRn (fun nv E=>I.sub Z Z))<|oC (oRn (fun nv E=>ixR Z Z h38 tu23 z88 Z))<|oC (oRn (fun nv E=>ldR Z z9q))<|oC (oCl [] [] [] h41 Tryz.func62 Z (fun nv=>(zfe _)) (fun nv=>(Y1 Z)) (fun nv E=>rN))<|oC (oFz (A1:=fun nv=>[(14,some ((nv 1),.list z03 46 [r39]))]) 14 1 (oEf 14 1 (fun nv E=>lit (R:=z03) ([r39]:List z06) 14 (pP Z Z<|pN) Z tu23 z88 Z Z)))<|oC (oEf 10 2 (fun nv E=>apn 10 Z Z Z .rd h43 tu23 z88 Z Z Z))<|oC (oRn (fun nv E=>faB 8 Z Z Tryz.underlying25 Z (by exact zap)))<|oC (oEs 8 (fun nv E=>zo8 8 Z Z (zai.cast (zai.next z0a (zai.here z0a)) Z) Z z1v z0a zap))<|oN) fun n44=>z3h<|z3h<|z0n<|z2o<|Zq (I.add Z Z)<|Zm Z<|z23<|z1l (fun aa ww h=>⟨nvl [(n17 0),(n17 1),(n44 2)],Zu h [1,3,4,7,10,8]⟩)
   ·
    refine z24<|z14<|z13<|z3s (fun aa ww h=>⟨nvl [(n17 0),(n17 1),(n17 2)],Zu h [4,7,10,8]⟩)
  ·
   refine gEx fun n45=>gSR<|zyh [.rd (z02 aZ) r11,.val (n45 2)] 8 7 [] [.val (n45 2)] Z Z Z Z Z<|zyh [.rd (z02 aZ) r11,.rd (z02 z03) s15] 8 9 [.rd (z02 aZ) r11] [] Z Z Z Z Z<|zgu (R:=z01) (⟨r11,s15⟩:z00) 8 Z (Sp.via (Sp.prod (Sp.prod Sp.unit)))<|Zq (ld 8 Z Z fH zal Z)<|zhh aZ [.rd (z02 aZ) [],.val (.slice none 0 0)] 4 [] [.val (.slice none 0 0)] Z Z Z<|zhh z03 [.rd (z02 aZ) [],.rd (z02 z03) []] 4 [.rd (z02 aZ) []] [] Z Z Z<|zgu (R:=z01) (⟨[],[]⟩:z00) 4 Z (Sp.via (Sp.prod (Sp.prod Sp.unit)))<|Es (sto 4 Z Z fH Z zeb)<|Zb Z<|z0m<|zbf [] [] Z (eC 4 Z Z zal<|eE Z<|eN) (rN)
def ze6 (a0:List z06) (s4:Int):Option (Sum (Sum (z00 × Int) Unit) Int) :=
 if decide (s4<(a0.length:Int)) then
  idx a0 s4 >>= fun x6 =>
  zdr x6 >>= fun r9 =>
  if r9 != 0 then
   some (.inl (.inl ((⟨[],[]⟩:z00),r9)))
  else
   some (.inr (w64 (s4+1)))
 else
  some (.inl (.inr ()))
def zds (a0:List z06) (s14:(List V3) × (List z06) × Int):Option (Sum (Sum (z00 × Int) ((List V3) × (List z06))) ((List V3) × (List z06) × Int)) :=
 if decide (s14.2.2<(a0.length:Int)) then
  idx a0 s14.2.2 >>= fun x16 =>
  zqy x16 >>= fun r19 =>
  zdw (⟨s14.1,s14.2.1⟩:z00) r19.1 x16 >>= fun r22 =>
  if !r22.2 then
   some (.inl (.inl ((⟨[],[]⟩:z00),14)))
  else
   some (.inr (r22.1.IDs,r22.1.Ops,w64 (s14.2.2+1)))
 else
  some (.inl (.inr (s14.1,s14.2.1)))
def zjm (a0:List z06):Option (z00 × Int) :=
 if decide (60<(a0.length:Int)) then
  some ((⟨[],[]⟩:z00),4)
 else
  z6l (iter (ze6 a0) 0) fun s3 =>
  z6l (iter (zds a0) ([],[],0)) fun s13 =>
  ze1 (⟨s13.1,s13.2⟩:z00) >>= fun r26 =>
  if r26 != 0 then
   some ((⟨[],[]⟩:z00),r26)
  else
   some ((⟨s13.1,s13.2⟩:z00),0)
theorem zmg (a0:List z06):z1u Tryz.prog 11 [.rd (z02 z03) a0] [zG1] (zjm a0) (fun r nv=>⟨[.rd z01 r.1,.rd z07 r.2],[(1001,some (.bool true,.glob 1 (z2y 64 z0i) z4q))]⟩):=by
 refine z2m 62 Tryz.func11 Z Z Z fun H w=>?_
 refine gSR<|Eb Z (z7q 1 zeb (ZrE.nilS (ZrE.nilS ZrE.nil))) fun v1=>Zb Z<|z0w<|gSR<|Zm Z<|Zq (z3q Z .rd Z tu23)<|Zq (I.gtr Z Z)<|Zj Z (fun h2=>?_) (fun h2=>?_)
 ·
  refine gSR<|Zq (zve [(0,1),(1,1)] Tryz.underlying25 zeb (ZrE.nilS (ZrE.nilS ZrE.nil)) Z (zjt.done Z))<|Es (zvd 1 Z Z (z0o.cast (z0o.cons z0a (z0o.cons z0a z0o.nil)) Z) Z (z5u.cons z1v (z5u.cons z1v z5u.nil)) (z0o.cast (z0o.cons z0a (z0o.cons z0a z0o.nil)) Z) zeb)<|Zb Z<|z0m<|z10<|zp4 aZ [.rd (z02 aZ) [],.val (.slice none 0 0)] 1 [] [.val (.slice none 0 0)] Z Z Z<|zp4 z03 [.rd (z02 aZ) [],.rd (z02 z03) []] 1 [.rd (z02 aZ) []] [] Z Z Z<|zwd (R:=z01) (⟨[],[]⟩:z00) 1 Z (Sp.via (Sp.prod (Sp.prod Sp.unit)))<|zbf [] [1001] Z (eC 1 Z Z zal<|eE Z<|eN) (y1 Z)
 ·
  refine Zt<|z95 (fun (s3:Unit) aa ww=>Sta (ctx 62 H [zG1] w) [(0,.rd (z02 z03) a0),(2,.val (z05 v1 0))] [(1,some (v1,.box 25 [.val (.slice none 0 0),.val (.slice none 0 0)])),zG1] aa ww) ?_ (fun s3=>?_)
  ·
   refine gSR<|Zm Z<|Zq (z3q Z .rd Z tu23)<|Zm Z<|Zn<|z2b (fun (s4:Int) aa ww=>Sta (ctx 62 H [zG1] w) [(0,.rd (z02 z03) a0),(2,.val (z05 v1 0)),(19,.rd (z02 z03) a0),(20,.rd z07 (a0.length:Int)),(21,.rd z07 s4)] [(1,some (v1,.box 25 [.val (.slice none 0 0),.val (.slice none 0 0)])),zG1] aa ww) (fun aa ww h=>Zu h [1,1001]) (fun s4=>?_)
   refine gSR<|Zq (I.lss Z Z)<|Zn<|z0w<|gIf Z Z (fun h5=>?_) (fun h5=>?_)
   ·
    refine Zt<|z0w<|z58<|gSR<|z0u fun x6 h7=>Zq (ixR Z Z h7 tu23 z88 Z)<|Zq (ldR Z z9q)<|Eb Z (z7q 1100 z88 (ZrE.rd (R:=z0i) (x:=0) (Zr.num Z) (ZrE.nilS (ZrE.rd (R:=z2e) (x:=0) (Zr.num Z) (ZrE.rd (R:=z0g) (x:=(⟨0,[],(⟨0,0,0,[]⟩:z04)⟩:z0k)) zn0 (ZrE.rd (R:=z0l) (x:=(⟨0,0⟩:z09)) zl1 ZrE.nil Z) Z) Z)) Z)) fun v8=>zhh aZ [.rd z0i 0,.rd (z02 aZ) [],.rd z2e 0,.rd z0g (⟨0,[],(⟨0,0,0,[]⟩:z04)⟩:z0k),.rd z0l (⟨0,0⟩:z09)] 1100 [.rd z0i 0] [.rd z2e 0,.rd z0g (⟨0,[],(⟨0,0,0,[]⟩:z04)⟩:z0k),.rd z0l (⟨0,0⟩:z09)] Z Z Z<|zgu (R:=z03) (⟨0,[],0,(⟨0,[],(⟨0,0,0,[]⟩:z04)⟩:z0k),(⟨0,0⟩:z09)⟩:z06) 1100 Z (Sp.via (Sp.prod (Sp.prod (Sp.prod (Sp.prod (Sp.prod Sp.unit))))))<|Es (sto 1100 Z Z fH Z z88)<|Zn<|gSR<|Zq (ld 1100 Z Z fH z9q Z)<|Zc [1001] [] Tryz.func35 Z (zhs _) fun r9 n10=>Zb Z<|gSR<|Zm Z<|Zq (I.neq Z Z)<|Zj Z (fun h11=>?_) (fun h11=>?_)
    ·
     refine gSR<|Zq (zve [(0,1),(1,1)] Tryz.underlying25 zeb (ZrE.nilS (ZrE.nilS ZrE.nil)) Z (zjt.done Z))<|Zm Z<|Es (zvd 1 Z Z (z0o.cast (z0o.cons z0a (z0o.cons z0a z0o.nil)) Z) Z (z5u.cons z1v (z5u.cons z1v z5u.nil)) (z0o.cast (z0o.cons z0a (z0o.cons z0a z0o.nil)) Z) zeb)<|Zb Z<|z0m<|z4c<|z10<|z85<|z80<|zp4 aZ [.rd (z02 aZ) [],.val (.slice none 0 0)] 1 [] [.val (.slice none 0 0)] Z Z Z<|zp4 z03 [.rd (z02 aZ) [],.rd (z02 z03) []] 1 [.rd (z02 aZ) []] [] Z Z Z<|zwd (R:=z01) (⟨[],[]⟩:z00) 1 Z (Sp.via (Sp.prod (Sp.prod Sp.unit)))<|zbf [] [1001] Z (eC 1 Z Z zal<|eE Z<|eN) (y1 Z)
    ·
     refine z3a<|z3h<|z0n<|z2o<|Zq (I.add Z Z)<|Zm Z<|z23<|z1l (fun aa ww h=>Zu h [1,1001])
   ·
    refine z24<|z14<|z13<|z8b (fun aa ww h=>Zu h [1,1001])
  ·
   refine gSR<|Eb Z (z7q 1101 zeb (ZrE.nilS (ZrE.nilS ZrE.nil))) fun v12=>Zn<|z95 (fun (s13:(List V3) × (List z06)) aa ww=>Sta (ctx 62 H [zG1] w) [(2,.val (z05 v1 0)),(7,.val (z05 v12 0))] [(1,some (v1,.box 25 [.val (.slice none 0 0),.val (.slice none 0 0)])),(1101,some (v12,.box 25 [.rd (z02 aZ) s13.1,.rd (z02 z03) s13.2])),zG1] aa ww) ?_ (fun s13=>?_)
   ·
    refine gSR<|Zm Z<|Zq (z3q Z .rd Z tu23)<|Zm Z<|Zn<|gPnl aZ [.rd (z02 aZ) [],.val (.slice none 0 0)] 1101 [] [.val (.slice none 0 0)] Z Z Z<|gPnl z03 [.rd (z02 aZ) [],.rd (z02 z03) []] 1101 [.rd (z02 aZ) []] [] Z Z Z<|z2b (fun (s14:(List V3) × (List z06) × Int) aa ww=>Sta (ctx 62 H [zG1] w) [(2,.val (z05 v1 0)),(7,.val (z05 v12 0)),(32,.rd (z02 z03) a0),(33,.rd z07 (a0.length:Int)),(34,.rd z07 s14.2.2)] [(1,some (v1,.box 25 [.val (.slice none 0 0),.val (.slice none 0 0)])),(1101,some (v12,.box 25 [.rd (z02 aZ) s14.1,.rd (z02 z03) s14.2.1])),zG1] aa ww) (fun aa ww h=>Zu h [1,1101,1001]) (fun s14=>?_)
    refine gSR<|Zq (I.lss Z Z)<|Zn<|z0w<|gIf Z Z (fun h15=>?_) (fun h15=>?_)
    ·
     refine Zt<|z0w<|z58<|gSR<|z0u fun x16 h17=>Zq (ixR Z Z h17 tu23 z88 Z)<|Zq (ldR Z z9q)<|Eb Z (z7q 1102 z88 (ZrE.rd (R:=z0i) (x:=0) (Zr.num Z) (ZrE.nilS (ZrE.rd (R:=z2e) (x:=0) (Zr.num Z) (ZrE.rd (R:=z0g) (x:=(⟨0,[],(⟨0,0,0,[]⟩:z04)⟩:z0k)) zn0 (ZrE.rd (R:=z0l) (x:=(⟨0,0⟩:z09)) zl1 ZrE.nil Z) Z) Z)) Z)) fun v18=>zhh aZ [.rd z0i 0,.rd (z02 aZ) [],.rd z2e 0,.rd z0g (⟨0,[],(⟨0,0,0,[]⟩:z04)⟩:z0k),.rd z0l (⟨0,0⟩:z09)] 1102 [.rd z0i 0] [.rd z2e 0,.rd z0g (⟨0,[],(⟨0,0,0,[]⟩:z04)⟩:z0k),.rd z0l (⟨0,0⟩:z09)] Z Z Z<|zgu (R:=z03) (⟨0,[],0,(⟨0,[],(⟨0,0,0,[]⟩:z04)⟩:z0k),(⟨0,0⟩:z09)⟩:z06) 1102 Z (Sp.via (Sp.prod (Sp.prod (Sp.prod (Sp.prod (Sp.prod Sp.unit))))))<|Es (sto 1102 Z Z fH Z z88)<|Zn<|gSR<|Zq (ld 1102 Z Z fH z9q Z)<|Zc [1001] [] Tryz.func36 Z (zll _) fun r19 n20=>Zm Z<|Zq (ext Z Z)<|Zq (ext Z Z)<|Eb Z (z7q 1103 z36 (.zr (R:=aZ) (x:=(Vector.replicate 32 0)) zhl)) fun v21=>Es (sto 1103 Z Z fH Z z36)<|Zb Z<|gSR<|zgu (R:=z01) (⟨s14.1,s14.2.1⟩:z00) 1101 Z (Sp.via (Sp.prod (Sp.prod Sp.unit)))<|Zq (ld 1101 Z Z fH zal Z)<|Zq (ld 1103 Z Z fH z56 Z)<|Zq (ld 1102 Z Z fH z9q Z)<|Zc [] [] Tryz.func37 Z (zrt _ _ _) fun r22 n23=>Zm Z<|Zq (ext Z Z)<|Zq (ext Z Z)<|Eb Z (z7q 1104 zeb (ZrE.nilS (ZrE.nilS ZrE.nil))) fun v24=>zhh aZ [.rd (z02 aZ) [],.val (.slice none 0 0)] 1104 [] [.val (.slice none 0 0)] Z Z Z<|zhh z03 [.rd (z02 aZ) [],.rd (z02 z03) []] 1104 [.rd (z02 aZ) []] [] Z Z Z<|zgu (R:=z01) (⟨[],[]⟩:z00) 1104 Z (Sp.via (Sp.prod (Sp.prod Sp.unit)))<|Es (sto 1104 Z Z fH Z zeb)<|Zb Z<|z0w<|gSR<|Zm Z<|Zq (zd9 Z)<|Zj Z (fun h25=>?_) (fun h25=>?_)
     ·
      refine gSR<|Zq (zve [(0,1),(1,1)] Tryz.underlying25 zeb (ZrE.nilS (ZrE.nilS ZrE.nil)) Z (zjt.done Z))<|Es (zvd 1 Z Z (z0o.cast (z0o.cons z0a (z0o.cons z0a z0o.nil)) Z) Z (z5u.cons z1v (z5u.cons z1v z5u.nil)) (z0o.cast (z0o.cons z0a (z0o.cons z0a z0o.nil)) Z) zeb)<|Zb Z<|z0m<|z10<|z4c<|z10<|z85<|z80<|zp4 aZ [.rd (z02 aZ) [],.val (.slice none 0 0)] 1 [] [.val (.slice none 0 0)] Z Z Z<|zp4 z03 [.rd (z02 aZ) [],.rd (z02 z03) []] 1 [.rd (z02 aZ) []] [] Z Z Z<|zwd (R:=z01) (⟨[],[]⟩:z00) 1 Z (Sp.via (Sp.prod (Sp.prod Sp.unit)))<|zbf [] [1001] Z (eC 1 Z Z zal<|eE Z<|eN) (y1 Z)
     ·
      refine Zt<|z2o<|Zq (ld 1104 Z Z fH zal Z)<|Es (sto 1101 Z Z fH Z zeb)<|z23<|z3h<|z0n<|z2o<|Zq (I.add Z Z)<|Zm Z<|z23<|eSpl (R:=z01) 1101 Z (Sp.via (Sp.prod (Sp.prod Sp.unit)))<|z1l (fun aa ww h=>Zu h [1,1101,1001])
    ·
     refine z24<|z14<|z13<|z8b (fun aa ww h=>Zu h [1,1101,1001])
   ·
    refine z0w<|gSR<|zgu (R:=z01) (⟨s13.1,s13.2⟩:z00) 1101 Z (Sp.via (Sp.prod (Sp.prod Sp.unit)))<|Zq (ld 1101 Z Z fH zal Z)<|Zc [] [] Tryz.func38 Z (zhn _) fun r26 n27=>Zb Z<|gSR<|Zm Z<|Zq (I.neq Z Z)<|Zj Z (fun h28=>?_) (fun h28=>?_)
    ·
     refine gSR<|Zq (zve [(0,1),(1,1)] Tryz.underlying25 zeb (ZrE.nilS (ZrE.nilS ZrE.nil)) Z (zjt.done Z))<|Zm Z<|Es (zvd 1 Z Z (z0o.cast (z0o.cons z0a (z0o.cons z0a z0o.nil)) Z) Z (z5u.cons z1v (z5u.cons z1v z5u.nil)) (z0o.cast (z0o.cons z0a (z0o.cons z0a z0o.nil)) Z) zeb)<|Zb Z<|z0m<|z10<|zp4 aZ [.rd (z02 aZ) [],.val (.slice none 0 0)] 1 [] [.val (.slice none 0 0)] Z Z Z<|zp4 z03 [.rd (z02 aZ) [],.rd (z02 z03) []] 1 [.rd (z02 aZ) []] [] Z Z Z<|zwd (R:=z01) (⟨[],[]⟩:z00) 1 Z (Sp.via (Sp.prod (Sp.prod Sp.unit)))<|zbf [] [1001] Z (eC 1 Z Z zal<|eE Z<|eN) (y1 Z)
    ·
     refine Zt<|gSR<|Zq (ld 1101 Z Z fH zal Z)<|zhh aZ [.rd (z02 aZ) [],.val (.slice none 0 0)] 1 [] [.val (.slice none 0 0)] Z Z Z<|zhh z03 [.rd (z02 aZ) [],.rd (z02 z03) []] 1 [.rd (z02 aZ) []] [] Z Z Z<|zgu (R:=z01) (⟨[],[]⟩:z00) 1 Z (Sp.via (Sp.prod (Sp.prod Sp.unit)))<|Es (sto 1 Z Z fH Z zeb)<|Zb Z<|z0m<|zbf [] [1001] Z (eC 1 Z Z zal<|eE Z<|eN) (y1 Z)
def z6y  : Option (Bool) :=
 z1i 1 [] >>= fun r1 =>
 z1g r1 >>= fun r4 =>
 z1i 2 [r4] >>= fun r7 =>
 z1g r1 >>= fun r10 =>
 z1i 3 [r10] >>= fun r13 =>
 z1g r7 >>= fun r17 =>
 z1g r13 >>= fun r19 =>
 z5q r17 r19 >>= fun r21 =>
 z1i 4 r21 >>= fun r23 =>
 zjm [r23,r13,r7,r1] >>= fun r27 =>
 z8k r27.1 >>= fun r30 =>
 z1g r23 >>= fun r32 =>
 z5k r27.1 r32 >>= fun r34 =>
 z1g r23 >>= fun r36 =>
 z8i r27.1 r36 >>= fun r38 =>
 z4i r27.1 >>= fun r40 =>
 z1g r7 >>= fun r42 =>
 z8d r27.1 [r42] >>= fun r45 =>
 if r27.2==0 then
  if r30.2==0 then
   z1g r23 >>= fun r51 =>
   z31 r30.1 [r51] >>= fun r54 =>
   if r54 then
    if r34.2==0 then
     if (r34.1.length:Int)==3 then
      if r38.2==0 then
       if r38.1==2 then
        if r40.2==0 then
         idx r21 0 >>= fun x62 =>
         idx r21 1 >>= fun x64 =>
         z1g r1 >>= fun r66 =>
         z1g r23 >>= fun r68 =>
         z31 r40.1 [r66,x62,x64,r68] >>= fun r71 =>
         if r71 then
          if r45.2==0 then
           z1g r1 >>= fun r75 =>
           z1g r7 >>= fun r77 =>
           z5q r75 r77 >>= fun r79 =>
           z31 r45.1.IDs r79 >>= fun r81 =>
           some r81
          else
           some false
         else
          some false
        else
         some false
       else
        some false
      else
       some false
     else
      some false
    else
     some false
   else
    some false
  else
   some false
 else
  some false
end
section
open Go Go.RowKit
set_option maxRecDepth 100000
set_option maxHeartbeats 4000000 in
theorem zax  : z1u Tryz.prog 9 [] [zG1] (z6y) (fun r nv=>⟨[.rd z0f r],[(1001,some (.bool true,.glob 1 (z2y 64 z0i) z4q))]⟩):=by
 refine z2m 138 Tryz.func9 Z Z Z fun H w=>?_
 refine gSR<|Zb Z<|gSR<|call [1001] [] Z Tryz.func26 Z Z (z60 _ _) (aQ Z<|aNil Z<|aN) (y1 Z) fun r1 n2=>Eb Z (z7q 1 z88 (ZrE.rd (R:=z0i) (x:=0) (Zr.num Z) (ZrE.nilS (ZrE.rd (R:=z2e) (x:=0) (Zr.num Z) (ZrE.rd (R:=z0g) (x:=(⟨0,[],(⟨0,0,0,[]⟩:z04)⟩:z0k)) zn0 (ZrE.rd (R:=z0l) (x:=(⟨0,0⟩:z09)) zl1 ZrE.nil Z) Z) Z)) Z)) fun v3=>zhh aZ [.rd z0i 0,.rd (z02 aZ) [],.rd z2e 0,.rd z0g (⟨0,[],(⟨0,0,0,[]⟩:z04)⟩:z0k),.rd z0l (⟨0,0⟩:z09)] 1 [.rd z0i 0] [.rd z2e 0,.rd z0g (⟨0,[],(⟨0,0,0,[]⟩:z04)⟩:z0k),.rd z0l (⟨0,0⟩:z09)] Z Z Z<|zgu (R:=z03) (⟨0,[],0,(⟨0,[],(⟨0,0,0,[]⟩:z04)⟩:z0k),(⟨0,0⟩:z09)⟩:z06) 1 Z (Sp.via (Sp.prod (Sp.prod (Sp.prod (Sp.prod (Sp.prod Sp.unit))))))<|Es (sto 1 Z Z fH Z z88)<|Zn<|z0w<|zrm [(1,.val (z05 v3 0))] [zG1,(1,some (v3,.box 46 [.rd z03 r1]))] [1001,1] (sS Z<|sN) (Zi Z<|Zi Z<|rN)<|z5g fun r4 h6=>z5g fun r7 h9=>z5g fun r10 h12=>z5g fun r13 h15=>gOr [] [⟨1,some ([], fun nv=>(v3,.box 46 [.rd z03 r1])),[]⟩,⟨1001,some ([], fun nv=>((.bool true),.glob 1 (z2y 64 z0i) z4q)),[]⟩,⟨2,none,[(2,none)]⟩,⟨3,none,[(6,none)]⟩,⟨4,none,[(8,some ([3], fun nv=>((nv 3),.box 46 [.rd z03 (⟨0,[],0,(⟨0,[],(⟨0,0,0,[]⟩:z04)⟩:z0k),(⟨0,0⟩:z09)⟩:z06)]))),(10,some ([3], fun nv=>((nv 3),.box 46 [.rd z03 r7])))]⟩,⟨5,none,[(9,some ([4], fun nv=>((nv 4),.box 46 [.rd z03 (⟨0,[],0,(⟨0,[],(⟨0,0,0,[]⟩:z04)⟩:z0k),(⟨0,0⟩:z09)⟩:z06)]))),(11,some ([4], fun nv=>((nv 4),.box 46 [.rd z03 r13])))]⟩] [pk 19 (.rd z03 r1) [(0,0,false)],pk 20 (.rd aZ r4) [(1,0,false)],⟨some (21,[], fun nv=>.rd (z02 aZ) [r4]),[(2,0,true)],[1],[]⟩,pk 22 (.rd z03 r7) [(1,0,false)],pk 23 (.rd z03 r1) [(0,0,false)],pk 24 (.rd aZ r10) [(1,0,false)],⟨some (25,[], fun nv=>.rd (z02 aZ) [r10]),[(3,0,true)],[2],[]⟩,pk 26 (.rd z03 r13) [(1,0,false)],⟨some (2,[3], fun nv=>.val (z05 (nv 3) 0)),[(4,0,true)],[3],[]⟩,⟨some (3,[4], fun nv=>.val (z05 (nv 4) 0)),[(5,0,true)],[4],[]⟩,⟨none,[(4,1,true)],[],[]⟩,⟨none,[(5,1,true)],[],[]⟩] mixed (oC (oRn (fun nv E=>ld 1 Z Z fH z9q Z))<|oC (oCl [] [1001] [] h6 Tryz.func27 Z (fun nv=>(z1x _)) (fun nv=>(Y1 Z)) (fun nv E=>(y1 Z)))<|oC (oFz (A1:=fun nv=>[(2,some ((nv 1),.list aZ 36 [r4]))]) 2 1 (oEf 2 1 (fun nv E=>lit (R:=aZ) ([r4]:List V3) 2 (pP Z Z<|pN) Z tu22 z36 Z Z)))<|oC (oCl [] [1001] [] h9 Tryz.func26 Z (fun nv=>(z60 _ _)) (fun nv=>(Y2 Z Z)) (fun nv E=>(y1 Z)))<|oC (oRn (fun nv E=>ld 1 Z Z fH z9q Z))<|oC (oCl [] [1001] [] h12 Tryz.func27 Z (fun nv=>(z1x _)) (fun nv=>(Y1 Z)) (fun nv E=>(y1 Z)))<|oC (oFz (A1:=fun nv=>[(3,some ((nv 2),.list aZ 36 [r10]))]) 3 2 (oEf 3 2 (fun nv E=>lit (R:=aZ) ([r10]:List V3) 3 (pP Z Z<|pN) Z tu22 z36 Z Z)))<|oC (oCl [] [1001] [] h15 Tryz.func26 Z (fun nv=>(z60 _ _)) (fun nv=>(Y2 Z Z)) (fun nv E=>(y1 Z)))<|oC (oEb 4 3 (fun nv E=>z7q 4 z88 (.zr (R:=z03) (x:=(⟨0,[],0,(⟨0,[],(⟨0,0,0,[]⟩:z04)⟩:z0k),(⟨0,0⟩:z09)⟩:z06)) zr46)))<|oC (oEb 5 4 (fun nv E=>z7q 5 z88 (.zr (R:=z03) (x:=(⟨0,[],0,(⟨0,[],(⟨0,0,0,[]⟩:z04)⟩:z0k),(⟨0,0⟩:z09)⟩:z06)) zr46)))<|oC (oEs 4 (fun nv E=>sto 4 Z Z fH Z z88))<|oC (oEs 5 (fun nv E=>sto 5 Z Z fH Z z88))<|oN) fun n16=>z0n<|z0w<|z89 [18,1001] mixed Z Z<|hTk 0 Z Z (ld 4 Z Z fH z9q Z)<|hTk 2 Z Z (ld 5 Z Z fH z9q Z)<|zdv 1 [1001] [] Z (by kernel_rfl) Z (gd0 Z) Z Tryz.func27 Z Z (z1x _) (Y1 Z) (y1 Z) Z fun r17 n18=>zdv 3 [1001] [] Z (by kernel_rfl) Z (gd0 Z) Z Tryz.func27 Z Z (z1x _) (Y1 Z) (y1 Z) Z fun r19 n20=>z37 4 [] [(100,18)] Z (by kernel_rfl) Z (gd0 Z) Z Tryz.func30 Z Z (zci _ _) (Y2 Z Z) rN Z (fun _ _=>z2s) fun r21 n22=>Zf 5 Z Z z2s (asg Z)<|z3r (by kernel_rfl)<|z0n<|gSR<|Zm Z<|zhq 18 [31,4,32] Z (fS Z<|fS Z<|fS Z<|fN)<|Zc [1001] [] Tryz.func26 Z (z60 _ _) fun r23 n24=>Eb Z (z7q 27 z88 (ZrE.rd (R:=z0i) (x:=0) (Zr.num Z) (ZrE.nilS (ZrE.rd (R:=z2e) (x:=0) (Zr.num Z) (ZrE.rd (R:=z0g) (x:=(⟨0,[],(⟨0,0,0,[]⟩:z04)⟩:z0k)) zn0 (ZrE.rd (R:=z0l) (x:=(⟨0,0⟩:z09)) zl1 ZrE.nil Z) Z) Z)) Z)) fun v25=>zhh aZ [.rd z0i 0,.rd (z02 aZ) [],.rd z2e 0,.rd z0g (⟨0,[],(⟨0,0,0,[]⟩:z04)⟩:z0k),.rd z0l (⟨0,0⟩:z09)] 27 [.rd z0i 0] [.rd z2e 0,.rd z0g (⟨0,[],(⟨0,0,0,[]⟩:z04)⟩:z0k),.rd z0l (⟨0,0⟩:z09)] Z Z Z<|zgu (R:=z03) (⟨0,[],0,(⟨0,[],(⟨0,0,0,[]⟩:z04)⟩:z0k),(⟨0,0⟩:z09)⟩:z06) 27 Z (Sp.via (Sp.prod (Sp.prod (Sp.prod (Sp.prod (Sp.prod Sp.unit))))))<|Es (sto 27 Z Z fH Z z88)<|Zn<|gSR<|Zq (ld 27 Z Z fH z9q Z)<|Zq (ld 5 Z Z fH z9q Z)<|Zq (ld 4 Z Z fH z9q Z)<|Zq (ld 1 Z Z fH z9q Z)<|Ef Z (lit (R:=z03) ([r23,r13,r7,r1]:List z06) 28 (pP Z Z<|pP Z Z<|pP Z Z<|pP Z Z<|pN) Z tu23 z88 Z Z) fun v26=>zhq 28 [39] Z (fS Z<|fN)<|Zc [1001] [] Tryz.func11 Z (zmg _) fun r27 n28=>Zm Z<|Zq (ext Z Z)<|Zq (ext Z Z)<|Eb Z (z7q 29 zeb (ZrE.nilS (ZrE.nilS ZrE.nil))) fun v29=>zhh aZ [.rd (z02 aZ) [],.val (.slice none 0 0)] 29 [] [.val (.slice none 0 0)] Z Z Z<|zhh z03 [.rd (z02 aZ) [],.rd (z02 z03) []] 29 [.rd (z02 aZ) []] [] Z Z Z<|zgu (R:=z01) (⟨[],[]⟩:z00) 29 Z (Sp.via (Sp.prod (Sp.prod Sp.unit)))<|Es (sto 29 Z Z fH Z zeb)<|Zb Z<|gSR<|Zq (ld 29 Z Z fH zal Z)<|Zc [1001] [(100,30)] Tryz.func16 Z (zha _) fun r30 n31=>Zm Z<|Zq (ext Z Z)<|Zq (ext Z Z)<|Za Z<|Zb Z<|z0w<|z89 [40,1001] mixed Z Z<|hTk 0 Z Z (ld 29 Z Z fH zal Z)<|hTk 1 Z Z (ld 27 Z Z fH z9q Z)<|zdv 2 [1001] [] Z (by kernel_rfl) Z (gd0 Z) Z Tryz.func27 Z Z (z1x _) (Y1 Z) (y1 Z) Z fun r32 n33=>z37 3 [1001] [(100,40)] Z (by kernel_rfl) Z (gd0 Z) Z Tryz.func20 Z Z (ze8 _ _) (Y2 Z Z) (y1 Z) Z (fun _ _=>(zqu (flC z2s (flC z2v fl0)))) fun r34 n35=>hTk 4 Z Z (mv Z)<|hTk 5 Z Z (ext Z Z)<|hTk 6 Z Z (ext Z Z)<|Zf 7 Z Z z2s (asg Z)<|hTk 8 Z Z (asg Z)<|z3r (by kernel_rfl)<|z0n<|z0w<|z89 [1001] mixed Z Z<|hTk 0 Z Z (ld 29 Z Z fH zal Z)<|hTk 1 Z Z (ld 27 Z Z fH z9q Z)<|zdv 2 [1001] [] Z (by kernel_rfl) Z (gd0 Z) Z Tryz.func27 Z Z (z1x _) (Y1 Z) (y1 Z) Z fun r36 n37=>z37 3 [1001] [] Z (by kernel_rfl) Z (gd0 Z) Z Tryz.func22 Z Z (zhe _ _) (Y2 Z Z) (y1 Z) Z (fun _ _=>(zqu (flC z2v (flC z2v fl0)))) fun r38 n39=>hTk 4 Z Z (mv Z)<|hTk 5 Z Z (ext Z Z)<|hTk 6 Z Z (ext Z Z)<|hTk 7 Z Z (asg Z)<|hTk 8 Z Z (asg Z)<|z3r (by kernel_rfl)<|z0n<|gSR<|Zq (ld 29 Z Z fH zal Z)<|Zc [1001] [(100,91)] Tryz.func10 Z (z7p _) fun r40 n41=>Zm Z<|Zq (ext Z Z)<|Zq (ext Z Z)<|Za Z<|Zb Z<|z0w<|zrm [(1,.val (z05 v3 0)),(2,.val (z05 (n16 3) 0)),(4,.rd (z02 aZ) r21),(5,.val (z05 v25 0)),(6,.val (z05 v29 0)),(7,.rd z07 r27.2),(8,.val (n31 0)),(9,.rd z07 r30.2),(10,.val (n35 0)),(11,.rd z07 r34.2),(12,.rd z07 r38.1),(13,.rd z07 r38.2),(14,.val (n41 0)),(15,.rd z07 r40.2)] [zG1,(1,some (v3,.box 46 [.rd z03 r1])),(4,some ((n16 3),.box 46 [.rd z03 r7])),(5,some ((n16 4),.box 46 [.rd z03 r13])),(27,some (v25,.box 46 [.rd z03 r23])),(29,some (v29,.box 25 [.rd z01 r27.1])),(30,some ((n31 0),.list aZ 36 r30.1)),(40,some ((n35 0),.list aZ 36 r34.1)),(91,some ((n41 0),.list aZ 36 r40.1))] [1001,1,4,5,27,29,30,40,91] (Zs Z Z Z Z<|Zs Z Z Z Z<|Zs Z Z Z Z<|sS Z<|sS Z<|sN) (Zi Z<|Zi Z<|Zi Z<|Zi Z<|Zi Z<|Zi Z<|Zi Z<|Zi Z<|Zi Z<|rN)<|z5g fun r42 h44=>z5g fun r45 h47=>gOr [] [⟨29,some ([], fun nv=>(v29,.box 25 [.rd z01 r27.1])),[]⟩,⟨4,some ([], fun nv=>((n16 3),.box 46 [.rd z03 r7])),[]⟩,⟨1001,some ([], fun nv=>((.bool true),.glob 1 (z2y 64 z0i) z4q)),[]⟩,⟨92,none,[(3,none)]⟩,⟨93,none,[(8,some ([2], fun nv=>((nv 2),.box 25 [.rd z01 (⟨[],[]⟩:z00)]))),(9,some ([2], fun nv=>((nv 2),.box 25 [.rd z01 r45.1])))]⟩] [pk 68 (.rd z01 r27.1) [(0,0,false)],pk 69 (.rd z03 r7) [(1,0,false)],pk 70 (.rd aZ r42) [(2,0,false)],⟨some (71,[], fun nv=>.rd (z02 aZ) [r42]),[(3,0,true)],[1],[]⟩,pk 72 (.tup [.rd z01 r45.1,.rd z07 r45.2]) [(2,0,false)],pd 67 (.tup [.rd z01 r45.1,.rd z07 r45.2]),pd 73 (.rd z01 r45.1),pd 74 (.rd z07 r45.2),⟨some (16,[2], fun nv=>.val (z05 (nv 2) 0)),[(4,0,true)],[2],[]⟩,⟨none,[(4,1,true)],[],[]⟩,pd 17 (.rd z07 r45.2)] mixed (oC (oRn (fun nv E=>ld 29 Z Z fH zal Z))<|oC (oRn (fun nv E=>ld 4 Z Z fH z9q Z))<|oC (oCl [] [1001] [] h44 Tryz.func27 Z (fun nv=>(z1x _)) (fun nv=>(Y1 Z)) (fun nv E=>(y1 Z)))<|oC (oFz (A1:=fun nv=>[(92,some ((nv 1),.list aZ 36 [r42]))]) 92 1 (oEf 92 1 (fun nv E=>lit (R:=aZ) ([r42]:List V3) 92 (pP Z Z<|pN) Z tu22 z36 Z Z)))<|oC (oCl [] [1001] [] h47 Tryz.func17 Z (fun nv=>(zhc _ _)) (fun nv=>(Y2 Z Z)) (fun nv E=>(y1 Z)))<|oC (oRn (fun nv E=>mv Z))<|oC (oRn (fun nv E=>ext Z Z))<|oC (oRn (fun nv E=>ext Z Z))<|oC (oEb 93 2 (fun nv E=>z7q 93 zeb (.zr (R:=z01) (x:=(⟨[],[]⟩:z00)) zr25)))<|oC (oEs 93 (fun nv E=>sto 93 Z Z fH Z zeb))<|oC (oRn (fun nv E=>asg Z))<|oN) fun n48=>z0n<|z0w<|z89 [124,232,274,1001] mixed Z Z<|hTk 0 Z Z (mv Z)<|hTk 1 Z Z (I.eql Z Z)<|hTk 2 Z Z (mv Z)<|hIf 77 Z Z (fun h49=>?_) (fun h49=>?_)
 ·
  refine hKn 76 Z Z h49<|Zg 3 Z Z (mv Z)<|Zg 4 Z Z (I.eql Z Z)<|hTk 5 Z Z (pkT Z Z)<|hTk 6 Z Z (mv Z)<|hIf 81 Z Z (fun h50=>?_) (fun h50=>?_)
  ·
   refine hKn 79 Z Z h50<|hKn 80 Z Z h50<|Zg 7 Z Z (mv Z)<|Zg 8 Z Z (ld 27 Z Z fH z9q Z)<|zdv 9 [1001] [] Z (by kernel_rfl) Z Zx Z Tryz.func27 Z Z (z1x _) (Y1 Z) (y1 Z) Z fun r51 n52=>hDo 10 Z (by kernel_rfl) Zx Z Z Z (lit (R:=aZ) ([r51]:List V3) 124 (pP Z Z<|pN) Z tu22 z36 Z Z) (fun _=>rfl) fun v53=>zsw 30 [8,82] Z (fS Z<|fS Z<|fN)<|zsw 124 [85] Z (fS Z<|fN)<|z37 11 [] [] Z (by kernel_rfl) Z Zx Z Tryz.func12 Z Z (z5o _ _) (Y2 Z Z) rN Z (fun _ _=>za8) fun r54 n55=>hTk 12 Z Z (pkT Z Z)<|hTk 13 Z Z (mv Z)<|hIf 88 Z Z (fun h56=>?_) (fun h56=>?_)
   ·
    refine hKn 86 Z Z h56<|hKn 87 Z Z h56<|Zg 14 Z Z (mv Z)<|Zg 15 Z Z (I.eql Z Z)<|hTk 16 Z Z (pkT Z Z)<|hTk 17 Z Z (mv Z)<|hIf 92 Z Z (fun h57=>?_) (fun h57=>?_)
    ·
     refine hKn 90 Z Z h57<|hKn 91 Z Z h57<|Zg 18 Z Z (mv Z)<|Zg 19 Z Z (z3q Z (.own 40 Z) Z tu22)<|Zg 20 Z Z (I.eql Z Z)<|hTk 21 Z Z (pkT Z Z)<|hTk 22 Z Z (mv Z)<|hIf 97 Z Z (fun h58=>?_) (fun h58=>?_)
     ·
      refine hKn 95 Z Z h58<|hKn 96 Z Z h58<|Zg 23 Z Z (mv Z)<|Zg 24 Z Z (I.eql Z Z)<|hTk 25 Z Z (pkT Z Z)<|hTk 26 Z Z (mv Z)<|hIf 101 Z Z (fun h59=>?_) (fun h59=>?_)
      ·
       refine hKn 99 Z Z h59<|hKn 100 Z Z h59<|Zg 27 Z Z (mv Z)<|Zg 28 Z Z (I.eql Z Z)<|hTk 29 Z Z (pkT Z Z)<|hTk 30 Z Z (mv Z)<|hIf 105 Z Z (fun h60=>?_) (fun h60=>?_)
       ·
        refine hKn 103 Z Z h60<|hKn 104 Z Z h60<|Zg 31 Z Z (mv Z)<|Zg 32 Z Z (I.eql Z Z)<|hTk 33 Z Z (pkT Z Z)<|hTk 34 Z Z (mv Z)<|hIf 109 Z Z (fun h61=>?_) (fun h61=>?_)
        ·
         refine hKn 107 Z Z h61<|hKn 108 Z Z h61<|Zg 35 Z Z (mv Z)<|Zg 36 Z Z (ld 1 Z Z fH z9q Z)<|Zg 38 Z Z (mv Z)<|z51 fun x62 h63=>Zg 39 Z Z (ixR Z Z h63 tu22 z36 Z)<|Zg 40 Z Z (ldR Z z56)<|Zg 41 Z Z (mv Z)<|z51 fun x64 h65=>Zg 42 Z Z (ixR Z Z h65 tu22 z36 Z)<|Zg 43 Z Z (ldR Z z56)<|Zg 44 Z Z (ld 27 Z Z fH z9q Z)<|zdv 37 [1001] [] Z (by kernel_rfl) Z Zx Z Tryz.func27 Z Z (z1x _) (Y1 Z) (y1 Z) Z fun r66 n67=>zdv 45 [1001] [] Z (by kernel_rfl) Z Zx Z Tryz.func27 Z Z (z1x _) (Y1 Z) (y1 Z) Z fun r68 n69=>hDo 46 Z (by kernel_rfl) Zx Z Z Z (lit (R:=aZ) ([r66,x62,x64,r68]:List V3) 232 (pP Z Z<|pP Z Z<|pP Z Z<|pP Z Z<|pN) Z tu22 z36 Z Z) (fun _=>rfl) fun v70=>zsw 91 [14,110] Z (fS Z<|fS Z<|fN)<|zsw 232 [121] Z (fS Z<|fN)<|z37 47 [] [] Z (by kernel_rfl) Z Zx Z Tryz.func12 Z Z (z5o _ _) (Y2 Z Z) rN Z (fun _ _=>za8) fun r71 n72=>hTk 48 Z Z (pkT Z Z)<|hTk 49 Z Z (mv Z)<|hIf 124 Z Z (fun h73=>?_) (fun h73=>?_)
         ·
          refine hKn 122 Z Z h73<|hKn 123 Z Z h73<|Zg 50 Z Z (mv Z)<|Zg 51 Z Z (I.eql Z Z)<|hTk 52 Z Z (pkT Z Z)<|hTk 53 Z Z (mv Z)<|hIf 128 Z Z (fun h74=>?_) (fun h74=>?_)
          ·
           refine hKn 126 Z Z h74<|hKn 127 Z Z h74<|Zg 54 Z Z (faB 93 Z Z Tryz.underlying25 Z (by exact z8p))<|Zg 55 Z Z (ld 93 Z Z (fP (z0b _)) z9o Z)<|Zg 56 Z Z (ld 1 Z Z fH z9q Z)<|Zg 58 Z Z (ld 4 Z Z fH z9q Z)<|zdv 57 [1001] [] Z (by kernel_rfl) Z Zx Z Tryz.func27 Z Z (z1x _) (Y1 Z) (y1 Z) Z fun r75 n76=>zdv 59 [1001] [] Z (by kernel_rfl) Z Zx Z Tryz.func27 Z Z (z1x _) (Y1 Z) (y1 Z) Z fun r77 n78=>z37 60 [] [(100,274)] Z (by kernel_rfl) Z Zx Z Tryz.func30 Z Z (zci _ _) (Y2 Z Z) rN Z (fun _ _=>z2s) fun r79 n80=>zsw 274 [135] Z (fS Z<|fN)<|z37 61 [] [] Z (by kernel_rfl) Z Zx Z Tryz.func12 Z Z (z5o _ _) (Y2 Z Z) rN Z (fun _ _=>za8) fun r81 n82=>hTk 62 Z Z (pkT Z Z)<|hTk 63 Z Z (asg Z)<|z3r (by kernel_rfl)<|z0n<|z0m<|Ze [] [1001] Z
          ·
           refine hKn 126 Z Z h74<|hKn 127 Z Z h74<|hSk 54 Z Z<|hSk 55 Z Z<|hSk 56 Z Z<|hSk 57 Z Z<|hSk 58 Z Z<|hSk 59 Z Z<|hSk 60 Z Z<|hSk 61 Z Z<|hTk 62 Z Z (pkF Z Z)<|hTk 63 Z Z (asg Z)<|z3r (by kernel_rfl)<|z0n<|z0m<|Ze [] [1001] Z
         ·
          refine hKn 122 Z Z h73<|hKn 123 Z Z h73<|hSk 50 Z Z<|hSk 51 Z Z<|hTk 52 Z Z (pkF Z Z)<|hTk 53 Z Z (mv Z)<|hSk 54 Z Z<|hSk 55 Z Z<|hSk 56 Z Z<|hSk 57 Z Z<|hSk 58 Z Z<|hSk 59 Z Z<|hSk 60 Z Z<|hSk 61 Z Z<|hTk 62 Z Z (pkF Z Z)<|hTk 63 Z Z (asg Z)<|z3r (by kernel_rfl)<|z0n<|z0m<|Ze [] [1001] Z
        ·
         refine hKn 107 Z Z h61<|hKn 108 Z Z h61<|hSk 35 Z Z<|hSk 36 Z Z<|hSk 37 Z Z<|hSk 38 Z Z<|hSk 39 Z Z<|hSk 40 Z Z<|hSk 41 Z Z<|hSk 42 Z Z<|hSk 43 Z Z<|hSk 44 Z Z<|hSk 45 Z Z<|hSk 46 Z Z<|hSk 47 Z Z<|hTk 48 Z Z (pkF Z Z)<|hTk 49 Z Z (mv Z)<|hSk 50 Z Z<|hSk 51 Z Z<|hTk 52 Z Z (pkF Z Z)<|hTk 53 Z Z (mv Z)<|hSk 54 Z Z<|hSk 55 Z Z<|hSk 56 Z Z<|hSk 57 Z Z<|hSk 58 Z Z<|hSk 59 Z Z<|hSk 60 Z Z<|hSk 61 Z Z<|hTk 62 Z Z (pkF Z Z)<|hTk 63 Z Z (asg Z)<|z3r (by kernel_rfl)<|z0n<|z0m<|Ze [] [1001] Z
       ·
        refine hKn 103 Z Z h60<|hKn 104 Z Z h60<|hSk 31 Z Z<|hSk 32 Z Z<|hTk 33 Z Z (pkF Z Z)<|hTk 34 Z Z (mv Z)<|hSk 35 Z Z<|hSk 36 Z Z<|hSk 37 Z Z<|hSk 38 Z Z<|hSk 39 Z Z<|hSk 40 Z Z<|hSk 41 Z Z<|hSk 42 Z Z<|hSk 43 Z Z<|hSk 44 Z Z<|hSk 45 Z Z<|hSk 46 Z Z<|hSk 47 Z Z<|hTk 48 Z Z (pkF Z Z)<|hTk 49 Z Z (mv Z)<|hSk 50 Z Z<|hSk 51 Z Z<|hTk 52 Z Z (pkF Z Z)<|hTk 53 Z Z (mv Z)<|hSk 54 Z Z<|hSk 55 Z Z<|hSk 56 Z Z<|hSk 57 Z Z<|hSk 58 Z Z<|hSk 59 Z Z<|hSk 60 Z Z<|hSk 61 Z Z<|hTk 62 Z Z (pkF Z Z)<|hTk 63 Z Z (asg Z)<|z3r (by kernel_rfl)<|z0n<|z0m<|Ze [] [1001] Z
      ·
       refine hKn 99 Z Z h59<|hKn 100 Z Z h59<|hSk 27 Z Z<|hSk 28 Z Z<|hTk 29 Z Z (pkF Z Z)<|hTk 30 Z Z (mv Z)<|hSk 31 Z Z<|hSk 32 Z Z<|hTk 33 Z Z (pkF Z Z)<|hTk 34 Z Z (mv Z)<|hSk 35 Z Z<|hSk 36 Z Z<|hSk 37 Z Z<|hSk 38 Z Z<|hSk 39 Z Z<|hSk 40 Z Z<|hSk 41 Z Z<|hSk 42 Z Z<|hSk 43 Z Z<|hSk 44 Z Z<|hSk 45 Z Z<|hSk 46 Z Z<|hSk 47 Z Z<|hTk 48 Z Z (pkF Z Z)<|hTk 49 Z Z (mv Z)<|hSk 50 Z Z<|hSk 51 Z Z<|hTk 52 Z Z (pkF Z Z)<|hTk 53 Z Z (mv Z)<|hSk 54 Z Z<|hSk 55 Z Z<|hSk 56 Z Z<|hSk 57 Z Z<|hSk 58 Z Z<|hSk 59 Z Z<|hSk 60 Z Z<|hSk 61 Z Z<|hTk 62 Z Z (pkF Z Z)<|hTk 63 Z Z (asg Z)<|z3r (by kernel_rfl)<|z0n<|z0m<|Ze [] [1001] Z
     ·
      refine hKn 95 Z Z h58<|hKn 96 Z Z h58<|hSk 23 Z Z<|hSk 24 Z Z<|hTk 25 Z Z (pkF Z Z)<|hTk 26 Z Z (mv Z)<|hSk 27 Z Z<|hSk 28 Z Z<|hTk 29 Z Z (pkF Z Z)<|hTk 30 Z Z (mv Z)<|hSk 31 Z Z<|hSk 32 Z Z<|hTk 33 Z Z (pkF Z Z)<|hTk 34 Z Z (mv Z)<|hSk 35 Z Z<|hSk 36 Z Z<|hSk 37 Z Z<|hSk 38 Z Z<|hSk 39 Z Z<|hSk 40 Z Z<|hSk 41 Z Z<|hSk 42 Z Z<|hSk 43 Z Z<|hSk 44 Z Z<|hSk 45 Z Z<|hSk 46 Z Z<|hSk 47 Z Z<|hTk 48 Z Z (pkF Z Z)<|hTk 49 Z Z (mv Z)<|hSk 50 Z Z<|hSk 51 Z Z<|hTk 52 Z Z (pkF Z Z)<|hTk 53 Z Z (mv Z)<|hSk 54 Z Z<|hSk 55 Z Z<|hSk 56 Z Z<|hSk 57 Z Z<|hSk 58 Z Z<|hSk 59 Z Z<|hSk 60 Z Z<|hSk 61 Z Z<|hTk 62 Z Z (pkF Z Z)<|hTk 63 Z Z (asg Z)<|z3r (by kernel_rfl)<|z0n<|z0m<|Ze [] [1001] Z
    ·
     refine hKn 90 Z Z h57<|hKn 91 Z Z h57<|hSk 18 Z Z<|hSk 19 Z Z<|hSk 20 Z Z<|hTk 21 Z Z (pkF Z Z)<|hTk 22 Z Z (mv Z)<|hSk 23 Z Z<|hSk 24 Z Z<|hTk 25 Z Z (pkF Z Z)<|hTk 26 Z Z (mv Z)<|hSk 27 Z Z<|hSk 28 Z Z<|hTk 29 Z Z (pkF Z Z)<|hTk 30 Z Z (mv Z)<|hSk 31 Z Z<|hSk 32 Z Z<|hTk 33 Z Z (pkF Z Z)<|hTk 34 Z Z (mv Z)<|hSk 35 Z Z<|hSk 36 Z Z<|hSk 37 Z Z<|hSk 38 Z Z<|hSk 39 Z Z<|hSk 40 Z Z<|hSk 41 Z Z<|hSk 42 Z Z<|hSk 43 Z Z<|hSk 44 Z Z<|hSk 45 Z Z<|hSk 46 Z Z<|hSk 47 Z Z<|hTk 48 Z Z (pkF Z Z)<|hTk 49 Z Z (mv Z)<|hSk 50 Z Z<|hSk 51 Z Z<|hTk 52 Z Z (pkF Z Z)<|hTk 53 Z Z (mv Z)<|hSk 54 Z Z<|hSk 55 Z Z<|hSk 56 Z Z<|hSk 57 Z Z<|hSk 58 Z Z<|hSk 59 Z Z<|hSk 60 Z Z<|hSk 61 Z Z<|hTk 62 Z Z (pkF Z Z)<|hTk 63 Z Z (asg Z)<|z3r (by kernel_rfl)<|z0n<|z0m<|Ze [] [1001] Z
   ·
    refine hKn 86 Z Z h56<|hKn 87 Z Z h56<|hSk 14 Z Z<|hSk 15 Z Z<|hTk 16 Z Z (pkF Z Z)<|hTk 17 Z Z (mv Z)<|hSk 18 Z Z<|hSk 19 Z Z<|hSk 20 Z Z<|hTk 21 Z Z (pkF Z Z)<|hTk 22 Z Z (mv Z)<|hSk 23 Z Z<|hSk 24 Z Z<|hTk 25 Z Z (pkF Z Z)<|hTk 26 Z Z (mv Z)<|hSk 27 Z Z<|hSk 28 Z Z<|hTk 29 Z Z (pkF Z Z)<|hTk 30 Z Z (mv Z)<|hSk 31 Z Z<|hSk 32 Z Z<|hTk 33 Z Z (pkF Z Z)<|hTk 34 Z Z (mv Z)<|hSk 35 Z Z<|hSk 36 Z Z<|hSk 37 Z Z<|hSk 38 Z Z<|hSk 39 Z Z<|hSk 40 Z Z<|hSk 41 Z Z<|hSk 42 Z Z<|hSk 43 Z Z<|hSk 44 Z Z<|hSk 45 Z Z<|hSk 46 Z Z<|hSk 47 Z Z<|hTk 48 Z Z (pkF Z Z)<|hTk 49 Z Z (mv Z)<|hSk 50 Z Z<|hSk 51 Z Z<|hTk 52 Z Z (pkF Z Z)<|hTk 53 Z Z (mv Z)<|hSk 54 Z Z<|hSk 55 Z Z<|hSk 56 Z Z<|hSk 57 Z Z<|hSk 58 Z Z<|hSk 59 Z Z<|hSk 60 Z Z<|hSk 61 Z Z<|hTk 62 Z Z (pkF Z Z)<|hTk 63 Z Z (asg Z)<|z3r (by kernel_rfl)<|z0n<|z0m<|Ze [] [1001] Z
  ·
   refine hKn 79 Z Z h50<|hKn 80 Z Z h50<|hSk 7 Z Z<|hSk 8 Z Z<|hSk 9 Z Z<|hSk 10 Z Z<|hSk 11 Z Z<|hTk 12 Z Z (pkF Z Z)<|hTk 13 Z Z (mv Z)<|hSk 14 Z Z<|hSk 15 Z Z<|hTk 16 Z Z (pkF Z Z)<|hTk 17 Z Z (mv Z)<|hSk 18 Z Z<|hSk 19 Z Z<|hSk 20 Z Z<|hTk 21 Z Z (pkF Z Z)<|hTk 22 Z Z (mv Z)<|hSk 23 Z Z<|hSk 24 Z Z<|hTk 25 Z Z (pkF Z Z)<|hTk 26 Z Z (mv Z)<|hSk 27 Z Z<|hSk 28 Z Z<|hTk 29 Z Z (pkF Z Z)<|hTk 30 Z Z (mv Z)<|hSk 31 Z Z<|hSk 32 Z Z<|hTk 33 Z Z (pkF Z Z)<|hTk 34 Z Z (mv Z)<|hSk 35 Z Z<|hSk 36 Z Z<|hSk 37 Z Z<|hSk 38 Z Z<|hSk 39 Z Z<|hSk 40 Z Z<|hSk 41 Z Z<|hSk 42 Z Z<|hSk 43 Z Z<|hSk 44 Z Z<|hSk 45 Z Z<|hSk 46 Z Z<|hSk 47 Z Z<|hTk 48 Z Z (pkF Z Z)<|hTk 49 Z Z (mv Z)<|hSk 50 Z Z<|hSk 51 Z Z<|hTk 52 Z Z (pkF Z Z)<|hTk 53 Z Z (mv Z)<|hSk 54 Z Z<|hSk 55 Z Z<|hSk 56 Z Z<|hSk 57 Z Z<|hSk 58 Z Z<|hSk 59 Z Z<|hSk 60 Z Z<|hSk 61 Z Z<|hTk 62 Z Z (pkF Z Z)<|hTk 63 Z Z (asg Z)<|z3r (by kernel_rfl)<|z0n<|z0m<|Ze [] [1001] Z
 ·
  refine hKn 76 Z Z h49<|hSk 3 Z Z<|hSk 4 Z Z<|hTk 5 Z Z (pkF Z Z)<|hTk 6 Z Z (mv Z)<|hSk 7 Z Z<|hSk 8 Z Z<|hSk 9 Z Z<|hSk 10 Z Z<|hSk 11 Z Z<|hTk 12 Z Z (pkF Z Z)<|hTk 13 Z Z (mv Z)<|hSk 14 Z Z<|hSk 15 Z Z<|hTk 16 Z Z (pkF Z Z)<|hTk 17 Z Z (mv Z)<|hSk 18 Z Z<|hSk 19 Z Z<|hSk 20 Z Z<|hTk 21 Z Z (pkF Z Z)<|hTk 22 Z Z (mv Z)<|hSk 23 Z Z<|hSk 24 Z Z<|hTk 25 Z Z (pkF Z Z)<|hTk 26 Z Z (mv Z)<|hSk 27 Z Z<|hSk 28 Z Z<|hTk 29 Z Z (pkF Z Z)<|hTk 30 Z Z (mv Z)<|hSk 31 Z Z<|hSk 32 Z Z<|hTk 33 Z Z (pkF Z Z)<|hTk 34 Z Z (mv Z)<|hSk 35 Z Z<|hSk 36 Z Z<|hSk 37 Z Z<|hSk 38 Z Z<|hSk 39 Z Z<|hSk 40 Z Z<|hSk 41 Z Z<|hSk 42 Z Z<|hSk 43 Z Z<|hSk 44 Z Z<|hSk 45 Z Z<|hSk 46 Z Z<|hSk 47 Z Z<|hTk 48 Z Z (pkF Z Z)<|hTk 49 Z Z (mv Z)<|hSk 50 Z Z<|hSk 51 Z Z<|hTk 52 Z Z (pkF Z Z)<|hTk 53 Z Z (mv Z)<|hSk 54 Z Z<|hSk 55 Z Z<|hSk 56 Z Z<|hSk 57 Z Z<|hSk 58 Z Z<|hSk 59 Z Z<|hSk 60 Z Z<|hSk 61 Z Z<|hTk 62 Z Z (pkF Z Z)<|hTk 63 Z Z (asg Z)<|z3r (by kernel_rfl)<|z0n<|z0m<|Ze [] [1001] Z
def z2x (a0:z00) (s26:(List V3) × Bool) (s38:Int) (s41:Int):Option (Sum (Sum (Sum (Sum Bool Unit) Int) Unit) Int) :=
 if decide (s41<(a0.IDs.length:Int)) then
  (cut s26.1 0 s38 >>= fun x44 =>
  idx a0.IDs s41 >>= fun x46 =>
  z6r x44 x46 >>= fun r48 =>
  if decide (r48<0) then
   cut s26.1 0 s38 >>= fun x51 =>
   idx a0.Ops s41 >>= fun x53 =>
   z2i x51 x53.Preds >>= fun r55 =>
   some r55
  else
   some false) >>= fun s43 =>
  (if s43 then
   idx a0.IDs s41 >>= fun x59 =>
   idx s26.1 s38 >>= fun x61 =>
   z5r x59 x61 >>= fun r63 =>
   if decide (r63<0) then
    some true
   else
    some false
  else
   idx a0.IDs s41 >>= fun x66 =>
   idx s26.1 s38 >>= fun x68 =>
   some (decide (x66=x68))) >>= fun s57 =>
  if s57 then
   some (.inl (.inl (.inl (.inl false))))
  else
   some (w64 (s41+1)) >>= fun y71 =>
   some (.inr y71)
 else
  some (.inl (.inr ()))
def z2w (a0:z00) (s26:(List V3) × Bool) (s38:Int):Option (Sum (Sum Bool Unit) Int) :=
 if decide (s38<(s26.1.length:Int)) then
  z6l (iter (z2x a0 s26 s38) 0) fun s40 =>
  some (w64 (s38+1)) >>= fun y72 =>
  some (.inr y72)
 else
  some (.inl (.inr ()))
def z6j (a0:z00) (a1:Int):Option (Bool) :=
 (z9z a0 >>= fun r3 =>
 if !r3 then
  some true
 else
  if decide (a1<0) then
   some true
  else
   some (decide ((a0.Ops.length:Int)<a1))) >>= fun s2 =>
 if s2 then
  z6y >>= fun r8 =>
  some r8
 else
  z4i a0 >>= fun r10 =>
  cut a0.Ops a1 (a0.Ops.length:Int) >>= fun x12 =>
  app 112 ([]:List z06) x12 >>= fun x14 =>
  cut a0.Ops 0 a1 >>= fun x16 =>
  app 112 x14 x16 >>= fun x18 =>
  zjm x18 >>= fun r20 =>
  z4i r20.1 >>= fun r24 =>
  (if r10.2 != 0 then
   some (r10.1,true)
  else
   if r20.2 != 0 then
    some (r10.1,true)
   else
    if r24.2 != 0 then
     some (r10.1,true)
    else
     z31 r10.1 r24.1 >>= fun r30 =>
     if !r30 then
      some (r10.1,true)
     else
      if (r10.1.length:Int) != (a0.IDs.length:Int) then
       some (r10.1,true)
      else
       z2i r10.1 a0.IDs >>= fun r34 =>
       some (r10.1,!r34)) >>= fun s26 =>
  if s26.2 then
   some false
  else
   z6l (iter (z2w a0 s26) 0) fun s37 =>
   z6y >>= fun r73 =>
   some r73
end
section
open Go Go.RowKit
set_option maxRecDepth 100000
set_option maxHeartbeats 4000000 in
theorem zbb (a0:z00) (a1:Int):z1u Tryz.prog 3 [.rd z01 a0,.rd z07 a1] [zG1] (z6j a0 a1) (fun r nv=>⟨[.rd z0f r],[(1001,some (.bool true,.glob 1 (z2y 64 z0i) z4q))]⟩):=by
 refine z2m 151 Tryz.func3 Z Z Z fun H w=>?_
 refine gSR<|Eb Z (bx 1 Z) fun v1=>Zb Z<|z0w<|z7m (fun (s2:Bool) aa ww=>Sta (ctx 151 H [zG1] w) [(1,.rd z07 a1),(2,.val (z05 v1 0)),(27,.rd z0f s2)] [(1,some (v1,.box 25 [.rd z01 a0])),zG1] aa ww) ?_ (fun s2=>?_)
 ·
  refine z2o<|Zq (ld 1 Z Z fH zal Z)<|Zc [] [] Tryz.func8 Z (zhg _) fun r3 n4=>Zq (zd9 Z)<|Zm Z<|z2n 17 Z (fun h5=>?_) (fun h5=>?_)
  ·
   refine lKn 16 Z h5<|Zk Z<|Zk Z<|Zq (pkT Z Z)<|Zm Z<|Zk Z<|Zk Z<|Zk Z<|Zk Z<|Zk Z<|Zq (pkT Z Z)<|z23<|z3s (fun aa ww h=>Zu h [1,1001])
  ·
   refine lKn 16 Z h5<|z1y Zx Z Z (mv Z)<|z1y Zx Z Z (I.lss Z Z)<|Zq (pkF Z Z)<|Zm Z<|z2n 21 Z (fun h6=>?_) (fun h6=>?_)
   ·
    refine lKn 19 Z h6<|lKn 20 Z h6<|Zk Z<|Zk Z<|Zk Z<|Zk Z<|Zk Z<|Zq (pkT Z Z)<|z23<|z3s (fun aa ww h=>Zu h [1,1001])
   ·
    refine lKn 19 Z h6<|lKn 20 Z h6<|z1y Zx Z Z (mv Z)<|z1y Zx Z Z (faB 1 Z Z Tryz.underlying25 Z (by exact zap))<|z1y Zx Z Z (ld 1 Z Z (fP (z08 _)) zdk Z)<|z1y Zx Z Z (z3q Z .rd Z tu23)<|z1y Zx Z Z (I.gtr Z Z)<|Zq (pkF Z Z)<|z23<|z3s (fun aa ww h=>Zu h [1,1001])
 ·
  refine gIf Z Z (fun h7=>?_) (fun h7=>?_)
  ·
   refine gSR<|Zc [1001] [] Tryz.func9 Z (zax) fun r8 n9=>Zb Z<|z0m<|z10<|Ze [] [1001] Z
  ·
   refine Zt<|gSR<|Zq (ld 1 Z Z fH zal Z)<|Zc [1001] [(100,1100)] Tryz.func10 Z (z7p _) fun r10 n11=>Zm Z<|Zq (ext Z Z)<|Zq (ext Z Z)<|Za Z<|Zb Z<|z0w<|zrm [(1,.rd z07 a1),(2,.val (z05 v1 0)),(5,.val (n11 0)),(6,.rd z07 r10.2)] [(1,some (v1,.box 25 [.rd z01 a0])),zG1,(1100,some ((n11 0),.list aZ 36 r10.1))] [1,1001,1100] (Zs Z Z Z Z<|sN) (Zi Z<|Zi Z<|Zi Z<|rN)<|z5g fun x12 h13=>z5g fun x14 h15=>z5g fun x16 h17=>z5g fun x18 h19=>z5g fun r20 h22=>gOr [] [⟨1101,none,[(0,some ([1], fun nv=>((nv 1),.list z03 46 ([]:List z06)))),(5,some ([2], fun nv=>((nv 2),.list z03 46 x14))),(10,none)]⟩,⟨1,some ([], fun nv=>(v1,.box 25 [.rd z01 a0])),[]⟩,⟨1001,some ([], fun nv=>((.bool true),.glob 1 (z2y 64 z0i) z4q)),[]⟩,⟨1102,none,[(15,some ([4], fun nv=>((nv 4),.box 25 [.rd z01 (⟨[],[]⟩:z00)]))),(16,some ([4], fun nv=>((nv 4),.box 25 [.rd z01 r20.1])))]⟩] [⟨some (35,[1], fun nv=>.val (nv 1)),[(0,0,true)],[1],[]⟩,pk 36 (.val (z05 v1 (0+1))) [(1,0,false)],pk 37 (.rd (z02 z03) a0.Ops) [(1,0,false)],pd 38 (.rd z07 a1),pd 39 (.rd (z02 z03) x12),⟨some (40,[2], fun nv=>.val (nv 2)),[(0,1,true)],[2],[]⟩,pk 41 (.val (z05 v1 (0+1))) [(1,0,false)],pk 42 (.rd (z02 z03) a0.Ops) [(1,0,false)],pd 43 (.rd z07 a1),pd 44 (.rd (z02 z03) x16),⟨some (45,[], fun nv=>.rd (z02 z03) x18),[(0,2,true)],[3],[]⟩,pk 46 (.tup [.rd z01 r20.1,.rd z07 r20.2]) [(2,0,false)],pd 34 (.tup [.rd z01 r20.1,.rd z07 r20.2]),pd 47 (.rd z01 r20.1),pd 48 (.rd z07 r20.2),⟨some (7,[4], fun nv=>.val (z05 (nv 4) 0)),[(3,0,true)],[4],[]⟩,⟨none,[(3,1,true)],[],[]⟩,pd 8 (.rd z07 r20.2)] mixed (oC (oEf 1101 1 (fun nv E=>lit (R:=z03) (([]:List z06):List z06) 1101 (pN) Z tu23 z88 Z Z))<|oC (oRn (fun nv E=>faB 1 Z Z Tryz.underlying25 Z (by exact zap)))<|oC (oRn (fun nv E=>ld 1 Z Z (fP (z08 _)) zdk Z))<|oC (oRn (fun nv E=>mv Z))<|oC (oRn (fun nv E=>cut' Z (.to Z) .no h13 tu23 z88))<|oC (oEf 1101 2 (fun nv E=>apn 1101 Z Z Z .rd h15 tu23 z88 Z Z Z))<|oC (oRn (fun nv E=>faB 1 Z Z Tryz.underlying25 Z (by exact zap)))<|oC (oRn (fun nv E=>ld 1 Z Z (fP (z08 _)) zdk Z))<|oC (oRn (fun nv E=>mv Z))<|oC (oRn (fun nv E=>cut' Z .no (.to Z) h17 tu23 z88))<|oC (oFz (A1:=fun nv=>[(1101,some ((nv 3),.list z03 46 x18))]) 1101 3 (oEf 1101 3 (fun nv E=>apn 1101 Z Z Z .rd h19 tu23 z88 Z Z Z)))<|oC (oCl [] [1001] [] h22 Tryz.func11 Z (fun nv=>(zmg _)) (fun nv=>(Y1 Z)) (fun nv E=>(y1 Z)))<|oC (oRn (fun nv E=>mv Z))<|oC (oRn (fun nv E=>ext Z Z))<|oC (oRn (fun nv E=>ext Z Z))<|oC (oEb 1102 4 (fun nv E=>z7q 1102 zeb (.zr (R:=z01) (x:=(⟨[],[]⟩:z00)) zr25)))<|oC (oEs 1102 (fun nv E=>sto 1102 Z Z fH Z zeb))<|oC (oRn (fun nv E=>asg Z))<|oN) fun n23=>z0n<|gSR<|Zq (ld 1102 Z Z fH zal Z)<|Zc [1001] [(100,1103)] Tryz.func10 Z (z7p _) fun r24 n25=>Zm Z<|Zq (ext Z Z)<|Zq (ext Z Z)<|Za Z<|Zb Z<|z0w<|z7m (fun (s26:(List V3) × Bool) aa ww=>Sta (ctx 151 H [zG1] w) [(2,.val (z05 v1 0)),(5,.rd (z02 aZ) s26.1),(84,.rd z0f s26.2)] [(1,some (v1,.box 25 [.rd z01 a0])),zG1] aa ww) ?_ (fun s26=>?_)
   ·
    refine z2o<|Zm Z<|Zq (I.neq Z Z)<|Zm Z<|z2n 56 Z (fun h27=>?_) (fun h27=>?_)
    ·
     refine lKn 55 Z h27<|Zk Z<|Zk Z<|Zq (pkT Z Z)<|Zm Z<|Zk Z<|Zk Z<|Zq (pkT Z Z)<|Zm Z<|Zk Z<|Zk Z<|Zk Z<|Zk Z<|Zq (pkT Z Z)<|Zm Z<|Zk Z<|Zk Z<|Zk Z<|Zk Z<|Zk Z<|Zk Z<|Zq (pkT Z Z)<|Zm Z<|Zk Z<|Zk Z<|Zk Z<|Zk Z<|Zk Z<|Zq (pkT Z Z)<|z23<|eFrz 1100 [5] Z (fS Z<|fN)<|z3s (fun aa ww h=>Zu h [1,1001])
    ·
     refine lKn 55 Z h27<|z1y Zx Z Z (mv Z)<|z1y Zx Z Z (I.neq Z Z)<|Zq (pkF Z Z)<|Zm Z<|z2n 60 Z (fun h28=>?_) (fun h28=>?_)
     ·
      refine lKn 58 Z h28<|lKn 59 Z h28<|Zk Z<|Zk Z<|Zq (pkT Z Z)<|Zm Z<|Zk Z<|Zk Z<|Zk Z<|Zk Z<|Zq (pkT Z Z)<|Zm Z<|Zk Z<|Zk Z<|Zk Z<|Zk Z<|Zk Z<|Zk Z<|Zq (pkT Z Z)<|Zm Z<|Zk Z<|Zk Z<|Zk Z<|Zk Z<|Zk Z<|Zq (pkT Z Z)<|z23<|eFrz 1100 [5] Z (fS Z<|fN)<|z3s (fun aa ww h=>Zu h [1,1001])
     ·
      refine lKn 58 Z h28<|lKn 59 Z h28<|z1y Zx Z Z (mv Z)<|z1y Zx Z Z (I.neq Z Z)<|Zq (pkF Z Z)<|Zm Z<|z2n 64 Z (fun h29=>?_) (fun h29=>?_)
      ·
       refine lKn 62 Z h29<|lKn 63 Z h29<|Zk Z<|Zk Z<|Zk Z<|Zk Z<|Zq (pkT Z Z)<|Zm Z<|Zk Z<|Zk Z<|Zk Z<|Zk Z<|Zk Z<|Zk Z<|Zq (pkT Z Z)<|Zm Z<|Zk Z<|Zk Z<|Zk Z<|Zk Z<|Zk Z<|Zq (pkT Z Z)<|z23<|eFrz 1100 [5] Z (fS Z<|fN)<|z3s (fun aa ww h=>Zu h [1,1001])
      ·
       refine lKn 62 Z h29<|lKn 63 Z h29<|z1y Zx Z Z (mv Z)<|z1y Zx Z Z (mv Z)<|zhq 1100 [5,65] Z (fS Z<|fS Z<|fN)<|zhq 1103 [52,9,66] Z (fS Z<|fS Z<|fS Z<|fN)<|zew [] [] Zx Z Tryz.func12 Z Z (z5o _ _) (Y2 Z Z) rN fun r30 n31=>z1y Zx Z Z (zd9 Z)<|Zq (pkF Z Z)<|Zm Z<|z2n 70 Z (fun h32=>?_) (fun h32=>?_)
       ·
        refine lKn 68 Z h32<|lKn 69 Z h32<|Zk Z<|Zk Z<|Zk Z<|Zk Z<|Zk Z<|Zk Z<|Zq (pkT Z Z)<|Zm Z<|Zk Z<|Zk Z<|Zk Z<|Zk Z<|Zk Z<|Zq (pkT Z Z)<|z23<|z3s (fun aa ww h=>Zu h [1,1001])
       ·
        refine lKn 68 Z h32<|lKn 69 Z h32<|z1y Zx Z Z (mv Z)<|z1y Zx Z Z (z3q Z .rd Z tu22)<|z1y Zx Z Z (faB 1 Z Z Tryz.underlying25 Z (by exact z8p))<|z1y Zx Z Z (ld 1 Z Z (fP (z0b _)) z9o Z)<|z1y Zx Z Z (z3q Z .rd Z tu22)<|z1y Zx Z Z (I.neq Z Z)<|Zq (pkF Z Z)<|Zm Z<|z2n 78 Z (fun h33=>?_) (fun h33=>?_)
        ·
         refine lKn 76 Z h33<|lKn 77 Z h33<|Zk Z<|Zk Z<|Zk Z<|Zk Z<|Zk Z<|Zq (pkT Z Z)<|z23<|z3s (fun aa ww h=>Zu h [1,1001])
        ·
         refine lKn 76 Z h33<|lKn 77 Z h33<|z1y Zx Z Z (mv Z)<|z1y Zx Z Z (faB 1 Z Z Tryz.underlying25 Z (by exact z8p))<|z1y Zx Z Z (ld 1 Z Z (fP (z0b _)) z9o Z)<|zew [] [] Zx Z Tryz.func13 Z Z (z9s _ _) (Y2 Z Z) rN fun r34 n35=>z1y Zx Z Z (zd9 Z)<|Zq (pkF Z Z)<|z23<|z3s (fun aa ww h=>Zu h [1,1001])
   ·
    refine gIf Z Z (fun h36=>?_) (fun h36=>?_)
    ·
     refine gSR<|Zb Z<|z0m<|z10<|Ze [] [1001] Z
    ·
     refine Zt<|z95 (fun (s37:Unit) aa ww=>Sta (ctx 151 H [zG1] w) [] [zG1] aa ww) ?_ (fun s37=>?_)
     ·
      refine gSR<|Zb Z<|z2b (fun (s38:Int) aa ww=>Sta (ctx 151 H [zG1] w) [(2,.val (z05 v1 0)),(5,.rd (z02 aZ) s26.1),(11,.rd z07 s38)] [(1,some (v1,.box 25 [.rd z01 a0])),zG1] aa ww) (fun aa ww h=>Zu h [1,1001]) (fun s38=>?_)
      refine z0w<|gSR<|Zm Z<|Zm Z<|Zq (z3q Z .rd Z tu22)<|Zq (I.lss Z Z)<|Zj Z (fun h39=>?_) (fun h39=>?_)
      ·
       refine Zt<|z95 (fun (s40:Unit) aa ww=>Sta (ctx 151 H [zG1] w) [(2,.val (z05 v1 0)),(5,.rd (z02 aZ) s26.1),(11,.rd z07 s38)] [(1,some (v1,.box 25 [.rd z01 a0])),zG1] aa ww) ?_ (fun s40=>?_)
       ·
        refine z58<|gSR<|Zb Z<|z2b (fun (s41:Int) aa ww=>Sta (ctx 151 H [zG1] w) [(2,.val (z05 v1 0)),(5,.rd (z02 aZ) s26.1),(11,.rd z07 s38),(12,.rd z07 s41)] [(1,some (v1,.box 25 [.rd z01 a0])),zG1] aa ww) (fun aa ww h=>Zu h [1,1001]) (fun s41=>?_)
        refine z0w<|gSR<|Zm Z<|Zq (faB 1 Z Z Tryz.underlying25 Z (by exact z8p))<|Zq (ld 1 Z Z (fP (z0b _)) z9o Z)<|Zq (z3q Z .rd Z tu22)<|Zq (I.lss Z Z)<|Zj Z (fun h42=>?_) (fun h42=>?_)
        ·
         refine Zt<|z0w<|z58<|z7m (fun (s43:Bool) aa ww=>Sta (ctx 151 H [zG1] w) [(2,.val (z05 v1 0)),(5,.rd (z02 aZ) s26.1),(11,.rd z07 s38),(12,.rd z07 s41),(13,.rd z0f s43)] [(1,some (v1,.box 25 [.rd z01 a0])),zG1] aa ww) ?_ (fun s43=>?_)
         ·
          refine z89 [] mixed Z Z<|hTk 0 Z Z (mv Z)<|hTk 1 Z Z (mv Z)<|z51 fun x44 h45=>hTk 2 Z Z (cut' Z .no (.to Z) h45 tu22 z36)<|hTk 3 Z Z (faB 1 Z Z Tryz.underlying25 Z (by exact z8p))<|hTk 4 Z Z (ld 1 Z Z (fP (z0b _)) z9o Z)<|hTk 5 Z Z (mv Z)<|z51 fun x46 h47=>hTk 6 Z Z (ixR Z Z h47 tu22 z36 Z)<|hTk 7 Z Z (ldR Z z56)<|z37 8 [] [] Z (by kernel_rfl) Z (gd0 Z) Z Tryz.func14 Z Z (zdb _ _) (Y2 Z Z) rN Z (fun _ _=>z2v) fun r48 n49=>hTk 9 Z Z (I.lss Z Z)<|hTk 10 Z Z (mv Z)<|hIf 108 Z Z (fun h50=>?_) (fun h50=>?_)
          ·
           refine hKn 107 Z Z h50<|Zg 11 Z Z (mv Z)<|Zg 12 Z Z (mv Z)<|z51 fun x51 h52=>Zg 13 Z Z (cut' Z .no (.to Z) h52 tu22 z36)<|Zg 14 Z Z (faB 1 Z Z Tryz.underlying25 Z (by exact zap))<|Zg 15 Z Z (ld 1 Z Z (fP (z08 _)) zdk Z)<|Zg 16 Z Z (mv Z)<|z51 fun x53 h54=>Zg 17 Z Z (ixR Z Z h54 tu23 z88 Z)<|Zg 18 Z Z (faR Z (z0x _) Tryz.underlying46 Z Z (by exact z8p))<|Zg 19 Z Z (ldR Z z9o)<|z37 20 [] [] Z (by kernel_rfl) Z Zx Z Tryz.func13 Z Z (z9s _ _) (Y2 Z Z) rN Z (fun _ _=>za8) fun r55 n56=>hTk 21 Z Z (pkT Z Z)<|hTk 22 Z Z (asg Z)<|z3r (by kernel_rfl)<|z3s (fun aa ww h=>Zu h [1,1001])
          ·
           refine hKn 107 Z Z h50<|hSk 11 Z Z<|hSk 12 Z Z<|hSk 13 Z Z<|hSk 14 Z Z<|hSk 15 Z Z<|hSk 16 Z Z<|hSk 17 Z Z<|hSk 18 Z Z<|hSk 19 Z Z<|hSk 20 Z Z<|hTk 21 Z Z (pkF Z Z)<|hTk 22 Z Z (asg Z)<|z3r (by kernel_rfl)<|z3s (fun aa ww h=>Zu h [1,1001])
         ·
          refine z7m (fun (s57:Bool) aa ww=>Sta (ctx 151 H [zG1] w) [(2,.val (z05 v1 0)),(5,.rd (z02 aZ) s26.1),(11,.rd z07 s38),(12,.rd z07 s41),(149,.rd z0f s57)] [(1,some (v1,.box 25 [.rd z01 a0])),zG1] aa ww) ?_ (fun s57=>?_)
          ·
           refine z89 [] mixed Z Z<|hTk 0 Z Z (mv Z)<|hTk 1 Z Z (mv Z)<|hIf 121 Z Z (fun h58=>?_) (fun h58=>?_)
           ·
            refine hKn 13 Z Z h58<|hKn 120 Z Z h58<|Zg 2 Z Z (faB 1 Z Z Tryz.underlying25 Z (by exact z8p))<|Zg 3 Z Z (ld 1 Z Z (fP (z0b _)) z9o Z)<|Zg 4 Z Z (mv Z)<|z51 fun x59 h60=>Zg 5 Z Z (ixR Z Z h60 tu22 z36 Z)<|Zg 6 Z Z (ldR Z z56)<|Zg 7 Z Z (mv Z)<|Zg 8 Z Z (mv Z)<|z51 fun x61 h62=>Zg 9 Z Z (ixR Z Z h62 tu22 z36 Z)<|Zg 10 Z Z (ldR Z z56)<|z37 11 [] [] Z (by kernel_rfl) Z Zx Z Tryz.func15 Z Z (z9y _ _) (Y2 Z Z) rN Z (fun _ _=>z2v) fun r63 n64=>Zg 12 Z Z (I.lss Z Z)<|hTk 13 Z Z (pkT Z Z)<|hTk 14 Z Z (mv Z)<|hIf 134 Z Z (fun h65=>?_) (fun h65=>?_)
            ·
             refine hKn 132 Z Z h65<|hKn 133 Z Z h65<|hSk 15 Z Z<|hSk 16 Z Z<|hSk 17 Z Z<|zjr 18 Z (by kernel_rfl) (by kernel_rfl) (by kernel_rfl) (gdU Z Z Z) Z Z<|zjr 19 Z (by kernel_rfl) (by kernel_rfl) (by kernel_rfl) (gdU Z Z Z) Z Z<|zjr 20 Z (by kernel_rfl) (by kernel_rfl) (by kernel_rfl) (gdU Z Z Z) Z Z<|zjr 21 Z (by kernel_rfl) (by kernel_rfl) (by kernel_rfl) (gdU Z Z Z) Z Z<|zjr 22 Z (by kernel_rfl) (by kernel_rfl) (by kernel_rfl) (gdU Z Z Z) Z Z<|zjr 23 Z (by kernel_rfl) (by kernel_rfl) (by kernel_rfl) (gdU Z Z Z) Z Z<|zjr 24 Z (by kernel_rfl) (by kernel_rfl) (by kernel_rfl) (gdU Z Z Z) Z Z<|zjr 25 Z (by kernel_rfl) (by kernel_rfl) (by kernel_rfl) (gdU Z Z Z) Z Z<|zjr 26 Z (by kernel_rfl) (by kernel_rfl) (by kernel_rfl) (gdU Z Z Z) Z Z<|zjr 27 Z (by kernel_rfl) (by kernel_rfl) (by kernel_rfl) (gdU Z Z Z) Z Z<|hSk 28 Z Z<|hTk 29 Z Z (pkT Z Z)<|z3r (by kernel_rfl)<|z3s (fun aa ww h=>Zu h [1,1001])
            ·
             refine hKn 132 Z Z h65<|hKn 133 Z Z h65<|Zg 15 Z Z (mv Z)<|Zg 16 Z Z (zd9 Z)<|Zg 17 Z Z (mv Z)<|hSk 18 Z Z<|hSk 19 Z Z<|hSk 20 Z Z<|hSk 21 Z Z<|hSk 22 Z Z<|hSk 23 Z Z<|hSk 24 Z Z<|hSk 25 Z Z<|hSk 26 Z Z<|hSk 27 Z Z<|Zg 28 Z Z (pkF Z Z)<|hTk 29 Z Z (pkF Z Z)<|z3r (by kernel_rfl)<|z3s (fun aa ww h=>Zu h [1,1001])
           ·
            refine hKn 13 Z Z h58<|hKn 120 Z Z h58<|hSk 2 Z Z<|hSk 3 Z Z<|hSk 4 Z Z<|hSk 5 Z Z<|hSk 6 Z Z<|hSk 7 Z Z<|hSk 8 Z Z<|hSk 9 Z Z<|hSk 10 Z Z<|hSk 11 Z Z<|hSk 12 Z Z<|hTk 13 Z Z (pkF Z Z)<|hTk 14 Z Z (mv Z)<|Zg 15 Z Z (mv Z)<|Zg 16 Z Z (zd9 Z)<|Zg 17 Z Z (mv Z)<|Zg 18 Z Z (faB 1 Z Z Tryz.underlying25 Z (by exact z8p))<|Zg 19 Z Z (ld 1 Z Z (fP (z0b _)) z9o Z)<|Zg 20 Z Z (mv Z)<|z51 fun x66 h67=>Zg 21 Z Z (ixR Z Z h67 tu22 z36 Z)<|Zg 22 Z Z (ldR Z z56)<|Zg 23 Z Z (mv Z)<|Zg 24 Z Z (mv Z)<|z51 fun x68 h69=>Zg 25 Z Z (ixR Z Z h69 tu22 z36 Z)<|Zg 26 Z Z (ldR Z z56)<|Zg 27 Z Z (eqA Z Z zxp Z Z zy2)<|Zg 28 Z Z (pkT Z Z)<|hTk 29 Z Z (pkF Z Z)<|z3r (by kernel_rfl)<|z3s (fun aa ww h=>Zu h [1,1001])
          ·
           refine gIf Z Z (fun h70=>?_) (fun h70=>?_)
           ·
            refine gSR<|Zb Z<|z0m<|z4c<|z10<|z85<|z4c<|z80<|z85<|z80<|Ze [] [1001] Z
           ·
            refine z3a<|z3h<|z0n<|z2o<|Zm Z<|Zq (I.add Z Z)<|Za Z<|z1z 12 Z fun y71=>z23<|z1l (fun aa ww h=>Zu h [1,1001])
        ·
         refine z24<|z14<|z13<|z3h<|z8b (fun aa ww h=>Zu h [1,1001])
       ·
        refine z2o<|Zm Z<|Zq (I.add Z Z)<|Za Z<|z1z 11 Z fun y72=>z23<|z1l (fun aa ww h=>Zu h [1,1001])
      ·
       refine z24<|z14<|z13<|z8b (fun aa ww h=>Zu h [1001])
     ·
      refine gSR<|Zc [1001] [] Tryz.func9 Z (zax) fun r73 n74=>Zb Z<|z0m<|Ze [] [1001] Z
end
section
open Go
section
variable {α:Type}
theorem zdu {l:List α} {i:Nat} (d:α) (h:i<l.length):idx l (i:Int)=some (l.getD i d):=by rw [z0j h]; simp [h]
theorem zua {n:Nat} {v:Vector α n} {i:Int}:z6n v i=idx v.toList i:=rfl
theorem zxv {n:Nat} {v:Vector α n} {i:Nat} {x:α}:(zg5 v (i:Int) x).toList=v.toList.set i x:=by
 unfold zg5; simp
theorem zvw {l:List α} {i j:Nat} {x d:α} (h:i<l.length):(l.set i x).getD j d=if i=j then x else l.getD j d:=by
 simp only [List.getD_eq_getElem?_getD,List.getElem?_set]
 by_cases e:i=j
 ·
  subst e; simp [h]
 ·
  simp [e]
theorem znn {l:List α} {n i:Nat} {d:α} (h:i<n):(l.take n).getD i d=l.getD i d:=by
 simp [List.getD_eq_getElem?_getD,List.getElem?_take,h]
theorem zl0 {l:List α} {n:Nat} {x:α} (h:n<l.length):(l.set n x).take (n+1)=l.take n++[x]:=by
 rw [List.take_add_one,List.getElem?_set_self h,List.take_set_of_le (Nat.le_refl _)]; rfl
end
theorem zp2 (a:UInt32) (n:Nat):(zm8 a n).toNat=a.toNat * 2 ^ (min n 32) % 4294967296:=by unfold zm8; simp
theorem zcq (a:UInt32) (n:Nat):(z3o a n).toNat=a.toNat / 2 ^ (min n 32):=by
 unfold z3o
 have h1:=UInt32.toNat_lt a
 have h2:a.toNat / 2 ^ (min n 32)≤a.toNat:=Nat.div_le_self _ _
 simp; omega
def tr (x:UInt32) (n:Nat):UInt32:=z3o x n ||| zm8 x (32 - n)
theorem zc6 (x:UInt32) (n:Nat) (h:n≤32):z20 x (n:Int)=some (tr x n):=by
 unfold z20
 rw [z2t (by omega),z0z (by omega) (by omega),z2t (by omega)]
 simp only [bS]
 unfold tr
 rw [show ((32:Int) - (n:Int)).toNat=32 - n by omega,Int.toNat_natCast]
theorem zj8 (x:UInt32) (n:Nat) (h:1≤n) (h2:n≤31):z1c x (-(n:Int))=some (tr x n):=by
 have key:∀ n:Fin 32,1≤n.val→(UInt64.ofInt (-(n.val:Int)) &&& 31)=UInt64.ofNat (32 - n.val):=by decide +kernel
 have k2:∀ n:Fin 32,1≤n.val→(UInt64.ofNat (32 - n.val)).toNat=32 - n.val∧(32 - UInt64.ofNat (32 - n.val)).toNat=n.val:=by decide +kernel
 unfold z1c
 rw [key ⟨n, by omega⟩ h]
 simp only [bS]
 rw [(k2 ⟨n, by omega⟩ h).1,(k2 ⟨n, by omega⟩ h).2]
 unfold tr
 rw [UInt32.or_comm]
theorem zyi (x:UInt32) (a b c:Nat) (ha:1≤a∧a≤31) (hb:1≤b∧b≤31) (hc:1≤c∧c≤31):zcd x (a:Int) (b:Int) (c:Int)=some ((tr x a ^^^ tr x b) ^^^ tr x c):=by
 unfold zcd
 rw [z0z (by omega) (by omega),z0z (by omega) (by omega),z0z (by omega) (by omega)]
 rw [show (0:Int) - (a:Int) = -(a:Int) by omega, show (0:Int) - (b:Int) = -(b:Int) by omega, show (0:Int) - (c:Int) = -(c:Int) by omega]
 rw [zj8 x a ha.1 ha.2,zj8 x b hb.1 hb.2,zj8 x c hc.1 hc.2]
 rfl
def sg0 (x:UInt32):UInt32:=(tr x 7 ^^^ tr x 18) ^^^ z3o x 3
def sg1 (x:UInt32):UInt32:=(tr x 17 ^^^ tr x 19) ^^^ z3o x 10
def zvj (b:List UInt8) (k:Nat):UInt32:=(((b.getD (4 * k) 0).toUInt32 * 256+(b.getD (4 * k+1) 0).toUInt32) * 256+(b.getD (4 * k+2) 0).toUInt32) * 256+(b.getD (4 * k+3) 0).toUInt32
def zoe (l:List UInt32):List UInt32:=l++[((l.getD (l.length - 16) 0+l.getD (l.length - 7) 0)+sg0 (l.getD (l.length - 15) 0))+sg1 (l.getD (l.length - 2) 0)]
def z5v (b:List UInt8):Nat→List UInt32
 | 0=>(List.range 16).map (zvj b)
 | n+1=>zoe (z5v b n)
theorem zck (b:List UInt8):∀ n,(z5v b n).length=16+n
 | 0=>by simp [z5v]
 | n+1=>by simp [z5v,zoe,zck b n]; omega
theorem zqv (l:List UInt32) (t:Nat) (h:l.length=t):zoe l=l++[((l.getD (t - 16) 0+l.getD (t - 7) 0)+sg0 (l.getD (t - 15) 0))+sg1 (l.getD (t - 2) 0)]:=by subst h; rfl
theorem zwz (b:List UInt8) (hb:64≤b.length):iter (z4d b) ([],0)=some (z5v b 0):=by
 refine z2u (F:=z4d b) (b:=z5v b 0) 16 (fun i=>((List.range i).map (zvj b),(i:Int))) (fun i hi=>?_) ?_
 ·
  unfold z4d
  rw [if_pos (by simp; omega)]
  simp only []
  rw [z0z (x:=4 * (i:Int)) (by omega) (by omega),z0z (x:=4 * (i:Int)+1) (by omega) (by omega),z0z (x:=4 * (i:Int)+2) (by omega) (by omega),z0z (x:=4 * (i:Int)+3) (by omega) (by omega)]
  rw [show (4 * (i:Int))=((4 * i:Nat):Int) by omega, show (((4 * i:Nat):Int)+1)=((4 * i+1:Nat):Int) by omega, show (((4 * i:Nat):Int)+2)=((4 * i+2:Nat):Int) by omega, show (((4 * i:Nat):Int)+3)=((4 * i+3:Nat):Int) by omega]
  rw [zdu 0 (by omega),zdu 0 (by omega),zdu 0 (by omega),zdu 0 (by omega)]
  simp only [bS]
  rw [z2a (by simp; omega)]
  simp only [bS,z0p (show i<9223372036854775807 by omega)]
  rw [List.range_succ,List.map_append]
  rfl
 ·
  unfold z4d
  rw [if_neg (by simp)]
  rfl
theorem zws (b:List UInt8):iter (z48) (z5v b 0,16)=some (z5v b 48):=by
 refine z2u (F:=z48) (b:=z5v b 48) 48 (fun i=>(z5v b i,((16+i:Nat):Int))) (fun i hi=>?_) ?_
 ·
  have hl:=zck b i
  unfold z48
  rw [if_pos (by simp; omega)]
  simp only []
  rw [z0z (x:=((16+i:Nat):Int) - 15) (by omega) (by omega),z0z (x:=((16+i:Nat):Int) - 2) (by omega) (by omega),z0z (x:=((16+i:Nat):Int) - 16) (by omega) (by omega),z0z (x:=((16+i:Nat):Int) - 7) (by omega) (by omega)]
  rw [show ((16+i:Nat):Int) - 15=((16+i - 15:Nat):Int) by omega, show ((16+i:Nat):Int) - 2=((16+i - 2:Nat):Int) by omega, show ((16+i:Nat):Int) - 16=((16+i - 16:Nat):Int) by omega, show ((16+i:Nat):Int) - 7=((16+i - 7:Nat):Int) by omega]
  rw [zdu 0 (by omega),zdu 0 (by omega),zdu 0 (by omega),zdu 0 (by omega)]
  simp only [bS]
  rw [show (7:Int)=((7:Nat):Int) from rfl, show (18:Int)=((18:Nat):Int) from rfl, show (17:Int)=((17:Nat):Int) from rfl, show (19:Int)=((19:Nat):Int) from rfl]
  rw [zc6 _ 7 (by omega),zc6 _ 18 (by omega),zc6 _ 17 (by omega),zc6 _ 19 (by omega)]
  simp only [bS]
  rw [z2a (by simp; omega)]
  simp only [bS,z0p (show 16+i<9223372036854775807 by omega)]
  rw [show z5v b (i+1)=zoe (z5v b i) from rfl,zqv _ (16+i) hl]
  rfl
 ·
  unfold z48
  rw [if_neg (by simp)]
theorem z11l (x:UInt32) (y:UInt8) (h:x.toNat<16777216):(zm8 x 8) ||| y.toUInt32=x * 256+y.toUInt32:=by
 apply UInt32.toNat_inj.1
 have hy:=UInt8.toNat_lt y
 rw [UInt32.toNat_or,zp2,UInt32.toNat_add,UInt32.toNat_mul]
 have e1:(y.toUInt32).toNat=y.toNat:=by simp
 have e2:(256:UInt32).toNat=256:=rfl
 rw [e1,e2, show (2:Nat) ^ (min 8 32)=256 from rfl,Nat.mod_eq_of_lt (a:=x.toNat * 256) (by omega),Nat.mod_eq_of_lt (a:=x.toNat * 256+y.toNat) (by omega)]
 have:=Nat.shiftLeft_add_eq_or_of_lt (i:=8) (b:=y.toNat) (by simpa using hy) x.toNat
 rw [Nat.shiftLeft_eq, show (2:Nat) ^ 8=256 from rfl] at this
 exact this.symm
def zi3 (b:List UInt8) (k:Nat):Nat→UInt32
 | 0=>0
 | m+1=>zi3 b k m * 256+(b.getD (4 * k+m) 0).toUInt32
theorem zqh (b:List UInt8) (k:Nat):∀ m,m≤4→(zi3 b k m).toNat<256 ^ m
 | 0,_=>by simp [zi3]
 | m+1,h=>by
  have ih:=zqh b k m (by omega)
  have hy:=UInt8.toNat_lt (b.getD (4 * k+m) 0)
  have hp:256 ^ m≤256 ^ 3:=Nat.pow_le_pow_right (by omega) (by omega)
  have e3:(256:Nat) ^ 3=16777216:=rfl
  have ep:256 ^ (m+1)=256 ^ m * 256:=Nat.pow_succ ..
  rw [zi3,UInt32.toNat_add,UInt32.toNat_mul,ep]
  have e1:((b.getD (4 * k+m) 0).toUInt32).toNat=(b.getD (4 * k+m) 0).toNat:=by simp
  have e2:(256:UInt32).toNat=256:=rfl
  rw [e1,e2,Nat.mod_eq_of_lt (a:=(zi3 b k m).toNat * 256) (by omega),Nat.mod_eq_of_lt (by omega)]
  omega
theorem zrq (b:List UInt8) (k:Nat):zi3 b k 4=zvj b k:=by
 simp only [zi3,zvj,Nat.add_zero]
 simp
theorem ztz (b:List UInt8) (hb:b.length=64):∃ w,iter (z5f b) (Vector.replicate 64 0,0)=some w∧w.toList.take 16=z5v b 0:=by
 refine z7k (F:=z5f b) 64 (fun i s=>s.2=(i:Int)∧∀ k,k<16→s.1.toList.getD k 0=zi3 b k (min 4 (i - 4 * k))) (fun w=>w.toList.take 16=z5v b 0) (fun i s hi hs=>?_) (fun s hs=>?_) (Vector.replicate 64 0,0) 0 (by omega) ⟨rfl, fun k hk=>?_⟩
 ·
  obtain ⟨w,j⟩:=s
  obtain ⟨h1,h2⟩:=hs
  simp only at h1 h2
  subst h1
  have hlw:w.toList.length=64:=by simp
  have hdiv:w64 (Int.tdiv (i:Int) 4)=((i / 4:Nat):Int):=by
   have:Int.tdiv (i:Int) 4=((i / 4:Nat):Int):=by
    rw [Int.tdiv_eq_ediv_of_nonneg (by omega)]; omega
   rw [this,z0z (by omega) (by omega)]
  refine ⟨(zg5 w ((i / 4:Nat):Int) (zi3 b (i / 4) (i % 4+1)),((i+1:Nat):Int)),?_,rfl, fun k hk=>?_⟩
  ·
   unfold z5f
   rw [if_pos (by simp; omega)]
   simp only [hdiv,zua]
   rw [zdu 0 (by omega)]
   simp only [bS]
   rw [zdu 0 (by omega)]
   simp only [bS,z0p (show i<9223372036854775807 by omega)]
   rw [h2 (i / 4) (by omega), show min 4 (i - 4 * (i / 4))=i % 4 by omega]
   have hlt:=zqh b (i / 4) (i % 4) (by omega)
   have hp:256 ^ (i % 4)≤256 ^ 3:=Nat.pow_le_pow_right (by omega) (by omega)
   have e3:(256:Nat) ^ 3=16777216:=rfl
   rw [z11l _ _ (by omega)]
   have e4:zi3 b (i / 4) (i % 4+1)=zi3 b (i / 4) (i % 4) * 256+(b.getD i 0).toUInt32:=by
    show zi3 b (i / 4) (i % 4) * 256+(b.getD (4 * (i / 4)+i % 4) 0).toUInt32=_
    rw [show 4 * (i / 4)+i % 4=i by omega]
   rw [e4]
  ·
   simp only []
   rw [zxv,zvw (by omega)]
   by_cases hk2:i / 4=k
   ·
    subst hk2
    rw [if_pos rfl, show min 4 (i+1 - 4 * (i / 4))=i % 4+1 by omega]
   ·
    rw [if_neg hk2,h2 k hk]
    congr 1; omega
 ·
  obtain ⟨w,j⟩:=s
  obtain ⟨h1,h2⟩:=hs
  simp only at h1 h2
  subst h1
  have hlw:w.toList.length=64:=by simp
  refine ⟨w,?_,?_⟩
  ·
   unfold z5f
   rw [if_neg (by simp [hb])]
  ·
   apply List.ext_getElem
   ·
    simp [z5v]
   ·
    intro k k1 k2
    have hk:k<16:=by simp [z5v] at k2; exact k2
    have:=h2 k hk
    rw [show min 4 (64 - 4 * k)=4 by omega,zrq] at this
    have e:w.toList.getD k 0=w.toList[k]'(by omega):=by rw [List.getD_eq_getElem?_getD,List.getElem?_eq_getElem (by omega)]; rfl
    rw [e] at this
    simp only [List.getElem_take,this,z5v,List.getElem_map,List.getElem_range]
 ·
  show (Vector.replicate 64 (0:UInt32)).toList.getD k 0=_
  rw [show min 4 (0 - 4 * k)=0 by omega,Vector.toList_replicate,List.getD_eq_getElem?_getD,List.getElem?_replicate,if_pos (by omega)]
  rfl
theorem zr4 (v:Vector UInt32 64) (t:Nat) (h1:16≤t) (h2:t<64) (p q r s u:UInt32) (e1:z6n v ((t - 15:Nat):Int)=some p) (e2:z6n v ((t - 2:Nat):Int)=some q) (e3:z6n v ((t - 16:Nat):Int)=some r) (e4:z6n v ((t - 7:Nat):Int)=some s) (e5:z6n v (t:Int)=some u) :
  z3z (v,(t:Int))=some (.inr (zg5 v (t:Int) (((r+s)+sg0 p)+sg1 q),((t+1:Nat):Int))):=by
 have r1:=zj8 p 7 (by omega) (by omega)
 have r2:=zj8 p 18 (by omega) (by omega)
 have r3:=zj8 q 17 (by omega) (by omega)
 have r4:=zj8 q 19 (by omega) (by omega)
 have hw:=z0p (show t<9223372036854775807 by omega)
 have hd:decide ((t:Int)<64)=true:=by simp; omega
 have w1:w64 ((t:Int) - 15)=((t - 15:Nat):Int):=by rw [z0z (by omega) (by omega)]; omega
 have w2:w64 ((t:Int) - 2)=((t - 2:Nat):Int):=by rw [z0z (by omega) (by omega)]; omega
 have w3:w64 ((t:Int) - 16)=((t - 16:Nat):Int):=by rw [z0z (by omega) (by omega)]; omega
 have w4:w64 ((t:Int) - 7)=((t - 7:Nat):Int):=by rw [z0z (by omega) (by omega)]; omega
 unfold z3z
 rw [if_pos hd]
 simp only []
 rw [w1,w2,w3,w4,hw,e1,e2,e3,e4,e5]
 simp only [bS]
 rw [show (-7:Int) = -((7:Nat):Int) from rfl, show (-18:Int) = -((18:Nat):Int) from rfl, show (-17:Int) = -((17:Nat):Int) from rfl, show (-19:Int) = -((19:Nat):Int) from rfl,r1,r2,r3,r4]
 simp only [bS]
 rfl
theorem zsp (b:List UInt8) (w:Vector UInt32 64) (hw:w.toList.take 16=z5v b 0):∃ v,iter (z3z) (w,16)=some v∧v.toList=z5v b 48:=by
 refine z7k (F:=z3z) 48 (fun i s=>s.2=((16+i:Nat):Int)∧s.1.toList.take (16+i)=z5v b i) (fun v=>v.toList=z5v b 48) (fun i s hi hs=>?_) (fun s hs=>?_) (w,16) 0 (by omega) ⟨rfl,hw⟩
 ·
  obtain ⟨w,j⟩:=s
  obtain ⟨h1,h2⟩:=hs
  simp only at h1 h2
  subst h1
  have hlw:w.toList.length=64:=by simp
  have hl:=zck b i
  have hg:∀ k,k<16+i→w.toList.getD k 0=(z5v b i).getD k 0:=fun k hk=>by rw [← h2,znn hk]
  have hv:∀ k,k<16+i→z6n w (k:Int)=some ((z5v b i).getD k 0):=fun k hk=>by rw [zua,zdu 0 (by omega),hg k hk]
  refine ⟨_,zr4 w (16+i) (by omega) (by omega) _ _ _ _ _ (hv _ (by omega)) (hv _ (by omega)) (hv _ (by omega)) (hv _ (by omega)) (z79 (by omega)),rfl,?_⟩
  simp only []
  rw [zxv, show 16+(i+1)=16+i+1 by omega,zl0 (by omega),h2, show z5v b (i+1)=zoe (z5v b i) from rfl,zqv _ (16+i) hl]
 ·
  obtain ⟨w,j⟩:=s
  obtain ⟨h1,h2⟩:=hs
  simp only at h1 h2
  subst h1
  refine ⟨w,?_,?_⟩
  ·
   unfold z3z
   rw [if_neg (by simp)]
  ·
   rw [← h2,List.take_of_length_le (by simp)]
abbrev O8:=UInt32 × UInt32 × UInt32 × UInt32 × UInt32 × UInt32 × UInt32 × UInt32
def toV (s:O8):Vector UInt32 8:=#v[s.1,s.2.1,s.2.2.1,s.2.2.2.1,s.2.2.2.2.1,s.2.2.2.2.2.1,s.2.2.2.2.2.2.1,s.2.2.2.2.2.2.2]
def ofV (h:Vector UInt32 8):O8:=(h[0],h[1],h[2],h[3],h[4],h[5],h[6],h[7])
theorem zzv (h:Vector UInt32 8):toV (ofV h)=h:=by
 apply Vector.ext
 intro i hi
 unfold toV ofV
 match i,hi with
 | 0,_=>rfl
 | 1,_=>rfl
 | 2,_=>rfl
 | 3,_=>rfl
 | 4,_=>rfl
 | 5,_=>rfl
 | 6,_=>rfl
 | 7,_=>rfl
def zzx (k w:UInt32) (s:O8):UInt32:=(((s.2.2.2.2.2.2.2+((tr s.2.2.2.2.1 6 ^^^ tr s.2.2.2.2.1 11) ^^^ tr s.2.2.2.2.1 25))+((s.2.2.2.2.1 &&& s.2.2.2.2.2.1) ^^^ ((~~~s.2.2.2.2.1) &&& s.2.2.2.2.2.2.1)))+k)+w
def rnd2 (s:O8):UInt32:=((tr s.1 2 ^^^ tr s.1 13) ^^^ tr s.1 22)+(((s.1 &&& s.2.1) ^^^ (s.1 &&& s.2.2.1)) ^^^ (s.2.1 &&& s.2.2.1))
def rnd (k w:UInt32) (s:O8):O8:=(zzx k w s+rnd2 s,s.1,s.2.1,s.2.2.1,s.2.2.2.1+zzx k w s,s.2.2.2.2.1,s.2.2.2.2.2.1,s.2.2.2.2.2.2.1)
def zqm (K W:List UInt32) (s:O8):Nat→O8
 | 0=>s
 | n+1=>rnd (K.getD n 0) (W.getD n 0) (zqm K W s n)
theorem zu6:z83=some z4q.toList:=rfl
theorem zm1:z4q.toList.length=64:=by simp
theorem zsa (w:Vector UInt32 64) (a b c d e f g z:UInt32) (i:Nat) (hi:i<64) (k u:UInt32) (hk:z6n z4q (i:Int)=some k) (hu:z6n w (i:Int)=some u) :
  z4s w (a,b,c,d,e,f,g,z,(i:Int))=some (.inr (zzx k u (a,b,c,d,e,f,g,z)+rnd2 (a,b,c,d,e,f,g,z),a,b,c,d+zzx k u (a,b,c,d,e,f,g,z),e,f,g,((i+1:Nat):Int))):=by
 have m1:=zyi e 6 11 25 (by omega) (by omega) (by omega)
 have m2:=zyi a 2 13 22 (by omega) (by omega) (by omega)
 have hw:=z0p (show i<9223372036854775807 by omega)
 have hd:decide ((i:Int)<64)=true:=by simp; omega
 unfold z4s
 rw [if_pos hd]
 simp only []
 rw [hk,hu,hw]
 simp only [bS]
 rw [show (6:Int)=((6:Nat):Int) from rfl, show (11:Int)=((11:Nat):Int) from rfl, show (25:Int)=((25:Nat):Int) from rfl, show (2:Int)=((2:Nat):Int) from rfl, show (13:Int)=((13:Nat):Int) from rfl, show (22:Int)=((22:Nat):Int) from rfl,m1,m2]
 simp only [bS]
 rfl
theorem zwo (K W:List UInt32) (a b c d e f g z:UInt32) (i:Nat) (hi:i<64) (k u:UInt32) (hk:idx K (i:Int)=some k) (hu:idx W (i:Int)=some u) :
  z30 W K (#v[a,b,c,d,e,f,g,z],(i:Int))=some (.inr (#v[zzx k u (a,b,c,d,e,f,g,z)+rnd2 (a,b,c,d,e,f,g,z),a,b,c,d+zzx k u (a,b,c,d,e,f,g,z),e,f,g],((i+1:Nat):Int))):=by
 have t1:=zc6 e 6 (by omega)
 have t2:=zc6 e 11 (by omega)
 have t3:=zc6 e 25 (by omega)
 have t4:=zc6 a 2 (by omega)
 have t5:=zc6 a 13 (by omega)
 have t6:=zc6 a 22 (by omega)
 have hw:=z0p (show i<9223372036854775807 by omega)
 have hd:decide ((i:Int)<64)=true:=by simp; omega
 have v0:z6n #v[a,b,c,d,e,f,g,z] 0=some a:=rfl
 have v1:z6n #v[a,b,c,d,e,f,g,z] 1=some b:=rfl
 have v2:z6n #v[a,b,c,d,e,f,g,z] 2=some c:=rfl
 have v3:z6n #v[a,b,c,d,e,f,g,z] 3=some d:=rfl
 have v4:z6n #v[a,b,c,d,e,f,g,z] 4=some e:=rfl
 have v5:z6n #v[a,b,c,d,e,f,g,z] 5=some f:=rfl
 have v6:z6n #v[a,b,c,d,e,f,g,z] 6=some g:=rfl
 have v7:z6n #v[a,b,c,d,e,f,g,z] 7=some z:=rfl
 unfold z30
 rw [if_pos hd]
 simp only []
 rw [v0,v1,v2,v3,v4,v5,v6,v7,hk,hu,hw]
 simp only [bS]
 rw [show (6:Int)=((6:Nat):Int) from rfl, show (11:Int)=((11:Nat):Int) from rfl, show (25:Int)=((25:Nat):Int) from rfl, show (2:Int)=((2:Nat):Int) from rfl, show (13:Int)=((13:Nat):Int) from rfl, show (22:Int)=((22:Nat):Int) from rfl,t1,t2,t3,t4,t5,t6]
 simp only [bS]
 rfl
def zr0 (s:O8) (i:Int):UInt32 × UInt32 × UInt32 × UInt32 × UInt32 × UInt32 × UInt32 × UInt32 × Int:=match s with
 | (a,b,c,d,e,f,g,z)=>(a,b,c,d,e,f,g,z,i)
theorem zr8 (w:Vector UInt32 64) (s:O8) (i:Nat) (hi:i<64):z4s w (zr0 s (i:Int))=some (.inr (zr0 (rnd (z4q.toList.getD i 0) (w.toList.getD i 0) s) ((i+1:Nat):Int))):=by
 obtain ⟨a,b,c,d,e,f,g,z⟩:=s
 exact zsa w a b c d e f g z i hi _ _ (zdu 0 (by rw [zm1]; exact hi)) (zdu 0 (by simp; exact hi))
theorem zro (w:Vector UInt32 64) (s:O8):iter (z4s w) (zr0 s 0)=some (zqm z4q.toList w.toList s 64):=by
 refine z2u (F:=z4s w) (b:=zqm z4q.toList w.toList s 64) 64 (fun i=>zr0 (zqm z4q.toList w.toList s i) (i:Int)) (fun i hi=>zr8 w _ i hi) ?_
 generalize zqm z4q.toList w.toList s 64=q
 obtain ⟨a,b,c,d,e,f,g,z⟩:=q
 unfold zr0 z4s
 rw [if_neg (by simp)]
theorem zv8 (K W:List UInt32) (hk:K.length=64) (hW:W.length=64) (s:O8) (i:Nat) (hi:i<64):z30 W K (toV s,(i:Int))=some (.inr (toV (rnd (K.getD i 0) (W.getD i 0) s),((i+1:Nat):Int))):=by
 obtain ⟨a,b,c,d,e,f,g,z⟩:=s
 exact zwo K W a b c d e f g z i hi _ _ (zdu 0 (by omega)) (zdu 0 (by omega))
theorem zu7 (K W:List UInt32) (hk:K.length=64) (hW:W.length=64) (s:O8):iter (z30 W K) (toV s,0)=some (toV (zqm K W s 64)):=by
 refine z2u (F:=z30 W K) (b:=toV (zqm K W s 64)) 64 (fun i=>(toV (zqm K W s i),(i:Int))) (fun i hi=>zv8 K W hk hW _ i hi) ?_
 generalize toV (zqm K W s 64)=q
 unfold z30
 rw [if_neg (by simp)]
theorem z10d (s:O8):zat s=z1d (toV s):=by
 funext x
 obtain ⟨h,i⟩:=x
 unfold zat z1d
 simp only [bS]
 show (if decide (i<8)=true then z6n (toV s) i >>= _ else _)=_
 split
 ·
  cases h1:z6n (toV s) i <;> cases h2:z6n h i <;> rfl
 ·
  rfl
def addV (h v:Vector UInt32 8):Vector UInt32 8:=(iter (z1d v) (h,0)).getD h
theorem ztc (h v:Vector UInt32 8):iter (z1d v) (h,0)=some (addV h v):=by
 obtain ⟨r,h1,-⟩:=z7k (F:=z1d v) 8 (fun i s=>s.2=(i:Int)) (fun _=>True) (fun i s hi hs=>by
  obtain ⟨u,j⟩:=s
  simp only at hs
  subst hs
  unfold z1d
  rw [if_pos (by simp; omega)]
  rw [z79 (show i<8 by omega),z79 (show i<8 by omega)]
  simp only [bS,z0p (show i<9223372036854775807 by omega)]
  exact ⟨_,rfl,rfl⟩) (fun s hs=>by
  obtain ⟨u,j⟩:=s
  simp only at hs
  subst hs
  unfold z1d
  rw [if_neg (by simp)]
  exact ⟨_,rfl,trivial⟩) (h,0) 0 (by omega) rfl
 unfold addV
 rw [h1]; rfl
def gr (h:Vector UInt32 8) (b:List UInt8):Vector UInt32 8:=addV h (toV (zqm z4q.toList (z5v b 48) (ofV h) 64))
theorem z12c (h:Vector UInt32 8) (b:List UInt8) (hb:b.length=64):z7z h b=some (gr h b):=by
 unfold z7z
 rw [zwz b (by omega)]
 simp only [bS]
 rw [zws b]
 simp only [bS,zu6]
 have:=zu7 z4q.toList (z5v b 48) zm1 (by rw [zck]) (ofV h)
 rw [zzv] at this
 rw [this]
 simp only [bS]
 rw [ztc]
 rfl
theorem zzs (h:Vector UInt32 8) (b:List UInt8) (hb:64≤b.length):zbo h b=some (gr h (b.take 64)):=by
 unfold zbo zb9
 rw [show (64:Int)=((64:Nat):Int) from rfl, show (0:Int)=((0:Nat):Int) from rfl,zdt (by omega) hb]
 simp only [bS,List.drop_zero,Nat.sub_zero]
 obtain ⟨w,h1,h2⟩:=ztz (b.take 64) (by simp; omega)
 rw [show ((0:Nat):Int)=0 from rfl,h1]
 simp only [bS]
 obtain ⟨v,h3,h4⟩:=zsp (b.take 64) w h2
 rw [h3]
 simp only [bS]
 have hv:∀ i:Nat,(hi:i<8)→z6n h (i:Int)=some h[i]:=fun i hi=>z79 hi
 rw [show z6n h 0=some h[0] from hv 0 (by omega), show z6n h 1=some h[1] from hv 1 (by omega), show z6n h 2=some h[2] from hv 2 (by omega), show z6n h 3=some h[3] from hv 3 (by omega), show z6n h 4=some h[4] from hv 4 (by omega), show z6n h 5=some h[5] from hv 5 (by omega), show z6n h 6=some h[6] from hv 6 (by omega), show z6n h 7=some h[7] from hv 7 (by omega)]
 simp only [bS]
 have:=zro v (ofV h)
 rw [show (h[0],h[1],h[2],h[3],h[4],h[5],h[6],h[7],(0:Int))=zr0 (ofV h) 0 from rfl,this]
 simp only [bS]
 rw [z10d,h4,ztc]
 rfl
end
section
open Go
def blk (h:Vector UInt32 8) (b:List UInt8):Vector UInt32 8:=if h64:64≤b.length then blk (gr h (b.take 64)) (b.drop 64) else h
termination_by b.length
decreasing_by simp; omega
theorem znv {h:Vector UInt32 8} {b:List UInt8} (hb:b.length<64):blk h b=h:=by rw [blk,dif_neg (by omega)]
theorem zmm {h:Vector UInt32 8} {b:List UInt8} (hb:64≤b.length):blk h b=blk (gr h (b.take 64)) (b.drop 64):=by rw [blk,dif_pos hb]
def lft (b:List UInt8):List UInt8:=b.drop (b.length / 64 * 64)
theorem ztg {b:List UInt8} (hb:b.length<64):lft b=b:=by unfold lft; rw [Nat.div_eq_of_lt hb]; simp
theorem zsv {b:List UInt8} (hb:64≤b.length):lft b=lft (b.drop 64):=by
 unfold lft
 rw [List.drop_drop,List.length_drop]
 congr 1
 omega
theorem zsl (b:List UInt8):(lft b).length<64:=by unfold lft; simp; omega
theorem zyu (h:Vector UInt32 8):∀ (n:Nat) (a c:List UInt8),a.length=n→blk h (a++c)=blk (blk h a) (lft a++c)∧lft (a++c)=lft (lft a++c):=by
 intro n
 induction n using Nat.strongRecOn generalizing h with
 | _ n ih =>
  intro a c ha
  by_cases h64:64≤a.length
  ·
   have e1:(a++c).take 64=a.take 64:=by rw [List.take_append_of_le_length h64]
   have e2:(a++c).drop 64=a.drop 64++c:=by rw [List.drop_append_of_le_length h64]
   have hl:64≤(a++c).length:=by simp; omega
   obtain ⟨i1,i2⟩:=ih (a.drop 64).length (by simp; omega) (gr h (a.take 64)) (a.drop 64) c rfl
   rw [zmm hl,e1,e2,zmm h64,zsv h64,zsv hl,e2]
   exact ⟨i1,i2⟩
  ·
   rw [znv (b:=a) (by omega),ztg (b:=a) (by omega)]
   exact ⟨rfl,rfl⟩
theorem zuh:∀ (n:Nat) (m:z1w) (r:List UInt8),r.length=n→iter z8c (m,r)=some ({ m with Words:=blk m.Words r },lft r):=by
 intro n
 induction n using Nat.strongRecOn with
 | _ n ih =>
  intro m r hr
  by_cases h64:64≤r.length
  ·
   have hs:z8c (m,r)=some (.inr ({ m with Words:=gr m.Words (r.take 64) },r.drop 64)):=by
    unfold z8c
    rw [if_pos (by simp; omega)]
    simp only []
    rw [zzs _ _ h64, show (64:Int)=((64:Nat):Int) from rfl,zdt h64 (Nat.le_refl _)]
    simp only [bS]
    rw [List.take_of_length_le (l:=r.drop 64) (by simp)]
   rw [z1q hs,ih (r.drop 64).length (by simp; omega) _ _ rfl,zmm h64,zsv h64]
  ·
   refine (z1j (b:=(m,r)) ?_).trans ?_
   ·
    unfold z8c
    rw [if_neg (by simp; omega)]
   ·
    rw [znv (by omega),ztg (by omega)]
theorem zzf (a b:List UInt8) (h:a.length+b.length≤1000000):z1p [a,b]=some (a++b):=by
 have l1:iter (z0r [a,b]) (0,0)=some ((a.length+b.length:Nat):Int):=by
  have s1:z0r [a,b] (0,0)=some (.inr ((a.length:Int),1)):=by
   unfold z0r
   rw [if_pos (by simp)]
   simp only []
   rw [show idx [a,b] 0=some a from rfl]
   simp only [bS]
   rw [z0z (x:=(0:Int)+(a.length:Int)) (by omega) (by omega),z0z (x:=(0:Int)+1) (by omega) (by omega)]
   rw [if_neg (by simp)]
   simp
  have s2:z0r [a,b] ((a.length:Int),1)=some (.inr (((a.length+b.length:Nat):Int),2)):=by
   unfold z0r
   rw [if_pos (by simp)]
   simp only []
   rw [show idx [a,b] 1=some b from rfl]
   simp only [bS]
   rw [z0z (x:=(a.length:Int)+(b.length:Int)) (by omega) (by omega),z0z (x:=(1:Int)+1) (by omega) (by omega)]
   rw [if_neg (by simp; omega)]
   simp
  have s3:z0r [a,b] (((a.length+b.length:Nat):Int),2)=some (.inl ((a.length+b.length:Nat):Int)):=by
   unfold z0r
   rw [if_neg (by simp)]
  rw [z1q s1,z1q s2,z1j s3]
 have gw:z3d ((a.length+b.length:Nat):Int)=some []:=by
  unfold z3d
  rw [if_neg (by simp; omega)]
  rw [show ((([]:List UInt8).length:Nat):Int)=0 from rfl, show w64 ((0:Int) - 0)=0 by decide,Int.sub_zero,z0z (by omega) (by omega)]
  simp only [bS]
  split
  ·
   rw [zf5 (by omega) (by omega)]
   simp only [bS]
   rw [show (0:Int)=((0:Nat):Int) from rfl,zdt (Nat.le_refl _) (Nat.zero_le _)]
   simp
  ·
   rfl
 have l2:iter (z0s [a,b]) ([],0)=some (a++b):=by
  have s1:z0s [a,b] ([],0)=some (.inr (a,1)):=by
   unfold z0s
   rw [if_pos (by simp)]
   simp only []
   rw [show idx [a,b] 0=some a from rfl,z0z (x:=(0:Int)+1) (by omega) (by omega)]
   simp only [bS]
   rw [z2a (by simp; omega)]
   simp
  have s2:z0s [a,b] (a,1)=some (.inr (a++b,2)):=by
   unfold z0s
   rw [if_pos (by simp)]
   simp only []
   rw [show idx [a,b] 1=some b from rfl,z0z (x:=(1:Int)+1) (by omega) (by omega)]
   simp only [bS]
   rw [z2a (by simp; omega)]
   simp
  have s3:z0s [a,b] (a++b,2)=some (.inl (a++b)):=by
   unfold z0s
   rw [if_neg (by simp)]
  rw [z1q s1,z1q s2,z1j s3]
 unfold z1p
 rw [l1]
 simp only [bS]
 rw [gw]
 simp only [bS]
 rw [l2]
 simp only [bS]
theorem zz7 (m:z1w) (b:List UInt8) (h:m.Rest.length+b.length≤1000000):z9w m b=some ⟨blk m.Words (m.Rest++b),lft (m.Rest++b),w64 (m.N+(b.length:Int))⟩:=by
 unfold z9w
 rw [zzf _ _ h]
 simp only [bS]
 rw [zuh _ _ _ rfl]
 simp only [bS]
 unfold z75
 have:=zsl (m.Rest++b)
 rw [z2a (by simp; omega)]
 simp only [bS,List.nil_append]
def H0:Vector UInt32 8:=#v[1779033703,3144134277,1013904242,2773480762,1359893119,2600822924,528734635,1541459225]
def zs4 (a:List UInt8):z1w:=⟨blk H0 a,lft a,(a.length:Int)⟩
theorem zw0:zbi=some (zs4 []):=by
 unfold zbi zs4
 rw [znv (by simp),ztg (by simp)]
 rfl
theorem zmf (a b:List UInt8) (h:a.length+b.length≤500000):z9w (zs4 a) b=some (zs4 (a++b)):=by
 have hl:=zsl a
 rw [zz7 (zs4 a) b (by show (lft a).length+b.length≤1000000; omega)]
 obtain ⟨h1,h2⟩:=zyu H0 _ a b rfl
 unfold zs4
 rw [h1,h2,z0z (by simp; omega) (by simp; omega)]
 simp
theorem zr7 (b:List UInt8) (hb:b.length≤1000000):∀ (n:Nat) (h:Vector UInt32 8) (i:Nat),(b.drop i).length=n→i≤b.length→iter (z4f b) (h,(i:Int))=some (blk h (b.drop i)):=by
 intro n
 induction n using Nat.strongRecOn with
 | _ n ih =>
  intro h i hn hi
  have hw:w64 ((i:Int)+64)=((i+64:Nat):Int):=by rw [z0z (by omega) (by omega)]; omega
  simp only [List.length_drop] at hn
  by_cases h64:i+64≤b.length
  ·
   have hs:z4f b (h,(i:Int))=some (.inr (gr h ((b.drop i).take 64),((i+64:Nat):Int))):=by
    unfold z4f
    simp only [hw]
    rw [if_pos (by simp; omega),zdt (by omega) h64]
    simp only [bS]
    rw [show i+64 - i=64 by omega,z12c _ _ (by simp; omega)]
    simp only [bS]
   rw [z1q hs,ih (b.drop (i+64)).length (by simp; omega) _ _ rfl h64,zmm (b:=b.drop i) (by simp; omega),List.drop_drop]
  ·
   refine (z1j (b:=h) ?_).trans ?_
   ·
    unfold z4f
    simp only [hw]
    rw [if_neg (by simp; omega)]
   ·
    rw [znv (by simp; omega)]
theorem zv4 (h:Vector UInt32 8) (b:List UInt8) (hb:b.length≤1000000):z7u h b=some (blk h b):=by
 unfold z7u
 have:=zr7 b hb _ h 0 rfl (by omega)
 rw [show (0:Int)=((0:Nat):Int) from rfl,this]
 simp only [bS,List.drop_zero]
def zrs (n:Nat):Nat:=(119 - n % 64) % 64
def z7d (n:Nat):List UInt8:=(List.range 8).map fun i=>(z6k (UInt64.ofNat n * 8) (56 - 8 * i)).toUInt8
def tl (n:Nat):List UInt8:=([128]++List.replicate (zrs n) 0)++z7d n
theorem znw (n:Nat):UInt64.ofInt (n:Int)=UInt64.ofNat n:=by
 apply UInt64.toNat_inj.1
 unfold UInt64.ofInt
 simp only [UInt64.toNat_ofNat']
 omega
theorem zu0 (n:Nat) (x:List UInt8) (hx:x.length≤100):iter (z98 (UInt64.ofNat n * 8)) (x,56)=some (x++z7d n):=by
 rw [show (x,(56:Int))=(x++(z7d n).take 0,56 - 8 * ((0:Nat):Int)) by simp]
 refine z2u (F:=z98 (UInt64.ofNat n * 8)) (b:=x++z7d n) 8 (fun i=>(x++(z7d n).take i,56 - 8 * (i:Int))) (fun i hi=>?_) ?_
 ·
  have hl:(z7d n).length=8:=by simp [z7d]
  unfold z98
  rw [if_pos (by simp; omega)]
  simp only []
  rw [z2t (by omega),z0z (by omega) (by omega)]
  simp only [bS]
  rw [z2a (by simp; omega)]
  simp only [bS]
  rw [List.take_add_one,List.getElem?_eq_getElem (by omega)]
  simp only [Option.toList_some,List.append_assoc]
  rw [show (56 - 8 * (i:Int)).toNat=56 - 8 * i by omega, show (56 - 8 * (i:Int) - 8)=56 - 8 * ((i+1:Nat):Int) by omega]
  simp [z7d]
 ·
  have hl:(z7d n).length=8:=by simp [z7d]
  unfold z98
  rw [if_neg (by simp),List.take_of_length_le (by omega)]
theorem ztx (n:Nat) (x:List UInt8) (hx:x.length≤100):iter (z5d (n:Int)) (x,7)=some (x++z7d n):=by
 rw [show (x,(7:Int))=(x++(z7d n).take 0,7 - ((0:Nat):Int)) by simp]
 refine z2u (F:=z5d (n:Int)) (b:=x++z7d n) 8 (fun i=>(x++(z7d n).take i,7 - (i:Int))) (fun i hi=>?_) ?_
 ·
  have hl:(z7d n).length=8:=by simp [z7d]
  unfold z5d
  rw [if_pos (by simp; omega)]
  simp only []
  rw [z0z (x:=8 * (7 - (i:Int))) (by omega) (by omega),z2t (by omega),z0z (by omega) (by omega)]
  simp only [bS]
  rw [z2a (by simp; omega)]
  simp only [bS]
  rw [List.take_add_one,List.getElem?_eq_getElem (by omega)]
  simp only [Option.toList_some,List.append_assoc]
  rw [show (8 * (7 - (i:Int))).toNat=56 - 8 * i by omega, show (7 - (i:Int) - 1)=7 - ((i+1:Nat):Int) by omega]
  rw [znw]
  simp [z7d,UInt64.mul_comm]
 ·
  have hl:(z7d n).length=8:=by simp [z7d]
  unfold z5d
  rw [if_neg (by simp),List.take_of_length_le (by omega)]
theorem zt5 (n:Nat) (hn:n≤1000000):iter (z5n (n:Int)) [128]=some ([128]++List.replicate (zrs n) 0):=by
 refine z2u (F:=z5n (n:Int)) (b:=[128]++List.replicate (zrs n) 0) (zrs n) (fun i=>[128]++List.replicate i 0) (fun i hi=>?_) ?_
 ·
  have hz:zrs n<64:=Nat.mod_lt _ (by omega)
  have hl:(([128]++List.replicate i 0:List UInt8).length:Int)=((1+i:Nat):Int):=by simp; omega
  unfold z5n
  rw [hl,z0z (x:=(n:Int)+((1+i:Nat):Int)) (by omega) (by omega),z0z (by omega) (by omega)]
  have ht:Int.tmod ((n:Int)+((1+i:Nat):Int)+8) 64=(((n+9+i) % 64:Nat):Int):=by
   rw [Int.tmod_eq_emod_of_nonneg (by omega)]; omega
  rw [ht,if_pos]
  ·
   rw [z2a (by simp; omega)]
   simp only [bS]
   rw [List.replicate_succ',List.append_assoc]
  ·
   simp only [bne_iff_ne,ne_eq]
   unfold zrs at hi
   omega
 ·
  have hl:(([128]++List.replicate (zrs n) 0:List UInt8).length:Int)=((1+zrs n:Nat):Int):=by simp; omega
  have hz:zrs n<64:=Nat.mod_lt _ (by omega)
  unfold z5n
  rw [hl,z0z (x:=(n:Int)+((1+zrs n:Nat):Int)) (by omega) (by omega),z0z (by omega) (by omega)]
  have ht:Int.tmod ((n:Int)+((1+zrs n:Nat):Int)+8) 64=0:=by
   rw [Int.tmod_eq_emod_of_nonneg (by omega)]
   unfold zrs
   omega
  rw [ht,if_neg (by simp)]
theorem zx2 (n:Nat) (hn:n≤1000000):z99 (n:Int)=some (tl n):=by
 have hz:zrs n<64:=Nat.mod_lt _ (by omega)
 unfold z99
 rw [zt5 n hn]
 simp only [bS]
 rw [ztx n _ (by simp; omega)]
 simp only [bS]
 rfl
def wr (h:Vector UInt32 8):V3:=Vector.ofFn fun i=>(z3o (h[i.val / 4]'(by omega)) (24 - 8 * (i.val % 4))).toUInt8
theorem zqx (h:Vector UInt32 8):z7b h=some (wr h):=by
 have:∃ r,iter (z3v h) (Vector.replicate 32 0,0)=some r∧r=wr h:=by
  refine z7k (F:=z3v h) 32 (fun i s=>s.2=(i:Int)∧∀ k (hk:k<32),k<i→s.1[k]=(wr h)[k]) (fun r=>r=wr h) (fun i s hi hs=>?_) (fun s hs=>?_) (Vector.replicate 32 0,0) 0 (by omega) ⟨rfl, fun k hk h0=>by omega⟩
  ·
   obtain ⟨v,j⟩:=s
   obtain ⟨h1,h2⟩:=hs
   simp only at h1 h2
   subst h1
   have hd:w64 (Int.tdiv (i:Int) 4)=((i / 4:Nat):Int):=by
    have:Int.tdiv (i:Int) 4=((i / 4:Nat):Int):=by rw [Int.tdiv_eq_ediv_of_nonneg (by omega)]; omega
    rw [this,z0z (by omega) (by omega)]
   have hm:w64 (8 * (Int.tmod (i:Int) 4))=((8 * (i % 4):Nat):Int):=by
    have:Int.tmod (i:Int) 4=((i % 4:Nat):Int):=by rw [Int.tmod_eq_emod_of_nonneg (by omega)]; omega
    rw [this,z0z (by omega) (by omega)]; omega
   have hs:w64 (24 - ((8 * (i % 4):Nat):Int))=((24 - 8 * (i % 4):Nat):Int):=by rw [z0z (by omega) (by omega)]; omega
   refine ⟨(zg5 v (i:Int) ((z3o (h[i / 4]'(by omega)) (24 - 8 * (i % 4))).toUInt8),((i+1:Nat):Int)),?_,rfl, fun k hk hk2=>?_⟩
   ·
    unfold z3v
    rw [if_pos (by simp; omega)]
    simp only []
    rw [hd,hm,hs,z79 (show i / 4<8 by omega),z2t (by omega),z79 hi,z0p (show i<9223372036854775807 by omega)]
    simp only [bS,Int.toNat_natCast]
   ·
    simp only []
    rw [zeo hk,Int.toNat_natCast]
    by_cases e:i=k
    ·
     subst e
     rw [if_pos rfl]
     simp [wr]
    ·
     rw [if_neg e]; exact h2 k hk (by omega)
  ·
   obtain ⟨v,j⟩:=s
   obtain ⟨h1,h2⟩:=hs
   simp only at h1 h2
   subst h1
   refine ⟨v,?_,?_⟩
   ·
    unfold z3v
    rw [if_neg (by simp)]
   ·
    exact Vector.ext fun k hk=>h2 k hk hk
 obtain ⟨r,h1,rfl⟩:=this
 unfold z7b
 rw [h1]
 simp only [bS]
theorem zo7 (m:z1w):iter (z7t m) (Vector.replicate 32 0,0)=some (wr m.Words):=by
 have:∃ r,iter (z7t m) (Vector.replicate 32 0,0)=some r∧r=wr m.Words:=by
  refine z7k (F:=z7t m) 8 (fun i s=>s.2=(i:Int)∧∀ k (hk:k<32),k<4 * i→s.1[k]=(wr m.Words)[k]) (fun r=>r=wr m.Words) (fun i s hi hs=>?_) (fun s hs=>?_) (Vector.replicate 32 0,0) 0 (by omega) ⟨rfl, fun k hk h0=>by omega⟩
  ·
   obtain ⟨v,j⟩:=s
   obtain ⟨h1,h2⟩:=hs
   simp only at h1 h2
   subst h1
   have e0:w64 (4 * (i:Int))=((4 * i:Nat):Int):=by rw [z0z (by omega) (by omega)]; omega
   have e1:w64 (((4 * i:Nat):Int)+1)=((4 * i+1:Nat):Int):=by rw [z0z (by omega) (by omega)]; omega
   have e2:w64 (((4 * i:Nat):Int)+2)=((4 * i+2:Nat):Int):=by rw [z0z (by omega) (by omega)]; omega
   have e3:w64 (((4 * i:Nat):Int)+3)=((4 * i+3:Nat):Int):=by rw [z0z (by omega) (by omega)]; omega
   refine ⟨(zg5 (zg5 (zg5 (zg5 v ((4 * i:Nat):Int) (z3o m.Words[i] 24).toUInt8) ((4 * i+1:Nat):Int) (z3o m.Words[i] 16).toUInt8) ((4 * i+2:Nat):Int) (z3o m.Words[i] 8).toUInt8) ((4 * i+3:Nat):Int) m.Words[i].toUInt8,((i+1:Nat):Int)),?_,rfl, fun k hk hk2=>?_⟩
   ·
    unfold z7t
    rw [if_pos (by simp; omega)]
    simp only []
    rw [e0,e1,e2,e3,z79 hi,z79 (show 4 * i<32 by omega),z0p (show i<9223372036854775807 by omega)]
    simp only [bS]
    rw [z79 (show 4 * i+1<32 by omega),z79 (show 4 * i+2<32 by omega),z79 (show 4 * i+3<32 by omega)]
    simp only [bS]
   ·
    simp only []
    rw [zeo hk,zeo hk,zeo hk,zeo hk]
    simp only [Int.toNat_natCast]
    have hw:(wr m.Words)[k]=(z3o (m.Words[k / 4]'(by omega)) (24 - 8 * (k % 4))).toUInt8:=by simp [wr]
    have s0:∀ x:UInt32,z3o x 0=x:=fun x=>by
     apply UInt32.toNat_inj.1; rw [zcq]; simp
    by_cases c3:4 * i+3=k
    ·
     subst c3
     rw [if_pos rfl,hw]
     have a1:(4 * i+3) / 4=i:=by omega
     have a2:24 - 8 * ((4 * i+3) % 4)=0:=by omega
     simp only [a1,a2,s0]
    ·
     rw [if_neg c3]
     by_cases c2:4 * i+2=k
     ·
      subst c2
      rw [if_pos rfl,hw]
      have a1:(4 * i+2) / 4=i:=by omega
      have a2:24 - 8 * ((4 * i+2) % 4)=8:=by omega
      simp only [a1,a2]
     ·
      rw [if_neg c2]
      by_cases c1:4 * i+1=k
      ·
       subst c1
       rw [if_pos rfl,hw]
       have a1:(4 * i+1) / 4=i:=by omega
       have a2:24 - 8 * ((4 * i+1) % 4)=16:=by omega
       simp only [a1,a2]
      ·
       rw [if_neg c1]
       by_cases c0:4 * i=k
       ·
        subst c0
        rw [if_pos rfl,hw]
        have a1:(4 * i) / 4=i:=by omega
        have a2:24 - 8 * ((4 * i) % 4)=24:=by omega
        simp only [a1,a2]
       ·
        rw [if_neg c0]
        exact h2 k hk (by omega)
  ·
   obtain ⟨v,j⟩:=s
   obtain ⟨h1,h2⟩:=hs
   simp only at h1 h2
   subst h1
   refine ⟨v,?_,?_⟩
   ·
    unfold z7t
    rw [if_neg (by simp)]
   ·
    exact Vector.ext fun k hk=>h2 k hk (by omega)
 obtain ⟨r,h1,rfl⟩:=this
 exact h1
def sha (b:List UInt8):V3:=wr (blk H0 (b++tl b.length))
theorem z12l (a:List UInt8) (h:a.length≤300000):zem (zs4 a)=some (sha a):=by
 have hz:zrs a.length<64:=Nat.mod_lt _ (by omega)
 unfold zem
 rw [show (zs4 a).N=((a.length:Nat):Int) from rfl,znw]
 simp only [bS]
 have ht:Int.tmod (w64 (119 - Int.tmod ((a.length:Nat):Int) 64)) 64=((zrs a.length:Nat):Int):=by
  have e1:Int.tmod ((a.length:Nat):Int) 64=((a.length % 64:Nat):Int):=by rw [Int.tmod_eq_emod_of_nonneg (by omega)]; omega
  rw [e1,z0z (by omega) (by omega),Int.tmod_eq_emod_of_nonneg (by omega)]
  unfold zrs
  omega
 rw [ht]
 have hap:appz 1 ([128]:List UInt8) 0 ((zrs a.length:Nat):Int)=some ([128]++List.replicate (zrs a.length) 0):=by
  unfold appz
  rw [if_pos ⟨by omega, by simp; omega⟩,Int.toNat_natCast]
 rw [hap]
 simp only [bS]
 rw [zu0 _ _ (by simp; omega)]
 simp only [bS]
 have htl:(tl a.length).length≤200:=by simp [tl,z7d]; omega
 rw [show ([128]++List.replicate (zrs a.length) 0)++z7d a.length=tl a.length from rfl,zmf a _ (by omega)]
 simp only [bS]
 rw [zo7]
 simp only [bS]
 rfl
theorem z11j (b:List UInt8) (h:b.length≤300000):z9e b=some (sha b):=by
 have hz:zrs b.length<64:=Nat.mod_lt _ (by omega)
 have htl:(tl b.length).length≤200:=by simp [tl,z7d]; omega
 unfold z9e zag
 simp only [bS]
 rw [z2a (by simp; omega)]
 simp only [bS,List.nil_append]
 rw [zx2 _ (by omega)]
 simp only [bS]
 rw [z2a (by simp; omega)]
 simp only [bS]
 rw [zv4 _ _ (by simp; omega)]
 simp only [bS]
 rw [zqx]
 simp only [bS]
 rfl
end
section
open Go Go.RowKit
def pmod:Nat→Nat→Nat→Nat→Nat
 | 0,_,_,m=>1 % m
 | f+1,a,n,m=>if n=0 then 1 % m else (if n % 2=1 then a * pmod f (a * a % m) (n / 2) m % m else pmod f (a * a % m) (n / 2) m)
theorem zlb:∀ (f a n m:Nat),n<2 ^ f→pmod f a n m=a ^ n % m
 | 0,a,n,m,h=>by
  have:n=0:=by simpa using h
  subst this; rfl
 | f+1,a,n,m,h=>by
  have h2:n / 2<2 ^ f:=by rw [Nat.pow_succ] at h; omega
  have key:(a * a % m) ^ (n / 2) % m=a ^ (2 * (n / 2)) % m:=by
   rw [← Nat.pow_mod,← Nat.pow_two,← Nat.pow_mul]
  simp only [pmod,zlb f _ _ _ h2,key]
  split
  ·
   rename_i h0; subst h0; rfl
  ·
   split
   ·
    rename_i h1
    rw [Nat.mul_mod,Nat.mod_mod,← Nat.mul_mod, show a * a ^ (2 * (n / 2))=a ^ (2 * (n / 2)+1) by rw [Nat.pow_succ,Nat.mul_comm], show 2 * (n / 2)+1=n by omega]
   ·
    rename_i h1
    rw [show 2 * (n / 2)=n by omega]
abbrev gp:Nat:=1000000007
abbrev gq:Nat:=500000003
theorem zpv:4 ^ gq % gp=1:=by
 rw [← zlb 64 4 gq gp (by decide)]
 decide +kernel
def inG (a:Nat):Prop:=0<a∧a<gp∧a ^ gq % gp=1
instance:DecidablePred inG:=fun a=>by unfold inG; exact inferInstance
theorem zfx (a m n p:Nat):(a ^ m % p) ^ n % p=a ^ (m * n) % p:=by rw [← Nat.pow_mod,← Nat.pow_mul]
theorem znc {a:Nat} (h:a ^ gq % gp=1) (k:Nat):a ^ (gq * k) % gp=1:=by
 rw [Nat.pow_mul,Nat.pow_mod,h,Nat.one_pow]
 rfl
theorem zjf {a:Nat} (h:a ^ gq % gp=1) (k r:Nat):a ^ (gq * k+r) % gp=a ^ r % gp:=by
 rw [Nat.pow_add,Nat.mul_mod,znc h,Nat.one_mul,Nat.mod_mod]
theorem zm6 {a:Nat} (h:a ^ gq % gp=1) (n:Nat):inG (a ^ n % gp):=by
 have h2:(a ^ n % gp) ^ gq % gp=1:=by rw [zfx,Nat.mul_comm,znc h]
 refine ⟨Nat.pos_of_ne_zero fun h0=>?_,Nat.mod_lt _ (by decide),h2⟩
 rw [h0,Nat.zero_pow (by decide)] at h2
 exact absurd h2 (by decide)
theorem z10g {y E:Nat} (h:y ^ gq % gp=1) (hE:E<gq):(y ^ E % gp) ^ (gq - 1) % gp=y ^ (gq - E) % gp:=by
 rw [zfx]
 by_cases h0:E=0
 ·
  subst h0
  rw [Nat.zero_mul,Nat.sub_zero,h,Nat.pow_zero]
  decide
 ·
  have e:E * (gq - 1)=gq * (E - 1)+(gq - E):=by
   obtain ⟨k,rfl⟩:∃ k,E=k+1:=⟨E - 1, by omega⟩
   have hE':k+1<500000003:=hE
   show (k+1) * 500000002=500000003 * (k+1 - 1)+(500000003 - (k+1))
   omega
  rw [e,zjf h]
theorem zv3 {a n i p:Nat}:((a ^ (n >>> (i+1)) % p) * (a ^ (n >>> (i+1)) % p) % p) * a ^ ((n >>> i) % 2) % p=a ^ (n >>> i) % p:=by
 have e:n >>> i=2 * (n >>> (i+1))+(n >>> i) % 2:=by
  rw [Nat.shiftRight_succ]; omega
 have key:∀ x y:Nat,((x % p) * (x % p) % p) * y % p=x * x * y % p:=fun x y=>by
  rw [Nat.mul_mod ((x % p) * (x % p) % p) y,Nat.mod_mod,← Nat.mul_mod x x,← Nat.mul_mod]
 rw [key,← Nat.pow_add,← Nat.pow_add]
 congr 2
 omega
end
section
open Go
def u32 (n:Nat):UInt32:=UInt32.ofNat n
theorem z1t {n:Nat} (h:n<gp):(u32 n).toNat=n:=by
 have h:n<1000000007:=h
 unfold u32; simp; omega
theorem m64 (x y:UInt64) (h:x.toNat * y.toNat<18446744073709551616):(x * y % 1000000007).toNat=x.toNat * y.toNat % gp:=by
 rw [UInt64.toNat_mod,UInt64.toNat_mul,Nat.mod_eq_of_lt h]
 rfl
theorem to32 (x:UInt64) (h:x.toNat<gp):x.toUInt32=u32 x.toNat:=by
 apply UInt32.toNat_inj.1
 have h:x.toNat<1000000007:=h
 rw [z1t h]; simp; omega
theorem mul2 (x y:UInt32):z9k 1000000007 [x,y]=some (u32 (x.toNat * y.toNat % gp)):=by
 have hx:=UInt32.toNat_lt x
 have hy:=UInt32.toNat_lt y
 have e1:(1 * x.toUInt64 % 1000000007:UInt64).toNat=x.toNat % gp:=by
  rw [m64 _ _ (by simp; omega)]; simp
 have hlt:x.toNat % gp<1000000007:=Nat.mod_lt _ (by decide)
 have hpr:(x.toNat % gp) * y.toNat≤1000000007 * 4294967296:=Nat.mul_le_mul (by omega) (by omega)
 have e2:(1 * x.toUInt64 % 1000000007 * y.toUInt64 % 1000000007:UInt64).toNat=x.toNat * y.toNat % gp:=by
  rw [m64 _ _ (by rw [e1]; simp; omega),e1]
  simp only [UInt32.toNat_toUInt64]
  rw [Nat.mod_mul_mod]
 have s1:z3e 1000000007 [x,y] (1,0)=some (.inr (1 * x.toUInt64 % 1000000007,1)):=by
  unfold z3e
  rw [if_pos (by simp)]
  simp only []
  rw [show idx [x,y] 0=some x from rfl,z2t (by decide),z0z (x:=(0:Int)+1) (by omega) (by omega)]
  simp only [bS]
  rfl
 have s2:z3e 1000000007 [x,y] (1 * x.toUInt64 % 1000000007,1)=some (.inr (1 * x.toUInt64 % 1000000007 * y.toUInt64 % 1000000007,2)):=by
  unfold z3e
  rw [if_pos (by simp)]
  simp only []
  rw [show idx [x,y] 1=some y from rfl,z2t (by decide),z0z (x:=(1:Int)+1) (by omega) (by omega)]
  simp only [bS]
  rfl
 have s3:z3e 1000000007 [x,y] (1 * x.toUInt64 % 1000000007 * y.toUInt64 % 1000000007,2)=some (.inl (1 * x.toUInt64 % 1000000007 * y.toUInt64 % 1000000007)):=by
  unfold z3e
  rw [if_neg (by simp)]
 unfold z9k
 rw [z1q s1,z1q s2,z1j s3]
 simp only [bS]
 rw [to32 _ (by rw [e2]; exact Nat.mod_lt _ (by decide)),e2]
theorem zxh (a:UInt32) (n:UInt64) (i:Nat) (hi:i<64):za9 a n (u32 (a.toNat ^ (n.toNat >>> (64 - i)) % gp),(i:Int))=some (.inr (u32 (a.toNat ^ (n.toNat >>> (64 - (i+1))) % gp),((i+1:Nat):Int))):=by
 have hlt:a.toNat ^ (n.toNat >>> (64 - i)) % gp<gp:=Nat.mod_lt _ (by decide)
 have hlt2:(a.toNat ^ (n.toNat >>> (64 - i)) % gp) * (a.toNat ^ (n.toNat >>> (64 - i)) % gp) % gp<gp:=Nat.mod_lt _ (by decide)
 have hw:w64 (63 - (i:Int))=((63 - i:Nat):Int):=by rw [z0z (by omega) (by omega)]; omega
 have key:=zv3 (a:=a.toNat) (n:=n.toNat) (i:=63 - i) (p:=gp)
 rw [show 63 - i+1=64 - i by omega] at key
 have hb:=z132 n (63 - i) (by omega)
 unfold za9 zfr
 rw [if_pos (by simp; omega)]
 simp only []
 rw [mul2,z1t hlt]
 simp only [bS]
 rw [hw,z2t (by omega),z0p (show i<9223372036854775807 by omega)]
 simp only [bS]
 rw [show 64 - (i+1)=63 - i by omega]
 have hs:n.toNat >>> (63 - i) % 2=(if n.toNat.testBit (63 - i) then 1 else 0):=by
  rw [Nat.testBit_eq_decide_div_mod_eq,← Nat.shiftRight_eq_div_pow]
  by_cases h:n.toNat >>> (63 - i) % 2=1
  ·
   simp [h]
  ·
   simp [h]; omega
 cases ht:n.toNat.testBit (63 - i) with
 | true =>
  rw [ht] at hs
  rw [hs,if_pos rfl,Nat.pow_one] at key
  rw [if_pos (by rw [Int.toNat_natCast,hb]; exact ht),mul2,z1t hlt2,key]
  simp only [bS]
 | false =>
  rw [ht] at hs
  rw [hs,if_neg (by simp),Nat.pow_zero,Nat.mul_one,Nat.mod_mod] at key
  rw [if_neg (by rw [Int.toNat_natCast,hb,ht]; simp),key]
theorem zpg (a:UInt32) (n:UInt64):zce a n=some (u32 (a.toNat ^ n.toNat % gp)):=by
 have h0:n.toNat >>> 64=0:=by
  rw [Nat.shiftRight_eq_div_pow]; exact Nat.div_eq_of_lt (UInt64.toNat_lt n)
 have:=z2u (F:=za9 a n) (b:=u32 (a.toNat ^ n.toNat % gp)) 64 (fun i=>(u32 (a.toNat ^ (n.toNat >>> (64 - i)) % gp),(i:Int))) (fun i hi=>zxh a n i hi) (by
  unfold za9
  rw [if_neg (by simp)]
  simp)
 simp only [Nat.sub_zero,h0,Nat.pow_zero] at this
 unfold zce
 rw [show ((1:UInt32),(0:Int))=(u32 (1 % gp),((0:Nat):Int)) from rfl,this]
 simp only [bS]
theorem zrj:∀ (k:Nat) (a n o:UInt64),n.toNat=k→a.toNat<4294967296→o.toNat<gp→∃ r:UInt64,iter (z4p 1000000007) (a,n,o)=some r∧r.toNat=o.toNat * a.toNat ^ n.toNat % gp:=by
 intro k
 induction k using Nat.strongRecOn with
 | _ k ih =>
  intro a n o hk ha ho
  have ho':o.toNat<1000000007:=ho
  by_cases hn:n.toNat=0
  ·
   refine ⟨o,z1j ?_,?_⟩
   ·
    unfold z4p
    rw [if_neg]
    simp only [decide_eq_true_eq,UInt64.lt_iff_toNat_lt]
    simp; omega
   ·
    rw [hn,Nat.pow_zero,Nat.mul_one,Nat.mod_eq_of_lt ho]
  ·
   have haa:(a * a % 1000000007).toNat=a.toNat * a.toNat % gp:=m64 a a (by
    have:a.toNat * a.toNat≤4294967295 * 4294967295:=Nat.mul_le_mul (by omega) (by omega)
    omega)
   have hoa:(o * a % 1000000007).toNat=o.toNat * a.toNat % gp:=m64 o a (by
    have:o.toNat * a.toNat≤1000000007 * 4294967295:=Nat.mul_le_mul (by omega) (by omega)
    omega)
   have hn2:(n / 2).toNat=n.toNat / 2:=by simp
   have hm2:((n % 2)==1)=decide (n.toNat % 2=1):=by
    rw [Bool.eq_iff_iff,beq_iff_eq,← UInt64.toNat_inj]
    simp
   have hlt:a.toNat * a.toNat % gp<1000000007:=Nat.mod_lt _ (by decide)
   have hol:o.toNat * a.toNat % gp<gp:=Nat.mod_lt _ (by decide)
   have hpow:∀ m:Nat,(a.toNat * a.toNat % gp) ^ m % gp=a.toNat ^ (2 * m) % gp:=fun m=>by
    rw [← Nat.pow_mod,← Nat.pow_two,← Nat.pow_mul]
   have hstep:z4p 1000000007 (a,n,o)=some (.inr (a * a % 1000000007,n / 2, if n.toNat % 2=1 then o * a % 1000000007 else o)):=by
    unfold z4p
    rw [if_pos (by simp only [decide_eq_true_eq,UInt64.lt_iff_toNat_lt]; simp; omega)]
    simp only []
    rw [hm2,z2t (by decide)]
    by_cases h:n.toNat % 2=1
    ·
     rw [if_pos (by simpa using h),if_pos h]
     simp only [bS]
    ·
     rw [if_neg (by simpa using h),if_neg h]
     simp only [bS]
   rw [z1q hstep]
   by_cases h:n.toNat % 2=1
   ·
    rw [if_pos h]
    obtain ⟨r,h1,h2⟩:=ih (n / 2).toNat (by rw [hn2]; omega) (a * a % 1000000007) (n / 2) (o * a % 1000000007) rfl (by rw [haa]; omega) (by rw [hoa]; exact hol)
    refine ⟨r,h1,?_⟩
    rw [h2,haa,hoa,hn2,Nat.mul_mod,hpow,Nat.mod_mod,← Nat.mul_mod,Nat.mul_assoc, show a.toNat * a.toNat ^ (2 * (n.toNat / 2))=a.toNat ^ (2 * (n.toNat / 2)+1) by rw [Nat.pow_succ,Nat.mul_comm], show 2 * (n.toNat / 2)+1=n.toNat by omega]
   ·
    rw [if_neg h]
    obtain ⟨r,h1,h2⟩:=ih (n / 2).toNat (by rw [hn2]; omega) (a * a % 1000000007) (n / 2) o rfl (by rw [haa]; omega) ho
    refine ⟨r,h1,?_⟩
    rw [h2,haa,hn2,Nat.mul_mod,hpow,← Nat.mul_mod, show 2 * (n.toNat / 2)=n.toNat by omega]
theorem zq2 (a n:UInt64) (ha:a.toNat<4294967296):∃ r:UInt64,z6x a n 1000000007=some r∧r.toNat=a.toNat ^ n.toNat % gp:=by
 obtain ⟨r,h1,h2⟩:=zrj _ a n 1 rfl ha (by decide)
 refine ⟨r,?_, by rw [h2]; simp⟩
 unfold z6x
 rw [h1]
 simp only [bS]
theorem zj3 (a:UInt32) (n:UInt64):z4l a n=some (u32 (a.toNat ^ n.toNat % gp)):=by
 obtain ⟨r,h1,h2⟩:=zq2 a.toUInt64 n (by simp; exact UInt32.toNat_lt a)
 unfold z4l
 rw [h1]
 simp only [bS]
 simp only [UInt32.toNat_toUInt64] at h2
 rw [to32 _ (by rw [h2]; exact Nat.mod_lt _ (by decide)),h2]
theorem z11d (a:UInt32):(u32 (a.toNat ^ (500000003:UInt64).toNat % gp)==1)=decide (a.toNat ^ gq % gp=1):=by
 have hlt:a.toNat ^ gq % gp<gp:=Nat.mod_lt _ (by decide)
 rw [show (500000003:UInt64).toNat=gq from rfl,Bool.eq_iff_iff,beq_iff_eq,decide_eq_true_iff,← UInt32.toNat_inj,z1t hlt]
 rfl
theorem zuy (a:UInt32):zeq a=some (decide (inG a.toNat)):=by
 unfold zeq
 have h1:decide (0<a)=decide (0<a.toNat):=by simp [UInt32.lt_iff_toNat_lt]
 have h2:decide (a<1000000007)=decide (a.toNat<gp):=by simp [UInt32.lt_iff_toNat_lt]
 rw [h1,h2,zpg]
 simp only [bS]
 rw [z11d]
 unfold inG
 by_cases c1:0<a.toNat
 ·
  by_cases c2:a.toNat<gp
  ·
   simp [c1,c2]
  ·
   simp [c1,c2]
 ·
  simp [c1]
theorem zq8 (a:UInt32):z9m a=some (decide (inG a.toNat)):=by
 obtain ⟨r,hr1,hr2⟩:=zq2 a.toUInt64 500000003 (by simp; exact UInt32.toNat_lt a)
 unfold z9m
 have h1:decide (1≤a)=decide (0<a.toNat):=by
  rw [decide_eq_decide,UInt32.le_iff_toNat_le]; simp; omega
 have h2:decide (a<1000000007)=decide (a.toNat<gp):=by simp [UInt32.lt_iff_toNat_lt]
 rw [h1,h2,hr1]
 simp only [bS]
 have h3:(r==1)=decide (a.toNat ^ gq % gp=1):=by
  simp only [UInt32.toNat_toUInt64] at hr2
  rw [Bool.eq_iff_iff,beq_iff_eq,decide_eq_true_iff,← UInt64.toNat_inj,hr2]
  rfl
 rw [h3]
 unfold inG
 by_cases c1:0<a.toNat
 ·
  by_cases c2:a.toNat<gp
  ·
   simp [c1,c2]
  ·
   simp [c1,c2]
 ·
  simp [c1]
end
section
open Go
theorem zv1 (l:List (List UInt8)) (h0:l.length≤20) (h:∀ b∈l,b.length≤10000):z1a l=some false:=by
 have:iter (z12 l) 0=some (.inr ()):=by
  refine z2u (F:=z12 l) (b:=.inr ()) l.length (fun i=>(i:Int)) (fun i hi=>?_) ?_
  ·
   have hb:=h l[i] (List.getElem_mem _)
   unfold z12 zb1
   rw [if_pos (by simp; omega),z0j hi]
   simp only [bS]
   rw [if_neg (by simp; omega),z0p (show i<9223372036854775807 by omega)]
  ·
   unfold z12
   rw [if_neg (by simp)]
 unfold z1a z2h
 rw [this]
 simp only [zvs,bS]
 rfl
theorem zi8:∀ (l:List (List UInt8)),(∀ b∈l,b.length≤10000)→l.flatten.length≤l.length * 10000
 | [],_=>by simp
 | b::l,h=>by
  have h1:=h b (by simp)
  have h2:=zi8 l (fun c hc=>h c (by simp [hc]))
  simp only [List.flatten_cons,List.length_append,List.length_cons]; omega
theorem zjl (l:List (List UInt8)) (h0:l.length≤20) (h:∀ b∈l,b.length≤10000):z9d l=some (sha l.flatten,0):=by
 have hl:iter (z72 l) (zs4 [],0)=some (zs4 l.flatten):=by
  have:=z2u (F:=z72 l) (b:=zs4 l.flatten) l.length (fun i=>(zs4 (l.take i).flatten,(i:Int))) (fun i hi=>?_) ?_
  ·
   simpa using this
  ·
   have hb:=h l[i] (List.getElem_mem _)
   have hf:=zi8 (l.take i) (fun b hb'=>h b (List.mem_of_mem_take hb'))
   simp only [List.length_take] at hf
   unfold z72
   rw [if_pos (by simp; omega)]
   simp only []
   rw [z0j hi]
   simp only [bS]
   rw [zmf _ _ (by omega),z0p (show i<9223372036854775807 by omega)]
   simp only [bS]
   rw [List.take_add_one,List.getElem?_eq_getElem hi,List.flatten_append]
   rw [show ((some l[i]:Option (List UInt8)).toList).flatten=l[i] by simp]
  ·
   unfold z72
   rw [if_neg (by simp)]
   simp
 have hf:=zi8 l h
 unfold z9d
 rw [if_neg (by simp; omega),zv1 l h0 h]
 simp only [bS]
 rw [if_neg (by simp),zw0]
 simp only [bS]
 rw [hl]
 simp only [bS]
 rw [z12l _ (by omega)]
 simp only [bS]
theorem z11z (b:List UInt8) (h:b.length≤10000):zel b=some (sha b,0):=by
 unfold zel
 rw [zjl [b] (by simp) (by simpa using h)]
 simp
def four (x:UInt32):List UInt8:=[(z3o x 24).toUInt8,(z3o x 16).toUInt8,(z3o x 8).toUInt8,x.toUInt8]
theorem zsb (x:UInt32):z7l x=some (four x):=by
 unfold z7l four
 have hx:=UInt32.toNat_lt x
 have e1:(x / 16777216).toUInt8=(z3o x 24).toUInt8:=by
  apply UInt8.toNat_inj.1
  simp only [UInt32.toNat_toUInt8,zcq,UInt32.toNat_div]; rfl
 have e2:((x / 65536) % 256).toUInt8=(z3o x 16).toUInt8:=by
  apply UInt8.toNat_inj.1
  simp only [UInt32.toNat_toUInt8,zcq,UInt32.toNat_div,UInt32.toNat_mod]
  exact Nat.mod_mod _ _
 have e3:((x / 256) % 256).toUInt8=(z3o x 8).toUInt8:=by
  apply UInt8.toNat_inj.1
  simp only [UInt32.toNat_toUInt8,zcq,UInt32.toNat_div,UInt32.toNat_mod]
  exact Nat.mod_mod _ _
 have e4:(x % 256).toUInt8=x.toUInt8:=by
  apply UInt8.toNat_inj.1
  simp only [UInt32.toNat_toUInt8,UInt32.toNat_mod]
  exact Nat.mod_mod _ _
 rw [e1,e2,e3,e4]
def zkz (d:V3):Nat→UInt64
 | 0=>0
 | i+1=>256 * zkz d i+(d.toList.getD i 0).toUInt64
theorem zp0 (d:V3):∀ i,i≤8→(zkz d i).toNat<256 ^ i
 | 0,_=>by simp [zkz]
 | i+1,h=>by
  have ih:=zp0 d i (by omega)
  have hy:=UInt8.toNat_lt (d.toList.getD i 0)
  have ep:256 ^ (i+1)=256 ^ i * 256:=Nat.pow_succ ..
  have hp:256 ^ i≤256 ^ 7:=Nat.pow_le_pow_right (by omega) (by omega)
  have e7:(256:Nat) ^ 7=72057594037927936:=rfl
  rw [zkz,UInt64.toNat_add,UInt64.toNat_mul,ep]
  have e1:((d.toList.getD i 0).toUInt64).toNat=(d.toList.getD i 0).toNat:=by simp
  have e2:(256:UInt64).toNat=256:=rfl
  rw [e1,e2,Nat.mod_eq_of_lt (a:=256 * (zkz d i).toNat) (by omega),Nat.mod_eq_of_lt (by omega)]
  omega
theorem zwt (x:UInt64) (y:UInt8) (h:x.toNat<72057594037927936):(zlr x 8) ||| y.toUInt64=256 * x+y.toUInt64:=by
 apply UInt64.toNat_inj.1
 have hy:=UInt8.toNat_lt y
 rw [UInt64.toNat_or,ziy,UInt64.toNat_add,UInt64.toNat_mul]
 have e1:(y.toUInt64).toNat=y.toNat:=by simp
 have e2:(256:UInt64).toNat=256:=rfl
 rw [e1,e2, show (2:Nat) ^ (min 8 64)=256 from rfl,Nat.mod_eq_of_lt (a:=x.toNat * 256) (by omega),Nat.mod_eq_of_lt (a:=256 * x.toNat) (by omega),Nat.mod_eq_of_lt (by omega)]
 have:=Nat.shiftLeft_add_eq_or_of_lt (i:=8) (b:=y.toNat) (by simpa using hy) x.toNat
 rw [Nat.shiftLeft_eq, show (2:Nat) ^ 8=256 from rfl] at this
 rw [← this]; omega
theorem zpl (d:V3) (e:Int):iter (za3 (d,e)) (0,0)=some (zkz d 8):=by
 refine z2u (F:=za3 (d,e)) (b:=zkz d 8) 8 (fun i=>(zkz d i,(i:Int))) (fun i hi=>?_) ?_
 ·
  have hl:((d.toList.drop 0).take 8).length=8:=by simp
  have hlt:=zp0 d i (by omega)
  have hp:256 ^ i≤256 ^ 7:=Nat.pow_le_pow_right (by omega) (by omega)
  have e7:(256:Nat) ^ 7=72057594037927936:=rfl
  unfold za3
  simp only [hl]
  rw [if_pos (by simp; omega),zdu 0 (by rw [hl]; exact hi)]
  simp only [bS]
  rw [List.drop_zero,znn hi,zwt _ _ (by omega),z0p (show i<9223372036854775807 by omega)]
  rfl
 ·
  have hl:((d.toList.drop 0).take 8).length=8:=by simp
  unfold za3
  simp only [hl]
  rw [if_neg (by simp)]
theorem zzi (b:List UInt8) (h:b.length≤300000):z7w b=some (zkz (sha b) 8):=by
 have:iter (z4e (sha b)) (0,0)=some (zkz (sha b) 8):=by
  refine z2u (F:=z4e (sha b)) (b:=zkz (sha b) 8) 8 (fun i=>(zkz (sha b) i,(i:Int))) (fun i hi=>?_) ?_
  ·
   unfold z4e
   rw [if_pos (by simp; omega)]
   simp only [zua]
   rw [zdu 0 (by simp; omega),z0p (show i<9223372036854775807 by omega)]
   simp only [bS]
   rfl
  ·
   unfold z4e
   rw [if_neg (by simp)]
 unfold z7w
 rw [z11j b h]
 simp only [bS]
 rw [this]
 simp only [bS]
def zs7 (r y:UInt32) (m:List UInt8):UInt32:=(zkz (sha ((([99]++four r)++four y)++m)) 8 % 500000003).toUInt32
theorem zys (m:List UInt8) (r y:UInt32) (h:m.length≤9991):zaz 99 m [r,y]=some (zkz (sha ((([99]++four r)++four y)++m)) 8,0):=by
 have l1:iter (z3c [r,y]) ([99],0)=some (([99]++four r)++four y):=by
  have s1:z3c [r,y] ([99],0)=some (.inr ([99]++four r,1)):=by
   unfold z3c
   rw [if_pos (by simp)]
   simp only []
   rw [show idx [r,y] 0=some r from rfl,z0z (x:=(0:Int)+1) (by omega) (by omega)]
   simp only [bS]
   rw [z2a (by simp)]
   rfl
  have s2:z3c [r,y] ([99]++four r,1)=some (.inr (([99]++four r)++four y,2)):=by
   unfold z3c
   rw [if_pos (by simp)]
   simp only []
   rw [show idx [r,y] 1=some y from rfl,z0z (x:=(1:Int)+1) (by omega) (by omega)]
   simp only [bS]
   rw [z2a (by simp [four])]
   rfl
  have s3:z3c [r,y] (([99]++four r)++four y,2)=some (.inl (([99]++four r)++four y)):=by
   unfold z3c
   rw [if_neg (by simp)]
  rw [z1q s1,z1q s2,z1j s3]
 unfold zaz
 rw [if_neg (by simp; omega),l1]
 simp only [bS]
 rw [zjl _ (by simp) (by
  intro b hb
  simp only [List.mem_cons,List.not_mem_nil,or_false] at hb
  rcases hb with rfl | rfl
  ·
   simp [four]
  ·
   omega)]
 simp only [bS]
 rw [zpl, show [([99]++four r)++four y,m].flatten=(([99]++four r)++four y)++m by simp only [List.flatten_cons,List.flatten_nil,List.append_nil]]
 rfl
theorem zhy (r y:UInt32) (m:List UInt8) (h:m.length≤9991):z8j r y m=some (zs7 r y m,0):=by
 unfold z8j
 rw [zys m r y h]
 simp only [bS]
 rw [if_neg (by simp)]
 rfl
theorem ziv (r y:UInt32) (m:List UInt8) (h:m.length≤9991):z61 r y m=some (zs7 r y m):=by
 unfold z61
 rw [zsb]
 simp only [bS]
 rw [z2a (by simp [four]),zsb]
 simp only [bS]
 rw [z2a (by simp [four])]
 simp only [bS]
 rw [z2a (by simp [four]; omega)]
 simp only [bS]
 rw [zzi _ (by simp [four]; omega)]
 simp only [bS]
 rfl
def z96 (x:UInt32):Bool:=decide (x.toNat<gq)
theorem zd3 (x:UInt32):z3b x=some (z96 x):=by
 have e:decide (x.toUInt64<500000003)=z96 x:=by unfold z96; simp [UInt64.lt_iff_toNat_lt]
 unfold z3b
 rw [e]
 rfl
def sigR (y:UInt32) (s:z09):UInt32:=u32 ((4 ^ s.S.toNat % gp) * (y.toNat ^ (gq - s.E.toNat) % gp) % gp)
def zj2 (y:UInt32) (m:List UInt8) (s:z09):Bool:=z96 s.E&&(z96 s.S&&(zs7 (sigR y s) y m==s.E))
theorem zxj (y:UInt32) (m:List UInt8) (s:z09) (hy:inG y.toNat) (h:m.length≤9991):z8q y m s=some (zj2 y m s):=by
 unfold z8q zj2
 rw [zd3]
 simp only [bS]
 cases hE:z96 s.E with
 | false=>rw [if_pos (by simp)]; rfl
 | true =>
  rw [if_neg (by simp),zd3]
  simp only [bS]
  cases hS:z96 s.S with
  | false=>rw [if_pos (by simp)]; rfl
  | true =>
   have hE':s.E.toNat<gq:=by simpa [z96] using hE
   have hin:=zm6 hy.2.2 s.E.toNat
   have hlt:y.toNat ^ s.E.toNat % gp<gp:=Nat.mod_lt _ (by decide)
   rw [if_neg (by simp),zj3]
   simp only [bS]
   unfold zc5 zbz zav
   rw [zq8,z1t (by simpa using hlt)]
   simp only [bS]
   have hE64:s.E.toUInt64.toNat=s.E.toNat:=by simp
   rw [hE64,decide_eq_true hin,if_neg (by simp),zj3,z1t hlt,zj3]
   simp only [bS]
   rw [show (500000002:UInt64).toNat=gq - 1 from rfl,z10g hy.2.2 hE']
   unfold z9l
   simp only [bS]
   have hS64:s.S.toUInt64.toNat=s.S.toNat:=by simp
   have hl1:4 ^ s.S.toNat % gp<gp:=Nat.mod_lt _ (by decide)
   have hl2:y.toNat ^ (gq - s.E.toNat) % gp<gp:=Nat.mod_lt _ (by decide)
   have hprod:((u32 ((4:UInt32).toNat ^ s.S.toUInt64.toNat % gp)).toUInt64 * (u32 (y.toNat ^ (gq - s.E.toNat) % gp)).toUInt64 % 1000000007).toUInt32=sigR y s:=by
    have hb:(4 ^ s.S.toNat % gp) * (y.toNat ^ (gq - s.E.toNat) % gp)≤1000000007 * 1000000007:=Nat.mul_le_mul (Nat.le_of_lt hl1) (Nat.le_of_lt hl2)
    have e1:=m64 (u32 ((4:UInt32).toNat ^ s.S.toUInt64.toNat % gp)).toUInt64 (u32 (y.toNat ^ (gq - s.E.toNat) % gp)).toUInt64
    simp only [UInt32.toNat_toUInt64] at e1
    rw [show (4:UInt32).toNat=4 from rfl,z1t hl1,z1t hl2] at e1
    have e1:=e1 (by omega)
    rw [show (4:UInt32).toNat=4 from rfl,hS64,to32 _ (by rw [e1]; exact Nat.mod_lt _ (by decide)),e1]
    rfl
   rw [hprod,ziv _ _ _ h]
   simp only [bS]
   rfl
theorem all1 (a:UInt32) (h:inG a.toNat):zb4 [a]=some true:=by
 unfold zb4
 have s1:z3x [a] 0=some (.inr 1):=by
  unfold z3x
  rw [if_pos (by simp), show idx [a] 0=some a from rfl]
  simp only [bS]
  rw [zuy,decide_eq_true h,z0z (x:=(0:Int)+1) (by omega) (by omega)]
  rfl
 have s2:z3x [a] 1=some (.inl (.inr ())):=by
  unfold z3x
  rw [if_neg (by simp)]
 rw [z1q s1,z1j s2]
 rfl
theorem all2 (a b:UInt32) (h:inG a.toNat) (h2:inG b.toNat):zb4 [a,b]=some true:=by
 unfold zb4
 have s1:z3x [a,b] 0=some (.inr 1):=by
  unfold z3x
  rw [if_pos (by simp), show idx [a,b] 0=some a from rfl]
  simp only [bS]
  rw [zuy,decide_eq_true h,z0z (x:=(0:Int)+1) (by omega) (by omega)]
  rfl
 have s2:z3x [a,b] 1=some (.inr 2):=by
  unfold z3x
  rw [if_pos (by simp), show idx [a,b] 1=some b from rfl]
  simp only [bS]
  rw [zuy,decide_eq_true h2,z0z (x:=(1:Int)+1) (by omega) (by omega)]
  rfl
 have s3:z3x [a,b] 2=some (.inl (.inr ())):=by
  unfold z3x
  rw [if_neg (by simp)]
 rw [z1q s1,z1q s2,z1j s3]
 rfl
theorem zsf (y:UInt32) (m:List UInt8) (s:z09) (hy:inG y.toNat) (h:m.length≤9991):zcr y m s=some (if zj2 y m s then 0 else 22):=by
 have hmax:decide (500000003≤max s.E s.S)=!(z96 s.E&&z96 s.S):=by
  have e1:(500000003≤max s.E s.S)↔(500000003≤s.E∨500000003≤s.S):=by
   rw [show max s.E s.S=if s.E≤s.S then s.S else s.E from rfl]
   split
   ·
    rename_i hh
    constructor
    ·
     exact fun h=>.inr h
    ·
     rintro (h | h)
     ·
      exact UInt32.le_trans h hh
     ·
      exact h
   ·
    rename_i hh
    constructor
    ·
     exact fun h=>.inl h
    ·
     rintro (h | h)
     ·
      exact h
     ·
      rw [UInt32.le_iff_toNat_le] at *; omega
  rw [Bool.eq_iff_iff,decide_eq_true_iff,e1]
  unfold z96
  simp only [UInt32.le_iff_toNat_le,Bool.not_eq_true',Bool.and_eq_false_iff,decide_eq_false_iff_not,Nat.not_lt]
  rfl
 unfold zcr
 rw [zuy,decide_eq_true hy]
 simp only [bS]
 rw [if_neg (by simp),if_neg (by simp; omega),hmax]
 cases hE:z96 s.E with
 | false=>unfold zj2; rw [hE]; rfl
 | true =>
  cases hS:z96 s.S with
  | false=>unfold zj2; rw [hE,hS]; rfl
  | true =>
   have hE':s.E.toNat<gq:=by simpa [z96] using hE
   have hE':s.E.toNat<500000003:=hE'
   rw [if_neg (by simp)]
   unfold zjb z9t ziq
   rw [all1 y hy]
   simp only [bS]
   rw [if_neg (by simp),zpg]
   simp only [bS]
   rw [zpg]
   simp only [bS]
   have hS64:s.S.toUInt64.toNat=s.S.toNat:=by simp
   have hq:(500000003 - s.E.toUInt64).toNat=gq - s.E.toNat:=by
    rw [UInt64.toNat_sub_of_le _ _ (by rw [UInt64.le_iff_toNat_le]; simp; omega)]
    simp
   have hl1:4 ^ s.S.toNat % gp<gp:=Nat.mod_lt _ (by decide)
   have hl2:y.toNat ^ (gq - s.E.toNat) % gp<gp:=Nat.mod_lt _ (by decide)
   rw [hq,hS64, show (4:UInt32).toNat=4 from rfl]
   rw [all2 _ _ (by rw [z1t hl1]; exact zm6 zpv _) (by rw [z1t hl2]; exact zm6 hy.2.2 _)]
   simp only [bS]
   rw [if_neg (by simp),mul2,z1t hl1,z1t hl2]
   simp only [bS]
   rw [zhy _ _ _ h]
   simp only [bS]
   rw [if_neg (by simp)]
   unfold zj2
   rw [hE,hS]
   show (if (zs7 (sigR y s) y m != s.E)=true then some 22 else some 0)=_
   by_cases hc:zs7 (sigR y s) y m=s.E
   ·
    simp [hc]
   ·
    simp [hc]
end
section
open Go
def frc {α:Type} (x:Nat) (k:Nat→α):α:=match x with
 | 0=>k 0
 | n+1=>k (n+1)
theorem zyf {α:Type} (x:Nat) (k:Nat→α):frc x k=k x:=by cases x <;> rfl
def fr {α:Type} (x:UInt32) (k:UInt32→α):α:=frc x.toNat fun n=>k (UInt32.ofNat n)
theorem zrb {α:Type} (x:UInt32) (k:UInt32→α):fr x k=k x:=by unfold fr; rw [zyf,UInt32.ofNat_toNat]
def fB {α:Type}:List UInt8→(List UInt8→α)→α
 | [],k=>k []
 | x::l,k=>frc x.toNat fun n=>fB l fun m=>k (UInt8.ofNat n::m)
theorem z110 {α:Type}:∀ (l:List UInt8) (k:List UInt8→α),fB l k=k l
 | [],k=>rfl
 | x::l,k=>by rw [fB,zyf,z110 l,UInt8.ofNat_toNat]
def fW {α:Type}:List UInt32→(List UInt32→α)→α
 | [],k=>k []
 | x::l,k=>fr x fun n=>fW l fun m=>k (n::m)
theorem z11t {α:Type}:∀ (l:List UInt32) (k:List UInt32→α),fW l k=k l
 | [],k=>rfl
 | x::l,k=>by rw [fW,zrb,z11t l]
def wL:Nat→List UInt8→List UInt32
 | 0,_=>[]
 | n+1,l=>zvj l 0::wL n (l.drop 4)
theorem ztw (l:List UInt8) (k:Nat):zvj (l.drop 4) k=zvj l (k+1):=by
 unfold zvj
 have e:∀ j,(l.drop 4).getD (4 * k+j) 0=l.getD (4 * (k+1)+j) 0:=fun j=>by
  rw [List.getD_eq_getElem?_getD,List.getD_eq_getElem?_getD,List.getElem?_drop]
  congr 2; omega
 have e0:=e 0
 rw [Nat.add_zero,Nat.add_zero] at e0
 rw [e0,e 1,e 2,e 3]
theorem z12d:∀ (n:Nat) (l:List UInt8),wL n l=(List.range n).map (zvj l)
 | 0,l=>rfl
 | n+1,l=>by
  rw [wL,z12d n,List.range_succ_eq_map,List.map_cons,List.map_map]
  exact congrArg (List.cons (zvj l 0)) (List.map_congr_left fun k hk=>ztw l k)
def sF {α:Type}:Nat→List UInt32→(List UInt32→α)→α
 | 0,r,k=>k r.reverse
 | n+1,r,k=>fr (((r.getD 15 0+r.getD 6 0)+sg0 (r.getD 14 0))+sg1 (r.getD 1 0)) fun w=>sF n (w::r) k
theorem zib (l:List UInt32) (i:Nat) (h:i<l.length):l.reverse.getD i 0=l.getD (l.length - (i+1)) 0:=by
 rw [List.getD_eq_getElem?_getD,List.getD_eq_getElem?_getD,List.getElem?_reverse h]
 congr 2
 omega
theorem z10r {α:Type} (b:List UInt8) (k:List UInt32→α):∀ (n m:Nat),sF n (z5v b m).reverse k=k (z5v b (m+n))
 | 0,m=>by rw [sF,List.reverse_reverse]; rfl
 | n+1,m=>by
  have hl:=zck b m
  rw [sF,zrb,zib _ 15 (by omega),zib _ 6 (by omega),zib _ 14 (by omega),zib _ 1 (by omega)]
  have:((((z5v b m).getD ((z5v b m).length - (15+1)) 0+(z5v b m).getD ((z5v b m).length - (6+1)) 0)+sg0 ((z5v b m).getD ((z5v b m).length - (14+1)) 0))+sg1 ((z5v b m).getD ((z5v b m).length - (1+1)) 0))::(z5v b m).reverse=(z5v b (m+1)).reverse:=by
   show _=(zoe (z5v b m)).reverse
   unfold zoe
   rw [List.reverse_append]; rfl
  rw [this,z10r b k n (m+1)]
  congr 2; omega
def rF {α:Type}:List UInt32→List UInt32→O8→(O8→α)→α
 | q::K,w::W,s,k=>fr (zzx q w s) fun t=>fr (t+rnd2 s) fun x=>fr (s.2.2.2.1+t) fun y=>rF K W (x,s.1,s.2.1,s.2.2.1,y,s.2.2.2.2.1,s.2.2.2.2.2.1,s.2.2.2.2.2.2.1) k
 | _,_,s,k=>k s
theorem z11c {α:Type} (K W:List UInt32) (hK:K.length=64) (hW:W.length=64) (s:O8) (k:O8→α):∀ (n i:Nat),64 - i=n→i≤64→rF (K.drop i) (W.drop i) (zqm K W s i) k=k (zqm K W s 64)
 | 0,i,h,hi=>by
  have:i=64:=by omega
  subst this
  rw [List.drop_eq_nil_of_le (by omega)]; rfl
 | n+1,i,h,hi=>by
  rw [List.drop_eq_getElem_cons (by omega),List.drop_eq_getElem_cons (by omega:i<W.length),rF,zrb,zrb,zrb]
  rw [← z11c K W hK hW s k n (i+1) (by omega) (by omega)]
  congr 1
  rw [zqm,rnd,List.getD_eq_getElem?_getD,List.getD_eq_getElem?_getD,List.getElem?_eq_getElem (by omega),List.getElem?_eq_getElem (by omega)]
  rfl
def grK {α:Type} (h:O8) (b:List UInt8) (k:O8→α):α :=
 fW (wL 16 b).reverse fun r=>sF 48 r fun W=>rF z4q.toList W h fun s =>
 fr (h.1+s.1) fun a=>fr (h.2.1+s.2.1) fun b=>fr (h.2.2.1+s.2.2.1) fun c=>fr (h.2.2.2.1+s.2.2.2.1) fun d =>
 fr (h.2.2.2.2.1+s.2.2.2.2.1) fun e=>fr (h.2.2.2.2.2.1+s.2.2.2.2.2.1) fun f=>fr (h.2.2.2.2.2.2.1+s.2.2.2.2.2.2.1) fun g=>fr (h.2.2.2.2.2.2.2+s.2.2.2.2.2.2.2) fun z=>k (a,b,c,d,e,f,g,z)
def add8 (h s:O8):O8:=(h.1+s.1,h.2.1+s.2.1,h.2.2.1+s.2.2.1,h.2.2.2.1+s.2.2.2.1,h.2.2.2.2.1+s.2.2.2.2.1,h.2.2.2.2.2.1+s.2.2.2.2.2.1,h.2.2.2.2.2.2.1+s.2.2.2.2.2.2.1,h.2.2.2.2.2.2.2+s.2.2.2.2.2.2.2)
theorem zxe (h v:Vector UInt32 8):∀ j (hj:j<8),(addV h v)[j]=h[j]+v[j]:=by
 obtain ⟨r,h1,h2⟩:=z7k (F:=z1d v) 8 (fun i s=>s.2=(i:Int)∧∀ j (hj:j<8),s.1[j]=if j<i then h[j]+v[j] else h[j]) (fun r=>∀ j (hj:j<8),r[j]=h[j]+v[j]) (fun i s hi hs=>by
  obtain ⟨u,k⟩:=s
  obtain ⟨hs,hu⟩:=hs
  simp only at hs hu
  subst hs
  unfold z1d
  rw [if_pos (by simp; omega)]
  rw [z79 (show i<8 by omega),z79 (show i<8 by omega)]
  simp only [bS,z0p (show i<9223372036854775807 by omega)]
  refine ⟨_,rfl,rfl, fun j hj=>?_⟩
  simp only
  rw [zeo hj,hu j hj,hu i hi]
  simp only [Int.toNat_natCast]
  by_cases e:i=j
  ·
   subst e; simp
  ·
   rw [if_neg e]
   by_cases l:j<i
   ·
    rw [if_pos l,if_pos (by omega)]
   ·
    rw [if_neg l,if_neg (by omega)]) (fun s hs=>by
  obtain ⟨u,k⟩:=s
  obtain ⟨hs,hu⟩:=hs
  simp only at hs hu
  subst hs
  unfold z1d
  rw [if_neg (by simp)]
  exact ⟨_,rfl, fun j hj=>by rw [hu j hj,if_pos hj]⟩) (h,0) 0 (by omega) ⟨rfl, fun j hj=>by simp⟩
 unfold addV
 rw [h1]
 exact h2
theorem z10i (h s:O8):addV (toV h) (toV s)=toV (add8 h s):=by
 apply Vector.ext
 intro j hj
 rw [zxe]
 match j,hj with
 | 0,_=>rfl
 | 1,_=>rfl
 | 2,_=>rfl
 | 3,_=>rfl
 | 4,_=>rfl
 | 5,_=>rfl
 | 6,_=>rfl
 | 7,_=>rfl
theorem zzn (s:O8):ofV (toV s)=s:=rfl
theorem z119 {α:Type} (h:O8) (b:List UInt8) (k:O8→α):∃ s,gr (toV h) b=toV s∧grK h b k=k s:=by
 refine ⟨add8 h (zqm z4q.toList (z5v b 48) h 64),?_,?_⟩
 ·
  unfold gr
  rw [zzn,z10i]
 ·
  unfold grK
  have e:wL 16 b=z5v b 0:=z12d 16 b
  rw [z11t,e,z10r b _ 48 0]
  have:=z11c z4q.toList (z5v b 48) zm1 (by rw [zck]) h (fun s=>k (add8 h s)) 64 0 rfl (by omega)
  rw [← this]
  simp only [zrb]
  rfl
def blkK {α:Type}:Nat→O8→List UInt8→(O8→α)→α
 | 0,h,b,k=>k h
 | n+1,h,b,k=>grK h (b.take 64) fun s=>blkK n s (b.drop 64) k
theorem zs8 {α:Type}:∀ (n:Nat) (h:O8) (b:List UInt8) (k:O8→α),b.length=64 * n→∃ s,blk (toV h) b=toV s∧blkK n h b k=k s
 | 0,h,b,k,hb=>⟨h,znv (by omega),rfl⟩
 | n+1,h,b,k,hb=>by
  obtain ⟨s,s1,s2⟩:=z119 h (b.take 64) (fun s=>blkK n s (b.drop 64) k)
  obtain ⟨t,t1,t2⟩:=zs8 n s (b.drop 64) k (by rw [List.length_drop]; omega)
  refine ⟨t,?_,?_⟩
  ·
   rw [zmm (by omega),s1,t1]
  ·
   rw [blkK,s2,t2]
def H8:O8:=(1779033703,3144134277,1013904242,2773480762,1359893119,2600822924,528734635,1541459225)
def shaK {α:Type} (b:List UInt8) (k:O8→α):α:=fB (b++tl b.length) fun m=>blkK (m.length / 64) H8 m k
theorem z10t (n:Nat):(n+(tl n).length) % 64=0:=by
 unfold tl z7d zrs
 simp
 omega
theorem zyq {α:Type} (b:List UInt8) (k:O8→α):∃ s,sha b=wr (toV s)∧shaK b k=k s:=by
 have hl:=z10t b.length
 obtain ⟨s,s1,s2⟩:=zs8 ((b++tl b.length).length / 64) H8 (b++tl b.length) k (by rw [List.length_append]; omega)
 refine ⟨s,?_,?_⟩
 ·
  unfold sha
  rw [show H0=toV H8 from rfl,s1]
 ·
  unfold shaK
  rw [z110,s2]
def zrx (b:List UInt8) (s:O8):Bool:=shaK b fun t=>t==s
theorem z11r {b:List UInt8} {s:O8} (h:zrx b s=true):sha b=wr (toV s):=by
 unfold zrx at h
 obtain ⟨t,t1,t2⟩:=zyq b (fun t=>t==s)
 rw [t2] at h
 rw [t1,eq_of_beq h]
end
section
open Go
def okc (c:UInt8):Bool:=decide (33≤c.toNat)&&decide (c.toNat≤126)
theorem zz9 (x:Int):zi7 x=some (decide (x<33) || decide (126<x)):=by
 unfold zi7
 cases decide (x<33) <;> rfl
theorem zqd (b:List UInt8):∀ (rest pre:List UInt8),b=pre++rest →
  (rest.all okc=true→iter (z1o b true) pre.length=some (.inr ()))∧(rest.all okc=false→∃ i:Nat,iter (z1o b true) pre.length=some (.inl (i:Int)))
 | [],pre,e=>by
  refine ⟨fun _=>z1j ?_, fun h=>by simp at h⟩
  subst e
  unfold z1o
  simp
 | c::rest,pre,e=>by
  have hlen:pre.length<b.length:=by rw [e]; simp
  have hget:b[pre.length]'hlen=c:=by subst e; simp
  have hF:z1o b true pre.length=if ((decide (((z82 b pre.length).1:Int)<33) || decide (126<((z82 b pre.length).1:Int)))==true) then some (.inl (.inl (pre.length:Int))) else some (.inr (pre.length+(z82 b pre.length).2)):=by
   unfold z1o
   rw [if_pos hlen]
   simp only [bs,zz9]
  cases hc:okc c with
  | false =>
   refine ⟨fun h=>by simp [hc] at h, fun _=>⟨pre.length,z1j ?_⟩⟩
   rw [hF,if_pos]
   by_cases h8:c.toNat<128
   ·
    rw [zlp hlen (by rw [hget]; exact h8),hget]
    simp only [okc,Bool.and_eq_false_iff,decide_eq_false_iff_not] at hc
    simp; omega
   ·
    have:=zun hlen (by rw [hget]; omega)
    simp; omega
  | true =>
   simp only [okc,Bool.and_eq_true,decide_eq_true_eq] at hc
   rw [zlp hlen (by rw [hget]; omega),hget,if_neg (by simp; omega)] at hF
   have ih:=zqd b rest (pre++[c]) (by simp [e])
   simp only [List.length_append,List.length_cons,List.length_nil,Nat.zero_add] at ih
   rw [z1q hF]
   have hc':okc c=true:=by simp [okc,hc]
   simpa [hc'] using ih
theorem zv7 (b:List UInt8) (hb:b.length≤9223372036854775807):∀ (rest pre:List UInt8),b=pre++rest→iter (z5m b) (pre.length:Int)=some (if rest.all okc then .inr () else .inl false)
 | [],pre,e=>by
  refine z1j ?_
  subst e
  unfold z5m
  simp
 | c::rest,pre,e=>by
  have hlen:pre.length<b.length:=by rw [e]; simp
  have hget:b[pre.length]'hlen=c:=by subst e; simp
  have hF:z5m b (pre.length:Int)=if okc c then some (.inr ((pre.length+1:Nat):Int)) else some (.inl (.inl false)):=by
   unfold z5m
   rw [if_pos (by simp <;> omega)]
   simp only [z0j hlen,hget,bs,z0p (show pre.length<9223372036854775807 by omega)]
   simp only [okc,UInt8.lt_iff_toNat_lt,UInt8.reduceToNat]
   by_cases h1:c.toNat<33
   ·
    have:¬ 33≤c.toNat:=by omega
    simp [h1,this]
   ·
    by_cases h2:126<c.toNat
    ·
     have:¬ c.toNat≤126:=by omega
     simp [h1,h2,this]
    ·
     have h3:33≤c.toNat:=by omega
     have h4:c.toNat≤126:=by omega
     simp [h1,h2,h3,h4]
  cases hc:okc c with
  | false=>rw [hc] at hF; rw [z1j hF]; simp [hc]
  | true =>
   rw [hc] at hF
   rw [z1q hF]
   have ih:=zv7 b hb rest (pre++[c]) (by simp [e])
   simp only [List.length_append,List.length_cons,List.length_nil,Nat.zero_add] at ih
   rw [ih]; simp [hc]
def zdd (k:List UInt8):Bool:=decide (1≤k.length)&&(decide (k.length≤20)&&k.all okc)
theorem zzz (k:List UInt8):z7g k=some (zdd k):=by
 unfold z7g zdd
 by_cases h1:1≤k.length
 ·
  by_cases h2:k.length≤20
  ·
   have h:=zv7 k (by omega) k [] rfl
   rw [if_neg (by simp; omega),if_neg (by simp; omega), show (0:Int)=(([]:List UInt8).length:Int) from rfl,h,decide_eq_true h1,decide_eq_true h2]
   cases k.all okc <;> rfl
  ·
   rw [if_neg (by simp; omega),if_pos (by simp; omega),decide_eq_false h2]; simp
 ·
  rw [if_pos (by simp; omega),decide_eq_false h1]; rfl
theorem z11y (k:List UInt8):zms k=some (zdd k):=by
 unfold zms zdd z57 z52
 by_cases h1:1≤k.length
 ·
  by_cases h2:k.length≤20
  ·
   obtain ⟨e1,e2⟩:=zqd k k [] rfl
   simp only [List.length_nil] at e1 e2
   rw [if_pos (by simp; omega),if_pos (by simp; omega),decide_eq_true h1,decide_eq_true h2]
   cases h:k.all okc
   ·
    obtain ⟨i,hi⟩:=e2 h
    rw [hi]
    simp only [zze,bS]
    rw [decide_eq_false (by omega)]; rfl
   ·
    rw [e1 h]; rfl
  ·
   rw [if_pos (by simp; omega),if_neg (by simp; omega),decide_eq_false h2]; simp
 ·
  rw [if_neg (by simp; omega),decide_eq_false h1]; rfl
def v0:z04:=⟨0,0,0,[]⟩
def zja (a:z0k):Bool :=
 if a.Kind=1 then decide (a.Key=[])&&decide (a.Value=v0)
 else if a.Kind=2∨a.Kind=3 then zdd a.Key&&decide (a.Value=v0)
 else if a.Kind=4 then zdd a.Key&&okV a.Value
 else false
theorem z111 (a:z0k) (h:a.Value.Text.length≤9223372036854775807):zcp a=some (if zja a then 0 else 8):=by
 obtain ⟨K,key,v⟩:=a
 unfold zcp zja
 simp only at h ⊢
 rw [z11y,znq v h]
 by_cases h1:K=1
 ·
  subst h1
  by_cases hk:key=[] <;> by_cases hv:v=⟨0,0,0,[]⟩ <;> simp [hk,hv,v0]
 by_cases h2:K=2∨K=3
 ·
  have e:(if K==2 then some true else some (K==3))=some true:=by
   rcases h2 with rfl | rfl <;> rfl
  rw [if_neg (by simpa using h1),e,if_neg h1,if_pos h2]
  simp only [bS]
  rw [if_pos trivial]
  cases zdd key with
  | false=>rfl
  | true =>
   by_cases hv:v=⟨0,0,0,[]⟩
   ·
    subst hv; rfl
   ·
    have hv':¬ v=v0:=hv
    simp only [bS,if_true,decide_eq_false hv,decide_eq_false hv']; rfl
 ·
  have e:(if K==2 then some true else some (K==3))=some false:=by
   have e2:(K==2)=false:=by simp; exact fun h=>h2 (.inl h)
   have e3:(K==3)=false:=by simp; exact fun h=>h2 (.inr h)
   rw [e2,e3]; rfl
  rw [if_neg (by simpa using h1),e,if_neg h1,if_neg h2]
  simp only [bS]
  rw [if_neg (by simp)]
  by_cases h4:K=4
  ·
   subst h4
   rw [if_pos (by decide),if_pos rfl]
   cases zdd key with
   | false=>rfl
   | true=>cases okV v <;> rfl
  ·
   rw [if_neg (by simpa using h4),if_neg h4]; rfl
theorem zv0 (a:z0k) (h:a.Value.Text.length≤9223372036854775807):z6v a=some (if zja a then 0 else 8):=by
 obtain ⟨K,key,v⟩:=a
 unfold z6v zja
 simp only at h ⊢
 rw [zzz,zum v h]
 simp only [bS]
 by_cases h1:K=1
 ·
  subst h1
  by_cases hk:key=[] <;> by_cases hv:v=⟨0,0,0,[]⟩ <;> simp [hk,hv,v0]
 by_cases h2:K=2∨K=3
 ·
  have e:(if K==2 then some true else some (K==3))=some true:=by
   rcases h2 with rfl | rfl <;> rfl
  rw [if_neg (by simpa using h1),e,if_neg h1,if_pos h2]
  simp only [bS]
  rw [if_pos trivial]
  cases zdd key with
  | false=>rfl
  | true =>
   by_cases hv:v=⟨0,0,0,[]⟩
   ·
    subst hv; rfl
   ·
    have hv':¬ v=v0:=hv
    simp only [bS,if_true,decide_eq_false hv,decide_eq_false hv']; rfl
 ·
  have e:(if K==2 then some true else some (K==3))=some false:=by
   have e2:(K==2)=false:=by simp; exact fun h=>h2 (.inl h)
   have e3:(K==3)=false:=by simp; exact fun h=>h2 (.inr h)
   rw [e2,e3]; rfl
  rw [if_neg (by simpa using h1),e,if_neg h1,if_neg h2]
  simp only [bS]
  rw [if_neg (by simp)]
  by_cases h4:K=4
  ·
   subst h4
   rw [if_pos (by decide),if_pos rfl]
   cases zdd key with
   | false=>rfl
   | true=>cases okV v <;> rfl
  ·
   rw [if_neg (by simpa using h4),if_neg h4]; rfl
theorem zgt (l:List V3) (h:l.length≤100):z0t l=some l:=by
 unfold z0t
 rw [z2a (by simp; omega)]; rfl
def zbt (a:z06):Bool:=decide (inG a.Author.toNat)&&(!decide (1000000000000<a.Stamp)&&(zja a.Act&&(z96 a.Sig.E&&z96 a.Sig.S)))
def z40 (a:z06):Int:=if 4<a.Preds.length then 4 else if z74 a.Preds=false then 32 else if zbt a then 0 else 8
theorem zld (x y:UInt32):decide (500000003≤max x y)=!(z96 x&&z96 y):=by
 have e1:(500000003≤max x y)↔(500000003≤x∨500000003≤y):=by
  rw [show max x y=if x≤y then y else x from rfl]
  split
  ·
   rename_i hh
   constructor
   ·
    exact fun h=>.inr h
   ·
    rintro (h | h)
    ·
     exact UInt32.le_trans h hh
    ·
     exact h
  ·
   rename_i hh
   constructor
   ·
    exact fun h=>.inl h
   ·
    rintro (h | h)
    ·
     exact h
    ·
     rw [UInt32.le_iff_toNat_le] at *; omega
 rw [Bool.eq_iff_iff,decide_eq_true_iff,e1]
 unfold z96
 simp only [UInt32.le_iff_toNat_le,Bool.not_eq_true',Bool.and_eq_false_iff,decide_eq_false_iff_not,Nat.not_lt]
 rfl
theorem zol (l:List V3) (h:l.length≤4):(z15 l >>= fun r5=>if !r5 then some true else z0t l >>= fun r8=>z19 r8 >>= fun r10=>some ((r10.length:Int) != (l.length:Int)) >>= fun y12=>some y12)=some (!z74 l):=by
 obtain ⟨b,e1,e2⟩:=ztv l (by omega)
 obtain ⟨c,e3,e4⟩:=zrz l (by omega)
 have e5:=zwe l
 rw [e1]
 simp only [bS]
 cases b with
 | false =>
  have:z74 l=false:=by
   rw [← Bool.not_eq_true,e5]; intro h; have:=e2.2 h.1; simp at this
  rw [this]; rfl
 | true =>
  rw [if_neg (by simp),zgt l (by omega)]
  simp only [bS]
  rw [e3]
  simp only [bS]
  by_cases hc:c.length=l.length
  ·
   rw [e5.2 ⟨e2.1 rfl,e4.1 hc⟩,hc]; simp
  ·
   have:z74 l=false:=by
    rw [← Bool.not_eq_true,e5]; intro h; exact hc (e4.2 h.2)
   rw [this]; simp; omega
theorem zek (a:z06) (h:a.Act.Value.Text.length≤9223372036854775807):zcw a=some (z40 a):=by
 unfold zcw z40
 simp only [bS]
 by_cases h4:4<a.Preds.length
 ·
  rw [if_pos (by simp; omega),if_pos h4]
 ·
  rw [if_neg (by simp; omega),if_neg h4]
  have:=zol a.Preds (by omega)
  simp only [bS] at this
  rw [this]
  simp only [bS]
  cases hi:z74 a.Preds with
  | false=>rfl
  | true =>
   rw [if_neg (by simp),zuy,z111 _ h,zld]
   simp only [bS]
   unfold zbt
   cases decide (inG a.Author.toNat) with
   | false=>rfl
   | true =>
    cases decide (1000000000000<a.Stamp) with
    | true=>rfl
    | false=>cases zja a.Act <;> cases z96 a.Sig.E <;> cases z96 a.Sig.S <;> rfl
theorem zow (a:z06) (h:a.Act.Value.Text.length≤9223372036854775807):z71 a=some (z40 a):=by
 unfold z71 z40
 by_cases h4:4<a.Preds.length
 ·
  rw [if_pos (by simp; omega),if_pos h4]
 ·
  rw [if_neg (by simp; omega),if_neg h4,zna _ (by omega)]
  simp only [bS]
  cases hi:z74 a.Preds with
  | false=>rfl
  | true =>
   rw [if_neg (by simp),zq8,zv0 _ h,zd3,zd3]
   simp only [bS]
   unfold zbt
   cases decide (inG a.Author.toNat) with
   | false=>rfl
   | true =>
    cases decide (1000000000000<a.Stamp) with
    | true=>rfl
    | false=>cases zja a.Act <;> cases z96 a.Sig.E <;> cases z96 a.Sig.S <;> rfl
theorem z6c {a:z06} (h:z40 a=0):a.Preds.length≤4∧z74 a.Preds=true∧zbt a=true:=by
 unfold z40 at h
 by_cases h4:4<a.Preds.length
 ·
  rw [if_pos h4] at h; omega
 ·
  rw [if_neg h4] at h
  cases hi:z74 a.Preds with
  | false=>rw [hi] at h; simp at h
  | true =>
   rw [hi] at h
   cases hr:zbt a with
   | false=>rw [hr] at h; simp at h
   | true=>exact ⟨by omega,rfl,rfl⟩
theorem zkq {k:List UInt8} (h:zdd k=true):k.length≤20:=by
 unfold zdd at h
 simp only [Bool.and_eq_true,decide_eq_true_eq] at h
 exact h.2.1
theorem zaq {a:z0k} (h:zja a=true):(a.Kind=1∧a.Key=[])∨((a.Kind=2∨a.Kind=3)∧a.Key.length≤20)∨(a.Kind=4∧a.Key.length≤20∧okV a.Value=true):=by
 unfold zja at h
 by_cases h1:a.Kind=1
 ·
  rw [if_pos h1] at h; simp only [Bool.and_eq_true,decide_eq_true_eq] at h; exact .inl ⟨h1,h.1⟩
 ·
  rw [if_neg h1] at h
  by_cases h2:a.Kind=2∨a.Kind=3
  ·
   rw [if_pos h2] at h; simp only [Bool.and_eq_true,decide_eq_true_eq] at h; exact .inr (.inl ⟨h2,zkq h.1⟩)
  ·
   rw [if_neg h2] at h
   by_cases h4:a.Kind=4
   ·
    rw [if_pos h4] at h; simp only [Bool.and_eq_true] at h; exact .inr (.inr ⟨h4,zkq h.1,h.2⟩)
   ·
    rw [if_neg h4] at h; simp at h
end
section
open Go
theorem zn9 {α:Type} (l:List (List α)) (i:Nat) (h:i<l.length):(l.take (i+1)).flatten=(l.take i).flatten++l[i]:=by
 rw [List.take_add_one,List.getElem?_eq_getElem h,List.flatten_append]
 simp
theorem zmx (l:List (List UInt8)) (h0:l.length≤20) (h:∀ b∈l,b.length≤10000):z1p l=some l.flatten:=by
 have hb:∀ i,(l.take i).flatten.length≤200000:=fun i=>by
  have:=zi8 (l.take i) (fun b hb'=>h b (List.mem_of_mem_take hb'))
  simp only [List.length_take] at this; omega
 have e1:iter (z0r l) (0,0)=some (l.flatten.length:Int):=by
  have:=z2u (F:=z0r l) (b:=(l.flatten.length:Int)) l.length (fun i=>(((l.take i).flatten.length:Int),(i:Int))) (fun i hi=>?_) ?_
  ·
   simpa using this
  ·
   have h1:=hb (i+1)
   have e:=congrArg List.length (zn9 l i hi)
   rw [List.length_append] at e
   unfold z0r
   rw [if_pos (by simp; omega)]
   simp only []
   rw [z0j hi]
   simp only [bS]
   rw [z0z (x:=((l.take i).flatten.length:Int)+(l[i].length:Int)) (by omega) (by omega),if_neg (by simp; omega),z0p (show i<9223372036854775807 by omega),e]
   simp
  ·
   unfold z0r
   rw [if_neg (by simp)]
   simp
 have e2:z3d (l.flatten.length:Int)=some []:=by
  have h1:=hb l.length
  rw [List.take_length] at h1
  unfold z3d
  rw [if_neg (by simp)]
  simp only [bS]
  generalize l.flatten.length=n at h1 ⊢
  rw [show (0:Int) - (([]:List UInt8).length:Int)=0 from rfl,z0z (x:=0) (by omega) (by omega), show (n:Int) - 0=(n:Int) by omega,z0z (by omega) (by omega)]
  by_cases h2:0<n
  ·
   rw [if_pos (by simpa using h2),zf5 (by omega) (by omega)]
   simp only [bS]
   rw [show (0:Int)=((0:Nat):Int) from rfl, show ((([]:List UInt8).length:Nat):Int)=((0:Nat):Int) from rfl,zdt (by omega) (by simp)]
   simp
  ·
   rw [if_neg (by simpa using h2)]
 have e3:iter (z0s l) ([],0)=some l.flatten:=by
  have:=z2u (F:=z0s l) (b:=l.flatten) l.length (fun i=>((l.take i).flatten,(i:Int))) (fun i hi=>?_) ?_
  ·
   simpa using this
  ·
   have h1:=hb (i+1)
   have e:=zn9 l i hi
   rw [e,List.length_append] at h1
   unfold z0s
   rw [if_pos (by simp; omega)]
   simp only []
   rw [z0j hi]
   simp only [bS]
   rw [z2a (by omega),z0p (show i<9223372036854775807 by omega),e]
   simp only [bS]
  ·
   unfold z0s
   rw [if_neg (by simp)]
   simp
 unfold z1p
 rw [e1]
 simp only [bS]
 rw [e2]
 simp only [bS]
 rw [e3]
 simp only [bS]
def zqs (a:z06):List UInt8:=[111]++(z1k a.Author.toNat++((z1k a.Preds.length++zk7 a.Preds)++(z1k a.Stamp.toNat++[a.Act.Kind])))
def keyB (a:z0k):List UInt8:=z1k a.Key.length++a.Key
def msg (a:z06):List UInt8 :=
 if a.Act.Kind=1 then zqs a else if a.Act.Kind=4 then (zqs a++keyB a.Act)++zyx a.Act.Value else zqs a++keyB a.Act
def ze7 (a:z06):List UInt8:=msg a++(z1k a.Sig.E.toNat++z1k a.Sig.S.toNat)
theorem zl9 {v:z04} (h:okV v=true) (hI:inI v.Num):(zyx v).length≤100:=by
 unfold zyx
 rcases zli h with k | k | k
 ·
  have:=z17 (zig v.Num) (zur hI)
  rw [if_pos k]; simp; omega
 ·
  rw [k,if_neg (by decide),if_pos rfl]; simp [be8]
 ·
  have h3:=(okV3 h k).2.2.1
  have:=z17 v.Text.length (by omega)
  rw [k,if_neg (by decide),if_neg (by decide)]; simp; omega
theorem zm7 {a:z06} (h:z40 a=0):(zqs a).length≤160:=by
 obtain ⟨h1,h2,h3⟩:=z6c h
 have l1:=z17 a.Author.toNat (by have:=UInt32.toNat_lt a.Author; omega)
 have l2:=z17 a.Preds.length (by omega)
 have l3:=z17 a.Stamp.toNat (UInt64.toNat_lt _)
 have l4:=zgm a.Preds
 unfold zqs
 simp only [List.length_append,List.length_cons,List.length_nil]; omega
theorem zlw {a:z0k} (h:zja a=true):(keyB a).length≤30:=by
 have hk:a.Key.length≤20:=by
  rcases zaq h with ⟨_,h⟩ | ⟨_,h⟩ | ⟨_,h,_⟩
  ·
   simp [h]
  ·
   exact h
  ·
   exact h
 have:=z17 a.Key.length (by omega)
 unfold keyB; simp only [List.length_append]; omega
theorem zh5 {a:z06} (h:zbt a=true):zja a.Act=true:=by
 unfold zbt at h
 simp only [Bool.and_eq_true] at h
 exact h.2.2.1
theorem zo5 {a:z06} (h:zbt a=true):inG a.Author.toNat:=by
 unfold zbt at h
 simp only [Bool.and_eq_true,decide_eq_true_eq] at h
 exact h.1
theorem zhk {a:z06} (h:z40 a=0) (hI:inI a.Act.Value.Num):(msg a).length≤300:=by
 have h1:=zm7 h
 have ha:=zh5 (z6c h).2.2
 have h2:=zlw ha
 unfold msg
 split
 ·
  omega
 ·
  split
  ·
   rename_i h4
   have:okV a.Act.Value=true:=by
    rcases zaq ha with ⟨k,_⟩ | ⟨k,_⟩ | ⟨_,_,k⟩
    ·
     rw [h4] at k; simp at k
    ·
     rw [h4] at k; simp at k
    ·
     exact k
   have h3:=zl9 this hI
   simp only [List.length_append]; omega
  ·
   simp only [List.length_append]; omega
theorem ztq {a:z06} (h:z40 a=0) (hI:inI a.Act.Value.Num):(ze7 a).length≤400:=by
 have h1:=zhk h hI
 have l1:=z17 a.Sig.E.toNat (by have:=UInt32.toNat_lt a.Sig.E; omega)
 have l2:=z17 a.Sig.S.toNat (by have:=UInt32.toNat_lt a.Sig.S; omega)
 unfold ze7
 simp only [List.length_append]; omega
def bare (a:z06):z06:={ a with Sig:=(⟨0,0⟩:z09) }
theorem zt2 {a:z06} (h:z40 a=0):z40 (bare a)=0:=by
 obtain ⟨h1,h2,h3⟩:=z6c h
 unfold zbt at h3
 simp only [Bool.and_eq_true] at h3
 obtain ⟨g1,g2,g3,g4,g5⟩:=h3
 unfold z40 bare
 rw [if_neg (by simp; omega),h2,if_neg (by simp),if_pos]
 unfold zbt
 rw [g1,g2,g3]; rfl
theorem zh9 (a:z06) (h:z40 a=0) (hI:inI a.Act.Value.Num) (ht:a.Act.Value.Text.length≤9223372036854775807):z9x a=some (msg a,0):=by
 obtain ⟨h1,h2,h3⟩:=z6c h
 have ha:=zh5 h3
 have l1:=z17 a.Author.toNat (by have:=UInt32.toNat_lt a.Author; omega)
 have l2:=z17 a.Preds.length (by omega)
 have l3:=z17 a.Stamp.toNat (UInt64.toNat_lt _)
 have l4:=zgm a.Preds
 have hl:=zm7 h
 have e1:zcw { a with Sig:=(⟨0,0⟩:z09) }=some 0:=by
  have:=zek (bare a) ht
  rw [zt2 h] at this
  exact this
 unfold z9x
 rw [e1]
 simp only [bS]
 rw [if_neg (by simp),z10a _ (by omega) h2]
 simp only [bS]
 rw [z6u,z6u]
 simp only [bS]
 rw [zmx _ (by simp) (by
  intro b hb
  simp only [List.mem_cons,List.not_mem_nil,or_false] at hb
  rcases hb with rfl | rfl | rfl | rfl | rfl
  ·
   simp
  ·
   simp; omega
  ·
   simp only [List.length_append]; omega
  ·
   omega
  ·
   simp)]
 simp only [bS]
 have e2:[[111],z1k a.Author.toUInt64.toNat,z1k a.Preds.length++zk7 a.Preds,z1k a.Stamp.toNat,[a.Act.Kind]].flatten=zqs a:=by
  unfold zqs
  simp only [List.flatten_cons,List.flatten_nil,List.append_nil,UInt32.toNat_toUInt64]
 rw [e2]
 unfold msg
 by_cases k1:a.Act.Kind=1
 ·
  rw [if_pos (by simpa using k1),if_pos k1]
 ·
  rw [if_neg (by simpa using k1),if_neg k1]
  have hk:a.Act.Key.length≤20:=by
   rcases zaq ha with ⟨_,h⟩ | ⟨_,h⟩ | ⟨_,h,_⟩
   ·
    simp [h]
   ·
    exact h
   ·
    exact h
  have l5:=zlw ha
  have e3:zao a.Act.Key=some (keyB a.Act,0):=zmp _ (by omega)
  rw [z2t (by omega)]
  simp only [bS]
  rw [e3]
  simp only [bS]
  rw [z2a (by omega)]
  simp only [bS]
  by_cases k4:a.Act.Kind=4
  ·
   have hv:okV a.Act.Value=true:=by
    rcases zaq ha with ⟨k,_⟩ | ⟨k,_⟩ | ⟨_,_,k⟩
    ·
     rw [k4] at k; simp at k
    ·
     rw [k4] at k; simp at k
    ·
     exact k
   have l6:=zl9 hv hI
   rw [if_pos (by simpa using k4),if_pos k4,z123 _ hI ht,hv]
   simp only [bS,if_true]
   rw [z2a (by simp only [List.length_append]; omega)]
   simp only [bS]
  ·
   rw [if_neg (by simpa using k4),if_neg k4]
theorem zud (a:z06) (h:z40 a=0) (hI:inI a.Act.Value.Num):z7i a=some (msg a):=by
 obtain ⟨h1,h2,h3⟩:=z6c h
 have ha:=zh5 h3
 have l1:=z17 a.Author.toNat (by have:=UInt32.toNat_lt a.Author; omega)
 have l2:=z17 a.Preds.length (by omega)
 have l3:=z17 a.Stamp.toNat (UInt64.toNat_lt _)
 have l4:=zgm a.Preds
 have hl:=zm7 h
 unfold z7i
 rw [z6p]
 simp only [bS]
 rw [z2a (by simp; omega),zwj _ (by omega)]
 simp only [bS]
 rw [z2a (by simp; omega),z6p]
 simp only [bS]
 rw [z2a (by simp; omega)]
 simp only [bS]
 rw [z2a (by simp; omega)]
 simp only [bS]
 have e2:[111]++z1k a.Author.toUInt64.toNat++(z1k a.Preds.length++zk7 a.Preds)++z1k a.Stamp.toNat++[a.Act.Kind]=zqs a:=by
  unfold zqs
  simp only [List.append_assoc,UInt32.toNat_toUInt64]
 rw [e2]
 unfold msg
 by_cases k1:a.Act.Kind=1
 ·
  rw [if_neg (by simp [k1]),if_pos k1]
  simp only [bS]
  rw [k1]; rfl
 ·
  rw [if_pos (by simpa using k1),if_neg k1]
  have hk:a.Act.Key.length≤20:=by
   rcases zaq ha with ⟨_,h⟩ | ⟨_,h⟩ | ⟨_,h,_⟩
   ·
    simp [h]
   ·
    exact h
   ·
    exact h
  have l5:=zlw ha
  have e3:z6f a.Act.Key=some (keyB a.Act):=zko _ (by omega)
  rw [z2t (by omega)]
  simp only [bS]
  rw [e3]
  simp only [bS]
  rw [z2a (by omega)]
  simp only [bS]
  by_cases k4:a.Act.Kind=4
  ·
   have hv:okV a.Act.Value=true:=by
    rcases zaq ha with ⟨k,_⟩ | ⟨k,_⟩ | ⟨_,_,k⟩
    ·
     rw [k4] at k; simp at k
    ·
     rw [k4] at k; simp at k
    ·
     exact k
   have l6:=zl9 hv hI
   rw [if_pos (by simpa using k4),if_pos k4,zux _ hI hv]
   simp only [bS]
   rw [z2a (by simp only [List.length_append]; omega)]
   simp only [bS]
  ·
   rw [if_neg (by simpa using k4),if_neg k4]
theorem ztb (a:z06) (h:z40 a=0) (hI:inI a.Act.Value.Num) (ht:a.Act.Value.Text.length≤9223372036854775807):zca a=some (ze7 a,0):=by
 have hm:=zhk h hI
 have l1:=z17 a.Sig.E.toNat (by have:=UInt32.toNat_lt a.Sig.E; omega)
 have l2:=z17 a.Sig.S.toNat (by have:=UInt32.toNat_lt a.Sig.S; omega)
 unfold zca
 rw [zek _ ht,h]
 simp only [bS]
 rw [if_neg (by simp),zh9 _ h hI ht,z6u,z6u]
 simp only [bS,UInt32.toNat_toUInt64]
 rw [zmx _ (by simp) (by
  intro b hb
  simp only [List.mem_cons,List.not_mem_nil,or_false] at hb
  rcases hb with rfl | rfl | rfl <;> omega)]
 simp only [bS,List.flatten_cons,List.flatten_nil,List.append_nil]
 rfl
theorem zoh (a:z06) (h:z40 a=0) (hI:inI a.Act.Value.Num):z8n a=some (ze7 a):=by
 have hm:=zhk h hI
 have l1:=z17 a.Sig.E.toNat (by have:=UInt32.toNat_lt a.Sig.E; omega)
 have l2:=z17 a.Sig.S.toNat (by have:=UInt32.toNat_lt a.Sig.S; omega)
 unfold z8n ze7
 rw [zud _ h hI,z6p,z6p]
 simp only [bS,UInt32.toNat_toUInt64]
 rw [z2a (by omega)]
 simp only [bS]
 rw [z2a (by simp only [List.length_append]; omega)]
 simp only [bS,List.append_assoc]
def z32:V3:=Vector.replicate 32 0
theorem zop (a:z06) (hI:inI a.Act.Value.Num) (ht:a.Act.Value.Text.length≤9223372036854775807):zqy a=some (if z40 a=0 then (sha (ze7 a),0) else (z32,z40 a)):=by
 unfold zqy
 by_cases h:z40 a=0
 ·
  have:=ztq h hI
  rw [ztb a h hI ht]
  simp only [bS]
  rw [if_neg (by simp),z11z _ (by omega),if_pos h]
  simp only [bS]
 ·
  have e:zca a=some ([],z40 a):=by
   unfold zca
   rw [zek _ ht]
   simp only [bS]
   rw [if_pos (by simpa using h)]
  rw [e]
  simp only [bS]
  rw [if_pos (by simpa using h),if_neg h]; rfl
theorem zx9 (a:z06) (h:z40 a=0) (hI:inI a.Act.Value.Num):zan a=some (sha (ze7 a)):=by
 have:=ztq h hI
 unfold zan
 rw [zoh a h hI]
 simp only [bS]
 rw [z11j _ (by omega)]
 simp only [bS]
def ze0 (a:z06):Int:=if z40 a=0 then (if zj2 a.Author (msg a) a.Sig then 0 else 22) else z40 a
theorem zjj (a:z06) (hI:inI a.Act.Value.Num) (ht:a.Act.Value.Text.length≤9223372036854775807):zdr a=some (ze0 a):=by
 unfold zdr ze0
 rw [zek _ ht]
 simp only [bS]
 by_cases h:z40 a=0
 ·
  have:=zhk h hI
  rw [if_neg (by simp [h]),if_pos h,zh9 a h hI ht]
  simp only [bS]
  rw [zsf _ _ _ (zo5 (z6c h).2.2) (by omega)]
  simp only [bS]
 ·
  rw [if_pos (by simpa using h),if_neg h]
theorem znr (a:z06) (hI:inI a.Act.Value.Num) (ht:a.Act.Value.Text.length≤9223372036854775807):z7y a=some (ze0 a):=by
 unfold z7y ze0 z9r
 rw [zow _ ht]
 simp only [bS]
 by_cases h:z40 a=0
 ·
  have:=zhk h hI
  rw [if_neg (by simp [h]),if_pos h,zud a h hI]
  simp only [bS]
  rw [zxj _ _ _ (zo5 (z6c h).2.2) (by omega)]
  simp only [bS]
  cases zj2 a.Author (msg a) a.Sig <;> rfl
 ·
  rw [if_pos (by simpa using h),if_neg h]
end
section
open Go
theorem zxg (m:List UInt8) (r:UInt32) (h:m.length≤9991):zaz 110 m [r]=some (zkz (sha (([110]++four r)++m)) 8,0):=by
 have l1:iter (z3c [r]) ([110],0)=some ([110]++four r):=by
  have s1:z3c [r] ([110],0)=some (.inr ([110]++four r,1)):=by
   unfold z3c
   rw [if_pos (by simp)]
   simp only []
   rw [show idx [r] 0=some r from rfl,z0z (x:=(0:Int)+1) (by omega) (by omega)]
   simp only [bS]
   rw [z2a (by simp)]
   rfl
  have s3:z3c [r] ([110]++four r,1)=some (.inl ([110]++four r)):=by
   unfold z3c
   rw [if_neg (by simp)]
  rw [z1q s1,z1j s3]
 unfold zaz
 rw [if_neg (by simp; omega),l1]
 simp only [bS]
 rw [zjl _ (by simp) (by
  intro b hb
  simp only [List.mem_cons,List.not_mem_nil,or_false] at hb
  rcases hb with rfl | rfl
  ·
   simp [four]
  ·
   omega)]
 simp only [bS]
 rw [zpl, show [[110]++four r,m].flatten=([110]++four r)++m by simp only [List.flatten_cons,List.flatten_nil,List.append_nil]]
 rfl
def zfg (k:UInt32) (m:List UInt8):UInt32:=(zkz (sha (([110]++four k)++m)) 8 % 500000002).toUInt32+1
theorem zmd {k:UInt32} (h1:1≤k.toNat) (h2:k.toNat<gq):zcf k=some 0:=by
 have h2:k.toNat<500000003:=h2
 have hs:(k - 1).toNat=k.toNat - 1:=by
  rw [UInt32.toNat_sub_of_le _ _ (by rw [UInt32.le_iff_toNat_le]; exact h1)]; rfl
 unfold zcf
 rw [if_neg (by
  rw [decide_eq_true_iff,UInt32.le_iff_toNat_le,hs]
  have:(500000002:UInt32).toNat=500000002:=rfl
  omega)]
theorem zsg (n:UInt64):z9t n=some (u32 (4 ^ n.toNat % gp)):=by
 unfold z9t
 rw [zpg]; rfl
theorem zwf {k:UInt32} (h1:1≤k.toNat) (h2:k.toNat<gq) (m:List UInt8) (h:m.length≤9991):zej k m=some (zfg k m,0):=by
 unfold zej
 rw [zmd h1 h2]
 simp only [bS]
 rw [if_neg (by simp),zxg m k h]
 simp only [bS]
 rw [if_neg (by simp)]
 rfl
theorem zmv {k:UInt32} (h1:1≤k.toNat) (h2:k.toNat<gq):zau k=some (u32 (4 ^ k.toNat % gp),0):=by
 unfold zau
 rw [zmd h1 h2]
 simp only [bS]
 rw [if_neg (by simp),zsg]
 simp only [bS]
 simp
theorem q64 (x y:UInt64) (h:x.toNat * y.toNat<18446744073709551616):(x * y % 500000003).toNat=x.toNat * y.toNat % gq:=by
 rw [UInt64.toNat_mod,UInt64.toNat_mul,Nat.mod_eq_of_lt h]
 rfl
theorem mulq (x y:UInt32):z9k 500000003 [x,y]=some (u32 (x.toNat * y.toNat % gq)):=by
 have hx:=UInt32.toNat_lt x
 have hy:=UInt32.toNat_lt y
 have e1:(1 * x.toUInt64 % 500000003:UInt64).toNat=x.toNat % gq:=by
  rw [q64 _ _ (by simp; omega)]; simp
 have hlt:x.toNat % gq<500000003:=Nat.mod_lt _ (by decide)
 have hpr:(x.toNat % gq) * y.toNat≤500000003 * 4294967296:=Nat.mul_le_mul (by omega) (by omega)
 have e2:(1 * x.toUInt64 % 500000003 * y.toUInt64 % 500000003:UInt64).toNat=x.toNat * y.toNat % gq:=by
  rw [q64 _ _ (by rw [e1]; simp; omega),e1]
  simp only [UInt32.toNat_toUInt64]
  rw [Nat.mod_mul_mod]
 have s1:z3e 500000003 [x,y] (1,0)=some (.inr (1 * x.toUInt64 % 500000003,1)):=by
  unfold z3e
  rw [if_pos (by simp)]
  simp only []
  rw [show idx [x,y] 0=some x from rfl,z2t (by decide),z0z (x:=(0:Int)+1) (by omega) (by omega)]
  simp only [bS]
  rfl
 have s2:z3e 500000003 [x,y] (1 * x.toUInt64 % 500000003,1)=some (.inr (1 * x.toUInt64 % 500000003 * y.toUInt64 % 500000003,2)):=by
  unfold z3e
  rw [if_pos (by simp)]
  simp only []
  rw [show idx [x,y] 1=some y from rfl,z2t (by decide),z0z (x:=(1:Int)+1) (by omega) (by omega)]
  simp only [bS]
  rfl
 have s3:z3e 500000003 [x,y] (1 * x.toUInt64 % 500000003 * y.toUInt64 % 500000003,2)=some (.inl (1 * x.toUInt64 % 500000003 * y.toUInt64 % 500000003)):=by
  unfold z3e
  rw [if_neg (by simp)]
 unfold z9k
 rw [z1q s1,z1q s2,z1j s3]
 simp only [bS]
 rw [to32 _ (by rw [e2]; exact Nat.lt_trans (Nat.mod_lt _ (by decide)) (by decide)),e2]
theorem zvz {x y:UInt32} (hx:x.toNat<gq) (hy:y.toNat<gq):zco x y=some (u32 (x.toNat * y.toNat % gq),0):=by
 unfold zco
 rw [zld]
 unfold z96
 rw [decide_eq_true hx,decide_eq_true hy,if_neg (by simp),mulq]
 rfl
theorem z10f {x y:UInt32} (hx:x.toNat<gq) (hy:y.toNat<gq):zef x y=some (u32 ((x.toNat+y.toNat) % gq),0):=by
 unfold zef
 rw [zld]
 unfold z96
 rw [decide_eq_true hx,decide_eq_true hy,if_neg (by simp)]
 have hx:x.toNat<500000003:=hx
 have hy:y.toNat<500000003:=hy
 have:(x+y) % 500000003=u32 ((x.toNat+y.toNat) % gq):=by
  apply UInt32.toNat_inj.1
  rw [z1t (Nat.lt_trans (Nat.mod_lt _ (by decide)) (by decide)),UInt32.toNat_mod,UInt32.toNat_add,Nat.mod_eq_of_lt (a:=x.toNat+y.toNat) (by omega)]
  rfl
 rw [this]
 rfl
theorem zuj (r y:UInt32) (m:List UInt8):(zs7 r y m).toNat<gq:=by
 unfold zs7
 rw [UInt64.toNat_toUInt32,UInt64.toNat_mod]
 exact Nat.lt_of_le_of_lt (Nat.mod_le _ _) (Nat.mod_lt _ (by decide))
def zs5 (k:UInt32) (m:List UInt8):z09 :=
 ⟨zs7 (u32 (4 ^ (zfg k m).toNat % gp)) (u32 (4 ^ k.toNat % gp)) m,u32 (((zfg k m).toNat+(zs7 (u32 (4 ^ (zfg k m).toNat % gp)) (u32 (4 ^ k.toNat % gp)) m).toNat * k.toNat % gq) % gq)⟩
theorem zww {k:UInt32} (h1:1≤k.toNat) (h2:k.toNat<gq) (m:List UInt8) (h:m.length≤9991) (hK:(zfg k m).toNat<gq):zgs k m=some (zs5 k m,0):=by
 unfold zgs
 rw [zwf h1 h2 m h]
 simp only [bS]
 rw [if_neg (by simp),zmv h1 h2]
 simp only [bS]
 rw [zsg]
 simp only [bS]
 rw [zhy _ _ _ h]
 simp only [bS]
 rw [zvz (zuj _ _ _) h2]
 simp only [bS]
 have hg:∀ n,n % gq<gp:=fun n=>Nat.lt_trans (Nat.mod_lt _ (by decide)) (by decide)
 rw [z10f hK (by rw [z1t (hg _)]; exact Nat.mod_lt _ (by decide)),z1t (hg _)]
 simp only [bS]
 unfold zs5
 simp
theorem zx6 {n:Nat}:4 ^ (n % gq) % gp=4 ^ n % gp:=by
 have:=zjf zpv (n / gq) (n % gq)
 rw [Nat.div_add_mod] at this
 exact this.symm
theorem z124 {k:UInt32} (h2:k.toNat<gq) (m:List UInt8) (hK:(zfg k m).toNat<gq):zj2 (u32 (4 ^ k.toNat % gp)) m (zs5 k m)=true:=by
 have hg:∀ n,n % gq<gp:=fun n=>Nat.lt_trans (Nat.mod_lt _ (by decide)) (by decide)
 have hp:∀ n,n % gp<gp:=fun n=>Nat.mod_lt _ (by decide)
 have hE:=zuj (u32 (4 ^ (zfg k m).toNat % gp)) (u32 (4 ^ k.toNat % gp)) m
 have hr:sigR (u32 (4 ^ k.toNat % gp)) (zs5 k m)=u32 (4 ^ (zfg k m).toNat % gp):=by
  unfold sigR zs5
  generalize (zs7 (u32 (4 ^ (zfg k m).toNat % gp)) (u32 (4 ^ k.toNat % gp)) m).toNat=E at *
  generalize (zfg k m).toNat=K at *
  generalize k.toNat=k at *
  rw [z1t (hg _),z1t (hp _),Nat.add_mod_mod,zx6,zfx,← Nat.mul_mod,← Nat.pow_add]
  have:K+E * k+k * (gq - E)=gq * k+K:=by
   have e:k * (gq - E)+k * E=k * gq:=by rw [← Nat.mul_add,Nat.sub_add_cancel (Nat.le_of_lt hE)]
   rw [Nat.mul_comm E k,Nat.mul_comm gq k,← e]; omega
  rw [this,zjf zpv]
 unfold zj2
 rw [hr]
 have e1:z96 (zs5 k m).E=true:=decide_eq_true hE
 have e2:z96 (zs5 k m).S=true:=decide_eq_true (by
  show (u32 _).toNat<gq
  rw [z1t (hg _)]; exact Nat.mod_lt _ (by decide))
 rw [e1,e2]
 simp only [Bool.true_and]
 show (_==_)=true
 simp [zs5]
def au (o:z06) (y:UInt32):z06:=⟨y,o.Preds,o.Stamp,o.Act,⟨0,0⟩⟩
def zty (k:UInt32) (o:z06):z06:=⟨u32 (4 ^ k.toNat % gp),o.Preds,o.Stamp,o.Act,zs5 k (msg (au o (u32 (4 ^ k.toNat % gp))))⟩
theorem zwx {k:UInt32} (h1:1≤k.toNat) (h2:k.toNat<gq) (o:z06) (hs:o.Sig=⟨0,0⟩) (hc:z40 (au o (u32 (4 ^ k.toNat % gp)))=0) (hI:inI o.Act.Value.Num) (ht:o.Act.Value.Text.length≤9223372036854775807)
  (hK:(zfg k (msg (au o (u32 (4 ^ k.toNat % gp))))).toNat<gq):zcl k o=some (zty k o,0):=by
 have hp:=(z6c hc).1
 have hl:=zhk hc hI
 have hm:z9x (⟨u32 (4 ^ k.toNat % gp),o.Preds,o.Stamp,o.Act,⟨0,0⟩⟩:z06)=some (msg (au o (u32 (4 ^ k.toNat % gp))),0):=zh9 (au o (u32 (4 ^ k.toNat % gp))) hc hI ht
 unfold zcl
 rw [zmv h1 h2]
 simp only [bS]
 rw [if_neg (by simp),zgt o.Preds (Nat.le_trans hp (by omega)),hs]
 simp only [bS]
 rw [hm]
 simp only [bS]
 rw [if_neg (by simp)]
 rw [zww h1 h2 (msg (au o (u32 (4 ^ k.toNat % gp)))) (by omega) hK]
 rfl
theorem zt9 (a b:z06) (h1:a.Author=b.Author) (h2:a.Preds=b.Preds) (h3:a.Stamp=b.Stamp) (h4:a.Act=b.Act):msg a=msg b:=by
 unfold msg zqs
 rw [h1,h2,h3,h4]
theorem zw9 {k:UInt32} (h2:k.toNat<gq) (o:z06) (hc:z40 (au o (u32 (4 ^ k.toNat % gp)))=0) (hK:(zfg k (msg (au o (u32 (4 ^ k.toNat % gp))))).toNat<gq):ze0 (zty k o)=0:=by
 have hs:=z124 h2 _ hK
 have hx:z96 (zty k o).Sig.E=true∧z96 (zty k o).Sig.S=true:=by
  have:=hs
  unfold zj2 at this
  simp only [Bool.and_eq_true] at this
  exact ⟨this.1,this.2.1⟩
 have hc2:z40 (zty k o)=0:=by
  obtain ⟨a1,a2,a3⟩:=z6c hc
  unfold zbt at a3
  simp only [Bool.and_eq_true] at a3
  unfold z40
  rw [if_neg (by exact Nat.not_lt.2 a1),if_neg (by rw [show (zty k o).Preds=(au o (u32 (4 ^ k.toNat % gp))).Preds from rfl,a2]; simp),if_pos]
  unfold zbt
  simp only [Bool.and_eq_true]
  exact ⟨a3.1,a3.2.1,a3.2.2.1,hx.1,hx.2⟩
 have hm:msg (zty k o)=msg (au o (u32 (4 ^ k.toNat % gp))):=zt9 _ _ rfl rfl rfl rfl
 have ha:(zty k o).Author=u32 (4 ^ k.toNat % gp):=rfl
 have hg:(zty k o).Sig=zs5 k (msg (au o (u32 (4 ^ k.toNat % gp)))):=rfl
 unfold ze0
 rw [if_pos hc2,hm,ha,hg,if_pos hs]
end
section
open Go
@[irreducible] def idv (s:O8):V3:=wr (toV s)
theorem zox {b:List UInt8} {s:O8} (h:zrx b s=true):sha b=idv s:=by rw [idv]; exact z11r h
def wds (s:O8):List UInt32:=[s.1,s.2.1,s.2.2.1,s.2.2.2.1,s.2.2.2.2.1,s.2.2.2.2.2.1,s.2.2.2.2.2.2.1,s.2.2.2.2.2.2.2]
@[irreducible] def wrL (s:O8):List UInt8:=(List.range 32).map fun i=>(z3o ((wds s).getD (i / 4) 0) (24 - 8 * (i % 4))).toUInt8
theorem zr6 {α:Type} (n:Nat) (g:Nat→α):(Vector.ofFn (fun i:Fin n=>g i.val)).toList=(List.range n).map g:=by
 apply List.ext_getElem
 ·
  simp
 ·
  intro i h1 h2
  simp
theorem zzj (h:Vector UInt32 8):(wr h).toList=(List.range 32).map fun i=>(z3o (h.toList.getD (i / 4) 0) (24 - 8 * (i % 4))).toUInt8:=by
 rw [← zr6 32 (fun i=>(z3o (h.toList.getD (i / 4) 0) (24 - 8 * (i % 4))).toUInt8)]
 have:∀ i (hi:i / 4<8),h[i / 4]=h.toList.getD (i / 4) 0:=fun i hi=>by
  rw [List.getD_eq_getElem?_getD,List.getElem?_eq_getElem (by simpa using hi)]
  simp
 unfold wr
 exact congrArg (fun f=>(Vector.ofFn f).toList) (funext fun i=>by rw [this i.val (by omega)])
theorem zm9 (s:O8):(idv s).toList=wrL s:=by
 rw [idv,zzj,wrL]
 rfl
def dig:Nat→Nat→List UInt8
 | 0,_=>[]
 | f+1,n=>if n=0 then [] else UInt8.ofNat n::dig f (n / 256)
theorem zy5:∀ (f n:Nat),n<256 ^ f→z2r n=dig f n
 | 0,n,h=>by
  have:n=0:=by simpa using h
  subst this; exact zb5
 | f+1,n,h=>by
  rw [dig]
  by_cases hn:n=0
  ·
   rw [if_pos hn,hn,zb5]
  ·
   rw [if_neg hn,zed n hn,zy5 f (n / 256) (by rw [Nat.pow_succ] at h; omega)]
def numK (n:Nat):List UInt8:=if n≤247 then [UInt8.ofNat n] else UInt8.ofNat (247+(dig 8 n).length)::(dig 8 n).reverse
theorem zix (n:Nat) (h:n<256 ^ 8):z1k n=numK n:=by
 unfold z1k numK
 rw [zy5 8 n h]
def numl (l:List UInt8):Nat→Nat
 | 0=>0
 | i+1=>256 * numl l i+(l.getD i 0).toNat
theorem zqn (d:V3):∀ i,i≤8→(zkz d i).toNat=numl d.toList i
 | 0,_=>rfl
 | i+1,h=>by
  have ih:=zqn d i (by omega)
  have hl:=zp0 d i (by omega)
  have hy:=UInt8.toNat_lt (d.toList.getD i 0)
  have hp:256 ^ i≤256 ^ 7:=Nat.pow_le_pow_right (by omega) (by omega)
  have e7:(256:Nat) ^ 7=72057594037927936:=rfl
  rw [zkz,UInt64.toNat_add,UInt64.toNat_mul]
  have e1:((d.toList.getD i 0).toUInt64).toNat=(d.toList.getD i 0).toNat:=by simp
  have e2:(256:UInt64).toNat=256:=rfl
  rw [e1,e2,Nat.mod_eq_of_lt (a:=256 * (zkz d i).toNat) (by omega),Nat.mod_eq_of_lt (by omega),ih]
  rfl
def num8 (s:O8):Nat:=numl (wrL s) 8
theorem zuf (s:O8):(zkz (idv s) 8).toNat=num8 s:=by rw [zqn _ 8 (Nat.le_refl _),zm9]; rfl
def zok:List O8→Bool
 | a::b::l=>decide (nk (wrL a)<nk (wrL b))&&zok (b::l)
 | _=>true
theorem zya (s:O8):kd (idv s)=nk (wrL s):=by unfold kd; rw [zm9]
theorem zls:∀ l:List O8,z74 (l.map idv)=zok l
 | []=>by rw [List.map_nil,z74,zok] <;> simp
 | [a]=>by rw [List.map_cons,List.map_nil,z74,zok] <;> simp
 | a::b::l=>by
  have ih:=zls (b::l)
  simp only [List.map_cons] at ih ⊢
  rw [z74,zok,ih,zre,zya,zya]
  generalize nk (wrL a)=x
  generalize nk (wrL b)=y
  by_cases h:x<y
  ·
   rw [if_pos h,decide_eq_true h]; rfl
  ·
   rw [if_neg h,decide_eq_false h]
   split <;> rfl
def zeu (y:UInt32) (P:List O8) (sg:z09):z06:=⟨y,P.map idv,0,⟨1,[],⟨0,0,0,[]⟩⟩,sg⟩
def zsk (y:Nat) (P:List O8):List UInt8:=[111]++(numK y++((numK P.length++P.flatMap wrL)++([0]++[1])))
theorem zql:∀ P:List O8,zk7 (P.map idv)=P.flatMap wrL
 | []=>rfl
 | a::l=>by
  have:=zql l
  unfold zk7 at this ⊢
  rw [List.map_cons,List.flatMap_cons,List.flatMap_cons,this,zm9]
theorem zub (y:UInt32) (P:List O8) (sg:z09) (hP:P.length≤4):msg (zeu y P sg)=zsk y.toNat P:=by
 have hy:=UInt32.toNat_lt y
 unfold msg
 rw [if_pos (show (zeu y P sg).Act.Kind=1 from rfl)]
 unfold zqs zsk
 show [111]++(z1k y.toNat++((z1k (P.map idv).length++zk7 (P.map idv))++(z1k (0:UInt64).toNat++[1])))=_
 rw [List.length_map,zql,zix _ (by omega),zix P.length (by omega),zix (0:UInt64).toNat (by decide)]
 rfl
def opIs (k y K r E S:Nat) (P:List O8) (h1 h2 h3:O8):Bool :=
 decide (1≤k)&&(decide (k<gq)&&(decide (P.length≤4)&&(zok P&&(pmod 30 4 k gp==y &&
 (zrx (([110]++four (UInt32.ofNat k))++zsk y P) h1&&(num8 h1 % 500000002+1==K&&(pmod 30 4 K gp==r &&
 (zrx ((([99]++four (UInt32.ofNat r))++four (UInt32.ofNat y))++zsk y P) h2&&(num8 h2 % gq==E&&((K+E * k % gq) % gq==S &&
 zrx (zsk y P++(numK E++numK S)) h3))))))))))
theorem of32 {n:Nat} (h:n<gq):(UInt32.ofNat n).toNat=n:=z1t (Nat.lt_trans h (by decide))
theorem zhz {k y K r E S:Nat} {P:List O8} {h1 h2 h3:O8} (h:opIs k y K r E S P h1 h2 h3=true) :
  zcl (UInt32.ofNat k) ⟨0,P.map idv,0,⟨1,[],⟨0,0,0,[]⟩⟩,⟨0,0⟩⟩=some (zeu (u32 y) P ⟨u32 E,u32 S⟩,0)∧ze0 (zeu (u32 y) P ⟨u32 E,u32 S⟩)=0∧sha (ze7 (zeu (u32 y) P ⟨u32 E,u32 S⟩))=idv h3:=by
 unfold opIs at h
 simp only [Bool.and_eq_true,decide_eq_true_eq,beq_iff_eq] at h
 obtain ⟨k1,k2,p4,pi,hy,s1,hK,hr,s2,hE,hS,s3⟩:=h
 have g1:∀ n,n % gp<gp:=fun n=>Nat.mod_lt _ (by decide)
 have g2:∀ n,n % gq<gq:=fun n=>Nat.mod_lt _ (by decide)
 have q30:gq<2 ^ 30:=by decide
 rw [zlb 30 4 k gp (by omega)] at hy
 have hKq:K<gq:=by
  have:=Nat.mod_lt (num8 h1) (show 0<500000002 by decide)
  show K<500000003
  omega
 rw [zlb 30 4 K gp (by omega)] at hr
 have yl:y<gp:=by rw [← hy]; exact g1 _
 have rl:r<gp:=by rw [← hr]; exact g1 _
 have El:E<gq:=by rw [← hE]; exact g2 _
 have Sl:S<gq:=by rw [← hS]; exact g2 _
 have ek:=of32 k2
 let o:z06:=⟨0,P.map idv,0,⟨1,[],⟨0,0,0,[]⟩⟩,⟨0,0⟩⟩
 have ey:u32 (4 ^ (UInt32.ofNat k).toNat % gp)=u32 y:=by rw [ek,hy]
 have eau:au o (u32 (4 ^ (UInt32.ofNat k).toNat % gp))=zeu (u32 y) P ⟨0,0⟩:=by rw [ey]; rfl
 have em:msg (au o (u32 (4 ^ (UInt32.ofNat k).toNat % gp)))=zsk y P:=by rw [eau,zub _ _ _ p4,z1t yl]
 have eK:zfg (UInt32.ofNat k) (zsk y P)=u32 K:=by
  apply UInt32.toNat_inj.1
  unfold zfg
  rw [zox s1,z1t (Nat.lt_trans hKq (by decide)),UInt32.toNat_add,UInt64.toNat_toUInt32,UInt64.toNat_mod]
  rw [zuf h1, show (500000002:UInt64).toNat=500000002 from rfl, show (1:UInt32).toNat=1 from rfl]
  have:=Nat.mod_lt (num8 h1) (show 0<500000002 by decide)
  rw [Nat.mod_eq_of_lt (a:=num8 h1 % 500000002) (by omega),Nat.mod_eq_of_lt (by omega),hK]
 have eKn:(u32 K).toNat=K:=z1t (Nat.lt_trans hKq (by decide))
 have eE:zs7 (u32 r) (u32 y) (zsk y P)=u32 E:=by
  apply UInt32.toNat_inj.1
  unfold zs7
  have:sha ((([99]++four (u32 r))++four (u32 y))++zsk y P)=idv h2:=zox s2
  rw [this,z1t (Nat.lt_trans El (by decide)),UInt64.toNat_toUInt32,UInt64.toNat_mod]
  rw [zuf h2, show (500000003:UInt64).toNat=gq from rfl,hE,Nat.mod_eq_of_lt (by have:E<500000003:=El; omega)]
 have eS:zs5 (UInt32.ofNat k) (zsk y P)=⟨u32 E,u32 S⟩:=by
  unfold zs5
  rw [eK,eKn,hr,ey,eE,z1t (Nat.lt_trans El (by decide)),ek,hS]
 have eO:zty (UInt32.ofNat k) o=zeu (u32 y) P ⟨u32 E,u32 S⟩:=by
  unfold zty
  rw [em,eS,ey]
  rfl
 have hc:z40 (zeu (u32 y) P ⟨0,0⟩)=0:=by
  unfold z40
  rw [if_neg (by show ¬ 4<(P.map idv).length; rw [List.length_map]; omega),if_neg (by show ¬ z74 (P.map idv)=false; rw [zls,pi]; simp),if_pos]
  unfold zbt
  have hg:inG (u32 y).toNat:=by rw [z1t yl,← hy]; exact zm6 zpv k
  rw [decide_eq_true (show inG (zeu (u32 y) P ⟨0,0⟩).Author.toNat from hg)]
  rfl
 have hK2:(zfg (UInt32.ofNat k) (msg (au o (u32 (4 ^ (UInt32.ofNat k).toNat % gp))))).toNat<gq:=by rw [em,eK,eKn]; exact hKq
 have a1:=zwx (k:=UInt32.ofNat k) (by rw [ek]; exact k1) (by rw [ek]; exact k2) o rfl (by rw [eau]; exact hc) (by show inI 0; unfold inI; omega) (by show ([]:List UInt8).length≤_; simp) hK2
 have a2:=zw9 (k:=UInt32.ofNat k) (by rw [ek]; exact k2) o (by rw [eau]; exact hc) hK2
 rw [eO] at a1 a2
 refine ⟨a1,a2,?_⟩
 unfold ze7
 rw [zub _ _ _ p4,z1t yl]
 show sha (zsk y P++(z1k (u32 E).toNat++z1k (u32 S).toNat))=_
 have e8:(256:Nat) ^ 8=18446744073709551616:=rfl
 have El':E<500000003:=El
 have Sl':S<500000003:=Sl
 rw [z1t (Nat.lt_trans El (by decide)),z1t (Nat.lt_trans Sl (by decide)),zix E (by omega),zix S (by omega)]
 exact zox s3
end
section
open Go
set_option maxRecDepth 100000
def ia:O8:=(562727161,1996990126,1822175405,2728318716,3031496430,3845315747,4039040572,112675031)
def ib:O8:=(2820051918,2914109336,2504984855,2236713299,3823072237,2636050581,2970569689,3272707105)
def ic:O8:=(2139312907,1581311361,3184250291,249515957,3264837860,445735871,3026870944,2620563104)
def id4:O8:=(3227305856,2438287588,3755631004,3119328521,4211627686,2291953483,4148150492,2187284714)
theorem runA:opIs 1 4 202061843 895319347 375582489 77644329 [] (753358683,1502034250,3888361607,299573410,2753891800,2768924044,2347262215,1658860013) (3006704963,2051888895,772968531,3276617776,2404070813,1693202580,3451563284,2663520210) ia=true:=by decide +kernel
theorem runB:opIs 2 16 322990573 375399935 93193399 9377368 [ia] (2287559485,2893360568,3348023124,4012871888,3759785670,3682245655,2152709493,3847837226) (1511039511,1823552616,551820170,2669112482,1914617107,2855894629,1663135385,915733498) ib=true:=by decide +kernel
theorem runC:opIs 3 64 471586807 131112128 269497253 280078560 [ia] (410835203,1099160736,3352932606,2524462673,1291325928,810447005,67564031,3502102434) (1314053099,2219937270,3305374313,1316834933,389836743,1090118475,594919934,2875108911) ic=true:=by decide +kernel
theorem runD:opIs 4 256 211944507 793776513 297146976 400532405 [ic,ib] (652042978,817510040,1364596308,1858171768,3868034406,113554441,36016212,3920790613) (4180542648,3835670259,158365196,3444367898,4036755514,2252578027,2179316269,1933616419) id4=true:=by decide +kernel
end
section
open Go
theorem zbv {α:Type} [DecidableEq α]:∀ (p q:List α),p.Nodup→(∀ x∈p,x∈q)→p.length≤q.length
 | [],_,_,_=>by simp
 | a::p,q,h,hs=>by
  have ha:=hs a (by simp)
  have hn:=List.nodup_cons.1 h
  have:=zbv p (q.erase a) hn.2 (fun x hx=>by
   have hne:x≠a:=fun e=>hn.1 (e ▸ hx)
   exact (List.mem_erase_of_ne hne).2 (hs x (by simp [hx])))
  rw [List.length_erase_of_mem ha] at this
  have hp:=List.length_pos_of_mem ha
  simp only [List.length_cons]; omega
theorem zva {α:Type} [DecidableEq α] {p q:List α} (h1:p.Nodup) (h2:q.Nodup) (h:∀ x,x∈p↔x∈q):p.length=q.length :=
 Nat.le_antisymm (zbv p q h1 fun x hx=>(h x).1 hx) (zbv q p h2 fun x hx=>(h x).2 hx)
abbrev ID:=V3
theorem ze5 {l:List ID} (h:z74 l=true) {i j:Nat} (hi:i<l.length) (hj:j<l.length) (hij:i<j):kd l[i]<kd l[j] :=
 List.pairwise_iff_getElem.1 ((z9v l).1 h) i j hi hj hij
theorem zqe {l:List ID} (h:z74 l=true) {i j:Nat} (hi:i<l.length) (hj:j<l.length) (e:l[i]=l[j]):i=j:=by
 rcases Nat.lt_trichotomy i j with c | c | c
 ·
  have:=ze5 h hi hj c; rw [e] at this; omega
 ·
  exact c
 ·
  have:=ze5 h hj hi c; rw [e] at this; omega
theorem zhb {l:List ID} (h:z74 l=true):l.Nodup:=by
 have:=(z9v l).1 h
 exact this.imp fun {a b} hab e=>by rw [e] at hab; omega
theorem za1 {l:List ID} (h:z74 l=true) {k:Nat} (hk:k<l.length):l.idxOf l[k]=k:=by
 have h1:l.idxOf l[k]<l.length:=List.idxOf_lt_length_of_mem (List.getElem_mem hk)
 exact zqe h h1 hk (by simp)
theorem z101 (s e:Nat) (h:s+e<9223372036854775807):w64 ((z6k (UInt64.ofInt (w64 ((s:Int)+(e:Int)))) 1).toNat:Int)=(((s+e) / 2:Nat):Int):=by
 rw [z0z (x:=(s:Int)+(e:Int)) (by omega) (by omega), show ((s:Int)+(e:Int))=((s+e:Nat):Int) by omega,zb8,zj5 (by omega)]
 rw [show min 1 64=1 from rfl,Nat.pow_one,z0z (by omega) (by omega)]
theorem zsr (l:List ID) (hl:l.length≤4611686018427387903) (hi:z74 l=true) (x:ID):∃ b:Int,iter (z0e l x) (0,(l.length:Int))=some b∧∃ k:Nat,b=(k:Int)∧k≤l.length∧(∀ i (h:i<l.length),i<k→kd l[i]<kd x)∧(∀ i (h:i<l.length),k≤i→kd x≤kd l[i]):=by
 refine zei (F:=z0e l x)
  (fun st=>∃ s e:Nat,st=((s:Int),(e:Int))∧s≤e∧e≤l.length∧(∀ i (h:i<l.length),i<s→kd l[i]<kd x)∧(∀ i (h:i<l.length),e≤i→kd x≤kd l[i]))
  (fun st=>st.2.toNat - st.1.toNat) _ ?_ _ ⟨0,l.length,rfl, by omega, by omega, fun i _ h=>by omega, fun i h h2=>by omega⟩
 rintro st ⟨s,e,rfl,h1,h2,h3,h4⟩
 by_cases hse:s<e
 ·
  right
  have hm:(s+e) / 2<l.length:=by omega
  have hF:z0e l x ((s:Int),(e:Int))=if decide (kd l[(s+e) / 2]<kd x) then some (.inr ((((s+e) / 2+1:Nat):Int),(e:Int))) else some (.inr ((s:Int),(((s+e) / 2:Nat):Int))):=by
   unfold z0e
   simp only []
   rw [if_pos (by simpa using hse),z101 _ _ (by omega)]
   simp only [bS]
   rw [z0j hm]
   simp only [bS]
   rw [zps]
   simp only [bS]
   rw [zsu,z0p (show (s+e) / 2<9223372036854775807 by omega)]
  by_cases hc:kd l[(s+e) / 2]<kd x
  ·
   rw [decide_eq_true hc,if_pos rfl] at hF
   refine ⟨_,hF,⟨(s+e) / 2+1,e,rfl, by omega,h2, fun i h hi2=>?_,h4⟩, by simp; omega⟩
   by_cases he:i=(s+e) / 2
   ·
    subst he; exact hc
   ·
    have:=ze5 hi h hm (by omega); omega
  ·
   rw [decide_eq_false hc,if_neg (by simp)] at hF
   refine ⟨_,hF,⟨s,(s+e) / 2,rfl, by omega, by omega,h3, fun i h hi2=>?_⟩, by simp; omega⟩
   by_cases he:i=(s+e) / 2
   ·
    subst he; omega
   ·
    have:=ze5 hi hm h (by omega); omega
 ·
  left
  refine ⟨(s:Int),?_,s,rfl, by omega,h3, fun i h hi2=>h4 i h (by omega)⟩
  unfold z0e
  simp only []
  rw [if_neg (by simpa using hse)]
theorem zto (l:List ID) (hl:l.length≤4611686018427387903) (hi:z74 l=true) (x:ID):∃ k:Nat,z0c l x=some ((k:Int),decide (x∈l))∧(x∈l→k=l.idxOf x∧k<l.length)∧k≤l.length:=by
 obtain ⟨b,h1,k,rfl,h2,h3,h4⟩:=zsr l hl hi x
 unfold z0c
 simp only [bS]
 rw [h1]
 simp only [bS]
 have hmem:x∈l→∃ h:k<l.length,l[k]=x:=fun hx=>by
  obtain ⟨i,hi1,rfl⟩:=List.getElem_of_mem hx
  have a1:¬ i<k:=fun c=>by have:=h3 i hi1 c; omega
  by_cases a2:k=i
  ·
   subst a2; exact ⟨hi1,rfl⟩
  ·
   have hk:k<l.length:=by omega
   have:=h4 k hk (Nat.le_refl _)
   have:=ze5 hi hk hi1 (by omega)
   omega
 by_cases hk:k<l.length
 ·
  rw [if_pos (by simpa using hk),z0j hk]
  simp only [bS]
  rw [zps]
  simp only [bS]
  rw [z114]
  refine ⟨k,?_, fun hx=>?_, by omega⟩
  ·
   have:decide (l[k]=x)=decide (x∈l):=by
    rw [decide_eq_decide]
    exact ⟨fun e=>e ▸ List.getElem_mem hk, fun hx=>(hmem hx).2⟩
   rw [this]
  ·
   obtain ⟨h,e⟩:=hmem hx
   subst e
   exact ⟨(za1 hi h).symm,h⟩
 ·
  rw [if_neg (by simpa using hk)]
  refine ⟨k,?_, fun hx=>absurd (hmem hx).1 hk, by omega⟩
  rw [decide_eq_false fun hx=>hk (hmem hx).1]
theorem zjs (g:z00) (hl:g.IDs.length≤4611686018427387903) (hi:z74 g.IDs=true) (x:ID):∃ k:Nat,zd0 g x=some ((k:Int),decide (x∈g.IDs))∧(x∈g.IDs→k=g.IDs.idxOf x∧k<g.IDs.length)∧k≤g.IDs.length:=by
 obtain ⟨k,h1,h2,h3⟩:=zto g.IDs hl hi x
 refine ⟨k,?_,h2,h3⟩
 unfold zd0
 rw [h1]
 simp only [bS]
theorem zsi (l:List ID) (x:ID) (hl:l.length≤9223372036854775806):∀ (rest pre:List ID),l=pre++rest→∃ r:Sum Int Unit,iter (z6z l x) (pre.length:Int)=some r∧((r=.inr ()∧x∉rest)∨∃ i:Nat,r=.inl (i:Int)∧∃ h:i<l.length,l[i]=x)
 | [],pre,e=>by
  refine ⟨_,z1j ?_,.inl ⟨rfl, by simp⟩⟩
  subst e
  unfold z6z
  rw [if_neg (by simp)]
 | c::rest,pre,e=>by
  have hlen:pre.length<l.length:=by rw [e]; simp
  have hget:l[pre.length]'hlen=c:=by subst e; simp
  have hF:z6z l x (pre.length:Int)=if decide (c=x) then some (.inl (.inl (pre.length:Int))) else some (.inr ((pre.length+1:Nat):Int)):=by
   unfold z6z
   rw [if_pos (by simpa using hlen),z0j hlen,hget,z0p (by omega)]
   simp only [bS]
  by_cases hc:c=x
  ·
   rw [decide_eq_true hc,if_pos rfl] at hF
   exact ⟨_,z1j hF,.inr ⟨pre.length,rfl,hlen, by rw [hget,hc]⟩⟩
  ·
   rw [decide_eq_false hc,if_neg (by simp)] at hF
   obtain ⟨r,h1,h2⟩:=zsi l x hl rest (pre++[c]) (by simp [e])
   simp only [List.length_append,List.length_cons,List.length_nil,Nat.zero_add] at h1
   refine ⟨r, by rw [z1q hF]; exact h1,?_⟩
   rcases h2 with ⟨h2,h3⟩ | h2
   ·
    exact .inl ⟨h2, by simp; exact ⟨fun e=>hc e.symm,h3⟩⟩
   ·
    exact .inr h2
theorem z130 (l:List ID) (x:ID) (hl:l.length≤9223372036854775806):∃ k:Int,z6r l x=some k∧((k = -1∧x∉l)∨∃ i:Nat,k=(i:Int)∧∃ h:i<l.length,l[i]=x):=by
 obtain ⟨r,h1,h2⟩:=zsi l x hl l [] rfl
 unfold z6r
 rw [show (0:Int)=(([]:List ID).length:Int) from rfl,h1]
 rcases h2 with ⟨rfl,h3⟩ | ⟨i,rfl,h3⟩
 ·
  exact ⟨-1,rfl,.inl ⟨rfl,h3⟩⟩
 ·
  exact ⟨(i:Int),rfl,.inr ⟨i,rfl,h3⟩⟩
theorem zyj (l:List ID) (x:ID) (hl:l.length≤9223372036854775806):∃ k:Int,z6r l x=some k∧decide (k<0)=!decide (x∈l):=by
 obtain ⟨k,h1,h2⟩:=z130 l x hl
 refine ⟨k,h1,?_⟩
 rcases h2 with ⟨rfl,h2⟩ | ⟨i,rfl,h,rfl⟩
 ·
  rw [decide_eq_false h2]; rfl
 ·
  rw [decide_eq_true (List.getElem_mem h),decide_eq_false (by omega)]; rfl
theorem zpn (l:List ID) (p:List ID) (hl:l.length≤9223372036854775806) (hp:p.length≤9223372036854775806):∀ (rest pre:List ID),p=pre++rest→iter (z6e l p) (pre.length:Int)=some (if rest.all (fun x=>decide (x∈l)) then .inr () else .inl false)
 | [],pre,e=>by
  refine z1j ?_
  subst e
  unfold z6e
  simp
 | c::rest,pre,e=>by
  have hlen:pre.length<p.length:=by rw [e]; simp
  have hget:p[pre.length]'hlen=c:=by subst e; simp
  obtain ⟨k,k1,k2⟩:=zyj l c hl
  have hF:z6e l p (pre.length:Int)=if decide (c∈l) then some (.inr ((pre.length+1:Nat):Int)) else some (.inl (.inl false)):=by
   unfold z6e
   rw [if_pos (by simpa using hlen),z0j hlen,hget,z0p (by omega)]
   simp only [bS]
   rw [k1]
   simp only [bS]
   rw [k2]
   cases decide (c∈l) <;> rfl
  cases hc:decide (c∈l) with
  | false=>rw [hc] at hF; rw [z1j hF,List.all_cons,hc]; rfl
  | true =>
   rw [hc] at hF
   rw [z1q hF]
   have ih:=zpn l p hl hp rest (pre++[c]) (by simp [e])
   simp only [List.length_append,List.length_cons,List.length_nil,Nat.zero_add] at ih
   rw [ih,List.all_cons,hc,Bool.true_and]
theorem zqi (l p:List ID) (hl:l.length≤9223372036854775806) (hp:p.length≤9223372036854775806):z2i l p=some (p.all fun x=>decide (x∈l)):=by
 have h:=zpn l p hl hp p [] rfl
 unfold z2i
 rw [show (0:Int)=(([]:List ID).length:Int) from rfl,h]
 cases p.all fun x=>decide (x∈l) <;> rfl
theorem zxl (g:z00) (hl:g.IDs.length≤9223372036854775807):z6l (ρ:=Int) (iter (z7f g) 1)=fun k=>if z74 g.IDs then k () else some 32:=by
 have key:∀ (n i:Nat),g.IDs.length - i=n→1≤i→i≤g.IDs.length→iter (z7f g) (i:Int)=some (if z74 (g.IDs.drop (i - 1)) then .inr () else .inl 32):=by
  intro n
  induction n with
  | zero =>
   intro i hn h1 hi
   have h:=zj0 g.IDs hl 0 i hn h1 hi
   have e:g.IDs.drop (i - 1)=[g.IDs[i - 1]'(by omega)]:=by
    rw [List.drop_eq_getElem_cons (by omega),List.drop_eq_nil_of_le (by omega)]
   rw [e]
   refine z1j ?_
   unfold z7f
   rw [if_neg (by simp; omega)]
   simp [z74]
  | succ n ih =>
   intro i hn h1 hi
   have hlt:i<g.IDs.length:=by omega
   have e:g.IDs.drop (i - 1)=g.IDs[i - 1]::g.IDs[i]::g.IDs.drop (i+1):=by
    rw [List.drop_eq_getElem_cons (by omega), show i - 1+1=i by omega,List.drop_eq_getElem_cons hlt]
   have e':g.IDs.drop (i+1 - 1)=g.IDs[i]::g.IDs.drop (i+1):=by rw [Nat.add_sub_cancel,List.drop_eq_getElem_cons hlt]
   have hF:z7f g (i:Int)=if decide (0≤Lib.compareBytes (g.IDs[i - 1]).toList (g.IDs[i]).toList) then some (.inl (.inl 32)) else some (.inr ((i+1:Nat):Int)):=by
    unfold z7f
    rw [if_pos (by simp; omega),z0z (by omega) (by omega), show ((i:Int) - 1)=((i - 1:Nat):Int) by omega]
    simp only [z0j hlt,z0j (show i - 1<g.IDs.length by omega),bs,zoz,z0p (show i<9223372036854775807 by omega)]
   rw [e,z74]
   cases hc:decide (0≤Lib.compareBytes (g.IDs[i - 1]).toList (g.IDs[i]).toList) with
   | true=>rw [hc] at hF; rw [z1j hF]; rfl
   | false =>
    rw [hc] at hF
    rw [z1q hF,ih (i+1) (by omega) (by omega) (by omega),e']; simp
 funext k
 by_cases h0:g.IDs.length=0
 ·
  have hnil:g.IDs=[]:=List.length_eq_zero_iff.1 h0
  rw [z1j (b:=.inr ())]
  ·
   rw [hnil]; rfl
  ·
   unfold z7f
   rw [if_neg (by simp; omega)]
 ·
  rw [show (1:Int)=((1:Nat):Int) from rfl,key (g.IDs.length - 1) 1 rfl (by omega) (by omega),Nat.sub_self,List.drop_zero]
  cases z74 g.IDs <;> rfl
end
end Go.Proofs.YtfncjjgmldogiaaGreatDoor
