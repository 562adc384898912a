import Derived.Test.YtefkialcgmohkaaGreatDoorZc
set_option linter.unusedSimpArgs false
set_option linter.unusedVariables false
namespace Go.Proofs.YtefkialcgmohkaaGreatDoor
section
open Go
theorem z144 {n k:Nat} (hn:n<9223372036854775808) (hk:k<9223372036854775808):andI (n:Int) (k:Int)=((n &&& k:Nat):Int):=by
 show IntKind.i64.wrap (BitVec.toNat (BitVec.ofInt 64 (n:Int) &&& BitVec.ofInt 64 (k:Int)):Int)=_
 rw [BitVec.ofInt_natCast,BitVec.ofInt_natCast,BitVec.toNat_and,BitVec.toNat_ofNat,BitVec.toNat_ofNat,Nat.mod_eq_of_lt (by omega),Nat.mod_eq_of_lt (by omega)]
 have:=Nat.and_le_left (n:=n) (m:=k)
 exact zie (by omega) (by omega)
def okb (c:UInt8):Bool:=decide (32≤c.toNat)&&decide (c.toNat≤126)
theorem zrq {b:List UInt8} {q:Nat} (h:q<b.length) (ha:(b[q]).toNat<128):zbj b q=((b[q]).toNat,1):=by
 unfold zbj
 exact decode_ascii ⟨b.toArray⟩ q (by show q<b.toArray.size; simpa using h) ha
theorem z12f {b:List UInt8} {q:Nat} (h:q<b.length) (ha:128≤(b[q]).toNat):128≤(zbj b q).1:=by
 unfold zbj
 have e:((ByteArray.mk b.toArray).get! (q+0)).toNat=(b[q]).toNat:=by
  show ((ByteArray.mk b.toArray).get! q).toNat=_
  simp [ByteArray.get!,h]
 simp only [Utf8.decode,e]
 rw [if_neg (by omega)]
 repeat' split
 all_goals (first | (simp only [Utf8.runeError]; omega) | (rename_i h1; simp at h1; omega) | omega)
theorem z131 (x:Int):zfq x=some (decide (x<32) || decide (126<x)):=by
 unfold zfq
 cases decide (x<32) <;> rfl
theorem zwp (b:List UInt8):∀ (rest pre:List UInt8),b=pre++rest →
  (rest.all okb=true→iter (z1v b true) pre.length=some (.inr ()))∧(rest.all okb=false→∃ i:Nat,iter (z1v b true) pre.length=some (.inl (i:Int)))
 | [],pre,e=>by
  refine ⟨fun _=>z1p ?_, fun h=>by simp at h⟩
  subst e
  unfold z1v
  simp
 | c::rest,pre,e=>by
  have hlen:pre.length<b.length:=by rw [e]; simp
  have hget:b[pre.length]'hlen=c:=by subst e; simp
  have hF:z1v b true pre.length=if ((decide (((zbj b pre.length).1:Int)<32) || decide (126<((zbj b pre.length).1:Int)))==true) then some (.inl (.inl (pre.length:Int))) else some (.inr (pre.length+(zbj b pre.length).2)):=by
   unfold z1v
   rw [if_pos hlen]
   simp only [bs,z131]
  cases hc:okb c with
  | false =>
   refine ⟨fun h=>by simp [hc] at h, fun _=>⟨pre.length,z1p ?_⟩⟩
   rw [hF,if_pos]
   by_cases h8:c.toNat<128
   ·
    rw [zrq hlen (by rw [hget]; exact h8),hget]
    simp only [okb,Bool.and_eq_false_iff,decide_eq_false_iff_not] at hc
    simp; omega
   ·
    have:=z12f hlen (by rw [hget]; omega)
    simp; omega
  | true =>
   simp only [okb,Bool.and_eq_true,decide_eq_true_eq] at hc
   rw [zrq hlen (by rw [hget]; omega),hget,if_neg (by simp; omega)] at hF
   have ih:=zwp b rest (pre++[c]) (by simp [e])
   simp only [List.length_append,List.length_cons,List.length_nil,Nat.zero_add] at ih
   rw [z21 hF]
   have hc':okb c=true:=by simp [okb,hc]
   simpa [hc'] using ih
theorem znf (b:List UInt8) (hb:b.length≤9223372036854775807):∀ (rest pre:List UInt8),b=pre++rest→iter (z4q b) (pre.length:Int)=some (if rest.all okb then .inr () else .inl false)
 | [],pre,e=>by
  refine z1p ?_
  subst e
  unfold z4q
  simp
 | c::rest,pre,e=>by
  have hlen:pre.length<b.length:=by rw [e]; simp
  have hget:b[pre.length]'hlen=c:=by subst e; simp
  have hF:z4q b (pre.length:Int)=if okb c then some (.inr ((pre.length+1:Nat):Int)) else some (.inl (.inl false)):=by
   unfold z4q
   rw [if_pos (by simp <;> omega)]
   simp only [z0d hlen,hget,bs,z0i (show pre.length<9223372036854775807 by omega)]
   simp only [okb,UInt8.lt_iff_toNat_lt,UInt8.reduceToNat]
   by_cases h1:c.toNat<32
   ·
    have:¬ 32≤c.toNat:=by omega
    simp [h1,this]
   ·
    by_cases h2:126<c.toNat
    ·
     have:¬ c.toNat≤126:=by omega
     simp [h1,h2,this]
    ·
     have h3:32≤c.toNat:=by omega
     have h4:c.toNat≤126:=by omega
     simp [h1,h2,h3,h4]
  cases hc:okb c with
  | false=>rw [hc] at hF; rw [z1p hF]; simp [hc]
  | true =>
   rw [hc] at hF
   rw [z21 hF]
   have ih:=znf b hb rest (pre++[c]) (by simp [e])
   simp only [List.length_append,List.length_cons,List.length_nil,Nat.zero_add] at ih
   rw [ih]; simp [hc]
theorem ztp (b:List UInt8) (hb:b.length≤9223372036854775807):z8m b=some (b.all okb):=by
 have h:=znf b hb b [] rfl
 unfold z8m
 rw [show (0:Int)=(([]:List UInt8).length:Int) from rfl,h]
 cases b.all okb <;> rfl
theorem z14t (b:List UInt8) (hb:b.length≤9223372036854775807):zix b=some (if decide (30<(b.length:Int)) then (⟨0,0,0,[]⟩,4) else if b.all okb then (⟨3,0,0,b⟩,0) else (⟨0,0,0,[]⟩,8)):=by
 unfold zix z5i z5j
 cases decide (30<(b.length:Int))
 ·
  simp only [Bool.false_eq_true,if_false]
  obtain ⟨h1,h2⟩:=zwp b b [] rfl
  simp only [List.length_nil] at h1 h2
  cases h:b.all okb
  ·
   obtain ⟨i,hi⟩:=h2 h
   rw [hi]
   simp only [zzo,bs]
   rw [if_pos (by simp)]; rfl
  ·
   rw [h1 h]; rfl
 ·
  rfl
theorem z143 (a:UInt64):zh8 a=some (((a.toNat / 4503599627370496 % 2048:Nat):Int),a % 4503599627370496):=by
 unfold zh8
 simp only [bs]
 have h0:=UInt64.toNat_lt a
 rw [zfe]
 have e1:(2:Nat) ^ (min 52 64)=4503599627370496:=by decide
 rw [e1,z1a (by omega) (by omega), show (2047:Int)=((2047:Nat):Int) from rfl,z144 (by omega) (by omega)]
 congr 2
 ·
  congr 1
  exact Nat.and_two_pow_sub_one_eq_mod _ 11
 ·
  apply UInt64.toNat_inj.1
  rw [UInt64.toNat_and,UInt64.toNat_mod]
  exact Nat.and_two_pow_sub_one_eq_mod _ 52
theorem z18q (a:UInt64):z9l a=some ((a.toNat / 4503599627370496 % 2048:Nat):Int):=by
 unfold z9l
 have h0:=UInt64.toNat_lt a
 simp only [bs,UInt64.toNat_div,UInt64.toNat_mod,UInt64.reduceToNat]
 rw [z1a (by omega) (by omega)]
 congr 2
 omega
def zve (a:UInt64):Nat:=a.toNat / 4503599627370496 % 2048
def mant (a:UInt64):Nat:=a.toNat % 4503599627370496
theorem z162 (a:UInt64):zve a<2048:=Nat.mod_lt _ (by omega)
def clsF (a:UInt64):UInt8:=if zve a=2047 then (if mant a=0 then 4 else 5) else if zve a=0 then (if mant a=0 then 1 else 2) else 3
theorem z15q (a:UInt64):(a % 4503599627370496==0)=decide (mant a=0):=by
 rw [Bool.eq_iff_iff]
 simp only [beq_iff_eq,decide_eq_true_eq,← UInt64.toNat_inj,UInt64.toNat_mod]
 rfl
theorem z11x (a:UInt64):zh4 a=some (clsF a):=by
 unfold zh4 clsF
 rw [z143]
 simp only [bs]
 have hm:=z15q a
 have hne:(a % 4503599627370496 != 0)=!decide (mant a=0):=by rw [← hm]; rfl
 have he:((a.toNat / 4503599627370496 % 2048:Nat):Int)=(zve a:Int):=rfl
 rw [hne,he]
 by_cases h1:zve a=2047
 ·
  rw [h1]
  by_cases h2:mant a=0
  ·
   rw [decide_eq_true h2,if_pos h2]; rfl
  ·
   rw [decide_eq_false h2,if_neg h2]; rfl
 ·
  have e1:((zve a:Int)==2047)=false:=by simp; omega
  rw [if_neg h1,e1]
  simp only [Bool.false_eq_true,if_false,bs]
  by_cases h0:zve a=0
  ·
   rw [h0]
   by_cases h2:mant a=0
   ·
    rw [decide_eq_true h2,if_pos h2]; rfl
   ·
    rw [decide_eq_false h2,if_neg h2]; rfl
  ·
   have e0:((zve a:Int) != 0)=true:=by simp; omega
   rw [e0,if_neg h0]; rfl
theorem z12p (a:UInt64):zc4 a=some (clsF a):=by
 unfold zc4 zce clsF
 rw [z18q]
 simp only [bs]
 rw [z15q a]
 have hx:=z162 a
 show z5g (if ((zve a:Int)==0)=true then if decide (mant a=0)=true then some (.inl 1) else some (.inr ()) else some (.inr ())) (fun s5=>if ((zve a:Int)==0)=true then some 2 else if decide ((zve a:Int)<2047)=true then some 3 else if decide (mant a=0)=true then some 4 else some 5)=_
 by_cases h1:zve a=2047
 ·
  rw [h1]
  by_cases h2:mant a=0 <;> simp [h2,zue,zzo]
 ·
  by_cases h0:zve a=0
  ·
   rw [h0]
   by_cases h2:mant a=0 <;> simp [h2,zue,zzo]
  ·
   have e0:((zve a:Int)==0)=false:=by simp; omega
   have e2:decide ((zve a:Int)<2047)=true:=by simp; omega
   rw [e0,e2,if_neg h1,if_neg h0]; rfl
def zlw (a:UInt64):UInt64:=if clsF a=5 then 9221120237041090560 else a
theorem z10e (a:UInt64):zhn a=some (zlw a):=by
 unfold zhn zlw
 rw [z11x]
 simp only [bs]
 by_cases h:clsF a=5 <;> simp [h]
theorem z110 (a:UInt64):zc9 a=some (zlw a):=by
 unfold zc9 zlw
 rw [z12p]
 simp only [bs]
 by_cases h:clsF a=5 <;> simp [h]
theorem z11u (a:UInt64):zhl a=some ⟨2,0,zlw a,[]⟩:=by
 unfold zhl; rw [z10e]; rfl
def okV (v:z04):Bool :=
 if v.Kind=1 then decide (v.Bits=0)&&decide (v.Text=[])
 else if v.Kind=2 then decide (v.Num=0)&&decide (v.Text=[])&&decide (zlw v.Bits=v.Bits)
 else if v.Kind=3 then decide (v.Num=0)&&decide (v.Bits=0)&&decide (v.Text.length≤30)&&v.Text.all okb
 else false
theorem z11f (v:z04) (hb:v.Text.length≤9223372036854775807):zca v=some (if okV v then 0 else 8):=by
 obtain ⟨K,n,f,t⟩:=v
 unfold zca okV
 simp only at hb ⊢
 rw [z110,ztp t hb]
 by_cases h1:K=1
 ·
  subst h1
  by_cases hf:f=0 <;> by_cases ht:t=[] <;> simp [hf,ht]
 by_cases h2:K=2
 ·
  subst h2
  by_cases hn:n=0 <;> by_cases ht:t=[] <;> by_cases hc:zlw f=f <;> simp [hn,ht,hc,bs]
 by_cases h3:K=3
 ·
  subst h3
  by_cases hl:t.length≤30
  ·
   have hl':(t.length:Int)≤30:=by omega
   by_cases hn:n=0 <;> by_cases hf:f=0 <;> cases t.all okb <;> simp [hn,hf,hl,hl',bs]
  ·
   have hl':¬ (t.length:Int)≤30:=by omega
   by_cases hn:n=0 <;> by_cases hf:f=0 <;> simp [hn,hf,hl,hl',bs]
 ·
  simp [h1,h2,h3]
theorem ztk (v:z04) (hb:v.Text.length≤9223372036854775807):zfd v=some (if okV v then 0 else 8):=by
 obtain ⟨K,n,f,t⟩:=v
 unfold zfd zi3 okV
 simp only at hb ⊢
 rw [z11u,z14t t hb]
 by_cases h1:K=1
 ·
  subst h1
  by_cases hf:f=0 <;> by_cases ht:t=[] <;> simp [hf,ht,bs]
 by_cases h2:K=2
 ·
  subst h2
  by_cases hc:zlw f=f
  ·
   by_cases hn:n=0 <;> by_cases ht:t=[] <;> simp [hn,ht,hc,bs]
  ·
   have hc':¬ f=zlw f:=fun e=>hc e.symm
   by_cases hn:n=0 <;> by_cases ht:t=[] <;> simp [hn,ht,hc,hc',bs]
 by_cases h3:K=3
 ·
  subst h3
  by_cases hl:30<(t.length:Int)
  ·
   have h4:¬ t.length≤30:=by omega
   rw [decide_eq_true hl,decide_eq_false h4]
   simp [bs]
  ·
   have h4:t.length≤30:=by omega
   rw [decide_eq_false hl,decide_eq_true h4]
   cases t.all okb <;> by_cases hn:n=0 <;> by_cases hf:f=0 <;> simp [hn,hf,bs]
 ·
  have e1:(K==1)=false:=by simpa using h1
  have e2:(K==2)=false:=by simpa using h2
  have e3:(K==3)=false:=by simpa using h3
  simp only [e1,e2,e3,Bool.false_eq_true,if_false,bs,h1,h2,h3]
  by_cases h0:K=0
  ·
   subst h0
   split <;> rfl
  ·
   simp [h0]
end
section
open Go
theorem zzd:∀ (n:Nat) (a:UInt64) (ds:List UInt8) (N:Nat),a.toNat=n→z3l N=ds++z3l n→(z3l N).length≤8→iter z62 (a,ds)=some (z3l N):=by
 intro n
 induction n using Nat.strongRecOn with
 | _ n ih =>
  intro a ds N ha hd hl
  by_cases h0:n=0
  ·
   subst h0
   refine z1p ?_
   unfold z62
   rw [if_neg (by simp [UInt64.lt_iff_toNat_lt,ha])]
   rw [zez,List.append_nil] at hd
   rw [hd]
  ·
   have hF:z62 (a,ds)=some (.inr (a / 256,ds++[(a % 256).toUInt8])):=by
    unfold z62
    rw [if_pos (by simp [UInt64.lt_iff_toNat_lt,ha]; omega)]
    have:ds.length≤8:=Nat.le_trans (zq5 hd) hl
    simp only [z1g (show (ds.length+[(a % 256).toUInt8].length) * 1≤140737488355328 by simp; omega),bs]
   rw [z21 hF]
   have hd2:=zso N n ds h0 hd
   refine ih (n / 256) (Nat.div_lt_self (by omega) (by omega)) _ _ N ?_ ?_ hl
   ·
    simp [ha]
   ·
    rw [hd2]
    congr 2
    congr 1
    apply UInt8.toNat_inj.1
    simp [ha]
theorem zse (s:List UInt8) (hl:s.length≤8):∀ (i:Nat) (acc:List UInt8),i≤s.length→acc.length+i≤100→iter (z5z s) (acc,(i:Int) - 1)=some (acc++(s.take i).reverse)
 | 0,acc,_,_=>by
  refine z1p ?_
  unfold z5z
  rw [if_neg (by simp)]; simp
 | i+1,acc,hi,ha=>by
  have hlt:i<s.length:=by omega
  have e:((i+1:Nat):Int) - 1=(i:Int):=by omega
  have hF:z5z s (acc,((i+1:Nat):Int) - 1)=some (.inr (acc++[s[i]],(i:Int) - 1)):=by
   unfold z5z
   rw [e,if_pos (by simp)]
   simp only [z0d hlt,bs]
   rw [z1g (by simp; omega)]
   simp only [bs,z1a (show -9223372036854775808≤(i:Int) - 1 by omega) (by omega)]
  rw [z21 hF,zse s hl i _ (by omega) (by simp; omega)]
  have:List.take (i+1) s=List.take i s++[s[i]]:=by rw [List.take_add_one,List.getElem?_eq_getElem hlt]; rfl
  rw [this]; simp only [List.reverse_append,List.reverse_cons,List.reverse_nil,List.nil_append,List.append_assoc]
theorem z9c (a:UInt64):z2t a=some (z1r a.toNat):=by
 unfold z2t z1r
 have h0:=UInt64.toNat_lt a
 by_cases h:a.toNat≤247
 ·
  have h':decide (a≤247)=true:=by simpa [UInt64.le_iff_toNat_le] using h
  rw [if_pos h',if_pos h]
  congr 2
 ·
  have h':¬ decide (a≤247)=true:=by simpa [UInt64.le_iff_toNat_le] using h
  rw [if_neg h',if_neg h]
  have hd:=zoe a.toNat h0
  rw [zzd a.toNat a [] a.toNat rfl rfl hd]
  simp only [bs]
  rw [z1a (show -9223372036854775808≤((z3l a.toNat).length:Int) - 1 by omega) (by omega),z1a (show -9223372036854775808≤247+((z3l a.toNat).length:Int) by omega) (by omega)]
  rw [zse _ hd _ _ (Nat.le_refl _) (by simp; omega)]
  simp only [bs,List.take_length]
  rw [show (247+((z3l a.toNat).length:Int))=((247+(z3l a.toNat).length:Nat):Int) by omega]
  congr 1
  show _::_=_
  congr 1
  apply UInt8.toNat_inj.1
  simp [UInt8.ofInt]
  omega
theorem zyx (a:UInt64) (k:Nat) (hk:k=(z3l a.toNat).length) (hk8:k≤8):iter (zdv a (k:Int)) (zed a.toNat 0,0)=some (zed a.toNat k):=by
 refine z23 k (fun i=>(zed a.toNat i,(i:Int))) (fun i hi=>?_) ?_
 ·
  have hf:=zw0 a.toNat i (by omega)
  unfold zdv
  rw [if_pos (by simp; omega)]
  simp only [z1a (show -9223372036854775808≤8 * (i:Int) by omega) (by omega),z3r (show (0:Int)≤8 * (i:Int) by omega),bs,z1a (show -9223372036854775808≤(k:Int) - (i:Int) by omega) (by omega),z0i (show i<9223372036854775807 by omega)]
  rw [z166 (by omega) (by omega)]
  simp only [bs]
  have:=zu5 a.toNat i (by omega)
  rw [← this]
  have e1:((k:Int) - (i:Int)).toNat=(z3l a.toNat).length - i:=by omega
  have e2:(z9b a (8 * (i:Int)).toNat).toUInt8=UInt8.ofNat (a.toNat / 2 ^ (8 * i)):=by
   apply UInt8.toNat_inj.1
   have e3:(8 * (i:Int)).toNat=8 * i:=by omega
   rw [e3]
   simp only [UInt64.toNat_toUInt8,zfe,Nat.min_eq_left (show 8 * i≤64 by omega)]
   simp
  rw [e1,e2]
 ·
  unfold zdv
  rw [if_neg (by simp)]
theorem ziu (a:UInt64) (k:Nat) (hk:k<64):(z9b a k).toNat=a.toNat / 2 ^ k:=by rw [zfe,Nat.min_eq_left (by omega)]
set_option maxRecDepth 100000 in
theorem z13q (a:UInt64):zcq a=some (z8k a.toNat:Int):=by
 unfold zcq
 have h0:=UInt64.toNat_lt a
 have s1:∃ (y:UInt64) (n:Nat),(if decide (4294967296≤a) then some (z9b a 32,(32:Int)) else some (a,0))=some (y,(n:Int))∧y.toNat<2 ^ 32∧n≤32∧z8k a.toNat=n+z8k y.toNat:=by
  by_cases h:4294967296≤a.toNat
  ·
   refine ⟨z9b a 32,32, by rw [if_pos (by simpa [UInt64.le_iff_toNat_le] using h)]; rfl,?_, by omega,?_⟩
   ·
    rw [ziu a 32 (by omega)]; omega
   ·
    rw [ziu a 32 (by omega)]; exact zg2 _ 32 (by omega)
  ·
   exact ⟨a,0, by rw [if_neg (by simpa [UInt64.le_iff_toNat_le] using h)]; rfl, by omega, by omega, by omega⟩
 obtain ⟨y,n,e1,hy,hn,hb⟩:=s1
 rw [e1]; simp only [bs]
 have s2:∃ (z:UInt64) (k:Nat),(if decide (65536≤y) then some (z9b y 16) >>= fun y5=>some (w64 ((n:Int)+16)) >>= fun y6=>some (y5,y6) else some (y,(n:Int)))=some (z,(k:Int))∧z.toNat<2 ^ 16∧k≤48∧z8k a.toNat=k+z8k z.toNat:=by
  by_cases h:65536≤y.toNat
  ·
   refine ⟨z9b y 16,n+16, by rw [if_pos (by simpa [UInt64.le_iff_toNat_le] using h)]; simp only [bs,z1a (show -9223372036854775808≤(n:Int)+16 by omega) (by omega)]; rfl,?_, by omega,?_⟩
   ·
    rw [ziu y 16 (by omega)]; omega
   ·
    rw [ziu y 16 (by omega),hb,zg2 y.toNat 16 (by omega)]; omega
  ·
   exact ⟨y,n, by rw [if_neg (by simpa [UInt64.le_iff_toNat_le] using h)], by omega, by omega,hb⟩
 obtain ⟨z,k,e2,hz,hk,hb2⟩:=s2
 simp only [bs] at e2
 rw [e2]; simp only [bs]
 have s3:∃ (x:UInt64) (j:Nat),(if decide (256≤z) then some (w64 ((k:Int)+8)) >>= fun y9=>some (z9b z 8,y9) else some (z,(k:Int)))=some (x,(j:Int))∧x.toNat<256∧j≤56∧z8k a.toNat=j+z8k x.toNat:=by
  by_cases h:256≤z.toNat
  ·
   refine ⟨z9b z 8,k+8, by rw [if_pos (by simpa [UInt64.le_iff_toNat_le] using h)]; simp only [bs,z1a (show -9223372036854775808≤(k:Int)+8 by omega) (by omega)]; rfl,?_, by omega,?_⟩
   ·
    rw [ziu z 8 (by omega)]; omega
   ·
    rw [ziu z 8 (by omega),hb2,zg2 z.toNat 8 (by omega)]; omega
  ·
   exact ⟨z,k, by rw [if_neg (by simpa [UInt64.le_iff_toNat_le] using h)], by omega, by omega,hb2⟩
 obtain ⟨x,j,e3,hx,hj,hb3⟩:=s3
 simp only [bs] at e3
 rw [e3]; simp only [bs]
 have ht:=z12z ⟨x.toNat,hx⟩
 have hx8:(x.toUInt8.toNat:Int)=((x.toNat:Nat):Int):=by simp; omega
 have hle:z8k x.toNat≤8:=zkw _ 8 (by omega)
 rw [hx8]
 have hlist:∀ (l:List UInt8),l=zzr.data.toList→idx l ((x.toNat:Nat):Int)=some (UInt8.ofNat (z8k x.toNat)):=fun l hl=>by
  subst hl
  unfold idx
  rw [if_pos (by omega)]
  simpa using ht
 refine Eq.trans (congrArg (fun o:Option UInt8=>o >>= fun x10=>some (w64 ((j:Int)+(x10.toNat:Int)))) (hlist _ ?hh)) ?_
 case hh=>rfl
 simp only [bs]
 have e4:((UInt8.ofNat (z8k x.toNat)).toNat:Int)=(z8k x.toNat:Int):=by simp; omega
 rw [e4,z1a (by omega) (by omega),hb3]
 simp
theorem z7r (a:UInt64):z54 a=some (z1r a.toNat):=by
 unfold z54
 have h0:=UInt64.toNat_lt a
 by_cases h:a.toNat≤247
 ·
  have h':decide (a≤247)=true:=by simpa [UInt64.le_iff_toNat_le] using h
  unfold z1r
  rw [if_pos h',if_pos h]
  congr 2
 ·
  have h':¬ decide (a≤247)=true:=by simpa [UInt64.le_iff_toNat_le] using h
  rw [if_neg h',z13q]
  have hd:=zoe a.toNat h0
  have hl:=zqt a.toNat
  have hb:z8k a.toNat≤64:=zkw _ 64 h0
  simp only [bs]
  rw [z1a (show -9223372036854775808≤(z8k a.toNat:Int)+7 by omega) (by omega)]
  have e1:Int.tdiv ((z8k a.toNat:Int)+7) 8=((z3l a.toNat).length:Int):=by
   rw [hl, show ((z8k a.toNat:Int)+7)=((z8k a.toNat+7:Nat):Int) by omega]
   rfl
  rw [e1,z1a (show -9223372036854775808≤((z3l a.toNat).length:Int) by omega) (by omega),z0i (by omega),zjx (by omega) (by omega)]
  simp only [bs]
  rw [show (0:Int)=((0:Nat):Int) from rfl,z0d (by simp)]
  simp only [bs,Int.toNat_natCast]
  rw [z1a (show -9223372036854775808≤247+((z3l a.toNat).length:Int) by omega) (by omega)]
  have e2:UInt8.ofInt (247+((z3l a.toNat).length:Int))=UInt8.ofNat (247+(z3l a.toNat).length):=by
   apply UInt8.toNat_inj.1
   rw [show (247+((z3l a.toNat).length:Int))=((247+(z3l a.toNat).length:Nat):Int) by omega]
   simp [UInt8.ofInt]
   omega
  have:=ztc a.toNat
  rw [e2,this]
  have:=zyx a (z3l a.toNat).length rfl hd
  rw [show (0:Int)=((0:Nat):Int) from rfl] at this
  rw [this]
  simp only [bs]
  rw [zth a.toNat (by omega)]
end
section
open Go
theorem okV3 {v:z04} (h:okV v=true) (k:v.Kind=3):v.Num=0∧v.Bits=0∧v.Text.length≤30∧v.Text.all okb=true:=by
 unfold okV at h; rw [if_neg (by rw [k]; decide),if_neg (by rw [k]; decide),if_pos k] at h
 simp only [Bool.and_eq_true,decide_eq_true_eq] at h
 exact ⟨h.1.1.1,h.1.1.2,h.1.2,h.2⟩
theorem zr8 {v:z04} (h:okV v=true):v.Kind=1∨v.Kind=2∨v.Kind=3:=by
 by_cases h1:v.Kind=1
 ·
  exact .inl h1
 by_cases h2:v.Kind=2
 ·
  exact .inr (.inl h2)
 by_cases h3:v.Kind=3
 ·
  exact .inr (.inr h3)
 ·
  unfold okV at h; simp [h1,h2,h3] at h
theorem z14v (x:UInt64):(x ^^^ 18446744073709551615).toNat=18446744073709551615 - x.toNat:=by
 have e:x ^^^ 18446744073709551615 = ~~~x:=by
  apply UInt64.eq_of_toBitVec_eq
  rw [UInt64.toBitVec_xor,UInt64.toBitVec_not]
  exact BitVec.xor_allOnes
 rw [e,UInt64.toNat_not]; rfl
theorem zex (n:Int):(UInt64.ofInt n).toNat=(n % 18446744073709551616).toNat:=by
 simp [UInt64.ofInt]; omega
theorem z1ao (n:Int) (h:inI n):((zru (UInt64.ofInt n) 1) ^^^ (UInt64.ofInt (shrI n 63))).toNat=zig n:=by
 obtain ⟨h1,h2⟩:=h
 have es:(zru (UInt64.ofInt n) 1).toNat=(n % 18446744073709551616).toNat * 2 % 18446744073709551616:=by
  rw [zof,zex]; rfl
 by_cases h0:0≤n
 ·
  have e:shrI n 63=0:=by
   unfold shrI
   rw [show (2:Int) ^ (min 63 64)=9223372036854775808 from rfl,Int.fdiv_eq_ediv_of_nonneg _ (by omega)]; omega
  rw [e, show UInt64.ofInt 0=0 from rfl,UInt64.xor_zero,es]
  unfold zig; rw [if_pos h0]; omega
 ·
  have e:shrI n 63 = -1:=by
   unfold shrI
   rw [show (2:Int) ^ (min 63 64)=9223372036854775808 from rfl,Int.fdiv_eq_ediv_of_nonneg _ (by omega)]; omega
  rw [e, show UInt64.ofInt (-1)=18446744073709551615 from rfl,z14v,es]
  unfold zig; rw [if_neg h0]; omega
theorem z108 (n:Int) (h:inI n):zhe n=some (z1r (zig n)):=by
 unfold zhe
 rw [z7r,z1ao n h]; rfl
theorem zp6 (s:List UInt8) (h:s.length≤10000):zdk s=some (z1r s.length++s,0):=by
 unfold zdk
 rw [if_neg (by simp; omega),z7r]
 have e:(UInt64.ofInt (s.length:Int)).toNat=s.length:=by rw [zex]; omega
 have:=z15 s.length (by omega)
 simp only [bs,e]
 rw [z1g (by omega)]; rfl
def be8 (b:UInt64):List UInt8:=[(z9b b 56).toUInt8,(z9b b 48).toUInt8,(z9b b 40).toUInt8,(z9b b 32).toUInt8,(z9b b 24).toUInt8,(z9b b 16).toUInt8,(z9b b 8).toUInt8,(z9b b 0).toUInt8]
theorem z12j (v:z04) (l:List UInt8) (k:Nat) (hl:l.length≤100) (hk:k≤56):zam v (l,(k:Int))=some (.inr (l++[(z9b v.Bits k).toUInt8],(k:Int) - 8)):=by
 unfold zam
 rw [if_pos (by simp)]
 simp only
 rw [z3r (by omega)]
 simp only [bs,Int.toNat_natCast]
 rw [z1g (by simp; omega)]
 simp only [bs]
 rw [z1a (by omega) (by omega)]
theorem z13y (v:z04):iter (zam v) ([v.Kind],56)=some (v.Kind::be8 v.Bits):=by
 have hs:=fun l k h1 h2=>z12j v l k h1 h2
 rw [show (56:Int)=((56:Nat):Int) from rfl,z21 (hs [v.Kind] 56 (by simp) (by omega))]
 simp only [List.cons_append,List.nil_append, show ((56:Nat):Int) - 8=((48:Nat):Int) from rfl]
 rw [z21 (hs _ 48 (by simp) (by omega))]
 simp only [List.cons_append,List.nil_append, show ((48:Nat):Int) - 8=((40:Nat):Int) from rfl]
 rw [z21 (hs _ 40 (by simp) (by omega))]
 simp only [List.cons_append,List.nil_append, show ((40:Nat):Int) - 8=((32:Nat):Int) from rfl]
 rw [z21 (hs _ 32 (by simp) (by omega))]
 simp only [List.cons_append,List.nil_append, show ((32:Nat):Int) - 8=((24:Nat):Int) from rfl]
 rw [z21 (hs _ 24 (by simp) (by omega))]
 simp only [List.cons_append,List.nil_append, show ((24:Nat):Int) - 8=((16:Nat):Int) from rfl]
 rw [z21 (hs _ 16 (by simp) (by omega))]
 simp only [List.cons_append,List.nil_append, show ((16:Nat):Int) - 8=((8:Nat):Int) from rfl]
 rw [z21 (hs _ 8 (by simp) (by omega))]
 simp only [List.cons_append,List.nil_append, show ((8:Nat):Int) - 8=((0:Nat):Int) from rfl]
 rw [z21 (hs _ 0 (by simp) (by omega))]
 simp only [List.cons_append,List.nil_append]
 refine z1p ?_
 unfold zam
 rw [if_neg (by simp)]; rfl
def encV (v:z04):List UInt8:=v.Kind::(if v.Kind=1 then z1r (zig v.Num) else if v.Kind=2 then be8 v.Bits else z1r v.Text.length++v.Text)
theorem z12h {n:Int} (h:inI n):zig n<18446744073709551616:=z19l h.1 h.2
theorem z18i (v:z04) (hI:inI v.Num) (hl:v.Text.length≤9223372036854775807):zg3 v=some (if okV v then (encV v,0) else ([],8)):=by
 unfold zg3
 rw [ztk v hl]
 cases hv:okV v
 ·
  rfl
 simp only [bs,if_true]
 rw [if_neg (by simp)]
 unfold encV
 rcases zr8 hv with k | k | k
 ·
  have h1:=z15 (zig v.Num) (z12h hI)
  rw [k,z108 v.Num hI]
  simp only [bs]
  rw [if_pos (by decide),z1g (by simp; omega)]; simp [bs]
 ·
  rw [k,if_neg (by decide),if_pos (by decide),if_neg (by decide),if_pos rfl,← k,z13y]; rfl
 ·
  have h3:=(okV3 hv k).2.2.1
  have h1:=z15 v.Text.length (by omega)
  rw [k,zp6 v.Text (by omega)]
  rw [if_neg (by decide),if_neg (by decide),if_pos (by decide),if_neg (by decide),if_neg (by decide),z3r (by omega)]
  simp only [bs]
  rw [z1g (by simp; omega)]; rfl
theorem zuc (n:Int) (h:inI n):zbc n=some (z1r (zig n)):=by
 obtain ⟨h1,h2⟩:=h
 unfold zbc
 by_cases h0:0≤n
 ·
  rw [if_pos (by simpa using h0),z9c]
  have e:(2 * UInt64.ofInt n).toNat=zig n:=by
   rw [UInt64.toNat_mul,zex, show (2:UInt64).toNat=2 from rfl]
   unfold zig; rw [if_pos h0]; omega
  rw [e]; rfl
 ·
  rw [if_neg (by simpa using h0),z9c]
  have e:((2 * UInt64.ofInt (w64 (0 - (w64 (n+1)))))+1).toNat=zig n:=by
   rw [z1a (x:=n+1) (by omega) (by omega),z1a (by omega) (by omega),UInt64.toNat_add,UInt64.toNat_mul,zex, show (2:UInt64).toNat=2 from rfl, show (1:UInt64).toNat=1 from rfl]
   unfold zig; rw [if_neg h0]; omega
  rw [e]; rfl
theorem zqv (s:List UInt8) (h:s.length≤100000):z93 s=some (z1r s.length++s):=by
 unfold z93
 rw [z9c]
 have e:(UInt64.ofInt (s.length:Int)).toNat=s.length:=by rw [zex]; omega
 have:=z15 s.length (by omega)
 rw [e]
 simp only [bs]
 rw [z1g (by omega)]; rfl
theorem zzz (v:z04) (l:List UInt8) (k:Nat) (hl:l.length≤100) (hk:k≤7):z6v v (l,(k:Int))=some (.inr (l++[(z9b v.Bits (8 * k)).toUInt8],(k:Int) - 1)):=by
 unfold z6v
 rw [if_pos (by simp)]
 simp only
 have e:w64 (8 * (k:Int))=((8 * k:Nat):Int):=by rw [z1a (by omega) (by omega)]; omega
 rw [e,z3r (by omega)]
 simp only [bs,Int.toNat_natCast]
 rw [z1g (by simp; omega)]
 simp only [bs]
 rw [z1a (by omega) (by omega)]
theorem z13a (v:z04):iter (z6v v) ([v.Kind],7)=some (v.Kind::be8 v.Bits):=by
 have hs:=fun l k h1 h2=>zzz v l k h1 h2
 rw [show (7:Int)=((7:Nat):Int) from rfl,z21 (hs [v.Kind] 7 (by simp) (by omega))]
 simp only [List.cons_append,List.nil_append, show ((7:Nat):Int) - 1=((6:Nat):Int) from rfl]
 rw [z21 (hs _ 6 (by simp) (by omega))]
 simp only [List.cons_append,List.nil_append, show ((6:Nat):Int) - 1=((5:Nat):Int) from rfl]
 rw [z21 (hs _ 5 (by simp) (by omega))]
 simp only [List.cons_append,List.nil_append, show ((5:Nat):Int) - 1=((4:Nat):Int) from rfl]
 rw [z21 (hs _ 4 (by simp) (by omega))]
 simp only [List.cons_append,List.nil_append, show ((4:Nat):Int) - 1=((3:Nat):Int) from rfl]
 rw [z21 (hs _ 3 (by simp) (by omega))]
 simp only [List.cons_append,List.nil_append, show ((3:Nat):Int) - 1=((2:Nat):Int) from rfl]
 rw [z21 (hs _ 2 (by simp) (by omega))]
 simp only [List.cons_append,List.nil_append, show ((2:Nat):Int) - 1=((1:Nat):Int) from rfl]
 rw [z21 (hs _ 1 (by simp) (by omega))]
 simp only [List.cons_append,List.nil_append, show ((1:Nat):Int) - 1=((0:Nat):Int) from rfl]
 rw [z21 (hs _ 0 (by simp) (by omega))]
 simp only [List.cons_append,List.nil_append]
 refine z1p ?_
 unfold z6v
 rw [if_neg (by simp)]; rfl
theorem zzu (v:z04) (hI:inI v.Num) (hv:okV v=true):zc5 v=some (encV v):=by
 unfold encV zc5
 rcases zr8 hv with k | k | k
 ·
  have h1:=z15 (zig v.Num) (z12h hI)
  rw [k,zuc v.Num hI]
  simp only [bs]
  rw [if_pos (by decide),z1g (by simp; omega)]; simp [bs]
 ·
  rw [k,if_neg (by decide),if_pos (by decide),if_neg (by decide),if_pos rfl,← k,z13a]; rfl
 ·
  have h3:=(okV3 hv k).2.2.1
  have h1:=z15 v.Text.length (by omega)
  rw [k,zqv v.Text (by omega)]
  rw [if_neg (by decide),if_neg (by decide),if_neg (by decide),if_neg (by decide),z3r (by omega)]
  simp only [bs]
  rw [z1g (by simp; omega)]; rfl
end
section
open Go
theorem z13t (a b:V3):∀ (n i:Nat),32 - i=n→i≤32→∃ r:Sum Int Unit,iter (z8t a b) (i:Int)=some r∧(z5g (some r) (fun _=>some 0)=some (Lib.compareBytes (a.toList.drop i) (b.toList.drop i))):=by
 intro n
 induction n with
 | zero =>
  intro i hn hi
  have:i=32:=by omega
  subst this
  refine ⟨.inr (),z1p ?_,?_⟩
  ·
   unfold z8t; rw [if_neg (by simp)]
  ·
   rw [List.drop_eq_nil_of_le (by simp),List.drop_eq_nil_of_le (by simp)]; rfl
 | succ n ih =>
  intro i hn hi
  have hlt:i<32:=by omega
  have da:a.toList.drop i=a[i]::a.toList.drop (i+1):=by rw [List.drop_eq_getElem_cons (by simpa using hlt)]; simp
  have db:b.toList.drop i=b[i]::b.toList.drop (i+1):=by rw [List.drop_eq_getElem_cons (by simpa using hlt)]; simp
  have hF:z8t a b (i:Int)=if decide (a[i]<b[i]) then some (.inl (.inl (-1))) else if decide (b[i]<a[i]) then some (.inl (.inl 1)) else some (.inr ((i+1:Nat):Int)):=by
   unfold z8t
   rw [if_pos (by simp; omega)]
   simp only [zaa hlt,bs,z0i (show i<9223372036854775807 by omega)]
  rw [da,db,Lib.compareBytes]
  by_cases h1:a[i]<b[i]
  ·
   rw [decide_eq_true h1] at hF
   exact ⟨_,z1p hF, by rw [if_pos h1]; rfl⟩
  ·
   rw [decide_eq_false h1] at hF
   by_cases h2:b[i]<a[i]
   ·
    rw [decide_eq_true h2] at hF
    exact ⟨_,z1p hF, by rw [if_neg h1,if_pos h2]; rfl⟩
   ·
    rw [decide_eq_false h2] at hF
    obtain ⟨r,k1,k2⟩:=ih (i+1) (by omega) (by omega)
    exact ⟨r, by rw [z21 hF]; exact k1, by rw [if_neg h1,if_neg h2]; exact k2⟩
theorem zsh (a b:V3):z8b a b=some (Lib.compareBytes a.toList b.toList):=by
 obtain ⟨r,h1,h2⟩:=z13t a b 32 0 rfl (by omega)
 unfold z8b
 rw [show (0:Int)=((0:Nat):Int) from rfl,h1]
 simpa using h2
theorem zvk (a b:V3):za3 a b=some (Lib.compareBytes a.toList b.toList):=by
 unfold za3 zhf; rfl
def z5u:List V3→Bool
 | a::b::l=>!decide (0≤Lib.compareBytes a.toList b.toList)&&z5u (b::l)
 | _=>true
theorem zoz (l:List V3) (hl:l.length≤9223372036854775807):∀ (n i:Nat),l.length - i=n→1≤i→i≤l.length→iter (z4t l) (i:Int)=some (if z5u (l.drop (i - 1)) then .inr () else .inl false):=by
 intro n
 induction n with
 | zero =>
  intro i hn h1 hi
  have:i=l.length:=by omega
  refine z1p ?_
  have e:l.drop (i - 1)=[l[i - 1]'(by omega)]:=by
   rw [List.drop_eq_getElem_cons (by omega),List.drop_eq_nil_of_le (by omega)]
  rw [e]
  unfold z4t
  rw [if_neg (by simp; omega)]
  simp [z5u]
 | succ n ih =>
  intro i hn h1 hi
  have hlt:i<l.length:=by omega
  have e:l.drop (i - 1)=l[i - 1]::l[i]::l.drop (i+1):=by
   rw [List.drop_eq_getElem_cons (by omega), show i - 1+1=i by omega,List.drop_eq_getElem_cons hlt]
  have e':l.drop (i+1 - 1)=l[i]::l.drop (i+1):=by rw [Nat.add_sub_cancel,List.drop_eq_getElem_cons hlt]
  have hF:z4t l (i:Int)=if decide (0≤Lib.compareBytes (l[i - 1]).toList (l[i]).toList) then some (.inl (.inl false)) else some (.inr ((i+1:Nat):Int)):=by
   unfold z4t
   rw [if_pos (by simp; omega),z1a (by omega) (by omega), show ((i:Int) - 1)=((i - 1:Nat):Int) by omega]
   simp only [z0d hlt,z0d (show i - 1<l.length by omega),bs,zsh,z0i (show i<9223372036854775807 by omega)]
  rw [e,z5u]
  cases hc:decide (0≤Lib.compareBytes (l[i - 1]).toList (l[i]).toList) with
  | true=>rw [hc] at hF; rw [z1p hF]; rfl
  | false =>
   rw [hc] at hF
   rw [z21 hF,ih (i+1) (by omega) (by omega) (by omega),e']; simp
theorem zsj (l:List V3) (hl:l.length≤9223372036854775807):z8q l=some (z5u l):=by
 unfold z8q
 cases l with
 | nil =>
  rw [z1p (b:=.inr ()) (by unfold z4t; rw [if_neg (by simp)])]; rfl
 | cons x l =>
  have:=zoz (x::l) hl _ 1 rfl (by omega) (by simp)
  rw [show (1:Int)=((1:Nat):Int) from rfl,this]
  simp only [Nat.sub_self,List.drop_zero]
  cases z5u (x::l) <;> rfl
theorem zsf (l:List V3) (hl:l.length≤9223372036854775806):∀ (n i:Nat),l.length - i=n→i≤l.length→∃ r,iter (z0t l l) ((i:Int),(i:Int))=some r∧(z5u (l.drop i)=true→∃ c,r=.inr c)∧(z5u (l.drop i)=false→∃ (k:Nat) (c:Int),r=.inl ((k:Int),c)):=by
 intro n
 induction n with
 | zero =>
  intro i hn hi
  have:i=l.length:=by omega
  refine ⟨.inr (i:Int),z1p ?_, fun _=>⟨_,rfl⟩, fun h=>?_⟩
  ·
   unfold z0t
   rw [if_neg (by simp; omega)]
  ·
   rw [List.drop_eq_nil_of_le (by omega)] at h; simp [z5u] at h
 | succ n ih =>
  intro i hn hi
  have hlt:i<l.length:=by omega
  by_cases h2:i+1<l.length
  ·
   have e:l.drop i=l[i]::l[i+1]::l.drop (i+2):=by rw [List.drop_eq_getElem_cons hlt,List.drop_eq_getElem_cons h2]
   have e':l.drop (i+1)=l[i+1]::l.drop (i+2):=by rw [List.drop_eq_getElem_cons h2]
   have hF:z0t l l ((i:Int),(i:Int))=if decide (0≤Lib.compareBytes (l[i]).toList (l[i+1]).toList) then some (.inl (.inl ((i:Int),((i+1:Nat):Int)))) else some (.inr (((i+1:Nat):Int),((i+1:Nat):Int))):=by
    unfold z0t zep
    rw [if_pos (by simp; omega)]
    simp only [z0d hlt,bs,z0i (show i<9223372036854775807 by omega)]
    rw [if_pos (by simp; omega),z1a (by omega) (by omega), show ((i+1:Nat):Int) - 1=(i:Int) by omega]
    simp only [z0d hlt,z0d h2,bs,zvk]
   rw [e,z5u]
   cases hc:decide (0≤Lib.compareBytes (l[i]).toList (l[i+1]).toList) with
   | true =>
    rw [hc] at hF
    exact ⟨_,z1p hF, fun h=>by simp at h, fun _=>⟨i,_,rfl⟩⟩
   | false =>
    rw [hc] at hF
    obtain ⟨r,k1,k2,k3⟩:=ih (i+1) (by omega) (by omega)
    rw [e'] at k2 k3
    exact ⟨r, by rw [z21 hF]; exact k1, fun h=>k2 (by simpa using h), fun h=>k3 (by simpa using h)⟩
  ·
   have e:l.drop i=[l[i]]:=by rw [List.drop_eq_getElem_cons hlt,List.drop_eq_nil_of_le (by omega)]
   have hF:z0t l l ((i:Int),(i:Int))=some (.inr (((i+1:Nat):Int),((i+1:Nat):Int))):=by
    unfold z0t zep
    rw [if_pos (by simp; omega)]
    simp only [z0d hlt,bs,z0i (show i<9223372036854775807 by omega)]
    rw [if_neg (by simp; omega)]
    simp only [bs]; rfl
   obtain ⟨r,k1,k2,k3⟩:=ih (i+1) (by omega) (by omega)
   rw [List.drop_eq_nil_of_le (by omega)] at k2 k3
   exact ⟨r, by rw [z21 hF]; exact k1, fun _=>k2 rfl, fun h=>by rw [e] at h; simp [z5u] at h⟩
theorem zy5 (l:List V3) (hl:l.length≤9223372036854775806):zhm l=some (z5u l):=by
 obtain ⟨r,k1,k2,k3⟩:=zsf l hl _ 0 rfl (by omega)
 unfold zhm z2n z2y
 rw [show ((0:Int),(0:Int))=(((0:Nat):Int),((0:Nat):Int)) from rfl,k1]
 simp only [List.drop_zero] at k2 k3
 cases h:z5u l with
 | true=>obtain ⟨c,rfl⟩:=k2 h; rfl
 | false =>
  obtain ⟨k,c,rfl⟩:=k3 h
  simp only [zzo,bs]
  rw [decide_eq_true (by omega)]; rfl
def zq3 (l:List V3):List UInt8:=l.flatMap Vector.toList
theorem zly (l:List V3):(zq3 l).length=32 * l.length:=by
 induction l with
 | nil=>rfl
 | cons x l ih=>unfold zq3 at ih ⊢; rw [List.flatMap_cons,List.length_append,ih]; simp; omega
theorem zsr (l:List V3) (i:Nat) (hi:i<l.length):zq3 (l.take (i+1))=zq3 (l.take i)++(l[i]).toList:=by
 rw [List.take_add_one,List.getElem?_eq_getElem hi]; unfold zq3; rw [List.flatMap_append,Option.toList_some,List.flatMap_cons,List.flatMap_nil,List.append_nil]
theorem z16l (l:List V3) (h:l.length≤1000) (s:List UInt8) (hs:s.length≤9):iter (z82 l) (s,0)=some (s++zq3 l):=by
 have:=z23 (F:=z82 l) (b:=s++zq3 l) l.length (fun i=>(s++zq3 (l.take i),(i:Int))) (fun i hi=>?_) ?_
 ·
  simpa [zq3] using this
 ·
  unfold z82
  have hf:=zly (l.take i)
  rw [if_pos (by simp; omega)]
  simp only [z0d hi,bs]
  rw [z1g (by simp at hf ⊢; omega)]
  simp only [bs,z0i (show i<9223372036854775807 by omega),zsr l i hi,List.append_assoc]
 ·
  unfold z82
  rw [if_neg (by simp)]
  simp
theorem z18d (l:List V3) (h:l.length≤1000) (s:List UInt8) (hs:s.length≤9):iter (zfc l) (s,0)=some (s++zq3 l):=by
 have:=z23 (F:=zfc l) (b:=s++zq3 l) l.length (fun i=>(s++zq3 (l.take i),(i:Int))) (fun i hi=>?_) ?_
 ·
  simpa [zq3] using this
 ·
  unfold zfc
  have hf:=zly (l.take i)
  rw [if_pos (by simp; omega)]
  simp only [z0d hi,bs]
  rw [z1g (by simp at hf ⊢; omega)]
  simp only [bs,z0i (show i<9223372036854775807 by omega),zsr l i hi,List.append_assoc]
 ·
  unfold zfc
  rw [if_neg (by simp)]
  simp
theorem zlv {n:Nat} (h:n<18446744073709551616):(UInt64.ofInt (n:Int)).toNat=n:=by
 simp [UInt64.ofInt]; omega
theorem z14y (l:List V3) (h:l.length≤1000):zcx l=some (z1r l.length++zq3 l):=by
 unfold zcx
 have hn:=z15 l.length (by omega)
 rw [z9c,zlv (by omega)]
 simp only [bs]
 rw [z16l l h _ (by omega)]; rfl
theorem z16k (l:List V3) (h:l.length≤60) (hi:z5u l=true):zl3 l=some (z1r l.length++zq3 l,0):=by
 unfold zl3
 have hn:=z15 l.length (by omega)
 rw [if_neg (by simp; omega),zy5 l (by omega),hi,z7r,zlv (by omega)]
 simp only [bs,Bool.not_true,Bool.false_eq_true,if_false]
 rw [z18d l (by omega) _ (by omega)]; rfl
end
section
open Go
def nk:List UInt8→Nat
 | []=>0
 | a::l=>a.toNat * 256 ^ l.length+nk l
theorem z10y:∀ l:List UInt8,nk l<256 ^ l.length
 | []=>by simp [nk]
 | a::l=>by
  have ih:=z10y l
  have ha:=UInt8.toNat_lt a
  simp only [nk,List.length_cons,Nat.pow_succ]
  have h1:(a.toNat+1) * 256 ^ l.length≤256 * 256 ^ l.length:=Nat.mul_le_mul_right _ (by omega)
  rw [Nat.add_mul,Nat.one_mul] at h1
  omega
theorem z12g:∀ a b:List UInt8,a.length=b.length→Lib.compareBytes a b=(if nk a<nk b then -1 else if nk b<nk a then 1 else 0)∧(nk a=nk b→a=b)
 | [],[],_=>by simp [Lib.compareBytes,nk]
 | [],_::_,h=>by simp at h
 | _::_,[],h=>by simp at h
 | a::x,b::y,h=>by
  have hl:x.length=y.length:=by simpa using h
  obtain ⟨i1,i2⟩:=z12g x y hl
  have lx:=z10y x
  have ly:=z10y y
  simp only [Lib.compareBytes,nk,hl] at *
  have e:∀ u v:UInt8,u.toNat<v.toNat→u.toNat * 256 ^ y.length+256 ^ y.length≤v.toNat * 256 ^ y.length:=fun u v huv=>by
   have:=Nat.mul_le_mul_right (256 ^ y.length) (show u.toNat+1≤v.toNat from huv)
   rwa [Nat.add_mul,Nat.one_mul] at this
  by_cases h1:a<b
  ·
   have h1':a.toNat<b.toNat:=UInt8.lt_iff_toNat_lt.1 h1
   have:=e a b h1'
   rw [if_pos h1,if_pos (by omega)]
   exact ⟨rfl, fun h=>by omega⟩
  ·
   by_cases h2:b<a
   ·
    have h2':b.toNat<a.toNat:=UInt8.lt_iff_toNat_lt.1 h2
    have:=e b a h2'
    rw [if_neg h1,if_pos h2,if_neg (by omega),if_pos (by omega)]
    exact ⟨rfl, fun h=>by omega⟩
   ·
    have h3:a=b:=UInt8.toNat_inj.1 (by rw [UInt8.lt_iff_toNat_lt] at h1 h2; omega)
    subst h3
    rw [if_neg h1,if_neg h1,i1]
    refine ⟨?_, fun h=>by rw [i2 (by omega)]⟩
    by_cases c1:nk x<nk y
    ·
     rw [if_pos c1,if_pos (by omega)]
    ·
     by_cases c2:nk y<nk x
     ·
      rw [if_neg c1,if_pos c2,if_neg (by omega),if_pos (by omega)]
     ·
      rw [if_neg c1,if_neg c2,if_neg (by omega),if_neg (by omega)]
def kd (d:V3):Nat:=nk d.toList
theorem zyj (a b:V3):Lib.compareBytes a.toList b.toList=if kd a<kd b then -1 else if kd b<kd a then 1 else 0:=(z12g a.toList b.toList (by simp)).1
theorem zkx {a b:V3} (h:kd a=kd b):a=b:=by
 have:=(z12g a.toList b.toList (by simp)).2 h
 exact Vector.toList_inj.1 this
theorem zwg (a b:V3):za3 a b=some (if kd a<kd b then -1 else if kd b<kd a then 1 else 0):=by rw [zvk,zyj]
theorem zus (a b:V3):z8b a b=some (if kd a<kd b then -1 else if kd b<kd a then 1 else 0):=by rw [zsh,zyj]
theorem zqo (a b:V3):decide ((if kd a<kd b then (-1:Int) else if kd b<kd a then 1 else 0)<0)=decide (kd a<kd b):=by
 by_cases h:kd a<kd b
 ·
  simp [h]
 ·
  by_cases h2:kd b<kd a <;> simp [h,h2]
theorem z15r (a b:V3):decide (0≤(if kd a<kd b then (-1:Int) else if kd b<kd a then 1 else 0))=decide (kd b≤kd a):=by
 by_cases h:kd a<kd b
 ·
  have:¬ kd b≤kd a:=by omega
  simp [h,this]
 ·
  have h3:kd b≤kd a:=by omega
  by_cases h2:kd b<kd a <;> simp [h,h2,h3]
theorem z188 (a b:V3):((if kd a<kd b then (-1:Int) else if kd b<kd a then 1 else 0)==0)=decide (a=b):=by
 by_cases h:kd a<kd b
 ·
  have:a≠b:=fun e=>by rw [e] at h; omega
  simp [h,this]
 ·
  by_cases h2:kd b<kd a
  ·
   have:a≠b:=fun e=>by rw [e] at h2; omega
   simp [h,h2,this]
  ·
   have:a=b:=zkx (by omega)
   simp [h,h2,this]
theorem zx0:∀ l:List V3,z5u l=true↔∀ i (h:i+1<l.length),kd (l[i]'(by omega))<kd l[i+1]
 | []=>by simp [z5u]
 | [a]=>by simp [z5u]
 | a::b::l=>by
  have ih:=zx0 (b::l)
  rw [z5u,Bool.and_eq_true,ih,zyj,z15r]
  constructor
  ·
   rintro ⟨h1,h2⟩ i hi
   cases i with
   | zero=>simpa using h1
   | succ i=>exact h2 i (by simpa using hi)
  ·
   intro h
   refine ⟨?_, fun i hi=>h (i+1) (by simpa using hi)⟩
   have:=h 0 (by simp)
   simpa using this
theorem z8e:∀ l:List V3,z5u l=true↔l.Pairwise (fun a b=>kd a<kd b)
 | []=>by simp [z5u]
 | [a]=>by simp [z5u]
 | a::b::l=>by
  have ih:=z8e (b::l)
  rw [z5u,Bool.and_eq_true,ih,zyj,z15r]
  constructor
  ·
   rintro ⟨h1,h2⟩
   have h1':kd a<kd b:=by simpa using h1
   refine List.pairwise_cons.2 ⟨fun c hc=>?_,h2⟩
   rcases List.mem_cons.1 hc with rfl | hc
   ·
    exact h1'
   ·
    have:=(List.pairwise_cons.1 h2).1 c hc; omega
  ·
   intro h
   obtain ⟨h1,h2⟩:=List.pairwise_cons.1 h
   have:=h1 b (by simp)
   exact ⟨by simp; omega,h2⟩
theorem z10g (l:List V3) (hl:l.length≤9223372036854775807):∃ b,z1h l=some b∧(b=true↔∀ i (h:i+1<l.length),kd (l[i]'(by omega))≤kd l[i+1]):=by
 have key:∀ n,n<l.length→∃ r:Sum Bool Unit,iter (z10 l) (n:Int)=some r∧((r=.inr ()∧∀ i (h:i+1<l.length),i+1≤n→kd (l[i]'(by omega))≤kd l[i+1])∨(r=.inl false∧∃ i,∃ h:i+1<l.length,¬ kd (l[i]'(by omega))≤kd l[i+1])):=by
  intro n
  induction n with
  | zero =>
   intro h
   refine ⟨_,z1p ?_,.inl ⟨rfl, fun i _ h=>by omega⟩⟩
   unfold z10
   rw [if_neg (by simp)]
  | succ n ih =>
   intro h
   have hF:z10 l ((n+1:Nat):Int)=if decide (kd l[n+1]<kd l[n]) then some (.inl (.inl false)) else some (.inr (n:Int)):=by
    unfold z10
    rw [if_pos (by simp <;> omega),z0d h,z1a (by omega) (by omega), show (((n+1:Nat):Int) - 1)=(n:Int) by omega,z0d (by omega)]
    simp only [bS]
    rw [zwg]
    simp only [bS]
    rw [zqo]
   by_cases hc:kd l[n+1]<kd l[n]
   ·
    rw [decide_eq_true hc,if_pos rfl] at hF
    exact ⟨_,z1p hF,.inr ⟨rfl,n,h, by omega⟩⟩
   ·
    rw [decide_eq_false hc,if_neg (by simp)] at hF
    obtain ⟨r,h1,h2⟩:=ih (by omega)
    refine ⟨r, by rw [z21 hF]; exact h1,?_⟩
    rcases h2 with ⟨h2,h3⟩ | h2
    ·
     refine .inl ⟨h2, fun i hi hn=>?_⟩
     by_cases hin:i=n
     ·
      subst hin; omega
     ·
      exact h3 i hi (by omega)
    ·
     exact .inr h2
 unfold z1h
 simp only [bS]
 by_cases h0:l.length=0
 ·
  refine ⟨true,?_, by simp; intro i hi; omega⟩
  rw [h0,z1a (by omega) (by omega),z1p (b:=.inr ())]
  ·
   rfl
  ·
   unfold z10
   rw [if_neg (by simp)]
 ·
  obtain ⟨r,h1,h2⟩:=key (l.length - 1) (by omega)
  rw [z1a (by omega) (by omega), show ((l.length:Int) - 1)=((l.length - 1:Nat):Int) by omega,h1]
  rcases h2 with ⟨rfl,h3⟩ | ⟨rfl,i,hi,h3⟩
  ·
   exact ⟨true,rfl, by simp; exact fun i hi=>h3 i hi (by omega)⟩
  ·
   exact ⟨false,rfl, by simp; exact ⟨i,hi, by omega⟩⟩
theorem zra {k n j:Nat} (h:j<n):subi k n (j:Int)=some (k+j):=by unfold subi; rw [if_pos (by omega)]; simp
theorem zvz {α:Type} (b:List α) (k n:Nat) (x:α) (h:k+n≤b.length):(clr b k n x).length=b.length:=by
 unfold clr
 simp only [List.length_append,List.length_take,List.length_replicate,List.length_drop]; omega
theorem zv8 (l:List V3) (s:Nat) (h1:1≤s) (hs:s<l.length) (hl:l.length≤9223372036854775806):∃ b:List V3 × Int,iter (z18 l s) (l,(s:Int),1)=some b∧b.1.length=l.length∧∃ j:Nat,b.2=(j:Int)∧j<l.length:=by
 refine z7d (F:=z18 l s) (l.length - s) (fun i st=>st.1.length=l.length∧st.2.2=(i:Int)∧1≤i∧∃ j:Nat,st.2.1=(j:Int)∧j+1≤s+i) _ ?_ ?_ _ 1 (by omega) ⟨rfl,rfl, by omega,s,rfl, by omega⟩
 ·
  rintro i ⟨c,j',i'⟩ hi ⟨e1,e2,e0,j,e3,e4⟩
  simp only at e1 e2 e3
  subst e2 e3
  unfold z18
  rw [if_pos (by simp; omega)]
  simp only [Int.toNat_natCast]
  rw [zra (by omega),z1a (x:=(i:Int) - 1) (by omega) (by omega), show ((i:Int) - 1)=((i - 1:Nat):Int) by omega,zra (by omega)]
  simp only [bS]
  rw [z0d (by omega),z0d (by omega)]
  simp only [bS]
  by_cases hc:c[s+i]'(by omega)=c[s+(i - 1)]'(by omega)
  ·
   rw [decide_eq_true hc,if_neg (by simp)]
   exact ⟨_,rfl,e1,z0i (by omega), by omega,j,rfl, by omega⟩
  ·
   rw [decide_eq_false hc,if_pos (by simp),z0d (by omega)]
   simp only [bS]
   exact ⟨_,rfl, by simpa using e1,z0i (by omega), by omega,j+1,z0i (by omega), by omega⟩
 ·
  rintro ⟨c,j',i'⟩ ⟨e1,e2,e0,j,e3,e4⟩
  simp only at e1 e2 e3
  subst e2 e3
  unfold z18
  rw [if_neg (by simp <;> omega)]
  exact ⟨_,rfl,e1,j,rfl, by omega⟩
theorem zy3 (l:List V3) (hl:l.length≤9223372036854775806):∃ c,z12 l=some c∧(c.length=l.length↔∀ i (h:i+1<l.length),l[i]'(by omega)≠l[i+1]):=by
 have key:∀ k n,l.length - n=k→1≤n→n≤l.length→∃ r:Sum (List V3) Unit,iter (z0l l) (n:Int)=some r∧((r=.inr ()∧∀ i (h:i+1<l.length),n≤i+1→l[i]'(by omega)≠l[i+1])∨(∃ c,r=.inl c∧c.length≠l.length∧∃ i,∃ h:i+1<l.length,l[i]'(by omega)=l[i+1])):=by
  intro k
  induction k with
  | zero =>
   intro n hk h1 hn
   refine ⟨_,z1p ?_,.inl ⟨rfl, fun i _ h=>by omega⟩⟩
   unfold z0l
   rw [if_neg (by simp; omega)]
  | succ k ih =>
   intro n hk h1 hn
   have hlt:n<l.length:=by omega
   by_cases hc:l[n]=l[n - 1]
   ·
    obtain ⟨⟨c,j'⟩,e1,e2,j,e3,e4⟩:=zv8 l n h1 hlt hl
    simp only at e2 e3
    subst e3
    have hF:z0l l (n:Int)=some (.inl (.inl ((clr c j (c.length - j) (Vector.replicate 32 0)).take j))):=by
     unfold z0l
     rw [if_pos (by simp; omega),z0d hlt,z1a (by omega) (by omega), show ((n:Int) - 1)=((n - 1:Nat):Int) by omega,z0d (by omega)]
     simp only [bS]
     rw [decide_eq_true hc,if_pos rfl,z3r (by omega)]
     simp only [bS]
     rw [e1]
     simp only [bS]
     rw [z3r (by omega),z3r (by simp; omega)]
     simp only [bS,Int.toNat_natCast]
     rw [show (0:Int)=((0:Nat):Int) from rfl,zdc (by omega) (by rw [zvz _ _ _ _ (by omega)]; omega)]
     simp
    refine ⟨_,z1p hF,.inr ⟨_,rfl,?_,n - 1, by omega,?_⟩⟩
    ·
     rw [List.length_take]; omega
    ·
     have:n - 1+1=n:=by omega
     simp only [this]; exact hc.symm
   ·
    have hF:z0l l (n:Int)=some (.inr ((n+1:Nat):Int)):=by
     unfold z0l
     rw [if_pos (by simp; omega),z0d hlt,z1a (x:=(n:Int) - 1) (by omega) (by omega), show ((n:Int) - 1)=((n - 1:Nat):Int) by omega,z0d (by omega)]
     simp only [bS]
     rw [decide_eq_false hc,if_neg (by simp),z0i (by omega)]
    obtain ⟨r,h2,h3⟩:=ih (n+1) (by omega) (by omega) (by omega)
    refine ⟨r, by rw [z21 hF]; exact h2,?_⟩
    rcases h3 with ⟨h3,h4⟩ | h3
    ·
     refine .inl ⟨h3, fun i hi hni=>?_⟩
     by_cases hin:i+1=n
     ·
      subst hin; exact fun e=>hc e.symm
     ·
      exact h4 i hi (by omega)
    ·
     exact .inr h3
 unfold z12
 by_cases h2:l.length<2
 ·
  rw [if_pos (by simp; omega)]
  exact ⟨l,rfl, by simp; intro i hi; omega⟩
 ·
  rw [if_neg (by simp; omega)]
  obtain ⟨r,e1,e2⟩:=key (l.length - 1) 1 rfl (by omega) (by omega)
  rw [show (1:Int)=((1:Nat):Int) from rfl,e1]
  rcases e2 with ⟨rfl,h3⟩ | ⟨c,rfl,h3,i,hi,h4⟩
  ·
   exact ⟨l,rfl, by simp; exact fun i hi=>h3 i hi (by omega)⟩
  ·
   exact ⟨c,rfl,⟨fun h=>absurd h h3, fun h=>absurd h4 (h i hi)⟩⟩
theorem z14e (l:List V3):z5u l=true↔(∀ i (h:i+1<l.length),kd (l[i]'(by omega))≤kd l[i+1])∧∀ i (h:i+1<l.length),l[i]'(by omega)≠l[i+1]:=by
 rw [zx0]
 constructor
 ·
  intro h
  refine ⟨fun i hi=>Nat.le_of_lt (h i hi), fun i hi e=>?_⟩
  have:=h i hi
  rw [e] at this; omega
 ·
  rintro ⟨h1,h2⟩ i hi
  have:=h1 i hi
  rcases Nat.lt_or_eq_of_le this with h | h
  ·
   exact h
  ·
   exact absurd (zkx h) (h2 i hi)
end
section
open Go Go.Shelf Go.RowKit Go.Lib Go.Sort
def cfID (x y:V3):Int:=Lib.compareBytes x.toList y.toList
theorem ltID (x y:V3):ltOf cfID x y=decide (kd x<kd y):=by
 unfold ltOf cfID
 rw [zyj,zqo]
theorem z19d:SWO (ltOf cfID) where
 irrefl x:=by rw [ltID]; simp
 trans x y z h1 h2:=by rw [ltID] at *; simp at *; omega
 ntrans x y z h1 h2:=by rw [ltID] at *; simp at *; omega
def zsy (l:List V3):List V3:=l.mergeSort fun x y=>!(ltOf cfID) y x
theorem zll (l:List V3):(zsy l).length=l.length:=List.length_mergeSort l
theorem zsx (l:List V3) (x:V3):x∈zsy l↔x∈l:=List.mem_mergeSort
theorem zn7 (l:List V3):(zsy l).Pairwise fun x y=>kd x≤kd y:=by
 have h:=List.pairwise_mergeSort (le:=fun x y=>!(ltOf cfID) y x) (fun a b c h1 h2=>by
  rw [ltID] at *; simp at *; omega) (fun a b=>by rw [ltID,ltID]; simp; omega) l
 exact h.imp fun {a b} hab=>by rw [ltID] at hab; simp at hab; omega
def zqc (l:List V3):Option (List V3):=chk (l.length≤1000000) >>= fun _=>some (zsy l)
theorem z148 (p0:Value) (c0:List V3):z1u Tryz.prog 78 [.val p0,.val (.func (.func 105) #[] #[])] [(1,some (p0,.list (z3j 32 u8R) 62 c0))] (zqc c0) (fun r nv=>⟨[],[(1,some (p0,.list (z3j 32 u8R) 62 r))]⟩):=by
 refine zw6 zsy zll (fun cap w=>?_) (fun blk cap d w hH hb hs=>?_) p0 c0
 ·
  exact AnyF.slices_SortFunc_none z13e none cap _ w
 ·
  have eg:∀ args w,(callFunc 105 args).run Tryz.prog w=.ok (.enter 105 args) w:=enters_of Tryz.func105 (by kernel_rfl) rfl
  exact AnyQ.slices_SortFunc_total z13e 32 Tryz.isAgg62 Tryz.sizeOf62 z9u zgu (fun x v hv=>by
   unfold z9u at hv
   obtain ⟨c,_,rfl⟩:=List.mem_map.1 hv
   rfl) cfID z19d 105 #[] blk 0 cap d w eg (fun m os dk _ x y=>zxw x y _) hH hb hs (fun x y h1 h2=>by
   rw [ltID] at h1 h2
   simp at h1 h2
   exact zkx (by omega))
theorem zt5 (p0:Value) (c0:List V3):z1u Tryz.prog 78 [.val p0,.val (.func (.func 79) #[] #[])] [(1,some (p0,.list (z3j 32 u8R) 62 c0))] (zqc c0) (fun r nv=>⟨[],[(1,some (p0,.list (z3j 32 u8R) 62 r))]⟩):=by
 refine zw6 zsy zll (fun cap w=>?_) (fun blk cap d w hH hb hs=>?_) p0 c0
 ·
  exact AnyF.slices_SortFunc_none z13e none cap _ w
 ·
  have eg:∀ args w,(callFunc 79 args).run Tryz.prog w=.ok (.enter 79 args) w:=enters_of Tryz.func79 (by kernel_rfl) rfl
  exact AnyQ.slices_SortFunc_total z13e 32 Tryz.isAgg62 Tryz.sizeOf62 z9u zgu (fun x v hv=>by
   unfold z9u at hv
   obtain ⟨c,_,rfl⟩:=List.mem_map.1 hv
   rfl) cfID z19d 79 #[] blk 0 cap d w eg (fun m os dk _ x y=>zvd x y _) hH hb hs (fun x y h1 h2=>by
   rw [ltID] at h1 h2
   simp at h1 h2
   exact zkx (by omega))
end
section
open Go Go.RowKit
section
variable {ρ:Type} {C:World→World→Prop} {P:Program} {Γ:Ctx} {l:z27} {res:Res} {d:Tmp} {ty:TypeId} {pos:String} {after:Array Edge} {g:Option (Nat × Bool)}
def z1a1 (b c:List UInt8):Bool:=Op.bytesLess b c
end
end
section
open Go Go.RowKit
set_option maxRecDepth 100000
def z41 (a1:List (List V3)) (s6:Int):Option (Sum (Sum Int Unit) Int) :=
 if decide (s6<(a1.length:Int)) then
  idx a1 s6 >>= fun x8 =>
  if decide (60<(x8.length:Int)) then
   some (.inl (.inl 4))
  else
   some (.inr (w64 (s6+1)))
 else
  some (.inl (.inr ()))
def zcf (a0:z00) (a1:List (List V3)):Option (Int) :=
 z11 a0 >>= fun r2 =>
 if r2 != 0 then
  some r2
 else
  z5g (iter (z41 a1) 0) fun s5 =>
  some 0
theorem zjy (a0:z00) (a1:List (List V3)):z1u Tryz.prog 43 [.rd z01 a0,.rd (z02 (z02 aZ)) a1] [zG1] (zcf a0 a1) (fun r nv=>⟨[.rd z0e r],[(1001,some (.bool true,.glob 1 (z3j 64 z0p) z65))]⟩):=by
 refine z2d 23 Tryz.func43 Z Z Z fun H w=>?_
 refine gSR<|Eb Z (bx 1 Z) fun v1=>Zb Z<|z0s<|gSR<|Zq (ld 1 Z Z fH z3v Z)<|Zc [1001] [] Tryz.func74 Z (zar _) fun r2 n3=>Zb Z<|gSR<|Zm Z<|Zq (I.neq Z Z)<|Zj Z (fun h4=>?_) (fun h4=>?_)
 ·
  refine gSR<|Zm Z<|Zb Z<|z0k<|z0w<|Ze [] [1001] Z
 ·
  refine Zt<|z8c (fun (s5:Unit) aa ww=>Sta (ctx 23 H [zG1] w) [] [zG1] aa ww) ?_ (fun s5=>?_)
  ·
   refine gSR<|Zm Z<|Zq (z3g Z .rd Z Tryz.underlying110)<|Zm Z<|Zn<|z26 (fun (s6:Int) aa ww=>Sta (ctx 23 H [zG1] w) [(13,.rd (z02 (z02 aZ)) a1),(14,.rd z0e (a1.length:Int)),(15,.rd z0e s6)] [zG1] aa ww) (fun aa ww h=>Zu h [1001]) (fun s6=>?_)
   refine gSR<|Zq (I.lss Z Z)<|Zn<|z0s<|gIf Z Z (fun h7=>?_) (fun h7=>?_)
   ·
    refine Zt<|z0s<|z4y<|gSR<|z0n fun x8 h9=>Zq (ixR Z Z h9 Tryz.underlying110 z6e Z)<|Zq (ldR Z z8j)<|Zb Z<|gSR<|Zm Z<|Zq (z3g Z .rd Z tu22)<|Zq (I.gtr Z Z)<|Zj Z (fun h10=>?_) (fun h10=>?_)
    ·
     refine gSR<|Zb Z<|z0k<|z42<|z0w<|z7g<|z7a<|Ze [] [1001] Z
    ·
     refine z2m<|z35<|z0o<|z2e<|Zq (I.add Z Z)<|Zm Z<|z1q<|z1k (fun aa ww h=>Zu h [1001])
   ·
    refine z1s<|z0x<|z0y<|z79 (fun aa ww h=>Zu h [1001])
  ·
   refine gSR<|Zb Z<|z0k<|Ze [] [1001] Z
def z3a (a0:List V3) (a1:V3) (s3:Int):Option (Sum (Sum Int Unit) Int) :=
 if decide (s3<(a0.length:Int)) then
  idx a0 s3 >>= fun x5 =>
  if decide (a1=x5) then
   some (.inl (.inl s3))
  else
   some (.inr (w64 (s3+1)))
 else
  some (.inl (.inr ()))
def z7l (a0:List V3) (a1:V3):Option (Int) :=
 z5g (iter (z3a a0 a1) 0) fun s2 =>
 some (-1)
theorem zee (a0:List V3) (a1:V3):z1u Tryz.prog 115 [.rd (z02 aZ) a0,.rd aZ a1] [] (z7l a0 a1) (fun r nv=>⟨[.rd z0e r],[]⟩):=by
 refine z2d 19 Tryz.func115 Z Z Z fun H w=>?_
 refine gSR<|Eb Z (bx 1 Z) fun v1=>Zb Z<|z8c (fun (s2:Unit) aa ww=>Sta (ctx 19 H [] w) [] [] aa ww) ?_ (fun s2=>?_)
 ·
  refine gSR<|Zm Z<|Zq (z3g Z .rd Z tu22)<|Zm Z<|Zn<|z26 (fun (s3:Int) aa ww=>Sta (ctx 19 H [] w) [(0,.rd (z02 aZ) a0),(3,.val (z06 v1 0)),(7,.rd z0e (a0.length:Int)),(8,.rd z0e s3)] [(1,some (v1,.box 62 [.rd aZ a1]))] aa ww) (fun aa ww h=>Zu h [1]) (fun s3=>?_)
  refine gSR<|Zq (I.lss Z Z)<|Zn<|z0s<|gIf Z Z (fun h4=>?_) (fun h4=>?_)
  ·
   refine Zt<|z0s<|z4y<|gSR<|Zm Z<|Zb Z<|z0s<|zjf mixed (by kernel_rfl)<|Rq Z (ld 1 Z Z fH z43 Z)<|Rq Z (mv Z)<|Rq Z (mv Z)<|z9a fun x5 h6=>Rq Z (ixR Z Z h6 tu22 z2b Z)<|Rq Z (ldR Z z43)<|Rq Z (eqA Z Z eq62 Z Z gq62)<|zug<|z0o<|gIf Z Z (fun h7=>?_) (fun h7=>?_)
   ·
    refine gSR<|Zm Z<|Zb Z<|z0k<|z42<|z0w<|z7g<|z7a<|Ze [] [] Z
   ·
    refine z2m<|z35<|z0o<|z2e<|Zq (I.add Z Z)<|Zm Z<|z1q<|z1k (fun aa ww h=>Zu h [1])
  ·
   refine z1s<|z0x<|z0y<|z79 (fun aa ww h=>Zu h [])
 ·
  refine gSR<|Zb Z<|z0k<|Ze [] [] Z
def z1o (a0:List V3) (a1:V3):Option (Bool) :=
 z7l a0 a1 >>= fun r2 =>
 some (decide (0≤r2)) >>= fun y4 =>
 some y4
theorem z2q (a0:List V3) (a1:V3):z1u Tryz.prog 77 [.rd (z02 aZ) a0,.rd aZ a1] [] (z1o a0 a1) (fun r nv=>⟨[.rd z0j r],[]⟩):=by
 refine z2d 9 Tryz.func77 Z Z Z fun H w=>?_
 refine gSR<|Eb Z (bx 1 Z) fun v1=>Zb Z<|gSR<|Zm Z<|Zq (ld 1 Z Z fH z43 Z)<|Zc [] [] Tryz.func115 Z (zee _ _) fun r2 n3=>Zq (I.geq Z Z)<|Za Z<|z1t 4 Z fun y4=>Zn<|z0k<|Ze [] [] Z
def zbg (a0:V3) (c1_0:z00):Option (Bool) :=
 z1o c1_0.IDs a0 >>= fun r2 =>
 some r2
theorem zho (a0:V3) (p1_0:Value) (c1_0:z00):z1u Tryz.prog 76 [.rd aZ a0,.val (z06 p1_0 0)] [(1,some (p1_0,.box 25 [.rd z01 c1_0]))] (zbg a0 c1_0) (fun r nv=>⟨[.rd z0j r],[(1,some (p1_0,.box 25 [.rd z01 c1_0]))]⟩):=by
 refine z2d 8 Tryz.func76 Z Z Z fun H w=>?_
 refine gSR<|Eb Z (bx 2 Z) fun v1=>Zb Z<|gSR<|Zq (faB 1 Z Z Tryz.underlying25 Z (by exact z6e))<|Zq (ld 1 Z Z (fP (z0a _)) z8j Z)<|Zq (ld 2 Z Z fH z43 Z)<|Zc [] [] Tryz.func77 Z (z2q _ _) fun r2 n3=>Zb Z<|z0k<|Ze [] [1] Z
def z75 (a0:List V3) (c1_0:z00) (s2:Int):Option (Sum (Sum Int Unit) Int) :=
 if decide (s2<(a0.length:Int)) then
  idx a0 s2 >>= fun x4 =>
  zbg x4 c1_0 >>= fun r6 =>
  if r6 then
   some (.inl (.inl s2))
  else
   some (.inr (w64 (s2+1)))
 else
  some (.inl (.inr ()))
def z40 (a0:List V3) (c1_0:z00):Option (Int) :=
 z5g (iter (z75 a0 c1_0) 0) fun s1 =>
 some (-1)
theorem z7b (a0:List V3) (q0:Value) (l0:List V3) (p1_0:Value) (c1_0:z00):z1u Tryz.prog 114 [.vw aZ q0 l0 a0,.val (.func (.func 76) #[] #[z06 p1_0 0])] [(1,some (q0,.list aZ 62 l0)),(2,some (p1_0,.box 25 [.rd z01 c1_0]))] (z40 a0 c1_0) (fun r nv=>⟨[.rd z0e r],[(1,some (q0,.list aZ 62 l0)),(2,some (p1_0,.box 25 [.rd z01 c1_0]))]⟩):=by
 refine z2d 19 Tryz.func114 Z Z Z fun H w=>?_
 refine gSR<|Zb Z<|z8c (fun (s1:Unit) aa ww=>Sta (ctx 19 H [(1,some (q0,.list aZ 62 l0)),(2,some (p1_0,.box 25 [.rd z01 c1_0]))] w) [] [(1,some (q0,.list aZ 62 l0)),(2,some (p1_0,.box 25 [.rd z01 c1_0]))] aa ww) ?_ (fun s1=>?_)
 ·
  refine gSR<|Zm Z<|Zq (z3g Z (.vw 1 Z) Z tu22)<|Zm Z<|Zn<|z26 (fun (s2:Int) aa ww=>Sta (ctx 19 H [(1,some (q0,.list aZ 62 l0)),(2,some (p1_0,.box 25 [.rd z01 c1_0]))] w) [(0,.vw aZ q0 l0 a0),(1,.val (.func (.func 76) #[] #[z06 p1_0 0])),(7,.rd z0e (a0.length:Int)),(8,.rd z0e s2)] [(1,some (q0,.list aZ 62 l0)),(2,some (p1_0,.box 25 [.rd z01 c1_0]))] aa ww) (fun aa ww h=>Zu h [1,2]) (fun s2=>?_)
  refine gSR<|Zq (I.lss Z Z)<|Zn<|z0s<|gIf Z Z (fun h3=>?_) (fun h3=>?_)
  ·
   refine Zt<|z0s<|z4y<|gSR<|Zm Z<|Zb Z<|gSR<|Zm Z<|Zm Z<|Zm Z<|z0n fun x4 h5=>Zq (ixQ 1 Z Z Z h5 tu22 z2b)<|Zq (ldQ 1 Z Z z43 Z)<|zhd [2] [(1,2)] (gd0 Z) Z Z Tryz.func76 Z Z (zho _ _ _) (Y1 Z) (cQ 2 Z<|cN) (y1 Z) fun r6 n7=>Zj Z (fun h8=>?_) (fun h8=>?_)
   ·
    refine gSR<|Zm Z<|Zb Z<|z0k<|z42<|z0w<|z7g<|z7a<|Ze [] [1,2] Z
   ·
    refine z2m<|z35<|z0o<|z2e<|Zq (I.add Z Z)<|Zm Z<|z1q<|z1k (fun aa ww h=>Zu h [1,2])
  ·
   refine z1s<|z0x<|z0y<|z79 (fun aa ww h=>Zu h [1,2])
 ·
  refine gSR<|Zb Z<|z0k<|Ze [] [1,2] Z
def z84 (c1_0:z00) (s5:(List V3) × Int × Int):Option (Sum ((List V3) × Int) ((List V3) × Int × Int)) :=
 if decide (s5.2.2<(s5.1.length:Int)) then
  idx s5.1 s5.2.2 >>= fun x7 =>
  zbg x7 c1_0 >>= fun r10 =>
  if !r10 then
   idx s5.1 s5.2.1 >>= fun x13 =>
   some (w64 (s5.2.1+1)) >>= fun y15 =>
   some (w64 (s5.2.2+1)) >>= fun y16 =>
   some (.inr (s5.1.set (s5.2.1:Int).toNat x7,y15,y16))
  else
   some (w64 (s5.2.2+1)) >>= fun y17 =>
   some (.inr (s5.1,s5.2.1,y17))
 else
  some (.inl (s5.1,s5.2.1))
def z1x (c0:List V3) (c1_0:z00):Option ((List V3)) :=
 z40 c0 c1_0 >>= fun r1 =>
 if r1==(-1) then
  some c0
 else
  (iter (z84 c1_0) (c0,r1,w64 (r1+1))) >>= fun s4 =>
  chk (0≤s4.2∧s4.2≤(s4.1.length:Int)∧(s4.1.length:Int)≤(s4.1.length:Int)) >>= fun u18 =>
  chk ((s4.2:Int).toNat+(((s4.1.length:Int):Int).toNat - (s4.2:Int).toNat)≤s4.1.length) >>= fun u20 =>
  cut (clr s4.1 ((s4.2:Int).toNat) (((s4.1.length:Int):Int).toNat - (s4.2:Int).toNat) (Vector.replicate 32 0)) 0 s4.2 >>= fun x22 =>
  some x22
theorem z7z (p0:Value) (c0:List V3) (p1_0:Value) (c1_0:z00):z1u Tryz.prog 75 [.val p0,.val (.func (.func 76) #[] #[z06 p1_0 0])] [(1,some (p0,.list aZ 62 c0)),(2,some (p1_0,.box 25 [.rd z01 c1_0]))] (z1x c0 c1_0) (fun r nv=>⟨[.val (nv 0)],[(2,some (p1_0,.box 25 [.rd z01 c1_0])),(100,some (nv 0,.list aZ 62 r))]⟩):=by
 refine z2d 42 Tryz.func75 Z Z Z fun H w=>?_
 refine gSR<|Zb Z<|gSR<|Zm Z<|Zm Z<|call [1,2] [(1,1),(2,2)] Z Tryz.func114 Z Z (z7b _ _ _ _ _) (aW Z<|aQ Z<|aN) (Zi Z<|Zi Z<|rN) fun r1 n2=>Zb Z<|z0s<|gSR<|Zm Z<|Zq (I.eql Z Z)<|Zj Z (fun h3=>?_) (fun h3=>?_)
 ·
  refine gSR<|Zm Z<|Zb Z<|z0k<|z0w<|Ze [p0] [2,1] Z
 ·
  refine Zt<|z8n (fun (s4:(List V3) × Int) aa ww=>Sta (ctx 42 H [(1,some (p0,.list aZ 62 c0)),(2,some (p1_0,.box 25 [.rd z01 c1_0]))] w) [(0,.val p0),(5,.rd z0e s4.2)] [(1,some (p0,.list aZ 62 s4.1)),(2,some (p1_0,.box 25 [.rd z01 c1_0]))] aa ww) ?_ (fun s4=>?_)
  ·
   refine gSR<|Zm Z<|Zq (I.add Z Z)<|Zb Z<|z26 (fun (s5:(List V3) × Int × Int) aa ww=>Sta (ctx 42 H [(1,some (p0,.list aZ 62 c0)),(2,some (p1_0,.box 25 [.rd z01 c1_0]))] w) [(0,.val p0),(1,.val (.func (.func 76) #[] #[z06 p1_0 0])),(5,.rd z0e s5.2.1),(6,.rd z0e s5.2.2)] [(1,some (p0,.list aZ 62 s5.1)),(2,some (p1_0,.box 25 [.rd z01 c1_0]))] aa ww) (fun aa ww h=>Zu h [1,2]) (fun s5=>?_)
   refine z0s<|gSR<|Zm Z<|Zm Z<|Zq (z3g Z (.own 1 Z) Z tu22)<|Zq (I.lss Z Z)<|Zj Z (fun h6=>?_) (fun h6=>?_)
   ·
    refine Zt<|z0s<|z4y<|gSR<|Zm Z<|Zm Z<|z0n fun x7 h8=>Zq (ixO 1 Z Z Z h8 tu22 z2b)<|Zq (ld 1 Z Z (Foc.el h8) z43 Z)<|Eb Z (z56 3 z2b (.zr (R:=aZ) (x:=(Vector.replicate 32 0)) zgg)) fun v9=>Es (sto 3 Z Z fH Z z2b)<|Zn<|gSR<|Zm Z<|Zq (ld 3 Z Z fH z43 Z)<|zhd [2] [(1,2)] (gd0 Z) Z Z Tryz.func76 Z Z (zho _ _ _) (Y1 Z) (cQ 2 Z<|cN) (y1 Z) fun r10 n11=>Zq (zfl Z)<|Zj Z (fun h12=>?_) (fun h12=>?_)
    ·
     refine gSR<|Zm Z<|Zm Z<|Zq (ld 3 Z Z fH z43 Z)<|z0n fun x13 h14=>Zq (ixO 1 Z Z Z h14 tu22 z2b)<|Es (sto 1 Z Z (Foc.el h14) Z z2b)<|Zn<|z2e<|Zm Z<|Zq (I.add Z Z)<|Za Z<|z1t 5 Z fun y15=>z1q<|z35<|z0o<|z2e<|Zm Z<|Zq (I.add Z Z)<|Za Z<|z1t 6 Z fun y16=>z1q<|z1k (fun aa ww h=>Zu h [1,2])
    ·
     refine z2m<|z35<|z0o<|z2e<|Zm Z<|Zq (I.add Z Z)<|Za Z<|z1t 6 Z fun y17=>z1q<|z1k (fun aa ww h=>Zu h [1,2])
   ·
    refine z1s<|z0x<|z0y<|z3n (fun aa ww h=>Zu h [1,2])
  ·
   refine gSR<|Zm Z<|Zm Z<|z0n fun u18 h19=>Zq (zyy 1 Z Z (.to Z) .no (z4i h19) tu22 z2b)<|z0n fun u20 h21=>EsV (clrS 1 Z Z (z4i h21) Z tu22 z2b zgg Z)<|Zn<|gSR<|Zm Z<|Zm Z<|z0n fun x22 h23=>Ef Z (cutO 1 Z Z Z h23 tu22 z2b) fun v24=>Zb Z<|z0k<|Ze [v24] [2,1] Z
def zdh (a0:z00) (a1:List V3):Option ((List V3)) :=
 z0u a1 >>= fun r2 =>
 z1x r2 a0 >>= fun r4 =>
 zqc r4 >>= fun r6 =>
 z12 r6 >>= fun r8 =>
 some r8
theorem zjt (a0:z00) (a1:List V3):z1u Tryz.prog 44 [.rd z01 a0,.rd (z02 aZ) a1] [] (zdh a0 a1) (fun r nv=>⟨[.val (nv 0)],[(100,some (nv 0,.list aZ 62 r))]⟩):=by
 refine z2d 14 Tryz.func44 Z Z Z fun H w=>?_
 refine gSR<|Eb Z (bx 1 Z) fun v1=>Zb Z<|gSR<|Zm Z<|Zc [] [(100,2)] Tryz.func46 Z (z1n _) fun r2 n3=>Zq (mkf mp0 (mp1 Z))<|Zc [2,1] [(100,3),(2,1)] Tryz.func75 Z (z7z _ _ _ _) fun r4 n5=>Zb Z<|gSR<|Zm Z<|Zc [3] [(1,3)] Tryz.func78 Z (zt5 _ _) fun r6 n7=>Zn<|gSR<|Zm Z<|Zc [3] [(100,4)] Tryz.func80 Z (z2u _ _) fun r8 n9=>Zb Z<|z0k<|Ze [(n9 0)] [4] Z
def zfa (a0:z00) (a1:List V3):Option ((List V3) × Int) :=
 zcf a0 [a1] >>= fun r3 =>
 if r3 != 0 then
  some ([],r3)
 else
  zdh a0 a1 >>= fun r6 =>
  some (r6,0)
theorem zqe (a0:z00) (a1:List V3):z1u Tryz.prog 12 [.rd z01 a0,.rd (z02 aZ) a1] [zG1] (zfa a0 a1) (fun r nv=>⟨[.val (nv 0),.rd z0e r.2],[(1001,some (.bool true,.glob 1 (z3j 64 z0p) z65)),(100,some (nv 0,.list aZ 62 r.1))]⟩):=by
 refine z2d 17 Tryz.func12 Z Z Z fun H w=>?_
 refine gSR<|Eb Z (bx 1 Z) fun v1=>Za Z<|Zb Z<|z0s<|gSR<|Zq (ld 1 Z Z fH z3v Z)<|Zm Z<|Ef Z (lit (R:=(z02 aZ)) ([a1]:List (List V3)) 2 (pP Z Z<|pN) Z Tryz.underlying110 z6e Z Z) fun v2=>zh0 2 [9] Z (fS Z<|fN)<|Zc [1001] [] Tryz.func43 Z (zjy _ _) fun r3 n4=>Zb Z<|gSR<|Zm Z<|Zq (I.neq Z Z)<|Zj Z (fun h5=>?_) (fun h5=>?_)
 ·
  refine gSR<|Zm Z<|Za Z<|Zb Z<|z0k<|z0w<|zuf aZ 62 3<|Ze [(.slice none 0 0)] [1001,3] Z
 ·
  refine Zt<|gSR<|Zq (ld 1 Z Z fH z3v Z)<|Zm Z<|Zc [] [(100,4)] Tryz.func44 Z (zjt _ _) fun r6 n7=>Za Z<|Zb Z<|z0k<|Ze [(n7 0)] [1001,4] Z
def zcw (a0:z00) (a1:List V3) (a2:List V3):Option (Int) :=
 z0b a0 >>= fun r2 =>
 if r2 != 0 then
  some r2
 else
  if decide (60<(a1.length:Int)) then
   some 4
  else
   if decide (60<(a2.length:Int)) then
    some 4
   else
    some 0
def z9q (a0:List V3) (a1:V3) (s3:Int):Option (Sum (Sum Bool Unit) Int) :=
 if decide (s3<(a0.length:Int)) then
  idx a0 s3 >>= fun x5 =>
  if decide (x5=a1) then
   some (.inl (.inl true))
  else
   some (.inr (w64 (s3+1)))
 else
  some (.inl (.inr ()))
def z9e (a0:List V3) (a1:V3):Option (Bool) :=
 z5g (iter (z9q a0 a1) 0) fun s2 =>
 some false
def zdp (a0:V3) (a1:V3):Option (Bool) :=
 some (z1a1 a0.toList a1.toList) >>= fun y3 =>
 some y3
def z8r (a0:List V3) (a1:V3) (s3:Int):Option (Sum Int Int) :=
 if decide (s3<(a0.length:Int)) then
  idx a0 s3 >>= fun x5 =>
  zdp x5 a1 >>= fun r7 =>
  if r7 then
   some (.inr (w64 (s3+1)))
  else
   some (.inl s3)
 else
  some (.inl s3)
def zbw (a0:List V3) (a1:V3):Option ((List V3)) :=
 (iter (z8r a0 a1) 0) >>= fun s2 =>
 z5g (if decide (s2<(a0.length:Int)) then
  idx a0 s2 >>= fun x12 =>
  if decide (x12=a1) then
   some (.inl a0)
  else
   some (.inr ())
 else
  some (.inr ())) fun s10 =>
 cut a0 0 s2 >>= fun x15 =>
 app 32 ([]:List V3) x15 >>= fun x17 =>
 app 32 x17 [a1] >>= fun x19 =>
 cut a0 s2 (a0.length:Int) >>= fun x21 =>
 app 32 x19 x21 >>= fun x23 =>
 some x23
def z51 (a0:z00) (a1:List V3) (s6:(List V3) × Int):Option (Sum ((List V3)) ((List V3) × Int)) :=
 if decide (s6.2<(a1.length:Int)) then
  idx a1 s6.2 >>= fun x8 =>
  z9e a0.IDs x8 >>= fun r10 =>
  if !r10 then
   idx a1 s6.2 >>= fun x13 =>
   zbw s6.1 x13 >>= fun r15 =>
   some (w64 (s6.2+1)) >>= fun y17 =>
   some (.inr (r15,y17))
  else
   some (w64 (s6.2+1)) >>= fun y18 =>
   some (.inr (s6.1,y18))
 else
  some (.inl s6.1)
def zhr (a0:z00) (a1:List V3):Option ((List V3) × Int) :=
 zcw a0 a1 [] >>= fun r2 =>
 if r2 != 0 then
  some ([],r2)
 else
  (iter (z51 a0 a1) ([],0)) >>= fun s5 =>
  some (s5,0)
def z85 (a0:V3) (c1_0:List (V3 × Int)):Option (Bool) :=
 some ((zkj c1_0 a0).getD 0) >>= fun y2 =>
 some ((zkj c1_0 a0).isSome) >>= fun y3 =>
 some y3
theorem ze5 (a0:V3) (p1_0:Value) (q1_0:Value) (c1_0:List (V3 × Int)):z1u Tryz.prog 165 [.rd aZ a0,.val (z06 p1_0 0)] [(1,some (p1_0,.box 156 [.val q1_0])),(2,some (q1_0,.map aZ z0e c1_0))] (z85 a0 c1_0) (fun r nv=>⟨[.rd z0j r],[(1,some (p1_0,.box 156 [.val q1_0])),(2,some (q1_0,.map aZ z0e c1_0))]⟩):=by
 refine z2d 13 Tryz.func165 Z Z Z fun H w=>?_
 refine gSR<|Eb Z (bx 3 Z) fun v1=>Zb Z<|gSR<|Zq (ldV 1 Z Z .here z185 Z)<|Zq (ld 3 Z Z fH z43 Z)<|Zq (mlk2 Z (.own 2 Z Z) Z ky62 Tryz.underlying156 ti3 (Zr.num Z) Z)<|Zm Z<|Zq (ext Z Z)<|Zq (ext Z Z)<|Za Z<|z1t 4 Z fun y2=>Za Z<|z1t 5 Z fun y3=>Zn<|gSR<|Zm Z<|Zb Z<|z0k<|Ze [] [1,2] Z
def z5r (a0:List V3) (c1_0:List (V3 × Int)) (s2:Int):Option (Sum (Sum Int Unit) Int) :=
 if decide (s2<(a0.length:Int)) then
  idx a0 s2 >>= fun x4 =>
  z85 x4 c1_0 >>= fun r6 =>
  if r6 then
   some (.inl (.inl s2))
  else
   some (.inr (w64 (s2+1)))
 else
  some (.inl (.inr ()))
def z3m (a0:List V3) (c1_0:List (V3 × Int)):Option (Int) :=
 z5g (iter (z5r a0 c1_0) 0) fun s1 =>
 some (-1)
theorem z5t (a0:List V3) (q0:Value) (l0:List V3) (p1_0:Value) (q1_0:Value) (c1_0:List (V3 × Int)):z1u Tryz.prog 114 [.vw aZ q0 l0 a0,.val (.func (.func 165) #[] #[z06 p1_0 0])] [(1,some (q0,.list aZ 62 l0)),(2,some (p1_0,.box 156 [.val q1_0])),(3,some (q1_0,.map aZ z0e c1_0))] (z3m a0 c1_0) (fun r nv=>⟨[.rd z0e r],[(1,some (q0,.list aZ 62 l0)),(2,some (p1_0,.box 156 [.val q1_0])),(3,some (q1_0,.map aZ z0e c1_0))]⟩):=by
 refine z2d 19 Tryz.func114 Z Z Z fun H w=>?_
 refine gSR<|Zb Z<|z8c (fun (s1:Unit) aa ww=>Sta (ctx 19 H [(1,some (q0,.list aZ 62 l0)),(2,some (p1_0,.box 156 [.val q1_0])),(3,some (q1_0,.map aZ z0e c1_0))] w) [] [(1,some (q0,.list aZ 62 l0)),(3,some (q1_0,.map aZ z0e c1_0)),(2,some (p1_0,.box 156 [.val q1_0]))] aa ww) ?_ (fun s1=>?_)
 ·
  refine gSR<|Zm Z<|Zq (z3g Z (.vw 1 Z) Z tu22)<|Zm Z<|Zn<|z26 (fun (s2:Int) aa ww=>Sta (ctx 19 H [(1,some (q0,.list aZ 62 l0)),(2,some (p1_0,.box 156 [.val q1_0])),(3,some (q1_0,.map aZ z0e c1_0))] w) [(0,.vw aZ q0 l0 a0),(1,.val (.func (.func 165) #[] #[z06 p1_0 0])),(7,.rd z0e (a0.length:Int)),(8,.rd z0e s2)] [(1,some (q0,.list aZ 62 l0)),(3,some (q1_0,.map aZ z0e c1_0)),(2,some (p1_0,.box 156 [.val q1_0]))] aa ww) (fun aa ww h=>Zu h [1,3,2]) (fun s2=>?_)
  refine gSR<|Zq (I.lss Z Z)<|Zn<|z0s<|gIf Z Z (fun h3=>?_) (fun h3=>?_)
  ·
   refine Zt<|z0s<|z4y<|gSR<|Zm Z<|Zb Z<|gSR<|Zm Z<|Zm Z<|Zm Z<|z0n fun x4 h5=>Zq (ixQ 1 Z Z Z h5 tu22 z2b)<|Zq (ldQ 1 Z Z z43 Z)<|zhd [2,3] [(1,2),(2,3)] (gd0 Z) Z Z Tryz.func165 Z Z (ze5 _ _ _ _) (Y1 Z) (cQ 2 Z<|cN) (Zi Z<|Zi Z<|rN) fun r6 n7=>Zj Z (fun h8=>?_) (fun h8=>?_)
   ·
    refine gSR<|Zm Z<|Zb Z<|z0k<|z42<|z0w<|z7g<|z7a<|Ze [] [1,2,3] Z
   ·
    refine z2m<|z35<|z0o<|z2e<|Zq (I.add Z Z)<|Zm Z<|z1q<|z1k (fun aa ww h=>Zu h [1,3,2])
  ·
   refine z1s<|z0x<|z0y<|z79 (fun aa ww h=>Zu h [1,3,2])
 ·
  refine gSR<|Zb Z<|z0k<|Ze [] [1,2,3] Z
def z6a (c1_0:List (V3 × Int)) (s5:(List V3) × Int × Int):Option (Sum ((List V3) × Int) ((List V3) × Int × Int)) :=
 if decide (s5.2.2<(s5.1.length:Int)) then
  idx s5.1 s5.2.2 >>= fun x7 =>
  z85 x7 c1_0 >>= fun r10 =>
  if !r10 then
   idx s5.1 s5.2.1 >>= fun x13 =>
   some (w64 (s5.2.1+1)) >>= fun y15 =>
   some (w64 (s5.2.2+1)) >>= fun y16 =>
   some (.inr (s5.1.set (s5.2.1:Int).toNat x7,y15,y16))
  else
   some (w64 (s5.2.2+1)) >>= fun y17 =>
   some (.inr (s5.1,s5.2.1,y17))
 else
  some (.inl (s5.1,s5.2.1))
def z1m (c0:List V3) (c1_0:List (V3 × Int)):Option ((List V3)) :=
 z3m c0 c1_0 >>= fun r1 =>
 if r1==(-1) then
  some c0
 else
  (iter (z6a c1_0) (c0,r1,w64 (r1+1))) >>= fun s4 =>
  chk (0≤s4.2∧s4.2≤(s4.1.length:Int)∧(s4.1.length:Int)≤(s4.1.length:Int)) >>= fun u18 =>
  chk ((s4.2:Int).toNat+(((s4.1.length:Int):Int).toNat - (s4.2:Int).toNat)≤s4.1.length) >>= fun u20 =>
  cut (clr s4.1 ((s4.2:Int).toNat) (((s4.1.length:Int):Int).toNat - (s4.2:Int).toNat) (Vector.replicate 32 0)) 0 s4.2 >>= fun x22 =>
  some x22
theorem z6c (p0:Value) (c0:List V3) (p1_0:Value) (q1_0:Value) (c1_0:List (V3 × Int)):z1u Tryz.prog 75 [.val p0,.val (.func (.func 165) #[] #[z06 p1_0 0])] [(1,some (p0,.list aZ 62 c0)),(2,some (p1_0,.box 156 [.val q1_0])),(3,some (q1_0,.map aZ z0e c1_0))] (z1m c0 c1_0) (fun r nv=>⟨[.val (nv 0)],[(2,some (p1_0,.box 156 [.val q1_0])),(3,some (q1_0,.map aZ z0e c1_0)),(100,some (nv 0,.list aZ 62 r))]⟩):=by
 refine z2d 42 Tryz.func75 Z Z Z fun H w=>?_
 refine gSR<|Zb Z<|gSR<|Zm Z<|Zm Z<|call [1,2,3] [(1,1),(2,2),(3,3)] Z Tryz.func114 Z Z (z5t _ _ _ _ _ _) (aW Z<|aQ Z<|aN) (Zi Z<|Zi Z<|Zi Z<|rN) fun r1 n2=>Zb Z<|z0s<|gSR<|Zm Z<|Zq (I.eql Z Z)<|Zj Z (fun h3=>?_) (fun h3=>?_)
 ·
  refine gSR<|Zm Z<|Zb Z<|z0k<|z0w<|Ze [p0] [2,3,1] Z
 ·
  refine Zt<|z8n (fun (s4:(List V3) × Int) aa ww=>Sta (ctx 42 H [(1,some (p0,.list aZ 62 c0)),(2,some (p1_0,.box 156 [.val q1_0])),(3,some (q1_0,.map aZ z0e c1_0))] w) [(0,.val p0),(5,.rd z0e s4.2)] [(1,some (p0,.list aZ 62 s4.1)),(3,some (q1_0,.map aZ z0e c1_0)),(2,some (p1_0,.box 156 [.val q1_0]))] aa ww) ?_ (fun s4=>?_)
  ·
   refine gSR<|Zm Z<|Zq (I.add Z Z)<|Zb Z<|z26 (fun (s5:(List V3) × Int × Int) aa ww=>Sta (ctx 42 H [(1,some (p0,.list aZ 62 c0)),(2,some (p1_0,.box 156 [.val q1_0])),(3,some (q1_0,.map aZ z0e c1_0))] w) [(0,.val p0),(1,.val (.func (.func 165) #[] #[z06 p1_0 0])),(5,.rd z0e s5.2.1),(6,.rd z0e s5.2.2)] [(1,some (p0,.list aZ 62 s5.1)),(3,some (q1_0,.map aZ z0e c1_0)),(2,some (p1_0,.box 156 [.val q1_0]))] aa ww) (fun aa ww h=>Zu h [1,3,2]) (fun s5=>?_)
   refine z0s<|gSR<|Zm Z<|Zm Z<|Zq (z3g Z (.own 1 Z) Z tu22)<|Zq (I.lss Z Z)<|Zj Z (fun h6=>?_) (fun h6=>?_)
   ·
    refine Zt<|z0s<|z4y<|gSR<|Zm Z<|Zm Z<|z0n fun x7 h8=>Zq (ixO 1 Z Z Z h8 tu22 z2b)<|Zq (ld 1 Z Z (Foc.el h8) z43 Z)<|Eb Z (z56 4 z2b (.zr (R:=aZ) (x:=(Vector.replicate 32 0)) zgg)) fun v9=>Es (sto 4 Z Z fH Z z2b)<|Zn<|gSR<|Zm Z<|Zq (ld 4 Z Z fH z43 Z)<|zhd [2,3] [(1,2),(2,3)] (gd0 Z) Z Z Tryz.func165 Z Z (ze5 _ _ _ _) (Y1 Z) (cQ 2 Z<|cN) (Zi Z<|Zi Z<|rN) fun r10 n11=>Zq (zfl Z)<|Zj Z (fun h12=>?_) (fun h12=>?_)
    ·
     refine gSR<|Zm Z<|Zm Z<|Zq (ld 4 Z Z fH z43 Z)<|z0n fun x13 h14=>Zq (ixO 1 Z Z Z h14 tu22 z2b)<|Es (sto 1 Z Z (Foc.el h14) Z z2b)<|Zn<|z2e<|Zm Z<|Zq (I.add Z Z)<|Za Z<|z1t 5 Z fun y15=>z1q<|z35<|z0o<|z2e<|Zm Z<|Zq (I.add Z Z)<|Za Z<|z1t 6 Z fun y16=>z1q<|z1k (fun aa ww h=>Zu h [1,3,2])
    ·
     refine z2m<|z35<|z0o<|z2e<|Zm Z<|Zq (I.add Z Z)<|Za Z<|z1t 6 Z fun y17=>z1q<|z1k (fun aa ww h=>Zu h [1,3,2])
   ·
    refine z1s<|z0x<|z0y<|z3n (fun aa ww h=>Zu h [1,3,2])
  ·
   refine gSR<|Zm Z<|Zm Z<|z0n fun u18 h19=>Zq (zyy 1 Z Z (.to Z) .no (z4i h19) tu22 z2b)<|z0n fun u20 h21=>EsV (clrS 1 Z Z (z4i h21) Z tu22 z2b zgg Z)<|Zn<|gSR<|Zm Z<|Zm Z<|z0n fun x22 h23=>Ef Z (cutO 1 Z Z Z h23 tu22 z2b) fun v24=>Zb Z<|z0k<|Ze [v24] [2,3,1] Z
def zc8 (a0:z00) (a1:List V3):Option ((List V3) × Int) :=
 z11 a0 >>= fun r2 =>
 if r2 != 0 then
  some ([],r2)
 else
  if decide (60<(a1.length:Int)) then
   some ([],4)
  else
   z4r a0 >>= fun r6 =>
   z0u a1 >>= fun r9 =>
   z1m r9 r6 >>= fun r11 =>
   zqc r11 >>= fun r13 =>
   z12 r13 >>= fun r15 =>
   some (r15,0)
theorem zkl (a0:z00) (a1:List V3):z1u Tryz.prog 119 [.rd z01 a0,.rd (z02 aZ) a1] [zG1] (zc8 a0 a1) (fun r nv=>⟨[.val (nv 0),.rd z0e r.2],[(1001,some (.bool true,.glob 1 (z3j 64 z0p) z65)),(100,some (nv 0,.list aZ 62 r.1))]⟩):=by
 refine z2d 27 Tryz.func119 Z Z Z fun H w=>?_
 refine gSR<|Eb Z (bx 1 Z) fun v1=>Za Z<|Zb Z<|z0s<|gSR<|Zq (ld 1 Z Z fH z3v Z)<|Zc [1001] [] Tryz.func74 Z (zar _) fun r2 n3=>Zb Z<|gSR<|Zm Z<|Zq (I.neq Z Z)<|Zj Z (fun h4=>?_) (fun h4=>?_)
 ·
  refine gSR<|Zm Z<|Za Z<|Zb Z<|z0k<|z0w<|zuf aZ 62 2<|Ze [(.slice none 0 0)] [1001,2] Z
 ·
  refine Zt<|z0s<|gSR<|Zm Z<|Zq (z3g Z .rd Z tu22)<|Zq (I.gtr Z Z)<|Zj Z (fun h5=>?_) (fun h5=>?_)
  ·
   refine gSR<|Za Z<|Zb Z<|z0k<|z0w<|zuf aZ 62 3<|Ze [(.slice none 0 0)] [1001,3] Z
  ·
   refine Zt<|gSR<|Zq (ld 1 Z Z fH z3v Z)<|Zc [] [(100,4)] Tryz.func123 Z (zag _) fun r6 n7=>Eb Z (z56 5 zyp (.val Z)) fun v8=>Es (zpj 5 Z Z (.here z05) Z z0q z05 zyp)<|Zn<|gSR<|Zm Z<|Zc [] [(100,6)] Tryz.func46 Z (z1n _) fun r9 n10=>Zq (mkf mp0 (mp1 Z))<|Zc [6,5,4] [(100,7),(2,5),(3,4)] Tryz.func75 Z (z6c _ _ _ _ _) fun r11 n12=>Zb Z<|gSR<|Zm Z<|Zc [7] [(1,7)] Tryz.func78 Z (z148 _ _) fun r13 n14=>Zn<|gSR<|Zm Z<|Zc [7] [(100,8)] Tryz.func80 Z (z2u _ _) fun r15 n16=>Za Z<|Zb Z<|z0k<|Ze [(n16 0)] [1001,8] Z
def z96 (a0:z00) (r10:(List Bool)) (s12:(List V3) × (List z07) × Int):Option (Sum ((List V3) × (List z07)) ((List V3) × (List z07) × Int)) :=
 if decide (s12.2.2<(r10.length:Int)) then
  idx r10 s12.2.2 >>= fun x15 =>
  if x15 then
   idx a0.Ops s12.2.2 >>= fun x18 =>
   z0u x18.Preds >>= fun r21 =>
   idx a0.IDs s12.2.2 >>= fun x23 =>
   app 32 s12.1 [x23] >>= fun x25 =>
   app 112 s12.2.1 [(⟨x18.Author,r21,x18.Stamp,x18.Act,x18.Sig⟩:z07)] >>= fun x27 =>
   some (.inr (x25,x27,w64 (s12.2.2+1)))
  else
   some (.inr (s12.1,s12.2.1,w64 (s12.2.2+1)))
 else
  some (.inl (s12.1,s12.2.1))
def zdt (a0:z00) (a1:List V3):Option (z00 × Int) :=
 zc8 a0 a1 >>= fun r3 =>
 if r3.2 != 0 then
  some ((⟨[],[]⟩:z00),r3.2)
 else
  some (decide (0<(r3.1.length:Int))) >>= fun y6 =>
  if y6 then
   some ((⟨[],[]⟩:z00),6)
  else
   (zdu a0 a1 >>= fun r10 =>
   iter (z96 a0 r10) ([],[],0)) >>= fun s9 =>
   some ((⟨s9.1,s9.2⟩:z00),0)
set_option maxHeartbeats 4000000 in
theorem zde (a0:z00) (a1:List V3):z1u Tryz.prog 83 [.rd z01 a0,.rd (z02 aZ) a1] [zG1] (zdt a0 a1) (fun r nv=>⟨[.rd z01 r.1,.rd z0e r.2],[(1001,some (.bool true,.glob 1 (z3j 64 z0p) z65))]⟩):=by
 refine z2d 65 Tryz.func83 Z Z Z fun H w=>?_
 refine gSR<|Eb Z (bx 1 Z) fun v1=>Eb Z (z56 2 z4h (ZrE.nilS (ZrE.nilS ZrE.nil))) fun v2=>Zb Z<|gSR<|Zq (ld 1 Z Z fH z3v Z)<|Zm Z<|Zc [1001] [(100,3)] Tryz.func119 Z (zkl _ _) fun r3 n4=>Zm Z<|Zq (ext Z Z)<|Zq (ext Z Z)<|Za Z<|Zb Z<|z0s<|z4y<|gSR<|Zm Z<|Zq (I.neq Z Z)<|Zb Z<|gIf Z Z (fun h5=>?_) (fun h5=>?_)
 ·
  refine gKn 20 Z h5<|gSR<|Zq (zm9 [(0,1),(1,1)] Tryz.underlying25 z4h (ZrE.nilS (ZrE.nilS ZrE.nil)) Z (zgf.done Z))<|Zm Z<|Es (zm7 2 Z Z (z08.cast (z08.cons z05 (z08.cons z05 z08.nil)) Z) Z (z20.cons z0q (z20.cons z0q z20.nil)) (z08.cast (z08.cons z05 (z08.cons z05 z08.nil)) Z) z4h)<|Zb Z<|z0k<|z42<|z0w<|zga aZ [.rd (z02 aZ) [],.val (.slice none 0 0)] 2 [] [.val (.slice none 0 0)] Z Z Z<|zga z03 [.rd (z02 aZ) [],.rd (z02 z03) []] 2 [.rd (z02 aZ) []] [] Z Z Z<|zny (R:=z01) (⟨[],[]⟩:z00) 2 Z (Sp.via (Sp.prod (Sp.prod Sp.unit)))<|zbq [] [1001] Z (eC 2 Z Z z3v<|eE Z<|eN) (y1 Z)
 ·
  refine gKn 20 Z h5<|gSR<|Zm Z<|Zq (z3g Z (.own 3 Z) Z tu22)<|Zq (I.gtr Z Z)<|Za Z<|z1t 23 Z fun y6=>Zj Z (fun h7=>?_) (fun h7=>?_)
  ·
   refine gSR<|Zq (zm9 [(0,1),(1,1)] Tryz.underlying25 z4h (ZrE.nilS (ZrE.nilS ZrE.nil)) Z (zgf.done Z))<|Es (zm7 2 Z Z (z08.cast (z08.cons z05 (z08.cons z05 z08.nil)) Z) Z (z20.cons z0q (z20.cons z0q z20.nil)) (z08.cast (z08.cons z05 (z08.cons z05 z08.nil)) Z) z4h)<|Zb Z<|z0k<|z42<|z0w<|zga aZ [.rd (z02 aZ) [],.val (.slice none 0 0)] 2 [] [.val (.slice none 0 0)] Z Z Z<|zga z03 [.rd (z02 aZ) [],.rd (z02 z03) []] 2 [.rd (z02 aZ) []] [] Z Z Z<|zny (R:=z01) (⟨[],[]⟩:z00) 2 Z (Sp.via (Sp.prod (Sp.prod Sp.unit)))<|zbq [] [1001] Z (eC 2 Z Z z3v<|eE Z<|eN) (y1 Z)
  ·
   refine z2m<|z35<|z0o<|gSR<|Eb Z (z56 4 z4h (ZrE.nilS (ZrE.nilS ZrE.nil))) fun v8=>Zn<|z8n (fun (s9:(List V3) × (List z07)) aa ww=>∃ nv:Nat→Value,Sta (ctx 65 H [zG1] w) [(4,.val (z06 v2 0)),(8,.val (z06 v8 0))] [(2,some (v2,.box 25 [.val (.slice none 0 0),.val (.slice none 0 0)])),(8,some ((nv 0),.list aZ 62 s9.1)),(9,some ((nv 1),.list z03 73 s9.2)),(4,some (v8,.box 25 [.val (nv 0),.val (nv 1)])),zG1] aa ww) ?_ (fun s9=>?_)
   ·
    refine gSR<|Zq (ld 1 Z Z fH z3v Z)<|Zm Z<|Zc [] [(100,1100)] Tryz.func120 Z (zmy _ _) fun r10 n11=>Zq (z3g Z (.own 1100 Z) Z tu152)<|Zm Z<|Zn<|zxu aZ 62 1105<|zxu z03 73 1106<|z26 (fun (s12:(List V3) × (List z07) × Int) aa ww=>∃ nv:Nat→Value,Sta (ctx 65 H [zG1] w) [(2,.val (z06 v1 0)),(4,.val (z06 v2 0)),(8,.val (z06 v8 0)),(30,.val (n11 0)),(31,.rd z0e (r10.length:Int)),(32,.rd z0e s12.2.2)] [(1,some (v1,.box 25 [.rd z01 a0])),(2,some (v2,.box 25 [.val (.slice none 0 0),.val (.slice none 0 0)])),(1103,some ((nv 0),.list aZ 62 s12.1)),(1104,some ((nv 1),.list z03 73 s12.2.1)),(4,some (v8,.box 25 [.val (nv 0),.val (nv 1)])),(1100,some ((n11 0),.list z0j 4 r10)),zG1] aa ww) (fun aa ww h=>⟨nvl [(.slice none 0 0),(.slice none 0 0)],Zu h [1,2,1105,1106,4,1100,1001]⟩) (fun s12=>?_)
    refine gEx fun n13=>gSR<|Zq (I.lss Z Z)<|Zn<|z0s<|gIf Z Z (fun h14=>?_) (fun h14=>?_)
    ·
     refine Zt<|z0s<|z4y<|gSR<|Zm Z<|z0n fun x15 h16=>Zq (ixO 1100 Z Z Z h16 tu152 ti4)<|Zq (ld 1100 Z Z (Foc.el h16) ty4 Z)<|Za Z<|Zb Z<|gSR<|Zm Z<|Zj Z (fun h17=>?_) (fun h17=>?_)
     ·
      refine gKn 36 Z h17<|gKn 10 Z h17<|gSR<|Zq (faB 1 Z Z Tryz.underlying25 Z (by exact zai))<|Zq (ld 1 Z Z (fP (z09 _)) zec Z)<|Zm Z<|z0n fun x18 h19=>Zq (ixR Z Z h19 tu23 z5n Z)<|Zq (ldR Z z9n)<|Eb Z (z56 1107 z5n (ZrE.rd (R:=z0p) (x:=0) (Zr.num Z) (ZrE.nilS (ZrE.rd (R:=z2c) (x:=0) (Zr.num Z) (ZrE.rd (R:=z0f) (x:=(⟨0,[],(⟨0,0,0,[]⟩:z04)⟩:z0h)) zn8 (ZrE.rd (R:=z0g) (x:=(⟨0,0⟩:z0c)) zm6 ZrE.nil Z) Z) Z)) Z)) fun v20=>za6 aZ [.rd z0p 0,.rd (z02 aZ) [],.rd z2c 0,.rd z0f (⟨0,[],(⟨0,0,0,[]⟩:z04)⟩:z0h),.rd z0g (⟨0,0⟩:z0c)] 1107 [.rd z0p 0] [.rd z2c 0,.rd z0f (⟨0,[],(⟨0,0,0,[]⟩:z04)⟩:z0h),.rd z0g (⟨0,0⟩:z0c)] Z Z Z<|zd3 (R:=z03) (⟨0,[],0,(⟨0,[],(⟨0,0,0,[]⟩:z04)⟩:z0h),(⟨0,0⟩:z0c)⟩:z07) 1107 Z (Sp.via (Sp.prod (Sp.prod (Sp.prod (Sp.prod (Sp.prod Sp.unit))))))<|Es (sto 1107 Z Z fH Z z5n)<|Zn<|gSR<|Zq (faB 1107 Z Z Tryz.underlying73 Z (by exact z6e))<|Zq (ld 1107 Z Z (fP (z0z _)) z8j Z)<|Zc [] [(100,1108)] Tryz.func46 Z (z1n _) fun r21 n22=>Zq (faB 1107 Z Z Tryz.underlying73 Z (by exact z6e))<|lSpl (R:=z03) 1107 Z (Sp.via (Sp.prod (Sp.prod (Sp.prod (Sp.prod (Sp.prod Sp.unit))))))<|Es (zpj 1107 Z Z (zao.cast (zao.next z19 (zao.here z19)) Z) Z z0q z05 z6e)<|Zn<|gPow [.rd z0p x18.Author,.rd (z02 aZ) r21,.rd z2c x18.Stamp,.rd z0f x18.Act,.rd z0g x18.Sig] 1107 1108 [.rd z0p x18.Author] [.rd z2c x18.Stamp,.rd z0f x18.Act,.rd z0g x18.Sig] Z Z Z Z Z<|gJoi (R:=z03) (⟨x18.Author,r21,x18.Stamp,x18.Act,x18.Sig⟩:z07) 1107 Z (Sp.via (Sp.prod (Sp.prod (Sp.prod (Sp.prod (Sp.prod Sp.unit))))))<|zsc [(2,.val (z06 v1 0)),(4,.val (z06 v2 0)),(8,.val (z06 v8 0)),(30,.val (n11 0)),(31,.rd z0e (r10.length:Int)),(32,.rd z0e s12.2.2),(9,.rd z0e s12.2.2),(11,.val (z06 v20 0))] [(1,some (v1,.box 25 [.rd z01 a0])),(2,some (v2,.box 25 [.val (.slice none 0 0),.val (.slice none 0 0)])),(1103,some ((n13 0),.list aZ 62 s12.1)),(1104,some ((n13 1),.list z03 73 s12.2.1)),(4,some (v8,.box 25 [.val (n13 0),.val (n13 1)])),(1100,some ((n11 0),.list z0j 4 r10)),zG1,(1107,some (v20,.box 73 [.rd z03 (⟨x18.Author,r21,x18.Stamp,x18.Act,x18.Sig⟩:z07)]))] [1,2,1103,1104,4,1100,1001,1107] (Zs Z Z Z Z<|Zs Z Z Z Z<|sN) (Zi Z<|Zi Z<|Zi Z<|Zi Z<|Zi Z<|Zi Z<|Zi Z<|Zi Z<|rN)<|z4l fun x23 h24=>z4l fun x25 h26=>z4l fun x27 h28=>gOr [] [⟨4,some ([], fun nv=>(v8,.box 25 [.val (n13 0),.val (n13 1)])),[(15,some ([2], fun nv=>(v8,.box 25 [.val (nv 2),.val (n13 1)]))),(17,some ([2,4], fun nv=>(v8,.box 25 [.val (nv 2),.val (nv 4)])))]⟩,⟨1,some ([], fun nv=>(v1,.box 25 [.rd z01 a0])),[]⟩,⟨1109,none,[(7,none)]⟩,⟨1103,some ([], fun nv=>((n13 0),.list aZ 62 s12.1)),[(8,some ([2], fun nv=>((nv 2),.list aZ 62 x25)))]⟩,⟨1107,some ([], fun nv=>(v20,.box 73 [.rd z03 (⟨x18.Author,r21,x18.Stamp,x18.Act,x18.Sig⟩:z07)])),[]⟩,⟨1110,none,[(12,none)]⟩,⟨1104,some ([], fun nv=>((n13 1),.list z03 73 s12.2.1)),[(13,some ([4], fun nv=>((nv 4),.list z03 73 x27)))]⟩] [pk 47 (.val (z06 v8 (0+0))) [(0,0,false)],pk 48 (.val (n13 0)) [(0,0,false)],pk 49 (.val (z06 v1 (0+0))) [(1,0,false)],pk 50 (.rd (z02 aZ) a0.IDs) [(1,0,false)],pd 51 (.rd z0e s12.2.2),pd 52 (.rp aZ x23),pd 53 (.rd aZ x23),⟨some (54,[], fun nv=>.rd (z02 aZ) [x23]),[(2,0,true)],[1],[]⟩,⟨some (55,[2], fun nv=>.val (nv 2)),[(3,0,true)],[2],[]⟩,pk 56 (.val (z06 v8 (0+1))) [(0,0,false)],pk 57 (.val (n13 1)) [(0,0,false)],pk 58 (.rd z03 (⟨x18.Author,r21,x18.Stamp,x18.Act,x18.Sig⟩:z07)) [(4,0,false)],⟨some (59,[], fun nv=>.rd (z02 z03) [(⟨x18.Author,r21,x18.Stamp,x18.Act,x18.Sig⟩:z07)]),[(5,0,true)],[3],[]⟩,⟨some (60,[4], fun nv=>.val (nv 4)),[(6,0,true)],[4],[]⟩,pk 61 (.val (z06 v8 (0+0))) [(0,0,false)],⟨none,[(0,0,true),(3,1,false)],[],[]⟩,pk 62 (.val (z06 v8 (0+1))) [(0,1,false)],⟨none,[(6,1,false),(0,1,true)],[],[]⟩] mixed (oC (oRn (fun nv E=>faB 4 Z Z Tryz.underlying25 Z (by exact z6e)))<|oC (oRn (fun nv E=>ldV 4 Z Z (At.cast At.here Z) sc22 Z))<|oC (oRn (fun nv E=>faB 1 Z Z Tryz.underlying25 Z (by exact z6e)))<|oC (oRn (fun nv E=>ld 1 Z Z (fP (z0a _)) z8j Z))<|oC (oRn (fun nv E=>mv Z))<|oC (oRn (fun nv E=>ixR Z Z h24 tu22 z2b Z))<|oC (oRn (fun nv E=>ldR Z z43))<|oC (oFz (A1:=fun nv=>[(1109,some ((nv 1),.list aZ 62 [x23]))]) 1109 1 (oEf 1109 1 (fun nv E=>lit (R:=aZ) ([x23]:List V3) 1109 (pP Z Z<|pN) Z tu22 z2b Z Z)))<|oC (oEf 1103 2 (fun nv E=>apn 1103 Z Z Z .rd h26 tu22 z2b Z Z Z))<|oC (oRn (fun nv E=>faB 4 Z Z Tryz.underlying25 Z (by exact zai)))<|oC (oRn (fun nv E=>ldV 4 Z Z (At.cast (At.next z05 At.here) Z) sc23 Z))<|oC (oRn (fun nv E=>ld 1107 Z Z fH z9n Z))<|oC (oFz (A1:=fun nv=>[(1110,some ((nv 3),.list z03 73 [(⟨x18.Author,r21,x18.Stamp,x18.Act,x18.Sig⟩:z07)]))]) 1110 3 (oEf 1110 3 (fun nv E=>lit (R:=z03) ([(⟨x18.Author,r21,x18.Stamp,x18.Act,x18.Sig⟩:z07)]:List z07) 1110 (pP Z Z<|pN) Z tu23 z5n Z Z)))<|oC (oEf 1104 4 (fun nv E=>apn 1104 Z Z Z .rd h28 tu23 z5n Z Z Z))<|oC (oRn (fun nv E=>faB 4 Z Z Tryz.underlying25 Z (by exact z6e)))<|oC (oEs 4 (fun nv E=>zpj 4 Z Z (zao.cast (zao.here z05) Z) Z z0q z05 z6e))<|oC (oRn (fun nv E=>faB 4 Z Z Tryz.underlying25 Z (by exact zai)))<|oC (oEs 4 (fun nv E=>zpj 4 Z Z (zao.cast (zao.next z05 (zao.here z05)) Z) Z z0q z05 zai))<|oN) fun n29=>z35<|z0o<|z2e<|Zq (I.add Z Z)<|Zm Z<|z1q<|z1k (fun aa ww h=>⟨nvl [(n29 2),(n29 4)],Zu h [1,2,1103,1104,4,1100,1001]⟩)
     ·
      refine gKn 36 Z h17<|gKn 10 Z h17<|z2m<|z35<|z0o<|z2e<|Zq (I.add Z Z)<|Zm Z<|z1q<|z1k (fun aa ww h=>⟨nvl [(n13 0),(n13 1)],Zu h [1,2,1103,1104,4,1100,1001]⟩)
    ·
     refine z1s<|z0x<|z0y<|z3n (fun aa ww h=>⟨nvl [(n13 0),(n13 1)],Zu h [2,1103,1104,4,1001]⟩)
   ·
    refine gEx fun n30=>gSR<|zyt [.rd (z02 aZ) s9.1,.val (n30 1)] 4 8 [] [.val (n30 1)] Z Z Z Z Z<|zyt [.rd (z02 aZ) s9.1,.rd (z02 z03) s9.2] 4 9 [.rd (z02 aZ) s9.1] [] Z Z Z Z Z<|zd3 (R:=z01) (⟨s9.1,s9.2⟩:z00) 4 Z (Sp.via (Sp.prod (Sp.prod Sp.unit)))<|Zq (ld 4 Z Z fH z3v Z)<|za6 aZ [.rd (z02 aZ) [],.val (.slice none 0 0)] 2 [] [.val (.slice none 0 0)] Z Z Z<|za6 z03 [.rd (z02 aZ) [],.rd (z02 z03) []] 2 [.rd (z02 aZ) []] [] Z Z Z<|zd3 (R:=z01) (⟨[],[]⟩:z00) 2 Z (Sp.via (Sp.prod (Sp.prod Sp.unit)))<|Es (sto 2 Z Z fH Z z4h)<|Zb Z<|z0k<|zbq [] [1001] Z (eC 2 Z Z z3v<|eE Z<|eN) (y1 Z)
def zb4 (a0:V3) (c1_0:z00):Option (Bool) :=
 z1o c1_0.IDs a0 >>= fun r2 =>
 some (!r2)
theorem zhv (a0:V3) (p1_0:Value) (c1_0:z00):z1u Tryz.prog 82 [.rd aZ a0,.val (z06 p1_0 0)] [(1,some (p1_0,.box 25 [.rd z01 c1_0]))] (zb4 a0 c1_0) (fun r nv=>⟨[.rd z0j r],[(1,some (p1_0,.box 25 [.rd z01 c1_0]))]⟩):=by
 refine z2d 9 Tryz.func82 Z Z Z fun H w=>?_
 refine gSR<|Eb Z (bx 2 Z) fun v1=>Zb Z<|gSR<|Zq (faB 1 Z Z Tryz.underlying25 Z (by exact z6e))<|Zq (ld 1 Z Z (fP (z0a _)) z8j Z)<|Zq (ld 2 Z Z fH z43 Z)<|Zc [] [] Tryz.func77 Z (z2q _ _) fun r2 n3=>Zq (zfl Z)<|Zb Z<|z0k<|Ze [] [1] Z
def z74 (a0:List V3) (c1_0:z00) (s2:Int):Option (Sum (Sum Int Unit) Int) :=
 if decide (s2<(a0.length:Int)) then
  idx a0 s2 >>= fun x4 =>
  zb4 x4 c1_0 >>= fun r6 =>
  if r6 then
   some (.inl (.inl s2))
  else
   some (.inr (w64 (s2+1)))
 else
  some (.inl (.inr ()))
def z3y (a0:List V3) (c1_0:z00):Option (Int) :=
 z5g (iter (z74 a0 c1_0) 0) fun s1 =>
 some (-1)
theorem z7c (a0:List V3) (q0:Value) (l0:List V3) (p1_0:Value) (c1_0:z00):z1u Tryz.prog 114 [.vw aZ q0 l0 a0,.val (.func (.func 82) #[] #[z06 p1_0 0])] [(1,some (q0,.list aZ 62 l0)),(2,some (p1_0,.box 25 [.rd z01 c1_0]))] (z3y a0 c1_0) (fun r nv=>⟨[.rd z0e r],[(1,some (q0,.list aZ 62 l0)),(2,some (p1_0,.box 25 [.rd z01 c1_0]))]⟩):=by
 refine z2d 19 Tryz.func114 Z Z Z fun H w=>?_
 refine gSR<|Zb Z<|z8c (fun (s1:Unit) aa ww=>Sta (ctx 19 H [(1,some (q0,.list aZ 62 l0)),(2,some (p1_0,.box 25 [.rd z01 c1_0]))] w) [] [(1,some (q0,.list aZ 62 l0)),(2,some (p1_0,.box 25 [.rd z01 c1_0]))] aa ww) ?_ (fun s1=>?_)
 ·
  refine gSR<|Zm Z<|Zq (z3g Z (.vw 1 Z) Z tu22)<|Zm Z<|Zn<|z26 (fun (s2:Int) aa ww=>Sta (ctx 19 H [(1,some (q0,.list aZ 62 l0)),(2,some (p1_0,.box 25 [.rd z01 c1_0]))] w) [(0,.vw aZ q0 l0 a0),(1,.val (.func (.func 82) #[] #[z06 p1_0 0])),(7,.rd z0e (a0.length:Int)),(8,.rd z0e s2)] [(1,some (q0,.list aZ 62 l0)),(2,some (p1_0,.box 25 [.rd z01 c1_0]))] aa ww) (fun aa ww h=>Zu h [1,2]) (fun s2=>?_)
  refine gSR<|Zq (I.lss Z Z)<|Zn<|z0s<|gIf Z Z (fun h3=>?_) (fun h3=>?_)
  ·
   refine Zt<|z0s<|z4y<|gSR<|Zm Z<|Zb Z<|gSR<|Zm Z<|Zm Z<|Zm Z<|z0n fun x4 h5=>Zq (ixQ 1 Z Z Z h5 tu22 z2b)<|Zq (ldQ 1 Z Z z43 Z)<|zhd [2] [(1,2)] (gd0 Z) Z Z Tryz.func82 Z Z (zhv _ _ _) (Y1 Z) (cQ 2 Z<|cN) (y1 Z) fun r6 n7=>Zj Z (fun h8=>?_) (fun h8=>?_)
   ·
    refine gSR<|Zm Z<|Zb Z<|z0k<|z42<|z0w<|z7g<|z7a<|Ze [] [1,2] Z
   ·
    refine z2m<|z35<|z0o<|z2e<|Zq (I.add Z Z)<|Zm Z<|z1q<|z1k (fun aa ww h=>Zu h [1,2])
  ·
   refine z1s<|z0x<|z0y<|z79 (fun aa ww h=>Zu h [1,2])
 ·
  refine gSR<|Zb Z<|z0k<|Ze [] [1,2] Z
def z7v (c1_0:z00) (s5:(List V3) × Int × Int):Option (Sum ((List V3) × Int) ((List V3) × Int × Int)) :=
 if decide (s5.2.2<(s5.1.length:Int)) then
  idx s5.1 s5.2.2 >>= fun x7 =>
  zb4 x7 c1_0 >>= fun r10 =>
  if !r10 then
   idx s5.1 s5.2.1 >>= fun x13 =>
   some (w64 (s5.2.1+1)) >>= fun y15 =>
   some (w64 (s5.2.2+1)) >>= fun y16 =>
   some (.inr (s5.1.set (s5.2.1:Int).toNat x7,y15,y16))
  else
   some (w64 (s5.2.2+1)) >>= fun y17 =>
   some (.inr (s5.1,s5.2.1,y17))
 else
  some (.inl (s5.1,s5.2.1))
def z1y (c0:List V3) (c1_0:z00):Option ((List V3)) :=
 z3y c0 c1_0 >>= fun r1 =>
 if r1==(-1) then
  some c0
 else
  (iter (z7v c1_0) (c0,r1,w64 (r1+1))) >>= fun s4 =>
  chk (0≤s4.2∧s4.2≤(s4.1.length:Int)∧(s4.1.length:Int)≤(s4.1.length:Int)) >>= fun u18 =>
  chk ((s4.2:Int).toNat+(((s4.1.length:Int):Int).toNat - (s4.2:Int).toNat)≤s4.1.length) >>= fun u20 =>
  cut (clr s4.1 ((s4.2:Int).toNat) (((s4.1.length:Int):Int).toNat - (s4.2:Int).toNat) (Vector.replicate 32 0)) 0 s4.2 >>= fun x22 =>
  some x22
theorem z83 (p0:Value) (c0:List V3) (p1_0:Value) (c1_0:z00):z1u Tryz.prog 75 [.val p0,.val (.func (.func 82) #[] #[z06 p1_0 0])] [(1,some (p0,.list aZ 62 c0)),(2,some (p1_0,.box 25 [.rd z01 c1_0]))] (z1y c0 c1_0) (fun r nv=>⟨[.val (nv 0)],[(2,some (p1_0,.box 25 [.rd z01 c1_0])),(100,some (nv 0,.list aZ 62 r))]⟩):=by
 refine z2d 42 Tryz.func75 Z Z Z fun H w=>?_
 refine gSR<|Zb Z<|gSR<|Zm Z<|Zm Z<|call [1,2] [(1,1),(2,2)] Z Tryz.func114 Z Z (z7c _ _ _ _ _) (aW Z<|aQ Z<|aN) (Zi Z<|Zi Z<|rN) fun r1 n2=>Zb Z<|z0s<|gSR<|Zm Z<|Zq (I.eql Z Z)<|Zj Z (fun h3=>?_) (fun h3=>?_)
 ·
  refine gSR<|Zm Z<|Zb Z<|z0k<|z0w<|Ze [p0] [2,1] Z
 ·
  refine Zt<|z8n (fun (s4:(List V3) × Int) aa ww=>Sta (ctx 42 H [(1,some (p0,.list aZ 62 c0)),(2,some (p1_0,.box 25 [.rd z01 c1_0]))] w) [(0,.val p0),(5,.rd z0e s4.2)] [(1,some (p0,.list aZ 62 s4.1)),(2,some (p1_0,.box 25 [.rd z01 c1_0]))] aa ww) ?_ (fun s4=>?_)
  ·
   refine gSR<|Zm Z<|Zq (I.add Z Z)<|Zb Z<|z26 (fun (s5:(List V3) × Int × Int) aa ww=>Sta (ctx 42 H [(1,some (p0,.list aZ 62 c0)),(2,some (p1_0,.box 25 [.rd z01 c1_0]))] w) [(0,.val p0),(1,.val (.func (.func 82) #[] #[z06 p1_0 0])),(5,.rd z0e s5.2.1),(6,.rd z0e s5.2.2)] [(1,some (p0,.list aZ 62 s5.1)),(2,some (p1_0,.box 25 [.rd z01 c1_0]))] aa ww) (fun aa ww h=>Zu h [1,2]) (fun s5=>?_)
   refine z0s<|gSR<|Zm Z<|Zm Z<|Zq (z3g Z (.own 1 Z) Z tu22)<|Zq (I.lss Z Z)<|Zj Z (fun h6=>?_) (fun h6=>?_)
   ·
    refine Zt<|z0s<|z4y<|gSR<|Zm Z<|Zm Z<|z0n fun x7 h8=>Zq (ixO 1 Z Z Z h8 tu22 z2b)<|Zq (ld 1 Z Z (Foc.el h8) z43 Z)<|Eb Z (z56 3 z2b (.zr (R:=aZ) (x:=(Vector.replicate 32 0)) zgg)) fun v9=>Es (sto 3 Z Z fH Z z2b)<|Zn<|gSR<|Zm Z<|Zq (ld 3 Z Z fH z43 Z)<|zhd [2] [(1,2)] (gd0 Z) Z Z Tryz.func82 Z Z (zhv _ _ _) (Y1 Z) (cQ 2 Z<|cN) (y1 Z) fun r10 n11=>Zq (zfl Z)<|Zj Z (fun h12=>?_) (fun h12=>?_)
    ·
     refine gSR<|Zm Z<|Zm Z<|Zq (ld 3 Z Z fH z43 Z)<|z0n fun x13 h14=>Zq (ixO 1 Z Z Z h14 tu22 z2b)<|Es (sto 1 Z Z (Foc.el h14) Z z2b)<|Zn<|z2e<|Zm Z<|Zq (I.add Z Z)<|Za Z<|z1t 5 Z fun y15=>z1q<|z35<|z0o<|z2e<|Zm Z<|Zq (I.add Z Z)<|Za Z<|z1t 6 Z fun y16=>z1q<|z1k (fun aa ww h=>Zu h [1,2])
    ·
     refine z2m<|z35<|z0o<|z2e<|Zm Z<|Zq (I.add Z Z)<|Za Z<|z1t 6 Z fun y17=>z1q<|z1k (fun aa ww h=>Zu h [1,2])
   ·
    refine z1s<|z0x<|z0y<|z3n (fun aa ww h=>Zu h [1,2])
  ·
   refine gSR<|Zm Z<|Zm Z<|z0n fun u18 h19=>Zq (zyy 1 Z Z (.to Z) .no (z4i h19) tu22 z2b)<|z0n fun u20 h21=>EsV (clrS 1 Z Z (z4i h21) Z tu22 z2b zgg Z)<|Zn<|gSR<|Zm Z<|Zm Z<|z0n fun x22 h23=>Ef Z (cutO 1 Z Z Z h23 tu22 z2b) fun v24=>Zb Z<|z0k<|Ze [v24] [2,1] Z
def zdf (a0:z00) (a1:List V3):Option ((List V3)) :=
 z0u a1 >>= fun r2 =>
 z1y r2 a0 >>= fun r4 =>
 zqc r4 >>= fun r6 =>
 z12 r6 >>= fun r8 =>
 zdt a0 r8 >>= fun r10 =>
 some r10.1.IDs
theorem zjv (a0:z00) (a1:List V3):z1u Tryz.prog 47 [.rd z01 a0,.rd (z02 aZ) a1] [zG1] (zdf a0 a1) (fun r nv=>⟨[.rd (z02 aZ) r],[(1001,some (.bool true,.glob 1 (z3j 64 z0p) z65))]⟩):=by
 refine z2d 23 Tryz.func47 Z Z Z fun H w=>?_
 refine gSR<|Eb Z (bx 1 Z) fun v1=>Zb Z<|gSR<|Zm Z<|Zc [] [(100,2)] Tryz.func46 Z (z1n _) fun r2 n3=>Zq (mkf mp0 (mp1 Z))<|Zc [2,1] [(100,3),(2,1)] Tryz.func75 Z (z83 _ _ _ _) fun r4 n5=>Zb Z<|gSR<|Zm Z<|Zc [3] [(1,3)] Tryz.func78 Z (zt5 _ _) fun r6 n7=>Zn<|z0s<|z99 [3,10,25,1001] mixed Z Z<|hTk 0 Z Z (ld 1 Z Z fH z3v Z)<|hTk 1 Z Z (mv Z)<|hAlt [2,7] (by kernel_rfl) Z ⟨?_,?_,trivial⟩
 ·
  refine z15k 2 [3] [(100,10)] Z Z (gd0 Z) Z Tryz.func80 Z Z (z2u _ _) (Y1 Z) (y1 Z) Z (fun _ _=>z3t) fun r8 n9=>hAlt [3,7] (by kernel_rfl) Z ⟨?_,?_,trivial⟩
  ·
   refine oFrz 10 [17] Z (fS Z<|fN)<|z19c 3 [1001] [] Z Z (gd0 Z) Z Tryz.func83 Z Z (zde _ _) (Y2 Z Z) (y1 Z) Z fun r10 n11=>znj 4 Z (by kernel_rfl) (by kernel_rfl) (by kernel_rfl) (gd0 Z) Z Z (mv Z)<|znj 5 Z (by kernel_rfl) (by kernel_rfl) (by kernel_rfl) (gd0 Z) Z Z (ext Z Z)<|Zf 6 Z Z z34 (ext Z Z)<|hDoB 7 Z (by kernel_rfl) (gd0 Z) Z Z Z (z56 25 z4h (ZrE.nilS (ZrE.nilS ZrE.nil))) fun v12=>hPnl aZ [.rd (z02 aZ) [],.val (.slice none 0 0)] 25 [] [.val (.slice none 0 0)] Z Z Z<|hPnl z03 [.rd (z02 aZ) [],.rd (z02 z03) []] 25 [.rd (z02 aZ) []] [] Z Z Z<|hJoi (R:=z01) (⟨[],[]⟩:z00) 25 Z (Sp.via (Sp.prod (Sp.prod Sp.unit)))<|Zp 8 Z Z Z Z Z (sto 25 Z Z fH Z z4h)<|hTk 9 Z Z (asg Z)<|z5a (by kernel_rfl)<|z0o<|gSR<|Zq (faB 25 Z Z Tryz.underlying25 Z (by exact z6e))<|Zq (ld 25 Z Z (fP (z0a _)) z8j Z)<|Zb Z<|z0k<|Ze [] [1001] Z
  ·
   refine oDoB 7 Z (gd0 Z) Z Z Z (z56 25 z4h (ZrE.nilS (ZrE.nilS ZrE.nil))) fun v13=>zz1 10 [17] Z (fS Z<|fN)<|zl8 3 [1001] [] Z (by kernel_rfl) Z (gd0 Z) Z Tryz.func83 Z Z (zde _ _) (Y2 Z Z) (y1 Z) Z fun r14 n15=>znj 4 Z (by kernel_rfl) (by kernel_rfl) (by kernel_rfl) (gd0 Z) Z Z (mv Z)<|znj 5 Z (by kernel_rfl) (by kernel_rfl) (by kernel_rfl) (gd0 Z) Z Z (ext Z Z)<|Zf 6 Z Z z34 (ext Z Z)<|hPnl aZ [.rd (z02 aZ) [],.val (.slice none 0 0)] 25 [] [.val (.slice none 0 0)] Z Z Z<|hPnl z03 [.rd (z02 aZ) [],.rd (z02 z03) []] 25 [.rd (z02 aZ) []] [] Z Z Z<|hJoi (R:=z01) (⟨[],[]⟩:z00) 25 Z (Sp.via (Sp.prod (Sp.prod Sp.unit)))<|Zp 8 Z Z Z Z Z (sto 25 Z Z fH Z z4h)<|hTk 9 Z Z (asg Z)<|z5a (by kernel_rfl)<|z0o<|gSR<|Zq (faB 25 Z Z Tryz.underlying25 Z (by exact z6e))<|Zq (ld 25 Z Z (fP (z0a _)) z8j Z)<|Zb Z<|z0k<|Ze [] [1001] Z
 ·
  refine oDoB 7 Z (gd0 Z) Z Z Z (z56 25 z4h (ZrE.nilS (ZrE.nilS ZrE.nil))) fun v16=>z4e 2 [3] [(100,10)] Z (by kernel_rfl) Z (gd0 Z) Z Tryz.func80 Z Z (z2u _ _) (Y1 Z) (y1 Z) Z (fun _ _=>z3t) fun r17 n18=>zz1 10 [17] Z (fS Z<|fN)<|zl8 3 [1001] [] Z (by kernel_rfl) Z (gd0 Z) Z Tryz.func83 Z Z (zde _ _) (Y2 Z Z) (y1 Z) Z fun r19 n20=>znj 4 Z (by kernel_rfl) (by kernel_rfl) (by kernel_rfl) (gd0 Z) Z Z (mv Z)<|znj 5 Z (by kernel_rfl) (by kernel_rfl) (by kernel_rfl) (gd0 Z) Z Z (ext Z Z)<|Zf 6 Z Z z34 (ext Z Z)<|hPnl aZ [.rd (z02 aZ) [],.val (.slice none 0 0)] 25 [] [.val (.slice none 0 0)] Z Z Z<|hPnl z03 [.rd (z02 aZ) [],.rd (z02 z03) []] 25 [.rd (z02 aZ) []] [] Z Z Z<|hJoi (R:=z01) (⟨[],[]⟩:z00) 25 Z (Sp.via (Sp.prod (Sp.prod Sp.unit)))<|Zp 8 Z Z Z Z Z (sto 25 Z Z fH Z z4h)<|hTk 9 Z Z (asg Z)<|z5a (by kernel_rfl)<|z0o<|gSR<|Zq (faB 25 Z Z Tryz.underlying25 Z (by exact z6e))<|Zq (ld 25 Z Z (fP (z0a _)) z8j Z)<|Zb Z<|z0k<|Ze [] [1001] Z
def z6m (r17:(List V3) × Int) (s19:(List V3) × Int):Option (Sum ((List V3)) ((List V3) × Int)) :=
 if decide (s19.2<(r17.1.length:Int)) then
  idx r17.1 s19.2 >>= fun x21 =>
  zbw s19.1 x21 >>= fun r23 =>
  some (w64 (s19.2+1)) >>= fun y25 =>
  some (.inr (r23,y25))
 else
  some (.inl s19.1)
def z6w (a0:z00) (a1:List V3) (s3:(List V3) × Int):Option (Sum ((List V3)) ((List V3) × Int)) :=
 if decide (s3.2<(a1.length:Int)) then
  (idx a1 s3.2 >>= fun x6 =>
  z9e a0.IDs x6 >>= fun r8 =>
  if !r8 then
   some s3.1
  else
   idx a1 s3.2 >>= fun x11 =>
   zbw s3.1 x11 >>= fun r13 =>
   idx a1 s3.2 >>= fun x15 =>
   zbo a0 x15 >>= fun r17 =>
   iter (z6m r17) (r13,0)) >>= fun s5 =>
  some (w64 (s3.2+1)) >>= fun y26 =>
  some (.inr (s5,y26))
 else
  some (.inl s3.1)
def z9o (a0:z00) (a1:List V3):Option ((List V3)) :=
 (iter (z6w a0 a1) ([],0)) >>= fun s2 =>
 some s2
def zas (a0:V3) (c1_0:List V3) (c2_0:List V3):Option (Bool) :=
 z1o c1_0 a0 >>= fun r2 =>
 if !r2 then
  some true
 else
  z1o c2_0 a0 >>= fun r5 =>
  some r5
theorem zii (a0:V3) (p1_0:Value) (c1_0:List V3) (p2_0:Value) (c2_0:List V3):z1u Tryz.prog 86 [.rd aZ a0,.val (z06 p1_0 0),.val (z06 p2_0 0)] [(1,some (p1_0,.box 22 [.rd (z02 aZ) c1_0])),(2,some (p2_0,.box 22 [.rd (z02 aZ) c2_0]))] (zas a0 c1_0 c2_0) (fun r nv=>⟨[.rd z0j r],[(1,some (p1_0,.box 22 [.rd (z02 aZ) c1_0])),(2,some (p2_0,.box 22 [.rd (z02 aZ) c2_0]))]⟩):=by
 refine z2d 14 Tryz.func86 Z Z Z fun H w=>?_
 refine gSR<|Eb Z (bx 3 Z) fun v1=>Zb Z<|gSR<|Zq (ld 1 Z Z fH z8j Z)<|Zq (ld 3 Z Z fH z43 Z)<|Zc [] [] Tryz.func77 Z (z2q _ _) fun r2 n3=>Zq (zfl Z)<|Zm Z<|z1b 9 Z (fun h4=>?_) (fun h4=>?_)
 ·
  refine lKn 8 Z h4<|Zk Z<|Zk Z<|Zk Z<|Zq (pkT Z Z)<|Zb Z<|z0k<|Ze [] [1,2] Z
 ·
  refine lKn 8 Z h4<|z17 Zx Z Z (ld 2 Z Z fH z8j Z)<|z17 Zx Z Z (ld 3 Z Z fH z43 Z)<|zdb [] [] Zx Z Tryz.func77 Z Z (z2q _ _) (Y2 Z Z) rN fun r5 n6=>Zq (pkF Z Z)<|Zb Z<|z0k<|Ze [] [1,2] Z
def z7e (a0:List V3) (c1_0:List V3) (c1_1:List V3) (s2:Int):Option (Sum (Sum Int Unit) Int) :=
 if decide (s2<(a0.length:Int)) then
  idx a0 s2 >>= fun x4 =>
  zas x4 c1_0 c1_1 >>= fun r6 =>
  if r6 then
   some (.inl (.inl s2))
  else
   some (.inr (w64 (s2+1)))
 else
  some (.inl (.inr ()))
def z47 (a0:List V3) (c1_0:List V3) (c1_1:List V3):Option (Int) :=
 z5g (iter (z7e a0 c1_0 c1_1) 0) fun s1 =>
 some (-1)
theorem z7j (a0:List V3) (q0:Value) (l0:List V3) (p1_0:Value) (c1_0:List V3) (p1_1:Value) (c1_1:List V3):z1u Tryz.prog 114 [.vw aZ q0 l0 a0,.val (.func (.func 86) #[] #[z06 p1_0 0,z06 p1_1 0])] [(1,some (q0,.list aZ 62 l0)),(2,some (p1_0,.box 22 [.rd (z02 aZ) c1_0])),(3,some (p1_1,.box 22 [.rd (z02 aZ) c1_1]))] (z47 a0 c1_0 c1_1) (fun r nv=>⟨[.rd z0e r],[(1,some (q0,.list aZ 62 l0)),(2,some (p1_0,.box 22 [.rd (z02 aZ) c1_0])),(3,some (p1_1,.box 22 [.rd (z02 aZ) c1_1]))]⟩):=by
 refine z2d 19 Tryz.func114 Z Z Z fun H w=>?_
 refine gSR<|Zb Z<|z8c (fun (s1:Unit) aa ww=>Sta (ctx 19 H [(1,some (q0,.list aZ 62 l0)),(2,some (p1_0,.box 22 [.rd (z02 aZ) c1_0])),(3,some (p1_1,.box 22 [.rd (z02 aZ) c1_1]))] w) [] [(1,some (q0,.list aZ 62 l0)),(2,some (p1_0,.box 22 [.rd (z02 aZ) c1_0])),(3,some (p1_1,.box 22 [.rd (z02 aZ) c1_1]))] aa ww) ?_ (fun s1=>?_)
 ·
  refine gSR<|Zm Z<|Zq (z3g Z (.vw 1 Z) Z tu22)<|Zm Z<|Zn<|z26 (fun (s2:Int) aa ww=>Sta (ctx 19 H [(1,some (q0,.list aZ 62 l0)),(2,some (p1_0,.box 22 [.rd (z02 aZ) c1_0])),(3,some (p1_1,.box 22 [.rd (z02 aZ) c1_1]))] w) [(0,.vw aZ q0 l0 a0),(1,.val (.func (.func 86) #[] #[z06 p1_0 0,z06 p1_1 0])),(7,.rd z0e (a0.length:Int)),(8,.rd z0e s2)] [(1,some (q0,.list aZ 62 l0)),(2,some (p1_0,.box 22 [.rd (z02 aZ) c1_0])),(3,some (p1_1,.box 22 [.rd (z02 aZ) c1_1]))] aa ww) (fun aa ww h=>Zu h [1,2,3]) (fun s2=>?_)
  refine gSR<|Zq (I.lss Z Z)<|Zn<|z0s<|gIf Z Z (fun h3=>?_) (fun h3=>?_)
  ·
   refine Zt<|z0s<|z4y<|gSR<|Zm Z<|Zb Z<|gSR<|Zm Z<|Zm Z<|Zm Z<|z0n fun x4 h5=>Zq (ixQ 1 Z Z Z h5 tu22 z2b)<|Zq (ldQ 1 Z Z z43 Z)<|zhd [2,3] [(1,2),(2,3)] (gd0 Z) Z Z Tryz.func86 Z Z (zii _ _ _ _ _) (Y1 Z) (cQ 2 Z<|cQ 3 Z<|cN) (Zi Z<|Zi Z<|rN) fun r6 n7=>Zj Z (fun h8=>?_) (fun h8=>?_)
   ·
    refine gSR<|Zm Z<|Zb Z<|z0k<|z42<|z0w<|z7g<|z7a<|Ze [] [1,2,3] Z
   ·
    refine z2m<|z35<|z0o<|z2e<|Zq (I.add Z Z)<|Zm Z<|z1q<|z1k (fun aa ww h=>Zu h [1,2,3])
  ·
   refine z1s<|z0x<|z0y<|z79 (fun aa ww h=>Zu h [1,2,3])
 ·
  refine gSR<|Zb Z<|z0k<|Ze [] [1,2,3] Z
def z8a (c1_0:List V3) (c1_1:List V3) (s5:(List V3) × Int × Int):Option (Sum ((List V3) × Int) ((List V3) × Int × Int)) :=
 if decide (s5.2.2<(s5.1.length:Int)) then
  idx s5.1 s5.2.2 >>= fun x7 =>
  zas x7 c1_0 c1_1 >>= fun r10 =>
  if !r10 then
   idx s5.1 s5.2.1 >>= fun x13 =>
   some (w64 (s5.2.1+1)) >>= fun y15 =>
   some (w64 (s5.2.2+1)) >>= fun y16 =>
   some (.inr (s5.1.set (s5.2.1:Int).toNat x7,y15,y16))
  else
   some (w64 (s5.2.2+1)) >>= fun y17 =>
   some (.inr (s5.1,s5.2.1,y17))
 else
  some (.inl (s5.1,s5.2.1))
def z2x (c0:List V3) (c1_0:List V3) (c1_1:List V3):Option ((List V3)) :=
 z47 c0 c1_0 c1_1 >>= fun r1 =>
 if r1==(-1) then
  some c0
 else
  (iter (z8a c1_0 c1_1) (c0,r1,w64 (r1+1))) >>= fun s4 =>
  chk (0≤s4.2∧s4.2≤(s4.1.length:Int)∧(s4.1.length:Int)≤(s4.1.length:Int)) >>= fun u18 =>
  chk ((s4.2:Int).toNat+(((s4.1.length:Int):Int).toNat - (s4.2:Int).toNat)≤s4.1.length) >>= fun u20 =>
  cut (clr s4.1 ((s4.2:Int).toNat) (((s4.1.length:Int):Int).toNat - (s4.2:Int).toNat) (Vector.replicate 32 0)) 0 s4.2 >>= fun x22 =>
  some x22
theorem z8g (p0:Value) (c0:List V3) (p1_0:Value) (c1_0:List V3) (p1_1:Value) (c1_1:List V3):z1u Tryz.prog 75 [.val p0,.val (.func (.func 86) #[] #[z06 p1_0 0,z06 p1_1 0])] [(1,some (p0,.list aZ 62 c0)),(2,some (p1_0,.box 22 [.rd (z02 aZ) c1_0])),(3,some (p1_1,.box 22 [.rd (z02 aZ) c1_1]))] (z2x c0 c1_0 c1_1) (fun r nv=>⟨[.val (nv 0)],[(2,some (p1_0,.box 22 [.rd (z02 aZ) c1_0])),(3,some (p1_1,.box 22 [.rd (z02 aZ) c1_1])),(100,some (nv 0,.list aZ 62 r))]⟩):=by
 refine z2d 42 Tryz.func75 Z Z Z fun H w=>?_
 refine gSR<|Zb Z<|gSR<|Zm Z<|Zm Z<|call [1,2,3] [(1,1),(2,2),(3,3)] Z Tryz.func114 Z Z (z7j _ _ _ _ _ _ _) (aW Z<|aQ Z<|aN) (Zi Z<|Zi Z<|Zi Z<|rN) fun r1 n2=>Zb Z<|z0s<|gSR<|Zm Z<|Zq (I.eql Z Z)<|Zj Z (fun h3=>?_) (fun h3=>?_)
 ·
  refine gSR<|Zm Z<|Zb Z<|z0k<|z0w<|Ze [p0] [2,3,1] Z
 ·
  refine Zt<|z8n (fun (s4:(List V3) × Int) aa ww=>Sta (ctx 42 H [(1,some (p0,.list aZ 62 c0)),(2,some (p1_0,.box 22 [.rd (z02 aZ) c1_0])),(3,some (p1_1,.box 22 [.rd (z02 aZ) c1_1]))] w) [(0,.val p0),(5,.rd z0e s4.2)] [(1,some (p0,.list aZ 62 s4.1)),(2,some (p1_0,.box 22 [.rd (z02 aZ) c1_0])),(3,some (p1_1,.box 22 [.rd (z02 aZ) c1_1]))] aa ww) ?_ (fun s4=>?_)
  ·
   refine gSR<|Zm Z<|Zq (I.add Z Z)<|Zb Z<|z26 (fun (s5:(List V3) × Int × Int) aa ww=>Sta (ctx 42 H [(1,some (p0,.list aZ 62 c0)),(2,some (p1_0,.box 22 [.rd (z02 aZ) c1_0])),(3,some (p1_1,.box 22 [.rd (z02 aZ) c1_1]))] w) [(0,.val p0),(1,.val (.func (.func 86) #[] #[z06 p1_0 0,z06 p1_1 0])),(5,.rd z0e s5.2.1),(6,.rd z0e s5.2.2)] [(1,some (p0,.list aZ 62 s5.1)),(2,some (p1_0,.box 22 [.rd (z02 aZ) c1_0])),(3,some (p1_1,.box 22 [.rd (z02 aZ) c1_1]))] aa ww) (fun aa ww h=>Zu h [1,2,3]) (fun s5=>?_)
   refine z0s<|gSR<|Zm Z<|Zm Z<|Zq (z3g Z (.own 1 Z) Z tu22)<|Zq (I.lss Z Z)<|Zj Z (fun h6=>?_) (fun h6=>?_)
   ·
    refine Zt<|z0s<|z4y<|gSR<|Zm Z<|Zm Z<|z0n fun x7 h8=>Zq (ixO 1 Z Z Z h8 tu22 z2b)<|Zq (ld 1 Z Z (Foc.el h8) z43 Z)<|Eb Z (z56 4 z2b (.zr (R:=aZ) (x:=(Vector.replicate 32 0)) zgg)) fun v9=>Es (sto 4 Z Z fH Z z2b)<|Zn<|gSR<|Zm Z<|Zq (ld 4 Z Z fH z43 Z)<|zhd [2,3] [(1,2),(2,3)] (gd0 Z) Z Z Tryz.func86 Z Z (zii _ _ _ _ _) (Y1 Z) (cQ 2 Z<|cQ 3 Z<|cN) (Zi Z<|Zi Z<|rN) fun r10 n11=>Zq (zfl Z)<|Zj Z (fun h12=>?_) (fun h12=>?_)
    ·
     refine gSR<|Zm Z<|Zm Z<|Zq (ld 4 Z Z fH z43 Z)<|z0n fun x13 h14=>Zq (ixO 1 Z Z Z h14 tu22 z2b)<|Es (sto 1 Z Z (Foc.el h14) Z z2b)<|Zn<|z2e<|Zm Z<|Zq (I.add Z Z)<|Za Z<|z1t 5 Z fun y15=>z1q<|z35<|z0o<|z2e<|Zm Z<|Zq (I.add Z Z)<|Za Z<|z1t 6 Z fun y16=>z1q<|z1k (fun aa ww h=>Zu h [1,2,3])
    ·
     refine z2m<|z35<|z0o<|z2e<|Zm Z<|Zq (I.add Z Z)<|Za Z<|z1t 6 Z fun y17=>z1q<|z1k (fun aa ww h=>Zu h [1,2,3])
   ·
    refine z1s<|z0x<|z0y<|z3n (fun aa ww h=>Zu h [1,2,3])
  ·
   refine gSR<|Zm Z<|Zm Z<|z0n fun u18 h19=>Zq (zyy 1 Z Z (.to Z) .no (z4i h19) tu22 z2b)<|z0n fun u20 h21=>EsV (clrS 1 Z Z (z4i h21) Z tu22 z2b zgg Z)<|Zn<|gSR<|Zm Z<|Zm Z<|z0n fun x22 h23=>Ef Z (cutO 1 Z Z Z h23 tu22 z2b) fun v24=>Zb Z<|z0k<|Ze [v24] [2,3,1] Z
def zdd (a0:z00) (a1:List V3) (a2:List V3):Option ((List V3)) :=
 zdf a0 a1 >>= fun r2 =>
 zdf a0 a2 >>= fun r5 =>
 za2 a0 >>= fun r9 =>
 z2x r9.1 r2 r5 >>= fun r11 =>
 some r11
end
section
open Go Go.RowKit
set_option maxRecDepth 100000
set_option maxHeartbeats 4000000 in
theorem zl1 (a0:z00) (a1:List V3) (a2:List V3):z1u Tryz.prog 49 [.rd z01 a0,.rd (z02 aZ) a1,.rd (z02 aZ) a2] [zG1] (zdd a0 a1 a2) (fun r nv=>⟨[.val (nv 0)],[(1001,some (.bool true,.glob 1 (z3j 64 z0p) z65)),(100,some (nv 0,.list aZ 62 r))]⟩):=by
 refine z2d 25 Tryz.func49 Z Z Z fun H w=>?_
 refine gSR<|Eb Z (bx 1 Z) fun v1=>Zb Z<|z0s<|zsc [(1,.rd (z02 aZ) a1),(2,.rd (z02 aZ) a2),(3,.val (z06 v1 0))] [zG1,(1,some (v1,.box 25 [.rd z01 a0]))] [1001,1] (sS Z<|sS Z<|sS Z<|sN) (Zi Z<|Zi Z<|rN)<|z4l fun r2 h4=>z4l fun r5 h7=>gOr [] [⟨1,some ([], fun nv=>(v1,.box 25 [.rd z01 a0])),[]⟩,⟨1001,some ([], fun nv=>((.bool true),.glob 1 (z3j 64 z0p) z65)),[]⟩,⟨2,none,[(6,some ([1], fun nv=>((nv 1),.box 22 [.val (.slice none 0 0)]))),(8,some ([1], fun nv=>((nv 1),.box 22 [.rd (z02 aZ) r2])))]⟩,⟨3,none,[(7,some ([2], fun nv=>((nv 2),.box 22 [.val (.slice none 0 0)]))),(9,some ([2], fun nv=>((nv 2),.box 22 [.rd (z02 aZ) r5])))]⟩] [pk 11 (.rd z01 a0) [(0,0,false)],pd 12 (.rd (z02 aZ) a1),pk 13 (.rd (z02 aZ) r2) [(1,0,false)],pk 14 (.rd z01 a0) [(0,0,false)],pd 15 (.rd (z02 aZ) a2),pk 16 (.rd (z02 aZ) r5) [(1,0,false)],⟨some (7,[1], fun nv=>.val (z06 (nv 1) 0)),[(2,0,true)],[1],[]⟩,⟨some (8,[2], fun nv=>.val (z06 (nv 2) 0)),[(3,0,true)],[2],[]⟩,⟨none,[(2,1,true)],[],[]⟩,⟨none,[(3,1,true)],[],[]⟩] mixed (oC (oRn (fun nv E=>ld 1 Z Z fH z3v Z))<|oC (oRn (fun nv E=>mv Z))<|oC (oCl [] [1001] [] h4 Tryz.func47 Z (fun nv=>(zjv _ _)) (fun nv=>(Y2 Z Z)) (fun nv E=>(y1 Z)))<|oC (oRn (fun nv E=>ld 1 Z Z fH z3v Z))<|oC (oRn (fun nv E=>mv Z))<|oC (oCl [] [1001] [] h7 Tryz.func47 Z (fun nv=>(zjv _ _)) (fun nv=>(Y2 Z Z)) (fun nv E=>(y1 Z)))<|oC (oEb 2 1 (fun nv E=>z56 2 z6e (.val Z)))<|oC (oEb 3 2 (fun nv E=>z56 3 z6e (.val Z)))<|oC (oEs 2 (fun nv E=>zpj 2 Z Z (.here z05) Z z95 z19 z6e))<|oC (oEs 3 (fun nv E=>zpj 3 Z Z (.here z05) Z z95 z19 z6e))<|oN) fun n8=>z0o<|gSR<|Zq (ld 1 Z Z fH z3v Z)<|Zc [1001] [(100,4)] Tryz.func85 Z (zma _) fun r9 n10=>Zm Z<|Zq (ext Z Z)<|Zq (ext Z Z)<|Za Z<|Zb Z<|gSR<|Zm Z<|Zq (mkf mp0 (mp2 Z Z))<|Zc [4,2,3] [(100,5),(2,2),(3,3)] Tryz.func75 Z (z8g _ _ _ _ _ _) fun r11 n12=>Zb Z<|z0k<|Ze [(n12 0)] [1001,5] Z
def zdo (a0:z00) (a1:List V3) (a2:List V3):Option ((List V3) × Int) :=
 zcf a0 [a1,a2] >>= fun r3 =>
 if r3 != 0 then
  some ([],r3)
 else
  zdd a0 a1 a2 >>= fun r6 =>
  some (r6,0)
theorem zlo (a0:z00) (a1:List V3) (a2:List V3):z1u Tryz.prog 16 [.rd z01 a0,.rd (z02 aZ) a1,.rd (z02 aZ) a2] [zG1] (zdo a0 a1 a2) (fun r nv=>⟨[.val (nv 0),.rd z0e r.2],[(1001,some (.bool true,.glob 1 (z3j 64 z0p) z65)),(100,some (nv 0,.list aZ 62 r.1))]⟩):=by
 refine z2d 21 Tryz.func16 Z Z Z fun H w=>?_
 refine gSR<|Eb Z (bx 1 Z) fun v1=>Za Z<|Zb Z<|z0s<|gSR<|Zq (ld 1 Z Z fH z3v Z)<|Zm Z<|Zm Z<|Ef Z (lit (R:=(z02 aZ)) ([a1,a2]:List (List V3)) 2 (pP Z Z<|pP Z Z<|pN) Z Tryz.underlying110 z6e Z Z) fun v2=>zh0 2 [12] Z (fS Z<|fN)<|Zc [1001] [] Tryz.func43 Z (zjy _ _) fun r3 n4=>Zb Z<|gSR<|Zm Z<|Zq (I.neq Z Z)<|Zj Z (fun h5=>?_) (fun h5=>?_)
 ·
  refine gSR<|Zm Z<|Za Z<|Zb Z<|z0k<|z0w<|zuf aZ 62 3<|Ze [(.slice none 0 0)] [1001,3] Z
 ·
  refine Zt<|gSR<|Zq (ld 1 Z Z fH z3v Z)<|Zm Z<|Zm Z<|Zc [1001] [(100,4)] Tryz.func49 Z (zl1 _ _ _) fun r6 n7=>Za Z<|Zb Z<|z0k<|Ze [(n7 0)] [1001,4] Z
def za7 (r2:(List V3)) (r4:(List V3)) (r6:(List V3) × Int) (s9:(List V3) × Int):Option (Sum ((List V3)) ((List V3) × Int)) :=
 if decide (s9.2<(r6.1.length:Int)) then
  (idx r6.1 s9.2 >>= fun x13 =>
  z9e r2 x13 >>= fun r15 =>
  if r15 then
   idx r6.1 s9.2 >>= fun x18 =>
   z9e r4 x18 >>= fun r20 =>
   some (!r20)
  else
   some false) >>= fun s12 =>
  if s12 then
   idx r6.1 s9.2 >>= fun x23 =>
   app 32 s9.1 [x23] >>= fun x26 =>
   some (w64 (s9.2+1)) >>= fun y29 =>
   some (.inr (x26,y29))
  else
   some (w64 (s9.2+1)) >>= fun y30 =>
   some (.inr (s9.1,y30))
 else
  some (.inl s9.1)
def zf5 (a0:z00) (a1:List V3) (a2:List V3):Option ((List V3)) :=
 z9o a0 a1 >>= fun r2 =>
 z9o a0 a2 >>= fun r4 =>
 zc7 a0 >>= fun r6 =>
 (iter (za7 r2 r4 r6) ([],0)) >>= fun s8 =>
 some s8
def z67 (a0:List (List UInt8)):Option ((List (List UInt8))) :=
 app 24 ([]:List (List UInt8)) a0 >>= fun x3 =>
 some x3
theorem zfp (a0:List (List UInt8)):z1u Tryz.prog 90 [.rd (z02 (z02 u8R)) a0] [] (z67 a0) (fun r nv=>⟨[.val (nv 0)],[(100,some (nv 0,.list (z02 u8R) 75 r))]⟩):=by
 refine z2d 8 Tryz.func90 Z Z Z fun H w=>?_
 refine gSR<|Zb Z<|z0s<|gSR<|Zm Z<|z16e Z Z .rd Z tu42 (fun h1=>?_) ?_
 ·
  subst h1
  refine Zn<|zir Z<|gSR<|Zb Z<|z0k<|z0w<|zuf (z02 u8R) 75 1<|Ze [(.slice none 0 0)] [1] Z
 ·
  refine Zn<|zgp Z<|Zt<|gSR<|Ef Z (lit (R:=(z02 u8R)) (([]:List (List UInt8)):List (List UInt8)) 2 (pN) Z tu42 zpy Z Z) fun v2=>Zm Z<|z0n fun x3 h4=>Ef Z (apn 2 Z Z Z .rd h4 tu42 zpy Z Z Z) fun v5=>Zb Z<|z0k<|Ze [v5] [2] Z
def zic (a0:UInt8):Option (Bool) :=
 if decide (2≤a0) then
  some (decide (a0≤4)) >>= fun y2 =>
  some y2
 else
  some false
theorem zpk (a0:UInt8):z1u Tryz.prog 98 [.rd u8R a0] [] (zic a0) (fun r nv=>⟨[.rd z0j r],[]⟩):=by
 refine z2d 9 Tryz.func98 Z Z Z fun H w=>?_
 refine gSR<|Zb Z<|gSR<|Zm Z<|Zq (B.geq Z Z)<|Zm Z<|z1b 5 Z (fun h1=>?_) (fun h1=>?_)
 ·
  refine lKn 4 Z h1<|z17 Zx Z Z (mv Z)<|z17 Zx Z Z (B.leq Z Z)<|Zq (pkT Z Z)<|Za Z<|z1t 2 Z fun y2=>Zn<|z0k<|Ze [] [] Z
 ·
  refine lKn 4 Z h1<|Zk Z<|Zk Z<|Zq (pkF Z Z)<|Zb Z<|z0k<|Ze [] [] Z
def zoh (a0:List V3) (s2:Int):Option (Sum (Sum Bool Unit) Int) :=
 if decide (s2<(a0.length:Int)) then
  idx a0 (w64 (s2 - 1)) >>= fun x4 =>
  idx a0 s2 >>= fun x6 =>
  za3 x4 x6 >>= fun r8 =>
  if decide (0≤r8) then
   some (.inl (.inl false))
  else
   some (.inr (w64 (s2+1)))
 else
  some (.inl (.inr ()))
def zn3 (a0:List V3):Option (Bool) :=
 z5g (iter (zoh a0) 1) fun s1 =>
 some true
theorem zox (a0:List V3):z1u Tryz.prog 99 [.rd (z02 aZ) a0] [] (zn3 a0) (fun r nv=>⟨[.rd z0j r],[]⟩):=by
 refine z2d 21 Tryz.func99 Z Z Z fun H w=>?_
 refine gSR<|Zb Z<|z8c (fun (s1:Unit) aa ww=>Sta (ctx 21 H [] w) [] [] aa ww) ?_ (fun s1=>?_)
 ·
  refine gSR<|Zb Z<|z26 (fun (s2:Int) aa ww=>Sta (ctx 21 H [] w) [(0,.rd (z02 aZ) a0),(3,.rd z0e s2)] [] aa ww) (fun aa ww h=>Zu h []) (fun s2=>?_)
  refine z0s<|gSR<|Zm Z<|Zm Z<|Zq (z3g Z .rd Z tu22)<|Zq (I.lss Z Z)<|Zj Z (fun h3=>?_) (fun h3=>?_)
  ·
   refine Zt<|z0s<|z4y<|z0s<|z99 [] mixed Z Z<|hTk 0 Z Z (mv Z)<|hTk 1 Z Z (mv Z)<|hTk 2 Z Z (I.sub Z Z)<|z64 fun x4 h5=>hTk 3 Z Z (ixR Z Z h5 tu22 z2b Z)<|hTk 4 Z Z (ldR Z z43)<|hTk 5 Z Z (mv Z)<|hTk 6 Z Z (mv Z)<|z64 fun x6 h7=>hTk 7 Z Z (ixR Z Z h7 tu22 z2b Z)<|hTk 8 Z Z (ldR Z z43)<|z4e 9 [] [] Z (by kernel_rfl) Z (gd0 Z) Z Tryz.func105 Z Z (zb3 _ _) (Y2 Z Z) rN Z (fun _ _=>z34) fun r8 n9=>hTk 10 Z Z (I.geq Z Z)<|z5a (by kernel_rfl)<|z0o<|gIf Z Z (fun h10=>?_) (fun h10=>?_)
   ·
    refine gSR<|Zb Z<|z0k<|z42<|z0w<|z7g<|z7a<|Ze [] [] Z
   ·
    refine z2m<|z35<|z0o<|z2e<|Zm Z<|Zq (I.add Z Z)<|Za Z<|z1q<|z1k (fun aa ww h=>Zu h [])
  ·
   refine z1s<|z0x<|z0y<|z79 (fun aa ww h=>Zu h [])
 ·
  refine gSR<|Zb Z<|z0k<|Ze [] [] Z
def z89 (a0:z2f) (s29:(List UInt8) × Bool × Int):Option (Sum ((List UInt8) × Bool) ((List UInt8) × Bool × Int)) :=
 if s29.2.1 then
  if decide (s29.2.2<(a0.Ops.length:Int)) then
   idx a0.Ops s29.2.2 >>= fun x33 =>
   zdk x33 >>= fun r35 =>
   app 1 s29.1 r35.1 >>= fun x37 =>
   idx a0.Ops s29.2.2 >>= fun x40 =>
   some (decide ((x40.length:Int)≤400)) >>= fun y42 =>
   some (w64 (s29.2.2+1)) >>= fun y43 =>
   some (.inr (x37,y42,y43))
  else
   some (.inl (s29.1,true))
 else
  some (.inl (s29.1,false))
def zh6 (a0:z2f):Option ((List UInt8) × Bool) :=
 (zic a0.Kind >>= fun r4 =>
 if r4 then
  (if a0.N==0 then
   if (a0.Ops.length:Int)==0 then
    if decide ((a0.IDs.length:Int)≤40) then
     zn3 a0.IDs >>= fun r11 =>
     some r11
    else
     some false
   else
    some false
  else
   some false) >>= fun s7 =>
  if s7 then
   zl3 a0.IDs >>= fun r14 =>
   app 1 [a0.Kind] r14.1 >>= fun x16 =>
   some (x16,true)
  else
   some ([a0.Kind],false)
 else
  if a0.Kind==5 then
   (if a0.N==0 then
    if (a0.IDs.length:Int)==0 then
     some (decide ((a0.Ops.length:Int)≤8)) >>= fun y23 =>
     some y23
    else
     some false
   else
    some false) >>= fun s20 =>
   z54 (UInt64.ofInt (a0.Ops.length:Int)) >>= fun r24 =>
   app 1 [a0.Kind] r24 >>= fun x26 =>
   iter (z89 a0) (x26,s20,0)
  else
   (if a0.Kind==1 then
    some true
   else
    some (a0.Kind==6)) >>= fun s44 =>
   if s44 then
    (if (a0.IDs.length:Int)==0 then
     some ((a0.Ops.length:Int)==0) >>= fun y49 =>
     some y49
    else
     some false) >>= fun s47 =>
    z54 a0.N >>= fun r50 =>
    app 1 [a0.Kind] r50 >>= fun x52 =>
    some (x52,s47)
   else
    some ([a0.Kind],false)) >>= fun s3 =>
 if s3.2 then
  some (decide ((s3.1.length:Int)≤2000)) >>= fun y57 =>
  some (s3.1,y57)
 else
  some (s3.1,false)
theorem zq8 (a0:z2f):z1u Tryz.prog 62 [.rd z2p a0] [] (zh6 a0) (fun r nv=>⟨[.val (nv 0),.rd z0j r.2],[(100,some (nv 0,.list u8R 5 r.1))]⟩):=by
 refine z2d 132 Tryz.func62 Z Z Z fun H w=>?_
 refine gSR<|Eb Z (bx 1 Z) fun v1=>Za Z<|Zb Z<|gSR<|Zq (faB 1 Z Z Tryz.underlying44 Z (by exact ti5))<|Zq (ld 1 Z Z (fP (z6k _)) ty5 Z)<|Ef Z (lit (R:=u8R) ([a0.Kind]:List UInt8) 2 (pP Z Z<|pN) Z tu75 ti5 Z Z) fun v2=>Zb Z<|gSR<|Zb Z<|z8n (fun (s3:(List UInt8) × Bool) aa ww=>∃ nv:Nat→Value,Sta (ctx 132 H [] w) [(4,.val (nv 0)),(5,.rd z0j s3.2)] [(2,some ((nv 0),.list u8R 5 s3.1))] aa ww) ?_ (fun s3=>?_)
 ·
  refine z4y<|gSR<|Zq (faB 1 Z Z Tryz.underlying44 Z (by exact ti5))<|Zq (ld 1 Z Z (fP (z6k _)) ty5 Z)<|Zc [] [] Tryz.func98 Z (zpk _) fun r4 n5=>Zb Z<|gIf Z Z (fun h6=>?_) (fun h6=>?_)
  ·
   refine gKn 17 Z h6<|z8n (fun (s7:Bool) aa ww=>Sta (ctx 132 H [] w) [(1,.val (z06 v1 0)),(4,.val v2),(5,.rd z0j s7)] [(1,some (v1,.box 44 [.rd z2p a0])),(2,some (v2,.list u8R 5 [a0.Kind]))] aa ww) ?_ (fun s7=>?_)
   ·
    refine z2e<|Zq (faB 1 Z Z Tryz.underlying44 Z (by exact zsa))<|Zq (ld 1 Z Z (fP (zgc _)) zry Z)<|Zq (U.eql Z Z)<|Zm Z<|z1b 21 Z (fun h8=>?_) (fun h8=>?_)
    ·
     refine lKn 20 Z h8<|z17 Zx Z Z (faB 1 Z Z Tryz.underlying44 Z (by exact ti42))<|z17 Zx Z Z (ld 1 Z Z (fP (z44 _)) ty42 Z)<|z17 Zx Z Z (z3g Z .rd Z tu42)<|z17 Zx Z Z (I.eql Z Z)<|Zq (pkT Z Z)<|Zm Z<|z1b 27 Z (fun h9=>?_) (fun h9=>?_)
     ·
      refine lKn 25 Z h9<|lKn 26 Z h9<|z17 Zx Z Z (faB 1 Z Z Tryz.underlying44 Z (by exact z6e))<|z17 Zx Z Z (ld 1 Z Z (fP (z9z _)) z8j Z)<|z17 Zx Z Z (z3g Z .rd Z tu22)<|z17 Zx Z Z (I.leq Z Z)<|Zq (pkT Z Z)<|Zm Z<|z1b 33 Z (fun h10=>?_) (fun h10=>?_)
      ·
       refine lKn 31 Z h10<|lKn 32 Z h10<|z17 Zx Z Z (faB 1 Z Z Tryz.underlying44 Z (by exact z6e))<|z17 Zx Z Z (ld 1 Z Z (fP (z9z _)) z8j Z)<|zdb [] [] Zx Z Tryz.func99 Z Z (zox _) (Y1 Z) rN fun r11 n12=>Zq (pkT Z Z)<|Za Z<|z1q<|z3n (fun aa ww h=>Zu h [1,2])
      ·
       refine lKn 31 Z h10<|lKn 32 Z h10<|Zk Z<|Zk Z<|Zk Z<|Zq (pkF Z Z)<|Za Z<|z1q<|z3n (fun aa ww h=>Zu h [1,2])
     ·
      refine lKn 25 Z h9<|lKn 26 Z h9<|Zk Z<|Zk Z<|Zk Z<|Zk Z<|Zq (pkF Z Z)<|Zm Z<|Zk Z<|Zk Z<|Zk Z<|Zq (pkF Z Z)<|Za Z<|z1q<|z3n (fun aa ww h=>Zu h [1,2])
    ·
     refine lKn 20 Z h8<|Zk Z<|Zk Z<|Zk Z<|Zk Z<|Zq (pkF Z Z)<|Zm Z<|Zk Z<|Zk Z<|Zk Z<|Zk Z<|Zq (pkF Z Z)<|Zm Z<|Zk Z<|Zk Z<|Zk Z<|Zq (pkF Z Z)<|Za Z<|z1q<|z3n (fun aa ww h=>Zu h [1,2])
   ·
    refine gSR<|Zm Z<|Zj Z (fun h13=>?_) (fun h13=>?_)
    ·
     refine gKn 5 Z h13<|gSR<|Zq (faB 1 Z Z Tryz.underlying44 Z (by exact z6e))<|Zq (ld 1 Z Z (fP (z9z _)) z8j Z)<|Zc [] [(100,3)] Tryz.func100 Z (zog _) fun r14 n15=>Zm Z<|Zq (ext Z Z)<|Zq (ext Z Z)<|Za Z<|Zb Z<|z2e<|Zm Z<|Zm Z<|z0n fun x16 h17=>Ef Z (apn 2 Z Z Z (.own 3 Z) h17 tu75 ti5 Z Z Z) fun v18=>Za Z<|z1q<|z35<|z3n (fun aa ww h=>⟨nvl [v18],Zu h [2]⟩)
    ·
     refine gKn 5 Z h13<|z2m<|z35<|z3n (fun aa ww h=>⟨nvl [v2],Zu h [2]⟩)
  ·
   refine gKn 17 Z h6<|gSR<|Zq (faB 1 Z Z Tryz.underlying44 Z (by exact ti5))<|Zq (ld 1 Z Z (fP (z6k _)) ty5 Z)<|Zq (B.eql Z Z)<|Zb Z<|gIf Z Z (fun h19=>?_) (fun h19=>?_)
   ·
    refine gKn 51 Z h19<|z8n (fun (s20:Bool) aa ww=>Sta (ctx 132 H [] w) [(1,.val (z06 v1 0)),(4,.val v2),(5,.rd z0j s20)] [(1,some (v1,.box 44 [.rd z2p a0])),(2,some (v2,.list u8R 5 [a0.Kind]))] aa ww) ?_ (fun s20=>?_)
    ·
     refine z2e<|Zq (faB 1 Z Z Tryz.underlying44 Z (by exact zsa))<|Zq (ld 1 Z Z (fP (zgc _)) zry Z)<|Zq (U.eql Z Z)<|Zm Z<|z1b 55 Z (fun h21=>?_) (fun h21=>?_)
     ·
      refine lKn 54 Z h21<|z17 Zx Z Z (faB 1 Z Z Tryz.underlying44 Z (by exact z6e))<|z17 Zx Z Z (ld 1 Z Z (fP (z9z _)) z8j Z)<|z17 Zx Z Z (z3g Z .rd Z tu22)<|z17 Zx Z Z (I.eql Z Z)<|Zq (pkT Z Z)<|Zm Z<|z1b 61 Z (fun h22=>?_) (fun h22=>?_)
      ·
       refine lKn 59 Z h22<|lKn 60 Z h22<|z17 Zx Z Z (faB 1 Z Z Tryz.underlying44 Z (by exact ti42))<|z17 Zx Z Z (ld 1 Z Z (fP (z44 _)) ty42 Z)<|z17 Zx Z Z (z3g Z .rd Z tu42)<|z17 Zx Z Z (I.leq Z Z)<|Zq (pkT Z Z)<|Za Z<|z1t 5 Z fun y23=>z1q<|z3n (fun aa ww h=>Zu h [1,2])
      ·
       refine lKn 59 Z h22<|lKn 60 Z h22<|Zk Z<|Zk Z<|Zk Z<|Zk Z<|Zq (pkF Z Z)<|Za Z<|z1q<|z3n (fun aa ww h=>Zu h [1,2])
     ·
      refine lKn 54 Z h21<|Zk Z<|Zk Z<|Zk Z<|Zk Z<|Zq (pkF Z Z)<|Zm Z<|Zk Z<|Zk Z<|Zk Z<|Zk Z<|Zq (pkF Z Z)<|Za Z<|z1q<|z3n (fun aa ww h=>Zu h [1,2])
    ·
     refine gSR<|Zm Z<|Zq (faB 1 Z Z Tryz.underlying44 Z (by exact ti42))<|Zq (ld 1 Z Z (fP (z44 _)) ty42 Z)<|Zq (z3g Z .rd Z tu42)<|Zq (I.toU Z tu3 tu41)<|Zc [] [(100,4)] Tryz.func101 Z (z59 _) fun r24 n25=>z0n fun x26 h27=>Ef Z (apn 2 Z Z Z (.own 4 Z) h27 tu75 ti5 Z Z Z) fun v28=>Zb Z<|gSR<|Zb Z<|z26 (fun (s29:(List UInt8) × Bool × Int) aa ww=>∃ nv:Nat→Value,Sta (ctx 132 H [] w) [(1,.val (z06 v1 0)),(4,.val (nv 0)),(5,.rd z0j s29.2.1),(8,.rd z0e s29.2.2)] [(1,some (v1,.box 44 [.rd z2p a0])),(2,some ((nv 0),.list u8R 5 s29.1))] aa ww) (fun aa ww h=>⟨nvl [v28],Zu h [1,2]⟩) (fun s29=>?_)
     refine gEx fun n30=>z0s<|gSR<|Zm Z<|Zm Z<|z1b 75 Z (fun h31=>?_) (fun h31=>?_)
     ·
      refine lKn 5 Z h31<|lKn 74 Z h31<|z17 Zx Z Z (mv Z)<|z17 Zx Z Z (faB 1 Z Z Tryz.underlying44 Z (by exact ti42))<|z17 Zx Z Z (ld 1 Z Z (fP (z44 _)) ty42 Z)<|z17 Zx Z Z (z3g Z .rd Z tu42)<|z17 Zx Z Z (I.lss Z Z)<|Zq (pkT Z Z)<|Zj Z (fun h32=>?_) (fun h32=>?_)
      ·
       refine gKn 80 Z h32<|Zt<|z0s<|z4y<|gSR<|Zq (faB 1 Z Z Tryz.underlying44 Z (by exact ti42))<|Zq (ld 1 Z Z (fP (z44 _)) ty42 Z)<|Zm Z<|z0n fun x33 h34=>Zq (ixR Z Z h34 tu42 zpy Z)<|Zq (ldR Z ty75)<|Zc [] [(100,5)] Tryz.func102 Z (zhb _) fun r35 n36=>Zm Z<|Zq (ext Z Z)<|Zq (ext Z Z)<|Za Z<|Zb Z<|gSR<|Zm Z<|Zm Z<|z0n fun x37 h38=>Ef Z (apn 2 Z Z Z (.own 5 Z) h38 tu75 ti5 Z Z Z) fun v39=>Zb Z<|z2e<|Zq (faB 1 Z Z Tryz.underlying44 Z (by exact ti42))<|Zq (ld 1 Z Z (fP (z44 _)) ty42 Z)<|Zm Z<|z0n fun x40 h41=>Zq (ixR Z Z h41 tu42 zpy Z)<|Zq (ldR Z ty75)<|Zq (z3g Z .rd Z tu75)<|Zq (I.leq Z Z)<|Za Z<|z1t 5 Z fun y42=>z1q<|z35<|z0o<|z2e<|Zm Z<|Zq (I.add Z Z)<|Za Z<|z1t 8 Z fun y43=>z1q<|z1k (fun aa ww h=>⟨nvl [v39],Zu h [1,2]⟩)
      ·
       refine gKn 80 Z h32<|z1s<|z0x<|z0y<|z35<|z3n (fun aa ww h=>⟨nvl [(n30 0)],Zu h [2]⟩)
     ·
      refine lKn 5 Z h31<|lKn 74 Z h31<|Zk Z<|Zk Z<|Zk Z<|Zk Z<|Zk Z<|Zq (pkF Z Z)<|Zn<|zgp Z<|z1s<|z0x<|z0y<|z35<|z3n (fun aa ww h=>⟨nvl [(n30 0)],Zu h [2]⟩)
   ·
    refine gKn 51 Z h19<|z8n (fun (s44:Bool) aa ww=>Sta (ctx 132 H [] w) [(1,.val (z06 v1 0)),(4,.val v2),(5,.rd z0j false),(103,.rd z0j s44)] [(1,some (v1,.box 44 [.rd z2p a0])),(2,some (v2,.list u8R 5 [a0.Kind]))] aa ww) ?_ (fun s44=>?_)
    ·
     refine gSR<|Zq (faB 1 Z Z Tryz.underlying44 Z (by exact ti5))<|Zq (ld 1 Z Z (fP (z6k _)) ty5 Z)<|Zq (B.eql Z Z)<|Zb Z<|gIf Z Z (fun h45=>?_) (fun h45=>?_)
     ·
      refine gKn 106 Z h45<|z2m<|z3n (fun aa ww h=>Zu h [1,2])
     ·
      refine gKn 106 Z h45<|z2e<|Zq (faB 1 Z Z Tryz.underlying44 Z (by exact ti5))<|Zq (ld 1 Z Z (fP (z6k _)) ty5 Z)<|Zq (B.eql Z Z)<|Za Z<|z1q<|z3n (fun aa ww h=>Zu h [1,2])
    ·
     refine gIf Z Z (fun h46=>?_) (fun h46=>?_)
     ·
      refine z8n (fun (s47:Bool) aa ww=>Sta (ctx 132 H [] w) [(1,.val (z06 v1 0)),(4,.val v2),(5,.rd z0j s47)] [(1,some (v1,.box 44 [.rd z2p a0])),(2,some (v2,.list u8R 5 [a0.Kind]))] aa ww) ?_ (fun s47=>?_)
      ·
       refine z2e<|Zq (faB 1 Z Z Tryz.underlying44 Z (by exact z6e))<|Zq (ld 1 Z Z (fP (z9z _)) z8j Z)<|Zq (z3g Z .rd Z tu22)<|Zq (I.eql Z Z)<|Zm Z<|z1b 114 Z (fun h48=>?_) (fun h48=>?_)
       ·
        refine lKn 113 Z h48<|z17 Zx Z Z (faB 1 Z Z Tryz.underlying44 Z (by exact ti42))<|z17 Zx Z Z (ld 1 Z Z (fP (z44 _)) ty42 Z)<|z17 Zx Z Z (z3g Z .rd Z tu42)<|z17 Zx Z Z (I.eql Z Z)<|Zq (pkT Z Z)<|Za Z<|z1t 5 Z fun y49=>z1q<|z3n (fun aa ww h=>Zu h [1,2])
       ·
        refine lKn 113 Z h48<|Zk Z<|Zk Z<|Zk Z<|Zk Z<|Zq (pkF Z Z)<|Za Z<|z1q<|z3n (fun aa ww h=>Zu h [1,2])
      ·
       refine z2e<|Zm Z<|Zq (faB 1 Z Z Tryz.underlying44 Z (by exact zsa))<|Zq (ld 1 Z Z (fP (zgc _)) zry Z)<|Zc [] [(100,6)] Tryz.func101 Z (z59 _) fun r50 n51=>z0n fun x52 h53=>Ef Z (apn 2 Z Z Z (.own 6 Z) h53 tu75 ti5 Z Z Z) fun v54=>Za Z<|z1q<|z35<|z3n (fun aa ww h=>⟨nvl [v54],Zu h [2]⟩)
     ·
      refine z2m<|z35<|z3n (fun aa ww h=>⟨nvl [v2],Zu h [2]⟩)
 ·
  refine gEx fun n55=>gSR<|Zm Z<|Zm Z<|Zm Z<|z1b 127 Z (fun h56=>?_) (fun h56=>?_)
  ·
   refine lKn 5 Z h56<|lKn 126 Z h56<|z17 Zx Z Z (mv Z)<|z17 Zx Z Z (z3g Z (.own 2 Z) Z tu75)<|z17 Zx Z Z (I.leq Z Z)<|Zq (pkT Z Z)<|Za Z<|Za Z<|z1t 3 Z fun y57=>Zn<|z0k<|Ze [(n55 0)] [2] Z
  ·
   refine lKn 5 Z h56<|lKn 126 Z h56<|Zk Z<|Zk Z<|Zk Z<|Zq (pkF Z Z)<|Za Z<|Zb Z<|z0k<|Ze [(n55 0)] [2] Z
def zh7 (a0:z2f):Option (Int) :=
 zh6 a0 >>= fun r2 =>
 if !r2.2 then
  some 8
 else
  some 0
theorem zq7 (a0:z2f):z1u Tryz.prog 35 [.rd z2p a0] [] (zh7 a0) (fun r nv=>⟨[.rd z0e r],[]⟩):=by
 refine z2d 12 Tryz.func35 Z Z Z fun H w=>?_
 refine gSR<|Eb Z (bx 1 Z) fun v1=>Zb Z<|z0s<|gSR<|Zq (ld 1 Z Z fH ty44 Z)<|Zc [] [(100,2)] Tryz.func62 Z (zq8 _) fun r2 n3=>Zm Z<|Zq (ext Z Z)<|Zq (ext Z Z)<|Za Z<|Zb Z<|gSR<|Zm Z<|Zq (zfl Z)<|Zj Z (fun h4=>?_) (fun h4=>?_)
 ·
  refine gSR<|Zb Z<|z0k<|z0w<|Ze [] [] Z
 ·
  refine Zt<|gSR<|Zb Z<|z0k<|Ze [] [] Z
def z5e (a0:z00) (a1:List V3) (s3:(List z2f) × Int):Option (Sum ((List z2f)) ((List z2f) × Int)) :=
 if decide (s3.2<(a1.length:Int)) then
  idx a1 s3.2 >>= fun x6 =>
  zk8 a0 x6 >>= fun r9 =>
  ze2 r9.1 >>= fun r12 =>
  z5g (some (s3.1.length:Int) >>= fun y15 =>
  if decide (0<y15) then
   idx s3.1 (w64 (y15 - 1)) >>= fun x17 =>
   z67 x17.Ops >>= fun r20 =>
   app 24 r20 [r12.1] >>= fun x23 =>
   zh7 (⟨x17.Kind,x17.N,x17.IDs,x23⟩:z2f) >>= fun r26 =>
   if r26==0 then
    idx s3.1 (w64 (y15 - 1)) >>= fun x29 =>
    some (.inl (.inr (s3.1.set (w64 (y15 - 1):Int).toNat (⟨x17.Kind,x17.N,x17.IDs,x23⟩:z2f),w64 (s3.2+1))))
   else
    some (.inr r12.1)
  else
   some (.inr r12.1)) fun s14 =>
  app 64 s3.1 [(⟨5,0,[],[s14]⟩:z2f)] >>= fun x33 =>
  some (.inr (x33,w64 (s3.2+1)))
 else
  some (.inl s3.1)
def zg7 (a0:z00) (a1:List V3):Option ((List z2f)) :=
 (iter (z5e a0 a1) ([],0)) >>= fun s2 =>
 some s2
theorem zpi (a0:z00) (a1:List V3):z1u Tryz.prog 51 [.rd z01 a0,.rd (z02 aZ) a1] [zG1] (zg7 a0 a1) (fun r nv=>⟨[.val (nv 0)],[(1001,some (.bool true,.glob 1 (z3j 64 z0p) z65)),(100,some (nv 0,.list z2p 44 r))]⟩):=by
 refine z2d 63 Tryz.func51 Z Z Z fun H w=>?_
 refine gSR<|Eb Z (bx 1 Z) fun v1=>Zb Z<|gSR<|Zb Z<|z8n (fun (s2:(List z2f)) aa ww=>∃ nv:Nat→Value,Sta (ctx 63 H [zG1] w) [(5,.val (nv 0))] [(1107,some ((nv 0),.list z2p 44 s2)),zG1] aa ww) ?_ (fun s2=>?_)
 ·
  refine gSR<|Zm Z<|Zq (z3g Z .rd Z tu22)<|Zm Z<|Zn<|zxu z2p 44 1119<|z26 (fun (s3:(List z2f) × Int) aa ww=>∃ nv:Nat→Value,Sta (ctx 63 H [zG1] w) [(2,.val (z06 v1 0)),(5,.val (nv 0)),(14,.rd (z02 aZ) a1),(15,.rd z0e (a1.length:Int)),(16,.rd z0e s3.2)] [(1,some (v1,.box 25 [.rd z01 a0])),(1118,some ((nv 0),.list z2p 44 s3.1)),zG1] aa ww) (fun aa ww h=>⟨nvl [(.slice none 0 0)],Zu h [1,1119,1001]⟩) (fun s3=>?_)
  refine gEx fun n4=>gSR<|Zq (I.lss Z Z)<|Zn<|z0s<|gIf Z Z (fun h5=>?_) (fun h5=>?_)
  ·
   refine Zt<|z0s<|z4y<|gSR<|z0n fun x6 h7=>Zq (ixR Z Z h7 tu22 z2b Z)<|Zq (ldR Z z43)<|Eb Z (z56 1120 z2b (.zr (R:=aZ) (x:=(Vector.replicate 32 0)) zgg)) fun v8=>Es (sto 1120 Z Z fH Z z2b)<|Zn<|gSR<|Zq (ld 1 Z Z fH z3v Z)<|Zq (ld 1120 Z Z fH z43 Z)<|Zc [1001] [] Tryz.func88 Z (zqh _ _) fun r9 n10=>Zm Z<|Zq (ext Z Z)<|Zq (ext Z Z)<|Eb Z (z56 1121 z5n (ZrE.rd (R:=z0p) (x:=0) (Zr.num Z) (ZrE.nilS (ZrE.rd (R:=z2c) (x:=0) (Zr.num Z) (ZrE.rd (R:=z0f) (x:=(⟨0,[],(⟨0,0,0,[]⟩:z04)⟩:z0h)) zn8 (ZrE.rd (R:=z0g) (x:=(⟨0,0⟩:z0c)) zm6 ZrE.nil Z) Z) Z)) Z)) fun v11=>za6 aZ [.rd z0p 0,.rd (z02 aZ) [],.rd z2c 0,.rd z0f (⟨0,[],(⟨0,0,0,[]⟩:z04)⟩:z0h),.rd z0g (⟨0,0⟩:z0c)] 1121 [.rd z0p 0] [.rd z2c 0,.rd z0f (⟨0,[],(⟨0,0,0,[]⟩:z04)⟩:z0h),.rd z0g (⟨0,0⟩:z0c)] Z Z Z<|zd3 (R:=z03) (⟨0,[],0,(⟨0,[],(⟨0,0,0,[]⟩:z04)⟩:z0h),(⟨0,0⟩:z0c)⟩:z07) 1121 Z (Sp.via (Sp.prod (Sp.prod (Sp.prod (Sp.prod (Sp.prod Sp.unit))))))<|Es (sto 1121 Z Z fH Z z5n)<|Zb Z<|gSR<|Zq (ld 1121 Z Z fH z9n Z)<|Zc [] [(100,1122)] Tryz.func89 Z (zn1 _) fun r12 n13=>Zm Z<|Zq (ext Z Z)<|Zq (ext Z Z)<|Za Z<|Zb Z<|z8c (fun (s14:(List UInt8)) aa ww=>Sta (ctx 63 H [zG1] w) [(2,.val (z06 v1 0)),(5,.val (n4 0)),(10,.rd (z02 u8R) s14),(14,.rd (z02 aZ) a1),(15,.rd z0e (a1.length:Int)),(16,.rd z0e s3.2)] [(1,some (v1,.box 25 [.rd z01 a0])),(1118,some ((n4 0),.list z2p 44 s3.1)),zG1] aa ww) ?_ (fun s14=>?_)
   ·
    refine gSR<|Zm Z<|Zq (z3g Z (.own 1118 Z) Z tu35)<|Za Z<|z1t 12 Z fun y15=>Zn<|gSR<|Zm Z<|Zq (I.gtr Z Z)<|Zj Z (fun h16=>?_) (fun h16=>?_)
    ·
     refine gSR<|Zm Z<|Zm Z<|Zq (I.sub Z Z)<|z0n fun x17 h18=>Zq (ixO 1118 Z Z Z h18 tu35 ti44)<|Zq (ld 1118 Z Z (Foc.el h18) ty44 Z)<|Eb Z (z56 1123 ti44 (ZrE.rd (R:=u8R) (x:=0) (Zr.num Z) (ZrE.rd (R:=z2c) (x:=0) (Zr.num Z) (ZrE.nilS (ZrE.nilS ZrE.nil)) Z) Z)) fun v19=>za6 aZ [.rd u8R 0,.rd z2c 0,.rd (z02 aZ) [],.val (.slice none 0 0)] 1123 [.rd u8R 0,.rd z2c 0] [.val (.slice none 0 0)] Z Z Z<|za6 (z02 u8R) [.rd u8R 0,.rd z2c 0,.rd (z02 aZ) [],.rd (z02 (z02 u8R)) []] 1123 [.rd u8R 0,.rd z2c 0,.rd (z02 aZ) []] [] Z Z Z<|zd3 (R:=z2p) (⟨0,0,[],[]⟩:z2f) 1123 Z (Sp.via (Sp.prod (Sp.prod (Sp.prod (Sp.prod Sp.unit)))))<|Es (sto 1123 Z Z fH Z ti44)<|Zn<|gSR<|Zq (faB 1123 Z Z Tryz.underlying44 Z (by exact ti42))<|Zq (ld 1123 Z Z (fP (z44 _)) ty42 Z)<|Zc [] [(100,1124)] Tryz.func90 Z (zfp _) fun r20 n21=>Zm Z<|zh0 1122 [29,10,43] Z (fS Z<|fS Z<|fS Z<|fN)<|Ef Z (lit (R:=(z02 u8R)) ([r12.1]:List (List UInt8)) 1125 (pP Z Z<|pN) Z tu42 zpy Z Z) fun v22=>zh0 1125 [44] Z (fS Z<|fN)<|z0n fun x23 h24=>Ef Z (apn 1124 Z Z Z .rd h24 tu42 zpy Z Z Z) fun v25=>Zq (faB 1123 Z Z Tryz.underlying44 Z (by exact ti42))<|lSpl (R:=z2p) 1123 Z (Sp.via (Sp.prod (Sp.prod (Sp.prod (Sp.prod Sp.unit)))))<|Es (zpj 1123 Z Z (zao.cast (zao.next z19 (zao.next z19 (zao.next z19 (zao.here z19)))) Z) Z z0q z05 ti42)<|Zn<|gSR<|zyt [.rd u8R x17.Kind,.rd z2c x17.N,.rd (z02 aZ) x17.IDs,.rd (z02 (z02 u8R)) x23] 1123 1124 [.rd u8R x17.Kind,.rd z2c x17.N,.rd (z02 aZ) x17.IDs] [] Z Z Z Z Z<|zd3 (R:=z2p) (⟨x17.Kind,x17.N,x17.IDs,x23⟩:z2f) 1123 Z (Sp.via (Sp.prod (Sp.prod (Sp.prod (Sp.prod Sp.unit)))))<|Zq (ld 1123 Z Z fH ty44 Z)<|Zc [] [] Tryz.func35 Z (zq7 _) fun r26 n27=>Zq (I.eql Z Z)<|Zj Z (fun h28=>?_) (fun h28=>?_)
     ·
      refine gSR<|Zm Z<|Zm Z<|Zq (I.sub Z Z)<|Zq (ld 1123 Z Z fH ty44 Z)<|z0n fun x29 h30=>Zq (ixO 1118 Z Z Z h30 tu35 ti44)<|Es (sto 1118 Z Z (Foc.el h30) Z ti44)<|Zn<|z1s<|z18z<|z15v<|z0o<|z2e<|Zq (I.add Z Z)<|Zm Z<|z1q<|z1k (fun aa ww h=>⟨nvl [(n4 0)],Zu h [1,1118,1001]⟩)
     ·
      refine z2m<|z79 (fun aa ww h=>Zu h [1,1118,1001])
    ·
     refine z2m<|eFrz 1122 [29,10] Z (fS Z<|fS Z<|fN)<|z79 (fun aa ww h=>Zu h [1,1118,1001])
   ·
    refine z2e<|Zm Z<|Zm Z<|Ef Z (lit (R:=(z02 u8R)) ([s14]:List (List UInt8)) 1126 (pP Z Z<|pN) Z tu42 zpy Z Z) fun v31=>zh0 1126 [57] Z (fS Z<|fN)<|Zq (bld (x':=(⟨5,0,[],[s14]⟩:z2f)) [(0,1),(1,1),(2,1),(3,1)] Tryz.underlying44 ti44 Z zr44 Z (Bld.cons (z6k _) Z Z<|Bld.cons (z44 _) Z Z<|Bld.done Z))<|Ef Z (lit (R:=z2p) ([(⟨5,0,[],[s14]⟩:z2f)]:List z2f) 1127 (pP Z Z<|pN) Z tu35 ti44 Z Z) fun v32=>zh0 1127 [59] Z (fS Z<|fN)<|z0n fun x33 h34=>Ef Z (apn 1118 Z Z Z .rd h34 tu35 ti44 Z Z Z) fun v35=>Za Z<|z1q<|z35<|z0o<|z2e<|Zq (I.add Z Z)<|Zm Z<|z1q<|z1k (fun aa ww h=>⟨nvl [v35],Zu h [1,1118,1001]⟩)
  ·
   refine z1s<|z0x<|z0y<|z3n (fun aa ww h=>⟨nvl [(n4 0)],Zu h [1118,1001]⟩)
 ·
  refine gEx fun n36=>gSR<|Zm Z<|Zb Z<|z0k<|Ze [(n36 0)] [1001,1107] Z
def zaf (a0:List V3) (a1:List V3) (s3:Int):Option (Sum (Sum Bool Unit) Int) :=
 if decide (s3<(a0.length:Int)) then
  idx a0 s3 >>= fun x5 =>
  idx a1 s3 >>= fun x7 =>
  if !decide (x5=x7) then
   some (.inl (.inl false))
  else
   some (.inr (w64 (s3+1)))
 else
  some (.inl (.inr ()))
def z90 (a0:List V3) (a1:List V3):Option (Bool) :=
 if (a0.length:Int) != (a1.length:Int) then
  some false
 else
  z5g (iter (zaf a0 a1) 0) fun s2 =>
  some true
theorem zcp (a0:List V3) (a1:List V3):z1u Tryz.prog 21 [.rd (z02 aZ) a0,.rd (z02 aZ) a1] [] (z90 a0 a1) (fun r nv=>⟨[.rd z0j r],[]⟩):=by
 refine z2d 26 Tryz.func21 Z Z Z fun H w=>?_
 refine gSR<|Zb Z<|z0s<|gSR<|Zm Z<|Zq (z3g Z .rd Z tu22)<|Zm Z<|Zq (z3g Z .rd Z tu22)<|Zq (I.neq Z Z)<|Zj Z (fun h1=>?_) (fun h1=>?_)
 ·
  refine gSR<|Zb Z<|z0k<|z0w<|Ze [] [] Z
 ·
  refine Zt<|z8c (fun (s2:Unit) aa ww=>Sta (ctx 26 H [] w) [] [] aa ww) ?_ (fun s2=>?_)
  ·
   refine gSR<|Zb Z<|z26 (fun (s3:Int) aa ww=>Sta (ctx 26 H [] w) [(0,.rd (z02 aZ) a0),(1,.rd (z02 aZ) a1),(5,.rd z0e s3)] [] aa ww) (fun aa ww h=>Zu h []) (fun s3=>?_)
   refine z0s<|gSR<|Zm Z<|Zm Z<|Zq (z3g Z .rd Z tu22)<|Zq (I.lss Z Z)<|Zj Z (fun h4=>?_) (fun h4=>?_)
   ·
    refine Zt<|z0s<|z4y<|z0s<|zjf mixed (by kernel_rfl)<|Rq Z (mv Z)<|Rq Z (mv Z)<|z9a fun x5 h6=>Rq Z (ixR Z Z h6 tu22 z2b Z)<|Rq Z (ldR Z z43)<|Rq Z (mv Z)<|Rq Z (mv Z)<|z9a fun x7 h8=>Rq Z (ixR Z Z h8 tu22 z2b Z)<|Rq Z (ldR Z z43)<|Rq Z (neA Z Z eq62 Z Z gq62)<|zug<|z0o<|gIf Z Z (fun h9=>?_) (fun h9=>?_)
    ·
     refine gSR<|Zb Z<|z0k<|z42<|z0w<|z7g<|z7a<|Ze [] [] Z
    ·
     refine z2m<|z35<|z0o<|z2e<|Zm Z<|Zq (I.add Z Z)<|Za Z<|z1q<|z1k (fun aa ww h=>Zu h [])
   ·
    refine z1s<|z0x<|z0y<|z79 (fun aa ww h=>Zu h [])
  ·
   refine gSR<|Zb Z<|z0k<|Ze [] [] Z
end
section
open Go Go.Shelf Go.RowKit Go.Lib
theorem z142 {P:Program} {k:Nat} (w:World) (dT sT ty elem:TypeId) (g o dLen dCap:Nat) (a:Addr) (sLen sCap:Nat) (cur:Array Value) (t:TypeId) (cs:List Value)
  (hu:P.underlying dT=some (.slice elem)) (hs:(P.info? elem).map (·.size)=some k)
  (hg:w.heap[g]? = some (.cells cur t (0,0))) (hn:cs.length=Nat.min sLen dLen * k)
  (hsrc:∀ j v,cs[j]? = some v→w.cell? (a.add j)=some v) (hfit:o+cs.length≤cur.size) (h1:∀ v∈cs,v.oneCell'=true) :
  (Builtin.copy_ #[dT,sT] ty #[.slice (some ⟨g,o,none⟩) dLen dCap,.slice (some a) sLen sCap]).run P w =
   .ok (goInt (Nat.min sLen dLen)) (w.setRow g (cur.toList.take o++cs++cur.toList.drop (o+cs.length)).toArray):=by
 have hl:=run_firstCells_some (P:=P) w k (Nat.min sLen dLen) a sLen sCap cs hn hsrc
 have hst:=run_storeCells_at P g o t cs 0 cur w hg (by simpa using hfit) h1
 cases hq:P.info? elem with
 | none=>simp [hq] at hs
 | some i =>
  have hi:i.size=k:=by simpa [hq] using hs
  simp [Builtin.copy_,run_underlying hu,Builtin.lenOf,sizeOf,typeInfo,hq,hi,hl,hst]
theorem z137 {P:Program} (w:World) {o:Oper} {a:Act} {K:Act→World→Prop} {Q:Exit→Act→World→Prop} (d s:Operand) (t t':TypeId)
  (ho:o.op=.call { callee:=.builtin .copy,args:=#[d,s],argTypes:=#[t,t'] }) (v u:Value) (hd:a.eval d=v) (hs:a.eval s=u) {v':Value} {w':World}
  (hr:(Builtin.copy_ #[t,t'] o.type #[v,u]).run P w=.ok v' w') (h:K (a.put o.dst v') w'):o.wp P a w K Q:=by
 unfold Oper.wp execOp
 simp only [ho,resolve,invoke,builtin,Sem.run_bind,Sem.run_pure,Result.andThen_ok,List.map_toArray,List.map_cons,List.map_nil,hd,hs,hr]
 exact h
theorem zna {P:Program} (w:World) {ops:Array Oper} {rest:List Oper} {o:Oper} {a:Act} {Q:Exit→Act→World→Prop} (hgd:o.guard=none) (d s:Operand) (t t':TypeId)
  (ho:o.op=.call { callee:=.builtin .copy,args:=#[d,s],argTypes:=#[t,t'] }) (v u:Value) (hd:a.eval d=v) (hs:a.eval s=u) {v':Value} {w':World}
  (hr:(Builtin.copy_ #[t,t'] o.type #[v,u]).run P w=.ok v' w') (h:wpList P ops Q rest (a.put o.dst v') w'):wpList P ops Q (o::rest) a w :=
 wpList_plain hgd fun _ hK=>z137 w d s t t' ho v u hd hs hr (hK _ _ h)
theorem zqy {P:Program} {ops:Array Oper} {o:Oper} {a:Act} {w:World} {K:Act→World→Prop} {Q:Exit→Act→World→Prop} {E:Prop}
  (hg:o.guard=none) (d x:Operand) (dT sT:TypeId) (hop:o.op=Op.call { callee:=Callee.builtin Builtin.copy,args:=#[d,x],argTypes:=#[dT,sT] })
  (v u:Value) (hd:a.eval d=v) (hx:a.eval x=u) {v':Value} {w':World} (hr:(Builtin.copy_ #[dT,sT] o.type #[v,u]).run P w=.ok v' w') (hK:K (a.put o.dst v') w') :
  if Region.wanted o (yielded ops a.tmps)=true then Oper.wp P o a w K Q else E:=by
 have hw:Region.wanted o (yielded ops a.tmps)=true:=by simp [Region.wanted,hg]
 rw [if_pos hw]
 unfold Oper.wp
 simp [execOp,hop,resolve,invoke,builtin,hd,hx,hr,Result.andThen]
 exact hK
section
variable (b n c i vb vc:Nat) (xs ys:List Value) (C V:Array Value) (w:World)
theorem z10m:TI Tryz.prog 62 (.agg (Array.replicate 32 (.int .u8 0))) 32 32:=z2b
theorem z10h:(Tryz.prog.info? 62).map (·.size)=some 32:=by kernel_rfl
set_option maxHeartbeats 4000000 in
set_option maxRecDepth 100000 in
theorem z12q (hi:i<n) (hroom:n+1≤c) (hc63:c≤9223372036854775807) (hvb:vb≠b) (hC:w.heap[b]? = some (.cells C 62 (0,0))) (hV:w.heap[vb]? = some (.cells V 62 (0,0)))
  (hCs:C.size=c * 32) (hxs:C.toList.take (n * 32)=xs) (hys:V.toList.take 32=ys) (hyl:ys.length=32) (h1x:∀ v∈xs,v.oneCell'=true) (h1y:∀ v∈ys,v.oneCell'=true) :
  Calls Tryz.prog 106 #[.slice (some ⟨b,0,none⟩) n c,.int .i64 i,.slice (some ⟨vb,0,none⟩) 1 vc] w fun e w' =>
   e=.returned (.slice (some ⟨b,0,none⟩) (n+1) c)∧∃ D,w'=w.drew.setRow b D∧D.size=C.size∧D.toList.take ((n+1) * 32)=xs.take (i * 32)++ys++xs.drop (i * 32):=by
 have hsz:=z10h
 have u22:Tryz.prog.underlying 22=some (.slice 62):=Tryz.underlying22
 have hcc:∀ j v,C.toList[j]? = some v→w.cell? ⟨b,j,none⟩=some v:=fun j v hj=>by
  rw [Array.getElem?_toList] at hj; unfold World.cell?; rw [hC]; exact hj
 have hcv:∀ j v,V.toList[j]? = some v→w.cell? ⟨vb,j,none⟩=some v:=fun j v hj=>by
  rw [Array.getElem?_toList] at hj; unfold World.cell?; rw [hV]; exact hj
 have hxl:xs.length=n * 32:=by rw [← hxs,List.length_take,Array.length_toList]; omega
 have hxg:∀ j v,xs[j]? = some v→C.toList[j]? = some v:=fun j v hj=>by
  rw [← hxs,List.getElem?_take] at hj; split at hj
  ·
   exact hj
  ·
   cases hj
 have hyg:∀ j v,ys[j]? = some v→V.toList[j]? = some v:=fun j v hj=>by
  rw [← hys,List.getElem?_take] at hj; split at hj
  ·
   exact hj
  ·
   cases hj
 have hVs:V.size≠0:=by
  have:ys.length≤V.size:=by rw [← hys,List.length_take,Array.length_toList]; omega
  omega
 have hov:∀ lb cb,(callFunc 150 #[.slice (some ⟨vb,0,none⟩) 1 vc,.slice (some ⟨b,(i+1) * 32,none⟩) lb cb]).run Tryz.prog w=.ok (.value (.bool false)) w:=fun lb cb=>by
  rw [run_callFunc_extern Tryz.func150 (by kernel_rfl) (by kernel_rfl) (by kernel_rfl) (e:=Extern.SlicesOverlaps.overlaps #[22,22] #[4]) (by kernel_rfl),
   Lib.run_overlaps_apart w 22 4 62 u22 32 Tryz.sizeOf62 ⟨vb,0,none⟩ ⟨b,(i+1) * 32,none⟩ 1 vc lb cb hvb 62 62 V.size C.size (by simp [World.shape?,hV]) (by simp [World.shape?,hC]) (by omega) (by simp [World.frozen?,hV]) (by simp [World.frozen?,hV])]
  rfl
 have hdl:(xs.drop (i * 32)).length=(n - i) * 32:=by rw [List.length_drop,hxl,Nat.sub_mul]
 have hmin1:Nat.min (n+1 - i) (n - i)=n - i:=by simp only [Nat.min_def]; split <;> omega
 have hcp1:∀ ty dc sc,(Builtin.copy_ #[22,22] ty #[.slice (some ⟨b,(i+1) * 32,none⟩) (n - i) dc,.slice (some ⟨b,i * 32,none⟩) (n+1 - i) sc]).run Tryz.prog w.drew =
   .ok (goInt ((n - i:Nat):Int)) (w.drew.setRow b (C.toList.take ((i+1) * 32)++xs.drop (i * 32)++C.toList.drop ((i+1) * 32+(xs.drop (i * 32)).length)).toArray):=fun ty dc sc=>by
  have e:=z142 (P:=Tryz.prog) w.drew 22 22 ty 62 b ((i+1) * 32) (n - i) dc ⟨b,i * 32,none⟩ (n+1 - i) sc C 62 (xs.drop (i * 32)) u22 hsz hC (by rw [hmin1,hdl])
   (fun j v hj=>by rw [Addr.add_lit]; exact hcc _ v (hxg _ v (by rwa [List.getElem?_drop] at hj))) (by rw [hdl,hCs]; omega) (fun v hv=>h1x v (List.mem_of_mem_drop hv))
  rw [hmin1] at e; exact e
 obtain ⟨D1,hD1⟩:∃ D1,D1=(C.toList.take ((i+1) * 32)++xs.drop (i * 32)++C.toList.drop ((i+1) * 32+(xs.drop (i * 32)).length)).toArray:=⟨_,rfl⟩
 rw [← hD1] at hcp1
 have hD1s:D1.size=C.size:=by
  rw [hD1]; simp only [List.size_toArray,List.length_append,List.length_take,List.length_drop,Array.length_toList,hxl]; omega
 obtain ⟨W1,hW1⟩:∃ W1,W1=w.drew.setRow b D1:=⟨_,rfl⟩
 have hB1:W1.heap[b]? = some (.cells D1 62 (0,0)):=by rw [hW1]; exact setRow_heap w.drew b C D1 62 (0,0) hC
 have hV1:W1.heap[vb]? = some (.cells V 62 (0,0)):=by rw [hW1,setRow_other w.drew b vb D1 hvb]; exact hV
 obtain ⟨D2,hD2⟩:∃ D2,D2=(D1.toList.take (i * 32)++ys++D1.toList.drop (i * 32+ys.length)).toArray:=⟨_,rfl⟩
 have hcp2:∀ ty dc,(Builtin.copy_ #[22,22] ty #[.slice (some ⟨b,i * 32,none⟩) (n+1 - i) dc,.slice (some ⟨vb,0,none⟩) 1 vc]).run Tryz.prog W1=.ok (goInt 1) (W1.setRow b D2):=fun ty dc=>by
  have hm:Nat.min 1 (n+1 - i)=1:=by simp only [Nat.min_def]; split <;> omega
  have e:=z142 (P:=Tryz.prog) W1 22 22 ty 62 b (i * 32) (n+1 - i) dc ⟨vb,0,none⟩ 1 vc D1 62 ys u22 hsz hB1 (by rw [hm,hyl])
   (fun j v hj=>by
    rw [Addr.add_lit,Nat.zero_add]
    have:=hyg j v hj
    rw [Array.getElem?_toList] at this
    unfold World.cell?; rw [hV1]; exact this) (by rw [hyl,hD1s,hCs]; omega) h1y
  rw [hm,← hD2] at e; exact e
 have hfin:D2.size=C.size∧D2.toList.take ((n+1) * 32)=xs.take (i * 32)++ys++xs.drop (i * 32):=by
  have t1:D1.toList.take (i * 32)=xs.take (i * 32):=by
   rw [hD1,← hxs,List.take_take]
   simp only [List.append_assoc]
   rw [List.take_append_of_le_length (by rw [List.length_take,Array.length_toList]; omega),List.take_take]
   congr 1; omega
  have t2:(D1.toList.drop ((i+1) * 32)).take ((n - i) * 32)=xs.drop (i * 32):=by
   have el:(C.toList.take ((i+1) * 32)).length=(i+1) * 32:=by rw [List.length_take,Array.length_toList]; omega
   rw [hD1]
   simp only [List.append_assoc]
   rw [List.drop_append,el,Nat.sub_self,List.drop_zero,List.drop_eq_nil_of_le (by rw [el]; omega),List.nil_append,List.take_append_of_le_length (by rw [hdl]; omega),List.take_of_length_le (by rw [hdl]; omega)]
  constructor
  ·
   rw [hD2]; simp only [List.size_toArray,List.length_append,List.length_take,List.length_drop,Array.length_toList,hyl]; omega
  ·
   rw [hD2]
   simp only [List.append_assoc]
   have el:(D1.toList.take (i * 32)).length=i * 32:=by rw [List.length_take,Array.length_toList]; omega
   rw [List.take_append,el,List.take_of_length_le (by rw [el]; omega),List.take_append,hyl,List.take_of_length_le (l:=ys) (by rw [hyl]; omega),t1,
    show i * 32+32=(i+1) * 32 by omega, show (n+1) * 32 - i * 32 - 32=(n - i) * 32 by omega,t2]
 have hz1:¬ ((1:Int)=0):=by decide
 have hz2:¬ ((i:Int)=(n:Int)):=by omega
 have hw1:IntKind.i64.wrap ((i:Int)+1)=(i:Int)+1:=by rw [IntKind.wrap_i64]; omega
 have hb1:(0:Int)≤(i:Int)+1:=by omega
 have hin:i≤n:=by omega
 have htn:((i:Int)+1).toNat=i+1:=by omega
 have hb2:¬ (c=i+1):=by omega
 have hb3:(i:Int)≤(n:Int)+1:=by omega
 have hb4:¬ (c=i):=by omega
 subst hW1
 clear hcc hcv hxg hyg hD1 hD2 hxs hys hC hV hB1 hV1 h1x h1y hdl hmin1 hxl hyl
 go_enter Tryz.func106,Tryz.ntmps106
 go_wp2_with (simp only [hov])
 go_region_law (refine zqy rfl _ _ 22 22 rfl (.slice (some ⟨b,(i+1) * 32,none⟩) (n - i) (c - (i+1))) (.slice (some ⟨b,i * 32,none⟩) (n+1 - i) (c - i)) (by simp [Act.eval,Act.put]) (by simp [Act.eval,Act.put]) (hcp1 3 (c - (i+1)) (c - i)) ?_)
 go_wp2_with (at_builtin; refine zna _ rfl _ _ 22 22 rfl _ _ rfl rfl (hcp2 _ _) ?_)
 go_ret
 exact ⟨rfl,D2, by rw [setRow_setRow],hfin⟩
set_option maxHeartbeats 4000000 in
set_option maxRecDepth 100000 in
theorem z134 (hi:i<n) (hnc:n≤c) (hroom:c<n+1) (hn:n≤1000000) (hvb:vb≠b) (hC:w.heap[b]? = some (.cells C 62 (0,0))) (hV:w.heap[vb]? = some (.cells V 62 (0,0)))
  (hCs:C.size=c * 32) (hxs:C.toList.take (n * 32)=xs) (hys:V.toList.take 32=ys) (hyl:ys.length=32) (h1x:∀ v∈xs,v.oneCell'=true) (h1y:∀ v∈ys,v.oneCell'=true) :
  Calls Tryz.prog 106 #[.slice (some ⟨b,0,none⟩) n c,.int .i64 i,.slice (some ⟨vb,0,none⟩) 1 vc] w fun e w' =>
   ∃ G,e=.returned (.slice (some ⟨w.heap.size,0,none⟩) (n+1) G)∧n+1≤G∧G≤maxLen∧∃ D,w'.heap[w.heap.size]? = some (.cells D 62 (0,0))∧w.grownBy w' none∧D.size=G * 32∧D.toList.take ((n+1) * 32)=xs.take (i * 32)++ys++xs.drop (i * 32):=by
 have hsz:=z10h
 have u22:Tryz.prog.underlying 22=some (.slice 62):=Tryz.underlying22
 have u3:Tryz.prog.underlying 3=some (.int .i64):=Tryz.underlying3
 have hcn:c=n:=by omega
 subst hcn
 have hcc:∀ j v,C.toList[j]? = some v→w.cell? ⟨b,j,none⟩=some v:=fun j v hj=>by
  rw [Array.getElem?_toList] at hj; unfold World.cell?; rw [hC]; exact hj
 have hxl:xs.length=c * 32:=by rw [← hxs,List.length_take,Array.length_toList]; omega
 have hxg:∀ j v,xs[j]? = some v→C.toList[j]? = some v:=fun j v hj=>by
  rw [← hxs,List.getElem?_take] at hj; split at hj
  ·
   exact hj
  ·
   cases hj
 have hyg:∀ j v,ys[j]? = some v→V.toList[j]? = some v:=fun j v hj=>by
  rw [← hys,List.getElem?_take] at hj; split at hj
  ·
   exact hj
  ·
   cases hj
 have hbw:b<w.heap.size:=(Array.getElem?_eq_some_iff.1 hC).1
 have hvw:vb<w.heap.size:=(Array.getElem?_eq_some_iff.1 hV).1
 have hkk:(c:Int)+1 - (i:Int)=((c+1 - i:Nat):Int):=by omega
 obtain ⟨i0,hi0,hz0,hzs,hzb⟩:=z10m
 have hold:(Builtin.firstCells i0.size i (.slice (some ⟨b,0,none⟩) i c)).run Tryz.prog w.drew=.ok (xs.take (i * 32)).toArray w.drew:=by
  rw [hzs]
  exact run_firstCells_some w.drew 32 i ⟨b,0,none⟩ i c (xs.take (i * 32)) (by rw [List.length_take]; omega) (fun j v hj=>by
   rw [Addr.add_lit,Nat.zero_add]
   rw [List.getElem?_take] at hj
   split at hj
   ·
    exact hcc j v (hxg j v hj)
   ·
    cases hj)
 obtain ⟨G,hG⟩:∃ G,G=grownCap w (c+1) c 62:=⟨_,rfl⟩
 obtain ⟨ROW,hROW⟩:∃ ROW:Array Value,ROW=(xs.take (i * 32)).toArray++Builtin.zeroCells (Array.replicate 32 (.int .u8 0)) (c+1 - i)++Builtin.zeroCells (Array.replicate 32 (.int .u8 0)) (G - (c+1)):=⟨_,rfl⟩
 have hrz:∀ ty,(Builtin.append_ #[22,3] ty #[.slice (some ⟨b,0,none⟩) i c,.int .i64 ((c:Int)+1 - (i:Int))]).run Tryz.prog w =
   .ok (.slice (some ⟨w.heap.size,0,none⟩) (c+1) G) (w.drew.alloc (.cells ROW 62)):=fun ty=>by
  have h:=Lib.run_append_grow_zeros w 22 3 ty 62 i0 _ .i64 .i64 u22 u3 hi0 hz0 (some ⟨b,0,none⟩) i c (xs.take (i * 32)) hold (c+1 - i) (by omega) (by omega) (by omega) (by omega) (by rw [hzb]; omega) (by rw [hzb, show i+(c+1 - i)=c+1 by omega]; exact growslice_fits (by omega) (by omega))
  rw [show i+(c+1 - i)=c+1 by omega] at h
  rw [hkk,hROW,hG]
  exact h
 have hGn:c+1≤G:=by rw [hG]; exact grownCap_ge w _ _ _
 have hGm:G≤maxLen:=by rw [hG]; exact grownCap_le_maxLen w (c+1) c 62 (by unfold maxLen; omega)
 have hG63:G≤9223372036854775807:=by unfold maxLen at hGm; omega
 have hRs:ROW.size=G * 32:=by
  rw [hROW]; simp only [Array.size_append,List.size_toArray,List.length_take,size_zeroCells,Array.size_replicate,hxl]; omega
 have hRt:ROW.toList.take (i * 32)=xs.take (i * 32):=by
  rw [hROW]; simp only [Array.toList_append,List.append_assoc]
  rw [List.take_append_of_le_length (by rw [List.length_take]; omega),List.take_take]; congr 1; omega
 obtain ⟨D1,hD1⟩:∃ D1,D1=(ROW.toList.take (i * 32)++ys++ROW.toList.drop (i * 32+ys.length)).toArray:=⟨_,rfl⟩
 have hD1s:D1.size=G * 32:=by
  rw [hD1]; simp only [List.size_toArray,List.length_append,List.length_take,List.length_drop,Array.length_toList,hyl]; omega
 obtain ⟨D2,hD2⟩:∃ D2,D2=(D1.toList.take ((i+1) * 32)++xs.drop (i * 32)++D1.toList.drop ((i+1) * 32+(xs.drop (i * 32)).length)).toArray:=⟨_,rfl⟩
 have hdl:(xs.drop (i * 32)).length=(c - i) * 32:=by rw [List.length_drop,hxl,Nat.sub_mul]
 have hD2s:D2.size=G * 32:=by
  rw [hD2]; simp only [List.size_toArray,List.length_append,List.length_take,List.length_drop,Array.length_toList,hxl]; omega
 have hfin:D2.toList.take ((c+1) * 32)=xs.take (i * 32)++ys++xs.drop (i * 32):=by
  have e1:(ROW.toList.take (i * 32)).length=i * 32:=by rw [List.length_take,Array.length_toList]; omega
  have e2:D1.toList.take ((i+1) * 32)=xs.take (i * 32)++ys:=by
   rw [hD1]; simp only [List.append_assoc]
   rw [List.take_append,e1,List.take_of_length_le (by rw [e1]; omega),List.take_append_of_le_length (by rw [hyl]; omega),List.take_of_length_le (l:=ys) (by rw [hyl]; omega),hRt]
  have e3:(D1.toList.take ((i+1) * 32)).length=(i+1) * 32:=by rw [List.length_take,Array.length_toList]; omega
  rw [hD2]; simp only [List.append_assoc]
  rw [List.take_append,e3,List.take_of_length_le (by rw [e3]; omega),List.take_append_of_le_length (by rw [hdl]; omega),List.take_of_length_le (l:=xs.drop (i * 32)) (by rw [hdl]; omega),e2,List.append_assoc]
 have hcpA:∀ (W:World),W.heap=w.heap.push (.cells ROW 62)→∀ ty dc,(Builtin.copy_ #[22,22] ty #[.slice (some ⟨w.heap.size,i * 32,none⟩) (c+1 - i) dc,.slice (some ⟨vb,0,none⟩) 1 vc]).run Tryz.prog W=.ok (goInt 1) (W.setRow w.heap.size D1):=fun W hW ty dc=>by
  have hm:Nat.min 1 (c+1 - i)=1:=by simp only [Nat.min_def]; split <;> omega
  have hN:W.heap[w.heap.size]? = some (.cells ROW 62 (0,0)):=by rw [hW,Array.getElem?_push_size]
  have hV1:W.heap[vb]? = some (.cells V 62 (0,0)):=by rw [hW,Array.getElem?_push_lt hvw]; rw [← hV,Array.getElem?_eq_getElem hvw]
  have e:=z142 (P:=Tryz.prog) W 22 22 ty 62 w.heap.size (i * 32) (c+1 - i) dc ⟨vb,0,none⟩ 1 vc ROW 62 ys u22 hsz hN (by rw [hm,hyl])
   (fun j v hj=>by
    rw [Addr.add_lit,Nat.zero_add]
    have:=hyg j v hj
    rw [Array.getElem?_toList] at this
    unfold World.cell?; rw [hV1]; exact this) (by rw [hyl,hRs]; omega) h1y
  rw [hm,← hD1] at e; exact e
 have hcpB:∀ (W W0:World),W0.heap=w.heap.push (.cells ROW 62)→W.heap=(W0.setRow w.heap.size D1).heap→∀ ty dc sc,(Builtin.copy_ #[22,22] ty #[.slice (some ⟨w.heap.size,(i+1) * 32,none⟩) (c - i) dc,.slice (some ⟨b,i * 32,none⟩) (c - i) sc]).run Tryz.prog W=.ok (goInt ((c - i:Nat):Int)) (W.setRow w.heap.size D2):=fun W W0 hW0 hW ty dc sc=>by
  have hm:Nat.min (c - i) (c - i)=c - i:=Nat.min_self _
  have hN:W.heap[w.heap.size]? = some (.cells D1 62 (0,0)):=by rw [hW]; exact setRow_heap W0 w.heap.size ROW D1 62 (0,0) (by rw [hW0,Array.getElem?_push_size])
  have hB1:W.heap[b]? = some (.cells C 62 (0,0)):=by
   rw [hW,setRow_other W0 w.heap.size b D1 (by omega),hW0,Array.getElem?_push_lt hbw,← hC,Array.getElem?_eq_getElem hbw]
  have e:=z142 (P:=Tryz.prog) W 22 22 ty 62 w.heap.size ((i+1) * 32) (c - i) dc ⟨b,i * 32,none⟩ (c - i) sc D1 62 (xs.drop (i * 32)) u22 hsz hN (by rw [hm,hdl])
   (fun j v hj=>by
    rw [Addr.add_lit]
    have:=hxg _ v (by rwa [List.getElem?_drop] at hj)
    rw [Array.getElem?_toList] at this
    unfold World.cell?; rw [hB1]; exact this) (by rw [hdl,hD1s]; omega) (fun v hv=>h1x v (List.mem_of_mem_drop hv))
  rw [hm,← hD2] at e; exact e
 have hz1:¬ ((1:Int)=0):=by decide
 have hz2:¬ ((i:Int)=(c:Int)):=by omega
 have hz3:(c:Int)<(c:Int)+1:=by omega
 have hw1:IntKind.i64.wrap ((i:Int)+1)=(i:Int)+1:=by rw [IntKind.wrap_i64]; omega
 have hb1:(0:Int)≤(i:Int)+1:=by omega
 have hin:i≤c:=by omega
 have htn:((i:Int)+1).toNat=i+1:=by omega
 have hGi:¬ (G=i):=by omega
 have hGim:¬ (G=i+1):=by omega
 have hci:¬ (c=i):=by omega
 have hb3:(i:Int)≤(c:Int):=by omega
 have hE1:((w.alloc (.cells ROW 62)).drew).heap=w.heap.push (.cells ROW 62):=rfl
 have hF1:(((w.alloc (.cells ROW 62)).drew.setRow w.heap.size D1).drew).heap=(((w.alloc (.cells ROW 62)).drew).setRow w.heap.size D1).heap:=rfl
 clear hROW hold hG hRt hD1 hD2 hxs hys hC hV h1x h1y hdl hxl hyl hcc hxg hyg hi0 hz0 hzs hzb hkk hnc hroom
 go_enter Tryz.func106,Tryz.ntmps106
 go_wp2_with (first
  | (at_builtin; refine Lib.wpList_append_run _ rfl _ _ _ _ rfl _ _ rfl rfl _ _ (hrz _) ?_)
  | (at_builtin; refine zna _ rfl _ _ 22 22 rfl _ _ rfl rfl (hcpA _ hE1 _ _) ?_))
 go_region_law (refine zqy rfl _ _ 22 22 rfl (.slice (some ⟨w.heap.size,(i+1) * 32,none⟩) (c - i) (G - (i+1))) (.slice (some ⟨b,i * 32,none⟩) (c - i) (c - i)) (by simp [Act.eval,Act.put]) (by simp [Act.eval,Act.put]) (hcpB _ _ hE1 hF1 3 (G - (i+1)) (c - i)) ?_)
 go_wp2
 go_ret
 refine ⟨G,rfl,hGn,hGm,D2,?_,⟨rfl,rfl,rfl,?_, fun k hk _=>?_⟩,hD2s,hfin⟩
 ·
  exact setRow_heap _ w.heap.size D1 D2 62 (0,0) (setRow_heap ((w.alloc (.cells ROW 62)).drew) w.heap.size ROW D1 62 (0,0) (by rw [hE1,Array.getElem?_push_size]))
 ·
  rw [setRow_size]; show _≤((w.alloc (.cells ROW 62)).drew.setRow w.heap.size D1).heap.size; rw [setRow_size,hE1,Array.size_push]; omega
 ·
  rw [setRow_other _ w.heap.size k D2 (by omega)]; show ((w.alloc (.cells ROW 62)).drew.setRow w.heap.size D1).heap[k]? = _
  rw [setRow_other _ w.heap.size k D1 (by omega),hE1,Array.getElem?_push_lt hk,Array.getElem?_eq_getElem hk]
set_option maxHeartbeats 4000000 in
set_option maxRecDepth 100000 in
theorem z17n (p0 p1:Value) (h0:w.ownsRow 0 62 32 p0 n xs) (h1:w.ownsRow 0 62 32 p1 1 ys) (hn:n≤1000000) (h1y:∀ v∈ys,v.oneCell'=true) :
  Calls Tryz.prog 106 #[p0,.int .i64 n,p1] w fun e w'=>∃ v',e=.returned v'∧w'.ownsRow 0 62 32 v' (n+1) (xs++ys)∧w.grownBy w' p0.ownBlock∧∀ b,v'.ownBlock=some b→p0.ownBlock=some b∨w.heap.size≤b:=by
 have u22:Tryz.prog.underlying 22=some (.slice 62):=Tryz.underlying22
 obtain ⟨p,c,rfl⟩:=z4s h0
 obtain ⟨q,d,rfl⟩:=z4s h1
 obtain ⟨p',c',w',hrun,ho,hg,hs⟩:=zkt (P:=Tryz.prog) (rt:=22) (w:=w) u22 z10m (by simp [Value.cells]) (by decide) h0 (Rd.of_own h1) h1y (by omega) (by omega) (Nat.zero_le _)
 have hz1:¬ ((1:Int)=0):=by decide
 have hnc:n≤c:=by
  rcases h0.2 with ⟨e,rfl⟩ | ⟨g,cap,cur,e,_,_,h,_⟩
  ·
   omega
  ·
   simp only [Value.slice.injEq] at e; omega
 have hc63:c≤9223372036854775807:=by
  rcases h0.2 with ⟨e,rfl⟩ | ⟨g,cap,cur,e,_,_,_,h,_⟩
  ·
   simp only [Value.slice.injEq] at e; omega
  ·
   simp only [Value.slice.injEq] at e; unfold maxLen at h; omega
 have hin:n≤n:=Nat.le_refl _
 have hp0:p=none→n=0∧c=0:=fun e=>by
  rcases h0.2 with ⟨e',rfl⟩ | ⟨g,cap,cur,e',_⟩
  ·
   simp only [Value.slice.injEq] at e'; omega
  ·
   rw [e] at e'; simp at e'
 clear h0 h1 h1y
 go_enter Tryz.func106,Tryz.ntmps106
 cases p with
 | none =>
  obtain ⟨rfl,rfl⟩:=hp0 rfl
  clear hp0
  go_wp2_with (at_builtin; refine Lib.wpList_append_run _ rfl _ _ _ _ rfl _ _ rfl rfl _ _ hrun ?_)
  go_ret
  exact ⟨_,rfl,ho,hg,hs⟩
 | some a =>
  clear hp0
  obtain ⟨ab,ao,asp⟩:=a
  go_wp2_with (at_builtin; refine Lib.wpList_append_run _ rfl _ _ _ _ rfl _ _ rfl rfl _ _ hrun ?_)
  all_goals (go_ret; exact ⟨_,rfl,ho,hg,hs⟩)
end
end
section
open Go Go.RowKit
theorem relB {S S':Blk} {w w':World}:∀ {l:List UInt8} {cs:List Value},z7q u8R S w cs l→z7q u8R S' w' cs l
 | [],cs,h=>h
 | x::l,cs,h=>by
  obtain ⟨c,d,rfl,h1,h2⟩:=h
  exact ⟨c,d,rfl,h1,relB h2⟩
theorem relD {S S':Blk} {w w':World}:∀ {l:List V3} {cs:List Value},z7q (z3j 32 u8R) S w cs l→z7q (z3j 32 u8R) S' w' cs l
 | [],cs,h=>h
 | x::l,cs,h=>by
  obtain ⟨c,d,rfl,h1,h2⟩:=h
  exact ⟨c,d,rfl,relB h1,relD h2⟩
def insF (c0:List V3) (i:Int) (c1:List V3):Option (List V3) :=
 chk (0≤i∧i.toNat≤c0.length∧c0.length≤1000000∧c1.length=1) >>= fun _=>some (c0.take i.toNat++c1++c0.drop i.toNat)
theorem z17b (p0 p1:Value) (n i:Nat) (xs ys:List Value) (w:World) (hi:i≤n) (h0:w.ownsRow 0 62 32 p0 n xs) (h1:w.ownsRow 0 62 32 p1 1 ys) (hsep:∀ b,p0.ownBlock=some b→p1.ownBlock≠some b) (hn:n≤1000000)
  (h1x:∀ v∈xs,v.oneCell'=true) (h1y:∀ v∈ys,v.oneCell'=true) :
  Calls Tryz.prog 106 #[p0,.int .i64 i,p1] w fun e w'=>∃ v',e=.returned v'∧w'.ownsRow 0 62 32 v' (n+1) (xs.take (i * 32)++ys++xs.drop (i * 32))∧w.grownBy w' p0.ownBlock∧∀ b,v'.ownBlock=some b→p0.ownBlock=some b∨w.heap.size≤b:=by
 have hxl:=h0.1
 by_cases hin:i=n
 ·
  subst hin
  refine (z17n i xs ys w p0 p1 h0 h1 hn h1y).mono fun e w' ⟨v',a,b,c,d⟩=>⟨v',a,?_,c,d⟩
  rw [List.take_of_length_le (by omega),List.drop_eq_nil_of_le (by omega),List.append_nil]
  exact b
 ·
  rcases h0.2 with ⟨rfl,rfl⟩ | ⟨b,c,C,rfl,-,hC,hnc,hcm,hCs,hxs⟩
  ·
   omega
  rcases h1.2 with ⟨rfl,e⟩ | ⟨vb,vc,V,rfl,-,hV,-,-,hVs,hys⟩
  ·
   omega
  have hvb:vb≠b:=fun e=>hsep b rfl (by rw [e]; rfl)
  have hyl:ys.length=32:=by have:=h1.1; omega
  have hlen:(xs.take (i * 32)++ys++xs.drop (i * 32)).length=(n+1) * 32:=by
   simp only [List.length_append,List.length_take,List.length_drop,hyl]; omega
  by_cases hroom:n+1≤c
  ·
   refine (z12q b n c i vb vc xs ys C V w (by omega) hroom (by unfold maxLen at hcm; omega) hvb hC hV hCs hxs (by simpa using hys) hyl h1x h1y).mono fun e w' ⟨a,D,a2,a3,a4⟩=>⟨_,a,?_,?_, fun b' hb'=>.inl hb'⟩
   ·
    refine ⟨hlen,.inr ⟨b,c,D,rfl,Nat.zero_le _,?_,hroom,hcm,a3.trans hCs,a4⟩⟩
    rw [a2]; exact setRow_heap w.drew b C D 62 (0,0) hC
   ·
    rw [a2]
    refine ⟨rfl,rfl,rfl,?_, fun k hk hne=>?_⟩
    ·
     rw [setRow_size]; exact Nat.le_refl _
    ·
     rw [setRow_other w.drew b k D (fun e=>hne (by rw [e]; rfl))]; rfl
  ·
   refine (z134 b n c i vb vc xs ys C V w (by omega) hnc (by omega) hn hvb hC hV hCs hxs (by simpa using hys) hyl h1x h1y).mono fun e w' ⟨G,a,g1,g2,D,a1,a2,a3,a4⟩=>⟨_,a,?_,?_, fun b' hb'=>.inr ?_⟩
   ·
    exact ⟨hlen,.inr ⟨w.heap.size,G,D,rfl,Nat.zero_le _,a1,g1,g2,a3,a4⟩⟩
   ·
    exact ⟨a2.os,a2.tape,a2.output,a2.size, fun k hk _=>a2.block k hk (by simp)⟩
   ·
    simp only [Value.ownBlock,Option.some.injEq] at hb'; omega
theorem z16t (p0 p1:Value) (c0 c1:List V3) (i:Int):z1u Tryz.prog 106 [.val p0,.rd z0e i,.val p1] [(1,some (p0,.list (z3j 32 u8R) 62 c0)),(2,some (p1,.list (z3j 32 u8R) 62 c1))] (insF c0 i c1)
  (fun r nv=>⟨[.val (nv 0)],[(100,some (nv 0,.list (z3j 32 u8R) 62 r))]⟩):=by
 intro r hr H vs w hvs hres
 have hb:(0≤i∧i.toNat≤c0.length∧c0.length≤1000000∧c1.length=1)∧r=c0.take i.toNat++c1++c0.drop i.toNat:=by
  unfold insF chk at hr
  split at hr
  ·
   rename_i h; simp at hr; exact ⟨h, by rw [← hr,List.append_assoc]⟩
  ·
   simp at hr
 obtain ⟨⟨hi0,hi1,hn,hc1⟩,rfl⟩:=hb
 match vs,hvs with
 | [v0,v1,v2],hvs =>
 obtain ⟨h0,h1,h2,_⟩:=hvs
 have e0:v0=p0:=h0.1
 have e2:v2=p1:=h2.1
 have e1:v1=.int .i64 i:=z5c h1
 subst e0; subst e2; subst e1
 obtain ⟨j,rfl⟩:∃ j:Nat,i=(j:Int):=⟨i.toNat, by omega⟩
 simp only [Int.toNat_natCast] at hi1 ⊢
 obtain ⟨xs,x1,x2⟩:=zax (hres.conts 1 v0 _ rfl)
 obtain ⟨ys,y1,y2⟩:=zax (hres.conts 2 v2 _ rfl)
 rw [hc1] at y1
 have hsep:∀ b,v0.ownBlock=some b→v2.ownBlock≠some b:=fun b hb hb2=>by
  obtain ⟨p,c,rfl⟩:=z4s x1
  obtain ⟨q,d,rfl⟩:=z4s y1
  exact hres.excl 1 _ _ 2 _ _ rfl rfl (by decide) b (by rw [zb9]; exact hb) (by rw [zb9]; exact hb2)
 refine (z17b v0 v2 c0.length j xs ys w hi1 x1 y1 hsep hn x2.one y2.one).mono fun e w' ⟨v',he,hw,hg,hs⟩=>?_
 have only:∀ r v c (q:z5l),lr [(100,some (v',q))] r=some (v,c)→r=100∧v=v'∧c=q:=fun r v c q h=>by
  rw [z1l] at h
  split at h
  ·
   rename_i e; cases h; exact ⟨e.symm,rfl,rfl⟩
  ·
   simp [lr,lk] at h
 have hlen:(c0.take j++c1++c0.drop j).length=c0.length+1:=by
  simp only [List.length_append,List.length_take,List.length_drop,hc1]; omega
 obtain ⟨p',c',rfl⟩:=z4s hw
 refine ⟨fun _=>.slice p' (c0.length+1) c',[.slice p' (c0.length+1) c'],he,⟨⟨rfl,rfl⟩,trivial⟩, fun r v c h=>?_, fun r v c r' v2' c2' h h' hne=>?_, fun r v c h b hb=>?_,hg.os,hg.tape,hg.output,hg.size, fun k hk=>?_⟩
 ·
  obtain ⟨rfl,rfl,rfl⟩:=only _ _ _ _ h
  refine zp1 (B:=0) (xs:=xs.take (j * 32)++ys++xs.drop (j * 32)) (by rw [hlen]; exact hw) ?_
  exact ((relD (x2.take j)).append (relD y2)).append (relD (x2.drop j))
 ·
  exact absurd ((only _ _ _ _ h).1.trans (only _ _ _ _ h').1.symm) hne
 ·
  obtain ⟨rfl,rfl,rfl⟩:=only _ _ _ _ h
  rw [zb9] at hb
  rcases hs b hb with h | h
  ·
   exact .inr ⟨1,_,_,rfl, by obtain ⟨p,c,rfl⟩:=z4s x1; rw [zb9]; exact h⟩
  ·
   exact .inl h
 ·
  refine hg.block k hk.1 fun e=>hk.2 ⟨1,_,_,rfl,?_⟩
  obtain ⟨p,c,rfl⟩:=z4s x1; rw [zb9]; exact e.symm
end
section
open Go Go.RowKit
set_option maxRecDepth 100000
def z9g (a0:List z00) (s2:Int):Option (Sum (Sum Int Unit) Int) :=
 if decide (s2<(a0.length:Int)) then
  idx a0 s2 >>= fun x4 =>
  z11 x4 >>= fun r7 =>
  if r7 != 0 then
   some (.inl (.inl r7))
  else
   some (.inr (w64 (s2+1)))
 else
  some (.inl (.inr ()))
def zgt (a0:List z00):Option (Int) :=
 z5g (iter (z9g a0) 0) fun s1 =>
 some 0
theorem zlf (a0:List z00):z1u Tryz.prog 64 [.rd (z02 z01) a0] [zG1] (zgt a0) (fun r nv=>⟨[.rd z0e r],[(1001,some (.bool true,.glob 1 (z3j 64 z0p) z65))]⟩):=by
 refine z2d 18 Tryz.func64 Z Z Z fun H w=>?_
 refine gSR<|Zb Z<|z8c (fun (s1:Unit) aa ww=>Sta (ctx 18 H [zG1] w) [] [zG1] aa ww) ?_ (fun s1=>?_)
 ·
  refine gSR<|Zm Z<|Zq (z3g Z .rd Z Tryz.underlying139)<|Zm Z<|Zn<|z26 (fun (s2:Int) aa ww=>Sta (ctx 18 H [zG1] w) [(6,.rd (z02 z01) a0),(7,.rd z0e (a0.length:Int)),(8,.rd z0e s2)] [zG1] aa ww) (fun aa ww h=>Zu h [1001]) (fun s2=>?_)
  refine gSR<|Zq (I.lss Z Z)<|Zn<|z0s<|gIf Z Z (fun h3=>?_) (fun h3=>?_)
  ·
   refine Zt<|z0s<|z4y<|gSR<|z0n fun x4 h5=>Zq (ixR Z Z h5 Tryz.underlying139 z4h Z)<|Zq (ldR Z z3v)<|Eb Z (z56 1100 z4h (ZrE.nilS (ZrE.nilS ZrE.nil))) fun v6=>za6 aZ [.rd (z02 aZ) [],.val (.slice none 0 0)] 1100 [] [.val (.slice none 0 0)] Z Z Z<|za6 z03 [.rd (z02 aZ) [],.rd (z02 z03) []] 1100 [.rd (z02 aZ) []] [] Z Z Z<|zd3 (R:=z01) (⟨[],[]⟩:z00) 1100 Z (Sp.via (Sp.prod (Sp.prod Sp.unit)))<|Es (sto 1100 Z Z fH Z z4h)<|Zn<|gSR<|Zq (ld 1100 Z Z fH z3v Z)<|Zc [1001] [] Tryz.func74 Z (zar _) fun r7 n8=>Zb Z<|gSR<|Zm Z<|Zq (I.neq Z Z)<|Zj Z (fun h9=>?_) (fun h9=>?_)
   ·
    refine gSR<|Zm Z<|Zb Z<|z0k<|z42<|z0w<|z7g<|z7a<|Ze [] [1001] Z
   ·
    refine z2m<|z35<|z0o<|z2e<|Zq (I.add Z Z)<|Zm Z<|z1q<|z1k (fun aa ww h=>Zu h [1001])
  ·
   refine z1s<|z0x<|z0y<|z79 (fun aa ww h=>Zu h [1001])
 ·
  refine gSR<|Zb Z<|z0k<|Ze [] [1001] Z
def z2h (a0:List V3) (a1:List V3) (s3:Int):Option (Sum (Sum Bool Unit) Int) :=
 if decide (s3<(a0.length:Int)) then
  idx a0 s3 >>= fun x5 =>
  idx a1 s3 >>= fun x7 =>
  if !decide (x5=x7) then
   some (.inl (.inl false))
  else
   some (.inr (w64 (s3+1)))
 else
  some (.inl (.inr ()))
def z3w (a0:List V3) (a1:List V3):Option (Bool) :=
 if (a0.length:Int) != (a1.length:Int) then
  some false
 else
  z5g (iter (z2h a0 a1) 0) fun s2 =>
  some true
theorem z9r (a0:List V3) (a1:List V3):z1u Tryz.prog 71 [.rd (z02 aZ) a0,.rd (z02 aZ) a1] [] (z3w a0 a1) (fun r nv=>⟨[.rd z0j r],[]⟩):=by
 refine z2d 26 Tryz.func71 Z Z Z fun H w=>?_
 refine gSR<|Zb Z<|z0s<|gSR<|Zm Z<|Zq (z3g Z .rd Z tu22)<|Zm Z<|Zq (z3g Z .rd Z tu22)<|Zq (I.neq Z Z)<|Zj Z (fun h1=>?_) (fun h1=>?_)
 ·
  refine gSR<|Zb Z<|z0k<|z0w<|Ze [] [] Z
 ·
  refine Zt<|z8c (fun (s2:Unit) aa ww=>Sta (ctx 26 H [] w) [] [] aa ww) ?_ (fun s2=>?_)
  ·
   refine gSR<|Zm Z<|Zq (z3g Z .rd Z tu22)<|Zm Z<|Zn<|z26 (fun (s3:Int) aa ww=>Sta (ctx 26 H [] w) [(0,.rd (z02 aZ) a0),(1,.rd (z02 aZ) a1),(12,.rd z0e (a0.length:Int)),(13,.rd z0e s3)] [] aa ww) (fun aa ww h=>Zu h []) (fun s3=>?_)
   refine gSR<|Zq (I.lss Z Z)<|Zn<|z0s<|gIf Z Z (fun h4=>?_) (fun h4=>?_)
   ·
    refine Zt<|z0s<|z4y<|gSR<|Zm Z<|Zb Z<|z0s<|zjf mixed (by kernel_rfl)<|Rq Z (mv Z)<|Rq Z (mv Z)<|z9a fun x5 h6=>Rq Z (ixR Z Z h6 tu22 z2b Z)<|Rq Z (ldR Z z43)<|Rq Z (mv Z)<|Rq Z (mv Z)<|z9a fun x7 h8=>Rq Z (ixR Z Z h8 tu22 z2b Z)<|Rq Z (ldR Z z43)<|Rq Z (neA Z Z eq62 Z Z gq62)<|zug<|z0o<|gIf Z Z (fun h9=>?_) (fun h9=>?_)
    ·
     refine gSR<|Zb Z<|z0k<|z42<|z0w<|z7g<|z7a<|Ze [] [] Z
    ·
     refine z2m<|z35<|z0o<|z2e<|Zq (I.add Z Z)<|Zm Z<|z1q<|z1k (fun aa ww h=>Zu h [])
   ·
    refine z1s<|z0x<|z0y<|z79 (fun aa ww h=>Zu h [])
  ·
   refine gSR<|Zb Z<|z0k<|Ze [] [] Z
def zks (a0:z07) (a1:z07):Option (Bool) :=
 if a0.Author==a1.Author then
  if a0.Stamp==a1.Stamp then
   if decide (a0.Act=a1.Act) then
    if decide (a0.Sig=a1.Sig) then
     z3w a0.Preds a1.Preds >>= fun r7 =>
     some r7
    else
     some false
   else
    some false
  else
   some false
 else
  some false
theorem zo3 (a0:z07) (a1:z07):z1u Tryz.prog 66 [.rd z03 a0,.rd z03 a1] [] (zks a0 a1) (fun r nv=>⟨[.rd z0j r],[]⟩):=by
 refine z2d 38 Tryz.func66 Z Z Z fun H w=>?_
 refine gSR<|Eb Z (bx 1 Z) fun v1=>Eb Z (bx 2 Z) fun v2=>Zb Z<|gSR<|Zq (faB 1 Z Z Tryz.underlying73 Z (by exact z6p))<|Zq (ld 1 Z Z (fP (z36 _)) zaj Z)<|Zq (faB 2 Z Z Tryz.underlying73 Z (by exact z6p))<|Zq (ld 2 Z Z (fP (z36 _)) zaj Z)<|Zq (W.eql Z Z)<|Zm Z<|z1b 10 Z (fun h3=>?_) (fun h3=>?_)
 ·
  refine lKn 9 Z h3<|z17 Zx Z Z (faB 1 Z Z Tryz.underlying73 Z (by exact zsa))<|z17 Zx Z Z (ld 1 Z Z (fP (z4o _)) zry Z)<|z17 Zx Z Z (faB 2 Z Z Tryz.underlying73 Z (by exact zsa))<|z17 Zx Z Z (ld 2 Z Z (fP (z4o _)) zry Z)<|z17 Zx Z Z (U.eql Z Z)<|Zq (pkT Z Z)<|Zm Z<|z1b 17 Z (fun h4=>?_) (fun h4=>?_)
  ·
   refine lKn 15 Z h4<|lKn 16 Z h4<|z17 Zx Z Z (faB 1 Z Z Tryz.underlying73 Z (by exact zpv))<|z17 Zx Z Z (ld 1 Z Z (fP (z29 _)) ty69 Z)<|z17 Zx Z Z (faB 2 Z Z Tryz.underlying73 Z (by exact zpv))<|z17 Zx Z Z (ld 2 Z Z (fP (z29 _)) ty69 Z)<|z17 Zx Z Z (eqA Z Z eq69 Z Z gq69)<|Zq (pkT Z Z)<|Zm Z<|z1b 24 Z (fun h5=>?_) (fun h5=>?_)
   ·
    refine lKn 22 Z h5<|lKn 23 Z h5<|z17 Zx Z Z (faB 1 Z Z Tryz.underlying73 Z (by exact zng))<|z17 Zx Z Z (ld 1 Z Z (fP (z2j _)) ty71 Z)<|z17 Zx Z Z (faB 2 Z Z Tryz.underlying73 Z (by exact zng))<|z17 Zx Z Z (ld 2 Z Z (fP (z2j _)) ty71 Z)<|z17 Zx Z Z (eqA Z Z eq71 Z Z gq71)<|Zq (pkT Z Z)<|Zm Z<|z1b 31 Z (fun h6=>?_) (fun h6=>?_)
    ·
     refine lKn 29 Z h6<|lKn 30 Z h6<|z17 Zx Z Z (faB 1 Z Z Tryz.underlying73 Z (by exact z6e))<|z17 Zx Z Z (ld 1 Z Z (fP (z0z _)) z8j Z)<|z17 Zx Z Z (faB 2 Z Z Tryz.underlying73 Z (by exact z6e))<|z17 Zx Z Z (ld 2 Z Z (fP (z0z _)) z8j Z)<|zdb [] [] Zx Z Tryz.func71 Z Z (z9r _ _) (Y2 Z Z) rN fun r7 n8=>Zq (pkT Z Z)<|Zb Z<|z0k<|Ze [] [] Z
    ·
     refine lKn 29 Z h6<|lKn 30 Z h6<|Zk Z<|Zk Z<|Zk Z<|Zk Z<|Zk Z<|Zq (pkF Z Z)<|Zb Z<|z0k<|Ze [] [] Z
   ·
    refine lKn 22 Z h5<|lKn 23 Z h5<|Zk Z<|Zk Z<|Zk Z<|Zk Z<|Zk Z<|Zq (pkF Z Z)<|Zm Z<|Zk Z<|Zk Z<|Zk Z<|Zk Z<|Zk Z<|Zq (pkF Z Z)<|Zb Z<|z0k<|Ze [] [] Z
  ·
   refine lKn 15 Z h4<|lKn 16 Z h4<|Zk Z<|Zk Z<|Zk Z<|Zk Z<|Zk Z<|Zq (pkF Z Z)<|Zm Z<|Zk Z<|Zk Z<|Zk Z<|Zk Z<|Zk Z<|Zq (pkF Z Z)<|Zm Z<|Zk Z<|Zk Z<|Zk Z<|Zk Z<|Zk Z<|Zq (pkF Z Z)<|Zb Z<|z0k<|Ze [] [] Z
 ·
  refine lKn 9 Z h3<|Zk Z<|Zk Z<|Zk Z<|Zk Z<|Zk Z<|Zq (pkF Z Z)<|Zm Z<|Zk Z<|Zk Z<|Zk Z<|Zk Z<|Zk Z<|Zq (pkF Z Z)<|Zm Z<|Zk Z<|Zk Z<|Zk Z<|Zk Z<|Zk Z<|Zq (pkF Z Z)<|Zm Z<|Zk Z<|Zk Z<|Zk Z<|Zk Z<|Zk Z<|Zq (pkF Z Z)<|Zb Z<|z0k<|Ze [] [] Z
def zj6 (a0:z00) (a2:z07) (r5:Int × Bool) (r11:List V3) (s16:(List z07) × Int):Option (Sum ((List z07)) ((List z07) × Int)) :=
 if decide (s16.2<(r11.length:Int)) then
  some (decide (s16.2<r5.1)) >>= fun y19 =>
  if y19 then
   idx a0.Ops s16.2 >>= fun x21 =>
   zer x21 >>= fun r23 =>
   app 112 s16.1 [r23] >>= fun x26 =>
   some (.inr (x26,w64 (s16.2+1)))
  else
   some (s16.2==r5.1) >>= fun y29 =>
   if y29 then
    zer a2 >>= fun r31 =>
    app 112 s16.1 [r31] >>= fun x34 =>
    some (.inr (x34,w64 (s16.2+1)))
   else
    idx a0.Ops (w64 (s16.2 - 1)) >>= fun x37 =>
    zer x37 >>= fun r39 =>
    app 112 s16.1 [r39] >>= fun x42 =>
    some (.inr (x42,w64 (s16.2+1)))
 else
  some (.inl s16.1)
def zi2 (a0:z00) (a1:V3) (a2:z07):Option (z00 × Bool) :=
 zdy a0 a1 >>= fun r5 =>
 if r5.2 then
  some (a0,false)
 else
  z0u a0.IDs >>= fun r8 =>
  insF r8 r5.1 [a1] >>= fun r11 =>
  (iter (zj6 a0 a2 r5 r11) ([],0)) >>= fun s15 =>
  some ((⟨r11,s15⟩:z00),true)
set_option maxHeartbeats 4000000 in
theorem zqk (a0:z00) (a1:V3) (a2:z07):z1u Tryz.prog 68 [.rd z01 a0,.rd aZ a1,.rd z03 a2] [] (zi2 a0 a1 a2) (fun r nv=>⟨[.rd z01 r.1,.rd z0j r.2],[]⟩):=by
 refine z2d 74 Tryz.func68 Z Z Z fun H w=>?_
 refine gSR<|Eb Z (bx 1 Z) fun v1=>Eb Z (bx 2 Z) fun v2=>Eb Z (bx 3 Z) fun v3=>Eb Z (z56 4 z4h (ZrE.nilS (ZrE.nilS ZrE.nil))) fun v4=>Zb Z<|gSR<|Zq (ld 1 Z Z fH z3v Z)<|Zq (ld 2 Z Z fH z43 Z)<|Zc [] [] Tryz.func65 Z (zfk _ _) fun r5 n6=>Zm Z<|Zq (ext Z Z)<|Zq (ext Z Z)<|Za Z<|Zb Z<|z0s<|gSR<|Zm Z<|Zj Z (fun h7=>?_) (fun h7=>?_)
 ·
  refine gKn 17 Z h7<|gKn 9 Z h7<|gSR<|Zq (ld 1 Z Z fH z3v Z)<|za6 aZ [.rd (z02 aZ) [],.val (.slice none 0 0)] 4 [] [.val (.slice none 0 0)] Z Z Z<|za6 z03 [.rd (z02 aZ) [],.rd (z02 z03) []] 4 [.rd (z02 aZ) []] [] Z Z Z<|zd3 (R:=z01) (⟨[],[]⟩:z00) 4 Z (Sp.via (Sp.prod (Sp.prod Sp.unit)))<|Es (sto 4 Z Z fH Z z4h)<|Zb Z<|z0k<|z0w<|zbq [] [] Z (eC 4 Z Z z3v<|eE Z<|eN) (rN)
 ·
  refine gKn 17 Z h7<|gKn 9 Z h7<|Zt<|z0s<|zsc [(3,.val (z06 v1 0)),(4,.val (z06 v2 0)),(5,.val (z06 v3 0)),(6,.val (z06 v4 0)),(8,.rd z0e r5.1)] [(1,some (v1,.box 25 [.rd z01 a0])),(2,some (v2,.box 62 [.rd aZ a1])),(3,some (v3,.box 73 [.rd z03 a2])),(4,some (v4,.box 25 [.val (.slice none 0 0),.val (.slice none 0 0)]))] [1,2,3,4] (Zs Z Z Z Z<|sS Z<|sN) (Zi Z<|Zi Z<|Zi Z<|Zi Z<|rN)<|z4l fun r8 h10=>z4l fun r11 h13=>gOr [] [⟨1,some ([], fun nv=>(v1,.box 25 [.rd z01 a0])),[]⟩,⟨5,none,[(2,some ([1], fun nv=>((nv 1),.list aZ 62 r8))),(6,none)]⟩,⟨2,some ([], fun nv=>(v2,.box 62 [.rd aZ a1])),[]⟩,⟨6,none,[(5,some ([2], fun nv=>((nv 2),.list aZ 62 [a1]))),(6,none)]⟩,⟨7,none,[(6,some ([3], fun nv=>((nv 3),.list aZ 62 r11)))]⟩,⟨8,none,[(8,some ([4], fun nv=>((nv 4),.box 25 [.val (.slice none 0 0),.val (.slice none 0 0)]))),(9,some ([3,4], fun nv=>((nv 4),.box 25 [.val (nv 3),.val (.slice none 0 0)])))]⟩] [pk 20 (.val (z06 v1 (0+0))) [(0,0,false)],pk 21 (.rd (z02 aZ) a0.IDs) [(0,0,false)],⟨some (22,[1], fun nv=>.val (nv 1)),[(1,0,true)],[1],[]⟩,pd 23 (.rd z0e r5.1),pk 24 (.rd aZ a1) [(2,0,false)],⟨some (25,[2], fun nv=>.val (nv 2)),[(3,0,true)],[2],[]⟩,⟨some (26,[3], fun nv=>.val (nv 3)),[(3,1,true),(1,1,true),(4,0,true)],[3],[]⟩,⟨some (27,[3], fun nv=>.agg [.val (nv 3),.val (.slice none 0 0)]),[],[],[]⟩,⟨some (10,[4], fun nv=>.val (z06 (nv 4) 0)),[(5,0,true)],[4],[]⟩,⟨none,[(5,1,true)],[],[]⟩] mixed (oC (oRn (fun nv E=>faB 1 Z Z Tryz.underlying25 Z (by exact z6e)))<|oC (oRn (fun nv E=>ld 1 Z Z (fP (z0a _)) z8j Z))<|oC (oCl [1] [] [(100,5)] h10 Tryz.func46 Z (fun nv=>(z1n _)) (fun nv=>(Y1 Z)) (fun nv E=>rN))<|oC (oRn (fun nv E=>mv Z))<|oC (oRn (fun nv E=>ld 2 Z Z fH z43 Z))<|oC (oEf 6 2 (fun nv E=>lit (R:=aZ) ([a1]:List V3) 6 (pP Z Z<|pN) Z tu22 z2b Z Z))<|oC (oCl [3] [5,6] [(100,7)] h13 Tryz.func106 Z (fun nv=>(z16t _ _ _ _ _)) (fun nv=>(aQ Z<|aQ Z<|aQ Z<|aN)) (fun nv E=>(Zi Z<|Zi Z<|rN)))<|oC (oRn (fun nv E=>zm9 [(0,1),(1,1)] Tryz.underlying25 z4h (ZrE.nilS (ZrE.nilS ZrE.nil)) Z (zgf.cons Z Z z05 (zao.cast (zao.here z05) Z)<|zgf.done Z)))<|oC (oEb 8 4 (fun nv E=>z56 8 z4h (ZrE.nilS (ZrE.nilS ZrE.nil))))<|oC (oEs 8 (fun nv E=>zm7 8 Z Z (z08.cast (z08.cons z05 (z08.cons z05 z08.nil)) Z) Z (z20.cons z0q (z20.cons z0q z20.nil)) (z08.cast (z08.cons z05 (z08.cons z05 z08.nil)) Z) z4h))<|oN) fun n14=>z0o<|z8n (fun (s15:(List z07)) aa ww=>∃ nv:Nat→Value,Sta (ctx 74 H [] w) [(6,.val (z06 v4 0)),(10,.val (z06 (nv 0) 0))] [(4,some (v4,.box 25 [.val (.slice none 0 0),.val (.slice none 0 0)])),(7,some ((nv 1),.list aZ 62 r11)),(9,some ((nv 2),.list z03 73 s15)),(8,some ((nv 0),.box 25 [.val (nv 1),.val (nv 2)]))] aa ww) ?_ (fun s15=>?_)
  ·
   refine gSR<|Zq (faB 8 Z Z Tryz.underlying25 Z (by exact z6e))<|Zq (ldV 8 Z Z (At.cast At.here Z) sc22 Z)<|Zq (z3g Z (.own 7 Z) Z tu22)<|Zm Z<|Zn<|zxu z03 73 11<|z26 (fun (s16:(List z07) × Int) aa ww=>∃ nv:Nat→Value,Sta (ctx 74 H [] w) [(3,.val (z06 v1 0)),(5,.val (z06 v3 0)),(6,.val (z06 v4 0)),(8,.rd z0e r5.1),(10,.val (z06 (nv 0) 0)),(30,.rd z0e (r11.length:Int)),(31,.rd z0e s16.2)] [(1,some (v1,.box 25 [.rd z01 a0])),(3,some (v3,.box 73 [.rd z03 a2])),(4,some (v4,.box 25 [.val (.slice none 0 0),.val (.slice none 0 0)])),(7,some ((nv 1),.list aZ 62 r11)),(10,some ((nv 2),.list z03 73 s16.1)),(8,some ((nv 0),.box 25 [.val (nv 1),.val (nv 2)]))] aa ww) (fun aa ww h=>⟨nvl [(n14 4),(n14 3),(.slice none 0 0)],Zu h [1,3,4,7,11,8]⟩) (fun s16=>?_)
   refine gEx fun n17=>gSR<|Zq (I.lss Z Z)<|Zn<|z0s<|gIf Z Z (fun h18=>?_) (fun h18=>?_)
   ·
    refine Zt<|z0s<|z4y<|gSR<|Zm Z<|Zb Z<|z4y<|gSR<|Zm Z<|Zm Z<|Zq (I.lss Z Z)<|Za Z<|z1t 46 Z fun y19=>Zj Z (fun h20=>?_) (fun h20=>?_)
    ·
     refine zsc [(3,.val (z06 v1 0)),(5,.val (z06 v3 0)),(6,.val (z06 v4 0)),(8,.rd z0e r5.1),(10,.val (z06 (n17 0) 0)),(30,.rd z0e (r11.length:Int)),(31,.rd z0e s16.2),(11,.rd z0e s16.2)] [(1,some (v1,.box 25 [.rd z01 a0])),(3,some (v3,.box 73 [.rd z03 a2])),(4,some (v4,.box 25 [.val (.slice none 0 0),.val (.slice none 0 0)])),(7,some ((n17 1),.list aZ 62 r11)),(10,some ((n17 2),.list z03 73 s16.1)),(8,some ((n17 0),.box 25 [.val (n17 1),.val (n17 2)]))] [1,3,4,7,10,8] (Zs Z Z Z Z<|Zs Z Z Z Z<|sN) (Zi Z<|Zi Z<|Zi Z<|Zi Z<|Zi Z<|Zi Z<|rN)<|z4l fun x21 h22=>z4l fun r23 h25=>z4l fun x26 h27=>gOr [] [⟨8,some ([], fun nv=>((n17 0),.box 25 [.val (n17 1),.val (n17 2)])),[(11,some ([2], fun nv=>((n17 0),.box 25 [.val (n17 1),.val (nv 2)])))]⟩,⟨1,some ([], fun nv=>(v1,.box 25 [.rd z01 a0])),[]⟩,⟨12,none,[(8,none)]⟩,⟨10,some ([], fun nv=>((n17 2),.list z03 73 s16.1)),[(9,some ([2], fun nv=>((nv 2),.list z03 73 x26)))]⟩] [pk 50 (.val (z06 (n17 0) (0+1))) [(0,0,false)],pk 51 (.val (n17 2)) [(0,0,false)],pk 52 (.val (z06 v1 (0+1))) [(1,0,false)],pk 53 (.rd (z02 z03) a0.Ops) [(1,0,false)],pd 54 (.rd z0e s16.2),pd 55 (.rp z03 x21),pd 56 (.rd z03 x21),pd 57 (.rd z03 r23),⟨some (58,[], fun nv=>.rd (z02 z03) [r23]),[(2,0,true)],[1],[]⟩,⟨some (59,[2], fun nv=>.val (nv 2)),[(3,0,true)],[2],[]⟩,pk 60 (.val (z06 (n17 0) (0+1))) [(0,0,false)],⟨none,[(3,1,false),(0,0,true)],[],[]⟩] mixed (oC (oRn (fun nv E=>faB 8 Z Z Tryz.underlying25 Z (by exact zai)))<|oC (oRn (fun nv E=>ldV 8 Z Z (At.cast (At.next z05 At.here) Z) sc23 Z))<|oC (oRn (fun nv E=>faB 1 Z Z Tryz.underlying25 Z (by exact zai)))<|oC (oRn (fun nv E=>ld 1 Z Z (fP (z09 _)) zec Z))<|oC (oRn (fun nv E=>mv Z))<|oC (oRn (fun nv E=>ixR Z Z h22 tu23 z5n Z))<|oC (oRn (fun nv E=>ldR Z z9n))<|oC (oCl [] [] [] h25 Tryz.func67 Z (fun nv=>(zey _)) (fun nv=>(Y1 Z)) (fun nv E=>rN))<|oC (oFz (A1:=fun nv=>[(12,some ((nv 1),.list z03 73 [r23]))]) 12 1 (oEf 12 1 (fun nv E=>lit (R:=z03) ([r23]:List z07) 12 (pP Z Z<|pN) Z tu23 z5n Z Z)))<|oC (oEf 10 2 (fun nv E=>apn 10 Z Z Z .rd h27 tu23 z5n Z Z Z))<|oC (oRn (fun nv E=>faB 8 Z Z Tryz.underlying25 Z (by exact zai)))<|oC (oEs 8 (fun nv E=>zpj 8 Z Z (zao.cast (zao.next z05 (zao.here z05)) Z) Z z0q z05 zai))<|oN) fun n28=>z35<|z35<|z0o<|z2e<|Zq (I.add Z Z)<|Zm Z<|z1q<|z1k (fun aa ww h=>⟨nvl [(n17 0),(n17 1),(n28 2)],Zu h [1,3,4,7,10,8]⟩)
    ·
     refine gSR<|Zm Z<|Zm Z<|Zq (I.eql Z Z)<|Za Z<|z1t 61 Z fun y29=>Zj Z (fun h30=>?_) (fun h30=>?_)
     ·
      refine zsc [(3,.val (z06 v1 0)),(5,.val (z06 v3 0)),(6,.val (z06 v4 0)),(8,.rd z0e r5.1),(10,.val (z06 (n17 0) 0)),(30,.rd z0e (r11.length:Int)),(31,.rd z0e s16.2)] [(1,some (v1,.box 25 [.rd z01 a0])),(3,some (v3,.box 73 [.rd z03 a2])),(4,some (v4,.box 25 [.val (.slice none 0 0),.val (.slice none 0 0)])),(7,some ((n17 1),.list aZ 62 r11)),(10,some ((n17 2),.list z03 73 s16.1)),(8,some ((n17 0),.box 25 [.val (n17 1),.val (n17 2)]))] [1,3,4,7,10,8] (Zs Z Z Z Z<|sS Z<|sS Z<|sS Z<|sN) (Zi Z<|Zi Z<|Zi Z<|Zi Z<|Zi Z<|Zi Z<|rN)<|z4l fun r31 h33=>z4l fun x34 h35=>gOr [] [⟨8,some ([], fun nv=>((n17 0),.box 25 [.val (n17 1),.val (n17 2)])),[(7,some ([2], fun nv=>((n17 0),.box 25 [.val (n17 1),.val (nv 2)])))]⟩,⟨3,some ([], fun nv=>(v3,.box 73 [.rd z03 a2])),[]⟩,⟨13,none,[(4,none)]⟩,⟨10,some ([], fun nv=>((n17 2),.list z03 73 s16.1)),[(5,some ([2], fun nv=>((nv 2),.list z03 73 x34)))]⟩] [pk 65 (.val (z06 (n17 0) (0+1))) [(0,0,false)],pk 66 (.val (n17 2)) [(0,0,false)],pk 67 (.rd z03 a2) [(1,0,false)],pd 68 (.rd z03 r31),⟨some (69,[], fun nv=>.rd (z02 z03) [r31]),[(2,0,true)],[1],[]⟩,⟨some (70,[2], fun nv=>.val (nv 2)),[(3,0,true)],[2],[]⟩,pk 71 (.val (z06 (n17 0) (0+1))) [(0,0,false)],⟨none,[(3,1,false),(0,0,true)],[],[]⟩] mixed (oC (oRn (fun nv E=>faB 8 Z Z Tryz.underlying25 Z (by exact zai)))<|oC (oRn (fun nv E=>ldV 8 Z Z (At.cast (At.next z05 At.here) Z) sc23 Z))<|oC (oRn (fun nv E=>ld 3 Z Z fH z9n Z))<|oC (oCl [] [] [] h33 Tryz.func67 Z (fun nv=>(zey _)) (fun nv=>(Y1 Z)) (fun nv E=>rN))<|oC (oFz (A1:=fun nv=>[(13,some ((nv 1),.list z03 73 [r31]))]) 13 1 (oEf 13 1 (fun nv E=>lit (R:=z03) ([r31]:List z07) 13 (pP Z Z<|pN) Z tu23 z5n Z Z)))<|oC (oEf 10 2 (fun nv E=>apn 10 Z Z Z .rd h35 tu23 z5n Z Z Z))<|oC (oRn (fun nv E=>faB 8 Z Z Tryz.underlying25 Z (by exact zai)))<|oC (oEs 8 (fun nv E=>zpj 8 Z Z (zao.cast (zao.next z05 (zao.here z05)) Z) Z z0q z05 zai))<|oN) fun n36=>z35<|z35<|z0o<|z2e<|Zq (I.add Z Z)<|Zm Z<|z1q<|z1k (fun aa ww h=>⟨nvl [(n17 0),(n17 1),(n36 2)],Zu h [1,3,4,7,10,8]⟩)
     ·
      refine zsc [(3,.val (z06 v1 0)),(5,.val (z06 v3 0)),(6,.val (z06 v4 0)),(8,.rd z0e r5.1),(10,.val (z06 (n17 0) 0)),(30,.rd z0e (r11.length:Int)),(31,.rd z0e s16.2),(11,.rd z0e s16.2)] [(1,some (v1,.box 25 [.rd z01 a0])),(3,some (v3,.box 73 [.rd z03 a2])),(4,some (v4,.box 25 [.val (.slice none 0 0),.val (.slice none 0 0)])),(7,some ((n17 1),.list aZ 62 r11)),(10,some ((n17 2),.list z03 73 s16.1)),(8,some ((n17 0),.box 25 [.val (n17 1),.val (n17 2)]))] [1,3,4,7,10,8] (Zs Z Z Z Z<|Zs Z Z Z Z<|sN) (Zi Z<|Zi Z<|Zi Z<|Zi Z<|Zi Z<|Zi Z<|rN)<|z4l fun x37 h38=>z4l fun r39 h41=>z4l fun x42 h43=>gOr [] [⟨8,some ([], fun nv=>((n17 0),.box 25 [.val (n17 1),.val (n17 2)])),[(12,some ([2], fun nv=>((n17 0),.box 25 [.val (n17 1),.val (nv 2)])))]⟩,⟨1,some ([], fun nv=>(v1,.box 25 [.rd z01 a0])),[]⟩,⟨14,none,[(9,none)]⟩,⟨10,some ([], fun nv=>((n17 2),.list z03 73 s16.1)),[(10,some ([2], fun nv=>((nv 2),.list z03 73 x42)))]⟩] [pk 34 (.val (z06 (n17 0) (0+1))) [(0,0,false)],pk 35 (.val (n17 2)) [(0,0,false)],pk 36 (.val (z06 v1 (0+1))) [(1,0,false)],pk 37 (.rd (z02 z03) a0.Ops) [(1,0,false)],pd 38 (.rd z0e s16.2),pd 39 (.rd z0e (w64 (s16.2 - 1))),pd 40 (.rp z03 x37),pd 41 (.rd z03 x37),pd 42 (.rd z03 r39),⟨some (43,[], fun nv=>.rd (z02 z03) [r39]),[(2,0,true)],[1],[]⟩,⟨some (44,[2], fun nv=>.val (nv 2)),[(3,0,true)],[2],[]⟩,pk 45 (.val (z06 (n17 0) (0+1))) [(0,0,false)],⟨none,[(3,1,false),(0,0,true)],[],[]⟩] mixed (oC (oRn (fun nv E=>faB 8 Z Z Tryz.underlying25 Z (by exact zai)))<|oC (oRn (fun nv E=>ldV 8 Z Z (At.cast (At.next z05 At.here) Z) sc23 Z))<|oC (oRn (fun nv E=>faB 1 Z Z Tryz.underlying25 Z (by exact zai)))<|oC (oRn (fun nv E=>ld 1 Z Z (fP (z09 _)) zec Z))<|oC (oRn (fun nv E=>mv Z))<|oC (oRn (fun nv E=>I.sub Z Z))<|oC (oRn (fun nv E=>ixR Z Z h38 tu23 z5n Z))<|oC (oRn (fun nv E=>ldR Z z9n))<|oC (oCl [] [] [] h41 Tryz.func67 Z (fun nv=>(zey _)) (fun nv=>(Y1 Z)) (fun nv E=>rN))<|oC (oFz (A1:=fun nv=>[(14,some ((nv 1),.list z03 73 [r39]))]) 14 1 (oEf 14 1 (fun nv E=>lit (R:=z03) ([r39]:List z07) 14 (pP Z Z<|pN) Z tu23 z5n Z Z)))<|oC (oEf 10 2 (fun nv E=>apn 10 Z Z Z .rd h43 tu23 z5n Z Z Z))<|oC (oRn (fun nv E=>faB 8 Z Z Tryz.underlying25 Z (by exact zai)))<|oC (oEs 8 (fun nv E=>zpj 8 Z Z (zao.cast (zao.next z05 (zao.here z05)) Z) Z z0q z05 zai))<|oN) fun n44=>z35<|z35<|z0o<|z2e<|Zq (I.add Z Z)<|Zm Z<|z1q<|z1k (fun aa ww h=>⟨nvl [(n17 0),(n17 1),(n44 2)],Zu h [1,3,4,7,10,8]⟩)
   ·
    refine z1s<|z0x<|z0y<|z3n (fun aa ww h=>⟨nvl [(n17 0),(n17 1),(n17 2)],Zu h [4,7,10,8]⟩)
  ·
   refine gEx fun n45=>gSR<|zyt [.rd (z02 aZ) r11,.val (n45 2)] 8 7 [] [.val (n45 2)] Z Z Z Z Z<|zyt [.rd (z02 aZ) r11,.rd (z02 z03) s15] 8 9 [.rd (z02 aZ) r11] [] Z Z Z Z Z<|zd3 (R:=z01) (⟨r11,s15⟩:z00) 8 Z (Sp.via (Sp.prod (Sp.prod Sp.unit)))<|Zq (ld 8 Z Z fH z3v Z)<|za6 aZ [.rd (z02 aZ) [],.val (.slice none 0 0)] 4 [] [.val (.slice none 0 0)] Z Z Z<|za6 z03 [.rd (z02 aZ) [],.rd (z02 z03) []] 4 [.rd (z02 aZ) []] [] Z Z Z<|zd3 (R:=z01) (⟨[],[]⟩:z00) 4 Z (Sp.via (Sp.prod (Sp.prod Sp.unit)))<|Es (sto 4 Z Z fH Z z4h)<|Zb Z<|z0k<|zbq [] [] Z (eC 4 Z Z z3v<|eE Z<|eN) (rN)
def z88 (a0:z00) (a1:z00) (s9:Int):Option (Sum (Sum (z00 × Int) Unit) Int) :=
 if decide (s9<(a1.IDs.length:Int)) then
  idx a1.IDs s9 >>= fun x11 =>
  zdy a0 x11 >>= fun r14 =>
  (if r14.2 then
   idx a0.Ops r14.1 >>= fun x18 =>
   idx a1.Ops s9 >>= fun x20 =>
   zks x18 x20 >>= fun r22 =>
   some (!r22)
  else
   some false) >>= fun s16 =>
  if s16 then
   some (.inl (.inl ((⟨[],[]⟩:z00),14)))
  else
   some (.inr (w64 (s9+1)))
 else
  some (.inl (.inr ()))
def ze6 (a0:z00) (s29:(List z07) × Int):Option (Sum ((List z07)) ((List z07) × Int)) :=
 if decide (s29.2<(a0.Ops.length:Int)) then
  idx a0.Ops s29.2 >>= fun x32 =>
  zer x32 >>= fun r35 =>
  app 112 s29.1 [r35] >>= fun x38 =>
  some (.inr (x38,w64 (s29.2+1)))
 else
  some (.inl s29.1)
def ze3 (a1:z00) (s43:(List V3) × (List z07) × Int):Option (Sum ((List V3) × (List z07)) ((List V3) × (List z07) × Int)) :=
 if decide (s43.2.2<(a1.IDs.length:Int)) then
  idx a1.IDs s43.2.2 >>= fun x45 =>
  idx a1.Ops s43.2.2 >>= fun x48 =>
  zi2 (⟨s43.1,s43.2.1⟩:z00) x45 x48 >>= fun r50 =>
  some (.inr (r50.1.IDs,r50.1.Ops,w64 (s43.2.2+1)))
 else
  some (.inl (s43.1,s43.2.1))
def z7u (a0:z00) (a1:z00):Option (z00 × Int) :=
 zgt [a0,a1] >>= fun r5 =>
 if r5 != 0 then
  some ((⟨[],[]⟩:z00),r5)
 else
  z5g (iter (z88 a0 a1) 0) fun s8 =>
  z0u a0.IDs >>= fun r25 =>
  (iter (ze6 a0) ([],0)) >>= fun s28 =>
  (iter (ze3 a1) (r25,s28,0)) >>= fun s42 =>
  if decide (60<(s42.2.length:Int)) then
   some ((⟨[],[]⟩:z00),4)
  else
   some ((⟨s42.1,s42.2⟩:z00),0)
set_option maxHeartbeats 4000000 in
theorem zia (a0:z00) (a1:z00):z1u Tryz.prog 37 [.rd z01 a0,.rd z01 a1] [zG1] (z7u a0 a1) (fun r nv=>⟨[.rd z01 r.1,.rd z0e r.2],[(1001,some (.bool true,.glob 1 (z3j 64 z0p) z65))]⟩):=by
 refine z2d 100 Tryz.func37 Z Z Z fun H w=>?_
 refine gSR<|Eb Z (bx 1 Z) fun v1=>Eb Z (bx 2 Z) fun v2=>Eb Z (z56 3 z4h (ZrE.nilS (ZrE.nilS ZrE.nil))) fun v3=>Zb Z<|z0s<|gSR<|Zq (ld 1 Z Z fH z3v Z)<|Zq (ld 2 Z Z fH z3v Z)<|Ef Z (lit (R:=z01) ([a0,a1]:List z00) 4 (pP Z Z<|pP Z Z<|pN) Z Tryz.underlying139 z4h Z Z) fun v4=>zh0 4 [18] Z (fS Z<|fN)<|Zc [1001] [] Tryz.func64 Z (zlf _) fun r5 n6=>Zb Z<|gSR<|Zm Z<|Zq (I.neq Z Z)<|Zj Z (fun h7=>?_) (fun h7=>?_)
 ·
  refine gSR<|Zq (zm9 [(0,1),(1,1)] Tryz.underlying25 z4h (ZrE.nilS (ZrE.nilS ZrE.nil)) Z (zgf.done Z))<|Zm Z<|Es (zm7 3 Z Z (z08.cast (z08.cons z05 (z08.cons z05 z08.nil)) Z) Z (z20.cons z0q (z20.cons z0q z20.nil)) (z08.cast (z08.cons z05 (z08.cons z05 z08.nil)) Z) z4h)<|Zb Z<|z0k<|z0w<|zga aZ [.rd (z02 aZ) [],.val (.slice none 0 0)] 3 [] [.val (.slice none 0 0)] Z Z Z<|zga z03 [.rd (z02 aZ) [],.rd (z02 z03) []] 3 [.rd (z02 aZ) []] [] Z Z Z<|zny (R:=z01) (⟨[],[]⟩:z00) 3 Z (Sp.via (Sp.prod (Sp.prod Sp.unit)))<|zbq [] [1001] Z (eC 3 Z Z z3v<|eE Z<|eN) (y1 Z)
 ·
  refine Zt<|z8c (fun (s8:Unit) aa ww=>Sta (ctx 100 H [zG1] w) [(2,.val (z06 v1 0)),(3,.val (z06 v2 0)),(4,.val (z06 v3 0))] [(1,some (v1,.box 25 [.rd z01 a0])),(2,some (v2,.box 25 [.rd z01 a1])),(3,some (v3,.box 25 [.val (.slice none 0 0),.val (.slice none 0 0)])),zG1] aa ww) ?_ (fun s8=>?_)
  ·
   refine gSR<|Zq (faB 2 Z Z Tryz.underlying25 Z (by exact z6e))<|Zq (ld 2 Z Z (fP (z0a _)) z8j Z)<|Zq (z3g Z .rd Z tu22)<|Zm Z<|Zn<|z26 (fun (s9:Int) aa ww=>Sta (ctx 100 H [zG1] w) [(2,.val (z06 v1 0)),(3,.val (z06 v2 0)),(4,.val (z06 v3 0)),(25,.rd (z02 aZ) a1.IDs),(26,.rd z0e (a1.IDs.length:Int)),(27,.rd z0e s9)] [(1,some (v1,.box 25 [.rd z01 a0])),(2,some (v2,.box 25 [.rd z01 a1])),(3,some (v3,.box 25 [.val (.slice none 0 0),.val (.slice none 0 0)])),zG1] aa ww) (fun aa ww h=>Zu h [1,2,3,1001]) (fun s9=>?_)
   refine gSR<|Zq (I.lss Z Z)<|Zn<|z0s<|gIf Z Z (fun h10=>?_) (fun h10=>?_)
   ·
    refine Zt<|z0s<|z4y<|gSR<|Zm Z<|z0n fun x11 h12=>Zq (ixR Z Z h12 tu22 z2b Z)<|Zq (ldR Z z43)<|Eb Z (z56 1100 z2b (.zr (R:=aZ) (x:=(Vector.replicate 32 0)) zgg)) fun v13=>Za Z<|Es (sto 1100 Z Z fH Z z2b)<|Zn<|gSR<|Zq (ld 1 Z Z fH z3v Z)<|Zq (ld 1100 Z Z fH z43 Z)<|Zc [] [] Tryz.func65 Z (zfk _ _) fun r14 n15=>Zm Z<|Zq (ext Z Z)<|Zq (ext Z Z)<|Za Z<|Zb Z<|z8n (fun (s16:Bool) aa ww=>Sta (ctx 100 H [zG1] w) [(2,.val (z06 v1 0)),(3,.val (z06 v2 0)),(4,.val (z06 v3 0)),(25,.rd (z02 aZ) a1.IDs),(26,.rd z0e (a1.IDs.length:Int)),(27,.rd z0e s9),(52,.rd z0j s16)] [(1,some (v1,.box 25 [.rd z01 a0])),(2,some (v2,.box 25 [.rd z01 a1])),(3,some (v3,.box 25 [.val (.slice none 0 0),.val (.slice none 0 0)])),zG1] aa ww) ?_ (fun s16=>?_)
    ·
     refine z99 [] mixed Z Z<|hTk 0 Z Z (mv Z)<|hTk 1 Z Z (mv Z)<|hIf 39 Z Z (fun h17=>?_) (fun h17=>?_)
     ·
      refine hKn 37 Z Z h17<|hKn 10 Z Z h17<|hKn 38 Z Z h17<|Zg 2 Z Z (faB 1 Z Z Tryz.underlying25 Z (by exact zai))<|Zg 3 Z Z (ld 1 Z Z (fP (z09 _)) zec Z)<|Zg 4 Z Z (mv Z)<|z64 fun x18 h19=>Zg 5 Z Z (ixR Z Z h19 tu23 z5n Z)<|Zg 6 Z Z (ldR Z z9n)<|Zg 7 Z Z (faB 2 Z Z Tryz.underlying25 Z (by exact zai))<|Zg 8 Z Z (ld 2 Z Z (fP (z09 _)) zec Z)<|Zg 9 Z Z (mv Z)<|z64 fun x20 h21=>Zg 10 Z Z (ixR Z Z h21 tu23 z5n Z)<|Zg 11 Z Z (ldR Z z9n)<|z4e 12 [] [] Z (by kernel_rfl) Z Zx Z Tryz.func66 Z Z (zo3 _ _) (Y2 Z Z) rN Z (fun _ _=>ze8) fun r22 n23=>Zg 13 Z Z (zfl Z)<|hTk 14 Z Z (pkT Z Z)<|z5a (by kernel_rfl)<|z3n (fun aa ww h=>Zu h [1,2,3,1001])
     ·
      refine hKn 37 Z Z h17<|hKn 10 Z Z h17<|hKn 38 Z Z h17<|hSk 2 Z Z<|hSk 3 Z Z<|hSk 4 Z Z<|hSk 5 Z Z<|hSk 6 Z Z<|hSk 7 Z Z<|hSk 8 Z Z<|hSk 9 Z Z<|hSk 10 Z Z<|hSk 11 Z Z<|hSk 12 Z Z<|hSk 13 Z Z<|hTk 14 Z Z (pkF Z Z)<|z5a (by kernel_rfl)<|z3n (fun aa ww h=>Zu h [1,2,3,1001])
    ·
     refine gIf Z Z (fun h24=>?_) (fun h24=>?_)
     ·
      refine gSR<|Zq (zm9 [(0,1),(1,1)] Tryz.underlying25 z4h (ZrE.nilS (ZrE.nilS ZrE.nil)) Z (zgf.done Z))<|Es (zm7 3 Z Z (z08.cast (z08.cons z05 (z08.cons z05 z08.nil)) Z) Z (z20.cons z0q (z20.cons z0q z20.nil)) (z08.cast (z08.cons z05 (z08.cons z05 z08.nil)) Z) z4h)<|Zb Z<|z0k<|z42<|z0w<|z7g<|z7a<|zga aZ [.rd (z02 aZ) [],.val (.slice none 0 0)] 3 [] [.val (.slice none 0 0)] Z Z Z<|zga z03 [.rd (z02 aZ) [],.rd (z02 z03) []] 3 [.rd (z02 aZ) []] [] Z Z Z<|zny (R:=z01) (⟨[],[]⟩:z00) 3 Z (Sp.via (Sp.prod (Sp.prod Sp.unit)))<|zbq [] [1001] Z (eC 3 Z Z z3v<|eE Z<|eN) (y1 Z)
     ·
      refine z2m<|z35<|z0o<|z2e<|Zq (I.add Z Z)<|Zm Z<|z1q<|z1k (fun aa ww h=>Zu h [1,2,3,1001])
   ·
    refine z1s<|z0x<|z0y<|z79 (fun aa ww h=>Zu h [1,2,3,1001])
  ·
   refine gSR<|Zq (faB 1 Z Z Tryz.underlying25 Z (by exact z6e))<|Zq (ld 1 Z Z (fP (z0a _)) z8j Z)<|Zc [] [(100,1149)] Tryz.func46 Z (z1n _) fun r25 n26=>Zq (zm9 [(0,1),(1,1)] Tryz.underlying25 z4h (ZrE.nilS (ZrE.nilS ZrE.nil)) Z (zgf.cons Z Z z05 (zao.cast (zao.here z05) Z)<|zgf.done Z))<|Eb Z (z56 1150 z4h (ZrE.nilS (ZrE.nilS ZrE.nil))) fun v27=>Es (zm7 1150 Z Z (z08.cast (z08.cons z05 (z08.cons z05 z08.nil)) Z) Z (z20.cons z0q (z20.cons z0q z20.nil)) (z08.cast (z08.cons z05 (z08.cons z05 z08.nil)) Z) z4h)<|Zn<|z8n (fun (s28:(List z07)) aa ww=>∃ nv:Nat→Value,Sta (ctx 100 H [zG1] w) [(3,.val (z06 v2 0)),(4,.val (z06 v3 0)),(11,.val (z06 v27 0))] [(2,some (v2,.box 25 [.rd z01 a1])),(3,some (v3,.box 25 [.val (.slice none 0 0),.val (.slice none 0 0)])),(1149,some ((n26 0),.list aZ 62 r25)),(1152,some ((nv 0),.list z03 73 s28)),(1150,some (v27,.box 25 [.val (n26 0),.val (nv 0)])),zG1] aa ww) ?_ (fun s28=>?_)
   ·
    refine gSR<|Zq (faB 1 Z Z Tryz.underlying25 Z (by exact zai))<|Zq (ld 1 Z Z (fP (z09 _)) zec Z)<|Zq (z3g Z .rd Z tu23)<|Zm Z<|Zn<|zxu z03 73 1155<|z26 (fun (s29:(List z07) × Int) aa ww=>∃ nv:Nat→Value,Sta (ctx 100 H [zG1] w) [(3,.val (z06 v2 0)),(4,.val (z06 v3 0)),(11,.val (z06 v27 0)),(60,.rd (z02 z03) a0.Ops),(61,.rd z0e (a0.Ops.length:Int)),(62,.rd z0e s29.2)] [(2,some (v2,.box 25 [.rd z01 a1])),(3,some (v3,.box 25 [.val (.slice none 0 0),.val (.slice none 0 0)])),(1149,some ((n26 0),.list aZ 62 r25)),(1154,some ((nv 0),.list z03 73 s29.1)),(1150,some (v27,.box 25 [.val (n26 0),.val (nv 0)])),zG1] aa ww) (fun aa ww h=>⟨nvl [(.slice none 0 0)],Zu h [2,3,1149,1155,1150,1001]⟩) (fun s29=>?_)
    refine gEx fun n30=>gSR<|Zq (I.lss Z Z)<|Zn<|z0s<|gIf Z Z (fun h31=>?_) (fun h31=>?_)
    ·
     refine Zt<|z0s<|z4y<|gSR<|z0n fun x32 h33=>Zq (ixR Z Z h33 tu23 z5n Z)<|Zq (ldR Z z9n)<|Eb Z (z56 1156 z5n (ZrE.rd (R:=z0p) (x:=0) (Zr.num Z) (ZrE.nilS (ZrE.rd (R:=z2c) (x:=0) (Zr.num Z) (ZrE.rd (R:=z0f) (x:=(⟨0,[],(⟨0,0,0,[]⟩:z04)⟩:z0h)) zn8 (ZrE.rd (R:=z0g) (x:=(⟨0,0⟩:z0c)) zm6 ZrE.nil Z) Z) Z)) Z)) fun v34=>za6 aZ [.rd z0p 0,.rd (z02 aZ) [],.rd z2c 0,.rd z0f (⟨0,[],(⟨0,0,0,[]⟩:z04)⟩:z0h),.rd z0g (⟨0,0⟩:z0c)] 1156 [.rd z0p 0] [.rd z2c 0,.rd z0f (⟨0,[],(⟨0,0,0,[]⟩:z04)⟩:z0h),.rd z0g (⟨0,0⟩:z0c)] Z Z Z<|zd3 (R:=z03) (⟨0,[],0,(⟨0,[],(⟨0,0,0,[]⟩:z04)⟩:z0h),(⟨0,0⟩:z0c)⟩:z07) 1156 Z (Sp.via (Sp.prod (Sp.prod (Sp.prod (Sp.prod (Sp.prod Sp.unit))))))<|Es (sto 1156 Z Z fH Z z5n)<|Zn<|zsc [(3,.val (z06 v2 0)),(4,.val (z06 v3 0)),(11,.val (z06 v27 0)),(60,.rd (z02 z03) a0.Ops),(61,.rd z0e (a0.Ops.length:Int)),(62,.rd z0e s29.2),(13,.val (z06 v34 0))] [(2,some (v2,.box 25 [.rd z01 a1])),(3,some (v3,.box 25 [.val (.slice none 0 0),.val (.slice none 0 0)])),(1149,some ((n26 0),.list aZ 62 r25)),(1154,some ((n30 0),.list z03 73 s29.1)),(1150,some (v27,.box 25 [.val (n26 0),.val (n30 0)])),zG1,(1156,some (v34,.box 73 [.rd z03 x32]))] [2,3,1149,1154,1150,1001,1156] (Zs Z Z Z Z<|sS Z<|sS Z<|sS Z<|sN) (Zi Z<|Zi Z<|Zi Z<|Zi Z<|Zi Z<|Zi Z<|Zi Z<|rN)<|z4l fun r35 h37=>z4l fun x38 h39=>gOr [] [⟨1150,some ([], fun nv=>(v27,.box 25 [.val (n26 0),.val (n30 0)])),[(7,some ([2], fun nv=>(v27,.box 25 [.val (n26 0),.val (nv 2)])))]⟩,⟨1156,some ([], fun nv=>(v34,.box 73 [.rd z03 x32])),[]⟩,⟨1157,none,[(4,none)]⟩,⟨1154,some ([], fun nv=>((n30 0),.list z03 73 s29.1)),[(5,some ([2], fun nv=>((nv 2),.list z03 73 x38)))]⟩] [pk 66 (.val (z06 v27 (0+1))) [(0,0,false)],pk 67 (.val (n30 0)) [(0,0,false)],pk 68 (.rd z03 x32) [(1,0,false)],pd 69 (.rd z03 r35),⟨some (70,[], fun nv=>.rd (z02 z03) [r35]),[(2,0,true)],[1],[]⟩,⟨some (71,[2], fun nv=>.val (nv 2)),[(3,0,true)],[2],[]⟩,pk 72 (.val (z06 v27 (0+1))) [(0,0,false)],⟨none,[(0,0,true),(3,1,false)],[],[]⟩] mixed (oC (oRn (fun nv E=>faB 1150 Z Z Tryz.underlying25 Z (by exact zai)))<|oC (oRn (fun nv E=>ldV 1150 Z Z (At.cast (At.next z05 At.here) Z) sc23 Z))<|oC (oRn (fun nv E=>ld 1156 Z Z fH z9n Z))<|oC (oCl [] [] [] h37 Tryz.func67 Z (fun nv=>(zey _)) (fun nv=>(Y1 Z)) (fun nv E=>rN))<|oC (oFz (A1:=fun nv=>[(1157,some ((nv 1),.list z03 73 [r35]))]) 1157 1 (oEf 1157 1 (fun nv E=>lit (R:=z03) ([r35]:List z07) 1157 (pP Z Z<|pN) Z tu23 z5n Z Z)))<|oC (oEf 1154 2 (fun nv E=>apn 1154 Z Z Z .rd h39 tu23 z5n Z Z Z))<|oC (oRn (fun nv E=>faB 1150 Z Z Tryz.underlying25 Z (by exact zai)))<|oC (oEs 1150 (fun nv E=>zpj 1150 Z Z (zao.cast (zao.next z05 (zao.here z05)) Z) Z z0q z05 zai))<|oN) fun n40=>z35<|z0o<|z2e<|Zq (I.add Z Z)<|Zm Z<|z1q<|z1k (fun aa ww h=>⟨nvl [(n40 2)],Zu h [2,3,1149,1154,1150,1001]⟩)
    ·
     refine z1s<|z0x<|z0y<|z3n (fun aa ww h=>⟨nvl [(n30 0)],Zu h [2,3,1149,1154,1150,1001]⟩)
   ·
    refine gEx fun n41=>z8n (fun (s42:(List V3) × (List z07)) aa ww=>Sta (ctx 100 H [zG1] w) [(4,.val (z06 v3 0)),(11,.val (z06 v27 0))] [(3,some (v3,.box 25 [.val (.slice none 0 0),.val (.slice none 0 0)])),(1150,some (v27,.box 25 [.rd (z02 aZ) s42.1,.rd (z02 z03) s42.2])),zG1] aa ww) ?_ (fun s42=>?_)
    ·
     refine gSR<|Zq (faB 2 Z Z Tryz.underlying25 Z (by exact z6e))<|Zq (ld 2 Z Z (fP (z0a _)) z8j Z)<|Zq (z3g Z .rd Z tu22)<|Zm Z<|Zn<|gPow [.rd (z02 aZ) r25,.val (n41 0)] 1150 1149 [] [.val (n41 0)] Z Z Z Z Z<|gPow [.rd (z02 aZ) r25,.rd (z02 z03) s28] 1150 1152 [.rd (z02 aZ) r25] [] Z Z Z Z Z<|z26 (fun (s43:(List V3) × (List z07) × Int) aa ww=>Sta (ctx 100 H [zG1] w) [(3,.val (z06 v2 0)),(4,.val (z06 v3 0)),(11,.val (z06 v27 0)),(75,.rd (z02 aZ) a1.IDs),(76,.rd z0e (a1.IDs.length:Int)),(77,.rd z0e s43.2.2)] [(2,some (v2,.box 25 [.rd z01 a1])),(3,some (v3,.box 25 [.val (.slice none 0 0),.val (.slice none 0 0)])),(1150,some (v27,.box 25 [.rd (z02 aZ) s43.1,.rd (z02 z03) s43.2.1])),zG1] aa ww) (fun aa ww h=>Zu h [2,3,1150,1001]) (fun s43=>?_)
     refine gSR<|Zq (I.lss Z Z)<|Zn<|z0s<|gIf Z Z (fun h44=>?_) (fun h44=>?_)
     ·
      refine Zt<|z0s<|z4y<|gSR<|Zm Z<|z0n fun x45 h46=>Zq (ixR Z Z h46 tu22 z2b Z)<|Zq (ldR Z z43)<|Eb Z (z56 1158 z2b (.zr (R:=aZ) (x:=(Vector.replicate 32 0)) zgg)) fun v47=>Za Z<|Es (sto 1158 Z Z fH Z z2b)<|Zn<|gJoi (R:=z01) (⟨s43.1,s43.2.1⟩:z00) 1150 Z (Sp.via (Sp.prod (Sp.prod Sp.unit)))<|z99 [1150] mixed Z Z<|hTk 1 Z Z (ld 1158 Z Z fH z43 Z)<|hTk 2 Z Z (faB 2 Z Z Tryz.underlying25 Z (by exact zai))<|hTk 3 Z Z (ld 2 Z Z (fP (z09 _)) zec Z)<|hTk 4 Z Z (mv Z)<|z64 fun x48 h49=>hTk 5 Z Z (ixR Z Z h49 tu23 z5n Z)<|hTk 6 Z Z (ldR Z z9n)<|hRun 0 Z (by kernel_rfl) (gd0 Z) Z Z anyJ (ld 1150 Z Z fH z3v Z)<|zl8 7 [] [] Z (by kernel_rfl) Z (gd0 Z) Z Tryz.func68 Z Z (zqk _ _ _) (aQ Z<|aQ Z<|aQ Z<|aN) rN Z fun r50 n51=>znj 8 Z (by kernel_rfl) (by kernel_rfl) (by kernel_rfl) (gd0 Z) Z Z (mv Z)<|znj 9 Z (by kernel_rfl) (by kernel_rfl) (by kernel_rfl) (gd0 Z) Z Z (ext Z Z)<|Zf 10 Z Z ze8 (ext Z Z)<|Zp 11 Z Z Z Z Z (sto 1150 Z Z fH Z z4h)<|z5a (by kernel_rfl)<|z35<|z0o<|z2e<|Zq (I.add Z Z)<|Zm Z<|z1q<|eSpl (R:=z01) 1150 Z (Sp.via (Sp.prod (Sp.prod Sp.unit)))<|z1k (fun aa ww h=>Zu h [2,3,1150,1001])
     ·
      refine z1s<|z0x<|z0y<|z3n (fun aa ww h=>Zu h [3,1150,1001])
    ·
     refine z0s<|gSR<|Zq (faB 1150 Z Z Tryz.underlying25 Z (by exact zai))<|Zq (ld 1150 Z Z (Foc.cast (Foc.next z19 fH) Z) zec Z)<|Zq (z3g Z .rd Z tu23)<|Zq (I.gtr Z Z)<|Zj Z (fun h52=>?_) (fun h52=>?_)
     ·
      refine gSR<|Zq (zm9 [(0,1),(1,1)] Tryz.underlying25 z4h (ZrE.nilS (ZrE.nilS ZrE.nil)) Z (zgf.done Z))<|Es (zm7 3 Z Z (z08.cast (z08.cons z05 (z08.cons z05 z08.nil)) Z) Z (z20.cons z0q (z20.cons z0q z20.nil)) (z08.cast (z08.cons z05 (z08.cons z05 z08.nil)) Z) z4h)<|Zb Z<|z0k<|z0w<|zga aZ [.rd (z02 aZ) [],.val (.slice none 0 0)] 3 [] [.val (.slice none 0 0)] Z Z Z<|zga z03 [.rd (z02 aZ) [],.rd (z02 z03) []] 3 [.rd (z02 aZ) []] [] Z Z Z<|zny (R:=z01) (⟨[],[]⟩:z00) 3 Z (Sp.via (Sp.prod (Sp.prod Sp.unit)))<|zbq [] [1001] Z (eC 3 Z Z z3v<|eE Z<|eN) (y1 Z)
     ·
      refine Zt<|gSR<|zd3 (R:=z01) (⟨s42.1,s42.2⟩:z00) 1150 Z (Sp.via (Sp.prod (Sp.prod Sp.unit)))<|Zq (ld 1150 Z Z fH z3v Z)<|za6 aZ [.rd (z02 aZ) [],.val (.slice none 0 0)] 3 [] [.val (.slice none 0 0)] Z Z Z<|za6 z03 [.rd (z02 aZ) [],.rd (z02 z03) []] 3 [.rd (z02 aZ) []] [] Z Z Z<|zd3 (R:=z01) (⟨[],[]⟩:z00) 3 Z (Sp.via (Sp.prod (Sp.prod Sp.unit)))<|Es (sto 3 Z Z fH Z z4h)<|Zb Z<|z0k<|zbq [] [1001] Z (eC 3 Z Z z3v<|eE Z<|eN) (y1 Z)
def zlg (a0:V3) (c1_0:z00):Option (Bool) :=
 zdy c1_0 a0 >>= fun r2 =>
 some (!r2.2)
theorem ztl (a0:V3) (p1_0:Value) (c1_0:z00):z1u Tryz.prog 134 [.rd aZ a0,.val (z06 p1_0 0)] [(1,some (p1_0,.box 25 [.rd z01 c1_0]))] (zlg a0 c1_0) (fun r nv=>⟨[.rd z0j r],[(1,some (p1_0,.box 25 [.rd z01 c1_0]))]⟩):=by
 refine z2d 14 Tryz.func134 Z Z Z fun H w=>?_
 refine gSR<|Eb Z (bx 2 Z) fun v1=>Zb Z<|gSR<|Zq (ld 1 Z Z fH z3v Z)<|Zq (ld 2 Z Z fH z43 Z)<|Zc [] [] Tryz.func65 Z (zfk _ _) fun r2 n3=>Zm Z<|Zq (ext Z Z)<|Zq (ext Z Z)<|Za Z<|Zb Z<|gSR<|Zm Z<|Zq (zfl Z)<|Zb Z<|z0k<|Ze [] [1] Z
def z1j (a0:List V3) (c1_0:z00) (s2:Int):Option (Sum (Sum Int Unit) Int) :=
 if decide (s2<(a0.length:Int)) then
  idx a0 s2 >>= fun x4 =>
  zlg x4 c1_0 >>= fun r6 =>
  if r6 then
   some (.inl (.inl s2))
  else
   some (.inr (w64 (s2+1)))
 else
  some (.inl (.inr ()))
def z3k (a0:List V3) (c1_0:z00):Option (Int) :=
 z5g (iter (z1j a0 c1_0) 0) fun s1 =>
 some (-1)
theorem z9i (a0:List V3) (p1_0:Value) (c1_0:z00):z1u Tryz.prog 114 [.rd (z02 aZ) a0,.val (.func (.func 134) #[] #[z06 p1_0 0])] [(1,some (p1_0,.box 25 [.rd z01 c1_0]))] (z3k a0 c1_0) (fun r nv=>⟨[.rd z0e r],[(1,some (p1_0,.box 25 [.rd z01 c1_0]))]⟩):=by
 refine z2d 19 Tryz.func114 Z Z Z fun H w=>?_
 refine gSR<|Zb Z<|z8c (fun (s1:Unit) aa ww=>Sta (ctx 19 H [(1,some (p1_0,.box 25 [.rd z01 c1_0]))] w) [] [(1,some (p1_0,.box 25 [.rd z01 c1_0]))] aa ww) ?_ (fun s1=>?_)
 ·
  refine gSR<|Zm Z<|Zq (z3g Z .rd Z tu22)<|Zm Z<|Zn<|z26 (fun (s2:Int) aa ww=>Sta (ctx 19 H [(1,some (p1_0,.box 25 [.rd z01 c1_0]))] w) [(0,.rd (z02 aZ) a0),(1,.val (.func (.func 134) #[] #[z06 p1_0 0])),(7,.rd z0e (a0.length:Int)),(8,.rd z0e s2)] [(1,some (p1_0,.box 25 [.rd z01 c1_0]))] aa ww) (fun aa ww h=>Zu h [1]) (fun s2=>?_)
  refine gSR<|Zq (I.lss Z Z)<|Zn<|z0s<|gIf Z Z (fun h3=>?_) (fun h3=>?_)
  ·
   refine Zt<|z0s<|z4y<|gSR<|Zm Z<|Zb Z<|gSR<|Zm Z<|Zm Z<|Zm Z<|z0n fun x4 h5=>Zq (ixR Z Z h5 tu22 z2b Z)<|Zq (ldR Z z43)<|zhd [1] [(1,1)] (gd0 Z) Z Z Tryz.func134 Z Z (ztl _ _ _) (Y1 Z) (cQ 1 Z<|cN) (y1 Z) fun r6 n7=>Zj Z (fun h8=>?_) (fun h8=>?_)
   ·
    refine gSR<|Zm Z<|Zb Z<|z0k<|z42<|z0w<|z7g<|z7a<|Ze [] [1] Z
   ·
    refine z2m<|z35<|z0o<|z2e<|Zq (I.add Z Z)<|Zm Z<|z1q<|z1k (fun aa ww h=>Zu h [1])
  ·
   refine z1s<|z0x<|z0y<|z79 (fun aa ww h=>Zu h [1])
 ·
  refine gSR<|Zb Z<|z0k<|Ze [] [1] Z
def z2a (a0:List V3) (c1_0:z00):Option (Bool) :=
 z3k a0 c1_0 >>= fun r1 =>
 some (decide (0≤r1)) >>= fun y3 =>
 some y3
theorem z8l (a0:List V3) (p1_0:Value) (c1_0:z00):z1u Tryz.prog 125 [.rd (z02 aZ) a0,.val (.func (.func 134) #[] #[z06 p1_0 0])] [(1,some (p1_0,.box 25 [.rd z01 c1_0]))] (z2a a0 c1_0) (fun r nv=>⟨[.rd z0j r],[(1,some (p1_0,.box 25 [.rd z01 c1_0]))]⟩):=by
 refine z2d 9 Tryz.func125 Z Z Z fun H w=>?_
 refine gSR<|Zb Z<|gSR<|Zm Z<|Zm Z<|Zc [1] [(1,1)] Tryz.func114 Z (z9i _ _ _) fun r1 n2=>Zq (I.geq Z Z)<|Za Z<|z1t 4 Z fun y3=>Zn<|z0k<|Ze [] [1] Z
def zpd (a0:z00) (a1:z07):Option (z00 × V3 × Int) :=
 z11 a0 >>= fun r5 =>
 (if r5==0 then
  zih a1 >>= fun r9 =>
  some r9
 else
  some r5) >>= fun s7 =>
 if s7 != 0 then
  some ((⟨[],[]⟩:z00),(Vector.replicate 32 0),s7)
 else
  zzp a1 >>= fun r12 =>
  zi2 a0 r12.1 a1 >>= fun r15 =>
  if !r15.2 then
   some ((⟨[],[]⟩:z00),(Vector.replicate 32 0),14)
  else
   z2a a1.Preds a0 >>= fun r19 =>
   if r19 then
    some ((⟨[],[]⟩:z00),(Vector.replicate 32 0),40)
   else
    some ((a0.Ops.length:Int)==60) >>= fun y22 =>
    if y22 then
     some ((⟨[],[]⟩:z00),(Vector.replicate 32 0),18)
    else
     some (r15.1,r12.1,0)
theorem zxp (a0:z00) (a1:z07):z1u Tryz.prog 93 [.rd z01 a0,.rd z03 a1] [zG1] (zpd a0 a1) (fun r nv=>⟨[.rd z01 r.1,.rd aZ r.2.1,.rd z0e r.2.2],[(1001,some (.bool true,.glob 1 (z3j 64 z0p) z65))]⟩):=by
 refine z2d 56 Tryz.func93 Z Z Z fun H w=>?_
 refine gSR<|Eb Z (bx 1 Z) fun v1=>Eb Z (bx 2 Z) fun v2=>Eb Z (z56 3 z4h (ZrE.nilS (ZrE.nilS ZrE.nil))) fun v3=>Eb Z (z56 4 z2b (.zr (R:=aZ) (x:=(Vector.replicate 32 0)) zgg)) fun v4=>Zb Z<|gSR<|Zq (ld 1 Z Z fH z3v Z)<|Zc [1001] [] Tryz.func74 Z (zar _) fun r5 n6=>Zb Z<|z8n (fun (s7:Int) aa ww=>Sta (ctx 56 H [zG1] w) [(2,.val (z06 v1 0)),(3,.val (z06 v2 0)),(4,.val (z06 v3 0)),(5,.val (z06 v4 0)),(7,.rd z0e s7)] [(1,some (v1,.box 25 [.rd z01 a0])),(2,some (v2,.box 73 [.rd z03 a1])),(3,some (v3,.box 25 [.val (.slice none 0 0),.val (.slice none 0 0)])),(4,some (v4,.box 62 [.rd aZ (Vector.replicate 32 0)])),zG1] aa ww) ?_ (fun s7=>?_)
 ·
  refine gSR<|Zm Z<|Zq (I.eql Z Z)<|Zj Z (fun h8=>?_) (fun h8=>?_)
  ·
   refine z2e<|Zq (ld 2 Z Z fH z9n Z)<|Zc [1001] [] Tryz.func112 Z (zn5 _) fun r9 n10=>Za Z<|z1q<|z3n (fun aa ww h=>Zu h [1,2,3,4,1001])
  ·
   refine z2m<|z3n (fun aa ww h=>Zu h [1,2,3,4,1001])
 ·
  refine z0s<|gSR<|Zm Z<|Zq (I.neq Z Z)<|Zj Z (fun h11=>?_) (fun h11=>?_)
  ·
   refine gSR<|Zq (zm9 [(0,1),(1,1)] Tryz.underlying25 z4h (ZrE.nilS (ZrE.nilS ZrE.nil)) Z (zgf.done Z))<|Zq (bldG (x':=((Vector.replicate 32 0):V3)) tu62 z2b zgg ti5 (Bld.done Z))<|Zm Z<|Es (zm7 3 Z Z (z08.cast (z08.cons z05 (z08.cons z05 z08.nil)) Z) Z (z20.cons z0q (z20.cons z0q z20.nil)) (z08.cast (z08.cons z05 (z08.cons z05 z08.nil)) Z) z4h)<|Es (sto 4 Z Z fH Z z2b)<|Zb Z<|z0k<|z0w<|zga aZ [.rd (z02 aZ) [],.val (.slice none 0 0)] 3 [] [.val (.slice none 0 0)] Z Z Z<|zga z03 [.rd (z02 aZ) [],.rd (z02 z03) []] 3 [.rd (z02 aZ) []] [] Z Z Z<|zny (R:=z01) (⟨[],[]⟩:z00) 3 Z (Sp.via (Sp.prod (Sp.prod Sp.unit)))<|zbq [] [1001] Z (eC 3 Z Z z3v<|eC 4 Z Z z43<|eE Z<|eN) (y1 Z)
  ·
   refine Zt<|gSR<|Zq (ld 2 Z Z fH z9n Z)<|Zc [1001] [] Tryz.func111 Z (zx5 _) fun r12 n13=>Zm Z<|Zq (ext Z Z)<|Zq (ext Z Z)<|Eb Z (z56 1100 z2b (.zr (R:=aZ) (x:=(Vector.replicate 32 0)) zgg)) fun v14=>Es (sto 1100 Z Z fH Z z2b)<|Zb Z<|gSR<|Zq (ld 1 Z Z fH z3v Z)<|Zq (ld 1100 Z Z fH z43 Z)<|Zq (ld 2 Z Z fH z9n Z)<|Zc [] [] Tryz.func68 Z (zqk _ _ _) fun r15 n16=>Zm Z<|Zq (ext Z Z)<|Zq (ext Z Z)<|Eb Z (z56 1101 z4h (ZrE.nilS (ZrE.nilS ZrE.nil))) fun v17=>za6 aZ [.rd (z02 aZ) [],.val (.slice none 0 0)] 1101 [] [.val (.slice none 0 0)] Z Z Z<|za6 z03 [.rd (z02 aZ) [],.rd (z02 z03) []] 1101 [.rd (z02 aZ) []] [] Z Z Z<|zd3 (R:=z01) (⟨[],[]⟩:z00) 1101 Z (Sp.via (Sp.prod (Sp.prod Sp.unit)))<|Es (sto 1101 Z Z fH Z z4h)<|Zb Z<|z0s<|z4y<|gSR<|Zm Z<|Zq (zfl Z)<|Zb Z<|gIf Z Z (fun h18=>?_) (fun h18=>?_)
   ·
    refine gKn 37 Z h18<|gSR<|Zq (zm9 [(0,1),(1,1)] Tryz.underlying25 z4h (ZrE.nilS (ZrE.nilS ZrE.nil)) Z (zgf.done Z))<|Zq (bldG (x':=((Vector.replicate 32 0):V3)) tu62 z2b zgg ti5 (Bld.done Z))<|Es (zm7 3 Z Z (z08.cast (z08.cons z05 (z08.cons z05 z08.nil)) Z) Z (z20.cons z0q (z20.cons z0q z20.nil)) (z08.cast (z08.cons z05 (z08.cons z05 z08.nil)) Z) z4h)<|Es (sto 4 Z Z fH Z z2b)<|Zb Z<|z0k<|z42<|z0w<|zga aZ [.rd (z02 aZ) [],.val (.slice none 0 0)] 3 [] [.val (.slice none 0 0)] Z Z Z<|zga z03 [.rd (z02 aZ) [],.rd (z02 z03) []] 3 [.rd (z02 aZ) []] [] Z Z Z<|zny (R:=z01) (⟨[],[]⟩:z00) 3 Z (Sp.via (Sp.prod (Sp.prod Sp.unit)))<|zbq [] [1001] Z (eC 3 Z Z z3v<|eC 4 Z Z z43<|eE Z<|eN) (y1 Z)
   ·
    refine gKn 37 Z h18<|gSR<|Zq (faB 2 Z Z Tryz.underlying73 Z (by exact z6e))<|Zq (ld 2 Z Z (fP (z0z _)) z8j Z)<|Zq (mkf mp0 (mp1 Z))<|Zc [1] [(1,1)] Tryz.func125 Z (z8l _ _ _) fun r19 n20=>Zb Z<|gIf Z Z (fun h21=>?_) (fun h21=>?_)
    ·
     refine gKn 44 Z h21<|gSR<|Zq (zm9 [(0,1),(1,1)] Tryz.underlying25 z4h (ZrE.nilS (ZrE.nilS ZrE.nil)) Z (zgf.done Z))<|Zq (bldG (x':=((Vector.replicate 32 0):V3)) tu62 z2b zgg ti5 (Bld.done Z))<|Es (zm7 3 Z Z (z08.cast (z08.cons z05 (z08.cons z05 z08.nil)) Z) Z (z20.cons z0q (z20.cons z0q z20.nil)) (z08.cast (z08.cons z05 (z08.cons z05 z08.nil)) Z) z4h)<|Es (sto 4 Z Z fH Z z2b)<|Zb Z<|z0k<|z42<|z0w<|zga aZ [.rd (z02 aZ) [],.val (.slice none 0 0)] 3 [] [.val (.slice none 0 0)] Z Z Z<|zga z03 [.rd (z02 aZ) [],.rd (z02 z03) []] 3 [.rd (z02 aZ) []] [] Z Z Z<|zny (R:=z01) (⟨[],[]⟩:z00) 3 Z (Sp.via (Sp.prod (Sp.prod Sp.unit)))<|zbq [] [1001] Z (eC 3 Z Z z3v<|eC 4 Z Z z43<|eE Z<|eN) (y1 Z)
    ·
     refine gKn 44 Z h21<|gSR<|Zq (faB 1 Z Z Tryz.underlying25 Z (by exact zai))<|Zq (ld 1 Z Z (fP (z09 _)) zec Z)<|Zq (z3g Z .rd Z tu23)<|Zq (I.eql Z Z)<|Za Z<|z1t 47 Z fun y22=>Zj Z (fun h23=>?_) (fun h23=>?_)
     ·
      refine gSR<|Zq (zm9 [(0,1),(1,1)] Tryz.underlying25 z4h (ZrE.nilS (ZrE.nilS ZrE.nil)) Z (zgf.done Z))<|Zq (bldG (x':=((Vector.replicate 32 0):V3)) tu62 z2b zgg ti5 (Bld.done Z))<|Es (zm7 3 Z Z (z08.cast (z08.cons z05 (z08.cons z05 z08.nil)) Z) Z (z20.cons z0q (z20.cons z0q z20.nil)) (z08.cast (z08.cons z05 (z08.cons z05 z08.nil)) Z) z4h)<|Es (sto 4 Z Z fH Z z2b)<|Zb Z<|z0k<|z42<|z0w<|zga aZ [.rd (z02 aZ) [],.val (.slice none 0 0)] 3 [] [.val (.slice none 0 0)] Z Z Z<|zga z03 [.rd (z02 aZ) [],.rd (z02 z03) []] 3 [.rd (z02 aZ) []] [] Z Z Z<|zny (R:=z01) (⟨[],[]⟩:z00) 3 Z (Sp.via (Sp.prod (Sp.prod Sp.unit)))<|zbq [] [1001] Z (eC 3 Z Z z3v<|eC 4 Z Z z43<|eE Z<|eN) (y1 Z)
     ·
      refine z2m<|z35<|z0o<|z0s<|z99 [3,4] mixed Z Z<|hTk 0 Z Z (ld 1101 Z Z fH z3v Z)<|hTk 1 Z Z (ld 1100 Z Z fH z43 Z)<|hPnl aZ [.rd (z02 aZ) [],.val (.slice none 0 0)] 3 [] [.val (.slice none 0 0)] Z Z Z<|hPnl z03 [.rd (z02 aZ) [],.rd (z02 z03) []] 3 [.rd (z02 aZ) []] [] Z Z Z<|hJoi (R:=z01) (⟨[],[]⟩:z00) 3 Z (Sp.via (Sp.prod (Sp.prod Sp.unit)))<|Zp 2 Z Z Z Z Z (sto 3 Z Z fH Z z4h)<|Zp 3 Z Z Z Z Z (sto 4 Z Z fH Z z2b)<|hTk 4 Z Z (asg Z)<|z5a (by kernel_rfl)<|z0o<|z0k<|zbq [] [1001] Z (eC 3 Z Z z3v<|eC 4 Z Z z43<|eE Z<|eN) (y1 Z)
def z69 (a0:z00) (a1:z00) (r10:(List V3)) (s16:z00 × Int):Option (Sum z00 (z00 × Int)) :=
 if decide (s16.2<(r10.length:Int)) then
  idx r10 s16.2 >>= fun x18 =>
  z1o a1.IDs x18 >>= fun r21 =>
  if r21 then
   some (.inr (s16.1,w64 (s16.2+1)))
  else
   zk8 a0 x18 >>= fun r24 =>
   zpd s16.1 r24.1 >>= fun r27 =>
   some (.inr (r27.1,w64 (s16.2+1)))
 else
  some (.inl s16.1)
def zb1 (a0:z00) (a1:z00):Option (z00 × Int) :=
 zbt a0 >>= fun r4 =>
 zbt a1 >>= fun r6 =>
 zdh a1 r4.1 >>= fun r8 =>
 zdd a0 r8 r6.1 >>= fun r10 =>
 z7u a1 (⟨[],[]⟩:z00) >>= fun r12 =>
 (iter (z69 a0 a1 r10) (r12.1,0)) >>= fun s15 =>
 zg7 a0 r10 >>= fun r29 =>
 some (r29.length:Int) >>= fun y31 =>
 some (s15,y31)
theorem zm4 (a0:z00) (a1:z00):z1u Tryz.prog 56 [.rd z01 a0,.rd z01 a1] [zG1] (zb1 a0 a1) (fun r nv=>⟨[.rd z01 r.1,.rd z0e r.2],[(1001,some (.bool true,.glob 1 (z3j 64 z0p) z65))]⟩):=by
 refine z2d 68 Tryz.func56 Z Z Z fun H w=>?_
 refine gSR<|Eb Z (bx 1 Z) fun v1=>Eb Z (bx 2 Z) fun v2=>Eb Z (z56 3 z4h (ZrE.nilS (ZrE.nilS ZrE.nil))) fun v3=>Zb Z<|gSR<|Zq (ld 1 Z Z fH z3v Z)<|Zc [1001] [(100,4)] Tryz.func92 Z (zgs _) fun r4 n5=>Zm Z<|Zq (ext Z Z)<|Zq (ext Z Z)<|Za Z<|Zb Z<|gSR<|Zq (ld 2 Z Z fH z3v Z)<|Zc [1001] [(100,5)] Tryz.func92 Z (zgs _) fun r6 n7=>Zm Z<|Zq (ext Z Z)<|Zq (ext Z Z)<|Za Z<|Zb Z<|z0s<|z99 [15,21,1001] mixed Z Z<|hTk 0 Z Z (ld 1 Z Z fH z3v Z)<|hTk 1 Z Z (ld 2 Z Z fH z3v Z)<|hTk 2 Z Z (mv Z)<|hTk 4 Z Z (mv Z)<|zz1 4 [20,6,29] Z (fS Z<|fS Z<|fS Z<|fN)<|z4e 3 [] [(100,15)] Z (by kernel_rfl) Z (gd0 Z) Z Tryz.func44 Z Z (zjt _ _) (Y2 Z Z) rN Z (fun _ _=>z3t) fun r8 n9=>zz1 15 [30] Z (fS Z<|fN)<|zz1 5 [25,8,31] Z (fS Z<|fS Z<|fS Z<|fN)<|z4e 5 [1001] [(100,21)] Z (by kernel_rfl) Z (gd0 Z) Z Tryz.func49 Z Z (zl1 _ _ _) (aQ Z<|aQ Z<|aQ Z<|aN) (y1 Z) Z (fun _ _=>z3t) fun r10 n11=>Zf 6 Z Z z3t (asg Z)<|z5a (by kernel_rfl)<|z0o<|gSR<|Zq (ld 2 Z Z fH z3v Z)<|Zq (bld (x':=(⟨[],[]⟩:z00)) [(0,1),(1,1)] Tryz.underlying25 z4h Z zr25 Z (Bld.done Z))<|Zc [1001] [] Tryz.func37 Z (zia _ _) fun r12 n13=>Zm Z<|Zq (ext Z Z)<|Zq (ext Z Z)<|Eb Z (z56 30 z4h (ZrE.nilS (ZrE.nilS ZrE.nil))) fun v14=>za6 aZ [.rd (z02 aZ) [],.val (.slice none 0 0)] 30 [] [.val (.slice none 0 0)] Z Z Z<|za6 z03 [.rd (z02 aZ) [],.rd (z02 z03) []] 30 [.rd (z02 aZ) []] [] Z Z Z<|zd3 (R:=z01) (⟨[],[]⟩:z00) 30 Z (Sp.via (Sp.prod (Sp.prod Sp.unit)))<|Es (sto 30 Z Z fH Z z4h)<|Zb Z<|z8n (fun (s15:z00) aa ww=>Sta (ctx 68 H [zG1] w) [(2,.val (z06 v1 0)),(4,.val (z06 v3 0)),(10,.val (n11 0)),(11,.val (z06 v14 0))] [(1,some (v1,.box 25 [.rd z01 a0])),(3,some (v3,.box 25 [.val (.slice none 0 0),.val (.slice none 0 0)])),(21,some ((n11 0),.list aZ 62 r10)),(30,some (v14,.box 25 [.rd z01 s15])),zG1] aa ww) ?_ (fun s15=>?_)
 ·
  refine gSR<|Zm Z<|Zq (z3g Z (.own 21 Z) Z tu22)<|Zm Z<|Zn<|z26 (fun (s16:z00 × Int) aa ww=>Sta (ctx 68 H [zG1] w) [(2,.val (z06 v1 0)),(3,.val (z06 v2 0)),(4,.val (z06 v3 0)),(10,.val (n11 0)),(11,.val (z06 v14 0)),(39,.val (n11 0)),(40,.rd z0e (r10.length:Int)),(41,.rd z0e s16.2)] [(1,some (v1,.box 25 [.rd z01 a0])),(2,some (v2,.box 25 [.rd z01 a1])),(3,some (v3,.box 25 [.val (.slice none 0 0),.val (.slice none 0 0)])),(21,some ((n11 0),.list aZ 62 r10)),(30,some (v14,.box 25 [.rd z01 s16.1])),zG1] aa ww) (fun aa ww h=>Zu h [1,2,3,21,30,1001]) (fun s16=>?_)
  refine gSR<|Zq (I.lss Z Z)<|Zn<|z0s<|gIf Z Z (fun h17=>?_) (fun h17=>?_)
  ·
   refine Zt<|z0s<|z4y<|gSR<|z0n fun x18 h19=>Zq (ixO 21 Z Z Z h19 tu22 z2b)<|Zq (ld 21 Z Z (Foc.el h19) z43 Z)<|Eb Z (z56 1100 z2b (.zr (R:=aZ) (x:=(Vector.replicate 32 0)) zgg)) fun v20=>Es (sto 1100 Z Z fH Z z2b)<|Zn<|z0s<|gSR<|Zq (faB 2 Z Z Tryz.underlying25 Z (by exact z6e))<|Zq (ld 2 Z Z (fP (z0a _)) z8j Z)<|Zq (ld 1100 Z Z fH z43 Z)<|Zc [] [] Tryz.func77 Z (z2q _ _) fun r21 n22=>Zj Z (fun h23=>?_) (fun h23=>?_)
   ·
    refine z1s<|z0x<|z15v<|z0o<|z2e<|Zq (I.add Z Z)<|Zm Z<|z1q<|z1k (fun aa ww h=>Zu h [1,2,3,21,30,1001])
   ·
    refine Zt<|gSR<|Zq (ld 1 Z Z fH z3v Z)<|Zq (ld 1100 Z Z fH z43 Z)<|Zc [1001] [] Tryz.func88 Z (zqh _ _) fun r24 n25=>Zm Z<|Zq (ext Z Z)<|Zq (ext Z Z)<|Eb Z (z56 1101 z5n (ZrE.rd (R:=z0p) (x:=0) (Zr.num Z) (ZrE.nilS (ZrE.rd (R:=z2c) (x:=0) (Zr.num Z) (ZrE.rd (R:=z0f) (x:=(⟨0,[],(⟨0,0,0,[]⟩:z04)⟩:z0h)) zn8 (ZrE.rd (R:=z0g) (x:=(⟨0,0⟩:z0c)) zm6 ZrE.nil Z) Z) Z)) Z)) fun v26=>za6 aZ [.rd z0p 0,.rd (z02 aZ) [],.rd z2c 0,.rd z0f (⟨0,[],(⟨0,0,0,[]⟩:z04)⟩:z0h),.rd z0g (⟨0,0⟩:z0c)] 1101 [.rd z0p 0] [.rd z2c 0,.rd z0f (⟨0,[],(⟨0,0,0,[]⟩:z04)⟩:z0h),.rd z0g (⟨0,0⟩:z0c)] Z Z Z<|zd3 (R:=z03) (⟨0,[],0,(⟨0,[],(⟨0,0,0,[]⟩:z04)⟩:z0h),(⟨0,0⟩:z0c)⟩:z07) 1101 Z (Sp.via (Sp.prod (Sp.prod (Sp.prod (Sp.prod (Sp.prod Sp.unit))))))<|Es (sto 1101 Z Z fH Z z5n)<|Zb Z<|z2e<|Zq (ld 30 Z Z fH z3v Z)<|Zq (ld 1101 Z Z fH z9n Z)<|Zc [1001] [] Tryz.func93 Z (zxp _ _) fun r27 n28=>Zm Z<|Zq (ext Z Z)<|Zq (ext Z Z)<|Zq (ext Z Z)<|Es (sto 30 Z Z fH Z z4h)<|z1q<|z35<|z0o<|z2e<|Zq (I.add Z Z)<|Zm Z<|z1q<|z1k (fun aa ww h=>Zu h [1,2,3,21,30,1001])
  ·
   refine z1s<|z0x<|z0y<|z3n (fun aa ww h=>Zu h [1,3,21,30,1001])
 ·
  refine z0s<|z99 [3,1001,1111] mixed Z Z<|hTk 0 Z Z (ld 30 Z Z fH z3v Z)<|hTk 1 Z Z (ld 1 Z Z fH z3v Z)<|hTk 2 Z Z (mv Z)<|zz1 21 [10,65] Z (fS Z<|fS Z<|fN)<|z4e 3 [1001] [(100,1111)] Z (by kernel_rfl) Z (gd0 Z) Z Tryz.func51 Z Z (zpi _ _) (Y2 Z Z) (y1 Z) Z (fun _ _=>z3t) fun r29 n30=>Zf 4 Z Z z34 (z3g Z (.own 1111 Z) Z tu35)<|hPnl aZ [.rd (z02 aZ) [],.val (.slice none 0 0)] 3 [] [.val (.slice none 0 0)] Z Z Z<|hPnl z03 [.rd (z02 aZ) [],.rd (z02 z03) []] 3 [.rd (z02 aZ) []] [] Z Z Z<|hJoi (R:=z01) (⟨[],[]⟩:z00) 3 Z (Sp.via (Sp.prod (Sp.prod Sp.unit)))<|Zp 5 Z Z Z Z Z (sto 3 Z Z fH Z z4h)<|hTk 6 Z Z (asg Z)<|z10t 5 Z Z fun y31=>z5a (by kernel_rfl)<|z0o<|z0k<|zbq [] [1001] Z (eC 3 Z Z z3v<|eE Z<|eN) (y1 Z)
def zbi (a0:z00) (a1:V3) (s7:Int):Option (Sum Int Int) :=
 if decide (s7<(a0.IDs.length:Int)) then
  idx a0.IDs s7 >>= fun x9 =>
  z8b x9 a1 >>= fun r11 =>
  if decide (r11<0) then
   some (.inr (w64 (s7+1)))
  else
   some (.inl s7)
 else
  some (.inl s7)
def z6g (a0:z00) (a1:V3) (a2:z07):Option (z00) :=
 (iter (zbi a0 a1) 0) >>= fun s6 =>
 cut a0.IDs 0 s6 >>= fun x14 =>
 app 32 ([]:List V3) x14 >>= fun x16 =>
 app 32 x16 [a1] >>= fun x18 =>
 cut a0.IDs s6 (a0.IDs.length:Int) >>= fun x20 =>
 app 32 x18 x20 >>= fun x22 =>
 cut a0.Ops 0 s6 >>= fun x25 =>
 app 112 ([]:List z07) x25 >>= fun x27 =>
 app 112 x27 [a2] >>= fun x29 =>
 cut a0.Ops s6 (a0.Ops.length:Int) >>= fun x31 =>
 app 112 x29 x31 >>= fun x33 =>
 zaq (⟨x22,x33⟩:z00) >>= fun r36 =>
 some r36
end
section
open Go Go.RowKit
set_option maxRecDepth 100000
set_option maxHeartbeats 4000000 in
theorem zgw (a0:z00) (a1:V3) (a2:z07):z1u Tryz.prog 73 [.rd z01 a0,.rd aZ a1,.rd z03 a2] [] (z6g a0 a1 a2) (fun r nv=>⟨[.rd z01 r],[]⟩):=by
 refine z2d 59 Tryz.func73 Z Z Z fun H w=>?_
 refine gSR<|Eb Z (bx 1 Z) fun v1=>Eb Z (bx 2 Z) fun v2=>Eb Z (bx 3 Z) fun v3=>Eb Z (z56 4 z4h (ZrE.nilS (ZrE.nilS ZrE.nil))) fun v4=>Zn<|gSR<|Zq (zm9 [(0,1),(1,1)] Tryz.underlying25 z4h (ZrE.nilS (ZrE.nilS ZrE.nil)) Z (zgf.done Z))<|Eb Z (z56 5 z4h (ZrE.nilS (ZrE.nilS ZrE.nil))) fun v5=>Es (zm7 5 Z Z (z08.cast (z08.cons z05 (z08.cons z05 z08.nil)) Z) Z (z20.cons z0q (z20.cons z0q z20.nil)) (z08.cast (z08.cons z05 (z08.cons z05 z08.nil)) Z) z4h)<|Zn<|gSR<|Zb Z<|z8n (fun (s6:Int) aa ww=>Sta (ctx 59 H [] w) [(3,.val (z06 v1 0)),(4,.val (z06 v2 0)),(5,.val (z06 v3 0)),(6,.val (z06 v4 0)),(7,.val (z06 v5 0)),(8,.rd z0e s6)] [(1,some (v1,.box 25 [.rd z01 a0])),(2,some (v2,.box 62 [.rd aZ a1])),(3,some (v3,.box 73 [.rd z03 a2])),(4,some (v4,.box 25 [.val (.slice none 0 0),.val (.slice none 0 0)])),(5,some (v5,.box 25 [.val (.slice none 0 0),.val (.slice none 0 0)]))] aa ww) ?_ (fun s6=>?_)
 ·
  refine z26 (fun (s7:Int) aa ww=>Sta (ctx 59 H [] w) [(3,.val (z06 v1 0)),(4,.val (z06 v2 0)),(5,.val (z06 v3 0)),(6,.val (z06 v4 0)),(7,.val (z06 v5 0)),(8,.rd z0e s7)] [(1,some (v1,.box 25 [.rd z01 a0])),(2,some (v2,.box 62 [.rd aZ a1])),(3,some (v3,.box 73 [.rd z03 a2])),(4,some (v4,.box 25 [.val (.slice none 0 0),.val (.slice none 0 0)])),(5,some (v5,.box 25 [.val (.slice none 0 0),.val (.slice none 0 0)]))] aa ww) (fun aa ww h=>Zu h [1,2,3,4,5]) (fun s7=>?_)
  refine z0s<|z0s<|z99 [] mixed Z Z<|hTk 0 Z Z (mv Z)<|hTk 1 Z Z (faB 1 Z Z Tryz.underlying25 Z (by exact z6e))<|hTk 2 Z Z (ld 1 Z Z (fP (z0a _)) z8j Z)<|hTk 3 Z Z (z3g Z .rd Z tu22)<|hTk 4 Z Z (I.lss Z Z)<|hTk 5 Z Z (mv Z)<|hIf 15 Z Z (fun h8=>?_) (fun h8=>?_)
  ·
   refine hKn 14 Z Z h8<|Zg 6 Z Z (faB 1 Z Z Tryz.underlying25 Z (by exact z6e))<|Zg 7 Z Z (ld 1 Z Z (fP (z0a _)) z8j Z)<|Zg 8 Z Z (mv Z)<|z64 fun x9 h10=>Zg 9 Z Z (ixR Z Z h10 tu22 z2b Z)<|Zg 10 Z Z (ldR Z z43)<|Zg 11 Z Z (ld 2 Z Z fH z43 Z)<|z4e 12 [] [] Z (by kernel_rfl) Z Zx Z Tryz.func110 Z Z (zgy _ _) (Y2 Z Z) rN Z (fun _ _=>z34) fun r11 n12=>Zg 13 Z Z (I.lss Z Z)<|hTk 14 Z Z (pkT Z Z)<|z5a (by kernel_rfl)<|z0o<|gIf Z Z (fun h13=>?_) (fun h13=>?_)
   ·
    refine gKn 23 Z h13<|Zt<|z4y<|z2e<|Zm Z<|Zq (I.add Z Z)<|Za Z<|z1q<|z35<|z1k (fun aa ww h=>Zu h [1,2,3,4,5])
   ·
    refine gKn 23 Z h13<|z1s<|z0x<|z0y<|z3n (fun aa ww h=>Zu h [1,2,3,4,5])
  ·
   refine hKn 14 Z Z h8<|hSk 6 Z Z<|hSk 7 Z Z<|hSk 8 Z Z<|hSk 9 Z Z<|hSk 10 Z Z<|hSk 11 Z Z<|hSk 12 Z Z<|hSk 13 Z Z<|hTk 14 Z Z (pkF Z Z)<|z5a (by kernel_rfl)<|z0o<|zgp Z<|z1s<|z0x<|z0y<|z3n (fun aa ww h=>Zu h [1,2,3,4,5])
 ·
  refine z0s<|zsc [(3,.val (z06 v1 0)),(4,.val (z06 v2 0)),(5,.val (z06 v3 0)),(6,.val (z06 v4 0)),(7,.val (z06 v5 0)),(8,.rd z0e s6)] [(1,some (v1,.box 25 [.rd z01 a0])),(2,some (v2,.box 62 [.rd aZ a1])),(3,some (v3,.box 73 [.rd z03 a2])),(4,some (v4,.box 25 [.val (.slice none 0 0),.val (.slice none 0 0)])),(5,some (v5,.box 25 [.val (.slice none 0 0),.val (.slice none 0 0)]))] [1,2,3,4,5] (Zs Z Z Z Z<|sS Z<|sS Z<|sN) (Zi Z<|Zi Z<|Zi Z<|Zi Z<|Zi Z<|rN)<|z4l fun x14 h15=>z4l fun x16 h17=>z4l fun x18 h19=>z4l fun x20 h21=>z4l fun x22 h23=>gOr [] [⟨54,none,[(0,some ([1], fun nv=>((nv 1),.list aZ 62 ([]:List V3)))),(5,some ([2], fun nv=>((nv 2),.list aZ 62 x16))),(8,some ([4], fun nv=>((nv 4),.list aZ 62 x18))),(13,some ([5], fun nv=>((nv 5),.list aZ 62 x22)))]⟩,⟨1,some ([], fun nv=>(v1,.box 25 [.rd z01 a0])),[]⟩,⟨2,some ([], fun nv=>(v2,.box 62 [.rd aZ a1])),[]⟩,⟨55,none,[(7,none)]⟩,⟨5,some ([], fun nv=>(v5,.box 25 [.val (.slice none 0 0),.val (.slice none 0 0)])),[(15,some ([5], fun nv=>(v5,.box 25 [.val (nv 5),.val (.slice none 0 0)])))]⟩] [⟨some (27,[1], fun nv=>.val (nv 1)),[(0,0,true)],[1],[]⟩,pk 28 (.val (z06 v1 (0+0))) [(1,0,false)],pk 29 (.rd (z02 aZ) a0.IDs) [(1,0,false)],pd 30 (.rd z0e s6),pd 31 (.rd (z02 aZ) x14),⟨some (32,[2], fun nv=>.val (nv 2)),[(0,1,true)],[2],[]⟩,pk 33 (.rd aZ a1) [(2,0,false)],⟨some (34,[], fun nv=>.rd (z02 aZ) [a1]),[(3,0,true)],[3],[]⟩,⟨some (35,[4], fun nv=>.val (nv 4)),[(0,2,true)],[4],[]⟩,pk 36 (.val (z06 v1 (0+0))) [(1,0,false)],pk 37 (.rd (z02 aZ) a0.IDs) [(1,0,false)],pd 38 (.rd z0e s6),pd 39 (.rd (z02 aZ) x20),⟨some (40,[5], fun nv=>.val (nv 5)),[(0,3,true)],[5],[]⟩,pk 41 (.val (z06 v5 (0+0))) [(4,0,false)],⟨none,[(0,4,false),(4,0,true)],[],[]⟩] mixed (oC (oEf 54 1 (fun nv E=>lit (R:=aZ) (([]:List V3):List V3) 54 (pN) Z tu22 z2b Z Z))<|oC (oRn (fun nv E=>faB 1 Z Z Tryz.underlying25 Z (by exact z6e)))<|oC (oRn (fun nv E=>ld 1 Z Z (fP (z0a _)) z8j Z))<|oC (oRn (fun nv E=>mv Z))<|oC (oRn (fun nv E=>cut' Z .no (.to Z) h15 tu22 z2b))<|oC (oEf 54 2 (fun nv E=>apn 54 Z Z Z .rd h17 tu22 z2b Z Z Z))<|oC (oRn (fun nv E=>ld 2 Z Z fH z43 Z))<|oC (oFz (A1:=fun nv=>[(55,some ((nv 3),.list aZ 62 [a1]))]) 55 3 (oEf 55 3 (fun nv E=>lit (R:=aZ) ([a1]:List V3) 55 (pP Z Z<|pN) Z tu22 z2b Z Z)))<|oC (oEf 54 4 (fun nv E=>apn 54 Z Z Z .rd h19 tu22 z2b Z Z Z))<|oC (oRn (fun nv E=>faB 1 Z Z Tryz.underlying25 Z (by exact z6e)))<|oC (oRn (fun nv E=>ld 1 Z Z (fP (z0a _)) z8j Z))<|oC (oRn (fun nv E=>mv Z))<|oC (oRn (fun nv E=>cut' Z (.to Z) .no h21 tu22 z2b))<|oC (oEf 54 5 (fun nv E=>apn 54 Z Z Z .rd h23 tu22 z2b Z Z Z))<|oC (oRn (fun nv E=>faB 5 Z Z Tryz.underlying25 Z (by exact z6e)))<|oC (oEs 5 (fun nv E=>zpj 5 Z Z (zao.cast (zao.here z05) Z) Z z0q z05 z6e))<|oN) fun n24=>z0o<|z0s<|zsc [(3,.val (z06 v1 0)),(5,.val (z06 v3 0)),(6,.val (z06 v4 0)),(7,.val (z06 v5 0)),(8,.rd z0e s6)] [(1,some (v1,.box 25 [.rd z01 a0])),(2,some (v2,.box 62 [.rd aZ a1])),(3,some (v3,.box 73 [.rd z03 a2])),(4,some (v4,.box 25 [.val (.slice none 0 0),.val (.slice none 0 0)])),(5,some (v5,.box 25 [.val (n24 5),.val (.slice none 0 0)])),(54,some ((n24 5),.list aZ 62 x22))] [1,2,3,4,5,54] (Zs Z Z Z Z<|sS Z<|sN) (Zi Z<|Zi Z<|Zi Z<|Zi Z<|Zi Z<|Zi Z<|rN)<|z4l fun x25 h26=>z4l fun x27 h28=>z4l fun x29 h30=>z4l fun x31 h32=>z4l fun x33 h34=>gOr [] [⟨56,none,[(0,some ([1], fun nv=>((nv 1),.list z03 73 ([]:List z07)))),(5,some ([2], fun nv=>((nv 2),.list z03 73 x27))),(8,some ([4], fun nv=>((nv 4),.list z03 73 x29))),(13,some ([5], fun nv=>((nv 5),.list z03 73 x33)))]⟩,⟨1,some ([], fun nv=>(v1,.box 25 [.rd z01 a0])),[]⟩,⟨3,some ([], fun nv=>(v3,.box 73 [.rd z03 a2])),[]⟩,⟨57,none,[(7,none)]⟩,⟨5,some ([], fun nv=>(v5,.box 25 [.val (n24 5),.val (.slice none 0 0)])),[(15,some ([5], fun nv=>(v5,.box 25 [.val (n24 5),.val (nv 5)])))]⟩] [⟨some (42,[1], fun nv=>.val (nv 1)),[(0,0,true)],[1],[]⟩,pk 43 (.val (z06 v1 (0+1))) [(1,0,false)],pk 44 (.rd (z02 z03) a0.Ops) [(1,0,false)],pd 45 (.rd z0e s6),pd 46 (.rd (z02 z03) x25),⟨some (47,[2], fun nv=>.val (nv 2)),[(0,1,true)],[2],[]⟩,pk 48 (.rd z03 a2) [(2,0,false)],⟨some (49,[], fun nv=>.rd (z02 z03) [a2]),[(3,0,true)],[3],[]⟩,⟨some (50,[4], fun nv=>.val (nv 4)),[(0,2,true)],[4],[]⟩,pk 51 (.val (z06 v1 (0+1))) [(1,0,false)],pk 52 (.rd (z02 z03) a0.Ops) [(1,0,false)],pd 53 (.rd z0e s6),pd 54 (.rd (z02 z03) x31),⟨some (55,[5], fun nv=>.val (nv 5)),[(0,3,true)],[5],[]⟩,pk 56 (.val (z06 v5 (0+1))) [(4,0,false)],⟨none,[(4,0,true),(0,4,false)],[],[]⟩] mixed (oC (oEf 56 1 (fun nv E=>lit (R:=z03) (([]:List z07):List z07) 56 (pN) Z tu23 z5n Z Z))<|oC (oRn (fun nv E=>faB 1 Z Z Tryz.underlying25 Z (by exact zai)))<|oC (oRn (fun nv E=>ld 1 Z Z (fP (z09 _)) zec Z))<|oC (oRn (fun nv E=>mv Z))<|oC (oRn (fun nv E=>cut' Z .no (.to Z) h26 tu23 z5n))<|oC (oEf 56 2 (fun nv E=>apn 56 Z Z Z .rd h28 tu23 z5n Z Z Z))<|oC (oRn (fun nv E=>ld 3 Z Z fH z9n Z))<|oC (oFz (A1:=fun nv=>[(57,some ((nv 3),.list z03 73 [a2]))]) 57 3 (oEf 57 3 (fun nv E=>lit (R:=z03) ([a2]:List z07) 57 (pP Z Z<|pN) Z tu23 z5n Z Z)))<|oC (oEf 56 4 (fun nv E=>apn 56 Z Z Z .rd h30 tu23 z5n Z Z Z))<|oC (oRn (fun nv E=>faB 1 Z Z Tryz.underlying25 Z (by exact zai)))<|oC (oRn (fun nv E=>ld 1 Z Z (fP (z09 _)) zec Z))<|oC (oRn (fun nv E=>mv Z))<|oC (oRn (fun nv E=>cut' Z (.to Z) .no h32 tu23 z5n))<|oC (oEf 56 5 (fun nv E=>apn 56 Z Z Z .rd h34 tu23 z5n Z Z Z))<|oC (oRn (fun nv E=>faB 5 Z Z Tryz.underlying25 Z (by exact zai)))<|oC (oEs 5 (fun nv E=>zpj 5 Z Z (zao.cast (zao.next z05 (zao.here z05)) Z) Z z0q z05 zai))<|oN) fun n35=>z0o<|gSR<|zyt [.rd (z02 aZ) x22,.val (n35 5)] 5 54 [] [.val (n35 5)] Z Z Z Z Z<|zyt [.rd (z02 aZ) x22,.rd (z02 z03) x33] 5 56 [.rd (z02 aZ) x22] [] Z Z Z Z Z<|zd3 (R:=z01) (⟨x22,x33⟩:z00) 5 Z (Sp.via (Sp.prod (Sp.prod Sp.unit)))<|Zq (ld 5 Z Z fH z3v Z)<|Zc [] [] Tryz.func11 Z (zfw _) fun r36 n37=>za6 aZ [.rd (z02 aZ) [],.val (.slice none 0 0)] 4 [] [.val (.slice none 0 0)] Z Z Z<|za6 z03 [.rd (z02 aZ) [],.rd (z02 z03) []] 4 [.rd (z02 aZ) []] [] Z Z Z<|zd3 (R:=z01) (⟨[],[]⟩:z00) 4 Z (Sp.via (Sp.prod (Sp.prod Sp.unit)))<|Es (sto 4 Z Z fH Z z4h)<|Zn<|z0k<|zbq [] [] Z (eC 4 Z Z z3v<|eN) (rN)
def z33 (a0:z00) (a1:z00) (s15:Int):Option (Sum (Sum (z00 × Int) Unit) Int) :=
 if decide (s15<(a1.IDs.length:Int)) then
  idx a1.IDs s15 >>= fun x17 =>
  z31 a0.IDs x17 >>= fun r19 =>
  (if decide (0≤r19) then
   idx a0.Ops r19 >>= fun x23 =>
   idx a1.Ops s15 >>= fun x25 =>
   z6o x23 x25 >>= fun r27 =>
   some (!r27)
  else
   some false) >>= fun s21 =>
  if s21 then
   some (.inl (.inl ((⟨[],[]⟩:z00),14)))
  else
   some (w64 (s15+1)) >>= fun y30 =>
   some (.inr y30)
 else
  some (.inl (.inr ()))
def z6n (a1:z00) (s35:z00 × Int):Option (Sum z00 (z00 × Int)) :=
 if decide (s35.2<(a1.IDs.length:Int)) then
  idx a1.IDs s35.2 >>= fun x37 =>
  z31 s35.1.IDs x37 >>= fun r39 =>
  if decide (r39<0) then
   idx a1.IDs s35.2 >>= fun x42 =>
   idx a1.Ops s35.2 >>= fun x44 =>
   z6g s35.1 x42 x44 >>= fun r46 =>
   some (w64 (s35.2+1)) >>= fun y48 =>
   some (.inr (r46,y48))
  else
   some (w64 (s35.2+1)) >>= fun y49 =>
   some (.inr (s35.1,y49))
 else
  some (.inl s35.1)
def z2s (a0:z00) (a1:z00):Option (z00 × Int) :=
 z0b a0 >>= fun r4 =>
 if r4 != 0 then
  z0b a0 >>= fun r7 =>
  some ((⟨[],[]⟩:z00),r7)
 else
  z0b a1 >>= fun r9 =>
  if r9 != 0 then
   z0b a1 >>= fun r12 =>
   some ((⟨[],[]⟩:z00),r12)
  else
   z5g (iter (z33 a0 a1) 0) fun s14 =>
   zaq a0 >>= fun r31 =>
   (iter (z6n a1) (r31,0)) >>= fun s34 =>
   if decide (60<(s34.Ops.length:Int)) then
    some ((⟨[],[]⟩:z00),4)
   else
    some (s34,0)
theorem zkp (a0:z00) (a1:z00):z1u Tryz.prog 60 [.rd z01 a0,.rd z01 a1] [] (z2s a0 a1) (fun r nv=>⟨[.rd z01 r.1,.rd z0e r.2],[]⟩):=by
 refine z2d 90 Tryz.func60 Z Z Z fun H w=>?_
 refine gSR<|Eb Z (bx 1 Z) fun v1=>Eb Z (bx 2 Z) fun v2=>Eb Z (z56 3 z4h (ZrE.nilS (ZrE.nilS ZrE.nil))) fun v3=>Zb Z<|z0s<|gSR<|Zq (ld 1 Z Z fH z3v Z)<|Zc [] [] Tryz.func38 Z (z3o _) fun r4 n5=>Zq (I.neq Z Z)<|Zj Z (fun h6=>?_) (fun h6=>?_)
 ·
  refine gSR<|Zq (zm9 [(0,1),(1,1)] Tryz.underlying25 z4h (ZrE.nilS (ZrE.nilS ZrE.nil)) Z (zgf.done Z))<|Zq (ld 1 Z Z fH z3v Z)<|Zc [] [] Tryz.func38 Z (z3o _) fun r7 n8=>Es (zm7 3 Z Z (z08.cast (z08.cons z05 (z08.cons z05 z08.nil)) Z) Z (z20.cons z0q (z20.cons z0q z20.nil)) (z08.cast (z08.cons z05 (z08.cons z05 z08.nil)) Z) z4h)<|Zb Z<|z0k<|z0w<|zga aZ [.rd (z02 aZ) [],.val (.slice none 0 0)] 3 [] [.val (.slice none 0 0)] Z Z Z<|zga z03 [.rd (z02 aZ) [],.rd (z02 z03) []] 3 [.rd (z02 aZ) []] [] Z Z Z<|zny (R:=z01) (⟨[],[]⟩:z00) 3 Z (Sp.via (Sp.prod (Sp.prod Sp.unit)))<|zbq [] [] Z (eC 3 Z Z z3v<|eE Z<|eN) (rN)
 ·
  refine Zt<|z0s<|gSR<|Zq (ld 2 Z Z fH z3v Z)<|Zc [] [] Tryz.func38 Z (z3o _) fun r9 n10=>Zq (I.neq Z Z)<|Zj Z (fun h11=>?_) (fun h11=>?_)
  ·
   refine gSR<|Zq (zm9 [(0,1),(1,1)] Tryz.underlying25 z4h (ZrE.nilS (ZrE.nilS ZrE.nil)) Z (zgf.done Z))<|Zq (ld 2 Z Z fH z3v Z)<|Zc [] [] Tryz.func38 Z (z3o _) fun r12 n13=>Es (zm7 3 Z Z (z08.cast (z08.cons z05 (z08.cons z05 z08.nil)) Z) Z (z20.cons z0q (z20.cons z0q z20.nil)) (z08.cast (z08.cons z05 (z08.cons z05 z08.nil)) Z) z4h)<|Zb Z<|z0k<|z0w<|zga aZ [.rd (z02 aZ) [],.val (.slice none 0 0)] 3 [] [.val (.slice none 0 0)] Z Z Z<|zga z03 [.rd (z02 aZ) [],.rd (z02 z03) []] 3 [.rd (z02 aZ) []] [] Z Z Z<|zny (R:=z01) (⟨[],[]⟩:z00) 3 Z (Sp.via (Sp.prod (Sp.prod Sp.unit)))<|zbq [] [] Z (eC 3 Z Z z3v<|eE Z<|eN) (rN)
  ·
   refine Zt<|z8c (fun (s14:Unit) aa ww=>Sta (ctx 90 H [] w) [(2,.val (z06 v1 0)),(3,.val (z06 v2 0)),(4,.val (z06 v3 0))] [(1,some (v1,.box 25 [.rd z01 a0])),(2,some (v2,.box 25 [.rd z01 a1])),(3,some (v3,.box 25 [.val (.slice none 0 0),.val (.slice none 0 0)]))] aa ww) ?_ (fun s14=>?_)
   ·
    refine gSR<|Zb Z<|z26 (fun (s15:Int) aa ww=>Sta (ctx 90 H [] w) [(2,.val (z06 v1 0)),(3,.val (z06 v2 0)),(4,.val (z06 v3 0)),(6,.rd z0e s15)] [(1,some (v1,.box 25 [.rd z01 a0])),(2,some (v2,.box 25 [.rd z01 a1])),(3,some (v3,.box 25 [.val (.slice none 0 0),.val (.slice none 0 0)]))] aa ww) (fun aa ww h=>Zu h [1,2,3]) (fun s15=>?_)
    refine z0s<|gSR<|Zm Z<|Zq (faB 2 Z Z Tryz.underlying25 Z (by exact z6e))<|Zq (ld 2 Z Z (fP (z0a _)) z8j Z)<|Zq (z3g Z .rd Z tu22)<|Zq (I.lss Z Z)<|Zj Z (fun h16=>?_) (fun h16=>?_)
    ·
     refine Zt<|z0s<|z4y<|z0s<|z99 [] mixed Z Z<|hTk 0 Z Z (faB 1 Z Z Tryz.underlying25 Z (by exact z6e))<|hTk 1 Z Z (ld 1 Z Z (fP (z0a _)) z8j Z)<|hTk 2 Z Z (faB 2 Z Z Tryz.underlying25 Z (by exact z6e))<|hTk 3 Z Z (ld 2 Z Z (fP (z0a _)) z8j Z)<|hTk 4 Z Z (mv Z)<|z64 fun x17 h18=>hTk 5 Z Z (ixR Z Z h18 tu22 z2b Z)<|hTk 6 Z Z (ldR Z z43)<|z4e 7 [] [] Z (by kernel_rfl) Z (gd0 Z) Z Tryz.func34 Z Z (zcb _ _) (Y2 Z Z) rN Z (fun _ _=>z34) fun r19 n20=>hTk 8 Z Z (asg Z)<|z5a (by kernel_rfl)<|z0o<|z8n (fun (s21:Bool) aa ww=>Sta (ctx 90 H [] w) [(2,.val (z06 v1 0)),(3,.val (z06 v2 0)),(4,.val (z06 v3 0)),(6,.rd z0e s15),(52,.rd z0j s21)] [(1,some (v1,.box 25 [.rd z01 a0])),(2,some (v2,.box 25 [.rd z01 a1])),(3,some (v3,.box 25 [.val (.slice none 0 0),.val (.slice none 0 0)]))] aa ww) ?_ (fun s21=>?_)
     ·
      refine z99 [] mixed Z Z<|hTk 0 Z Z (mv Z)<|hTk 1 Z Z (I.geq Z Z)<|hTk 2 Z Z (mv Z)<|hIf 39 Z Z (fun h22=>?_) (fun h22=>?_)
      ·
       refine hKn 38 Z Z h22<|Zg 3 Z Z (faB 1 Z Z Tryz.underlying25 Z (by exact zai))<|Zg 4 Z Z (ld 1 Z Z (fP (z09 _)) zec Z)<|Zg 5 Z Z (mv Z)<|z64 fun x23 h24=>Zg 6 Z Z (ixR Z Z h24 tu23 z5n Z)<|Zg 7 Z Z (ldR Z z9n)<|Zg 8 Z Z (faB 2 Z Z Tryz.underlying25 Z (by exact zai))<|Zg 9 Z Z (ld 2 Z Z (fP (z09 _)) zec Z)<|Zg 10 Z Z (mv Z)<|z64 fun x25 h26=>Zg 11 Z Z (ixR Z Z h26 tu23 z5n Z)<|Zg 12 Z Z (ldR Z z9n)<|z4e 13 [] [] Z (by kernel_rfl) Z Zx Z Tryz.func54 Z Z (zg6 _ _) (Y2 Z Z) rN Z (fun _ _=>ze8) fun r27 n28=>Zg 14 Z Z (zfl Z)<|hTk 15 Z Z (pkT Z Z)<|z5a (by kernel_rfl)<|z3n (fun aa ww h=>Zu h [1,2,3])
      ·
       refine hKn 38 Z Z h22<|hSk 3 Z Z<|hSk 4 Z Z<|hSk 5 Z Z<|hSk 6 Z Z<|hSk 7 Z Z<|hSk 8 Z Z<|hSk 9 Z Z<|hSk 10 Z Z<|hSk 11 Z Z<|hSk 12 Z Z<|hSk 13 Z Z<|hSk 14 Z Z<|hTk 15 Z Z (pkF Z Z)<|z5a (by kernel_rfl)<|z3n (fun aa ww h=>Zu h [1,2,3])
     ·
      refine gIf Z Z (fun h29=>?_) (fun h29=>?_)
      ·
       refine gSR<|Zq (zm9 [(0,1),(1,1)] Tryz.underlying25 z4h (ZrE.nilS (ZrE.nilS ZrE.nil)) Z (zgf.done Z))<|Es (zm7 3 Z Z (z08.cast (z08.cons z05 (z08.cons z05 z08.nil)) Z) Z (z20.cons z0q (z20.cons z0q z20.nil)) (z08.cast (z08.cons z05 (z08.cons z05 z08.nil)) Z) z4h)<|Zb Z<|z0k<|z42<|z0w<|z7g<|z7a<|zga aZ [.rd (z02 aZ) [],.val (.slice none 0 0)] 3 [] [.val (.slice none 0 0)] Z Z Z<|zga z03 [.rd (z02 aZ) [],.rd (z02 z03) []] 3 [.rd (z02 aZ) []] [] Z Z Z<|zny (R:=z01) (⟨[],[]⟩:z00) 3 Z (Sp.via (Sp.prod (Sp.prod Sp.unit)))<|zbq [] [] Z (eC 3 Z Z z3v<|eE Z<|eN) (rN)
      ·
       refine z2m<|z35<|z0o<|z2e<|Zm Z<|Zq (I.add Z Z)<|Za Z<|z1t 6 Z fun y30=>z1q<|z1k (fun aa ww h=>Zu h [1,2,3])
    ·
     refine z1s<|z0x<|z0y<|z79 (fun aa ww h=>Zu h [1,2,3])
   ·
    refine gSR<|Zq (ld 1 Z Z fH z3v Z)<|Zc [] [] Tryz.func11 Z (zfw _) fun r31 n32=>Eb Z (z56 85 z4h (ZrE.nilS (ZrE.nilS ZrE.nil))) fun v33=>za6 aZ [.rd (z02 aZ) [],.val (.slice none 0 0)] 85 [] [.val (.slice none 0 0)] Z Z Z<|za6 z03 [.rd (z02 aZ) [],.rd (z02 z03) []] 85 [.rd (z02 aZ) []] [] Z Z Z<|zd3 (R:=z01) (⟨[],[]⟩:z00) 85 Z (Sp.via (Sp.prod (Sp.prod Sp.unit)))<|Es (sto 85 Z Z fH Z z4h)<|Zn<|z8n (fun (s34:z00) aa ww=>Sta (ctx 90 H [] w) [(4,.val (z06 v3 0)),(8,.val (z06 v33 0))] [(3,some (v3,.box 25 [.val (.slice none 0 0),.val (.slice none 0 0)])),(85,some (v33,.box 25 [.rd z01 s34]))] aa ww) ?_ (fun s34=>?_)
    ·
     refine gSR<|Zb Z<|z26 (fun (s35:z00 × Int) aa ww=>Sta (ctx 90 H [] w) [(3,.val (z06 v2 0)),(4,.val (z06 v3 0)),(8,.val (z06 v33 0)),(9,.rd z0e s35.2)] [(2,some (v2,.box 25 [.rd z01 a1])),(3,some (v3,.box 25 [.val (.slice none 0 0),.val (.slice none 0 0)])),(85,some (v33,.box 25 [.rd z01 s35.1]))] aa ww) (fun aa ww h=>Zu h [2,3,85]) (fun s35=>?_)
     refine z0s<|gSR<|Zm Z<|Zq (faB 2 Z Z Tryz.underlying25 Z (by exact z6e))<|Zq (ld 2 Z Z (fP (z0a _)) z8j Z)<|Zq (z3g Z .rd Z tu22)<|Zq (I.lss Z Z)<|Zj Z (fun h36=>?_) (fun h36=>?_)
     ·
      refine Zt<|z0s<|z4y<|z0s<|z99 [] mixed Z Z<|hTk 0 Z Z (faB 85 Z Z Tryz.underlying25 Z (by exact z6e))<|hTk 1 Z Z (ld 85 Z Z (fP (z0a _)) z8j Z)<|hTk 2 Z Z (faB 2 Z Z Tryz.underlying25 Z (by exact z6e))<|hTk 3 Z Z (ld 2 Z Z (fP (z0a _)) z8j Z)<|hTk 4 Z Z (mv Z)<|z64 fun x37 h38=>hTk 5 Z Z (ixR Z Z h38 tu22 z2b Z)<|hTk 6 Z Z (ldR Z z43)<|z4e 7 [] [] Z (by kernel_rfl) Z (gd0 Z) Z Tryz.func34 Z Z (zcb _ _) (Y2 Z Z) rN Z (fun _ _=>z34) fun r39 n40=>hTk 8 Z Z (I.lss Z Z)<|z5a (by kernel_rfl)<|z0o<|gIf Z Z (fun h41=>?_) (fun h41=>?_)
      ·
       refine z99 [85] mixed Z Z<|hTk 1 Z Z (faB 2 Z Z Tryz.underlying25 Z (by exact z6e))<|hTk 2 Z Z (ld 2 Z Z (fP (z0a _)) z8j Z)<|hTk 3 Z Z (mv Z)<|z64 fun x42 h43=>hTk 4 Z Z (ixR Z Z h43 tu22 z2b Z)<|hTk 5 Z Z (ldR Z z43)<|hTk 6 Z Z (faB 2 Z Z Tryz.underlying25 Z (by exact zai))<|hTk 7 Z Z (ld 2 Z Z (fP (z09 _)) zec Z)<|hTk 8 Z Z (mv Z)<|z64 fun x44 h45=>hTk 9 Z Z (ixR Z Z h45 tu23 z5n Z)<|hTk 10 Z Z (ldR Z z9n)<|hRun 0 Z (by kernel_rfl) (gd0 Z) Z Z anyJ (ld 85 Z Z fH z3v Z)<|zl8 11 [] [] Z (by kernel_rfl) Z (gd0 Z) Z Tryz.func73 Z Z (zgw _ _ _) (aQ Z<|aQ Z<|aQ Z<|aN) rN Z fun r46 n47=>Zp 12 Z Z Z Z Z (sto 85 Z Z fH Z z4h)<|z5a (by kernel_rfl)<|z35<|z0o<|z2e<|Zm Z<|Zq (I.add Z Z)<|Za Z<|z1t 9 Z fun y48=>z1q<|z1k (fun aa ww h=>Zu h [2,3,85])
      ·
       refine z2m<|z35<|z0o<|z2e<|Zm Z<|Zq (I.add Z Z)<|Za Z<|z1t 9 Z fun y49=>z1q<|z1k (fun aa ww h=>Zu h [2,3,85])
     ·
      refine z1s<|z0x<|z0y<|z3n (fun aa ww h=>Zu h [3,85])
    ·
     refine z0s<|gSR<|Zq (faB 85 Z Z Tryz.underlying25 Z (by exact zai))<|Zq (ld 85 Z Z (fP (z09 _)) zec Z)<|Zq (z3g Z .rd Z tu23)<|Zq (I.gtr Z Z)<|Zj Z (fun h50=>?_) (fun h50=>?_)
     ·
      refine gSR<|Zq (zm9 [(0,1),(1,1)] Tryz.underlying25 z4h (ZrE.nilS (ZrE.nilS ZrE.nil)) Z (zgf.done Z))<|Es (zm7 3 Z Z (z08.cast (z08.cons z05 (z08.cons z05 z08.nil)) Z) Z (z20.cons z0q (z20.cons z0q z20.nil)) (z08.cast (z08.cons z05 (z08.cons z05 z08.nil)) Z) z4h)<|Zb Z<|z0k<|z0w<|zga aZ [.rd (z02 aZ) [],.val (.slice none 0 0)] 3 [] [.val (.slice none 0 0)] Z Z Z<|zga z03 [.rd (z02 aZ) [],.rd (z02 z03) []] 3 [.rd (z02 aZ) []] [] Z Z Z<|zny (R:=z01) (⟨[],[]⟩:z00) 3 Z (Sp.via (Sp.prod (Sp.prod Sp.unit)))<|zbq [] [] Z (eC 3 Z Z z3v<|eE Z<|eN) (rN)
     ·
      refine Zt<|gSR<|Zq (ld 85 Z Z fH z3v Z)<|za6 aZ [.rd (z02 aZ) [],.val (.slice none 0 0)] 3 [] [.val (.slice none 0 0)] Z Z Z<|za6 z03 [.rd (z02 aZ) [],.rd (z02 z03) []] 3 [.rd (z02 aZ) []] [] Z Z Z<|zd3 (R:=z01) (⟨[],[]⟩:z00) 3 Z (Sp.via (Sp.prod (Sp.prod Sp.unit)))<|Es (sto 3 Z Z fH Z z4h)<|Zb Z<|z0k<|zbq [] [] Z (eC 3 Z Z z3v<|eE Z<|eN) (rN)
def zak (a0:z00) (a1:z00):Option (Int) :=
 z0b a0 >>= fun r3 =>
 if r3 != 0 then
  some r3
 else
  z0b a1 >>= fun r6 =>
  if r6 != 0 then
   some r6
  else
   z2s a0 a1 >>= fun r9 =>
   some r9.2
theorem zlm (a0:z00) (a1:z00):z1u Tryz.prog 29 [.rd z01 a0,.rd z01 a1] [] (zak a0 a1) (fun r nv=>⟨[.rd z0e r],[]⟩):=by
 refine z2d 26 Tryz.func29 Z Z Z fun H w=>?_
 refine gSR<|Eb Z (bx 1 Z) fun v1=>Eb Z (bx 2 Z) fun v2=>Zb Z<|z0s<|gSR<|Zq (ld 1 Z Z fH z3v Z)<|Zc [] [] Tryz.func38 Z (z3o _) fun r3 n4=>Zb Z<|gSR<|Zm Z<|Zq (I.neq Z Z)<|Zj Z (fun h5=>?_) (fun h5=>?_)
 ·
  refine gSR<|Zm Z<|Zb Z<|z0k<|z0w<|Ze [] [] Z
 ·
  refine Zt<|z0s<|gSR<|Zq (ld 2 Z Z fH z3v Z)<|Zc [] [] Tryz.func38 Z (z3o _) fun r6 n7=>Zb Z<|gSR<|Zm Z<|Zq (I.neq Z Z)<|Zj Z (fun h8=>?_) (fun h8=>?_)
  ·
   refine gSR<|Zm Z<|Zb Z<|z0k<|z0w<|Ze [] [] Z
  ·
   refine Zt<|gSR<|Zq (ld 1 Z Z fH z3v Z)<|Zq (ld 2 Z Z fH z3v Z)<|Zc [] [] Tryz.func60 Z (zkp _ _) fun r9 n10=>Zm Z<|Zq (ext Z Z)<|Zq (ext Z Z)<|Eb Z (z56 3 z4h (ZrE.nilS (ZrE.nilS ZrE.nil))) fun v11=>za6 aZ [.rd (z02 aZ) [],.val (.slice none 0 0)] 3 [] [.val (.slice none 0 0)] Z Z Z<|za6 z03 [.rd (z02 aZ) [],.rd (z02 z03) []] 3 [.rd (z02 aZ) []] [] Z Z Z<|zd3 (R:=z01) (⟨[],[]⟩:z00) 3 Z (Sp.via (Sp.prod (Sp.prod Sp.unit)))<|Es (sto 3 Z Z fH Z z4h)<|Zb Z<|gSR<|Zm Z<|Zb Z<|z0k<|Ze [] [] Z
def zbv (a0:z00) (a1:z07):Option (z00 × V3 × Int) :=
 z0b a0 >>= fun r5 =>
 if r5 != 0 then
  z0b a0 >>= fun r8 =>
  some ((⟨[],[]⟩:z00),(Vector.replicate 32 0),r8)
 else
  z4d a1 >>= fun r10 =>
  if r10 != 0 then
   z4d a1 >>= fun r13 =>
   some ((⟨[],[]⟩:z00),(Vector.replicate 32 0),r13)
  else
   z3s a1 >>= fun r15 =>
   z31 a0.IDs r15 >>= fun r18 =>
   if decide (0≤r18) then
    some ((⟨[],[]⟩:z00),(Vector.replicate 32 0),14)
   else
    z3p a0.IDs a1.Preds >>= fun r21 =>
    if !r21 then
     some ((⟨[],[]⟩:z00),(Vector.replicate 32 0),40)
    else
     if (a0.Ops.length:Int)==60 then
      some ((⟨[],[]⟩:z00),(Vector.replicate 32 0),18)
     else
      z6g a0 r15 a1 >>= fun r25 =>
      some (r25,r15,0)
def z3h (a0:z00) (r10:(List V3)) (s14:z00 × Int) (s17:z00 × Int):Option (Sum z00 (z00 × Int)) :=
 if decide (s17.2<(a0.IDs.length:Int)) then
  (idx a0.IDs s17.2 >>= fun x20 =>
  idx r10 s14.2 >>= fun x22 =>
  if decide (x20=x22) then
   idx r10 s14.2 >>= fun x25 =>
   z9e s17.1.IDs x25 >>= fun r27 =>
   some (!r27)
  else
   some false) >>= fun s19 =>
  if s19 then
   idx a0.Ops s17.2 >>= fun x30 =>
   zbv s17.1 x30 >>= fun r32 =>
   some (w64 (s17.2+1)) >>= fun y34 =>
   some (.inr (r32.1,y34))
  else
   some (w64 (s17.2+1)) >>= fun y35 =>
   some (.inr (s17.1,y35))
 else
  some (.inl s17.1)
def z5o (a0:z00) (r10:(List V3)) (s14:z00 × Int):Option (Sum z00 (z00 × Int)) :=
 if decide (s14.2<(r10.length:Int)) then
  (iter (z3h a0 r10 s14) (s14.1,0)) >>= fun s16 =>
  some (w64 (s14.2+1)) >>= fun y36 =>
  some (.inr (s16,y36))
 else
  some (.inl s14.1)
def z4k (a0:z00) (a1:z00):Option (z00 × z00 × Int × Int) :=
 z7u a0 a1 >>= fun r5 =>
 if r5.2 != 0 then
  some ((⟨[],[]⟩:z00),(⟨[],[]⟩:z00),0,r5.2)
 else
  zb1 a0 a1 >>= fun r9 =>
  zb1 a1 a0 >>= fun r11 =>
  some (w64 (r9.2+r11.2)) >>= fun y14 =>
  some (r11.1,r9.1,y14,0)
set_option maxHeartbeats 4000000 in
theorem zdn (a0:z00) (a1:z00):z1u Tryz.prog 26 [.rd z01 a0,.rd z01 a1] [zG1] (z4k a0 a1) (fun r nv=>⟨[.rd z01 r.1,.rd z01 r.2.1,.rd z0e r.2.2.1,.rd z0e r.2.2.2],[(1001,some (.bool true,.glob 1 (z3j 64 z0p) z65))]⟩):=by
 refine z2d 40 Tryz.func26 Z Z Z fun H w=>?_
 refine gSR<|Eb Z (bx 1 Z) fun v1=>Eb Z (bx 2 Z) fun v2=>Eb Z (z56 3 z4h (ZrE.nilS (ZrE.nilS ZrE.nil))) fun v3=>Eb Z (z56 4 z4h (ZrE.nilS (ZrE.nilS ZrE.nil))) fun v4=>Za Z<|Zb Z<|z0s<|gSR<|Zq (ld 1 Z Z fH z3v Z)<|Zq (ld 2 Z Z fH z3v Z)<|Zc [1001] [] Tryz.func37 Z (zia _ _) fun r5 n6=>Zm Z<|Zq (ext Z Z)<|Zq (ext Z Z)<|Eb Z (z56 5 z4h (ZrE.nilS (ZrE.nilS ZrE.nil))) fun v7=>za6 aZ [.rd (z02 aZ) [],.val (.slice none 0 0)] 5 [] [.val (.slice none 0 0)] Z Z Z<|za6 z03 [.rd (z02 aZ) [],.rd (z02 z03) []] 5 [.rd (z02 aZ) []] [] Z Z Z<|zd3 (R:=z01) (⟨[],[]⟩:z00) 5 Z (Sp.via (Sp.prod (Sp.prod Sp.unit)))<|Es (sto 5 Z Z fH Z z4h)<|Zb Z<|gSR<|Zm Z<|Zq (I.neq Z Z)<|Zj Z (fun h8=>?_) (fun h8=>?_)
 ·
  refine gSR<|Zq (zm9 [(0,1),(1,1)] Tryz.underlying25 z4h (ZrE.nilS (ZrE.nilS ZrE.nil)) Z (zgf.done Z))<|Zq (zm9 [(0,1),(1,1)] Tryz.underlying25 z4h (ZrE.nilS (ZrE.nilS ZrE.nil)) Z (zgf.done Z))<|Zm Z<|Es (zm7 3 Z Z (z08.cast (z08.cons z05 (z08.cons z05 z08.nil)) Z) Z (z20.cons z0q (z20.cons z0q z20.nil)) (z08.cast (z08.cons z05 (z08.cons z05 z08.nil)) Z) z4h)<|Es (zm7 4 Z Z (z08.cast (z08.cons z05 (z08.cons z05 z08.nil)) Z) Z (z20.cons z0q (z20.cons z0q z20.nil)) (z08.cast (z08.cons z05 (z08.cons z05 z08.nil)) Z) z4h)<|Za Z<|Zb Z<|z0k<|z0w<|zga aZ [.rd (z02 aZ) [],.val (.slice none 0 0)] 3 [] [.val (.slice none 0 0)] Z Z Z<|zga z03 [.rd (z02 aZ) [],.rd (z02 z03) []] 3 [.rd (z02 aZ) []] [] Z Z Z<|zny (R:=z01) (⟨[],[]⟩:z00) 3 Z (Sp.via (Sp.prod (Sp.prod Sp.unit)))<|zga aZ [.rd (z02 aZ) [],.val (.slice none 0 0)] 4 [] [.val (.slice none 0 0)] Z Z Z<|zga z03 [.rd (z02 aZ) [],.rd (z02 z03) []] 4 [.rd (z02 aZ) []] [] Z Z Z<|zny (R:=z01) (⟨[],[]⟩:z00) 4 Z (Sp.via (Sp.prod (Sp.prod Sp.unit)))<|zbq [] [1001] Z (eC 3 Z Z z3v<|eC 4 Z Z z3v<|eE Z<|eE Z<|eN) (y1 Z)
 ·
  refine Zt<|gSR<|Zq (ld 1 Z Z fH z3v Z)<|Zq (ld 2 Z Z fH z3v Z)<|Zc [1001] [] Tryz.func56 Z (zm4 _ _) fun r9 n10=>Zm Z<|Zq (ext Z Z)<|Zq (ext Z Z)<|za6 aZ [.rd (z02 aZ) [],.val (.slice none 0 0)] 4 [] [.val (.slice none 0 0)] Z Z Z<|za6 z03 [.rd (z02 aZ) [],.rd (z02 z03) []] 4 [.rd (z02 aZ) []] [] Z Z Z<|zd3 (R:=z01) (⟨[],[]⟩:z00) 4 Z (Sp.via (Sp.prod (Sp.prod Sp.unit)))<|Es (sto 4 Z Z fH Z z4h)<|Zb Z<|gSR<|Zq (ld 2 Z Z fH z3v Z)<|Zq (ld 1 Z Z fH z3v Z)<|Zc [1001] [] Tryz.func56 Z (zm4 _ _) fun r11 n12=>Zm Z<|Zq (ext Z Z)<|Zq (ext Z Z)<|za6 aZ [.rd (z02 aZ) [],.val (.slice none 0 0)] 3 [] [.val (.slice none 0 0)] Z Z Z<|za6 z03 [.rd (z02 aZ) [],.rd (z02 z03) []] 3 [.rd (z02 aZ) []] [] Z Z Z<|zd3 (R:=z01) (⟨[],[]⟩:z00) 3 Z (Sp.via (Sp.prod (Sp.prod Sp.unit)))<|Es (sto 3 Z Z fH Z z4h)<|Zb Z<|z0s<|zsc [(4,.val (z06 v3 0)),(5,.val (z06 v4 0)),(10,.rd z0e r9.2),(11,.rd z0e r11.2)] [zG1,(1,some (v1,.box 25 [.rd z01 a0])),(2,some (v2,.box 25 [.rd z01 a1])),(3,some (v3,.box 25 [.rd z01 r11.1])),(4,some (v4,.box 25 [.rd z01 r9.1])),(5,some (v7,.box 25 [.rd z01 r5.1]))] [1001,1,2,3,4,5] (Zs Z Z Z Z<|sN) (Zi Z<|Zi Z<|Zi Z<|Zi Z<|Zi Z<|Zi Z<|rN)<|gOr [] [⟨3,some ([], fun nv=>(v3,.box 25 [.rd z01 r11.1])),[]⟩,⟨4,some ([], fun nv=>(v4,.box 25 [.rd z01 r9.1])),[]⟩] [pk 35 (.rd z01 r11.1) [(0,0,false)],pk 36 (.rd z01 r9.1) [(1,0,false)],pd 37 (.rd z0e r9.2),pd 38 (.rd z0e r11.2),pd 39 (.rd z0e (w64 (r9.2+r11.2))),⟨none,[(0,0,false)],[],[]⟩,⟨none,[(1,0,false)],[],[]⟩,pd 6 (.rd z0e (w64 (r9.2+r11.2))),pd 7 (.rd z0e 0)] mixed (oC (oRn (fun nv E=>ld 3 Z Z fH z3v Z))<|oC (oRn (fun nv E=>ld 4 Z Z fH z3v Z))<|oC (oRn (fun nv E=>mv Z))<|oC (oRn (fun nv E=>mv Z))<|oC (oRn (fun nv E=>I.add Z Z))<|oC (oEs 3 (fun nv E=>sto 3 Z Z fH Z z4h))<|oC (oEs 4 (fun nv E=>sto 4 Z Z fH Z z4h))<|oC (oRn (fun nv E=>asg Z))<|oC (oRn (fun nv E=>asg Z))<|oN) fun n13=>z1ag 6 Z fun y14=>z0o<|z0k<|zbq [] [1001] Z (eC 3 Z Z z3v<|eC 4 Z Z z3v<|eE Z<|eE Z<|eN) (y1 Z)
def z9w (a0:UInt32):Option (Int) :=
 if a0==0 then
  some 2
 else
  if decide (500000003≤a0.toUInt64) then
   some 2
  else
   some 0
theorem zf9 (a0:UInt32):z1u Tryz.prog 141 [.rd z0p a0] [] (z9w a0) (fun r nv=>⟨[.rd z0e r],[]⟩):=by
 refine z2d 10 Tryz.func141 Z Z Z fun H w=>?_
 refine gSR<|Zb Z<|z0s<|gSR<|Zm Z<|Zq (W.eql Z Z)<|Zm Z<|z1b 5 Z (fun h1=>?_) (fun h1=>?_)
 ·
  refine lKn 4 Z h1<|Zk Z<|Zk Z<|Zk Z<|Zq (pkT Z Z)<|Zn<|zir Z<|gSR<|Zb Z<|z0k<|z0w<|Ze [] [] Z
 ·
  refine lKn 4 Z h1<|z17 Zx Z Z (mv Z)<|z17 Zx Z Z (W.toU Z tu65 tu41)<|z17 Zx Z Z (U.geq Z Z)<|Zq (pkF Z Z)<|Zj Z (fun h2=>?_) (fun h2=>?_)
  ·
   refine gKn 8 Z h2<|gSR<|Zb Z<|z0k<|z0w<|Ze [] [] Z
  ·
   refine gKn 8 Z h2<|Zt<|gSR<|Zb Z<|z0k<|Ze [] [] Z
def zfi (a0:z07):Option (z07) :=
 some ({ a0 with Sig:=(⟨0,0⟩:z0c) })
theorem zlk (a0:z07):z1u Tryz.prog 142 [.rd z03 a0] [] (zfi a0) (fun r nv=>⟨[.rd z03 r],[]⟩):=by
 refine z2d 6 Tryz.func142 Z Z Z fun H w=>?_
 refine gSR<|Eb Z (bx 1 Z) fun v1=>Eb Z (z56 2 z5n (ZrE.rd (R:=z0p) (x:=0) (Zr.num Z) (ZrE.nilS (ZrE.rd (R:=z2c) (x:=0) (Zr.num Z) (ZrE.rd (R:=z0f) (x:=(⟨0,[],(⟨0,0,0,[]⟩:z04)⟩:z0h)) zn8 (ZrE.rd (R:=z0g) (x:=(⟨0,0⟩:z0c)) zm6 ZrE.nil Z) Z) Z)) Z)) fun v2=>Zn<|gSR<|Zq (bld (x':=(⟨0,0⟩:z0c)) [(0,1),(1,1)] Tryz.underlying71 zng Z zm6 Z (Bld.done Z))<|Zq (faB 1 Z Z Tryz.underlying73 Z (by exact zng))<|Es (sto 1 Z Z (fP (z2j _)) Z zng)<|Zn<|gSR<|Zq (ld 1 Z Z fH z9n Z)<|za6 aZ [.rd z0p 0,.rd (z02 aZ) [],.rd z2c 0,.rd z0f (⟨0,[],(⟨0,0,0,[]⟩:z04)⟩:z0h),.rd z0g (⟨0,0⟩:z0c)] 2 [.rd z0p 0] [.rd z2c 0,.rd z0f (⟨0,[],(⟨0,0,0,[]⟩:z04)⟩:z0h),.rd z0g (⟨0,0⟩:z0c)] Z Z Z<|zd3 (R:=z03) (⟨0,[],0,(⟨0,[],(⟨0,0,0,[]⟩:z04)⟩:z0h),(⟨0,0⟩:z0c)⟩:z07) 2 Z (Sp.via (Sp.prod (Sp.prod (Sp.prod (Sp.prod (Sp.prod Sp.unit))))))<|Es (sto 2 Z Z fH Z z5n)<|Zn<|z0k<|zbq [] [] Z (eC 2 Z Z z9n<|eN) (rN)
def zc6 (a0:UInt32) (a1:List UInt8):Option (UInt32) :=
 z8w a0 >>= fun r2 =>
 app 1 [110] r2 >>= fun x4 =>
 app 1 x4 a1 >>= fun x7 =>
 z8z x7 >>= fun r10 =>
 some (((r10 % 500000002).toUInt32)+1) >>= fun y12 =>
 some y12
theorem zkg (a0:UInt32) (a1:List UInt8):z1u Tryz.prog 179 [.rd z0p a0,.rd (z02 u8R) a1] [] (zc6 a0 a1) (fun r nv=>⟨[.rd z0p r],[]⟩):=by
 refine z2d 17 Tryz.func179 Z Z Z fun H w=>?_
 refine gSR<|Zb Z<|gSR<|Ef Z (lit (R:=u8R) ([110]:List UInt8) 1 (pP Z Z<|pN) Z tu75 ti5 Z Z) fun v1=>Zm Z<|Zc [] [(100,2)] Tryz.func208 Z (zda _) fun r2 n3=>z0n fun x4 h5=>Ef Z (apn 1 Z Z Z (.own 2 Z) h5 tu75 ti5 Z Z Z) fun v6=>Zb Z<|gSR<|Zm Z<|Zm Z<|z0n fun x7 h8=>Ef Z (apn 1 Z Z Z .rd h8 tu75 ti5 Z Z Z) fun v9=>zh0 1 [12] Z (fS Z<|fN)<|Zc [] [] Tryz.func209 Z (zen _) fun r10 n11=>Zq (U.rem Z Z (by decide))<|Zq (U.toW Z tu41 tu65)<|Zq (W.add Z Z)<|Za Z<|z1t 4 Z fun y12=>Zn<|z0k<|Ze [] [] Z
def zba (a0:UInt32) (a1:UInt32):Option (UInt32) :=
 some (((a0.toUInt64 * a1.toUInt64) % 500000003).toUInt32) >>= fun y1 =>
 some y1
theorem zjc (a0:UInt32) (a1:UInt32):z1u Tryz.prog 182 [.rd z0p a0,.rd z0p a1] [] (zba a0 a1) (fun r nv=>⟨[.rd z0p r],[]⟩):=by
 refine z2d 12 Tryz.func182 Z Z Z fun H w=>?_
 refine gSR<|Zb Z<|gSR<|Zm Z<|Zq (W.toU Z tu65 tu41)<|Zm Z<|Zq (W.toU Z tu65 tu41)<|Zq (U.mul Z Z)<|Zq (U.rem Z Z (by decide))<|Zq (U.toW Z tu41 tu65)<|Za Z<|z1t 4 Z fun y1=>Zn<|z0k<|Ze [] [] Z
def zdw (a0:UInt32) (a1:UInt32):Option (UInt32) :=
 some (((a0.toUInt64+a1.toUInt64) % 500000003).toUInt32) >>= fun y1 =>
 some y1
theorem zmv (a0:UInt32) (a1:UInt32):z1u Tryz.prog 181 [.rd z0p a0,.rd z0p a1] [] (zdw a0 a1) (fun r nv=>⟨[.rd z0p r],[]⟩):=by
 refine z2d 12 Tryz.func181 Z Z Z fun H w=>?_
 refine gSR<|Zb Z<|gSR<|Zm Z<|Zq (W.toU Z tu65 tu41)<|Zm Z<|Zq (W.toU Z tu65 tu41)<|Zq (U.add Z Z)<|Zq (U.rem Z Z (by decide))<|Zq (U.toW Z tu41 tu65)<|Za Z<|z1t 4 Z fun y1=>Zn<|z0k<|Ze [] [] Z
def zb0 (a0:UInt32) (a1:List UInt8):Option (z0c) :=
 zc6 a0 a1 >>= fun r2 =>
 z6f r2 >>= fun r4 =>
 z6f a0 >>= fun r6 =>
 z5y r4 r6 a1 >>= fun r8 =>
 zba r8 a0 >>= fun r10 =>
 zdw r2 r10 >>= fun r12 =>
 some (⟨r8,r12⟩:z0c)
theorem zjg (a0:UInt32) (a1:List UInt8):z1u Tryz.prog 144 [.rd z0p a0,.rd (z02 u8R) a1] [] (zb0 a0 a1) (fun r nv=>⟨[.rd z0g r],[]⟩):=by
 refine z2d 23 Tryz.func144 Z Z Z fun H w=>?_
 refine gSR<|Eb Z (z56 1 zng (.zr (R:=z0g) (x:=(⟨0,0⟩:z0c)) zm6)) fun v1=>Zn<|gSR<|Zm Z<|Zm Z<|Zc [] [] Tryz.func179 Z (zkg _ _) fun r2 n3=>Zb Z<|gSR<|Zm Z<|Zc [] [] Tryz.func143 Z (zbh _) fun r4 n5=>Zm Z<|Zc [] [] Tryz.func143 Z (zbh _) fun r6 n7=>Zm Z<|Zc [] [] Tryz.func180 Z (zcr _ _ _) fun r8 n9=>Zb Z<|gSR<|Zm Z<|Zm Z<|Zm Z<|Zm Z<|Zc [] [] Tryz.func182 Z (zjc _ _) fun r10 n11=>Zc [] [] Tryz.func181 Z (zmv _ _) fun r12 n13=>Zq (bld (x':=(⟨r8,r12⟩:z0c)) [(0,1),(1,1)] Tryz.underlying71 zng Z zm6 Z (Bld.cons (z5d _) Z Z<|Bld.cons (z7x _) Z Z<|Bld.done Z))<|Es (sto 1 Z Z fH Z zng)<|Zn<|z0k<|zbq [] [] Z (eC 1 Z Z ty71<|eN) (rN)
def z4n (a0:UInt32) (a1:z07):Option (z07 × Int) :=
 z9w a0 >>= fun r3 =>
 if r3 != 0 then
  z9w a0 >>= fun r6 =>
  some ((⟨0,[],0,(⟨0,[],(⟨0,0,0,[]⟩:z04)⟩:z0h),(⟨0,0⟩:z0c)⟩:z07),r6)
 else
  zfi a1 >>= fun r8 =>
  zay r8 >>= fun r10 =>
  z6f a0 >>= fun r13 =>
  z4x ({ r10 with Author:=r13 }) >>= fun r15 =>
  if r15 != 0 then
   z4x ({ r10 with Author:=r13 }) >>= fun r18 =>
   some ((⟨0,[],0,(⟨0,[],(⟨0,0,0,[]⟩:z04)⟩:z0h),(⟨0,0⟩:z0c)⟩:z07),r18)
  else
   z6u ({ r10 with Author:=r13 }) >>= fun r20 =>
   zb0 a0 r20 >>= fun r22 =>
   some ({ { r10 with Author:=r13 } with Sig:=r22 },0)
theorem zlq (a0:UInt32) (a1:z07):z1u Tryz.prog 97 [.rd z0p a0,.rd z03 a1] [] (z4n a0 a1) (fun r nv=>⟨[.rd z03 r.1,.rd z0e r.2],[]⟩):=by
 refine z2d 31 Tryz.func97 Z Z Z fun H w=>?_
 refine gSR<|Eb Z (bx 1 Z) fun v1=>Eb Z (z56 2 z5n (ZrE.rd (R:=z0p) (x:=0) (Zr.num Z) (ZrE.nilS (ZrE.rd (R:=z2c) (x:=0) (Zr.num Z) (ZrE.rd (R:=z0f) (x:=(⟨0,[],(⟨0,0,0,[]⟩:z04)⟩:z0h)) zn8 (ZrE.rd (R:=z0g) (x:=(⟨0,0⟩:z0c)) zm6 ZrE.nil Z) Z) Z)) Z)) fun v2=>Zb Z<|z0s<|gSR<|Zm Z<|Zc [] [] Tryz.func141 Z (zf9 _) fun r3 n4=>Zq (I.neq Z Z)<|Zj Z (fun h5=>?_) (fun h5=>?_)
 ·
  refine gSR<|Zq (zm9 [(0,1),(1,1),(2,1),(3,6),(9,2)] Tryz.underlying73 z5n (ZrE.rd (R:=z0p) (x:=0) (Zr.num Z) (ZrE.nilS (ZrE.rd (R:=z2c) (x:=0) (Zr.num Z) (ZrE.rd (R:=z0f) (x:=(⟨0,[],(⟨0,0,0,[]⟩:z04)⟩:z0h)) zn8 (ZrE.rd (R:=z0g) (x:=(⟨0,0⟩:z0c)) zm6 ZrE.nil Z) Z) Z)) Z) Z (zgf.done Z))<|Zm Z<|Zc [] [] Tryz.func141 Z (zf9 _) fun r6 n7=>Es (zm7 2 Z Z (z08.cast (z08.cons z19 (z08.cons z05 (z08.cons z19 (z08.cons z19 (z08.cons z19 z08.nil))))) Z) Z (z20.cons z95 (z20.cons z0q (z20.cons z95 (z20.cons z95 (z20.cons z95 z20.nil))))) (z08.cast (z08.cons z19 (z08.cons z05 (z08.cons z19 (z08.cons z19 (z08.cons z19 z08.nil))))) Z) z5n)<|Zb Z<|z0k<|z0w<|zga aZ [.rd z0p 0,.rd (z02 aZ) [],.rd z2c 0,.rd z0f (⟨0,[],(⟨0,0,0,[]⟩:z04)⟩:z0h),.rd z0g (⟨0,0⟩:z0c)] 2 [.rd z0p 0] [.rd z2c 0,.rd z0f (⟨0,[],(⟨0,0,0,[]⟩:z04)⟩:z0h),.rd z0g (⟨0,0⟩:z0c)] Z Z Z<|zny (R:=z03) (⟨0,[],0,(⟨0,[],(⟨0,0,0,[]⟩:z04)⟩:z0h),(⟨0,0⟩:z0c)⟩:z07) 2 Z (Sp.via (Sp.prod (Sp.prod (Sp.prod (Sp.prod (Sp.prod Sp.unit))))))<|zbq [] [] Z (eC 2 Z Z z9n<|eE Z<|eN) (rN)
 ·
  refine Zt<|gSR<|Zq (ld 1 Z Z fH z9n Z)<|Zc [] [] Tryz.func142 Z (zlk _) fun r8 n9=>Zc [] [] Tryz.func42 Z (zfy _) fun r10 n11=>Eb Z (z56 3 z5n (ZrE.rd (R:=z0p) (x:=0) (Zr.num Z) (ZrE.nilS (ZrE.rd (R:=z2c) (x:=0) (Zr.num Z) (ZrE.rd (R:=z0f) (x:=(⟨0,[],(⟨0,0,0,[]⟩:z04)⟩:z0h)) zn8 (ZrE.rd (R:=z0g) (x:=(⟨0,0⟩:z0c)) zm6 ZrE.nil Z) Z) Z)) Z)) fun v12=>za6 aZ [.rd z0p 0,.rd (z02 aZ) [],.rd z2c 0,.rd z0f (⟨0,[],(⟨0,0,0,[]⟩:z04)⟩:z0h),.rd z0g (⟨0,0⟩:z0c)] 3 [.rd z0p 0] [.rd z2c 0,.rd z0f (⟨0,[],(⟨0,0,0,[]⟩:z04)⟩:z0h),.rd z0g (⟨0,0⟩:z0c)] Z Z Z<|zd3 (R:=z03) (⟨0,[],0,(⟨0,[],(⟨0,0,0,[]⟩:z04)⟩:z0h),(⟨0,0⟩:z0c)⟩:z07) 3 Z (Sp.via (Sp.prod (Sp.prod (Sp.prod (Sp.prod (Sp.prod Sp.unit))))))<|Es (sto 3 Z Z fH Z z5n)<|Zn<|gSR<|Zm Z<|Zc [] [] Tryz.func143 Z (zbh _) fun r13 n14=>Zq (faB 3 Z Z Tryz.underlying73 Z (by exact z6p))<|Es (sto 3 Z Z (fP (z36 _)) Z z6p)<|Zn<|z0s<|gSR<|Zq (ld 3 Z Z fH z9n Z)<|Zc [] [] Tryz.func103 Z (z9h _) fun r15 n16=>Zq (I.neq Z Z)<|Zj Z (fun h17=>?_) (fun h17=>?_)
  ·
   refine gSR<|Zq (zm9 [(0,1),(1,1),(2,1),(3,6),(9,2)] Tryz.underlying73 z5n (ZrE.rd (R:=z0p) (x:=0) (Zr.num Z) (ZrE.nilS (ZrE.rd (R:=z2c) (x:=0) (Zr.num Z) (ZrE.rd (R:=z0f) (x:=(⟨0,[],(⟨0,0,0,[]⟩:z04)⟩:z0h)) zn8 (ZrE.rd (R:=z0g) (x:=(⟨0,0⟩:z0c)) zm6 ZrE.nil Z) Z) Z)) Z) Z (zgf.done Z))<|Zq (ld 3 Z Z fH z9n Z)<|Zc [] [] Tryz.func103 Z (z9h _) fun r18 n19=>Es (zm7 2 Z Z (z08.cast (z08.cons z19 (z08.cons z05 (z08.cons z19 (z08.cons z19 (z08.cons z19 z08.nil))))) Z) Z (z20.cons z95 (z20.cons z0q (z20.cons z95 (z20.cons z95 (z20.cons z95 z20.nil))))) (z08.cast (z08.cons z19 (z08.cons z05 (z08.cons z19 (z08.cons z19 (z08.cons z19 z08.nil))))) Z) z5n)<|Zb Z<|z0k<|z0w<|zga aZ [.rd z0p 0,.rd (z02 aZ) [],.rd z2c 0,.rd z0f (⟨0,[],(⟨0,0,0,[]⟩:z04)⟩:z0h),.rd z0g (⟨0,0⟩:z0c)] 2 [.rd z0p 0] [.rd z2c 0,.rd z0f (⟨0,[],(⟨0,0,0,[]⟩:z04)⟩:z0h),.rd z0g (⟨0,0⟩:z0c)] Z Z Z<|zny (R:=z03) (⟨0,[],0,(⟨0,[],(⟨0,0,0,[]⟩:z04)⟩:z0h),(⟨0,0⟩:z0c)⟩:z07) 2 Z (Sp.via (Sp.prod (Sp.prod (Sp.prod (Sp.prod (Sp.prod Sp.unit))))))<|zbq [] [] Z (eC 2 Z Z z9n<|eE Z<|eN) (rN)
  ·
   refine Zt<|gSR<|Zm Z<|Zq (ld 3 Z Z fH z9n Z)<|Zc [] [(100,4)] Tryz.func139 Z (zd7 _) fun r20 n21=>zh0 4 [27] Z (fS Z<|fN)<|Zc [] [] Tryz.func144 Z (zjg _ _) fun r22 n23=>Zq (faB 3 Z Z Tryz.underlying73 Z (by exact zng))<|Es (sto 3 Z Z (fP (z2j _)) Z zng)<|Zn<|gSR<|Zq (ld 3 Z Z fH z9n Z)<|za6 aZ [.rd z0p 0,.rd (z02 aZ) [],.rd z2c 0,.rd z0f (⟨0,[],(⟨0,0,0,[]⟩:z04)⟩:z0h),.rd z0g (⟨0,0⟩:z0c)] 2 [.rd z0p 0] [.rd z2c 0,.rd z0f (⟨0,[],(⟨0,0,0,[]⟩:z04)⟩:z0h),.rd z0g (⟨0,0⟩:z0c)] Z Z Z<|zd3 (R:=z03) (⟨0,[],0,(⟨0,[],(⟨0,0,0,[]⟩:z04)⟩:z0h),(⟨0,0⟩:z0c)⟩:z07) 2 Z (Sp.via (Sp.prod (Sp.prod (Sp.prod (Sp.prod (Sp.prod Sp.unit))))))<|Es (sto 2 Z Z fH Z z5n)<|Zb Z<|z0k<|zbq [] [] Z (eC 2 Z Z z9n<|eE Z<|eN) (rN)
def z3i (a0:UInt64) (a1:List V3):Option (z07) :=
 z4n 5 (⟨0,a1,a0,(⟨1,[],(⟨0,0,0,[]⟩:z04)⟩:z0h),(⟨0,0⟩:z0c)⟩:z07) >>= fun r2 =>
 some r2.1
theorem z9s (a0:UInt64) (a1:List V3):z1u Tryz.prog 59 [.rd z2c a0,.rd (z02 aZ) a1] [] (z3i a0 a1) (fun r nv=>⟨[.rd z03 r],[]⟩):=by
 refine z2d 16 Tryz.func59 Z Z Z fun H w=>?_
 refine gSR<|Eb Z (z56 1 z5n (ZrE.rd (R:=z0p) (x:=0) (Zr.num Z) (ZrE.nilS (ZrE.rd (R:=z2c) (x:=0) (Zr.num Z) (ZrE.rd (R:=z0f) (x:=(⟨0,[],(⟨0,0,0,[]⟩:z04)⟩:z0h)) zn8 (ZrE.rd (R:=z0g) (x:=(⟨0,0⟩:z0c)) zm6 ZrE.nil Z) Z) Z)) Z)) fun v1=>Zn<|gSR<|Zm Z<|Zm Z<|Zq (bld (x':=(⟨1,[],(⟨0,0,0,[]⟩:z04)⟩:z0h)) [(0,1),(1,1),(2,4)] Tryz.underlying69 zpv Z zn8 Z (Bld.cons (z3z _) Z Z<|Bld.done Z))<|Zq (bld (x':=(⟨0,a1,a0,(⟨1,[],(⟨0,0,0,[]⟩:z04)⟩:z0h),(⟨0,0⟩:z0c)⟩:z07)) [(0,1),(1,1),(2,1),(3,6),(9,2)] Tryz.underlying73 z5n Z zr73 Z (Bld.cons (z0z _) Z Z<|Bld.cons (z4o _) Z Z<|Bld.cons (z29 _) Z Z<|Bld.done Z))<|Zc [] [] Tryz.func97 Z (zlq _ _) fun r2 n3=>Zm Z<|Zq (ext Z Z)<|Zq (ext Z Z)<|Eb Z (z56 2 z5n (ZrE.rd (R:=z0p) (x:=0) (Zr.num Z) (ZrE.nilS (ZrE.rd (R:=z2c) (x:=0) (Zr.num Z) (ZrE.rd (R:=z0f) (x:=(⟨0,[],(⟨0,0,0,[]⟩:z04)⟩:z0h)) zn8 (ZrE.rd (R:=z0g) (x:=(⟨0,0⟩:z0c)) zm6 ZrE.nil Z) Z) Z)) Z)) fun v4=>za6 aZ [.rd z0p 0,.rd (z02 aZ) [],.rd z2c 0,.rd z0f (⟨0,[],(⟨0,0,0,[]⟩:z04)⟩:z0h),.rd z0g (⟨0,0⟩:z0c)] 2 [.rd z0p 0] [.rd z2c 0,.rd z0f (⟨0,[],(⟨0,0,0,[]⟩:z04)⟩:z0h),.rd z0g (⟨0,0⟩:z0c)] Z Z Z<|zd3 (R:=z03) (⟨0,[],0,(⟨0,[],(⟨0,0,0,[]⟩:z04)⟩:z0h),(⟨0,0⟩:z0c)⟩:z07) 2 Z (Sp.via (Sp.prod (Sp.prod (Sp.prod (Sp.prod (Sp.prod Sp.unit))))))<|Es (sto 2 Z Z fH Z z5n)<|Zb Z<|gSR<|Zq (ld 2 Z Z fH z9n Z)<|za6 aZ [.rd z0p 0,.rd (z02 aZ) [],.rd z2c 0,.rd z0f (⟨0,[],(⟨0,0,0,[]⟩:z04)⟩:z0h),.rd z0g (⟨0,0⟩:z0c)] 1 [.rd z0p 0] [.rd z2c 0,.rd z0f (⟨0,[],(⟨0,0,0,[]⟩:z04)⟩:z0h),.rd z0g (⟨0,0⟩:z0c)] Z Z Z<|zd3 (R:=z03) (⟨0,[],0,(⟨0,[],(⟨0,0,0,[]⟩:z04)⟩:z0h),(⟨0,0⟩:z0c)⟩:z07) 1 Z (Sp.via (Sp.prod (Sp.prod (Sp.prod (Sp.prod (Sp.prod Sp.unit))))))<|Es (sto 1 Z Z fH Z z5n)<|Zn<|z0k<|zbq [] [] Z (eC 1 Z Z z9n<|eN) (rN)
def zac  : Option ((List z07)) :=
 z3i 1 [] >>= fun r1 =>
 z3s r1 >>= fun r4 =>
 z3i 2 [r4] >>= fun r7 =>
 z3s r7 >>= fun r10 =>
 z3i 3 [r10] >>= fun r13 =>
 some [r1,r7,r13]
theorem zis  : z1u Tryz.prog 41 [] [] (zac) (fun r nv=>⟨[.val (nv 0)],[(100,some (nv 0,.list z03 73 r))]⟩):=by
 refine z2d 15 Tryz.func41 Z Z Z fun H w=>?_
 refine gSR<|Zb Z<|gSR<|call [] [] Z Tryz.func59 Z Z (z9s _ _) (aQ Z<|aNil Z<|aN) rN fun r1 n2=>Eb Z (z56 1 z5n (ZrE.rd (R:=z0p) (x:=0) (Zr.num Z) (ZrE.nilS (ZrE.rd (R:=z2c) (x:=0) (Zr.num Z) (ZrE.rd (R:=z0f) (x:=(⟨0,[],(⟨0,0,0,[]⟩:z04)⟩:z0h)) zn8 (ZrE.rd (R:=z0g) (x:=(⟨0,0⟩:z0c)) zm6 ZrE.nil Z) Z) Z)) Z)) fun v3=>za6 aZ [.rd z0p 0,.rd (z02 aZ) [],.rd z2c 0,.rd z0f (⟨0,[],(⟨0,0,0,[]⟩:z04)⟩:z0h),.rd z0g (⟨0,0⟩:z0c)] 1 [.rd z0p 0] [.rd z2c 0,.rd z0f (⟨0,[],(⟨0,0,0,[]⟩:z04)⟩:z0h),.rd z0g (⟨0,0⟩:z0c)] Z Z Z<|zd3 (R:=z03) (⟨0,[],0,(⟨0,[],(⟨0,0,0,[]⟩:z04)⟩:z0h),(⟨0,0⟩:z0c)⟩:z07) 1 Z (Sp.via (Sp.prod (Sp.prod (Sp.prod (Sp.prod (Sp.prod Sp.unit))))))<|Es (sto 1 Z Z fH Z z5n)<|Zn<|gSR<|Zq (ld 1 Z Z fH z9n Z)<|Zc [] [] Tryz.func58 Z (z4w _) fun r4 n5=>Ef Z (lit (R:=aZ) ([r4]:List V3) 2 (pP Z Z<|pN) Z tu22 z2b Z Z) fun v6=>zh0 2 [6] Z (fS Z<|fN)<|Zc [] [] Tryz.func59 Z (z9s _ _) fun r7 n8=>Eb Z (z56 3 z5n (ZrE.rd (R:=z0p) (x:=0) (Zr.num Z) (ZrE.nilS (ZrE.rd (R:=z2c) (x:=0) (Zr.num Z) (ZrE.rd (R:=z0f) (x:=(⟨0,[],(⟨0,0,0,[]⟩:z04)⟩:z0h)) zn8 (ZrE.rd (R:=z0g) (x:=(⟨0,0⟩:z0c)) zm6 ZrE.nil Z) Z) Z)) Z)) fun v9=>za6 aZ [.rd z0p 0,.rd (z02 aZ) [],.rd z2c 0,.rd z0f (⟨0,[],(⟨0,0,0,[]⟩:z04)⟩:z0h),.rd z0g (⟨0,0⟩:z0c)] 3 [.rd z0p 0] [.rd z2c 0,.rd z0f (⟨0,[],(⟨0,0,0,[]⟩:z04)⟩:z0h),.rd z0g (⟨0,0⟩:z0c)] Z Z Z<|zd3 (R:=z03) (⟨0,[],0,(⟨0,[],(⟨0,0,0,[]⟩:z04)⟩:z0h),(⟨0,0⟩:z0c)⟩:z07) 3 Z (Sp.via (Sp.prod (Sp.prod (Sp.prod (Sp.prod (Sp.prod Sp.unit))))))<|Es (sto 3 Z Z fH Z z5n)<|Zn<|z0s<|z99 [16,22] mixed Z Z<|hTk 0 Z Z (ld 1 Z Z fH z9n Z)<|hTk 1 Z Z (ld 3 Z Z fH z9n Z)<|hTk 2 Z Z (ld 3 Z Z fH z9n Z)<|zl8 3 [] [] Z (by kernel_rfl) Z (gd0 Z) Z Tryz.func58 Z Z (z4w _) (Y1 Z) rN Z fun r10 n11=>Zo 4 Z Z Z (lit (R:=aZ) ([r10]:List V3) 16 (pP Z Z<|pN) Z tu22 z2b Z Z) fun v12=>zz1 16 [12] Z (fS Z<|fN)<|zl8 5 [] [] Z (by kernel_rfl) Z (gd0 Z) Z Tryz.func59 Z Z (z9s _ _) (Y2 Z Z) rN Z fun r13 n14=>Zo 6 Z Z Z (lit (R:=z03) ([r1,r7,r13]:List z07) 22 (pP Z Z<|pP Z Z<|pP Z Z<|pN) Z tu23 z5n Z Z) fun v15=>Zf 7 Z Z z3t (asg Z)<|z5a (by kernel_rfl)<|z0o<|z0k<|Ze [v15] [22] Z
def z9y (a0:List z07) (s4:Int):Option (Sum (Sum (z00 × Int) Unit) Int) :=
 if decide (s4<(a0.length:Int)) then
  idx a0 s4 >>= fun x6 =>
  z4d x6 >>= fun r8 =>
  if r8 != 0 then
   idx a0 s4 >>= fun x11 =>
   z4d x11 >>= fun r13 =>
   some (.inl (.inl ((⟨[],[]⟩:z00),r13)))
  else
   some (.inr (w64 (s4+1)))
 else
  some (.inl (.inr ()))
def za0 (a0:List z07) (s17:(List V3) × (List z07) × Int):Option (Sum (Sum (z00 × Int) ((List V3) × (List z07))) ((List V3) × (List z07) × Int)) :=
 if decide (s17.2.2<(a0.length:Int)) then
  idx a0 s17.2.2 >>= fun x19 =>
  z3s x19 >>= fun r21 =>
  z31 s17.1 r21 >>= fun r24 =>
  if decide (0≤r24) then
   some (.inl (.inl ((⟨[],[]⟩:z00),14)))
  else
   idx a0 s17.2.2 >>= fun x27 =>
   z6g (⟨s17.1,s17.2.1⟩:z00) r21 x27 >>= fun r29 =>
   some (w64 (s17.2.2+1)) >>= fun y31 =>
   some (.inr (r29.IDs,r29.Ops,y31))
 else
  some (.inl (.inr (s17.1,s17.2.1)))
def z68 (a0:List z07):Option (z00 × Int) :=
 if decide (60<(a0.length:Int)) then
  some ((⟨[],[]⟩:z00),4)
 else
  z5g (iter (z9y a0) 0) fun s3 =>
  z5g (iter (za0 a0) ([],[],0)) fun s16 =>
  z7n (⟨s16.1,s16.2⟩:z00) >>= fun r32 =>
  if r32 != 0 then
   z7n (⟨s16.1,s16.2⟩:z00) >>= fun r35 =>
   some ((⟨[],[]⟩:z00),r35)
  else
   some ((⟨s16.1,s16.2⟩:z00),0)
theorem zef (a0:List z07):z1u Tryz.prog 40 [.rd (z02 z03) a0] [] (z68 a0) (fun r nv=>⟨[.rd z01 r.1,.rd z0e r.2],[]⟩):=by
 refine z2d 61 Tryz.func40 Z Z Z fun H w=>?_
 refine gSR<|Eb Z (z56 1 z4h (ZrE.nilS (ZrE.nilS ZrE.nil))) fun v1=>Zb Z<|z0s<|gSR<|Zm Z<|Zq (z3g Z .rd Z tu23)<|Zq (I.gtr Z Z)<|Zj Z (fun h2=>?_) (fun h2=>?_)
 ·
  refine gSR<|Zq (zm9 [(0,1),(1,1)] Tryz.underlying25 z4h (ZrE.nilS (ZrE.nilS ZrE.nil)) Z (zgf.done Z))<|Es (zm7 1 Z Z (z08.cast (z08.cons z05 (z08.cons z05 z08.nil)) Z) Z (z20.cons z0q (z20.cons z0q z20.nil)) (z08.cast (z08.cons z05 (z08.cons z05 z08.nil)) Z) z4h)<|Zb Z<|z0k<|z0w<|zga aZ [.rd (z02 aZ) [],.val (.slice none 0 0)] 1 [] [.val (.slice none 0 0)] Z Z Z<|zga z03 [.rd (z02 aZ) [],.rd (z02 z03) []] 1 [.rd (z02 aZ) []] [] Z Z Z<|zny (R:=z01) (⟨[],[]⟩:z00) 1 Z (Sp.via (Sp.prod (Sp.prod Sp.unit)))<|zbq [] [] Z (eC 1 Z Z z3v<|eE Z<|eN) (rN)
 ·
  refine Zt<|z8c (fun (s3:Unit) aa ww=>Sta (ctx 61 H [] w) [(0,.rd (z02 z03) a0),(2,.val (z06 v1 0))] [(1,some (v1,.box 25 [.val (.slice none 0 0),.val (.slice none 0 0)]))] aa ww) ?_ (fun s3=>?_)
  ·
   refine gSR<|Zb Z<|z26 (fun (s4:Int) aa ww=>Sta (ctx 61 H [] w) [(0,.rd (z02 z03) a0),(2,.val (z06 v1 0)),(4,.rd z0e s4)] [(1,some (v1,.box 25 [.val (.slice none 0 0),.val (.slice none 0 0)]))] aa ww) (fun aa ww h=>Zu h [1]) (fun s4=>?_)
   refine z0s<|gSR<|Zm Z<|Zm Z<|Zq (z3g Z .rd Z tu23)<|Zq (I.lss Z Z)<|Zj Z (fun h5=>?_) (fun h5=>?_)
   ·
    refine Zt<|z0s<|z4y<|gSR<|Zm Z<|Zm Z<|z0n fun x6 h7=>Zq (ixR Z Z h7 tu23 z5n Z)<|Zq (ldR Z z9n)<|Zc [] [] Tryz.func69 Z (zbm _) fun r8 n9=>Zq (I.neq Z Z)<|Zj Z (fun h10=>?_) (fun h10=>?_)
    ·
     refine gSR<|Zq (zm9 [(0,1),(1,1)] Tryz.underlying25 z4h (ZrE.nilS (ZrE.nilS ZrE.nil)) Z (zgf.done Z))<|Zm Z<|Zm Z<|z0n fun x11 h12=>Zq (ixR Z Z h12 tu23 z5n Z)<|Zq (ldR Z z9n)<|Zc [] [] Tryz.func69 Z (zbm _) fun r13 n14=>Es (zm7 1 Z Z (z08.cast (z08.cons z05 (z08.cons z05 z08.nil)) Z) Z (z20.cons z0q (z20.cons z0q z20.nil)) (z08.cast (z08.cons z05 (z08.cons z05 z08.nil)) Z) z4h)<|Zb Z<|z0k<|z42<|z0w<|z7g<|z7a<|zga aZ [.rd (z02 aZ) [],.val (.slice none 0 0)] 1 [] [.val (.slice none 0 0)] Z Z Z<|zga z03 [.rd (z02 aZ) [],.rd (z02 z03) []] 1 [.rd (z02 aZ) []] [] Z Z Z<|zny (R:=z01) (⟨[],[]⟩:z00) 1 Z (Sp.via (Sp.prod (Sp.prod Sp.unit)))<|zbq [] [] Z (eC 1 Z Z z3v<|eE Z<|eN) (rN)
    ·
     refine z2m<|z35<|z0o<|z2e<|Zm Z<|Zq (I.add Z Z)<|Za Z<|z1q<|z1k (fun aa ww h=>Zu h [1])
   ·
    refine z1s<|z0x<|z0y<|z79 (fun aa ww h=>Zu h [1])
  ·
   refine gSR<|Eb Z (z56 2 z4h (ZrE.nilS (ZrE.nilS ZrE.nil))) fun v15=>Zn<|z8c (fun (s16:(List V3) × (List z07)) aa ww=>Sta (ctx 61 H [] w) [(2,.val (z06 v1 0)),(5,.val (z06 v15 0))] [(1,some (v1,.box 25 [.val (.slice none 0 0),.val (.slice none 0 0)])),(2,some (v15,.box 25 [.rd (z02 aZ) s16.1,.rd (z02 z03) s16.2]))] aa ww) ?_ (fun s16=>?_)
   ·
    refine gSR<|Zb Z<|gPnl aZ [.rd (z02 aZ) [],.val (.slice none 0 0)] 2 [] [.val (.slice none 0 0)] Z Z Z<|gPnl z03 [.rd (z02 aZ) [],.rd (z02 z03) []] 2 [.rd (z02 aZ) []] [] Z Z Z<|z26 (fun (s17:(List V3) × (List z07) × Int) aa ww=>Sta (ctx 61 H [] w) [(0,.rd (z02 z03) a0),(2,.val (z06 v1 0)),(5,.val (z06 v15 0)),(6,.rd z0e s17.2.2)] [(1,some (v1,.box 25 [.val (.slice none 0 0),.val (.slice none 0 0)])),(2,some (v15,.box 25 [.rd (z02 aZ) s17.1,.rd (z02 z03) s17.2.1]))] aa ww) (fun aa ww h=>Zu h [1,2]) (fun s17=>?_)
    refine z0s<|gSR<|Zm Z<|Zm Z<|Zq (z3g Z .rd Z tu23)<|Zq (I.lss Z Z)<|Zj Z (fun h18=>?_) (fun h18=>?_)
    ·
     refine Zt<|z0s<|z4y<|gSR<|Zm Z<|Zm Z<|z0n fun x19 h20=>Zq (ixR Z Z h20 tu23 z5n Z)<|Zq (ldR Z z9n)<|Zc [] [] Tryz.func58 Z (z4w _) fun r21 n22=>Eb Z (z56 3 z2b (.zr (R:=aZ) (x:=(Vector.replicate 32 0)) zgg)) fun v23=>Es (sto 3 Z Z fH Z z2b)<|Zn<|z0s<|gSR<|Zq (faB 2 Z Z Tryz.underlying25 Z (by exact z6e))<|Zq (ld 2 Z Z (Foc.cast fH Z) z8j Z)<|Zq (ld 3 Z Z fH z43 Z)<|Zc [] [] Tryz.func34 Z (zcb _ _) fun r24 n25=>Zq (I.geq Z Z)<|Zj Z (fun h26=>?_) (fun h26=>?_)
     ·
      refine gSR<|Zq (zm9 [(0,1),(1,1)] Tryz.underlying25 z4h (ZrE.nilS (ZrE.nilS ZrE.nil)) Z (zgf.done Z))<|Es (zm7 1 Z Z (z08.cast (z08.cons z05 (z08.cons z05 z08.nil)) Z) Z (z20.cons z0q (z20.cons z0q z20.nil)) (z08.cast (z08.cons z05 (z08.cons z05 z08.nil)) Z) z4h)<|Zb Z<|z0k<|z0w<|z42<|z0w<|z7g<|z7a<|zga aZ [.rd (z02 aZ) [],.val (.slice none 0 0)] 1 [] [.val (.slice none 0 0)] Z Z Z<|zga z03 [.rd (z02 aZ) [],.rd (z02 z03) []] 1 [.rd (z02 aZ) []] [] Z Z Z<|zny (R:=z01) (⟨[],[]⟩:z00) 1 Z (Sp.via (Sp.prod (Sp.prod Sp.unit)))<|zbq [] [] Z (eC 1 Z Z z3v<|eE Z<|eN) (rN)
     ·
      refine Zt<|gJoi (R:=z01) (⟨s17.1,s17.2.1⟩:z00) 2 Z (Sp.via (Sp.prod (Sp.prod Sp.unit)))<|z99 [2] mixed Z Z<|hTk 1 Z Z (ld 3 Z Z fH z43 Z)<|hTk 2 Z Z (mv Z)<|hTk 3 Z Z (mv Z)<|z64 fun x27 h28=>hTk 4 Z Z (ixR Z Z h28 tu23 z5n Z)<|hTk 5 Z Z (ldR Z z9n)<|hRun 0 Z (by kernel_rfl) (gd0 Z) Z Z anyJ (ld 2 Z Z fH z3v Z)<|zl8 6 [] [] Z (by kernel_rfl) Z (gd0 Z) Z Tryz.func73 Z Z (zgw _ _ _) (aQ Z<|aQ Z<|aQ Z<|aN) rN Z fun r29 n30=>Zp 7 Z Z Z Z Z (sto 2 Z Z fH Z z4h)<|z5a (by kernel_rfl)<|z35<|z0o<|z2e<|Zm Z<|Zq (I.add Z Z)<|Za Z<|z1t 6 Z fun y31=>z1q<|eSpl (R:=z01) 2 Z (Sp.via (Sp.prod (Sp.prod Sp.unit)))<|z1k (fun aa ww h=>Zu h [1,2])
    ·
     refine z1s<|z0x<|z0y<|z79 (fun aa ww h=>Zu h [1,2])
   ·
    refine z0s<|gSR<|zd3 (R:=z01) (⟨s16.1,s16.2⟩:z00) 2 Z (Sp.via (Sp.prod (Sp.prod Sp.unit)))<|Zq (ld 2 Z Z fH z3v Z)<|Zc [] [] Tryz.func70 Z (zcg _) fun r32 n33=>Zq (I.neq Z Z)<|Zj Z (fun h34=>?_) (fun h34=>?_)
    ·
     refine gSR<|Zq (zm9 [(0,1),(1,1)] Tryz.underlying25 z4h (ZrE.nilS (ZrE.nilS ZrE.nil)) Z (zgf.done Z))<|Zq (ld 2 Z Z fH z3v Z)<|Zc [] [] Tryz.func70 Z (zcg _) fun r35 n36=>Es (zm7 1 Z Z (z08.cast (z08.cons z05 (z08.cons z05 z08.nil)) Z) Z (z20.cons z0q (z20.cons z0q z20.nil)) (z08.cast (z08.cons z05 (z08.cons z05 z08.nil)) Z) z4h)<|Zb Z<|z0k<|z0w<|zga aZ [.rd (z02 aZ) [],.val (.slice none 0 0)] 1 [] [.val (.slice none 0 0)] Z Z Z<|zga z03 [.rd (z02 aZ) [],.rd (z02 z03) []] 1 [.rd (z02 aZ) []] [] Z Z Z<|zny (R:=z01) (⟨[],[]⟩:z00) 1 Z (Sp.via (Sp.prod (Sp.prod Sp.unit)))<|zbq [] [] Z (eC 1 Z Z z3v<|eE Z<|eN) (rN)
    ·
     refine Zt<|gSR<|Zq (ld 2 Z Z fH z3v Z)<|za6 aZ [.rd (z02 aZ) [],.val (.slice none 0 0)] 1 [] [.val (.slice none 0 0)] Z Z Z<|za6 z03 [.rd (z02 aZ) [],.rd (z02 z03) []] 1 [.rd (z02 aZ) []] [] Z Z Z<|zd3 (R:=z01) (⟨[],[]⟩:z00) 1 Z (Sp.via (Sp.prod (Sp.prod Sp.unit)))<|Es (sto 1 Z Z fH Z z4h)<|Zb Z<|z0k<|zbq [] [] Z (eC 1 Z Z z3v<|eE Z<|eN) (rN)
def zcc  : Option (Bool) :=
 zac >>= fun r1 =>
 z68 r1 >>= fun r3 =>
 cut r1 0 1 >>= fun x6 =>
 z68 x6 >>= fun r8 =>
 idx r1 0 >>= fun x11 =>
 z3s x11 >>= fun r13 =>
 idx r1 1 >>= fun x16 =>
 z3s x16 >>= fun r18 =>
 idx r1 2 >>= fun x21 =>
 z3s x21 >>= fun r23 =>
 idx r1 0 >>= fun x27 =>
 z3i 9 [r13] >>= fun r29 =>
 z68 [x27,r29] >>= fun r32 =>
 zfa r8.1 [r23] >>= fun r37 =>
 zdo r3.1 [r23] [r13] >>= fun r41 =>
 z3i 9 [r13] >>= fun r43 =>
 z3s r43 >>= fun r46 =>
 zdo r3.1 [r23] [r46] >>= fun r49 =>
 z4k r3.1 r8.1 >>= fun r53 =>
 (if r3.2 != 0 then
  some true
 else
  if r8.2 != 0 then
   some true
  else
   if r32.2 != 0 then
    some true
   else
    if r37.2 != 0 then
     some true
    else
     if r41.2 != 0 then
      some true
     else
      if r49.2 != 0 then
       some true
      else
       if r53.2.2.2 != 0 then
        some true
       else
        some ((r32.1.IDs.length:Int) != 2)) >>= fun s57 =>
 if s57 then
  some false
 else
  z90 r37.1 [r23] >>= fun r68 =>
  if r68 then
   z90 r41.1 [r18,r23] >>= fun r72 =>
   if r72 then
    z90 r49.1 [r13,r18,r23] >>= fun r76 =>
    if r76 then
     if r53.2.2.1==1 then
      z6s r53.1 r3.1 >>= fun r80 =>
      if r80 then
       z6s r53.2.1 r3.1 >>= fun r83 =>
       some r83
      else
       some false
     else
      some false
    else
     some false
   else
    some false
  else
   some false
end
end Go.Proofs.YtefkialcgmohkaaGreatDoor
