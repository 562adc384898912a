import Derived.Test.YtojceajkeefnpaaGreatDoorXd
set_option linter.unusedSimpArgs false
set_option linter.unusedVariables false
namespace Go.Proofs.YtojceajkeefnpaaGreatDoor
section
open Go
def idR (s:List UInt8) (o:Nat):V3:=Vector.ofFn fun j:Fin 32=>s.getD (o+j.val) 0
def zcq (s:List UInt8) (n:Nat):List V3:=(List.range n).map fun i=>idR s (32 * i)
theorem zap (s:List UInt8) (n:Nat):(zcq s n).length=n:=by simp [zcq]
theorem zjn (s:List UInt8) (n:Nat):zcq s (n+1)=zcq s n++[idR s (32 * n)]:=by simp [zcq,List.range_succ]
theorem zp4 (s:List UInt8) (o:Nat) (h:o+32≤s.length):(idR s o).toList=(s.drop o).take 32:=by
 apply List.ext_getElem
 ·simp; omega
 ·intro j h1 h2
  have hj:j<32:=by simpa using h1
  simp only [idR,Vector.getElem_toList,Vector.getElem_ofFn,List.getElem_take,List.getElem_drop]
  exact zdd (by omega)
theorem zns (s:List UInt8):∀ n:Nat,32 * n≤s.length→zci (zcq s n)=s.take (32 * n)
 | 0,_=>by simp [zcq,zci]
 | n+1,h=>by
  rw [zjn]
  have ih:=zns s n (by omega)
  unfold zci at ih ⊢
  rw [List.flatMap_append,ih,List.flatMap_cons,List.flatMap_nil,List.append_nil,zp4 s (32 * n) (by omega), show 32 * (n+1)=32 * n+32 by omega,List.take_add]
theorem zv1 (x:V3) (s:List UInt8) (o:Nat) (h:o+32≤s.length):zfo x (s.drop o)=idR s o:=by
 apply Vector.toList_inj.1
 rw [zfz,zp4 s o h]
 have:(s.drop o).length=s.length - o:=by simp
 rw [Nat.min_eq_right (by omega)]
 simp
def zb5 (b:List UInt8) (most:Int):List V3 × Nat × Nat :=
 if (z2l b most 32).2.2≠0 then ([],0,(z2l b most 32).2.2)
 else if zcs (zcq (z2l b most 32).1 ((z2l b most 32).1.length / 32)) then (zcq (z2l b most 32).1 ((z2l b most 32).1.length / 32),(z2l b most 32).2.1,0) else ([],0,12)
theorem zjo {b:List UInt8} {most:Int} (h:(z2l b most 32).2.2=0):(z2l b most 32).1.length=32 * (z0l b).1∧(z2l b most 32).2.1=(z0l b).2.1+32 * (z0l b).1∧(z0l b).2.2=0∧(z2l b most 32).1=(b.drop (z0l b).2.1).take (32 * (z0l b).1)∧((z0l b).1:Int)≤most∧(z0l b).2.1+32 * (z0l b).1≤b.length:=by
 have hu:=zbq b
 by_cases h1:most<0
 ·rw [zii h1] at h; cases h
 by_cases h2:(z0l b).2.2≠0∨most<((z0l b).1:Int)∨(b.length - (z0l b).2.1) / 32<(z0l b).1
 ·rw [zf7 h1 h2] at h; cases h
 ·have hf:=zeu (b:=b) (k:=32) (by omega)
  rw [z9d h1 h2]
  refine ⟨?_,rfl, by omega,rfl, by omega, by omega⟩
  simp only [List.length_take,List.length_drop]; omega
theorem z114 (s:List UInt8) (n:Nat) (hs:s.length=32 * n) (hn:n≤1000):iter (z78 (List.replicate n (Vector.replicate 32 0))) (s,List.replicate n (Vector.replicate 32 0),0)=some (zcq s n):=by
 have h:=z3x (F:=z78 (List.replicate n (Vector.replicate 32 0))) (b:=zcq s n) n (fun i=>(s.drop (32 * i),zcq s i++List.replicate (n - i) (Vector.replicate 32 0),(i:Int)))
  (fun i hi=>by
   unfold z78
   rw [if_pos (by simp; omega)]
   have hl:(zcq s i++List.replicate (n - i) (Vector.replicate 32 (0:UInt8))).length=n:=by simp [zap]; omega
   have hidx:idx (zcq s i++List.replicate (n - i) (Vector.replicate 32 (0:UInt8))) (i:Int)=some (Vector.replicate 32 0):=by
    rw [z0x (by omega)]
    rw [List.getElem_append_right (by rw [zap]; omega)]
    simp
   have hd:(s.drop (32 * i)).length=32 * (n - i):=by rw [List.length_drop,hs]; omega
   have hmin:min (s.drop (32 * i)).length 32=32:=by rw [hd]; omega
   have hcut:cut (s.drop (32 * i)) ((32:Nat):Int) ((s.drop (32 * i)).length:Int)=some (s.drop (32 * (i+1))):=by
    rw [z96 (by omega) (Nat.le_refl _),List.drop_drop,List.take_of_length_le (by simp; omega)]
    congr 2
   simp only [hidx,bs,hmin,hcut]
   rw [zv1 _ s (32 * i) (by omega),z0w (by omega)]
   congr 3
   have e:n - i=(n - (i+1))+1:=by omega
   rw [Int.toNat_natCast,List.set_append_right _ _ (by rw [zap]; exact Nat.le_refl _),zap,Nat.sub_self,e,List.replicate_succ,List.set_cons_zero,zjn,List.append_assoc]
   rfl)
  (by
   unfold z78
   rw [if_neg (by simp)]
   simp)
 simpa [zcq] using h
theorem zvv (b:List UInt8) (hb:b.length≤20000) (most:Int) (hm:most≤1000):zax b most=some ((zb5 b most).1,((zb5 b most).2.1:Int),((zb5 b most).2.2:Int)):=by
 unfold zax zb5
 have hp:=zmx b (by omega) most (by omega) 32 (by omega) (by omega)
 rw [show ((32:Nat):Int)=32 from rfl] at hp
 rw [hp]
 simp only [bs]
 by_cases h:(z2l b most 32).2.2=0
 ·obtain ⟨l1,l2,l3,l4,l5,l6⟩:=zjo h
  have hn:(z2l b most 32).1.length / 32=(z0l b).1:=by omega
  rw [if_neg (by simp [h]),if_neg (by simp [h]),hn]
  have e:w64 (Int.tdiv ((z2l b most 32).1.length:Int) 32)=((z0l b).1:Int):=by
   rw [l1,Int.tdiv_eq_ediv_of_nonneg (by omega),z0v (by omega) (by omega)]; omega
  rw [e,zme (by omega) (by omega)]
  simp only [bs]
  rw [z114 _ _ l1 (by omega)]
  simp only [bs]
  rw [zjg _ (by rw [zap]; omega)]
  simp only [bs]
  cases zcs (zcq (z2l b most 32).1 (z0l b).1) <;> rfl
 ·rw [if_pos (by simp; omega),if_pos h]; rfl
end
section
open Go
theorem zob {a b:z00} (h1:a.Kind=b.Kind) (h2:a.Num=b.Num) (h3:a.Bits=b.Bits) (h4:a.Text=b.Text):a=b:=by
 cases a; cases b; simp only at h1 h2 h3 h4; subst h1 h2 h3 h4; rfl
theorem zr1:inI 0:=⟨by decide, by decide⟩
theorem zud (b:UInt64) (k:Nat) (hk:k≤63):(z5k b k).toUInt8.toNat=b.toNat / 2 ^ k % 256:=by
 rw [UInt64.toNat_toUInt8,z9e,Nat.min_eq_left (by omega)]
theorem zxe (b:UInt64):z62 (be8 b)=b.toNat:=by
 have h:=UInt64.toNat_lt b
 unfold be8
 simp only [z62,List.foldl_cons,List.foldl_nil,zud b 56 (by omega),zud b 48 (by omega),zud b 40 (by omega),zud b 32 (by omega),zud b 24 (by omega),zud b 16 (by omega),zud b 8 (by omega),zud b 0 (by omega)]
 omega
theorem z10l (l:List UInt8) (h:l.length=8):be8 (UInt64.ofNat (z62 l))=l:=by
 match l,h with
 | [x0,x1,x2,x3,x4,x5,x6,x7],_ =>
  have h0:=x0.toNat_lt; have h1:=x1.toNat_lt; have h2:=x2.toNat_lt; have h3:=x3.toNat_lt; have h4:=x4.toNat_lt; have h5:=x5.toNat_lt; have h6:=x6.toNat_lt; have h7:=x7.toNat_lt
  have hv:(UInt64.ofNat (z62 [x0,x1,x2,x3,x4,x5,x6,x7])).toNat=((((((x0.toNat * 256+x1.toNat) * 256+x2.toNat) * 256+x3.toNat) * 256+x4.toNat) * 256+x5.toNat) * 256+x6.toNat) * 256+x7.toNat:=by
   simp only [z62,List.foldl_cons,List.foldl_nil,UInt64.toNat_ofNat']; omega
  generalize UInt64.ofNat (z62 [x0,x1,x2,x3,x4,x5,x6,x7])=b at hv
  unfold be8
  have e:∀ (k:Nat) (x:UInt8),k≤63→b.toNat / 2 ^ k % 256=x.toNat→(z5k b k).toUInt8=x:=fun k x hk he=>UInt8.toNat_inj.1 (by rw [zud b k hk,he])
  rw [e 56 x0 (by omega) (by omega),e 48 x1 (by omega) (by omega),e 40 x2 (by omega) (by omega),e 32 x3 (by omega) (by omega),e 24 x4 (by omega) (by omega),e 16 x5 (by omega) (by omega),e 8 x6 (by omega) (by omega),e 0 x7 (by omega) (by omega)]
theorem zqq (b:UInt64):(be8 b).length=8:=rfl
def zs0:z00 × Nat × Nat:=(⟨0,0,0,[]⟩,0,12)
def zas (k:UInt8) (r:List UInt8):z00 × Nat × Nat :=
 if k=1 then (⟨1,(zcv r).1,0,[]⟩,(zcv r).2.1,(zcv r).2.2)
 else if k=2 then (if r.length<8 then zs0 else (⟨2,0,UInt64.ofNat (z62 (r.take 8)),[]⟩,8,0))
 else if k=3 then (⟨3,0,0,(z2l r 30 1).1⟩,(z2l r 30 1).2.1,(z2l r 30 1).2.2)
 else (⟨k,0,0,[]⟩,0,0)
def zgx (b:List UInt8):z00 × Nat × Nat :=
 match b with
 | []=>zs0
 | k::r=>if (zas k r).2.2=0∧okV (zas k r).1=true then ((zas k r).1,(zas k r).2.1+1,0) else zs0
theorem z10s (k:UInt8) (l:List UInt8) (h8:l.length≤8):iter (z6z l) (⟨k,0,0,[]⟩,0)=some ⟨k,0,UInt64.ofNat (z62 l),[]⟩:=by
 obtain ⟨b,h1,h2⟩:=z9l (F:=z6z l) l.length (fun i s=>∃ u:UInt64,s.1=⟨k,0,u,[]⟩∧u.toNat=z62 (l.take i)∧s.2=(i:Int)) (fun b=>b=(⟨k,0,UInt64.ofNat (z62 l),[]⟩:z00))
  (fun i s hi hs=>by
   obtain ⟨s1,s2⟩:=s
   obtain ⟨u,e0,e1,e2⟩:=hs
   simp only at e0 e1 e2
   subst e2 e0
   have hb:=zfi hi h8
   have ht:=zg7 hi
   rw [zdd hi] at hb ht
   refine ⟨_, by unfold z6z; rw [if_pos (by simp <;> omega)]; simp only [z0x hi,bs]; rfl,zgm u 8 ||| l[i].toUInt64,rfl,?_,?_⟩
   ·rw [or8 u l[i] (by omega),ht,e1]
   ·exact z0w (by omega))
  (fun s hs=>by
   obtain ⟨s1,s2⟩:=s
   obtain ⟨u,e0,e1,e2⟩:=hs
   simp only at e0 e1 e2
   subst e2 e0
   refine ⟨_, by unfold z6z; rw [if_neg (by simp)],?_⟩
   rw [List.take_length] at e1
   rw [zwz e1]) (⟨k,0,0,[]⟩,0) 0 (by omega) ⟨0,rfl,rfl,rfl⟩
 rw [h1,h2]
theorem zi3 (r:List UInt8):(zcv r).2.1≤9∧((zcv r).2.2=0∨(zcv r).2.2=12)∧inI (zcv r).1:=by
 have h:=zdf r
 by_cases h1:(z0l r).2.2=0
 ·rw [zh2 h1]; have:=zi1 h.1; exact ⟨h.2.1,.inl rfl,this⟩
 ·rw [zko h1]; exact ⟨by simp,h.2.2,zr1⟩
theorem znx (r:List UInt8):(z2l r 30 1).2.1≤39∧((z2l r 30 1).2.2=0∨(z2l r 30 1).2.2=12)∧(z2l r 30 1).1.length≤r.length:=by
 have h:=zdf r
 refine ⟨?_,?_,zln r 30 1⟩ <;> unfold z2l
 ·split
  ·simp
  ·split
   ·simp
   ·simp only; omega
 ·split
  ·rename_i e; exact absurd e (by decide)
  ·split <;> simp
theorem zzv (v:z00) (u e:Nat) (hv:v.Text.length≤9223372036854775807) (hu:u≤100) :
  ((if ((e:Int) != 0)=true then some true else z7b v >>= fun r29=>some (r29 != 0)) >>= fun s27=>if s27 then some ((⟨0,0,0,[]⟩:z00),(0:Int),(12:Int)) else some (w64 ((u:Int)+1)) >>= fun y32=>some (v,y32,0)) =
  some (if e=0∧okV v=true then (v,((u+1:Nat):Int),0) else (⟨0,0,0,[]⟩,0,12)):=by
 rw [zhu v hv]
 by_cases he:e=0
 ·rw [if_neg (by simp [he])]
  cases ok:okV v
  ·have hn:¬ (e=0∧false=true):=by simp
   rw [if_neg hn]; rfl
  ·rw [if_pos (⟨he,rfl⟩:e=0∧true=true)]
   simp only [bs,if_true,bne_self_eq_false,Bool.false_eq_true,if_false]
   rw [z0w (by omega)]
 ·rw [if_pos (by simp; omega),if_neg (fun h=>he h.1)]; rfl
theorem z11k (b:List UInt8) (hb:b.length≤10000):z9r b=some ((zgx b).1,((zgx b).2.1:Int),((zgx b).2.2:Int)):=by
 unfold z9r zgx
 match b,hb with
 | [],_=>rfl
 | k::r,hb =>
  simp only [List.length_cons] at hb
  rw [if_neg (by simp; omega)]
  have i0:idx (k::r) 0=some k:=z0x (l:=k::r) (i:=0) (by simp)
  have hc:cut (k::r) 1 ((k::r).length:Int)=some r:=by
   have:=z96 (b:=k::r) (i:=1) (j:=(k::r).length) (by simp) (by simp)
   rw [show ((1:Nat):Int)=1 from rfl] at this
   rw [this]; simp
  rw [i0]
  simp only [bs]
  rw [hc]
  simp only [bs]
  have fin:∀ (v:z00) (u e:Nat),v.Text.length≤9223372036854775807→u≤100→zas k r=(v,u,e) →
    ((if ((e:Int) != 0)=true then some true else z7b v >>= fun r29=>some (r29 != 0)) >>= fun s27=>if s27 then some ((⟨0,0,0,[]⟩:z00),(0:Int),(12:Int)) else some (w64 ((u:Int)+1)) >>= fun y32=>some (v,y32,0)) =
    some ((if (zas k r).2.2=0∧okV (zas k r).1=true then ((zas k r).1,(zas k r).2.1+1,0) else zs0).1,(((if (zas k r).2.2=0∧okV (zas k r).1=true then ((zas k r).1,(zas k r).2.1+1,0) else zs0).2.1:Nat):Int),(((if (zas k r).2.2=0∧okV (zas k r).1=true then ((zas k r).1,(zas k r).2.1+1,0) else zs0).2.2:Nat):Int)):=by
   intro v u e hv hu hr
   rw [zzv v u e hv hu,hr]
   by_cases h:e=0∧okV v=true
   ·rw [if_pos h,if_pos h]; rfl
   ·rw [if_neg h,if_neg h]; rfl
  by_cases k1:k=1
  ·have hr:=zi3 r
   subst k1
   rw [if_pos (by decide),zug r (by omega)]
   simp only [bs,zmh]
   exact fin _ _ _ (by simp) (by omega) (by unfold zas; rw [if_pos rfl])
  have c1:(k==1)=false:=by simpa using k1
  rw [c1]
  simp only [Bool.false_eq_true,if_false]
  by_cases k2:k=2
  ·subst k2
   rw [if_pos (by decide)]
   by_cases h8:r.length<8
   ·rw [if_pos (by simp; omega)]
    have:zas 2 r=zs0:=by unfold zas; rw [if_neg (by decide),if_pos rfl,if_pos h8]
    rw [this]; rfl
   ·rw [if_neg (by simp; omega)]
    have hc8:cut r 0 8=some (r.take 8):=by
     have:=z96 (b:=r) (i:=0) (j:=8) (by omega) (by omega)
     rw [show ((0:Nat):Int)=0 from rfl, show ((8:Nat):Int)=8 from rfl] at this
     rw [this]; simp
    rw [hc8]
    simp only [bs]
    rw [z10s 2 (r.take 8) (by rw [List.length_take]; omega)]
    simp only [bs,zmh]
    exact fin ⟨2,0,UInt64.ofNat (z62 (r.take 8)),[]⟩ 8 0 (by simp) (by omega) (by unfold zas; rw [if_neg (by decide),if_pos rfl,if_neg h8])
  have c2:(k==2)=false:=by simpa using k2
  rw [c2]
  simp only [Bool.false_eq_true,if_false]
  by_cases k3:k=3
  ·have hr:=znx r
   subst k3
   rw [if_pos (by decide),zbf r (by omega) 30 (by decide)]
   simp only [bs,zmh]
   exact fin _ _ _ (by show (z2l r 30 1).1.length≤_; omega) (by omega) (by unfold zas; rw [if_neg (by decide),if_neg (by decide),if_pos rfl])
  have c3:(k==3)=false:=by simpa using k3
  rw [c3]
  simp only [Bool.false_eq_true,if_false,zmh]
  exact fin ⟨k,0,0,[]⟩ 0 0 (by simp) (by omega) (by unfold zas; rw [if_neg k1,if_neg k2,if_neg k3])
theorem zyr (v:z00) (hI:inI v.Num) (h:okV v=true) (b:List UInt8):zgx (zn0 v++b)=(v,(zn0 v).length,0):=by
 unfold zn0
 have key:∀ (k:UInt8) (x:List UInt8) (w:z00),zas k (x++b)=(w,x.length,0)→okV w=true→zgx ((k::x)++b)=(w,(k::x).length,0):=by
  intro k x w h1 h2
  show (if (zas k (x++b)).2.2=0∧okV (zas k (x++b)).1=true then ((zas k (x++b)).1,(zas k (x++b)).2.1+1,0) else zs0)=_
  rw [h1,if_pos ⟨rfl,h2⟩]; rfl
 have rd:∀ (n:Nat) (c:List UInt8),n<18446744073709551616→z0l (z0a n++c)=(n,(z0a n).length,0):=fun n c hn=>z99 ((z2w _ _ _).2 ⟨hn,rfl,List.take_left⟩)
 rcases zde h with k | k | k
 ·rw [if_pos k,k]
  refine key 1 _ v ?_ h
  have hz:=zoq hI
  unfold zas
  have hr:=rd (zig v.Num) b hz
  rw [if_pos rfl,zh2 (by rw [hr]),hr,zt6]
  obtain ⟨e1,e2⟩:=okV1 h k
  congr 1
  exact zob k.symm rfl e1.symm e2.symm
 ·rw [if_neg (by rw [k]; decide),if_pos k,k]
  refine key 2 _ v ?_ h
  unfold zas
  rw [if_neg (by decide),if_pos rfl,if_neg (by rw [List.length_append,zqq]; omega)]
  have e:(be8 v.Bits++b).take 8=be8 v.Bits:=List.take_left' (zqq _)
  rw [e,zxe]
  obtain ⟨e1,e2,-⟩:=okV2 h k
  rw [show UInt64.ofNat v.Bits.toNat=v.Bits by simp]
  congr 1
  exact zob k.symm e1.symm rfl e2.symm
 ·rw [if_neg (by rw [k]; decide),if_neg (by rw [k]; decide),k]
  refine key 3 _ v ?_ h
  obtain ⟨e1,e2,e3,-⟩:=okV3 h k
  unfold zas
  have hr:=rd v.Text.length (v.Text++b) (by omega)
  rw [if_neg (by decide),if_neg (by decide),if_pos rfl,List.append_assoc]
  rw [z9d (by decide) (by rw [hr]; simp only [List.length_append,Nat.div_one]; omega),hr]
  simp only [List.drop_left,Nat.one_mul,List.take_left,List.length_append]
  congr 1
  exact zob k.symm e1.symm e2.symm rfl
theorem ztb (b:List UInt8) (h:(zgx b).2.2=0):inI (zgx b).1.Num∧okV (zgx b).1=true∧1≤(zgx b).2.1∧(zgx b).2.1≤b.length∧zn0 (zgx b).1=b.take (zgx b).2.1∧(zgx b).1.Text.length≤30:=by
 match b,h with
 | [],h=>simp [zgx,zs0] at h
 | k::r,h =>
  unfold zgx at h ⊢
  by_cases hc:(zas k r).2.2=0∧okV (zas k r).1=true
  ·simp only [if_pos hc]
   obtain ⟨c1,c2⟩:=hc
   have ht:(zas k r).1.Text.length≤30:=by
    rcases zde c2 with q | q | q
    ·rw [(okV1 c2 q).2]; simp
    ·rw [(okV2 c2 q).2.1]; simp
    ·exact (okV3 c2 q).2.2.1
   suffices hs:inI (zas k r).1.Num∧(zas k r).2.1≤r.length∧zn0 (zas k r).1=k::r.take (zas k r).2.1 by
    refine ⟨hs.1,c2, by omega, by simp only [List.length_cons]; omega,?_,ht⟩
    rw [hs.2.2,List.take_succ_cons]
   by_cases k1:k=1
   ·subst k1
    have hw:zas 1 r=(⟨1,(zcv r).1,0,[]⟩,(zcv r).2.1,(zcv r).2.2):=by unfold zas; rw [if_pos rfl]
    rw [hw] at c1 ⊢
    have hr:=zi3 r
    have e0:(z0l r).2.2=0:=by
     by_cases h1:(z0l r).2.2=0
     ·exact h1
     ·rw [zko h1] at c1; exact c1
    rw [zh2 e0] at hr ⊢
    rcases z9g r with ⟨h1,h2⟩ | ⟨n,u,h1,h2⟩
    ·rw [h2] at e0; cases e0
    ·obtain ⟨a1,a2,a3⟩:=(z2w r n u).1 h1
     have:=zae h1
     rw [h2]
     refine ⟨zi1 a1,this.2.2.2,?_⟩
     unfold zn0
     rw [if_pos rfl]
     simp only [zru]
     rw [a3]
   by_cases k2:k=2
   ·subst k2
    have hw:zas 2 r=if r.length<8 then zs0 else (⟨2,0,UInt64.ofNat (z62 (r.take 8)),[]⟩,8,0):=by unfold zas; rw [if_neg (by decide),if_pos rfl]
    rw [hw] at c1 ⊢
    by_cases h8:r.length<8
    ·rw [if_pos h8] at c1; cases c1
    ·rw [if_neg h8]
     refine ⟨zr1, by show 8≤r.length; omega,?_⟩
     show (2:UInt8)::be8 (UInt64.ofNat (z62 (r.take 8)))=2::r.take 8
     rw [z10l _ (by rw [List.length_take]; omega)]
   by_cases k3:k=3
   ·subst k3
    have hw:zas 3 r=(⟨3,0,0,(z2l r 30 1).1⟩,(z2l r 30 1).2.1,(z2l r 30 1).2.2):=by unfold zas; rw [if_neg (by decide),if_neg (by decide),if_pos rfl]
    rw [hw] at c1 ⊢
    by_cases hb:(z0l r).2.2≠0∨(30:Int)<((z0l r).1:Int)∨(r.length - (z0l r).2.1) / 1<(z0l r).1
    ·rw [zf7 (by decide) hb] at c1; cases c1
    ·have hf:=zeu (b:=r) (k:=1) (by omega)
     rw [z9d (by decide) hb]
     have e0:(z0l r).2.2=0:=by omega
     rcases z9g r with ⟨h1,h2⟩ | ⟨n,u,h1,h2⟩
     ·rw [h2] at e0; cases e0
     ·obtain ⟨a1,a2,a3⟩:=(z2w r n u).1 h1
      have:=zae h1
      rw [h2] at hf ⊢
      simp only [Nat.one_mul] at hf ⊢
      refine ⟨zr1, by omega,?_⟩
      show (3:UInt8)::(z0a ((r.drop u).take n).length++(r.drop u).take n)=_
      have hl:((r.drop u).take n).length=n:=by rw [List.length_take,List.length_drop]; omega
      simp only [hl]
      rw [← a3,List.take_add]
   ·exfalso
    have hw:zas k r=(⟨k,0,0,[]⟩,0,0):=by unfold zas; rw [if_neg k1,if_neg k2,if_neg k3]
    rw [hw] at c2
    rcases zde c2 with q | q | q
    ·exact k1 q
    ·exact k2 q
    ·exact k3 q
  ·simp only [if_neg hc,zs0] at h
   cases h
end
section
open Go
def rp1:List UInt8→Option (UInt8 × List UInt8)
 | []=>none
 | x::r=>some (x,r)
def rpN (lim:Nat) (b:List UInt8):Option (Nat × List UInt8):=if (z0l b).2.2=0∧(z0l b).1≤lim then some ((z0l b).1,b.drop (z0l b).2.1) else none
def rpI (b:List UInt8):Option (List ID × List UInt8):=if (zb5 b 4).2.2=0 then some ((zb5 b 4).1,b.drop (zb5 b 4).2.1) else none
def rpB (lim:Int) (b:List UInt8):Option (List UInt8 × List UInt8):=if (z2l b lim 1).2.2=0 then some ((z2l b lim 1).1,b.drop (z2l b lim 1).2.1) else none
def rpV (b:List UInt8):Option (z00 × List UInt8):=if (zgx b).2.2=0 then some ((zgx b).1,b.drop (zgx b).2.1) else none
def rpA (b:List UInt8):Option (z07 × List UInt8):=rp1 b >>= fun x=>if x.1=1 then some (⟨x.1,[],v0⟩,x.2) else rpB 20 x.2 >>= fun y=>if x.1=4 then rpV y.2 >>= fun z=>some (⟨x.1,y.1,z.1⟩,z.2) else some (⟨x.1,y.1,v0⟩,y.2)
def rpO (la ls le:Nat) (b:List UInt8):Option z01 :=
 rp1 b >>= fun x=>if x.1=111 then rpN la x.2 >>= fun a=>rpI a.2 >>= fun ps=>rpN ls ps.2 >>= fun st=>rpA st.2 >>= fun act=>rpN le act.2 >>= fun e=>rpN le e.2 >>= fun s =>
  if s.2=[] then some ⟨UInt32.ofNat a.1,ps.1,UInt64.ofNat st.1,act.1,⟨UInt32.ofNat e.1,UInt32.ofNat s.1⟩⟩ else none
 else none
theorem zt7 {b r:List UInt8} {x:UInt8} (h:rp1 b=some (x,r)):b=x::r:=by
 cases b with
 | nil=>cases h
 | cons y l=>unfold rp1 at h; injection h with h; injection h with h1 h2; rw [h1,h2]
theorem zhr {b:List UInt8} (h:(z0l b).2.2=0):b=z0a (z0l b).1++b.drop (z0l b).2.1∧(z0l b).1<18446744073709551616∧(z0l b).2.1≤b.length:=by
 rcases z9g b with ⟨h1,h2⟩ | ⟨n,u,h1,h2⟩
 ·rw [h2] at h; cases h
 ·obtain ⟨a1,a2,a3⟩:=(z2w b n u).1 h1
  have h4:=(zae h1).2.2.2
  rw [h2]
  refine ⟨?_,a1,h4⟩
  show b=z0a n++b.drop u
  rw [← a3,List.take_append_drop]
theorem zfv {lim:Nat} {b r:List UInt8} {n:Nat} (h:rpN lim b=some (n,r)):b=z0a n++r∧n≤lim∧n<18446744073709551616∧r.length≤b.length:=by
 unfold rpN at h
 split at h
 ·rename_i hc
  injection h with h; injection h with h1 h2
  have hs:=zhr hc.1
  rw [h1,h2] at hs
  exact ⟨hs.1, by rw [← h1]; exact hc.2,hs.2.1, by rw [← h2,List.length_drop]; omega⟩
 ·cases h
theorem zd9 {b:List UInt8} {most:Int} (h:(z2l b most 1).2.2=0):b=(z0a (z2l b most 1).1.length++(z2l b most 1).1)++b.drop (z2l b most 1).2.1∧((z2l b most 1).1.length:Int)≤most∧(z2l b most 1).2.1≤b.length:=by
 have hu:=zbq b
 by_cases h1:most<0
 ·rw [zii h1] at h; cases h
 by_cases h2:(z0l b).2.2≠0∨most<((z0l b).1:Int)∨(b.length - (z0l b).2.1) / 1<(z0l b).1
 ·rw [zf7 h1 h2] at h; cases h
 ·have hf:=zeu (b:=b) (k:=1) (by omega)
  rw [z9d h1 h2]
  have e0:(z0l b).2.2=0:=by omega
  rcases z9g b with ⟨h3,h4⟩ | ⟨n,u,h3,h4⟩
  ·rw [h4] at e0; cases e0
  ·obtain ⟨a1,a2,a3⟩:=(z2w b n u).1 h3
   rw [h4] at hf h2 ⊢
   simp only [Nat.one_mul] at hf ⊢
   have hl:((b.drop u).take n).length=n:=by rw [List.length_take,List.length_drop]; omega
   simp only at h2
   refine ⟨?_, by rw [hl]; omega, by have:=zae h3; omega⟩
   rw [hl,← a3,← List.take_add,List.take_append_drop]
theorem zxm {lim:Int} {b r s:List UInt8} (h:rpB lim b=some (s,r)):b=(z0a s.length++s)++r∧(s.length:Int)≤lim∧r.length≤b.length:=by
 unfold rpB at h
 split at h
 ·rename_i hc
  injection h with h; injection h with h1 h2
  have hs:=zd9 hc
  rw [h1,h2] at hs
  exact ⟨hs.1,hs.2.1, by rw [← h2,List.length_drop]; omega⟩
 ·cases h
theorem zp6 {b:List UInt8} (h:(zb5 b 4).2.2=0):b=(z0a (zb5 b 4).1.length++zci (zb5 b 4).1)++b.drop (zb5 b 4).2.1∧(zb5 b 4).1.length≤4∧zcs (zb5 b 4).1=true∧(zb5 b 4).2.1≤b.length:=by
 unfold zb5 at h ⊢
 by_cases h0:(z2l b 4 32).2.2=0
 ·obtain ⟨l1,l2,l3,l4,l5,l6⟩:=zjo h0
  have hn:(z2l b 4 32).1.length / 32=(z0l b).1:=by omega
  rw [if_neg (by simp [h0])] at h ⊢
  by_cases hi:zcs (zcq (z2l b 4 32).1 ((z2l b 4 32).1.length / 32))=true
  ·rw [if_pos hi] at h ⊢
   have hs:=zhr l3
   simp only
   rw [hn] at hi ⊢
   rw [zap,l2]
   refine ⟨?_, by omega,hi,l6⟩
   have ht:(z2l b 4 32).1.take (32 * (z0l b).1)=(b.drop (z0l b).2.1).take (32 * (z0l b).1):=by rw [l4,List.take_take,Nat.min_self]
   rw [zns _ _ (by omega),ht,← List.drop_drop,List.append_assoc,List.take_append_drop]
   exact hs.1
  ·rw [if_neg hi] at h; cases h
 ·rw [if_pos h0] at h; exact absurd h h0
theorem zxd {b r:List UInt8} {l:List ID} (h:rpI b=some (l,r)):b=(z0a l.length++zci l)++r∧l.length≤4∧zcs l=true∧r.length≤b.length:=by
 unfold rpI at h
 split at h
 ·rename_i hc
  injection h with h; injection h with h1 h2
  have hs:=zp6 hc
  rw [h1,h2] at hs
  exact ⟨hs.1,hs.2.1,hs.2.2.1, by rw [← h2,List.length_drop]; omega⟩
 ·cases h
theorem zxg {b r:List UInt8} {v:z00} (h:rpV b=some (v,r)):b=zn0 v++r∧okV v=true∧inI v.Num∧v.Text.length≤30∧r.length≤b.length:=by
 unfold rpV at h
 split at h
 ·rename_i hc
  injection h with h; injection h with h1 h2
  obtain ⟨e1,e2,e3,e4,e5,e6⟩:=ztb b hc
  rw [h1] at e1 e2 e5 e6
  refine ⟨?_,e2,e1,e6, by rw [← h2,List.length_drop]; omega⟩
  rw [e5,← h2,List.take_append_drop]
 ·cases h
def zwh (a:z07):List UInt8:=a.Kind::(if a.Kind=1 then [] else if a.Kind=4 then zpl a++zn0 a.Value else zpl a)
theorem zyd {b r:List UInt8} {a:z07} (h:rpA b=some (a,r)):b=zwh a++r∧inI a.Value.Num∧a.Value.Text.length≤30∧a.Key.length≤20∧r.length≤b.length:=by
 unfold rpA at h
 have z:inI v0.Num∧v0.Text.length≤30:=⟨⟨by decide, by decide⟩, by decide⟩
 cases h1:rp1 b with
 | none=>rw [h1] at h; cases h
 | some x =>
  obtain ⟨k,b1⟩:=x
  have e1:=zt7 h1
  rw [h1] at h
  simp only [bs] at h
  by_cases k1:k=1
  ·rw [if_pos k1] at h
   injection h with h; injection h with h2 h3
   subst h2 h3
   refine ⟨?_,z.1,z.2, by simp, by rw [e1]; simp⟩
   rw [e1]; unfold zwh; simp [k1]
  ·rw [if_neg k1] at h
   cases h2:rpB 20 b1 with
   | none=>rw [h2] at h; cases h
   | some y =>
    obtain ⟨key,b2⟩:=y
    have e2:=zxm h2
    rw [h2] at h
    simp only [bs] at h
    by_cases k4:k=4
    ·rw [if_pos k4] at h
     cases h3:rpV b2 with
     | none=>rw [h3] at h; cases h
     | some w =>
      obtain ⟨v,b3⟩:=w
      have e3:=zxg h3
      rw [h3] at h
      simp only [bs] at h
      injection h with h; injection h with h4 h5
      subst h4 h5
      refine ⟨?_,e3.2.2.1,e3.2.2.2.1, by show key.length≤20; omega, by rw [e1]; simp only [List.length_cons]; omega⟩
      rw [e1,e2.1,e3.1]; unfold zwh zpl
      simp only [if_neg k1,if_pos k4,List.cons_append,List.append_assoc]
    ·rw [if_neg k4] at h
     injection h with h; injection h with h4 h5
     subst h4 h5
     refine ⟨?_,z.1,z.2, by show key.length≤20; omega, by rw [e1]; simp only [List.length_cons]; omega⟩
     rw [e1,e2.1]; unfold zwh zpl
     simp only [if_neg k1,if_neg k4,List.cons_append,List.append_assoc]
theorem zlr (o:z01):z7p o=111::(z0a o.Author.toNat++((z0a o.Preds.length++zci o.Preds)++(z0a o.Stamp.toNat++(zwh o.Act++(z0a o.Sig.E.toNat++z0a o.Sig.S.toNat))))):=by
 unfold z7p msg head zwh
 by_cases k1:o.Act.Kind=1
 ·simp only [if_pos k1,List.append_assoc,List.cons_append,List.nil_append]
 ·by_cases k4:o.Act.Kind=4
  ·simp only [if_neg k1,if_pos k4,List.append_assoc,List.cons_append,List.nil_append]
  ·simp only [if_neg k1,if_neg k4,List.append_assoc,List.cons_append,List.nil_append]
theorem zto {n:Nat} (h:n≤4294967295):(UInt32.ofNat n).toNat=n:=by simp; omega
theorem zy6 {n:Nat} (h:n<18446744073709551616):(UInt64.ofNat n).toNat=n:=by simp; omega
theorem zr6 {la ls le:Nat} (hla:la≤4294967295) (hle:le≤4294967295) {b:List UInt8} {o:z01} (h:rpO la ls le b=some o):z7p o=b∧inI o.Act.Value.Num∧o.Act.Value.Text.length≤30∧o.Preds.length≤4:=by
 unfold rpO at h
 cases h1:rp1 b with
 | none=>rw [h1] at h; cases h
 | some x =>
  rw [h1] at h
  simp only [bs] at h
  by_cases kc:x.1=111
  ·rw [if_pos kc] at h
   cases h2:rpN la x.2 with
   | none=>rw [h2] at h; cases h
   | some a =>
    rw [h2] at h; simp only [bs] at h
    cases h3:rpI a.2 with
    | none=>rw [h3] at h; cases h
    | some ps =>
     rw [h3] at h; simp only [bs] at h
     cases h4:rpN ls ps.2 with
     | none=>rw [h4] at h; cases h
     | some st =>
      rw [h4] at h; simp only [bs] at h
      cases h5:rpA st.2 with
      | none=>rw [h5] at h; cases h
      | some act =>
       rw [h5] at h; simp only [bs] at h
       cases h6:rpN le act.2 with
       | none=>rw [h6] at h; cases h
       | some e =>
        rw [h6] at h; simp only [bs] at h
        cases h7:rpN le e.2 with
        | none=>rw [h7] at h; cases h
        | some s =>
         rw [h7] at h; simp only [bs] at h
         by_cases hz:s.2=[]
         ·rw [if_pos hz] at h
          injection h with h
          subst h
          have e1:=zt7 h1
          have e2:=zfv h2
          have e3:=zxd h3
          have e4:=zfv h4
          have e5:=zyd h5
          have e6:=zfv h6
          have e7:=zfv h7
          refine ⟨?_,e5.2.1,e5.2.2.1,e3.2.1⟩
          rw [zlr]
          simp only
          rw [zto (by omega),zy6 e4.2.2.1,zto (by omega),zto (by omega),e1,kc,e2.1,e3.1,e4.1,e5.1,e6.1,e7.1,hz,List.append_nil]
         ·rw [if_neg hz] at h; cases h
  ·rw [if_neg kc] at h; cases h
theorem zgb {lim n:Nat} (h:n<18446744073709551616) (hl:n≤lim) (r:List UInt8):rpN lim (z0a n++r)=some (n,r):=by
 have hr:z0l (z0a n++r)=(n,(z0a n).length,0):=z99 ((z2w _ _ _).2 ⟨h,rfl,List.take_left⟩)
 unfold rpN
 rw [hr,if_pos ⟨rfl,hl⟩]
 simp only [List.drop_left]
theorem zsm {lim:Int} {s:List UInt8} (h:s.length≤100000) (hl:(s.length:Int)≤lim) (r:List UInt8):z2l ((z0a s.length++s)++r) lim 1=(s,(z0a s.length).length+s.length,0):=by
 have hr:z0l ((z0a s.length++s)++r)=(s.length,(z0a s.length).length,0):=z99 ((z2w _ _ _).2 ⟨by omega,rfl, by rw [List.append_assoc]; exact List.take_left⟩)
 rw [z9d (by omega) (by rw [hr]; simp only [List.length_append,Nat.div_one]; omega),hr]
 simp only [Nat.one_mul]
 rw [List.append_assoc,List.drop_left,List.take_left]
theorem zx4 {lim:Int} {s:List UInt8} (h:s.length≤100000) (hl:(s.length:Int)≤lim) (r:List UInt8):rpB lim ((z0a s.length++s)++r)=some (s,r):=by
 unfold rpB
 rw [zsm h hl r,if_pos rfl]
 simp only
 rw [← List.length_append,List.drop_left]
theorem zpa:∀ {l m:List ID},l.length=m.length→zci l=zci m→l=m
 | [],[],_,_=>rfl
 | x::l,y::m,hl,h=>by
  unfold zci at h
  simp only [List.flatMap_cons] at h
  have e:=List.append_inj h (by simp)
  rw [Vector.toList_inj.1 e.1,zpa (by simpa using hl) e.2]
theorem z11s {l:List ID} (h:l.length≤4) (hi:zcs l=true) (r:List UInt8):rpI ((z0a l.length++zci l)++r)=some (l,r):=by
 have hr:z0l ((z0a l.length++zci l)++r)=(l.length,(z0a l.length).length,0):=z99 ((z2w _ _ _).2 ⟨by omega,rfl, by rw [List.append_assoc]; exact List.take_left⟩)
 have hl:=zdc l
 have hp:z2l ((z0a l.length++zci l)++r) 4 32=(zci l,(z0a l.length).length+32 * l.length,0):=by
  rw [z9d (by omega) (by rw [hr]; simp only [List.length_append]; omega),hr]
  simp only
  rw [List.append_assoc,List.drop_left,← hl,List.take_left]
 have he:zcq (zci l) l.length=l:=zpa (zap _ _) (by rw [zns _ _ (by omega),← hl,List.take_length])
 have hn:(zci l).length / 32=l.length:=by omega
 have hq:zb5 ((z0a l.length++zci l)++r) 4=(l,(z0a l.length).length+32 * l.length,0):=by
  unfold zb5
  rw [hp]
  simp only [ne_eq,not_true,if_false,hn,he,hi,if_true]
 unfold rpI
 rw [hq,if_pos rfl]
 simp only
 rw [← hl,← List.length_append,List.drop_left]
theorem z10c {v:z00} (hI:inI v.Num) (h:okV v=true) (r:List UInt8):rpV (zn0 v++r)=some (v,r):=by
 unfold rpV
 rw [zyr v hI h r,if_pos rfl]
 simp only [List.drop_left]
theorem z103 {a:z07} (h:zfx a=true) (hI:inI a.Value.Num) (r:List UInt8):rpA (zwh a++r)=some (a,r):=by
 obtain ⟨k,key,v⟩:=a
 have hk:=z9b h
 unfold zfx at h
 unfold rpA zwh
 simp only at h hI hk ⊢
 simp only [List.cons_append,rp1,bs]
 by_cases k1:k=1
 ·rw [if_pos k1] at h
  simp only [Bool.and_eq_true,decide_eq_true_eq] at h
  rw [if_pos k1,if_pos k1,h.1,h.2]; rfl
 ·rw [if_neg k1] at h
  have hkey:key.length≤20:=by
   rcases hk with ⟨a,_⟩ | ⟨_,a⟩ | ⟨_,a,_⟩
   ·exact absurd a k1
   ·exact a
   ·exact a
  rw [if_neg k1,if_neg k1]
  by_cases k4:k=4
  ·have hv:okV v=true:=by
    rw [if_neg (by rw [k4]; decide),if_pos k4] at h
    simp only [Bool.and_eq_true] at h; exact h.2
   simp only [if_pos k4]
   unfold zpl
   rw [List.append_assoc (z0a _++_),zx4 (by show key.length≤_; omega) (by show (key.length:Int)≤20; omega)]
   simp only [bs]
   rw [z10c hI hv]
   simp only [bs]
  ·have hv:v=v0:=by
    by_cases k23:k=2∨k=3
    ·rw [if_pos k23] at h
     simp only [Bool.and_eq_true,decide_eq_true_eq] at h; exact h.2
    ·rw [if_neg k23,if_neg k4] at h; cases h
   simp only [if_neg k4]
   unfold zpl
   rw [zx4 (by show key.length≤_; omega) (by show (key.length:Int)≤20; omega)]
   simp only [bs,hv]
theorem z10b {la ls le:Nat} (hla:1000000007≤la) (hls:1000000000000≤ls) (hle:500000003≤le) {o:z01} (h:z18 o=0) (hI:inI o.Act.Value.Num):rpO la ls le (z7p o)=some o:=by
 obtain ⟨h1,h2,h3⟩:=z4g h
 have ha:=zdg h3
 have hg:=zrc h3
 unfold z9s zfs at h3
 simp only [Bool.and_eq_true,decide_eq_true_eq,Bool.not_eq_true',decide_eq_false_iff_not] at h3
 have hs:o.Stamp.toNat≤1000000000000:=by
  have:=h3.2.1
  rw [UInt64.lt_iff_toNat_lt] at this
  have e:(1000000000000:UInt64).toNat=1000000000000:=rfl
  omega
 have hA:o.Author.toNat≤1000000007:=by unfold inG gp at hg; omega
 have hE:o.Sig.E.toNat≤500000003:=by have:=h3.2.2.2.1; unfold gq at this; omega
 have hS:o.Sig.S.toNat≤500000003:=by have:=h3.2.2.2.2; unfold gq at this; omega
 rw [zlr]
 unfold rpO
 simp only [rp1,bs,if_true]
 rw [zgb (by omega) (by omega)]
 simp only [bs]
 rw [z11s h1 h2]
 simp only [bs]
 rw [zgb (by omega) (by omega)]
 simp only [bs]
 rw [z103 ha hI]
 simp only [bs]
 rw [zgb (by omega) (by omega)]
 simp only [bs]
 have:=zgb (lim:=le) (n:=o.Sig.S.toNat) (by omega) (by omega) []
 rw [List.append_nil] at this
 rw [this]
 simp only [bs,if_true]
 congr 1
 obtain ⟨A,P,T,C,⟨E,S⟩⟩:=o
 simp
end
section
open Go
def zuc {α β:Type} (p:List UInt8→Option (α × List UInt8)) (q:List UInt8→Option (β × List UInt8)) (b:List UInt8):Option ((α × β) × List UInt8):=p b >>= fun x=>(q x.2).map fun y=>((x.1,y.1),y.2)
def vwS (s:z1e):Option (List UInt8):=if s.bad then none else some s.b
structure RdS {α:Type} (s s':z1e) (p:List UInt8→Option (α × List UInt8)) (v:α):Prop where
 len:s'.b.length≤s.b.length
 ok:∀ x,(vwS s >>= p)=some x→v=x.1∧vwS s'=some x.2
 no:(vwS s >>= p)=none→vwS s'=none
theorem RdS.comp {α β γ:Type} {s s1 s2:z1e} {v:α} {w:β} {p:List UInt8→Option (α × List UInt8)} {q:List UInt8→Option (β × List UInt8)} {pq:List UInt8→Option (γ × List UInt8)} (R1:RdS s s1 p v) (R2:RdS s1 s2 q w) (f:β→γ) (h1:∀ b,p b=none→pq b=none) (h2:∀ b r,p b=some (v,r)→pq b=(q r).map fun y=>(f y.1,y.2)):RdS s s2 pq (f w) where
 len:=Nat.le_trans R2.len R1.len
 ok:=fun x hx=>by
  cases hv:vwS s with
  | none=>rw [hv] at hx; cases hx
  | some b =>
   rw [hv] at hx
   have hx':pq b=some x:=hx
   cases hp:p b with
   | none=>rw [h1 b hp] at hx'; cases hx'
   | some y =>
    obtain ⟨y1,y2⟩:=y
    have r1:=R1.ok (y1,y2) (by rw [hv]; exact hp)
    simp only at r1
    rw [← r1.1] at hp
    rw [h2 b y2 hp] at hx'
    cases hq:q y2 with
    | none=>rw [hq] at hx'; cases hx'
    | some z =>
     rw [hq] at hx'
     have r2:=R2.ok z (by rw [r1.2]; exact hq)
     simp only [Option.map_some,Option.some.injEq] at hx'
     rw [← hx']
     exact ⟨by rw [r2.1],r2.2⟩
 no:=fun hx=>by
  cases hv:vwS s with
  | none=>exact R2.no (by rw [R1.no (by rw [hv]; rfl)]; rfl)
  | some b =>
   rw [hv] at hx
   have hx':pq b=none:=hx
   cases hp:p b with
   | none=>exact R2.no (by rw [R1.no (by rw [hv]; exact hp)]; rfl)
   | some y =>
    obtain ⟨y1,y2⟩:=y
    have r1:=R1.ok (y1,y2) (by rw [hv]; exact hp)
    simp only at r1
    rw [← r1.1] at hp
    rw [h2 b y2 hp] at hx'
    cases hq:q y2 with
    | none=>exact R2.no (by rw [r1.2]; exact hq)
    | some z=>rw [hq] at hx'; cases hx'
theorem RdS.seq {α β:Type} {s s1 s2:z1e} {v:α} {w:β} {p:List UInt8→Option (α × List UInt8)} {q:List UInt8→Option (β × List UInt8)} (R1:RdS s s1 p v) (R2:RdS s1 s2 q w):RdS s s2 (zuc p q) (v,w) :=
 R1.comp R2 (fun y=>(v,y)) (fun b h=>by unfold zuc; rw [h]; rfl) (fun b r h=>by unfold zuc; rw [h]; rfl)
theorem zne (s:z1e) (u e:Nat) (h:e=0→u≤s.b.length):z1u s (u:Int) (e:Int)=some (if e=0 then ⟨s.b.drop u,s.bad⟩ else ⟨s.b,true⟩):=by
 unfold z1u
 by_cases he:e=0
 ·rw [if_neg (by simp [he]),if_pos he,z96 (h he) (Nat.le_refl _),List.take_of_length_le (by simp)]; rfl
 ·rw [if_pos (by simp; omega),if_neg he]
theorem nx {α:Type} (s:z1e) (v:α) (u e:Nat) (p:List UInt8→Option (α × List UInt8)) (hu:e=0→u≤s.b.length) (hp:p s.b=if e=0 then some (v,s.b.drop u) else none):∃ s',z1u s (u:Int) (e:Int)=some s'∧RdS s s' p v:=by
 refine ⟨_,zne s u e hu,?_,?_,?_⟩
 ·by_cases he:e=0
  ·rw [if_pos he]; show (s.b.drop u).length≤_; rw [List.length_drop]; omega
  ·rw [if_neg he]; exact Nat.le_refl _
 ·intro x hx
  cases hb:s.bad with
  | true=>unfold vwS at hx; rw [hb] at hx; cases hx
  | false =>
   unfold vwS at hx; rw [hb] at hx
   have hx':p s.b=some x:=hx
   rw [hp] at hx'
   by_cases he:e=0
   ·rw [if_pos he] at hx' ⊢
    injection hx' with hx'
    rw [← hx']; exact ⟨rfl,rfl⟩
   ·rw [if_neg he] at hx'; cases hx'
 ·intro hx
  by_cases he:e=0
  ·rw [if_pos he]
   cases hb:s.bad with
   | true=>rfl
   | false =>
    unfold vwS at hx; rw [hb] at hx
    have hx':p s.b=none:=hx
    rw [hp,if_pos he] at hx'; cases hx'
  ·rw [if_neg he]; rfl
theorem zp2 (s:z1e):∃ v s',z7d s=some (v,s')∧RdS s s' rp1 v:=by
 obtain ⟨b,bad⟩:=s
 cases bad with
 | true=>exact ⟨0,⟨b,true⟩,rfl,Nat.le_refl _, fun x hx=>(by cases hx), fun _=>rfl⟩
 | false =>
  cases b with
  | nil=>exact ⟨0,⟨[],true⟩,rfl,Nat.le_refl _, fun x hx=>(by cases hx), fun _=>rfl⟩
  | cons x r =>
   refine ⟨x,⟨r,false⟩,?_, by simp, fun y hy=>?_, fun h=>by cases h⟩
   ·unfold z7d
    have hn:z1u ⟨x::r,false⟩ 1 0=some ⟨r,false⟩:=zne ⟨x::r,false⟩ 1 0 (fun _=>by simp)
    have i0:idx (x::r) 0=some x:=z0x (l:=x::r) (i:=0) (by simp)
    simp only [Bool.false_eq_true,if_false,bs]
    rw [if_neg (by simp; omega),i0]
    simp only [bs]
    rw [hn]; rfl
   ·have hy':some (x,r)=some y:=hy
    injection hy' with hy'
    rw [← hy']; exact ⟨rfl,rfl⟩
theorem zh0 (s:z1e) (lim:UInt64) (L:Nat) (hL:lim.toNat=L) (hb:s.b.length≤10000):∃ (v:UInt64) (s':z1e),z40 s lim=some (v,s')∧RdS s s' (rpN L) v.toNat:=by
 have hl:=zdf s.b
 have hu:=zbq s.b
 have en:(UInt64.ofNat (z0l s.b).1).toNat=(z0l s.b).1:=by simp; omega
 unfold z40
 rw [zh9 s.b (by omega)]
 simp only [bs]
 rw [zne s _ _ (fun _=>hu)]
 simp only [bs]
 obtain ⟨b,bad⟩:=s
 simp only at hl hu en hb ⊢
 by_cases he:(z0l b).2.2=0
 ·rw [if_pos he]
  cases bad with
  | true=>exact ⟨_,_,rfl, by show (b.drop _).length≤_; rw [List.length_drop]; exact Nat.sub_le _ _, fun x hx=>(by cases hx), fun _=>rfl⟩
  | false =>
   by_cases hlim:(z0l b).1≤L
   ·have hd:decide (lim<UInt64.ofNat (z0l b).1)=false:=by rw [decide_eq_false_iff_not,UInt64.lt_iff_toNat_lt,en]; omega
    refine ⟨UInt64.ofNat (z0l b).1,⟨b.drop (z0l b).2.1,false⟩, by simp [hd], by show (b.drop _).length≤_; rw [List.length_drop]; exact Nat.sub_le _ _, fun x hx=>?_, fun hx=>?_⟩
    ·have hx':rpN L b=some x:=hx
     unfold rpN at hx'
     rw [if_pos ⟨he,hlim⟩] at hx'
     injection hx' with hx'
     rw [← hx']; exact ⟨en,rfl⟩
    ·have hx':rpN L b=none:=hx
     unfold rpN at hx'
     rw [if_pos ⟨he,hlim⟩] at hx'; cases hx'
   ·have hd:decide (lim<UInt64.ofNat (z0l b).1)=true:=by rw [decide_eq_true_eq,UInt64.lt_iff_toNat_lt,en]; omega
    refine ⟨UInt64.ofNat (z0l b).1,⟨b.drop (z0l b).2.1,true⟩, by simp [hd], by show (b.drop _).length≤_; rw [List.length_drop]; exact Nat.sub_le _ _, fun x hx=>?_, fun _=>rfl⟩
    have hx':rpN L b=some x:=hx
    unfold rpN at hx'
    rw [if_neg (fun h=>hlim h.2)] at hx'; cases hx'
 ·rw [if_neg he]
  refine ⟨UInt64.ofNat (z0l b).1,⟨b,true⟩,rfl,Nat.le_refl _, fun x hx=>?_, fun _=>rfl⟩
  cases bad with
  | true=>cases hx
  | false =>
   have hx':rpN L b=some x:=hx
   unfold rpN at hx'
   rw [if_neg (fun h=>he h.1)] at hx'; cases hx'
theorem zvk (s:z1e) (hb:s.b.length≤10000):∃ s',z1u s ((zb5 s.b 4).2.1:Int) ((zb5 s.b 4).2.2:Int)=some s'∧RdS s s' rpI (zb5 s.b 4).1 :=
 nx s _ _ _ rpI (fun h=>(zp6 h).2.2.2) (by unfold rpI; rfl)
theorem zv4 (s:z1e) (lim:Int) (hb:s.b.length≤10000):∃ s',z1u s ((z2l s.b lim 1).2.1:Int) ((z2l s.b lim 1).2.2:Int)=some s'∧RdS s s' (rpB lim) (z2l s.b lim 1).1 :=
 nx s _ _ _ (rpB lim) (fun h=>(zd9 h).2.2) (by unfold rpB; rfl)
theorem zue (s:z1e) (hb:s.b.length≤10000):∃ s',z1u s ((zgx s.b).2.1:Int) ((zgx s.b).2.2:Int)=some s'∧RdS s s' rpV (zgx s.b).1 :=
 nx s _ _ _ rpV (fun h=>(ztb _ h).2.2.2.1) (by unfold rpV; rfl)
theorem zuo {β:Type} (s:z1e) (hb:s.b.length≤10000):∃ (a:z07) (s':z1e),RdS s s' rpA a∧∀ K:z1e × z07→Option β,
  (z7d s >>= fun r17 =>
  (if (({ (⟨0,[],(⟨0,0,0,[]⟩:z00)⟩:z07) with Kind:=r17.1 }).Kind) != 1 then
   z5h r17.2.b 20 >>= fun r21 =>
   z1u r17.2 r21.2.1 r21.2.2 >>= fun r23 =>
   some (r23,{ { (⟨0,[],(⟨0,0,0,[]⟩:z00)⟩:z07) with Kind:=r17.1 } with Key:=r21.1 })
  else
   some (r17.2,{ (⟨0,[],(⟨0,0,0,[]⟩:z00)⟩:z07) with Kind:=r17.1 })) >>= fun s19 =>
  (if s19.2.Kind==4 then
   z9r s19.1.b >>= fun r27 =>
   z1u s19.1 r27.2.1 r27.2.2 >>= fun r30 =>
   some (r30,{ s19.2 with Value:=r27.1 })
  else
   some (s19.1,s19.2)) >>= fun s25=>K s25)=K (s',a):=by
 obtain ⟨k,s1,e1,R1⟩:=zp2 s
 have l1:=R1.len
 by_cases k1:k=1
 ·refine ⟨⟨1,[],v0⟩,s1,?_, fun K=>?_⟩
  ·have R0:RdS s1 s1 (fun b=>some ((),b)) ():=⟨Nat.le_refl _, fun x hx=>⟨rfl, by
    cases hv:vwS s1 with
    | none=>rw [hv] at hx; cases hx
    | some b=>rw [hv] at hx; have hx':some ((),b)=some x:=hx; injection hx' with hx'; rw [← hx']⟩, fun hx=>by
    cases hv:vwS s1 with
    | none=>rfl
    | some b=>rw [hv] at hx; cases hx⟩
   exact R1.comp R0 (pq:=rpA) (fun _=>⟨1,[],v0⟩) (fun b h=>by unfold rpA; rw [h]; rfl) (fun b r h=>by unfold rpA; rw [h,k1]; rfl)
  ·rw [e1,k1]; rfl
 ·obtain ⟨s2,e2,R2⟩:=zv4 s1 20 (by omega)
  have l2:=R2.len
  have c1:(k != 1)=true:=by simpa using k1
  by_cases k4:k=4
  ·obtain ⟨s3,e3,R3⟩:=zue s2 (by omega)
   refine ⟨⟨4,(z2l s1.b 20 1).1,(zgx s2.b).1⟩,s3,?_, fun K=>?_⟩
   ·have R23:RdS s1 s3 (fun b=>rpB 20 b >>= fun y=>(rpV y.2).map fun z=>((⟨4,y.1,z.1⟩:z07),z.2)) ⟨4,(z2l s1.b 20 1).1,(zgx s2.b).1⟩ :=
     R2.comp R3 (fun z=>(⟨4,(z2l s1.b 20 1).1,z⟩:z07)) (fun b h=>by rw [h]; rfl) (fun b r h=>by rw [h]; rfl)
    refine R1.comp R23 (pq:=rpA) id (fun b h=>by unfold rpA; rw [h]; rfl) (fun b r h=>?_)
    unfold rpA; rw [h,k4]
    simp only [bs,id]
    rw [if_neg (by decide)]
    cases rpB 20 r with
    | none=>rfl
    | some y =>
     simp only [bs,if_true]
     cases rpV y.2 <;> rfl
   ·rw [e1]
    simp only [bs,c1,if_true]
    rw [zbf s1.b (by omega) 20 (by decide)]
    simp only [bs]
    rw [e2]
    simp only [bs]
    rw [if_pos (by simpa using k4),z11k s2.b (by omega)]
    simp only [bs]
    rw [e3,k4]
    simp only [bs]
  ·refine ⟨⟨k,(z2l s1.b 20 1).1,v0⟩,s2,?_, fun K=>?_⟩
   ·refine R1.comp R2 (pq:=rpA) (fun key=>(⟨k,key,v0⟩:z07)) (fun b h=>by unfold rpA; rw [h]; rfl) (fun b r h=>?_)
    unfold rpA; rw [h]
    simp only [bs]
    rw [if_neg k1]
    cases rpB 20 r with
    | none=>rfl
    | some y=>simp only [bs,if_neg k4,Option.map_some]
   ·rw [e1]
    simp only [bs,c1,if_true]
    rw [zbf s1.b (by omega) 20 (by decide)]
    simp only [bs]
    rw [e2]
    simp only [bs]
    rw [if_neg (by simpa using k4)]; rfl
def pAll (la ls le:Nat):List UInt8→Option ((UInt8 × Nat × List ID × Nat × z07 × Nat × Nat) × List UInt8):=zuc rp1 (zuc (rpN la) (zuc rpI (zuc (rpN ls) (zuc rpA (zuc (rpN le) (rpN le))))))
theorem zz4 (la ls le:Nat) (b:List UInt8):rpO la ls le b=match pAll la ls le b with
  | some ((c,a,ps,st,act,e,s),r)=>if c=111∧r=[] then some ⟨UInt32.ofNat a,ps,UInt64.ofNat st,act,⟨UInt32.ofNat e,UInt32.ofNat s⟩⟩ else none
  | none=>none:=by
 unfold rpO pAll
 simp only [zuc]
 cases rp1 b with
 | none=>rfl
 | some x =>
  simp only [bs]
  by_cases kc:x.1=111
  ·rw [if_pos kc]
   cases rpN la x.2 with
   | none=>rfl
   | some a =>
    simp only [bs]
    cases rpI a.2 with
    | none=>rfl
    | some ps =>
     simp only [bs]
     cases rpN ls ps.2 with
     | none=>rfl
     | some st =>
      simp only [bs]
      cases rpA st.2 with
      | none=>rfl
      | some act =>
       simp only [bs]
       cases rpN le act.2 with
       | none=>rfl
       | some e =>
        simp only [bs]
        cases rpN le e.2 with
        | none=>rfl
        | some s =>
         simp only [bs,Option.map_some]
         by_cases hz:s.2=[]
         ·rw [if_pos hz,if_pos ⟨kc,hz⟩]
         ·rw [if_neg hz,if_neg (fun h=>hz h.2)]
  ·rw [if_neg kc]
   cases h:((rpN la x.2 >>= fun x=>((rpI x.2 >>= fun x=>((rpN ls x.2 >>= fun x=>((rpA x.2 >>= fun x=>((rpN le x.2 >>= fun x=>(rpN le x.2).map fun y=>((x.1,y.1),y.2)).map fun y=>((x.1,y.1),y.2)))).map fun y=>((x.1,y.1),y.2))).map fun y=>((x.1,y.1),y.2))).map fun y=>((x.1,y.1),y.2))) with
   | none=>rfl
   | some y =>
    obtain ⟨⟨a,ps,st,act,e,s⟩,r⟩:=y
    simp only [Option.map_some]
    rw [if_neg (fun h=>kc h.1)]
def zwu (b:List UInt8):z01 × Int:=match rpO 1000000007 1000000000000 500000003 b with
 | some o=>if z18 o=0 then (o,0) else (zO,12)
 | none=>(zO,12)
theorem zsr {x:UInt64} {n:Nat} (h:x.toNat=n):x.toUInt32=UInt32.ofNat n:=by
 apply UInt32.toNat_inj.1
 rw [UInt64.toNat_toUInt32,h]; simp
end
section
open Go
theorem zsq:zc6=some (zO,12):=rfl
theorem zx9 {b:List UInt8} {s7:z1e} {c:UInt8} {a:UInt64} {ps:List ID} {st:UInt64} {act:z07} {e s:UInt64} (R:RdS ⟨b,false⟩ s7 (pAll 1000000007 1000000000000 500000003) (c,a.toNat,ps,st.toNat,act,e.toNat,s.toNat)) :
  (c≠111→rpO 1000000007 1000000000000 500000003 b=none) ∧
  (s7.bad=true→rpO 1000000007 1000000000000 500000003 b=none) ∧
  (s7.bad=false→0<s7.b.length→rpO 1000000007 1000000000000 500000003 b=none) ∧
  (c=111→s7.bad=false→¬ 0<s7.b.length→rpO 1000000007 1000000000000 500000003 b=some ⟨a.toUInt32,ps,st,act,⟨e.toUInt32,s.toUInt32⟩⟩):=by
 rw [zz4]
 cases hp:pAll 1000000007 1000000000000 500000003 b with
 | none =>
  have hn:=R.no (show (vwS ⟨b,false⟩ >>= _)=none from hp)
  refine ⟨fun _=>rfl, fun _=>rfl, fun _ _=>rfl, fun _ h=>?_⟩
  unfold vwS at hn; rw [h] at hn; cases hn
 | some x =>
  obtain ⟨⟨c',a',ps',st',act',e',s'⟩,r⟩:=x
  have hk:=R.ok _ (show (vwS ⟨b,false⟩ >>= _)=some _ from hp)
  obtain ⟨h1,h2⟩:=hk
  simp only [Prod.mk.injEq] at h1 h2
  obtain ⟨rfl,h1,rfl,h3,rfl,h5,h6⟩:=h1
  have hbad:s7.bad=false:=by
   cases h:s7.bad with
   | false=>rfl
   | true=>unfold vwS at h2; rw [h] at h2; cases h2
  have hb:s7.b=r:=by unfold vwS at h2; rw [hbad] at h2; injection h2
  refine ⟨fun hc=>?_, fun h=>?_, fun _ h=>?_, fun hc _ h=>?_⟩
  ·simp only; rw [if_neg (fun h=>hc h.1)]
  ·rw [hbad] at h; cases h
  ·simp only; rw [if_neg (fun h'=>by rw [hb,h'.2] at h; simp at h)]
  ·have:r=[]:=by rw [← hb]; exact List.eq_nil_of_length_eq_zero (by omega)
   simp only
   rw [if_pos ⟨hc,this⟩,zsr h1,zsr h5,zsr h6,← h3]
   congr 2
   simp
theorem zhh (b:List UInt8) (hb:b.length≤10000):zc5 b=some (zwu b):=by
 unfold zc5
 obtain ⟨c,s1,e1,R1⟩:=zp2 ⟨b,false⟩
 have l1:s1.b.length≤b.length:=R1.len
 rw [e1]
 simp only [bs]
 obtain ⟨a,s2,e2,R2⟩:=zh0 s1 1000000007 1000000007 rfl (by omega)
 have l2:=R2.len
 obtain ⟨s3,e3,R3⟩:=zvk s2 (by omega)
 have l3:=R3.len
 obtain ⟨st,s4,e4,R4⟩:=zh0 s3 1000000000000 1000000000000 rfl (by omega)
 have l4:=R4.len
 obtain ⟨act,s5,R5,hK⟩:=zuo (β:=z01 × Int) s4 (by omega)
 have l5:=R5.len
 obtain ⟨e,s6,e6,R6⟩:=zh0 s5 500000003 500000003 rfl (by omega)
 have l6:=R6.len
 obtain ⟨s,s7,e7,R7⟩:=zh0 s6 500000003 500000003 rfl (by omega)
 have R:=RdS.seq R1 (RdS.seq R2 (RdS.seq R3 (RdS.seq R4 (RdS.seq R5 (RdS.seq R6 R7)))))
 obtain ⟨q1,q2,q3,q4⟩:=zx9 R
 by_cases hc:c=111
 ·rw [if_neg (by simp [hc]),e2]
  simp only [bs]
  rw [zvv s2.b (by omega) 4 (by decide)]
  simp only [bs]
  rw [e3]
  simp only [bs]
  rw [e4]
  simp only [bs]
  refine Eq.trans (hK _) ?_
  simp only [bs]
  rw [e6]
  simp only [bs]
  rw [e7]
  simp only [bs]
  unfold zwu
  cases hbad:s7.bad with
  | true =>
   rw [q2 hbad]
   simp only [if_true,bs,zsq]
  | false =>
   simp only [Bool.false_eq_true,if_false]
   by_cases hz:0<s7.b.length
   ·rw [if_pos (by simp; omega),q3 hbad hz]
    simp only [if_true,bs,zsq]
   ·have h:=q4 hc hbad hz
    have he:=zr6 (by decide) (by decide) h
    rw [if_neg (by rw [decide_eq_true_eq]; omega),h]
    simp only
    rw [zdl _ (Nat.le_trans he.2.2.1 (by decide))]
    simp only [bs]
    by_cases ho:z18 ⟨a.toUInt32,(zb5 s2.b 4).1,st,act,⟨e.toUInt32,s.toUInt32⟩⟩=0
    ·rw [if_pos ho,if_neg (by simp [ho])]
    ·rw [if_neg ho,if_pos (by simpa using ho)]; rfl
 ·rw [if_pos (by simpa using hc),zsq]
  unfold zwu
  rw [q1 hc]; rfl
def outO (o:Option z01):z01 × Int:=match o with
 | some o=>if z18 o=0 then (o,0) else (zO,12)
 | none=>(zO,12)
theorem zw5 {la ls le:Nat} (h1:1000000007≤la) (h2:1000000000000≤ls) (h3:500000003≤le) (h4:la≤4294967295) (h5:le≤4294967295) (b:List UInt8) :
  (∀ o,z18 o=0→inI o.Act.Value.Num→z7p o=b→outO (rpO la ls le b)=(o,0))∧((∃ o,z18 o=0∧inI o.Act.Value.Num∧o.Act.Value.Text.length≤30∧z7p o=b∧outO (rpO la ls le b)=(o,0))∨outO (rpO la ls le b)=(zO,12)):=by
 refine ⟨fun o ho hI he=>?_,?_⟩
 ·subst he
  rw [z10b h1 h2 h3 ho hI]
  unfold outO; simp only [if_pos ho]
 ·cases h:rpO la ls le b with
  | none=>exact .inr rfl
  | some o =>
   have he:=zr6 h4 h5 h
   unfold outO
   simp only
   by_cases ho:z18 o=0
   ·exact .inl ⟨o,ho,he.2.1,he.2.2.1,he.1, by rw [if_pos ho]⟩
   ·exact .inr (by rw [if_neg ho])
theorem zoi (b:List UInt8):(∀ o,z18 o=0→inI o.Act.Value.Num→z7p o=b→zwu b=(o,0))∧((∃ o,z18 o=0∧inI o.Act.Value.Num∧o.Act.Value.Text.length≤30∧z7p o=b∧zwu b=(o,0))∨zwu b=(zO,12)):=zw5 (by decide) (by decide) (by decide) (by decide) (by decide) b
end
section
open Go
def zew (M:List z01):Prop:=(zef M).2=0∧(zaf M).map (·.o)=M
theorem zid:∀ {l m:List z05},l.Perm m→l.Pairwise (fun x y=>kd x.id<kd y.id)→m.Pairwise (fun x y=>kd x.id<kd y.id)→l=m
 | [],m,hp,_,_=>(List.nil_perm.1 hp).symm
 | x::l,[],hp,_,_=>absurd hp.length_eq (by simp)
 | x::l,y::m,hp,hl,hm=>by
  obtain ⟨hx,hl'⟩:=List.pairwise_cons.1 hl
  obtain ⟨hy,hm'⟩:=List.pairwise_cons.1 hm
  have hxm:x∈y::m:=hp.mem_iff.1 (List.mem_cons_self ..)
  have hyl:y∈x::l:=hp.mem_iff.2 (List.mem_cons_self ..)
  have e:x=y:=by
   rcases List.mem_cons.1 hxm with h | h
   ·exact h
   ·rcases List.mem_cons.1 hyl with h' | h'
    ·exact h'.symm
    ·have h1:=hy x h
     have h2:=hx y h'
     omega
  subst e
  rw [zid (List.perm_cons x |>.1 hp) hl' hm']
theorem zjf {l:List z01} (hn:(l.map oid).Nodup):(zdx l).Pairwise fun x y=>kd x.id<kd y.id:=by
 have h1:=zec l
 have h2:(z8l (zdx l)).Nodup:=(zc9 l).nodup_iff.2 hn
 have h3:(zdx l).Pairwise fun x y=>x.id≠y.id:=List.pairwise_map.1 h2
 exact (h1.and h3).imp fun {a b} h=>by
  have:kd a.id≠kd b.id:=fun e=>h.2 (zsf e)
  have:=h.1
  omega
theorem zv3 {l M:List z01} (hp:M.Perm l) (hn:(l.map oid).Nodup):zdx M=zdx l:=by
 have hm:(M.map oid).Nodup:=(hp.map oid).nodup_iff.2 hn
 exact zid (((z7t M).trans (hp.map nmd)).trans (z7t l).symm) (zjf hm) (zjf hn)
theorem zml {l M:List z01} (hp:M.Perm l) (h0:(zef l).2=0):zef M=(zaf l,0)∧zaf M=zaf l:=by
 obtain ⟨e,hl,hc,hn,hcl⟩:=zal h0
 have hs:=zv3 hp hn
 have hcm:zaf M=zaf l:=by unfold zaf; rw [hs,hp.length_eq]
 refine ⟨?_,hcm⟩
 have f:zkn M=0:=(zak M).2 fun o ho=>hc o (hp.mem_iff.1 ho)
 have hnn:(z8l (zdx M)).Nodup:=by rw [hs]; exact (zc9 l).nodup_iff.2 hn
 unfold zef
 rw [if_neg (by rw [hp.length_eq]; omega),if_neg (by rw [f]; simp),if_neg (by exact fun h=>h hnn)]
 show (if (zaf M).length=M.length then (zaf M,0) else _)=_
 rw [if_pos (by rw [hcm,hcl,hp.length_eq]),hcm]
theorem zp7 {l:List z01} (h0:(zef l).2=0):zew ((zaf l).map (·.o)):=by
 obtain ⟨e,hl,hc,hn,hcl⟩:=zal h0
 have h:=zml (zsc hcl).perm h0
 exact ⟨by rw [h.1], by rw [h.2]⟩
theorem zew.topo {M:List z01} (h:zew M):zpr M:=by
 have:=zi5 M
 rw [h.2] at this; exact this
theorem zew.write {M:List z01} (h:zew M) (hw:wfO M):z2r M=some (zau M,0):=by
 rw [zbh M hw,h.1,if_pos rfl,h.2]
theorem zka {lim:Nat} {b r:List UInt8} {n:Nat} (h:rpN lim b=some (n,r)):n≤lim∧r.length≤b.length:=⟨(zfv h).2.1,(zfv h).2.2.2⟩
def pkN (c:z0e) (o:Option (Nat × List UInt8)):Int × z0e:=match o with
 | some (n,r)=>((n:Int),⟨r,c.bad⟩)
 | none=>(0,⟨c.b,true⟩)
theorem zfc (c:z0e) (n:Nat) (r:List UInt8):pkN c (some (n,r))=((n:Int),⟨r,c.bad⟩):=rfl
theorem zkb (c:z0e):pkN c none=(0,⟨c.b,true⟩):=rfl
theorem zhv (c:z0e) (lim:Nat) (hl:lim≤1000000) (hb:c.b.length≤100000):z3c c (lim:Int)=some (pkN c (rpN lim c.b)):=by
 have h1:=zdf c.b
 have hu:=zbq c.b
 have en:(UInt64.ofNat (z0l c.b).1).toNat=(z0l c.b).1:=by simp; omega
 have el:(UInt64.ofInt (lim:Int)).toNat=lim:=zbi (by omega)
 unfold z3c rpN
 rw [zh9 c.b (by omega)]
 simp only [bs]
 have hd:decide (UInt64.ofInt (lim:Int)<UInt64.ofNat (z0l c.b).1)=decide (lim<(z0l c.b).1):=by rw [decide_eq_decide,UInt64.lt_iff_toNat_lt,en,el]
 rw [hd]
 by_cases he:(z0l c.b).2.2=0
 ·rw [if_neg (by simp [he])]
  simp only [bs]
  by_cases hm:(z0l c.b).1≤lim
  ·rw [decide_eq_false (by omega),if_neg (by simp),if_pos ⟨he,hm⟩,z96 hu (Nat.le_refl _),List.take_of_length_le (Nat.le_of_eq List.length_drop)]
   simp only [bs,en,pkN]
   rw [z0v (by omega) (by omega)]
  ·rw [decide_eq_true (by omega),if_pos rfl,if_neg (fun h=>hm h.2)]; rfl
 ·rw [if_pos (by simp; omega),if_neg (fun h=>he h.1)]; rfl
theorem zpw (p:ID) (r:List UInt8):zfo (Vector.replicate 32 0) (p.toList++r)=p:=by
 apply Vector.toList_inj.1
 rw [zfz]
 have e:min (p.toList++r).length 32=32:=by rw [List.length_append,Vector.length_toList]; omega
 rw [e,List.take_left' (by simp),List.drop_of_length_le (by simp),List.append_nil]
theorem z11h (c:z0e) (hb:32≤c.b.length):z6j c=some (zfo (Vector.replicate 32 0) c.b,⟨c.b.drop 32,c.bad⟩):=by
 unfold z6j
 rw [if_neg (by simp; omega)]
 have e:min c.b.length 32=32:=by omega
 rw [e,z96 hb (Nat.le_refl _),List.take_of_length_le (Nat.le_of_eq List.length_drop)]; rfl
theorem zya (c:z0e) (hb:¬ 32≤c.b.length):z6j c=some (Vector.replicate 32 0,⟨c.b,true⟩):=by
 unfold z6j
 rw [if_pos (by simp; omega)]
theorem zvh:z0a 0=[0]:=by unfold z0a; rw [if_pos (by omega)]; rfl
theorem zvg {names:List ID} {k:Nat} {p:ID} (h:p∈names):z8p names k p=z0a (k - names.idxOf p):=by unfold z8p; rw [if_pos h]
theorem zsv {names:List ID} {k:Nat} {p:ID} (h:p∉names):z8p names k p=z0a 0++p.toList:=by unfold z8p; rw [if_neg h,zvh]; rfl
theorem zjk (ids:List ID) (hi:ids.length≤60) (r14:Int × z0e) (c:z0e) (acc:List ID) (i:Nat) (hb:c.b.length≤100000) (ha:acc.length≤100) (hn:(i:Int)<r14.1) (hi2:i≤1000) :
  z0t ids r14 (c,acc,(i:Int))=some (.inr (match rpN ids.length c.b with
   | some (n,r)=>if h:0<n∧n≤ids.length then (⟨r,c.bad⟩,acc++[ids[ids.length - n]'(by omega)],((i+1:Nat):Int))
    else if c.bad then (⟨r,true⟩,acc,((i+1:Nat):Int))
    else if 32≤r.length then (⟨r.drop 32,false⟩,acc++[zfo (Vector.replicate 32 0) r],((i+1:Nat):Int))
    else (⟨r,true⟩,acc++[Vector.replicate 32 0],((i+1:Nat):Int))
   | none=>(⟨c.b,true⟩,acc,((i+1:Nat):Int)))):=by
 unfold z0t
 rw [if_pos (by simpa using hn)]
 simp only
 rw [zhv c ids.length (by omega) hb]
 simp only [bs]
 cases hr:rpN ids.length c.b with
 | none =>
  rw [zkb]
  simp only [decide_eq_true_eq,Int.lt_irrefl,if_false,Bool.not_true,Bool.false_eq_true]
  rw [z0w (by omega)]
 | some x =>
  obtain ⟨n,r⟩:=x
  have hl:=zka hr
  rw [zfc]
  simp only
  by_cases h:0<n∧n≤ids.length
  ·rw [if_pos (show decide ((0:Int)<(n:Int))=true by rw [decide_eq_true_eq]; omega),dif_pos h]
   have e:w64 ((ids.length:Int) - (n:Int))=((ids.length - n:Nat):Int):=by rw [z0v (by omega) (by omega)]; omega
   rw [e,z0x (by omega)]
   simp only [bs]
   rw [z1m (by simp only [List.length_cons,List.length_nil]; omega)]
   simp only [bs]
   rw [z0w (by omega)]
  ·rw [if_neg (show ¬ decide ((0:Int)<(n:Int))=true by rw [decide_eq_true_eq]; omega),dif_neg h]
   cases hbad:c.bad with
   | true =>
    simp only [Bool.not_true,Bool.false_eq_true,if_false,if_true]
    rw [z0w (by omega)]
   | false =>
    simp only [Bool.not_false,if_true,Bool.false_eq_true,if_false]
    by_cases h32:32≤r.length
    ·rw [z11h ⟨r,false⟩ h32,if_pos h32]
     simp only [bs]
     rw [z1m (by simp only [List.length_cons,List.length_nil]; omega)]
     simp only [bs]
     rw [z0w (by omega)]
    ·rw [zya ⟨r,false⟩ h32,if_neg h32]
     simp only [bs]
     rw [z1m (by simp only [List.length_cons,List.length_nil]; omega)]
     simp only [bs]
     rw [z0w (by omega)]
theorem zia (ids:List ID) (hi:ids.length≤60) (n:Nat) (hn:n≤4) (c0 c:z0e) (hb:c.b.length≤100000):∃ ps c',iter (z0t ids ((n:Int),c0)) (c,[],0)=some (ps,c')∧ps.length≤4∧c'.b.length≤c.b.length:=by
 obtain ⟨r,h1,h2⟩:=z9l (F:=z0t ids ((n:Int),c0)) n (fun i s=>s.2.2=(i:Int)∧s.1.b.length≤c.b.length∧s.2.1.length≤i) (fun r=>r.1.length≤4∧r.2.b.length≤c.b.length)
  (fun i s hin hs=>by
   obtain ⟨s1,s2,s3⟩:=s
   obtain ⟨e1,e2,e3⟩:=hs
   simp only at e1 e2 e3
   subst e1
   refine ⟨_,zjk ids hi _ s1 s2 i (by omega) (by omega) (by show (i:Int)<(n:Int); omega) (by omega),?_⟩
   cases hr:rpN ids.length s1.b with
   | none=>exact ⟨rfl,e2,Nat.le_succ_of_le e3⟩
   | some x =>
    obtain ⟨m,r⟩:=x
    have hl:=zka hr
    simp only
    by_cases h:0<m∧m≤ids.length
    ·rw [dif_pos h]; exact ⟨rfl, by show r.length≤_; omega, by simp only [List.length_append,List.length_cons,List.length_nil]; omega⟩
    ·rw [dif_neg h]
     split
     ·exact ⟨rfl, by show r.length≤_; omega, by show s2.length≤_; omega⟩
     ·split
      ·exact ⟨rfl, by show (r.drop 32).length≤_; rw [List.length_drop]; omega, by simp only [List.length_append,List.length_cons,List.length_nil]; omega⟩
      ·exact ⟨rfl, by show r.length≤_; omega, by simp only [List.length_append,List.length_cons,List.length_nil]; omega⟩)
  (fun s hs=>by
   obtain ⟨s1,s2,s3⟩:=s
   obtain ⟨e1,e2,e3⟩:=hs
   simp only at e1 e2 e3
   subst e1
   exact ⟨(s2,s1), by unfold z0t; rw [if_neg (by simp)], by show s2.length≤4; omega,e2⟩) (c,[],0) 0 (by omega) ⟨rfl,Nat.le_refl _,Nat.le_refl _⟩
 exact ⟨r.1,r.2,h1,h2.1,h2.2⟩
theorem znu (ids:List ID) (hi:ids.length≤60) (ps:List ID) (hp:ps.length≤4) (rest:List UInt8) (hr:rest.length≤50000) (c0:z0e) :
  iter (z0t ids ((ps.length:Int),c0)) (⟨ps.flatMap (z8p ids ids.length)++rest,false⟩,[],0)=some (ps,⟨rest,false⟩):=by
 have hlen:∀ i,((ps.drop i).flatMap (z8p ids ids.length)).length≤33 * (ps.drop i).length:=fun i=>z9p _ 33 _ fun x _=>zd6 _ _ _ (by omega)
 have h:=z3x (F:=z0t ids ((ps.length:Int),c0)) (b:=(ps,⟨rest,false⟩)) ps.length (fun i=>((⟨(ps.drop i).flatMap (z8p ids ids.length)++rest,false⟩:z0e),ps.take i,(i:Int)))
  (fun i hin=>by
   have h1:=hlen i
   rw [List.length_drop] at h1
   rw [zjk ids hi _ _ _ i (by simp only [List.length_append]; omega) (by rw [List.length_take]; omega) (by show (i:Int)<(ps.length:Int); omega) (by omega)]
   simp only
   rw [List.drop_eq_getElem_cons hin,List.flatMap_cons,List.append_assoc,List.take_succ_eq_append_getElem hin]
   by_cases hm:ps[i]∈ids
   ·have hlt:=List.idxOf_lt_length_of_mem hm
    rw [zvg hm,zgb (by omega) (by omega)]
    simp only
    rw [dif_pos ⟨by omega, by omega⟩]
    have e:ids.length - (ids.length - ids.idxOf ps[i])=ids.idxOf ps[i]:=by omega
    simp only [e,List.getElem_idxOf]
   ·rw [zsv hm,List.append_assoc,zgb (by omega) (by omega)]
    simp only
    rw [dif_neg (by omega),if_neg (by simp),if_pos (by simp only [List.length_append,Vector.length_toList]; omega),zpw,List.drop_left' (by simp)])
  (by
   unfold z0t
   rw [if_neg (by simp)]
   simp)
 simpa using h
end
section
open Go
theorem zsn {β σ:Type} {F:σ→Option (Sum β σ)} (n:Nat) (I:Nat→σ→Prop) (Q:β→Prop) (h1:∀ i s,i<n→I i s→(∃ s',F s=some (.inr s')∧I (i+1) s')∨(∃ b,F s=some (.inl b)∧Q b)) (h2:∀ s,I n s→∃ b,F s=some (.inl b)∧Q b):∀ (k i:Nat) (s:σ),n - i=k→i≤n→I i s→∃ b,iter F s=some b∧Q b
 | 0,i,s,hk,hi,hs=>by
  have:i=n:=by omega
  subst this
  obtain ⟨b,hb,hq⟩:=h2 s hs
  exact ⟨b,z1w hb,hq⟩
 | k+1,i,s,hk,hi,hs=>by
  rcases h1 i s (by omega) hs with ⟨s',hF,hs'⟩ | ⟨b,hF,hq⟩
  ·obtain ⟨b,hb,hq⟩:=zsn n I Q h1 h2 k (i+1) s' (by omega) (by omega) hs'
   exact ⟨b, by rw [z2g hF]; exact hb,hq⟩
  ·exact ⟨b,z1w hF,hq⟩
theorem zgk {α β:Type} {f g:α→List β}:∀ l:List α,(∀ x∈l,f x=g x)→l.flatMap f=l.flatMap g
 | [],_=>rfl
 | x::l,h=>by rw [List.flatMap_cons,List.flatMap_cons,h x (List.mem_cons_self ..),zgk l fun y hy=>h y (List.mem_cons_of_mem _ hy)]
def wf1 (o:z01):Prop:=inI o.Act.Value.Num∧o.Act.Value.Text.length≤9223372036854775807
theorem zxa:wf1 zO:=⟨⟨by decide, by decide⟩, by decide⟩
theorem zxc (b:List UInt8):wf1 (zwu b).1:=by
 rcases (zoi b).2 with ⟨o,_,hI,ht,_,hd⟩ | hd
 ·rw [hd]; exact ⟨hI,Nat.le_trans ht (by decide)⟩
 ·rw [hd]; exact zxa
theorem zy4 {b:List UInt8} (h:(z2l b 400 1).2.2=0):(z2l b 400 1).1.length≤400:=by have:=(zd9 h).2.1; omega
theorem z11r:((4:Nat):Int)=4:=rfl
theorem zse (c:z0e) (hb:c.b.length≤30000) (ids:List ID) (hi:ids.length≤60):∃ o c',z1l c ids=some (o,c')∧c'.b.length≤c.b.length∧wf1 o:=by
 unfold z1l
 rw [zbf c.b (by omega) 400 (by decide)]
 simp only [bs]
 by_cases he:(z2l c.b 400 1).2.2=0
 ·have hp:=zd9 he
  rw [if_neg (by simp [he]),z96 hp.2.2 (Nat.le_refl _),List.take_of_length_le (Nat.le_of_eq List.length_drop)]
  simp only [bs]
  rw [zhh _ (by have:=zy4 he; omega)]
  simp only [bs]
  have hw:=zxc (z2l c.b 400 1).1
  have hl:(c.b.drop (z2l c.b 400 1).2.1).length≤c.b.length:=by rw [List.length_drop]; omega
  generalize zwu (z2l c.b 400 1).1=d at hw ⊢
  generalize c.b.drop (z2l c.b 400 1).2.1=b1 at hl ⊢
  have key:∀ x:Bool,∃ o c',(if x then some ((⟨0,[],0,(⟨0,[],(⟨0,0,0,[]⟩:z00)⟩:z07),(⟨0,0⟩:z08)⟩:z01),({ { c with b:=b1 } with bad:=true }:z0e))
   else (z3c ({ c with b:=b1 }) 4 >>= fun r14=>iter (z0t ids r14) (r14.2,d.1.Preds,0)) >>= fun s13=>some ((⟨d.1.Author,s13.1,d.1.Stamp,d.1.Act,d.1.Sig⟩:z01),s13.2))=some (o,c')∧(d.1.Preds=[]∨x=true→c'.b.length≤c.b.length∧wf1 o)∨d.1.Preds≠[]∧x=false:=by
   intro x
   cases x with
   | true=>exact ⟨zO,⟨b1,true⟩,.inl ⟨rfl, fun _=>⟨hl,zxa⟩⟩⟩
   | false =>
    by_cases hd:d.1.Preds=[]
    ·simp only [Bool.false_eq_true,if_false]
     have e:=zhv ⟨b1,c.bad⟩ 4 (by decide) (by show b1.length≤_; omega)
     rw [z11r] at e
     rw [e]
     simp only [bs]
     rw [hd]
     cases hr:rpN 4 b1 with
     | none =>
      rw [zkb]
      obtain ⟨ps,c',h1,h2,h3⟩:=zia ids hi 0 (by decide) ⟨b1,true⟩ ⟨b1,true⟩ (by show b1.length≤_; omega)
      refine ⟨⟨d.1.Author,ps,d.1.Stamp,d.1.Act,d.1.Sig⟩,c',.inl ⟨?_, fun _=>⟨Nat.le_trans h3 hl,?_⟩⟩⟩
      ·rw [show ((0:Nat):Int)=0 from rfl] at h1
       rw [h1]; rfl
      ·exact hw
     | some y =>
      obtain ⟨n,r⟩:=y
      have hn:=zka hr
      rw [zfc]
      obtain ⟨ps,c',h1,h2,h3⟩:=zia ids hi n hn.1 ⟨r,c.bad⟩ ⟨r,c.bad⟩ (by show r.length≤_; omega)
      refine ⟨⟨d.1.Author,ps,d.1.Stamp,d.1.Act,d.1.Sig⟩,c',.inl ⟨?_, fun _=>⟨?_,?_⟩⟩⟩
      ·simp only
       rw [h1]; rfl
      ·exact Nat.le_trans h3 (Nat.le_trans hn.2 hl)
      ·exact hw
    ·exact ⟨zO,c,.inr ⟨hd,rfl⟩⟩
  by_cases hx:d.2=0
  ·rw [if_neg (by simp [hx])]
   simp only [bs]
   obtain ⟨o,c',h⟩:=key (decide (0<(d.1.Preds.length:Int)))
   rcases h with ⟨h1,h2⟩ | ⟨h1,h2⟩
   ·refine ⟨o,c',h1,h2 ?_⟩
    by_cases hd:d.1.Preds=[]
    ·exact .inl hd
    ·exact .inr (by rw [decide_eq_true_eq]; have:=List.length_pos_iff.2 hd; omega)
   ·exfalso
    rw [decide_eq_false_iff_not] at h2
    have:=List.length_pos_iff.2 h1; omega
  ·rw [if_pos (by simpa using hx)]
   simp only [bs]
   obtain ⟨o,c',h⟩:=key true
   rcases h with ⟨h1,h2⟩ | ⟨h1,h2⟩
   ·exact ⟨o,c',h1,h2 (.inr rfl)⟩
   ·cases h2
 ·rw [if_pos (by simp; omega)]
  exact ⟨zO,⟨c.b,true⟩,rfl,Nat.le_refl _,zxa⟩
theorem zsp {o:z01} (hc:z18 o=0) (hI:inI o.Act.Value.Num) (ids:List ID) (hi:ids.length≤60) (rest:List UInt8) (hr:rest.length≤40000):z1l ⟨opB ids ids.length o++rest,false⟩ ids=some (o,⟨rest,false⟩):=by
 have hn:=zf6 hc
 have hIn:inI (nop o).Act.Value.Num:=hI
 have hle:=zhk hn hIn
 have hp:=(z4g hc).1
 have hob:=zrx hc hI ids ids.length (by omega)
 have eb:opB ids ids.length o++rest=(z0a (z7p (nop o)).length++z7p (nop o))++(z0a o.Preds.length++(o.Preds.flatMap (z8p ids ids.length)++rest)):=by unfold opB; simp only [List.append_assoc]
 have hpl:=z9p (z8p ids ids.length) 33 o.Preds (fun x _=>zd6 _ _ _ (by omega))
 have hnl:=z0c o.Preds.length (by omega)
 have hpart:=zsm (lim:=400) (s:=z7p (nop o)) (by omega) (by omega) (z0a o.Preds.length++(o.Preds.flatMap (z8p ids ids.length)++rest))
 unfold z1l
 simp only
 rw [eb,zbf _ (by rw [← eb,List.length_append]; omega) 400 (by decide),hpart]
 simp only [bs]
 rw [if_neg (by simp),z96 (by simp only [List.length_append]; omega) (Nat.le_refl _),List.take_of_length_le (Nat.le_of_eq List.length_drop)]
 rw [← List.length_append,List.drop_left]
 simp only [bs]
 rw [zhh _ (by omega),(zoi _).1 (nop o) hn hIn rfl]
 simp only [bs]
 rw [if_neg (by simp), show (nop o).Preds=[] from rfl]
 simp only [bs]
 rw [if_neg (by simp)]
 have e:=zhv ⟨z0a o.Preds.length++(o.Preds.flatMap (z8p ids ids.length)++rest),false⟩ 4 (by decide) (by simp only [List.length_append]; omega)
 rw [z11r] at e
 rw [e,zgb (by omega) (by omega),zfc]
 simp only [bs]
 rw [znu ids hi o.Preds hp rest (by omega)]
 rfl
def zcp (M:List z01) (i:Nat):List UInt8:=((List.range M.length).drop i).flatMap fun k=>opB (M.map oid) k (opJ M k)
theorem zju (M:List z01) {i:Nat} (hi:i<M.length):zcp M i=opB (M.map oid) i M[i]++zcp M (i+1):=by
 unfold zcp
 rw [List.drop_eq_getElem_cons (by rw [List.length_range]; exact hi),List.flatMap_cons,List.getElem_range,z9v hi]
theorem zu2 (M:List z01):zcp M M.length=[]:=by unfold zcp; rw [List.drop_of_length_le (by simp)]; rfl
theorem zg1 (M:List z01):zau M=112::(z0a M.length++zcp M 0):=by unfold zau zli zcp; simp
theorem zw3 {M:List z01} (hT:zpr M) {i:Nat} (hi:i<M.length):opB (M.map oid) i M[i]=opB ((M.take i).map oid) i M[i]:=by
 unfold opB
 congr 1
 refine zgk _ fun p hp=>?_
 have h:=zkk hT hi hp
 rw [List.map_take]
 unfold z8p
 by_cases hm:p∈(M.map oid).take i
 ·rw [if_pos (h.2 hm),if_pos hm,(zjb hm).1]
 ·rw [if_neg (fun h'=>hm (h.1 h')),if_neg hm]
theorem zqv {M:List z01} (hb:(zau M).length≤30000) (i:Nat):(zcp M i).length≤30000:=by
 rw [zg1] at hb
 have h:∀ j,(zcp M j).length≤(zcp M 0).length:=by
  intro j
  induction j with
  | zero=>exact Nat.le_refl _
  | succ j ih =>
   by_cases hj:j<M.length
   ·have:=zju M hj
    have h2:=congrArg List.length this
    rw [List.length_append] at h2
    omega
   ·have:zcp M (j+1)=[]:=by unfold zcp; rw [List.drop_of_length_le (by simp; omega)]; rfl
    rw [this]; exact Nat.zero_le _
 have:=h i
 simp only [List.length_cons,List.length_append] at hb
 omega
theorem zgc (r10:Int × z0e) (c:z0e) (ops:List z01) (ids:List ID) (i:Nat) (hn:(i:Int)<r10.1) (ho:ops.length≤100) (hi:ids.length≤100) (hi2:i≤1000) {o:z01} {c':z0e} (h:z1l c ids=some (o,c')) (hw:wf1 o) :
  z57 r10 (c,ops,ids,(i:Int))=some (if c'.bad=true∨z18 o≠0 then .inl (.inl ([],12)) else .inr (c',ops++[o],ids++[oid o],((i+1:Nat):Int))):=by
 unfold z57
 rw [if_pos (by simpa using hn)]
 simp only
 rw [h]
 simp only [bs]
 rw [znf o hw.1 hw.2]
 simp only [bs]
 by_cases hbad:c'.bad=true
 ·rw [if_pos hbad,if_pos (.inl hbad)]
 ·rw [if_neg hbad]
  by_cases hc:z18 o=0
  ·rw [if_pos hc,if_neg (show ¬ (c'.bad=true∨z18 o≠0) from fun h=>h.elim hbad fun h=>h hc)]
   simp only
   rw [if_neg (by simp),z1m (by simp only [List.length_cons,List.length_nil]; omega)]
   simp only [bs]
   rw [z1m (by simp only [List.length_cons,List.length_nil]; omega)]
   simp only [bs]
   rw [z0w (by omega)]; rfl
  ·rw [if_neg hc,if_pos (show c'.bad=true∨z18 o≠0 from .inr hc)]
   simp only
   rw [if_pos (by simpa using hc)]
theorem zwf:((60:Nat):Int)=60:=rfl
theorem zlw (n:Nat) (hn:n≤60) (c0 c:z0e) (hb:c.b.length≤30000):∃ r,iter (z57 ((n:Int),c0)) (c,[],[],0)=some r∧(r=.inl ([],12)∨∃ c' ops,r=.inr (c',ops)∧wfO ops):=by
 refine zsn (F:=z57 ((n:Int),c0)) n (fun i s=>s.2.2.2=(i:Int)∧s.1.b.length≤30000∧s.2.1.length=i∧s.2.2.1.length=i∧wfO s.2.1) (fun r=>r=.inl ([],12)∨∃ c' ops,r=.inr (c',ops)∧wfO ops) ?_ ?_ n 0 (c,[],[],0) (by omega) (by omega) ⟨rfl,hb,rfl,rfl, fun o ho=>by cases ho⟩
 ·rintro i ⟨s1,s2,s3,s4⟩ hin ⟨e1,e2,e3,e4,e5⟩
  simp only at e1 e2 e3 e4 e5
  subst e1
  obtain ⟨o,c',h,hl,hw⟩:=zse s1 e2 s3 (by omega)
  have hs:=zgc ((n:Int),c0) s1 s2 s3 i (by show (i:Int)<(n:Int); omega) (by omega) (by omega) (by omega) h hw
  by_cases hx:c'.bad=true∨z18 o≠0
  ·rw [if_pos hx] at hs
   exact .inr ⟨_,hs,.inl rfl⟩
  ·rw [if_neg hx] at hs
   refine .inl ⟨_,hs,rfl,Nat.le_trans hl e2, by simp [e3], by simp [e4],?_⟩
   intro q hq
   rcases List.mem_append.1 hq with hq | hq
   ·exact e5 q hq
   ·rw [List.mem_singleton.1 hq]; exact hw
 ·rintro ⟨s1,s2,s3,s4⟩ ⟨e1,e2,e3,e4,e5⟩
  simp only at e1 e2 e3 e4 e5
  subst e1
  exact ⟨.inr (s1,s2), by unfold z57; rw [if_neg (by simp)],.inr ⟨s1,s2,rfl,e5⟩⟩
theorem zpq (b:List UInt8) (hb:b.length≤30000):∃ r,z73 b=some r∧(r=([],12)∨∃ M,r=(M,0)∧wfO M∧z2r M=some (b,0)):=by
 unfold z73
 rw [if_neg (by simp; omega)]
 cases b with
 | nil=>exact ⟨_,rfl,.inl rfl⟩
 | cons k r =>
  rw [if_neg (by simp; omega)]
  have i0:idx (k::r) 0=some k:=z0x (l:=k::r) (i:=0) (by simp)
  have hc:cut (k::r) 1 ((k::r).length:Int)=some r:=by
   have:=z96 (b:=k::r) (i:=1) (j:=(k::r).length) (by simp) (by simp)
   rw [show ((1:Nat):Int)=1 from rfl] at this
   rw [this]; simp
  rw [i0]
  simp only [bs]
  by_cases hk:k=112
  ·rw [if_neg (by simp [hk]),hc]
   simp only [bs]
   simp only [List.length_cons] at hb
   have e:=zhv ⟨r,false⟩ 60 (by decide) (by show r.length≤_; omega)
   rw [zwf] at e
   rw [e]
   simp only [bs]
   have hloop:∃ q,iter (z57 (pkN ⟨r,false⟩ (rpN 60 r))) ((pkN ⟨r,false⟩ (rpN 60 r)).2,[],[],0)=some q∧(q=.inl ([],12)∨∃ c' ops,q=.inr (c',ops)∧wfO ops):=by
    cases hr:rpN 60 r with
    | none=>rw [zkb]; exact zlw 0 (by decide) ⟨r,true⟩ ⟨r,true⟩ (by show r.length≤_; omega)
    | some x =>
     obtain ⟨n,r1⟩:=x
     have hl:=zka hr
     rw [zfc]; exact zlw n hl.1 ⟨r1,false⟩ ⟨r1,false⟩ (by show r1.length≤_; omega)
   obtain ⟨q,hq,hq2⟩:=hloop
   rw [hq]
   rcases hq2 with rfl | ⟨c',ops,rfl,hw⟩
   ·exact ⟨_,rfl,.inl rfl⟩
   ·rw [zmh,zbh ops hw]
    simp only [bs]
    cases hbad:c'.bad with
    | true=>exact ⟨_,rfl,.inl rfl⟩
    | false =>
     simp only [Bool.false_eq_true,if_false]
     by_cases h0:(zef ops).2=0
     ·rw [if_neg (by simp [h0]),if_pos h0]
      simp only [bs,zca]
      by_cases he:zau ((zaf ops).map (·.o))=k::r
      ·rw [he]
       refine ⟨(ops,0), by simp,.inr ⟨ops,rfl,hw,?_⟩⟩
       rw [zbh ops hw,h0,if_pos rfl,he]
      ·have:(zau ((zaf ops).map (·.o))==k::r)=false:=by simpa using he
       rw [this]
       exact ⟨_,rfl,.inl rfl⟩
     ·rw [if_pos (by simpa using h0)]
      exact ⟨_,rfl,.inl rfl⟩
  ·rw [if_pos (by simpa using hk)]
   exact ⟨_,rfl,.inl rfl⟩
theorem zk0 {M:List z01} (hC:zew M) (hw:wfO M) (hb:(zau M).length≤30000):z73 (zau M)=some (M,0):=by
 obtain ⟨-,hl,hc,-,-⟩:=zal hC.1
 have ht:=zqv hb
 have hwr:=hC.write hw
 have hT:=hC.topo
 unfold z73
 rw [if_neg (by simp; omega)]
 rw [zg1] at hb hwr ⊢
 generalize hr:z0a M.length++zcp M 0=r at hb hwr ⊢
 rw [if_neg (by simp; omega)]
 have i0:idx (112::r) 0=some (112:UInt8):=z0x (l:=112::r) (i:=0) (by simp)
 have hcu:cut (112::r) 1 ((112::r).length:Int)=some r:=by
  have:=z96 (b:=112::r) (i:=1) (j:=(112::r).length) (by simp) (by simp)
  rw [show ((1:Nat):Int)=1 from rfl] at this
  rw [this]; simp
 rw [i0]
 simp only [bs]
 rw [if_neg (by simp),hcu]
 simp only [bs]
 simp only [List.length_cons] at hb
 have e:=zhv ⟨r,false⟩ 60 (by decide) (by show r.length≤_; omega)
 rw [zwf] at e
 rw [e]
 simp only [bs]
 rw [← hr,zgb (by omega) hl,zfc]
 simp only
 have hloop:=z3x (F:=z57 ((M.length:Int),⟨zcp M 0,false⟩)) (b:=.inr ((⟨[],false⟩:z0e),M)) M.length (fun i=>((⟨zcp M i,false⟩:z0e),M.take i,(M.take i).map oid,(i:Int)))
  (fun i hin=>by
   have hci:=hc M[i] (List.getElem_mem hin)
   have hwi:=hw M[i] (List.getElem_mem hin)
   have hil:((M.take i).map oid).length=i:=by rw [List.length_map,List.length_take]; omega
   have hpop:z1l ⟨zcp M i,false⟩ ((M.take i).map oid)=some (M[i],⟨zcp M (i+1),false⟩):=by
    rw [zju M hin,zw3 hT hin]
    have:=zsp hci hwi.1 ((M.take i).map oid) (by omega) (zcp M (i+1)) (by have:=ht (i+1); omega)
    rw [hil] at this
    exact this
   rw [zgc _ _ _ _ i (by show (i:Int)<(M.length:Int); omega) (by rw [List.length_take]; omega) (by omega) (by omega) hpop hwi]
   rw [if_neg (by simp [hci]),List.take_succ_eq_append_getElem hin,List.map_append]; rfl)
  (by
   unfold z57
   rw [if_neg (by simp),List.take_length,zu2])
 rw [show M.take 0=[] from rfl, show ([]:List z01).map oid=[] from rfl, show ((0:Nat):Int)=0 from rfl] at hloop
 rw [hloop,zmh]
 simp only
 rw [hC.write hw]
 simp only [bs,Bool.false_eq_true,if_false]
 rw [if_neg (by simp),zg1]
 simp [zca,bs]
def zpk (b:List UInt8) (M:List z01):Prop:=zew M∧wfO M∧zau M=b
theorem zxr (b:List UInt8) (hb:b.length≤30000):(∃ M,zpk b M∧z73 b=some (M,0))∨((∀ M,¬ zpk b M)∧z73 b=some ([],12)):=by
 have hall:∀ M,zpk b M→z73 b=some (M,0):=fun M h=>by
  have:=zk0 h.1 h.2.1 (by rw [h.2.2]; exact hb)
  rw [h.2.2] at this; exact this
 obtain ⟨r,hr,h⟩:=zpq b hb
 rcases h with rfl | ⟨M,rfl,hw,hwr⟩
 ·refine .inr ⟨fun M hM=>?_,hr⟩
  have:=hall M hM
  rw [hr] at this
  injection this with this; cases congrArg Prod.snd this
 ·rw [zbh M hw] at hwr
  injection hwr with hwr
  have h0:(zef M).2=0:=congrArg Prod.snd hwr
  rw [h0,if_pos rfl] at hwr
  have hp:zpk b ((zaf M).map (·.o)):=⟨zp7 h0,zk2 (zsc (zal h0).2.2.2.2).perm hw,congrArg Prod.fst hwr⟩
  exact .inl ⟨_,hp,hall _ hp⟩
end
section
open Go
def frc {α:Type} (x:Nat) (k:Nat→α):α:=match x with
 | 0=>k 0
 | n+1=>k (n+1)
theorem zwx {α:Type} (x:Nat) (k:Nat→α):frc x k=k x:=by cases x <;> rfl
def znl {α:Type} (x:UInt32) (k:UInt32→α):α:=frc x.toNat fun n=>k (UInt32.ofNat n)
theorem zfp {α:Type} (x:UInt32) (k:UInt32→α):znl x k=k x:=by unfold znl; rw [zwx,UInt32.ofNat_toNat]
def fB {α:Type}:List UInt8→(List UInt8→α)→α
 | [],k=>k []
 | x::l,k=>frc x.toNat fun n=>fB l fun m=>k (UInt8.ofNat n::m)
theorem z105 {α:Type}:∀ (l:List UInt8) (k:List UInt8→α),fB l k=k l
 | [],k=>rfl
 | x::l,k=>by rw [fB,zwx,z105 l,UInt8.ofNat_toNat]
def fW {α:Type}:List UInt32→(List UInt32→α)→α
 | [],k=>k []
 | x::l,k=>znl x fun n=>fW l fun m=>k (n::m)
theorem z11g {α:Type}:∀ (l:List UInt32) (k:List UInt32→α),fW l k=k l
 | [],k=>rfl
 | x::l,k=>by rw [fW,zfp,z11g l]
def wL:Nat→List UInt8→List UInt32
 | 0,_=>[]
 | n+1,l=>zu3 l 0::wL n (l.drop 4)
theorem ztv (l:List UInt8) (k:Nat):zu3 (l.drop 4) k=zu3 l (k+1):=by
 unfold zu3
 have e:∀ j,(l.drop 4).getD (4 * k+j) 0=l.getD (4 * (k+1)+j) 0:=fun j=>by
  rw [List.getD_eq_getElem?_getD,List.getD_eq_getElem?_getD,List.getElem?_drop]
  congr 2; omega
 have e0:=e 0
 rw [Nat.add_zero,Nat.add_zero] at e0
 rw [e0,e 1,e 2,e 3]
theorem z113:∀ (n:Nat) (l:List UInt8),wL n l=(List.range n).map (zu3 l)
 | 0,l=>rfl
 | n+1,l=>by
  rw [wL,z113 n,List.range_succ_eq_map,List.map_cons,List.map_map]
  exact congrArg (List.cons (zu3 l 0)) (List.map_congr_left fun k hk=>ztv l k)
def sF {α:Type}:Nat→List UInt32→(List UInt32→α)→α
 | 0,r,k=>k r.reverse
 | n+1,r,k=>znl (((r.getD 15 0+r.getD 6 0)+sg0 (r.getD 14 0))+sg1 (r.getD 1 0)) fun w=>sF n (w::r) k
theorem zh7 (l:List UInt32) (i:Nat) (h:i<l.length):l.reverse.getD i 0=l.getD (l.length - (i+1)) 0:=by
 rw [List.getD_eq_getElem?_getD,List.getD_eq_getElem?_getD,List.getElem?_reverse h]
 congr 2
 omega
theorem z10i {α:Type} (b:List UInt8) (k:List UInt32→α):∀ (n m:Nat),sF n (z5j b m).reverse k=k (z5j b (m+n))
 | 0,m=>by rw [sF,List.reverse_reverse]; rfl
 | n+1,m=>by
  have hl:=zbg b m
  rw [sF,zfp,zh7 _ 15 (by omega),zh7 _ 6 (by omega),zh7 _ 14 (by omega),zh7 _ 1 (by omega)]
  have:((((z5j b m).getD ((z5j b m).length - (15+1)) 0+(z5j b m).getD ((z5j b m).length - (6+1)) 0)+sg0 ((z5j b m).getD ((z5j b m).length - (14+1)) 0))+sg1 ((z5j b m).getD ((z5j b m).length - (1+1)) 0))::(z5j b m).reverse=(z5j b (m+1)).reverse:=by
   show _=(zn8 (z5j b m)).reverse
   unfold zn8
   rw [List.reverse_append]; rfl
  rw [this,z10i b k n (m+1)]
  congr 2; omega
def rF {α:Type}:List UInt32→List UInt32→O8→(O8→α)→α
 | q::K,w::W,s,k=>znl (zxn q w s) fun t=>znl (t+rnd2 s) fun x=>znl (s.2.2.2.1+t) fun y=>rF K W (x,s.1,s.2.1,s.2.2.1,y,s.2.2.2.2.1,s.2.2.2.2.2.1,s.2.2.2.2.2.2.1) k
 | _,_,s,k=>k s
theorem z10u {α:Type} (K W:List UInt32) (hK:K.length=64) (hW:W.length=64) (s:O8) (k:O8→α):∀ (n i:Nat),64 - i=n→i≤64→rF (K.drop i) (W.drop i) (zpn K W s i) k=k (zpn K W s 64)
 | 0,i,h,hi=>by
  have:i=64:=by omega
  subst this
  rw [List.drop_eq_nil_of_le (by omega)]; rfl
 | n+1,i,h,hi=>by
  rw [List.drop_eq_getElem_cons (by omega),List.drop_eq_getElem_cons (by omega:i<W.length),rF,zfp,zfp,zfp]
  rw [← z10u K W hK hW s k n (i+1) (by omega) (by omega)]
  congr 1
  rw [zpn,rnd,List.getD_eq_getElem?_getD,List.getD_eq_getElem?_getD,List.getElem?_eq_getElem (by omega),List.getElem?_eq_getElem (by omega)]
  rfl
def grK {α:Type} (h:O8) (b:List UInt8) (k:O8→α):α :=
 fW (wL 16 b).reverse fun r=>sF 48 r fun W=>rF z7w.toList W h fun s =>
 znl (h.1+s.1) fun a=>znl (h.2.1+s.2.1) fun b=>znl (h.2.2.1+s.2.2.1) fun c=>znl (h.2.2.2.1+s.2.2.2.1) fun d =>
 znl (h.2.2.2.2.1+s.2.2.2.2.1) fun e=>znl (h.2.2.2.2.2.1+s.2.2.2.2.2.1) fun f=>znl (h.2.2.2.2.2.2.1+s.2.2.2.2.2.2.1) fun g=>znl (h.2.2.2.2.2.2.2+s.2.2.2.2.2.2.2) fun z=>k (a,b,c,d,e,f,g,z)
def add8 (h s:O8):O8:=(h.1+s.1,h.2.1+s.2.1,h.2.2.1+s.2.2.1,h.2.2.2.1+s.2.2.2.1,h.2.2.2.2.1+s.2.2.2.2.1,h.2.2.2.2.2.1+s.2.2.2.2.2.1,h.2.2.2.2.2.2.1+s.2.2.2.2.2.2.1,h.2.2.2.2.2.2.2+s.2.2.2.2.2.2.2)
theorem zus (h v:Vector UInt32 8):∀ j (hj:j<8),(zzl h v)[j]=h[j]+v[j]:=by
 obtain ⟨r,h1,h2⟩:=z9l (F:=z1f v) 8 (fun i s=>s.2=(i:Int)∧∀ j (hj:j<8),s.1[j]=if j<i then h[j]+v[j] else h[j]) (fun r=>∀ j (hj:j<8),r[j]=h[j]+v[j]) (fun i s hi hs=>by
  obtain ⟨u,k⟩:=s
  obtain ⟨hs,hu⟩:=hs
  simp only at hs hu
  subst hs
  unfold z1f
  rw [if_pos (by simp; omega)]
  rw [z6q (show i<8 by omega),z6q (show i<8 by omega)]
  simp only [bS,z0w (show i<9223372036854775807 by omega)]
  refine ⟨_,rfl,rfl, fun j hj=>?_⟩
  simp only
  rw [zdm hj,hu j hj,hu i hi]
  simp only [Int.toNat_natCast]
  by_cases e:i=j
  ·subst e; simp
  ·rw [if_neg e]
   by_cases l:j<i
   ·rw [if_pos l,if_pos (by omega)]
   ·rw [if_neg l,if_neg (by omega)]) (fun s hs=>by
  obtain ⟨u,k⟩:=s
  obtain ⟨hs,hu⟩:=hs
  simp only at hs hu
  subst hs
  unfold z1f
  rw [if_neg (by simp)]
  exact ⟨_,rfl, fun j hj=>by rw [hu j hj,if_pos hj]⟩) (h,0) 0 (by omega) ⟨rfl, fun j hj=>by simp⟩
 unfold zzl
 rw [h1]
 exact h2
theorem zyj (h s:O8):zzl (toV h) (toV s)=toV (add8 h s):=by
 apply Vector.ext
 intro j hj
 rw [zus]
 match j,hj with
 | 0,_=>rfl
 | 1,_=>rfl
 | 2,_=>rfl
 | 3,_=>rfl
 | 4,_=>rfl
 | 5,_=>rfl
 | 6,_=>rfl
 | 7,_=>rfl
theorem zxx (s:O8):ofV (toV s)=s:=rfl
theorem z119 {α:Type} (h:O8) (b:List UInt8) (k:O8→α):∃ s,gr (toV h) b=toV s∧grK h b k=k s:=by
 refine ⟨add8 h (zpn z7w.toList (z5j b 48) h 64),?_,?_⟩
 ·unfold gr
  rw [zxx,zyj]
 ·unfold grK
  have e:wL 16 b=z5j b 0:=z113 16 b
  rw [z11g,e,z10i b _ 48 0]
  have:=z10u z7w.toList (z5j b 48) zkf (by rw [zbg]) h (fun s=>k (add8 h s)) 64 0 rfl (by omega)
  rw [← this]
  simp only [zfp]
  rfl
def blkK {α:Type}:Nat→O8→List UInt8→(O8→α)→α
 | 0,h,b,k=>k h
 | n+1,h,b,k=>grK h (b.take 64) fun s=>blkK n s (b.drop 64) k
theorem zr8 {α:Type}:∀ (n:Nat) (h:O8) (b:List UInt8) (k:O8→α),b.length=64 * n→∃ s,blk (toV h) b=toV s∧blkK n h b k=k s
 | 0,h,b,k,hb=>⟨h,zle (by omega),rfl⟩
 | n+1,h,b,k,hb=>by
  obtain ⟨s,s1,s2⟩:=z119 h (b.take 64) (fun s=>blkK n s (b.drop 64) k)
  obtain ⟨t,t1,t2⟩:=zr8 n s (b.drop 64) k (by rw [List.length_drop]; omega)
  refine ⟨t,?_,?_⟩
  ·rw [zll (by omega),s1,t1]
  ·rw [blkK,s2,t2]
def H8:O8:=(1779033703,3144134277,1013904242,2773480762,1359893119,2600822924,528734635,1541459225)
def shaK {α:Type} (b:List UInt8) (k:O8→α):α:=fB (b++tl b.length) fun m=>blkK (m.length / 64) H8 m k
theorem z115 (n:Nat):(n+(tl n).length) % 64=0:=by
 unfold tl z7a zrs
 simp
 omega
theorem zy5 {α:Type} (b:List UInt8) (k:O8→α):∃ s,sha b=wr (toV s)∧shaK b k=k s:=by
 have hl:=z115 b.length
 obtain ⟨s,s1,s2⟩:=zr8 ((b++tl b.length).length / 64) H8 (b++tl b.length) k (by rw [List.length_append]; omega)
 refine ⟨s,?_,?_⟩
 ·unfold sha
  rw [show H0=toV H8 from rfl,s1]
 ·unfold shaK
  rw [z105,s2]
def zyz (b:List UInt8) (s:O8):Bool:=shaK b fun t=>t==s
theorem z11f {b:List UInt8} {s:O8} (h:zyz b s=true):sha b=wr (toV s):=by
 unfold zyz at h
 obtain ⟨t,t1,t2⟩:=zy5 b (fun t=>t==s)
 rw [t2] at h
 rw [t1,eq_of_beq h]
end
section
open Go
@[irreducible] def idv (s:O8):V3:=wr (toV s)
theorem zqr {b:List UInt8} {s:O8} (h:zyz b s=true):sha b=idv s:=by rw [idv]; exact z11f h
def wds (s:O8):List UInt32:=[s.1,s.2.1,s.2.2.1,s.2.2.2.1,s.2.2.2.2.1,s.2.2.2.2.2.1,s.2.2.2.2.2.2.1,s.2.2.2.2.2.2.2]
@[irreducible] def wrL (s:O8):List UInt8:=(List.range 32).map fun i=>(z54 ((wds s).getD (i / 4) 0) (24 - 8 * (i % 4))).toUInt8
theorem zpu {α:Type} (n:Nat) (g:Nat→α):(Vector.ofFn (fun i:Fin n=>g i.val)).toList=(List.range n).map g:=by
 apply List.ext_getElem
 ·simp
 ·intro i h1 h2
  simp
theorem zye (h:Vector UInt32 8):(wr h).toList=(List.range 32).map fun i=>(z54 (h.toList.getD (i / 4) 0) (24 - 8 * (i % 4))).toUInt8:=by
 rw [← zpu 32 (fun i=>(z54 (h.toList.getD (i / 4) 0) (24 - 8 * (i % 4))).toUInt8)]
 have:∀ i (hi:i / 4<8),h[i / 4]=h.toList.getD (i / 4) 0:=fun i hi=>by
  rw [List.getD_eq_getElem?_getD,List.getElem?_eq_getElem (by simpa using hi)]
  simp
 unfold wr
 exact congrArg (fun f=>(Vector.ofFn f).toList) (funext fun i=>by rw [this i.val (by omega)])
theorem zpb (s:O8):(idv s).toList=wrL s:=by
 rw [idv,zye,wrL]
 rfl
theorem zx0 (s:O8):kd (idv s)=nk (wrL s):=by unfold kd; rw [zpb]
theorem zov:∀ P:List O8,zci (P.map idv)=P.flatMap wrL
 | []=>rfl
 | a::l=>by
  have:=zov l
  unfold zci at this ⊢
  rw [List.map_cons,List.flatMap_cons,List.flatMap_cons,this,zpb]
end
section
open Go
def ia8:O8:=(970372312,2442032114,4196713698,873319014,2597337110,1109282703,3353382519,590280687)
def ib8:O8:=(3577164125,4011542332,3331852227,3499622753,1708370532,3436663303,883092666,547847311)
def xa0:z01:=⟨4,[],7,⟨2,[97],⟨0,0,0,[]⟩⟩,⟨5,6⟩⟩
def xb0:z01:=⟨4,[idv ia8],7,⟨2,[97],⟨0,0,0,[]⟩⟩,⟨5,6⟩⟩
def ea:List UInt8:=[111,4,0,7,2,1,97,5,6]
def eb:List UInt8:=[111,4,1]++(wrL ia8++[7,2,1,97,5,6])
theorem zix (n:Nat) (h:n≤247):z0a n=[UInt8.ofNat n]:=by unfold z0a; rw [if_pos h]
theorem zzd:z7p xa0=ea:=by
 unfold z7p msg
 rw [if_neg (by decide),if_neg (by decide)]
 unfold head zpl
 rw [zix xa0.Author.toNat (by decide),zix xa0.Preds.length (by decide),zix xa0.Stamp.toNat (by decide),zix xa0.Act.Key.length (by decide),zix xa0.Sig.E.toNat (by decide),zix xa0.Sig.S.toNat (by decide)]
 rfl
theorem z12e:z7p xb0=eb:=by
 unfold z7p msg
 rw [if_neg (by decide),if_neg (by decide)]
 unfold head zpl
 rw [zix xb0.Author.toNat (by decide),zix xb0.Preds.length (by decide),zix xb0.Stamp.toNat (by decide),zix xb0.Act.Key.length (by decide),zix xb0.Sig.E.toNat (by decide),zix xb0.Sig.S.toNat (by decide)]
 rw [show zci xb0.Preds=wrL ia8 from by
  show zci ([ia8].map idv)=_
  rw [zov]; simp]
 unfold eb
 simp only [List.append_assoc]
 rfl
theorem z117:z9s xa0=true:=by
 unfold z9s
 have h:inG xa0.Author.toNat:=zz0 zzr 1
 rw [decide_eq_true h]
 decide
theorem zww:z18 xa0=0:=by
 unfold z18
 rw [if_neg (by decide),if_neg (by decide),if_pos z117]
theorem z10w:z18 xb0=0:=by
 unfold z18
 rw [if_neg (by decide),if_neg (by show ¬ zcs [idv ia8]=false; simp [zcs]),if_pos (show z9s xb0=true from z117)]
set_option maxRecDepth 100000 in
theorem zrg:oid xa0=idv ia8:=by
 unfold oid
 rw [zzd]
 exact zqr (by decide +kernel)
set_option maxRecDepth 100000 in
theorem zqe:oid xb0=idv ib8:=by
 unfold oid
 rw [z12e]
 exact zqr (by decide +kernel)
theorem zzu:kd (idv ia8)<kd (idv ib8):=by rw [zx0,zx0]; decide +kernel
theorem zs8:idv ia8≠idv ib8:=fun e=>by have:=zzu; rw [e] at this; exact absurd this (Nat.lt_irrefl _)
theorem wf_a:inI xa0.Act.Value.Num∧xa0.Act.Value.Text.length≤9223372036854775807:=⟨⟨by decide, by decide⟩, by decide⟩
theorem wf_l {l:List z01} (h:∀ o∈l,o=xa0∨o=xb0):wfO l:=fun o ho=>by
 rcases h o ho with e | e <;> subst e <;> exact wf_a
theorem zs9 {l:List z01} (h:∀ o∈l,o=xa0∨o=xb0):∀ o∈l,z18 o=0:=fun o ho=>by
 rcases h o ho with e | e <;> subst e
 ·exact zww
 ·exact z10w
theorem zk8 {l m:List z01} (hl:l.length≤60) (hc:∀ o∈l,z18 o=0) (hn:(l.map oid).Nodup) (h:zaf l=m.map nmd) (hm:m.length=l.length):zef l=(m.map nmd,0):=by
 unfold zef
 rw [if_neg (by omega),if_neg (by rw [(zak l).2 hc]; simp),if_neg (fun h=>h ((zc9 l).nodup_iff.2 hn))]
 unfold zaf at h
 rw [h,if_pos (by simp [hm])]
theorem zxh (o:z01):zdx [o]=[nmd o]:=List.perm_singleton.1 (z7t [o])
theorem zsa (o:z01) (h:oid o∉o.Preds):zaf [o]=[o].map nmd:=by
 unfold zaf
 rw [zxh]
 have hf:free (z8l [nmd o]) (nmd o)=true:=by
  unfold free
  rw [List.all_eq_true]
  intro p hp
  have:p∉z8l [nmd o]:=fun h2=>by
   simp only [z8l,List.map_cons,List.map_nil,List.mem_singleton] at h2
   subst h2
   exact h hp
  simp [this]
 show z9k 1 [nmd o]=[nmd o]
 unfold z9k
 rw [List.findIdx?_cons,hf]
 rfl
theorem zxy:zdx [xb0,xa0]=[nmd xa0,nmd xb0]:=by
 have hp:(zdx [xb0,xa0]).Perm [nmd xa0,nmd xb0]:=(z7t _).trans (List.Perm.swap _ _ _)
 have ha:(nmd xa0).id=idv ia8:=zrg
 have hb:(nmd xb0).id=idv ib8:=zqe
 have hlt:=zzu
 refine hp.eq_of_pairwise (le:=fun a b:z05=>kd a.id≤kd b.id) (fun a b h1 h2 h3 h4=>?_) (zec _) ?_
 ·have h1:=hp.mem_iff.1 h1
  simp only [List.mem_cons,List.not_mem_nil,or_false] at h1 h2
  rcases h1 with e | e <;> rcases h2 with e2 | e2 <;> rw [e,e2] at h3 h4 ⊢
  ·rw [ha,hb] at h3 h4; omega
  ·rw [ha,hb] at h3 h4; omega
 ·simp only [List.pairwise_cons,List.mem_cons,List.not_mem_nil,or_false,List.Pairwise.nil,and_true]
  refine ⟨fun x hx=>?_, fun x hx=>hx.elim⟩
  rw [hx,ha,hb]; omega
theorem zyw:zaf [xb0,xa0]=[xa0,xb0].map nmd:=by
 unfold zaf
 rw [zxy]
 have ha:(nmd xa0).id=idv ia8:=zrg
 have hb:(nmd xb0).id=idv ib8:=zqe
 have hf:free (z8l [nmd xa0,nmd xb0]) (nmd xa0)=true:=rfl
 have hf2:free (z8l [nmd xb0]) (nmd xb0)=true:=by
  unfold free z8l
  rw [List.map_cons,List.map_nil,hb]
  have:idv ia8∉[idv ib8]:=by simp [zs8]
  show ([idv ia8].all fun p=>!decide (p∈[idv ib8]))=true
  simp [this,zs8]
 show z9k 2 [nmd xa0,nmd xb0]=[nmd xa0,nmd xb0]
 unfold z9k
 rw [List.findIdx?_cons,hf]
 show nmd xa0::z9k 1 [nmd xb0]=_
 unfold z9k
 rw [List.findIdx?_cons,hf2]
 rfl
theorem z12h:nop xb0=xa0:=rfl
theorem z123:nop xa0=xa0:=rfl
theorem z10o (names:List ID) (i:Nat):opB names i xa0=[9]++ea++[0]:=by
 unfold opB
 rw [z123,zzd,zix ea.length (by decide),zix xa0.Preds.length (by decide)]
 rfl
theorem z10n (names:List ID) (i:Nat):opB names i xb0=[9]++ea++[1]++z8p names i (idv ia8):=by
 unfold opB
 rw [z12h,zzd,zix ea.length (by decide),zix xb0.Preds.length (by decide)]
 show _++[idv ia8].flatMap (z8p names i)=_
 rw [List.flatMap_cons,List.flatMap_nil,List.append_nil]
 rfl
theorem zvc:z2r []=some ([112,0],0):=by
 have h:zef []=([].map nmd,0):=zk8 (l:=[]) (m:=[]) (by simp) (by simp) (by simp) (by
  unfold zaf
  rfl) rfl
 rw [zf9 [] (fun o ho=>by simp at ho),h,if_pos rfl]
 unfold zau zli
 rw [zix _ (by simp)]
 rfl
theorem z104:z2r [xa0]=some ([112,1,9]++ea++[0],0):=by
 have hm:∀ o∈[xa0],o=xa0∨o=xb0:=fun o ho=>.inl (by simpa using ho)
 rw [zf9 [xa0] (wf_l hm),zk8 (m:=[xa0]) (by simp) (zs9 hm) (by simp) (zsa xa0 (by simp [xa0])) rfl,if_pos rfl]
 show some (zau [xa0],(0:Int))=_
 unfold zau zli
 rw [zix _ (by simp)]
 show some ([112,1]++(List.range 1).flatMap (fun k=>opB ([xa0].map oid) k (opJ [xa0] k)),(0:Int))=_
 rw [show List.range 1=[0] from rfl,List.flatMap_cons,List.flatMap_nil, show opJ [xa0] 0=xa0 from rfl,z10o]
 rfl
theorem z10m:z2r [xb0]=some ([112,1,9]++ea++[1,0]++(idv ia8).toList,0):=by
 have hm:∀ o∈[xb0],o=xa0∨o=xb0:=fun o ho=>.inr (by simpa using ho)
 have hb:oid xb0∉xb0.Preds:=by
  rw [zqe]
  show idv ib8∉[idv ia8]
  simp [zs8.symm]
 rw [zf9 [xb0] (wf_l hm),zk8 (m:=[xb0]) (by simp) (zs9 hm) (by simp) (zsa xb0 hb) rfl,if_pos rfl]
 show some (zau [xb0],(0:Int))=_
 unfold zau zli
 rw [zix _ (by simp)]
 show some ([112,1]++(List.range 1).flatMap (fun k=>opB ([xb0].map oid) k (opJ [xb0] k)),(0:Int))=_
 rw [show List.range 1=[0] from rfl,List.flatMap_cons,List.flatMap_nil, show opJ [xb0] 0=xb0 from rfl,z10n]
 have:z8p ([xb0].map oid) 0 (idv ia8)=0::(idv ia8).toList:=by
  unfold z8p
  rw [if_neg (by rw [List.map_cons,List.map_nil,zqe]; simp [zs8])]
 rw [this]
 simp
theorem zxv:z2r [xb0,xa0]=some ([112,2,9]++ea++[0]++([9]++ea++[1,1]),0):=by
 have hm:∀ o∈[xb0,xa0],o=xa0∨o=xb0:=fun o ho=>by
  simp only [List.mem_cons,List.not_mem_nil,or_false] at ho
  exact ho.symm
 have hn:([xb0,xa0].map oid).Nodup:=by
  rw [List.map_cons,List.map_cons,List.map_nil,zrg,zqe]
  simp [zs8.symm]
 rw [zf9 [xb0,xa0] (wf_l hm),zk8 (m:=[xa0,xb0]) (by simp) (zs9 hm) hn zyw rfl,if_pos rfl]
 show some (zau [xa0,xb0],(0:Int))=_
 unfold zau zli
 rw [zix _ (by simp)]
 show some ([112,2]++(List.range 2).flatMap (fun k=>opB ([xa0,xb0].map oid) k (opJ [xa0,xb0] k)),(0:Int))=_
 rw [show List.range 2=[0,1] from rfl,List.flatMap_cons,List.flatMap_cons,List.flatMap_nil, show opJ [xa0,xb0] 0=xa0 from rfl, show opJ [xa0,xb0] 1=xb0 from rfl,z10o,z10n]
 have:z8p ([xa0,xb0].map oid) 1 (idv ia8)=[1]:=by
  unfold z8p
  rw [List.map_cons,List.map_cons,List.map_nil,zrg,zqe,if_pos (by simp),List.idxOf_cons_self,zix _ (by decide)]
  rfl
 rw [this]
 simp
theorem zha {l:List z01} {b:List UInt8} (h:z2r l=some (b,0)) (hb:b.length≤1000) {c:List UInt8} (hc:b=c):z3z l c=some true:=by
 subst hc
 unfold z3z
 rw [h]
 simp only [bS]
 rw [if_pos (by rfl),zkl _ _ (by omega)]
 simp
theorem zve:z8a=some (xa0,xb0,true):=by
 unfold z8a
 rw [show zo3 (⟨4,[],7,(⟨2,([97]:List UInt8),(⟨0,0,0,[]⟩:z00)⟩:z07),(⟨5,6⟩:z08)⟩:z01)=some (idv ia8,0) from by
  have h:=znf xa0 wf_a.1 wf_a.2
  rw [if_pos zww] at h
  have e:sha (z7p xa0)=idv ia8:=zrg
  rw [e] at h; exact h]
 rfl
theorem zmt:z87=some true:=by
 unfold z87
 rw [zve]
 simp only [bS]
 rw [if_neg (by simp)]
 rw [z1m (by simp)]
 simp only [bS]
 rw [z1m (by simp)]
 simp only [bS]
 rw [z1m (by simp)]
 simp only [bS]
 rw [z1m (by simp)]
 simp only [bS]
 rw [z1m (by simp)]
 simp only [bS]
 rw [z1m (by simp)]
 simp only [bS]
 rw [z1m (by simp)]
 simp only [bS]
 rw [show idx xb0.Preds 0=some (idv ia8) from rfl]
 simp only [bS]
 rw [z1m (by simp)]
 simp only [bS]
 rw [z1m (by simp)]
 simp only [bS]
 rw [zha zvc (by simp) rfl]
 simp only [bS]
 rw [if_pos trivial,zha z104 (by simp [ea]) (by simp [ea])]
 simp only [bS]
 rw [if_pos trivial,zha zxv (by simp [ea]) (by simp [ea])]
 simp only [bS]
 rw [if_pos trivial,zha z10m (by simp [ea]) (by simp [ea])]
 rfl
end
section
open Go
theorem zvf {a:z01} (h:z18 a=0) (hI:inI a.Act.Value.Num):(z7p a).length≤318:=by
 have h1:=zk4 h hI
 have l1:=z0c a.Sig.E.toNat (by have:=UInt32.toNat_lt a.Sig.E; omega)
 have l2:=z0c a.Sig.S.toNat (by have:=UInt32.toNat_lt a.Sig.S; omega)
 unfold z7p
 simp only [List.length_append]; omega
theorem zuk {o:z01} (h:z18 o=0) (hI:inI o.Act.Value.Num) (names:List ID) (i:Nat) (hi:i≤1000):(opB names i o).length≤468:=by
 have h1:=zvf (zf6 h) hI
 have h2:=z0c (z7p (nop o)).length (by omega)
 have h3:=(z4g h).1
 have h4:=z0c o.Preds.length (by omega)
 have h5:=z9p (z8p names i) 33 o.Preds (fun x _=>zd6 names i x hi)
 unfold opB
 simp only [List.length_append]
 omega
theorem zq3 {m:List z01} (hw:wfO m) (hl:m.length≤60) (hc:∀ o∈m,z18 o=0):(zau m).length≤30000:=by
 have h1:=z0c m.length (by omega)
 have h2:=z9p (fun k=>opB (m.map oid) k (opJ m k)) 468 (List.range m.length) (fun k hk=>by
  have hk:k<m.length:=by simpa using hk
  rw [z9v hk]
  have hm:=List.getElem_mem hk
  exact zuk (hc _ hm) (hw _ hm).1 _ _ (by omega))
 rw [List.length_range] at h2
 unfold zau zli
 simp only [List.length_append,List.length_cons]
 omega
theorem zew.len {M:List z01} (h:zew M) (hw:wfO M):(zau M).length≤30000:=zq3 hw (zal h.1).2.1 (zal h.1).2.2.1
theorem zpd (l:List z01) (hl:l.length≤1000):∀ (i:Nat) (acc:List z01),i≤l.length→acc.length+i≤1000→iter (z2q l) (acc,(i:Int) - 1)=some (acc++(l.take i).reverse)
 | 0,acc,_,_=>by
  refine z1w ?_
  unfold z2q
  rw [if_neg (by simp)]; simp
 | i+1,acc,hi,ha=>by
  have hlt:i<l.length:=by omega
  have e:((i+1:Nat):Int) - 1=(i:Int):=by omega
  have hF:z2q l (acc,((i+1:Nat):Int) - 1)=some (.inr (acc++[l[i]],(i:Int) - 1)):=by
   unfold z2q
   rw [e,if_pos (by simp)]
   simp only [z0x hlt,bs]
   rw [z1m (by simp; omega)]
   simp only [bs,z0v (show -9223372036854775808≤(i:Int) - 1 by omega) (by omega)]
  rw [z2g hF,zpd l hl i _ (by omega) (by simp; omega)]
  have:List.take (i+1) l=List.take i l++[l[i]]:=List.take_succ_eq_append_getElem hlt
  rw [this]; simp only [List.reverse_append,List.reverse_cons,List.reverse_nil,List.nil_append,List.append_assoc]
theorem zew.small {M:List z01} (h:zew M):M.length≤60∧∀ o∈M,o.Preds.length≤4:=⟨(zal h.1).2.1, fun o ho=>(z4g ((zal h.1).2.2.1 o ho)).1⟩
theorem zgj {M:List z01} (h:zew M):z38 M M=some true:=by
 have:=h.small
 rw [zqg M M (by omega) (fun o ho=>by have:=this.2 o ho; omega)]; simp
theorem zew.sort {M:List z01} (h:zew M) (hw:wfO M):zao M=some (M,0):=by rw [zrf M hw,h.1,if_pos rfl,h.2]
theorem zk6 (a0:List z01) (a1:List UInt8) (w0:(∀ x∈a0,zf8 x)∧a0.length≤9223372036854775807) (w1:(∀ x∈a1,(fun _=>True) x)∧a1.length≤9223372036854775807):z8i a0 a1=some true:=by
 have hw:=zzs w0
 obtain ⟨b,h1,h2⟩:=zvw a0
 unfold z8i
 rw [zmt]
 simp only [bS]
 rw [h1]
 simp only [bS]
 cases b with
 | true=>rfl
 | false =>
  have S:=h2 rfl
  have hsl:a0.length≤70:=S.ops
  simp only [Bool.false_eq_true,if_false]
  by_cases hb:3000<a1.length
  ·rw [if_pos (by simp; omega)]; rfl
  rw [if_neg (by simp; omega)]
  simp only [bS,Bool.not_true,Bool.false_eq_true,if_false]
  rw [zpo a0 hw]
  simp only [bS]
  have first:∀ K:Unit→Option Bool,z6n (if (zef a0).2==0 then
   iter (z2q a0) ([],w64 ((a0.length:Int) - 1)) >>= fun s13 =>
   z2r a0 >>= fun r26 =>
   z2r s13 >>= fun r28 =>
   zao a0 >>= fun r30 =>
   z73 r26.1 >>= fun r32 =>
   if r26.2 != 0 then
    some (.inl false)
   else
    if r28.2 != 0 then
     some (.inl false)
    else
     if r30.2 != 0 then
      some (.inl false)
     else
      if r32.2 != 0 then
       some (.inl false)
      else
       z2p r26.1 r28.1 >>= fun r38 =>
       if !r38 then
        some (.inl false)
       else
        z38 r32.1 r30.1 >>= fun r41 =>
        if !r41 then
         some (.inl false)
        else
         if (r30.1.length:Int) != (a0.length:Int) then
          some (.inl false)
         else
          if decide (30000<(r26.1.length:Int)) then
           some (.inl false)
          else
           some (.inr ())
   else
    some (.inr ())) K=K ():=by
   intro K
   by_cases h0:(zef a0).2=0
   ·obtain ⟨e,hl,hc,hn,hcl⟩:=zal h0
    have hM:=zsc hcl
    have hC:=zp7 h0
    have hwM:=zk2 hM.perm hw
    have hlen:=hC.len hwM
    have hrev:=zml (List.reverse_perm a0) h0
    have hwr:wfO a0.reverse:=zk2 (List.reverse_perm a0) hw
    rw [if_pos (by simpa using h0),z0v (by omega) (by omega),zpd a0 (by omega) a0.length [] (Nat.le_refl _) (by simp; omega),List.take_length,List.nil_append]
    simp only [bS]
    rw [zbh a0 hw,zbh a0.reverse hwr,zrf a0 hw,hrev.1,hrev.2,h0,if_pos rfl,if_pos rfl]
    simp only [bS,if_true]
    rw [zk0 hC hwM hlen]
    simp only [bS,bne_self_eq_false,Bool.false_eq_true,if_false]
    rw [zkl _ _ (by omega),decide_eq_true rfl]
    simp only [bS,Bool.not_true,Bool.false_eq_true,if_false]
    rw [zgj hC]
    simp only [bS,Bool.not_true,Bool.false_eq_true,if_false]
    rw [if_neg (by rw [hM.perm.length_eq]; simp),if_neg (by simp only [decide_eq_true_eq]; omega),zmh]
   ·rw [if_neg (by simpa using h0),zmh]
  rw [first]
  rcases zxr a1 (by omega) with ⟨M,hp,hr⟩ | ⟨-,hr⟩
  ·obtain ⟨hC,hwM,hpk⟩:=hp
   rw [hr]
   simp only [bS]
   rw [if_neg (by simp),hC.write hwM]
   simp only [bS]
   rw [hC.sort hwM]
   simp only [bS,if_true,beq_self_eq_true]
   rw [zkl _ _ (by have:=hC.len hwM; omega),hpk,decide_eq_true rfl]
   simp only [bS,if_true]
   rw [zgj hC]; rfl
  ·rw [hr]; rfl
end
end Go.Proofs.YtojceajkeefnpaaGreatDoor
