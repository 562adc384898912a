import Derived.Test.YtojceajkeefnpaaGreatDoorRe
set_option linter.unusedSimpArgs false
set_option linter.unusedVariables false
namespace Go.Proofs.YtojceajkeefnpaaGreatDoor
section
open Go
theorem z121 {a:z03} (h:z1h a=0) (hI:inI a.Act.Value.Num):(z8n a).length≤318:=by
 have h1:=zkt h hI;have l1:=z0n a.Sig.E.toNat (by have:=UInt32.toNat_lt a.Sig.E; omega);have l2:=z0n a.Sig.S.toNat (by have:=UInt32.toNat_lt a.Sig.S; omega);unfold z8n;simp only [List.length_append]; omega
theorem z13n {o:z03} (h:z1h o=0) (hI:inI o.Act.Value.Num) (names:List ID) (i:Nat) (hi:i≤1000):(opB names i o).length≤468:=by
 have h1:=z121 (zen h) hI;have h2:=z0n (z8n (nop o)).length (by omega);have h3:=(z33 h).1;have h4:=z0n o.Preds.length (by omega);have h5:=z9d (z82 names i) 33 o.Preds (fun x _=>zcz names i x hi);unfold opB;simp only [List.length_append];omega
theorem zxt {m:List z03} (hw:wfO m) (hl:m.length≤60) (hc:∀ o∈m,z1h o=0):(zfk m).length≤30000:=by
 have h1:=z0n m.length (by omega)
 have h2:=z9d (fun k=>opB (m.map oid) k (opJ m k)) 468 (List.range m.length) (fun k hk=>by
  have hk:k<m.length:=by simpa using hk
  rw [zbd hk];have hm:=List.getElem_mem hk
  exact z13n (hc _ hm) (hw _ hm).1 _ _ (by omega))
 rw [List.length_range] at h2;unfold zfk zqz;simp only [List.length_append,List.length_cons];omega
theorem zkm.len {M:List z03} (h:zkm M) (hw:wfO M):(zfk M).length≤30000:=zxt hw (zc1 h.1).2.1 (zc1 h.1).2.2.1
theorem zkm.small {M:List z03} (h:zkm M):M.length≤60∧∀ o∈M,o.Preds.length≤4:=⟨(zc1 h.1).2.1, fun o ho=>(z33 ((zc1 h.1).2.2.1 o ho)).1⟩
theorem zs8 {M:List z03} (h:zkm M):z1t M M=some true:=by
 have:=h.small
 rw [zfe M M (by omega) (fun o ho=>by have:=this.2 o ho; omega)]; simp
end
section
open Go
theorem u64s (i:Nat):UInt64.ofNat i+1=UInt64.ofNat (i+1):=by
 apply UInt64.toNat_inj.1
 simp
theorem z13f {i n:Nat} (hi:i≤1000) (hn:n≤1000):decide (UInt64.ofNat i<UInt64.ofNat n)=decide (i<n):=by
 rw [decide_eq_decide,UInt64.lt_iff_toNat_lt];have e1:(UInt64.ofNat i).toNat=i:=by simp; omega
 have e2:(UInt64.ofNat n).toNat=n:=by simp; omega
 rw [e1,e2]
theorem z12f (b:List UInt8):(z2f b 400 1).1.length≤400:=by
 by_cases h:(z2f b 400 1).2.2=0
 ·exact z116 h
 ·by_cases h2:(z0h b).2.2≠0∨(400:Int)<((z0h b).1:Int)∨(b.length - (z0h b).2.1) / 1<(z0h b).1
  ·rw [zea (by decide) h2]; simp
  ·rw [z8v (by decide) h2] at h; exact absurd rfl h
def rpS (ids:List ID) (o:z03) (c:z08) (acc:List ID) (i:Nat):Sum (Sum (z03 × z08) ((List ID) × z08)) (z08 × (List ID) × UInt64) :=
 match rpN ids.length c.b with
 | some (n,r)=>if h:0<n∧n≤ids.length then .inr (⟨r,true⟩,acc++[ids[ids.length - n]'(by omega)],UInt64.ofNat (i+1))
   else if 32≤r.length then .inr (⟨r.drop 32,true⟩,acc++[zg4 (Vector.replicate 32 0) (r.take 32)],UInt64.ofNat (i+1))
   else .inl (.inl (⟨o.Author,acc,o.Stamp,o.Act,o.Sig⟩,⟨r,false⟩))
 | none=>if 32≤c.b.length then .inr (⟨c.b.drop 32,false⟩,acc++[zg4 (Vector.replicate 32 0) (c.b.take 32)],UInt64.ofNat (i+1))
   else .inl (.inl (⟨o.Author,acc,o.Stamp,o.Act,o.Sig⟩,⟨c.b,false⟩))
theorem z148 (r:List UInt8) (h:32≤r.length):cut r 0 32=some (r.take 32):=by
 have:=z5i (b:=r) (i:=0) (j:=32) (by omega) h
 rw [show ((0:Nat):Int)=0 from rfl, show ((32:Nat):Int)=32 from rfl] at this;rw [this]; simp
theorem z173 (r:List UInt8) (h:32≤r.length):cut r 32 (r.length:Int)=some (r.drop 32):=by
 have:=z5i (b:=r) (i:=32) (j:=r.length) h (Nat.le_refl _)
 rw [show ((32:Nat):Int)=32 from rfl] at this;rw [this,List.take_of_length_le (Nat.le_of_eq List.length_drop)]
theorem znj (ids:List ID) (hi:ids.length≤60) (o:z03) (e:Int) (n:Nat) (c0 c:z08) (acc:List ID) (i:Nat) (hb:c.b.length≤100000) (ha:acc.length≤100) (hn:i<n) (hn2:n≤1000) (hok:c.ok=true) :
  z14 ids (o,e) (UInt64.ofNat n,c0) (c,acc,UInt64.ofNat i)=some (rpS ids o c acc i):=by
 obtain ⟨b,ok⟩:=c;simp only at hok hb;subst hok;unfold z14 rpS;simp only;rw [z13f (by omega) hn2,if_pos (by simpa using hn),if_pos trivial,zn6 ⟨b,true⟩ _ ids.length (zan (by omega)) hb];simp only [bs]
 cases hr:rpN ids.length b with
 | none =>
  rw [show rkN ⟨b,true⟩ none=(0,⟨b,false⟩) from rfl];simp only;rw [if_neg (show ¬ decide ((0:UInt64)<0)=true by simp)];by_cases h32:32≤b.length
  ·rw [if_neg (by simp; omega),if_pos h32,z148 _ h32];simp only [bs];rw [z1m (by simp only [List.length_cons,List.length_nil]; omega)];simp only [bs];rw [z173 _ h32];simp only [bs,u64s]
  ·rw [if_pos (by simp; omega),if_neg h32]
 | some x =>
  obtain ⟨m,r⟩:=x;have hl:=zgx hr;rw [show rkN ⟨b,true⟩ (some (m,r))=(UInt64.ofNat m,⟨r,true⟩) from rfl];simp only;have em:(UInt64.ofNat m).toNat=m:=by simp; omega
  have hd:decide (0<UInt64.ofNat m)=decide (0<m):=by rw [decide_eq_decide,UInt64.lt_iff_toNat_lt,em]; rfl
  rw [hd];by_cases h:0<m∧m≤ids.length
  ·rw [if_pos (by simpa using h.1),dif_pos h,em,z13 (x:=(m:Int)) (by omega) (by omega)];have e':w64 ((ids.length:Int) - (m:Int))=((ids.length - m:Nat):Int):=by rw [z13 (by omega) (by omega)]; omega
   rw [e',z0p (by omega)];simp only [bs];rw [z1m (by simp only [List.length_cons,List.length_nil]; omega)];simp only [bs,u64s]
  ·rw [if_neg (show ¬ decide (0<m)=true by rw [decide_eq_true_eq]; omega),dif_neg h];by_cases h32:32≤r.length
   ·rw [if_neg (by simp; omega),if_pos h32,z148 _ h32];simp only [bs];rw [z1m (by simp only [List.length_cons,List.length_nil]; omega)];simp only [bs];rw [z173 _ h32];simp only [bs,u64s]
   ·rw [if_pos (by simp; omega),if_neg h32]
theorem zl4 (ids:List ID) (o:z03) (e:Int) (n:UInt64) (c0 c:z08) (acc:List ID) (i:UInt64) (h:¬ (decide (i<n)=true∧c.ok=true)) :
  z14 ids (o,e) (n,c0) (c,acc,i)=some (.inl (.inr (acc,c))):=by
 unfold z14;simp only;by_cases h1:decide (i<n)=true
 ·rw [if_pos h1,if_neg (fun h2=>h ⟨h1,h2⟩)]
 ·rw [if_neg h1]
theorem zlc (ids:List ID) (hi:ids.length≤60) (o:z03) (e:Int) (n:Nat) (hn:n≤4) (c0 c:z08) (hb:c.b.length≤30000) (acc0:List ID) (h0:acc0.length≤10):∃ q,iter (z14 ids (o,e) (UInt64.ofNat n,c0)) (c,acc0,0)=some q ∧
  ((∃ ps r,q=.inl (⟨o.Author,ps,o.Stamp,o.Act,o.Sig⟩,r)∧r.b.length≤c.b.length)∨∃ ps r,q=.inr (ps,r)∧r.b.length≤c.b.length):=by
 refine zq8 (F:=z14 ids (o,e) (UInt64.ofNat n,c0)) n (fun i s=>s.2.2=UInt64.ofNat i∧s.1.b.length≤c.b.length∧s.2.1.length≤i+10) _ ?_ ?_ n 0 (c,acc0,0) (by omega) (by omega) ⟨rfl,Nat.le_refl _, by omega⟩
 ·rintro i ⟨s1,s2,s3⟩ hin ⟨e1,e2,e3⟩
  simp only at e1 e2 e3;subst e1
  cases hok:s1.ok with
  | false=>exact .inr ⟨_,zl4 ids o e _ c0 s1 s2 _ (by rw [hok]; simp),.inr ⟨s2,s1,rfl,e2⟩⟩
  | true =>
   have hs:=znj ids hi o e n c0 s1 s2 i (by omega) (by omega) hin (by omega) hok;unfold rpS at hs
   cases hr:rpN ids.length s1.b with
   | none =>
    rw [hr] at hs;simp only at hs;by_cases h32:32≤s1.b.length
    ·rw [if_pos h32] at hs;exact .inl ⟨_,hs,rfl, by show (s1.b.drop 32).length≤_; rw [List.length_drop]; omega, by simp only [List.length_append,List.length_cons,List.length_nil]; omega⟩
    ·rw [if_neg h32] at hs;exact .inr ⟨_,hs,.inl ⟨s2,⟨s1.b,false⟩,rfl,e2⟩⟩
   | some x =>
    obtain ⟨m,r⟩:=x;have hl:=zgx hr;rw [hr] at hs;simp only at hs;by_cases h:0<m∧m≤ids.length
    ·rw [dif_pos h] at hs;exact .inl ⟨_,hs,rfl, by show r.length≤_; omega, by simp only [List.length_append,List.length_cons,List.length_nil]; omega⟩
    ·rw [dif_neg h] at hs;by_cases h32:32≤r.length
     ·rw [if_pos h32] at hs;exact .inl ⟨_,hs,rfl, by show (r.drop 32).length≤_; rw [List.length_drop]; omega, by simp only [List.length_append,List.length_cons,List.length_nil]; omega⟩
     ·rw [if_neg h32] at hs;exact .inr ⟨_,hs,.inl ⟨s2,⟨r,false⟩,rfl, by show r.length≤_; omega⟩⟩
 ·rintro ⟨s1,s2,s3⟩ ⟨e1,e2,e3⟩
  simp only at e1 e2 e3;subst e1;exact ⟨_,zl4 ids o e _ c0 s1 s2 _ (by rw [z13f (by omega) (by omega)]; simp),.inr ⟨s2,s1,rfl,e2⟩⟩
theorem zsb (ids:List ID) (hi:ids.length≤60) (o:z03) (e:Int) (ps:List ID) (hp:ps.length≤4) (rest:List UInt8) (hr:rest.length≤50000) (c0:z08) :
  iter (z14 ids (o,e) (UInt64.ofNat ps.length,c0)) (⟨ps.flatMap (z82 ids ids.length)++rest,true⟩,[],0)=some (.inr (ps,⟨rest,true⟩)):=by
 have hlen:∀ i,((ps.drop i).flatMap (z82 ids ids.length)).length≤33 * (ps.drop i).length:=fun i=>z9d _ 33 _ fun x _=>zcz _ _ _ (by omega);have h:=z3m (F:=z14 ids (o,e) (UInt64.ofNat ps.length,c0)) (b:=.inr (ps,(⟨rest,true⟩:z08))) ps.length (fun i=>((⟨(ps.drop i).flatMap (z82 ids ids.length)++rest,true⟩:z08),ps.take i,UInt64.ofNat i))
  (fun i hin=>by
   have h1:=hlen i;rw [List.length_drop] at h1;rw [znj ids hi o e ps.length c0 _ _ i (by simp only [List.length_append]; omega) (by rw [List.length_take]; omega) hin (by omega) rfl];unfold rpS;simp only;rw [List.drop_eq_getElem_cons hin,List.flatMap_cons,List.append_assoc,List.take_succ_eq_append_getElem hin];by_cases hm:ps[i]∈ids
   ·have hlt:=List.idxOf_lt_length_of_mem hm;rw [zvl hm,zgh (by omega) (by omega)];simp only;rw [dif_pos ⟨by omega, by omega⟩];have e:ids.length - (ids.length - ids.idxOf ps[i])=ids.idxOf ps[i]:=by omega
    simp only [e,List.getElem_idxOf]
   ·rw [zt1 hm,List.append_assoc,zgh (by omega) (by omega)];simp only;have hv:zg4 (Vector.replicate 32 0) ((ps[i].toList++((ps.drop (i+1)).flatMap (z82 ids ids.length)++rest)).take 32)=ps[i]:=by
     rw [List.take_left' (by simp)]
     have:=zp6 ps[i] []
     rw [List.append_nil] at this; exact this
    rw [dif_neg (by omega),if_pos (by simp only [List.length_append,Vector.length_toList]; omega),hv,List.drop_left' (by simp)])
  (by
   rw [zl4 ids o e _ c0 _ _ _ (by simp)]
   simp)
 simpa using h
end
section
open Go
theorem cu4:((4:UInt64)).toNat=4:=rfl
theorem cu60:((60:UInt64)).toNat=60:=rfl
theorem zxk (b:List UInt8):(zy0 b).1.Preds.length≤4:=by
  rcases (zhq b).2 with ⟨o,ho,_,_,_,hd⟩ | hd
  · rw [hd]; exact (z33 ho).1
  · rw [hd]; exact Nat.zero_le _
theorem z139 (ids:List ID) (hi:ids.length≤60) (d:z03 × Int) (hw:wf1 d.1) (hp:d.1.Preds.length≤4) (b1:List UInt8) (hb:b1.length≤30000):∃ o c',(z5o (iter (z14 ids d (rkN ⟨b1,true⟩ (rpN 4 b1))) ((rkN ⟨b1,true⟩ (rpN 4 b1)).2,d.1.Preds,0)) fun s15=>some ((⟨d.1.Author,s15.1,d.1.Stamp,d.1.Act,d.1.Sig⟩:z03),s15.2))=some (o,c')∧c'.b.length≤b1.length∧wf1 o:=by
  obtain ⟨d1,d2⟩:=d;simp only at hw hp ⊢
  cases hr:rpN 4 b1 with
  | none =>
    rw [show rkN ⟨b1,true⟩ none=(UInt64.ofNat 0,⟨b1,false⟩) from rfl];obtain ⟨q,hq,h⟩:=zlc ids hi d1 d2 0 (by decide) ⟨b1,false⟩ ⟨b1,false⟩ hb d1.Preds (by omega);simp only;rw [hq];rcases h with ⟨ps,r,rfl,h2⟩ | ⟨ps,r,rfl,h2⟩
    · exact ⟨_,r,rfl,h2,hw⟩
    · exact ⟨⟨d1.Author,ps,d1.Stamp,d1.Act,d1.Sig⟩,r,rfl,h2,hw⟩
  | some y =>
    obtain ⟨n,r1⟩:=y;have hn:=zgx hr;rw [show rkN ⟨b1,true⟩ (some (n,r1))=(UInt64.ofNat n,⟨r1,true⟩) from rfl];obtain ⟨q,hq,h⟩:=zlc ids hi d1 d2 n hn.1 ⟨r1,true⟩ ⟨r1,true⟩ (by show r1.length≤_; omega) d1.Preds (by omega);simp only;rw [hq];rcases h with ⟨ps,r,rfl,h2⟩ | ⟨ps,r,rfl,h2⟩
    · exact ⟨_,r,rfl,Nat.le_trans h2 hn.2,hw⟩
    · exact ⟨⟨d1.Author,ps,d1.Stamp,d1.Act,d1.Sig⟩,r,rfl,Nat.le_trans h2 hn.2,hw⟩
theorem z10c (c:z08) (hb:c.b.length≤30000) (ids:List ID) (hi:ids.length≤60):∃ o c',z1k c ids=some (o,c')∧c'.b.length≤c.b.length∧wf1 o:=by
  obtain ⟨b,ok⟩:=c;simp only at hb ⊢;unfold z1k;simp only;rw [zdm b (by omega) 400 (by decide)];simp only [bs];rw [zpq _ (by have:=z12f b; omega)];simp only [bs]
  cases ok with
  | false=>exact ⟨zO,⟨b,false⟩,rfl,Nat.le_refl _,zwy⟩
  | true =>
    rw [if_neg (by simp)];by_cases he:(z2f b 400 1).2.2=0
    · have hp:=zdr he
      rw [if_neg (by simp [he])];simp only [bs];have hl:(b.drop (z2f b 400 1).2.1).length≤b.length:=by rw [List.length_drop]; omega
      by_cases hx:(zy0 (z2f b 400 1).1).2=0
      · rw [if_neg (by simp [hx]),z5i hp.2.2 (Nat.le_refl _),List.take_of_length_le (Nat.le_of_eq List.length_drop)]
        simp only [bs];rw [zn6 ⟨b.drop (z2f b 400 1).2.1,true⟩ 4 4 cu4 (by show (b.drop _).length≤_; omega)];simp only [bs];obtain ⟨o,c',h1,h2,h3⟩:=z139 ids hi (zy0 (z2f b 400 1).1) (z11a _) (zxk _) (b.drop (z2f b 400 1).2.1) (by omega);exact ⟨o,c',h1,Nat.le_trans h2 hl,h3⟩
      · rw [if_pos (by simpa using hx)]
        exact ⟨zO,⟨b,false⟩,rfl,Nat.le_refl _,zwy⟩
    · rw [if_pos (by simp; omega)]
      exact ⟨zO,⟨b,false⟩,rfl,Nat.le_refl _,zwy⟩
theorem zzd {o:z03} (hc:z1h o=0) (hI:inI o.Act.Value.Num) (ids:List ID) (hi:ids.length≤60) (rest:List UInt8) (hr:rest.length≤40000):z1k ⟨opB ids ids.length o++rest,true⟩ ids=some (o,⟨rest,true⟩):=by
  have hn:=zen hc;have hIn:inI (nop o).Act.Value.Num:=hI;have hle:=zgu hn hIn;have hp:=(z33 hc).1;have hob:=ztn hc hI ids ids.length (by omega);have eb:opB ids ids.length o++rest=(z0g (z8n (nop o)).length++z8n (nop o))++(z0g o.Preds.length++(o.Preds.flatMap (z82 ids ids.length)++rest)):=by unfold opB; simp only [List.append_assoc]
  have hpl:=z9d (z82 ids ids.length) 33 o.Preds (fun x _=>zcz _ _ _ (by omega));have hnl:=z0n o.Preds.length (by omega);have hpart:=zui (lim:=400) (s:=z8n (nop o)) (by omega) (by omega) (z0g o.Preds.length++(o.Preds.flatMap (z82 ids ids.length)++rest));unfold z1k;simp only;rw [eb,zdm _ (by rw [← eb,List.length_append]; omega) 400 (by decide),hpart];simp only [bs];rw [zpq _ (by omega),(zhq _).1 (nop o) hn hIn rfl]
  simp only [bs];rw [if_neg (by simp),if_neg (by simp)];simp only [bs];rw [if_neg (by simp),z5i (by simp only [List.length_append]; omega) (Nat.le_refl _),List.take_of_length_le (Nat.le_of_eq List.length_drop)];rw [← List.length_append,List.drop_left];simp only [bs];rw [zn6 ⟨z0g o.Preds.length++(o.Preds.flatMap (z82 ids ids.length)++rest),true⟩ 4 4 cu4 (by simp only [List.length_append]; omega),zgh (by omega) (by omega)]
  simp only [bs];rw [show rkN ⟨z0g o.Preds.length++(o.Preds.flatMap (z82 ids ids.length)++rest),true⟩ (some (o.Preds.length,o.Preds.flatMap (z82 ids ids.length)++rest))=(UInt64.ofNat o.Preds.length,⟨o.Preds.flatMap (z82 ids ids.length)++rest,true⟩) from rfl, show (nop o).Preds=[] from rfl];simp only;rw [zsb ids hi (nop o) 0 o.Preds hp rest (by omega)];rfl
theorem zpj (n : Nat) (hn2 : n ≤ 1000) (c0 c : z08) (ops : List z03) (ids : List ID) (i : Nat) (hn : i < n) (ho : ops.length ≤ 100) (hi : ids.length ≤ 100) (hok : c.ok = true) {o : z03} {c' : z08} (h : z1k c ids = some (o, c')) (hw : wf1 o) :
    z3i (UInt64.ofNat n,c0) (c,ops,ids,UInt64.ofNat i)=some (if c'.ok=true∧z1h o=0 then .inr (c',ops++[o],ids++[oid o],UInt64.ofNat (i+1)) else .inr (⟨c'.b,false⟩,ops,ids,UInt64.ofNat (i+1))):=by
  unfold z3i;simp only;rw [z13f (by omega) hn2,if_pos (by simpa using hn),if_pos hok,h];simp only [bs];by_cases hk:c'.ok=true
  · rw [if_pos hk,zfs o hw.2]
    simp only [bs];by_cases hc:z1h o=0
    · rw [if_pos (by simp [hc]),if_pos (show c'.ok=true∧z1h o=0 from ⟨hk,hc⟩),z1m (by simp only [List.length_cons,List.length_nil]; omega)]
      simp only [bs];rw [zqi o hc hw.1];simp only [bs];rw [z1m (by simp only [List.length_cons,List.length_nil]; omega)];simp only [bs,u64s]; rfl
    · rw [if_neg (by simpa using hc),if_neg (show ¬ (c'.ok=true∧z1h o=0) from fun h=>hc h.2)]
      simp only [bs,u64s]
  · rw [if_neg hk,if_neg (show ¬ (c'.ok=true∧z1h o=0) from fun h=>hk h.1)]
    simp only [bs,u64s,Bool.false_eq_true,if_false]
theorem zmp (n:UInt64) (c0 c:z08) (ops:List z03) (ids:List ID) (i:UInt64) (h:¬ (decide (i<n)=true∧c.ok=true)):z3i (n,c0) (c,ops,ids,i)=some (.inl (c,ops)):=by
  unfold z3i;simp only;by_cases h1:decide (i<n)=true
  · rw [if_pos h1,if_neg (fun h2=>h ⟨h1,h2⟩)]
  · rw [if_neg h1]
theorem zpl (n:Nat) (hn:n≤60) (c0 c:z08) (hb:c.b.length≤30000):∃ r,iter (z3i (UInt64.ofNat n,c0)) (c,[],[],0)=some r∧wfO r.2:=by
  refine zq8 (F:=z3i (UInt64.ofNat n,c0)) n (fun i s=>s.2.2.2=UInt64.ofNat i∧s.1.b.length≤30000∧s.2.1.length≤i∧s.2.2.1.length≤i∧wfO s.2.1) (fun r=>wfO r.2) ?_ ?_ n 0 (c,[],[],0) (by omega) (by omega) ⟨rfl,hb,Nat.le_refl _,Nat.le_refl _, fun o ho=>by cases ho⟩
  · rintro i ⟨s1,s2,s3,s4⟩ hin ⟨e1,e2,e3,e4,e5⟩
    simp only at e1 e2 e3 e4 e5;subst e1
    cases hok:s1.ok with
    | false=>exact .inr ⟨_,zmp _ c0 s1 s2 s3 _ (by rw [hok]; simp),e5⟩
    | true =>
      obtain ⟨o,c',h,hl,hw⟩:=z10c s1 e2 s3 (by omega);have hs:=zpj n (by omega) c0 s1 s2 s3 i hin (by omega) (by omega) hok h hw;by_cases hx:c'.ok=true∧z1h o=0
      · rw [if_pos hx] at hs
        refine .inl ⟨_,hs,rfl,Nat.le_trans hl e2, by simp; omega, by simp; omega,?_⟩;intro q hq;rcases List.mem_append.1 hq with hq | hq
        · exact e5 q hq
        · rw [List.mem_singleton.1 hq]; exact hw
      · rw [if_neg hx] at hs
        exact .inl ⟨_,hs,rfl,Nat.le_trans hl e2,Nat.le_succ_of_le e3,Nat.le_succ_of_le e4,e5⟩
  · rintro ⟨s1,s2,s3,s4⟩ ⟨e1,e2,e3,e4,e5⟩
    simp only at e1 e2 e3 e4 e5;subst e1;exact ⟨_,zmp _ c0 s1 s2 s3 _ (by rw [z13f (by omega) (by omega)]; simp),e5⟩
theorem zww (b:List UInt8) (h:30000<b.length):z3r b=some ([],4):=by
  unfold z3r;rw [if_pos (by simp; omega)]
theorem zri (ops : List z03) (hw : wfO ops) (b : List UInt8) (hb : b.length ≤ 30000) (ok : Bool) : ∃ r, ((if !ok then some (ops, true) else
          z8i ops >>= fun r39 =>
          if r39 != 0 then
            some (ops,true)
          else
            z63 ops >>= fun r42 =>
            z1t r42 ops >>= fun r44 =>
            if !r44 then
              some (ops,true)
            else
              z8m ops >>= fun r47 =>
              z3e r47 b >>= fun r49 =>
              some (ops,!r49)) >>= fun s37 =>
        if s37.2 then
          some (([]:List z03),(12:Int))
        else
          some (s37.1,0))=some r∧((ok=true∧zk3 b ops∧r=(ops,0))∨(¬ (ok=true∧zk3 b ops)∧r=([],12))):=by
  cases ok with
  | false=>exact ⟨_,rfl,.inr ⟨by simp,rfl⟩⟩
  | true =>
    rw [if_neg (by simp),zxq ops hw];simp only [bs];by_cases h0:(zjb ops).2=0
    · obtain ⟨e,hl,hc,hn,hcl⟩:=zc1 h0
      have hM:=zvx hcl;rw [if_neg (by simp [h0]),zmu ops hw hl hc hn];simp only [bs];rw [zfe _ _ (by rw [hM.perm.length_eq]; omega) (fun o ho=>by have:=(z33 (hc o (hM.perm.mem_iff.1 ho))).1; omega)];simp only [bs];by_cases hs:(zdj ops).map (·.o)=ops
      · have hC:zkm ops:=⟨h0,hs⟩
        rw [decide_eq_true hs,if_neg (by simp),zxu ops hw hl hc hC.topo];simp only [bs];rw [zqh _ _ (by have:=hC.len hw; omega)];simp only [bs];by_cases hp:zfk ops=b
        · rw [decide_eq_true hp]
          exact ⟨_,rfl,.inl ⟨by trivial,⟨hC,hw,hp⟩,rfl⟩⟩
        · rw [decide_eq_false hp]
          exact ⟨_,rfl,.inr ⟨fun h=>hp h.2.2.2,rfl⟩⟩
      · rw [decide_eq_false hs]
        exact ⟨_,rfl,.inr ⟨fun h=>hs h.2.1.2,rfl⟩⟩
    · rw [if_pos (by simpa using h0)]
      exact ⟨_,rfl,.inr ⟨fun h=>h0 h.2.1.1,rfl⟩⟩
end
section
open Go
variable {g a b:z0f}
structure Fit (g:z0f) (n:Nat):Prop where
 ids:g.IDs.length=g.Ops.length
 len:g.Ops.length≤n
 ri:zbc g.IDs=true
 op:∀ o∈g.Ops,o.Preds.length≤20∧o.Act.Key.length≤100∧o.Act.Value.Text.length≤100
theorem z17x (G:zpr g) (S:zv0 g):Fit g g.Ops.length:=⟨G.e.ids,Nat.le_refl _,G.e.ri, fun o ho=>by
 obtain ⟨i,hi,rfl⟩:=List.getElem_of_mem ho
 exact S.op i hi⟩
end
section
open Go
variable {g h a b:z0f} {n m:Nat}
def zz9 (g:z0f) (x:ID):Option z03:=if x∈g.IDs then g.Ops[g.IDs.idxOf x]? else none
theorem zvv (F:Fit g n) {x:ID} {o:z03}:zz9 g x=some o↔∃ i:Nat,g.IDs[i]? = some x∧g.Ops[i]? = some o:=by
 unfold zz9
 constructor
 ·intro h
  split at h
  ·rename_i hx;exact ⟨_, by rw [List.getElem?_eq_getElem (List.idxOf_lt_length_of_mem hx)]; simp,h⟩
  ·cases h
 ·rintro ⟨i,h1,h2⟩
  obtain ⟨hi,rfl⟩:=List.getElem?_eq_some_iff.1 h1;rw [if_pos (List.getElem_mem hi),zlz F.ri hi,h2]
theorem z137 (F:Fit g n) {i:Nat} (hi:i<g.Ops.length):zz9 g (g.IDs[i]'(by rw [F.ids]; exact hi))=some g.Ops[i] :=
 (zvv F).2 ⟨i,List.getElem?_eq_getElem (by rw [F.ids]; exact hi),List.getElem?_eq_getElem hi⟩
def z18b (g:z0f) (rk:ID→Nat):Prop:=∀ x o,zz9 g x=some o→∀ p∈o.Preds,rk p<rk x
theorem z167 (G:zpr g) (F:Fit g n):∃ rk,z18b g rk:=by
 obtain ⟨Q,-,q1,q2,q3⟩:=zvr G.e G.ins;refine ⟨fun x=>Q.idxOf (g.IDs.idxOf x), fun x o ho p hp=>?_⟩;obtain ⟨i,h1,h2⟩:=(zvv F).1 ho;obtain ⟨hi,rfl⟩:=List.getElem?_eq_some_iff.1 h1;obtain ⟨hio,rfl⟩:=List.getElem?_eq_some_iff.1 h2;have hiQ:i∈Q:=(q3 i).2 ⟨hio,G.wf i hio⟩;have hk:Q.idxOf i<Q.length:=List.idxOf_lt_length_of_mem hiQ;show Q.idxOf (g.IDs.idxOf p)<Q.idxOf (g.IDs.idxOf g.IDs[i]);rw [zlz F.ri hi]
 have hm:=q2 (Q.idxOf i) hk (g.IDs.idxOf p) (by
  have:Q[Q.idxOf i]=i:=by simp
  rw [this];unfold z4q
  exact List.mem_map.2 ⟨p, by rw [zel hio]; exact hp,rfl⟩)
 obtain ⟨j,hj,e⟩:=List.getElem_of_mem hm;rw [List.length_take] at hj;rw [List.getElem_take] at e
 have:Q.idxOf (g.IDs.idxOf p)≤j:=by
  rw [← e];exact Nat.le_of_not_lt fun c=>by
   have:=List.not_of_lt_findIdx (p:=fun y=>y==Q[j]) (xs:=Q) (i:=j) (by simpa [List.idxOf] using c)
   simp at this
 omega
end
section
open Go
variable {g:z0f}
theorem zzs (g:z0f) (m:Nat→Bool):∀ i,zwv g m i=((List.range i).filter m).map (zga g)
 | 0=>rfl
 | i+1=>by
  have ih:=zzs g m i;rw [List.range_succ,List.filter_append,List.map_append,← ih]
  cases hm:m i with
  | true=>rw [z13r hm,List.filter_cons_of_pos (by exact hm)]; rfl
  | false=>rw [z13x hm,List.filter_cons_of_neg (by rw [hm]; simp)]; simp
theorem zpp (g:z0f) (m:Nat→Bool):zwv g m g.Ops.length=znq g m:=zzs g m _
end
section
open Go
variable {g:z0f} {n:Nat}
theorem z142 {α:Type} (f:α→Nat):∀ l:List α,l≠[]→∃ x∈l,∀ y∈l,f x≤f y
 | [],h=>absurd rfl h
 | [x],_=>⟨x, by simp, fun y hy=>by rw [List.mem_singleton.1 hy]; exact Nat.le_refl _⟩
 | x::z::l,_=>by
  obtain ⟨y,hy,hm⟩:=z142 f (z::l) (by simp);by_cases h:f x≤f y
  ·refine ⟨x, by simp, fun w hw=>?_⟩;rcases List.mem_cons.1 hw with rfl | hw
   ·exact Nat.le_refl _
   ·exact Nat.le_trans h (hm w hw)
  ·refine ⟨y,List.mem_cons_of_mem _ hy, fun w hw=>?_⟩;rcases List.mem_cons.1 hw with rfl | hw
   ·omega
   ·exact hm w hw
theorem zsf (rk:ID→Nat):∀ (n:Nat) (left:List z0d),left.length=n→(∀ x∈left,∀ p∈x.o.Preds,p∈zbb left→rk p<rk x.id)→(zcv n left).length=n
 | 0,left,_,_=>rfl
 | n+1,left,h,hr=>by
  obtain ⟨x,hx,hm⟩:=z142 (fun x:z0d=>rk x.id) left (fun e=>by rw [e] at h; simp at h);have hf:free (zbb left) x=true:=by
   unfold free;rw [List.all_eq_true];intro p hp;rw [Bool.not_eq_true',decide_eq_false_iff_not];intro hpl;have h1:=hr x hx p hp hpl;unfold zbb at hpl;obtain ⟨y,hy,rfl⟩:=List.mem_map.1 hpl
   have:=hm y hy
   omega
  cases hi:left.findIdx? (free (zbb left)) with
  | none =>
   have:=List.findIdx?_eq_none_iff.1 hi x hx
   rw [hf] at this; cases this
  | some i =>
   obtain ⟨hil,hfr,-⟩:=List.findIdx?_eq_some_iff_getElem.1 hi;have e:zcv (n+1) left=left[i]'hil::zcv n (left.eraseIdx i):=by
    conv=>lhs; unfold zcv
    rw [hi];simp only [];rw [List.getElem?_eq_getElem hil]
   rw [e,List.length_cons,zsf rk n (left.eraseIdx i) (by rw [List.length_eraseIdx_of_lt hil]; omega) ?_];intro y hy p hp hpl;refine hr y (List.mem_of_mem_eraseIdx hy) p hp ?_;rw [zfi] at hpl;exact List.mem_of_mem_eraseIdx hpl
theorem z17u {l:List z03} (h6:l.length≤60) (hc:∀ o∈l,z1h o=0) (hn:(l.map oid).Nodup) (rk:ID→Nat) (hr:∀ o∈l,∀ p∈o.Preds,p∈l.map oid→rk p<rk (oid o)):(zjb l).2=0:=by
 have hp:=zbh l;have hcl:(zdj l).length=l.length:=by
  refine zsf rk l.length (zin l) (zmd l) fun x hx p hp' hpl=>?_;obtain ⟨o,ho,rfl⟩:=List.mem_map.1 (hp.mem_iff.1 hx);exact hr o ho p hp' ((zer l).mem_iff.1 hpl)
 have f:zow l=0:=(zdu l).2 hc;have hnn:(zbb (zin l)).Nodup:=(zer l).nodup_iff.2 hn;unfold zjb;rw [if_neg (by omega),if_neg (by rw [f]; simp),if_neg (by exact fun h=>h hnn)]
 show (if (zdj l).length=l.length then (zdj l,0) else _).2=0;rw [if_pos hcl]
theorem zzi (G:zpr g) {i:Nat} (hi:i<g.Ops.length):oid g.Ops[i]=g.IDs[i]'(by rw [G.e.ids]; exact hi):=by
 have:=(G.ops i hi).2
 rw [zar (by rw [G.e.ids]; exact hi)] at this; exact this
theorem z15k (G:zpr g) (F:Fit g n) {o:z03} (ho:o∈g.Ops):zz9 g (oid o)=some o:=by
 obtain ⟨i,hi,rfl⟩:=List.getElem_of_mem ho;rw [zzi G hi]; exact z137 F hi
theorem zp5 (l:List ID) (x:ID) (hl:l.length≤9223372036854775806):∀ (rest pre:List ID),l=pre++rest→iter (z3a l x) (pre.length:Int)=some (if x∈rest then .inl ((pre.length+rest.idxOf x:Nat):Int) else .inr ())
 | [],pre,e=>by
  refine z1l ?_;subst e;unfold z3a;rw [if_neg (by simp)]
  simp
 | c::rest,pre,e=>by
  have hlen:pre.length<l.length:=by rw [e]; simp
  have hget:l[pre.length]'hlen=c:=by subst e; simp
  have hF:z3a l x (pre.length:Int)=if decide (x=c) then some (.inl (.inl (pre.length:Int))) else some (.inr ((pre.length+1:Nat):Int)):=by
   unfold z3a;rw [if_pos (by simpa using hlen),z0p hlen,hget,z0u (by omega)];simp only [bS]
  by_cases hc:x=c
  ·rw [decide_eq_true hc,if_pos rfl] at hF;rw [z1l hF,if_pos (by simp [hc])];simp [hc]
  ·rw [decide_eq_false hc,if_neg (by simp)] at hF;have ih:=zp5 l x hl rest (pre++[c]) (by simp [e]);simp only [List.length_append,List.length_cons,List.length_nil,Nat.zero_add] at ih;rw [z29 hF,ih];by_cases hx:x∈rest
   ·have hi:(c::rest).idxOf x=rest.idxOf x+1:=by
     rw [List.idxOf_cons, show (c==x)=false by simpa using fun e:c=x=>hc e.symm]; rfl
    rw [if_pos hx,if_pos (by simp [hx]),hi]
    congr 3; omega
   ·rw [if_neg hx,if_neg (by simp [hx]; exact hc)]
theorem zy5 (l:List ID) (x:ID) (hl:l.length≤9223372036854775806):z3x l x=some (decide (x∈l)):=by
 have h:=zp5 l x hl l [] rfl;unfold z3x z6s;rw [show (0:Int)=(([]:List ID).length:Int) from rfl,h];by_cases hx:x∈l
 ·rw [if_pos hx,decide_eq_true hx]; simp [or_l,bS]
 ·rw [if_neg hx,decide_eq_false hx]; rfl
theorem zy2 {i:Nat} (hi:i<g.Ops.length):g.Ops[i]?.toList=[g.Ops[i]]:=by rw [List.getElem?_eq_getElem hi]; rfl
theorem z10w (G:zpr g) (m:Nat→Bool):∀ i,i≤g.Ops.length→(zm1 g m i).map oid=zwv g m i
 | 0,_=>rfl
 | i+1,hi=>by
  have ih:=z10w G m i (by omega)
  cases hm:m i with
  | false=>rw [z10g hm,z13x hm,ih]
  | true =>
   rw [zzo hm,z13r hm,zy2 (by omega),List.map_append,ih,List.map_singleton,zzi G (by omega),zar (by rw [G.e.ids]; omega)]
end
section
open Go
variable {g h:z0f} {m:Nat→Bool} {W:List z03} {k:Nat}
structure Rest (g:z0f) (m:Nat→Bool) (W:List z03):Prop where
 ids:∀ y,y∈W.map oid↔y∈g.IDs∧m (g.IDs.idxOf y)=false
 ops:∀ o∈W,o∈g.Ops
 nodup:(W.map oid).Nodup
 topo:zsg W
theorem z15s (G:zpr g) (F:Fit g 60) (S:zv0 g) (w:z85 g) (m:Nat→Bool):∃ W,zgt (zm1 g (fun i=>!m i) g.Ops.length)=some (W,0)∧Rest g m W∧W.length=(zm1 g (fun i=>!m i) g.Ops.length).length:=by
 have hids:=z10w G (fun i=>!m i) g.Ops.length (Nat.le_refl _);have hsub:∀ o∈zm1 g (fun i=>!m i) g.Ops.length,o∈g.Ops:=zm6 g _ _;have hlen:=zjn g (fun i=>!m i) g.Ops.length;have hinc:zbc (zwv g (fun i=>!m i) g.Ops.length)=true:=by rw [zpp]; exact zrg G.e _
 have hmem:∀ y,y∈zwv g (fun i=>!m i) g.Ops.length↔y∈g.IDs∧m (g.IDs.idxOf y)=false:=fun y=>by
  rw [zpp,ztp G.e]; simp
 generalize zm1 g (fun i=>!m i) g.Ops.length=l at hids hsub hlen ⊢;have hl:=G.e.len;have hn:(l.map oid).Nodup:=by rw [hids]; exact zp1 hinc
 obtain ⟨rk,hrk⟩:=z167 G F
 have h0:(zjb l).2=0:=z17u (by omega) (fun o ho=>by
  obtain ⟨i,hi,rfl⟩:=List.getElem_of_mem (hsub o ho)
  exact zcb (G.ops i hi).1) hn rk (fun o ho p hp _=>hrk _ _ (z15k G F (hsub o ho)) p hp)
 have hw:wfO l:=fun o ho=>z15h w (hsub o ho);have hcl:=(zc1 h0).2.2.2.2;have hM:=zvx hcl;refine ⟨(zdj l).map (·.o), by rw [z101 l hw,h0,if_pos rfl],⟨fun y=>?_, fun o ho=>hsub o (hM.perm.mem_iff.1 ho),(hM.perm.map oid).nodup_iff.2 hn,hM.topo⟩,hM.perm.length_eq⟩;rw [(hM.perm.map oid).mem_iff,hids,hmem]
end
section
open Go
theorem zw9 (b:List UInt8) (hb:b.length≤30000):(∃ M,zk3 b M∧z3r b=some (M,0))∨((∀ M,¬ zk3 b M)∧z3r b=some ([],12)):=by
 by_cases hex:∃ M,zk3 b M
 ·left
  obtain ⟨M,hC,hw,rfl⟩:=hex;refine ⟨M,⟨hC,hw,rfl⟩,?_⟩;obtain ⟨-,hl,hc,-,-⟩:=zc1 hC.1;have ht:=zr3 hb;have hT:=hC.topo;have hend:=zri M hw (zfk M) hb true;unfold z3r;rw [if_neg (by simp; omega)];rw [zf9] at hb hend ⊢;generalize hr:z0g M.length++zci M 0=r at hb hend ⊢;rw [if_neg (by simp; omega)];have i0:idx (112::r) 0=some (112:UInt8):=z0p (l:=112::r) (i:=0) (by simp);have hcu:cut (112::r) 1 ((112::r).length:Int)=some r:=by
   have:=z5i (b:=112::r) (i:=1) (j:=(112::r).length) (by simp) (by simp)
   rw [show ((1:Nat):Int)=1 from rfl] at this;rw [this]; simp
  rw [i0];simp only [bs];rw [if_neg (by simp),hcu];simp only [bs];simp only [List.length_cons] at hb;rw [zn6 ⟨r,true⟩ 60 60 cu60 (by show r.length≤_; omega)];simp only [bs];rw [← hr,zgh (by omega) hl, show rkN ⟨z0g M.length++zci M 0,true⟩ (some (M.length,zci M 0))=(UInt64.ofNat M.length,⟨zci M 0,true⟩) from rfl];simp only;have hloop:=z3m (F:=z3i (UInt64.ofNat M.length,⟨zci M 0,true⟩)) (b:=((⟨[],true⟩:z08),M)) M.length (fun i=>((⟨zci M i,true⟩:z08),M.take i,(M.take i).map oid,UInt64.ofNat i))
   (fun i hin=>by
    have hci:=hc M[i] (List.getElem_mem hin);have hwi:=hw M[i] (List.getElem_mem hin);have hil:((M.take i).map oid).length=i:=by rw [List.length_map,List.length_take]; omega
    have hpop:z1k ⟨zci M i,true⟩ ((M.take i).map oid)=some (M[i],⟨zci M (i+1),true⟩):=by
     rw [zl3 M hin,zwf hT hin]
     have:=zzd hci hwi.1 ((M.take i).map oid) (by omega) (zci M (i+1)) (by have:=ht (i+1); omega);rw [hil] at this;exact this
    rw [zpj M.length (by omega) _ _ _ _ i hin (by rw [List.length_take]; omega) (by omega) rfl hpop hwi]
    rw [if_pos ⟨rfl,hci⟩,List.take_succ_eq_append_getElem hin,List.map_append]; rfl)
   (by
    rw [zmp _ _ _ _ _ _ (by simp),List.take_length,zsi])
  rw [show M.take 0=[] from rfl, show ([]:List z03).map oid=[] from rfl, show UInt64.ofNat 0=0 from rfl] at hloop;rw [hloop,hr];simp only [bs];obtain ⟨q,hq,h⟩:=hend;rcases h with ⟨_,_,rfl⟩ | ⟨h,_⟩
  ·exact hq
  ·exact absurd ⟨rfl,hC,hw, by rw [zf9,hr]⟩ h
 ·right
  refine ⟨fun M hM=>hex ⟨M,hM⟩,?_⟩;unfold z3r;rw [if_neg (by simp; omega)]
  cases b with
  | nil=>rfl
  | cons k r =>
   rw [if_neg (by simp; omega)];have i0:idx (k::r) 0=some k:=z0p (l:=k::r) (i:=0) (by simp);have hc:cut (k::r) 1 ((k::r).length:Int)=some r:=by
    have:=z5i (b:=k::r) (i:=1) (j:=(k::r).length) (by simp) (by simp)
    rw [show ((1:Nat):Int)=1 from rfl] at this;rw [this]; simp
   rw [i0];simp only [bs];by_cases hk:k=112
   ·rw [if_neg (by simp [hk]),hc];simp only [bs];have hb':=hb;simp only [List.length_cons] at hb';rw [zn6 ⟨r,true⟩ 60 60 cu60 (by show r.length≤_; omega)];simp only [bs];have hloop:∃ q,iter (z3i (rkN ⟨r,true⟩ (rpN 60 r))) ((rkN ⟨r,true⟩ (rpN 60 r)).2,[],[],0)=some q∧wfO q.2:=by
     cases hr:rpN 60 r with
     | none=>exact zpl 0 (by decide) ⟨r,false⟩ ⟨r,false⟩ (by show r.length≤_; omega)
     | some x =>
      obtain ⟨n,r1⟩:=x;have hl:=zgx hr;exact zpl n hl.1 ⟨r1,true⟩ ⟨r1,true⟩ (by show r1.length≤_; omega)
    obtain ⟨q,hq,hw⟩:=hloop;rw [hq];simp only [bs];obtain ⟨q2,hq2,h⟩:=zri q.2 hw (k::r) hb q.1.ok;rcases h with ⟨_,hp,_⟩ | ⟨_,rfl⟩
    ·exact absurd ⟨q.2,hp⟩ hex
    ·exact hq2
   ·rw [if_pos (by simpa using hk)]
theorem zvy {σ τ β γ:Type} {F:σ→Option (Sum β σ)} {G:τ→Option (Sum γ τ)} (f:σ→τ) (g:β→γ) (h:∀ s x,F s=some x→G (f s)=some (x.map g f)) (s:σ) (b:β) (hs:iter F s=some b):iter G (f s)=some (g b):=by
 refine iter.partial_correctness F (fun s b=>iter G (f s)=some (g b)) ?_ s b hs;intro it ih s b hb
 cases hF:F s with
 | none=>rw [hF] at hb; cases hb
 | some x =>
  have hG:=h s x hF;rw [hF] at hb
  cases x with
  | inl b'=>cases hb; exact z1l hG
  | inr s'=>rw [z29 hG]; exact ih s' b hb
theorem z153 (c:z0e) (n:Int):z5y c n=z2y c n:=rfl
theorem id_v (c:z0e):zd8 c=z7h c:=rfl
theorem z15t (ids:List ID) (r14:Int × z0e) (s:z0e × List ID × Int):z3w ids r14 (s.1.b,s.1.bad,s.2.1,s.2.2)=(z0y ids r14 s).map (Sum.map (fun q=>(q.1,q.2.b,q.2.bad)) (fun s=>(s.1.b,s.1.bad,s.2.1,s.2.2))):=by
 obtain ⟨c,acc,i⟩:=s;unfold z3w z0y;simp only [z153,id_v];by_cases h1:decide (i<r14.1)=true
 ·rw [if_pos h1,if_pos h1]
  cases z2y c (ids.length:Int) with
  | none=>rfl
  | some r19 =>
   simp only [bs];by_cases h2:decide (0<r19.1)=true
   ·rw [if_pos h2,if_pos h2]
    cases idx ids (w64 ((ids.length:Int) - r19.1)) with
    | none=>rfl
    | some x22 =>
     simp only [bs]
     cases app 32 acc [x22] with
     | none=>rfl
     | some x25=>rfl
   ·rw [if_neg h2,if_neg h2];by_cases h3:(!r19.2.bad)=true
    ·rw [if_pos h3,if_pos h3]
     cases z7h r19.2 with
     | none=>rfl
     | some r33 =>
      simp only [bs]
      cases app 32 acc [r33.1] with
      | none=>rfl
      | some x36=>rfl
    ·rw [if_neg h3,if_neg h3]; rfl
 ·rw [if_neg h1,if_neg h1]; rfl
theorem op_v (c:z0e) (ids:List ID) (r:z03 × z0e) (h:z1r c ids=some r):z4r c ids=some r:=by
 unfold z1r at h;unfold z4r
 cases h2:z49 c.b 400 with
 | none=>rw [h2] at h; cases h
 | some r2 =>
  rw [h2] at h;simp only [bs] at h ⊢;by_cases e2:(r2.2.2 != 0)=true
  ·rw [if_pos e2] at h ⊢; exact h
  ·rw [if_neg e2] at h ⊢
   cases h5:cut c.b r2.2.1 (c.b.length:Int) with
   | none=>rw [h5] at h; cases h
   | some x5 =>
    rw [h5] at h;simp only [bs] at h ⊢
    cases h7:zck r2.1 with
    | none=>rw [h7] at h; cases h
    | some r7 =>
     rw [h7] at h;simp only [bs] at h ⊢
     cases h10:(if (r7.2 != 0)=true then some true else some (decide (0<(r7.1.Preds.length:Int)))) with
     | none=>rw [h10] at h; cases h
     | some s10 =>
      rw [h10] at h;simp only [bs] at h ⊢
      cases s10 with
      | true=>exact h
      | false =>
       simp only [Bool.false_eq_true,if_false,z153] at h ⊢
       cases h14:z2y ({ c with b:=x5 }) 4 with
       | none=>rw [h14] at h; cases h
       | some r14 =>
        rw [h14] at h;simp only [bs] at h ⊢
        cases h13:iter (z0y ids r14) (r14.2,r7.1.Preds,0) with
        | none=>rw [h13] at h; cases h
        | some s13 =>
         rw [h13] at h
         have:=zvy (F:=z0y ids r14) (G:=z3w ids r14) (fun s=>(s.1.b,s.1.bad,s.2.1,s.2.2)) (fun q=>(q.1,q.2.b,q.2.bad)) (fun s x hx=>by rw [z15t,hx]; rfl) _ _ h13;simp only at this;rw [this];exact h
end
section
open Go
variable {g:z0f}
theorem z15b (r10:Int × z0e) (s:z0e × List z03 × List ID × Int) (x:Sum (Sum (List z03 × Int) (z0e × List z03)) (z0e × List z03 × List ID × Int)) (h:z42 r10 s=some x) :
  zbk r10 (s.1.b,s.1.bad,s.2.1,s.2.2.1,s.2.2.2)=some (x.map (Sum.map id (fun q=>(q.1.b,q.1.bad,q.2))) (fun s=>(s.1.b,s.1.bad,s.2.1,s.2.2.1,s.2.2.2))):=by
 obtain ⟨c,ops,ids,i⟩:=s;unfold z42 at h;unfold zbk;simp only at h ⊢;by_cases h1:decide (i<r10.1)=true
 ·rw [if_pos h1] at h ⊢
  cases h15:z1r c ids with
  | none=>rw [h15] at h; cases h
  | some r15 =>
   rw [h15] at h;rw [show (⟨c.b,c.bad⟩:z0e)=c from rfl,op_v c ids r15 h15];simp only [bs] at h ⊢
   cases h18:zs2 r15.1 with
   | none=>rw [h18] at h; cases h
   | some r18 =>
    rw [h18] at h;simp only [bs] at h ⊢;by_cases hb:r15.2.bad=true
    ·rw [if_pos hb] at h ⊢; cases h; rfl
    ·rw [if_neg hb] at h ⊢;by_cases he:(r18.2 != 0)=true
     ·rw [if_pos he] at h ⊢; cases h; rfl
     ·rw [if_neg he] at h ⊢
      cases h23:app 112 ops [r15.1] with
      | none=>rw [h23] at h; cases h
      | some x23 =>
       rw [h23] at h;simp only [bs] at h ⊢
       cases h25:app 32 ids [r18.1] with
       | none=>rw [h25] at h; cases h
       | some x25 =>
        rw [h25] at h;simp only [bs] at h ⊢
        cases h; rfl
 ·rw [if_neg h1] at h ⊢; cases h; rfl
theorem z104 (b:List UInt8) (r:List z03 × Int) (h:z9f b=some r):zb2 b=some r:=by
 unfold z9f at h;unfold zb2;by_cases h1:decide (30000<(b.length:Int))=true
 ·rw [if_pos h1] at h ⊢; exact h
 ·rw [if_neg h1] at h ⊢;by_cases h2:((b.length:Int)==0)=true
  ·rw [if_pos h2] at h ⊢; exact h
  ·rw [if_neg h2] at h ⊢
   cases h3:idx b 0 with
   | none=>rw [h3] at h; cases h
   | some x3 =>
    rw [h3] at h;simp only [bs] at h ⊢;by_cases h4:(x3 != 112)=true
    ·rw [if_pos h4] at h ⊢; exact h
    ·rw [if_neg h4] at h ⊢
     cases h6:cut b 1 (b.length:Int) with
     | none=>rw [h6] at h; cases h
     | some x6 =>
      rw [h6] at h;simp only [bs,z153] at h ⊢
      cases h10:z2y ⟨x6,false⟩ 60 with
      | none=>rw [h10] at h; cases h
      | some r10 =>
       rw [h10] at h;simp only [bs] at h ⊢
       cases h9:iter (z42 r10) (r10.2,[],[],0) with
       | none=>rw [h9] at h; cases h
       | some q =>
        rw [h9] at h;have hs:=zvy (F:=z42 r10) (G:=zbk r10) (fun s=>(s.1.b,s.1.bad,s.2.1,s.2.2.1,s.2.2.2)) (Sum.map id (fun q=>(q.1.b,q.1.bad,q.2))) (fun s x hx=>z15b r10 s x hx) _ _ h9;simp only at hs;rw [hs]
        cases q with
        | inl q=>exact h
        | inr q=>exact h
theorem zyw (b:List UInt8):∃ r,zb2 b=some r∧z3r b=some r∧z1t r.1 r.1=some true:=by
 have hnil:z1t [] []=some true:=by rw [zfe _ _ (by simp) (by simp)]; simp
 by_cases hb:b.length≤30000
 ·rcases z15w b hb with ⟨M,hM,hr⟩ | ⟨hno,hr⟩
  ·rcases zw9 b hb with ⟨M',hM',hr'⟩ | ⟨hno,_⟩
   ·have:=zp7 hM'.1 hM'.2.1 (by rw [hM'.2.2]; exact hb);rw [hM'.2.2,hr] at this
    injection this with this
    exact ⟨(M,0),z104 b _ hr, by rw [hr',this],zs8 hM.1⟩
   ·exact absurd hM (hno M)
  ·rcases zw9 b hb with ⟨M',hM',_⟩ | ⟨_,hr'⟩
   ·exact absurd hM' (hno M')
   ·exact ⟨_,z104 b _ hr,hr',hnil⟩
 ·exact ⟨_,z104 b _ (zyc b (by omega)),zww b (by omega),hnil⟩
theorem zu6 (G:zpr g) (l:List ID) (hl:l.length≤1000):iter (z9h g l) ([],0)=some (zm1 g (fun i=>!decide (zga g i∈l)) g.Ops.length):=by
 have hlen:=G.e.len;have hids:=G.e.ids;have h:=z3m (F:=z9h g l) (b:=zm1 g (fun i=>!decide (zga g i∈l)) g.Ops.length) g.Ops.length (fun i=>(zm1 g (fun i=>!decide (zga g i∈l)) i,(i:Int)))
  (fun i hi=>by
   have hii:i<g.IDs.length:=by omega
   have hsl:=zjn g (fun i=>!decide (zga g i∈l)) i;unfold z9h;rw [if_pos (by simp; omega)];simp only;rw [z0p hii];simp only [bS];rw [zy5 _ _ (by omega),← zar hii];simp only [bS]
   cases hm:decide (zga g i∈l) with
   | true=>rw [if_neg (by simp),z0u (by omega),z10g (by show (!decide (zga g i∈l))=false; rw [hm]; rfl)]
   | false =>
    rw [if_pos (by simp),z0p hi,z0u (by omega),zzo (by show (!decide (zga g i∈l))=true; rw [hm]; rfl),zy2 hi];simp only [bS];rw [z1m (by simp only [List.length_cons,List.length_nil]; omega)]
    simp only [bS])
  (by
   unfold z9h
   rw [if_neg (by simp; omega)])
 exact h
theorem zsl (G:zpr g) (l:List ID) (hl:l.length≤1000):iter (z5d g l) ([],0)=some (zm1 g (fun i=>!decide (zga g i∈l)) g.Ops.length):=by
 have hlen:=G.e.len;have hids:=G.e.ids;have h:=z3m (F:=z5d g l) (b:=zm1 g (fun i=>!decide (zga g i∈l)) g.Ops.length) g.Ops.length (fun i=>(zm1 g (fun i=>!decide (zga g i∈l)) i,(i:Int)))
  (fun i hi=>by
   have hii:i<g.IDs.length:=by omega
   have hsl:=zjn g (fun i=>!decide (zga g i∈l)) i;unfold z5d;rw [if_pos (by simp; omega)];simp only;rw [z0p hii];simp only [bS];rw [zwk _ _ (by omega),← zar hii];simp only [bS];by_cases hm:zga g i∈l
   ·rw [if_pos hm,if_neg (by simp),z0u (by omega),z10g (by show (!decide (zga g i∈l))=false; rw [decide_eq_true hm]; rfl)]
   ·rw [if_neg hm,if_pos (by decide),z0p hi,z0u (by omega),zzo (by show (!decide (zga g i∈l))=true; rw [decide_eq_false hm]; rfl),zy2 hi];simp only [bS];rw [z1m (by simp only [List.length_cons,List.length_nil]; omega)]
    simp only [bS])
  (by
   unfold z5d
   rw [if_neg (by simp; omega)])
 exact h
theorem ztc (w:z85 g) (S:zv0 g) (l:List ID) (hl:l.length≤80):∃ r,zd4 g l=some r∧z7d g l=some r∧z1t r.1 r.1=some true:=by
 have hnil:z1t [] []=some true:=by rw [zfe _ _ (by simp) (by simp)]; simp
 obtain ⟨c,c1,c2,c3⟩:=z13a w;unfold zd4 z7d;rw [c1,c2];simp only [bS];by_cases hc:c=0
 ·have G:=c3.1 hc;have hlen:=G.e.len;have F0:=z17x G S;have F:Fit g 60:=⟨F0.ids,hlen,F0.ri,F0.op⟩
  subst hc;simp only [bne_self_eq_false,Bool.false_eq_true,if_false];by_cases h60:60<l.length
  ·rw [if_pos (by simp; omega),if_pos (by simp; omega)];exact ⟨_,rfl,rfl,hnil⟩
  ·rw [if_neg (by simp; omega),if_neg (by simp; omega),zu6 G l (by omega),zsl G l (by omega)];simp only [bS];obtain ⟨W,hs,R,hWl⟩:=z15s G F S w (fun i=>decide (zga g i∈l));have hsub:∀ o∈zm1 g (fun i=>!decide (zga g i∈l)) g.Ops.length,o∈g.Ops:=zm6 g _ _;have hw:wfO (zm1 g (fun i=>!decide (zga g i∈l)) g.Ops.length):=fun o ho=>z15h w (hsub o ho);have hsl:=zjn g (fun i=>!decide (zga g i∈l)) g.Ops.length
   have hs':=hs;rw [z101 _ hw] at hs'
   injection hs' with hs'
   have h0:=congrArg Prod.snd hs';simp only at h0;rw [if_pos h0] at hs';have hW:=congrArg Prod.fst hs';simp only at hW;obtain ⟨e,hl',hc',hn',hcl⟩:=zc1 h0;rw [hs,zmu _ hw hl' hc' hn',hW];simp only [bS];refine ⟨_,rfl,rfl,?_⟩;simp only
   rw [zfe _ _ (by omega) (fun o ho=>by
    have hg:=R.ops o ho;obtain ⟨i,hi,rfl⟩:=List.getElem_of_mem hg
    have:=(G.e.op i hi).1; omega),decide_eq_true rfl]
 ·have hcb:(c != 0)=true:=by simpa using hc
  simp only [hcb,if_true];exact ⟨_,rfl,rfl,hnil⟩
theorem z17h (l:List UInt8) (hl:l.length≤100000):iter z3o (l,0)=some ():=by
 obtain ⟨b,h1,-⟩:=z9o (F:=z3o) l.length (fun i s=>s.2=(i:Int)∧s.1.length=l.length) (fun _=>True)
  (fun i s hi hs=>by
   obtain ⟨s1,s2⟩:=s;obtain ⟨e1,e2⟩:=hs;simp only at e1 e2;subst e1;have his:i<s1.length:=by omega
   refine ⟨(s1.set (i:Int).toNat (s1[i]'his+1),((i+1:Nat):Int)),?_,rfl, by simp [e2]⟩;unfold z3o;rw [if_pos (by simp; omega)];simp only;rw [z0p his];simp only [bS]
   rw [z0u (by omega)])
  (fun s hs=>by
   obtain ⟨s1,s2⟩:=s;obtain ⟨e1,e2⟩:=hs;simp only at e1 e2;subst e1
   exact ⟨(), by unfold z3o; rw [if_neg (by simp; omega)],trivial⟩) (l,0) 0 (by omega) ⟨rfl,rfl⟩
 exact h1
theorem zoh (a0:List UInt8) (a1:z0f) (a2:List ID) (_:(∀ x∈a0,(fun _=>True) x)∧a0.length≤9223372036854775807) (w1:z85 a1) (_:(∀ x∈a2,∀ y∈x.toList,(fun _=>True) y)∧a2.length≤9223372036854775807):zac a0 a1 a2=some true:=by
 obtain ⟨b,hb,hS⟩:=z12o a1;unfold zac
 have rest:a0.length≤31000→zv0 a1→a2.length≤80→(app 1 ([]:List UInt8) a0 >>= fun x16 =>
 zb2 x16 >>= fun r19 =>
 z3r a0 >>= fun r21 =>
 zd4 a1 a2 >>= fun r23 =>
 z7d a1 a2 >>= fun r25 =>
 (iter (z3o) (x16,0)) >>= fun s27 =>
 z1t r19.1 r21.1 >>= fun r35 =>
 if r35 then
  if r19.2==r21.2 then
   z1t r23.1 r25.1 >>= fun r39 =>
   if r39 then
    some (r23.2==r25.2) >>= fun y42 =>
    some y42
   else
    some false
  else
   some false
 else
  some false)=some true:=fun hl S h80=>by
  obtain ⟨r,r1,r2,r3⟩:=zyw a0;obtain ⟨q,q1,q2,q3⟩:=ztc w1 S a2 h80;rw [z1m (by simp; omega)];simp only [bS,List.nil_append];rw [r1,r2];simp only [bS];rw [q1,q2];simp only [bS];rw [z17h a0 (by omega)];simp only [bS];rw [r3];simp only [bS,if_true,beq_self_eq_true];rw [q3];simp only [bS,if_true]
 have cond:∀ K:Unit→Option Bool,(a0.length≤31000→zv0 a1→a2.length≤80→K ()=some true)→z5o (if decide (3000<(a0.length:Int)) then
  if decide ((a0.length:Int)≤30000) then
   some (.inl true)
  else
   if decide (31000<(a0.length:Int)) then
    some (.inl true)
   else
    z4m a1 >>= fun r6 =>
    if r6 then
     some (.inl true)
    else
     if decide (80<(a2.length:Int)) then
      some (.inl true)
     else
      some (.inr ())
 else
  if decide (31000<(a0.length:Int)) then
   some (.inl true)
  else
   z4m a1 >>= fun r11 =>
   if r11 then
    some (.inl true)
   else
    if decide (80<(a2.length:Int)) then
     some (.inl true)
    else
     some (.inr ())) K=some true:=fun K hK=>by
  have inner:a0.length≤31000→z5o (z4m a1 >>= fun r6 =>
    if r6 then
     some (.inl true)
    else
     if decide (80<(a2.length:Int)) then
      some (.inl true)
     else
      some (.inr ())) K=some true:=fun h31=>by
   rw [hb];simp only [bS]
   cases b with
   | true=>rfl
   | false =>
    rw [if_neg (by simp)];by_cases h80:80<a2.length
    ·rw [if_pos (by simp; omega)]; rfl
    ·rw [if_neg (by simp; omega),zpn];exact hK h31 (hS rfl) (by omega)
  by_cases h1:3000<a0.length
  ·rw [if_pos (by simp; omega)];by_cases h2:a0.length≤30000
   ·rw [if_pos (by simp; omega)]; rfl
   ·rw [if_neg (by simp; omega)];by_cases h3:31000<a0.length
    ·rw [if_pos (by simp; omega)]; rfl
    ·rw [if_neg (by simp; omega)]; exact inner (by omega)
  ·rw [if_neg (by simp; omega),if_neg (by simp; omega)]; exact inner (by omega)
 exact cond _ rest
end
end Go.Proofs.YtojceajkeefnpaaGreatDoor
