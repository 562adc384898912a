import Derived.Test.YthgpinfkodaefaaGreatDoorJe
set_option linter.unusedSimpArgs false
set_option linter.unusedVariables false
namespace Go.Proofs.YthgpinfkodaefaaGreatDoor
section
open Go
variable {g a b:z00} {n m:Nat} {l:List z00} {mk:Nat→Bool}
theorem zys:∀ i,zqz g mk i=((List.range i).filter mk).map (zc4 g)
 | 0=>rfl
 | i+1=>by
  rw [zqz,zys i,List.range_succ,List.filter_append,List.map_append]
  cases h:mk i <;> simp [h]
theorem zwa:(subG g mk).IDs=zes g mk:=zys _
theorem zzs {α β:Type} {A:List α} {B:List β} (h:A.length=B.length) (x x':α) (o o':β):(∃ j:Nat,(A++[x])[j]? = some x'∧(B++[o])[j]? = some o')↔(∃ j:Nat,A[j]? = some x'∧B[j]? = some o')∨(x'=x∧o'=o):=by
 constructor
 ·
  rintro ⟨j,h1,h2⟩
  by_cases c:j<A.length
  ·
   rw [List.getElem?_append_left c] at h1
   rw [List.getElem?_append_left (by omega)] at h2
   exact .inl ⟨j,h1,h2⟩
  ·
   have hj:j<(A++[x]).length:=(List.getElem?_eq_some_iff.1 h1).1
   rw [List.length_append,List.length_singleton] at hj
   have e:j=A.length:=by omega
   subst e
   rw [List.getElem?_append_right (by omega)] at h1
   rw [List.getElem?_append_right (by omega),h] at h2
   simp at h1 h2
   exact .inr ⟨h1.symm,h2.symm⟩
 ·
  rintro (⟨j,h1,h2⟩ | ⟨rfl,rfl⟩)
  ·
   have c:j<A.length:=(List.getElem?_eq_some_iff.1 h1).1
   exact ⟨j, by rw [List.getElem?_append_left c]; exact h1, by rw [List.getElem?_append_left (by omega)]; exact h2⟩
  ·
   exact ⟨A.length, by simp, by rw [h]; simp⟩
theorem zmq (hl:g.IDs.length=g.Ops.length):∀ i,i≤g.Ops.length→(zqz g mk i).length=(zpx g mk i).length∧∀ x o,(∃ j:Nat,(zqz g mk i)[j]? = some x∧(zpx g mk i)[j]? = some o)↔∃ t:Nat,t<i∧mk t=true∧g.IDs[t]? = some x∧g.Ops[t]? = some o
 | 0,_=>⟨rfl, fun x o=>by simp [zqz,zpx]⟩
 | i+1,hi=>by
  obtain ⟨h1,h2⟩:=zmq hl i (by omega)
  have hii:i<g.IDs.length:=by omega
  cases hm:mk i with
  | false =>
   rw [z14t hm,z152 hm]
   refine ⟨h1, fun x o=>(h2 x o).trans ⟨?_,?_⟩⟩
   ·
    rintro ⟨t,t1,t2,t3⟩; exact ⟨t, by omega,t2,t3⟩
   ·
    rintro ⟨t,t1,t2,t3⟩
    by_cases e:t=i
    ·
     subst e; rw [hm] at t2; simp at t2
    ·
     exact ⟨t, by omega,t2,t3⟩
  | true =>
   have ho:g.Ops[i]?.toList=[g.Ops[i]]:=by rw [List.getElem?_eq_getElem (by omega)]; rfl
   rw [z15b hm,z15f hm,ho,z3h hii]
   refine ⟨by simp [h1], fun x o=>(zzs h1 _ _ _ _).trans ?_⟩
   rw [h2]
   constructor
   ·
    rintro (⟨t,t1,t2,t3⟩ | ⟨rfl,rfl⟩)
    ·
     exact ⟨t, by omega,t2,t3⟩
    ·
     exact ⟨i, by omega,hm,List.getElem?_eq_getElem hii,List.getElem?_eq_getElem (by omega)⟩
   ·
    rintro ⟨t,t1,t2,t3,t4⟩
    by_cases e:t=i
    ·
     subst e
     rw [List.getElem?_eq_getElem hii] at t3
     rw [List.getElem?_eq_getElem (by omega)] at t4
     exact .inr ⟨(Option.some.inj t3).symm,(Option.some.inj t4).symm⟩
    ·
     exact .inl ⟨t, by omega,t2,t3,t4⟩
theorem zpy (G:zd8 g) (F:Fit g 60) (mk:Nat→Bool):Fit (subG g mk) 60:=by
 refine ⟨(zmq G.e.ids _ (Nat.le_refl _)).1,Nat.le_trans (zpu g mk _) G.e.len,?_, fun o ho=>F.op o (zmb g mk _ o ho)⟩
 rw [zwa]; exact zlp G.e mk
theorem zmg (G:zd8 g) (F:Fit g 60) {x:ID} {o:z05}:z1f (subG g mk) x=some o↔z1f g x=some o∧mk (g.IDs.idxOf x)=true:=by
 rw [z89 (zpy G F mk),z89 F]
 have:=(zmq (mk:=mk) G.e.ids _ (Nat.le_refl _)).2 x o
 refine Iff.trans this ⟨?_,?_⟩
 ·
  rintro ⟨t,t1,t2,t3,t4⟩
  refine ⟨⟨t,t3,t4⟩,?_⟩
  obtain ⟨ht,rfl⟩:=List.getElem?_eq_some_iff.1 t3
  rw [zd6 G.e.ri ht]; exact t2
 ·
  rintro ⟨⟨t,t3,t4⟩,h⟩
  obtain ⟨ht,rfl⟩:=List.getElem?_eq_some_iff.1 t3
  rw [zd6 G.e.ri ht] at h
  exact ⟨t, by rw [← G.e.ids]; exact ht,h,t3,t4⟩
def z1c (l:List z00):z00:=l.foldl zg4 ⟨[],[]⟩
theorem ztm:Fit (⟨[],[]⟩:z00) 0:=⟨rfl,Nat.le_refl _,rfl, fun o ho=>by cases ho⟩
theorem zkr (l:List z00) (g:z00):z1c (l++[g])=zg4 (z1c l) g:=by unfold z1c; rw [List.foldl_append]; rfl
theorem zdd (R:Rps l):∀ i,i≤l.length→Fit (z1c (l.take i)) (60 * i)∧∀ x,z1f (z1c (l.take i)) x=zbw (l.take i) x
 | 0,_=>⟨ztm, fun x=>rfl⟩
 | i+1,hi=>by
  obtain ⟨h1,h2⟩:=zdd R i (by omega)
  have F:=(R.rp _ (List.getElem_mem (show i<l.length by omega))).fit
  rw [zm5 (by omega),zkr]
  refine ⟨?_, fun x=>?_⟩
  ·
   have:=zr1 h1 F
   rw [Nat.mul_succ]; exact this
  ·
   rw [zks h1 F,h2,zl7]
theorem zaa (R:Rps l):Fit (z1c l) 300:=by
 have h:=(zdd R l.length (Nat.le_refl _)).1
 rw [List.take_length] at h
 have:=R.len
 exact ⟨h.ids,Nat.le_trans h.len (by omega),h.ri,h.op⟩
theorem zhj (R:Rps l) (x:ID):z1f (z1c l) x=zbw l x:=by
 have h:=(zdd R l.length (Nat.le_refl _)).2 x
 rwa [List.take_length] at h
def zqv (l:List z00) (i:Nat):List ID:=((l[0]?.map z00.IDs).getD []).filter fun x=>(l.take i).all fun g=>decide (x∈g.IDs)
theorem z17w (h:0<l.length):zqv l 1=l[0].IDs:=by
 unfold zqv
 rw [List.getElem?_eq_getElem h]
 show l[0].IDs.filter _=_
 refine List.filter_eq_self.2 fun x hx=>?_
 rw [zm5 h]
 simpa using hx
theorem z12c {i:Nat} (h:i<l.length):(zqv l i).filter (fun x=>decide (x∈l[i].IDs))=zqv l (i+1):=by
 unfold zqv
 rw [List.filter_filter]
 congr 1
 funext x
 rw [zm5 h,List.all_append]
 simp [Bool.and_comm]
theorem zy8 (h:0<l.length) {x:ID}:x∈zqv l l.length↔∀ g∈l,x∈g.IDs:=by
 unfold zqv
 rw [List.getElem?_eq_getElem h,List.take_length,List.mem_filter]
 simp only [Option.map_some,Option.getD_some,List.all_eq_true,decide_eq_true_eq]
 exact ⟨fun k=>k.2, fun k=>⟨k _ (List.getElem_mem h),k⟩⟩
theorem zz7 (R:Rps l) (i:Nat):(zqv l i).length≤60:=by
 unfold zqv
 refine Nat.le_trans (List.length_filter_le _ _) ?_
 cases h:l[0]? with
 | none=>simp
 | some g =>
  have F:=(R.rp g (List.mem_of_getElem? h)).fit
  have h1:=F.len; have h2:=F.ids
  show g.IDs.length≤60
  omega
theorem zpr {x:ID}:zgc l x=l.length↔∀ g∈l,x∈g.IDs:=by
 unfold zgc
 rw [List.length_filter_eq_length_iff]
 simp
theorem z12g (R:Rps l) (h:0<l.length) (x:ID):z1f (subG l[0] fun i=>decide (zc4 l[0] i∈zqv l l.length)) x=if zgc l x≠0∧zgc l x=l.length then zbw l x else none:=by
 have R0:=R.rp _ (List.getElem_mem h)
 have key:∀ o,z1f (subG l[0] fun i=>decide (zc4 l[0] i∈zqv l l.length)) x=some o↔(if zgc l x≠0∧zgc l x=l.length then zbw l x else none)=some o:=fun o=>by
  rw [zmg R0.good R0.fit]
  constructor
  ·
   rintro ⟨h1,h2⟩
   have hx:=(z4a h1).1
   have hi:=List.idxOf_lt_length_of_mem hx
   rw [decide_eq_true_iff,z3h hi,List.getElem_idxOf,zy8 h] at h2
   have hc:=zpr.2 h2
   rw [if_pos ⟨by omega,hc⟩]
   exact zck R.ag (List.getElem_mem h) h1
  ·
   intro h1
   split at h1
   ·
    rename_i hc
    have h2:=zpr.1 hc.2
    have hx:=h2 _ (List.getElem_mem h)
    have hi:=List.idxOf_lt_length_of_mem hx
    obtain ⟨q,hq⟩:=z4l R0.fit hx
    have:=zck R.ag (List.getElem_mem h) hq
    rw [this] at h1
    cases h1
    refine ⟨hq,?_⟩
    rw [decide_eq_true_iff,z3h hi,List.getElem_idxOf,zy8 h]
    exact h2
   ·
    cases h1
 generalize z1f (subG l[0] fun i=>decide (zc4 l[0] i∈zqv l l.length)) x=p at key
 generalize (if zgc l x≠0∧zgc l x=l.length then zbw l x else none)=q at key
 cases p with
 | none =>
  cases q with
  | none=>rfl
  | some o=>exact absurd ((key o).2 rfl) (by simp)
 | some o=>exact ((key o).1 rfl).symm
end
section
open Go
variable {g a b:z00} {n m:Nat} {l:List z00} {mk:Nat→Bool}
theorem Fit.le60 (F:Fit g n) (h:g.Ops.length≤60):Fit g 60:=⟨F.ids,h,F.ri,F.op⟩
theorem Rp.part (R:Rp g) (cl:∀ i,mk i=true→∀ p∈z2j g i,mk p=true):Rp (subG g mk):=by
 have F:=zpy R.good R.fit mk
 have S0:=zjz R.good R.fit
 obtain ⟨rk,hrk⟩:=S0.rk
 refine ⟨zkw F ⟨fun x o h=>S0.ops x o ((zmg R.good R.fit).1 h).1, fun x o h p hp=>?_,rk, fun x o h p hp=>hrk x o ((zmg R.good R.fit).1 h).1 p hp⟩,F.op,zpg F (by omega) fun o ho=>R.wf.2.1.1 o (zmb g mk _ o ho)⟩
 obtain ⟨h1,h2⟩:=(zmg R.good R.fit).1 h
 rw [zwa,zfs R.good.e]
 have hx:=(z4a h1).1
 have ho:zl1 g (g.IDs.idxOf x)=o.Preds:=by
  unfold z1f at h1
  rw [if_pos hx] at h1
  unfold zl1
  rw [h1]
 have:=zdb (i:=g.IDs.idxOf x) R.good.ins (by rw [ho]; exact hp)
 exact ⟨this.1,cl _ h2 _ this.2⟩
theorem zsm:zqs (⟨[],[]⟩:z00):=by
 have hn:∀ z o,z1f (⟨[],[]⟩:z00) z≠some o:=fun z o h=>by have:=(z4a h).1; cases this
 exact ⟨fun z o h=>absurd h (hn z o), fun z o h=>absurd h (hn z o), fun _=>0, fun z o h=>absurd h (hn z o)⟩
theorem z1a3:Rp (⟨[],[]⟩:z00):=by
 have F:Fit (⟨[],[]⟩:z00) 60:=⟨rfl, by simp,rfl, by simp⟩
 exact ⟨zkw F zsm, by simp,zpg F (by omega) (by simp)⟩
theorem ztq (R:Rps l) {i:Nat} (hi:i<l.length):ztd (z1c (l.take i)) l[i]:=by
 obtain ⟨F,hl⟩:=zdd R i (by omega)
 rw [ztk F (R.rp _ (List.getElem_mem hi)).fit]
 intro x o q h1 h2
 rw [hl] at h1
 obtain ⟨g',k1,k2⟩:=z9e h1
 exact R.ag g' (List.mem_of_mem_take k1) _ (List.getElem_mem hi) x o q k2 h2
theorem zo2 (R:Rps l):∀ i,i≤l.length→zqs (z1c (l.take i))
 | 0,_=>zsm
 | i+1,hi=>by
  have h1:=zo2 R i (by omega)
  have F:=(zdd R i (by omega)).1
  have Ri:=R.rp _ (List.getElem_mem (show i<l.length by omega))
  rw [zm5 (by omega),zkr]
  exact ztn F Ri.fit h1 (zjz Ri.good Ri.fit) (ztq R (by omega))
theorem z10d (F:Fit g n) {o:z05} (h:o∈g.Ops):∃ x,z1f g x=some o:=by
 obtain ⟨i,hi,rfl⟩:=List.getElem_of_mem h
 exact ⟨_,z6d F hi⟩
theorem Rps.whole (R:Rps l) (h:(z1c l).Ops.length≤60):Rp (z1c l):=by
 have F:=(zaa R).le60 h
 have S:=zo2 R l.length (Nat.le_refl _)
 rw [List.take_length] at S
 refine ⟨zkw F S,F.op,zpg F (by omega) fun o ho=>?_⟩
 obtain ⟨x,hx⟩:=z10d F ho
 rw [zhj R] at hx
 obtain ⟨g,k1,k2⟩:=z9e hx
 exact (R.rp g k1).wf.2.1.1 o (z4a k2).2
def zxe (l:List z00) (W:z00):Prop:=∀ x,z1f W x=if zgc l x≠0∧zgc l x=l.length then zbw l x else none
theorem zpt (R:Rps l) {W:z00} (hW:zxe l W) {x:ID} {o:z05} (h:z1f W x=some o):l≠[]∧∀ g∈l,z1f g x=some o:=by
 rw [hW] at h
 split at h
 ·
  rename_i hc
  have ha:=zpr.1 hc.2
  refine ⟨fun e=>hc.1 (by rw [e]; rfl), fun g hg=>?_⟩
  obtain ⟨q,hq⟩:=z4l (R.rp g hg).fit (ha g hg)
  have:=zck R.ag hg hq
  rw [this] at h
  cases h
  exact hq
 ·
  cases h
theorem z15o (R:Rps l) {W:z00} (hW:zxe l W) (hn:l≠[]) {x:ID} {o:z05} (h:∀ g∈l,z1f g x=some o):z1f W x=some o:=by
 have hc:zgc l x=l.length:=zpr.2 fun g hg=>(z4a (h g hg)).1
 have hl:0<l.length:=List.length_pos_iff.2 hn
 rw [hW,if_pos ⟨by omega,hc⟩]
 exact zck R.ag (List.getElem_mem hl) (h _ (List.getElem_mem hl))
theorem z15r {W g:z00} (F:Fit W n) (G:Fit g m) (h:∀ x o,z1f W x=some o→z1f g x=some o):W.Ops.length≤g.Ops.length:=by
 rw [← F.ids,← G.ids]
 refine zar _ _ (zhh F.ri) fun x hx=>?_
 obtain ⟨o,ho⟩:=z4l F hx
 exact (z4a (h x o ho)).1
theorem Rps.com (R:Rps l) {W:z00} (F:Fit W n) (hn:n≤1000) (hW:zxe l W):Rp W:=by
 cases hl:l with
 | nil =>
  have:W=⟨[],[]⟩:=zjo F ztm fun x=>by
   rw [hW,hl,if_neg (by rintro ⟨h,-⟩; exact h rfl)]
   rfl
  rw [this]
  exact z1a3
 | cons g0 t =>
  have hg:g0∈l:=by rw [hl]; exact List.mem_cons_self
  have hne:l≠[]:=by rw [hl]; simp
  have R0:=R.rp g0 hg
  have hsub:∀ x o,z1f W x=some o→z1f g0 x=some o:=fun x o h=>(zpt R hW h).2 g0 hg
  have F6:=F.le60 (Nat.le_trans (z15r F R0.fit hsub) R0.fit.len)
  have S0:=zjz R0.good R0.fit
  obtain ⟨rk,hrk⟩:=S0.rk
  refine ⟨zkw F6 ⟨fun x o h=>S0.ops x o (hsub x o h), fun x o h p hp=>?_,rk, fun x o h p hp=>hrk x o (hsub x o h) p hp⟩,F.op,zpg F hn fun o ho=>?_⟩
  ·
   obtain ⟨q,hq⟩:=z4l R0.fit (S0.ins x o (hsub x o h) p hp)
   refine (z4a (z15o R hW hne (x:=p) (o:=q) fun g hg'=>?_)).1
   have Sg:=zjz (R.rp g hg').good (R.rp g hg').fit
   obtain ⟨q',hq'⟩:=z4l (R.rp g hg').fit (Sg.ins x o ((zpt R hW h).2 g hg') p hp)
   rw [R.ag g hg' g0 hg p q' q hq' hq] at hq'
   exact hq'
  ·
   obtain ⟨x,hx⟩:=z10d F ho
   exact R0.wf.2.1.1 o (z4a (hsub x o hx)).2
end
section
open Go
variable {g a b:z00} {n m:Nat} {l:List z00}
theorem zzb (R:Rps l) {i:Nat} (hi:i<l.length):iter (z67 l ((z1c (l.take i)).IDs,(z1c (l.take i)).Ops,(i:Int))) ((z1c (l.take i)).IDs,(z1c (l.take i)).Ops,0)=some ((z1c (l.take (i+1))).IDs,(z1c (l.take (i+1))).Ops):=by
 have Fa:=(zdd R i (by omega)).1
 have Fb:=(R.rp _ (List.getElem_mem hi)).fit
 have hl5:=R.len
 have hs:z1c (l.take (i+1))=zg4 (z1c (l.take i)) l[i]:=by rw [zm5 hi,zkr]
 rw [hs]
 generalize z1c (l.take i)=a at Fa ⊢
 have hb1:=Fb.len; have hb2:=Fb.ids
 have main:=z2r (F:=z67 l (a.IDs,a.Ops,(i:Int))) (b:=((zg4 a l[i]).IDs,(zg4 a l[i]).Ops)) l[i].IDs.length (fun k=>((zg6 a ((zco l[i]).take k)).IDs,(zg6 a ((zco l[i]).take k)).Ops,(k:Int))) (fun k hk=>?_) ?_
 ·
  exact main
 ·
  have hko:k<l[i].Ops.length:=by omega
  have Fj:=zvc Fa Fb k
  have hjl:=Fj.len; have hji:=Fj.ids
  have e1:zg6 a ((zco l[i]).take (k+1))=zd5 (zg6 a ((zco l[i]).take k)) (l[i].IDs[k],l[i].Ops[k]):=by rw [zwu Fb.ids hko,zx1]
  unfold z67
  simp only [z0b hi,bS]
  rw [if_pos (by simpa using hk)]
  simp only [z0b hk,bS]
  by_cases hx:l[i].IDs[k]∈(zg6 a ((zco l[i]).take k)).IDs
  ·
   rw [z113 Fj.ri (by omega) hx]
   simp only [bS]
   rw [if_neg (by simp),z0g (by omega),e1]
   unfold zd5
   rw [if_pos hx]
  ·
   rw [zwh (by omega) hx]
   simp only [bS]
   rw [if_pos (by simp)]
   simp only [z0b hko,bS]
   have hp:=z14g Fj (by omega) (l[i].IDs[k],l[i].Ops[k]) (Fb.op _ (List.getElem_mem hko)) hx
   have hp:zcc (⟨(zg6 a ((zco l[i]).take k)).IDs,(zg6 a ((zco l[i]).take k)).Ops⟩:z00) l[i].IDs[k] l[i].Ops[k]=some (zd5 (zg6 a ((zco l[i]).take k)) (l[i].IDs[k],l[i].Ops[k])):=hp
   rw [hp,z0g (by omega)]
   simp only [bS]
   rw [e1]
 ·
  unfold z67
  simp only [z0b hi,bS]
  rw [if_neg (by simp)]
  unfold zg4
  rw [List.take_of_length_le (by rw [zgl Fb.ids]; omega)]
theorem z11i (R:Rps l):zcv l=some (z1c l):=by
 have hl5:=R.len
 have main:=z2r (F:=z6a l) (b:=((z1c l).IDs,(z1c l).Ops)) l.length (fun i=>((z1c (l.take i)).IDs,(z1c (l.take i)).Ops,(i:Int))) (fun i hi=>?_) ?_
 ·
  have main:iter (z6a l) ([],[],0)=some ((z1c l).IDs,(z1c l).Ops):=main
  unfold zcv
  rw [main]
  rfl
 ·
  unfold z6a
  rw [if_pos (by simpa using hi)]
  simp only []
  rw [zzb R hi]
  simp only [bS]
  rw [z0g (by omega)]
 ·
  unfold z6a
  rw [if_neg (by simp),List.take_length]
def zpi (l:List z00):z00 × Int:=if 60<(z1c l).Ops.length then (⟨[],[]⟩,4) else (z1c l,0)
theorem zuy (R:Rps l):zag l=some (zpi l)∧zcq l=some (zpi l):=by
 obtain ⟨W,w1,w2,w3⟩:=zxw R
 have e:W=z1c l:=zjo w2 (zaa R) fun x=>by rw [w3,zhj R]
 subst e
 unfold zag zcq
 rw [R.chk.1,R.chk.2]
 simp only [bS]
 rw [if_neg (by simp),if_neg (by simp),w1,z11i R]
 simp only [bS]
 by_cases h:60<(z1c l).Ops.length
 ·
  have e:zpi l=(⟨[],[]⟩,4):=if_pos h
  rw [e,if_pos (by simp; omega)]; exact ⟨rfl,rfl⟩
 ·
  have e:zpi l=(z1c l,0):=if_neg h
  rw [e,if_neg (by simp; omega)]; exact ⟨rfl,rfl⟩
theorem z178 (R:Rps l) {i:Nat} (hi:i<l.length) (ids:List ID) (hl:ids.length≤1000):iter (z7p l (ids,(i:Int))) ([],0)=some (ids.filter fun x=>decide (x∈l[i].IDs)):=by
 have Fb:=(R.rp _ (List.getElem_mem hi)).fit
 have hb1:=Fb.len; have hb2:=Fb.ids
 refine z2r ids.length (fun k=>((ids.take k).filter fun x=>decide (x∈l[i].IDs),(k:Int))) (fun k hk=>?_) ?_
 ·
  have hf:=List.length_filter_le (fun x=>decide (x∈l[i].IDs)) (ids.take k)
  rw [List.length_take] at hf
  unfold z7p
  rw [if_pos (by simpa using hk)]
  simp only [z0b hi,z0b hk,bS]
  rw [zm5 hk,List.filter_append,List.filter_cons]
  by_cases hx:ids[k]∈l[i].IDs
  ·
   rw [z113 Fb.ri (by omega) hx]
   simp only [bS]
   rw [if_pos (by simp),if_pos (by simpa using hx),z19 (by simp only [List.length_singleton]; omega),z0g (by omega)]
   rfl
  ·
   rw [zwh (by omega) hx]
   simp only [bS]
   rw [if_neg (by simp),if_neg (by simpa using hx),z0g (by omega)]
   simp
 ·
  unfold z7p
  rw [if_neg (by simp),List.take_length]
theorem z12v (R:Rps l) (h:0<l.length):iter (z4i l) (l[0].IDs,1)=some (zqv l l.length):=by
 have hl5:=R.len
 have main:=z2r (F:=z4i l) (b:=zqv l l.length) (l.length - 1) (fun i=>(zqv l (i+1),((i+1:Nat):Int))) (fun i hi=>?_) ?_
 ·
  have main:iter (z4i l) (zqv l 1,1)=some (zqv l l.length):=main
  rw [z17w h] at main
  exact main
 ·
  have hi':i+1<l.length:=by omega
  unfold z4i
  rw [if_pos (by simp; omega)]
  simp only []
  rw [z178 R hi' _ (by have:=zz7 R (i+1); omega),z12c hi',z0g (by omega)]
  rfl
 ·
  unfold z4i
  have e:l.length - 1+1=l.length:=by omega
  rw [e,if_neg (by simp)]
theorem z16q (R:Rp g) (s:List ID) (hs:s.length≤100000):zdj g s=some (subG g fun i=>decide (zc4 g i∈s)):=by
 have F:=zpy R.good R.fit fun i=>decide (zc4 g i∈s)
 unfold zdj
 rw [z161 R.good.e s hs]
 simp only [bS]
 have:z98 (⟨zqz g (fun i=>decide (zc4 g i∈s)) g.Ops.length,zpx g (fun i=>decide (zc4 g i∈s)) g.Ops.length⟩:z00)=some (subG g fun i=>decide (zc4 g i∈s)):=zvq F (by omega)
 rw [this]
 rfl
theorem z19y (R:Rps l):∃ W,zbs l=some (W,0)∧zfb l=some (W,0)∧zxe l W∧Rp W:=by
 obtain ⟨W,w1,w2,w3⟩:=zu2 R
 refine ⟨W,?_,?_,w3,R.com w2 (by omega) w3⟩
 ·
  unfold zbs
  rw [R.chk.1]
  simp only [bS]
  rw [if_neg (by simp),w1]
  rfl
 ·
  unfold zfb
  rw [R.chk.2]
  simp only [bS]
  rw [if_neg (by simp)]
  by_cases h:l.length=0
  ·
   have hn:=List.length_eq_zero_iff.1 h
   have:W=⟨[],[]⟩:=zjo w2 ztm fun x=>by
    rw [w3,hn,if_neg (by rintro ⟨h,-⟩; exact h rfl)]
    rfl
   rw [if_pos (by simp [h]),this]
  ·
   have h0:0<l.length:=by omega
   have e0:idx l 0=some l[0]:=z0b (i:=0) h0
   have R0:=R.rp _ (List.getElem_mem h0)
   have:W=subG l[0] fun i=>decide (zc4 l[0] i∈zqv l l.length):=zjo w2 (zpy R0.good R0.fit _) fun x=>by rw [w3,z12g R h0]
   rw [if_neg (by simp; intro e; exact h (by rw [e]; rfl)),e0]
   simp only [bS]
   rw [z12v R h0]
   simp only [bS]
   rw [z16q R0 _ (by have:=zz7 R l.length; omega),this]
   rfl
theorem z10j (F:Fit g 60) (s:List ID) (hs:s.length≤100):z26 s g=some (s.filter fun x=>!decide (x∈g.IDs)):=by
 have h1:=F.len; have h2:=F.ids
 exact z185 (fun x=>z8j x g) (fun x=>decide (x∈g.IDs)) (fun x=>by unfold z8j; rw [zu0 _ _ (by omega)]; rfl) s (by omega)
theorem ziz {s:List ID} (h:z7k s=true) (p:ID→Bool):z7k (s.filter p)=true:=by
 rw [z64] at h ⊢
 exact List.Pairwise.sublist List.filter_sublist h
theorem zxd (R:Rp g) {s:List ID} (hs:s.length≤100) (hi:z7k s=true):z9w g.IDs s=some (s.filter fun x=>!decide (x∈g.IDs)):=by
 obtain ⟨t,t1,t2,t3⟩:=zz0 R.good.e s hs
 have:t=s.filter fun x=>!decide (x∈g.IDs):=z88 _ _ ((z64 _).1 t2) ((z64 _).1 (ziz hi _)) fun x=>by
  rw [t3,List.mem_filter]
  simp
 rw [t1,this]
def zcm (l:List z00) (W:z00):List (List ID):=l.map fun g=>W.IDs.filter fun x=>!decide (x∈g.IDs)
theorem zlb (W:z00) {i:Nat} (hi:i<l.length):zcm (l.take (i+1)) W=zcm (l.take i) W++[W.IDs.filter fun x=>!decide (x∈l[i].IDs)]:=by
 unfold zcm
 rw [zm5 hi,List.map_append]
 rfl
theorem z13s (R:Rps l):∃ r,zcd l=some r∧zg2 l=some r∧r=if 60<(z1c l).Ops.length then ([],4) else (zcm l (z1c l),0):=by
 have hl5:=R.len
 obtain ⟨w1,w2⟩:=zuy R
 unfold zcd zg2
 rw [w1,w2]
 simp only [bS]
 unfold zpi
 by_cases h:60<(z1c l).Ops.length
 ·
  rw [if_pos h,if_pos h,if_pos (by simp),if_pos (by simp)]
  exact ⟨_,rfl,rfl,rfl⟩
 ·
  have FW:=zaa R
  have hWi:(z1c l).IDs.length≤60:=by have:=FW.ids; omega
  have m1:iter (z9m l (z1c l,0)) ([],0)=some (zcm l (z1c l)):=by
   refine z2r l.length (fun i=>(zcm (l.take i) (z1c l),(i:Int))) (fun i hi=>?_) ?_
   ·
    have Ri:=R.rp _ (List.getElem_mem hi)
    unfold z9m
    rw [if_pos (by simpa using hi)]
    simp only [z0b hi,bS]
    rw [zk5 _ (by omega)]
    simp only [bS]
    rw [z10j Ri.fit _ (by omega)]
    simp only [bS]
    rw [z19 (by simp [zcm]; omega),z0g (by omega),zlb _ hi]
    rfl
   ·
    unfold z9m
    rw [if_neg (by simp),List.take_length]
  have m2:iter (z8c l (z1c l,0)) ([],0)=some (zcm l (z1c l)):=by
   refine z2r l.length (fun i=>(zcm (l.take i) (z1c l),(i:Int))) (fun i hi=>?_) ?_
   ·
    have Ri:=R.rp _ (List.getElem_mem hi)
    unfold z8c
    rw [if_pos (by simpa using hi)]
    simp only [z0b hi,bS]
    rw [zxd Ri (by omega) FW.ri]
    simp only [bS]
    rw [z19 (by simp [zcm]; omega),z0g (by omega),zlb _ hi]
    rfl
   ·
    unfold z8c
    rw [if_neg (by simp),List.take_length]
  rw [if_neg h,if_neg h,if_neg (by simp),if_neg (by simp),m1,m2]
  exact ⟨_,rfl,rfl,rfl⟩
end
section
open Go
variable {g h a b:z00} {n m:Nat}
inductive zu4 (g:z00):ID→ID→Prop
 | one {x y:ID} {o:z05}:z1f g y=some o→x∈o.Preds→zu4 g x y
 | step {x p y:ID} {o:z05}:zu4 g p y→z1f g p=some o→x∈o.Preds→zu4 g x y
theorem ztc (G:zd8 g) {x:ID} {o:z05} (h:z1f g x=some o):zl1 g (g.IDs.idxOf x)=o.Preds:=by
 have hx:=(z4a h).1
 unfold z1f at h
 rw [if_pos hx] at h
 unfold zl1
 rw [h]
theorem z170 (G:zd8 g) (F:Fit g n) {y:ID} {o:z05} (hy:z1f g y=some o) {i:Nat} (h:Rch (z2j g) ((zl1 g (g.IDs.idxOf y)).map fun x=>g.IDs.idxOf x) i):i<g.Ops.length∧zu4 g (zc4 g i) y:=by
 induction h with
 | base hm =>
  obtain ⟨x,hx,rfl⟩:=List.mem_map.1 hm
  have hxg:=(zdb G.ins hx).1
  refine ⟨zjk G hxg,?_⟩
  rw [z3h (List.idxOf_lt_length_of_mem hxg),List.getElem_idxOf]
  rw [ztc G hy] at hx
  exact .one hy hx
 | step _ hp ih =>
  rename_i t p hr
  obtain ⟨x,hx,rfl⟩:=List.mem_map.1 hp
  have hxg:=(zdb G.ins hx).1
  refine ⟨zjk G hxg,?_⟩
  rw [z3h (List.idxOf_lt_length_of_mem hxg),List.getElem_idxOf]
  obtain ⟨ih1,ih2⟩:=ih
  have hti:t<g.IDs.length:=by rw [F.ids]; exact ih1
  have hl:z1f g (zc4 g t)=some g.Ops[t]:=by rw [z3h hti]; exact z6d F ih1
  rw [z8x ih1] at hx
  exact .step ih2 hl hx
theorem z121 (G:zd8 g) {x y:ID} (h:zu4 g x y):x∈g.IDs∧Rch (z2j g) ((zl1 g (g.IDs.idxOf y)).map fun x=>g.IDs.idxOf x) (g.IDs.idxOf x):=by
 induction h with
 | one hy hx =>
  rw [← ztc G hy] at hx
  exact ⟨(zdb G.ins hx).1,.base (List.mem_map.2 ⟨_,hx,rfl⟩)⟩
 | step _ hp hx ih =>
  rw [← ztc G hp] at hx
  exact ⟨(zdb G.ins hx).1,.step ih.2 (zdb G.ins hx).2⟩
theorem z15e (G:zd8 g) {x y:ID} (h:zu4 g x y):x∈g.IDs:=(z121 G h).1
theorem zp3 (G:zd8 g) (F:Fit g n) {y:ID} {o:z05} (hy:z1f g y=some o):∃ s,z4n g y=some s∧∀ x,x∈s↔zu4 g x y:=by
 have hyg:=(z4a hy).1
 obtain ⟨s,m,p1,p2,p3,p4,p5⟩:=zv7 G hyg
 obtain ⟨m',r1,r2⟩:=zuv G.e G.ins (zl1 g (g.IDs.idxOf y)) (fun x hx=>(zdb G.ins hx).1) (by have:=G.e.four (g.IDs.idxOf y); omega)
 rw [r1] at p2
 have e:∀ j,j<g.Ops.length→m' j=m j:=fun j hj=>by
  have h1:=zcy (n:=g.Ops.length) (f:=m') hj
  have h2:=zcy (n:=g.Ops.length) (f:=m) hj
  rw [Option.some.inj p2,h2] at h1
  exact (Option.some.inj h1).symm
 have hs:s=zes g m:=by
  rw [zri G.e] at p3
  exact (Option.some.inj p3).symm
 refine ⟨s,p1, fun x=>?_⟩
 constructor
 ·
  intro hx
  have hxg:x∈g.IDs:=by
   rw [hs,zfs G.e] at hx
   exact hx.1
  have hi:=zjk G hxg
  have hm:=(p5 x hxg).1 hx
  rw [← e _ hi,r2] at hm
  have:=(z170 G F hy hm).2
  rwa [z3h (List.idxOf_lt_length_of_mem hxg),List.getElem_idxOf] at this
 ·
  intro hx
  obtain ⟨hxg,hr⟩:=z121 G hx
  rw [p5 x hxg,← e _ (zjk G hxg),r2]
  exact hr
def Over (g:z00) (key:Str) (x:ID):Prop:=∃ y q,z1f g y=some q∧q.Act.Key=key∧q.Act.Kind=3∧zu4 g x y
theorem zp6 (G:zd8 g) (F:Fit g n) (key:Str) (x:ID):zor g key g.Ops.length x↔Over g key x:=by
 constructor
 ·
  rintro ⟨j,hj,-,h1,h2,s,h3,h4⟩
  have hid:j<g.IDs.length:=by rw [F.ids]; exact hj
  have hl:z1f g (zc4 g j)=some g.Ops[j]:=by rw [z3h hid]; exact z6d F hj
  obtain ⟨s',s1,s2⟩:=zp3 G F hl
  rw [h3] at s1; cases s1
  exact ⟨_,_,hl,h1,h2,(s2 x).1 h4⟩
 ·
  rintro ⟨y,q,hy,h1,h2,h3⟩
  obtain ⟨j,j1,j2⟩:=(z89 F).1 hy
  obtain ⟨hid,rfl⟩:=List.getElem?_eq_some_iff.1 j1
  obtain ⟨hj,rfl⟩:=List.getElem?_eq_some_iff.1 j2
  obtain ⟨s,s1,s2⟩:=zp3 G F hy
  exact ⟨j,hj,hj,h1,h2,s, by rw [z3h hid]; exact s1,(s2 x).2 h3⟩
def InS (g:z00) (key:Str):Prop:=∃ x o,z1f g x=some o∧o.Act.Kind=2∧o.Act.Key=key∧¬ Over g key x
def z165 (g:z00) (key:Str) (x:ID) (o:z05):Prop:=z1f g x=some o∧o.Act.Kind=4∧o.Act.Key=key
def Best (g:z00) (key:Str) (x:ID) (o:z05):Prop:=z165 g key x o∧∀ y q,z165 g key y q→q.Stamp<o.Stamp∨(q.Stamp=o.Stamp∧kd y≤kd x)
def ValS (g:z00) (key:Str) (v:z03):Prop:=(∃ x o,Best g key x o∧v=o.Act.Value)∨((∀ x o,¬ z165 g key x o)∧v=⟨0,0,0,[]⟩)
theorem zzn (key:Str) (N:ID→Bool):∀ i,inN g key N i=true↔∃ j,j<i∧(kO g j).Act.Kind=2∧(kO g j).Act.Key=key∧N (zc4 g j)=false
 | 0=>by simp [inN]
 | i+1=>by
  show (_ || _)=true↔_
  rw [Bool.or_eq_true,zzn key N i]
  constructor
  ·
   rintro (⟨j,h1,h2⟩ | h)
   ·
    exact ⟨j, by omega,h2⟩
   ·
    simp at h
    exact ⟨i, by omega,h.1.1,h.1.2,h.2⟩
  ·
   rintro ⟨j,h1,h2,h3,h4⟩
   by_cases e:j=i
   ·
    subst e; right; simp [h2,h3,h4]
   ·
    exact .inl ⟨j, by omega,h2,h3,h4⟩
theorem z120 (key:Str):∀ i, match zlt g key i with
  | none=>∀ j,j<i→¬ ((kO g j).Act.Kind=4∧(kO g j).Act.Key=key)
  | some b=>b<i∧(kO g b).Act.Kind=4∧(kO g b).Act.Key=key∧∀ j,j<i→(kO g j).Act.Kind=4→(kO g j).Act.Key=key→(kO g j).Stamp<(kO g b).Stamp∨((kO g j).Stamp=(kO g b).Stamp∧j≤b)
 | 0=>fun j hj=>absurd hj (by omega)
 | i+1=>by
  have ih:=z120 key i
  unfold zlt
  by_cases c:(kO g i).Act.Kind=4∧(kO g i).Act.Key=key∧(∀ b,zlt g key i=some b→(kO g b).Stamp≤(kO g i).Stamp)
  ·
   rw [if_pos c]
   refine ⟨by omega,c.1,c.2.1, fun j hj h1 h2=>?_⟩
   by_cases e:j=i
   ·
    subst e; exact .inr ⟨rfl,Nat.le_refl _⟩
   ·
    cases hb:zlt g key i with
    | none=>rw [hb] at ih; exact absurd ⟨h1,h2⟩ (ih j (by omega))
    | some b =>
     rw [hb] at ih
     have h3:=c.2.2 b hb
     rcases ih.2.2.2 j (by omega) h1 h2 with h4 | ⟨h4,h5⟩
     ·
      rcases zkb.1 h3 with h6 | h6
      ·
       left; rw [UInt64.lt_iff_toNat_lt] at *; omega
      ·
       left; rw [h6]; exact h4
     ·
      rcases zkb.1 h3 with h6 | h6
      ·
       left; rw [h4]; exact h6
      ·
       right; exact ⟨by rw [h4,h6], by omega⟩
  ·
   rw [if_neg c]
   cases hb:zlt g key i with
   | none =>
    rw [hb] at ih
    intro j hj hk
    by_cases e:j=i
    ·
     subst e; exact c ⟨hk.1,hk.2, fun b h=>by rw [hb] at h; cases h⟩
    ·
     exact ih j (by omega) hk
   | some b =>
    rw [hb] at ih
    refine ⟨by omega,ih.2.1,ih.2.2.1, fun j hj h1 h2=>?_⟩
    by_cases e:j=i
    ·
     subst e
     left
     have:¬ (kO g b).Stamp≤(kO g j).Stamp:=fun h3=>c ⟨h1,h2, fun b' hb'=>by rw [hb] at hb'; cases hb'; exact h3⟩
     rw [UInt64.le_iff_toNat_le] at this
     rw [UInt64.lt_iff_toNat_lt]; omega
    ·
     exact ih.2.2.2 j (by omega) h1 h2
theorem z11b (F:Fit g n) {i:Nat} (hi:i<g.Ops.length):z1f g (zc4 g i)=some (kO g i):=by
 have hid:i<g.IDs.length:=by rw [F.ids]; exact hi
 rw [z3h hid,← zv9 hi]; exact z6d F hi
theorem zuc (F:Fit g n) {x:ID} {o:z05} (h:z1f g x=some o):∃ i,i<g.Ops.length∧kO g i=o∧zc4 g i=x:=by
 obtain ⟨i,h1,h2⟩:=(z89 F).1 h
 obtain ⟨hid,rfl⟩:=List.getElem?_eq_some_iff.1 h1
 obtain ⟨hi,rfl⟩:=List.getElem?_eq_some_iff.1 h2
 exact ⟨i,hi,(zv9 hi).symm,z3h hid⟩
theorem z16r (F:Fit g n) {i j:Nat} (hi:i<g.Ops.length) (hj:j<g.Ops.length):j≤i↔kd (zc4 g j)≤kd (zc4 g i):=by
 have h1:i<g.IDs.length:=by rw [F.ids]; exact hi
 have h2:j<g.IDs.length:=by rw [F.ids]; exact hj
 rw [z3h h1,z3h h2]
 constructor
 ·
  intro h
  by_cases e:j=i
  ·
   subst e; exact Nat.le_refl _
  ·
   exact Nat.le_of_lt (zb3 F.ri h2 h1 (by omega))
 ·
  intro h
  refine Nat.le_of_not_lt fun c=>?_
  have:=zb3 F.ri h1 h2 c
  omega
theorem z11o (G:zd8 g) (F:Fit g n) (h:z5g g=some 0) (key:Str):∃ a,zae g key=some (a,0)∧(a.in_=true↔InS g key)∧ValS g key a.v:=by
 obtain ⟨_,p1,m,rfl,p2⟩:=z191 G h key
 refine ⟨⟨inN g key (fun x=>(z3q m x).getD false) g.Ops.length,vN g (zlt g key g.Ops.length)⟩,?_,?_,?_⟩
 ·
  unfold zae
  rw [p1]
  simp only [zo6]
  rw [z1b0 G key m]
  rfl
 ·
  show inN g key _ _=true↔_
  rw [zzn]
  constructor
  ·
   rintro ⟨j,h1,h2,h3,h4⟩
   refine ⟨_,_,z11b F h1,h2,h3, fun ho=>?_⟩
   rw [← zp6 G F,← p2,h4] at ho
   simp at ho
  ·
   rintro ⟨x,o,h1,h2,h3,h4⟩
   obtain ⟨i,hi,rfl,rfl⟩:=zuc F h1
   refine ⟨i,hi,h2,h3,?_⟩
   rw [← zp6 G F,← p2,Bool.not_eq_true] at h4
   exact h4
 ·
  show ValS g key (vN g _)
  have:=z120 (g:=g) key g.Ops.length
  cases hb:zlt g key g.Ops.length with
  | none =>
   rw [hb] at this
   refine .inr ⟨fun x o hs=>?_,rfl⟩
   obtain ⟨i,hi,rfl,rfl⟩:=zuc F hs.1
   exact this i hi ⟨hs.2.1,hs.2.2⟩
  | some b =>
   rw [hb] at this
   refine .inl ⟨zc4 g b,kO g b,⟨⟨z11b F this.1,this.2.1,this.2.2.1⟩, fun y q hs=>?_⟩,rfl⟩
   obtain ⟨i,hi,rfl,rfl⟩:=zuc F hs.1
   rcases this.2.2.2 i hi hs.2.1 hs.2.2 with h1 | ⟨h1,h2⟩
   ·
    exact .inl h1
   ·
    exact .inr ⟨h1,(z16r F this.1 hi).1 h2⟩
theorem z11j {key:Str} (F:Fit g n) {x y:ID} {o q:z05} (h1:Best g key x o) (h2:Best g key y q):o=q:=by
 have a1:=h1.2 y q h2.1
 have a2:=h2.2 x o h1.1
 have e:kd x=kd y:=by
  rcases a1 with a1 | ⟨a1,a3⟩ <;> rcases a2 with a2 | ⟨a2,a4⟩
  ·
   rw [UInt64.lt_iff_toNat_lt] at *; omega
  ·
   rw [a2] at a1; rw [UInt64.lt_iff_toNat_lt] at a1; omega
  ·
   rw [a1] at a2; rw [UInt64.lt_iff_toNat_lt] at a2; omega
  ·
   omega
 have e:=zlj e
 subst e
 have:=h1.1.1
 rw [h2.1.1] at this
 exact (Option.some.inj this).symm
theorem z13u {key:Str} {v w:z03} (F:Fit g n) (h1:ValS g key v) (h2:ValS g key w):v=w:=by
 rcases h1 with ⟨x,o,h1,rfl⟩ | ⟨h1,rfl⟩ <;> rcases h2 with ⟨y,q,h2,rfl⟩ | ⟨h2,rfl⟩
 ·
  rw [z11j F h1 h2]
 ·
  exact absurd h1.1 (h2 _ _)
 ·
  exact absurd h2.1 (h1 _ _)
 ·
  rfl
theorem z186 (G:zd8 g) (F:Fit g n) (h:z5g g=some 0) (key:Str):∃ i v,z5s g key=some (i,v,0)∧zae g key=some (⟨i,v⟩,0)∧(i=true↔InS g key)∧ValS g key v:=by
 obtain ⟨⟨i,v⟩,a1,a2,a3⟩:=z11o G F h key
 refine ⟨i,v,?_,a1,a2,a3⟩
 unfold z5s
 rw [h]
 simp only [bS]
 rw [if_neg (by simp),a1]
 rfl
end
section
open Go
variable {g:z00} {n:Nat} {x y z:ID} {o q:z05} {key:Str}
structure zen (g:z00) (x:ID) (o:z05):Prop where
 sz:o.Preds.length≤20∧o.Act.Key.length≤100∧o.Act.Value.Text.length≤100
 ok:zfn o=0∧sha (zg9 o)=x∧o.Preds.length≤4∧z7k o.Preds=true
 wf:zdk o
 no:x∉g.IDs
 ins:∀ p∈o.Preds,p∈g.IDs
theorem Rp.nil:Rp (⟨[],[]⟩:z00):=by
 have F:Fit (⟨[],[]⟩:z00) 60:=⟨rfl, by simp,rfl, by simp⟩
 have hn:∀ z o,z1f (⟨[],[]⟩:z00) z≠some o:=fun z o h=>by have:=(z4a h).1; cases this
 exact ⟨zkw F ⟨fun z o h=>absurd h (hn z o), fun z o h=>absurd h (hn z o), fun _=>0, fun z o h=>absurd h (hn z o)⟩, by simp,zpg F (by omega) (by simp)⟩
theorem z136 {p:ID × z05} {q:z05} (h:q∈(zd5 g p).Ops):q=p.2∨q∈g.Ops:=by
 unfold zd5 at h
 split at h
 ·
  exact .inr h
 ·
  exact zmf.1 h
theorem Rp.add (R:Rp g) (hl:g.Ops.length≤59) (N:zen g x o):Rp (zd5 g (x,o)):=by
 have S:=zjz R.good R.fit
 have F:=zhk (p:=(x,o)) R.fit N.sz
 have hlen:(zd5 g (x,o)).Ops.length≤60:=by
  have F':Fit g g.Ops.length:=⟨R.fit.ids,Nat.le_refl _,R.fit.ri,R.fit.op⟩
  have:=(zhk (p:=(x,o)) F' N.sz).len
  omega
 have F6:Fit (zd5 g (x,o)) 60:=⟨F.ids,hlen,F.ri,F.op⟩
 refine ⟨zkw F6 (zzw R.fit S (p:=(x,o)) N.sz N.no N.ok N.ins),F.op,zpg F6 (by omega) fun q hq=>?_⟩
 rcases z136 hq with rfl | h
 ·
  exact N.wf
 ·
  exact R.wf.2.1.1 q h
theorem z116 (F:Fit g n) (N:zen g x o):(zd5 g (x,o)).Ops.length=g.Ops.length+1:=by
 have F1:=zjn F.ri x
 have:=F1.le
 have hi:=F.ids
 unfold zd5
 rw [if_neg N.no]
 show (zhc g.Ops _ o).length=_
 unfold zhc
 simp; omega
theorem znb (F:Fit g n) (N:zen g x o) (y:ID):z1f (zd5 g (x,o)) y=if y=x then some o else z1f g y:=zq1 F (p:=(x,o)) N.sz N.no y
theorem zkl (F:Fit g n) (N:zen g x o) (h:z1f g y=some q):z1f (zd5 g (x,o)) y=some q:=by
 rw [znb F N,if_neg fun e=>N.no (by rw [← e]; exact (z4a h).1),h]
theorem zkm (F:Fit g n) (N:zen g x o):z1f (zd5 g (x,o)) x=some o:=by rw [znb F N,if_pos rfl]
theorem zbf (F:Fit g n) (N:zen g x o) (h:z1f (zd5 g (x,o)) y=some q):(y=x∧q=o)∨(y≠x∧z1f g y=some q):=by
 rw [znb F N] at h
 by_cases e:y=x
 ·
  rw [if_pos e] at h; exact .inl ⟨e,(Option.some.inj h).symm⟩
 ·
  rw [if_neg e] at h; exact .inr ⟨e,h⟩
theorem zyz (h:zu4 g x y):∃ o p,z1f g y=some o∧p∈o.Preds:=by
 induction h with
 | one h1 h2=>exact ⟨_,_,h1,h2⟩
 | step _ _ _ ih=>exact ih
theorem z14h {rk:ID→Nat} (hr:z11c g rk) (h:zu4 g x y):rk x<rk y:=by
 induction h with
 | one h1 h2=>exact hr _ _ h1 _ h2
 | step _ h2 h3 ih=>exact Nat.lt_trans (hr _ _ h2 _ h3) ih
theorem zuf (R:Rp g) (N:zen g x o) (hy:y≠x):zu4 (zd5 g (x,o)) z y↔zu4 g z y:=by
 constructor
 ·
  intro h
  induction h with
  | one h1 h2 =>
   rcases zbf R.fit N h1 with ⟨e,-⟩ | ⟨-,h⟩
   ·
    exact absurd e hy
   ·
    exact .one h h2
  | step _ h2 h3 ih =>
   rcases zbf R.fit N h2 with ⟨e,-⟩ | ⟨-,h⟩
   ·
    exact absurd (z15e R.good (ih hy)) (by rw [e]; exact N.no)
   ·
    exact .step (ih hy) h h3
 ·
  intro h
  clear hy
  induction h with
  | one h1 h2=>exact .one (zkl R.fit N h1) h2
  | step _ h2 h3 ih=>exact .step ih (zkl R.fit N h2) h3
theorem z17n (R:Rp g) (hl:g.Ops.length≤59) (N:zen g x o):¬ zu4 (zd5 g (x,o)) x y:=fun h=>by
 by_cases e:y=x
 ·
  have R':=R.add hl N
  obtain ⟨rk,hr⟩:=z108 R'.good R'.fit
  have:=z14h hr h
  rw [e] at this
  omega
 ·
  rw [zuf R N e] at h
  exact N.no (z15e R.good h)
theorem zrw (R:Rp g) (N:zen g x o):Over (zd5 g (x,o)) key z↔Over g key z∨(o.Act.Key=key∧o.Act.Kind=3∧zu4 (zd5 g (x,o)) z x):=by
 constructor
 ·
  rintro ⟨y,q,h1,h2,h3,h4⟩
  rcases zbf R.fit N h1 with ⟨e,rfl⟩ | ⟨e,h⟩
  ·
   subst e; exact .inr ⟨h2,h3,h4⟩
  ·
   exact .inl ⟨y,q,h,h2,h3,(zuf R N e).1 h4⟩
 ·
  rintro (⟨y,q,h1,h2,h3,h4⟩ | ⟨h1,h2,h3⟩)
  ·
   exact ⟨y,q,zkl R.fit N h1,h2,h3,(zuf R N fun e=>N.no (by rw [← e]; exact (z4a h1).1)).2 h4⟩
  ·
   exact ⟨x,o,zkm R.fit N,h1,h2,h3⟩
theorem z134 (R:Rp g) (hl:g.Ops.length≤59) (N:zen g x o):¬ Over (zd5 g (x,o)) key x:=fun ⟨_,_,_,_,_,h⟩=>z17n R hl N h
theorem z1a0 (R:Rp g) (hl:g.Ops.length≤59) (N:zen g x o) (hk:o.Act.Kind=2) (hkey:o.Act.Key=key):InS (zd5 g (x,o)) key :=
 ⟨x,o,zkm R.fit N,hk,hkey,z134 R hl N⟩
theorem z17h (R:Rp g) (N:zen g x o) (h2:¬ (o.Act.Kind=2∧o.Act.Key=key)) (h3:¬ (o.Act.Kind=3∧o.Act.Key=key)):InS (zd5 g (x,o)) key↔InS g key:=by
 have ov:∀ z,Over (zd5 g (x,o)) key z↔Over g key z:=fun z=>by
  rw [zrw R N]
  exact ⟨fun h=>h.elim id fun h=>absurd ⟨h.2.1,h.1⟩ h3,.inl⟩
 constructor
 ·
  rintro ⟨y,q,k1,k2,k3,k4⟩
  rcases zbf R.fit N k1 with ⟨e,rfl⟩ | ⟨e,h⟩
  ·
   exact absurd ⟨k2,k3⟩ h2
  ·
   exact ⟨y,q,h,k2,k3, fun h=>k4 ((ov y).2 h)⟩
 ·
  rintro ⟨y,q,k1,k2,k3,k4⟩
  exact ⟨y,q,zkl R.fit N k1,k2,k3, fun h=>k4 ((ov y).1 h)⟩
theorem z16e (R:Rp g) (N:zen g x o) (h3:o.Act.Kind=3) (hkey:o.Act.Key=key) (all:∀ z q,z1f g z=some q→zu4 (zd5 g (x,o)) z x):¬ InS (zd5 g (x,o)) key:=by
 rintro ⟨y,q,k1,k2,k3,k4⟩
 rcases zbf R.fit N k1 with ⟨e,rfl⟩ | ⟨e,h⟩
 ·
  rw [h3] at k2; cases k2
 ·
  exact k4 ((zrw R N).2 (.inr ⟨hkey,h3,all y q h⟩))
end
section
open Go
def frc {α:Type} (x:Nat) (k:Nat→α):α:=match x with
 | 0=>k 0
 | n+1=>k (n+1)
theorem z15d {α:Type} (x:Nat) (k:Nat→α):frc x k=k x:=by cases x <;> rfl
def zud {α:Type} (x:UInt32) (k:UInt32→α):α:=frc x.toNat fun n=>k (UInt32.ofNat n)
theorem zla {α:Type} (x:UInt32) (k:UInt32→α):zud x k=k x:=by unfold zud; rw [z15d,UInt32.ofNat_toNat]
def fB {α:Type}:List UInt8→(List UInt8→α)→α
 | [],k=>k []
 | x::l,k=>frc x.toNat fun n=>fB l fun m=>k (UInt8.ofNat n::m)
theorem z19k {α:Type}:∀ (l:List UInt8) (k:List UInt8→α),fB l k=k l
 | [],k=>rfl
 | x::l,k=>by rw [fB,z15d,z19k l,UInt8.ofNat_toNat]
def fW {α:Type}:List UInt32→(List UInt32→α)→α
 | [],k=>k []
 | x::l,k=>zud x fun n=>fW l fun m=>k (n::m)
theorem z198 {α:Type}:∀ (l:List UInt32) (k:List UInt32→α),fW l k=k l
 | [],k=>rfl
 | x::l,k=>by rw [fW,zla,z198 l]
def wL:Nat→List UInt8→List UInt32
 | 0,_=>[]
 | n+1,l=>word l 0::wL n (l.drop 4)
theorem zyv (l:List UInt8) (k:Nat):word (l.drop 4) k=word l (k+1):=by
 unfold word
 have e:∀ j,(l.drop 4).getD (4 * k+j) 0=l.getD (4 * (k+1)+j) 0:=fun j=>by
  rw [List.getD_eq_getElem?_getD,List.getD_eq_getElem?_getD,List.getElem?_drop]
  congr 2; omega
 have e0:=e 0
 rw [Nat.add_zero,Nat.add_zero] at e0
 rw [e0,e 1,e 2,e 3]
theorem z19g:∀ (n:Nat) (l:List UInt8),wL n l=(List.range n).map (word l)
 | 0,l=>rfl
 | n+1,l=>by
  rw [wL,z19g n,List.range_succ_eq_map,List.map_cons,List.map_map]
  exact congrArg (List.cons (word l 0)) (List.map_congr_left fun k hk=>zyv l k)
def sF {α:Type}:Nat→List UInt32→(List UInt32→α)→α
 | 0,r,k=>k r.reverse
 | n+1,r,k=>zud (((r.getD 15 0+r.getD 6 0)+sg0 (r.getD 14 0))+sg1 (r.getD 1 0)) fun w=>sF n (w::r) k
theorem zmj (l:List UInt32) (i:Nat) (h:i<l.length):l.reverse.getD i 0=l.getD (l.length - (i+1)) 0:=by
 rw [List.getD_eq_getElem?_getD,List.getD_eq_getElem?_getD,List.getElem?_reverse h]
 congr 2
 omega
theorem z19d {α:Type} (b:List UInt8) (k:List UInt32→α):∀ (n m:Nat),sF n (z7f b m).reverse k=k (z7f b (m+n))
 | 0,m=>by rw [sF,List.reverse_reverse]; rfl
 | n+1,m=>by
  have hl:=zf3 b m
  rw [sF,zla,zmj _ 15 (by omega),zmj _ 6 (by omega),zmj _ 14 (by omega),zmj _ 1 (by omega)]
  have:((((z7f b m).getD ((z7f b m).length - (15+1)) 0+(z7f b m).getD ((z7f b m).length - (6+1)) 0)+sg0 ((z7f b m).getD ((z7f b m).length - (14+1)) 0))+sg1 ((z7f b m).getD ((z7f b m).length - (1+1)) 0))::(z7f b m).reverse=(z7f b (m+1)).reverse:=by
   show _=(zut (z7f b m)).reverse
   unfold zut
   rw [List.reverse_append]; rfl
  rw [this,z19d b k n (m+1)]
  congr 2; omega
def rF {α:Type}:List UInt32→List UInt32→O8→(O8→α)→α
 | q::K,w::W,s,k=>zud (rnd1 q w s) fun t=>zud (t+rnd2 s) fun x=>zud (s.2.2.2.1+t) fun y=>rF K W (x,s.1,s.2.1,s.2.2.1,y,s.2.2.2.2.1,s.2.2.2.2.2.1,s.2.2.2.2.2.2.1) k
 | _,_,s,k=>k s
theorem z1a6 {α:Type} (K W:List UInt32) (hK:K.length=64) (hW:W.length=64) (s:O8) (k:O8→α):∀ (n i:Nat),64 - i=n→i≤64→rF (K.drop i) (W.drop i) (zvg K W s i) k=k (zvg K W s 64)
 | 0,i,h,hi=>by
  have:i=64:=by omega
  subst this
  rw [List.drop_eq_nil_of_le (by omega)]; rfl
 | n+1,i,h,hi=>by
  rw [List.drop_eq_getElem_cons (by omega),List.drop_eq_getElem_cons (by omega:i<W.length),rF,zla,zla,zla]
  rw [← z1a6 K W hK hW s k n (i+1) (by omega) (by omega)]
  congr 1
  rw [zvg,rnd,List.getD_eq_getElem?_getD,List.getD_eq_getElem?_getD,List.getElem?_eq_getElem (by omega),List.getElem?_eq_getElem (by omega)]
  rfl
def grK {α:Type} (h:O8) (b:List UInt8) (k:O8→α):α :=
 fW (wL 16 b).reverse fun r=>sF 48 r fun W=>rF z5x.toList W h fun s =>
 zud (h.1+s.1) fun a=>zud (h.2.1+s.2.1) fun b=>zud (h.2.2.1+s.2.2.1) fun c=>zud (h.2.2.2.1+s.2.2.2.1) fun d =>
 zud (h.2.2.2.2.1+s.2.2.2.2.1) fun e=>zud (h.2.2.2.2.2.1+s.2.2.2.2.2.1) fun f=>zud (h.2.2.2.2.2.2.1+s.2.2.2.2.2.2.1) fun g=>zud (h.2.2.2.2.2.2.2+s.2.2.2.2.2.2.2) fun z=>k (a,b,c,d,e,f,g,z)
def add8 (h s:O8):O8:=(h.1+s.1,h.2.1+s.2.1,h.2.2.1+s.2.2.1,h.2.2.2.1+s.2.2.2.1,h.2.2.2.2.1+s.2.2.2.2.1,h.2.2.2.2.2.1+s.2.2.2.2.2.1,h.2.2.2.2.2.2.1+s.2.2.2.2.2.2.1,h.2.2.2.2.2.2.2+s.2.2.2.2.2.2.2)
theorem z14n (h v:Vector UInt32 8):∀ j (hj:j<8),(addV h v)[j]=h[j]+v[j]:=by
 obtain ⟨r,h1,h2⟩:=z7g (F:=z1o v) 8 (fun i s=>s.2=(i:Int)∧∀ j (hj:j<8),s.1[j]=if j<i then h[j]+v[j] else h[j]) (fun r=>∀ j (hj:j<8),r[j]=h[j]+v[j]) (fun i s hi hs=>by
  obtain ⟨u,k⟩:=s
  obtain ⟨hs,hu⟩:=hs
  simp only at hs hu
  subst hs
  unfold z1o
  rw [if_pos (by simp; omega)]
  rw [z8v (show i<8 by omega),z8v (show i<8 by omega)]
  simp only [bS,z0g (show i<9223372036854775807 by omega)]
  refine ⟨_,rfl,rfl, fun j hj=>?_⟩
  simp only
  rw [zh3 hj,hu j hj,hu i hi]
  simp only [Int.toNat_natCast]
  by_cases e:i=j
  ·
   subst e; simp
  ·
   rw [if_neg e]
   by_cases l:j<i
   ·
    rw [if_pos l,if_pos (by omega)]
   ·
    rw [if_neg l,if_neg (by omega)]) (fun s hs=>by
  obtain ⟨u,k⟩:=s
  obtain ⟨hs,hu⟩:=hs
  simp only at hs hu
  subst hs
  unfold z1o
  rw [if_neg (by simp)]
  exact ⟨_,rfl, fun j hj=>by rw [hu j hj,if_pos hj]⟩) (h,0) 0 (by omega) ⟨rfl, fun j hj=>by simp⟩
 unfold addV
 rw [h1]
 exact h2
theorem z15t (h s:O8):addV (toV h) (toV s)=toV (add8 h s):=by
 apply Vector.ext
 intro j hj
 rw [z14n]
 match j,hj with
 | 0,_=>rfl
 | 1,_=>rfl
 | 2,_=>rfl
 | 3,_=>rfl
 | 4,_=>rfl
 | 5,_=>rfl
 | 6,_=>rfl
 | 7,_=>rfl
theorem z17g (s:O8):ofV (toV s)=s:=rfl
theorem z18e {α:Type} (h:O8) (b:List UInt8) (k:O8→α):∃ s,gr (toV h) b=toV s∧grK h b k=k s:=by
 refine ⟨add8 h (zvg z5x.toList (z7f b 48) h 64),?_,?_⟩
 ·
  unfold gr
  rw [z17g,z15t]
 ·
  unfold grK
  have e:wL 16 b=z7f b 0:=z19g 16 b
  rw [z198,e,z19d b _ 48 0]
  have:=z1a6 z5x.toList (z7f b 48) zqt (by rw [zf3]) h (fun s=>k (add8 h s)) 64 0 rfl (by omega)
  rw [← this]
  simp only [zla]
  rfl
def blkK {α:Type}:Nat→O8→List UInt8→(O8→α)→α
 | 0,h,b,k=>k h
 | n+1,h,b,k=>grK h (b.take 64) fun s=>blkK n s (b.drop 64) k
theorem z11l {α:Type}:∀ (n:Nat) (h:O8) (b:List UInt8) (k:O8→α),b.length=64 * n→∃ s,blk (toV h) b=toV s∧blkK n h b k=k s
 | 0,h,b,k,hb=>⟨h,zsg (by omega),rfl⟩
 | n+1,h,b,k,hb=>by
  obtain ⟨s,s1,s2⟩:=z18e h (b.take 64) (fun s=>blkK n s (b.drop 64) k)
  obtain ⟨t,t1,t2⟩:=z11l n s (b.drop 64) k (by rw [List.length_drop]; omega)
  refine ⟨t,?_,?_⟩
  ·
   rw [zrh (by omega),s1,t1]
  ·
   rw [blkK,s2,t2]
def H8:O8:=(1779033703,3144134277,1013904242,2773480762,1359893119,2600822924,528734635,1541459225)
def shaK {α:Type} (b:List UInt8) (k:O8→α):α:=fB (b++tl b.length) fun m=>blkK (m.length / 64) H8 m k
theorem z18d (n:Nat):(n+(tl n).length) % 64=0:=by
 unfold tl z9c zrs
 simp
 omega
theorem z15x {α:Type} (b:List UInt8) (k:O8→α):∃ s,sha b=wr (toV s)∧shaK b k=k s:=by
 have hl:=z18d b.length
 obtain ⟨s,s1,s2⟩:=z11l ((b++tl b.length).length / 64) H8 (b++tl b.length) k (by rw [List.length_append]; omega)
 refine ⟨s,?_,?_⟩
 ·
  unfold sha
  rw [show H0=toV H8 from rfl,s1]
 ·
  unfold shaK
  rw [z19k,s2]
def zxa (b:List UInt8) (s:O8):Bool:=shaK b fun t=>t==s
theorem z18s {b:List UInt8} {s:O8} (h:zxa b s=true):sha b=wr (toV s):=by
 unfold zxa at h
 obtain ⟨t,t1,t2⟩:=z15x b (fun t=>t==s)
 rw [t2] at h
 rw [t1,eq_of_beq h]
end
section
open Go
theorem z144 (m:List UInt8) (r:UInt32) (h:m.length≤9991):zdr 110 m [r]=some (zpc (sha (([110]++four r)++m)) 8,0):=by
 have l1:iter (z48 [r]) ([110],0)=some ([110]++four r):=by
  have s1:z48 [r] ([110],0)=some (.inr ([110]++four r,1)):=by
   unfold z48
   rw [if_pos (by simp)]
   simp only []
   rw [show idx [r] 0=some r from rfl,z13 (x:=(0:Int)+1) (by omega) (by omega)]
   simp only [bS]
   rw [z19 (by simp)]
   rfl
  have s3:z48 [r] ([110]++four r,1)=some (.inl ([110]++four r)):=by
   unfold z48
   rw [if_neg (by simp)]
  rw [z1n s1,z1a s3]
 unfold zdr
 rw [if_neg (by simp; omega),l1]
 simp only [bS]
 rw [zn4 _ (by simp) (by
  intro b hb
  simp only [List.mem_cons,List.not_mem_nil,or_false] at hb
  rcases hb with rfl | rfl
  ·
   simp [four]
  ·
   omega)]
 simp only [bS]
 rw [zvf, show [[110]++four r,m].flatten=([110]++four r)++m by simp only [List.flatten_cons,List.flatten_nil,List.append_nil]]
 rfl
def zin (k:UInt32) (m:List UInt8):UInt32:=(zpc (sha (([110]++four k)++m)) 8 % 500000002).toUInt32+1
theorem zsv {k:UInt32} (h1:1≤k.toNat) (h2:k.toNat<gq):zfc k=some 0:=by
 have h2:k.toNat<500000003:=h2
 have hs:(k - 1).toNat=k.toNat - 1:=by
  rw [UInt32.toNat_sub_of_le _ _ (by rw [UInt32.le_iff_toNat_le]; exact h1)]; rfl
 unfold zfc
 rw [if_neg (by
  rw [decide_eq_true_iff,UInt32.le_iff_toNat_le,hs]
  have:(500000002:UInt32).toNat=500000002:=rfl
  omega)]
theorem zzg (n:UInt64):zcb n=some (u32 (4 ^ n.toNat % gp)):=by
 unfold zcb
 rw [zvw]; rfl
theorem z12u {k:UInt32} (h1:1≤k.toNat) (h2:k.toNat<gq) (m:List UInt8) (h:m.length≤9991):zhi k m=some (zin k m,0):=by
 unfold zhi
 rw [zsv h1 h2]
 simp only [bS]
 rw [if_neg (by simp),z144 m k h]
 simp only [bS]
 rw [if_neg (by simp)]
 rfl
theorem zsl {k:UInt32} (h1:1≤k.toNat) (h2:k.toNat<gq):zdm k=some (u32 (4 ^ k.toNat % gp),0):=by
 unfold zdm
 rw [zsv h1 h2]
 simp only [bS]
 rw [if_neg (by simp),zzg]
 simp only [bS]
 simp
theorem q64 (x y:UInt64) (h:x.toNat * y.toNat<18446744073709551616):(x * y % 500000003).toNat=x.toNat * y.toNat % gq:=by
 rw [UInt64.toNat_mod,UInt64.toNat_mul,Nat.mod_eq_of_lt h]
 rfl
theorem mulq (x y:UInt32):zb8 500000003 [x,y]=some (u32 (x.toNat * y.toNat % gq)):=by
 have hx:=UInt32.toNat_lt x
 have hy:=UInt32.toNat_lt y
 have e1:(1 * x.toUInt64 % 500000003:UInt64).toNat=x.toNat % gq:=by
  rw [q64 _ _ (by simp; omega)]; simp
 have hlt:x.toNat % gq<500000003:=Nat.mod_lt _ (by decide)
 have hpr:(x.toNat % gq) * y.toNat≤500000003 * 4294967296:=Nat.mul_le_mul (by omega) (by omega)
 have e2:(1 * x.toUInt64 % 500000003 * y.toUInt64 % 500000003:UInt64).toNat=x.toNat * y.toNat % gq:=by
  rw [q64 _ _ (by rw [e1]; simp; omega),e1]
  simp only [UInt32.toNat_toUInt64]
  rw [Nat.mod_mul_mod]
 have s1:z47 500000003 [x,y] (1,0)=some (.inr (1 * x.toUInt64 % 500000003,1)):=by
  unfold z47
  rw [if_pos (by simp)]
  simp only []
  rw [show idx [x,y] 0=some x from rfl,z3r (by decide),z13 (x:=(0:Int)+1) (by omega) (by omega)]
  simp only [bS]
  rfl
 have s2:z47 500000003 [x,y] (1 * x.toUInt64 % 500000003,1)=some (.inr (1 * x.toUInt64 % 500000003 * y.toUInt64 % 500000003,2)):=by
  unfold z47
  rw [if_pos (by simp)]
  simp only []
  rw [show idx [x,y] 1=some y from rfl,z3r (by decide),z13 (x:=(1:Int)+1) (by omega) (by omega)]
  simp only [bS]
  rfl
 have s3:z47 500000003 [x,y] (1 * x.toUInt64 % 500000003 * y.toUInt64 % 500000003,2)=some (.inl (1 * x.toUInt64 % 500000003 * y.toUInt64 % 500000003)):=by
  unfold z47
  rw [if_neg (by simp)]
 unfold zb8
 rw [z1n s1,z1n s2,z1a s3]
 simp only [bS]
 rw [to32 _ (by rw [e2]; exact Nat.lt_trans (Nat.mod_lt _ (by decide)) (by decide)),e2]
theorem z139 {x y:UInt32} (hx:x.toNat<gq) (hy:y.toNat<gq):zfl x y=some (u32 (x.toNat * y.toNat % gq),0):=by
 unfold zfl
 rw [zpk]
 unfold zay
 rw [decide_eq_true hx,decide_eq_true hy,if_neg (by simp),mulq]
 rfl
theorem z16w {x y:UInt32} (hx:x.toNat<gq) (hy:y.toNat<gq):zh5 x y=some (u32 ((x.toNat+y.toNat) % gq),0):=by
 unfold zh5
 rw [zpk]
 unfold zay
 rw [decide_eq_true hx,decide_eq_true hy,if_neg (by simp)]
 have hx:x.toNat<500000003:=hx
 have hy:y.toNat<500000003:=hy
 have:(x+y) % 500000003=u32 ((x.toNat+y.toNat) % gq):=by
  apply UInt32.toNat_inj.1
  rw [z2d (Nat.lt_trans (Nat.mod_lt _ (by decide)) (by decide)),UInt32.toNat_mod,UInt32.toNat_add,Nat.mod_eq_of_lt (a:=x.toNat+y.toNat) (by omega)]
  rfl
 rw [this]
 rfl
theorem zyo (r y:UInt32) (m:List UInt8):(zy5 r y m).toNat<gq:=by
 unfold zy5
 rw [UInt64.toNat_toUInt32,UInt64.toNat_mod]
 exact Nat.lt_of_le_of_lt (Nat.mod_le _ _) (Nat.mod_lt _ (by decide))
def zxz (k:UInt32) (m:List UInt8):z08 :=
 ⟨zy5 (u32 (4 ^ (zin k m).toNat % gp)) (u32 (4 ^ k.toNat % gp)) m,u32 (((zin k m).toNat+(zy5 (u32 (4 ^ (zin k m).toNat % gp)) (u32 (4 ^ k.toNat % gp)) m).toNat * k.toNat % gq) % gq)⟩
theorem z14d {k:UInt32} (h1:1≤k.toNat) (h2:k.toNat<gq) (m:List UInt8) (h:m.length≤9991) (hK:(zin k m).toNat<gq):zk9 k m=some (zxz k m,0):=by
 unfold zk9
 rw [z12u h1 h2 m h]
 simp only [bS]
 rw [if_neg (by simp),zsl h1 h2]
 simp only [bS]
 rw [zzg]
 simp only [bS]
 rw [zld _ _ _ h]
 simp only [bS]
 rw [z139 (zyo _ _ _) h2]
 simp only [bS]
 have hg:∀ n,n % gq<gp:=fun n=>Nat.lt_trans (Nat.mod_lt _ (by decide)) (by decide)
 rw [z16w hK (by rw [z2d (hg _)]; exact Nat.mod_lt _ (by decide)),z2d (hg _)]
 simp only [bS]
 unfold zxz
 simp
theorem z135 {n:Nat}:4 ^ (n % gq) % gp=4 ^ n % gp:=by
 have:=znx zwi (n / gq) (n % gq)
 rw [Nat.div_add_mod] at this
 exact this.symm
theorem z1ag {k:UInt32} (h2:k.toNat<gq) (m:List UInt8) (hK:(zin k m).toNat<gq):znj (u32 (4 ^ k.toNat % gp)) m (zxz k m)=true:=by
 have hg:∀ n,n % gq<gp:=fun n=>Nat.lt_trans (Nat.mod_lt _ (by decide)) (by decide)
 have hp:∀ n,n % gp<gp:=fun n=>Nat.mod_lt _ (by decide)
 have hE:=zyo (u32 (4 ^ (zin k m).toNat % gp)) (u32 (4 ^ k.toNat % gp)) m
 have hr:sigR (u32 (4 ^ k.toNat % gp)) (zxz k m)=u32 (4 ^ (zin k m).toNat % gp):=by
  unfold sigR zxz
  generalize (zy5 (u32 (4 ^ (zin k m).toNat % gp)) (u32 (4 ^ k.toNat % gp)) m).toNat=E at *
  generalize (zin k m).toNat=K at *
  generalize k.toNat=k at *
  rw [z2d (hg _),z2d (hp _),Nat.add_mod_mod,z135,zim,← Nat.mul_mod,← Nat.pow_add]
  have:K+E * k+k * (gq - E)=gq * k+K:=by
   have e:k * (gq - E)+k * E=k * gq:=by rw [← Nat.mul_add,Nat.sub_add_cancel (Nat.le_of_lt hE)]
   rw [Nat.mul_comm E k,Nat.mul_comm gq k,← e]; omega
  rw [this,znx zwi]
 unfold znj
 rw [hr]
 have e1:zay (zxz k m).E=true:=decide_eq_true hE
 have e2:zay (zxz k m).S=true:=decide_eq_true (by
  show (u32 _).toNat<gq
  rw [z2d (hg _)]; exact Nat.mod_lt _ (by decide))
 rw [e1,e2]
 simp only [Bool.true_and]
 show (_==_)=true
 simp [zxz]
def au (o:z05) (y:UInt32):z05:=⟨y,o.Preds,o.Stamp,o.Act,⟨0,0⟩⟩
def zy0 (k:UInt32) (o:z05):z05:=⟨u32 (4 ^ k.toNat % gp),o.Preds,o.Stamp,o.Act,zxz k (msg (au o (u32 (4 ^ k.toNat % gp))))⟩
theorem z12h {k:UInt32} (h1:1≤k.toNat) (h2:k.toNat<gq) (o:z05) (hs:o.Sig=⟨0,0⟩) (hc:z54 (au o (u32 (4 ^ k.toNat % gp)))=0) (hI:inI o.Act.Value.Num) (ht:o.Act.Value.Text.length≤9223372036854775807)
  (hK:(zin k (msg (au o (u32 (4 ^ k.toNat % gp))))).toNat<gq):zkt k o=some (zy0 k o,0):=by
 have hp:=(z80 hc).1
 have hl:=zkv hc hI
 have hm:zc3 (⟨u32 (4 ^ k.toNat % gp),o.Preds,o.Stamp,o.Act,⟨0,0⟩⟩:z05)=some (msg (au o (u32 (4 ^ k.toNat % gp))),0):=zkq (au o (u32 (4 ^ k.toNat % gp))) hc hI ht
 unfold zkt
 rw [zsl h1 h2]
 simp only [bS]
 rw [if_neg (by simp),zk5 o.Preds (Nat.le_trans hp (by omega)),hs]
 simp only [bS]
 rw [hm]
 simp only [bS]
 rw [if_neg (by simp)]
 rw [z14d h1 h2 (msg (au o (u32 (4 ^ k.toNat % gp)))) (by omega) hK]
 rfl
theorem zzt (a b:z05) (h1:a.Author=b.Author) (h2:a.Preds=b.Preds) (h3:a.Stamp=b.Stamp) (h4:a.Act=b.Act):msg a=msg b:=by
 unfold msg zqx
 rw [h1,h2,h3,h4]
theorem z133 {k:UInt32} (h2:k.toNat<gq) (o:z05) (hc:z54 (au o (u32 (4 ^ k.toNat % gp)))=0) (hK:(zin k (msg (au o (u32 (4 ^ k.toNat % gp))))).toNat<gq):zfn (zy0 k o)=0:=by
 have hs:=z1ag h2 _ hK
 have hx:zay (zy0 k o).Sig.E=true∧zay (zy0 k o).Sig.S=true:=by
  have:=hs
  unfold znj at this
  simp only [Bool.and_eq_true] at this
  exact ⟨this.1,this.2.1⟩
 have hc2:z54 (zy0 k o)=0:=by
  obtain ⟨a1,a2,a3⟩:=z80 hc
  unfold zef at a3
  simp only [Bool.and_eq_true] at a3
  unfold z54
  rw [if_neg (by exact Nat.not_lt.2 a1),if_neg (by rw [show (zy0 k o).Preds=(au o (u32 (4 ^ k.toNat % gp))).Preds from rfl,a2]; simp),if_pos]
  unfold zef
  simp only [Bool.and_eq_true]
  exact ⟨a3.1,a3.2.1,a3.2.2.1,hx.1,hx.2⟩
 have hm:msg (zy0 k o)=msg (au o (u32 (4 ^ k.toNat % gp))):=zzt _ _ rfl rfl rfl rfl
 have ha:(zy0 k o).Author=u32 (4 ^ k.toNat % gp):=rfl
 have hg:(zy0 k o).Sig=zxz k (msg (au o (u32 (4 ^ k.toNat % gp)))):=rfl
 unfold zfn
 rw [if_pos hc2,hm,ha,hg,if_pos hs]
end
section
open Go
@[irreducible] def idv (s:O8):V3:=wr (toV s)
theorem zti {b:List UInt8} {s:O8} (h:zxa b s=true):sha b=idv s:=by rw [idv]; exact z18s h
def wds (s:O8):List UInt32:=[s.1,s.2.1,s.2.2.1,s.2.2.2.1,s.2.2.2.2.1,s.2.2.2.2.2.1,s.2.2.2.2.2.2.1,s.2.2.2.2.2.2.2]
@[irreducible] def wrL (s:O8):List UInt8:=(List.range 32).map fun i=>(z4k ((wds s).getD (i / 4) 0) (24 - 8 * (i % 4))).toUInt8
theorem zxq {α:Type} (n:Nat) (g:Nat→α):(Vector.ofFn (fun i:Fin n=>g i.val)).toList=(List.range n).map g:=by
 apply List.ext_getElem
 ·
  simp
 ·
  intro i h1 h2
  simp
theorem z15s (h:Vector UInt32 8):(wr h).toList=(List.range 32).map fun i=>(z4k (h.toList.getD (i / 4) 0) (24 - 8 * (i % 4))).toUInt8:=by
 rw [← zxq 32 (fun i=>(z4k (h.toList.getD (i / 4) 0) (24 - 8 * (i % 4))).toUInt8)]
 have:∀ i (hi:i / 4<8),h[i / 4]=h.toList.getD (i / 4) 0:=fun i hi=>by
  rw [List.getD_eq_getElem?_getD,List.getElem?_eq_getElem (by simpa using hi)]
  simp
 unfold wr
 exact congrArg (fun f=>(Vector.ofFn f).toList) (funext fun i=>by rw [this i.val (by omega)])
theorem zqk (s:O8):(idv s).toList=wrL s:=by
 rw [idv,z15s,wrL]
 rfl
def dig:Nat→Nat→List UInt8
 | 0,_=>[]
 | f+1,n=>if n=0 then [] else UInt8.ofNat n::dig f (n / 256)
theorem z15c:∀ (f n:Nat),n<256 ^ f→z3e n=dig f n
 | 0,n,h=>by
  have:n=0:=by simpa using h
  subst this; exact zdq
 | f+1,n,h=>by
  rw [dig]
  by_cases hn:n=0
  ·
   rw [if_pos hn,hn,zdq]
  ·
   rw [if_neg hn,zhd n hn,z15c f (n / 256) (by rw [Nat.pow_succ] at h; omega)]
def zwo (n:Nat):List UInt8:=if n≤247 then [UInt8.ofNat n] else UInt8.ofNat (247+(dig 8 n).length)::(dig 8 n).reverse
theorem zgs (n:Nat) (h:n<256 ^ 8):z1y n=zwo n:=by
 unfold z1y zwo
 rw [z15c 8 n h]
def numl (l:List UInt8):Nat→Nat
 | 0=>0
 | i+1=>256 * numl l i+(l.getD i 0).toNat
theorem zwb (d:V3):∀ i,i≤8→(zpc d i).toNat=numl d.toList i
 | 0,_=>rfl
 | i+1,h=>by
  have ih:=zwb d i (by omega)
  have hl:=zuo d i (by omega)
  have hy:=UInt8.toNat_lt (d.toList.getD i 0)
  have hp:256 ^ i≤256 ^ 7:=Nat.pow_le_pow_right (by omega) (by omega)
  have e7:(256:Nat) ^ 7=72057594037927936:=rfl
  rw [zpc,UInt64.toNat_add,UInt64.toNat_mul]
  have e1:((d.toList.getD i 0).toUInt64).toNat=(d.toList.getD i 0).toNat:=by simp
  have e2:(256:UInt64).toNat=256:=rfl
  rw [e1,e2,Nat.mod_eq_of_lt (a:=256 * (zpc d i).toNat) (by omega),Nat.mod_eq_of_lt (by omega),ih]
  rfl
def num8 (s:O8):Nat:=numl (wrL s) 8
theorem z11y (s:O8):(zpc (idv s) 8).toNat=num8 s:=by rw [zwb _ 8 (Nat.le_refl _),zqk]; rfl
def ztj:List O8→Bool
 | a::b::l=>decide (nk (wrL a)<nk (wrL b))&&ztj (b::l)
 | _=>true
theorem z157 (s:O8):kd (idv s)=nk (wrL s):=by unfold kd; rw [zqk]
theorem zpz:∀ l:List O8,z7k (l.map idv)=ztj l
 | []=>by rw [List.map_nil,z7k,ztj] <;> simp
 | [a]=>by rw [List.map_cons,List.map_nil,z7k,ztj] <;> simp
 | a::b::l=>by
  have ih:=zpz (b::l)
  simp only [List.map_cons] at ih ⊢
  rw [z7k,ztj,ih,zx0,z157,z157]
  generalize nk (wrL a)=x
  generalize nk (wrL b)=y
  by_cases h:x<y
  ·
   rw [if_pos h,decide_eq_true h]; rfl
  ·
   rw [if_neg h,decide_eq_false h]
   split <;> rfl
theorem zw3:∀ P:List O8,zob (P.map idv)=P.flatMap wrL
 | []=>rfl
 | a::l=>by
  have:=zw3 l
  unfold zob at this ⊢
  rw [List.map_cons,List.flatMap_cons,List.flatMap_cons,this,zqk]
theorem of32 {n:Nat} (h:n<gq):(UInt32.ofNat n).toNat=n:=z2d (Nat.lt_trans h (by decide))
end
section
open Go
def zlh (y:UInt32) (st:UInt64) (P:List O8) (a:z07) (sg:z08):z05:=⟨y,P.map idv,st,a,sg⟩
def keyK (k:List UInt8):List UInt8:=zwo k.length++k
def valK (v:z03):List UInt8:=v.Kind::(if v.Kind=1 then zwo (zig v.Num) else if v.Kind=2 then be8 v.Bits else zwo v.Text.length++v.Text)
def actK (a:z07):List UInt8:=if a.Kind=1 then [a.Kind] else if a.Kind=4 then ([a.Kind]++keyK a.Key)++valK a.Value else [a.Kind]++keyK a.Key
def zyt (y st:Nat) (P:List O8) (a:z07):List UInt8:=[111]++(zwo y++((zwo P.length++P.flatMap wrL)++(zwo st++actK a)))
theorem zw4 {a:z07} (h:zhw a=true) (ht:a.Value.Text.length≤100):a.Key.length≤20:=by
 unfold zhw at h
 split at h
 ·
  simp at h; rw [h.1]; simp
 ·
  split at h
  ·
   rw [Bool.and_eq_true] at h
   have:=h.1; unfold zei at this; simp at this; exact this.2.1
  ·
   split at h
   ·
    rw [Bool.and_eq_true] at h
    have:=h.1; unfold zei at this; simp at this; exact this.2.1
   ·
    cases h
theorem z10m (y:UInt32) (st:UInt64) (P:List O8) (a:z07) (sg:z08) (hP:P.length≤4) (hk:a.Key.length≤100) (ht:a.Value.Text.length≤100) (hI:inI a.Value.Num):msg (zlh y st P a sg)=zyt y.toNat st.toNat P a:=by
 have hy:=UInt32.toNat_lt y
 have hs:=UInt64.toNat_lt st
 have hz:=zvl hI
 have e8:(256:Nat) ^ 8=18446744073709551616:=rfl
 have hh:zqx (zlh y st P a sg)=[111]++(zwo y.toNat++((zwo P.length++P.flatMap wrL)++(zwo st.toNat++[a.Kind]))):=by
  unfold zqx
  show [111]++(z1y y.toNat++((z1y (P.map idv).length++zob (P.map idv))++(z1y st.toNat++[a.Kind])))=_
  rw [List.length_map,zw3,zgs _ (by omega),zgs P.length (by omega),zgs st.toNat (by omega)]
 have hkk:keyB a=keyK a.Key:=by unfold keyB keyK; rw [zgs _ (by omega)]
 have hv:encV a.Value=valK a.Value:=by
  unfold encV valK
  rw [zgs _ (by omega),zgs _ (by omega)]
 unfold msg zyt actK
 show (if a.Kind=1 then zqx (zlh y st P a sg) else if a.Kind=4 then (zqx (zlh y st P a sg)++keyB a)++encV a.Value else zqx (zlh y st P a sg)++keyB a)=_
 rw [hh,hkk,hv]
 split
 ·
  rfl
 ·
  split <;> simp [List.append_assoc]
def zny (k y K r E S st:Nat) (P:List O8) (a:z07) (h1 h2 h3:O8):Bool :=
 zhw a&&(decide (-1000000≤a.Value.Num)&&(decide (a.Value.Num≤1000000)&&(decide (a.Value.Text.length≤100)&&(
 decide (1≤k)&&(decide (k<gq)&&(decide (st≤1000000000000)&&(decide (P.length≤4)&&(ztj P&&(pmod 30 4 k gp==y &&
 (zxa (([110]++four (UInt32.ofNat k))++zyt y st P a) h1&&(num8 h1 % 500000002+1==K&&(pmod 30 4 K gp==r &&
 (zxa ((([99]++four (UInt32.ofNat r))++four (UInt32.ofNat y))++zyt y st P a) h2&&(num8 h2 % gq==E&&((K+E * k % gq) % gq==S &&
 zxa (zyt y st P a++(zwo E++zwo S)) h3)))))))))))))))
def askA (st:Nat) (P:List O8) (a:z07):z05:=⟨0,P.map idv,UInt64.ofNat st,a,⟨0,0⟩⟩
theorem zui {k y K r E S st:Nat} {P:List O8} {a:z07} {h1 h2 h3:O8} (h:zny k y K r E S st P a h1 h2 h3=true) :
  (zhw a=true∧inI a.Value.Num∧a.Value.Text.length≤100∧P.length≤4) ∧
  1≤(UInt32.ofNat k).toNat∧(UInt32.ofNat k).toNat<gq∧z54 (au (askA st P a) (u32 (4 ^ (UInt32.ofNat k).toNat % gp)))=0∧(zin (UInt32.ofNat k) (msg (au (askA st P a) (u32 (4 ^ (UInt32.ofNat k).toNat % gp))))).toNat<gq ∧
  zy0 (UInt32.ofNat k) (askA st P a)=zlh (u32 y) (UInt64.ofNat st) P a ⟨u32 E,u32 S⟩∧sha (zg9 (zlh (u32 y) (UInt64.ofNat st) P a ⟨u32 E,u32 S⟩))=idv h3:=by
 unfold zny at h
 simp only [Bool.and_eq_true,decide_eq_true_eq,beq_iff_eq] at h
 obtain ⟨hact,hn1,hn2,htx,k1,k2,st1,p4,pi,hy,s1,hK,hr,s2,hE,hS,s3⟩:=h
 have hI:inI a.Value.Num:=by unfold inI; omega
 have hky:=zw4 hact htx
 have g1:∀ n,n % gp<gp:=fun n=>Nat.mod_lt _ (by decide)
 have g2:∀ n,n % gq<gq:=fun n=>Nat.mod_lt _ (by decide)
 have q30:gq<2 ^ 30:=by decide
 rw [zqp 30 4 k gp (by omega)] at hy
 have hKq:K<gq:=by
  have:=Nat.mod_lt (num8 h1) (show 0<500000002 by decide)
  show K<500000003
  omega
 rw [zqp 30 4 K gp (by omega)] at hr
 have yl:y<gp:=by rw [← hy]; exact g1 _
 have rl:r<gp:=by rw [← hr]; exact g1 _
 have El:E<gq:=by rw [← hE]; exact g2 _
 have Sl:S<gq:=by rw [← hS]; exact g2 _
 have ek:=of32 k2
 have est:(UInt64.ofNat st).toNat=st:=by rw [UInt64.toNat_ofNat',Nat.mod_eq_of_lt (by omega)]
 have ey:u32 (4 ^ (UInt32.ofNat k).toNat % gp)=u32 y:=by rw [ek,hy]
 have eau:au (askA st P a) (u32 (4 ^ (UInt32.ofNat k).toNat % gp))=zlh (u32 y) (UInt64.ofNat st) P a ⟨0,0⟩:=by rw [ey]; rfl
 have em:msg (au (askA st P a) (u32 (4 ^ (UInt32.ofNat k).toNat % gp)))=zyt y st P a:=by rw [eau,z10m _ _ _ _ _ p4 (Nat.le_trans hky (by omega)) htx hI,z2d yl,est]
 have eK:zin (UInt32.ofNat k) (zyt y st P a)=u32 K:=by
  apply UInt32.toNat_inj.1
  unfold zin
  rw [zti s1,z2d (Nat.lt_trans hKq (by decide)),UInt32.toNat_add,UInt64.toNat_toUInt32,UInt64.toNat_mod]
  rw [z11y h1, show (500000002:UInt64).toNat=500000002 from rfl, show (1:UInt32).toNat=1 from rfl]
  have:=Nat.mod_lt (num8 h1) (show 0<500000002 by decide)
  rw [Nat.mod_eq_of_lt (a:=num8 h1 % 500000002) (by omega),Nat.mod_eq_of_lt (by omega),hK]
 have eKn:(u32 K).toNat=K:=z2d (Nat.lt_trans hKq (by decide))
 have eE:zy5 (u32 r) (u32 y) (zyt y st P a)=u32 E:=by
  apply UInt32.toNat_inj.1
  unfold zy5
  have:sha ((([99]++four (u32 r))++four (u32 y))++zyt y st P a)=idv h2:=zti s2
  rw [this,z2d (Nat.lt_trans El (by decide)),UInt64.toNat_toUInt32,UInt64.toNat_mod]
  rw [z11y h2, show (500000003:UInt64).toNat=gq from rfl,hE,Nat.mod_eq_of_lt (by have:E<500000003:=El; omega)]
 have eS:zxz (UInt32.ofNat k) (zyt y st P a)=⟨u32 E,u32 S⟩:=by
  unfold zxz
  rw [eK,eKn,hr,ey,eE,z2d (Nat.lt_trans El (by decide)),ek,hS]
 have eO:zy0 (UInt32.ofNat k) (askA st P a)=zlh (u32 y) (UInt64.ofNat st) P a ⟨u32 E,u32 S⟩:=by
  unfold zy0
  rw [em,eS,ey]
  rfl
 have hc:z54 (zlh (u32 y) (UInt64.ofNat st) P a ⟨0,0⟩)=0:=by
  unfold z54
  rw [if_neg (by show ¬ 4<(P.map idv).length; rw [List.length_map]; omega),if_neg (by show ¬ z7k (P.map idv)=false; rw [zpz,pi]; simp),if_pos]
  unfold zef
  have hg:inG (u32 y).toNat:=by rw [z2d yl,← hy]; exact zqo zwi k
  rw [decide_eq_true (show inG (zlh (u32 y) (UInt64.ofNat st) P a ⟨0,0⟩).Author.toNat from hg)]
  have hst:decide (1000000000000<(zlh (u32 y) (UInt64.ofNat st) P a ⟨0,0⟩).Stamp)=false:=decide_eq_false (by
   show ¬ 1000000000000<UInt64.ofNat st
   rw [UInt64.lt_iff_toNat_lt,est, show (1000000000000:UInt64).toNat=1000000000000 from rfl]; omega)
  rw [hst]
  show (true&&(!false&&(zhw a&&(zay 0&&zay 0))))=true
  rw [hact]; rfl
 refine ⟨⟨hact,hI,htx,p4⟩, by rw [ek]; exact k1, by rw [ek]; exact k2, by rw [eau]; exact hc, by rw [em,eK,eKn]; exact hKq,eO,?_⟩
 unfold zg9
 rw [z10m _ _ _ _ _ p4 (Nat.le_trans hky (by omega)) htx hI,z2d yl,est]
 show sha (zyt y st P a++(z1y (u32 E).toNat++z1y (u32 S).toNat))=_
 have e8:(256:Nat) ^ 8=18446744073709551616:=rfl
 have El':E<500000003:=El
 have Sl':S<500000003:=Sl
 rw [z2d (Nat.lt_trans El (by decide)),z2d (Nat.lt_trans Sl (by decide)),zgs E (by omega),zgs S (by omega)]
 exact zti s3
theorem z181 {k y K r E S st:Nat} {P:List O8} {a:z07} {h1 h2 h3:O8} (h:zny k y K r E S st P a h1 h2 h3=true):zfn (zlh (u32 y) (UInt64.ofNat st) P a ⟨u32 E,u32 S⟩)=0:=by
 obtain ⟨a0,a1,a2,a3,a4,a5,a6⟩:=zui h
 have:=z133 a2 (askA st P a) a3 a4
 rw [a5] at this
 exact this
theorem z15m {k y K r E S st:Nat} {P:List O8} {a:z07} {h1 h2 h3:O8} (h:zny k y K r E S st P a h1 h2 h3=true) :
  zkt (UInt32.ofNat k) (askA st P a)=some (zlh (u32 y) (UInt64.ofNat st) P a ⟨u32 E,u32 S⟩,0)∧zfn (zlh (u32 y) (UInt64.ofNat st) P a ⟨u32 E,u32 S⟩)=0∧sha (zg9 (zlh (u32 y) (UInt64.ofNat st) P a ⟨u32 E,u32 S⟩))=idv h3:=by
 obtain ⟨a0,a1,a2,a3,a4,a5,a6⟩:=zui h
 have:=z12h a1 a2 (askA st P a) rfl a3 a0.2.1 (Nat.le_trans a0.2.2.1 (by omega)) a4
 rw [a5] at this
 exact ⟨this,z181 h,a6⟩
end
section
open Go
set_option maxRecDepth 100000
def jA:O8:=(1294143477,3975288409,3380291633,1307637063,2795651328,2928963845,411773720,2599519767)
def jB:O8:=(4070957495,1238851194,3006791305,3668175944,650406923,985998243,636907915,2127284687)
def jC:O8:=(3154915704,380657572,2392697411,4006790293,310211487,3996731630,1763161259,1545847034)
def jD:O8:=(214237752,562617934,2925339097,2404143993,2653642058,1067609604,2030321912,3390539454)
def jE:O8:=(996896087,4229359918,4246052097,3585165131,2118121504,1573757983,2369888462,1325175427)
theorem runA:zny 3 64 95506305 335829907 185496409 151995529 1 [] (⟨2,[97],⟨0,0,0,[]⟩⟩:z07) (112605313,1339207200,1783641366,3320412430,1947785253,487152164,375169229,140746137) (4265001831,3568637083,1604486293,949128176,2289321985,2236400609,176333793,3900060213) jA=true:=by decide +kernel
theorem runB:zny 3 64 141788255 646516948 492454487 119151707 2 [] (⟨3,[97],⟨0,0,0,[]⟩⟩:z07) (3882237469,2177306030,1006850798,86203303,1336156971,2313066185,68934969,2115468275) (4130172674,1263323719,3433672759,611055768,1316858700,2969885039,1485087103,1088217163) jB=true:=by decide +kernel
theorem runC:zny 3 64 492376741 627279180 392409973 169606651 2 [jA] (⟨3,[97],⟨0,0,0,[]⟩⟩:z07) (925417426,72426898,4076856283,2310706400,840437951,872380244,3668097350,2197053560) (411624535,2943686061,3857830700,274846134,1919296119,1903840105,2951769737,2272992105) jC=true:=by decide +kernel
theorem runD:zny 3 64 42772635 337853101 233785741 244129855 7 [] (⟨4,[114],⟨1,1,0,[]⟩⟩:z07) (3135641637,1021782002,1207780359,1966295779,589288168,2356645,4214805611,206521163) (806112351,60469826,3431872122,4209747457,1453393459,2878547669,2922712136,3179314247) jD=true:=by decide +kernel
theorem runE:zny 3 64 179289722 23439914 321420666 143551714 7 [] (⟨4,[114],⟨1,2,0,[]⟩⟩:z07) (2467158177,2290764905,3075396574,1684983312,2311403275,4110823011,1384208907,599205290) (2698625130,2350711846,114362680,1586131210,1925828534,2541578859,2338054721,1388965634) jE=true:=by decide +kernel
def xA:z05:=zlh (u32 64) (UInt64.ofNat 1) [] (⟨2,[97],⟨0,0,0,[]⟩⟩:z07) ⟨u32 185496409,u32 151995529⟩
def xB:z05:=zlh (u32 64) (UInt64.ofNat 2) [] (⟨3,[97],⟨0,0,0,[]⟩⟩:z07) ⟨u32 492454487,u32 119151707⟩
def xC:z05:=zlh (u32 64) (UInt64.ofNat 2) [jA] (⟨3,[97],⟨0,0,0,[]⟩⟩:z07) ⟨u32 392409973,u32 169606651⟩
def xD:z05:=zlh (u32 64) (UInt64.ofNat 7) [] (⟨4,[114],⟨1,1,0,[]⟩⟩:z07) ⟨u32 233785741,u32 244129855⟩
def xE:z05:=zlh (u32 64) (UInt64.ofNat 7) [] (⟨4,[114],⟨1,2,0,[]⟩⟩:z07) ⟨u32 321420666,u32 143551714⟩
end
section
open Go
variable {g:z00} {x y z:ID} {o q:z05} {key:Str}
theorem z13k (l:List ID) (h:l.length≤1):z7k l=true:=by
 rw [z64]
 match l,h with
 | [],_=>simp
 | [z],_=>simp
theorem z18t {y:UInt32} {st:UInt64} {P:List O8} {a:z07} {sg:z08} (hp:P.length≤4) (hk:a.Key.length≤100) (ht:a.Value.Text.length≤100) (hI:inI a.Value.Num):zdk (zlh y st P a sg):=by
 have h4:(P.map idv).length≤4:=by rw [List.length_map]; exact hp
 refine ⟨trivial,⟨fun x _ y _=>trivial,Nat.le_trans h4 (by omega)⟩,trivial,?_,?_⟩
 ·
  refine ⟨trivial,?_,⟨trivial,?_,trivial,?_,trivial⟩,trivial⟩
  ·
   show a.Key.length≤_; omega
  ·
   exact hI
  ·
   show a.Value.Text.length≤_; omega
 ·
  exact ⟨⟨trivial,trivial,trivial⟩,trivial⟩
theorem zkn {k y K r E S st:Nat} {P:List O8} {a:z07} {h1 h2 h3:O8} (h:zny k y K r E S st P a h1 h2 h3=true) (hP:P.length≤1) (no:idv h3∉g.IDs) (ins:∀ p∈P.map idv,p∈g.IDs):zen g (idv h3) (zlh (u32 y) (UInt64.ofNat st) P a ⟨u32 E,u32 S⟩):=by
 have hs:=zui h
 have a1:=hs.1.1; have a2:=hs.1.2.1; have a3:=hs.1.2.2.1; have a4:=hs.1.2.2.2
 have ho:=z15m h
 have b1:=ho.2.1; have b2:=ho.2.2
 clear hs ho h
 have hk:=zw4 a1 a3
 have hl:(P.map idv).length≤1:=by rw [List.length_map]; exact hP
 have hi:z7k (P.map idv)=true:=z13k _ hl
 generalize u32 y=y' at *
 generalize UInt64.ofNat st=st' at *
 generalize (⟨u32 E,u32 S⟩:z08)=sg at *
 exact ⟨⟨Nat.le_trans hl (by omega),Nat.le_trans hk (by omega),a3⟩,⟨b1,b2,Nat.le_trans hl (by omega),hi⟩,z18t a4 (by omega) a3 a2,no,ins⟩
theorem kd36:kd (idv jD)<kd (idv jE)∧kd (idv jE)<kd (idv jA)∧kd (idv jA)<kd (idv jC)∧kd (idv jC)<kd (idv jB):=by
 have h:=zpz [jD,jE,jA,jC,jB]
 rw [show ztj [jD,jE,jA,jC,jB]=true by decide +kernel] at h
 have h:z7k [idv jD,idv jE,idv jA,idv jC,idv jB]=true:=h
 exact ⟨zb3 h (i:=0) (j:=1) (by simp) (by simp) (by omega),zb3 h (i:=1) (j:=2) (by simp) (by simp) (by omega),zb3 h (i:=2) (j:=3) (by simp) (by simp) (by omega),zb3 h (i:=3) (j:=4) (by simp) (by simp) (by omega)⟩
theorem ne36:idv jB≠idv jA∧idv jC≠idv jA∧idv jE≠idv jD:=by
 obtain ⟨h1,h2,h3,h4⟩:=kd36
 exact ⟨fun e=>by rw [e] at h4; omega, fun e=>by rw [e] at h3; omega, fun e=>by rw [e] at h1; omega⟩
abbrev gA:z00:=zd5 ⟨[],[]⟩ (idv jA,xA)
abbrev gB:z00:=zd5 gA (idv jB,xB)
abbrev gC:z00:=zd5 gA (idv jC,xC)
abbrev gD:z00:=zd5 ⟨[],[]⟩ (idv jD,xD)
abbrev gE:z00:=zd5 gD (idv jE,xE)
theorem nFA:zen (⟨[],[]⟩:z00) (idv jA) xA:=zkn runA (by simp) (by simp) (by simp)
theorem nFD:zen (⟨[],[]⟩:z00) (idv jD) xD:=zkn runD (by simp) (by simp) (by simp)
theorem RA:Rp gA:=Rp.nil.add (by simp) nFA
theorem RD:Rp gD:=Rp.nil.add (by simp) nFD
theorem idA {x:ID}:x∈gA.IDs↔x=idv jA:=by
 rw [zty Rp.nil.fit]
 exact ⟨fun h=>h.elim id (fun h=>by cases h),.inl⟩
theorem idD {x:ID}:x∈gD.IDs↔x=idv jD:=by
 rw [zty Rp.nil.fit]
 exact ⟨fun h=>h.elim id (fun h=>by cases h),.inl⟩
theorem nFB:zen gA (idv jB) xB:=zkn runB (by simp) (fun h=>ne36.1 (idA.1 h)) (by simp)
theorem nFC:zen gA (idv jC) xC:=zkn runC (by simp) (fun h=>ne36.2.1 (idA.1 h)) (fun p hp=>by
 rw [List.map_cons,List.map_nil,List.mem_singleton] at hp
 exact idA.2 hp)
theorem nFE:zen gD (idv jE) xE:=zkn runE (by simp) (fun h=>ne36.2.2 (idD.1 h)) (by simp)
theorem lnA:gA.Ops.length=1:=z116 Rp.nil.fit nFA
theorem lnD:gD.Ops.length=1:=z116 Rp.nil.fit nFD
theorem RB:Rp gB:=RA.add (by rw [lnA]; omega) nFB
theorem RC:Rp gC:=RA.add (by rw [lnA]; omega) nFC
theorem RE:Rp gE:=RD.add (by rw [lnD]; omega) nFE
theorem wasA {x:ID} {o:z05} (h:z1f gA x=some o):x=idv jA∧o=xA:=by
 rcases zbf Rp.nil.fit nFA h with h | ⟨-,h⟩
 ·
  exact h
 ·
  have:=(z4a h).1; cases this
theorem wasD {x:ID} {o:z05} (h:z1f gD x=some o):x=idv jD∧o=xD:=by
 rcases zbf Rp.nil.fit nFD h with h | ⟨-,h⟩
 ·
  exact h
 ·
  have:=(z4a h).1; cases this
theorem in_A:InS gA [97]:=z1a0 Rp.nil (by simp) nFA rfl rfl
theorem in_B:InS gB [97]:=by
 refine ⟨idv jA,xA,zkl RA.fit nFB (zkm Rp.nil.fit nFA),rfl,rfl,?_⟩
 rintro ⟨y,q,h1,h2,h3,h4⟩
 obtain ⟨o',p,h5,h6⟩:=zyz h4
 rcases zbf RA.fit nFB h5 with ⟨-,rfl⟩ | ⟨-,h⟩
 ·
  have h6:p∈([]:List ID):=h6
  cases h6
 ·
  have:=(wasA h).2; subst this
  have h6:p∈([]:List ID):=h6
  cases h6
theorem in_C:¬ InS gC [97]:=z16e RA nFC rfl rfl fun z q h=>by
 have:=(wasA h).1; subst this
 exact .one (zkm RA.fit nFC) (show idv jA∈[idv jA] by simp)
theorem z190 (key:Str):¬ InS gD key:=by
 rintro ⟨y,q,h1,h2,-⟩
 have:=(wasD h1).2; subst this
 cases h2
theorem z19m (key:Str):¬ InS gE key:=fun h=>z190 key ((z17h RD nFE (by rintro ⟨h,-⟩; cases h) (by rintro ⟨h,-⟩; cases h)).1 h)
theorem no4A:∀ x o,z1f gA x=some o→o.Act.Kind≠4:=fun x o h=>by rw [(wasA h).2]; decide
theorem no4B:∀ x o,z1f gB x=some o→o.Act.Kind≠4:=fun x o h=>by
 rcases zbf RA.fit nFB h with ⟨-,rfl⟩ | ⟨-,h⟩
 ·
  decide
 ·
  exact no4A x o h
theorem no4C:∀ x o,z1f gC x=some o→o.Act.Kind≠4:=fun x o h=>by
 rcases zbf RA.fit nFC h with ⟨-,rfl⟩ | ⟨-,h⟩
 ·
  decide
 ·
  exact no4A x o h
theorem z1at:ValS gE [114] ⟨1,2,0,[]⟩:=by
 refine .inl ⟨idv jE,xE,⟨⟨zkm RD.fit nFE,rfl,rfl⟩, fun y q hs=>?_⟩,rfl⟩
 rcases zbf RD.fit nFE hs.1 with ⟨rfl,rfl⟩ | ⟨-,h⟩
 ·
  exact .inr ⟨rfl,Nat.le_refl _⟩
 ·
  obtain ⟨rfl,rfl⟩:=wasD h
  exact .inr ⟨rfl,Nat.le_of_lt kd36.1⟩
theorem zw6 (R:Rp g) {key:Str} {i:Bool} {v:z03} (hi:i=true↔InS g key) (hv:ValS g key v):z5s g key=some (i,v,0):=by
 obtain ⟨i',v',h1,-,h2,h3⟩:=z186 R.good R.fit R.chk.1 key
 rw [h1,z13u R.fit h3 hv]
 have:i'=i:=by rw [Bool.eq_iff_iff,h2,hi]
 rw [this]
theorem z1aq:z5s gA [97]=some (true,⟨0,0,0,[]⟩,0):=zw6 RA (by simp [in_A]) (.inr ⟨fun x o h=>no4A x o h.1 h.2.1,rfl⟩)
theorem z1aw:z5s gB [97]=some (true,⟨0,0,0,[]⟩,0):=zw6 RB (by simp [in_B]) (.inr ⟨fun x o h=>no4B x o h.1 h.2.1,rfl⟩)
theorem z1bd:z5s gC [97]=some (false,⟨0,0,0,[]⟩,0):=zw6 RC (by simp [in_C]) (.inr ⟨fun x o h=>no4C x o h.1 h.2.1,rfl⟩)
theorem z1b7:z5s gE [114]=some (false,⟨1,2,0,[]⟩,0):=zw6 RE (by simp [z19m]) z1at
theorem z19c:zbt gA=some ([[97]],0):=by
 obtain ⟨l,h1,-,h2,-,h3⟩:=z17a RA.fit.len RA.chk.1
 have:l=[[97]]:=zi7 _ _ h2 (List.pairwise_singleton _ _) fun k=>by
  rw [h3,List.mem_singleton]
  have hl:=lnA
  constructor
  ·
   rintro ⟨j,hj,-,h4,h5⟩
   have:=z6d RA.fit hj
   rw [(wasA this).2] at h5
   exact h5.symm
  ·
   rintro rfl
   have h0:0<gA.Ops.length:=by omega
   have:=z6d RA.fit h0
   have e:=(wasA this).2
   exact ⟨0,h0,h0, by rw [e]; decide, by rw [e]; rfl⟩
 rw [h1,this]
end
section
open Go
variable {g a b:z00} {n m:Nat}
theorem z19r {o:z05} (h:zdk o):inI o.Act.Value.Num∧o.Act.Value.Text.length≤9223372036854775807:=⟨h.2.2.2.1.2.2.1.2.1,h.2.2.2.1.2.2.1.2.2.2.1⟩
theorem zt6 (F:Fit g n) (hn:n≤1000) (l:List ID) (hl:l.length≤1000):z1q l g=some (l.any fun x=>!decide (x∈g.IDs)):=by
 have h1:=F.len; have h2:=F.ids
 have hcl:∀ x,zk8 x g=some (!decide (x∈g.IDs)):=fun x=>by
  obtain ⟨k,k1,-⟩:=zj0 g (by omega) F.ri x
  unfold zk8
  rw [k1]
  simp only [bS]
 have main:=zam (F:=z1b l g) (fun s=>∃ i:Nat,s=(i:Int)∧i≤l.length∧∀ k (h:k<l.length),k<i→l[k]∈g.IDs) (fun s=>l.length - s.toNat)
  (fun b:Sum Int Unit=>(b=.inr ()∧∀ x∈l,x∈g.IDs)∨∃ i:Nat,b=.inl (i:Int)∧∃ x∈l,x∉g.IDs)
  (fun s hs=>by
   obtain ⟨i,rfl,h1,h2⟩:=hs
   by_cases hi:i<l.length
   ·
    have hF:z1b l g (i:Int)=if !decide (l[i]∈g.IDs) then some (.inl (.inl (i:Int))) else some (.inr ((i+1:Nat):Int)):=by
     unfold z1b
     rw [if_pos (by simpa using hi),z0b hi,z0g (by omega)]
     simp only [bS]
     rw [hcl]
     simp only [bS]
    by_cases hc:l[i]∈g.IDs
    ·
     rw [decide_eq_true hc,if_neg (by simp)] at hF
     refine .inr ⟨_,hF,⟨i+1,rfl,hi, fun k hk hki=>?_⟩, by simp; omega⟩
     by_cases hk':k=i
     ·
      subst hk'; exact hc
     ·
      exact h2 k hk (by omega)
    ·
     rw [decide_eq_false hc,if_pos (by simp)] at hF
     exact .inl ⟨_,hF,.inr ⟨i,rfl,l[i],List.getElem_mem hi,hc⟩⟩
   ·
    refine .inl ⟨.inr (),?_,.inl ⟨rfl, fun x hx=>?_⟩⟩
    ·
     unfold z1b
     rw [if_neg (by simpa using hi)]
    ·
     obtain ⟨k,hk,rfl⟩:=List.getElem_of_mem hx
     exact h2 k hk (by omega))
  0 ⟨0,rfl,Nat.zero_le _, fun k _ h=>by omega⟩
 obtain ⟨r,r1,r2⟩:=main
 unfold z1q z3d
 rw [r1]
 rcases r2 with ⟨rfl,h⟩ | ⟨i,rfl,x,hx,hxn⟩
 ·
  simp only [zo6,bS]
  have:(l.any fun x=>!decide (x∈g.IDs))=false:=by
   rw [List.any_eq_false]; intro x hx; simp [h x hx]
  rw [this]; rfl
 ·
  simp only [or_l,bS]
  have:(l.any fun x=>!decide (x∈g.IDs))=true:=by
   rw [List.any_eq_true]; exact ⟨x,hx, by simp [hxn]⟩
  rw [this]; simp
theorem z146 (F:Fit g n) (hn:n≤59) (hc:z5g g=some 0) {p:ID × z05} (hw:zdk p.2) (hp:p.2.Preds.length≤20) (h1:zfn p.2=0) (h2:sha (zg9 p.2)=p.1) (hx:p.1∉g.IDs) (hq:∀ q∈p.2.Preds,q∈g.IDs):znr g p.2=some (zd5 g p,p.1,0):=by
 obtain ⟨w1,w2⟩:=z19r hw
 have hl:=F.len
 have hany:(p.2.Preds.any fun x=>!decide (x∈g.IDs))=false:=by
  rw [List.any_eq_false]; intro x hx; simp [hq x hx]
 unfold znr
 rw [hc]
 simp only [bS]
 rw [if_pos (by simp),znf _ w1 w2,h1]
 simp only [bS]
 rw [if_neg (by simp),z123 _ w1 w2,if_pos (zc1 h1),h2]
 simp only [bS]
 rw [z17q F (by omega) p hp,decide_eq_false hx]
 simp only [bS]
 rw [if_neg (by simp),zt6 F (by omega) _ (by omega),hany]
 simp only [bS]
 rw [if_neg (by simp),if_neg (by simp; omega)]
end
section
open Go
variable {g:z00} {x:ID} {o:z05}
theorem z1al (R:Rp g) (hl:g.Ops.length≤59) (N:zen g x o):znr g o=some (zd5 g (x,o),x,0) :=
 z146 (p:=(x,o)) (n:=g.Ops.length) ⟨R.fit.ids,Nat.le_refl _,R.fit.ri,R.fit.op⟩ hl R.chk.1 N.wf N.sz.1 N.ok.1 N.ok.2.1 N.no N.ins
theorem zs2 (R:Rp g) (hl:g.Ops.length≤59) {y K r E S st:Nat} {P:List O8} {a:z07} {h1 h2 h3:O8} (h:zny 3 y K r E S st P a h1 h2 h3=true) (N:zen g (idv h3) (zlh (u32 y) (UInt64.ofNat st) P a ⟨u32 E,u32 S⟩)) :
  z2o g a (UInt64.ofNat st) (P.map idv)=some (zd5 g (idv h3,zlh (u32 y) (UInt64.ofNat st) P a ⟨u32 E,u32 S⟩),idv h3,true):=by
 have hs:zkt 3 (⟨0,P.map idv,UInt64.ofNat st,a,(⟨0,0⟩:z08)⟩:z05)=some (zlh (u32 y) (UInt64.ofNat st) P a ⟨u32 E,u32 S⟩,0):=(z15m h).1
 unfold z2o
 rw [hs]
 simp only [bS]
 rw [z1al R hl N]
 simp only [bS]
 rw [if_pos (by simp)]
 rfl
theorem mA:z2o (⟨[],[]⟩:z00) (⟨2,([97]:List UInt8),(⟨0,0,0,[]⟩:z03)⟩:z07) 1 []=some (gA,idv jA,true):=by
 have h:=zs2 Rp.nil (by simp) runA nFA
 exact h
theorem mB:z2o gA (⟨3,([97]:List UInt8),(⟨0,0,0,[]⟩:z03)⟩:z07) 2 []=some (gB,idv jB,true):=by
 have h:=zs2 RA (by rw [lnA]; omega) runB nFB
 exact h
theorem mC:z2o gA (⟨3,([97]:List UInt8),(⟨0,0,0,[]⟩:z03)⟩:z07) 2 [idv jA]=some (gC,idv jC,true):=by
 have h:=zs2 RA (by rw [lnA]; omega) runC nFC
 exact h
theorem mD:z2o (⟨[],[]⟩:z00) (⟨4,([114]:List UInt8),(⟨1,1,0,[]⟩:z03)⟩:z07) 7 []=some (gD,idv jD,true):=by
 have h:=zs2 Rp.nil (by simp) runD nFD
 exact h
theorem mE:z2o gD (⟨4,([114]:List UInt8),(⟨1,2,0,[]⟩:z03)⟩:z07) 7 []=some (gE,idv jE,true):=by
 have h:=zs2 RD (by rw [lnD]; omega) runE nFE
 exact h
theorem zhg {g:z00} {k:Str} {i:Bool} {v:z03} (h:z5s g k=some (i,v,0)):z4e g k i v=some true:=by
 unfold z4e
 rw [h]
 simp [bS]
theorem zt0:zat=some true:=by
 have n1:∀ n,z7v n=some (⟨1,n,0,[]⟩:z03):=fun n=>rfl
 have bf:z9i (idv jD) (idv jE)=some true:=by
  unfold z9i
  rw [zqb,if_pos kd36.1]
  rfl
 unfold zat
 rw [mA]
 simp only [bS]
 rw [mB]
 simp only [bS]
 rw [mC]
 simp only [bS]
 rw [z19c]
 simp only [bS]
 rw [n1 1,n1 2]
 simp only [bS]
 rw [mD]
 simp only [bS]
 rw [mE]
 simp only [bS]
 rw [bf]
 simp only [bS,if_true]
 rw [if_pos (by simp),zpl _ (by simp)]
 simp only [bS,if_true]
 rw [zhg z1aq]
 simp only [bS,if_true]
 rw [zhg z1aw]
 simp only [bS,if_true]
 rw [zhg z1bd]
 simp only [bS,if_true]
 rw [n1 2]
 simp only [bS]
 rw [zhg z1b7]
 rfl
end
section
open Go
variable {g a b:z00} {l:List z00}
theorem zjt (R:Rps l) (hg:g∈l) {x:ID} (hx:x∈g.IDs):x∈(z1c l).IDs:=by
 obtain ⟨o,ho⟩:=z4l (R.rp g hg).fit hx
 have:=zck R.ag hg ho
 rw [← zhj R] at this
 exact (z4a this).1
theorem zp9 (R:Rps l) {x:ID} (hx:x∈(z1c l).IDs):∃ g∈l,x∈g.IDs:=by
 obtain ⟨o,ho⟩:=z4l (zaa R) hx
 rw [zhj R] at ho
 obtain ⟨g,h1,h2⟩:=z9e ho
 exact ⟨g,h1,(z4a h2).1⟩
theorem zuz {α:Type} (p:α→Bool):∀ l:List α,(l.filter p).length+(l.filter fun x=>!p x).length=l.length
 | []=>rfl
 | x::l=>by
  have:=zuz p l
  cases h:p x with
  | true=>simp [h]; omega
  | false=>simp [h]; omega
theorem zy9 (R:Rps l) (hg:g∈l):((z1c l).IDs.filter fun x=>!decide (x∈g.IDs)).length+g.IDs.length=(z1c l).IDs.length:=by
 have FW:=zaa R
 have e:g.IDs=(z1c l).IDs.filter fun x=>decide (x∈g.IDs):=z88 _ _ ((z64 _).1 (R.rp g hg).fit.ri) ((z64 _).1 (ziz FW.ri _)) fun x=>by
  rw [List.mem_filter]
  constructor
  ·
   intro h; exact ⟨zjt R hg h, by simpa using h⟩
  ·
   rintro ⟨-,h⟩; simpa using h
 have h:=zuz (fun x=>decide (x∈g.IDs)) (z1c l).IDs
 have e2:=congrArg List.length e
 omega
theorem zsd (W:z00) {i:Nat} (hi:i<l.length):(zcm l W)[i]'(by unfold zcm; rw [List.length_map]; exact hi)=W.IDs.filter fun x=>!decide (x∈l[i].IDs):=by
 unfold zcm
 rw [List.getElem_map]
theorem z12x (R:Rps l) (h6:¬ 60<(z1c l).Ops.length) {i:Nat} (hi:i<l.length) (e:Bool):iter (z3i l (zcm l (z1c l),0) (e,(i:Int))) 0=some (.inr ()):=by
 have hil:i<(zcm l (z1c l)).length:=by unfold zcm; rw [List.length_map]; exact hi
 have F:=(R.rp _ (List.getElem_mem hi)).fit
 have hF1:=F.len; have hF2:=F.ids
 obtain ⟨s,hs⟩:∃ s,s=(z1c l).IDs.filter fun x=>!decide (x∈l[i].IDs):=⟨_,rfl⟩
 have e1:idx (zcm l (z1c l)) (i:Int)=some s:=by rw [z0b hil,zsd _ hi,hs]
 have hsl:s.length≤300:=by
  rw [hs]
  exact Nat.le_trans (List.length_filter_le _ _) (by have:=(zaa R).ids; have:=(zaa R).len; omega)
 refine z2r (F:=z3i l (zcm l (z1c l),0) (e,(i:Int))) s.length (fun k=>(k:Int)) (fun k hk=>?_) ?_
 ·
  have hn:s[k]∉l[i].IDs:=fun hx=>by
   have:=List.getElem_mem hk
   generalize s[k]=x at hx this
   rw [hs,List.mem_filter] at this
   simp [hx] at this
  unfold z3i
  simp only [e1,bS]
  rw [if_pos (by simpa using hk)]
  simp only [z0b hi,z0b hk,bS]
  rw [zwh (by omega) hn]
  simp only [bS]
  rw [if_neg (by simp),z0g (by omega)]
 ·
  unfold z3i
  simp only [e1,bS]
  rw [if_neg (by simp)]
def zqe (l:List z00) (i:Nat):Bool:=(zcm (l.take i) (z1c l)).all fun s=>decide (s.length=0)
theorem z13x (R:Rps l) (h6:¬ 60<(z1c l).Ops.length) {W:z00} (RW:Rp W) (hW:zxe l W):iter (z3j l (z1c l,0) (W,0) (zcm l (z1c l),0)) (true,0)=some (.inr (zqe l l.length)):=by
 have hl5:=R.len
 have FW:=zaa R
 have hWi:(z1c l).IDs.length≤60:=by have:=FW.ids; omega
 have hWl:W.IDs.length≤60:=by have:=RW.fit.ids; have:=RW.fit.len; omega
 refine z2r (F:=z3j l (z1c l,0) (W,0) (zcm l (z1c l),0)) l.length (fun i=>(zqe l i,(i:Int))) (fun i hi=>?_) ?_
 ·
  have hil:i<(zcm l (z1c l)).length:=by unfold zcm; rw [List.length_map]; exact hi
  have hm:=List.getElem_mem hi
  have F:=(R.rp _ hm).fit
  have hF1:=F.len; have hF2:=F.ids
  obtain ⟨s,hs⟩:∃ s,s=(z1c l).IDs.filter fun x=>!decide (x∈l[i].IDs):=⟨_,rfl⟩
  have e1:idx (zcm l (z1c l)) (i:Int)=some s:=by rw [z0b hil,zsd _ hi,hs]
  have hsl:s.length≤60:=by
   rw [hs]
   exact Nat.le_trans (List.length_filter_le _ _) hWi
  have a1:(W.IDs.all fun x=>decide (x∈l[i].IDs))=true:=by
   rw [List.all_eq_true]
   intro x hx
   obtain ⟨o,ho⟩:=z4l RW.fit hx
   simpa using (z4a ((zpt R hW ho).2 _ hm)).1
  have a2:(l[i].IDs.all fun x=>decide (x∈(z1c l).IDs))=true:=by
   rw [List.all_eq_true]
   intro x hx
   simpa using zjt R hm hx
  have a3:(s.all fun x=>decide (x∈(z1c l).IDs))=true:=by
   rw [List.all_eq_true]
   intro x hx
   rw [hs,List.mem_filter] at hx
   simpa using hx.1
  have a4:z7k s=true:=by rw [hs]; exact ziz FW.ri _
  have a5:s.length+l[i].IDs.length=(z1c l).IDs.length:=by rw [hs]; exact zy9 R hm
  have n1:zqe l (i+1)=(zqe l i&&decide (s.length=0)):=by
   unfold zqe
   rw [zlb _ hi,List.all_append,← hs]
   simp
  unfold z3j
  rw [if_pos (by simpa using hi)]
  simp only [z0b hi,e1,bS]
  rw [zsu _ _ (by omega) (by omega),a1]
  simp only [bS,Bool.not_true,Bool.false_eq_true,if_false]
  rw [zsu _ _ (by omega) (by omega),a2]
  simp only [bS,Bool.not_true,Bool.false_eq_true,if_false]
  rw [zmu _ (by omega),a4]
  simp only [bS,Bool.not_true,Bool.false_eq_true,if_false]
  rw [show ((s.length:Int)+(l[i].IDs.length:Int))=((s.length+l[i].IDs.length:Nat):Int) by omega,z13 (x:=((s.length+l[i].IDs.length:Nat):Int)) (by omega) (by omega),a5,if_neg (by simp),zsu _ _ (by omega) (by omega),a3]
  simp only [bS,Bool.not_true,Bool.false_eq_true,if_false]
  rw [z12x R h6 hi]
  simp only [zo6]
  rw [n1,z0g (by omega)]
  cases zqe l i with
  | true =>
   simp only [if_true,Bool.true_and]
   by_cases hz:s.length=0
   ·
    simp [hz]
   ·
    simp [hz]
  | false=>simp
 ·
  unfold z3j
  rw [if_neg (by simp)]
theorem z149 (R:Rps l):zqe l l.length=true↔zky l:=by
 unfold zqe zcm
 rw [List.take_length,List.all_eq_true]
 constructor
 ·
  intro h
  have all:∀ g∈l,g.IDs=(z1c l).IDs:=fun g hg=>by
   have h1:=h _ (List.mem_map.2 ⟨g,hg,rfl⟩)
   have h1:((z1c l).IDs.filter fun x=>!decide (x∈g.IDs))=[]:=by simpa using h1
   refine z88 _ _ ((z64 _).1 (R.rp g hg).fit.ri) ((z64 _).1 (zaa R).ri) fun x=>⟨fun hx=>zjt R hg hx, fun hx=>?_⟩
   refine Classical.byContradiction fun hn=>?_
   have:x∈(z1c l).IDs.filter fun x=>!decide (x∈g.IDs):=List.mem_filter.2 ⟨hx, by simpa using hn⟩
   rw [h1] at this; cases this
  intro g hg h hh
  rw [all g hg,all h hh]
 ·
  intro h s hs
  obtain ⟨g,hg,rfl⟩:=List.mem_map.1 hs
  have:((z1c l).IDs.filter fun x=>!decide (x∈g.IDs))=[]:=by
   rw [List.filter_eq_nil_iff]
   intro x hx
   obtain ⟨g',h1,h2⟩:=zp9 R hx
   rw [h g' h1 g hg] at h2
   simp [h2]
  rw [this]; rfl
theorem zza (R:Rps l) (hne:l≠[]) (h:zky l) {W:z00} {n:Nat} (F:Fit W n) (hW:zxe l W):W.IDs.length=(z1c l).IDs.length:=by
 have:W.IDs=(z1c l).IDs:=z88 _ _ ((z64 _).1 F.ri) ((z64 _).1 (zaa R).ri) fun x=>by
  constructor
  ·
   intro hx
   obtain ⟨o,ho⟩:=z4l F hx
   have h0:0<l.length:=List.length_pos_iff.2 hne
   exact zjt R (List.getElem_mem h0) (z4a ((zpt R hW ho).2 _ (List.getElem_mem h0))).1
  ·
   intro hx
   obtain ⟨g',h1,h2⟩:=zp9 R hx
   obtain ⟨o,ho⟩:=z4l (R.rp g' h1).fit h2
   refine (z4a (z15o R hW hne (x:=x) (o:=o) fun g hg=>?_)).1
   have hx2:x∈g.IDs:=by rw [h g hg g' h1]; exact h2
   obtain ⟨q,hq⟩:=z4l (R.rp g hg).fit hx2
   rw [R.ag g hg g' h1 x q o hq ho] at hq
   exact hq
 rw [this]
theorem zxt (a0:List z00) (w0:(∀ x∈a0,z57 x)∧a0.length≤9223372036854775807):z82 a0=some true:=by
 obtain ⟨b,b1,b2⟩:=z174 a0
 unfold z82 zev
 rw [zt0]
 simp only [bS]
 rw [b1]
 simp only [bS]
 cases b with
 | true=>rfl
 | false =>
 obtain ⟨hl,hs⟩:=b2 rfl
 obtain ⟨c,c1,c2,c3⟩:=zzp (l:=a0) (by omega) w0.1 hs
 rw [if_pos (by simp),c2]
 simp only [bS]
 by_cases h:c=0
 ·
  have R:=c3 h
  obtain ⟨b,d1,-,d3⟩:=z1aa R
  obtain ⟨w1,-⟩:=zuy R
  obtain ⟨W,k1,-,k2,k3⟩:=z19y R
  obtain ⟨n,n1,-,n3⟩:=z13s R
  rw [if_neg (by simp [h])]
  simp only [Bool.not_true,Bool.false_eq_true,if_false]
  rw [w1,k1,n1,d1]
  simp only [bS]
  rw [if_neg (by simp),if_neg (by simp),k3.chk.2]
  simp only [bS]
  rw [if_neg (by simp)]
  unfold zpi
  by_cases h6:60<(z1c a0).Ops.length
  ·
   rw [if_pos h6] at n3 ⊢
   rw [n3]
   rfl
  ·
   rw [if_neg h6] at n3 ⊢
   rw [n3]
   have RW:=R.whole (by omega)
   rw [if_neg (by simp),if_neg (by simp),if_neg (by simp [zcm]),RW.chk.2]
   simp only [bS]
   rw [if_neg (by simp),z13x R h6 k3 k2]
   simp only [zo6,if_true]
   have e:zqe a0 a0.length=b:=by rw [Bool.eq_iff_iff,d3,z149 R]
   rw [e,if_pos (by simp)]
   cases b with
   | false=>rfl
   | true =>
    rw [if_neg (by simp)]
    by_cases h0:a0.length=0
    ·
     rw [if_pos (by simp [h0])]
    ·
     rw [if_neg (by simp; intro e; exact h0 (by rw [e]; rfl)),zza R (fun e=>h0 (by rw [e]; rfl)) (d3.1 rfl) k3.fit k2]
     simp
 ·
  rw [if_pos (by simp [h])]
end
end Go.Proofs.YthgpinfkodaefaaGreatDoor
