import Derived.Test.YthimiiphpckifaaGreatDoorXe
set_option linter.unusedSimpArgs false
set_option linter.unusedVariables false
namespace Go.Proofs.YthimiiphpckifaaGreatDoor
section
open Go
variable {g a b:z00} {n m:Nat} {l:List z00}
theorem z186 (Fa:Fit a n) (Fb:Fit b m) {o:z04} (h:o∈(z4e a b).Ops):o∈a.Ops∨o∈b.Ops:=by
 obtain ⟨i,hi,rfl⟩:=List.getElem_of_mem h
 have hg:=z7h (zcp Fa Fb) hi
 rw [zax Fa Fb] at hg
 generalize (z4e a b).IDs[i]'(by rw [(zcp Fa Fb).ids]; exact hi)=x at hg
 cases ho:z1p a x with
 | some q=>rw [ho] at hg; exact .inl (by have:=(z6d ho).2; simp at hg; rw [← hg]; exact this)
 | none=>rw [ho] at hg; exact .inr (z6d (by simpa using hg)).2
theorem z10a (F:Fit g n) (hn:n≤1000) (h:∀ o∈g.Ops,zg1 o):z4u g:=by
 have h1:=F.len; have h2:=F.ids
 exact ⟨⟨fun x _ y _=>trivial, by omega⟩,⟨h, by omega⟩,trivial⟩
theorem Rp.union (Ra:Rp a) (Rb:Rp b) (hc:zdg a b) (hl:(z4e a b).Ops.length≤60):Rp (z4e a b):=by
 have F:=zcp Ra.fit Rb.fit
 refine ⟨zpn ⟨F.ids,hl,F.ri,F.op⟩ (zt7 Ra.fit Rb.fit (zla Ra.good Ra.fit) (zla Rb.good Rb.fit) hc),F.op,z10a F (by omega) fun o ho=>?_⟩
 rcases z186 Ra.fit Rb.fit ho with h | h
 ·
  exact Ra.wf.2.1.1 o h
 ·
  exact Rb.wf.2.1.1 o h
structure Rps (l:List z00):Prop where
 len:l.length≤5
 rp:∀ g∈l,Rp g
 ag:zhj l
theorem Rps.chk (h:Rps l):z3a l=some 0∧z4d l=some 0:=zwu h.len h.rp h.ag
theorem Rps.nc (h:Rps l) (ha:a∈l) (hb:b∈l):zdg a b:=(zm1 (h.rp a ha).fit (h.rp b hb).fit).2 (h.ag a ha b hb)
theorem Rps.sub (h:Rps l) {k:List z00} (hl:k.length≤5) (hr:∀ g∈k,Rp g) (hs:∀ g∈k,∀ x o,z1p g x=some o→z8n l x=some o):Rps k :=
 ⟨hl,hr, fun g hg h' hh x o q h1 h2=>by
  have e1:=hs g hg x o h1
  have e2:=hs h' hh x q h2
  rw [e1] at e2; exact Option.some.inj e2⟩
theorem zun (h:Rps l) (ha:a∈l) (hb:b∈l) {x:ID} {o:z04} (ho:z1p (z4e a b) x=some o):z8n l x=some o:=by
 rw [zax (h.rp a ha).fit (h.rp b hb).fit] at ho
 cases hq:z1p a x with
 | some q =>
  rw [hq] at ho
  have:q=o:=by simpa using ho
  subst this
  exact zbc h.ag ha hq
 | none=>rw [hq] at ho; exact zbc h.ag hb (by simpa using ho)
def Two (n:Nat) (m:z0c):Prop:=(0≤m.A∧m.A<n)∧(0≤m.B∧m.B<n)∧m.A≠m.B
instance (n:Nat) (m:z0c):Decidable (Two n m):=by unfold Two; exact inferInstance
def atG (l:List z00) (i:Int):z00:=l[i.toNat]?.getD ⟨[],[]⟩
theorem zdh {i:Int} (h0:0≤i) (h:i<(l.length:Int)):∃ hi:i.toNat<l.length,atG l i=l[i.toNat]:=by
 have hi:i.toNat<l.length:=by omega
 exact ⟨hi, by unfold atG; rw [List.getElem?_eq_getElem hi]; rfl⟩
def zim (l:List z00) (m:z0c):Sum Int (List z00) :=
 if Two l.length m then
  if 60<(z4e (atG l m.A) (atG l m.B)).Ops.length then .inl 4 else .inr ((l.set m.A.toNat (z4e (atG l m.A) (atG l m.B))).set m.B.toNat (z4e (atG l m.A) (atG l m.B)))
 else .inl 2
theorem z11i (n:Nat) (m:z0c):zau (n:Int) m=some (decide (Two n m)):=by
 unfold zau
 by_cases h1:0≤m.A∧0≤m.B
 ·
  rw [if_pos (by simp; omega)]
  by_cases h2:m.A<n∧m.B<n
  ·
   rw [if_pos (by simp; omega),Option.some.injEq,Bool.eq_iff_iff,decide_eq_true_iff,bne_iff_ne]
   unfold Two
   exact ⟨fun h=>⟨⟨h1.1,h2.1⟩,⟨h1.2,h2.2⟩,h⟩, fun h=>h.2.2⟩
  ·
   have:¬ Two n m:=fun h=>h2 ⟨h.1.2,h.2.1.2⟩
   rw [if_neg (by simp; omega),decide_eq_false this]
 ·
  have:¬ Two n m:=fun h=>h1 ⟨h.1.1,h.2.1.1⟩
  rw [if_neg (by simp; omega),decide_eq_false this]
theorem zzb (n:Nat) (m:z0c):zb0 (n:Int) m=some (decide (Two n m)):=by
 unfold zb0
 by_cases h1:0≤m.A
 ·
  rw [if_pos (by simpa using h1)]
  by_cases h2:m.A<n
  ·
   rw [if_pos (by simpa using h2)]
   by_cases h3:0≤m.B
   ·
    rw [if_pos (by simpa using h3)]
    by_cases h4:m.B<n
    ·
     rw [if_pos (by simpa using h4),Option.some.injEq,Bool.eq_iff_iff,decide_eq_true_iff,bne_iff_ne]
     unfold Two
     exact ⟨fun h=>⟨⟨h1,h2⟩,⟨h3,h4⟩,h⟩, fun h=>h.2.2⟩
    ·
     have:¬ Two n m:=fun h=>h4 h.2.1.2
     rw [if_neg (by simpa using h4),decide_eq_false this]
   ·
    have:¬ Two n m:=fun h=>h3 h.2.1.1
    rw [if_neg (by simpa using h3),decide_eq_false this]
  ·
   have:¬ Two n m:=fun h=>h2 h.1.2
   rw [if_neg (by simpa using h2),decide_eq_false this]
 ·
  have:¬ Two n m:=fun h=>h1 h.1.1
  rw [if_neg (by simpa using h1),decide_eq_false this]
theorem ztn {m:z0c} {e:Int} (h:zim l m=.inl e):e≠0:=by
 unfold zim at h
 split at h
 ·
  split at h
  ·
   cases h; decide
  ·
   cases h
 ·
  cases h; decide
theorem zms {m:z0c} {k:List z00} (h:zim l m=.inr k):k.length=l.length:=by
 unfold zim at h
 split at h
 ·
  split at h
  ·
   cases h
  ·
   cases h; simp
 ·
  cases h
theorem zjj (h:Rps l) {m:z0c} {k:List z00} (hm:zim l m=.inr k):Rps k∧∀ g∈k,∀ x o,z1p g x=some o→z8n l x=some o:=by
 have hlen:=zms hm
 unfold zim at hm
 split at hm
 ·
  rename_i h2
  obtain ⟨hA,hB,-⟩:=h2
  obtain ⟨ia,ea⟩:=zdh hA.1 hA.2
  obtain ⟨ib,eb⟩:=zdh hB.1 hB.2
  have ma:atG l m.A∈l:=by rw [ea]; exact List.getElem_mem _
  have mb:atG l m.B∈l:=by rw [eb]; exact List.getElem_mem _
  split at hm
  ·
   cases hm
  ·
   rename_i h60
   cases hm
   have Ru:=(h.rp _ ma).union (h.rp _ mb) (h.nc ma mb) (by omega)
   have hin:∀ g,g∈(l.set m.A.toNat (z4e (atG l m.A) (atG l m.B))).set m.B.toNat (z4e (atG l m.A) (atG l m.B))→g∈l∨g=z4e (atG l m.A) (atG l m.B):=fun g hg=>by
    rcases List.mem_or_eq_of_mem_set hg with h1 | h1
    ·
     exact List.mem_or_eq_of_mem_set h1
    ·
     exact .inr h1
   have hs:∀ g∈(l.set m.A.toNat (z4e (atG l m.A) (atG l m.B))).set m.B.toNat (z4e (atG l m.A) (atG l m.B)),∀ x o,z1p g x=some o→z8n l x=some o:=fun g hg x o ho=>by
    rcases hin g hg with h1 | rfl
    ·
     exact zbc h.ag h1 ho
    ·
     exact zun h ma mb ho
   refine ⟨h.sub (by rw [hlen]; exact h.len) (fun g hg=>?_) hs,hs⟩
   rcases hin g hg with h1 | rfl
   ·
    exact h.rp g h1
   ·
    exact Ru
 ·
  cases hm
theorem zrj (h:Rps l) (m:z0c):zce l m=some (match zim l m with | .inl e=>(e,l) | .inr k=>(0,k)):=by
 unfold zce zim
 rw [z11i]
 simp only [bS]
 by_cases h2:Two l.length m
 ·
  rw [decide_eq_true h2,if_pos h2]
  obtain ⟨hA,hB,hne⟩:=h2
  obtain ⟨ia,ea⟩:=zdh hA.1 hA.2
  obtain ⟨ib,eb⟩:=zdh hB.1 hB.2
  have ma:atG l m.A∈l:=by rw [ea]; exact List.getElem_mem _
  have mb:atG l m.B∈l:=by rw [eb]; exact List.getElem_mem _
  have Ra:=h.rp _ ma; have Rb:=h.rp _ mb
  rw [if_neg (by simp),zpc hA.1 ia,zpc hB.1 ib]
  simp only [bS]
  rw [← ea,← eb,zy8 Ra.good Rb.good Ra.chk.1 Rb.chk.1 Ra.fit Rb.fit (h.nc ma mb)]
  simp only [bS]
  by_cases h60:60<(z4e (atG l m.A) (atG l m.B)).Ops.length
  ·
   rw [if_pos h60,if_pos h60]
   rfl
  ·
   rw [if_neg h60,if_neg h60]
   simp only []
   rw [if_neg (by simp),zqw (zcp Ra.fit Rb.fit) (by omega)]
   simp only [bS]
   rw [zpc hB.1 (by rw [List.length_set]; exact ib)]
   simp only [bS]
 ·
  rw [decide_eq_false h2,if_neg h2]
  rfl
def zdq:List z00→List z0c→Sum Int (List z00)
 | l,[]=>.inr l
 | l,m::ms=>match zim l m with
  | .inl e=>.inl e
  | .inr k=>zdq k ms
theorem zeb:∀ {ms:List z0c} {l k:List z00},Rps l→zdq l ms=.inr k→Rps k∧k.length=l.length
 | [],l,k,h,hr=>by simp only [zdq] at hr; cases hr; exact ⟨h,rfl⟩
 | m::ms,l,k,h,hr=>by
  simp only [zdq] at hr
  cases hm:zim l m with
  | inl e=>rw [hm] at hr; cases hr
  | inr k' =>
   rw [hm] at hr
   have h1:=zeb (zjj h hm).1 hr
   exact ⟨h1.1,h1.2.trans (zms hm)⟩
theorem zsg:∀ {ms:List z0c} {l:List z00} {e:Int},zdq l ms=.inl e→e≠0
 | [],l,e,h=>by simp [zdq] at h
 | m::ms,l,e,h=>by
  simp only [zdq] at h
  cases hm:zim l m with
  | inl e'=>rw [hm] at h; cases h; exact ztn hm
  | inr k=>rw [hm] at h; exact zsg h
theorem zuc (ms:List z0c) (hl:ms.length≤1000):∀ (rest pre:List z0c) (l:List z00),pre++rest=ms→Rps l→iter (z8g ms) (l,(pre.length:Int))=some (match zdq l rest with | .inl e=>.inl ([],e) | .inr k=>.inr k)
 | [],pre,l,e,h=>by
  rw [List.append_nil] at e
  subst e
  refine z12 ?_
  unfold z8g
  simp only []
  rw [if_neg (by simp)]
  rfl
 | m::rest,pre,l,e,h=>by
  have hi:pre.length<ms.length:=by rw [← e]; simp
  have hm:ms[pre.length]=m:=by simp [← e]
  have hF:z8g ms (l,(pre.length:Int))=match zim l m with | .inl e=>some (.inl (.inl ([],e))) | .inr k=>some (.inr (k,((pre.length+1:Nat):Int))):=by
   unfold z8g
   simp only []
   rw [if_pos (by simpa using hi),z0d hi,hm]
   simp only [bS]
   rw [zrj h,z0k (by omega)]
   simp only [bS]
   cases hp:zim l m with
   | inl e=>rw [if_pos (by simpa using ztn hp)]
   | inr k=>rfl
  cases hp:zim l m with
  | inl e' =>
   rw [hp] at hF
   rw [z12 hF]
   simp only [zdq,hp]
  | inr k =>
   rw [hp] at hF
   have ih:=zuc ms hl rest (pre++[m]) k (by simp [← e]) (zjj h hp).1
   rw [List.length_append,List.length_cons,List.length_nil,Nat.zero_add] at ih
   rw [z1b hF,ih]
   simp only [zdq,hp]
theorem Rps.f900 (h:Rps l):∀ g∈l,Fit g 900:=fun g hg=>⟨(h.rp g hg).fit.ids, by have:=(h.rp g hg).fit.len; omega,(h.rp g hg).fit.ri,(h.rp g hg).op⟩
end
section
open Go
variable {g:z00} {n:Nat} {x y z:ID} {o q:z04}
structure z128 (g:z00) (x:ID) (o:z04):Prop where
 sz:o.Preds.length≤20∧o.Act.Key.length≤100∧o.Act.Value.Text.length≤100
 ok:zdw o=0∧sha (zdk o)=x∧o.Preds.length≤4∧z8l o.Preds=true
 wf:zg1 o
 no:x∉g.IDs
 ins:∀ p∈o.Preds,p∈g.IDs
theorem Rp.nil:Rp (⟨[],[]⟩:z00):=by
 have F:Fit (⟨[],[]⟩:z00) 60:=⟨rfl, by simp,rfl, by simp⟩
 have hn:∀ z o,z1p (⟨[],[]⟩:z00) z≠some o:=fun z o h=>by have:=(z6d h).1; cases this
 exact ⟨zpn F ⟨fun z o h=>absurd h (hn z o), fun z o h=>absurd h (hn z o), fun _=>0, fun z o h=>absurd h (hn z o)⟩, by simp,z10a F (by omega) (by simp)⟩
theorem z12s {p:ID × z04} {q:z04} (h:q∈(zko g p).Ops):q=p.2∨q∈g.Ops:=by
 unfold zko at h
 split at h
 ·
  exact .inr h
 ·
  exact zkw.1 h
theorem Rp.add (R:Rp g) (hl:g.Ops.length≤59) (N:z128 g x o):Rp (zko g (x,o)):=by
 have S:=zla R.good R.fit
 have F:=zg6 (p:=(x,o)) R.fit N.sz
 have hlen:(zko g (x,o)).Ops.length≤60:=by
  have F':Fit g g.Ops.length:=⟨R.fit.ids,Nat.le_refl _,R.fit.ri,R.fit.op⟩
  have:=(zg6 (p:=(x,o)) F' N.sz).len
  omega
 have F6:Fit (zko g (x,o)) 60:=⟨F.ids,hlen,F.ri,F.op⟩
 refine ⟨zpn F6 (zzg R.fit S (p:=(x,o)) N.sz N.no N.ok N.ins),F.op,z10a F6 (by omega) fun q hq=>?_⟩
 rcases z12s hq with rfl | h
 ·
  exact N.wf
 ·
  exact R.wf.2.1.1 q h
theorem z14j (F:Fit g n) (N:z128 g x o):(zko g (x,o)).Ops.length=g.Ops.length+1:=by
 have F1:=zl7 F.ri x
 have:=F1.le
 have hi:=F.ids
 unfold zko
 rw [if_neg N.no]
 show (zgx g.Ops _ o).length=_
 unfold zgx
 simp; omega
theorem zym (F:Fit g n) (N:z128 g x o) (y:ID):z1p (zko g (x,o)) y=if y=x then some o else z1p g y:=zof F (p:=(x,o)) N.sz N.no y
end
section
open Go
variable {g:z00} {n:Nat}
def oid (o:z04):ID:=sha (zdk o)
structure OkN (o:z04):Prop where
 good:zdw o=0
 pre:o.Preds.length≤4
 key:o.Act.Key.length≤100
 text:o.Act.Value.Text.length≤100
 num:inI o.Act.Value.Num
def zde (l:List z04):List (ID × z04):=l.map fun o=>(oid o,o)
theorem zr7 (l:List z04):(zde l).map Prod.fst=l.map oid:=by unfold zde; rw [List.map_map]; rfl
theorem zpi {l:List z04} (h:∀ o∈l,OkN o):∀ p∈zde l,p.2.Preds.length≤20∧p.2.Act.Key.length≤100∧p.2.Act.Value.Text.length≤100:=fun p hp=>by
 obtain ⟨o,ho,rfl⟩:=List.mem_map.1 hp
 have:=h o ho
 exact ⟨Nat.le_trans this.pre (by omega),this.key,this.text⟩
theorem fit0:Fit (⟨[],[]⟩:z00) 0:=⟨rfl,Nat.le_refl _,rfl, fun o ho=>by simp at ho⟩
theorem ztz:∀ {l:List (ID × z04)} {g:z00} {n:Nat},Fit g n→(∀ p∈l,p.2.Preds.length≤20∧p.2.Act.Key.length≤100∧p.2.Act.Value.Text.length≤100)→∀ x,x∈(zaj g l).IDs↔x∈g.IDs∨x∈l.map Prod.fst
 | [],g,n,F,_,x=>by simp [zaj]
 | p::l,g,n,F,hp,x=>by
  have ih:=ztz (l:=l) (zg6 F (hp p (by simp))) (fun q hq=>hp q (by simp [hq])) x
  have:zaj g (p::l)=zaj (zko g p) l:=rfl
  rw [this,ih,zzq F p,List.map_cons,List.mem_cons]
  constructor
  ·
   rintro ((h | h) | h)
   ·
    exact .inr (.inl h)
   ·
    exact .inl h
   ·
    exact .inr (.inr h)
  ·
   rintro (h | h | h)
   ·
    exact .inl (.inr h)
   ·
    exact .inl (.inl h)
   ·
    exact .inr h
theorem z19j (l:List z04) (hl:l.length≤60) (h:∀ o∈l,OkN o):iter (zg2 l) 0=some (.inr ()):=by
 refine z1v (F:=zg2 l) l.length (fun i=>(i:Int)) (fun i hi=>?_) ?_
 ·
  have ho:=h l[i] (List.getElem_mem hi)
  unfold zg2
  rw [if_pos (by simpa using hi),z0d hi]
  simp only [bS]
  rw [zm4 _ ho.num (Nat.le_trans ho.text (by omega)),ho.good]
  simp only [bS]
  rw [if_neg (by simp),z0k (by omega)]
 ·
  unfold zg2
  rw [if_neg (by simp)]
theorem z19o (l:List z04) (hl:l.length≤60) (h:∀ o∈l,OkN o) (hn:(l.map oid).Nodup):iter (zft l) ([],[],0)=some (.inr ((zaj ⟨[],[]⟩ (zde l)).IDs,(zaj ⟨[],[]⟩ (zde l)).Ops)):=by
 have hpl:(zde l).length=l.length:=by simp [zde]
 have hsz:=zpi h
 have fit:∀ i,i≤l.length→Fit (zaj ⟨[],[]⟩ ((zde l).take i)) i:=fun i hi=>by
  have:=zm0 (l:=(zde l).take i) fit0 (fun p hp=>hsz p (List.mem_of_mem_take hp))
  rw [List.length_take,hpl,Nat.min_eq_left hi,Nat.zero_add] at this
  exact this
 refine z1v (F:=zft l) l.length (fun i=>((zaj ⟨[],[]⟩ ((zde l).take i)).IDs,(zaj ⟨[],[]⟩ ((zde l).take i)).Ops,(i:Int))) (fun i hi=>?_) ?_
 ·
  have ho:=h l[i] (List.getElem_mem hi)
  have F:=fit i (by omega)
  have hx:oid l[i]∉(zaj ⟨[],[]⟩ ((zde l).take i)).IDs:=fun hc=>by
   rw [ztz fit0 (fun p hp=>hsz p (List.mem_of_mem_take hp))] at hc
   rcases hc with hc | hc
   ·
    simp at hc
   ·
    rw [List.map_take,zr7] at hc
    obtain ⟨j,hj,e⟩:=List.getElem_of_mem hc
    have hj':j<i:=by rw [List.length_take] at hj; omega
    rw [List.getElem_take,List.getElem_map] at e
    have:=(List.getElem_inj (xs:=l.map oid) (i:=j) (j:=i) (h₀:=by simp; omega) (h₁:=by simpa using hi) hn).1 (by rw [List.getElem_map,List.getElem_map,e])
    omega
  unfold zft
  rw [if_pos (by simpa using hi)]
  simp only []
  rw [z0d hi]
  simp only [bS]
  rw [zxn _ ho.num (Nat.le_trans ho.text (by omega)),if_pos (zan ho.good)]
  simp only [bS]
  have hput:=zyc F (by omega) (oid l[i],l[i]) (Nat.le_trans ho.pre (by omega))
  rw [decide_eq_false hx] at hput
  have hput:zf2 (⟨(zaj ⟨[],[]⟩ ((zde l).take i)).IDs,(zaj ⟨[],[]⟩ ((zde l).take i)).Ops⟩:z00) (sha (zdk l[i])) l[i]=_:=hput
  rw [hput]
  simp only [bS]
  rw [if_neg (by simp),z0k (by omega)]
  have ht:(zde l).take (i+1)=(zde l).take i++[(oid l[i],l[i])]:=by
   rw [List.take_add_one,List.getElem?_eq_getElem (by omega)]
   simp [zde]
  rw [ht,zjl]
 ·
  unfold zft
  rw [if_neg (by simp),List.take_of_length_le (by omega)]
theorem zrl:∀ (l:List z04) (o:z04),(l.map oid).Nodup→o∈l→((zde l).find? fun p=>decide (p.1=oid o)).map Prod.snd=some o
 | [],o,_,h=>by simp at h
 | a::l,o,hn,ho=>by
  rw [List.map_cons,List.nodup_cons] at hn
  have e0:zde (a::l)=(oid a,a)::zde l:=rfl
  rw [e0]
  by_cases e:oid a=oid o
  ·
   rw [List.find?_cons_of_pos (by simpa using e)]
   rcases List.mem_cons.1 ho with rfl | h
   ·
    rfl
   ·
    exact absurd (List.mem_map.2 ⟨o,h,e.symm⟩) hn.1
  ·
   rw [List.find?_cons_of_neg (by simpa using e)]
   rcases List.mem_cons.1 ho with rfl | h
   ·
    exact absurd rfl e
   ·
    exact zrl l o hn.2 h
theorem z15a (F:Fit g n) (S:zpd g) {l:List z04} (hl:∀ o,o∈l↔o∈g.Ops) (h:∀ o∈l,OkN o) (hn:(l.map oid).Nodup):zaj ⟨[],[]⟩ (zde l)=g:=by
 refine zfz (zm0 fit0 (zpi h)) F fun y=>?_
 rw [zr8 fit0 (zpi h) (by rw [zr7]; exact hn),zca (by simp),Option.none_or]
 cases hy:z1p g y with
 | some o =>
  have:=(S.ops y o hy).2.1
  have ho:=(hl o).2 (z6d hy).2
  have:=zrl l o hn ho
  rw [show oid o=y from (S.ops y o hy).2.1] at this
  exact this
 | none =>
  rw [Option.map_eq_none_iff,List.find?_eq_none]
  intro p hp hc
  obtain ⟨o,ho,rfl⟩:=List.mem_map.1 hp
  have hc:oid o=y:=by simpa using hc
  obtain ⟨i,hi,rfl⟩:=List.getElem_of_mem ((hl o).1 ho)
  have h1:=z7h F hi
  have h2:=(S.ops _ _ h1).2.1
  rw [← h2, show sha (zdk g.Ops[i])=y from hc,hy] at h1
  simp at h1
theorem z194 (F:Fit g 60) (S:zpd g) {l:List z04} (hl:∀ o,o∈l↔o∈g.Ops) (h6:l.length≤60) (h:∀ o∈l,OkN o) (hn:(l.map oid).Nodup):zr6 l=some (g,0):=by
 have G:=zpn F S
 obtain ⟨c,c1,-,c3⟩:=zus (g:=g) G.e.len G.e.ids G.e.op
 have hc:c=0:=c3.2 ⟨G.e.ri,G.ins,G.wf⟩
 unfold zr6
 rw [if_neg (by simp; omega),z19j l h6 h]
 simp only [z3g]
 rw [z19o l h6 h hn,z15a F S hl h hn]
 simp only [z3g,bS]
 rw [c1,hc]
 simp only [bS]
 rw [if_neg (by simp)]
end
section
open Go
variable {g a b:z00} {n m:Nat} {l l0:List z00}
def zsu (i:Nat):z0c:=⟨(i:Int),((i+1:Nat):Int)⟩
def z8a (n:Nat):List z0c:=(List.range' 0 (n - 1)).map zsu++if 2<n then [⟨((n - 1:Nat):Int),0⟩] else []
def zta {α σ:Type} (Y:α→σ→Option σ) (go:σ→Bool):List α→σ→Option (Sum σ σ)
 | [],s=>some (.inr s)
 | x::xs,s=>Y x s >>= fun t=>if !(go t) then some (.inl t) else zta Y go xs t
theorem zu5 {σ:Type} (Y:z0c→σ→Option σ) (go:σ→Bool) (k:Nat) (hk:k≤1000):∀ d i s,k - i=d→i≤k→iter (z4j Y go) ((k:Int),(i:Int),s)=zta Y go ((List.range' i d).map zsu) s
 | 0,i,s,hd,hi=>by
  refine z12 ?_
  unfold z4j
  simp only []
  rw [if_neg (by simp; omega)]
 | d+1,i,s,hd,hi=>by
  rw [show List.range' i (d+1)=i::List.range' (i+1) d from rfl,List.map_cons]
  simp only [zta]
  rw [iter]
  have e:z4j Y go ((k:Int),(i:Int),s)=Y (zsu i) s >>= fun t=>if !(go t) then some (.inl (.inl t)) else some (.inr ((k:Int),((i+1:Nat):Int),t)):=by
   conv=>lhs; unfold z4j
   simp only []
   rw [if_pos (by simp; omega),z0k (by omega)]
   rfl
  rw [e]
  cases hY:Y (zsu i) s with
  | none=>rfl
  | some t =>
   simp only [bS]
   cases hg:go t with
   | false=>rfl
   | true =>
    simp only [Bool.not_true,Bool.false_eq_true,if_false,bS]
    exact zu5 Y go k hk d (i+1) t (by omega) (by omega)
theorem zm3:∀ (xs ys:List z0c) (l:List z00),zdq l (xs++ys)=match zdq l xs with | .inl e=>.inl e | .inr k=>zdq k ys
 | [],ys,l=>rfl
 | x::xs,ys,l=>by
  simp only [List.cons_append,zdq]
  cases zim l x with
  | inl e=>rfl
  | inr k=>exact zm3 xs ys k
theorem z178 (h:Rps l) (x:z0c):z49 x l=some (match zim l x with | .inl e=>.inl (e,l) | .inr k=>.inr k):=by
 unfold z49
 rw [zrj h]
 simp only [bS]
 cases hm:zim l x with
 | inl e=>rw [if_pos (by simpa using ztn hm)]
 | inr k=>rfl
theorem zqv:∀ (xs:List z0c) (l:List z00),Rps l →
  (∃ e k,zdq l xs=.inl e∧zta (zok z49) Sum.isRight xs (.inr l)=some (.inl (.inl (e,k))))∨∃ k,zdq l xs=.inr k∧zta (zok z49) Sum.isRight xs (.inr l)=some (.inr (.inr k))
 | [],l,h=>.inr ⟨l,rfl,rfl⟩
 | x::xs,l,h=>by
  have e:zok z49 x (.inr l)=_:=z178 h x
  simp only [zta,zdq]
  rw [e]
  cases hm:zim l x with
  | inl e'=>exact .inl ⟨e',l,rfl,rfl⟩
  | inr k=>exact zqv xs k (zjj h hm).1
theorem znu (h:Rps l):∃ r,zbh l=some r∧(match zdq l (z8a l.length) with | .inl e=>r.1=e | .inr k=>r=(0,k)):=by
 have hl:=h.len
 unfold zbh zfn zb4
 simp only [bS]
 have e0:iter (z4j (zok z49) Sum.isRight) (w64 ((l.length:Int) - 1),0,(.inr l))=zta (zok z49) Sum.isRight ((List.range' 0 (l.length - 1)).map zsu) (.inr l):=by
  by_cases hz:l.length=0
  ·
   rw [hz]
   refine z12 ?_
   unfold z4j
   simp only []
   rw [if_neg (by rw [z14 (by omega) (by omega)]; simp)]
  ·
   rw [z14 (by omega) (by omega), show ((l.length:Int) - 1)=((l.length - 1:Nat):Int) by omega]
   exact zu5 _ _ _ (by omega) _ 0 _ rfl (Nat.zero_le _)
 rw [e0]
 unfold z8a
 rw [zm3]
 rcases zqv ((List.range' 0 (l.length - 1)).map zsu) l h with ⟨e,k,h1,h2⟩ | ⟨k,h1,h2⟩
 ·
  rw [h1,h2]
  exact ⟨(e,k),rfl,rfl⟩
 ·
  rw [h1,h2]
  simp only [zpt]
  have Rk:=(zeb h h1).1
  by_cases h2:2<l.length
  ·
   rw [if_pos (by simp; omega),if_pos h2,z14 (by omega) (by omega), show ((l.length:Int) - 1)=((l.length - 1:Nat):Int) by omega]
   have e:zok z49 ⟨((l.length - 1:Nat):Int),0⟩ (.inr k)=_:=z178 Rk _
   rw [e]
   simp only [zdq]
   cases zim k ⟨((l.length - 1:Nat):Int),0⟩ with
   | inl e=>exact ⟨(e,k),rfl,rfl⟩
   | inr k'=>exact ⟨(0,k'),rfl,rfl⟩
  ·
   rw [if_neg (by simp; omega),if_neg h2]
   exact ⟨(0,k),rfl,rfl⟩
def Has (l0:List z00) (w:Nat) (g:z00):Prop:=∀ x o,z1p g x=some o↔∃ i,∃ h:i<l0.length,w.testBit i=true∧z1p l0[i] x=some o
theorem Has.uni (Fa:Fit a n) (Fb:Fit b m) (hc:zdg a b) {w v:Nat} (ha:Has l0 w a) (hb:Has l0 v b):Has l0 (w ||| v) (z4e a b):=fun x o=>by
 have hu:z1p (z4e a b) x=some o↔z1p a x=some o∨z1p b x=some o:=by
  rw [zax Fa Fb]
  cases hq:z1p a x with
  | none=>simp
  | some q =>
   constructor
   ·
    intro h; exact .inl h
   ·
    rintro (h | h)
    ·
     exact h
    ·
     rw [(zm1 Fa Fb).1 hc x q o hq h]; rfl
 rw [hu,ha,hb]
 constructor
 ·
  rintro (⟨i,hi,h1,h2⟩ | ⟨i,hi,h1,h2⟩)
  ·
   exact ⟨i,hi, by rw [Nat.testBit_or,h1]; rfl,h2⟩
  ·
   exact ⟨i,hi, by rw [Nat.testBit_or,h1]; simp,h2⟩
 ·
  rintro ⟨i,hi,h1,h2⟩
  rw [Nat.testBit_or,Bool.or_eq_true] at h1
  rcases h1 with h1 | h1
  ·
   exact .inl ⟨i,hi,h1,h2⟩
  ·
   exact .inr ⟨i,hi,h1,h2⟩
theorem Has.eq (Fa:Fit a n) (Fb:Fit b m) {w:Nat} (ha:Has l0 w a) (hb:Has l0 w b):a=b:=zfz Fa Fb fun x=>by
 cases hq:z1p a x with
 | none =>
  cases hr:z1p b x with
  | none=>rfl
  | some o=>rw [(ha x o).2 ((hb x o).1 hr)] at hq; cases hq
 | some o=>rw [(hb x o).2 ((ha x o).1 hq)]
def metM (ws:List Nat) (m:z0c):List Nat :=
 (ws.set m.A.toNat (ws[m.A.toNat]?.getD 0 ||| ws[m.B.toNat]?.getD 0)).set m.B.toNat (ws[m.A.toNat]?.getD 0 ||| ws[m.B.toNat]?.getD 0)
def zop:List Nat→List z0c→List Nat
 | ws,[]=>ws
 | ws,m::ms=>zop (metM ws m) ms
def zo7 (l0:List z00) (ws:List Nat) (l:List z00):Prop:=ws.length=l.length∧∀ i (h:i<ws.length) (h2:i<l.length),Has l0 ws[i] l[i]
theorem z15s (R:Rps l) {m:z0c} {k:List z00} (hm:zim l m=.inr k) {ws:List Nat} (hw:zo7 l0 ws l):zo7 l0 (metM ws m) k:=by
 have hlen:=zms hm
 unfold zim at hm
 split at hm
 ·
  rename_i h2
  obtain ⟨hA,hB,-⟩:=h2
  obtain ⟨ia,ea⟩:=zdh hA.1 hA.2
  obtain ⟨ib,eb⟩:=zdh hB.1 hB.2
  have ma:atG l m.A∈l:=by rw [ea]; exact List.getElem_mem _
  have mb:atG l m.B∈l:=by rw [eb]; exact List.getElem_mem _
  split at hm
  ·
   cases hm
  ·
   cases hm
   have wa:m.A.toNat<ws.length:=by rw [hw.1]; exact ia
   have wb:m.B.toNat<ws.length:=by rw [hw.1]; exact ib
   have hu:Has l0 (ws[m.A.toNat]?.getD 0 ||| ws[m.B.toNat]?.getD 0) (z4e (atG l m.A) (atG l m.B)):=by
    rw [List.getElem?_eq_getElem wa,List.getElem?_eq_getElem wb]
    have h1:=hw.2 _ wa ia
    have h2:=hw.2 _ wb ib
    rw [← ea] at h1
    rw [← eb] at h2
    exact Has.uni (R.rp _ ma).fit (R.rp _ mb).fit (R.nc ma mb) h1 h2
   unfold metM
   refine ⟨by rw [hlen,← hw.1]; simp, fun i h h2=>?_⟩
   simp only [List.getElem_set]
   by_cases e1:m.B.toNat=i
   ·
    rw [if_pos e1,if_pos e1]; exact hu
   ·
    rw [if_neg e1,if_neg e1]
    by_cases e2:m.A.toNat=i
    ·
     rw [if_pos e2,if_pos e2]; exact hu
    ·
     rw [if_neg e2,if_neg e2]
     exact hw.2 i (by simpa using h) (by simpa using h2)
 ·
  cases hm
theorem zmw:∀ {ms:List z0c} {l k:List z00} {ws:List Nat},Rps l→zdq l ms=.inr k→zo7 l0 ws l→zo7 l0 (zop ws ms) k
 | [],l,k,ws,R,hr,hw=>by simp only [zdq] at hr; cases hr; exact hw
 | m::ms,l,k,ws,R,hr,hw=>by
  simp only [zdq] at hr
  cases hm:zim l m with
  | inl e=>rw [hm] at hr; cases hr
  | inr k' =>
   rw [hm] at hr
   have hr:zdq k' ms=.inr k:=hr
   show zo7 l0 (zop (metM ws m) ms) k
   exact zmw (zjj R hm).1 hr (z15s R hm hw)
def ws0 (n:Nat):List Nat:=(List.range n).map fun i=>2 ^ i
theorem has0 (l:List z00):zo7 l (ws0 l.length) l:=⟨by simp [ws0], fun i h h2=>by
 intro x o
 simp only [ws0,List.getElem_map,List.getElem_range]
 constructor
 ·
  intro ho; exact ⟨i,h2, by simp [Nat.testBit_two_pow],ho⟩
 ·
  rintro ⟨j,hj,h3,h4⟩
  have:i=j:=by simpa [Nat.testBit_two_pow] using h3
  subst this; exact h4⟩
theorem z19e:∀ n,n<6→zop (zop (ws0 n) (z8a n)) (z8a n)=List.replicate n (2 ^ n - 1):=by decide +kernel
theorem zwa (R:Rps l) {k1 k2:List z00} (h1:zdq l (z8a l.length)=.inr k1) (h2:zdq k1 (z8a l.length)=.inr k2):k2.length=l.length∧∀ g∈k2,Has l (2 ^ l.length - 1) g:=by
 obtain ⟨R1,e1⟩:=zeb R h1
 obtain ⟨R2,e2⟩:=zeb R1 h2
 have hw:=zmw R1 h2 (zmw R h1 (has0 l))
 rw [z19e _ (by have:=R.len; omega)] at hw
 refine ⟨by omega, fun g hg=>?_⟩
 obtain ⟨i,hi,rfl⟩:=List.getElem_of_mem hg
 have:=hw.2 i (by rw [hw.1]; exact hi) hi
 rwa [List.getElem_replicate] at this
end
section
open Go
variable {g a b:z00} {n m:Nat} {l l0:List z00}
theorem znr (R:Rps l):∀ d i,l.length - i=d→∃ r,iter (z7p l) (i:Int)=some r∧iter (z6e l) (i:Int)=some r ∧
  ((r=.inl (false,0)∧∃ j,∃ h:j<l.length,i≤j∧l[j].IDs≠(l[0]'(by omega)).IDs)∨(r=.inr ()∧∀ j (h:j<l.length),i≤j→l[j].IDs=(l[0]'(by omega)).IDs)):=by
 have hl5:=R.len
 intro d
 induction d with
 | zero =>
  intro i hd
  refine ⟨.inr (),z12 ?_,z12 ?_,.inr ⟨rfl, fun j h hj=>by omega⟩⟩
  ·
   unfold z7p; rw [if_neg (by simp; omega)]
  ·
   unfold z6e; rw [if_neg (by simp; omega)]
 | succ d ih =>
  intro i hd
  have hi:i<l.length:=by omega
  have h0:0<l.length:=by omega
  have F:=(R.rp _ (List.getElem_mem hi)).fit
  have hF1:=F.len; have hF2:=F.ids
  have e0:idx l 0=some l[0]:=z0d (i:=0) h0
  have hP:z7p l (i:Int)=if !decide (l[i].IDs=l[0].IDs) then some (.inl (.inl (false,0))) else some (.inr ((i+1:Nat):Int)):=by
   unfold z7p
   rw [if_pos (by simpa using hi),z0d hi,e0]
   simp only [bS]
   rw [z158 _ _ (by omega),z0k (by omega)]
   simp only [bS]
  have hQ:z6e l (i:Int)=if !decide (l[i].IDs=l[0].IDs) then some (.inl (.inl (false,0))) else some (.inr ((i+1:Nat):Int)):=by
   unfold z6e
   rw [if_pos (by simpa using hi),z0d hi,e0]
   simp only [bS]
   rw [z13n _ _ (by omega),z0k (by omega)]
   simp only [bS]
  by_cases he:l[i].IDs=l[0].IDs
  ·
   rw [decide_eq_true he,if_neg (by simp)] at hP hQ
   rw [z1b hP,z1b hQ]
   obtain ⟨r,r1,r2,r3⟩:=ih (i+1) (by omega)
   refine ⟨r,r1,r2,?_⟩
   rcases r3 with ⟨h1,j,hj,h2,h3⟩ | ⟨h1,h2⟩
   ·
    exact .inl ⟨h1,j,hj, by omega,h3⟩
   ·
    refine .inr ⟨h1, fun j hj hij=>?_⟩
    by_cases e:j=i
    ·
     subst e; exact he
    ·
     exact h2 j hj (by omega)
  ·
   rw [decide_eq_false he,if_pos (by simp)] at hP hQ
   exact ⟨_,z12 hP,z12 hQ,.inl ⟨rfl,i,hi,Nat.le_refl _,he⟩⟩
def z8x (l:List z00):Prop:=∀ g∈l,∀ h∈l,g.IDs=h.IDs
instance (l:List z00):Decidable (z8x l):=by unfold z8x; exact inferInstance
theorem zej (i:Nat) (hi:i≤1):z8x l↔∀ j (h:j<l.length),i≤j→l[j].IDs=(l[0]'(by omega)).IDs:=by
 constructor
 ·
  intro h j hj _
  exact h _ (List.getElem_mem hj) _ (List.getElem_mem _)
 ·
  intro h
  have all:∀ j (hj:j<l.length),l[j].IDs=(l[0]'(by omega)).IDs:=fun j hj=>by
   by_cases e:j=0
   ·
    subst e; rfl
   ·
    exact h j hj (by omega)
  intro g hg k hk
  obtain ⟨p,hp,rfl⟩:=List.getElem_of_mem hg
  obtain ⟨q,hq,rfl⟩:=List.getElem_of_mem hk
  rw [all p hp,all q hq]
theorem z135 (R:Rps l):∃ b,z8r l=some (b,0)∧za3 l=some (b,0)∧(b=true↔z8x l):=by
 obtain ⟨c1,c2⟩:=R.chk
 obtain ⟨r,r1,-,r3⟩:=znr R _ 0 rfl
 obtain ⟨q,-,q2,q3⟩:=znr R _ 1 rfl
 unfold z8r za3
 rw [c1,c2]
 simp only [bS]
 rw [if_neg (by simp),if_neg (by simp), show (0:Int)=((0:Nat):Int) from rfl, show (1:Int)=((1:Nat):Int) from rfl,r1,q2]
 rcases r3 with ⟨rfl,j,hj,h1,h2⟩ | ⟨rfl,h1⟩ <;> rcases q3 with ⟨rfl,k,hk,h3,h4⟩ | ⟨rfl,h3⟩
 ·
  exact ⟨false,rfl,rfl, by simp; exact fun h=>h2 ((zej 0 (by omega)).1 h j hj (by omega))⟩
 ·
  exact absurd ((zej 0 (by omega)).1 ((zej 1 (by omega)).2 h3) j hj (by omega)) h2
 ·
  exact absurd (h1 k hk (by omega)) h4
 ·
  exact ⟨true,rfl,rfl, by simp; exact (zej 0 (by omega)).2 h1⟩
theorem z15k (R:Rps l) (h:¬ z8x l):z8r l=some (false,0)∧za3 l=some (false,0):=by
 obtain ⟨b,b1,b2,b3⟩:=z135 R
 cases b with
 | true=>exact absurd (b3.1 rfl) h
 | false=>exact ⟨b1,b2⟩
theorem z125 (R:Rps l) (h:z8x l):z8r l=some (true,0)∧za3 l=some (true,0):=by
 obtain ⟨b,b1,b2,b3⟩:=z135 R
 have:=b3.2 h
 subst this
 exact ⟨b1,b2⟩
def zri:Nat→List z00→Sum Int (List z00)
 | 0,l=>.inr l
 | k+1,l=>match zdq l (z8a l.length) with
  | .inl e=>.inl e
  | .inr l'=>zri k l'
theorem zrz (N:Nat) (hN:N≤5):∀ d i l,N - i=d→i≤N→Rps l→iter (z96 (N:Int)) (l,(i:Int))=some (match zri d l with | .inl e=>.inl ([],e) | .inr k=>.inr k)
 | 0,i,l,hd,hi,R=>by
  refine z12 ?_
  unfold z96
  simp only []
  rw [if_neg (by simp; omega)]
  rfl
 | d+1,i,l,hd,hi,R=>by
  obtain ⟨r,r1,r2⟩:=znu R
  have hF:z96 (N:Int) (l,(i:Int))=if r.1 != 0 then some (.inl (.inl ([],r.1))) else some (.inr (r.2,((i+1:Nat):Int))):=by
   unfold z96
   simp only []
   rw [if_pos (by simp; omega),r1,z0k (by omega)]
   simp only [bS]
  simp only [zri]
  cases hm:zdq l (z8a l.length) with
  | inl e =>
   rw [hm] at r2
   have r2:r.1=e:=r2
   rw [r2,if_pos (by simpa using zsg hm)] at hF
   rw [z12 hF]
  | inr k =>
   rw [hm] at r2
   have r2:r=(0,k):=r2
   rw [r2,if_neg (by simp)] at hF
   rw [z1b hF]
   exact zrz N hN d (i+1) k (by omega) (by omega) (zeb R hm).1
theorem Has.same {w:Nat} {g h:z00} (Fg:Fit g n) (Fh:Fit h m) (hg:Has l0 w g) (hh:Has l0 w h):g.IDs=h.IDs:=by rw [Has.eq Fg Fh hg hh]
theorem ztj (R:Rps l) {k1 k2:List z00} (h1:zdq l (z8a l.length)=.inr k1) (h2:zdq k1 (z8a l.length)=.inr k2):z8x k2:=by
 obtain ⟨R1,e1⟩:=zeb R h1
 obtain ⟨R2,e2⟩:=zeb R1 h2
 obtain ⟨-,hall⟩:=zwa R h1 h2
 intro g hg h hh
 exact Has.same (R2.rp g hg).fit (R2.rp h hh).fit (hall g hg) (hall h hh)
def zp5 (l:List z00) (n:Nat):Sum (Int × Int) (List z00) :=
 if z8x l then .inl ((n:Int),0) else match zdq l (z8a l.length) with
  | .inl e=>.inl (0,e)
  | .inr k=>.inr k
theorem zjq (R:Rps l) {n:Nat} (hn:n<3):zbl (l,(n:Int))=some (match zp5 l n with | .inl r=>.inl (.inl r) | .inr k=>.inr (k,((n+1:Nat):Int))):=by
 unfold zbl zp5
 simp only []
 rw [if_pos (by simp; omega)]
 by_cases hs:z8x l
 ·
  rw [(z125 R hs).1,if_pos hs]
  rfl
 ·
  obtain ⟨r,r1,r2⟩:=znu R
  rw [(z15k R hs).1,if_neg hs,r1,z0k (by omega)]
  simp only [bS]
  cases hm:zdq l (z8a l.length) with
  | inl e =>
   rw [hm] at r2
   have r2:r.1=e:=r2
   rw [r2]
   rw [if_neg (by simp)]
   simp only [bS,Bool.false_eq_true,if_false]
   rw [if_pos (by simpa using zsg hm)]
  | inr k =>
   rw [hm] at r2
   have r2:r=(0,k):=r2
   rw [r2]
   rfl
theorem zk4 (l:List z00):∀ (d i:Nat),11 - i=d→i≤11→∃ r,iter (z4n l) (i:Int)=some r∧(r=.inl true∨(r=.inr ()∧∀ j (h:j<l.length),i≤j→j≤10→zrp l[j]))
 | 0,i,hd,hi=>by
  have:i=11:=by omega
  subst this
  refine ⟨.inr (),z12 ?_,.inr ⟨rfl, fun j hj h1 h2=>by omega⟩⟩
  unfold z4n
  split
  ·
   rw [if_neg (by simp)]
  ·
   rfl
 | d+1,i,hd,hi=>by
  by_cases hl:i<l.length
  ·
   obtain ⟨b,b1,b2⟩:=z11w l[i]
   have hF:z4n l (i:Int)=if b then some (.inl (.inl true)) else some (.inr ((i+1:Nat):Int)):=by
    unfold z4n
    rw [if_pos (by simpa using hl),if_pos (by simp; omega),z0d hl,z0k (by omega)]
    simp only [bS]
    rw [b1]
    simp only [bS]
   cases b with
   | true=>exact ⟨_,z12 hF,.inl rfl⟩
   | false =>
    rw [if_neg (by simp)] at hF
    rw [z1b hF]
    obtain ⟨r,r1,r2⟩:=zk4 l d (i+1) (by omega) (by omega)
    refine ⟨r,r1,r2.imp id fun h=>⟨h.1, fun j hj h1 h2=>?_⟩⟩
    by_cases e:j=i
    ·
     subst e; exact b2 rfl
    ·
     exact h.2 j hj (by omega) h2
  ·
   refine ⟨.inr (),z12 ?_,.inr ⟨rfl, fun j hj h1 h2=>by omega⟩⟩
   unfold z4n
   rw [if_neg (by simp; omega)]
theorem z144 (l:List z00):∃ b,z9h l=some b∧(b=false→l.length≤10∧∀ g∈l,zrp g):=by
 obtain ⟨r,r1,r2⟩:=zk4 l _ 0 rfl (by omega)
 unfold z9h
 rw [show (0:Int)=((0:Nat):Int) from rfl,r1]
 rcases r2 with rfl | ⟨rfl,h⟩
 ·
  exact ⟨true,rfl, by simp⟩
 ·
  refine ⟨_,rfl, fun hb=>?_⟩
  have hl:l.length≤10:=by simp at hb; omega
  exact ⟨hl, fun g hg=>by obtain ⟨j,hj,rfl⟩:=List.getElem_of_mem hg; exact h j hj (Nat.zero_le _) (by omega)⟩
theorem zyj (hl:l.length≤1000) (hw:∀ g∈l,z4u g) (hs:∀ g∈l,zrp g):∃ c,z3a l=some c∧z4d l=some c∧(c=0→Rps l):=by
 obtain ⟨c,c1,c2,c3⟩:=zx8 hl hw fun g hg o ho=>by
  obtain ⟨i,hi,rfl⟩:=List.getElem_of_mem ho
  exact (hs g hg).op i hi
 exact ⟨c,c1,c2, fun h=>⟨(c3.1 h).1,(c3.1 h).2.1,(c3.1 h).2.2⟩⟩
end
section
open Go
variable {g:z00}
theorem zxl {α:Type} {l:List α} {n:Nat} (h:n<l.length):l.take (n+1)=l.take n++[l[n]]:=by
 rw [List.take_add_one,List.getElem?_eq_getElem h]; rfl
theorem zp6 {κ β:Type} [DecidableEq κ] (k:κ) (v:β):∀ m:List (κ × β),(zbj m k v).map Prod.fst=if k∈m.map Prod.fst then m.map Prod.fst else m.map Prod.fst++[k]
 | []=>rfl
 | p::m=>by
  unfold zbj
  by_cases h:k=p.1
  ·
   rw [if_pos h,if_pos (by simp [h])]; rfl
  ·
   rw [if_neg h,List.map_cons,zp6 k v m]
   by_cases h2:k∈m.map Prod.fst
   ·
    rw [if_pos h2,if_pos (by rw [List.map_cons]; exact List.mem_cons_of_mem _ h2),List.map_cons]
   ·
    rw [if_neg h2,if_neg (by rw [List.map_cons]; exact fun h3=>(List.mem_cons.1 h3).elim h h2),List.map_cons]; rfl
theorem zwh {κ β:Type} [DecidableEq κ] {k:κ} {v:β} {m:List (κ × β)} (h:(m.map Prod.fst).Nodup):((zbj m k v).map Prod.fst).Nodup:=by
 rw [zp6]
 by_cases h2:k∈m.map Prod.fst
 ·
  rw [if_pos h2]; exact h
 ·
  rw [if_neg h2,List.nodup_append]
  exact ⟨h, by simp, fun a ha b hb e=>by rw [List.mem_singleton] at hb; subst hb; subst e; exact h2 ha⟩
theorem z10v {κ β:Type} [DecidableEq κ] {k:κ} {v:β} {m:List (κ × β)}:(zbj m k v).length≤m.length+1:=by
 have h:=congrArg List.length (zp6 k v m)
 rw [List.length_map] at h
 rw [h]
 split <;> simp
end
section
open Go
variable {g a b:z00} {n m:Nat} {l:List z00}
def op0:z04:=⟨0,[],0,(⟨0,[],(⟨0,0,0,[]⟩:z05)⟩:z0f),(⟨0,0⟩:z0a)⟩
def zmz (l:List z00) (x:ID):Nat:=(l.filter fun g=>decide (x∈g.IDs)).length
theorem z103 (l:List z00) (g:z00) (x:ID):zmz (l++[g]) x=zmz l x+if x∈g.IDs then 1 else 0:=by
 unfold zmz
 rw [List.filter_append,List.length_append,List.filter_cons]
 by_cases h:x∈g.IDs
 ·
  simp [h]
 ·
  simp [h]
theorem z14d (l:List z00) (x:ID):zmz l x≤l.length:=List.length_filter_le _ _
def cntO (n:Nat):Option Int:=if n=0 then none else some (n:Int)
theorem z11e (n:Nat):(cntO n).getD 0=(n:Int):=by
 unfold cntO
 by_cases h:n=0
 ·
  rw [if_pos h,h]; rfl
 ·
  rw [if_neg h]; rfl
theorem zzi (n:Nat):cntO (n+1)=some ((n+1:Nat):Int):=if_neg (by omega)
theorem zlt {κ β:Type} [DecidableEq κ] {x:κ} {v:β}:∀ {m:List (κ × β)},(m.map Prod.fst).Nodup→(x,v)∈m→z60 m x=some v
 | p::m,hn,h=>by
  rw [List.map_cons,List.nodup_cons] at hn
  rcases List.mem_cons.1 h with e | h
  ·
   subst e
   exact if_pos rfl
  ·
   have hx:x≠p.1:=fun e=>hn.1 (by rw [← e]; exact List.mem_map.2 ⟨_,h,rfl⟩)
   have e:z60 (p::m) x=z60 m x:=if_neg hx
   rw [e,zlt hn.2 h]
theorem zls {κ β:Type} [DecidableEq κ] {x:κ} {v:β}:∀ {m:List (κ × β)},z60 m x=some v→(x,v)∈m
 | [],h=>by simp [z60] at h
 | p::m,h=>by
  by_cases hx:x=p.1
  ·
   have e:z60 (p::m) x=some p.2:=if_pos hx
   rw [e] at h
   cases h
   subst hx
   exact List.mem_cons_self
  ·
   have e:z60 (p::m) x=z60 m x:=if_neg hx
   rw [e] at h
   exact List.mem_cons_of_mem _ (zls h)
theorem z17o (F:Fit g 60) (M:List (ID × Int)) (O:List (ID × z04)) (c:ID→Nat) (P:ID→Option z04) (hc:∀ x,c x≤1000) (hn:(M.map Prod.fst).Nodup) (hM:∀ x,z60 M x=cntO (c x)) (hO:∀ x,z60 O x=P x) :
  ∃ s,iter (z1t g) (M,O,0)=some s∧(s.1.map Prod.fst).Nodup∧s.1.length≤M.length+60∧(∀ x,z60 s.1 x=cntO (c x+if x∈g.IDs then 1 else 0))∧∀ x,z60 s.2 x=(z1p g x).or (P x):=by
 have hl:=F.len; have hi:=F.ids
 refine zbu (F:=z1t g) g.IDs.length (fun j s=>s.2.2=(j:Int)∧(s.1.map Prod.fst).Nodup∧s.1.length≤M.length+j∧(∀ x,z60 s.1 x=cntO (c x+if x∈g.IDs.take j then 1 else 0))∧∀ x,z60 s.2.1 x=(if x∈g.IDs.take j then z1p g x else none).or (P x)) _ (fun j s hj=>?_) (fun s=>?_) (M,O,0) 0 (Nat.zero_le _) ⟨rfl,hn,Nat.le_refl _, fun x=>by simp [hM], fun x=>by simp [hO]⟩
 ·
  obtain ⟨M1,O1,j'⟩:=s
  rintro ⟨e1,e2,e3,e4,e5⟩
  simp only at e1 e2 e3 e4 e5
  subst e1
  have hjo:j<g.Ops.length:=by omega
  have hnt:=zkd F.ri hj
  have hx:=e4 g.IDs[j]
  rw [if_neg hnt,Nat.add_zero] at hx
  have hcj:=hc g.IDs[j]
  have hmem:∀ x,x∈g.IDs.take (j+1)↔x∈g.IDs.take j∨x=g.IDs[j]:=fun x=>by rw [zxl hj,List.mem_append,List.mem_singleton]
  have hstay:∀ x,x≠g.IDs[j]→(x∈g.IDs.take (j+1))=(x∈g.IDs.take j):=fun x e=>propext ⟨fun h=>((hmem x).1 h).resolve_right e, fun h=>(hmem x).2 (.inl h)⟩
  unfold z1t
  rw [if_pos (by simpa using hj)]
  simp only [z0d hj,z0d hjo,bS,z0k (n:=j) (by omega),hx,z11e,z0k (n:=c g.IDs[j]) (by omega)]
  refine ⟨_,rfl,rfl,zwh e2,Nat.le_trans z10v (by omega), fun x=>?_, fun x=>?_⟩
  ·
   show z60 (zbj M1 g.IDs[j] ((c g.IDs[j]+1:Nat):Int)) x=_
   rw [zi9,e4]
   by_cases e:x=g.IDs[j]
   ·
    rw [if_pos e,if_pos ((hmem x).2 (.inr e)),e,zzi]
   ·
    rw [if_neg e]
    simp only [hstay x e]
  ·
   show z60 (zbj O1 g.IDs[j] g.Ops[j]) x=_
   rw [zi9,e5]
   by_cases e:x=g.IDs[j]
   ·
    rw [if_pos e,if_pos ((hmem x).2 (.inr e)),e,z7h F hjo]; rfl
   ·
    rw [if_neg e]
    simp only [hstay x e]
 ·
  rintro ⟨e1,e2,e3,e4,e5⟩
  unfold z1t
  rw [if_neg (by rw [e1]; simp)]
  refine ⟨_,rfl,e2, by simp only; omega, fun x=>by rw [e4,List.take_length], fun x=>?_⟩
  rw [e5,List.take_length]
  by_cases h:x∈g.IDs
  ·
   rw [if_pos h]
  ·
   rw [if_neg h,zca h]
theorem z18f (R:Rps l):∃ s,iter (z1s l) ([],[],0)=some s∧(s.1.map Prod.fst).Nodup∧s.1.length≤300∧(∀ x,z60 s.1 x=cntO (zmz l x))∧∀ x,z60 s.2 x=z8n l x:=by
 have hl:=R.len
 refine zbu (F:=z1s l) l.length (fun i s=>s.2.2=(i:Int)∧(s.1.map Prod.fst).Nodup∧s.1.length≤60 * i∧(∀ x,z60 s.1 x=cntO (zmz (l.take i) x))∧∀ x,z60 s.2.1 x=z8n (l.take i) x) _ (fun i s hi=>?_) (fun s=>?_) ([],[],0) 0 (Nat.zero_le _) ⟨rfl,List.Pairwise.nil,Nat.le_refl _, fun x=>rfl, fun x=>rfl⟩
 ·
  obtain ⟨M,O,i'⟩:=s
  rintro ⟨e1,e2,e3,e4,e5⟩
  simp only at e1 e2 e3 e4 e5
  subst e1
  have Rg:=R.rp l[i] (List.getElem_mem hi)
  obtain ⟨s,s1,s2,s3,s4,s5⟩:=z17o Rg.fit M O _ _ (fun x=>by have:=z14d (l.take i) x; rw [List.length_take] at this; omega) e2 e4 e5
  unfold z1s
  rw [if_pos (by simpa using hi)]
  simp only [z0d hi,bS]
  rw [s1]
  simp only [bS,z0k (n:=i) (by omega)]
  refine ⟨_,rfl,rfl,s2, by show s.1.length≤_; omega, fun x=>?_, fun x=>?_⟩
  ·
   show z60 s.1 x=_
   rw [s4,zxl hi,z103]
  ·
   show z60 s.2 x=_
   rw [s5,zxl hi,zjn]
   cases h1:z8n (l.take i) x with
   | none=>cases z1p l[i] x <;> rfl
   | some o =>
    cases h2:z1p l[i] x with
    | none=>rfl
    | some q =>
     obtain ⟨g',h3,h4⟩:=z9t h1
     have:=R.ag _ (List.mem_of_mem_take h3) _ (List.getElem_mem hi) x o q h4 h2
     rw [this]
     first | done | rfl
 ·
  rintro ⟨e1,e2,e3,e4,e5⟩
  unfold z1s
  rw [if_neg (by rw [e1]; simp)]
  refine ⟨_,rfl,e2, by simp only; omega, fun x=>by rw [e4,List.take_length], fun x=>by rw [e5,List.take_length]⟩
theorem zoh (F:ID × Int→List ID→Option (List ID)) (en:Int→Bool) (hF:∀ e acc,acc.length≤1000→F e acc=some (if en e.2 then acc++[e.1] else acc)):∀ (M:List (ID × Int)) (acc:List ID),acc.length+M.length≤1000→ziw F M acc=some (acc++(M.filter fun e=>en e.2).map Prod.fst)
 | [],acc,_=>by simp [ziw]
 | e::M,acc,h=>by
  rw [List.length_cons] at h
  unfold ziw
  rw [hF e acc (by omega)]
  simp only [bS]
  cases he:en e.2 with
  | true =>
   rw [if_pos rfl,zoh F en hF M _ (by rw [List.length_append,List.length_singleton]; omega),List.filter_cons_of_pos (by rw [he])]
   simp
  | false =>
   rw [if_neg (by simp),zoh F en hF M _ (by omega),List.filter_cons_of_neg (by rw [he]; simp)]
theorem z175 (s4:List (ID × Int) × List (ID × z04)) (K:List ID) (hK:K.length≤1000) (hO:∀ x∈K,((z60 s4.2 x).getD op0).Preds.length≤100):iter (z1r s4 K) ([],0)=some (K.map fun x=>(z60 s4.2 x).getD op0):=by
 refine z1v K.length (fun i=>((K.take i).map fun x=>(z60 s4.2 x).getD op0,(i:Int))) (fun i hi=>?_) ?_
 ·
  unfold z1r
  rw [if_pos (by simpa using hi)]
  simp only [z0d hi,bS,z0k (n:=i) (by omega)]
  show (z0n (((z60 s4.2 K[i]).getD op0).Preds) >>= fun r54=>_)=_
  rw [zlr _ (hO _ (List.getElem_mem hi))]
  simp only [bS]
  rw [z1q (by simp only [List.length_map,List.length_take,List.length_singleton]; omega),zxl hi,List.map_append]
  rfl
 ·
  unfold z1r
  rw [if_neg (by simp),List.take_length]
theorem zye (S:List ID) (f:ID→z04) (x:ID):z1p ⟨S,S.map f⟩ x=if x∈S then some (f x) else none:=by
 unfold z1p
 by_cases h:x∈S
 ·
  have hi:=List.idxOf_lt_length_of_mem h
  rw [if_pos h,if_pos h]
  show (S.map f)[S.idxOf x]? = _
  rw [List.getElem?_map,List.getElem?_eq_getElem hi]
  simp
 ·
  rw [if_neg h,if_neg h]
theorem z111 {K:List ID} (h:K.Nodup):z8l (zin K)=true:=by
 rw [zeu]
 have h1:=zfu K
 have h2:(zin K).Nodup:=(List.mergeSort_perm K _).nodup_iff.2 h
 exact (h1.and h2).imp fun {a b} hab=>by
  have:kd a≠kd b:=fun e=>hab.2 (zo9 e)
  have:=hab.1
  omega
theorem zwe (R:Rps l) {s:List (ID × Int) × List (ID × z04)} (hn:(s.1.map Prod.fst).Nodup) (hl:s.1.length≤300) (hM:∀ x,z60 s.1 x=cntO (zmz l x)) (hO:∀ x,z60 s.2 x=z8n l x) (en:Int→Bool) {K:List ID} (hK:K=(s.1.filter fun e=>en e.2).map Prod.fst) :
  ∃ W,(ztq K >>= fun r44=>iter (z1r s r44) ([],0) >>= fun s46=>some (⟨r44,s46⟩:z00))=some W∧Fit W 300∧∀ x,z1p W x=if zmz l x≠0∧en (zmz l x:Int)=true then z8n l x else none:=by
 have hKl:K.length≤300:=by
  have:=List.length_filter_le (fun e:ID × Int=>en e.2) s.1
  rw [hK,List.length_map]; omega
 have hKn:K.Nodup:=by
  rw [hK]
  exact List.Nodup.sublist (List.Sublist.map _ List.filter_sublist) hn
 have hKm:∀ x,x∈K↔zmz l x≠0∧en (zmz l x:Int)=true:=fun x=>by
  rw [hK,List.mem_map]
  constructor
  ·
   rintro ⟨⟨y,v⟩,h1,rfl⟩
   rw [List.mem_filter] at h1
   have h2:=zlt hn h1.1
   rw [hM] at h2
   unfold cntO at h2
   split at h2
   ·
    cases h2
   ·
    rename_i h3
    cases h2
    exact ⟨h3,h1.2⟩
  ·
   rintro ⟨h1,h2⟩
   have h3:z60 s.1 x=some (zmz l x:Int):=by rw [hM]; exact if_neg h1
   exact ⟨(x,(zmz l x:Int)),List.mem_filter.2 ⟨zls h3,h2⟩,rfl⟩
 have hsome:∀ x,zmz l x≠0→∃ o,z8n l x=some o:=fun x h=>by
  obtain ⟨g,hg⟩:=List.exists_mem_of_ne_nil _ (fun e=>h (by unfold zmz; rw [e]; rfl):(l.filter fun g=>decide (x∈g.IDs))≠[])
  rw [List.mem_filter] at hg
  obtain ⟨o,ho⟩:=z5m (R.rp g hg.1).fit (by simpa using hg.2)
  exact ⟨o,zbc R.ag hg.1 ho⟩
 have hop:∀ x∈zin K,((z60 s.2 x).getD op0).Preds.length≤20∧((z60 s.2 x).getD op0).Act.Key.length≤100∧((z60 s.2 x).getD op0).Act.Value.Text.length≤100:=fun x hx=>by
  rw [zqq,hKm] at hx
  obtain ⟨o,ho⟩:=hsome x hx.1
  rw [hO,ho]
  obtain ⟨g,h1,h2⟩:=z9t ho
  exact (R.rp g h1).op _ (z6d h2).2
 refine ⟨⟨zin K,(zin K).map fun x=>(z60 s.2 x).getD op0⟩,?_,⟨by simp, by simp only [List.length_map,zmu]; omega,z111 hKn, fun o ho=>?_⟩, fun x=>?_⟩
 ·
  unfold ztq
  rw [z3p (by omega)]
  simp only [bS]
  rw [z175 s (zin K) (by rw [zmu]; omega) fun x hx=>by have:=(hop x hx).1; omega]
  rfl
 ·
  obtain ⟨x,hx,rfl⟩:=List.mem_map.1 ho
  exact hop x hx
 ·
  have hm:x∈zin K↔zmz l x≠0∧en (zmz l x:Int)=true:=by rw [zqq,hKm]
  rw [zye,hO]
  by_cases h:zmz l x≠0∧en (zmz l x:Int)=true
  ·
   rw [if_pos (hm.2 h),if_pos h]
   obtain ⟨o,ho⟩:=hsome x h.1
   rw [ho]; rfl
  ·
   rw [if_neg fun k=>h (hm.1 k),if_neg h]
theorem z130 (R:Rps l) {x:ID} (h:zmz l x=0):z8n l x=none:=by
 cases hq:z8n l x with
 | none=>rfl
 | some o =>
  obtain ⟨g,h1,h2⟩:=z9t hq
  have:g∈l.filter fun g=>decide (x∈g.IDs):=List.mem_filter.2 ⟨h1, by simpa using (z6d h2).1⟩
  unfold zmz at h
  rw [List.length_eq_zero_iff] at h
  rw [h] at this; cases this
theorem zvu (R:Rps l):∃ W,z35 l=some W∧Fit W 300∧∀ x,z1p W x=z8n l x:=by
 obtain ⟨s,s1,s2,s3,s4,s5⟩:=z18f R
 obtain ⟨W,w1,w2,w3⟩:=zwe R s2 s3 s4 s5 (fun _=>true) rfl
 refine ⟨W,?_,w2, fun x=>?_⟩
 ·
  unfold z35
  rw [s1]
  simp only [bS]
  rw [zoh _ (fun _=>true) (fun e acc h=>by
   unfold z3t zbp
   simp only [bS,if_true]
   rw [z1q (by rw [List.length_singleton]; omega)]
   rfl) s.1 [] (by simp; omega)]
  simp only [bS,List.nil_append]
  exact w1
 ·
  rw [w3]
  by_cases h:zmz l x=0
  ·
   rw [if_neg (by simp [h]),z130 R h]
  ·
   rw [if_pos ⟨h,rfl⟩]
end
section
open Go
variable {g a b:z00} {n m:Nat} {l:List z00} {mk:Nat→Bool}
def z51 (l:List z00):z00:=l.foldl z4e ⟨[],[]⟩
theorem z167:Fit (⟨[],[]⟩:z00) 0:=⟨rfl,Nat.le_refl _,rfl, fun o ho=>by cases ho⟩
theorem zw9 (l:List z00) (g:z00):z51 (l++[g])=z4e (z51 l) g:=by unfold z51; rw [List.foldl_append]; rfl
theorem zjg (R:Rps l):∀ i,i≤l.length→Fit (z51 (l.take i)) (60 * i)∧∀ x,z1p (z51 (l.take i)) x=z8n (l.take i) x
 | 0,_=>⟨z167, fun x=>rfl⟩
 | i+1,hi=>by
  obtain ⟨h1,h2⟩:=zjg R i (by omega)
  have F:=(R.rp _ (List.getElem_mem (show i<l.length by omega))).fit
  rw [zxl (by omega),zw9]
  refine ⟨?_, fun x=>?_⟩
  ·
   have:=zcp h1 F
   rw [Nat.mul_succ]; exact this
  ·
   rw [zax h1 F,h2,zjn]
theorem zbg (R:Rps l):Fit (z51 l) 300:=by
 have h:=(zjg R l.length (Nat.le_refl _)).1
 rw [List.take_length] at h
 have:=R.len
 exact ⟨h.ids,Nat.le_trans h.len (by omega),h.ri,h.op⟩
theorem zay (R:Rps l) (x:ID):z1p (z51 l) x=z8n l x:=by
 have h:=(zjg R l.length (Nat.le_refl _)).2 x
 rwa [List.take_length] at h
end
section
open Go
variable {g a b:z00} {n m:Nat} {l:List z00} {mk:Nat→Bool}
theorem Fit.le60 (F:Fit g n) (h:g.Ops.length≤60):Fit g 60:=⟨F.ids,h,F.ri,F.op⟩
theorem z153 {W g:z00} (F:Fit W n) (G:Fit g m) (h:∀ x o,z1p W x=some o→z1p g x=some o):W.Ops.length≤g.Ops.length:=by
 rw [← F.ids,← G.ids]
 refine zf0 _ _ (ze6 F.ri) fun x hx=>?_
 obtain ⟨o,ho⟩:=z5m F hx
 exact (z6d (h x o ho)).1
end
section
open Go
variable {g a b:z00} {n:Nat} {l k:List z00} {m:z0c} {x:ID} {o:z04}
theorem optE {α:Type} {p q:Option α} (h:∀ o,p=some o↔q=some o):p=q:=by
 cases p with
 | none =>
  cases q with
  | none=>rfl
  | some o=>exact absurd ((h o).2 rfl) (by simp)
 | some o=>exact ((h o).1 rfl).symm
theorem zon (R:Rps l):z8n l x=some o↔∃ h∈l,z1p h x=some o :=
 ⟨fun h=>z9t h, fun ⟨_,h1,h2⟩=>zbc R.ag h1 h2⟩
def zli (l:List z00):z00 × Int:=if 60<(z51 l).Ops.length then (⟨[],[]⟩,4) else (z51 l,0)
theorem zm5 (R:Rps l):z4q l=some (zli l):=by
 obtain ⟨W,w1,w2,w3⟩:=zvu R
 have e:W=z51 l:=zfz w2 (zbg R) fun x=>by rw [w3,zay R]
 subst e
 unfold z4q
 rw [R.chk.1]
 simp only [bS]
 rw [if_neg (by simp),w1]
 simp only [bS]
 by_cases h:60<(z51 l).Ops.length
 ·
  have e:zli l=(⟨[],[]⟩,4):=if_pos h
  rw [e,if_pos (by simp; omega)]
 ·
  have e:zli l=(z51 l,0):=if_neg h
  rw [e,if_neg (by simp; omega)]
theorem z154 (hm:zim l m=.inr k):Two l.length m:=by
 unfold zim at hm
 split at hm
 ·
  assumption
 ·
  cases hm
theorem z14i (R:Rps l) (hw:(z51 l).Ops.length≤60) (h2:Two l.length m):∃ k,zim l m=.inr k:=by
 obtain ⟨ia,ea⟩:=zdh h2.1.1 h2.1.2
 obtain ⟨ib,eb⟩:=zdh h2.2.1.1 h2.2.1.2
 have ma:atG l m.A∈l:=by rw [ea]; exact List.getElem_mem _
 have mb:atG l m.B∈l:=by rw [eb]; exact List.getElem_mem _
 have hle:(z4e (atG l m.A) (atG l m.B)).Ops.length≤(z51 l).Ops.length:=z153 (zcp (R.rp _ ma).fit (R.rp _ mb).fit) (zbg R) fun x o h=>by rw [zay R]; exact zun R ma mb h
 unfold zim
 rw [if_pos h2,if_neg (by omega)]
 exact ⟨_,rfl⟩
theorem zuq (R:Rps l) (hm:zim l m=.inr k) {i:Nat} (hi:i<l.length) (hi2:i<k.length) (h:z1p l[i] x=some o):z1p k[i] x=some o:=by
 have h2:=z154 hm
 obtain ⟨ia,ea⟩:=zdh h2.1.1 h2.1.2
 obtain ⟨ib,eb⟩:=zdh h2.2.1.1 h2.2.1.2
 have ma:atG l m.A∈l:=by rw [ea]; exact List.getElem_mem _
 have mb:atG l m.B∈l:=by rw [eb]; exact List.getElem_mem _
 unfold zim at hm
 rw [if_pos h2] at hm
 split at hm
 ·
  cases hm
 ·
  have hk:k=(l.set m.A.toNat (z4e (atG l m.A) (atG l m.B))).set m.B.toNat (z4e (atG l m.A) (atG l m.B)):=by
   injection hm with hm; exact hm.symm
  subst hk
  have hu:∀ g,g=atG l m.A∨g=atG l m.B→z1p g x=some o→z1p (z4e (atG l m.A) (atG l m.B)) x=some o:=fun g hg ho=>by
   have hgl:g∈l:=by
    rcases hg with rfl | rfl
    ·
     exact ma
    ·
     exact mb
   rw [zax (R.rp _ ma).fit (R.rp _ mb).fit]
   cases hq:z1p (atG l m.A) x with
   | some q =>
    rw [R.ag _ ma g hgl x q o hq ho]; rfl
   | none =>
    rcases hg with rfl | rfl
    ·
     rw [hq] at ho; cases ho
    ·
     rw [ho]; rfl
  simp only [List.getElem_set]
  by_cases e1:m.B.toNat=i
  ·
   rw [if_pos e1]
   subst e1
   exact hu _ (.inr rfl) (by rw [eb]; exact h)
  ·
   rw [if_neg e1]
   by_cases e2:m.A.toNat=i
   ·
    rw [if_pos e2]
    subst e2
    exact hu _ (.inl rfl) (by rw [ea]; exact h)
   ·
    rw [if_neg e2]; exact h
theorem z141 (R:Rps l) (hm:zim l m=.inr k) (x:ID):z8n k x=z8n l x:=by
 obtain ⟨Rk,hs⟩:=zjj R hm
 have hlen:=zms hm
 refine optE fun o=>?_
 rw [zon Rk,zon R]
 constructor
 ·
  rintro ⟨g,h1,h2⟩
  exact (zon R).1 (hs g h1 x o h2)
 ·
  rintro ⟨g,h1,h2⟩
  obtain ⟨i,hi,rfl⟩:=List.getElem_of_mem h1
  have hi2:i<k.length:=by omega
  exact ⟨k[i],List.getElem_mem hi2,zuq R hm hi hi2 h2⟩
theorem zgl (R:Rps l) (Rk:Rps k) (h:∀ x,z8n k x=z8n l x):z51 k=z51 l:=zfz (zbg Rk) (zbg R) fun x=>by rw [zay Rk,zay R,h]
theorem zp7:∀ (ms:List z0c) (l:List z00),Rps l→(z51 l).Ops.length≤60→(∀ m∈ms,Two l.length m)→∃ k,zdq l ms=.inr k∧Rps k∧k.length=l.length∧(∀ x,z8n k x=z8n l x)∧∀ i (h:i<l.length) (h2:i<k.length) x o,z1p l[i] x=some o→z1p k[i] x=some o
 | [],l,R,hw,h2=>⟨l,rfl,R,rfl, fun x=>rfl, fun i _ _ x o h=>h⟩
 | m::ms,l,R,hw,h2=>by
  obtain ⟨k1,e1⟩:=z14i R hw (h2 m (by simp))
  have R1:=(zjj R e1).1
  have l1:=zms e1
  have a1:=z141 R e1
  have w1:=zgl R R1 a1
  obtain ⟨k,p1,p2,p3,p4,p5⟩:=zp7 ms k1 R1 (by rw [w1]; exact hw) fun m' hm'=>by rw [l1]; exact h2 m' (by simp [hm'])
  refine ⟨k,?_,p2, by omega, fun x=>by rw [p4,a1], fun i h h2 x o ho=>p5 i (by omega) h2 x o (zuq R e1 h (by omega) ho)⟩
  simp only [zdq]
  rw [e1]
  exact p1
theorem zid (n:Nat):∀ m∈z8a n,Two n m:=fun m hm=>by
 unfold z8a at hm
 rcases List.mem_append.1 hm with hm | hm
 ·
  obtain ⟨i,hi,rfl⟩:=List.mem_map.1 hm
  rw [List.mem_range'_1] at hi
  unfold Two zsu
  simp only
  omega
 ·
  split at hm
  ·
   rw [List.mem_singleton] at hm
   subst hm
   unfold Two
   simp only
   omega
  ·
   cases hm
theorem zz5 (R:Rps l) (hw:(z51 l).Ops.length≤60):∃ k,zdq l (z8a l.length)=.inr k∧Rps k∧k.length=l.length∧z51 k=z51 l:=by
 obtain ⟨k,p1,p2,p3,p4,-⟩:=zp7 _ l R hw (zid _)
 exact ⟨k,p1,p2,p3,zgl R p2 p4⟩
theorem zy7 (R:Rps l) (N:Nat) (hN:N≤5) (h:zri N l=.inr k):z9q l (N:Int)=some (k,0):=by
 unfold z9q
 rw [R.chk.1]
 simp only [bS]
 have d1:¬ (decide ((N:Int)<0)=true):=by simp
 have d2:¬ (decide (5<(N:Int))=true):=by simp; omega
 rw [if_neg (by simp),if_neg d1,if_neg d2,zoo l (by have:=R.len; omega) R.f900]
 simp only [bS]
 rw [show (0:Int)=((0:Nat):Int) from rfl,zrz N hN N 0 l rfl (Nat.zero_le _) R,h]
 rfl
theorem z10b (R:Rps l) {k1 k2:List z00} (h1:zdq l (z8a l.length)=.inr k1) (h2:zdq k1 (z8a k1.length)=.inr k2):zby l=some (if z8x l then (0,0) else if z8x k1 then (1,0) else (2,0)):=by
 obtain ⟨R1,e1⟩:=zeb R h1
 obtain ⟨R2,e2⟩:=zeb R1 h2
 unfold zby
 rw [R.chk.1]
 simp only [bS]
 rw [if_neg (by simp),zoo l (by have:=R.len; omega) R.f900]
 simp only [bS]
 have p0:=zjq R (n:=0) (by omega)
 have p1:=zjq R1 (n:=1) (by omega)
 have p2:=zjq R2 (n:=2) (by omega)
 rw [show (0:Int)=((0:Nat):Int) from rfl]
 by_cases s0:z8x l
 ·
  have e:zp5 l 0=.inl (((0:Nat):Int),0):=if_pos s0
  rw [e] at p0
  rw [z12 p0,if_pos s0]
  rfl
 ·
  have e:zp5 l 0=.inr k1:=by unfold zp5; rw [if_neg s0,h1]
  rw [e] at p0
  rw [z1b p0,if_neg s0]
  by_cases s1:z8x k1
  ·
   have e:zp5 k1 1=.inl (((1:Nat):Int),0):=if_pos s1
   rw [e] at p1
   rw [z12 p1,if_pos s1]
   rfl
  ·
   have e:zp5 k1 1=.inr k2:=by unfold zp5; rw [if_neg s1,h2]
   rw [e] at p1
   rw [z1b p1,if_neg s1]
   have hs:=ztj R h1 (by rw [← e1]; exact h2)
   have e:zp5 k2 2=.inl (((2:Nat):Int),0):=if_pos hs
   rw [e] at p2
   rw [z12 p2]
   rfl
theorem z149 (ids:List ID) (hn:ids.Nodup) {l0:List z00} (hl:l0.length=ids.length) (h0:∀ i (h:i<l0.length) (h2:i<ids.length),∃ o,∀ x q,z1p l0[i] x=some q↔x=ids[i]∧q=o) {w:Nat} (F:Fit g n) (H:Has l0 w g):g.IDs.length=((List.range ids.length).filter fun i=>w.testBit i).length:=by
 have e:((List.range ids.length).filter fun i=>w.testBit i).length=(((List.range ids.length).filter fun i=>w.testBit i).map fun i=>ids[i]?.getD (Vector.replicate 32 0)).length:=by rw [List.length_map]
 rw [e]
 refine zlo (ze6 F.ri) ?_ fun x=>?_
 ·
  unfold List.Nodup
  rw [List.pairwise_map]
  refine List.Pairwise.imp_of_mem (fun {a b} ha hb hab e=>?_) (List.Pairwise.sublist List.filter_sublist List.nodup_range)
  have ha:a<ids.length:=by simpa using (List.mem_filter.1 ha).1
  have hb:b<ids.length:=by simpa using (List.mem_filter.1 hb).1
  rw [List.getElem?_eq_getElem ha,List.getElem?_eq_getElem hb] at e
  exact hab ((List.getElem_inj hn).1 e)
 ·
  rw [List.mem_map]
  constructor
  ·
   intro hx
   obtain ⟨o,ho⟩:=z5m F hx
   obtain ⟨i,hi,h1,h2⟩:=(H x o).1 ho
   have hi2:i<ids.length:=by omega
   obtain ⟨q,hq⟩:=h0 i hi hi2
   refine ⟨i,List.mem_filter.2 ⟨by simpa using hi2,h1⟩,?_⟩
   rw [List.getElem?_eq_getElem hi2]
   exact ((hq x o).1 h2).1.symm
  ·
   rintro ⟨i,hi,rfl⟩
   rw [List.mem_filter] at hi
   have hi2:i<ids.length:=by simpa using hi.1
   obtain ⟨q,hq⟩:=h0 i (by omega) hi2
   rw [List.getElem?_eq_getElem hi2]
   exact (z6d ((H ids[i] q).2 ⟨i, by omega,hi.2,(hq _ _).2 ⟨rfl,rfl⟩⟩)).1
end
section
open Go
variable {l:List z00} {g:z00}
theorem zxw (R:Rps l) (hg:g∈l) {x:ID} (hx:x∈g.IDs):x∈(z51 l).IDs:=by
 obtain ⟨o,ho⟩:=z5m (R.rp g hg).fit hx
 have:=zbc R.ag hg ho
 rw [← zay R] at this
 exact (z6d this).1
theorem zw0 (R:Rps l) {x:ID} (hx:x∈(z51 l).IDs):∃ g∈l,x∈g.IDs:=by
 obtain ⟨o,ho⟩:=z5m (zbg R) hx
 rw [zay R] at ho
 obtain ⟨g,h1,h2⟩:=z9t ho
 exact ⟨g,h1,(z6d h2).1⟩
def rid (d:Rn):ID:=idv d.h3
def rop (d:Rn):z04:=zhv (u32 4) (UInt64.ofNat d.n) [] ⟨u32 d.E,u32 d.S⟩
def z19x (d:Rn):ID × z04:=(rid d,rop d)
def grR (m:List Rn):z00:=zaj ⟨[],[]⟩ (m.map z19x)
theorem wf_b {y:UInt32} {st:UInt64} {sg:z0a}:zg1 (zhv y st [] sg):=by
 refine ⟨trivial,⟨fun x _ y _=>trivial, by show ([]:List ID).length≤_; simp⟩,trivial,?_,?_⟩
 ·
  refine ⟨trivial,?_,⟨trivial,?_,trivial,?_,trivial⟩,trivial⟩
  ·
   show ([]:List UInt8).length≤_; simp
  ·
   show inI 0; unfold inI; omega
  ·
   show ([]:List UInt8).length≤_; simp
 ·
  exact ⟨⟨trivial,trivial,trivial⟩,trivial⟩
theorem zui {d:Rn} (h:chkR d=true):zjw 1 (⟨0,[],UInt64.ofNat d.n,⟨1,[],⟨0,0,0,[]⟩⟩,⟨0,0⟩⟩:z04)=some (rop d,0)∧zdw (rop d)=0∧sha (zdk (rop d))=rid d:=by
 have:=z18y (k:=1) (P:=[]) h
 exact this
theorem zz3 {g:z00} {d:Rn} (h:chkR d=true) (no:rid d∉g.IDs):z128 g (rid d) (rop d):=by
 have:=zui h
 exact ⟨⟨by show ([]:List ID).length≤20; simp, by show ([]:List UInt8).length≤100; simp, by show ([]:List UInt8).length≤100; simp⟩,⟨this.2.1,this.2.2, by show ([]:List ID).length≤4; simp,rfl⟩,wf_b,no, fun p hp=>by cases hp⟩
theorem z18u {α β γ:Type} {f:α→β} {k:β→γ} {l:List α} (h:(l.map fun d=>k (f d)).Nodup):(l.map f).Nodup:=by
 unfold List.Nodup at h ⊢
 rw [List.pairwise_map] at h ⊢
 exact h.imp fun hn e=>hn (by rw [e])
structure Mk (m:List Rn):Prop where
 chk:∀ d∈m,chkR d=true
 nd:(m.map rid).Nodup
 len:m.length≤60
theorem z120 (m:List Rn) (d:Rn):grR (m++[d])=zko (grR m) (rid d,rop d):=by
 unfold grR
 rw [List.map_append,List.map_cons,List.map_nil,zjl]
 rfl
theorem Mk.of_app {m:List Rn} {d:Rn} (h:Mk (m++[d])):Mk m∧chkR d=true∧rid d∉m.map rid∧m.length≤59:=by
 have hn:=h.nd
 rw [List.map_append,List.map_cons,List.map_nil,List.nodup_append] at hn
 have hl:=h.len
 rw [List.length_append,List.length_singleton] at hl
 exact ⟨⟨fun e he=>h.chk e (by simp [he]),hn.1, by omega⟩,h.chk d (by simp), fun hm=>hn.2.2 _ hm _ (by simp) rfl, by omega⟩
theorem z147:∀ (n:Nat) (m:List Rn),m.length=n→Mk m→Rp (grR m)∧(grR m).Ops.length=m.length∧∀ x o,z1p (grR m) x=some o↔∃ d∈m,rid d=x∧o=rop d:=by
 intro n
 induction n with
 | zero =>
  intro m hm _
  have:m=[]:=List.length_eq_zero_iff.1 hm
  subst this
  exact ⟨Rp.nil,rfl, fun x o=>⟨fun h=>(by have:=(z6d h).1; cases this), fun ⟨d,h,_⟩=>(by cases h)⟩⟩
 | succ n ih =>
  intro m hm hk
  obtain ⟨m',d,rfl⟩:∃ m' d,m=m'++[d]:=⟨m.dropLast,m.getLast (fun e=>by subst e; simp at hm),(List.dropLast_concat_getLast _).symm⟩
  obtain ⟨k1,k2,k3,k4⟩:=hk.of_app
  obtain ⟨R,hl,hlk⟩:=ih m' (by simpa using hm) k1
  have no:rid d∉(grR m').IDs:=fun hx=>by
   obtain ⟨o,ho⟩:=z5m R.fit hx
   obtain ⟨e,e1,e2,-⟩:=(hlk _ _).1 ho
   exact k3 (List.mem_map.2 ⟨e,e1,e2⟩)
  have N:=zz3 k2 no
  rw [z120]
  refine ⟨R.add (by omega) N, by rw [z14j R.fit N,hl]; simp, fun x o=>?_⟩
  rw [zym R.fit N]
  by_cases e:x=rid d
  ·
   rw [if_pos e]
   constructor
   ·
    intro h; exact ⟨d, by simp,e.symm,(Option.some.inj h).symm⟩
   ·
    rintro ⟨d',h1,h2,h3⟩
    rcases List.mem_append.1 h1 with h1 | h1
    ·
     exact absurd (List.mem_map.2 ⟨d',h1,h2.trans e⟩) k3
    ·
     rw [List.mem_singleton] at h1; subst h1; rw [h3]
  ·
   rw [if_neg e,hlk]
   constructor
   ·
    rintro ⟨d',h1,h2⟩; exact ⟨d', by simp [h1],h2⟩
   ·
    rintro ⟨d',h1,h2,h3⟩
    rcases List.mem_append.1 h1 with h1 | h1
    ·
     exact ⟨d',h1,h2,h3⟩
    ·
     rw [List.mem_singleton] at h1; subst h1; exact absurd h2.symm e
theorem zk8 {m:List Rn} (h:Mk m):Rp (grR m)∧(grR m).Ops.length=m.length∧∀ x o,z1p (grR m) x=some o↔∃ d∈m,rid d=x∧o=rop d:=z147 _ m rfl h
theorem z17g {l:List Rn} (h:(l.map rid).Nodup) {d e:Rn} (hd:d∈l) (he:e∈l) (hr:rid d=rid e):d=e:=by
 obtain ⟨i,hi,rfl⟩:=List.getElem_of_mem hd
 obtain ⟨j,hj,rfl⟩:=List.getElem_of_mem he
 have h1:(l.map rid)[i]'(by simpa using hi)=(l.map rid)[j]'(by simpa using hj):=by simpa using hr
 have:=(List.getElem_inj (h₀:=by simpa using hi) (h₁:=by simpa using hj) h).1 h1
 subst this; rfl
theorem z14o {ms:List (List Rn)} (h5:ms.length≤5) (hk:∀ m∈ms,Mk m) (hn:(ms.flatten.map rid).Nodup):Rps (ms.map grR)∧(z51 (ms.map grR)).Ops.length=ms.flatten.length:=by
 have R:Rps (ms.map grR):=⟨by simpa using h5, fun g hg=>by
  obtain ⟨m,hm,rfl⟩:=List.mem_map.1 hg
  exact (zk8 (hk m hm)).1, fun g hg h hh x o q h1 h2=>by
  obtain ⟨m,hm,rfl⟩:=List.mem_map.1 hg
  obtain ⟨m',hm',rfl⟩:=List.mem_map.1 hh
  obtain ⟨d,d1,d2,d3⟩:=((zk8 (hk m hm)).2.2 x o).1 h1
  obtain ⟨e,e1,e2,e3⟩:=((zk8 (hk m' hm')).2.2 x q).1 h2
  have:=z17g hn (List.mem_flatten.2 ⟨m,hm,d1⟩) (List.mem_flatten.2 ⟨m',hm',e1⟩) (d2.trans e2.symm)
  rw [d3,e3,this]⟩
 refine ⟨R,?_⟩
 have F:=zbg R
 rw [← F.ids]
 have e:=zlo (ze6 F.ri) hn fun x=>?_
 ·
  rw [e,List.length_map]
 ·
  constructor
  ·
   intro hx
   obtain ⟨g,g1,g2⟩:=zw0 R hx
   obtain ⟨m,hm,rfl⟩:=List.mem_map.1 g1
   obtain ⟨o,ho⟩:=z5m (R.rp _ g1).fit g2
   obtain ⟨d,d1,d2,-⟩:=((zk8 (hk m hm)).2.2 x o).1 ho
   exact List.mem_map.2 ⟨d,List.mem_flatten.2 ⟨m,hm,d1⟩,d2⟩
  ·
   intro hx
   obtain ⟨d,d1,d2⟩:=List.mem_map.1 hx
   obtain ⟨m,hm,d3⟩:=List.mem_flatten.1 d1
   have:=((zk8 (hk m hm)).2.2 x (rop d)).2 ⟨d,d3,d2,rfl⟩
   exact zxw R (List.mem_map.2 ⟨m,hm,rfl⟩) (z6d this).1
theorem z19u {d:Rn} (h:chkR d=true):OkN (rop d):=⟨(zui h).2.1, by show ([]:List ID).length≤4; simp, by show ([]:List UInt8).length≤100; simp, by show ([]:List UInt8).length≤100; simp, by show inI 0; unfold inI; omega⟩
theorem z19v {d:Rn} (h:chkR d=true):oid (rop d)=rid d:=(zui h).2.2
theorem of_r {m:List Rn} (h:Mk m):zr6 (m.map rop)=some (grR m,0):=by
 obtain ⟨R,hl,hlk⟩:=zk8 h
 refine z194 R.fit (zla R.good R.fit) (fun o=>?_) (by rw [List.length_map]; exact h.len) (fun o ho=>?_) ?_
 ·
  constructor
  ·
   intro ho
   obtain ⟨d,hd,rfl⟩:=List.mem_map.1 ho
   exact (z6d ((hlk (rid d) (rop d)).2 ⟨d,hd,rfl,rfl⟩)).2
  ·
   intro ho
   obtain ⟨i,hi,rfl⟩:=List.getElem_of_mem ho
   obtain ⟨d,hd,-,e⟩:=(hlk _ _).1 (z7h R.fit hi)
   rw [e]
   exact List.mem_map.2 ⟨d,hd,rfl⟩
 ·
  obtain ⟨d,hd,rfl⟩:=List.mem_map.1 ho
  exact z19u (h.chk d hd)
 ·
  rw [List.map_map]
  have e:m.map (oid ∘ rop)=m.map rid:=List.map_congr_left fun d hd=>z19v (h.chk d hd)
  rw [e]
  exact h.nd
end
section
open Go
def zfe (n:Int) (m:z0c):Bool:=decide (0≤m.A∧m.A<n∧0≤m.B∧m.B<n∧m.A≠m.B)
def zdy (f:Nat→Nat→Bool) (m:z0c):Nat→Nat→Bool:=fun i k=>if (i:Int)=m.A∨(i:Int)=m.B then f m.A.toNat k || f m.B.toNat k else f i k
theorem z17q (n:Int) (m:z0c):zau n m=some (zfe n m):=by
 unfold zau zfe
 split
 ·
  rename_i h
  simp only [decide_eq_true_eq] at h
  split
  ·
   rename_i h2
   simp only [decide_eq_true_eq] at h2
   congr 1
   rw [Bool.eq_iff_iff]; simp; omega
  ·
   rename_i h2
   simp only [decide_eq_true_eq] at h2
   congr 1
   rw [Bool.eq_iff_iff]; simp; omega
 ·
  rename_i h
  simp only [decide_eq_true_eq] at h
  congr 1
  rw [Bool.eq_iff_iff]; simp; omega
def hb (h:Vector UInt64 5) (i k:Nat):Bool:=(h[i]?.getD 0).toNat.testBit k
theorem ztb {h:Vector UInt64 5} {i k:Nat} (hi:i<5):hb h i k=(h[i]).toNat.testBit k:=by simp [hb,hi]
theorem zyh (h:Vector UInt64 5) (m:z0c) (n:Int) (hn:n≤5) (hg:zfe n m=true) (i k:Nat) (hi:i<5) :
  hb (zdr (zdr h m.A (h[m.A.toNat]'(by simp [zfe] at hg; omega) ||| h[m.B.toNat]'(by simp [zfe] at hg; omega))) m.B (h[m.A.toNat]'(by simp [zfe] at hg; omega) ||| h[m.B.toNat]'(by simp [zfe] at hg; omega))) i k=zdy (hb h) m i k:=by
 simp [zfe] at hg
 rw [ztb hi,zbz hi,zbz hi]
 unfold zdy
 rw [ztb (show m.A.toNat<5 by omega),ztb (show m.B.toNat<5 by omega),ztb hi]
 by_cases h1:m.B.toNat=i
 ·
  rw [if_pos h1,if_pos (by omega),UInt64.toNat_or,Nat.testBit_or]
 ·
  rw [if_neg h1]
  by_cases h2:m.A.toNat=i
  ·
   rw [if_pos h2,if_pos (by omega),UInt64.toNat_or,Nat.testBit_or]
  ·
   rw [if_neg h2,if_neg (by omega)]
theorem zw5 (n:Int) (hn:n≤5) (K:Nat→Prop):∀ (l:List z0c) (f g:Nat→Nat→Bool),(∀ m∈l,zfe n m=true)→(∀ i k,i<5→K k→f i k=g i k)→∀ i k,i<5→K k→l.foldl zdy f i k=l.foldl zdy g i k:=by
 intro l
 induction l with
 | nil=>intro f g _ hfg i k hi hk; exact hfg i k hi hk
 | cons m l ih2 =>
  intro f g hgo hfg i k hi hk
  simp only [List.foldl_cons]
  refine ih2 _ _ (fun m hm=>hgo m (by simp [hm])) (fun i k hi hk=>?_) i k hi hk
  have:=hgo m (by simp)
  simp [zfe] at this
  unfold zdy
  rw [hfg m.A.toNat k (by omega) hk,hfg m.B.toNat k (by omega) hk,hfg i k hi hk]
theorem znn (n:Int) (hn:n≤5) (ms:List z0c) (hl:ms.length≤1000):∀ (rest pre:List z0c) (h:Vector UInt64 5),ms=pre++rest →
  (rest.all (zfe n)=true→∃ h',iter (z6z n ms) (h,(pre.length:Int))=some (.inr h')∧∀ i k,i<5→hb h' i k=rest.foldl zdy (hb h) i k) ∧
  (rest.all (zfe n)=false→iter (z6z n ms) (h,(pre.length:Int))=some (.inl ([],2)))
 | [],pre,h,e=>by
  refine ⟨fun _=>⟨h,z12 ?_, fun _ _ _=>rfl⟩, fun hh=>by simp at hh⟩
  subst e
  unfold z6z
  simp
 | m::rest,pre,h,e=>by
  have hlen:pre.length<ms.length:=by rw [e]; simp
  have hget:ms[pre.length]'hlen=m:=by subst e; simp
  have hF:z6z n ms (h,(pre.length:Int))=if !zfe n m then some (.inl (.inl ([],2))) else
    z5y h m.A >>= fun x21=>z5y h m.B >>= fun x23=>z5y h m.A >>= fun x25=>z5y (zdr h m.A (x21 ||| x23)) m.B >>= fun x27=>some (.inr (zdr (zdr h m.A (x21 ||| x23)) m.B (x21 ||| x23),w64 ((pre.length:Int)+1))):=by
   unfold z6z
   rw [if_pos (by simp <;> omega)]
   simp only [z0d hlen,hget,bs,z17q]
  cases hg:zfe n m with
  | false =>
   refine ⟨fun hh=>by simp [hg] at hh, fun _=>z12 ?_⟩
   rw [hF,hg]; rfl
  | true =>
   have hg':=hg
   simp [zfe] at hg'
   have hA:m.A.toNat<5:=by omega
   have hB:m.B.toNat<5:=by omega
   rw [hg] at hF
   simp only [Bool.not_true,Bool.false_eq_true,if_false,zv8 (show 0≤m.A by omega) hA,zv8 (show 0≤m.B by omega) hB,bs,z0k (show pre.length<9223372036854775807 by omega)] at hF
   rw [z1b hF]
   have ih:=znn n hn ms hl rest (pre++[m]) (zdr (zdr h m.A (h[m.A.toNat] ||| h[m.B.toNat])) m.B (h[m.A.toNat] ||| h[m.B.toNat])) (by simp [e])
   simp only [List.length_append,List.length_cons,List.length_nil,Nat.zero_add] at ih
   refine ⟨fun hh=>?_, fun hh=>ih.2 (by simpa [hg] using hh)⟩
   obtain ⟨h',k1,k2⟩:=ih.1 (by simpa [hg] using hh)
   refine ⟨h',k1, fun i k hi=>?_⟩
   rw [k2 i k hi,List.foldl_cons]
   exact zw5 n hn (fun _=>True) rest _ _ (fun m hm=>by simp [hg] at hh; exact hh m hm) (fun i k hi _=>zyh h m n hn hg i k hi) i k hi trivial
theorem zxy:∃ h,iter za4 (Vector.replicate 5 0,0)=some h∧∀ i k,i<5→k<5→hb h i k=decide (i=k):=by
 refine zbu 5 (fun i s=>s.2=(i:Int)∧∀ j k,j<i→k<5→hb s.1 j k=decide (j=k)) (fun h=>∀ i k,i<5→k<5→hb h i k=decide (i=k)) (fun i s hi hs=>?_) (fun s hs=>?_) _ 0 (by omega) ⟨rfl, fun j k hj=>by omega⟩
 ·
  obtain ⟨h,x⟩:=s
  obtain ⟨rfl,h2⟩:=hs
  simp only at h2
  refine ⟨(zdr h (i:Int) (zmn 1 i),((i+1:Nat):Int)),?_,rfl, fun j k hj hk=>?_⟩
  ·
   unfold za4
   rw [if_pos (by simp <;> omega)]
   simp only [z3p (show (0:Int)≤(i:Int) by omega),bs,z6c hi,Int.toNat_natCast,z0k (show i<9223372036854775807 by omega)]
  ·
   simp only
   rw [ztb (by omega),zbz (by omega)]
   simp only [Int.toNat_natCast]
   by_cases hij:i=j
   ·
    subst hij
    rw [if_pos rfl,zhg]
    have:∀ i k:Fin 5,((1:UInt64).toNat * 2 ^ min i.val 64 % 18446744073709551616).testBit k.val=decide (i.val=k.val):=by decide
    exact this ⟨i,hi⟩ ⟨k,hk⟩
   ·
    rw [if_neg hij,← ztb (show j<5 by omega)]; exact h2 j k (by omega) hk
 ·
  obtain ⟨h,x⟩:=s
  obtain ⟨rfl,h2⟩:=hs
  exact ⟨h, by unfold za4; rw [if_neg (by simp)], fun i k hi hk=>h2 i k hi hk⟩
def z91 (f:Nat→Bool) (n:Nat):List Int:=((List.range n).filter f).map fun k:Nat=>(k:Int)
theorem ztc (f:Nat→Bool) (n:Nat):z91 f (n+1)=if f n then z91 f n++[(n:Int)] else z91 f n:=by
 unfold z91
 rw [List.range_succ,List.filter_append,List.map_append]
 cases h:f n <;> simp [h]
theorem zwx (f:Nat→Bool) (n:Nat):(z91 f n).length≤n:=by
 unfold z91
 rw [List.length_map]
 exact Nat.le_trans (List.length_filter_le _ _) (by simp)
theorem zs6 {f g:Nat→Bool} {n:Nat} (h:∀ k,k<n→f k=g k):z91 f n=z91 g n:=by
 unfold z91
 congr 1
 exact List.filter_congr (fun k hk=>h k (by simpa using hk))
theorem z12p (n:Nat) (hn:n≤5) (h:Vector UInt64 5) (s:List (List Int)) (i:Nat) (hi:i<n):iter (zac (n:Int) h (s,(i:Int))) ([],0)=some (z91 (hb h i) n):=by
 refine z1v n (fun k=>(z91 (hb h i) k,(k:Int))) (fun k hk=>?_) ?_
 ·
  unfold zac
  rw [if_pos (by simp <;> omega)]
  simp only [z6c (show i<5 by omega),bs,z3p (show (0:Int)≤(k:Int) by omega),Int.toNat_natCast,z17a _ k (by omega),← ztb (show i<5 by omega)]
  rw [ztc]
  have hl:=zwx (hb h i) k
  cases hb h i k with
  | true=>simp only [if_true,z1q (show ((z91 (hb h i) k).length+[(k:Int)].length) * 8≤140737488355328 by simp; omega),bs,z0k (show k<9223372036854775807 by omega)]
  | false=>simp only [Bool.false_eq_true,if_false,z0k (show k<9223372036854775807 by omega)]
 ·
  unfold zac
  rw [if_neg (by simp)]
theorem zzo (n:Nat) (hn:n≤5) (h:Vector UInt64 5):iter (za0 (n:Int) h) ([],0)=some ((List.range n).map fun i=>z91 (hb h i) n):=by
 refine z1v n (fun k=>((List.range k).map fun i=>z91 (hb h i) n,(k:Int))) (fun k hk=>?_) ?_
 ·
  unfold za0
  rw [if_pos (by simp <;> omega)]
  rw [z12p n hn h _ k hk]
  simp only [bs]
  rw [z1q (by simp <;> omega)]
  simp only [bs,z0k (show k<9223372036854775807 by omega),List.range_succ,List.map_append,List.map_cons,List.map_nil]
 ·
  unfold za0
  rw [if_neg (by simp)]
theorem z11u {n:Nat} {m:z0c}:zfe (n:Int) m=true↔Two n m:=by
 unfold zfe Two
 rw [decide_eq_true_iff]
 omega
def zmt (ws:List Nat) (i k:Nat):Bool:=(ws[i]?.getD 0).testBit k
theorem z134 {n:Nat} {ws:List Nat} (hl:ws.length=n) {m:z0c} (h2:Two n m) {f:Nat→Nat→Bool} (hf:∀ i k,i<n→k<5→zmt ws i k=f i k):(metM ws m).length=n∧∀ i k,i<n→k<5→zmt (metM ws m) i k=zdy f m i k:=by
 refine ⟨by unfold metM; simp [hl], fun i k hi hk=>?_⟩
 obtain ⟨⟨a1,a2⟩,⟨b1,b2⟩,h3⟩:=h2
 have ha:m.A.toNat<n:=by omega
 have hb:m.B.toNat<n:=by omega
 have fa:=hf _ k ha hk
 have fb:=hf _ k hb hk
 have fi:=hf i k hi hk
 unfold zmt at fa fb fi ⊢
 unfold metM zdy
 have ei:∀ w:List Nat,w.length=n→w[i]?.getD 0=(w[i]?.getD 0):=fun _ _=>rfl
 rw [List.getElem?_set,List.getElem?_set]
 simp only [List.length_set,hl]
 by_cases e1:m.B.toNat=i
 ·
  rw [if_pos e1,if_pos (by omega),if_pos (by omega)]
  show (_ ||| _:Nat).testBit k=_
  rw [Nat.testBit_or,fa,fb]
 ·
  rw [if_neg e1]
  by_cases e2:m.A.toNat=i
  ·
   rw [if_pos e2,if_pos (by omega),if_pos (by omega)]
   show (_ ||| _:Nat).testBit k=_
   rw [Nat.testBit_or,fa,fb]
  ·
   rw [if_neg e2,if_neg (by omega)]
   exact fi
theorem zot {n:Nat}:∀ (ms:List z0c) (ws:List Nat) (f:Nat→Nat→Bool),ws.length=n→(∀ m∈ms,Two n m)→(∀ i k,i<n→k<5→zmt ws i k=f i k)→∀ i k,i<n→k<5→zmt (zop ws ms) i k=ms.foldl zdy f i k
 | [],ws,f,hl,h2,hf,i,k,hi,hk=>hf i k hi hk
 | m::ms,ws,f,hl,h2,hf,i,k,hi,hk=>by
  obtain ⟨h3,h4⟩:=z134 hl (h2 m (by simp)) hf
  show zmt (zop (metM ws m) ms) i k=ms.foldl zdy (zdy f m) i k
  exact zot ms (metM ws m) (zdy f m) h3 (fun m' hm'=>h2 m' (by simp [hm'])) h4 i k hi hk
theorem zlv {n:Nat}:∀ (ms:List z0c) (f g:Nat→Nat→Bool),(∀ m∈ms,Two n m)→(∀ i k,i<n→k<5→f i k=g i k)→∀ i k,i<n→k<5→ms.foldl zdy f i k=ms.foldl zdy g i k
 | [],f,g,h2,hf,i,k,hi,hk=>hf i k hi hk
 | m::ms,f,g,h2,hf,i,k,hi,hk=>by
  refine zlv ms (zdy f m) (zdy g m) (fun m' hm'=>h2 m' (by simp [hm'])) (fun i k hi hk=>?_) i k hi hk
  obtain ⟨⟨a1,a2⟩,⟨b1,b2⟩,h3⟩:=h2 m (by simp)
  unfold zdy
  rw [hf m.A.toNat k (by omega) hk,hf m.B.toNat k (by omega) hk,hf i k hi hk]
theorem zry (n:Nat) (hn:n≤5) (ms:List z0c) (hl:ms.length≤100) (h2:∀ m∈ms,Two n m):z6k (n:Int) ms=some ((List.range n).map fun i=>z91 (zmt (zop (ws0 n) ms) i) n,0):=by
 obtain ⟨h,i1,i2⟩:=zxy
 have p:=znn (n:Int) (by omega) ms (by omega) ms [] h rfl
 simp only [List.length_nil] at p
 have hg:ms.all (zfe (n:Int))=true:=by
  rw [List.all_eq_true]; intro m hm; exact z11u.2 (h2 m hm)
 obtain ⟨h',q1,q2⟩:=p.1 hg
 rw [show ((0:Nat):Int)=0 from rfl] at q1
 have e1:z6k (n:Int) ms=some ((List.range n).map fun i=>z91 (hb h' i) n,0):=by
  unfold z6k
  rw [if_neg (by simp),if_neg (by simp <;> omega),if_neg (by simp <;> omega),i1]
  simp only [bS]
  rw [q1]
  simp only [zpt]
  rw [zzo n hn h']; rfl
 rw [e1]
 have e3:((List.range n).map fun i=>z91 (hb h' i) n)=(List.range n).map fun i=>z91 (zmt (zop (ws0 n) ms) i) n:=by
  refine List.map_congr_left fun i hi=>?_
  have hi:i<n:=by simpa using hi
  refine zs6 fun c hc=>?_
  rw [q2 i c (by omega),zot ms (ws0 n) (fun i k=>decide (i=k)) (by simp [ws0]) h2 (fun i k hi hk=>by
   unfold zmt ws0
   rw [List.getElem?_map,List.getElem?_range hi]
   simp [Nat.testBit_two_pow]) i c hi (by omega)]
  exact zlv ms _ _ h2 (fun i k hi hk=>i2 i k (by omega) hk) i c hi (by omega)
 rw [e3]
end
section
open Go
variable {g a b:z00} {n:Nat} {l k:List z00} {m:z0c} {x:ID} {o:z04}
theorem z13s (R:Rps l) (ms:List z0c) (hl:ms.length≤100) (h:zdq l ms=.inr k):zam l ms=some (k,0):=by
 have p:=zuc ms (by omega) ms [] l rfl R
 rw [h] at p
 have p:iter (z8g ms) (l,0)=some (.inr k):=p
 unfold zam
 rw [R.chk.1]
 simp only [bS]
 rw [if_neg (by simp),if_neg (by simp; omega),zoo l (by have:=R.len; omega) R.f900]
 simp only [bS]
 rw [p]
 rfl
theorem stay {n:Nat}:∀ (ms:List z0c) (f:Nat→Nat→Bool) (i c:Nat),(∀ m∈ms,Two n m)→f i c=true→ms.foldl zdy f i c=true
 | [],f,i,c,_,h=>h
 | m::ms,f,i,c,h2,h=>by
  refine stay ms (zdy f m) i c (fun m' hm'=>h2 m' (by simp [hm'])) ?_
  obtain ⟨⟨a1,a2⟩,⟨b1,b2⟩,h3⟩:=h2 m (by simp)
  unfold zdy
  split
  ·
   rename_i e
   rcases e with e | e
   ·
    have:m.A.toNat=i:=by omega
    rw [this,h]; rfl
   ·
    have:m.B.toNat=i:=by omega
    rw [this,h]; simp
  ·
   exact h
theorem z151 {n:Nat} (hn:n≤5) (ms:List z0c) (h2:∀ m∈ms,Two n m) {i:Nat} (hi:i<n):zmt (zop (ws0 n) ms) i i=true:=by
 rw [zot ms (ws0 n) (fun i k=>decide (i=k)) (by simp [ws0]) h2 (fun i k hi hk=>by
   unfold zmt ws0
   rw [List.getElem?_map,List.getElem?_range hi]
   simp [Nat.testBit_two_pow]) i i hi (by omega)]
 exact stay ms _ i i h2 (by simp)
def hrdG (l:List z00) (f:Nat→Bool) (n:Nat):List z00:=((List.range n).filter f).map fun c=>l[c]?.getD ⟨[],[]⟩
theorem zp1 {f:Nat→Bool}:g∈hrdG l f l.length↔∃ c,∃ h:c<l.length,f c=true∧g=l[c]:=by
 unfold hrdG
 rw [List.mem_map]
 constructor
 ·
  rintro ⟨c,hc,rfl⟩
  rw [List.mem_filter] at hc
  have hcl:c<l.length:=by simpa using hc.1
  exact ⟨c,hcl,hc.2, by rw [List.getElem?_eq_getElem hcl]; rfl⟩
 ·
  rintro ⟨c,hcl,hc,rfl⟩
  exact ⟨c,List.mem_filter.2 ⟨by simpa using hcl,hc⟩, by rw [List.getElem?_eq_getElem hcl]; rfl⟩
theorem zv5 (R:Rps l) (f:Nat→Bool):Rps (hrdG l f l.length):=by
 have hsub:∀ g∈hrdG l f l.length,g∈l:=fun g hg=>by
  obtain ⟨c,hc,-,rfl⟩:=zp1.1 hg
  exact List.getElem_mem hc
 refine ⟨?_, fun g hg=>R.rp g (hsub g hg), fun g hg h hh=>R.ag g (hsub g hg) h (hsub h hh)⟩
 unfold hrdG
 rw [List.length_map]
 exact Nat.le_trans (List.length_filter_le _ _) (by rw [List.length_range]; exact R.len)
theorem zvo (R:Rps l) {w:Nat} (F:Fit g n) (H:Has l w g):z51 (hrdG l w.testBit l.length)=g:=by
 have Rh:=zv5 R w.testBit
 refine zfz (zbg Rh) F fun x=>optE fun o=>?_
 rw [zay Rh,zon Rh,H]
 constructor
 ·
  rintro ⟨h,hh,ho⟩
  obtain ⟨c,hc,h1,rfl⟩:=zp1.1 hh
  exact ⟨c,hc,h1,ho⟩
 ·
  rintro ⟨c,hc,h1,ho⟩
  exact ⟨l[c],zp1.2 ⟨c,hc,h1,rfl⟩,ho⟩
structure HrdF (l:List z00) (ms:List z0c) (e:List z00) (ws:List Nat):Prop where
 run:zam l ms=some (e,0)
 rps:Rps e
 len:e.length=l.length
 whole:z51 e=z51 l
 heard:z6k (l.length:Int) ms=some ((List.range l.length).map fun i=>z91 (zmt ws i) l.length,0)
 want:∀ i (h:i<e.length),z51 (hrdG l (zmt ws i) l.length)=e[i]
 own:∀ i,i<l.length→zmt ws i i=true
 keep:∀ i (h:i<l.length) (h2:i<e.length),∀ x∈l[i].IDs,x∈e[i].IDs
theorem zt0 (R:Rps l) (hw:(z51 l).Ops.length≤60) (ms:List z0c) (hl:ms.length≤100) (h2:∀ m∈ms,Two l.length m):∃ e ws,HrdF l ms e ws:=by
 obtain ⟨e,p1,p2,p3,p4,p5⟩:=zp7 ms l R hw h2
 have H:=zmw R p1 (has0 l)
 refine ⟨e,zop (ws0 l.length) ms,z13s R ms hl p1,p2,p3,zgl R p2 p4,zry l.length R.len ms hl h2, fun i hi=>?_, fun i hi=>z151 R.len ms h2 hi, fun i hi hi2 x hx=>?_⟩
 ·
  have hiw:i<(zop (ws0 l.length) ms).length:=by rw [H.1]; exact hi
  have Hi:=H.2 i hiw hi
  have:=zvo R (p2.rp _ (List.getElem_mem hi)).fit Hi
  have eb:zmt (zop (ws0 l.length) ms) i=((zop (ws0 l.length) ms)[i]).testBit:=by
   funext c
   unfold zmt
   rw [List.getElem?_eq_getElem hiw]; rfl
  rw [eb]; exact this
 ·
  obtain ⟨o,ho⟩:=z5m (R.rp _ (List.getElem_mem hi)).fit hx
  exact (z6d (p5 i hi hi2 x o ho)).1
end
section
open Go
variable {g:z00} {l k:List z00} {x:ID} {o:z04}
def sg (ds:List Rn):List z00:=ds.map fun d=>grR [d]
theorem zmc (ds:List Rn):(sg ds).length=ds.length:=by unfold sg; rw [List.length_map]
theorem zlh {ds:List Rn} (h:Mk ds) {d:Rn} (hd:d∈ds):Mk [d]:=⟨fun e he=>by rw [List.mem_singleton] at he; rw [he]; exact h.chk d hd, by simp, by simp⟩
theorem zty (ds:List Rn):(ds.map fun d=>[d]).flatten=ds:=by
 induction ds with
 | nil=>rfl
 | cons d t ih=>rw [List.map_cons,List.flatten_cons,ih]; rfl
theorem zs4 {ds:List Rn} (h:Mk ds) (h5:ds.length≤5):Rps (sg ds)∧(z51 (sg ds)).Ops.length=ds.length:=by
 have:=z14o (ms:=ds.map fun d=>[d]) (by rw [List.length_map]; exact h5) (fun m hm=>by
  obtain ⟨d,hd,rfl⟩:=List.mem_map.1 hm
  exact zlh h hd) (by rw [zty]; exact h.nd)
 rw [List.map_map,zty] at this
 exact this
theorem z148 {ds:List Rn} (h:Mk ds) (i:Nat) (hi:i<(sg ds).length) (hi2:i<(ds.map rid).length):∃ o,∀ x q,z1p (sg ds)[i] x=some q↔x=(ds.map rid)[i]∧q=o:=by
 have hd:i<ds.length:=by rw [zmc] at hi; exact hi
 have e:(sg ds)[i]=grR [ds[i]]:=by simp [sg]
 obtain ⟨-,-,hlk⟩:=zk8 (zlh h (List.getElem_mem hd))
 refine ⟨rop ds[i], fun x q=>?_⟩
 rw [e,hlk,List.getElem_map]
 constructor
 ·
  rintro ⟨d,h1,h2,h3⟩
  rw [List.mem_singleton] at h1
  subst h1
  exact ⟨h2.symm,h3⟩
 ·
  rintro ⟨rfl,rfl⟩
  exact ⟨ds[i], by simp,rfl,rfl⟩
def pop (w n:Nat):Nat:=((List.range n).filter fun c=>w.testBit c).length
theorem z13x {ds:List Rn} (h:Mk ds) (h5:ds.length≤5) (ms:List z0c) (h2:∀ m∈ms,Two ds.length m):∃ e,zdq (sg ds) ms=.inr e∧Rps e∧e.length=ds.length∧z51 e=z51 (sg ds)∧∀ i (hi:i<e.length),e[i].IDs.length=pop ((zop (ws0 ds.length) ms)[i]?.getD 0) ds.length:=by
 obtain ⟨R,hw⟩:=zs4 h h5
 obtain ⟨e,p1,p2,p3,p4,p5⟩:=zp7 ms (sg ds) R (by omega) fun m hm=>by rw [zmc]; exact h2 m hm
 have H:=zmw R p1 (has0 (sg ds))
 rw [zmc] at H p3
 refine ⟨e,p1,p2,p3,zgl R p2 p4, fun i hi=>?_⟩
 have hiw:i<(zop (ws0 ds.length) ms).length:=by rw [H.1]; exact hi
 have:=z149 (ds.map rid) h.nd (l0:=sg ds) (by rw [zmc,List.length_map]) (fun i hi hi2=>z148 h i hi hi2) (p2.rp _ (List.getElem_mem hi)).fit (H.2 i hiw hi)
 rw [this,List.getElem?_eq_getElem hiw,List.length_map]
 rfl
theorem z17j {ds es:List Rn} (h:Mk ds) (hs:List.Sublist es ds):Mk es:=⟨fun d hd=>h.chk d (hs.subset hd),List.Nodup.sublist (hs.map _) h.nd,Nat.le_trans hs.length_le h.len⟩
theorem mk_a:Mk aR:=by
 refine ⟨fun d hd=>List.all_eq_true.1 z16b d hd,?_, by decide⟩
 have e:(fun d:Rn=>num8 d.h3)=fun d=>(zmy (rid d) 8).toNat:=funext fun d=>(zt8 d.h3).symm
 have h:=z19a
 rw [e] at h
 exact z18u (f:=rid) (k:=fun i=>(zmy i 8).toNat) h
theorem zuy {l:List z00} {i j:Nat} (hi:i<l.length) (hj:j<l.length) (h:l[i].IDs≠l[j].IDs):¬ z8x l:=fun a=>h (a _ (List.getElem_mem hi) _ (List.getElem_mem hj))
theorem z18z {ds:List Rn} (h:Mk ds) {i j:Nat} (hi:i<ds.length) (hj:j<ds.length) (hij:i≠j) (hi':i<(sg ds).length) (hj':j<(sg ds).length):(sg ds)[i].IDs≠(sg ds)[j].IDs:=fun e=>by
 obtain ⟨o,ho⟩:=z148 h i hi' (by rw [List.length_map]; exact hi)
 obtain ⟨q,hq⟩:=z148 h j hj' (by rw [List.length_map]; exact hj)
 have h1:=(ho _ _).2 ⟨rfl,rfl⟩
 have h2:=(z6d h1).1
 rw [e] at h2
 have F:=((zs4 (ds:=[ds[j]]) (zlh h (List.getElem_mem hj)) (by simp)).1.rp (grR [ds[j]]) (by simp [sg])).fit
 have e2:(sg ds)[j]=grR [ds[j]]:=by simp [sg]
 rw [e2] at h2 hq
 obtain ⟨r,hr⟩:=z5m F h2
 have:=((hq _ _).1 hr).1
 exact hij ((List.getElem_inj h.nd).1 this)
end
section
open Go
variable {g:z00} {l k:List z00}
theorem zod (L:List (List Int)) (hl:L.length≤100) (h:∀ s∈L,s.length≤100):z7j L L=some true:=by
 have main:=z1v (F:=z4h L L) (b:=(.inr ():Sum Bool Unit)) L.length (fun i=>(i:Int)) (fun i hi=>?_) ?_
 ·
  have main:iter (z4h L L) 0=some (.inr ()):=main
  unfold z7j
  rw [if_neg (by simp),main]
  rfl
 ·
  have hs:=h _ (List.getElem_mem hi)
  have inner:iter (z4f L L (i:Int)) 0=some (.inr ()):=by
   refine z1v (F:=z4f L L (i:Int)) L[i].length (fun c=>(c:Int)) (fun c hc=>?_) ?_
   ·
    unfold z4f
    simp only [z0d hi,bS]
    rw [if_pos (by simpa using hc)]
    simp only [z0d hc,bS]
    rw [if_neg (by simp),z0k (by omega)]
   ·
    unfold z4f
    simp only [z0d hi,bS]
    rw [if_neg (by simp)]
  unfold z4h
  rw [if_pos (by simpa using hi)]
  simp only [z0d hi,bS]
  rw [if_neg (by simp),inner,z0k (by omega)]
  rfl
 ·
  unfold z4h
  rw [if_neg (by simp)]
theorem z15e (e:List z00) (w:List Nat) (hl:e.length≤100) (h1:e.length=w.length) (h:∀ i (hi:i<e.length) (h2:i<w.length),e[i].IDs.length=w[i]):z3l e (w.map fun n:Nat=>(n:Int))=some true:=by
 have main:=z1v (F:=z6g e (w.map fun n:Nat=>(n:Int))) (b:=(.inr ():Sum Bool Unit)) e.length (fun i=>(i:Int)) (fun i hi=>?_) ?_
 ·
  have main:iter (z6g e (w.map fun n:Nat=>(n:Int))) 0=some (.inr ()):=main
  unfold z3l
  rw [if_neg (by simp [h1]),main]
  rfl
 ·
  have hw:i<w.length:=by omega
  have hwm:i<(w.map fun n:Nat=>(n:Int)).length:=by rw [List.length_map]; exact hw
  unfold z6g
  rw [if_pos (by simpa using hi)]
  simp only [z0d hi,z0d hwm,bS]
  rw [List.getElem_map,h i hi hw,if_neg (by simp),z0k (by omega)]
 ·
  unfold z6g
  rw [if_neg (by simp)]
theorem zvg {ds:List Rn} (h:Mk ds):z38 (ds.map fun d=>UInt64.ofNat d.n)=some (grR ds,true):=by
 have hl:=h.len
 have main:=z1v (F:=z78 (ds.map fun d=>UInt64.ofNat d.n)) (b:=(.inr (ds.map rop):Sum (z00 × Bool) (List z04))) ds.length (fun i=>((ds.take i).map rop,(i:Int))) (fun i hi=>?_) ?_
 ·
  have main:iter (z78 (ds.map fun d=>UInt64.ofNat d.n)) ([],0)=some (.inr (ds.map rop)):=main
  obtain ⟨R,h1,-⟩:=zk8 h
  unfold z38
  rw [main]
  simp only [zpt]
  rw [of_r h]
  simp only [bS]
  rw [if_pos (by simp),R.fit.ids,h1,List.length_map]
  simp
 ·
  have hm:i<(ds.map fun d=>UInt64.ofNat d.n).length:=by rw [List.length_map]; exact hi
  unfold z78
  rw [if_pos (by simpa using hi)]
  simp only [z0d hm,bS]
  rw [List.getElem_map,(zui (h.chk _ (List.getElem_mem hi))).1]
  simp only [bS]
  rw [if_neg (by simp),z1q (by simp; omega),z0k (by omega)]
  simp only [bS]
  rw [List.take_add_one,List.getElem?_eq_getElem hi,List.map_append]
  rfl
 ·
  unfold z78
  rw [if_neg (by simp),List.take_length]
def e1:Rn:=aR[0]'(by decide)
def e2:Rn:=aR[1]'(by decide)
def e3:Rn:=aR[2]'(by decide)
def e4:Rn:=aR[3]'(by decide)
theorem z10t:aR=[e1,e2,e3,e4]:=rfl
theorem m123:Mk [e1,e2,e3]:=z17j mk_a (by rw [z10t]; exact List.sublist_append_left [e1,e2,e3] [e4])
theorem one1:z38 [1]=some (grR [e1],true):=by
 have h:=zvg (zlh mk_a (d:=e1) (by rw [z10t]; simp))
 exact h
theorem one2:z38 [2]=some (grR [e2],true):=by
 have h:=zvg (zlh mk_a (d:=e2) (by rw [z10t]; simp))
 exact h
theorem one3:z38 [3]=some (grR [e3],true):=by
 have h:=zvg (zlh mk_a (d:=e3) (by rw [z10t]; simp))
 exact h
theorem one4:z38 [4]=some (grR [e4],true):=by
 have h:=zvg (zlh mk_a (d:=e4) (by rw [z10t]; simp))
 exact h
theorem z12c:z9f=some (sg [e1,e2,e3],true):=by
 unfold z9f
 rw [one1,one2,one3]
 rfl
theorem zts {ds:List Rn} (h:Mk ds) (h5:ds.length≤5) (ms:List z0c) (h2:∀ m∈ms,Two ds.length m) (w:List Nat) (hw:w.length=ds.length) (hp:∀ i,i<w.length→w[i]?.getD 0=pop ((zop (ws0 ds.length) ms)[i]?.getD 0) ds.length):∃ e,zdq (sg ds) ms=.inr e∧Rps e∧e.length=ds.length∧z3l e (w.map fun n:Nat=>(n:Int))=some true∧∀ i (hi:i<e.length),e[i].IDs.length=pop ((zop (ws0 ds.length) ms)[i]?.getD 0) ds.length:=by
 obtain ⟨e,p1,p2,p3,-,p5⟩:=z13x h h5 ms h2
 refine ⟨e,p1,p2,p3,z15e e w (by omega) (by omega) fun i hi hi2=>?_,p5⟩
 have:=hp i hi2
 rw [List.getElem?_eq_getElem hi2] at this
 rw [p5 i hi]
 exact this.symm
theorem zrr:z9g=some true:=by
 have R3:=(zs4 m123 (by decide)).1
 have R4:=(zs4 mk_a (by decide)).1
 obtain ⟨a,a1,a2,a3,a4,-⟩:=zts m123 (by decide) [⟨0,1⟩,⟨1,2⟩] (by decide) [2,3,3] rfl (by decide)
 have a4:z3l a [2,3,3]=some true:=a4
 have hr:=z13s R3 [⟨0,1⟩,⟨1,2⟩] (by decide) a1
 have hh:=zry 3 (by omega) [⟨0,1⟩,⟨1,2⟩] (by decide) (by decide)
 have hv:((List.range 3).map fun i=>z91 (zmt (zop (ws0 3) [⟨0,1⟩,⟨1,2⟩]) i) 3)=[[0,1],[0,1,2],[0,1,2]]:=by decide
 rw [hv] at hh
 have hh:z6k 3 [⟨0,1⟩,⟨1,2⟩]=some ([[0,1],[0,1,2],[0,1,2]],0):=hh
 obtain ⟨b,b1,b2,b3,b4,-⟩:=zts m123 (by decide) (z8a 3) (zid 3) [3,3,3] rfl (by decide)
 have b4:z3l b [3,3,3]=some true:=b4
 have hb:zri 1 (sg [e1,e2,e3])=.inr b:=by
  have b1:zdq (sg [e1,e2,e3]) (z8a (sg [e1,e2,e3]).length)=.inr b:=b1
  simp only [zri]
  rw [b1]
 have rb:=zy7 R3 1 (by omega) hb
 obtain ⟨c,c1,c2,c3,c4,c5⟩:=zts mk_a (by decide) (z8a 4) (zid 4) [4,3,4,4] rfl (by decide)
 have c4:z3l c [4,3,4,4]=some true:=c4
 have c1:zdq (sg aR) (z8a (sg aR).length)=.inr c:=c1
 have hc:zri 1 (sg aR)=.inr c:=by
  simp only [zri]
  rw [c1]
 have rc:=zy7 R4 1 (by omega) hc
 obtain ⟨d,d1,-,-,-⟩:=zz5 c2 (by
  obtain ⟨e,p1,p2,p3,p4,-⟩:=z13x mk_a (by decide) (z8a 4) (zid 4)
  have:zdq (sg aR) (z8a 4)=.inr c:=c1
  rw [this] at p1
  injection p1 with p1
  subst p1
  rw [p4,(zs4 mk_a (by decide)).2]; decide)
 have n0:¬ z8x (sg aR):=zuy (i:=0) (j:=1) (by rw [zmc]; decide) (by rw [zmc]; decide) (z18z mk_a (i:=0) (j:=1) (by decide) (by decide) (by decide) _ _)
 have hc4:c.length=4:=c3
 have n1:¬ z8x c:=zuy (i:=0) (j:=1) (by omega) (by omega) fun e=>by
  have h1:=c5 0 (by omega)
  have h2:=c5 1 (by omega)
  have e:=congrArg List.length e
  rw [h1,h2] at e
  exact absurd e (by decide)
 have rr:=z10b R4 c1 d1
 rw [if_neg n0,if_neg n1] at rr
 have ap:app 48 (sg [e1,e2,e3]) [grR [e4]]=some (sg aR):=by
  rw [z1q (by simp [zmc])]
  rfl
 unfold z9g
 rw [z12c]
 simp only [bS]
 rw [hr,hh]
 simp only [bS]
 have rb:z9q (sg [e1,e2,e3]) 1=some (b,0):=rb
 have rc:z9q (sg aR) 1=some (c,0):=rc
 rw [rb,one4]
 simp only [bS]
 rw [ap]
 simp only [bS]
 rw [rc,rr]
 simp only [bS,if_true]
 rw [if_pos (by simp),a4]
 simp only [bS,if_true]
 rw [if_pos (by simp),zod _ (by decide) (by decide)]
 simp only [bS,if_true]
 rw [if_pos (by simp),b4]
 simp only [bS,if_true]
 rw [if_pos (by simp),c4]
 rfl
end
section
open Go
variable {g:z00} {l k:List z00}
def zsa (f:Nat→Bool) (n:Nat):List Nat:=(List.range n).filter f
theorem z15n {f:Nat→Bool} {n i:Nat} (h:i<(zsa f n).length):(zsa f n)[i]<n∧f (zsa f n)[i]=true:=by
 have:=List.getElem_mem h
 generalize (zsa f n)[i]=x at this
 unfold zsa at this
 rw [List.mem_filter] at this
 exact ⟨by simpa using this.1,this.2⟩
theorem z12w {f:Nat→Bool} {n i j:Nat} (hj:j<(zsa f n).length) (hij:i<j):(zsa f n)[i]'(by omega)<(zsa f n)[j]:=by
 have h:(zsa f n).Pairwise (· < ·):=List.Pairwise.sublist List.filter_sublist List.pairwise_lt_range
 exact List.pairwise_iff_getElem.1 h i j (by omega) hj hij
theorem z14a {f:Nat→Bool} {n c:Nat} (hc:c<n) (h:f c=true):c∈zsa f n:=List.mem_filter.2 ⟨by simpa using hc,h⟩
def zqf (l:List z00) (r:List Nat):List z00:=r.map fun c=>l[c]?.getD ⟨[],[]⟩
theorem z10x (hl:l.length≤5) {rows:List (List Int)} {i:Nat} (hi:i<rows.length) (f:Nat→Bool) (hr:rows[i]=(zsa f l.length).map fun c:Nat=>(c:Int)) (ho:i<l.length) (hf:f i=true):iter (z3n l (rows,0) (i:Int)) ([],false,0)=some (.inr (zqf l (zsa f l.length),true)):=by
 obtain ⟨r,hrr⟩:∃ r,r=zsa f l.length:=⟨_,rfl⟩
 have hrl:r.length≤5:=by rw [hrr]; unfold zsa; exact Nat.le_trans (List.length_filter_le _ _) (by rw [List.length_range]; exact hl)
 have e1:idx rows (i:Int)=some (r.map fun c:Nat=>(c:Int)):=by rw [z0d hi,hr,hrr]
 have hown:i∈r:=by rw [hrr]; exact z14a ho hf
 rw [← hrr]
 have main:=z1v (F:=z3n l (rows,0) (i:Int)) (b:=(.inr (zqf l r,true):Sum (Sum (Sum Bool Unit) Int) ((List z00) × Bool))) r.length (fun c=>(zqf l (r.take c),decide (i∈r.take c),(c:Int))) (fun c hc=>?_) ?_
 ·
  exact main
 ·
  have hcm:c<(r.map fun c:Nat=>(c:Int)).length:=by rw [List.length_map]; exact hc
  have hlt:r[c]<l.length:=by subst hrr; exact (z15n hc).1
  unfold z3n
  simp only [e1,bS]
  rw [if_pos (by simpa using hc)]
  simp only [z0d hcm,bS,List.getElem_map]
  have hmid:∀ {α:Type} (z:Sum α Unit) (F:Unit→Option α),z3g (if decide ((r[c]:Int)<0)=true then some z else if decide ((l.length:Int)≤(r[c]:Int))=true then some z else if decide (0<(c:Int))=true then idx (r.map fun c:Nat=>(c:Int)) (w64 ((c:Int) - 1)) >>= fun x58=>if decide ((r[c]:Int)≤x58)=true then some z else some (.inr ()) else some (.inr ())) F=F ():=fun z F=>by
   rw [if_neg (by simp),if_neg (by simp; omega)]
   by_cases h0:0<c
   ·
    have hp:c - 1<(r.map fun c:Nat=>(c:Int)).length:=by rw [List.length_map]; omega
    have hin:r[c - 1]'(by omega)<r[c]:=by subst hrr; exact z12w hc (by omega)
    rw [if_pos (by simpa using h0),z14 (by omega) (by omega), show ((c:Int) - 1)=((c - 1:Nat):Int) by omega,z0d hp]
    simp only [bS,List.getElem_map]
    rw [if_neg (by simp; omega)]
    rfl
   ·
    rw [if_neg (by simpa using h0)]
    rfl
  rw [hmid]
  have hix:idx l (r[c]:Int)=some l[r[c]]:=z0d hlt
  rw [hix]
  simp only [bS]
  rw [z1q (by simp [zqf]; omega)]
  simp only [bS]
  have ht:r.take (c+1)=r.take c++[r[c]]:=by rw [List.take_add_one,List.getElem?_eq_getElem hc]; rfl
  have ep:zqf l (r.take (c+1))=zqf l (r.take c)++[l[r[c]]]:=by
   unfold zqf
   rw [ht,List.map_append,List.map_cons,List.map_nil,List.getElem?_eq_getElem hlt]
   rfl
  rw [ep,ht]
  by_cases hm:i∈r.take c
  ·
   rw [decide_eq_true hm,if_pos rfl,z0k (by omega)]
   try simp only [bS]
   rw [decide_eq_true (List.mem_append_left _ hm)]
  ·
   rw [decide_eq_false hm,if_neg (by simp),z0k (by omega)]
   try simp only [bS]
   have e:((r[c]:Int)==(i:Int))=decide (i∈r.take c++[r[c]]):=by
    rw [Bool.eq_iff_iff,decide_eq_true_iff,List.mem_append,List.mem_singleton,beq_iff_eq]
    constructor
    ·
     intro h; exact .inr (by omega)
    ·
     rintro (h | h)
     ·
      exact absurd h hm
     ·
      omega
   rw [e]
 ·
  unfold z3n
  simp only [e1,bS]
  rw [if_neg (by simp),List.take_length,decide_eq_true hown]
theorem zsk (a0:List z00) (a1:List z0c) (w0:(∀ x∈a0,z4u x)∧a0.length≤9223372036854775807) (w1:(∀ x∈a1,zi0 x)∧a1.length≤9223372036854775807):z7u a0 a1=some true:=by
 obtain ⟨b,b1,b2⟩:=z144 a0
 unfold z7u zdj
 rw [zrr]
 simp only [bS]
 rw [b1]
 simp only [bS]
 cases b with
 | true=>rfl
 | false =>
 obtain ⟨hl,hs⟩:=b2 rfl
 obtain ⟨c,c1,c2,c3⟩:=zyj (l:=a0) (by omega) w0.1 hs
 rw [if_pos (by simp),c2]
 simp only [bS]
 by_cases h:c=0
 ·
  have R:=c3 h
  rw [if_neg (by simp [h])]
  by_cases h30:30<a1.length
  ·
   rw [if_pos (by simp; omega)]
   rfl
  ·
   rw [if_neg (by simp; omega)]
   simp only [bS,Bool.not_true,Bool.false_eq_true,if_false]
   have lp:∀ d i,a1.length - i=d→i≤a1.length→(∀ m∈a1.take i,Two a0.length m)→∃ r,iter (z2a a0 a1 true) (i:Int)=some r∧(r=.inl true∨(r=.inr ()∧∀ m∈a1,Two a0.length m)):=by
    intro d
    induction d with
    | zero =>
     intro i hd hi ha
     have:i=a1.length:=by omega
     subst this
     rw [List.take_length] at ha
     exact ⟨.inr (),z12 (by unfold z2a; rw [if_neg (by simp)]),.inr ⟨rfl,ha⟩⟩
    | succ d ih =>
     intro i hd hi ha
     have hlt:i<a1.length:=by omega
     by_cases h2:Two a0.length a1[i]
     ·
      have hF:z2a a0 a1 true (i:Int)=some (.inr ((i+1:Nat):Int)):=by
       unfold z2a
       rw [if_pos (by simpa using hlt)]
       simp only [z0d hlt,bS]
       rw [zzb,decide_eq_true h2,z0k (by omega)]
       rfl
      rw [z1b hF]
      refine ih (i+1) (by omega) (by omega) fun m hm=>?_
      rw [List.take_add_one,List.getElem?_eq_getElem hlt] at hm
      rcases List.mem_append.1 hm with hm | hm
      ·
       exact ha m hm
      ·
       have:m=a1[i]:=by simpa using hm
       rw [this]; exact h2
     ·
      refine ⟨.inl true,z12 ?_,.inl rfl⟩
      unfold z2a
      rw [if_pos (by simpa using hlt)]
      simp only [z0d hlt,bS]
      rw [zzb,decide_eq_false h2]
      rfl
   obtain ⟨r,r1,r2⟩:=lp _ 0 rfl (Nat.zero_le _) (fun m hm=>by simp at hm)
   have r1:iter (z2a a0 a1 true) 0=some r:=r1
   rw [r1]
   rcases r2 with rfl | ⟨rfl,h2⟩
   ·
    rfl
   ·
    simp only [zpt]
    rw [zm5 R]
    simp only [bS]
    by_cases h6:60<(z51 a0).Ops.length
    ·
     have e:zli a0=(⟨[],[]⟩,4):=if_pos h6
     rw [e]
     rfl
    ·
     have e:zli a0=(z51 a0,0):=if_neg h6
     rw [e,if_neg (by simp)]
     obtain ⟨en,ws,H⟩:=zt0 R (by omega) a1 (by omega) h2
     have FW:=((zbg R).le60 (by omega)).small (by omega)
     have hl5:=R.len
     have we:z4q en=some (z51 a0,0):=by
      rw [zm5 H.rps]
      unfold zli
      rw [H.whole,if_neg h6]
     obtain ⟨rows,hrows⟩:∃ rows,rows=(List.range a0.length).map fun i=>z91 (zmt ws i) a0.length:=⟨_,rfl⟩
     have hrl:rows.length=a0.length:=by rw [hrows]; simp
     have L2:iter (z3m a0 (en,0) (rows,0)) 0=some (.inr ()):=by
      have hlen:=H.len
      refine z1v (F:=z3m a0 (en,0) (rows,0)) en.length (fun i=>(i:Int)) (fun i hi=>?_) ?_
      ·
       have hi0:i<a0.length:=by omega
       have hir:i<rows.length:=by omega
       have er:rows[i]=(zsa (zmt ws i) a0.length).map fun c:Nat=>(c:Int):=by
        subst hrows
        rw [List.getElem_map,List.getElem_range]
        rfl
       have l4:=z10x hl5 hir (zmt ws i) er hi0 (H.own i hi0)
       have Rh:=zv5 R (zmt ws i)
       have hw:z4q (hrdG a0 (zmt ws i) a0.length)=some (en[i],0):=by
        have Fe:=(H.rps.rp _ (List.getElem_mem hi)).fit.len
        rw [zm5 Rh]
        unfold zli
        rw [H.want i hi,if_neg (by omega)]
       have hw:z4q (zqf a0 (zsa (zmt ws i) a0.length))=some (en[i],0):=hw
       have Re:=H.rps.rp _ (List.getElem_mem hi)
       have he1:=Re.fit.ids; have he2:=Re.fit.len
       have R0:=R.rp _ (List.getElem_mem hi0)
       have h01:=R0.fit.ids; have h02:=R0.fit.len
       have hall:(a0[i].IDs.all fun x=>decide (x∈en[i].IDs))=true:=by
        rw [List.all_eq_true]
        intro x hx
        simpa using H.keep i hi0 hi x hx
       unfold z3m
       rw [if_pos (by simpa using hi),l4]
       simp only [zpt]
       rw [hw]
       simp only [bS,Bool.not_true,Bool.false_eq_true,if_false]
       rw [if_neg (by simp)]
       simp only [z0d hi,z0d hi0,bS]
       rw [zrw (Re.fit.small (by omega))]
       simp only [bS,Bool.not_true,Bool.false_eq_true,if_false]
       rw [zxa _ _ (by omega) (by omega),hall,z0k (by omega)]
       rfl
      ·
       unfold z3m
       rw [if_neg (by simp)]
     have hh:=H.heard
     rw [← hrows] at hh
     rw [H.run,hh]
     simp only [bS]
     rw [we]
     simp only [bS]
     rw [if_neg (by simp),if_neg (by simp),if_neg (by simp [H.len]),if_neg (by simp [hrl]),if_neg (by simp),zrw FW]
     simp only [bS,Bool.not_true,Bool.false_eq_true,if_false]
     rw [L2]
     rfl
 ·
  rw [if_pos (by simp [h])]
  rfl
end
end Go.Proofs.YthimiiphpckifaaGreatDoor
