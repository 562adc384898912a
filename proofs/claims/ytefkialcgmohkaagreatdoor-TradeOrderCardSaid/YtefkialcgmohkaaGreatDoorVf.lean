import Derived.Test.YtefkialcgmohkaaGreatDoorVe
set_option linter.unusedSimpArgs false
set_option linter.unusedVariables false
namespace Go.Proofs.YtefkialcgmohkaaGreatDoor
section
open Go
variable {g:z00}
theorem zak (l:List ID) (x:ID) (hl:l.length≤1000):z1k l x=some (decide (x∈l)):=by
 have main:=z9z (F:=z34 l x) (fun s=>∃ i:Nat,s=(i:Int)∧i≤l.length∧∀ k (h:k<l.length),k<i→l[k]≠x) (fun s=>l.length - s.toNat)
  (fun b:Sum Int Unit=>(b=.inr ()∧x∉l)∨∃ i:Nat,b=.inl (i:Int)∧x∈l)
  (fun s hs=>by
   obtain ⟨i,rfl,h1,h2⟩:=hs
   by_cases hi:i<l.length
   ·
    have hF:z34 l x (i:Int)=if decide (x=l[i]) then some (.inl (.inl (i:Int))) else some (.inr ((i+1:Nat):Int)):=by
     unfold z34
     rw [if_pos (by simpa using hi),z0a hi,z0e (by omega)]
     simp only [bS]
    by_cases hc:x=l[i]
    ·
     rw [decide_eq_true hc,if_pos rfl] at hF
     exact .inl ⟨_,hF,.inr ⟨i,rfl,hc ▸ List.getElem_mem hi⟩⟩
    ·
     rw [decide_eq_false hc,if_neg (by simp)] at hF
     refine .inr ⟨_,hF,⟨i+1,rfl,hi, fun k hk hki=>?_⟩, by simp; omega⟩
     by_cases hk':k=i
     ·
      subst hk'; exact fun e=>hc e.symm
     ·
      exact h2 k hk (by omega)
   ·
    refine .inl ⟨.inr (),?_,.inl ⟨rfl, fun hx=>?_⟩⟩
    ·
     unfold z34
     rw [if_neg (by simpa using hi)]
    ·
     obtain ⟨k,hk,e⟩:=List.getElem_of_mem hx
     exact h2 k hk (by omega) e)
  0 ⟨0,rfl,Nat.zero_le _, fun k _ h=>by omega⟩
 obtain ⟨b,b1,b2⟩:=main
 unfold z1k z7a
 rw [b1]
 rcases b2 with ⟨rfl,h⟩ | ⟨i,rfl,h⟩
 ·
  rw [decide_eq_false h]; rfl
 ·
  rw [decide_eq_true h]
  simp only [or_l,bS]
  rw [decide_eq_true (by simp)]
theorem zub (l:List ID) (x:ID) (hl:l.length≤100000):z30 l x=some (decide (x∈l)):=by
 have main:=z9z (F:=z9n l x) (fun s=>∃ i:Nat,s=(i:Int)∧i≤l.length∧∀ k (h:k<l.length),k<i→l[k]≠x) (fun s=>l.length - s.toNat)
  (fun b:Sum Bool Unit=>(b=.inr ()∧x∉l)∨(b=.inl true∧x∈l))
  (fun s hs=>by
   obtain ⟨i,rfl,h1,h2⟩:=hs
   by_cases hi:i<l.length
   ·
    have hF:z9n l x (i:Int)=if decide (l[i]=x) then some (.inl (.inl true)) else some (.inr ((i+1:Nat):Int)):=by
     unfold z9n
     rw [if_pos (by simpa using hi),z0a hi,z0e (by omega)]
     simp only [bS]
    by_cases hc:l[i]=x
    ·
     rw [decide_eq_true hc,if_pos rfl] at hF
     exact .inl ⟨_,hF,.inr ⟨rfl,hc ▸ List.getElem_mem hi⟩⟩
    ·
     rw [decide_eq_false hc,if_neg (by simp)] at hF
     refine .inr ⟨_,hF,⟨i+1,rfl,hi, fun k hk hki=>?_⟩, by simp; omega⟩
     by_cases hk':k=i
     ·
      subst hk'; exact hc
     ·
      exact h2 k hk (by omega)
   ·
    refine .inl ⟨.inr (),?_,.inl ⟨rfl, fun hx=>?_⟩⟩
    ·
     unfold z9n
     rw [if_neg (by simpa using hi)]
    ·
     obtain ⟨k,hk,e⟩:=List.getElem_of_mem hx
     exact h2 k hk (by omega) e)
  0 ⟨0,rfl,Nat.zero_le _, fun k _ h=>by omega⟩
 obtain ⟨b,b1,b2⟩:=main
 unfold z30
 rw [b1]
 rcases b2 with ⟨rfl,h⟩ | ⟨rfl,h⟩
 ·
  rw [decide_eq_false h]; rfl
 ·
  rw [decide_eq_true h]; rfl
theorem z117:∀ a b:List UInt8,a.length=b.length→Op.bytesLess a b=decide (nk a<nk b)
 | [],[],_=>by simp [Op.bytesLess,nk]
 | [],_::_,h=>by simp at h
 | _::_,[],h=>by simp at h
 | a::x,b::y,h=>by
  have hl:x.length=y.length:=by simpa using h
  have ih:=z117 x y hl
  have lx:=z119 x
  have ly:=z119 y
  unfold Op.bytesLess
  rw [ih]
  simp only [nk,hl] at *
  have e:∀ u v:UInt8,u.toNat<v.toNat→u.toNat * 256 ^ y.length+256 ^ y.length≤v.toNat * 256 ^ y.length:=fun u v huv=>by
   have:=Nat.mul_le_mul_right (256 ^ y.length) (show u.toNat+1≤v.toNat from huv)
   rwa [Nat.add_mul,Nat.one_mul] at this
  by_cases h1:a<b
  ·
   have:=e a b (UInt8.lt_iff_toNat_lt.1 h1)
   rw [decide_eq_true h1,Bool.true_or,decide_eq_true (by omega)]
  ·
   by_cases h2:b<a
   ·
    have:=e b a (UInt8.lt_iff_toNat_lt.1 h2)
    have hne:(a==b)=false:=by
     rw [beq_eq_false_iff_ne]
     exact fun c=>by subst c; exact h1 h2
    rw [decide_eq_false h1,hne,Bool.false_and,Bool.or_false,decide_eq_false (by omega)]
   ·
    have h3:a=b:=UInt8.toNat_inj.1 (by rw [UInt8.lt_iff_toNat_lt] at h1 h2; omega)
    subst h3
    rw [decide_eq_false h1,Bool.false_or,beq_self_eq_true,Bool.true_and,decide_eq_decide]
    omega
theorem z12m (a b:ID):zdc a b=some (decide (kd a<kd b)):=by
 unfold zdc z191
 rw [z117 _ _ (by simp)]
 rfl
theorem z177 (s:List ID) (x:ID) (hl:s.length≤100000) (hs:z5k s=true):∃ t,zbk s x=some t∧z5k t=true∧∀ y,y∈t↔y∈s∨y=x:=by
 have main:=z9z (F:=z8s s x) (fun st=>∃ i:Nat,st=(i:Int)∧i≤s.length∧∀ j (h:j<s.length),j<i→kd s[j]<kd x) (fun st=>s.length - st.toNat)
  (fun r=>∃ k:Nat,r=(k:Int)∧k≤s.length∧(∀ i (h:i<s.length),i<k→kd s[i]<kd x)∧(∀ i (h:i<s.length),k≤i→kd x≤kd s[i]))
  (fun st hst=>by
   obtain ⟨i,rfl,h1,h2⟩:=hst
   by_cases hi':i<s.length
   ·
    have hF:z8s s x (i:Int)=if decide (kd s[i]<kd x) then some (.inr ((i+1:Nat):Int)) else some (.inl (i:Int)):=by
     unfold z8s
     rw [if_pos (by simpa using hi'),z0a hi',z0e (by omega)]
     simp only [bS]
     rw [z12m]
     simp only [bS]
    by_cases hc:kd s[i]<kd x
    ·
     rw [decide_eq_true hc,if_pos rfl] at hF
     refine .inr ⟨_,hF,⟨i+1,rfl,hi', fun j hj hji=>?_⟩, by simp; omega⟩
     by_cases hji':j=i
     ·
      subst hji'; exact hc
     ·
      exact h2 j hj (by omega)
    ·
     rw [decide_eq_false hc,if_neg (by simp)] at hF
     refine .inl ⟨_,hF,i,rfl,h1,h2, fun j hj hij=>?_⟩
     by_cases hji':j=i
     ·
      subst hji'; omega
     ·
      have:=zd9 hs hi' hj (by omega); omega
   ·
    refine .inl ⟨(i:Int),?_,i,rfl,h1,h2, fun j hj hij=>by omega⟩
    unfold z8s
    rw [if_neg (by simpa using hi')])
  0 ⟨0,rfl,Nat.zero_le _, fun j _ h=>by omega⟩
 obtain ⟨r,r1,k,rfl,k2,k3,k4⟩:=main
 have hmem:x∈s↔∃ h:k<s.length,s[k]=x:=by
  constructor
  ·
   intro hm
   obtain ⟨i,hi,e⟩:=List.getElem_of_mem hm
   by_cases hik:i<k
   ·
    have:=k3 i hi hik; rw [e] at this; omega
   ·
    by_cases hik':i=k
    ·
     subst hik'; exact ⟨hi,e⟩
    ·
     have hk:k<s.length:=by omega
     have:=zd9 hs hk hi (by omega)
     have:=k4 k hk (Nat.le_refl _)
     rw [e] at *; omega
  ·
   rintro ⟨h,e⟩; rw [← e]; exact List.getElem_mem h
 unfold zbk
 rw [r1]
 simp only [bS]
 have fresh:x∉s→(cut s 0 (k:Int) >>= fun x15=>app 32 ([]:List ID) x15 >>= fun x17=>app 32 x17 [x] >>= fun x19=>cut s (k:Int) (s.length:Int) >>= fun x21=>app 32 x19 x21 >>= fun x23=>some x23)=some (s.take k++[x]++s.drop k):=fun _=>by
  rw [show (0:Int)=((0:Nat):Int) from rfl,zcv (by omega) k2,zcv k2 (by omega)]
  simp only [bS,List.drop_zero,Nat.sub_zero]
  rw [List.take_of_length_le (l:=s.drop k) (by simp),z1d (by simp; omega)]
  simp only [bS,List.nil_append]
  rw [z1d (by simp; omega)]
  simp only [bS]
  rw [z1d (by simp; omega)]
  simp only [bS]
 by_cases hm:x∈s
 ·
  obtain ⟨hk,e⟩:=hmem.1 hm
  rw [if_pos (by simpa using hk),z0a hk]
  simp only [bS]
  rw [decide_eq_true e,if_pos rfl]
  exact ⟨s,rfl,hs, fun y=>⟨.inl, fun h=>h.elim id fun h=>h ▸ hm⟩⟩
 ·
  have hor:(if decide ((k:Int)<(s.length:Int))=true then idx s (k:Int) >>= fun x12=>if decide (x12=x)=true then (some (.inl s):Option (Sum (List ID) Unit)) else some (.inr ()) else some (.inr ()))=some (.inr ()):=by
   by_cases hk:k<s.length
   ·
    rw [if_pos (by simpa using hk),z0a hk]
    simp only [bS]
    rw [decide_eq_false fun e=>hm (hmem.2 ⟨hk,e⟩),if_neg (by simp)]
   ·
    rw [if_neg (by simpa using hk)]
  rw [hor]
  simp only [zx8]
  rw [fresh hm]
  refine ⟨_,rfl,zoj hs k2 k3 fun i hi hki=>?_,zst _ _ _⟩
  have:=k4 i hi hki
  rcases Nat.lt_or_eq_of_le this with h | h
  ·
   exact h
  ·
   exact absurd (zkm h ▸ List.getElem_mem hi) hm
theorem z15z (cap:z00) (p:ID→Bool) (hp:∀ x,zar x cap=some (p x)) (l:List ID) (hl:l.length≤1000):z1v l cap=some (l.filter fun x=>!p x) :=
 zrg (fun x=>zar x cap) p hp l hl
theorem z16a (cap:z00) (p:ID→Bool) (hp:∀ x,zax x cap=some (p x)) (l:List ID) (hl:l.length≤1000):z1w l cap=some (l.filter fun x=>!p x) :=
 zrg (fun x=>zax x cap) p hp l hl
theorem zzw (cap cap2:List ID) (p:ID→Bool) (hp:∀ x,zai x cap cap2=some (p x)) (l:List ID) (hl:l.length≤1000):z2w l cap cap2=some (l.filter fun x=>!p x) :=
 zrg (fun x=>zai x cap cap2) p hp l hl
theorem zwl (F:List ID) (hF:F.length≤100):∃ d,(zpj F >>= fun r6=>z10 r6)=some d∧z5k d=true∧∀ x,x∈d↔x∈F:=by
 obtain ⟨d,d1,d2,d3⟩:=zjd (zt0 F) (by rw [zku]; omega) (zme _)
 refine ⟨d,?_,d2, fun x=>by rw [d3,zs9]⟩
 unfold zpj
 rw [z3p (by omega)]
 simp only [bS]
 rw [d1]
theorem zq0 (E:z99 g) (l:List ID) (hl:l.length≤60):∃ d,zdd g l=some d∧z5k d=true∧∀ x,x∈d↔x∈l∧x∉g.IDs:=by
 have hlen:=E.len
 have hids:=E.ids
 obtain ⟨F,f1,f2,f3⟩:∃ F,z1v l g=some F∧F.length≤l.length∧∀ x,x∈F↔x∈l∧x∉g.IDs :=
  ⟨_,z15z g (fun x=>decide (x∈g.IDs)) (fun x=>by unfold zar; rw [zak _ _ (by omega)]; rfl) l (by omega),List.length_filter_le _ _, fun x=>by rw [List.mem_filter]; simp⟩
 obtain ⟨d,d1,d2,d3⟩:=zwl F (by omega)
 refine ⟨d,?_,d2, fun x=>by rw [d3,f3]⟩
 unfold zdd
 rw [zen l (by omega)]
 simp only [bS]
 rw [f1]
 simp only [bS]
 cases hs:zpj F with
 | none=>rw [hs] at d1; cases d1
 | some r6 =>
  rw [hs] at d1
  simp only [bS] at d1 ⊢
  rw [d1]
  simp only [bS]
theorem z129 (E:z99 g) (l:List ID) (hl:l.length≤60):∃ d,iter (z4x g l) ([],0)=some d∧z5k d=true∧∀ x,x∈d↔x∈l∧x∉g.IDs:=by
 have hlen:=E.len
 have hids:=E.ids
 have main:=z7d (F:=z4x g l) l.length
  (fun i st=>st.2=(i:Int)∧z5k st.1=true∧∀ x,x∈st.1↔x∈l.take i∧x∉g.IDs)
  (fun d=>z5k d=true∧∀ x,x∈d↔x∈l∧x∉g.IDs)
  (fun i st hi hst=>by
   obtain ⟨s,i'⟩:=st
   obtain ⟨h1,h2,h3⟩:=hst
   simp only at h1 h2 h3
   subst h1
   have hsl:s.length≤l.length:=z82 _ _ (z9v h2) fun x hx=>List.mem_of_mem_take ((h3 x).1 hx).1
   have hmem:∀ y,y∈l.take (i+1)↔y∈l.take i∨y=l[i]:=fun y=>by
    rw [zj3 hi,List.mem_append]
    exact ⟨fun h=>h.imp id fun h=>List.mem_singleton.1 h, fun h=>h.imp id fun h=>List.mem_singleton.2 h⟩
   by_cases hx:l[i]∈g.IDs
   ·
    refine ⟨(s,((i+1:Nat):Int)),?_,rfl,h2, fun x=>?_⟩
    ·
     unfold z4x
     rw [if_pos (by simpa using hi)]
     simp only []
     rw [z0a hi]
     simp only [bS]
     rw [zub _ _ (by omega),decide_eq_true hx,z0e (by omega)]
     rfl
    ·
     simp only []
     rw [h3,hmem]
     exact ⟨fun h=>⟨.inl h.1,h.2⟩, fun h=>⟨h.1.resolve_right fun e=>h.2 (e ▸ hx),h.2⟩⟩
   ·
    obtain ⟨t,t1,t2,t3⟩:=z177 s l[i] (by omega) h2
    refine ⟨(t,((i+1:Nat):Int)),?_,rfl,t2, fun x=>?_⟩
    ·
     unfold z4x
     rw [if_pos (by simpa using hi)]
     simp only []
     rw [z0a hi]
     simp only [bS]
     rw [zub _ _ (by omega),decide_eq_false hx]
     simp only [bS,Bool.not_false,if_true]
     rw [t1,z0e (by omega)]
     simp only [bS]
    ·
     simp only []
     rw [t3,h3,hmem]
     constructor
     ·
      rintro (h | rfl)
      ·
       exact ⟨.inl h.1,h.2⟩
      ·
       exact ⟨.inr rfl,hx⟩
     ·
      rintro ⟨h | h,hn⟩
      ·
       exact .inl ⟨h,hn⟩
      ·
       exact .inr h)
  (fun st hst=>by
   obtain ⟨s,i'⟩:=st
   obtain ⟨h1,h2,h3⟩:=hst
   simp only at h1 h2 h3
   subst h1
   rw [List.take_length] at h3
   refine ⟨s,?_,h2,h3⟩
   unfold z4x
   rw [if_neg (by simp)])
  ([],0) 0 (Nat.zero_le _) ⟨rfl,rfl, by simp⟩
 obtain ⟨d,d1,d2,d3⟩:=main
 exact ⟨d,d1,d2,d3⟩
end
section
open Go
variable {g:z00}
def z5c (g:z00) (l:List ID) (y:ID):Prop:=y∈g.IDs∧((y∈l)∨∃ x∈l,x∈g.IDs∧Rch (z17 g) (z17 g (g.IDs.idxOf x)) (g.IDs.idxOf y))
theorem zmo (G:z5o g) (h1:z1b g=some 0) (l:List ID) (hl:l.length≤60):∃ d,zc3 g l=some d∧z5k d=true∧∀ y,y∈d↔z5c g l y:=by
 have E:=G.e
 have hlen:=E.len
 have hids:=E.ids
 obtain ⟨F,f1,f2,f3⟩:∃ F,z1w l g=some F∧F.length≤l.length∧∀ x,x∈F↔x∈l∧x∈g.IDs :=
  ⟨_,z16a g (fun x=>!decide (x∈g.IDs)) (fun x=>by unfold zax; rw [zak _ _ (by omega)]; rfl) l (by omega),List.length_filter_le _ _, fun x=>by rw [List.mem_filter]; simp⟩
 obtain ⟨d,d1,d2,d3⟩:=zwl F (by omega)
 have hin:∀ x∈d,x∈g.IDs:=fun x hx=>((f3 x).1 ((d3 x).1 hx)).2
 have hdl:=zlt (g:=g) d2 hin
 obtain ⟨m,m1,m2⟩:=zxg G h1 d (by omega) hin
 refine ⟨zah g m,?_,zmp E m, fun y=>?_⟩
 ·
  unfold zc3
  rw [zen l (by omega)]
  simp only [bS]
  rw [f1]
  simp only [bS]
  cases hs:zpj F with
  | none=>rw [hs] at d1; cases d1
  | some r6 =>
   rw [hs] at d1
   simp only [bS] at d1 ⊢
   rw [d1]
   simp only [bS]
   rw [m1]
   simp only [bS]
   rw [← zy8]; rfl
 ·
  rw [zh1 E,m2,zkx]
  unfold z5c
  constructor
  ·
   rintro ⟨hy,h | ⟨q,hq,hr⟩⟩
   ·
    obtain ⟨x,hx,e⟩:=List.mem_map.1 h
    have:x=y:=zhv hy e
    subst this
    exact ⟨hy,.inl ((f3 _).1 ((d3 _).1 hx)).1⟩
   ·
    obtain ⟨x,hx,e⟩:=List.mem_map.1 hq
    rw [← e] at hr
    exact ⟨hy,.inr ⟨x,((f3 _).1 ((d3 _).1 hx)).1,hin x hx,hr⟩⟩
  ·
   rintro ⟨hy,h | ⟨x,hx,hxi,hr⟩⟩
   ·
    exact ⟨hy,.inl (List.mem_map.2 ⟨y,(d3 _).2 ((f3 _).2 ⟨h,hy⟩),rfl⟩)⟩
   ·
    exact ⟨hy,.inr ⟨_,List.mem_map.2 ⟨x,(d3 _).2 ((f3 _).2 ⟨hx,hxi⟩),rfl⟩,hr⟩⟩
theorem z16m (G:z5o g) (h2:z0h g=some 0) {x:ID} (hx:x∈g.IDs):∃ s,zba g x=some (s,0)∧z5k s=true∧s.length≤60∧∀ y,y∈s↔y∈g.IDs∧Rch (z17 g) (z17 g (g.IDs.idxOf x)) (g.IDs.idxOf y):=by
 have hlen:=G.e.len
 have hids:=G.e.ids
 obtain ⟨s,b1,b2,b3⟩:=z10u G.e G.ins hx
 have hl:=zlt (g:=g) b2 fun y hy=>((b3 y).1 hy).1
 refine ⟨s,?_,b2, by omega,b3⟩
 unfold zba
 have hax:([x].all fun x=>decide (x∈g.IDs))=true:=by simpa using hx
 rw [z12i G h2 _ (by simp),hax]
 simp only [bS]
 rw [if_neg (by simp),b1]
 simp only [bS]
theorem z19i (s0:List ID) (r:List ID) (c:Int) (hr:r.length≤100) (hs:z5k s0=true) (hb:∀ x∈s0,x∈g.IDs) (hb2:∀ x∈r,x∈g.IDs) (hg:g.IDs.length≤1000):∃ t,iter (z6p (r,c)) (s0,0)=some t∧z5k t=true∧∀ y,y∈t↔y∈s0∨y∈r:=by
 have main:=z7d (F:=z6p (r,c)) r.length
  (fun i st=>st.2=(i:Int)∧z5k st.1=true∧∀ y,y∈st.1↔y∈s0∨y∈r.take i)
  (fun t=>z5k t=true∧∀ y,y∈t↔y∈s0∨y∈r)
  (fun i st hi hst=>by
   obtain ⟨s,i'⟩:=st
   obtain ⟨h1,h2,h3⟩:=hst
   simp only at h1 h2 h3
   subst h1
   have hsl:s.length≤g.IDs.length:=z82 _ _ (z9v h2) fun x hx=>((h3 x).1 hx).elim (hb x) fun h=>hb2 x (List.mem_of_mem_take h)
   obtain ⟨t,t1,t2,t3⟩:=z177 s r[i] (by omega) h2
   refine ⟨(t,((i+1:Nat):Int)),?_,rfl,t2, fun y=>?_⟩
   ·
    unfold z6p
    rw [if_pos (by simpa using hi)]
    simp only []
    rw [z0a hi]
    simp only [bS]
    rw [t1,z0e (by omega)]
    simp only [bS]
   ·
    simp only []
    rw [t3,h3,zj3 hi,List.mem_append]
    constructor
    ·
     rintro ((h | h) | h)
     ·
      exact .inl h
     ·
      exact .inr (.inl h)
     ·
      exact .inr (.inr (List.mem_singleton.2 h))
    ·
     rintro (h | h | h)
     ·
      exact .inl (.inl h)
     ·
      exact .inl (.inr h)
     ·
      exact .inr (List.mem_singleton.1 h))
  (fun st hst=>by
   obtain ⟨s,i'⟩:=st
   obtain ⟨h1,h2,h3⟩:=hst
   simp only at h1 h2 h3
   subst h1
   rw [List.take_length] at h3
   refine ⟨s,?_,h2,h3⟩
   unfold z6p
   rw [if_neg (by simp)])
  (s0,0) 0 (Nat.zero_le _) ⟨rfl,hs, by simp⟩
 obtain ⟨t,t1,t2,t3⟩:=main
 exact ⟨t,t1,t2,t3⟩
theorem zve (G:z5o g) (h2:z0h g=some 0) (l:List ID) (hl:l.length≤60):∃ d,z9o g l=some d∧z5k d=true∧∀ y,y∈d↔z5c g l y:=by
 have E:=G.e
 have hlen:=E.len
 have hids:=E.ids
 have main:=z7d (F:=z6t g l) l.length
  (fun i st=>st.2=(i:Int)∧z5k st.1=true∧∀ y,y∈st.1↔z5c g (l.take i) y)
  (fun d=>z5k d=true∧∀ y,y∈d↔z5c g l y)
  (fun i st hi hst=>by
   obtain ⟨s,i'⟩:=st
   obtain ⟨h1,h2',h3⟩:=hst
   simp only at h1 h2' h3
   subst h1
   have hin:∀ x∈s,x∈g.IDs:=fun x hx=>((h3 x).1 hx).1
   have hsl:s.length≤g.IDs.length:=z82 _ _ (z9v h2') hin
   have hmem:∀ y,y∈l.take (i+1)↔y∈l.take i∨y=l[i]:=fun y=>by
    rw [zj3 hi,List.mem_append]
    exact ⟨fun h=>h.imp id fun h=>List.mem_singleton.1 h, fun h=>h.imp id fun h=>List.mem_singleton.2 h⟩
   by_cases hx:l[i]∈g.IDs
   ·
    obtain ⟨t,t1,t2,t3⟩:=z177 s l[i] (by omega) h2'
    obtain ⟨a,a1,a2,a3,a4⟩:=z16m G h2 hx
    obtain ⟨u,u1,u2,u3⟩:=z19i (g:=g) t a 0 (by omega) t2 (fun x hx'=>((t3 x).1 hx').elim (hin x) fun e=>e ▸ hx) (fun x hx'=>((a4 x).1 hx').1) (by omega)
    refine ⟨(u,((i+1:Nat):Int)),?_,rfl,u2, fun y=>?_⟩
    ·
     unfold z6t
     rw [if_pos (by simpa using hi)]
     simp only []
     rw [z0a hi]
     simp only [bS]
     rw [zub _ _ (by omega),decide_eq_true hx]
     simp only [bS,Bool.not_true,Bool.false_eq_true,if_false]
     rw [t1]
     simp only [bS]
     rw [a1]
     simp only [bS]
     rw [u1,z0e (by omega)]
     simp only [bS]
    ·
     simp only []
     rw [u3,t3,a4,h3]
     unfold z5c
     constructor
     ·
      rintro ((⟨hy,h⟩ | rfl) | ⟨hy,h⟩)
      ·
       refine ⟨hy,h.elim (fun h=>.inl ((hmem y).2 (.inl h))) fun ⟨x,h,k⟩=>.inr ⟨x,(hmem x).2 (.inl h),k⟩⟩
      ·
       exact ⟨hx,.inl ((hmem _).2 (.inr rfl))⟩
      ·
       exact ⟨hy,.inr ⟨l[i],(hmem _).2 (.inr rfl),hx,h⟩⟩
     ·
      rintro ⟨hy,h | ⟨x,h,k1,k2⟩⟩
      ·
       rcases (hmem y).1 h with h | h
       ·
        exact .inl (.inl ⟨hy,.inl h⟩)
       ·
        exact .inl (.inr h)
      ·
       rcases (hmem x).1 h with h | h
       ·
        exact .inl (.inl ⟨hy,.inr ⟨x,h,k1,k2⟩⟩)
       ·
        subst h; exact .inr ⟨hy,k2⟩
   ·
    refine ⟨(s,((i+1:Nat):Int)),?_,rfl,h2', fun y=>?_⟩
    ·
     unfold z6t
     rw [if_pos (by simpa using hi)]
     simp only []
     rw [z0a hi]
     simp only [bS]
     rw [zub _ _ (by omega),decide_eq_false hx,z0e (by omega)]
     rfl
    ·
     simp only []
     rw [h3]
     unfold z5c
     constructor
     ·
      rintro ⟨hy,h⟩
      exact ⟨hy,h.elim (fun h=>.inl ((hmem y).2 (.inl h))) fun ⟨x,h,k⟩=>.inr ⟨x,(hmem x).2 (.inl h),k⟩⟩
     ·
      rintro ⟨hy,h | ⟨x,h,k1,k2⟩⟩
      ·
       rcases (hmem y).1 h with h | h
       ·
        exact ⟨hy,.inl h⟩
       ·
        exact absurd (h ▸ hy) hx
      ·
       rcases (hmem x).1 h with h | h
       ·
        exact ⟨hy,.inr ⟨x,h,k1,k2⟩⟩
       ·
        exact absurd (h ▸ k1) hx)
  (fun st hst=>by
   obtain ⟨s,i'⟩:=st
   obtain ⟨h1,h2',h3⟩:=hst
   simp only at h1 h2' h3
   subst h1
   rw [List.take_length] at h3
   refine ⟨s,?_,h2',h3⟩
   unfold z6t
   rw [if_neg (by simp)])
  ([],0) 0 (Nat.zero_le _) ⟨rfl,rfl, fun y=>by simp [z5c]⟩
 obtain ⟨d,d1,d2,d3⟩:=main
 refine ⟨d,?_,d2,d3⟩
 unfold z9o
 rw [d1]
 simp only [bS]
theorem zin (G:z5o g) (h1:z1b g=some 0) (h2:z0h g=some 0) (l:List ID) (hl:l.length≤60):∃ d,zc3 g l=some d∧z9o g l=some d∧z5k d=true∧d.length≤60∧∀ y,y∈d↔z5c g l y:=by
 obtain ⟨d,d1,d2,d3⟩:=zmo G h1 l hl
 obtain ⟨e,e1,e2,e3⟩:=zve G h2 l hl
 have:d=e:=zcj _ _ ((z8b _).1 d2) ((z8b _).1 e2) fun y=>by rw [d3,e3]
 subst this
 have:=zlt (g:=g) d2 fun y hy=>((d3 y).1 hy).1
 have:=G.e.len
 have:=G.e.ids
 exact ⟨d,d1,e1,d2, by omega,d3⟩
theorem zyw (G:z5o g) (h1:z1b g=some 0) (h2:z0h g=some 0) (h3:(0:Int)=0↔z5o g) (a b:List ID) (ha:a.length≤60) (hb:b.length≤60):∃ d,zde g a b=some d∧zf6 g a b=some d∧d.length≤60∧∀ x∈d,x∈g.IDs:=by
 obtain ⟨p,p1,p2,_,p3,p4⟩:=zin G h1 h2 a ha
 obtain ⟨q,q1,q2,_,q3,q4⟩:=zin G h1 h2 b hb
 obtain ⟨r,r1,r2,r3⟩:=zxo h1 h2 h3
 have hfl:(r.1.filter fun x=>!(!decide (x∈p) || decide (x∈q))).length≤r.1.length:=List.length_filter_le _ _
 refine ⟨r.1.filter fun x=>!(!decide (x∈p) || decide (x∈q)),?_,?_, by omega, fun x hx=>?_⟩
 ·
  unfold zde
  rw [p1,q1]
  simp only [bS]
  rw [r1]
  simp only [bS]
  rw [zzw p q (fun x=>!decide (x∈p) || decide (x∈q)) (fun x=>by
   unfold zai
   rw [zak _ _ (by omega),zak _ _ (by omega)]
   simp only [bS]
   cases decide (x∈p) <;> rfl) r.1 (by omega)]
  simp only [bS]
 ·
  have main:=z7d (F:=za4 p q r) r.1.length
   (fun i st=>st.2=(i:Int)∧st.1=(r.1.take i).filter fun x=>!(!decide (x∈p) || decide (x∈q)))
   (fun d=>d=r.1.filter fun x=>!(!decide (x∈p) || decide (x∈q)))
   (fun i st hi hst=>by
    obtain ⟨s,i'⟩:=st
    obtain ⟨g1,g2⟩:=hst
    simp only at g1 g2
    subst g1
    have hsl:s.length≤i:=by
     rw [g2]
     have:=List.length_filter_le (fun x=>!(!decide (x∈p) || decide (x∈q))) (r.1.take i)
     rw [List.length_take] at this
     exact Nat.le_trans this (Nat.min_le_left _ _)
    refine ⟨((r.1.take (i+1)).filter (fun x=>!(!decide (x∈p) || decide (x∈q))),((i+1:Nat):Int)),?_,rfl,rfl⟩
    unfold za4
    rw [if_pos (by simpa using hi)]
    simp only []
    rw [z0a hi]
    simp only [bS]
    rw [zub _ _ (by omega),zub _ _ (by omega),z0e (by omega),zj3 hi,List.filter_append,← g2]
    simp only [bS]
    cases c1:decide (r.1[i]∈p) with
    | false =>
     simp only [Bool.false_eq_true,if_false,bS]
     rw [List.filter_cons_of_neg (by rw [c1]; simp)]
     simp
    | true =>
     simp only [if_true,bS]
     cases c2:decide (r.1[i]∈q) with
     | true =>
      rw [List.filter_cons_of_neg (by rw [c1,c2]; simp)]
      simp
     | false =>
      rw [List.filter_cons_of_pos (by rw [c1,c2]; simp),z1d (by simp only [List.length_cons,List.length_nil]; omega)]
      simp)
   (fun st hst=>by
    obtain ⟨s,i'⟩:=st
    obtain ⟨g1,g2⟩:=hst
    simp only at g1 g2
    subst g1 g2
    refine ⟨_,?_,rfl⟩
    unfold za4
    rw [if_neg (by simp),List.take_length])
   ([],0) 0 (Nat.zero_le _) ⟨rfl, by simp⟩
  obtain ⟨d,d1,rfl⟩:=main
  unfold zf6
  rw [p2,q2]
  simp only [bS]
  rw [r2]
  simp only [bS]
  rw [d1]
  simp only [bS]
 ·
  rw [List.mem_filter] at hx
  have h4:x∈p:=by
   have:=hx.2
   simp at this
   exact this.1
  exact ((p4 x).1 h4).1
end
section
open Go
variable {g:z00}
def bts (g:z00) (x:ID):List UInt8:=match g.Ops[g.IDs.idxOf x]? with | some o=>zfc o | none=>[]
theorem z156 (G:z5o g) (hw:z28 g) {i:Nat} (hi:i<g.Ops.length):z51 g.Ops[i]=0∧inI g.Ops[i].Act.Value.Num∧g.Ops[i].Act.Value.Text.length≤9223372036854775807:=by
 obtain ⟨w1,w2⟩:=z18v hw (List.getElem_mem hi)
 exact ⟨z8x (G.ops i hi).1,w1,w2⟩
theorem z11v (G:z5o g) {x:ID} (hx:x∈g.IDs):bts g x=zfc (g.Ops[g.IDs.idxOf x]'(zei G hx)):=by
 unfold bts
 rw [List.getElem?_eq_getElem (zei G hx)]
theorem zro (G:z5o g) (hw:z28 g) {x:ID} (hx:x∈g.IDs):(bts g x).length≤400:=by
 rw [z11v G hx]
 obtain ⟨h1,h2,_⟩:=z156 G hw (zei G hx)
 exact zv8 h1 h2
theorem zqg (G:z5o g) (hw:z28 g) (h1:z1b g=some 0) {x:ID} (hx:x∈g.IDs):∃ r,zjp g x=some r∧zdv r.1=some (bts g x,0):=by
 have hlen:=G.e.len
 have hids:=G.e.ids
 obtain ⟨k,k1,k2,k3⟩:=zd7 g (by omega) G.e.ri x
 obtain ⟨rfl,hk⟩:=k2 hx
 have hi:=zei G hx
 have h4:=(G.e.op _ hi).1
 refine ⟨(g.Ops[g.IDs.idxOf x],0),?_,?_⟩
 ·
  unfold zjp
  rw [h1]
  simp only [bS]
  rw [if_neg (by simp),k1,decide_eq_true hx]
  simp only [bS]
  rw [if_neg (by simp),z0a hi]
  simp only [bS]
  unfold zef
  rw [zen _ (by omega)]
  rfl
 ·
  obtain ⟨c1,c2,c3⟩:=z156 G hw hi
  rw [z11v G hx]
  exact zt7 _ c1 c2 c3
def fr (ops:List (List UInt8)):z2c:=⟨5,0,[],ops⟩
def zja (ops:List (List UInt8)):List UInt8:=ops.flatMap fun o=>z1n o.length++o
def zp3 (ops:List (List UInt8)):List UInt8:=([5]++z1n ops.length)++zja ops
def okF (ops:List (List UInt8)):Bool:=decide (ops.length≤8)&&decide ((zp3 ops).length≤2000)
theorem zm6:∀ (l:List (List UInt8)),(∀ o∈l,o.length≤400)→(zja l).length≤409 * l.length
 | [],_=>by simp [zja]
 | o::l,h=>by
  have ih:=zm6 l fun q hq=>h q (by simp [hq])
  have ho:=h o (by simp)
  have:=z13 o.length (by omega)
  unfold zja at *
  rw [List.flatMap_cons]
  simp only [List.length_append,List.length_cons]; omega
theorem zuv (l:List (List UInt8)) (o:List UInt8):zja (l++[o])=zja l++(z1n o.length++o):=by
 unfold zja; rw [List.flatMap_append]; simp
theorem zxm (ops:List (List UInt8)) (h9:ops.length≤9) (hall:∀ o∈ops,o.length≤400):zh5 (fr ops)=some (if okF ops then 0 else 8):=by
 have hn:=z13 ops.length (by omega)
 have hb:=zm6 ops hall
 have hL:ops.length≤8→iter (z86 (fr ops)) ([5]++z1n ops.length,true,0)=some (zp3 ops,true):=fun h8=>by
  have main:=z1q (F:=z86 (fr ops)) (b:=(zp3 ops,true)) ops.length (fun i=>(([5]++z1n ops.length)++zja (ops.take i),true,(i:Int))) (fun i hi=>?_) ?_
  ·
   simpa [zja] using main
  ·
   have ho:ops[i].length≤400:=hall _ (List.getElem_mem hi)
   have ht:=zm6 (ops.take i) fun o ho=>hall o (List.mem_of_mem_take ho)
   rw [List.length_take] at ht
   have hno:=z13 ops[i].length (by omega)
   unfold z86
   rw [if_pos rfl,if_pos (by show decide ((i:Int)<((ops.length:Nat):Int))=true; simpa using hi)]
   show (idx ops (i:Int) >>= _)=_
   rw [z0a hi]
   simp only [bS]
   rw [zov _ (by omega)]
   simp only [bS]
   rw [z1d (by simp only [List.length_append,List.length_cons,List.length_nil]; omega)]
   simp only [bS]
   show (idx ops (i:Int) >>= _)=_
   rw [z0a hi]
   simp only [bS]
   rw [decide_eq_true (by omega),z0e (by omega),zj3 hi,zuv]
   simp only [List.append_assoc]
  ·
   unfold z86
   rw [if_pos rfl,if_neg (by show ¬ decide (((ops.length:Nat):Int)<((ops.length:Nat):Int))=true; simp),List.take_length]
   rfl
 have hw:zh0 (fr ops)=some (if ops.length≤8 then (zp3 ops,decide (((zp3 ops).length:Int)≤2000)) else ([5]++z1n ops.length,false)):=by
  unfold zh0
  have e1:zi7 (fr ops).Kind=some false:=rfl
  rw [e1]
  simp only [bS,Bool.false_eq_true,if_false]
  rw [if_pos (by rfl),if_pos (by rfl),if_pos (by rfl)]
  simp only [bS]
  show ((z4y (UInt64.ofInt (ops.length:Int)) >>= fun r24=>app 1 [(5:UInt8)] r24 >>= fun x26=>iter (z86 (fr ops)) (x26,decide ((ops.length:Int)≤8),0)) >>= _)=_
  rw [z7m,zkt (by omega)]
  simp only [bS]
  rw [z1d (by simp only [List.length_cons,List.length_nil]; omega)]
  simp only [bS]
  by_cases h8:ops.length≤8
  ·
   rw [decide_eq_true (by omega),hL h8,if_pos h8]
   simp only [bS]
   rw [if_pos trivial]
  ·
   rw [decide_eq_false (by omega),if_neg h8,z1m (b:=([5]++z1n ops.length,false)) (by unfold z86; rw [if_neg (by simp)])]
   simp only [bS]
   rw [if_neg (by simp)]
 unfold zh5
 rw [hw]
 simp only [bS]
 unfold okF
 by_cases h8:ops.length≤8
 ·
  rw [if_pos h8,decide_eq_true h8,Bool.true_and]
  by_cases h2:(zp3 ops).length≤2000
  ·
   rw [decide_eq_true h2]
   simp only []
   rw [decide_eq_true (by omega)]; rfl
  ·
   rw [decide_eq_false h2]
   simp only []
   rw [decide_eq_false (by omega)]; rfl
 ·
  rw [if_neg h8,decide_eq_false h8]; rfl
def zix (bs:List (List UInt8)):Nat→Option (List (List (List UInt8)) × List (List UInt8))
 | 0=>none
 | i+1=>match bs[i]? with
  | none=>zix bs i
  | some b=>match zix bs i with
   | none=>some ([],[b])
   | some (a,l)=>if okF (l++[b]) then some (a,l++[b]) else some (a++[l],[b])
theorem zts (bs:List (List UInt8)) (hb:∀ b∈bs,b.length≤400):∀ i,i≤bs.length→(zix bs i=none∧i=0)∨∃ a l,zix bs i=some (a,l)∧a.length+1≤i∧l≠[]∧l.length≤8∧∀ o∈l,o.length≤400
 | 0,_=>.inl ⟨rfl,rfl⟩
 | i+1,hi=>by
  have hlt:i<bs.length:=by omega
  have hbi:bs[i].length≤400:=hb _ (List.getElem_mem hlt)
  right
  unfold zix
  rw [List.getElem?_eq_getElem hlt]
  rcases zts bs hb i (by omega) with ⟨h,h0⟩ | ⟨a,l,h,h1,h2,h3,h4⟩
  ·
   simp only [h]
   exact ⟨[],[bs[i]],rfl, by simp, by simp, by simp, fun o ho=>by rw [List.mem_singleton] at ho; rw [ho]; exact hbi⟩
  ·
   simp only [h]
   by_cases hc:okF (l++[bs[i]])=true
   ·
    rw [if_pos hc]
    have h8:(l++[bs[i]]).length≤8:=by unfold okF at hc; simp only [Bool.and_eq_true,decide_eq_true_eq] at hc; exact hc.1
    exact ⟨a,l++[bs[i]],rfl, by omega, by simp,h8, fun o ho=>(List.mem_append.1 ho).elim (h4 o) fun h=>by rw [List.mem_singleton] at h; rw [h]; exact hbi⟩
   ·
    rw [if_neg hc]
    exact ⟨a++[l],[bs[i]],rfl, by simp; omega, by simp, by simp, fun o ho=>by rw [List.mem_singleton] at ho; rw [ho]; exact hbi⟩
theorem zpy (bs:List (List UInt8)) {i:Nat} (hlt:i<bs.length):zix bs (i+1)=match zix bs i with | none=>some ([],[bs[i]]) | some (a,l)=>if okF (l++[bs[i]]) then some (a,l++[bs[i]]) else some (a++[l],[bs[i]]):=by
 rw [zix,List.getElem?_eq_getElem hlt]
def outP:Option (List (List (List UInt8)) × List (List UInt8))→List z2c
 | none=>[]
 | some (a,l)=>a.map fr++[fr l]
theorem z13u (G:z5o g) (hw:z28 g) (h1:z1b g=some 0) (l:List ID) (hin:∀ x∈l,x∈g.IDs) {i:Nat} (hi:i<l.length) (hl:l.length≤60):z59 g l ([],(i:Int))=some (.inr ([fr [bts g l[i]]],((i+1:Nat):Int))):=by
 obtain ⟨r,r1,r2⟩:=zqg G hw h1 (hin _ (List.getElem_mem hi))
 unfold z59
 rw [if_pos (by simpa using hi)]
 simp only []
 rw [z0a hi]
 simp only [bS]
 rw [r1]
 simp only [bS]
 rw [r2]
 simp only [bS]
 rw [if_neg (by simp)]
 simp only [zx8]
 rw [z1d (by simp),z0e (by omega)]
 rfl
theorem z11y (G:z5o g) (hw:z28 g) (h1:z1b g=some 0) (l:List ID) (hin:∀ x∈l,x∈g.IDs) (X:List z2c) (q:List (List UInt8)) (hX:X.length≤100) (g3:q.length≤8) (g4:∀ o∈q,o.length≤400) {i:Nat} (hi:i<l.length) (hl:l.length≤60) :
  z59 g l (X++[fr q],(i:Int))=if okF (q++[bts g l[i]]) then some (.inr (X++[fr (q++[bts g l[i]])],((i+1:Nat):Int))) else some (.inr ((X++[fr q])++[fr [bts g l[i]]],((i+1:Nat):Int))):=by
 obtain ⟨r,r1,r2⟩:=zqg G hw h1 (hin _ (List.getElem_mem hi))
 have hb400:=zro G hw (hin _ (List.getElem_mem hi))
 have hol:(X++[fr q]).length=X.length+1:=by simp
 have hge:(X++[fr q])[X.length]'(by omega)=fr q:=by
  rw [List.getElem_append_right (by simp)]; simp
 have e1:z63 (fr q).Ops=some q:=by
  unfold z63
  show (app 24 ([]:List (List UInt8)) q >>= _)=_
  rw [z1d (by simp; omega)]; rfl
 have hck:=zxm (q++[bts g l[i]]) (by simp; omega) (fun o ho=>(List.mem_append.1 ho).elim (g4 o) fun h=>by rw [List.mem_singleton] at h; rw [h]; exact hb400)
 have e2:(⟨(fr q).Kind,(fr q).N,(fr q).IDs,q++[bts g l[i]]⟩:z2c)=fr (q++[bts g l[i]]):=rfl
 have e3:(X++[fr q]).set X.length (fr (q++[bts g l[i]]))=X++[fr (q++[bts g l[i]])]:=by
  simp [List.set_append]
 have e4:w64 (((X++[fr q]).length:Int) - 1)=(X.length:Int):=by
  rw [hol,z18 (by omega) (by omega)]; omega
 unfold z59
 rw [if_pos (by simpa using hi)]
 simp only []
 rw [z0a hi]
 simp only [bS]
 rw [r1]
 simp only [bS]
 rw [r2]
 simp only [bS]
 rw [if_pos (by simp <;> omega),e4,z0a (by omega),hge]
 simp only [bS]
 rw [e1]
 simp only [bS]
 rw [z1d (by simp only [List.length_cons,List.length_nil]; omega)]
 simp only [bS]
 rw [e2]
 by_cases hc:okF (q++[bts g l[i]])=true
 ·
  rw [if_pos hc] at hck
  rw [hck]
  simp only [bS,if_pos hc]
  rw [if_pos (by rfl)]
  simp only [or_l,Int.toNat_natCast]
  rw [z0e (by omega),e3]
 ·
  rw [if_neg hc] at hck
  rw [hck]
  simp only [bS,if_neg hc]
  rw [if_neg (by decide)]
  simp only [zx8]
  rw [z1d (by simp; omega),z0e (by omega)]
  rfl
theorem zuk (G:z5o g) (hw:z28 g) (h1:z1b g=some 0) (l:List ID) (hl:l.length≤60) (hin:∀ x∈l,x∈g.IDs):zfs g l=some (outP (zix (l.map (bts g)) l.length)):=by
 have hb:∀ b∈l.map (bts g),b.length≤400:=fun b hb=>by
  obtain ⟨x,hx,rfl⟩:=List.mem_map.1 hb
  exact zro G hw (hin x hx)
 have main:=z1q (F:=z59 g l) (b:=outP (zix (l.map (bts g)) l.length)) l.length (fun i=>(outP (zix (l.map (bts g)) i),(i:Int))) (fun i hi=>?_) ?_
 ·
  unfold zfs
  have e0:(([]:List z2c),(0:Int))=(outP (zix (l.map (bts g)) 0),((0:Nat):Int)):=rfl
  rw [e0,main]
  simp only [bS]
 ·
  have him:i<(l.map (bts g)).length:=by simpa using hi
  have hbi:(l.map (bts g))[i]=bts g l[i]:=by simp
  rw [zpy _ him,hbi]
  rcases zts (l.map (bts g)) hb i (by omega) with ⟨h,h0⟩ | ⟨a,q,h,g1,g2,g3,g4⟩
  ·
   rw [h]
   exact z13u G hw h1 l hin hi hl
  ·
   rw [h]
   have hs:=z11y G hw h1 l hin (a.map fr) q (by simp; omega) g3 g4 hi hl
   show z59 g l (a.map fr++[fr q],(i:Int))=_
   rw [hs]
   by_cases hc:okF (q++[bts g l[i]])=true
   ·
    simp only [if_pos hc]; rfl
   ·
    simp only [if_neg hc]
    show some (Sum.inr ((a.map fr++[fr q])++[fr [bts g l[i]]],_))=some (Sum.inr ((a++[q]).map fr++[fr [bts g l[i]]],_))
    rw [List.map_append]; rfl
 ·
  unfold z59
  rw [if_neg (by simp)]
end
section
open Go
variable {g:z00}
theorem zzi (l:List ID) (hl:l.length≤1000):z90 l l=some true:=by
 have main:=z1q (F:=za3 l l) (b:=(.inr ():Sum Bool Unit)) l.length (fun i=>(i:Int)) (fun i hi=>?_) ?_
 ·
  unfold z90
  rw [if_neg (by simp), show (0:Int)=((0:Nat):Int) from rfl,main]; rfl
 ·
  unfold za3
  rw [if_pos (by simpa using hi),z0a hi,z0e (by omega)]
  simp only [bS]
  rw [if_neg (by simp)]
 ·
  unfold za3
  rw [if_neg (by simp)]
def zlq (c:Int) (a b:List ID):Int:=if c≠0 then c else if 60<a.length then 4 else if 60<b.length then 4 else 0
theorem zsn {c:Int} (h1:z1b g=some c) (a:List ID):zap g [a]=some (zlq c a []):=by
 unfold zap zlq
 rw [h1]
 simp only [bS]
 by_cases hc:c=0
 ·
  subst hc
  rw [if_neg (by simp),if_neg (by simp)]
  have e0:z3v [a] ((0:Nat):Int)=if decide (60<(a.length:Int)) then some (.inl (.inl 4)) else some (.inr ((1:Nat):Int)):=by
   unfold z3v
   rw [if_pos (by simp),z0a (by simp),z0e (by omega)]
   rfl
  have e1:z3v [a] ((1:Nat):Int)=some (.inl (.inr ())):=by
   unfold z3v
   rw [if_neg (by simp)]
  rw [show (0:Int)=((0:Nat):Int) from rfl]
  by_cases hb:60<a.length
  ·
   rw [if_pos (by simp; omega)] at e0
   rw [z1m e0,if_pos hb]; rfl
  ·
   rw [if_neg (by simp; omega)] at e0
   rw [z1y e0,z1m e1,if_neg hb,if_neg (by simp)]; rfl
 ·
  rw [if_pos (by simpa using hc),if_pos hc]
theorem z123 {c:Int} (h1:z1b g=some c) (a b:List ID):zap g [a,b]=some (zlq c a b):=by
 unfold zap zlq
 rw [h1]
 simp only [bS]
 by_cases hc:c=0
 ·
  subst hc
  rw [if_neg (by simp),if_neg (by simp)]
  have e0:z3v [a,b] ((0:Nat):Int)=if decide (60<(a.length:Int)) then some (.inl (.inl 4)) else some (.inr ((1:Nat):Int)):=by
   unfold z3v
   rw [if_pos (by simp),z0a (by simp),z0e (by omega)]
   rfl
  have e1:z3v [a,b] ((1:Nat):Int)=if decide (60<(b.length:Int)) then some (.inl (.inl 4)) else some (.inr ((2:Nat):Int)):=by
   unfold z3v
   rw [if_pos (by simp),z0a (by simp),z0e (by omega)]
   rfl
  have e2:z3v [a,b] ((2:Nat):Int)=some (.inl (.inr ())):=by
   unfold z3v
   rw [if_neg (by simp)]
  rw [show (0:Int)=((0:Nat):Int) from rfl]
  by_cases ha:60<a.length
  ·
   rw [if_pos (by simp; omega)] at e0
   rw [z1m e0,if_pos ha]; rfl
  ·
   rw [if_neg (by simp; omega)] at e0
   rw [z1y e0,if_neg ha]
   by_cases hb:60<b.length
   ·
    rw [if_pos (by simp; omega)] at e1
    rw [z1m e1,if_pos hb]; rfl
   ·
    rw [if_neg (by simp; omega)] at e1
    rw [z1y e1,z1m e2,if_neg hb]; rfl
 ·
  rw [if_pos (by simpa using hc),if_pos hc]
theorem ztn {c:Int} (h2:z0h g=some c) (a b:List ID):z7p g a b=some (zlq c a b):=by
 unfold z7p zlq
 rw [h2]
 simp only [bS]
 by_cases hc:c=0
 ·
  subst hc
  rw [if_neg (by simp:¬ ((0:Int) != 0)=true),if_neg (fun h:(0:Int)≠0=>h rfl)]
  by_cases ha:60<a.length
  ·
   rw [if_pos (by simp; omega),if_pos ha]
  ·
   rw [if_neg (by simp; omega),if_neg ha]
   by_cases hb:60<b.length
   ·
    rw [if_pos (by simp; omega),if_pos hb]
   ·
    rw [if_neg (by simp; omega),if_neg hb]
 ·
  rw [if_pos (by simpa using hc),if_pos hc]
theorem zya {c:Int} {a b:List ID} (h:zlq c a b=0):c=0∧a.length≤60∧b.length≤60:=by
 unfold zlq at h
 split at h
 ·
  rename_i h0; exact absurd h h0
 ·
  split at h
  ·
   simp at h
  ·
   split at h
   ·
    simp at h
   ·
    exact ⟨by omega, by omega, by omega⟩
section
variable {c:Int} (h1:z1b g=some c) (h2:z0h g=some c) (h3:c=0↔z5o g)
include h1 h2 h3
end
end
section
open Go
variable {g a b:z00} {n m:Nat}
theorem z15e (h:z28 g) {o:z07} (ho:o∈g.Ops):zcd o:=h.2.1.1 o ho
theorem z17x (F:Fit g n) (hn:n≤1000) (h:∀ o∈g.Ops,zcd o):z28 g:=by
 have h1:=F.len; have h2:=F.ids
 exact ⟨⟨fun x _ y _=>trivial, by omega⟩,⟨h, by omega⟩,trivial⟩
theorem z15b {o:z07} (h:zcd o):inI o.Act.Value.Num∧o.Act.Value.Text.length≤9223372036854775807:=⟨h.2.2.2.1.2.2.1.2.1,h.2.2.2.1.2.2.1.2.2.2.1⟩
theorem z17f {p:ID × z07} {o:z07} (h:o∈(zlo g p).Ops):o=p.2∨o∈g.Ops:=by
 unfold zlo at h
 split at h
 ·
  exact .inr h
 ·
  exact zn7.1 h
theorem ztm (F:Fit g n) (hn:n≤1000) (l:List ID) (hl:l.length≤1000):z24 l g=some (l.any fun x=>!decide (x∈g.IDs)):=by
 have h1:=F.len; have h2:=F.ids
 have hcl:∀ x,zks x g=some (!decide (x∈g.IDs)):=fun x=>by
  obtain ⟨k,k1,-⟩:=zd7 g (by omega) F.ri x
  unfold zks
  rw [k1]
  simp only [bS]
 have main:=z9z (F:=z1g l g) (fun s=>∃ i:Nat,s=(i:Int)∧i≤l.length∧∀ k (h:k<l.length),k<i→l[k]∈g.IDs) (fun s=>l.length - s.toNat)
  (fun b:Sum Int Unit=>(b=.inr ()∧∀ x∈l,x∈g.IDs)∨∃ i:Nat,b=.inl (i:Int)∧∃ x∈l,x∉g.IDs)
  (fun s hs=>by
   obtain ⟨i,rfl,h1,h2⟩:=hs
   by_cases hi:i<l.length
   ·
    have hF:z1g l g (i:Int)=if !decide (l[i]∈g.IDs) then some (.inl (.inl (i:Int))) else some (.inr ((i+1:Nat):Int)):=by
     unfold z1g
     rw [if_pos (by simpa using hi),z0a hi,z0e (by omega)]
     simp only [bS]
     rw [hcl]
     simp only [bS]
    by_cases hc:l[i]∈g.IDs
    ·
     rw [decide_eq_true hc,if_neg (by simp)] at hF
     refine .inr ⟨_,hF,⟨i+1,rfl,hi, fun k hk hki=>?_⟩, by simp; omega⟩
     by_cases hk':k=i
     ·
      subst hk'; exact hc
     ·
      exact h2 k hk (by omega)
    ·
     rw [decide_eq_false hc,if_pos (by simp)] at hF
     exact .inl ⟨_,hF,.inr ⟨i,rfl,l[i],List.getElem_mem hi,hc⟩⟩
   ·
    refine .inl ⟨.inr (),?_,.inl ⟨rfl, fun x hx=>?_⟩⟩
    ·
     unfold z1g
     rw [if_neg (by simpa using hi)]
    ·
     obtain ⟨k,hk,rfl⟩:=List.getElem_of_mem hx
     exact h2 k hk (by omega))
  0 ⟨0,rfl,Nat.zero_le _, fun k _ h=>by omega⟩
 obtain ⟨r,r1,r2⟩:=main
 unfold z24 z3h
 rw [r1]
 rcases r2 with ⟨rfl,h⟩ | ⟨i,rfl,x,hx,hxn⟩
 ·
  simp only [zx8,bS]
  have:(l.any fun x=>!decide (x∈g.IDs))=false:=by
   rw [List.any_eq_false]; intro x hx; simp [h x hx]
  rw [this]; rfl
 ·
  simp only [or_l,bS]
  have:(l.any fun x=>!decide (x∈g.IDs))=true:=by
   rw [List.any_eq_true]; exact ⟨x,hx, by simp [hxn]⟩
  rw [this]; simp
theorem z13q (F:Fit g n) (hn:n≤59) (hc:z1b g=some 0) {p:ID × z07} (hw:zcd p.2) (hp:p.2.Preds.length≤20) (h1:zg8 p.2=0) (h2:sha (zfc p.2)=p.1) (hx:p.1∉g.IDs) (hq:∀ q∈p.2.Preds,q∈g.IDs):zon g p.2=some (zlo g p,p.1,0):=by
 obtain ⟨w1,w2⟩:=z15b hw
 have hl:=F.len
 have hany:(p.2.Preds.any fun x=>!decide (x∈g.IDs))=false:=by
  rw [List.any_eq_false]; intro x hx; simp [hq x hx]
 unfold zon
 rw [hc]
 simp only [bS]
 rw [if_pos (by simp),zow _ w1 w2,h1]
 simp only [bS]
 rw [if_neg (by simp),zzn _ w1 w2,if_pos (z8x h1),h2]
 simp only [bS]
 rw [z100 F (by omega) p hp,decide_eq_false hx]
 simp only [bS]
 rw [if_neg (by simp),ztm F (by omega) _ (by omega),hany]
 simp only [bS]
 rw [if_neg (by simp),if_neg (by simp; omega)]
theorem z15p (F:Fit g n) (hn:n≤59) (hc:z0h g=some 0) {p:ID × z07} (hw:zcd p.2) (hp:p.2.Preds.length≤20∧p.2.Act.Key.length≤100∧p.2.Act.Value.Text.length≤100) (h1:zg8 p.2=0) (h2:sha (zfc p.2)=p.1) (hx:p.1∉g.IDs) (hq:∀ q∈p.2.Preds,q∈g.IDs):zbj g p.2=some (zlo g p,p.1,0):=by
 obtain ⟨w1,w2⟩:=z15b hw
 have hl:=F.len; have hi:=F.ids
 have hall:(p.2.Preds.all fun x=>decide (x∈g.IDs))=true:=by
  rw [List.all_eq_true]; intro x hx; simpa using hq x hx
 unfold zbj
 rw [hc]
 simp only [bS]
 rw [if_neg (by simp),zhr _ w1 w2,h1]
 simp only [bS]
 rw [if_neg (by simp),zn9 _ (z8x h1) w1,h2]
 simp only [bS]
 rw [zwu (by omega) hx]
 simp only [bS]
 rw [if_neg (by simp),zwb _ _ (by omega) (by omega),hall]
 simp only [bS]
 rw [if_neg (by simp),if_neg (by simp; omega),zre F (by omega) p hp hx]
 simp only [bS]
theorem zxz (G:z5o g) (F:Fit g n) {l:List ID} {y p:ID} {o:z07} (h:z5c g l y) (ho:z4w g y=some o) (hp:p∈o.Preds):z5c g l p:=by
 have S:=znm G F
 have hpm:=S.ins y o ho p hp
 obtain ⟨i,i1,i2⟩:=(za5 F).1 ho
 obtain ⟨hi,rfl⟩:=List.getElem?_eq_some_iff.1 i1
 obtain ⟨hio,rfl⟩:=List.getElem?_eq_some_iff.1 i2
 have hpp:g.IDs.idxOf p∈z17 g (g.IDs.idxOf g.IDs[i]):=by
  rw [z6y F.ri hi]
  unfold z17
  exact List.mem_map.2 ⟨p, by rw [z54 hio]; exact hp,rfl⟩
 refine ⟨hpm,.inr ?_⟩
 rcases h.2 with hl | ⟨x,hx,hxg,hr⟩
 ·
  exact ⟨_,hl,h.1,.base hpp⟩
 ·
  exact ⟨x,hx,hxg,.step hr hpp⟩
theorem zk8 {α:Type} (f:α→Bool):∀ (l:List α) (i:Nat) (h:i<(l.filter f).length),∃ k,∃ hk:k<l.length,l[k]=(l.filter f)[i]∧(l.take k).filter f=(l.filter f).take i
 | [],i,h=>by simp at h
 | x::l,i,h=>by
  by_cases hx:f x=true
  ·
   cases i with
   | zero=>exact ⟨0, by simp, by simp [List.filter_cons_of_pos hx], by simp⟩
   | succ i =>
    have h':i<(l.filter f).length:=by rw [List.filter_cons_of_pos hx] at h; simpa using h
    obtain ⟨k,hk,e1,e2⟩:=zk8 f l i h'
    exact ⟨k+1, by simpa using hk, by simp [List.filter_cons_of_pos hx,e1], by simp [List.filter_cons_of_pos hx,e2]⟩
  ·
   have h':i<(l.filter f).length:=by rw [List.filter_cons_of_neg hx] at h; exact h
   obtain ⟨k,hk,e1,e2⟩:=zk8 f l i h'
   exact ⟨k+1, by simpa using hk, by simp [List.filter_cons_of_neg hx,e1], by simp [List.filter_cons_of_neg hx,e2]⟩
structure zol (g:z00) (l r d:List ID):Prop where
 len:d.length≤60
 nd:d.Nodup
 mem:∀ x,x∈d↔z5c g l x∧¬ z5c g r x
 topo:∀ i (h:i<d.length) o,z4w g d[i]=some o→∀ p∈o.Preds,p∈d.take i∨z5c g r p
theorem zsd (G:z5o g) (F:Fit g n) (h1:z1b g=some 0) (h2:z0h g=some 0) (l r:List ID) (hl:l.length≤60) (hr:r.length≤60):∃ d,zde g l r=some d∧zf6 g l r=some d∧zol g l r d:=by
 obtain ⟨d,d1,d2,d3,-⟩:=zyw G h1 h2 ⟨fun _=>G, fun _=>rfl⟩ l r hl hr
 refine ⟨d,d1,d2,?_⟩
 obtain ⟨p,p1,-,_,p3,p4⟩:=zin G h1 h2 l hl
 obtain ⟨q,q1,-,_,q3,q4⟩:=zin G h1 h2 r hr
 obtain ⟨Q,Q1,Q2,Q3⟩:=zra G h1
 obtain ⟨Qg,Qt⟩:=Q2.got
 have hlen:=G.e.len
 have hd:d=(Q.map (zdn g)).filter fun x=>!(!decide (x∈p) || decide (x∈q)):=by
  unfold zde at d1
  rw [p1,q1] at d1
  simp only [bS] at d1
  rw [Q1] at d1
  simp only [bS] at d1
  rw [zzw p q (fun x=>!decide (x∈p) || decide (x∈q)) (fun x=>by
   unfold zai
   rw [zak _ _ (by omega),zak _ _ (by omega)]
   simp only [bS]
   cases decide (x∈p) <;> rfl) _ (by simp; omega)] at d1
  simp only [bS] at d1
  exact (Option.some.inj d1).symm
 have hmemQ:∀ x,x∈Q.map (zdn g)↔x∈g.IDs:=fun x=>by
  constructor
  ·
   intro hx
   obtain ⟨i,hi,rfl⟩:=List.mem_map.1 hx
   have:=Qg.lt i hi
   rw [z64 (by rw [F.ids]; exact this)]
   exact List.getElem_mem _
  ·
   intro hx
   have hlt:g.IDs.idxOf x<g.Ops.length:=zei G hx
   refine List.mem_map.2 ⟨g.IDs.idxOf x,?_,zby hx⟩
   refine Classical.byContradiction fun hno=>?_
   have:=z82 (Q++[g.IDs.idxOf x]) (List.range g.Ops.length) (by
    rw [List.nodup_append]; exact ⟨Qg.nodup, by simp, fun a ha c hc e=>by rw [List.mem_singleton] at hc; subst hc; subst e; exact hno ha⟩) (fun y hy=>by
    rcases List.mem_append.1 hy with hy | hy
    ·
     simpa using Qg.lt y hy
    ·
     rw [List.mem_singleton] at hy; subst hy; simpa using hlt)
   rw [List.length_append,List.length_range,Q3] at this
   simp at this
   omega
 have hndQ:(Q.map (zdn g)).Nodup:=by
  rw [List.Nodup,List.pairwise_map]
  exact Qg.nodup.imp_of_mem fun {a b} ha hb hne e=>hne (by rw [← zeh G.e (Qg.lt a ha),e,zeh G.e (Qg.lt b hb)])
 have hf:∀ x,(!(!decide (x∈p) || decide (x∈q)))=true↔z5c g l x∧¬ z5c g r x:=fun x=>by
  rw [← p4,← q4]; simp
 refine ⟨d3,hd ▸ hndQ.sublist List.filter_sublist, fun x=>?_, fun i hi o ho y hy=>?_⟩
 ·
  rw [hd,List.mem_filter,hmemQ,hf]
  exact ⟨fun h=>h.2, fun h=>⟨h.1.1,h⟩⟩
 ·
  by_cases hb:z5c g r y
  ·
   exact .inr hb
  refine .inl ?_
  subst hd
  obtain ⟨k,hk,e1,e2⟩:=zk8 _ _ i hi
  rw [← e2,List.mem_filter,hf]
  have hxd:((Q.map (zdn g)).filter fun x=>!(!decide (x∈p) || decide (x∈q)))[i]∈(Q.map (zdn g)).filter fun x=>!(!decide (x∈p) || decide (x∈q)):=List.getElem_mem hi
  rw [List.mem_filter,hf] at hxd
  have hbl:=zxz G F hxd.2.1 ho hy
  refine ⟨?_,hbl,hb⟩
  have hkQ:k<Q.length:=by simpa using hk
  rw [List.map_take.symm]
  have hxk:zdn g Q[k]=((Q.map (zdn g)).filter fun x=>!(!decide (x∈p) || decide (x∈q)))[i]:=by rw [← e1]; simp
  have hlt:=Qg.lt Q[k] (List.getElem_mem hkQ)
  obtain ⟨j,j1,j2⟩:=(za5 F).1 ho
  obtain ⟨hj,ej⟩:=List.getElem?_eq_some_iff.1 j1
  obtain ⟨hjo,rfl⟩:=List.getElem?_eq_some_iff.1 j2
  have hjk:j=Q[k]:=by
   have:=z6y F.ri hj
   rw [ej,← hxk,zeh G.e hlt] at this
   exact this.symm
  have hpp:g.IDs.idxOf y∈z17 g Q[k]:=by
   unfold z17
   refine List.mem_map.2 ⟨y,?_,rfl⟩
   rw [← hjk,z54 hjo]; exact hy
  exact List.mem_map.2 ⟨_,Qt k hkQ _ hpp,zby hbl.1⟩
structure Mid (a b s:z00) (d:List ID) (i:Nat):Prop where
 fit:Fit s (16+i)
 sound:zn3 s
 wf:∀ o∈s.Ops,zcd o
 ids:∀ x,x∈s.IDs↔x∈b.IDs∨x∈d.take i
 look:∀ x o,z4w s x=some o→z4w a x=some o∨z4w b x=some o
theorem zsy:Fit (⟨[],[]⟩:z00) 0:=⟨rfl,Nat.le_refl _,rfl, fun o ho=>by simp at ho⟩
theorem zzu (F:Fit g n) (hn:n≤1000) (hc:z1b g=some 0) {x:ID} {o:z07} (ho:z4w g x=some o):zjp g x=some (o,0):=by
 have h1:=F.len; have h2:=F.ids
 have hx:=(zit ho).1
 obtain ⟨k,k1,k2,-⟩:=zd7 g (by omega) F.ri x
 obtain ⟨rfl,hk⟩:=k2 hx
 have hko:g.IDs.idxOf x<g.Ops.length:=by omega
 have e:g.Ops[g.IDs.idxOf x]=o:=by
  unfold z4w at ho
  rw [if_pos hx,List.getElem?_eq_getElem hko] at ho
  exact Option.some.inj ho
 unfold zjp
 rw [hc]
 simp only [bS]
 rw [if_neg (by simp),k1,decide_eq_true hx]
 simp only [bS]
 rw [if_neg (by simp),z0a hko]
 simp only [bS]
 rw [e,zl5 (by have:=(F.op o (zit ho).2).1; omega)]
 simp only [bS]
theorem zou (Ga:z5o a) (Fa:Fit a n) (Gb:z5o b) (Fb:Fit b m) (hc:zbf a b) {l:List ID} (hl:∀ x∈l,x∈b.IDs) {x:ID} (h:z5c a l x):x∈b.IDs:=by
 have Sb:=znm Gb Fb
 have step:∀ y p,y∈b.IDs→y∈a.IDs→a.IDs.idxOf p∈z17 a (a.IDs.idxOf y)→p∈a.IDs→p∈b.IDs:=fun y p hy hya hp hpa=>by
  obtain ⟨o,ho⟩:=zcb Fa hya
  obtain ⟨q,hq⟩:=zcb Fb hy
  have:=(zf0 Fa Fb).1 hc y o q ho hq
  subst this
  obtain ⟨i,i1,i2⟩:=(za5 Fa).1 ho
  obtain ⟨hi,rfl⟩:=List.getElem?_eq_some_iff.1 i1
  obtain ⟨hio,rfl⟩:=List.getElem?_eq_some_iff.1 i2
  rw [z6y Fa.ri hi] at hp
  unfold z17 at hp
  obtain ⟨z,hz,e⟩:=List.mem_map.1 hp
  rw [z54 hio] at hz
  have:z=p:=zhv hpa e
  subst this
  exact Sb.ins _ _ hq z hz
 obtain ⟨hxa,h⟩:=h
 rcases h with h | ⟨y,hy,hya,hr⟩
 ·
  exact hl x h
 ·
  have key:∀ j,Rch (z17 a) (z17 a (a.IDs.idxOf y)) j→j<a.Ops.length∧zdn a j∈b.IDs:=fun j hj=>by
   induction hj with
   | @base i hi =>
    have hi':=hi
    unfold z17 at hi'
    obtain ⟨z,hz,e⟩:=List.mem_map.1 hi'
    have hza:=z9b Ga.ins _ z hz
    have hlt:i<a.Ops.length:=by rw [← e]; exact zei Ga hza
    refine ⟨hlt,?_⟩
    have:zdn a i=z:=by rw [← e]; exact zby hza
    rw [this]
    exact step y z (hl y hy) hya (by rw [e]; exact hi) hza
   | @step i p hr hp ih =>
    have hp':=hp
    unfold z17 at hp'
    obtain ⟨z,hz,e⟩:=List.mem_map.1 hp'
    have hza:=z9b Ga.ins _ z hz
    have hlt:p<a.Ops.length:=by rw [← e]; exact zei Ga hza
    refine ⟨hlt,?_⟩
    have:zdn a p=z:=by rw [← e]; exact zby hza
    rw [this]
    have hia:zdn a i∈a.IDs:=by rw [z64 (by rw [Fa.ids]; exact ih.1)]; exact List.getElem_mem _
    refine step (zdn a i) z ih.2 hia ?_ hza
    rw [zeh Ga.e ih.1,e]; exact hp
  have:=(key _ hr).2
  rw [zby hxa] at this
  exact this
theorem z13z (Ga:z5o a) (Fa:Fit a n) (wa:z28 a) (Gb:z5o b) (Fb:Fit b m) (hcl:zbf a b) {l r:List ID} (hr:∀ x∈r,x∈b.IDs) {d:List ID} (P:zol a l r d) {s:z00} {i:Nat} (hi:i<d.length) (hd:d.length≤16) (M:Mid a b s d i) :
  (d[i]∈b.IDs∧d[i]∈s.IDs∧Mid a b s d (i+1))∨(∃ o,d[i]∉b.IDs∧d[i]∉s.IDs∧z4w a d[i]=some o∧zon s o=some (zlo s (d[i],o),d[i],0)∧zbj s o=some (zlo s (d[i],o),d[i],0)∧Mid a b (zlo s (d[i],o)) d (i+1)):=by
 have htk:d.take (i+1)=d.take i++[d[i]]:=by rw [List.take_add_one,List.getElem?_eq_getElem hi]; rfl
 by_cases hb:d[i]∈b.IDs
 ·
  refine .inl ⟨hb,(M.ids _).2 (.inl hb),⟨M.fit.ids, by have:=M.fit.len; omega,M.fit.ri,M.fit.op⟩,M.sound,M.wf, fun x=>?_,M.look⟩
  rw [M.ids,htk,List.mem_append,List.mem_singleton]
  constructor
  ·
   rintro (h | h) <;> simp [h]
  ·
   rintro (h | h | rfl)
   ·
    exact .inl h
   ·
    exact .inr h
   ·
    exact .inl hb
 ·
  have hbel:=((P.mem _).1 (List.getElem_mem hi)).1
  obtain ⟨o,ho⟩:=zcb Fa hbel.1
  have hxs:d[i]∉s.IDs:=fun h=>by
   rcases (M.ids _).1 h with h | h
   ·
    exact hb h
   ·
    obtain ⟨j,hj,e⟩:=List.getElem_of_mem h
    rw [List.length_take] at hj
    rw [List.getElem_take] at e
    have:=zot P.nd (by omega) hi e
    omega
  have Sa:=znm Ga Fa
  obtain ⟨k1,k2,k3,k4⟩:=Sa.ops _ o ho
  have hop:=Fa.op o (zit ho).2
  have hq:∀ q∈o.Preds,q∈s.IDs:=fun q hq=>by
   rw [M.ids]
   rcases P.topo i hi o ho q hq with h | h
   ·
    exact .inr h
   ·
    exact .inl (zou Ga Fa Gb Fb hcl hr h)
  have hw:=z15e wa (zit ho).2
  have Fs:Fit s 60:=⟨M.fit.ids, by have:=M.fit.len; omega,M.fit.ri,M.fit.op⟩
  have Gs:=zor Fs M.sound
  obtain ⟨c,c1,c2,c3⟩:=znn (z17x M.fit (by omega) M.wf)
  have hc0:=c3.2 Gs
  subst hc0
  refine .inr ⟨o,hb,hxs,ho,z13q M.fit (by omega) c1 (p:=(d[i],o)) hw hop.1 k1 k2 hxs hq,z15p M.fit (by omega) c2 (p:=(d[i],o)) hw hop k1 k2 hxs hq,zir M.fit hop,zz1 M.fit M.sound (p:=(d[i],o)) hop hxs ⟨k1,k2,k3,k4⟩ hq, fun q hq'=>?_, fun x=>?_, fun x q hx=>?_⟩
  ·
   rcases z17f hq' with rfl | h
   ·
    exact hw
   ·
    exact M.wf q h
  ·
   rw [zvh M.fit,M.ids,htk,List.mem_append,List.mem_singleton]
   constructor
   ·
    rintro (h | h | h) <;> simp [h]
   ·
    rintro (h | h | h) <;> simp [h]
  ·
   rw [zrm M.fit hop hxs] at hx
   split at hx
   ·
    rename_i e
    cases hx
    subst e
    exact .inl ho
   ·
    exact M.look x q hx
end
section
open Go
variable {g a b:z00} {n m:Nat}
theorem z13t (Fa:Fit a n) (hn:n≤1000) {d:List ID} {s:z00} {i:Nat} (hi:i<d.length) (hs:s.IDs.length≤1000) (hx:d[i]∈s.IDs) (s0:z00 × Int) (h0:s0.2=(i:Int)):iter (z3f a d s0) (s,0)=some s:=by
 have h1:=Fa.len; have h2:=Fa.ids
 refine z1q (F:=z3f a d s0) (b:=s) a.IDs.length (fun j=>(s,(j:Int))) (fun j hj=>?_) ?_
 ·
  unfold z3f
  simp only []
  rw [if_pos (by simpa using hj),z0a hj,h0,z0a hi]
  simp only [bS]
  rw [zub _ _ (by omega),decide_eq_true hx,z0e (by omega)]
  simp only [bS]
  by_cases e:a.IDs[j]=d[i]
  ·
   rw [if_pos (by simpa using e)]; simp only [bS]; rw [if_neg (by simp)]
  ·
   rw [if_neg (by simpa using e)]; simp only [bS]; rw [if_neg (by simp)]
 ·
  unfold z3f
  rw [if_neg (by simp)]
theorem zza (Fa:Fit a n) (hn:n≤1000) {d:List ID} {s s':z00} {i:Nat} (hi:i<d.length) (hs:s.IDs.length≤1000) (hx:d[i]∉s.IDs) {o:z07} (ho:z4w a d[i]=some o) {y:ID} {c:Int} (hadd:zbj s o=some (s',y,c)) (s0:z00 × Int) (h0:s0.2=(i:Int)):iter (z3f a d s0) (s,0)=some s':=by
 have h1:=Fa.len; have h2:=Fa.ids
 obtain ⟨k,k1,k2⟩:=(za5 Fa).1 ho
 obtain ⟨hk,ek⟩:=List.getElem?_eq_some_iff.1 k1
 obtain ⟨hko,eo⟩:=List.getElem?_eq_some_iff.1 k2
 refine z1q (F:=z3f a d s0) (b:=s') a.IDs.length (fun j=>(if j≤k then s else s',(j:Int))) (fun j hj=>?_) ?_
 ·
  unfold z3f
  simp only []
  rw [if_pos (by simpa using hj),z0a hj,h0,z0a hi]
  simp only [bS]
  by_cases e:j=k
  ·
   subst e
   rw [if_pos (by simpa using ek),if_pos (Nat.le_refl _),zub _ _ (by omega),decide_eq_false hx]
   simp only [bS]
   rw [if_pos (by simp),z0a hko,eo]
   simp only [bS]
   rw [hadd,z0e (by omega),if_neg (by omega)]
   simp only [bS]
  ·
   have hne:a.IDs[j]≠d[i]:=fun h=>e (zwm Fa.ri hj hk (h.trans ek.symm))
   rw [if_neg (by simpa using hne),z0e (by omega)]
   simp only [bS]
   rw [if_neg (by simp)]
   by_cases h:j<k
   ·
    rw [if_pos (by omega),if_pos (by omega)]
   ·
    rw [if_neg (by omega),if_neg (by omega)]
 ·
  unfold z3f
  simp only []
  rw [if_neg (by simp),if_neg (by omega)]
theorem zyl (Ga:z5o a) (Fa:Fit a n) (hn:n≤60) (wa:z28 a) (ha:z1b a=some 0) (Gb:z5o b) (Fb:Fit b m) (hm:m≤60) (hcl:zbf a b) {l r:List ID} (hr:∀ x∈r,x∈b.IDs) {d:List ID} (P:zol a l r d) (hd:d.length≤16) :
  ∀ k i s,d.length - i=k→i≤d.length→Mid a b s d i→∃ s',iter (z9d a b d) (s,(i:Int))=some s'∧iter (z5j a d) (s,(i:Int))=some s'∧Mid a b s' d d.length:=by
 have hb1:=Fb.len; have hb2:=Fb.ids
 intro k
 induction k with
 | zero =>
  intro i s hk hi M
  have:i=d.length:=by omega
  subst this
  refine ⟨s,z1m ?_,z1m ?_,M⟩
  ·
   unfold z9d; rw [if_neg (by simp)]
  ·
   unfold z5j; rw [if_neg (by simp)]
 | succ k ih =>
  intro i s hk hi M
  have hid:i<d.length:=by omega
  have hsl:=M.fit.len; have hsi:=M.fit.ids
  rcases z13z Ga Fa wa Gb Fb hcl hr P hid hd M with ⟨hb,hs,M'⟩ | ⟨o,hb,hs,ho,h1,h2,M'⟩
  ·
   have hF:z9d a b d (s,(i:Int))=some (.inr (s,((i+1:Nat):Int))):=by
    unfold z9d
    simp only []
    rw [if_pos (by simpa using hid),z0a hid]
    simp only [bS]
    rw [zak _ _ (by omega),decide_eq_true hb,z0e (by omega)]
    simp only [bS]
    rfl
   have hG:z5j a d (s,(i:Int))=some (.inr (s,((i+1:Nat):Int))):=by
    unfold z5j
    simp only []
    rw [if_pos (by simpa using hid),z13t Fa (by omega) hid (by omega) hs _ rfl,z0e (by omega)]
    simp only [bS]
   rw [z1y hF,z1y hG]
   exact ih (i+1) s (by omega) (by omega) M'
  ·
   have hF:z9d a b d (s,(i:Int))=some (.inr (zlo s (d[i],o),((i+1:Nat):Int))):=by
    unfold z9d
    simp only []
    rw [if_pos (by simpa using hid),z0a hid]
    simp only [bS]
    rw [zak _ _ (by omega),decide_eq_false hb]
    simp only [bS]
    rw [if_neg (by simp),zzu Fa (by omega) ha ho]
    simp only [bS]
    rw [h1,z0e (by omega)]
    simp only [bS]
   have hG:z5j a d (s,(i:Int))=some (.inr (zlo s (d[i],o),((i+1:Nat):Int))):=by
    unfold z5j
    simp only []
    rw [if_pos (by simpa using hid),zza Fa (by omega) hid (by omega) hs ho h2 _ rfl,z0e (by omega)]
    simp only [bS]
   rw [z1y hF,z1y hG]
   exact ih (i+1) _ (by omega) (by omega) M'
theorem zvi:zn3 (⟨[],[]⟩:z00):=⟨fun x o h=>by simp [z4w] at h, fun x o h=>by simp [z4w] at h, fun _=>0, fun x o h=>by simp [z4w] at h⟩
theorem zqr:z5o (⟨[],[]⟩:z00):=zor (g:=⟨[],[]⟩) ⟨rfl, by simp,rfl, fun o ho=>by simp at ho⟩ zvi
theorem zo5:z1b (⟨[],[]⟩:z00)=some 0∧z0h (⟨[],[]⟩:z00)=some 0:=by
 obtain ⟨c,c1,c2,c3⟩:=znn (g:=⟨[],[]⟩) (z17x zsy (by omega) fun o ho=>by simp at ho)
 have:=c3.2 zqr
 subst this
 exact ⟨c1,c2⟩
theorem zvj (Gb:z5o b) (hb:z1b b=some 0) (hb':z0h b=some 0) (Fb:Fit b m) (hm:m≤60):zg7 b (⟨[],[]⟩:z00)=some (b,0):=by
 obtain ⟨r,r1,-,r3⟩:=zqq Gb zqr hb zo5.1 hb' zo5.2 Fb zsy (by omega)
 rcases r3 with ⟨-,h⟩ | ⟨rfl,-⟩
 ·
  exact absurd (fun i hi=>by simp at hi) h
 ·
  exact r1
theorem zxr (G:z5o g) (h2:z0h g=some 0) (l:List ID) (hl:l.length≤60):∃ d,zdd g l=some d∧zhd g l=some (d,0)∧d.length≤l.length∧∀ x,x∈d↔x∈l∧x∉g.IDs:=by
 obtain ⟨d,d1,d2,d3⟩:=zq0 G.e l hl
 obtain ⟨e,e1,e2,e3⟩:=z129 G.e l hl
 have:d=e:=zcj _ _ ((z8b _).1 d2) ((z8b _).1 e2) fun y=>by rw [d3,e3]
 subst this
 refine ⟨d,d1,?_,z82 _ _ (z9v d2) fun x hx=>((d3 x).1 hx).1,d3⟩
 have hk:zlq 0 l []=0:=by unfold zlq; rw [if_neg (by simp),if_neg (by omega),if_neg (by simp)]
 unfold zhd
 rw [ztn h2,hk]
 simp only [bS]
 rw [if_neg (by simp),e1]
 simp only [bS]
theorem zqb (G:z5o g) (h1:z1b g=some 0) (h2:z0h g=some 0):∃ r,zbl g=some (r,0)∧zhj g=some (r,0)∧r.length≤60∧r=zah g (top g g.Ops.length):=by
 have hlen:=G.e.len
 have hids:=G.e.ids
 obtain ⟨r,p1,p2⟩:=znr G.e
 have hl:=zlt (g:=g) (zmp G.e (top g g.Ops.length)) fun y hy=>((zh1 G.e).1 hy).1
 have d0:((0:Int) != 0)=false:=rfl
 unfold zbl zhj
 rw [h1,h2]
 simp only [bS]
 simp only [d0,Bool.false_eq_true,if_false]
 rw [p1,z145 G.e G.ins]
 simp only [bS]
 rw [zjf (by omega) (by omega),hids]
 simp only [bS]
 rw [z1a1 _ (by omega)]
 simp only [bS]
 rw [zxi G.e G.ins p2]
 simp only [bS]
 rw [zyv G.e]
 exact ⟨_,rfl,rfl, by omega,rfl⟩
theorem zsz (Fa:Fit a n) (Fb:Fit b m) (h:zbf a b):zbf b a:=(zf0 Fb Fa).2 fun x o q ho hq=>((zf0 Fa Fb).1 h x q o hq ho).symm
end
section
open Go
variable {g:z00}
theorem znw {n x:Nat}:top g n x=true↔∀ k,k<n→x∉z17 g k:=by
 unfold top
 rw [List.all_eq_true]
 constructor
 ·
  intro h k hk hx
  have:=h k (by simpa using hk)
  simp [hx] at this
 ·
  intro h k hk
  have:=h k (by simpa using hk)
  simp [this]
theorem z12n (G:z5o g) (hc:z1b g=some 0):∀ i,i<g.Ops.length→∃ t,t<g.Ops.length∧top g g.Ops.length t=true∧Rch (z17 g) [t] i:=by
 obtain ⟨Q,q1,q2,q3⟩:=zra G hc
 obtain ⟨got,topo⟩:=q2.got
 have hall:∀ i,i<g.Ops.length→i∈Q:=(zn6 got.nodup got.lt).1 (by omega)
 have key:∀ m i,g.Ops.length - Q.idxOf i=m→i<g.Ops.length→∃ t,t<g.Ops.length∧top g g.Ops.length t=true∧Rch (z17 g) [t] i:=by
  intro m
  induction m using Nat.strongRecOn with
  | _ m ih =>
   intro i hm hi
   cases ht:top g g.Ops.length i with
   | true=>exact ⟨i,hi,ht,.base (by simp)⟩
   | false =>
    have:∃ k,k<g.Ops.length∧i∈z17 g k:=by
     refine Classical.byContradiction fun hn=>?_
     have:top g g.Ops.length i=true:=znw.2 fun k hk hx=>hn ⟨k,hk,hx⟩
     rw [ht] at this; simp at this
    obtain ⟨k,hk,hx⟩:=this
    have hkQ:=List.idxOf_lt_length_of_mem (hall k hk)
    have hlt:Q.idxOf i<Q.idxOf k:=by
     have h1:=topo (Q.idxOf k) hkQ i (by rw [List.getElem_idxOf]; exact hx)
     obtain ⟨j,hj,e⟩:=List.getElem_of_mem h1
     rw [List.length_take] at hj
     rw [List.getElem_take] at e
     have h2:Q.idxOf i≤j:=by
      refine Nat.le_of_not_lt fun c=>?_
      have h3:=List.idxOf_lt_length_of_mem (hall i hi)
      have:=(List.getElem_inj (xs:=Q) (i:=j) (j:=Q.idxOf i) (h₀:=by omega) (h₁:=h3) got.nodup).1 (by rw [e,List.getElem_idxOf])
      omega
     omega
    obtain ⟨t,t1,t2,t3⟩:=ih _ (by omega) k rfl hk
    exact ⟨t,t1,t2,.step t3 hx⟩
 exact fun i hi=>key _ i rfl hi
end
section
open Go
variable {a b g:z00} {n m:Nat}
theorem z12b (Ga:z5o a) (Fa:Fit a n) (Gb:z5o b) (Fb:Fit b m) (hc:zbf a b) {t:ID} (ht:t∈b.IDs) (hta:t∈a.IDs) {x:ID} (hx:x∈a.IDs) (hr:Rch (z17 a) [a.IDs.idxOf t] (a.IDs.idxOf x)):x∈b.IDs :=
 zou Ga Fa Gb Fb hc (l:=[t]) (fun z hz=>by rw [List.mem_singleton] at hz; subst hz; exact ht) ⟨hx, by
  rcases zkx.1 hr with h | ⟨s,h1,h2⟩
  ·
   rw [List.mem_singleton] at h
   exact .inl (by rw [List.mem_singleton]; exact zhv hta h)
  ·
   rw [List.mem_singleton] at h1
   subst h1
   exact .inr ⟨t, by simp,hta,h2⟩⟩
theorem ztr (Ga:z5o a) (Gb:z5o b) (wa:z28 a) (wb:z28 b) (ha:z1b a=some 0) (hb:z1b b=some 0) (ha':z0h a=some 0) (hb':z0h b=some 0) (Fa:Fit a 16) (Fb:Fit b 16) (hcl:zbf a b) :
  ∃ w d,zd3 a b=some (zdw a b,((outP (zix (d.map (bts a)) d.length)).length:Int))∧zol a w (zah b (top b b.Ops.length)) d∧(∀ x,x∈w↔x∈zah a (top a a.Ops.length)∧x∉b.IDs)∧d.length≤16:=by
 obtain ⟨x,x1,x2,x3,x4⟩:=zqb Ga ha ha'
 obtain ⟨y,y1,y2,y3,y4⟩:=zqb Gb hb hb'
 obtain ⟨w,w1,w2,w3,w4⟩:=zxr Gb hb' x x3
 obtain ⟨d,d1,d2,P⟩:=zsd Ga Fa ha ha' w y (by omega) y3
 have hyb:∀ z∈y,z∈b.IDs:=fun z hz=>by rw [y4] at hz; exact ((zh1 Gb.e).1 hz).1
 have hdin:∀ z∈d,z∈a.IDs:=fun z hz=>((P.mem z).1 hz).1.1
 have hd16:d.length≤16:=by
  have:=z82 _ _ P.nd hdin
  have:=Fa.len; have:=Fa.ids
  omega
 have M0:Mid a b b d 0:=⟨⟨Fb.ids, by have:=Fb.len; omega,Fb.ri,Fb.op⟩,znm Gb Fb, fun o ho=>z15e wb ho, fun z=>by simp, fun z o h=>.inr h⟩
 obtain ⟨s,s1,s2,M⟩:=zyl Ga Fa (by omega) wa ha Gb Fb (by omega) hcl hyb P hd16 _ 0 b rfl (Nat.zero_le _) M0
 have hs:s=zdw a b:=by
  refine zl8 M.fit (zp1 Fa Fb) fun z=>?_
  rw [zm4 Fa Fb]
  have hM:=M.ids z
  rw [List.take_length] at hM
  cases hz:z4w s z with
  | some o =>
   rcases M.look z o hz with h | h
   ·
    rw [h]; rfl
   ·
    cases ho:z4w a z with
    | none=>rw [h]; rfl
    | some q=>rw [(zf0 Fa Fb).1 hcl z q o ho h]; rfl
  | none =>
   have hn:z∉s.IDs:=fun hc=>by
    obtain ⟨o,ho⟩:=zcb M.fit hc
    rw [hz] at ho; simp at ho
   have hzb:z∉b.IDs:=fun hc=>hn (hM.2 (.inl hc))
   have hza:z∉a.IDs:=fun hc=>by
    obtain ⟨t,t1,t2,t3⟩:=z12n Ga ha (a.IDs.idxOf z) (zei Ga hc)
    have htl:t<a.IDs.length:=by have:=Ga.e.ids; omega
    have hta:zdn a t∈a.IDs:=by rw [z64 htl]; exact List.getElem_mem _
    have htx:a.IDs.idxOf (zdn a t)=t:=zeh Ga.e t1
    have htb:zdn a t∉b.IDs:=fun hb=>hzb (z12b Ga Fa Gb Fb hcl hb hta hc (by rw [htx]; exact t3))
    have htw:zdn a t∈w:=by rw [w4,x4]; exact ⟨(zh1 Ga.e).2 ⟨hta, by rw [htx]; exact t2⟩,htb⟩
    refine hn (hM.2 (.inr ((P.mem z).2 ⟨⟨hc,?_⟩, fun hk=>hzb (zou Ga Fa Gb Fb hcl hyb hk)⟩)))
    rcases zkx.1 t3 with h | ⟨q,h1,h2⟩
    ·
     rw [List.mem_singleton] at h
     have:z=zdn a t:=by rw [← h]; exact (zby hc).symm
     rw [this]; exact .inl htw
    ·
     rw [List.mem_singleton] at h1
     subst h1
     exact .inr ⟨zdn a q,htw,hta, by rw [htx]; exact h2⟩
   rw [zer hza,zer hzb]; rfl
 refine ⟨w,d,?_, by rw [← y4]; exact P, fun z=>by rw [w4,x4],hd16⟩
 rw [← hs]
 unfold zd3
 rw [x1,y1]
 simp only [bS]
 rw [w1]
 simp only [bS]
 rw [d1,zvj Gb hb hb' Fb (by omega)]
 simp only [bS]
 rw [show ((b,(0:Int)):z00 × Int)=(b,((0:Nat):Int)) from rfl,s1,zuk Ga wa ha d (by omega) hdin]
 simp only [bS]
end
section
open Go
theorem okB_ {y:UInt32} {st:UInt64} {P:List O8} {sg:z0b} (hp:P.length≤4) (h:zg8 (zhp y st P sg)=0):OkN (zhp y st P sg):=⟨h, by show (P.map idv).length≤4; rw [List.length_map]; exact hp, by show ([]:List UInt8).length≤100; simp, by show ([]:List UInt8).length≤100; simp, by show inI 0; unfold inI; omega⟩
theorem wfB_ {y:UInt32} {st:UInt64} {P:List O8} {sg:z0b} (hp:P.length≤4):zcd (zhp y st P sg):=by
 have h4:(P.map idv).length≤4:=by rw [List.length_map]; exact hp
 refine ⟨trivial,⟨fun x _ y _=>trivial,Nat.le_trans h4 (by omega)⟩,trivial,?_,?_⟩
 ·
  refine ⟨trivial,?_,⟨trivial,?_,trivial,?_,trivial⟩,trivial⟩
  ·
   show ([]:List UInt8).length≤_; simp
  ·
   show inI 0; unfold inI; omega
  ·
   show ([]:List UInt8).length≤_; simp
 ·
  exact ⟨⟨trivial,trivial,trivial⟩,trivial⟩
theorem z168:z5k [idv ib,idv ia,idv id4,idv ic]=true:=by
 have h:=zr8 [ib,ia,id4,ic]
 rw [show zuw [ib,ia,id4,ic]=true by decide +kernel] at h
 exact h
theorem pw27:kd (idv ib)<kd (idv ia)∧kd (idv ia)<kd (idv id4)∧kd (idv id4)<kd (idv ic) :=
 ⟨zd9 z168 (i:=0) (j:=1) (by simp) (by simp) (by omega),zd9 z168 (i:=1) (j:=2) (by simp) (by simp) (by omega),zd9 z168 (i:=2) (j:=3) (by simp) (by simp) (by omega)⟩
theorem okA:OkN xA:=okB_ (by simp) (zwn runA)
theorem okB:OkN xB:=okB_ (by simp) (zwn runB)
theorem okC:OkN xC:=okB_ (by simp) (zwn runC)
theorem okD:OkN xD:=okB_ (by simp) (zwn runD)
theorem jA:oid xA=idv ia:=(zq6 runA).2.2.2.2.2
theorem jB:oid xB=idv ib:=(zq6 runB).2.2.2.2.2
theorem jC:oid xC=idv ic:=(zq6 runC).2.2.2.2.2
theorem jD:oid xD=idv id4:=(zq6 runD).2.2.2.2.2
abbrev gA:z00:=⟨[idv ib,idv ia,idv ic],[xB,xA,xC]⟩
abbrev gB:z00:=⟨[idv ia],[xA]⟩
abbrev gC:z00:=⟨[idv ia,idv id4],[xA,xD]⟩
theorem incA:z5k [idv ib,idv ia,idv ic]=true:=by
 obtain ⟨h1,h2,h3⟩:=pw27
 rw [z8b]
 simp only [List.pairwise_cons,List.mem_cons,List.not_mem_nil,or_false]
 refine ⟨?_,?_,⟨fun z hz=>absurd hz id,List.Pairwise.nil⟩⟩
 ·
  rintro z (rfl | rfl)
  ·
   exact h1
  ·
   omega
 ·
  rintro z rfl; omega
theorem incC:z5k [idv ia,idv id4]=true:=by
 obtain ⟨h1,h2,h3⟩:=pw27
 rw [z8b]
 simp only [List.pairwise_cons,List.mem_cons,List.not_mem_nil,or_false]
 exact ⟨fun z hz=>by subst hz; exact h2,⟨fun z hz=>absurd hz id,List.Pairwise.nil⟩⟩
theorem inc1 (z:ID):z5k [z]=true:=by rw [z8b]; simp
theorem inc0:z5k []=true:=by rw [z8b]; simp
theorem isA:Fit gA 60∧zn3 gA:=by
 have i0:[idv ib,idv ia,idv ic].idxOf (idv ib)=0:=z6y incA (k:=0) (by simp)
 have i1:[idv ib,idv ia,idv ic].idxOf (idv ia)=1:=z6y incA (k:=1) (by simp)
 refine zp5 [1,0,2] rfl (by simp) incA fun i hi=>?_
 match i,hi with
 | 0,_=>exact ⟨okB,jB,inc1 _, fun p hp=>by
   have hp:p∈[idv ia]:=hp
   rw [List.mem_singleton] at hp
   subst hp
   exact ⟨by simp, by rw [i1]; decide⟩⟩
 | 1,_=>exact ⟨okA,jA,inc0, fun p hp=>by
   have hp:p∈([]:List ID):=hp
   simp at hp⟩
 | 2,_=>exact ⟨okC,jC,inc1 _, fun p hp=>by
   have hp:p∈[idv ib]:=hp
   rw [List.mem_singleton] at hp
   subst hp
   exact ⟨by simp, by rw [i0]; decide⟩⟩
theorem isB:Fit gB 60∧zn3 gB:=by
 refine zp5 [0] rfl (by simp) (inc1 _) fun i hi=>?_
 match i,hi with
 | 0,_=>exact ⟨okA,jA,inc0, fun p hp=>by
   have hp:p∈([]:List ID):=hp
   simp at hp⟩
theorem isC:Fit gC 60∧zn3 gC:=by
 have i0:[idv ia,idv id4].idxOf (idv ia)=0:=z6y incC (k:=0) (by simp)
 refine zp5 [0,1] rfl (by simp) incC fun i hi=>?_
 match i,hi with
 | 0,_=>exact ⟨okA,jA,inc0, fun p hp=>by
   have hp:p∈([]:List ID):=hp
   simp at hp⟩
 | 1,_=>exact ⟨okD,jD,inc1 _, fun p hp=>by
   have hp:p∈[idv ia]:=hp
   rw [List.mem_singleton] at hp
   subst hp
   exact ⟨by simp, by rw [i0]; decide⟩⟩
theorem ofB:z65 [xA]=some (gB,0):=zzf isB.1 isB.2 (fun o=>Iff.rfl) (by simp) (fun o ho=>by rw [List.mem_singleton] at ho; subst ho; exact okA) (by simp)
theorem ofC:z65 [xA,xD]=some (gC,0):=zzf isC.1 isC.2 (fun o=>Iff.rfl) (by simp) (fun o ho=>by
 simp only [List.mem_cons,List.not_mem_nil,or_false] at ho
 rcases ho with rfl | rfl
 ·
  exact okA
 ·
  exact okD) (by
 rw [List.map_cons,List.map_cons,List.map_nil,jA,jD]; exact z9v incC)
theorem ofA:z65 [xA,xB,xC]=some (gA,0):=zzf isA.1 isA.2 (fun o=>by
 simp only [List.mem_cons,List.not_mem_nil,or_false]
 constructor
 ·
  rintro (h | h | h) <;> simp [h]
 ·
  rintro (h | h | h) <;> simp [h]) (by simp) (fun o ho=>by
 simp only [List.mem_cons,List.not_mem_nil,or_false] at ho
 rcases ho with rfl | rfl | rfl
 ·
  exact okA
 ·
  exact okB
 ·
  exact okC) (by
 rw [List.map_cons,List.map_cons,List.map_cons,List.map_nil,jA,jB,jC]
 have h:=z9v incA
 simp only [List.nodup_cons,List.mem_cons,List.not_mem_nil,or_false,not_or,not_false_eq_true,List.nodup_nil,and_true] at h ⊢
 obtain ⟨⟨h1,h2⟩,h3⟩:=h
 exact ⟨⟨fun e=>h1 e.symm,h3⟩,h2⟩)
end
section
open Go
variable {g:z00} {n:Nat}
theorem zqv {a b:List ID} (ha:a.length≤60) (hb:b.length≤60):zlq 0 a b=0:=by
 unfold zlq
 rw [if_neg (by simp),if_neg (by omega),if_neg (by omega)]
theorem z13c (G:z5o g) (h1:z1b g=some 0) (l:List ID) (hl:l.length≤60):∃ d,zey g l=some (d,0)∧z5k d=true∧∀ x,x∈d↔x∈l∧x∉g.IDs:=by
 obtain ⟨d,d1,d2,d3⟩:=zq0 G.e l hl
 refine ⟨d,?_,d2,d3⟩
 unfold zey
 rw [zsn h1,zqv hl (by simp)]
 simp only [bS]
 rw [if_neg (by simp),d1]
 rfl
theorem z149 (G:z5o g) (h1:z1b g=some 0) (l:List ID) (hl:l.length≤60):∃ d,zh3 g l=some (d,0)∧z5k d=true∧∀ y,y∈d↔z5c g l y:=by
 obtain ⟨d,d1,d2,d3⟩:=zmo G h1 l hl
 refine ⟨d,?_,d2,d3⟩
 unfold zh3
 rw [zsn h1,zqv hl (by simp)]
 simp only [bS]
 have hdl:=zlt (g:=g) d2 fun y hy=>((d3 y).1 hy).1
 have:=G.e.len; have:=G.e.ids
 rw [if_neg (by simp),d1]
 simp only [bS]
 rw [zen d (by omega)]
 rfl
theorem zuo (G:z5o g) (F:Fit g n) (h1:z1b g=some 0) (h2:z0h g=some 0) (a b:List ID) (ha:a.length≤60) (hb:b.length≤60):∃ d,zc5 g a b=some (d,0)∧zol g a b d:=by
 obtain ⟨d,d1,-,P⟩:=zsd G F h1 h2 a b ha hb
 refine ⟨d,?_,P⟩
 unfold zc5
 rw [z123 h1,zqv ha hb]
 simp only [bS]
 rw [if_neg (by simp),d1]
 rfl
end
section
open Go
theorem zn4:z5o gA:=zor isA.1 isA.2
theorem ztd:z5o gB:=zor isB.1 isB.2
theorem wfA:z28 gA:=⟨⟨fun x _ y _=>trivial, by simp⟩,⟨fun o ho=>by
 simp only [List.mem_cons,List.not_mem_nil,or_false] at ho
 rcases ho with rfl | rfl | rfl
 ·
  exact wfB_ (by simp)
 ·
  exact wfB_ (by simp)
 ·
  exact wfB_ (by simp), by simp⟩,trivial⟩
theorem wfB:z28 gB:=⟨⟨fun x _ y _=>trivial, by simp⟩,⟨fun o ho=>by
 rw [List.mem_singleton] at ho
 subst ho
 exact wfB_ (by simp), by simp⟩,trivial⟩
theorem zcm {g:z00} (G:z5o g) (w:z28 g):z1b g=some 0∧z0h g=some 0:=by
 obtain ⟨c,c1,c2,c3⟩:=znn w
 have hc:=c3.2 G
 subst hc
 exact ⟨c1,c2⟩
theorem idxA:gA.IDs.idxOf (idv ib)=0∧gA.IDs.idxOf (idv ia)=1∧gA.IDs.idxOf (idv ic)=2 :=
 ⟨z6y (l:=gA.IDs) incA (k:=0) (by simp),z6y (l:=gA.IDs) incA (k:=1) (by simp),z6y (l:=gA.IDs) incA (k:=2) (by simp)⟩
theorem z10m:z17 gA 0=[1]∧z17 gA 1=[]∧z17 gA 2=[0]∧∀ n,z17 gA (n+3)=[]:=by
 obtain ⟨i0,i1,i2⟩:=idxA
 refine ⟨?_,rfl,?_, fun n=>rfl⟩
 ·
  show [gA.IDs.idxOf (idv ia)]=[1]; rw [i1]
 ·
  show [gA.IDs.idxOf (idv ib)]=[0]; rw [i0]
theorem z19l:∀ n,z17 gB n=[]
 | 0=>rfl
 | n+1=>rfl
theorem z155 {x:ID}:z5c gA [idv ic] x↔x∈gA.IDs:=by
 obtain ⟨i0,i1,i2⟩:=idxA
 obtain ⟨p0,p1,p2,p3⟩:=z10m
 refine ⟨fun h=>h.1, fun h=>⟨h,?_⟩⟩
 have h':=h
 simp only [List.mem_cons,List.not_mem_nil,or_false] at h'
 rcases h' with rfl | rfl | rfl
 ·
  exact .inr ⟨idv ic, by simp, by simp, by rw [i2,i0,p2]; exact .base (by simp)⟩
 ·
  exact .inr ⟨idv ic, by simp, by simp, by rw [i2,i1,p2]; exact .step (.base (i:=0) (by simp)) (by rw [p0]; simp)⟩
 ·
  exact .inl (by simp)
theorem z154 {x:ID}:z5c gA [idv ia] x↔x=idv ia:=by
 obtain ⟨i0,i1,i2⟩:=idxA
 obtain ⟨p0,p1,p2,p3⟩:=z10m
 constructor
 ·
  rintro ⟨h,h1 | ⟨z,h1,h2,h3⟩⟩
  ·
   exact List.mem_singleton.1 h1
  ·
   rw [List.mem_singleton] at h1
   subst h1
   rw [i1,p1] at h3
   rcases zkx.1 h3 with h4 | ⟨s,h4,-⟩ <;> simp at h4
 ·
  rintro rfl
  exact ⟨by simp,.inl (by simp)⟩
theorem ne_D:idv id4∉gA.IDs:=fun h=>by
 obtain ⟨h1,h2,h3⟩:=pw27
 simp only [List.mem_cons,List.not_mem_nil,or_false] at h
 rcases h with h | h | h
 ·
  rw [h] at h2; omega
 ·
  rw [h] at h2; omega
 ·
  rw [h] at h3; omega
theorem zq9 {x:ID}:¬ z5c gA [idv id4] x:=by
 rintro ⟨h,h1 | ⟨z,h1,h2,h3⟩⟩
 ·
  rw [List.mem_singleton] at h1; subst h1; exact ne_D h
 ·
  rw [List.mem_singleton] at h1; subst h1; exact ne_D h2
end
section
open Go
theorem neAB:idv ia≠idv ib∧idv ia≠idv ic∧idv ib≠idv ic:=by
 have h:=z9v incA
 simp only [List.nodup_cons,List.mem_cons,List.not_mem_nil,or_false,not_or,not_false_eq_true,List.nodup_nil,and_true] at h
 exact ⟨fun e=>h.1.1 e.symm,h.2,h.1.2⟩
theorem z10i:z4w gA (idv ib)=some xB∧z4w gA (idv ia)=some xA∧z4w gA (idv ic)=some xC:=by
 obtain ⟨i0,i1,i2⟩:=idxA
 refine ⟨?_,?_,?_⟩
 ·
  unfold z4w; rw [if_pos (by simp),i0]; rfl
 ·
  unfold z4w; rw [if_pos (by simp),i1]; rfl
 ·
  unfold z4w; rw [if_pos (by simp),i2]; rfl
theorem zwh {d:List ID} (P:zol gA [idv ic] [idv ia] d):d=[idv ib,idv ic]:=by
 obtain ⟨n1,n2,n3⟩:=neAB
 obtain ⟨l1,l2,l3⟩:=z10i
 have hm:∀ x,x∈d↔x∈[idv ib,idv ic]:=fun x=>by
  rw [P.mem,z155,z154]
  simp only [List.mem_cons,List.not_mem_nil,or_false]
  constructor
  ·
   rintro ⟨h | h | h,hn⟩
   ·
    exact .inl h
   ·
    exact absurd h hn
   ·
    exact .inr h
  ·
   rintro (rfl | rfl)
   ·
    exact ⟨.inl rfl, fun e=>n1 e.symm⟩
   ·
    exact ⟨.inr (.inr rfl), fun e=>n2 e.symm⟩
 have hl:d.length=2:=zo4 P.nd (q:=[idv ib,idv ic]) (by simp [n3]) hm
 obtain ⟨p,q,rfl⟩:∃ p q,d=[p,q]:=by
  match d,hl with
  | [p,q],_=>exact ⟨p,q,rfl⟩
 have hp:=(hm p).1 (by simp)
 have hq:=(hm q).1 (by simp)
 have hpq:p≠q:=by have:=P.nd; simp at this; exact this
 simp only [List.mem_cons,List.not_mem_nil,or_false] at hp hq
 rcases hp with rfl | rfl
 ·
  rcases hq with rfl | rfl
  ·
   exact absurd rfl hpq
  ·
   rfl
 ·
  exfalso
  rcases P.topo 0 (by simp) xC l3 (idv ib) (by show idv ib∈[idv ib]; simp) with h | h
  ·
   simp at h
  ·
   exact n1 (z154.1 h).symm
theorem zxw {d:List ID} (P:zol gA [idv ic] [idv id4] d):d=[idv ia,idv ib,idv ic]:=by
 obtain ⟨n1,n2,n3⟩:=neAB
 obtain ⟨l1,l2,l3⟩:=z10i
 have hm:∀ x,x∈d↔x∈[idv ia,idv ib,idv ic]:=fun x=>by
  rw [P.mem,z155]
  simp only [List.mem_cons,List.not_mem_nil,or_false]
  constructor
  ·
   rintro ⟨h | h | h,hn⟩
   ·
    exact .inr (.inl h)
   ·
    exact .inl h
   ·
    exact .inr (.inr h)
  ·
   rintro (rfl | rfl | rfl)
   ·
    exact ⟨.inr (.inl rfl),zq9⟩
   ·
    exact ⟨.inl rfl,zq9⟩
   ·
    exact ⟨.inr (.inr rfl),zq9⟩
 have hl:d.length=3:=zo4 P.nd (q:=[idv ia,idv ib,idv ic]) (by simp [n1,n2,n3]) hm
 obtain ⟨p,q,r,rfl⟩:∃ p q r,d=[p,q,r]:=by
  match d,hl with
  | [p,q,r],_=>exact ⟨p,q,r,rfl⟩
 have hp:=(hm p).1 (by simp)
 have hq:=(hm q).1 (by simp)
 have hr:=(hm r).1 (by simp)
 have hnd:=P.nd
 simp only [List.nodup_cons,List.mem_cons,List.not_mem_nil,or_false,not_or,not_false_eq_true,List.nodup_nil,and_true] at hnd
 obtain ⟨⟨k1,k2⟩,k3⟩:=hnd
 simp only [List.mem_cons,List.not_mem_nil,or_false] at hp hq hr
 rcases hp with rfl | rfl | rfl
 ·
  rcases hq with rfl | rfl | rfl
  ·
   exact absurd rfl k1
  ·
   rcases hr with rfl | rfl | rfl
   ·
    exact absurd rfl k2
   ·
    exact absurd rfl k3
   ·
    rfl
  ·
   exfalso
   rcases P.topo 1 (by simp) xC l3 (idv ib) (by show idv ib∈[idv ib]; simp) with h | h
   ·
    simp at h; exact n1 h.symm
   ·
    exact zq9 h
 ·
  exfalso
  rcases P.topo 0 (by simp) xB l1 (idv ia) (by show idv ia∈[idv ia]; simp) with h | h
  ·
   simp at h
  ·
   exact zq9 h
 ·
  exfalso
  rcases P.topo 0 (by simp) xC l3 (idv ib) (by show idv ib∈[idv ib]; simp) with h | h
  ·
   simp at h
  ·
   exact zq9 h
end
section
open Go
theorem z16p {b c:List UInt8} (h:b.length≤400) (h':c.length≤400):okF [b,c]=true:=by
 have h1:=z13 ([b,c]:List (List UInt8)).length (by simp)
 have h2:=z13 b.length (by omega)
 have h3:=z13 c.length (by omega)
 unfold okF zp3 zja
 simp only [Bool.and_eq_true,decide_eq_true_eq,List.length_append,List.flatMap_cons,List.flatMap_nil,List.length_cons,List.length_nil] at *
 omega
theorem z16r {b c:List UInt8} (h:b.length≤400) (h':c.length≤400):(outP (zix [b,c] 2)).length=1:=by
 have e1:zix [b,c] 1=some ([],[b]):=rfl
 rw [zpy [b,c] (i:=1) (by simp),e1]
 show (outP (if okF ([b]++[c]) then some ([],[b]++[c]) else some ([]++[[b]],[c]))).length=1
 rw [show [b]++[c]=[b,c] from rfl,z16p h h',if_pos rfl]
 rfl
end
section
open Go
theorem zht:Fit gA 16:=⟨isA.1.ids, by simp,isA.1.ri,isA.1.op⟩
theorem zl2:Fit gB 16:=⟨isB.1.ids, by simp,isB.1.ri,isB.1.op⟩
theorem idxB:gB.IDs.idxOf (idv ia)=0:=z6y (l:=gB.IDs) isB.1.ri (k:=0) (by simp)
theorem z16l {x:ID}:z4w gB x=if x=idv ia then some xA else none:=by
 by_cases h:x=idv ia
 ·
  subst h
  rw [if_pos rfl]
  unfold z4w
  rw [if_pos (by simp),idxB]; rfl
 ·
  rw [if_neg h,zer (by simpa using h)]
theorem zoz:zbf gA gB:=(zf0 zht zl2).2 fun x o q ho hq=>by
 rw [z16l] at hq
 by_cases h:x=idv ia
 ·
  subst h
  rw [if_pos rfl] at hq
  rw [z10i.2.1] at ho
  rw [← Option.some.inj ho,← Option.some.inj hq]
 ·
  rw [if_neg h] at hq; simp at hq
theorem z106:zbf gB gA:=zsz zht zl2 zoz
theorem z15o:zdw gA gB=gA:=zl8 (zp1 zht zl2) zht fun x=>by
 rw [zm4 zht zl2]
 cases h:z4w gA x with
 | some o=>rfl
 | none =>
  rw [z16l,if_neg (fun e=>by subst e; rw [z10i.2.1] at h; simp at h)]
  rfl
theorem z17b:zdw gB gA=gA:=zl8 (zp1 zl2 zht) zht fun x=>by
 rw [zm4 zl2 zht,z16l]
 by_cases e:x=idv ia
 ·
  subst e; rw [if_pos rfl,z10i.2.1]; rfl
 ·
  rw [if_neg e]; rfl
theorem topB:zah gB (top gB gB.Ops.length)=[idv ia]:=by
 have t:top gB 1 0=true:=znw.2 fun k hk h=>by rw [z19l] at h; simp at h
 show ([0].filter (top gB 1)).map (zdn gB)=[idv ia]
 simp only [List.filter_cons,t,List.filter_nil,if_true]
 rfl
theorem topA:zah gA (top gA gA.Ops.length)=[idv ic]:=by
 obtain ⟨p0,p1,p2,p3⟩:=z10m
 have t0:top gA 3 0=false:=by
  rw [← Bool.not_eq_true,znw]
  intro h
  exact h 2 (by omega) (by rw [p2]; simp)
 have t1:top gA 3 1=false:=by
  rw [← Bool.not_eq_true,znw]
  intro h
  exact h 0 (by omega) (by rw [p0]; simp)
 have t2:top gA 3 2=true:=znw.2 fun k hk h=>by
  rcases (show k=0∨k=1∨k=2 by omega) with rfl | rfl | rfl
  ·
   rw [p0] at h; simp at h
  ·
   rw [p1] at h; simp at h
  ·
   rw [p2] at h; simp at h
 show ([0,1,2].filter (top gA 3)).map (zdn gA)=[idv ic]
 simp only [List.filter_cons,t0,t1,t2,List.filter_nil,if_true,Bool.false_eq_true,if_false]
 rfl
end
section
open Go
theorem zvn {g:z00} {l l':List ID} (h:∀ x,x∈l↔x∈l') (y:ID):z5c g l y↔z5c g l' y:=by
 unfold z5c
 rw [h]
 constructor
 ·
  rintro ⟨h1,h2 | ⟨x,h2,h3⟩⟩
  ·
   exact ⟨h1,.inl h2⟩
  ·
   exact ⟨h1,.inr ⟨x,(h x).1 h2,h3⟩⟩
 ·
  rintro ⟨h1,h2 | ⟨x,h2,h3⟩⟩
  ·
   exact ⟨h1,.inl h2⟩
  ·
   exact ⟨h1,.inr ⟨x,(h x).2 h2,h3⟩⟩
theorem z17q:zd3 gA gB=some (gA,1):=by
 obtain ⟨ca,ca'⟩:=zcm zn4 wfA
 obtain ⟨cb,cb'⟩:=zcm ztd wfB
 obtain ⟨n1,n2,n3⟩:=neAB
 obtain ⟨w,d,e1,P,hw,-⟩:=ztr zn4 ztd wfA wfB ca cb ca' cb' zht zl2 zoz
 rw [topB] at P
 have hw:∀ x,x∈w↔x∈[idv ic]:=fun x=>by
  rw [hw,topA]
  constructor
  ·
   exact fun h=>h.1
  ·
   intro h
   refine ⟨h,?_⟩
   rw [List.mem_singleton] at h ⊢
   subst h
   exact fun e=>n2 e.symm
 have hd:=zwh (d:=d) ⟨P.len,P.nd, fun x=>(P.mem x).trans (by rw [zvn hw]),P.topo⟩
 rw [e1,z15o,hd]
 have h1:=zro zn4 wfA (x:=idv ib) (by simp)
 have h2:=zro zn4 wfA (x:=idv ic) (by simp)
 have:=z16r h1 h2
 show some (gA,((outP (zix [bts gA (idv ib),bts gA (idv ic)] 2)).length:Int))=_
 rw [this]; rfl
theorem z19e:zd3 gB gA=some (gA,0):=by
 obtain ⟨ca,ca'⟩:=zcm zn4 wfA
 obtain ⟨cb,cb'⟩:=zcm ztd wfB
 obtain ⟨w,d,e1,P,hw,-⟩:=ztr ztd zn4 wfB wfA cb ca cb' ca' zl2 zht z106
 have hw:∀ x,x∉w:=fun x h=>by
  rw [hw,topB,List.mem_singleton] at h
  obtain ⟨rfl,h⟩:=h
  exact h (by simp)
 have hd:d=[]:=by
  refine List.eq_nil_iff_forall_not_mem.2 fun x hx=>?_
  obtain ⟨⟨-,h | ⟨z,h,-⟩⟩,-⟩:=(P.mem x).1 hx
  ·
   exact hw _ h
  ·
   exact hw _ h
 rw [e1,z17b,hd]
 rfl
end
section
open Go
theorem opA_:z3g 1 []=some xA:=by
 unfold z3g
 have:z4h 5 (⟨0,[],1,⟨1,[],⟨0,0,0,[]⟩⟩,⟨0,0⟩⟩:z07)=some (xA,0):=by
  have e:(⟨0,[],1,⟨1,[],⟨0,0,0,[]⟩⟩,⟨0,0⟩⟩:z07)=zzy 1 []:=by
   unfold zzy
   rfl
  rw [e]
  exact zvu runA
 rw [this]; rfl
theorem opB_:z3g 2 [idv ia]=some xB:=by
 unfold z3g
 have:z4h 5 (⟨0,[idv ia],2,⟨1,[],⟨0,0,0,[]⟩⟩,⟨0,0⟩⟩:z07)=some (xB,0):=zvu runB
 rw [this]; rfl
theorem opC_:z3g 3 [idv ib]=some xC:=by
 unfold z3g
 have:z4h 5 (⟨0,[idv ib],3,⟨1,[],⟨0,0,0,[]⟩⟩,⟨0,0⟩⟩:z07)=some (xC,0):=zvu runC
 rw [this]; rfl
theorem opD_:z3g 9 [idv ia]=some xD:=by
 unfold z3g
 have:z4h 5 (⟨0,[idv ia],9,⟨1,[],⟨0,0,0,[]⟩⟩,⟨0,0⟩⟩:z07)=some (xD,0):=zvu runD
 rw [this]; rfl
theorem zq8 {o:z07} (h:OkN o):z3r o=some (oid o):=zn9 _ (z8x h.good) h.num
theorem z13a:za2=some [xA,xB,xC]:=by
 unfold za2
 rw [opA_]
 simp only [bS]
 rw [zq8 okA,jA]
 simp only [bS]
 rw [opB_]
 simp only [bS]
 rw [zq8 okB,jB]
 simp only [bS]
 rw [opC_]
 rfl
theorem exch:zdk gA gB=some (gA,gA,1,0):=by
 obtain ⟨ca,ca'⟩:=zcm zn4 wfA
 obtain ⟨cb,cb'⟩:=zcm ztd wfB
 obtain ⟨r,r1,-,r2⟩:=zqq zn4 ztd ca cb ca' cb' zht zl2 (by omega)
 rcases r2 with ⟨-,h⟩ | ⟨rfl,-⟩
 ·
  exact absurd zoz h
 ·
  unfold zdk
  rw [r1]
  simp only [bS]
  rw [if_neg (by simp),z17q]
  simp only [bS]
  rw [z19e]
  rfl
theorem z16q:zey gB [idv ic]=some ([idv ic],0):=by
 obtain ⟨cb,cb'⟩:=zcm ztd wfB
 obtain ⟨d,d1,d2,d3⟩:=z13c ztd cb [idv ic] (by simp)
 have:d=[idv ic]:=zcj _ _ ((z8b _).1 d2) (List.pairwise_singleton _ _) fun x=>by
  rw [d3]
  refine ⟨fun h=>h.1, fun h=>⟨h, fun e=>?_⟩⟩
  rw [List.mem_singleton] at h e
  exact neAB.2.1 (e.symm.trans h)
 rw [d1,this]
theorem z16j:zc5 gA [idv ic] [idv ia]=some ([idv ib,idv ic],0):=by
 obtain ⟨ca,ca'⟩:=zcm zn4 wfA
 obtain ⟨d,d1,P⟩:=zuo zn4 isA.1 ca ca' [idv ic] [idv ia] (by simp) (by simp)
 rw [d1,zwh P]
theorem z173:zc5 gA [idv ic] [idv id4]=some ([idv ia,idv ib,idv ic],0):=by
 obtain ⟨ca,ca'⟩:=zcm zn4 wfA
 obtain ⟨d,d1,P⟩:=zuo zn4 isA.1 ca ca' [idv ic] [idv id4] (by simp) (by simp)
 rw [d1,zxw P]
end
section
open Go
theorem zu6:zbw=some true:=by
 unfold zbw
 rw [z13a]
 simp only [bS]
 rw [ofA]
 simp only [bS]
 rw [show cut [xA,xB,xC] 0 1=some [xA] from rfl]
 simp only [bS]
 rw [ofB, show idx [xA,xB,xC] 0=some xA from rfl, show idx [xA,xB,xC] 1=some xB from rfl, show idx [xA,xB,xC] 2=some xC from rfl]
 simp only [bS]
 rw [zq8 okA,jA]
 simp only [bS]
 rw [zq8 okB,jB]
 simp only [bS]
 rw [zq8 okC,jC]
 simp only [bS]
 rw [opD_]
 simp only [bS]
 rw [ofC]
 simp only [bS]
 rw [z16q]
 simp only [bS]
 rw [z16j]
 simp only [bS]
 rw [zq8 okD,jD]
 simp only [bS]
 rw [z173]
 simp only [bS]
 rw [exch]
 simp only [bS]
 have s:=(isA.1.small (by omega))
 rw [zzi [idv ic] (by simp),zzi [idv ib,idv ic] (by simp),zzi [idv ia,idv ib,idv ic] (by simp),z11z s]
 rfl
end
section
open Go
variable {g:z00} {n:Nat}
theorem zv3 (a0:z00) (a1 a2:List ID) (w0:z28 a0) (_:(∀ x∈a1,∀ y∈x.toList,(fun _=>True) y)∧a1.length≤9223372036854775807) (_:(∀ x∈a2,∀ y∈x.toList,(fun _=>True) y)∧a2.length≤9223372036854775807):zag a0 a1 a2=some true:=by
 obtain ⟨b,b1,b2⟩:=z13e a0
 obtain ⟨c,c1,c2,c3⟩:=znn w0
 unfold zag
 rw [zu6]
 simp only [bS]
 rw [b1]
 simp only [bS]
 cases b with
 | true=>rfl
 | false =>
  rw [if_neg (by simp),ztn c2]
  simp only [bS]
  by_cases hk:zlq c a1 a2=0
  ·
   obtain ⟨rfl,l1,l2⟩:=zya hk
   have G:=c3.1 rfl
   have S:=b2 rfl
   have F:=z18b G S
   have hlen:=G.e.len
   have hids:=G.e.ids
   obtain ⟨d,d1,P⟩:=zuo G F c1 c2 a1 a2 l1 l2
   obtain ⟨kn,k1,k2,k3⟩:=z149 G c1 a2 l2
   have kl:=zlt (g:=a0) k2 fun y hy=>((k3 y).1 hy).1
   have hdl:=P.len
   rw [hk,if_neg (by simp)]
   simp only [bS]
   rw [if_neg (by simp),d1]
   simp only [bS]
   rw [k1]
   simp only [bS]
   rw [if_neg (by simp)]
   have d0:((0:Int) != 0)=false:=rfl
   have L0:iter (z48 a0) (d,kn,0)=some (.inr (d,kn)):=by
    refine z1q (F:=z48 a0) d.length (fun i=>(d,kn,(i:Int))) (fun i hi=>?_) ?_
    ·
     have hm:=(P.mem d[i]).1 (List.getElem_mem hi)
     have hin:=hm.1.1
     have hix:=zei G hin
     have hat:=zx3 G.e.ri (by omega) hin
     have hcut:cut d 0 (i:Int)=some (d.take i):=by
      rw [show (0:Int)=((0:Nat):Int) from rfl,zcv (Nat.zero_le i) (by omega),List.drop_zero,Nat.sub_zero]
     have hnt:d[i]∉d.take i:=fun h=>by
      obtain ⟨j,hj,e⟩:=List.getElem_of_mem h
      rw [List.length_take] at hj
      rw [List.getElem_take] at e
      have:=(List.getElem_inj (xs:=d) (i:=j) (j:=i) (h₀:=by omega) (h₁:=hi) P.nd).1 e
      omega
     have hnk:d[i]∉kn:=fun h=>hm.2 ((k3 _).1 h)
     have htl:(d.take i).length≤60:=by rw [List.length_take]; omega
     have hlook:z4w a0 d[i]=some a0.Ops[a0.IDs.idxOf d[i]]:=by unfold z4w; rw [if_pos hin,List.getElem?_eq_getElem hix]
     have h4:=(G.e.op _ hix).1
     have L2:iter (z49 a0 (d,kn,(i:Int)) (a0.IDs.idxOf d[i]:Int)) 0=some (.inr ()):=by
      refine z1q (F:=z49 a0 (d,kn,(i:Int)) (a0.IDs.idxOf d[i]:Int)) (a0.Ops[a0.IDs.idxOf d[i]]).Preds.length (fun j=>(j:Int)) (fun j hj=>?_) ?_
      ·
       have ht:=P.topo i hi _ hlook _ (List.getElem_mem hj)
       unfold z49
       rw [z0a hix]
       simp only [bS]
       rw [if_pos (by simpa using hj),z0a hj]
       simp only [bS]
       rw [hcut]
       simp only [bS]
       rw [zub _ _ (by omega)]
       simp only [bS]
       by_cases h1:(a0.Ops[a0.IDs.idxOf d[i]]).Preds[j]∈d.take i
       ·
        rw [decide_eq_true h1,if_neg (by simp),z0e (by omega)]
       ·
        rw [decide_eq_false h1,if_pos (by rfl),zub _ _ (by omega)]
        simp only [bS]
        rw [decide_eq_true ((k3 _).2 (ht.resolve_left h1)),if_neg (by simp),z0e (by omega)]
      ·
       unfold z49
       rw [z0a hix]
       simp only [bS]
       rw [if_neg (by simp)]
     unfold z48
     rw [if_pos (by simpa using hi)]
     simp only []
     rw [z0a hi]
     simp only [bS]
     rw [hat]
     simp only [bS]
     rw [if_neg (by simp),hcut]
     simp only [bS]
     rw [zub _ _ (by omega)]
     simp only [bS]
     rw [decide_eq_false hnt,zub _ _ (by omega),decide_eq_false hnk]
     simp only [bS,Bool.false_eq_true,if_false]
     rw [L2]
     simp only [z4s,bS]
     rw [z0e (by omega)]
    ·
     unfold z48
     rw [if_neg (by simp)]
   have L4:iter (z44 a0 a1 (d,kn)) 0=some (.inr ()):=by
    refine z1q (F:=z44 a0 a1 (d,kn)) a1.length (fun i=>(i:Int)) (fun i hi=>?_) ?_
    ·
     unfold z44
     rw [if_pos (by simpa using hi),z0a hi]
     simp only [bS]
     rw [zub _ _ (by omega),zub _ _ (by omega),zub _ _ (by omega)]
     simp only [bS]
     by_cases h1:a1[i]∈a0.IDs
     ·
      have hb:z5c a0 a1 a1[i]:=⟨h1,.inl (List.getElem_mem hi)⟩
      by_cases h2:a1[i]∈d
      ·
       rw [decide_eq_true h1,decide_eq_true h2]
       simp [bS,z0e (show i<9223372036854775807 by omega)]
      ·
       have h3:a1[i]∈kn:=(k3 _).2 (Classical.byContradiction fun h=>h2 ((P.mem _).2 ⟨hb,h⟩))
       rw [decide_eq_true h1,decide_eq_false h2,decide_eq_true h3]
       simp [bS,z0e (show i<9223372036854775807 by omega)]
     ·
      rw [decide_eq_false h1]
      simp [bS,z0e (show i<9223372036854775807 by omega)]
    ·
     unfold z44
     rw [if_neg (by simp)]
   rw [L0]
   simp only [z4s,bS]
   rw [L4]
   rfl
  ·
   rw [if_pos (by simpa using hk)]
   rfl
end
end Go.Proofs.YtefkialcgmohkaaGreatDoor
