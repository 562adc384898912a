import Derived.Test.YtefkialcgmohkaaGreatDoorWe
set_option linter.unusedSimpArgs false
set_option linter.unusedVariables false
namespace Go.Proofs.YtefkialcgmohkaaGreatDoor
section
open Go
variable {g:z00}
theorem zai (l:List ID) (x:ID) (hl:l.length≤1000):z1l l x=some (decide (x∈l)):=by
 have main:=zaa (F:=z34 l x) (fun s=>∃ i:Nat,s=(i:Int)∧i≤l.length∧∀ k (h:k<l.length),k<i→l[k]≠x) (fun s=>l.length - s.toNat)
  (fun b:Sum Int Unit=>(b=.inr ()∧x∉l)∨∃ i:Nat,b=.inl (i:Int)∧x∈l)
  (fun s hs=>by
   obtain ⟨i,rfl,h1,h2⟩:=hs
   by_cases hi:i<l.length
   ·
    have hF:z34 l x (i:Int)=if decide (x=l[i]) then some (.inl (.inl (i:Int))) else some (.inr ((i+1:Nat):Int)):=by
     unfold z34
     rw [if_pos (by simpa using hi),z09 hi,z0g (by omega)]
     simp only [bS]
    by_cases hc:x=l[i]
    ·
     rw [decide_eq_true hc,if_pos rfl] at hF
     exact .inl ⟨_,hF,.inr ⟨i,rfl,hc ▸ List.getElem_mem hi⟩⟩
    ·
     rw [decide_eq_false hc,if_neg (by simp)] at hF
     refine .inr ⟨_,hF,⟨i+1,rfl,hi, fun k hk hki=>?_⟩, by simp; omega⟩
     by_cases hk':k=i
     ·
      subst hk'; exact fun e=>hc e.symm
     ·
      exact h2 k hk (by omega)
   ·
    refine .inl ⟨.inr (),?_,.inl ⟨rfl, fun hx=>?_⟩⟩
    ·
     unfold z34
     rw [if_neg (by simpa using hi)]
    ·
     obtain ⟨k,hk,e⟩:=List.getElem_of_mem hx
     exact h2 k hk (by omega) e)
  0 ⟨0,rfl,Nat.zero_le _, fun k _ h=>by omega⟩
 obtain ⟨b,b1,b2⟩:=main
 unfold z1l z7a
 rw [b1]
 rcases b2 with ⟨rfl,h⟩ | ⟨i,rfl,h⟩
 ·
  rw [decide_eq_false h]; rfl
 ·
  rw [decide_eq_true h]
  simp only [or_l,bS]
  rw [decide_eq_true (by simp)]
theorem in27 (l:List ID) (x:ID) (hl:l.length≤100000):z94 l x=some (decide (x∈l)):=by
 have main:=zaa (F:=z9k l x) (fun s=>∃ i:Nat,s=(i:Int)∧i≤l.length∧∀ k (h:k<l.length),k<i→l[k]≠x) (fun s=>l.length - s.toNat)
  (fun b:Sum Bool Unit=>(b=.inr ()∧x∉l)∨(b=.inl true∧x∈l))
  (fun s hs=>by
   obtain ⟨i,rfl,h1,h2⟩:=hs
   by_cases hi:i<l.length
   ·
    have hF:z9k l x (i:Int)=if decide (l[i]=x) then some (.inl (.inl true)) else some (.inr ((i+1:Nat):Int)):=by
     unfold z9k
     rw [if_pos (by simpa using hi),z09 hi,z0g (by omega)]
     simp only [bS]
    by_cases hc:l[i]=x
    ·
     rw [decide_eq_true hc,if_pos rfl] at hF
     exact .inl ⟨_,hF,.inr ⟨rfl,hc ▸ List.getElem_mem hi⟩⟩
    ·
     rw [decide_eq_false hc,if_neg (by simp)] at hF
     refine .inr ⟨_,hF,⟨i+1,rfl,hi, fun k hk hki=>?_⟩, by simp; omega⟩
     by_cases hk':k=i
     ·
      subst hk'; exact hc
     ·
      exact h2 k hk (by omega)
   ·
    refine .inl ⟨.inr (),?_,.inl ⟨rfl, fun hx=>?_⟩⟩
    ·
     unfold z9k
     rw [if_neg (by simpa using hi)]
    ·
     obtain ⟨k,hk,e⟩:=List.getElem_of_mem hx
     exact h2 k hk (by omega) e)
  0 ⟨0,rfl,Nat.zero_le _, fun k _ h=>by omega⟩
 obtain ⟨b,b1,b2⟩:=main
 unfold z94
 rw [b1]
 rcases b2 with ⟨rfl,h⟩ | ⟨rfl,h⟩
 ·
  rw [decide_eq_false h]; rfl
 ·
  rw [decide_eq_true h]; rfl
theorem z102:∀ a b:List UInt8,a.length=b.length→Op.bytesLess a b=decide (nk a<nk b)
 | [],[],_=>by simp [Op.bytesLess,nk]
 | [],_::_,h=>by simp at h
 | _::_,[],h=>by simp at h
 | a::x,b::y,h=>by
  have hl:x.length=y.length:=by simpa using h
  have ih:=z102 x y hl
  have lx:=z113 x
  have ly:=z113 y
  unfold Op.bytesLess
  rw [ih]
  simp only [nk,hl] at *
  have e:∀ u v:UInt8,u.toNat<v.toNat→u.toNat * 256 ^ y.length+256 ^ y.length≤v.toNat * 256 ^ y.length:=fun u v huv=>by
   have:=Nat.mul_le_mul_right (256 ^ y.length) (show u.toNat+1≤v.toNat from huv)
   rwa [Nat.add_mul,Nat.one_mul] at this
  by_cases h1:a<b
  ·
   have:=e a b (UInt8.lt_iff_toNat_lt.1 h1)
   rw [decide_eq_true h1,Bool.true_or,decide_eq_true (by omega)]
  ·
   by_cases h2:b<a
   ·
    have:=e b a (UInt8.lt_iff_toNat_lt.1 h2)
    have hne:(a==b)=false:=by
     rw [beq_eq_false_iff_ne]
     exact fun c=>by subst c; exact h1 h2
    rw [decide_eq_false h1,hne,Bool.false_and,Bool.or_false,decide_eq_false (by omega)]
   ·
    have h3:a=b:=UInt8.toNat_inj.1 (by rw [UInt8.lt_iff_toNat_lt] at h1 h2; omega)
    subst h3
    rw [decide_eq_false h1,Bool.false_or,beq_self_eq_true,Bool.true_and,decide_eq_decide]
    omega
theorem z13g (a b:ID):zdb a b=some (decide (kd a<kd b)):=by
 unfold zdb z19b
 rw [z102 _ _ (by simp)]
 rfl
theorem z17p (s:List ID) (x:ID) (hl:s.length≤100000) (hs:z5n s=true):∃ t,zbi s x=some t∧z5n t=true∧∀ y,y∈t↔y∈s∨y=x:=by
 have main:=zaa (F:=z8g s x) (fun st=>∃ i:Nat,st=(i:Int)∧i≤s.length∧∀ j (h:j<s.length),j<i→kd s[j]<kd x) (fun st=>s.length - st.toNat)
  (fun r=>∃ k:Nat,r=(k:Int)∧k≤s.length∧(∀ i (h:i<s.length),i<k→kd s[i]<kd x)∧(∀ i (h:i<s.length),k≤i→kd x≤kd s[i]))
  (fun st hst=>by
   obtain ⟨i,rfl,h1,h2⟩:=hst
   by_cases hi':i<s.length
   ·
    have hF:z8g s x (i:Int)=if decide (kd s[i]<kd x) then some (.inr ((i+1:Nat):Int)) else some (.inl (i:Int)):=by
     unfold z8g
     rw [if_pos (by simpa using hi'),z09 hi',z0g (by omega)]
     simp only [bS]
     rw [z13g]
     simp only [bS]
    by_cases hc:kd s[i]<kd x
    ·
     rw [decide_eq_true hc,if_pos rfl] at hF
     refine .inr ⟨_,hF,⟨i+1,rfl,hi', fun j hj hji=>?_⟩, by simp; omega⟩
     by_cases hji':j=i
     ·
      subst hji'; exact hc
     ·
      exact h2 j hj (by omega)
    ·
     rw [decide_eq_false hc,if_neg (by simp)] at hF
     refine .inl ⟨_,hF,i,rfl,h1,h2, fun j hj hij=>?_⟩
     by_cases hji':j=i
     ·
      subst hji'; omega
     ·
      have:=zd2 hs hi' hj (by omega); omega
   ·
    refine .inl ⟨(i:Int),?_,i,rfl,h1,h2, fun j hj hij=>by omega⟩
    unfold z8g
    rw [if_neg (by simpa using hi')])
  0 ⟨0,rfl,Nat.zero_le _, fun j _ h=>by omega⟩
 obtain ⟨r,r1,k,rfl,k2,k3,k4⟩:=main
 have hmem:x∈s↔∃ h:k<s.length,s[k]=x:=by
  constructor
  ·
   intro hm
   obtain ⟨i,hi,e⟩:=List.getElem_of_mem hm
   by_cases hik:i<k
   ·
    have:=k3 i hi hik; rw [e] at this; omega
   ·
    by_cases hik':i=k
    ·
     subst hik'; exact ⟨hi,e⟩
    ·
     have hk:k<s.length:=by omega
     have:=zd2 hs hk hi (by omega)
     have:=k4 k hk (Nat.le_refl _)
     rw [e] at *; omega
  ·
   rintro ⟨h,e⟩; rw [← e]; exact List.getElem_mem h
 unfold zbi
 rw [r1]
 simp only [bS]
 have fresh:x∉s→(cut s 0 (k:Int) >>= fun x15=>app 32 ([]:List ID) x15 >>= fun x17=>app 32 x17 [x] >>= fun x19=>cut s (k:Int) (s.length:Int) >>= fun x21=>app 32 x19 x21 >>= fun x23=>some x23)=some (s.take k++[x]++s.drop k):=fun _=>by
  rw [show (0:Int)=((0:Nat):Int) from rfl,zd0 (by omega) k2,zd0 k2 (by omega)]
  simp only [bS,List.drop_zero,Nat.sub_zero]
  rw [List.take_of_length_le (l:=s.drop k) (by simp),z1a (by simp; omega)]
  simp only [bS,List.nil_append]
  rw [z1a (by simp; omega)]
  simp only [bS]
  rw [z1a (by simp; omega)]
  simp only [bS]
 by_cases hm:x∈s
 ·
  obtain ⟨hk,e⟩:=hmem.1 hm
  rw [if_pos (by simpa using hk),z09 hk]
  simp only [bS]
  rw [decide_eq_true e,if_pos rfl]
  exact ⟨s,rfl,hs, fun y=>⟨.inl, fun h=>h.elim id fun h=>h ▸ hm⟩⟩
 ·
  have hor:(if decide ((k:Int)<(s.length:Int))=true then idx s (k:Int) >>= fun x12=>if decide (x12=x)=true then (some (.inl s):Option (Sum (List ID) Unit)) else some (.inr ()) else some (.inr ()))=some (.inr ()):=by
   by_cases hk:k<s.length
   ·
    rw [if_pos (by simpa using hk),z09 hk]
    simp only [bS]
    rw [decide_eq_false fun e=>hm (hmem.2 ⟨hk,e⟩),if_neg (by simp)]
   ·
    rw [if_neg (by simpa using hk)]
  rw [hor]
  simp only [zuj]
  rw [fresh hm]
  refine ⟨_,rfl,zo3 hs k2 k3 fun i hi hki=>?_,zu8 _ _ _⟩
  have:=k4 i hi hki
  rcases Nat.lt_or_eq_of_le this with h | h
  ·
   exact h
  ·
   exact absurd (zlq h ▸ List.getElem_mem hi) hm
theorem z17f (cap:z00) (p:ID→Bool) (hp:∀ x,zax x cap=some (p x)) (l:List ID) (hl:l.length≤1000):z1x l cap=some (l.filter fun x=>!p x) :=
 zrh (fun x=>zax x cap) p hp l hl
theorem z17b (cap:z00) (p:ID→Bool) (hp:∀ x,zar x cap=some (p x)) (l:List ID) (hl:l.length≤1000):z1w l cap=some (l.filter fun x=>!p x) :=
 zrh (fun x=>zar x cap) p hp l hl
theorem z106 (cap cap2:List ID) (p:ID→Bool) (hp:∀ x,zae x cap cap2=some (p x)) (l:List ID) (hl:l.length≤1000):z2w l cap cap2=some (l.filter fun x=>!p x) :=
 zrh (fun x=>zae x cap cap2) p hp l hl
theorem zwq (F:List ID) (hF:F.length≤100):∃ d,(zpv F >>= fun r6=>z12 r6)=some d∧z5n d=true∧∀ x,x∈d↔x∈F:=by
 obtain ⟨d,d1,d2,d3⟩:=zjm (zt1 F) (by rw [zlv]; omega) (zmp _)
 refine ⟨d,?_,d2, fun x=>by rw [d3,zu1]⟩
 unfold zpv
 rw [z3o (by omega)]
 simp only [bS]
 rw [d1]
theorem zqg (E:z97 g) (l:List ID) (hl:l.length≤60):∃ d,zdg g l=some d∧z5n d=true∧∀ x,x∈d↔x∈l∧x∉g.IDs:=by
 have hlen:=E.len
 have hids:=E.ids
 obtain ⟨F,f1,f2,f3⟩:∃ F,z1x l g=some F∧F.length≤l.length∧∀ x,x∈F↔x∈l∧x∉g.IDs :=
  ⟨_,z17f g (fun x=>decide (x∈g.IDs)) (fun x=>by unfold zax; rw [zai _ _ (by omega)]; rfl) l (by omega),List.length_filter_le _ _, fun x=>by rw [List.mem_filter]; simp⟩
 obtain ⟨d,d1,d2,d3⟩:=zwq F (by omega)
 refine ⟨d,?_,d2, fun x=>by rw [d3,f3]⟩
 unfold zdg
 rw [zg8 l (by omega)]
 simp only [bS]
 rw [f1]
 simp only [bS]
 cases hs:zpv F with
 | none=>rw [hs] at d1; cases d1
 | some r6 =>
  rw [hs] at d1
  simp only [bS] at d1 ⊢
  rw [d1]
  simp only [bS]
theorem z10j (E:z97 g) (l:List ID) (hl:l.length≤60):∃ d,iter (z4t g l) ([],0)=some d∧z5n d=true∧∀ x,x∈d↔x∈l∧x∉g.IDs:=by
 have hlen:=E.len
 have hids:=E.ids
 have main:=z7e (F:=z4t g l) l.length
  (fun i st=>st.2=(i:Int)∧z5n st.1=true∧∀ x,x∈st.1↔x∈l.take i∧x∉g.IDs)
  (fun d=>z5n d=true∧∀ x,x∈d↔x∈l∧x∉g.IDs)
  (fun i st hi hst=>by
   obtain ⟨s,i'⟩:=st
   obtain ⟨h1,h2,h3⟩:=hst
   simp only at h1 h2 h3
   subst h1
   have hsl:s.length≤l.length:=z7s _ _ (z9w h2) fun x hx=>List.mem_of_mem_take ((h3 x).1 hx).1
   have hmem:∀ y,y∈l.take (i+1)↔y∈l.take i∨y=l[i]:=fun y=>by
    rw [zjd hi,List.mem_append]
    exact ⟨fun h=>h.imp id fun h=>List.mem_singleton.1 h, fun h=>h.imp id fun h=>List.mem_singleton.2 h⟩
   by_cases hx:l[i]∈g.IDs
   ·
    refine ⟨(s,((i+1:Nat):Int)),?_,rfl,h2, fun x=>?_⟩
    ·
     unfold z4t
     rw [if_pos (by simpa using hi)]
     simp only []
     rw [z09 hi]
     simp only [bS]
     rw [in27 _ _ (by omega),decide_eq_true hx,z0g (by omega)]
     rfl
    ·
     simp only []
     rw [h3,hmem]
     exact ⟨fun h=>⟨.inl h.1,h.2⟩, fun h=>⟨h.1.resolve_right fun e=>h.2 (e ▸ hx),h.2⟩⟩
   ·
    obtain ⟨t,t1,t2,t3⟩:=z17p s l[i] (by omega) h2
    refine ⟨(t,((i+1:Nat):Int)),?_,rfl,t2, fun x=>?_⟩
    ·
     unfold z4t
     rw [if_pos (by simpa using hi)]
     simp only []
     rw [z09 hi]
     simp only [bS]
     rw [in27 _ _ (by omega),decide_eq_false hx]
     simp only [bS,Bool.not_false,if_true]
     rw [t1,z0g (by omega)]
     simp only [bS]
    ·
     simp only []
     rw [t3,h3,hmem]
     constructor
     ·
      rintro (h | rfl)
      ·
       exact ⟨.inl h.1,h.2⟩
      ·
       exact ⟨.inr rfl,hx⟩
     ·
      rintro ⟨h | h,hn⟩
      ·
       exact .inl ⟨h,hn⟩
      ·
       exact .inr h)
  (fun st hst=>by
   obtain ⟨s,i'⟩:=st
   obtain ⟨h1,h2,h3⟩:=hst
   simp only at h1 h2 h3
   subst h1
   rw [List.take_length] at h3
   refine ⟨s,?_,h2,h3⟩
   unfold z4t
   rw [if_neg (by simp)])
  ([],0) 0 (Nat.zero_le _) ⟨rfl,rfl, by simp⟩
 obtain ⟨d,d1,d2,d3⟩:=main
 exact ⟨d,d1,d2,d3⟩
end
section
open Go
variable {g:z00}
def z67 (g:z00) (l:List ID) (y:ID):Prop:=y∈g.IDs∧((y∈l)∨∃ x∈l,x∈g.IDs∧Rch (z19 g) (z19 g (g.IDs.idxOf x)) (g.IDs.idxOf y))
theorem zsk (G:z5h g) (h1:z1b g=some 0) (l:List ID) (hl:l.length≤60):∃ d,zdc g l=some d∧z5n d=true∧∀ y,y∈d↔z67 g l y:=by
 have E:=G.e
 have hlen:=E.len
 have hids:=E.ids
 obtain ⟨F,f1,f2,f3⟩:∃ F,z1w l g=some F∧F.length≤l.length∧∀ x,x∈F↔x∈l∧x∈g.IDs :=
  ⟨_,z17b g (fun x=>!decide (x∈g.IDs)) (fun x=>by unfold zar; rw [zai _ _ (by omega)]; rfl) l (by omega),List.length_filter_le _ _, fun x=>by rw [List.mem_filter]; simp⟩
 obtain ⟨d,d1,d2,d3⟩:=zwq F (by omega)
 have hin:∀ x∈d,x∈g.IDs:=fun x hx=>((f3 x).1 ((d3 x).1 hx)).2
 have hdl:=zre (g:=g) d2 hin
 obtain ⟨m,m1,m2⟩:=zyr G h1 d (by omega) hin
 refine ⟨zaj g m,?_,zn3 E m, fun y=>?_⟩
 ·
  unfold zdc
  rw [zg8 l (by omega)]
  simp only [bS]
  rw [f1]
  simp only [bS]
  cases hs:zpv F with
  | none=>rw [hs] at d1; cases d1
  | some r6 =>
   rw [hs] at d1
   simp only [bS] at d1 ⊢
   rw [d1]
   simp only [bS]
   rw [m1]
   simp only [bS]
   rw [← zyp]; rfl
 ·
  rw [zh6 E,m2,zl7]
  unfold z67
  constructor
  ·
   rintro ⟨hy,h | ⟨q,hq,hr⟩⟩
   ·
    obtain ⟨x,hx,e⟩:=List.mem_map.1 h
    have:x=y:=zif hy e
    subst this
    exact ⟨hy,.inl ((f3 _).1 ((d3 _).1 hx)).1⟩
   ·
    obtain ⟨x,hx,e⟩:=List.mem_map.1 hq
    rw [← e] at hr
    exact ⟨hy,.inr ⟨x,((f3 _).1 ((d3 _).1 hx)).1,hin x hx,hr⟩⟩
  ·
   rintro ⟨hy,h | ⟨x,hx,hxi,hr⟩⟩
   ·
    exact ⟨hy,.inl (List.mem_map.2 ⟨y,(d3 _).2 ((f3 _).2 ⟨h,hy⟩),rfl⟩)⟩
   ·
    exact ⟨hy,.inr ⟨_,List.mem_map.2 ⟨x,(d3 _).2 ((f3 _).2 ⟨hx,hxi⟩),rfl⟩,hr⟩⟩
theorem z17m (G:z5h g) (h2:z0h g=some 0) {x:ID} (hx:x∈g.IDs):∃ s,zbb g x=some (s,0)∧z5n s=true∧s.length≤60∧∀ y,y∈s↔y∈g.IDs∧Rch (z19 g) (z19 g (g.IDs.idxOf x)) (g.IDs.idxOf y):=by
 have hlen:=G.e.len
 have hids:=G.e.ids
 obtain ⟨s,b1,b2,b3⟩:=z10e G.e G.ins hx
 have hl:=zre (g:=g) b2 fun y hy=>((b3 y).1 hy).1
 refine ⟨s,?_,b2, by omega,b3⟩
 unfold zbb
 have hax:([x].all fun x=>decide (x∈g.IDs))=true:=by simpa using hx
 rw [z13r G h2 _ (by simp),hax]
 simp only [bS]
 rw [if_neg (by simp),b1]
 simp only [bS]
theorem z195 (s0:List ID) (r:List ID) (c:Int) (hr:r.length≤100) (hs:z5n s0=true) (hb:∀ x∈s0,x∈g.IDs) (hb2:∀ x∈r,x∈g.IDs) (hg:g.IDs.length≤1000):∃ t,iter (z6p (r,c)) (s0,0)=some t∧z5n t=true∧∀ y,y∈t↔y∈s0∨y∈r:=by
 have main:=z7e (F:=z6p (r,c)) r.length
  (fun i st=>st.2=(i:Int)∧z5n st.1=true∧∀ y,y∈st.1↔y∈s0∨y∈r.take i)
  (fun t=>z5n t=true∧∀ y,y∈t↔y∈s0∨y∈r)
  (fun i st hi hst=>by
   obtain ⟨s,i'⟩:=st
   obtain ⟨h1,h2,h3⟩:=hst
   simp only at h1 h2 h3
   subst h1
   have hsl:s.length≤g.IDs.length:=z7s _ _ (z9w h2) fun x hx=>((h3 x).1 hx).elim (hb x) fun h=>hb2 x (List.mem_of_mem_take h)
   obtain ⟨t,t1,t2,t3⟩:=z17p s r[i] (by omega) h2
   refine ⟨(t,((i+1:Nat):Int)),?_,rfl,t2, fun y=>?_⟩
   ·
    unfold z6p
    rw [if_pos (by simpa using hi)]
    simp only []
    rw [z09 hi]
    simp only [bS]
    rw [t1,z0g (by omega)]
    simp only [bS]
   ·
    simp only []
    rw [t3,h3,zjd hi,List.mem_append]
    constructor
    ·
     rintro ((h | h) | h)
     ·
      exact .inl h
     ·
      exact .inr (.inl h)
     ·
      exact .inr (.inr (List.mem_singleton.2 h))
    ·
     rintro (h | h | h)
     ·
      exact .inl (.inl h)
     ·
      exact .inl (.inr h)
     ·
      exact .inr (List.mem_singleton.1 h))
  (fun st hst=>by
   obtain ⟨s,i'⟩:=st
   obtain ⟨h1,h2,h3⟩:=hst
   simp only at h1 h2 h3
   subst h1
   rw [List.take_length] at h3
   refine ⟨s,?_,h2,h3⟩
   unfold z6p
   rw [if_neg (by simp)])
  (s0,0) 0 (Nat.zero_le _) ⟨rfl,hs, by simp⟩
 obtain ⟨t,t1,t2,t3⟩:=main
 exact ⟨t,t1,t2,t3⟩
theorem zvo (G:z5h g) (h2:z0h g=some 0) (l:List ID) (hl:l.length≤60):∃ d,z9m g l=some d∧z5n d=true∧∀ y,y∈d↔z67 g l y:=by
 have E:=G.e
 have hlen:=E.len
 have hids:=E.ids
 have main:=z7e (F:=z6l g l) l.length
  (fun i st=>st.2=(i:Int)∧z5n st.1=true∧∀ y,y∈st.1↔z67 g (l.take i) y)
  (fun d=>z5n d=true∧∀ y,y∈d↔z67 g l y)
  (fun i st hi hst=>by
   obtain ⟨s,i'⟩:=st
   obtain ⟨h1,h2',h3⟩:=hst
   simp only at h1 h2' h3
   subst h1
   have hin:∀ x∈s,x∈g.IDs:=fun x hx=>((h3 x).1 hx).1
   have hsl:s.length≤g.IDs.length:=z7s _ _ (z9w h2') hin
   have hmem:∀ y,y∈l.take (i+1)↔y∈l.take i∨y=l[i]:=fun y=>by
    rw [zjd hi,List.mem_append]
    exact ⟨fun h=>h.imp id fun h=>List.mem_singleton.1 h, fun h=>h.imp id fun h=>List.mem_singleton.2 h⟩
   by_cases hx:l[i]∈g.IDs
   ·
    obtain ⟨t,t1,t2,t3⟩:=z17p s l[i] (by omega) h2'
    obtain ⟨a,a1,a2,a3,a4⟩:=z17m G h2 hx
    obtain ⟨u,u1,u2,u3⟩:=z195 (g:=g) t a 0 (by omega) t2 (fun x hx'=>((t3 x).1 hx').elim (hin x) fun e=>e ▸ hx) (fun x hx'=>((a4 x).1 hx').1) (by omega)
    refine ⟨(u,((i+1:Nat):Int)),?_,rfl,u2, fun y=>?_⟩
    ·
     unfold z6l
     rw [if_pos (by simpa using hi)]
     simp only []
     rw [z09 hi]
     simp only [bS]
     rw [in27 _ _ (by omega),decide_eq_true hx]
     simp only [bS,Bool.not_true,Bool.false_eq_true,if_false]
     rw [t1]
     simp only [bS]
     rw [a1]
     simp only [bS]
     rw [u1,z0g (by omega)]
     simp only [bS]
    ·
     simp only []
     rw [u3,t3,a4,h3]
     unfold z67
     constructor
     ·
      rintro ((⟨hy,h⟩ | rfl) | ⟨hy,h⟩)
      ·
       refine ⟨hy,h.elim (fun h=>.inl ((hmem y).2 (.inl h))) fun ⟨x,h,k⟩=>.inr ⟨x,(hmem x).2 (.inl h),k⟩⟩
      ·
       exact ⟨hx,.inl ((hmem _).2 (.inr rfl))⟩
      ·
       exact ⟨hy,.inr ⟨l[i],(hmem _).2 (.inr rfl),hx,h⟩⟩
     ·
      rintro ⟨hy,h | ⟨x,h,k1,k2⟩⟩
      ·
       rcases (hmem y).1 h with h | h
       ·
        exact .inl (.inl ⟨hy,.inl h⟩)
       ·
        exact .inl (.inr h)
      ·
       rcases (hmem x).1 h with h | h
       ·
        exact .inl (.inl ⟨hy,.inr ⟨x,h,k1,k2⟩⟩)
       ·
        subst h; exact .inr ⟨hy,k2⟩
   ·
    refine ⟨(s,((i+1:Nat):Int)),?_,rfl,h2', fun y=>?_⟩
    ·
     unfold z6l
     rw [if_pos (by simpa using hi)]
     simp only []
     rw [z09 hi]
     simp only [bS]
     rw [in27 _ _ (by omega),decide_eq_false hx,z0g (by omega)]
     rfl
    ·
     simp only []
     rw [h3]
     unfold z67
     constructor
     ·
      rintro ⟨hy,h⟩
      exact ⟨hy,h.elim (fun h=>.inl ((hmem y).2 (.inl h))) fun ⟨x,h,k⟩=>.inr ⟨x,(hmem x).2 (.inl h),k⟩⟩
     ·
      rintro ⟨hy,h | ⟨x,h,k1,k2⟩⟩
      ·
       rcases (hmem y).1 h with h | h
       ·
        exact ⟨hy,.inl h⟩
       ·
        exact absurd (h ▸ hy) hx
      ·
       rcases (hmem x).1 h with h | h
       ·
        exact ⟨hy,.inr ⟨x,h,k1,k2⟩⟩
       ·
        exact absurd (h ▸ k1) hx)
  (fun st hst=>by
   obtain ⟨s,i'⟩:=st
   obtain ⟨h1,h2',h3⟩:=hst
   simp only at h1 h2' h3
   subst h1
   rw [List.take_length] at h3
   refine ⟨s,?_,h2',h3⟩
   unfold z6l
   rw [if_neg (by simp)])
  ([],0) 0 (Nat.zero_le _) ⟨rfl,rfl, fun y=>by simp [z67]⟩
 obtain ⟨d,d1,d2,d3⟩:=main
 refine ⟨d,?_,d2,d3⟩
 unfold z9m
 rw [d1]
 simp only [bS]
theorem zj0 (G:z5h g) (h1:z1b g=some 0) (h2:z0h g=some 0) (l:List ID) (hl:l.length≤60):∃ d,zdc g l=some d∧z9m g l=some d∧z5n d=true∧d.length≤60∧∀ y,y∈d↔z67 g l y:=by
 obtain ⟨d,d1,d2,d3⟩:=zsk G h1 l hl
 obtain ⟨e,e1,e2,e3⟩:=zvo G h2 l hl
 have:d=e:=zck _ _ ((z83 _).1 d2) ((z83 _).1 e2) fun y=>by rw [d3,e3]
 subst this
 have:=zre (g:=g) d2 fun y hy=>((d3 y).1 hy).1
 have:=G.e.len
 have:=G.e.ids
 exact ⟨d,d1,e1,d2, by omega,d3⟩
theorem z11h (G:z5h g) (h1:z1b g=some 0) (h2:z0h g=some 0) (h3:(0:Int)=0↔z5h g) (a b:List ID) (ha:a.length≤60) (hb:b.length≤60):∃ d,zc5 g a b=some d∧zf0 g a b=some d∧d.length≤60∧∀ x∈d,x∈g.IDs:=by
 obtain ⟨p,p1,p2,_,p3,p4⟩:=zj0 G h1 h2 a ha
 obtain ⟨q,q1,q2,_,q3,q4⟩:=zj0 G h1 h2 b hb
 obtain ⟨r,r1,r2,r3⟩:=zya h1 h2 h3
 have hfl:(r.1.filter fun x=>!(!decide (x∈p) || decide (x∈q))).length≤r.1.length:=List.length_filter_le _ _
 refine ⟨r.1.filter fun x=>!(!decide (x∈p) || decide (x∈q)),?_,?_, by omega, fun x hx=>?_⟩
 ·
  unfold zc5
  rw [p1,q1]
  simp only [bS]
  rw [r1]
  simp only [bS]
  rw [z106 p q (fun x=>!decide (x∈p) || decide (x∈q)) (fun x=>by
   unfold zae
   rw [zai _ _ (by omega),zai _ _ (by omega)]
   simp only [bS]
   cases decide (x∈p) <;> rfl) r.1 (by omega)]
  simp only [bS]
 ·
  have main:=z7e (F:=za2 p q r) r.1.length
   (fun i st=>st.2=(i:Int)∧st.1=(r.1.take i).filter fun x=>!(!decide (x∈p) || decide (x∈q)))
   (fun d=>d=r.1.filter fun x=>!(!decide (x∈p) || decide (x∈q)))
   (fun i st hi hst=>by
    obtain ⟨s,i'⟩:=st
    obtain ⟨g1,g2⟩:=hst
    simp only at g1 g2
    subst g1
    have hsl:s.length≤i:=by
     rw [g2]
     have:=List.length_filter_le (fun x=>!(!decide (x∈p) || decide (x∈q))) (r.1.take i)
     rw [List.length_take] at this
     exact Nat.le_trans this (Nat.min_le_left _ _)
    refine ⟨((r.1.take (i+1)).filter (fun x=>!(!decide (x∈p) || decide (x∈q))),((i+1:Nat):Int)),?_,rfl,rfl⟩
    unfold za2
    rw [if_pos (by simpa using hi)]
    simp only []
    rw [z09 hi]
    simp only [bS]
    rw [in27 _ _ (by omega),in27 _ _ (by omega),z0g (by omega),zjd hi,List.filter_append,← g2]
    simp only [bS]
    cases c1:decide (r.1[i]∈p) with
    | false =>
     simp only [Bool.false_eq_true,if_false,bS]
     rw [List.filter_cons_of_neg (by rw [c1]; simp)]
     simp
    | true =>
     simp only [if_true,bS]
     cases c2:decide (r.1[i]∈q) with
     | true =>
      rw [List.filter_cons_of_neg (by rw [c1,c2]; simp)]
      simp
     | false =>
      rw [List.filter_cons_of_pos (by rw [c1,c2]; simp),z1a (by simp only [List.length_cons,List.length_nil]; omega)]
      simp)
   (fun st hst=>by
    obtain ⟨s,i'⟩:=st
    obtain ⟨g1,g2⟩:=hst
    simp only at g1 g2
    subst g1 g2
    refine ⟨_,?_,rfl⟩
    unfold za2
    rw [if_neg (by simp),List.take_length])
   ([],0) 0 (Nat.zero_le _) ⟨rfl, by simp⟩
  obtain ⟨d,d1,rfl⟩:=main
  unfold zf0
  rw [p2,q2]
  simp only [bS]
  rw [r2]
  simp only [bS]
  rw [d1]
  simp only [bS]
 ·
  rw [List.mem_filter] at hx
  have h4:x∈p:=by
   have:=hx.2
   simp at this
   exact this.1
  exact ((p4 x).1 h4).1
end
section
open Go
variable {g:z00}
def bts (g:z00) (x:ID):List UInt8:=match g.Ops[g.IDs.idxOf x]? with | some o=>zfe o | none=>[]
theorem z101 (G:z5h g) (hw:z21 g) {i:Nat} (hi:i<g.Ops.length):z4y g.Ops[i]=0∧inI g.Ops[i].Act.Value.Num∧g.Ops[i].Act.Value.Text.length≤9223372036854775807:=by
 obtain ⟨w1,w2⟩:=z18e hw (List.getElem_mem hi)
 exact ⟨z8h (G.ops i hi).1,w1,w2⟩
theorem zux (G:z5h g) {x:ID} (hx:x∈g.IDs):bts g x=zfe (g.Ops[g.IDs.idxOf x]'(zeh G hx)):=by
 unfold bts
 rw [List.getElem?_eq_getElem (zeh G hx)]
theorem zp1 (G:z5h g) (hw:z21 g) {x:ID} (hx:x∈g.IDs):(bts g x).length≤400:=by
 rw [zux G hx]
 obtain ⟨h1,h2,_⟩:=z101 G hw (zeh G hx)
 exact zvs h1 h2
theorem zqd (G:z5h g) (hw:z21 g) (h1:z1b g=some 0) {x:ID} (hx:x∈g.IDs):∃ r,zkj g x=some r∧ze0 r.1=some (bts g x,0):=by
 have hlen:=G.e.len
 have hids:=G.e.ids
 obtain ⟨k,k1,k2,k3⟩:=zdf g (by omega) G.e.ri x
 obtain ⟨rfl,hk⟩:=k2 hx
 have hi:=zeh G hx
 have h4:=(G.e.op _ hi).1
 refine ⟨(g.Ops[g.IDs.idxOf x],0),?_,?_⟩
 ·
  unfold zkj
  rw [h1]
  simp only [bS]
  rw [if_neg (by simp),k1,decide_eq_true hx]
  simp only [bS]
  rw [if_neg (by simp),z09 hi]
  simp only [bS]
  unfold zei
  rw [zg8 _ (by omega)]
  rfl
 ·
  obtain ⟨c1,c2,c3⟩:=z101 G hw hi
  rw [zux G hx]
  exact ztf _ c1 c2 c3
theorem z12h (G:z5h g) (hw:z21 g) {x:ID} (hx:x∈g.IDs):zc0 g x=some (bts g x):=by
 have hlen:=G.e.len
 have hids:=G.e.ids
 have hi:=zeh G hx
 have hii:g.IDs.idxOf x<g.IDs.length:=by omega
 have hgx:g.IDs[g.IDs.idxOf x]=x:=by simp
 obtain ⟨c1,c2,c3⟩:=z101 G hw hi
 have main:=z1s (F:=z9b g x) (b:=.inl (bts g x)) (g.IDs.idxOf x) (fun i=>(i:Int)) (fun i hlt=>?_) ?_
 ·
  unfold zc0
  rw [show (0:Int)=((0:Nat):Int) from rfl,main]; rfl
 ·
  have hi2:i<g.IDs.length:=by omega
  have hne:g.IDs[i]≠x:=fun e=>by
   have:=z62 G.e.ri hi2
   rw [e] at this; omega
  unfold z9b
  rw [if_pos (by simpa using hi2),z09 hi2,z0g (by omega)]
  simp only [bS]
  rw [decide_eq_false hne,if_neg (by simp)]
 ·
  unfold z9b zd5
  rw [if_pos (by simpa using hii),z09 hii]
  simp only [bS]
  rw [decide_eq_true hgx,if_pos rfl,z09 hi]
  simp only [bS]
  rw [zjv _ c3,c1]
  simp only [bS]
  rw [if_neg (by simp),zpj _ c1 c2,zux G hx]
  simp only [bS]
def fr (ops:List (List UInt8)):z1o:=⟨5,0,[],ops⟩
def zhx (ops:List (List UInt8)):List UInt8:=ops.flatMap fun o=>z1p o.length++o
def zmx (ops:List (List UInt8)):List UInt8:=([5]++z1p ops.length)++zhx ops
def okF (ops:List (List UInt8)):Bool:=decide (ops.length≤8)&&decide ((zmx ops).length≤2000)
theorem zmi:∀ (l:List (List UInt8)),(∀ o∈l,o.length≤400)→(zhx l).length≤409 * l.length
 | [],_=>by simp [zhx]
 | o::l,h=>by
  have ih:=zmi l fun q hq=>h q (by simp [hq])
  have ho:=h o (by simp)
  have:=z0z o.length (by omega)
  unfold zhx at *
  rw [List.flatMap_cons]
  simp only [List.length_append,List.length_cons]; omega
theorem zvy (l:List (List UInt8)) (o:List UInt8):zhx (l++[o])=zhx l++(z1p o.length++o):=by
 unfold zhx; rw [List.flatMap_append]; simp
theorem zmj (ops:List (List UInt8)) (h9:ops.length≤9) (hall:∀ o∈ops,o.length≤400):zc2 (fr ops)=some (if okF ops then 0 else 8):=by
 have hn:=z0z ops.length (by omega)
 have hb:=zmi ops hall
 have hL:ops.length≤8→iter (z84 (fr ops)) ([5]++z1p ops.length,true,0)=some (zmx ops,true):=fun h8=>by
  have main:=z1s (F:=z84 (fr ops)) (b:=(zmx ops,true)) ops.length (fun i=>(([5]++z1p ops.length)++zhx (ops.take i),true,(i:Int))) (fun i hi=>?_) ?_
  ·
   simpa [zhx] using main
  ·
   have ho:ops[i].length≤400:=hall _ (List.getElem_mem hi)
   have ht:=zmi (ops.take i) fun o ho=>hall o (List.mem_of_mem_take ho)
   rw [List.length_take] at ht
   have hno:=z0z ops[i].length (by omega)
   unfold z84
   rw [if_pos rfl,if_pos (by show decide ((i:Int)<((ops.length:Nat):Int))=true; simpa using hi)]
   show (idx ops (i:Int) >>= _)=_
   rw [z09 hi]
   simp only [bS]
   rw [zol _ (by omega)]
   simp only [bS]
   rw [z1a (by simp only [List.length_append,List.length_cons,List.length_nil]; omega)]
   simp only [bS]
   show (idx ops (i:Int) >>= _)=_
   rw [z09 hi]
   simp only [bS]
   rw [decide_eq_true (by omega),z0g (by omega),zjd hi,zvy]
   simp only [List.append_assoc]
  ·
   unfold z84
   rw [if_pos rfl,if_neg (by show ¬ decide (((ops.length:Nat):Int)<((ops.length:Nat):Int))=true; simp),List.take_length]
   rfl
 have hw:zgx (fr ops)=some (if ops.length≤8 then (zmx ops,decide (((zmx ops).length:Int)≤2000)) else ([5]++z1p ops.length,false)):=by
  unfold zgx
  have e1:zi7 (fr ops).Kind=some false:=rfl
  rw [e1]
  simp only [bS,Bool.false_eq_true,if_false]
  rw [if_pos (by rfl),if_pos (by rfl),if_pos (by rfl)]
  simp only [bS]
  show ((z4w (UInt64.ofInt (ops.length:Int)) >>= fun r24=>app 1 [(5:UInt8)] r24 >>= fun x26=>iter (z84 (fr ops)) (x26,decide ((ops.length:Int)≤8),0)) >>= _)=_
  rw [z7z,zlg (by omega)]
  simp only [bS]
  rw [z1a (by simp only [List.length_cons,List.length_nil]; omega)]
  simp only [bS]
  by_cases h8:ops.length≤8
  ·
   rw [decide_eq_true (by omega),hL h8,if_pos h8]
   simp only [bS]
   rw [if_pos trivial]
  ·
   rw [decide_eq_false (by omega),if_neg h8,z1n (b:=([5]++z1p ops.length,false)) (by unfold z84; rw [if_neg (by simp)])]
   simp only [bS]
   rw [if_neg (by simp)]
 unfold zc2
 rw [hw]
 simp only [bS]
 unfold okF
 by_cases h8:ops.length≤8
 ·
  rw [if_pos h8,decide_eq_true h8,Bool.true_and]
  by_cases h2:(zmx ops).length≤2000
  ·
   rw [decide_eq_true h2]
   simp only []
   rw [decide_eq_true (by omega)]; rfl
  ·
   rw [decide_eq_false h2]
   simp only []
   rw [decide_eq_false (by omega)]; rfl
 ·
  rw [if_neg h8,decide_eq_false h8]; rfl
def zen (bs:List (List UInt8)):Nat→Option (List (List (List UInt8)) × List (List UInt8))
 | 0=>none
 | i+1=>match bs[i]? with
  | none=>zen bs i
  | some b=>match zen bs i with
   | none=>some ([],[b])
   | some (a,l)=>if okF (l++[b]) then some (a,l++[b]) else some (a++[l],[b])
theorem z11p {b:List UInt8} (h:b.length≤400):okF [b]=true:=by
 have h1:=z0z ([b]:List (List UInt8)).length (by simp)
 have h2:=z0z b.length (by omega)
 unfold okF zmx zhx
 simp only [Bool.and_eq_true,decide_eq_true_eq,List.length_append,List.flatMap_cons,List.flatMap_nil,List.length_cons,List.length_nil] at *
 omega
theorem zge (bs:List (List UInt8)) (hb:∀ b∈bs,b.length≤400):∀ i,i≤bs.length→(zen bs i=none∧i=0)∨∃ a l,zen bs i=some (a,l)∧a.length+1≤i∧l≠[]∧l.length≤8∧∀ o∈l,o.length≤400
 | 0,_=>.inl ⟨rfl,rfl⟩
 | i+1,hi=>by
  have hlt:i<bs.length:=by omega
  have hbi:bs[i].length≤400:=hb _ (List.getElem_mem hlt)
  right
  unfold zen
  rw [List.getElem?_eq_getElem hlt]
  rcases zge bs hb i (by omega) with ⟨h,h0⟩ | ⟨a,l,h,h1,h2,h3,h4⟩
  ·
   simp only [h]
   exact ⟨[],[bs[i]],rfl, by simp, by simp, by simp, fun o ho=>by rw [List.mem_singleton] at ho; rw [ho]; exact hbi⟩
  ·
   simp only [h]
   by_cases hc:okF (l++[bs[i]])=true
   ·
    rw [if_pos hc]
    have h8:(l++[bs[i]]).length≤8:=by unfold okF at hc; simp only [Bool.and_eq_true,decide_eq_true_eq] at hc; exact hc.1
    exact ⟨a,l++[bs[i]],rfl, by omega, by simp,h8, fun o ho=>(List.mem_append.1 ho).elim (h4 o) fun h=>by rw [List.mem_singleton] at h; rw [h]; exact hbi⟩
   ·
    rw [if_neg hc]
    exact ⟨a++[l],[bs[i]],rfl, by simp; omega, by simp, by simp, fun o ho=>by rw [List.mem_singleton] at ho; rw [ho]; exact hbi⟩
theorem zio (bs:List (List UInt8)) {i:Nat} (hlt:i<bs.length):zen bs (i+1)=match zen bs i with | none=>some ([],[bs[i]]) | some (a,l)=>if okF (l++[bs[i]]) then some (a,l++[bs[i]]) else some (a++[l],[bs[i]]):=by
 rw [zen,List.getElem?_eq_getElem hlt]
def zvm:Option (List (List (List UInt8)) × List (List UInt8))→List z1o
 | none=>[]
 | some (a,l)=>a.map fr++[fr l]
theorem z14n (G:z5h g) (hw:z21 g) (h1:z1b g=some 0) (l:List ID) (hin:∀ x∈l,x∈g.IDs) {i:Nat} (hi:i<l.length) (hl:l.length≤60):z5b g l ([],(i:Int))=some (.inr ([fr [bts g l[i]]],((i+1:Nat):Int))):=by
 obtain ⟨r,r1,r2⟩:=zqd G hw h1 (hin _ (List.getElem_mem hi))
 unfold z5b
 rw [if_pos (by simpa using hi)]
 simp only []
 rw [z09 hi]
 simp only [bS]
 rw [r1]
 simp only [bS]
 rw [r2]
 simp only [bS]
 rw [if_neg (by simp)]
 simp only [zuj]
 rw [z1a (by simp),z0g (by omega)]
 rfl
theorem z11n (G:z5h g) (hw:z21 g) (h1:z1b g=some 0) (l:List ID) (hin:∀ x∈l,x∈g.IDs) (X:List z1o) (q:List (List UInt8)) (hX:X.length≤100) (g3:q.length≤8) (g4:∀ o∈q,o.length≤400) {i:Nat} (hi:i<l.length) (hl:l.length≤60) :
  z5b g l (X++[fr q],(i:Int))=if okF (q++[bts g l[i]]) then some (.inr (X++[fr (q++[bts g l[i]])],((i+1:Nat):Int))) else some (.inr ((X++[fr q])++[fr [bts g l[i]]],((i+1:Nat):Int))):=by
 obtain ⟨r,r1,r2⟩:=zqd G hw h1 (hin _ (List.getElem_mem hi))
 have hb400:=zp1 G hw (hin _ (List.getElem_mem hi))
 have hol:(X++[fr q]).length=X.length+1:=by simp
 have hge:(X++[fr q])[X.length]'(by omega)=fr q:=by
  rw [List.getElem_append_right (by simp)]; simp
 have e1:z60 (fr q).Ops=some q:=by
  unfold z60
  show (app 24 ([]:List (List UInt8)) q >>= _)=_
  rw [z1a (by simp; omega)]; rfl
 have hck:=zmj (q++[bts g l[i]]) (by simp; omega) (fun o ho=>(List.mem_append.1 ho).elim (g4 o) fun h=>by rw [List.mem_singleton] at h; rw [h]; exact hb400)
 have e2:(⟨(fr q).Kind,(fr q).N,(fr q).IDs,q++[bts g l[i]]⟩:z1o)=fr (q++[bts g l[i]]):=rfl
 have e3:(X++[fr q]).set X.length (fr (q++[bts g l[i]]))=X++[fr (q++[bts g l[i]])]:=by
  simp [List.set_append]
 have e4:w64 (((X++[fr q]).length:Int) - 1)=(X.length:Int):=by
  rw [hol,z18 (by omega) (by omega)]; omega
 unfold z5b
 rw [if_pos (by simpa using hi)]
 simp only []
 rw [z09 hi]
 simp only [bS]
 rw [r1]
 simp only [bS]
 rw [r2]
 simp only [bS]
 rw [if_pos (by simp <;> omega),e4,z09 (by omega),hge]
 simp only [bS]
 rw [e1]
 simp only [bS]
 rw [z1a (by simp only [List.length_cons,List.length_nil]; omega)]
 simp only [bS]
 rw [e2]
 by_cases hc:okF (q++[bts g l[i]])=true
 ·
  rw [if_pos hc] at hck
  rw [hck]
  simp only [bS,if_pos hc]
  rw [if_pos (by rfl)]
  simp only [or_l,Int.toNat_natCast]
  rw [z0g (by omega),e3]
 ·
  rw [if_neg hc] at hck
  rw [hck]
  simp only [bS,if_neg hc]
  rw [if_neg (by decide)]
  simp only [zuj]
  rw [z1a (by simp; omega),z0g (by omega)]
  rfl
theorem zp3 (G:z5h g) (hw:z21 g) (h1:z1b g=some 0) (l:List ID) (hl:l.length≤60) (hin:∀ x∈l,x∈g.IDs):zdz g l=some (zvm (zen (l.map (bts g)) l.length)):=by
 have hb:∀ b∈l.map (bts g),b.length≤400:=fun b hb=>by
  obtain ⟨x,hx,rfl⟩:=List.mem_map.1 hb
  exact zp1 G hw (hin x hx)
 have main:=z1s (F:=z5b g l) (b:=zvm (zen (l.map (bts g)) l.length)) l.length (fun i=>(zvm (zen (l.map (bts g)) i),(i:Int))) (fun i hi=>?_) ?_
 ·
  unfold zdz
  have e0:(([]:List z1o),(0:Int))=(zvm (zen (l.map (bts g)) 0),((0:Nat):Int)):=rfl
  rw [e0,main]
  simp only [bS]
 ·
  have him:i<(l.map (bts g)).length:=by simpa using hi
  have hbi:(l.map (bts g))[i]=bts g l[i]:=by simp
  rw [zio _ him,hbi]
  rcases zge (l.map (bts g)) hb i (by omega) with ⟨h,h0⟩ | ⟨a,q,h,g1,g2,g3,g4⟩
  ·
   rw [h]
   exact z14n G hw h1 l hin hi hl
  ·
   rw [h]
   have hs:=z11n G hw h1 l hin (a.map fr) q (by simp; omega) g3 g4 hi hl
   show z5b g l (a.map fr++[fr q],(i:Int))=_
   rw [hs]
   by_cases hc:okF (q++[bts g l[i]])=true
   ·
    simp only [if_pos hc]; rfl
   ·
    simp only [if_neg hc]
    show some (Sum.inr ((a.map fr++[fr q])++[fr [bts g l[i]]],_))=some (Sum.inr ((a++[q]).map fr++[fr [bts g l[i]]],_))
    rw [List.map_append]; rfl
 ·
  unfold z5b
  rw [if_neg (by simp)]
end
section
open Go
variable {g:z00}
theorem zug (bs:List (List UInt8)) (hb:∀ b∈bs,b.length≤400):∀ i,i≤bs.length→∀ a l,zen bs i=some (a,l)→∀ q∈a,q.length≤8
 | 0,_,a,l,h,q,hq=>by simp [zen] at h
 | i+1,hi,a,l,h,q,hq=>by
  have hlt:i<bs.length:=by omega
  rw [zio bs hlt] at h
  rcases zge bs hb i (by omega) with ⟨h0,_⟩ | ⟨a',l',h0,h1,h2,h3,h4⟩
  ·
   rw [h0] at h
   simp only [Option.some.injEq,Prod.mk.injEq] at h
   rw [← h.1] at hq; simp at hq
  ·
   have ih:=zug bs hb i (by omega) a' l' h0
   rw [h0] at h
   by_cases hc:okF (l'++[bs[i]])=true
   ·
    simp only [if_pos hc,Option.some.injEq,Prod.mk.injEq] at h
    rw [← h.1] at hq; exact ih q hq
   ·
    simp only [if_neg hc,Option.some.injEq,Prod.mk.injEq] at h
    rw [← h.1] at hq
    rcases List.mem_append.1 hq with hq | hq
    ·
     exact ih q hq
    ·
     rw [List.mem_singleton] at hq; rw [hq]; exact h3
theorem z16u (bs:List (List UInt8)) (hb:∀ b∈bs,b.length≤400) (hl:bs.length≤60):(zvm (zen bs bs.length)).length≤60∧∀ f∈zvm (zen bs bs.length),∃ q,f=fr q∧q.length≤8:=by
 rcases zge bs hb bs.length (Nat.le_refl _) with ⟨h,_⟩ | ⟨a,l,h,h1,h2,h3,h4⟩
 ·
  rw [h]; exact ⟨by simp [zvm], by simp [zvm]⟩
 ·
  have hall:=zug bs hb bs.length (Nat.le_refl _) a l h
  rw [h]
  refine ⟨by simp [zvm]; omega, fun f hf=>?_⟩
  rcases List.mem_append.1 hf with hf | hf
  ·
   obtain ⟨q,hq,rfl⟩:=List.mem_map.1 hf
   exact ⟨q,rfl,hall q hq⟩
  ·
   rw [List.mem_singleton] at hf
   exact ⟨l,hf,h3⟩
theorem zzs (l:List ID) (hl:l.length≤1000):z8u l l=some true:=by
 have main:=z1s (F:=za8 l l) (b:=(.inr ():Sum Bool Unit)) l.length (fun i=>(i:Int)) (fun i hi=>?_) ?_
 ·
  unfold z8u
  rw [if_neg (by simp), show (0:Int)=((0:Nat):Int) from rfl,main]; rfl
 ·
  unfold za8
  rw [if_pos (by simpa using hi),z09 hi,z0g (by omega)]
  simp only [bS]
  rw [if_neg (by simp)]
 ·
  unfold za8
  rw [if_neg (by simp)]
def zm1 (c:Int) (a b:List ID):Int:=if c≠0 then c else if 60<a.length then 4 else if 60<b.length then 4 else 0
theorem z129 {c:Int} (h1:z1b g=some c) (a:List ID):zaq g [a]=some (zm1 c a []):=by
 unfold zaq zm1
 rw [h1]
 simp only [bS]
 by_cases hc:c=0
 ·
  subst hc
  rw [if_neg (by simp),if_neg (by simp)]
  have e0:z3u [a] ((0:Nat):Int)=if decide (60<(a.length:Int)) then some (.inl (.inl 4)) else some (.inr ((1:Nat):Int)):=by
   unfold z3u
   rw [if_pos (by simp),z09 (by simp),z0g (by omega)]
   rfl
  have e1:z3u [a] ((1:Nat):Int)=some (.inl (.inr ())):=by
   unfold z3u
   rw [if_neg (by simp)]
  rw [show (0:Int)=((0:Nat):Int) from rfl]
  by_cases hb:60<a.length
  ·
   rw [if_pos (by simp; omega)] at e0
   rw [z1n e0,if_pos hb]; rfl
  ·
   rw [if_neg (by simp; omega)] at e0
   rw [z20 e0,z1n e1,if_neg hb,if_neg (by simp)]; rfl
 ·
  rw [if_pos (by simpa using hc),if_pos hc]
theorem zoj {c:Int} (h1:z1b g=some c) (a b:List ID):zaq g [a,b]=some (zm1 c a b):=by
 unfold zaq zm1
 rw [h1]
 simp only [bS]
 by_cases hc:c=0
 ·
  subst hc
  rw [if_neg (by simp),if_neg (by simp)]
  have e0:z3u [a,b] ((0:Nat):Int)=if decide (60<(a.length:Int)) then some (.inl (.inl 4)) else some (.inr ((1:Nat):Int)):=by
   unfold z3u
   rw [if_pos (by simp),z09 (by simp),z0g (by omega)]
   rfl
  have e1:z3u [a,b] ((1:Nat):Int)=if decide (60<(b.length:Int)) then some (.inl (.inl 4)) else some (.inr ((2:Nat):Int)):=by
   unfold z3u
   rw [if_pos (by simp),z09 (by simp),z0g (by omega)]
   rfl
  have e2:z3u [a,b] ((2:Nat):Int)=some (.inl (.inr ())):=by
   unfold z3u
   rw [if_neg (by simp)]
  rw [show (0:Int)=((0:Nat):Int) from rfl]
  by_cases ha:60<a.length
  ·
   rw [if_pos (by simp; omega)] at e0
   rw [z1n e0,if_pos ha]; rfl
  ·
   rw [if_neg (by simp; omega)] at e0
   rw [z20 e0,if_neg ha]
   by_cases hb:60<b.length
   ·
    rw [if_pos (by simp; omega)] at e1
    rw [z1n e1,if_pos hb]; rfl
   ·
    rw [if_neg (by simp; omega)] at e1
    rw [z20 e1,z1n e2,if_neg hb]; rfl
 ·
  rw [if_pos (by simpa using hc),if_pos hc]
theorem zu9 {c:Int} (h2:z0h g=some c) (a b:List ID):z7v g a b=some (zm1 c a b):=by
 unfold z7v zm1
 rw [h2]
 simp only [bS]
 by_cases hc:c=0
 ·
  subst hc
  rw [if_neg (by simp:¬ ((0:Int) != 0)=true),if_neg (fun h:(0:Int)≠0=>h rfl)]
  by_cases ha:60<a.length
  ·
   rw [if_pos (by simp; omega),if_pos ha]
  ·
   rw [if_neg (by simp; omega),if_neg ha]
   by_cases hb:60<b.length
   ·
    rw [if_pos (by simp; omega),if_pos hb]
   ·
    rw [if_neg (by simp; omega),if_neg hb]
 ·
  rw [if_pos (by simpa using hc),if_pos hc]
theorem zyl {c:Int} {a b:List ID} (h:zm1 c a b=0):c=0∧a.length≤60∧b.length≤60:=by
 unfold zm1 at h
 split at h
 ·
  rename_i h0; exact absurd h h0
 ·
  split at h
  ·
   simp at h
  ·
   split at h
   ·
    simp at h
   ·
    exact ⟨by omega, by omega, by omega⟩
section
variable {c:Int} (h1:z1b g=some c) (h2:z0h g=some c) (h3:c=0↔z5h g)
include h1 h2 h3
end
end
section
open Go
variable {g a b:z00} {n m:Nat}
theorem z15d (h:z21 g) {o:z07} (ho:o∈g.Ops):zcw o:=h.2.1.1 o ho
theorem z18m (F:Fit g n) (hn:n≤1000) (h:∀ o∈g.Ops,zcw o):z21 g:=by
 have h1:=F.len; have h2:=F.ids
 exact ⟨⟨fun x _ y _=>trivial, by omega⟩,⟨h, by omega⟩,trivial⟩
theorem z15f {o:z07} (h:zcw o):inI o.Act.Value.Num∧o.Act.Value.Text.length≤9223372036854775807:=⟨h.2.2.2.1.2.2.1.2.1,h.2.2.2.1.2.2.1.2.2.2.1⟩
theorem z16b {p:ID × z07} {o:z07} (h:o∈(zly g p).Ops):o=p.2∨o∈g.Ops:=by
 unfold zly at h
 split at h
 ·
  exact .inr h
 ·
  exact znl.1 h
theorem zsm (F:Fit g n) (hn:n≤1000) (l:List ID) (hl:l.length≤1000):z29 l g=some (l.any fun x=>!decide (x∈g.IDs)):=by
 have h1:=F.len; have h2:=F.ids
 have hcl:∀ x,zkx x g=some (!decide (x∈g.IDs)):=fun x=>by
  obtain ⟨k,k1,-⟩:=zdf g (by omega) F.ri x
  unfold zkx
  rw [k1]
  simp only [bS]
 have main:=zaa (F:=z1f l g) (fun s=>∃ i:Nat,s=(i:Int)∧i≤l.length∧∀ k (h:k<l.length),k<i→l[k]∈g.IDs) (fun s=>l.length - s.toNat)
  (fun b:Sum Int Unit=>(b=.inr ()∧∀ x∈l,x∈g.IDs)∨∃ i:Nat,b=.inl (i:Int)∧∃ x∈l,x∉g.IDs)
  (fun s hs=>by
   obtain ⟨i,rfl,h1,h2⟩:=hs
   by_cases hi:i<l.length
   ·
    have hF:z1f l g (i:Int)=if !decide (l[i]∈g.IDs) then some (.inl (.inl (i:Int))) else some (.inr ((i+1:Nat):Int)):=by
     unfold z1f
     rw [if_pos (by simpa using hi),z09 hi,z0g (by omega)]
     simp only [bS]
     rw [hcl]
     simp only [bS]
    by_cases hc:l[i]∈g.IDs
    ·
     rw [decide_eq_true hc,if_neg (by simp)] at hF
     refine .inr ⟨_,hF,⟨i+1,rfl,hi, fun k hk hki=>?_⟩, by simp; omega⟩
     by_cases hk':k=i
     ·
      subst hk'; exact hc
     ·
      exact h2 k hk (by omega)
    ·
     rw [decide_eq_false hc,if_pos (by simp)] at hF
     exact .inl ⟨_,hF,.inr ⟨i,rfl,l[i],List.getElem_mem hi,hc⟩⟩
   ·
    refine .inl ⟨.inr (),?_,.inl ⟨rfl, fun x hx=>?_⟩⟩
    ·
     unfold z1f
     rw [if_neg (by simpa using hi)]
    ·
     obtain ⟨k,hk,rfl⟩:=List.getElem_of_mem hx
     exact h2 k hk (by omega))
  0 ⟨0,rfl,Nat.zero_le _, fun k _ h=>by omega⟩
 obtain ⟨r,r1,r2⟩:=main
 unfold z29 z3i
 rw [r1]
 rcases r2 with ⟨rfl,h⟩ | ⟨i,rfl,x,hx,hxn⟩
 ·
  simp only [zuj,bS]
  have:(l.any fun x=>!decide (x∈g.IDs))=false:=by
   rw [List.any_eq_false]; intro x hx; simp [h x hx]
  rw [this]; rfl
 ·
  simp only [or_l,bS]
  have:(l.any fun x=>!decide (x∈g.IDs))=true:=by
   rw [List.any_eq_true]; exact ⟨x,hx, by simp [hxn]⟩
  rw [this]; simp
theorem z12x (F:Fit g n) (hn:n≤59) (hc:z1b g=some 0) {p:ID × z07} (hw:zcw p.2) (hp:p.2.Preds.length≤20) (h1:zgm p.2=0) (h2:sha (zfe p.2)=p.1) (hx:p.1∉g.IDs) (hq:∀ q∈p.2.Preds,q∈g.IDs):zpc g p.2=some (zly g p,p.1,0):=by
 obtain ⟨w1,w2⟩:=z15f hw
 have hl:=F.len
 have hany:(p.2.Preds.any fun x=>!decide (x∈g.IDs))=false:=by
  rw [List.any_eq_false]; intro x hx; simp [hq x hx]
 unfold zpc
 rw [hc]
 simp only [bS]
 rw [if_pos (by simp),zog _ w1 w2,h1]
 simp only [bS]
 rw [if_neg (by simp),z11e _ w1 w2,if_pos (z8h h1),h2]
 simp only [bS]
 rw [z11k F (by omega) p hp,decide_eq_false hx]
 simp only [bS]
 rw [if_neg (by simp),zsm F (by omega) _ (by omega),hany]
 simp only [bS]
 rw [if_neg (by simp),if_neg (by simp; omega)]
theorem z17i (F:Fit g n) (hn:n≤59) (hc:z0h g=some 0) {p:ID × z07} (hw:zcw p.2) (hp:p.2.Preds.length≤20∧p.2.Act.Key.length≤100∧p.2.Act.Value.Text.length≤100) (h1:zgm p.2=0) (h2:sha (zfe p.2)=p.1) (hx:p.1∉g.IDs) (hq:∀ q∈p.2.Preds,q∈g.IDs):zbn g p.2=some (zly g p,p.1,0):=by
 obtain ⟨w1,w2⟩:=z15f hw
 have hl:=F.len; have hi:=F.ids
 have hall:(p.2.Preds.all fun x=>decide (x∈g.IDs))=true:=by
  rw [List.all_eq_true]; intro x hx; simpa using hq x hx
 unfold zbn
 rw [hc]
 simp only [bS]
 rw [if_neg (by simp),zie _ w1 w2,h1]
 simp only [bS]
 rw [if_neg (by simp),znk _ (z8h h1) w1,h2]
 simp only [bS]
 rw [zw3 (by omega) hx]
 simp only [bS]
 rw [if_neg (by simp),zxc _ _ (by omega) (by omega),hall]
 simp only [bS]
 rw [if_neg (by simp),if_neg (by simp; omega),zrx F (by omega) p hp hx]
 simp only [bS]
theorem zyj (G:z5h g) (F:Fit g n) {l:List ID} {y p:ID} {o:z07} (h:z67 g l y) (ho:z4z g y=some o) (hp:p∈o.Preds):z67 g l p:=by
 have S:=zns G F
 have hpm:=S.ins y o ho p hp
 obtain ⟨i,i1,i2⟩:=(zab F).1 ho
 obtain ⟨hi,rfl⟩:=List.getElem?_eq_some_iff.1 i1
 obtain ⟨hio,rfl⟩:=List.getElem?_eq_some_iff.1 i2
 have hpp:g.IDs.idxOf p∈z19 g (g.IDs.idxOf g.IDs[i]):=by
  rw [z62 F.ri hi]
  unfold z19
  exact List.mem_map.2 ⟨p, by rw [z52 hio]; exact hp,rfl⟩
 refine ⟨hpm,.inr ?_⟩
 rcases h.2 with hl | ⟨x,hx,hxg,hr⟩
 ·
  exact ⟨_,hl,h.1,.base hpp⟩
 ·
  exact ⟨x,hx,hxg,.step hr hpp⟩
theorem zk8 {α:Type} (f:α→Bool):∀ (l:List α) (i:Nat) (h:i<(l.filter f).length),∃ k,∃ hk:k<l.length,l[k]=(l.filter f)[i]∧(l.take k).filter f=(l.filter f).take i
 | [],i,h=>by simp at h
 | x::l,i,h=>by
  by_cases hx:f x=true
  ·
   cases i with
   | zero=>exact ⟨0, by simp, by simp [List.filter_cons_of_pos hx], by simp⟩
   | succ i =>
    have h':i<(l.filter f).length:=by rw [List.filter_cons_of_pos hx] at h; simpa using h
    obtain ⟨k,hk,e1,e2⟩:=zk8 f l i h'
    exact ⟨k+1, by simpa using hk, by simp [List.filter_cons_of_pos hx,e1], by simp [List.filter_cons_of_pos hx,e2]⟩
  ·
   have h':i<(l.filter f).length:=by rw [List.filter_cons_of_neg hx] at h; exact h
   obtain ⟨k,hk,e1,e2⟩:=zk8 f l i h'
   exact ⟨k+1, by simpa using hk, by simp [List.filter_cons_of_neg hx,e1], by simp [List.filter_cons_of_neg hx,e2]⟩
structure zon (g:z00) (l r d:List ID):Prop where
 len:d.length≤60
 nd:d.Nodup
 mem:∀ x,x∈d↔z67 g l x∧¬ z67 g r x
 topo:∀ i (h:i<d.length) o,z4z g d[i]=some o→∀ p∈o.Preds,p∈d.take i∨z67 g r p
theorem zoo (G:z5h g) (F:Fit g n) (h1:z1b g=some 0) (h2:z0h g=some 0) (l r:List ID) (hl:l.length≤60) (hr:r.length≤60):∃ d,zc5 g l r=some d∧zf0 g l r=some d∧zon g l r d:=by
 obtain ⟨d,d1,d2,d3,-⟩:=z11h G h1 h2 ⟨fun _=>G, fun _=>rfl⟩ l r hl hr
 refine ⟨d,d1,d2,?_⟩
 obtain ⟨p,p1,-,_,p3,p4⟩:=zj0 G h1 h2 l hl
 obtain ⟨q,q1,-,_,q3,q4⟩:=zj0 G h1 h2 r hr
 obtain ⟨Q,Q1,Q2,Q3⟩:=zsa G h1
 obtain ⟨Qg,Qt⟩:=Q2.got
 have hlen:=G.e.len
 have hd:d=(Q.map (zdx g)).filter fun x=>!(!decide (x∈p) || decide (x∈q)):=by
  unfold zc5 at d1
  rw [p1,q1] at d1
  simp only [bS] at d1
  rw [Q1] at d1
  simp only [bS] at d1
  rw [z106 p q (fun x=>!decide (x∈p) || decide (x∈q)) (fun x=>by
   unfold zae
   rw [zai _ _ (by omega),zai _ _ (by omega)]
   simp only [bS]
   cases decide (x∈p) <;> rfl) _ (by simp; omega)] at d1
  simp only [bS] at d1
  exact (Option.some.inj d1).symm
 have hmemQ:∀ x,x∈Q.map (zdx g)↔x∈g.IDs:=fun x=>by
  constructor
  ·
   intro hx
   obtain ⟨i,hi,rfl⟩:=List.mem_map.1 hx
   have:=Qg.lt i hi
   rw [z68 (by rw [F.ids]; exact this)]
   exact List.getElem_mem _
  ·
   intro hx
   have hlt:g.IDs.idxOf x<g.Ops.length:=zeh G hx
   refine List.mem_map.2 ⟨g.IDs.idxOf x,?_,zbo hx⟩
   refine Classical.byContradiction fun hno=>?_
   have:=z7s (Q++[g.IDs.idxOf x]) (List.range g.Ops.length) (by
    rw [List.nodup_append]; exact ⟨Qg.nodup, by simp, fun a ha c hc e=>by rw [List.mem_singleton] at hc; subst hc; subst e; exact hno ha⟩) (fun y hy=>by
    rcases List.mem_append.1 hy with hy | hy
    ·
     simpa using Qg.lt y hy
    ·
     rw [List.mem_singleton] at hy; subst hy; simpa using hlt)
   rw [List.length_append,List.length_range,Q3] at this
   simp at this
   omega
 have hndQ:(Q.map (zdx g)).Nodup:=by
  rw [List.Nodup,List.pairwise_map]
  exact Qg.nodup.imp_of_mem fun {a b} ha hb hne e=>hne (by rw [← zej G.e (Qg.lt a ha),e,zej G.e (Qg.lt b hb)])
 have hf:∀ x,(!(!decide (x∈p) || decide (x∈q)))=true↔z67 g l x∧¬ z67 g r x:=fun x=>by
  rw [← p4,← q4]; simp
 refine ⟨d3,hd ▸ hndQ.sublist List.filter_sublist, fun x=>?_, fun i hi o ho y hy=>?_⟩
 ·
  rw [hd,List.mem_filter,hmemQ,hf]
  exact ⟨fun h=>h.2, fun h=>⟨h.1.1,h⟩⟩
 ·
  by_cases hb:z67 g r y
  ·
   exact .inr hb
  refine .inl ?_
  subst hd
  obtain ⟨k,hk,e1,e2⟩:=zk8 _ _ i hi
  rw [← e2,List.mem_filter,hf]
  have hxd:((Q.map (zdx g)).filter fun x=>!(!decide (x∈p) || decide (x∈q)))[i]∈(Q.map (zdx g)).filter fun x=>!(!decide (x∈p) || decide (x∈q)):=List.getElem_mem hi
  rw [List.mem_filter,hf] at hxd
  have hbl:=zyj G F hxd.2.1 ho hy
  refine ⟨?_,hbl,hb⟩
  have hkQ:k<Q.length:=by simpa using hk
  rw [List.map_take.symm]
  have hxk:zdx g Q[k]=((Q.map (zdx g)).filter fun x=>!(!decide (x∈p) || decide (x∈q)))[i]:=by rw [← e1]; simp
  have hlt:=Qg.lt Q[k] (List.getElem_mem hkQ)
  obtain ⟨j,j1,j2⟩:=(zab F).1 ho
  obtain ⟨hj,ej⟩:=List.getElem?_eq_some_iff.1 j1
  obtain ⟨hjo,rfl⟩:=List.getElem?_eq_some_iff.1 j2
  have hjk:j=Q[k]:=by
   have:=z62 F.ri hj
   rw [ej,← hxk,zej G.e hlt] at this
   exact this.symm
  have hpp:g.IDs.idxOf y∈z19 g Q[k]:=by
   unfold z19
   refine List.mem_map.2 ⟨y,?_,rfl⟩
   rw [← hjk,z52 hjo]; exact hy
  exact List.mem_map.2 ⟨_,Qt k hkQ _ hpp,zbo hbl.1⟩
structure Mid (a b s:z00) (d:List ID) (i:Nat):Prop where
 fit:Fit s (16+i)
 sound:zne s
 wf:∀ o∈s.Ops,zcw o
 ids:∀ x,x∈s.IDs↔x∈b.IDs∨x∈d.take i
 look:∀ x o,z4z s x=some o→z4z a x=some o∨z4z b x=some o
theorem zsq:Fit (⟨[],[]⟩:z00) 0:=⟨rfl,Nat.le_refl _,rfl, fun o ho=>by simp at ho⟩
theorem z11g (F:Fit g n) (hn:n≤1000) (hc:z1b g=some 0) {x:ID} {o:z07} (ho:z4z g x=some o):zkj g x=some (o,0):=by
 have h1:=F.len; have h2:=F.ids
 have hx:=(ziu ho).1
 obtain ⟨k,k1,k2,-⟩:=zdf g (by omega) F.ri x
 obtain ⟨rfl,hk⟩:=k2 hx
 have hko:g.IDs.idxOf x<g.Ops.length:=by omega
 have e:g.Ops[g.IDs.idxOf x]=o:=by
  unfold z4z at ho
  rw [if_pos hx,List.getElem?_eq_getElem hko] at ho
  exact Option.some.inj ho
 unfold zkj
 rw [hc]
 simp only [bS]
 rw [if_neg (by simp),k1,decide_eq_true hx]
 simp only [bS]
 rw [if_neg (by simp),z09 hko]
 simp only [bS]
 rw [e,zlm (by have:=(F.op o (ziu ho).2).1; omega)]
 simp only [bS]
theorem zor (Ga:z5h a) (Fa:Fit a n) (Gb:z5h b) (Fb:Fit b m) (hc:zbd a b) {l:List ID} (hl:∀ x∈l,x∈b.IDs) {x:ID} (h:z67 a l x):x∈b.IDs:=by
 have Sb:=zns Gb Fb
 have step:∀ y p,y∈b.IDs→y∈a.IDs→a.IDs.idxOf p∈z19 a (a.IDs.idxOf y)→p∈a.IDs→p∈b.IDs:=fun y p hy hya hp hpa=>by
  obtain ⟨o,ho⟩:=zcs Fa hya
  obtain ⟨q,hq⟩:=zcs Fb hy
  have:=(zep Fa Fb).1 hc y o q ho hq
  subst this
  obtain ⟨i,i1,i2⟩:=(zab Fa).1 ho
  obtain ⟨hi,rfl⟩:=List.getElem?_eq_some_iff.1 i1
  obtain ⟨hio,rfl⟩:=List.getElem?_eq_some_iff.1 i2
  rw [z62 Fa.ri hi] at hp
  unfold z19 at hp
  obtain ⟨z,hz,e⟩:=List.mem_map.1 hp
  rw [z52 hio] at hz
  have:z=p:=zif hpa e
  subst this
  exact Sb.ins _ _ hq z hz
 obtain ⟨hxa,h⟩:=h
 rcases h with h | ⟨y,hy,hya,hr⟩
 ·
  exact hl x h
 ·
  have key:∀ j,Rch (z19 a) (z19 a (a.IDs.idxOf y)) j→j<a.Ops.length∧zdx a j∈b.IDs:=fun j hj=>by
   induction hj with
   | @base i hi =>
    have hi':=hi
    unfold z19 at hi'
    obtain ⟨z,hz,e⟩:=List.mem_map.1 hi'
    have hza:=z99 Ga.ins _ z hz
    have hlt:i<a.Ops.length:=by rw [← e]; exact zeh Ga hza
    refine ⟨hlt,?_⟩
    have:zdx a i=z:=by rw [← e]; exact zbo hza
    rw [this]
    exact step y z (hl y hy) hya (by rw [e]; exact hi) hza
   | @step i p hr hp ih =>
    have hp':=hp
    unfold z19 at hp'
    obtain ⟨z,hz,e⟩:=List.mem_map.1 hp'
    have hza:=z99 Ga.ins _ z hz
    have hlt:p<a.Ops.length:=by rw [← e]; exact zeh Ga hza
    refine ⟨hlt,?_⟩
    have:zdx a p=z:=by rw [← e]; exact zbo hza
    rw [this]
    have hia:zdx a i∈a.IDs:=by rw [z68 (by rw [Fa.ids]; exact ih.1)]; exact List.getElem_mem _
    refine step (zdx a i) z ih.2 hia ?_ hza
    rw [zej Ga.e ih.1,e]; exact hp
  have:=(key _ hr).2
  rw [zbo hxa] at this
  exact this
theorem z14j (Ga:z5h a) (Fa:Fit a n) (wa:z21 a) (Gb:z5h b) (Fb:Fit b m) (hcl:zbd a b) {l r:List ID} (hr:∀ x∈r,x∈b.IDs) {d:List ID} (P:zon a l r d) {s:z00} {i:Nat} (hi:i<d.length) (hd:d.length≤16) (M:Mid a b s d i) :
  (d[i]∈b.IDs∧d[i]∈s.IDs∧Mid a b s d (i+1))∨(∃ o,d[i]∉b.IDs∧d[i]∉s.IDs∧z4z a d[i]=some o∧zpc s o=some (zly s (d[i],o),d[i],0)∧zbn s o=some (zly s (d[i],o),d[i],0)∧Mid a b (zly s (d[i],o)) d (i+1)):=by
 have htk:d.take (i+1)=d.take i++[d[i]]:=by rw [List.take_add_one,List.getElem?_eq_getElem hi]; rfl
 by_cases hb:d[i]∈b.IDs
 ·
  refine .inl ⟨hb,(M.ids _).2 (.inl hb),⟨M.fit.ids, by have:=M.fit.len; omega,M.fit.ri,M.fit.op⟩,M.sound,M.wf, fun x=>?_,M.look⟩
  rw [M.ids,htk,List.mem_append,List.mem_singleton]
  constructor
  ·
   rintro (h | h) <;> simp [h]
  ·
   rintro (h | h | rfl)
   ·
    exact .inl h
   ·
    exact .inr h
   ·
    exact .inl hb
 ·
  have hbel:=((P.mem _).1 (List.getElem_mem hi)).1
  obtain ⟨o,ho⟩:=zcs Fa hbel.1
  have hxs:d[i]∉s.IDs:=fun h=>by
   rcases (M.ids _).1 h with h | h
   ·
    exact hb h
   ·
    obtain ⟨j,hj,e⟩:=List.getElem_of_mem h
    rw [List.length_take] at hj
    rw [List.getElem_take] at e
    have:=zof P.nd (by omega) hi e
    omega
  have Sa:=zns Ga Fa
  obtain ⟨k1,k2,k3,k4⟩:=Sa.ops _ o ho
  have hop:=Fa.op o (ziu ho).2
  have hq:∀ q∈o.Preds,q∈s.IDs:=fun q hq=>by
   rw [M.ids]
   rcases P.topo i hi o ho q hq with h | h
   ·
    exact .inr h
   ·
    exact .inl (zor Ga Fa Gb Fb hcl hr h)
  have hw:=z15d wa (ziu ho).2
  have Fs:Fit s 60:=⟨M.fit.ids, by have:=M.fit.len; omega,M.fit.ri,M.fit.op⟩
  have Gs:=zos Fs M.sound
  obtain ⟨c,c1,c2,c3⟩:=znt (z18m M.fit (by omega) M.wf)
  have hc0:=c3.2 Gs
  subst hc0
  refine .inr ⟨o,hb,hxs,ho,z12x M.fit (by omega) c1 (p:=(d[i],o)) hw hop.1 k1 k2 hxs hq,z17i M.fit (by omega) c2 (p:=(d[i],o)) hw hop k1 k2 hxs hq,ziz M.fit hop,z116 M.fit M.sound (p:=(d[i],o)) hop hxs ⟨k1,k2,k3,k4⟩ hq, fun q hq'=>?_, fun x=>?_, fun x q hx=>?_⟩
  ·
   rcases z16b hq' with rfl | h
   ·
    exact hw
   ·
    exact M.wf q h
  ·
   rw [zul M.fit,M.ids,htk,List.mem_append,List.mem_singleton]
   constructor
   ·
    rintro (h | h | h) <;> simp [h]
   ·
    rintro (h | h | h) <;> simp [h]
  ·
   rw [zrp M.fit hop hxs] at hx
   split at hx
   ·
    rename_i e
    cases hx
    subst e
    exact .inl ho
   ·
    exact M.look x q hx
end
section
open Go
variable {g a b:z00} {n m:Nat}
theorem z13j (Fa:Fit a n) (hn:n≤1000) {d:List ID} {s:z00} {i:Nat} (hi:i<d.length) (hs:s.IDs.length≤1000) (hx:d[i]∈s.IDs) (s0:z00 × Int) (h0:s0.2=(i:Int)):iter (z3h a d s0) (s,0)=some s:=by
 have h1:=Fa.len; have h2:=Fa.ids
 refine z1s (F:=z3h a d s0) (b:=s) a.IDs.length (fun j=>(s,(j:Int))) (fun j hj=>?_) ?_
 ·
  unfold z3h
  simp only []
  rw [if_pos (by simpa using hj),z09 hj,h0,z09 hi]
  simp only [bS]
  rw [in27 _ _ (by omega),decide_eq_true hx,z0g (by omega)]
  simp only [bS]
  by_cases e:a.IDs[j]=d[i]
  ·
   rw [if_pos (by simpa using e)]; simp only [bS]; rw [if_neg (by simp)]
  ·
   rw [if_neg (by simpa using e)]; simp only [bS]; rw [if_neg (by simp)]
 ·
  unfold z3h
  rw [if_neg (by simp)]
theorem z10q (Fa:Fit a n) (hn:n≤1000) {d:List ID} {s s':z00} {i:Nat} (hi:i<d.length) (hs:s.IDs.length≤1000) (hx:d[i]∉s.IDs) {o:z07} (ho:z4z a d[i]=some o) {y:ID} {c:Int} (hadd:zbn s o=some (s',y,c)) (s0:z00 × Int) (h0:s0.2=(i:Int)):iter (z3h a d s0) (s,0)=some s':=by
 have h1:=Fa.len; have h2:=Fa.ids
 obtain ⟨k,k1,k2⟩:=(zab Fa).1 ho
 obtain ⟨hk,ek⟩:=List.getElem?_eq_some_iff.1 k1
 obtain ⟨hko,eo⟩:=List.getElem?_eq_some_iff.1 k2
 refine z1s (F:=z3h a d s0) (b:=s') a.IDs.length (fun j=>(if j≤k then s else s',(j:Int))) (fun j hj=>?_) ?_
 ·
  unfold z3h
  simp only []
  rw [if_pos (by simpa using hj),z09 hj,h0,z09 hi]
  simp only [bS]
  by_cases e:j=k
  ·
   subst e
   rw [if_pos (by simpa using ek),if_pos (Nat.le_refl _),in27 _ _ (by omega),decide_eq_false hx]
   simp only [bS]
   rw [if_pos (by simp),z09 hko,eo]
   simp only [bS]
   rw [hadd,z0g (by omega),if_neg (by omega)]
   simp only [bS]
  ·
   have hne:a.IDs[j]≠d[i]:=fun h=>e (zx5 Fa.ri hj hk (h.trans ek.symm))
   rw [if_neg (by simpa using hne),z0g (by omega)]
   simp only [bS]
   rw [if_neg (by simp)]
   by_cases h:j<k
   ·
    rw [if_pos (by omega),if_pos (by omega)]
   ·
    rw [if_neg (by omega),if_neg (by omega)]
 ·
  unfold z3h
  simp only []
  rw [if_neg (by simp),if_neg (by omega)]
theorem zxs (Ga:z5h a) (Fa:Fit a n) (hn:n≤60) (wa:z21 a) (ha:z1b a=some 0) (Gb:z5h b) (Fb:Fit b m) (hm:m≤60) (hcl:zbd a b) {l r:List ID} (hr:∀ x∈r,x∈b.IDs) {d:List ID} (P:zon a l r d) (hd:d.length≤16) :
  ∀ k i s,d.length - i=k→i≤d.length→Mid a b s d i→∃ s',iter (z98 a b d) (s,(i:Int))=some s'∧iter (z5g a d) (s,(i:Int))=some s'∧Mid a b s' d d.length:=by
 have hb1:=Fb.len; have hb2:=Fb.ids
 intro k
 induction k with
 | zero =>
  intro i s hk hi M
  have:i=d.length:=by omega
  subst this
  refine ⟨s,z1n ?_,z1n ?_,M⟩
  ·
   unfold z98; rw [if_neg (by simp)]
  ·
   unfold z5g; rw [if_neg (by simp)]
 | succ k ih =>
  intro i s hk hi M
  have hid:i<d.length:=by omega
  have hsl:=M.fit.len; have hsi:=M.fit.ids
  rcases z14j Ga Fa wa Gb Fb hcl hr P hid hd M with ⟨hb,hs,M'⟩ | ⟨o,hb,hs,ho,h1,h2,M'⟩
  ·
   have hF:z98 a b d (s,(i:Int))=some (.inr (s,((i+1:Nat):Int))):=by
    unfold z98
    simp only []
    rw [if_pos (by simpa using hid),z09 hid]
    simp only [bS]
    rw [zai _ _ (by omega),decide_eq_true hb,z0g (by omega)]
    simp only [bS]
    rfl
   have hG:z5g a d (s,(i:Int))=some (.inr (s,((i+1:Nat):Int))):=by
    unfold z5g
    simp only []
    rw [if_pos (by simpa using hid),z13j Fa (by omega) hid (by omega) hs _ rfl,z0g (by omega)]
    simp only [bS]
   rw [z20 hF,z20 hG]
   exact ih (i+1) s (by omega) (by omega) M'
  ·
   have hF:z98 a b d (s,(i:Int))=some (.inr (zly s (d[i],o),((i+1:Nat):Int))):=by
    unfold z98
    simp only []
    rw [if_pos (by simpa using hid),z09 hid]
    simp only [bS]
    rw [zai _ _ (by omega),decide_eq_false hb]
    simp only [bS]
    rw [if_neg (by simp),z11g Fa (by omega) ha ho]
    simp only [bS]
    rw [h1,z0g (by omega)]
    simp only [bS]
   have hG:z5g a d (s,(i:Int))=some (.inr (zly s (d[i],o),((i+1:Nat):Int))):=by
    unfold z5g
    simp only []
    rw [if_pos (by simpa using hid),z10q Fa (by omega) hid (by omega) hs ho h2 _ rfl,z0g (by omega)]
    simp only [bS]
   rw [z20 hF,z20 hG]
   exact ih (i+1) _ (by omega) (by omega) M'
theorem zv9:zne (⟨[],[]⟩:z00):=⟨fun x o h=>by simp [z4z] at h, fun x o h=>by simp [z4z] at h, fun _=>0, fun x o h=>by simp [z4z] at h⟩
theorem zql:z5h (⟨[],[]⟩:z00):=zos (g:=⟨[],[]⟩) ⟨rfl, by simp,rfl, fun o ho=>by simp at ho⟩ zv9
theorem zok:z1b (⟨[],[]⟩:z00)=some 0∧z0h (⟨[],[]⟩:z00)=some 0:=by
 obtain ⟨c,c1,c2,c3⟩:=znt (g:=⟨[],[]⟩) (z18m zsq (by omega) fun o ho=>by simp at ho)
 have:=c3.2 zql
 subst this
 exact ⟨c1,c2⟩
theorem zuy (Gb:z5h b) (hb:z1b b=some 0) (hb':z0h b=some 0) (Fb:Fit b m) (hm:m≤60):zgi b (⟨[],[]⟩:z00)=some (b,0):=by
 obtain ⟨r,r1,-,r3⟩:=zqo Gb zql hb zok.1 hb' zok.2 Fb zsq (by omega)
 rcases r3 with ⟨-,h⟩ | ⟨rfl,-⟩
 ·
  exact absurd (fun i hi=>by simp at hi) h
 ·
  exact r1
theorem zyv (G:z5h g) (h2:z0h g=some 0) (l:List ID) (hl:l.length≤60):∃ d,zdg g l=some d∧zho g l=some (d,0)∧d.length≤l.length∧∀ x,x∈d↔x∈l∧x∉g.IDs:=by
 obtain ⟨d,d1,d2,d3⟩:=zqg G.e l hl
 obtain ⟨e,e1,e2,e3⟩:=z10j G.e l hl
 have:d=e:=zck _ _ ((z83 _).1 d2) ((z83 _).1 e2) fun y=>by rw [d3,e3]
 subst this
 refine ⟨d,d1,?_,z7s _ _ (z9w d2) fun x hx=>((d3 x).1 hx).1,d3⟩
 have hk:zm1 0 l []=0:=by unfold zm1; rw [if_neg (by simp),if_neg (by omega),if_neg (by simp)]
 unfold zho
 rw [zu9 h2,hk]
 simp only [bS]
 rw [if_neg (by simp),e1]
 simp only [bS]
theorem zqm (G:z5h g) (h1:z1b g=some 0) (h2:z0h g=some 0):∃ r,zbj g=some (r,0)∧zhk g=some (r,0)∧r.length≤60∧r=zaj g (top g g.Ops.length):=by
 have hlen:=G.e.len
 have hids:=G.e.ids
 obtain ⟨r,p1,p2⟩:=zp0 G.e
 have hl:=zre (g:=g) (zn3 G.e (top g g.Ops.length)) fun y hy=>((zh6 G.e).1 hy).1
 have d0:((0:Int) != 0)=false:=rfl
 unfold zbj zhk
 rw [h1,h2]
 simp only [bS]
 simp only [d0,Bool.false_eq_true,if_false]
 rw [p1,z13x G.e G.ins]
 simp only [bS]
 rw [zjp (by omega) (by omega),hids]
 simp only [bS]
 rw [z1ad _ (by omega)]
 simp only [bS]
 rw [zyq G.e G.ins p2]
 simp only [bS]
 rw [z121 G.e]
 exact ⟨_,rfl,rfl, by omega,rfl⟩
theorem ztr (Fa:Fit a n) (Fb:Fit b m) (h:zbd a b):zbd b a:=(zep Fb Fa).2 fun x o q ho hq=>((zep Fa Fb).1 h x q o hq ho).symm
end
section
open Go
variable {g:z00}
theorem zoh {n x:Nat}:top g n x=true↔∀ k,k<n→x∉z19 g k:=by
 unfold top
 rw [List.all_eq_true]
 constructor
 ·
  intro h k hk hx
  have:=h k (by simpa using hk)
  simp [hx] at this
 ·
  intro h k hk
  have:=h k (by simpa using hk)
  simp [this]
theorem z13z (G:z5h g) (hc:z1b g=some 0):∀ i,i<g.Ops.length→∃ t,t<g.Ops.length∧top g g.Ops.length t=true∧Rch (z19 g) [t] i:=by
 obtain ⟨Q,q1,q2,q3⟩:=zsa G hc
 obtain ⟨got,topo⟩:=q2.got
 have hall:∀ i,i<g.Ops.length→i∈Q:=(znu got.nodup got.lt).1 (by omega)
 have key:∀ m i,g.Ops.length - Q.idxOf i=m→i<g.Ops.length→∃ t,t<g.Ops.length∧top g g.Ops.length t=true∧Rch (z19 g) [t] i:=by
  intro m
  induction m using Nat.strongRecOn with
  | _ m ih =>
   intro i hm hi
   cases ht:top g g.Ops.length i with
   | true=>exact ⟨i,hi,ht,.base (by simp)⟩
   | false =>
    have:∃ k,k<g.Ops.length∧i∈z19 g k:=by
     refine Classical.byContradiction fun hn=>?_
     have:top g g.Ops.length i=true:=zoh.2 fun k hk hx=>hn ⟨k,hk,hx⟩
     rw [ht] at this; simp at this
    obtain ⟨k,hk,hx⟩:=this
    have hkQ:=List.idxOf_lt_length_of_mem (hall k hk)
    have hlt:Q.idxOf i<Q.idxOf k:=by
     have h1:=topo (Q.idxOf k) hkQ i (by rw [List.getElem_idxOf]; exact hx)
     obtain ⟨j,hj,e⟩:=List.getElem_of_mem h1
     rw [List.length_take] at hj
     rw [List.getElem_take] at e
     have h2:Q.idxOf i≤j:=by
      refine Nat.le_of_not_lt fun c=>?_
      have h3:=List.idxOf_lt_length_of_mem (hall i hi)
      have:=(List.getElem_inj (xs:=Q) (i:=j) (j:=Q.idxOf i) (h₀:=by omega) (h₁:=h3) got.nodup).1 (by rw [e,List.getElem_idxOf])
      omega
     omega
    obtain ⟨t,t1,t2,t3⟩:=ih _ (by omega) k rfl hk
    exact ⟨t,t1,t2,.step t3 hx⟩
 exact fun i hi=>key _ i rfl hi
end
section
open Go
variable {a b g:z00} {n m:Nat}
theorem z12g (Ga:z5h a) (Fa:Fit a n) (Gb:z5h b) (Fb:Fit b m) (hc:zbd a b) {t:ID} (ht:t∈b.IDs) (hta:t∈a.IDs) {x:ID} (hx:x∈a.IDs) (hr:Rch (z19 a) [a.IDs.idxOf t] (a.IDs.idxOf x)):x∈b.IDs :=
 zor Ga Fa Gb Fb hc (l:=[t]) (fun z hz=>by rw [List.mem_singleton] at hz; subst hz; exact ht) ⟨hx, by
  rcases zl7.1 hr with h | ⟨s,h1,h2⟩
  ·
   rw [List.mem_singleton] at h
   exact .inl (by rw [List.mem_singleton]; exact zif hta h)
  ·
   rw [List.mem_singleton] at h1
   subst h1
   exact .inr ⟨t, by simp,hta,h2⟩⟩
theorem ztt (Ga:z5h a) (Gb:z5h b) (wa:z21 a) (wb:z21 b) (ha:z1b a=some 0) (hb:z1b b=some 0) (ha':z0h a=some 0) (hb':z0h b=some 0) (Fa:Fit a 16) (Fb:Fit b 16) (hcl:zbd a b) :
  ∃ w d,zd1 a b=some (zds a b,((zvm (zen (d.map (bts a)) d.length)).length:Int))∧zon a w (zaj b (top b b.Ops.length)) d∧(∀ x,x∈w↔x∈zaj a (top a a.Ops.length)∧x∉b.IDs)∧d.length≤16:=by
 obtain ⟨x,x1,x2,x3,x4⟩:=zqm Ga ha ha'
 obtain ⟨y,y1,y2,y3,y4⟩:=zqm Gb hb hb'
 obtain ⟨w,w1,w2,w3,w4⟩:=zyv Gb hb' x x3
 obtain ⟨d,d1,d2,P⟩:=zoo Ga Fa ha ha' w y (by omega) y3
 have hyb:∀ z∈y,z∈b.IDs:=fun z hz=>by rw [y4] at hz; exact ((zh6 Gb.e).1 hz).1
 have hdin:∀ z∈d,z∈a.IDs:=fun z hz=>((P.mem z).1 hz).1.1
 have hd16:d.length≤16:=by
  have:=z7s _ _ P.nd hdin
  have:=Fa.len; have:=Fa.ids
  omega
 have M0:Mid a b b d 0:=⟨⟨Fb.ids, by have:=Fb.len; omega,Fb.ri,Fb.op⟩,zns Gb Fb, fun o ho=>z15d wb ho, fun z=>by simp, fun z o h=>.inr h⟩
 obtain ⟨s,s1,s2,M⟩:=zxs Ga Fa (by omega) wa ha Gb Fb (by omega) hcl hyb P hd16 _ 0 b rfl (Nat.zero_le _) M0
 have hs:s=zds a b:=by
  refine zkw M.fit (zo1 Fa Fb) fun z=>?_
  rw [zm4 Fa Fb]
  have hM:=M.ids z
  rw [List.take_length] at hM
  cases hz:z4z s z with
  | some o =>
   rcases M.look z o hz with h | h
   ·
    rw [h]; rfl
   ·
    cases ho:z4z a z with
    | none=>rw [h]; rfl
    | some q=>rw [(zep Fa Fb).1 hcl z q o ho h]; rfl
  | none =>
   have hn:z∉s.IDs:=fun hc=>by
    obtain ⟨o,ho⟩:=zcs M.fit hc
    rw [hz] at ho; simp at ho
   have hzb:z∉b.IDs:=fun hc=>hn (hM.2 (.inl hc))
   have hza:z∉a.IDs:=fun hc=>by
    obtain ⟨t,t1,t2,t3⟩:=z13z Ga ha (a.IDs.idxOf z) (zeh Ga hc)
    have htl:t<a.IDs.length:=by have:=Ga.e.ids; omega
    have hta:zdx a t∈a.IDs:=by rw [z68 htl]; exact List.getElem_mem _
    have htx:a.IDs.idxOf (zdx a t)=t:=zej Ga.e t1
    have htb:zdx a t∉b.IDs:=fun hb=>hzb (z12g Ga Fa Gb Fb hcl hb hta hc (by rw [htx]; exact t3))
    have htw:zdx a t∈w:=by rw [w4,x4]; exact ⟨(zh6 Ga.e).2 ⟨hta, by rw [htx]; exact t2⟩,htb⟩
    refine hn (hM.2 (.inr ((P.mem z).2 ⟨⟨hc,?_⟩, fun hk=>hzb (zor Ga Fa Gb Fb hcl hyb hk)⟩)))
    rcases zl7.1 t3 with h | ⟨q,h1,h2⟩
    ·
     rw [List.mem_singleton] at h
     have:z=zdx a t:=by rw [← h]; exact (zbo hc).symm
     rw [this]; exact .inl htw
    ·
     rw [List.mem_singleton] at h1
     subst h1
     exact .inr ⟨zdx a q,htw,hta, by rw [htx]; exact h2⟩
   rw [zf6 hza,zf6 hzb]; rfl
 refine ⟨w,d,?_, by rw [← y4]; exact P, fun z=>by rw [w4,x4],hd16⟩
 rw [← hs]
 unfold zd1
 rw [x1,y1]
 simp only [bS]
 rw [w1]
 simp only [bS]
 rw [d1,zuy Gb hb hb' Fb (by omega)]
 simp only [bS]
 rw [show ((b,(0:Int)):z00 × Int)=(b,((0:Nat):Int)) from rfl,s1,zp3 Ga wa ha d (by omega) hdin]
 simp only [bS]
end
section
open Go
theorem okB_ {y:UInt32} {st:UInt64} {P:List O8} {sg:z0b} (hp:P.length≤4) (h:zgm (zht y st P sg)=0):OkN (zht y st P sg):=⟨h, by show (P.map idv).length≤4; rw [List.length_map]; exact hp, by show ([]:List UInt8).length≤100; simp, by show ([]:List UInt8).length≤100; simp, by show inI 0; unfold inI; omega⟩
theorem wfB_ {y:UInt32} {st:UInt64} {P:List O8} {sg:z0b} (hp:P.length≤4):zcw (zht y st P sg):=by
 have h4:(P.map idv).length≤4:=by rw [List.length_map]; exact hp
 refine ⟨trivial,⟨fun x _ y _=>trivial,Nat.le_trans h4 (by omega)⟩,trivial,?_,?_⟩
 ·
  refine ⟨trivial,?_,⟨trivial,?_,trivial,?_,trivial⟩,trivial⟩
  ·
   show ([]:List UInt8).length≤_; simp
  ·
   show inI 0; unfold inI; omega
  ·
   show ([]:List UInt8).length≤_; simp
 ·
  exact ⟨⟨trivial,trivial,trivial⟩,trivial⟩
theorem z16o:z5n [idv ib,idv ia,idv id4,idv ic]=true:=by
 have h:=zs9 [ib,ia,id4,ic]
 rw [show zvd [ib,ia,id4,ic]=true by decide +kernel] at h
 exact h
theorem pw27:kd (idv ib)<kd (idv ia)∧kd (idv ia)<kd (idv id4)∧kd (idv id4)<kd (idv ic) :=
 ⟨zd2 z16o (i:=0) (j:=1) (by simp) (by simp) (by omega),zd2 z16o (i:=1) (j:=2) (by simp) (by simp) (by omega),zd2 z16o (i:=2) (j:=3) (by simp) (by simp) (by omega)⟩
theorem okA:OkN xA:=okB_ (by simp) (zw8 runA)
theorem okB:OkN xB:=okB_ (by simp) (zw8 runB)
theorem okC:OkN xC:=okB_ (by simp) (zw8 runC)
theorem okD:OkN xD:=okB_ (by simp) (zw8 runD)
theorem jA:oid xA=idv ia:=(zqw runA).2.2.2.2.2
theorem jB:oid xB=idv ib:=(zqw runB).2.2.2.2.2
theorem jC:oid xC=idv ic:=(zqw runC).2.2.2.2.2
theorem jD:oid xD=idv id4:=(zqw runD).2.2.2.2.2
abbrev gA:z00:=⟨[idv ib,idv ia,idv ic],[xB,xA,xC]⟩
abbrev gB:z00:=⟨[idv ia],[xA]⟩
abbrev gC:z00:=⟨[idv ia,idv id4],[xA,xD]⟩
theorem incA:z5n [idv ib,idv ia,idv ic]=true:=by
 obtain ⟨h1,h2,h3⟩:=pw27
 rw [z83]
 simp only [List.pairwise_cons,List.mem_cons,List.not_mem_nil,or_false]
 refine ⟨?_,?_,⟨fun z hz=>absurd hz id,List.Pairwise.nil⟩⟩
 ·
  rintro z (rfl | rfl)
  ·
   exact h1
  ·
   omega
 ·
  rintro z rfl; omega
theorem incC:z5n [idv ia,idv id4]=true:=by
 obtain ⟨h1,h2,h3⟩:=pw27
 rw [z83]
 simp only [List.pairwise_cons,List.mem_cons,List.not_mem_nil,or_false]
 exact ⟨fun z hz=>by subst hz; exact h2,⟨fun z hz=>absurd hz id,List.Pairwise.nil⟩⟩
theorem inc1 (z:ID):z5n [z]=true:=by rw [z83]; simp
theorem inc0:z5n []=true:=by rw [z83]; simp
theorem isA:Fit gA 60∧zne gA:=by
 have i0:[idv ib,idv ia,idv ic].idxOf (idv ib)=0:=z62 incA (k:=0) (by simp)
 have i1:[idv ib,idv ia,idv ic].idxOf (idv ia)=1:=z62 incA (k:=1) (by simp)
 refine zod [1,0,2] rfl (by simp) incA fun i hi=>?_
 match i,hi with
 | 0,_=>exact ⟨okB,jB,inc1 _, fun p hp=>by
   have hp:p∈[idv ia]:=hp
   rw [List.mem_singleton] at hp
   subst hp
   exact ⟨by simp, by rw [i1]; decide⟩⟩
 | 1,_=>exact ⟨okA,jA,inc0, fun p hp=>by
   have hp:p∈([]:List ID):=hp
   simp at hp⟩
 | 2,_=>exact ⟨okC,jC,inc1 _, fun p hp=>by
   have hp:p∈[idv ib]:=hp
   rw [List.mem_singleton] at hp
   subst hp
   exact ⟨by simp, by rw [i0]; decide⟩⟩
theorem isB:Fit gB 60∧zne gB:=by
 refine zod [0] rfl (by simp) (inc1 _) fun i hi=>?_
 match i,hi with
 | 0,_=>exact ⟨okA,jA,inc0, fun p hp=>by
   have hp:p∈([]:List ID):=hp
   simp at hp⟩
theorem isC:Fit gC 60∧zne gC:=by
 have i0:[idv ia,idv id4].idxOf (idv ia)=0:=z62 incC (k:=0) (by simp)
 refine zod [0,1] rfl (by simp) incC fun i hi=>?_
 match i,hi with
 | 0,_=>exact ⟨okA,jA,inc0, fun p hp=>by
   have hp:p∈([]:List ID):=hp
   simp at hp⟩
 | 1,_=>exact ⟨okD,jD,inc1 _, fun p hp=>by
   have hp:p∈[idv ia]:=hp
   rw [List.mem_singleton] at hp
   subst hp
   exact ⟨by simp, by rw [i0]; decide⟩⟩
theorem ofB:z63 [xA]=some (gB,0):=z10u isB.1 isB.2 (fun o=>Iff.rfl) (by simp) (fun o ho=>by rw [List.mem_singleton] at ho; subst ho; exact okA) (by simp)
theorem ofC:z63 [xA,xD]=some (gC,0):=z10u isC.1 isC.2 (fun o=>Iff.rfl) (by simp) (fun o ho=>by
 simp only [List.mem_cons,List.not_mem_nil,or_false] at ho
 rcases ho with rfl | rfl
 ·
  exact okA
 ·
  exact okD) (by
 rw [List.map_cons,List.map_cons,List.map_nil,jA,jD]; exact z9w incC)
theorem ofA:z63 [xA,xB,xC]=some (gA,0):=z10u isA.1 isA.2 (fun o=>by
 simp only [List.mem_cons,List.not_mem_nil,or_false]
 constructor
 ·
  rintro (h | h | h) <;> simp [h]
 ·
  rintro (h | h | h) <;> simp [h]) (by simp) (fun o ho=>by
 simp only [List.mem_cons,List.not_mem_nil,or_false] at ho
 rcases ho with rfl | rfl | rfl
 ·
  exact okA
 ·
  exact okB
 ·
  exact okC) (by
 rw [List.map_cons,List.map_cons,List.map_cons,List.map_nil,jA,jB,jC]
 have h:=z9w incA
 simp only [List.nodup_cons,List.mem_cons,List.not_mem_nil,or_false,not_or,not_false_eq_true,List.nodup_nil,and_true] at h ⊢
 obtain ⟨⟨h1,h2⟩,h3⟩:=h
 exact ⟨⟨fun e=>h1 e.symm,h3⟩,h2⟩)
end
section
open Go
variable {g:z00} {n:Nat}
theorem znr {a b:List ID} (ha:a.length≤60) (hb:b.length≤60):zm1 0 a b=0:=by
 unfold zm1
 rw [if_neg (by simp),if_neg (by omega),if_neg (by omega)]
theorem z12w (G:z5h g) (h1:z1b g=some 0) (l:List ID) (hl:l.length≤60):∃ d,zer g l=some (d,0)∧z5n d=true∧∀ x,x∈d↔x∈l∧x∉g.IDs:=by
 obtain ⟨d,d1,d2,d3⟩:=zqg G.e l hl
 refine ⟨d,?_,d2,d3⟩
 unfold zer
 rw [z129 h1,znr hl (by simp)]
 simp only [bS]
 rw [if_neg (by simp),d1]
 rfl
theorem z119 (G:z5h g) (F:Fit g n) (h1:z1b g=some 0) (h2:z0h g=some 0) (a b:List ID) (ha:a.length≤60) (hb:b.length≤60):∃ d,z9x g a b=some (d,0)∧zon g a b d:=by
 obtain ⟨d,d1,-,P⟩:=zoo G F h1 h2 a b ha hb
 refine ⟨d,?_,P⟩
 unfold z9x
 rw [zoj h1,znr ha hb]
 simp only [bS]
 rw [if_neg (by simp),d1]
 rfl
end
section
open Go
theorem zna:z5h gA:=zos isA.1 isA.2
theorem zts:z5h gB:=zos isB.1 isB.2
theorem wfA:z21 gA:=⟨⟨fun x _ y _=>trivial, by simp⟩,⟨fun o ho=>by
 simp only [List.mem_cons,List.not_mem_nil,or_false] at ho
 rcases ho with rfl | rfl | rfl
 ·
  exact wfB_ (by simp)
 ·
  exact wfB_ (by simp)
 ·
  exact wfB_ (by simp), by simp⟩,trivial⟩
theorem wfB:z21 gB:=⟨⟨fun x _ y _=>trivial, by simp⟩,⟨fun o ho=>by
 rw [List.mem_singleton] at ho
 subst ho
 exact wfB_ (by simp), by simp⟩,trivial⟩
theorem zcd {g:z00} (G:z5h g) (w:z21 g):z1b g=some 0∧z0h g=some 0:=by
 obtain ⟨c,c1,c2,c3⟩:=znt w
 have hc:=c3.2 G
 subst hc
 exact ⟨c1,c2⟩
theorem idxA:gA.IDs.idxOf (idv ib)=0∧gA.IDs.idxOf (idv ia)=1∧gA.IDs.idxOf (idv ic)=2 :=
 ⟨z62 (l:=gA.IDs) incA (k:=0) (by simp),z62 (l:=gA.IDs) incA (k:=1) (by simp),z62 (l:=gA.IDs) incA (k:=2) (by simp)⟩
theorem z11l:z19 gA 0=[1]∧z19 gA 1=[]∧z19 gA 2=[0]∧∀ n,z19 gA (n+3)=[]:=by
 obtain ⟨i0,i1,i2⟩:=idxA
 refine ⟨?_,rfl,?_, fun n=>rfl⟩
 ·
  show [gA.IDs.idxOf (idv ia)]=[1]; rw [i1]
 ·
  show [gA.IDs.idxOf (idv ib)]=[0]; rw [i0]
theorem z18a:∀ n,z19 gB n=[]
 | 0=>rfl
 | n+1=>rfl
theorem z14z {x:ID}:z67 gA [idv ic] x↔x∈gA.IDs:=by
 obtain ⟨i0,i1,i2⟩:=idxA
 obtain ⟨p0,p1,p2,p3⟩:=z11l
 refine ⟨fun h=>h.1, fun h=>⟨h,?_⟩⟩
 have h':=h
 simp only [List.mem_cons,List.not_mem_nil,or_false] at h'
 rcases h' with rfl | rfl | rfl
 ·
  exact .inr ⟨idv ic, by simp, by simp, by rw [i2,i0,p2]; exact .base (by simp)⟩
 ·
  exact .inr ⟨idv ic, by simp, by simp, by rw [i2,i1,p2]; exact .step (.base (i:=0) (by simp)) (by rw [p0]; simp)⟩
 ·
  exact .inl (by simp)
theorem z15b {x:ID}:z67 gA [idv ia] x↔x=idv ia:=by
 obtain ⟨i0,i1,i2⟩:=idxA
 obtain ⟨p0,p1,p2,p3⟩:=z11l
 constructor
 ·
  rintro ⟨h,h1 | ⟨z,h1,h2,h3⟩⟩
  ·
   exact List.mem_singleton.1 h1
  ·
   rw [List.mem_singleton] at h1
   subst h1
   rw [i1,p1] at h3
   rcases zl7.1 h3 with h4 | ⟨s,h4,-⟩ <;> simp at h4
 ·
  rintro rfl
  exact ⟨by simp,.inl (by simp)⟩
theorem ne_D:idv id4∉gA.IDs:=fun h=>by
 obtain ⟨h1,h2,h3⟩:=pw27
 simp only [List.mem_cons,List.not_mem_nil,or_false] at h
 rcases h with h | h | h
 ·
  rw [h] at h2; omega
 ·
  rw [h] at h2; omega
 ·
  rw [h] at h3; omega
theorem zr4 {x:ID}:¬ z67 gA [idv id4] x:=by
 rintro ⟨h,h1 | ⟨z,h1,h2,h3⟩⟩
 ·
  rw [List.mem_singleton] at h1; subst h1; exact ne_D h
 ·
  rw [List.mem_singleton] at h1; subst h1; exact ne_D h2
end
section
open Go
theorem neAB:idv ia≠idv ib∧idv ia≠idv ic∧idv ib≠idv ic:=by
 have h:=z9w incA
 simp only [List.nodup_cons,List.mem_cons,List.not_mem_nil,or_false,not_or,not_false_eq_true,List.nodup_nil,and_true] at h
 exact ⟨fun e=>h.1.1 e.symm,h.2,h.1.2⟩
theorem zzf:z4z gA (idv ib)=some xB∧z4z gA (idv ia)=some xA∧z4z gA (idv ic)=some xC:=by
 obtain ⟨i0,i1,i2⟩:=idxA
 refine ⟨?_,?_,?_⟩
 ·
  unfold z4z; rw [if_pos (by simp),i0]; rfl
 ·
  unfold z4z; rw [if_pos (by simp),i1]; rfl
 ·
  unfold z4z; rw [if_pos (by simp),i2]; rfl
theorem zwx {d:List ID} (P:zon gA [idv ic] [idv ia] d):d=[idv ib,idv ic]:=by
 obtain ⟨n1,n2,n3⟩:=neAB
 obtain ⟨l1,l2,l3⟩:=zzf
 have hm:∀ x,x∈d↔x∈[idv ib,idv ic]:=fun x=>by
  rw [P.mem,z14z,z15b]
  simp only [List.mem_cons,List.not_mem_nil,or_false]
  constructor
  ·
   rintro ⟨h | h | h,hn⟩
   ·
    exact .inl h
   ·
    exact absurd h hn
   ·
    exact .inr h
  ·
   rintro (rfl | rfl)
   ·
    exact ⟨.inl rfl, fun e=>n1 e.symm⟩
   ·
    exact ⟨.inr (.inr rfl), fun e=>n2 e.symm⟩
 have hl:d.length=2:=zo2 P.nd (q:=[idv ib,idv ic]) (by simp [n3]) hm
 obtain ⟨p,q,rfl⟩:∃ p q,d=[p,q]:=by
  match d,hl with
  | [p,q],_=>exact ⟨p,q,rfl⟩
 have hp:=(hm p).1 (by simp)
 have hq:=(hm q).1 (by simp)
 have hpq:p≠q:=by have:=P.nd; simp at this; exact this
 simp only [List.mem_cons,List.not_mem_nil,or_false] at hp hq
 rcases hp with rfl | rfl
 ·
  rcases hq with rfl | rfl
  ·
   exact absurd rfl hpq
  ·
   rfl
 ·
  exfalso
  rcases P.topo 0 (by simp) xC l3 (idv ib) (by show idv ib∈[idv ib]; simp) with h | h
  ·
   simp at h
  ·
   exact n1 (z15b.1 h).symm
theorem zyn {d:List ID} (P:zon gA [idv ic] [idv id4] d):d=[idv ia,idv ib,idv ic]:=by
 obtain ⟨n1,n2,n3⟩:=neAB
 obtain ⟨l1,l2,l3⟩:=zzf
 have hm:∀ x,x∈d↔x∈[idv ia,idv ib,idv ic]:=fun x=>by
  rw [P.mem,z14z]
  simp only [List.mem_cons,List.not_mem_nil,or_false]
  constructor
  ·
   rintro ⟨h | h | h,hn⟩
   ·
    exact .inr (.inl h)
   ·
    exact .inl h
   ·
    exact .inr (.inr h)
  ·
   rintro (rfl | rfl | rfl)
   ·
    exact ⟨.inr (.inl rfl),zr4⟩
   ·
    exact ⟨.inl rfl,zr4⟩
   ·
    exact ⟨.inr (.inr rfl),zr4⟩
 have hl:d.length=3:=zo2 P.nd (q:=[idv ia,idv ib,idv ic]) (by simp [n1,n2,n3]) hm
 obtain ⟨p,q,r,rfl⟩:∃ p q r,d=[p,q,r]:=by
  match d,hl with
  | [p,q,r],_=>exact ⟨p,q,r,rfl⟩
 have hp:=(hm p).1 (by simp)
 have hq:=(hm q).1 (by simp)
 have hr:=(hm r).1 (by simp)
 have hnd:=P.nd
 simp only [List.nodup_cons,List.mem_cons,List.not_mem_nil,or_false,not_or,not_false_eq_true,List.nodup_nil,and_true] at hnd
 obtain ⟨⟨k1,k2⟩,k3⟩:=hnd
 simp only [List.mem_cons,List.not_mem_nil,or_false] at hp hq hr
 rcases hp with rfl | rfl | rfl
 ·
  rcases hq with rfl | rfl | rfl
  ·
   exact absurd rfl k1
  ·
   rcases hr with rfl | rfl | rfl
   ·
    exact absurd rfl k2
   ·
    exact absurd rfl k3
   ·
    rfl
  ·
   exfalso
   rcases P.topo 1 (by simp) xC l3 (idv ib) (by show idv ib∈[idv ib]; simp) with h | h
   ·
    simp at h; exact n1 h.symm
   ·
    exact zr4 h
 ·
  exfalso
  rcases P.topo 0 (by simp) xB l1 (idv ia) (by show idv ia∈[idv ia]; simp) with h | h
  ·
   simp at h
  ·
   exact zr4 h
 ·
  exfalso
  rcases P.topo 0 (by simp) xC l3 (idv ib) (by show idv ib∈[idv ib]; simp) with h | h
  ·
   simp at h
  ·
   exact zr4 h
end
section
open Go
theorem z17c {b c:List UInt8} (h:b.length≤400) (h':c.length≤400):okF [b,c]=true:=by
 have h1:=z0z ([b,c]:List (List UInt8)).length (by simp)
 have h2:=z0z b.length (by omega)
 have h3:=z0z c.length (by omega)
 unfold okF zmx zhx
 simp only [Bool.and_eq_true,decide_eq_true_eq,List.length_append,List.flatMap_cons,List.flatMap_nil,List.length_cons,List.length_nil] at *
 omega
theorem z17d {b c:List UInt8} (h:b.length≤400) (h':c.length≤400):(zvm (zen [b,c] 2)).length=1:=by
 have e1:zen [b,c] 1=some ([],[b]):=rfl
 rw [zio [b,c] (i:=1) (by simp),e1]
 show (zvm (if okF ([b]++[c]) then some ([],[b]++[c]) else some ([]++[[b]],[c]))).length=1
 rw [show [b]++[c]=[b,c] from rfl,z17c h h',if_pos rfl]
 rfl
end
section
open Go
theorem zhy:Fit gA 16:=⟨isA.1.ids, by simp,isA.1.ri,isA.1.op⟩
theorem zkr:Fit gB 16:=⟨isB.1.ids, by simp,isB.1.ri,isB.1.op⟩
theorem idxB:gB.IDs.idxOf (idv ia)=0:=z62 (l:=gB.IDs) isB.1.ri (k:=0) (by simp)
theorem z170 {x:ID}:z4z gB x=if x=idv ia then some xA else none:=by
 by_cases h:x=idv ia
 ·
  subst h
  rw [if_pos rfl]
  unfold z4z
  rw [if_pos (by simp),idxB]; rfl
 ·
  rw [if_neg h,zf6 (by simpa using h)]
theorem zpk:zbd gA gB:=(zep zhy zkr).2 fun x o q ho hq=>by
 rw [z170] at hq
 by_cases h:x=idv ia
 ·
  subst h
  rw [if_pos rfl] at hq
  rw [zzf.2.1] at ho
  rw [← Option.some.inj ho,← Option.some.inj hq]
 ·
  rw [if_neg h] at hq; simp at hq
theorem z11t:zbd gB gA:=ztr zhy zkr zpk
theorem z17k:zds gA gB=gA:=zkw (zo1 zhy zkr) zhy fun x=>by
 rw [zm4 zhy zkr]
 cases h:z4z gA x with
 | some o=>rfl
 | none =>
  rw [z170,if_neg (fun e=>by subst e; rw [zzf.2.1] at h; simp at h)]
  rfl
theorem z17l:zds gB gA=gA:=zkw (zo1 zkr zhy) zhy fun x=>by
 rw [zm4 zkr zhy,z170]
 by_cases e:x=idv ia
 ·
  subst e; rw [if_pos rfl,zzf.2.1]; rfl
 ·
  rw [if_neg e]; rfl
theorem topB:zaj gB (top gB gB.Ops.length)=[idv ia]:=by
 have t:top gB 1 0=true:=zoh.2 fun k hk h=>by rw [z18a] at h; simp at h
 show ([0].filter (top gB 1)).map (zdx gB)=[idv ia]
 simp only [List.filter_cons,t,List.filter_nil,if_true]
 rfl
theorem topA:zaj gA (top gA gA.Ops.length)=[idv ic]:=by
 obtain ⟨p0,p1,p2,p3⟩:=z11l
 have t0:top gA 3 0=false:=by
  rw [← Bool.not_eq_true,zoh]
  intro h
  exact h 2 (by omega) (by rw [p2]; simp)
 have t1:top gA 3 1=false:=by
  rw [← Bool.not_eq_true,zoh]
  intro h
  exact h 0 (by omega) (by rw [p0]; simp)
 have t2:top gA 3 2=true:=zoh.2 fun k hk h=>by
  rcases (show k=0∨k=1∨k=2 by omega) with rfl | rfl | rfl
  ·
   rw [p0] at h; simp at h
  ·
   rw [p1] at h; simp at h
  ·
   rw [p2] at h; simp at h
 show ([0,1,2].filter (top gA 3)).map (zdx gA)=[idv ic]
 simp only [List.filter_cons,t0,t1,t2,List.filter_nil,if_true,Bool.false_eq_true,if_false]
 rfl
end
section
open Go
theorem zuv {g:z00} {l l':List ID} (h:∀ x,x∈l↔x∈l') (y:ID):z67 g l y↔z67 g l' y:=by
 unfold z67
 rw [h]
 constructor
 ·
  rintro ⟨h1,h2 | ⟨x,h2,h3⟩⟩
  ·
   exact ⟨h1,.inl h2⟩
  ·
   exact ⟨h1,.inr ⟨x,(h x).1 h2,h3⟩⟩
 ·
  rintro ⟨h1,h2 | ⟨x,h2,h3⟩⟩
  ·
   exact ⟨h1,.inl h2⟩
  ·
   exact ⟨h1,.inr ⟨x,(h x).2 h2,h3⟩⟩
theorem z18f:zd1 gA gB=some (gA,1):=by
 obtain ⟨ca,ca'⟩:=zcd zna wfA
 obtain ⟨cb,cb'⟩:=zcd zts wfB
 obtain ⟨n1,n2,n3⟩:=neAB
 obtain ⟨w,d,e1,P,hw,-⟩:=ztt zna zts wfA wfB ca cb ca' cb' zhy zkr zpk
 rw [topB] at P
 have hw:∀ x,x∈w↔x∈[idv ic]:=fun x=>by
  rw [hw,topA]
  constructor
  ·
   exact fun h=>h.1
  ·
   intro h
   refine ⟨h,?_⟩
   rw [List.mem_singleton] at h ⊢
   subst h
   exact fun e=>n2 e.symm
 have hd:=zwx (d:=d) ⟨P.len,P.nd, fun x=>(P.mem x).trans (by rw [zuv hw]),P.topo⟩
 rw [e1,z17k,hd]
 have h1:=zp1 zna wfA (x:=idv ib) (by simp)
 have h2:=zp1 zna wfA (x:=idv ic) (by simp)
 have:=z17d h1 h2
 show some (gA,((zvm (zen [bts gA (idv ib),bts gA (idv ic)] 2)).length:Int))=_
 rw [this]; rfl
theorem z18d:zd1 gB gA=some (gA,0):=by
 obtain ⟨ca,ca'⟩:=zcd zna wfA
 obtain ⟨cb,cb'⟩:=zcd zts wfB
 obtain ⟨w,d,e1,P,hw,-⟩:=ztt zts zna wfB wfA cb ca cb' ca' zkr zhy z11t
 have hw:∀ x,x∉w:=fun x h=>by
  rw [hw,topB,List.mem_singleton] at h
  obtain ⟨rfl,h⟩:=h
  exact h (by simp)
 have hd:d=[]:=by
  refine List.eq_nil_iff_forall_not_mem.2 fun x hx=>?_
  obtain ⟨⟨-,h | ⟨z,h,-⟩⟩,-⟩:=(P.mem x).1 hx
  ·
   exact hw _ h
  ·
   exact hw _ h
 rw [e1,z17l,hd]
 rfl
end
section
open Go
theorem opA_:z3g 1 []=some xA:=by
 unfold z3g
 have:z4g 5 (⟨0,[],1,⟨1,[],⟨0,0,0,[]⟩⟩,⟨0,0⟩⟩:z07)=some (xA,0):=by
  have e:(⟨0,[],1,⟨1,[],⟨0,0,0,[]⟩⟩,⟨0,0⟩⟩:z07)=askO 1 []:=by
   unfold askO
   rfl
  rw [e]
  exact zxa runA
 rw [this]; rfl
theorem opB_:z3g 2 [idv ia]=some xB:=by
 unfold z3g
 have:z4g 5 (⟨0,[idv ia],2,⟨1,[],⟨0,0,0,[]⟩⟩,⟨0,0⟩⟩:z07)=some (xB,0):=zxa runB
 rw [this]; rfl
theorem opC_:z3g 3 [idv ib]=some xC:=by
 unfold z3g
 have:z4g 5 (⟨0,[idv ib],3,⟨1,[],⟨0,0,0,[]⟩⟩,⟨0,0⟩⟩:z07)=some (xC,0):=zxa runC
 rw [this]; rfl
theorem opD_:z3g 9 [idv ia]=some xD:=by
 unfold z3g
 have:z4g 5 (⟨0,[idv ia],9,⟨1,[],⟨0,0,0,[]⟩⟩,⟨0,0⟩⟩:z07)=some (xD,0):=zxa runD
 rw [this]; rfl
theorem zr3 {o:z07} (h:OkN o):z3p o=some (oid o):=znk _ (z8h h.good) h.num
theorem z14f:za5=some [xA,xB,xC]:=by
 unfold za5
 rw [opA_]
 simp only [bS]
 rw [zr3 okA,jA]
 simp only [bS]
 rw [opB_]
 simp only [bS]
 rw [zr3 okB,jB]
 simp only [bS]
 rw [opC_]
 rfl
theorem exch:zdm gA gB=some (gA,gA,1,0):=by
 obtain ⟨ca,ca'⟩:=zcd zna wfA
 obtain ⟨cb,cb'⟩:=zcd zts wfB
 obtain ⟨r,r1,-,r2⟩:=zqo zna zts ca cb ca' cb' zhy zkr (by omega)
 rcases r2 with ⟨-,h⟩ | ⟨rfl,-⟩
 ·
  exact absurd zpk h
 ·
  unfold zdm
  rw [r1]
  simp only [bS]
  rw [if_neg (by simp),z18f]
  simp only [bS]
  rw [z18d]
  rfl
theorem z17u:zer gB [idv ic]=some ([idv ic],0):=by
 obtain ⟨cb,cb'⟩:=zcd zts wfB
 obtain ⟨d,d1,d2,d3⟩:=z12w zts cb [idv ic] (by simp)
 have:d=[idv ic]:=zck _ _ ((z83 _).1 d2) (List.pairwise_singleton _ _) fun x=>by
  rw [d3]
  refine ⟨fun h=>h.1, fun h=>⟨h, fun e=>?_⟩⟩
  rw [List.mem_singleton] at h e
  exact neAB.2.1 (e.symm.trans h)
 rw [d1,this]
theorem z16c:z9x gA [idv ic] [idv ia]=some ([idv ib,idv ic],0):=by
 obtain ⟨ca,ca'⟩:=zcd zna wfA
 obtain ⟨d,d1,P⟩:=z119 zna isA.1 ca ca' [idv ic] [idv ia] (by simp) (by simp)
 rw [d1,zwx P]
theorem z15w:z9x gA [idv ic] [idv id4]=some ([idv ia,idv ib,idv ic],0):=by
 obtain ⟨ca,ca'⟩:=zcd zna wfA
 obtain ⟨d,d1,P⟩:=z119 zna isA.1 ca ca' [idv ic] [idv id4] (by simp) (by simp)
 rw [d1,zyn P]
end
section
open Go
theorem ztc:zbp=some true:=by
 unfold zbp
 rw [z14f]
 simp only [bS]
 rw [ofA]
 simp only [bS]
 rw [show cut [xA,xB,xC] 0 1=some [xA] from rfl]
 simp only [bS]
 rw [ofB, show idx [xA,xB,xC] 0=some xA from rfl, show idx [xA,xB,xC] 1=some xB from rfl, show idx [xA,xB,xC] 2=some xC from rfl]
 simp only [bS]
 rw [zr3 okA,jA]
 simp only [bS]
 rw [zr3 okB,jB]
 simp only [bS]
 rw [zr3 okC,jC]
 simp only [bS]
 rw [opD_]
 simp only [bS]
 rw [ofC]
 simp only [bS]
 rw [z17u]
 simp only [bS]
 rw [z16c]
 simp only [bS]
 rw [zr3 okD,jD]
 simp only [bS]
 rw [z15w]
 simp only [bS]
 rw [exch]
 simp only [bS]
 have s:=(isA.1.small (by omega))
 rw [zzs [idv ic] (by simp),zzs [idv ib,idv ic] (by simp),zzs [idv ia,idv ib,idv ic] (by simp),z115 s]
 rfl
end
section
open Go
variable {g:z00} {n:Nat}
structure z145 (L:List (List (List UInt8))) (bs:List (List UInt8)):Prop where
 ok:∀ q∈L,okF q=true∧q≠[]∧∀ o∈q,o.length≤400
 all:L.flatten=bs
 adj:∀ k q b t,L[k]? = some q→L[k+1]? = some (b::t)→okF (q++[b])=false
theorem z15h (bs:List (List UInt8)) (hb:∀ b∈bs,b.length≤400):∀ i,i≤bs.length→∀ a l,zen bs i=some (a,l)→z145 (a++[l]) (bs.take i)
 | 0,_,a,l,h=>by simp [zen] at h
 | i+1,hi,a,l,h=>by
  have hlt:i<bs.length:=by omega
  have hbi:bs[i].length≤400:=hb _ (List.getElem_mem hlt)
  have htk:bs.take (i+1)=bs.take i++[bs[i]]:=by rw [List.take_add_one,List.getElem?_eq_getElem hlt]; rfl
  rw [zio bs hlt] at h
  rcases zge bs hb i (by omega) with ⟨h0,hi0⟩ | ⟨a',l',h0,-,hne,-,-⟩
  ·
   rw [h0] at h
   simp only [Option.some.injEq,Prod.mk.injEq] at h
   obtain ⟨rfl,rfl⟩:=h
   subst hi0
   refine ⟨fun q hq=>?_, by rw [htk]; simp, fun k q b t h1 h2=>by simp at h2⟩
   simp only [List.nil_append,List.mem_singleton] at hq
   subst hq
   exact ⟨z11p hbi, by simp, fun o ho=>by rw [List.mem_singleton] at ho; rw [ho]; exact hbi⟩
  ·
   have ih:=z15h bs hb i (by omega) a' l' h0
   rw [h0] at h
   by_cases hc:okF (l'++[bs[i]])=true
   ·
    simp only [if_pos hc,Option.some.injEq,Prod.mk.injEq] at h
    obtain ⟨rfl,rfl⟩:=h
    have hl:=ih.ok l' (by simp)
    refine ⟨fun q hq=>?_,?_, fun k q b t h1 h2=>?_⟩
    ·
     rcases List.mem_append.1 hq with hq | hq
     ·
      exact ih.ok q (List.mem_append.2 (.inl hq))
     ·
      rw [List.mem_singleton] at hq
      subst hq
      exact ⟨hc, by simp, fun o ho=>(List.mem_append.1 ho).elim (hl.2.2 o) fun ho=>by rw [List.mem_singleton] at ho; rw [ho]; exact hbi⟩
    ·
     rw [htk,← ih.all]; simp
    ·
     by_cases hk:k+1<a'.length
     ·
      rw [List.getElem?_append_left (by omega)] at h1
      rw [List.getElem?_append_left hk] at h2
      exact ih.adj k q b t (by rw [List.getElem?_append_left (by omega)]; exact h1) (by rw [List.getElem?_append_left hk]; exact h2)
     ·
      have hk2:k+1=a'.length:=by
       have:k+1<(a'++[l'++[bs[i]]]).length:=(List.getElem?_eq_some_iff.1 h2).1
       simp at this; omega
      rw [List.getElem?_append_left (by omega)] at h1
      rw [hk2,List.getElem?_append_right (Nat.le_refl _),Nat.sub_self] at h2
      simp only [List.getElem?_cons_zero,Option.some.injEq] at h2
      match l',hne with
      | c::t',_ =>
       simp only [List.cons_append,List.cons.injEq] at h2
       refine ih.adj k q b t' (by rw [List.getElem?_append_left (by omega)]; exact h1) ?_
       rw [hk2,List.getElem?_append_right (Nat.le_refl _),Nat.sub_self,h2.1]
       rfl
   ·
    simp only [if_neg hc,Option.some.injEq,Prod.mk.injEq] at h
    obtain ⟨rfl,rfl⟩:=h
    refine ⟨fun q hq=>?_,?_, fun k q b t h1 h2=>?_⟩
    ·
     rcases List.mem_append.1 hq with hq | hq
     ·
      exact ih.ok q hq
     ·
      rw [List.mem_singleton] at hq
      subst hq
      exact ⟨z11p hbi, by simp, fun o ho=>by rw [List.mem_singleton] at ho; rw [ho]; exact hbi⟩
    ·
     rw [htk,← ih.all]; simp
    ·
     by_cases hk:k+1<(a'++[l']).length
     ·
      rw [List.getElem?_append_left (by omega)] at h1
      rw [List.getElem?_append_left hk] at h2
      exact ih.adj k q b t h1 h2
     ·
      have hk2:k+1=(a'++[l']).length:=by
       have:k+1<(a'++[l']++[[bs[i]]]).length:=(List.getElem?_eq_some_iff.1 h2).1
       simp at this ⊢; simp at hk; omega
      have hk3:k=a'.length:=by simp at hk2; exact hk2
      rw [hk2,List.getElem?_append_right (Nat.le_refl _),Nat.sub_self] at h2
      simp only [List.getElem?_cons_zero,Option.some.injEq,List.cons.injEq] at h2
      rw [List.getElem?_append_left (by omega),hk3,List.getElem?_append_right (Nat.le_refl _),Nat.sub_self] at h1
      simp only [List.getElem?_cons_zero,Option.some.injEq] at h1
      subst h1
      rw [← h2.1]
      simpa using hc
theorem z199 (bs:List (List UInt8)) (hb:∀ b∈bs,b.length≤400):∃ Q,zvm (zen bs bs.length)=Q.map fr∧z145 Q bs:=by
 rcases zge bs hb bs.length (Nat.le_refl _) with ⟨h,h0⟩ | ⟨a,l,h,-⟩
 ·
  have:bs=[]:=List.length_eq_zero_iff.1 h0
  subst this
  exact ⟨[], by rw [h]; rfl,⟨by simp,rfl, by simp⟩⟩
 ·
  have:=z15h bs hb bs.length (Nat.le_refl _) a l h
  rw [List.take_length] at this
  exact ⟨a++[l], by rw [h]; simp [zvm],this⟩
theorem zyc {α:Type} (Q:List (List α)) {i:Nat} (hi:i<Q.length):(Q.take (i+1)).flatten=(Q.take i).flatten++Q[i]:=by
 have:Q.take (i+1)=Q.take i++[Q[i]]:=by rw [List.take_add_one,List.getElem?_eq_getElem hi]; rfl
 rw [this,List.flatten_append]
 simp only [List.flatten_cons,List.flatten_nil,List.append_nil]
theorem z11j {α:Type} (Q:List (List α)) (i:Nat):(Q.take i).flatten.length≤Q.flatten.length:=by
 have:=congrArg (fun l=>(List.flatten l).length) (List.take_append_drop i Q)
 simp only [List.flatten_append,List.length_append] at this
 omega
theorem z11v {Q:List (List (List UInt8))} {bs:List (List UInt8)} (C:z145 Q bs) {i:Nat} (hi:i<Q.length):Q[i].length≤8:=by
 have:=(C.ok _ (List.getElem_mem hi)).1
 unfold okF at this
 simp only [Bool.and_eq_true,decide_eq_true_eq] at this
 exact this.1
theorem z12p {Q:List (List (List UInt8))} {bs:List (List UInt8)} (C:z145 Q bs) (hl:bs.length≤60) (hQ:Q.length≤60) (e:Int):iter (z3x (Q.map fr,e)) ([],0)=some (.inr bs):=by
 have h0:(([],0):List (List UInt8) × Int)=((Q.take 0).flatten,((0:Nat):Int)):=rfl
 rw [h0]
 refine z1s (F:=z3x (Q.map fr,e)) Q.length (fun i=>((Q.take i).flatten,(i:Int))) (fun i hi=>?_) ?_
 ·
  have hm:∀ {j:Nat} (hj:j<Q.length),idx (Q.map fr) (j:Int)=some (fr Q[j]):=fun {j} hj=>by
   rw [z09 (by simpa using hj),List.getElem_map]
  have h8:=z11v C hi
  obtain ⟨k1,k2,k3⟩:=C.ok _ (List.getElem_mem hi)
  have hf1:=z11j Q i
  rw [C.all] at hf1
  obtain ⟨b,t,hbt⟩:∃ b t,Q[i]=b::t:=by
   cases hq:Q[i] with
   | nil=>exact absurd hq k2
   | cons b t=>exact ⟨b,t,rfl⟩
  have hb4:b.length≤400:=k3 b (by rw [hbt]; simp)
  have d0:((0:Int) != 0)=false:=rfl
  have h5:((fr Q[i]).Kind != 5)=false:=rfl
  have hlen:(((fr Q[i]).Ops.length:Int)==0)=false:=by
   show ((Q[i].length:Int)==0)=false
   rw [hbt]; simp; omega
  unfold z3x
  simp only []
  rw [if_pos (by simpa using hi),hm hi]
  simp only [bS]
  rw [zmj _ (by omega) k3,if_pos k1]
  simp only [bS,d0,h5,hlen,Bool.false_eq_true,if_false]
  have hmid:(if decide (0<(i:Int)) then
    idx (Q.map fr) (w64 ((i:Int) - 1)) >>= fun x36 =>
    app 24 ([]:List (List UInt8)) x36.Ops >>= fun x38 =>
    idx (fr Q[i]).Ops 0 >>= fun x42 =>
    app 24 x38 [x42] >>= fun x44 =>
    zc2 (⟨5,0,[],x44⟩:z1o) >>= fun r47 =>
    if r47==0 then
     some (.inl (.inl (.inl false)))
    else
     some (.inr ())
   else
    some (.inr ()):Option (Sum (Sum (Sum Bool (List (List UInt8))) (List (List UInt8) × Int)) Unit))=some (.inr ()):=by
   cases i with
   | zero=>rfl
   | succ j =>
    have hj:j<Q.length:=by omega
    have h8j:=z11v C hj
    obtain ⟨-,-,k3j⟩:=C.ok _ (List.getElem_mem hj)
    rw [if_pos (by simp <;> omega), show w64 (((j+1:Nat):Int) - 1)=(j:Int) by rw [z18 (by omega) (by omega)]; omega,hm hj]
    simp only [bS]
    rw [show (fr Q[j]).Ops=Q[j] from rfl,z1a (by simp; omega)]
    simp only [bS,List.nil_append]
    rw [show (fr Q[j+1]).Ops=b::t from hbt, show idx (b::t) 0=some b from rfl]
    simp only [bS]
    rw [z1a (by simp; omega)]
    simp only [bS]
    have had:okF (Q[j]++[b])=false:=C.adj j Q[j] b t (List.getElem?_eq_getElem hj) (by rw [List.getElem?_eq_getElem hi,hbt])
    have:=zmj (Q[j]++[b]) (by simp; omega) (fun o ho=>(List.mem_append.1 ho).elim (k3j o) fun ho=>by rw [List.mem_singleton] at ho; rw [ho]; exact hb4)
    rw [show (⟨5,0,[],Q[j]++[b]⟩:z1o)=fr (Q[j]++[b]) from rfl,this,had]
    rfl
  rw [hmid]
  simp only [zuj]
  rw [show (fr Q[i]).Ops=Q[i] from rfl,z1a (by omega),z0g (by omega)]
  simp only [bS]
  rw [zyc Q hi]
 ·
  unfold z3x
  simp only []
  rw [if_neg (by simp),List.take_length,C.all]
theorem ztn (a0:z00) (a1 a2:List ID) (w0:z21 a0) (_:(∀ x∈a1,∀ y∈x.toList,(fun _=>True) y)∧a1.length≤9223372036854775807) (_:(∀ x∈a2,∀ y∈x.toList,(fun _=>True) y)∧a2.length≤9223372036854775807):za0 a0 a1 a2=some true:=by
 obtain ⟨b,b1,b2⟩:=z137 a0
 obtain ⟨c,c1,c2,c3⟩:=znt w0
 unfold za0
 rw [ztc]
 simp only [bS]
 rw [b1]
 simp only [bS]
 cases b with
 | true=>rfl
 | false =>
  rw [if_neg (by simp),zu9 c2]
  simp only [bS]
  by_cases hk:zm1 c a1 a2=0
  ·
   obtain ⟨rfl,l1,l2⟩:=zyl hk
   have G:=c3.1 rfl
   have S:=b2 rfl
   have F:=z19j G S
   have hlen:=G.e.len
   have hids:=G.e.ids
   obtain ⟨d,d1,-,P⟩:=zoo G F c1 c2 a1 a2 l1 l2
   have hdl:=P.len
   have hdin:∀ z∈d,z∈a0.IDs:=fun z hz=>((P.mem z).1 hz).1.1
   have hbs:∀ x∈d.map (bts a0),x.length≤400:=fun x hx=>by
    obtain ⟨y,hy,rfl⟩:=List.mem_map.1 hx
    exact zp1 G w0 (hdin y hy)
   obtain ⟨Q,q1,C⟩:=z199 _ hbs
   have hQl:Q.length≤60:=by
    have:=(z16u (d.map (bts a0)) hbs (by simpa using hdl)).1
    rw [q1] at this
    simpa using this
   have hplan:z9x a0 a1 a2=some (d,0):=by
    unfold z9x
    rw [zoj c1,znr l1 l2]
    simp only [bS]
    rw [if_neg (by simp),d1]
    rfl
   have hserve:zhd a0 a1 a2=some (Q.map fr,0):=by
    unfold zhd
    rw [zoj c1,znr l1 l2]
    simp only [bS]
    rw [if_neg (by simp),d1]
    simp only [bS]
    rw [zp3 G w0 c1 d (by omega) hdin,← List.length_map (bts a0),q1]
    rfl
   rw [hk,if_neg (by simp)]
   simp only [bS]
   rw [if_neg (by simp),hplan]
   simp only [bS]
   rw [hserve]
   simp only [bS]
   rw [if_neg (by simp),if_neg (by simp),z12p C (by simpa using hdl) hQl 0]
   simp only [zuj]
   rw [if_neg (by simp)]
   have L2:iter (z3w a0 (d,0) (d.map (bts a0))) 0=some (.inr ()):=by
    refine z1s (F:=z3w a0 (d,0) (d.map (bts a0))) d.length (fun i=>(i:Int)) (fun i hi=>?_) ?_
    ·
     unfold z3w
     simp only []
     rw [if_pos (by simpa using hi),z09 (by simpa using hi),z09 hi,z0g (by omega),List.getElem_map]
     simp only [bS]
     rw [z12h G w0 (hdin _ (List.getElem_mem hi))]
     simp only [bS]
     rw [if_neg (by simp)]
    ·
     unfold z3w
     rw [if_neg (by simp)]
   rw [L2]
   rfl
  ·
   rw [if_pos (by simpa using hk)]
   rfl
end
end Go.Proofs.YtefkialcgmohkaaGreatDoor
