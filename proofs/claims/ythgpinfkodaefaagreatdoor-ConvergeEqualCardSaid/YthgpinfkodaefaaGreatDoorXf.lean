import Derived.Test.YthgpinfkodaefaaGreatDoorXe
set_option linter.unusedSimpArgs false
set_option linter.unusedVariables false
namespace Go.Proofs.YthgpinfkodaefaaGreatDoor
section
open Go
variable {g:z00}
theorem z19y (G:zcd g) (h:z4g g=some 0) {x:ID} (hx:x∈g.IDs):∃ s,z8y g x=some (s,0)∧z4q g x=some s∧s.length≤60:=by
 obtain ⟨s,m,p1,p2,p3,p4,p5⟩:=zve G hx
 refine ⟨s,?_,p1,p4⟩
 unfold z8y
 rw [z16r G h x,if_pos hx]
 simp only [bS]
 have hi:=zjv G hx
 rw [if_neg (by simp),z09 hi]
 simp only [bS]
 rw [← z8z hi,p2]
 simp only [bS]
 rw [p3]
 rfl
def zop (g:z00) (key:Str) (i:Nat) (x:ID):Prop:=∃ j,∃ h:j<g.Ops.length,j<i∧g.Ops[j].Act.Key=key∧g.Ops[j].Act.Kind=3∧∃ s,z4q g (zg4 g j)=some s∧x∈s
theorem ztz {key:Str} {x:ID}:¬ zop g key 0 x:=fun ⟨_,_,h,_⟩=>absurd h (by omega)
theorem zic {key:Str} {i:Nat} (hi:i<g.Ops.length) {x:ID}:zop g key (i+1) x↔zop g key i x∨g.Ops[i].Act.Key=key∧g.Ops[i].Act.Kind=3∧∃ s,z4q g (zg4 g i)=some s∧x∈s:=by
 constructor
 ·
  rintro ⟨j,h,h1,h2⟩
  by_cases e:j=i
  ·
   subst e; exact .inr h2
  ·
   exact .inl ⟨j,h, by omega,h2⟩
 ·
  rintro (⟨j,h,h1,h2⟩ | h)
  ·
   exact ⟨j,h, by omega,h2⟩
  ·
   exact ⟨i,hi, by omega,h⟩
theorem z18g (r:List ID × Int) (hr:r.1.length≤1000) (m:List (ID × Bool)):∃ b,iter (z7u r) (m,0)=some b∧∃ m',b=.inr m'∧∀ x,(z4a m' x).getD false=true↔(z4a m x).getD false=true∨x∈r.1:=by
 refine z67 (F:=z7u r) r.1.length (fun i s=>s.2=(i:Int)∧∀ x,(z4a s.1 x).getD false=true↔(z4a m x).getD false=true∨x∈r.1.take i) _ (fun i s hi=>?_) (fun s=>?_) (m,0) 0 (Nat.zero_le _) ⟨rfl, fun x=>by simp⟩
 ·
  obtain ⟨m1,i'⟩:=s
  rintro ⟨e1,e2⟩
  simp only at e1 e2
  subst e1
  unfold z7u
  rw [if_pos (by simpa using hi)]
  simp only [z09 hi,bS,z0g (n:=i) (by omega)]
  refine ⟨_,rfl,rfl, fun x=>?_⟩
  rw [zd9,zkr hi,List.mem_append,List.mem_singleton]
  by_cases e:x=r.1[i]
  ·
   rw [if_pos e]; simp [e]
  ·
   rw [if_neg e,e2]
   simp [e]
 ·
  rintro ⟨e1,e2⟩
  unfold z7u
  rw [if_neg (by rw [e1]; simp)]
  exact ⟨_,rfl,_,rfl, fun x=>by rw [e2,List.take_length]⟩
theorem z19q (G:zcd g) (h:z4g g=some 0) (key:Str):∃ b,iter (z7y g key) ([],0)=some b∧∃ m,b=.inr m∧∀ x,(z4a m x).getD false=true↔zop g key g.Ops.length x:=by
 have hl:=G.e.len
 refine z67 (F:=z7y g key) g.Ops.length (fun i s=>s.2=(i:Int)∧∀ x,(z4a s.1 x).getD false=true↔zop g key i x) _ (fun i s hi=>?_) (fun s=>?_) ([],0) 0 (Nat.zero_le _) ⟨rfl, fun x=>⟨fun h=>by simp [z4a] at h, fun h=>absurd h ztz⟩⟩
 ·
  obtain ⟨m,i'⟩:=s
  rintro ⟨e1,e2⟩
  simp only at e1 e2
  subst e1
  have hid:i<g.IDs.length:=by rw [G.e.ids]; exact hi
  unfold z7y
  rw [if_pos (by simpa using hi)]
  simp only [z09 hi,bS,z0g (n:=i) (by omega)]
  by_cases c:g.Ops[i].Act.Key=key
  ·
   rw [if_neg (by simp [c])]
   by_cases c2:g.Ops[i].Act.Kind=3
   ·
    rw [if_neg (by simp [c2]),z09 hid]
    simp only [bS]
    obtain ⟨s,s1,s2,s3⟩:=z19y G h (List.getElem_mem hid)
    rw [s1]
    simp only [bS]
    rw [if_neg (by simp)]
    obtain ⟨_,q1,m',rfl,q2⟩:=z18g (s,0) (by simp only; omega) m
    rw [q1]
    simp only [zon]
    refine ⟨_,rfl,rfl, fun x=>?_⟩
    rw [zic hi]
    refine (q2 x).trans ?_
    rw [e2,z3s hid]
    exact ⟨fun h=>h.imp id fun h=>⟨c,c2,s,s2,h⟩, fun h=>h.imp id fun ⟨_,_,s',h1,h2⟩=>by rw [s2] at h1; cases h1; exact h2⟩
   ·
    rw [if_pos (by simpa using c2)]
    simp only [zon]
    refine ⟨_,rfl,rfl, fun x=>?_⟩
    rw [zic hi]
    exact (e2 x).trans ⟨.inl, fun h=>h.elim id fun h=>absurd h.2.1 c2⟩
  ·
   rw [if_pos (by simpa using c)]
   simp only [zon]
   refine ⟨_,rfl,rfl, fun x=>?_⟩
   rw [zic hi]
   exact (e2 x).trans ⟨.inl, fun h=>h.elim id fun h=>absurd h.1 c⟩
 ·
  rintro ⟨e1,e2⟩
  unfold z7y
  rw [if_neg (by rw [e1]; simp)]
  exact ⟨_,rfl,_,rfl,e2⟩
def kO (g:z00) (i:Nat):z05:=match g.Ops[i]? with | some o=>o | none=>⟨0,[],0,⟨0,[],⟨0,0,0,[]⟩⟩,⟨0,0⟩⟩
theorem zvz {i:Nat} (h:i<g.Ops.length):g.Ops[i]=kO g i:=by unfold kO; rw [List.getElem?_eq_getElem h]
def zlc (g:z00) (key:Str):Nat→Option Nat
 | 0=>none
 | i+1=>if (kO g i).Act.Kind=4∧(kO g i).Act.Key=key∧(∀ b,zlc g key i=some b→(kO g b).Stamp≤(kO g i).Stamp) then some i else zlc g key i
def bI:Option Nat→Int
 | none=>-1
 | some b=>(b:Int)
theorem z1an (b:Nat):¬ bI (some b)<0:=by unfold bI; simp only; omega
theorem zhy (b:Nat):bI (some b)=(b:Int):=rfl
def inN (g:z00) (key:Str) (N:ID→Bool):Nat→Bool
 | 0=>false
 | i+1=>inN g key N i || (decide ((kO g i).Act.Kind=2)&&decide ((kO g i).Act.Key=key)&&!N (zg4 g i))
def vN (g:z00):Option Nat→z03
 | none=>⟨0,0,0,[]⟩
 | some b=>(kO g b).Act.Value
theorem z14g (key:Str):∀ (i b:Nat),zlc g key i=some b→b<i
 | 0,b,h=>by simp [zlc] at h
 | i+1,b,h=>by
  unfold zlc at h
  split at h
  ·
   cases h; omega
  ·
   have:=z14g key i b h; omega
theorem zjw {a b:UInt64}:a≤b↔a<b∨b=a:=by
 rw [UInt64.le_iff_toNat_le,UInt64.lt_iff_toNat_lt,← UInt64.toNat_inj]
 omega
theorem z1ac (G:zcd g) (key:Str) (m:List (ID × Bool)):iter (z9s g key m) (⟨false,⟨0,0,0,[]⟩⟩,-1,0)=some ⟨inN g key (fun x=>(z4a m x).getD false) g.Ops.length,vN g (zlc g key g.Ops.length)⟩:=by
 have hl:=G.e.len
 refine z35 g.Ops.length (fun i=>((⟨inN g key (fun x=>(z4a m x).getD false) i,vN g (zlc g key i)⟩:z0d),bI (zlc g key i),(i:Int))) (fun i hi=>?_) ?_
 ·
  have hid:i<g.IDs.length:=by rw [G.e.ids]; exact hi
  unfold z9s
  rw [if_pos (by simpa using hi)]
  simp only [z09 hi,bS,z0g (n:=i) (by omega)]
  simp only [zvz hi]
  by_cases c:(kO g i).Act.Key=key
  ·
   rw [if_neg (by simp [c])]
   by_cases c2:(kO g i).Act.Kind=2
   ·
    have c4:¬ (kO g i).Act.Kind=4:=by rw [c2]; decide
    have hb:zlc g key (i+1)=zlc g key i:=by show (if _ then _ else _)=_; rw [if_neg fun h=>c4 h.1]
    rw [if_pos (by simp [c2]),z09 hid,← z3s hid]
    simp only [bS]
    by_cases c5:(z4a m (zg4 g i)).getD false=true
    ·
     have hin:inN g key (fun x=>(z4a m x).getD false) (i+1)=inN g key (fun x=>(z4a m x).getD false) i:=by
      show (_ || _)=_
      simp [c5]
     rw [if_neg (by simp [c5]),if_neg (by simp [c4])]
     simp only [bS,Bool.false_eq_true,if_false,hin,hb,zhy]
    ·
     have hin:inN g key (fun x=>(z4a m x).getD false) (i+1)=true:=by
      show (_ || _)=_
      simp only [Bool.not_eq_true] at c5
      simp [c5,c,c2]
     simp only [Bool.not_eq_true] at c5
     rw [if_pos (by simp [c5])]
     simp only [hin,hb]
   ·
    have hin:inN g key (fun x=>(z4a m x).getD false) (i+1)=inN g key (fun x=>(z4a m x).getD false) i:=by
     show (_ || _)=_
     simp [c2]
    rw [if_neg (by simpa using c2)]
    simp only [bS,Bool.false_eq_true,if_false]
    by_cases c4:(kO g i).Act.Kind=4
    ·
     rw [if_pos (by simp [c4])]
     cases hbi:zlc g key i with
     | none =>
      have hb:zlc g key (i+1)=some i:=by show (if _ then _ else _)=_; rw [if_pos ⟨c4,c, fun b h=>by rw [hbi] at h; cases h⟩]
      rw [if_pos (by simp [bI])]
      simp only [bS,if_true,hin,hb,zhy,vN]
     | some b =>
      have hbl:=z14g key i b hbi
      have hbo:b<g.Ops.length:=by omega
      have hbd:b<g.IDs.length:=by omega
      rw [if_neg fun h=>absurd (of_decide_eq_true h) (z1an b)]
      simp only [zhy,z09 hbo,bS,zvz hbo]
      by_cases s1:(kO g b).Stamp<(kO g i).Stamp
      ·
       have hb:zlc g key (i+1)=some i:=by show (if _ then _ else _)=_; rw [if_pos ⟨c4,c, fun b' h=>by rw [hbi] at h; cases h; exact zjw.2 (.inl s1)⟩]
       rw [if_pos (by simpa using s1)]
       simp only [bS,if_true,hin,hb,vN,zhy]
      ·
       rw [if_neg (by simpa using s1)]
       by_cases s2:(kO g i).Stamp=(kO g b).Stamp
       ·
        have hb:zlc g key (i+1)=some i:=by show (if _ then _ else _)=_; rw [if_pos ⟨c4,c, fun b' h=>by rw [hbi] at h; cases h; exact zjw.2 (.inr s2)⟩]
        have hk:=zap G.e.ri hbd hid hbl
        rw [if_pos (by simpa using s2),z09 hid,z09 hbd]
        simp only [bS]
        rw [zr6,if_neg (by omega),if_pos hk]
        simp only [bS]
        rw [if_pos (by decide)]
        simp only [hin,hb,vN,zhy]
       ·
        have hb:zlc g key (i+1)=some b:=by
         show (if _ then _ else _)=_
         rw [if_neg fun h=>(zjw.1 (h.2.2 b hbi)).elim s1 s2,hbi]
        rw [if_neg (by simpa using s2)]
        simp only [bS,Bool.false_eq_true,if_false,hin,hb,zhy]
    ·
     have hb:zlc g key (i+1)=zlc g key i:=by show (if _ then _ else _)=_; rw [if_neg fun h=>c4 h.1]
     rw [if_neg (by simpa using c4)]
     simp only [bS,Bool.false_eq_true,if_false,hin,hb,zhy]
  ·
   have hb:zlc g key (i+1)=zlc g key i:=by show (if _ then _ else _)=_; rw [if_neg fun h=>c h.2.1]
   have hin:inN g key (fun x=>(z4a m x).getD false) (i+1)=inN g key (fun x=>(z4a m x).getD false) i:=by
    show (_ || _)=_
    simp [c]
   rw [if_pos (by simpa using c)]
   simp only [hin,hb]
 ·
  unfold z9s
  rw [if_neg (by simp)]
end
section
open Go
variable {g:z00}
theorem z134 (a b:z00) (fa fb:Str→z0d) (ha:∀ k,z37 a k=some (fa k,0)) (hb:∀ k,z37 b k=some (fb k,0)) (l:List Str) (hl:l.length≤1000) :
  iter (z8v a b l) ([],0)=some (.inr (l.filter fun k=>!decide (fa k=fb k))):=by
 refine z35 l.length (fun i=>((l.take i).filter fun k=>!decide (fa k=fb k),(i:Int))) (fun i hi=>?_) ?_
 ·
  have hf:=List.length_filter_le (fun k=>!decide (fa k=fb k)) (l.take i)
  rw [List.length_take] at hf
  unfold z8v
  rw [if_pos (by simpa using hi)]
  simp only [z09 hi,bS,z0g (n:=i) (by omega),ha,hb]
  rw [if_neg (by simp),if_neg (by simp),zkr hi,List.filter_append,List.filter_cons]
  by_cases c:fa l[i]=fb l[i]
  ·
   rw [if_neg (by simp [c]),if_neg (by simp [c])]
   simp
  ·
   rw [if_pos (by simp [c]),if_pos (by simp [c]),z19 (by simp only [List.length_singleton]; omega)]
   simp
 ·
  unfold z8v
  rw [if_neg (by simp),List.take_length]
end
section
open Go
variable {g:z00}
theorem zo2 {α:Type} {l:List α} {n:Nat} (h:n<l.length):l.take (n+1)=l.take n++[l[n]]:=by
  rw [List.take_add_one,List.getElem?_eq_getElem h]; rfl
theorem z14f {l:List V3} (hso:l.Pairwise fun x y=>kd x≤kd y) {n i:Nat} (hi:i<l.length) (hn:n≤i+1):∀ x∈l.take n,kd x≤kd l[i]:=by
  intro x hx
  obtain ⟨j,hj,rfl⟩:=List.getElem_of_mem hx
  rw [List.length_take] at hj
  rw [List.getElem_take]
  by_cases hji:j=i
  · subst hji; exact Nat.le_refl _
  · exact List.pairwise_iff_getElem.1 hso j i (by omega) hi (by omega)
theorem zn1 {l:List V3} {x:V3} (h:l.Pairwise fun a b=>kd a<kd b) (hx:∀ y∈l,kd y<kd x):(l++[x]).Pairwise fun a b=>kd a<kd b:=by
  rw [List.pairwise_append]
  exact ⟨h, by simp, fun a ha b hb=>by rw [List.mem_singleton] at hb; subst hb; exact hx a ha⟩
theorem zs4 (l : List V3) (hl : l.length ≤ 1000) (hso : l.Pairwise fun x y => kd x ≤ kd y) (s : Nat) (h1 : 1 ≤ s) (hs : s < l.length) (hst : (l.take s).Pairwise fun x y => kd x < kd y) (heq : l[s] = l[s - 1]) :
    ∃ b:List V3 × Int,iter (z15 l s) (l,(s:Int),1)=some b∧b.1.length=l.length∧∃ j:Nat,b.2=(j:Int)∧j<l.length∧(b.1.take j).Pairwise (fun x y=>kd x<kd y)∧∀ x,x∈b.1.take j↔x∈l:=by
  refine z67 (F:=z15 l s) (l.length - s)
    (fun i st=>st.1.length=l.length∧st.2.2=(i:Int)∧1≤i∧∃ j:Nat,st.2.1=(j:Int)∧j+1≤s+i∧(∀ q,s+i - 1≤q→st.1[q]? = l[q]?)∧(st.1.take j).Pairwise (fun x y=>kd x<kd y)∧∀ x,x∈st.1.take j↔x∈l.take (s+i)) _ ?_ ?_ _ 1 (by omega)
    ⟨rfl,rfl, by omega,s,rfl, by omega, fun _ _=>rfl,hst, fun x=>?_⟩
  · rintro i ⟨c,j',i'⟩ hi ⟨e1,e2,e0,j,e3,e4,e5,e6,e7⟩
    simp only at e1 e2 e3 e5 e6 e7
    subst e2 e3
    have g1:c[s+i]'(by omega)=l[s+i]'(by omega):=by
      have:=e5 (s+i) (by omega)
      rw [List.getElem?_eq_getElem (by omega),List.getElem?_eq_getElem (by omega)] at this
      exact Option.some.inj this
    have g2:c[s+(i - 1)]'(by omega)=l[s+(i - 1)]'(by omega):=by
      have:=e5 (s+(i - 1)) (by omega)
      rw [List.getElem?_eq_getElem (by omega),List.getElem?_eq_getElem (by omega)] at this
      exact Option.some.inj this
    have hs1:l.take (s+(i+1))=l.take (s+i)++[l[s+i]'(by omega)]:=zo2 (n:=s+i) (by omega)
    unfold z15
    rw [if_pos (by simp; omega)]
    simp only [Int.toNat_natCast]
    rw [zkt (by omega),z11 (x:=(i:Int) - 1) (by omega) (by omega), show ((i:Int) - 1)=((i - 1:Nat):Int) by omega,zkt (by omega)]
    simp only [bS]
    rw [z09 (by omega),z09 (by omega)]
    simp only [bS]
    by_cases hc:c[s+i]'(by omega)=c[s+(i - 1)]'(by omega)
    · rw [decide_eq_true hc,if_neg (by simp)]
      refine ⟨_,rfl,e1,z0g (by omega), by omega,j,rfl, by omega, fun q hq=>e5 q (by omega),e6, fun x=>?_⟩
      rw [e7,hs1,List.mem_append]
      refine ⟨.inl, fun h=>h.elim id fun h=>?_⟩
      have hx:x=l[s+i]'(by omega):=List.mem_singleton.1 h
      rw [hx,← g1,hc,g2,List.mem_take_iff_getElem]
      exact ⟨s+(i - 1), by omega,rfl⟩
    · rw [decide_eq_false hc,if_pos (by simp),z09 (by omega)]
      simp only [bS]
      have hset:(c.set j (l[s+i]'(by omega))).take (j+1)=c.take j++[l[s+i]'(by omega)]:=by
        rw [zo2 (by rw [List.length_set]; omega),List.take_set_of_le (Nat.le_refl _),List.getElem_set_self]
      refine ⟨_,rfl, by simpa using e1,z0g (by omega), by omega,j+1,z0g (by omega), by omega, fun q hq=>?_,?_, fun x=>?_⟩
      · show (c.set j _)[q]? = _
        rw [List.getElem?_set_ne (by omega)]; exact e5 q (by omega)
      · show ((c.set j (c[s+i]'(by omega))).take (j+1)).Pairwise _
        rw [g1,hset]
        refine zn1 e6 fun y hy=>?_
        have h1:=z14f hso (n:=s+i) (i:=s+(i - 1)) (by omega) (by omega) y ((e7 y).1 hy)
        have h2:kd (l[s+(i - 1)]'(by omega))≤kd (l[s+i]'(by omega)):=List.pairwise_iff_getElem.1 hso _ _ (by omega) (by omega) (by omega)
        have h3:kd (l[s+(i - 1)]'(by omega))≠kd (l[s+i]'(by omega)):=fun e=>hc (by rw [g1,g2]; exact (zhu e).symm)
        omega
      · show x∈(c.set j (c[s+i]'(by omega))).take (j+1)↔_
        rw [g1,hset,hs1,List.mem_append,List.mem_append,e7]
  · rintro ⟨c,j',i'⟩ ⟨e1,e2,e0,j,e3,e4,e5,e6,e7⟩
    simp only at e1 e2 e3 e5 e6 e7
    subst e2 e3
    unfold z15
    rw [if_neg (by simp <;> omega)]
    refine ⟨_,rfl,e1,j,rfl, by omega,e6, fun x=>?_⟩
    rw [e7,List.take_of_length_le (by omega)]
  · show x∈l.take s↔x∈l.take (s+1)
    rw [zo2 hs,List.mem_append]
    refine ⟨.inl, fun h=>h.elim id fun h=>?_⟩
    have hx:x=l[s]:=List.mem_singleton.1 h
    rw [hx,heq,List.mem_take_iff_getElem]
    exact ⟨s - 1, by omega,rfl⟩
theorem zns (l:List V3) (hl:l.length≤1000) (hso:l.Pairwise fun x y=>kd x≤kd y):∃ c,z1g l=some c∧z7n c=true∧∀ x,x∈c↔x∈l:=by
  have key:∀ k n,l.length - n=k→1≤n→n≤l.length→(l.take n).Pairwise (fun x y=>kd x<kd y)→∃ r:Sum (List V3) Unit,iter (z0i l) (n:Int)=some r∧((r=.inr ()∧l.Pairwise fun x y=>kd x<kd y)∨(∃ c,r=.inl c∧(c.Pairwise fun x y=>kd x<kd y)∧∀ x,x∈c↔x∈l)):=by
    intro k
    induction k with
    | zero =>
      intro n hk h1 hn hst
      refine ⟨_,z16 ?_,.inl ⟨rfl,?_⟩⟩
      · unfold z0i
        rw [if_neg (by simp; omega)]
      · rw [List.take_of_length_le (by omega)] at hst; exact hst
    | succ k ih =>
      intro n hk h1 hn hst
      have hlt:n<l.length:=by omega
      by_cases hc:l[n]=l[n - 1]
      · obtain ⟨⟨c,j'⟩,e1,e2,j,e3,e4,e5,e6⟩:=zs4 l hl hso n h1 hlt hst hc
        simp only at e2 e3 e5 e6
        subst e3
        have hF:z0i l (n:Int)=some (.inl (.inl (c.take j))):=by
          unfold z0i
          rw [if_pos (by simp; omega),z09 hlt,z11 (by omega) (by omega), show ((n:Int) - 1)=((n - 1:Nat):Int) by omega,z09 (by omega)]
          simp only [bS]
          rw [decide_eq_true hc,if_pos rfl,z2k (by omega)]
          simp only [bS]
          rw [e1]
          simp only [bS]
          rw [z2k (by omega),z2k (by simp; omega)]
          simp only [bS,Int.toNat_natCast]
          rw [show (0:Int)=((0:Nat):Int) from rfl,z9x (by omega) (by rw [zpm _ _ _ _ (by omega)]; omega)]
          simp only [bS,List.drop_zero,Nat.sub_zero]
          have:(clr c j (c.length - j) (Vector.replicate 32 0)).take j=c.take j:=by
            unfold clr
            first
              | rw [List.append_assoc,List.take_append_of_le_length (by rw [List.length_take]; omega),List.take_take,Nat.min_self]
              | rw [List.take_append_of_le_length (by rw [List.length_take]; omega),List.take_take,Nat.min_self]
          rw [this]
        exact ⟨_,z16 hF,.inr ⟨_,rfl,e5,e6⟩⟩
      · have hF : z0i l (n : Int) = some (.inr ((n + 1 : Nat) : Int)) := by
          unfold z0i
          rw [if_pos (by simp; omega),z09 hlt,z11 (x:=(n:Int) - 1) (by omega) (by omega), show ((n:Int) - 1)=((n - 1:Nat):Int) by omega,z09 (by omega)]
          simp only [bS]
          rw [decide_eq_false hc,if_neg (by simp),z0g (by omega)]
        obtain ⟨r,h2,h3⟩:=ih (n+1) (by omega) (by omega) (by omega) (by
          rw [zo2 hlt]
          refine zn1 hst fun y hy=>?_
          have h1':=z14f hso (n:=n) (i:=n - 1) (by omega) (by omega) y hy
          have h2':kd (l[n - 1]'(by omega))≤kd l[n]:=List.pairwise_iff_getElem.1 hso _ _ (by omega) hlt (by omega)
          have h3':kd (l[n - 1]'(by omega))≠kd l[n]:=fun e=>hc (zhu e).symm
          omega)
        exact ⟨r, by rw [z1h hF]; exact h2,h3⟩
  unfold z1g
  by_cases h2:l.length<2
  · rw [if_pos (by simp; omega)]
    refine ⟨l,rfl,?_, fun x=>Iff.rfl⟩
    match l,h2 with
    | [],_=>rfl
    | [_],_=>rfl
  · rw [if_neg (by simp; omega)]
    obtain ⟨r,e1,e2⟩:=key (l.length - 1) 1 rfl (by omega) (by omega) (by rw [zo2 (by omega)]; simp)
    rw [show (1:Int)=((1:Nat):Int) from rfl,e1]
    rcases e2 with ⟨rfl,h3⟩ | ⟨c,rfl,h3,h4⟩
    · exact ⟨l,rfl,(za0 l).2 h3, fun x=>Iff.rfl⟩
    · exact ⟨c,rfl,(za0 c).2 h3,h4⟩
def zxg (cl:ID→Option Bool) (a0:List ID) (s2:Int):Option (Sum (Sum Int Unit) Int) :=
  if decide (s2<(a0.length:Int)) then
    idx a0 s2 >>= fun x4 =>
    cl x4 >>= fun r6 =>
    if r6 then
      some (.inl (.inl s2))
    else
      some (.inr (w64 (s2+1)))
  else
    some (.inl (.inr ()))
def zy5 (cl:ID→Option Bool) (s5:(List ID) × Int × Int):Option (Sum ((List ID) × Int) ((List ID) × Int × Int)) :=
  if decide (s5.2.2<(s5.1.length:Int)) then
    idx s5.1 s5.2.2 >>= fun x7 =>
    cl x7 >>= fun r10 =>
    if !r10 then
      idx s5.1 s5.2.1 >>= fun x13 =>
      some (w64 (s5.2.1+1)) >>= fun y15 =>
      some (w64 (s5.2.2+1)) >>= fun y16 =>
      some (.inr (s5.1.set (s5.2.1:Int).toNat x7,y15,y16))
    else
      some (w64 (s5.2.2+1)) >>= fun y17 =>
      some (.inr (s5.1,s5.2.1,y17))
  else
    some (.inl (s5.1,s5.2.1))
def z18r (cl:ID→Option Bool) (c0:List ID):Option (List ID) :=
  (z4y (iter (zxg cl c0) 0) fun s1=>some (-1)) >>= fun r1 =>
  if r1==(-1) then
    some c0
  else
    (iter (zy5 cl) (c0,r1,w64 (r1+1))) >>= fun s4 =>
    chk (0≤s4.2∧s4.2≤(s4.1.length:Int)∧(s4.1.length:Int)≤(s4.1.length:Int)) >>= fun u18 =>
    chk ((s4.2:Int).toNat+(((s4.1.length:Int):Int).toNat - (s4.2:Int).toNat)≤s4.1.length) >>= fun u20 =>
    cut (clr s4.1 ((s4.2:Int).toNat) (((s4.1.length:Int):Int).toNat - (s4.2:Int).toNat) (Vector.replicate 32 0)) 0 s4.2 >>= fun x22 =>
    some x22
theorem z121 (cl:ID→Option Bool) (p:ID→Bool) (hp:∀ x,cl x=some (p x)) (l:List ID) (hl:l.length≤1000):∃ b:Sum Int Unit,iter (zxg cl l) 0=some b∧((b=.inr ()∧∀ x∈l,p x=false)∨∃ i:Nat,b=.inl (i:Int)∧(∃ h:i<l.length,p l[i]=true)∧∀ k (h:k<l.length),k<i→p l[k]=false):=by
  refine zbj (F:=zxg cl l) (fun s=>∃ i:Nat,s=(i:Int)∧i≤l.length∧∀ k (h:k<l.length),k<i→p l[k]=false) (fun s=>l.length - s.toNat) _ ?_ 0 ⟨0,rfl,Nat.zero_le _, fun k _ h=>by omega⟩
  rintro s ⟨i,rfl,h1,h2⟩
  by_cases hi:i<l.length
  · have hF : zxg cl l (i : Int) = if p l[i] then some (.inl (.inl (i : Int))) else some (.inr ((i + 1 : Nat) : Int)) := by
      unfold zxg
      rw [if_pos (by simpa using hi),z09 hi,z0g (by omega)]
      simp only [bS]
      rw [hp]
      simp only [bS]
    cases hc:p l[i] with
    | true=>rw [hc] at hF; exact .inl ⟨_,hF,.inr ⟨i,rfl,⟨hi,hc⟩,h2⟩⟩
    | false =>
      rw [hc] at hF
      refine .inr ⟨_,hF,⟨i+1,rfl,hi, fun k hk hki=>?_⟩, by simp; omega⟩
      by_cases hk':k=i
      · subst hk'; exact hc
      · exact h2 k hk (by omega)
  · refine .inl ⟨.inr (),?_,.inl ⟨rfl, fun x hx=>?_⟩⟩
    · unfold zxg
      rw [if_neg (by simpa using hi)]
    · obtain ⟨k,hk,rfl⟩:=List.getElem_of_mem hx
      exact h2 k hk (by omega)
theorem z15q (cl:ID→Option Bool) (p:ID→Bool) (hp:∀ x,cl x=some (p x)) (l:List ID) (hl:l.length≤1000):z18r cl l=some (l.filter fun x=>!p x):=by
  obtain ⟨b,b1,b2⟩:=z121 cl p hp l hl
  unfold z18r
  rw [b1]
  rcases b2 with ⟨rfl,b3⟩ | ⟨i,rfl,⟨b3,b5⟩,b4⟩
  · simp only [zon,bS]
    rw [if_pos (by rfl),List.filter_eq_self.2 (fun x hx=>by rw [b3 x hx]; first | done | rfl)]
  · simp only [or_l,bS]
    rw [if_neg (by simp <;> omega),z0g (by omega)]
    have h0:(l.take (i+1)).filter (fun x=>!p x)=l.take i:=by
      rw [zo2 b3,List.filter_append,List.filter_cons_of_neg (by rw [b5]; simp),List.filter_nil,List.append_nil]
      refine List.filter_eq_self.2 fun x hx=>?_
      obtain ⟨k,hk,rfl⟩:=List.getElem_of_mem hx
      rw [List.length_take] at hk
      rw [List.getElem_take,b4 k (by omega) (by omega)]; rfl
    have main:=z67 (F:=zy5 cl) l.length
      (fun j st=>st.1.length=l.length∧st.2.2=(j:Int)∧∃ i:Nat,st.2.1=(i:Int)∧i<j∧(∀ q,j≤q→st.1[q]? = l[q]?)∧st.1.take i=(l.take j).filter fun x=>!p x)
      (fun b=>b.1.length=l.length∧∃ i:Nat,b.2=(i:Int)∧i≤l.length∧b.1.take i=l.filter fun x=>!p x)
      (fun j st hj hst=>by
        obtain ⟨c,i',j'⟩:=st
        obtain ⟨e1,e2,i,e3,e4,e5,e6⟩:=hst
        simp only at e1 e2 e3 e5 e6
        subst e2 e3
        have g1:c[j]'(by omega)=l[j]:=by
          have:=e5 j (Nat.le_refl _)
          rw [List.getElem?_eq_getElem (by omega),List.getElem?_eq_getElem (by omega)] at this
          exact Option.some.inj this
        have hF:zy5 cl (c,(i:Int),(j:Int))=if !p l[j] then some (.inr (c.set i l[j],((i+1:Nat):Int),((j+1:Nat):Int))) else some (.inr (c,(i:Int),((j+1:Nat):Int))):=by
          unfold zy5
          rw [if_pos (by simp; omega)]
          simp only []
          rw [z09 (by omega),g1]
          simp only [bS]
          rw [hp]
          simp only [bS]
          rw [z09 (by omega),z0g (by omega),z0g (by omega)]
          simp only [bS,Int.toNat_natCast]
        cases hc:p l[j] with
        | true =>
          rw [hc,if_neg (by simp)] at hF
          refine ⟨_,hF,e1,rfl,i,rfl, by omega, fun q hq=>e5 q (by omega),?_⟩
          rw [zo2 hj,List.filter_append,List.filter_cons_of_neg (by rw [hc]; simp),List.filter_nil,List.append_nil]
          exact e6
        | false =>
          rw [hc,if_pos (by simp)] at hF
          refine ⟨_,hF, by simpa using e1,rfl,i+1,rfl, by omega, fun q hq=>?_,?_⟩
          · show (c.set i _)[q]? = _
            rw [List.getElem?_set_ne (by omega)]; exact e5 q (by omega)
          · show (c.set i l[j]).take (i+1)=_
            rw [zo2 (by rw [List.length_set]; omega),List.take_set_of_le (Nat.le_refl _),List.getElem_set_self,e6,zo2 hj,List.filter_append,List.filter_cons_of_pos (by rw [hc]; simp),List.filter_nil])
      (fun st hst=>by
        obtain ⟨c,i',j'⟩:=st
        obtain ⟨e1,e2,i,e3,e4,e5,e6⟩:=hst
        simp only at e1 e2 e3 e5 e6
        subst e2 e3
        refine ⟨(c,(i:Int)),?_,e1,i,rfl, by omega,?_⟩
        · unfold zy5
          rw [if_neg (by simp; omega)]
        · rw [List.take_length] at e6; exact e6)
      (l,(i:Int),((i+1:Nat):Int)) (i+1) b3 ⟨rfl,rfl,i,rfl, by omega, fun _ _=>rfl,h0.symm⟩
    obtain ⟨⟨c,k'⟩,m1,m2,k,m3,m4,m5⟩:=main
    simp only at m2 m3 m5
    subst m3
    rw [m1]
    simp only [bS]
    rw [z2k (by omega),z2k (by simp; omega)]
    simp only [bS,Int.toNat_natCast]
    rw [show (0:Int)=((0:Nat):Int) from rfl,z9x (by omega) (by rw [zpm _ _ _ _ (by omega)]; omega)]
    simp only [bS,List.drop_zero,Nat.sub_zero]
    have:(clr c k (c.length - k) (Vector.replicate 32 0)).take k=c.take k:=by
      unfold clr
      first
              | rw [List.append_assoc,List.take_append_of_le_length (by rw [List.length_take]; omega),List.take_take,Nat.min_self]
              | rw [List.take_append_of_le_length (by rw [List.length_take]; omega),List.take_take,Nat.min_self]
    rw [this,m5]
theorem z17i (m:List (ID × Int)) (p:ID→Bool) (hp:∀ x,(z4a m x).isSome=p x) (l:List ID) (hl:l.length≤1000):z1e l m=some (l.filter fun x=>!p x):=by
  have:=z15q (fun x=>z6t x m) p (fun x=>by unfold z6t; simp only [bS]; rw [hp]) l hl
  exact this
theorem zu4 (E:zbn g):∃ m,z5z g=some m∧∀ x,(z4a m x).isSome=decide (x∈g.IDs):=by
  have hlen:=E.len
  have hids:=E.ids
  have main:=z67 (F:=z4f g) g.IDs.length
    (fun i s=>s.2=(i:Int)∧∀ x,(z4a s.1 x).isSome=decide (x∈g.IDs.take i))
    (fun m=>∀ x,(z4a m x).isSome=decide (x∈g.IDs))
    (fun i s hi hs=>by
      obtain ⟨m,i'⟩:=s
      obtain ⟨h1,h2⟩:=hs
      simp only at h1 h2
      subst h1
      refine ⟨(zbk m g.IDs[i] (i:Int),((i+1:Nat):Int)),?_,rfl, fun x=>?_⟩
      · unfold z4f
        rw [if_pos (by simpa using hi)]
        simp only []
        rw [z09 hi,z0g (by omega)]
        simp only [bS]
      · simp only []
        rw [zd9,zo2 hi]
        by_cases he:x=g.IDs[i]
        · rw [if_pos he,decide_eq_true (List.mem_append.2 (.inr (List.mem_singleton.2 he)))]; rfl
        · rw [if_neg he,h2,decide_eq_decide,List.mem_append]
          exact ⟨.inl, fun h=>h.resolve_right fun h=>he (List.mem_singleton.1 h)⟩)
    (fun s hs=>by
      obtain ⟨m,i'⟩:=s
      obtain ⟨h1,h2⟩:=hs
      simp only at h1 h2
      subst h1
      rw [List.take_length] at h2
      refine ⟨m,?_,h2⟩
      unfold z4f
      rw [if_neg (by simp)])
    (([]:List (ID × Int)),0) 0 (Nat.zero_le _) ⟨rfl, fun x=>by simp [z4a]⟩
  obtain ⟨m,h1,h2⟩:=main
  refine ⟨m,?_,h2⟩
  unfold z5z
  rw [h1]
  simp only [bS]
end
section
open Go
variable {g:z00}
def zrh (g:z00) (m:Nat→Bool):Nat→List ID
 | 0=>[]
 | i+1=>if m i then zrh g m i++[zg4 g i] else zrh g m i
def zqk (g:z00) (m:Nat→Bool):Nat→List z05
 | 0=>[]
 | i+1=>if m i then zqk g m i++g.Ops[i]?.toList else zqk g m i
theorem z145 {g:z00} {m:Nat→Bool} {i:Nat} (h:m i=true):zrh g m (i+1)=zrh g m i++[zg4 g i]:=if_pos h
theorem z14t {g:z00} {m:Nat→Bool} {i:Nat} (h:m i=true):zqk g m (i+1)=zqk g m i++g.Ops[i]?.toList:=if_pos h
theorem z14a {g:z00} {m:Nat→Bool} {i:Nat} (h:m i=false):zrh g m (i+1)=zrh g m i:=if_neg (by rw [h]; simp)
theorem z14k {g:z00} {m:Nat→Bool} {i:Nat} (h:m i=false):zqk g m (i+1)=zqk g m i:=if_neg (by rw [h]; simp)
def subG (g:z00) (m:Nat→Bool):z00:=⟨zrh g m g.Ops.length,zqk g m g.Ops.length⟩
theorem zuu (g:z00) (m:Nat→Bool):∀ i,(zrh g m i).length≤i
 | 0=>Nat.le_refl _
 | i+1=>by
  have:=zuu g m i
  unfold zrh
  split
  ·
   rw [List.length_append,List.length_singleton]; omega
  ·
   omega
theorem zpb (g:z00) (m:Nat→Bool):∀ i,(zqk g m i).length≤i
 | 0=>Nat.le_refl _
 | i+1=>by
  have:=zpb g m i
  unfold zqk
  split
  ·
   rw [List.length_append]
   have:g.Ops[i]?.toList.length≤1:=by cases g.Ops[i]? <;> simp
   omega
  ·
   omega
theorem zlz (g:z00) (m:Nat→Bool):∀ i,∀ o∈zqk g m i,o∈g.Ops
 | 0,o,h=>by simp [zqk] at h
 | i+1,o,h=>by
  unfold zqk at h
  split at h
  ·
   rcases List.mem_append.1 h with h | h
   ·
    exact zlz g m i o h
   ·
    cases ho:g.Ops[i]? with
    | none=>rw [ho] at h; simp at h
    | some q =>
     rw [ho] at h
     have:o=q:=by simpa using h
     subst this
     exact List.mem_of_getElem? ho
  ·
   exact zlz g m i o h
theorem z11v (E:zbn g) (m:Nat→Bool):iter (z7v g (tab g.Ops.length m)) ([],[],0)=some (zrh g m g.Ops.length,zqk g m g.Ops.length):=by
 have hlen:=E.len
 have hids:=E.ids
 have main:=z35 (F:=z7v g (tab g.Ops.length m)) (b:=(zrh g m g.Ops.length,zqk g m g.Ops.length)) g.Ops.length (fun i=>(zrh g m i,zqk g m i,(i:Int))) (fun i hi=>?_) ?_
 ·
  exact main
 ·
  have hii:i<g.IDs.length:=by omega
  have l1:=zuu g m i
  have l2:=zpb g m i
  have h4:=(E.op i hi).1
  unfold z7v
  rw [if_pos (by rw [ziv]; simpa using hi)]
  simp only []
  rw [zbu hi,z0g (by omega)]
  simp only [bS]
  cases hm:m i with
  | false =>
   rw [if_neg (by simp),z14a hm,z14k hm]
  | true =>
   rw [if_pos rfl,z09 hi]
   simp only [bS]
   rw [zgh _ (by omega),z09 hii]
   simp only [bS]
   rw [z19 (by simp only [List.length_cons,List.length_nil]; omega)]
   simp only [bS]
   rw [z19 (by simp only [List.length_cons,List.length_nil]; omega)]
   simp only [bS]
   rw [z145 hm,z14t hm,z3s hii,List.getElem?_eq_getElem hi]
   rfl
 ·
  unfold z7v
  rw [if_neg (by rw [ziv]; simp)]
end
section
open Go
variable {g a b:z00} {n m:Nat} {l:List z00}
def op0:z05:=⟨0,[],0,(⟨0,[],(⟨0,0,0,[]⟩:z03)⟩:z08),(⟨0,0⟩:z0a)⟩
def znq (l:List z00) (x:ID):Nat:=(l.filter fun g=>decide (x∈g.IDs)).length
theorem z10q (l:List z00) (g:z00) (x:ID):znq (l++[g]) x=znq l x+if x∈g.IDs then 1 else 0:=by
 unfold znq
 rw [List.filter_append,List.length_append,List.filter_cons]
 by_cases h:x∈g.IDs
 ·
  simp [h]
 ·
  simp [h]
theorem z16u (l:List z00) (x:ID):znq l x≤l.length:=List.length_filter_le _ _
def cntO (n:Nat):Option Int:=if n=0 then none else some (n:Int)
theorem z12i (n:Nat):(cntO n).getD 0=(n:Int):=by
 unfold cntO
 by_cases h:n=0
 ·
  rw [if_pos h,h]; rfl
 ·
  rw [if_neg h]; rfl
theorem z10x (n:Nat):cntO (n+1)=some ((n+1:Nat):Int):=if_neg (by omega)
theorem zmw {κ β:Type} [DecidableEq κ] {x:κ} {v:β}:∀ {m:List (κ × β)},(m.map Prod.fst).Nodup→(x,v)∈m→z4a m x=some v
 | p::m,hn,h=>by
  rw [List.map_cons,List.nodup_cons] at hn
  rcases List.mem_cons.1 h with e | h
  ·
   subst e
   exact if_pos rfl
  ·
   have hx:x≠p.1:=fun e=>hn.1 (by rw [← e]; exact List.mem_map.2 ⟨_,h,rfl⟩)
   have e:z4a (p::m) x=z4a m x:=if_neg hx
   rw [e,zmw hn.2 h]
theorem zn0 {κ β:Type} [DecidableEq κ] {x:κ} {v:β}:∀ {m:List (κ × β)},z4a m x=some v→(x,v)∈m
 | [],h=>by simp [z4a] at h
 | p::m,h=>by
  by_cases hx:x=p.1
  ·
   have e:z4a (p::m) x=some p.2:=if_pos hx
   rw [e] at h
   cases h
   subst hx
   exact List.mem_cons_self
  ·
   have e:z4a (p::m) x=z4a m x:=if_neg hx
   rw [e] at h
   exact List.mem_cons_of_mem _ (zn0 h)
theorem z18i (F:Fit g 60) (M:List (ID × Int)) (O:List (ID × z05)) (c:ID→Nat) (P:ID→Option z05) (hc:∀ x,c x≤1000) (hn:(M.map Prod.fst).Nodup) (hM:∀ x,z4a M x=cntO (c x)) (hO:∀ x,z4a O x=P x) :
  ∃ s,iter (z1x g) (M,O,0)=some s∧(s.1.map Prod.fst).Nodup∧s.1.length≤M.length+60∧(∀ x,z4a s.1 x=cntO (c x+if x∈g.IDs then 1 else 0))∧∀ x,z4a s.2 x=(z21 g x).or (P x):=by
 have hl:=F.len; have hi:=F.ids
 refine z67 (F:=z1x g) g.IDs.length (fun j s=>s.2.2=(j:Int)∧(s.1.map Prod.fst).Nodup∧s.1.length≤M.length+j∧(∀ x,z4a s.1 x=cntO (c x+if x∈g.IDs.take j then 1 else 0))∧∀ x,z4a s.2.1 x=(if x∈g.IDs.take j then z21 g x else none).or (P x)) _ (fun j s hj=>?_) (fun s=>?_) (M,O,0) 0 (Nat.zero_le _) ⟨rfl,hn,Nat.le_refl _, fun x=>by simp [hM], fun x=>by simp [hO]⟩
 ·
  obtain ⟨M1,O1,j'⟩:=s
  rintro ⟨e1,e2,e3,e4,e5⟩
  simp only at e1 e2 e3 e4 e5
  subst e1
  have hjo:j<g.Ops.length:=by omega
  have hnt:=zky F.ri hj
  have hx:=e4 g.IDs[j]
  rw [if_neg hnt,Nat.add_zero] at hx
  have hcj:=hc g.IDs[j]
  have hmem:∀ x,x∈g.IDs.take (j+1)↔x∈g.IDs.take j∨x=g.IDs[j]:=fun x=>by rw [zkr hj,List.mem_append,List.mem_singleton]
  have hstay:∀ x,x≠g.IDs[j]→(x∈g.IDs.take (j+1))=(x∈g.IDs.take j):=fun x e=>propext ⟨fun h=>((hmem x).1 h).resolve_right e, fun h=>(hmem x).2 (.inl h)⟩
  unfold z1x
  rw [if_pos (by simpa using hj)]
  simp only [z09 hj,z09 hjo,bS,z0g (n:=j) (by omega),hx,z12i,z0g (n:=c g.IDs[j]) (by omega)]
  refine ⟨_,rfl,rfl,zoh e2,Nat.le_trans zv6 (by omega), fun x=>?_, fun x=>?_⟩
  ·
   show z4a (zbk M1 g.IDs[j] ((c g.IDs[j]+1:Nat):Int)) x=_
   rw [zd9,e4]
   by_cases e:x=g.IDs[j]
   ·
    rw [if_pos e,if_pos ((hmem x).2 (.inr e)),e,z10x]
   ·
    rw [if_neg e]
    simp only [hstay x e]
  ·
   show z4a (zbk O1 g.IDs[j] g.Ops[j]) x=_
   rw [zd9,e5]
   by_cases e:x=g.IDs[j]
   ·
    rw [if_pos e,if_pos ((hmem x).2 (.inr e)),e,z7i F hjo]; rfl
   ·
    rw [if_neg e]
    simp only [hstay x e]
 ·
  rintro ⟨e1,e2,e3,e4,e5⟩
  unfold z1x
  rw [if_neg (by rw [e1]; simp)]
  refine ⟨_,rfl,e2, by simp only; omega, fun x=>by rw [e4,List.take_length], fun x=>?_⟩
  rw [e5,List.take_length]
  by_cases h:x∈g.IDs
  ·
   rw [if_pos h]
  ·
   rw [if_neg h,zew h]
theorem z19v (R:Rps l):∃ s,iter (z1w l) ([],[],0)=some s∧(s.1.map Prod.fst).Nodup∧s.1.length≤300∧(∀ x,z4a s.1 x=cntO (znq l x))∧∀ x,z4a s.2 x=zd2 l x:=by
 have hl:=R.len
 refine z67 (F:=z1w l) l.length (fun i s=>s.2.2=(i:Int)∧(s.1.map Prod.fst).Nodup∧s.1.length≤60 * i∧(∀ x,z4a s.1 x=cntO (znq (l.take i) x))∧∀ x,z4a s.2.1 x=zd2 (l.take i) x) _ (fun i s hi=>?_) (fun s=>?_) ([],[],0) 0 (Nat.zero_le _) ⟨rfl,List.Pairwise.nil,Nat.le_refl _, fun x=>rfl, fun x=>rfl⟩
 ·
  obtain ⟨M,O,i'⟩:=s
  rintro ⟨e1,e2,e3,e4,e5⟩
  simp only at e1 e2 e3 e4 e5
  subst e1
  have Rg:=R.rp l[i] (List.getElem_mem hi)
  obtain ⟨s,s1,s2,s3,s4,s5⟩:=z18i Rg.fit M O _ _ (fun x=>by have:=z16u (l.take i) x; rw [List.length_take] at this; omega) e2 e4 e5
  unfold z1w
  rw [if_pos (by simpa using hi)]
  simp only [z09 hi,bS]
  rw [s1]
  simp only [bS,z0g (n:=i) (by omega)]
  refine ⟨_,rfl,rfl,s2, by show s.1.length≤_; omega, fun x=>?_, fun x=>?_⟩
  ·
   show z4a s.1 x=_
   rw [s4,zkr hi,z10q]
  ·
   show z4a s.2 x=_
   rw [s5,zkr hi,zkh]
   cases h1:zd2 (l.take i) x with
   | none=>cases z21 l[i] x <;> rfl
   | some o =>
    cases h2:z21 l[i] x with
    | none=>rfl
    | some q =>
     obtain ⟨g',h3,h4⟩:=zbs h1
     have:=R.ag _ (List.mem_of_mem_take h3) _ (List.getElem_mem hi) x o q h4 h2
     rw [this]
     first | done | rfl
 ·
  rintro ⟨e1,e2,e3,e4,e5⟩
  unfold z1w
  rw [if_neg (by rw [e1]; simp)]
  refine ⟨_,rfl,e2, by simp only; omega, fun x=>by rw [e4,List.take_length], fun x=>by rw [e5,List.take_length]⟩
theorem zpv (F:ID × Int→List ID→Option (List ID)) (en:Int→Bool) (hF:∀ e acc,acc.length≤1000→F e acc=some (if en e.2 then acc++[e.1] else acc)):∀ (M:List (ID × Int)) (acc:List ID),acc.length+M.length≤1000→zgb F M acc=some (acc++(M.filter fun e=>en e.2).map Prod.fst)
 | [],acc,_=>by simp [zgb]
 | e::M,acc,h=>by
  rw [List.length_cons] at h
  unfold zgb
  rw [hF e acc (by omega)]
  simp only [bS]
  cases he:en e.2 with
  | true =>
   rw [if_pos rfl,zpv F en hF M _ (by rw [List.length_append,List.length_singleton]; omega),List.filter_cons_of_pos (by rw [he])]
   simp
  | false =>
   rw [if_neg (by simp),zpv F en hF M _ (by omega),List.filter_cons_of_neg (by rw [he]; simp)]
theorem z18j (s4:List (ID × Int) × List (ID × z05)) (K:List ID) (hK:K.length≤1000) (hO:∀ x∈K,((z4a s4.2 x).getD op0).Preds.length≤100):iter (z1y s4 K) ([],0)=some (K.map fun x=>(z4a s4.2 x).getD op0):=by
 refine z35 K.length (fun i=>((K.take i).map fun x=>(z4a s4.2 x).getD op0,(i:Int))) (fun i hi=>?_) ?_
 ·
  unfold z1y
  rw [if_pos (by simpa using hi)]
  simp only [z09 hi,bS,z0g (n:=i) (by omega)]
  show (z0s (((z4a s4.2 K[i]).getD op0).Preds) >>= fun r54=>_)=_
  rw [zgh _ (hO _ (List.getElem_mem hi))]
  simp only [bS]
  rw [z19 (by simp only [List.length_map,List.length_take,List.length_singleton]; omega),zkr hi,List.map_append]
  rfl
 ·
  unfold z1y
  rw [if_neg (by simp),List.take_length]
theorem zzh (S:List ID) (f:ID→z05) (x:ID):z21 ⟨S,S.map f⟩ x=if x∈S then some (f x) else none:=by
 unfold z21
 by_cases h:x∈S
 ·
  have hi:=List.idxOf_lt_length_of_mem h
  rw [if_pos h,if_pos h]
  show (S.map f)[S.idxOf x]? = _
  rw [List.getElem?_map,List.getElem?_eq_getElem hi]
  simp
 ·
  rw [if_neg h,if_neg h]
theorem z12m {K:List ID} (h:K.Nodup):z7n (zih K)=true:=by
 rw [za0]
 have h1:=zdy K
 have h2:(zih K).Nodup:=(List.mergeSort_perm K _).nodup_iff.2 h
 exact (h1.and h2).imp fun {a b} hab=>by
  have:kd a≠kd b:=fun e=>hab.2 (zhu e)
  have:=hab.1
  omega
theorem zwp (R:Rps l) {s:List (ID × Int) × List (ID × z05)} (hn:(s.1.map Prod.fst).Nodup) (hl:s.1.length≤300) (hM:∀ x,z4a s.1 x=cntO (znq l x)) (hO:∀ x,z4a s.2 x=zd2 l x) (en:Int→Bool) {K:List ID} (hK:K=(s.1.filter fun e=>en e.2).map Prod.fst) :
  ∃ W,(zpj K >>= fun r44=>iter (z1y s r44) ([],0) >>= fun s46=>some (⟨r44,s46⟩:z00))=some W∧Fit W 300∧∀ x,z21 W x=if znq l x≠0∧en (znq l x:Int)=true then zd2 l x else none:=by
 have hKl:K.length≤300:=by
  have:=List.length_filter_le (fun e:ID × Int=>en e.2) s.1
  rw [hK,List.length_map]; omega
 have hKn:K.Nodup:=by
  rw [hK]
  exact List.Nodup.sublist (List.Sublist.map _ List.filter_sublist) hn
 have hKm:∀ x,x∈K↔znq l x≠0∧en (znq l x:Int)=true:=fun x=>by
  rw [hK,List.mem_map]
  constructor
  ·
   rintro ⟨⟨y,v⟩,h1,rfl⟩
   rw [List.mem_filter] at h1
   have h2:=zmw hn h1.1
   rw [hM] at h2
   unfold cntO at h2
   split at h2
   ·
    cases h2
   ·
    rename_i h3
    cases h2
    exact ⟨h3,h1.2⟩
  ·
   rintro ⟨h1,h2⟩
   have h3:z4a s.1 x=some (znq l x:Int):=by rw [hM]; exact if_neg h1
   exact ⟨(x,(znq l x:Int)),List.mem_filter.2 ⟨zn0 h3,h2⟩,rfl⟩
 have hsome:∀ x,znq l x≠0→∃ o,zd2 l x=some o:=fun x h=>by
  obtain ⟨g,hg⟩:=List.exists_mem_of_ne_nil _ (fun e=>h (by unfold znq; rw [e]; rfl):(l.filter fun g=>decide (x∈g.IDs))≠[])
  rw [List.mem_filter] at hg
  obtain ⟨o,ho⟩:=zg7 (R.rp g hg.1).fit (by simpa using hg.2)
  exact ⟨o,zj7 R.ag hg.1 ho⟩
 have hop:∀ x∈zih K,((z4a s.2 x).getD op0).Preds.length≤20∧((z4a s.2 x).getD op0).Act.Key.length≤100∧((z4a s.2 x).getD op0).Act.Value.Text.length≤100:=fun x hx=>by
  rw [zmn,hKm] at hx
  obtain ⟨o,ho⟩:=hsome x hx.1
  rw [hO,ho]
  obtain ⟨g,h1,h2⟩:=zbs ho
  exact (R.rp g h1).op _ (zc1 h2).2
 refine ⟨⟨zih K,(zih K).map fun x=>(z4a s.2 x).getD op0⟩,?_,⟨by simp, by simp only [List.length_map,zje]; omega,z12m hKn, fun o ho=>?_⟩, fun x=>?_⟩
 ·
  unfold zpj
  rw [z2k (by omega)]
  simp only [bS]
  rw [z18j s (zih K) (by rw [zje]; omega) fun x hx=>by have:=(hop x hx).1; omega]
  rfl
 ·
  obtain ⟨x,hx,rfl⟩:=List.mem_map.1 ho
  exact hop x hx
 ·
  have hm:x∈zih K↔znq l x≠0∧en (znq l x:Int)=true:=by rw [zmn,hKm]
  rw [zzh,hO]
  by_cases h:znq l x≠0∧en (znq l x:Int)=true
  ·
   rw [if_pos (hm.2 h),if_pos h]
   obtain ⟨o,ho⟩:=hsome x h.1
   rw [ho]; rfl
  ·
   rw [if_neg fun k=>h (hm.1 k),if_neg h]
theorem z13v (R:Rps l) {x:ID} (h:znq l x=0):zd2 l x=none:=by
 cases hq:zd2 l x with
 | none=>rfl
 | some o =>
  obtain ⟨g,h1,h2⟩:=zbs hq
  have:g∈l.filter fun g=>decide (x∈g.IDs):=List.mem_filter.2 ⟨h1, by simpa using (zc1 h2).1⟩
  unfold znq at h
  rw [List.length_eq_zero_iff] at h
  rw [h] at this; cases this
theorem zwj (R:Rps l):∃ W,z3i l=some W∧Fit W 300∧∀ x,z21 W x=zd2 l x:=by
 obtain ⟨s,s1,s2,s3,s4,s5⟩:=z19v R
 obtain ⟨W,w1,w2,w3⟩:=zwp R s2 s3 s4 s5 (fun _=>true) rfl
 refine ⟨W,?_,w2, fun x=>?_⟩
 ·
  unfold z3i
  rw [s1]
  simp only [bS]
  rw [zpv _ (fun _=>true) (fun e acc h=>by
   unfold z3w zcf
   simp only [bS,if_true]
   rw [z19 (by rw [List.length_singleton]; omega)]
   rfl) s.1 [] (by simp; omega)]
  simp only [bS,List.nil_append]
  exact w1
 ·
  rw [w3]
  by_cases h:znq l x=0
  ·
   rw [if_neg (by simp [h]),z13v R h]
  ·
   rw [if_pos ⟨h,rfl⟩]
end
section
open Go
variable {g a b:z00} {n m:Nat} {l:List z00} {mk:Nat→Bool}
theorem zyz:∀ i,zrh g mk i=((List.range i).filter mk).map (zg4 g)
 | 0=>rfl
 | i+1=>by
  rw [zrh,zyz i,List.range_succ,List.filter_append,List.map_append]
  cases h:mk i <;> simp [h]
theorem zuv:(subG g mk).IDs=zef g mk:=zyz _
theorem z11a {α β:Type} {A:List α} {B:List β} (h:A.length=B.length) (x x':α) (o o':β):(∃ j:Nat,(A++[x])[j]? = some x'∧(B++[o])[j]? = some o')↔(∃ j:Nat,A[j]? = some x'∧B[j]? = some o')∨(x'=x∧o'=o):=by
 constructor
 ·
  rintro ⟨j,h1,h2⟩
  by_cases c:j<A.length
  ·
   rw [List.getElem?_append_left c] at h1
   rw [List.getElem?_append_left (by omega)] at h2
   exact .inl ⟨j,h1,h2⟩
  ·
   have hj:j<(A++[x]).length:=(List.getElem?_eq_some_iff.1 h1).1
   rw [List.length_append,List.length_singleton] at hj
   have e:j=A.length:=by omega
   subst e
   rw [List.getElem?_append_right (by omega)] at h1
   rw [List.getElem?_append_right (by omega),h] at h2
   simp at h1 h2
   exact .inr ⟨h1.symm,h2.symm⟩
 ·
  rintro (⟨j,h1,h2⟩ | ⟨rfl,rfl⟩)
  ·
   have c:j<A.length:=(List.getElem?_eq_some_iff.1 h1).1
   exact ⟨j, by rw [List.getElem?_append_left c]; exact h1, by rw [List.getElem?_append_left (by omega)]; exact h2⟩
  ·
   exact ⟨A.length, by simp, by rw [h]; simp⟩
theorem zms (hl:g.IDs.length=g.Ops.length):∀ i,i≤g.Ops.length→(zrh g mk i).length=(zqk g mk i).length∧∀ x o,(∃ j:Nat,(zrh g mk i)[j]? = some x∧(zqk g mk i)[j]? = some o)↔∃ t:Nat,t<i∧mk t=true∧g.IDs[t]? = some x∧g.Ops[t]? = some o
 | 0,_=>⟨rfl, fun x o=>by simp [zrh,zqk]⟩
 | i+1,hi=>by
  obtain ⟨h1,h2⟩:=zms hl i (by omega)
  have hii:i<g.IDs.length:=by omega
  cases hm:mk i with
  | false =>
   rw [z14a hm,z14k hm]
   refine ⟨h1, fun x o=>(h2 x o).trans ⟨?_,?_⟩⟩
   ·
    rintro ⟨t,t1,t2,t3⟩; exact ⟨t, by omega,t2,t3⟩
   ·
    rintro ⟨t,t1,t2,t3⟩
    by_cases e:t=i
    ·
     subst e; rw [hm] at t2; simp at t2
    ·
     exact ⟨t, by omega,t2,t3⟩
  | true =>
   have ho:g.Ops[i]?.toList=[g.Ops[i]]:=by rw [List.getElem?_eq_getElem (by omega)]; rfl
   rw [z145 hm,z14t hm,ho,z3s hii]
   refine ⟨by simp [h1], fun x o=>(z11a h1 _ _ _ _).trans ?_⟩
   rw [h2]
   constructor
   ·
    rintro (⟨t,t1,t2,t3⟩ | ⟨rfl,rfl⟩)
    ·
     exact ⟨t, by omega,t2,t3⟩
    ·
     exact ⟨i, by omega,hm,List.getElem?_eq_getElem hii,List.getElem?_eq_getElem (by omega)⟩
   ·
    rintro ⟨t,t1,t2,t3,t4⟩
    by_cases e:t=i
    ·
     subst e
     rw [List.getElem?_eq_getElem hii] at t3
     rw [List.getElem?_eq_getElem (by omega)] at t4
     exact .inr ⟨(Option.some.inj t3).symm,(Option.some.inj t4).symm⟩
    ·
     exact .inl ⟨t, by omega,t2,t3,t4⟩
theorem ztq (G:zcd g) (F:Fit g 60) (mk:Nat→Bool):Fit (subG g mk) 60:=by
 refine ⟨(zms G.e.ids _ (Nat.le_refl _)).1,Nat.le_trans (zpb g mk _) G.e.len,?_, fun o ho=>F.op o (zlz g mk _ o ho)⟩
 rw [zuv]; exact zl4 G.e mk
theorem zc4 (G:zcd g) (F:Fit g 60) {x:ID} {o:z05}:z21 (subG g mk) x=some o↔z21 g x=some o∧mk (g.IDs.idxOf x)=true:=by
 rw [z90 (ztq G F mk),z90 F]
 have:=(zms (mk:=mk) G.e.ids _ (Nat.le_refl _)).2 x o
 refine Iff.trans this ⟨?_,?_⟩
 ·
  rintro ⟨t,t1,t2,t3,t4⟩
  refine ⟨⟨t,t3,t4⟩,?_⟩
  obtain ⟨ht,rfl⟩:=List.getElem?_eq_some_iff.1 t3
  rw [zcx G.e.ri ht]; exact t2
 ·
  rintro ⟨⟨t,t3,t4⟩,h⟩
  obtain ⟨ht,rfl⟩:=List.getElem?_eq_some_iff.1 t3
  rw [zcx G.e.ri ht] at h
  exact ⟨t, by rw [← G.e.ids]; exact ht,h,t3,t4⟩
def z6u (l:List z00):z00:=l.foldl zjh ⟨[],[]⟩
theorem z168:Fit (⟨[],[]⟩:z00) 0:=⟨rfl,Nat.le_refl _,rfl, fun o ho=>by cases ho⟩
theorem zoq (l:List z00) (g:z00):z6u (l++[g])=zjh (z6u l) g:=by unfold z6u; rw [List.foldl_append]; rfl
theorem zgu (R:Rps l):∀ i,i≤l.length→Fit (z6u (l.take i)) (60 * i)∧∀ x,z21 (z6u (l.take i)) x=zd2 (l.take i) x
 | 0,_=>⟨z168, fun x=>rfl⟩
 | i+1,hi=>by
  obtain ⟨h1,h2⟩:=zgu R i (by omega)
  have F:=(R.rp _ (List.getElem_mem (show i<l.length by omega))).fit
  rw [zkr (by omega),zoq]
  refine ⟨?_, fun x=>?_⟩
  ·
   have:=z112 h1 F
   rw [Nat.mul_succ]; exact this
  ·
   rw [zxd h1 F,h2,zkh]
theorem zr5 (R:Rps l):Fit (z6u l) 300:=by
 have h:=(zgu R l.length (Nat.le_refl _)).1
 rw [List.take_length] at h
 have:=R.len
 exact ⟨h.ids,Nat.le_trans h.len (by omega),h.ri,h.op⟩
theorem zod (R:Rps l) (x:ID):z21 (z6u l) x=zd2 l x:=by
 have h:=(zgu R l.length (Nat.le_refl _)).2 x
 rwa [List.take_length] at h
end
section
open Go
variable {g a b:z00} {n m:Nat} {l:List z00} {mk:Nat→Bool}
theorem Rp.part (R:Rp g) (cl:∀ i,mk i=true→∀ p∈z2b g i,mk p=true):Rp (subG g mk):=by
 have F:=ztq R.good R.fit mk
 have S0:=zup R.good R.fit
 obtain ⟨rk,hrk⟩:=S0.rk
 refine ⟨ztb F ⟨fun x o h=>S0.ops x o ((zc4 R.good R.fit).1 h).1, fun x o h p hp=>?_,rk, fun x o h p hp=>hrk x o ((zc4 R.good R.fit).1 h).1 p hp⟩,F.op,zyd F (by omega) fun o ho=>R.wf.2.1.1 o (zlz g mk _ o ho)⟩
 obtain ⟨h1,h2⟩:=(zc4 R.good R.fit).1 h
 rw [zuv,zfr R.good.e]
 have hx:=(zc1 h1).1
 have ho:zko g (g.IDs.idxOf x)=o.Preds:=by
  unfold z21 at h1
  rw [if_pos hx] at h1
  unfold zko
  rw [h1]
 have:=zd1 (i:=g.IDs.idxOf x) R.good.ins (by rw [ho]; exact hp)
 exact ⟨this.1,cl _ h2 _ this.2⟩
end
section
open Go
variable {g a b:z00} {n m:Nat} {l:List z00}
theorem zxt (R:Rps l) {i:Nat} (hi:i<l.length):iter (z62 l ((z6u (l.take i)).IDs,(z6u (l.take i)).Ops,(i:Int))) ((z6u (l.take i)).IDs,(z6u (l.take i)).Ops,0)=some ((z6u (l.take (i+1))).IDs,(z6u (l.take (i+1))).Ops):=by
 have Fa:=(zgu R i (by omega)).1
 have Fb:=(R.rp _ (List.getElem_mem hi)).fit
 have hl5:=R.len
 have hs:z6u (l.take (i+1))=zjh (z6u (l.take i)) l[i]:=by rw [zkr hi,zoq]
 rw [hs]
 generalize z6u (l.take i)=a at Fa ⊢
 have hb1:=Fb.len; have hb2:=Fb.ids
 have main:=z35 (F:=z62 l (a.IDs,a.Ops,(i:Int))) (b:=((zjh a l[i]).IDs,(zjh a l[i]).Ops)) l[i].IDs.length (fun k=>((zfz a ((zco l[i]).take k)).IDs,(zfz a ((zco l[i]).take k)).Ops,(k:Int))) (fun k hk=>?_) ?_
 ·
  exact main
 ·
  have hko:k<l[i].Ops.length:=by omega
  have Fj:=zud Fa Fb k
  have hjl:=Fj.len; have hji:=Fj.ids
  have e1:zfz a ((zco l[i]).take (k+1))=zd0 (zfz a ((zco l[i]).take k)) (l[i].IDs[k],l[i].Ops[k]):=by rw [zwq Fb.ids hko,zwy]
  unfold z62
  simp only [z09 hi,bS]
  rw [if_pos (by simpa using hk)]
  simp only [z09 hk,bS]
  by_cases hx:l[i].IDs[k]∈(zfz a ((zco l[i]).take k)).IDs
  ·
   rw [z14m Fj.ri (by omega) hx]
   simp only [bS]
   rw [if_neg (by simp),z0g (by omega),e1]
   unfold zd0
   rw [if_pos hx]
  ·
   rw [z14n (by omega) hx]
   simp only [bS]
   rw [if_pos (by simp)]
   simp only [z09 hko,bS]
   have hp:=z13r Fj (by omega) (l[i].IDs[k],l[i].Ops[k]) (Fb.op _ (List.getElem_mem hko)) hx
   have hp:zc3 (⟨(zfz a ((zco l[i]).take k)).IDs,(zfz a ((zco l[i]).take k)).Ops⟩:z00) l[i].IDs[k] l[i].Ops[k]=some (zd0 (zfz a ((zco l[i]).take k)) (l[i].IDs[k],l[i].Ops[k])):=hp
   rw [hp,z0g (by omega)]
   simp only [bS]
   rw [e1]
 ·
  unfold z62
  simp only [z09 hi,bS]
  rw [if_neg (by simp)]
  unfold zjh
  rw [List.take_of_length_le (by rw [zgd Fb.ids]; omega)]
theorem zxy (R:Rps l):zch l=some (z6u l):=by
 have hl5:=R.len
 have main:=z35 (F:=z5x l) (b:=((z6u l).IDs,(z6u l).Ops)) l.length (fun i=>((z6u (l.take i)).IDs,(z6u (l.take i)).Ops,(i:Int))) (fun i hi=>?_) ?_
 ·
  have main:iter (z5x l) ([],[],0)=some ((z6u l).IDs,(z6u l).Ops):=main
  unfold zch
  rw [main]
  rfl
 ·
  unfold z5x
  rw [if_pos (by simpa using hi)]
  simp only []
  rw [zxt R hi]
  simp only [bS]
  rw [z0g (by omega)]
 ·
  unfold z5x
  rw [if_neg (by simp),List.take_length]
def zok (l:List z00):z00 × Int:=if 60<(z6u l).Ops.length then (⟨[],[]⟩,4) else (z6u l,0)
theorem zvq (R:Rps l):z79 l=some (zok l)∧zfw l=some (zok l):=by
 obtain ⟨W,w1,w2,w3⟩:=zwj R
 have e:W=z6u l:=zqu w2 (zr5 R) fun x=>by rw [w3,zod R]
 subst e
 unfold z79 zfw
 rw [R.chk.1,R.chk.2]
 simp only [bS]
 rw [if_neg (by simp),if_neg (by simp),w1,zxy R]
 simp only [bS]
 by_cases h:60<(z6u l).Ops.length
 ·
  have e:zok l=(⟨[],[]⟩,4):=if_pos h
  rw [e,if_pos (by simp; omega)]; exact ⟨rfl,rfl⟩
 ·
  have e:zok l=(z6u l,0):=if_neg h
  rw [e,if_neg (by simp; omega)]; exact ⟨rfl,rfl⟩
end
section
open Go
variable {g h a b:z00} {n m:Nat}
inductive ztg (g:z00):ID→ID→Prop
 | one {x y:ID} {o:z05}:z21 g y=some o→x∈o.Preds→ztg g x y
 | step {x p y:ID} {o:z05}:ztg g p y→z21 g p=some o→x∈o.Preds→ztg g x y
theorem zt3 (G:zcd g) {x:ID} {o:z05} (h:z21 g x=some o):zko g (g.IDs.idxOf x)=o.Preds:=by
 have hx:=(zc1 h).1
 unfold z21 at h
 rw [if_pos hx] at h
 unfold zko
 rw [h]
theorem z16m (G:zcd g) (F:Fit g n) {y:ID} {o:z05} (hy:z21 g y=some o) {i:Nat} (h:Rch (z2b g) ((zko g (g.IDs.idxOf y)).map fun x=>g.IDs.idxOf x) i):i<g.Ops.length∧ztg g (zg4 g i) y:=by
 induction h with
 | base hm =>
  obtain ⟨x,hx,rfl⟩:=List.mem_map.1 hm
  have hxg:=(zd1 G.ins hx).1
  refine ⟨zjv G hxg,?_⟩
  rw [z3s (List.idxOf_lt_length_of_mem hxg),List.getElem_idxOf]
  rw [zt3 G hy] at hx
  exact .one hy hx
 | step _ hp ih =>
  rename_i t p hr
  obtain ⟨x,hx,rfl⟩:=List.mem_map.1 hp
  have hxg:=(zd1 G.ins hx).1
  refine ⟨zjv G hxg,?_⟩
  rw [z3s (List.idxOf_lt_length_of_mem hxg),List.getElem_idxOf]
  obtain ⟨ih1,ih2⟩:=ih
  have hti:t<g.IDs.length:=by rw [F.ids]; exact ih1
  have hl:z21 g (zg4 g t)=some g.Ops[t]:=by rw [z3s hti]; exact z7i F ih1
  rw [z8z ih1] at hx
  exact .step ih2 hl hx
theorem z10f (G:zcd g) {x y:ID} (h:ztg g x y):x∈g.IDs∧Rch (z2b g) ((zko g (g.IDs.idxOf y)).map fun x=>g.IDs.idxOf x) (g.IDs.idxOf x):=by
 induction h with
 | one hy hx =>
  rw [← zt3 G hy] at hx
  exact ⟨(zd1 G.ins hx).1,.base (List.mem_map.2 ⟨_,hx,rfl⟩)⟩
 | step _ hp hx ih =>
  rw [← zt3 G hp] at hx
  exact ⟨(zd1 G.ins hx).1,.step ih.2 (zd1 G.ins hx).2⟩
theorem z152 (G:zcd g) {x y:ID} (h:ztg g x y):x∈g.IDs:=(z10f G h).1
theorem zp2 (G:zcd g) (F:Fit g n) {y:ID} {o:z05} (hy:z21 g y=some o):∃ s,z4q g y=some s∧∀ x,x∈s↔ztg g x y:=by
 have hyg:=(zc1 hy).1
 obtain ⟨s,m,p1,p2,p3,p4,p5⟩:=zve G hyg
 obtain ⟨m',r1,r2⟩:=zpg G.e G.ins (zko g (g.IDs.idxOf y)) (fun x hx=>(zd1 G.ins hx).1) (by have:=G.e.four (g.IDs.idxOf y); omega)
 rw [r1] at p2
 have e:∀ j,j<g.Ops.length→m' j=m j:=fun j hj=>by
  have h1:=zbu (n:=g.Ops.length) (f:=m') hj
  have h2:=zbu (n:=g.Ops.length) (f:=m) hj
  rw [Option.some.inj p2,h2] at h1
  exact (Option.some.inj h1).symm
 have hs:s=zef g m:=by
  rw [zse G.e] at p3
  exact (Option.some.inj p3).symm
 refine ⟨s,p1, fun x=>?_⟩
 constructor
 ·
  intro hx
  have hxg:x∈g.IDs:=by
   rw [hs,zfr G.e] at hx
   exact hx.1
  have hi:=zjv G hxg
  have hm:=(p5 x hxg).1 hx
  rw [← e _ hi,r2] at hm
  have:=(z16m G F hy hm).2
  rwa [z3s (List.idxOf_lt_length_of_mem hxg),List.getElem_idxOf] at this
 ·
  intro hx
  obtain ⟨hxg,hr⟩:=z10f G hx
  rw [p5 x hxg,← e _ (zjv G hxg),r2]
  exact hr
def Over (g:z00) (key:Str) (x:ID):Prop:=∃ y q,z21 g y=some q∧q.Act.Key=key∧q.Act.Kind=3∧ztg g x y
theorem zou (G:zcd g) (F:Fit g n) (key:Str) (x:ID):zop g key g.Ops.length x↔Over g key x:=by
 constructor
 ·
  rintro ⟨j,hj,-,h1,h2,s,h3,h4⟩
  have hid:j<g.IDs.length:=by rw [F.ids]; exact hj
  have hl:z21 g (zg4 g j)=some g.Ops[j]:=by rw [z3s hid]; exact z7i F hj
  obtain ⟨s',s1,s2⟩:=zp2 G F hl
  rw [h3] at s1; cases s1
  exact ⟨_,_,hl,h1,h2,(s2 x).1 h4⟩
 ·
  rintro ⟨y,q,hy,h1,h2,h3⟩
  obtain ⟨j,j1,j2⟩:=(z90 F).1 hy
  obtain ⟨hid,rfl⟩:=List.getElem?_eq_some_iff.1 j1
  obtain ⟨hj,rfl⟩:=List.getElem?_eq_some_iff.1 j2
  obtain ⟨s,s1,s2⟩:=zp2 G F hy
  exact ⟨j,hj,hj,h1,h2,s, by rw [z3s hid]; exact s1,(s2 x).2 h3⟩
def InS (g:z00) (key:Str):Prop:=∃ x o,z21 g x=some o∧o.Act.Kind=2∧o.Act.Key=key∧¬ Over g key x
def z16w (g:z00) (key:Str) (x:ID) (o:z05):Prop:=z21 g x=some o∧o.Act.Kind=4∧o.Act.Key=key
def Best (g:z00) (key:Str) (x:ID) (o:z05):Prop:=z16w g key x o∧∀ y q,z16w g key y q→q.Stamp<o.Stamp∨(q.Stamp=o.Stamp∧kd y≤kd x)
def ValS (g:z00) (key:Str) (v:z03):Prop:=(∃ x o,Best g key x o∧v=o.Act.Value)∨((∀ x o,¬ z16w g key x o)∧v=⟨0,0,0,[]⟩)
theorem zyu (key:Str) (N:ID→Bool):∀ i,inN g key N i=true↔∃ j,j<i∧(kO g j).Act.Kind=2∧(kO g j).Act.Key=key∧N (zg4 g j)=false
 | 0=>by simp [inN]
 | i+1=>by
  show (_ || _)=true↔_
  rw [Bool.or_eq_true,zyu key N i]
  constructor
  ·
   rintro (⟨j,h1,h2⟩ | h)
   ·
    exact ⟨j, by omega,h2⟩
   ·
    simp at h
    exact ⟨i, by omega,h.1.1,h.1.2,h.2⟩
  ·
   rintro ⟨j,h1,h2,h3,h4⟩
   by_cases e:j=i
   ·
    subst e; right; simp [h2,h3,h4]
   ·
    exact .inl ⟨j, by omega,h2,h3,h4⟩
theorem z11m (key:Str):∀ i, match zlc g key i with
  | none=>∀ j,j<i→¬ ((kO g j).Act.Kind=4∧(kO g j).Act.Key=key)
  | some b=>b<i∧(kO g b).Act.Kind=4∧(kO g b).Act.Key=key∧∀ j,j<i→(kO g j).Act.Kind=4→(kO g j).Act.Key=key→(kO g j).Stamp<(kO g b).Stamp∨((kO g j).Stamp=(kO g b).Stamp∧j≤b)
 | 0=>fun j hj=>absurd hj (by omega)
 | i+1=>by
  have ih:=z11m key i
  unfold zlc
  by_cases c:(kO g i).Act.Kind=4∧(kO g i).Act.Key=key∧(∀ b,zlc g key i=some b→(kO g b).Stamp≤(kO g i).Stamp)
  ·
   rw [if_pos c]
   refine ⟨by omega,c.1,c.2.1, fun j hj h1 h2=>?_⟩
   by_cases e:j=i
   ·
    subst e; exact .inr ⟨rfl,Nat.le_refl _⟩
   ·
    cases hb:zlc g key i with
    | none=>rw [hb] at ih; exact absurd ⟨h1,h2⟩ (ih j (by omega))
    | some b =>
     rw [hb] at ih
     have h3:=c.2.2 b hb
     rcases ih.2.2.2 j (by omega) h1 h2 with h4 | ⟨h4,h5⟩
     ·
      rcases zjw.1 h3 with h6 | h6
      ·
       left; rw [UInt64.lt_iff_toNat_lt] at *; omega
      ·
       left; rw [h6]; exact h4
     ·
      rcases zjw.1 h3 with h6 | h6
      ·
       left; rw [h4]; exact h6
      ·
       right; exact ⟨by rw [h4,h6], by omega⟩
  ·
   rw [if_neg c]
   cases hb:zlc g key i with
   | none =>
    rw [hb] at ih
    intro j hj hk
    by_cases e:j=i
    ·
     subst e; exact c ⟨hk.1,hk.2, fun b h=>by rw [hb] at h; cases h⟩
    ·
     exact ih j (by omega) hk
   | some b =>
    rw [hb] at ih
    refine ⟨by omega,ih.2.1,ih.2.2.1, fun j hj h1 h2=>?_⟩
    by_cases e:j=i
    ·
     subst e
     left
     have:¬ (kO g b).Stamp≤(kO g j).Stamp:=fun h3=>c ⟨h1,h2, fun b' hb'=>by rw [hb] at hb'; cases hb'; exact h3⟩
     rw [UInt64.le_iff_toNat_le] at this
     rw [UInt64.lt_iff_toNat_lt]; omega
    ·
     exact ih.2.2.2 j (by omega) h1 h2
theorem zym (F:Fit g n) {i:Nat} (hi:i<g.Ops.length):z21 g (zg4 g i)=some (kO g i):=by
 have hid:i<g.IDs.length:=by rw [F.ids]; exact hi
 rw [z3s hid,← zvz hi]; exact z7i F hi
theorem zt5 (F:Fit g n) {x:ID} {o:z05} (h:z21 g x=some o):∃ i,i<g.Ops.length∧kO g i=o∧zg4 g i=x:=by
 obtain ⟨i,h1,h2⟩:=(z90 F).1 h
 obtain ⟨hid,rfl⟩:=List.getElem?_eq_some_iff.1 h1
 obtain ⟨hi,rfl⟩:=List.getElem?_eq_some_iff.1 h2
 exact ⟨i,hi,(zvz hi).symm,z3s hid⟩
theorem z15h (F:Fit g n) {i j:Nat} (hi:i<g.Ops.length) (hj:j<g.Ops.length):j≤i↔kd (zg4 g j)≤kd (zg4 g i):=by
 have h1:i<g.IDs.length:=by rw [F.ids]; exact hi
 have h2:j<g.IDs.length:=by rw [F.ids]; exact hj
 rw [z3s h1,z3s h2]
 constructor
 ·
  intro h
  by_cases e:j=i
  ·
   subst e; exact Nat.le_refl _
  ·
   exact Nat.le_of_lt (zap F.ri h2 h1 (by omega))
 ·
  intro h
  refine Nat.le_of_not_lt fun c=>?_
  have:=zap F.ri h1 h2 c
  omega
theorem z10o (G:zcd g) (F:Fit g n) (h:z4g g=some 0) (key:Str):∃ a,z37 g key=some (a,0)∧(a.in_=true↔InS g key)∧ValS g key a.v:=by
 obtain ⟨_,p1,m,rfl,p2⟩:=z19q G h key
 refine ⟨⟨inN g key (fun x=>(z4a m x).getD false) g.Ops.length,vN g (zlc g key g.Ops.length)⟩,?_,?_,?_⟩
 ·
  unfold z37
  rw [p1]
  simp only [zon]
  rw [z1ac G key m]
  rfl
 ·
  show inN g key _ _=true↔_
  rw [zyu]
  constructor
  ·
   rintro ⟨j,h1,h2,h3,h4⟩
   refine ⟨_,_,zym F h1,h2,h3, fun ho=>?_⟩
   rw [← zou G F,← p2,h4] at ho
   simp at ho
  ·
   rintro ⟨x,o,h1,h2,h3,h4⟩
   obtain ⟨i,hi,rfl,rfl⟩:=zt5 F h1
   refine ⟨i,hi,h2,h3,?_⟩
   rw [← zou G F,← p2,Bool.not_eq_true] at h4
   exact h4
 ·
  show ValS g key (vN g _)
  have:=z11m (g:=g) key g.Ops.length
  cases hb:zlc g key g.Ops.length with
  | none =>
   rw [hb] at this
   refine .inr ⟨fun x o hs=>?_,rfl⟩
   obtain ⟨i,hi,rfl,rfl⟩:=zt5 F hs.1
   exact this i hi ⟨hs.2.1,hs.2.2⟩
  | some b =>
   rw [hb] at this
   refine .inl ⟨zg4 g b,kO g b,⟨⟨zym F this.1,this.2.1,this.2.2.1⟩, fun y q hs=>?_⟩,rfl⟩
   obtain ⟨i,hi,rfl,rfl⟩:=zt5 F hs.1
   rcases this.2.2.2 i hi hs.2.1 hs.2.2 with h1 | ⟨h1,h2⟩
   ·
    exact .inl h1
   ·
    exact .inr ⟨h1,(z15h F this.1 hi).1 h2⟩
theorem z113 {key:Str} (F:Fit g n) {x y:ID} {o q:z05} (h1:Best g key x o) (h2:Best g key y q):o=q:=by
 have a1:=h1.2 y q h2.1
 have a2:=h2.2 x o h1.1
 have e:kd x=kd y:=by
  rcases a1 with a1 | ⟨a1,a3⟩ <;> rcases a2 with a2 | ⟨a2,a4⟩
  ·
   rw [UInt64.lt_iff_toNat_lt] at *; omega
  ·
   rw [a2] at a1; rw [UInt64.lt_iff_toNat_lt] at a1; omega
  ·
   rw [a1] at a2; rw [UInt64.lt_iff_toNat_lt] at a2; omega
  ·
   omega
 have e:=zhu e
 subst e
 have:=h1.1.1
 rw [h2.1.1] at this
 exact (Option.some.inj this).symm
theorem z127 {key:Str} {v w:z03} (F:Fit g n) (h1:ValS g key v) (h2:ValS g key w):v=w:=by
 rcases h1 with ⟨x,o,h1,rfl⟩ | ⟨h1,rfl⟩ <;> rcases h2 with ⟨y,q,h2,rfl⟩ | ⟨h2,rfl⟩
 ·
  rw [z113 F h1 h2]
 ·
  exact absurd h1.1 (h2 _ _)
 ·
  exact absurd h2.1 (h1 _ _)
 ·
  rfl
theorem zzq (G:zcd g) (F:Fit g n) (h:z4g g=some 0) (key:Str):∃ i v,z3o g key=some (i,v,0)∧z37 g key=some (⟨i,v⟩,0)∧(i=true↔InS g key)∧ValS g key v:=by
 obtain ⟨⟨i,v⟩,a1,a2,a3⟩:=z10o G F h key
 refine ⟨i,v,?_,a1,a2,a3⟩
 unfold z3o
 rw [h]
 simp only [bS]
 rw [if_neg (by simp),a1]
 rfl
end
section
open Go
variable {g:z00} {n:Nat} {x y z:ID} {o q:z05} {key:Str}
structure zee (g:z00) (x:ID) (o:z05):Prop where
 sz:o.Preds.length≤20∧o.Act.Key.length≤100∧o.Act.Value.Text.length≤100
 ok:zf1 o=0∧sha (zg1 o)=x∧o.Preds.length≤4∧z7n o.Preds=true
 wf:zdg o
 no:x∉g.IDs
 ins:∀ p∈o.Preds,p∈g.IDs
theorem Rp.nil:Rp (⟨[],[]⟩:z00):=by
 have F:Fit (⟨[],[]⟩:z00) 60:=⟨rfl, by simp,rfl, by simp⟩
 have hn:∀ z o,z21 (⟨[],[]⟩:z00) z≠some o:=fun z o h=>by have:=(zc1 h).1; cases this
 exact ⟨ztb F ⟨fun z o h=>absurd h (hn z o), fun z o h=>absurd h (hn z o), fun _=>0, fun z o h=>absurd h (hn z o)⟩, by simp,zyd F (by omega) (by simp)⟩
theorem z12g {p:ID × z05} {q:z05} (h:q∈(zd0 g p).Ops):q=p.2∨q∈g.Ops:=by
 unfold zd0 at h
 split at h
 ·
  exact .inr h
 ·
  exact zm8.1 h
theorem Rp.add (R:Rp g) (hl:g.Ops.length≤59) (N:zee g x o):Rp (zd0 g (x,o)):=by
 have S:=zup R.good R.fit
 have F:=zh2 (p:=(x,o)) R.fit N.sz
 have hlen:(zd0 g (x,o)).Ops.length≤60:=by
  have F':Fit g g.Ops.length:=⟨R.fit.ids,Nat.le_refl _,R.fit.ri,R.fit.op⟩
  have:=(zh2 (p:=(x,o)) F' N.sz).len
  omega
 have F6:Fit (zd0 g (x,o)) 60:=⟨F.ids,hlen,F.ri,F.op⟩
 refine ⟨ztb F6 (zy8 R.fit S (p:=(x,o)) N.sz N.no N.ok N.ins),F.op,zyd F6 (by omega) fun q hq=>?_⟩
 rcases z12g hq with rfl | h
 ·
  exact N.wf
 ·
  exact R.wf.2.1.1 q h
theorem z10i (F:Fit g n) (N:zee g x o):(zd0 g (x,o)).Ops.length=g.Ops.length+1:=by
 have F1:=zj5 F.ri x
 have:=F1.le
 have hi:=F.ids
 unfold zd0
 rw [if_neg N.no]
 show (zgs g.Ops _ o).length=_
 unfold zgs
 simp; omega
theorem znn (F:Fit g n) (N:zee g x o) (y:ID):z21 (zd0 g (x,o)) y=if y=x then some o else z21 g y:=zpu F (p:=(x,o)) N.sz N.no y
theorem zjp (F:Fit g n) (N:zee g x o) (h:z21 g y=some q):z21 (zd0 g (x,o)) y=some q:=by
 rw [znn F N,if_neg fun e=>N.no (by rw [← e]; exact (zc1 h).1),h]
theorem zk4 (F:Fit g n) (N:zee g x o):z21 (zd0 g (x,o)) x=some o:=by rw [znn F N,if_pos rfl]
theorem zbf (F:Fit g n) (N:zee g x o) (h:z21 (zd0 g (x,o)) y=some q):(y=x∧q=o)∨(y≠x∧z21 g y=some q):=by
 rw [znn F N] at h
 by_cases e:y=x
 ·
  rw [if_pos e] at h; exact .inl ⟨e,(Option.some.inj h).symm⟩
 ·
  rw [if_neg e] at h; exact .inr ⟨e,h⟩
theorem z11k (h:ztg g x y):∃ o p,z21 g y=some o∧p∈o.Preds:=by
 induction h with
 | one h1 h2=>exact ⟨_,_,h1,h2⟩
 | step _ _ _ ih=>exact ih
theorem z13y {rk:ID→Nat} (hr:z10u g rk) (h:ztg g x y):rk x<rk y:=by
 induction h with
 | one h1 h2=>exact hr _ _ h1 _ h2
 | step _ h2 h3 ih=>exact Nat.lt_trans (hr _ _ h2 _ h3) ih
theorem zth (R:Rp g) (N:zee g x o) (hy:y≠x):ztg (zd0 g (x,o)) z y↔ztg g z y:=by
 constructor
 ·
  intro h
  induction h with
  | one h1 h2 =>
   rcases zbf R.fit N h1 with ⟨e,-⟩ | ⟨-,h⟩
   ·
    exact absurd e hy
   ·
    exact .one h h2
  | step _ h2 h3 ih =>
   rcases zbf R.fit N h2 with ⟨e,-⟩ | ⟨-,h⟩
   ·
    exact absurd (z152 R.good (ih hy)) (by rw [e]; exact N.no)
   ·
    exact .step (ih hy) h h3
 ·
  intro h
  clear hy
  induction h with
  | one h1 h2=>exact .one (zjp R.fit N h1) h2
  | step _ h2 h3 ih=>exact .step ih (zjp R.fit N h2) h3
theorem z17g (R:Rp g) (hl:g.Ops.length≤59) (N:zee g x o):¬ ztg (zd0 g (x,o)) x y:=fun h=>by
 by_cases e:y=x
 ·
  have R':=R.add hl N
  obtain ⟨rk,hr⟩:=z118 R'.good R'.fit
  have:=z13y hr h
  rw [e] at this
  omega
 ·
  rw [zth R N e] at h
  exact N.no (z152 R.good h)
theorem zss (R:Rp g) (N:zee g x o):Over (zd0 g (x,o)) key z↔Over g key z∨(o.Act.Key=key∧o.Act.Kind=3∧ztg (zd0 g (x,o)) z x):=by
 constructor
 ·
  rintro ⟨y,q,h1,h2,h3,h4⟩
  rcases zbf R.fit N h1 with ⟨e,rfl⟩ | ⟨e,h⟩
  ·
   subst e; exact .inr ⟨h2,h3,h4⟩
  ·
   exact .inl ⟨y,q,h,h2,h3,(zth R N e).1 h4⟩
 ·
  rintro (⟨y,q,h1,h2,h3,h4⟩ | ⟨h1,h2,h3⟩)
  ·
   exact ⟨y,q,zjp R.fit N h1,h2,h3,(zth R N fun e=>N.no (by rw [← e]; exact (zc1 h1).1)).2 h4⟩
  ·
   exact ⟨x,o,zk4 R.fit N,h1,h2,h3⟩
theorem z12a (R:Rp g) (hl:g.Ops.length≤59) (N:zee g x o):¬ Over (zd0 g (x,o)) key x:=fun ⟨_,_,_,_,_,h⟩=>z17g R hl N h
theorem z19d (R:Rp g) (hl:g.Ops.length≤59) (N:zee g x o) (hk:o.Act.Kind=2) (hkey:o.Act.Key=key):InS (zd0 g (x,o)) key :=
 ⟨x,o,zk4 R.fit N,hk,hkey,z12a R hl N⟩
theorem z16b (R:Rp g) (N:zee g x o) (h2:¬ (o.Act.Kind=2∧o.Act.Key=key)) (h3:¬ (o.Act.Kind=3∧o.Act.Key=key)):InS (zd0 g (x,o)) key↔InS g key:=by
 have ov:∀ z,Over (zd0 g (x,o)) key z↔Over g key z:=fun z=>by
  rw [zss R N]
  exact ⟨fun h=>h.elim id fun h=>absurd ⟨h.2.1,h.1⟩ h3,.inl⟩
 constructor
 ·
  rintro ⟨y,q,k1,k2,k3,k4⟩
  rcases zbf R.fit N k1 with ⟨e,rfl⟩ | ⟨e,h⟩
  ·
   exact absurd ⟨k2,k3⟩ h2
  ·
   exact ⟨y,q,h,k2,k3, fun h=>k4 ((ov y).2 h)⟩
 ·
  rintro ⟨y,q,k1,k2,k3,k4⟩
  exact ⟨y,q,zjp R.fit N k1,k2,k3, fun h=>k4 ((ov y).1 h)⟩
theorem z169 (R:Rp g) (N:zee g x o) (h3:o.Act.Kind=3) (hkey:o.Act.Key=key) (all:∀ z q,z21 g z=some q→ztg (zd0 g (x,o)) z x):¬ InS (zd0 g (x,o)) key:=by
 rintro ⟨y,q,k1,k2,k3,k4⟩
 rcases zbf R.fit N k1 with ⟨e,rfl⟩ | ⟨e,h⟩
 ·
  rw [h3] at k2; cases k2
 ·
  exact k4 ((zss R N).2 (.inr ⟨hkey,h3,all y q h⟩))
end
section
open Go
variable {g a b:z00}
theorem zsc (R:Rp g):∃ f:Str→z0d,∀ k,z37 g k=some (f k,0)∧z3o g k=some ((f k).in_,(f k).v,0)∧((f k).in_=true↔InS g k)∧ValS g k (f k).v:=by
 have h:∀ k,∃ x:z0d,z37 g k=some (x,0)∧z3o g k=some (x.in_,x.v,0)∧(x.in_=true↔InS g k)∧ValS g k x.v:=fun k=>by
  obtain ⟨i,v,h1,h2,h3,h4⟩:=zzq R.good R.fit R.chk.1 k
  exact ⟨⟨i,v⟩,h2,h1,h3,h4⟩
 exact ⟨fun k=>Classical.choose (h k), fun k=>Classical.choose_spec (h k)⟩
theorem zzp (Ra:Rp a) (Rb:Rp b) {fa fb:Str→z0d} (ha:∀ k,z37 a k=some (fa k,0)) (hb:∀ k,z37 b k=some (fb k,0)) :
  ∃ d,z9e a b=some (d.filter fun k=>!decide (fa k=fb k),0)∧zl5 d∧∀ k,k∈d↔zlm a a.Ops.length k∨zlm b b.Ops.length k:=by
 obtain ⟨l,p1,p2,p3,p4,p5⟩:=ztf Ra.fit.len Ra.chk.1
 obtain ⟨m,q1,q2,q3,q4,q5⟩:=ztf Rb.fit.len Rb.chk.1
 obtain ⟨d,d1,d2,d3⟩:=znl (zsv (l++m)) (by rw [zj6,List.length_append]; omega) (zfl _)
 have hd:d.length≤1000:=by
  have h1:=zw7 d2
  have:=zag d (l++m) h1 fun x hx=>by
   have:=(d3 x).1 hx
   rwa [zpx] at this
  rw [List.length_append] at this
  omega
 refine ⟨d,?_,d2, fun k=>by rw [d3,zpx,List.mem_append,p5,q5]⟩
 unfold z9e
 rw [p1]
 simp only [bS]
 rw [if_neg (by simp),q1]
 simp only [bS]
 rw [if_neg (by simp),z15p l m (by omega) (by omega)]
 simp only [bS]
 rw [zv1 _ (by rw [List.length_append]; omega)]
 simp only [bS]
 rw [d1]
 simp only [bS]
 rw [z134 a b fa fb ha hb d hd]
 rfl
theorem zti (R:Rp g):z9e g g=some ([],0):=by
 obtain ⟨f,hf⟩:=zsc R
 obtain ⟨d,d1,-,-⟩:=zzp R R (fun k=>(hf k).1) (fun k=>(hf k).1)
 rw [d1]
 simp
end
section
open Go
variable {g:z00}
def z147 (g:z00) (xs:List ID) (m:Nat→Bool):Prop:=∀ i,m i=true↔Rch (z2b g) (xs.map fun x=>g.IDs.idxOf x) i
theorem zx1 (G:zcd g) (h:z4g g=some 0) (l:List ID) (hl:l.length≤60):∃ d,zan g l=some (d,0)∧z7n d=true∧∀ x,x∈d↔x∈l∧x∉g.IDs:=by
 have d0:((0:Int) != 0)=false:=rfl
 obtain ⟨m,m1,m2⟩:=zu4 G.e
 obtain ⟨F,f1,f2,f3⟩:∃ F,z1e l m=some F∧F.length≤l.length∧∀ x,x∈F↔x∈l∧x∉g.IDs :=
  ⟨_,z17i m _ m2 l (by omega),List.length_filter_le _ _, fun x=>by rw [List.mem_filter]; simp⟩
 obtain ⟨d,d1,d2,d3⟩:=zns (zih F) (by rw [zje]; omega) (zdy _)
 refine ⟨d,?_,d2, fun x=>by rw [d3,zmn,f3]⟩
 unfold zan
 rw [h]
 simp only [bS,d0,Bool.false_eq_true,if_false]
 rw [if_neg (by simp; omega),m1]
 simp only [bS]
 rw [zgh l (by omega)]
 simp only [bS]
 rw [f1]
 simp only [bS]
 unfold zpj
 rw [z2k (by omega)]
 simp only [bS]
 rw [d1]
 rfl
theorem zps (G:zcd g) (h:z4g g=some 0) (l:List ID) (hl:l.length≤60) (hin:∀ x∈l,x∈g.IDs):∃ m,z8s g l=some (subG g m,0)∧z147 g l m:=by
 obtain ⟨d,e1,-,e3⟩:=zx1 G h l hl
 have hd:d=[]:=by
  cases d with
  | nil=>rfl
  | cons a b=>exact absurd (hin a ((e3 a).1 (by simp)).1) ((e3 a).1 (by simp)).2
 subst hd
 obtain ⟨m,m1,m2⟩:=zpg G.e G.ins l hin (by omega)
 refine ⟨m,?_,m2⟩
 have d0:((0:Int) != 0)=false:=rfl
 unfold z8s
 rw [e1]
 simp only [bS,d0,Bool.false_eq_true,if_false]
 rw [if_neg (by simp),m1]
 simp only [bS]
 rw [z11v G.e m]
 rfl
end
section
open Go
def frc {α:Type} (x:Nat) (k:Nat→α):α:=match x with
 | 0=>k 0
 | n+1=>k (n+1)
theorem z14e {α:Type} (x:Nat) (k:Nat→α):frc x k=k x:=by cases x <;> rfl
def zsz {α:Type} (x:UInt32) (k:UInt32→α):α:=frc x.toNat fun n=>k (UInt32.ofNat n)
theorem zkp {α:Type} (x:UInt32) (k:UInt32→α):zsz x k=k x:=by unfold zsz; rw [z14e,UInt32.ofNat_toNat]
def fB {α:Type}:List UInt8→(List UInt8→α)→α
 | [],k=>k []
 | x::l,k=>frc x.toNat fun n=>fB l fun m=>k (UInt8.ofNat n::m)
theorem z18n {α:Type}:∀ (l:List UInt8) (k:List UInt8→α),fB l k=k l
 | [],k=>rfl
 | x::l,k=>by rw [fB,z14e,z18n l,UInt8.ofNat_toNat]
def fW {α:Type}:List UInt32→(List UInt32→α)→α
 | [],k=>k []
 | x::l,k=>zsz x fun n=>fW l fun m=>k (n::m)
theorem z18u {α:Type}:∀ (l:List UInt32) (k:List UInt32→α),fW l k=k l
 | [],k=>rfl
 | x::l,k=>by rw [fW,zkp,z18u l]
def wL:Nat→List UInt8→List UInt32
 | 0,_=>[]
 | n+1,l=>word l 0::wL n (l.drop 4)
theorem z10p (l:List UInt8) (k:Nat):word (l.drop 4) k=word l (k+1):=by
 unfold word
 have e:∀ j,(l.drop 4).getD (4 * k+j) 0=l.getD (4 * (k+1)+j) 0:=fun j=>by
  rw [List.getD_eq_getElem?_getD,List.getD_eq_getElem?_getD,List.getElem?_drop]
  congr 2; omega
 have e0:=e 0
 rw [Nat.add_zero,Nat.add_zero] at e0
 rw [e0,e 1,e 2,e 3]
theorem z18f:∀ (n:Nat) (l:List UInt8),wL n l=(List.range n).map (word l)
 | 0,l=>rfl
 | n+1,l=>by
  rw [wL,z18f n,List.range_succ_eq_map,List.map_cons,List.map_map]
  exact congrArg (List.cons (word l 0)) (List.map_congr_left fun k hk=>z10p l k)
def sF {α:Type}:Nat→List UInt32→(List UInt32→α)→α
 | 0,r,k=>k r.reverse
 | n+1,r,k=>zsz (((r.getD 15 0+r.getD 6 0)+sg0 (r.getD 14 0))+sg1 (r.getD 1 0)) fun w=>sF n (w::r) k
theorem zm9 (l:List UInt32) (i:Nat) (h:i<l.length):l.reverse.getD i 0=l.getD (l.length - (i+1)) 0:=by
 rw [List.getD_eq_getElem?_getD,List.getD_eq_getElem?_getD,List.getElem?_reverse h]
 congr 2
 omega
theorem z19o {α:Type} (b:List UInt8) (k:List UInt32→α):∀ (n m:Nat),sF n (z74 b m).reverse k=k (z74 b (m+n))
 | 0,m=>by rw [sF,List.reverse_reverse]; rfl
 | n+1,m=>by
  have hl:=zf0 b m
  rw [sF,zkp,zm9 _ 15 (by omega),zm9 _ 6 (by omega),zm9 _ 14 (by omega),zm9 _ 1 (by omega)]
  have:((((z74 b m).getD ((z74 b m).length - (15+1)) 0+(z74 b m).getD ((z74 b m).length - (6+1)) 0)+sg0 ((z74 b m).getD ((z74 b m).length - (14+1)) 0))+sg1 ((z74 b m).getD ((z74 b m).length - (1+1)) 0))::(z74 b m).reverse=(z74 b (m+1)).reverse:=by
   show _=(ztc (z74 b m)).reverse
   unfold ztc
   rw [List.reverse_append]; rfl
  rw [this,z19o b k n (m+1)]
  congr 2; omega
def rF {α:Type}:List UInt32→List UInt32→O8→(O8→α)→α
 | q::K,w::W,s,k=>zsz (rnd1 q w s) fun t=>zsz (t+rnd2 s) fun x=>zsz (s.2.2.2.1+t) fun y=>rF K W (x,s.1,s.2.1,s.2.2.1,y,s.2.2.2.2.1,s.2.2.2.2.2.1,s.2.2.2.2.2.2.1) k
 | _,_,s,k=>k s
theorem z17w {α:Type} (K W:List UInt32) (hK:K.length=64) (hW:W.length=64) (s:O8) (k:O8→α):∀ (n i:Nat),64 - i=n→i≤64→rF (K.drop i) (W.drop i) (zvf K W s i) k=k (zvf K W s 64)
 | 0,i,h,hi=>by
  have:i=64:=by omega
  subst this
  rw [List.drop_eq_nil_of_le (by omega)]; rfl
 | n+1,i,h,hi=>by
  rw [List.drop_eq_getElem_cons (by omega),List.drop_eq_getElem_cons (by omega:i<W.length),rF,zkp,zkp,zkp]
  rw [← z17w K W hK hW s k n (i+1) (by omega) (by omega)]
  congr 1
  rw [zvf,rnd,List.getD_eq_getElem?_getD,List.getD_eq_getElem?_getD,List.getElem?_eq_getElem (by omega),List.getElem?_eq_getElem (by omega)]
  rfl
def grK {α:Type} (h:O8) (b:List UInt8) (k:O8→α):α :=
 fW (wL 16 b).reverse fun r=>sF 48 r fun W=>rF z5j.toList W h fun s =>
 zsz (h.1+s.1) fun a=>zsz (h.2.1+s.2.1) fun b=>zsz (h.2.2.1+s.2.2.1) fun c=>zsz (h.2.2.2.1+s.2.2.2.1) fun d =>
 zsz (h.2.2.2.2.1+s.2.2.2.2.1) fun e=>zsz (h.2.2.2.2.2.1+s.2.2.2.2.2.1) fun f=>zsz (h.2.2.2.2.2.2.1+s.2.2.2.2.2.2.1) fun g=>zsz (h.2.2.2.2.2.2.2+s.2.2.2.2.2.2.2) fun z=>k (a,b,c,d,e,f,g,z)
def add8 (h s:O8):O8:=(h.1+s.1,h.2.1+s.2.1,h.2.2.1+s.2.2.1,h.2.2.2.1+s.2.2.2.1,h.2.2.2.2.1+s.2.2.2.2.1,h.2.2.2.2.2.1+s.2.2.2.2.2.1,h.2.2.2.2.2.2.1+s.2.2.2.2.2.2.1,h.2.2.2.2.2.2.2+s.2.2.2.2.2.2.2)
theorem z12t (h v:Vector UInt32 8):∀ j (hj:j<8),(addV h v)[j]=h[j]+v[j]:=by
 obtain ⟨r,h1,h2⟩:=z67 (F:=z1q v) 8 (fun i s=>s.2=(i:Int)∧∀ j (hj:j<8),s.1[j]=if j<i then h[j]+v[j] else h[j]) (fun r=>∀ j (hj:j<8),r[j]=h[j]+v[j]) (fun i s hi hs=>by
  obtain ⟨u,k⟩:=s
  obtain ⟨hs,hu⟩:=hs
  simp only at hs hu
  subst hs
  unfold z1q
  rw [if_pos (by simp; omega)]
  rw [z8w (show i<8 by omega),z8w (show i<8 by omega)]
  simp only [bS,z0g (show i<9223372036854775807 by omega)]
  refine ⟨_,rfl,rfl, fun j hj=>?_⟩
  simp only
  rw [zgr hj,hu j hj,hu i hi]
  simp only [Int.toNat_natCast]
  by_cases e:i=j
  ·
   subst e; simp
  ·
   rw [if_neg e]
   by_cases l:j<i
   ·
    rw [if_pos l,if_pos (by omega)]
   ·
    rw [if_neg l,if_neg (by omega)]) (fun s hs=>by
  obtain ⟨u,k⟩:=s
  obtain ⟨hs,hu⟩:=hs
  simp only at hs hu
  subst hs
  unfold z1q
  rw [if_neg (by simp)]
  exact ⟨_,rfl, fun j hj=>by rw [hu j hj,if_pos hj]⟩) (h,0) 0 (by omega) ⟨rfl, fun j hj=>by simp⟩
 unfold addV
 rw [h1]
 exact h2
theorem z16t (h s:O8):addV (toV h) (toV s)=toV (add8 h s):=by
 apply Vector.ext
 intro j hj
 rw [z12t]
 match j,hj with
 | 0,_=>rfl
 | 1,_=>rfl
 | 2,_=>rfl
 | 3,_=>rfl
 | 4,_=>rfl
 | 5,_=>rfl
 | 6,_=>rfl
 | 7,_=>rfl
theorem z17a (s:O8):ofV (toV s)=s:=rfl
theorem z198 {α:Type} (h:O8) (b:List UInt8) (k:O8→α):∃ s,gr (toV h) b=toV s∧grK h b k=k s:=by
 refine ⟨add8 h (zvf z5j.toList (z74 b 48) h 64),?_,?_⟩
 ·
  unfold gr
  rw [z17a,z16t]
 ·
  unfold grK
  have e:wL 16 b=z74 b 0:=z18f 16 b
  rw [z18u,e,z19o b _ 48 0]
  have:=z17w z5j.toList (z74 b 48) zpd (by rw [zf0]) h (fun s=>k (add8 h s)) 64 0 rfl (by omega)
  rw [← this]
  simp only [zkp]
  rfl
def blkK {α:Type}:Nat→O8→List UInt8→(O8→α)→α
 | 0,h,b,k=>k h
 | n+1,h,b,k=>grK h (b.take 64) fun s=>blkK n s (b.drop 64) k
theorem z11g {α:Type}:∀ (n:Nat) (h:O8) (b:List UInt8) (k:O8→α),b.length=64 * n→∃ s,blk (toV h) b=toV s∧blkK n h b k=k s
 | 0,h,b,k,hb=>⟨h,zqt (by omega),rfl⟩
 | n+1,h,b,k,hb=>by
  obtain ⟨s,s1,s2⟩:=z198 h (b.take 64) (fun s=>blkK n s (b.drop 64) k)
  obtain ⟨t,t1,t2⟩:=z11g n s (b.drop 64) k (by rw [List.length_drop]; omega)
  refine ⟨t,?_,?_⟩
  ·
   rw [zr3 (by omega),s1,t1]
  ·
   rw [blkK,s2,t2]
def H8:O8:=(1779033703,3144134277,1013904242,2773480762,1359893119,2600822924,528734635,1541459225)
def shaK {α:Type} (b:List UInt8) (k:O8→α):α:=fB (b++tl b.length) fun m=>blkK (m.length / 64) H8 m k
theorem z17x (n:Nat):(n+(tl n).length) % 64=0:=by
 unfold tl z98 zrs
 simp
 omega
theorem z15z {α:Type} (b:List UInt8) (k:O8→α):∃ s,sha b=wr (toV s)∧shaK b k=k s:=by
 have hl:=z17x b.length
 obtain ⟨s,s1,s2⟩:=z11g ((b++tl b.length).length / 64) H8 (b++tl b.length) k (by rw [List.length_append]; omega)
 refine ⟨s,?_,?_⟩
 ·
  unfold sha
  rw [show H0=toV H8 from rfl,s1]
 ·
  unfold shaK
  rw [z18n,s2]
def zw9 (b:List UInt8) (s:O8):Bool:=shaK b fun t=>t==s
theorem z17n {b:List UInt8} {s:O8} (h:zw9 b s=true):sha b=wr (toV s):=by
 unfold zw9 at h
 obtain ⟨t,t1,t2⟩:=z15z b (fun t=>t==s)
 rw [t2] at h
 rw [t1,eq_of_beq h]
end
section
open Go
theorem z12d (m:List UInt8) (r:UInt32) (h:m.length≤9991):zdf 110 m [r]=some (zp1 (sha (([110]++four r)++m)) 8,0):=by
 have l1:iter (z41 [r]) ([110],0)=some ([110]++four r):=by
  have s1:z41 [r] ([110],0)=some (.inr ([110]++four r,1)):=by
   unfold z41
   rw [if_pos (by simp)]
   simp only []
   rw [show idx [r] 0=some r from rfl,z11 (x:=(0:Int)+1) (by omega) (by omega)]
   simp only [bS]
   rw [z19 (by simp)]
   rfl
  have s3:z41 [r] ([110]++four r,1)=some (.inl ([110]++four r)):=by
   unfold z41
   rw [if_neg (by simp)]
  rw [z1h s1,z16 s3]
 unfold zdf
 rw [if_neg (by simp; omega),l1]
 simp only [bS]
 rw [zmu _ (by simp) (by
  intro b hb
  simp only [List.mem_cons,List.not_mem_nil,or_false] at hb
  rcases hb with rfl | rfl
  ·
   simp [four]
  ·
   omega)]
 simp only [bS]
 rw [zuj, show [[110]++four r,m].flatten=([110]++four r)++m by simp only [List.flatten_cons,List.flatten_nil,List.append_nil]]
 rfl
def zio (k:UInt32) (m:List UInt8):UInt32:=(zp1 (sha (([110]++four k)++m)) 8 % 500000002).toUInt32+1
theorem zsi {k:UInt32} (h1:1≤k.toNat) (h2:k.toNat<gq):zet k=some 0:=by
 have h2:k.toNat<500000003:=h2
 have hs:(k - 1).toNat=k.toNat - 1:=by
  rw [UInt32.toNat_sub_of_le _ _ (by rw [UInt32.le_iff_toNat_le]; exact h1)]; rfl
 unfold zet
 rw [if_neg (by
  rw [decide_eq_true_iff,UInt32.le_iff_toNat_le,hs]
  have:(500000002:UInt32).toNat=500000002:=rfl
  omega)]
theorem zzz (n:UInt64):zbv n=some (u32 (4 ^ n.toNat % gp)):=by
 unfold zbv
 rw [zug]; rfl
theorem z12r {k:UInt32} (h1:1≤k.toNat) (h2:k.toNat<gq) (m:List UInt8) (h:m.length≤9991):zgy k m=some (zio k m,0):=by
 unfold zgy
 rw [zsi h1 h2]
 simp only [bS]
 rw [if_neg (by simp),z12d m k h]
 simp only [bS]
 rw [if_neg (by simp)]
 rfl
theorem zrv {k:UInt32} (h1:1≤k.toNat) (h2:k.toNat<gq):zd7 k=some (u32 (4 ^ k.toNat % gp),0):=by
 unfold zd7
 rw [zsi h1 h2]
 simp only [bS]
 rw [if_neg (by simp),zzz]
 simp only [bS]
 simp
theorem q64 (x y:UInt64) (h:x.toNat * y.toNat<18446744073709551616):(x * y % 500000003).toNat=x.toNat * y.toNat % gq:=by
 rw [UInt64.toNat_mod,UInt64.toNat_mul,Nat.mod_eq_of_lt h]
 rfl
theorem mulq (x y:UInt32):zb3 500000003 [x,y]=some (u32 (x.toNat * y.toNat % gq)):=by
 have hx:=UInt32.toNat_lt x
 have hy:=UInt32.toNat_lt y
 have e1:(1 * x.toUInt64 % 500000003:UInt64).toNat=x.toNat % gq:=by
  rw [q64 _ _ (by simp; omega)]; simp
 have hlt:x.toNat % gq<500000003:=Nat.mod_lt _ (by decide)
 have hpr:(x.toNat % gq) * y.toNat≤500000003 * 4294967296:=Nat.mul_le_mul (by omega) (by omega)
 have e2:(1 * x.toUInt64 % 500000003 * y.toUInt64 % 500000003:UInt64).toNat=x.toNat * y.toNat % gq:=by
  rw [q64 _ _ (by rw [e1]; simp; omega),e1]
  simp only [UInt32.toNat_toUInt64]
  rw [Nat.mod_mul_mod]
 have s1:z44 500000003 [x,y] (1,0)=some (.inr (1 * x.toUInt64 % 500000003,1)):=by
  unfold z44
  rw [if_pos (by simp)]
  simp only []
  rw [show idx [x,y] 0=some x from rfl,z2k (by decide),z11 (x:=(0:Int)+1) (by omega) (by omega)]
  simp only [bS]
  rfl
 have s2:z44 500000003 [x,y] (1 * x.toUInt64 % 500000003,1)=some (.inr (1 * x.toUInt64 % 500000003 * y.toUInt64 % 500000003,2)):=by
  unfold z44
  rw [if_pos (by simp)]
  simp only []
  rw [show idx [x,y] 1=some y from rfl,z2k (by decide),z11 (x:=(1:Int)+1) (by omega) (by omega)]
  simp only [bS]
  rfl
 have s3:z44 500000003 [x,y] (1 * x.toUInt64 % 500000003 * y.toUInt64 % 500000003,2)=some (.inl (1 * x.toUInt64 % 500000003 * y.toUInt64 % 500000003)):=by
  unfold z44
  rw [if_neg (by simp)]
 unfold zb3
 rw [z1h s1,z1h s2,z16 s3]
 simp only [bS]
 rw [to32 _ (by rw [e2]; exact Nat.lt_trans (Nat.mod_lt _ (by decide)) (by decide)),e2]
theorem z137 {x y:UInt32} (hx:x.toNat<gq) (hy:y.toNat<gq):zfh x y=some (u32 (x.toNat * y.toNat % gq),0):=by
 unfold zfh
 rw [zpr]
 unfold zar
 rw [decide_eq_true hx,decide_eq_true hy,if_neg (by simp),mulq]
 rfl
theorem z161 {x y:UInt32} (hx:x.toNat<gq) (hy:y.toNat<gq):zgw x y=some (u32 ((x.toNat+y.toNat) % gq),0):=by
 unfold zgw
 rw [zpr]
 unfold zar
 rw [decide_eq_true hx,decide_eq_true hy,if_neg (by simp)]
 have hx:x.toNat<500000003:=hx
 have hy:y.toNat<500000003:=hy
 have:(x+y) % 500000003=u32 ((x.toNat+y.toNat) % gq):=by
  apply UInt32.toNat_inj.1
  rw [z2f (Nat.lt_trans (Nat.mod_lt _ (by decide)) (by decide)),UInt32.toNat_mod,UInt32.toNat_add,Nat.mod_eq_of_lt (a:=x.toNat+y.toNat) (by omega)]
  rfl
 rw [this]
 rfl
theorem z10l (r y:UInt32) (m:List UInt8):(zxm r y m).toNat<gq:=by
 unfold zxm
 rw [UInt64.toNat_toUInt32,UInt64.toNat_mod]
 exact Nat.lt_of_le_of_lt (Nat.mod_le _ _) (Nat.mod_lt _ (by decide))
def zxk (k:UInt32) (m:List UInt8):z0a :=
 ⟨zxm (u32 (4 ^ (zio k m).toNat % gp)) (u32 (4 ^ k.toNat % gp)) m,u32 (((zio k m).toNat+(zxm (u32 (4 ^ (zio k m).toNat % gp)) (u32 (4 ^ k.toNat % gp)) m).toNat * k.toNat % gq) % gq)⟩
theorem z130 {k:UInt32} (h1:1≤k.toNat) (h2:k.toNat<gq) (m:List UInt8) (h:m.length≤9991) (hK:(zio k m).toNat<gq):zk2 k m=some (zxk k m,0):=by
 unfold zk2
 rw [z12r h1 h2 m h]
 simp only [bS]
 rw [if_neg (by simp),zrv h1 h2]
 simp only [bS]
 rw [zzz]
 simp only [bS]
 rw [zl6 _ _ _ h]
 simp only [bS]
 rw [z137 (z10l _ _ _) h2]
 simp only [bS]
 have hg:∀ n,n % gq<gp:=fun n=>Nat.lt_trans (Nat.mod_lt _ (by decide)) (by decide)
 rw [z161 hK (by rw [z2f (hg _)]; exact Nat.mod_lt _ (by decide)),z2f (hg _)]
 simp only [bS]
 unfold zxk
 simp
theorem z11y {n:Nat}:4 ^ (n % gq) % gp=4 ^ n % gp:=by
 have:=zn2 zuw (n / gq) (n % gq)
 rw [Nat.div_add_mod] at this
 exact this.symm
theorem z19w {k:UInt32} (h2:k.toNat<gq) (m:List UInt8) (hK:(zio k m).toNat<gq):zn5 (u32 (4 ^ k.toNat % gp)) m (zxk k m)=true:=by
 have hg:∀ n,n % gq<gp:=fun n=>Nat.lt_trans (Nat.mod_lt _ (by decide)) (by decide)
 have hp:∀ n,n % gp<gp:=fun n=>Nat.mod_lt _ (by decide)
 have hE:=z10l (u32 (4 ^ (zio k m).toNat % gp)) (u32 (4 ^ k.toNat % gp)) m
 have hr:sigR (u32 (4 ^ k.toNat % gp)) (zxk k m)=u32 (4 ^ (zio k m).toNat % gp):=by
  unfold sigR zxk
  generalize (zxm (u32 (4 ^ (zio k m).toNat % gp)) (u32 (4 ^ k.toNat % gp)) m).toNat=E at *
  generalize (zio k m).toNat=K at *
  generalize k.toNat=k at *
  rw [z2f (hg _),z2f (hp _),Nat.add_mod_mod,z11y,zi4,← Nat.mul_mod,← Nat.pow_add]
  have:K+E * k+k * (gq - E)=gq * k+K:=by
   have e:k * (gq - E)+k * E=k * gq:=by rw [← Nat.mul_add,Nat.sub_add_cancel (Nat.le_of_lt hE)]
   rw [Nat.mul_comm E k,Nat.mul_comm gq k,← e]; omega
  rw [this,zn2 zuw]
 unfold zn5
 rw [hr]
 have e1:zar (zxk k m).E=true:=decide_eq_true hE
 have e2:zar (zxk k m).S=true:=decide_eq_true (by
  show (u32 _).toNat<gq
  rw [z2f (hg _)]; exact Nat.mod_lt _ (by decide))
 rw [e1,e2]
 simp only [Bool.true_and]
 show (_==_)=true
 simp [zxk]
def au (o:z05) (y:UInt32):z05:=⟨y,o.Preds,o.Stamp,o.Act,⟨0,0⟩⟩
def zxl (k:UInt32) (o:z05):z05:=⟨u32 (4 ^ k.toNat % gp),o.Preds,o.Stamp,o.Act,zxk k (msg (au o (u32 (4 ^ k.toNat % gp))))⟩
theorem z12p {k:UInt32} (h1:1≤k.toNat) (h2:k.toNat<gq) (o:z05) (hs:o.Sig=⟨0,0⟩) (hc:z4x (au o (u32 (4 ^ k.toNat % gp)))=0) (hI:inI o.Act.Value.Num) (ht:o.Act.Value.Text.length≤9223372036854775807)
  (hK:(zio k (msg (au o (u32 (4 ^ k.toNat % gp))))).toNat<gq):zkf k o=some (zxl k o,0):=by
 have hp:=(z7w hc).1
 have hl:=zkl hc hI
 have hm:zbt (⟨u32 (4 ^ k.toNat % gp),o.Preds,o.Stamp,o.Act,⟨0,0⟩⟩:z05)=some (msg (au o (u32 (4 ^ k.toNat % gp))),0):=zkq (au o (u32 (4 ^ k.toNat % gp))) hc hI ht
 unfold zkf
 rw [zrv h1 h2]
 simp only [bS]
 rw [if_neg (by simp),zgh o.Preds (Nat.le_trans hp (by omega)),hs]
 simp only [bS]
 rw [hm]
 simp only [bS]
 rw [if_neg (by simp)]
 rw [z130 h1 h2 (msg (au o (u32 (4 ^ k.toNat % gp)))) (by omega) hK]
 rfl
theorem zxs (a b:z05) (h1:a.Author=b.Author) (h2:a.Preds=b.Preds) (h3:a.Stamp=b.Stamp) (h4:a.Act=b.Act):msg a=msg b:=by
 unfold msg zql
 rw [h1,h2,h3,h4]
theorem z11q {k:UInt32} (h2:k.toNat<gq) (o:z05) (hc:z4x (au o (u32 (4 ^ k.toNat % gp)))=0) (hK:(zio k (msg (au o (u32 (4 ^ k.toNat % gp))))).toNat<gq):zf1 (zxl k o)=0:=by
 have hs:=z19w h2 _ hK
 have hx:zar (zxl k o).Sig.E=true∧zar (zxl k o).Sig.S=true:=by
  have:=hs
  unfold zn5 at this
  simp only [Bool.and_eq_true] at this
  exact ⟨this.1,this.2.1⟩
 have hc2:z4x (zxl k o)=0:=by
  obtain ⟨a1,a2,a3⟩:=z7w hc
  unfold ze2 at a3
  simp only [Bool.and_eq_true] at a3
  unfold z4x
  rw [if_neg (by exact Nat.not_lt.2 a1),if_neg (by rw [show (zxl k o).Preds=(au o (u32 (4 ^ k.toNat % gp))).Preds from rfl,a2]; simp),if_pos]
  unfold ze2
  simp only [Bool.and_eq_true]
  exact ⟨a3.1,a3.2.1,a3.2.2.1,hx.1,hx.2⟩
 have hm:msg (zxl k o)=msg (au o (u32 (4 ^ k.toNat % gp))):=zxs _ _ rfl rfl rfl rfl
 have ha:(zxl k o).Author=u32 (4 ^ k.toNat % gp):=rfl
 have hg:(zxl k o).Sig=zxk k (msg (au o (u32 (4 ^ k.toNat % gp)))):=rfl
 unfold zf1
 rw [if_pos hc2,hm,ha,hg,if_pos hs]
end
section
open Go
@[irreducible] def idv (s:O8):V3:=wr (toV s)
theorem ztw {b:List UInt8} {s:O8} (h:zw9 b s=true):sha b=idv s:=by rw [idv]; exact z17n h
def wds (s:O8):List UInt32:=[s.1,s.2.1,s.2.2.1,s.2.2.2.1,s.2.2.2.2.1,s.2.2.2.2.2.1,s.2.2.2.2.2.2.1,s.2.2.2.2.2.2.2]
@[irreducible] def wrL (s:O8):List UInt8:=(List.range 32).map fun i=>(z4l ((wds s).getD (i / 4) 0) (24 - 8 * (i % 4))).toUInt8
theorem zw1 {α:Type} (n:Nat) (g:Nat→α):(Vector.ofFn (fun i:Fin n=>g i.val)).toList=(List.range n).map g:=by
 apply List.ext_getElem
 ·
  simp
 ·
  intro i h1 h2
  simp
theorem z178 (h:Vector UInt32 8):(wr h).toList=(List.range 32).map fun i=>(z4l (h.toList.getD (i / 4) 0) (24 - 8 * (i % 4))).toUInt8:=by
 rw [← zw1 32 (fun i=>(z4l (h.toList.getD (i / 4) 0) (24 - 8 * (i % 4))).toUInt8)]
 have:∀ i (hi:i / 4<8),h[i / 4]=h.toList.getD (i / 4) 0:=fun i hi=>by
  rw [List.getD_eq_getElem?_getD,List.getElem?_eq_getElem (by simpa using hi)]
  simp
 unfold wr
 exact congrArg (fun f=>(Vector.ofFn f).toList) (funext fun i=>by rw [this i.val (by omega)])
theorem zpl (s:O8):(idv s).toList=wrL s:=by
 rw [idv,z178,wrL]
 rfl
def dig:Nat→Nat→List UInt8
 | 0,_=>[]
 | f+1,n=>if n=0 then [] else UInt8.ofNat n::dig f (n / 256)
theorem z155:∀ (f n:Nat),n<256 ^ f→z3h n=dig f n
 | 0,n,h=>by
  have:n=0:=by simpa using h
  subst this; exact zds
 | f+1,n,h=>by
  rw [dig]
  by_cases hn:n=0
  ·
   rw [if_pos hn,hn,zds]
  ·
   rw [if_neg hn,zgz n hn,z155 f (n / 256) (by rw [Nat.pow_succ] at h; omega)]
def zxb (n:Nat):List UInt8:=if n≤247 then [UInt8.ofNat n] else UInt8.ofNat (247+(dig 8 n).length)::(dig 8 n).reverse
theorem zgi (n:Nat) (h:n<256 ^ 8):z20 n=zxb n:=by
 unfold z20 zxb
 rw [z155 8 n h]
def numl (l:List UInt8):Nat→Nat
 | 0=>0
 | i+1=>256 * numl l i+(l.getD i 0).toNat
theorem zue (d:V3):∀ i,i≤8→(zp1 d i).toNat=numl d.toList i
 | 0,_=>rfl
 | i+1,h=>by
  have ih:=zue d i (by omega)
  have hl:=ztx d i (by omega)
  have hy:=UInt8.toNat_lt (d.toList.getD i 0)
  have hp:256 ^ i≤256 ^ 7:=Nat.pow_le_pow_right (by omega) (by omega)
  have e7:(256:Nat) ^ 7=72057594037927936:=rfl
  rw [zp1,UInt64.toNat_add,UInt64.toNat_mul]
  have e1:((d.toList.getD i 0).toUInt64).toNat=(d.toList.getD i 0).toNat:=by simp
  have e2:(256:UInt64).toNat=256:=rfl
  rw [e1,e2,Nat.mod_eq_of_lt (a:=256 * (zp1 d i).toNat) (by omega),Nat.mod_eq_of_lt (by omega),ih]
  rfl
def num8 (s:O8):Nat:=numl (wrL s) 8
theorem zzm (s:O8):(zp1 (idv s) 8).toNat=num8 s:=by rw [zue _ 8 (Nat.le_refl _),zpl]; rfl
def zt9:List O8→Bool
 | a::b::l=>decide (nk (wrL a)<nk (wrL b))&&zt9 (b::l)
 | _=>true
theorem z14b (s:O8):kd (idv s)=nk (wrL s):=by unfold kd; rw [zpl]
theorem zp6:∀ l:List O8,z7n (l.map idv)=zt9 l
 | []=>by rw [List.map_nil,z7n,zt9] <;> simp
 | [a]=>by rw [List.map_cons,List.map_nil,z7n,zt9] <;> simp
 | a::b::l=>by
  have ih:=zp6 (b::l)
  simp only [List.map_cons] at ih ⊢
  rw [z7n,zt9,ih,zxe,z14b,z14b]
  generalize nk (wrL a)=x
  generalize nk (wrL b)=y
  by_cases h:x<y
  ·
   rw [if_pos h,decide_eq_true h]; rfl
  ·
   rw [if_neg h,decide_eq_false h]
   split <;> rfl
theorem zvw:∀ P:List O8,znz (P.map idv)=P.flatMap wrL
 | []=>rfl
 | a::l=>by
  have:=zvw l
  unfold znz at this ⊢
  rw [List.map_cons,List.flatMap_cons,List.flatMap_cons,this,zpl]
theorem of32 {n:Nat} (h:n<gq):(UInt32.ofNat n).toNat=n:=z2f (Nat.lt_trans h (by decide))
end
section
open Go
def zld (y:UInt32) (st:UInt64) (P:List O8) (a:z08) (sg:z0a):z05:=⟨y,P.map idv,st,a,sg⟩
def keyK (k:List UInt8):List UInt8:=zxb k.length++k
def valK (v:z03):List UInt8:=v.Kind::(if v.Kind=1 then zxb (zig v.Num) else if v.Kind=2 then be8 v.Bits else zxb v.Text.length++v.Text)
def actK (a:z08):List UInt8:=if a.Kind=1 then [a.Kind] else if a.Kind=4 then ([a.Kind]++keyK a.Key)++valK a.Value else [a.Kind]++keyK a.Key
def msgA (y st:Nat) (P:List O8) (a:z08):List UInt8:=[111]++(zxb y++((zxb P.length++P.flatMap wrL)++(zxb st++actK a)))
theorem zvb {a:z08} (h:zhd a=true) (ht:a.Value.Text.length≤100):a.Key.length≤20:=by
 unfold zhd at h
 split at h
 ·
  simp at h; rw [h.1]; simp
 ·
  split at h
  ·
   rw [Bool.and_eq_true] at h
   have:=h.1; unfold zec at this; simp at this; exact this.2.1
  ·
   split at h
   ·
    rw [Bool.and_eq_true] at h
    have:=h.1; unfold zec at this; simp at this; exact this.2.1
   ·
    cases h
theorem z10b (y:UInt32) (st:UInt64) (P:List O8) (a:z08) (sg:z0a) (hP:P.length≤4) (hk:a.Key.length≤100) (ht:a.Value.Text.length≤100) (hI:inI a.Value.Num):msg (zld y st P a sg)=msgA y.toNat st.toNat P a:=by
 have hy:=UInt32.toNat_lt y
 have hs:=UInt64.toNat_lt st
 have hz:=zvj hI
 have e8:(256:Nat) ^ 8=18446744073709551616:=rfl
 have hh:zql (zld y st P a sg)=[111]++(zxb y.toNat++((zxb P.length++P.flatMap wrL)++(zxb st.toNat++[a.Kind]))):=by
  unfold zql
  show [111]++(z20 y.toNat++((z20 (P.map idv).length++znz (P.map idv))++(z20 st.toNat++[a.Kind])))=_
  rw [List.length_map,zvw,zgi _ (by omega),zgi P.length (by omega),zgi st.toNat (by omega)]
 have hkk:keyB a=keyK a.Key:=by unfold keyB keyK; rw [zgi _ (by omega)]
 have hv:encV a.Value=valK a.Value:=by
  unfold encV valK
  rw [zgi _ (by omega),zgi _ (by omega)]
 unfold msg msgA actK
 show (if a.Kind=1 then zql (zld y st P a sg) else if a.Kind=4 then (zql (zld y st P a sg)++keyB a)++encV a.Value else zql (zld y st P a sg)++keyB a)=_
 rw [hh,hkk,hv]
 split
 ·
  rfl
 ·
  split <;> simp [List.append_assoc]
def zni (k y K r E S st:Nat) (P:List O8) (a:z08) (h1 h2 h3:O8):Bool :=
 zhd a&&(decide (-1000000≤a.Value.Num)&&(decide (a.Value.Num≤1000000)&&(decide (a.Value.Text.length≤100)&&(
 decide (1≤k)&&(decide (k<gq)&&(decide (st≤1000000000000)&&(decide (P.length≤4)&&(zt9 P&&(pmod 30 4 k gp==y &&
 (zw9 (([110]++four (UInt32.ofNat k))++msgA y st P a) h1&&(num8 h1 % 500000002+1==K&&(pmod 30 4 K gp==r &&
 (zw9 ((([99]++four (UInt32.ofNat r))++four (UInt32.ofNat y))++msgA y st P a) h2&&(num8 h2 % gq==E&&((K+E * k % gq) % gq==S &&
 zw9 (msgA y st P a++(zxb E++zxb S)) h3)))))))))))))))
def askA (st:Nat) (P:List O8) (a:z08):z05:=⟨0,P.map idv,UInt64.ofNat st,a,⟨0,0⟩⟩
theorem zts {k y K r E S st:Nat} {P:List O8} {a:z08} {h1 h2 h3:O8} (h:zni k y K r E S st P a h1 h2 h3=true) :
  (zhd a=true∧inI a.Value.Num∧a.Value.Text.length≤100∧P.length≤4) ∧
  1≤(UInt32.ofNat k).toNat∧(UInt32.ofNat k).toNat<gq∧z4x (au (askA st P a) (u32 (4 ^ (UInt32.ofNat k).toNat % gp)))=0∧(zio (UInt32.ofNat k) (msg (au (askA st P a) (u32 (4 ^ (UInt32.ofNat k).toNat % gp))))).toNat<gq ∧
  zxl (UInt32.ofNat k) (askA st P a)=zld (u32 y) (UInt64.ofNat st) P a ⟨u32 E,u32 S⟩∧sha (zg1 (zld (u32 y) (UInt64.ofNat st) P a ⟨u32 E,u32 S⟩))=idv h3:=by
 unfold zni at h
 simp only [Bool.and_eq_true,decide_eq_true_eq,beq_iff_eq] at h
 obtain ⟨hact,hn1,hn2,htx,k1,k2,st1,p4,pi,hy,s1,hK,hr,s2,hE,hS,s3⟩:=h
 have hI:inI a.Value.Num:=by unfold inI; omega
 have hky:=zvb hact htx
 have g1:∀ n,n % gp<gp:=fun n=>Nat.mod_lt _ (by decide)
 have g2:∀ n,n % gq<gq:=fun n=>Nat.mod_lt _ (by decide)
 have q30:gq<2 ^ 30:=by decide
 rw [zq5 30 4 k gp (by omega)] at hy
 have hKq:K<gq:=by
  have:=Nat.mod_lt (num8 h1) (show 0<500000002 by decide)
  show K<500000003
  omega
 rw [zq5 30 4 K gp (by omega)] at hr
 have yl:y<gp:=by rw [← hy]; exact g1 _
 have rl:r<gp:=by rw [← hr]; exact g1 _
 have El:E<gq:=by rw [← hE]; exact g2 _
 have Sl:S<gq:=by rw [← hS]; exact g2 _
 have ek:=of32 k2
 have est:(UInt64.ofNat st).toNat=st:=by rw [UInt64.toNat_ofNat',Nat.mod_eq_of_lt (by omega)]
 have ey:u32 (4 ^ (UInt32.ofNat k).toNat % gp)=u32 y:=by rw [ek,hy]
 have eau:au (askA st P a) (u32 (4 ^ (UInt32.ofNat k).toNat % gp))=zld (u32 y) (UInt64.ofNat st) P a ⟨0,0⟩:=by rw [ey]; rfl
 have em:msg (au (askA st P a) (u32 (4 ^ (UInt32.ofNat k).toNat % gp)))=msgA y st P a:=by rw [eau,z10b _ _ _ _ _ p4 (Nat.le_trans hky (by omega)) htx hI,z2f yl,est]
 have eK:zio (UInt32.ofNat k) (msgA y st P a)=u32 K:=by
  apply UInt32.toNat_inj.1
  unfold zio
  rw [ztw s1,z2f (Nat.lt_trans hKq (by decide)),UInt32.toNat_add,UInt64.toNat_toUInt32,UInt64.toNat_mod]
  rw [zzm h1, show (500000002:UInt64).toNat=500000002 from rfl, show (1:UInt32).toNat=1 from rfl]
  have:=Nat.mod_lt (num8 h1) (show 0<500000002 by decide)
  rw [Nat.mod_eq_of_lt (a:=num8 h1 % 500000002) (by omega),Nat.mod_eq_of_lt (by omega),hK]
 have eKn:(u32 K).toNat=K:=z2f (Nat.lt_trans hKq (by decide))
 have eE:zxm (u32 r) (u32 y) (msgA y st P a)=u32 E:=by
  apply UInt32.toNat_inj.1
  unfold zxm
  have:sha ((([99]++four (u32 r))++four (u32 y))++msgA y st P a)=idv h2:=ztw s2
  rw [this,z2f (Nat.lt_trans El (by decide)),UInt64.toNat_toUInt32,UInt64.toNat_mod]
  rw [zzm h2, show (500000003:UInt64).toNat=gq from rfl,hE,Nat.mod_eq_of_lt (by have:E<500000003:=El; omega)]
 have eS:zxk (UInt32.ofNat k) (msgA y st P a)=⟨u32 E,u32 S⟩:=by
  unfold zxk
  rw [eK,eKn,hr,ey,eE,z2f (Nat.lt_trans El (by decide)),ek,hS]
 have eO:zxl (UInt32.ofNat k) (askA st P a)=zld (u32 y) (UInt64.ofNat st) P a ⟨u32 E,u32 S⟩:=by
  unfold zxl
  rw [em,eS,ey]
  rfl
 have hc:z4x (zld (u32 y) (UInt64.ofNat st) P a ⟨0,0⟩)=0:=by
  unfold z4x
  rw [if_neg (by show ¬ 4<(P.map idv).length; rw [List.length_map]; omega),if_neg (by show ¬ z7n (P.map idv)=false; rw [zp6,pi]; simp),if_pos]
  unfold ze2
  have hg:inG (u32 y).toNat:=by rw [z2f yl,← hy]; exact zpn zuw k
  rw [decide_eq_true (show inG (zld (u32 y) (UInt64.ofNat st) P a ⟨0,0⟩).Author.toNat from hg)]
  have hst:decide (1000000000000<(zld (u32 y) (UInt64.ofNat st) P a ⟨0,0⟩).Stamp)=false:=decide_eq_false (by
   show ¬ 1000000000000<UInt64.ofNat st
   rw [UInt64.lt_iff_toNat_lt,est, show (1000000000000:UInt64).toNat=1000000000000 from rfl]; omega)
  rw [hst]
  show (true&&(!false&&(zhd a&&(zar 0&&zar 0))))=true
  rw [hact]; rfl
 refine ⟨⟨hact,hI,htx,p4⟩, by rw [ek]; exact k1, by rw [ek]; exact k2, by rw [eau]; exact hc, by rw [em,eK,eKn]; exact hKq,eO,?_⟩
 unfold zg1
 rw [z10b _ _ _ _ _ p4 (Nat.le_trans hky (by omega)) htx hI,z2f yl,est]
 show sha (msgA y st P a++(z20 (u32 E).toNat++z20 (u32 S).toNat))=_
 have e8:(256:Nat) ^ 8=18446744073709551616:=rfl
 have El':E<500000003:=El
 have Sl':S<500000003:=Sl
 rw [z2f (Nat.lt_trans El (by decide)),z2f (Nat.lt_trans Sl (by decide)),zgi E (by omega),zgi S (by omega)]
 exact ztw s3
theorem z15v {k y K r E S st:Nat} {P:List O8} {a:z08} {h1 h2 h3:O8} (h:zni k y K r E S st P a h1 h2 h3=true):zf1 (zld (u32 y) (UInt64.ofNat st) P a ⟨u32 E,u32 S⟩)=0:=by
 obtain ⟨a0,a1,a2,a3,a4,a5,a6⟩:=zts h
 have:=z11q a2 (askA st P a) a3 a4
 rw [a5] at this
 exact this
theorem z14i {k y K r E S st:Nat} {P:List O8} {a:z08} {h1 h2 h3:O8} (h:zni k y K r E S st P a h1 h2 h3=true) :
  zkf (UInt32.ofNat k) (askA st P a)=some (zld (u32 y) (UInt64.ofNat st) P a ⟨u32 E,u32 S⟩,0)∧zf1 (zld (u32 y) (UInt64.ofNat st) P a ⟨u32 E,u32 S⟩)=0∧sha (zg1 (zld (u32 y) (UInt64.ofNat st) P a ⟨u32 E,u32 S⟩))=idv h3:=by
 obtain ⟨a0,a1,a2,a3,a4,a5,a6⟩:=zts h
 have:=z12p a1 a2 (askA st P a) rfl a3 a0.2.1 (Nat.le_trans a0.2.2.1 (by omega)) a4
 rw [a5] at this
 exact ⟨this,z15v h,a6⟩
end
section
open Go
set_option maxRecDepth 100000
def jA:O8:=(1294143477,3975288409,3380291633,1307637063,2795651328,2928963845,411773720,2599519767)
def jB:O8:=(4070957495,1238851194,3006791305,3668175944,650406923,985998243,636907915,2127284687)
def jC:O8:=(3154915704,380657572,2392697411,4006790293,310211487,3996731630,1763161259,1545847034)
def jD:O8:=(214237752,562617934,2925339097,2404143993,2653642058,1067609604,2030321912,3390539454)
def jE:O8:=(996896087,4229359918,4246052097,3585165131,2118121504,1573757983,2369888462,1325175427)
theorem runA:zni 3 64 95506305 335829907 185496409 151995529 1 [] (⟨2,[97],⟨0,0,0,[]⟩⟩:z08) (112605313,1339207200,1783641366,3320412430,1947785253,487152164,375169229,140746137) (4265001831,3568637083,1604486293,949128176,2289321985,2236400609,176333793,3900060213) jA=true:=by decide +kernel
theorem runB:zni 3 64 141788255 646516948 492454487 119151707 2 [] (⟨3,[97],⟨0,0,0,[]⟩⟩:z08) (3882237469,2177306030,1006850798,86203303,1336156971,2313066185,68934969,2115468275) (4130172674,1263323719,3433672759,611055768,1316858700,2969885039,1485087103,1088217163) jB=true:=by decide +kernel
theorem runC:zni 3 64 492376741 627279180 392409973 169606651 2 [jA] (⟨3,[97],⟨0,0,0,[]⟩⟩:z08) (925417426,72426898,4076856283,2310706400,840437951,872380244,3668097350,2197053560) (411624535,2943686061,3857830700,274846134,1919296119,1903840105,2951769737,2272992105) jC=true:=by decide +kernel
theorem runD:zni 3 64 42772635 337853101 233785741 244129855 7 [] (⟨4,[114],⟨1,1,0,[]⟩⟩:z08) (3135641637,1021782002,1207780359,1966295779,589288168,2356645,4214805611,206521163) (806112351,60469826,3431872122,4209747457,1453393459,2878547669,2922712136,3179314247) jD=true:=by decide +kernel
theorem runE:zni 3 64 179289722 23439914 321420666 143551714 7 [] (⟨4,[114],⟨1,2,0,[]⟩⟩:z08) (2467158177,2290764905,3075396574,1684983312,2311403275,4110823011,1384208907,599205290) (2698625130,2350711846,114362680,1586131210,1925828534,2541578859,2338054721,1388965634) jE=true:=by decide +kernel
def xA:z05:=zld (u32 64) (UInt64.ofNat 1) [] (⟨2,[97],⟨0,0,0,[]⟩⟩:z08) ⟨u32 185496409,u32 151995529⟩
def xB:z05:=zld (u32 64) (UInt64.ofNat 2) [] (⟨3,[97],⟨0,0,0,[]⟩⟩:z08) ⟨u32 492454487,u32 119151707⟩
def xC:z05:=zld (u32 64) (UInt64.ofNat 2) [jA] (⟨3,[97],⟨0,0,0,[]⟩⟩:z08) ⟨u32 392409973,u32 169606651⟩
def xD:z05:=zld (u32 64) (UInt64.ofNat 7) [] (⟨4,[114],⟨1,1,0,[]⟩⟩:z08) ⟨u32 233785741,u32 244129855⟩
def xE:z05:=zld (u32 64) (UInt64.ofNat 7) [] (⟨4,[114],⟨1,2,0,[]⟩⟩:z08) ⟨u32 321420666,u32 143551714⟩
end
section
open Go
variable {g:z00} {x y z:ID} {o q:z05} {key:Str}
theorem z12j (l:List ID) (h:l.length≤1):z7n l=true:=by
 rw [za0]
 match l,h with
 | [],_=>simp
 | [z],_=>simp
theorem z17q {y:UInt32} {st:UInt64} {P:List O8} {a:z08} {sg:z0a} (hp:P.length≤4) (hk:a.Key.length≤100) (ht:a.Value.Text.length≤100) (hI:inI a.Value.Num):zdg (zld y st P a sg):=by
 have h4:(P.map idv).length≤4:=by rw [List.length_map]; exact hp
 refine ⟨trivial,⟨fun x _ y _=>trivial,Nat.le_trans h4 (by omega)⟩,trivial,?_,?_⟩
 ·
  refine ⟨trivial,?_,⟨trivial,?_,trivial,?_,trivial⟩,trivial⟩
  ·
   show a.Key.length≤_; omega
  ·
   exact hI
  ·
   show a.Value.Text.length≤_; omega
 ·
  exact ⟨⟨trivial,trivial,trivial⟩,trivial⟩
theorem zjm {k y K r E S st:Nat} {P:List O8} {a:z08} {h1 h2 h3:O8} (h:zni k y K r E S st P a h1 h2 h3=true) (hP:P.length≤1) (no:idv h3∉g.IDs) (ins:∀ p∈P.map idv,p∈g.IDs):zee g (idv h3) (zld (u32 y) (UInt64.ofNat st) P a ⟨u32 E,u32 S⟩):=by
 have hs:=zts h
 have a1:=hs.1.1; have a2:=hs.1.2.1; have a3:=hs.1.2.2.1; have a4:=hs.1.2.2.2
 have ho:=z14i h
 have b1:=ho.2.1; have b2:=ho.2.2
 clear hs ho h
 have hk:=zvb a1 a3
 have hl:(P.map idv).length≤1:=by rw [List.length_map]; exact hP
 have hi:z7n (P.map idv)=true:=z12j _ hl
 generalize u32 y=y' at *
 generalize UInt64.ofNat st=st' at *
 generalize (⟨u32 E,u32 S⟩:z0a)=sg at *
 exact ⟨⟨Nat.le_trans hl (by omega),Nat.le_trans hk (by omega),a3⟩,⟨b1,b2,Nat.le_trans hl (by omega),hi⟩,z17q a4 (by omega) a3 a2,no,ins⟩
theorem kd36:kd (idv jD)<kd (idv jE)∧kd (idv jE)<kd (idv jA)∧kd (idv jA)<kd (idv jC)∧kd (idv jC)<kd (idv jB):=by
 have h:=zp6 [jD,jE,jA,jC,jB]
 rw [show zt9 [jD,jE,jA,jC,jB]=true by decide +kernel] at h
 have h:z7n [idv jD,idv jE,idv jA,idv jC,idv jB]=true:=h
 exact ⟨zap h (i:=0) (j:=1) (by simp) (by simp) (by omega),zap h (i:=1) (j:=2) (by simp) (by simp) (by omega),zap h (i:=2) (j:=3) (by simp) (by simp) (by omega),zap h (i:=3) (j:=4) (by simp) (by simp) (by omega)⟩
theorem ne36:idv jB≠idv jA∧idv jC≠idv jA∧idv jE≠idv jD:=by
 obtain ⟨h1,h2,h3,h4⟩:=kd36
 exact ⟨fun e=>by rw [e] at h4; omega, fun e=>by rw [e] at h3; omega, fun e=>by rw [e] at h1; omega⟩
abbrev gA:z00:=zd0 ⟨[],[]⟩ (idv jA,xA)
abbrev gB:z00:=zd0 gA (idv jB,xB)
abbrev gC:z00:=zd0 gA (idv jC,xC)
abbrev gD:z00:=zd0 ⟨[],[]⟩ (idv jD,xD)
abbrev gE:z00:=zd0 gD (idv jE,xE)
theorem nFA:zee (⟨[],[]⟩:z00) (idv jA) xA:=zjm runA (by simp) (by simp) (by simp)
theorem nFD:zee (⟨[],[]⟩:z00) (idv jD) xD:=zjm runD (by simp) (by simp) (by simp)
theorem RA:Rp gA:=Rp.nil.add (by simp) nFA
theorem RD:Rp gD:=Rp.nil.add (by simp) nFD
theorem idA {x:ID}:x∈gA.IDs↔x=idv jA:=by
 rw [ztu Rp.nil.fit]
 exact ⟨fun h=>h.elim id (fun h=>by cases h),.inl⟩
theorem idD {x:ID}:x∈gD.IDs↔x=idv jD:=by
 rw [ztu Rp.nil.fit]
 exact ⟨fun h=>h.elim id (fun h=>by cases h),.inl⟩
theorem nFB:zee gA (idv jB) xB:=zjm runB (by simp) (fun h=>ne36.1 (idA.1 h)) (by simp)
theorem nFC:zee gA (idv jC) xC:=zjm runC (by simp) (fun h=>ne36.2.1 (idA.1 h)) (fun p hp=>by
 rw [List.map_cons,List.map_nil,List.mem_singleton] at hp
 exact idA.2 hp)
theorem nFE:zee gD (idv jE) xE:=zjm runE (by simp) (fun h=>ne36.2.2 (idD.1 h)) (by simp)
theorem lnA:gA.Ops.length=1:=z10i Rp.nil.fit nFA
theorem lnD:gD.Ops.length=1:=z10i Rp.nil.fit nFD
theorem RB:Rp gB:=RA.add (by rw [lnA]; omega) nFB
theorem RC:Rp gC:=RA.add (by rw [lnA]; omega) nFC
theorem RE:Rp gE:=RD.add (by rw [lnD]; omega) nFE
theorem wasA {x:ID} {o:z05} (h:z21 gA x=some o):x=idv jA∧o=xA:=by
 rcases zbf Rp.nil.fit nFA h with h | ⟨-,h⟩
 ·
  exact h
 ·
  have:=(zc1 h).1; cases this
theorem wasD {x:ID} {o:z05} (h:z21 gD x=some o):x=idv jD∧o=xD:=by
 rcases zbf Rp.nil.fit nFD h with h | ⟨-,h⟩
 ·
  exact h
 ·
  have:=(zc1 h).1; cases this
theorem in_A:InS gA [97]:=z19d Rp.nil (by simp) nFA rfl rfl
theorem in_B:InS gB [97]:=by
 refine ⟨idv jA,xA,zjp RA.fit nFB (zk4 Rp.nil.fit nFA),rfl,rfl,?_⟩
 rintro ⟨y,q,h1,h2,h3,h4⟩
 obtain ⟨o',p,h5,h6⟩:=z11k h4
 rcases zbf RA.fit nFB h5 with ⟨-,rfl⟩ | ⟨-,h⟩
 ·
  have h6:p∈([]:List ID):=h6
  cases h6
 ·
  have:=(wasA h).2; subst this
  have h6:p∈([]:List ID):=h6
  cases h6
theorem in_C:¬ InS gC [97]:=z169 RA nFC rfl rfl fun z q h=>by
 have:=(wasA h).1; subst this
 exact .one (zk4 RA.fit nFC) (show idv jA∈[idv jA] by simp)
theorem z18t (key:Str):¬ InS gD key:=by
 rintro ⟨y,q,h1,h2,-⟩
 have:=(wasD h1).2; subst this
 cases h2
theorem z19s (key:Str):¬ InS gE key:=fun h=>z18t key ((z16b RD nFE (by rintro ⟨h,-⟩; cases h) (by rintro ⟨h,-⟩; cases h)).1 h)
theorem no4A:∀ x o,z21 gA x=some o→o.Act.Kind≠4:=fun x o h=>by rw [(wasA h).2]; decide
theorem no4B:∀ x o,z21 gB x=some o→o.Act.Kind≠4:=fun x o h=>by
 rcases zbf RA.fit nFB h with ⟨-,rfl⟩ | ⟨-,h⟩
 ·
  decide
 ·
  exact no4A x o h
theorem no4C:∀ x o,z21 gC x=some o→o.Act.Kind≠4:=fun x o h=>by
 rcases zbf RA.fit nFC h with ⟨-,rfl⟩ | ⟨-,h⟩
 ·
  decide
 ·
  exact no4A x o h
theorem z1al:ValS gE [114] ⟨1,2,0,[]⟩:=by
 refine .inl ⟨idv jE,xE,⟨⟨zk4 RD.fit nFE,rfl,rfl⟩, fun y q hs=>?_⟩,rfl⟩
 rcases zbf RD.fit nFE hs.1 with ⟨rfl,rfl⟩ | ⟨-,h⟩
 ·
  exact .inr ⟨rfl,Nat.le_refl _⟩
 ·
  obtain ⟨rfl,rfl⟩:=wasD h
  exact .inr ⟨rfl,Nat.le_of_lt kd36.1⟩
theorem zuf (R:Rp g) {key:Str} {i:Bool} {v:z03} (hi:i=true↔InS g key) (hv:ValS g key v):z3o g key=some (i,v,0):=by
 obtain ⟨i',v',h1,-,h2,h3⟩:=zzq R.good R.fit R.chk.1 key
 rw [h1,z127 R.fit h3 hv]
 have:i'=i:=by rw [Bool.eq_iff_iff,h2,hi]
 rw [this]
theorem z1a7:z3o gA [97]=some (true,⟨0,0,0,[]⟩,0):=zuf RA (by simp [in_A]) (.inr ⟨fun x o h=>no4A x o h.1 h.2.1,rfl⟩)
theorem z1ag:z3o gB [97]=some (true,⟨0,0,0,[]⟩,0):=zuf RB (by simp [in_B]) (.inr ⟨fun x o h=>no4B x o h.1 h.2.1,rfl⟩)
theorem z19z:z3o gC [97]=some (false,⟨0,0,0,[]⟩,0):=zuf RC (by simp [in_C]) (.inr ⟨fun x o h=>no4C x o h.1 h.2.1,rfl⟩)
theorem z1at:z3o gE [114]=some (false,⟨1,2,0,[]⟩,0):=zuf RE (by simp [z19s]) z1al
theorem z18x:z89 gA=some ([[97]],0):=by
 obtain ⟨l,h1,-,h2,-,h3⟩:=ztf RA.fit.len RA.chk.1
 have:l=[[97]]:=ziq _ _ h2 (List.pairwise_singleton _ _) fun k=>by
  rw [h3,List.mem_singleton]
  have hl:=lnA
  constructor
  ·
   rintro ⟨j,hj,-,h4,h5⟩
   have:=z7i RA.fit hj
   rw [(wasA this).2] at h5
   exact h5.symm
  ·
   rintro rfl
   have h0:0<gA.Ops.length:=by omega
   have:=z7i RA.fit h0
   have e:=(wasA this).2
   exact ⟨0,h0,h0, by rw [e]; decide, by rw [e]; rfl⟩
 rw [h1,this]
end
section
open Go
variable {g a b:z00} {n m:Nat}
theorem z18k {o:z05} (h:zdg o):inI o.Act.Value.Num∧o.Act.Value.Text.length≤9223372036854775807:=⟨h.2.2.2.1.2.2.1.2.1,h.2.2.2.1.2.2.1.2.2.2.1⟩
theorem zs5 (F:Fit g n) (hn:n≤1000) (l:List ID) (hl:l.length≤1000):z1s l g=some (l.any fun x=>!decide (x∈g.IDs)):=by
 have h1:=F.len; have h2:=F.ids
 have hcl:∀ x,zjj x g=some (!decide (x∈g.IDs)):=fun x=>by
  obtain ⟨k,k1,-⟩:=zi6 g (by omega) F.ri x
  unfold zjj
  rw [k1]
  simp only [bS]
 have main:=zbj (F:=z1d l g) (fun s=>∃ i:Nat,s=(i:Int)∧i≤l.length∧∀ k (h:k<l.length),k<i→l[k]∈g.IDs) (fun s=>l.length - s.toNat)
  (fun b:Sum Int Unit=>(b=.inr ()∧∀ x∈l,x∈g.IDs)∨∃ i:Nat,b=.inl (i:Int)∧∃ x∈l,x∉g.IDs)
  (fun s hs=>by
   obtain ⟨i,rfl,h1,h2⟩:=hs
   by_cases hi:i<l.length
   ·
    have hF:z1d l g (i:Int)=if !decide (l[i]∈g.IDs) then some (.inl (.inl (i:Int))) else some (.inr ((i+1:Nat):Int)):=by
     unfold z1d
     rw [if_pos (by simpa using hi),z09 hi,z0g (by omega)]
     simp only [bS]
     rw [hcl]
     simp only [bS]
    by_cases hc:l[i]∈g.IDs
    ·
     rw [decide_eq_true hc,if_neg (by simp)] at hF
     refine .inr ⟨_,hF,⟨i+1,rfl,hi, fun k hk hki=>?_⟩, by simp; omega⟩
     by_cases hk':k=i
     ·
      subst hk'; exact hc
     ·
      exact h2 k hk (by omega)
    ·
     rw [decide_eq_false hc,if_pos (by simp)] at hF
     exact .inl ⟨_,hF,.inr ⟨i,rfl,l[i],List.getElem_mem hi,hc⟩⟩
   ·
    refine .inl ⟨.inr (),?_,.inl ⟨rfl, fun x hx=>?_⟩⟩
    ·
     unfold z1d
     rw [if_neg (by simpa using hi)]
    ·
     obtain ⟨k,hk,rfl⟩:=List.getElem_of_mem hx
     exact h2 k hk (by omega))
  0 ⟨0,rfl,Nat.zero_le _, fun k _ h=>by omega⟩
 obtain ⟨r,r1,r2⟩:=main
 unfold z1s z3d
 rw [r1]
 rcases r2 with ⟨rfl,h⟩ | ⟨i,rfl,x,hx,hxn⟩
 ·
  simp only [zon,bS]
  have:(l.any fun x=>!decide (x∈g.IDs))=false:=by
   rw [List.any_eq_false]; intro x hx; simp [h x hx]
  rw [this]; rfl
 ·
  simp only [or_l,bS]
  have:(l.any fun x=>!decide (x∈g.IDs))=true:=by
   rw [List.any_eq_true]; exact ⟨x,hx, by simp [hxn]⟩
  rw [this]; simp
theorem z12z (F:Fit g n) (hn:n≤59) (hc:z4g g=some 0) {p:ID × z05} (hw:zdg p.2) (hp:p.2.Preds.length≤20) (h1:zf1 p.2=0) (h2:sha (zg1 p.2)=p.1) (hx:p.1∉g.IDs) (hq:∀ q∈p.2.Preds,q∈g.IDs):zn6 g p.2=some (zd0 g p,p.1,0):=by
 obtain ⟨w1,w2⟩:=z18k hw
 have hl:=F.len
 have hany:(p.2.Preds.any fun x=>!decide (x∈g.IDs))=false:=by
  rw [List.any_eq_false]; intro x hx; simp [hq x hx]
 unfold zn6
 rw [hc]
 simp only [bS]
 rw [if_pos (by simp),zmz _ w1 w2,h1]
 simp only [bS]
 rw [if_neg (by simp),z101 _ w1 w2,if_pos (zbo h1),h2]
 simp only [bS]
 rw [z16v F (by omega) p hp,decide_eq_false hx]
 simp only [bS]
 rw [if_neg (by simp),zs5 F (by omega) _ (by omega),hany]
 simp only [bS]
 rw [if_neg (by simp),if_neg (by simp; omega)]
end
section
open Go
variable {g:z00} {x:ID} {o:z05}
theorem z1aa (R:Rp g) (hl:g.Ops.length≤59) (N:zee g x o):zn6 g o=some (zd0 g (x,o),x,0) :=
 z12z (p:=(x,o)) (n:=g.Ops.length) ⟨R.fit.ids,Nat.le_refl _,R.fit.ri,R.fit.op⟩ hl R.chk.1 N.wf N.sz.1 N.ok.1 N.ok.2.1 N.no N.ins
theorem zs9 (R:Rp g) (hl:g.Ops.length≤59) {y K r E S st:Nat} {P:List O8} {a:z08} {h1 h2 h3:O8} (h:zni 3 y K r E S st P a h1 h2 h3=true) (N:zee g (idv h3) (zld (u32 y) (UInt64.ofNat st) P a ⟨u32 E,u32 S⟩)) :
  z2l g a (UInt64.ofNat st) (P.map idv)=some (zd0 g (idv h3,zld (u32 y) (UInt64.ofNat st) P a ⟨u32 E,u32 S⟩),idv h3,true):=by
 have hs:zkf 3 (⟨0,P.map idv,UInt64.ofNat st,a,(⟨0,0⟩:z0a)⟩:z05)=some (zld (u32 y) (UInt64.ofNat st) P a ⟨u32 E,u32 S⟩,0):=(z14i h).1
 unfold z2l
 rw [hs]
 simp only [bS]
 rw [z1aa R hl N]
 simp only [bS]
 rw [if_pos (by simp)]
 rfl
theorem mA:z2l (⟨[],[]⟩:z00) (⟨2,([97]:List UInt8),(⟨0,0,0,[]⟩:z03)⟩:z08) 1 []=some (gA,idv jA,true):=by
 have h:=zs9 Rp.nil (by simp) runA nFA
 exact h
theorem mB:z2l gA (⟨3,([97]:List UInt8),(⟨0,0,0,[]⟩:z03)⟩:z08) 2 []=some (gB,idv jB,true):=by
 have h:=zs9 RA (by rw [lnA]; omega) runB nFB
 exact h
theorem mC:z2l gA (⟨3,([97]:List UInt8),(⟨0,0,0,[]⟩:z03)⟩:z08) 2 [idv jA]=some (gC,idv jC,true):=by
 have h:=zs9 RA (by rw [lnA]; omega) runC nFC
 exact h
theorem mD:z2l (⟨[],[]⟩:z00) (⟨4,([114]:List UInt8),(⟨1,1,0,[]⟩:z03)⟩:z08) 7 []=some (gD,idv jD,true):=by
 have h:=zs9 Rp.nil (by simp) runD nFD
 exact h
theorem mE:z2l gD (⟨4,([114]:List UInt8),(⟨1,2,0,[]⟩:z03)⟩:z08) 7 []=some (gE,idv jE,true):=by
 have h:=zs9 RD (by rw [lnD]; omega) runE nFE
 exact h
theorem zh3 {g:z00} {k:Str} {i:Bool} {v:z03} (h:z3o g k=some (i,v,0)):z4d g k i v=some true:=by
 unfold z4d
 rw [h]
 simp [bS]
theorem zrj:zaa=some true:=by
 have n1:∀ n,z7r n=some (⟨1,n,0,[]⟩:z03):=fun n=>rfl
 have bf:z9p (idv jD) (idv jE)=some true:=by
  unfold z9p
  rw [zpo,if_pos kd36.1]
  rfl
 unfold zaa
 rw [mA]
 simp only [bS]
 rw [mB]
 simp only [bS]
 rw [mC]
 simp only [bS]
 rw [z18x]
 simp only [bS]
 rw [n1 1,n1 2]
 simp only [bS]
 rw [mD]
 simp only [bS]
 rw [mE]
 simp only [bS]
 rw [bf]
 simp only [bS,if_true]
 rw [if_pos (by simp),zqe _ (by simp)]
 simp only [bS,if_true]
 rw [zh3 z1a7]
 simp only [bS,if_true]
 rw [zh3 z1ag]
 simp only [bS,if_true]
 rw [zh3 z19z]
 simp only [bS,if_true]
 rw [n1 2]
 simp only [bS]
 rw [zh3 z1at]
 rfl
end
section
open Go
variable {g a b:z00} {l k:List z00} {mk:Nat→Bool}
theorem zk6 {xs:List ID} (h:z147 g xs mk):∀ i,mk i=true→∀ p∈z2b g i,mk p=true:=fun i hi p hp=>(h p).2 (.step ((h i).1 hi) hp)
theorem z15o {P:Nat→List Nat} {S T:List Nat} {i:Nat}:Rch P (S++T) i↔Rch P S i∨Rch P T i:=by
 constructor
 ·
  intro h
  induction h with
  | base hm=>exact (List.mem_append.1 hm).imp .base .base
  | step _ hp ih=>exact ih.imp (fun h=>.step h hp) fun h=>.step h hp
 ·
  rintro (h | h)
  ·
   exact Rch.mono (fun x hx=>List.mem_append_left _ hx) h
  ·
   exact Rch.mono (fun x hx=>List.mem_append_right _ hx) h
theorem zxw (R:Rps l) {x:ID} {o:z05}:zd2 l x=some o↔∃ h∈l,z21 h x=some o :=
 ⟨fun h=>zbs h, fun ⟨_,h1,h2⟩=>zj7 R.ag h1 h2⟩
theorem z172 {α:Type} {p q:Option α} (h:∀ o,p=some o↔q=some o):p=q:=by
 cases p with
 | none =>
  cases q with
  | none=>rfl
  | some o=>exact absurd ((h o).2 rfl) (by simp)
 | some o=>exact ((h o).1 rfl).symm
theorem zxq (R:Rp g) (hl:k.length≤5) (hr:∀ h∈k,Rp h) (hs:∀ h∈k,∀ x o,z21 h x=some o→z21 g x=some o):Rps k :=
 ⟨hl,hr, fun h1 m1 h2 m2 x o q e1 e2=>by
  have a1:=hs h1 m1 x o e1
  have a2:=hs h2 m2 x q e2
  rw [a1] at a2; exact Option.some.inj a2⟩
theorem zn3 (R:Rp g) {m1 m2 m3:Nat→Bool} (c1:∀ i,m1 i=true→∀ p∈z2b g i,m1 p=true) (c2:∀ i,m2 i=true→∀ p∈z2b g i,m2 p=true) (h3:∀ i,m3 i=true↔m1 i=true∨m2 i=true) (hk:k.length≤5) (hm:∀ h,h∈k↔h=subG g m1∨h=subG g m2):Rps k∧z6u k=subG g m3:=by
 have Rk:Rps k:=zxq R hk (fun h hh=>by
  rcases (hm h).1 hh with rfl | rfl
  ·
   exact R.part c1
  ·
   exact R.part c2) fun h hh x o ho=>by
  rcases (hm h).1 hh with rfl | rfl
  ·
   exact ((zc4 R.good R.fit).1 ho).1
  ·
   exact ((zc4 R.good R.fit).1 ho).1
 refine ⟨Rk,zqu (zr5 Rk) (ztq R.good R.fit m3) fun x=>z172 fun o=>?_⟩
 rw [zod Rk,zxw Rk,zc4 R.good R.fit,h3]
 constructor
 ·
  rintro ⟨h,h1,h2⟩
  rcases (hm h).1 h1 with rfl | rfl
  ·
   have:=(zc4 R.good R.fit).1 h2
   exact ⟨this.1,.inl this.2⟩
  ·
   have:=(zc4 R.good R.fit).1 h2
   exact ⟨this.1,.inr this.2⟩
 ·
  rintro ⟨h1,h2 | h2⟩
  ·
   exact ⟨_,(hm _).2 (.inl rfl),(zc4 R.good R.fit).2 ⟨h1,h2⟩⟩
  ·
   exact ⟨_,(hm _).2 (.inr rfl),(zc4 R.good R.fit).2 ⟨h1,h2⟩⟩
theorem zwh (a0:z00) (a1 a2:List ID) (a3:Str) (w0:z5q a0) (w1:(∀ x∈a1,∀ y∈x.toList,(fun _=>True) y)∧a1.length≤9223372036854775807) (w2:(∀ x∈a2,∀ y∈x.toList,(fun _=>True) y)∧a2.length≤9223372036854775807) (_:a3.length≤9223372036854775807):z7t a0 a1 a2 a3=some true:=by
 obtain ⟨b,b1,b2⟩:=z17f [a0]
 unfold z7t
 rw [zrj]
 simp only [bS]
 rw [b1]
 simp only [bS]
 cases b with
 | true=>rfl
 | false =>
 have S:zqx a0:=(b2 rfl).2 a0 (by simp)
 obtain ⟨c,c1,c2,c3⟩:=zq2 w0
 simp only [Bool.false_eq_true,if_false]
 rw [c2]
 simp only [bS]
 by_cases h0:c=0
 ·
  have G:=c3.1 h0
  have hop:∀ o∈a0.Ops,o.Preds.length≤20∧o.Act.Key.length≤100∧o.Act.Value.Text.length≤100:=fun o ho=>by
   obtain ⟨i,hi,rfl⟩:=List.getElem_of_mem ho
   exact S.op i hi
  have R:Rp a0:=⟨G,hop,w0⟩
  rw [if_neg (by simpa using h0)]
  by_cases h1:20<a1.length
  ·
   rw [if_pos (by simp; omega)]; rfl
  rw [if_neg (by simp; omega)]
  by_cases h2:20<a2.length
  ·
   rw [if_pos (by simp; omega)]; rfl
  rw [if_neg (by simp; omega)]
  by_cases h3:100<a3.length
  ·
   rw [if_pos (by simp; omega)]; rfl
  rw [if_neg (by simp; omega),zv5 _ _ (by have:=R.fit.ids; have:=R.fit.len; omega) (by omega)]
  simp only [bS]
  cases hA:a1.all fun x=>decide (x∈a0.IDs) with
  | false=>rfl
  | true =>
  rw [if_neg (by simp),zv5 _ _ (by have:=R.fit.ids; have:=R.fit.len; omega) (by omega)]
  simp only [bS]
  cases hB:a2.all fun x=>decide (x∈a0.IDs) with
  | false=>rfl
  | true =>
  have hA:∀ x∈a1,x∈a0.IDs:=by simpa using hA
  have hB:∀ x∈a2,x∈a0.IDs:=by simpa using hB
  obtain ⟨m1,p1,p2⟩:=zps G R.chk.1 a1 (by omega) hA
  obtain ⟨m2,q1,q2⟩:=zps G R.chk.1 a2 (by omega) hB
  obtain ⟨m3,r1,r2⟩:=zps G R.chk.1 (a1++a2) (by rw [List.length_append]; omega) fun x hx=>(List.mem_append.1 hx).elim (hA x) (hB x)
  have hm:∀ i,m3 i=true↔m1 i=true∨m2 i=true:=fun i=>by
   rw [r2 i,p2 i,q2 i,List.map_append,z15o]
  obtain ⟨Rx,ex⟩:=zn3 (k:=[subG a0 m1,subG a0 m2]) R (zk6 p2) (zk6 q2) hm (by simp) (fun h=>by simp)
  obtain ⟨Ry,ey⟩:=zn3 (k:=[subG a0 m2,subG a0 m1,subG a0 m2]) R (zk6 p2) (zk6 q2) hm (by simp) (fun h=>by
   simp only [List.mem_cons,List.not_mem_nil,or_false]
   exact ⟨fun h=>h.elim .inr fun h=>h.elim .inl .inr, fun h=>h.elim (fun h=>.inr (.inl h)) .inl⟩)
  have RB:Rp (subG a0 m3):=R.part (zk6 r2)
  have hl:¬ 60<(subG a0 m3).Ops.length:=by have:=RB.fit.len; omega
  have wx:z79 [subG a0 m1,subG a0 m2]=some (subG a0 m3,0):=by rw [(zvq Rx).1]; unfold zok; rw [ex,if_neg hl]
  have wy:z79 [subG a0 m2,subG a0 m1,subG a0 m2]=some (subG a0 m3,0):=by rw [(zvq Ry).1]; unfold zok; rw [ey,if_neg hl]
  have RR:Rps [subG a0 m3,subG a0 m3]:=zxq RB (by simp) (fun h hh=>by simp at hh; rw [hh]; exact RB) fun h hh x o ho=>by simp at hh; rw [hh] at ho; exact ho
  have sm:=(z12k RR fun g hg h hh=>by simp at hg hh; rw [hg,hh]).1
  obtain ⟨f,hf⟩:=zsc RB
  rw [if_neg (by simp)]
  simp only [bS,Bool.not_true,Bool.false_eq_true,if_false]
  rw [p1,q1]
  simp only [bS]
  rw [wx,wy]
  simp only [bS]
  rw [sm,zti RB]
  simp only [bS]
  rw [(hf a3).2.1]
  simp only [bS]
  have d0:((0:Int) != 0)=false:=rfl
  have d1:((f a3).in_ != (f a3).in_)=false:=by simp
  simp only [d0,d1,Bool.false_eq_true,if_false,Bool.not_true,List.length_nil,decide_true,bS]
  rw [if_neg (by simp)]
  simp only [bS,Bool.false_eq_true,if_false]
  rw [z19 (by first | omega | (simp; omega))]
  simp only [bS,List.nil_append]
  rw [z19 (by first | omega | (simp; omega))]
  simp only [bS]
  rw [r1]
  simp only [bS]
  rw [if_pos trivial,if_pos (by simp),zzx (RB.fit.small (by omega))]
  rfl
 ·
  rw [if_pos (by simpa using h0)]
  rfl
end
end Go.Proofs.YthgpinfkodaefaaGreatDoor
