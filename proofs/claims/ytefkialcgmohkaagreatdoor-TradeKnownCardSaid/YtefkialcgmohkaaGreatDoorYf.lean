import Derived.Test.YtefkialcgmohkaaGreatDoorYe
set_option linter.unusedSimpArgs false
set_option linter.unusedVariables false
namespace Go.Proofs.YtefkialcgmohkaaGreatDoor
section
open Go
variable {g:z00}
theorem zj8 {α:Type} {l:List α} {n:Nat} (h:n<l.length):l.take (n+1)=l.take n++[l[n]]:=by
  rw [List.take_add_one,List.getElem?_eq_getElem h]; rfl
theorem z154 {l:List V3} (hso:l.Pairwise fun x y=>kd x≤kd y) {n i:Nat} (hi:i<l.length) (hn:n≤i+1):∀ x∈l.take n,kd x≤kd l[i]:=by
  intro x hx
  obtain ⟨j,hj,rfl⟩:=List.getElem_of_mem hx
  rw [List.length_take] at hj
  rw [List.getElem_take]
  by_cases hji:j=i
  · subst hji; exact Nat.le_refl _
  · exact List.pairwise_iff_getElem.1 hso j i (by omega) hi (by omega)
theorem zos {l:List V3} {x:V3} (h:l.Pairwise fun a b=>kd a<kd b) (hx:∀ y∈l,kd y<kd x):(l++[x]).Pairwise fun a b=>kd a<kd b:=by
  rw [List.pairwise_append]
  exact ⟨h, by simp, fun a ha b hb=>by rw [List.mem_singleton] at hb; subst hb; exact hx a ha⟩
theorem zs7 (l : List V3) (hl : l.length ≤ 1000) (hso : l.Pairwise fun x y => kd x ≤ kd y) (s : Nat) (h1 : 1 ≤ s) (hs : s < l.length) (hst : (l.take s).Pairwise fun x y => kd x < kd y) (heq : l[s] = l[s - 1]) :
    ∃ b:List V3 × Int,iter (z16 l s) (l,(s:Int),1)=some b∧b.1.length=l.length∧∃ j:Nat,b.2=(j:Int)∧j<l.length∧(b.1.take j).Pairwise (fun x y=>kd x<kd y)∧∀ x,x∈b.1.take j↔x∈l:=by
  refine z7g (F:=z16 l s) (l.length - s)
    (fun i st=>st.1.length=l.length∧st.2.2=(i:Int)∧1≤i∧∃ j:Nat,st.2.1=(j:Int)∧j+1≤s+i∧(∀ q,s+i - 1≤q→st.1[q]? = l[q]?)∧(st.1.take j).Pairwise (fun x y=>kd x<kd y)∧∀ x,x∈st.1.take j↔x∈l.take (s+i)) _ ?_ ?_ _ 1 (by omega)
    ⟨rfl,rfl, by omega,s,rfl, by omega, fun _ _=>rfl,hst, fun x=>?_⟩
  · rintro i ⟨c,j',i'⟩ hi ⟨e1,e2,e0,j,e3,e4,e5,e6,e7⟩
    simp only at e1 e2 e3 e5 e6 e7
    subst e2 e3
    have g1:c[s+i]'(by omega)=l[s+i]'(by omega):=by
      have:=e5 (s+i) (by omega)
      rw [List.getElem?_eq_getElem (by omega),List.getElem?_eq_getElem (by omega)] at this
      exact Option.some.inj this
    have g2:c[s+(i - 1)]'(by omega)=l[s+(i - 1)]'(by omega):=by
      have:=e5 (s+(i - 1)) (by omega)
      rw [List.getElem?_eq_getElem (by omega),List.getElem?_eq_getElem (by omega)] at this
      exact Option.some.inj this
    have hs1:l.take (s+(i+1))=l.take (s+i)++[l[s+i]'(by omega)]:=zj8 (n:=s+i) (by omega)
    unfold z16
    rw [if_pos (by simp; omega)]
    simp only [Int.toNat_natCast]
    rw [zr3 (by omega),z19 (x:=(i:Int) - 1) (by omega) (by omega), show ((i:Int) - 1)=((i - 1:Nat):Int) by omega,zr3 (by omega)]
    simp only [bS]
    rw [z0b (by omega),z0b (by omega)]
    simp only [bS]
    by_cases hc:c[s+i]'(by omega)=c[s+(i - 1)]'(by omega)
    · rw [decide_eq_true hc,if_neg (by simp)]
      refine ⟨_,rfl,e1,z0h (by omega), by omega,j,rfl, by omega, fun q hq=>e5 q (by omega),e6, fun x=>?_⟩
      rw [e7,hs1,List.mem_append]
      refine ⟨.inl, fun h=>h.elim id fun h=>?_⟩
      have hx:x=l[s+i]'(by omega):=List.mem_singleton.1 h
      rw [hx,← g1,hc,g2,List.mem_take_iff_getElem]
      exact ⟨s+(i - 1), by omega,rfl⟩
    · rw [decide_eq_false hc,if_pos (by simp),z0b (by omega)]
      simp only [bS]
      have hset:(c.set j (l[s+i]'(by omega))).take (j+1)=c.take j++[l[s+i]'(by omega)]:=by
        rw [zj8 (by rw [List.length_set]; omega),List.take_set_of_le (Nat.le_refl _),List.getElem_set_self]
      refine ⟨_,rfl, by simpa using e1,z0h (by omega), by omega,j+1,z0h (by omega), by omega, fun q hq=>?_,?_, fun x=>?_⟩
      · show (c.set j _)[q]? = _
        rw [List.getElem?_set_ne (by omega)]; exact e5 q (by omega)
      · show ((c.set j (c[s+i]'(by omega))).take (j+1)).Pairwise _
        rw [g1,hset]
        refine zos e6 fun y hy=>?_
        have h1:=z154 hso (n:=s+i) (i:=s+(i - 1)) (by omega) (by omega) y ((e7 y).1 hy)
        have h2:kd (l[s+(i - 1)]'(by omega))≤kd (l[s+i]'(by omega)):=List.pairwise_iff_getElem.1 hso _ _ (by omega) (by omega) (by omega)
        have h3:kd (l[s+(i - 1)]'(by omega))≠kd (l[s+i]'(by omega)):=fun e=>hc (by rw [g1,g2]; exact (zlc e).symm)
        omega
      · show x∈(c.set j (c[s+i]'(by omega))).take (j+1)↔_
        rw [g1,hset,hs1,List.mem_append,List.mem_append,e7]
  · rintro ⟨c,j',i'⟩ ⟨e1,e2,e0,j,e3,e4,e5,e6,e7⟩
    simp only at e1 e2 e3 e5 e6 e7
    subst e2 e3
    unfold z16
    rw [if_neg (by simp <;> omega)]
    refine ⟨_,rfl,e1,j,rfl, by omega,e6, fun x=>?_⟩
    rw [e7,List.take_of_length_le (by omega)]
  · show x∈l.take s↔x∈l.take (s+1)
    rw [zj8 hs,List.mem_append]
    refine ⟨.inl, fun h=>h.elim id fun h=>?_⟩
    have hx:x=l[s]:=List.mem_singleton.1 h
    rw [hx,heq,List.mem_take_iff_getElem]
    exact ⟨s - 1, by omega,rfl⟩
theorem zjl (l:List V3) (hl:l.length≤1000) (hso:l.Pairwise fun x y=>kd x≤kd y):∃ c,z10 l=some c∧z5u c=true∧∀ x,x∈c↔x∈l:=by
  have key:∀ k n,l.length - n=k→1≤n→n≤l.length→(l.take n).Pairwise (fun x y=>kd x<kd y)→∃ r:Sum (List V3) Unit,iter (z0m l) (n:Int)=some r∧((r=.inr ()∧l.Pairwise fun x y=>kd x<kd y)∨(∃ c,r=.inl c∧(c.Pairwise fun x y=>kd x<kd y)∧∀ x,x∈c↔x∈l)):=by
    intro k
    induction k with
    | zero =>
      intro n hk h1 hn hst
      refine ⟨_,z1o ?_,.inl ⟨rfl,?_⟩⟩
      · unfold z0m
        rw [if_neg (by simp; omega)]
      · rw [List.take_of_length_le (by omega)] at hst; exact hst
    | succ k ih =>
      intro n hk h1 hn hst
      have hlt:n<l.length:=by omega
      by_cases hc:l[n]=l[n - 1]
      · obtain ⟨⟨c,j'⟩,e1,e2,j,e3,e4,e5,e6⟩:=zs7 l hl hso n h1 hlt hst hc
        simp only at e2 e3 e5 e6
        subst e3
        have hF:z0m l (n:Int)=some (.inl (.inl (c.take j))):=by
          unfold z0m
          rw [if_pos (by simp; omega),z0b hlt,z19 (by omega) (by omega), show ((n:Int) - 1)=((n - 1:Nat):Int) by omega,z0b (by omega)]
          simp only [bS]
          rw [decide_eq_true hc,if_pos rfl,z3r (by omega)]
          simp only [bS]
          rw [e1]
          simp only [bS]
          rw [z3r (by omega),z3r (by simp; omega)]
          simp only [bS,Int.toNat_natCast]
          rw [show (0:Int)=((0:Nat):Int) from rfl,zd7 (by omega) (by rw [zvb _ _ _ _ (by omega)]; omega)]
          simp only [bS,List.drop_zero,Nat.sub_zero]
          have:(clr c j (c.length - j) (Vector.replicate 32 0)).take j=c.take j:=by
            unfold clr
            first
              | rw [List.append_assoc,List.take_append_of_le_length (by rw [List.length_take]; omega),List.take_take,Nat.min_self]
              | rw [List.take_append_of_le_length (by rw [List.length_take]; omega),List.take_take,Nat.min_self]
          rw [this]
        exact ⟨_,z1o hF,.inr ⟨_,rfl,e5,e6⟩⟩
      · have hF : z0m l (n : Int) = some (.inr ((n + 1 : Nat) : Int)) := by
          unfold z0m
          rw [if_pos (by simp; omega),z0b hlt,z19 (x:=(n:Int) - 1) (by omega) (by omega), show ((n:Int) - 1)=((n - 1:Nat):Int) by omega,z0b (by omega)]
          simp only [bS]
          rw [decide_eq_false hc,if_neg (by simp),z0h (by omega)]
        obtain ⟨r,h2,h3⟩:=ih (n+1) (by omega) (by omega) (by omega) (by
          rw [zj8 hlt]
          refine zos hst fun y hy=>?_
          have h1':=z154 hso (n:=n) (i:=n - 1) (by omega) (by omega) y hy
          have h2':kd (l[n - 1]'(by omega))≤kd l[n]:=List.pairwise_iff_getElem.1 hso _ _ (by omega) hlt (by omega)
          have h3':kd (l[n - 1]'(by omega))≠kd l[n]:=fun e=>hc (zlc e).symm
          omega)
        exact ⟨r, by rw [z21 hF]; exact h2,h3⟩
  unfold z10
  by_cases h2:l.length<2
  · rw [if_pos (by simp; omega)]
    refine ⟨l,rfl,?_, fun x=>Iff.rfl⟩
    match l,h2 with
    | [],_=>rfl
    | [_],_=>rfl
  · rw [if_neg (by simp; omega)]
    obtain ⟨r,e1,e2⟩:=key (l.length - 1) 1 rfl (by omega) (by omega) (by rw [zj8 (by omega)]; simp)
    rw [show (1:Int)=((1:Nat):Int) from rfl,e1]
    rcases e2 with ⟨rfl,h3⟩ | ⟨c,rfl,h3,h4⟩
    · exact ⟨l,rfl,(z8c l).2 h3, fun x=>Iff.rfl⟩
    · exact ⟨c,rfl,(z8c c).2 h3,h4⟩
def zxz (cl:ID→Option Bool) (a0:List ID) (s2:Int):Option (Sum (Sum Int Unit) Int) :=
  if decide (s2<(a0.length:Int)) then
    idx a0 s2 >>= fun x4 =>
    cl x4 >>= fun r6 =>
    if r6 then
      some (.inl (.inl s2))
    else
      some (.inr (w64 (s2+1)))
  else
    some (.inl (.inr ()))
def zzo (cl:ID→Option Bool) (s5:(List ID) × Int × Int):Option (Sum ((List ID) × Int) ((List ID) × Int × Int)) :=
  if decide (s5.2.2<(s5.1.length:Int)) then
    idx s5.1 s5.2.2 >>= fun x7 =>
    cl x7 >>= fun r10 =>
    if !r10 then
      idx s5.1 s5.2.1 >>= fun x13 =>
      some (w64 (s5.2.1+1)) >>= fun y15 =>
      some (w64 (s5.2.2+1)) >>= fun y16 =>
      some (.inr (s5.1.set (s5.2.1:Int).toNat x7,y15,y16))
    else
      some (w64 (s5.2.2+1)) >>= fun y17 =>
      some (.inr (s5.1,s5.2.1,y17))
  else
    some (.inl (s5.1,s5.2.1))
def z18v (cl:ID→Option Bool) (c0:List ID):Option (List ID) :=
  (z58 (iter (zxz cl c0) 0) fun s1=>some (-1)) >>= fun r1 =>
  if r1==(-1) then
    some c0
  else
    (iter (zzo cl) (c0,r1,w64 (r1+1))) >>= fun s4 =>
    chk (0≤s4.2∧s4.2≤(s4.1.length:Int)∧(s4.1.length:Int)≤(s4.1.length:Int)) >>= fun u18 =>
    chk ((s4.2:Int).toNat+(((s4.1.length:Int):Int).toNat - (s4.2:Int).toNat)≤s4.1.length) >>= fun u20 =>
    cut (clr s4.1 ((s4.2:Int).toNat) (((s4.1.length:Int):Int).toNat - (s4.2:Int).toNat) (Vector.replicate 32 0)) 0 s4.2 >>= fun x22 =>
    some x22
theorem z14k (cl:ID→Option Bool) (p:ID→Bool) (hp:∀ x,cl x=some (p x)) (l:List ID) (hl:l.length≤1000):∃ b:Sum Int Unit,iter (zxz cl l) 0=some b∧((b=.inr ()∧∀ x∈l,p x=false)∨∃ i:Nat,b=.inl (i:Int)∧(∃ h:i<l.length,p l[i]=true)∧∀ k (h:k<l.length),k<i→p l[k]=false):=by
  refine za5 (F:=zxz cl l) (fun s=>∃ i:Nat,s=(i:Int)∧i≤l.length∧∀ k (h:k<l.length),k<i→p l[k]=false) (fun s=>l.length - s.toNat) _ ?_ 0 ⟨0,rfl,Nat.zero_le _, fun k _ h=>by omega⟩
  rintro s ⟨i,rfl,h1,h2⟩
  by_cases hi:i<l.length
  · have hF : zxz cl l (i : Int) = if p l[i] then some (.inl (.inl (i : Int))) else some (.inr ((i + 1 : Nat) : Int)) := by
      unfold zxz
      rw [if_pos (by simpa using hi),z0b hi,z0h (by omega)]
      simp only [bS]
      rw [hp]
      simp only [bS]
    cases hc:p l[i] with
    | true=>rw [hc] at hF; exact .inl ⟨_,hF,.inr ⟨i,rfl,⟨hi,hc⟩,h2⟩⟩
    | false =>
      rw [hc] at hF
      refine .inr ⟨_,hF,⟨i+1,rfl,hi, fun k hk hki=>?_⟩, by simp; omega⟩
      by_cases hk':k=i
      · subst hk'; exact hc
      · exact h2 k hk (by omega)
  · refine .inl ⟨.inr (),?_,.inl ⟨rfl, fun x hx=>?_⟩⟩
    · unfold zxz
      rw [if_neg (by simpa using hi)]
    · obtain ⟨k,hk,rfl⟩:=List.getElem_of_mem hx
      exact h2 k hk (by omega)
theorem zs0 (cl:ID→Option Bool) (p:ID→Bool) (hp:∀ x,cl x=some (p x)) (l:List ID) (hl:l.length≤1000):z18v cl l=some (l.filter fun x=>!p x):=by
  obtain ⟨b,b1,b2⟩:=z14k cl p hp l hl
  unfold z18v
  rw [b1]
  rcases b2 with ⟨rfl,b3⟩ | ⟨i,rfl,⟨b3,b5⟩,b4⟩
  · simp only [zub,bS]
    rw [if_pos (by rfl),List.filter_eq_self.2 (fun x hx=>by rw [b3 x hx]; first | done | rfl)]
  · simp only [or_l,bS]
    rw [if_neg (by simp <;> omega),z0h (by omega)]
    have h0:(l.take (i+1)).filter (fun x=>!p x)=l.take i:=by
      rw [zj8 b3,List.filter_append,List.filter_cons_of_neg (by rw [b5]; simp),List.filter_nil,List.append_nil]
      refine List.filter_eq_self.2 fun x hx=>?_
      obtain ⟨k,hk,rfl⟩:=List.getElem_of_mem hx
      rw [List.length_take] at hk
      rw [List.getElem_take,b4 k (by omega) (by omega)]; rfl
    have main:=z7g (F:=zzo cl) l.length
      (fun j st=>st.1.length=l.length∧st.2.2=(j:Int)∧∃ i:Nat,st.2.1=(i:Int)∧i<j∧(∀ q,j≤q→st.1[q]? = l[q]?)∧st.1.take i=(l.take j).filter fun x=>!p x)
      (fun b=>b.1.length=l.length∧∃ i:Nat,b.2=(i:Int)∧i≤l.length∧b.1.take i=l.filter fun x=>!p x)
      (fun j st hj hst=>by
        obtain ⟨c,i',j'⟩:=st
        obtain ⟨e1,e2,i,e3,e4,e5,e6⟩:=hst
        simp only at e1 e2 e3 e5 e6
        subst e2 e3
        have g1:c[j]'(by omega)=l[j]:=by
          have:=e5 j (Nat.le_refl _)
          rw [List.getElem?_eq_getElem (by omega),List.getElem?_eq_getElem (by omega)] at this
          exact Option.some.inj this
        have hF:zzo cl (c,(i:Int),(j:Int))=if !p l[j] then some (.inr (c.set i l[j],((i+1:Nat):Int),((j+1:Nat):Int))) else some (.inr (c,(i:Int),((j+1:Nat):Int))):=by
          unfold zzo
          rw [if_pos (by simp; omega)]
          simp only []
          rw [z0b (by omega),g1]
          simp only [bS]
          rw [hp]
          simp only [bS]
          rw [z0b (by omega),z0h (by omega),z0h (by omega)]
          simp only [bS,Int.toNat_natCast]
        cases hc:p l[j] with
        | true =>
          rw [hc,if_neg (by simp)] at hF
          refine ⟨_,hF,e1,rfl,i,rfl, by omega, fun q hq=>e5 q (by omega),?_⟩
          rw [zj8 hj,List.filter_append,List.filter_cons_of_neg (by rw [hc]; simp),List.filter_nil,List.append_nil]
          exact e6
        | false =>
          rw [hc,if_pos (by simp)] at hF
          refine ⟨_,hF, by simpa using e1,rfl,i+1,rfl, by omega, fun q hq=>?_,?_⟩
          · show (c.set i _)[q]? = _
            rw [List.getElem?_set_ne (by omega)]; exact e5 q (by omega)
          · show (c.set i l[j]).take (i+1)=_
            rw [zj8 (by rw [List.length_set]; omega),List.take_set_of_le (Nat.le_refl _),List.getElem_set_self,e6,zj8 hj,List.filter_append,List.filter_cons_of_pos (by rw [hc]; simp),List.filter_nil])
      (fun st hst=>by
        obtain ⟨c,i',j'⟩:=st
        obtain ⟨e1,e2,i,e3,e4,e5,e6⟩:=hst
        simp only at e1 e2 e3 e5 e6
        subst e2 e3
        refine ⟨(c,(i:Int)),?_,e1,i,rfl, by omega,?_⟩
        · unfold zzo
          rw [if_neg (by simp; omega)]
        · rw [List.take_length] at e6; exact e6)
      (l,(i:Int),((i+1:Nat):Int)) (i+1) b3 ⟨rfl,rfl,i,rfl, by omega, fun _ _=>rfl,h0.symm⟩
    obtain ⟨⟨c,k'⟩,m1,m2,k,m3,m4,m5⟩:=main
    simp only at m2 m3 m5
    subst m3
    rw [m1]
    simp only [bS]
    rw [z3r (by omega),z3r (by simp; omega)]
    simp only [bS,Int.toNat_natCast]
    rw [show (0:Int)=((0:Nat):Int) from rfl,zd7 (by omega) (by rw [zvb _ _ _ _ (by omega)]; omega)]
    simp only [bS,List.drop_zero,Nat.sub_zero]
    have:(clr c k (c.length - k) (Vector.replicate 32 0)).take k=c.take k:=by
      unfold clr
      first
              | rw [List.append_assoc,List.take_append_of_le_length (by rw [List.length_take]; omega),List.take_take,Nat.min_self]
              | rw [List.take_append_of_le_length (by rw [List.length_take]; omega),List.take_take,Nat.min_self]
    rw [this,m5]
theorem z18c (m:List (ID × Int)) (p:ID→Bool) (hp:∀ x,(zk4 m x).isSome=p x) (l:List ID) (hl:l.length≤1000):z1j l m=some (l.filter fun x=>!p x):=by
  have:=zs0 (fun x=>z7q x m) p (fun x=>by unfold z7q; simp only [bS]; rw [hp]) l hl
  exact this
theorem zvh (E:z9f g):∃ m,z4j g=some m∧∀ x,(zk4 m x).isSome=decide (x∈g.IDs):=by
  have hlen:=E.len
  have hids:=E.ids
  have main:=z7g (F:=z4o g) g.IDs.length
    (fun i s=>s.2=(i:Int)∧∀ x,(zk4 s.1 x).isSome=decide (x∈g.IDs.take i))
    (fun m=>∀ x,(zk4 m x).isSome=decide (x∈g.IDs))
    (fun i s hi hs=>by
      obtain ⟨m,i'⟩:=s
      obtain ⟨h1,h2⟩:=hs
      simp only at h1 h2
      subst h1
      refine ⟨(zvo m g.IDs[i] (i:Int),((i+1:Nat):Int)),?_,rfl, fun x=>?_⟩
      · unfold z4o
        rw [if_pos (by simpa using hi)]
        simp only []
        rw [z0b hi,z0h (by omega)]
        simp only [bS]
      · simp only []
        rw [zo7,zj8 hi]
        by_cases he:x=g.IDs[i]
        · rw [if_pos he,decide_eq_true (List.mem_append.2 (.inr (List.mem_singleton.2 he)))]; rfl
        · rw [if_neg he,h2,decide_eq_decide,List.mem_append]
          exact ⟨.inl, fun h=>h.resolve_right fun h=>he (List.mem_singleton.1 h)⟩)
    (fun s hs=>by
      obtain ⟨m,i'⟩:=s
      obtain ⟨h1,h2⟩:=hs
      simp only at h1 h2
      subst h1
      rw [List.take_length] at h2
      refine ⟨m,?_,h2⟩
      unfold z4o
      rw [if_neg (by simp)])
    (([]:List (ID × Int)),0) 0 (Nat.zero_le _) ⟨rfl, fun x=>by simp [zk4]⟩
  obtain ⟨m,h1,h2⟩:=main
  refine ⟨m,?_,h2⟩
  unfold z4j
  rw [h1]
  simp only [bS]
end
section
open Go
variable {g:z00}
theorem ztt (G:z4e g):∃ Q,z4w g=some (il Q)∧zfy (z17 g) g.Ops.length Q∧Q.length=g.Ops.length:=by
 have E:=G.e
 have hP:=z11k E G.ins
 have hlen:=E.len
 have main:=za5 (F:=z47 g)
  (fun s=>∃ Q b,s=zj7 g Q b∧zfy (z17 g) g.Ops.length Q∧(b=false→∀ i,i<g.Ops.length→(∀ p∈z17 g i,p∈Q)→i∈Q))
  (fun s=>(g.Ops.length - s.1.length)+(if s.2.2.2 then 1 else 0))
  (fun r=>∃ Q:List Nat,r=il Q∧zfy (z17 g) g.Ops.length Q∧Q.length=g.Ops.length)
  (fun s hs=>by
   obtain ⟨Q,b,rfl,h1,h3⟩:=hs
   obtain ⟨hg,ht⟩:=h1.got
   have hql:=hg.len
   cases b with
   | false =>
    left
    refine ⟨il Q,rfl,Q,rfl,h1,?_⟩
    have:¬ Q.length<g.Ops.length:=(zns hg.nodup hg.lt).2 fun i hi=>by
     have hw:=G.wf i hi
     revert hi
     induction hw with
     | mk i hpi ih=>exact fun hi=>h3 rfl i hi fun p hp=>ih p hp (hP.lt i p hp)
    omega
   | true =>
    right
    obtain ⟨r,e1,e2⟩:=z15f E G.ins Q hg ht
    rcases e2 with ⟨i,rfl,e3,e4,e5,e6,e7,e8⟩ | ⟨rfl,e3⟩
    ·
     refine ⟨_,?_,⟨Q++[i],true,rfl,.snoc h1 ⟨e5,zhk.2 ⟨e6,e7⟩, fun j hj=>?_⟩, by simp⟩,?_⟩
     ·
      unfold z47
      exact (if_pos rfl).trans e1
     ·
      cases hc:zh0 (z17 g) Q j with
      | false=>rfl
      | true =>
       obtain ⟨c1,c2⟩:=zhk.1 hc
       exact absurd (e8 j hj c2) c1
     ·
      have:=e3.len
      simp only [zj7,zg5,List.length_append,List.length_cons,List.length_nil] at this ⊢
      omega
    ·
     refine ⟨_,?_,⟨Q,false,rfl,h1, fun _=>e3⟩,?_⟩
     ·
      unfold z47
      exact (if_pos rfl).trans e1
     ·
      simp [zj7])
  ([],[],List.replicate g.Ops.length false,true) ⟨[],true, by unfold zj7; rw [zey]; simp [il],.nil, by simp⟩
 obtain ⟨r,e1,Q,rfl,e2,e3⟩:=main
 refine ⟨Q,?_,e2,e3⟩
 unfold z4w
 rw [zjv (by omega) (by omega)]
 simp only [bS]
 rw [e1]
 simp only [bS]
theorem zzb (E:z9f g) {Q:List Nat} (hQ:∀ x∈Q,x<g.Ops.length) (hl:Q.length≤100) (h:z4w g=some (il Q)):zdl g=some (Q.map (zc5 g)):=by
 have hlen:=E.len
 have hids:=E.ids
 have main:=z1x (F:=z8l g (il Q)) (b:=Q.map (zc5 g)) Q.length (fun k=>((Q.take k).map (zc5 g),(k:Int))) (fun k hk=>?_) ?_
 ·
  unfold zdl
  rw [h]
  simp only [bS]
  rw [List.take_zero,List.map_nil, show ((0:Nat):Int)=0 from rfl] at main
  rw [main]
  simp only [bS]
 ·
  have hx:=hQ _ (List.getElem_mem hk)
  have hxi:Q[k]<g.IDs.length:=by omega
  unfold z8l
  rw [if_pos (by rw [zg5]; simpa using hk)]
  simp only []
  rw [z12b hk]
  simp only [bS]
  rw [z0b hxi]
  simp only [bS]
  rw [z1e (by rw [List.length_map,List.length_take]; simp only [List.length_cons,List.length_nil]; omega),z0h (by omega),zj8 hk,List.map_append,← z5a hxi]
  simp only [bS]
  rfl
 ·
  unfold z8l
  rw [if_neg (by rw [zg5]; simp),List.take_length]
theorem zxv {c:Int} (h1:z18 g=some c) (h2:z0e g=some c) (h3:c=0↔z4e g):∃ r,z9y g=some r∧zbw g=some r∧r.1.length≤60:=by
 by_cases hc:c=0
 ·
  subst hc
  have G:=h3.1 rfl
  have hlen:=G.e.len
  obtain ⟨Q,q1,q2,q3⟩:=zrm G h1
  obtain ⟨R,r1,r2,r3⟩:=ztt G
  have:Q=R:=q2.unique R r2 (by omega)
  subst this
  refine ⟨_,q1,?_, by rw [List.length_map]; omega⟩
  unfold zbw
  rw [h2]
  simp only [bS]
  rw [if_neg (by simp),zzb G.e q2.got.1.lt (by omega) r1]
  simp only [bS]
 ·
  have hcb:(c != 0)=true:=by simpa using hc
  refine ⟨([],c),?_,?_, by simp⟩
  ·
   unfold z9y
   rw [h1]
   simp only [bS]
   rw [hcb]; rfl
  ·
   unfold zbw
   rw [h2]
   simp only [bS]
   rw [hcb]; rfl
def zw9 (g:z00) (m:Nat→Bool):Nat→List ID
 | 0=>[]
 | i+1=>if m i then zw9 g m i++[zc5 g i] else zw9 g m i
def zyw (g:z00) (m:Nat→Bool):Nat→List z08
 | 0=>[]
 | i+1=>if m i then zyw g m i++g.Ops[i]?.toList else zyw g m i
theorem z14r {g:z00} {m:Nat→Bool} {i:Nat} (h:m i=true):zw9 g m (i+1)=zw9 g m i++[zc5 g i]:=if_pos h
theorem z19s {g:z00} {m:Nat→Bool} {i:Nat} (h:m i=true):zyw g m (i+1)=zyw g m i++g.Ops[i]?.toList:=if_pos h
theorem z14w {g:z00} {m:Nat→Bool} {i:Nat} (h:m i=false):zw9 g m (i+1)=zw9 g m i:=if_neg (by rw [h]; simp)
theorem z181 {g:z00} {m:Nat→Bool} {i:Nat} (h:m i=false):zyw g m (i+1)=zyw g m i:=if_neg (by rw [h]; simp)
def subG (g:z00) (m:Nat→Bool):z00:=⟨zw9 g m g.Ops.length,zyw g m g.Ops.length⟩
theorem zxe (g:z00) (m:Nat→Bool):∀ i,(zw9 g m i).length≤i
 | 0=>Nat.le_refl _
 | i+1=>by
  have:=zxe g m i
  unfold zw9
  split
  ·
   rw [List.length_append,List.length_singleton]; omega
  ·
   omega
theorem zx7 (g:z00) (m:Nat→Bool):∀ i,(zyw g m i).length≤i
 | 0=>Nat.le_refl _
 | i+1=>by
  have:=zx7 g m i
  unfold zyw
  split
  ·
   rw [List.length_append]
   have:g.Ops[i]?.toList.length≤1:=by cases g.Ops[i]? <;> simp
   omega
  ·
   omega
theorem z12n (E:z9f g) (m:Nat→Bool):iter (z8n g (tab g.Ops.length m)) ([],[],0)=some (zw9 g m g.Ops.length,zyw g m g.Ops.length):=by
 have hlen:=E.len
 have hids:=E.ids
 have main:=z1x (F:=z8n g (tab g.Ops.length m)) (b:=(zw9 g m g.Ops.length,zyw g m g.Ops.length)) g.Ops.length (fun i=>(zw9 g m i,zyw g m i,(i:Int))) (fun i hi=>?_) ?_
 ·
  exact main
 ·
  have hii:i<g.IDs.length:=by omega
  have l1:=zxe g m i
  have l2:=zx7 g m i
  have h4:=(E.op i hi).1
  unfold z8n
  rw [if_pos (by rw [zjy]; simpa using hi)]
  simp only []
  rw [zbh hi,z0h (by omega)]
  simp only [bS]
  cases hm:m i with
  | false =>
   rw [if_neg (by simp),z14w hm,z181 hm]
  | true =>
   rw [if_pos rfl,z0b hi]
   simp only [bS]
   rw [zgo _ (by omega),z0b hii]
   simp only [bS]
   rw [z1e (by simp only [List.length_cons,List.length_nil]; omega)]
   simp only [bS]
   rw [z1e (by simp only [List.length_cons,List.length_nil]; omega)]
   simp only [bS]
   rw [z14r hm,z19s hm,z5a hii,List.getElem?_eq_getElem hi]
   rfl
 ·
  unfold z8n
  rw [if_neg (by rw [zjy]; simp)]
theorem zgh {P:Nat→List Nat} {S:List Nat} {i:Nat}:Rch P S i↔i∈S∨∃ s∈S,Rch P (P s) i:=by
 constructor
 ·
  intro h
  induction h with
  | base h=>exact .inl h
  | @step i p _ hp ih =>
   rcases ih with h | ⟨s,hs,h⟩
   ·
    exact .inr ⟨i,h,.base hp⟩
   ·
    exact .inr ⟨s,hs,.step h hp⟩
 ·
  rintro (h | ⟨s,hs,h⟩)
  ·
   exact .base h
  ·
   exact h.thru fun x hx=>.step (.base hs) hx
end
section
open Go
variable {g:z00}
theorem z11l (g:z00) (m:Nat→Bool):∀ i,zw9 g m i=((List.range i).filter m).map (zc5 g)
 | 0=>rfl
 | i+1=>by
  have ih:=z11l g m i
  rw [List.range_succ,List.filter_append,List.map_append,← ih]
  cases hm:m i with
  | true=>rw [z14r hm,List.filter_cons_of_pos (by exact hm)]; rfl
  | false=>rw [z14w hm,List.filter_cons_of_neg (by rw [hm]; simp)]; simp
theorem zxp (g:z00) (m:Nat→Bool):zw9 g m g.Ops.length=z6v g m:=z11l g m _
theorem zt2 (G:z4e g) (h1:z18 g=some 0) (l:List ID) (hl:l.length≤60):∃ r,zc7 g l=some (r,0)∧∀ x,x∈r↔x∈l∧x∉g.IDs:=by
 unfold zc7
 rw [h1]
 simp only [bS]
 rw [if_neg (by simp),if_neg (by simp; omega)]
 obtain ⟨m,m1,m2⟩:=zvh G.e
 obtain ⟨F,f1,f2,f3⟩:∃ F,z1j l m=some F∧F.length≤l.length∧∀ x,x∈F↔x∈l∧x∉g.IDs :=
  ⟨_,z18c m _ m2 l (by omega),List.length_filter_le _ _, fun x=>by rw [List.mem_filter]; simp⟩
 obtain ⟨d,d1,d2,d3⟩:=zjl (zsk F) (by rw [zky]; omega) (zmv _)
 rw [m1]
 simp only [bS]
 rw [zgo l (by omega)]
 simp only [bS]
 rw [f1]
 simp only [bS]
 unfold zpk
 rw [z3r (by omega)]
 simp only [bS]
 rw [d1]
 simp only [bS]
 exact ⟨d,rfl, fun x=>by rw [d3,zua,f3]⟩
theorem zxy (G:z4e g) (h1:z18 g=some 0) (l:List ID) (hb:l.length≤60) (hin:∀ x∈l,x∈g.IDs):∃ m,zdv g l=some (subG g m,0)∧∀ i,m i=true↔Rch (z17 g) (l.map fun x=>g.IDs.idxOf x) i:=by
 obtain ⟨r,r1,r2⟩:=zt2 G h1 l hb
 have he:r=[]:=by
  cases r with
  | nil=>rfl
  | cons a b =>
   have:=(r2 a).1 (by simp)
   exact absurd (hin a this.1) this.2
 subst he
 obtain ⟨m,m1,m2⟩:=z12q G.e G.ins l hin (by omega)
 refine ⟨m,?_,m2⟩
 unfold zdv
 rw [r1]
 simp only [bS]
 rw [if_neg (by simp),if_neg (by simp),m1]
 simp only [bS]
 rw [z12n G.e m]
 simp only [bS]
 rfl
end
section
open Go
variable {g:z00}
theorem zas (l:List ID) (x:ID) (hl:l.length≤1000):z1k l x=some (decide (x∈l)):=by
 have main:=za5 (F:=z34 l x) (fun s=>∃ i:Nat,s=(i:Int)∧i≤l.length∧∀ k (h:k<l.length),k<i→l[k]≠x) (fun s=>l.length - s.toNat)
  (fun b:Sum Int Unit=>(b=.inr ()∧x∉l)∨∃ i:Nat,b=.inl (i:Int)∧x∈l)
  (fun s hs=>by
   obtain ⟨i,rfl,h1,h2⟩:=hs
   by_cases hi:i<l.length
   ·
    have hF:z34 l x (i:Int)=if decide (x=l[i]) then some (.inl (.inl (i:Int))) else some (.inr ((i+1:Nat):Int)):=by
     unfold z34
     rw [if_pos (by simpa using hi),z0b hi,z0h (by omega)]
     simp only [bS]
    by_cases hc:x=l[i]
    ·
     rw [decide_eq_true hc,if_pos rfl] at hF
     exact .inl ⟨_,hF,.inr ⟨i,rfl,hc ▸ List.getElem_mem hi⟩⟩
    ·
     rw [decide_eq_false hc,if_neg (by simp)] at hF
     refine .inr ⟨_,hF,⟨i+1,rfl,hi, fun k hk hki=>?_⟩, by simp; omega⟩
     by_cases hk':k=i
     ·
      subst hk'; exact fun e=>hc e.symm
     ·
      exact h2 k hk (by omega)
   ·
    refine .inl ⟨.inr (),?_,.inl ⟨rfl, fun hx=>?_⟩⟩
    ·
     unfold z34
     rw [if_neg (by simpa using hi)]
    ·
     obtain ⟨k,hk,e⟩:=List.getElem_of_mem hx
     exact h2 k hk (by omega) e)
  0 ⟨0,rfl,Nat.zero_le _, fun k _ h=>by omega⟩
 obtain ⟨b,b1,b2⟩:=main
 unfold z1k z7i
 rw [b1]
 rcases b2 with ⟨rfl,h⟩ | ⟨i,rfl,h⟩
 ·
  rw [decide_eq_false h]; rfl
 ·
  rw [decide_eq_true h]
  simp only [or_l,bS]
  rw [decide_eq_true (by simp)]
theorem in27 (l:List ID) (x:ID) (hl:l.length≤100000):z4h l x=some (decide (x∈l)):=by
 have main:=za5 (F:=z9p l x) (fun s=>∃ i:Nat,s=(i:Int)∧i≤l.length∧∀ k (h:k<l.length),k<i→l[k]≠x) (fun s=>l.length - s.toNat)
  (fun b:Sum Bool Unit=>(b=.inr ()∧x∉l)∨(b=.inl true∧x∈l))
  (fun s hs=>by
   obtain ⟨i,rfl,h1,h2⟩:=hs
   by_cases hi:i<l.length
   ·
    have hF:z9p l x (i:Int)=if decide (l[i]=x) then some (.inl (.inl true)) else some (.inr ((i+1:Nat):Int)):=by
     unfold z9p
     rw [if_pos (by simpa using hi),z0b hi,z0h (by omega)]
     simp only [bS]
    by_cases hc:l[i]=x
    ·
     rw [decide_eq_true hc,if_pos rfl] at hF
     exact .inl ⟨_,hF,.inr ⟨rfl,hc ▸ List.getElem_mem hi⟩⟩
    ·
     rw [decide_eq_false hc,if_neg (by simp)] at hF
     refine .inr ⟨_,hF,⟨i+1,rfl,hi, fun k hk hki=>?_⟩, by simp; omega⟩
     by_cases hk':k=i
     ·
      subst hk'; exact hc
     ·
      exact h2 k hk (by omega)
   ·
    refine .inl ⟨.inr (),?_,.inl ⟨rfl, fun hx=>?_⟩⟩
    ·
     unfold z9p
     rw [if_neg (by simpa using hi)]
    ·
     obtain ⟨k,hk,e⟩:=List.getElem_of_mem hx
     exact h2 k hk (by omega) e)
  0 ⟨0,rfl,Nat.zero_le _, fun k _ h=>by omega⟩
 obtain ⟨b,b1,b2⟩:=main
 unfold z4h
 rw [b1]
 rcases b2 with ⟨rfl,h⟩ | ⟨rfl,h⟩
 ·
  rw [decide_eq_false h]; rfl
 ·
  rw [decide_eq_true h]; rfl
theorem z118:∀ a b:List UInt8,a.length=b.length→Op.bytesLess a b=decide (nk a<nk b)
 | [],[],_=>by simp [Op.bytesLess,nk]
 | [],_::_,h=>by simp at h
 | _::_,[],h=>by simp at h
 | a::x,b::y,h=>by
  have hl:x.length=y.length:=by simpa using h
  have ih:=z118 x y hl
  have lx:=z11e x
  have ly:=z11e y
  unfold Op.bytesLess
  rw [ih]
  simp only [nk,hl] at *
  have e:∀ u v:UInt8,u.toNat<v.toNat→u.toNat * 256 ^ y.length+256 ^ y.length≤v.toNat * 256 ^ y.length:=fun u v huv=>by
   have:=Nat.mul_le_mul_right (256 ^ y.length) (show u.toNat+1≤v.toNat from huv)
   rwa [Nat.add_mul,Nat.one_mul] at this
  by_cases h1:a<b
  ·
   have:=e a b (UInt8.lt_iff_toNat_lt.1 h1)
   rw [decide_eq_true h1,Bool.true_or,decide_eq_true (by omega)]
  ·
   by_cases h2:b<a
   ·
    have:=e b a (UInt8.lt_iff_toNat_lt.1 h2)
    have hne:(a==b)=false:=by
     rw [beq_eq_false_iff_ne]
     exact fun c=>by subst c; exact h1 h2
    rw [decide_eq_false h1,hne,Bool.false_and,Bool.or_false,decide_eq_false (by omega)]
   ·
    have h3:a=b:=UInt8.toNat_inj.1 (by rw [UInt8.lt_iff_toNat_lt] at h1 h2; omega)
    subst h3
    rw [decide_eq_false h1,Bool.false_or,beq_self_eq_true,Bool.true_and,decide_eq_decide]
    omega
theorem z142 (a b:ID):zdg a b=some (decide (kd a<kd b)):=by
 unfold zdg z19f
 rw [z118 _ _ (by simp)]
 rfl
theorem z16a (s:List ID) (x:ID) (hl:s.length≤100000) (hs:z5u s=true):∃ t,zbr s x=some t∧z5u t=true∧∀ y,y∈t↔y∈s∨y=x:=by
 have main:=za5 (F:=z95 s x) (fun st=>∃ i:Nat,st=(i:Int)∧i≤s.length∧∀ j (h:j<s.length),j<i→kd s[j]<kd x) (fun st=>s.length - st.toNat)
  (fun r=>∃ k:Nat,r=(k:Int)∧k≤s.length∧(∀ i (h:i<s.length),i<k→kd s[i]<kd x)∧(∀ i (h:i<s.length),k≤i→kd x≤kd s[i]))
  (fun st hst=>by
   obtain ⟨i,rfl,h1,h2⟩:=hst
   by_cases hi':i<s.length
   ·
    have hF:z95 s x (i:Int)=if decide (kd s[i]<kd x) then some (.inr ((i+1:Nat):Int)) else some (.inl (i:Int)):=by
     unfold z95
     rw [if_pos (by simpa using hi'),z0b hi',z0h (by omega)]
     simp only [bS]
     rw [z142]
     simp only [bS]
    by_cases hc:kd s[i]<kd x
    ·
     rw [decide_eq_true hc,if_pos rfl] at hF
     refine .inr ⟨_,hF,⟨i+1,rfl,hi', fun j hj hji=>?_⟩, by simp; omega⟩
     by_cases hji':j=i
     ·
      subst hji'; exact hc
     ·
      exact h2 j hj (by omega)
    ·
     rw [decide_eq_false hc,if_neg (by simp)] at hF
     refine .inl ⟨_,hF,i,rfl,h1,h2, fun j hj hij=>?_⟩
     by_cases hji':j=i
     ·
      subst hji'; omega
     ·
      have:=zdj hs hi' hj (by omega); omega
   ·
    refine .inl ⟨(i:Int),?_,i,rfl,h1,h2, fun j hj hij=>by omega⟩
    unfold z95
    rw [if_neg (by simpa using hi')])
  0 ⟨0,rfl,Nat.zero_le _, fun j _ h=>by omega⟩
 obtain ⟨r,r1,k,rfl,k2,k3,k4⟩:=main
 have hmem:x∈s↔∃ h:k<s.length,s[k]=x:=by
  constructor
  ·
   intro hm
   obtain ⟨i,hi,e⟩:=List.getElem_of_mem hm
   by_cases hik:i<k
   ·
    have:=k3 i hi hik; rw [e] at this; omega
   ·
    by_cases hik':i=k
    ·
     subst hik'; exact ⟨hi,e⟩
    ·
     have hk:k<s.length:=by omega
     have:=zdj hs hk hi (by omega)
     have:=k4 k hk (Nat.le_refl _)
     rw [e] at *; omega
  ·
   rintro ⟨h,e⟩; rw [← e]; exact List.getElem_mem h
 unfold zbr
 rw [r1]
 simp only [bS]
 have fresh:x∉s→(cut s 0 (k:Int) >>= fun x15=>app 32 ([]:List ID) x15 >>= fun x17=>app 32 x17 [x] >>= fun x19=>cut s (k:Int) (s.length:Int) >>= fun x21=>app 32 x19 x21 >>= fun x23=>some x23)=some (s.take k++[x]++s.drop k):=fun _=>by
  rw [show (0:Int)=((0:Nat):Int) from rfl,zd7 (by omega) k2,zd7 k2 (by omega)]
  simp only [bS,List.drop_zero,Nat.sub_zero]
  rw [List.take_of_length_le (l:=s.drop k) (by simp),z1e (by simp; omega)]
  simp only [bS,List.nil_append]
  rw [z1e (by simp; omega)]
  simp only [bS]
  rw [z1e (by simp; omega)]
  simp only [bS]
 by_cases hm:x∈s
 ·
  obtain ⟨hk,e⟩:=hmem.1 hm
  rw [if_pos (by simpa using hk),z0b hk]
  simp only [bS]
  rw [decide_eq_true e,if_pos rfl]
  exact ⟨s,rfl,hs, fun y=>⟨.inl, fun h=>h.elim id fun h=>h ▸ hm⟩⟩
 ·
  have hor:(if decide ((k:Int)<(s.length:Int))=true then idx s (k:Int) >>= fun x12=>if decide (x12=x)=true then (some (.inl s):Option (Sum (List ID) Unit)) else some (.inr ()) else some (.inr ()))=some (.inr ()):=by
   by_cases hk:k<s.length
   ·
    rw [if_pos (by simpa using hk),z0b hk]
    simp only [bS]
    rw [decide_eq_false fun e=>hm (hmem.2 ⟨hk,e⟩),if_neg (by simp)]
   ·
    rw [if_neg (by simpa using hk)]
  rw [hor]
  simp only [zub]
  rw [fresh hm]
  refine ⟨_,rfl,zp8 hs k2 k3 fun i hi hki=>?_,ztg _ _ _⟩
  have:=k4 i hi hki
  rcases Nat.lt_or_eq_of_le this with h | h
  ·
   exact h
  ·
   exact absurd (zlc h ▸ List.getElem_mem hi) hm
theorem z15o (cap:z00) (p:ID→Bool) (hp:∀ x,zbd x cap=some (p x)) (l:List ID) (hl:l.length≤1000):z1y l cap=some (l.filter fun x=>!p x) :=
 zs0 (fun x=>zbd x cap) p hp l hl
theorem z16u (cap:z00) (p:ID→Bool) (hp:∀ x,zbc x cap=some (p x)) (l:List ID) (hl:l.length≤1000):z1u l cap=some (l.filter fun x=>!p x) :=
 zs0 (fun x=>zbc x cap) p hp l hl
theorem z105 (cap cap2:List ID) (p:ID→Bool) (hp:∀ x,zar x cap cap2=some (p x)) (l:List ID) (hl:l.length≤1000):z2x l cap cap2=some (l.filter fun x=>!p x) :=
 zs0 (fun x=>zar x cap cap2) p hp l hl
theorem zwe (F:List ID) (hF:F.length≤100):∃ d,(zpk F >>= fun r6=>z10 r6)=some d∧z5u d=true∧∀ x,x∈d↔x∈F:=by
 obtain ⟨d,d1,d2,d3⟩:=zjl (zsk F) (by rw [zky]; omega) (zmv _)
 refine ⟨d,?_,d2, fun x=>by rw [d3,zua]⟩
 unfold zpk
 rw [z3r (by omega)]
 simp only [bS]
 rw [d1]
theorem zqm (E:z9f g) (l:List ID) (hl:l.length≤60):∃ d,zdb g l=some d∧z5u d=true∧∀ x,x∈d↔x∈l∧x∉g.IDs:=by
 have hlen:=E.len
 have hids:=E.ids
 obtain ⟨F,f1,f2,f3⟩:∃ F,z1y l g=some F∧F.length≤l.length∧∀ x,x∈F↔x∈l∧x∉g.IDs :=
  ⟨_,z15o g (fun x=>decide (x∈g.IDs)) (fun x=>by unfold zbd; rw [zas _ _ (by omega)]; rfl) l (by omega),List.length_filter_le _ _, fun x=>by rw [List.mem_filter]; simp⟩
 obtain ⟨d,d1,d2,d3⟩:=zwe F (by omega)
 refine ⟨d,?_,d2, fun x=>by rw [d3,f3]⟩
 unfold zdb
 rw [zgo l (by omega)]
 simp only [bS]
 rw [f1]
 simp only [bS]
 cases hs:zpk F with
 | none=>rw [hs] at d1; cases d1
 | some r6 =>
  rw [hs] at d1
  simp only [bS] at d1 ⊢
  rw [d1]
  simp only [bS]
theorem z12l (E:z9f g) (l:List ID) (hl:l.length≤60):∃ d,iter (z52 g l) ([],0)=some d∧z5u d=true∧∀ x,x∈d↔x∈l∧x∉g.IDs:=by
 have hlen:=E.len
 have hids:=E.ids
 have main:=z7g (F:=z52 g l) l.length
  (fun i st=>st.2=(i:Int)∧z5u st.1=true∧∀ x,x∈st.1↔x∈l.take i∧x∉g.IDs)
  (fun d=>z5u d=true∧∀ x,x∈d↔x∈l∧x∉g.IDs)
  (fun i st hi hst=>by
   obtain ⟨s,i'⟩:=st
   obtain ⟨h1,h2,h3⟩:=hst
   simp only at h1 h2 h3
   subst h1
   have hsl:s.length≤l.length:=z75 _ _ (z91 h2) fun x hx=>List.mem_of_mem_take ((h3 x).1 hx).1
   have hmem:∀ y,y∈l.take (i+1)↔y∈l.take i∨y=l[i]:=fun y=>by
    rw [zj8 hi,List.mem_append]
    exact ⟨fun h=>h.imp id fun h=>List.mem_singleton.1 h, fun h=>h.imp id fun h=>List.mem_singleton.2 h⟩
   by_cases hx:l[i]∈g.IDs
   ·
    refine ⟨(s,((i+1:Nat):Int)),?_,rfl,h2, fun x=>?_⟩
    ·
     unfold z52
     rw [if_pos (by simpa using hi)]
     simp only []
     rw [z0b hi]
     simp only [bS]
     rw [in27 _ _ (by omega),decide_eq_true hx,z0h (by omega)]
     rfl
    ·
     simp only []
     rw [h3,hmem]
     exact ⟨fun h=>⟨.inl h.1,h.2⟩, fun h=>⟨h.1.resolve_right fun e=>h.2 (e ▸ hx),h.2⟩⟩
   ·
    obtain ⟨t,t1,t2,t3⟩:=z16a s l[i] (by omega) h2
    refine ⟨(t,((i+1:Nat):Int)),?_,rfl,t2, fun x=>?_⟩
    ·
     unfold z52
     rw [if_pos (by simpa using hi)]
     simp only []
     rw [z0b hi]
     simp only [bS]
     rw [in27 _ _ (by omega),decide_eq_false hx]
     simp only [bS,Bool.not_false,if_true]
     rw [t1,z0h (by omega)]
     simp only [bS]
    ·
     simp only []
     rw [t3,h3,hmem]
     constructor
     ·
      rintro (h | rfl)
      ·
       exact ⟨.inl h.1,h.2⟩
      ·
       exact ⟨.inr rfl,hx⟩
     ·
      rintro ⟨h | h,hn⟩
      ·
       exact .inl ⟨h,hn⟩
      ·
       exact .inr h)
  (fun st hst=>by
   obtain ⟨s,i'⟩:=st
   obtain ⟨h1,h2,h3⟩:=hst
   simp only at h1 h2 h3
   subst h1
   rw [List.take_length] at h3
   refine ⟨s,?_,h2,h3⟩
   unfold z52
   rw [if_neg (by simp)])
  ([],0) 0 (Nat.zero_le _) ⟨rfl,rfl, by simp⟩
 obtain ⟨d,d1,d2,d3⟩:=main
 exact ⟨d,d1,d2,d3⟩
end
section
open Go
variable {g:z00}
def z67 (g:z00) (l:List ID) (y:ID):Prop:=y∈g.IDs∧((y∈l)∨∃ x∈l,x∈g.IDs∧Rch (z17 g) (z17 g (g.IDs.idxOf x)) (g.IDs.idxOf y))
theorem ztl (G:z4e g) (h1:z18 g=some 0) (l:List ID) (hl:l.length≤60):∃ d,zde g l=some d∧z5u d=true∧∀ y,y∈d↔z67 g l y:=by
 have E:=G.e
 have hlen:=E.len
 have hids:=E.ids
 obtain ⟨F,f1,f2,f3⟩:∃ F,z1u l g=some F∧F.length≤l.length∧∀ x,x∈F↔x∈l∧x∈g.IDs :=
  ⟨_,z16u g (fun x=>!decide (x∈g.IDs)) (fun x=>by unfold zbc; rw [zas _ _ (by omega)]; rfl) l (by omega),List.length_filter_le _ _, fun x=>by rw [List.mem_filter]; simp⟩
 obtain ⟨d,d1,d2,d3⟩:=zwe F (by omega)
 have hin:∀ x∈d,x∈g.IDs:=fun x hx=>((f3 x).1 ((d3 x).1 hx)).2
 have hdl:=zr4 (g:=g) d2 hin
 obtain ⟨m,m1,m2⟩:=zxy G h1 d (by omega) hin
 refine ⟨z6v g m,?_,zmx E m, fun y=>?_⟩
 ·
  unfold zde
  rw [zgo l (by omega)]
  simp only [bS]
  rw [f1]
  simp only [bS]
  cases hs:zpk F with
  | none=>rw [hs] at d1; cases d1
  | some r6 =>
   rw [hs] at d1
   simp only [bS] at d1 ⊢
   rw [d1]
   simp only [bS]
   rw [m1]
   simp only [bS]
   rw [← zxp]; rfl
 ·
  rw [zcb E,m2,zgh]
  unfold z67
  constructor
  ·
   rintro ⟨hy,h | ⟨q,hq,hr⟩⟩
   ·
    obtain ⟨x,hx,e⟩:=List.mem_map.1 h
    have:x=y:=ze9 hy e
    subst this
    exact ⟨hy,.inl ((f3 _).1 ((d3 _).1 hx)).1⟩
   ·
    obtain ⟨x,hx,e⟩:=List.mem_map.1 hq
    rw [← e] at hr
    exact ⟨hy,.inr ⟨x,((f3 _).1 ((d3 _).1 hx)).1,hin x hx,hr⟩⟩
  ·
   rintro ⟨hy,h | ⟨x,hx,hxi,hr⟩⟩
   ·
    exact ⟨hy,.inl (List.mem_map.2 ⟨y,(d3 _).2 ((f3 _).2 ⟨h,hy⟩),rfl⟩)⟩
   ·
    exact ⟨hy,.inr ⟨_,List.mem_map.2 ⟨x,(d3 _).2 ((f3 _).2 ⟨hx,hxi⟩),rfl⟩,hr⟩⟩
theorem z16q (G:z4e g) (h2:z0e g=some 0) {x:ID} (hx:x∈g.IDs):∃ s,zbi g x=some (s,0)∧z5u s=true∧s.length≤60∧∀ y,y∈s↔y∈g.IDs∧Rch (z17 g) (z17 g (g.IDs.idxOf x)) (g.IDs.idxOf y):=by
 have hlen:=G.e.len
 have hids:=G.e.ids
 obtain ⟨s,b1,b2,b3⟩:=zzm G.e G.ins hx
 have hl:=zr4 (g:=g) b2 fun y hy=>((b3 y).1 hy).1
 refine ⟨s,?_,b2, by omega,b3⟩
 unfold zbi
 have hax:([x].all fun x=>decide (x∈g.IDs))=true:=by simpa using hx
 rw [z12x G h2 _ (by simp),hax]
 simp only [bS]
 rw [if_neg (by simp),b1]
 simp only [bS]
theorem z18m (s0:List ID) (r:List ID) (c:Int) (hr:r.length≤100) (hs:z5u s0=true) (hb:∀ x∈s0,x∈g.IDs) (hb2:∀ x∈r,x∈g.IDs) (hg:g.IDs.length≤1000):∃ t,iter (z6z (r,c)) (s0,0)=some t∧z5u t=true∧∀ y,y∈t↔y∈s0∨y∈r:=by
 have main:=z7g (F:=z6z (r,c)) r.length
  (fun i st=>st.2=(i:Int)∧z5u st.1=true∧∀ y,y∈st.1↔y∈s0∨y∈r.take i)
  (fun t=>z5u t=true∧∀ y,y∈t↔y∈s0∨y∈r)
  (fun i st hi hst=>by
   obtain ⟨s,i'⟩:=st
   obtain ⟨h1,h2,h3⟩:=hst
   simp only at h1 h2 h3
   subst h1
   have hsl:s.length≤g.IDs.length:=z75 _ _ (z91 h2) fun x hx=>((h3 x).1 hx).elim (hb x) fun h=>hb2 x (List.mem_of_mem_take h)
   obtain ⟨t,t1,t2,t3⟩:=z16a s r[i] (by omega) h2
   refine ⟨(t,((i+1:Nat):Int)),?_,rfl,t2, fun y=>?_⟩
   ·
    unfold z6z
    rw [if_pos (by simpa using hi)]
    simp only []
    rw [z0b hi]
    simp only [bS]
    rw [t1,z0h (by omega)]
    simp only [bS]
   ·
    simp only []
    rw [t3,h3,zj8 hi,List.mem_append]
    constructor
    ·
     rintro ((h | h) | h)
     ·
      exact .inl h
     ·
      exact .inr (.inl h)
     ·
      exact .inr (.inr (List.mem_singleton.2 h))
    ·
     rintro (h | h | h)
     ·
      exact .inl (.inl h)
     ·
      exact .inl (.inr h)
     ·
      exact .inr (List.mem_singleton.1 h))
  (fun st hst=>by
   obtain ⟨s,i'⟩:=st
   obtain ⟨h1,h2,h3⟩:=hst
   simp only at h1 h2 h3
   subst h1
   rw [List.take_length] at h3
   refine ⟨s,?_,h2,h3⟩
   unfold z6z
   rw [if_neg (by simp)])
  (s0,0) 0 (Nat.zero_le _) ⟨rfl,hs, by simp⟩
 obtain ⟨t,t1,t2,t3⟩:=main
 exact ⟨t,t1,t2,t3⟩
theorem zvv (G:z4e g) (h2:z0e g=some 0) (l:List ID) (hl:l.length≤60):∃ d,z9t g l=some d∧z5u d=true∧∀ y,y∈d↔z67 g l y:=by
 have E:=G.e
 have hlen:=E.len
 have hids:=E.ids
 have main:=z7g (F:=z6y g l) l.length
  (fun i st=>st.2=(i:Int)∧z5u st.1=true∧∀ y,y∈st.1↔z67 g (l.take i) y)
  (fun d=>z5u d=true∧∀ y,y∈d↔z67 g l y)
  (fun i st hi hst=>by
   obtain ⟨s,i'⟩:=st
   obtain ⟨h1,h2',h3⟩:=hst
   simp only at h1 h2' h3
   subst h1
   have hin:∀ x∈s,x∈g.IDs:=fun x hx=>((h3 x).1 hx).1
   have hsl:s.length≤g.IDs.length:=z75 _ _ (z91 h2') hin
   have hmem:∀ y,y∈l.take (i+1)↔y∈l.take i∨y=l[i]:=fun y=>by
    rw [zj8 hi,List.mem_append]
    exact ⟨fun h=>h.imp id fun h=>List.mem_singleton.1 h, fun h=>h.imp id fun h=>List.mem_singleton.2 h⟩
   by_cases hx:l[i]∈g.IDs
   ·
    obtain ⟨t,t1,t2,t3⟩:=z16a s l[i] (by omega) h2'
    obtain ⟨a,a1,a2,a3,a4⟩:=z16q G h2 hx
    obtain ⟨u,u1,u2,u3⟩:=z18m (g:=g) t a 0 (by omega) t2 (fun x hx'=>((t3 x).1 hx').elim (hin x) fun e=>e ▸ hx) (fun x hx'=>((a4 x).1 hx').1) (by omega)
    refine ⟨(u,((i+1:Nat):Int)),?_,rfl,u2, fun y=>?_⟩
    ·
     unfold z6y
     rw [if_pos (by simpa using hi)]
     simp only []
     rw [z0b hi]
     simp only [bS]
     rw [in27 _ _ (by omega),decide_eq_true hx]
     simp only [bS,Bool.not_true,Bool.false_eq_true,if_false]
     rw [t1]
     simp only [bS]
     rw [a1]
     simp only [bS]
     rw [u1,z0h (by omega)]
     simp only [bS]
    ·
     simp only []
     rw [u3,t3,a4,h3]
     unfold z67
     constructor
     ·
      rintro ((⟨hy,h⟩ | rfl) | ⟨hy,h⟩)
      ·
       refine ⟨hy,h.elim (fun h=>.inl ((hmem y).2 (.inl h))) fun ⟨x,h,k⟩=>.inr ⟨x,(hmem x).2 (.inl h),k⟩⟩
      ·
       exact ⟨hx,.inl ((hmem _).2 (.inr rfl))⟩
      ·
       exact ⟨hy,.inr ⟨l[i],(hmem _).2 (.inr rfl),hx,h⟩⟩
     ·
      rintro ⟨hy,h | ⟨x,h,k1,k2⟩⟩
      ·
       rcases (hmem y).1 h with h | h
       ·
        exact .inl (.inl ⟨hy,.inl h⟩)
       ·
        exact .inl (.inr h)
      ·
       rcases (hmem x).1 h with h | h
       ·
        exact .inl (.inl ⟨hy,.inr ⟨x,h,k1,k2⟩⟩)
       ·
        subst h; exact .inr ⟨hy,k2⟩
   ·
    refine ⟨(s,((i+1:Nat):Int)),?_,rfl,h2', fun y=>?_⟩
    ·
     unfold z6y
     rw [if_pos (by simpa using hi)]
     simp only []
     rw [z0b hi]
     simp only [bS]
     rw [in27 _ _ (by omega),decide_eq_false hx,z0h (by omega)]
     rfl
    ·
     simp only []
     rw [h3]
     unfold z67
     constructor
     ·
      rintro ⟨hy,h⟩
      exact ⟨hy,h.elim (fun h=>.inl ((hmem y).2 (.inl h))) fun ⟨x,h,k⟩=>.inr ⟨x,(hmem x).2 (.inl h),k⟩⟩
     ·
      rintro ⟨hy,h | ⟨x,h,k1,k2⟩⟩
      ·
       rcases (hmem y).1 h with h | h
       ·
        exact ⟨hy,.inl h⟩
       ·
        exact absurd (h ▸ hy) hx
      ·
       rcases (hmem x).1 h with h | h
       ·
        exact ⟨hy,.inr ⟨x,h,k1,k2⟩⟩
       ·
        exact absurd (h ▸ k1) hx)
  (fun st hst=>by
   obtain ⟨s,i'⟩:=st
   obtain ⟨h1,h2',h3⟩:=hst
   simp only at h1 h2' h3
   subst h1
   rw [List.take_length] at h3
   refine ⟨s,?_,h2',h3⟩
   unfold z6y
   rw [if_neg (by simp)])
  ([],0) 0 (Nat.zero_le _) ⟨rfl,rfl, fun y=>by simp [z67]⟩
 obtain ⟨d,d1,d2,d3⟩:=main
 refine ⟨d,?_,d2,d3⟩
 unfold z9t
 rw [d1]
 simp only [bS]
theorem zis (G:z4e g) (h1:z18 g=some 0) (h2:z0e g=some 0) (l:List ID) (hl:l.length≤60):∃ d,zde g l=some d∧z9t g l=some d∧z5u d=true∧d.length≤60∧∀ y,y∈d↔z67 g l y:=by
 obtain ⟨d,d1,d2,d3⟩:=ztl G h1 l hl
 obtain ⟨e,e1,e2,e3⟩:=zvv G h2 l hl
 have:d=e:=zcp _ _ ((z8c _).1 d2) ((z8c _).1 e2) fun y=>by rw [d3,e3]
 subst this
 have:=zr4 (g:=g) d2 fun y hy=>((d3 y).1 hy).1
 have:=G.e.len
 have:=G.e.ids
 exact ⟨d,d1,e1,d2, by omega,d3⟩
theorem z12c (G:z4e g) (h1:z18 g=some 0) (h2:z0e g=some 0) (h3:(0:Int)=0↔z4e g) (a b:List ID) (ha:a.length≤60) (hb:b.length≤60):∃ d,zdf g a b=some d∧zf3 g a b=some d∧d.length≤60∧∀ x∈d,x∈g.IDs:=by
 obtain ⟨p,p1,p2,_,p3,p4⟩:=zis G h1 h2 a ha
 obtain ⟨q,q1,q2,_,q3,q4⟩:=zis G h1 h2 b hb
 obtain ⟨r,r1,r2,r3⟩:=zxv h1 h2 h3
 have hfl:(r.1.filter fun x=>!(!decide (x∈p) || decide (x∈q))).length≤r.1.length:=List.length_filter_le _ _
 refine ⟨r.1.filter fun x=>!(!decide (x∈p) || decide (x∈q)),?_,?_, by omega, fun x hx=>?_⟩
 ·
  unfold zdf
  rw [p1,q1]
  simp only [bS]
  rw [r1]
  simp only [bS]
  rw [z105 p q (fun x=>!decide (x∈p) || decide (x∈q)) (fun x=>by
   unfold zar
   rw [zas _ _ (by omega),zas _ _ (by omega)]
   simp only [bS]
   cases decide (x∈p) <;> rfl) r.1 (by omega)]
  simp only [bS]
 ·
  have main:=z7g (F:=za2 p q r) r.1.length
   (fun i st=>st.2=(i:Int)∧st.1=(r.1.take i).filter fun x=>!(!decide (x∈p) || decide (x∈q)))
   (fun d=>d=r.1.filter fun x=>!(!decide (x∈p) || decide (x∈q)))
   (fun i st hi hst=>by
    obtain ⟨s,i'⟩:=st
    obtain ⟨g1,g2⟩:=hst
    simp only at g1 g2
    subst g1
    have hsl:s.length≤i:=by
     rw [g2]
     have:=List.length_filter_le (fun x=>!(!decide (x∈p) || decide (x∈q))) (r.1.take i)
     rw [List.length_take] at this
     exact Nat.le_trans this (Nat.min_le_left _ _)
    refine ⟨((r.1.take (i+1)).filter (fun x=>!(!decide (x∈p) || decide (x∈q))),((i+1:Nat):Int)),?_,rfl,rfl⟩
    unfold za2
    rw [if_pos (by simpa using hi)]
    simp only []
    rw [z0b hi]
    simp only [bS]
    rw [in27 _ _ (by omega),in27 _ _ (by omega),z0h (by omega),zj8 hi,List.filter_append,← g2]
    simp only [bS]
    cases c1:decide (r.1[i]∈p) with
    | false =>
     simp only [Bool.false_eq_true,if_false,bS]
     rw [List.filter_cons_of_neg (by rw [c1]; simp)]
     simp
    | true =>
     simp only [if_true,bS]
     cases c2:decide (r.1[i]∈q) with
     | true =>
      rw [List.filter_cons_of_neg (by rw [c1,c2]; simp)]
      simp
     | false =>
      rw [List.filter_cons_of_pos (by rw [c1,c2]; simp),z1e (by simp only [List.length_cons,List.length_nil]; omega)]
      simp)
   (fun st hst=>by
    obtain ⟨s,i'⟩:=st
    obtain ⟨g1,g2⟩:=hst
    simp only at g1 g2
    subst g1 g2
    refine ⟨_,?_,rfl⟩
    unfold za2
    rw [if_neg (by simp),List.take_length])
   ([],0) 0 (Nat.zero_le _) ⟨rfl, by simp⟩
  obtain ⟨d,d1,rfl⟩:=main
  unfold zf3
  rw [p2,q2]
  simp only [bS]
  rw [r2]
  simp only [bS]
  rw [d1]
  simp only [bS]
 ·
  rw [List.mem_filter] at hx
  have h4:x∈p:=by
   have:=hx.2
   simp at this
   exact this.1
  exact ((p4 x).1 h4).1
end
section
open Go
variable {g:z00}
def bts (g:z00) (x:ID):List UInt8:=match g.Ops[g.IDs.idxOf x]? with | some o=>zfo o | none=>[]
theorem z15c (G:z4e g) (hw:z1b g) {i:Nat} (hi:i<g.Ops.length):z57 g.Ops[i]=0∧inI g.Ops[i].Act.Value.Num∧g.Ops[i].Act.Value.Text.length≤9223372036854775807:=by
 obtain ⟨w1,w2⟩:=z18k hw (List.getElem_mem hi)
 exact ⟨z97 (G.ops i hi).1,w1,w2⟩
theorem z11t (G:z4e g) {x:ID} (hx:x∈g.IDs):bts g x=zfo (g.Ops[g.IDs.idxOf x]'(zdt G hx)):=by
 unfold bts
 rw [List.getElem?_eq_getElem (zdt G hx)]
theorem zrv (G:z4e g) (hw:z1b g) {x:ID} (hx:x∈g.IDs):(bts g x).length≤400:=by
 rw [z11t G hx]
 obtain ⟨h1,h2,_⟩:=z15c G hw (zdt G hx)
 exact zul h1 h2
theorem zqa (G:z4e g) (hw:z1b g) (h1:z18 g=some 0) {x:ID} (hx:x∈g.IDs):∃ r,zk7 g x=some r∧ze8 r.1=some (bts g x,0):=by
 have hlen:=G.e.len
 have hids:=G.e.ids
 obtain ⟨k,k1,k2,k3⟩:=zda g (by omega) G.e.ri x
 obtain ⟨rfl,hk⟩:=k2 hx
 have hi:=zdt G hx
 have h4:=(G.e.op _ hi).1
 refine ⟨(g.Ops[g.IDs.idxOf x],0),?_,?_⟩
 ·
  unfold zk7
  rw [h1]
  simp only [bS]
  rw [if_neg (by simp),k1,decide_eq_true hx]
  simp only [bS]
  rw [if_neg (by simp),z0b hi]
  simp only [bS]
  unfold zeq
  rw [zgo _ (by omega)]
  rfl
 ·
  obtain ⟨c1,c2,c3⟩:=z15c G hw hi
  rw [z11t G hx]
  exact ztr _ c1 c2 c3
def fr (ops:List (List UInt8)):z2e:=⟨5,0,[],ops⟩
def zjr (ops:List (List UInt8)):List UInt8:=ops.flatMap fun o=>z1r o.length++o
def zoc (ops:List (List UInt8)):List UInt8:=([5]++z1r ops.length)++zjr ops
def okF (ops:List (List UInt8)):Bool:=decide (ops.length≤8)&&decide ((zoc ops).length≤2000)
theorem zmg:∀ (l:List (List UInt8)),(∀ o∈l,o.length≤400)→(zjr l).length≤409 * l.length
 | [],_=>by simp [zjr]
 | o::l,h=>by
  have ih:=zmg l fun q hq=>h q (by simp [hq])
  have ho:=h o (by simp)
  have:=z13 o.length (by omega)
  unfold zjr at *
  rw [List.flatMap_cons]
  simp only [List.length_append,List.length_cons]; omega
theorem zuw (l:List (List UInt8)) (o:List UInt8):zjr (l++[o])=zjr l++(z1r o.length++o):=by
 unfold zjr; rw [List.flatMap_append]; simp
theorem zxr (ops:List (List UInt8)) (h9:ops.length≤9) (hall:∀ o∈ops,o.length≤400):zh8 (fr ops)=some (if okF ops then 0 else 8):=by
 have hn:=z13 ops.length (by omega)
 have hb:=zmg ops hall
 have hL:ops.length≤8→iter (z8a (fr ops)) ([5]++z1r ops.length,true,0)=some (zoc ops,true):=fun h8=>by
  have main:=z1x (F:=z8a (fr ops)) (b:=(zoc ops,true)) ops.length (fun i=>(([5]++z1r ops.length)++zjr (ops.take i),true,(i:Int))) (fun i hi=>?_) ?_
  ·
   simpa [zjr] using main
  ·
   have ho:ops[i].length≤400:=hall _ (List.getElem_mem hi)
   have ht:=zmg (ops.take i) fun o ho=>hall o (List.mem_of_mem_take ho)
   rw [List.length_take] at ht
   have hno:=z13 ops[i].length (by omega)
   unfold z8a
   rw [if_pos rfl,if_pos (by show decide ((i:Int)<((ops.length:Nat):Int))=true; simpa using hi)]
   show (idx ops (i:Int) >>= _)=_
   rw [z0b hi]
   simp only [bS]
   rw [zp5 _ (by omega)]
   simp only [bS]
   rw [z1e (by simp only [List.length_append,List.length_cons,List.length_nil]; omega)]
   simp only [bS]
   show (idx ops (i:Int) >>= _)=_
   rw [z0b hi]
   simp only [bS]
   rw [decide_eq_true (by omega),z0h (by omega),zj8 hi,zuw]
   simp only [List.append_assoc]
  ·
   unfold z8a
   rw [if_pos rfl,if_neg (by show ¬ decide (((ops.length:Nat):Int)<((ops.length:Nat):Int))=true; simp),List.take_length]
   rfl
 have hw:zgy (fr ops)=some (if ops.length≤8 then (zoc ops,decide (((zoc ops).length:Int)≤2000)) else ([5]++z1r ops.length,false)):=by
  unfold zgy
  have e1:zi9 (fr ops).Kind=some false:=rfl
  rw [e1]
  simp only [bS,Bool.false_eq_true,if_false]
  rw [if_pos (by rfl),if_pos (by rfl),if_pos (by rfl)]
  simp only [bS]
  show ((z56 (UInt64.ofInt (ops.length:Int)) >>= fun r24=>app 1 [(5:UInt8)] r24 >>= fun x26=>iter (z8a (fr ops)) (x26,decide ((ops.length:Int)≤8),0)) >>= _)=_
  rw [z7z,zl8 (by omega)]
  simp only [bS]
  rw [z1e (by simp only [List.length_cons,List.length_nil]; omega)]
  simp only [bS]
  by_cases h8:ops.length≤8
  ·
   rw [decide_eq_true (by omega),hL h8,if_pos h8]
   simp only [bS]
   rw [if_pos trivial]
  ·
   rw [decide_eq_false (by omega),if_neg h8,z1o (b:=([5]++z1r ops.length,false)) (by unfold z8a; rw [if_neg (by simp)])]
   simp only [bS]
   rw [if_neg (by simp)]
 unfold zh8
 rw [hw]
 simp only [bS]
 unfold okF
 by_cases h8:ops.length≤8
 ·
  rw [if_pos h8,decide_eq_true h8,Bool.true_and]
  by_cases h2:(zoc ops).length≤2000
  ·
   rw [decide_eq_true h2]
   simp only []
   rw [decide_eq_true (by omega)]; rfl
  ·
   rw [decide_eq_false h2]
   simp only []
   rw [decide_eq_false (by omega)]; rfl
 ·
  rw [if_neg h8,decide_eq_false h8]; rfl
def zje (bs:List (List UInt8)):Nat→Option (List (List (List UInt8)) × List (List UInt8))
 | 0=>none
 | i+1=>match bs[i]? with
  | none=>zje bs i
  | some b=>match zje bs i with
   | none=>some ([],[b])
   | some (a,l)=>if okF (l++[b]) then some (a,l++[b]) else some (a++[l],[b])
theorem ztn (bs:List (List UInt8)) (hb:∀ b∈bs,b.length≤400):∀ i,i≤bs.length→(zje bs i=none∧i=0)∨∃ a l,zje bs i=some (a,l)∧a.length+1≤i∧l≠[]∧l.length≤8∧∀ o∈l,o.length≤400
 | 0,_=>.inl ⟨rfl,rfl⟩
 | i+1,hi=>by
  have hlt:i<bs.length:=by omega
  have hbi:bs[i].length≤400:=hb _ (List.getElem_mem hlt)
  right
  unfold zje
  rw [List.getElem?_eq_getElem hlt]
  rcases ztn bs hb i (by omega) with ⟨h,h0⟩ | ⟨a,l,h,h1,h2,h3,h4⟩
  ·
   simp only [h]
   exact ⟨[],[bs[i]],rfl, by simp, by simp, by simp, fun o ho=>by rw [List.mem_singleton] at ho; rw [ho]; exact hbi⟩
  ·
   simp only [h]
   by_cases hc:okF (l++[bs[i]])=true
   ·
    rw [if_pos hc]
    have h8:(l++[bs[i]]).length≤8:=by unfold okF at hc; simp only [Bool.and_eq_true,decide_eq_true_eq] at hc; exact hc.1
    exact ⟨a,l++[bs[i]],rfl, by omega, by simp,h8, fun o ho=>(List.mem_append.1 ho).elim (h4 o) fun h=>by rw [List.mem_singleton] at h; rw [h]; exact hbi⟩
   ·
    rw [if_neg hc]
    exact ⟨a++[l],[bs[i]],rfl, by simp; omega, by simp, by simp, fun o ho=>by rw [List.mem_singleton] at ho; rw [ho]; exact hbi⟩
theorem zqd (bs:List (List UInt8)) {i:Nat} (hlt:i<bs.length):zje bs (i+1)=match zje bs i with | none=>some ([],[bs[i]]) | some (a,l)=>if okF (l++[bs[i]]) then some (a,l++[bs[i]]) else some (a++[l],[bs[i]]):=by
 rw [zje,List.getElem?_eq_getElem hlt]
def outP:Option (List (List (List UInt8)) × List (List UInt8))→List z2e
 | none=>[]
 | some (a,l)=>a.map fr++[fr l]
theorem z132 (G:z4e g) (hw:z1b g) (h1:z18 g=some 0) (l:List ID) (hin:∀ x∈l,x∈g.IDs) {i:Nat} (hi:i<l.length) (hl:l.length≤60):z5d g l ([],(i:Int))=some (.inr ([fr [bts g l[i]]],((i+1:Nat):Int))):=by
 obtain ⟨r,r1,r2⟩:=zqa G hw h1 (hin _ (List.getElem_mem hi))
 unfold z5d
 rw [if_pos (by simpa using hi)]
 simp only []
 rw [z0b hi]
 simp only [bS]
 rw [r1]
 simp only [bS]
 rw [r2]
 simp only [bS]
 rw [if_neg (by simp)]
 simp only [zub]
 rw [z1e (by simp),z0h (by omega)]
 rfl
theorem z10p (G:z4e g) (hw:z1b g) (h1:z18 g=some 0) (l:List ID) (hin:∀ x∈l,x∈g.IDs) (X:List z2e) (q:List (List UInt8)) (hX:X.length≤100) (g3:q.length≤8) (g4:∀ o∈q,o.length≤400) {i:Nat} (hi:i<l.length) (hl:l.length≤60) :
  z5d g l (X++[fr q],(i:Int))=if okF (q++[bts g l[i]]) then some (.inr (X++[fr (q++[bts g l[i]])],((i+1:Nat):Int))) else some (.inr ((X++[fr q])++[fr [bts g l[i]]],((i+1:Nat):Int))):=by
 obtain ⟨r,r1,r2⟩:=zqa G hw h1 (hin _ (List.getElem_mem hi))
 have hb400:=zrv G hw (hin _ (List.getElem_mem hi))
 have hol:(X++[fr q]).length=X.length+1:=by simp
 have hge:(X++[fr q])[X.length]'(by omega)=fr q:=by
  rw [List.getElem_append_right (by simp)]; simp
 have e1:z69 (fr q).Ops=some q:=by
  unfold z69
  show (app 24 ([]:List (List UInt8)) q >>= _)=_
  rw [z1e (by simp; omega)]; rfl
 have hck:=zxr (q++[bts g l[i]]) (by simp; omega) (fun o ho=>(List.mem_append.1 ho).elim (g4 o) fun h=>by rw [List.mem_singleton] at h; rw [h]; exact hb400)
 have e2:(⟨(fr q).Kind,(fr q).N,(fr q).IDs,q++[bts g l[i]]⟩:z2e)=fr (q++[bts g l[i]]):=rfl
 have e3:(X++[fr q]).set X.length (fr (q++[bts g l[i]]))=X++[fr (q++[bts g l[i]])]:=by
  simp [List.set_append]
 have e4:w64 (((X++[fr q]).length:Int) - 1)=(X.length:Int):=by
  rw [hol,z19 (by omega) (by omega)]; omega
 unfold z5d
 rw [if_pos (by simpa using hi)]
 simp only []
 rw [z0b hi]
 simp only [bS]
 rw [r1]
 simp only [bS]
 rw [r2]
 simp only [bS]
 rw [if_pos (by simp <;> omega),e4,z0b (by omega),hge]
 simp only [bS]
 rw [e1]
 simp only [bS]
 rw [z1e (by simp only [List.length_cons,List.length_nil]; omega)]
 simp only [bS]
 rw [e2]
 by_cases hc:okF (q++[bts g l[i]])=true
 ·
  rw [if_pos hc] at hck
  rw [hck]
  simp only [bS,if_pos hc]
  rw [if_pos (by rfl)]
  simp only [or_l,Int.toNat_natCast]
  rw [z0h (by omega),e3]
 ·
  rw [if_neg hc] at hck
  rw [hck]
  simp only [bS,if_neg hc]
  rw [if_neg (by decide)]
  simp only [zub]
  rw [z1e (by simp; omega),z0h (by omega)]
  rfl
theorem zug (G:z4e g) (hw:z1b g) (h1:z18 g=some 0) (l:List ID) (hl:l.length≤60) (hin:∀ x∈l,x∈g.IDs):zfz g l=some (outP (zje (l.map (bts g)) l.length)):=by
 have hb:∀ b∈l.map (bts g),b.length≤400:=fun b hb=>by
  obtain ⟨x,hx,rfl⟩:=List.mem_map.1 hb
  exact zrv G hw (hin x hx)
 have main:=z1x (F:=z5d g l) (b:=outP (zje (l.map (bts g)) l.length)) l.length (fun i=>(outP (zje (l.map (bts g)) i),(i:Int))) (fun i hi=>?_) ?_
 ·
  unfold zfz
  have e0:(([]:List z2e),(0:Int))=(outP (zje (l.map (bts g)) 0),((0:Nat):Int)):=rfl
  rw [e0,main]
  simp only [bS]
 ·
  have him:i<(l.map (bts g)).length:=by simpa using hi
  have hbi:(l.map (bts g))[i]=bts g l[i]:=by simp
  rw [zqd _ him,hbi]
  rcases ztn (l.map (bts g)) hb i (by omega) with ⟨h,h0⟩ | ⟨a,q,h,g1,g2,g3,g4⟩
  ·
   rw [h]
   exact z132 G hw h1 l hin hi hl
  ·
   rw [h]
   have hs:=z10p G hw h1 l hin (a.map fr) q (by simp; omega) g3 g4 hi hl
   show z5d g l (a.map fr++[fr q],(i:Int))=_
   rw [hs]
   by_cases hc:okF (q++[bts g l[i]])=true
   ·
    simp only [if_pos hc]; rfl
   ·
    simp only [if_neg hc]
    show some (Sum.inr ((a.map fr++[fr q])++[fr [bts g l[i]]],_))=some (Sum.inr ((a++[q]).map fr++[fr [bts g l[i]]],_))
    rw [List.map_append]; rfl
 ·
  unfold z5d
  rw [if_neg (by simp)]
end
section
open Go
variable {g:z00}
theorem z10e (l:List ID) (hl:l.length≤1000):z8o l l=some true:=by
 have main:=z1x (F:=za7 l l) (b:=(.inr ():Sum Bool Unit)) l.length (fun i=>(i:Int)) (fun i hi=>?_) ?_
 ·
  unfold z8o
  rw [if_neg (by simp), show (0:Int)=((0:Nat):Int) from rfl,main]; rfl
 ·
  unfold za7
  rw [if_pos (by simpa using hi),z0b hi,z0h (by omega)]
  simp only [bS]
  rw [if_neg (by simp)]
 ·
  unfold za7
  rw [if_neg (by simp)]
def zpu (c:Int) (a b:List ID):Int:=if c≠0 then c else if 60<a.length then 4 else if 60<b.length then 4 else 0
theorem z10j {c:Int} (h1:z18 g=some c) (a:List ID):zc8 g [a]=some (zpu c a []):=by
 unfold zc8 zpu
 rw [h1]
 simp only [bS]
 by_cases hc:c=0
 ·
  subst hc
  rw [if_neg (by simp),if_neg (by simp)]
  have e0:z3z [a] ((0:Nat):Int)=if decide (60<(a.length:Int)) then some (.inl (.inl 4)) else some (.inr ((1:Nat):Int)):=by
   unfold z3z
   rw [if_pos (by simp),z0b (by simp),z0h (by omega)]
   rfl
  have e1:z3z [a] ((1:Nat):Int)=some (.inl (.inr ())):=by
   unfold z3z
   rw [if_neg (by simp)]
  rw [show (0:Int)=((0:Nat):Int) from rfl]
  by_cases hb:60<a.length
  ·
   rw [if_pos (by simp; omega)] at e0
   rw [z1o e0,if_pos hb]; rfl
  ·
   rw [if_neg (by simp; omega)] at e0
   rw [z21 e0,z1o e1,if_neg hb,if_neg (by simp)]; rfl
 ·
  rw [if_pos (by simpa using hc),if_pos hc]
theorem z11x {c:Int} (h1:z18 g=some c) (a b:List ID):zc8 g [a,b]=some (zpu c a b):=by
 unfold zc8 zpu
 rw [h1]
 simp only [bS]
 by_cases hc:c=0
 ·
  subst hc
  rw [if_neg (by simp),if_neg (by simp)]
  have e0:z3z [a,b] ((0:Nat):Int)=if decide (60<(a.length:Int)) then some (.inl (.inl 4)) else some (.inr ((1:Nat):Int)):=by
   unfold z3z
   rw [if_pos (by simp),z0b (by simp),z0h (by omega)]
   rfl
  have e1:z3z [a,b] ((1:Nat):Int)=if decide (60<(b.length:Int)) then some (.inl (.inl 4)) else some (.inr ((2:Nat):Int)):=by
   unfold z3z
   rw [if_pos (by simp),z0b (by simp),z0h (by omega)]
   rfl
  have e2:z3z [a,b] ((2:Nat):Int)=some (.inl (.inr ())):=by
   unfold z3z
   rw [if_neg (by simp)]
  rw [show (0:Int)=((0:Nat):Int) from rfl]
  by_cases ha:60<a.length
  ·
   rw [if_pos (by simp; omega)] at e0
   rw [z1o e0,if_pos ha]; rfl
  ·
   rw [if_neg (by simp; omega)] at e0
   rw [z21 e0,if_neg ha]
   by_cases hb:60<b.length
   ·
    rw [if_pos (by simp; omega)] at e1
    rw [z1o e1,if_pos hb]; rfl
   ·
    rw [if_neg (by simp; omega)] at e1
    rw [z21 e1,z1o e2,if_neg hb]; rfl
 ·
  rw [if_pos (by simpa using hc),if_pos hc]
theorem z10g {c:Int} (h2:z0e g=some c) (a b:List ID):zd0 g a b=some (zpu c a b):=by
 unfold zd0 zpu
 rw [h2]
 simp only [bS]
 by_cases hc:c=0
 ·
  subst hc
  rw [if_neg (by simp:¬ ((0:Int) != 0)=true),if_neg (fun h:(0:Int)≠0=>h rfl)]
  by_cases ha:60<a.length
  ·
   rw [if_pos (by simp; omega),if_pos ha]
  ·
   rw [if_neg (by simp; omega),if_neg ha]
   by_cases hb:60<b.length
   ·
    rw [if_pos (by simp; omega),if_pos hb]
   ·
    rw [if_neg (by simp; omega),if_neg hb]
 ·
  rw [if_pos (by simpa using hc),if_pos hc]
section
variable {c:Int} (h1:z18 g=some c) (h2:z0e g=some c) (h3:c=0↔z4e g)
include h1 h2 h3
end
end
section
open Go
variable {g a b:z00} {n m:Nat}
theorem z14u (h:z1b g) {o:z08} (ho:o∈g.Ops):zbs o:=h.2.1.1 o ho
theorem z18r (F:Fit g n) (hn:n≤1000) (h:∀ o∈g.Ops,zbs o):z1b g:=by
 have h1:=F.len; have h2:=F.ids
 exact ⟨⟨fun x _ y _=>trivial, by omega⟩,⟨h, by omega⟩,trivial⟩
theorem z156 {o:z08} (h:zbs o):inI o.Act.Value.Num∧o.Act.Value.Text.length≤9223372036854775807:=⟨h.2.2.2.1.2.2.1.2.1,h.2.2.2.1.2.2.1.2.2.2.1⟩
theorem z16x {p:ID × z08} {o:z08} (h:o∈(zm0 g p).Ops):o=p.2∨o∈g.Ops:=by
 unfold zm0 at h
 split at h
 ·
  exact .inr h
 ·
  exact znl.1 h
theorem zts (F:Fit g n) (hn:n≤1000) (l:List ID) (hl:l.length≤1000):z27 l g=some (l.any fun x=>!decide (x∈g.IDs)):=by
 have h1:=F.len; have h2:=F.ids
 have hcl:∀ x,zlk x g=some (!decide (x∈g.IDs)):=fun x=>by
  obtain ⟨k,k1,-⟩:=zda g (by omega) F.ri x
  unfold zlk
  rw [k1]
  simp only [bS]
 have main:=za5 (F:=z1h l g) (fun s=>∃ i:Nat,s=(i:Int)∧i≤l.length∧∀ k (h:k<l.length),k<i→l[k]∈g.IDs) (fun s=>l.length - s.toNat)
  (fun b:Sum Int Unit=>(b=.inr ()∧∀ x∈l,x∈g.IDs)∨∃ i:Nat,b=.inl (i:Int)∧∃ x∈l,x∉g.IDs)
  (fun s hs=>by
   obtain ⟨i,rfl,h1,h2⟩:=hs
   by_cases hi:i<l.length
   ·
    have hF:z1h l g (i:Int)=if !decide (l[i]∈g.IDs) then some (.inl (.inl (i:Int))) else some (.inr ((i+1:Nat):Int)):=by
     unfold z1h
     rw [if_pos (by simpa using hi),z0b hi,z0h (by omega)]
     simp only [bS]
     rw [hcl]
     simp only [bS]
    by_cases hc:l[i]∈g.IDs
    ·
     rw [decide_eq_true hc,if_neg (by simp)] at hF
     refine .inr ⟨_,hF,⟨i+1,rfl,hi, fun k hk hki=>?_⟩, by simp; omega⟩
     by_cases hk':k=i
     ·
      subst hk'; exact hc
     ·
      exact h2 k hk (by omega)
    ·
     rw [decide_eq_false hc,if_pos (by simp)] at hF
     exact .inl ⟨_,hF,.inr ⟨i,rfl,l[i],List.getElem_mem hi,hc⟩⟩
   ·
    refine .inl ⟨.inr (),?_,.inl ⟨rfl, fun x hx=>?_⟩⟩
    ·
     unfold z1h
     rw [if_neg (by simpa using hi)]
    ·
     obtain ⟨k,hk,rfl⟩:=List.getElem_of_mem hx
     exact h2 k hk (by omega))
  0 ⟨0,rfl,Nat.zero_le _, fun k _ h=>by omega⟩
 obtain ⟨r,r1,r2⟩:=main
 unfold z27 z3i
 rw [r1]
 rcases r2 with ⟨rfl,h⟩ | ⟨i,rfl,x,hx,hxn⟩
 ·
  simp only [zub,bS]
  have:(l.any fun x=>!decide (x∈g.IDs))=false:=by
   rw [List.any_eq_false]; intro x hx; simp [h x hx]
  rw [this]; rfl
 ·
  simp only [or_l,bS]
  have:(l.any fun x=>!decide (x∈g.IDs))=true:=by
   rw [List.any_eq_true]; exact ⟨x,hx, by simp [hxn]⟩
  rw [this]; simp
theorem z14e (F:Fit g n) (hn:n≤59) (hc:z18 g=some 0) {p:ID × z08} (hw:zbs p.2) (hp:p.2.Preds.length≤20) (h1:zgw p.2=0) (h2:sha (zfo p.2)=p.1) (hx:p.1∉g.IDs) (hq:∀ q∈p.2.Preds,q∈g.IDs):zow g p.2=some (zm0 g p,p.1,0):=by
 obtain ⟨w1,w2⟩:=z156 hw
 have hl:=F.len
 have hany:(p.2.Preds.any fun x=>!decide (x∈g.IDs))=false:=by
  rw [List.any_eq_false]; intro x hx; simp [hq x hx]
 unfold zow
 rw [hc]
 simp only [bS]
 rw [if_pos (by simp),zoe _ w1 w2,h1]
 simp only [bS]
 rw [if_neg (by simp),z12j _ w1 w2,if_pos (z97 h1),h2]
 simp only [bS]
 rw [z11d F (by omega) p hp,decide_eq_false hx]
 simp only [bS]
 rw [if_neg (by simp),zts F (by omega) _ (by omega),hany]
 simp only [bS]
 rw [if_neg (by simp),if_neg (by simp; omega)]
theorem z16k (F:Fit g n) (hn:n≤59) (hc:z0e g=some 0) {p:ID × z08} (hw:zbs p.2) (hp:p.2.Preds.length≤20∧p.2.Act.Key.length≤100∧p.2.Act.Value.Text.length≤100) (h1:zgw p.2=0) (h2:sha (zfo p.2)=p.1) (hx:p.1∉g.IDs) (hq:∀ q∈p.2.Preds,q∈g.IDs):zbu g p.2=some (zm0 g p,p.1,0):=by
 obtain ⟨w1,w2⟩:=z156 hw
 have hl:=F.len; have hi:=F.ids
 have hall:(p.2.Preds.all fun x=>decide (x∈g.IDs))=true:=by
  rw [List.all_eq_true]; intro x hx; simpa using hq x hx
 unfold zbu
 rw [hc]
 simp only [bS]
 rw [if_neg (by simp),zia _ w1 w2,h1]
 simp only [bS]
 rw [if_neg (by simp),zni _ (z97 h1) w1,h2]
 simp only [bS]
 rw [zxg (by omega) hx]
 simp only [bS]
 rw [if_neg (by simp),zsf _ _ (by omega) (by omega),hall]
 simp only [bS]
 rw [if_neg (by simp),if_neg (by simp; omega),zri F (by omega) p hp hx]
 simp only [bS]
theorem zxt (G:z4e g) (F:Fit g n) {l:List ID} {y p:ID} {o:z08} (h:z67 g l y) (ho:z4z g y=some o) (hp:p∈o.Preds):z67 g l p:=by
 have S:=znx G F
 have hpm:=S.ins y o ho p hp
 obtain ⟨i,i1,i2⟩:=(za6 F).1 ho
 obtain ⟨hi,rfl⟩:=List.getElem?_eq_some_iff.1 i1
 obtain ⟨hio,rfl⟩:=List.getElem?_eq_some_iff.1 i2
 have hpp:g.IDs.idxOf p∈z17 g (g.IDs.idxOf g.IDs[i]):=by
  rw [z6c F.ri hi]
  unfold z17
  exact List.mem_map.2 ⟨p, by rw [z5c hio]; exact hp,rfl⟩
 refine ⟨hpm,.inr ?_⟩
 rcases h.2 with hl | ⟨x,hx,hxg,hr⟩
 ·
  exact ⟨_,hl,h.1,.base hpp⟩
 ·
  exact ⟨x,hx,hxg,.step hr hpp⟩
theorem zk1 {α:Type} (f:α→Bool):∀ (l:List α) (i:Nat) (h:i<(l.filter f).length),∃ k,∃ hk:k<l.length,l[k]=(l.filter f)[i]∧(l.take k).filter f=(l.filter f).take i
 | [],i,h=>by simp at h
 | x::l,i,h=>by
  by_cases hx:f x=true
  ·
   cases i with
   | zero=>exact ⟨0, by simp, by simp [List.filter_cons_of_pos hx], by simp⟩
   | succ i =>
    have h':i<(l.filter f).length:=by rw [List.filter_cons_of_pos hx] at h; simpa using h
    obtain ⟨k,hk,e1,e2⟩:=zk1 f l i h'
    exact ⟨k+1, by simpa using hk, by simp [List.filter_cons_of_pos hx,e1], by simp [List.filter_cons_of_pos hx,e2]⟩
  ·
   have h':i<(l.filter f).length:=by rw [List.filter_cons_of_neg hx] at h; exact h
   obtain ⟨k,hk,e1,e2⟩:=zk1 f l i h'
   exact ⟨k+1, by simpa using hk, by simp [List.filter_cons_of_neg hx,e1], by simp [List.filter_cons_of_neg hx,e2]⟩
structure zkx (g:z00) (l r d:List ID):Prop where
 len:d.length≤60
 nd:d.Nodup
 mem:∀ x,x∈d↔z67 g l x∧¬ z67 g r x
 topo:∀ i (h:i<d.length) o,z4z g d[i]=some o→∀ p∈o.Preds,p∈d.take i∨z67 g r p
theorem zu9 (G:z4e g) (F:Fit g n) (h1:z18 g=some 0) (h2:z0e g=some 0) (l r:List ID) (hl:l.length≤60) (hr:r.length≤60):∃ d,zdf g l r=some d∧zf3 g l r=some d∧zkx g l r d:=by
 obtain ⟨d,d1,d2,d3,-⟩:=z12c G h1 h2 ⟨fun _=>G, fun _=>rfl⟩ l r hl hr
 refine ⟨d,d1,d2,?_⟩
 obtain ⟨p,p1,-,_,p3,p4⟩:=zis G h1 h2 l hl
 obtain ⟨q,q1,-,_,q3,q4⟩:=zis G h1 h2 r hr
 obtain ⟨Q,Q1,Q2,Q3⟩:=zrm G h1
 obtain ⟨Qg,Qt⟩:=Q2.got
 have hlen:=G.e.len
 have hd:d=(Q.map (zc5 g)).filter fun x=>!(!decide (x∈p) || decide (x∈q)):=by
  unfold zdf at d1
  rw [p1,q1] at d1
  simp only [bS] at d1
  rw [Q1] at d1
  simp only [bS] at d1
  rw [z105 p q (fun x=>!decide (x∈p) || decide (x∈q)) (fun x=>by
   unfold zar
   rw [zas _ _ (by omega),zas _ _ (by omega)]
   simp only [bS]
   cases decide (x∈p) <;> rfl) _ (by simp; omega)] at d1
  simp only [bS] at d1
  exact (Option.some.inj d1).symm
 have hmemQ:∀ x,x∈Q.map (zc5 g)↔x∈g.IDs:=fun x=>by
  constructor
  ·
   intro hx
   obtain ⟨i,hi,rfl⟩:=List.mem_map.1 hx
   have:=Qg.lt i hi
   rw [z5a (by rw [F.ids]; exact this)]
   exact List.getElem_mem _
  ·
   intro hx
   have hlt:g.IDs.idxOf x<g.Ops.length:=zdt G hx
   refine List.mem_map.2 ⟨g.IDs.idxOf x,?_,zaz hx⟩
   refine Classical.byContradiction fun hno=>?_
   have:=z75 (Q++[g.IDs.idxOf x]) (List.range g.Ops.length) (by
    rw [List.nodup_append]; exact ⟨Qg.nodup, by simp, fun a ha c hc e=>by rw [List.mem_singleton] at hc; subst hc; subst e; exact hno ha⟩) (fun y hy=>by
    rcases List.mem_append.1 hy with hy | hy
    ·
     simpa using Qg.lt y hy
    ·
     rw [List.mem_singleton] at hy; subst hy; simpa using hlt)
   rw [List.length_append,List.length_range,Q3] at this
   simp at this
   omega
 have hndQ:(Q.map (zc5 g)).Nodup:=by
  rw [List.Nodup,List.pairwise_map]
  exact Qg.nodup.imp_of_mem fun {a b} ha hb hne e=>hne (by rw [← zd4 G.e (Qg.lt a ha),e,zd4 G.e (Qg.lt b hb)])
 have hf:∀ x,(!(!decide (x∈p) || decide (x∈q)))=true↔z67 g l x∧¬ z67 g r x:=fun x=>by
  rw [← p4,← q4]; simp
 refine ⟨d3,hd ▸ hndQ.sublist List.filter_sublist, fun x=>?_, fun i hi o ho y hy=>?_⟩
 ·
  rw [hd,List.mem_filter,hmemQ,hf]
  exact ⟨fun h=>h.2, fun h=>⟨h.1.1,h⟩⟩
 ·
  by_cases hb:z67 g r y
  ·
   exact .inr hb
  refine .inl ?_
  subst hd
  obtain ⟨k,hk,e1,e2⟩:=zk1 _ _ i hi
  rw [← e2,List.mem_filter,hf]
  have hxd:((Q.map (zc5 g)).filter fun x=>!(!decide (x∈p) || decide (x∈q)))[i]∈(Q.map (zc5 g)).filter fun x=>!(!decide (x∈p) || decide (x∈q)):=List.getElem_mem hi
  rw [List.mem_filter,hf] at hxd
  have hbl:=zxt G F hxd.2.1 ho hy
  refine ⟨?_,hbl,hb⟩
  have hkQ:k<Q.length:=by simpa using hk
  rw [List.map_take.symm]
  have hxk:zc5 g Q[k]=((Q.map (zc5 g)).filter fun x=>!(!decide (x∈p) || decide (x∈q)))[i]:=by rw [← e1]; simp
  have hlt:=Qg.lt Q[k] (List.getElem_mem hkQ)
  obtain ⟨j,j1,j2⟩:=(za6 F).1 ho
  obtain ⟨hj,ej⟩:=List.getElem?_eq_some_iff.1 j1
  obtain ⟨hjo,rfl⟩:=List.getElem?_eq_some_iff.1 j2
  have hjk:j=Q[k]:=by
   have:=z6c F.ri hj
   rw [ej,← hxk,zd4 G.e hlt] at this
   exact this.symm
  have hpp:g.IDs.idxOf y∈z17 g Q[k]:=by
   unfold z17
   refine List.mem_map.2 ⟨y,?_,rfl⟩
   rw [← hjk,z5c hjo]; exact hy
  exact List.mem_map.2 ⟨_,Qt k hkQ _ hpp,zaz hbl.1⟩
structure Mid (a b s:z00) (d:List ID) (i:Nat):Prop where
 fit:Fit s (16+i)
 sound:znc s
 wf:∀ o∈s.Ops,zbs o
 ids:∀ x,x∈s.IDs↔x∈b.IDs∨x∈d.take i
 look:∀ x o,z4z s x=some o→z4z a x=some o∨z4z b x=some o
theorem zu0:Fit (⟨[],[]⟩:z00) 0:=⟨rfl,Nat.le_refl _,rfl, fun o ho=>by simp at ho⟩
theorem z10n (F:Fit g n) (hn:n≤1000) (hc:z18 g=some 0) {x:ID} {o:z08} (ho:z4z g x=some o):zk7 g x=some (o,0):=by
 have h1:=F.len; have h2:=F.ids
 have hx:=(zh2 ho).1
 obtain ⟨k,k1,k2,-⟩:=zda g (by omega) F.ri x
 obtain ⟨rfl,hk⟩:=k2 hx
 have hko:g.IDs.idxOf x<g.Ops.length:=by omega
 have e:g.Ops[g.IDs.idxOf x]=o:=by
  unfold z4z at ho
  rw [if_pos hx,List.getElem?_eq_getElem hko] at ho
  exact Option.some.inj ho
 unfold zk7
 rw [hc]
 simp only [bS]
 rw [if_neg (by simp),k1,decide_eq_true hx]
 simp only [bS]
 rw [if_neg (by simp),z0b hko]
 simp only [bS]
 rw [e,zkr (by have:=(F.op o (zh2 ho).2).1; omega)]
 simp only [bS]
theorem zlr (Ga:z4e a) (Fa:Fit a n) (Gb:z4e b) (Fb:Fit b m) (hc:z86 a b) {l:List ID} (hl:∀ x∈l,x∈b.IDs) {x:ID} (h:z67 a l x):x∈b.IDs:=by
 have Sb:=znx Gb Fb
 have step:∀ y p,y∈b.IDs→y∈a.IDs→a.IDs.idxOf p∈z17 a (a.IDs.idxOf y)→p∈a.IDs→p∈b.IDs:=fun y p hy hya hp hpa=>by
  obtain ⟨o,ho⟩:=zav Fa hya
  obtain ⟨q,hq⟩:=zav Fb hy
  have:=(zd8 Fa Fb).1 hc y o q ho hq
  subst this
  obtain ⟨i,i1,i2⟩:=(za6 Fa).1 ho
  obtain ⟨hi,rfl⟩:=List.getElem?_eq_some_iff.1 i1
  obtain ⟨hio,rfl⟩:=List.getElem?_eq_some_iff.1 i2
  rw [z6c Fa.ri hi] at hp
  unfold z17 at hp
  obtain ⟨z,hz,e⟩:=List.mem_map.1 hp
  rw [z5c hio] at hz
  have:z=p:=ze9 hpa e
  subst this
  exact Sb.ins _ _ hq z hz
 obtain ⟨hxa,h⟩:=h
 rcases h with h | ⟨y,hy,hya,hr⟩
 ·
  exact hl x h
 ·
  have key:∀ j,Rch (z17 a) (z17 a (a.IDs.idxOf y)) j→j<a.Ops.length∧zc5 a j∈b.IDs:=fun j hj=>by
   induction hj with
   | @base i hi =>
    have hi':=hi
    unfold z17 at hi'
    obtain ⟨z,hz,e⟩:=List.mem_map.1 hi'
    have hza:=z8k Ga.ins _ z hz
    have hlt:i<a.Ops.length:=by rw [← e]; exact zdt Ga hza
    refine ⟨hlt,?_⟩
    have:zc5 a i=z:=by rw [← e]; exact zaz hza
    rw [this]
    exact step y z (hl y hy) hya (by rw [e]; exact hi) hza
   | @step i p hr hp ih =>
    have hp':=hp
    unfold z17 at hp'
    obtain ⟨z,hz,e⟩:=List.mem_map.1 hp'
    have hza:=z8k Ga.ins _ z hz
    have hlt:p<a.Ops.length:=by rw [← e]; exact zdt Ga hza
    refine ⟨hlt,?_⟩
    have:zc5 a p=z:=by rw [← e]; exact zaz hza
    rw [this]
    have hia:zc5 a i∈a.IDs:=by rw [z5a (by rw [Fa.ids]; exact ih.1)]; exact List.getElem_mem _
    refine step (zc5 a i) z ih.2 hia ?_ hza
    rw [zd4 Ga.e ih.1,e]; exact hp
  have:=(key _ hr).2
  rw [zaz hxa] at this
  exact this
theorem z12z (Ga:z4e a) (Fa:Fit a n) (wa:z1b a) (Gb:z4e b) (Fb:Fit b m) (hcl:z86 a b) {l r:List ID} (hr:∀ x∈r,x∈b.IDs) {d:List ID} (P:zkx a l r d) {s:z00} {i:Nat} (hi:i<d.length) (hd:d.length≤16) (M:Mid a b s d i) :
  (d[i]∈b.IDs∧d[i]∈s.IDs∧Mid a b s d (i+1))∨(∃ o,d[i]∉b.IDs∧d[i]∉s.IDs∧z4z a d[i]=some o∧zow s o=some (zm0 s (d[i],o),d[i],0)∧zbu s o=some (zm0 s (d[i],o),d[i],0)∧Mid a b (zm0 s (d[i],o)) d (i+1)):=by
 have htk:d.take (i+1)=d.take i++[d[i]]:=by rw [List.take_add_one,List.getElem?_eq_getElem hi]; rfl
 by_cases hb:d[i]∈b.IDs
 ·
  refine .inl ⟨hb,(M.ids _).2 (.inl hb),⟨M.fit.ids, by have:=M.fit.len; omega,M.fit.ri,M.fit.op⟩,M.sound,M.wf, fun x=>?_,M.look⟩
  rw [M.ids,htk,List.mem_append,List.mem_singleton]
  constructor
  ·
   rintro (h | h) <;> simp [h]
  ·
   rintro (h | h | rfl)
   ·
    exact .inl h
   ·
    exact .inr h
   ·
    exact .inl hb
 ·
  have hbel:=((P.mem _).1 (List.getElem_mem hi)).1
  obtain ⟨o,ho⟩:=zav Fa hbel.1
  have hxs:d[i]∉s.IDs:=fun h=>by
   rcases (M.ids _).1 h with h | h
   ·
    exact hb h
   ·
    obtain ⟨j,hj,e⟩:=List.getElem_of_mem h
    rw [List.length_take] at hj
    rw [List.getElem_take] at e
    have:=zp0 P.nd (by omega) hi e
    omega
  have Sa:=znx Ga Fa
  obtain ⟨k1,k2,k3,k4⟩:=Sa.ops _ o ho
  have hop:=Fa.op o (zh2 ho).2
  have hq:∀ q∈o.Preds,q∈s.IDs:=fun q hq=>by
   rw [M.ids]
   rcases P.topo i hi o ho q hq with h | h
   ·
    exact .inr h
   ·
    exact .inl (zlr Ga Fa Gb Fb hcl hr h)
  have hw:=z14u wa (zh2 ho).2
  have Fs:Fit s 60:=⟨M.fit.ids, by have:=M.fit.len; omega,M.fit.ri,M.fit.op⟩
  have Gs:=zo2 Fs M.sound
  obtain ⟨c,c1,c2,c3⟩:=zha (z18r M.fit (by omega) M.wf)
  have hc0:=c3.2 Gs
  subst hc0
  refine .inr ⟨o,hb,hxs,ho,z14e M.fit (by omega) c1 (p:=(d[i],o)) hw hop.1 k1 k2 hxs hq,z16k M.fit (by omega) c2 (p:=(d[i],o)) hw hop k1 k2 hxs hq,zj3 M.fit hop,z109 M.fit M.sound (p:=(d[i],o)) hop hxs ⟨k1,k2,k3,k4⟩ hq, fun q hq'=>?_, fun x=>?_, fun x q hx=>?_⟩
  ·
   rcases z16x hq' with rfl | h
   ·
    exact hw
   ·
    exact M.wf q h
  ·
   rw [zv4 M.fit,M.ids,htk,List.mem_append,List.mem_singleton]
   constructor
   ·
    rintro (h | h | h) <;> simp [h]
   ·
    rintro (h | h | h) <;> simp [h]
  ·
   rw [zrf M.fit hop hxs] at hx
   split at hx
   ·
    rename_i e
    cases hx
    subst e
    exact .inl ho
   ·
    exact M.look x q hx
end
section
open Go
variable {g a b:z00} {n m:Nat}
theorem z14l (Fa:Fit a n) (hn:n≤1000) {d:List ID} {s:z00} {i:Nat} (hi:i<d.length) (hs:s.IDs.length≤1000) (hx:d[i]∈s.IDs) (s0:z00 × Int) (h0:s0.2=(i:Int)):iter (z3h a d s0) (s,0)=some s:=by
 have h1:=Fa.len; have h2:=Fa.ids
 refine z1x (F:=z3h a d s0) (b:=s) a.IDs.length (fun j=>(s,(j:Int))) (fun j hj=>?_) ?_
 ·
  unfold z3h
  simp only []
  rw [if_pos (by simpa using hj),z0b hj,h0,z0b hi]
  simp only [bS]
  rw [in27 _ _ (by omega),decide_eq_true hx,z0h (by omega)]
  simp only [bS]
  by_cases e:a.IDs[j]=d[i]
  ·
   rw [if_pos (by simpa using e)]; simp only [bS]; rw [if_neg (by simp)]
  ·
   rw [if_neg (by simpa using e)]; simp only [bS]; rw [if_neg (by simp)]
 ·
  unfold z3h
  rw [if_neg (by simp)]
theorem z10x (Fa:Fit a n) (hn:n≤1000) {d:List ID} {s s':z00} {i:Nat} (hi:i<d.length) (hs:s.IDs.length≤1000) (hx:d[i]∉s.IDs) {o:z08} (ho:z4z a d[i]=some o) {y:ID} {c:Int} (hadd:zbu s o=some (s',y,c)) (s0:z00 × Int) (h0:s0.2=(i:Int)):iter (z3h a d s0) (s,0)=some s':=by
 have h1:=Fa.len; have h2:=Fa.ids
 obtain ⟨k,k1,k2⟩:=(za6 Fa).1 ho
 obtain ⟨hk,ek⟩:=List.getElem?_eq_some_iff.1 k1
 obtain ⟨hko,eo⟩:=List.getElem?_eq_some_iff.1 k2
 refine z1x (F:=z3h a d s0) (b:=s') a.IDs.length (fun j=>(if j≤k then s else s',(j:Int))) (fun j hj=>?_) ?_
 ·
  unfold z3h
  simp only []
  rw [if_pos (by simpa using hj),z0b hj,h0,z0b hi]
  simp only [bS]
  by_cases e:j=k
  ·
   subst e
   rw [if_pos (by simpa using ek),if_pos (Nat.le_refl _),in27 _ _ (by omega),decide_eq_false hx]
   simp only [bS]
   rw [if_pos (by simp),z0b hko,eo]
   simp only [bS]
   rw [hadd,z0h (by omega),if_neg (by omega)]
   simp only [bS]
  ·
   have hne:a.IDs[j]≠d[i]:=fun h=>e (zx6 Fa.ri hj hk (h.trans ek.symm))
   rw [if_neg (by simpa using hne),z0h (by omega)]
   simp only [bS]
   rw [if_neg (by simp)]
   by_cases h:j<k
   ·
    rw [if_pos (by omega),if_pos (by omega)]
   ·
    rw [if_neg (by omega),if_neg (by omega)]
 ·
  unfold z3h
  simp only []
  rw [if_neg (by simp),if_neg (by omega)]
theorem zym (Ga:z4e a) (Fa:Fit a n) (hn:n≤60) (wa:z1b a) (ha:z18 a=some 0) (Gb:z4e b) (Fb:Fit b m) (hm:m≤60) (hcl:z86 a b) {l r:List ID} (hr:∀ x∈r,x∈b.IDs) {d:List ID} (P:zkx a l r d) (hd:d.length≤16) :
  ∀ k i s,d.length - i=k→i≤d.length→Mid a b s d i→∃ s',iter (z9g a b d) (s,(i:Int))=some s'∧iter (z5n a d) (s,(i:Int))=some s'∧Mid a b s' d d.length:=by
 have hb1:=Fb.len; have hb2:=Fb.ids
 intro k
 induction k with
 | zero =>
  intro i s hk hi M
  have:i=d.length:=by omega
  subst this
  refine ⟨s,z1o ?_,z1o ?_,M⟩
  ·
   unfold z9g; rw [if_neg (by simp)]
  ·
   unfold z5n; rw [if_neg (by simp)]
 | succ k ih =>
  intro i s hk hi M
  have hid:i<d.length:=by omega
  have hsl:=M.fit.len; have hsi:=M.fit.ids
  rcases z12z Ga Fa wa Gb Fb hcl hr P hid hd M with ⟨hb,hs,M'⟩ | ⟨o,hb,hs,ho,h1,h2,M'⟩
  ·
   have hF:z9g a b d (s,(i:Int))=some (.inr (s,((i+1:Nat):Int))):=by
    unfold z9g
    simp only []
    rw [if_pos (by simpa using hid),z0b hid]
    simp only [bS]
    rw [zas _ _ (by omega),decide_eq_true hb,z0h (by omega)]
    simp only [bS]
    rfl
   have hG:z5n a d (s,(i:Int))=some (.inr (s,((i+1:Nat):Int))):=by
    unfold z5n
    simp only []
    rw [if_pos (by simpa using hid),z14l Fa (by omega) hid (by omega) hs _ rfl,z0h (by omega)]
    simp only [bS]
   rw [z21 hF,z21 hG]
   exact ih (i+1) s (by omega) (by omega) M'
  ·
   have hF:z9g a b d (s,(i:Int))=some (.inr (zm0 s (d[i],o),((i+1:Nat):Int))):=by
    unfold z9g
    simp only []
    rw [if_pos (by simpa using hid),z0b hid]
    simp only [bS]
    rw [zas _ _ (by omega),decide_eq_false hb]
    simp only [bS]
    rw [if_neg (by simp),z10n Fa (by omega) ha ho]
    simp only [bS]
    rw [h1,z0h (by omega)]
    simp only [bS]
   have hG:z5n a d (s,(i:Int))=some (.inr (zm0 s (d[i],o),((i+1:Nat):Int))):=by
    unfold z5n
    simp only []
    rw [if_pos (by simpa using hid),z10x Fa (by omega) hid (by omega) hs ho h2 _ rfl,z0h (by omega)]
    simp only [bS]
   rw [z21 hF,z21 hG]
   exact ih (i+1) _ (by omega) (by omega) M'
theorem zuu:znc (⟨[],[]⟩:z00):=⟨fun x o h=>by simp [z4z] at h, fun x o h=>by simp [z4z] at h, fun _=>0, fun x o h=>by simp [z4z] at h⟩
theorem zq5:z4e (⟨[],[]⟩:z00):=zo2 (g:=⟨[],[]⟩) ⟨rfl, by simp,rfl, fun o ho=>by simp at ho⟩ zuu
theorem zoh:z18 (⟨[],[]⟩:z00)=some 0∧z0e (⟨[],[]⟩:z00)=some 0:=by
 obtain ⟨c,c1,c2,c3⟩:=zha (g:=⟨[],[]⟩) (z18r zu0 (by omega) fun o ho=>by simp at ho)
 have:=c3.2 zq5
 subst this
 exact ⟨c1,c2⟩
theorem zuj (Gb:z4e b) (hb:z18 b=some 0) (hb':z0e b=some 0) (Fb:Fit b m) (hm:m≤60):zbo b (⟨[],[]⟩:z00)=some (b,0):=by
 obtain ⟨r,r1,-,r3⟩:=zm7 Gb zq5 hb zoh.1 hb' zoh.2 Fb zu0 (by omega)
 rcases r3 with ⟨-,h⟩ | ⟨rfl,-⟩
 ·
  exact absurd (fun i hi=>by simp at hi) h
 ·
  exact r1
theorem zyg (G:z4e g) (h2:z0e g=some 0) (l:List ID) (hl:l.length≤60):∃ d,zdb g l=some d∧zht g l=some (d,0)∧d.length≤l.length∧∀ x,x∈d↔x∈l∧x∉g.IDs:=by
 obtain ⟨d,d1,d2,d3⟩:=zqm G.e l hl
 obtain ⟨e,e1,e2,e3⟩:=z12l G.e l hl
 have:d=e:=zcp _ _ ((z8c _).1 d2) ((z8c _).1 e2) fun y=>by rw [d3,e3]
 subst this
 refine ⟨d,d1,?_,z75 _ _ (z91 d2) fun x hx=>((d3 x).1 hx).1,d3⟩
 have hk:zpu 0 l []=0:=by unfold zpu; rw [if_neg (by simp),if_neg (by omega),if_neg (by simp)]
 unfold zht
 rw [z10g h2,hk]
 simp only [bS]
 rw [if_neg (by simp),e1]
 simp only [bS]
theorem zir (G:z4e g) (h1:z18 g=some 0) (h2:z0e g=some 0):∃ r,zbt g=some (r,0)∧z9n g=some (r,0)∧r.length≤60∧r=z6v g (top g g.Ops.length):=by
 have hlen:=G.e.len
 have hids:=G.e.ids
 obtain ⟨r,p1,p2⟩:=zpf G.e
 have hl:=zr4 (g:=g) (zmx G.e (top g g.Ops.length)) fun y hy=>((zcb G.e).1 hy).1
 have d0:((0:Int) != 0)=false:=rfl
 unfold zbt z9n
 rw [h1,h2]
 simp only [bS]
 simp only [d0,Bool.false_eq_true,if_false]
 rw [p1,z12t G.e G.ins]
 simp only [bS]
 rw [zjv (by omega) (by omega),hids]
 simp only [bS]
 rw [z1ae _ (by omega)]
 simp only [bS]
 rw [zxq G.e G.ins p2]
 simp only [bS]
 rw [zz2 G.e]
 exact ⟨_,rfl,rfl, by omega,rfl⟩
theorem zu5 (Fa:Fit a n) (Fb:Fit b m) (h:z86 a b):z86 b a:=(zd8 Fb Fa).2 fun x o q ho hq=>((zd8 Fa Fb).1 h x q o hq ho).symm
theorem z16s {c d:Int} (ha':z0e a=some c) (hb':z0e b=some d) {r:z00 × Int} (hr:z2q a b=some r) (hc:c≠0→r.2=c) (hd:c=0→d≠0→r.2=d):zah a b=some r.2:=by
 unfold zah
 rw [ha',hb']
 simp only [bS]
 by_cases h1:c=0
 ·
  rw [if_neg (by simpa using h1)]
  by_cases h2:d=0
  ·
   rw [if_neg (by simpa using h2),hr]
   simp only [bS]
  ·
   rw [if_pos (by simpa using h2),hd h1 h2]
 ·
  rw [if_pos (by simpa using h1),hc h1]
end
section
open Go
variable {g:z00}
theorem z13t (G:z4e g) {k p:Nat} (h:p∈z17 g k):k<g.Ops.length∧p<g.Ops.length:=by
 refine ⟨?_,(z11k G.e G.ins).lt k p h⟩
 refine Nat.lt_of_not_le fun hc=>?_
 unfold z17 zmm at h
 rw [List.getElem?_eq_none hc] at h
 simp at h
theorem zo6 {n x:Nat}:top g n x=true↔∀ k,k<n→x∉z17 g k:=by
 unfold top
 rw [List.all_eq_true]
 constructor
 ·
  intro h k hk hx
  have:=h k (by simpa using hk)
  simp [hx] at this
 ·
  intro h k hk
  have:=h k (by simpa using hk)
  simp [this]
theorem zrk (G:z4e g) (hc:z18 g=some 0):∀ i,i<g.Ops.length→∃ t,t<g.Ops.length∧top g g.Ops.length t=true∧Rch (z17 g) [t] i:=by
 obtain ⟨Q,q1,q2,q3⟩:=zrm G hc
 obtain ⟨got,topo⟩:=q2.got
 have hall:∀ i,i<g.Ops.length→i∈Q:=(zns got.nodup got.lt).1 (by omega)
 have key:∀ m i,g.Ops.length - Q.idxOf i=m→i<g.Ops.length→∃ t,t<g.Ops.length∧top g g.Ops.length t=true∧Rch (z17 g) [t] i:=by
  intro m
  induction m using Nat.strongRecOn with
  | _ m ih =>
   intro i hm hi
   cases ht:top g g.Ops.length i with
   | true=>exact ⟨i,hi,ht,.base (by simp)⟩
   | false =>
    have:∃ k,k<g.Ops.length∧i∈z17 g k:=by
     refine Classical.byContradiction fun hn=>?_
     have:top g g.Ops.length i=true:=zo6.2 fun k hk hx=>hn ⟨k,hk,hx⟩
     rw [ht] at this; simp at this
    obtain ⟨k,hk,hx⟩:=this
    have hkQ:=List.idxOf_lt_length_of_mem (hall k hk)
    have hlt:Q.idxOf i<Q.idxOf k:=by
     have h1:=topo (Q.idxOf k) hkQ i (by rw [List.getElem_idxOf]; exact hx)
     obtain ⟨j,hj,e⟩:=List.getElem_of_mem h1
     rw [List.length_take] at hj
     rw [List.getElem_take] at e
     have h2:Q.idxOf i≤j:=by
      refine Nat.le_of_not_lt fun c=>?_
      have h3:=List.idxOf_lt_length_of_mem (hall i hi)
      have:=(List.getElem_inj (xs:=Q) (i:=j) (j:=Q.idxOf i) (h₀:=by omega) (h₁:=h3) got.nodup).1 (by rw [e,List.getElem_idxOf])
      omega
     omega
    obtain ⟨t,t1,t2,t3⟩:=ih _ (by omega) k rfl hk
    exact ⟨t,t1,t2,.step t3 hx⟩
 exact fun i hi=>key _ i rfl hi
end
section
open Go
variable {a b g:z00} {n m:Nat}
theorem ztd (Ga:z4e a) (Fa:Fit a n) (Gb:z4e b) (Fb:Fit b m) (hc:z86 a b) {t:ID} (ht:t∈b.IDs) (hta:t∈a.IDs) {x:ID} (hx:x∈a.IDs) (hr:Rch (z17 a) [a.IDs.idxOf t] (a.IDs.idxOf x)):x∈b.IDs :=
 zlr Ga Fa Gb Fb hc (l:=[t]) (fun z hz=>by rw [List.mem_singleton] at hz; subst hz; exact ht) ⟨hx, by
  rcases zgh.1 hr with h | ⟨s,h1,h2⟩
  ·
   rw [List.mem_singleton] at h
   exact .inl (by rw [List.mem_singleton]; exact ze9 hta h)
  ·
   rw [List.mem_singleton] at h1
   subst h1
   exact .inr ⟨t, by simp,hta,h2⟩⟩
theorem zti (Ga:z4e a) (Gb:z4e b) (wa:z1b a) (wb:z1b b) (ha:z18 a=some 0) (hb:z18 b=some 0) (ha':z0e a=some 0) (hb':z0e b=some 0) (Fa:Fit a 16) (Fb:Fit b 16) (hcl:z86 a b) :
  ∃ w d,zd9 a b=some (zce a b,((outP (zje (d.map (bts a)) d.length)).length:Int))∧zkx a w (z6v b (top b b.Ops.length)) d∧(∀ x,x∈w↔x∈z6v a (top a a.Ops.length)∧x∉b.IDs)∧d.length≤16:=by
 obtain ⟨x,x1,x2,x3,x4⟩:=zir Ga ha ha'
 obtain ⟨y,y1,y2,y3,y4⟩:=zir Gb hb hb'
 obtain ⟨w,w1,w2,w3,w4⟩:=zyg Gb hb' x x3
 obtain ⟨d,d1,d2,P⟩:=zu9 Ga Fa ha ha' w y (by omega) y3
 have hyb:∀ z∈y,z∈b.IDs:=fun z hz=>by rw [y4] at hz; exact ((zcb Gb.e).1 hz).1
 have hdin:∀ z∈d,z∈a.IDs:=fun z hz=>((P.mem z).1 hz).1.1
 have hd16:d.length≤16:=by
  have:=z75 _ _ P.nd hdin
  have:=Fa.len; have:=Fa.ids
  omega
 have M0:Mid a b b d 0:=⟨⟨Fb.ids, by have:=Fb.len; omega,Fb.ri,Fb.op⟩,znx Gb Fb, fun o ho=>z14u wb ho, fun z=>by simp, fun z o h=>.inr h⟩
 obtain ⟨s,s1,s2,M⟩:=zym Ga Fa (by omega) wa ha Gb Fb (by omega) hcl hyb P hd16 _ 0 b rfl (Nat.zero_le _) M0
 have hs:s=zce a b:=by
  refine zlt M.fit (zof Fa Fb) fun z=>?_
  rw [zme Fa Fb]
  have hM:=M.ids z
  rw [List.take_length] at hM
  cases hz:z4z s z with
  | some o =>
   rcases M.look z o hz with h | h
   ·
    rw [h]; rfl
   ·
    cases ho:z4z a z with
    | none=>rw [h]; rfl
    | some q=>rw [(zd8 Fa Fb).1 hcl z q o ho h]; rfl
  | none =>
   have hn:z∉s.IDs:=fun hc=>by
    obtain ⟨o,ho⟩:=zav M.fit hc
    rw [hz] at ho; simp at ho
   have hzb:z∉b.IDs:=fun hc=>hn (hM.2 (.inl hc))
   have hza:z∉a.IDs:=fun hc=>by
    obtain ⟨t,t1,t2,t3⟩:=zrk Ga ha (a.IDs.idxOf z) (zdt Ga hc)
    have htl:t<a.IDs.length:=by have:=Ga.e.ids; omega
    have hta:zc5 a t∈a.IDs:=by rw [z5a htl]; exact List.getElem_mem _
    have htx:a.IDs.idxOf (zc5 a t)=t:=zd4 Ga.e t1
    have htb:zc5 a t∉b.IDs:=fun hb=>hzb (ztd Ga Fa Gb Fb hcl hb hta hc (by rw [htx]; exact t3))
    have htw:zc5 a t∈w:=by rw [w4,x4]; exact ⟨(zcb Ga.e).2 ⟨hta, by rw [htx]; exact t2⟩,htb⟩
    refine hn (hM.2 (.inr ((P.mem z).2 ⟨⟨hc,?_⟩, fun hk=>hzb (zlr Ga Fa Gb Fb hcl hyb hk)⟩)))
    rcases zgh.1 t3 with h | ⟨q,h1,h2⟩
    ·
     rw [List.mem_singleton] at h
     have:z=zc5 a t:=by rw [← h]; exact (zaz hc).symm
     rw [this]; exact .inl htw
    ·
     rw [List.mem_singleton] at h1
     subst h1
     exact .inr ⟨zc5 a q,htw,hta, by rw [htx]; exact h2⟩
   rw [zf2 hza,zf2 hzb]; rfl
 refine ⟨w,d,?_, by rw [← y4]; exact P, fun z=>by rw [w4,x4],hd16⟩
 rw [← hs]
 unfold zd9
 rw [x1,y1]
 simp only [bS]
 rw [w1]
 simp only [bS]
 rw [d1,zuj Gb hb hb' Fb (by omega)]
 simp only [bS]
 rw [show ((b,(0:Int)):z00 × Int)=(b,((0:Nat):Int)) from rfl,s1,zug Ga wa ha d (by omega) hdin]
 simp only [bS]
end
section
open Go
theorem okB_ {y:UInt32} {st:UInt64} {P:List O8} {sg:z0c} (hp:P.length≤4) (h:zgw (zhy y st P sg)=0):OkN (zhy y st P sg):=⟨h, by show (P.map idv).length≤4; rw [List.length_map]; exact hp, by show ([]:List UInt8).length≤100; simp, by show ([]:List UInt8).length≤100; simp, by show inI 0; unfold inI; omega⟩
theorem wfB_ {y:UInt32} {st:UInt64} {P:List O8} {sg:z0c} (hp:P.length≤4):zbs (zhy y st P sg):=by
 have h4:(P.map idv).length≤4:=by rw [List.length_map]; exact hp
 refine ⟨trivial,⟨fun x _ y _=>trivial,Nat.le_trans h4 (by omega)⟩,trivial,?_,?_⟩
 ·
  refine ⟨trivial,?_,⟨trivial,?_,trivial,?_,trivial⟩,trivial⟩
  ·
   show ([]:List UInt8).length≤_; simp
  ·
   show inI 0; unfold inI; omega
  ·
   show ([]:List UInt8).length≤_; simp
 ·
  exact ⟨⟨trivial,trivial,trivial⟩,trivial⟩
theorem z17f:z5u [idv ib,idv ia,idv id4,idv ic]=true:=by
 have h:=zr6 [ib,ia,id4,ic]
 rw [show zur [ib,ia,id4,ic]=true by decide +kernel] at h
 exact h
theorem pw27:kd (idv ib)<kd (idv ia)∧kd (idv ia)<kd (idv id4)∧kd (idv id4)<kd (idv ic) :=
 ⟨zdj z17f (i:=0) (j:=1) (by simp) (by simp) (by omega),zdj z17f (i:=1) (j:=2) (by simp) (by simp) (by omega),zdj z17f (i:=2) (j:=3) (by simp) (by simp) (by omega)⟩
theorem okA:OkN xA:=okB_ (by simp) (zx2 runA)
theorem okB:OkN xB:=okB_ (by simp) (zx2 runB)
theorem okC:OkN xC:=okB_ (by simp) (zx2 runC)
theorem okD:OkN xD:=okB_ (by simp) (zx2 runD)
theorem jA:oid xA=idv ia:=(zqi runA).2.2.2.2.2
theorem jB:oid xB=idv ib:=(zqi runB).2.2.2.2.2
theorem jC:oid xC=idv ic:=(zqi runC).2.2.2.2.2
theorem jD:oid xD=idv id4:=(zqi runD).2.2.2.2.2
abbrev gA:z00:=⟨[idv ib,idv ia,idv ic],[xB,xA,xC]⟩
abbrev gB:z00:=⟨[idv ia],[xA]⟩
abbrev gC:z00:=⟨[idv ia,idv id4],[xA,xD]⟩
theorem incA:z5u [idv ib,idv ia,idv ic]=true:=by
 obtain ⟨h1,h2,h3⟩:=pw27
 rw [z8c]
 simp only [List.pairwise_cons,List.mem_cons,List.not_mem_nil,or_false]
 refine ⟨?_,?_,⟨fun z hz=>absurd hz id,List.Pairwise.nil⟩⟩
 ·
  rintro z (rfl | rfl)
  ·
   exact h1
  ·
   omega
 ·
  rintro z rfl; omega
theorem incC:z5u [idv ia,idv id4]=true:=by
 obtain ⟨h1,h2,h3⟩:=pw27
 rw [z8c]
 simp only [List.pairwise_cons,List.mem_cons,List.not_mem_nil,or_false]
 exact ⟨fun z hz=>by subst hz; exact h2,⟨fun z hz=>absurd hz id,List.Pairwise.nil⟩⟩
theorem inc1 (z:ID):z5u [z]=true:=by rw [z8c]; simp
theorem inc0:z5u []=true:=by rw [z8c]; simp
theorem isA:Fit gA 60∧znc gA:=by
 have i0:[idv ib,idv ia,idv ic].idxOf (idv ib)=0:=z6c incA (k:=0) (by simp)
 have i1:[idv ib,idv ia,idv ic].idxOf (idv ia)=1:=z6c incA (k:=1) (by simp)
 refine zot [1,0,2] rfl (by simp) incA fun i hi=>?_
 match i,hi with
 | 0,_=>exact ⟨okB,jB,inc1 _, fun p hp=>by
   have hp:p∈[idv ia]:=hp
   rw [List.mem_singleton] at hp
   subst hp
   exact ⟨by simp, by rw [i1]; decide⟩⟩
 | 1,_=>exact ⟨okA,jA,inc0, fun p hp=>by
   have hp:p∈([]:List ID):=hp
   simp at hp⟩
 | 2,_=>exact ⟨okC,jC,inc1 _, fun p hp=>by
   have hp:p∈[idv ib]:=hp
   rw [List.mem_singleton] at hp
   subst hp
   exact ⟨by simp, by rw [i0]; decide⟩⟩
theorem isB:Fit gB 60∧znc gB:=by
 refine zot [0] rfl (by simp) (inc1 _) fun i hi=>?_
 match i,hi with
 | 0,_=>exact ⟨okA,jA,inc0, fun p hp=>by
   have hp:p∈([]:List ID):=hp
   simp at hp⟩
theorem isC:Fit gC 60∧znc gC:=by
 have i0:[idv ia,idv id4].idxOf (idv ia)=0:=z6c incC (k:=0) (by simp)
 refine zot [0,1] rfl (by simp) incC fun i hi=>?_
 match i,hi with
 | 0,_=>exact ⟨okA,jA,inc0, fun p hp=>by
   have hp:p∈([]:List ID):=hp
   simp at hp⟩
 | 1,_=>exact ⟨okD,jD,inc1 _, fun p hp=>by
   have hp:p∈[idv ia]:=hp
   rw [List.mem_singleton] at hp
   subst hp
   exact ⟨by simp, by rw [i0]; decide⟩⟩
theorem ofB:z68 [xA]=some (gB,0):=z10f isB.1 isB.2 (fun o=>Iff.rfl) (by simp) (fun o ho=>by rw [List.mem_singleton] at ho; subst ho; exact okA) (by simp)
theorem ofC:z68 [xA,xD]=some (gC,0):=z10f isC.1 isC.2 (fun o=>Iff.rfl) (by simp) (fun o ho=>by
 simp only [List.mem_cons,List.not_mem_nil,or_false] at ho
 rcases ho with rfl | rfl
 ·
  exact okA
 ·
  exact okD) (by
 rw [List.map_cons,List.map_cons,List.map_nil,jA,jD]; exact z91 incC)
theorem ofA:z68 [xA,xB,xC]=some (gA,0):=z10f isA.1 isA.2 (fun o=>by
 simp only [List.mem_cons,List.not_mem_nil,or_false]
 constructor
 ·
  rintro (h | h | h) <;> simp [h]
 ·
  rintro (h | h | h) <;> simp [h]) (by simp) (fun o ho=>by
 simp only [List.mem_cons,List.not_mem_nil,or_false] at ho
 rcases ho with rfl | rfl | rfl
 ·
  exact okA
 ·
  exact okB
 ·
  exact okC) (by
 rw [List.map_cons,List.map_cons,List.map_cons,List.map_nil,jA,jB,jC]
 have h:=z91 incA
 simp only [List.nodup_cons,List.mem_cons,List.not_mem_nil,or_false,not_or,not_false_eq_true,List.nodup_nil,and_true] at h ⊢
 obtain ⟨⟨h1,h2⟩,h3⟩:=h
 exact ⟨⟨fun e=>h1 e.symm,h3⟩,h2⟩)
end
section
open Go
variable {g:z00} {n:Nat}
theorem zwd {a b:List ID} (ha:a.length≤60) (hb:b.length≤60):zpu 0 a b=0:=by
 unfold zpu
 rw [if_neg (by simp),if_neg (by omega),if_neg (by omega)]
theorem zw7 (G:z4e g) (h1:z18 g=some 0) (l:List ID) (hl:l.length≤60):∃ d,zdm g l=some (d,0)∧z5u d=true∧∀ x,x∈d↔x∈l∧x∉g.IDs:=by
 obtain ⟨d,d1,d2,d3⟩:=zqm G.e l hl
 refine ⟨d,?_,d2,d3⟩
 unfold zdm
 rw [z10j h1,zwd hl (by simp)]
 simp only [bS]
 rw [if_neg (by simp),d1]
 rfl
theorem zux (G:z4e g) (F:Fit g n) (h1:z18 g=some 0) (h2:z0e g=some 0) (a b:List ID) (ha:a.length≤60) (hb:b.length≤60):∃ d,zch g a b=some (d,0)∧zkx g a b d:=by
 obtain ⟨d,d1,-,P⟩:=zu9 G F h1 h2 a b ha hb
 refine ⟨d,?_,P⟩
 unfold zch
 rw [z11x h1,zwd ha hb]
 simp only [bS]
 rw [if_neg (by simp),d1]
 rfl
end
section
open Go
theorem zne:z4e gA:=zo2 isA.1 isA.2
theorem zu7:z4e gB:=zo2 isB.1 isB.2
theorem wfA:z1b gA:=⟨⟨fun x _ y _=>trivial, by simp⟩,⟨fun o ho=>by
 simp only [List.mem_cons,List.not_mem_nil,or_false] at ho
 rcases ho with rfl | rfl | rfl
 ·
  exact wfB_ (by simp)
 ·
  exact wfB_ (by simp)
 ·
  exact wfB_ (by simp), by simp⟩,trivial⟩
theorem wfB:z1b gB:=⟨⟨fun x _ y _=>trivial, by simp⟩,⟨fun o ho=>by
 rw [List.mem_singleton] at ho
 subst ho
 exact wfB_ (by simp), by simp⟩,trivial⟩
theorem zcu {g:z00} (G:z4e g) (w:z1b g):z18 g=some 0∧z0e g=some 0:=by
 obtain ⟨c,c1,c2,c3⟩:=zha w
 have hc:=c3.2 G
 subst hc
 exact ⟨c1,c2⟩
theorem idxA:gA.IDs.idxOf (idv ib)=0∧gA.IDs.idxOf (idv ia)=1∧gA.IDs.idxOf (idv ic)=2 :=
 ⟨z6c (l:=gA.IDs) incA (k:=0) (by simp),z6c (l:=gA.IDs) incA (k:=1) (by simp),z6c (l:=gA.IDs) incA (k:=2) (by simp)⟩
theorem zzj:z17 gA 0=[1]∧z17 gA 1=[]∧z17 gA 2=[0]∧∀ n,z17 gA (n+3)=[]:=by
 obtain ⟨i0,i1,i2⟩:=idxA
 refine ⟨?_,rfl,?_, fun n=>rfl⟩
 ·
  show [gA.IDs.idxOf (idv ia)]=[1]; rw [i1]
 ·
  show [gA.IDs.idxOf (idv ib)]=[0]; rw [i0]
theorem z188:∀ n,z17 gB n=[]
 | 0=>rfl
 | n+1=>rfl
theorem z152 {x:ID}:z67 gA [idv ic] x↔x∈gA.IDs:=by
 obtain ⟨i0,i1,i2⟩:=idxA
 obtain ⟨p0,p1,p2,p3⟩:=zzj
 refine ⟨fun h=>h.1, fun h=>⟨h,?_⟩⟩
 have h':=h
 simp only [List.mem_cons,List.not_mem_nil,or_false] at h'
 rcases h' with rfl | rfl | rfl
 ·
  exact .inr ⟨idv ic, by simp, by simp, by rw [i2,i0,p2]; exact .base (by simp)⟩
 ·
  exact .inr ⟨idv ic, by simp, by simp, by rw [i2,i1,p2]; exact .step (.base (i:=0) (by simp)) (by rw [p0]; simp)⟩
 ·
  exact .inl (by simp)
theorem z14v {x:ID}:z67 gA [idv ia] x↔x=idv ia:=by
 obtain ⟨i0,i1,i2⟩:=idxA
 obtain ⟨p0,p1,p2,p3⟩:=zzj
 constructor
 ·
  rintro ⟨h,h1 | ⟨z,h1,h2,h3⟩⟩
  ·
   exact List.mem_singleton.1 h1
  ·
   rw [List.mem_singleton] at h1
   subst h1
   rw [i1,p1] at h3
   rcases zgh.1 h3 with h4 | ⟨s,h4,-⟩ <;> simp at h4
 ·
  rintro rfl
  exact ⟨by simp,.inl (by simp)⟩
theorem ne_D:idv id4∉gA.IDs:=fun h=>by
 obtain ⟨h1,h2,h3⟩:=pw27
 simp only [List.mem_cons,List.not_mem_nil,or_false] at h
 rcases h with h | h | h
 ·
  rw [h] at h2; omega
 ·
  rw [h] at h2; omega
 ·
  rw [h] at h3; omega
theorem zq6 {x:ID}:¬ z67 gA [idv id4] x:=by
 rintro ⟨h,h1 | ⟨z,h1,h2,h3⟩⟩
 ·
  rw [List.mem_singleton] at h1; subst h1; exact ne_D h
 ·
  rw [List.mem_singleton] at h1; subst h1; exact ne_D h2
end
section
open Go
theorem neAB:idv ia≠idv ib∧idv ia≠idv ic∧idv ib≠idv ic:=by
 have h:=z91 incA
 simp only [List.nodup_cons,List.mem_cons,List.not_mem_nil,or_false,not_or,not_false_eq_true,List.nodup_nil,and_true] at h
 exact ⟨fun e=>h.1.1 e.symm,h.2,h.1.2⟩
theorem z115:z4z gA (idv ib)=some xB∧z4z gA (idv ia)=some xA∧z4z gA (idv ic)=some xC:=by
 obtain ⟨i0,i1,i2⟩:=idxA
 refine ⟨?_,?_,?_⟩
 ·
  unfold z4z; rw [if_pos (by simp),i0]; rfl
 ·
  unfold z4z; rw [if_pos (by simp),i1]; rfl
 ·
  unfold z4z; rw [if_pos (by simp),i2]; rfl
theorem zwi {d:List ID} (P:zkx gA [idv ic] [idv ia] d):d=[idv ib,idv ic]:=by
 obtain ⟨n1,n2,n3⟩:=neAB
 obtain ⟨l1,l2,l3⟩:=z115
 have hm:∀ x,x∈d↔x∈[idv ib,idv ic]:=fun x=>by
  rw [P.mem,z152,z14v]
  simp only [List.mem_cons,List.not_mem_nil,or_false]
  constructor
  ·
   rintro ⟨h | h | h,hn⟩
   ·
    exact .inl h
   ·
    exact absurd h hn
   ·
    exact .inr h
  ·
   rintro (rfl | rfl)
   ·
    exact ⟨.inl rfl, fun e=>n1 e.symm⟩
   ·
    exact ⟨.inr (.inr rfl), fun e=>n2 e.symm⟩
 have hl:d.length=2:=zp2 P.nd (q:=[idv ib,idv ic]) (by simp [n3]) hm
 obtain ⟨p,q,rfl⟩:∃ p q,d=[p,q]:=by
  match d,hl with
  | [p,q],_=>exact ⟨p,q,rfl⟩
 have hp:=(hm p).1 (by simp)
 have hq:=(hm q).1 (by simp)
 have hpq:p≠q:=by have:=P.nd; simp at this; exact this
 simp only [List.mem_cons,List.not_mem_nil,or_false] at hp hq
 rcases hp with rfl | rfl
 ·
  rcases hq with rfl | rfl
  ·
   exact absurd rfl hpq
  ·
   rfl
 ·
  exfalso
  rcases P.topo 0 (by simp) xC l3 (idv ib) (by show idv ib∈[idv ib]; simp) with h | h
  ·
   simp at h
  ·
   exact n1 (z14v.1 h).symm
theorem zxl {d:List ID} (P:zkx gA [idv ic] [idv id4] d):d=[idv ia,idv ib,idv ic]:=by
 obtain ⟨n1,n2,n3⟩:=neAB
 obtain ⟨l1,l2,l3⟩:=z115
 have hm:∀ x,x∈d↔x∈[idv ia,idv ib,idv ic]:=fun x=>by
  rw [P.mem,z152]
  simp only [List.mem_cons,List.not_mem_nil,or_false]
  constructor
  ·
   rintro ⟨h | h | h,hn⟩
   ·
    exact .inr (.inl h)
   ·
    exact .inl h
   ·
    exact .inr (.inr h)
  ·
   rintro (rfl | rfl | rfl)
   ·
    exact ⟨.inr (.inl rfl),zq6⟩
   ·
    exact ⟨.inl rfl,zq6⟩
   ·
    exact ⟨.inr (.inr rfl),zq6⟩
 have hl:d.length=3:=zp2 P.nd (q:=[idv ia,idv ib,idv ic]) (by simp [n1,n2,n3]) hm
 obtain ⟨p,q,r,rfl⟩:∃ p q r,d=[p,q,r]:=by
  match d,hl with
  | [p,q,r],_=>exact ⟨p,q,r,rfl⟩
 have hp:=(hm p).1 (by simp)
 have hq:=(hm q).1 (by simp)
 have hr:=(hm r).1 (by simp)
 have hnd:=P.nd
 simp only [List.nodup_cons,List.mem_cons,List.not_mem_nil,or_false,not_or,not_false_eq_true,List.nodup_nil,and_true] at hnd
 obtain ⟨⟨k1,k2⟩,k3⟩:=hnd
 simp only [List.mem_cons,List.not_mem_nil,or_false] at hp hq hr
 rcases hp with rfl | rfl | rfl
 ·
  rcases hq with rfl | rfl | rfl
  ·
   exact absurd rfl k1
  ·
   rcases hr with rfl | rfl | rfl
   ·
    exact absurd rfl k2
   ·
    exact absurd rfl k3
   ·
    rfl
  ·
   exfalso
   rcases P.topo 1 (by simp) xC l3 (idv ib) (by show idv ib∈[idv ib]; simp) with h | h
   ·
    simp at h; exact n1 h.symm
   ·
    exact zq6 h
 ·
  exfalso
  rcases P.topo 0 (by simp) xB l1 (idv ia) (by show idv ia∈[idv ia]; simp) with h | h
  ·
   simp at h
  ·
   exact zq6 h
 ·
  exfalso
  rcases P.topo 0 (by simp) xC l3 (idv ib) (by show idv ib∈[idv ib]; simp) with h | h
  ·
   simp at h
  ·
   exact zq6 h
end
section
open Go
theorem z16j {b c:List UInt8} (h:b.length≤400) (h':c.length≤400):okF [b,c]=true:=by
 have h1:=z13 ([b,c]:List (List UInt8)).length (by simp)
 have h2:=z13 b.length (by omega)
 have h3:=z13 c.length (by omega)
 unfold okF zoc zjr
 simp only [Bool.and_eq_true,decide_eq_true_eq,List.length_append,List.flatMap_cons,List.flatMap_nil,List.length_cons,List.length_nil] at *
 omega
theorem z16b {b c:List UInt8} (h:b.length≤400) (h':c.length≤400):(outP (zje [b,c] 2)).length=1:=by
 have e1:zje [b,c] 1=some ([],[b]):=rfl
 rw [zqd [b,c] (i:=1) (by simp),e1]
 show (outP (if okF ([b]++[c]) then some ([],[b]++[c]) else some ([]++[[b]],[c]))).length=1
 rw [show [b]++[c]=[b,c] from rfl,z16j h h',if_pos rfl]
 rfl
end
section
open Go
theorem zib:Fit gA 16:=⟨isA.1.ids, by simp,isA.1.ri,isA.1.op⟩
theorem zl6:Fit gB 16:=⟨isB.1.ids, by simp,isB.1.ri,isB.1.op⟩
theorem idxB:gB.IDs.idxOf (idv ia)=0:=z6c (l:=gB.IDs) isB.1.ri (k:=0) (by simp)
theorem z173 {x:ID}:z4z gB x=if x=idv ia then some xA else none:=by
 by_cases h:x=idv ia
 ·
  subst h
  rw [if_pos rfl]
  unfold z4z
  rw [if_pos (by simp),idxB]; rfl
 ·
  rw [if_neg h,zf2 (by simpa using h)]
theorem zpd:z86 gA gB:=(zd8 zib zl6).2 fun x o q ho hq=>by
 rw [z173] at hq
 by_cases h:x=idv ia
 ·
  subst h
  rw [if_pos rfl] at hq
  rw [z115.2.1] at ho
  rw [← Option.some.inj ho,← Option.some.inj hq]
 ·
  rw [if_neg h] at hq; simp at hq
theorem zzx:z86 gB gA:=zu5 zib zl6 zpd
theorem z15p:zce gA gB=gA:=zlt (zof zib zl6) zib fun x=>by
 rw [zme zib zl6]
 cases h:z4z gA x with
 | some o=>rfl
 | none =>
  rw [z173,if_neg (fun e=>by subst e; rw [z115.2.1] at h; simp at h)]
  rfl
theorem z177:zce gB gA=gA:=zlt (zof zl6 zib) zib fun x=>by
 rw [zme zl6 zib,z173]
 by_cases e:x=idv ia
 ·
  subst e; rw [if_pos rfl,z115.2.1]; rfl
 ·
  rw [if_neg e]; rfl
theorem topB:z6v gB (top gB gB.Ops.length)=[idv ia]:=by
 have t:top gB 1 0=true:=zo6.2 fun k hk h=>by rw [z188] at h; simp at h
 show ([0].filter (top gB 1)).map (zc5 gB)=[idv ia]
 simp only [List.filter_cons,t,List.filter_nil,if_true]
 rfl
theorem topA:z6v gA (top gA gA.Ops.length)=[idv ic]:=by
 obtain ⟨p0,p1,p2,p3⟩:=zzj
 have t0:top gA 3 0=false:=by
  rw [← Bool.not_eq_true,zo6]
  intro h
  exact h 2 (by omega) (by rw [p2]; simp)
 have t1:top gA 3 1=false:=by
  rw [← Bool.not_eq_true,zo6]
  intro h
  exact h 0 (by omega) (by rw [p0]; simp)
 have t2:top gA 3 2=true:=zo6.2 fun k hk h=>by
  rcases (show k=0∨k=1∨k=2 by omega) with rfl | rfl | rfl
  ·
   rw [p0] at h; simp at h
  ·
   rw [p1] at h; simp at h
  ·
   rw [p2] at h; simp at h
 show ([0,1,2].filter (top gA 3)).map (zc5 gA)=[idv ic]
 simp only [List.filter_cons,t0,t1,t2,List.filter_nil,if_true,Bool.false_eq_true,if_false]
 rfl
end
section
open Go
theorem zui {g:z00} {l l':List ID} (h:∀ x,x∈l↔x∈l') (y:ID):z67 g l y↔z67 g l' y:=by
 unfold z67
 rw [h]
 constructor
 ·
  rintro ⟨h1,h2 | ⟨x,h2,h3⟩⟩
  ·
   exact ⟨h1,.inl h2⟩
  ·
   exact ⟨h1,.inr ⟨x,(h x).1 h2,h3⟩⟩
 ·
  rintro ⟨h1,h2 | ⟨x,h2,h3⟩⟩
  ·
   exact ⟨h1,.inl h2⟩
  ·
   exact ⟨h1,.inr ⟨x,(h x).2 h2,h3⟩⟩
theorem z18p:zd9 gA gB=some (gA,1):=by
 obtain ⟨ca,ca'⟩:=zcu zne wfA
 obtain ⟨cb,cb'⟩:=zcu zu7 wfB
 obtain ⟨n1,n2,n3⟩:=neAB
 obtain ⟨w,d,e1,P,hw,-⟩:=zti zne zu7 wfA wfB ca cb ca' cb' zib zl6 zpd
 rw [topB] at P
 have hw:∀ x,x∈w↔x∈[idv ic]:=fun x=>by
  rw [hw,topA]
  constructor
  ·
   exact fun h=>h.1
  ·
   intro h
   refine ⟨h,?_⟩
   rw [List.mem_singleton] at h ⊢
   subst h
   exact fun e=>n2 e.symm
 have hd:=zwi (d:=d) ⟨P.len,P.nd, fun x=>(P.mem x).trans (by rw [zui hw]),P.topo⟩
 rw [e1,z15p,hd]
 have h1:=zrv zne wfA (x:=idv ib) (by simp)
 have h2:=zrv zne wfA (x:=idv ic) (by simp)
 have:=z16b h1 h2
 show some (gA,((outP (zje [bts gA (idv ib),bts gA (idv ic)] 2)).length:Int))=_
 rw [this]; rfl
theorem z17y:zd9 gB gA=some (gA,0):=by
 obtain ⟨ca,ca'⟩:=zcu zne wfA
 obtain ⟨cb,cb'⟩:=zcu zu7 wfB
 obtain ⟨w,d,e1,P,hw,-⟩:=zti zu7 zne wfB wfA cb ca cb' ca' zl6 zib zzx
 have hw:∀ x,x∉w:=fun x h=>by
  rw [hw,topB,List.mem_singleton] at h
  obtain ⟨rfl,h⟩:=h
  exact h (by simp)
 have hd:d=[]:=by
  refine List.eq_nil_iff_forall_not_mem.2 fun x hx=>?_
  obtain ⟨⟨-,h | ⟨z,h,-⟩⟩,-⟩:=(P.mem x).1 hx
  ·
   exact hw _ h
  ·
   exact hw _ h
 rw [e1,z177,hd]
 rfl
end
section
open Go
theorem opA_:z3g 1 []=some xA:=by
 unfold z3g
 have:z4l 5 (⟨0,[],1,⟨1,[],⟨0,0,0,[]⟩⟩,⟨0,0⟩⟩:z08)=some (xA,0):=by
  have e:(⟨0,[],1,⟨1,[],⟨0,0,0,[]⟩⟩,⟨0,0⟩⟩:z08)=zz1 1 []:=by
   unfold zz1
   rfl
  rw [e]
  exact zwn runA
 rw [this]; rfl
theorem opB_:z3g 2 [idv ia]=some xB:=by
 unfold z3g
 have:z4l 5 (⟨0,[idv ia],2,⟨1,[],⟨0,0,0,[]⟩⟩,⟨0,0⟩⟩:z08)=some (xB,0):=zwn runB
 rw [this]; rfl
theorem opC_:z3g 3 [idv ib]=some xC:=by
 unfold z3g
 have:z4l 5 (⟨0,[idv ib],3,⟨1,[],⟨0,0,0,[]⟩⟩,⟨0,0⟩⟩:z08)=some (xC,0):=zwn runC
 rw [this]; rfl
theorem opD_:z3g 9 [idv ia]=some xD:=by
 unfold z3g
 have:z4l 5 (⟨0,[idv ia],9,⟨1,[],⟨0,0,0,[]⟩⟩,⟨0,0⟩⟩:z08)=some (xD,0):=zwn runD
 rw [this]; rfl
theorem zqb {o:z08} (h:OkN o):z3q o=some (oid o):=zni _ (z97 h.good) h.num
theorem z13d:za3=some [xA,xB,xC]:=by
 unfold za3
 rw [opA_]
 simp only [bS]
 rw [zqb okA,jA]
 simp only [bS]
 rw [opB_]
 simp only [bS]
 rw [zqb okB,jB]
 simp only [bS]
 rw [opC_]
 rfl
theorem exch:zdp gA gB=some (gA,gA,1,0):=by
 obtain ⟨ca,ca'⟩:=zcu zne wfA
 obtain ⟨cb,cb'⟩:=zcu zu7 wfB
 obtain ⟨r,r1,-,r2⟩:=zm7 zne zu7 ca cb ca' cb' zib zl6 (by omega)
 rcases r2 with ⟨-,h⟩ | ⟨rfl,-⟩
 ·
  exact absurd zpd h
 ·
  unfold zdp
  rw [r1]
  simp only [bS]
  rw [if_neg (by simp),z18p]
  simp only [bS]
  rw [z17y]
  rfl
theorem z15w:zdm gB [idv ic]=some ([idv ic],0):=by
 obtain ⟨cb,cb'⟩:=zcu zu7 wfB
 obtain ⟨d,d1,d2,d3⟩:=zw7 zu7 cb [idv ic] (by simp)
 have:d=[idv ic]:=zcp _ _ ((z8c _).1 d2) (List.pairwise_singleton _ _) fun x=>by
  rw [d3]
  refine ⟨fun h=>h.1, fun h=>⟨h, fun e=>?_⟩⟩
  rw [List.mem_singleton] at h e
  exact neAB.2.1 (e.symm.trans h)
 rw [d1,this]
theorem z160:zch gA [idv ic] [idv ia]=some ([idv ib,idv ic],0):=by
 obtain ⟨ca,ca'⟩:=zcu zne wfA
 obtain ⟨d,d1,P⟩:=zux zne isA.1 ca ca' [idv ic] [idv ia] (by simp) (by simp)
 rw [d1,zwi P]
theorem z17j:zch gA [idv ic] [idv id4]=some ([idv ia,idv ib,idv ic],0):=by
 obtain ⟨ca,ca'⟩:=zcu zne wfA
 obtain ⟨d,d1,P⟩:=zux zne isA.1 ca ca' [idv ic] [idv id4] (by simp) (by simp)
 rw [d1,zxl P]
end
section
open Go
theorem ztz:zc6=some true:=by
 unfold zc6
 rw [z13d]
 simp only [bS]
 rw [ofA]
 simp only [bS]
 rw [show cut [xA,xB,xC] 0 1=some [xA] from rfl]
 simp only [bS]
 rw [ofB, show idx [xA,xB,xC] 0=some xA from rfl, show idx [xA,xB,xC] 1=some xB from rfl, show idx [xA,xB,xC] 2=some xC from rfl]
 simp only [bS]
 rw [zqb okA,jA]
 simp only [bS]
 rw [zqb okB,jB]
 simp only [bS]
 rw [zqb okC,jC]
 simp only [bS]
 rw [opD_]
 simp only [bS]
 rw [ofC]
 simp only [bS]
 rw [z15w]
 simp only [bS]
 rw [z160]
 simp only [bS]
 rw [zqb okD,jD]
 simp only [bS]
 rw [z17j]
 simp only [bS]
 rw [exch]
 simp only [bS]
 have s:=(isA.1.small (by omega))
 rw [z10e [idv ic] (by simp),z10e [idv ib,idv ic] (by simp),z10e [idv ia,idv ib,idv ic] (by simp),z11n s]
 rfl
end
section
open Go
variable {a b g:z00} {n m:Nat}
theorem zys (G:z4e g) {k:Nat} {y:ID} (hy:y∈g.IDs) (h:g.IDs.idxOf y∈z17 g k):y∈zmm g k:=by
 unfold z17 at h
 obtain ⟨z,z1,z2⟩:=List.mem_map.1 h
 have hz:=z8k G.ins k z z1
 have:=ze9 hz z2.symm
 rw [this]; exact z1
theorem zto (F:Fit g n) {x:ID} {o:z08} (h:z4z g x=some o):zmm g (g.IDs.idxOf x)=o.Preds:=by
 have hx:=(zh2 h).1
 unfold z4z at h
 rw [if_pos hx] at h
 unfold zmm
 rw [h]
theorem z10a (Ga:z4e a) (Fa:Fit a n) (Gb:z4e b) (Fb:Fit b m) (hc:z86 a b) {h:ID} (ha:h∈a.IDs) (hb:h∈b.IDs) {i:Nat} (hr:Rch (z17 b) [b.IDs.idxOf h] i) :
  ∀ x,x∈b.IDs→b.IDs.idxOf x=i→x∈a.IDs∧Rch (z17 a) [a.IDs.idxOf h] (a.IDs.idxOf x):=by
 induction hr with
 | base h1 =>
  intro x hx e
  rw [List.mem_singleton] at h1
  have:x=h:=ze9 hb (e.trans h1)
  subst this
  exact ⟨ha,.base (by simp)⟩
 | @step i p _ hp ih =>
  intro x hx e
  obtain ⟨hi,hpl⟩:=z13t Gb hp
  have hil:i<b.IDs.length:=by have:=Gb.e.ids; omega
  have hz:b.IDs[i]∈b.IDs:=List.getElem_mem hil
  have hzi:=z6c Gb.e.ri hil
  obtain ⟨z1,z2⟩:=ih _ hz hzi
  obtain ⟨o,ho⟩:=zav Fb hz
  obtain ⟨q,hq⟩:=zav Fa z1
  have hqo:=(zd8 Fa Fb).1 hc _ q o hq ho
  subst hqo
  have hxp:x∈zmm b i:=zys Gb hx (by rw [e]; exact hp)
  have hob:=zto Fb ho
  rw [hzi] at hob
  have hoa:=zto Fa hq
  rw [hob,← hoa] at hxp
  have:=znp Ga.ins hxp
  exact ⟨this.1,.step z2 this.2⟩
end
section
open Go
variable {a b g:z00} {n m:Nat}
theorem z15v (Ga:z4e a) (Fa:Fit a n) (Gb:z4e b) (Fb:Fit b m) (ha:z18 a=some 0) (hc:z86 a b) {w y d:List ID} (P:zkx a w y d) (hw:∀ x,x∈w↔x∈z6v a (top a a.Ops.length)∧x∉b.IDs) (hy:∀ z∈y,z∈b.IDs) {z:ID} (hz:z∈a.IDs) (hzb:z∉b.IDs):z∈d:=by
 obtain ⟨t,t1,t2,t3⟩:=zrk Ga ha (a.IDs.idxOf z) (zdt Ga hz)
 have htl:t<a.IDs.length:=by have:=Ga.e.ids; omega
 have hta:zc5 a t∈a.IDs:=by rw [z5a htl]; exact List.getElem_mem _
 have htx:a.IDs.idxOf (zc5 a t)=t:=zd4 Ga.e t1
 have htb:zc5 a t∉b.IDs:=fun hb=>hzb (ztd Ga Fa Gb Fb hc hb hta hz (by rw [htx]; exact t3))
 have htw:zc5 a t∈w:=by rw [hw]; exact ⟨(zcb Ga.e).2 ⟨hta, by rw [htx]; exact t2⟩,htb⟩
 refine (P.mem z).2 ⟨⟨hz,?_⟩, fun hk=>hzb (zlr Ga Fa Gb Fb hc hy hk)⟩
 rcases zgh.1 t3 with h | ⟨q,h1,h2⟩
 ·
  rw [List.mem_singleton] at h
  have:z=zc5 a t:=by rw [← h]; exact (zaz hz).symm
  rw [this]; exact .inl htw
 ·
  rw [List.mem_singleton] at h1
  subst h1
  exact .inr ⟨zc5 a q,htw,hta, by rw [htx]; exact h2⟩
theorem zuf (Ga:z4e a) (Fa:Fit a n) (Gb:z4e b) (Fb:Fit b m) (hb:z18 b=some 0) (hc:z86 a b) {w d:List ID} (P:zkx a w (z6v b (top b b.Ops.length)) d) (hall:∀ x∈z6v b (top b b.Ops.length),x∈a.IDs) {z:ID} (hz:z∈d):z∉b.IDs:=fun hzb=>by
 obtain ⟨h1,h2⟩:=(P.mem z).1 hz
 obtain ⟨t,t1,t2,t3⟩:=zrk Gb hb (b.IDs.idxOf z) (zdt Gb hzb)
 have htl:t<b.IDs.length:=by have:=Gb.e.ids; omega
 have htb:zc5 b t∈b.IDs:=by rw [z5a htl]; exact List.getElem_mem _
 have htx:b.IDs.idxOf (zc5 b t)=t:=zd4 Gb.e t1
 have hty:zc5 b t∈z6v b (top b b.Ops.length):=(zcb Gb.e).2 ⟨htb, by rw [htx]; exact t2⟩
 have hta:=hall _ hty
 obtain ⟨w1,w2⟩:=z10a Ga Fa Gb Fb hc hta htb (by rw [htx]; exact t3) z hzb rfl
 refine h2 ⟨w1,?_⟩
 rcases zgh.1 w2 with h | ⟨q,h1,h2⟩
 ·
  rw [List.mem_singleton] at h
  have:z=zc5 b t:=ze9 hta h
  rw [this]; exact .inl hty
 ·
  rw [List.mem_singleton] at h1
  subst h1
  exact .inr ⟨zc5 b t,hty,hta,h2⟩
theorem zz3 (w0:z1b a) (w1:z1b b) (x1:z36 a=some false) (y1:z36 b=some false):∃ r:Int,zah a b=some r∧(r=0→z4e a∧z4e b∧z86 a b∧z18 a=some 0∧z18 b=some 0∧z0e a=some 0∧z0e b=some 0∧Fit a 16∧Fit b 16∧zbo a b=some (zce a b,0)):=by
 obtain ⟨x,x0,x2⟩:=zj4 a
 obtain ⟨y,y0,y2⟩:=zj4 b
 rw [x1] at x0; cases x0
 rw [y1] at y0; cases y0
 have S0:=x2 rfl
 have S1:=y2 rfl
 obtain ⟨c,c1,c2,c3⟩:=zha w0
 obtain ⟨d,d1,d2,d3⟩:=zha w1
 obtain ⟨r,r1,r2,r3,r4⟩:=z13n w0 w1 x1 y1
 have hcode1:c≠0→r.2=c:=fun h=>by
  have e:z2q a b=some (⟨[],[]⟩,c):=by
   unfold z2q; rw [c2]; simp only [bS]; rw [if_pos (by simpa using h)]
  rw [e] at r2; cases r2; rfl
 have hcode2:c=0→d≠0→r.2=d:=fun h0 h=>by
  have e:z2q a b=some (⟨[],[]⟩,d):=by
   unfold z2q; rw [c2,d2]; simp only [bS]; rw [if_neg (by simpa using h0),if_pos (by simpa using h)]
  rw [e] at r2; cases r2; rfl
 refine ⟨r.2,z16s c2 d2 r2 hcode1 hcode2, fun hr=>?_⟩
 obtain ⟨G0,G1,hcl,hu,l0,l1⟩:=r3 hr
 have hc0:=c3.2 G0
 have hd0:=d3.2 G1
 subst hc0 hd0
 have hru:r=(zce a b,0):=Prod.ext hu hr
 rw [hru] at r1
 exact ⟨G0,G1,hcl,c1,d1,c2,d2,⟨G0.e.ids,l0,G0.e.ri,(zwr G0 S0).op⟩,⟨G1.e.ids,l1,G1.e.ri,(zwr G1 S1).op⟩,r1⟩
theorem zvn (a0 a1:z00) (w0:z1b a0) (w1:z1b a1):zam a0 a1=some true:=by
 obtain ⟨x,x1,-⟩:=zj4 a0
 obtain ⟨y,y1,-⟩:=zj4 a1
 unfold zam
 rw [ztz]
 simp only [bS]
 rw [x1]
 simp only [bS]
 cases x with
 | true=>rfl
 | false =>
 rw [if_neg (by simp),y1]
 simp only [bS]
 cases y with
 | true=>rfl
 | false =>
 obtain ⟨r,r1,r2⟩:=zz3 w0 w1 x1 y1
 rw [if_neg (by simp),r1]
 simp only [bS]
 by_cases hr:r=0
 ·
  obtain ⟨G0,G1,hcl,c1,d1,c2,d2,F0,F1,-⟩:=r2 hr
  obtain ⟨h,-,h2,h3,h4⟩:=zir G0 c1 c2
  obtain ⟨k,-,k2,k3,k4⟩:=zir G1 d1 d2
  obtain ⟨w,e1,e2,e3⟩:=zw7 G1 d1 h h3
  have hwl:w.length≤60:=by
   have:=z75 _ _ (z91 e2) fun z hz=>((e3 z).1 hz).1
   omega
  obtain ⟨d,p1,P⟩:=zux G0 F0 c1 c2 w k hwl k3
  have hdl:=P.len
  have hi0:=F0.ids; have hl0:=F0.len; have hi1:=F1.ids; have hl1:=F1.len
  have hw:∀ z,z∈w↔z∈z6v a0 (top a0 a0.Ops.length)∧z∉a1.IDs:=fun z=>by rw [e3,h4]
  have hk:∀ z∈k,z∈a1.IDs:=fun z hz=>by rw [k4] at hz; exact ((zcb G1.e).1 hz).1
  rw [hr,if_neg (by simp)]
  simp only [bS]
  rw [if_neg (by simp),h2,k2]
  simp only [bS]
  rw [e1]
  simp only [bS]
  rw [p1]
  simp only [bS]
  rw [if_neg (by simp),if_neg (by simp),zsf _ _ (by omega) (by omega)]
  simp only [bS]
  have L0:∀ q,q=(k.all fun z=>decide (z∈a0.IDs))→iter (z49 a1 (d,0)) (q,0)=some (.inr ()):=fun q hq=>by
   refine z1x (F:=z49 a1 (d,0)) d.length (fun i=>(q,(i:Int))) (fun i hi=>?_) ?_
   ·
    unfold z49
    rw [if_pos (by simpa using hi)]
    cases q with
    | false=>rw [if_neg (by simp),z0h (by omega)]; rfl
    | true =>
     have hall:∀ z∈z6v a1 (top a1 a1.Ops.length),z∈a0.IDs:=fun z hz=>by
      have:=List.all_eq_true.1 hq.symm z (by rw [k4]; exact hz)
      simpa using this
     have hn:d[i]∉a1.IDs:=zuf G0 F0 G1 F1 d1 hcl (w:=w) (by rw [← k4]; exact P) hall (List.getElem_mem hi)
     rw [if_pos (by rfl),z0b hi]
     simp only [bS]
     rw [in27 _ _ (by omega),decide_eq_false hn,z0h (by omega)]
     rfl
   ·
    unfold z49
    rw [if_neg (by simp)]
  have L2:iter (z4c a0 a1) (d,0)=some (.inr ()):=by
   refine z1x (F:=z4c a0 a1) a0.IDs.length (fun i=>(d,(i:Int))) (fun i hi=>?_) ?_
   ·
    unfold z4c
    rw [if_pos (by simpa using hi),z0b hi]
    simp only [bS]
    rw [in27 _ _ (by omega),in27 _ _ (by omega),z0h (by omega)]
    simp only [bS]
    by_cases hb:a0.IDs[i]∈a1.IDs
    ·
     rw [decide_eq_true hb]; rfl
    ·
     rw [decide_eq_false hb,decide_eq_true (z15v G0 F0 G1 F1 c1 hcl P hw hk (List.getElem_mem hi) hb)]; rfl
   ·
    unfold z4c
    rw [if_neg (by simp)]
  rw [L0 _ rfl]
  simp only [zub]
  rw [L2]
  rfl
 ·
  rw [if_pos (by simpa using hr)]
  rfl
end
end Go.Proofs.YtefkialcgmohkaaGreatDoor
