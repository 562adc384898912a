import Derived.Test.YtefkialcgmohkaaGreatDoorG2e
set_option linter.unusedSimpArgs false
set_option linter.unusedVariables false
namespace Go.Proofs.YtefkialcgmohkaaGreatDoor
section
open Go
variable {g:z00}
theorem zi1 {α:Type} {l:List α} {n:Nat} (h:n<l.length):l.take (n+1)=l.take n++[l[n]]:=by
  rw [List.take_add_one,List.getElem?_eq_getElem h]; rfl
theorem z13u {l:List V3} (hso:l.Pairwise fun x y=>kd x≤kd y) {n i:Nat} (hi:i<l.length) (hn:n≤i+1):∀ x∈l.take n,kd x≤kd l[i]:=by
  intro x hx
  obtain ⟨j,hj,rfl⟩:=List.getElem_of_mem hx
  rw [List.length_take] at hj
  rw [List.getElem_take]
  by_cases hji:j=i
  · subst hji; exact Nat.le_refl _
  · exact List.pairwise_iff_getElem.1 hso j i (by omega) hi (by omega)
theorem zof {l:List V3} {x:V3} (h:l.Pairwise fun a b=>kd a<kd b) (hx:∀ y∈l,kd y<kd x):(l++[x]).Pairwise fun a b=>kd a<kd b:=by
  rw [List.pairwise_append]
  exact ⟨h, by simp, fun a ha b hb=>by rw [List.mem_singleton] at hb; subst hb; exact hx a ha⟩
theorem zs8 (l : List V3) (hl : l.length ≤ 1000) (hso : l.Pairwise fun x y => kd x ≤ kd y) (s : Nat) (h1 : 1 ≤ s) (hs : s < l.length) (hst : (l.take s).Pairwise fun x y => kd x < kd y) (heq : l[s] = l[s - 1]) :
    ∃ b:List V3 × Int,iter (z1a l s) (l,(s:Int),1)=some b∧b.1.length=l.length∧∃ j:Nat,b.2=(j:Int)∧j<l.length∧(b.1.take j).Pairwise (fun x y=>kd x<kd y)∧∀ x,x∈b.1.take j↔x∈l:=by
  refine z85 (F:=z1a l s) (l.length - s)
    (fun i st=>st.1.length=l.length∧st.2.2=(i:Int)∧1≤i∧∃ j:Nat,st.2.1=(j:Int)∧j+1≤s+i∧(∀ q,s+i - 1≤q→st.1[q]? = l[q]?)∧(st.1.take j).Pairwise (fun x y=>kd x<kd y)∧∀ x,x∈st.1.take j↔x∈l.take (s+i)) _ ?_ ?_ _ 1 (by omega)
    ⟨rfl,rfl, by omega,s,rfl, by omega, fun _ _=>rfl,hst, fun x=>?_⟩
  · rintro i ⟨c,j',i'⟩ hi ⟨e1,e2,e0,j,e3,e4,e5,e6,e7⟩
    simp only at e1 e2 e3 e5 e6 e7
    subst e2 e3
    have g1:c[s+i]'(by omega)=l[s+i]'(by omega):=by
      have:=e5 (s+i) (by omega)
      rw [List.getElem?_eq_getElem (by omega),List.getElem?_eq_getElem (by omega)] at this
      exact Option.some.inj this
    have g2:c[s+(i - 1)]'(by omega)=l[s+(i - 1)]'(by omega):=by
      have:=e5 (s+(i - 1)) (by omega)
      rw [List.getElem?_eq_getElem (by omega),List.getElem?_eq_getElem (by omega)] at this
      exact Option.some.inj this
    have hs1:l.take (s+(i+1))=l.take (s+i)++[l[s+i]'(by omega)]:=zi1 (n:=s+i) (by omega)
    unfold z1a
    rw [if_pos (by simp; omega)]
    simp only [Int.toNat_natCast]
    rw [zqh (by omega),z1c (x:=(i:Int) - 1) (by omega) (by omega), show ((i:Int) - 1)=((i - 1:Nat):Int) by omega,zqh (by omega)]
    simp only [bS]
    rw [z0a (by omega),z0a (by omega)]
    simp only [bS]
    by_cases hc:c[s+i]'(by omega)=c[s+(i - 1)]'(by omega)
    · rw [decide_eq_true hc,if_neg (by simp)]
      refine ⟨_,rfl,e1,z0e (by omega), by omega,j,rfl, by omega, fun q hq=>e5 q (by omega),e6, fun x=>?_⟩
      rw [e7,hs1,List.mem_append]
      refine ⟨.inl, fun h=>h.elim id fun h=>?_⟩
      have hx:x=l[s+i]'(by omega):=List.mem_singleton.1 h
      rw [hx,← g1,hc,g2,List.mem_take_iff_getElem]
      exact ⟨s+(i - 1), by omega,rfl⟩
    · rw [decide_eq_false hc,if_pos (by simp),z0a (by omega)]
      simp only [bS]
      have hset:(c.set j (l[s+i]'(by omega))).take (j+1)=c.take j++[l[s+i]'(by omega)]:=by
        rw [zi1 (by rw [List.length_set]; omega),List.take_set_of_le (Nat.le_refl _),List.getElem_set_self]
      refine ⟨_,rfl, by simpa using e1,z0e (by omega), by omega,j+1,z0e (by omega), by omega, fun q hq=>?_,?_, fun x=>?_⟩
      · show (c.set j _)[q]? = _
        rw [List.getElem?_set_ne (by omega)]; exact e5 q (by omega)
      · show ((c.set j (c[s+i]'(by omega))).take (j+1)).Pairwise _
        rw [g1,hset]
        refine zof e6 fun y hy=>?_
        have h1:=z13u hso (n:=s+i) (i:=s+(i - 1)) (by omega) (by omega) y ((e7 y).1 hy)
        have h2:kd (l[s+(i - 1)]'(by omega))≤kd (l[s+i]'(by omega)):=List.pairwise_iff_getElem.1 hso _ _ (by omega) (by omega) (by omega)
        have h3:kd (l[s+(i - 1)]'(by omega))≠kd (l[s+i]'(by omega)):=fun e=>hc (by rw [g1,g2]; exact (zln e).symm)
        omega
      · show x∈(c.set j (c[s+i]'(by omega))).take (j+1)↔_
        rw [g1,hset,hs1,List.mem_append,List.mem_append,e7]
  · rintro ⟨c,j',i'⟩ ⟨e1,e2,e0,j,e3,e4,e5,e6,e7⟩
    simp only at e1 e2 e3 e5 e6 e7
    subst e2 e3
    unfold z1a
    rw [if_neg (by simp <;> omega)]
    refine ⟨_,rfl,e1,j,rfl, by omega,e6, fun x=>?_⟩
    rw [e7,List.take_of_length_le (by omega)]
  · show x∈l.take s↔x∈l.take (s+1)
    rw [zi1 hs,List.mem_append]
    refine ⟨.inl, fun h=>h.elim id fun h=>?_⟩
    have hx:x=l[s]:=List.mem_singleton.1 h
    rw [hx,heq,List.mem_take_iff_getElem]
    exact ⟨s - 1, by omega,rfl⟩
theorem zji (l:List V3) (hl:l.length≤1000) (hso:l.Pairwise fun x y=>kd x≤kd y):∃ c,z14 l=some c∧z7k c=true∧∀ x,x∈c↔x∈l:=by
  have key:∀ k n,l.length - n=k→1≤n→n≤l.length→(l.take n).Pairwise (fun x y=>kd x<kd y)→∃ r:Sum (List V3) Unit,iter (z0m l) (n:Int)=some r∧((r=.inr ()∧l.Pairwise fun x y=>kd x<kd y)∨(∃ c,r=.inl c∧(c.Pairwise fun x y=>kd x<kd y)∧∀ x,x∈c↔x∈l)):=by
    intro k
    induction k with
    | zero =>
      intro n hk h1 hn hst
      refine ⟨_,z1z ?_,.inl ⟨rfl,?_⟩⟩
      · unfold z0m
        rw [if_neg (by simp; omega)]
      · rw [List.take_of_length_le (by omega)] at hst; exact hst
    | succ k ih =>
      intro n hk h1 hn hst
      have hlt:n<l.length:=by omega
      by_cases hc:l[n]=l[n - 1]
      · obtain ⟨⟨c,j'⟩,e1,e2,j,e3,e4,e5,e6⟩:=zs8 l hl hso n h1 hlt hst hc
        simp only at e2 e3 e5 e6
        subst e3
        have hF:z0m l (n:Int)=some (.inl (.inl (c.take j))):=by
          unfold z0m
          rw [if_pos (by simp; omega),z0a hlt,z1c (by omega) (by omega), show ((n:Int) - 1)=((n - 1:Nat):Int) by omega,z0a (by omega)]
          simp only [bS]
          rw [decide_eq_true hc,if_pos rfl,z3w (by omega)]
          simp only [bS]
          rw [e1]
          simp only [bS]
          rw [z3w (by omega),z3w (by simp; omega)]
          simp only [bS,Int.toNat_natCast]
          rw [show (0:Int)=((0:Nat):Int) from rfl,zcw (by omega) (by rw [zu2 _ _ _ _ (by omega)]; omega)]
          simp only [bS,List.drop_zero,Nat.sub_zero]
          have:(clr c j (c.length - j) (Vector.replicate 32 0)).take j=c.take j:=by
            unfold clr
            first
              | rw [List.append_assoc,List.take_append_of_le_length (by rw [List.length_take]; omega),List.take_take,Nat.min_self]
              | rw [List.take_append_of_le_length (by rw [List.length_take]; omega),List.take_take,Nat.min_self]
          rw [this]
        exact ⟨_,z1z hF,.inr ⟨_,rfl,e5,e6⟩⟩
      · have hF : z0m l (n : Int) = some (.inr ((n + 1 : Nat) : Int)) := by
          unfold z0m
          rw [if_pos (by simp; omega),z0a hlt,z1c (x:=(n:Int) - 1) (by omega) (by omega), show ((n:Int) - 1)=((n - 1:Nat):Int) by omega,z0a (by omega)]
          simp only [bS]
          rw [decide_eq_false hc,if_neg (by simp),z0e (by omega)]
        obtain ⟨r,h2,h3⟩:=ih (n+1) (by omega) (by omega) (by omega) (by
          rw [zi1 hlt]
          refine zof hst fun y hy=>?_
          have h1':=z13u hso (n:=n) (i:=n - 1) (by omega) (by omega) y hy
          have h2':kd (l[n - 1]'(by omega))≤kd l[n]:=List.pairwise_iff_getElem.1 hso _ _ (by omega) hlt (by omega)
          have h3':kd (l[n - 1]'(by omega))≠kd l[n]:=fun e=>hc (zln e).symm
          omega)
        exact ⟨r, by rw [z2f hF]; exact h2,h3⟩
  unfold z14
  by_cases h2:l.length<2
  · rw [if_pos (by simp; omega)]
    refine ⟨l,rfl,?_, fun x=>Iff.rfl⟩
    match l,h2 with
    | [],_=>rfl
    | [_],_=>rfl
  · rw [if_neg (by simp; omega)]
    obtain ⟨r,e1,e2⟩:=key (l.length - 1) 1 rfl (by omega) (by omega) (by rw [zi1 (by omega)]; simp)
    rw [show (1:Int)=((1:Nat):Int) from rfl,e1]
    rcases e2 with ⟨rfl,h3⟩ | ⟨c,rfl,h3,h4⟩
    · exact ⟨l,rfl,(zce l).2 h3, fun x=>Iff.rfl⟩
    · exact ⟨c,rfl,(zce c).2 h3,h4⟩
def zx2 (cl:ID→Option Bool) (a0:List ID) (s2:Int):Option (Sum (Sum Int Unit) Int) :=
  if decide (s2<(a0.length:Int)) then
    idx a0 s2 >>= fun x4 =>
    cl x4 >>= fun r6 =>
    if r6 then
      some (.inl (.inl s2))
    else
      some (.inr (w64 (s2+1)))
  else
    some (.inl (.inr ()))
def zzb (cl:ID→Option Bool) (s5:(List ID) × Int × Int):Option (Sum ((List ID) × Int) ((List ID) × Int × Int)) :=
  if decide (s5.2.2<(s5.1.length:Int)) then
    idx s5.1 s5.2.2 >>= fun x7 =>
    cl x7 >>= fun r10 =>
    if !r10 then
      idx s5.1 s5.2.1 >>= fun x13 =>
      some (w64 (s5.2.1+1)) >>= fun y15 =>
      some (w64 (s5.2.2+1)) >>= fun y16 =>
      some (.inr (s5.1.set (s5.2.1:Int).toNat x7,y15,y16))
    else
      some (w64 (s5.2.2+1)) >>= fun y17 =>
      some (.inr (s5.1,s5.2.1,y17))
  else
    some (.inl (s5.1,s5.2.1))
def z16w (cl:ID→Option Bool) (c0:List ID):Option (List ID) :=
  (z61 (iter (zx2 cl c0) 0) fun s1=>some (-1)) >>= fun r1 =>
  if r1==(-1) then
    some c0
  else
    (iter (zzb cl) (c0,r1,w64 (r1+1))) >>= fun s4 =>
    chk (0≤s4.2∧s4.2≤(s4.1.length:Int)∧(s4.1.length:Int)≤(s4.1.length:Int)) >>= fun u18 =>
    chk ((s4.2:Int).toNat+(((s4.1.length:Int):Int).toNat - (s4.2:Int).toNat)≤s4.1.length) >>= fun u20 =>
    cut (clr s4.1 ((s4.2:Int).toNat) (((s4.1.length:Int):Int).toNat - (s4.2:Int).toNat) (Vector.replicate 32 0)) 0 s4.2 >>= fun x22 =>
    some x22
theorem z120 (cl:ID→Option Bool) (p:ID→Bool) (hp:∀ x,cl x=some (p x)) (l:List ID) (hl:l.length≤1000):∃ b:Sum Int Unit,iter (zx2 cl l) 0=some b∧((b=.inr ()∧∀ x∈l,p x=false)∨∃ i:Nat,b=.inl (i:Int)∧(∃ h:i<l.length,p l[i]=true)∧∀ k (h:k<l.length),k<i→p l[k]=false):=by
  refine z9u (F:=zx2 cl l) (fun s=>∃ i:Nat,s=(i:Int)∧i≤l.length∧∀ k (h:k<l.length),k<i→p l[k]=false) (fun s=>l.length - s.toNat) _ ?_ 0 ⟨0,rfl,Nat.zero_le _, fun k _ h=>by omega⟩
  rintro s ⟨i,rfl,h1,h2⟩
  by_cases hi:i<l.length
  · have hF : zx2 cl l (i : Int) = if p l[i] then some (.inl (.inl (i : Int))) else some (.inr ((i + 1 : Nat) : Int)) := by
      unfold zx2
      rw [if_pos (by simpa using hi),z0a hi,z0e (by omega)]
      simp only [bS]
      rw [hp]
      simp only [bS]
    cases hc:p l[i] with
    | true=>rw [hc] at hF; exact .inl ⟨_,hF,.inr ⟨i,rfl,⟨hi,hc⟩,h2⟩⟩
    | false =>
      rw [hc] at hF
      refine .inr ⟨_,hF,⟨i+1,rfl,hi, fun k hk hki=>?_⟩, by simp; omega⟩
      by_cases hk':k=i
      · subst hk'; exact hc
      · exact h2 k hk (by omega)
  · refine .inl ⟨.inr (),?_,.inl ⟨rfl, fun x hx=>?_⟩⟩
    · unfold zx2
      rw [if_neg (by simpa using hi)]
    · obtain ⟨k,hk,rfl⟩:=List.getElem_of_mem hx
      exact h2 k hk (by omega)
theorem zqe (cl:ID→Option Bool) (p:ID→Bool) (hp:∀ x,cl x=some (p x)) (l:List ID) (hl:l.length≤1000):z16w cl l=some (l.filter fun x=>!p x):=by
  obtain ⟨b,b1,b2⟩:=z120 cl p hp l hl
  unfold z16w
  rw [b1]
  rcases b2 with ⟨rfl,b3⟩ | ⟨i,rfl,⟨b3,b5⟩,b4⟩
  · simp only [zt7,bS]
    rw [if_pos (by rfl),List.filter_eq_self.2 (fun x hx=>by rw [b3 x hx]; first | done | rfl)]
  · simp only [zzk,bS]
    rw [if_neg (by simp <;> omega),z0e (by omega)]
    have h0:(l.take (i+1)).filter (fun x=>!p x)=l.take i:=by
      rw [zi1 b3,List.filter_append,List.filter_cons_of_neg (by rw [b5]; simp),List.filter_nil,List.append_nil]
      refine List.filter_eq_self.2 fun x hx=>?_
      obtain ⟨k,hk,rfl⟩:=List.getElem_of_mem hx
      rw [List.length_take] at hk
      rw [List.getElem_take,b4 k (by omega) (by omega)]; rfl
    have main:=z85 (F:=zzb cl) l.length
      (fun j st=>st.1.length=l.length∧st.2.2=(j:Int)∧∃ i:Nat,st.2.1=(i:Int)∧i<j∧(∀ q,j≤q→st.1[q]? = l[q]?)∧st.1.take i=(l.take j).filter fun x=>!p x)
      (fun b=>b.1.length=l.length∧∃ i:Nat,b.2=(i:Int)∧i≤l.length∧b.1.take i=l.filter fun x=>!p x)
      (fun j st hj hst=>by
        obtain ⟨c,i',j'⟩:=st
        obtain ⟨e1,e2,i,e3,e4,e5,e6⟩:=hst
        simp only at e1 e2 e3 e5 e6
        subst e2 e3
        have g1:c[j]'(by omega)=l[j]:=by
          have:=e5 j (Nat.le_refl _)
          rw [List.getElem?_eq_getElem (by omega),List.getElem?_eq_getElem (by omega)] at this
          exact Option.some.inj this
        have hF:zzb cl (c,(i:Int),(j:Int))=if !p l[j] then some (.inr (c.set i l[j],((i+1:Nat):Int),((j+1:Nat):Int))) else some (.inr (c,(i:Int),((j+1:Nat):Int))):=by
          unfold zzb
          rw [if_pos (by simp; omega)]
          simp only []
          rw [z0a (by omega),g1]
          simp only [bS]
          rw [hp]
          simp only [bS]
          rw [z0a (by omega),z0e (by omega),z0e (by omega)]
          simp only [bS,Int.toNat_natCast]
        cases hc:p l[j] with
        | true =>
          rw [hc,if_neg (by simp)] at hF
          refine ⟨_,hF,e1,rfl,i,rfl, by omega, fun q hq=>e5 q (by omega),?_⟩
          rw [zi1 hj,List.filter_append,List.filter_cons_of_neg (by rw [hc]; simp),List.filter_nil,List.append_nil]
          exact e6
        | false =>
          rw [hc,if_pos (by simp)] at hF
          refine ⟨_,hF, by simpa using e1,rfl,i+1,rfl, by omega, fun q hq=>?_,?_⟩
          · show (c.set i _)[q]? = _
            rw [List.getElem?_set_ne (by omega)]; exact e5 q (by omega)
          · show (c.set i l[j]).take (i+1)=_
            rw [zi1 (by rw [List.length_set]; omega),List.take_set_of_le (Nat.le_refl _),List.getElem_set_self,e6,zi1 hj,List.filter_append,List.filter_cons_of_pos (by rw [hc]; simp),List.filter_nil])
      (fun st hst=>by
        obtain ⟨c,i',j'⟩:=st
        obtain ⟨e1,e2,i,e3,e4,e5,e6⟩:=hst
        simp only at e1 e2 e3 e5 e6
        subst e2 e3
        refine ⟨(c,(i:Int)),?_,e1,i,rfl, by omega,?_⟩
        · unfold zzb
          rw [if_neg (by simp; omega)]
        · rw [List.take_length] at e6; exact e6)
      (l,(i:Int),((i+1:Nat):Int)) (i+1) b3 ⟨rfl,rfl,i,rfl, by omega, fun _ _=>rfl,h0.symm⟩
    obtain ⟨⟨c,k'⟩,m1,m2,k,m3,m4,m5⟩:=main
    simp only at m2 m3 m5
    subst m3
    rw [m1]
    simp only [bS]
    rw [z3w (by omega),z3w (by simp; omega)]
    simp only [bS,Int.toNat_natCast]
    rw [show (0:Int)=((0:Nat):Int) from rfl,zcw (by omega) (by rw [zu2 _ _ _ _ (by omega)]; omega)]
    simp only [bS,List.drop_zero,Nat.sub_zero]
    have:(clr c k (c.length - k) (Vector.replicate 32 0)).take k=c.take k:=by
      unfold clr
      first
              | rw [List.append_assoc,List.take_append_of_le_length (by rw [List.length_take]; omega),List.take_take,Nat.min_self]
              | rw [List.take_append_of_le_length (by rw [List.length_take]; omega),List.take_take,Nat.min_self]
    rw [this,m5]
theorem z16r (m:List (ID × Int)) (p:ID→Bool) (hp:∀ x,(zkg m x).isSome=p x) (l:List ID) (hl:l.length≤1000):z1s l m=some (l.filter fun x=>!p x):=by
  have:=zqe (fun x=>z7u x m) p (fun x=>by unfold z7u; simp only [bS]; rw [hp]) l hl
  exact this
theorem zu5 (E:z92 g):∃ m,z4f g=some m∧∀ x,(zkg m x).isSome=decide (x∈g.IDs):=by
  have hlen:=E.len
  have hids:=E.ids
  have main:=z85 (F:=z4k g) g.IDs.length
    (fun i s=>s.2=(i:Int)∧∀ x,(zkg s.1 x).isSome=decide (x∈g.IDs.take i))
    (fun m=>∀ x,(zkg m x).isSome=decide (x∈g.IDs))
    (fun i s hi hs=>by
      obtain ⟨m,i'⟩:=s
      obtain ⟨h1,h2⟩:=hs
      simp only at h1 h2
      subst h1
      refine ⟨(ztd m g.IDs[i] (i:Int),((i+1:Nat):Int)),?_,rfl, fun x=>?_⟩
      · unfold z4k
        rw [if_pos (by simpa using hi)]
        simp only []
        rw [z0a hi,z0e (by omega)]
        simp only [bS]
      · simp only []
        rw [znu,zi1 hi]
        by_cases he:x=g.IDs[i]
        · rw [if_pos he,decide_eq_true (List.mem_append.2 (.inr (List.mem_singleton.2 he)))]; rfl
        · rw [if_neg he,h2,decide_eq_decide,List.mem_append]
          exact ⟨.inl, fun h=>h.resolve_right fun h=>he (List.mem_singleton.1 h)⟩)
    (fun s hs=>by
      obtain ⟨m,i'⟩:=s
      obtain ⟨h1,h2⟩:=hs
      simp only at h1 h2
      subst h1
      rw [List.take_length] at h2
      refine ⟨m,?_,h2⟩
      unfold z4k
      rw [if_neg (by simp)])
    (([]:List (ID × Int)),0) 0 (Nat.zero_le _) ⟨rfl, fun x=>by simp [zkg]⟩
  obtain ⟨m,h1,h2⟩:=main
  refine ⟨m,?_,h2⟩
  unfold z4f
  rw [h1]
  simp only [bS]
end
section
open Go
variable {g:z00}
theorem zs0 (G:z6f g):∃ Q,z4p g=some (il Q)∧zfk (z1j g) g.Ops.length Q∧Q.length=g.Ops.length:=by
 have E:=G.e
 have hP:=z12b E G.ins
 have hlen:=E.len
 have main:=z9u (F:=z43 g)
  (fun s=>∃ Q b,s=zix g Q b∧zfk (z1j g) g.Ops.length Q∧(b=false→∀ i,i<g.Ops.length→(∀ p∈z1j g i,p∈Q)→i∈Q))
  (fun s=>(g.Ops.length - s.1.length)+(if s.2.2.2 then 1 else 0))
  (fun r=>∃ Q:List Nat,r=il Q∧zfk (z1j g) g.Ops.length Q∧Q.length=g.Ops.length)
  (fun s hs=>by
   obtain ⟨Q,b,rfl,h1,h3⟩:=hs
   obtain ⟨hg,ht⟩:=h1.got
   have hql:=hg.len
   cases b with
   | false =>
    left
    refine ⟨il Q,rfl,Q,rfl,h1,?_⟩
    have:¬ Q.length<g.Ops.length:=(zqd hg.nodup hg.lt).2 fun i hi=>by
     have hw:=G.wf i hi
     revert hi
     induction hw with
     | mk i hpi ih=>exact fun hi=>h3 rfl i hi fun p hp=>ih p hp (hP.lt i p hp)
    omega
   | true =>
    right
    obtain ⟨r,e1,e2⟩:=z13g E G.ins Q hg ht
    rcases e2 with ⟨i,rfl,e3,e4,e5,e6,e7,e8⟩ | ⟨rfl,e3⟩
    ·
     refine ⟨_,?_,⟨Q++[i],true,rfl,.snoc h1 ⟨e5,zgx.2 ⟨e6,e7⟩, fun j hj=>?_⟩, by simp⟩,?_⟩
     ·
      unfold z43
      exact (if_pos rfl).trans e1
     ·
      cases hc:zgu (z1j g) Q j with
      | false=>rfl
      | true =>
       obtain ⟨c1,c2⟩:=zgx.1 hc
       exact absurd (e8 j hj c2) c1
     ·
      have:=e3.len
      simp only [zix,zfh,List.length_append,List.length_cons,List.length_nil] at this ⊢
      omega
    ·
     refine ⟨_,?_,⟨Q,false,rfl,h1, fun _=>e3⟩,?_⟩
     ·
      unfold z43
      exact (if_pos rfl).trans e1
     ·
      simp [zix])
  ([],[],List.replicate g.Ops.length false,true) ⟨[],true, by unfold zix; rw [zf2]; simp [il],.nil, by simp⟩
 obtain ⟨r,e1,Q,rfl,e2,e3⟩:=main
 refine ⟨Q,?_,e2,e3⟩
 unfold z4p
 rw [zja (by omega) (by omega)]
 simp only [bS]
 rw [e1]
 simp only [bS]
theorem zya (E:z92 g) {Q:List Nat} (hQ:∀ x∈Q,x<g.Ops.length) (hl:Q.length≤100) (h:z4p g=some (il Q)):zb3 g=some (Q.map (zf8 g)):=by
 have hlen:=E.len
 have hids:=E.ids
 have main:=z2a (F:=z8e g (il Q)) (b:=Q.map (zf8 g)) Q.length (fun k=>((Q.take k).map (zf8 g),(k:Int))) (fun k hk=>?_) ?_
 ·
  unfold zb3
  rw [h]
  simp only [bS]
  rw [List.take_zero,List.map_nil, show ((0:Nat):Int)=0 from rfl] at main
  rw [main]
  simp only [bS]
 ·
  have hx:=hQ _ (List.getElem_mem hk)
  have hxi:Q[k]<g.IDs.length:=by omega
  unfold z8e
  rw [if_pos (by rw [zfh]; simpa using hk)]
  simp only []
  rw [zze hk]
  simp only [bS]
  rw [z0a hxi]
  simp only [bS]
  rw [z1f (by rw [List.length_map,List.length_take]; simp only [List.length_cons,List.length_nil]; omega),z0e (by omega),zi1 hk,List.map_append,← z6p hxi]
  simp only [bS]
  rfl
 ·
  unfold z8e
  rw [if_neg (by rw [zfh]; simp),List.take_length]
theorem zwp {c:Int} (h1:z24 g=some c) (h2:z0d g=some c) (h3:c=0↔z6f g):∃ r,z9n g=some r∧z9e g=some r∧r.1.length≤60:=by
 by_cases hc:c=0
 ·
  subst hc
  have G:=h3.1 rfl
  have hlen:=G.e.len
  obtain ⟨Q,q1,q2,q3⟩:=zvm G h1
  obtain ⟨R,r1,r2,r3⟩:=zs0 G
  have:Q=R:=q2.unique R r2 (by omega)
  subst this
  refine ⟨_,q1,?_, by rw [List.length_map]; omega⟩
  unfold z9e
  rw [h2]
  simp only [bS]
  rw [if_neg (by simp),zya G.e q2.got.1.lt (by omega) r1]
  simp only [bS]
 ·
  have hcb:(c != 0)=true:=by simpa using hc
  refine ⟨([],c),?_,?_, by simp⟩
  ·
   unfold z9n
   rw [h1]
   simp only [bS]
   rw [hcb]; rfl
  ·
   unfold z9e
   rw [h2]
   simp only [bS]
   rw [hcb]; rfl
def zux (g:z00) (m:Nat→Bool):Nat→List ID
 | 0=>[]
 | i+1=>if m i then zux g m i++[zf8 g i] else zux g m i
def zx9 (g:z00) (m:Nat→Bool):Nat→List z0b
 | 0=>[]
 | i+1=>if m i then zx9 g m i++g.Ops[i]?.toList else zx9 g m i
theorem z13i {g:z00} {m:Nat→Bool} {i:Nat} (h:m i=true):zux g m (i+1)=zux g m i++[zf8 g i]:=if_pos h
theorem z168 {g:z00} {m:Nat→Bool} {i:Nat} (h:m i=true):zx9 g m (i+1)=zx9 g m i++g.Ops[i]?.toList:=if_pos h
theorem z13o {g:z00} {m:Nat→Bool} {i:Nat} (h:m i=false):zux g m (i+1)=zux g m i:=if_neg (by rw [h]; simp)
theorem z179 {g:z00} {m:Nat→Bool} {i:Nat} (h:m i=false):zx9 g m (i+1)=zx9 g m i:=if_neg (by rw [h]; simp)
def subG (g:z00) (m:Nat→Bool):z00:=⟨zux g m g.Ops.length,zx9 g m g.Ops.length⟩
theorem zvk (g:z00) (m:Nat→Bool):∀ i,(zux g m i).length≤i
 | 0=>Nat.le_refl _
 | i+1=>by
  have:=zvk g m i
  unfold zux
  split
  ·
   rw [List.length_append,List.length_singleton]; omega
  ·
   omega
theorem zv1 (g:z00) (m:Nat→Bool):∀ i,(zx9 g m i).length≤i
 | 0=>Nat.le_refl _
 | i+1=>by
  have:=zv1 g m i
  unfold zx9
  split
  ·
   rw [List.length_append]
   have:g.Ops[i]?.toList.length≤1:=by cases g.Ops[i]? <;> simp
   omega
  ·
   omega
theorem z11u (E:z92 g) (m:Nat→Bool):iter (z8k g (tab g.Ops.length m)) ([],[],0)=some (zux g m g.Ops.length,zx9 g m g.Ops.length):=by
 have hlen:=E.len
 have hids:=E.ids
 have main:=z2a (F:=z8k g (tab g.Ops.length m)) (b:=(zux g m g.Ops.length,zx9 g m g.Ops.length)) g.Ops.length (fun i=>(zux g m i,zx9 g m i,(i:Int))) (fun i hi=>?_) ?_
 ·
  exact main
 ·
  have hii:i<g.IDs.length:=by omega
  have l1:=zvk g m i
  have l2:=zv1 g m i
  have h4:=(E.op i hi).1
  unfold z8k
  rw [if_pos (by rw [zjr]; simpa using hi)]
  simp only []
  rw [zb9 hi,z0e (by omega)]
  simp only [bS]
  cases hm:m i with
  | false =>
   rw [if_neg (by simp),z13o hm,z179 hm]
  | true =>
   rw [if_pos rfl,z0a hi]
   simp only [bS]
   rw [zg1 _ (by omega),z0a hii]
   simp only [bS]
   rw [z1f (by simp only [List.length_cons,List.length_nil]; omega)]
   simp only [bS]
   rw [z1f (by simp only [List.length_cons,List.length_nil]; omega)]
   simp only [bS]
   rw [z13i hm,z168 hm,z6p hii,List.getElem?_eq_getElem hi]
   rfl
 ·
  unfold z8k
  rw [if_neg (by rw [zjr]; simp)]
theorem zzy {P:Nat→List Nat} {S:List Nat} {i:Nat}:Rch P S i↔i∈S∨∃ s∈S,Rch P (P s) i:=by
 constructor
 ·
  intro h
  induction h with
  | base h=>exact .inl h
  | @step i p _ hp ih =>
   rcases ih with h | ⟨s,hs,h⟩
   ·
    exact .inr ⟨i,h,.base hp⟩
   ·
    exact .inr ⟨s,hs,.step h hp⟩
 ·
  rintro (h | ⟨s,hs,h⟩)
  ·
   exact .base h
  ·
   exact h.thru fun x hx=>.step (.base hs) hx
end
section
open Go
variable {g:z00}
theorem zzs (g:z00) (m:Nat→Bool):∀ i,zux g m i=((List.range i).filter m).map (zf8 g)
 | 0=>rfl
 | i+1=>by
  have ih:=zzs g m i
  rw [List.range_succ,List.filter_append,List.map_append,← ih]
  cases hm:m i with
  | true=>rw [z13i hm,List.filter_cons_of_pos (by exact hm)]; rfl
  | false=>rw [z13o hm,List.filter_cons_of_neg (by rw [hm]; simp)]; simp
theorem zwf (g:z00) (m:Nat→Bool):zux g m g.Ops.length=zd1 g m:=zzs g m _
theorem zrc (G:z6f g) (h1:z24 g=some 0) (l:List ID) (hl:l.length≤60):∃ r,zbw g l=some (r,0)∧∀ x,x∈r↔x∈l∧x∉g.IDs:=by
 unfold zbw
 rw [h1]
 simp only [bS]
 rw [if_neg (by simp),if_neg (by simp; omega)]
 obtain ⟨m,m1,m2⟩:=zu5 G.e
 obtain ⟨F,f1,f2,f3⟩:∃ F,z1s l m=some F∧F.length≤l.length∧∀ x,x∈F↔x∈l∧x∉g.IDs :=
  ⟨_,z16r m _ m2 l (by omega),List.length_filter_le _ _, fun x=>by rw [List.mem_filter]; simp⟩
 obtain ⟨d,d1,d2,d3⟩:=zji (zt1 F) (by rw [zlp]; omega) (zmv _)
 rw [m1]
 simp only [bS]
 rw [zg1 l (by omega)]
 simp only [bS]
 rw [f1]
 simp only [bS]
 unfold zp1
 rw [z3w (by omega)]
 simp only [bS]
 rw [d1]
 simp only [bS]
 exact ⟨d,rfl, fun x=>by rw [d3,zs9,f3]⟩
theorem zwu (G:z6f g) (h1:z24 g=some 0) (l:List ID) (hb:l.length≤60) (hin:∀ x∈l,x∈g.IDs):∃ m,zdb g l=some (subG g m,0)∧∀ i,m i=true↔Rch (z1j g) (l.map fun x=>g.IDs.idxOf x) i:=by
 obtain ⟨r,r1,r2⟩:=zrc G h1 l hb
 have he:r=[]:=by
  cases r with
  | nil=>rfl
  | cons a b =>
   have:=(r2 a).1 (by simp)
   exact absurd (hin a this.1) this.2
 subst he
 obtain ⟨m,m1,m2⟩:=z11r G.e G.ins l hin (by omega)
 refine ⟨m,?_,m2⟩
 unfold zdb
 rw [r1]
 simp only [bS]
 rw [if_neg (by simp),if_neg (by simp),m1]
 simp only [bS]
 rw [z11u G.e m]
 simp only [bS]
 rfl
end
section
open Go
variable {g:z00}
theorem zac (l:List ID) (x:ID) (hl:l.length≤1000):z1u l x=some (decide (x∈l)):=by
 have main:=z9u (F:=z3e l x) (fun s=>∃ i:Nat,s=(i:Int)∧i≤l.length∧∀ k (h:k<l.length),k<i→l[k]≠x) (fun s=>l.length - s.toNat)
  (fun b:Sum Int Unit=>(b=.inr ()∧x∉l)∨∃ i:Nat,b=.inl (i:Int)∧x∈l)
  (fun s hs=>by
   obtain ⟨i,rfl,h1,h2⟩:=hs
   by_cases hi:i<l.length
   ·
    have hF:z3e l x (i:Int)=if decide (x=l[i]) then some (.inl (.inl (i:Int))) else some (.inr ((i+1:Nat):Int)):=by
     unfold z3e
     rw [if_pos (by simpa using hi),z0a hi,z0e (by omega)]
     simp only [bS]
    by_cases hc:x=l[i]
    ·
     rw [decide_eq_true hc,if_pos rfl] at hF
     exact .inl ⟨_,hF,.inr ⟨i,rfl,hc ▸ List.getElem_mem hi⟩⟩
    ·
     rw [decide_eq_false hc,if_neg (by simp)] at hF
     refine .inr ⟨_,hF,⟨i+1,rfl,hi, fun k hk hki=>?_⟩, by simp; omega⟩
     by_cases hk':k=i
     ·
      subst hk'; exact fun e=>hc e.symm
     ·
      exact h2 k hk (by omega)
   ·
    refine .inl ⟨.inr (),?_,.inl ⟨rfl, fun hx=>?_⟩⟩
    ·
     unfold z3e
     rw [if_neg (by simpa using hi)]
    ·
     obtain ⟨k,hk,e⟩:=List.getElem_of_mem hx
     exact h2 k hk (by omega) e)
  0 ⟨0,rfl,Nat.zero_le _, fun k _ h=>by omega⟩
 obtain ⟨b,b1,b2⟩:=main
 unfold z1u z75
 rw [b1]
 rcases b2 with ⟨rfl,h⟩ | ⟨i,rfl,h⟩
 ·
  rw [decide_eq_false h]; rfl
 ·
  rw [decide_eq_true h]
  simp only [zzk,bS]
  rw [decide_eq_true (by simp)]
theorem in27 (l:List ID) (x:ID) (hl:l.length≤100000):z7s l x=some (decide (x∈l)):=by
 have main:=z9u (F:=z98 l x) (fun s=>∃ i:Nat,s=(i:Int)∧i≤l.length∧∀ k (h:k<l.length),k<i→l[k]≠x) (fun s=>l.length - s.toNat)
  (fun b:Sum Bool Unit=>(b=.inr ()∧x∉l)∨(b=.inl true∧x∈l))
  (fun s hs=>by
   obtain ⟨i,rfl,h1,h2⟩:=hs
   by_cases hi:i<l.length
   ·
    have hF:z98 l x (i:Int)=if decide (l[i]=x) then some (.inl (.inl true)) else some (.inr ((i+1:Nat):Int)):=by
     unfold z98
     rw [if_pos (by simpa using hi),z0a hi,z0e (by omega)]
     simp only [bS]
    by_cases hc:l[i]=x
    ·
     rw [decide_eq_true hc,if_pos rfl] at hF
     exact .inl ⟨_,hF,.inr ⟨rfl,hc ▸ List.getElem_mem hi⟩⟩
    ·
     rw [decide_eq_false hc,if_neg (by simp)] at hF
     refine .inr ⟨_,hF,⟨i+1,rfl,hi, fun k hk hki=>?_⟩, by simp; omega⟩
     by_cases hk':k=i
     ·
      subst hk'; exact hc
     ·
      exact h2 k hk (by omega)
   ·
    refine .inl ⟨.inr (),?_,.inl ⟨rfl, fun hx=>?_⟩⟩
    ·
     unfold z98
     rw [if_neg (by simpa using hi)]
    ·
     obtain ⟨k,hk,e⟩:=List.getElem_of_mem hx
     exact h2 k hk (by omega) e)
  0 ⟨0,rfl,Nat.zero_le _, fun k _ h=>by omega⟩
 obtain ⟨b,b1,b2⟩:=main
 unfold z7s
 rw [b1]
 rcases b2 with ⟨rfl,h⟩ | ⟨rfl,h⟩
 ·
  rw [decide_eq_false h]; rfl
 ·
  rw [decide_eq_true h]; rfl
theorem z10p:∀ a b:List UInt8,a.length=b.length→Op.bytesLess a b=decide (nk a<nk b)
 | [],[],_=>by simp [Op.bytesLess,nk]
 | [],_::_,h=>by simp at h
 | _::_,[],h=>by simp at h
 | a::x,b::y,h=>by
  have hl:x.length=y.length:=by simpa using h
  have ih:=z10p x y hl
  have lx:=zxw x
  have ly:=zxw y
  unfold Op.bytesLess
  rw [ih]
  simp only [nk,hl] at *
  have e:∀ u v:UInt8,u.toNat<v.toNat→u.toNat * 256 ^ y.length+256 ^ y.length≤v.toNat * 256 ^ y.length:=fun u v huv=>by
   have:=Nat.mul_le_mul_right (256 ^ y.length) (show u.toNat+1≤v.toNat from huv)
   rwa [Nat.add_mul,Nat.one_mul] at this
  by_cases h1:a<b
  ·
   have:=e a b (UInt8.lt_iff_toNat_lt.1 h1)
   rw [decide_eq_true h1,Bool.true_or,decide_eq_true (by omega)]
  ·
   by_cases h2:b<a
   ·
    have:=e b a (UInt8.lt_iff_toNat_lt.1 h2)
    have hne:(a==b)=false:=by
     rw [beq_eq_false_iff_ne]
     exact fun c=>by subst c; exact h1 h2
    rw [decide_eq_false h1,hne,Bool.false_and,Bool.or_false,decide_eq_false (by omega)]
   ·
    have h3:a=b:=UInt8.toNat_inj.1 (by rw [UInt8.lt_iff_toNat_lt] at h1 h2; omega)
    subst h3
    rw [decide_eq_false h1,Bool.false_or,beq_self_eq_true,Bool.true_and,decide_eq_decide]
    omega
theorem z131 (a b:ID):zau a b=some (decide (kd a<kd b)):=by
 unfold zau z14v
 rw [z10p _ _ (by simp)]
 rfl
theorem z154 (s:List ID) (x:ID) (hl:s.length≤100000) (hs:z7k s=true):∃ t,z9o s x=some t∧z7k t=true∧∀ y,y∈t↔y∈s∨y=x:=by
 have main:=z9u (F:=z8h s x) (fun st=>∃ i:Nat,st=(i:Int)∧i≤s.length∧∀ j (h:j<s.length),j<i→kd s[j]<kd x) (fun st=>s.length - st.toNat)
  (fun r=>∃ k:Nat,r=(k:Int)∧k≤s.length∧(∀ i (h:i<s.length),i<k→kd s[i]<kd x)∧(∀ i (h:i<s.length),k≤i→kd x≤kd s[i]))
  (fun st hst=>by
   obtain ⟨i,rfl,h1,h2⟩:=hst
   by_cases hi':i<s.length
   ·
    have hF:z8h s x (i:Int)=if decide (kd s[i]<kd x) then some (.inr ((i+1:Nat):Int)) else some (.inl (i:Int)):=by
     unfold z8h
     rw [if_pos (by simpa using hi'),z0a hi',z0e (by omega)]
     simp only [bS]
     rw [z131]
     simp only [bS]
    by_cases hc:kd s[i]<kd x
    ·
     rw [decide_eq_true hc,if_pos rfl] at hF
     refine .inr ⟨_,hF,⟨i+1,rfl,hi', fun j hj hji=>?_⟩, by simp; omega⟩
     by_cases hji':j=i
     ·
      subst hji'; exact hc
     ·
      exact h2 j hj (by omega)
    ·
     rw [decide_eq_false hc,if_neg (by simp)] at hF
     refine .inl ⟨_,hF,i,rfl,h1,h2, fun j hj hij=>?_⟩
     by_cases hji':j=i
     ·
      subst hji'; omega
     ·
      have:=zfu hs hi' hj (by omega); omega
   ·
    refine .inl ⟨(i:Int),?_,i,rfl,h1,h2, fun j hj hij=>by omega⟩
    unfold z8h
    rw [if_neg (by simpa using hi')])
  0 ⟨0,rfl,Nat.zero_le _, fun j _ h=>by omega⟩
 obtain ⟨r,r1,k,rfl,k2,k3,k4⟩:=main
 have hmem:x∈s↔∃ h:k<s.length,s[k]=x:=by
  constructor
  ·
   intro hm
   obtain ⟨i,hi,e⟩:=List.getElem_of_mem hm
   by_cases hik:i<k
   ·
    have:=k3 i hi hik; rw [e] at this; omega
   ·
    by_cases hik':i=k
    ·
     subst hik'; exact ⟨hi,e⟩
    ·
     have hk:k<s.length:=by omega
     have:=zfu hs hk hi (by omega)
     have:=k4 k hk (Nat.le_refl _)
     rw [e] at *; omega
  ·
   rintro ⟨h,e⟩; rw [← e]; exact List.getElem_mem h
 unfold z9o
 rw [r1]
 simp only [bS]
 have fresh:x∉s→(cut s 0 (k:Int) >>= fun x15=>app 32 ([]:List ID) x15 >>= fun x17=>app 32 x17 [x] >>= fun x19=>cut s (k:Int) (s.length:Int) >>= fun x21=>app 32 x19 x21 >>= fun x23=>some x23)=some (s.take k++[x]++s.drop k):=fun _=>by
  rw [show (0:Int)=((0:Nat):Int) from rfl,zcw (by omega) k2,zcw k2 (by omega)]
  simp only [bS,List.drop_zero,Nat.sub_zero]
  rw [List.take_of_length_le (l:=s.drop k) (by simp),z1f (by simp; omega)]
  simp only [bS,List.nil_append]
  rw [z1f (by simp; omega)]
  simp only [bS]
  rw [z1f (by simp; omega)]
  simp only [bS]
 by_cases hm:x∈s
 ·
  obtain ⟨hk,e⟩:=hmem.1 hm
  rw [if_pos (by simpa using hk),z0a hk]
  simp only [bS]
  rw [decide_eq_true e,if_pos rfl]
  exact ⟨s,rfl,hs, fun y=>⟨.inl, fun h=>h.elim id fun h=>h ▸ hm⟩⟩
 ·
  have hor:(if decide ((k:Int)<(s.length:Int))=true then idx s (k:Int) >>= fun x12=>if decide (x12=x)=true then (some (.inl s):Option (Sum (List ID) Unit)) else some (.inr ()) else some (.inr ()))=some (.inr ()):=by
   by_cases hk:k<s.length
   ·
    rw [if_pos (by simpa using hk),z0a hk]
    simp only [bS]
    rw [decide_eq_false fun e=>hm (hmem.2 ⟨hk,e⟩),if_neg (by simp)]
   ·
    rw [if_neg (by simpa using hk)]
  rw [hor]
  simp only [zt7]
  rw [fresh hm]
  refine ⟨_,rfl,zo0 hs k2 k3 fun i hi hki=>?_,zst _ _ _⟩
  have:=k4 i hi hki
  rcases Nat.lt_or_eq_of_le this with h | h
  ·
   exact h
  ·
   exact absurd (zln h ▸ List.getElem_mem hi) hm
theorem z143 (cap:z00) (p:ID→Bool) (hp:∀ x,zao x cap=some (p x)) (l:List ID) (hl:l.length≤1000):z23 l cap=some (l.filter fun x=>!p x) :=
 zqe (fun x=>zao x cap) p hp l hl
theorem z15l (cap:z00) (p:ID→Bool) (hp:∀ x,zam x cap=some (p x)) (l:List ID) (hl:l.length≤1000):z26 l cap=some (l.filter fun x=>!p x) :=
 zqe (fun x=>zam x cap) p hp l hl
theorem zy5 (cap cap2:List ID) (p:ID→Bool) (hp:∀ x,zaa x cap cap2=some (p x)) (l:List ID) (hl:l.length≤1000):z35 l cap cap2=some (l.filter fun x=>!p x) :=
 zqe (fun x=>zaa x cap cap2) p hp l hl
theorem zus (F:List ID) (hF:F.length≤100):∃ d,(zp1 F >>= fun r6=>z14 r6)=some d∧z7k d=true∧∀ x,x∈d↔x∈F:=by
 obtain ⟨d,d1,d2,d3⟩:=zji (zt1 F) (by rw [zlp]; omega) (zmv _)
 refine ⟨d,?_,d2, fun x=>by rw [d3,zs9]⟩
 unfold zp1
 rw [z3w (by omega)]
 simp only [bS]
 rw [d1]
theorem zwk (E:z92 g) (l:List ID) (hl:l.length≤60):∃ d,zet g l=some d∧z7k d=true∧∀ x,x∈d↔x∈l∧x∉g.IDs:=by
 have hlen:=E.len
 have hids:=E.ids
 obtain ⟨F,f1,f2,f3⟩:∃ F,z23 l g=some F∧F.length≤l.length∧∀ x,x∈F↔x∈l∧x∉g.IDs :=
  ⟨_,z143 g (fun x=>decide (x∈g.IDs)) (fun x=>by unfold zao; rw [zac _ _ (by omega)]; rfl) l (by omega),List.length_filter_le _ _, fun x=>by rw [List.mem_filter]; simp⟩
 obtain ⟨d,d1,d2,d3⟩:=zus F (by omega)
 refine ⟨d,?_,d2, fun x=>by rw [d3,f3]⟩
 unfold zet
 rw [zg1 l (by omega)]
 simp only [bS]
 rw [f1]
 simp only [bS]
 cases hs:zp1 F with
 | none=>rw [hs] at d1; cases d1
 | some r6 =>
  rw [hs] at d1
  simp only [bS] at d1 ⊢
  rw [d1]
  simp only [bS]
theorem zy8 (E:z92 g) (l:List ID) (hl:l.length≤60):∃ d,iter (z4v g l) ([],0)=some d∧z7k d=true∧∀ x,x∈d↔x∈l∧x∉g.IDs:=by
 have hlen:=E.len
 have hids:=E.ids
 have main:=z85 (F:=z4v g l) l.length
  (fun i st=>st.2=(i:Int)∧z7k st.1=true∧∀ x,x∈st.1↔x∈l.take i∧x∉g.IDs)
  (fun d=>z7k d=true∧∀ x,x∈d↔x∈l∧x∉g.IDs)
  (fun i st hi hst=>by
   obtain ⟨s,i'⟩:=st
   obtain ⟨h1,h2,h3⟩:=hst
   simp only at h1 h2 h3
   subst h1
   have hsl:s.length≤l.length:=z7d _ _ (zed h2) fun x hx=>List.mem_of_mem_take ((h3 x).1 hx).1
   have hmem:∀ y,y∈l.take (i+1)↔y∈l.take i∨y=l[i]:=fun y=>by
    rw [zi1 hi,List.mem_append]
    exact ⟨fun h=>h.imp id fun h=>List.mem_singleton.1 h, fun h=>h.imp id fun h=>List.mem_singleton.2 h⟩
   by_cases hx:l[i]∈g.IDs
   ·
    refine ⟨(s,((i+1:Nat):Int)),?_,rfl,h2, fun x=>?_⟩
    ·
     unfold z4v
     rw [if_pos (by simpa using hi)]
     simp only []
     rw [z0a hi]
     simp only [bS]
     rw [in27 _ _ (by omega),decide_eq_true hx,z0e (by omega)]
     rfl
    ·
     simp only []
     rw [h3,hmem]
     exact ⟨fun h=>⟨.inl h.1,h.2⟩, fun h=>⟨h.1.resolve_right fun e=>h.2 (e ▸ hx),h.2⟩⟩
   ·
    obtain ⟨t,t1,t2,t3⟩:=z154 s l[i] (by omega) h2
    refine ⟨(t,((i+1:Nat):Int)),?_,rfl,t2, fun x=>?_⟩
    ·
     unfold z4v
     rw [if_pos (by simpa using hi)]
     simp only []
     rw [z0a hi]
     simp only [bS]
     rw [in27 _ _ (by omega),decide_eq_false hx]
     simp only [bS,Bool.not_false,if_true]
     rw [t1,z0e (by omega)]
     simp only [bS]
    ·
     simp only []
     rw [t3,h3,hmem]
     constructor
     ·
      rintro (h | rfl)
      ·
       exact ⟨.inl h.1,h.2⟩
      ·
       exact ⟨.inr rfl,hx⟩
     ·
      rintro ⟨h | h,hn⟩
      ·
       exact .inl ⟨h,hn⟩
      ·
       exact .inr h)
  (fun st hst=>by
   obtain ⟨s,i'⟩:=st
   obtain ⟨h1,h2,h3⟩:=hst
   simp only at h1 h2 h3
   subst h1
   rw [List.take_length] at h3
   refine ⟨s,?_,h2,h3⟩
   unfold z4v
   rw [if_neg (by simp)])
  ([],0) 0 (Nat.zero_le _) ⟨rfl,rfl, by simp⟩
 obtain ⟨d,d1,d2,d3⟩:=main
 exact ⟨d,d1,d2,d3⟩
end
section
open Go
variable {g:z00}
def z9q (g:z00) (l:List ID) (y:ID):Prop:=y∈g.IDs∧((y∈l)∨∃ x∈l,x∈g.IDs∧Rch (z1j g) (z1j g (g.IDs.idxOf x)) (g.IDs.idxOf y))
theorem zs6 (G:z6f g) (h1:z24 g=some 0) (l:List ID) (hl:l.length≤60):∃ d,zcy g l=some d∧z7k d=true∧∀ y,y∈d↔z9q g l y:=by
 have E:=G.e
 have hlen:=E.len
 have hids:=E.ids
 obtain ⟨F,f1,f2,f3⟩:∃ F,z26 l g=some F∧F.length≤l.length∧∀ x,x∈F↔x∈l∧x∈g.IDs :=
  ⟨_,z15l g (fun x=>!decide (x∈g.IDs)) (fun x=>by unfold zam; rw [zac _ _ (by omega)]; rfl) l (by omega),List.length_filter_le _ _, fun x=>by rw [List.mem_filter]; simp⟩
 obtain ⟨d,d1,d2,d3⟩:=zus F (by omega)
 have hin:∀ x∈d,x∈g.IDs:=fun x hx=>((f3 x).1 ((d3 x).1 hx)).2
 have hdl:=zqt (g:=g) d2 hin
 obtain ⟨m,m1,m2⟩:=zwu G h1 d (by omega) hin
 refine ⟨zd1 g m,?_,zmk E m, fun y=>?_⟩
 ·
  unfold zcy
  rw [zg1 l (by omega)]
  simp only [bS]
  rw [f1]
  simp only [bS]
  cases hs:zp1 F with
  | none=>rw [hs] at d1; cases d1
  | some r6 =>
   rw [hs] at d1
   simp only [bS] at d1 ⊢
   rw [d1]
   simp only [bS]
   rw [m1]
   simp only [bS]
   rw [← zwf]; rfl
 ·
  rw [zjw E,m2,zzy]
  unfold z9q
  constructor
  ·
   rintro ⟨hy,h | ⟨q,hq,hr⟩⟩
   ·
    obtain ⟨x,hx,e⟩:=List.mem_map.1 h
    have:x=y:=zkp hy e
    subst this
    exact ⟨hy,.inl ((f3 _).1 ((d3 _).1 hx)).1⟩
   ·
    obtain ⟨x,hx,e⟩:=List.mem_map.1 hq
    rw [← e] at hr
    exact ⟨hy,.inr ⟨x,((f3 _).1 ((d3 _).1 hx)).1,hin x hx,hr⟩⟩
  ·
   rintro ⟨hy,h | ⟨x,hx,hxi,hr⟩⟩
   ·
    exact ⟨hy,.inl (List.mem_map.2 ⟨y,(d3 _).2 ((f3 _).2 ⟨h,hy⟩),rfl⟩)⟩
   ·
    exact ⟨hy,.inr ⟨_,List.mem_map.2 ⟨x,(d3 _).2 ((f3 _).2 ⟨hx,hxi⟩),rfl⟩,hr⟩⟩
theorem z14w (G:z6f g) (h2:z0d g=some 0) {x:ID} (hx:x∈g.IDs):∃ s,z8b g x=some (s,0)∧z7k s=true∧s.length≤60∧∀ y,y∈s↔y∈g.IDs∧Rch (z1j g) (z1j g (g.IDs.idxOf x)) (g.IDs.idxOf y):=by
 have hlen:=G.e.len
 have hids:=G.e.ids
 obtain ⟨s,b1,b2,b3⟩:=zye G.e G.ins hx
 have hl:=zqt (g:=g) b2 fun y hy=>((b3 y).1 hy).1
 refine ⟨s,?_,b2, by omega,b3⟩
 unfold z8b
 have hax:([x].all fun x=>decide (x∈g.IDs))=true:=by simpa using hx
 rw [z12v G h2 _ (by simp),hax]
 simp only [bS]
 rw [if_neg (by simp),b1]
 simp only [bS]
theorem z172 (s0:List ID) (r:List ID) (c:Int) (hr:r.length≤100) (hs:z7k s0=true) (hb:∀ x∈s0,x∈g.IDs) (hb2:∀ x∈r,x∈g.IDs) (hg:g.IDs.length≤1000):∃ t,iter (z6l (r,c)) (s0,0)=some t∧z7k t=true∧∀ y,y∈t↔y∈s0∨y∈r:=by
 have main:=z85 (F:=z6l (r,c)) r.length
  (fun i st=>st.2=(i:Int)∧z7k st.1=true∧∀ y,y∈st.1↔y∈s0∨y∈r.take i)
  (fun t=>z7k t=true∧∀ y,y∈t↔y∈s0∨y∈r)
  (fun i st hi hst=>by
   obtain ⟨s,i'⟩:=st
   obtain ⟨h1,h2,h3⟩:=hst
   simp only at h1 h2 h3
   subst h1
   have hsl:s.length≤g.IDs.length:=z7d _ _ (zed h2) fun x hx=>((h3 x).1 hx).elim (hb x) fun h=>hb2 x (List.mem_of_mem_take h)
   obtain ⟨t,t1,t2,t3⟩:=z154 s r[i] (by omega) h2
   refine ⟨(t,((i+1:Nat):Int)),?_,rfl,t2, fun y=>?_⟩
   ·
    unfold z6l
    rw [if_pos (by simpa using hi)]
    simp only []
    rw [z0a hi]
    simp only [bS]
    rw [t1,z0e (by omega)]
    simp only [bS]
   ·
    simp only []
    rw [t3,h3,zi1 hi,List.mem_append]
    constructor
    ·
     rintro ((h | h) | h)
     ·
      exact .inl h
     ·
      exact .inr (.inl h)
     ·
      exact .inr (.inr (List.mem_singleton.2 h))
    ·
     rintro (h | h | h)
     ·
      exact .inl (.inl h)
     ·
      exact .inl (.inr h)
     ·
      exact .inr (List.mem_singleton.1 h))
  (fun st hst=>by
   obtain ⟨s,i'⟩:=st
   obtain ⟨h1,h2,h3⟩:=hst
   simp only at h1 h2 h3
   subst h1
   rw [List.take_length] at h3
   refine ⟨s,?_,h2,h3⟩
   unfold z6l
   rw [if_neg (by simp)])
  (s0,0) 0 (Nat.zero_le _) ⟨rfl,hs, by simp⟩
 obtain ⟨t,t1,t2,t3⟩:=main
 exact ⟨t,t1,t2,t3⟩
theorem zub (G:z6f g) (h2:z0d g=some 0) (l:List ID) (hl:l.length≤60):∃ d,z79 g l=some d∧z7k d=true∧∀ y,y∈d↔z9q g l y:=by
 have E:=G.e
 have hlen:=E.len
 have hids:=E.ids
 have main:=z85 (F:=z6k g l) l.length
  (fun i st=>st.2=(i:Int)∧z7k st.1=true∧∀ y,y∈st.1↔z9q g (l.take i) y)
  (fun d=>z7k d=true∧∀ y,y∈d↔z9q g l y)
  (fun i st hi hst=>by
   obtain ⟨s,i'⟩:=st
   obtain ⟨h1,h2',h3⟩:=hst
   simp only at h1 h2' h3
   subst h1
   have hin:∀ x∈s,x∈g.IDs:=fun x hx=>((h3 x).1 hx).1
   have hsl:s.length≤g.IDs.length:=z7d _ _ (zed h2') hin
   have hmem:∀ y,y∈l.take (i+1)↔y∈l.take i∨y=l[i]:=fun y=>by
    rw [zi1 hi,List.mem_append]
    exact ⟨fun h=>h.imp id fun h=>List.mem_singleton.1 h, fun h=>h.imp id fun h=>List.mem_singleton.2 h⟩
   by_cases hx:l[i]∈g.IDs
   ·
    obtain ⟨t,t1,t2,t3⟩:=z154 s l[i] (by omega) h2'
    obtain ⟨a,a1,a2,a3,a4⟩:=z14w G h2 hx
    obtain ⟨u,u1,u2,u3⟩:=z172 (g:=g) t a 0 (by omega) t2 (fun x hx'=>((t3 x).1 hx').elim (hin x) fun e=>e ▸ hx) (fun x hx'=>((a4 x).1 hx').1) (by omega)
    refine ⟨(u,((i+1:Nat):Int)),?_,rfl,u2, fun y=>?_⟩
    ·
     unfold z6k
     rw [if_pos (by simpa using hi)]
     simp only []
     rw [z0a hi]
     simp only [bS]
     rw [in27 _ _ (by omega),decide_eq_true hx]
     simp only [bS,Bool.not_true,Bool.false_eq_true,if_false]
     rw [t1]
     simp only [bS]
     rw [a1]
     simp only [bS]
     rw [u1,z0e (by omega)]
     simp only [bS]
    ·
     simp only []
     rw [u3,t3,a4,h3]
     unfold z9q
     constructor
     ·
      rintro ((⟨hy,h⟩ | rfl) | ⟨hy,h⟩)
      ·
       refine ⟨hy,h.elim (fun h=>.inl ((hmem y).2 (.inl h))) fun ⟨x,h,k⟩=>.inr ⟨x,(hmem x).2 (.inl h),k⟩⟩
      ·
       exact ⟨hx,.inl ((hmem _).2 (.inr rfl))⟩
      ·
       exact ⟨hy,.inr ⟨l[i],(hmem _).2 (.inr rfl),hx,h⟩⟩
     ·
      rintro ⟨hy,h | ⟨x,h,k1,k2⟩⟩
      ·
       rcases (hmem y).1 h with h | h
       ·
        exact .inl (.inl ⟨hy,.inl h⟩)
       ·
        exact .inl (.inr h)
      ·
       rcases (hmem x).1 h with h | h
       ·
        exact .inl (.inl ⟨hy,.inr ⟨x,h,k1,k2⟩⟩)
       ·
        subst h; exact .inr ⟨hy,k2⟩
   ·
    refine ⟨(s,((i+1:Nat):Int)),?_,rfl,h2', fun y=>?_⟩
    ·
     unfold z6k
     rw [if_pos (by simpa using hi)]
     simp only []
     rw [z0a hi]
     simp only [bS]
     rw [in27 _ _ (by omega),decide_eq_false hx,z0e (by omega)]
     rfl
    ·
     simp only []
     rw [h3]
     unfold z9q
     constructor
     ·
      rintro ⟨hy,h⟩
      exact ⟨hy,h.elim (fun h=>.inl ((hmem y).2 (.inl h))) fun ⟨x,h,k⟩=>.inr ⟨x,(hmem x).2 (.inl h),k⟩⟩
     ·
      rintro ⟨hy,h | ⟨x,h,k1,k2⟩⟩
      ·
       rcases (hmem y).1 h with h | h
       ·
        exact ⟨hy,.inl h⟩
       ·
        exact absurd (h ▸ hy) hx
      ·
       rcases (hmem x).1 h with h | h
       ·
        exact ⟨hy,.inr ⟨x,h,k1,k2⟩⟩
       ·
        exact absurd (h ▸ k1) hx)
  (fun st hst=>by
   obtain ⟨s,i'⟩:=st
   obtain ⟨h1,h2',h3⟩:=hst
   simp only at h1 h2' h3
   subst h1
   rw [List.take_length] at h3
   refine ⟨s,?_,h2',h3⟩
   unfold z6k
   rw [if_neg (by simp)])
  ([],0) 0 (Nat.zero_le _) ⟨rfl,rfl, fun y=>by simp [z9q]⟩
 obtain ⟨d,d1,d2,d3⟩:=main
 refine ⟨d,?_,d2,d3⟩
 unfold z79
 rw [d1]
 simp only [bS]
theorem zis (G:z6f g) (h1:z24 g=some 0) (h2:z0d g=some 0) (l:List ID) (hl:l.length≤60):∃ d,zcy g l=some d∧z79 g l=some d∧z7k d=true∧d.length≤60∧∀ y,y∈d↔z9q g l y:=by
 obtain ⟨d,d1,d2,d3⟩:=zs6 G h1 l hl
 obtain ⟨e,e1,e2,e3⟩:=zub G h2 l hl
 have:d=e:=zgt _ _ ((zce _).1 d2) ((zce _).1 e2) fun y=>by rw [d3,e3]
 subst this
 have:=zqt (g:=g) d2 fun y hy=>((d3 y).1 hy).1
 have:=G.e.len
 have:=G.e.ids
 exact ⟨d,d1,e1,d2, by omega,d3⟩
theorem zzn (G:z6f g) (h1:z24 g=some 0) (h2:z0d g=some 0) (h3:(0:Int)=0↔z6f g) (a b:List ID) (ha:a.length≤60) (hb:b.length≤60):∃ d,zec g a b=some d∧zah g a b=some d∧d.length≤60∧∀ x∈d,x∈g.IDs:=by
 obtain ⟨p,p1,p2,_,p3,p4⟩:=zis G h1 h2 a ha
 obtain ⟨q,q1,q2,_,q3,q4⟩:=zis G h1 h2 b hb
 obtain ⟨r,r1,r2,r3⟩:=zwp h1 h2 h3
 have hfl:(r.1.filter fun x=>!(!decide (x∈p) || decide (x∈q))).length≤r.1.length:=List.length_filter_le _ _
 refine ⟨r.1.filter fun x=>!(!decide (x∈p) || decide (x∈q)),?_,?_, by omega, fun x hx=>?_⟩
 ·
  unfold zec
  rw [p1,q1]
  simp only [bS]
  rw [r1]
  simp only [bS]
  rw [zy5 p q (fun x=>!decide (x∈p) || decide (x∈q)) (fun x=>by
   unfold zaa
   rw [zac _ _ (by omega),zac _ _ (by omega)]
   simp only [bS]
   cases decide (x∈p) <;> rfl) r.1 (by omega)]
  simp only [bS]
 ·
  have main:=z85 (F:=za1 p q r) r.1.length
   (fun i st=>st.2=(i:Int)∧st.1=(r.1.take i).filter fun x=>!(!decide (x∈p) || decide (x∈q)))
   (fun d=>d=r.1.filter fun x=>!(!decide (x∈p) || decide (x∈q)))
   (fun i st hi hst=>by
    obtain ⟨s,i'⟩:=st
    obtain ⟨g1,g2⟩:=hst
    simp only at g1 g2
    subst g1
    have hsl:s.length≤i:=by
     rw [g2]
     have:=List.length_filter_le (fun x=>!(!decide (x∈p) || decide (x∈q))) (r.1.take i)
     rw [List.length_take] at this
     exact Nat.le_trans this (Nat.min_le_left _ _)
    refine ⟨((r.1.take (i+1)).filter (fun x=>!(!decide (x∈p) || decide (x∈q))),((i+1:Nat):Int)),?_,rfl,rfl⟩
    unfold za1
    rw [if_pos (by simpa using hi)]
    simp only []
    rw [z0a hi]
    simp only [bS]
    rw [in27 _ _ (by omega),in27 _ _ (by omega),z0e (by omega),zi1 hi,List.filter_append,← g2]
    simp only [bS]
    cases c1:decide (r.1[i]∈p) with
    | false =>
     simp only [Bool.false_eq_true,if_false,bS]
     rw [List.filter_cons_of_neg (by rw [c1]; simp)]
     simp
    | true =>
     simp only [if_true,bS]
     cases c2:decide (r.1[i]∈q) with
     | true =>
      rw [List.filter_cons_of_neg (by rw [c1,c2]; simp)]
      simp
     | false =>
      rw [List.filter_cons_of_pos (by rw [c1,c2]; simp),z1f (by simp only [List.length_cons,List.length_nil]; omega)]
      simp)
   (fun st hst=>by
    obtain ⟨s,i'⟩:=st
    obtain ⟨g1,g2⟩:=hst
    simp only at g1 g2
    subst g1 g2
    refine ⟨_,?_,rfl⟩
    unfold za1
    rw [if_neg (by simp),List.take_length])
   ([],0) 0 (Nat.zero_le _) ⟨rfl, by simp⟩
  obtain ⟨d,d1,rfl⟩:=main
  unfold zah
  rw [p2,q2]
  simp only [bS]
  rw [r2]
  simp only [bS]
  rw [d1]
  simp only [bS]
 ·
  rw [List.mem_filter] at hx
  have h4:x∈p:=by
   have:=hx.2
   simp at this
   exact this.1
  exact ((p4 x).1 h4).1
end
section
open Go
variable {g:z00}
def bts (g:z00) (x:ID):List UInt8:=match g.Ops[g.IDs.idxOf x]? with | some o=>zi5 o | none=>[]
theorem z10q (G:z6f g) (hw:z1o g) {i:Nat} (hi:i<g.Ops.length):z7q g.Ops[i]=0∧inI g.Ops[i].Act.Value.Num∧g.Ops[i].Act.Value.Text.length≤9223372036854775807:=by
 obtain ⟨w1,w2⟩:=z163 hw (List.getElem_mem hi)
 exact ⟨zap (G.ops i hi).1,w1,w2⟩
theorem ztz (G:z6f g) {x:ID} (hx:x∈g.IDs):bts g x=zi5 (g.Ops[g.IDs.idxOf x]'(zfr G hx)):=by
 unfold bts
 rw [List.getElem?_eq_getElem (zfr G hx)]
theorem zm5 (G:z6f g) (hw:z1o g) {x:ID} (hx:x∈g.IDs):(bts g x).length≤400:=by
 rw [ztz G hx]
 obtain ⟨h1,h2,_⟩:=z10q G hw (zfr G hx)
 exact ztb h1 h2
theorem zpm (G:z6f g) (hw:z1o g) (h1:z24 g=some 0) {x:ID} (hx:x∈g.IDs):∃ r,zjy g x=some r∧zdk r.1=some (bts g x,0):=by
 have hlen:=G.e.len
 have hids:=G.e.ids
 obtain ⟨k,k1,k2,k3⟩:=zd9 g (by omega) G.e.ri x
 obtain ⟨rfl,hk⟩:=k2 hx
 have hi:=zfr G hx
 have h4:=(G.e.op _ hi).1
 refine ⟨(g.Ops[g.IDs.idxOf x],0),?_,?_⟩
 ·
  unfold zjy
  rw [h1]
  simp only [bS]
  rw [if_neg (by simp),k1,decide_eq_true hx]
  simp only [bS]
  rw [if_neg (by simp),z0a hi]
  simp only [bS]
  unfold ze7
  rw [zg1 _ (by omega)]
  rfl
 ·
  obtain ⟨c1,c2,c3⟩:=z10q G hw hi
  rw [ztz G hx]
  exact zrw _ c1 c2 c3
theorem zz3 (G:z6f g) (hw:z1o g) {x:ID} (hx:x∈g.IDs):z9a g x=some (bts g x):=by
 have hlen:=G.e.len
 have hids:=G.e.ids
 have hi:=zfr G hx
 have hii:g.IDs.idxOf x<g.IDs.length:=by omega
 have hgx:g.IDs[g.IDs.idxOf x]=x:=by simp
 obtain ⟨c1,c2,c3⟩:=z10q G hw hi
 have main:=z2a (F:=z8x g x) (b:=.inl (bts g x)) (g.IDs.idxOf x) (fun i=>(i:Int)) (fun i hlt=>?_) ?_
 ·
  unfold z9a
  rw [show (0:Int)=((0:Nat):Int) from rfl,main]; rfl
 ·
  have hi2:i<g.IDs.length:=by omega
  have hne:g.IDs[i]≠x:=fun e=>by
   have:=zcq G.e.ri hi2
   rw [e] at this; omega
  unfold z8x
  rw [if_pos (by simpa using hi2),z0a hi2,z0e (by omega)]
  simp only [bS]
  rw [decide_eq_false hne,if_neg (by simp)]
 ·
  unfold z8x zcz
  rw [if_pos (by simpa using hii),z0a hii]
  simp only [bS]
  rw [decide_eq_true hgx,if_pos rfl,z0a hi]
  simp only [bS]
  rw [zom _ c3,c1]
  simp only [bS]
  rw [if_neg (by simp),zni _ c1 c2,ztz G hx]
  simp only [bS]
def fr (ops:List (List UInt8)):z0k:=⟨5,0,[],ops⟩
def zhb (ops:List (List UInt8)):List UInt8:=ops.flatMap fun o=>z2g o.length++o
def zhs (ops:List (List UInt8)):List UInt8:=([5]++z2g ops.length)++zhb ops
def okF (ops:List (List UInt8)):Bool:=decide (ops.length≤8)&&decide ((zhs ops).length≤2000)
theorem zfy:∀ (l:List (List UInt8)),(∀ o∈l,o.length≤400)→(zhb l).length≤409 * l.length
 | [],_=>by simp [zhb]
 | o::l,h=>by
  have ih:=zfy l fun q hq=>h q (by simp [hq])
  have ho:=h o (by simp)
  have:=z12 o.length (by omega)
  unfold zhb at *
  rw [List.flatMap_cons]
  simp only [List.length_append,List.length_cons]; omega
theorem zo3 (l:List (List UInt8)) (o:List UInt8):zhb (l++[o])=zhb l++(z2g o.length++o):=by
 unfold zhb; rw [List.flatMap_append]; simp
theorem zx3 (ops:List (List UInt8)) (h9:ops.length≤9) (hall:∀ o∈ops,o.length≤400):zgm (fr ops)=some (if okF ops then 0 else 8):=by
 have hn:=z12 ops.length (by omega)
 have hb:=zfy ops hall
 have hL:ops.length≤8→iter (z84 (fr ops)) ([5]++z2g ops.length,true,0)=some (zhs ops,true):=fun h8=>by
  have main:=z2a (F:=z84 (fr ops)) (b:=(zhs ops,true)) ops.length (fun i=>(([5]++z2g ops.length)++zhb (ops.take i),true,(i:Int))) (fun i hi=>?_) ?_
  ·
   simpa [zhb] using main
  ·
   have ho:ops[i].length≤400:=hall _ (List.getElem_mem hi)
   have ht:=zfy (ops.take i) fun o ho=>hall o (List.mem_of_mem_take ho)
   rw [List.length_take] at ht
   have hno:=z12 ops[i].length (by omega)
   unfold z84
   rw [if_pos rfl,if_pos (by show decide ((i:Int)<((ops.length:Nat):Int))=true; simpa using hi)]
   show (idx ops (i:Int) >>= _)=_
   rw [z0a hi]
   simp only [bS]
   rw [zo9 _ (by omega)]
   simp only [bS]
   rw [z1f (by simp only [List.length_append,List.length_cons,List.length_nil]; omega)]
   simp only [bS]
   show (idx ops (i:Int) >>= _)=_
   rw [z0a hi]
   simp only [bS]
   rw [decide_eq_true (by omega),z0e (by omega),zi1 hi,zo3]
   simp only [List.append_assoc]
  ·
   unfold z84
   rw [if_pos rfl,if_neg (by show ¬ decide (((ops.length:Nat):Int)<((ops.length:Nat):Int))=true; simp),List.take_length]
   rfl
 have hw:zgg (fr ops)=some (if ops.length≤8 then (zhs ops,decide (((zhs ops).length:Int)≤2000)) else ([5]++z2g ops.length,false)):=by
  unfold zgg
  have e1:zi7 (fr ops).Kind=some false:=rfl
  rw [e1]
  simp only [bS,Bool.false_eq_true,if_false]
  rw [if_pos (by rfl),if_pos (by rfl),if_pos (by rfl)]
  simp only [bS]
  show ((z4t (UInt64.ofInt (ops.length:Int)) >>= fun r24=>app 1 [(5:UInt8)] r24 >>= fun x26=>iter (z84 (fr ops)) (x26,decide ((ops.length:Int)≤8),0)) >>= _)=_
  rw [z7n,zic (by omega)]
  simp only [bS]
  rw [z1f (by simp only [List.length_cons,List.length_nil]; omega)]
  simp only [bS]
  by_cases h8:ops.length≤8
  ·
   rw [decide_eq_true (by omega),hL h8,if_pos h8]
   simp only [bS]
   rw [if_pos trivial]
  ·
   rw [decide_eq_false (by omega),if_neg h8,z1z (b:=([5]++z2g ops.length,false)) (by unfold z84; rw [if_neg (by simp)])]
   simp only [bS]
   rw [if_neg (by simp)]
 unfold zgm
 rw [hw]
 simp only [bS]
 unfold okF
 by_cases h8:ops.length≤8
 ·
  rw [if_pos h8,decide_eq_true h8,Bool.true_and]
  by_cases h2:(zhs ops).length≤2000
  ·
   rw [decide_eq_true h2]
   simp only []
   rw [decide_eq_true (by omega)]; rfl
  ·
   rw [decide_eq_false h2]
   simp only []
   rw [decide_eq_false (by omega)]; rfl
 ·
  rw [if_neg h8,decide_eq_false h8]; rfl
theorem zzw (ops:List (List UInt8)) (h9:ops.length≤9) (hall:∀ o∈ops,o.length≤400):zbn (fr ops)=some (if okF ops then 0 else 8):=by
 have hn:=z12 ops.length (by omega)
 have hb:=zfy ops hall
 have hC:iter (z6i (fr ops)) 0=some (.inr ()):=by
  have main:=z2a (F:=z6i (fr ops)) (b:=(.inr ():Sum Int Unit)) ops.length (fun i=>(i:Int)) (fun i hi=>?_) ?_
  ·
   exact main
  ·
   have ho:ops[i].length≤400:=hall _ (List.getElem_mem hi)
   unfold z6i
   rw [if_pos (by show decide ((i:Int)<((ops.length:Nat):Int))=true; simpa using hi)]
   show (idx ops (i:Int) >>= _)=_
   rw [z0a hi,z0e (by omega)]
   simp only [bS]
   rw [if_neg (by simp; omega)]
  ·
   unfold z6i
   rw [if_neg (by show ¬ decide (((ops.length:Nat):Int)<((ops.length:Nat):Int))=true; simp)]
 have hB:zbv (fr ops)=some (zhs ops):=by
  have main:=z2a (F:=z6j (fr ops)) (b:=zhs ops) ops.length (fun i=>(([5]++z2g ops.length)++zhb (ops.take i),(i:Int))) (fun i hi=>?_) ?_
  ·
   unfold zbv
   have e1:z67 (fr ops).Kind=some false:=rfl
   rw [e1]
   simp only [bS,Bool.false_eq_true,if_false]
   rw [if_neg (by show ¬ ((5:UInt8) != 5)=true; decide)]
   show (z20 (UInt64.ofInt (ops.length:Int)) >>= fun r17=>app 1 [(5:UInt8)] r17 >>= _)=_
   rw [z7p,zic (by omega)]
   simp only [bS]
   rw [z1f (by simp only [List.length_cons,List.length_nil]; omega)]
   simp only [bS]
   have m2:iter (z6j (fr ops)) ([5]++z2g ops.length,0)=some (zhs ops):=by simpa [zhb] using main
   rw [m2]
   simp only [bS]
  ·
   have ho:ops[i].length≤400:=hall _ (List.getElem_mem hi)
   have ht:=zfy (ops.take i) fun o ho=>hall o (List.mem_of_mem_take ho)
   rw [List.length_take] at ht
   have hno:=z12 ops[i].length (by omega)
   unfold z6j
   rw [if_pos (by show decide ((i:Int)<((ops.length:Nat):Int))=true; simpa using hi)]
   show (idx ops (i:Int) >>= _)=_
   rw [z0a hi]
   simp only [bS]
   rw [zm3 _ (by omega)]
   simp only [bS]
   rw [z1f (by simp only [List.length_append,List.length_cons,List.length_nil]; omega),z0e (by omega),zi1 hi,zo3]
   simp only [bS,List.append_assoc]
  ·
   unfold z6j
   rw [if_neg (by show ¬ decide (((ops.length:Nat):Int)<((ops.length:Nat):Int))=true; simp),List.take_length]
   rfl
 unfold zbn
 have k1:decide ((fr ops).Kind<1)=false:=rfl
 have k2:decide (6<(fr ops).Kind)=false:=rfl
 have k3:((fr ops).Kind==1)=false:=rfl
 have k4:((fr ops).Kind==6)=false:=rfl
 have k5:((fr ops).N != 0)=false:=rfl
 have k6:z67 (fr ops).Kind=some false:=rfl
 have k7:decide (0<((fr ops).IDs.length:Int))=false:=rfl
 have k8:((fr ops).Kind != 5)=false:=rfl
 have k9:decide (40<((fr ops).IDs.length:Int))=false:=rfl
 have k10:z4w (fr ops).IDs=some true:=by rw [zo4 _ (by simp [fr])]; rfl
 rw [k1,k2,k3,k4,k5,k6,k7,k8,k9,k10,hC,hB]
 simp only [bS,zt7,Bool.not_false,Bool.not_true,Bool.false_eq_true,if_true,if_false]
 unfold okF
 show (if decide (8<((ops.length:Nat):Int))=true then _ else _)=_
 by_cases h8:ops.length≤8
 ·
  rw [if_neg (by simp; omega),decide_eq_true h8,Bool.true_and]
  by_cases h2:(zhs ops).length≤2000
  ·
   rw [if_neg (by simp; omega),decide_eq_true h2]; rfl
  ·
   rw [if_pos (by simp; omega),decide_eq_false h2]; rfl
 ·
  rw [if_pos (by simp; omega),decide_eq_false h8]; rfl
def zdy (bs:List (List UInt8)):Nat→Option (List (List (List UInt8)) × List (List UInt8))
 | 0=>none
 | i+1=>match bs[i]? with
  | none=>zdy bs i
  | some b=>match zdy bs i with
   | none=>some ([],[b])
   | some (a,l)=>if okF (l++[b]) then some (a,l++[b]) else some (a++[l],[b])
theorem z15c {b:List UInt8} (h:b.length≤400):okF [b]=true:=by
 have h1:=z12 ([b]:List (List UInt8)).length (by simp)
 have h2:=z12 b.length (by omega)
 unfold okF zhs zhb
 simp only [Bool.and_eq_true,decide_eq_true_eq,List.length_append,List.flatMap_cons,List.flatMap_nil,List.length_cons,List.length_nil] at *
 omega
theorem zg3 (bs:List (List UInt8)) (hb:∀ b∈bs,b.length≤400):∀ i,i≤bs.length→(zdy bs i=none∧i=0)∨∃ a l,zdy bs i=some (a,l)∧a.length+1≤i∧l≠[]∧l.length≤8∧∀ o∈l,o.length≤400
 | 0,_=>.inl ⟨rfl,rfl⟩
 | i+1,hi=>by
  have hlt:i<bs.length:=by omega
  have hbi:bs[i].length≤400:=hb _ (List.getElem_mem hlt)
  right
  unfold zdy
  rw [List.getElem?_eq_getElem hlt]
  rcases zg3 bs hb i (by omega) with ⟨h,h0⟩ | ⟨a,l,h,h1,h2,h3,h4⟩
  ·
   simp only [h]
   exact ⟨[],[bs[i]],rfl, by simp, by simp, by simp, fun o ho=>by rw [List.mem_singleton] at ho; rw [ho]; exact hbi⟩
  ·
   simp only [h]
   by_cases hc:okF (l++[bs[i]])=true
   ·
    rw [if_pos hc]
    have h8:(l++[bs[i]]).length≤8:=by unfold okF at hc; simp only [Bool.and_eq_true,decide_eq_true_eq] at hc; exact hc.1
    exact ⟨a,l++[bs[i]],rfl, by omega, by simp,h8, fun o ho=>(List.mem_append.1 ho).elim (h4 o) fun h=>by rw [List.mem_singleton] at h; rw [h]; exact hbi⟩
   ·
    rw [if_neg hc]
    exact ⟨a++[l],[bs[i]],rfl, by simp; omega, by simp, by simp, fun o ho=>by rw [List.mem_singleton] at ho; rw [ho]; exact hbi⟩
theorem zm2 (bs:List (List UInt8)) {i:Nat} (hlt:i<bs.length):zdy bs (i+1)=match zdy bs i with | none=>some ([],[bs[i]]) | some (a,l)=>if okF (l++[bs[i]]) then some (a,l++[bs[i]]) else some (a++[l],[bs[i]]):=by
 rw [zdy,List.getElem?_eq_getElem hlt]
def zxe:Option (List (List (List UInt8)) × List (List UInt8))→List z0k
 | none=>[]
 | some (a,l)=>a.map fr++[fr l]
theorem z11d (G:z6f g) (hw:z1o g) (h1:z24 g=some 0) (l:List ID) (hin:∀ x∈l,x∈g.IDs) {i:Nat} (hi:i<l.length) (hl:l.length≤60):z58 g l ([],(i:Int))=some (.inr ([fr [bts g l[i]]],((i+1:Nat):Int))):=by
 obtain ⟨r,r1,r2⟩:=zpm G hw h1 (hin _ (List.getElem_mem hi))
 unfold z58
 rw [if_pos (by simpa using hi)]
 simp only []
 rw [z0a hi]
 simp only [bS]
 rw [r1]
 simp only [bS]
 rw [r2]
 simp only [bS]
 rw [if_neg (by simp)]
 simp only [zt7]
 rw [z1f (by simp),z0e (by omega)]
 rfl
theorem zzo (G:z6f g) (hw:z1o g) (h1:z24 g=some 0) (l:List ID) (hin:∀ x∈l,x∈g.IDs) (X:List z0k) (q:List (List UInt8)) (hX:X.length≤100) (g3:q.length≤8) (g4:∀ o∈q,o.length≤400) {i:Nat} (hi:i<l.length) (hl:l.length≤60) :
  z58 g l (X++[fr q],(i:Int))=if okF (q++[bts g l[i]]) then some (.inr (X++[fr (q++[bts g l[i]])],((i+1:Nat):Int))) else some (.inr ((X++[fr q])++[fr [bts g l[i]]],((i+1:Nat):Int))):=by
 obtain ⟨r,r1,r2⟩:=zpm G hw h1 (hin _ (List.getElem_mem hi))
 have hb400:=zm5 G hw (hin _ (List.getElem_mem hi))
 have hol:(X++[fr q]).length=X.length+1:=by simp
 have hge:(X++[fr q])[X.length]'(by omega)=fr q:=by
  rw [List.getElem_append_right (by simp)]; simp
 have e1:z5z (fr q).Ops=some q:=by
  unfold z5z
  show (app 24 ([]:List (List UInt8)) q >>= _)=_
  rw [z1f (by simp; omega)]; rfl
 have hck:=zx3 (q++[bts g l[i]]) (by simp; omega) (fun o ho=>(List.mem_append.1 ho).elim (g4 o) fun h=>by rw [List.mem_singleton] at h; rw [h]; exact hb400)
 have e2:(⟨(fr q).Kind,(fr q).N,(fr q).IDs,q++[bts g l[i]]⟩:z0k)=fr (q++[bts g l[i]]):=rfl
 have e3:(X++[fr q]).set X.length (fr (q++[bts g l[i]]))=X++[fr (q++[bts g l[i]])]:=by
  simp [List.set_append]
 have e4:w64 (((X++[fr q]).length:Int) - 1)=(X.length:Int):=by
  rw [hol,z1c (by omega) (by omega)]; omega
 unfold z58
 rw [if_pos (by simpa using hi)]
 simp only []
 rw [z0a hi]
 simp only [bS]
 rw [r1]
 simp only [bS]
 rw [r2]
 simp only [bS]
 rw [if_pos (by simp <;> omega),e4,z0a (by omega),hge]
 simp only [bS]
 rw [e1]
 simp only [bS]
 rw [z1f (by simp only [List.length_cons,List.length_nil]; omega)]
 simp only [bS]
 rw [e2]
 by_cases hc:okF (q++[bts g l[i]])=true
 ·
  rw [if_pos hc] at hck
  rw [hck]
  simp only [bS,if_pos hc]
  rw [if_pos (by rfl)]
  simp only [zzk,Int.toNat_natCast]
  rw [z0e (by omega),e3]
 ·
  rw [if_neg hc] at hck
  rw [hck]
  simp only [bS,if_neg hc]
  rw [if_neg (by decide)]
  simp only [zt7]
  rw [z1f (by simp; omega),z0e (by omega)]
  rfl
theorem ztj (G:z6f g) (hw:z1o g) (h1:z24 g=some 0) (l:List ID) (hl:l.length≤60) (hin:∀ x∈l,x∈g.IDs):zfs g l=some (zxe (zdy (l.map (bts g)) l.length)):=by
 have hb:∀ b∈l.map (bts g),b.length≤400:=fun b hb=>by
  obtain ⟨x,hx,rfl⟩:=List.mem_map.1 hb
  exact zm5 G hw (hin x hx)
 have main:=z2a (F:=z58 g l) (b:=zxe (zdy (l.map (bts g)) l.length)) l.length (fun i=>(zxe (zdy (l.map (bts g)) i),(i:Int))) (fun i hi=>?_) ?_
 ·
  unfold zfs
  have e0:(([]:List z0k),(0:Int))=(zxe (zdy (l.map (bts g)) 0),((0:Nat):Int)):=rfl
  rw [e0,main]
  simp only [bS]
 ·
  have him:i<(l.map (bts g)).length:=by simpa using hi
  have hbi:(l.map (bts g))[i]=bts g l[i]:=by simp
  rw [zm2 _ him,hbi]
  rcases zg3 (l.map (bts g)) hb i (by omega) with ⟨h,h0⟩ | ⟨a,q,h,g1,g2,g3,g4⟩
  ·
   rw [h]
   exact z11d G hw h1 l hin hi hl
  ·
   rw [h]
   have hs:=zzo G hw h1 l hin (a.map fr) q (by simp; omega) g3 g4 hi hl
   show z58 g l (a.map fr++[fr q],(i:Int))=_
   rw [hs]
   by_cases hc:okF (q++[bts g l[i]])=true
   ·
    simp only [if_pos hc]; rfl
   ·
    simp only [if_neg hc]
    show some (Sum.inr ((a.map fr++[fr q])++[fr [bts g l[i]]],_))=some (Sum.inr ((a++[q]).map fr++[fr [bts g l[i]]],_))
    rw [List.map_append]; rfl
 ·
  unfold z58
  rw [if_neg (by simp)]
def curR:Option (List (List (List UInt8)) × List (List UInt8))→List (List UInt8)
 | none=>[]
 | some (_,l)=>l
def outR:Option (List (List (List UInt8)) × List (List UInt8))→List z0k
 | none=>[]
 | some (a,_)=>a.map fr
theorem zvo (G:z6f g) (hw:z1o g) (l:List ID) (hin:∀ x∈l,x∈g.IDs) (X:List z0k) (Y:List (List UInt8)) (hX:X.length≤100) (h8:Y.length≤8) (hY:∀ o∈Y,o.length≤400) {i:Nat} (hi:i<l.length) (hl:l.length≤60) :
  z4o g l (X,5,0,[],Y,(i:Int))=if okF (Y++[bts g l[i]]) then some (.inr (X,5,0,[],Y++[bts g l[i]],((i+1:Nat):Int))) else some (.inr (X++[fr Y],5,0,[],[bts g l[i]],((i+1:Nat):Int))):=by
 have hr:=zz3 G hw (hin _ (List.getElem_mem hi))
 have hb400:=zm5 G hw (hin _ (List.getElem_mem hi))
 have hck:=zzw (Y++[bts g l[i]]) (by simp; omega) (fun o ho=>(List.mem_append.1 ho).elim (hY o) fun h=>by rw [List.mem_singleton] at h; rw [h]; exact hb400)
 unfold z4o
 rw [if_pos (by simpa using hi)]
 simp only []
 rw [z0a hi]
 simp only [bS]
 rw [z1f (by simp; omega)]
 simp only [bS,List.nil_append]
 rw [hr]
 simp only [bS]
 rw [z1f (by simp only [List.length_cons,List.length_nil]; omega)]
 simp only [bS]
 have e2:(⟨5,0,[],Y++[bts g l[i]]⟩:z0k)=fr (Y++[bts g l[i]]):=rfl
 rw [e2,z0e (by omega)]
 by_cases hc:okF (Y++[bts g l[i]])=true
 ·
  rw [if_pos hc] at hck
  rw [hck]
  simp only [bS,if_pos hc]
  rw [if_neg (by decide)]
 ·
  rw [if_neg hc] at hck
  rw [hck]
  simp only [bS,if_neg hc]
  rw [if_pos (by decide),z1f (by simp; omega)]
  rfl
theorem zw4 (G:z6f g) (hw:z1o g) (l:List ID) (hl:l.length≤60) (hin:∀ x∈l,x∈g.IDs):zaz g l=some (zxe (zdy (l.map (bts g)) l.length)):=by
 have hb:∀ b∈l.map (bts g),b.length≤400:=fun b hb=>by
  obtain ⟨x,hx,rfl⟩:=List.mem_map.1 hb
  exact zm5 G hw (hin x hx)
 have main:=z2a (F:=z4o g l) (b:=(outR (zdy (l.map (bts g)) l.length),5,0,[],curR (zdy (l.map (bts g)) l.length))) l.length (fun i=>(outR (zdy (l.map (bts g)) i),5,0,[],curR (zdy (l.map (bts g)) i),(i:Int))) (fun i hi=>?_) ?_
 ·
  unfold zaz
  have e0:(([]:List z0k),(5:UInt8),(0:UInt64),([]:List ID),([]:List (List UInt8)),(0:Int))=(outR (zdy (l.map (bts g)) 0),5,0,[],curR (zdy (l.map (bts g)) 0),((0:Nat):Int)):=rfl
  rw [e0,main]
  simp only [bS]
  rcases zg3 (l.map (bts g)) hb l.length (by simp) with ⟨h,h0⟩ | ⟨a,q,h,g1,g2,g3,g4⟩
  ·
   rw [h]; rfl
  ·
   rw [h]
   have hq:0<q.length:=List.length_pos_iff.2 g2
   have ha:app 64 (a.map fr) [fr q]=some (a.map fr++[fr q]):=z1f (by simp; omega)
   show (if decide (0<(q.length:Int))=true then (app 64 (a.map fr) [fr q] >>= fun x76=>some x76) else some (a.map fr))=some (a.map fr++[fr q])
   rw [ha,if_pos (by simp; omega)]
   simp only [bS]
 ·
  have him:i<(l.map (bts g)).length:=by simpa using hi
  have hbi:(l.map (bts g))[i]=bts g l[i]:=by simp
  have hb400:=zm5 G hw (hin _ (List.getElem_mem hi))
  rw [zm2 _ him,hbi]
  rcases zg3 (l.map (bts g)) hb i (by omega) with ⟨h,h0⟩ | ⟨a,q,h,g1,g2,g3,g4⟩
  ·
   rw [h]
   have hs:=zvo G hw l hin [] [] (by simp) (by simp) (by simp) hi hl
   rw [if_pos (show okF ([]++[bts g l[i]])=true from z15c hb400)] at hs
   exact hs
  ·
   rw [h]
   have hs:=zvo G hw l hin (a.map fr) q (by simp; omega) g3 g4 hi hl
   show z4o g l (a.map fr,5,0,[],q,(i:Int))=_
   rw [hs]
   by_cases hc:okF (q++[bts g l[i]])=true
   ·
    simp only [if_pos hc]; rfl
   ·
    simp only [if_neg hc]
    show some (Sum.inr (a.map fr++[fr q],_))=some (Sum.inr ((a++[q]).map fr,_))
    rw [List.map_append]; rfl
 ·
  unfold z4o
  rw [if_neg (by simp)]
end
section
open Go
variable {g:z00}
theorem zsx (bs:List (List UInt8)) (hb:∀ b∈bs,b.length≤400):∀ i,i≤bs.length→∀ a l,zdy bs i=some (a,l)→∀ q∈a,q.length≤8
 | 0,_,a,l,h,q,hq=>by simp [zdy] at h
 | i+1,hi,a,l,h,q,hq=>by
  have hlt:i<bs.length:=by omega
  rw [zm2 bs hlt] at h
  rcases zg3 bs hb i (by omega) with ⟨h0,_⟩ | ⟨a',l',h0,h1,h2,h3,h4⟩
  ·
   rw [h0] at h
   simp only [Option.some.injEq,Prod.mk.injEq] at h
   rw [← h.1] at hq; simp at hq
  ·
   have ih:=zsx bs hb i (by omega) a' l' h0
   rw [h0] at h
   by_cases hc:okF (l'++[bs[i]])=true
   ·
    simp only [if_pos hc,Option.some.injEq,Prod.mk.injEq] at h
    rw [← h.1] at hq; exact ih q hq
   ·
    simp only [if_neg hc,Option.some.injEq,Prod.mk.injEq] at h
    rw [← h.1] at hq
    rcases List.mem_append.1 hq with hq | hq
    ·
     exact ih q hq
    ·
     rw [List.mem_singleton] at hq; rw [hq]; exact h3
theorem z14y (bs:List (List UInt8)) (hb:∀ b∈bs,b.length≤400) (hl:bs.length≤60):(zxe (zdy bs bs.length)).length≤60∧∀ f∈zxe (zdy bs bs.length),∃ q,f=fr q∧q.length≤8:=by
 rcases zg3 bs hb bs.length (Nat.le_refl _) with ⟨h,_⟩ | ⟨a,l,h,h1,h2,h3,h4⟩
 ·
  rw [h]; exact ⟨by simp [zxe], by simp [zxe]⟩
 ·
  have hall:=zsx bs hb bs.length (Nat.le_refl _) a l h
  rw [h]
  refine ⟨by simp [zxe]; omega, fun f hf=>?_⟩
  rcases List.mem_append.1 hf with hf | hf
  ·
   obtain ⟨q,hq,rfl⟩:=List.mem_map.1 hf
   exact ⟨q,rfl,hall q hq⟩
  ·
   rw [List.mem_singleton] at hf
   exact ⟨l,hf,h3⟩
def z12z (c:Int) (a b:List ID):Int:=if c≠0 then c else if 60<a.length then 4 else if 60<b.length then 4 else 0
theorem zy0 {c:Int} (h2:z0d g=some c) (a b:List ID):z9z g a b=some (z12z c a b):=by
 unfold z9z z12z
 rw [h2]
 simp only [bS]
 by_cases hc:c=0
 ·
  subst hc
  rw [if_neg (by simp:¬ ((0:Int) != 0)=true),if_neg (fun h:(0:Int)≠0=>h rfl)]
  by_cases ha:60<a.length
  ·
   rw [if_pos (by simp; omega),if_pos ha]
  ·
   rw [if_neg (by simp; omega),if_neg ha]
   by_cases hb:60<b.length
   ·
    rw [if_pos (by simp; omega),if_pos hb]
   ·
    rw [if_neg (by simp; omega),if_neg hb]
 ·
  rw [if_pos (by simpa using hc),if_pos hc]
section
variable {c:Int} (h1:z24 g=some c) (h2:z0d g=some c) (h3:c=0↔z6f g)
include h1 h2 h3
end
end
section
open Go
variable {g a b:z00} {n m:Nat}
theorem z139 (h:z1o g) {o:z0b} (ho:o∈g.Ops):zck o:=h.2.1.1 o ho
theorem z169 (F:Fit g n) (hn:n≤1000) (h:∀ o∈g.Ops,zck o):z1o g:=by
 have h1:=F.len; have h2:=F.ids
 exact ⟨⟨fun x _ y _=>trivial, by omega⟩,⟨h, by omega⟩,trivial⟩
theorem z13s {o:z0b} (h:zck o):inI o.Act.Value.Num∧o.Act.Value.Text.length≤9223372036854775807:=⟨h.2.2.2.1.2.2.1.2.1,h.2.2.2.1.2.2.1.2.2.2.1⟩
theorem z15b {p:ID × z0b} {o:z0b} (h:o∈(zn6 g p).Ops):o=p.2∨o∈g.Ops:=by
 unfold zn6 at h
 split at h
 ·
  exact .inr h
 ·
  exact znc.1 h
theorem zt3 (F:Fit g n) (hn:n≤1000) (l:List ID) (hl:l.length≤1000):z2c l g=some (l.any fun x=>!decide (x∈g.IDs)):=by
 have h1:=F.len; have h2:=F.ids
 have hcl:∀ x,zkj x g=some (!decide (x∈g.IDs)):=fun x=>by
  obtain ⟨k,k1,-⟩:=zd9 g (by omega) F.ri x
  unfold zkj
  rw [k1]
  simp only [bS]
 have main:=z9u (F:=z1p l g) (fun s=>∃ i:Nat,s=(i:Int)∧i≤l.length∧∀ k (h:k<l.length),k<i→l[k]∈g.IDs) (fun s=>l.length - s.toNat)
  (fun b:Sum Int Unit=>(b=.inr ()∧∀ x∈l,x∈g.IDs)∨∃ i:Nat,b=.inl (i:Int)∧∃ x∈l,x∉g.IDs)
  (fun s hs=>by
   obtain ⟨i,rfl,h1,h2⟩:=hs
   by_cases hi:i<l.length
   ·
    have hF:z1p l g (i:Int)=if !decide (l[i]∈g.IDs) then some (.inl (.inl (i:Int))) else some (.inr ((i+1:Nat):Int)):=by
     unfold z1p
     rw [if_pos (by simpa using hi),z0a hi,z0e (by omega)]
     simp only [bS]
     rw [hcl]
     simp only [bS]
    by_cases hc:l[i]∈g.IDs
    ·
     rw [decide_eq_true hc,if_neg (by simp)] at hF
     refine .inr ⟨_,hF,⟨i+1,rfl,hi, fun k hk hki=>?_⟩, by simp; omega⟩
     by_cases hk':k=i
     ·
      subst hk'; exact hc
     ·
      exact h2 k hk (by omega)
    ·
     rw [decide_eq_false hc,if_pos (by simp)] at hF
     exact .inl ⟨_,hF,.inr ⟨i,rfl,l[i],List.getElem_mem hi,hc⟩⟩
   ·
    refine .inl ⟨.inr (),?_,.inl ⟨rfl, fun x hx=>?_⟩⟩
    ·
     unfold z1p
     rw [if_neg (by simpa using hi)]
    ·
     obtain ⟨k,hk,rfl⟩:=List.getElem_of_mem hx
     exact h2 k hk (by omega))
  0 ⟨0,rfl,Nat.zero_le _, fun k _ h=>by omega⟩
 obtain ⟨r,r1,r2⟩:=main
 unfold z2c z3n
 rw [r1]
 rcases r2 with ⟨rfl,h⟩ | ⟨i,rfl,x,hx,hxn⟩
 ·
  simp only [zt7,bS]
  have:(l.any fun x=>!decide (x∈g.IDs))=false:=by
   rw [List.any_eq_false]; intro x hx; simp [h x hx]
  rw [this]; rfl
 ·
  simp only [zzk,bS]
  have:(l.any fun x=>!decide (x∈g.IDs))=true:=by
   rw [List.any_eq_true]; exact ⟨x,hx, by simp [hxn]⟩
  rw [this]; simp
theorem z12y (F:Fit g n) (hn:n≤59) (hc:z24 g=some 0) {p:ID × z0b} (hw:zck p.2) (hp:p.2.Preds.length≤20) (h1:zju p.2=0) (h2:sha (zi5 p.2)=p.1) (hx:p.1∉g.IDs) (hq:∀ q∈p.2.Preds,q∈g.IDs):zob g p.2=some (zn6 g p,p.1,0):=by
 obtain ⟨w1,w2⟩:=z13s hw
 have hl:=F.len
 have hany:(p.2.Preds.any fun x=>!decide (x∈g.IDs))=false:=by
  rw [List.any_eq_false]; intro x hx; simp [hq x hx]
 unfold zob
 rw [hc]
 simp only [bS]
 rw [if_pos (by simp),znz _ w1 w2,h1]
 simp only [bS]
 rw [if_neg (by simp),z10h _ w1 w2,if_pos (zap h1),h2]
 simp only [bS]
 rw [z10o F (by omega) p hp,decide_eq_false hx]
 simp only [bS]
 rw [if_neg (by simp),zt3 F (by omega) _ (by omega),hany]
 simp only [bS]
 rw [if_neg (by simp),if_neg (by simp; omega)]
theorem z155 (F:Fit g n) (hn:n≤59) (hc:z0d g=some 0) {p:ID × z0b} (hw:zck p.2) (hp:p.2.Preds.length≤20∧p.2.Act.Key.length≤100∧p.2.Act.Value.Text.length≤100) (h1:zju p.2=0) (h2:sha (zi5 p.2)=p.1) (hx:p.1∉g.IDs) (hq:∀ q∈p.2.Preds,q∈g.IDs):z9p g p.2=some (zn6 g p,p.1,0):=by
 obtain ⟨w1,w2⟩:=z13s hw
 have hl:=F.len; have hi:=F.ids
 have hall:(p.2.Preds.all fun x=>decide (x∈g.IDs))=true:=by
  rw [List.all_eq_true]; intro x hx; simpa using hq x hx
 unfold z9p
 rw [hc]
 simp only [bS]
 rw [if_neg (by simp),zmx _ w1 w2,h1]
 simp only [bS]
 rw [if_neg (by simp),zuv _ (zap h1) w1,h2]
 simp only [bS]
 rw [zz6 (by omega) hx]
 simp only [bS]
 rw [if_neg (by simp),zvt _ _ (by omega) (by omega),hall]
 simp only [bS]
 rw [if_neg (by simp),if_neg (by simp; omega),zup F (by omega) p hp hx]
 simp only [bS]
theorem zx1 (G:z6f g) (F:Fit g n) {l:List ID} {y p:ID} {o:z0b} (h:z9q g l y) (ho:zc2 g y=some o) (hp:p∈o.Preds):z9q g l p:=by
 have S:=zn5 G F
 have hpm:=S.ins y o ho p hp
 obtain ⟨i,i1,i2⟩:=(zby F).1 ho
 obtain ⟨hi,rfl⟩:=List.getElem?_eq_some_iff.1 i1
 obtain ⟨hio,rfl⟩:=List.getElem?_eq_some_iff.1 i2
 have hpp:g.IDs.idxOf p∈z1j g (g.IDs.idxOf g.IDs[i]):=by
  rw [zcq F.ri hi]
  unfold z1j
  exact List.mem_map.2 ⟨p, by rw [z4z hio]; exact hp,rfl⟩
 refine ⟨hpm,.inr ?_⟩
 rcases h.2 with hl | ⟨x,hx,hxg,hr⟩
 ·
  exact ⟨_,hl,h.1,.base hpp⟩
 ·
  exact ⟨x,hx,hxg,.step hr hpp⟩
theorem zk8 {α:Type} (f:α→Bool):∀ (l:List α) (i:Nat) (h:i<(l.filter f).length),∃ k,∃ hk:k<l.length,l[k]=(l.filter f)[i]∧(l.take k).filter f=(l.filter f).take i
 | [],i,h=>by simp at h
 | x::l,i,h=>by
  by_cases hx:f x=true
  ·
   cases i with
   | zero=>exact ⟨0, by simp, by simp [List.filter_cons_of_pos hx], by simp⟩
   | succ i =>
    have h':i<(l.filter f).length:=by rw [List.filter_cons_of_pos hx] at h; simpa using h
    obtain ⟨k,hk,e1,e2⟩:=zk8 f l i h'
    exact ⟨k+1, by simpa using hk, by simp [List.filter_cons_of_pos hx,e1], by simp [List.filter_cons_of_pos hx,e2]⟩
  ·
   have h':i<(l.filter f).length:=by rw [List.filter_cons_of_neg hx] at h; exact h
   obtain ⟨k,hk,e1,e2⟩:=zk8 f l i h'
   exact ⟨k+1, by simpa using hk, by simp [List.filter_cons_of_neg hx,e1], by simp [List.filter_cons_of_neg hx,e2]⟩
structure zyf (g:z00) (l r d:List ID):Prop where
 len:d.length≤60
 nd:d.Nodup
 mem:∀ x,x∈d↔z9q g l x∧¬ z9q g r x
 topo:∀ i (h:i<d.length) o,zc2 g d[i]=some o→∀ p∈o.Preds,p∈d.take i∨z9q g r p
theorem zxr (G:z6f g) (F:Fit g n) (h1:z24 g=some 0) (h2:z0d g=some 0) (l r:List ID) (hl:l.length≤60) (hr:r.length≤60):∃ d,zec g l r=some d∧zah g l r=some d∧zyf g l r d:=by
 obtain ⟨d,d1,d2,d3,-⟩:=zzn G h1 h2 ⟨fun _=>G, fun _=>rfl⟩ l r hl hr
 refine ⟨d,d1,d2,?_⟩
 obtain ⟨p,p1,-,_,p3,p4⟩:=zis G h1 h2 l hl
 obtain ⟨q,q1,-,_,q3,q4⟩:=zis G h1 h2 r hr
 obtain ⟨Q,Q1,Q2,Q3⟩:=zvm G h1
 obtain ⟨Qg,Qt⟩:=Q2.got
 have hlen:=G.e.len
 have hd:d=(Q.map (zf8 g)).filter fun x=>!(!decide (x∈p) || decide (x∈q)):=by
  unfold zec at d1
  rw [p1,q1] at d1
  simp only [bS] at d1
  rw [Q1] at d1
  simp only [bS] at d1
  rw [zy5 p q (fun x=>!decide (x∈p) || decide (x∈q)) (fun x=>by
   unfold zaa
   rw [zac _ _ (by omega),zac _ _ (by omega)]
   simp only [bS]
   cases decide (x∈p) <;> rfl) _ (by simp; omega)] at d1
  simp only [bS] at d1
  exact (Option.some.inj d1).symm
 have hmemQ:∀ x,x∈Q.map (zf8 g)↔x∈g.IDs:=fun x=>by
  constructor
  ·
   intro hx
   obtain ⟨i,hi,rfl⟩:=List.mem_map.1 hx
   have:=Qg.lt i hi
   rw [z6p (by rw [F.ids]; exact this)]
   exact List.getElem_mem _
  ·
   intro hx
   have hlt:g.IDs.idxOf x<g.Ops.length:=zfr G hx
   refine List.mem_map.2 ⟨g.IDs.idxOf x,?_,zcf hx⟩
   refine Classical.byContradiction fun hno=>?_
   have:=z7d (Q++[g.IDs.idxOf x]) (List.range g.Ops.length) (by
    rw [List.nodup_append]; exact ⟨Qg.nodup, by simp, fun a ha c hc e=>by rw [List.mem_singleton] at hc; subst hc; subst e; exact hno ha⟩) (fun y hy=>by
    rcases List.mem_append.1 hy with hy | hy
    ·
     simpa using Qg.lt y hy
    ·
     rw [List.mem_singleton] at hy; subst hy; simpa using hlt)
   rw [List.length_append,List.length_range,Q3] at this
   simp at this
   omega
 have hndQ:(Q.map (zf8 g)).Nodup:=by
  rw [List.Nodup,List.pairwise_map]
  exact Qg.nodup.imp_of_mem fun {a b} ha hb hne e=>hne (by rw [← zfl G.e (Qg.lt a ha),e,zfl G.e (Qg.lt b hb)])
 have hf:∀ x,(!(!decide (x∈p) || decide (x∈q)))=true↔z9q g l x∧¬ z9q g r x:=fun x=>by
  rw [← p4,← q4]; simp
 refine ⟨d3,hd ▸ hndQ.sublist List.filter_sublist, fun x=>?_, fun i hi o ho y hy=>?_⟩
 ·
  rw [hd,List.mem_filter,hmemQ,hf]
  exact ⟨fun h=>h.2, fun h=>⟨h.1.1,h⟩⟩
 ·
  by_cases hb:z9q g r y
  ·
   exact .inr hb
  refine .inl ?_
  subst hd
  obtain ⟨k,hk,e1,e2⟩:=zk8 _ _ i hi
  rw [← e2,List.mem_filter,hf]
  have hxd:((Q.map (zf8 g)).filter fun x=>!(!decide (x∈p) || decide (x∈q)))[i]∈(Q.map (zf8 g)).filter fun x=>!(!decide (x∈p) || decide (x∈q)):=List.getElem_mem hi
  rw [List.mem_filter,hf] at hxd
  have hbl:=zx1 G F hxd.2.1 ho hy
  refine ⟨?_,hbl,hb⟩
  have hkQ:k<Q.length:=by simpa using hk
  rw [List.map_take.symm]
  have hxk:zf8 g Q[k]=((Q.map (zf8 g)).filter fun x=>!(!decide (x∈p) || decide (x∈q)))[i]:=by rw [← e1]; simp
  have hlt:=Qg.lt Q[k] (List.getElem_mem hkQ)
  obtain ⟨j,j1,j2⟩:=(zby F).1 ho
  obtain ⟨hj,ej⟩:=List.getElem?_eq_some_iff.1 j1
  obtain ⟨hjo,rfl⟩:=List.getElem?_eq_some_iff.1 j2
  have hjk:j=Q[k]:=by
   have:=zcq F.ri hj
   rw [ej,← hxk,zfl G.e hlt] at this
   exact this.symm
  have hpp:g.IDs.idxOf y∈z1j g Q[k]:=by
   unfold z1j
   refine List.mem_map.2 ⟨y,?_,rfl⟩
   rw [← hjk,z4z hjo]; exact hy
  exact List.mem_map.2 ⟨_,Qt k hkQ _ hpp,zcf hbl.1⟩
structure Mid (a b s:z00) (d:List ID) (i:Nat):Prop where
 fit:Fit s (16+i)
 sound:zwt s
 wf:∀ o∈s.Ops,zck o
 ids:∀ x,x∈s.IDs↔x∈b.IDs∨x∈d.take i
 look:∀ x o,zc2 s x=some o→zc2 a x=some o∨zc2 b x=some o
theorem zns:Fit (⟨[],[]⟩:z00) 0:=⟨rfl,Nat.le_refl _,rfl, fun o ho=>by simp at ho⟩
theorem zyc (F:Fit g n) (hn:n≤1000) (hc:z24 g=some 0) {x:ID} {o:z0b} (ho:zc2 g x=some o):zjy g x=some (o,0):=by
 have h1:=F.len; have h2:=F.ids
 have hx:=(zko ho).1
 obtain ⟨k,k1,k2,-⟩:=zd9 g (by omega) F.ri x
 obtain ⟨rfl,hk⟩:=k2 hx
 have hko:g.IDs.idxOf x<g.Ops.length:=by omega
 have e:g.Ops[g.IDs.idxOf x]=o:=by
  unfold zc2 at ho
  rw [if_pos hx,List.getElem?_eq_getElem hko] at ho
  exact Option.some.inj ho
 unfold zjy
 rw [hc]
 simp only [bS]
 rw [if_neg (by simp),k1,decide_eq_true hx]
 simp only [bS]
 rw [if_neg (by simp),z0a hko]
 simp only [bS]
 rw [e,zkq (by have:=(F.op o (zko ho).2).1; omega)]
 simp only [bS]
theorem z10s (Ga:z6f a) (Fa:Fit a n) (Gb:z6f b) (Fb:Fit b m) (hc:zcb a b) {l:List ID} (hl:∀ x∈l,x∈b.IDs) {x:ID} (h:z9q a l x):x∈b.IDs:=by
 have Sb:=zn5 Gb Fb
 have step:∀ y p,y∈b.IDs→y∈a.IDs→a.IDs.idxOf p∈z1j a (a.IDs.idxOf y)→p∈a.IDs→p∈b.IDs:=fun y p hy hya hp hpa=>by
  obtain ⟨o,ho⟩:=zhv Fa hya
  obtain ⟨q,hq⟩:=zhv Fb hy
  have:=(zkb Fa Fb).1 hc y o q ho hq
  subst this
  obtain ⟨i,i1,i2⟩:=(zby Fa).1 ho
  obtain ⟨hi,rfl⟩:=List.getElem?_eq_some_iff.1 i1
  obtain ⟨hio,rfl⟩:=List.getElem?_eq_some_iff.1 i2
  rw [zcq Fa.ri hi] at hp
  unfold z1j at hp
  obtain ⟨z,hz,e⟩:=List.mem_map.1 hp
  rw [z4z hio] at hz
  have:z=p:=zkp hpa e
  subst this
  exact Sb.ins _ _ hq z hz
 obtain ⟨hxa,h⟩:=h
 rcases h with h | ⟨y,hy,hya,hr⟩
 ·
  exact hl x h
 ·
  have key:∀ j,Rch (z1j a) (z1j a (a.IDs.idxOf y)) j→j<a.Ops.length∧zf8 a j∈b.IDs:=fun j hj=>by
   induction hj with
   | @base i hi =>
    have hi':=hi
    unfold z1j at hi'
    obtain ⟨z,hz,e⟩:=List.mem_map.1 hi'
    have hza:=z8z Ga.ins _ z hz
    have hlt:i<a.Ops.length:=by rw [← e]; exact zfr Ga hza
    refine ⟨hlt,?_⟩
    have:zf8 a i=z:=by rw [← e]; exact zcf hza
    rw [this]
    exact step y z (hl y hy) hya (by rw [e]; exact hi) hza
   | @step i p hr hp ih =>
    have hp':=hp
    unfold z1j at hp'
    obtain ⟨z,hz,e⟩:=List.mem_map.1 hp'
    have hza:=z8z Ga.ins _ z hz
    have hlt:p<a.Ops.length:=by rw [← e]; exact zfr Ga hza
    refine ⟨hlt,?_⟩
    have:zf8 a p=z:=by rw [← e]; exact zcf hza
    rw [this]
    have hia:zf8 a i∈a.IDs:=by rw [z6p (by rw [Fa.ids]; exact ih.1)]; exact List.getElem_mem _
    refine step (zf8 a i) z ih.2 hia ?_ hza
    rw [zfl Ga.e ih.1,e]; exact hp
  have:=(key _ hr).2
  rw [zcf hxa] at this
  exact this
theorem z11n (Ga:z6f a) (Fa:Fit a n) (wa:z1o a) (Gb:z6f b) (Fb:Fit b m) (hcl:zcb a b) {l r:List ID} (hr:∀ x∈r,x∈b.IDs) {d:List ID} (P:zyf a l r d) {s:z00} {i:Nat} (hi:i<d.length) (hd:d.length≤16) (M:Mid a b s d i) :
  (d[i]∈b.IDs∧d[i]∈s.IDs∧Mid a b s d (i+1))∨(∃ o,d[i]∉b.IDs∧d[i]∉s.IDs∧zc2 a d[i]=some o∧zob s o=some (zn6 s (d[i],o),d[i],0)∧z9p s o=some (zn6 s (d[i],o),d[i],0)∧Mid a b (zn6 s (d[i],o)) d (i+1)):=by
 have htk:d.take (i+1)=d.take i++[d[i]]:=by rw [List.take_add_one,List.getElem?_eq_getElem hi]; rfl
 by_cases hb:d[i]∈b.IDs
 ·
  refine .inl ⟨hb,(M.ids _).2 (.inl hb),⟨M.fit.ids, by have:=M.fit.len; omega,M.fit.ri,M.fit.op⟩,M.sound,M.wf, fun x=>?_,M.look⟩
  rw [M.ids,htk,List.mem_append,List.mem_singleton]
  constructor
  ·
   rintro (h | h) <;> simp [h]
  ·
   rintro (h | h | rfl)
   ·
    exact .inl h
   ·
    exact .inr h
   ·
    exact .inl hb
 ·
  have hbel:=((P.mem _).1 (List.getElem_mem hi)).1
  obtain ⟨o,ho⟩:=zhv Fa hbel.1
  have hxs:d[i]∉s.IDs:=fun h=>by
   rcases (M.ids _).1 h with h | h
   ·
    exact hb h
   ·
    obtain ⟨j,hj,e⟩:=List.getElem_of_mem h
    rw [List.length_take] at hj
    rw [List.getElem_take] at e
    have:=zo6 P.nd (by omega) hi e
    omega
  have Sa:=zn5 Ga Fa
  obtain ⟨k1,k2,k3,k4⟩:=Sa.ops _ o ho
  have hop:=Fa.op o (zko ho).2
  have hq:∀ q∈o.Preds,q∈s.IDs:=fun q hq=>by
   rw [M.ids]
   rcases P.topo i hi o ho q hq with h | h
   ·
    exact .inr h
   ·
    exact .inl (z10s Ga Fa Gb Fb hcl hr h)
  have hw:=z139 wa (zko ho).2
  have Fs:Fit s 60:=⟨M.fit.ids, by have:=M.fit.len; omega,M.fit.ri,M.fit.op⟩
  have Gs:=zy1 Fs M.sound
  obtain ⟨c,c1,c2,c3⟩:=zik (z169 M.fit (by omega) M.wf)
  have hc0:=c3.2 Gs
  subst hc0
  refine .inr ⟨o,hb,hxs,ho,z12y M.fit (by omega) c1 (p:=(d[i],o)) hw hop.1 k1 k2 hxs hq,z155 M.fit (by omega) c2 (p:=(d[i],o)) hw hop k1 k2 hxs hq,zn8 M.fit hop,zzm M.fit M.sound (p:=(d[i],o)) hop hxs ⟨k1,k2,k3,k4⟩ hq, fun q hq'=>?_, fun x=>?_, fun x q hx=>?_⟩
  ·
   rcases z15b hq' with rfl | h
   ·
    exact hw
   ·
    exact M.wf q h
  ·
   rw [zy9 M.fit,M.ids,htk,List.mem_append,List.mem_singleton]
   constructor
   ·
    rintro (h | h | h) <;> simp [h]
   ·
    rintro (h | h | h) <;> simp [h]
  ·
   rw [zv7 M.fit hop hxs] at hx
   split at hx
   ·
    rename_i e
    cases hx
    subst e
    exact .inl ho
   ·
    exact M.look x q hx
end
section
open Go
variable {g a b:z00} {n m:Nat}
theorem z12c (Fa:Fit a n) (hn:n≤1000) {d:List ID} {s:z00} {i:Nat} (hi:i<d.length) (hs:s.IDs.length≤1000) (hx:d[i]∈s.IDs) (s0:z00 × Int) (h0:s0.2=(i:Int)):iter (z3k a d s0) (s,0)=some s:=by
 have h1:=Fa.len; have h2:=Fa.ids
 refine z2a (F:=z3k a d s0) (b:=s) a.IDs.length (fun j=>(s,(j:Int))) (fun j hj=>?_) ?_
 ·
  unfold z3k
  simp only []
  rw [if_pos (by simpa using hj),z0a hj,h0,z0a hi]
  simp only [bS]
  rw [in27 _ _ (by omega),decide_eq_true hx,z0e (by omega)]
  simp only [bS]
  by_cases e:a.IDs[j]=d[i]
  ·
   rw [if_pos (by simpa using e)]; simp only [bS]; rw [if_neg (by simp)]
  ·
   rw [if_neg (by simpa using e)]; simp only [bS]; rw [if_neg (by simp)]
 ·
  unfold z3k
  rw [if_neg (by simp)]
theorem z110 (Fa:Fit a n) (hn:n≤1000) {d:List ID} {s s':z00} {i:Nat} (hi:i<d.length) (hs:s.IDs.length≤1000) (hx:d[i]∉s.IDs) {o:z0b} (ho:zc2 a d[i]=some o) {y:ID} {c:Int} (hadd:z9p s o=some (s',y,c)) (s0:z00 × Int) (h0:s0.2=(i:Int)):iter (z3k a d s0) (s,0)=some s':=by
 have h1:=Fa.len; have h2:=Fa.ids
 obtain ⟨k,k1,k2⟩:=(zby Fa).1 ho
 obtain ⟨hk,ek⟩:=List.getElem?_eq_some_iff.1 k1
 obtain ⟨hko,eo⟩:=List.getElem?_eq_some_iff.1 k2
 refine z2a (F:=z3k a d s0) (b:=s') a.IDs.length (fun j=>(if j≤k then s else s',(j:Int))) (fun j hj=>?_) ?_
 ·
  unfold z3k
  simp only []
  rw [if_pos (by simpa using hj),z0a hj,h0,z0a hi]
  simp only [bS]
  by_cases e:j=k
  ·
   subst e
   rw [if_pos (by simpa using ek),if_pos (Nat.le_refl _),in27 _ _ (by omega),decide_eq_false hx]
   simp only [bS]
   rw [if_pos (by simp),z0a hko,eo]
   simp only [bS]
   rw [hadd,z0e (by omega),if_neg (by omega)]
   simp only [bS]
  ·
   have hne:a.IDs[j]≠d[i]:=fun h=>e (zvs Fa.ri hj hk (h.trans ek.symm))
   rw [if_neg (by simpa using hne),z0e (by omega)]
   simp only [bS]
   rw [if_neg (by simp)]
   by_cases h:j<k
   ·
    rw [if_pos (by omega),if_pos (by omega)]
   ·
    rw [if_neg (by omega),if_neg (by omega)]
 ·
  unfold z3k
  simp only []
  rw [if_neg (by simp),if_neg (by omega)]
theorem zx8 (Ga:z6f a) (Fa:Fit a n) (hn:n≤60) (wa:z1o a) (ha:z24 a=some 0) (Gb:z6f b) (Fb:Fit b m) (hm:m≤60) (hcl:zcb a b) {l r:List ID} (hr:∀ x∈r,x∈b.IDs) {d:List ID} (P:zyf a l r d) (hd:d.length≤16) :
  ∀ k i s,d.length - i=k→i≤d.length→Mid a b s d i→∃ s',iter (z8v a b d) (s,(i:Int))=some s'∧iter (z4h a d) (s,(i:Int))=some s'∧Mid a b s' d d.length:=by
 have hb1:=Fb.len; have hb2:=Fb.ids
 intro k
 induction k with
 | zero =>
  intro i s hk hi M
  have:i=d.length:=by omega
  subst this
  refine ⟨s,z1z ?_,z1z ?_,M⟩
  ·
   unfold z8v; rw [if_neg (by simp)]
  ·
   unfold z4h; rw [if_neg (by simp)]
 | succ k ih =>
  intro i s hk hi M
  have hid:i<d.length:=by omega
  have hsl:=M.fit.len; have hsi:=M.fit.ids
  rcases z11n Ga Fa wa Gb Fb hcl hr P hid hd M with ⟨hb,hs,M'⟩ | ⟨o,hb,hs,ho,h1,h2,M'⟩
  ·
   have hF:z8v a b d (s,(i:Int))=some (.inr (s,((i+1:Nat):Int))):=by
    unfold z8v
    simp only []
    rw [if_pos (by simpa using hid),z0a hid]
    simp only [bS]
    rw [zac _ _ (by omega),decide_eq_true hb,z0e (by omega)]
    simp only [bS]
    rfl
   have hG:z4h a d (s,(i:Int))=some (.inr (s,((i+1:Nat):Int))):=by
    unfold z4h
    simp only []
    rw [if_pos (by simpa using hid),z12c Fa (by omega) hid (by omega) hs _ rfl,z0e (by omega)]
    simp only [bS]
   rw [z2f hF,z2f hG]
   exact ih (i+1) s (by omega) (by omega) M'
  ·
   have hF:z8v a b d (s,(i:Int))=some (.inr (zn6 s (d[i],o),((i+1:Nat):Int))):=by
    unfold z8v
    simp only []
    rw [if_pos (by simpa using hid),z0a hid]
    simp only [bS]
    rw [zac _ _ (by omega),decide_eq_false hb]
    simp only [bS]
    rw [if_neg (by simp),zyc Fa (by omega) ha ho]
    simp only [bS]
    rw [h1,z0e (by omega)]
    simp only [bS]
   have hG:z4h a d (s,(i:Int))=some (.inr (zn6 s (d[i],o),((i+1:Nat):Int))):=by
    unfold z4h
    simp only []
    rw [if_pos (by simpa using hid),z110 Fa (by omega) hid (by omega) hs ho h2 _ rfl,z0e (by omega)]
    simp only [bS]
   rw [z2f hF,z2f hG]
   exact ih (i+1) _ (by omega) (by omega) M'
theorem zte:zwt (⟨[],[]⟩:z00):=⟨fun x o h=>by simp [zc2] at h, fun x o h=>by simp [zc2] at h, fun _=>0, fun x o h=>by simp [zc2] at h⟩
theorem zq3:z6f (⟨[],[]⟩:z00):=zy1 (g:=⟨[],[]⟩) ⟨rfl, by simp,rfl, fun o ho=>by simp at ho⟩ zte
theorem zod:z24 (⟨[],[]⟩:z00)=some 0∧z0d (⟨[],[]⟩:z00)=some 0:=by
 obtain ⟨c,c1,c2,c3⟩:=zik (g:=⟨[],[]⟩) (z169 zns (by omega) fun o ho=>by simp at ho)
 have:=c3.2 zq3
 subst this
 exact ⟨c1,c2⟩
theorem ztp (Gb:z6f b) (hb:z24 b=some 0) (hb':z0d b=some 0) (Fb:Fit b m) (hm:m≤60):zbh b (⟨[],[]⟩:z00)=some (b,0):=by
 obtain ⟨r,r1,-,r3⟩:=zpl Gb zq3 hb zod.1 hb' zod.2 Fb zns (by omega)
 rcases r3 with ⟨-,h⟩ | ⟨rfl,-⟩
 ·
  exact absurd (fun i hi=>by simp at hi) h
 ·
  exact r1
theorem zwy (G:z6f g) (h2:z0d g=some 0) (l:List ID) (hl:l.length≤60):∃ d,zet g l=some d∧zbx g l=some (d,0)∧d.length≤l.length∧∀ x,x∈d↔x∈l∧x∉g.IDs:=by
 obtain ⟨d,d1,d2,d3⟩:=zwk G.e l hl
 obtain ⟨e,e1,e2,e3⟩:=zy8 G.e l hl
 have:d=e:=zgt _ _ ((zce _).1 d2) ((zce _).1 e2) fun y=>by rw [d3,e3]
 subst this
 refine ⟨d,d1,?_,z7d _ _ (zed d2) fun x hx=>((d3 x).1 hx).1,d3⟩
 have hk:z12z 0 l []=0:=by unfold z12z; rw [if_neg (by simp),if_neg (by omega),if_neg (by simp)]
 unfold zbx
 rw [zy0 h2,hk]
 simp only [bS]
 rw [if_neg (by simp),e1]
 simp only [bS]
theorem zq6 (G:z6f g) (h1:z24 g=some 0) (h2:z0d g=some 0):∃ r,zbj g=some (r,0)∧z9g g=some (r,0)∧r.length≤60∧r=zd1 g (top g g.Ops.length):=by
 have hlen:=G.e.len
 have hids:=G.e.ids
 obtain ⟨r,p1,p2⟩:=znr G.e
 have hl:=zqt (g:=g) (zmk G.e (top g g.Ops.length)) fun y hy=>((zjw G.e).1 hy).1
 have d0:((0:Int) != 0)=false:=rfl
 unfold zbj z9g
 rw [h1,h2]
 simp only [bS]
 simp only [d0,Bool.false_eq_true,if_false]
 rw [p1,z11w G.e G.ins]
 simp only [bS]
 rw [zja (by omega) (by omega),hids]
 simp only [bS]
 rw [z17m _ (by omega)]
 simp only [bS]
 rw [zw6 G.e G.ins p2]
 simp only [bS]
 rw [z10n G.e]
 exact ⟨_,rfl,rfl, by omega,rfl⟩
theorem z10u (Ga:z6f a) (Gb:z6f b) (wa:z1o a) (wb:z1o b) (ha:z24 a=some 0) (hb:z24 b=some 0) (ha':z0d a=some 0) (hb':z0d b=some 0) (Fa:Fit a 16) (Fb:Fit b 16) (hcl:zcb a b) :
  ∃ s c,ze9 a b=some (s,c)∧z8q a b=some (s,c)∧Fit s 32∧0≤c∧c≤1000:=by
 obtain ⟨x,x1,x2,x3,-⟩:=zq6 Ga ha ha'
 obtain ⟨y,y1,y2,y3,y4⟩:=zq6 Gb hb hb'
 obtain ⟨w,w1,w2,w3,-⟩:=zwy Gb hb' x x3
 obtain ⟨d,d1,d2,P⟩:=zxr Ga Fa ha ha' w y (by omega) y3
 have hyb:∀ z∈y,z∈b.IDs:=fun z hz=>by rw [y4] at hz; exact ((zjw Gb.e).1 hz).1
 have hdin:∀ z∈d,z∈a.IDs:=fun z hz=>((P.mem z).1 hz).1.1
 have hd16:d.length≤16:=by
  have:=z7d _ _ P.nd hdin
  have:=Fa.len; have:=Fa.ids
  omega
 have M0:Mid a b b d 0:=⟨⟨Fb.ids, by have:=Fb.len; omega,Fb.ri,Fb.op⟩,zn5 Gb Fb, fun o ho=>z139 wb ho, fun z=>by simp, fun z o h=>.inr h⟩
 obtain ⟨s,s1,s2,M⟩:=zx8 Ga Fa (by omega) wa ha Gb Fb (by omega) hcl hyb P hd16 _ 0 b rfl (Nat.zero_le _) M0
 have hfl:(zxe (zdy (d.map (bts a)) d.length)).length≤60:=by
  have:=(z14y (d.map (bts a)) (fun q hq=>by
   obtain ⟨z,hz,rfl⟩:=List.mem_map.1 hq
   exact zm5 Ga wa (hdin z hz)) (by simp; omega)).1
  simpa using this
 have Fs:Fit s 32:=⟨M.fit.ids, by have:=M.fit.len; omega,M.fit.ri,M.fit.op⟩
 refine ⟨s,((zxe (zdy (d.map (bts a)) d.length)).length:Int),?_,?_,Fs, by omega, by omega⟩
 ·
  unfold ze9
  rw [x1,y1]
  simp only [bS]
  rw [w1]
  simp only [bS]
  rw [d1,ztp Gb hb hb' Fb (by omega)]
  simp only [bS]
  rw [show ((b,(0:Int)):z00 × Int)=(b,((0:Nat):Int)) from rfl,s1,ztj Ga wa ha d (by omega) hdin]
  simp only [bS]
 ·
  unfold z8q
  rw [x2,y2]
  simp only [bS]
  rw [w2]
  simp only [bS]
  rw [d2]
  simp only [bS]
  rw [show ((b,(0:Int)):z00 × Int)=(b,((0:Nat):Int)) from rfl,s2]
  simp only [bS]
  rw [zqr (Fs.small (by omega)),zw4 Ga wa d (by omega) hdin]
  simp only [bS]
theorem zsl (Fa:Fit a n) (Fb:Fit b m) (h:zcb a b):zcb b a:=(zkb Fb Fa).2 fun x o q ho hq=>((zkb Fa Fb).1 h x q o hq ho).symm
theorem z14d {c d:Int} (ha':z0d a=some c) (hb':z0d b=some d) {r:z00 × Int} (hr:z2z a b=some r) (hc:c≠0→r.2=c) (hd:c=0→d≠0→r.2=d):za9 a b=some r.2:=by
 unfold za9
 rw [ha',hb']
 simp only [bS]
 by_cases h1:c=0
 ·
  rw [if_neg (by simpa using h1)]
  by_cases h2:d=0
  ·
   rw [if_neg (by simpa using h2),hr]
   simp only [bS]
  ·
   rw [if_pos (by simpa using h2),hd h1 h2]
 ·
  rw [if_pos (by simpa using h1),hc h1]
theorem zwv (a0 a1:z00) (w0:z1o a0) (w1:z1o a1):za7 a0 a1=some true:=by
 obtain ⟨x,x1,x2⟩:=zn7 a0
 obtain ⟨y,y1,y2⟩:=zn7 a1
 unfold za7
 rw [x1]
 simp only [bS]
 by_cases hx:x=true
 ·
  subst hx; rfl
 have hx:x=false:=by simpa using hx
 subst hx
 rw [if_neg (by simp),y1]
 simp only [bS]
 by_cases hy:y=true
 ·
  subst hy; rfl
 have hy:y=false:=by simpa using hy
 subst hy
 have S0:=x2 rfl
 have S1:=y2 rfl
 rw [if_neg (by simp),zqr S1]
 simp only [bS]
 obtain ⟨c,c1,c2,c3⟩:=zik w0
 obtain ⟨d,d1,d2,d3⟩:=zik w1
 obtain ⟨r,r1,r2,r3,r4⟩:=z12k w0 w1 x1 y1
 have hcode1:c≠0→r.2=c:=fun h=>by
  have e:z2z a0 a1=some (⟨[],[]⟩,c):=by
   unfold z2z; rw [c2]; simp only [bS]; rw [if_pos (by simpa using h)]
  rw [e] at r2; cases r2; rfl
 have hcode2:c=0→d≠0→r.2=d:=fun h0 h=>by
  have e:z2z a0 a1=some (⟨[],[]⟩,d):=by
   unfold z2z; rw [c2,d2]; simp only [bS]; rw [if_neg (by simpa using h0),if_pos (by simpa using h)]
  rw [e] at r2; cases r2; rfl
 have hboth:=z14d c2 d2 r2 hcode1 hcode2
 have hempty:z5a (⟨[],[]⟩:z00) ⟨[],[]⟩=some true:=zlh (zns.small (by omega))
 have hs1:=zlh S1
 unfold zm1 zep zft zc0
 rw [r1,hboth]
 simp only [bS]
 by_cases hr:r.2=0
 ·
  obtain ⟨G0,G1,hcl,-,l0,l1⟩:=r3 hr
  have hc0:=c3.2 G0
  have hd0:=d3.2 G1
  subst hc0 hd0
  have F0:Fit a0 16:=⟨G0.e.ids,l0,G0.e.ri,(zv9 G0 S0).op⟩
  have F1:Fit a1 16:=⟨G1.e.ids,l1,G1.e.ri,(zv9 G1 S1).op⟩
  obtain ⟨s,k,s1,s2,Fs,k1,k2⟩:=z10u G0 G1 w0 w1 c1 d1 c2 d2 F0 F1 hcl
  obtain ⟨t,q,t1,t2,Ft,q1,q2⟩:=z10u G1 G0 w1 w0 d1 c1 d2 c2 F1 F0 (zsl F0 F1 hcl)
  have hne:(r.2 != 0)=false:=by simpa using hr
  rw [hne,s1,s2,t1,t2]
  simp only [bS,Bool.false_eq_true,if_false]
  rw [zlh (Fs.small (by omega)),zlh (Ft.small (by omega)),hs1]
  simp
 ·
  have hne:(r.2 != 0)=true:=by simpa using hr
  rw [hne]
  simp only [bS,if_true]
  rw [hempty,hs1]
  simp
end
end Go.Proofs.YtefkialcgmohkaaGreatDoor
