import Derived.Test.YtefkialcgmohkaaGreatDoorZe
set_option linter.unusedSimpArgs false
set_option linter.unusedVariables false
namespace Go.Proofs.YtefkialcgmohkaaGreatDoor
section
open Go
variable {g:z00} {n:Nat}
def oid (o:z07):ID:=sha (zfm o)
structure OkN (o:z07):Prop where
 good:zgi o=0
 pre:o.Preds.length≤4
 key:o.Act.Key.length≤100
 text:o.Act.Value.Text.length≤100
 num:inI o.Act.Value.Num
def zg9 (l:List z07):List (ID × z07):=l.map fun o=>(oid o,o)
theorem ztm (l:List z07):(zg9 l).map Prod.fst=l.map oid:=by unfold zg9; rw [List.map_map]; rfl
theorem zrl {l:List z07} (h:∀ o∈l,OkN o):∀ p∈zg9 l,p.2.Preds.length≤20∧p.2.Act.Key.length≤100∧p.2.Act.Value.Text.length≤100:=fun p hp=>by
 obtain ⟨o,ho,rfl⟩:=List.mem_map.1 hp
 have:=h o ho
 exact ⟨Nat.le_trans this.pre (by omega),this.key,this.text⟩
theorem fit0:Fit (⟨[],[]⟩:z00) 0:=⟨rfl,Nat.le_refl _,rfl, fun o ho=>by simp at ho⟩
theorem zwh:∀ {l:List (ID × z07)} {g:z00} {n:Nat},Fit g n→(∀ p∈l,p.2.Preds.length≤20∧p.2.Act.Key.length≤100∧p.2.Act.Value.Text.length≤100)→∀ x,x∈(zd4 g l).IDs↔x∈g.IDs∨x∈l.map Prod.fst
 | [],g,n,F,_,x=>by simp [zd4]
 | p::l,g,n,F,hp,x=>by
  have ih:=zwh (l:=l) (zj5 F (hp p (by simp))) (fun q hq=>hp q (by simp [hq])) x
  have:zd4 g (p::l)=zd4 (zm8 g p) l:=rfl
  rw [this,ih,zuv F p,List.map_cons,List.mem_cons]
  constructor
  ·
   rintro ((h | h) | h)
   ·
    exact .inr (.inl h)
   ·
    exact .inl h
   ·
    exact .inr (.inr h)
  ·
   rintro (h | h | h)
   ·
    exact .inl (.inr h)
   ·
    exact .inl (.inl h)
   ·
    exact .inr h
theorem zu9:∀ (l:List z07) (o:z07),(l.map oid).Nodup→o∈l→((zg9 l).find? fun p=>decide (p.1=oid o)).map Prod.snd=some o
 | [],o,_,h=>by simp at h
 | a::l,o,hn,ho=>by
  rw [List.map_cons,List.nodup_cons] at hn
  have e0:zg9 (a::l)=(oid a,a)::zg9 l:=rfl
  rw [e0]
  by_cases e:oid a=oid o
  ·
   rw [List.find?_cons_of_pos (by simpa using e)]
   rcases List.mem_cons.1 ho with rfl | h
   ·
    rfl
   ·
    exact absurd (List.mem_map.2 ⟨o,h,e.symm⟩) hn.1
  ·
   rw [List.find?_cons_of_neg (by simpa using e)]
   rcases List.mem_cons.1 ho with rfl | h
   ·
    exact absurd rfl e
   ·
    exact zu9 l o hn.2 h
theorem z17t (F:Fit g n) (S:zka g) {l:List z07} (hl:∀ o,o∈l↔o∈g.Ops) (h:∀ o∈l,OkN o) (hn:(l.map oid).Nodup):zd4 ⟨[],[]⟩ (zg9 l)=g:=by
 refine zgn (zou fit0 (zrl h)) F fun y=>?_
 rw [zub fit0 (zrl h) (by rw [ztm]; exact hn),zf2 (by simp),Option.none_or]
 cases hy:z48 g y with
 | some o =>
  have:=(S.ops y o hy).2.1
  have ho:=(hl o).2 (zeo hy).2
  have:=zu9 l o hn ho
  rw [show oid o=y from (S.ops y o hy).2.1] at this
  exact this
 | none =>
  rw [Option.map_eq_none_iff,List.find?_eq_none]
  intro p hp hc
  obtain ⟨o,ho,rfl⟩:=List.mem_map.1 hp
  have hc:oid o=y:=by simpa using hc
  obtain ⟨i,hi,rfl⟩:=List.getElem_of_mem ((hl o).1 ho)
  have h1:=zd9 F hi
  have h2:=(S.ops _ _ h1).2.1
  rw [← h2, show sha (zfm g.Ops[i])=y from hc,hy] at h1
  simp at h1
end
section
open Go
variable {g:z00} {n:Nat}
theorem z18v (l:List z07) (hl:l.length≤60) (h:∀ o∈l,OkN o):iter (z9y l) 0=some (.inr ()):=by
 refine z23 (F:=z9y l) l.length (fun i=>(i:Int)) (fun i hi=>?_) ?_
 ·
  have ho:=h l[i] (List.getElem_mem hi)
  unfold z9y
  rw [if_pos (by simpa using hi),z0d hi]
  simp only [bS]
  rw [zif _ ho.num (Nat.le_trans ho.text (by omega)),ho.good]
  simp only [bS]
  rw [if_neg (by simp),z0i (by omega)]
 ·
  unfold z9y
  rw [if_neg (by simp)]
theorem z18s (l:List z07) (hl:l.length≤60) (h:∀ o∈l,OkN o) (hn:(l.map oid).Nodup):iter (za0 l) ([],[],0)=some (.inr ((zd4 ⟨[],[]⟩ (zg9 l)).IDs,(zd4 ⟨[],[]⟩ (zg9 l)).Ops)):=by
 have hpl:(zg9 l).length=l.length:=by simp [zg9]
 have hsz:=zrl h
 have fit:∀ i,i≤l.length→Fit (zd4 ⟨[],[]⟩ ((zg9 l).take i)) i:=fun i hi=>by
  have:=zou (l:=(zg9 l).take i) fit0 (fun p hp=>hsz p (List.mem_of_mem_take hp))
  rw [List.length_take,hpl,Nat.min_eq_left hi,Nat.zero_add] at this
  exact this
 refine z23 (F:=za0 l) l.length (fun i=>((zd4 ⟨[],[]⟩ ((zg9 l).take i)).IDs,(zd4 ⟨[],[]⟩ ((zg9 l).take i)).Ops,(i:Int))) (fun i hi=>?_) ?_
 ·
  have ho:=h l[i] (List.getElem_mem hi)
  have F:=fit i (by omega)
  have hx:oid l[i]∉(zd4 ⟨[],[]⟩ ((zg9 l).take i)).IDs:=fun hc=>by
   rw [zwh fit0 (fun p hp=>hsz p (List.mem_of_mem_take hp))] at hc
   rcases hc with hc | hc
   ·
    simp at hc
   ·
    rw [List.map_take,ztm] at hc
    obtain ⟨j,hj,e⟩:=List.getElem_of_mem hc
    have hj':j<i:=by rw [List.length_take] at hj; omega
    rw [List.getElem_take,List.getElem_map] at e
    have:=(List.getElem_inj (xs:=l.map oid) (i:=j) (j:=i) (h₀:=by simp; omega) (h₁:=by simpa using hi) hn).1 (by rw [List.getElem_map,List.getElem_map,e])
    omega
  unfold za0
  rw [if_pos (by simpa using hi)]
  simp only []
  rw [z0d hi]
  simp only [bS]
  rw [zo1 _ (z8y ho.good) ho.num]
  simp only [bS]
  rw [show sha (zfm l[i])=oid l[i] from rfl,zww (by have:=F.len; have:=F.ids; omega) hx]
  simp only [bS]
  rw [if_neg (by simp)]
  have hput:=zrr F (by omega) (oid l[i],l[i]) ⟨Nat.le_trans ho.pre (by omega),ho.key,ho.text⟩ hx
  have hput:z6g (⟨(zd4 ⟨[],[]⟩ ((zg9 l).take i)).IDs,(zd4 ⟨[],[]⟩ ((zg9 l).take i)).Ops⟩:z00) (oid l[i]) l[i]=_:=hput
  rw [hput]
  simp only [bS]
  rw [z0i (by omega)]
  have ht:(zg9 l).take (i+1)=(zg9 l).take i++[(oid l[i],l[i])]:=by
   rw [List.take_add_one,List.getElem?_eq_getElem (by omega)]
   simp [zg9]
  rw [ht,zj8]
 ·
  unfold za0
  rw [if_neg (by simp),List.take_of_length_le (by omega)]
theorem z10l (F:Fit g 60) (S:zka g) {l:List z07} (hl:∀ o,o∈l↔o∈g.Ops) (h6:l.length≤60) (h:∀ o∈l,OkN o) (hn:(l.map oid).Nodup):z68 l=some (g,0):=by
 have G:=zms F S
 obtain ⟨c,-,c1,c3⟩:=zwo (g:=g) G.e.len G.e.ids G.e.op
 have hc:c=0:=c3.2 ⟨G.e.ri,G.ins,G.wf⟩
 unfold z68
 rw [if_neg (by simp; omega),z18v l h6 h]
 simp only [z5g]
 rw [z18s l h6 h hn,z17t F S hl h hn]
 simp only [z5g,bS]
 rw [c1,hc]
 simp only [bS]
 rw [if_neg (by simp)]
end
section
open Go
theorem zoj {ids:List ID} {ops:List z07} (tbl:List Nat) (hl:ids.length=ops.length) (h6:ops.length≤60) (hinc:z5u ids=true)
  (h:∀ i (hi:i<ops.length),OkN ops[i]∧oid ops[i]=ids[i]∧z5u ops[i].Preds=true∧∀ p∈ops[i].Preds,p∈ids∧tbl.getD (ids.idxOf p) 0<tbl.getD i 0) :
  Fit ⟨ids,ops⟩ 60∧zka ⟨ids,ops⟩:=by
 have F:Fit ⟨ids,ops⟩ 60:=⟨hl,h6,hinc, fun o ho=>by
  obtain ⟨i,hi,rfl⟩:=List.getElem_of_mem ho
  have:=(h i hi).1
  exact ⟨Nat.le_trans this.pre (by omega),this.key,this.text⟩⟩
 have at_:∀ x o,z48 ⟨ids,ops⟩ x=some o→∃ i,∃ hi:i<ops.length,x=ids[i]∧o=ops[i]:=fun x o ho=>by
  obtain ⟨i,h1,h2⟩:=(zae F).1 ho
  obtain ⟨hi,rfl⟩:=List.getElem?_eq_some_iff.1 h2
  obtain ⟨hi',rfl⟩:=List.getElem?_eq_some_iff.1 h1
  exact ⟨i,hi,rfl,rfl⟩
 refine ⟨F, fun x o ho=>?_, fun x o ho p hp=>?_, fun x=>tbl.getD (ids.idxOf x) 0, fun x o ho p hp=>?_⟩
 ·
  obtain ⟨i,hi,rfl,rfl⟩:=at_ x o ho
  exact ⟨(h i hi).1.good,(h i hi).2.1,(h i hi).1.pre,(h i hi).2.2.1⟩
 ·
  obtain ⟨i,hi,rfl,rfl⟩:=at_ x o ho
  exact ((h i hi).2.2.2 p hp).1
 ·
  obtain ⟨i,hi,rfl,rfl⟩:=at_ x o ho
  show tbl.getD (ids.idxOf p) 0<tbl.getD (ids.idxOf ids[i]) 0
  rw [z6z hinc (by omega)]
  exact ((h i hi).2.2.2 p hp).2
end
section
open Go
variable {g:z00}
theorem zjd {α:Type} {l:List α} {n:Nat} (h:n<l.length):l.take (n+1)=l.take n++[l[n]]:=by
  rw [List.take_add_one,List.getElem?_eq_getElem h]; rfl
theorem z15e {l:List V3} (hso:l.Pairwise fun x y=>kd x≤kd y) {n i:Nat} (hi:i<l.length) (hn:n≤i+1):∀ x∈l.take n,kd x≤kd l[i]:=by
  intro x hx
  obtain ⟨j,hj,rfl⟩:=List.getElem_of_mem hx
  rw [List.length_take] at hj
  rw [List.getElem_take]
  by_cases hji:j=i
  · subst hji; exact Nat.le_refl _
  · exact List.pairwise_iff_getElem.1 hso j i (by omega) hi (by omega)
theorem zp8 {l:List V3} {x:V3} (h:l.Pairwise fun a b=>kd a<kd b) (hx:∀ y∈l,kd y<kd x):(l++[x]).Pairwise fun a b=>kd a<kd b:=by
  rw [List.pairwise_append]
  exact ⟨h, by simp, fun a ha b hb=>by rw [List.mem_singleton] at hb; subst hb; exact hx a ha⟩
theorem zsl (l : List V3) (hl : l.length ≤ 1000) (hso : l.Pairwise fun x y => kd x ≤ kd y) (s : Nat) (h1 : 1 ≤ s) (hs : s < l.length) (hst : (l.take s).Pairwise fun x y => kd x < kd y) (heq : l[s] = l[s - 1]) :
    ∃ b:List V3 × Int,iter (z18 l s) (l,(s:Int),1)=some b∧b.1.length=l.length∧∃ j:Nat,b.2=(j:Int)∧j<l.length∧(b.1.take j).Pairwise (fun x y=>kd x<kd y)∧∀ x,x∈b.1.take j↔x∈l:=by
  refine z7d (F:=z18 l s) (l.length - s)
    (fun i st=>st.1.length=l.length∧st.2.2=(i:Int)∧1≤i∧∃ j:Nat,st.2.1=(j:Int)∧j+1≤s+i∧(∀ q,s+i - 1≤q→st.1[q]? = l[q]?)∧(st.1.take j).Pairwise (fun x y=>kd x<kd y)∧∀ x,x∈st.1.take j↔x∈l.take (s+i)) _ ?_ ?_ _ 1 (by omega)
    ⟨rfl,rfl, by omega,s,rfl, by omega, fun _ _=>rfl,hst, fun x=>?_⟩
  · rintro i ⟨c,j',i'⟩ hi ⟨e1,e2,e0,j,e3,e4,e5,e6,e7⟩
    simp only at e1 e2 e3 e5 e6 e7
    subst e2 e3
    have g1:c[s+i]'(by omega)=l[s+i]'(by omega):=by
      have:=e5 (s+i) (by omega)
      rw [List.getElem?_eq_getElem (by omega),List.getElem?_eq_getElem (by omega)] at this
      exact Option.some.inj this
    have g2:c[s+(i - 1)]'(by omega)=l[s+(i - 1)]'(by omega):=by
      have:=e5 (s+(i - 1)) (by omega)
      rw [List.getElem?_eq_getElem (by omega),List.getElem?_eq_getElem (by omega)] at this
      exact Option.some.inj this
    have hs1:l.take (s+(i+1))=l.take (s+i)++[l[s+i]'(by omega)]:=zjd (n:=s+i) (by omega)
    unfold z18
    rw [if_pos (by simp; omega)]
    simp only [Int.toNat_natCast]
    rw [zra (by omega),z1a (x:=(i:Int) - 1) (by omega) (by omega), show ((i:Int) - 1)=((i - 1:Nat):Int) by omega,zra (by omega)]
    simp only [bS]
    rw [z0d (by omega),z0d (by omega)]
    simp only [bS]
    by_cases hc:c[s+i]'(by omega)=c[s+(i - 1)]'(by omega)
    · rw [decide_eq_true hc,if_neg (by simp)]
      refine ⟨_,rfl,e1,z0i (by omega), by omega,j,rfl, by omega, fun q hq=>e5 q (by omega),e6, fun x=>?_⟩
      rw [e7,hs1,List.mem_append]
      refine ⟨.inl, fun h=>h.elim id fun h=>?_⟩
      have hx:x=l[s+i]'(by omega):=List.mem_singleton.1 h
      rw [hx,← g1,hc,g2,List.mem_take_iff_getElem]
      exact ⟨s+(i - 1), by omega,rfl⟩
    · rw [decide_eq_false hc,if_pos (by simp),z0d (by omega)]
      simp only [bS]
      have hset:(c.set j (l[s+i]'(by omega))).take (j+1)=c.take j++[l[s+i]'(by omega)]:=by
        rw [zjd (by rw [List.length_set]; omega),List.take_set_of_le (Nat.le_refl _),List.getElem_set_self]
      refine ⟨_,rfl, by simpa using e1,z0i (by omega), by omega,j+1,z0i (by omega), by omega, fun q hq=>?_,?_, fun x=>?_⟩
      · show (c.set j _)[q]? = _
        rw [List.getElem?_set_ne (by omega)]; exact e5 q (by omega)
      · show ((c.set j (c[s+i]'(by omega))).take (j+1)).Pairwise _
        rw [g1,hset]
        refine zp8 e6 fun y hy=>?_
        have h1:=z15e hso (n:=s+i) (i:=s+(i - 1)) (by omega) (by omega) y ((e7 y).1 hy)
        have h2:kd (l[s+(i - 1)]'(by omega))≤kd (l[s+i]'(by omega)):=List.pairwise_iff_getElem.1 hso _ _ (by omega) (by omega) (by omega)
        have h3:kd (l[s+(i - 1)]'(by omega))≠kd (l[s+i]'(by omega)):=fun e=>hc (by rw [g1,g2]; exact (zkx e).symm)
        omega
      · show x∈(c.set j (c[s+i]'(by omega))).take (j+1)↔_
        rw [g1,hset,hs1,List.mem_append,List.mem_append,e7]
  · rintro ⟨c,j',i'⟩ ⟨e1,e2,e0,j,e3,e4,e5,e6,e7⟩
    simp only at e1 e2 e3 e5 e6 e7
    subst e2 e3
    unfold z18
    rw [if_neg (by simp <;> omega)]
    refine ⟨_,rfl,e1,j,rfl, by omega,e6, fun x=>?_⟩
    rw [e7,List.take_of_length_le (by omega)]
  · show x∈l.take s↔x∈l.take (s+1)
    rw [zjd hs,List.mem_append]
    refine ⟨.inl, fun h=>h.elim id fun h=>?_⟩
    have hx:x=l[s]:=List.mem_singleton.1 h
    rw [hx,heq,List.mem_take_iff_getElem]
    exact ⟨s - 1, by omega,rfl⟩
theorem zjw (l:List V3) (hl:l.length≤1000) (hso:l.Pairwise fun x y=>kd x≤kd y):∃ c,z12 l=some c∧z5u c=true∧∀ x,x∈c↔x∈l:=by
  have key:∀ k n,l.length - n=k→1≤n→n≤l.length→(l.take n).Pairwise (fun x y=>kd x<kd y)→∃ r:Sum (List V3) Unit,iter (z0l l) (n:Int)=some r∧((r=.inr ()∧l.Pairwise fun x y=>kd x<kd y)∨(∃ c,r=.inl c∧(c.Pairwise fun x y=>kd x<kd y)∧∀ x,x∈c↔x∈l)):=by
    intro k
    induction k with
    | zero =>
      intro n hk h1 hn hst
      refine ⟨_,z1p ?_,.inl ⟨rfl,?_⟩⟩
      · unfold z0l
        rw [if_neg (by simp; omega)]
      · rw [List.take_of_length_le (by omega)] at hst; exact hst
    | succ k ih =>
      intro n hk h1 hn hst
      have hlt:n<l.length:=by omega
      by_cases hc:l[n]=l[n - 1]
      · obtain ⟨⟨c,j'⟩,e1,e2,j,e3,e4,e5,e6⟩:=zsl l hl hso n h1 hlt hst hc
        simp only at e2 e3 e5 e6
        subst e3
        have hF:z0l l (n:Int)=some (.inl (.inl (c.take j))):=by
          unfold z0l
          rw [if_pos (by simp; omega),z0d hlt,z1a (by omega) (by omega), show ((n:Int) - 1)=((n - 1:Nat):Int) by omega,z0d (by omega)]
          simp only [bS]
          rw [decide_eq_true hc,if_pos rfl,z3r (by omega)]
          simp only [bS]
          rw [e1]
          simp only [bS]
          rw [z3r (by omega),z3r (by simp; omega)]
          simp only [bS,Int.toNat_natCast]
          rw [show (0:Int)=((0:Nat):Int) from rfl,zdc (by omega) (by rw [zvz _ _ _ _ (by omega)]; omega)]
          simp only [bS,List.drop_zero,Nat.sub_zero]
          have:(clr c j (c.length - j) (Vector.replicate 32 0)).take j=c.take j:=by
            unfold clr
            first
              | rw [List.append_assoc,List.take_append_of_le_length (by rw [List.length_take]; omega),List.take_take,Nat.min_self]
              | rw [List.take_append_of_le_length (by rw [List.length_take]; omega),List.take_take,Nat.min_self]
          rw [this]
        exact ⟨_,z1p hF,.inr ⟨_,rfl,e5,e6⟩⟩
      · have hF : z0l l (n : Int) = some (.inr ((n + 1 : Nat) : Int)) := by
          unfold z0l
          rw [if_pos (by simp; omega),z0d hlt,z1a (x:=(n:Int) - 1) (by omega) (by omega), show ((n:Int) - 1)=((n - 1:Nat):Int) by omega,z0d (by omega)]
          simp only [bS]
          rw [decide_eq_false hc,if_neg (by simp),z0i (by omega)]
        obtain ⟨r,h2,h3⟩:=ih (n+1) (by omega) (by omega) (by omega) (by
          rw [zjd hlt]
          refine zp8 hst fun y hy=>?_
          have h1':=z15e hso (n:=n) (i:=n - 1) (by omega) (by omega) y hy
          have h2':kd (l[n - 1]'(by omega))≤kd l[n]:=List.pairwise_iff_getElem.1 hso _ _ (by omega) hlt (by omega)
          have h3':kd (l[n - 1]'(by omega))≠kd l[n]:=fun e=>hc (zkx e).symm
          omega)
        exact ⟨r, by rw [z21 hF]; exact h2,h3⟩
  unfold z12
  by_cases h2:l.length<2
  · rw [if_pos (by simp; omega)]
    refine ⟨l,rfl,?_, fun x=>Iff.rfl⟩
    match l,h2 with
    | [],_=>rfl
    | [_],_=>rfl
  · rw [if_neg (by simp; omega)]
    obtain ⟨r,e1,e2⟩:=key (l.length - 1) 1 rfl (by omega) (by omega) (by rw [zjd (by omega)]; simp)
    rw [show (1:Int)=((1:Nat):Int) from rfl,e1]
    rcases e2 with ⟨rfl,h3⟩ | ⟨c,rfl,h3,h4⟩
    · exact ⟨l,rfl,(z8e l).2 h3, fun x=>Iff.rfl⟩
    · exact ⟨c,rfl,(z8e c).2 h3,h4⟩
def zy2 (cl:ID→Option Bool) (a0:List ID) (s2:Int):Option (Sum (Sum Int Unit) Int) :=
  if decide (s2<(a0.length:Int)) then
    idx a0 s2 >>= fun x4 =>
    cl x4 >>= fun r6 =>
    if r6 then
      some (.inl (.inl s2))
    else
      some (.inr (w64 (s2+1)))
  else
    some (.inl (.inr ()))
def z122 (cl:ID→Option Bool) (s5:(List ID) × Int × Int):Option (Sum ((List ID) × Int) ((List ID) × Int × Int)) :=
  if decide (s5.2.2<(s5.1.length:Int)) then
    idx s5.1 s5.2.2 >>= fun x7 =>
    cl x7 >>= fun r10 =>
    if !r10 then
      idx s5.1 s5.2.1 >>= fun x13 =>
      some (w64 (s5.2.1+1)) >>= fun y15 =>
      some (w64 (s5.2.2+1)) >>= fun y16 =>
      some (.inr (s5.1.set (s5.2.1:Int).toNat x7,y15,y16))
    else
      some (w64 (s5.2.2+1)) >>= fun y17 =>
      some (.inr (s5.1,s5.2.1,y17))
  else
    some (.inl (s5.1,s5.2.1))
def z1a2 (cl:ID→Option Bool) (c0:List ID):Option (List ID) :=
  (z5g (iter (zy2 cl c0) 0) fun s1=>some (-1)) >>= fun r1 =>
  if r1==(-1) then
    some c0
  else
    (iter (z122 cl) (c0,r1,w64 (r1+1))) >>= fun s4 =>
    chk (0≤s4.2∧s4.2≤(s4.1.length:Int)∧(s4.1.length:Int)≤(s4.1.length:Int)) >>= fun u18 =>
    chk ((s4.2:Int).toNat+(((s4.1.length:Int):Int).toNat - (s4.2:Int).toNat)≤s4.1.length) >>= fun u20 =>
    cut (clr s4.1 ((s4.2:Int).toNat) (((s4.1.length:Int):Int).toNat - (s4.2:Int).toNat) (Vector.replicate 32 0)) 0 s4.2 >>= fun x22 =>
    some x22
theorem z13f (cl:ID→Option Bool) (p:ID→Bool) (hp:∀ x,cl x=some (p x)) (l:List ID) (hl:l.length≤1000):∃ b:Sum Int Unit,iter (zy2 cl l) 0=some b∧((b=.inr ()∧∀ x∈l,p x=false)∨∃ i:Nat,b=.inl (i:Int)∧(∃ h:i<l.length,p l[i]=true)∧∀ k (h:k<l.length),k<i→p l[k]=false):=by
  refine za9 (F:=zy2 cl l) (fun s=>∃ i:Nat,s=(i:Int)∧i≤l.length∧∀ k (h:k<l.length),k<i→p l[k]=false) (fun s=>l.length - s.toNat) _ ?_ 0 ⟨0,rfl,Nat.zero_le _, fun k _ h=>by omega⟩
  rintro s ⟨i,rfl,h1,h2⟩
  by_cases hi:i<l.length
  · have hF : zy2 cl l (i : Int) = if p l[i] then some (.inl (.inl (i : Int))) else some (.inr ((i + 1 : Nat) : Int)) := by
      unfold zy2
      rw [if_pos (by simpa using hi),z0d hi,z0i (by omega)]
      simp only [bS]
      rw [hp]
      simp only [bS]
    cases hc:p l[i] with
    | true=>rw [hc] at hF; exact .inl ⟨_,hF,.inr ⟨i,rfl,⟨hi,hc⟩,h2⟩⟩
    | false =>
      rw [hc] at hF
      refine .inr ⟨_,hF,⟨i+1,rfl,hi, fun k hk hki=>?_⟩, by simp; omega⟩
      by_cases hk':k=i
      · subst hk'; exact hc
      · exact h2 k hk (by omega)
  · refine .inl ⟨.inr (),?_,.inl ⟨rfl, fun x hx=>?_⟩⟩
    · unfold zy2
      rw [if_neg (by simpa using hi)]
    · obtain ⟨k,hk,rfl⟩:=List.getElem_of_mem hx
      exact h2 k hk (by omega)
theorem zrc (cl:ID→Option Bool) (p:ID→Bool) (hp:∀ x,cl x=some (p x)) (l:List ID) (hl:l.length≤1000):z1a2 cl l=some (l.filter fun x=>!p x):=by
  obtain ⟨b,b1,b2⟩:=z13f cl p hp l hl
  unfold z1a2
  rw [b1]
  rcases b2 with ⟨rfl,b3⟩ | ⟨i,rfl,⟨b3,b5⟩,b4⟩
  · simp only [zue,bS]
    rw [if_pos (by rfl),List.filter_eq_self.2 (fun x hx=>by rw [b3 x hx]; first | done | rfl)]
  · simp only [zzo,bS]
    rw [if_neg (by simp <;> omega),z0i (by omega)]
    have h0:(l.take (i+1)).filter (fun x=>!p x)=l.take i:=by
      rw [zjd b3,List.filter_append,List.filter_cons_of_neg (by rw [b5]; simp),List.filter_nil,List.append_nil]
      refine List.filter_eq_self.2 fun x hx=>?_
      obtain ⟨k,hk,rfl⟩:=List.getElem_of_mem hx
      rw [List.length_take] at hk
      rw [List.getElem_take,b4 k (by omega) (by omega)]; rfl
    have main:=z7d (F:=z122 cl) l.length
      (fun j st=>st.1.length=l.length∧st.2.2=(j:Int)∧∃ i:Nat,st.2.1=(i:Int)∧i<j∧(∀ q,j≤q→st.1[q]? = l[q]?)∧st.1.take i=(l.take j).filter fun x=>!p x)
      (fun b=>b.1.length=l.length∧∃ i:Nat,b.2=(i:Int)∧i≤l.length∧b.1.take i=l.filter fun x=>!p x)
      (fun j st hj hst=>by
        obtain ⟨c,i',j'⟩:=st
        obtain ⟨e1,e2,i,e3,e4,e5,e6⟩:=hst
        simp only at e1 e2 e3 e5 e6
        subst e2 e3
        have g1:c[j]'(by omega)=l[j]:=by
          have:=e5 j (Nat.le_refl _)
          rw [List.getElem?_eq_getElem (by omega),List.getElem?_eq_getElem (by omega)] at this
          exact Option.some.inj this
        have hF:z122 cl (c,(i:Int),(j:Int))=if !p l[j] then some (.inr (c.set i l[j],((i+1:Nat):Int),((j+1:Nat):Int))) else some (.inr (c,(i:Int),((j+1:Nat):Int))):=by
          unfold z122
          rw [if_pos (by simp; omega)]
          simp only []
          rw [z0d (by omega),g1]
          simp only [bS]
          rw [hp]
          simp only [bS]
          rw [z0d (by omega),z0i (by omega),z0i (by omega)]
          simp only [bS,Int.toNat_natCast]
        cases hc:p l[j] with
        | true =>
          rw [hc,if_neg (by simp)] at hF
          refine ⟨_,hF,e1,rfl,i,rfl, by omega, fun q hq=>e5 q (by omega),?_⟩
          rw [zjd hj,List.filter_append,List.filter_cons_of_neg (by rw [hc]; simp),List.filter_nil,List.append_nil]
          exact e6
        | false =>
          rw [hc,if_pos (by simp)] at hF
          refine ⟨_,hF, by simpa using e1,rfl,i+1,rfl, by omega, fun q hq=>?_,?_⟩
          · show (c.set i _)[q]? = _
            rw [List.getElem?_set_ne (by omega)]; exact e5 q (by omega)
          · show (c.set i l[j]).take (i+1)=_
            rw [zjd (by rw [List.length_set]; omega),List.take_set_of_le (Nat.le_refl _),List.getElem_set_self,e6,zjd hj,List.filter_append,List.filter_cons_of_pos (by rw [hc]; simp),List.filter_nil])
      (fun st hst=>by
        obtain ⟨c,i',j'⟩:=st
        obtain ⟨e1,e2,i,e3,e4,e5,e6⟩:=hst
        simp only at e1 e2 e3 e5 e6
        subst e2 e3
        refine ⟨(c,(i:Int)),?_,e1,i,rfl, by omega,?_⟩
        · unfold z122
          rw [if_neg (by simp; omega)]
        · rw [List.take_length] at e6; exact e6)
      (l,(i:Int),((i+1:Nat):Int)) (i+1) b3 ⟨rfl,rfl,i,rfl, by omega, fun _ _=>rfl,h0.symm⟩
    obtain ⟨⟨c,k'⟩,m1,m2,k,m3,m4,m5⟩:=main
    simp only at m2 m3 m5
    subst m3
    rw [m1]
    simp only [bS]
    rw [z3r (by omega),z3r (by simp; omega)]
    simp only [bS,Int.toNat_natCast]
    rw [show (0:Int)=((0:Nat):Int) from rfl,zdc (by omega) (by rw [zvz _ _ _ _ (by omega)]; omega)]
    simp only [bS,List.drop_zero,Nat.sub_zero]
    have:(clr c k (c.length - k) (Vector.replicate 32 0)).take k=c.take k:=by
      unfold clr
      first
              | rw [List.append_assoc,List.take_append_of_le_length (by rw [List.length_take]; omega),List.take_take,Nat.min_self]
              | rw [List.take_append_of_le_length (by rw [List.length_take]; omega),List.take_take,Nat.min_self]
    rw [this,m5]
theorem z18x (m:List (ID × Int)) (p:ID→Bool) (hp:∀ x,(zkj m x).isSome=p x) (l:List ID) (hl:l.length≤1000):z1m l m=some (l.filter fun x=>!p x):=by
  have:=zrc (fun x=>z85 x m) p (fun x=>by unfold z85; simp only [bS]; rw [hp]) l hl
  exact this
theorem zvs (E:z9m g):∃ m,z4r g=some m∧∀ x,(zkj m x).isSome=decide (x∈g.IDs):=by
  have hlen:=E.len
  have hids:=E.ids
  have main:=z7d (F:=z4m g) g.IDs.length
    (fun i s=>s.2=(i:Int)∧∀ x,(zkj s.1 x).isSome=decide (x∈g.IDs.take i))
    (fun m=>∀ x,(zkj m x).isSome=decide (x∈g.IDs))
    (fun i s hi hs=>by
      obtain ⟨m,i'⟩:=s
      obtain ⟨h1,h2⟩:=hs
      simp only at h1 h2
      subst h1
      refine ⟨(zvq m g.IDs[i] (i:Int),((i+1:Nat):Int)),?_,rfl, fun x=>?_⟩
      · unfold z4m
        rw [if_pos (by simpa using hi)]
        simp only []
        rw [z0d hi,z0i (by omega)]
        simp only [bS]
      · simp only []
        rw [zpn,zjd hi]
        by_cases he:x=g.IDs[i]
        · rw [if_pos he,decide_eq_true (List.mem_append.2 (.inr (List.mem_singleton.2 he)))]; rfl
        · rw [if_neg he,h2,decide_eq_decide,List.mem_append]
          exact ⟨.inl, fun h=>h.resolve_right fun h=>he (List.mem_singleton.1 h)⟩)
    (fun s hs=>by
      obtain ⟨m,i'⟩:=s
      obtain ⟨h1,h2⟩:=hs
      simp only at h1 h2
      subst h1
      rw [List.take_length] at h2
      refine ⟨m,?_,h2⟩
      unfold z4m
      rw [if_neg (by simp)])
    (([]:List (ID × Int)),0) 0 (Nat.zero_le _) ⟨rfl, fun x=>by simp [zkj]⟩
  obtain ⟨m,h1,h2⟩:=main
  refine ⟨m,?_,h2⟩
  unfold z4r
  rw [h1]
  simp only [bS]
end
section
open Go
variable {g:z00}
theorem zu6 (G:z4j g):∃ Q,z4v g=some (il Q)∧zg8 (z1c g) g.Ops.length Q∧Q.length=g.Ops.length:=by
 have E:=G.e
 have hP:=z12x E G.ins
 have hlen:=E.len
 have main:=za9 (F:=z4b g)
  (fun s=>∃ Q b,s=zja g Q b∧zg8 (z1c g) g.Ops.length Q∧(b=false→∀ i,i<g.Ops.length→(∀ p∈z1c g i,p∈Q)→i∈Q))
  (fun s=>(g.Ops.length - s.1.length)+(if s.2.2.2 then 1 else 0))
  (fun r=>∃ Q:List Nat,r=il Q∧zg8 (z1c g) g.Ops.length Q∧Q.length=g.Ops.length)
  (fun s hs=>by
   obtain ⟨Q,b,rfl,h1,h3⟩:=hs
   obtain ⟨hg,ht⟩:=h1.got
   have hql:=hg.len
   cases b with
   | false =>
    left
    refine ⟨il Q,rfl,Q,rfl,h1,?_⟩
    have:¬ Q.length<g.Ops.length:=(znt hg.nodup hg.lt).2 fun i hi=>by
     have hw:=G.wf i hi
     revert hi
     induction hw with
     | mk i hpi ih=>exact fun hi=>h3 rfl i hi fun p hp=>ih p hp (hP.lt i p hp)
    omega
   | true =>
    right
    obtain ⟨r,e1,e2⟩:=z159 E G.ins Q hg ht
    rcases e2 with ⟨i,rfl,e3,e4,e5,e6,e7,e8⟩ | ⟨rfl,e3⟩
    ·
     refine ⟨_,?_,⟨Q++[i],true,rfl,.snoc h1 ⟨e5,zhg.2 ⟨e6,e7⟩, fun j hj=>?_⟩, by simp⟩,?_⟩
     ·
      unfold z4b
      exact (if_pos rfl).trans e1
     ·
      cases hc:zhj (z1c g) Q j with
      | false=>rfl
      | true =>
       obtain ⟨c1,c2⟩:=zhg.1 hc
       exact absurd (e8 j hj c2) c1
     ·
      have:=e3.len
      simp only [zja,zfv,List.length_append,List.length_cons,List.length_nil] at this ⊢
      omega
    ·
     refine ⟨_,?_,⟨Q,false,rfl,h1, fun _=>e3⟩,?_⟩
     ·
      unfold z4b
      exact (if_pos rfl).trans e1
     ·
      simp [zja])
  ([],[],List.replicate g.Ops.length false,true) ⟨[],true, by unfold zja; rw [zf3]; simp [il],.nil, by simp⟩
 obtain ⟨r,e1,Q,rfl,e2,e3⟩:=main
 refine ⟨Q,?_,e2,e3⟩
 unfold z4v
 rw [zjx (by omega) (by omega)]
 simp only [bS]
 rw [e1]
 simp only [bS]
theorem z116 (E:z9m g) {Q:List Nat} (hQ:∀ x∈Q,x<g.Ops.length) (hl:Q.length≤100) (h:z4v g=some (il Q)):zdl g=some (Q.map (ze1 g)):=by
 have hlen:=E.len
 have hids:=E.ids
 have main:=z23 (F:=z8o g (il Q)) (b:=Q.map (ze1 g)) Q.length (fun k=>((Q.take k).map (ze1 g),(k:Int))) (fun k hk=>?_) ?_
 ·
  unfold zdl
  rw [h]
  simp only [bS]
  rw [List.take_zero,List.map_nil, show ((0:Nat):Int)=0 from rfl] at main
  rw [main]
  simp only [bS]
 ·
  have hx:=hQ _ (List.getElem_mem hk)
  have hxi:Q[k]<g.IDs.length:=by omega
  unfold z8o
  rw [if_pos (by rw [zfv]; simpa using hk)]
  simp only []
  rw [z101 hk]
  simp only [bS]
  rw [z0d hxi]
  simp only [bS]
  rw [z1g (by rw [List.length_map,List.length_take]; simp only [List.length_cons,List.length_nil]; omega),z0i (by omega),zjd hk,List.map_append,← z6d hxi]
  simp only [bS]
  rfl
 ·
  unfold z8o
  rw [if_neg (by rw [zfv]; simp),List.take_length]
theorem zy9 {c:Int} (h1:z11 g=some c) (h2:z0b g=some c) (h3:c=0↔z4j g):∃ r,za2 g=some r∧zc7 g=some r∧r.1.length≤60:=by
 by_cases hc:c=0
 ·
  subst hc
  have G:=h3.1 rfl
  have hlen:=G.e.len
  obtain ⟨Q,q1,q2,q3⟩:=zrp G h1
  obtain ⟨R,r1,r2,r3⟩:=zu6 G
  have:Q=R:=q2.unique R r2 (by omega)
  subst this
  refine ⟨_,q1,?_, by rw [List.length_map]; omega⟩
  unfold zc7
  rw [h2]
  simp only [bS]
  rw [if_neg (by simp),z116 G.e q2.got.1.lt (by omega) r1]
  simp only [bS]
 ·
  have hcb:(c != 0)=true:=by simpa using hc
  refine ⟨([],c),?_,?_, by simp⟩
  ·
   unfold za2
   rw [h1]
   simp only [bS]
   rw [hcb]; rfl
  ·
   unfold zc7
   rw [h2]
   simp only [bS]
   rw [hcb]; rfl
def zwj (g:z00) (m:Nat→Bool):Nat→List ID
 | 0=>[]
 | i+1=>if m i then zwj g m i++[ze1 g i] else zwj g m i
def zz7 (g:z00) (m:Nat→Bool):Nat→List z07
 | 0=>[]
 | i+1=>if m i then zz7 g m i++g.Ops[i]?.toList else zz7 g m i
theorem z15j {g:z00} {m:Nat→Bool} {i:Nat} (h:m i=true):zwj g m (i+1)=zwj g m i++[ze1 g i]:=if_pos h
theorem z1a5 {g:z00} {m:Nat→Bool} {i:Nat} (h:m i=true):zz7 g m (i+1)=zz7 g m i++g.Ops[i]?.toList:=if_pos h
theorem z155 {g:z00} {m:Nat→Bool} {i:Nat} (h:m i=false):zwj g m (i+1)=zwj g m i:=if_neg (by rw [h]; simp)
theorem z18r {g:z00} {m:Nat→Bool} {i:Nat} (h:m i=false):zz7 g m (i+1)=zz7 g m i:=if_neg (by rw [h]; simp)
def subG (g:z00) (m:Nat→Bool):z00:=⟨zwj g m g.Ops.length,zz7 g m g.Ops.length⟩
theorem zxb (g:z00) (m:Nat→Bool):∀ i,(zwj g m i).length≤i
 | 0=>Nat.le_refl _
 | i+1=>by
  have:=zxb g m i
  unfold zwj
  split
  ·
   rw [List.length_append,List.length_singleton]; omega
  ·
   omega
theorem zwx (g:z00) (m:Nat→Bool):∀ i,(zz7 g m i).length≤i
 | 0=>Nat.le_refl _
 | i+1=>by
  have:=zwx g m i
  unfold zz7
  split
  ·
   rw [List.length_append]
   have:g.Ops[i]?.toList.length≤1:=by cases g.Ops[i]? <;> simp
   omega
  ·
   omega
theorem z145 (E:z9m g) (m:Nat→Bool):iter (z96 g (tab g.Ops.length m)) ([],[],0)=some (zwj g m g.Ops.length,zz7 g m g.Ops.length):=by
 have hlen:=E.len
 have hids:=E.ids
 have main:=z23 (F:=z96 g (tab g.Ops.length m)) (b:=(zwj g m g.Ops.length,zz7 g m g.Ops.length)) g.Ops.length (fun i=>(zwj g m i,zz7 g m i,(i:Int))) (fun i hi=>?_) ?_
 ·
  exact main
 ·
  have hii:i<g.IDs.length:=by omega
  have l1:=zxb g m i
  have l2:=zwx g m i
  have h4:=(E.op i hi).1
  unfold z96
  rw [if_pos (by rw [zk0]; simpa using hi)]
  simp only []
  rw [zbp hi,z0i (by omega)]
  simp only [bS]
  cases hm:m i with
  | false =>
   rw [if_neg (by simp),z155 hm,z18r hm]
  | true =>
   rw [if_pos rfl,z0d hi]
   simp only [bS]
   rw [zgr _ (by omega),z0d hii]
   simp only [bS]
   rw [z1g (by simp only [List.length_cons,List.length_nil]; omega)]
   simp only [bS]
   rw [z1g (by simp only [List.length_cons,List.length_nil]; omega)]
   simp only [bS]
   rw [z15j hm,z1a5 hm,z6d hii,List.getElem?_eq_getElem hi]
   rfl
 ·
  unfold z96
  rw [if_neg (by rw [zk0]; simp)]
theorem zld {P:Nat→List Nat} {S:List Nat} {i:Nat}:Rch P S i↔i∈S∨∃ s∈S,Rch P (P s) i:=by
 constructor
 ·
  intro h
  induction h with
  | base h=>exact .inl h
  | @step i p _ hp ih =>
   rcases ih with h | ⟨s,hs,h⟩
   ·
    exact .inr ⟨i,h,.base hp⟩
   ·
    exact .inr ⟨s,hs,.step h hp⟩
 ·
  rintro (h | ⟨s,hs,h⟩)
  ·
   exact .base h
  ·
   exact h.thru fun x hx=>.step (.base hs) hx
end
section
open Go
variable {g:z00}
theorem z126 (g:z00) (m:Nat→Bool):∀ i,zwj g m i=((List.range i).filter m).map (ze1 g)
 | 0=>rfl
 | i+1=>by
  have ih:=z126 g m i
  rw [List.range_succ,List.filter_append,List.map_append,← ih]
  cases hm:m i with
  | true=>rw [z15j hm,List.filter_cons_of_pos (by exact hm)]; rfl
  | false=>rw [z155 hm,List.filter_cons_of_neg (by rw [hm]; simp)]; simp
theorem zxs (g:z00) (m:Nat→Bool):zwj g m g.Ops.length=zat g m:=z126 g m _
theorem zt6 (G:z4j g) (h1:z11 g=some 0) (l:List ID) (hl:l.length≤60):∃ r,zc8 g l=some (r,0)∧∀ x,x∈r↔x∈l∧x∉g.IDs:=by
 unfold zc8
 rw [h1]
 simp only [bS]
 rw [if_neg (by simp),if_neg (by simp; omega)]
 obtain ⟨m,m1,m2⟩:=zvs G.e
 obtain ⟨F,f1,f2,f3⟩:∃ F,z1m l m=some F∧F.length≤l.length∧∀ x,x∈F↔x∈l∧x∉g.IDs :=
  ⟨_,z18x m _ m2 l (by omega),List.length_filter_le _ _, fun x=>by rw [List.mem_filter]; simp⟩
 obtain ⟨d,d1,d2,d3⟩:=zjw (zsy F) (by rw [zll]; omega) (zn7 _)
 rw [m1]
 simp only [bS]
 rw [zgr l (by omega)]
 simp only [bS]
 rw [f1]
 simp only [bS]
 unfold zqc
 rw [z3r (by omega)]
 simp only [bS]
 rw [d1]
 simp only [bS]
 exact ⟨d,rfl, fun x=>by rw [d3,zsx,f3]⟩
theorem zyg (G:z4j g) (h1:z11 g=some 0) (l:List ID) (hb:l.length≤60) (hin:∀ x∈l,x∈g.IDs):∃ m,zdt g l=some (subG g m,0)∧∀ i,m i=true↔Rch (z1c g) (l.map fun x=>g.IDs.idxOf x) i:=by
 obtain ⟨r,r1,r2⟩:=zt6 G h1 l hb
 have he:r=[]:=by
  cases r with
  | nil=>rfl
  | cons a b =>
   have:=(r2 a).1 (by simp)
   exact absurd (hin a this.1) this.2
 subst he
 obtain ⟨m,m1,m2⟩:=z13g G.e G.ins l hin (by omega)
 refine ⟨m,?_,m2⟩
 unfold zdt
 rw [r1]
 simp only [bS]
 rw [if_neg (by simp),if_neg (by simp),m1]
 simp only [bS]
 rw [z145 G.e m]
 simp only [bS]
 rfl
end
section
open Go
variable {g:z00}
theorem zaw (l:List ID) (x:ID) (hl:l.length≤1000):z1o l x=some (decide (x∈l)):=by
 have main:=za9 (F:=z3a l x) (fun s=>∃ i:Nat,s=(i:Int)∧i≤l.length∧∀ k (h:k<l.length),k<i→l[k]≠x) (fun s=>l.length - s.toNat)
  (fun b:Sum Int Unit=>(b=.inr ()∧x∉l)∨∃ i:Nat,b=.inl (i:Int)∧x∈l)
  (fun s hs=>by
   obtain ⟨i,rfl,h1,h2⟩:=hs
   by_cases hi:i<l.length
   ·
    have hF:z3a l x (i:Int)=if decide (x=l[i]) then some (.inl (.inl (i:Int))) else some (.inr ((i+1:Nat):Int)):=by
     unfold z3a
     rw [if_pos (by simpa using hi),z0d hi,z0i (by omega)]
     simp only [bS]
    by_cases hc:x=l[i]
    ·
     rw [decide_eq_true hc,if_pos rfl] at hF
     exact .inl ⟨_,hF,.inr ⟨i,rfl,hc ▸ List.getElem_mem hi⟩⟩
    ·
     rw [decide_eq_false hc,if_neg (by simp)] at hF
     refine .inr ⟨_,hF,⟨i+1,rfl,hi, fun k hk hki=>?_⟩, by simp; omega⟩
     by_cases hk':k=i
     ·
      subst hk'; exact fun e=>hc e.symm
     ·
      exact h2 k hk (by omega)
   ·
    refine .inl ⟨.inr (),?_,.inl ⟨rfl, fun hx=>?_⟩⟩
    ·
     unfold z3a
     rw [if_neg (by simpa using hi)]
    ·
     obtain ⟨k,hk,e⟩:=List.getElem_of_mem hx
     exact h2 k hk (by omega) e)
  0 ⟨0,rfl,Nat.zero_le _, fun k _ h=>by omega⟩
 obtain ⟨b,b1,b2⟩:=main
 unfold z1o z7l
 rw [b1]
 rcases b2 with ⟨rfl,h⟩ | ⟨i,rfl,h⟩
 ·
  rw [decide_eq_false h]; rfl
 ·
  rw [decide_eq_true h]
  simp only [zzo,bS]
  rw [decide_eq_true (by simp)]
theorem in27 (l:List ID) (x:ID) (hl:l.length≤100000):z9e l x=some (decide (x∈l)):=by
 have main:=za9 (F:=z9q l x) (fun s=>∃ i:Nat,s=(i:Int)∧i≤l.length∧∀ k (h:k<l.length),k<i→l[k]≠x) (fun s=>l.length - s.toNat)
  (fun b:Sum Bool Unit=>(b=.inr ()∧x∉l)∨(b=.inl true∧x∈l))
  (fun s hs=>by
   obtain ⟨i,rfl,h1,h2⟩:=hs
   by_cases hi:i<l.length
   ·
    have hF:z9q l x (i:Int)=if decide (l[i]=x) then some (.inl (.inl true)) else some (.inr ((i+1:Nat):Int)):=by
     unfold z9q
     rw [if_pos (by simpa using hi),z0d hi,z0i (by omega)]
     simp only [bS]
    by_cases hc:l[i]=x
    ·
     rw [decide_eq_true hc,if_pos rfl] at hF
     exact .inl ⟨_,hF,.inr ⟨rfl,hc ▸ List.getElem_mem hi⟩⟩
    ·
     rw [decide_eq_false hc,if_neg (by simp)] at hF
     refine .inr ⟨_,hF,⟨i+1,rfl,hi, fun k hk hki=>?_⟩, by simp; omega⟩
     by_cases hk':k=i
     ·
      subst hk'; exact hc
     ·
      exact h2 k hk (by omega)
   ·
    refine .inl ⟨.inr (),?_,.inl ⟨rfl, fun hx=>?_⟩⟩
    ·
     unfold z9q
     rw [if_neg (by simpa using hi)]
    ·
     obtain ⟨k,hk,e⟩:=List.getElem_of_mem hx
     exact h2 k hk (by omega) e)
  0 ⟨0,rfl,Nat.zero_le _, fun k _ h=>by omega⟩
 obtain ⟨b,b1,b2⟩:=main
 unfold z9e
 rw [b1]
 rcases b2 with ⟨rfl,h⟩ | ⟨rfl,h⟩
 ·
  rw [decide_eq_false h]; rfl
 ·
  rw [decide_eq_true h]; rfl
theorem z11b:∀ a b:List UInt8,a.length=b.length→Op.bytesLess a b=decide (nk a<nk b)
 | [],[],_=>by simp [Op.bytesLess,nk]
 | [],_::_,h=>by simp at h
 | _::_,[],h=>by simp at h
 | a::x,b::y,h=>by
  have hl:x.length=y.length:=by simpa using h
  have ih:=z11b x y hl
  have lx:=z10y x
  have ly:=z10y y
  unfold Op.bytesLess
  rw [ih]
  simp only [nk,hl] at *
  have e:∀ u v:UInt8,u.toNat<v.toNat→u.toNat * 256 ^ y.length+256 ^ y.length≤v.toNat * 256 ^ y.length:=fun u v huv=>by
   have:=Nat.mul_le_mul_right (256 ^ y.length) (show u.toNat+1≤v.toNat from huv)
   rwa [Nat.add_mul,Nat.one_mul] at this
  by_cases h1:a<b
  ·
   have:=e a b (UInt8.lt_iff_toNat_lt.1 h1)
   rw [decide_eq_true h1,Bool.true_or,decide_eq_true (by omega)]
  ·
   by_cases h2:b<a
   ·
    have:=e b a (UInt8.lt_iff_toNat_lt.1 h2)
    have hne:(a==b)=false:=by
     rw [beq_eq_false_iff_ne]
     exact fun c=>by subst c; exact h1 h2
    rw [decide_eq_false h1,hne,Bool.false_and,Bool.or_false,decide_eq_false (by omega)]
   ·
    have h3:a=b:=UInt8.toNat_inj.1 (by rw [UInt8.lt_iff_toNat_lt] at h1 h2; omega)
    subst h3
    rw [decide_eq_false h1,Bool.false_or,beq_self_eq_true,Bool.true_and,decide_eq_decide]
    omega
theorem z14c (a b:ID):zdp a b=some (decide (kd a<kd b)):=by
 unfold zdp z1a1
 rw [z11b _ _ (by simp)]
 rfl
theorem z174 (s:List ID) (x:ID) (hl:s.length≤100000) (hs:z5u s=true):∃ t,zbw s x=some t∧z5u t=true∧∀ y,y∈t↔y∈s∨y=x:=by
 have main:=za9 (F:=z8r s x) (fun st=>∃ i:Nat,st=(i:Int)∧i≤s.length∧∀ j (h:j<s.length),j<i→kd s[j]<kd x) (fun st=>s.length - st.toNat)
  (fun r=>∃ k:Nat,r=(k:Int)∧k≤s.length∧(∀ i (h:i<s.length),i<k→kd s[i]<kd x)∧(∀ i (h:i<s.length),k≤i→kd x≤kd s[i]))
  (fun st hst=>by
   obtain ⟨i,rfl,h1,h2⟩:=hst
   by_cases hi':i<s.length
   ·
    have hF:z8r s x (i:Int)=if decide (kd s[i]<kd x) then some (.inr ((i+1:Nat):Int)) else some (.inl (i:Int)):=by
     unfold z8r
     rw [if_pos (by simpa using hi'),z0d hi',z0i (by omega)]
     simp only [bS]
     rw [z14c]
     simp only [bS]
    by_cases hc:kd s[i]<kd x
    ·
     rw [decide_eq_true hc,if_pos rfl] at hF
     refine .inr ⟨_,hF,⟨i+1,rfl,hi', fun j hj hji=>?_⟩, by simp; omega⟩
     by_cases hji':j=i
     ·
      subst hji'; exact hc
     ·
      exact h2 j hj (by omega)
    ·
     rw [decide_eq_false hc,if_neg (by simp)] at hF
     refine .inl ⟨_,hF,i,rfl,h1,h2, fun j hj hij=>?_⟩
     by_cases hji':j=i
     ·
      subst hji'; omega
     ·
      have:=zds hs hi' hj (by omega); omega
   ·
    refine .inl ⟨(i:Int),?_,i,rfl,h1,h2, fun j hj hij=>by omega⟩
    unfold z8r
    rw [if_neg (by simpa using hi')])
  0 ⟨0,rfl,Nat.zero_le _, fun j _ h=>by omega⟩
 obtain ⟨r,r1,k,rfl,k2,k3,k4⟩:=main
 have hmem:x∈s↔∃ h:k<s.length,s[k]=x:=by
  constructor
  ·
   intro hm
   obtain ⟨i,hi,e⟩:=List.getElem_of_mem hm
   by_cases hik:i<k
   ·
    have:=k3 i hi hik; rw [e] at this; omega
   ·
    by_cases hik':i=k
    ·
     subst hik'; exact ⟨hi,e⟩
    ·
     have hk:k<s.length:=by omega
     have:=zds hs hk hi (by omega)
     have:=k4 k hk (Nat.le_refl _)
     rw [e] at *; omega
  ·
   rintro ⟨h,e⟩; rw [← e]; exact List.getElem_mem h
 unfold zbw
 rw [r1]
 simp only [bS]
 have fresh:x∉s→(cut s 0 (k:Int) >>= fun x15=>app 32 ([]:List ID) x15 >>= fun x17=>app 32 x17 [x] >>= fun x19=>cut s (k:Int) (s.length:Int) >>= fun x21=>app 32 x19 x21 >>= fun x23=>some x23)=some (s.take k++[x]++s.drop k):=fun _=>by
  rw [show (0:Int)=((0:Nat):Int) from rfl,zdc (by omega) k2,zdc k2 (by omega)]
  simp only [bS,List.drop_zero,Nat.sub_zero]
  rw [List.take_of_length_le (l:=s.drop k) (by simp),z1g (by simp; omega)]
  simp only [bS,List.nil_append]
  rw [z1g (by simp; omega)]
  simp only [bS]
  rw [z1g (by simp; omega)]
  simp only [bS]
 by_cases hm:x∈s
 ·
  obtain ⟨hk,e⟩:=hmem.1 hm
  rw [if_pos (by simpa using hk),z0d hk]
  simp only [bS]
  rw [decide_eq_true e,if_pos rfl]
  exact ⟨s,rfl,hs, fun y=>⟨.inl, fun h=>h.elim id fun h=>h ▸ hm⟩⟩
 ·
  have hor:(if decide ((k:Int)<(s.length:Int))=true then idx s (k:Int) >>= fun x12=>if decide (x12=x)=true then (some (.inl s):Option (Sum (List ID) Unit)) else some (.inr ()) else some (.inr ()))=some (.inr ()):=by
   by_cases hk:k<s.length
   ·
    rw [if_pos (by simpa using hk),z0d hk]
    simp only [bS]
    rw [decide_eq_false fun e=>hm (hmem.2 ⟨hk,e⟩),if_neg (by simp)]
   ·
    rw [if_neg (by simpa using hk)]
  rw [hor]
  simp only [zue]
  rw [fresh hm]
  refine ⟨_,rfl,zo5 hs k2 k3 fun i hi hki=>?_,zsd _ _ _⟩
  have:=k4 i hi hki
  rcases Nat.lt_or_eq_of_le this with h | h
  ·
   exact h
  ·
   exact absurd (zkx h ▸ List.getElem_mem hi) hm
theorem z172 (cap:z00) (p:ID→Bool) (hp:∀ x,zbg x cap=some (p x)) (l:List ID) (hl:l.length≤1000):z1x l cap=some (l.filter fun x=>!p x) :=
 zrc (fun x=>zbg x cap) p hp l hl
theorem z17r (cap:z00) (p:ID→Bool) (hp:∀ x,zb4 x cap=some (p x)) (l:List ID) (hl:l.length≤1000):z1y l cap=some (l.filter fun x=>!p x) :=
 zrc (fun x=>zb4 x cap) p hp l hl
theorem z104 (cap cap2:List ID) (p:ID→Bool) (hp:∀ x,zas x cap cap2=some (p x)) (l:List ID) (hl:l.length≤1000):z2x l cap cap2=some (l.filter fun x=>!p x) :=
 zrc (fun x=>zas x cap cap2) p hp l hl
theorem zxa (F:List ID) (hF:F.length≤100):∃ d,(zqc F >>= fun r6=>z12 r6)=some d∧z5u d=true∧∀ x,x∈d↔x∈F:=by
 obtain ⟨d,d1,d2,d3⟩:=zjw (zsy F) (by rw [zll]; omega) (zn7 _)
 refine ⟨d,?_,d2, fun x=>by rw [d3,zsx]⟩
 unfold zqc
 rw [z3r (by omega)]
 simp only [bS]
 rw [d1]
theorem zql (E:z9m g) (l:List ID) (hl:l.length≤60):∃ d,zdh g l=some d∧z5u d=true∧∀ x,x∈d↔x∈l∧x∉g.IDs:=by
 have hlen:=E.len
 have hids:=E.ids
 obtain ⟨F,f1,f2,f3⟩:∃ F,z1x l g=some F∧F.length≤l.length∧∀ x,x∈F↔x∈l∧x∉g.IDs :=
  ⟨_,z172 g (fun x=>decide (x∈g.IDs)) (fun x=>by unfold zbg; rw [zaw _ _ (by omega)]; rfl) l (by omega),List.length_filter_le _ _, fun x=>by rw [List.mem_filter]; simp⟩
 obtain ⟨d,d1,d2,d3⟩:=zxa F (by omega)
 refine ⟨d,?_,d2, fun x=>by rw [d3,f3]⟩
 unfold zdh
 rw [zgr l (by omega)]
 simp only [bS]
 rw [f1]
 simp only [bS]
 cases hs:zqc F with
 | none=>rw [hs] at d1; cases d1
 | some r6 =>
  rw [hs] at d1
  simp only [bS] at d1 ⊢
  rw [d1]
  simp only [bS]
theorem z10q (E:z9m g) (l:List ID) (hl:l.length≤60):∃ d,iter (z51 g l) ([],0)=some d∧z5u d=true∧∀ x,x∈d↔x∈l∧x∉g.IDs:=by
 have hlen:=E.len
 have hids:=E.ids
 have main:=z7d (F:=z51 g l) l.length
  (fun i st=>st.2=(i:Int)∧z5u st.1=true∧∀ x,x∈st.1↔x∈l.take i∧x∉g.IDs)
  (fun d=>z5u d=true∧∀ x,x∈d↔x∈l∧x∉g.IDs)
  (fun i st hi hst=>by
   obtain ⟨s,i'⟩:=st
   obtain ⟨h1,h2,h3⟩:=hst
   simp only at h1 h2 h3
   subst h1
   have hsl:s.length≤l.length:=z7s _ _ (za1 h2) fun x hx=>List.mem_of_mem_take ((h3 x).1 hx).1
   have hmem:∀ y,y∈l.take (i+1)↔y∈l.take i∨y=l[i]:=fun y=>by
    rw [zjd hi,List.mem_append]
    exact ⟨fun h=>h.imp id fun h=>List.mem_singleton.1 h, fun h=>h.imp id fun h=>List.mem_singleton.2 h⟩
   by_cases hx:l[i]∈g.IDs
   ·
    refine ⟨(s,((i+1:Nat):Int)),?_,rfl,h2, fun x=>?_⟩
    ·
     unfold z51
     rw [if_pos (by simpa using hi)]
     simp only []
     rw [z0d hi]
     simp only [bS]
     rw [in27 _ _ (by omega),decide_eq_true hx,z0i (by omega)]
     rfl
    ·
     simp only []
     rw [h3,hmem]
     exact ⟨fun h=>⟨.inl h.1,h.2⟩, fun h=>⟨h.1.resolve_right fun e=>h.2 (e ▸ hx),h.2⟩⟩
   ·
    obtain ⟨t,t1,t2,t3⟩:=z174 s l[i] (by omega) h2
    refine ⟨(t,((i+1:Nat):Int)),?_,rfl,t2, fun x=>?_⟩
    ·
     unfold z51
     rw [if_pos (by simpa using hi)]
     simp only []
     rw [z0d hi]
     simp only [bS]
     rw [in27 _ _ (by omega),decide_eq_false hx]
     simp only [bS,Bool.not_false,if_true]
     rw [t1,z0i (by omega)]
     simp only [bS]
    ·
     simp only []
     rw [t3,h3,hmem]
     constructor
     ·
      rintro (h | rfl)
      ·
       exact ⟨.inl h.1,h.2⟩
      ·
       exact ⟨.inr rfl,hx⟩
     ·
      rintro ⟨h | h,hn⟩
      ·
       exact .inl ⟨h,hn⟩
      ·
       exact .inr h)
  (fun st hst=>by
   obtain ⟨s,i'⟩:=st
   obtain ⟨h1,h2,h3⟩:=hst
   simp only at h1 h2 h3
   subst h1
   rw [List.take_length] at h3
   refine ⟨s,?_,h2,h3⟩
   unfold z51
   rw [if_neg (by simp)])
  ([],0) 0 (Nat.zero_le _) ⟨rfl,rfl, by simp⟩
 obtain ⟨d,d1,d2,d3⟩:=main
 exact ⟨d,d1,d2,d3⟩
end
section
open Go
variable {g:z00}
def z6b (g:z00) (l:List ID) (y:ID):Prop:=y∈g.IDs∧((y∈l)∨∃ x∈l,x∈g.IDs∧Rch (z1c g) (z1c g (g.IDs.idxOf x)) (g.IDs.idxOf y))
theorem zt7 (G:z4j g) (h1:z11 g=some 0) (l:List ID) (hl:l.length≤60):∃ d,zdf g l=some d∧z5u d=true∧∀ y,y∈d↔z6b g l y:=by
 have E:=G.e
 have hlen:=E.len
 have hids:=E.ids
 obtain ⟨F,f1,f2,f3⟩:∃ F,z1y l g=some F∧F.length≤l.length∧∀ x,x∈F↔x∈l∧x∈g.IDs :=
  ⟨_,z17r g (fun x=>!decide (x∈g.IDs)) (fun x=>by unfold zb4; rw [zaw _ _ (by omega)]; rfl) l (by omega),List.length_filter_le _ _, fun x=>by rw [List.mem_filter]; simp⟩
 obtain ⟨d,d1,d2,d3⟩:=zxa F (by omega)
 have hin:∀ x∈d,x∈g.IDs:=fun x hx=>((f3 x).1 ((d3 x).1 hx)).2
 have hdl:=zs7 (g:=g) d2 hin
 obtain ⟨m,m1,m2⟩:=zyg G h1 d (by omega) hin
 refine ⟨zat g m,?_,zn2 E m, fun y=>?_⟩
 ·
  unfold zdf
  rw [zgr l (by omega)]
  simp only [bS]
  rw [f1]
  simp only [bS]
  cases hs:zqc F with
  | none=>rw [hs] at d1; cases d1
  | some r6 =>
   rw [hs] at d1
   simp only [bS] at d1 ⊢
   rw [d1]
   simp only [bS]
   rw [m1]
   simp only [bS]
   rw [← zxs]; rfl
 ·
  rw [zf4 E,m2,zld]
  unfold z6b
  constructor
  ·
   rintro ⟨hy,h | ⟨q,hq,hr⟩⟩
   ·
    obtain ⟨x,hx,e⟩:=List.mem_map.1 h
    have:x=y:=zi5 hy e
    subst this
    exact ⟨hy,.inl ((f3 _).1 ((d3 _).1 hx)).1⟩
   ·
    obtain ⟨x,hx,e⟩:=List.mem_map.1 hq
    rw [← e] at hr
    exact ⟨hy,.inr ⟨x,((f3 _).1 ((d3 _).1 hx)).1,hin x hx,hr⟩⟩
  ·
   rintro ⟨hy,h | ⟨x,hx,hxi,hr⟩⟩
   ·
    exact ⟨hy,.inl (List.mem_map.2 ⟨y,(d3 _).2 ((f3 _).2 ⟨h,hy⟩),rfl⟩)⟩
   ·
    exact ⟨hy,.inr ⟨_,List.mem_map.2 ⟨x,(d3 _).2 ((f3 _).2 ⟨hx,hxi⟩),rfl⟩,hr⟩⟩
theorem z16r (G:z4j g) (h2:z0b g=some 0) {x:ID} (hx:x∈g.IDs):∃ s,zbo g x=some (s,0)∧z5u s=true∧s.length≤60∧∀ y,y∈s↔y∈g.IDs∧Rch (z1c g) (z1c g (g.IDs.idxOf x)) (g.IDs.idxOf y):=by
 have hlen:=G.e.len
 have hids:=G.e.ids
 obtain ⟨s,b1,b2,b3⟩:=z11y G.e G.ins hx
 have hl:=zs7 (g:=g) b2 fun y hy=>((b3 y).1 hy).1
 refine ⟨s,?_,b2, by omega,b3⟩
 unfold zbo
 have hax:([x].all fun x=>decide (x∈g.IDs))=true:=by simpa using hx
 rw [z13c G h2 _ (by simp),hax]
 simp only [bS]
 rw [if_neg (by simp),b1]
 simp only [bS]
theorem z19r (s0:List ID) (r:List ID) (c:Int) (hr:r.length≤100) (hs:z5u s0=true) (hb:∀ x∈s0,x∈g.IDs) (hb2:∀ x∈r,x∈g.IDs) (hg:g.IDs.length≤1000):∃ t,iter (z6m (r,c)) (s0,0)=some t∧z5u t=true∧∀ y,y∈t↔y∈s0∨y∈r:=by
 have main:=z7d (F:=z6m (r,c)) r.length
  (fun i st=>st.2=(i:Int)∧z5u st.1=true∧∀ y,y∈st.1↔y∈s0∨y∈r.take i)
  (fun t=>z5u t=true∧∀ y,y∈t↔y∈s0∨y∈r)
  (fun i st hi hst=>by
   obtain ⟨s,i'⟩:=st
   obtain ⟨h1,h2,h3⟩:=hst
   simp only at h1 h2 h3
   subst h1
   have hsl:s.length≤g.IDs.length:=z7s _ _ (za1 h2) fun x hx=>((h3 x).1 hx).elim (hb x) fun h=>hb2 x (List.mem_of_mem_take h)
   obtain ⟨t,t1,t2,t3⟩:=z174 s r[i] (by omega) h2
   refine ⟨(t,((i+1:Nat):Int)),?_,rfl,t2, fun y=>?_⟩
   ·
    unfold z6m
    rw [if_pos (by simpa using hi)]
    simp only []
    rw [z0d hi]
    simp only [bS]
    rw [t1,z0i (by omega)]
    simp only [bS]
   ·
    simp only []
    rw [t3,h3,zjd hi,List.mem_append]
    constructor
    ·
     rintro ((h | h) | h)
     ·
      exact .inl h
     ·
      exact .inr (.inl h)
     ·
      exact .inr (.inr (List.mem_singleton.2 h))
    ·
     rintro (h | h | h)
     ·
      exact .inl (.inl h)
     ·
      exact .inl (.inr h)
     ·
      exact .inr (List.mem_singleton.1 h))
  (fun st hst=>by
   obtain ⟨s,i'⟩:=st
   obtain ⟨h1,h2,h3⟩:=hst
   simp only at h1 h2 h3
   subst h1
   rw [List.take_length] at h3
   refine ⟨s,?_,h2,h3⟩
   unfold z6m
   rw [if_neg (by simp)])
  (s0,0) 0 (Nat.zero_le _) ⟨rfl,hs, by simp⟩
 obtain ⟨t,t1,t2,t3⟩:=main
 exact ⟨t,t1,t2,t3⟩
theorem zva (G:z4j g) (h2:z0b g=some 0) (l:List ID) (hl:l.length≤60):∃ d,z9o g l=some d∧z5u d=true∧∀ y,y∈d↔z6b g l y:=by
 have E:=G.e
 have hlen:=E.len
 have hids:=E.ids
 have main:=z7d (F:=z6w g l) l.length
  (fun i st=>st.2=(i:Int)∧z5u st.1=true∧∀ y,y∈st.1↔z6b g (l.take i) y)
  (fun d=>z5u d=true∧∀ y,y∈d↔z6b g l y)
  (fun i st hi hst=>by
   obtain ⟨s,i'⟩:=st
   obtain ⟨h1,h2',h3⟩:=hst
   simp only at h1 h2' h3
   subst h1
   have hin:∀ x∈s,x∈g.IDs:=fun x hx=>((h3 x).1 hx).1
   have hsl:s.length≤g.IDs.length:=z7s _ _ (za1 h2') hin
   have hmem:∀ y,y∈l.take (i+1)↔y∈l.take i∨y=l[i]:=fun y=>by
    rw [zjd hi,List.mem_append]
    exact ⟨fun h=>h.imp id fun h=>List.mem_singleton.1 h, fun h=>h.imp id fun h=>List.mem_singleton.2 h⟩
   by_cases hx:l[i]∈g.IDs
   ·
    obtain ⟨t,t1,t2,t3⟩:=z174 s l[i] (by omega) h2'
    obtain ⟨a,a1,a2,a3,a4⟩:=z16r G h2 hx
    obtain ⟨u,u1,u2,u3⟩:=z19r (g:=g) t a 0 (by omega) t2 (fun x hx'=>((t3 x).1 hx').elim (hin x) fun e=>e ▸ hx) (fun x hx'=>((a4 x).1 hx').1) (by omega)
    refine ⟨(u,((i+1:Nat):Int)),?_,rfl,u2, fun y=>?_⟩
    ·
     unfold z6w
     rw [if_pos (by simpa using hi)]
     simp only []
     rw [z0d hi]
     simp only [bS]
     rw [in27 _ _ (by omega),decide_eq_true hx]
     simp only [bS,Bool.not_true,Bool.false_eq_true,if_false]
     rw [t1]
     simp only [bS]
     rw [a1]
     simp only [bS]
     rw [u1,z0i (by omega)]
     simp only [bS]
    ·
     simp only []
     rw [u3,t3,a4,h3]
     unfold z6b
     constructor
     ·
      rintro ((⟨hy,h⟩ | rfl) | ⟨hy,h⟩)
      ·
       refine ⟨hy,h.elim (fun h=>.inl ((hmem y).2 (.inl h))) fun ⟨x,h,k⟩=>.inr ⟨x,(hmem x).2 (.inl h),k⟩⟩
      ·
       exact ⟨hx,.inl ((hmem _).2 (.inr rfl))⟩
      ·
       exact ⟨hy,.inr ⟨l[i],(hmem _).2 (.inr rfl),hx,h⟩⟩
     ·
      rintro ⟨hy,h | ⟨x,h,k1,k2⟩⟩
      ·
       rcases (hmem y).1 h with h | h
       ·
        exact .inl (.inl ⟨hy,.inl h⟩)
       ·
        exact .inl (.inr h)
      ·
       rcases (hmem x).1 h with h | h
       ·
        exact .inl (.inl ⟨hy,.inr ⟨x,h,k1,k2⟩⟩)
       ·
        subst h; exact .inr ⟨hy,k2⟩
   ·
    refine ⟨(s,((i+1:Nat):Int)),?_,rfl,h2', fun y=>?_⟩
    ·
     unfold z6w
     rw [if_pos (by simpa using hi)]
     simp only []
     rw [z0d hi]
     simp only [bS]
     rw [in27 _ _ (by omega),decide_eq_false hx,z0i (by omega)]
     rfl
    ·
     simp only []
     rw [h3]
     unfold z6b
     constructor
     ·
      rintro ⟨hy,h⟩
      exact ⟨hy,h.elim (fun h=>.inl ((hmem y).2 (.inl h))) fun ⟨x,h,k⟩=>.inr ⟨x,(hmem x).2 (.inl h),k⟩⟩
     ·
      rintro ⟨hy,h | ⟨x,h,k1,k2⟩⟩
      ·
       rcases (hmem y).1 h with h | h
       ·
        exact ⟨hy,.inl h⟩
       ·
        exact absurd (h ▸ hy) hx
      ·
       rcases (hmem x).1 h with h | h
       ·
        exact ⟨hy,.inr ⟨x,h,k1,k2⟩⟩
       ·
        exact absurd (h ▸ k1) hx)
  (fun st hst=>by
   obtain ⟨s,i'⟩:=st
   obtain ⟨h1,h2',h3⟩:=hst
   simp only at h1 h2' h3
   subst h1
   rw [List.take_length] at h3
   refine ⟨s,?_,h2',h3⟩
   unfold z6w
   rw [if_neg (by simp)])
  ([],0) 0 (Nat.zero_le _) ⟨rfl,rfl, fun y=>by simp [z6b]⟩
 obtain ⟨d,d1,d2,d3⟩:=main
 refine ⟨d,?_,d2,d3⟩
 unfold z9o
 rw [d1]
 simp only [bS]
theorem zj7 (G:z4j g) (h1:z11 g=some 0) (h2:z0b g=some 0) (l:List ID) (hl:l.length≤60):∃ d,zdf g l=some d∧z9o g l=some d∧z5u d=true∧d.length≤60∧∀ y,y∈d↔z6b g l y:=by
 obtain ⟨d,d1,d2,d3⟩:=zt7 G h1 l hl
 obtain ⟨e,e1,e2,e3⟩:=zva G h2 l hl
 have:d=e:=zco _ _ ((z8e _).1 d2) ((z8e _).1 e2) fun y=>by rw [d3,e3]
 subst this
 have:=zs7 (g:=g) d2 fun y hy=>((d3 y).1 hy).1
 have:=G.e.len
 have:=G.e.ids
 exact ⟨d,d1,e1,d2, by omega,d3⟩
theorem zzf (G:z4j g) (h1:z11 g=some 0) (h2:z0b g=some 0) (h3:(0:Int)=0↔z4j g) (a b:List ID) (ha:a.length≤60) (hb:b.length≤60):∃ d,zdd g a b=some d∧zf5 g a b=some d∧d.length≤60∧∀ x∈d,x∈g.IDs:=by
 obtain ⟨p,p1,p2,_,p3,p4⟩:=zj7 G h1 h2 a ha
 obtain ⟨q,q1,q2,_,q3,q4⟩:=zj7 G h1 h2 b hb
 obtain ⟨r,r1,r2,r3⟩:=zy9 h1 h2 h3
 have hfl:(r.1.filter fun x=>!(!decide (x∈p) || decide (x∈q))).length≤r.1.length:=List.length_filter_le _ _
 refine ⟨r.1.filter fun x=>!(!decide (x∈p) || decide (x∈q)),?_,?_, by omega, fun x hx=>?_⟩
 ·
  unfold zdd
  rw [p1,q1]
  simp only [bS]
  rw [r1]
  simp only [bS]
  rw [z104 p q (fun x=>!decide (x∈p) || decide (x∈q)) (fun x=>by
   unfold zas
   rw [zaw _ _ (by omega),zaw _ _ (by omega)]
   simp only [bS]
   cases decide (x∈p) <;> rfl) r.1 (by omega)]
  simp only [bS]
 ·
  have main:=z7d (F:=za7 p q r) r.1.length
   (fun i st=>st.2=(i:Int)∧st.1=(r.1.take i).filter fun x=>!(!decide (x∈p) || decide (x∈q)))
   (fun d=>d=r.1.filter fun x=>!(!decide (x∈p) || decide (x∈q)))
   (fun i st hi hst=>by
    obtain ⟨s,i'⟩:=st
    obtain ⟨g1,g2⟩:=hst
    simp only at g1 g2
    subst g1
    have hsl:s.length≤i:=by
     rw [g2]
     have:=List.length_filter_le (fun x=>!(!decide (x∈p) || decide (x∈q))) (r.1.take i)
     rw [List.length_take] at this
     exact Nat.le_trans this (Nat.min_le_left _ _)
    refine ⟨((r.1.take (i+1)).filter (fun x=>!(!decide (x∈p) || decide (x∈q))),((i+1:Nat):Int)),?_,rfl,rfl⟩
    unfold za7
    rw [if_pos (by simpa using hi)]
    simp only []
    rw [z0d hi]
    simp only [bS]
    rw [in27 _ _ (by omega),in27 _ _ (by omega),z0i (by omega),zjd hi,List.filter_append,← g2]
    simp only [bS]
    cases c1:decide (r.1[i]∈p) with
    | false =>
     simp only [Bool.false_eq_true,if_false,bS]
     rw [List.filter_cons_of_neg (by rw [c1]; simp)]
     simp
    | true =>
     simp only [if_true,bS]
     cases c2:decide (r.1[i]∈q) with
     | true =>
      rw [List.filter_cons_of_neg (by rw [c1,c2]; simp)]
      simp
     | false =>
      rw [List.filter_cons_of_pos (by rw [c1,c2]; simp),z1g (by simp only [List.length_cons,List.length_nil]; omega)]
      simp)
   (fun st hst=>by
    obtain ⟨s,i'⟩:=st
    obtain ⟨g1,g2⟩:=hst
    simp only at g1 g2
    subst g1 g2
    refine ⟨_,?_,rfl⟩
    unfold za7
    rw [if_neg (by simp),List.take_length])
   ([],0) 0 (Nat.zero_le _) ⟨rfl, by simp⟩
  obtain ⟨d,d1,rfl⟩:=main
  unfold zf5
  rw [p2,q2]
  simp only [bS]
  rw [r2]
  simp only [bS]
  rw [d1]
  simp only [bS]
 ·
  rw [List.mem_filter] at hx
  have h4:x∈p:=by
   have:=hx.2
   simp at this
   exact this.1
  exact ((p4 x).1 h4).1
end
section
open Go
variable {g:z00}
def bts (g:z00) (x:ID):List UInt8:=match g.Ops[g.IDs.idxOf x]? with | some o=>zfm o | none=>[]
theorem z157 (G:z4j g) (hw:z0v g) {i:Nat} (hi:i<g.Ops.length):z57 g.Ops[i]=0∧inI g.Ops[i].Act.Value.Num∧g.Ops[i].Act.Value.Text.length≤9223372036854775807:=by
 obtain ⟨w1,w2⟩:=z189 hw (List.getElem_mem hi)
 exact ⟨z8y (G.ops i hi).1,w1,w2⟩
theorem z109 (G:z4j g) {x:ID} (hx:x∈g.IDs):bts g x=zfm (g.Ops[g.IDs.idxOf x]'(zft G hx)):=by
 unfold bts
 rw [List.getElem?_eq_getElem (zft G hx)]
theorem zpa (G:z4j g) (hw:z0v g) {x:ID} (hx:x∈g.IDs):(bts g x).length≤400:=by
 rw [z109 G hx]
 obtain ⟨h1,h2,_⟩:=z157 G hw (zft G hx)
 exact zv4 h1 h2
theorem zqp (G:z4j g) (hw:z0v g) (h1:z11 g=some 0) {x:ID} (hx:x∈g.IDs):∃ r,zk8 g x=some r∧ze2 r.1=some (bts g x,0):=by
 have hlen:=G.e.len
 have hids:=G.e.ids
 obtain ⟨k,k1,k2,k3⟩:=zdr g (by omega) G.e.ri x
 obtain ⟨rfl,hk⟩:=k2 hx
 have hi:=zft G hx
 have h4:=(G.e.op _ hi).1
 refine ⟨(g.Ops[g.IDs.idxOf x],0),?_,?_⟩
 ·
  unfold zk8
  rw [h1]
  simp only [bS]
  rw [if_neg (by simp),k1,decide_eq_true hx]
  simp only [bS]
  rw [if_neg (by simp),z0d hi]
  simp only [bS]
  unfold zer
  rw [zgr _ (by omega)]
  rfl
 ·
  obtain ⟨c1,c2,c3⟩:=z157 G hw hi
  rw [z109 G hx]
  exact ztb _ c1 c2 c3
def fr (ops:List (List UInt8)):z2f:=⟨5,0,[],ops⟩
def zjo (ops:List (List UInt8)):List UInt8:=ops.flatMap fun o=>z1r o.length++o
def zpb (ops:List (List UInt8)):List UInt8:=([5]++z1r ops.length)++zjo ops
def okF (ops:List (List UInt8)):Bool:=decide (ops.length≤8)&&decide ((zpb ops).length≤2000)
theorem zmc:∀ (l:List (List UInt8)),(∀ o∈l,o.length≤400)→(zjo l).length≤409 * l.length
 | [],_=>by simp [zjo]
 | o::l,h=>by
  have ih:=zmc l fun q hq=>h q (by simp [hq])
  have ho:=h o (by simp)
  have:=z15 o.length (by omega)
  unfold zjo at *
  rw [List.flatMap_cons]
  simp only [List.length_append,List.length_cons]; omega
theorem zvr (l:List (List UInt8)) (o:List UInt8):zjo (l++[o])=zjo l++(z1r o.length++o):=by
 unfold zjo; rw [List.flatMap_append]; simp
theorem zyz (ops:List (List UInt8)) (h9:ops.length≤9) (hall:∀ o∈ops,o.length≤400):zh7 (fr ops)=some (if okF ops then 0 else 8):=by
 have hn:=z15 ops.length (by omega)
 have hb:=zmc ops hall
 have hL:ops.length≤8→iter (z89 (fr ops)) ([5]++z1r ops.length,true,0)=some (zpb ops,true):=fun h8=>by
  have main:=z23 (F:=z89 (fr ops)) (b:=(zpb ops,true)) ops.length (fun i=>(([5]++z1r ops.length)++zjo (ops.take i),true,(i:Int))) (fun i hi=>?_) ?_
  ·
   simpa [zjo] using main
  ·
   have ho:ops[i].length≤400:=hall _ (List.getElem_mem hi)
   have ht:=zmc (ops.take i) fun o ho=>hall o (List.mem_of_mem_take ho)
   rw [List.length_take] at ht
   have hno:=z15 ops[i].length (by omega)
   unfold z89
   rw [if_pos rfl,if_pos (by show decide ((i:Int)<((ops.length:Nat):Int))=true; simpa using hi)]
   show (idx ops (i:Int) >>= _)=_
   rw [z0d hi]
   simp only [bS]
   rw [zp6 _ (by omega)]
   simp only [bS]
   rw [z1g (by simp only [List.length_append,List.length_cons,List.length_nil]; omega)]
   simp only [bS]
   show (idx ops (i:Int) >>= _)=_
   rw [z0d hi]
   simp only [bS]
   rw [decide_eq_true (by omega),z0i (by omega),zjd hi,zvr]
   simp only [List.append_assoc]
  ·
   unfold z89
   rw [if_pos rfl,if_neg (by show ¬ decide (((ops.length:Nat):Int)<((ops.length:Nat):Int))=true; simp),List.take_length]
   rfl
 have hw:zh6 (fr ops)=some (if ops.length≤8 then (zpb ops,decide (((zpb ops).length:Int)≤2000)) else ([5]++z1r ops.length,false)):=by
  unfold zh6
  have e1:zic (fr ops).Kind=some false:=rfl
  rw [e1]
  simp only [bS,Bool.false_eq_true,if_false]
  rw [if_pos (by rfl),if_pos (by rfl),if_pos (by rfl)]
  simp only [bS]
  show ((z54 (UInt64.ofInt (ops.length:Int)) >>= fun r24=>app 1 [(5:UInt8)] r24 >>= fun x26=>iter (z89 (fr ops)) (x26,decide ((ops.length:Int)≤8),0)) >>= _)=_
  rw [z7r,zlv (by omega)]
  simp only [bS]
  rw [z1g (by simp only [List.length_cons,List.length_nil]; omega)]
  simp only [bS]
  by_cases h8:ops.length≤8
  ·
   rw [decide_eq_true (by omega),hL h8,if_pos h8]
   simp only [bS]
   rw [if_pos trivial]
  ·
   rw [decide_eq_false (by omega),if_neg h8,z1p (b:=([5]++z1r ops.length,false)) (by unfold z89; rw [if_neg (by simp)])]
   simp only [bS]
   rw [if_neg (by simp)]
 unfold zh7
 rw [hw]
 simp only [bS]
 unfold okF
 by_cases h8:ops.length≤8
 ·
  rw [if_pos h8,decide_eq_true h8,Bool.true_and]
  by_cases h2:(zpb ops).length≤2000
  ·
   rw [decide_eq_true h2]
   simp only []
   rw [decide_eq_true (by omega)]; rfl
  ·
   rw [decide_eq_false h2]
   simp only []
   rw [decide_eq_false (by omega)]; rfl
 ·
  rw [if_neg h8,decide_eq_false h8]; rfl
def zew (bs:List (List UInt8)):Nat→Option (List (List (List UInt8)) × List (List UInt8))
 | 0=>none
 | i+1=>match bs[i]? with
  | none=>zew bs i
  | some b=>match zew bs i with
   | none=>some ([],[b])
   | some (a,l)=>if okF (l++[b]) then some (a,l++[b]) else some (a++[l],[b])
theorem zm3 (bs:List (List UInt8)) (hb:∀ b∈bs,b.length≤400):∀ i,i≤bs.length→(zew bs i=none∧i=0)∨∃ a l,zew bs i=some (a,l)∧a.length+1≤i∧l≠[]∧l.length≤8∧∀ o∈l,o.length≤400
 | 0,_=>.inl ⟨rfl,rfl⟩
 | i+1,hi=>by
  have hlt:i<bs.length:=by omega
  have hbi:bs[i].length≤400:=hb _ (List.getElem_mem hlt)
  right
  unfold zew
  rw [List.getElem?_eq_getElem hlt]
  rcases zm3 bs hb i (by omega) with ⟨h,h0⟩ | ⟨a,l,h,h1,h2,h3,h4⟩
  ·
   simp only [h]
   exact ⟨[],[bs[i]],rfl, by simp, by simp, by simp, fun o ho=>by rw [List.mem_singleton] at ho; rw [ho]; exact hbi⟩
  ·
   simp only [h]
   by_cases hc:okF (l++[bs[i]])=true
   ·
    rw [if_pos hc]
    have h8:(l++[bs[i]]).length≤8:=by unfold okF at hc; simp only [Bool.and_eq_true,decide_eq_true_eq] at hc; exact hc.1
    exact ⟨a,l++[bs[i]],rfl, by omega, by simp,h8, fun o ho=>(List.mem_append.1 ho).elim (h4 o) fun h=>by rw [List.mem_singleton] at h; rw [h]; exact hbi⟩
   ·
    rw [if_neg hc]
    exact ⟨a++[l],[bs[i]],rfl, by simp; omega, by simp, by simp, fun o ho=>by rw [List.mem_singleton] at ho; rw [ho]; exact hbi⟩
theorem zmz (bs:List (List UInt8)) {i:Nat} (hlt:i<bs.length):zew bs (i+1)=match zew bs i with | none=>some ([],[bs[i]]) | some (a,l)=>if okF (l++[bs[i]]) then some (a,l++[bs[i]]) else some (a++[l],[bs[i]]):=by
 rw [zew,List.getElem?_eq_getElem hlt]
def zuh:Option (List (List (List UInt8)) × List (List UInt8))→List z2f
 | none=>[]
 | some (a,l)=>a.map fr++[fr l]
theorem z132 (G:z4j g) (hw:z0v g) (h1:z11 g=some 0) (l:List ID) (hin:∀ x∈l,x∈g.IDs) {i:Nat} (hi:i<l.length) (hl:l.length≤60):z5e g l ([],(i:Int))=some (.inr ([fr [bts g l[i]]],((i+1:Nat):Int))):=by
 obtain ⟨r,r1,r2⟩:=zqp G hw h1 (hin _ (List.getElem_mem hi))
 unfold z5e
 rw [if_pos (by simpa using hi)]
 simp only []
 rw [z0d hi]
 simp only [bS]
 rw [r1]
 simp only [bS]
 rw [r2]
 simp only [bS]
 rw [if_neg (by simp)]
 simp only [zue]
 rw [z1g (by simp),z0i (by omega)]
 rfl
theorem zzg (G:z4j g) (hw:z0v g) (h1:z11 g=some 0) (l:List ID) (hin:∀ x∈l,x∈g.IDs) (X:List z2f) (q:List (List UInt8)) (hX:X.length≤100) (g3:q.length≤8) (g4:∀ o∈q,o.length≤400) {i:Nat} (hi:i<l.length) (hl:l.length≤60) :
  z5e g l (X++[fr q],(i:Int))=if okF (q++[bts g l[i]]) then some (.inr (X++[fr (q++[bts g l[i]])],((i+1:Nat):Int))) else some (.inr ((X++[fr q])++[fr [bts g l[i]]],((i+1:Nat):Int))):=by
 obtain ⟨r,r1,r2⟩:=zqp G hw h1 (hin _ (List.getElem_mem hi))
 have hb400:=zpa G hw (hin _ (List.getElem_mem hi))
 have hol:(X++[fr q]).length=X.length+1:=by simp
 have hge:(X++[fr q])[X.length]'(by omega)=fr q:=by
  rw [List.getElem_append_right (by simp)]; simp
 have e1:z67 (fr q).Ops=some q:=by
  unfold z67
  show (app 24 ([]:List (List UInt8)) q >>= _)=_
  rw [z1g (by simp; omega)]; rfl
 have hck:=zyz (q++[bts g l[i]]) (by simp; omega) (fun o ho=>(List.mem_append.1 ho).elim (g4 o) fun h=>by rw [List.mem_singleton] at h; rw [h]; exact hb400)
 have e2:(⟨(fr q).Kind,(fr q).N,(fr q).IDs,q++[bts g l[i]]⟩:z2f)=fr (q++[bts g l[i]]):=rfl
 have e3:(X++[fr q]).set X.length (fr (q++[bts g l[i]]))=X++[fr (q++[bts g l[i]])]:=by
  simp [List.set_append]
 have e4:w64 (((X++[fr q]).length:Int) - 1)=(X.length:Int):=by
  rw [hol,z1a (by omega) (by omega)]; omega
 unfold z5e
 rw [if_pos (by simpa using hi)]
 simp only []
 rw [z0d hi]
 simp only [bS]
 rw [r1]
 simp only [bS]
 rw [r2]
 simp only [bS]
 rw [if_pos (by simp <;> omega),e4,z0d (by omega),hge]
 simp only [bS]
 rw [e1]
 simp only [bS]
 rw [z1g (by simp only [List.length_cons,List.length_nil]; omega)]
 simp only [bS]
 rw [e2]
 by_cases hc:okF (q++[bts g l[i]])=true
 ·
  rw [if_pos hc] at hck
  rw [hck]
  simp only [bS,if_pos hc]
  rw [if_pos (by rfl)]
  simp only [zzo,Int.toNat_natCast]
  rw [z0i (by omega),e3]
 ·
  rw [if_neg hc] at hck
  rw [hck]
  simp only [bS,if_neg hc]
  rw [if_neg (by decide)]
  simp only [zue]
  rw [z1g (by simp; omega),z0i (by omega)]
  rfl
theorem zoc (G:z4j g) (hw:z0v g) (h1:z11 g=some 0) (l:List ID) (hl:l.length≤60) (hin:∀ x∈l,x∈g.IDs):zg7 g l=some (zuh (zew (l.map (bts g)) l.length)):=by
 have hb:∀ b∈l.map (bts g),b.length≤400:=fun b hb=>by
  obtain ⟨x,hx,rfl⟩:=List.mem_map.1 hb
  exact zpa G hw (hin x hx)
 have main:=z23 (F:=z5e g l) (b:=zuh (zew (l.map (bts g)) l.length)) l.length (fun i=>(zuh (zew (l.map (bts g)) i),(i:Int))) (fun i hi=>?_) ?_
 ·
  unfold zg7
  have e0:(([]:List z2f),(0:Int))=(zuh (zew (l.map (bts g)) 0),((0:Nat):Int)):=rfl
  rw [e0,main]
  simp only [bS]
 ·
  have him:i<(l.map (bts g)).length:=by simpa using hi
  have hbi:(l.map (bts g))[i]=bts g l[i]:=by simp
  rw [zmz _ him,hbi]
  rcases zm3 (l.map (bts g)) hb i (by omega) with ⟨h,h0⟩ | ⟨a,q,h,g1,g2,g3,g4⟩
  ·
   rw [h]
   exact z132 G hw h1 l hin hi hl
  ·
   rw [h]
   have hs:=zzg G hw h1 l hin (a.map fr) q (by simp; omega) g3 g4 hi hl
   show z5e g l (a.map fr++[fr q],(i:Int))=_
   rw [hs]
   by_cases hc:okF (q++[bts g l[i]])=true
   ·
    simp only [if_pos hc]; rfl
   ·
    simp only [if_neg hc]
    show some (Sum.inr ((a.map fr++[fr q])++[fr [bts g l[i]]],_))=some (Sum.inr ((a++[q]).map fr++[fr [bts g l[i]]],_))
    rw [List.map_append]; rfl
 ·
  unfold z5e
  rw [if_neg (by simp)]
end
section
open Go
variable {g:z00}
theorem zu4 (bs:List (List UInt8)) (hb:∀ b∈bs,b.length≤400):∀ i,i≤bs.length→∀ a l,zew bs i=some (a,l)→∀ q∈a,q.length≤8
 | 0,_,a,l,h,q,hq=>by simp [zew] at h
 | i+1,hi,a,l,h,q,hq=>by
  have hlt:i<bs.length:=by omega
  rw [zmz bs hlt] at h
  rcases zm3 bs hb i (by omega) with ⟨h0,_⟩ | ⟨a',l',h0,h1,h2,h3,h4⟩
  ·
   rw [h0] at h
   simp only [Option.some.injEq,Prod.mk.injEq] at h
   rw [← h.1] at hq; simp at hq
  ·
   have ih:=zu4 bs hb i (by omega) a' l' h0
   rw [h0] at h
   by_cases hc:okF (l'++[bs[i]])=true
   ·
    simp only [if_pos hc,Option.some.injEq,Prod.mk.injEq] at h
    rw [← h.1] at hq; exact ih q hq
   ·
    simp only [if_neg hc,Option.some.injEq,Prod.mk.injEq] at h
    rw [← h.1] at hq
    rcases List.mem_append.1 hq with hq | hq
    ·
     exact ih q hq
    ·
     rw [List.mem_singleton] at hq; rw [hq]; exact h3
theorem z181 (bs:List (List UInt8)) (hb:∀ b∈bs,b.length≤400) (hl:bs.length≤60):(zuh (zew bs bs.length)).length≤60∧∀ f∈zuh (zew bs bs.length),∃ q,f=fr q∧q.length≤8:=by
 rcases zm3 bs hb bs.length (Nat.le_refl _) with ⟨h,_⟩ | ⟨a,l,h,h1,h2,h3,h4⟩
 ·
  rw [h]; exact ⟨by simp [zuh], by simp [zuh]⟩
 ·
  have hall:=zu4 bs hb bs.length (Nat.le_refl _) a l h
  rw [h]
  refine ⟨by simp [zuh]; omega, fun f hf=>?_⟩
  rcases List.mem_append.1 hf with hf | hf
  ·
   obtain ⟨q,hq,rfl⟩:=List.mem_map.1 hf
   exact ⟨q,rfl,hall q hq⟩
  ·
   rw [List.mem_singleton] at hf
   exact ⟨l,hf,h3⟩
theorem z11w (l:List ID) (hl:l.length≤1000):z90 l l=some true:=by
 have main:=z23 (F:=zaf l l) (b:=(.inr ():Sum Bool Unit)) l.length (fun i=>(i:Int)) (fun i hi=>?_) ?_
 ·
  unfold z90
  rw [if_neg (by simp), show (0:Int)=((0:Nat):Int) from rfl,main]; rfl
 ·
  unfold zaf
  rw [if_pos (by simpa using hi),z0d hi,z0i (by omega)]
  simp only [bS]
  rw [if_neg (by simp)]
 ·
  unfold zaf
  rw [if_neg (by simp)]
def zq4 (c:Int) (a b:List ID):Int:=if c≠0 then c else if 60<a.length then 4 else if 60<b.length then 4 else 0
theorem z11h {c:Int} (h1:z11 g=some c) (a:List ID):zcf g [a]=some (zq4 c a []):=by
 unfold zcf zq4
 rw [h1]
 simp only [bS]
 by_cases hc:c=0
 ·
  subst hc
  rw [if_neg (by simp),if_neg (by simp)]
  have e0:z41 [a] ((0:Nat):Int)=if decide (60<(a.length:Int)) then some (.inl (.inl 4)) else some (.inr ((1:Nat):Int)):=by
   unfold z41
   rw [if_pos (by simp),z0d (by simp),z0i (by omega)]
   rfl
  have e1:z41 [a] ((1:Nat):Int)=some (.inl (.inr ())):=by
   unfold z41
   rw [if_neg (by simp)]
  rw [show (0:Int)=((0:Nat):Int) from rfl]
  by_cases hb:60<a.length
  ·
   rw [if_pos (by simp; omega)] at e0
   rw [z1p e0,if_pos hb]; rfl
  ·
   rw [if_neg (by simp; omega)] at e0
   rw [z21 e0,z1p e1,if_neg hb,if_neg (by simp)]; rfl
 ·
  rw [if_pos (by simpa using hc),if_pos hc]
theorem z11q {c:Int} (h1:z11 g=some c) (a b:List ID):zcf g [a,b]=some (zq4 c a b):=by
 unfold zcf zq4
 rw [h1]
 simp only [bS]
 by_cases hc:c=0
 ·
  subst hc
  rw [if_neg (by simp),if_neg (by simp)]
  have e0:z41 [a,b] ((0:Nat):Int)=if decide (60<(a.length:Int)) then some (.inl (.inl 4)) else some (.inr ((1:Nat):Int)):=by
   unfold z41
   rw [if_pos (by simp),z0d (by simp),z0i (by omega)]
   rfl
  have e1:z41 [a,b] ((1:Nat):Int)=if decide (60<(b.length:Int)) then some (.inl (.inl 4)) else some (.inr ((2:Nat):Int)):=by
   unfold z41
   rw [if_pos (by simp),z0d (by simp),z0i (by omega)]
   rfl
  have e2:z41 [a,b] ((2:Nat):Int)=some (.inl (.inr ())):=by
   unfold z41
   rw [if_neg (by simp)]
  rw [show (0:Int)=((0:Nat):Int) from rfl]
  by_cases ha:60<a.length
  ·
   rw [if_pos (by simp; omega)] at e0
   rw [z1p e0,if_pos ha]; rfl
  ·
   rw [if_neg (by simp; omega)] at e0
   rw [z21 e0,if_neg ha]
   by_cases hb:60<b.length
   ·
    rw [if_pos (by simp; omega)] at e1
    rw [z1p e1,if_pos hb]; rfl
   ·
    rw [if_neg (by simp; omega)] at e1
    rw [z21 e1,z1p e2,if_neg hb]; rfl
 ·
  rw [if_pos (by simpa using hc),if_pos hc]
theorem z11e {c:Int} (h2:z0b g=some c) (a b:List ID):zcw g a b=some (zq4 c a b):=by
 unfold zcw zq4
 rw [h2]
 simp only [bS]
 by_cases hc:c=0
 ·
  subst hc
  rw [if_neg (by simp:¬ ((0:Int) != 0)=true),if_neg (fun h:(0:Int)≠0=>h rfl)]
  by_cases ha:60<a.length
  ·
   rw [if_pos (by simp; omega),if_pos ha]
  ·
   rw [if_neg (by simp; omega),if_neg ha]
   by_cases hb:60<b.length
   ·
    rw [if_pos (by simp; omega),if_pos hb]
   ·
    rw [if_neg (by simp; omega),if_neg hb]
 ·
  rw [if_pos (by simpa using hc),if_pos hc]
section
variable {c:Int} (h1:z11 g=some c) (h2:z0b g=some c) (h3:c=0↔z4j g)
include h1 h2 h3
end
end
section
open Go
variable {g a b:z00} {n m:Nat}
theorem zwi (h:z0v g) {o:z07} (ho:o∈g.Ops):zbu o:=h.2.1.1 o ho
theorem z17p (F:Fit g n) (hn:n≤1000) (h:∀ o∈g.Ops,zbu o):z0v g:=by
 have h1:=F.len; have h2:=F.ids
 exact ⟨⟨fun x _ y _=>trivial, by omega⟩,⟨h, by omega⟩,trivial⟩
theorem z15g {o:z07} (h:zbu o):inI o.Act.Value.Num∧o.Act.Value.Text.length≤9223372036854775807:=⟨h.2.2.2.1.2.2.1.2.1,h.2.2.2.1.2.2.1.2.2.2.1⟩
theorem z16z {p:ID × z07} {o:z07} (h:o∈(zm8 g p).Ops):o=p.2∨o∈g.Ops:=by
 unfold zm8 at h
 split at h
 ·
  exact .inr h
 ·
  exact znv.1 h
theorem ztq (F:Fit g n) (hn:n≤1000) (l:List ID) (hl:l.length≤1000):z2a l g=some (l.any fun x=>!decide (x∈g.IDs)):=by
 have h1:=F.len; have h2:=F.ids
 have hcl:∀ x,zlg x g=some (!decide (x∈g.IDs)):=fun x=>by
  obtain ⟨k,k1,-⟩:=zdr g (by omega) F.ri x
  unfold zlg
  rw [k1]
  simp only [bS]
 have main:=za9 (F:=z1j l g) (fun s=>∃ i:Nat,s=(i:Int)∧i≤l.length∧∀ k (h:k<l.length),k<i→l[k]∈g.IDs) (fun s=>l.length - s.toNat)
  (fun b:Sum Int Unit=>(b=.inr ()∧∀ x∈l,x∈g.IDs)∨∃ i:Nat,b=.inl (i:Int)∧∃ x∈l,x∉g.IDs)
  (fun s hs=>by
   obtain ⟨i,rfl,h1,h2⟩:=hs
   by_cases hi:i<l.length
   ·
    have hF:z1j l g (i:Int)=if !decide (l[i]∈g.IDs) then some (.inl (.inl (i:Int))) else some (.inr ((i+1:Nat):Int)):=by
     unfold z1j
     rw [if_pos (by simpa using hi),z0d hi,z0i (by omega)]
     simp only [bS]
     rw [hcl]
     simp only [bS]
    by_cases hc:l[i]∈g.IDs
    ·
     rw [decide_eq_true hc,if_neg (by simp)] at hF
     refine .inr ⟨_,hF,⟨i+1,rfl,hi, fun k hk hki=>?_⟩, by simp; omega⟩
     by_cases hk':k=i
     ·
      subst hk'; exact hc
     ·
      exact h2 k hk (by omega)
    ·
     rw [decide_eq_false hc,if_pos (by simp)] at hF
     exact .inl ⟨_,hF,.inr ⟨i,rfl,l[i],List.getElem_mem hi,hc⟩⟩
   ·
    refine .inl ⟨.inr (),?_,.inl ⟨rfl, fun x hx=>?_⟩⟩
    ·
     unfold z1j
     rw [if_neg (by simpa using hi)]
    ·
     obtain ⟨k,hk,rfl⟩:=List.getElem_of_mem hx
     exact h2 k hk (by omega))
  0 ⟨0,rfl,Nat.zero_le _, fun k _ h=>by omega⟩
 obtain ⟨r,r1,r2⟩:=main
 unfold z2a z3k
 rw [r1]
 rcases r2 with ⟨rfl,h⟩ | ⟨i,rfl,x,hx,hxn⟩
 ·
  simp only [zue,bS]
  have:(l.any fun x=>!decide (x∈g.IDs))=false:=by
   rw [List.any_eq_false]; intro x hx; simp [h x hx]
  rw [this]; rfl
 ·
  simp only [zzo,bS]
  have:(l.any fun x=>!decide (x∈g.IDs))=true:=by
   rw [List.any_eq_true]; exact ⟨x,hx, by simp [hxn]⟩
  rw [this]; simp
theorem z135 (F:Fit g n) (hn:n≤59) (hc:z11 g=some 0) {p:ID × z07} (hw:zbu p.2) (hp:p.2.Preds.length≤20) (h1:zgi p.2=0) (h2:sha (zfm p.2)=p.1) (hx:p.1∉g.IDs) (hq:∀ q∈p.2.Preds,q∈g.IDs):zpd g p.2=some (zm8 g p,p.1,0):=by
 obtain ⟨w1,w2⟩:=z15g hw
 have hl:=F.len
 have hany:(p.2.Preds.any fun x=>!decide (x∈g.IDs))=false:=by
  rw [List.any_eq_false]; intro x hx; simp [hq x hx]
 unfold zpd
 rw [hc]
 simp only [bS]
 rw [if_pos (by simp),zpc _ w1 w2,h1]
 simp only [bS]
 rw [if_neg (by simp),z112 _ w1 w2,if_pos (z8y h1),h2]
 simp only [bS]
 rw [z11z F (by omega) p hp,decide_eq_false hx]
 simp only [bS]
 rw [if_neg (by simp),ztq F (by omega) _ (by omega),hany]
 simp only [bS]
 rw [if_neg (by simp),if_neg (by simp; omega)]
theorem z170 (F:Fit g n) (hn:n≤59) (hc:z0b g=some 0) {p:ID × z07} (hw:zbu p.2) (hp:p.2.Preds.length≤20∧p.2.Act.Key.length≤100∧p.2.Act.Value.Text.length≤100) (h1:zgi p.2=0) (h2:sha (zfm p.2)=p.1) (hx:p.1∉g.IDs) (hq:∀ q∈p.2.Preds,q∈g.IDs):zbv g p.2=some (zm8 g p,p.1,0):=by
 obtain ⟨w1,w2⟩:=z15g hw
 have hl:=F.len; have hi:=F.ids
 have hall:(p.2.Preds.all fun x=>decide (x∈g.IDs))=true:=by
  rw [List.all_eq_true]; intro x hx; simpa using hq x hx
 unfold zbv
 rw [hc]
 simp only [bS]
 rw [if_neg (by simp),zif _ w1 w2,h1]
 simp only [bS]
 rw [if_neg (by simp),zo1 _ (z8y h1) w1,h2]
 simp only [bS]
 rw [zww (by omega) hx]
 simp only [bS]
 rw [if_neg (by simp),zx6 _ _ (by omega) (by omega),hall]
 simp only [bS]
 rw [if_neg (by simp),if_neg (by simp; omega),zrr F (by omega) p hp hx]
 simp only [bS]
theorem zye (G:z4j g) (F:Fit g n) {l:List ID} {y p:ID} {o:z07} (h:z6b g l y) (ho:z48 g y=some o) (hp:p∈o.Preds):z6b g l p:=by
 have S:=ziz G F
 have hpm:=S.ins y o ho p hp
 obtain ⟨i,i1,i2⟩:=(zae F).1 ho
 obtain ⟨hi,rfl⟩:=List.getElem?_eq_some_iff.1 i1
 obtain ⟨hio,rfl⟩:=List.getElem?_eq_some_iff.1 i2
 have hpp:g.IDs.idxOf p∈z1c g (g.IDs.idxOf g.IDs[i]):=by
  rw [z6z F.ri hi]
  unfold z1c
  exact List.mem_map.2 ⟨p, by rw [z5b hio]; exact hp,rfl⟩
 refine ⟨hpm,.inr ?_⟩
 rcases h.2 with hl | ⟨x,hx,hxg,hr⟩
 ·
  exact ⟨_,hl,h.1,.base hpp⟩
 ·
  exact ⟨x,hx,hxg,.step hr hpp⟩
theorem zkk {α:Type} (f:α→Bool):∀ (l:List α) (i:Nat) (h:i<(l.filter f).length),∃ k,∃ hk:k<l.length,l[k]=(l.filter f)[i]∧(l.take k).filter f=(l.filter f).take i
 | [],i,h=>by simp at h
 | x::l,i,h=>by
  by_cases hx:f x=true
  ·
   cases i with
   | zero=>exact ⟨0, by simp, by simp [List.filter_cons_of_pos hx], by simp⟩
   | succ i =>
    have h':i<(l.filter f).length:=by rw [List.filter_cons_of_pos hx] at h; simpa using h
    obtain ⟨k,hk,e1,e2⟩:=zkk f l i h'
    exact ⟨k+1, by simpa using hk, by simp [List.filter_cons_of_pos hx,e1], by simp [List.filter_cons_of_pos hx,e2]⟩
  ·
   have h':i<(l.filter f).length:=by rw [List.filter_cons_of_neg hx] at h; exact h
   obtain ⟨k,hk,e1,e2⟩:=zkk f l i h'
   exact ⟨k+1, by simpa using hk, by simp [List.filter_cons_of_neg hx,e1], by simp [List.filter_cons_of_neg hx,e2]⟩
structure zn6 (g:z00) (l r d:List ID):Prop where
 len:d.length≤60
 nd:d.Nodup
 mem:∀ x,x∈d↔z6b g l x∧¬ z6b g r x
 topo:∀ i (h:i<d.length) o,z48 g d[i]=some o→∀ p∈o.Preds,p∈d.take i∨z6b g r p
theorem zp3 (G:z4j g) (F:Fit g n) (h1:z11 g=some 0) (h2:z0b g=some 0) (l r:List ID) (hl:l.length≤60) (hr:r.length≤60):∃ d,zdd g l r=some d∧zf5 g l r=some d∧zn6 g l r d:=by
 obtain ⟨d,d1,d2,d3,-⟩:=zzf G h1 h2 ⟨fun _=>G, fun _=>rfl⟩ l r hl hr
 refine ⟨d,d1,d2,?_⟩
 obtain ⟨p,p1,-,_,p3,p4⟩:=zj7 G h1 h2 l hl
 obtain ⟨q,q1,-,_,q3,q4⟩:=zj7 G h1 h2 r hr
 obtain ⟨Q,Q1,Q2,Q3⟩:=zrp G h1
 obtain ⟨Qg,Qt⟩:=Q2.got
 have hlen:=G.e.len
 have hd:d=(Q.map (ze1 g)).filter fun x=>!(!decide (x∈p) || decide (x∈q)):=by
  unfold zdd at d1
  rw [p1,q1] at d1
  simp only [bS] at d1
  rw [Q1] at d1
  simp only [bS] at d1
  rw [z104 p q (fun x=>!decide (x∈p) || decide (x∈q)) (fun x=>by
   unfold zas
   rw [zaw _ _ (by omega),zaw _ _ (by omega)]
   simp only [bS]
   cases decide (x∈p) <;> rfl) _ (by simp; omega)] at d1
  simp only [bS] at d1
  exact (Option.some.inj d1).symm
 have hmemQ:∀ x,x∈Q.map (ze1 g)↔x∈g.IDs:=fun x=>by
  constructor
  ·
   intro hx
   obtain ⟨i,hi,rfl⟩:=List.mem_map.1 hx
   have:=Qg.lt i hi
   rw [z6d (by rw [F.ids]; exact this)]
   exact List.getElem_mem _
  ·
   intro hx
   have hlt:g.IDs.idxOf x<g.Ops.length:=zft G hx
   refine List.mem_map.2 ⟨g.IDs.idxOf x,?_,zcd hx⟩
   refine Classical.byContradiction fun hno=>?_
   have:=z7s (Q++[g.IDs.idxOf x]) (List.range g.Ops.length) (by
    rw [List.nodup_append]; exact ⟨Qg.nodup, by simp, fun a ha c hc e=>by rw [List.mem_singleton] at hc; subst hc; subst e; exact hno ha⟩) (fun y hy=>by
    rcases List.mem_append.1 hy with hy | hy
    ·
     simpa using Qg.lt y hy
    ·
     rw [List.mem_singleton] at hy; subst hy; simpa using hlt)
   rw [List.length_append,List.length_range,Q3] at this
   simp at this
   omega
 have hndQ:(Q.map (ze1 g)).Nodup:=by
  rw [List.Nodup,List.pairwise_map]
  exact Qg.nodup.imp_of_mem fun {a b} ha hb hne e=>hne (by rw [← zes G.e (Qg.lt a ha),e,zes G.e (Qg.lt b hb)])
 have hf:∀ x,(!(!decide (x∈p) || decide (x∈q)))=true↔z6b g l x∧¬ z6b g r x:=fun x=>by
  rw [← p4,← q4]; simp
 refine ⟨d3,hd ▸ hndQ.sublist List.filter_sublist, fun x=>?_, fun i hi o ho y hy=>?_⟩
 ·
  rw [hd,List.mem_filter,hmemQ,hf]
  exact ⟨fun h=>h.2, fun h=>⟨h.1.1,h⟩⟩
 ·
  by_cases hb:z6b g r y
  ·
   exact .inr hb
  refine .inl ?_
  subst hd
  obtain ⟨k,hk,e1,e2⟩:=zkk _ _ i hi
  rw [← e2,List.mem_filter,hf]
  have hxd:((Q.map (ze1 g)).filter fun x=>!(!decide (x∈p) || decide (x∈q)))[i]∈(Q.map (ze1 g)).filter fun x=>!(!decide (x∈p) || decide (x∈q)):=List.getElem_mem hi
  rw [List.mem_filter,hf] at hxd
  have hbl:=zye G F hxd.2.1 ho hy
  refine ⟨?_,hbl,hb⟩
  have hkQ:k<Q.length:=by simpa using hk
  rw [List.map_take.symm]
  have hxk:ze1 g Q[k]=((Q.map (ze1 g)).filter fun x=>!(!decide (x∈p) || decide (x∈q)))[i]:=by rw [← e1]; simp
  have hlt:=Qg.lt Q[k] (List.getElem_mem hkQ)
  obtain ⟨j,j1,j2⟩:=(zae F).1 ho
  obtain ⟨hj,ej⟩:=List.getElem?_eq_some_iff.1 j1
  obtain ⟨hjo,rfl⟩:=List.getElem?_eq_some_iff.1 j2
  have hjk:j=Q[k]:=by
   have:=z6z F.ri hj
   rw [ej,← hxk,zes G.e hlt] at this
   exact this.symm
  have hpp:g.IDs.idxOf y∈z1c g Q[k]:=by
   unfold z1c
   refine List.mem_map.2 ⟨y,?_,rfl⟩
   rw [← hjk,z5b hjo]; exact hy
  exact List.mem_map.2 ⟨_,Qt k hkQ _ hpp,zcd hbl.1⟩
structure Mid (a b s:z00) (d:List ID) (i:Nat):Prop where
 fit:Fit s (16+i)
 sound:zka s
 wf:∀ o∈s.Ops,zbu o
 ids:∀ x,x∈s.IDs↔x∈b.IDs∨x∈d.take i
 look:∀ x o,z48 s x=some o→z48 a x=some o∨z48 b x=some o
theorem zt0:Fit (⟨[],[]⟩:z00) 0:=⟨rfl,Nat.le_refl _,rfl, fun o ho=>by simp at ho⟩
theorem z10c (F:Fit g n) (hn:n≤1000) (hc:z11 g=some 0) {x:ID} {o:z07} (ho:z48 g x=some o):zk8 g x=some (o,0):=by
 have h1:=F.len; have h2:=F.ids
 have hx:=(zeo ho).1
 obtain ⟨k,k1,k2,-⟩:=zdr g (by omega) F.ri x
 obtain ⟨rfl,hk⟩:=k2 hx
 have hko:g.IDs.idxOf x<g.Ops.length:=by omega
 have e:g.Ops[g.IDs.idxOf x]=o:=by
  unfold z48 at ho
  rw [if_pos hx,List.getElem?_eq_getElem hko] at ho
  exact Option.some.inj ho
 unfold zk8
 rw [hc]
 simp only [bS]
 rw [if_neg (by simp),k1,decide_eq_true hx]
 simp only [bS]
 rw [if_neg (by simp),z0d hko]
 simp only [bS]
 rw [e,zky (by have:=(F.op o (zeo ho).2).1; omega)]
 simp only [bS]
theorem zp5 (Ga:z4j a) (Fa:Fit a n) (Gb:z4j b) (Fb:Fit b m) (hc:z7h a b) {l:List ID} (hl:∀ x∈l,x∈b.IDs) {x:ID} (h:z6b a l x):x∈b.IDs:=by
 have Sb:=ziz Gb Fb
 have step:∀ y p,y∈b.IDs→y∈a.IDs→a.IDs.idxOf p∈z1c a (a.IDs.idxOf y)→p∈a.IDs→p∈b.IDs:=fun y p hy hya hp hpa=>by
  obtain ⟨o,ho⟩:=zbz Fa hya
  obtain ⟨q,hq⟩:=zbz Fb hy
  have:=(zch Fa Fb).1 hc y o q ho hq
  subst this
  obtain ⟨i,i1,i2⟩:=(zae Fa).1 ho
  obtain ⟨hi,rfl⟩:=List.getElem?_eq_some_iff.1 i1
  obtain ⟨hio,rfl⟩:=List.getElem?_eq_some_iff.1 i2
  rw [z6z Fa.ri hi] at hp
  unfold z1c at hp
  obtain ⟨z,hz,e⟩:=List.mem_map.1 hp
  rw [z5b hio] at hz
  have:z=p:=zi5 hpa e
  subst this
  exact Sb.ins _ _ hq z hz
 obtain ⟨hxa,h⟩:=h
 rcases h with h | ⟨y,hy,hya,hr⟩
 ·
  exact hl x h
 ·
  have key:∀ j,Rch (z1c a) (z1c a (a.IDs.idxOf y)) j→j<a.Ops.length∧ze1 a j∈b.IDs:=fun j hj=>by
   induction hj with
   | @base i hi =>
    have hi':=hi
    unfold z1c at hi'
    obtain ⟨z,hz,e⟩:=List.mem_map.1 hi'
    have hza:=z9f Ga.ins _ z hz
    have hlt:i<a.Ops.length:=by rw [← e]; exact zft Ga hza
    refine ⟨hlt,?_⟩
    have:ze1 a i=z:=by rw [← e]; exact zcd hza
    rw [this]
    exact step y z (hl y hy) hya (by rw [e]; exact hi) hza
   | @step i p hr hp ih =>
    have hp':=hp
    unfold z1c at hp'
    obtain ⟨z,hz,e⟩:=List.mem_map.1 hp'
    have hza:=z9f Ga.ins _ z hz
    have hlt:p<a.Ops.length:=by rw [← e]; exact zft Ga hza
    refine ⟨hlt,?_⟩
    have:ze1 a p=z:=by rw [← e]; exact zcd hza
    rw [this]
    have hia:ze1 a i∈a.IDs:=by rw [z6d (by rw [Fa.ids]; exact ih.1)]; exact List.getElem_mem _
    refine step (ze1 a i) z ih.2 hia ?_ hza
    rw [zes Ga.e ih.1,e]; exact hp
  have:=(key _ hr).2
  rw [zcd hxa] at this
  exact this
theorem z12y (Ga:z4j a) (Fa:Fit a n) (wa:z0v a) (Gb:z4j b) (Fb:Fit b m) (hcl:z7h a b) {l r:List ID} (hr:∀ x∈r,x∈b.IDs) {d:List ID} (P:zn6 a l r d) {s:z00} {i:Nat} (hi:i<d.length) (hd:d.length≤16) (M:Mid a b s d i) :
  (d[i]∈b.IDs∧d[i]∈s.IDs∧Mid a b s d (i+1))∨(∃ o,d[i]∉b.IDs∧d[i]∉s.IDs∧z48 a d[i]=some o∧zpd s o=some (zm8 s (d[i],o),d[i],0)∧zbv s o=some (zm8 s (d[i],o),d[i],0)∧Mid a b (zm8 s (d[i],o)) d (i+1)):=by
 have htk:d.take (i+1)=d.take i++[d[i]]:=by rw [List.take_add_one,List.getElem?_eq_getElem hi]; rfl
 by_cases hb:d[i]∈b.IDs
 ·
  refine .inl ⟨hb,(M.ids _).2 (.inl hb),⟨M.fit.ids, by have:=M.fit.len; omega,M.fit.ri,M.fit.op⟩,M.sound,M.wf, fun x=>?_,M.look⟩
  rw [M.ids,htk,List.mem_append,List.mem_singleton]
  constructor
  ·
   rintro (h | h) <;> simp [h]
  ·
   rintro (h | h | rfl)
   ·
    exact .inl h
   ·
    exact .inr h
   ·
    exact .inl hb
 ·
  have hbel:=((P.mem _).1 (List.getElem_mem hi)).1
  obtain ⟨o,ho⟩:=zbz Fa hbel.1
  have hxs:d[i]∉s.IDs:=fun h=>by
   rcases (M.ids _).1 h with h | h
   ·
    exact hb h
   ·
    obtain ⟨j,hj,e⟩:=List.getElem_of_mem h
    rw [List.length_take] at hj
    rw [List.getElem_take] at e
    have:=zp9 P.nd (by omega) hi e
    omega
  have Sa:=ziz Ga Fa
  obtain ⟨k1,k2,k3,k4⟩:=Sa.ops _ o ho
  have hop:=Fa.op o (zeo ho).2
  have hq:∀ q∈o.Preds,q∈s.IDs:=fun q hq=>by
   rw [M.ids]
   rcases P.topo i hi o ho q hq with h | h
   ·
    exact .inr h
   ·
    exact .inl (zp5 Ga Fa Gb Fb hcl hr h)
  have hw:=zwi wa (zeo ho).2
  have Fs:Fit s 60:=⟨M.fit.ids, by have:=M.fit.len; omega,M.fit.ri,M.fit.op⟩
  have Gs:=zms Fs M.sound
  obtain ⟨c,c1,c2,c3⟩:=zg4 (z17p M.fit (by omega) M.wf)
  have hc0:=c3.2 Gs
  subst hc0
  refine .inr ⟨o,hb,hxs,ho,z135 M.fit (by omega) c1 (p:=(d[i],o)) hw hop.1 k1 k2 hxs hq,z170 M.fit (by omega) c2 (p:=(d[i],o)) hw hop k1 k2 hxs hq,zj5 M.fit hop,z11m M.fit M.sound (p:=(d[i],o)) hop hxs ⟨k1,k2,k3,k4⟩ hq, fun q hq'=>?_, fun x=>?_, fun x q hx=>?_⟩
  ·
   rcases z16z hq' with rfl | h
   ·
    exact hw
   ·
    exact M.wf q h
  ·
   rw [zuv M.fit,M.ids,htk,List.mem_append,List.mem_singleton]
   constructor
   ·
    rintro (h | h | h) <;> simp [h]
   ·
    rintro (h | h | h) <;> simp [h]
  ·
   rw [zri M.fit hop hxs] at hx
   split at hx
   ·
    rename_i e
    cases hx
    subst e
    exact .inl ho
   ·
    exact M.look x q hx
end
section
open Go
variable {g a b:z00} {n m:Nat}
theorem z14g (Fa:Fit a n) (hn:n≤1000) {d:List ID} {s:z00} {i:Nat} (hi:i<d.length) (hs:s.IDs.length≤1000) (hx:d[i]∈s.IDs) (s0:z00 × Int) (h0:s0.2=(i:Int)):iter (z3h a d s0) (s,0)=some s:=by
 have h1:=Fa.len; have h2:=Fa.ids
 refine z23 (F:=z3h a d s0) (b:=s) a.IDs.length (fun j=>(s,(j:Int))) (fun j hj=>?_) ?_
 ·
  unfold z3h
  simp only []
  rw [if_pos (by simpa using hj),z0d hj,h0,z0d hi]
  simp only [bS]
  rw [in27 _ _ (by omega),decide_eq_true hx,z0i (by omega)]
  simp only [bS]
  by_cases e:a.IDs[j]=d[i]
  ·
   rw [if_pos (by simpa using e)]; simp only [bS]; rw [if_neg (by simp)]
  ·
   rw [if_neg (by simpa using e)]; simp only [bS]; rw [if_neg (by simp)]
 ·
  unfold z3h
  rw [if_neg (by simp)]
theorem zzi (Fa:Fit a n) (hn:n≤1000) {d:List ID} {s s':z00} {i:Nat} (hi:i<d.length) (hs:s.IDs.length≤1000) (hx:d[i]∉s.IDs) {o:z07} (ho:z48 a d[i]=some o) {y:ID} {c:Int} (hadd:zbv s o=some (s',y,c)) (s0:z00 × Int) (h0:s0.2=(i:Int)):iter (z3h a d s0) (s,0)=some s':=by
 have h1:=Fa.len; have h2:=Fa.ids
 obtain ⟨k,k1,k2⟩:=(zae Fa).1 ho
 obtain ⟨hk,ek⟩:=List.getElem?_eq_some_iff.1 k1
 obtain ⟨hko,eo⟩:=List.getElem?_eq_some_iff.1 k2
 refine z23 (F:=z3h a d s0) (b:=s') a.IDs.length (fun j=>(if j≤k then s else s',(j:Int))) (fun j hj=>?_) ?_
 ·
  unfold z3h
  simp only []
  rw [if_pos (by simpa using hj),z0d hj,h0,z0d hi]
  simp only [bS]
  by_cases e:j=k
  ·
   subst e
   rw [if_pos (by simpa using ek),if_pos (Nat.le_refl _),in27 _ _ (by omega),decide_eq_false hx]
   simp only [bS]
   rw [if_pos (by simp),z0d hko,eo]
   simp only [bS]
   rw [hadd,z0i (by omega),if_neg (by omega)]
   simp only [bS]
  ·
   have hne:a.IDs[j]≠d[i]:=fun h=>e (zxg Fa.ri hj hk (h.trans ek.symm))
   rw [if_neg (by simpa using hne),z0i (by omega)]
   simp only [bS]
   rw [if_neg (by simp)]
   by_cases h:j<k
   ·
    rw [if_pos (by omega),if_pos (by omega)]
   ·
    rw [if_neg (by omega),if_neg (by omega)]
 ·
  unfold z3h
  simp only []
  rw [if_neg (by simp),if_neg (by omega)]
theorem zxx (Ga:z4j a) (Fa:Fit a n) (hn:n≤60) (wa:z0v a) (ha:z11 a=some 0) (Gb:z4j b) (Fb:Fit b m) (hm:m≤60) (hcl:z7h a b) {l r:List ID} (hr:∀ x∈r,x∈b.IDs) {d:List ID} (P:zn6 a l r d) (hd:d.length≤16) :
  ∀ k i s,d.length - i=k→i≤d.length→Mid a b s d i→∃ s',iter (z69 a b d) (s,(i:Int))=some s'∧iter (z5o a d) (s,(i:Int))=some s'∧Mid a b s' d d.length:=by
 have hb1:=Fb.len; have hb2:=Fb.ids
 intro k
 induction k with
 | zero =>
  intro i s hk hi M
  have:i=d.length:=by omega
  subst this
  refine ⟨s,z1p ?_,z1p ?_,M⟩
  ·
   unfold z69; rw [if_neg (by simp)]
  ·
   unfold z5o; rw [if_neg (by simp)]
 | succ k ih =>
  intro i s hk hi M
  have hid:i<d.length:=by omega
  have hsl:=M.fit.len; have hsi:=M.fit.ids
  rcases z12y Ga Fa wa Gb Fb hcl hr P hid hd M with ⟨hb,hs,M'⟩ | ⟨o,hb,hs,ho,h1,h2,M'⟩
  ·
   have hF:z69 a b d (s,(i:Int))=some (.inr (s,((i+1:Nat):Int))):=by
    unfold z69
    simp only []
    rw [if_pos (by simpa using hid),z0d hid]
    simp only [bS]
    rw [zaw _ _ (by omega),decide_eq_true hb,z0i (by omega)]
    simp only [bS]
    rfl
   have hG:z5o a d (s,(i:Int))=some (.inr (s,((i+1:Nat):Int))):=by
    unfold z5o
    simp only []
    rw [if_pos (by simpa using hid),z14g Fa (by omega) hid (by omega) hs _ rfl,z0i (by omega)]
    simp only [bS]
   rw [z21 hF,z21 hG]
   exact ih (i+1) s (by omega) (by omega) M'
  ·
   have hF:z69 a b d (s,(i:Int))=some (.inr (zm8 s (d[i],o),((i+1:Nat):Int))):=by
    unfold z69
    simp only []
    rw [if_pos (by simpa using hid),z0d hid]
    simp only [bS]
    rw [zaw _ _ (by omega),decide_eq_false hb]
    simp only [bS]
    rw [if_neg (by simp),z10c Fa (by omega) ha ho]
    simp only [bS]
    rw [h1,z0i (by omega)]
    simp only [bS]
   have hG:z5o a d (s,(i:Int))=some (.inr (zm8 s (d[i],o),((i+1:Nat):Int))):=by
    unfold z5o
    simp only []
    rw [if_pos (by simpa using hid),zzi Fa (by omega) hid (by omega) hs ho h2 _ rfl,z0i (by omega)]
    simp only [bS]
   rw [z21 hF,z21 hG]
   exact ih (i+1) _ (by omega) (by omega) M'
theorem zvn:zka (⟨[],[]⟩:z00):=⟨fun x o h=>by simp [z48] at h, fun x o h=>by simp [z48] at h, fun _=>0, fun x o h=>by simp [z48] at h⟩
theorem zqw:z4j (⟨[],[]⟩:z00):=zms (g:=⟨[],[]⟩) ⟨rfl, by simp,rfl, fun o ho=>by simp at ho⟩ zvn
theorem zoy:z11 (⟨[],[]⟩:z00)=some 0∧z0b (⟨[],[]⟩:z00)=some 0:=by
 obtain ⟨c,c1,c2,c3⟩:=zg4 (g:=⟨[],[]⟩) (z17p zt0 (by omega) fun o ho=>by simp at ho)
 have:=c3.2 zqw
 subst this
 exact ⟨c1,c2⟩
theorem zo4 (Gb:z4j b) (hb:z11 b=some 0) (hb':z0b b=some 0) (Fb:Fit b m) (hm:m≤60):z7u b (⟨[],[]⟩:z00)=some (b,0):=by
 obtain ⟨r,r1,-,r3⟩:=zmh Gb zqw hb zoy.1 hb' zoy.2 Fb zt0 (by omega)
 rcases r3 with ⟨-,h⟩ | ⟨rfl,-⟩
 ·
  exact absurd (fun i hi=>by simp at hi) h
 ·
  exact r1
theorem zqx (G:z4j g) (h2:z0b g=some 0) (l:List ID) (hl:l.length≤60):∃ d,zdh g l=some d∧zhr g l=some (d,0)∧d.length≤l.length∧∀ x,x∈d↔x∈l∧x∉g.IDs:=by
 obtain ⟨d,d1,d2,d3⟩:=zql G.e l hl
 obtain ⟨e,e1,e2,e3⟩:=z10q G.e l hl
 have:d=e:=zco _ _ ((z8e _).1 d2) ((z8e _).1 e2) fun y=>by rw [d3,e3]
 subst this
 refine ⟨d,d1,?_,z7s _ _ (za1 d2) fun x hx=>((d3 x).1 hx).1,d3⟩
 have hk:zq4 0 l []=0:=by unfold zq4; rw [if_neg (by simp),if_neg (by omega),if_neg (by simp)]
 unfold zhr
 rw [z11e h2,hk]
 simp only [bS]
 rw [if_neg (by simp),e1]
 simp only [bS]
theorem zmg (G:z4j g) (h1:z11 g=some 0) (h2:z0b g=some 0):∃ r,zbt g=some (r,0)∧zhw g=some (r,0)∧r.length≤60∧r=zat g (top g g.Ops.length):=by
 have hlen:=G.e.len
 have hids:=G.e.ids
 obtain ⟨r,p1,p2⟩:=zpe G.e
 have hl:=zs7 (g:=g) (zn2 G.e (top g g.Ops.length)) fun y hy=>((zf4 G.e).1 hy).1
 have d0:((0:Int) != 0)=false:=rfl
 unfold zbt zhw
 rw [h1,h2]
 simp only [bS]
 simp only [d0,Bool.false_eq_true,if_false]
 rw [p1,z14w G.e G.ins]
 simp only [bS]
 rw [zjx (by omega) (by omega),hids]
 simp only [bS]
 rw [z1af _ (by omega)]
 simp only [bS]
 rw [zy6 G.e G.ins p2]
 simp only [bS]
 rw [z11d G.e]
 exact ⟨_,rfl,rfl, by omega,rfl⟩
theorem zni (Fa:Fit a n) (Fb:Fit b m) (h:z7h a b):z7h b a:=(zch Fb Fa).2 fun x o q ho hq=>((zch Fa Fb).1 h x q o hq ho).symm
theorem z177 {c d:Int} (ha':z0b a=some c) (hb':z0b b=some d) {r:z00 × Int} (hr:z2s a b=some r) (hc:c≠0→r.2=c) (hd:c=0→d≠0→r.2=d):zak a b=some r.2:=by
 unfold zak
 rw [ha',hb']
 simp only [bS]
 by_cases h1:c=0
 ·
  rw [if_neg (by simpa using h1)]
  by_cases h2:d=0
  ·
   rw [if_neg (by simpa using h2),hr]
   simp only [bS]
  ·
   rw [if_pos (by simpa using h2),hd h1 h2]
 ·
  rw [if_pos (by simpa using h1),hc h1]
end
section
open Go
variable {g:z00}
theorem zo6 {n x:Nat}:top g n x=true↔∀ k,k<n→x∉z1c g k:=by
 unfold top
 rw [List.all_eq_true]
 constructor
 ·
  intro h k hk hx
  have:=h k (by simpa using hk)
  simp [hx] at this
 ·
  intro h k hk
  have:=h k (by simpa using hk)
  simp [this]
theorem z13b (G:z4j g) (hc:z11 g=some 0):∀ i,i<g.Ops.length→∃ t,t<g.Ops.length∧top g g.Ops.length t=true∧Rch (z1c g) [t] i:=by
 obtain ⟨Q,q1,q2,q3⟩:=zrp G hc
 obtain ⟨got,topo⟩:=q2.got
 have hall:∀ i,i<g.Ops.length→i∈Q:=(znt got.nodup got.lt).1 (by omega)
 have key:∀ m i,g.Ops.length - Q.idxOf i=m→i<g.Ops.length→∃ t,t<g.Ops.length∧top g g.Ops.length t=true∧Rch (z1c g) [t] i:=by
  intro m
  induction m using Nat.strongRecOn with
  | _ m ih =>
   intro i hm hi
   cases ht:top g g.Ops.length i with
   | true=>exact ⟨i,hi,ht,.base (by simp)⟩
   | false =>
    have:∃ k,k<g.Ops.length∧i∈z1c g k:=by
     refine Classical.byContradiction fun hn=>?_
     have:top g g.Ops.length i=true:=zo6.2 fun k hk hx=>hn ⟨k,hk,hx⟩
     rw [ht] at this; simp at this
    obtain ⟨k,hk,hx⟩:=this
    have hkQ:=List.idxOf_lt_length_of_mem (hall k hk)
    have hlt:Q.idxOf i<Q.idxOf k:=by
     have h1:=topo (Q.idxOf k) hkQ i (by rw [List.getElem_idxOf]; exact hx)
     obtain ⟨j,hj,e⟩:=List.getElem_of_mem h1
     rw [List.length_take] at hj
     rw [List.getElem_take] at e
     have h2:Q.idxOf i≤j:=by
      refine Nat.le_of_not_lt fun c=>?_
      have h3:=List.idxOf_lt_length_of_mem (hall i hi)
      have:=(List.getElem_inj (xs:=Q) (i:=j) (j:=Q.idxOf i) (h₀:=by omega) (h₁:=h3) got.nodup).1 (by rw [e,List.getElem_idxOf])
      omega
     omega
    obtain ⟨t,t1,t2,t3⟩:=ih _ (by omega) k rfl hk
    exact ⟨t,t1,t2,.step t3 hx⟩
 exact fun i hi=>key _ i rfl hi
end
section
open Go
variable {a b g:z00} {n m:Nat}
theorem z114 (Ga:z4j a) (Fa:Fit a n) (Gb:z4j b) (Fb:Fit b m) (hc:z7h a b) {t:ID} (ht:t∈b.IDs) (hta:t∈a.IDs) {x:ID} (hx:x∈a.IDs) (hr:Rch (z1c a) [a.IDs.idxOf t] (a.IDs.idxOf x)):x∈b.IDs :=
 zp5 Ga Fa Gb Fb hc (l:=[t]) (fun z hz=>by rw [List.mem_singleton] at hz; subst hz; exact ht) ⟨hx, by
  rcases zld.1 hr with h | ⟨s,h1,h2⟩
  ·
   rw [List.mem_singleton] at h
   exact .inl (by rw [List.mem_singleton]; exact zi5 hta h)
  ·
   rw [List.mem_singleton] at h1
   subst h1
   exact .inr ⟨t, by simp,hta,h2⟩⟩
theorem zl2 (Ga:z4j a) (Gb:z4j b) (wa:z0v a) (wb:z0v b) (ha:z11 a=some 0) (hb:z11 b=some 0) (ha':z0b a=some 0) (hb':z0b b=some 0) (Fa:Fit a 16) (Fb:Fit b 16) (hcl:z7h a b) :
  ∃ w d,zb1 a b=some (z5m a b,((zuh (zew (d.map (bts a)) d.length)).length:Int))∧zn6 a w (zat b (top b b.Ops.length)) d∧(∀ x,x∈w↔x∈zat a (top a a.Ops.length)∧x∉b.IDs)∧d.length≤16:=by
 obtain ⟨x,x1,x2,x3,x4⟩:=zmg Ga ha ha'
 obtain ⟨y,y1,y2,y3,y4⟩:=zmg Gb hb hb'
 obtain ⟨w,w1,w2,w3,w4⟩:=zqx Gb hb' x x3
 obtain ⟨d,d1,d2,P⟩:=zp3 Ga Fa ha ha' w y (by omega) y3
 have hyb:∀ z∈y,z∈b.IDs:=fun z hz=>by rw [y4] at hz; exact ((zf4 Gb.e).1 hz).1
 have hdin:∀ z∈d,z∈a.IDs:=fun z hz=>((P.mem z).1 hz).1.1
 have hd16:d.length≤16:=by
  have:=z7s _ _ P.nd hdin
  have:=Fa.len; have:=Fa.ids
  omega
 have M0:Mid a b b d 0:=⟨⟨Fb.ids, by have:=Fb.len; omega,Fb.ri,Fb.op⟩,ziz Gb Fb, fun o ho=>zwi wb ho, fun z=>by simp, fun z o h=>.inr h⟩
 obtain ⟨s,s1,s2,M⟩:=zxx Ga Fa (by omega) wa ha Gb Fb (by omega) hcl hyb P hd16 _ 0 b rfl (Nat.zero_le _) M0
 have hs:s=z5m a b:=by
  refine zgn M.fit (zal Fa Fb) fun z=>?_
  rw [zbb Fa Fb]
  have hM:=M.ids z
  rw [List.take_length] at hM
  cases hz:z48 s z with
  | some o =>
   rcases M.look z o hz with h | h
   ·
    rw [h]; rfl
   ·
    cases ho:z48 a z with
    | none=>rw [h]; rfl
    | some q=>rw [(zch Fa Fb).1 hcl z q o ho h]; rfl
  | none =>
   have hn:z∉s.IDs:=fun hc=>by
    obtain ⟨o,ho⟩:=zbz M.fit hc
    rw [hz] at ho; simp at ho
   have hzb:z∉b.IDs:=fun hc=>hn (hM.2 (.inl hc))
   have hza:z∉a.IDs:=fun hc=>by
    obtain ⟨t,t1,t2,t3⟩:=z13b Ga ha (a.IDs.idxOf z) (zft Ga hc)
    have htl:t<a.IDs.length:=by have:=Ga.e.ids; omega
    have hta:ze1 a t∈a.IDs:=by rw [z6d htl]; exact List.getElem_mem _
    have htx:a.IDs.idxOf (ze1 a t)=t:=zes Ga.e t1
    have htb:ze1 a t∉b.IDs:=fun hb=>hzb (z114 Ga Fa Gb Fb hcl hb hta hc (by rw [htx]; exact t3))
    have htw:ze1 a t∈w:=by rw [w4,x4]; exact ⟨(zf4 Ga.e).2 ⟨hta, by rw [htx]; exact t2⟩,htb⟩
    refine hn (hM.2 (.inr ((P.mem z).2 ⟨⟨hc,?_⟩, fun hk=>hzb (zp5 Ga Fa Gb Fb hcl hyb hk)⟩)))
    rcases zld.1 t3 with h | ⟨q,h1,h2⟩
    ·
     rw [List.mem_singleton] at h
     have:z=ze1 a t:=by rw [← h]; exact (zcd hc).symm
     rw [this]; exact .inl htw
    ·
     rw [List.mem_singleton] at h1
     subst h1
     exact .inr ⟨ze1 a q,htw,hta, by rw [htx]; exact h2⟩
   rw [zf2 hza,zf2 hzb]; rfl
 refine ⟨w,d,?_, by rw [← y4]; exact P, fun z=>by rw [w4,x4],hd16⟩
 rw [← hs]
 unfold zb1
 rw [x1,y1]
 simp only [bS]
 rw [w1]
 simp only [bS]
 rw [d1,zo4 Gb hb hb' Fb (by omega)]
 simp only [bS]
 rw [show ((b,(0:Int)):z00 × Int)=(b,((0:Nat):Int)) from rfl,s1,zoc Ga wa ha d (by omega) hdin]
 simp only [bS]
end
section
open Go
theorem okB_ {y:UInt32} {st:UInt64} {P:List O8} {sg:z0c} (hp:P.length≤4) (h:zgi (zhz y st P sg)=0):OkN (zhz y st P sg):=⟨h, by show (P.map idv).length≤4; rw [List.length_map]; exact hp, by show ([]:List UInt8).length≤100; simp, by show ([]:List UInt8).length≤100; simp, by show inI 0; unfold inI; omega⟩
theorem wfB_ {y:UInt32} {st:UInt64} {P:List O8} {sg:z0c} (hp:P.length≤4):zbu (zhz y st P sg):=by
 have h4:(P.map idv).length≤4:=by rw [List.length_map]; exact hp
 refine ⟨trivial,⟨fun x _ y _=>trivial,Nat.le_trans h4 (by omega)⟩,trivial,?_,?_⟩
 ·
  refine ⟨trivial,?_,⟨trivial,?_,trivial,?_,trivial⟩,trivial⟩
  ·
   show ([]:List UInt8).length≤_; simp
  ·
   show inI 0; unfold inI; omega
  ·
   show ([]:List UInt8).length≤_; simp
 ·
  exact ⟨⟨trivial,trivial,trivial⟩,trivial⟩
theorem z183:z5u [idv ib,idv ia,idv id4,idv ic]=true:=by
 have h:=zr6 [ib,ia,id4,ic]
 rw [show zvi [ib,ia,id4,ic]=true by decide +kernel] at h
 exact h
theorem pw27:kd (idv ib)<kd (idv ia)∧kd (idv ia)<kd (idv id4)∧kd (idv id4)<kd (idv ic) :=
 ⟨zds z183 (i:=0) (j:=1) (by simp) (by simp) (by omega),zds z183 (i:=1) (j:=2) (by simp) (by simp) (by omega),zds z183 (i:=2) (j:=3) (by simp) (by simp) (by omega)⟩
theorem okA:OkN xA:=okB_ (by simp) (zx3 runA)
theorem okB:OkN xB:=okB_ (by simp) (zx3 runB)
theorem okC:OkN xC:=okB_ (by simp) (zx3 runC)
theorem okD:OkN xD:=okB_ (by simp) (zx3 runD)
theorem jA:oid xA=idv ia:=(zqj runA).2.2.2.2.2
theorem jB:oid xB=idv ib:=(zqj runB).2.2.2.2.2
theorem jC:oid xC=idv ic:=(zqj runC).2.2.2.2.2
theorem jD:oid xD=idv id4:=(zqj runD).2.2.2.2.2
abbrev gA:z00:=⟨[idv ib,idv ia,idv ic],[xB,xA,xC]⟩
abbrev gB:z00:=⟨[idv ia],[xA]⟩
abbrev gC:z00:=⟨[idv ia,idv id4],[xA,xD]⟩
theorem incA:z5u [idv ib,idv ia,idv ic]=true:=by
 obtain ⟨h1,h2,h3⟩:=pw27
 rw [z8e]
 simp only [List.pairwise_cons,List.mem_cons,List.not_mem_nil,or_false]
 refine ⟨?_,?_,⟨fun z hz=>absurd hz id,List.Pairwise.nil⟩⟩
 ·
  rintro z (rfl | rfl)
  ·
   exact h1
  ·
   omega
 ·
  rintro z rfl; omega
theorem incC:z5u [idv ia,idv id4]=true:=by
 obtain ⟨h1,h2,h3⟩:=pw27
 rw [z8e]
 simp only [List.pairwise_cons,List.mem_cons,List.not_mem_nil,or_false]
 exact ⟨fun z hz=>by subst hz; exact h2,⟨fun z hz=>absurd hz id,List.Pairwise.nil⟩⟩
theorem inc1 (z:ID):z5u [z]=true:=by rw [z8e]; simp
theorem inc0:z5u []=true:=by rw [z8e]; simp
theorem isA:Fit gA 60∧zka gA:=by
 have i0:[idv ib,idv ia,idv ic].idxOf (idv ib)=0:=z6z incA (k:=0) (by simp)
 have i1:[idv ib,idv ia,idv ic].idxOf (idv ia)=1:=z6z incA (k:=1) (by simp)
 refine zoj [1,0,2] rfl (by simp) incA fun i hi=>?_
 match i,hi with
 | 0,_=>exact ⟨okB,jB,inc1 _, fun p hp=>by
   have hp:p∈[idv ia]:=hp
   rw [List.mem_singleton] at hp
   subst hp
   exact ⟨by simp, by rw [i1]; decide⟩⟩
 | 1,_=>exact ⟨okA,jA,inc0, fun p hp=>by
   have hp:p∈([]:List ID):=hp
   simp at hp⟩
 | 2,_=>exact ⟨okC,jC,inc1 _, fun p hp=>by
   have hp:p∈[idv ib]:=hp
   rw [List.mem_singleton] at hp
   subst hp
   exact ⟨by simp, by rw [i0]; decide⟩⟩
theorem isB:Fit gB 60∧zka gB:=by
 refine zoj [0] rfl (by simp) (inc1 _) fun i hi=>?_
 match i,hi with
 | 0,_=>exact ⟨okA,jA,inc0, fun p hp=>by
   have hp:p∈([]:List ID):=hp
   simp at hp⟩
theorem isC:Fit gC 60∧zka gC:=by
 have i0:[idv ia,idv id4].idxOf (idv ia)=0:=z6z incC (k:=0) (by simp)
 refine zoj [0,1] rfl (by simp) incC fun i hi=>?_
 match i,hi with
 | 0,_=>exact ⟨okA,jA,inc0, fun p hp=>by
   have hp:p∈([]:List ID):=hp
   simp at hp⟩
 | 1,_=>exact ⟨okD,jD,inc1 _, fun p hp=>by
   have hp:p∈[idv ia]:=hp
   rw [List.mem_singleton] at hp
   subst hp
   exact ⟨by simp, by rw [i0]; decide⟩⟩
theorem ofB:z68 [xA]=some (gB,0):=z10l isB.1 isB.2 (fun o=>Iff.rfl) (by simp) (fun o ho=>by rw [List.mem_singleton] at ho; subst ho; exact okA) (by simp)
theorem ofC:z68 [xA,xD]=some (gC,0):=z10l isC.1 isC.2 (fun o=>Iff.rfl) (by simp) (fun o ho=>by
 simp only [List.mem_cons,List.not_mem_nil,or_false] at ho
 rcases ho with rfl | rfl
 ·
  exact okA
 ·
  exact okD) (by
 rw [List.map_cons,List.map_cons,List.map_nil,jA,jD]; exact za1 incC)
theorem ofA:z68 [xA,xB,xC]=some (gA,0):=z10l isA.1 isA.2 (fun o=>by
 simp only [List.mem_cons,List.not_mem_nil,or_false]
 constructor
 ·
  rintro (h | h | h) <;> simp [h]
 ·
  rintro (h | h | h) <;> simp [h]) (by simp) (fun o ho=>by
 simp only [List.mem_cons,List.not_mem_nil,or_false] at ho
 rcases ho with rfl | rfl | rfl
 ·
  exact okA
 ·
  exact okB
 ·
  exact okC) (by
 rw [List.map_cons,List.map_cons,List.map_cons,List.map_nil,jA,jB,jC]
 have h:=za1 incA
 simp only [List.nodup_cons,List.mem_cons,List.not_mem_nil,or_false,not_or,not_false_eq_true,List.nodup_nil,and_true] at h ⊢
 obtain ⟨⟨h1,h2⟩,h3⟩:=h
 exact ⟨⟨fun e=>h1 e.symm,h3⟩,h2⟩)
end
section
open Go
variable {g:z00} {n:Nat}
theorem zw5 {a b:List ID} (ha:a.length≤60) (hb:b.length≤60):zq4 0 a b=0:=by
 unfold zq4
 rw [if_neg (by simp),if_neg (by omega),if_neg (by omega)]
theorem z13s (G:z4j g) (h1:z11 g=some 0) (l:List ID) (hl:l.length≤60):∃ d,zfa g l=some (d,0)∧z5u d=true∧∀ x,x∈d↔x∈l∧x∉g.IDs:=by
 obtain ⟨d,d1,d2,d3⟩:=zql G.e l hl
 refine ⟨d,?_,d2,d3⟩
 unfold zfa
 rw [z11h h1,zw5 hl (by simp)]
 simp only [bS]
 rw [if_neg (by simp),d1]
 rfl
theorem z120 (G:z4j g) (F:Fit g n) (h1:z11 g=some 0) (h2:z0b g=some 0) (a b:List ID) (ha:a.length≤60) (hb:b.length≤60):∃ d,zdo g a b=some (d,0)∧zn6 g a b d:=by
 obtain ⟨d,d1,-,P⟩:=zp3 G F h1 h2 a b ha hb
 refine ⟨d,?_,P⟩
 unfold zdo
 rw [z11q h1,zw5 ha hb]
 simp only [bS]
 rw [if_neg (by simp),d1]
 rfl
end
section
open Go
theorem zno:z4j gA:=zms isA.1 isA.2
theorem zsu:z4j gB:=zms isB.1 isB.2
theorem wfA:z0v gA:=⟨⟨fun x _ y _=>trivial, by simp⟩,⟨fun o ho=>by
 simp only [List.mem_cons,List.not_mem_nil,or_false] at ho
 rcases ho with rfl | rfl | rfl
 ·
  exact wfB_ (by simp)
 ·
  exact wfB_ (by simp)
 ·
  exact wfB_ (by simp), by simp⟩,trivial⟩
theorem wfB:z0v gB:=⟨⟨fun x _ y _=>trivial, by simp⟩,⟨fun o ho=>by
 rw [List.mem_singleton] at ho
 subst ho
 exact wfB_ (by simp), by simp⟩,trivial⟩
theorem zd8 {g:z00} (G:z4j g) (w:z0v g):z11 g=some 0∧z0b g=some 0:=by
 obtain ⟨c,c1,c2,c3⟩:=zg4 w
 have hc:=c3.2 G
 subst hc
 exact ⟨c1,c2⟩
theorem idxA:gA.IDs.idxOf (idv ib)=0∧gA.IDs.idxOf (idv ia)=1∧gA.IDs.idxOf (idv ic)=2 :=
 ⟨z6z (l:=gA.IDs) incA (k:=0) (by simp),z6z (l:=gA.IDs) incA (k:=1) (by simp),z6z (l:=gA.IDs) incA (k:=2) (by simp)⟩
theorem z12b:z1c gA 0=[1]∧z1c gA 1=[]∧z1c gA 2=[0]∧∀ n,z1c gA (n+3)=[]:=by
 obtain ⟨i0,i1,i2⟩:=idxA
 refine ⟨?_,rfl,?_, fun n=>rfl⟩
 ·
  show [gA.IDs.idxOf (idv ia)]=[1]; rw [i1]
 ·
  show [gA.IDs.idxOf (idv ib)]=[0]; rw [i0]
theorem z18l:∀ n,z1c gB n=[]
 | 0=>rfl
 | n+1=>rfl
theorem z150 {x:ID}:z6b gA [idv ic] x↔x∈gA.IDs:=by
 obtain ⟨i0,i1,i2⟩:=idxA
 obtain ⟨p0,p1,p2,p3⟩:=z12b
 refine ⟨fun h=>h.1, fun h=>⟨h,?_⟩⟩
 have h':=h
 simp only [List.mem_cons,List.not_mem_nil,or_false] at h'
 rcases h' with rfl | rfl | rfl
 ·
  exact .inr ⟨idv ic, by simp, by simp, by rw [i2,i0,p2]; exact .base (by simp)⟩
 ·
  exact .inr ⟨idv ic, by simp, by simp, by rw [i2,i1,p2]; exact .step (.base (i:=0) (by simp)) (by rw [p0]; simp)⟩
 ·
  exact .inl (by simp)
theorem z158 {x:ID}:z6b gA [idv ia] x↔x=idv ia:=by
 obtain ⟨i0,i1,i2⟩:=idxA
 obtain ⟨p0,p1,p2,p3⟩:=z12b
 constructor
 ·
  rintro ⟨h,h1 | ⟨z,h1,h2,h3⟩⟩
  ·
   exact List.mem_singleton.1 h1
  ·
   rw [List.mem_singleton] at h1
   subst h1
   rw [i1,p1] at h3
   rcases zld.1 h3 with h4 | ⟨s,h4,-⟩ <;> simp at h4
 ·
  rintro rfl
  exact ⟨by simp,.inl (by simp)⟩
theorem ne_D:idv id4∉gA.IDs:=fun h=>by
 obtain ⟨h1,h2,h3⟩:=pw27
 simp only [List.mem_cons,List.not_mem_nil,or_false] at h
 rcases h with h | h | h
 ·
  rw [h] at h2; omega
 ·
  rw [h] at h2; omega
 ·
  rw [h] at h3; omega
theorem zqn {x:ID}:¬ z6b gA [idv id4] x:=by
 rintro ⟨h,h1 | ⟨z,h1,h2,h3⟩⟩
 ·
  rw [List.mem_singleton] at h1; subst h1; exact ne_D h
 ·
  rw [List.mem_singleton] at h1; subst h1; exact ne_D h2
end
section
open Go
theorem neAB:idv ia≠idv ib∧idv ia≠idv ic∧idv ib≠idv ic:=by
 have h:=za1 incA
 simp only [List.nodup_cons,List.mem_cons,List.not_mem_nil,or_false,not_or,not_false_eq_true,List.nodup_nil,and_true] at h
 exact ⟨fun e=>h.1.1 e.symm,h.2,h.1.2⟩
theorem z12u:z48 gA (idv ib)=some xB∧z48 gA (idv ia)=some xA∧z48 gA (idv ic)=some xC:=by
 obtain ⟨i0,i1,i2⟩:=idxA
 refine ⟨?_,?_,?_⟩
 ·
  unfold z48; rw [if_pos (by simp),i0]; rfl
 ·
  unfold z48; rw [if_pos (by simp),i1]; rfl
 ·
  unfold z48; rw [if_pos (by simp),i2]; rfl
theorem zxi {d:List ID} (P:zn6 gA [idv ic] [idv ia] d):d=[idv ib,idv ic]:=by
 obtain ⟨n1,n2,n3⟩:=neAB
 obtain ⟨l1,l2,l3⟩:=z12u
 have hm:∀ x,x∈d↔x∈[idv ib,idv ic]:=fun x=>by
  rw [P.mem,z150,z158]
  simp only [List.mem_cons,List.not_mem_nil,or_false]
  constructor
  ·
   rintro ⟨h | h | h,hn⟩
   ·
    exact .inl h
   ·
    exact absurd h hn
   ·
    exact .inr h
  ·
   rintro (rfl | rfl)
   ·
    exact ⟨.inl rfl, fun e=>n1 e.symm⟩
   ·
    exact ⟨.inr (.inr rfl), fun e=>n2 e.symm⟩
 have hl:d.length=2:=zos P.nd (q:=[idv ib,idv ic]) (by simp [n3]) hm
 obtain ⟨p,q,rfl⟩:∃ p q,d=[p,q]:=by
  match d,hl with
  | [p,q],_=>exact ⟨p,q,rfl⟩
 have hp:=(hm p).1 (by simp)
 have hq:=(hm q).1 (by simp)
 have hpq:p≠q:=by have:=P.nd; simp at this; exact this
 simp only [List.mem_cons,List.not_mem_nil,or_false] at hp hq
 rcases hp with rfl | rfl
 ·
  rcases hq with rfl | rfl
  ·
   exact absurd rfl hpq
  ·
   rfl
 ·
  exfalso
  rcases P.topo 0 (by simp) xC l3 (idv ib) (by show idv ib∈[idv ib]; simp) with h | h
  ·
   simp at h
  ·
   exact n1 (z158.1 h).symm
theorem zyl {d:List ID} (P:zn6 gA [idv ic] [idv id4] d):d=[idv ia,idv ib,idv ic]:=by
 obtain ⟨n1,n2,n3⟩:=neAB
 obtain ⟨l1,l2,l3⟩:=z12u
 have hm:∀ x,x∈d↔x∈[idv ia,idv ib,idv ic]:=fun x=>by
  rw [P.mem,z150]
  simp only [List.mem_cons,List.not_mem_nil,or_false]
  constructor
  ·
   rintro ⟨h | h | h,hn⟩
   ·
    exact .inr (.inl h)
   ·
    exact .inl h
   ·
    exact .inr (.inr h)
  ·
   rintro (rfl | rfl | rfl)
   ·
    exact ⟨.inr (.inl rfl),zqn⟩
   ·
    exact ⟨.inl rfl,zqn⟩
   ·
    exact ⟨.inr (.inr rfl),zqn⟩
 have hl:d.length=3:=zos P.nd (q:=[idv ia,idv ib,idv ic]) (by simp [n1,n2,n3]) hm
 obtain ⟨p,q,r,rfl⟩:∃ p q r,d=[p,q,r]:=by
  match d,hl with
  | [p,q,r],_=>exact ⟨p,q,r,rfl⟩
 have hp:=(hm p).1 (by simp)
 have hq:=(hm q).1 (by simp)
 have hr:=(hm r).1 (by simp)
 have hnd:=P.nd
 simp only [List.nodup_cons,List.mem_cons,List.not_mem_nil,or_false,not_or,not_false_eq_true,List.nodup_nil,and_true] at hnd
 obtain ⟨⟨k1,k2⟩,k3⟩:=hnd
 simp only [List.mem_cons,List.not_mem_nil,or_false] at hp hq hr
 rcases hp with rfl | rfl | rfl
 ·
  rcases hq with rfl | rfl | rfl
  ·
   exact absurd rfl k1
  ·
   rcases hr with rfl | rfl | rfl
   ·
    exact absurd rfl k2
   ·
    exact absurd rfl k3
   ·
    rfl
  ·
   exfalso
   rcases P.topo 1 (by simp) xC l3 (idv ib) (by show idv ib∈[idv ib]; simp) with h | h
   ·
    simp at h; exact n1 h.symm
   ·
    exact zqn h
 ·
  exfalso
  rcases P.topo 0 (by simp) xB l1 (idv ia) (by show idv ia∈[idv ia]; simp) with h | h
  ·
   simp at h
  ·
   exact zqn h
 ·
  exfalso
  rcases P.topo 0 (by simp) xC l3 (idv ib) (by show idv ib∈[idv ib]; simp) with h | h
  ·
   simp at h
  ·
   exact zqn h
end
section
open Go
theorem z16g {b c:List UInt8} (h:b.length≤400) (h':c.length≤400):okF [b,c]=true:=by
 have h1:=z15 ([b,c]:List (List UInt8)).length (by simp)
 have h2:=z15 b.length (by omega)
 have h3:=z15 c.length (by omega)
 unfold okF zpb zjo
 simp only [Bool.and_eq_true,decide_eq_true_eq,List.length_append,List.flatMap_cons,List.flatMap_nil,List.length_cons,List.length_nil] at *
 omega
theorem z169 {b c:List UInt8} (h:b.length≤400) (h':c.length≤400):(zuh (zew [b,c] 2)).length=1:=by
 have e1:zew [b,c] 1=some ([],[b]):=rfl
 rw [zmz [b,c] (i:=1) (by simp),e1]
 show (zuh (if okF ([b]++[c]) then some ([],[b]++[c]) else some ([]++[[b]],[c]))).length=1
 rw [show [b]++[c]=[b,c] from rfl,z16g h h',if_pos rfl]
 rfl
end
section
open Go
theorem zib:Fit gA 16:=⟨isA.1.ids, by simp,isA.1.ri,isA.1.op⟩
theorem zlt:Fit gB 16:=⟨isB.1.ids, by simp,isB.1.ri,isB.1.op⟩
theorem idxB:gB.IDs.idxOf (idv ia)=0:=z6z (l:=gB.IDs) isB.1.ri (k:=0) (by simp)
theorem z16w {x:ID}:z48 gB x=if x=idv ia then some xA else none:=by
 by_cases h:x=idv ia
 ·
  subst h
  rw [if_pos rfl]
  unfold z48
  rw [if_pos (by simp),idxB]; rfl
 ·
  rw [if_neg h,zf2 (by simpa using h)]
theorem zoi:z7h gA gB:=(zch zib zlt).2 fun x o q ho hq=>by
 rw [z16w] at hq
 by_cases h:x=idv ia
 ·
  subst h
  rw [if_pos rfl] at hq
  rw [z12u.2.1] at ho
  rw [← Option.some.inj ho,← Option.some.inj hq]
 ·
  rw [if_neg h] at hq; simp at hq
theorem zzc:z7h gB gA:=zni zib zlt zoi
theorem z16o:z5m gA gB=gA:=zgn (zal zib zlt) zib fun x=>by
 rw [zbb zib zlt]
 cases h:z48 gA x with
 | some o=>rfl
 | none =>
  rw [z16w,if_neg (fun e=>by subst e; rw [z12u.2.1] at h; simp at h)]
  rfl
theorem z17d:z5m gB gA=gA:=zgn (zal zlt zib) zib fun x=>by
 rw [zbb zlt zib,z16w]
 by_cases e:x=idv ia
 ·
  subst e; rw [if_pos rfl,z12u.2.1]; rfl
 ·
  rw [if_neg e]; rfl
theorem topB:zat gB (top gB gB.Ops.length)=[idv ia]:=by
 have t:top gB 1 0=true:=zo6.2 fun k hk h=>by rw [z18l] at h; simp at h
 show ([0].filter (top gB 1)).map (ze1 gB)=[idv ia]
 simp only [List.filter_cons,t,List.filter_nil,if_true]
 rfl
theorem topA:zat gA (top gA gA.Ops.length)=[idv ic]:=by
 obtain ⟨p0,p1,p2,p3⟩:=z12b
 have t0:top gA 3 0=false:=by
  rw [← Bool.not_eq_true,zo6]
  intro h
  exact h 2 (by omega) (by rw [p2]; simp)
 have t1:top gA 3 1=false:=by
  rw [← Bool.not_eq_true,zo6]
  intro h
  exact h 0 (by omega) (by rw [p0]; simp)
 have t2:top gA 3 2=true:=zo6.2 fun k hk h=>by
  rcases (show k=0∨k=1∨k=2 by omega) with rfl | rfl | rfl
  ·
   rw [p0] at h; simp at h
  ·
   rw [p1] at h; simp at h
  ·
   rw [p2] at h; simp at h
 show ([0,1,2].filter (top gA 3)).map (ze1 gA)=[idv ic]
 simp only [List.filter_cons,t0,t1,t2,List.filter_nil,if_true,Bool.false_eq_true,if_false]
 rfl
end
section
open Go
theorem zvt {g:z00} {l l':List ID} (h:∀ x,x∈l↔x∈l') (y:ID):z6b g l y↔z6b g l' y:=by
 unfold z6b
 rw [h]
 constructor
 ·
  rintro ⟨h1,h2 | ⟨x,h2,h3⟩⟩
  ·
   exact ⟨h1,.inl h2⟩
  ·
   exact ⟨h1,.inr ⟨x,(h x).1 h2,h3⟩⟩
 ·
  rintro ⟨h1,h2 | ⟨x,h2,h3⟩⟩
  ·
   exact ⟨h1,.inl h2⟩
  ·
   exact ⟨h1,.inr ⟨x,(h x).2 h2,h3⟩⟩
theorem z18e:zb1 gA gB=some (gA,1):=by
 obtain ⟨ca,ca'⟩:=zd8 zno wfA
 obtain ⟨cb,cb'⟩:=zd8 zsu wfB
 obtain ⟨n1,n2,n3⟩:=neAB
 obtain ⟨w,d,e1,P,hw,-⟩:=zl2 zno zsu wfA wfB ca cb ca' cb' zib zlt zoi
 rw [topB] at P
 have hw:∀ x,x∈w↔x∈[idv ic]:=fun x=>by
  rw [hw,topA]
  constructor
  ·
   exact fun h=>h.1
  ·
   intro h
   refine ⟨h,?_⟩
   rw [List.mem_singleton] at h ⊢
   subst h
   exact fun e=>n2 e.symm
 have hd:=zxi (d:=d) ⟨P.len,P.nd, fun x=>(P.mem x).trans (by rw [zvt hw]),P.topo⟩
 rw [e1,z16o,hd]
 have h1:=zpa zno wfA (x:=idv ib) (by simp)
 have h2:=zpa zno wfA (x:=idv ic) (by simp)
 have:=z169 h1 h2
 show some (gA,((zuh (zew [bts gA (idv ib),bts gA (idv ic)] 2)).length:Int))=_
 rw [this]; rfl
theorem z19y:zb1 gB gA=some (gA,0):=by
 obtain ⟨ca,ca'⟩:=zd8 zno wfA
 obtain ⟨cb,cb'⟩:=zd8 zsu wfB
 obtain ⟨w,d,e1,P,hw,-⟩:=zl2 zsu zno wfB wfA cb ca cb' ca' zlt zib zzc
 have hw:∀ x,x∉w:=fun x h=>by
  rw [hw,topB,List.mem_singleton] at h
  obtain ⟨rfl,h⟩:=h
  exact h (by simp)
 have hd:d=[]:=by
  refine List.eq_nil_iff_forall_not_mem.2 fun x hx=>?_
  obtain ⟨⟨-,h | ⟨z,h,-⟩⟩,-⟩:=(P.mem x).1 hx
  ·
   exact hw _ h
  ·
   exact hw _ h
 rw [e1,z17d,hd]
 rfl
end
section
open Go
theorem opA_:z3i 1 []=some xA:=by
 unfold z3i
 have:z4n 5 (⟨0,[],1,⟨1,[],⟨0,0,0,[]⟩⟩,⟨0,0⟩⟩:z07)=some (xA,0):=by
  have e:(⟨0,[],1,⟨1,[],⟨0,0,0,[]⟩⟩,⟨0,0⟩⟩:z07)=askO 1 []:=by
   unfold askO
   rfl
  rw [e]
  exact zwb runA
 rw [this]; rfl
theorem opB_:z3i 2 [idv ia]=some xB:=by
 unfold z3i
 have:z4n 5 (⟨0,[idv ia],2,⟨1,[],⟨0,0,0,[]⟩⟩,⟨0,0⟩⟩:z07)=some (xB,0):=zwb runB
 rw [this]; rfl
theorem opC_:z3i 3 [idv ib]=some xC:=by
 unfold z3i
 have:z4n 5 (⟨0,[idv ib],3,⟨1,[],⟨0,0,0,[]⟩⟩,⟨0,0⟩⟩:z07)=some (xC,0):=zwb runC
 rw [this]; rfl
theorem opD_:z3i 9 [idv ia]=some xD:=by
 unfold z3i
 have:z4n 5 (⟨0,[idv ia],9,⟨1,[],⟨0,0,0,[]⟩⟩,⟨0,0⟩⟩:z07)=some (xD,0):=zwb runD
 rw [this]; rfl
theorem zqs {o:z07} (h:OkN o):z3s o=some (oid o):=zo1 _ (z8y h.good) h.num
theorem z14s:zac=some [xA,xB,xC]:=by
 unfold zac
 rw [opA_]
 simp only [bS]
 rw [zqs okA,jA]
 simp only [bS]
 rw [opB_]
 simp only [bS]
 rw [zqs okB,jB]
 simp only [bS]
 rw [opC_]
 rfl
theorem exch:z4k gA gB=some (gA,gA,1,0):=by
 obtain ⟨ca,ca'⟩:=zd8 zno wfA
 obtain ⟨cb,cb'⟩:=zd8 zsu wfB
 obtain ⟨r,r1,-,r2⟩:=zmh zno zsu ca cb ca' cb' zib zlt (by omega)
 rcases r2 with ⟨-,h⟩ | ⟨rfl,-⟩
 ·
  exact absurd zoi h
 ·
  unfold z4k
  rw [r1]
  simp only [bS]
  rw [if_neg (by simp),z18e]
  simp only [bS]
  rw [z19y]
  rfl
theorem z168:zfa gB [idv ic]=some ([idv ic],0):=by
 obtain ⟨cb,cb'⟩:=zd8 zsu wfB
 obtain ⟨d,d1,d2,d3⟩:=z13s zsu cb [idv ic] (by simp)
 have:d=[idv ic]:=zco _ _ ((z8e _).1 d2) (List.pairwise_singleton _ _) fun x=>by
  rw [d3]
  refine ⟨fun h=>h.1, fun h=>⟨h, fun e=>?_⟩⟩
  rw [List.mem_singleton] at h e
  exact neAB.2.1 (e.symm.trans h)
 rw [d1,this]
theorem z17e:zdo gA [idv ic] [idv ia]=some ([idv ib,idv ic],0):=by
 obtain ⟨ca,ca'⟩:=zd8 zno wfA
 obtain ⟨d,d1,P⟩:=z120 zno isA.1 ca ca' [idv ic] [idv ia] (by simp) (by simp)
 rw [d1,zxi P]
theorem z17g:zdo gA [idv ic] [idv id4]=some ([idv ia,idv ib,idv ic],0):=by
 obtain ⟨ca,ca'⟩:=zd8 zno wfA
 obtain ⟨d,d1,P⟩:=z120 zno isA.1 ca ca' [idv ic] [idv id4] (by simp) (by simp)
 rw [d1,zyl P]
end
section
open Go
theorem zta:zcc=some true:=by
 unfold zcc
 rw [z14s]
 simp only [bS]
 rw [ofA]
 simp only [bS]
 rw [show cut [xA,xB,xC] 0 1=some [xA] from rfl]
 simp only [bS]
 rw [ofB, show idx [xA,xB,xC] 0=some xA from rfl, show idx [xA,xB,xC] 1=some xB from rfl, show idx [xA,xB,xC] 2=some xC from rfl]
 simp only [bS]
 rw [zqs okA,jA]
 simp only [bS]
 rw [zqs okB,jB]
 simp only [bS]
 rw [zqs okC,jC]
 simp only [bS]
 rw [opD_]
 simp only [bS]
 rw [ofC]
 simp only [bS]
 rw [z168]
 simp only [bS]
 rw [z17e]
 simp only [bS]
 rw [zqs okD,jD]
 simp only [bS]
 rw [z17g]
 simp only [bS]
 rw [exch]
 simp only [bS]
 have s:=(isA.1.small (by omega))
 rw [z11w [idv ic] (by simp),z11w [idv ib,idv ic] (by simp),z11w [idv ia,idv ib,idv ic] (by simp),zsg s]
 rfl
end
section
open Go
variable {a b g:z00} {n m:Nat}
theorem zzt (w0:z0v a) (w1:z0v b) (x1:z37 a=some false) (y1:z37 b=some false):∃ r:Int,zak a b=some r∧(r=0→z4j a∧z4j b∧z7h a b∧z11 a=some 0∧z11 b=some 0∧z0b a=some 0∧z0b b=some 0∧Fit a 16∧Fit b 16∧z7u a b=some (z5m a b,0)):=by
 obtain ⟨x,x0,x2⟩:=zj4 a
 obtain ⟨y,y0,y2⟩:=zj4 b
 rw [x1] at x0; cases x0
 rw [y1] at y0; cases y0
 have S0:=x2 rfl
 have S1:=y2 rfl
 obtain ⟨c,c1,c2,c3⟩:=zg4 w0
 obtain ⟨d,d1,d2,d3⟩:=zg4 w1
 obtain ⟨r,r1,r2,r3,r4⟩:=z14q w0 w1 x1 y1
 have hcode1:c≠0→r.2=c:=fun h=>by
  have e:z2s a b=some (⟨[],[]⟩,c):=by
   unfold z2s; rw [c2]; simp only [bS]; rw [if_pos (by simpa using h)]
  rw [e] at r2; cases r2; rfl
 have hcode2:c=0→d≠0→r.2=d:=fun h0 h=>by
  have e:z2s a b=some (⟨[],[]⟩,d):=by
   unfold z2s; rw [c2,d2]; simp only [bS]; rw [if_neg (by simpa using h0),if_pos (by simpa using h)]
  rw [e] at r2; cases r2; rfl
 refine ⟨r.2,z177 c2 d2 r2 hcode1 hcode2, fun hr=>?_⟩
 obtain ⟨G0,G1,hcl,hu,l0,l1⟩:=r3 hr
 have hc0:=c3.2 G0
 have hd0:=d3.2 G1
 subst hc0 hd0
 have hru:r=(z5m a b,0):=Prod.ext hu hr
 rw [hru] at r1
 exact ⟨G0,G1,hcl,c1,d1,c2,d2,⟨G0.e.ids,l0,G0.e.ri,(zwn G0 S0).op⟩,⟨G1.e.ids,l1,G1.e.ri,(zwn G1 S1).op⟩,r1⟩
end
section
open Go
variable {a b g u:z00} {n m:Nat}
theorem zyr (Fa:Fit a n) (Fb:Fit b m) (hc:z7h a b):z5m b a=z5m a b:=zgn (zal Fb Fa) (zal Fa Fb) fun x=>by
 rw [zbb Fb Fa,zbb Fa Fb]
 cases ha:z48 a x with
 | none=>cases z48 b x <;> rfl
 | some o =>
  cases hb:z48 b x with
  | none=>rfl
  | some q=>rw [(zch Fa Fb).1 hc x o q ha hb]
theorem z14z (F:Fit u n):z5m u u=u:=zgn (zal F F) F fun x=>by
 rw [zbb F F]
 cases z48 u x <;> rfl
theorem z14u (Fa:Fit a n) (Fb:Fit b m) {o:z07} (h:o∈(z5m a b).Ops):o∈a.Ops∨o∈b.Ops:=by
 obtain ⟨i,hi,rfl⟩:=List.getElem_of_mem h
 have hg:=zd9 (zal Fa Fb) hi
 rw [zbb Fa Fb] at hg
 generalize (z5m a b).IDs[i]'(by rw [(zal Fa Fb).ids]; exact hi)=x at hg
 cases ho:z48 a x with
 | some q=>rw [ho] at hg; exact .inl (by have:=(zeo ho).2; simp at hg; rw [← hg]; exact this)
 | none=>rw [ho] at hg; exact .inr (zeo (by simpa using hg)).2
theorem z13d (wa:z0v a) (wb:z0v b) (Fa:Fit a n) (Fb:Fit b m) (hn:n+m≤1000):z0v (z5m a b):=z17p (zal Fa Fb) hn fun o ho=>(z14u Fa Fb ho).elim (zwi wa) (zwi wb)
theorem zym (F:Fit u n) (hn:n≤60) (hc:z11 u=some 0):z7u u u=some (u,0):=by
 have hno:z7h u u:=(zch F F).2 fun x o q h1 h2=>by rw [h1] at h2; exact Option.some.inj h2
 have hl:=F.len
 obtain ⟨r,r1,-,r3⟩:=zwm F F (by omega) (by omega)
 rcases r3 with ⟨-,h⟩ | ⟨rfl,-⟩
 ·
  exact absurd hno h
 unfold z7u
 rw [zpl hc hc]
 simp only [bS]
 rw [if_neg (by simp),r1]
 simp only [zue]
 rw [zx7 (by have:=F.ids; omega),zud F (by omega)]
 simp only [bS]
 rw [zw7 F F (by omega) (by omega),z14z F]
 simp only [bS]
 rw [if_neg (by simp; omega)]
theorem z10u (G:z4j u) (F:Fit u n) (hn:n≤60) (hc:z11 u=some 0) (hc':z0b u=some 0) (wu:z0v u):zb1 u u=some (u,0):=by
 obtain ⟨x,x1,-,x3,x4⟩:=zmg G hc hc'
 obtain ⟨w,w1,w2,w3,w4⟩:=zqx G hc' x x3
 have hw:w=[]:=List.eq_nil_iff_forall_not_mem.2 fun z hz=>((w4 z).1 hz).2 (by have:=((w4 z).1 hz).1; rw [x4] at this; exact ((zf4 G.e).1 this).1)
 subst hw
 obtain ⟨d,d1,-,P⟩:=zp3 G F hc hc' [] x (by simp) x3
 have hd:d=[]:=List.eq_nil_iff_forall_not_mem.2 fun z hz=>by
  obtain ⟨⟨-,h⟩,-⟩:=(P.mem z).1 hz
  rcases h with h | ⟨y,hy,-⟩
  ·
   simp at h
  ·
   simp at hy
 subst hd
 have e:iter (z69 u u []) (u,0)=some u:=z1p (by unfold z69; rw [if_neg (by simp)])
 unfold zb1
 rw [x1]
 simp only [bS]
 rw [w1]
 simp only [bS]
 rw [d1,zo4 G hc hc' F hn]
 simp only [bS]
 rw [e,zoc G wu hc [] (by simp) (by simp)]
 rfl
theorem zza (G:z4j u) (F:Fit u n) (hn:n≤60) (hc:z11 u=some 0) (hc':z0b u=some 0) (wu:z0v u):z4k u u=some (u,u,0,0):=by
 unfold z4k
 rw [zym F hn hc]
 simp only [bS]
 rw [if_neg (by simp),z10u G F hn hc hc' wu]
 rfl
theorem zwy (wa:z0v a) (Ga:z4j a) {l r d:List ID} (P:zn6 a l r d):(zuh (zew (d.map (bts a)) d.length)).length≤60:=by
 have:=(z181 (d.map (bts a)) (fun x hx=>by
  obtain ⟨y,hy,rfl⟩:=List.mem_map.1 hx
  exact zpa Ga wa ((P.mem y).1 hy).1.1) (by have:=P.len; simpa using this)).1
 simpa using this
theorem z10a (Ga:z4j a) (Gb:z4j b) (wa:z0v a) (wb:z0v b) (ha:z11 a=some 0) (hb:z11 b=some 0) (ha':z0b a=some 0) (hb':z0b b=some 0) (Fa:Fit a 16) (Fb:Fit b 16) (hcl:z7h a b) (hu:z7u a b=some (z5m a b,0)) :
  ∃ c:Nat,z4k a b=some (z5m a b,z5m a b,(c:Int),0):=by
 obtain ⟨w,d,h1,P1,-,-⟩:=zl2 Ga Gb wa wb ha hb ha' hb' Fa Fb hcl
 obtain ⟨v,e,h2,P2,-,-⟩:=zl2 Gb Ga wb wa hb ha hb' ha' Fb Fa (zni Fa Fb hcl)
 have k1:=zwy wa Ga P1
 have k2:=zwy wb Gb P2
 refine ⟨(zuh (zew (d.map (bts a)) d.length)).length+(zuh (zew (e.map (bts b)) e.length)).length,?_⟩
 unfold z4k
 rw [hu]
 simp only [bS]
 rw [if_neg (by simp),h1]
 simp only [bS]
 rw [h2,zyr Fa Fb hcl]
 simp only [bS]
 rw [z1a (by omega) (by omega),Int.natCast_add]
theorem zvm (l:List z07) (hl:l.length≤1000) (hp:∀ o∈l,o.Preds.length≤1000):z1f l l=some true:=by
 have main:=z23 (F:=z1d l l) (b:=(.inr ():Sum Bool Unit)) l.length (fun i=>(i:Int)) (fun i hi=>by
  unfold z1d
  rw [if_pos (by simpa using hi),z0d hi,z0i (by omega)]
  simp only [bS]
  rw [zs2 _ _ (hp _ (List.getElem_mem hi)),decide_eq_true rfl]
  rfl) (by
  unfold z1d
  rw [if_neg (by simp)])
 unfold z1f
 rw [if_neg (by simp)]
 rw [show (0:Int)=((0:Nat):Int) from rfl,main]
 rfl
theorem zyd (F:Fit u n) (hn:n≤60) (hc:z11 u=some 0):zi8 u u=some (true,0):=by
 have h1:=F.len; have h2:=F.ids
 unfold zi8
 rw [zpl hc hc]
 simp only [bS]
 rw [if_neg (by simp),z18f _ _ (by omega),decide_eq_true rfl]
 simp only [bS]
 rw [if_pos trivial,zvm _ (by omega) fun o ho=>by have:=(F.op o ho).1; omega]
 rfl
theorem zvg (a0 a1:z00) (w0:z0v a0) (w1:z0v a1):zav a0 a1=some true:=by
 obtain ⟨x,x1,-⟩:=zj4 a0
 obtain ⟨y,y1,-⟩:=zj4 a1
 unfold zav
 rw [zta]
 simp only [bS]
 rw [x1]
 simp only [bS]
 cases x with
 | true=>rfl
 | false =>
 rw [if_neg (by simp),y1]
 simp only [bS]
 cases y with
 | true=>rfl
 | false =>
 obtain ⟨r,r1,r2⟩:=zzt w0 w1 x1 y1
 rw [if_neg (by simp),r1]
 simp only [bS]
 by_cases hr:r=0
 ·
  obtain ⟨G0,G1,hcl,c1,d1,c2,d2,F0,F1,hu⟩:=r2 hr
  obtain ⟨k,hk⟩:=z10a G0 G1 w0 w1 c1 d1 c2 d2 F0 F1 hcl hu
  have Fu:Fit (z5m a0 a1) 32:=zal F0 F1
  have wu:=z13d w0 w1 F0 F1 (by omega)
  have Gu:z4j (z5m a0 a1):=zms ⟨Fu.ids, by have:=Fu.len; omega,Fu.ri,Fu.op⟩ (zvb F0 F1 (ziz G0 F0) (ziz G1 F1) hcl)
  obtain ⟨e,e1,e2,e3⟩:=zg4 wu
  have he:=e3.2 Gu
  subst he
  have d0:((0:Int) != 0)=false:=rfl
  have d1:((0:Int)==0)=true:=rfl
  rw [hr,if_neg (by simp)]
  simp only [bS]
  rw [if_neg (by simp),hk,hu]
  simp only [bS]
  rw [if_neg (by simp),if_neg (by simp),if_neg (by simp),e2]
  simp only [bS,d0,Bool.false_eq_true,if_false]
  rw [zyd Fu (by omega) e1,zza Gu Fu (by omega) e1 e2 wu]
  simp only [bS,d1,if_true]
  rw [zsg (Fu.small (by omega))]
  rfl
 ·
  rw [if_pos (by simpa using hr)]
  rfl
end
end Go.Proofs.YtefkialcgmohkaaGreatDoor
