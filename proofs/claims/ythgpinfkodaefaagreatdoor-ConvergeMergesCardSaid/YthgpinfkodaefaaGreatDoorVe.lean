import Derived.Test.YthgpinfkodaefaaGreatDoorVd
set_option linter.unusedSimpArgs false
set_option linter.unusedVariables false
namespace Go.Proofs.YthgpinfkodaefaaGreatDoor
section
open Go
def il (l:List Nat):List Int:=l.map fun k:Nat=>(k:Int)
theorem zel (l:List Nat):(il l).length=l.length:=by simp [il]
theorem zzq {l:List Nat} {i:Nat} (h:i<l.length):idx (il l) (i:Int)=some (l[i]:Int):=by
 rw [z0c (by rw [zel]; exact h)]; simp [il]
theorem ztx (l m:List Nat):il (l++m)=il l++il m:=by simp [il]
def tab {α:Type} (n:Nat) (f:Nat→α):List α:=(List.range n).map f
theorem zp2 {α:Type} (n:Nat) (f:Nat→α):(tab n f).length=n:=by simp [tab]
theorem zpv {α:Type} {n:Nat} {f:Nat→α} {i:Nat} (h:i<(tab n f).length):(tab n f)[i]=f i:=by simp [tab]
theorem zec {α:Type} {n:Nat} {f:Nat→α} {i:Nat} (h:i<n):idx (tab n f) (i:Int)=some (f i):=by
 rw [z0c (by rw [zp2]; exact h),zpv]
theorem zma {α:Type} {n:Nat} {f g:Nat→α} {i:Nat} {x:α} (hi:i<n) (h1:g i=x) (h2:∀ j,j<n→j≠i→g j=f j):(tab n f).set i x=tab n g:=by
 apply List.ext_getElem
 ·
  simp [zp2]
 ·
  intro j hj1 hj2
  rw [List.getElem_set,zpv,zpv]
  rw [zp2] at hj2
  split
  ·
   rename_i e; subst e; exact h1.symm
  ·
   rename_i e; exact (h2 j hj2 (fun c=>e c.symm)).symm
theorem zgg {α:Type} {n:Nat} {f g:Nat→α} (h:∀ j,j<n→f j=g j):tab n f=tab n g:=by
 unfold tab
 exact List.map_congr_left fun j hj=>h j (by simpa using hj)
theorem zj8 {α:Type} (n:Nat) (x:α):List.replicate n x=tab n (fun _=>x):=by
 apply List.ext_getElem
 ·
  simp [tab]
 ·
  intro j h1 h2; simp [tab]
def zrx (g:z00) (i:Nat):List ID:=match g.Ops[i]? with | some o=>o.Preds | none=>[]
theorem zav {g:z00} {i:Nat} (h:i<g.Ops.length):zrx g i=(g.Ops[i]).Preds:=by unfold zrx; rw [List.getElem?_eq_getElem h]
def z3m (g:z00) (i:Nat):List Nat:=(zrx g i).map fun x=>g.IDs.idxOf x
structure zd5 (g:z00):Prop where
 len:g.Ops.length≤60
 ids:g.IDs.length=g.Ops.length
 ri:z8d g.IDs=true
 op:∀ i (h:i<g.Ops.length),(g.Ops[i]).Preds.length≤4∧z8d (g.Ops[i]).Preds=true
variable {g:z00}
theorem zd5.four (E:zd5 g) (i:Nat):(zrx g i).length≤4:=by
 unfold zrx
 by_cases h:i<g.Ops.length
 ·
  rw [List.getElem?_eq_getElem h]; exact (E.op i h).1
 ·
  rw [List.getElem?_eq_none (by omega)]; simp
theorem zd5.nodup (E:zd5 g) (i:Nat):(zrx g i).Nodup:=by
 unfold zrx
 by_cases h:i<g.Ops.length
 ·
  rw [List.getElem?_eq_getElem h]; exact zhq (E.op i h).2
 ·
  rw [List.getElem?_eq_none (by omega)]; simp
theorem zoh {l:List ID} {x y:ID} (hx:x∈l) (h:l.idxOf y=l.idxOf x):y=x:=by
 have h1:l.idxOf x<l.length:=List.idxOf_lt_length_of_mem hx
 have h2:l.idxOf y<l.length:=by omega
 have e1:l[l.idxOf x]'h1=x:=by simp
 have e2:l[l.idxOf y]'h2=y:=by simp
 rw [← e1,← e2]; congr 1
def zef (g:z00) (i x:Nat):List Nat:=(List.range i).filter fun k=>decide (x∈z3m g k)
theorem zw6 (g:z00) (i x:Nat):(zef g i x).length≤i:=by
 have:=List.length_filter_le (fun k=>decide (x∈z3m g k)) (List.range i)
 unfold zef; simpa using this
def zf9 (g:z00) (i j x:Nat):List Nat:=zef g i x++(if x∈(z3m g i).take j then [i] else [])
theorem zs0 (g:z00) (i x:Nat):zef g (i+1) x=zf9 g i (z3m g i).length x:=by
 unfold zef zf9
 rw [List.range_succ,List.filter_append,List.take_length]
 by_cases h:x∈z3m g i
 ·
  rw [if_pos h]; simp [zef,h]
 ·
  rw [if_neg h]; simp [zef,h]
theorem zsj (g:z00) (i x:Nat):zf9 g i 0 x=zef g i x:=by unfold zf9; simp
theorem zz6 (E:zd5 g) {i:Nat} (hi:i<g.Ops.length) (s:(List Int) × (List (List Int)) × (List Int) × Int) (hs:s.2.2.2=(i:Int)):∀ (rest pre:List ID),g.Ops[i].Preds=pre++rest →
  iter (z9u g s g.Ops[i]) (tab g.Ops.length (fun x=>il (zf9 g i pre.length x)),(pre.length:Int))=some (if rest.all (fun x=>decide (x∈g.IDs)) then .inr (tab g.Ops.length fun x=>il (zf9 g i (z3m g i).length x)) else .inl (.inl (.inl 40)))
 | [],pre,e=>by
  refine z11 ?_
  unfold z9u
  have:(z3m g i).length=pre.length:=by unfold z3m; rw [zav hi,e]; simp
  rw [if_neg (by rw [e]; simp),this]
  rfl
 | c::rest,pre,e=>by
  have h4:=(E.op i hi).1
  have hn:=E.nodup i
  rw [zav hi] at hn
  have hlen:pre.length<g.Ops[i].Preds.length:=by rw [e]; simp
  have hget:g.Ops[i].Preds[pre.length]'hlen=c:=by simp [e]
  have hpl:(z3m g i).length=g.Ops[i].Preds.length:=by unfold z3m; rw [zav hi]; simp
  have hpg:(z3m g i)[pre.length]'(by omega)=g.IDs.idxOf c:=by
   unfold z3m
   simp only [zav hi,List.getElem_map,hget]
  obtain ⟨k,f1,f2,f3⟩:=zph g (by have:=E.ids; have:=E.len; omega) E.ri c
  rw [List.all_cons]
  by_cases hc:c∈g.IDs
  ·
   rw [decide_eq_true hc,Bool.true_and]
   obtain ⟨rfl,hk⟩:=f2 hc
   rw [E.ids] at hk
   have hsl:=zw6 g i (g.IDs.idxOf c)
   have hll:(zf9 g i pre.length (g.IDs.idxOf c)).length≤i+1:=by
    unfold zf9; rw [List.length_append]; split <;> simp <;> omega
   have hset:(tab g.Ops.length (fun x=>il (zf9 g i pre.length x))).set (g.IDs.idxOf c) (il (zf9 g i pre.length (g.IDs.idxOf c))++[(i:Int)])=tab g.Ops.length (fun x=>il (zf9 g i (pre.length+1) x)):=by
    refine zma hk ?_ fun x hx hne=>?_
    ·
     have h1:¬ g.IDs.idxOf c∈(z3m g i).take pre.length:=by
      intro hm
      have e5:(z3m g i).take pre.length=pre.map fun x=>g.IDs.idxOf x:=by
       unfold z3m
       rw [zav hi,e,List.map_append,List.take_left' (by simp)]
      rw [e5,List.mem_map] at hm
      obtain ⟨y,hy,e6⟩:=hm
      have:=zoh hc e6
      subst this
      rw [e,List.nodup_append] at hn
      exact hn.2.2 y hy y (by simp) rfl
     have h2:g.IDs.idxOf c∈(z3m g i).take (pre.length+1):=by
      rw [List.take_add_one,List.getElem?_eq_getElem (by omega),hpg]; simp
     unfold zf9
     rw [if_pos h2,if_neg h1]; simp [il]
    ·
     have:(x∈(z3m g i).take (pre.length+1))↔(x∈(z3m g i).take pre.length):=by
      rw [List.take_add_one,List.getElem?_eq_getElem (by omega),hpg]
      simp [hne]
     unfold zf9
     simp only [this]
   have hF:z9u g s g.Ops[i] (tab g.Ops.length (fun x=>il (zf9 g i pre.length x)),(pre.length:Int))=some (.inr (tab g.Ops.length (fun x=>il (zf9 g i (pre.length+1) x)),((pre.length+1:Nat):Int))):=by
    have hlen2:=E.len
    unfold z9u
    rw [if_pos (by simpa using hlen)]
    simp only []
    rw [z0c hlen,hget]
    simp only [bS]
    rw [f1]
    simp only [bS]
    rw [decide_eq_true hc,if_neg (by simp),zec hk]
    simp only [bS]
    rw [hs,z18 (by rw [zel]; simp; omega),z0g (by omega)]
    simp only [bS,Int.toNat_natCast]
    rw [hset]
   rw [z1g hF]
   have ih:=zz6 E hi s hs rest (pre++[c]) (by simp [e])
   simp only [List.length_append,List.length_cons,List.length_nil,Nat.zero_add] at ih
   exact ih
  ·
   rw [decide_eq_false hc]
   refine z11 ?_
   unfold z9u
   rw [if_pos (by simpa using hlen)]
   simp only []
   rw [z0c hlen,hget]
   simp only [bS]
   rw [f1]
   simp only [bS]
   rw [decide_eq_false hc]; rfl
def zhu (g:z00):Bool:=g.Ops.all fun o=>o.Preds.all fun x=>decide (x∈g.IDs)
def zfe (g:z00) (i x:Nat):Int:=if x<i then ((z3m g x).length:Int) else 0
def ready (g:z00) (i:Nat):List Nat:=(List.range i).filter fun k=>decide ((z3m g k).length=0)
theorem zte (g:z00) (i:Nat):(ready g i).length≤i:=by
 have:=List.length_filter_le (fun k=>decide ((z3m g k).length=0)) (List.range i)
 unfold ready; simpa using this
theorem zyz (E:zd5 g):∀ (rest pre:List z05),g.Ops=pre++rest →
  iter (z9x g) (tab g.Ops.length (zfe g pre.length),tab g.Ops.length (fun x=>il (zef g pre.length x)),il (ready g pre.length),(pre.length:Int)) =
   some (if rest.all (fun o=>o.Preds.all fun x=>decide (x∈g.IDs)) then .inr (tab g.Ops.length (zfe g g.Ops.length),tab g.Ops.length (fun x=>il (zef g g.Ops.length x)),il (ready g g.Ops.length)) else .inl 40)
 | [],pre,e=>by
  refine z11 ?_
  have hl:g.Ops.length=pre.length:=by rw [e]; simp
  unfold z9x
  rw [if_neg (by simp; omega),hl]
  rfl
 | o::rest,pre,e=>by
  have hlen2:=E.len
  have hlen:pre.length<g.Ops.length:=by rw [e]; simp
  have hget:g.Ops[pre.length]'hlen=o:=by simp [e]
  have h4:=zz6 E hlen (tab g.Ops.length (zfe g pre.length),tab g.Ops.length (fun x=>il (zef g pre.length x)),il (ready g pre.length),(pre.length:Int)) rfl o.Preds [] (by rw [hget]; rfl)
  rw [hget] at h4
  simp only [List.length_nil,zsj] at h4
  have hpl:(z3m g pre.length).length=o.Preds.length:=by unfold z3m; rw [zav hlen,hget]; simp
  rw [List.all_cons]
  cases hc:o.Preds.all fun x=>decide (x∈g.IDs) with
  | false =>
   rw [hc] at h4
   refine z11 ?_
   unfold z9x
   rw [if_pos (by simpa using hlen)]
   simp only []
   rw [z0c hlen,hget]
   simp only [bS]
   rw [show (0:Int)=((0:Nat):Int) from rfl,h4]
   rfl
  | true =>
   rw [hc] at h4
   rw [Bool.true_and]
   have hset:(tab g.Ops.length (zfe g pre.length)).set pre.length (o.Preds.length:Int)=tab g.Ops.length (zfe g (pre.length+1)):=by
    refine zma hlen ?_ fun x hx hne=>?_
    ·
     unfold zfe; rw [if_pos (by omega),hpl]
    ·
     unfold zfe
     by_cases h:x<pre.length
     ·
      rw [if_pos h,if_pos (by omega)]
     ·
      rw [if_neg h,if_neg (by omega)]
   have hrl:=zte g pre.length
   have hready:il (ready g (pre.length+1))=if (o.Preds.length:Int)==0 then il (ready g pre.length)++[(pre.length:Int)] else il (ready g pre.length):=by
    unfold ready
    rw [List.range_succ,List.filter_append,ztx]
    by_cases h:o.Preds.length=0
    ·
     have hd:decide ((z3m g pre.length).length=0)=true:=decide_eq_true (by rw [hpl]; exact h)
     rw [if_pos (by simpa using h),List.filter_cons_of_pos (p:=fun k=>decide ((z3m g k).length=0)) hd]; rfl
    ·
     have hd:¬ decide ((z3m g pre.length).length=0)=true:=by rw [decide_eq_true_iff,hpl]; exact h
     rw [if_neg (by simpa using h),List.filter_cons_of_neg (p:=fun k=>decide ((z3m g k).length=0)) hd]; simp [il]
   have hsucc:(fun x=>il (zf9 g pre.length (z3m g pre.length).length x))=fun x=>il (zef g (pre.length+1) x):=by
    funext x; rw [zs0]
   rw [hsucc] at h4
   have hF:z9x g (tab g.Ops.length (zfe g pre.length),tab g.Ops.length (fun x=>il (zef g pre.length x)),il (ready g pre.length),(pre.length:Int))=some (.inr (tab g.Ops.length (zfe g (pre.length+1)),tab g.Ops.length (fun x=>il (zef g (pre.length+1) x)),il (ready g (pre.length+1)),((pre.length+1:Nat):Int))):=by
    unfold z9x
    rw [if_pos (by simpa using hlen)]
    simp only []
    rw [z0c hlen,hget]
    simp only [bS]
    rw [show (0:Int)=((0:Nat):Int) from rfl,h4]
    simp only [if_true,zr3]
    rw [zec hlen]
    simp only [bS,Int.toNat_natCast]
    rw [hset,zec hlen]
    simp only [bS]
    have e5:zfe g (pre.length+1) pre.length=(o.Preds.length:Int):=by unfold zfe; rw [if_pos (by omega),hpl]
    rw [e5,hready,z0g (by omega)]
    by_cases h:o.Preds.length=0
    ·
     rw [if_pos (by simpa using h),if_pos (by simpa using h),z18 (by rw [zel]; simp; omega)]
     simp only [bS]
    ·
     rw [if_neg (by simpa using h),if_neg (by simpa using h)]
   rw [z1g hF]
   have ih:=zyz E rest (pre++[o]) (by simp [e])
   simp only [List.length_append,List.length_cons,List.length_nil,Nat.zero_add] at ih
   exact ih
theorem zlb (E:zd5 g):∀ (rest pre:List z05),g.Ops=pre++rest →
  iter (z5a g) (pre.length:Int)=some (if rest.all (fun o=>o.Preds.all fun x=>decide (x∈g.IDs)) then .inr () else .inl 40)
 | [],pre,e=>by
  refine z11 ?_
  unfold z5a
  rw [if_neg (by rw [e]; simp)]; rfl
 | o::rest,pre,e=>by
  have hlen2:=E.len
  have hlen:pre.length<g.Ops.length:=by rw [e]; simp
  have hget:g.Ops[pre.length]'hlen=o:=by simp [e]
  have h4:=(E.op _ hlen).1
  rw [hget] at h4
  have hF:z5a g (pre.length:Int)=if (o.Preds.all fun x=>decide (x∈g.IDs)) then some (.inr ((pre.length+1:Nat):Int)) else some (.inl (.inl 40)):=by
   unfold z5a
   rw [if_pos (by simpa using hlen),z0c hlen,hget]
   simp only [bS]
   rw [zzb _ _ (by have:=E.ids; omega) (by omega),z0g (by omega)]
   simp only [bS]
   cases o.Preds.all fun x=>decide (x∈g.IDs) <;> rfl
  rw [List.all_cons]
  cases hc:o.Preds.all fun x=>decide (x∈g.IDs) with
  | false=>rw [hc] at hF; rw [z11 hF]; rfl
  | true =>
   rw [hc] at hF
   rw [z1g hF]
   have ih:=zlb E rest (pre++[o]) (by simp [e])
   simp only [List.length_append,List.length_cons,List.length_nil,Nat.zero_add] at ih
   rw [ih,Bool.true_and]
end
section
open Go
theorem znq {α:Type} {l:List α} (h:l.Nodup) {i j:Nat} (hi:i<l.length) (hj:j<l.length) (e:l[i]=l[j]):i=j:=by
 rcases Nat.lt_trichotomy i j with c | c | c
 ·
  exact absurd e (List.pairwise_iff_getElem.1 h i j hi hj c)
 ·
  exact c
 ·
  exact absurd e.symm (List.pairwise_iff_getElem.1 h j i hj hi c)
inductive Wf (P:Nat→List Nat):Nat→Prop
 | mk (i:Nat):(∀ p∈P i,Wf P p)→Wf P i
def cnt (P:Nat→List Nat) (T:List Nat) (i:Nat):Int:=(((P i).filter fun p=>!decide (p∈T)).length:Int)
theorem zqa {P:Nat→List Nat} {T:List Nat} {i:Nat}:cnt P T i=0↔∀ p∈P i,p∈T:=by
 unfold cnt
 constructor
 ·
  intro h p hp
  have h0:((P i).filter fun p=>!decide (p∈T))=[]:=List.length_eq_zero_iff.1 (by omega)
  rw [List.filter_eq_nil_iff] at h0
  simpa using h0 p hp
 ·
  intro h
  have h0:((P i).filter fun p=>!decide (p∈T))=[]:=by
   rw [List.filter_eq_nil_iff]
   intro p hp
   simpa using h p hp
  rw [h0]; rfl
theorem zup (P:Nat→List Nat) (i:Nat):cnt P [] i=((P i).length:Int):=by
 unfold cnt
 rw [List.filter_eq_self.2 (fun a _=>by simp)]
theorem z12l (P:Nat→List Nat) (T:List Nat) (i:Nat):cnt P T i≤((P i).length:Int):=by
 unfold cnt
 have:=List.length_filter_le (fun p=>!decide (p∈T)) (P i)
 omega
theorem zfn {T:List Nat} {x:Nat} (hx:x∉T):∀ l:List Nat,l.Nodup→(l.filter fun p=>!decide (p∈T)).length=(l.filter fun p=>!decide (p∈T++[x])).length+(if x∈l then 1 else 0)
 | [],_=>by simp
 | a::l,h=>by
  have hn:=List.nodup_cons.1 h
  have ih:=zfn hx l hn.2
  by_cases ha:a=x
  ·
   subst ha
   rw [if_neg hn.1] at ih
   rw [if_pos (by simp),List.filter_cons_of_pos (by simpa using hx),List.filter_cons_of_neg (by simp),List.length_cons,ih]
  ·
   have e:(x∈a::l)↔(x∈l):=by
    rw [List.mem_cons]; exact ⟨fun h=>h.resolve_left fun e=>ha e.symm,.inr⟩
   by_cases hT:a∈T
   ·
    rw [List.filter_cons_of_neg (by simp [hT]),List.filter_cons_of_neg (by simp [hT]),ih]
    simp only [e]
   ·
    rw [List.filter_cons_of_pos (by simp [hT]),List.filter_cons_of_pos (by simp [hT,ha]),List.length_cons,List.length_cons,ih]
    simp only [e]; omega
theorem zzl {P:Nat→List Nat} {T:List Nat} {x i:Nat} (hx:x∉T) (hn:(P i).Nodup) (hi:x∈P i):cnt P T i=cnt P (T++[x]) i+1:=by
 unfold cnt
 rw [zfn hx _ hn,if_pos hi]; omega
theorem z10r {P:Nat→List Nat} {T:List Nat} {x i:Nat} (hx:x∉T) (hn:(P i).Nodup) (hi:x∉P i):cnt P T i=cnt P (T++[x]) i:=by
 unfold cnt
 rw [zfn hx _ hn,if_neg hi]; omega
structure z104 (P:Nat→List Nat) (n:Nat):Prop where
 n60:n≤60
 nodup:∀ i,(P i).Nodup
 four:∀ i,(P i).length≤4
 lt:∀ i,∀ p∈P i,p<n
def over (P:Nat→List Nat) (n x:Nat):List Nat:=(List.range n).filter fun k=>decide (x∈P k)
theorem zqb {P:Nat→List Nat} {n x k:Nat}:k∈over P n x↔k<n∧x∈P k:=by unfold over; simp
theorem zs3 (P:Nat→List Nat) (n x:Nat):(over P n x).Nodup:=List.Pairwise.filter _ List.nodup_range
structure Got (P:Nat→List Nat) (n:Nat) (Q:List Nat):Prop where
 nodup:Q.Nodup
 lt:∀ x∈Q,x<n
 wf:∀ x∈Q,Wf P x
theorem Got.len {P:Nat→List Nat} {n:Nat} {Q:List Nat} (h:Got P n Q):Q.length≤n:=by
 have:=zd9 Q (List.range n) h.nodup fun x hx=>by simpa using h.lt x hx
 simpa using this
variable {P:Nat→List Nat} {n:Nat}
theorem z126 (E:z104 P n) (Q:List Nat) (pos:Nat) (hp:pos<Q.length) (hQ:Got P n Q) (hd:∀ i,i<n→(i∈Q↔cnt P (Q.take pos) i=0)) :
  ∃ b:List Int × List Int,iter (z9v (il (over P n Q[pos]))) (tab n (cnt P (Q.take pos)),il Q,0)=some b∧∃ R,b=(tab n (cnt P ((Q++R).take (pos+1))),il (Q++R))∧Got P n (Q++R)∧∀ i,i<n→(i∈Q++R↔cnt P ((Q++R).take (pos+1)) i=0):=by
 have hx:Q[pos]∉Q.take pos:=by
  intro hm
  obtain ⟨j,hj,e⟩:=List.getElem_of_mem hm
  rw [List.getElem_take] at e
  rw [List.length_take] at hj
  have:=znq hQ.nodup _ _ e
  omega
 have htk:∀ R:List Nat,(Q++R).take (pos+1)=Q.take pos++[Q[pos]]:=fun R=>by
  rw [List.take_append_of_le_length (by omega),List.take_add_one,List.getElem?_eq_getElem hp]; rfl
 let T:=Q.take pos
 let x:=Q[pos]
 have hwx:Wf P x:=hQ.wf x (List.getElem_mem hp)
 have hwT:∀ y∈T,Wf P y:=fun y hy=>hQ.wf y (List.mem_of_mem_take hy)
 let c:=fun (j i:Nat)=>if i∈(over P n x).take j then cnt P (T++[x]) i else cnt P T i
 have hc_in:∀ j i,i∈(over P n x).take j→c j i=cnt P (T++[x]) i:=fun j i h=>if_pos h
 have hc_out:∀ j i,i∉(over P n x).take j→c j i=cnt P T i:=fun j i h=>if_neg h
 have hcnt2:∀ i,cnt P (T++[x]) i=0→Wf P i:=fun i hi=>.mk i fun p hpi=>by
  have:=zqa.1 hi p hpi
  rcases List.mem_append.1 this with h | h
  ·
   exact hwT p h
  ·
   rw [List.mem_singleton] at h; subst h; exact hwx
 have main:=zaf (F:=z9v (il (over P n x))) (over P n x).length
  (fun j st=>∃ R,st=(tab n (c j),il (Q++R),(j:Int))∧Got P n (Q++R)∧∀ i,i<n→(i∈Q++R↔c j i=0))
  (fun b=>∃ R,b=(tab n (c (over P n x).length),il (Q++R))∧Got P n (Q++R)∧∀ i,i<n→(i∈Q++R↔c (over P n x).length i=0))
  (fun j st hj hst=>by
   obtain ⟨R,rfl,hR,hm⟩:=hst
   have hyo:(over P n x)[j]∈over P n x:=List.getElem_mem hj
   obtain ⟨hyn,hyx⟩:=zqb.1 hyo
   have hyt:(over P n x)[j]∉(over P n x).take j:=by
    intro hm
    obtain ⟨k,hk,e⟩:=List.getElem_of_mem hm
    rw [List.getElem_take] at e
    rw [List.length_take] at hk
    have:=znq (zs3 P n x) _ _ e
    omega
   have hcy:c j (over P n x)[j]=cnt P (T++[x]) (over P n x)[j]+1:=by
    rw [hc_out _ _ hyt]; exact zzl hx (E.nodup _) hyx
   have hcl:cnt P T (over P n x)[j]≤4:=by have:=z12l P T (over P n x)[j]; have:=E.four (over P n x)[j]; omega
   have h0:0≤cnt P (T++[x]) (over P n x)[j]:=by unfold cnt; omega
   have hcs:cnt P T (over P n x)[j]=cnt P (T++[x]) (over P n x)[j]+1:=zzl hx (E.nodup _) hyx
   have hnot:(over P n x)[j]∉Q++R:=by
    rw [hm _ hyn,hcy]; omega
   have hcy1:c (j+1) (over P n x)[j]=cnt P (T++[x]) (over P n x)[j]:=by
    refine hc_in _ _ ?_
    rw [List.take_add_one,List.getElem?_eq_getElem hj]
    exact List.mem_append.2 (.inr (List.mem_singleton.2 rfl))
   have hc1:∀ i,i≠(over P n x)[j]→c (j+1) i=c j i:=fun i hne=>by
    show (if _ then _ else _)=(if _ then _ else _)
    have:(i∈(over P n x).take (j+1))↔(i∈(over P n x).take j):=by
     rw [List.take_add_one,List.getElem?_eq_getElem hj,List.mem_append]
     exact ⟨fun h=>h.resolve_right fun e=>hne (List.mem_singleton.1 e),.inl⟩
    simp only [this]
   have hset:(tab n (c j)).set (over P n x)[j] (cnt P (T++[x]) (over P n x)[j])=tab n (c (j+1)):=zma hyn hcy1 fun i _ hne=>hc1 i hne
   have hov:(over P n x).length≤n:=by
    have:=List.length_filter_le (fun k=>decide (x∈P k)) (List.range n)
    unfold over; simpa using this
   have hn60:=E.n60
   have hlen:=hR.len
   have hF:z9v (il (over P n x)) (tab n (c j),il (Q++R),(j:Int))=if cnt P (T++[x]) (over P n x)[j]==0 then some (.inr (tab n (c (j+1)),il (Q++R)++[((over P n x)[j]:Int)],((j+1:Nat):Int))) else some (.inr (tab n (c (j+1)),il (Q++R),((j+1:Nat):Int))):=by
    unfold z9v
    rw [if_pos (by rw [zel]; simpa using hj)]
    simp only []
    rw [zzq hj]
    simp only [bS]
    rw [zec hyn,hcy]
    simp only [bS]
    rw [z0y (x:=_ - 1) (by omega) (by omega), show cnt P (T++[x]) (over P n x)[j]+1 - 1=cnt P (T++[x]) (over P n x)[j] by omega]
    simp only [bS,Int.toNat_natCast]
    rw [hset,zec hyn,hcy1]
    simp only [bS]
    rw [z18 (by rw [zel]; simp only [List.length_cons,List.length_nil]; omega),z0g (by omega)]
    simp only [bS]
   by_cases hz:cnt P (T++[x]) (over P n x)[j]=0
   ·
    rw [if_pos (by simpa using hz)] at hF
    refine ⟨_,hF,R++[(over P n x)[j]],?_,?_,?_⟩
    ·
     rw [← List.append_assoc,ztx (Q++R)]; rfl
    ·
     rw [← List.append_assoc]
     refine ⟨?_,?_,?_⟩
     ·
      rw [List.nodup_append]
      exact ⟨hR.nodup, by simp, fun a ha b hb e=>by
       rw [List.mem_singleton] at hb; subst hb; exact hnot (e ▸ ha)⟩
     ·
      intro y hy
      rcases List.mem_append.1 hy with h | h
      ·
       exact hR.lt y h
      ·
       rw [List.mem_singleton] at h; subst h; exact hyn
     ·
      intro y hy
      rcases List.mem_append.1 hy with h | h
      ·
       exact hR.wf y h
      ·
       rw [List.mem_singleton] at h; subst h; exact hcnt2 _ hz
    ·
     intro i hi
     rw [← List.append_assoc,List.mem_append,List.mem_singleton]
     by_cases hne:i=(over P n x)[j]
     ·
      subst hne
      rw [hcy1]
      exact ⟨fun _=>hz, fun _=>.inr rfl⟩
     ·
      rw [hc1 i hne,← hm i hi]
      exact ⟨fun h=>h.resolve_right hne,.inl⟩
   ·
    rw [if_neg (by simpa using hz)] at hF
    refine ⟨_,hF,R,rfl,hR,?_⟩
    intro i hi
    by_cases hne:i=(over P n x)[j]
    ·
     subst hne
     rw [hcy1]
     exact ⟨fun h=>absurd h hnot, fun h=>absurd h hz⟩
    ·
     rw [hc1 i hne,← hm i hi])
  (fun st hst=>by
   obtain ⟨R,rfl,hR,hm⟩:=hst
   refine ⟨_,?_,R,rfl,hR,hm⟩
   unfold z9v
   rw [if_neg (by rw [zel]; simp)])
  (tab n (cnt P T),il Q,((0:Nat):Int)) 0 (Nat.zero_le _) ⟨[], by rw [List.append_nil]; rfl, by rw [List.append_nil]; exact hQ, by rw [List.append_nil]; exact hd⟩
 have hend:∀ i,i<n→c (over P n x).length i=cnt P (T++[x]) i:=fun i hi=>by
  by_cases hm:i∈over P n x
  ·
   exact hc_in _ _ (by rw [List.take_length]; exact hm)
  ·
   rw [hc_out _ _ (by rw [List.take_length]; exact hm)]
   exact z10r hx (E.nodup i) fun h=>hm (zqb.2 ⟨hi,h⟩)
 obtain ⟨b,h1,R,h2,h3,h4⟩:=main
 refine ⟨b,h1,R,?_,h3, fun i hi=>?_⟩
 ·
  rw [h2,htk R]
  congr 1
  exact zgg hend
 ·
  rw [h4 i hi,hend i hi,htk R]
theorem z138 (E:z104 P n) (s:List Int × List (List Int) × List Int) (hs:s.2.1=tab n fun x=>il (over P n x)):∃ b:Int,iter (zb2 s) (tab n (cnt P []),il ((List.range n).filter fun k=>decide ((P k).length=0)),0)=some b∧∃ Q:List Nat,b=(Q.length:Int)∧Q.Nodup∧∀ i,i∈Q↔i<n∧Wf P i:=by
 have hn60:=E.n60
 refine zbk (F:=zb2 s)
  (fun st=>∃ (Q:List Nat) (pos:Nat),st=(tab n (cnt P (Q.take pos)),il Q,(pos:Int))∧pos≤Q.length∧Got P n Q∧∀ i,i<n→(i∈Q↔cnt P (Q.take pos) i=0))
  (fun st=>n - st.2.2.toNat) _ ?_ _ ⟨(List.range n).filter fun k=>decide ((P k).length=0),0, by rw [List.take_zero]; rfl,Nat.zero_le _,?_,?_⟩
 ·
  rintro st ⟨Q,pos,rfl,h1,h2,h3⟩
  have hlen:=h2.len
  by_cases hp:pos<Q.length
  ·
   right
   obtain ⟨b,e1,R,rfl,e3,e4⟩:=z126 E Q pos hp h2 h3
   have hx:=h2.lt _ (List.getElem_mem hp)
   refine ⟨_,?_,⟨Q++R,pos+1,rfl, by rw [List.length_append]; omega,e3,e4⟩,?_⟩
   ·
    unfold zb2
    rw [if_pos (by rw [zel]; simpa using hp)]
    simp only []
    rw [zzq hp,hs]
    simp only [bS]
    rw [zec hx]
    simp only [bS]
    rw [e1,z0g (by omega)]
    simp only [bS]
   ·
    simp only [Int.toNat_natCast]; omega
  ·
   left
   have hpe:pos=Q.length:=by omega
   subst hpe
   refine ⟨(Q.length:Int),?_,Q,rfl,h2.nodup, fun i=>⟨fun h=>⟨h2.lt i h,h2.wf i h⟩, fun h=>?_⟩⟩
   ·
    unfold zb2
    rw [if_neg (by rw [zel]; simp)]
   ·
    obtain ⟨hi,hw⟩:=h
    rw [List.take_length] at h3
    revert hi
    induction hw with
    | mk i hpi ih =>
     intro hi
     rw [h3 i hi,zqa]
     exact fun p hpp=>ih p hpp (E.lt i p hpp)
 ·
  refine ⟨List.Pairwise.filter _ List.nodup_range, fun x hx=>?_, fun x hx=>?_⟩
  ·
   simp only [List.mem_filter,List.mem_range] at hx; exact hx.1
  ·
   simp only [List.mem_filter,List.mem_range,decide_eq_true_eq] at hx
   refine .mk x fun p hp=>?_
   rw [List.length_eq_zero_iff.1 hx.2] at hp; simp at hp
 ·
  intro i hi
  rw [List.take_zero,zup]
  simp only [List.mem_filter,List.mem_range,decide_eq_true_eq]
  omega
end
section
open Go
variable {g:z00}
theorem zeu (h:zhu g=true) (i:Nat):∀ x∈zrx g i,x∈g.IDs:=by
 unfold zrx
 by_cases hi:i<g.Ops.length
 ·
  rw [List.getElem?_eq_getElem hi]
  unfold zhu at h
  rw [List.all_eq_true] at h
  have:=h _ (List.getElem_mem hi)
  rw [List.all_eq_true] at this
  exact fun x hx=>by simpa using this x hx
 ·
  rw [List.getElem?_eq_none (by omega)]
  exact fun x hx=>by simp at hx
theorem z132 (E:zd5 g) (h:zhu g=true):z104 (z3m g) g.Ops.length:=by
 refine ⟨E.len, fun i=>?_, fun i=>?_, fun i p hp=>?_⟩
 ·
  unfold z3m
  rw [List.Nodup,List.pairwise_map]
  exact (E.nodup i).imp_of_mem fun {a b} ha hb hne e=>hne (zoh (zeu h i b hb) e)
 ·
  unfold z3m; rw [List.length_map]; exact E.four i
 ·
  unfold z3m at hp
  rw [List.mem_map] at hp
  obtain ⟨x,hx,rfl⟩:=hp
  rw [← E.ids]
  exact List.idxOf_lt_length_of_mem (zeu h i x hx)
def zds (g:z00) (i:Nat):ID:=match g.IDs[i]? with | some x=>x | none=>z32
theorem z7f {i:Nat} (h:i<g.IDs.length):zds g i=g.IDs[i]:=by unfold zds; rw [List.getElem?_eq_getElem h]
theorem zqt {x:ID} (h:x∈g.IDs):zds g (g.IDs.idxOf x)=x:=by
 rw [z7f (List.idxOf_lt_length_of_mem h)]; simp
theorem zre (E:zd5 g) {i:Nat} (h:i<g.Ops.length):g.IDs.idxOf (zds g i)=i:=by
 have hi:i<g.IDs.length:=by rw [E.ids]; exact h
 rw [z7f hi]; exact zdh E.ri hi
theorem zla (E:zd5 g) {Q:List Nat} (hQ:∀ x∈Q,x<g.Ops.length) {x:ID} (hx:x∈g.IDs):x∈Q.map (zds g)↔g.IDs.idxOf x∈Q:=by
 rw [List.mem_map]
 constructor
 ·
  rintro ⟨q,hq,rfl⟩; rw [zre E (hQ q hq)]; exact hq
 ·
  exact fun h=>⟨_,h,zqt hx⟩
theorem zsl (E:zd5 g) (h:zhu g=true) {Q:List Nat} (hQ:∀ x∈Q,x<g.Ops.length) (i:Nat):((zrx g i).all fun x=>decide (x∈Q.map (zds g)))=decide (∀ p∈z3m g i,p∈Q):=by
 rw [Bool.eq_iff_iff,List.all_eq_true,decide_eq_true_iff]
 unfold z3m
 constructor
 ·
  intro hx p hp
  rw [List.mem_map] at hp
  obtain ⟨x,hx',rfl⟩:=hp
  exact (zla E hQ (zeu h i x hx')).1 (by simpa using hx x hx')
 ·
  intro hp x hx
  rw [decide_eq_true_iff]
  exact (zla E hQ (zeu h i x hx)).2 (hp _ (List.mem_map.2 ⟨x,hx,rfl⟩))
def zyu (P:Nat→List Nat) (Q:List Nat):Prop:=∀ k (h:k<Q.length),∀ p∈P Q[k],p∈Q.take k
theorem zyu.snoc {P:Nat→List Nat} {Q:List Nat} {i:Nat} (h:zyu P Q) (hi:∀ p∈P i,p∈Q):zyu P (Q++[i]):=by
 intro k hk p hp
 by_cases hkq:k<Q.length
 ·
  rw [List.getElem_append_left hkq] at hp
  rw [List.take_append_of_le_length (by omega)]
  exact h k hkq p hp
 ·
  have hk':k=Q.length:=by simp at hk; omega
  subst hk'
  rw [List.getElem_append_right (by omega)] at hp
  simp at hp
  rw [List.take_left' rfl]
  exact hi p hp
def zik (g:z00) (Q:List Nat) (b:Bool):(List Int) × (List ID) × (List Bool) × Bool:=(il Q,Q.map (zds g),tab g.Ops.length (fun i=>decide (i∈Q)),b)
theorem z136 (E:zd5 g) (h:zhu g=true) (Q:List Nat) (hQ:Got (z3m g) g.Ops.length Q) (hT:zyu (z3m g) Q) :
  ∃ b:Sum (List Int) ((List Int) × (List ID) × (List Bool) × Bool),iter (z3g g (zik g Q true)) 0=some b ∧
   ((∃ i,b=.inr (zik g (Q++[i]) true)∧Got (z3m g) g.Ops.length (Q++[i])∧zyu (z3m g) (Q++[i])∧i<g.Ops.length∧i∉Q∧(∀ p∈z3m g i,p∈Q)∧∀ k,k<i→(∀ p∈z3m g k,p∈Q)→k∈Q)∨(b=.inr (zik g Q false)∧∀ i,i<g.Ops.length→(∀ p∈z3m g i,p∈Q)→i∈Q)):=by
 have hlen:=E.len
 have hql:=hQ.len
 refine zbk (F:=z3g g (zik g Q true)) (fun s=>∃ i:Nat,s=(i:Int)∧i≤g.Ops.length∧∀ k,k<i→(∀ p∈z3m g k,p∈Q)→k∈Q) (fun s=>g.Ops.length - s.toNat) _ ?_ _ ⟨0,rfl,Nat.zero_le _, fun k hk=>by omega⟩
 rintro s ⟨i,rfl,h1,h2⟩
 by_cases hi:i<g.Ops.length
 ·
  have hcond:(idx (tab g.Ops.length fun i=>decide (i∈Q)) (i:Int) >>= fun x12=>if !x12 then idx g.Ops (i:Int) >>= fun x15=>z3n (Q.map (zds g)) x15.Preds >>= fun r17=>some r17 else some false)=some (!decide (i∈Q)&&decide (∀ p∈z3m g i,p∈Q)):=by
   rw [zec hi]
   simp only [bS]
   by_cases hm:i∈Q
   ·
    rw [decide_eq_true hm]; rfl
   ·
    rw [decide_eq_false hm,if_pos (by simp),z0c hi]
    simp only [bS]
    have h4:=(E.op i hi).1
    rw [zzb _ _ (by rw [List.length_map]; omega) (by omega)]
    simp only [bS]
    rw [← zav hi,zsl E h hQ.lt]; rfl
  by_cases hm:i∈Q
  ·
   right
   refine ⟨((i+1:Nat):Int),?_,⟨i+1,rfl,hi, fun k hk hp=>?_⟩, by simp; omega⟩
   ·
    unfold z3g
    rw [if_pos (by simpa using hi)]
    show ((idx (tab g.Ops.length fun i=>decide (i∈Q)) (i:Int) >>= fun x12=>if !x12 then idx g.Ops (i:Int) >>= fun x15=>z3n (Q.map (zds g)) x15.Preds >>= fun r17=>some r17 else some false) >>= _)=_
    rw [hcond,decide_eq_true hm,z0g (by omega)]
    rfl
   ·
    by_cases hk':k=i
    ·
     subst hk'; exact hm
    ·
     exact h2 k (by omega) hp
  ·
   by_cases hp:∀ p∈z3m g i,p∈Q
   ·
    left
    refine ⟨_,?_,.inl ⟨i,rfl,?_,hT.snoc hp,hi,hm,hp,h2⟩⟩
    ·
     have hii:i<g.IDs.length:=by rw [E.ids]; exact hi
     unfold z3g
     rw [if_pos (by simpa using hi)]
     show ((idx (tab g.Ops.length fun i=>decide (i∈Q)) (i:Int) >>= fun x12=>if !x12 then idx g.Ops (i:Int) >>= fun x15=>z3n (Q.map (zds g)) x15.Preds >>= fun r17=>some r17 else some false) >>= _)=_
     rw [hcond,decide_eq_false hm,decide_eq_true hp]
     simp only [bS]
     rw [if_pos (by simp),z0c hii]
     simp only [bS]
     rw [show (zik g Q true).1=il Q from rfl, show (zik g Q true).2.1=Q.map (zds g) from rfl, show (zik g Q true).2.2.1=tab g.Ops.length (fun i=>decide (i∈Q)) from rfl]
     rw [z18 (by rw [zel]; simp only [List.length_cons,List.length_nil]; omega)]
     simp only [bS]
     rw [z18 (by rw [List.length_map]; simp only [List.length_cons,List.length_nil]; omega),zec hi]
     simp only [bS,Int.toNat_natCast]
     rw [zma (g:=fun j=>decide (j∈Q++[i])) hi (by simp) (fun j _ hj=>by simp [hj])]
     unfold zik
     rw [ztx,List.map_append,← z7f hii]
     rfl
    ·
     refine ⟨?_,?_,?_⟩
     ·
      rw [List.nodup_append]
      exact ⟨hQ.nodup, by simp, fun a ha b hb e=>by
       rw [List.mem_singleton] at hb; subst hb; exact hm (e ▸ ha)⟩
     ·
      intro y hy
      rcases List.mem_append.1 hy with h | h
      ·
       exact hQ.lt y h
      ·
       rw [List.mem_singleton] at h; subst h; exact hi
     ·
      intro y hy
      rcases List.mem_append.1 hy with h | h
      ·
       exact hQ.wf y h
      ·
       rw [List.mem_singleton] at h; subst h; exact .mk _ fun p hpp=>hQ.wf p (hp p hpp)
   ·
    right
    refine ⟨((i+1:Nat):Int),?_,⟨i+1,rfl,hi, fun k hk hpk=>?_⟩, by simp; omega⟩
    ·
     unfold z3g
     rw [if_pos (by simpa using hi)]
     show ((idx (tab g.Ops.length fun i=>decide (i∈Q)) (i:Int) >>= fun x12=>if !x12 then idx g.Ops (i:Int) >>= fun x15=>z3n (Q.map (zds g)) x15.Preds >>= fun r17=>some r17 else some false) >>= _)=_
     rw [hcond,decide_eq_false hp,z0g (by omega),Bool.and_false]
     rfl
    ·
     by_cases hk':k=i
     ·
      subst hk'; exact absurd hpk hp
     ·
      exact h2 k (by omega) hpk
 ·
  left
  have:i=g.Ops.length:=by omega
  subst this
  refine ⟨_,?_,.inr ⟨rfl,h2⟩⟩
  unfold z3g
  rw [if_neg (by simp)]
  rfl
theorem zrb (E:zd5 g) (h:zhu g=true):∃ Q:List Nat,z9l g=some (il Q)∧Got (z3m g) g.Ops.length Q∧zyu (z3m g) Q∧∀ i,i∈Q↔i<g.Ops.length∧Wf (z3m g) i:=by
 have hP:=z132 E h
 have hlen:=E.len
 have main:=zbk (F:=z7m g)
  (fun s=>∃ Q b,s=zik g Q b∧Got (z3m g) g.Ops.length Q∧zyu (z3m g) Q∧(b=false→∀ i,i<g.Ops.length→(∀ p∈z3m g i,p∈Q)→i∈Q))
  (fun s=>(g.Ops.length - s.1.length)+(if s.2.2.2 then 1 else 0))
  (fun r=>∃ Q:List Nat,r=il Q∧Got (z3m g) g.Ops.length Q∧zyu (z3m g) Q∧∀ i,i∈Q↔i<g.Ops.length∧Wf (z3m g) i)
  (fun s hs=>by
   obtain ⟨Q,b,rfl,h1,h2,h3⟩:=hs
   have hql:=h1.len
   cases b with
   | false =>
    left
    refine ⟨il Q,rfl,Q,rfl,h1,h2, fun i=>⟨fun hi=>⟨h1.lt i hi,h1.wf i hi⟩, fun hi=>?_⟩⟩
    obtain ⟨hi,hw⟩:=hi
    revert hi
    induction hw with
    | mk i hpi ih=>exact fun hi=>h3 rfl i hi fun p hp=>ih p hp (hP.lt i p hp)
   | true =>
    right
    obtain ⟨r,e1,e2⟩:=z136 E h Q h1 h2
    rcases e2 with ⟨i,rfl,e3,e4,_⟩ | ⟨rfl,e3⟩
    ·
     refine ⟨_,?_,⟨Q++[i],true,rfl,e3,e4, by simp⟩,?_⟩
     ·
      unfold z7m
      exact (if_pos rfl).trans e1
     ·
      have:=e3.len
      simp only [zik,zel,List.length_append,List.length_cons,List.length_nil] at this ⊢
      omega
    ·
     refine ⟨_,?_,⟨Q,false,rfl,h1,h2, fun _=>e3⟩,?_⟩
     ·
      unfold z7m
      exact (if_pos rfl).trans e1
     ·
      simp [zik])
  ([],[],List.replicate g.Ops.length false,true) ⟨[],true, by unfold zik; rw [zj8]; simp [il],⟨by simp, by simp, by simp⟩, fun k hk=>by simp at hk, by simp⟩
 obtain ⟨r,e1,Q,rfl,e2,e3,e4⟩:=main
 refine ⟨Q,?_,e2,e3,e4⟩
 unfold z9l
 rw [zlo (by omega) (by omega)]
 simp only [bS]
 rw [e1]
 simp only [bS]
theorem zxz {n:Nat} {Q:List Nat} (hn:Q.Nodup) (hl:∀ x∈Q,x<n):¬ Q.length<n↔∀ i,i<n→i∈Q:=by
 constructor
 ·
  intro h i hi
  refine Decidable.byContradiction fun hm=>?_
  have:=zd9 (i::Q) (List.range n) (List.nodup_cons.2 ⟨hm,hn⟩) fun x hx=>by
   rcases List.mem_cons.1 hx with rfl | hx
   ·
    simpa using hi
   ·
    simpa using hl x hx
  simp at this; omega
 ·
  intro h
  have:=zd9 (List.range n) Q List.nodup_range fun x hx=>h x (by simpa using hx)
  simp at this; omega
def z13a (g:z00):Prop:=∀ i,i<g.Ops.length→Wf (z3m g) i
theorem zyo (hl:g.Ops.length≤60) (hi:g.IDs.length=g.Ops.length) (ho:∀ i (h:i<g.Ops.length),(g.Ops[i]).Preds.length≤4∧z8d (g.Ops[i]).Preds=true) :
  ∃ c:Int,zgk g=some c∧z9m g=some c∧(c=0↔z8d g.IDs=true∧zhu g=true∧z13a g):=by
 have s0:=zx0 g (by omega)
 unfold zgk z9m
 rw [s0,zo3 _ (by omega)]
 simp only [bS]
 by_cases hr:z8d g.IDs=true
 ·
  rw [if_pos hr,hr,if_neg (by simp),zlo (by omega) (by omega)]
  simp only [bS]
  rw [zlo (by omega) (by omega)]
  simp only [bS]
  have E:zd5 g:=⟨hl,hi,hr,ho⟩
  have h2:=zyz E g.Ops [] rfl
  have h3:=zlb E g.Ops [] rfl
  have i1:tab g.Ops.length (zfe g 0)=List.replicate g.Ops.length 0:=by
   rw [zj8]; exact zgg fun j _=>by unfold zfe; rw [if_neg (by omega)]
  have i2:tab g.Ops.length (fun x=>il (zef g 0 x))=List.replicate g.Ops.length []:=by
   rw [zj8]; exact zgg fun j _=>by unfold zef; simp [il]
  have i3:il (ready g 0)=[]:=by unfold ready; simp [il]
  simp only [List.length_nil] at h2 h3
  rw [i1,i2,i3] at h2
  rw [show (0:Int)=((0:Nat):Int) from rfl] at *
  rw [h2,h3]
  cases ha:g.Ops.all fun o=>o.Preds.all fun x=>decide (x∈g.IDs) with
  | false=>exact ⟨40,rfl,rfl, by simp [zhu,ha]⟩
  | true =>
   have ha':zhu g=true:=ha
   obtain ⟨Q,q1,q2,q3,q4⟩:=zrb E ha'
   have hP:=z132 E ha'
   have i4:tab g.Ops.length (zfe g g.Ops.length)=tab g.Ops.length (cnt (z3m g) []):=zgg fun j hj=>by
    unfold zfe; rw [if_pos hj,zup]
   obtain ⟨b,k1,R,rfl,k2,k3⟩:=z138 hP (tab g.Ops.length (zfe g g.Ops.length),tab g.Ops.length (fun x=>il (zef g g.Ops.length x)),il (ready g g.Ops.length)) rfl
   have hRQ:R.length=Q.length:=zur k2 q2.nodup fun x=>by rw [k3,q4]
   simp only [if_true,zr3]
   rw [i4] at k1
   rw [i4, show il (ready g g.Ops.length)=il ((List.range g.Ops.length).filter fun k=>decide ((z3m g k).length=0)) from rfl] at *
   rw [show ((0:Nat):Int)=0 from rfl] at *
   rw [k1,q1]
   simp only [bS]
   rw [zel,hRQ]
   have hfull:=zxz q2.nodup q2.lt
   by_cases hc:Q.length<g.Ops.length
   ·
    rw [if_pos (by simpa using hc)]
    refine ⟨36,rfl,rfl, by simp, fun h=>?_⟩
    have:=hfull.2 fun i hi=>(q4 i).2 ⟨hi,h.2.2 i hi⟩
    exact absurd hc this
   ·
    rw [if_neg (by simpa using hc)]
    exact ⟨0,rfl,rfl, fun _=>⟨by first | exact hr | trivial,ha', fun i hi=>((q4 i).1 (hfull.1 hc i hi)).2⟩, fun _=>rfl⟩
 ·
  have hr':z8d g.IDs=false:=by simpa using hr
  rw [if_neg hr,hr']
  exact ⟨32,rfl,rfl, by simp [hr']⟩
def z11p (g:z00):Prop:=∀ i (h:i<g.Ops.length),zij g.Ops[i]=0∧sha (zih g.Ops[i])=zds g i
structure zko (g:z00):Prop where
 e:zd5 g
 ops:z11p g
 ins:zhu g=true
 wf:z13a g
theorem zbp {a:z05} (h:zij a=0):z6m a=0:=by
 unfold zij at h
 by_cases hc:z6m a=0
 ·
  exact hc
 ·
  rw [if_neg hc] at h; exact h
theorem z13w {g:z00} (h:z3z g) {o:z05} (ho:o∈g.Ops):inI o.Act.Value.Num∧o.Act.Value.Text.length≤9223372036854775807:=by
 have:=h.2.1.1 o ho
 exact ⟨this.2.2.2.1.2.2.1.2.1,this.2.2.2.1.2.2.1.2.2.2.1⟩
def zhf (g:z00) (i:Nat) (o:z05):Bool:=decide (zij o=0)&&decide (sha (zih o)=zds g i)
theorem zyb (hw:z3z g) (hl:g.Ops.length≤60) (hi:g.IDs.length=g.Ops.length):∀ (k i:Nat),g.Ops.length - i=k→i≤g.Ops.length →
  ∃ r:Sum Int Unit,iter (zb1 g) (i:Int)=some r∧iter (z5i g) (i:Int)=some r∧((r=.inr ()∧∀ j (h:j<g.Ops.length),i≤j→zhf g j g.Ops[j]=true)∨(r=.inl 8∧∃ j,∃ h:j<g.Ops.length,zhf g j g.Ops[j]=false)):=by
 intro k
 induction k with
 | zero =>
  intro i hk hle
  refine ⟨.inr (),z11 ?_,z11 ?_,.inl ⟨rfl, fun j hj hij=>by omega⟩⟩
  ·
   unfold zb1; rw [if_neg (by simp; omega)]
  ·
   unfold z5i; rw [if_neg (by simp; omega)]
 | succ k ih =>
  intro i hk hle
  have hlt:i<g.Ops.length:=by omega
  have hii:i<g.IDs.length:=by omega
  obtain ⟨w1,w2⟩:=z13w hw (List.getElem_mem hlt)
  have e1:zb1 g (i:Int)=if zhf g i g.Ops[i] then some (.inr ((i+1:Nat):Int)) else some (.inl (.inl 8)):=by
   unfold zb1 zhf
   rw [if_pos (by simpa using hlt),z0c hlt]
   simp only [bS]
   rw [z11f _ w1 w2,z0g (by omega)]
   simp only [bS]
   by_cases hc:z6m g.Ops[i]=0
   ·
    rw [if_pos hc]
    simp only []
    rw [if_neg (by simp),z0c hii,← z7f hii]
    simp only [bS]
    by_cases hs:sha (zih g.Ops[i])=zds g i
    ·
     rw [decide_eq_true hs,if_neg (by simp),zoq _ w1 w2]
     simp only [bS]
     by_cases hb:zij g.Ops[i]=0
     ·
      rw [hb]; rfl
     ·
      rw [if_pos (by simpa using hb),decide_eq_false hb]; rfl
    ·
     rw [decide_eq_false hs,Bool.and_false]; rfl
   ·
    have hb:zij g.Ops[i]≠0:=fun h=>hc (zbp h)
    rw [if_neg hc,decide_eq_false hb]
    simp only []
    rw [if_pos (by simpa using hc)]; rfl
  have e2:z5i g (i:Int)=if zhf g i g.Ops[i] then some (.inr ((i+1:Nat):Int)) else some (.inl (.inl 8)):=by
   unfold z5i zhf
   rw [if_pos (by simpa using hlt),z0c hlt]
   simp only [bS]
   rw [zo0 _ w1 w2,z0g (by omega)]
   simp only [bS]
   by_cases hb:zij g.Ops[i]=0
   ·
    rw [hb,if_neg (by simp),z0c hii,← z7f hii,zwv _ (zbp hb) w1]
    simp only [bS]
    by_cases hs:sha (zih g.Ops[i])=zds g i
    ·
     rw [decide_eq_true hs]; rfl
    ·
     rw [decide_eq_false hs]; rfl
   ·
    rw [if_pos (by simpa using hb),decide_eq_false hb]; rfl
  cases hg:zhf g i g.Ops[i] with
  | false =>
   rw [hg] at e1 e2
   exact ⟨_,z11 e1,z11 e2,.inr ⟨rfl,i,hlt,hg⟩⟩
  | true =>
   rw [hg] at e1 e2
   obtain ⟨r,h1,h2,h3⟩:=ih (i+1) (by omega) (by omega)
   refine ⟨r, by rw [z1g e1]; exact h1, by rw [z1g e2]; exact h2,?_⟩
   rcases h3 with ⟨h3,h4⟩ | h3
   ·
    refine .inl ⟨h3, fun j hj hij=>?_⟩
    by_cases hji:j=i
    ·
     subst hji; exact hg
    ·
     exact h4 j hj (by omega)
   ·
    exact .inr h3
theorem zxk (hw:z3z g):∃ c:Int,zgm g=some c∧z9i g=some c∧(c=0↔zko g):=by
 unfold zgm z9i
 by_cases hl:60<g.Ops.length
 ·
  have d:decide (60<(g.Ops.length:Int))=true:=by simp; omega
  rw [d]
  exact ⟨4,rfl,rfl, by simp, fun h=>by have:=h.e.len; omega⟩
 have d:decide (60<(g.Ops.length:Int))=false:=by simp; omega
 simp only [d,Bool.false_eq_true,if_false]
 by_cases hi:g.IDs.length=g.Ops.length
 ·
  have d2:((g.IDs.length:Int) != (g.Ops.length:Int))=false:=by simp; omega
  simp only [d2,Bool.false_eq_true,if_false]
  obtain ⟨r,h1,h2,h3⟩:=zyb hw (by omega) hi g.Ops.length 0 rfl (by omega)
  rw [show (0:Int)=((0:Nat):Int) from rfl,h1,h2]
  rcases h3 with ⟨rfl,h4⟩ | ⟨rfl,j,hj,h4⟩
  ·
   have hok:z11p g:=fun i h=>by
    have:=h4 i h (by omega)
    unfold zhf at this
    simpa using this
   obtain ⟨c,s1,s2,s3⟩:=zyo (g:=g) (by omega) hi fun i h=>⟨(z84 (zbp (hok i h).1)).1,(z84 (zbp (hok i h).1)).2.1⟩
   refine ⟨c,?_,?_,s3.trans ⟨fun ⟨a,b,d⟩=>⟨⟨by omega,hi,a, fun i h=>⟨(z84 (zbp (hok i h).1)).1,(z84 (zbp (hok i h).1)).2.1⟩⟩,hok,b,d⟩, fun h=>⟨h.e.ri,h.ins,h.wf⟩⟩⟩
   ·
    simp only [zr3]; rw [s1]; simp only [bS]
   ·
    simp only [zr3]; rw [s2]; simp only [bS]
  ·
   refine ⟨8,rfl,rfl, by simp, fun h=>?_⟩
   have:=h.ops j hj
   unfold zhf at h4
   simp [this] at h4
 ·
  have d2:((g.IDs.length:Int) != (g.Ops.length:Int))=true:=by simp; omega
  rw [d2]
  exact ⟨8,rfl,rfl, by simp, fun h=>absurd h.e.ids hi⟩
end
section
open Go
variable {g:z00}
theorem zgd {κ β:Type} [DecidableEq κ] (k:κ) (v:β) (x:κ):∀ m:List (κ × β),z43 (zaw m k v) x=if x=k then some v else z43 m x
 | []=>rfl
 | p::m=>by
  have ih:=zgd k v x m
  unfold zaw
  by_cases h:k=p.1
  ·
   rw [if_pos h]
   show (if x=p.1 then some v else z43 m x)=if x=k then some v else if x=p.1 then some p.2 else z43 m x
   rw [← h]
   by_cases hx:x=k
   ·
    rw [if_pos hx,if_pos hx]
   ·
    rw [if_neg hx,if_neg hx,if_neg hx]
  ·
   rw [if_neg h]
   show (if x=p.1 then some p.2 else z43 (zaw m k v) x)=if x=k then some v else if x=p.1 then some p.2 else z43 m x
   rw [ih]
   by_cases hx:x=p.1
   ·
    rw [if_pos hx,if_pos hx,if_neg (fun e=>h (by rw [← hx,e]))]
   ·
    rw [if_neg hx,if_neg hx]
theorem zxj {i:Nat} {x:ID} (h:zhu g=true) (hx:x∈zrx g i):x∈g.IDs∧g.IDs.idxOf x∈z3m g i:=⟨zeu h i x hx,List.mem_map.2 ⟨x,hx,rfl⟩⟩
def zj9 (g:z00) (m:Nat→Bool):List ID:=((List.range g.Ops.length).filter m).map (zds g)
theorem zot (E:zd5 g) {m:Nat→Bool} {x:ID}:x∈zj9 g m↔x∈g.IDs∧m (g.IDs.idxOf x)=true:=by
 unfold zj9
 rw [List.mem_map]
 constructor
 ·
  rintro ⟨i,hi,rfl⟩
  rw [List.mem_filter,List.mem_range] at hi
  have hii:i<g.IDs.length:=by rw [E.ids]; exact hi.1
  refine ⟨by rw [z7f hii]; exact List.getElem_mem _,?_⟩
  rw [zre E hi.1]; exact hi.2
 ·
  rintro ⟨h1,h2⟩
  refine ⟨_,?_,zqt h1⟩
  rw [List.mem_filter,List.mem_range,← E.ids]
  exact ⟨List.idxOf_lt_length_of_mem h1,h2⟩
theorem zn5 (E:zd5 g) (m:Nat→Bool):z8d (zj9 g m)=true:=by
 rw [za8]
 unfold zj9
 rw [List.pairwise_map]
 have:(List.range g.Ops.length).Pairwise fun a b=>a<g.Ops.length∧b<g.Ops.length∧a<b:=by
  rw [List.pairwise_iff_getElem]
  intro i j hi hj hij
  simp at hi hj ⊢
  omega
 refine (this.filter m).imp fun {a b} hab=>?_
 have ha:a<g.IDs.length:=by rw [E.ids]; exact hab.1
 have hb:b<g.IDs.length:=by rw [E.ids]; exact hab.2.1
 rw [z7f ha,z7f hb]
 exact zeo E.ri ha hb hab.2.2
theorem zdd:∀ (l m:List ID),l.Pairwise (fun a b=>kd a<kd b)→m.Pairwise (fun a b=>kd a<kd b)→(∀ x,x∈l↔x∈m)→l=m
 | [],m,_,_,h=>by
  cases m with
  | nil=>rfl
  | cons b m=>have:=(h b).2 (by simp); simp at this
 | a::l,[],_,_,h=>by have:=(h a).1 (by simp); simp at this
 | a::l,b::m,h1,h2,h=>by
  obtain ⟨p1,p2⟩:=List.pairwise_cons.1 h1
  obtain ⟨q1,q2⟩:=List.pairwise_cons.1 h2
  have hab:a=b:=by
   have ha:=(h a).1 (by simp)
   have hb:=(h b).2 (by simp)
   rcases List.mem_cons.1 ha with e | ha'
   ·
    exact e
   ·
    rcases List.mem_cons.1 hb with e | hb'
    ·
     exact e.symm
    ·
     have:=q1 a ha'; have:=p1 b hb'; omega
  subst hab
  congr 1
  refine zdd l m p2 q2 fun x=>⟨fun hx=>?_, fun hx=>?_⟩
  ·
   rcases List.mem_cons.1 ((h x).1 (by simp [hx])) with e | h'
   ·
    subst e; have:=p1 x hx; omega
   ·
    exact h'
  ·
   rcases List.mem_cons.1 ((h x).2 (by simp [hx])) with e | h'
   ·
    subst e; have:=q1 x hx; omega
   ·
    exact h'
end
section
open Go
variable {g:z00}
theorem z135 (a s:List ID) (n:Nat) (x:ID) (hn:n<a.length) (hx:a[n]=x) (hs:s.length≤9223372036854775806) (hi:z8d s=true):∃ k:Nat,iter (z3x a (s,(n:Int))) 0=some (k:Int)∧k≤s.length∧(∀ i (h:i<s.length),i<k→kd s[i]<kd x)∧(∀ i (h:i<s.length),k≤i→kd x≤kd s[i]):=by
 have main:=zbk (F:=z3x a (s,(n:Int))) (fun st=>∃ i:Nat,st=(i:Int)∧i≤s.length∧∀ j (h:j<s.length),j<i→kd s[j]<kd x) (fun st=>s.length - st.toNat)
  (fun r=>∃ k:Nat,r=(k:Int)∧k≤s.length∧(∀ i (h:i<s.length),i<k→kd s[i]<kd x)∧(∀ i (h:i<s.length),k≤i→kd x≤kd s[i]))
  (fun st hst=>by
   obtain ⟨i,rfl,h1,h2⟩:=hst
   by_cases hi':i<s.length
   ·
    have hF:z3x a (s,(n:Int)) (i:Int)=if decide (kd s[i]<kd x) then some (.inr ((i+1:Nat):Int)) else some (.inl (i:Int)):=by
     unfold z3x
     rw [if_pos (by simpa using hi')]
     simp only []
     rw [z0c hi',z0c hn,hx,z0g (by omega)]
     simp only [bS]
     rw [zp6]
     simp only [bS]
     rw [zlm]
    by_cases hc:kd s[i]<kd x
    ·
     rw [decide_eq_true hc,if_pos rfl] at hF
     refine .inr ⟨_,hF,⟨i+1,rfl,hi', fun j hj hji=>?_⟩, by simp; omega⟩
     by_cases hji':j=i
     ·
      subst hji'; exact hc
     ·
      exact h2 j hj (by omega)
    ·
     rw [decide_eq_false hc,if_neg (by simp)] at hF
     refine .inl ⟨_,hF,i,rfl,h1,h2, fun j hj hij=>?_⟩
     by_cases hji':j=i
     ·
      subst hji'; omega
     ·
      have:=zeo hi hi' hj (by omega); omega
   ·
    refine .inl ⟨(i:Int),?_,i,rfl,h1,h2, fun j hj hij=>by omega⟩
    unfold z3x
    rw [if_neg (by simpa using hi')])
  0 ⟨0,rfl,Nat.zero_le _, fun j _ h=>by omega⟩
 obtain ⟨r,h1,k,rfl,h2,h3,h4⟩:=main
 exact ⟨k,h1,h2,h3,h4⟩
theorem zv3 {α:Type} (s:List α) (k:Nat) (x y:α):y∈s.take k++[x]++s.drop k↔y∈s∨y=x:=by
 have:y∈s↔y∈s.take k∨y∈s.drop k:=by rw [← List.mem_append,List.take_append_drop]
 rw [this]
 simp only [List.mem_append,List.mem_singleton]
 constructor
 ·
  rintro ((h | h) | h)
  ·
   exact .inl (.inl h)
  ·
   exact .inr h
  ·
   exact .inl (.inr h)
 ·
  rintro ((h | h) | h)
  ·
   exact .inl (.inl h)
  ·
   exact .inr h
  ·
   exact .inl (.inr h)
theorem zpr {s:List ID} (hi:z8d s=true) {k:Nat} {x:ID} (hk:k≤s.length) (h1:∀ i (h:i<s.length),i<k→kd s[i]<kd x) (h2:∀ i (h:i<s.length),k≤i→kd x<kd s[i]):z8d (s.take k++[x]++s.drop k)=true:=by
 rw [za8] at *
 have e:s=s.take k++s.drop k:=(List.take_append_drop k s).symm
 rw [e,List.pairwise_append] at hi
 have a1:∀ y∈s.take k,kd y<kd x:=fun y hy=>by
  obtain ⟨i,hi',rfl⟩:=List.getElem_of_mem hy
  rw [List.getElem_take]
  rw [List.length_take] at hi'
  exact h1 i (by omega) (by omega)
 have a2:∀ y∈s.drop k,kd x<kd y:=fun y hy=>by
  obtain ⟨i,hi',rfl⟩:=List.getElem_of_mem hy
  rw [List.getElem_drop]
  rw [List.length_drop] at hi'
  exact h2 (k+i) (by omega) (by omega)
 rw [List.pairwise_append,List.pairwise_append]
 refine ⟨⟨hi.1, by simp, fun y hy z hz=>?_⟩,hi.2.1, fun y hy z hz=>?_⟩
 ·
  rw [List.mem_singleton] at hz; subst hz; exact a1 y hy
 ·
  rcases List.mem_append.1 hy with h | h
  ·
   exact hi.2.2 y h z hz
  ·
   rw [List.mem_singleton] at h; subst h; exact a2 z hz
theorem zpc (a:List ID) (hl:a.length≤1000):∃ s,z8g a=some s∧z8d s=true∧∀ x,x∈s↔x∈a:=by
 have main:=zaf (F:=z4t a) a.length
  (fun n st=>st.2=(n:Int)∧st.1.length≤n∧z8d st.1=true∧∀ x,x∈st.1↔x∈a.take n)
  (fun s=>z8d s=true∧∀ x,x∈s↔x∈a)
  (fun n st hn hst=>by
   obtain ⟨s,n'⟩:=st
   obtain ⟨h1,h2,h3,h4⟩:=hst
   simp only at h1 h2 h3 h4
   subst h1
   obtain ⟨k,k1,k2,k3,k4⟩:=z135 a s n a[n] hn rfl (by omega) h3
   have hmem:∀ y,y∈a.take (n+1)↔y∈s∨y=a[n]:=fun y=>by
    rw [List.take_add_one,List.getElem?_eq_getElem hn,List.mem_append,h4 y]
    exact ⟨fun h=>h.imp id fun h=>List.mem_singleton.1 h, fun h=>h.imp id fun h=>List.mem_singleton.2 h⟩
   have hcond:(if ((k:Int)==(s.length:Int))=true then some true else idx s (k:Int) >>= fun x17=>idx a (n:Int) >>= fun x19=>some (!decide (x17=x19)))=some (!decide (a[n]∈s)):=by
    by_cases hk:k=s.length
    ·
     rw [if_pos (by rw [hk]; simp)]
     have:a[n]∉s:=fun hm=>by
      obtain ⟨i,hi,e⟩:=List.getElem_of_mem hm
      have:=k3 i hi (by omega)
      rw [e] at this; omega
     rw [decide_eq_false this]; rfl
    ·
     have hk':k<s.length:=by omega
     rw [if_neg (by simp; omega),z0c hk',z0c hn]
     simp only [bS]
     have:decide (s[k]=a[n])=decide (a[n]∈s):=by
      rw [decide_eq_decide]
      refine ⟨fun e=>e ▸ List.getElem_mem hk', fun hm=>?_⟩
      obtain ⟨i,hi,e⟩:=List.getElem_of_mem hm
      by_cases hik:i<k
      ·
       have:=k3 i hi hik; rw [e] at this; omega
      ·
       by_cases hik':i=k
       ·
        subst hik'; exact e
       ·
        have:=zeo h3 hk' hi (by omega)
        have:=k4 k hk' (Nat.le_refl _)
        rw [e] at *; omega
     rw [this]
   by_cases hm:a[n]∈s
   ·
    rw [decide_eq_true hm] at hcond
    refine ⟨(s,((n+1:Nat):Int)),?_,rfl,?_,h3, fun x=>?_⟩
    ·
     unfold z4t
     rw [if_pos (by simpa using hn),k1]
     simp only [bS]
     rw [hcond,z0g (by omega)]
     rfl
    ·
     simp only []; omega
    ·
     rw [hmem]
     exact ⟨.inl, fun h=>h.elim id fun e=>e ▸ hm⟩
   ·
    rw [decide_eq_false hm] at hcond
    have hlen:(s.take k++[a[n]]++s.drop k).length=s.length+1:=by
     simp only [List.length_append,List.length_take,List.length_drop,List.length_cons,List.length_nil]; omega
    refine ⟨(s.take k++[a[n]]++s.drop k,((n+1:Nat):Int)),?_,rfl,?_,?_, fun x=>?_⟩
    ·
     unfold z4t
     rw [if_pos (by simpa using hn),k1]
     simp only [bS]
     rw [hcond]
     simp only [bS]
     rw [if_pos (by simp), show (0:Int)=((0:Nat):Int) from rfl,zd0 (by omega) (by omega),z0c hn,zd0 (by omega) (by omega)]
     simp only [bS,List.drop_zero,Nat.sub_zero]
     have e2:(s.drop k).take (s.length - k)=s.drop k:=List.take_of_length_le (by simp)
     rw [e2,z18 (by simp; omega)]
     simp only [bS,List.nil_append]
     rw [z18 (by simp; omega)]
     simp only [bS]
     rw [z18 (by simp; omega),z0g (by omega)]
     simp only [bS]
    ·
     simp only []; rw [hlen]; omega
    ·
     refine zpr h3 k2 k3 fun i hi hki=>?_
     have:=k4 i hi hki
     rcases Nat.lt_or_eq_of_le this with h | h
     ·
      exact h
     ·
      exact absurd (zjl h ▸ List.getElem_mem hi) hm
    ·
     rw [hmem]; exact zv3 _ _ _ _)
  (fun st hst=>by
   obtain ⟨s,n'⟩:=st
   obtain ⟨h1,h2,h3,h4⟩:=hst
   simp only at h1 h2 h3 h4
   subst h1
   refine ⟨s,?_,h3, fun x=>by rw [h4,List.take_length]⟩
   unfold z4t
   rw [if_neg (by simp)])
  ([],0) 0 (Nat.zero_le _) ⟨rfl,Nat.zero_le _,rfl, by simp⟩
 obtain ⟨s,h1,h2,h3⟩:=main
 refine ⟨s,?_,h2,h3⟩
 unfold z8g
 rw [h1]
 simp only [bS]
end
section
open Go
variable {g:z00}
theorem z118 {o:z05} (h:z60 o=some false):o.Preds.length≤20∧o.Act.Key.length≤100∧o.Act.Value.Text.length≤100:=by
 unfold z60 at h
 by_cases h1:20<o.Preds.length
 ·
  rw [if_pos (by simp; omega)] at h; exact absurd h (by simp)
 ·
  rw [if_neg (by simp; omega)] at h
  by_cases h2:100<o.Act.Key.length
  ·
   rw [if_pos (by simp; omega)] at h; exact absurd h (by simp)
  ·
   rw [if_neg (by simp; omega)] at h
   simp only [bS] at h
   have h:=Option.some.inj h
   rw [decide_eq_false_iff_not] at h
   exact ⟨by omega, by omega, by omega⟩
theorem zoj (o:z05):∃ b,z60 o=some b:=by
 unfold z60
 split
 ·
  exact ⟨_,rfl⟩
 ·
  split
  ·
   exact ⟨_,rfl⟩
  ·
   exact ⟨_,rfl⟩
structure zid (g:z00):Prop where
 ops:g.Ops.length≤70
 ids:g.IDs.length≤70
 op:∀ i (h:i<g.Ops.length),g.Ops[i].Preds.length≤20∧g.Ops[i].Act.Key.length≤100∧g.Ops[i].Act.Value.Text.length≤100
theorem zlk (g:z00):∀ (k i:Nat),71 - i=k→i≤71→∃ r:Sum Bool Unit,iter (z47 g) (i:Int)=some r∧(r=.inl true∨(r=.inr ()∧∀ j (h:j<g.Ops.length),i≤j→j≤70→g.Ops[j].Preds.length≤20∧g.Ops[j].Act.Key.length≤100∧g.Ops[j].Act.Value.Text.length≤100))
 | 0,i,h1,h2=>by
  refine ⟨.inr (),z11 ?_,.inr ⟨rfl, fun j hj h3 h4=>by omega⟩⟩
  unfold z47
  split
  ·
   rw [if_neg (by simp; omega)]
  ·
   rfl
 | k+1,i,h1,h2=>by
  by_cases hi:i<g.Ops.length
  ·
   obtain ⟨b,hb⟩:=zoj g.Ops[i]
   have hF:z47 g (i:Int)=if b then some (.inl (.inl true)) else some (.inr ((i+1:Nat):Int)):=by
    unfold z47
    rw [if_pos (by simpa using hi),if_pos (by simp; omega),z0c hi]
    simp only [bS]
    rw [hb,z0g (by omega)]
    simp only [bS]
   cases b with
   | true=>exact ⟨_,z11 hF,.inl rfl⟩
   | false =>
    rw [if_neg (by simp)] at hF
    obtain ⟨r,e1,e2⟩:=zlk g k (i+1) (by omega) (by omega)
    refine ⟨r, by rw [z1g hF]; exact e1,e2.imp id fun ⟨e2,e3⟩=>⟨e2, fun j hj h3 h4=>?_⟩⟩
    by_cases hji:j=i
    ·
     subst hji; exact z118 hb
    ·
     exact e3 j hj (by omega) h4
  ·
   refine ⟨.inr (),z11 ?_,.inr ⟨rfl, fun j hj h3 h4=>by omega⟩⟩
   unfold z47
   rw [if_neg (by simpa using hi)]
theorem zxx (g:z00):∃ b,z9d g=some b∧(b=false→zid g):=by
 obtain ⟨r,e1,e2⟩:=zlk g 71 0 rfl (by omega)
 unfold z9d
 rw [show (0:Int)=((0:Nat):Int) from rfl,e1]
 rcases e2 with rfl | ⟨rfl,e3⟩
 ·
  exact ⟨true,rfl, fun h=>absurd h (by simp)⟩
 ·
  simp only [zr3,bS]
  have key:∀ (P:Bool),(P=false→g.Ops.length≤70∧g.IDs.length≤70)→P=false→zid g:=fun P h hp=>⟨(h hp).1,(h hp).2, fun i hi=>e3 i hi (Nat.zero_le _) (by have:=(h hp).1; omega)⟩
  by_cases hA:70<g.Ops.length
  ·
   have a1:decide (70<(g.Ops.length:Int))=true:=by simp; omega
   have a2:decide ((g.Ops.length:Int)≤60)=false:=by simp; omega
   rw [a1,a2]
   simp only [if_true,Bool.false_eq_true,if_false]
   exact ⟨true, by split <;> rfl, fun h=>absurd h (by simp)⟩
  ·
   have a1:decide (70<(g.Ops.length:Int))=false:=by simp; omega
   rw [a1]
   simp only [Bool.false_eq_true,if_false]
   have k2:=key (decide (70<(g.IDs.length:Int))) fun h=>by simp at h; omega
   split
   ·
    split
    ·
     exact ⟨true,rfl, fun h=>absurd h (by simp)⟩
    ·
     exact ⟨_,rfl,k2⟩
   ·
    exact ⟨_,rfl,k2⟩
theorem z10p (S:zid g):z3o g=some g:=by
 have h1:=S.ops
 have h2:=S.ids
 have main:=z28 (F:=z3p g) (b:=g.Ops) g.Ops.length (fun i=>(g.Ops.take i,(i:Int))) (fun i hi=>?_) ?_
 ·
  unfold z3o
  rw [z18 (by simp; omega)]
  simp only [bS,List.nil_append]
  rw [List.take_zero] at main
  rw [show (0:Int)=((0:Nat):Int) from rfl,main]
  simp only [bS]
 ·
  have h4:=(S.op i hi).1
  unfold z3p zae
  rw [if_pos (by simpa using hi)]
  simp only []
  rw [z0c hi]
  simp only [bS]
  rw [z18 (by simp; omega)]
  simp only [bS,List.nil_append]
  rw [z18 (by simp; omega),z0g (by omega)]
  simp only [bS]
  rw [List.take_add_one,List.getElem?_eq_getElem hi]; rfl
 ·
  unfold z3p
  rw [if_neg (by simp),List.take_length]
theorem zic (l:List ID) (hl:l.length≤1000):z2o l l=some true:=by
 have:=z28 (F:=z1t l l) (b:=.inr ()) l.length (fun i=>(i:Int)) (fun i hi=>?_) ?_
 ·
  unfold z2o
  rw [if_neg (by simp), show (0:Int)=((0:Nat):Int) from rfl,this]; rfl
 ·
  unfold z1t
  rw [if_pos (by simpa using hi),z0c hi,z0g (by omega)]
  simp only [bS]
  rw [if_neg (by simp)]
 ·
  unfold z1t
  rw [if_neg (by simp)]
theorem zka (S:zid g):z78 g g=some true:=by
 have h1:=S.ops
 have h2:=S.ids
 have:=z28 (F:=z80 g g) (b:=.inr ()) g.Ops.length (fun i=>(i:Int)) (fun i hi=>?_) ?_
 ·
  unfold z78
  rw [zic _ (by omega)]
  simp only [bS]
  rw [if_neg (by simp),if_neg (by simp), show (0:Int)=((0:Nat):Int) from rfl,this]; rfl
 ·
  have h4:=(S.op i hi).1
  have hs:z5d g.Ops[i] g.Ops[i]=some true:=by
   unfold z5d
   rw [if_pos (by simp),zic _ (by omega)]
   simp only [bS]
   simp
  unfold z80
  rw [if_pos (by simpa using hi),z0c hi]
  simp only [bS]
  rw [hs,z0g (by omega)]
  simp only [bS]
  rw [if_neg (by simp)]
 ·
  unfold z80
  rw [if_neg (by simp)]
end
section
open Go
structure Pos (l:List ID) (x:ID) (k:Nat):Prop where
 le:k≤l.length
 lo:∀ i (h:i<l.length),i<k→kd l[i]<kd x
 hi:∀ i (h:i<l.length),k≤i→kd x≤kd l[i]
def zk1 {α:Type} (l:List α) (k:Nat) (x:α):List α:=l.take k++[x]++l.drop k
theorem zmi {α:Type} {l:List α} {k:Nat} {x:α} (h:k≤l.length):(zk1 l k x).length=l.length+1:=by
 unfold zk1; simp; omega
theorem ztb {α:Type} {l:List α} {k i:Nat} {x:α} (h:k≤l.length) (hi:i<k):(zk1 l k x)[i]? = l[i]? := by
 unfold zk1
 rw [List.append_assoc,List.getElem?_append_left (by simp; omega),List.getElem?_take_of_lt hi]
theorem zv0 {α:Type} {l:List α} {k:Nat} {x:α} (h:k≤l.length):(zk1 l k x)[k]? = some x:=by
 unfold zk1
 rw [List.append_assoc,List.getElem?_append_right (by simp; omega)]
 simp [Nat.min_eq_left h]
theorem ztv {α:Type} {l:List α} {k i:Nat} {x:α} (h:k≤l.length) (hi:k<i):(zk1 l k x)[i]? = l[i - 1]? := by
 unfold zk1
 rw [List.getElem?_append_right (by simp; omega),List.getElem?_drop]
 congr 1; simp; omega
theorem zr4 {α:Type} {l:List α} {k:Nat} {x y:α}:y∈zk1 l k x↔y=x∨y∈l:=by
 unfold zk1
 have:y∈l↔y∈l.take k∨y∈l.drop k:=by rw [← List.mem_append,List.take_append_drop]
 rw [this]
 simp only [List.mem_append,List.mem_singleton]
 constructor
 ·
  rintro ((h | h) | h) <;> simp [h]
 ·
  rintro (h | h | h) <;> simp [h]
def insG (g:z00) (k:Nat) (x:ID) (o:z05):z00:=⟨zk1 g.IDs k x,zk1 g.Ops k o⟩
theorem zy4 {l:List ID} (hi:z8d l=true) (x:ID):∃ k,Pos l x k:=by
 induction l with
 | nil=>exact ⟨0,Nat.le_refl _, fun i h=>by simp at h, fun i h=>by simp at h⟩
 | cons y l ih =>
  have h1:=(za8 _).1 hi
  obtain ⟨h2,h3⟩:=List.pairwise_cons.1 h1
  by_cases hy:kd y<kd x
  ·
   obtain ⟨k,hk⟩:=ih ((za8 _).2 h3)
   refine ⟨k+1, by simpa using hk.le, fun i h hik=>?_, fun i h hik=>?_⟩
   ·
    cases i with
    | zero=>exact hy
    | succ i=>exact hk.lo i (by simpa using h) (by omega)
   ·
    cases i with
    | zero=>omega
    | succ i=>exact hk.hi i (by simpa using h) (by omega)
  ·
   refine ⟨0,Nat.zero_le _, fun i h hik=>by omega, fun i h _=>?_⟩
   cases i with
   | zero=>simpa using Nat.le_of_not_lt hy
   | succ i =>
    have hil:i<l.length:=by simpa using h
    have:=h2 l[i] (List.getElem_mem hil)
    simp only [List.getElem_cons_succ]; omega
theorem zyr {l:List ID} (hi:z8d l=true) {x:ID} (hx:x∉l) {k:Nat} (hk:Pos l x k):z8d (zk1 l k x)=true:=by
 rw [za8] at hi ⊢
 have hsplit:(l.take k++l.drop k).Pairwise (fun a b=>kd a<kd b):=by rw [List.take_append_drop]; exact hi
 obtain ⟨h1,h2,h3⟩:=List.pairwise_append.1 hsplit
 have hlo:∀ a∈l.take k,kd a<kd x:=fun a ha=>by
  obtain ⟨i,hi',rfl⟩:=List.getElem_of_mem ha
  rw [List.length_take] at hi'
  rw [List.getElem_take]
  exact hk.lo i (by omega) (by omega)
 have hhi:∀ a∈l.drop k,kd x<kd a:=fun a ha=>by
  obtain ⟨i,hi',rfl⟩:=List.getElem_of_mem ha
  rw [List.length_drop] at hi'
  rw [List.getElem_drop]
  have h:=hk.hi (k+i) (by omega) (by omega)
  have hne:kd x≠kd l[k+i]:=fun e=>hx (zjl e ▸ List.getElem_mem _)
  omega
 unfold zk1
 rw [List.append_assoc,List.pairwise_append]
 refine ⟨h1,?_, fun a ha b hb=>?_⟩
 ·
  rw [List.singleton_append,List.pairwise_cons]; exact ⟨hhi,h2⟩
 ·
  rw [List.singleton_append] at hb
  rcases List.mem_cons.1 hb with rfl | hb
  ·
   exact hlo a ha
  ·
   exact h3 a ha b hb
end
section
open Go
variable {g a b:z00}
theorem zrj (l m:List ID) (hlm:l.length=m.length) (hl:l.length≤1000):∃ r,iter (z1o l m) 0=some r∧((r=.inl false∧l≠m)∨(r=.inr ()∧l=m)):=by
 refine zbk (F:=z1o l m) (fun s=>∃ i:Nat,s=(i:Int)∧i≤l.length∧∀ k (h:k<l.length) (h2:k<m.length),k<i→l[k]=m[k]) (fun s=>l.length - s.toNat) _ ?_ 0 ⟨0,rfl,Nat.zero_le _, fun k _ _ h=>by omega⟩
 rintro s ⟨i,rfl,h1,h2⟩
 by_cases hi:i<l.length
 ·
  have him:i<m.length:=by omega
  by_cases hc:l[i]=m[i]
  ·
   refine .inr ⟨((i+1:Nat):Int),?_,⟨i+1,rfl,hi, fun k hk hk2 hki=>?_⟩, by simp; omega⟩
   ·
    unfold z1o
    rw [if_pos (by simpa using hi),z0c hi,z0c him,z0g (by omega)]
    simp only [bS]
    rw [if_neg (by simpa using hc)]
   ·
    by_cases hk':k=i
    ·
     subst hk'; exact hc
    ·
     exact h2 k hk hk2 (by omega)
  ·
   refine .inl ⟨.inl false,?_,.inl ⟨rfl, fun e=>hc (by subst e; rfl)⟩⟩
   unfold z1o
   rw [if_pos (by simpa using hi),z0c hi,z0c him]
   simp only [bS]
   rw [if_pos (by simpa using hc)]
 ·
  refine .inl ⟨.inr (),?_,.inr ⟨rfl,List.ext_getElem hlm fun k hk hk2=>h2 k hk hk2 (by omega)⟩⟩
  unfold z1o
  rw [if_neg (by simpa using hi)]
theorem z12x (l m:List ID) (hl:l.length≤1000):z1n l m=some (decide (l=m)):=by
 unfold z1n
 by_cases hlm:l.length=m.length
 ·
  obtain ⟨r,r1,r2⟩:=zrj l m hlm hl
  rw [if_neg (by simp [hlm]),r1]
  rcases r2 with ⟨rfl,h⟩ | ⟨rfl,h⟩
  ·
   rw [decide_eq_false h]; rfl
  ·
   rw [decide_eq_true h]; rfl
 ·
  rw [if_pos (by simp; omega),decide_eq_false fun e=>hlm (by rw [e])]
theorem zpf (l m:List ID) (hlm:l.length=m.length) (hl:l.length≤1000):∃ r,iter (z1t l m) 0=some r∧((r=.inl false∧l≠m)∨(r=.inr ()∧l=m)):=by
 refine zbk (F:=z1t l m) (fun s=>∃ i:Nat,s=(i:Int)∧i≤l.length∧∀ k (h:k<l.length) (h2:k<m.length),k<i→l[k]=m[k]) (fun s=>l.length - s.toNat) _ ?_ 0 ⟨0,rfl,Nat.zero_le _, fun k _ _ h=>by omega⟩
 rintro s ⟨i,rfl,h1,h2⟩
 by_cases hi:i<l.length
 ·
  have him:i<m.length:=by omega
  by_cases hc:l[i]=m[i]
  ·
   refine .inr ⟨((i+1:Nat):Int),?_,⟨i+1,rfl,hi, fun k hk hk2 hki=>?_⟩, by simp; omega⟩
   ·
    unfold z1t
    rw [if_pos (by simpa using hi),z0c hi,z0c him,z0g (by omega)]
    simp only [bS]
    rw [if_neg (by simpa using hc)]
   ·
    by_cases hk':k=i
    ·
     subst hk'; exact hc
    ·
     exact h2 k hk hk2 (by omega)
  ·
   refine .inl ⟨.inl false,?_,.inl ⟨rfl, fun e=>hc (by subst e; rfl)⟩⟩
   unfold z1t
   rw [if_pos (by simpa using hi),z0c hi,z0c him]
   simp only [bS]
   rw [if_pos (by simpa using hc)]
 ·
  refine .inl ⟨.inr (),?_,.inr ⟨rfl,List.ext_getElem hlm fun k hk hk2=>h2 k hk hk2 (by omega)⟩⟩
  unfold z1t
  rw [if_neg (by simpa using hi)]
theorem zt0 (l m:List ID) (hl:l.length≤1000):z2o l m=some (decide (l=m)):=by
 unfold z2o
 by_cases hlm:l.length=m.length
 ·
  obtain ⟨r,r1,r2⟩:=zpf l m hlm hl
  rw [if_neg (by simp [hlm]),r1]
  rcases r2 with ⟨rfl,h⟩ | ⟨rfl,h⟩
  ·
   rw [decide_eq_false h]; rfl
  ·
   rw [decide_eq_true h]; rfl
 ·
  rw [if_pos (by simp; omega),decide_eq_false fun e=>hlm (by rw [e])]
theorem zem {p q:z05}:p=q↔p.Author=q.Author∧p.Preds=q.Preds∧p.Stamp=q.Stamp∧p.Act=q.Act∧p.Sig=q.Sig:=by
 cases p; cases q; simp
theorem zy0 (p q:z05) (hp:p.Preds.length≤1000):z5d p q=some (decide (p=q)):=by
 unfold z5d
 rw [zt0 _ _ hp]
 simp only [bS]
 by_cases h1:p.Author=q.Author
 ·
  by_cases h5:p.Preds=q.Preds
  ·
   by_cases h2:p.Stamp=q.Stamp
   ·
    by_cases h3:p.Act=q.Act
    ·
     by_cases h4:p.Sig=q.Sig
     ·
      simp [zem,h1,h2,h3,h4,h5]
     ·
      simp [zem,h1,h2,h3,h4]
    ·
     simp [zem,h1,h2,h3,h5]
   ·
    simp [zem,h1,h2,h5]
  ·
   simp [zem,h1,h5]
 ·
  simp [zem,h1]
structure Fit (g:z00) (n:Nat):Prop where
 ids:g.IDs.length=g.Ops.length
 len:g.Ops.length≤n
 ri:z8d g.IDs=true
 op:∀ o∈g.Ops,o.Preds.length≤20∧o.Act.Key.length≤100∧o.Act.Value.Text.length≤100
theorem Fit.small {n:Nat} (h:Fit g n) (hn:n≤70):zid g:=⟨by have:=h.len; omega, by have:=h.len; have:=h.ids; omega, fun i hi=>h.op _ (List.getElem_mem hi)⟩
def posF (l:List ID) (x:ID):Nat:=(l.filter fun y=>decide (kd y<kd x)).length
theorem zm2 {l:List ID} (hi:z8d l=true) (x:ID):Pos l x (posF l x):=by
 obtain ⟨k,hk⟩:=zy4 hi x
 have hkl:=hk.le
 have:posF l x=k:=by
  unfold posF
  rw [← List.take_append_drop k l,List.filter_append,List.filter_eq_self.2 fun y hy=>?_,List.filter_eq_nil_iff.2 fun y hy=>?_]
  ·
   simp; omega
  ·
   obtain ⟨i,hi',rfl⟩:=List.getElem_of_mem hy
   rw [List.length_drop] at hi'
   rw [List.getElem_drop]
   have:=hk.hi (k+i) (by omega) (by omega)
   simp; omega
  ·
   obtain ⟨i,hi',rfl⟩:=List.getElem_of_mem hy
   rw [List.length_take] at hi'
   rw [List.getElem_take]
   have:=hk.lo i (by omega) (by omega)
   simpa using this
 rw [this]; exact hk
def zpq (g:z00) (p:ID × z05):z00:=if p.1∈g.IDs then g else insG g (posF g.IDs p.1) p.1 p.2
theorem zj6 {n:Nat} (h:Fit g n) {p:ID × z05} (hp:p.2.Preds.length≤20∧p.2.Act.Key.length≤100∧p.2.Act.Value.Text.length≤100):Fit (zpq g p) (n+1):=by
 unfold zpq
 split
 ·
  exact ⟨h.ids, by have:=h.len; omega,h.ri,h.op⟩
 ·
  rename_i hx
  have hk:=zm2 h.ri p.1
  have hkl:=hk.le
  have hi:=h.ids
  refine ⟨?_,?_,zyr h.ri hx hk, fun o ho=>?_⟩
  ·
   show (zk1 g.IDs _ _).length=(zk1 g.Ops _ _).length
   rw [zmi hkl,zmi (by omega),hi]
  ·
   show (zk1 g.Ops _ _).length≤_
   rw [zmi (by omega)]; have:=h.len; omega
  ·
   rcases zr4.1 ho with rfl | ho
   ·
    exact hp
   ·
    exact h.op o ho
def zdz (g:z00) (l:List (ID × z05)):z00:=l.foldl zpq g
theorem zsc (g:z00) (l:List (ID × z05)) (p:ID × z05):zdz g (l++[p])=zpq (zdz g l) p:=by unfold zdz; rw [List.foldl_append]; rfl
theorem ztj {n:Nat}:∀ {l:List (ID × z05)} {g:z00},Fit g n→(∀ p∈l,p.2.Preds.length≤20∧p.2.Act.Key.length≤100∧p.2.Act.Value.Text.length≤100)→Fit (zdz g l) (n+l.length):=by
 intro l
 induction l generalizing n with
 | nil=>intro g h _; exact h
 | cons p l ih =>
  intro g h hp
  have:=ih (zj6 h (hp p (by simp))) fun q hq=>hp q (by simp [hq])
  rw [List.length_cons, show n+(l.length+1)=n+1+l.length by omega]
  exact this
def zb5 (g:z00):List (ID × z05):=g.IDs.zip g.Ops
theorem zjz (h:g.IDs.length=g.Ops.length) {i:Nat} (hi:i<g.Ops.length):(zb5 g)[i]? = some (g.IDs[i],g.Ops[i]):=by
 unfold zb5; rw [List.getElem?_zip_eq_some]; exact ⟨List.getElem?_eq_getElem (by omega),List.getElem?_eq_getElem hi⟩
theorem ze9 (h:g.IDs.length=g.Ops.length):(zb5 g).length=g.Ops.length:=by unfold zb5; rw [List.length_zip,h,Nat.min_self]
theorem zjb {p:ID × z05} (h:p∈zb5 g):p.1∈g.IDs∧p.2∈g.Ops:=by
 unfold zb5 at h
 exact ⟨(List.of_mem_zip h).1,(List.of_mem_zip h).2⟩
def zgq (a b:z00):z00:=zdz a (zb5 b)
theorem zu9 {l:List ID} (hi:z8d l=true) (hl:l.length≤1000) {x:ID} (hx:x∈l):z2z l x=some (l.idxOf x:Int):=by
 obtain ⟨k,k1,k2⟩:=z10e l x (by omega)
 rcases k2 with ⟨-,h⟩ | ⟨i,rfl,h,rfl⟩
 ·
  exact absurd hx h
 ·
  rw [k1,zdh hi h]
theorem zvk {l:List ID} (hl:l.length≤1000) {x:ID} (hx:x∉l):z2z l x=some (-1):=by
 obtain ⟨k,k1,k2⟩:=z10e l x (by omega)
 rcases k2 with ⟨rfl,h⟩ | ⟨i,rfl,h,rfl⟩
 ·
  exact k1
 ·
  exact absurd (List.getElem_mem h) hx
end
section
open Go
variable {g a b:z00}
theorem zsh (h:b.IDs.length=b.Ops.length) {i:Nat} (hi:i<b.Ops.length):(zb5 b).take (i+1)=(zb5 b).take i++[(b.IDs[i],b.Ops[i])]:=by
 rw [List.take_add_one,zjz h hi]; rfl
theorem zqk {n m:Nat} (Fa:Fit a n) (Fb:Fit b m) (i:Nat):Fit (zdz a ((zb5 b).take i)) (n+m):=by
 have h:=ztj (l:=(zb5 b).take i) Fa fun p hp=>Fb.op _ (zjb (List.mem_of_mem_take hp)).2
 have hl:((zb5 b).take i).length≤m:=by rw [List.length_take,ze9 Fb.ids]; have:=Fb.len; omega
 exact ⟨h.ids, by have:=h.len; omega,h.ri,h.op⟩
end
section
open Go
variable {g h a b:z00} {n m:Nat}
def z2m (g:z00) (x:ID):Option z05:=if x∈g.IDs then g.Ops[g.IDs.idxOf x]? else none
theorem z9g (F:Fit g n) {x:ID} {o:z05}:z2m g x=some o↔∃ i:Nat,g.IDs[i]? = some x∧g.Ops[i]? = some o:=by
 unfold z2m
 constructor
 ·
  intro h
  split at h
  ·
   rename_i hx
   exact ⟨_, by rw [List.getElem?_eq_getElem (List.idxOf_lt_length_of_mem hx)]; simp,h⟩
  ·
   cases h
 ·
  rintro ⟨i,h1,h2⟩
  obtain ⟨hi,rfl⟩:=List.getElem?_eq_some_iff.1 h1
  rw [if_pos (List.getElem_mem hi),zdh F.ri hi,h2]
theorem z9p (F:Fit g n) {i:Nat} (hi:i<g.Ops.length):z2m g (g.IDs[i]'(by rw [F.ids]; exact hi))=some g.Ops[i] :=
 (z9g F).2 ⟨i,List.getElem?_eq_getElem (by rw [F.ids]; exact hi),List.getElem?_eq_getElem hi⟩
theorem zbe {x:ID} {o:z05} (h:z2m g x=some o):x∈g.IDs∧o∈g.Ops:=by
 unfold z2m at h
 split at h
 ·
  exact ⟨by assumption,List.mem_of_getElem? h⟩
 ·
  cases h
theorem z92 (F:Fit g n) {x:ID} (hx:x∈g.IDs):∃ o,z2m g x=some o:=by
 have h1:g.IDs.idxOf x<g.Ops.length:=by rw [← F.ids]; exact List.idxOf_lt_length_of_mem hx
 exact ⟨g.Ops[g.IDs.idxOf x], by unfold z2m; rw [if_pos hx,List.getElem?_eq_getElem h1]⟩
theorem zd4 {x:ID} (hx:x∉g.IDs):z2m g x=none:=by unfold z2m; rw [if_neg hx]
theorem zk2 (F:Fit g n) {x:ID}:(z2m g x).isSome=decide (x∈g.IDs):=by
 by_cases hx:x∈g.IDs
 ·
  obtain ⟨o,ho⟩:=z92 F hx; rw [ho,decide_eq_true hx]; rfl
 ·
  rw [zd4 hx,decide_eq_false hx]; rfl
theorem zh8 (Fg:Fit g n) (Fh:Fit h m) (e:∀ x,z2m g x=z2m h x):g=h:=by
 have hids:g.IDs=h.IDs:=zdd _ _ ((za8 _).1 Fg.ri) ((za8 _).1 Fh.ri) fun x=>by
  have h1:=zk2 Fg (x:=x)
  have h2:=zk2 Fh (x:=x)
  rw [e] at h1
  rw [h1] at h2
  simpa using h2
 have hl:g.Ops.length=h.Ops.length:=by rw [← Fg.ids,← Fh.ids,hids]
 have hops:g.Ops=h.Ops:=List.ext_getElem hl fun i h1 h2=>by
  have e1:=z9p Fg h1
  have e2:=z9p Fh h2
  have e3:g.IDs[i]'(by rw [Fg.ids]; exact h1)=h.IDs[i]'(by rw [Fh.ids]; exact h2):=by simp [hids]
  rw [e3,e,e2] at e1
  exact (Option.some.inj e1).symm
 cases g; cases h
 simp only at hids hops
 rw [hids,hops]
theorem zyd (F:Fit g n) {p:ID × z05} (hp:p.2.Preds.length≤20∧p.2.Act.Key.length≤100∧p.2.Act.Value.Text.length≤100) (hx:p.1∉g.IDs) (y:ID):z2m (zpq g p) y=if y=p.1 then some p.2 else z2m g y:=by
 have Fa:=zj6 F hp
 have hk:=zm2 F.ri p.1
 have hkl:=hk.le
 have hi:=F.ids
 have e:zpq g p=insG g (posF g.IDs p.1) p.1 p.2:=by unfold zpq; rw [if_neg hx]
 rw [e] at Fa ⊢
 generalize posF g.IDs p.1=k at hk hkl Fa
 by_cases hy:y=p.1
 ·
  rw [if_pos hy,z9g Fa]
  exact ⟨k, by show (zk1 g.IDs k p.1)[k]? = _; rw [zv0 hkl,hy],zv0 (by omega)⟩
 ·
  rw [if_neg hy]
  cases ho:z2m g y with
  | some o =>
   obtain ⟨i,h1,h2⟩:=(z9g F).1 ho
   rw [z9g Fa]
   by_cases hik:i<k
   ·
    exact ⟨i, by show (zk1 g.IDs k p.1)[i]? = _; rw [ztb hkl hik,h1], by show (zk1 g.Ops k p.2)[i]? = _; rw [ztb (by omega) hik,h2]⟩
   ·
    exact ⟨i+1, by show (zk1 g.IDs k p.1)[i+1]? = _; rw [ztv hkl (by omega)]; exact h1, by show (zk1 g.Ops k p.2)[i+1]? = _; rw [ztv (by omega) (by omega)]; exact h2⟩
  | none =>
   refine zd4 fun hm=>?_
   rcases zr4.1 hm with rfl | hm
   ·
    exact hy rfl
   ·
    obtain ⟨o,h⟩:=z92 F hm; rw [h] at ho; cases ho
def zzi (g:z00) (rk:ID→Nat):Prop:=∀ x o,z2m g x=some o→∀ p∈o.Preds,rk p<rk x
theorem z10k (G:zko g) (F:Fit g n):∃ rk,zzi g rk:=by
 obtain ⟨Q,-,q1,q2,q3⟩:=zrb G.e G.ins
 refine ⟨fun x=>Q.idxOf (g.IDs.idxOf x), fun x o ho p hp=>?_⟩
 obtain ⟨i,h1,h2⟩:=(z9g F).1 ho
 obtain ⟨hi,rfl⟩:=List.getElem?_eq_some_iff.1 h1
 obtain ⟨hio,rfl⟩:=List.getElem?_eq_some_iff.1 h2
 have hiQ:i∈Q:=(q3 i).2 ⟨hio,G.wf i hio⟩
 have hk:Q.idxOf i<Q.length:=List.idxOf_lt_length_of_mem hiQ
 show Q.idxOf (g.IDs.idxOf p)<Q.idxOf (g.IDs.idxOf g.IDs[i])
 rw [zdh F.ri hi]
 have hm:=q2 (Q.idxOf i) hk (g.IDs.idxOf p) (by
  have:Q[Q.idxOf i]=i:=by simp
  rw [this]
  unfold z3m
  exact List.mem_map.2 ⟨p, by rw [zav hio]; exact hp,rfl⟩)
 obtain ⟨j,hj,e⟩:=List.getElem_of_mem hm
 rw [List.length_take] at hj
 rw [List.getElem_take] at e
 have:Q.idxOf (g.IDs.idxOf p)≤j:=by
  rw [← e]
  exact Nat.le_of_not_lt fun c=>by
   have:=List.not_of_lt_findIdx (p:=fun y=>y==Q[j]) (xs:=Q) (i:=j) (by simpa [List.idxOf] using c)
   simp at this
 omega
structure z11a (g:z00):Prop where
 ops:∀ x o,z2m g x=some o→zij o=0∧sha (zih o)=x∧o.Preds.length≤4∧z8d o.Preds=true
 ins:∀ x o,z2m g x=some o→∀ p∈o.Preds,p∈g.IDs
 rk:∃ rk,zzi g rk
theorem zmd (G:zko g) (F:Fit g n):z11a g:=by
 refine ⟨fun x o ho=>?_, fun x o ho p hp=>?_,z10k G F⟩
 ·
  obtain ⟨i,h1,h2⟩:=(z9g F).1 ho
  obtain ⟨hi,rfl⟩:=List.getElem?_eq_some_iff.1 h1
  obtain ⟨hio,rfl⟩:=List.getElem?_eq_some_iff.1 h2
  obtain ⟨k1,k2⟩:=G.ops i hio
  exact ⟨k1,k2.trans (z7f hi),G.e.op i hio⟩
 ·
  obtain ⟨i,h1,h2⟩:=(z9g F).1 ho
  obtain ⟨hio,rfl⟩:=List.getElem?_eq_some_iff.1 h2
  exact zeu G.ins i p (by rw [zav hio]; exact hp)
theorem zp9 (F:Fit g 60) (S:z11a g):zko g:=by
 have hl:=F.len
 have E:zd5 g:=⟨hl,F.ids,F.ri, fun i hi=>(S.ops _ _ (z9p F hi)).2.2⟩
 have hin:zhu g=true:=by
  unfold zhu
  rw [List.all_eq_true]
  intro o ho
  rw [List.all_eq_true]
  intro p hp
  obtain ⟨i,hi,rfl⟩:=List.getElem_of_mem ho
  simpa using S.ins _ _ (z9p F hi) p hp
 obtain ⟨rk,hrk⟩:=S.rk
 refine ⟨E, fun i hi=>?_,hin, fun i hi=>?_⟩
 ·
  obtain ⟨k1,k2,-⟩:=S.ops _ _ (z9p F hi)
  exact ⟨k1,k2.trans (z7f (by rw [F.ids]; exact hi)).symm⟩
 ·
  have key:∀ r i (hi:i<g.Ops.length),rk (g.IDs[i]'(by rw [F.ids]; exact hi))=r→Wf (z3m g) i:=by
   intro r
   induction r using Nat.strongRecOn with
   | _ r ih =>
    intro i hi hr
    refine .mk i fun p hp=>?_
    unfold z3m at hp
    obtain ⟨x,hx,rfl⟩:=List.mem_map.1 hp
    rw [zav hi] at hx
    have hlt:=hrk _ _ (z9p F hi) x hx
    have hxm:=S.ins _ _ (z9p F hi) x hx
    have hpl:g.IDs.idxOf x<g.IDs.length:=List.idxOf_lt_length_of_mem hxm
    refine ih (rk x) (by omega) (g.IDs.idxOf x) (by rw [← F.ids]; exact hpl) ?_
    congr 1
    simp
  exact key _ i hi rfl
theorem zst {l:List (ID × z05)}:∀ {g:z00} {n:Nat},Fit g n→(∀ p∈l,p.2.Preds.length≤20∧p.2.Act.Key.length≤100∧p.2.Act.Value.Text.length≤100)→(l.map Prod.fst).Nodup→∀ y,z2m (zdz g l) y=(z2m g y).or ((l.find? fun p=>decide (p.1=y)).map Prod.snd):=by
 induction l with
 | nil=>intro g n F _ _ y; simp [zdz]
 | cons p l ih =>
  intro g n F hp hnd y
  rw [List.map_cons,List.nodup_cons] at hnd
  have hpp:=hp p (by simp)
  have e:zdz g (p::l)=zdz (zpq g p) l:=rfl
  rw [e,ih (zj6 F hpp) (fun q hq=>hp q (by simp [hq])) hnd.2,List.find?_cons]
  have hnf:p.1=y→l.find? (fun q=>decide (q.1=y))=none:=fun e=>by
   rw [List.find?_eq_none]
   intro q hq hh
   exact hnd.1 (List.mem_map.2 ⟨q,hq, by simpa [e] using hh⟩)
  by_cases hx:p.1∈g.IDs
  ·
   have ea:zpq g p=g:=by unfold zpq; rw [if_pos hx]
   rw [ea]
   by_cases hy:p.1=y
   ·
    obtain ⟨o,ho⟩:=z92 F hx
    rw [← hy,ho]; rfl
   ·
    rw [decide_eq_false hy]
  ·
   rw [zyd F hpp hx]
   by_cases hy:p.1=y
   ·
    rw [if_pos hy.symm,decide_eq_true hy,zd4 (by rw [← hy]; exact hx)]; rfl
   ·
    rw [if_neg fun e=>hy e.symm,decide_eq_false hy]
theorem zxm (F:Fit b m) (y:ID):((zb5 b).find? fun p=>decide (p.1=y)).map Prod.snd=z2m b y:=by
 cases ho:z2m b y with
 | none =>
  have:(zb5 b).find? (fun p=>decide (p.1=y))=none:=List.find?_eq_none.2 fun q hq hh=>by
   have h1:=(zjb hq).1
   have:q.1=y:=by simpa using hh
   rw [this] at h1
   obtain ⟨o,h⟩:=z92 F h1
   rw [h] at ho; cases ho
  rw [this]; rfl
 | some o =>
  cases hf:(zb5 b).find? (fun p=>decide (p.1=y)) with
  | none =>
   obtain ⟨i,h1,h2⟩:=(z9g F).1 ho
   obtain ⟨hio,rfl⟩:=List.getElem?_eq_some_iff.1 h2
   have hi:=zjz F.ids hio
   have:=List.find?_eq_none.1 hf _ (List.mem_of_getElem? hi)
   rw [List.getElem?_eq_getElem (by rw [F.ids]; exact hio)] at h1
   simp only [Option.some.injEq] at h1
   simp [h1] at this
  | some q =>
   have h1:=List.find?_some hf
   have h2:=List.mem_of_find?_eq_some hf
   have h1:q.1=y:=by simpa using h1
   obtain ⟨i,hi,rfl⟩:=List.getElem_of_mem h2
   rw [ze9 F.ids] at hi
   have e:=zjz F.ids hi
   rw [List.getElem?_eq_getElem (by rw [ze9 F.ids]; exact hi)] at e
   simp only [Option.some.injEq] at e
   rw [e] at h1 ⊢
   have:=z9p F hi
   simp only at h1
   rw [h1,ho] at this
   exact this.symm
theorem zq0 (F:Fit b m):((zb5 b).map Prod.fst).Nodup:=by
 unfold zb5
 rw [List.map_fst_zip (by rw [F.ids]; exact Nat.le_refl _)]
 exact zhq F.ri
theorem zru (Fa:Fit a n) (Fb:Fit b m) (y:ID):z2m (zgq a b) y=(z2m a y).or (z2m b y):=by
 unfold zgq
 rw [zst Fa (fun p hp=>Fb.op _ (zjb hp).2) (zq0 Fb),zxm Fb]
theorem zth (Fa:Fit a n) (Fb:Fit b m):Fit (zgq a b) (n+m):=by
 have:=zqk Fa Fb b.Ops.length
 rw [List.take_of_length_le (by rw [ze9 Fb.ids]; exact Nat.le_refl _)] at this
 exact this
end
section
open Go
variable {g a b:z00} {n m:Nat}
theorem zqj (F:Fit g n) (hn:n≤900):z3o g=some g:=by
 have h1:=F.len
 have h2:=F.ids
 have main:=z28 (F:=z3p g) (b:=g.Ops) g.Ops.length (fun i=>(g.Ops.take i,(i:Int))) (fun i hi=>?_) ?_
 ·
  unfold z3o
  rw [z18 (by simp; omega)]
  simp only [bS,List.nil_append]
  rw [List.take_zero] at main
  rw [show (0:Int)=((0:Nat):Int) from rfl,main]
  simp only [bS]
 ·
  have h4:=(F.op _ (List.getElem_mem hi)).1
  unfold z3p zae
  rw [if_pos (by simpa using hi)]
  simp only []
  rw [z0c hi]
  simp only [bS]
  rw [z18 (by simp; omega)]
  simp only [bS,List.nil_append]
  rw [z18 (by simp; omega),z0g (by omega)]
  simp only [bS]
  rw [List.take_add_one,List.getElem?_eq_getElem hi]; rfl
 ·
  unfold z3p
  rw [if_neg (by simp),List.take_length]
theorem zy3 (h:Fit g n) (hn:n≤800) (p:ID × z05) (hp:p.2.Preds.length≤20∧p.2.Act.Key.length≤100∧p.2.Act.Value.Text.length≤100) (hx:p.1∉g.IDs):z95 g p.1 p.2=some (zpq g p):=by
 have hf:=zj6 h hp
 obtain ⟨k,hk⟩:∃ k,k=posF g.IDs p.1:=⟨_,rfl⟩
 have hP:=zm2 h.ri p.1
 unfold zpq at hf ⊢
 rw [if_neg hx] at hf ⊢
 rw [← hk] at hf hP ⊢
 have hkl:=hP.le
 have hl:=h.len; have hi:=h.ids
 have main:=zaf (F:=z8f g p.1) k (fun i s=>s=(i:Int)) (fun b=>b=(k:Int)) (fun i s hik hs=>?_) (fun s hs=>?_) 0 0 (Nat.zero_le _) rfl
 ·
  obtain ⟨b,b1,rfl⟩:=main
  unfold z95
  rw [b1]
  simp only [bS]
  rw [show (0:Int)=((0:Nat):Int) from rfl,zd0 (Nat.zero_le _) hkl]
  simp only [bS]
  rw [z18 (by simp; omega)]
  simp only [bS]
  rw [z18 (by simp; omega),zd0 hkl (Nat.le_refl _)]
  simp only [bS]
  rw [z18 (by simp; omega),zd0 (Nat.zero_le _) (by omega)]
  simp only [bS]
  rw [z18 (by simp; omega)]
  simp only [bS]
  rw [z18 (by simp; omega),zd0 (by omega) (Nat.le_refl _)]
  simp only [bS]
  rw [z18 (by simp; omega)]
  simp only [bS]
  have e:(⟨[]++List.take (k - 0) (List.drop 0 g.IDs)++[p.1]++List.take (g.IDs.length - k) (List.drop k g.IDs),[]++List.take (k - 0) (List.drop 0 g.Ops)++[p.2]++List.take (g.Ops.length - k) (List.drop k g.Ops)⟩:z00)=insG g k p.1 p.2:=by
   unfold insG zk1
   rw [List.take_of_length_le (l:=List.drop k g.IDs) (by simp),List.take_of_length_le (l:=List.drop k g.Ops) (by simp)]
   simp
  rw [e,zqj hf (by omega)]
  simp only [bS]
 ·
  subst hs
  have h:i<g.IDs.length:=by omega
  refine ⟨_,?_,rfl⟩
  unfold z8f
  rw [if_pos (by simpa using h),z0c h]
  simp only [bS]
  rw [zp6]
  simp only [bS]
  rw [zlm,decide_eq_true (hP.lo i h hik),if_pos rfl,z0g (by omega)]
 ·
  subst hs
  refine ⟨_,?_,rfl⟩
  unfold z8f
  by_cases h:k<g.IDs.length
  ·
   rw [if_pos (by simpa using h),z0c h]
   simp only [bS]
   rw [zp6]
   simp only [bS]
   rw [zlm,decide_eq_false (by have:=hP.hi k h (Nat.le_refl _); omega),if_neg (by simp)]
  ·
   rw [if_neg (by simpa using h)]
theorem z11e (l m:List ID) (hm:m.length≤1000):z1n l m=some (decide (l=m)):=by
 by_cases h:l.length=m.length
 ·
  exact z12x l m (by omega)
 ·
  have hn:l≠m:=fun e=>h (by rw [e])
  unfold z1n
  rw [if_pos (by simp; omega),decide_eq_false hn]
theorem zwd (p q:z05) (hp:q.Preds.length≤1000):z8l p q=some (decide (p=q)):=by
 unfold z8l
 rw [z11e _ _ hp]
 simp only [bS]
 by_cases h1:p.Author=q.Author
 ·
  by_cases h2:p.Stamp=q.Stamp
  ·
   by_cases h3:p.Act=q.Act
   ·
    by_cases h4:p.Sig=q.Sig
    ·
     simp [zem,h1,h2,h3,h4]
    ·
     simp [zem,h1,h2,h3,h4]
   ·
    simp [zem,h1,h2,h3]
  ·
   simp [zem,h1,h2]
 ·
  simp [zem,h1]
end
section
open Go
variable {g a b:z00} {n m:Nat} {l:List z00}
structure Rp (g:z00):Prop where
 good:zko g
 op:∀ o∈g.Ops,o.Preds.length≤20∧o.Act.Key.length≤100∧o.Act.Value.Text.length≤100
 wf:z3z g
theorem Rp.fit (h:Rp g):Fit g 60:=⟨h.good.e.ids,h.good.e.len,h.good.e.ri,h.op⟩
def zam (l:List z00) (x:ID):Option z05:=l.findSome? fun g=>z2m g x
theorem zhw (l:List z00) (g:z00) (x:ID):zam (l++[g]) x=(zam l x).or (z2m g x):=by
 unfold zam
 rw [List.findSome?_append]
 simp
def zga (l:List z00):Prop:=∀ g∈l,∀ h∈l,∀ x o q,z2m g x=some o→z2m h x=some q→o=q
theorem zbs {x:ID} {o:z05} (h:zam l x=some o):∃ g∈l,z2m g x=some o:=by
 unfold zam at h
 obtain ⟨g,h1,h2⟩:=List.exists_of_findSome?_eq_some h
 exact ⟨g,h1,h2⟩
theorem zbv (A:zga l) {g:z00} (hg:g∈l) {x:ID} {o:z05} (h:z2m g x=some o):zam l x=some o:=by
 cases hq:zam l x with
 | none =>
  unfold zam at hq
  have:=List.findSome?_eq_none_iff.1 hq g hg
  rw [h] at this; cases this
 | some q =>
  obtain ⟨g',h1,h2⟩:=zbs hq
  rw [A g hg g' h1 x o q h h2]
def zji (g:z00) (P:ID→Option z05):Prop:=∃ x o q,z2m g x=some o∧P x=some q∧o≠q
theorem zi9 (hi:z8d g.IDs=true) {i:Nat} (h:i<g.IDs.length):g.IDs[i]∉g.IDs.take i:=fun hm=>by
 obtain ⟨j,hj,e⟩:=List.getElem_of_mem hm
 rw [List.length_take] at hj
 rw [List.getElem_take] at e
 have:=zqx hi (by omega) h e
 omega
theorem zva (R:Rp g) (P:ID→Option z05) :
  ∀ k i (s:List (ID × z05)),g.IDs.length - i=k→i≤g.IDs.length→(∀ x,z43 s x=(if x∈g.IDs.take i then z2m g x else none).or (P x))→(∀ j (h:j<g.IDs.length) (h2:j<g.Ops.length) q,j<i→P g.IDs[j]=some q→q=g.Ops[j]) →
   ∃ r,iter (z4a g) (s,(i:Int))=some r∧((r=.inl (.inl (.inl 14))∧zji g P)∨∃ t,r=.inr t∧¬ zji g P∧∀ x,z43 t x=(z2m g x).or (P x)):=by
 have F:=R.fit
 have hl:=F.len; have hids:=F.ids
 intro k
 induction k with
 | zero =>
  intro i s hk hi hs hno
  have hie:i=g.IDs.length:=by omega
  subst hie
  refine ⟨.inr s,z11 ?_,.inr ⟨s,rfl,?_, fun x=>?_⟩⟩
  ·
   unfold z4a
   simp only []
   rw [if_neg (by simp)]
  ·
   rintro ⟨x,o,q,h1,h2,h3⟩
   obtain ⟨j,j1,j2⟩:=(z9g F).1 h1
   obtain ⟨hj,rfl⟩:=List.getElem?_eq_some_iff.1 j1
   obtain ⟨hjo,rfl⟩:=List.getElem?_eq_some_iff.1 j2
   exact h3 (hno j hj hjo q hj h2).symm
  ·
   rw [hs,List.take_length]
   by_cases hx:x∈g.IDs
   ·
    rw [if_pos hx]
   ·
    rw [if_neg hx,zd4 hx]
 | succ k ih =>
  intro i s hk hi hs hno
  have hlt:i<g.IDs.length:=by omega
  have hio:i<g.Ops.length:=by omega
  have hnt:=zi9 F.ri hlt
  have hmi:z43 s g.IDs[i]=P g.IDs[i]:=by rw [hs,if_neg hnt]; rfl
  have hlk:=z9p F hio
  have htk:g.IDs.take (i+1)=g.IDs.take i++[g.IDs[i]]:=by rw [List.take_add_one,List.getElem?_eq_getElem hlt]; rfl
  have hmem:∀ x,x∈g.IDs.take (i+1)↔x∈g.IDs.take i∨x=g.IDs[i]:=fun x=>by rw [htk,List.mem_append,List.mem_singleton]
  have hnext:∀ x,z43 (zaw s g.IDs[i] g.Ops[i]) x=(if x∈g.IDs.take (i+1) then z2m g x else none).or (P x):=fun x=>by
   rw [zgd]
   by_cases e:x=g.IDs[i]
   ·
    rw [if_pos e,if_pos ((hmem x).2 (.inr e)),e,hlk]
    rfl
   ·
    rw [if_neg e,hs]
    by_cases hx:x∈g.IDs.take i
    ·
     rw [if_pos hx,if_pos ((hmem x).2 (.inl hx))]
    ·
     rw [if_neg hx,if_neg (fun h=>((hmem x).1 h).elim hx e)]
  cases hP:P g.IDs[i] with
  | none =>
   have hF:z4a g (s,(i:Int))=some (.inr (zaw s g.IDs[i] g.Ops[i],((i+1:Nat):Int))):=by
    unfold z4a
    simp only []
    rw [if_pos (by simpa using hlt),z0c hlt]
    simp only [bS]
    rw [hmi,hP]
    simp only [Option.isSome_none,Bool.false_eq_true,if_false,zr3]
    rw [z0c hio,z0g (by omega)]
    simp only [bS]
   rw [z1g hF]
   refine ih (i+1) _ (by omega) (by omega) hnext fun j h h2 q hj hq=>?_
   by_cases e:j=i
   ·
    subst e; rw [hP] at hq; cases hq
   ·
    exact hno j h h2 q (by omega) hq
  | some q =>
   have hq4:q.Preds.length≤1000∨True:=.inr trivial
   have hpre:z4a g (s,(i:Int))=if !decide (q=g.Ops[i]) then some (.inl (.inl (.inl (.inl 14)))) else some (.inr (zaw s g.IDs[i] g.Ops[i],((i+1:Nat):Int))):=by
    have hsame:z8l q g.Ops[i]=some (decide (q=g.Ops[i])):=by
     have h4:=(F.op _ (List.getElem_mem hio)).1
     have:z8l q g.Ops[i]=some (decide (q=g.Ops[i])):=zwd q g.Ops[i] (by omega)
     exact this
    unfold z4a
    simp only []
    rw [if_pos (by simpa using hlt),z0c hlt]
    simp only [bS]
    rw [hmi,hP]
    simp only [Option.isSome_some,if_true,Option.getD_some]
    rw [z0c hio,z0g (by omega)]
    simp only [bS]
    rw [hsame]
    simp only [bS]
    cases decide (q=g.Ops[i]) <;> rfl
   by_cases he:q=g.Ops[i]
   ·
    rw [decide_eq_true he,if_neg (by simp)] at hpre
    rw [z1g hpre]
    refine ih (i+1) _ (by omega) (by omega) hnext fun j h h2 q' hj hq=>?_
    by_cases e:j=i
    ·
     subst e; rw [hP] at hq; cases hq; exact he
    ·
     exact hno j h h2 q' (by omega) hq
   ·
    rw [decide_eq_false he,if_pos (by simp)] at hpre
    exact ⟨_,z11 hpre,.inl ⟨rfl,g.IDs[i],g.Ops[i],q,hlk,hP, fun e=>he e.symm⟩⟩
theorem zhx {g:z00} (A:zga l):zga (l++[g])↔¬ zji g (zam l):=by
 constructor
 ·
  rintro B ⟨x,o,q,h1,h2,h3⟩
  obtain ⟨g',h4,h5⟩:=zbs h2
  exact h3 (B g (by simp) g' (by simp [h4]) x o q h1 h5)
 ·
  intro hc h hh h' hh' x o q h1 h2
  rcases List.mem_append.1 hh with k1 | k1 <;> rcases List.mem_append.1 hh' with k2 | k2
  ·
   exact A h k1 h' k2 x o q h1 h2
  ·
   rw [List.mem_singleton] at k2; subst k2
   refine Classical.byContradiction fun hne=>hc ⟨x,q,o,h2,zbv A k1 h1, fun e=>hne e.symm⟩
  ·
   rw [List.mem_singleton] at k1; subst k1
   exact Classical.byContradiction fun hne=>hc ⟨x,o,q,h1,zbv A k2 h2,hne⟩
  ·
   rw [List.mem_singleton] at k1 k2; subst k1; subst k2
   rw [h1] at h2; exact Option.some.inj h2
theorem zrr {i:Nat} (A:zga l):zga (l.take i):=fun g hg h hh=>A g (List.mem_of_mem_take hg) h (List.mem_of_mem_take hh)
theorem zyc (hl:l.length≤1000) (R:∀ g∈l,Rp g):∀ k i (s:List (ID × z05)),l.length - i=k→i≤l.length→zga (l.take i)→(∀ x,z43 s x=zam (l.take i) x) →
  ∃ r,iter (z6y l) (s,(i:Int))=some r∧((r=.inl 14∧¬ zga l)∨(r=.inr ()∧zga l)):=by
 intro k
 induction k with
 | zero =>
  intro i s hk hi A hs
  have hie:i=l.length:=by omega
  subst hie
  rw [List.take_length] at A
  refine ⟨.inr (),z11 ?_,.inr ⟨rfl,A⟩⟩
  unfold z6y
  simp only []
  rw [if_neg (by simp)]
 | succ k ih =>
  intro i s hk hi A hs
  have hlt:i<l.length:=by omega
  have htk:l.take (i+1)=l.take i++[l[i]]:=by rw [List.take_add_one,List.getElem?_eq_getElem hlt]; rfl
  obtain ⟨r,r1,r2⟩:=zva (R _ (List.getElem_mem hlt)) (zam (l.take i)) _ 0 s rfl (Nat.zero_le _) (fun x=>by rw [hs]; simp) (fun j _ _ _ h=>by omega)
  have hF:z6y l (s,(i:Int))=z4v (some r) fun s15=>some (.inr (s15,((i+1:Nat):Int))):=by
   unfold z6y
   simp only []
   rw [if_pos (by simpa using hlt),z0c hlt]
   simp only [bS]
   rw [show (0:Int)=((0:Nat):Int) from rfl,r1,z0g (by omega)]
  rcases r2 with ⟨rfl,hc⟩ | ⟨t,rfl,hc,ht⟩
  ·
   refine ⟨.inl 14,z11 (by rw [hF]; rfl),.inl ⟨rfl, fun B=>?_⟩⟩
   have:=zrr (i:=i+1) B
   rw [htk] at this
   exact (zhx A).1 this hc
  ·
   rw [zr3] at hF
   rw [z1g hF]
   have A':zga (l.take (i+1)):=by rw [htk]; exact (zhx A).2 hc
   refine ih (i+1) t (by omega) (by omega) A' fun x=>?_
   rw [ht,htk,zhw]
   cases h1:z2m l[i] x with
   | none=>simp
   | some o =>
    cases h2:zam (l.take i) x with
    | none=>rfl
    | some q =>
     have:o=q:=Classical.byContradiction fun hne=>hc ⟨x,o,q,h1,h2,hne⟩
     rw [this]
theorem zsw (Ra:Rp a) (Rb:Rp b):∃ c,z9j a b=some c∧(c=true↔zji a (z2m b)):=by
 have Fa:=Ra.fit; have Fb:=Rb.fit
 have ha1:=Fa.len; have ha2:=Fa.ids; have hb1:=Fb.len; have hb2:=Fb.ids
 have key:∀ k i,a.IDs.length - i=k→i≤a.IDs.length→(∀ j (h:j<a.IDs.length) (h2:j<a.Ops.length) q,j<i→z2m b a.IDs[j]=some q→q=a.Ops[j]) →
   ∃ r,iter (z3f a b) (i:Int)=some r∧((r=.inl true∧zji a (z2m b))∨(r=.inr ()∧¬ zji a (z2m b))):=by
  intro k
  induction k with
  | zero =>
   intro i hk hi hno
   have hie:i=a.IDs.length:=by omega
   subst hie
   refine ⟨.inr (),z11 (by unfold z3f; rw [if_neg (by simp)]),.inr ⟨rfl,?_⟩⟩
   rintro ⟨x,o,q,h1,h2,h3⟩
   obtain ⟨j,j1,j2⟩:=(z9g Fa).1 h1
   obtain ⟨hj,rfl⟩:=List.getElem?_eq_some_iff.1 j1
   obtain ⟨hjo,rfl⟩:=List.getElem?_eq_some_iff.1 j2
   exact h3 (hno j hj hjo q hj h2).symm
  | succ k ih =>
   intro i hk hi hno
   have hlt:i<a.IDs.length:=by omega
   have hio:i<a.Ops.length:=by omega
   have hlk:=z9p Fa hio
   by_cases hx:a.IDs[i]∈b.IDs
   ·
    have hqo:b.IDs.idxOf a.IDs[i]<b.Ops.length:=by rw [← hb2]; exact List.idxOf_lt_length_of_mem hx
    have hlb:z2m b a.IDs[i]=some b.Ops[b.IDs.idxOf a.IDs[i]]:=by unfold z2m; rw [if_pos hx,List.getElem?_eq_getElem hqo]
    have hpre:z3f a b (i:Int)=if !decide (a.Ops[i]=b.Ops[b.IDs.idxOf a.IDs[i]]) then some (.inl (.inl true)) else some (.inr ((i+1:Nat):Int)):=by
     have h4:=(Fa.op _ (List.getElem_mem hio)).1
     unfold z3f
     rw [if_pos (by simpa using hlt),z0c hlt]
     simp only [bS]
     rw [zu9 Fb.ri (by omega) hx]
     simp only [bS]
     rw [if_pos (by simp),z0c hio,z0c hqo]
     simp only [bS]
     rw [zy0 _ _ (by omega),z0g (by omega)]
     simp only [bS]
    by_cases he:a.Ops[i]=b.Ops[b.IDs.idxOf a.IDs[i]]
    ·
     rw [decide_eq_true he,if_neg (by simp)] at hpre
     rw [z1g hpre]
     refine ih (i+1) (by omega) (by omega) fun j h h2 q hj hq=>?_
     by_cases e:j=i
     ·
      subst e; rw [hlb] at hq; cases hq; exact he.symm
     ·
      exact hno j h h2 q (by omega) hq
    ·
     rw [decide_eq_false he,if_pos (by simp)] at hpre
     exact ⟨_,z11 hpre,.inl ⟨rfl,a.IDs[i],a.Ops[i],_,hlk,hlb,he⟩⟩
   ·
    have hpre:z3f a b (i:Int)=some (.inr ((i+1:Nat):Int)):=by
     unfold z3f
     rw [if_pos (by simpa using hlt),z0c hlt]
     simp only [bS]
     rw [zvk (by omega) hx]
     simp only [bS]
     rw [if_neg (by simp),z0g (by omega)]
    rw [z1g hpre]
    refine ih (i+1) (by omega) (by omega) fun j h h2 q hj hq=>?_
    by_cases e:j=i
    ·
     subst e; rw [zd4 hx] at hq; cases hq
    ·
     exact hno j h h2 q (by omega) hq
 obtain ⟨r,r1,r2⟩:=key _ 0 rfl (Nat.zero_le _) fun j _ _ _ h=>by omega
 unfold z9j
 rw [show (0:Int)=((0:Nat):Int) from rfl,r1]
 rcases r2 with ⟨rfl,hc⟩ | ⟨rfl,hc⟩
 ·
  exact ⟨true,rfl, by simp [hc]⟩
 ·
  exact ⟨false,rfl, by simp [hc]⟩
theorem zul (hl:l.length≤1000) (R:∀ g∈l,Rp g) {i:Nat} (hi:i<l.length):∃ r,iter (z48 l (i:Int)) 0=some r∧((r=.inl (.inl (.inl 14))∧∃ k,∃ h:k<l.length,k<i∧zji l[i] (z2m l[k]))∨(r=.inr ()∧∀ k (h:k<l.length),k<i→¬ zji l[i] (z2m l[k]))):=by
 have key:∀ d k,i - k=d→k≤i→(∀ j (h:j<l.length),j<k→¬ zji l[i] (z2m l[j])) →
   ∃ r,iter (z48 l (i:Int)) (k:Int)=some r∧((r=.inl (.inl (.inl 14))∧∃ k,∃ h:k<l.length,k<i∧zji l[i] (z2m l[k]))∨(r=.inr ()∧∀ k (h:k<l.length),k<i→¬ zji l[i] (z2m l[k]))):=by
  intro d
  induction d with
  | zero =>
   intro k hd hk hno
   have:k=i:=by omega
   subst this
   exact ⟨.inr (),z11 (by unfold z48; rw [if_neg (by simp)]),.inr ⟨rfl, fun j h hj=>hno j h hj⟩⟩
  | succ d ih =>
   intro k hd hk hno
   have hkl:k<l.length:=by omega
   obtain ⟨c,c1,c2⟩:=zsw (R _ (List.getElem_mem hi)) (R _ (List.getElem_mem hkl))
   have hF:z48 l (i:Int) (k:Int)=if c then some (.inl (.inl (.inl (.inl 14)))) else some (.inr ((k+1:Nat):Int)):=by
    unfold z48
    rw [if_pos (by simp; omega),z0c hi,z0c hkl]
    simp only [bS]
    rw [c1,z0g (by omega)]
    simp only [bS]
   cases c with
   | true=>exact ⟨_,z11 hF,.inl ⟨rfl,k,hkl, by omega,c2.1 rfl⟩⟩
   | false =>
    rw [if_neg (by simp)] at hF
    rw [z1g hF]
    refine ih (k+1) (by omega) (by omega) fun j h hj=>?_
    by_cases e:j=k
    ·
     subst e; exact fun hc=>by have:=c2.2 hc; cases this
    ·
     exact hno j h (by omega)
 exact key _ 0 rfl (Nat.zero_le _) fun j _ h=>by omega
theorem zse (hl:l.length≤1000) (R:∀ g∈l,Rp g):∀ d i,l.length - i=d→i≤l.length→zga (l.take i) →
  ∃ r,iter (z5b l) (i:Int)=some r∧((r=.inl 14∧¬ zga l)∨(r=.inr ()∧zga l)):=by
 intro d
 induction d with
 | zero =>
  intro i hd hi A
  have:i=l.length:=by omega
  subst this
  rw [List.take_length] at A
  exact ⟨.inr (),z11 (by unfold z5b; rw [if_neg (by simp)]),.inr ⟨rfl,A⟩⟩
 | succ d ih =>
  intro i hd hi A
  have hlt:i<l.length:=by omega
  have htk:l.take (i+1)=l.take i++[l[i]]:=by rw [List.take_add_one,List.getElem?_eq_getElem hlt]; rfl
  obtain ⟨r,r1,r2⟩:=zul hl R hlt
  have hF:z5b l (i:Int)=z4v (some r) fun _=>some (.inr ((i+1:Nat):Int)):=by
   unfold z5b
   rw [if_pos (by simpa using hlt),r1,z0g (by omega)]
   rfl
  rcases r2 with ⟨rfl,k,hk,hki,hc⟩ | ⟨rfl,hno⟩
  ·
   refine ⟨.inl 14,z11 (by rw [hF]; rfl),.inl ⟨rfl, fun B=>?_⟩⟩
   obtain ⟨x,o,q,h1,h2,h3⟩:=hc
   exact h3 (B _ (List.getElem_mem hlt) _ (List.getElem_mem hk) x o q h1 h2)
  ·
   rw [zr3] at hF
   rw [z1g hF]
   refine ih (i+1) (by omega) (by omega) ?_
   rw [htk,zhx A]
   rintro ⟨x,o,q,h1,h2,h3⟩
   obtain ⟨g',h4,h5⟩:=zbs h2
   obtain ⟨k,hk,e⟩:=List.getElem_of_mem h4
   rw [List.length_take] at hk
   rw [List.getElem_take] at e
   subst e
   exact hno k (by omega) (by omega) ⟨x,o,q,h1,h5,h3⟩
theorem zrm (hl:l.length≤1000) (hw:∀ g∈l,z3z g):∀ d i,l.length - i=d→i≤l.length→(∀ g∈l.take i,zko g) →
  ∃ r,iter (z56 l) (i:Int)=some r∧iter (z44 l) (i:Int)=some r∧((∃ c,r=.inl c∧c≠0∧¬ ∀ g∈l,zko g)∨(r=.inr ()∧∀ g∈l,zko g)):=by
 intro d
 induction d with
 | zero =>
  intro i hd hi hG
  have:i=l.length:=by omega
  subst this
  rw [List.take_length] at hG
  exact ⟨.inr (),z11 (by unfold z56; rw [if_neg (by simp)]),z11 (by unfold z44; rw [if_neg (by simp)]),.inr ⟨rfl,hG⟩⟩
 | succ d ih =>
  intro i hd hi hG
  have hlt:i<l.length:=by omega
  have htk:l.take (i+1)=l.take i++[l[i]]:=by rw [List.take_add_one,List.getElem?_eq_getElem hlt]; rfl
  obtain ⟨c,c1,c2,c3⟩:=zxk (hw _ (List.getElem_mem hlt))
  by_cases hc:c=0
  ·
   subst hc
   have hF:z56 l (i:Int)=some (.inr ((i+1:Nat):Int)):=by
    unfold z56
    rw [if_pos (by simpa using hlt),z0c hlt]
    simp only [bS]
    rw [c1,z0g (by omega)]
    rfl
   have hR:z44 l (i:Int)=some (.inr ((i+1:Nat):Int)):=by
    unfold z44
    rw [if_pos (by simpa using hlt),z0c hlt]
    simp only [bS]
    rw [c2,z0g (by omega)]
    rfl
   rw [z1g hF,z1g hR]
   refine ih (i+1) (by omega) (by omega) fun g hg=>?_
   rw [htk] at hg
   rcases List.mem_append.1 hg with hg | hg
   ·
    exact hG g hg
   ·
    rw [List.mem_singleton] at hg; subst hg; exact c3.1 rfl
  ·
   refine ⟨.inl c,z11 ?_,z11 ?_,.inl ⟨c,rfl,hc, fun h=>hc (c3.2 (h _ (List.getElem_mem hlt)))⟩⟩
   ·
    unfold z56
    rw [if_pos (by simpa using hlt),z0c hlt]
    simp only [bS]
    rw [c1]
    simp only [bS]
    rw [if_pos (by simpa using hc)]
   ·
    unfold z44
    rw [if_pos (by simpa using hlt),z0c hlt]
    simp only [bS]
    rw [c2]
    simp only [bS]
    rw [if_pos (by simpa using hc)]
theorem ztg (hl:l.length≤1000) (hw:∀ g∈l,z3z g) (hop:∀ g∈l,∀ o∈g.Ops,o.Preds.length≤20∧o.Act.Key.length≤100∧o.Act.Value.Text.length≤100) :
  ∃ c,z36 l=some c∧z2g l=some c∧(c=0↔l.length≤5∧(∀ g∈l,Rp g)∧zga l):=by
 unfold z36 z2g
 by_cases h5:5<l.length
 ·
  rw [if_pos (by simp; omega),if_pos (by simp; omega)]
  exact ⟨4,rfl,rfl, by simp; omega⟩
 ·
  rw [if_neg (by simp; omega),if_neg (by simp; omega)]
  obtain ⟨r,r1,r2,r3⟩:=zrm hl hw _ 0 rfl (Nat.zero_le _) (by simp)
  rw [show (0:Int)=((0:Nat):Int) from rfl,r1,r2]
  rcases r3 with ⟨c,rfl,hc,hn⟩ | ⟨rfl,hG⟩
  ·
   exact ⟨c,rfl,rfl, fun h=>absurd h hc, fun h=>absurd (fun g hg=>(h.2.1 g hg).good) hn⟩
  ·
   have R:∀ g∈l,Rp g:=fun g hg=>⟨hG g hg,hop g hg,hw g hg⟩
   obtain ⟨p,p1,p2⟩:=zyc hl R _ 0 [] rfl (Nat.zero_le _) (fun g hg=>by simp at hg) (fun x=>rfl)
   obtain ⟨q,q1,q2⟩:=zse hl R _ 0 rfl (Nat.zero_le _) (fun g hg=>by simp at hg)
   simp only [zr3]
   rw [p1,q1]
   rcases p2 with ⟨rfl,h1⟩ | ⟨rfl,h1⟩ <;> rcases q2 with ⟨rfl,h2⟩ | ⟨rfl,h2⟩
   ·
    exact ⟨14,rfl,rfl, by simp [h1]⟩
   ·
    exact absurd h2 h1
   ·
    exact absurd h1 h2
   ·
    exact ⟨0,rfl,rfl, by simp [h1]; exact ⟨by omega,R⟩⟩
theorem zs2 (hl:l.length≤5) (R:∀ g∈l,Rp g) (A:zga l):z36 l=some 0∧z2g l=some 0:=by
 obtain ⟨c,c1,c2,c3⟩:=ztg (l:=l) (by omega) (fun g hg=>(R g hg).wf) (fun g hg=>(R g hg).op)
 have:=c3.2 ⟨hl,R,A⟩
 subst this
 exact ⟨c1,c2⟩
end
section
open Go
variable {g a b:z00} {n m:Nat} {l:List z00}
theorem zt7 (F:Fit g n) (hn:n≤1000) (h:∀ o∈g.Ops,zk8 o):z3z g:=by
 have h1:=F.len; have h2:=F.ids
 exact ⟨⟨fun x _ y _=>trivial, by omega⟩,⟨h, by omega⟩,trivial⟩
structure Rps (l:List z00):Prop where
 len:l.length≤5
 rp:∀ g∈l,Rp g
 ag:zga l
theorem Rps.chk (h:Rps l):z36 l=some 0∧z2g l=some 0:=zs2 h.len h.rp h.ag
end
section
open Go
variable {g a b:z00} {n m:Nat} {l l0:List z00}
theorem zl2 (R:Rps l):∀ d i,l.length - i=d→∃ r,iter (z7u l) (i:Int)=some r∧iter (z64 l) (i:Int)=some r ∧
  ((r=.inl (false,0)∧∃ j,∃ h:j<l.length,i≤j∧l[j].IDs≠(l[0]'(by omega)).IDs)∨(r=.inr ()∧∀ j (h:j<l.length),i≤j→l[j].IDs=(l[0]'(by omega)).IDs)):=by
 have hl5:=R.len
 intro d
 induction d with
 | zero =>
  intro i hd
  refine ⟨.inr (),z11 ?_,z11 ?_,.inr ⟨rfl, fun j h hj=>by omega⟩⟩
  ·
   unfold z7u; rw [if_neg (by simp; omega)]
  ·
   unfold z64; rw [if_neg (by simp; omega)]
 | succ d ih =>
  intro i hd
  have hi:i<l.length:=by omega
  have h0:0<l.length:=by omega
  have F:=(R.rp _ (List.getElem_mem hi)).fit
  have hF1:=F.len; have hF2:=F.ids
  have e0:idx l 0=some l[0]:=z0c (i:=0) h0
  have hP:z7u l (i:Int)=if !decide (l[i].IDs=l[0].IDs) then some (.inl (.inl (false,0))) else some (.inr ((i+1:Nat):Int)):=by
   unfold z7u
   rw [if_pos (by simpa using hi),z0c hi,e0]
   simp only [bS]
   rw [z12x _ _ (by omega),z0g (by omega)]
   simp only [bS]
  have hQ:z64 l (i:Int)=if !decide (l[i].IDs=l[0].IDs) then some (.inl (.inl (false,0))) else some (.inr ((i+1:Nat):Int)):=by
   unfold z64
   rw [if_pos (by simpa using hi),z0c hi,e0]
   simp only [bS]
   rw [zt0 _ _ (by omega),z0g (by omega)]
   simp only [bS]
  by_cases he:l[i].IDs=l[0].IDs
  ·
   rw [decide_eq_true he,if_neg (by simp)] at hP hQ
   rw [z1g hP,z1g hQ]
   obtain ⟨r,r1,r2,r3⟩:=ih (i+1) (by omega)
   refine ⟨r,r1,r2,?_⟩
   rcases r3 with ⟨h1,j,hj,h2,h3⟩ | ⟨h1,h2⟩
   ·
    exact .inl ⟨h1,j,hj, by omega,h3⟩
   ·
    refine .inr ⟨h1, fun j hj hij=>?_⟩
    by_cases e:j=i
    ·
     subst e; exact he
    ·
     exact h2 j hj (by omega)
  ·
   rw [decide_eq_false he,if_pos (by simp)] at hP hQ
   exact ⟨_,z11 hP,z11 hQ,.inl ⟨rfl,i,hi,Nat.le_refl _,he⟩⟩
def zlu (l:List z00):Prop:=∀ g∈l,∀ h∈l,g.IDs=h.IDs
instance (l:List z00):Decidable (zlu l):=by unfold zlu; exact inferInstance
theorem zdj (i:Nat) (hi:i≤1):zlu l↔∀ j (h:j<l.length),i≤j→l[j].IDs=(l[0]'(by omega)).IDs:=by
 constructor
 ·
  intro h j hj _
  exact h _ (List.getElem_mem hj) _ (List.getElem_mem _)
 ·
  intro h
  have all:∀ j (hj:j<l.length),l[j].IDs=(l[0]'(by omega)).IDs:=fun j hj=>by
   by_cases e:j=0
   ·
    subst e; rfl
   ·
    exact h j hj (by omega)
  intro g hg k hk
  obtain ⟨p,hp,rfl⟩:=List.getElem_of_mem hg
  obtain ⟨q,hq,rfl⟩:=List.getElem_of_mem hk
  rw [all p hp,all q hq]
theorem z11o (R:Rps l):∃ b,z8k l=some (b,0)∧z71 l=some (b,0)∧(b=true↔zlu l):=by
 obtain ⟨c1,c2⟩:=R.chk
 obtain ⟨r,r1,-,r3⟩:=zl2 R _ 0 rfl
 obtain ⟨q,-,q2,q3⟩:=zl2 R _ 1 rfl
 unfold z8k z71
 rw [c1,c2]
 simp only [bS]
 rw [if_neg (by simp),if_neg (by simp), show (0:Int)=((0:Nat):Int) from rfl, show (1:Int)=((1:Nat):Int) from rfl,r1,q2]
 rcases r3 with ⟨rfl,j,hj,h1,h2⟩ | ⟨rfl,h1⟩ <;> rcases q3 with ⟨rfl,k,hk,h3,h4⟩ | ⟨rfl,h3⟩
 ·
  exact ⟨false,rfl,rfl, by simp; exact fun h=>h2 ((zdj 0 (by omega)).1 h j hj (by omega))⟩
 ·
  exact absurd ((zdj 0 (by omega)).1 ((zdj 1 (by omega)).2 h3) j hj (by omega)) h2
 ·
  exact absurd (h1 k hk (by omega)) h4
 ·
  exact ⟨true,rfl,rfl, by simp; exact (zdj 0 (by omega)).2 h1⟩
theorem zi4 (l:List z00):∀ (d i:Nat),11 - i=d→i≤11→∃ r,iter (z49 l) (i:Int)=some r∧(r=.inl true∨(r=.inr ()∧∀ j (h:j<l.length),i≤j→j≤10→zid l[j]))
 | 0,i,hd,hi=>by
  have:i=11:=by omega
  subst this
  refine ⟨.inr (),z11 ?_,.inr ⟨rfl, fun j hj h1 h2=>by omega⟩⟩
  unfold z49
  split
  ·
   rw [if_neg (by simp)]
  ·
   rfl
 | d+1,i,hd,hi=>by
  by_cases hl:i<l.length
  ·
   obtain ⟨b,b1,b2⟩:=zxx l[i]
   have hF:z49 l (i:Int)=if b then some (.inl (.inl true)) else some (.inr ((i+1:Nat):Int)):=by
    unfold z49
    rw [if_pos (by simpa using hl),if_pos (by simp; omega),z0c hl,z0g (by omega)]
    simp only [bS]
    rw [b1]
    simp only [bS]
   cases b with
   | true=>exact ⟨_,z11 hF,.inl rfl⟩
   | false =>
    rw [if_neg (by simp)] at hF
    rw [z1g hF]
    obtain ⟨r,r1,r2⟩:=zi4 l d (i+1) (by omega) (by omega)
    refine ⟨r,r1,r2.imp id fun h=>⟨h.1, fun j hj h1 h2=>?_⟩⟩
    by_cases e:j=i
    ·
     subst e; exact b2 rfl
    ·
     exact h.2 j hj (by omega) h2
  ·
   refine ⟨.inr (),z11 ?_,.inr ⟨rfl, fun j hj h1 h2=>by omega⟩⟩
   unfold z49
   rw [if_neg (by simp; omega)]
theorem z108 (l:List z00):∃ b,z9h l=some b∧(b=false→l.length≤10∧∀ g∈l,zid g):=by
 obtain ⟨r,r1,r2⟩:=zi4 l _ 0 rfl (by omega)
 unfold z9h
 rw [show (0:Int)=((0:Nat):Int) from rfl,r1]
 rcases r2 with rfl | ⟨rfl,h⟩
 ·
  exact ⟨true,rfl, by simp⟩
 ·
  refine ⟨_,rfl, fun hb=>?_⟩
  have hl:l.length≤10:=by simp at hb; omega
  exact ⟨hl, fun g hg=>by obtain ⟨j,hj,rfl⟩:=List.getElem_of_mem hg; exact h j hj (Nat.zero_le _) (by omega)⟩
theorem zuf (hl:l.length≤1000) (hw:∀ g∈l,z3z g) (hs:∀ g∈l,zid g):∃ c,z36 l=some c∧z2g l=some c∧(c=0→Rps l):=by
 obtain ⟨c,c1,c2,c3⟩:=ztg hl hw fun g hg o ho=>by
  obtain ⟨i,hi,rfl⟩:=List.getElem_of_mem ho
  exact (hs g hg).op i hi
 exact ⟨c,c1,c2, fun h=>⟨(c3.1 h).1,(c3.1 h).2.1,(c3.1 h).2.2⟩⟩
end
section
open Go
variable {g:z00}
theorem zjy {α:Type} {l:List α} {n:Nat} (h:n<l.length):l.take (n+1)=l.take n++[l[n]]:=by
 rw [List.take_add_one,List.getElem?_eq_getElem h]; rfl
theorem zlv {κ β:Type} [DecidableEq κ] (k:κ) (v:β):∀ m:List (κ × β),(zaw m k v).map Prod.fst=if k∈m.map Prod.fst then m.map Prod.fst else m.map Prod.fst++[k]
 | []=>rfl
 | p::m=>by
  unfold zaw
  by_cases h:k=p.1
  ·
   rw [if_pos h,if_pos (by simp [h])]; rfl
  ·
   rw [if_neg h,List.map_cons,zlv k v m]
   by_cases h2:k∈m.map Prod.fst
   ·
    rw [if_pos h2,if_pos (by rw [List.map_cons]; exact List.mem_cons_of_mem _ h2),List.map_cons]
   ·
    rw [if_neg h2,if_neg (by rw [List.map_cons]; exact fun h3=>(List.mem_cons.1 h3).elim h h2),List.map_cons]; rfl
theorem zrn {κ β:Type} [DecidableEq κ] {k:κ} {v:β} {m:List (κ × β)} (h:(m.map Prod.fst).Nodup):((zaw m k v).map Prod.fst).Nodup:=by
 rw [zlv]
 by_cases h2:k∈m.map Prod.fst
 ·
  rw [if_pos h2]; exact h
 ·
  rw [if_neg h2,List.nodup_append]
  exact ⟨h, by simp, fun a ha b hb e=>by rw [List.mem_singleton] at hb; subst hb; subst e; exact h2 ha⟩
theorem zy1 {κ β:Type} [DecidableEq κ] {k:κ} {v:β} {m:List (κ × β)}:(zaw m k v).length≤m.length+1:=by
 have h:=congrArg List.length (zlv k v m)
 rw [List.length_map] at h
 rw [h]
 split <;> simp
end
section
open Go
variable {g:z00}
theorem zt4 {α:Type} {l:List α} {n:Nat} (h:n<l.length):l.take (n+1)=l.take n++[l[n]]:=by
  rw [List.take_add_one,List.getElem?_eq_getElem h]; rfl
def zs9 (cl:ID→Option Bool) (a0:List ID) (s2:Int):Option (Sum (Sum Int Unit) Int) :=
  if decide (s2<(a0.length:Int)) then
    idx a0 s2 >>= fun x4 =>
    cl x4 >>= fun r6 =>
    if r6 then
      some (.inl (.inl s2))
    else
      some (.inr (w64 (s2+1)))
  else
    some (.inl (.inr ()))
def zv4 (cl:ID→Option Bool) (s5:(List ID) × Int × Int):Option (Sum ((List ID) × Int) ((List ID) × Int × Int)) :=
  if decide (s5.2.2<(s5.1.length:Int)) then
    idx s5.1 s5.2.2 >>= fun x7 =>
    cl x7 >>= fun r10 =>
    if !r10 then
      idx s5.1 s5.2.1 >>= fun x13 =>
      some (w64 (s5.2.1+1)) >>= fun y15 =>
      some (w64 (s5.2.2+1)) >>= fun y16 =>
      some (.inr (s5.1.set (s5.2.1:Int).toNat x7,y15,y16))
    else
      some (w64 (s5.2.2+1)) >>= fun y17 =>
      some (.inr (s5.1,s5.2.1,y17))
  else
    some (.inl (s5.1,s5.2.1))
def z11n (cl:ID→Option Bool) (c0:List ID):Option (List ID) :=
  (z4v (iter (zs9 cl c0) 0) fun s1=>some (-1)) >>= fun r1 =>
  if r1==(-1) then
    some c0
  else
    (iter (zv4 cl) (c0,r1,w64 (r1+1))) >>= fun s4 =>
    chk (0≤s4.2∧s4.2≤(s4.1.length:Int)∧(s4.1.length:Int)≤(s4.1.length:Int)) >>= fun u18 =>
    chk ((s4.2:Int).toNat+(((s4.1.length:Int):Int).toNat - (s4.2:Int).toNat)≤s4.1.length) >>= fun u20 =>
    cut (clr s4.1 ((s4.2:Int).toNat) (((s4.1.length:Int):Int).toNat - (s4.2:Int).toNat) (Vector.replicate 32 0)) 0 s4.2 >>= fun x22 =>
    some x22
theorem zwy (cl:ID→Option Bool) (p:ID→Bool) (hp:∀ x,cl x=some (p x)) (l:List ID) (hl:l.length≤1000):∃ b:Sum Int Unit,iter (zs9 cl l) 0=some b∧((b=.inr ()∧∀ x∈l,p x=false)∨∃ i:Nat,b=.inl (i:Int)∧(∃ h:i<l.length,p l[i]=true)∧∀ k (h:k<l.length),k<i→p l[k]=false):=by
  refine zbk (F:=zs9 cl l) (fun s=>∃ i:Nat,s=(i:Int)∧i≤l.length∧∀ k (h:k<l.length),k<i→p l[k]=false) (fun s=>l.length - s.toNat) _ ?_ 0 ⟨0,rfl,Nat.zero_le _, fun k _ h=>by omega⟩
  rintro s ⟨i,rfl,h1,h2⟩
  by_cases hi:i<l.length
  · have hF : zs9 cl l (i : Int) = if p l[i] then some (.inl (.inl (i : Int))) else some (.inr ((i + 1 : Nat) : Int)) := by
      unfold zs9
      rw [if_pos (by simpa using hi),z0c hi,z0g (by omega)]
      simp only [bS]
      rw [hp]
      simp only [bS]
    cases hc:p l[i] with
    | true=>rw [hc] at hF; exact .inl ⟨_,hF,.inr ⟨i,rfl,⟨hi,hc⟩,h2⟩⟩
    | false =>
      rw [hc] at hF
      refine .inr ⟨_,hF,⟨i+1,rfl,hi, fun k hk hki=>?_⟩, by simp; omega⟩
      by_cases hk':k=i
      · subst hk'; exact hc
      · exact h2 k hk (by omega)
  · refine .inl ⟨.inr (),?_,.inl ⟨rfl, fun x hx=>?_⟩⟩
    · unfold zs9
      rw [if_neg (by simpa using hi)]
    · obtain ⟨k,hk,rfl⟩:=List.getElem_of_mem hx
      exact h2 k hk (by omega)
theorem z10z (cl:ID→Option Bool) (p:ID→Bool) (hp:∀ x,cl x=some (p x)) (l:List ID) (hl:l.length≤1000):z11n cl l=some (l.filter fun x=>!p x):=by
  obtain ⟨b,b1,b2⟩:=zwy cl p hp l hl
  unfold z11n
  rw [b1]
  rcases b2 with ⟨rfl,b3⟩ | ⟨i,rfl,⟨b3,b5⟩,b4⟩
  · simp only [zr3,bS]
    rw [if_pos (by rfl),List.filter_eq_self.2 (fun x hx=>by rw [b3 x hx]; first | done | rfl)]
  · simp only [zzw,bS]
    rw [if_neg (by simp <;> omega),z0g (by omega)]
    have h0:(l.take (i+1)).filter (fun x=>!p x)=l.take i:=by
      rw [zt4 b3,List.filter_append,List.filter_cons_of_neg (by rw [b5]; simp),List.filter_nil,List.append_nil]
      refine List.filter_eq_self.2 fun x hx=>?_
      obtain ⟨k,hk,rfl⟩:=List.getElem_of_mem hx
      rw [List.length_take] at hk
      rw [List.getElem_take,b4 k (by omega) (by omega)]; rfl
    have main:=zaf (F:=zv4 cl) l.length
      (fun j st=>st.1.length=l.length∧st.2.2=(j:Int)∧∃ i:Nat,st.2.1=(i:Int)∧i<j∧(∀ q,j≤q→st.1[q]? = l[q]?)∧st.1.take i=(l.take j).filter fun x=>!p x)
      (fun b=>b.1.length=l.length∧∃ i:Nat,b.2=(i:Int)∧i≤l.length∧b.1.take i=l.filter fun x=>!p x)
      (fun j st hj hst=>by
        obtain ⟨c,i',j'⟩:=st
        obtain ⟨e1,e2,i,e3,e4,e5,e6⟩:=hst
        simp only at e1 e2 e3 e5 e6
        subst e2 e3
        have g1:c[j]'(by omega)=l[j]:=by
          have:=e5 j (Nat.le_refl _)
          rw [List.getElem?_eq_getElem (by omega),List.getElem?_eq_getElem (by omega)] at this
          exact Option.some.inj this
        have hF:zv4 cl (c,(i:Int),(j:Int))=if !p l[j] then some (.inr (c.set i l[j],((i+1:Nat):Int),((j+1:Nat):Int))) else some (.inr (c,(i:Int),((j+1:Nat):Int))):=by
          unfold zv4
          rw [if_pos (by simp; omega)]
          simp only []
          rw [z0c (by omega),g1]
          simp only [bS]
          rw [hp]
          simp only [bS]
          rw [z0c (by omega),z0g (by omega),z0g (by omega)]
          simp only [bS,Int.toNat_natCast]
        cases hc:p l[j] with
        | true =>
          rw [hc,if_neg (by simp)] at hF
          refine ⟨_,hF,e1,rfl,i,rfl, by omega, fun q hq=>e5 q (by omega),?_⟩
          rw [zt4 hj,List.filter_append,List.filter_cons_of_neg (by rw [hc]; simp),List.filter_nil,List.append_nil]
          exact e6
        | false =>
          rw [hc,if_pos (by simp)] at hF
          refine ⟨_,hF, by simpa using e1,rfl,i+1,rfl, by omega, fun q hq=>?_,?_⟩
          · show (c.set i _)[q]? = _
            rw [List.getElem?_set_ne (by omega)]; exact e5 q (by omega)
          · show (c.set i l[j]).take (i+1)=_
            rw [zt4 (by rw [List.length_set]; omega),List.take_set_of_le (Nat.le_refl _),List.getElem_set_self,e6,zt4 hj,List.filter_append,List.filter_cons_of_pos (by rw [hc]; simp),List.filter_nil])
      (fun st hst=>by
        obtain ⟨c,i',j'⟩:=st
        obtain ⟨e1,e2,i,e3,e4,e5,e6⟩:=hst
        simp only at e1 e2 e3 e5 e6
        subst e2 e3
        refine ⟨(c,(i:Int)),?_,e1,i,rfl, by omega,?_⟩
        · unfold zv4
          rw [if_neg (by simp; omega)]
        · rw [List.take_length] at e6; exact e6)
      (l,(i:Int),((i+1:Nat):Int)) (i+1) b3 ⟨rfl,rfl,i,rfl, by omega, fun _ _=>rfl,h0.symm⟩
    obtain ⟨⟨c,k'⟩,m1,m2,k,m3,m4,m5⟩:=main
    simp only at m2 m3 m5
    subst m3
    rw [m1]
    simp only [bS]
    rw [z42 (by omega),z42 (by simp; omega)]
    simp only [bS,Int.toNat_natCast]
    rw [show (0:Int)=((0:Nat):Int) from rfl,zd0 (by omega) (by rw [zwb _ _ _ _ (by omega)]; omega)]
    simp only [bS,List.drop_zero,Nat.sub_zero]
    have:(clr c k (c.length - k) (Vector.replicate 32 0)).take k=c.take k:=by
      unfold clr
      first
              | rw [List.append_assoc,List.take_append_of_le_length (by rw [List.length_take]; omega),List.take_take,Nat.min_self]
              | rw [List.take_append_of_le_length (by rw [List.length_take]; omega),List.take_take,Nat.min_self]
    rw [this,m5]
theorem ztl (E:zd5 g) (l:List ID) (hl:l.length≤100):∃ s,z6x g.IDs l=some s∧z8d s=true∧∀ x,x∈s↔x∈l∧x∉g.IDs:=by
  have hlen:=E.len
  have hids:=E.ids
  have main:=zaf (F:=z6q g.IDs l) l.length
    (fun i st=>st.2=(i:Int)∧st.1=(l.take i).filter fun x=>!decide (x∈g.IDs))
    (fun r=>r=l.filter fun x=>!decide (x∈g.IDs))
    (fun i st hi hst=>by
      obtain ⟨s,i'⟩:=st
      obtain ⟨h1,h2⟩:=hst
      simp only at h1 h2
      subst h1 h2
      obtain ⟨k,k1,k2⟩:=zvo g.IDs l[i] (by omega)
      have hfl:((l.take i).filter fun x=>!decide (x∈g.IDs)).length≤(l.take i).length:=List.length_filter_le _ _
      rw [List.length_take] at hfl
      refine ⟨((l.take (i+1)).filter (fun x=>!decide (x∈g.IDs)),((i+1:Nat):Int)),?_,rfl,rfl⟩
      unfold z6q
      rw [if_pos (by simpa using hi)]
      simp only []
      rw [z0c hi]
      simp only [bS]
      rw [k1]
      simp only [bS]
      rw [k2,zt4 hi,List.filter_append,z0g (by omega)]
      cases hc:decide (l[i]∈g.IDs) with
      | true =>
        rw [if_neg (by simp),List.filter_cons_of_neg (by rw [hc]; simp)]
        simp
      | false =>
        rw [if_pos (by simp),List.filter_cons_of_pos (by rw [hc]; simp),z18 (by simp only [List.length_cons,List.length_nil]; omega)]
        simp only [bS,List.filter_nil])
    (fun st hst=>by
      obtain ⟨s,i'⟩:=st
      obtain ⟨h1,h2⟩:=hst
      simp only at h1 h2
      subst h1 h2
      refine ⟨_,?_,rfl⟩
      unfold z6q
      rw [if_neg (by simp),List.take_length])
    ([],0) 0 (Nat.zero_le _) ⟨rfl, by simp⟩
  obtain ⟨r,h1,hr⟩:=main
  have hfl:r.length≤l.length:=by rw [hr]; exact List.length_filter_le _ _
  obtain ⟨s,s1,s2,s3⟩:=zpc r (by omega)
  refine ⟨s,?_,s2, fun x=>?_⟩
  · unfold z6x
    rw [h1]
    simp only [bS]
    rw [s1]
    simp only [bS]
  · rw [s3,hr,List.mem_filter]; simp
end
section
open Go
variable {g:z00}
def zmt (g:z00) (m:Nat→Bool):Nat→List ID
 | 0=>[]
 | i+1=>if m i then zmt g m i++[zds g i] else zmt g m i
def zm1 (g:z00) (m:Nat→Bool):Nat→List z05
 | 0=>[]
 | i+1=>if m i then zm1 g m i++g.Ops[i]?.toList else zm1 g m i
theorem zz8 {g:z00} {m:Nat→Bool} {i:Nat} (h:m i=true):zmt g m (i+1)=zmt g m i++[zds g i]:=if_pos h
theorem zzr {g:z00} {m:Nat→Bool} {i:Nat} (h:m i=true):zm1 g m (i+1)=zm1 g m i++g.Ops[i]?.toList:=if_pos h
theorem zyx {g:z00} {m:Nat→Bool} {i:Nat} (h:m i=false):zmt g m (i+1)=zmt g m i:=if_neg (by rw [h]; simp)
theorem zz0 {g:z00} {m:Nat→Bool} {i:Nat} (h:m i=false):zm1 g m (i+1)=zm1 g m i:=if_neg (by rw [h]; simp)
def subG (g:z00) (m:Nat→Bool):z00:=⟨zmt g m g.Ops.length,zm1 g m g.Ops.length⟩
theorem zq4 (g:z00) (m:Nat→Bool):∀ i,(zmt g m i).length≤i
 | 0=>Nat.le_refl _
 | i+1=>by
  have:=zq4 g m i
  unfold zmt
  split
  ·
   rw [List.length_append,List.length_singleton]; omega
  ·
   omega
theorem zm7 (g:z00) (m:Nat→Bool):∀ i,(zm1 g m i).length≤i
 | 0=>Nat.le_refl _
 | i+1=>by
  have:=zm7 g m i
  unfold zm1
  split
  ·
   rw [List.length_append]
   have:g.Ops[i]?.toList.length≤1:=by cases g.Ops[i]? <;> simp
   omega
  ·
   omega
theorem zj2 (g:z00) (m:Nat→Bool):∀ i,∀ o∈zm1 g m i,o∈g.Ops
 | 0,o,h=>by simp [zm1] at h
 | i+1,o,h=>by
  unfold zm1 at h
  split at h
  ·
   rcases List.mem_append.1 h with h | h
   ·
    exact zj2 g m i o h
   ·
    cases ho:g.Ops[i]? with
    | none=>rw [ho] at h; simp at h
    | some q =>
     rw [ho] at h
     have:o=q:=by simpa using h
     subst this
     exact List.mem_of_getElem? ho
  ·
   exact zj2 g m i o h
theorem zzx (E:zd5 g) (s:List ID) (hs:s.length≤100000):iter (z68 g s) ([],[],0)=some (zmt g (fun i=>decide (zds g i∈s)) g.Ops.length,zm1 g (fun i=>decide (zds g i∈s)) g.Ops.length):=by
 have hlen:=E.len
 have hids:=E.ids
 have main:=z28 (F:=z68 g s) (b:=(zmt g (fun i=>decide (zds g i∈s)) g.Ops.length,zm1 g (fun i=>decide (zds g i∈s)) g.Ops.length)) g.Ops.length (fun i=>(zmt g (fun i=>decide (zds g i∈s)) i,zm1 g (fun i=>decide (zds g i∈s)) i,(i:Int))) (fun i hi=>?_) ?_
 ·
  exact main
 ·
  have hii:i<g.IDs.length:=by omega
  have l1:=zq4 g (fun i=>decide (zds g i∈s)) i
  have l2:=zm7 g (fun i=>decide (zds g i∈s)) i
  obtain ⟨k,k1,k2⟩:=zvo s g.IDs[i] (by omega)
  have k3:decide (0≤k)=decide (zds g i∈s):=by
   rw [z7f hii]
   cases hd:decide (g.IDs[i]∈s) with
   | true=>rw [hd] at k2; simp at k2 ⊢; omega
   | false=>rw [hd] at k2; simp at k2 ⊢; omega
  unfold z68
  rw [if_pos (by simp; omega)]
  simp only []
  rw [z0c hii]
  simp only [bS]
  rw [k1]
  simp only [bS]
  rw [k3,z0g (by omega)]
  cases hm:decide (zds g i∈s) with
  | false =>
   rw [if_neg (by simp),zyx hm,zz0 hm]
  | true =>
   rw [if_pos rfl,z18 (by simp only [List.length_cons,List.length_nil]; omega)]
   simp only [bS]
   rw [z0c hi]
   simp only [bS]
   rw [z18 (by simp only [List.length_cons,List.length_nil]; omega)]
   simp only [bS]
   rw [zz8 hm,zzr hm,z7f hii,List.getElem?_eq_getElem hi]
   rfl
 ·
  unfold z68
  rw [if_neg (by simp; omega)]
def zrg:z00:=⟨[],[]⟩
theorem zfx:zid zrg:=⟨by simp [zrg], by simp [zrg], fun i hi=>by simp [zrg] at hi⟩
end
section
open Go
variable {g:z00}
theorem zpw (l:List ID) (x:ID) (hl:l.length≤1000):z38 l x=some (decide (x∈l)):=by
 have main:=zbk (F:=z2e l x) (fun s=>∃ i:Nat,s=(i:Int)∧i≤l.length∧∀ k (h:k<l.length),k<i→l[k]≠x) (fun s=>l.length - s.toNat)
  (fun b:Sum Int Unit=>(b=.inr ()∧x∉l)∨∃ i:Nat,b=.inl (i:Int)∧x∈l)
  (fun s hs=>by
   obtain ⟨i,rfl,h1,h2⟩:=hs
   by_cases hi:i<l.length
   ·
    have hF:z2e l x (i:Int)=if decide (x=l[i]) then some (.inl (.inl (i:Int))) else some (.inr ((i+1:Nat):Int)):=by
     unfold z2e
     rw [if_pos (by simpa using hi),z0c hi,z0g (by omega)]
     simp only [bS]
    by_cases hc:x=l[i]
    ·
     rw [decide_eq_true hc,if_pos rfl] at hF
     exact .inl ⟨_,hF,.inr ⟨i,rfl,hc ▸ List.getElem_mem hi⟩⟩
    ·
     rw [decide_eq_false hc,if_neg (by simp)] at hF
     refine .inr ⟨_,hF,⟨i+1,rfl,hi, fun k hk hki=>?_⟩, by simp; omega⟩
     by_cases hk':k=i
     ·
      subst hk'; exact fun e=>hc e.symm
     ·
      exact h2 k hk (by omega)
   ·
    refine .inl ⟨.inr (),?_,.inl ⟨rfl, fun hx=>?_⟩⟩
    ·
     unfold z2e
     rw [if_neg (by simpa using hi)]
    ·
     obtain ⟨k,hk,e⟩:=List.getElem_of_mem hx
     exact h2 k hk (by omega) e)
  0 ⟨0,rfl,Nat.zero_le _, fun k _ h=>by omega⟩
 obtain ⟨b,b1,b2⟩:=main
 unfold z38 z5v
 rw [b1]
 rcases b2 with ⟨rfl,h⟩ | ⟨i,rfl,h⟩
 ·
  rw [decide_eq_false h]; rfl
 ·
  rw [decide_eq_true h]
  simp only [zzw,bS]
  rw [decide_eq_true (by simp)]
end
section
open Go
variable {g a b:z00} {n m:Nat} {l:List z00}
def op0:z05:=⟨0,[],0,(⟨0,[],(⟨0,0,0,[]⟩:z04)⟩:z0f),(⟨0,0⟩:z0a)⟩
def ze0 (l:List z00) (x:ID):Nat:=(l.filter fun g=>decide (x∈g.IDs)).length
theorem ztu (l:List z00) (g:z00) (x:ID):ze0 (l++[g]) x=ze0 l x+if x∈g.IDs then 1 else 0:=by
 unfold ze0
 rw [List.filter_append,List.length_append,List.filter_cons]
 by_cases h:x∈g.IDs
 ·
  simp [h]
 ·
  simp [h]
theorem z10m (l:List z00) (x:ID):ze0 l x≤l.length:=List.length_filter_le _ _
def zwh (n:Nat):Option Int:=if n=0 then none else some (n:Int)
theorem zyj (n:Nat):(zwh n).getD 0=(n:Int):=by
 unfold zwh
 by_cases h:n=0
 ·
  rw [if_pos h,h]; rfl
 ·
  rw [if_neg h]; rfl
theorem zty (n:Nat):zwh (n+1)=some ((n+1:Nat):Int):=if_neg (by omega)
theorem zjf {κ β:Type} [DecidableEq κ] {x:κ} {v:β}:∀ {m:List (κ × β)},(m.map Prod.fst).Nodup→(x,v)∈m→z43 m x=some v
 | p::m,hn,h=>by
  rw [List.map_cons,List.nodup_cons] at hn
  rcases List.mem_cons.1 h with e | h
  ·
   subst e
   exact if_pos rfl
  ·
   have hx:x≠p.1:=fun e=>hn.1 (by rw [← e]; exact List.mem_map.2 ⟨_,h,rfl⟩)
   have e:z43 (p::m) x=z43 m x:=if_neg hx
   rw [e,zjf hn.2 h]
theorem zjv {κ β:Type} [DecidableEq κ] {x:κ} {v:β}:∀ {m:List (κ × β)},z43 m x=some v→(x,v)∈m
 | [],h=>by simp [z43] at h
 | p::m,h=>by
  by_cases hx:x=p.1
  ·
   have e:z43 (p::m) x=some p.2:=if_pos hx
   rw [e] at h
   cases h
   subst hx
   exact List.mem_cons_self
  ·
   have e:z43 (p::m) x=z43 m x:=if_neg hx
   rw [e] at h
   exact List.mem_cons_of_mem _ (zjv h)
theorem z12t (F:Fit g 60) (M:List (ID × Int)) (O:List (ID × z05)) (c:ID→Nat) (P:ID→Option z05) (hc:∀ x,c x≤1000) (hn:(M.map Prod.fst).Nodup) (hM:∀ x,z43 M x=zwh (c x)) (hO:∀ x,z43 O x=P x) :
  ∃ s,iter (z1k g) (M,O,0)=some s∧(s.1.map Prod.fst).Nodup∧s.1.length≤M.length+60∧(∀ x,z43 s.1 x=zwh (c x+if x∈g.IDs then 1 else 0))∧∀ x,z43 s.2 x=(z2m g x).or (P x):=by
 have hl:=F.len; have hi:=F.ids
 refine zaf (F:=z1k g) g.IDs.length (fun j s=>s.2.2=(j:Int)∧(s.1.map Prod.fst).Nodup∧s.1.length≤M.length+j∧(∀ x,z43 s.1 x=zwh (c x+if x∈g.IDs.take j then 1 else 0))∧∀ x,z43 s.2.1 x=(if x∈g.IDs.take j then z2m g x else none).or (P x)) _ (fun j s hj=>?_) (fun s=>?_) (M,O,0) 0 (Nat.zero_le _) ⟨rfl,hn,Nat.le_refl _, fun x=>by simp [hM], fun x=>by simp [hO]⟩
 ·
  obtain ⟨M1,O1,j'⟩:=s
  rintro ⟨e1,e2,e3,e4,e5⟩
  simp only at e1 e2 e3 e4 e5
  subst e1
  have hjo:j<g.Ops.length:=by omega
  have hnt:=zi9 F.ri hj
  have hx:=e4 g.IDs[j]
  rw [if_neg hnt,Nat.add_zero] at hx
  have hcj:=hc g.IDs[j]
  have hmem:∀ x,x∈g.IDs.take (j+1)↔x∈g.IDs.take j∨x=g.IDs[j]:=fun x=>by rw [zjy hj,List.mem_append,List.mem_singleton]
  have hstay:∀ x,x≠g.IDs[j]→(x∈g.IDs.take (j+1))=(x∈g.IDs.take j):=fun x e=>propext ⟨fun h=>((hmem x).1 h).resolve_right e, fun h=>(hmem x).2 (.inl h)⟩
  unfold z1k
  rw [if_pos (by simpa using hj)]
  simp only [z0c hj,z0c hjo,bS,z0g (n:=j) (by omega),hx,zyj,z0g (n:=c g.IDs[j]) (by omega)]
  refine ⟨_,rfl,rfl,zrn e2,Nat.le_trans zy1 (by omega), fun x=>?_, fun x=>?_⟩
  ·
   show z43 (zaw M1 g.IDs[j] ((c g.IDs[j]+1:Nat):Int)) x=_
   rw [zgd,e4]
   by_cases e:x=g.IDs[j]
   ·
    rw [if_pos e,if_pos ((hmem x).2 (.inr e)),e,zty]
   ·
    rw [if_neg e]
    simp only [hstay x e]
  ·
   show z43 (zaw O1 g.IDs[j] g.Ops[j]) x=_
   rw [zgd,e5]
   by_cases e:x=g.IDs[j]
   ·
    rw [if_pos e,if_pos ((hmem x).2 (.inr e)),e,z9p F hjo]; rfl
   ·
    rw [if_neg e]
    simp only [hstay x e]
 ·
  rintro ⟨e1,e2,e3,e4,e5⟩
  unfold z1k
  rw [if_neg (by rw [e1]; simp)]
  refine ⟨_,rfl,e2, by simp only; omega, fun x=>by rw [e4,List.take_length], fun x=>?_⟩
  rw [e5,List.take_length]
  by_cases h:x∈g.IDs
  ·
   rw [if_pos h]
  ·
   rw [if_neg h,zd4 h]
theorem zzs (R:Rps l):∃ s,iter (z15 l) ([],[],0)=some s∧(s.1.map Prod.fst).Nodup∧s.1.length≤300∧(∀ x,z43 s.1 x=zwh (ze0 l x))∧∀ x,z43 s.2 x=zam l x:=by
 have hl:=R.len
 refine zaf (F:=z15 l) l.length (fun i s=>s.2.2=(i:Int)∧(s.1.map Prod.fst).Nodup∧s.1.length≤60 * i∧(∀ x,z43 s.1 x=zwh (ze0 (l.take i) x))∧∀ x,z43 s.2.1 x=zam (l.take i) x) _ (fun i s hi=>?_) (fun s=>?_) ([],[],0) 0 (Nat.zero_le _) ⟨rfl,List.Pairwise.nil,Nat.le_refl _, fun x=>rfl, fun x=>rfl⟩
 ·
  obtain ⟨M,O,i'⟩:=s
  rintro ⟨e1,e2,e3,e4,e5⟩
  simp only at e1 e2 e3 e4 e5
  subst e1
  have Rg:=R.rp l[i] (List.getElem_mem hi)
  obtain ⟨s,s1,s2,s3,s4,s5⟩:=z12t Rg.fit M O _ _ (fun x=>by have:=z10m (l.take i) x; rw [List.length_take] at this; omega) e2 e4 e5
  unfold z15
  rw [if_pos (by simpa using hi)]
  simp only [z0c hi,bS]
  rw [s1]
  simp only [bS,z0g (n:=i) (by omega)]
  refine ⟨_,rfl,rfl,s2, by show s.1.length≤_; omega, fun x=>?_, fun x=>?_⟩
  ·
   show z43 s.1 x=_
   rw [s4,zjy hi,ztu]
  ·
   show z43 s.2 x=_
   rw [s5,zjy hi,zhw]
   cases h1:zam (l.take i) x with
   | none=>cases z2m l[i] x <;> rfl
   | some o =>
    cases h2:z2m l[i] x with
    | none=>rfl
    | some q =>
     obtain ⟨g',h3,h4⟩:=zbs h1
     have:=R.ag _ (List.mem_of_mem_take h3) _ (List.getElem_mem hi) x o q h4 h2
     rw [this]
     first | done | rfl
 ·
  rintro ⟨e1,e2,e3,e4,e5⟩
  unfold z15
  rw [if_neg (by rw [e1]; simp)]
  refine ⟨_,rfl,e2, by simp only; omega, fun x=>by rw [e4,List.take_length], fun x=>by rw [e5,List.take_length]⟩
theorem zj5 (F:ID × Int→List ID→Option (List ID)) (en:Int→Bool) (hF:∀ e acc,acc.length≤1000→F e acc=some (if en e.2 then acc++[e.1] else acc)):∀ (M:List (ID × Int)) (acc:List ID),acc.length+M.length≤1000→zfq F M acc=some (acc++(M.filter fun e=>en e.2).map Prod.fst)
 | [],acc,_=>by simp [zfq]
 | e::M,acc,h=>by
  rw [List.length_cons] at h
  unfold zfq
  rw [hF e acc (by omega)]
  simp only [bS]
  cases he:en e.2 with
  | true =>
   rw [if_pos rfl,zj5 F en hF M _ (by rw [List.length_append,List.length_singleton]; omega),List.filter_cons_of_pos (by rw [he])]
   simp
  | false =>
   rw [if_neg (by simp),zj5 F en hF M _ (by omega),List.filter_cons_of_neg (by rw [he]; simp)]
theorem z123 (s4:List (ID × Int) × List (ID × z05)) (K:List ID) (hK:K.length≤1000) (hO:∀ x∈K,((z43 s4.2 x).getD op0).Preds.length≤100):iter (z1j s4 K) ([],0)=some (K.map fun x=>(z43 s4.2 x).getD op0):=by
 refine z28 K.length (fun i=>((K.take i).map fun x=>(z43 s4.2 x).getD op0,(i:Int))) (fun i hi=>?_) ?_
 ·
  unfold z1j
  rw [if_pos (by simpa using hi)]
  simp only [z0c hi,bS,z0g (n:=i) (by omega)]
  show (z12 (((z43 s4.2 K[i]).getD op0).Preds) >>= fun r54=>_)=_
  rw [zjd _ (hO _ (List.getElem_mem hi))]
  simp only [bS]
  rw [z18 (by simp only [List.length_map,List.length_take,List.length_singleton]; omega),zjy hi,List.map_append]
  rfl
 ·
  unfold z1j
  rw [if_neg (by simp),List.take_length]
theorem ztk (S:List ID) (f:ID→z05) (x:ID):z2m ⟨S,S.map f⟩ x=if x∈S then some (f x) else none:=by
 unfold z2m
 by_cases h:x∈S
 ·
  have hi:=List.idxOf_lt_length_of_mem h
  rw [if_pos h,if_pos h]
  show (S.map f)[S.idxOf x]? = _
  rw [List.getElem?_map,List.getElem?_eq_getElem hi]
  simp
 ·
  rw [if_neg h,if_neg h]
theorem zww {K:List ID} (h:K.Nodup):z8d (zgx K)=true:=by
 rw [za8]
 have h1:=zej K
 have h2:(zgx K).Nodup:=(List.mergeSort_perm K _).nodup_iff.2 h
 exact (h1.and h2).imp fun {a b} hab=>by
  have:kd a≠kd b:=fun e=>hab.2 (zjl e)
  have:=hab.1
  omega
theorem zlj (R:Rps l) {s:List (ID × Int) × List (ID × z05)} (hn:(s.1.map Prod.fst).Nodup) (hl:s.1.length≤300) (hM:∀ x,z43 s.1 x=zwh (ze0 l x)) (hO:∀ x,z43 s.2 x=zam l x) (en:Int→Bool) {K:List ID} (hK:K=(s.1.filter fun e=>en e.2).map Prod.fst) :
  ∃ W,(zmu K >>= fun r44=>iter (z1j s r44) ([],0) >>= fun s46=>some (⟨r44,s46⟩:z00))=some W∧Fit W 300∧∀ x,z2m W x=if ze0 l x≠0∧en (ze0 l x:Int)=true then zam l x else none:=by
 have hKl:K.length≤300:=by
  have:=List.length_filter_le (fun e:ID × Int=>en e.2) s.1
  rw [hK,List.length_map]; omega
 have hKn:K.Nodup:=by
  rw [hK]
  exact List.Nodup.sublist (List.Sublist.map _ List.filter_sublist) hn
 have hKm:∀ x,x∈K↔ze0 l x≠0∧en (ze0 l x:Int)=true:=fun x=>by
  rw [hK,List.mem_map]
  constructor
  ·
   rintro ⟨⟨y,v⟩,h1,rfl⟩
   rw [List.mem_filter] at h1
   have h2:=zjf hn h1.1
   rw [hM] at h2
   unfold zwh at h2
   split at h2
   ·
    cases h2
   ·
    rename_i h3
    cases h2
    exact ⟨h3,h1.2⟩
  ·
   rintro ⟨h1,h2⟩
   have h3:z43 s.1 x=some (ze0 l x:Int):=by rw [hM]; exact if_neg h1
   exact ⟨(x,(ze0 l x:Int)),List.mem_filter.2 ⟨zjv h3,h2⟩,rfl⟩
 have hsome:∀ x,ze0 l x≠0→∃ o,zam l x=some o:=fun x h=>by
  obtain ⟨g,hg⟩:=List.exists_mem_of_ne_nil _ (fun e=>h (by unfold ze0; rw [e]; rfl):(l.filter fun g=>decide (x∈g.IDs))≠[])
  rw [List.mem_filter] at hg
  obtain ⟨o,ho⟩:=z92 (R.rp g hg.1).fit (by simpa using hg.2)
  exact ⟨o,zbv R.ag hg.1 ho⟩
 have hop:∀ x∈zgx K,((z43 s.2 x).getD op0).Preds.length≤20∧((z43 s.2 x).getD op0).Act.Key.length≤100∧((z43 s.2 x).getD op0).Act.Value.Text.length≤100:=fun x hx=>by
  rw [zno,hKm] at hx
  obtain ⟨o,ho⟩:=hsome x hx.1
  rw [hO,ho]
  obtain ⟨g,h1,h2⟩:=zbs ho
  exact (R.rp g h1).op _ (zbe h2).2
 refine ⟨⟨zgx K,(zgx K).map fun x=>(z43 s.2 x).getD op0⟩,?_,⟨by simp, by simp only [List.length_map,zjm]; omega,zww hKn, fun o ho=>?_⟩, fun x=>?_⟩
 ·
  unfold zmu
  rw [z42 (by omega)]
  simp only [bS]
  rw [z123 s (zgx K) (by rw [zjm]; omega) fun x hx=>by have:=(hop x hx).1; omega]
  rfl
 ·
  obtain ⟨x,hx,rfl⟩:=List.mem_map.1 ho
  exact hop x hx
 ·
  have hm:x∈zgx K↔ze0 l x≠0∧en (ze0 l x:Int)=true:=by rw [zno,hKm]
  rw [ztk,hO]
  by_cases h:ze0 l x≠0∧en (ze0 l x:Int)=true
  ·
   rw [if_pos (hm.2 h),if_pos h]
   obtain ⟨o,ho⟩:=hsome x h.1
   rw [ho]; rfl
  ·
   rw [if_neg fun k=>h (hm.1 k),if_neg h]
theorem zys (R:Rps l) {x:ID} (h:ze0 l x=0):zam l x=none:=by
 cases hq:zam l x with
 | none=>rfl
 | some o =>
  obtain ⟨g,h1,h2⟩:=zbs hq
  have:g∈l.filter fun g=>decide (x∈g.IDs):=List.mem_filter.2 ⟨h1, by simpa using (zbe h2).1⟩
  unfold ze0 at h
  rw [List.length_eq_zero_iff] at h
  rw [h] at this; cases this
theorem zs6 (R:Rps l):∃ W,z2u l=some W∧Fit W 300∧∀ x,z2m W x=zam l x:=by
 obtain ⟨s,s1,s2,s3,s4,s5⟩:=zzs R
 obtain ⟨W,w1,w2,w3⟩:=zlj R s2 s3 s4 s5 (fun _=>true) rfl
 refine ⟨W,?_,w2, fun x=>?_⟩
 ·
  unfold z2u
  rw [s1]
  simp only [bS]
  rw [zj5 _ (fun _=>true) (fun e acc h=>by
   unfold z3d zb6
   simp only [bS,if_true]
   rw [z18 (by rw [List.length_singleton]; omega)]
   rfl) s.1 [] (by simp; omega)]
  simp only [bS,List.nil_append]
  exact w1
 ·
  rw [w3]
  by_cases h:ze0 l x=0
  ·
   rw [if_neg (by simp [h]),zys R h]
  ·
   rw [if_pos ⟨h,rfl⟩]
theorem zpy (R:Rps l):∃ W,z2p l l=some W∧Fit W 300∧∀ x,z2m W x=if ze0 l x≠0∧ze0 l x=l.length then zam l x else none:=by
 obtain ⟨s,s1,s2,s3,s4,s5⟩:=zzs R
 obtain ⟨W,w1,w2,w3⟩:=zlj R s2 s3 s4 s5 (fun n=>n==(l.length:Int)) rfl
 refine ⟨W,?_,w2, fun x=>?_⟩
 ·
  unfold z2p
  rw [show z51 l=z15 l from rfl,s1]
  simp only [bS]
  rw [zj5 _ (fun n=>n==(l.length:Int)) (fun e acc h=>by
   unfold z37 zat
   simp only [bS]
   cases he:(e.2==(l.length:Int)) with
   | true =>
    rw [if_pos rfl,if_pos rfl,z18 (by rw [List.length_singleton]; omega)]
    rfl
   | false=>rw [if_neg (by simp),if_neg (by simp)]) s.1 [] (by simp; omega)]
  simp only [bS,List.nil_append]
  exact w1
 ·
  rw [w3]
  by_cases h:ze0 l x≠0∧ze0 l x=l.length
  ·
   rw [if_pos h,if_pos ⟨h.1, by simp [h.2]⟩]
  ·
   rw [if_neg h,if_neg fun k=>h ⟨k.1, by have:=k.2; simp at this; omega⟩]
end
section
open Go
variable {g a b:z00} {n m:Nat} {l:List z00} {mk:Nat→Bool}
theorem zv8:∀ i,zmt g mk i=((List.range i).filter mk).map (zds g)
 | 0=>rfl
 | i+1=>by
  rw [zmt,zv8 i,List.range_succ,List.filter_append,List.map_append]
  cases h:mk i <;> simp [h]
theorem zq7:(subG g mk).IDs=zj9 g mk:=zv8 _
theorem zuj {α β:Type} {A:List α} {B:List β} (h:A.length=B.length) (x x':α) (o o':β):(∃ j:Nat,(A++[x])[j]? = some x'∧(B++[o])[j]? = some o')↔(∃ j:Nat,A[j]? = some x'∧B[j]? = some o')∨(x'=x∧o'=o):=by
 constructor
 ·
  rintro ⟨j,h1,h2⟩
  by_cases c:j<A.length
  ·
   rw [List.getElem?_append_left c] at h1
   rw [List.getElem?_append_left (by omega)] at h2
   exact .inl ⟨j,h1,h2⟩
  ·
   have hj:j<(A++[x]).length:=(List.getElem?_eq_some_iff.1 h1).1
   rw [List.length_append,List.length_singleton] at hj
   have e:j=A.length:=by omega
   subst e
   rw [List.getElem?_append_right (by omega)] at h1
   rw [List.getElem?_append_right (by omega),h] at h2
   simp at h1 h2
   exact .inr ⟨h1.symm,h2.symm⟩
 ·
  rintro (⟨j,h1,h2⟩ | ⟨rfl,rfl⟩)
  ·
   have c:j<A.length:=(List.getElem?_eq_some_iff.1 h1).1
   exact ⟨j, by rw [List.getElem?_append_left c]; exact h1, by rw [List.getElem?_append_left (by omega)]; exact h2⟩
  ·
   exact ⟨A.length, by simp, by rw [h]; simp⟩
theorem zk7 (hl:g.IDs.length=g.Ops.length):∀ i,i≤g.Ops.length→(zmt g mk i).length=(zm1 g mk i).length∧∀ x o,(∃ j:Nat,(zmt g mk i)[j]? = some x∧(zm1 g mk i)[j]? = some o)↔∃ t:Nat,t<i∧mk t=true∧g.IDs[t]? = some x∧g.Ops[t]? = some o
 | 0,_=>⟨rfl, fun x o=>by simp [zmt,zm1]⟩
 | i+1,hi=>by
  obtain ⟨h1,h2⟩:=zk7 hl i (by omega)
  have hii:i<g.IDs.length:=by omega
  cases hm:mk i with
  | false =>
   rw [zyx hm,zz0 hm]
   refine ⟨h1, fun x o=>(h2 x o).trans ⟨?_,?_⟩⟩
   ·
    rintro ⟨t,t1,t2,t3⟩; exact ⟨t, by omega,t2,t3⟩
   ·
    rintro ⟨t,t1,t2,t3⟩
    by_cases e:t=i
    ·
     subst e; rw [hm] at t2; simp at t2
    ·
     exact ⟨t, by omega,t2,t3⟩
  | true =>
   have ho:g.Ops[i]?.toList=[g.Ops[i]]:=by rw [List.getElem?_eq_getElem (by omega)]; rfl
   rw [zz8 hm,zzr hm,ho,z7f hii]
   refine ⟨by simp [h1], fun x o=>(zuj h1 _ _ _ _).trans ?_⟩
   rw [h2]
   constructor
   ·
    rintro (⟨t,t1,t2,t3⟩ | ⟨rfl,rfl⟩)
    ·
     exact ⟨t, by omega,t2,t3⟩
    ·
     exact ⟨i, by omega,hm,List.getElem?_eq_getElem hii,List.getElem?_eq_getElem (by omega)⟩
   ·
    rintro ⟨t,t1,t2,t3,t4⟩
    by_cases e:t=i
    ·
     subst e
     rw [List.getElem?_eq_getElem hii] at t3
     rw [List.getElem?_eq_getElem (by omega)] at t4
     exact .inr ⟨(Option.some.inj t3).symm,(Option.some.inj t4).symm⟩
    ·
     exact .inl ⟨t, by omega,t2,t3,t4⟩
theorem zm4 (G:zko g) (F:Fit g 60) (mk:Nat→Bool):Fit (subG g mk) 60:=by
 refine ⟨(zk7 G.e.ids _ (Nat.le_refl _)).1,Nat.le_trans (zm7 g mk _) G.e.len,?_, fun o ho=>F.op o (zj2 g mk _ o ho)⟩
 rw [zq7]; exact zn5 G.e mk
theorem zix (G:zko g) (F:Fit g 60) {x:ID} {o:z05}:z2m (subG g mk) x=some o↔z2m g x=some o∧mk (g.IDs.idxOf x)=true:=by
 rw [z9g (zm4 G F mk),z9g F]
 have:=(zk7 (mk:=mk) G.e.ids _ (Nat.le_refl _)).2 x o
 refine Iff.trans this ⟨?_,?_⟩
 ·
  rintro ⟨t,t1,t2,t3,t4⟩
  refine ⟨⟨t,t3,t4⟩,?_⟩
  obtain ⟨ht,rfl⟩:=List.getElem?_eq_some_iff.1 t3
  rw [zdh G.e.ri ht]; exact t2
 ·
  rintro ⟨⟨t,t3,t4⟩,h⟩
  obtain ⟨ht,rfl⟩:=List.getElem?_eq_some_iff.1 t3
  rw [zdh G.e.ri ht] at h
  exact ⟨t, by rw [← G.e.ids]; exact ht,h,t3,t4⟩
def z35 (l:List z00):z00:=l.foldl zgq ⟨[],[]⟩
theorem zpb:Fit (⟨[],[]⟩:z00) 0:=⟨rfl,Nat.le_refl _,rfl, fun o ho=>by cases ho⟩
theorem zl8 (l:List z00) (g:z00):z35 (l++[g])=zgq (z35 l) g:=by unfold z35; rw [List.foldl_append]; rfl
theorem zew (R:Rps l):∀ i,i≤l.length→Fit (z35 (l.take i)) (60 * i)∧∀ x,z2m (z35 (l.take i)) x=zam (l.take i) x
 | 0,_=>⟨zpb, fun x=>rfl⟩
 | i+1,hi=>by
  obtain ⟨h1,h2⟩:=zew R i (by omega)
  have F:=(R.rp _ (List.getElem_mem (show i<l.length by omega))).fit
  rw [zjy (by omega),zl8]
  refine ⟨?_, fun x=>?_⟩
  ·
   have:=zth h1 F
   rw [Nat.mul_succ]; exact this
  ·
   rw [zru h1 F,h2,zhw]
theorem zhd (R:Rps l):Fit (z35 l) 300:=by
 have h:=(zew R l.length (Nat.le_refl _)).1
 rw [List.take_length] at h
 have:=R.len
 exact ⟨h.ids,Nat.le_trans h.len (by omega),h.ri,h.op⟩
theorem zsd (R:Rps l) (x:ID):z2m (z35 l) x=zam l x:=by
 have h:=(zew R l.length (Nat.le_refl _)).2 x
 rwa [List.take_length] at h
def zmq (l:List z00) (i:Nat):List ID:=((l[0]?.map z00.IDs).getD []).filter fun x=>(l.take i).all fun g=>decide (x∈g.IDs)
theorem z112 (h:0<l.length):zmq l 1=l[0].IDs:=by
 unfold zmq
 rw [List.getElem?_eq_getElem h]
 show l[0].IDs.filter _=_
 refine List.filter_eq_self.2 fun x hx=>?_
 rw [zjy h]
 simpa using hx
theorem zyl {i:Nat} (h:i<l.length):(zmq l i).filter (fun x=>decide (x∈l[i].IDs))=zmq l (i+1):=by
 unfold zmq
 rw [List.filter_filter]
 congr 1
 funext x
 rw [zjy h,List.all_append]
 simp [Bool.and_comm]
theorem zvb (h:0<l.length) {x:ID}:x∈zmq l l.length↔∀ g∈l,x∈g.IDs:=by
 unfold zmq
 rw [List.getElem?_eq_getElem h,List.take_length,List.mem_filter]
 simp only [Option.map_some,Option.getD_some,List.all_eq_true,decide_eq_true_eq]
 exact ⟨fun k=>k.2, fun k=>⟨k _ (List.getElem_mem h),k⟩⟩
theorem zvl (R:Rps l) (i:Nat):(zmq l i).length≤60:=by
 unfold zmq
 refine Nat.le_trans (List.length_filter_le _ _) ?_
 cases h:l[0]? with
 | none=>simp
 | some g =>
  have F:=(R.rp g (List.mem_of_getElem? h)).fit
  have h1:=F.len; have h2:=F.ids
  show g.IDs.length≤60
  omega
theorem zlp {x:ID}:ze0 l x=l.length↔∀ g∈l,x∈g.IDs:=by
 unfold ze0
 rw [List.length_filter_eq_length_iff]
 simp
theorem zy6 (R:Rps l) (h:0<l.length) (x:ID):z2m (subG l[0] fun i=>decide (zds l[0] i∈zmq l l.length)) x=if ze0 l x≠0∧ze0 l x=l.length then zam l x else none:=by
 have R0:=R.rp _ (List.getElem_mem h)
 have key:∀ o,z2m (subG l[0] fun i=>decide (zds l[0] i∈zmq l l.length)) x=some o↔(if ze0 l x≠0∧ze0 l x=l.length then zam l x else none)=some o:=fun o=>by
  rw [zix R0.good R0.fit]
  constructor
  ·
   rintro ⟨h1,h2⟩
   have hx:=(zbe h1).1
   have hi:=List.idxOf_lt_length_of_mem hx
   rw [decide_eq_true_iff,z7f hi,List.getElem_idxOf,zvb h] at h2
   have hc:=zlp.2 h2
   rw [if_pos ⟨by omega,hc⟩]
   exact zbv R.ag (List.getElem_mem h) h1
  ·
   intro h1
   split at h1
   ·
    rename_i hc
    have h2:=zlp.1 hc.2
    have hx:=h2 _ (List.getElem_mem h)
    have hi:=List.idxOf_lt_length_of_mem hx
    obtain ⟨q,hq⟩:=z92 R0.fit hx
    have:=zbv R.ag (List.getElem_mem h) hq
    rw [this] at h1
    cases h1
    refine ⟨hq,?_⟩
    rw [decide_eq_true_iff,z7f hi,List.getElem_idxOf,zvb h]
    exact h2
   ·
    cases h1
 generalize z2m (subG l[0] fun i=>decide (zds l[0] i∈zmq l l.length)) x=p at key
 generalize (if ze0 l x≠0∧ze0 l x=l.length then zam l x else none)=q at key
 cases p with
 | none =>
  cases q with
  | none=>rfl
  | some o=>exact absurd ((key o).2 rfl) (by simp)
 | some o=>exact ((key o).1 rfl).symm
end
section
open Go
variable {g a b:z00} {n m:Nat} {l:List z00} {mk:Nat→Bool}
theorem Fit.le60 (F:Fit g n) (h:g.Ops.length≤60):Fit g 60:=⟨F.ids,h,F.ri,F.op⟩
theorem Rp.part (R:Rp g) (cl:∀ i,mk i=true→∀ p∈z3m g i,mk p=true):Rp (subG g mk):=by
 have F:=zm4 R.good R.fit mk
 have S0:=zmd R.good R.fit
 obtain ⟨rk,hrk⟩:=S0.rk
 refine ⟨zp9 F ⟨fun x o h=>S0.ops x o ((zix R.good R.fit).1 h).1, fun x o h p hp=>?_,rk, fun x o h p hp=>hrk x o ((zix R.good R.fit).1 h).1 p hp⟩,F.op,zt7 F (by omega) fun o ho=>R.wf.2.1.1 o (zj2 g mk _ o ho)⟩
 obtain ⟨h1,h2⟩:=(zix R.good R.fit).1 h
 rw [zq7,zot R.good.e]
 have hx:=(zbe h1).1
 have ho:zrx g (g.IDs.idxOf x)=o.Preds:=by
  unfold z2m at h1
  rw [if_pos hx] at h1
  unfold zrx
  rw [h1]
 have:=zxj (i:=g.IDs.idxOf x) R.good.ins (by rw [ho]; exact hp)
 exact ⟨this.1,cl _ h2 _ this.2⟩
theorem zv6:z11a (⟨[],[]⟩:z00):=by
 have hn:∀ z o,z2m (⟨[],[]⟩:z00) z≠some o:=fun z o h=>by have:=(zbe h).1; cases this
 exact ⟨fun z o h=>absurd h (hn z o), fun z o h=>absurd h (hn z o), fun _=>0, fun z o h=>absurd h (hn z o)⟩
theorem z12g:Rp (⟨[],[]⟩:z00):=by
 have F:Fit (⟨[],[]⟩:z00) 60:=⟨rfl, by simp,rfl, by simp⟩
 exact ⟨zp9 F zv6, by simp,zt7 F (by omega) (by simp)⟩
theorem z10w (F:Fit g n) {o:z05} (h:o∈g.Ops):∃ x,z2m g x=some o:=by
 obtain ⟨i,hi,rfl⟩:=List.getElem_of_mem h
 exact ⟨_,z9p F hi⟩
def zxa (l:List z00) (W:z00):Prop:=∀ x,z2m W x=if ze0 l x≠0∧ze0 l x=l.length then zam l x else none
theorem zu2 (R:Rps l) {W:z00} (hW:zxa l W) {x:ID} {o:z05} (h:z2m W x=some o):l≠[]∧∀ g∈l,z2m g x=some o:=by
 rw [hW] at h
 split at h
 ·
  rename_i hc
  have ha:=zlp.1 hc.2
  refine ⟨fun e=>hc.1 (by rw [e]; rfl), fun g hg=>?_⟩
  obtain ⟨q,hq⟩:=z92 (R.rp g hg).fit (ha g hg)
  have:=zbv R.ag hg hq
  rw [this] at h
  cases h
  exact hq
 ·
  cases h
theorem z137 (R:Rps l) {W:z00} (hW:zxa l W) (hn:l≠[]) {x:ID} {o:z05} (h:∀ g∈l,z2m g x=some o):z2m W x=some o:=by
 have hc:ze0 l x=l.length:=zlp.2 fun g hg=>(zbe (h g hg)).1
 have hl:0<l.length:=List.length_pos_iff.2 hn
 rw [hW,if_pos ⟨by omega,hc⟩]
 exact zbv R.ag (List.getElem_mem hl) (h _ (List.getElem_mem hl))
theorem z116 {W g:z00} (F:Fit W n) (G:Fit g m) (h:∀ x o,z2m W x=some o→z2m g x=some o):W.Ops.length≤g.Ops.length:=by
 rw [← F.ids,← G.ids]
 refine zd9 _ _ (zhq F.ri) fun x hx=>?_
 obtain ⟨o,ho⟩:=z92 F hx
 exact (zbe (h x o ho)).1
theorem Rps.com (R:Rps l) {W:z00} (F:Fit W n) (hn:n≤1000) (hW:zxa l W):Rp W:=by
 cases hl:l with
 | nil =>
  have:W=⟨[],[]⟩:=zh8 F zpb fun x=>by
   rw [hW,hl,if_neg (by rintro ⟨h,-⟩; exact h rfl)]
   rfl
  rw [this]
  exact z12g
 | cons g0 t =>
  have hg:g0∈l:=by rw [hl]; exact List.mem_cons_self
  have hne:l≠[]:=by rw [hl]; simp
  have R0:=R.rp g0 hg
  have hsub:∀ x o,z2m W x=some o→z2m g0 x=some o:=fun x o h=>(zu2 R hW h).2 g0 hg
  have F6:=F.le60 (Nat.le_trans (z116 F R0.fit hsub) R0.fit.len)
  have S0:=zmd R0.good R0.fit
  obtain ⟨rk,hrk⟩:=S0.rk
  refine ⟨zp9 F6 ⟨fun x o h=>S0.ops x o (hsub x o h), fun x o h p hp=>?_,rk, fun x o h p hp=>hrk x o (hsub x o h) p hp⟩,F.op,zt7 F hn fun o ho=>?_⟩
  ·
   obtain ⟨q,hq⟩:=z92 R0.fit (S0.ins x o (hsub x o h) p hp)
   refine (zbe (z137 R hW hne (x:=p) (o:=q) fun g hg'=>?_)).1
   have Sg:=zmd (R.rp g hg').good (R.rp g hg').fit
   obtain ⟨q',hq'⟩:=z92 (R.rp g hg').fit (Sg.ins x o ((zu2 R hW h).2 g hg') p hp)
   rw [R.ag g hg' g0 hg p q' q hq' hq] at hq'
   exact hq'
  ·
   obtain ⟨x,hx⟩:=z10w F ho
   exact R0.wf.2.1.1 o (zbe (hsub x o hx)).2
end
section
open Go
variable {g a b:z00} {n m:Nat} {l:List z00}
theorem zu4 (R:Rps l) {i:Nat} (hi:i<l.length):iter (z5e l ((z35 (l.take i)).IDs,(z35 (l.take i)).Ops,(i:Int))) ((z35 (l.take i)).IDs,(z35 (l.take i)).Ops,0)=some ((z35 (l.take (i+1))).IDs,(z35 (l.take (i+1))).Ops):=by
 have Fa:=(zew R i (by omega)).1
 have Fb:=(R.rp _ (List.getElem_mem hi)).fit
 have hl5:=R.len
 have hs:z35 (l.take (i+1))=zgq (z35 (l.take i)) l[i]:=by rw [zjy hi,zl8]
 rw [hs]
 generalize z35 (l.take i)=a at Fa ⊢
 have hb1:=Fb.len; have hb2:=Fb.ids
 have main:=z28 (F:=z5e l (a.IDs,a.Ops,(i:Int))) (b:=((zgq a l[i]).IDs,(zgq a l[i]).Ops)) l[i].IDs.length (fun k=>((zdz a ((zb5 l[i]).take k)).IDs,(zdz a ((zb5 l[i]).take k)).Ops,(k:Int))) (fun k hk=>?_) ?_
 ·
  exact main
 ·
  have hko:k<l[i].Ops.length:=by omega
  have Fj:=zqk Fa Fb k
  have hjl:=Fj.len; have hji:=Fj.ids
  have e1:zdz a ((zb5 l[i]).take (k+1))=zpq (zdz a ((zb5 l[i]).take k)) (l[i].IDs[k],l[i].Ops[k]):=by rw [zsh Fb.ids hko,zsc]
  unfold z5e
  simp only [z0c hi,bS]
  rw [if_pos (by simpa using hk)]
  simp only [z0c hk,bS]
  by_cases hx:l[i].IDs[k]∈(zdz a ((zb5 l[i]).take k)).IDs
  ·
   rw [zu9 Fj.ri (by omega) hx]
   simp only [bS]
   rw [if_neg (by simp),z0g (by omega),e1]
   unfold zpq
   rw [if_pos hx]
  ·
   rw [zvk (by omega) hx]
   simp only [bS]
   rw [if_pos (by simp)]
   simp only [z0c hko,bS]
   have hp:=zy3 Fj (by omega) (l[i].IDs[k],l[i].Ops[k]) (Fb.op _ (List.getElem_mem hko)) hx
   have hp:z95 (⟨(zdz a ((zb5 l[i]).take k)).IDs,(zdz a ((zb5 l[i]).take k)).Ops⟩:z00) l[i].IDs[k] l[i].Ops[k]=some (zpq (zdz a ((zb5 l[i]).take k)) (l[i].IDs[k],l[i].Ops[k])):=hp
   rw [hp,z0g (by omega)]
   simp only [bS]
   rw [e1]
 ·
  unfold z5e
  simp only [z0c hi,bS]
  rw [if_neg (by simp)]
  unfold zgq
  rw [List.take_of_length_le (by rw [ze9 Fb.ids]; omega)]
theorem zuz (R:Rps l):z9k l=some (z35 l):=by
 have hl5:=R.len
 have main:=z28 (F:=z5c l) (b:=((z35 l).IDs,(z35 l).Ops)) l.length (fun i=>((z35 (l.take i)).IDs,(z35 (l.take i)).Ops,(i:Int))) (fun i hi=>?_) ?_
 ·
  have main:iter (z5c l) ([],[],0)=some ((z35 l).IDs,(z35 l).Ops):=main
  unfold z9k
  rw [main]
  rfl
 ·
  unfold z5c
  rw [if_pos (by simpa using hi)]
  simp only []
  rw [zu4 R hi]
  simp only [bS]
  rw [z0g (by omega)]
 ·
  unfold z5c
  rw [if_neg (by simp),List.take_length]
def zln (l:List z00):z00 × Int:=if 60<(z35 l).Ops.length then (⟨[],[]⟩,4) else (z35 l,0)
theorem zqe (R:Rps l):z4z l=some (zln l)∧z40 l=some (zln l):=by
 obtain ⟨W,w1,w2,w3⟩:=zs6 R
 have e:W=z35 l:=zh8 w2 (zhd R) fun x=>by rw [w3,zsd R]
 subst e
 unfold z4z z40
 rw [R.chk.1,R.chk.2]
 simp only [bS]
 rw [if_neg (by simp),if_neg (by simp),w1,zuz R]
 simp only [bS]
 by_cases h:60<(z35 l).Ops.length
 ·
  have e:zln l=(⟨[],[]⟩,4):=if_pos h
  rw [e,if_pos (by simp; omega)]; exact ⟨rfl,rfl⟩
 ·
  have e:zln l=(z35 l,0):=if_neg h
  rw [e,if_neg (by simp; omega)]; exact ⟨rfl,rfl⟩
theorem z102 (R:Rps l) {i:Nat} (hi:i<l.length) (ids:List ID) (hl:ids.length≤1000):iter (z6o l (ids,(i:Int))) ([],0)=some (ids.filter fun x=>decide (x∈l[i].IDs)):=by
 have Fb:=(R.rp _ (List.getElem_mem hi)).fit
 have hb1:=Fb.len; have hb2:=Fb.ids
 refine z28 ids.length (fun k=>((ids.take k).filter fun x=>decide (x∈l[i].IDs),(k:Int))) (fun k hk=>?_) ?_
 ·
  have hf:=List.length_filter_le (fun x=>decide (x∈l[i].IDs)) (ids.take k)
  rw [List.length_take] at hf
  unfold z6o
  rw [if_pos (by simpa using hk)]
  simp only [z0c hi,z0c hk,bS]
  rw [zjy hk,List.filter_append,List.filter_cons]
  by_cases hx:ids[k]∈l[i].IDs
  ·
   rw [zu9 Fb.ri (by omega) hx]
   simp only [bS]
   rw [if_pos (by simp),if_pos (by simpa using hx),z18 (by simp only [List.length_singleton]; omega),z0g (by omega)]
   rfl
  ·
   rw [zvk (by omega) hx]
   simp only [bS]
   rw [if_neg (by simp),if_neg (by simpa using hx),z0g (by omega)]
   simp
 ·
  unfold z6o
  rw [if_neg (by simp),List.take_length]
theorem zyk (R:Rps l) (h:0<l.length):iter (z3u l) (l[0].IDs,1)=some (zmq l l.length):=by
 have hl5:=R.len
 have main:=z28 (F:=z3u l) (b:=zmq l l.length) (l.length - 1) (fun i=>(zmq l (i+1),((i+1:Nat):Int))) (fun i hi=>?_) ?_
 ·
  have main:iter (z3u l) (zmq l 1,1)=some (zmq l l.length):=main
  rw [z112 h] at main
  exact main
 ·
  have hi':i+1<l.length:=by omega
  unfold z3u
  rw [if_pos (by simp; omega)]
  simp only []
  rw [z102 R hi' _ (by have:=zvl R (i+1); omega),zyl hi',z0g (by omega)]
  rfl
 ·
  unfold z3u
  have e:l.length - 1+1=l.length:=by omega
  rw [e,if_neg (by simp)]
theorem zzz (R:Rp g) (s:List ID) (hs:s.length≤100000):za2 g s=some (subG g fun i=>decide (zds g i∈s)):=by
 have F:=zm4 R.good R.fit fun i=>decide (zds g i∈s)
 unfold za2
 rw [zzx R.good.e s hs]
 simp only [bS]
 have:z3o (⟨zmt g (fun i=>decide (zds g i∈s)) g.Ops.length,zm1 g (fun i=>decide (zds g i∈s)) g.Ops.length⟩:z00)=some (subG g fun i=>decide (zds g i∈s)):=zqj F (by omega)
 rw [this]
 rfl
theorem z130 (R:Rps l):∃ W,z75 l=some (W,0)∧z54 l=some (W,0)∧zxa l W∧Rp W:=by
 obtain ⟨W,w1,w2,w3⟩:=zpy R
 refine ⟨W,?_,?_,w3,R.com w2 (by omega) w3⟩
 ·
  unfold z75
  rw [R.chk.1]
  simp only [bS]
  rw [if_neg (by simp),w1]
  rfl
 ·
  unfold z54
  rw [R.chk.2]
  simp only [bS]
  rw [if_neg (by simp)]
  by_cases h:l.length=0
  ·
   have hn:=List.length_eq_zero_iff.1 h
   have:W=⟨[],[]⟩:=zh8 w2 zpb fun x=>by
    rw [w3,hn,if_neg (by rintro ⟨h,-⟩; exact h rfl)]
    rfl
   rw [if_pos (by simp [h]),this]
  ·
   have h0:0<l.length:=by omega
   have e0:idx l 0=some l[0]:=z0c (i:=0) h0
   have R0:=R.rp _ (List.getElem_mem h0)
   have:W=subG l[0] fun i=>decide (zds l[0] i∈zmq l l.length):=zh8 w2 (zm4 R0.good R0.fit _) fun x=>by rw [w3,zy6 R h0]
   rw [if_neg (by simp; intro e; exact h (by rw [e]; rfl)),e0]
   simp only [bS]
   rw [zyk R h0]
   simp only [bS]
   rw [zzz R0 _ (by have:=zvl R l.length; omega),this]
   rfl
theorem zvp (F:Fit g 60) (s:List ID) (hs:s.length≤100):z1s s g=some (s.filter fun x=>!decide (x∈g.IDs)):=by
 have h1:=F.len; have h2:=F.ids
 exact z10z (fun x=>z7s x g) (fun x=>decide (x∈g.IDs)) (fun x=>by unfold z7s; rw [zpw _ _ (by omega)]; rfl) s (by omega)
theorem zpe {s:List ID} (h:z8d s=true) (p:ID→Bool):z8d (s.filter p)=true:=by
 rw [za8] at h ⊢
 exact List.Pairwise.sublist List.filter_sublist h
theorem zrw (R:Rp g) {s:List ID} (hs:s.length≤100) (hi:z8d s=true):z6x g.IDs s=some (s.filter fun x=>!decide (x∈g.IDs)):=by
 obtain ⟨t,t1,t2,t3⟩:=ztl R.good.e s hs
 have:t=s.filter fun x=>!decide (x∈g.IDs):=zdd _ _ ((za8 _).1 t2) ((za8 _).1 (zpe hi _)) fun x=>by
  rw [t3,List.mem_filter]
  simp
 rw [t1,this]
def zh7 (l:List z00) (W:z00):List (List ID):=l.map fun g=>W.IDs.filter fun x=>!decide (x∈g.IDs)
theorem zlf (W:z00) {i:Nat} (hi:i<l.length):zh7 (l.take (i+1)) W=zh7 (l.take i) W++[W.IDs.filter fun x=>!decide (x∈l[i].IDs)]:=by
 unfold zh7
 rw [zjy hi,List.map_append]
 rfl
theorem zx1 (R:Rps l):∃ r,z7w l=some r∧z5x l=some r∧r=if 60<(z35 l).Ops.length then ([],4) else (zh7 l (z35 l),0):=by
 have hl5:=R.len
 obtain ⟨w1,w2⟩:=zqe R
 unfold z7w z5x
 rw [w1,w2]
 simp only [bS]
 unfold zln
 by_cases h:60<(z35 l).Ops.length
 ·
  rw [if_pos h,if_pos h,if_pos (by simp),if_pos (by simp)]
  exact ⟨_,rfl,rfl,rfl⟩
 ·
  have FW:=zhd R
  have hWi:(z35 l).IDs.length≤60:=by have:=FW.ids; omega
  have m1:iter (z8r l (z35 l,0)) ([],0)=some (zh7 l (z35 l)):=by
   refine z28 l.length (fun i=>(zh7 (l.take i) (z35 l),(i:Int))) (fun i hi=>?_) ?_
   ·
    have Ri:=R.rp _ (List.getElem_mem hi)
    unfold z8r
    rw [if_pos (by simpa using hi)]
    simp only [z0c hi,bS]
    rw [zjd _ (by omega)]
    simp only [bS]
    rw [zvp Ri.fit _ (by omega)]
    simp only [bS]
    rw [z18 (by simp [zh7]; omega),z0g (by omega),zlf _ hi]
    rfl
   ·
    unfold z8r
    rw [if_neg (by simp),List.take_length]
  have m2:iter (z7l l (z35 l,0)) ([],0)=some (zh7 l (z35 l)):=by
   refine z28 l.length (fun i=>(zh7 (l.take i) (z35 l),(i:Int))) (fun i hi=>?_) ?_
   ·
    have Ri:=R.rp _ (List.getElem_mem hi)
    unfold z7l
    rw [if_pos (by simpa using hi)]
    simp only [z0c hi,bS]
    rw [zrw Ri (by omega) FW.ri]
    simp only [bS]
    rw [z18 (by simp [zh7]; omega),z0g (by omega),zlf _ hi]
    rfl
   ·
    unfold z7l
    rw [if_neg (by simp),List.take_length]
  rw [if_neg h,if_neg h,if_neg (by simp),if_neg (by simp),m1,m2]
  exact ⟨_,rfl,rfl,rfl⟩
end
section
open Go
variable {g a b:z00} {l:List z00}
theorem zkw (L:List (List ID)) (hl:L.length≤1000) (h:∀ s∈L,s.length≤1000):z6t L L=some true:=by
 have main:=z28 (F:=z3t L L) (b:=(.inr ():Sum Bool Unit)) L.length (fun i=>(i:Int)) (fun i hi=>?_) ?_
 ·
  unfold z6t
  have main:iter (z3t L L) 0=some (.inr ()):=main
  rw [if_neg (by simp),main]
  rfl
 ·
  unfold z3t
  rw [if_pos (by simpa using hi)]
  simp only [z0c hi,bS]
  rw [zt0 _ _ (h _ (List.getElem_mem hi)),z0g (by omega)]
  simp
 ·
  unfold z3t
  rw [if_neg (by simp)]
theorem zxi (R:Rps l) (h:¬ 60<(z35 l).Ops.length):(zh7 l (z35 l)).length≤1000∧∀ s∈zh7 l (z35 l),s.length≤1000:=by
 have hl:=R.len
 refine ⟨by unfold zh7; rw [List.length_map]; omega, fun s hs=>?_⟩
 unfold zh7 at hs
 obtain ⟨g,-,rfl⟩:=List.mem_map.1 hs
 exact Nat.le_trans (List.length_filter_le _ _) (by have:=(zhd R).ids; omega)
theorem zto (hl:l.length≤10) (hw:∀ g∈l,z3z g) (hs:∀ g∈l,zid g):∃ c s w k n,(z36 l=some c∧z2g l=some c)∧(z8k l=some s∧z71 l=some s)∧(z4z l=some w∧z40 l=some w∧zid w.1)∧(z75 l=some k∧z54 l=some k∧zid k.1)∧(z7w l=some n∧z5x l=some n∧n.1.length≤1000∧∀ s∈n.1,s.length≤1000):=by
 obtain ⟨c,c1,c2,c3⟩:=zuf (l:=l) (by omega) hw hs
 by_cases h:c=0
 ·
  have R:=c3 h
  obtain ⟨b,b1,b2,-⟩:=z11o R
  obtain ⟨w1,w2⟩:=zqe R
  obtain ⟨W,k1,k2,-,k3⟩:=z130 R
  obtain ⟨n,n1,n2,n3⟩:=zx1 R
  refine ⟨c,_,_,_,n,⟨c1,c2⟩,⟨b1,b2⟩,⟨w1,w2,?_⟩,⟨k1,k2,k3.fit.small (by omega)⟩,n1,n2,?_⟩
  ·
   unfold zln
   by_cases h6:60<(z35 l).Ops.length
   ·
    rw [if_pos h6]; exact zfx
   ·
    rw [if_neg h6]; exact ((zhd R).le60 (by omega)).small (by omega)
  ·
   by_cases h6:60<(z35 l).Ops.length
   ·
    rw [n3,if_pos h6]; exact ⟨by simp, fun s hs=>by cases hs⟩
   ·
    rw [n3,if_neg h6]; exact zxi R h6
 ·
  have hc:(c != 0)=true:=by simpa using h
  have w1:z4z l=some (⟨[],[]⟩,c):=by unfold z4z; rw [c1]; simp only [bS]; rw [if_pos hc]
  have w2:z40 l=some (⟨[],[]⟩,c):=by unfold z40; rw [c2]; simp only [bS]; rw [if_pos hc]
  refine ⟨c,(false,c),(⟨[],[]⟩,c),(⟨[],[]⟩,c),([],c),⟨c1,c2⟩,⟨?_,?_⟩,⟨w1,w2,zfx⟩,⟨?_,?_,zfx⟩,?_,?_, by simp, fun s hs=>by cases hs⟩
  ·
   unfold z8k; rw [c1]; simp only [bS]; rw [if_pos hc]
  ·
   unfold z71; rw [c2]; simp only [bS]; rw [if_pos hc]
  ·
   unfold z75; rw [c1]; simp only [bS]; rw [if_pos hc]
  ·
   unfold z54; rw [c2]; simp only [bS]; rw [if_pos hc]
  ·
   unfold z7w; rw [w1]; simp only [bS]; rw [if_pos hc]
  ·
   unfold z5x; rw [w2]; simp only [bS]; rw [if_pos hc]
theorem zpm (a0:List z00) (w0:(∀ x∈a0,z3z x)∧a0.length≤9223372036854775807):z6h a0=some true:=by
 obtain ⟨b,b1,b2⟩:=z108 a0
 unfold z6h
 rw [b1]
 simp only [bS]
 cases b with
 | true=>rfl
 | false =>
  obtain ⟨hl,hs⟩:=b2 rfl
  obtain ⟨c,s,w,k,n,⟨c1,c2⟩,⟨s1,s2⟩,⟨w1,w2,w3⟩,⟨k1,k2,k3⟩,n1,n2,n3,n4⟩:=zto hl w0.1 hs
  have t1:iter (z3l a0) ([],0)=some a0:=by
   refine z28 a0.length (fun i=>(a0.take i,(i:Int))) (fun i hi=>?_) ?_
   ·
    unfold z3l
    rw [if_pos (by simpa using hi)]
    simp only [z0c hi,bS]
    rw [z10p (hs _ (List.getElem_mem hi))]
    simp only [bS]
    rw [z18 (by simp; omega),z0g (by omega),zjy hi]
    rfl
   ·
    unfold z3l
    rw [if_neg (by simp),List.take_length]
  have t2:iter (z2q a0 a0) 0=some (.inr ()):=by
   refine z28 (F:=z2q a0 a0) a0.length (fun i=>(i:Int)) (fun i hi=>?_) ?_
   ·
    unfold z2q
    rw [if_pos (by simpa using hi)]
    simp only [z0c hi,bS]
    rw [zka (hs _ (List.getElem_mem hi)),z0g (by omega)]
    rfl
   ·
    unfold z2q
    rw [if_neg (by simp)]
  rw [if_neg (by simp),t1]
  simp only [bS]
  rw [s1,s2]
  simp only [bS]
  rw [w1,w2]
  simp only [bS]
  rw [k1,k2]
  simp only [bS]
  rw [n1,n2]
  simp only [bS]
  rw [t2]
  simp only [zr3]
  rw [c1,c2]
  simp only [bS]
  rw [if_pos (by simp),if_pos (by simp),if_pos (by simp),zka w3]
  simp only [bS]
  rw [if_pos trivial,if_pos (by simp),zka k3]
  simp only [bS]
  rw [if_pos trivial,if_pos (by simp),zkw _ n3 n4]
  simp
end
end Go.Proofs.YthgpinfkodaefaaGreatDoor
