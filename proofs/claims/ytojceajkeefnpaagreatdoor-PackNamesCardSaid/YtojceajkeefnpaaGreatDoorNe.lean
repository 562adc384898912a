import Derived.Test.YtojceajkeefnpaaGreatDoorNd
set_option linter.unusedSimpArgs false
set_option linter.unusedVariables false
namespace Go.Proofs.YtojceajkeefnpaaGreatDoor
section
open Go
theorem zf4 {α:Type} {l:List α} (h:l.Nodup) {i j:Nat} (hi:i<l.length) (hj:j<l.length) (e:l[i]=l[j]):i=j:=by
 rcases Nat.lt_trichotomy i j with c | c | c
 ·exact absurd e (List.pairwise_iff_getElem.1 h i j hi hj c)
 ·exact c
 ·exact absurd e.symm (List.pairwise_iff_getElem.1 h j i hj hi c)
inductive Wf (P:Nat→List Nat):Nat→Prop
 | mk (i:Nat):(∀ p∈P i,Wf P p)→Wf P i
def cnt (P:Nat→List Nat) (T:List Nat) (i:Nat):Int:=(((P i).filter fun p=>!decide (p∈T)).length:Int)
theorem zsh {P:Nat→List Nat} {T:List Nat} {i:Nat}:cnt P T i=0↔∀ p∈P i,p∈T:=by
 unfold cnt
 constructor
 ·intro h p hp
  have h0:((P i).filter fun p=>!decide (p∈T))=[]:=List.length_eq_zero_iff.1 (by omega)
  rw [List.filter_eq_nil_iff] at h0
  simpa using h0 p hp
 ·intro h
  have h0:((P i).filter fun p=>!decide (p∈T))=[]:=by
   rw [List.filter_eq_nil_iff]
   intro p hp
   simpa using h p hp
  rw [h0]; rfl
theorem zvm (P:Nat→List Nat) (i:Nat):cnt P [] i=((P i).length:Int):=by
 unfold cnt
 rw [List.filter_eq_self.2 (fun a _=>by simp)]
theorem z158 (P:Nat→List Nat) (T:List Nat) (i:Nat):cnt P T i≤((P i).length:Int):=by
 unfold cnt
 have:=List.length_filter_le (fun p=>!decide (p∈T)) (P i)
 omega
theorem zgk {T:List Nat} {x:Nat} (hx:x∉T):∀ l:List Nat,l.Nodup→(l.filter fun p=>!decide (p∈T)).length=(l.filter fun p=>!decide (p∈T++[x])).length+(if x∈l then 1 else 0)
 | [],_=>by simp
 | a::l,h=>by
  have hn:=List.nodup_cons.1 h
  have ih:=zgk hx l hn.2
  by_cases ha:a=x
  ·subst ha
   rw [if_neg hn.1] at ih
   rw [if_pos (by simp),List.filter_cons_of_pos (by simpa using hx),List.filter_cons_of_neg (by simp),List.length_cons,ih]
  ·have e:(x∈a::l)↔(x∈l):=by
    rw [List.mem_cons]; exact ⟨fun h=>h.resolve_left fun e=>ha e.symm,.inr⟩
   by_cases hT:a∈T
   ·rw [List.filter_cons_of_neg (by simp [hT]),List.filter_cons_of_neg (by simp [hT]),ih]
    simp only [e]
   ·rw [List.filter_cons_of_pos (by simp [hT]),List.filter_cons_of_pos (by simp [hT,ha]),List.length_cons,List.length_cons,ih]
    simp only [e]; omega
theorem z11n {P:Nat→List Nat} {T:List Nat} {x i:Nat} (hx:x∉T) (hn:(P i).Nodup) (hi:x∈P i):cnt P T i=cnt P (T++[x]) i+1:=by
 unfold cnt
 rw [zgk hx _ hn,if_pos hi]; omega
theorem z125 {P:Nat→List Nat} {T:List Nat} {x i:Nat} (hx:x∉T) (hn:(P i).Nodup) (hi:x∉P i):cnt P T i=cnt P (T++[x]) i:=by
 unfold cnt
 rw [zgk hx _ hn,if_neg hi]; omega
structure z12w (P:Nat→List Nat) (n:Nat):Prop where
 n60:n≤60
 nodup:∀ i,(P i).Nodup
 four:∀ i,(P i).length≤4
 lt:∀ i,∀ p∈P i,p<n
def over (P:Nat→List Nat) (n x:Nat):List Nat:=(List.range n).filter fun k=>decide (x∈P k)
theorem zrv {P:Nat→List Nat} {n x k:Nat}:k∈over P n x↔k<n∧x∈P k:=by unfold over; simp
theorem zu1 (P:Nat→List Nat) (n x:Nat):(over P n x).Nodup:=List.Pairwise.filter _ List.nodup_range
structure Got (P:Nat→List Nat) (n:Nat) (Q:List Nat):Prop where
 nodup:Q.Nodup
 lt:∀ x∈Q,x<n
 wf:∀ x∈Q,Wf P x
theorem Got.len {P:Nat→List Nat} {n:Nat} {Q:List Nat} (h:Got P n Q):Q.length≤n:=by
 have:=zfh Q (List.range n) h.nodup fun x hx=>by simpa using h.lt x hx
 simpa using this
variable {P:Nat→List Nat} {n:Nat}
theorem z16j (E:z12w P n) (Q:List Nat) (pos:Nat) (hp:pos<Q.length) (hQ:Got P n Q) (hd:∀ i,i<n→(i∈Q↔cnt P (Q.take pos) i=0)) :
  ∃ b:List Int × List Int,iter (z90 (il (over P n Q[pos]))) (tab n (cnt P (Q.take pos)),il Q,0)=some b∧∃ R,b=(tab n (cnt P ((Q++R).take (pos+1))),il (Q++R))∧Got P n (Q++R)∧∀ i,i<n→(i∈Q++R↔cnt P ((Q++R).take (pos+1)) i=0):=by
 have hx:Q[pos]∉Q.take pos:=by
  intro hm
  obtain ⟨j,hj,e⟩:=List.getElem_of_mem hm
  rw [List.getElem_take] at e
  rw [List.length_take] at hj
  have:=zf4 hQ.nodup _ _ e
  omega
 have htk:∀ R:List Nat,(Q++R).take (pos+1)=Q.take pos++[Q[pos]]:=fun R=>by
  rw [List.take_append_of_le_length (by omega),List.take_add_one,List.getElem?_eq_getElem hp]; rfl
 let T:=Q.take pos
 let x:=Q[pos]
 have hwx:Wf P x:=hQ.wf x (List.getElem_mem hp)
 have hwT:∀ y∈T,Wf P y:=fun y hy=>hQ.wf y (List.mem_of_mem_take hy)
 let c:=fun (j i:Nat)=>if i∈(over P n x).take j then cnt P (T++[x]) i else cnt P T i
 have hc_in:∀ j i,i∈(over P n x).take j→c j i=cnt P (T++[x]) i:=fun j i h=>if_pos h
 have hc_out:∀ j i,i∉(over P n x).take j→c j i=cnt P T i:=fun j i h=>if_neg h
 have hcnt2:∀ i,cnt P (T++[x]) i=0→Wf P i:=fun i hi=>.mk i fun p hpi=>by
  have:=zsh.1 hi p hpi
  rcases List.mem_append.1 this with h | h
  ·exact hwT p h
  ·rw [List.mem_singleton] at h; subst h; exact hwx
 have main:=z7i (F:=z90 (il (over P n x))) (over P n x).length
  (fun j st=>∃ R,st=(tab n (c j),il (Q++R),(j:Int))∧Got P n (Q++R)∧∀ i,i<n→(i∈Q++R↔c j i=0))
  (fun b=>∃ R,b=(tab n (c (over P n x).length),il (Q++R))∧Got P n (Q++R)∧∀ i,i<n→(i∈Q++R↔c (over P n x).length i=0))
  (fun j st hj hst=>by
   obtain ⟨R,rfl,hR,hm⟩:=hst
   have hyo:(over P n x)[j]∈over P n x:=List.getElem_mem hj
   obtain ⟨hyn,hyx⟩:=zrv.1 hyo
   have hyt:(over P n x)[j]∉(over P n x).take j:=by
    intro hm
    obtain ⟨k,hk,e⟩:=List.getElem_of_mem hm
    rw [List.getElem_take] at e
    rw [List.length_take] at hk
    have:=zf4 (zu1 P n x) _ _ e
    omega
   have hcy:c j (over P n x)[j]=cnt P (T++[x]) (over P n x)[j]+1:=by
    rw [hc_out _ _ hyt]; exact z11n hx (E.nodup _) hyx
   have hcl:cnt P T (over P n x)[j]≤4:=by have:=z158 P T (over P n x)[j]; have:=E.four (over P n x)[j]; omega
   have h0:0≤cnt P (T++[x]) (over P n x)[j]:=by unfold cnt; omega
   have hcs:cnt P T (over P n x)[j]=cnt P (T++[x]) (over P n x)[j]+1:=z11n hx (E.nodup _) hyx
   have hnot:(over P n x)[j]∉Q++R:=by
    rw [hm _ hyn,hcy]; omega
   have hcy1:c (j+1) (over P n x)[j]=cnt P (T++[x]) (over P n x)[j]:=by
    refine hc_in _ _ ?_
    rw [List.take_add_one,List.getElem?_eq_getElem hj]
    exact List.mem_append.2 (.inr (List.mem_singleton.2 rfl))
   have hc1:∀ i,i≠(over P n x)[j]→c (j+1) i=c j i:=fun i hne=>by
    show (if _ then _ else _)=(if _ then _ else _)
    have:(i∈(over P n x).take (j+1))↔(i∈(over P n x).take j):=by
     rw [List.take_add_one,List.getElem?_eq_getElem hj,List.mem_append]
     exact ⟨fun h=>h.resolve_right fun e=>hne (List.mem_singleton.1 e),.inl⟩
    simp only [this]
   have hset:(tab n (c j)).set (over P n x)[j] (cnt P (T++[x]) (over P n x)[j])=tab n (c (j+1)):=zi4 hyn hcy1 fun i _ hne=>hc1 i hne
   have hov:(over P n x).length≤n:=by
    have:=List.length_filter_le (fun k=>decide (x∈P k)) (List.range n)
    unfold over; simpa using this
   have hn60:=E.n60
   have hlen:=hR.len
   have hF:z90 (il (over P n x)) (tab n (c j),il (Q++R),(j:Int))=if cnt P (T++[x]) (over P n x)[j]==0 then some (.inr (tab n (c (j+1)),il (Q++R)++[((over P n x)[j]:Int)],((j+1:Nat):Int))) else some (.inr (tab n (c (j+1)),il (Q++R),((j+1:Nat):Int))):=by
    unfold z90
    rw [if_pos (by rw [zd5]; simpa using hj)]
    simp only []
    rw [z111 hj]
    simp only [bS]
    rw [zba hyn,hcy]
    simp only [bS]
    rw [z0v (x:=_ - 1) (by omega) (by omega), show cnt P (T++[x]) (over P n x)[j]+1 - 1=cnt P (T++[x]) (over P n x)[j] by omega]
    simp only [bS,Int.toNat_natCast]
    rw [hset,zba hyn,hcy1]
    simp only [bS]
    rw [z0x (by rw [zd5]; simp only [List.length_cons,List.length_nil]; omega),z0j (by omega)]
    simp only [bS]
   by_cases hz:cnt P (T++[x]) (over P n x)[j]=0
   ·rw [if_pos (by simpa using hz)] at hF
    refine ⟨_,hF,R++[(over P n x)[j]],?_,?_,?_⟩
    ·rw [← List.append_assoc,zrp (Q++R)]; rfl
    ·rw [← List.append_assoc]
     refine ⟨?_,?_,?_⟩
     ·rw [List.nodup_append]
      exact ⟨hR.nodup, by simp, fun a ha b hb e=>by
       rw [List.mem_singleton] at hb; subst hb; exact hnot (e ▸ ha)⟩
     ·intro y hy
      rcases List.mem_append.1 hy with h | h
      ·exact hR.lt y h
      ·rw [List.mem_singleton] at h; subst h; exact hyn
     ·intro y hy
      rcases List.mem_append.1 hy with h | h
      ·exact hR.wf y h
      ·rw [List.mem_singleton] at h; subst h; exact hcnt2 _ hz
    ·intro i hi
     rw [← List.append_assoc,List.mem_append,List.mem_singleton]
     by_cases hne:i=(over P n x)[j]
     ·subst hne
      rw [hcy1]
      exact ⟨fun _=>hz, fun _=>.inr rfl⟩
     ·rw [hc1 i hne,← hm i hi]
      exact ⟨fun h=>h.resolve_right hne,.inl⟩
   ·rw [if_neg (by simpa using hz)] at hF
    refine ⟨_,hF,R,rfl,hR,?_⟩
    intro i hi
    by_cases hne:i=(over P n x)[j]
    ·subst hne
     rw [hcy1]
     exact ⟨fun h=>absurd h hnot, fun h=>absurd h hz⟩
    ·rw [hc1 i hne,← hm i hi])
  (fun st hst=>by
   obtain ⟨R,rfl,hR,hm⟩:=hst
   refine ⟨_,?_,R,rfl,hR,hm⟩
   unfold z90
   rw [if_neg (by rw [zd5]; simp)])
  (tab n (cnt P T),il Q,((0:Nat):Int)) 0 (Nat.zero_le _) ⟨[], by rw [List.append_nil]; rfl, by rw [List.append_nil]; exact hQ, by rw [List.append_nil]; exact hd⟩
 have hend:∀ i,i<n→c (over P n x).length i=cnt P (T++[x]) i:=fun i hi=>by
  by_cases hm:i∈over P n x
  ·exact hc_in _ _ (by rw [List.take_length]; exact hm)
  ·rw [hc_out _ _ (by rw [List.take_length]; exact hm)]
   exact z125 hx (E.nodup i) fun h=>hm (zrv.2 ⟨hi,h⟩)
 obtain ⟨b,h1,R,h2,h3,h4⟩:=main
 refine ⟨b,h1,R,?_,h3, fun i hi=>?_⟩
 ·rw [h2,htk R]
  congr 1
  exact zez hend
 ·rw [h4 i hi,hend i hi,htk R]
theorem z16e (E:z12w P n) (s:List Int × List (List Int) × List Int) (hs:s.2.1=tab n fun x=>il (over P n x)):∃ b:Int,iter (zap s) (tab n (cnt P []),il ((List.range n).filter fun k=>decide ((P k).length=0)),0)=some b∧∃ Q:List Nat,b=(Q.length:Int)∧Q.Nodup∧∀ i,i∈Q↔i<n∧Wf P i:=by
 have hn60:=E.n60
 refine zgz (F:=zap s)
  (fun st=>∃ (Q:List Nat) (pos:Nat),st=(tab n (cnt P (Q.take pos)),il Q,(pos:Int))∧pos≤Q.length∧Got P n Q∧∀ i,i<n→(i∈Q↔cnt P (Q.take pos) i=0))
  (fun st=>n - st.2.2.toNat) _ ?_ _ ⟨(List.range n).filter fun k=>decide ((P k).length=0),0, by rw [List.take_zero]; rfl,Nat.zero_le _,?_,?_⟩
 ·rintro st ⟨Q,pos,rfl,h1,h2,h3⟩
  have hlen:=h2.len
  by_cases hp:pos<Q.length
  ·right
   obtain ⟨b,e1,R,rfl,e3,e4⟩:=z16j E Q pos hp h2 h3
   have hx:=h2.lt _ (List.getElem_mem hp)
   refine ⟨_,?_,⟨Q++R,pos+1,rfl, by rw [List.length_append]; omega,e3,e4⟩,?_⟩
   ·unfold zap
    rw [if_pos (by rw [zd5]; simpa using hp)]
    simp only []
    rw [z111 hp,hs]
    simp only [bS]
    rw [zba hx]
    simp only [bS]
    rw [e1,z0j (by omega)]
    simp only [bS]
   ·simp only [Int.toNat_natCast]; omega
  ·left
   have hpe:pos=Q.length:=by omega
   subst hpe
   refine ⟨(Q.length:Int),?_,Q,rfl,h2.nodup, fun i=>⟨fun h=>⟨h2.lt i h,h2.wf i h⟩, fun h=>?_⟩⟩
   ·unfold zap
    rw [if_neg (by rw [zd5]; simp)]
   ·obtain ⟨hi,hw⟩:=h
    rw [List.take_length] at h3
    revert hi
    induction hw with
    | mk i hpi ih =>
     intro hi
     rw [h3 i hi,zsh]
     exact fun p hpp=>ih p hpp (E.lt i p hpp)
 ·refine ⟨List.Pairwise.filter _ List.nodup_range, fun x hx=>?_, fun x hx=>?_⟩
  ·simp only [List.mem_filter,List.mem_range] at hx; exact hx.1
  ·simp only [List.mem_filter,List.mem_range,decide_eq_true_eq] at hx
   refine .mk x fun p hp=>?_
   rw [List.length_eq_zero_iff.1 hx.2] at hp; simp at hp
 ·intro i hi
  rw [List.take_zero,zvm]
  simp only [List.mem_filter,List.mem_range,decide_eq_true_eq]
  omega
end
section
open Go
variable {g:z0d}
theorem zja (h:ziy g=true) (i:Nat):∀ x∈zya g i,x∈g.IDs:=by
 unfold zya
 by_cases hi:i<g.Ops.length
 ·rw [List.getElem?_eq_getElem hi]
  unfold ziy at h
  rw [List.all_eq_true] at h
  have:=h _ (List.getElem_mem hi)
  rw [List.all_eq_true] at this
  exact fun x hx=>by simpa using this x hx
 ·rw [List.getElem?_eq_none (by omega)]
  exact fun x hx=>by simp at hx
theorem z15p (E:zfw g) (h:ziy g=true):z12w (z3c g) g.Ops.length:=by
 refine ⟨E.len, fun i=>?_, fun i=>?_, fun i p hp=>?_⟩
 ·unfold z3c
  rw [List.Nodup,List.pairwise_map]
  exact (E.nodup i).imp_of_mem fun {a b} ha hb hne e=>hne (zpq (zja h i b hb) e)
 ·unfold z3c; rw [List.length_map]; exact E.four i
 ·unfold z3c at hp
  rw [List.mem_map] at hp
  obtain ⟨x,hx,rfl⟩:=hp
  rw [← E.ids]
  exact List.idxOf_lt_length_of_mem (zja h i x hx)
def zq1 (g:z0d) (i:Nat):ID:=match g.IDs[i]? with | some x=>x | none=>z32
theorem zff {i:Nat} (h:i<g.IDs.length):zq1 g i=g.IDs[i]:=by unfold zq1; rw [List.getElem?_eq_getElem h]
theorem z100 {x:ID} (h:x∈g.IDs):zq1 g (g.IDs.idxOf x)=x:=by
 rw [zff (List.idxOf_lt_length_of_mem h)]; simp
theorem zyg (E:zfw g) {i:Nat} (h:i<g.Ops.length):g.IDs.idxOf (zq1 g i)=i:=by
 have hi:i<g.IDs.length:=by rw [E.ids]; exact h
 rw [zff hi]; exact zmk E.ri hi
theorem zlq (E:zfw g) {Q:List Nat} (hQ:∀ x∈Q,x<g.Ops.length) {x:ID} (hx:x∈g.IDs):x∈Q.map (zq1 g)↔g.IDs.idxOf x∈Q:=by
 rw [List.mem_map]
 constructor
 ·rintro ⟨q,hq,rfl⟩; rw [zyg E (hQ q hq)]; exact hq
 ·exact fun h=>⟨_,h,z100 hx⟩
theorem ztd (E:zfw g) (h:ziy g=true) {Q:List Nat} (hQ:∀ x∈Q,x<g.Ops.length) (i:Nat):((zya g i).all fun x=>decide (x∈Q.map (zq1 g)))=decide (∀ p∈z3c g i,p∈Q):=by
 rw [Bool.eq_iff_iff,List.all_eq_true,decide_eq_true_iff]
 unfold z3c
 constructor
 ·intro hx p hp
  rw [List.mem_map] at hp
  obtain ⟨x,hx',rfl⟩:=hp
  exact (zlq E hQ (zja h i x hx')).1 (by simpa using hx x hx')
 ·intro hp x hx
  rw [decide_eq_true_iff]
  exact (zlq E hQ (zja h i x hx)).2 (hp _ (List.mem_map.2 ⟨x,hx,rfl⟩))
def Topo (P:Nat→List Nat) (Q:List Nat):Prop:=∀ k (h:k<Q.length),∀ p∈P Q[k],p∈Q.take k
theorem Topo.snoc {P:Nat→List Nat} {Q:List Nat} {i:Nat} (h:Topo P Q) (hi:∀ p∈P i,p∈Q):Topo P (Q++[i]):=by
 intro k hk p hp
 by_cases hkq:k<Q.length
 ·rw [List.getElem_append_left hkq] at hp
  rw [List.take_append_of_le_length (by omega)]
  exact h k hkq p hp
 ·have hk':k=Q.length:=by simp at hk; omega
  subst hk'
  rw [List.getElem_append_right (by omega)] at hp
  simp at hp
  rw [List.take_left' rfl]
  exact hi p hp
def ziw (g:z0d) (Q:List Nat) (b:Bool):(List Int) × (List ID) × (List Bool) × Bool:=(il Q,Q.map (zq1 g),tab g.Ops.length (fun i=>decide (i∈Q)),b)
theorem z15a (E:zfw g) (h:ziy g=true) (Q:List Nat) (hQ:Got (z3c g) g.Ops.length Q) (hT:Topo (z3c g) Q) :
  ∃ b:Sum (List Int) ((List Int) × (List ID) × (List Bool) × Bool),iter (z2u g (ziw g Q true)) 0=some b ∧
   ((∃ i,b=.inr (ziw g (Q++[i]) true)∧Got (z3c g) g.Ops.length (Q++[i])∧Topo (z3c g) (Q++[i])∧i<g.Ops.length∧i∉Q∧(∀ p∈z3c g i,p∈Q)∧∀ k,k<i→(∀ p∈z3c g k,p∈Q)→k∈Q)∨(b=.inr (ziw g Q false)∧∀ i,i<g.Ops.length→(∀ p∈z3c g i,p∈Q)→i∈Q)):=by
 have hlen:=E.len
 have hql:=hQ.len
 refine zgz (F:=z2u g (ziw g Q true)) (fun s=>∃ i:Nat,s=(i:Int)∧i≤g.Ops.length∧∀ k,k<i→(∀ p∈z3c g k,p∈Q)→k∈Q) (fun s=>g.Ops.length - s.toNat) _ ?_ _ ⟨0,rfl,Nat.zero_le _, fun k hk=>by omega⟩
 rintro s ⟨i,rfl,h1,h2⟩
 by_cases hi:i<g.Ops.length
 ·have hcond:(idx (tab g.Ops.length fun i=>decide (i∈Q)) (i:Int) >>= fun x12=>if !x12 then idx g.Ops (i:Int) >>= fun x15=>z4h (Q.map (zq1 g)) x15.Preds >>= fun r17=>some r17 else some false)=some (!decide (i∈Q)&&decide (∀ p∈z3c g i,p∈Q)):=by
   rw [zba hi]
   simp only [bS]
   by_cases hm:i∈Q
   ·rw [decide_eq_true hm]; rfl
   ·rw [decide_eq_false hm,if_pos (by simp),z0i hi]
    simp only [bS]
    have h4:=(E.op i hi).1
    rw [z10t _ _ (by rw [List.length_map]; omega) (by omega)]
    simp only [bS]
    rw [← zcj hi,ztd E h hQ.lt]; rfl
  by_cases hm:i∈Q
  ·right
   refine ⟨((i+1:Nat):Int),?_,⟨i+1,rfl,hi, fun k hk hp=>?_⟩, by simp; omega⟩
   ·unfold z2u
    rw [if_pos (by simpa using hi)]
    show ((idx (tab g.Ops.length fun i=>decide (i∈Q)) (i:Int) >>= fun x12=>if !x12 then idx g.Ops (i:Int) >>= fun x15=>z4h (Q.map (zq1 g)) x15.Preds >>= fun r17=>some r17 else some false) >>= _)=_
    rw [hcond,decide_eq_true hm,z0j (by omega)]
    rfl
   ·by_cases hk':k=i
    ·subst hk'; exact hm
    ·exact h2 k (by omega) hp
  ·by_cases hp:∀ p∈z3c g i,p∈Q
   ·left
    refine ⟨_,?_,.inl ⟨i,rfl,?_,hT.snoc hp,hi,hm,hp,h2⟩⟩
    ·have hii:i<g.IDs.length:=by rw [E.ids]; exact hi
     unfold z2u
     rw [if_pos (by simpa using hi)]
     show ((idx (tab g.Ops.length fun i=>decide (i∈Q)) (i:Int) >>= fun x12=>if !x12 then idx g.Ops (i:Int) >>= fun x15=>z4h (Q.map (zq1 g)) x15.Preds >>= fun r17=>some r17 else some false) >>= _)=_
     rw [hcond,decide_eq_false hm,decide_eq_true hp]
     simp only [bS]
     rw [if_pos (by simp),z0i hii]
     simp only [bS]
     rw [show (ziw g Q true).1=il Q from rfl, show (ziw g Q true).2.1=Q.map (zq1 g) from rfl, show (ziw g Q true).2.2.1=tab g.Ops.length (fun i=>decide (i∈Q)) from rfl]
     rw [z0x (by rw [zd5]; simp only [List.length_cons,List.length_nil]; omega)]
     simp only [bS]
     rw [z0x (by rw [List.length_map]; simp only [List.length_cons,List.length_nil]; omega),zba hi]
     simp only [bS,Int.toNat_natCast]
     rw [zi4 (g:=fun j=>decide (j∈Q++[i])) hi (by simp) (fun j _ hj=>by simp [hj])]
     unfold ziw
     rw [zrp,List.map_append,← zff hii]
     rfl
    ·refine ⟨?_,?_,?_⟩
     ·rw [List.nodup_append]
      exact ⟨hQ.nodup, by simp, fun a ha b hb e=>by
       rw [List.mem_singleton] at hb; subst hb; exact hm (e ▸ ha)⟩
     ·intro y hy
      rcases List.mem_append.1 hy with h | h
      ·exact hQ.lt y h
      ·rw [List.mem_singleton] at h; subst h; exact hi
     ·intro y hy
      rcases List.mem_append.1 hy with h | h
      ·exact hQ.wf y h
      ·rw [List.mem_singleton] at h; subst h; exact .mk _ fun p hpp=>hQ.wf p (hp p hpp)
   ·right
    refine ⟨((i+1:Nat):Int),?_,⟨i+1,rfl,hi, fun k hk hpk=>?_⟩, by simp; omega⟩
    ·unfold z2u
     rw [if_pos (by simpa using hi)]
     show ((idx (tab g.Ops.length fun i=>decide (i∈Q)) (i:Int) >>= fun x12=>if !x12 then idx g.Ops (i:Int) >>= fun x15=>z4h (Q.map (zq1 g)) x15.Preds >>= fun r17=>some r17 else some false) >>= _)=_
     rw [hcond,decide_eq_false hp,z0j (by omega),Bool.and_false]
     rfl
    ·by_cases hk':k=i
     ·subst hk'; exact absurd hpk hp
     ·exact h2 k (by omega) hpk
 ·left
  have:i=g.Ops.length:=by omega
  subst this
  refine ⟨_,?_,.inr ⟨rfl,h2⟩⟩
  unfold z2u
  rw [if_neg (by simp)]
  rfl
theorem z107 (E:zfw g) (h:ziy g=true):∃ Q:List Nat,zb7 g=some (il Q)∧Got (z3c g) g.Ops.length Q∧Topo (z3c g) Q∧∀ i,i∈Q↔i<g.Ops.length∧Wf (z3c g) i:=by
 have hP:=z15p E h
 have hlen:=E.len
 have main:=zgz (F:=z6g g)
  (fun s=>∃ Q b,s=ziw g Q b∧Got (z3c g) g.Ops.length Q∧Topo (z3c g) Q∧(b=false→∀ i,i<g.Ops.length→(∀ p∈z3c g i,p∈Q)→i∈Q))
  (fun s=>(g.Ops.length - s.1.length)+(if s.2.2.2 then 1 else 0))
  (fun r=>∃ Q:List Nat,r=il Q∧Got (z3c g) g.Ops.length Q∧Topo (z3c g) Q∧∀ i,i∈Q↔i<g.Ops.length∧Wf (z3c g) i)
  (fun s hs=>by
   obtain ⟨Q,b,rfl,h1,h2,h3⟩:=hs
   have hql:=h1.len
   cases b with
   | false =>
    left
    refine ⟨il Q,rfl,Q,rfl,h1,h2, fun i=>⟨fun hi=>⟨h1.lt i hi,h1.wf i hi⟩, fun hi=>?_⟩⟩
    obtain ⟨hi,hw⟩:=hi
    revert hi
    induction hw with
    | mk i hpi ih=>exact fun hi=>h3 rfl i hi fun p hp=>ih p hp (hP.lt i p hp)
   | true =>
    right
    obtain ⟨r,e1,e2⟩:=z15a E h Q h1 h2
    rcases e2 with ⟨i,rfl,e3,e4,_⟩ | ⟨rfl,e3⟩
    ·refine ⟨_,?_,⟨Q++[i],true,rfl,e3,e4, by simp⟩,?_⟩
     ·unfold z6g
      exact (if_pos rfl).trans e1
     ·have:=e3.len
      simp only [ziw,zd5,List.length_append,List.length_cons,List.length_nil] at this ⊢
      omega
    ·refine ⟨_,?_,⟨Q,false,rfl,h1,h2, fun _=>e3⟩,?_⟩
     ·unfold z6g
      exact (if_pos rfl).trans e1
     ·simp [ziw])
  ([],[],List.replicate g.Ops.length false,true) ⟨[],true, by unfold ziw; rw [zhk]; simp [il],⟨by simp, by simp, by simp⟩, fun k hk=>by simp at hk, by simp⟩
 obtain ⟨r,e1,Q,rfl,e2,e3,e4⟩:=main
 refine ⟨Q,?_,e2,e3,e4⟩
 unfold zb7
 rw [zcw (by omega) (by omega)]
 simp only [bS]
 rw [e1]
 simp only [bS]
theorem zys {n:Nat} {Q:List Nat} (hn:Q.Nodup) (hl:∀ x∈Q,x<n):¬ Q.length<n↔∀ i,i<n→i∈Q:=by
 constructor
 ·intro h i hi
  refine Decidable.byContradiction fun hm=>?_
  have:=zfh (i::Q) (List.range n) (List.nodup_cons.2 ⟨hm,hn⟩) fun x hx=>by
   rcases List.mem_cons.1 hx with rfl | hx
   ·simpa using hi
   ·simpa using hl x hx
  simp at this; omega
 ·intro h
  have:=zfh (List.range n) Q List.nodup_range fun x hx=>h x (by simpa using hx)
  simp at this; omega
def z169 (g:z0d):Prop:=∀ i,i<g.Ops.length→Wf (z3c g) i
theorem zyt (hl:g.Ops.length≤60) (hi:g.IDs.length=g.Ops.length) (ho:∀ i (h:i<g.Ops.length),(g.Ops[i]).Preds.length≤4∧z74 (g.Ops[i]).Preds=true) :
  ∃ c:Int,zf7 g=some c∧zb9 g=some c∧(c=0↔z74 g.IDs=true∧ziy g=true∧z169 g):=by
 have s0:=zz8 g (by omega)
 unfold zf7 zb9
 rw [s0,zoc _ (by omega)]
 simp only [bS]
 by_cases hr:z74 g.IDs=true
 ·rw [if_pos hr,hr,if_neg (by simp),zcw (by omega) (by omega)]
  simp only [bS]
  rw [zcw (by omega) (by omega)]
  simp only [bS]
  have E:zfw g:=⟨hl,hi,hr,ho⟩
  have h2:=z11l E g.Ops [] rfl
  have h3:=zlm E g.Ops [] rfl
  have i1:tab g.Ops.length (zfy g 0)=List.replicate g.Ops.length 0:=by
   rw [zhk]; exact zez fun j _=>by unfold zfy; rw [if_neg (by omega)]
  have i2:tab g.Ops.length (fun x=>il (zes g 0 x))=List.replicate g.Ops.length []:=by
   rw [zhk]; exact zez fun j _=>by unfold zes; simp [il]
  have i3:il (ready g 0)=[]:=by unfold ready; simp [il]
  simp only [List.length_nil] at h2 h3
  rw [i1,i2,i3] at h2
  rw [show (0:Int)=((0:Nat):Int) from rfl] at *
  rw [h2,h3]
  cases ha:g.Ops.all fun o=>o.Preds.all fun x=>decide (x∈g.IDs) with
  | false=>exact ⟨40,rfl,rfl, by simp [ziy,ha]⟩
  | true =>
   have ha':ziy g=true:=ha
   obtain ⟨Q,q1,q2,q3,q4⟩:=z107 E ha'
   have hP:=z15p E ha'
   have i4:tab g.Ops.length (zfy g g.Ops.length)=tab g.Ops.length (cnt (z3c g) []):=zez fun j hj=>by
    unfold zfy; rw [if_pos hj,zvm]
   obtain ⟨b,k1,R,rfl,k2,k3⟩:=z16e hP (tab g.Ops.length (zfy g g.Ops.length),tab g.Ops.length (fun x=>il (zes g g.Ops.length x)),il (ready g g.Ops.length)) rfl
   have hRQ:R.length=Q.length:=zux k2 q2.nodup fun x=>by rw [k3,q4]
   simp only [if_true,znp]
   rw [i4] at k1
   rw [i4, show il (ready g g.Ops.length)=il ((List.range g.Ops.length).filter fun k=>decide ((z3c g k).length=0)) from rfl] at *
   rw [show ((0:Nat):Int)=0 from rfl] at *
   rw [k1,q1]
   simp only [bS]
   rw [zd5,hRQ]
   have hfull:=zys q2.nodup q2.lt
   by_cases hc:Q.length<g.Ops.length
   ·rw [if_pos (by simpa using hc)]
    refine ⟨36,rfl,rfl, by simp, fun h=>?_⟩
    have:=hfull.2 fun i hi=>(q4 i).2 ⟨hi,h.2.2 i hi⟩
    exact absurd hc this
   ·rw [if_neg (by simpa using hc)]
    exact ⟨0,rfl,rfl, fun _=>⟨by first | exact hr | trivial,ha', fun i hi=>((q4 i).1 (hfull.1 hc i hi)).2⟩, fun _=>rfl⟩
 ·have hr':z74 g.IDs=false:=by simpa using hr
  rw [if_neg hr,hr']
  exact ⟨32,rfl,rfl, by simp [hr']⟩
def z149 (g:z0d):Prop:=∀ i (h:i<g.Ops.length),zis g.Ops[i]=0∧sha (z60 g.Ops[i])=zq1 g i
structure z15h (g:z0d):Prop where
 e:zfw g
 ops:z149 g
 ins:ziy g=true
 wf:z169 g
theorem zbq {a:z01} (h:zis a=0):z13 a=0:=by
 unfold zis at h
 by_cases hc:z13 a=0
 ·exact hc
 ·rw [if_neg hc] at h; exact h
theorem z17k {g:z0d} (h:zcs g) {o:z01} (ho:o∈g.Ops):inI o.Act.Value.Num∧o.Act.Value.Text.length≤9223372036854775807:=by
 have:=h.2.1.1 o ho
 exact ⟨this.2.2.2.1.2.2.1.2.1,this.2.2.2.1.2.2.1.2.2.2.1⟩
def zhf (g:z0d) (i:Nat) (o:z01):Bool:=decide (zis o=0)&&decide (sha (z60 o)=zq1 g i)
theorem zz5 (hw:zcs g) (hl:g.Ops.length≤60) (hi:g.IDs.length=g.Ops.length):∀ (k i:Nat),g.Ops.length - i=k→i≤g.Ops.length →
  ∃ r:Sum Int Unit,iter (zao g) (i:Int)=some r∧iter (z4q g) (i:Int)=some r∧((r=.inr ()∧∀ j (h:j<g.Ops.length),i≤j→zhf g j g.Ops[j]=true)∨(r=.inl 8∧∃ j,∃ h:j<g.Ops.length,zhf g j g.Ops[j]=false)):=by
 intro k
 induction k with
 | zero =>
  intro i hk hle
  refine ⟨.inr (),z1a ?_,z1a ?_,.inl ⟨rfl, fun j hj hij=>by omega⟩⟩
  ·unfold zao; rw [if_neg (by simp; omega)]
  ·unfold z4q; rw [if_neg (by simp; omega)]
 | succ k ih =>
  intro i hk hle
  have hlt:i<g.Ops.length:=by omega
  have hii:i<g.IDs.length:=by omega
  obtain ⟨w1,w2⟩:=z17k hw (List.getElem_mem hlt)
  have e1:zao g (i:Int)=if zhf g i g.Ops[i] then some (.inr ((i+1:Nat):Int)) else some (.inl (.inl 8)):=by
   unfold zao zhf
   rw [if_pos (by simpa using hlt),z0i hlt]
   simp only [bS]
   rw [zmz _ w1 w2,z0j (by omega)]
   simp only [bS]
   by_cases hc:z13 g.Ops[i]=0
   ·rw [if_pos hc]
    simp only []
    rw [if_neg (by simp),z0i hii,← zff hii]
    simp only [bS]
    by_cases hs:sha (z60 g.Ops[i])=zq1 g i
    ·rw [decide_eq_true hs,if_neg (by simp),zqj _ w1 w2]
     simp only [bS]
     by_cases hb:zis g.Ops[i]=0
     ·rw [hb]; rfl
     ·rw [if_pos (by simpa using hb),decide_eq_false hb]; rfl
    ·rw [decide_eq_false hs,Bool.and_false]; rfl
   ·have hb:zis g.Ops[i]≠0:=fun h=>hc (zbq h)
    rw [if_neg hc,decide_eq_false hb]
    simp only []
    rw [if_pos (by simpa using hc)]; rfl
  have e2:z4q g (i:Int)=if zhf g i g.Ops[i] then some (.inr ((i+1:Nat):Int)) else some (.inl (.inl 8)):=by
   unfold z4q zhf
   rw [if_pos (by simpa using hlt),z0i hlt]
   simp only [bS]
   rw [zpp _ w1 w2,z0j (by omega)]
   simp only [bS]
   by_cases hb:zis g.Ops[i]=0
   ·rw [hb,if_neg (by simp),z0i hii,← zff hii,zsx _ (zbq hb) w1]
    simp only [bS]
    by_cases hs:sha (z60 g.Ops[i])=zq1 g i
    ·rw [decide_eq_true hs]; rfl
    ·rw [decide_eq_false hs]; rfl
   ·rw [if_pos (by simpa using hb),decide_eq_false hb]; rfl
  cases hg:zhf g i g.Ops[i] with
  | false =>
   rw [hg] at e1 e2
   exact ⟨_,z1a e1,z1a e2,.inr ⟨rfl,i,hlt,hg⟩⟩
  | true =>
   rw [hg] at e1 e2
   obtain ⟨r,h1,h2,h3⟩:=ih (i+1) (by omega) (by omega)
   refine ⟨r, by rw [z1s e1]; exact h1, by rw [z1s e2]; exact h2,?_⟩
   rcases h3 with ⟨h3,h4⟩ | h3
   ·refine .inl ⟨h3, fun j hj hij=>?_⟩
    by_cases hji:j=i
    ·subst hji; exact hg
    ·exact h4 j hj (by omega)
   ·exact .inr h3
theorem zyv (hw:zcs g):∃ c:Int,zbw g=some c∧zej g=some c∧(c=0↔z15h g):=by
 unfold zbw zej
 by_cases hl:60<g.Ops.length
 ·have d:decide (60<(g.Ops.length:Int))=true:=by simp; omega
  rw [d]
  exact ⟨4,rfl,rfl, by simp, fun h=>by have:=h.e.len; omega⟩
 have d:decide (60<(g.Ops.length:Int))=false:=by simp; omega
 simp only [d,Bool.false_eq_true,if_false]
 by_cases hi:g.IDs.length=g.Ops.length
 ·have d2:((g.IDs.length:Int) != (g.Ops.length:Int))=false:=by simp; omega
  simp only [d2,Bool.false_eq_true,if_false]
  obtain ⟨r,h1,h2,h3⟩:=zz5 hw (by omega) hi g.Ops.length 0 rfl (by omega)
  rw [show (0:Int)=((0:Nat):Int) from rfl,h1,h2]
  rcases h3 with ⟨rfl,h4⟩ | ⟨rfl,j,hj,h4⟩
  ·have hok:z149 g:=fun i h=>by
    have:=h4 i h (by omega)
    unfold zhf at this
    simpa using this
   obtain ⟨c,s1,s2,s3⟩:=zyt (g:=g) (by omega) hi fun i h=>⟨(z29 (zbq (hok i h).1)).1,(z29 (zbq (hok i h).1)).2.1⟩
   refine ⟨c,?_,?_,s3.trans ⟨fun ⟨a,b,d⟩=>⟨⟨by omega,hi,a, fun i h=>⟨(z29 (zbq (hok i h).1)).1,(z29 (zbq (hok i h).1)).2.1⟩⟩,hok,b,d⟩, fun h=>⟨h.e.ri,h.ins,h.wf⟩⟩⟩
   ·simp only [znp]; rw [s1]; simp only [bS]
   ·simp only [znp]; rw [s2]; simp only [bS]
  ·refine ⟨8,rfl,rfl, by simp, fun h=>?_⟩
   have:=h.ops j hj
   unfold zhf at h4
   simp [this] at h4
 ·have d2:((g.IDs.length:Int) != (g.Ops.length:Int))=true:=by simp; omega
  rw [d2]
  exact ⟨8,rfl,rfl, by simp, fun h=>absurd h.e.ids hi⟩
end
section
open Go
variable {g:z0d}
theorem zh2 {κ β:Type} [DecidableEq κ] (k:κ) (v:β) (x:κ):∀ m:List (κ × β),zch (zji m k v) x=if x=k then some v else zch m x
 | []=>rfl
 | p::m=>by
  have ih:=zh2 k v x m
  unfold zji
  by_cases h:k=p.1
  ·rw [if_pos h]
   show (if x=p.1 then some v else zch m x)=if x=k then some v else if x=p.1 then some p.2 else zch m x
   rw [← h]
   by_cases hx:x=k
   ·rw [if_pos hx,if_pos hx]
   ·rw [if_neg hx,if_neg hx,if_neg hx]
  ·rw [if_neg h]
   show (if x=p.1 then some p.2 else zch (zji m k v) x)=if x=k then some v else if x=p.1 then some p.2 else zch m x
   rw [ih]
   by_cases hx:x=p.1
   ·rw [if_pos hx,if_pos hx,if_neg (fun e=>h (by rw [← hx,e]))]
   ·rw [if_neg hx,if_neg hx]
theorem zgw:∀ (l m:List ID),l.Pairwise (fun a b=>kd a<kd b)→m.Pairwise (fun a b=>kd a<kd b)→(∀ x,x∈l↔x∈m)→l=m
 | [],m,_,_,h=>by
  cases m with
  | nil=>rfl
  | cons b m=>have:=(h b).2 (by simp); simp at this
 | a::l,[],_,_,h=>by have:=(h a).1 (by simp); simp at this
 | a::l,b::m,h1,h2,h=>by
  obtain ⟨p1,p2⟩:=List.pairwise_cons.1 h1
  obtain ⟨q1,q2⟩:=List.pairwise_cons.1 h2
  have hab:a=b:=by
   have ha:=(h a).1 (by simp)
   have hb:=(h b).2 (by simp)
   rcases List.mem_cons.1 ha with e | ha'
   ·exact e
   ·rcases List.mem_cons.1 hb with e | hb'
    ·exact e.symm
    ·have:=q1 a ha'; have:=p1 b hb'; omega
  subst hab
  congr 1
  refine zgw l m p2 q2 fun x=>⟨fun hx=>?_, fun hx=>?_⟩
  ·rcases List.mem_cons.1 ((h x).1 (by simp [hx])) with e | h'
   ·subst e; have:=p1 x hx; omega
   ·exact h'
  ·rcases List.mem_cons.1 ((h x).2 (by simp [hx])) with e | h'
   ·subst e; have:=q1 x hx; omega
   ·exact h'
end
section
open Go
variable {g:z0d}
theorem z15s (a s:List ID) (n:Nat) (x:ID) (hn:n<a.length) (hx:a[n]=x) (hs:s.length≤9223372036854775806) (hi:z74 s=true):∃ k:Nat,iter (z3a a (s,(n:Int))) 0=some (k:Int)∧k≤s.length∧(∀ i (h:i<s.length),i<k→kd s[i]<kd x)∧(∀ i (h:i<s.length),k≤i→kd x≤kd s[i]):=by
 have main:=zgz (F:=z3a a (s,(n:Int))) (fun st=>∃ i:Nat,st=(i:Int)∧i≤s.length∧∀ j (h:j<s.length),j<i→kd s[j]<kd x) (fun st=>s.length - st.toNat)
  (fun r=>∃ k:Nat,r=(k:Int)∧k≤s.length∧(∀ i (h:i<s.length),i<k→kd s[i]<kd x)∧(∀ i (h:i<s.length),k≤i→kd x≤kd s[i]))
  (fun st hst=>by
   obtain ⟨i,rfl,h1,h2⟩:=hst
   by_cases hi':i<s.length
   ·have hF:z3a a (s,(n:Int)) (i:Int)=if decide (kd s[i]<kd x) then some (.inr ((i+1:Nat):Int)) else some (.inl (i:Int)):=by
     unfold z3a
     rw [if_pos (by simpa using hi')]
     simp only []
     rw [z0i hi',z0i hn,hx,z0j (by omega)]
     simp only [bS]
     rw [zwk]
     simp only [bS]
     rw [zme]
    by_cases hc:kd s[i]<kd x
    ·rw [decide_eq_true hc,if_pos rfl] at hF
     refine .inr ⟨_,hF,⟨i+1,rfl,hi', fun j hj hji=>?_⟩, by simp; omega⟩
     by_cases hji':j=i
     ·subst hji'; exact hc
     ·exact h2 j hj (by omega)
    ·rw [decide_eq_false hc,if_neg (by simp)] at hF
     refine .inl ⟨_,hF,i,rfl,h1,h2, fun j hj hij=>?_⟩
     by_cases hji':j=i
     ·subst hji'; omega
     ·have:=zgh hi hi' hj (by omega); omega
   ·refine .inl ⟨(i:Int),?_,i,rfl,h1,h2, fun j hj hij=>by omega⟩
    unfold z3a
    rw [if_neg (by simpa using hi')])
  0 ⟨0,rfl,Nat.zero_le _, fun j _ h=>by omega⟩
 obtain ⟨r,h1,k,rfl,h2,h3,h4⟩:=main
 exact ⟨k,h1,h2,h3,h4⟩
theorem zum {α:Type} (s:List α) (k:Nat) (x y:α):y∈s.take k++[x]++s.drop k↔y∈s∨y=x:=by
 have:y∈s↔y∈s.take k∨y∈s.drop k:=by rw [← List.mem_append,List.take_append_drop]
 rw [this]
 simp only [List.mem_append,List.mem_singleton]
 constructor
 ·rintro ((h | h) | h)
  ·exact .inl (.inl h)
  ·exact .inr h
  ·exact .inl (.inr h)
 ·rintro ((h | h) | h)
  ·exact .inl (.inl h)
  ·exact .inr h
  ·exact .inl (.inr h)
theorem zr7 {s:List ID} (hi:z74 s=true) {k:Nat} {x:ID} (hk:k≤s.length) (h1:∀ i (h:i<s.length),i<k→kd s[i]<kd x) (h2:∀ i (h:i<s.length),k≤i→kd x<kd s[i]):z74 (s.take k++[x]++s.drop k)=true:=by
 rw [zcz] at *
 have e:s=s.take k++s.drop k:=(List.take_append_drop k s).symm
 rw [e,List.pairwise_append] at hi
 have a1:∀ y∈s.take k,kd y<kd x:=fun y hy=>by
  obtain ⟨i,hi',rfl⟩:=List.getElem_of_mem hy
  rw [List.getElem_take]
  rw [List.length_take] at hi'
  exact h1 i (by omega) (by omega)
 have a2:∀ y∈s.drop k,kd x<kd y:=fun y hy=>by
  obtain ⟨i,hi',rfl⟩:=List.getElem_of_mem hy
  rw [List.getElem_drop]
  rw [List.length_drop] at hi'
  exact h2 (k+i) (by omega) (by omega)
 rw [List.pairwise_append,List.pairwise_append]
 refine ⟨⟨hi.1, by simp, fun y hy z hz=>?_⟩,hi.2.1, fun y hy z hz=>?_⟩
 ·rw [List.mem_singleton] at hz; subst hz; exact a1 y hy
 ·rcases List.mem_append.1 hy with h | h
  ·exact hi.2.2 y h z hz
  ·rw [List.mem_singleton] at h; subst h; exact a2 z hz
theorem zqn (a:List ID) (hl:a.length≤1000):∃ s,za0 a=some s∧z74 s=true∧∀ x,x∈s↔x∈a:=by
 have main:=z7i (F:=z4c a) a.length
  (fun n st=>st.2=(n:Int)∧st.1.length≤n∧z74 st.1=true∧∀ x,x∈st.1↔x∈a.take n)
  (fun s=>z74 s=true∧∀ x,x∈s↔x∈a)
  (fun n st hn hst=>by
   obtain ⟨s,n'⟩:=st
   obtain ⟨h1,h2,h3,h4⟩:=hst
   simp only at h1 h2 h3 h4
   subst h1
   obtain ⟨k,k1,k2,k3,k4⟩:=z15s a s n a[n] hn rfl (by omega) h3
   have hmem:∀ y,y∈a.take (n+1)↔y∈s∨y=a[n]:=fun y=>by
    rw [List.take_add_one,List.getElem?_eq_getElem hn,List.mem_append,h4 y]
    exact ⟨fun h=>h.imp id fun h=>List.mem_singleton.1 h, fun h=>h.imp id fun h=>List.mem_singleton.2 h⟩
   have hcond:(if ((k:Int)==(s.length:Int))=true then some true else idx s (k:Int) >>= fun x17=>idx a (n:Int) >>= fun x19=>some (!decide (x17=x19)))=some (!decide (a[n]∈s)):=by
    by_cases hk:k=s.length
    ·rw [if_pos (by rw [hk]; simp)]
     have:a[n]∉s:=fun hm=>by
      obtain ⟨i,hi,e⟩:=List.getElem_of_mem hm
      have:=k3 i hi (by omega)
      rw [e] at this; omega
     rw [decide_eq_false this]; rfl
    ·have hk':k<s.length:=by omega
     rw [if_neg (by simp; omega),z0i hk',z0i hn]
     simp only [bS]
     have:decide (s[k]=a[n])=decide (a[n]∈s):=by
      rw [decide_eq_decide]
      refine ⟨fun e=>e ▸ List.getElem_mem hk', fun hm=>?_⟩
      obtain ⟨i,hi,e⟩:=List.getElem_of_mem hm
      by_cases hik:i<k
      ·have:=k3 i hi hik; rw [e] at this; omega
      ·by_cases hik':i=k
       ·subst hik'; exact e
       ·have:=zgh h3 hk' hi (by omega)
        have:=k4 k hk' (Nat.le_refl _)
        rw [e] at *; omega
     rw [this]
   by_cases hm:a[n]∈s
   ·rw [decide_eq_true hm] at hcond
    refine ⟨(s,((n+1:Nat):Int)),?_,rfl,?_,h3, fun x=>?_⟩
    ·unfold z4c
     rw [if_pos (by simpa using hn),k1]
     simp only [bS]
     rw [hcond,z0j (by omega)]
     rfl
    ·simp only []; omega
    ·rw [hmem]
     exact ⟨.inl, fun h=>h.elim id fun e=>e ▸ hm⟩
   ·rw [decide_eq_false hm] at hcond
    have hlen:(s.take k++[a[n]]++s.drop k).length=s.length+1:=by
     simp only [List.length_append,List.length_take,List.length_drop,List.length_cons,List.length_nil]; omega
    refine ⟨(s.take k++[a[n]]++s.drop k,((n+1:Nat):Int)),?_,rfl,?_,?_, fun x=>?_⟩
    ·unfold z4c
     rw [if_pos (by simpa using hn),k1]
     simp only [bS]
     rw [hcond]
     simp only [bS]
     rw [if_pos (by simp), show (0:Int)=((0:Nat):Int) from rfl,z8g (by omega) (by omega),z0i hn,z8g (by omega) (by omega)]
     simp only [bS,List.drop_zero,Nat.sub_zero]
     have e2:(s.drop k).take (s.length - k)=s.drop k:=List.take_of_length_le (by simp)
     rw [e2,z0x (by simp; omega)]
     simp only [bS,List.nil_append]
     rw [z0x (by simp; omega)]
     simp only [bS]
     rw [z0x (by simp; omega),z0j (by omega)]
     simp only [bS]
    ·simp only []; rw [hlen]; omega
    ·refine zr7 h3 k2 k3 fun i hi hki=>?_
     have:=k4 i hi hki
     rcases Nat.lt_or_eq_of_le this with h | h
     ·exact h
     ·exact absurd (zio h ▸ List.getElem_mem hi) hm
    ·rw [hmem]; exact zum _ _ _ _)
  (fun st hst=>by
   obtain ⟨s,n'⟩:=st
   obtain ⟨h1,h2,h3,h4⟩:=hst
   simp only at h1 h2 h3 h4
   subst h1
   refine ⟨s,?_,h3, fun x=>by rw [h4,List.take_length]⟩
   unfold z4c
   rw [if_neg (by simp)])
  ([],0) 0 (Nat.zero_le _) ⟨rfl,Nat.zero_le _,rfl, by simp⟩
 obtain ⟨s,h1,h2,h3⟩:=main
 refine ⟨s,?_,h2,h3⟩
 unfold za0
 rw [h1]
 simp only [bS]
end
section
open Go
variable {g:z0d}
theorem zpd {α:Type} {l:List α} {n:Nat} (h:n<l.length):l.take (n+1)=l.take n++[l[n]]:=by
 rw [List.take_add_one,List.getElem?_eq_getElem h]; rfl
theorem z112 {l:List V3} (hso:l.Pairwise fun x y=>kd x≤kd y) {n i:Nat} (hi:i<l.length) (hn:n≤i+1):∀ x∈l.take n,kd x≤kd l[i]:=by
 intro x hx
 obtain ⟨j,hj,rfl⟩:=List.getElem_of_mem hx
 rw [List.length_take] at hj
 rw [List.getElem_take]
 by_cases hji:j=i
 ·subst hji; exact Nat.le_refl _
 ·exact List.pairwise_iff_getElem.1 hso j i (by omega) hi (by omega)
theorem zk1 {l:List V3} {x:V3} (h:l.Pairwise fun a b=>kd a<kd b) (hx:∀ y∈l,kd y<kd x):(l++[x]).Pairwise fun a b=>kd a<kd b:=by
 rw [List.pairwise_append]
 exact ⟨h, by simp, fun a ha b hb=>by rw [List.mem_singleton] at hb; subst hb; exact hx a ha⟩
theorem zp7 (l:List V3) (hl:l.length≤1000) (hso:l.Pairwise fun x y=>kd x≤kd y) (s:Nat) (h1:1≤s) (hs:s<l.length) (hst:(l.take s).Pairwise fun x y=>kd x<kd y) (heq:l[s]=l[s - 1]) :
  ∃ b:List V3 × Int,iter (z0w l s) (l,(s:Int),1)=some b∧b.1.length=l.length∧∃ j:Nat,b.2=(j:Int)∧j<l.length∧(b.1.take j).Pairwise (fun x y=>kd x<kd y)∧∀ x,x∈b.1.take j↔x∈l:=by
 refine z7i (F:=z0w l s) (l.length - s)
  (fun i st=>st.1.length=l.length∧st.2.2=(i:Int)∧1≤i∧∃ j:Nat,st.2.1=(j:Int)∧j+1≤s+i∧(∀ q,s+i - 1≤q→st.1[q]? = l[q]?)∧(st.1.take j).Pairwise (fun x y=>kd x<kd y)∧∀ x,x∈st.1.take j↔x∈l.take (s+i)) _ ?_ ?_ _ 1 (by omega)
  ⟨rfl,rfl, by omega,s,rfl, by omega, fun _ _=>rfl,hst, fun x=>?_⟩
 ·rintro i ⟨c,j',i'⟩ hi ⟨e1,e2,e0,j,e3,e4,e5,e6,e7⟩
  simp only at e1 e2 e3 e5 e6 e7
  subst e2 e3
  have g1:c[s+i]'(by omega)=l[s+i]'(by omega):=by
   have:=e5 (s+i) (by omega)
   rw [List.getElem?_eq_getElem (by omega),List.getElem?_eq_getElem (by omega)] at this
   exact Option.some.inj this
  have g2:c[s+(i - 1)]'(by omega)=l[s+(i - 1)]'(by omega):=by
   have:=e5 (s+(i - 1)) (by omega)
   rw [List.getElem?_eq_getElem (by omega),List.getElem?_eq_getElem (by omega)] at this
   exact Option.some.inj this
  have hs1:l.take (s+(i+1))=l.take (s+i)++[l[s+i]'(by omega)]:=zpd (n:=s+i) (by omega)
  unfold z0w
  rw [if_pos (by simp; omega)]
  simp only [Int.toNat_natCast]
  rw [zmj (by omega),z0v (x:=(i:Int) - 1) (by omega) (by omega), show ((i:Int) - 1)=((i - 1:Nat):Int) by omega,zmj (by omega)]
  simp only [bS]
  rw [z0i (by omega),z0i (by omega)]
  simp only [bS]
  by_cases hc:c[s+i]'(by omega)=c[s+(i - 1)]'(by omega)
  ·rw [decide_eq_true hc,if_neg (by simp)]
   refine ⟨_,rfl,e1,z0j (by omega), by omega,j,rfl, by omega, fun q hq=>e5 q (by omega),e6, fun x=>?_⟩
   rw [e7,hs1,List.mem_append]
   refine ⟨.inl, fun h=>h.elim id fun h=>?_⟩
   have hx:x=l[s+i]'(by omega):=List.mem_singleton.1 h
   rw [hx,← g1,hc,g2,List.mem_take_iff_getElem]
   exact ⟨s+(i - 1), by omega,rfl⟩
  ·rw [decide_eq_false hc,if_pos (by simp),z0i (by omega)]
   simp only [bS]
   have hset:(c.set j (l[s+i]'(by omega))).take (j+1)=c.take j++[l[s+i]'(by omega)]:=by
    rw [zpd (by rw [List.length_set]; omega),List.take_set_of_le (Nat.le_refl _),List.getElem_set_self]
   refine ⟨_,rfl, by simpa using e1,z0j (by omega), by omega,j+1,z0j (by omega), by omega, fun q hq=>?_,?_, fun x=>?_⟩
   ·show (c.set j _)[q]? = _
    rw [List.getElem?_set_ne (by omega)]; exact e5 q (by omega)
   ·show ((c.set j (c[s+i]'(by omega))).take (j+1)).Pairwise _
    rw [g1,hset]
    refine zk1 e6 fun y hy=>?_
    have h1:=z112 hso (n:=s+i) (i:=s+(i - 1)) (by omega) (by omega) y ((e7 y).1 hy)
    have h2:kd (l[s+(i - 1)]'(by omega))≤kd (l[s+i]'(by omega)):=List.pairwise_iff_getElem.1 hso _ _ (by omega) (by omega) (by omega)
    have h3:kd (l[s+(i - 1)]'(by omega))≠kd (l[s+i]'(by omega)):=fun e=>hc (by rw [g1,g2]; exact (zio e).symm)
    omega
   ·show x∈(c.set j (c[s+i]'(by omega))).take (j+1)↔_
    rw [g1,hset,hs1,List.mem_append,List.mem_append,e7]
 ·rintro ⟨c,j',i'⟩ ⟨e1,e2,e0,j,e3,e4,e5,e6,e7⟩
  simp only at e1 e2 e3 e5 e6 e7
  subst e2 e3
  unfold z0w
  rw [if_neg (by simp <;> omega)]
  refine ⟨_,rfl,e1,j,rfl, by omega,e6, fun x=>?_⟩
  rw [e7,List.take_of_length_le (by omega)]
 ·show x∈l.take s↔x∈l.take (s+1)
  rw [zpd hs,List.mem_append]
  refine ⟨.inl, fun h=>h.elim id fun h=>?_⟩
  have hx:x=l[s]:=List.mem_singleton.1 h
  rw [hx,heq,List.mem_take_iff_getElem]
  exact ⟨s - 1, by omega,rfl⟩
theorem zl2 (l:List V3) (hl:l.length≤1000) (hso:l.Pairwise fun x y=>kd x≤kd y):∃ c,z1b l=some c∧z74 c=true∧∀ x,x∈c↔x∈l:=by
 have key:∀ k n,l.length - n=k→1≤n→n≤l.length→(l.take n).Pairwise (fun x y=>kd x<kd y)→∃ r:Sum (List V3) Unit,iter (z0f l) (n:Int)=some r∧((r=.inr ()∧l.Pairwise fun x y=>kd x<kd y)∨(∃ c,r=.inl c∧(c.Pairwise fun x y=>kd x<kd y)∧∀ x,x∈c↔x∈l)):=by
  intro k
  induction k with
  | zero =>
   intro n hk h1 hn hst
   refine ⟨_,z1a ?_,.inl ⟨rfl,?_⟩⟩
   ·unfold z0f
    rw [if_neg (by simp; omega)]
   ·rw [List.take_of_length_le (by omega)] at hst; exact hst
  | succ k ih =>
   intro n hk h1 hn hst
   have hlt:n<l.length:=by omega
   by_cases hc:l[n]=l[n - 1]
   ·obtain ⟨⟨c,j'⟩,e1,e2,j,e3,e4,e5,e6⟩:=zp7 l hl hso n h1 hlt hst hc
    simp only at e2 e3 e5 e6
    subst e3
    have hF:z0f l (n:Int)=some (.inl (.inl (c.take j))):=by
     unfold z0f
     rw [if_pos (by simp; omega),z0i hlt,z0v (by omega) (by omega), show ((n:Int) - 1)=((n - 1:Nat):Int) by omega,z0i (by omega)]
     simp only [bS]
     rw [decide_eq_true hc,if_pos rfl,z2n (by omega)]
     simp only [bS]
     rw [e1]
     simp only [bS]
     rw [z2n (by omega),z2n (by simp; omega)]
     simp only [bS,Int.toNat_natCast]
     rw [show (0:Int)=((0:Nat):Int) from rfl,z8g (by omega) (by rw [zwy _ _ _ _ (by omega)]; omega)]
     simp only [bS,List.drop_zero,Nat.sub_zero]
     have:(clr c j (c.length - j) (Vector.replicate 32 0)).take j=c.take j:=by
      unfold clr
      first
       | rw [List.append_assoc,List.take_append_of_le_length (by rw [List.length_take]; omega),List.take_take,Nat.min_self]
       | rw [List.take_append_of_le_length (by rw [List.length_take]; omega),List.take_take,Nat.min_self]
     rw [this]
    exact ⟨_,z1a hF,.inr ⟨_,rfl,e5,e6⟩⟩
   ·have hF:z0f l (n:Int)=some (.inr ((n+1:Nat):Int)):=by
     unfold z0f
     rw [if_pos (by simp; omega),z0i hlt,z0v (x:=(n:Int) - 1) (by omega) (by omega), show ((n:Int) - 1)=((n - 1:Nat):Int) by omega,z0i (by omega)]
     simp only [bS]
     rw [decide_eq_false hc,if_neg (by simp),z0j (by omega)]
    obtain ⟨r,h2,h3⟩:=ih (n+1) (by omega) (by omega) (by omega) (by
     rw [zpd hlt]
     refine zk1 hst fun y hy=>?_
     have h1':=z112 hso (n:=n) (i:=n - 1) (by omega) (by omega) y hy
     have h2':kd (l[n - 1]'(by omega))≤kd l[n]:=List.pairwise_iff_getElem.1 hso _ _ (by omega) hlt (by omega)
     have h3':kd (l[n - 1]'(by omega))≠kd l[n]:=fun e=>hc (zio e).symm
     omega)
    exact ⟨r, by rw [z1s hF]; exact h2,h3⟩
 unfold z1b
 by_cases h2:l.length<2
 ·rw [if_pos (by simp; omega)]
  refine ⟨l,rfl,?_, fun x=>Iff.rfl⟩
  match l,h2 with
  | [],_=>rfl
  | [_],_=>rfl
 ·rw [if_neg (by simp; omega)]
  obtain ⟨r,e1,e2⟩:=key (l.length - 1) 1 rfl (by omega) (by omega) (by rw [zpd (by omega)]; simp)
  rw [show (1:Int)=((1:Nat):Int) from rfl,e1]
  rcases e2 with ⟨rfl,h3⟩ | ⟨c,rfl,h3,h4⟩
  ·exact ⟨l,rfl,(zcz l).2 h3, fun x=>Iff.rfl⟩
  ·exact ⟨c,rfl,(zcz c).2 h3,h4⟩
end
section
open Go Go.Sort
theorem zt5 {κ β:Type} [DecidableEq κ] (x:κ):∀ m:List (κ × β),zch m x=none↔x∉m.map Prod.fst
 | []=>by simp [zch]
 | p::m=>by
  unfold zch
  by_cases h:x=p.1
  ·rw [if_pos h]; simp [h]
  ·rw [if_neg h,zt5 x m]; simp [h]
theorem zve {κ β:Type} [DecidableEq κ] (k:κ) (v:β):∀ m:List (κ × β),(m.map Prod.fst).Nodup→((zji m k v).map Prod.fst).Nodup∧∀ x,x∈(zji m k v).map Prod.fst→x=k∨x∈m.map Prod.fst
 | [],_=>by simp [zji]
 | p::m,h=>by
  simp only [List.map_cons,List.nodup_cons] at h
  obtain ⟨h1,h2⟩:=zve k v m h.2
  unfold zji
  by_cases hk:k=p.1
  ·rw [if_pos hk]
   refine ⟨by simp only [List.map_cons,List.nodup_cons]; exact h, fun x hx=>.inr ?_⟩
   simpa using hx
  ·rw [if_neg hk]
   refine ⟨?_, fun x hx=>?_⟩
   ·simp only [List.map_cons,List.nodup_cons]
    refine ⟨fun hx=>?_,h1⟩
    rcases h2 _ hx with e | e
    ·exact hk e.symm
    ·exact h.1 e
   ·simp only [List.map_cons,List.mem_cons] at hx ⊢
    rcases hx with e | e
    ·exact .inr (.inl e)
    ·rcases h2 _ e with e | e
     ·exact .inl e
     ·exact .inr (.inr e)
theorem zor {κ β:Type} [DecidableEq κ] (k x:κ):∀ m:List (κ × β),(m.map Prod.fst).Nodup→zch (znm m k) x=if x=k then none else zch m x
 | [],_=>by simp [znm,zch]
 | p::m,h=>by
  simp only [List.map_cons,List.nodup_cons] at h
  unfold znm
  by_cases hk:k=p.1
  ·rw [if_pos hk]
   by_cases hx:x=k
   ·rw [if_pos hx,zt5,hx,hk]; exact h.1
   ·rw [if_neg hx]
    show _=if x=p.1 then some p.2 else zch m x
    rw [if_neg (fun e=>hx (e.trans hk.symm))]
  ·rw [if_neg hk]
   show (if x=p.1 then some p.2 else zch (znm m k) x)=if x=k then none else if x=p.1 then some p.2 else zch m x
   rw [zor k x m h.2]
   by_cases hx:x=p.1
   ·rw [if_pos hx,if_pos hx,if_neg (fun e=>hk (e.symm.trans hx))]
   ·rw [if_neg hx,if_neg hx]
theorem zuw {κ β:Type} [DecidableEq κ] (k:κ):∀ m:List (κ × β),(m.map Prod.fst).Nodup→((znm m k).map Prod.fst).Nodup∧∀ x,x∈(znm m k).map Prod.fst→x∈m.map Prod.fst
 | [],_=>by simp [znm]
 | p::m,h=>by
  simp only [List.map_cons,List.nodup_cons] at h
  obtain ⟨h1,h2⟩:=zuw k m h.2
  unfold znm
  by_cases hk:k=p.1
  ·rw [if_pos hk]; exact ⟨h.2, fun x hx=>by simp only [List.map_cons,List.mem_cons]; exact .inr hx⟩
  ·rw [if_neg hk]
   refine ⟨?_, fun x hx=>?_⟩
   ·simp only [List.map_cons,List.nodup_cons]
    exact ⟨fun hx=>h.1 (h2 _ hx),h1⟩
   ·simp only [List.map_cons,List.mem_cons] at hx ⊢
    exact hx.imp id (h2 _)
def zr4 {α:Type} (cl:α→Option Bool) (a0:List α) (s2:Int):Option (Sum (Sum Int Unit) Int) :=
 if decide (s2<(a0.length:Int)) then
  idx a0 s2 >>= fun x4 =>
  cl x4 >>= fun r6 =>
  if r6 then
   some (.inl (.inl s2))
  else
   some (.inr (w64 (s2+1)))
 else
  some (.inl (.inr ()))
theorem zm6 {α:Type} (cl:α→Option Bool) (p:α→Bool) (l:List α) (hp:∀ x∈l,cl x=some (p x)) (hl:l.length≤9223372036854775806):∀ rest pre:List α,l=pre++rest →
  iter (zr4 cl l) (pre.length:Int)=some (match rest.findIdx? p with | some i=>.inl ((pre.length+i:Nat):Int) | none=>.inr ())
 | [],pre,e=>by
  subst e
  refine z1a ?_
  unfold zr4
  rw [if_neg (by simp)]; rfl
 | c::rest,pre,e=>by
  have hlen:pre.length<l.length:=by rw [e]; simp
  have hget:l[pre.length]'hlen=c:=by subst e; simp
  have hF:zr4 cl l (pre.length:Int)=if p c then some (.inl (.inl (pre.length:Int))) else some (.inr ((pre.length+1:Nat):Int)):=by
   unfold zr4
   rw [if_pos (by simpa using hlen),z0i hlen,hget]
   simp only [bS]
   rw [hp c (by rw [e]; simp),z0j (by omega)]
   simp only [bS]
  rw [List.findIdx?_cons]
  cases hc:p c with
  | true =>
   rw [hc,if_pos rfl] at hF
   rw [z1a hF]; simp
  | false =>
   rw [hc,if_neg (by simp)] at hF
   have ih:=zm6 cl p l hp hl rest (pre++[c]) (by simp [e])
   simp only [List.length_append,List.length_cons,List.length_nil,Nat.zero_add] at ih
   rw [z1s hF,ih]
   cases rest.findIdx? p with
   | none=>simp
   | some i=>simp; omega
theorem zsm {α:Type} (cl:α→Option Bool) (p:α→Bool) (l:List α) (hp:∀ x∈l,cl x=some (p x)) (hl:l.length≤9223372036854775806):iter (zr4 cl l) 0=some (match l.findIdx? p with | some i=>.inl (i:Int) | none=>.inr ()):=by
 have:=zm6 cl p l hp hl l [] rfl
 simpa using this
theorem zzx {α:Type} (p:α→Bool) (l:List α):(l.findIdx? p).isSome=l.any p:=by
 induction l with
 | nil=>rfl
 | cons a l ih =>
  rw [List.findIdx?_cons,List.any_cons]
  cases h:p a with
  | true=>rfl
  | false=>simp
def wfO (l:List z01):Prop:=∀ o∈l,inI o.Act.Value.Num∧o.Act.Value.Text.length≤9223372036854775807
def oid (o:z01):ID:=sha (z60 o)
def nmd (o:z01):z07:=⟨o,oid o⟩
def zlk:List z01→Int
 | []=>0
 | o::l=>if z13 o=0 then zlk l else z13 o
theorem zah:∀ l:List z01,zlk l=0↔∀ o∈l,z13 o=0
 | []=>by simp [zlk]
 | o::l=>by
  unfold zlk
  by_cases h:z13 o=0
  ·rw [if_pos h,zah l]; simp [h]
  ·rw [if_neg h]; simp [h]
theorem z11a (l:List z01) (hw:wfO l) (hl:l.length≤60):∀ rest pre:List z01,l=pre++rest→iter (z6t l) (pre.map nmd,(pre.length:Int))=some (if zlk rest=0 then .inr (l.map nmd) else .inl ([],zlk rest))
 | [],pre,e=>by
  subst e
  refine z1a ?_
  unfold z6t
  rw [if_neg (by simp)]
  simp [zlk]
 | o::rest,pre,e=>by
  have hlen:pre.length<l.length:=by rw [e]; simp
  have hget:l[pre.length]'hlen=o:=by subst e; simp
  obtain ⟨w1,w2⟩:=hw o (by rw [e]; simp)
  have hfb:zlk (o::rest)=if z13 o=0 then zlk rest else z13 o:=rfl
  have hF:z6t l (pre.map nmd,(pre.length:Int))=if z13 o=0 then some (.inr ((pre++[o]).map nmd,((pre.length+1:Nat):Int))) else some (.inl (.inl ([],z13 o))):=by
   unfold z6t
   rw [if_pos (by simpa using hlen)]
   simp only []
   rw [z0i hlen,hget]
   simp only [bS]
   rw [zmz o w1 w2]
   simp only [bS]
   by_cases h:z13 o=0
   ·rw [if_pos h,if_pos h,if_neg (by simp)]
    rw [zo4 _ (by have:=(z29 h).1; omega)]
    simp only [bS]
    rw [z0x (by simp only [List.length_map,List.length_cons,List.length_nil]; omega)]
    simp only [bS]
    rw [z0j (by omega),List.map_append]
    rfl
   ·rw [if_neg h,if_neg h,if_pos (by simpa using h)]
  by_cases h:z13 o=0
  ·rw [if_pos h] at hF
   have ih:=z11a l hw hl rest (pre++[o]) (by simp [e])
   simp only [List.length_append,List.length_cons,List.length_nil,Nat.zero_add] at ih
   rw [z1s hF,ih,hfb,if_pos h]
  ·rw [if_neg h] at hF
   rw [z1a hF,hfb,if_neg h,if_neg h]
def z6y (l:List z07):List ID:=l.map (·.id)
theorem z116 (S:List z07) (hS:S.length≤60):∀ (rest pre:List z07) (m:List (ID × Bool)),S=pre++rest→(m.map Prod.fst).Nodup→(z6y pre).Nodup→(∀ x,(zch m x).getD false=decide (x∈z6y pre)) →
  ∃ r,iter (z6s S) (m,(pre.length:Int))=some r∧((r=.inl ([],14)∧¬ (z6y S).Nodup)∨∃ m',r=.inr m'∧(z6y S).Nodup∧(m'.map Prod.fst).Nodup∧∀ x,(zch m' x).getD false=decide (x∈z6y S))
 | [],pre,m,e,hm,hn,hx=>by
  rw [List.append_nil] at e
  subst e
  refine ⟨.inr m,z1a ?_,.inr ⟨m,rfl,hn,hm,hx⟩⟩
  unfold z6s
  rw [if_neg (by simp)]
 | c::rest,pre,m,e,hm,hn,hx=>by
  have hlen:pre.length<S.length:=by rw [e]; simp
  have hget:S[pre.length]'hlen=c:=by subst e; simp
  have hF:z6s S (m,(pre.length:Int))=if decide (c.id∈z6y pre) then some (.inl (.inl ([],14))) else some (.inr (zji m c.id true,((pre.length+1:Nat):Int))):=by
   unfold z6s
   rw [if_pos (by simpa using hlen)]
   simp only []
   rw [z0i hlen,hget]
   simp only [bS]
   rw [hx,z0j (by omega)]
  by_cases hc:c.id∈z6y pre
  ·rw [decide_eq_true hc,if_pos rfl] at hF
   refine ⟨_,z1a hF,.inl ⟨rfl, fun hS=>?_⟩⟩
   rw [e] at hS
   unfold z6y at hS hc
   rw [List.map_append,List.map_cons,List.nodup_append] at hS
   exact hS.2.2 _ hc _ (by simp) rfl
  ·rw [decide_eq_false hc,if_neg (by simp)] at hF
   have hids:z6y (pre++[c])=z6y pre++[c.id]:=by simp [z6y]
   obtain ⟨r,h1,h2⟩:=z116 S hS rest (pre++[c]) (zji m c.id true) (by simp [e]) (zve _ _ m hm).1 (by
    rw [hids,List.nodup_append]
    refine ⟨hn, by simp, fun a ha b hb=>?_⟩
    simp only [List.mem_singleton] at hb
    subst hb
    exact fun e=>hc (e ▸ ha)) (fun x=>by
    rw [zh2,hids]
    by_cases hxc:x=c.id
    ·rw [if_pos hxc]; simp [hxc]
    ·rw [if_neg hxc,hx]; simp [hxc])
   simp only [List.length_append,List.length_cons,List.length_nil,Nat.zero_add] at h1
   exact ⟨r, by rw [z1s hF]; exact h1,h2⟩
def free (W:List ID) (x:z07):Bool:=x.o.Preds.all fun p=>!decide (p∈W)
def zad:Nat→List z07→List z07
 | 0,_=>[]
 | n+1,left=>match left.findIdx? (free (z6y left)) with
  | none=>[]
  | some i=>match left[i]? with
   | none=>[]
   | some x=>x::zad n (left.eraseIdx i)
theorem zx7 (x:z07) (hx:x.o.Preds.length≤4) (m:List (ID × Bool)) (W:List ID) (hm:∀ x,(zch m x).getD false=decide (x∈W)):z61 x m=some (free W x):=by
 have h:=zsm (fun y=>z5z y m) (fun y=>decide (y∈W)) x.o.Preds (fun y _=>by unfold z5z; simp only [bS]; rw [hm]) (by omega)
 unfold z61 z1t z1y
 have hE:z2l x.o.Preds m=zr4 (fun y=>z5z y m) x.o.Preds:=rfl
 rw [hE,h]
 have ha:=zzx (fun y=>decide (y∈W)) x.o.Preds
 have hfr:free W x=!(x.o.Preds.any fun y=>decide (y∈W)):=by unfold free; rw [List.all_eq_not_any_not]; simp
 rw [hfr,← ha]
 cases x.o.Preds.findIdx? fun y=>decide (y∈W) with
 | none=>rfl
 | some i=>simp only [or_l,bS]; simp
theorem zub (left:List z07) (hl:left.length≤60) (hp:∀ x∈left,x.o.Preds.length≤4) (m:List (ID × Bool)) (W:List ID) (hm:∀ x,(zch m x).getD false=decide (x∈W)) :
  z0z left m=some (match left.findIdx? (free W) with | some i=>(i:Int) | none=>-1):=by
 have h:=zsm (fun y=>z61 y m) (free W) left (fun y hy=>zx7 y (hp y hy) m W hm) (by omega)
 unfold z0z
 have hE:z24 left m=zr4 (fun y=>z61 y m) left:=rfl
 rw [hE,h]
 cases left.findIdx? (free W) with
 | none=>rfl
 | some i=>rfl
theorem zfv (l:List z07) (i:Nat):z6y (l.eraseIdx i)=(z6y l).eraseIdx i:=by
 unfold z6y
 rw [List.eraseIdx_eq_take_drop_succ,List.eraseIdx_eq_take_drop_succ,List.map_append,List.map_take,List.map_drop]
theorem zkt {l:List ID} (hn:l.Nodup) {i:Nat} (hi:i<l.length) (x:ID):x∈l.eraseIdx i↔x∈l∧x≠l[i]:=by
 rw [List.mem_eraseIdx_iff_getElem]
 constructor
 ·rintro ⟨j,hj,h1,h2⟩
  subst h2
  exact ⟨List.getElem_mem hj, fun e=>h1 (zf4 hn hj hi e)⟩
 ·rintro ⟨h1,h2⟩
  obtain ⟨j,hj,rfl⟩:=List.getElem_of_mem h1
  exact ⟨j,hj, fun e=>h2 (by subst e; rfl),rfl⟩
theorem z114:∀ (n:Nat) (left:List z07) (m:List (ID × Bool)) (out:List z07),left.length=n→out.length+n≤60→(∀ x∈left,x.o.Preds.length≤4)→(z6y left).Nodup→(m.map Prod.fst).Nodup→(∀ x,(zch m x).getD false=decide (x∈z6y left)) →
  iter z57 (left,m,out)=some (if (zad n left).length=n then .inr (out++zad n left) else .inl ([],36))
 | 0,left,m,out,hl,ho,hp,hn,hk,hm=>by
  refine z1a ?_
  unfold z57
  rw [if_neg (by simp [hl])]
  simp [zad]
 | n+1,left,m,out,hl,ho,hp,hn,hk,hm=>by
  have hf:=zub left (by omega) hp m _ hm
  cases hi:left.findIdx? (free (z6y left)) with
  | none =>
   rw [hi] at hf
   have hc:zad (n+1) left=[]:=by unfold zad; rw [hi]
   rw [hc,if_neg (by simp)]
   refine z1a ?_
   unfold z57
   rw [if_pos (by simp; omega)]
   simp only []
   rw [hf]
   rfl
  | some i =>
   rw [hi] at hf
   have hil:i<left.length:=by
    have:=List.findIdx?_eq_some_iff_findIdx_eq.1 hi
    exact this.1
   have hc:zad (n+1) left=left[i]::zad n (left.eraseIdx i):=by
    conv=>lhs; unfold zad
    rw [hi]
    simp only []
    rw [List.getElem?_eq_getElem hil]
   have hidl:i<(z6y left).length:=by simpa [z6y] using hil
   have hF:z57 (left,m,out)=some (.inr (left.eraseIdx i,znm m left[i].id,out++[left[i]])):=by
    unfold z57
    rw [if_pos (by simp; omega)]
    simp only []
    rw [hf]
    simp only [bS]
    rw [if_neg (by simp),z0i hil]
    simp only [bS]
    rw [z0x (by simp only [List.length_cons,List.length_nil]; omega)]
    simp only [bS]
    rw [z0j (by omega)]
    unfold delL
    rw [z2n ⟨⟨by omega, by omega⟩, by simp; omega, by omega⟩]
    simp only [bS,Int.toNat_natCast]
    rw [List.eraseIdx_eq_take_drop_succ]
   have hlen:(left.eraseIdx i).length=n:=by rw [List.length_eraseIdx_of_lt hil]; omega
   rw [z1s hF,z114 n (left.eraseIdx i) _ _ hlen (by simp; omega) (fun x hx=>hp x (List.mem_of_mem_eraseIdx hx)) (by rw [zfv]; exact hn.sublist (List.eraseIdx_sublist _ _)) (zuw _ m hk).1 (fun x=>by
    rw [zor _ _ m hk,zfv]
    have e:(z6y left)[i]=left[i].id:=by simp [z6y]
    by_cases hx:x=left[i].id
    ·rw [if_pos hx]
     symm
     simp only [Option.getD_none,decide_eq_false_iff_not]
     rw [zkt hn hidl,e]
     exact fun h=>h.2 hx
    ·rw [if_neg hx,hm]
     congr 1
     rw [zkt hn hidl,e]
     simp [hx]),hc]
   by_cases hq:(zad n (left.eraseIdx i)).length=n
   ·rw [if_pos hq,if_pos (by simp [hq]),List.append_assoc]; rfl
   ·rw [if_neg hq,if_neg (by simp [hq])]
def zfx (l:List z01):List z07:=zy7 zv6 cfN (l.map nmd)
theorem z7t (l:List z01):(zfx l).Perm (l.map nmd):=zo3 zv6 cfN swoN _
theorem zgf (l:List z01):(zfx l).Pairwise fun x y=>kd x.id≤kd y.id:=(zrk zv6 cfN swoN (l.map nmd)).imp fun {a b} h=>by
 have:=ltN b a
 unfold ltOf at this
 rw [decide_eq_false h] at this
 have:=(decide_eq_false_iff_not.1 this.symm)
 omega
theorem zna (l:List z01):(zfx l).length=l.length:=by rw [(z7t l).length_eq,List.length_map]
def zd0 (l:List z01):List z07 × Int :=
 if 60<l.length then ([],4) else if zlk l≠0 then ([],zlk l) else if ¬ (z6y (zfx l)).Nodup then ([],14) else if (zad l.length (zfx l)).length=l.length then (zad l.length (zfx l),0) else ([],36)
theorem ze5 (l:List z01) (hw:wfO l):z81 l=some (zd0 l):=by
 unfold z81 zd0
 by_cases h60:60<l.length
 ·rw [if_pos (by simp; omega),if_pos h60]
 ·rw [if_neg (by simp; omega),if_neg h60]
  have h0:=z11a l hw (by omega) l [] rfl
  simp only [List.map_nil,List.length_nil] at h0
  rw [show ((0:Nat):Int)=0 from rfl] at h0
  rw [h0]
  by_cases hb:zlk l=0
  ·rw [if_pos hb,if_neg (by simp [hb])]
   simp only [znp]
   have hs:zyi (l.map nmd)=some (zfx l):=by
    unfold zyi
    rw [z2n (by simp; omega)]
    rfl
   rw [hs]
   simp only [bS]
   have hlen:=zna l
   obtain ⟨r,h1,h2⟩:=z116 (zfx l) (by omega) (zfx l) [] [] rfl (by simp) (by simp [z6y]) (fun x=>by simp [zch,z6y])
   simp only [List.length_nil] at h1
   rw [show ((0:Nat):Int)=0 from rfl] at h1
   rw [h1]
   rcases h2 with ⟨rfl,h2⟩ | ⟨m,rfl,h2,h3,h4⟩
   ·rw [if_pos h2]; rfl
   ·rw [if_neg (fun h=>h h2)]
    simp only [znp]
    have hp:∀ x∈zfx l,x.o.Preds.length≤4:=fun x hx=>by
     obtain ⟨o,ho,rfl⟩:=List.mem_map.1 ((z7t l).mem_iff.1 hx)
     exact (z29 ((zah l).1 hb o ho)).1
    rw [z114 l.length (zfx l) m [] hlen (by simp; omega) hp h2 h3 h4]
    by_cases hq:(zad l.length (zfx l)).length=l.length
    ·rw [if_pos hq,if_pos hq]; rfl
    ·rw [if_neg hq,if_neg hq]; rfl
  ·rw [if_neg hb,if_pos hb]; rfl
end
section
open Go
theorem zs6 (l:List ID) (x:ID) (hl:l.length≤9223372036854775806):∀ (rest pre:List ID),l=pre++rest→iter (z2s l x) (pre.length:Int)=some (if x∈rest then .inl ((pre.length+rest.idxOf x:Nat):Int) else .inr ())
 | [],pre,e=>by
  refine z1a ?_
  subst e
  unfold z2s
  rw [if_neg (by simp)]
  simp
 | c::rest,pre,e=>by
  have hlen:pre.length<l.length:=by rw [e]; simp
  have hget:l[pre.length]'hlen=c:=by subst e; simp
  have hF:z2s l x (pre.length:Int)=if decide (c=x) then some (.inl (.inl (pre.length:Int))) else some (.inr ((pre.length+1:Nat):Int)):=by
   unfold z2s
   rw [if_pos (by simpa using hlen),z0i hlen,hget,z0j (by omega)]
   simp only [bS]
  by_cases hc:c=x
  ·rw [decide_eq_true hc,if_pos rfl] at hF
   rw [z1a hF,if_pos (by simp [hc])]
   simp [hc]
  ·rw [decide_eq_false hc,if_neg (by simp)] at hF
   have ih:=zs6 l x hl rest (pre++[c]) (by simp [e])
   simp only [List.length_append,List.length_cons,List.length_nil,Nat.zero_add] at ih
   rw [z1s hF,ih]
   by_cases hx:x∈rest
   ·have hi:(c::rest).idxOf x=rest.idxOf x+1:=by
     rw [List.idxOf_cons, show (c==x)=false by simpa using hc]; rfl
    rw [if_pos hx,if_pos (by simp [hx]),hi]
    congr 3; omega
   ·rw [if_neg hx,if_neg (by simp [hx]; exact fun e=>hc e.symm)]
theorem zww (l:List ID) (x:ID) (hl:l.length≤9223372036854775806):z4e l x=some (if x∈l then (l.idxOf x:Int) else -1):=by
 have h:=zs6 l x hl l [] rfl
 unfold z4e
 rw [show (0:Int)=(([]:List ID).length:Int) from rfl,h]
 by_cases hx:x∈l
 ·rw [if_pos hx,if_pos hx]; simp [or_l]
 ·rw [if_neg hx,if_neg hx]; rfl
theorem zj4 {F:Int→Option (Sum (Sum Bool Unit) Int)} (n:Nat) (q:Nat→Bool) (h1:∀ i,i<n→F (i:Int)=if q i then some (.inr ((i+1:Nat):Int)) else some (.inl (.inl false))) (h2:F (n:Int)=some (.inl (.inr ()))):iter F 0=some (if (List.range n).all q then .inr () else .inl false):=by
 have key:∀ k i,n - i=k→i≤n→iter F (i:Int)=some (if (List.range' i k).all q then .inr () else .inl false):=by
  intro k
  induction k with
  | zero =>
   intro i hk hi
   have:i=n:=by omega
   subst this
   rw [z1a h2]; rfl
  | succ k ih =>
   intro i hk hi
   have hF:=h1 i (by omega)
   rw [List.range'_succ,List.all_cons]
   cases hq:q i with
   | true =>
    rw [hq,if_pos rfl] at hF
    rw [z1s hF,ih (i+1) (by omega) (by omega),Bool.true_and]
   | false =>
    rw [hq,if_neg (by simp)] at hF
    rw [z1a hF]; simp
 have:=key n 0 (by omega) (by omega)
 rw [List.range_eq_range']; exact this
theorem zfr {α β:Type} {F:List β × Int→Option (Sum (List β) (List β × Int))} (l:List α) (g:α→List β) (s0:List β) (h1:∀ i (h:i<l.length),F (s0++(l.take i).flatMap g,(i:Int))=some (.inr (s0++(l.take i).flatMap g++g l[i],((i+1:Nat):Int)))) (h2:F (s0++l.flatMap g,(l.length:Int))=some (.inl (s0++l.flatMap g))):iter F (s0,0)=some (s0++l.flatMap g):=by
 have main:=z3f (F:=F) (b:=s0++l.flatMap g) l.length (fun i=>(s0++(l.take i).flatMap g,(i:Int))) (fun i hi=>by
  rw [h1 i hi]
  simp only [zpd hi,List.flatMap_append,List.flatMap_cons,List.flatMap_nil,List.append_nil,List.append_assoc]) (by simpa using h2)
 simpa using main
theorem zed {α β:Type} (f:α→β) (l:List α):(l.flatMap fun x=>[f x])=l.map f:=by
 induction l with
 | nil=>rfl
 | cons a l ih=>rw [List.flatMap_cons,ih]; rfl
theorem zs8 (l:List z01) (hw:wfO l) (hl:l.length≤1000) (hc:∀ o∈l,z13 o=0):z8j l=some (l.map oid):=by
 unfold z8j
 have:=zfr (F:=z7y l) l (fun o=>[oid o]) [] (fun i hi=>by
  have hm:=List.getElem_mem hi
  unfold z7y
  rw [if_pos (by simpa using hi)]
  simp only []
  rw [z0i hi]
  simp only [bS]
  rw [zsx _ (hc _ hm) (hw _ hm).1]
  simp only [bS]
  rw [z0x (by simp only [List.nil_append,zed,List.length_map,List.length_take,List.length_cons,List.length_nil]; omega)]
  simp only [bS]
  rw [z0j (by omega)]; rfl) (by
  unfold z7y
  rw [if_neg (by simp)])
 rw [this,zed]; rfl
theorem zrw (l:List z01) (hw:wfO l) (hl:l.length≤60):∀ rest pre:List z01,l=pre++rest→iter (z4m l) (pre.length:Int)=some (if zlk rest=0 then .inr () else .inl (zlk rest))
 | [],pre,e=>by
  subst e
  refine z1a ?_
  unfold z4m
  rw [if_neg (by simp)]
  simp [zlk]
 | o::rest,pre,e=>by
  have hlen:pre.length<l.length:=by rw [e]; simp
  have hget:l[pre.length]'hlen=o:=by subst e; simp
  obtain ⟨w1,w2⟩:=hw o (by rw [e]; simp)
  have hfb:zlk (o::rest)=if z13 o=0 then zlk rest else z13 o:=rfl
  have hF:z4m l (pre.length:Int)=if z13 o=0 then some (.inr ((pre.length+1:Nat):Int)) else some (.inl (.inl (z13 o))):=by
   unfold z4m
   rw [if_pos (by simpa using hlen),z0i hlen,hget]
   simp only [bS]
   rw [zjz o w2]
   simp only [bS]
   by_cases h:z13 o=0
   ·rw [if_pos h,if_neg (by simp [h]),z0j (by omega)]
   ·rw [if_neg h,if_pos (by simpa using h)]
  by_cases h:z13 o=0
  ·rw [if_pos h] at hF
   have ih:=zrw l hw hl rest (pre++[o]) (by simp [e])
   simp only [List.length_append,List.length_cons,List.length_nil,Nat.zero_add] at ih
   rw [z1s hF,ih,hfb,if_pos h]
  ·rw [if_neg h] at hF
   rw [z1a hF,hfb,if_neg h,if_neg h]
theorem zzr (names:List ID) (hl:names.length≤60):iter z3j (names,0)=some (if names.Nodup then .inr () else .inl 14):=by
 have key:∀ rest pre:List ID,names=pre++rest→pre.Nodup→iter z3j (names,(pre.length:Int))=some (if names.Nodup then .inr () else .inl 14)
  := by
  intro rest
  induction rest with
  | nil =>
   intro pre e hn
   rw [List.append_nil] at e
   subst e
   rw [if_pos hn]
   refine z1a ?_
   unfold z3j
   rw [if_neg (by simp)]
  | cons c rest ih =>
   intro pre e hn
   have hlen:pre.length<names.length:=by rw [e]; simp
   have hget:names[pre.length]'hlen=c:=by subst e; simp
   have hidx:(names.idxOf c:Int)<pre.length↔c∈pre:=by
    rw [e,List.idxOf_append]
    by_cases hc:c∈pre
    ·rw [if_pos hc]
     have:=List.idxOf_lt_length_of_mem hc
     constructor
     ·intro _; exact hc
     ·intro _; omega
    ·rw [if_neg hc]
     constructor
     ·intro h; omega
     ·intro h; exact absurd h hc
   have hF:z3j (names,(pre.length:Int))=if decide (c∈pre) then some (.inl (.inl 14)) else some (.inr (names,((pre.length+1:Nat):Int))):=by
    unfold z3j
    rw [if_pos (by simpa using hlen)]
    simp only []
    rw [z0i hlen,hget]
    simp only [bS]
    rw [zww names c (by omega),if_pos (by rw [e]; simp)]
    simp only [bS]
    rw [decide_eq_decide.2 hidx,z0j (by omega)]
   by_cases hc:c∈pre
   ·rw [decide_eq_true hc,if_pos rfl] at hF
    rw [z1a hF,if_neg]
    intro h
    rw [e,List.nodup_append] at h
    exact h.2.2 c hc c (by simp) rfl
   ·rw [decide_eq_false hc,if_neg (by simp)] at hF
    have:=ih (pre++[c]) (by simp [e]) (by
     rw [List.nodup_append]
     exact ⟨hn, by simp, fun a ha b hb=>by simp only [List.mem_singleton] at hb; subst hb; exact fun e=>hc (e ▸ ha)⟩)
    simp only [List.length_append,List.length_cons,List.length_nil,Nat.zero_add] at this
    rw [z1s hF,this]
 exact key names [] rfl (by simp)
def zO:z01:=⟨0,[],0,⟨0,[],⟨0,0,0,[]⟩⟩,⟨0,0⟩⟩
def opJ (l:List z01) (j:Nat):z01:=l.getD j zO
theorem zc3 {l:List z01} {j:Nat} (h:j<l.length):opJ l j=l[j]:=by unfold opJ; rw [List.getD_eq_getElem?_getD,List.getElem?_eq_getElem h]; rfl
def frK (l:List z01) (f:Nat→Bool) (k:Nat):Bool:=(List.range l.length).all fun i=>!(f i&&decide (oid (opJ l i)∈(opJ l k).Preds))
theorem zv7 (l:List z01) (hl:l.length≤60) (f:Nat→Bool) (o:z01) (ho:o.Preds.length≤4):zca o (l.map oid) (tab l.length f)=some ((List.range l.length).all fun i=>!(f i&&decide (oid (opJ l i)∈o.Preds))):=by
 unfold zca
 have h:=zj4 (F:=z79 o (l.map oid) (tab l.length f)) l.length (fun i=>!(f i&&decide (oid (opJ l i)∈o.Preds))) (fun i hi=>by
  unfold z79
  rw [if_pos (by simpa using hi),zba hi,z0i (by simpa using hi)]
  simp only [bS,List.getElem_map]
  rw [← zc3 hi]
  cases hf:f i with
  | false=>rw [if_neg (by simp),z0j (by omega)]; simp
  | true =>
   rw [if_pos rfl,zww _ _ (by omega)]
   simp only [bS]
   by_cases hm:oid (opJ l i)∈o.Preds
   ·rw [if_pos hm,if_pos (by simp),if_neg (by simp [hm])]
   ·rw [if_neg hm,if_neg (by simp),if_pos (by simp [hm]),z0j (by omega)]) (by
  unfold z79
  rw [if_neg (by simp)])
 rw [h]
 cases (List.range l.length).all fun i=>!(f i&&decide (oid (opJ l i)∈o.Preds)) with
 | true=>rfl
 | false=>rfl
def cnd (l:List z01) (f:Nat→Bool) (k:Nat):Bool:=f k&&frK l f k
def Bst (l:List z01) (f:Nat→Bool) (i:Nat) (b:Int):Prop :=
 (b = -1∧∀ k,k<i→cnd l f k=false)∨∃ j:Nat,b=(j:Int)∧j<i∧cnd l f j=true∧∀ k,k<i→cnd l f k=true→kd (oid (opJ l j))≤kd (oid (opJ l k))
theorem zw4 (l:List z01) (hl:l.length≤60) (hp:∀ o∈l,o.Preds.length≤4) (f:Nat→Bool) (out:List Int):∃ b,iter (z3n l (l.map oid) (tab l.length f,out)) (-1,0)=some b∧Bst l f l.length b:=by
 refine z7i (F:=z3n l (l.map oid) (tab l.length f,out)) l.length (fun i s=>s.2=(i:Int)∧Bst l f i s.1) (fun b=>Bst l f l.length b) (fun i s hi hs=>?_) (fun s hs=>?_) (-1,0) 0 (Nat.zero_le _) ⟨rfl,.inl ⟨rfl, fun k hk=>by omega⟩⟩
 ·obtain ⟨b,i'⟩:=s
  obtain ⟨h1,h2⟩:=hs
  simp only at h1 h2
  subst h1
  have hpi:(opJ l i).Preds.length≤4:=by rw [zc3 hi]; exact hp _ (List.getElem_mem hi)
  have hfr:=zv7 l hl f (opJ l i) hpi
  have hF:z3n l (l.map oid) (tab l.length f,out) (b,(i:Int))=if cnd l f i&&(decide (b<0) || decide (kd (oid (opJ l i))<kd (oid (opJ l b.toNat)))) then some (.inr ((i:Int),((i+1:Nat):Int))) else some (.inr (b,((i+1:Nat):Int))):=by
   unfold z3n
   rw [if_pos (by simpa using hi)]
   simp only []
   rw [zba hi]
   simp only [bS]
   cases hf:f i with
   | false =>
    rw [if_neg (by simp)]
    simp only [bS]
    rw [if_neg (by simp),if_neg (by simp [cnd,hf]),z0j (by omega)]
   | true =>
    rw [if_pos rfl,z0i hi]
    simp only [bS]
    rw [← zc3 hi,hfr]
    simp only [bS]
    have hc:cnd l f i=(List.range l.length).all fun i_1=>!(f i_1&&decide (oid (opJ l i_1)∈(opJ l i).Preds)):=by unfold cnd frK; rw [hf]; rfl
    rw [← hc]
    cases cnd l f i with
    | false =>
     rw [if_neg (by simp)]
     simp only [bS]
     rw [if_neg (by simp),if_neg (by simp),z0j (by omega)]
    | true =>
     rw [if_pos rfl]
     rcases h2 with ⟨rfl,h3⟩ | ⟨j,rfl,hj,h3,h4⟩
     ·rw [if_pos (by simp)]
      simp only [bS]
      rw [if_pos trivial,if_pos (by simp),z0j (by omega)]
     ·rw [if_neg (by simp),z0i (by simpa using hi),z0i (by simp; omega)]
      simp only [bS,List.getElem_map]
      rw [zwk]
      simp only [bS]
      rw [zme,← zc3 hi,← zc3 (by omega)]
      simp only [Int.toNat_natCast,Bool.true_and]
      rw [decide_eq_false (by omega:¬ ((j:Int)<0)),Bool.false_or,z0j (by omega)]
  refine ⟨_,hF.trans (by rw [← apply_ite some,← apply_ite Sum.inr]),?_⟩
  by_cases hc:cnd l f i=true
  ·rcases h2 with ⟨rfl,h3⟩ | ⟨j,rfl,hj,h3,h4⟩
   ·rw [hc,if_pos (by simp)]
    refine ⟨rfl,.inr ⟨i,rfl, by omega,hc, fun k hk hk2=>?_⟩⟩
    by_cases hki:k=i
    ·rw [hki]; exact Nat.le_refl _
    ·rw [h3 k (by omega)] at hk2; cases hk2
   ·by_cases hlt:kd (oid (opJ l i))<kd (oid (opJ l j))
    ·rw [hc,if_pos (by simp [hlt])]
     refine ⟨rfl,.inr ⟨i,rfl, by omega,hc, fun k hk hk2=>?_⟩⟩
     by_cases hki:k=i
     ·rw [hki]; exact Nat.le_refl _
     ·have:=h4 k (by omega) hk2; omega
    ·rw [hc,if_neg (by simp [hlt])]
     refine ⟨rfl,.inr ⟨j,rfl, by omega,h3, fun k hk hk2=>?_⟩⟩
     by_cases hki:k=i
     ·rw [hki]; omega
     ·exact h4 k (by omega) hk2
  ·rw [Bool.not_eq_true] at hc
   rw [hc,if_neg (by simp)]
   refine ⟨rfl,?_⟩
   rcases h2 with ⟨h2,h3⟩ | ⟨j,h2,hj,h3,h4⟩
   ·refine .inl ⟨h2, fun k hk=>?_⟩
    by_cases hki:k=i
    ·rw [hki]; exact hc
    ·exact h3 k (by omega)
   ·refine .inr ⟨j,h2, by omega,h3, fun k hk hk2=>?_⟩
    by_cases hki:k=i
    ·rw [hki,hc] at hk2; cases hk2
    ·exact h4 k (by omega) hk2
 ·obtain ⟨b,i'⟩:=s
  obtain ⟨h1,h2⟩:=hs
  simp only at h1 h2
  subst h1
  refine ⟨b,?_,h2⟩
  unfold z3n
  rw [if_neg (by simp)]
def nmJ (l:List z01) (j:Nat):z07:=nmd (opJ l j)
theorem ztc (n:Nat) (f:Nat→Bool) {j:Nat} (hj:j<n) (hf:f j=true):((List.range n).filter f).Perm (j::(List.range n).filter fun i=>f i&&!decide (i=j)):=by
 have hm:j∈(List.range n).filter f:=List.mem_filter.2 ⟨by simpa using hj,hf⟩
 have hn:((List.range n).filter f).Nodup:=List.Pairwise.filter _ List.nodup_range
 refine (List.perm_cons_erase hm).trans (List.Perm.cons _ (List.Perm.of_eq ?_))
 rw [hn.erase_eq_filter,List.filter_filter]
 apply List.filter_congr
 intro x _
 by_cases hx:x=j
 ·simp [hx]
 ·simp [hx]
theorem z176 {l:List z07} (hs:l.Pairwise fun x y=>kd x.id≤kd y.id) {p q:Nat} (hp:p<l.length) (hq:q<l.length) (h:p≤q):kd l[p].id≤kd l[q].id:=by
 by_cases e:p=q
 ·subst e; exact Nat.le_refl _
 ·exact List.pairwise_iff_getElem.1 hs p q hp hq (by omega)
theorem zlz {α:Type} (l:List α) (i:Nat) (hi:i<l.length):(l[i]::l.eraseIdx i).Perm l:=by
 rw [List.eraseIdx_eq_take_drop_succ]
 refine List.perm_middle.symm.trans (List.Perm.of_eq ?_)
 rw [← List.drop_eq_getElem_cons hi,List.take_append_drop]
theorem z11u (l:List z01) (hl:l.length≤60) (hp:∀ o∈l,o.Preds.length≤4) (hn:(l.map oid).Nodup):∀ (m:Nat) (f:Nat→Bool) (left:List z07) (out:List Nat),left.length=m→out.length+m≤60 →
  left.Perm (((List.range l.length).filter f).map (nmJ l))→left.Pairwise (fun x y=>kd x.id≤kd y.id) →
  ∃ js:List Nat,iter (z3k l (l.map oid)) (tab l.length f,il out)=some (il (out++js))∧(∀ j∈js,j<l.length)∧zad m left=js.map (nmJ l):=by
 intro m
 induction m with
 | zero =>
  intro f left out hlen ho hperm hs
  obtain ⟨b,hb,hB⟩:=zw4 l hl hp f (il out)
  have hno:∀ k,k<l.length→f k=false:=fun k hk=>by
   by_cases h:f k=true
   ·have:nmJ l k∈left:=hperm.mem_iff.2 (List.mem_map.2 ⟨k,List.mem_filter.2 ⟨by simpa using hk,h⟩,rfl⟩)
    rw [List.eq_nil_of_length_eq_zero hlen] at this; cases this
   ·simpa using h
  rcases hB with ⟨rfl,-⟩ | ⟨j,rfl,hj,h3,-⟩
  ·refine ⟨[],?_, by simp,rfl⟩
   rw [List.append_nil]
   refine z1a ?_
   unfold z3k
   rw [hb]
   simp only [bS]
   rw [if_pos (by simp)]
  ·unfold cnd at h3
   rw [hno j hj] at h3; cases h3
 | succ m ih =>
  intro f left out hlen ho hperm hs
  obtain ⟨b,hb,hB⟩:=zw4 l hl hp f (il out)
  have hmem:∀ x,x∈left↔∃ k,k<l.length∧f k=true∧x=nmJ l k:=fun x=>by
   rw [hperm.mem_iff,List.mem_map]
   constructor
   ·rintro ⟨k,hk,rfl⟩
    rw [List.mem_filter] at hk
    exact ⟨k, by simpa using hk.1,hk.2,rfl⟩
   ·rintro ⟨k,h1,h2,rfl⟩
    exact ⟨k,List.mem_filter.2 ⟨by simpa using h1,h2⟩,rfl⟩
  have hids:∀ y:ID,y∈z6y left↔∃ k,k<l.length∧f k=true∧y=oid (opJ l k):=fun y=>by
   unfold z6y
   rw [List.mem_map]
   constructor
   ·rintro ⟨x,hx,rfl⟩
    obtain ⟨k,h1,h2,rfl⟩:=(hmem x).1 hx
    exact ⟨k,h1,h2,rfl⟩
   ·rintro ⟨k,h1,h2,rfl⟩
    exact ⟨nmJ l k,(hmem _).2 ⟨k,h1,h2,rfl⟩,rfl⟩
  have hfree:∀ k,free (z6y left) (nmJ l k)=frK l f k:=fun k=>by
   unfold free frK
   rw [Bool.eq_iff_iff,List.all_eq_true,List.all_eq_true]
   constructor
   ·intro h i hi
    have hi:i<l.length:=by simpa using hi
    cases hf:f i with
    | false=>rfl
    | true =>
     by_cases hm2:oid (opJ l i)∈(opJ l k).Preds
     ·have:=h _ hm2
      rw [decide_eq_true ((hids _).2 ⟨i,hi,hf,rfl⟩)] at this; cases this
     ·simp [hm2]
   ·intro h y hy
    by_cases hin:y∈z6y left
    ·obtain ⟨i,h1,h2,rfl⟩:=(hids y).1 hin
     have:=h i (by simpa using h1)
     rw [h2,decide_eq_true (show oid (opJ l i)∈(opJ l k).Preds from hy)] at this; cases this
    ·simp [hin]
  rcases hB with ⟨rfl,hno⟩ | ⟨j,rfl,hj,hcj,hmin⟩
  ·refine ⟨[],?_, by simp,?_⟩
   ·rw [List.append_nil]
    refine z1a ?_
    unfold z3k
    rw [hb]
    simp only [bS]
    rw [if_pos (by simp)]
   ·have:left.findIdx? (free (z6y left))=none:=by
     rw [List.findIdx?_eq_none_iff]
     intro x hx
     obtain ⟨k,h1,h2,rfl⟩:=(hmem x).1 hx
     rw [hfree]
     have:=hno k h1
     unfold cnd at this
     rw [h2] at this; simpa using this
    unfold zad
    rw [this]; rfl
  ·have hfj:f j=true:=by unfold cnd at hcj; simp at hcj; exact hcj.1
   have hin:nmJ l j∈left:=(hmem _).2 ⟨j,hj,hfj,rfl⟩
   cases hi:left.findIdx? (free (z6y left)) with
   | none =>
    rw [List.findIdx?_eq_none_iff] at hi
    have h1:=hi _ hin
    rw [hfree] at h1
    unfold cnd at hcj
    rw [h1] at hcj; simp at hcj
   | some p =>
    obtain ⟨hpl,hpf,hpb⟩:=List.findIdx?_eq_some_iff_getElem.1 hi
    obtain ⟨k,hk1,hk2,hk3⟩:=(hmem _).1 (List.getElem_mem hpl)
    have hck:cnd l f k=true:=by unfold cnd; rw [hk2,← hfree,← hk3,hpf]; rfl
    have h5:=hmin k hk1 hck
    obtain ⟨q,hq,hqe⟩:=List.getElem_of_mem hin
    have hqp:p≤q:=by
     by_cases h:q<p
     ·have:=hpb q h
      rw [hqe,hfree] at this
      unfold cnd at hcj
      simp at hcj
      exact absurd hcj.2 this
     ·omega
    have h6:=z176 hs hpl hq hqp
    rw [hqe,hk3] at h6
    have hid:oid (opJ l k)=oid (opJ l j):=zio (Nat.le_antisymm h6 h5)
    have hkj:k=j:=by
     have e1:(l.map oid)[k]'(by simpa using hk1)=(l.map oid)[j]'(by simpa using hj):=by
      rw [List.getElem_map,List.getElem_map,← zc3 hk1,← zc3 hj]; exact hid
     exact zf4 hn (by simpa using hk1) (by simpa using hj) e1
    subst hkj
    have hF:z3k l (l.map oid) (tab l.length f,il out)=some (.inr (tab l.length (fun i=>f i&&!decide (i=k)),il (out++[k]))):=by
     unfold z3k
     rw [hb]
     simp only [bS]
     rw [if_neg (by simp),z0x (by simp only [zd5,List.length_cons,List.length_nil]; omega)]
     simp only [bS]
     rw [zba hj]
     simp only [bS,Int.toNat_natCast]
     rw [zi4 (g:=fun i=>f i&&!decide (i=k)) hj (by simp) (fun i hi hne=>by simp [hne]),zrp]
     rfl
    have hperm2:(left.eraseIdx p).Perm (((List.range l.length).filter fun i=>f i&&!decide (i=k)).map (nmJ l)):=by
     have h7:(left[p]'hpl::left.eraseIdx p).Perm (nmJ l k::((List.range l.length).filter fun i=>f i&&!decide (i=k)).map (nmJ l)) :=
      (zlz left p hpl).trans (hperm.trans ((ztc l.length f hj hfj).map (nmJ l)))
     rw [hk3] at h7
     exact List.Perm.cons_inv h7
    obtain ⟨js,h8,h9,h10⟩:=ih (fun i=>f i&&!decide (i=k)) (left.eraseIdx p) (out++[k]) (by rw [List.length_eraseIdx_of_lt hpl]; omega) (by simp; omega) hperm2 (hs.sublist (List.eraseIdx_sublist _ _))
    refine ⟨k::js,?_,?_,?_⟩
    ·rw [z1s hF,h8,List.append_assoc]; rfl
    ·intro x hx
     rcases List.mem_cons.1 hx with e | e
     ·rw [e]; exact hj
     ·exact h9 x e
    ·unfold zad
     rw [hi]
     simp only []
     rw [List.getElem?_eq_getElem hpl]
     simp only []
     rw [h10,hk3]; rfl
theorem zt2:∀ (n:Nat) (left:List z07),(zad n left).length≤n
 | 0,left=>by simp [zad]
 | n+1,left=>by
  unfold zad
  split
  ·simp
  ·split
   ·simp
   ·simp only [List.length_cons]
    have:=zt2 n
    exact Nat.succ_le_succ (this _)
theorem zcr (l:List z01):(z6y (zfx l)).Perm (l.map oid):=by
 have:=(z7t l).map (fun x:z07=>x.id)
 rw [List.map_map] at this
 exact this
theorem z13m (l:List z01):(List.range l.length).map (nmJ l)=l.map nmd:=by
 apply List.ext_getElem (by simp)
 intro i h1 h2
 have hi:i<l.length:=by simpa using h2
 simp [nmJ,zc3 hi]
theorem zvi (l:List z01) (hw:wfO l) (hl:l.length≤60) (hc:∀ o∈l,z13 o=0) (hn:(l.map oid).Nodup):∃ js:List Nat,zau l=some (il js)∧(∀ j∈js,j<l.length)∧zad l.length (zfx l)=js.map (nmJ l):=by
 have hp:∀ o∈l,o.Preds.length≤4:=fun o ho=>(z29 (hc o ho)).1
 have h0:iter (z4r l) (tab l.length (fun _=>false),0)=some (tab l.length fun _=>true):=by
  have:=z3f (F:=z4r l) (b:=tab l.length fun _=>true) l.length (fun i=>(tab l.length (fun k=>decide (k<i)),(i:Int))) (fun i hi=>by
   unfold z4r
   rw [if_pos (by simpa using hi)]
   simp only []
   rw [zba hi]
   simp only [bS,Int.toNat_natCast]
   rw [z0j (by omega),zi4 (g:=fun k=>decide (k<i+1)) hi (by simp) (fun j _ hne=>by simp; omega)]) (by
   unfold z4r
   rw [if_neg (by simp)]
   simp only []
   rw [zez (g:=fun _=>true) fun j hj=>by simp [hj]])
  simpa using this
 obtain ⟨js,h1,h2,h3⟩:=z11u l hl hp hn l.length (fun _=>true) (zfx l) [] (zna l) (by simp; omega) (by
  rw [List.filter_eq_self.2 (fun _ _=>rfl),z13m]; exact z7t l) (zgf l)
 refine ⟨js,?_,h2,h3⟩
 unfold zau
 rw [zs8 l hw (by omega) hc]
 simp only [bS]
 rw [zcw (by omega) (by omega)]
 simp only [bS]
 rw [zhk,h0]
 simp only [bS]
 exact h1
theorem zu4 (l:List z01) (hw:wfO l):zat l=some (zd0 l).2:=by
 unfold zat zd0
 by_cases h60:60<l.length
 ·rw [if_pos (by simp; omega),if_pos h60]
 ·rw [if_neg (by simp; omega),if_neg h60]
  have h0:=zrw l hw (by omega) l [] rfl
  rw [show ((([]:List z01).length:Nat):Int)=0 from rfl] at h0
  rw [h0]
  by_cases hb:zlk l=0
  ·rw [if_pos hb,if_neg (by simp [hb])]
   simp only [znp]
   have hc:=(zah l).1 hb
   rw [zs8 l hw (by omega) hc]
   simp only [bS]
   rw [zzr _ (by simp; omega)]
   have hnn:(z6y (zfx l)).Nodup↔(l.map oid).Nodup:=(zcr l).nodup_iff
   by_cases hn:(l.map oid).Nodup
   ·rw [if_pos hn,if_neg (fun h=>h (hnn.2 hn))]
    simp only [znp]
    obtain ⟨js,h1,h2,h3⟩:=zvi l hw (by omega) hc hn
    rw [h1,h3]
    simp only [bS,zd5,List.length_map]
    have hle:js.length≤l.length:=by
     have:(zad l.length (zfx l)).length≤l.length:=zt2 _ _
     rw [h3,List.length_map] at this; exact this
    by_cases hq:js.length=l.length
    ·rw [if_neg (by simp; omega),if_pos hq]
    ·rw [if_pos (by simp; omega),if_neg hq]
   ·rw [if_neg hn,if_pos (fun h=>hn (hnn.1 h))]; rfl
  ·rw [if_neg hb,if_pos hb]; rfl
end
section
open Go
theorem zq5 {α:Type} [DecidableEq α] (a b:List α) (hl:a.length=b.length):(List.range a.length).all (fun i=>decide (a[i]? = b[i]?))=decide (a=b):=by
 rw [Bool.eq_iff_iff,List.all_eq_true,decide_eq_true_iff]
 constructor
 ·intro h
  apply List.ext_getElem?
  intro i
  by_cases hi:i<a.length
  ·simpa using h i (by simpa using hi)
  ·rw [List.getElem?_eq_none (by omega),List.getElem?_eq_none (by omega)]
 ·rintro rfl i _
  simp
theorem zr9 (b:Bool):z59 (some (if b then Sum.inr () else Sum.inl false)) (fun _=>some true)=some b:=by cases b <;> rfl
theorem zzl (a b:List UInt8) (hb:a.length≤9223372036854775806):z5v a b=some (decide (a=b)):=by
 unfold z5v
 by_cases hl:a.length=b.length
 ·rw [if_neg (by simp [hl]),zj4 a.length (fun i=>decide (a[i]? = b[i]?)) (fun i hi=>by
   unfold z6f
   rw [if_pos (by simpa using hi),z0i hi,z0i (by omega),List.getElem?_eq_getElem hi,List.getElem?_eq_getElem (by omega),z0j (by omega)]
   simp only [bS]
   by_cases h:a[i]=b[i] <;> simp [h]) (by unfold z6f; rw [if_neg (by simp)]),zq5 a b hl]
  exact zr9 _
 ·rw [if_pos (by simp; omega),decide_eq_false (fun e=>hl (by rw [e]))]
theorem zlv (a b:List ID) (hb:a.length≤9223372036854775806):z5e a b=some (decide (a=b)):=by
 unfold z5e
 by_cases hl:a.length=b.length
 ·rw [if_neg (by simp [hl]),zj4 a.length (fun i=>decide (a[i]? = b[i]?)) (fun i hi=>by
   unfold z7r
   rw [if_pos (by simpa using hi),z0i hi,z0i (by omega),List.getElem?_eq_getElem hi,List.getElem?_eq_getElem (by omega),z0j (by omega)]
   simp only [bS]
   by_cases h:a[i]=b[i] <;> simp [h]) (by unfold z7r; rw [if_neg (by simp)]),zq5 a b hl]
  exact zr9 _
 ·rw [if_pos (by simp; omega),decide_eq_false (fun e=>hl (by rw [e]))]
theorem z12x {a b:z01} (h1:a.Author=b.Author) (h2:a.Preds=b.Preds) (h3:a.Stamp=b.Stamp) (h4:a.Act=b.Act) (h5:a.Sig=b.Sig):a=b:=by
 cases a; cases b; simp only at h1 h2 h3 h4 h5; subst h1 h2 h3 h4 h5; rfl
theorem zv5 (a b:z01) (h:a.Preds.length≤9223372036854775806):z9j a b=some (decide (a=b)):=by
 unfold z9j
 by_cases h1:a.Author=b.Author
 ·rw [if_pos (by simp [h1]),zlv _ _ h]
  simp only [bS]
  by_cases h2:a.Preds=b.Preds
  ·rw [if_pos (by simp [h2])]
   by_cases h3:a.Stamp=b.Stamp
   ·rw [if_pos (by simp [h3])]
    by_cases h4:a.Act=b.Act
    ·rw [if_pos (by simp [h4])]
     by_cases h5:a.Sig=b.Sig
     ·rw [decide_eq_true h5,decide_eq_true (z12x h1 h2 h3 h4 h5)]
     ·rw [decide_eq_false h5,decide_eq_false (fun e=>h5 (by rw [e]))]
    ·rw [if_neg (by simp [h4]),decide_eq_false (fun e=>h4 (by rw [e]))]
   ·rw [if_neg (by simp [h3]),decide_eq_false (fun e=>h3 (by rw [e]))]
  ·rw [if_neg (by simp [h2]),decide_eq_false (fun e=>h2 (by rw [e]))]
 ·rw [if_neg (by simp [h1]),decide_eq_false (fun e=>h1 (by rw [e]))]
theorem zlp (a b:List z01) (hb:a.length≤9223372036854775806) (hp:∀ o∈a,o.Preds.length≤9223372036854775806):z38 a b=some (decide (a=b)):=by
 unfold z38
 by_cases hl:a.length=b.length
 ·rw [if_neg (by simp [hl]),zj4 a.length (fun i=>decide (a[i]? = b[i]?)) (fun i hi=>by
   unfold z7k
   rw [if_pos (by simpa using hi),z0i hi,z0i (by omega),List.getElem?_eq_getElem hi,List.getElem?_eq_getElem (by omega),z0j (by omega)]
   simp only [bS]
   rw [zv5 _ _ (hp _ (List.getElem_mem hi))]
   simp only [bS]
   by_cases h:a[i]=b[i] <;> simp [h]) (by unfold z7k; rw [if_neg (by simp)]),zq5 a b hl]
  exact zr9 _
 ·rw [if_pos (by simp; omega),decide_eq_false (fun e=>hl (by rw [e]))]
theorem zmi (m:List z07) (hl:m.length≤1000):z9g m=some (m.map (·.o)):=by
 unfold z9g
 have:=zfr (F:=z75 m) m (fun x=>[x.o]) [] (fun i hi=>by
  unfold z75
  rw [if_pos (by simpa using hi)]
  simp only []
  rw [z0i hi]
  simp only [bS]
  rw [z0x (by simp only [List.nil_append,zed,List.length_map,List.length_take,List.length_cons,List.length_nil]; omega)]
  simp only [bS]
  rw [z0j (by omega)]) (by
  unfold z75
  rw [if_neg (by simp)])
 rw [this,zed]; rfl
def z68 (l:List z01):List z07:=zad l.length (zfx l)
theorem zgv:∀ (n:Nat) (left:List z07),∀ x∈zad n left,x∈left
 | 0,left,x,hx=>by simp [zad] at hx
 | n+1,left,x,hx=>by
  unfold zad at hx
  split at hx
  ·simp at hx
  ·rename_i i hi
   split at hx
   ·simp at hx
   ·rename_i y hy
    rcases List.mem_cons.1 hx with e | e
    ·rw [e]; exact List.mem_of_getElem? hy
    ·exact List.mem_of_mem_eraseIdx (zgv n _ x e)
theorem zt9 (l:List z01):∀ x∈z68 l,∃ o∈l,x=nmd o:=fun x hx=>by
 obtain ⟨o,h1,h2⟩:=List.mem_map.1 ((z7t l).mem_iff.1 (zgv _ _ x hx))
 exact ⟨o,h1,h2.symm⟩
theorem zon:∀ (n:Nat) (left:List z07) (k:Nat) (h:k<(zad n left).length),∀ p∈((zad n left)[k]).o.Preds,p∉z6y ((zad n left).drop k)
 | 0,left,k,h=>by simp [zad] at h
 | n+1,left,k,h=>by
  cases hi:left.findIdx? (free (z6y left)) with
  | none =>
   have hc:zad (n+1) left=[]:=by unfold zad; rw [hi]
   rw [hc] at h; simp at h
  | some i =>
   obtain ⟨hil,hfr,-⟩:=List.findIdx?_eq_some_iff_getElem.1 hi
   have hc:zad (n+1) left=left[i]'hil::zad n (left.eraseIdx i):=by
    conv=>lhs; unfold zad
    rw [hi]
    simp only []
    rw [List.getElem?_eq_getElem hil]
   simp only [hc] at h ⊢
   cases k with
   | zero =>
    intro p hp hin
    simp only [List.getElem_cons_zero,List.drop_zero] at hp hin
    unfold free at hfr
    rw [List.all_eq_true] at hfr
    have h1:=hfr p hp
    have:p∈z6y left:=by
     unfold z6y at hin ⊢
     obtain ⟨x,hx,e⟩:=List.mem_map.1 hin
     refine List.mem_map.2 ⟨x,?_,e⟩
     rcases List.mem_cons.1 hx with e | e
     ·rw [e]; exact List.getElem_mem hil
     ·exact List.mem_of_mem_eraseIdx (zgv n _ x e)
    rw [decide_eq_true this] at h1; cases h1
   | succ k =>
    simp only [List.getElem_cons_succ,List.drop_succ_cons]
    exact zon n _ k (by simpa using h)
theorem zmd:∀ (n:Nat) (left:List z07),(z6y left).Nodup→(z6y (zad n left)).Nodup
 | 0,left,h=>by simp [zad,z6y]
 | n+1,left,h=>by
  cases hi:left.findIdx? (free (z6y left)) with
  | none =>
   have hc:zad (n+1) left=[]:=by unfold zad; rw [hi]
   rw [hc]; simp [z6y]
  | some i =>
   obtain ⟨hil,hfr,-⟩:=List.findIdx?_eq_some_iff_getElem.1 hi
   have hc:zad (n+1) left=left[i]'hil::zad n (left.eraseIdx i):=by
    conv=>lhs; unfold zad
    rw [hi]
    simp only []
    rw [List.getElem?_eq_getElem hil]
   rw [hc]
   have hidl:i<(z6y left).length:=by simpa [z6y] using hil
   have he:(z6y (left.eraseIdx i)).Nodup:=by rw [zfv]; exact h.sublist (List.eraseIdx_sublist _ _)
   show ((left[i]'hil).id::z6y (zad n (left.eraseIdx i))).Nodup
   rw [List.nodup_cons]
   refine ⟨fun hin=>?_,zmd n _ he⟩
   obtain ⟨x,hx,e⟩:=List.mem_map.1 hin
   have hx2:x.id∈z6y (left.eraseIdx i):=List.mem_map.2 ⟨x,zgv n _ x hx,rfl⟩
   rw [zfv,zkt h hidl] at hx2
   exact hx2.2 (by rw [e]; simp [z6y])
def zu7 (m:List z01):Prop:=∀ k (h:k<m.length),∀ p∈m[k].Preds,p∉(m.map oid).drop k
theorem zkx (l:List z01):zu7 ((z68 l).map (·.o)):=fun k hk p hp=>by
 have hk':k<(z68 l).length:=by simpa using hk
 have h:=zon l.length (zfx l) k hk' p (by simp only [List.getElem_map] at hp; exact hp)
 have e:(((z68 l).map (·.o)).map oid)=z6y (z68 l):=by
  unfold z6y
  rw [List.map_map]
  apply List.map_congr_left
  intro x hx
  obtain ⟨o,-,rfl⟩:=zt9 l x hx
  rfl
 rw [e]
 unfold z6y at h ⊢
 rw [← List.map_drop]; exact h
theorem zmq {m:List z01} (hT:zu7 m) {k:Nat} (hk:k<m.length) {p:ID} (hp:p∈m[k].Preds):p∈m.map oid↔p∈(m.map oid).take k:=by
 constructor
 ·intro h
  rw [← List.take_append_drop k (m.map oid)] at h
  rcases List.mem_append.1 h with h | h
  ·exact h
  ·exact absurd h (hT k hk p hp)
 ·exact fun h=>List.mem_of_mem_take h
theorem zm0 {l:List ID} {k:Nat} {p:ID} (h:p∈l.take k):l.idxOf p=(l.take k).idxOf p∧(l.take k).idxOf p<k:=by
 have h1:=List.idxOf_lt_length_of_mem h
 have h2:(l.take k).length≤k:=by rw [List.length_take]; omega
 refine ⟨?_, by omega⟩
 conv=>lhs; rw [← List.take_append_drop k l]
 rw [List.idxOf_append,if_pos h]
def nop (o:z01):z01:=⟨o.Author,[],o.Stamp,o.Act,o.Sig⟩
theorem zfq {o:z01} (h:z13 o=0):z13 (nop o)=0:=by
 obtain ⟨-,-,h3⟩:=z29 h
 unfold z13
 rw [if_neg (by simp [nop]),if_neg (by simp [nop,z74]), show z92 (nop o)=z92 o from rfl,if_pos h3]
def z7q (names:List ID) (i:Nat) (p:ID):List UInt8:=if p∈names then z0c (i - names.idxOf p) else 0::p.toList
def opB (names:List ID) (i:Nat) (o:z01):List UInt8:=(z0c (z60 (nop o)).length++z60 (nop o))++z0c o.Preds.length++o.Preds.flatMap (z7q names i)
def zq2 (m:List z01) (i:Nat):List UInt8:=112::z0c m.length++(List.range i).flatMap fun k=>opB (m.map oid) k (opJ m k)
def zd8 (m:List z01):List UInt8:=zq2 m m.length
theorem zh0 (names:List ID) (i:Nat) (p:ID) (hi:i≤1000):(z7q names i p).length≤33:=by
 unfold z7q
 split
 ·have:=z0m (i - names.idxOf p) (by omega); omega
 ·simp
theorem zdd {α:Type} (f:α→List UInt8) (c:Nat):∀ l:List α,(∀ x∈l,(f x).length≤c)→(l.flatMap f).length≤c * l.length
 | [],_=>by simp
 | x::l,h=>by
  rw [List.flatMap_cons,List.length_append,List.length_cons,Nat.mul_add]
  have h1:=h x (by simp)
  have h2:=zdd f c l (fun y hy=>h y (by simp [hy]))
  omega
theorem zxj {o:z01} (h:z13 o=0) (hI:inI o.Act.Value.Num) (names:List ID) (i:Nat) (hi:i≤1000):(opB names i o).length≤600:=by
 have h1:=zge (zfq h) hI
 have h2:=z0m (z60 (nop o)).length (by omega)
 have h3:=(z29 h).1
 have h4:=z0m o.Preds.length (by omega)
 have h5:=zdd (z7q names i) 33 o.Preds (fun x _=>zh0 names i x hi)
 unfold opB
 simp only [List.length_append]
 omega
theorem zzj {m:List z01} (hw:wfO m) (hl:m.length≤60) (hc:∀ o∈m,z13 o=0) {i:Nat} (hi:i≤m.length):(zq2 m i).length≤10+600 * i:=by
 have h1:=z0m m.length (by omega)
 have h2:=zdd (fun k=>opB (m.map oid) k (opJ m k)) 600 (List.range i) (fun k hk=>by
  have hk:k<i:=by simpa using hk
  rw [zc3 (by omega)]
  have hm:=List.getElem_mem (show k<m.length by omega)
  exact zxj (hc _ hm) (hw _ hm).1 _ _ (by omega))
 rw [List.length_range] at h2
 unfold zq2
 simp only [List.length_append,List.length_cons]
 omega
theorem zx0 (m:List z01) {i:Nat} (hi:i<m.length):zq2 m (i+1)=zq2 m i++opB (m.map oid) i m[i]:=by
 unfold zq2
 rw [List.range_succ,List.flatMap_append,List.flatMap_cons,List.flatMap_nil,List.append_nil,zc3 hi,List.append_assoc]
theorem z130 {i j:Nat} (h:j≤i) (hi:i≤1000):(UInt64.ofInt (w64 ((i:Int) - (j:Int)))).toNat=i - j:=by
 rw [z0v (by omega) (by omega), show (i:Int) - (j:Int)=((i - j:Nat):Int) by omega,zc6 (by omega)]
theorem zzs (m:List (ID × Int)) (W:List ID) (h:∀ x,zch m x=if x∈W then some (W.idxOf x:Int) else none) (y:ID) (hy:y∉W):∀ x,zch (zji m y (W.length:Int)) x=if x∈W++[y] then some ((W++[y]).idxOf x:Int) else none:=fun x=>by
 rw [zh2]
 by_cases hx:x=y
 ·rw [if_pos hx,if_pos (by simp [hx]),hx,List.idxOf_append,if_neg hy]; simp
 ·rw [if_neg hx,h,List.idxOf_append]
  by_cases hxW:x∈W
  ·rw [if_pos hxW,if_pos (by simp [hxW]),if_pos hxW]
  ·rw [if_neg hxW,if_neg (by simp [hxW,hx])]
theorem zhg (l:List z01) (hw:wfO l):z2q l=some (if (zd0 l).2=0 then zd8 ((zd0 l).1.map (·.o)) else [],(zd0 l).2):=by
 unfold z2q
 rw [ze5 l hw]
 simp only [bS]
 by_cases h0:(zd0 l).2=0
 ·have hA:zd0 l=(z68 l,0)∧l.length≤60∧(∀ o∈l,z13 o=0)∧(l.map oid).Nodup∧(z68 l).length=l.length:=by
   unfold zd0 at h0 ⊢
   split at h0
   ·cases h0
   ·rename_i h1
    split at h0
    ·rename_i h2; exact absurd h0 h2
    ·rename_i h2
     split at h0
     ·cases h0
     ·rename_i h3
      split at h0
      ·rename_i h4
       refine ⟨?_, by omega,(zah l).1 (by simpa using h2),?_,h4⟩
       ·rw [if_neg h1,if_neg h2,if_neg h3,if_pos h4]; rfl
       ·exact (zcr l).nodup_iff.1 (Classical.not_not.1 h3)
      ·cases h0
  obtain ⟨e,hl,hc,hn,hcl⟩:=hA
  rw [e]
  simp only [if_true]
  rw [if_neg (by simp),z3p,zc6 (by omega)]
  simp only [bS]
  have hm:∀ x∈z68 l,z13 x.o=0∧(inI x.o.Act.Value.Num∧x.o.Act.Value.Text.length≤9223372036854775807)∧x.id=oid x.o:=fun x hx=>by
   obtain ⟨o,ho,rfl⟩:=zt9 l x hx
   exact ⟨hc o ho,hw o ho,rfl⟩
  generalize hM:(z68 l).map (·.o)=M
  have hMl:M.length=(z68 l).length:=by rw [← hM,List.length_map]
  have hMi:M.map oid=z6y (z68 l):=by
   rw [← hM,List.map_map]
   unfold z6y
   exact List.map_congr_left fun x hx=>((hm x hx).2.2).symm
  have hMg:∀ i (h:i<(z68 l).length),M[i]'(by omega)=(z68 l)[i].o:=fun i h=>by simp [← hM]
  have hMc:∀ o∈M,z13 o=0:=fun o ho=>by
   rw [← hM] at ho
   obtain ⟨x,hx,rfl⟩:=List.mem_map.1 ho
   exact (hm x hx).1
  have hMw:wfO M:=fun o ho=>by
   rw [← hM] at ho
   obtain ⟨x,hx,rfl⟩:=List.mem_map.1 ho
   exact (hm x hx).2.1
  have hMn:(M.map oid).Nodup:=by
   rw [hMi]
   have h1:∀ x∈z68 l,x∈zfx l:=zgv _ _
   exact zmd l.length (zfx l) ((zcr l).nodup_iff.2 hn)
  have hT:zu7 M:=by rw [← hM]; exact zkx l
  have hnm:=z0m M.length (by omega)
  rw [← hMl,z0x (by simp only [List.length_cons,List.length_nil]; omega)]
  simp only [bS]
  have main:=z7i (F:=zbm (z68 l,0)) M.length (fun i s=>s.1=zq2 M i∧s.2.2=(i:Int)∧∀ x,zch s.2.1 x=if x∈(M.map oid).take i then some (((M.map oid).take i).idxOf x:Int) else none) (fun b=>b=.inr (zd8 M)) (fun i s hi hs=>by
   obtain ⟨s1,s2,s3⟩:=s
   obtain ⟨h1,h2,h3⟩:=hs
   simp only at h1 h2 h3
   subst h1 h2
   have hic:i<(z68 l).length:=by omega
   have hx:=hMg i hic
   have hmm:=List.getElem_mem hi
   have hci:=hMc _ hmm
   have hwi:=hMw _ hmm
   have hpl:=zzj hMw (by omega) hMc (Nat.le_of_lt hi)
   have hel:=zge (zfq hci) hwi.1
   have h4:=(z29 hci).1
   have hnl:=z0m (z60 (nop M[i])).length (by omega)
   have hnp:=z0m M[i].Preds.length (by omega)
   have hidx:(z68 l)[i].id=(M.map oid)[i]'(by simpa using hi):=by
    rw [List.getElem_map,hx]; exact (hm _ (List.getElem_mem hic)).2.2
   have inner:=zfr (F:=zbo (zq2 M i,s2,(i:Int)) (z68 l)[i]) M[i].Preds (z7q (M.map oid) i) (zq2 M i++(z0c (z60 (nop M[i])).length++z60 (nop M[i]))++z0c M[i].Preds.length) (fun j hj=>by
    have hfl:=zdd (z7q (M.map oid) i) 33 (M[i].Preds.take j) (fun x _=>zh0 _ _ _ (by omega))
    have htl:(M[i].Preds.take j).length≤4:=by rw [List.length_take]; omega
    unfold zbo
    simp only []
    rw [← hx,if_pos (by simpa using hj),z0i hj]
    simp only [bS]
    rw [h3]
    by_cases hin:M[i].Preds[j]∈M.map oid
    ·have ht:=(zmq hT hi (List.getElem_mem hj)).1 hin
     obtain ⟨e1,e2⟩:=zm0 ht
     rw [if_pos ht,if_pos (by simp)]
     simp only [Option.getD_some]
     rw [z3p,z130 (by omega) (by omega)]
     simp only [bS]
     have hnl2:=z0m (i - ((M.map oid).take i).idxOf M[i].Preds[j]) (by omega)
     rw [z0x (by simp only [List.length_append]; omega)]
     simp only [bS]
     rw [z0j (by omega), show z7q (M.map oid) i M[i].Preds[j]=z0c (i - ((M.map oid).take i).idxOf M[i].Preds[j]) by unfold z7q; rw [if_pos hin,e1]]
    ·rw [if_neg (fun h=>hin ((zmq hT hi (List.getElem_mem hj)).2 h)),if_neg (by simp)]
     rw [z0x (by simp only [List.length_append,List.length_cons,List.length_nil]; omega)]
     simp only [bS]
     rw [z0x (by simp only [List.length_append,List.length_cons,List.length_nil,Vector.length_toList]; omega)]
     simp only [bS]
     rw [z0j (by omega), show z7q (M.map oid) i M[i].Preds[j]=0::M[i].Preds[j].toList by unfold z7q; rw [if_neg hin]]
     simp) (by
    unfold zbo
    simp only []
    rw [← hx,if_neg (by simp)])
   refine ⟨(zq2 M (i+1),zji s2 (z68 l)[i].id (i:Int),((i+1:Nat):Int)),?_,rfl,rfl, fun x=>?_⟩
   ·unfold zbm
    rw [if_pos (by simp; omega)]
    simp only []
    rw [z0i hic]
    simp only [bS]
    rw [← hx, show (⟨M[i].Author,[],M[i].Stamp,M[i].Act,M[i].Sig⟩:z01)=nop M[i] from rfl,zpy _ (zfq hci) hwi.1 hwi.2]
    simp only [bS]
    rw [if_neg (by simp),zk3 _ (by omega)]
    simp only [bS]
    rw [if_neg (by simp),z0x (by simp only [List.length_append]; omega)]
    simp only [bS]
    rw [z3p,zc6 (by omega)]
    simp only [bS]
    rw [z0x (by simp only [List.length_append]; omega)]
    simp only [bS]
    rw [inner]
    simp only [bS]
    rw [z0j (by omega),zx0 M hi]
    unfold opB
    simp only [List.append_assoc]
   ·have hni:(M.map oid)[i]'(by simpa using hi)∉(M.map oid).take i:=fun h=>by
     obtain ⟨q,hq,e⟩:=List.getElem_of_mem h
     rw [List.length_take] at hq
     rw [List.getElem_take] at e
     have:=zf4 hMn (by omega) (by simpa using hi) e
     omega
    have hlen:((M.map oid).take i).length=i:=by rw [List.length_take,List.length_map]; omega
    have:=zzs s2 _ h3 _ hni x
    rw [hlen] at this
    rw [hidx,this,zpd (by simpa using hi)]) (fun s hs=>by
   obtain ⟨s1,s2,s3⟩:=s
   obtain ⟨h1,h2,h3⟩:=hs
   simp only at h1 h2 h3
   subst h1 h2
   refine ⟨_,?_,rfl⟩
   unfold zbm
   rw [if_neg (by simp; omega)]
   rfl) ([112]++z0c M.length,[],0) 0 (Nat.zero_le _) ⟨by unfold zq2; simp,rfl, fun x=>by simp [zch]⟩
  obtain ⟨b,hb,rfl⟩:=main
  rw [hb]
  rfl
 ·rw [if_neg h0,if_pos (by simpa using h0)]
end
section
open Go
theorem z7g {l:List z01} (h0:(zd0 l).2=0):zd0 l=(z68 l,0)∧l.length≤60∧(∀ o∈l,z13 o=0)∧(l.map oid).Nodup∧(z68 l).length=l.length:=by
 unfold zd0 at h0 ⊢
 split at h0
 ·cases h0
 ·rename_i h1
  split at h0
  ·rename_i h2; exact absurd h0 h2
  ·rename_i h2
   split at h0
   ·cases h0
   ·rename_i h3
    split at h0
    ·rename_i h4
     refine ⟨?_, by omega,(zah l).1 (by simpa using h2),?_,h4⟩
     ·rw [if_neg h1,if_neg h2,if_neg h3,if_pos h4]; rfl
     ·exact (zcr l).nodup_iff.1 (Classical.not_not.1 h3)
    ·cases h0
theorem zq9 (l:List z01) (hw:wfO l):z9a l=some (if (zd0 l).2=0 then (z68 l).map (·.o) else [],(zd0 l).2):=by
 unfold z9a
 rw [ze5 l hw]
 simp only [bS]
 by_cases h0:(zd0 l).2=0
 ·obtain ⟨e,hl,hc,hn,hcl⟩:=z7g h0
  rw [e]
  simp only [if_true]
  rw [if_neg (by simp),zmi _ (by omega)]
  rfl
 ·rw [if_neg h0,if_pos (by simpa using h0)]
structure CanM (l M:List z01):Prop where
 perm:M.Perm l
 topo:zu7 M
theorem znu:∀ (n:Nat) (left:List z07),left.length=n→(zad n left).length=n→(zad n left).Perm left
 | 0,left,h,_=>by rw [List.eq_nil_of_length_eq_zero h]; exact List.Perm.refl _
 | n+1,left,h,hc=>by
  cases hi:left.findIdx? (free (z6y left)) with
  | none =>
   have e:zad (n+1) left=[]:=by unfold zad; rw [hi]
   rw [e] at hc; simp at hc
  | some i =>
   obtain ⟨hil,hfr,-⟩:=List.findIdx?_eq_some_iff_getElem.1 hi
   have e:zad (n+1) left=left[i]'hil::zad n (left.eraseIdx i):=by
    conv=>lhs; unfold zad
    rw [hi]
    simp only []
    rw [List.getElem?_eq_getElem hil]
   rw [e] at hc ⊢
   have:=znu n (left.eraseIdx i) (by rw [List.length_eraseIdx_of_lt hil]; omega) (by simpa using hc)
   exact (this.cons _).trans (zlz left i hil)
theorem znw {l:List z01} (hcl:(z68 l).length=l.length):(z68 l).Perm (zfx l):=znu l.length (zfx l) (zna l) hcl
theorem z11c {l:List z01} (hcl:(z68 l).length=l.length):CanM l ((z68 l).map (·.o)):=by
 refine ⟨?_,zkx l⟩
 have h:=((znw hcl).trans (z7t l)).map (fun x:z07=>x.o)
 rw [List.map_map] at h
 simpa [Function.comp_def,nmd] using h
theorem zzt {l M:List z01} (h:M.Perm l) (hw:wfO l):wfO M:=fun o ho=>hw o (h.mem_iff.1 ho)
theorem zf9 (l:List z01) (hw:wfO l):z2q l=some (if (zd0 l).2=0 then zd8 ((z68 l).map (·.o)) else [],(zd0 l).2):=by
 rw [zhg l hw]
 by_cases h0:(zd0 l).2=0
 ·obtain ⟨e,-⟩:=z7g h0
  rw [e]
 ·rw [if_neg h0,if_neg h0]
theorem zqk (ids:List ID):∀ q:List ID,(q.flatMap fun x=>if x∈ids then [] else [x]).length≤q.length
 | []=>by simp
 | a::q=>by
  have h1:=zqk ids q
  have h2:(if a∈ids then ([]:List ID) else [a]).length≤1:=by split <;> simp
  rw [List.flatMap_cons,List.length_append,List.length_cons]
  omega
theorem z145 (ids l:List ID) (hi:ids.length≤1000) (hl:l.length≤1000):∃ s,za5 ids l=some s∧z74 s=true∧∀ x,x∈s↔x∈l∧x∉ids:=by
 have main:=zfr (F:=z5w ids l) l (fun x=>if x∈ids then [] else [x]) [] (fun i hi2=>by
  have hfl:((l.take i).flatMap fun x=>if x∈ids then [] else [x]).length≤1000:=by
   have:=zqk ids (l.take i)
   rw [List.length_take] at this; omega
  unfold z5w
  rw [if_pos (by simpa using hi2)]
  simp only []
  rw [z0i hi2]
  simp only [bS]
  rw [zww _ _ (by omega)]
  simp only [bS]
  by_cases hx:l[i]∈ids
  ·rw [if_pos hx,if_neg (by simp),if_pos hx,z0j (by omega),List.append_nil]
  ·rw [if_neg hx,if_pos (by simp),if_neg hx,z0x (by simp only [List.nil_append,List.length_cons,List.length_nil]; omega)]
   simp only [bS]
   rw [z0j (by omega)]) (by
  unfold z5w
  rw [if_neg (by simp)])
 rw [List.nil_append] at main
 have hfl:=zqk ids l
 obtain ⟨s,s1,s2,s3⟩:=zqn (l.flatMap fun x=>if x∈ids then [] else [x]) (by omega)
 refine ⟨s,?_,s2, fun x=>?_⟩
 ·unfold za5
  rw [main]
  simp only [bS]
  rw [s1]
  simp only [bS]
 ·rw [s3,List.mem_flatMap]
  constructor
  ·rintro ⟨y,hy,hx⟩
   split at hx
   ·simp at hx
   ·rename_i h
    simp only [List.mem_singleton] at hx
    subst hx
    exact ⟨hy,h⟩
  ·rintro ⟨h1,h2⟩
   exact ⟨x,h1, by rw [if_neg h2]; simp⟩
def outS (l:List z01) (x:ID):Prop:=(∃ o∈l,x∈o.Preds)∧x∉l.map oid
theorem zmb {l:List z01} (hw:wfO l) (h0:(zd0 l).2=0):∃ s,z3x l=some (s,0)∧z74 s=true∧∀ x,x∈s↔outS l x:=by
 obtain ⟨e,hl,hc,hn,hcl⟩:=z7g h0
 have hcp:=znw hcl
 have hmem:∀ x,x∈z68 l↔∃ o∈l,x=nmd o:=fun x=>by
  rw [hcp.mem_iff,(z7t l).mem_iff,List.mem_map]
  exact ⟨fun ⟨o,h1,h2⟩=>⟨o,h1,h2.symm⟩, fun ⟨o,h1,h2⟩=>⟨o,h1,h2.symm⟩⟩
 have hids:∀ x,x∈z6y (z68 l)↔x∈l.map oid:=fun x=>by
  unfold z6y
  rw [List.mem_map,List.mem_map]
  constructor
  ·rintro ⟨y,hy,rfl⟩
   obtain ⟨o,ho,rfl⟩:=(hmem y).1 hy
   exact ⟨o,ho,rfl⟩
  ·rintro ⟨o,ho,rfl⟩
   exact ⟨nmd o,(hmem _).2 ⟨o,ho,rfl⟩,rfl⟩
 have hp:∀ x∈z68 l,x.o.Preds.length≤4:=fun x hx=>by
  obtain ⟨o,ho,rfl⟩:=(hmem x).1 hx
  exact (z29 (hc o ho)).1
 have h1:=z7i (F:=z9h (z68 l,0)) (z68 l).length (fun i s=>s.2=(i:Int)∧∀ x,(zch s.1 x).getD false=decide (x∈z6y ((z68 l).take i))) (fun b=>∀ x,(zch b x).getD false=decide (x∈z6y (z68 l))) (fun i s hi hs=>by
  obtain ⟨m,i'⟩:=s
  obtain ⟨g1,g2⟩:=hs
  simp only at g1 g2
  subst g1
  refine ⟨(zji m (z68 l)[i].id true,((i+1:Nat):Int)),?_,rfl, fun x=>?_⟩
  ·unfold z9h
   rw [if_pos (by simpa using hi)]
   simp only []
   rw [z0i hi,z0j (by omega)]
   simp only [bS]
  ·rw [zh2,zpd hi]
   have e2:z6y ((z68 l).take i++[(z68 l)[i]])=z6y ((z68 l).take i)++[(z68 l)[i].id]:=by unfold z6y; rw [List.map_append]; rfl
   rw [e2]
   by_cases hx:x=(z68 l)[i].id
   ·rw [if_pos hx]; simp [hx]
   ·rw [if_neg hx,g2]; simp [hx]) (fun s hs=>by
  obtain ⟨m,i'⟩:=s
  obtain ⟨g1,g2⟩:=hs
  simp only at g1 g2
  subst g1
  refine ⟨m,?_, fun x=>by rw [g2,List.take_length]⟩
  unfold z9h
  rw [if_neg (by simp)]) ([],0) 0 (Nat.zero_le _) ⟨rfl, fun x=>by simp [zch,z6y]⟩
 obtain ⟨m,h2,h3⟩:=h1
 let gp:ID→List ID:=fun x=>if x∈z6y (z68 l) then [] else [x]
 have hgl:∀ q:List ID,(q.flatMap gp).length≤q.length:=fun q=>by
  induction q with
  | nil=>simp
  | cons a q ih =>
   rw [List.flatMap_cons,List.length_append,List.length_cons]
   have:(gp a).length≤1:=by show (if a∈z6y (z68 l) then ([]:List ID) else [a]).length≤1; split <;> simp
   omega
 let go:z07→List ID:=fun x=>x.o.Preds.flatMap gp
 have hol:∀ q:List z07,(∀ x∈q,x∈z68 l)→(q.flatMap go).length≤4 * q.length:=fun q=>by
  induction q with
  | nil=>simp
  | cons a q ih =>
   intro h
   rw [List.flatMap_cons,List.length_append,List.length_cons]
   have g1:=hp a (h a (by simp))
   have g2:(go a).length≤a.o.Preds.length:=hgl _
   have:=ih (fun o ho=>h o (by simp [ho]))
   omega
 have inner:∀ i (hi:i<(z68 l).length) (s0:List ID),s0.length≤240→iter (z7j m (z68 l)[i]) (s0,0)=some (s0++go (z68 l)[i]):=fun i hi s0 hs0=>by
  have hpi:=hp _ (List.getElem_mem hi)
  refine zfr (F:=z7j m (z68 l)[i]) (z68 l)[i].o.Preds gp s0 (fun j hj=>?_) ?_
  ·have g1:=hgl ((z68 l)[i].o.Preds.take j)
   rw [List.length_take] at g1
   unfold z7j
   rw [if_pos (by simpa using hj)]
   simp only []
   rw [z0i hj]
   simp only [bS]
   rw [h3]
   by_cases hx:(z68 l)[i].o.Preds[j]∈z6y (z68 l)
   ·rw [decide_eq_true hx,if_neg (by simp),z0j (by omega), show gp (z68 l)[i].o.Preds[j]=[] from if_pos hx,List.append_nil]
   ·rw [decide_eq_false hx,if_pos (by simp),z0x (by simp only [List.length_append,List.length_cons,List.length_nil]; omega), show gp (z68 l)[i].o.Preds[j]=[(z68 l)[i].o.Preds[j]] from if_neg hx]
    simp only [bS]
    rw [z0j (by omega)]
  ·unfold z7j
   rw [if_neg (by simp)]
 have outer:=zfr (F:=z9q (z68 l,0) m) (z68 l) go [] (fun i hi=>by
  have g1:=hol ((z68 l).take i) (fun x hx=>List.mem_of_mem_take hx)
  rw [List.length_take] at g1
  unfold z9q
  rw [if_pos (by simpa using hi)]
  simp only []
  rw [z0i hi]
  simp only [bS]
  rw [inner i hi _ (by simp only [List.nil_append]; omega)]
  simp only [bS]
  rw [z0j (by omega)]) (by
  unfold z9q
  rw [if_neg (by simp)])
 have g2:=hol (z68 l) (fun x hx=>hx)
 obtain ⟨c,c1,c2,c3⟩:=zl2 (zth ((z68 l).flatMap go)) (by rw [zox]; omega) (zp9 _)
 refine ⟨c,?_,c2, fun x=>?_⟩
 ·unfold z3x
  rw [ze5 l hw,e]
  simp only [bS]
  rw [if_neg (by simp),h2]
  simp only [bS]
  rw [outer]
  simp only [bS,List.nil_append]
  unfold z12f
  rw [z2n (by omega)]
  simp only [bS]
  rw [c1]
  simp only [bS]
 ·rw [c3,zv1,List.mem_flatMap]
  constructor
  ·rintro ⟨y,hy,hx⟩
   obtain ⟨o,ho,rfl⟩:=(hmem y).1 hy
   obtain ⟨p,hp1,hp2⟩:=List.mem_flatMap.1 hx
   have hp2:x∈if p∈z6y (z68 l) then ([]:List ID) else [p]:=hp2
   split at hp2
   ·simp at hp2
   ·rename_i h
    simp only [List.mem_singleton] at hp2
    subst hp2
    exact ⟨⟨o,ho,hp1⟩, fun h'=>h ((hids _).2 h')⟩
  ·rintro ⟨⟨o,ho,h4⟩,h5⟩
   refine ⟨nmd o,(hmem _).2 ⟨o,ho,rfl⟩,List.mem_flatMap.2 ⟨x,h4,?_⟩⟩
   show x∈if x∈z6y (z68 l) then ([]:List ID) else [x]
   rw [if_neg (fun h=>h5 ((hids _).1 h))]; simp
theorem zra {l:List z01} (hw:wfO l) (h0:(zd0 l).2≠0):z3x l=some ([],(zd0 l).2)∧zci l=some ([],(zd0 l).2):=by
 constructor
 ·unfold z3x
  rw [ze5 l hw]
  simp only [bS]
  rw [if_pos (by simpa using h0)]
 ·unfold zci
  rw [zu4 l hw]
  simp only [bS]
  rw [if_pos (by simpa using h0)]
theorem z13k {a b:List ID} (ha:z74 a=true) (hb:z74 b=true) (h:∀ x,x∈a↔x∈b):a=b:=zgw a b ((zcz a).1 ha) ((zcz b).1 hb) h
end
section
open Go
theorem or8 (a:UInt64) (x:UInt8) (h:a.toNat<72057594037927936):(zh8 a 8 ||| x.toUInt64).toNat=256 * a.toNat+x.toNat:=by
 have hx:=x.toNat_lt
 rw [UInt64.toNat_or,zgl, show (2:Nat) ^ min 8 64=256 from rfl,Nat.mod_eq_of_lt (by omega),UInt8.toNat_toUInt64]
 have:=Nat.two_pow_add_eq_or_of_lt (i:=8) (b:=x.toNat) (by omega) a.toNat
 rw [Nat.mul_comm a.toNat 256]; exact this.symm
theorem z115 {a:UInt64} {n:Nat} (h:a.toNat=n):a=UInt64.ofNat n:=by rw [← h]; simp
theorem zfe {l:List UInt8} {i:Nat} (h:i<l.length):l.getD i 0=l[i]:=by simp [List.getD,h]
theorem z14v (l:List UInt8) (h8:l.length≤8):iter (z5j l) (0,0)=some (UInt64.ofNat (z6i l)):=by
 obtain ⟨b,h1,h2⟩:=z7i (F:=z5j l) l.length (fun i s=>s.1.toNat=z6i (l.take i)∧s.2=(i:Int)) (fun b=>b=UInt64.ofNat (z6i l))
  (fun i s hi hs=>by
   obtain ⟨s1,s2⟩:=s
   obtain ⟨e1,e2⟩:=hs
   simp only at e1 e2
   subst e2
   have hb:=zgq hi h8
   have ht:=zhv hi
   rw [zfe hi] at hb ht
   refine ⟨_, by unfold z5j; rw [if_pos (by simp <;> omega)]; simp only [z0i hi,bs]; rfl,?_,?_⟩
   ·show (zh8 s1 8 ||| l[i].toUInt64).toNat=_
    rw [or8 s1 l[i] (by omega),ht,e1]
   ·exact z0j (by omega))
  (fun s hs=>by
   obtain ⟨s1,s2⟩:=s
   obtain ⟨e1,e2⟩:=hs
   simp only at e1 e2
   subst e2
   refine ⟨_, by unfold z5j; rw [if_neg (by simp)],?_⟩
   rw [List.take_length] at e1
   exact z115 e1) (0,0) 0 (by omega) ⟨rfl,rfl⟩
 rw [h1,h2]
theorem z144 (x:UInt8):decide (x≤247)=decide (x.toNat≤247):=by
 rw [decide_eq_decide,UInt8.le_iff_toNat_le]; rfl
theorem u8z (x:UInt8):(x==0)=decide (x.toNat=0):=by
 rw [Bool.eq_iff_iff,beq_iff_eq,decide_eq_true_eq,← UInt8.toNat_inj]; rfl
theorem zjl (b:List UInt8) (hb:b.length≤9223372036854775806):z4t b=some (UInt64.ofNat (z0r b).1,((z0r b).2.1:Int),((z0r b).2.2:Int)):=by
 unfold z4t
 by_cases h0:b.length=0
 ·rw [if_pos (by simp [h0]),zic (zrj h0)]; rfl
 rw [if_neg (by simp; intro e; simp [e] at h0)]
 have h0':0<b.length:=by omega
 have i0:=z0i h0'
 have g0:=zfe h0'
 have i0':idx b 0=some (b[0]):=i0
 rw [i0']
 simp only [bs,z144]
 by_cases h1:b[0].toNat≤247
 ·rw [decide_eq_true h1,if_pos rfl,za4 (zn5 h0 (by rw [g0]; exact h1)),g0]
  congr 2
  apply UInt64.toNat_inj.1
  rw [UInt8.toNat_toUInt64]; simp
 rw [decide_eq_false h1,if_neg (by simp)]
 have hx:=b[0].toNat_lt
 obtain ⟨k,hk⟩:∃ k:Nat,b[0].toNat - 247=k:=Exists.intro (b[0].toNat - 247) rfl
 have ek:w64 ((b[0].toNat:Int) - 247)=(k:Int):=by rw [z0v (by omega) (by omega)]; omega
 rw [ek]
 by_cases hbad:b.length≤k∨(b.getD 1 0).toNat=0∨(k=1∧(b.getD 1 0).toNat≤247)
 ·rw [zic (zqc h0 (by rw [g0]; exact h1) (by rw [g0,hk]; exact hbad))]
  by_cases c1:b.length≤k
  ·rw [if_pos (by simp; omega)]; rfl
  ·rw [if_neg (by simp; omega)]
   have l1:1<b.length:=by omega
   have i1:idx b 1=some (b[1]):=z0i l1
   have g1:=zfe l1
   rw [g1] at hbad
   rw [i1]
   simp only [bs,u8z,z144]
   by_cases c2:b[1].toNat=0
   ·rw [decide_eq_true c2]; rfl
   ·have c3:k=1∧b[1].toNat≤247:=by omega
    rw [decide_eq_false c2,c3.1]
    simp only [Bool.false_eq_true,if_false]
    rw [if_pos (by decide),decide_eq_true c3.2]; rfl
 ·rw [za4 (zov h0 (by rw [g0]; exact h1) (by rw [g0,hk]; exact hbad)),g0,hk]
  have l1:1<b.length:=by omega
  have i1:idx b 1=some (b[1]):=z0i l1
  have g1:=zfe l1
  rw [g1] at hbad
  rw [if_neg (by simp; omega),i1]
  simp only [bs,u8z,z144]
  have c2:¬ b[1].toNat=0:=by omega
  rw [decide_eq_false c2]
  simp only [Bool.false_eq_true,if_false]
  have hc:cut b 1 (w64 ((k:Int)+1))=some ((b.drop 1).take k):=by
   have e:w64 ((k:Int)+1)=((k+1:Nat):Int):=z0j (by omega)
   rw [e]
   have:=z8g (b:=b) (i:=1) (j:=k+1) (by omega) (by omega)
   rw [show ((1:Nat):Int)=1 from rfl] at this
   rw [this,Nat.add_sub_cancel]
  have he:w64 ((k:Int)+1)=((k+1:Nat):Int):=z0j (by omega)
  have hin:(if ((k:Int)==1)=true then (if decide (b[1].toNat≤247)=true then some (.inl (0,0,12)) else some (.inr ())) else some (.inr ()):Option (Sum (UInt64 × Int × Int) Unit))=some (.inr ()):=by
   by_cases c3:k=1
   ·have c4:¬ b[1].toNat≤247:=by omega
    rw [decide_eq_false c4]; split <;> rfl
   ·rw [if_neg (by simp; omega)]
  rw [hin,znp,hc]
  simp only [bs]
  rw [z14v _ (by rw [List.length_take]; omega)]
  simp only [bs,he]; rfl
theorem ztb (u:UInt64):xorI (w64 ((z5p u 1).toNat:Int)) (w64 (0 - (w64 ((u &&& 1).toNat:Int))))=zid u.toNat:=by
 have h0:=UInt64.toNat_lt u
 have h1:=ztn (u:=u.toNat) (by omega)
 have e1:(z5p u 1).toNat=u.toNat / 2:=by rw [z8s]; rfl
 have e2:(u &&& 1).toNat=u.toNat % 2:=by rw [UInt64.toNat_and]; exact Nat.and_one_is_mod _
 rw [← h1]
 unfold xorI w64
 congr 2
 ·rw [e1]; show ((u.toNat / 2:Nat):Int)=Int.fdiv (u.toNat:Int) 2; rw [Int.fdiv_eq_ediv_of_nonneg _ (by omega)]; rfl
 ·congr 2
  rw [e2]
  have:z8d .and .u64 ((u.toNat:Nat):Int) 1=((u.toNat % 2:Nat):Int):=by
   rw [zm5]
   have e3:BitVec.ofInt 64 (u.toNat:Int)=BitVec.ofNat 64 u.toNat:=BitVec.ofInt_natCast ..
   rw [e3, show BitVec.ofInt 64 1=BitVec.ofNat 64 1 from rfl,BitVec.toNat_and,BitVec.toNat_ofNat,BitVec.toNat_ofNat,Nat.mod_eq_of_lt (by omega), show 1 % 2 ^ 64=1 from rfl,Nat.and_one_is_mod]
   rw [show ((u.toNat % 2:Nat):Int)=((u.toNat % 2:Nat):Int) from rfl]
   exact z12u _ (by omega)
  rw [this]
theorem z10e (b:List UInt8) (hb:b.length≤9223372036854775806):z9c b=some ((zf5 b).1,((zf5 b).2.1:Int),((zf5 b).2.2:Int)):=by
 unfold z9c
 rw [zjl b hb]
 simp only [bs]
 have h1:=zfk b
 by_cases h:(z0r b).2.2=0
 ·rw [zj9 h,h,if_neg (by simp),ztb]
  have:(UInt64.ofNat (z0r b).1).toNat=(z0r b).1:=by simp; omega
  rw [this]; rfl
 ·rw [zmx h,if_pos (by simp; omega)]; rfl
theorem zoo (b:List UInt8) (hb:b.length≤9223372036854775806) (most:Int) (hm:most≤9223372036854775807) (k:Nat) (hk:0<k) (hk2:k≤1000):zdh b most (k:Int)=some ((z2k b most k).1,((z2k b most k).2.1:Int),((z2k b most k).2.2:Int)):=by
 unfold zdh
 by_cases h1:most<0
 ·rw [decide_eq_true h1,if_pos rfl,zkj h1]; rfl
 rw [decide_eq_false h1,if_neg (by simp),zjl b hb]
 simp only [bs]
 have hl:=zfk b
 have hu:=zdg b
 have en:(UInt64.ofNat (z0r b).1).toNat=(z0r b).1:=by simp; omega
 have e1:decide (UInt64.ofInt most<UInt64.ofNat (z0r b).1)=decide (most<((z0r b).1:Int)):=by
  rw [decide_eq_decide,UInt64.lt_iff_toNat_lt,z8u,en]; omega
 obtain ⟨D,hD⟩:∃ D:Nat,(b.length - (z0r b).2.1) / k=D:=Exists.intro _ rfl
 have hd:D≤b.length:=by rw [← hD]; exact Nat.le_trans (Nat.div_le_self _ _) (Nat.sub_le _ _)
 have e2:w64 (Int.tdiv (w64 ((b.length:Int) - (z0r b).2.1)) (k:Int))=(D:Int):=by
  rw [z0v (x:=(b.length:Int) - (z0r b).2.1) (by omega) (by omega), show (b.length:Int) - ((z0r b).2.1:Int)=((b.length - (z0r b).2.1:Nat):Int) by omega,Int.tdiv_eq_ediv_of_nonneg (by omega),← Int.natCast_ediv,hD,z0v (by omega) (by omega)]
 have e3:decide (UInt64.ofInt (w64 (Int.tdiv (w64 ((b.length:Int) - (z0r b).2.1)) (k:Int)))<UInt64.ofNat (z0r b).1)=decide ((b.length - (z0r b).2.1) / k<(z0r b).1):=by
  rw [decide_eq_decide,UInt64.lt_iff_toNat_lt,e2,z8u,en,hD]; omega
 rw [e1,e3]
 by_cases h2:(z0r b).2.2≠0∨most<((z0r b).1:Int)∨(b.length - (z0r b).2.1) / k<(z0r b).1
 ·rw [zhm h1 h2]
  have hs:(if ((((z0r b).2.2:Nat):Int) != 0)=true then some true else if decide (most<((z0r b).1:Int))=true then some true else chk ((k:Int)≠0) >>= fun u7=>some (decide ((b.length - (z0r b).2.1) / k<(z0r b).1)))=some true:=by
   by_cases c1:(z0r b).2.2=0
   ·rw [if_neg (by simp [c1])]
    by_cases c2:most<((z0r b).1:Int)
    ·rw [decide_eq_true c2,if_pos rfl]
    ·rw [decide_eq_false c2,if_neg (by simp),z2n (by omega),decide_eq_true (by omega)]; rfl
   ·rw [if_pos (by simp; omega)]
  rw [hs]; rfl
 ·rw [za7 h1 h2]
  have hf:=zh3 (b:=b) (k:=k) (by omega)
  have hs:(if ((((z0r b).2.2:Nat):Int) != 0)=true then some true else if decide (most<((z0r b).1:Int))=true then some true else chk ((k:Int)≠0) >>= fun u7=>some (decide ((b.length - (z0r b).2.1) / k<(z0r b).1)))=some false:=by
   rw [if_neg (by simp; omega),decide_eq_false (by omega),if_neg (by simp),z2n (by omega),decide_eq_false (by omega)]; rfl
  rw [hs]
  simp only [bs,Bool.false_eq_true,if_false,en]
  have hmul:(k:Int) * ((z0r b).1:Int)=((k * (z0r b).1:Nat):Int):=by rw [Int.natCast_mul]
  have h9:(z0r b).1≤k * (z0r b).1:=Nat.le_mul_of_pos_left _ hk
  have e5:w64 (((z0r b).2.1:Int)+w64 ((k:Int) * w64 ((z0r b).1:Int)))=(((z0r b).2.1+k * (z0r b).1:Nat):Int):=by
   rw [z0v (x:=((z0r b).1:Int)) (by omega) (by omega),hmul,z0v (x:=((k * (z0r b).1:Nat):Int)) (by omega) (by omega),z0v (by omega) (by omega)]; omega
  rw [e5,z8g (by omega) (by omega)]
  simp only [bs,Nat.add_sub_cancel_left]; rfl
theorem zd9 (b:List UInt8) (hb:b.length≤100000) (most:Int) (hm:most≤9223372036854775807):z5s b most=some ((z2k b most 1).1,((z2k b most 1).2.1:Int),((z2k b most 1).2.2:Int)):=by
 unfold z5s zgo
 have:=zoo b (by omega) most hm 1 (by decide) (by decide)
 rw [show ((1:Nat):Int)=1 from rfl] at this
 rw [this]
 have hl:=zpl b most 1
 simp only [bs]
 rw [z0x (by simp; omega)]; rfl
end
section
open Go
def idR (s:List UInt8) (o:Nat):V3:=Vector.ofFn fun j:Fin 32=>s.getD (o+j.val) 0
def zem (s:List UInt8) (n:Nat):List V3:=(List.range n).map fun i=>idR s (32 * i)
theorem zbz (s:List UInt8) (n:Nat):(zem s n).length=n:=by simp [zem]
theorem zlo (s:List UInt8) (n:Nat):zem s (n+1)=zem s n++[idR s (32 * n)]:=by simp [zem,List.range_succ]
theorem zru (s:List UInt8) (o:Nat) (h:o+32≤s.length):(idR s o).toList=(s.drop o).take 32:=by
 apply List.ext_getElem
 ·simp; omega
 ·intro j h1 h2
  have hj:j<32:=by simpa using h1
  simp only [idR,Vector.getElem_toList,Vector.getElem_ofFn,List.getElem_take,List.getElem_drop]
  exact zfe (by omega)
theorem zqx (s:List UInt8):∀ n:Nat,32 * n≤s.length→zdl (zem s n)=s.take (32 * n)
 | 0,_=>by simp [zem,zdl]
 | n+1,h=>by
  rw [zlo]
  have ih:=zqx s n (by omega)
  unfold zdl at ih ⊢
  rw [List.flatMap_append,ih,List.flatMap_cons,List.flatMap_nil,List.append_nil,zru s (32 * n) (by omega), show 32 * (n+1)=32 * n+32 by omega,List.take_add]
theorem zzi (x:V3) (s:List UInt8) (o:Nat) (h:o+32≤s.length):zhq x (s.drop o)=idR s o:=by
 apply Vector.toList_inj.1
 rw [zi2,zru s o h]
 have:(s.drop o).length=s.length - o:=by simp
 rw [Nat.min_eq_right (by omega)]
 simp
def zcy (b:List UInt8) (most:Int):List V3 × Nat × Nat :=
 if (z2k b most 32).2.2≠0 then ([],0,(z2k b most 32).2.2)
 else if z74 (zem (z2k b most 32).1 ((z2k b most 32).1.length / 32)) then (zem (z2k b most 32).1 ((z2k b most 32).1.length / 32),(z2k b most 32).2.1,0) else ([],0,12)
theorem zmc {b:List UInt8} {most:Int} (h:(z2k b most 32).2.2=0):(z2k b most 32).1.length=32 * (z0r b).1∧(z2k b most 32).2.1=(z0r b).2.1+32 * (z0r b).1∧(z0r b).2.2=0∧(z2k b most 32).1=(b.drop (z0r b).2.1).take (32 * (z0r b).1)∧((z0r b).1:Int)≤most∧(z0r b).2.1+32 * (z0r b).1≤b.length:=by
 have hu:=zdg b
 by_cases h1:most<0
 ·rw [zkj h1] at h; cases h
 by_cases h2:(z0r b).2.2≠0∨most<((z0r b).1:Int)∨(b.length - (z0r b).2.1) / 32<(z0r b).1
 ·rw [zhm h1 h2] at h; cases h
 ·have hf:=zh3 (b:=b) (k:=32) (by omega)
  rw [za7 h1 h2]
  refine ⟨?_,rfl, by omega,rfl, by omega, by omega⟩
  simp only [List.length_take,List.length_drop]; omega
theorem z15w (s:List UInt8) (n:Nat) (hs:s.length=32 * n) (hn:n≤1000):iter (z7f (List.replicate n (Vector.replicate 32 0))) (s,List.replicate n (Vector.replicate 32 0),0)=some (zem s n):=by
 have h:=z3f (F:=z7f (List.replicate n (Vector.replicate 32 0))) (b:=zem s n) n (fun i=>(s.drop (32 * i),zem s i++List.replicate (n - i) (Vector.replicate 32 0),(i:Int)))
  (fun i hi=>by
   unfold z7f
   rw [if_pos (by simp; omega)]
   have hl:(zem s i++List.replicate (n - i) (Vector.replicate 32 (0:UInt8))).length=n:=by simp [zbz]; omega
   have hidx:idx (zem s i++List.replicate (n - i) (Vector.replicate 32 (0:UInt8))) (i:Int)=some (Vector.replicate 32 0):=by
    rw [z0i (by omega)]
    rw [List.getElem_append_right (by rw [zbz]; omega)]
    simp
   have hd:(s.drop (32 * i)).length=32 * (n - i):=by rw [List.length_drop,hs]; omega
   have hmin:min (s.drop (32 * i)).length 32=32:=by rw [hd]; omega
   have hcut:cut (s.drop (32 * i)) ((32:Nat):Int) ((s.drop (32 * i)).length:Int)=some (s.drop (32 * (i+1))):=by
    rw [z8g (by omega) (Nat.le_refl _),List.drop_drop,List.take_of_length_le (by simp; omega)]
    congr 2
   simp only [hidx,bs,hmin,hcut]
   rw [zzi _ s (32 * i) (by omega),z0j (by omega)]
   congr 3
   have e:n - i=(n - (i+1))+1:=by omega
   rw [Int.toNat_natCast,List.set_append_right _ _ (by rw [zbz]; exact Nat.le_refl _),zbz,Nat.sub_self,e,List.replicate_succ,List.set_cons_zero,zlo,List.append_assoc]
   rfl)
  (by
   unfold z7f
   rw [if_neg (by simp)]
   simp)
 simpa [zem] using h
theorem zzz (b:List UInt8) (hb:b.length≤20000) (most:Int) (hm:most≤1000):zcp b most=some ((zcy b most).1,((zcy b most).2.1:Int),((zcy b most).2.2:Int)):=by
 unfold zcp zcy
 have hp:=zoo b (by omega) most (by omega) 32 (by omega) (by omega)
 rw [show ((32:Nat):Int)=32 from rfl] at hp
 rw [hp]
 simp only [bs]
 by_cases h:(z2k b most 32).2.2=0
 ·obtain ⟨l1,l2,l3,l4,l5,l6⟩:=zmc h
  have hn:(z2k b most 32).1.length / 32=(z0r b).1:=by omega
  rw [if_neg (by simp [h]),if_neg (by simp [h]),hn]
  have e:w64 (Int.tdiv ((z2k b most 32).1.length:Int) 32)=((z0r b).1:Int):=by
   rw [l1,Int.tdiv_eq_ediv_of_nonneg (by omega),z0v (by omega) (by omega)]; omega
  rw [e,zcw (by omega) (by omega)]
  simp only [bs]
  rw [z15w _ _ l1 (by omega)]
  simp only [bs]
  rw [zmf _ (by rw [zbz]; omega)]
  simp only [bs]
  cases z74 (zem (z2k b most 32).1 (z0r b).1) <;> rfl
 ·rw [if_pos (by simp; omega),if_pos h]; rfl
end
section
open Go
theorem zqa {a b:z00} (h1:a.Kind=b.Kind) (h2:a.Num=b.Num) (h3:a.Bits=b.Bits) (h4:a.Text=b.Text):a=b:=by
 cases a; cases b; simp only at h1 h2 h3 h4; subst h1 h2 h3 h4; rfl
theorem zv4:inI 0:=⟨by decide, by decide⟩
theorem shrB (b:UInt64) (k:Nat) (hk:k≤63):(z5p b k).toUInt8.toNat=b.toNat / 2 ^ k % 256:=by
 rw [UInt64.toNat_toUInt8,z8s,Nat.min_eq_left (by omega)]
theorem z12i (b:UInt64):z6i (be8 b)=b.toNat:=by
 have h:=UInt64.toNat_lt b
 unfold be8
 simp only [z6i,List.foldl_cons,List.foldl_nil,shrB b 56 (by omega),shrB b 48 (by omega),shrB b 40 (by omega),shrB b 32 (by omega),shrB b 24 (by omega),shrB b 16 (by omega),shrB b 8 (by omega),shrB b 0 (by omega)]
 omega
theorem z16a (l:List UInt8) (h:l.length=8):be8 (UInt64.ofNat (z6i l))=l:=by
 match l,h with
 | [x0,x1,x2,x3,x4,x5,x6,x7],_ =>
  have h0:=x0.toNat_lt; have h1:=x1.toNat_lt; have h2:=x2.toNat_lt; have h3:=x3.toNat_lt; have h4:=x4.toNat_lt; have h5:=x5.toNat_lt; have h6:=x6.toNat_lt; have h7:=x7.toNat_lt
  have hv:(UInt64.ofNat (z6i [x0,x1,x2,x3,x4,x5,x6,x7])).toNat=((((((x0.toNat * 256+x1.toNat) * 256+x2.toNat) * 256+x3.toNat) * 256+x4.toNat) * 256+x5.toNat) * 256+x6.toNat) * 256+x7.toNat:=by
   simp only [z6i,List.foldl_cons,List.foldl_nil,UInt64.toNat_ofNat']; omega
  generalize UInt64.ofNat (z6i [x0,x1,x2,x3,x4,x5,x6,x7])=b at hv
  unfold be8
  have e:∀ (k:Nat) (x:UInt8),k≤63→b.toNat / 2 ^ k % 256=x.toNat→(z5p b k).toUInt8=x:=fun k x hk he=>UInt8.toNat_inj.1 (by rw [shrB b k hk,he])
  rw [e 56 x0 (by omega) (by omega),e 48 x1 (by omega) (by omega),e 40 x2 (by omega) (by omega),e 32 x3 (by omega) (by omega),e 24 x4 (by omega) (by omega),e 16 x5 (by omega) (by omega),e 8 x6 (by omega) (by omega),e 0 x7 (by omega) (by omega)]
theorem zxw (b:UInt64):(be8 b).length=8:=rfl
def zw1:z00 × Nat × Nat:=(⟨0,0,0,[]⟩,0,12)
def zce (k:UInt8) (r:List UInt8):z00 × Nat × Nat :=
 if k=1 then (⟨1,(zf5 r).1,0,[]⟩,(zf5 r).2.1,(zf5 r).2.2)
 else if k=2 then (if r.length<8 then zw1 else (⟨2,0,UInt64.ofNat (z6i (r.take 8)),[]⟩,8,0))
 else if k=3 then (⟨3,0,0,(z2k r 30 1).1⟩,(z2k r 30 1).2.1,(z2k r 30 1).2.2)
 else (⟨k,0,0,[]⟩,0,0)
def zjj (b:List UInt8):z00 × Nat × Nat :=
 match b with
 | []=>zw1
 | k::r=>if (zce k r).2.2=0∧okV (zce k r).1=true then ((zce k r).1,(zce k r).2.1+1,0) else zw1
theorem z154 (k:UInt8) (l:List UInt8) (h8:l.length≤8):iter (z7b l) (⟨k,0,0,[]⟩,0)=some ⟨k,0,UInt64.ofNat (z6i l),[]⟩:=by
 obtain ⟨b,h1,h2⟩:=z7i (F:=z7b l) l.length (fun i s=>∃ u:UInt64,s.1=⟨k,0,u,[]⟩∧u.toNat=z6i (l.take i)∧s.2=(i:Int)) (fun b=>b=(⟨k,0,UInt64.ofNat (z6i l),[]⟩:z00))
  (fun i s hi hs=>by
   obtain ⟨s1,s2⟩:=s
   obtain ⟨u,e0,e1,e2⟩:=hs
   simp only at e0 e1 e2
   subst e2 e0
   have hb:=zgq hi h8
   have ht:=zhv hi
   rw [zfe hi] at hb ht
   refine ⟨_, by unfold z7b; rw [if_pos (by simp <;> omega)]; simp only [z0i hi,bs]; rfl,zh8 u 8 ||| l[i].toUInt64,rfl,?_,?_⟩
   ·rw [or8 u l[i] (by omega),ht,e1]
   ·exact z0j (by omega))
  (fun s hs=>by
   obtain ⟨s1,s2⟩:=s
   obtain ⟨u,e0,e1,e2⟩:=hs
   simp only at e0 e1 e2
   subst e2 e0
   refine ⟨_, by unfold z7b; rw [if_neg (by simp)],?_⟩
   rw [List.take_length] at e1
   rw [z115 e1]) (⟨k,0,0,[]⟩,0) 0 (by omega) ⟨0,rfl,rfl,rfl⟩
 rw [h1,h2]
theorem zki (r:List UInt8):(zf5 r).2.1≤9∧((zf5 r).2.2=0∨(zf5 r).2.2=12)∧inI (zf5 r).1:=by
 have h:=zfk r
 by_cases h1:(z0r r).2.2=0
 ·rw [zj9 h1]; have:=zkf h.1; exact ⟨h.2.1,.inl rfl,this⟩
 ·rw [zmx h1]; exact ⟨by simp,h.2.2,zv4⟩
theorem zre (r:List UInt8):(z2k r 30 1).2.1≤39∧((z2k r 30 1).2.2=0∨(z2k r 30 1).2.2=12)∧(z2k r 30 1).1.length≤r.length:=by
 have h:=zfk r
 refine ⟨?_,?_,zpl r 30 1⟩ <;> unfold z2k
 ·split
  ·simp
  ·split
   ·simp
   ·simp only; omega
 ·split
  ·rename_i e; exact absurd e (by decide)
  ·split <;> simp
theorem z16i (v:z00) (u e:Nat) (hv:v.Text.length≤9223372036854775807) (hu:u≤100) :
  ((if ((e:Int) != 0)=true then some true else z7p v >>= fun r29=>some (r29 != 0)) >>= fun s27=>if s27 then some ((⟨0,0,0,[]⟩:z00),(0:Int),(12:Int)) else some (w64 ((u:Int)+1)) >>= fun y32=>some (v,y32,0)) =
  some (if e=0∧okV v=true then (v,((u+1:Nat):Int),0) else (⟨0,0,0,[]⟩,0,12)):=by
 rw [zko v hv]
 by_cases he:e=0
 ·rw [if_neg (by simp [he])]
  cases ok:okV v
  ·have hn:¬ (e=0∧false=true):=by simp
   rw [if_neg hn]; rfl
  ·rw [if_pos (⟨he,rfl⟩:e=0∧true=true)]
   simp only [bs,if_true,bne_self_eq_false,Bool.false_eq_true,if_false]
   rw [z0j (by omega)]
 ·rw [if_pos (by simp; omega),if_neg (fun h=>he h.1)]; rfl
theorem z14s (b:List UInt8) (hb:b.length≤10000):zak b=some ((zjj b).1,((zjj b).2.1:Int),((zjj b).2.2:Int)):=by
 unfold zak zjj
 match b,hb with
 | [],_=>rfl
 | k::r,hb =>
  simp only [List.length_cons] at hb
  rw [if_neg (by simp; omega)]
  have i0:idx (k::r) 0=some k:=z0i (l:=k::r) (i:=0) (by simp)
  have hc:cut (k::r) 1 ((k::r).length:Int)=some r:=by
   have:=z8g (b:=k::r) (i:=1) (j:=(k::r).length) (by simp) (by simp)
   rw [show ((1:Nat):Int)=1 from rfl] at this
   rw [this]; simp
  rw [i0]
  simp only [bs]
  rw [hc]
  simp only [bs]
  have fin:∀ (v:z00) (u e:Nat),v.Text.length≤9223372036854775807→u≤100→zce k r=(v,u,e) →
    ((if ((e:Int) != 0)=true then some true else z7p v >>= fun r29=>some (r29 != 0)) >>= fun s27=>if s27 then some ((⟨0,0,0,[]⟩:z00),(0:Int),(12:Int)) else some (w64 ((u:Int)+1)) >>= fun y32=>some (v,y32,0)) =
    some ((if (zce k r).2.2=0∧okV (zce k r).1=true then ((zce k r).1,(zce k r).2.1+1,0) else zw1).1,(((if (zce k r).2.2=0∧okV (zce k r).1=true then ((zce k r).1,(zce k r).2.1+1,0) else zw1).2.1:Nat):Int),(((if (zce k r).2.2=0∧okV (zce k r).1=true then ((zce k r).1,(zce k r).2.1+1,0) else zw1).2.2:Nat):Int)):=by
   intro v u e hv hu hr
   rw [z16i v u e hv hu,hr]
   by_cases h:e=0∧okV v=true
   ·rw [if_pos h,if_pos h]; rfl
   ·rw [if_neg h,if_neg h]; rfl
  by_cases k1:k=1
  ·have hr:=zki r
   subst k1
   rw [if_pos (by decide),z10e r (by omega)]
   simp only [bs,znp]
   exact fin _ _ _ (by simp) (by omega) (by unfold zce; rw [if_pos rfl])
  have c1:(k==1)=false:=by simpa using k1
  rw [c1]
  simp only [Bool.false_eq_true,if_false]
  by_cases k2:k=2
  ·subst k2
   rw [if_pos (by decide)]
   by_cases h8:r.length<8
   ·rw [if_pos (by simp; omega)]
    have:zce 2 r=zw1:=by unfold zce; rw [if_neg (by decide),if_pos rfl,if_pos h8]
    rw [this]; rfl
   ·rw [if_neg (by simp; omega)]
    have hc8:cut r 0 8=some (r.take 8):=by
     have:=z8g (b:=r) (i:=0) (j:=8) (by omega) (by omega)
     rw [show ((0:Nat):Int)=0 from rfl, show ((8:Nat):Int)=8 from rfl] at this
     rw [this]; simp
    rw [hc8]
    simp only [bs]
    rw [z154 2 (r.take 8) (by rw [List.length_take]; omega)]
    simp only [bs,znp]
    exact fin ⟨2,0,UInt64.ofNat (z6i (r.take 8)),[]⟩ 8 0 (by simp) (by omega) (by unfold zce; rw [if_neg (by decide),if_pos rfl,if_neg h8])
  have c2:(k==2)=false:=by simpa using k2
  rw [c2]
  simp only [Bool.false_eq_true,if_false]
  by_cases k3:k=3
  ·have hr:=zre r
   subst k3
   rw [if_pos (by decide),zd9 r (by omega) 30 (by decide)]
   simp only [bs,znp]
   exact fin _ _ _ (by show (z2k r 30 1).1.length≤_; omega) (by omega) (by unfold zce; rw [if_neg (by decide),if_neg (by decide),if_pos rfl])
  have c3:(k==3)=false:=by simpa using k3
  rw [c3]
  simp only [Bool.false_eq_true,if_false,znp]
  exact fin ⟨k,0,0,[]⟩ 0 0 (by simp) (by omega) (by unfold zce; rw [if_neg k1,if_neg k2,if_neg k3])
theorem z136 (v:z00) (hI:inI v.Num) (h:okV v=true) (b:List UInt8):zjj (zq3 v++b)=(v,(zq3 v).length,0):=by
 unfold zq3
 have key:∀ (k:UInt8) (x:List UInt8) (w:z00),zce k (x++b)=(w,x.length,0)→okV w=true→zjj ((k::x)++b)=(w,(k::x).length,0):=by
  intro k x w h1 h2
  show (if (zce k (x++b)).2.2=0∧okV (zce k (x++b)).1=true then ((zce k (x++b)).1,(zce k (x++b)).2.1+1,0) else zw1)=_
  rw [h1,if_pos ⟨rfl,h2⟩]; rfl
 have rd:∀ (n:Nat) (c:List UInt8),n<18446744073709551616→z0r (z0c n++c)=(n,(z0c n).length,0):=fun n c hn=>za4 ((z2t _ _ _).2 ⟨hn,rfl,List.take_left⟩)
 rcases zfj h with k | k | k
 ·rw [if_pos k,k]
  refine key 1 _ v ?_ h
  have hz:=zry hI
  unfold zce
  have hr:=rd (zig v.Num) b hz
  rw [if_pos rfl,zj9 (by rw [hr]),hr,zv0]
  obtain ⟨e1,e2⟩:=okV1 h k
  congr 1
  exact zqa k.symm rfl e1.symm e2.symm
 ·rw [if_neg (by rw [k]; decide),if_pos k,k]
  refine key 2 _ v ?_ h
  unfold zce
  rw [if_neg (by decide),if_pos rfl,if_neg (by rw [List.length_append,zxw]; omega)]
  have e:(be8 v.Bits++b).take 8=be8 v.Bits:=List.take_left' (zxw _)
  rw [e,z12i]
  obtain ⟨e1,e2,-⟩:=okV2 h k
  rw [show UInt64.ofNat v.Bits.toNat=v.Bits by simp]
  congr 1
  exact zqa k.symm e1.symm rfl e2.symm
 ·rw [if_neg (by rw [k]; decide),if_neg (by rw [k]; decide),k]
  refine key 3 _ v ?_ h
  obtain ⟨e1,e2,e3,-⟩:=okV3 h k
  unfold zce
  have hr:=rd v.Text.length (v.Text++b) (by omega)
  rw [if_neg (by decide),if_neg (by decide),if_pos rfl,List.append_assoc]
  rw [za7 (by decide) (by rw [hr]; simp only [List.length_append,Nat.div_one]; omega),hr]
  simp only [List.drop_left,Nat.one_mul,List.take_left,List.length_append]
  congr 1
  exact zqa k.symm e1.symm e2.symm rfl
theorem zwn (b:List UInt8) (h:(zjj b).2.2=0):inI (zjj b).1.Num∧okV (zjj b).1=true∧1≤(zjj b).2.1∧(zjj b).2.1≤b.length∧zq3 (zjj b).1=b.take (zjj b).2.1∧(zjj b).1.Text.length≤30:=by
 match b,h with
 | [],h=>simp [zjj,zw1] at h
 | k::r,h =>
  unfold zjj at h ⊢
  by_cases hc:(zce k r).2.2=0∧okV (zce k r).1=true
  ·simp only [if_pos hc]
   obtain ⟨c1,c2⟩:=hc
   have ht:(zce k r).1.Text.length≤30:=by
    rcases zfj c2 with q | q | q
    ·rw [(okV1 c2 q).2]; simp
    ·rw [(okV2 c2 q).2.1]; simp
    ·exact (okV3 c2 q).2.2.1
   suffices hs:inI (zce k r).1.Num∧(zce k r).2.1≤r.length∧zq3 (zce k r).1=k::r.take (zce k r).2.1 by
    refine ⟨hs.1,c2, by omega, by simp only [List.length_cons]; omega,?_,ht⟩
    rw [hs.2.2,List.take_succ_cons]
   by_cases k1:k=1
   ·subst k1
    have hw:zce 1 r=(⟨1,(zf5 r).1,0,[]⟩,(zf5 r).2.1,(zf5 r).2.2):=by unfold zce; rw [if_pos rfl]
    rw [hw] at c1 ⊢
    have hr:=zki r
    have e0:(z0r r).2.2=0:=by
     by_cases h1:(z0r r).2.2=0
     ·exact h1
     ·rw [zmx h1] at c1; exact c1
    rw [zj9 e0] at hr ⊢
    rcases z9z r with ⟨h1,h2⟩ | ⟨n,u,h1,h2⟩
    ·rw [h2] at e0; cases e0
    ·obtain ⟨a1,a2,a3⟩:=(z2t r n u).1 h1
     have:=zbs h1
     rw [h2]
     refine ⟨zkf a1,this.2.2.2,?_⟩
     unfold zq3
     rw [if_pos rfl]
     simp only [zx4]
     rw [a3]
   by_cases k2:k=2
   ·subst k2
    have hw:zce 2 r=if r.length<8 then zw1 else (⟨2,0,UInt64.ofNat (z6i (r.take 8)),[]⟩,8,0):=by unfold zce; rw [if_neg (by decide),if_pos rfl]
    rw [hw] at c1 ⊢
    by_cases h8:r.length<8
    ·rw [if_pos h8] at c1; cases c1
    ·rw [if_neg h8]
     refine ⟨zv4, by show 8≤r.length; omega,?_⟩
     show (2:UInt8)::be8 (UInt64.ofNat (z6i (r.take 8)))=2::r.take 8
     rw [z16a _ (by rw [List.length_take]; omega)]
   by_cases k3:k=3
   ·subst k3
    have hw:zce 3 r=(⟨3,0,0,(z2k r 30 1).1⟩,(z2k r 30 1).2.1,(z2k r 30 1).2.2):=by unfold zce; rw [if_neg (by decide),if_neg (by decide),if_pos rfl]
    rw [hw] at c1 ⊢
    by_cases hb:(z0r r).2.2≠0∨(30:Int)<((z0r r).1:Int)∨(r.length - (z0r r).2.1) / 1<(z0r r).1
    ·rw [zhm (by decide) hb] at c1; cases c1
    ·have hf:=zh3 (b:=r) (k:=1) (by omega)
     rw [za7 (by decide) hb]
     have e0:(z0r r).2.2=0:=by omega
     rcases z9z r with ⟨h1,h2⟩ | ⟨n,u,h1,h2⟩
     ·rw [h2] at e0; cases e0
     ·obtain ⟨a1,a2,a3⟩:=(z2t r n u).1 h1
      have:=zbs h1
      rw [h2] at hf ⊢
      simp only [Nat.one_mul] at hf ⊢
      refine ⟨zv4, by omega,?_⟩
      show (3:UInt8)::(z0c ((r.drop u).take n).length++(r.drop u).take n)=_
      have hl:((r.drop u).take n).length=n:=by rw [List.length_take,List.length_drop]; omega
      simp only [hl]
      rw [← a3,List.take_add]
   ·exfalso
    have hw:zce k r=(⟨k,0,0,[]⟩,0,0):=by unfold zce; rw [if_neg k1,if_neg k2,if_neg k3]
    rw [hw] at c2
    rcases zfj c2 with q | q | q
    ·exact k1 q
    ·exact k2 q
    ·exact k3 q
  ·simp only [if_neg hc,zw1] at h
   cases h
end
section
open Go
def rp1:List UInt8→Option (UInt8 × List UInt8)
 | []=>none
 | x::r=>some (x,r)
def rpN (lim:Nat) (b:List UInt8):Option (Nat × List UInt8):=if (z0r b).2.2=0∧(z0r b).1≤lim then some ((z0r b).1,b.drop (z0r b).2.1) else none
def rpI (b:List UInt8):Option (List ID × List UInt8):=if (zcy b 4).2.2=0 then some ((zcy b 4).1,b.drop (zcy b 4).2.1) else none
def rpB (lim:Int) (b:List UInt8):Option (List UInt8 × List UInt8):=if (z2k b lim 1).2.2=0 then some ((z2k b lim 1).1,b.drop (z2k b lim 1).2.1) else none
def rpV (b:List UInt8):Option (z00 × List UInt8):=if (zjj b).2.2=0 then some ((zjj b).1,b.drop (zjj b).2.1) else none
def rpA (b:List UInt8):Option (z06 × List UInt8):=rp1 b >>= fun x=>if x.1=1 then some (⟨x.1,[],v0⟩,x.2) else rpB 20 x.2 >>= fun y=>if x.1=4 then rpV y.2 >>= fun z=>some (⟨x.1,y.1,z.1⟩,z.2) else some (⟨x.1,y.1,v0⟩,y.2)
def rpO (la ls le:Nat) (b:List UInt8):Option z01 :=
 rp1 b >>= fun x=>if x.1=111 then rpN la x.2 >>= fun a=>rpI a.2 >>= fun ps=>rpN ls ps.2 >>= fun st=>rpA st.2 >>= fun act=>rpN le act.2 >>= fun e=>rpN le e.2 >>= fun s =>
  if s.2=[] then some ⟨UInt32.ofNat a.1,ps.1,UInt64.ofNat st.1,act.1,⟨UInt32.ofNat e.1,UInt32.ofNat s.1⟩⟩ else none
 else none
theorem zwe {b r:List UInt8} {x:UInt8} (h:rp1 b=some (x,r)):b=x::r:=by
 cases b with
 | nil=>cases h
 | cons y l=>unfold rp1 at h; injection h with h; injection h with h1 h2; rw [h1,h2]
theorem zjq {b:List UInt8} (h:(z0r b).2.2=0):b=z0c (z0r b).1++b.drop (z0r b).2.1∧(z0r b).1<18446744073709551616∧(z0r b).2.1≤b.length:=by
 rcases z9z b with ⟨h1,h2⟩ | ⟨n,u,h1,h2⟩
 ·rw [h2] at h; cases h
 ·obtain ⟨a1,a2,a3⟩:=(z2t b n u).1 h1
  have h4:=(zbs h1).2.2.2
  rw [h2]
  refine ⟨?_,a1,h4⟩
  show b=z0c n++b.drop u
  rw [← a3,List.take_append_drop]
theorem zi8 {lim:Nat} {b r:List UInt8} {n:Nat} (h:rpN lim b=some (n,r)):b=z0c n++r∧n≤lim∧n<18446744073709551616∧r.length≤b.length:=by
 unfold rpN at h
 split at h
 ·rename_i hc
  injection h with h; injection h with h1 h2
  have hs:=zjq hc.1
  rw [h1,h2] at hs
  exact ⟨hs.1, by rw [← h1]; exact hc.2,hs.2.1, by rw [← h2,List.length_drop]; omega⟩
 ·cases h
theorem zfn {b:List UInt8} {most:Int} (h:(z2k b most 1).2.2=0):b=(z0c (z2k b most 1).1.length++(z2k b most 1).1)++b.drop (z2k b most 1).2.1∧((z2k b most 1).1.length:Int)≤most∧(z2k b most 1).2.1≤b.length:=by
 have hu:=zdg b
 by_cases h1:most<0
 ·rw [zkj h1] at h; cases h
 by_cases h2:(z0r b).2.2≠0∨most<((z0r b).1:Int)∨(b.length - (z0r b).2.1) / 1<(z0r b).1
 ·rw [zhm h1 h2] at h; cases h
 ·have hf:=zh3 (b:=b) (k:=1) (by omega)
  rw [za7 h1 h2]
  have e0:(z0r b).2.2=0:=by omega
  rcases z9z b with ⟨h3,h4⟩ | ⟨n,u,h3,h4⟩
  ·rw [h4] at e0; cases e0
  ·obtain ⟨a1,a2,a3⟩:=(z2t b n u).1 h3
   rw [h4] at hf h2 ⊢
   simp only [Nat.one_mul] at hf ⊢
   have hl:((b.drop u).take n).length=n:=by rw [List.length_take,List.length_drop]; omega
   simp only at h2
   refine ⟨?_, by rw [hl]; omega, by have:=zbs h3; omega⟩
   rw [hl,← a3,← List.take_add,List.take_append_drop]
theorem z124 {lim:Int} {b r s:List UInt8} (h:rpB lim b=some (s,r)):b=(z0c s.length++s)++r∧(s.length:Int)≤lim∧r.length≤b.length:=by
 unfold rpB at h
 split at h
 ·rename_i hc
  injection h with h; injection h with h1 h2
  have hs:=zfn hc
  rw [h1,h2] at hs
  exact ⟨hs.1,hs.2.1, by rw [← h2,List.length_drop]; omega⟩
 ·cases h
theorem zs1 {b:List UInt8} (h:(zcy b 4).2.2=0):b=(z0c (zcy b 4).1.length++zdl (zcy b 4).1)++b.drop (zcy b 4).2.1∧(zcy b 4).1.length≤4∧z74 (zcy b 4).1=true∧(zcy b 4).2.1≤b.length:=by
 unfold zcy at h ⊢
 by_cases h0:(z2k b 4 32).2.2=0
 ·obtain ⟨l1,l2,l3,l4,l5,l6⟩:=zmc h0
  have hn:(z2k b 4 32).1.length / 32=(z0r b).1:=by omega
  rw [if_neg (by simp [h0])] at h ⊢
  by_cases hi:z74 (zem (z2k b 4 32).1 ((z2k b 4 32).1.length / 32))=true
  ·rw [if_pos hi] at h ⊢
   have hs:=zjq l3
   simp only
   rw [hn] at hi ⊢
   rw [zbz,l2]
   refine ⟨?_, by omega,hi,l6⟩
   have ht:(z2k b 4 32).1.take (32 * (z0r b).1)=(b.drop (z0r b).2.1).take (32 * (z0r b).1):=by rw [l4,List.take_take,Nat.min_self]
   rw [zqx _ _ (by omega),ht,← List.drop_drop,List.append_assoc,List.take_append_drop]
   exact hs.1
  ·rw [if_neg hi] at h; cases h
 ·rw [if_pos h0] at h; exact absurd h h0
theorem z11t {b r:List UInt8} {l:List ID} (h:rpI b=some (l,r)):b=(z0c l.length++zdl l)++r∧l.length≤4∧z74 l=true∧r.length≤b.length:=by
 unfold rpI at h
 split at h
 ·rename_i hc
  injection h with h; injection h with h1 h2
  have hs:=zs1 hc
  rw [h1,h2] at hs
  exact ⟨hs.1,hs.2.1,hs.2.2.1, by rw [← h2,List.length_drop]; omega⟩
 ·cases h
theorem z12k {b r:List UInt8} {v:z00} (h:rpV b=some (v,r)):b=zq3 v++r∧okV v=true∧inI v.Num∧v.Text.length≤30∧r.length≤b.length:=by
 unfold rpV at h
 split at h
 ·rename_i hc
  injection h with h; injection h with h1 h2
  obtain ⟨e1,e2,e3,e4,e5,e6⟩:=zwn b hc
  rw [h1] at e1 e2 e5 e6
  refine ⟨?_,e2,e1,e6, by rw [← h2,List.length_drop]; omega⟩
  rw [e5,← h2,List.take_append_drop]
 ·cases h
def actB (a:z06):List UInt8:=a.Kind::(if a.Kind=1 then [] else if a.Kind=4 then zq8 a++zq3 a.Value else zq8 a)
theorem z135 {b r:List UInt8} {a:z06} (h:rpA b=some (a,r)):b=actB a++r∧inI a.Value.Num∧a.Value.Text.length≤30∧a.Key.length≤20∧r.length≤b.length:=by
 unfold rpA at h
 have z:inI v0.Num∧v0.Text.length≤30:=⟨⟨by decide, by decide⟩, by decide⟩
 cases h1:rp1 b with
 | none=>rw [h1] at h; cases h
 | some x =>
  obtain ⟨k,b1⟩:=x
  have e1:=zwe h1
  rw [h1] at h
  simp only [bs] at h
  by_cases k1:k=1
  ·rw [if_pos k1] at h
   injection h with h; injection h with h2 h3
   subst h2 h3
   refine ⟨?_,z.1,z.2, by simp, by rw [e1]; simp⟩
   rw [e1]; unfold actB; simp [k1]
  ·rw [if_neg k1] at h
   cases h2:rpB 20 b1 with
   | none=>rw [h2] at h; cases h
   | some y =>
    obtain ⟨key,b2⟩:=y
    have e2:=z124 h2
    rw [h2] at h
    simp only [bs] at h
    by_cases k4:k=4
    ·rw [if_pos k4] at h
     cases h3:rpV b2 with
     | none=>rw [h3] at h; cases h
     | some w =>
      obtain ⟨v,b3⟩:=w
      have e3:=z12k h3
      rw [h3] at h
      simp only [bs] at h
      injection h with h; injection h with h4 h5
      subst h4 h5
      refine ⟨?_,e3.2.2.1,e3.2.2.2.1, by show key.length≤20; omega, by rw [e1]; simp only [List.length_cons]; omega⟩
      rw [e1,e2.1,e3.1]; unfold actB zq8
      simp only [if_neg k1,if_pos k4,List.cons_append,List.append_assoc]
    ·rw [if_neg k4] at h
     injection h with h; injection h with h4 h5
     subst h4 h5
     refine ⟨?_,z.1,z.2, by show key.length≤20; omega, by rw [e1]; simp only [List.length_cons]; omega⟩
     rw [e1,e2.1]; unfold actB zq8
     simp only [if_neg k1,if_neg k4,List.cons_append,List.append_assoc]
theorem zo8 (o:z01):z60 o=111::(z0c o.Author.toNat++((z0c o.Preds.length++zdl o.Preds)++(z0c o.Stamp.toNat++(actB o.Act++(z0c o.Sig.E.toNat++z0c o.Sig.S.toNat))))):=by
 unfold z60 msg head actB
 by_cases k1:o.Act.Kind=1
 ·simp only [if_pos k1,List.append_assoc,List.cons_append,List.nil_append]
 ·by_cases k4:o.Act.Kind=4
  ·simp only [if_neg k1,if_pos k4,List.append_assoc,List.cons_append,List.nil_append]
  ·simp only [if_neg k1,if_neg k4,List.append_assoc,List.cons_append,List.nil_append]
theorem zvc {n:Nat} (h:n≤4294967295):(UInt32.ofNat n).toNat=n:=by simp; omega
theorem z11z {n:Nat} (h:n<18446744073709551616):(UInt64.ofNat n).toNat=n:=by simp; omega
theorem zut {la ls le:Nat} (hla:la≤4294967295) (hle:le≤4294967295) {b:List UInt8} {o:z01} (h:rpO la ls le b=some o):z60 o=b∧inI o.Act.Value.Num∧o.Act.Value.Text.length≤30∧o.Preds.length≤4:=by
 unfold rpO at h
 cases h1:rp1 b with
 | none=>rw [h1] at h; cases h
 | some x =>
  rw [h1] at h
  simp only [bs] at h
  by_cases kc:x.1=111
  ·rw [if_pos kc] at h
   cases h2:rpN la x.2 with
   | none=>rw [h2] at h; cases h
   | some a =>
    rw [h2] at h; simp only [bs] at h
    cases h3:rpI a.2 with
    | none=>rw [h3] at h; cases h
    | some ps =>
     rw [h3] at h; simp only [bs] at h
     cases h4:rpN ls ps.2 with
     | none=>rw [h4] at h; cases h
     | some st =>
      rw [h4] at h; simp only [bs] at h
      cases h5:rpA st.2 with
      | none=>rw [h5] at h; cases h
      | some act =>
       rw [h5] at h; simp only [bs] at h
       cases h6:rpN le act.2 with
       | none=>rw [h6] at h; cases h
       | some e =>
        rw [h6] at h; simp only [bs] at h
        cases h7:rpN le e.2 with
        | none=>rw [h7] at h; cases h
        | some s =>
         rw [h7] at h; simp only [bs] at h
         by_cases hz:s.2=[]
         ·rw [if_pos hz] at h
          injection h with h
          subst h
          have e1:=zwe h1
          have e2:=zi8 h2
          have e3:=z11t h3
          have e4:=zi8 h4
          have e5:=z135 h5
          have e6:=zi8 h6
          have e7:=zi8 h7
          refine ⟨?_,e5.2.1,e5.2.2.1,e3.2.1⟩
          rw [zo8]
          simp only
          rw [zvc (by omega),z11z e4.2.2.1,zvc (by omega),zvc (by omega),e1,kc,e2.1,e3.1,e4.1,e5.1,e6.1,e7.1,hz,List.append_nil]
         ·rw [if_neg hz] at h; cases h
  ·rw [if_neg kc] at h; cases h
theorem zg5 {lim n:Nat} (h:n<18446744073709551616) (hl:n≤lim) (r:List UInt8):rpN lim (z0c n++r)=some (n,r):=by
 have hr:z0r (z0c n++r)=(n,(z0c n).length,0):=za4 ((z2t _ _ _).2 ⟨h,rfl,List.take_left⟩)
 unfold rpN
 rw [hr,if_pos ⟨rfl,hl⟩]
 simp only [List.drop_left]
theorem zxd {lim:Int} {s:List UInt8} (h:s.length≤100000) (hl:(s.length:Int)≤lim) (r:List UInt8):z2k ((z0c s.length++s)++r) lim 1=(s,(z0c s.length).length+s.length,0):=by
 have hr:z0r ((z0c s.length++s)++r)=(s.length,(z0c s.length).length,0):=za4 ((z2t _ _ _).2 ⟨by omega,rfl, by rw [List.append_assoc]; exact List.take_left⟩)
 rw [za7 (by omega) (by rw [hr]; simp only [List.length_append,Nat.div_one]; omega),hr]
 simp only [Nat.one_mul]
 rw [List.append_assoc,List.drop_left,List.take_left]
theorem z10u {lim:Int} {s:List UInt8} (h:s.length≤100000) (hl:(s.length:Int)≤lim) (r:List UInt8):rpB lim ((z0c s.length++s)++r)=some (s,r):=by
 unfold rpB
 rw [zxd h hl r,if_pos rfl]
 simp only
 rw [← List.length_append,List.drop_left]
theorem zs2:∀ {l m:List ID},l.length=m.length→zdl l=zdl m→l=m
 | [],[],_,_=>rfl
 | x::l,y::m,hl,h=>by
  unfold zdl at h
  simp only [List.flatMap_cons] at h
  have e:=List.append_inj h (by simp)
  rw [Vector.toList_inj.1 e.1,zs2 (by simpa using hl) e.2]
theorem z14z {l:List ID} (h:l.length≤4) (hi:z74 l=true) (r:List UInt8):rpI ((z0c l.length++zdl l)++r)=some (l,r):=by
 have hr:z0r ((z0c l.length++zdl l)++r)=(l.length,(z0c l.length).length,0):=za4 ((z2t _ _ _).2 ⟨by omega,rfl, by rw [List.append_assoc]; exact List.take_left⟩)
 have hl:=zfi l
 have hp:z2k ((z0c l.length++zdl l)++r) 4 32=(zdl l,(z0c l.length).length+32 * l.length,0):=by
  rw [za7 (by omega) (by rw [hr]; simp only [List.length_append]; omega),hr]
  simp only
  rw [List.append_assoc,List.drop_left,← hl,List.take_left]
 have he:zem (zdl l) l.length=l:=zs2 (zbz _ _) (by rw [zqx _ _ (by omega),← hl,List.take_length])
 have hn:(zdl l).length / 32=l.length:=by omega
 have hq:zcy ((z0c l.length++zdl l)++r) 4=(l,(z0c l.length).length+32 * l.length,0):=by
  unfold zcy
  rw [hp]
  simp only [ne_eq,not_true,if_false,hn,he,hi,if_true]
 unfold rpI
 rw [hq,if_pos rfl]
 simp only
 rw [← hl,← List.length_append,List.drop_left]
theorem z151 {v:z00} (hI:inI v.Num) (h:okV v=true) (r:List UInt8):rpV (zq3 v++r)=some (v,r):=by
 unfold rpV
 rw [z136 v hI h r,if_pos rfl]
 simp only [List.drop_left]
theorem z15t {a:z06} (h:zi1 a=true) (hI:inI a.Value.Num) (r:List UInt8):rpA (actB a++r)=some (a,r):=by
 obtain ⟨k,key,v⟩:=a
 have hk:=za8 h
 unfold zi1 at h
 unfold rpA actB
 simp only at h hI hk ⊢
 simp only [List.cons_append,rp1,bs]
 by_cases k1:k=1
 ·rw [if_pos k1] at h
  simp only [Bool.and_eq_true,decide_eq_true_eq] at h
  rw [if_pos k1,if_pos k1,h.1,h.2]; rfl
 ·rw [if_neg k1] at h
  have hkey:key.length≤20:=by
   rcases hk with ⟨a,_⟩ | ⟨_,a⟩ | ⟨_,a,_⟩
   ·exact absurd a k1
   ·exact a
   ·exact a
  rw [if_neg k1,if_neg k1]
  by_cases k4:k=4
  ·have hv:okV v=true:=by
    rw [if_neg (by rw [k4]; decide),if_pos k4] at h
    simp only [Bool.and_eq_true] at h; exact h.2
   simp only [if_pos k4]
   unfold zq8
   rw [List.append_assoc (z0c _++_),z10u (by show key.length≤_; omega) (by show (key.length:Int)≤20; omega)]
   simp only [bs]
   rw [z151 hI hv]
   simp only [bs]
  ·have hv:v=v0:=by
    by_cases k23:k=2∨k=3
    ·rw [if_pos k23] at h
     simp only [Bool.and_eq_true,decide_eq_true_eq] at h; exact h.2
    ·rw [if_neg k23,if_neg k4] at h; cases h
   simp only [if_neg k4]
   unfold zq8
   rw [z10u (by show key.length≤_; omega) (by show (key.length:Int)≤20; omega)]
   simp only [bs,hv]
theorem zvw {la ls le:Nat} (hla:1000000007≤la) (hls:1000000000000≤ls) (hle:500000003≤le) {o:z01} (h:z13 o=0) (hI:inI o.Act.Value.Num):rpO la ls le (z60 o)=some o:=by
 obtain ⟨h1,h2,h3⟩:=z29 h
 have ha:=zfp h3
 have hg:=zkp h3
 unfold z92 zbh at h3
 simp only [Bool.and_eq_true,decide_eq_true_eq,Bool.not_eq_true',decide_eq_false_iff_not] at h3
 have hs:o.Stamp.toNat≤1000000000000:=by
  have:=h3.2.1
  rw [UInt64.lt_iff_toNat_lt] at this
  have e:(1000000000000:UInt64).toNat=1000000000000:=rfl
  omega
 have hA:o.Author.toNat≤1000000007:=by unfold inG gp at hg; omega
 have hE:o.Sig.E.toNat≤500000003:=by have:=h3.2.2.2.1; unfold gq at this; omega
 have hS:o.Sig.S.toNat≤500000003:=by have:=h3.2.2.2.2; unfold gq at this; omega
 rw [zo8]
 unfold rpO
 simp only [rp1,bs,if_true]
 rw [zg5 (by omega) (by omega)]
 simp only [bs]
 rw [z14z h1 h2]
 simp only [bs]
 rw [zg5 (by omega) (by omega)]
 simp only [bs]
 rw [z15t ha hI]
 simp only [bs]
 rw [zg5 (by omega) (by omega)]
 simp only [bs]
 have:=zg5 (lim:=le) (n:=o.Sig.S.toNat) (by omega) (by omega) []
 rw [List.append_nil] at this
 rw [this]
 simp only [bs,if_true]
 congr 1
 obtain ⟨A,P,T,C,⟨E,S⟩⟩:=o
 simp
end
section
open Go
def zyc {α β:Type} (p:List UInt8→Option (α × List UInt8)) (q:List UInt8→Option (β × List UInt8)) (b:List UInt8):Option ((α × β) × List UInt8):=p b >>= fun x=>(q x.2).map fun y=>((x.1,y.1),y.2)
def vwS (s:z1o):Option (List UInt8):=if s.bad then none else some s.b
structure RdS {α:Type} (s s':z1o) (p:List UInt8→Option (α × List UInt8)) (v:α):Prop where
 len:s'.b.length≤s.b.length
 ok:∀ x,(vwS s >>= p)=some x→v=x.1∧vwS s'=some x.2
 no:(vwS s >>= p)=none→vwS s'=none
theorem RdS.comp {α β γ:Type} {s s1 s2:z1o} {v:α} {w:β} {p:List UInt8→Option (α × List UInt8)} {q:List UInt8→Option (β × List UInt8)} {pq:List UInt8→Option (γ × List UInt8)} (R1:RdS s s1 p v) (R2:RdS s1 s2 q w) (f:β→γ) (h1:∀ b,p b=none→pq b=none) (h2:∀ b r,p b=some (v,r)→pq b=(q r).map fun y=>(f y.1,y.2)):RdS s s2 pq (f w) where
 len:=Nat.le_trans R2.len R1.len
 ok:=fun x hx=>by
  cases hv:vwS s with
  | none=>rw [hv] at hx; cases hx
  | some b =>
   rw [hv] at hx
   have hx':pq b=some x:=hx
   cases hp:p b with
   | none=>rw [h1 b hp] at hx'; cases hx'
   | some y =>
    obtain ⟨y1,y2⟩:=y
    have r1:=R1.ok (y1,y2) (by rw [hv]; exact hp)
    simp only at r1
    rw [← r1.1] at hp
    rw [h2 b y2 hp] at hx'
    cases hq:q y2 with
    | none=>rw [hq] at hx'; cases hx'
    | some z =>
     rw [hq] at hx'
     have r2:=R2.ok z (by rw [r1.2]; exact hq)
     simp only [Option.map_some,Option.some.injEq] at hx'
     rw [← hx']
     exact ⟨by rw [r2.1],r2.2⟩
 no:=fun hx=>by
  cases hv:vwS s with
  | none=>exact R2.no (by rw [R1.no (by rw [hv]; rfl)]; rfl)
  | some b =>
   rw [hv] at hx
   have hx':pq b=none:=hx
   cases hp:p b with
   | none=>exact R2.no (by rw [R1.no (by rw [hv]; exact hp)]; rfl)
   | some y =>
    obtain ⟨y1,y2⟩:=y
    have r1:=R1.ok (y1,y2) (by rw [hv]; exact hp)
    simp only at r1
    rw [← r1.1] at hp
    rw [h2 b y2 hp] at hx'
    cases hq:q y2 with
    | none=>exact R2.no (by rw [r1.2]; exact hq)
    | some z=>rw [hq] at hx'; cases hx'
theorem RdS.seq {α β:Type} {s s1 s2:z1o} {v:α} {w:β} {p:List UInt8→Option (α × List UInt8)} {q:List UInt8→Option (β × List UInt8)} (R1:RdS s s1 p v) (R2:RdS s1 s2 q w):RdS s s2 (zyc p q) (v,w) :=
 R1.comp R2 (fun y=>(v,y)) (fun b h=>by unfold zyc; rw [h]; rfl) (fun b r h=>by unfold zyc; rw [h]; rfl)
theorem zrl (s:z1o) (u e:Nat) (h:e=0→u≤s.b.length):z1z s (u:Int) (e:Int)=some (if e=0 then ⟨s.b.drop u,s.bad⟩ else ⟨s.b,true⟩):=by
 unfold z1z
 by_cases he:e=0
 ·rw [if_neg (by simp [he]),if_pos he,z8g (h he) (Nat.le_refl _),List.take_of_length_le (by simp)]; rfl
 ·rw [if_pos (by simp; omega),if_neg he]
theorem nx {α:Type} (s:z1o) (v:α) (u e:Nat) (p:List UInt8→Option (α × List UInt8)) (hu:e=0→u≤s.b.length) (hp:p s.b=if e=0 then some (v,s.b.drop u) else none):∃ s',z1z s (u:Int) (e:Int)=some s'∧RdS s s' p v:=by
 refine ⟨_,zrl s u e hu,?_,?_,?_⟩
 ·by_cases he:e=0
  ·rw [if_pos he]; show (s.b.drop u).length≤_; rw [List.length_drop]; omega
  ·rw [if_neg he]; exact Nat.le_refl _
 ·intro x hx
  cases hb:s.bad with
  | true=>unfold vwS at hx; rw [hb] at hx; cases hx
  | false =>
   unfold vwS at hx; rw [hb] at hx
   have hx':p s.b=some x:=hx
   rw [hp] at hx'
   by_cases he:e=0
   ·rw [if_pos he] at hx' ⊢
    injection hx' with hx'
    rw [← hx']; exact ⟨rfl,rfl⟩
   ·rw [if_neg he] at hx'; cases hx'
 ·intro hx
  by_cases he:e=0
  ·rw [if_pos he]
   cases hb:s.bad with
   | true=>rfl
   | false =>
    unfold vwS at hx; rw [hb] at hx
    have hx':p s.b=none:=hx
    rw [hp,if_pos he] at hx'; cases hx'
  ·rw [if_neg he]; rfl
theorem zsu (s:z1o):∃ v s',z7x s=some (v,s')∧RdS s s' rp1 v:=by
 obtain ⟨b,bad⟩:=s
 cases bad with
 | true=>exact ⟨0,⟨b,true⟩,rfl,Nat.le_refl _, fun x hx=>(by cases hx), fun _=>rfl⟩
 | false =>
  cases b with
  | nil=>exact ⟨0,⟨[],true⟩,rfl,Nat.le_refl _, fun x hx=>(by cases hx), fun _=>rfl⟩
  | cons x r =>
   refine ⟨x,⟨r,false⟩,?_, by simp, fun y hy=>?_, fun h=>by cases h⟩
   ·unfold z7x
    have hn:z1z ⟨x::r,false⟩ 1 0=some ⟨r,false⟩:=zrl ⟨x::r,false⟩ 1 0 (fun _=>by simp)
    have i0:idx (x::r) 0=some x:=z0i (l:=x::r) (i:=0) (by simp)
    simp only [Bool.false_eq_true,if_false,bs]
    rw [if_neg (by simp; omega),i0]
    simp only [bs]
    rw [hn]; rfl
   ·have hy':some (x,r)=some y:=hy
    injection hy' with hy'
    rw [← hy']; exact ⟨rfl,rfl⟩
theorem zjk (s:z1o) (lim:UInt64) (L:Nat) (hL:lim.toNat=L) (hb:s.b.length≤10000):∃ (v:UInt64) (s':z1o),z43 s lim=some (v,s')∧RdS s s' (rpN L) v.toNat:=by
 have hl:=zfk s.b
 have hu:=zdg s.b
 have en:(UInt64.ofNat (z0r s.b).1).toNat=(z0r s.b).1:=by simp; omega
 unfold z43
 rw [zjl s.b (by omega)]
 simp only [bs]
 rw [zrl s _ _ (fun _=>hu)]
 simp only [bs]
 obtain ⟨b,bad⟩:=s
 simp only at hl hu en hb ⊢
 by_cases he:(z0r b).2.2=0
 ·rw [if_pos he]
  cases bad with
  | true=>exact ⟨_,_,rfl, by show (b.drop _).length≤_; rw [List.length_drop]; exact Nat.sub_le _ _, fun x hx=>(by cases hx), fun _=>rfl⟩
  | false =>
   by_cases hlim:(z0r b).1≤L
   ·have hd:decide (lim<UInt64.ofNat (z0r b).1)=false:=by rw [decide_eq_false_iff_not,UInt64.lt_iff_toNat_lt,en]; omega
    refine ⟨UInt64.ofNat (z0r b).1,⟨b.drop (z0r b).2.1,false⟩, by simp [hd], by show (b.drop _).length≤_; rw [List.length_drop]; exact Nat.sub_le _ _, fun x hx=>?_, fun hx=>?_⟩
    ·have hx':rpN L b=some x:=hx
     unfold rpN at hx'
     rw [if_pos ⟨he,hlim⟩] at hx'
     injection hx' with hx'
     rw [← hx']; exact ⟨en,rfl⟩
    ·have hx':rpN L b=none:=hx
     unfold rpN at hx'
     rw [if_pos ⟨he,hlim⟩] at hx'; cases hx'
   ·have hd:decide (lim<UInt64.ofNat (z0r b).1)=true:=by rw [decide_eq_true_eq,UInt64.lt_iff_toNat_lt,en]; omega
    refine ⟨UInt64.ofNat (z0r b).1,⟨b.drop (z0r b).2.1,true⟩, by simp [hd], by show (b.drop _).length≤_; rw [List.length_drop]; exact Nat.sub_le _ _, fun x hx=>?_, fun _=>rfl⟩
    have hx':rpN L b=some x:=hx
    unfold rpN at hx'
    rw [if_neg (fun h=>hlim h.2)] at hx'; cases hx'
 ·rw [if_neg he]
  refine ⟨UInt64.ofNat (z0r b).1,⟨b,true⟩,rfl,Nat.le_refl _, fun x hx=>?_, fun _=>rfl⟩
  cases bad with
  | true=>cases hx
  | false =>
   have hx':rpN L b=some x:=hx
   unfold rpN at hx'
   rw [if_neg (fun h=>he h.1)] at hx'; cases hx'
theorem zyp (s:z1o) (hb:s.b.length≤10000):∃ s',z1z s ((zcy s.b 4).2.1:Int) ((zcy s.b 4).2.2:Int)=some s'∧RdS s s' rpI (zcy s.b 4).1 :=
 nx s _ _ _ rpI (fun h=>(zs1 h).2.2.2) (by unfold rpI; rfl)
theorem zyx (s:z1o) (lim:Int) (hb:s.b.length≤10000):∃ s',z1z s ((z2k s.b lim 1).2.1:Int) ((z2k s.b lim 1).2.2:Int)=some s'∧RdS s s' (rpB lim) (z2k s.b lim 1).1 :=
 nx s _ _ _ (rpB lim) (fun h=>(zfn h).2.2) (by unfold rpB; rfl)
theorem zyd (s:z1o) (hb:s.b.length≤10000):∃ s',z1z s ((zjj s.b).2.1:Int) ((zjj s.b).2.2:Int)=some s'∧RdS s s' rpV (zjj s.b).1 :=
 nx s _ _ _ rpV (fun h=>(zwn _ h).2.2.2.1) (by unfold rpV; rfl)
theorem zym {β:Type} (s:z1o) (hb:s.b.length≤10000):∃ (a:z06) (s':z1o),RdS s s' rpA a∧∀ K:z1o × z06→Option β,
  (z7x s >>= fun r17 =>
  (if (({ (⟨0,[],(⟨0,0,0,[]⟩:z00)⟩:z06) with Kind:=r17.1 }).Kind) != 1 then
   z5s r17.2.b 20 >>= fun r21 =>
   z1z r17.2 r21.2.1 r21.2.2 >>= fun r23 =>
   some (r23,{ { (⟨0,[],(⟨0,0,0,[]⟩:z00)⟩:z06) with Kind:=r17.1 } with Key:=r21.1 })
  else
   some (r17.2,{ (⟨0,[],(⟨0,0,0,[]⟩:z00)⟩:z06) with Kind:=r17.1 })) >>= fun s19 =>
  (if s19.2.Kind==4 then
   zak s19.1.b >>= fun r27 =>
   z1z s19.1 r27.2.1 r27.2.2 >>= fun r30 =>
   some (r30,{ s19.2 with Value:=r27.1 })
  else
   some (s19.1,s19.2)) >>= fun s25=>K s25)=K (s',a):=by
 obtain ⟨k,s1,e1,R1⟩:=zsu s
 have l1:=R1.len
 by_cases k1:k=1
 ·refine ⟨⟨1,[],v0⟩,s1,?_, fun K=>?_⟩
  ·have R0:RdS s1 s1 (fun b=>some ((),b)) ():=⟨Nat.le_refl _, fun x hx=>⟨rfl, by
    cases hv:vwS s1 with
    | none=>rw [hv] at hx; cases hx
    | some b=>rw [hv] at hx; have hx':some ((),b)=some x:=hx; injection hx' with hx'; rw [← hx']⟩, fun hx=>by
    cases hv:vwS s1 with
    | none=>rfl
    | some b=>rw [hv] at hx; cases hx⟩
   exact R1.comp R0 (pq:=rpA) (fun _=>⟨1,[],v0⟩) (fun b h=>by unfold rpA; rw [h]; rfl) (fun b r h=>by unfold rpA; rw [h,k1]; rfl)
  ·rw [e1,k1]; rfl
 ·obtain ⟨s2,e2,R2⟩:=zyx s1 20 (by omega)
  have l2:=R2.len
  have c1:(k != 1)=true:=by simpa using k1
  by_cases k4:k=4
  ·obtain ⟨s3,e3,R3⟩:=zyd s2 (by omega)
   refine ⟨⟨4,(z2k s1.b 20 1).1,(zjj s2.b).1⟩,s3,?_, fun K=>?_⟩
   ·have R23:RdS s1 s3 (fun b=>rpB 20 b >>= fun y=>(rpV y.2).map fun z=>((⟨4,y.1,z.1⟩:z06),z.2)) ⟨4,(z2k s1.b 20 1).1,(zjj s2.b).1⟩ :=
     R2.comp R3 (fun z=>(⟨4,(z2k s1.b 20 1).1,z⟩:z06)) (fun b h=>by rw [h]; rfl) (fun b r h=>by rw [h]; rfl)
    refine R1.comp R23 (pq:=rpA) id (fun b h=>by unfold rpA; rw [h]; rfl) (fun b r h=>?_)
    unfold rpA; rw [h,k4]
    simp only [bs,id]
    rw [if_neg (by decide)]
    cases rpB 20 r with
    | none=>rfl
    | some y =>
     simp only [bs,if_true]
     cases rpV y.2 <;> rfl
   ·rw [e1]
    simp only [bs,c1,if_true]
    rw [zd9 s1.b (by omega) 20 (by decide)]
    simp only [bs]
    rw [e2]
    simp only [bs]
    rw [if_pos (by simpa using k4),z14s s2.b (by omega)]
    simp only [bs]
    rw [e3,k4]
    simp only [bs]
  ·refine ⟨⟨k,(z2k s1.b 20 1).1,v0⟩,s2,?_, fun K=>?_⟩
   ·refine R1.comp R2 (pq:=rpA) (fun key=>(⟨k,key,v0⟩:z06)) (fun b h=>by unfold rpA; rw [h]; rfl) (fun b r h=>?_)
    unfold rpA; rw [h]
    simp only [bs]
    rw [if_neg k1]
    cases rpB 20 r with
    | none=>rfl
    | some y=>simp only [bs,if_neg k4,Option.map_some]
   ·rw [e1]
    simp only [bs,c1,if_true]
    rw [zd9 s1.b (by omega) 20 (by decide)]
    simp only [bs]
    rw [e2]
    simp only [bs]
    rw [if_neg (by simpa using k4)]; rfl
def pAll (la ls le:Nat):List UInt8→Option ((UInt8 × Nat × List ID × Nat × z06 × Nat × Nat) × List UInt8):=zyc rp1 (zyc (rpN la) (zyc rpI (zyc (rpN ls) (zyc rpA (zyc (rpN le) (rpN le))))))
theorem z12p (la ls le:Nat) (b:List UInt8):rpO la ls le b=match pAll la ls le b with
  | some ((c,a,ps,st,act,e,s),r)=>if c=111∧r=[] then some ⟨UInt32.ofNat a,ps,UInt64.ofNat st,act,⟨UInt32.ofNat e,UInt32.ofNat s⟩⟩ else none
  | none=>none:=by
 unfold rpO pAll
 simp only [zyc]
 cases rp1 b with
 | none=>rfl
 | some x =>
  simp only [bs]
  by_cases kc:x.1=111
  ·rw [if_pos kc]
   cases rpN la x.2 with
   | none=>rfl
   | some a =>
    simp only [bs]
    cases rpI a.2 with
    | none=>rfl
    | some ps =>
     simp only [bs]
     cases rpN ls ps.2 with
     | none=>rfl
     | some st =>
      simp only [bs]
      cases rpA st.2 with
      | none=>rfl
      | some act =>
       simp only [bs]
       cases rpN le act.2 with
       | none=>rfl
       | some e =>
        simp only [bs]
        cases rpN le e.2 with
        | none=>rfl
        | some s =>
         simp only [bs,Option.map_some]
         by_cases hz:s.2=[]
         ·rw [if_pos hz,if_pos ⟨kc,hz⟩]
         ·rw [if_neg hz,if_neg (fun h=>hz h.2)]
  ·rw [if_neg kc]
   cases h:((rpN la x.2 >>= fun x=>((rpI x.2 >>= fun x=>((rpN ls x.2 >>= fun x=>((rpA x.2 >>= fun x=>((rpN le x.2 >>= fun x=>(rpN le x.2).map fun y=>((x.1,y.1),y.2)).map fun y=>((x.1,y.1),y.2)))).map fun y=>((x.1,y.1),y.2))).map fun y=>((x.1,y.1),y.2))).map fun y=>((x.1,y.1),y.2))) with
   | none=>rfl
   | some y =>
    obtain ⟨⟨a,ps,st,act,e,s⟩,r⟩:=y
    simp only [Option.map_some]
    rw [if_neg (fun h=>kc h.1)]
def decO (b:List UInt8):z01 × Int:=match rpO 1000000007 1000000000000 500000003 b with
 | some o=>if z13 o=0 then (o,0) else (zO,12)
 | none=>(zO,12)
theorem zw9 {x:UInt64} {n:Nat} (h:x.toNat=n):x.toUInt32=UInt32.ofNat n:=by
 apply UInt32.toNat_inj.1
 rw [UInt64.toNat_toUInt32,h]; simp
end
section
open Go
theorem zvf:zdv=some (zO,12):=rfl
theorem z128 {b:List UInt8} {s7:z1o} {c:UInt8} {a:UInt64} {ps:List ID} {st:UInt64} {act:z06} {e s:UInt64} (R:RdS ⟨b,false⟩ s7 (pAll 1000000007 1000000000000 500000003) (c,a.toNat,ps,st.toNat,act,e.toNat,s.toNat)) :
  (c≠111→rpO 1000000007 1000000000000 500000003 b=none) ∧
  (s7.bad=true→rpO 1000000007 1000000000000 500000003 b=none) ∧
  (s7.bad=false→0<s7.b.length→rpO 1000000007 1000000000000 500000003 b=none) ∧
  (c=111→s7.bad=false→¬ 0<s7.b.length→rpO 1000000007 1000000000000 500000003 b=some ⟨a.toUInt32,ps,st,act,⟨e.toUInt32,s.toUInt32⟩⟩):=by
 rw [z12p]
 cases hp:pAll 1000000007 1000000000000 500000003 b with
 | none =>
  have hn:=R.no (show (vwS ⟨b,false⟩ >>= _)=none from hp)
  refine ⟨fun _=>rfl, fun _=>rfl, fun _ _=>rfl, fun _ h=>?_⟩
  unfold vwS at hn; rw [h] at hn; cases hn
 | some x =>
  obtain ⟨⟨c',a',ps',st',act',e',s'⟩,r⟩:=x
  have hk:=R.ok _ (show (vwS ⟨b,false⟩ >>= _)=some _ from hp)
  obtain ⟨h1,h2⟩:=hk
  simp only [Prod.mk.injEq] at h1 h2
  obtain ⟨rfl,h1,rfl,h3,rfl,h5,h6⟩:=h1
  have hbad:s7.bad=false:=by
   cases h:s7.bad with
   | false=>rfl
   | true=>unfold vwS at h2; rw [h] at h2; cases h2
  have hb:s7.b=r:=by unfold vwS at h2; rw [hbad] at h2; injection h2
  refine ⟨fun hc=>?_, fun h=>?_, fun _ h=>?_, fun hc _ h=>?_⟩
  ·simp only; rw [if_neg (fun h=>hc h.1)]
  ·rw [hbad] at h; cases h
  ·simp only; rw [if_neg (fun h'=>by rw [hb,h'.2] at h; simp at h)]
  ·have:r=[]:=by rw [← hb]; exact List.eq_nil_of_length_eq_zero (by omega)
   simp only
   rw [if_pos ⟨hc,this⟩,zw9 h1,zw9 h5,zw9 h6,← h3]
   congr 2
   simp
theorem zk5 (b:List UInt8) (hb:b.length≤10000):ze3 b=some (decO b):=by
 unfold ze3
 obtain ⟨c,s1,e1,R1⟩:=zsu ⟨b,false⟩
 have l1:s1.b.length≤b.length:=R1.len
 rw [e1]
 simp only [bs]
 obtain ⟨a,s2,e2,R2⟩:=zjk s1 1000000007 1000000007 rfl (by omega)
 have l2:=R2.len
 obtain ⟨s3,e3,R3⟩:=zyp s2 (by omega)
 have l3:=R3.len
 obtain ⟨st,s4,e4,R4⟩:=zjk s3 1000000000000 1000000000000 rfl (by omega)
 have l4:=R4.len
 obtain ⟨act,s5,R5,hK⟩:=zym (β:=z01 × Int) s4 (by omega)
 have l5:=R5.len
 obtain ⟨e,s6,e6,R6⟩:=zjk s5 500000003 500000003 rfl (by omega)
 have l6:=R6.len
 obtain ⟨s,s7,e7,R7⟩:=zjk s6 500000003 500000003 rfl (by omega)
 have R:=RdS.seq R1 (RdS.seq R2 (RdS.seq R3 (RdS.seq R4 (RdS.seq R5 (RdS.seq R6 R7)))))
 obtain ⟨q1,q2,q3,q4⟩:=z128 R
 by_cases hc:c=111
 ·rw [if_neg (by simp [hc]),e2]
  simp only [bs]
  rw [zzz s2.b (by omega) 4 (by decide)]
  simp only [bs]
  rw [e3]
  simp only [bs]
  rw [e4]
  simp only [bs]
  refine Eq.trans (hK _) ?_
  simp only [bs]
  rw [e6]
  simp only [bs]
  rw [e7]
  simp only [bs]
  unfold decO
  cases hbad:s7.bad with
  | true =>
   rw [q2 hbad]
   simp only [if_true,bs,zvf]
  | false =>
   simp only [Bool.false_eq_true,if_false]
   by_cases hz:0<s7.b.length
   ·rw [if_pos (by simp; omega),q3 hbad hz]
    simp only [if_true,bs,zvf]
   ·have h:=q4 hc hbad hz
    have he:=zut (by decide) (by decide) h
    rw [if_neg (by rw [decide_eq_true_eq]; omega),h]
    simp only
    rw [zdm _ (Nat.le_trans he.2.2.1 (by decide))]
    simp only [bs]
    by_cases ho:z13 ⟨a.toUInt32,(zcy s2.b 4).1,st,act,⟨e.toUInt32,s.toUInt32⟩⟩=0
    ·rw [if_pos ho,if_neg (by simp [ho])]
    ·rw [if_neg ho,if_pos (by simpa using ho)]; rfl
 ·rw [if_pos (by simpa using hc),zvf]
  unfold decO
  rw [q1 hc]; rfl
def outO (o:Option z01):z01 × Int:=match o with
 | some o=>if z13 o=0 then (o,0) else (zO,12)
 | none=>(zO,12)
theorem zyo {la ls le:Nat} (h1:1000000007≤la) (h2:1000000000000≤ls) (h3:500000003≤le) (h4:la≤4294967295) (h5:le≤4294967295) (b:List UInt8) :
  (∀ o,z13 o=0→inI o.Act.Value.Num→z60 o=b→outO (rpO la ls le b)=(o,0))∧((∃ o,z13 o=0∧inI o.Act.Value.Num∧o.Act.Value.Text.length≤30∧z60 o=b∧outO (rpO la ls le b)=(o,0))∨outO (rpO la ls le b)=(zO,12)):=by
 refine ⟨fun o ho hI he=>?_,?_⟩
 ·subst he
  rw [zvw h1 h2 h3 ho hI]
  unfold outO; simp only [if_pos ho]
 ·cases h:rpO la ls le b with
  | none=>exact .inr rfl
  | some o =>
   have he:=zut h4 h5 h
   unfold outO
   simp only
   by_cases ho:z13 o=0
   ·exact .inl ⟨o,ho,he.2.1,he.2.2.1,he.1, by rw [if_pos ho]⟩
   ·exact .inr (by rw [if_neg ho])
theorem zsr (b:List UInt8):(∀ o,z13 o=0→inI o.Act.Value.Num→z60 o=b→decO b=(o,0))∧((∃ o,z13 o=0∧inI o.Act.Value.Num∧o.Act.Value.Text.length≤30∧z60 o=b∧decO b=(o,0))∨decO b=(zO,12)):=zyo (by decide) (by decide) (by decide) (by decide) (by decide) b
end
section
open Go
def zfc (M:List z01):Prop:=(zd0 M).2=0∧(z68 M).map (·.o)=M
theorem zkl:∀ {l m:List z07},l.Perm m→l.Pairwise (fun x y=>kd x.id<kd y.id)→m.Pairwise (fun x y=>kd x.id<kd y.id)→l=m
 | [],m,hp,_,_=>(List.nil_perm.1 hp).symm
 | x::l,[],hp,_,_=>absurd hp.length_eq (by simp)
 | x::l,y::m,hp,hl,hm=>by
  obtain ⟨hx,hl'⟩:=List.pairwise_cons.1 hl
  obtain ⟨hy,hm'⟩:=List.pairwise_cons.1 hm
  have hxm:x∈y::m:=hp.mem_iff.1 (List.mem_cons_self ..)
  have hyl:y∈x::l:=hp.mem_iff.2 (List.mem_cons_self ..)
  have e:x=y:=by
   rcases List.mem_cons.1 hxm with h | h
   ·exact h
   ·rcases List.mem_cons.1 hyl with h' | h'
    ·exact h'.symm
    ·have h1:=hy x h
     have h2:=hx y h'
     omega
  subst e
  rw [zkl (List.perm_cons x |>.1 hp) hl' hm']
theorem zm2 {l:List z01} (hn:(l.map oid).Nodup):(zfx l).Pairwise fun x y=>kd x.id<kd y.id:=by
 have h1:=zgf l
 have h2:(z6y (zfx l)).Nodup:=(zcr l).nodup_iff.2 hn
 have h3:(zfx l).Pairwise fun x y=>x.id≠y.id:=List.pairwise_map.1 h2
 exact (h1.and h3).imp fun {a b} h=>by
  have:kd a.id≠kd b.id:=fun e=>h.2 (zio e)
  have:=h.1
  omega
theorem zze {l M:List z01} (hp:M.Perm l) (hn:(l.map oid).Nodup):zfx M=zfx l:=by
 have hm:(M.map oid).Nodup:=(hp.map oid).nodup_iff.2 hn
 exact zkl (((z7t M).trans (hp.map nmd)).trans (z7t l).symm) (zm2 hm) (zm2 hn)
theorem zuy {l M:List z01} (hp:M.Perm l) (h0:(zd0 l).2=0):zd0 M=(z68 l,0)∧z68 M=z68 l:=by
 obtain ⟨e,hl,hc,hn,hcl⟩:=z7g h0
 have hs:=zze hp hn
 have hcm:z68 M=z68 l:=by unfold z68; rw [hs,hp.length_eq]
 refine ⟨?_,hcm⟩
 have f:zlk M=0:=(zah M).2 fun o ho=>hc o (hp.mem_iff.1 ho)
 have hnn:(z6y (zfx M)).Nodup:=by rw [hs]; exact (zcr l).nodup_iff.2 hn
 unfold zd0
 rw [if_neg (by rw [hp.length_eq]; omega),if_neg (by rw [f]; simp),if_neg (by exact fun h=>h hnn)]
 show (if (z68 M).length=M.length then (z68 M,0) else _)=_
 rw [if_pos (by rw [hcm,hcl,hp.length_eq]),hcm]
theorem zyw {l:List z01} (h0:(zd0 l).2=0):zfc ((z68 l).map (·.o)):=by
 obtain ⟨e,hl,hc,hn,hcl⟩:=z7g h0
 have h:=zuy (z11c hcl).perm h0
 exact ⟨by rw [h.1], by rw [h.2]⟩
theorem zfc.topo {M:List z01} (h:zfc M):zu7 M:=by
 have:=zkx M
 rw [h.2] at this; exact this
theorem zfc.write {M:List z01} (h:zfc M) (hw:wfO M):z2q M=some (zd8 M,0):=by
 rw [zf9 M hw,h.1,if_pos rfl,h.2]
theorem zni {lim:Nat} {b r:List UInt8} {n:Nat} (h:rpN lim b=some (n,r)):n≤lim∧r.length≤b.length:=⟨(zi8 h).2.1,(zi8 h).2.2.2⟩
def pkN (c:z0h) (o:Option (Nat × List UInt8)):Int × z0h:=match o with
 | some (n,r)=>((n:Int),⟨r,c.bad⟩)
 | none=>(0,⟨c.b,true⟩)
theorem zgt (c:z0h) (n:Nat) (r:List UInt8):pkN c (some (n,r))=((n:Int),⟨r,c.bad⟩):=rfl
theorem zn7 (c:z0h):pkN c none=(0,⟨c.b,true⟩):=rfl
theorem zjp (c:z0h) (lim:Nat) (hl:lim≤1000000) (hb:c.b.length≤100000):z37 c (lim:Int)=some (pkN c (rpN lim c.b)):=by
 have h1:=zfk c.b
 have hu:=zdg c.b
 have en:(UInt64.ofNat (z0r c.b).1).toNat=(z0r c.b).1:=by simp; omega
 have el:(UInt64.ofInt (lim:Int)).toNat=lim:=zc6 (by omega)
 unfold z37 rpN
 rw [zjl c.b (by omega)]
 simp only [bs]
 have hd:decide (UInt64.ofInt (lim:Int)<UInt64.ofNat (z0r c.b).1)=decide (lim<(z0r c.b).1):=by rw [decide_eq_decide,UInt64.lt_iff_toNat_lt,en,el]
 rw [hd]
 by_cases he:(z0r c.b).2.2=0
 ·rw [if_neg (by simp [he])]
  simp only [bs]
  by_cases hm:(z0r c.b).1≤lim
  ·rw [decide_eq_false (by omega),if_neg (by simp),if_pos ⟨he,hm⟩,z8g hu (Nat.le_refl _),List.take_of_length_le (Nat.le_of_eq List.length_drop)]
   simp only [bs,en,pkN]
   rw [z0v (by omega) (by omega)]
  ·rw [decide_eq_true (by omega),if_pos rfl,if_neg (fun h=>hm h.2)]; rfl
 ·rw [if_pos (by simp; omega),if_neg (fun h=>he h.1)]; rfl
theorem ztz (p:ID) (r:List UInt8):zhq (Vector.replicate 32 0) (p.toList++r)=p:=by
 apply Vector.toList_inj.1
 rw [zi2]
 have e:min (p.toList++r).length 32=32:=by rw [List.length_append,Vector.length_toList]; omega
 rw [e,List.take_left' (by simp),List.drop_of_length_le (by simp),List.append_nil]
theorem z167 (c:z0h) (hb:32≤c.b.length):z6x c=some (zhq (Vector.replicate 32 0) c.b,⟨c.b.drop 32,c.bad⟩):=by
 unfold z6x
 rw [if_neg (by simp; omega)]
 have e:min c.b.length 32=32:=by omega
 rw [e,z8g hb (Nat.le_refl _),List.take_of_length_le (Nat.le_of_eq List.length_drop)]; rfl
theorem z13c (c:z0h) (hb:¬ 32≤c.b.length):z6x c=some (Vector.replicate 32 0,⟨c.b,true⟩):=by
 unfold z6x
 rw [if_pos (by simp; omega)]
theorem z10g:z0c 0=[0]:=by unfold z0c; rw [if_pos (by omega)]; rfl
theorem z10f {names:List ID} {k:Nat} {p:ID} (h:p∈names):z7q names k p=z0c (k - names.idxOf p):=by unfold z7q; rw [if_pos h]
theorem zv8 {names:List ID} {k:Nat} {p:ID} (h:p∉names):z7q names k p=z0c 0++p.toList:=by unfold z7q; rw [if_neg h,z10g]; rfl
theorem zmh (ids:List ID) (hi:ids.length≤60) (r14:Int × z0h) (c:z0h) (acc:List ID) (i:Nat) (hb:c.b.length≤100000) (ha:acc.length≤100) (hn:(i:Int)<r14.1) (hi2:i≤1000) :
  z10 ids r14 (c,acc,(i:Int))=some (.inr (match rpN ids.length c.b with
   | some (n,r)=>if h:0<n∧n≤ids.length then (⟨r,c.bad⟩,acc++[ids[ids.length - n]'(by omega)],((i+1:Nat):Int))
    else if c.bad then (⟨r,true⟩,acc,((i+1:Nat):Int))
    else if 32≤r.length then (⟨r.drop 32,false⟩,acc++[zhq (Vector.replicate 32 0) r],((i+1:Nat):Int))
    else (⟨r,true⟩,acc++[Vector.replicate 32 0],((i+1:Nat):Int))
   | none=>(⟨c.b,true⟩,acc,((i+1:Nat):Int)))):=by
 unfold z10
 rw [if_pos (by simpa using hn)]
 simp only
 rw [zjp c ids.length (by omega) hb]
 simp only [bs]
 cases hr:rpN ids.length c.b with
 | none =>
  rw [zn7]
  simp only [decide_eq_true_eq,Int.lt_irrefl,if_false,Bool.not_true,Bool.false_eq_true]
  rw [z0j (by omega)]
 | some x =>
  obtain ⟨n,r⟩:=x
  have hl:=zni hr
  rw [zgt]
  simp only
  by_cases h:0<n∧n≤ids.length
  ·rw [if_pos (show decide ((0:Int)<(n:Int))=true by rw [decide_eq_true_eq]; omega),dif_pos h]
   have e:w64 ((ids.length:Int) - (n:Int))=((ids.length - n:Nat):Int):=by rw [z0v (by omega) (by omega)]; omega
   rw [e,z0i (by omega)]
   simp only [bs]
   rw [z0x (by simp only [List.length_cons,List.length_nil]; omega)]
   simp only [bs]
   rw [z0j (by omega)]
  ·rw [if_neg (show ¬ decide ((0:Int)<(n:Int))=true by rw [decide_eq_true_eq]; omega),dif_neg h]
   cases hbad:c.bad with
   | true =>
    simp only [Bool.not_true,Bool.false_eq_true,if_false,if_true]
    rw [z0j (by omega)]
   | false =>
    simp only [Bool.not_false,if_true,Bool.false_eq_true,if_false]
    by_cases h32:32≤r.length
    ·rw [z167 ⟨r,false⟩ h32,if_pos h32]
     simp only [bs]
     rw [z0x (by simp only [List.length_cons,List.length_nil]; omega)]
     simp only [bs]
     rw [z0j (by omega)]
    ·rw [z13c ⟨r,false⟩ h32,if_neg h32]
     simp only [bs]
     rw [z0x (by simp only [List.length_cons,List.length_nil]; omega)]
     simp only [bs]
     rw [z0j (by omega)]
theorem zk0 (ids:List ID) (hi:ids.length≤60) (n:Nat) (hn:n≤4) (c0 c:z0h) (hb:c.b.length≤100000):∃ ps c',iter (z10 ids ((n:Int),c0)) (c,[],0)=some (ps,c')∧ps.length≤4∧c'.b.length≤c.b.length:=by
 obtain ⟨r,h1,h2⟩:=z7i (F:=z10 ids ((n:Int),c0)) n (fun i s=>s.2.2=(i:Int)∧s.1.b.length≤c.b.length∧s.2.1.length≤i) (fun r=>r.1.length≤4∧r.2.b.length≤c.b.length)
  (fun i s hin hs=>by
   obtain ⟨s1,s2,s3⟩:=s
   obtain ⟨e1,e2,e3⟩:=hs
   simp only at e1 e2 e3
   subst e1
   refine ⟨_,zmh ids hi _ s1 s2 i (by omega) (by omega) (by show (i:Int)<(n:Int); omega) (by omega),?_⟩
   cases hr:rpN ids.length s1.b with
   | none=>exact ⟨rfl,e2,Nat.le_succ_of_le e3⟩
   | some x =>
    obtain ⟨m,r⟩:=x
    have hl:=zni hr
    simp only
    by_cases h:0<m∧m≤ids.length
    ·rw [dif_pos h]; exact ⟨rfl, by show r.length≤_; omega, by simp only [List.length_append,List.length_cons,List.length_nil]; omega⟩
    ·rw [dif_neg h]
     split
     ·exact ⟨rfl, by show r.length≤_; omega, by show s2.length≤_; omega⟩
     ·split
      ·exact ⟨rfl, by show (r.drop 32).length≤_; rw [List.length_drop]; omega, by simp only [List.length_append,List.length_cons,List.length_nil]; omega⟩
      ·exact ⟨rfl, by show r.length≤_; omega, by simp only [List.length_append,List.length_cons,List.length_nil]; omega⟩)
  (fun s hs=>by
   obtain ⟨s1,s2,s3⟩:=s
   obtain ⟨e1,e2,e3⟩:=hs
   simp only at e1 e2 e3
   subst e1
   exact ⟨(s2,s1), by unfold z10; rw [if_neg (by simp)], by show s2.length≤4; omega,e2⟩) (c,[],0) 0 (by omega) ⟨rfl,Nat.le_refl _,Nat.le_refl _⟩
 exact ⟨r.1,r.2,h1,h2.1,h2.2⟩
theorem zrf (ids:List ID) (hi:ids.length≤60) (ps:List ID) (hp:ps.length≤4) (rest:List UInt8) (hr:rest.length≤50000) (c0:z0h) :
  iter (z10 ids ((ps.length:Int),c0)) (⟨ps.flatMap (z7q ids ids.length)++rest,false⟩,[],0)=some (ps,⟨rest,false⟩):=by
 have hlen:∀ i,((ps.drop i).flatMap (z7q ids ids.length)).length≤33 * (ps.drop i).length:=fun i=>zdd _ 33 _ fun x _=>zh0 _ _ _ (by omega)
 have h:=z3f (F:=z10 ids ((ps.length:Int),c0)) (b:=(ps,⟨rest,false⟩)) ps.length (fun i=>((⟨(ps.drop i).flatMap (z7q ids ids.length)++rest,false⟩:z0h),ps.take i,(i:Int)))
  (fun i hin=>by
   have h1:=hlen i
   rw [List.length_drop] at h1
   rw [zmh ids hi _ _ _ i (by simp only [List.length_append]; omega) (by rw [List.length_take]; omega) (by show (i:Int)<(ps.length:Int); omega) (by omega)]
   simp only
   rw [List.drop_eq_getElem_cons hin,List.flatMap_cons,List.append_assoc,List.take_succ_eq_append_getElem hin]
   by_cases hm:ps[i]∈ids
   ·have hlt:=List.idxOf_lt_length_of_mem hm
    rw [z10f hm,zg5 (by omega) (by omega)]
    simp only
    rw [dif_pos ⟨by omega, by omega⟩]
    have e:ids.length - (ids.length - ids.idxOf ps[i])=ids.idxOf ps[i]:=by omega
    simp only [e,List.getElem_idxOf]
   ·rw [zv8 hm,List.append_assoc,zg5 (by omega) (by omega)]
    simp only
    rw [dif_neg (by omega),if_neg (by simp),if_pos (by simp only [List.length_append,Vector.length_toList]; omega),ztz,List.drop_left' (by simp)])
  (by
   unfold z10
   rw [if_neg (by simp)]
   simp)
 simpa using h
end
section
open Go
theorem zvn {β σ:Type} {F:σ→Option (Sum β σ)} (n:Nat) (I:Nat→σ→Prop) (Q:β→Prop) (h1:∀ i s,i<n→I i s→(∃ s',F s=some (.inr s')∧I (i+1) s')∨(∃ b,F s=some (.inl b)∧Q b)) (h2:∀ s,I n s→∃ b,F s=some (.inl b)∧Q b):∀ (k i:Nat) (s:σ),n - i=k→i≤n→I i s→∃ b,iter F s=some b∧Q b
 | 0,i,s,hk,hi,hs=>by
  have:i=n:=by omega
  subst this
  obtain ⟨b,hb,hq⟩:=h2 s hs
  exact ⟨b,z1a hb,hq⟩
 | k+1,i,s,hk,hi,hs=>by
  rcases h1 i s (by omega) hs with ⟨s',hF,hs'⟩ | ⟨b,hF,hq⟩
  ·obtain ⟨b,hb,hq⟩:=zvn n I Q h1 h2 k (i+1) s' (by omega) (by omega) hs'
   exact ⟨b, by rw [z1s hF]; exact hb,hq⟩
  ·exact ⟨b,z1a hF,hq⟩
theorem zco {α β:Type} {f g:α→List β}:∀ l:List α,(∀ x∈l,f x=g x)→l.flatMap f=l.flatMap g
 | [],_=>rfl
 | x::l,h=>by rw [List.flatMap_cons,List.flatMap_cons,h x (List.mem_cons_self ..),zco l fun y hy=>h y (List.mem_cons_of_mem _ hy)]
def wf1 (o:z01):Prop:=inI o.Act.Value.Num∧o.Act.Value.Text.length≤9223372036854775807
theorem z105:wf1 zO:=⟨⟨by decide, by decide⟩, by decide⟩
theorem z13l (b:List UInt8):wf1 (decO b).1:=by
 rcases (zsr b).2 with ⟨o,_,hI,ht,_,hd⟩ | hd
 ·rw [hd]; exact ⟨hI,Nat.le_trans ht (by decide)⟩
 ·rw [hd]; exact z105
theorem z120 {b:List UInt8} (h:(z2k b 400 1).2.2=0):(z2k b 400 1).1.length≤400:=by have:=(zfn h).2.1; omega
theorem z15i:((4:Nat):Int)=4:=rfl
theorem zvz (c:z0h) (hb:c.b.length≤30000) (ids:List ID) (hi:ids.length≤60):∃ o c',z1v c ids=some (o,c')∧c'.b.length≤c.b.length∧wf1 o:=by
 unfold z1v
 rw [zd9 c.b (by omega) 400 (by decide)]
 simp only [bs]
 by_cases he:(z2k c.b 400 1).2.2=0
 ·have hp:=zfn he
  rw [if_neg (by simp [he]),z8g hp.2.2 (Nat.le_refl _),List.take_of_length_le (Nat.le_of_eq List.length_drop)]
  simp only [bs]
  rw [zk5 _ (by have:=z120 he; omega)]
  simp only [bs]
  have hw:=z13l (z2k c.b 400 1).1
  have hl:(c.b.drop (z2k c.b 400 1).2.1).length≤c.b.length:=by rw [List.length_drop]; omega
  generalize decO (z2k c.b 400 1).1=d at hw ⊢
  generalize c.b.drop (z2k c.b 400 1).2.1=b1 at hl ⊢
  have key:∀ x:Bool,∃ o c',(if x then some ((⟨0,[],0,(⟨0,[],(⟨0,0,0,[]⟩:z00)⟩:z06),(⟨0,0⟩:z05)⟩:z01),({ { c with b:=b1 } with bad:=true }:z0h))
   else (z37 ({ c with b:=b1 }) 4 >>= fun r14=>iter (z10 ids r14) (r14.2,d.1.Preds,0)) >>= fun s13=>some ((⟨d.1.Author,s13.1,d.1.Stamp,d.1.Act,d.1.Sig⟩:z01),s13.2))=some (o,c')∧(d.1.Preds=[]∨x=true→c'.b.length≤c.b.length∧wf1 o)∨d.1.Preds≠[]∧x=false:=by
   intro x
   cases x with
   | true=>exact ⟨zO,⟨b1,true⟩,.inl ⟨rfl, fun _=>⟨hl,z105⟩⟩⟩
   | false =>
    by_cases hd:d.1.Preds=[]
    ·simp only [Bool.false_eq_true,if_false]
     have e:=zjp ⟨b1,c.bad⟩ 4 (by decide) (by show b1.length≤_; omega)
     rw [z15i] at e
     rw [e]
     simp only [bs]
     rw [hd]
     cases hr:rpN 4 b1 with
     | none =>
      rw [zn7]
      obtain ⟨ps,c',h1,h2,h3⟩:=zk0 ids hi 0 (by decide) ⟨b1,true⟩ ⟨b1,true⟩ (by show b1.length≤_; omega)
      refine ⟨⟨d.1.Author,ps,d.1.Stamp,d.1.Act,d.1.Sig⟩,c',.inl ⟨?_, fun _=>⟨Nat.le_trans h3 hl,?_⟩⟩⟩
      ·rw [show ((0:Nat):Int)=0 from rfl] at h1
       rw [h1]; rfl
      ·exact hw
     | some y =>
      obtain ⟨n,r⟩:=y
      have hn:=zni hr
      rw [zgt]
      obtain ⟨ps,c',h1,h2,h3⟩:=zk0 ids hi n hn.1 ⟨r,c.bad⟩ ⟨r,c.bad⟩ (by show r.length≤_; omega)
      refine ⟨⟨d.1.Author,ps,d.1.Stamp,d.1.Act,d.1.Sig⟩,c',.inl ⟨?_, fun _=>⟨?_,?_⟩⟩⟩
      ·simp only
       rw [h1]; rfl
      ·exact Nat.le_trans h3 (Nat.le_trans hn.2 hl)
      ·exact hw
    ·exact ⟨zO,c,.inr ⟨hd,rfl⟩⟩
  by_cases hx:d.2=0
  ·rw [if_neg (by simp [hx])]
   simp only [bs]
   obtain ⟨o,c',h⟩:=key (decide (0<(d.1.Preds.length:Int)))
   rcases h with ⟨h1,h2⟩ | ⟨h1,h2⟩
   ·refine ⟨o,c',h1,h2 ?_⟩
    by_cases hd:d.1.Preds=[]
    ·exact .inl hd
    ·exact .inr (by rw [decide_eq_true_eq]; have:=List.length_pos_iff.2 hd; omega)
   ·exfalso
    rw [decide_eq_false_iff_not] at h2
    have:=List.length_pos_iff.2 h1; omega
  ·rw [if_pos (by simpa using hx)]
   simp only [bs]
   obtain ⟨o,c',h⟩:=key true
   rcases h with ⟨h1,h2⟩ | ⟨h1,h2⟩
   ·exact ⟨o,c',h1,h2 (.inr rfl)⟩
   ·cases h2
 ·rw [if_pos (by simp; omega)]
  exact ⟨zO,⟨c.b,true⟩,rfl,Nat.le_refl _,z105⟩
theorem zul {o:z01} (hc:z13 o=0) (hI:inI o.Act.Value.Num) (ids:List ID) (hi:ids.length≤60) (rest:List UInt8) (hr:rest.length≤40000):z1v ⟨opB ids ids.length o++rest,false⟩ ids=some (o,⟨rest,false⟩):=by
 have hn:=zfq hc
 have hIn:inI (nop o).Act.Value.Num:=hI
 have hle:=zge hn hIn
 have hp:=(z29 hc).1
 have hob:=zxj hc hI ids ids.length (by omega)
 have eb:opB ids ids.length o++rest=(z0c (z60 (nop o)).length++z60 (nop o))++(z0c o.Preds.length++(o.Preds.flatMap (z7q ids ids.length)++rest)):=by unfold opB; simp only [List.append_assoc]
 have hpl:=zdd (z7q ids ids.length) 33 o.Preds (fun x _=>zh0 _ _ _ (by omega))
 have hnl:=z0m o.Preds.length (by omega)
 have hpart:=zxd (lim:=400) (s:=z60 (nop o)) (by omega) (by omega) (z0c o.Preds.length++(o.Preds.flatMap (z7q ids ids.length)++rest))
 unfold z1v
 simp only
 rw [eb,zd9 _ (by rw [← eb,List.length_append]; omega) 400 (by decide),hpart]
 simp only [bs]
 rw [if_neg (by simp),z8g (by simp only [List.length_append]; omega) (Nat.le_refl _),List.take_of_length_le (Nat.le_of_eq List.length_drop)]
 rw [← List.length_append,List.drop_left]
 simp only [bs]
 rw [zk5 _ (by omega),(zsr _).1 (nop o) hn hIn rfl]
 simp only [bs]
 rw [if_neg (by simp), show (nop o).Preds=[] from rfl]
 simp only [bs]
 rw [if_neg (by simp)]
 have e:=zjp ⟨z0c o.Preds.length++(o.Preds.flatMap (z7q ids ids.length)++rest),false⟩ 4 (by decide) (by simp only [List.length_append]; omega)
 rw [z15i] at e
 rw [e,zg5 (by omega) (by omega),zgt]
 simp only [bs]
 rw [zrf ids hi o.Preds hp rest (by omega)]
 rfl
def zan (M:List z01) (i:Nat):List UInt8:=((List.range M.length).drop i).flatMap fun k=>opB (M.map oid) k (opJ M k)
theorem zac (M:List z01) {i:Nat} (hi:i<M.length):zan M i=opB (M.map oid) i M[i]++zan M (i+1):=by
 unfold zan
 rw [List.drop_eq_getElem_cons (by rw [List.length_range]; exact hi),List.flatMap_cons,List.getElem_range,zc3 hi]
theorem zh4 (M:List z01):zan M M.length=[]:=by unfold zan; rw [List.drop_of_length_le (by simp)]; rfl
theorem z8y (M:List z01):zd8 M=112::(z0c M.length++zan M 0):=by unfold zd8 zq2 zan; simp
theorem zzq {M:List z01} (hT:zu7 M) {i:Nat} (hi:i<M.length):opB (M.map oid) i M[i]=opB ((M.take i).map oid) i M[i]:=by
 unfold opB
 congr 1
 refine zco _ fun p hp=>?_
 have h:=zmq hT hi hp
 rw [List.map_take]
 unfold z7q
 by_cases hm:p∈(M.map oid).take i
 ·rw [if_pos (h.2 hm),if_pos hm,(zm0 hm).1]
 ·rw [if_neg (fun h'=>hm (h.1 h')),if_neg hm]
theorem zvl {M:List z01} (hb:(zd8 M).length≤30000) (i:Nat):(zan M i).length≤30000:=by
 rw [z8y] at hb
 have h:∀ j,(zan M j).length≤(zan M 0).length:=by
  intro j
  induction j with
  | zero=>exact Nat.le_refl _
  | succ j ih =>
   by_cases hj:j<M.length
   ·have:=zac M hj
    have h2:=congrArg List.length this
    rw [List.length_append] at h2
    omega
   ·have:zan M (j+1)=[]:=by unfold zan; rw [List.drop_of_length_le (by simp; omega)]; rfl
    rw [this]; exact Nat.zero_le _
 have:=h i
 simp only [List.length_cons,List.length_append] at hb
 omega
theorem zif (r10:Int × z0h) (c:z0h) (ops:List z01) (ids:List ID) (i:Nat) (hn:(i:Int)<r10.1) (ho:ops.length≤100) (hi:ids.length≤100) (hi2:i≤1000) {o:z01} {c':z0h} (h:z1v c ids=some (o,c')) (hw:wf1 o) :
  z5d r10 (c,ops,ids,(i:Int))=some (if c'.bad=true∨z13 o≠0 then .inl (.inl ([],12)) else .inr (c',ops++[o],ids++[oid o],((i+1:Nat):Int))):=by
 unfold z5d
 rw [if_pos (by simpa using hn)]
 simp only
 rw [h]
 simp only [bs]
 rw [zmz o hw.1 hw.2]
 simp only [bs]
 by_cases hbad:c'.bad=true
 ·rw [if_pos hbad,if_pos (.inl hbad)]
 ·rw [if_neg hbad]
  by_cases hc:z13 o=0
  ·rw [if_pos hc,if_neg (show ¬ (c'.bad=true∨z13 o≠0) from fun h=>h.elim hbad fun h=>h hc)]
   simp only
   rw [if_neg (by simp),z0x (by simp only [List.length_cons,List.length_nil]; omega)]
   simp only [bs]
   rw [z0x (by simp only [List.length_cons,List.length_nil]; omega)]
   simp only [bs]
   rw [z0j (by omega)]; rfl
  ·rw [if_neg hc,if_pos (show c'.bad=true∨z13 o≠0 from .inr hc)]
   simp only
   rw [if_pos (by simpa using hc)]
theorem z10s:((60:Nat):Int)=60:=rfl
theorem zo2 (n:Nat) (hn:n≤60) (c0 c:z0h) (hb:c.b.length≤30000):∃ r,iter (z5d ((n:Int),c0)) (c,[],[],0)=some r∧(r=.inl ([],12)∨∃ c' ops,r=.inr (c',ops)∧wfO ops):=by
 refine zvn (F:=z5d ((n:Int),c0)) n (fun i s=>s.2.2.2=(i:Int)∧s.1.b.length≤30000∧s.2.1.length=i∧s.2.2.1.length=i∧wfO s.2.1) (fun r=>r=.inl ([],12)∨∃ c' ops,r=.inr (c',ops)∧wfO ops) ?_ ?_ n 0 (c,[],[],0) (by omega) (by omega) ⟨rfl,hb,rfl,rfl, fun o ho=>by cases ho⟩
 ·rintro i ⟨s1,s2,s3,s4⟩ hin ⟨e1,e2,e3,e4,e5⟩
  simp only at e1 e2 e3 e4 e5
  subst e1
  obtain ⟨o,c',h,hl,hw⟩:=zvz s1 e2 s3 (by omega)
  have hs:=zif ((n:Int),c0) s1 s2 s3 i (by show (i:Int)<(n:Int); omega) (by omega) (by omega) (by omega) h hw
  by_cases hx:c'.bad=true∨z13 o≠0
  ·rw [if_pos hx] at hs
   exact .inr ⟨_,hs,.inl rfl⟩
  ·rw [if_neg hx] at hs
   refine .inl ⟨_,hs,rfl,Nat.le_trans hl e2, by simp [e3], by simp [e4],?_⟩
   intro q hq
   rcases List.mem_append.1 hq with hq | hq
   ·exact e5 q hq
   ·rw [List.mem_singleton.1 hq]; exact hw
 ·rintro ⟨s1,s2,s3,s4⟩ ⟨e1,e2,e3,e4,e5⟩
  simp only at e1 e2 e3 e4 e5
  subst e1
  exact ⟨.inr (s1,s2), by unfold z5d; rw [if_neg (by simp)],.inr ⟨s1,s2,rfl,e5⟩⟩
theorem zx6 (b:List UInt8) (h:30000<b.length):z5c b=some ([],4):=by
 unfold z5c
 rw [if_pos (by simp; omega)]
theorem zu0 (b:List UInt8) (hb:b.length≤30000):∃ r,z5c b=some r∧(r=([],12)∨∃ M,r=(M,0)∧wfO M∧z2q M=some (b,0)):=by
 unfold z5c
 rw [if_neg (by simp; omega)]
 cases b with
 | nil=>exact ⟨_,rfl,.inl rfl⟩
 | cons k r =>
  rw [if_neg (by simp; omega)]
  have i0:idx (k::r) 0=some k:=z0i (l:=k::r) (i:=0) (by simp)
  have hc:cut (k::r) 1 ((k::r).length:Int)=some r:=by
   have:=z8g (b:=k::r) (i:=1) (j:=(k::r).length) (by simp) (by simp)
   rw [show ((1:Nat):Int)=1 from rfl] at this
   rw [this]; simp
  rw [i0]
  simp only [bs]
  by_cases hk:k=112
  ·rw [if_neg (by simp [hk]),hc]
   simp only [bs]
   simp only [List.length_cons] at hb
   have e:=zjp ⟨r,false⟩ 60 (by decide) (by show r.length≤_; omega)
   rw [z10s] at e
   rw [e]
   simp only [bs]
   have hloop:∃ q,iter (z5d (pkN ⟨r,false⟩ (rpN 60 r))) ((pkN ⟨r,false⟩ (rpN 60 r)).2,[],[],0)=some q∧(q=.inl ([],12)∨∃ c' ops,q=.inr (c',ops)∧wfO ops):=by
    cases hr:rpN 60 r with
    | none=>rw [zn7]; exact zo2 0 (by decide) ⟨r,true⟩ ⟨r,true⟩ (by show r.length≤_; omega)
    | some x =>
     obtain ⟨n,r1⟩:=x
     have hl:=zni hr
     rw [zgt]; exact zo2 n hl.1 ⟨r1,false⟩ ⟨r1,false⟩ (by show r1.length≤_; omega)
   obtain ⟨q,hq,hq2⟩:=hloop
   rw [hq]
   rcases hq2 with rfl | ⟨c',ops,rfl,hw⟩
   ·exact ⟨_,rfl,.inl rfl⟩
   ·rw [znp,zf9 ops hw]
    simp only [bs]
    cases hbad:c'.bad with
    | true=>exact ⟨_,rfl,.inl rfl⟩
    | false =>
     simp only [Bool.false_eq_true,if_false]
     by_cases h0:(zd0 ops).2=0
     ·rw [if_neg (by simp [h0]),if_pos h0]
      simp only [bs,zdw]
      by_cases he:zd8 ((z68 ops).map (·.o))=k::r
      ·rw [he]
       refine ⟨(ops,0), by simp,.inr ⟨ops,rfl,hw,?_⟩⟩
       rw [zf9 ops hw,h0,if_pos rfl,he]
      ·have:(zd8 ((z68 ops).map (·.o))==k::r)=false:=by simpa using he
       rw [this]
       exact ⟨_,rfl,.inl rfl⟩
     ·rw [if_pos (by simpa using h0)]
      exact ⟨_,rfl,.inl rfl⟩
  ·rw [if_pos (by simpa using hk)]
   exact ⟨_,rfl,.inl rfl⟩
theorem zm3 {M:List z01} (hC:zfc M) (hw:wfO M) (hb:(zd8 M).length≤30000):z5c (zd8 M)=some (M,0):=by
 obtain ⟨-,hl,hc,-,-⟩:=z7g hC.1
 have ht:=zvl hb
 have hwr:=hC.write hw
 have hT:=hC.topo
 unfold z5c
 rw [if_neg (by simp; omega)]
 rw [z8y] at hb hwr ⊢
 generalize hr:z0c M.length++zan M 0=r at hb hwr ⊢
 rw [if_neg (by simp; omega)]
 have i0:idx (112::r) 0=some (112:UInt8):=z0i (l:=112::r) (i:=0) (by simp)
 have hcu:cut (112::r) 1 ((112::r).length:Int)=some r:=by
  have:=z8g (b:=112::r) (i:=1) (j:=(112::r).length) (by simp) (by simp)
  rw [show ((1:Nat):Int)=1 from rfl] at this
  rw [this]; simp
 rw [i0]
 simp only [bs]
 rw [if_neg (by simp),hcu]
 simp only [bs]
 simp only [List.length_cons] at hb
 have e:=zjp ⟨r,false⟩ 60 (by decide) (by show r.length≤_; omega)
 rw [z10s] at e
 rw [e]
 simp only [bs]
 rw [← hr,zg5 (by omega) hl,zgt]
 simp only
 have hloop:=z3f (F:=z5d ((M.length:Int),⟨zan M 0,false⟩)) (b:=.inr ((⟨[],false⟩:z0h),M)) M.length (fun i=>((⟨zan M i,false⟩:z0h),M.take i,(M.take i).map oid,(i:Int)))
  (fun i hin=>by
   have hci:=hc M[i] (List.getElem_mem hin)
   have hwi:=hw M[i] (List.getElem_mem hin)
   have hil:((M.take i).map oid).length=i:=by rw [List.length_map,List.length_take]; omega
   have hpop:z1v ⟨zan M i,false⟩ ((M.take i).map oid)=some (M[i],⟨zan M (i+1),false⟩):=by
    rw [zac M hin,zzq hT hin]
    have:=zul hci hwi.1 ((M.take i).map oid) (by omega) (zan M (i+1)) (by have:=ht (i+1); omega)
    rw [hil] at this
    exact this
   rw [zif _ _ _ _ i (by show (i:Int)<(M.length:Int); omega) (by rw [List.length_take]; omega) (by omega) (by omega) hpop hwi]
   rw [if_neg (by simp [hci]),List.take_succ_eq_append_getElem hin,List.map_append]; rfl)
  (by
   unfold z5d
   rw [if_neg (by simp),List.take_length,zh4])
 rw [show M.take 0=[] from rfl, show ([]:List z01).map oid=[] from rfl, show ((0:Nat):Int)=0 from rfl] at hloop
 rw [hloop,znp]
 simp only
 rw [hC.write hw]
 simp only [bs,Bool.false_eq_true,if_false]
 rw [if_neg (by simp),z8y]
 simp [zdw,bs]
def z98 (b:List UInt8) (M:List z01):Prop:=zfc M∧wfO M∧zd8 M=b
theorem z13h (b:List UInt8) (hb:b.length≤30000):(∃ M,z98 b M∧z5c b=some (M,0))∨((∀ M,¬ z98 b M)∧z5c b=some ([],12)):=by
 have hall:∀ M,z98 b M→z5c b=some (M,0):=fun M h=>by
  have:=zm3 h.1 h.2.1 (by rw [h.2.2]; exact hb)
  rw [h.2.2] at this; exact this
 obtain ⟨r,hr,h⟩:=zu0 b hb
 rcases h with rfl | ⟨M,rfl,hw,hwr⟩
 ·refine .inr ⟨fun M hM=>?_,hr⟩
  have:=hall M hM
  rw [hr] at this
  injection this with this; cases congrArg Prod.snd this
 ·rw [zf9 M hw] at hwr
  injection hwr with hwr
  have h0:(zd0 M).2=0:=congrArg Prod.snd hwr
  rw [h0,if_pos rfl] at hwr
  have hp:z98 b ((z68 M).map (·.o)):=⟨zyw h0,zzt (z11c (z7g h0).2.2.2.2).perm hw,congrArg Prod.fst hwr⟩
  exact .inl ⟨_,hp,hall _ hp⟩
end
section
open Go
def frc {α:Type} (x:Nat) (k:Nat→α):α:=match x with
 | 0=>k 0
 | n+1=>k (n+1)
theorem z11e {α:Type} (x:Nat) (k:Nat→α):frc x k=k x:=by cases x <;> rfl
def zrh {α:Type} (x:UInt32) (k:UInt32→α):α:=frc x.toNat fun n=>k (UInt32.ofNat n)
theorem zib {α:Type} (x:UInt32) (k:UInt32→α):zrh x k=k x:=by unfold zrh; rw [z11e,UInt32.ofNat_toNat]
def fB {α:Type}:List UInt8→(List UInt8→α)→α
 | [],k=>k []
 | x::l,k=>frc x.toNat fun n=>fB l fun m=>k (UInt8.ofNat n::m)
theorem z14p {α:Type}:∀ (l:List UInt8) (k:List UInt8→α),fB l k=k l
 | [],k=>rfl
 | x::l,k=>by rw [fB,z11e,z14p l,UInt8.ofNat_toNat]
def fW {α:Type}:List UInt32→(List UInt32→α)→α
 | [],k=>k []
 | x::l,k=>zrh x fun n=>fW l fun m=>k (n::m)
theorem z14o {α:Type}:∀ (l:List UInt32) (k:List UInt32→α),fW l k=k l
 | [],k=>rfl
 | x::l,k=>by rw [fW,zib,z14o l]
def wL:Nat→List UInt8→List UInt32
 | 0,_=>[]
 | n+1,l=>zyb l 0::wL n (l.drop 4)
theorem zvv (l:List UInt8) (k:Nat):zyb (l.drop 4) k=zyb l (k+1):=by
 unfold zyb
 have e:∀ j,(l.drop 4).getD (4 * k+j) 0=l.getD (4 * (k+1)+j) 0:=fun j=>by
  rw [List.getD_eq_getElem?_getD,List.getD_eq_getElem?_getD,List.getElem?_drop]
  congr 2; omega
 have e0:=e 0
 rw [Nat.add_zero,Nat.add_zero] at e0
 rw [e0,e 1,e 2,e 3]
theorem z16g:∀ (n:Nat) (l:List UInt8),wL n l=(List.range n).map (zyb l)
 | 0,l=>rfl
 | n+1,l=>by
  rw [wL,z16g n,List.range_succ_eq_map,List.map_cons,List.map_map]
  exact congrArg (List.cons (zyb l 0)) (List.map_congr_left fun k hk=>zvv l k)
def sF {α:Type}:Nat→List UInt32→(List UInt32→α)→α
 | 0,r,k=>k r.reverse
 | n+1,r,k=>zrh (((r.getD 15 0+r.getD 6 0)+sg0 (r.getD 14 0))+sg1 (r.getD 1 0)) fun w=>sF n (w::r) k
theorem zjd (l:List UInt32) (i:Nat) (h:i<l.length):l.reverse.getD i 0=l.getD (l.length - (i+1)) 0:=by
 rw [List.getD_eq_getElem?_getD,List.getD_eq_getElem?_getD,List.getElem?_reverse h]
 congr 2
 omega
theorem z164 {α:Type} (b:List UInt8) (k:List UInt32→α):∀ (n m:Nat),sF n (z5o b m).reverse k=k (z5o b (m+n))
 | 0,m=>by rw [sF,List.reverse_reverse]; rfl
 | n+1,m=>by
  have hl:=zda b m
  rw [sF,zib,zjd _ 15 (by omega),zjd _ 6 (by omega),zjd _ 14 (by omega),zjd _ 1 (by omega)]
  have:((((z5o b m).getD ((z5o b m).length - (15+1)) 0+(z5o b m).getD ((z5o b m).length - (6+1)) 0)+sg0 ((z5o b m).getD ((z5o b m).length - (14+1)) 0))+sg1 ((z5o b m).getD ((z5o b m).length - (1+1)) 0))::(z5o b m).reverse=(z5o b (m+1)).reverse:=by
   show _=(zql (z5o b m)).reverse
   unfold zql
   rw [List.reverse_append]; rfl
  rw [this,z164 b k n (m+1)]
  congr 2; omega
def rF {α:Type}:List UInt32→List UInt32→O8→(O8→α)→α
 | q::K,w::W,s,k=>zrh (rnd1 q w s) fun t=>zrh (t+rnd2 s) fun x=>zrh (s.2.2.2.1+t) fun y=>rF K W (x,s.1,s.2.1,s.2.2.1,y,s.2.2.2.2.1,s.2.2.2.2.2.1,s.2.2.2.2.2.2.1) k
 | _,_,s,k=>k s
theorem z15c {α:Type} (K W:List UInt32) (hK:K.length=64) (hW:W.length=64) (s:O8) (k:O8→α):∀ (n i:Nat),64 - i=n→i≤64→rF (K.drop i) (W.drop i) (zss K W s i) k=k (zss K W s 64)
 | 0,i,h,hi=>by
  have:i=64:=by omega
  subst this
  rw [List.drop_eq_nil_of_le (by omega)]; rfl
 | n+1,i,h,hi=>by
  rw [List.drop_eq_getElem_cons (by omega),List.drop_eq_getElem_cons (by omega:i<W.length),rF,zib,zib,zib]
  rw [← z15c K W hK hW s k n (i+1) (by omega) (by omega)]
  congr 1
  rw [zss,rnd,List.getD_eq_getElem?_getD,List.getD_eq_getElem?_getD,List.getElem?_eq_getElem (by omega),List.getElem?_eq_getElem (by omega)]
  rfl
def grK {α:Type} (h:O8) (b:List UInt8) (k:O8→α):α :=
 fW (wL 16 b).reverse fun r=>sF 48 r fun W=>rF z69.toList W h fun s =>
 zrh (h.1+s.1) fun a=>zrh (h.2.1+s.2.1) fun b=>zrh (h.2.2.1+s.2.2.1) fun c=>zrh (h.2.2.2.1+s.2.2.2.1) fun d =>
 zrh (h.2.2.2.2.1+s.2.2.2.2.1) fun e=>zrh (h.2.2.2.2.2.1+s.2.2.2.2.2.1) fun f=>zrh (h.2.2.2.2.2.2.1+s.2.2.2.2.2.2.1) fun g=>zrh (h.2.2.2.2.2.2.2+s.2.2.2.2.2.2.2) fun z=>k (a,b,c,d,e,f,g,z)
def add8 (h s:O8):O8:=(h.1+s.1,h.2.1+s.2.1,h.2.2.1+s.2.2.1,h.2.2.2.1+s.2.2.2.1,h.2.2.2.2.1+s.2.2.2.2.1,h.2.2.2.2.2.1+s.2.2.2.2.2.1,h.2.2.2.2.2.2.1+s.2.2.2.2.2.2.1,h.2.2.2.2.2.2.2+s.2.2.2.2.2.2.2)
theorem z102 (h v:Vector UInt32 8):∀ j (hj:j<8),(addV h v)[j]=h[j]+v[j]:=by
 obtain ⟨r,h1,h2⟩:=z7i (F:=z1n v) 8 (fun i s=>s.2=(i:Int)∧∀ j (hj:j<8),s.1[j]=if j<i then h[j]+v[j] else h[j]) (fun r=>∀ j (hj:j<8),r[j]=h[j]+v[j]) (fun i s hi hs=>by
  obtain ⟨u,k⟩:=s
  obtain ⟨hs,hu⟩:=hs
  simp only at hs hu
  subst hs
  unfold z1n
  rw [if_pos (by simp; omega)]
  rw [z78 (show i<8 by omega),z78 (show i<8 by omega)]
  simp only [bS,z0j (show i<9223372036854775807 by omega)]
  refine ⟨_,rfl,rfl, fun j hj=>?_⟩
  simp only
  rw [zea hj,hu j hj,hu i hi]
  simp only [Int.toNat_natCast]
  by_cases e:i=j
  ·subst e; simp
  ·rw [if_neg e]
   by_cases l:j<i
   ·rw [if_pos l,if_pos (by omega)]
   ·rw [if_neg l,if_neg (by omega)]) (fun s hs=>by
  obtain ⟨u,k⟩:=s
  obtain ⟨hs,hu⟩:=hs
  simp only at hs hu
  subst hs
  unfold z1n
  rw [if_neg (by simp)]
  exact ⟨_,rfl, fun j hj=>by rw [hu j hj,if_pos hj]⟩) (h,0) 0 (by omega) ⟨rfl, fun j hj=>by simp⟩
 unfold addV
 rw [h1]
 exact h2
theorem z12z (h s:O8):addV (toV h) (toV s)=toV (add8 h s):=by
 apply Vector.ext
 intro j hj
 rw [z102]
 match j,hj with
 | 0,_=>rfl
 | 1,_=>rfl
 | 2,_=>rfl
 | 3,_=>rfl
 | 4,_=>rfl
 | 5,_=>rfl
 | 6,_=>rfl
 | 7,_=>rfl
theorem z138 (s:O8):ofV (toV s)=s:=rfl
theorem z14h {α:Type} (h:O8) (b:List UInt8) (k:O8→α):∃ s,gr (toV h) b=toV s∧grK h b k=k s:=by
 refine ⟨add8 h (zss z69.toList (z5o b 48) h 64),?_,?_⟩
 ·unfold gr
  rw [z138,z12z]
 ·unfold grK
  have e:wL 16 b=z5o b 0:=z16g 16 b
  rw [z14o,e,z164 b _ 48 0]
  have:=z15c z69.toList (z5o b 48) zn6 (by rw [zda]) h (fun s=>k (add8 h s)) 64 0 rfl (by omega)
  rw [← this]
  simp only [zib]
  rfl
def blkK {α:Type}:Nat→O8→List UInt8→(O8→α)→α
 | 0,h,b,k=>k h
 | n+1,h,b,k=>grK h (b.take 64) fun s=>blkK n s (b.drop 64) k
theorem zxu {α:Type}:∀ (n:Nat) (h:O8) (b:List UInt8) (k:O8→α),b.length=64 * n→∃ s,blk (toV h) b=toV s∧blkK n h b k=k s
 | 0,h,b,k,hb=>⟨h,znt (by omega),rfl⟩
 | n+1,h,b,k,hb=>by
  obtain ⟨s,s1,s2⟩:=z14h h (b.take 64) (fun s=>blkK n s (b.drop 64) k)
  obtain ⟨t,t1,t2⟩:=zxu n s (b.drop 64) k (by rw [List.length_drop]; omega)
  refine ⟨t,?_,?_⟩
  ·rw [zp8 (by omega),s1,t1]
  ·rw [blkK,s2,t2]
def H8:O8:=(1779033703,3144134277,1013904242,2773480762,1359893119,2600822924,528734635,1541459225)
def shaK {α:Type} (b:List UInt8) (k:O8→α):α:=fB (b++tl b.length) fun m=>blkK (m.length / 64) H8 m k
theorem z156 (n:Nat):(n+(tl n).length) % 64=0:=by
 unfold tl z7o zrs
 simp
 omega
theorem z126 {α:Type} (b:List UInt8) (k:O8→α):∃ s,sha b=wr (toV s)∧shaK b k=k s:=by
 have hl:=z156 b.length
 obtain ⟨s,s1,s2⟩:=zxu ((b++tl b.length).length / 64) H8 (b++tl b.length) k (by rw [List.length_append]; omega)
 refine ⟨s,?_,?_⟩
 ·unfold sha
  rw [show H0=toV H8 from rfl,s1]
 ·unfold shaK
  rw [z14p,s2]
def z11v (b:List UInt8) (s:O8):Bool:=shaK b fun t=>t==s
theorem z15j {b:List UInt8} {s:O8} (h:z11v b s=true):sha b=wr (toV s):=by
 unfold z11v at h
 obtain ⟨t,t1,t2⟩:=z126 b (fun t=>t==s)
 rw [t2] at h
 rw [t1,eq_of_beq h]
end
section
open Go
@[irreducible] def idv (s:O8):V3:=wr (toV s)
theorem zqu {b:List UInt8} {s:O8} (h:z11v b s=true):sha b=idv s:=by rw [idv]; exact z15j h
def wds (s:O8):List UInt32:=[s.1,s.2.1,s.2.2.1,s.2.2.2.1,s.2.2.2.2.1,s.2.2.2.2.2.1,s.2.2.2.2.2.2.1,s.2.2.2.2.2.2.2]
@[irreducible] def wrL (s:O8):List UInt8:=(List.range 32).map fun i=>(z51 ((wds s).getD (i / 4) 0) (24 - 8 * (i % 4))).toUInt8
theorem zty {α:Type} (n:Nat) (g:Nat→α):(Vector.ofFn (fun i:Fin n=>g i.val)).toList=(List.range n).map g:=by
 apply List.ext_getElem
 ·simp
 ·intro i h1 h2
  simp
theorem z123 (h:Vector UInt32 8):(wr h).toList=(List.range 32).map fun i=>(z51 (h.toList.getD (i / 4) 0) (24 - 8 * (i % 4))).toUInt8:=by
 rw [← zty 32 (fun i=>(z51 (h.toList.getD (i / 4) 0) (24 - 8 * (i % 4))).toUInt8)]
 have:∀ i (hi:i / 4<8),h[i / 4]=h.toList.getD (i / 4) 0:=fun i hi=>by
  rw [List.getD_eq_getElem?_getD,List.getElem?_eq_getElem (by simpa using hi)]
  simp
 unfold wr
 exact congrArg (fun f=>(Vector.ofFn f).toList) (funext fun i=>by rw [this i.val (by omega)])
theorem zt0 (s:O8):(idv s).toList=wrL s:=by
 rw [idv,z123,wrL]
 rfl
theorem zxv (s:O8):kd (idv s)=nk (wrL s):=by unfold kd; rw [zt0]
theorem zrq:∀ P:List O8,zdl (P.map idv)=P.flatMap wrL
 | []=>rfl
 | a::l=>by
  have:=zrq l
  unfold zdl at this ⊢
  rw [List.map_cons,List.flatMap_cons,List.flatMap_cons,this,zt0]
end
section
open Go
def ia8:O8:=(970372312,2442032114,4196713698,873319014,2597337110,1109282703,3353382519,590280687)
def ib8:O8:=(3577164125,4011542332,3331852227,3499622753,1708370532,3436663303,883092666,547847311)
def xa0:z01:=⟨4,[],7,⟨2,[97],⟨0,0,0,[]⟩⟩,⟨5,6⟩⟩
def xb0:z01:=⟨4,[idv ia8],7,⟨2,[97],⟨0,0,0,[]⟩⟩,⟨5,6⟩⟩
def ea:List UInt8:=[111,4,0,7,2,1,97,5,6]
def eb:List UInt8:=[111,4,1]++(wrL ia8++[7,2,1,97,5,6])
theorem zfg (n:Nat) (h:n≤247):z0c n=[UInt8.ofNat n]:=by unfold z0c; rw [if_pos h]
theorem zws:z60 xa0=ea:=by
 unfold z60 msg
 rw [if_neg (by decide),if_neg (by decide)]
 unfold head zq8
 rw [zfg xa0.Author.toNat (by decide),zfg xa0.Preds.length (by decide),zfg xa0.Stamp.toNat (by decide),zfg xa0.Act.Key.length (by decide),zfg xa0.Sig.E.toNat (by decide),zfg xa0.Sig.S.toNat (by decide)]
 rfl
theorem z17g:z60 xb0=eb:=by
 unfold z60 msg
 rw [if_neg (by decide),if_neg (by decide)]
 unfold head zq8
 rw [zfg xb0.Author.toNat (by decide),zfg xb0.Preds.length (by decide),zfg xb0.Stamp.toNat (by decide),zfg xb0.Act.Key.length (by decide),zfg xb0.Sig.E.toNat (by decide),zfg xb0.Sig.S.toNat (by decide)]
 rw [show zdl xb0.Preds=wrL ia8 from by
  show zdl ([ia8].map idv)=_
  rw [zrq]; simp]
 unfold eb
 simp only [List.append_assoc]
 rfl
theorem z127:z92 xa0=true:=by
 unfold z92
 have h:inG xa0.Author.toNat:=zmm z110 1
 rw [decide_eq_true h]
 decide
theorem zt7:z13 xa0=0:=by
 unfold z13
 rw [if_neg (by decide),if_neg (by decide),if_pos z127]
theorem z146:z13 xb0=0:=by
 unfold z13
 rw [if_neg (by decide),if_neg (by show ¬ z74 [idv ia8]=false; simp [z74]),if_pos (show z92 xb0=true from z127)]
set_option maxRecDepth 100000 in
theorem zog:oid xa0=idv ia8:=by
 unfold oid
 rw [zws]
 exact zqu (by decide +kernel)
set_option maxRecDepth 100000 in
theorem zl6:oid xb0=idv ib8:=by
 unfold oid
 rw [z17g]
 exact zqu (by decide +kernel)
theorem z15q:kd (idv ia8)<kd (idv ib8):=by rw [zxv,zxv]; decide +kernel
theorem zpo:idv ia8≠idv ib8:=fun e=>by have:=z15q; rw [e] at this; exact absurd this (Nat.lt_irrefl _)
theorem wf_a:inI xa0.Act.Value.Num∧xa0.Act.Value.Text.length≤9223372036854775807:=⟨⟨by decide, by decide⟩, by decide⟩
theorem wf_l {l:List z01} (h:∀ o∈l,o=xa0∨o=xb0):wfO l:=fun o ho=>by
 rcases h o ho with e | e <;> subst e <;> exact wf_a
theorem zm8 {l:List z01} (h:∀ o∈l,o=xa0∨o=xb0):∀ o∈l,z13 o=0:=fun o ho=>by
 rcases h o ho with e | e <;> subst e
 ·exact zt7
 ·exact z146
theorem zf0 {l m:List z01} (hl:l.length≤60) (hc:∀ o∈l,z13 o=0) (hn:(l.map oid).Nodup) (h:z68 l=m.map nmd) (hm:m.length=l.length):zd0 l=(m.map nmd,0):=by
 unfold zd0
 rw [if_neg (by omega),if_neg (by rw [(zah l).2 hc]; simp),if_neg (fun h=>h ((zcr l).nodup_iff.2 hn))]
 unfold z68 at h
 rw [h,if_pos (by simp [hm])]
theorem z12t (o:z01):zfx [o]=[nmd o]:=List.perm_singleton.1 (z7t [o])
theorem zjo (o:z01) (h:oid o∉o.Preds):z68 [o]=[o].map nmd:=by
 unfold z68
 rw [z12t]
 have hf:free (z6y [nmd o]) (nmd o)=true:=by
  unfold free
  rw [List.all_eq_true]
  intro p hp
  have:p∉z6y [nmd o]:=fun h2=>by
   simp only [z6y,List.map_cons,List.map_nil,List.mem_singleton] at h2
   subst h2
   exact h hp
  simp [this]
 show zad 1 [nmd o]=[nmd o]
 unfold zad
 rw [List.findIdx?_cons,hf]
 rfl
theorem z12g:zfx [xb0,xa0]=[nmd xa0,nmd xb0]:=by
 have hp:(zfx [xb0,xa0]).Perm [nmd xa0,nmd xb0]:=(z7t _).trans (List.Perm.swap _ _ _)
 have ha:(nmd xa0).id=idv ia8:=zog
 have hb:(nmd xb0).id=idv ib8:=zl6
 have hlt:=z15q
 refine hp.eq_of_pairwise (le:=fun a b:z07=>kd a.id≤kd b.id) (fun a b h1 h2 h3 h4=>?_) (zgf _) ?_
 ·have h1:=hp.mem_iff.1 h1
  simp only [List.mem_cons,List.not_mem_nil,or_false] at h1 h2
  rcases h1 with e | e <;> rcases h2 with e2 | e2 <;> rw [e,e2] at h3 h4 ⊢
  ·rw [ha,hb] at h3 h4; omega
  ·rw [ha,hb] at h3 h4; omega
 ·simp only [List.pairwise_cons,List.mem_cons,List.not_mem_nil,or_false,List.Pairwise.nil,and_true]
  refine ⟨fun x hx=>?_, fun x hx=>hx.elim⟩
  rw [hx,ha,hb]; omega
theorem zr3:z68 [xb0,xa0]=[xa0,xb0].map nmd:=by
 unfold z68
 rw [z12g]
 have ha:(nmd xa0).id=idv ia8:=zog
 have hb:(nmd xb0).id=idv ib8:=zl6
 have hf:free (z6y [nmd xa0,nmd xb0]) (nmd xa0)=true:=rfl
 have hf2:free (z6y [nmd xb0]) (nmd xb0)=true:=by
  unfold free z6y
  rw [List.map_cons,List.map_nil,hb]
  have:idv ia8∉[idv ib8]:=by simp [zpo]
  show ([idv ia8].all fun p=>!decide (p∈[idv ib8]))=true
  simp [this,zpo]
 show zad 2 [nmd xa0,nmd xb0]=[nmd xa0,nmd xb0]
 unfold zad
 rw [List.findIdx?_cons,hf]
 show nmd xa0::zad 1 [nmd xb0]=_
 unfold zad
 rw [List.findIdx?_cons,hf2]
 rfl
theorem z16o:nop xb0=xa0:=rfl
theorem z175:nop xa0=xa0:=rfl
theorem z166 (names:List ID) (i:Nat):opB names i xa0=[9]++ea++[0]:=by
 unfold opB
 rw [z175,zws,zfg ea.length (by decide),zfg xa0.Preds.length (by decide)]
 rfl
theorem z16f (names:List ID) (i:Nat):opB names i xb0=[9]++ea++[1]++z7q names i (idv ia8):=by
 unfold opB
 rw [z16o,zws,zfg ea.length (by decide),zfg xb0.Preds.length (by decide)]
 show _++[idv ia8].flatMap (z7q names i)=_
 rw [List.flatMap_cons,List.flatMap_nil,List.append_nil]
 rfl
theorem z104:z2q []=some ([112,0],0):=by
 have h:zd0 []=([].map nmd,0):=zf0 (l:=[]) (m:=[]) (by simp) (by simp) (by simp) (by
  unfold z68
  rfl) rfl
 rw [zhg [] (fun o ho=>by simp at ho),h,if_pos rfl]
 unfold zd8 zq2
 rw [zfg _ (by simp)]
 rfl
theorem z15y:z2q [xa0]=some ([112,1,9]++ea++[0],0):=by
 have hm:∀ o∈[xa0],o=xa0∨o=xb0:=fun o ho=>.inl (by simpa using ho)
 rw [zhg [xa0] (wf_l hm),zf0 (m:=[xa0]) (by simp) (zm8 hm) (by simp) (zjo xa0 (by simp [xa0])) rfl,if_pos rfl]
 show some (zd8 [xa0],(0:Int))=_
 unfold zd8 zq2
 rw [zfg _ (by simp)]
 show some ([112,1]++(List.range 1).flatMap (fun k=>opB ([xa0].map oid) k (opJ [xa0] k)),(0:Int))=_
 rw [show List.range 1=[0] from rfl,List.flatMap_cons,List.flatMap_nil, show opJ [xa0] 0=xa0 from rfl,z166]
 rfl
theorem z15m:z2q [xb0]=some ([112,1,9]++ea++[1,0]++(idv ia8).toList,0):=by
 have hm:∀ o∈[xb0],o=xa0∨o=xb0:=fun o ho=>.inr (by simpa using ho)
 have hb:oid xb0∉xb0.Preds:=by
  rw [zl6]
  show idv ib8∉[idv ia8]
  simp [zpo.symm]
 rw [zhg [xb0] (wf_l hm),zf0 (m:=[xb0]) (by simp) (zm8 hm) (by simp) (zjo xb0 hb) rfl,if_pos rfl]
 show some (zd8 [xb0],(0:Int))=_
 unfold zd8 zq2
 rw [zfg _ (by simp)]
 show some ([112,1]++(List.range 1).flatMap (fun k=>opB ([xb0].map oid) k (opJ [xb0] k)),(0:Int))=_
 rw [show List.range 1=[0] from rfl,List.flatMap_cons,List.flatMap_nil, show opJ [xb0] 0=xb0 from rfl,z16f]
 have:z7q ([xb0].map oid) 0 (idv ia8)=0::(idv ia8).toList:=by
  unfold z7q
  rw [if_neg (by rw [List.map_cons,List.map_nil,zl6]; simp [zpo])]
 rw [this]
 simp
theorem z12s:z2q [xb0,xa0]=some ([112,2,9]++ea++[0]++([9]++ea++[1,1]),0):=by
 have hm:∀ o∈[xb0,xa0],o=xa0∨o=xb0:=fun o ho=>by
  simp only [List.mem_cons,List.not_mem_nil,or_false] at ho
  exact ho.symm
 have hn:([xb0,xa0].map oid).Nodup:=by
  rw [List.map_cons,List.map_cons,List.map_nil,zog,zl6]
  simp [zpo.symm]
 rw [zhg [xb0,xa0] (wf_l hm),zf0 (m:=[xa0,xb0]) (by simp) (zm8 hm) hn zr3 rfl,if_pos rfl]
 show some (zd8 [xa0,xb0],(0:Int))=_
 unfold zd8 zq2
 rw [zfg _ (by simp)]
 show some ([112,2]++(List.range 2).flatMap (fun k=>opB ([xa0,xb0].map oid) k (opJ [xa0,xb0] k)),(0:Int))=_
 rw [show List.range 2=[0,1] from rfl,List.flatMap_cons,List.flatMap_cons,List.flatMap_nil, show opJ [xa0,xb0] 0=xa0 from rfl, show opJ [xa0,xb0] 1=xb0 from rfl,z166,z16f]
 have:z7q ([xa0,xb0].map oid) 1 (idv ia8)=[1]:=by
  unfold z7q
  rw [List.map_cons,List.map_cons,List.map_nil,zog,zl6,if_pos (by simp),List.idxOf_cons_self,zfg _ (by decide)]
  rfl
 rw [this]
 simp
theorem zjf {l:List z01} {b:List UInt8} (h:z2q l=some (b,0)) (hb:b.length≤1000) {c:List UInt8} (hc:b=c):z41 l c=some true:=by
 subst hc
 unfold z41
 rw [h]
 simp only [bS]
 rw [if_pos (by rfl),zzl _ _ (by omega)]
 simp
theorem zt1:z6r=some (xa0,xb0,true):=by
 unfold z6r
 rw [show zpb (⟨4,[],7,(⟨2,([97]:List UInt8),(⟨0,0,0,[]⟩:z00)⟩:z06),(⟨5,6⟩:z05)⟩:z01)=some (idv ia8,0) from by
  have h:=zmz xa0 wf_a.1 wf_a.2
  rw [if_pos zt7] at h
  have e:sha (z60 xa0)=idv ia8:=zog
  rw [e] at h; exact h]
 rfl
theorem zop:z8n=some true:=by
 unfold z8n
 rw [zt1]
 simp only [bS]
 rw [if_neg (by simp)]
 rw [z0x (by simp)]
 simp only [bS]
 rw [z0x (by simp)]
 simp only [bS]
 rw [z0x (by simp)]
 simp only [bS]
 rw [z0x (by simp)]
 simp only [bS]
 rw [z0x (by simp)]
 simp only [bS]
 rw [z0x (by simp)]
 simp only [bS]
 rw [z0x (by simp)]
 simp only [bS]
 rw [show idx xb0.Preds 0=some (idv ia8) from rfl]
 simp only [bS]
 rw [z0x (by simp)]
 simp only [bS]
 rw [z0x (by simp)]
 simp only [bS]
 rw [zjf z104 (by simp) rfl]
 simp only [bS]
 rw [if_pos trivial,zjf z15y (by simp [ea]) (by simp [ea])]
 simp only [bS]
 rw [if_pos trivial,zjf z12s (by simp [ea]) (by simp [ea])]
 simp only [bS]
 rw [if_pos trivial,zjf z15m (by simp [ea]) (by simp [ea])]
 rfl
end
section
open Go
theorem zfc.small {M:List z01} (h:zfc M):M.length≤60∧∀ o∈M,o.Preds.length≤4:=⟨(z7g h.1).2.1, fun o ho=>(z29 ((z7g h.1).2.2.1 o ho)).1⟩
theorem zoy {M:List z01} (h:zfc M):z38 M M=some true:=by
 have:=h.small
 rw [zlp M M (by omega) (fun o ho=>by have:=this.2 o ho; omega)]; simp
end
section
open Go
theorem not5:¬ inG 5:=fun h=>by
 have h:=h.2.2
 rw [← zr8 64 5 gq gp (by decide)] at h
 exact absurd h (by decide +kernel)
theorem z8t {b:List UInt8} (hb:b.length≤30000) (h:∀ M,¬ z98 b M):z0b b=some true:=by
 unfold z0b
 rcases z13h b hb with ⟨M,hM,-⟩ | ⟨-,hr⟩
 ·exact absurd hM (h M)
 ·rw [hr]; rfl
theorem zm7 {n m:Nat} (hn:n<18446744073709551616) (hm:m<18446744073709551616) {r s:List UInt8} (h:z0c n++r=z0c m++s):n=m∧r=s:=by
 have h1:=zg5 (lim:=18446744073709551616) hn (by omega) r
 rw [h,zg5 hm (by omega) s] at h1
 injection h1 with h1
 injection h1 with h1 h2
 exact ⟨h1.symm,h2.symm⟩
theorem zhs {n:Nat} (h:n≤247) (s:List UInt8):UInt8.ofNat n::s=z0c n++s:=by rw [zfg n h]; rfl
theorem z12o {a b:z01} (ha:z13 a=0) (hb:z13 b=0) (ia:inI a.Act.Value.Num) (ib:inI b.Act.Value.Num) (h:z60 a=z60 b):a=b:=by
 have h1:=zvw (la:=1000000007) (ls:=1000000000000) (le:=500000003) (by decide) (by decide) (by decide) ha ia
 rw [h,zvw (by decide) (by decide) (by decide) hb ib] at h1
 exact (Option.some.inj h1).symm
theorem zj7 {k:UInt8} {s:List UInt8} {M:List z01} (h:z98 (112::k::s) M):k=UInt8.ofNat M.length∧M.length≤60∧zan M 0=s:=by
 have hl:=(z7g h.1.1).2.1
 have e:=h.2.2
 rw [z8y,zfg _ (by omega)] at e
 simp only [List.cons_append,List.nil_append,List.cons.injEq,true_and] at e
 exact ⟨e.1.symm,hl,e.2⟩
theorem zjb {n m:Nat} (hn:n≤255) (hm:m≤255) (h:UInt8.ofNat n=UInt8.ofNat m):n=m:=by
 have:=congrArg UInt8.toNat h
 simp at this; omega
theorem zri {o:z01} {names:List ID} {k:Nat} {t s:List UInt8} (hc:z13 o=0) (hI:inI o.Act.Value.Num) (h:opB names k o++t=9::(ea++s)):nop o=xa0∧z0c o.Preds.length++(o.Preds.flatMap (z7q names k)++t)=s:=by
 have hn:=zfq hc
 have hIn:inI (nop o).Act.Value.Num:=hI
 have hle:=zge hn hIn
 unfold opB at h
 rw [show (9:UInt8)=UInt8.ofNat 9 from rfl,zhs (by omega)] at h
 simp only [List.append_assoc] at h
 obtain ⟨h1,h2⟩:=zm7 (by omega) (by omega) h
 have h3:=List.append_inj h2 (by rw [h1]; rfl)
 refine ⟨z12o hn zt7 hIn wf_a.1 (by rw [h3.1,zws]),h3.2⟩
theorem zf1 {o:z01} (h:zfc [o]):z13 o=0∧o.Preds.length≤4∧z74 o.Preds=true∧∀ p∈o.Preds,p∉[oid o]:=by
 have hc:=(z7g h.1).2.2.1 o (by simp)
 refine ⟨hc,(z29 hc).1,(z29 hc).2.1, fun p hp=>?_⟩
 exact h.topo 0 (by simp) p hp
theorem znj {o:z01} {s:List UInt8} (hC:zfc [o]) (hw:wfO [o]) (h:zan [o] 0=9::(ea++s)):nop o=xa0∧z0c o.Preds.length++o.Preds.flatMap (fun p=>0::p.toList)=s:=by
 obtain ⟨hc,h4,hi,ht⟩:=zf1 hC
 have hwo:=hw o (by simp)
 rw [zac [o] (by simp), show zan [o] (0+1)=[] from zh4 [o]] at h
 obtain ⟨h1,h2⟩:=zri hc hwo.1 h
 refine ⟨h1,?_⟩
 rw [← h2,List.append_nil]
 refine congrArg (fun l=>z0c o.Preds.length++l) ?_
 exact zco _ fun p hp=>by
  unfold z7q
  exact (if_neg (ht p hp)).symm
theorem zsn {o q:z01} {s:List UInt8} (hC:zfc [o,q]) (hw:wfO [o,q]) (h:zan [o,q] 0=9::(ea++(0::9::(ea++s)))):o=xa0∧nop q=xa0∧z0c q.Preds.length++q.Preds.flatMap (z7q [oid o,oid q] 1)=s:=by
 have ho:=(z7g hC.1).2.2.1 o (by simp)
 have hq:=(z7g hC.1).2.2.1 q (by simp)
 have wo:=hw o (by simp)
 have wq:=hw q (by simp)
 rw [zac [o,q] (by simp)] at h
 obtain ⟨h1,h2⟩:=zri ho wo.1 h
 rw [show (0:UInt8)=UInt8.ofNat 0 from rfl,zhs (by omega)] at h2
 have h4:=(z29 ho).1
 obtain ⟨h5,h6⟩:=zm7 (by omega) (by omega) h2
 have hp:o.Preds=[]:=List.eq_nil_of_length_eq_zero h5
 rw [hp,List.flatMap_nil,List.nil_append,zac [o,q] (by simp), show zan [o,q] (0+1+1)=[] from zh4 [o,q]] at h6
 obtain ⟨h7,h8⟩:=zri hq wq.1 h6
 refine ⟨?_,h7,?_⟩
 ·rw [← h1]; unfold nop
  obtain ⟨A,P,T,C,S⟩:=o
  simp only at hp
  rw [hp]
 ·rw [List.append_nil] at h8; exact h8
theorem zvp {k:UInt8} {s:List UInt8} (h:k≠112) (M:List z01):¬ z98 (k::s) M:=fun hM=>by
 have:=hM.2.2
 rw [z8y] at this
 injection this with h1
 exact h h1.symm
theorem z14n (M:List z01):¬ z98 [] M:=fun hM=>by
 have:=hM.2.2
 rw [z8y] at this
 cases this
theorem z13d (M:List z01):¬ z98 [112] M:=fun hM=>by
 have:=hM.2.2
 have hl:=(z7g hM.1.1).2.1
 rw [z8y,zfg _ (by omega)] at this
 cases this
theorem z13q (M:List z01):¬ z98 [112,0,0] M:=fun hM=>by
 obtain ⟨h1,h2,h3⟩:=zj7 hM
 have hl:=zjb (n:=0) (by omega) (by omega) h1
 have:M=[]:=List.eq_nil_of_length_eq_zero hl.symm
 subst this
 cases h3
theorem zs9 {k:Nat} (hk:60<k) (hk2:k≤255) (s:List UInt8) (M:List z01):¬ z98 (112::UInt8.ofNat k::s) M:=fun hM=>by
 obtain ⟨h1,h2,h3⟩:=zj7 hM
 have hl:=zjb (by omega) (by omega) h1
 omega
theorem z11o {M:List z01} (h:M.length=1):∃ o,M=[o]:=List.length_eq_one_iff.1 h
theorem z13e {M:List z01} (h:M.length=2):∃ o q,M=[o,q]:=by
 match M,h with
 | [o,q],_=>exact ⟨o,q,rfl⟩
theorem zt8 (s:List UInt8) (h:∀ o,zfc [o]→wfO [o]→zan [o] 0≠s) (M:List z01):¬ z98 (112::1::s) M:=fun hM=>by
 obtain ⟨h1,h2,h3⟩:=zj7 hM
 have hl:=zjb (n:=1) (by omega) (by omega) h1
 obtain ⟨o,rfl⟩:=z11o hl.symm
 exact h o hM.1 hM.2.1 h3
theorem z10x (s:List UInt8) (h:∀ o q,zfc [o,q]→wfO [o,q]→zan [o,q] 0≠s) (M:List z01):¬ z98 (112::2::s) M:=fun hM=>by
 obtain ⟨h1,h2,h3⟩:=zj7 hM
 have hl:=zjb (n:=2) (by omega) (by omega) h1
 obtain ⟨o,q,rfl⟩:=z13e hl.symm
 exact h o q hM.1 hM.2.1 h3
theorem z15o (M:List z01):¬ z98 [112,1] M:=zt8 [] (fun o hC hw h=>by
 have hl:=congrArg List.length h
 have:=z0m (z60 (nop o)).length (by have:=zge (zfq (zf1 hC).1) (hw o (by simp)).1; omega)
 rw [zac [o] (by simp)] at hl
 unfold opB at hl
 simp only [List.length_append,List.length_nil,List.getElem_cons_zero] at hl
 omega) M
theorem no_6 (M:List z01):¬ z98 (112::1::9::(ea++[])) M:=zt8 _ (fun o hC hw h=>by
 have h2:=(znj hC hw h).2
 have:=z0m o.Preds.length (by have:=(zf1 hC).2.1; omega)
 have hl:=congrArg List.length h2
 simp only [List.length_append,List.length_nil] at hl
 omega) M
theorem z15r (l:List ID):(l.flatMap fun p=>0::p.toList).length=33 * l.length:=by
 induction l with
 | nil=>rfl
 | cons a l ih=>rw [List.flatMap_cons,List.length_append,ih]; simp; omega
theorem zmt {n:Nat} (hn:n≤247) (s:List UInt8) (hs:s.length≠33 * n) (M:List z01):¬ z98 (112::1::9::(ea++(UInt8.ofNat n::s))) M:=zt8 _ (fun o hC hw h=>by
 have h2:=(znj hC hw h).2
 rw [zhs hn] at h2
 obtain ⟨h3,h4⟩:=zm7 (by have:=(zf1 hC).2.1; omega) (by omega) h2
 have hl:=congrArg List.length h4
 rw [z15r,h3] at hl
 exact hs hl.symm) M
theorem z14u {o q:z01} (hC:zfc [o,q]):oid o≠oid q:=by
 have:=(z7g hC.1).2.2.2.1
 simp only [List.map_cons,List.map_nil,List.nodup_cons,List.mem_singleton] at this
 exact this.1
theorem zz3 (M:List z01):¬ z98 (112::2::9::(ea++(0::9::(ea++[0])))) M:=z10x _ (fun o q hC hw h=>by
 obtain ⟨h1,h2,h3⟩:=zsn hC hw h
 have hq:=(z7g hC.1).2.2.1 q (by simp)
 rw [show ([0]:List UInt8)=UInt8.ofNat 0::[] from rfl,zhs (by omega)] at h3
 obtain ⟨h4,-⟩:=zm7 (by have:=(z29 hq).1; omega) (by omega) h3
 have hp:q.Preds=[]:=List.eq_nil_of_length_eq_zero h4
 have hqa:q=xa0:=by
  rw [← h2]; unfold nop
  obtain ⟨A,P,T,C,S⟩:=q
  simp only at hp
  rw [hp]
 exact z14u hC (by rw [h1,hqa])) M
theorem z12q (M:List z01):¬ z98 (112::2::9::(ea++(0::9::(ea++(1::0::(idv ia8).toList))))) M:=z10x _ (fun o q hC hw h=>by
 obtain ⟨h1,h2,h3⟩:=zsn hC hw h
 have hq:=(z7g hC.1).2.2.1 q (by simp)
 rw [show (1:UInt8)=UInt8.ofNat 1 from rfl,zhs (by omega)] at h3
 obtain ⟨h4,h5⟩:=zm7 (by have:=(z29 hq).1; omega) (by omega) h3
 obtain ⟨p,hp⟩:=List.length_eq_one_iff.1 h4
 rw [hp,List.flatMap_cons,List.flatMap_nil,List.append_nil] at h5
 have ha:oid o=idv ia8:=by rw [h1]; exact zog
 unfold z7q at h5
 by_cases hm:p∈[oid o,oid q]
 ·rw [if_pos hm,zfg _ (by omega)] at h5
  have hl:=congrArg List.length h5
  simp at hl
 ·rw [if_neg hm] at h5
  injection h5 with _ h5
  have:=Vector.toList_inj.1 h5
  exact hm (by rw [this,ha]; simp)) M
end
section
open Go
def iw8:O8:=(3561386928,275453375,921503827,2145620071,2382741541,773828967,3992389926,992421005)
def wid (i:UInt8):ID:=z7d (Vector.replicate 32 0) ((0:Nat):Int) i
def zft (i:UInt8):List UInt8:=i::List.replicate 31 0
theorem zj2 (i:UInt8):(wid i).toList=zft i:=by
 apply List.ext_getElem
 ·simp [zft]
 ·intro j h1 h2
  have hj:j<32:=by simpa using h1
  rw [Vector.getElem_toList]
  unfold wid
  rw [zea hj]
  by_cases h:j=0
  ·subst h; rfl
  ·obtain ⟨k,rfl⟩:∃ k,j=k+1:=⟨j - 1, by omega⟩
   have e:(zft i)[k+1]'h2=(List.replicate 31 (0:UInt8))[k]'(by rw [List.length_replicate]; omega):=rfl
   rw [if_neg (by simp),e,List.getElem_replicate,Vector.getElem_replicate]
def zxz:List ID:=[wid 1,wid 2,wid 3,wid 4]
def xw0:z01:=⟨4,zxz,7,⟨2,[97],⟨0,0,0,[]⟩⟩,⟨5,6⟩⟩
def ew:List UInt8:=[111,4,4]++((zft 1++(zft 2++(zft 3++zft 4)))++[7,2,1,97,5,6])
theorem z14c:zdl zxz=zft 1++(zft 2++(zft 3++zft 4)):=by
 unfold zxz zdl
 simp only [List.flatMap_cons,List.flatMap_nil,List.append_nil,zj2]
theorem z170:z60 xw0=ew:=by
 unfold z60 msg
 rw [if_neg (by decide),if_neg (by decide)]
 unfold head zq8
 rw [zfg xw0.Author.toNat (by decide),zfg xw0.Preds.length (by decide),zfg xw0.Stamp.toNat (by decide),zfg xw0.Act.Key.length (by decide),zfg xw0.Sig.E.toNat (by decide),zfg xw0.Sig.S.toNat (by decide)]
 rw [show zdl xw0.Preds=_ from z14c]
 unfold ew
 simp only [List.append_assoc]
 rfl
theorem zsg (i:UInt8):kd (wid i)=nk (zft i):=by unfold kd; rw [zj2]
theorem z15z:z74 zxz=true:=by
 rw [zcz]
 unfold zxz
 simp only [List.pairwise_cons,List.mem_cons,List.not_mem_nil,or_false,List.Pairwise.nil,and_true,forall_eq_or_imp,forall_eq,zsg,false_imp_iff,implies_true]
 decide +kernel
theorem z159:z13 xw0=0:=by
 unfold z13
 rw [if_neg (by decide),if_neg (by show ¬ z74 zxz=false; rw [z15z]; simp),if_pos (show z92 xw0=true from z127)]
set_option maxRecDepth 100000 in
theorem z179:oid xw0=idv iw8:=by
 unfold oid
 rw [z170]
 exact zqu (by decide +kernel)
theorem z13j:oid xw0∉xw0.Preds:=by
 rw [z179]
 show idv iw8∉zxz
 intro h
 have h2:kd (idv iw8)∈[nk (zft 1),nk (zft 2),nk (zft 3),nk (zft 4)]:=by
  have:kd (idv iw8)∈zxz.map kd:=List.mem_map.2 ⟨_,h,rfl⟩
  unfold zxz at this
  simp only [List.map_cons,List.map_nil,zsg] at this
  exact this
 rw [zxv] at h2
 revert h2
 decide +kernel
theorem wf_w:wfO [xw0]:=fun o ho=>by
 rw [List.mem_singleton.1 ho]; exact wf_a
theorem zrm:zfc [xw0]:=by
 have h:zd0 [xw0]=([xw0].map nmd,0):=zf0 (m:=[xw0]) (by simp) (fun o ho=>by rw [List.mem_singleton.1 ho]; exact z159) (by simp) (zjo xw0 z13j) rfl
 refine ⟨by rw [h],?_⟩
 rw [zjo xw0 z13j]; rfl
def zl5:List UInt8:=112::1::9::(ea++(4::((0::zft 1)++((0::zft 2)++((0::zft 3)++(0::zft 4))))))
def z11x:List UInt8:=112::1::9::(ea++(4::((0::zft 2)++((0::zft 1)++((0::zft 3)++(0::zft 4))))))
theorem zvr:zd8 [xw0]=zl5:=by
 rw [z8y,zfg _ (by simp),zac [xw0] (by simp), show zan [xw0] (0+1)=[] from zh4 [xw0]]
 have hp:xw0.Preds.flatMap (z7q ([xw0].map oid) 0)=(0::zft 1)++((0::zft 2)++((0::zft 3)++(0::zft 4))):=by
  have e:xw0.Preds.flatMap (z7q ([xw0].map oid) 0)=xw0.Preds.flatMap fun p=>0::p.toList:=zco _ fun p hp=>by
   unfold z7q
   exact if_neg fun h=>by
    rw [List.map_cons,List.map_nil,List.mem_singleton] at h
    rw [h] at hp
    exact z13j hp
  rw [e]
  show zxz.flatMap (fun p=>0::p.toList)=_
  unfold zxz
  simp only [List.flatMap_cons,List.flatMap_nil,List.append_nil,zj2]
 simp only [List.getElem_cons_zero]
 unfold opB
 rw [hp, show z60 (nop xw0)=ea from zws,zfg ea.length (by decide),zfg xw0.Preds.length (by decide)]
 rfl
theorem zxc {p:ID} {i:UInt8} (h:p.toList=zft i):p=wid i:=Vector.toList_inj.1 (by rw [h,zj2])
theorem zx9 (M:List z01):¬ z98 z11x M:=zt8 _ (fun o hC hw h=>by
 have h2:=(znj hC hw h).2
 obtain ⟨-,h4,hi,-⟩:=zf1 hC
 rw [show (4:UInt8)=UInt8.ofNat 4 from rfl,zhs (by omega)] at h2
 obtain ⟨h5,h6⟩:=zm7 (by omega) (by omega) h2
 match hp:o.Preds,h5 with
 | [a,b,c,d],_ =>
  rw [hp] at h6 hi
  simp only [List.flatMap_cons,List.flatMap_nil,List.append_nil] at h6
  have e1:=List.append_inj h6 (by simp [zft])
  have e2:=List.append_inj e1.2 (by simp [zft])
  have ha:a=wid 2:=zxc (by injection e1.1)
  have hb:b=wid 1:=zxc (by injection e2.1)
  rw [zcz,List.pairwise_cons] at hi
  have:=hi.1 b (by simp)
  rw [ha,hb,zsg,zsg] at this
  revert this
  decide +kernel) M
end
section
open Go
variable {g a b:z0d}
structure Fit (g:z0d) (n:Nat):Prop where
 ids:g.IDs.length=g.Ops.length
 len:g.Ops.length≤n
 ri:z74 g.IDs=true
 op:∀ o∈g.Ops,o.Preds.length≤20∧o.Act.Key.length≤100∧o.Act.Value.Text.length≤100
end
section
open Go
variable {g h a b:z0d} {n m:Nat}
def znh (g:z0d) (x:ID):Option z01:=if x∈g.IDs then g.Ops[g.IDs.idxOf x]? else none
theorem zzb (F:Fit g n) {x:ID} {o:z01}:znh g x=some o↔∃ i:Nat,g.IDs[i]? = some x∧g.Ops[i]? = some o:=by
 unfold znh
 constructor
 ·intro h
  split at h
  ·rename_i hx
   exact ⟨_, by rw [List.getElem?_eq_getElem (List.idxOf_lt_length_of_mem hx)]; simp,h⟩
  ·cases h
 ·rintro ⟨i,h1,h2⟩
  obtain ⟨hi,rfl⟩:=List.getElem?_eq_some_iff.1 h1
  rw [if_pos (List.getElem_mem hi),zmk F.ri hi,h2]
theorem zhi (F:Fit g n) {i:Nat} (hi:i<g.Ops.length):znh g (g.IDs[i]'(by rw [F.ids]; exact hi))=some g.Ops[i] :=
 (zzb F).2 ⟨i,List.getElem?_eq_getElem (by rw [F.ids]; exact hi),List.getElem?_eq_getElem hi⟩
def z16k (g:z0d) (rk:ID→Nat):Prop:=∀ x o,znh g x=some o→∀ p∈o.Preds,rk p<rk x
structure z153 (g:z0d):Prop where
 ops:∀ x o,znh g x=some o→zis o=0∧sha (z60 o)=x∧o.Preds.length≤4∧z74 o.Preds=true
 ins:∀ x o,znh g x=some o→∀ p∈o.Preds,p∈g.IDs
 rk:∃ rk,z16k g rk
theorem z132 (F:Fit g 60) (S:z153 g):z15h g:=by
 have hl:=F.len
 have E:zfw g:=⟨hl,F.ids,F.ri, fun i hi=>(S.ops _ _ (zhi F hi)).2.2⟩
 have hin:ziy g=true:=by
  unfold ziy
  rw [List.all_eq_true]
  intro o ho
  rw [List.all_eq_true]
  intro p hp
  obtain ⟨i,hi,rfl⟩:=List.getElem_of_mem ho
  simpa using S.ins _ _ (zhi F hi) p hp
 obtain ⟨rk,hrk⟩:=S.rk
 refine ⟨E, fun i hi=>?_,hin, fun i hi=>?_⟩
 ·obtain ⟨k1,k2,-⟩:=S.ops _ _ (zhi F hi)
  exact ⟨k1,k2.trans (zff (by rw [F.ids]; exact hi)).symm⟩
 ·have key:∀ r i (hi:i<g.Ops.length),rk (g.IDs[i]'(by rw [F.ids]; exact hi))=r→Wf (z3c g) i:=by
   intro r
   induction r using Nat.strongRecOn with
   | _ r ih =>
    intro i hi hr
    refine .mk i fun p hp=>?_
    unfold z3c at hp
    obtain ⟨x,hx,rfl⟩:=List.mem_map.1 hp
    rw [zcj hi] at hx
    have hlt:=hrk _ _ (zhi F hi) x hx
    have hxm:=S.ins _ _ (zhi F hi) x hx
    have hpl:g.IDs.idxOf x<g.IDs.length:=List.idxOf_lt_length_of_mem hxm
    refine ih (rk x) (by omega) (g.IDs.idxOf x) (by rw [← F.ids]; exact hpl) ?_
    congr 1
    simp
  exact key _ i hi rfl
end
section
open Go
variable {g:z0d} {n:Nat}
theorem z15g:z153 (⟨[],[]⟩:z0d):=⟨fun x o h=>by simp [znh] at h, fun x o h=>by simp [znh] at h, fun _=>0, fun x o h=>by simp [znh] at h⟩
theorem z16v (F:Fit g n) (hn:n≤1000) (h:∀ o∈g.Ops,zpj o):zcs g:=by
 have h1:=F.len; have h2:=F.ids
 exact ⟨⟨fun x _ y _=>trivial, by omega⟩,⟨h, by omega⟩,trivial⟩
end
section
open Go
theorem ztq:(z0b [] >>= fun r11 =>
  if r11 then
   z0b [112] >>= fun r15 =>
   if r15 then
    z0b [111,0] >>= fun r19 =>
    if r19 then
     z0b [112,0,0] >>= fun r23 =>
     if r23 then
      z0b [112,1] >>= fun r27 =>
      if r27 then
       app 1 [112,1] [9,111,4,0,7,2,1,97,5,6] >>= fun x31 =>
       z0b x31 >>= fun r34 =>
       if r34 then
        app 1 ([]:List UInt8) [9,111,4,0,7,2,1,97,5,6] >>= fun x39 =>
        app 1 x39 [1,1] >>= fun x43 =>
        app 1 [112,1] x43 >>= fun x46 =>
        z0b x46 >>= fun r49 =>
        if r49 then
         app 1 ([]:List UInt8) [9,111,4,0,7,2,1,97,5,6] >>= fun x54 =>
         app 1 x54 [1,0] >>= fun x58 =>
         app 1 [112,1] x58 >>= fun x61 =>
         z0b x61 >>= fun r64 =>
         if r64 then
          app 1 ([]:List UInt8) [9,111,4,0,7,2,1,97,5,6] >>= fun x69 =>
          app 1 x69 [5] >>= fun x73 =>
          app 1 [112,1] x73 >>= fun x76 =>
          z0b x76 >>= fun r79 =>
          if r79 then
           z0b [112,248,0] >>= fun r83 =>
           if r83 then
            z0b [112,61] >>= fun r87 =>
            some r87
           else
            some false
          else
           some false
         else
          some false
        else
         some false
       else
        some false
      else
       some false
     else
      some false
    else
     some false
   else
    some false
  else
   some false)=some true:=by
 have f1:z0b []=some true:=z8t (by decide) z14n
 have f2:z0b [112]=some true:=z8t (by decide) z13d
 have f3:z0b [111,0]=some true:=z8t (by decide) (zvp (by decide))
 have f4:z0b [112,0,0]=some true:=z8t (by decide) z13q
 have f5:z0b [112,1]=some true:=z8t (by decide) z15o
 have f6:z0b ([112,1]++[9,111,4,0,7,2,1,97,5,6])=some true:=z8t (by decide) no_6
 have f7:z0b ([112,1]++([]++[9,111,4,0,7,2,1,97,5,6]++[1,1]))=some true:=z8t (by decide) (zmt (n:=1) (by decide) [1] (by decide))
 have f8:z0b ([112,1]++([]++[9,111,4,0,7,2,1,97,5,6]++[1,0]))=some true:=z8t (by decide) (zmt (n:=1) (by decide) [0] (by decide))
 have f9:z0b ([112,1]++([]++[9,111,4,0,7,2,1,97,5,6]++[5]))=some true:=z8t (by decide) (zmt (n:=5) (by decide) [] (by decide))
 have f10:z0b [112,248,0]=some true:=z8t (by decide) (zs9 (k:=248) (by decide) (by decide) [0])
 have f11:z0b [112,61]=some true:=z8t (by decide) (zs9 (k:=61) (by decide) (by decide) [])
 rw [f1]
 simp only [bS,if_true]
 rw [f2]
 simp only [bS,if_true]
 rw [f3]
 simp only [bS,if_true]
 rw [f4]
 simp only [bS,if_true]
 rw [f5]
 simp only [bS,if_true]
 rw [z0x (by decide)]
 simp only [bS]
 rw [f6]
 simp only [bS,if_true]
 rw [z0x (by decide)]
 simp only [bS]
 rw [z0x (by decide)]
 simp only [bS]
 rw [z0x (by decide)]
 simp only [bS]
 rw [f7]
 simp only [bS,if_true]
 rw [z0x (by decide)]
 simp only [bS]
 rw [z0x (by decide)]
 simp only [bS]
 rw [f8]
 simp only [bS,if_true]
 rw [z0x (by decide)]
 simp only [bS]
 rw [z0x (by decide)]
 simp only [bS]
 rw [f9]
 simp only [bS,if_true]
 rw [f10]
 simp only [bS,if_true]
 rw [f11]
 simp only [bS]
theorem zz7 {l:List z01} (h:60<l.length):(zd0 l).2=4:=by unfold zd0; rw [if_pos h]
def bad5:z01:=⟨5,[],7,⟨2,[97],⟨0,0,0,[]⟩⟩,⟨5,6⟩⟩
theorem z10y:z13 bad5=8:=by
 unfold z13
 rw [if_neg (by decide),if_neg (by decide)]
 have:z92 bad5=false:=by
  unfold z92
  rw [show decide (inG bad5.Author.toNat)=false from decide_eq_false not5]; rfl
 rw [this]; rfl
theorem z13f:(zd0 [xa0,bad5]).2=8:=by
 have hf:zlk [xa0,bad5]=8:=by
  simp only [zlk]
  rw [if_pos zt7,if_neg (by rw [z10y]; decide),z10y]
 unfold zd0
 rw [if_neg (by decide),if_pos (by rw [hf]; decide),hf]
theorem zo6:(zd0 [xa0,xb0,xa0]).2=14:=by
 have hm:∀ o∈[xa0,xb0,xa0],o=xa0∨o=xb0:=fun o ho=>by
  simp only [List.mem_cons,List.not_mem_nil,or_false] at ho
  rcases ho with h | h | h
  ·exact .inl h
  ·exact .inr h
  ·exact .inl h
 have hn:¬ (z6y (zfx [xa0,xb0,xa0])).Nodup:=fun h=>by
  have:=(zcr _).nodup_iff.1 h
  simp at this
 unfold zd0
 rw [if_neg (by decide),if_neg (by rw [(zah _).2 (zm8 hm)]; decide),if_pos hn]
theorem z17c:(zd0 [xb0]).2=0:=by
 have hm:∀ o∈[xb0],o=xa0∨o=xb0:=fun o ho=>.inr (by simpa using ho)
 have hb:oid xb0∉xb0.Preds:=by
  rw [zl6]
  show idv ib8∉[idv ia8]
  simp [zpo.symm]
 rw [zf0 (m:=[xb0]) (by simp) (zm8 hm) (by simp) (zjo xb0 hb) rfl]
theorem m_ba:∀ o∈[xb0,xa0],o=xa0∨o=xb0:=fun o ho=>by
 simp only [List.mem_cons,List.not_mem_nil,or_false] at ho
 exact ho.symm
theorem z11g:(zd0 [xb0,xa0]).2=0:=by
 have hn:([xb0,xa0].map oid).Nodup:=by
  rw [List.map_cons,List.map_cons,List.map_nil,zog,zl6]
  simp [zpo.symm]
 rw [zf0 (m:=[xa0,xb0]) (by simp) (zm8 m_ba) hn zr3 rfl]
theorem z16n:z3x [xb0]=some ([idv ia8],0):=by
 obtain ⟨s,h1,h2,h3⟩:=zmb (wf_l (fun o ho=>.inr (by simpa using ho))) z17c
 have:s=[idv ia8]:=z13k h2 rfl fun x=>by
  rw [h3]
  unfold outS
  rw [List.map_cons,List.map_nil,zl6]
  simp only [List.mem_singleton,exists_eq_left]
  show x∈[idv ia8]∧_↔_
  rw [List.mem_singleton]
  exact ⟨fun h=>h.1, fun h=>⟨h, fun h'=>zpo (h.symm.trans h')⟩⟩
 rw [← this]; exact h1
theorem z155:z3x [xb0,xa0]=some ([],0):=by
 obtain ⟨s,h1,h2,h3⟩:=zmb (wf_l m_ba) z11g
 cases s with
 | nil=>exact h1
 | cons a b =>
  exfalso
  obtain ⟨⟨o,ho,hp⟩,hx⟩:=(h3 a).1 (by simp)
  rw [List.map_cons,List.map_cons,List.map_nil,zog,zl6] at hx
  rcases m_ba o ho with e | e
  ·rw [e] at hp; cases hp
  ·rw [e] at hp
   have:a=idv ia8:=by
    have hp':a∈[idv ia8]:=hp
    simpa using hp'
   rw [this] at hx
   simp at hx
theorem z13p:z9a [xb0,xa0]=some ([xa0,xb0],0):=by
 rw [zq9 _ (wf_l m_ba),z11g,if_pos rfl,zr3]; rfl
theorem z11i:zbw (⟨[],[]⟩:z0d)=some 0:=by
 have F:Fit (⟨[],[]⟩:z0d) 60:=⟨rfl,Nat.zero_le _,rfl, fun o ho=>by simp at ho⟩
 obtain ⟨c,c1,-,c3⟩:=zyv (z16v F (by decide) (fun o ho=>by simp at ho))
 rw [c1,c3.2 (z132 F z15g)]
theorem z14x (x:List ID) (h:x.length=1):zbw (⟨x,[]⟩:z0d)=some 8:=by
 unfold zbw zf7
 simp [h,bS]
theorem zyl (l:List ID) (h:l.length=60):z4g (⟨[],[]⟩:z0d) l=some ([],0):=by
 unfold z4g
 rw [z11i]
 simp only [bS]
 rw [if_neg (by simp),if_neg (by simp; omega), show iter (zfa (⟨[],[]⟩:z0d) l) ([],0)=some [] from z1a rfl]
 simp only [bS]
 have hc:z68 []=[].map nmd:=by unfold z68; rfl
 have h0:zd0 []=([].map nmd,0):=zf0 (l:=[]) (m:=[]) (by simp) (by simp) (by simp) hc rfl
 rw [zq9 [] (fun o ho=>by simp at ho),h0,hc]
 rfl
theorem zyq (l:List ID) (h:60<l.length):z4g (⟨[],[]⟩:z0d) l=some ([],4):=by
 unfold z4g
 rw [z11i]
 simp only [bS]
 rw [if_neg (by simp),if_pos (by simp; omega)]
theorem z10n (x l:List ID) (h:x.length=1):z4g (⟨x,[]⟩:z0d) l=some ([],8):=by
 unfold z4g
 rw [z14x x h]; rfl
theorem z12y:z9a [xa0,bad5]=some ([],8):=by
 rw [zq9 _ (fun o ho=>by
  simp only [List.mem_cons,List.not_mem_nil,or_false] at ho
  rcases ho with e | e <;> subst e <;> exact wf_a),z13f]; rfl
theorem z10p:z3x [xa0,xb0,xa0]=some ([],14):=by
 have hm:∀ o∈[xa0,xb0,xa0],o=xa0∨o=xb0:=fun o ho=>by
  simp only [List.mem_cons,List.not_mem_nil,or_false] at ho
  rcases ho with h | h | h
  ·exact .inl h
  ·exact .inr h
  ·exact .inl h
 have:=(zra (wf_l hm) (by rw [zo6]; decide)).1
 rw [zo6] at this; exact this
theorem z12j:z2q (List.replicate 61 zO)=some ([],4):=by
 rw [zf9 _ (fun o ho=>by rw [List.eq_of_mem_replicate ho]; exact z105),zz7 (by rw [List.length_replicate]; decide)]; rfl
theorem z14r:z2q [xw0]=some (zl5,0):=by rw [zrm.write wf_w,zvr]
theorem z16r:z5c zl5=some ([xw0],0):=by
 rw [← zvr]; exact zm3 zrm wf_w (by rw [zvr]; simp [zl5,ea,zft])
theorem lenw:zl5.length=145:=by simp [zl5,ea,zft]
set_option maxRecDepth 20000 in
theorem zld:z8a=some true:=by
 unfold z8a
 rw [zt1]
 simp only [bS]
 rw [if_neg (by simp), show idx xb0.Preds 0=some (idv ia8) from rfl]
 simp only [bS]
 rw [ztq]
 simp only [bS]
 have g1:z0b ([112,2]++[9,111,4,0,7,2,1,97,5,6]++[0]++[9,111,4,0,7,2,1,97,5,6]++[0])=some true:=z8t (by decide) zz3
 have g2:z0b ([112,2]++[9,111,4,0,7,2,1,97,5,6]++[0]++[9,111,4,0,7,2,1,97,5,6]++[1,0]++(idv ia8).toList)=some true:=z8t (by simp) z12q
 have g3:z0b (List.replicate 30000 0)=some true:=z8t (by rw [List.length_replicate]; exact Nat.le_refl _) (by
  rw [show (30000:Nat)=29999+1 from rfl,List.replicate_succ]
  exact zvp (by decide))
 rw [z0x (by decide)]
 simp only [bS]
 rw [z0x (by decide)]
 simp only [bS]
 rw [z0x (by decide)]
 simp only [bS]
 rw [z0x (by decide)]
 simp only [bS]
 rw [z0x (by decide)]
 simp only [bS]
 rw [z0x (by simp)]
 simp only [bS,if_true]
 have k1:mkn 1 (0:UInt8) 30000=some (List.replicate 30000 0):=zcw (n:=30000) (by decide) (by decide)
 have k2:mkn 1 (0:UInt8) 30001=some (List.replicate 30001 0):=zcw (n:=30001) (by decide) (by decide)
 have k3:mkn 112 zO 61=some (List.replicate 61 zO):=zcw (n:=61) (by decide) (by decide)
 have k4:mkn 32 (Vector.replicate 32 (0:UInt8)) 61=some (List.replicate 61 (Vector.replicate 32 0)):=zcw (n:=61) (by decide) (by decide)
 have k5:mkn 32 (Vector.replicate 32 (0:UInt8)) 60=some (List.replicate 60 (Vector.replicate 32 0)):=zcw (n:=60) (by decide) (by decide)
 have k6:mkn 32 (Vector.replicate 32 (0:UInt8)) 1=some (List.replicate 1 (Vector.replicate 32 0)):=zcw (n:=1) (by decide) (by decide)
 unfold zO at k3
 rw [g1]
 simp only [bS,if_true]
 rw [g2]
 simp only [bS,if_true]
 rw [k1]
 simp only [bS]
 rw [g3]
 simp only [bS]
 rw [k2]
 simp only [bS]
 rw [zx6 _ (by rw [List.length_replicate]; decide)]
 simp only [bS]
 rw [k3]
 simp only [bS]
 have w61:=z12j
 unfold zO at w61
 rw [w61]
 simp only [bS]
 rw [show z9a [xa0,{ xa0 with Author:=5 }]=some ([],8) from z12y]
 simp only [bS]
 rw [z10p]
 simp only [bS]
 rw [z13p]
 simp only [bS]
 rw [z16n]
 simp only [bS]
 rw [z155]
 simp only [bS]
 rw [k6]
 simp only [bS]
 rw [k4]
 simp only [bS]
 rw [z10n _ _ (by rw [List.length_replicate])]
 simp only [bS]
 rw [zyq _ (by rw [List.length_replicate]; decide)]
 simp only [bS]
 rw [k5]
 simp only [bS]
 rw [zyl _ (by rw [List.length_replicate])]
 simp only [bS]
 rw [show z2q [(⟨xa0.Author,[z7d (Vector.replicate 32 0) ((0:Nat):Int) 1,z7d (Vector.replicate 32 0) ((0:Nat):Int) 2,z7d (Vector.replicate 32 0) ((0:Nat):Int) 3,z7d (Vector.replicate 32 0) ((0:Nat):Int) 4],xa0.Stamp,xa0.Act,xa0.Sig⟩:z01)]=some (zl5,0) from z14r]
 simp only [bS]
 rw [z16r]
 simp only [bS]
 rw [z0x (by rw [lenw]; decide)]
 simp only [bS,List.nil_append]
 rw [if_neg (by rw [lenw]; decide), show idx zl5 14=some 1 from rfl]
 simp only [bS]
 rw [show idx (zl5.set (14:Int).toNat 2) 47=some 2 from rfl]
 simp only [bS,if_true]
 rw [show (zl5.set (14:Int).toNat 2).set (47:Int).toNat 1=z11x from rfl,z8t (by simp [z11x,ea,zft]) zx9]
 simp only [bS,if_true,beq_self_eq_true]
 rw [zlp _ _ (by decide) (fun o ho=>by rcases m_ba o (by simp only [List.mem_cons,List.not_mem_nil,or_false] at ho ⊢; exact ho.symm) with e | e <;> rw [e] <;> decide),decide_eq_true rfl]
 simp only [bS,if_true]
 rw [zlv _ _ (by simp),decide_eq_true rfl]
 simp only [bS,if_true,List.length_nil]
 rw [show z38 [xw0] [(⟨xa0.Author,[z7d (Vector.replicate 32 0) ((0:Nat):Int) 1,z7d (Vector.replicate 32 0) ((0:Nat):Int) 2,z7d (Vector.replicate 32 0) ((0:Nat):Int) 3,z7d (Vector.replicate 32 0) ((0:Nat):Int) 4],xa0.Stamp,xa0.Act,xa0.Sig⟩:z01)]=some true from zoy zrm,zop]
 rfl
end
end Go.Proofs.YtojceajkeefnpaaGreatDoor
