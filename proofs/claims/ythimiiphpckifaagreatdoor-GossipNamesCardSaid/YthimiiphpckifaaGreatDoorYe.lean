import Derived.Test.YthimiiphpckifaaGreatDoorYd
set_option linter.unusedSimpArgs false
set_option linter.unusedVariables false
namespace Go.Proofs.YthimiiphpckifaaGreatDoor
section
open Go
theorem zod {α:Type} {l:List α} (h:l.Nodup) {i j:Nat} (hi:i<l.length) (hj:j<l.length) (e:l[i]=l[j]):i=j:=by
 rcases Nat.lt_trichotomy i j with c | c | c
 ·
  exact absurd e (List.pairwise_iff_getElem.1 h i j hi hj c)
 ·
  exact c
 ·
  exact absurd e.symm (List.pairwise_iff_getElem.1 h j i hj hi c)
inductive Wf (P:Nat→List Nat):Nat→Prop
 | mk (i:Nat):(∀ p∈P i,Wf P p)→Wf P i
def cnt (P:Nat→List Nat) (T:List Nat) (i:Nat):Int:=(((P i).filter fun p=>!decide (p∈T)).length:Int)
theorem zr4 {P:Nat→List Nat} {T:List Nat} {i:Nat}:cnt P T i=0↔∀ p∈P i,p∈T:=by
 unfold cnt
 constructor
 ·
  intro h p hp
  have h0:((P i).filter fun p=>!decide (p∈T))=[]:=List.length_eq_zero_iff.1 (by omega)
  rw [List.filter_eq_nil_iff] at h0
  simpa using h0 p hp
 ·
  intro h
  have h0:((P i).filter fun p=>!decide (p∈T))=[]:=by
   rw [List.filter_eq_nil_iff]
   intro p hp
   simpa using h p hp
  rw [h0]; rfl
theorem zve (P:Nat→List Nat) (i:Nat):cnt P [] i=((P i).length:Int):=by
 unfold cnt
 rw [List.filter_eq_self.2 (fun a _=>by simp)]
theorem z135 (P:Nat→List Nat) (T:List Nat) (i:Nat):cnt P T i≤((P i).length:Int):=by
 unfold cnt
 have:=List.length_filter_le (fun p=>!decide (p∈T)) (P i)
 omega
theorem zfq {T:List Nat} {x:Nat} (hx:x∉T):∀ l:List Nat,l.Nodup→(l.filter fun p=>!decide (p∈T)).length=(l.filter fun p=>!decide (p∈T++[x])).length+(if x∈l then 1 else 0)
 | [],_=>by simp
 | a::l,h=>by
  have hn:=List.nodup_cons.1 h
  have ih:=zfq hx l hn.2
  by_cases ha:a=x
  ·
   subst ha
   rw [if_neg hn.1] at ih
   rw [if_pos (by simp),List.filter_cons_of_pos (by simpa using hx),List.filter_cons_of_neg (by simp),List.length_cons,ih]
  ·
   have e:(x∈a::l)↔(x∈l):=by
    rw [List.mem_cons]; exact ⟨fun h=>h.resolve_left fun e=>ha e.symm,.inr⟩
   by_cases hT:a∈T
   ·
    rw [List.filter_cons_of_neg (by simp [hT]),List.filter_cons_of_neg (by simp [hT]),ih]
    simp only [e]
   ·
    rw [List.filter_cons_of_pos (by simp [hT]),List.filter_cons_of_pos (by simp [hT,ha]),List.length_cons,List.length_cons,ih]
    simp only [e]; omega
theorem z10g {P:Nat→List Nat} {T:List Nat} {x i:Nat} (hx:x∉T) (hn:(P i).Nodup) (hi:x∈P i):cnt P T i=cnt P (T++[x]) i+1:=by
 unfold cnt
 rw [zfq hx _ hn,if_pos hi]; omega
theorem z126 {P:Nat→List Nat} {T:List Nat} {x i:Nat} (hx:x∉T) (hn:(P i).Nodup) (hi:x∉P i):cnt P T i=cnt P (T++[x]) i:=by
 unfold cnt
 rw [zfq hx _ hn,if_neg hi]; omega
structure z11f (P:Nat→List Nat) (n:Nat):Prop where
 n60:n≤60
 nodup:∀ i,(P i).Nodup
 four:∀ i,(P i).length≤4
 lt:∀ i,∀ p∈P i,p<n
def over (P:Nat→List Nat) (n x:Nat):List Nat:=(List.range n).filter fun k=>decide (x∈P k)
theorem zrn {P:Nat→List Nat} {n x k:Nat}:k∈over P n x↔k<n∧x∈P k:=by unfold over; simp
theorem zsv (P:Nat→List Nat) (n x:Nat):(over P n x).Nodup:=List.Pairwise.filter _ List.nodup_range
structure Got (P:Nat→List Nat) (n:Nat) (Q:List Nat):Prop where
 nodup:Q.Nodup
 lt:∀ x∈Q,x<n
 wf:∀ x∈Q,Wf P x
theorem Got.len {P:Nat→List Nat} {n:Nat} {Q:List Nat} (h:Got P n Q):Q.length≤n:=by
 have:=zcx Q (List.range n) h.nodup fun x hx=>by simpa using h.lt x hx
 simpa using this
variable {P:Nat→List Nat} {n:Nat}
theorem z14e (E:z11f P n) (Q:List Nat) (pos:Nat) (hp:pos<Q.length) (hQ:Got P n Q) (hd:∀ i,i<n→(i∈Q↔cnt P (Q.take pos) i=0)) :
  ∃ b:List Int × List Int,iter (z86 (il (over P n Q[pos]))) (tab n (cnt P (Q.take pos)),il Q,0)=some b∧∃ R,b=(tab n (cnt P ((Q++R).take (pos+1))),il (Q++R))∧Got P n (Q++R)∧∀ i,i<n→(i∈Q++R↔cnt P ((Q++R).take (pos+1)) i=0):=by
 have hx:Q[pos]∉Q.take pos:=by
  intro hm
  obtain ⟨j,hj,e⟩:=List.getElem_of_mem hm
  rw [List.getElem_take] at e
  rw [List.length_take] at hj
  have:=zod hQ.nodup _ _ e
  omega
 have htk:∀ R:List Nat,(Q++R).take (pos+1)=Q.take pos++[Q[pos]]:=fun R=>by
  rw [List.take_append_of_le_length (by omega),List.take_add_one,List.getElem?_eq_getElem hp]; rfl
 let T:=Q.take pos
 let x:=Q[pos]
 have hwx:Wf P x:=hQ.wf x (List.getElem_mem hp)
 have hwT:∀ y∈T,Wf P y:=fun y hy=>hQ.wf y (List.mem_of_mem_take hy)
 let c:=fun (j i:Nat)=>if i∈(over P n x).take j then cnt P (T++[x]) i else cnt P T i
 have hc_in:∀ j i,i∈(over P n x).take j→c j i=cnt P (T++[x]) i:=fun j i h=>if_pos h
 have hc_out:∀ j i,i∉(over P n x).take j→c j i=cnt P T i:=fun j i h=>if_neg h
 have hcnt2:∀ i,cnt P (T++[x]) i=0→Wf P i:=fun i hi=>.mk i fun p hpi=>by
  have:=zr4.1 hi p hpi
  rcases List.mem_append.1 this with h | h
  ·
   exact hwT p h
  ·
   rw [List.mem_singleton] at h; subst h; exact hwx
 have main:=zc3 (F:=z86 (il (over P n x))) (over P n x).length
  (fun j st=>∃ R,st=(tab n (c j),il (Q++R),(j:Int))∧Got P n (Q++R)∧∀ i,i<n→(i∈Q++R↔c j i=0))
  (fun b=>∃ R,b=(tab n (c (over P n x).length),il (Q++R))∧Got P n (Q++R)∧∀ i,i<n→(i∈Q++R↔c (over P n x).length i=0))
  (fun j st hj hst=>by
   obtain ⟨R,rfl,hR,hm⟩:=hst
   have hyo:(over P n x)[j]∈over P n x:=List.getElem_mem hj
   obtain ⟨hyn,hyx⟩:=zrn.1 hyo
   have hyt:(over P n x)[j]∉(over P n x).take j:=by
    intro hm
    obtain ⟨k,hk,e⟩:=List.getElem_of_mem hm
    rw [List.getElem_take] at e
    rw [List.length_take] at hk
    have:=zod (zsv P n x) _ _ e
    omega
   have hcy:c j (over P n x)[j]=cnt P (T++[x]) (over P n x)[j]+1:=by
    rw [hc_out _ _ hyt]; exact z10g hx (E.nodup _) hyx
   have hcl:cnt P T (over P n x)[j]≤4:=by have:=z135 P T (over P n x)[j]; have:=E.four (over P n x)[j]; omega
   have h0:0≤cnt P (T++[x]) (over P n x)[j]:=by unfold cnt; omega
   have hcs:cnt P T (over P n x)[j]=cnt P (T++[x]) (over P n x)[j]+1:=z10g hx (E.nodup _) hyx
   have hnot:(over P n x)[j]∉Q++R:=by
    rw [hm _ hyn,hcy]; omega
   have hcy1:c (j+1) (over P n x)[j]=cnt P (T++[x]) (over P n x)[j]:=by
    refine hc_in _ _ ?_
    rw [List.take_add_one,List.getElem?_eq_getElem hj]
    exact List.mem_append.2 (.inr (List.mem_singleton.2 rfl))
   have hc1:∀ i,i≠(over P n x)[j]→c (j+1) i=c j i:=fun i hne=>by
    show (if _ then _ else _)=(if _ then _ else _)
    have:(i∈(over P n x).take (j+1))↔(i∈(over P n x).take j):=by
     rw [List.take_add_one,List.getElem?_eq_getElem hj,List.mem_append]
     exact ⟨fun h=>h.resolve_right fun e=>hne (List.mem_singleton.1 e),.inl⟩
    simp only [this]
   have hset:(tab n (c j)).set (over P n x)[j] (cnt P (T++[x]) (over P n x)[j])=tab n (c (j+1)):=zll hyn hcy1 fun i _ hne=>hc1 i hne
   have hov:(over P n x).length≤n:=by
    have:=List.length_filter_le (fun k=>decide (x∈P k)) (List.range n)
    unfold over; simpa using this
   have hn60:=E.n60
   have hlen:=hR.len
   have hF:z86 (il (over P n x)) (tab n (c j),il (Q++R),(j:Int))=if cnt P (T++[x]) (over P n x)[j]==0 then some (.inr (tab n (c (j+1)),il (Q++R)++[((over P n x)[j]:Int)],((j+1:Nat):Int))) else some (.inr (tab n (c (j+1)),il (Q++R),((j+1:Nat):Int))):=by
    unfold z86
    rw [if_pos (by rw [zej]; simpa using hj)]
    simp only []
    rw [zzr hj]
    simp only [bS]
    rw [zek hyn,hcy]
    simp only [bS]
    rw [z0u (x:=_ - 1) (by omega) (by omega), show cnt P (T++[x]) (over P n x)[j]+1 - 1=cnt P (T++[x]) (over P n x)[j] by omega]
    simp only [bS,Int.toNat_natCast]
    rw [hset,zek hyn,hcy1]
    simp only [bS]
    rw [z1p (by rw [zej]; simp only [List.length_cons,List.length_nil]; omega),z0h (by omega)]
    simp only [bS]
   by_cases hz:cnt P (T++[x]) (over P n x)[j]=0
   ·
    rw [if_pos (by simpa using hz)] at hF
    refine ⟨_,hF,R++[(over P n x)[j]],?_,?_,?_⟩
    ·
     rw [← List.append_assoc,zwr (Q++R)]; rfl
    ·
     rw [← List.append_assoc]
     refine ⟨?_,?_,?_⟩
     ·
      rw [List.nodup_append]
      exact ⟨hR.nodup, by simp, fun a ha b hb e=>by
       rw [List.mem_singleton] at hb; subst hb; exact hnot (e ▸ ha)⟩
     ·
      intro y hy
      rcases List.mem_append.1 hy with h | h
      ·
       exact hR.lt y h
      ·
       rw [List.mem_singleton] at h; subst h; exact hyn
     ·
      intro y hy
      rcases List.mem_append.1 hy with h | h
      ·
       exact hR.wf y h
      ·
       rw [List.mem_singleton] at h; subst h; exact hcnt2 _ hz
    ·
     intro i hi
     rw [← List.append_assoc,List.mem_append,List.mem_singleton]
     by_cases hne:i=(over P n x)[j]
     ·
      subst hne
      rw [hcy1]
      exact ⟨fun _=>hz, fun _=>.inr rfl⟩
     ·
      rw [hc1 i hne,← hm i hi]
      exact ⟨fun h=>h.resolve_right hne,.inl⟩
   ·
    rw [if_neg (by simpa using hz)] at hF
    refine ⟨_,hF,R,rfl,hR,?_⟩
    intro i hi
    by_cases hne:i=(over P n x)[j]
    ·
     subst hne
     rw [hcy1]
     exact ⟨fun h=>absurd h hnot, fun h=>absurd h hz⟩
    ·
     rw [hc1 i hne,← hm i hi])
  (fun st hst=>by
   obtain ⟨R,rfl,hR,hm⟩:=hst
   refine ⟨_,?_,R,rfl,hR,hm⟩
   unfold z86
   rw [if_neg (by rw [zej]; simp)])
  (tab n (cnt P T),il Q,((0:Nat):Int)) 0 (Nat.zero_le _) ⟨[], by rw [List.append_nil]; rfl, by rw [List.append_nil]; exact hQ, by rw [List.append_nil]; exact hd⟩
 have hend:∀ i,i<n→c (over P n x).length i=cnt P (T++[x]) i:=fun i hi=>by
  by_cases hm:i∈over P n x
  ·
   exact hc_in _ _ (by rw [List.take_length]; exact hm)
  ·
   rw [hc_out _ _ (by rw [List.take_length]; exact hm)]
   exact z126 hx (E.nodup i) fun h=>hm (zrn.2 ⟨hi,h⟩)
 obtain ⟨b,h1,R,h2,h3,h4⟩:=main
 refine ⟨b,h1,R,?_,h3, fun i hi=>?_⟩
 ·
  rw [h2,htk R]
  congr 1
  exact zgy hend
 ·
  rw [h4 i hi,hend i hi,htk R]
theorem z147 (E:z11f P n) (s:List Int × List (List Int) × List Int) (hs:s.2.1=tab n fun x=>il (over P n x)):∃ b:Int,iter (z9s s) (tab n (cnt P []),il ((List.range n).filter fun k=>decide ((P k).length=0)),0)=some b∧∃ Q:List Nat,b=(Q.length:Int)∧Q.Nodup∧∀ i,i∈Q↔i<n∧Wf P i:=by
 have hn60:=E.n60
 refine zes (F:=z9s s)
  (fun st=>∃ (Q:List Nat) (pos:Nat),st=(tab n (cnt P (Q.take pos)),il Q,(pos:Int))∧pos≤Q.length∧Got P n Q∧∀ i,i<n→(i∈Q↔cnt P (Q.take pos) i=0))
  (fun st=>n - st.2.2.toNat) _ ?_ _ ⟨(List.range n).filter fun k=>decide ((P k).length=0),0, by rw [List.take_zero]; rfl,Nat.zero_le _,?_,?_⟩
 ·
  rintro st ⟨Q,pos,rfl,h1,h2,h3⟩
  have hlen:=h2.len
  by_cases hp:pos<Q.length
  ·
   right
   obtain ⟨b,e1,R,rfl,e3,e4⟩:=z14e E Q pos hp h2 h3
   have hx:=h2.lt _ (List.getElem_mem hp)
   refine ⟨_,?_,⟨Q++R,pos+1,rfl, by rw [List.length_append]; omega,e3,e4⟩,?_⟩
   ·
    unfold z9s
    rw [if_pos (by rw [zej]; simpa using hp)]
    simp only []
    rw [zzr hp,hs]
    simp only [bS]
    rw [zek hx]
    simp only [bS]
    rw [e1,z0h (by omega)]
    simp only [bS]
   ·
    simp only [Int.toNat_natCast]; omega
  ·
   left
   have hpe:pos=Q.length:=by omega
   subst hpe
   refine ⟨(Q.length:Int),?_,Q,rfl,h2.nodup, fun i=>⟨fun h=>⟨h2.lt i h,h2.wf i h⟩, fun h=>?_⟩⟩
   ·
    unfold z9s
    rw [if_neg (by rw [zej]; simp)]
   ·
    obtain ⟨hi,hw⟩:=h
    rw [List.take_length] at h3
    revert hi
    induction hw with
    | mk i hpi ih =>
     intro hi
     rw [h3 i hi,zr4]
     exact fun p hpp=>ih p hpp (E.lt i p hpp)
 ·
  refine ⟨List.Pairwise.filter _ List.nodup_range, fun x hx=>?_, fun x hx=>?_⟩
  ·
   simp only [List.mem_filter,List.mem_range] at hx; exact hx.1
  ·
   simp only [List.mem_filter,List.mem_range,decide_eq_true_eq] at hx
   refine .mk x fun p hp=>?_
   rw [List.length_eq_zero_iff.1 hx.2] at hp; simp at hp
 ·
  intro i hi
  rw [List.take_zero,zve]
  simp only [List.mem_filter,List.mem_range,decide_eq_true_eq]
  omega
end
section
open Go
variable {g:z00}
theorem zg5 (h:zi1 g=true) (i:Nat):∀ x∈zwz g i,x∈g.IDs:=by
 unfold zwz
 by_cases hi:i<g.Ops.length
 ·
  rw [List.getElem?_eq_getElem hi]
  unfold zi1 at h
  rw [List.all_eq_true] at h
  have:=h _ (List.getElem_mem hi)
  rw [List.all_eq_true] at this
  exact fun x hx=>by simpa using this x hx
 ·
  rw [List.getElem?_eq_none (by omega)]
  exact fun x hx=>by simp at hx
theorem z12h (E:zf4 g) (h:zi1 g=true):z11f (z39 g) g.Ops.length:=by
 refine ⟨E.len, fun i=>?_, fun i=>?_, fun i p hp=>?_⟩
 ·
  unfold z39
  rw [List.Nodup,List.pairwise_map]
  exact (E.nodup i).imp_of_mem fun {a b} ha hb hne e=>hne (zo7 (zg5 h i b hb) e)
 ·
  unfold z39; rw [List.length_map]; exact E.four i
 ·
  unfold z39 at hp
  rw [List.mem_map] at hp
  obtain ⟨x,hx,rfl⟩:=hp
  rw [← E.ids]
  exact List.idxOf_lt_length_of_mem (zg5 h i x hx)
def zop (g:z00) (i:Nat):ID:=match g.IDs[i]? with | some x=>x | none=>z32
theorem zd8 {i:Nat} (h:i<g.IDs.length):zop g i=g.IDs[i]:=by unfold zop; rw [List.getElem?_eq_getElem h]
theorem zxb {x:ID} (h:x∈g.IDs):zop g (g.IDs.idxOf x)=x:=by
 rw [zd8 (List.idxOf_lt_length_of_mem h)]; simp
theorem zxc (E:zf4 g) {i:Nat} (h:i<g.Ops.length):g.IDs.idxOf (zop g i)=i:=by
 have hi:i<g.IDs.length:=by rw [E.ids]; exact h
 rw [zd8 hi]; exact zgq E.ri hi
theorem zkx (E:zf4 g) {Q:List Nat} (hQ:∀ x∈Q,x<g.Ops.length) {x:ID} (hx:x∈g.IDs):x∈Q.map (zop g)↔g.IDs.idxOf x∈Q:=by
 rw [List.mem_map]
 constructor
 ·
  rintro ⟨q,hq,rfl⟩; rw [zxc E (hQ q hq)]; exact hq
 ·
  exact fun h=>⟨_,h,zxb hx⟩
theorem zs4 (E:zf4 g) (h:zi1 g=true) {Q:List Nat} (hQ:∀ x∈Q,x<g.Ops.length) (i:Nat):((zwz g i).all fun x=>decide (x∈Q.map (zop g)))=decide (∀ p∈z39 g i,p∈Q):=by
 rw [Bool.eq_iff_iff,List.all_eq_true,decide_eq_true_iff]
 unfold z39
 constructor
 ·
  intro hx p hp
  rw [List.mem_map] at hp
  obtain ⟨x,hx',rfl⟩:=hp
  exact (zkx E hQ (zg5 h i x hx')).1 (by simpa using hx x hx')
 ·
  intro hp x hx
  rw [decide_eq_true_iff]
  exact (zkx E hQ (zg5 h i x hx)).2 (hp _ (List.mem_map.2 ⟨x,hx,rfl⟩))
def Topo (P:Nat→List Nat) (Q:List Nat):Prop:=∀ k (h:k<Q.length),∀ p∈P Q[k],p∈Q.take k
theorem Topo.snoc {P:Nat→List Nat} {Q:List Nat} {i:Nat} (h:Topo P Q) (hi:∀ p∈P i,p∈Q):Topo P (Q++[i]):=by
 intro k hk p hp
 by_cases hkq:k<Q.length
 ·
  rw [List.getElem_append_left hkq] at hp
  rw [List.take_append_of_le_length (by omega)]
  exact h k hkq p hp
 ·
  have hk':k=Q.length:=by simp at hk; omega
  subst hk'
  rw [List.getElem_append_right (by omega)] at hp
  simp at hp
  rw [List.take_left' rfl]
  exact hi p hp
def zhz (g:z00) (Q:List Nat) (b:Bool):(List Int) × (List ID) × (List Bool) × Bool:=(il Q,Q.map (zop g),tab g.Ops.length (fun i=>decide (i∈Q)),b)
theorem z13i (E:zf4 g) (h:zi1 g=true) (Q:List Nat) (hQ:Got (z39 g) g.Ops.length Q) (hT:Topo (z39 g) Q) :
  ∃ b:Sum (List Int) ((List Int) × (List ID) × (List Bool) × Bool),iter (z2v g (zhz g Q true)) 0=some b ∧
   ((∃ i,b=.inr (zhz g (Q++[i]) true)∧Got (z39 g) g.Ops.length (Q++[i])∧Topo (z39 g) (Q++[i])∧i<g.Ops.length∧i∉Q∧(∀ p∈z39 g i,p∈Q)∧∀ k,k<i→(∀ p∈z39 g k,p∈Q)→k∈Q)∨(b=.inr (zhz g Q false)∧∀ i,i<g.Ops.length→(∀ p∈z39 g i,p∈Q)→i∈Q)):=by
 have hlen:=E.len
 have hql:=hQ.len
 refine zes (F:=z2v g (zhz g Q true)) (fun s=>∃ i:Nat,s=(i:Int)∧i≤g.Ops.length∧∀ k,k<i→(∀ p∈z39 g k,p∈Q)→k∈Q) (fun s=>g.Ops.length - s.toNat) _ ?_ _ ⟨0,rfl,Nat.zero_le _, fun k hk=>by omega⟩
 rintro s ⟨i,rfl,h1,h2⟩
 by_cases hi:i<g.Ops.length
 ·
  have hcond:(idx (tab g.Ops.length fun i=>decide (i∈Q)) (i:Int) >>= fun x12=>if !x12 then idx g.Ops (i:Int) >>= fun x15=>z4i (Q.map (zop g)) x15.Preds >>= fun r17=>some r17 else some false)=some (!decide (i∈Q)&&decide (∀ p∈z39 g i,p∈Q)):=by
   rw [zek hi]
   simp only [bS]
   by_cases hm:i∈Q
   ·
    rw [decide_eq_true hm]; rfl
   ·
    rw [decide_eq_false hm,if_pos (by simp),z0c hi]
    simp only [bS]
    have h4:=(E.op i hi).1
    rw [zzj _ _ (by rw [List.length_map]; omega) (by omega)]
    simp only [bS]
    rw [← z9j hi,zs4 E h hQ.lt]; rfl
  by_cases hm:i∈Q
  ·
   right
   refine ⟨((i+1:Nat):Int),?_,⟨i+1,rfl,hi, fun k hk hp=>?_⟩, by simp; omega⟩
   ·
    unfold z2v
    rw [if_pos (by simpa using hi)]
    show ((idx (tab g.Ops.length fun i=>decide (i∈Q)) (i:Int) >>= fun x12=>if !x12 then idx g.Ops (i:Int) >>= fun x15=>z4i (Q.map (zop g)) x15.Preds >>= fun r17=>some r17 else some false) >>= _)=_
    rw [hcond,decide_eq_true hm,z0h (by omega)]
    rfl
   ·
    by_cases hk':k=i
    ·
     subst hk'; exact hm
    ·
     exact h2 k (by omega) hp
  ·
   by_cases hp:∀ p∈z39 g i,p∈Q
   ·
    left
    refine ⟨_,?_,.inl ⟨i,rfl,?_,hT.snoc hp,hi,hm,hp,h2⟩⟩
    ·
     have hii:i<g.IDs.length:=by rw [E.ids]; exact hi
     unfold z2v
     rw [if_pos (by simpa using hi)]
     show ((idx (tab g.Ops.length fun i=>decide (i∈Q)) (i:Int) >>= fun x12=>if !x12 then idx g.Ops (i:Int) >>= fun x15=>z4i (Q.map (zop g)) x15.Preds >>= fun r17=>some r17 else some false) >>= _)=_
     rw [hcond,decide_eq_false hm,decide_eq_true hp]
     simp only [bS]
     rw [if_pos (by simp),z0c hii]
     simp only [bS]
     rw [show (zhz g Q true).1=il Q from rfl, show (zhz g Q true).2.1=Q.map (zop g) from rfl, show (zhz g Q true).2.2.1=tab g.Ops.length (fun i=>decide (i∈Q)) from rfl]
     rw [z1p (by rw [zej]; simp only [List.length_cons,List.length_nil]; omega)]
     simp only [bS]
     rw [z1p (by rw [List.length_map]; simp only [List.length_cons,List.length_nil]; omega),zek hi]
     simp only [bS,Int.toNat_natCast]
     rw [zll (g:=fun j=>decide (j∈Q++[i])) hi (by simp) (fun j _ hj=>by simp [hj])]
     unfold zhz
     rw [zwr,List.map_append,← zd8 hii]
     rfl
    ·
     refine ⟨?_,?_,?_⟩
     ·
      rw [List.nodup_append]
      exact ⟨hQ.nodup, by simp, fun a ha b hb e=>by
       rw [List.mem_singleton] at hb; subst hb; exact hm (e ▸ ha)⟩
     ·
      intro y hy
      rcases List.mem_append.1 hy with h | h
      ·
       exact hQ.lt y h
      ·
       rw [List.mem_singleton] at h; subst h; exact hi
     ·
      intro y hy
      rcases List.mem_append.1 hy with h | h
      ·
       exact hQ.wf y h
      ·
       rw [List.mem_singleton] at h; subst h; exact .mk _ fun p hpp=>hQ.wf p (hp p hpp)
   ·
    right
    refine ⟨((i+1:Nat):Int),?_,⟨i+1,rfl,hi, fun k hk hpk=>?_⟩, by simp; omega⟩
    ·
     unfold z2v
     rw [if_pos (by simpa using hi)]
     show ((idx (tab g.Ops.length fun i=>decide (i∈Q)) (i:Int) >>= fun x12=>if !x12 then idx g.Ops (i:Int) >>= fun x15=>z4i (Q.map (zop g)) x15.Preds >>= fun r17=>some r17 else some false) >>= _)=_
     rw [hcond,decide_eq_false hp,z0h (by omega),Bool.and_false]
     rfl
    ·
     by_cases hk':k=i
     ·
      subst hk'; exact absurd hpk hp
     ·
      exact h2 k (by omega) hpk
 ·
  left
  have:i=g.Ops.length:=by omega
  subst this
  refine ⟨_,?_,.inr ⟨rfl,h2⟩⟩
  unfold z2v
  rw [if_neg (by simp)]
  rfl
theorem zre (E:zf4 g) (h:zi1 g=true):∃ Q:List Nat,za4 g=some (il Q)∧Got (z39 g) g.Ops.length Q∧Topo (z39 g) Q∧∀ i,i∈Q↔i<g.Ops.length∧Wf (z39 g) i:=by
 have hP:=z12h E h
 have hlen:=E.len
 have main:=zes (F:=z65 g)
  (fun s=>∃ Q b,s=zhz g Q b∧Got (z39 g) g.Ops.length Q∧Topo (z39 g) Q∧(b=false→∀ i,i<g.Ops.length→(∀ p∈z39 g i,p∈Q)→i∈Q))
  (fun s=>(g.Ops.length - s.1.length)+(if s.2.2.2 then 1 else 0))
  (fun r=>∃ Q:List Nat,r=il Q∧Got (z39 g) g.Ops.length Q∧Topo (z39 g) Q∧∀ i,i∈Q↔i<g.Ops.length∧Wf (z39 g) i)
  (fun s hs=>by
   obtain ⟨Q,b,rfl,h1,h2,h3⟩:=hs
   have hql:=h1.len
   cases b with
   | false =>
    left
    refine ⟨il Q,rfl,Q,rfl,h1,h2, fun i=>⟨fun hi=>⟨h1.lt i hi,h1.wf i hi⟩, fun hi=>?_⟩⟩
    obtain ⟨hi,hw⟩:=hi
    revert hi
    induction hw with
    | mk i hpi ih=>exact fun hi=>h3 rfl i hi fun p hp=>ih p hp (hP.lt i p hp)
   | true =>
    right
    obtain ⟨r,e1,e2⟩:=z13i E h Q h1 h2
    rcases e2 with ⟨i,rfl,e3,e4,_⟩ | ⟨rfl,e3⟩
    ·
     refine ⟨_,?_,⟨Q++[i],true,rfl,e3,e4, by simp⟩,?_⟩
     ·
      unfold z65
      exact (if_pos rfl).trans e1
     ·
      have:=e3.len
      simp only [zhz,zej,List.length_append,List.length_cons,List.length_nil] at this ⊢
      omega
    ·
     refine ⟨_,?_,⟨Q,false,rfl,h1,h2, fun _=>e3⟩,?_⟩
     ·
      unfold z65
      exact (if_pos rfl).trans e1
     ·
      simp [zhz])
  ([],[],List.replicate g.Ops.length false,true) ⟨[],true, by unfold zhz; rw [zj1]; simp [il],⟨by simp, by simp, by simp⟩, fun k hk=>by simp at hk, by simp⟩
 obtain ⟨r,e1,Q,rfl,e2,e3,e4⟩:=main
 refine ⟨Q,?_,e2,e3,e4⟩
 unfold za4
 rw [zgp (by omega) (by omega)]
 simp only [bS]
 rw [e1]
 simp only [bS]
theorem zys {n:Nat} {Q:List Nat} (hn:Q.Nodup) (hl:∀ x∈Q,x<n):¬ Q.length<n↔∀ i,i<n→i∈Q:=by
 constructor
 ·
  intro h i hi
  refine Decidable.byContradiction fun hm=>?_
  have:=zcx (i::Q) (List.range n) (List.nodup_cons.2 ⟨hm,hn⟩) fun x hx=>by
   rcases List.mem_cons.1 hx with rfl | hx
   ·
    simpa using hi
   ·
    simpa using hl x hx
  simp at this; omega
 ·
  intro h
  have:=zcx (List.range n) Q List.nodup_range fun x hx=>h x (by simpa using hx)
  simp at this; omega
def z12t (g:z00):Prop:=∀ i,i<g.Ops.length→Wf (z39 g) i
theorem zrh (hl:g.Ops.length≤60) (hi:g.IDs.length=g.Ops.length) (ho:∀ i (h:i<g.Ops.length),(g.Ops[i]).Preds.length≤4∧z7c (g.Ops[i]).Preds=true) :
  ∃ c:Int,ze4 g=some c∧zab g=some c∧(c=0↔z7c g.IDs=true∧zi1 g=true∧z12t g):=by
 have s0:=zxn g (by omega)
 unfold ze4 zab
 rw [s0,zok _ (by omega)]
 simp only [bS]
 by_cases hr:z7c g.IDs=true
 ·
  rw [if_pos hr,hr,if_neg (by simp),zgp (by omega) (by omega)]
  simp only [bS]
  rw [zgp (by omega) (by omega)]
  simp only [bS]
  have E:zf4 g:=⟨hl,hi,hr,ho⟩
  have h2:=zzt E g.Ops [] rfl
  have h3:=zkw E g.Ops [] rfl
  have i1:tab g.Ops.length (zf8 g 0)=List.replicate g.Ops.length 0:=by
   rw [zj1]; exact zgy fun j _=>by unfold zf8; rw [if_neg (by omega)]
  have i2:tab g.Ops.length (fun x=>il (ze7 g 0 x))=List.replicate g.Ops.length []:=by
   rw [zj1]; exact zgy fun j _=>by unfold ze7; simp [il]
  have i3:il (ready g 0)=[]:=by unfold ready; simp [il]
  simp only [List.length_nil] at h2 h3
  rw [i1,i2,i3] at h2
  rw [show (0:Int)=((0:Nat):Int) from rfl] at *
  rw [h2,h3]
  cases ha:g.Ops.all fun o=>o.Preds.all fun x=>decide (x∈g.IDs) with
  | false=>exact ⟨40,rfl,rfl, by simp [zi1,ha]⟩
  | true =>
   have ha':zi1 g=true:=ha
   obtain ⟨Q,q1,q2,q3,q4⟩:=zre E ha'
   have hP:=z12h E ha'
   have i4:tab g.Ops.length (zf8 g g.Ops.length)=tab g.Ops.length (cnt (z39 g) []):=zgy fun j hj=>by
    unfold zf8; rw [if_pos hj,zve]
   obtain ⟨b,k1,R,rfl,k2,k3⟩:=z147 hP (tab g.Ops.length (zf8 g g.Ops.length),tab g.Ops.length (fun x=>il (ze7 g g.Ops.length x)),il (ready g g.Ops.length)) rfl
   have hRQ:R.length=Q.length:=zji k2 q2.nodup fun x=>by rw [k3,q4]
   simp only [if_true,zp6]
   rw [i4] at k1
   rw [i4, show il (ready g g.Ops.length)=il ((List.range g.Ops.length).filter fun k=>decide ((z39 g k).length=0)) from rfl] at *
   rw [show ((0:Nat):Int)=0 from rfl] at *
   rw [k1,q1]
   simp only [bS]
   rw [zej,hRQ]
   have hfull:=zys q2.nodup q2.lt
   by_cases hc:Q.length<g.Ops.length
   ·
    rw [if_pos (by simpa using hc)]
    refine ⟨36,rfl,rfl, by simp, fun h=>?_⟩
    have:=hfull.2 fun i hi=>(q4 i).2 ⟨hi,h.2.2 i hi⟩
    exact absurd hc this
   ·
    rw [if_neg (by simpa using hc)]
    exact ⟨0,rfl,rfl, fun _=>⟨by first | exact hr | trivial,ha', fun i hi=>((q4 i).1 (hfull.1 hc i hi)).2⟩, fun _=>rfl⟩
 ·
  have hr':z7c g.IDs=false:=by simpa using hr
  rw [if_neg hr,hr']
  exact ⟨32,rfl,rfl, by simp [hr']⟩
def z134 (g:z00):Prop:=∀ i (h:i<g.Ops.length),zcu g.Ops[i]=0∧sha (zc2 g.Ops[i])=zop g i
structure zkl (g:z00):Prop where
 e:zf4 g
 ops:z134 g
 ins:zi1 g=true
 wf:z12t g
theorem z96 {a:z04} (h:zcu a=0):z3z a=0:=by
 unfold zcu at h
 by_cases hc:z3z a=0
 ·
  exact hc
 ·
  rw [if_neg hc] at h; exact h
theorem z168 {g:z00} (h:z6x g) {o:z04} (ho:o∈g.Ops):inI o.Act.Value.Num∧o.Act.Value.Text.length≤9223372036854775807:=by
 have:=h.2.1.1 o ho
 exact ⟨this.2.2.2.1.2.2.1.2.1,this.2.2.2.1.2.2.1.2.2.2.1⟩
def zgc (g:z00) (i:Nat) (o:z04):Bool:=decide (zcu o=0)&&decide (sha (zc2 o)=zop g i)
theorem zxo (hw:z6x g) (hl:g.Ops.length≤60) (hi:g.IDs.length=g.Ops.length):∀ (k i:Nat),g.Ops.length - i=k→i≤g.Ops.length →
  ∃ r:Sum Int Unit,iter (z9x g) (i:Int)=some r∧iter (z4p g) (i:Int)=some r∧((r=.inr ()∧∀ j (h:j<g.Ops.length),i≤j→zgc g j g.Ops[j]=true)∨(r=.inl 8∧∃ j,∃ h:j<g.Ops.length,zgc g j g.Ops[j]=false)):=by
 intro k
 induction k with
 | zero =>
  intro i hk hle
  refine ⟨.inr (),z0t ?_,z0t ?_,.inl ⟨rfl, fun j hj hij=>by omega⟩⟩
  ·
   unfold z9x; rw [if_neg (by simp; omega)]
  ·
   unfold z4p; rw [if_neg (by simp; omega)]
 | succ k ih =>
  intro i hk hle
  have hlt:i<g.Ops.length:=by omega
  have hii:i<g.IDs.length:=by omega
  obtain ⟨w1,w2⟩:=z168 hw (List.getElem_mem hlt)
  have e1:z9x g (i:Int)=if zgc g i g.Ops[i] then some (.inr ((i+1:Nat):Int)) else some (.inl (.inl 8)):=by
   unfold z9x zgc
   rw [if_pos (by simpa using hlt),z0c hlt]
   simp only [bS]
   rw [zua _ w1 w2,z0h (by omega)]
   simp only [bS]
   by_cases hc:z3z g.Ops[i]=0
   ·
    rw [if_pos hc]
    simp only []
    rw [if_neg (by simp),z0c hii,← zd8 hii]
    simp only [bS]
    by_cases hs:sha (zc2 g.Ops[i])=zop g i
    ·
     rw [decide_eq_true hs,if_neg (by simp),ziu _ w1 w2]
     simp only [bS]
     by_cases hb:zcu g.Ops[i]=0
     ·
      rw [hb]; rfl
     ·
      rw [if_pos (by simpa using hb),decide_eq_false hb]; rfl
    ·
     rw [decide_eq_false hs,Bool.and_false]; rfl
   ·
    have hb:zcu g.Ops[i]≠0:=fun h=>hc (z96 h)
    rw [if_neg hc,decide_eq_false hb]
    simp only []
    rw [if_pos (by simpa using hc)]; rfl
  have e2:z4p g (i:Int)=if zgc g i g.Ops[i] then some (.inr ((i+1:Nat):Int)) else some (.inl (.inl 8)):=by
   unfold z4p zgc
   rw [if_pos (by simpa using hlt),z0c hlt]
   simp only [bS]
   rw [zni _ w1 w2,z0h (by omega)]
   simp only [bS]
   by_cases hb:zcu g.Ops[i]=0
   ·
    rw [hb,if_neg (by simp),z0c hii,← zd8 hii,zz3 _ (z96 hb) w1]
    simp only [bS]
    by_cases hs:sha (zc2 g.Ops[i])=zop g i
    ·
     rw [decide_eq_true hs]; rfl
    ·
     rw [decide_eq_false hs]; rfl
   ·
    rw [if_pos (by simpa using hb),decide_eq_false hb]; rfl
  cases hg:zgc g i g.Ops[i] with
  | false =>
   rw [hg] at e1 e2
   exact ⟨_,z0t e1,z0t e2,.inr ⟨rfl,i,hlt,hg⟩⟩
  | true =>
   rw [hg] at e1 e2
   obtain ⟨r,h1,h2,h3⟩:=ih (i+1) (by omega) (by omega)
   refine ⟨r, by rw [z19 e1]; exact h1, by rw [z19 e2]; exact h2,?_⟩
   rcases h3 with ⟨h3,h4⟩ | h3
   ·
    refine .inl ⟨h3, fun j hj hij=>?_⟩
    by_cases hji:j=i
    ·
     subst hji; exact hg
    ·
     exact h4 j hj (by omega)
   ·
    exact .inr h3
theorem zrm (hw:z6x g):∃ c:Int,z6g g=some c∧z7v g=some c∧(c=0↔zkl g):=by
 unfold z6g z7v
 by_cases hl:60<g.Ops.length
 ·
  have d:decide (60<(g.Ops.length:Int))=true:=by simp; omega
  rw [d]
  exact ⟨4,rfl,rfl, by simp, fun h=>by have:=h.e.len; omega⟩
 have d:decide (60<(g.Ops.length:Int))=false:=by simp; omega
 simp only [d,Bool.false_eq_true,if_false]
 by_cases hi:g.IDs.length=g.Ops.length
 ·
  have d2:((g.IDs.length:Int) != (g.Ops.length:Int))=false:=by simp; omega
  simp only [d2,Bool.false_eq_true,if_false]
  obtain ⟨r,h1,h2,h3⟩:=zxo hw (by omega) hi g.Ops.length 0 rfl (by omega)
  rw [show (0:Int)=((0:Nat):Int) from rfl,h1,h2]
  rcases h3 with ⟨rfl,h4⟩ | ⟨rfl,j,hj,h4⟩
  ·
   have hok:z134 g:=fun i h=>by
    have:=h4 i h (by omega)
    unfold zgc at this
    simpa using this
   obtain ⟨c,s1,s2,s3⟩:=zrh (g:=g) (by omega) hi fun i h=>⟨(z5x (z96 (hok i h).1)).1,(z5x (z96 (hok i h).1)).2.1⟩
   refine ⟨c,?_,?_,s3.trans ⟨fun ⟨a,b,d⟩=>⟨⟨by omega,hi,a, fun i h=>⟨(z5x (z96 (hok i h).1)).1,(z5x (z96 (hok i h).1)).2.1⟩⟩,hok,b,d⟩, fun h=>⟨h.e.ri,h.ins,h.wf⟩⟩⟩
   ·
    simp only [zp6]; rw [s1]; simp only [bS]
   ·
    simp only [zp6]; rw [s2]; simp only [bS]
  ·
   refine ⟨8,rfl,rfl, by simp, fun h=>?_⟩
   have:=h.ops j hj
   unfold zgc at h4
   simp [this] at h4
 ·
  have d2:((g.IDs.length:Int) != (g.Ops.length:Int))=true:=by simp; omega
  rw [d2]
  exact ⟨8,rfl,rfl, by simp, fun h=>absurd h.e.ids hi⟩
end
section
open Go
variable {g:z00}
theorem zmo {κ β:Type} [DecidableEq κ] (k:κ) (v:β) (x:κ):∀ m:List (κ × β),zik (zor m k v) x=if x=k then some v else zik m x
 | []=>rfl
 | p::m=>by
  have ih:=zmo k v x m
  unfold zor
  by_cases h:k=p.1
  ·
   rw [if_pos h]
   show (if x=p.1 then some v else zik m x)=if x=k then some v else if x=p.1 then some p.2 else zik m x
   rw [← h]
   by_cases hx:x=k
   ·
    rw [if_pos hx,if_pos hx]
   ·
    rw [if_neg hx,if_neg hx,if_neg hx]
  ·
   rw [if_neg h]
   show (if x=p.1 then some p.2 else zik (zor m k v) x)=if x=k then some v else if x=p.1 then some p.2 else zik m x
   rw [ih]
   by_cases hx:x=p.1
   ·
    rw [if_pos hx,if_pos hx,if_neg (fun e=>h (by rw [← hx,e]))]
   ·
    rw [if_neg hx,if_neg hx]
theorem zg6:∀ (l m:List ID),l.Pairwise (fun a b=>kd a<kd b)→m.Pairwise (fun a b=>kd a<kd b)→(∀ x,x∈l↔x∈m)→l=m
 | [],m,_,_,h=>by
  cases m with
  | nil=>rfl
  | cons b m=>have:=(h b).2 (by simp); simp at this
 | a::l,[],_,_,h=>by have:=(h a).1 (by simp); simp at this
 | a::l,b::m,h1,h2,h=>by
  obtain ⟨p1,p2⟩:=List.pairwise_cons.1 h1
  obtain ⟨q1,q2⟩:=List.pairwise_cons.1 h2
  have hab:a=b:=by
   have ha:=(h a).1 (by simp)
   have hb:=(h b).2 (by simp)
   rcases List.mem_cons.1 ha with e | ha'
   ·
    exact e
   ·
    rcases List.mem_cons.1 hb with e | hb'
    ·
     exact e.symm
    ·
     have:=q1 a ha'; have:=p1 b hb'; omega
  subst hab
  congr 1
  refine zg6 l m p2 q2 fun x=>⟨fun hx=>?_, fun hx=>?_⟩
  ·
   rcases List.mem_cons.1 ((h x).1 (by simp [hx])) with e | h'
   ·
    subst e; have:=p1 x hx; omega
   ·
    exact h'
  ·
   rcases List.mem_cons.1 ((h x).2 (by simp [hx])) with e | h'
   ·
    subst e; have:=q1 x hx; omega
   ·
    exact h'
end
section
open Go
variable {g:z00}
structure zye (g:z00):Prop where
 ops:g.Ops.length≤70
 ids:g.IDs.length≤70
 op:∀ i (h:i<g.Ops.length),g.Ops[i].Preds.length≤20∧g.Ops[i].Act.Key.length≤100∧g.Ops[i].Act.Value.Text.length≤100
theorem z15z (S:zye g):z8v g=some g:=by
 have h1:=S.ops
 have h2:=S.ids
 have main:=z1q (F:=z3c g) (b:=g.Ops) g.Ops.length (fun i=>(g.Ops.take i,(i:Int))) (fun i hi=>?_) ?_
 ·
  unfold z8v
  rw [z1p (by simp; omega)]
  simp only [bS,List.nil_append]
  rw [List.take_zero] at main
  rw [show (0:Int)=((0:Nat):Int) from rfl,main]
  simp only [bS]
 ·
  have h4:=(S.op i hi).1
  unfold z3c zay
  rw [if_pos (by simpa using hi)]
  simp only []
  rw [z0c hi]
  simp only [bS]
  rw [z1p (by simp; omega)]
  simp only [bS,List.nil_append]
  rw [z1p (by simp; omega),z0h (by omega)]
  simp only [bS]
  rw [List.take_add_one,List.getElem?_eq_getElem hi]; rfl
 ·
  unfold z3c
  rw [if_neg (by simp),List.take_length]
theorem zhh (l:List ID) (hl:l.length≤1000):z2q l l=some true:=by
 have:=z1q (F:=z1w l l) (b:=.inr ()) l.length (fun i=>(i:Int)) (fun i hi=>?_) ?_
 ·
  unfold z2q
  rw [if_neg (by simp), show (0:Int)=((0:Nat):Int) from rfl,this]; rfl
 ·
  unfold z1w
  rw [if_pos (by simpa using hi),z0c hi,z0h (by omega)]
  simp only [bS]
  rw [if_neg (by simp)]
 ·
  unfold z1w
  rw [if_neg (by simp)]
theorem ztr (S:zye g):z8q g g=some true:=by
 have h1:=S.ops
 have h2:=S.ids
 have:=z1q (F:=z6l g g) (b:=.inr ()) g.Ops.length (fun i=>(i:Int)) (fun i hi=>?_) ?_
 ·
  unfold z8q
  rw [zhh _ (by omega)]
  simp only [bS]
  rw [if_neg (by simp),if_neg (by simp), show (0:Int)=((0:Nat):Int) from rfl,this]; rfl
 ·
  have h4:=(S.op i hi).1
  have hs:z4m g.Ops[i] g.Ops[i]=some true:=by
   unfold z4m
   rw [if_pos (by simp),zhh _ (by omega)]
   simp only [bS]
   simp
  unfold z6l
  rw [if_pos (by simpa using hi),z0c hi]
  simp only [bS]
  rw [hs,z0h (by omega)]
  simp only [bS]
  rw [if_neg (by simp)]
 ·
  unfold z6l
  rw [if_neg (by simp)]
end
section
open Go
structure Pos (l:List ID) (x:ID) (k:Nat):Prop where
 le:k≤l.length
 lo:∀ i (h:i<l.length),i<k→kd l[i]<kd x
 hi:∀ i (h:i<l.length),k≤i→kd x≤kd l[i]
theorem Pos.uniq {l:List ID} {x:ID} {k k':Nat} (h:Pos l x k) (h':Pos l x k'):k=k':=by
 have a:=h.le; have b:=h'.le
 refine Nat.le_antisymm (Nat.le_of_not_lt fun c=>?_) (Nat.le_of_not_lt fun c=>?_)
 ·
  have:=h.lo k' (by omega) c; have:=h'.hi k' (by omega) (Nat.le_refl _); omega
 ·
  have:=h'.lo k (by omega) c; have:=h.hi k (by omega) (Nat.le_refl _); omega
def zf7 {α:Type} (l:List α) (k:Nat) (x:α):List α:=l.take k++[x]++l.drop k
theorem zgh {α:Type} {l:List α} {k:Nat} {x:α} (h:k≤l.length):(zf7 l k x).length=l.length+1:=by
 unfold zf7; simp; omega
theorem zq9 {α:Type} {l:List α} {k i:Nat} {x:α} (h:k≤l.length) (hi:i<k):(zf7 l k x)[i]? = l[i]? := by
 unfold zf7
 rw [List.append_assoc,List.getElem?_append_left (by simp; omega),List.getElem?_take_of_lt hi]
theorem zpk {α:Type} {l:List α} {k:Nat} {x:α} (h:k≤l.length):(zf7 l k x)[k]? = some x:=by
 unfold zf7
 rw [List.append_assoc,List.getElem?_append_right (by simp; omega)]
 simp [Nat.min_eq_left h]
theorem zow {α:Type} {l:List α} {k i:Nat} {x:α} (h:k≤l.length) (hi:k<i):(zf7 l k x)[i]? = l[i - 1]? := by
 unfold zf7
 rw [List.getElem?_append_right (by simp; omega),List.getElem?_drop]
 congr 1; simp; omega
theorem zi8 {α:Type} {l:List α} {k:Nat} {x y:α}:y∈zf7 l k x↔y=x∨y∈l:=by
 unfold zf7
 have:y∈l↔y∈l.take k∨y∈l.drop k:=by rw [← List.mem_append,List.take_append_drop]
 rw [this]
 simp only [List.mem_append,List.mem_singleton]
 constructor
 ·
  rintro ((h | h) | h) <;> simp [h]
 ·
  rintro (h | h | h) <;> simp [h]
def insG (g:z00) (k:Nat) (x:ID) (o:z04):z00:=⟨zf7 g.IDs k x,zf7 g.Ops k o⟩
theorem zyj (l:List ID) (hl:l.length≤4611686018427387903) (hi:z7c l=true) (x:ID) (hx:x∉l):∃ k:Nat,z0f l x=some ((k:Int),false)∧Pos l x k:=by
 obtain ⟨b,h1,k,rfl,h2,h3,h4⟩:=zuw l hl hi x
 refine ⟨k,?_,h2,h3,h4⟩
 unfold z0f
 simp only [bS]
 rw [h1]
 simp only [bS]
 by_cases hk:k<l.length
 ·
  rw [if_pos (by simpa using hk),z0c hk]
  simp only [bS]
  rw [zrg]
  simp only [bS]
  rw [z12x,decide_eq_false fun (e:l[k]=x)=>hx (e ▸ List.getElem_mem hk)]
 ·
  rw [if_neg (by simpa using hk)]
theorem zht (g:z00) (hl:g.IDs.length≤4611686018427387903) (hi:z7c g.IDs=true) (x:ID) (hx:x∉g.IDs):∃ k:Nat,zbn g x=some ((k:Int),false)∧Pos g.IDs x k:=by
 obtain ⟨k,h1,h2⟩:=zyj g.IDs hl hi x hx
 refine ⟨k,?_,h2⟩
 unfold zbn
 rw [h1]
 simp only [bS]
theorem zy8 {l:List ID} (hi:z7c l=true) (x:ID):∃ k,Pos l x k:=by
 induction l with
 | nil=>exact ⟨0,Nat.le_refl _, fun i h=>by simp at h, fun i h=>by simp at h⟩
 | cons y l ih =>
  have h1:=(zel _).1 hi
  obtain ⟨h2,h3⟩:=List.pairwise_cons.1 h1
  by_cases hy:kd y<kd x
  ·
   obtain ⟨k,hk⟩:=ih ((zel _).2 h3)
   refine ⟨k+1, by simpa using hk.le, fun i h hik=>?_, fun i h hik=>?_⟩
   ·
    cases i with
    | zero=>exact hy
    | succ i=>exact hk.lo i (by simpa using h) (by omega)
   ·
    cases i with
    | zero=>omega
    | succ i=>exact hk.hi i (by simpa using h) (by omega)
  ·
   refine ⟨0,Nat.zero_le _, fun i h hik=>by omega, fun i h _=>?_⟩
   cases i with
   | zero=>simpa using Nat.le_of_not_lt hy
   | succ i =>
    have hil:i<l.length:=by simpa using h
    have:=h2 l[i] (List.getElem_mem hil)
    simp only [List.getElem_cons_succ]; omega
theorem z10t {l:List ID} {k:Nat} {x:ID} (hk:k≤l.length) (hl:l.length≤1000000):insF l (k:Int) [x]=some (zf7 l k x):=by
 unfold insF
 rw [z35 ⟨by omega, by simpa using hk,hl,rfl⟩]
 simp only [bS,Int.toNat_natCast]
 rfl
theorem znh {l:List ID} (h:l.length≤1000000):z0j l=some l:=by
 unfold z0j
 rw [z1p (by simp; omega)]
 rfl
theorem zi9 {o:z04} (h:o.Preds.length≤1000):zdb o=some o:=by
 unfold zdb
 rw [znh (by omega)]
 simp only [bS]
theorem zzn {α:Type} {l:List α} {i:Nat} {x:α} (h:l[i]? = some x):l.take i++[x]=l.take (i+1):=by
 rw [List.take_add_one,h]; rfl
theorem z14n {g:z00} (hl:g.IDs.length≤1000) (hi:z7c g.IDs=true) {x:ID} (hx:x∈g.IDs) (o:z04):zd3 g x o=some (g,false):=by
 obtain ⟨k,k1,-,-⟩:=zfo g (by omega) hi x
 unfold zd3
 rw [k1,decide_eq_true hx]
 rfl
theorem z10n {g:z00} (hg:g.IDs.length=g.Ops.length) (hl:g.IDs.length≤1000) (hi:z7c g.IDs=true) {x:ID} (hx:x∉g.IDs) {o:z04} (ho:o.Preds.length≤1000) (hp:∀ p∈g.Ops,p.Preds.length≤1000) :
  ∃ k,zd3 g x o=some (insG g k x o,true)∧Pos g.IDs x k:=by
 obtain ⟨k,k1,k2⟩:=zht g (by omega) hi x hx
 have hk:=k2.le
 have hko:k≤g.Ops.length:=by omega
 refine ⟨k,?_,k2⟩
 have hlen:(zf7 g.Ops k o).length=g.Ops.length+1:=zgh hko
 have hleni:(zf7 g.IDs k x).length=g.Ops.length+1:=by rw [zgh hk,hg]
 have main:=z1q (F:=zeo g o ((k:Int),false) (zf7 g.IDs k x)) (b:=zf7 g.Ops k o) (g.Ops.length+1) (fun i=>((zf7 g.Ops k o).take i,(i:Int))) (fun i hin=>?_) ?_
 ·
  unfold zd3
  rw [k1]
  simp only [bS]
  rw [if_neg (by simp),znh (by omega)]
  simp only [bS]
  rw [z10t hk (by omega)]
  simp only [bS]
  rw [List.take_zero] at main
  rw [show (([]:List z04),(0:Int))=([],((0:Nat):Int)) from rfl,main]
  simp only [bS]
  rfl
 ·
  have happ:∀ z,(zf7 g.Ops k o)[i]? = some z→app 112 ((zf7 g.Ops k o).take i) [z]=some ((zf7 g.Ops k o).take (i+1)):=fun z hz=>by
   rw [z1p (by simp; omega),zzn hz]
  unfold zeo
  simp only [bS]
  rw [if_pos (by rw [hleni]; simp; omega)]
  by_cases h1:i<k
  ·
   have hio:i<g.Ops.length:=by omega
   rw [if_pos (by simpa using h1),z0c hio]
   simp only [bS]
   rw [zi9 (hp _ (List.getElem_mem hio))]
   simp only [bS]
   rw [happ _ (by rw [zq9 hko h1,List.getElem?_eq_getElem hio]),z0h (by omega)]
   simp only [bS]
  ·
   by_cases h2:i=k
   ·
    subst h2
    rw [if_neg (by simp),if_pos (by simp),zi9 ho]
    simp only [bS]
    rw [happ _ (zpk hko),z0h (by omega)]
    simp only [bS]
   ·
    have hio:i - 1<g.Ops.length:=by omega
    have e:w64 ((i:Int) - 1)=((i - 1:Nat):Int):=by rw [z0u (by omega) (by omega)]; omega
    rw [if_neg (by simp; omega),if_neg (by simp; omega),e,z0c hio]
    simp only [bS]
    rw [zi9 (hp _ (List.getElem_mem hio))]
    simp only [bS]
    rw [happ _ (by rw [zow hko (by omega),List.getElem?_eq_getElem hio]),z0h (by omega)]
    simp only [bS]
 ·
  unfold zeo
  rw [if_neg (by rw [hleni]; simp)]
  rw [List.take_of_length_le (by rw [hlen]; exact Nat.le_refl _)]
theorem zy6 {l:List ID} (hi:z7c l=true) {x:ID} (hx:x∉l) {k:Nat} (hk:Pos l x k):z7c (zf7 l k x)=true:=by
 rw [zel] at hi ⊢
 have hsplit:(l.take k++l.drop k).Pairwise (fun a b=>kd a<kd b):=by rw [List.take_append_drop]; exact hi
 obtain ⟨h1,h2,h3⟩:=List.pairwise_append.1 hsplit
 have hlo:∀ a∈l.take k,kd a<kd x:=fun a ha=>by
  obtain ⟨i,hi',rfl⟩:=List.getElem_of_mem ha
  rw [List.length_take] at hi'
  rw [List.getElem_take]
  exact hk.lo i (by omega) (by omega)
 have hhi:∀ a∈l.drop k,kd x<kd a:=fun a ha=>by
  obtain ⟨i,hi',rfl⟩:=List.getElem_of_mem ha
  rw [List.length_drop] at hi'
  rw [List.getElem_drop]
  have h:=hk.hi (k+i) (by omega) (by omega)
  have hne:kd x≠kd l[k+i]:=fun e=>hx (zvb e ▸ List.getElem_mem _)
  omega
 unfold zf7
 rw [List.append_assoc,List.pairwise_append]
 refine ⟨h1,?_, fun a ha b hb=>?_⟩
 ·
  rw [List.singleton_append,List.pairwise_cons]; exact ⟨hhi,h2⟩
 ·
  rw [List.singleton_append] at hb
  rcases List.mem_cons.1 hb with rfl | hb
  ·
   exact hlo a ha
  ·
   exact h3 a ha b hb
end
section
open Go
variable {g a b:z00}
theorem zs0 (l m:List ID) (hlm:l.length=m.length) (hl:l.length≤1000):∃ r,iter (z1u l m) 0=some r∧((r=.inl false∧l≠m)∨(r=.inr ()∧l=m)):=by
 refine zes (F:=z1u l m) (fun s=>∃ i:Nat,s=(i:Int)∧i≤l.length∧∀ k (h:k<l.length) (h2:k<m.length),k<i→l[k]=m[k]) (fun s=>l.length - s.toNat) _ ?_ 0 ⟨0,rfl,Nat.zero_le _, fun k _ _ h=>by omega⟩
 rintro s ⟨i,rfl,h1,h2⟩
 by_cases hi:i<l.length
 ·
  have him:i<m.length:=by omega
  by_cases hc:l[i]=m[i]
  ·
   refine .inr ⟨((i+1:Nat):Int),?_,⟨i+1,rfl,hi, fun k hk hk2 hki=>?_⟩, by simp; omega⟩
   ·
    unfold z1u
    rw [if_pos (by simpa using hi),z0c hi,z0c him,z0h (by omega)]
    simp only [bS]
    rw [if_neg (by simpa using hc)]
   ·
    by_cases hk':k=i
    ·
     subst hk'; exact hc
    ·
     exact h2 k hk hk2 (by omega)
  ·
   refine .inl ⟨.inl false,?_,.inl ⟨rfl, fun e=>hc (by subst e; rfl)⟩⟩
   unfold z1u
   rw [if_pos (by simpa using hi),z0c hi,z0c him]
   simp only [bS]
   rw [if_pos (by simpa using hc)]
 ·
  refine .inl ⟨.inr (),?_,.inr ⟨rfl,List.ext_getElem hlm fun k hk hk2=>h2 k hk hk2 (by omega)⟩⟩
  unfold z1u
  rw [if_neg (by simpa using hi)]
theorem z12b (l m:List ID) (hl:l.length≤1000):z1l l m=some (decide (l=m)):=by
 unfold z1l
 by_cases hlm:l.length=m.length
 ·
  obtain ⟨r,r1,r2⟩:=zs0 l m hlm hl
  rw [if_neg (by simp [hlm]),r1]
  rcases r2 with ⟨rfl,h⟩ | ⟨rfl,h⟩
  ·
   rw [decide_eq_false h]; rfl
  ·
   rw [decide_eq_true h]; rfl
 ·
  rw [if_pos (by simp; omega),decide_eq_false fun e=>hlm (by rw [e])]
theorem zpr (l m:List ID) (hlm:l.length=m.length) (hl:l.length≤1000):∃ r,iter (z1w l m) 0=some r∧((r=.inl false∧l≠m)∨(r=.inr ()∧l=m)):=by
 refine zes (F:=z1w l m) (fun s=>∃ i:Nat,s=(i:Int)∧i≤l.length∧∀ k (h:k<l.length) (h2:k<m.length),k<i→l[k]=m[k]) (fun s=>l.length - s.toNat) _ ?_ 0 ⟨0,rfl,Nat.zero_le _, fun k _ _ h=>by omega⟩
 rintro s ⟨i,rfl,h1,h2⟩
 by_cases hi:i<l.length
 ·
  have him:i<m.length:=by omega
  by_cases hc:l[i]=m[i]
  ·
   refine .inr ⟨((i+1:Nat):Int),?_,⟨i+1,rfl,hi, fun k hk hk2 hki=>?_⟩, by simp; omega⟩
   ·
    unfold z1w
    rw [if_pos (by simpa using hi),z0c hi,z0c him,z0h (by omega)]
    simp only [bS]
    rw [if_neg (by simpa using hc)]
   ·
    by_cases hk':k=i
    ·
     subst hk'; exact hc
    ·
     exact h2 k hk hk2 (by omega)
  ·
   refine .inl ⟨.inl false,?_,.inl ⟨rfl, fun e=>hc (by subst e; rfl)⟩⟩
   unfold z1w
   rw [if_pos (by simpa using hi),z0c hi,z0c him]
   simp only [bS]
   rw [if_pos (by simpa using hc)]
 ·
  refine .inl ⟨.inr (),?_,.inr ⟨rfl,List.ext_getElem hlm fun k hk hk2=>h2 k hk hk2 (by omega)⟩⟩
  unfold z1w
  rw [if_neg (by simpa using hi)]
theorem z101 (l m:List ID) (hl:l.length≤1000):z2q l m=some (decide (l=m)):=by
 unfold z2q
 by_cases hlm:l.length=m.length
 ·
  obtain ⟨r,r1,r2⟩:=zpr l m hlm hl
  rw [if_neg (by simp [hlm]),r1]
  rcases r2 with ⟨rfl,h⟩ | ⟨rfl,h⟩
  ·
   rw [decide_eq_false h]; rfl
  ·
   rw [decide_eq_true h]; rfl
 ·
  rw [if_pos (by simp; omega),decide_eq_false fun e=>hlm (by rw [e])]
theorem zah {p q:z04}:p=q↔p.Author=q.Author∧p.Preds=q.Preds∧p.Stamp=q.Stamp∧p.Act=q.Act∧p.Sig=q.Sig:=by
 cases p; cases q; simp
theorem zrl (p q:z04) (hp:p.Preds.length≤1000):zia p q=some (decide (p=q)):=by
 unfold zia
 rw [z12b _ _ hp]
 simp only [bS]
 by_cases h1:p.Author=q.Author
 ·
  by_cases h2:p.Stamp=q.Stamp
  ·
   by_cases h3:p.Act=q.Act
   ·
    by_cases h4:p.Sig=q.Sig
    ·
     simp [zah,h1,h2,h3,h4]
    ·
     simp [zah,h1,h2,h3,h4]
   ·
    simp [zah,h1,h2,h3]
  ·
   simp [zah,h1,h2]
 ·
  simp [zah,h1]
theorem zx8 (p q:z04) (hp:p.Preds.length≤1000):z4m p q=some (decide (p=q)):=by
 unfold z4m
 rw [z101 _ _ hp]
 simp only [bS]
 by_cases h1:p.Author=q.Author
 ·
  by_cases h5:p.Preds=q.Preds
  ·
   by_cases h2:p.Stamp=q.Stamp
   ·
    by_cases h3:p.Act=q.Act
    ·
     by_cases h4:p.Sig=q.Sig
     ·
      simp [zah,h1,h2,h3,h4,h5]
     ·
      simp [zah,h1,h2,h3,h4]
    ·
     simp [zah,h1,h2,h3,h5]
   ·
    simp [zah,h1,h2,h5]
  ·
   simp [zah,h1,h5]
 ·
  simp [zah,h1]
structure Fit (g:z00) (n:Nat):Prop where
 ids:g.IDs.length=g.Ops.length
 len:g.Ops.length≤n
 ri:z7c g.IDs=true
 op:∀ o∈g.Ops,o.Preds.length≤20∧o.Act.Key.length≤100∧o.Act.Value.Text.length≤100
theorem Fit.small {n:Nat} (h:Fit g n) (hn:n≤70):zye g:=⟨by have:=h.len; omega, by have:=h.len; have:=h.ids; omega, fun i hi=>h.op _ (List.getElem_mem hi)⟩
def posF (l:List ID) (x:ID):Nat:=(l.filter fun y=>decide (kd y<kd x)).length
theorem zi7 {l:List ID} (hi:z7c l=true) (x:ID):Pos l x (posF l x):=by
 obtain ⟨k,hk⟩:=zy8 hi x
 have hkl:=hk.le
 have:posF l x=k:=by
  unfold posF
  rw [← List.take_append_drop k l,List.filter_append,List.filter_eq_self.2 fun y hy=>?_,List.filter_eq_nil_iff.2 fun y hy=>?_]
  ·
   simp; omega
  ·
   obtain ⟨i,hi',rfl⟩:=List.getElem_of_mem hy
   rw [List.length_drop] at hi'
   rw [List.getElem_drop]
   have:=hk.hi (k+i) (by omega) (by omega)
   simp; omega
  ·
   obtain ⟨i,hi',rfl⟩:=List.getElem_of_mem hy
   rw [List.length_take] at hi'
   rw [List.getElem_take]
   have:=hk.lo i (by omega) (by omega)
   simpa using this
 rw [this]; exact hk
def zhy (g:z00) (p:ID × z04):z00:=if p.1∈g.IDs then g else insG g (posF g.IDs p.1) p.1 p.2
theorem zep {n:Nat} (h:Fit g n) {p:ID × z04} (hp:p.2.Preds.length≤20∧p.2.Act.Key.length≤100∧p.2.Act.Value.Text.length≤100):Fit (zhy g p) (n+1):=by
 unfold zhy
 split
 ·
  exact ⟨h.ids, by have:=h.len; omega,h.ri,h.op⟩
 ·
  rename_i hx
  have hk:=zi7 h.ri p.1
  have hkl:=hk.le
  have hi:=h.ids
  refine ⟨?_,?_,zy6 h.ri hx hk, fun o ho=>?_⟩
  ·
   show (zf7 g.IDs _ _).length=(zf7 g.Ops _ _).length
   rw [zgh hkl,zgh (by omega),hi]
  ·
   show (zf7 g.Ops _ _).length≤_
   rw [zgh (by omega)]; have:=h.len; omega
  ·
   rcases zi8.1 ho with rfl | ho
   ·
    exact hp
   ·
    exact h.op o ho
theorem ztx {n:Nat} (h:Fit g n) (hn:n≤900) (p:ID × z04) (hp:p.2.Preds.length≤20):zd3 g p.1 p.2=some (zhy g p,!decide (p.1∈g.IDs)):=by
 have h1:=h.len
 have h2:=h.ids
 unfold zhy
 by_cases hx:p.1∈g.IDs
 ·
  rw [z14n (by omega) h.ri hx,if_pos hx,decide_eq_true hx]; rfl
 ·
  obtain ⟨k,k1,k2⟩:=z10n h2 (by omega) h.ri hx (o:=p.2) (by omega) (fun q hq=>by have:=(h.op q hq).1; omega)
  rw [k1,if_neg hx,decide_eq_false hx,k2.uniq (zi7 h.ri p.1)]; rfl
def z8z (g:z00) (l:List (ID × z04)):z00:=l.foldl zhy g
theorem zhd (g:z00) (l:List (ID × z04)) (p:ID × z04):z8z g (l++[p])=zhy (z8z g l) p:=by unfold z8z; rw [List.foldl_append]; rfl
theorem zjf {n:Nat}:∀ {l:List (ID × z04)} {g:z00},Fit g n→(∀ p∈l,p.2.Preds.length≤20∧p.2.Act.Key.length≤100∧p.2.Act.Value.Text.length≤100)→Fit (z8z g l) (n+l.length):=by
 intro l
 induction l generalizing n with
 | nil=>intro g h _; exact h
 | cons p l ih =>
  intro g h hp
  have:=ih (zep h (hp p (by simp))) fun q hq=>hp q (by simp [hq])
  rw [List.length_cons, show n+(l.length+1)=n+1+l.length by omega]
  exact this
def zc8 (g:z00):List (ID × z04):=g.IDs.zip g.Ops
theorem zjr (h:g.IDs.length=g.Ops.length) {i:Nat} (hi:i<g.Ops.length):(zc8 g)[i]? = some (g.IDs[i],g.Ops[i]):=by
 unfold zc8; rw [List.getElem?_zip_eq_some]; exact ⟨List.getElem?_eq_getElem (by omega),List.getElem?_eq_getElem hi⟩
theorem zef (h:g.IDs.length=g.Ops.length):(zc8 g).length=g.Ops.length:=by unfold zc8; rw [List.length_zip,h,Nat.min_self]
theorem zjg {p:ID × z04} (h:p∈zc8 g):p.1∈g.IDs∧p.2∈g.Ops:=by
 unfold zc8 at h
 exact ⟨(List.of_mem_zip h).1,(List.of_mem_zip h).2⟩
def z3g (a b:z00):z00:=z8z a (zc8 b)
def zc1 (a b:z00):Prop:=∀ i (h:i<b.IDs.length) (h2:i<b.Ops.length),b.IDs[i]∈a.IDs→a.Ops[a.IDs.idxOf b.IDs[i]]? = some b.Ops[i]
theorem z144 {l:List ID} (hi:z7c l=true) (hl:l.length≤1000) {x:ID} (hx:x∈l):z67 l x=some (l.idxOf x:Int):=by
 obtain ⟨k,k1,k2⟩:=z129 l x (by omega)
 rcases k2 with ⟨-,h⟩ | ⟨i,rfl,h,rfl⟩
 ·
  exact absurd hx h
 ·
  rw [k1,zgq hi h]
theorem z12m {l:List ID} (hl:l.length≤1000) {x:ID} (hx:x∉l):z67 l x=some (-1):=by
 obtain ⟨k,k1,k2⟩:=z129 l x (by omega)
 rcases k2 with ⟨rfl,h⟩ | ⟨i,rfl,h,rfl⟩
 ·
  exact k1
 ·
  exact absurd (List.getElem_mem h) hx
end
section
open Go
variable {g a b:z00}
theorem zse (h:b.IDs.length=b.Ops.length) {i:Nat} (hi:i<b.Ops.length):(zc8 b).take (i+1)=(zc8 b).take i++[(b.IDs[i],b.Ops[i])]:=by
 rw [List.take_add_one,zjr h hi]; rfl
theorem zqx {n m:Nat} (Fa:Fit a n) (Fb:Fit b m) (i:Nat):Fit (z8z a ((zc8 b).take i)) (n+m):=by
 have h:=zjf (l:=(zc8 b).take i) Fa fun p hp=>Fb.op _ (zjg (List.mem_of_mem_take hp)).2
 have hl:((zc8 b).take i).length≤m:=by rw [List.length_take,zef Fb.ids]; have:=Fb.len; omega
 exact ⟨h.ids, by have:=h.len; omega,h.ri,h.op⟩
theorem zvo {n:Nat} (Fa:Fit a n) (hn:n≤500):iter (z9p a) ([],0)=some a.Ops:=by
 have h1:=Fa.len
 have main:=z1q (F:=z9p a) (b:=a.Ops) a.Ops.length (fun i=>(a.Ops.take i,(i:Int))) (fun i hi=>?_) ?_
 ·
  rw [List.take_zero] at main; exact main
 ·
  unfold z9p
  simp only []
  rw [if_pos (by simpa using hi),z0c hi]
  simp only [bS]
  rw [zi9 (by have:=(Fa.op _ (List.getElem_mem hi)).1; omega)]
  simp only [bS]
  rw [z1p (by simp; omega),z0h (by omega),zzn (List.getElem?_eq_getElem hi)]
  simp only [bS]
 ·
  unfold z9p
  rw [if_neg (by simp),List.take_length]
theorem zy0 {n m:Nat} (Fa:Fit a n) (Fb:Fit b m) (hn:n≤400) (hm:m≤400):iter (z9r b) (a.IDs,a.Ops,0)=some ((z3g a b).IDs,(z3g a b).Ops):=by
 have hb1:=Fb.len; have hb2:=Fb.ids
 have main:=z1q (F:=z9r b) (b:=((z3g a b).IDs,(z3g a b).Ops)) b.Ops.length (fun i=>((z8z a ((zc8 b).take i)).IDs,(z8z a ((zc8 b).take i)).Ops,(i:Int))) (fun i hi=>?_) ?_
 ·
  exact main
 ·
  have hf:=zqx Fa Fb i
  unfold z9r
  simp only []
  rw [if_pos (by simp; omega),z0c (by omega),z0c hi]
  simp only [bS]
  have hp:=ztx (g:=⟨(z8z a ((zc8 b).take i)).IDs,(z8z a ((zc8 b).take i)).Ops⟩) hf (by omega) (b.IDs[i],b.Ops[i]) (Fb.op _ (List.getElem_mem hi)).1
  simp only at hp
  rw [hp,z0h (by omega)]
  simp only [bS]
  rw [zse hb2 hi,zhd]
 ·
  unfold z9r
  simp only []
  rw [if_neg (by simp; omega)]
  unfold z3g
  rw [List.take_of_length_le (by rw [zef hb2]; exact Nat.le_refl _)]
theorem z11d {c d:Int} (ha:z6g a=some c) (hb:z6g b=some d):zer [a,b]=some (if c≠0 then c else d):=by
 have e0:z6b [a,b] 0=if c≠0 then some (.inl (.inl c)) else some (.inr 1):=by
  unfold z6b
  rw [if_pos (by simp), show idx [a,b] (0:Int)=some a from rfl]
  simp only [bS]
  rw [ha]
  simp only [bS]
  by_cases h:c=0
  ·
   subst h; rfl
  ·
   rw [if_pos (by simpa using h),if_pos h]
 have e1:z6b [a,b] 1=if d≠0 then some (.inl (.inl d)) else some (.inr 2):=by
  unfold z6b
  rw [if_pos (by simp), show idx [a,b] (1:Int)=some b from rfl]
  simp only [bS]
  rw [hb]
  simp only [bS]
  by_cases h:d=0
  ·
   subst h; rfl
  ·
   rw [if_pos (by simpa using h),if_pos h]
 have e2:z6b [a,b] 2=some (.inl (.inr ())):=by
  unfold z6b
  rw [if_neg (by simp)]
 unfold zer
 by_cases h:c=0
 ·
  rw [if_neg (by simpa using h)] at e0
  rw [z19 e0,if_neg (by simpa using h)]
  by_cases h2:d=0
  ·
   rw [if_neg (by simpa using h2)] at e1
   rw [z19 e1,z0t e2,h2]; rfl
  ·
   rw [if_pos h2] at e1
   rw [z0t e1]; rfl
 ·
  rw [if_pos h] at e0
  rw [z0t e0,if_pos h]; rfl
end
section
open Go
variable {g h a b:z00} {n m:Nat}
theorem zpl:∀ {l:List Nat} {x:Nat},x∈l→x≤l.sum
 | [],_,h=>by simp at h
 | y::l,x,h=>by
  rw [List.sum_cons]
  rcases List.mem_cons.1 h with rfl | h
  ·
   omega
  ·
   have:=zpl h; omega
def z1s (g:z00) (x:ID):Option z04:=if x∈g.IDs then g.Ops[g.IDs.idxOf x]? else none
theorem z8t (F:Fit g n) {x:ID} {o:z04}:z1s g x=some o↔∃ i:Nat,g.IDs[i]? = some x∧g.Ops[i]? = some o:=by
 unfold z1s
 constructor
 ·
  intro h
  split at h
  ·
   rename_i hx
   exact ⟨_, by rw [List.getElem?_eq_getElem (List.idxOf_lt_length_of_mem hx)]; simp,h⟩
  ·
   cases h
 ·
  rintro ⟨i,h1,h2⟩
  obtain ⟨hi,rfl⟩:=List.getElem?_eq_some_iff.1 h1
  rw [if_pos (List.getElem_mem hi),zgq F.ri hi,h2]
theorem z6o (F:Fit g n) {i:Nat} (hi:i<g.Ops.length):z1s g (g.IDs[i]'(by rw [F.ids]; exact hi))=some g.Ops[i] :=
 (z8t F).2 ⟨i,List.getElem?_eq_getElem (by rw [F.ids]; exact hi),List.getElem?_eq_getElem hi⟩
theorem z6n {x:ID} {o:z04} (h:z1s g x=some o):x∈g.IDs∧o∈g.Ops:=by
 unfold z1s at h
 split at h
 ·
  exact ⟨by assumption,List.mem_of_getElem? h⟩
 ·
  cases h
theorem z5w (F:Fit g n) {x:ID} (hx:x∈g.IDs):∃ o,z1s g x=some o:=by
 have h1:g.IDs.idxOf x<g.Ops.length:=by rw [← F.ids]; exact List.idxOf_lt_length_of_mem hx
 exact ⟨g.Ops[g.IDs.idxOf x], by unfold z1s; rw [if_pos hx,List.getElem?_eq_getElem h1]⟩
theorem zct {x:ID} (hx:x∉g.IDs):z1s g x=none:=by unfold z1s; rw [if_neg hx]
theorem zau (F:Fit g n) {x:ID}:(z1s g x).isSome=decide (x∈g.IDs):=by
 by_cases hx:x∈g.IDs
 ·
  obtain ⟨o,ho⟩:=z5w F hx; rw [ho,decide_eq_true hx]; rfl
 ·
  rw [zct hx,decide_eq_false hx]; rfl
theorem zj0 (Fg:Fit g n) (Fh:Fit h m) (e:∀ x,z1s g x=z1s h x):g=h:=by
 have hids:g.IDs=h.IDs:=zg6 _ _ ((zel _).1 Fg.ri) ((zel _).1 Fh.ri) fun x=>by
  have h1:=zau Fg (x:=x)
  have h2:=zau Fh (x:=x)
  rw [e] at h1
  rw [h1] at h2
  simpa using h2
 have hl:g.Ops.length=h.Ops.length:=by rw [← Fg.ids,← Fh.ids,hids]
 have hops:g.Ops=h.Ops:=List.ext_getElem hl fun i h1 h2=>by
  have e1:=z6o Fg h1
  have e2:=z6o Fh h2
  have e3:g.IDs[i]'(by rw [Fg.ids]; exact h1)=h.IDs[i]'(by rw [Fh.ids]; exact h2):=by simp [hids]
  rw [e3,e,e2] at e1
  exact (Option.some.inj e1).symm
 cases g; cases h
 simp only at hids hops
 rw [hids,hops]
theorem ztm (F:Fit g n) (p:ID × z04) {x:ID}:x∈(zhy g p).IDs↔x=p.1∨x∈g.IDs:=by
 unfold zhy
 split
 ·
  rename_i h; constructor
  ·
   exact .inr
  ·
   rintro (rfl | h2)
   ·
    exact h
   ·
    exact h2
 ·
  exact zi8
theorem zmb (F:Fit g n) {p:ID × z04} (hp:p.2.Preds.length≤20∧p.2.Act.Key.length≤100∧p.2.Act.Value.Text.length≤100) (hx:p.1∉g.IDs) (y:ID):z1s (zhy g p) y=if y=p.1 then some p.2 else z1s g y:=by
 have Fa:=zep F hp
 have hk:=zi7 F.ri p.1
 have hkl:=hk.le
 have hi:=F.ids
 have e:zhy g p=insG g (posF g.IDs p.1) p.1 p.2:=by unfold zhy; rw [if_neg hx]
 rw [e] at Fa ⊢
 generalize posF g.IDs p.1=k at hk hkl Fa
 by_cases hy:y=p.1
 ·
  rw [if_pos hy,z8t Fa]
  exact ⟨k, by show (zf7 g.IDs k p.1)[k]? = _; rw [zpk hkl,hy],zpk (by omega)⟩
 ·
  rw [if_neg hy]
  cases ho:z1s g y with
  | some o =>
   obtain ⟨i,h1,h2⟩:=(z8t F).1 ho
   rw [z8t Fa]
   by_cases hik:i<k
   ·
    exact ⟨i, by show (zf7 g.IDs k p.1)[i]? = _; rw [zq9 hkl hik,h1], by show (zf7 g.Ops k p.2)[i]? = _; rw [zq9 (by omega) hik,h2]⟩
   ·
    exact ⟨i+1, by show (zf7 g.IDs k p.1)[i+1]? = _; rw [zow hkl (by omega)]; exact h1, by show (zf7 g.Ops k p.2)[i+1]? = _; rw [zow (by omega) (by omega)]; exact h2⟩
  | none =>
   refine zct fun hm=>?_
   rcases zi8.1 hm with rfl | hm
   ·
    exact hy rfl
   ·
    obtain ⟨o,h⟩:=z5w F hm; rw [h] at ho; cases ho
def zzu (g:z00) (rk:ID→Nat):Prop:=∀ x o,z1s g x=some o→∀ p∈o.Preds,rk p<rk x
theorem z121 (G:zkl g) (F:Fit g n):∃ rk,zzu g rk:=by
 obtain ⟨Q,-,q1,q2,q3⟩:=zre G.e G.ins
 refine ⟨fun x=>Q.idxOf (g.IDs.idxOf x), fun x o ho p hp=>?_⟩
 obtain ⟨i,h1,h2⟩:=(z8t F).1 ho
 obtain ⟨hi,rfl⟩:=List.getElem?_eq_some_iff.1 h1
 obtain ⟨hio,rfl⟩:=List.getElem?_eq_some_iff.1 h2
 have hiQ:i∈Q:=(q3 i).2 ⟨hio,G.wf i hio⟩
 have hk:Q.idxOf i<Q.length:=List.idxOf_lt_length_of_mem hiQ
 show Q.idxOf (g.IDs.idxOf p)<Q.idxOf (g.IDs.idxOf g.IDs[i])
 rw [zgq F.ri hi]
 have hm:=q2 (Q.idxOf i) hk (g.IDs.idxOf p) (by
  have:Q[Q.idxOf i]=i:=by simp
  rw [this]
  unfold z39
  exact List.mem_map.2 ⟨p, by rw [z9j hio]; exact hp,rfl⟩)
 obtain ⟨j,hj,e⟩:=List.getElem_of_mem hm
 rw [List.length_take] at hj
 rw [List.getElem_take] at e
 have:Q.idxOf (g.IDs.idxOf p)≤j:=by
  rw [← e]
  exact Nat.le_of_not_lt fun c=>by
   have:=List.not_of_lt_findIdx (p:=fun y=>y==Q[j]) (xs:=Q) (i:=j) (by simpa [List.idxOf] using c)
   simp at this
 omega
structure zlj (g:z00):Prop where
 ops:∀ x o,z1s g x=some o→zcu o=0∧sha (zc2 o)=x∧o.Preds.length≤4∧z7c o.Preds=true
 ins:∀ x o,z1s g x=some o→∀ p∈o.Preds,p∈g.IDs
 rk:∃ rk,zzu g rk
theorem zin (G:zkl g) (F:Fit g n):zlj g:=by
 refine ⟨fun x o ho=>?_, fun x o ho p hp=>?_,z121 G F⟩
 ·
  obtain ⟨i,h1,h2⟩:=(z8t F).1 ho
  obtain ⟨hi,rfl⟩:=List.getElem?_eq_some_iff.1 h1
  obtain ⟨hio,rfl⟩:=List.getElem?_eq_some_iff.1 h2
  obtain ⟨k1,k2⟩:=G.ops i hio
  exact ⟨k1,k2.trans (zd8 hi),G.e.op i hio⟩
 ·
  obtain ⟨i,h1,h2⟩:=(z8t F).1 ho
  obtain ⟨hio,rfl⟩:=List.getElem?_eq_some_iff.1 h2
  exact zg5 G.ins i p (by rw [z9j hio]; exact hp)
theorem zlu (F:Fit g 60) (S:zlj g):zkl g:=by
 have hl:=F.len
 have E:zf4 g:=⟨hl,F.ids,F.ri, fun i hi=>(S.ops _ _ (z6o F hi)).2.2⟩
 have hin:zi1 g=true:=by
  unfold zi1
  rw [List.all_eq_true]
  intro o ho
  rw [List.all_eq_true]
  intro p hp
  obtain ⟨i,hi,rfl⟩:=List.getElem_of_mem ho
  simpa using S.ins _ _ (z6o F hi) p hp
 obtain ⟨rk,hrk⟩:=S.rk
 refine ⟨E, fun i hi=>?_,hin, fun i hi=>?_⟩
 ·
  obtain ⟨k1,k2,-⟩:=S.ops _ _ (z6o F hi)
  exact ⟨k1,k2.trans (zd8 (by rw [F.ids]; exact hi)).symm⟩
 ·
  have key:∀ r i (hi:i<g.Ops.length),rk (g.IDs[i]'(by rw [F.ids]; exact hi))=r→Wf (z39 g) i:=by
   intro r
   induction r using Nat.strongRecOn with
   | _ r ih =>
    intro i hi hr
    refine .mk i fun p hp=>?_
    unfold z39 at hp
    obtain ⟨x,hx,rfl⟩:=List.mem_map.1 hp
    rw [z9j hi] at hx
    have hlt:=hrk _ _ (z6o F hi) x hx
    have hxm:=S.ins _ _ (z6o F hi) x hx
    have hpl:g.IDs.idxOf x<g.IDs.length:=List.idxOf_lt_length_of_mem hxm
    refine ih (rk x) (by omega) (g.IDs.idxOf x) (by rw [← F.ids]; exact hpl) ?_
    congr 1
    simp
  exact key _ i hi rfl
theorem zui (F:Fit g n) (S:zlj g) {p:ID × z04} (hp:p.2.Preds.length≤20∧p.2.Act.Key.length≤100∧p.2.Act.Value.Text.length≤100) (hx:p.1∉g.IDs) (h1:zcu p.2=0∧sha (zc2 p.2)=p.1∧p.2.Preds.length≤4∧z7c p.2.Preds=true) (h2:∀ q∈p.2.Preds,q∈g.IDs):zlj (zhy g p):=by
 obtain ⟨rk,hrk⟩:=S.rk
 have hl:=zmb F hp hx
 refine ⟨fun x o ho=>?_, fun x o ho q hq=>?_,?_⟩
 ·
  rw [hl] at ho
  split at ho
  ·
   rename_i e; cases ho; subst e; exact h1
  ·
   exact S.ops x o ho
 ·
  rw [ztm F]
  rw [hl] at ho
  split at ho
  ·
   cases ho; exact .inr (h2 q hq)
  ·
   exact .inr (S.ins x o ho q hq)
 ·
  refine ⟨fun y=>if y=p.1 then (g.IDs.map rk).sum+1 else rk y, fun x o ho q hq=>?_⟩
  have hqm:q∈g.IDs:=by
   rw [hl] at ho
   split at ho
   ·
    cases ho; exact h2 q hq
   ·
    exact S.ins x o ho q hq
  have hqp:q≠p.1:=fun e=>hx (e ▸ hqm)
  simp only [if_neg hqp]
  rw [hl] at ho
  split at ho
  ·
   rename_i e
   rw [if_pos e]
   have:rk q≤(g.IDs.map rk).sum:=zpl (List.mem_map.2 ⟨q,hqm,rfl⟩)
   omega
  ·
   rename_i e
   rw [if_neg e]
   exact hrk x o ho q hq
theorem znx {l:List (ID × z04)}:∀ {g:z00} {n:Nat},Fit g n→(∀ p∈l,p.2.Preds.length≤20∧p.2.Act.Key.length≤100∧p.2.Act.Value.Text.length≤100)→(l.map Prod.fst).Nodup→∀ y,z1s (z8z g l) y=(z1s g y).or ((l.find? fun p=>decide (p.1=y)).map Prod.snd):=by
 induction l with
 | nil=>intro g n F _ _ y; simp [z8z]
 | cons p l ih =>
  intro g n F hp hnd y
  rw [List.map_cons,List.nodup_cons] at hnd
  have hpp:=hp p (by simp)
  have e:z8z g (p::l)=z8z (zhy g p) l:=rfl
  rw [e,ih (zep F hpp) (fun q hq=>hp q (by simp [hq])) hnd.2,List.find?_cons]
  have hnf:p.1=y→l.find? (fun q=>decide (q.1=y))=none:=fun e=>by
   rw [List.find?_eq_none]
   intro q hq hh
   exact hnd.1 (List.mem_map.2 ⟨q,hq, by simpa [e] using hh⟩)
  by_cases hx:p.1∈g.IDs
  ·
   have ea:zhy g p=g:=by unfold zhy; rw [if_pos hx]
   rw [ea]
   by_cases hy:p.1=y
   ·
    obtain ⟨o,ho⟩:=z5w F hx
    rw [← hy,ho]; rfl
   ·
    rw [decide_eq_false hy]
  ·
   rw [zmb F hpp hx]
   by_cases hy:p.1=y
   ·
    rw [if_pos hy.symm,decide_eq_true hy,zct (by rw [← hy]; exact hx)]; rfl
   ·
    rw [if_neg fun e=>hy e.symm,decide_eq_false hy]
theorem zyk (F:Fit b m) (y:ID):((zc8 b).find? fun p=>decide (p.1=y)).map Prod.snd=z1s b y:=by
 cases ho:z1s b y with
 | none =>
  have:(zc8 b).find? (fun p=>decide (p.1=y))=none:=List.find?_eq_none.2 fun q hq hh=>by
   have h1:=(zjg hq).1
   have:q.1=y:=by simpa using hh
   rw [this] at h1
   obtain ⟨o,h⟩:=z5w F h1
   rw [h] at ho; cases ho
  rw [this]; rfl
 | some o =>
  cases hf:(zc8 b).find? (fun p=>decide (p.1=y)) with
  | none =>
   obtain ⟨i,h1,h2⟩:=(z8t F).1 ho
   obtain ⟨hio,rfl⟩:=List.getElem?_eq_some_iff.1 h2
   have hi:=zjr F.ids hio
   have:=List.find?_eq_none.1 hf _ (List.mem_of_getElem? hi)
   rw [List.getElem?_eq_getElem (by rw [F.ids]; exact hio)] at h1
   simp only [Option.some.injEq] at h1
   simp [h1] at this
  | some q =>
   have h1:=List.find?_some hf
   have h2:=List.mem_of_find?_eq_some hf
   have h1:q.1=y:=by simpa using h1
   obtain ⟨i,hi,rfl⟩:=List.getElem_of_mem h2
   rw [zef F.ids] at hi
   have e:=zjr F.ids hi
   rw [List.getElem?_eq_getElem (by rw [zef F.ids]; exact hi)] at e
   simp only [Option.some.injEq] at e
   rw [e] at h1 ⊢
   have:=z6o F hi
   simp only at h1
   rw [h1,ho] at this
   exact this.symm
theorem zov (F:Fit b m):((zc8 b).map Prod.fst).Nodup:=by
 unfold zc8
 rw [List.map_fst_zip (by rw [F.ids]; exact Nat.le_refl _)]
 exact zcd F.ri
theorem z9g (Fa:Fit a n) (Fb:Fit b m) (y:ID):z1s (z3g a b) y=(z1s a y).or (z1s b y):=by
 unfold z3g
 rw [znx Fa (fun p hp=>Fb.op _ (zjg hp).2) (zov Fb),zyk Fb]
theorem zb6 (Fa:Fit a n) (Fb:Fit b m):Fit (z3g a b) (n+m):=by
 have:=zqx Fa Fb b.Ops.length
 rw [List.take_of_length_le (by rw [zef Fb.ids]; exact Nat.le_refl _)] at this
 exact this
theorem zv1 (Fa:Fit a n) (Fb:Fit b m) {x:ID}:x∈(z3g a b).IDs↔x∈a.IDs∨x∈b.IDs:=by
 have h1:=zau (zb6 Fa Fb) (x:=x)
 rw [z9g Fa Fb,Option.isSome_or,zau Fa,zau Fb] at h1
 have:=congrArg (· = true) h1
 simp only [Bool.or_eq_true,decide_eq_true_eq,eq_iff_iff] at this
 exact this.symm
theorem zjm (Fa:Fit a n) (Fb:Fit b m):zc1 a b↔∀ x o q,z1s a x=some o→z1s b x=some q→o=q:=by
 constructor
 ·
  intro h x o q ho hq
  obtain ⟨i,h1,h2⟩:=(z8t Fb).1 hq
  obtain ⟨hi,rfl⟩:=List.getElem?_eq_some_iff.1 h1
  obtain ⟨hio,rfl⟩:=List.getElem?_eq_some_iff.1 h2
  have hm:=(z6n ho).1
  have:=h i hi hio hm
  unfold z1s at ho
  rw [if_pos hm,this] at ho
  exact (Option.some.inj ho).symm
 ·
  intro h i hi hio hm
  obtain ⟨o,ho⟩:=z5w Fa hm
  have:=h _ o _ ho (z6o Fb hio)
  unfold z1s at ho
  rw [if_pos hm,this] at ho
  exact ho
theorem zps (Fa:Fit a n) (Fb:Fit b m) (Sa:zlj a) (Sb:zlj b) (hc:zc1 a b):zlj (z3g a b):=by
 obtain ⟨ra,hra⟩:=Sa.rk
 obtain ⟨rb,hrb⟩:=Sb.rk
 have hl:=z9g Fa Fb
 have cases2:∀ x o,z1s (z3g a b) x=some o→z1s a x=some o∨x∉a.IDs∧z1s b x=some o:=fun x o ho=>by
  rw [hl] at ho
  cases h:z1s a x with
  | some q=>rw [h] at ho; exact .inl ho
  | none =>
   rw [h] at ho
   refine .inr ⟨fun hm=>?_,ho⟩
   obtain ⟨q,hq⟩:=z5w Fa hm; rw [hq] at h; cases h
 refine ⟨fun x o ho=>?_, fun x o ho p hp=>?_, fun y=>if y∈a.IDs then ra y else (a.IDs.map ra).sum+1+rb y, fun x o ho p hp=>?_⟩
 ·
  rcases cases2 x o ho with h | ⟨-,h⟩
  ·
   exact Sa.ops x o h
  ·
   exact Sb.ops x o h
 ·
  rw [zv1 Fa Fb]
  rcases cases2 x o ho with h | ⟨-,h⟩
  ·
   exact .inl (Sa.ins x o h p hp)
  ·
   exact .inr (Sb.ins x o h p hp)
 ·
  show (if p∈a.IDs then ra p else (a.IDs.map ra).sum+1+rb p)<(if x∈a.IDs then ra x else (a.IDs.map ra).sum+1+rb x)
  rcases cases2 x o ho with h | ⟨hx,h⟩
  ·
   rw [if_pos (Sa.ins x o h p hp),if_pos (z6n h).1]
   exact hra x o h p hp
  ·
   rw [if_neg hx]
   by_cases hpa:p∈a.IDs
   ·
    rw [if_pos hpa]
    have:ra p≤(a.IDs.map ra).sum:=zpl (List.mem_map.2 ⟨p,hpa,rfl⟩)
    omega
   ·
    rw [if_neg hpa]
    have:=hrb x o h p hp
    omega
end
section
open Go
variable {g a b:z00} {n m:Nat}
theorem z155 (F:Fit g n) (hn:n≤900):z8v g=some g:=by
 have h1:=F.len
 have h2:=F.ids
 have main:=z1q (F:=z3c g) (b:=g.Ops) g.Ops.length (fun i=>(g.Ops.take i,(i:Int))) (fun i hi=>?_) ?_
 ·
  unfold z8v
  rw [z1p (by simp; omega)]
  simp only [bS,List.nil_append]
  rw [List.take_zero] at main
  rw [show (0:Int)=((0:Nat):Int) from rfl,main]
  simp only [bS]
 ·
  have h4:=(F.op _ (List.getElem_mem hi)).1
  unfold z3c zay
  rw [if_pos (by simpa using hi)]
  simp only []
  rw [z0c hi]
  simp only [bS]
  rw [z1p (by simp; omega)]
  simp only [bS,List.nil_append]
  rw [z1p (by simp; omega),z0h (by omega)]
  simp only [bS]
  rw [List.take_add_one,List.getElem?_eq_getElem hi]; rfl
 ·
  unfold z3c
  rw [if_neg (by simp),List.take_length]
theorem zsl (Fa:Fit a n) (Fb:Fit b m) (hn:n≤500) (hm:m≤500):∃ r,iter (z5f a b) 0=some r∧((r=.inl ((⟨[],[]⟩:z00),14)∧¬ zc1 a b)∨(r=.inr ()∧zc1 a b)):=by
 have ha1:=Fa.len; have ha2:=Fa.ids; have hb1:=Fb.len; have hb2:=Fb.ids
 have key:∀ k i,b.IDs.length - i=k→i≤b.IDs.length→(∀ j (h:j<b.IDs.length) (h2:j<b.Ops.length),j<i→b.IDs[j]∈a.IDs→a.Ops[a.IDs.idxOf b.IDs[j]]? = some b.Ops[j]) →
   ∃ r,iter (z5f a b) (i:Int)=some r∧((r=.inl ((⟨[],[]⟩:z00),14)∧¬ zc1 a b)∨(r=.inr ()∧zc1 a b)):=by
  intro k
  induction k with
  | zero =>
   intro i hk hi hall
   refine ⟨.inr (),z0t ?_,.inr ⟨rfl, fun j h h2 hj=>hall j h h2 (by omega) hj⟩⟩
   ·
    unfold z5f; rw [if_neg (by simp; omega)]
  | succ k ih =>
   intro i hk hi hall
   have hib:i<b.IDs.length:=by omega
   have hio:i<b.Ops.length:=by omega
   by_cases hx:b.IDs[i]∈a.IDs
   ·
    obtain ⟨q,q1,q2,-⟩:=zfo a (by omega) Fa.ri b.IDs[i]
    obtain ⟨rfl,hq⟩:=q2 hx
    have hqo:a.IDs.idxOf b.IDs[i]<a.Ops.length:=by omega
    have hq20:=(Fa.op _ (List.getElem_mem hqo)).1
    by_cases hs:a.Ops[a.IDs.idxOf b.IDs[i]]=b.Ops[i]
    ·
     have hF:z5f a b (i:Int)=some (.inr ((i+1:Nat):Int)):=by
      unfold z5f
      rw [if_pos (by simpa using hib),z0c hib]
      simp only [bS]
      rw [q1,decide_eq_true hx]
      simp only [bS]
      rw [if_pos trivial,z0c hqo,z0c hio]
      simp only [bS]
      rw [zrl _ _ (by omega),decide_eq_true hs,z0h (by omega)]
      simp only [bS]
      rw [if_neg (by simp)]
     rw [z19 hF]
     refine ih (i+1) (by omega) (by omega) fun j h h2 hj hm=>?_
     by_cases e:j=i
     ·
      subst e; rw [List.getElem?_eq_getElem hqo,hs]
     ·
      exact hall j h h2 (by omega) hm
    ·
     refine ⟨.inl ((⟨[],[]⟩:z00),14),z0t ?_,.inl ⟨rfl, fun h=>hs ?_⟩⟩
     ·
      unfold z5f
      rw [if_pos (by simpa using hib),z0c hib]
      simp only [bS]
      rw [q1,decide_eq_true hx]
      simp only [bS]
      rw [if_pos trivial,z0c hqo,z0c hio]
      simp only [bS]
      rw [zrl _ _ (by omega),decide_eq_false hs]
      simp only [bS]
      rw [if_pos (by simp)]
     ·
      have:=h i hib hio hx
      rw [List.getElem?_eq_getElem hqo] at this
      simpa using this
   ·
    obtain ⟨q,q1,-⟩:=zht a (by omega) Fa.ri b.IDs[i] hx
    have hF:z5f a b (i:Int)=some (.inr ((i+1:Nat):Int)):=by
     unfold z5f
     rw [if_pos (by simpa using hib),z0c hib]
     simp only [bS]
     rw [q1]
     simp only [bS]
     rw [if_neg (by simp),z0h (by omega)]
     simp only [bS]
     rw [if_neg (by simp)]
    rw [z19 hF]
    refine ih (i+1) (by omega) (by omega) fun j h h2 hj hm=>?_
    by_cases e:j=i
    ·
     subst e; exact absurd hm hx
    ·
     exact hall j h h2 (by omega) hm
 exact key _ 0 rfl (Nat.zero_le _) fun j _ _ h=>by omega
theorem zu6 (Ga:zkl a) (Gb:zkl b) (ha:z6g a=some 0) (hb:z6g b=some 0) (Fa:Fit a 60) (Fb:Fit b 60) (hc:zc1 a b) :
  zg3 a b=some (if 60<(z3g a b).Ops.length then (⟨[],[]⟩,4) else (z3g a b,0)):=by
 obtain ⟨r,r1,r3⟩:=zsl Fa Fb (by omega) (by omega)
 rcases r3 with ⟨-,h⟩ | ⟨rfl,-⟩
 ·
  exact absurd hc h
 unfold zg3
 rw [z11d ha hb]
 simp only [bS]
 rw [if_neg (by simp),r1]
 simp only [zp6]
 rw [znh (by have:=Fa.ids; have:=Fa.len; omega),zvo Fa (by omega)]
 simp only [bS]
 rw [zy0 Fa Fb (by omega) (by omega)]
 simp only [bS]
 by_cases h:60<(z3g a b).Ops.length
 ·
  rw [if_pos (by simp; omega),if_pos h]
 ·
  rw [if_neg (by simp; omega),if_neg h]
theorem zof (F:Fit g n) (hn:n≤900):z8b g=some g:=by
 have h1:=F.len
 have h2:=F.ids
 have main:=z1q (F:=z7x (g.IDs,g.Ops)) (b:=g.Ops) g.Ops.length (fun i=>(g.Ops,(i:Int))) (fun i hi=>?_) ?_
 ·
  unfold z8b
  rw [znh (by omega)]
  simp only [bS]
  unfold z51
  rw [z1p (by simp; omega)]
  simp only [bS,List.nil_append]
  rw [show (0:Int)=((0:Nat):Int) from rfl,main]
  simp only [bS]
 ·
  have h4:=(F.op _ (List.getElem_mem hi)).1
  unfold z7x
  simp only []
  rw [if_pos (by simpa using hi),z0c hi]
  simp only [bS]
  rw [znh (by omega),z0h (by omega)]
  simp only [bS]
  rw [Int.toNat_natCast, show ({ g.Ops[i] with Preds:=g.Ops[i].Preds }:z04)=g.Ops[i] from rfl,List.set_getElem_self]
 ·
  unfold z7x
  simp only []
  rw [if_neg (by simp)]
theorem zeq (l:List z00) (hl:l.length≤1000) (F:∀ g∈l,Fit g 900):z93 l=some l:=by
 have main:=z1q (F:=zan l) (b:=l) l.length (fun i=>(l.take i,(i:Int))) (fun i hi=>?_) ?_
 ·
  unfold z93
  rw [List.take_zero] at main
  rw [show (0:Int)=((0:Nat):Int) from rfl,main]
  simp only [bS]
 ·
  unfold zan
  simp only []
  rw [if_pos (by simpa using hi),z0c hi]
  simp only [bS]
  rw [zof (F _ (List.getElem_mem hi)) (by omega)]
  simp only [bS]
  rw [z1p (by simp; omega),z0h (by omega)]
  simp only [bS]
  rw [List.take_add_one,List.getElem?_eq_getElem hi]; rfl
 ·
  unfold zan
  simp only []
  rw [if_neg (by simp),List.take_length]
theorem z11t (l m:List ID) (hm:m.length≤1000):z1l l m=some (decide (l=m)):=by
 by_cases h:l.length=m.length
 ·
  exact z12b l m (by omega)
 ·
  have hn:l≠m:=fun e=>h (by rw [e])
  unfold z1l
  rw [if_pos (by simp; omega),decide_eq_false hn]
theorem zu9 (p q:z04) (hp:q.Preds.length≤1000):z77 p q=some (decide (p=q)):=by
 unfold z77
 rw [z11t _ _ hp]
 simp only [bS]
 by_cases h1:p.Author=q.Author
 ·
  by_cases h2:p.Stamp=q.Stamp
  ·
   by_cases h3:p.Act=q.Act
   ·
    by_cases h4:p.Sig=q.Sig
    ·
     simp [zah,h1,h2,h3,h4]
    ·
     simp [zah,h1,h2,h3,h4]
   ·
    simp [zah,h1,h2,h3]
  ·
   simp [zah,h1,h2]
 ·
  simp [zah,h1]
end
section
open Go
variable {g a b:z00} {n m:Nat} {l:List z00}
structure Rp (g:z00):Prop where
 good:zkl g
 op:∀ o∈g.Ops,o.Preds.length≤20∧o.Act.Key.length≤100∧o.Act.Value.Text.length≤100
 wf:z6x g
theorem Rp.fit (h:Rp g):Fit g 60:=⟨h.good.e.ids,h.good.e.len,h.good.e.ri,h.op⟩
theorem Rp.chk (h:Rp g):z6g g=some 0∧z7v g=some 0:=by
 obtain ⟨c,c1,c2,c3⟩:=zrm h.wf
 have:=c3.2 h.good
 subst this
 exact ⟨c1,c2⟩
def za8 (l:List z00) (x:ID):Option z04:=l.findSome? fun g=>z1s g x
theorem zkt (l:List z00) (g:z00) (x:ID):za8 (l++[g]) x=(za8 l x).or (z1s g x):=by
 unfold za8
 rw [List.findSome?_append]
 simp
def zfr (l:List z00):Prop:=∀ g∈l,∀ h∈l,∀ x o q,z1s g x=some o→z1s h x=some q→o=q
theorem zco {x:ID} {o:z04} (h:za8 l x=some o):∃ g∈l,z1s g x=some o:=by
 unfold za8 at h
 obtain ⟨g,h1,h2⟩:=List.exists_of_findSome?_eq_some h
 exact ⟨g,h1,h2⟩
theorem zb9 (A:zfr l) {g:z00} (hg:g∈l) {x:ID} {o:z04} (h:z1s g x=some o):za8 l x=some o:=by
 cases hq:za8 l x with
 | none =>
  unfold za8 at hq
  have:=List.findSome?_eq_none_iff.1 hq g hg
  rw [h] at this; cases this
 | some q =>
  obtain ⟨g',h1,h2⟩:=zco hq
  rw [A g hg g' h1 x o q h h2]
def zj6 (g:z00) (P:ID→Option z04):Prop:=∃ x o q,z1s g x=some o∧P x=some q∧o≠q
theorem zmu (hi:z7c g.IDs=true) {i:Nat} (h:i<g.IDs.length):g.IDs[i]∉g.IDs.take i:=fun hm=>by
 obtain ⟨j,hj,e⟩:=List.getElem_of_mem hm
 rw [List.length_take] at hj
 rw [List.getElem_take] at e
 have:=zqt hi (by omega) h e
 omega
theorem ztt (R:Rp g) (P:ID→Option z04) :
  ∀ k i (s:List (ID × z04)),g.IDs.length - i=k→i≤g.IDs.length→(∀ x,zik s x=(if x∈g.IDs.take i then z1s g x else none).or (P x))→(∀ j (h:j<g.IDs.length) (h2:j<g.Ops.length) q,j<i→P g.IDs[j]=some q→q=g.Ops[j]) →
   ∃ r,iter (z3l g) (s,(i:Int))=some r∧((r=.inl (.inl (.inl 14))∧zj6 g P)∨∃ t,r=.inr t∧¬ zj6 g P∧∀ x,zik t x=(z1s g x).or (P x)):=by
 have F:=R.fit
 have hl:=F.len; have hids:=F.ids
 intro k
 induction k with
 | zero =>
  intro i s hk hi hs hno
  have hie:i=g.IDs.length:=by omega
  subst hie
  refine ⟨.inr s,z0t ?_,.inr ⟨s,rfl,?_, fun x=>?_⟩⟩
  ·
   unfold z3l
   simp only []
   rw [if_neg (by simp)]
  ·
   rintro ⟨x,o,q,h1,h2,h3⟩
   obtain ⟨j,j1,j2⟩:=(z8t F).1 h1
   obtain ⟨hj,rfl⟩:=List.getElem?_eq_some_iff.1 j1
   obtain ⟨hjo,rfl⟩:=List.getElem?_eq_some_iff.1 j2
   exact h3 (hno j hj hjo q hj h2).symm
  ·
   rw [hs,List.take_length]
   by_cases hx:x∈g.IDs
   ·
    rw [if_pos hx]
   ·
    rw [if_neg hx,zct hx]
 | succ k ih =>
  intro i s hk hi hs hno
  have hlt:i<g.IDs.length:=by omega
  have hio:i<g.Ops.length:=by omega
  have hnt:=zmu F.ri hlt
  have hmi:zik s g.IDs[i]=P g.IDs[i]:=by rw [hs,if_neg hnt]; rfl
  have hlk:=z6o F hio
  have htk:g.IDs.take (i+1)=g.IDs.take i++[g.IDs[i]]:=by rw [List.take_add_one,List.getElem?_eq_getElem hlt]; rfl
  have hmem:∀ x,x∈g.IDs.take (i+1)↔x∈g.IDs.take i∨x=g.IDs[i]:=fun x=>by rw [htk,List.mem_append,List.mem_singleton]
  have hnext:∀ x,zik (zor s g.IDs[i] g.Ops[i]) x=(if x∈g.IDs.take (i+1) then z1s g x else none).or (P x):=fun x=>by
   rw [zmo]
   by_cases e:x=g.IDs[i]
   ·
    rw [if_pos e,if_pos ((hmem x).2 (.inr e)),e,hlk]
    rfl
   ·
    rw [if_neg e,hs]
    by_cases hx:x∈g.IDs.take i
    ·
     rw [if_pos hx,if_pos ((hmem x).2 (.inl hx))]
    ·
     rw [if_neg hx,if_neg (fun h=>((hmem x).1 h).elim hx e)]
  cases hP:P g.IDs[i] with
  | none =>
   have hF:z3l g (s,(i:Int))=some (.inr (zor s g.IDs[i] g.Ops[i],((i+1:Nat):Int))):=by
    unfold z3l
    simp only []
    rw [if_pos (by simpa using hlt),z0c hlt]
    simp only [bS]
    rw [hmi,hP]
    simp only [Option.isSome_none,Bool.false_eq_true,if_false,zp6]
    rw [z0c hio,z0h (by omega)]
    simp only [bS]
   rw [z19 hF]
   refine ih (i+1) _ (by omega) (by omega) hnext fun j h h2 q hj hq=>?_
   by_cases e:j=i
   ·
    subst e; rw [hP] at hq; cases hq
   ·
    exact hno j h h2 q (by omega) hq
  | some q =>
   have hq4:q.Preds.length≤1000∨True:=.inr trivial
   have hpre:z3l g (s,(i:Int))=if !decide (q=g.Ops[i]) then some (.inl (.inl (.inl (.inl 14)))) else some (.inr (zor s g.IDs[i] g.Ops[i],((i+1:Nat):Int))):=by
    have hsame:z77 q g.Ops[i]=some (decide (q=g.Ops[i])):=by
     have h4:=(F.op _ (List.getElem_mem hio)).1
     have:z77 q g.Ops[i]=some (decide (q=g.Ops[i])):=zu9 q g.Ops[i] (by omega)
     exact this
    unfold z3l
    simp only []
    rw [if_pos (by simpa using hlt),z0c hlt]
    simp only [bS]
    rw [hmi,hP]
    simp only [Option.isSome_some,if_true,Option.getD_some]
    rw [z0c hio,z0h (by omega)]
    simp only [bS]
    rw [hsame]
    simp only [bS]
    cases decide (q=g.Ops[i]) <;> rfl
   by_cases he:q=g.Ops[i]
   ·
    rw [decide_eq_true he,if_neg (by simp)] at hpre
    rw [z19 hpre]
    refine ih (i+1) _ (by omega) (by omega) hnext fun j h h2 q' hj hq=>?_
    by_cases e:j=i
    ·
     subst e; rw [hP] at hq; cases hq; exact he
    ·
     exact hno j h h2 q' (by omega) hq
   ·
    rw [decide_eq_false he,if_pos (by simp)] at hpre
    exact ⟨_,z0t hpre,.inl ⟨rfl,g.IDs[i],g.Ops[i],q,hlk,hP, fun e=>he e.symm⟩⟩
theorem zha {g:z00} (A:zfr l):zfr (l++[g])↔¬ zj6 g (za8 l):=by
 constructor
 ·
  rintro B ⟨x,o,q,h1,h2,h3⟩
  obtain ⟨g',h4,h5⟩:=zco h2
  exact h3 (B g (by simp) g' (by simp [h4]) x o q h1 h5)
 ·
  intro hc h hh h' hh' x o q h1 h2
  rcases List.mem_append.1 hh with k1 | k1 <;> rcases List.mem_append.1 hh' with k2 | k2
  ·
   exact A h k1 h' k2 x o q h1 h2
  ·
   rw [List.mem_singleton] at k2; subst k2
   refine Classical.byContradiction fun hne=>hc ⟨x,q,o,h2,zb9 A k1 h1, fun e=>hne e.symm⟩
  ·
   rw [List.mem_singleton] at k1; subst k1
   exact Classical.byContradiction fun hne=>hc ⟨x,o,q,h1,zb9 A k2 h2,hne⟩
  ·
   rw [List.mem_singleton] at k1 k2; subst k1; subst k2
   rw [h1] at h2; exact Option.some.inj h2
theorem zru {i:Nat} (A:zfr l):zfr (l.take i):=fun g hg h hh=>A g (List.mem_of_mem_take hg) h (List.mem_of_mem_take hh)
theorem zxt (hl:l.length≤1000) (R:∀ g∈l,Rp g):∀ k i (s:List (ID × z04)),l.length - i=k→i≤l.length→zfr (l.take i)→(∀ x,zik s x=za8 (l.take i) x) →
  ∃ r,iter (z61 l) (s,(i:Int))=some r∧((r=.inl 14∧¬ zfr l)∨(r=.inr ()∧zfr l)):=by
 intro k
 induction k with
 | zero =>
  intro i s hk hi A hs
  have hie:i=l.length:=by omega
  subst hie
  rw [List.take_length] at A
  refine ⟨.inr (),z0t ?_,.inr ⟨rfl,A⟩⟩
  unfold z61
  simp only []
  rw [if_neg (by simp)]
 | succ k ih =>
  intro i s hk hi A hs
  have hlt:i<l.length:=by omega
  have htk:l.take (i+1)=l.take i++[l[i]]:=by rw [List.take_add_one,List.getElem?_eq_getElem hlt]; rfl
  obtain ⟨r,r1,r2⟩:=ztt (R _ (List.getElem_mem hlt)) (za8 (l.take i)) _ 0 s rfl (Nat.zero_le _) (fun x=>by rw [hs]; simp) (fun j _ _ _ h=>by omega)
  have hF:z61 l (s,(i:Int))=z36 (some r) fun s15=>some (.inr (s15,((i+1:Nat):Int))):=by
   unfold z61
   simp only []
   rw [if_pos (by simpa using hlt),z0c hlt]
   simp only [bS]
   rw [show (0:Int)=((0:Nat):Int) from rfl,r1,z0h (by omega)]
  rcases r2 with ⟨rfl,hc⟩ | ⟨t,rfl,hc,ht⟩
  ·
   refine ⟨.inl 14,z0t (by rw [hF]; rfl),.inl ⟨rfl, fun B=>?_⟩⟩
   have:=zru (i:=i+1) B
   rw [htk] at this
   exact (zha A).1 this hc
  ·
   rw [zp6] at hF
   rw [z19 hF]
   have A':zfr (l.take (i+1)):=by rw [htk]; exact (zha A).2 hc
   refine ih (i+1) t (by omega) (by omega) A' fun x=>?_
   rw [ht,htk,zkt]
   cases h1:z1s l[i] x with
   | none=>simp
   | some o =>
    cases h2:za8 (l.take i) x with
    | none=>rfl
    | some q =>
     have:o=q:=Classical.byContradiction fun hne=>hc ⟨x,o,q,h1,h2,hne⟩
     rw [this]
theorem zu4 (Ra:Rp a) (Rb:Rp b):∃ c,za0 a b=some c∧(c=true↔zj6 a (z1s b)):=by
 have Fa:=Ra.fit; have Fb:=Rb.fit
 have ha1:=Fa.len; have ha2:=Fa.ids; have hb1:=Fb.len; have hb2:=Fb.ids
 have key:∀ k i,a.IDs.length - i=k→i≤a.IDs.length→(∀ j (h:j<a.IDs.length) (h2:j<a.Ops.length) q,j<i→z1s b a.IDs[j]=some q→q=a.Ops[j]) →
   ∃ r,iter (z2w a b) (i:Int)=some r∧((r=.inl true∧zj6 a (z1s b))∨(r=.inr ()∧¬ zj6 a (z1s b))):=by
  intro k
  induction k with
  | zero =>
   intro i hk hi hno
   have hie:i=a.IDs.length:=by omega
   subst hie
   refine ⟨.inr (),z0t (by unfold z2w; rw [if_neg (by simp)]),.inr ⟨rfl,?_⟩⟩
   rintro ⟨x,o,q,h1,h2,h3⟩
   obtain ⟨j,j1,j2⟩:=(z8t Fa).1 h1
   obtain ⟨hj,rfl⟩:=List.getElem?_eq_some_iff.1 j1
   obtain ⟨hjo,rfl⟩:=List.getElem?_eq_some_iff.1 j2
   exact h3 (hno j hj hjo q hj h2).symm
  | succ k ih =>
   intro i hk hi hno
   have hlt:i<a.IDs.length:=by omega
   have hio:i<a.Ops.length:=by omega
   have hlk:=z6o Fa hio
   by_cases hx:a.IDs[i]∈b.IDs
   ·
    have hqo:b.IDs.idxOf a.IDs[i]<b.Ops.length:=by rw [← hb2]; exact List.idxOf_lt_length_of_mem hx
    have hlb:z1s b a.IDs[i]=some b.Ops[b.IDs.idxOf a.IDs[i]]:=by unfold z1s; rw [if_pos hx,List.getElem?_eq_getElem hqo]
    have hpre:z2w a b (i:Int)=if !decide (a.Ops[i]=b.Ops[b.IDs.idxOf a.IDs[i]]) then some (.inl (.inl true)) else some (.inr ((i+1:Nat):Int)):=by
     have h4:=(Fa.op _ (List.getElem_mem hio)).1
     unfold z2w
     rw [if_pos (by simpa using hlt),z0c hlt]
     simp only [bS]
     rw [z144 Fb.ri (by omega) hx]
     simp only [bS]
     rw [if_pos (by simp),z0c hio,z0c hqo]
     simp only [bS]
     rw [zx8 _ _ (by omega),z0h (by omega)]
     simp only [bS]
    by_cases he:a.Ops[i]=b.Ops[b.IDs.idxOf a.IDs[i]]
    ·
     rw [decide_eq_true he,if_neg (by simp)] at hpre
     rw [z19 hpre]
     refine ih (i+1) (by omega) (by omega) fun j h h2 q hj hq=>?_
     by_cases e:j=i
     ·
      subst e; rw [hlb] at hq; cases hq; exact he.symm
     ·
      exact hno j h h2 q (by omega) hq
    ·
     rw [decide_eq_false he,if_pos (by simp)] at hpre
     exact ⟨_,z0t hpre,.inl ⟨rfl,a.IDs[i],a.Ops[i],_,hlk,hlb,he⟩⟩
   ·
    have hpre:z2w a b (i:Int)=some (.inr ((i+1:Nat):Int)):=by
     unfold z2w
     rw [if_pos (by simpa using hlt),z0c hlt]
     simp only [bS]
     rw [z12m (by omega) hx]
     simp only [bS]
     rw [if_neg (by simp),z0h (by omega)]
    rw [z19 hpre]
    refine ih (i+1) (by omega) (by omega) fun j h h2 q hj hq=>?_
    by_cases e:j=i
    ·
     subst e; rw [zct hx] at hq; cases hq
    ·
     exact hno j h h2 q (by omega) hq
 obtain ⟨r,r1,r2⟩:=key _ 0 rfl (Nat.zero_le _) fun j _ _ _ h=>by omega
 unfold za0
 rw [show (0:Int)=((0:Nat):Int) from rfl,r1]
 rcases r2 with ⟨rfl,hc⟩ | ⟨rfl,hc⟩
 ·
  exact ⟨true,rfl, by simp [hc]⟩
 ·
  exact ⟨false,rfl, by simp [hc]⟩
theorem ztz (hl:l.length≤1000) (R:∀ g∈l,Rp g) {i:Nat} (hi:i<l.length):∃ r,iter (z3p l (i:Int)) 0=some r∧((r=.inl (.inl (.inl 14))∧∃ k,∃ h:k<l.length,k<i∧zj6 l[i] (z1s l[k]))∨(r=.inr ()∧∀ k (h:k<l.length),k<i→¬ zj6 l[i] (z1s l[k]))):=by
 have key:∀ d k,i - k=d→k≤i→(∀ j (h:j<l.length),j<k→¬ zj6 l[i] (z1s l[j])) →
   ∃ r,iter (z3p l (i:Int)) (k:Int)=some r∧((r=.inl (.inl (.inl 14))∧∃ k,∃ h:k<l.length,k<i∧zj6 l[i] (z1s l[k]))∨(r=.inr ()∧∀ k (h:k<l.length),k<i→¬ zj6 l[i] (z1s l[k]))):=by
  intro d
  induction d with
  | zero =>
   intro k hd hk hno
   have:k=i:=by omega
   subst this
   exact ⟨.inr (),z0t (by unfold z3p; rw [if_neg (by simp)]),.inr ⟨rfl, fun j h hj=>hno j h hj⟩⟩
  | succ d ih =>
   intro k hd hk hno
   have hkl:k<l.length:=by omega
   obtain ⟨c,c1,c2⟩:=zu4 (R _ (List.getElem_mem hi)) (R _ (List.getElem_mem hkl))
   have hF:z3p l (i:Int) (k:Int)=if c then some (.inl (.inl (.inl (.inl 14)))) else some (.inr ((k+1:Nat):Int)):=by
    unfold z3p
    rw [if_pos (by simp; omega),z0c hi,z0c hkl]
    simp only [bS]
    rw [c1,z0h (by omega)]
    simp only [bS]
   cases c with
   | true=>exact ⟨_,z0t hF,.inl ⟨rfl,k,hkl, by omega,c2.1 rfl⟩⟩
   | false =>
    rw [if_neg (by simp)] at hF
    rw [z19 hF]
    refine ih (k+1) (by omega) (by omega) fun j h hj=>?_
    by_cases e:j=k
    ·
     subst e; exact fun hc=>by have:=c2.2 hc; cases this
    ·
     exact hno j h (by omega)
 exact key _ 0 rfl (Nat.zero_le _) fun j _ h=>by omega
theorem zst (hl:l.length≤1000) (R:∀ g∈l,Rp g):∀ d i,l.length - i=d→i≤l.length→zfr (l.take i) →
  ∃ r,iter (z4s l) (i:Int)=some r∧((r=.inl 14∧¬ zfr l)∨(r=.inr ()∧zfr l)):=by
 intro d
 induction d with
 | zero =>
  intro i hd hi A
  have:i=l.length:=by omega
  subst this
  rw [List.take_length] at A
  exact ⟨.inr (),z0t (by unfold z4s; rw [if_neg (by simp)]),.inr ⟨rfl,A⟩⟩
 | succ d ih =>
  intro i hd hi A
  have hlt:i<l.length:=by omega
  have htk:l.take (i+1)=l.take i++[l[i]]:=by rw [List.take_add_one,List.getElem?_eq_getElem hlt]; rfl
  obtain ⟨r,r1,r2⟩:=ztz hl R hlt
  have hF:z4s l (i:Int)=z36 (some r) fun _=>some (.inr ((i+1:Nat):Int)):=by
   unfold z4s
   rw [if_pos (by simpa using hlt),r1,z0h (by omega)]
   rfl
  rcases r2 with ⟨rfl,k,hk,hki,hc⟩ | ⟨rfl,hno⟩
  ·
   refine ⟨.inl 14,z0t (by rw [hF]; rfl),.inl ⟨rfl, fun B=>?_⟩⟩
   obtain ⟨x,o,q,h1,h2,h3⟩:=hc
   exact h3 (B _ (List.getElem_mem hlt) _ (List.getElem_mem hk) x o q h1 h2)
  ·
   rw [zp6] at hF
   rw [z19 hF]
   refine ih (i+1) (by omega) (by omega) ?_
   rw [htk,zha A]
   rintro ⟨x,o,q,h1,h2,h3⟩
   obtain ⟨g',h4,h5⟩:=zco h2
   obtain ⟨k,hk,e⟩:=List.getElem_of_mem h4
   rw [List.length_take] at hk
   rw [List.getElem_take] at e
   subst e
   exact hno k (by omega) (by omega) ⟨x,o,q,h1,h5,h3⟩
theorem zsd (hl:l.length≤1000) (hw:∀ g∈l,z6x g):∀ d i,l.length - i=d→i≤l.length→(∀ g∈l.take i,zkl g) →
  ∃ r,iter (z2z l) (i:Int)=some r∧iter (z3o l) (i:Int)=some r∧((∃ c,r=.inl c∧c≠0∧¬ ∀ g∈l,zkl g)∨(r=.inr ()∧∀ g∈l,zkl g)):=by
 intro d
 induction d with
 | zero =>
  intro i hd hi hG
  have:i=l.length:=by omega
  subst this
  rw [List.take_length] at hG
  exact ⟨.inr (),z0t (by unfold z2z; rw [if_neg (by simp)]),z0t (by unfold z3o; rw [if_neg (by simp)]),.inr ⟨rfl,hG⟩⟩
 | succ d ih =>
  intro i hd hi hG
  have hlt:i<l.length:=by omega
  have htk:l.take (i+1)=l.take i++[l[i]]:=by rw [List.take_add_one,List.getElem?_eq_getElem hlt]; rfl
  obtain ⟨c,c1,c2,c3⟩:=zrm (hw _ (List.getElem_mem hlt))
  by_cases hc:c=0
  ·
   subst hc
   have hF:z2z l (i:Int)=some (.inr ((i+1:Nat):Int)):=by
    unfold z2z
    rw [if_pos (by simpa using hlt),z0c hlt]
    simp only [bS]
    rw [c1,z0h (by omega)]
    rfl
   have hR:z3o l (i:Int)=some (.inr ((i+1:Nat):Int)):=by
    unfold z3o
    rw [if_pos (by simpa using hlt),z0c hlt]
    simp only [bS]
    rw [c2,z0h (by omega)]
    rfl
   rw [z19 hF,z19 hR]
   refine ih (i+1) (by omega) (by omega) fun g hg=>?_
   rw [htk] at hg
   rcases List.mem_append.1 hg with hg | hg
   ·
    exact hG g hg
   ·
    rw [List.mem_singleton] at hg; subst hg; exact c3.1 rfl
  ·
   refine ⟨.inl c,z0t ?_,z0t ?_,.inl ⟨c,rfl,hc, fun h=>hc (c3.2 (h _ (List.getElem_mem hlt)))⟩⟩
   ·
    unfold z2z
    rw [if_pos (by simpa using hlt),z0c hlt]
    simp only [bS]
    rw [c1]
    simp only [bS]
    rw [if_pos (by simpa using hc)]
   ·
    unfold z3o
    rw [if_pos (by simpa using hlt),z0c hlt]
    simp only [bS]
    rw [c2]
    simp only [bS]
    rw [if_pos (by simpa using hc)]
theorem z120 (hl:l.length≤1000) (hw:∀ g∈l,z6x g) (hop:∀ g∈l,∀ o∈g.Ops,o.Preds.length≤20∧o.Act.Key.length≤100∧o.Act.Value.Text.length≤100) :
  ∃ c,z25 l=some c∧z6h l=some c∧(c=0↔l.length≤5∧(∀ g∈l,Rp g)∧zfr l):=by
 unfold z25 z6h
 by_cases h5:5<l.length
 ·
  rw [if_pos (by simp; omega),if_pos (by simp; omega)]
  exact ⟨4,rfl,rfl, by simp; omega⟩
 ·
  rw [if_neg (by simp; omega),if_neg (by simp; omega)]
  obtain ⟨r,r1,r2,r3⟩:=zsd hl hw _ 0 rfl (Nat.zero_le _) (by simp)
  rw [show (0:Int)=((0:Nat):Int) from rfl,r1,r2]
  rcases r3 with ⟨c,rfl,hc,hn⟩ | ⟨rfl,hG⟩
  ·
   exact ⟨c,rfl,rfl, fun h=>absurd h hc, fun h=>absurd (fun g hg=>(h.2.1 g hg).good) hn⟩
  ·
   have R:∀ g∈l,Rp g:=fun g hg=>⟨hG g hg,hop g hg,hw g hg⟩
   obtain ⟨p,p1,p2⟩:=zxt hl R _ 0 [] rfl (Nat.zero_le _) (fun g hg=>by simp at hg) (fun x=>rfl)
   obtain ⟨q,q1,q2⟩:=zst hl R _ 0 rfl (Nat.zero_le _) (fun g hg=>by simp at hg)
   simp only [zp6]
   rw [p1,q1]
   rcases p2 with ⟨rfl,h1⟩ | ⟨rfl,h1⟩ <;> rcases q2 with ⟨rfl,h2⟩ | ⟨rfl,h2⟩
   ·
    exact ⟨14,rfl,rfl, by simp [h1]⟩
   ·
    exact absurd h2 h1
   ·
    exact absurd h1 h2
   ·
    exact ⟨0,rfl,rfl, by simp [h1]; exact ⟨by omega,R⟩⟩
theorem zsj (hl:l.length≤5) (R:∀ g∈l,Rp g) (A:zfr l):z25 l=some 0∧z6h l=some 0:=by
 obtain ⟨c,c1,c2,c3⟩:=z120 (l:=l) (by omega) (fun g hg=>(R g hg).wf) (fun g hg=>(R g hg).op)
 have:=c3.2 ⟨hl,R,A⟩
 subst this
 exact ⟨c1,c2⟩
end
section
open Go
variable {g a b:z00} {n m:Nat} {l:List z00}
theorem z12g (Fa:Fit a n) (Fb:Fit b m) {o:z04} (h:o∈(z3g a b).Ops):o∈a.Ops∨o∈b.Ops:=by
 obtain ⟨i,hi,rfl⟩:=List.getElem_of_mem h
 have hg:=z6o (zb6 Fa Fb) hi
 rw [z9g Fa Fb] at hg
 generalize (z3g a b).IDs[i]'(by rw [(zb6 Fa Fb).ids]; exact hi)=x at hg
 cases ho:z1s a x with
 | some q=>rw [ho] at hg; exact .inl (by have:=(z6n ho).2; simp at hg; rw [← hg]; exact this)
 | none=>rw [ho] at hg; exact .inr (z6n (by simpa using hg)).2
theorem zwi (F:Fit g n) (hn:n≤1000) (h:∀ o∈g.Ops,zgj o):z6x g:=by
 have h1:=F.len; have h2:=F.ids
 exact ⟨⟨fun x _ y _=>trivial, by omega⟩,⟨h, by omega⟩,trivial⟩
theorem Rp.union (Ra:Rp a) (Rb:Rp b) (hc:zc1 a b) (hl:(z3g a b).Ops.length≤60):Rp (z3g a b):=by
 have F:=zb6 Ra.fit Rb.fit
 refine ⟨zlu ⟨F.ids,hl,F.ri,F.op⟩ (zps Ra.fit Rb.fit (zin Ra.good Ra.fit) (zin Rb.good Rb.fit) hc),F.op,zwi F (by omega) fun o ho=>?_⟩
 rcases z12g Ra.fit Rb.fit ho with h | h
 ·
  exact Ra.wf.2.1.1 o h
 ·
  exact Rb.wf.2.1.1 o h
structure Rps (l:List z00):Prop where
 len:l.length≤5
 rp:∀ g∈l,Rp g
 ag:zfr l
theorem Rps.chk (h:Rps l):z25 l=some 0∧z6h l=some 0:=zsj h.len h.rp h.ag
theorem Rps.nc (h:Rps l) (ha:a∈l) (hb:b∈l):zc1 a b:=(zjm (h.rp a ha).fit (h.rp b hb).fit).2 (h.ag a ha b hb)
theorem Rps.sub (h:Rps l) {k:List z00} (hl:k.length≤5) (hr:∀ g∈k,Rp g) (hs:∀ g∈k,∀ x o,z1s g x=some o→za8 l x=some o):Rps k :=
 ⟨hl,hr, fun g hg h' hh x o q h1 h2=>by
  have e1:=hs g hg x o h1
  have e2:=hs h' hh x q h2
  rw [e1] at e2; exact Option.some.inj e2⟩
theorem zqg (h:Rps l) (ha:a∈l) (hb:b∈l) {x:ID} {o:z04} (ho:z1s (z3g a b) x=some o):za8 l x=some o:=by
 rw [z9g (h.rp a ha).fit (h.rp b hb).fit] at ho
 cases hq:z1s a x with
 | some q =>
  rw [hq] at ho
  have:q=o:=by simpa using ho
  subst this
  exact zb9 h.ag ha hq
 | none=>rw [hq] at ho; exact zb9 h.ag hb (by simpa using ho)
def Two (n:Nat) (m:z07):Prop:=(0≤m.A∧m.A<n)∧(0≤m.B∧m.B<n)∧m.A≠m.B
instance (n:Nat) (m:z07):Decidable (Two n m):=by unfold Two; exact inferInstance
def atG (l:List z00) (i:Int):z00:=l[i.toNat]?.getD ⟨[],[]⟩
theorem zc6 {i:Int} (h0:0≤i) (h:i<(l.length:Int)):∃ hi:i.toNat<l.length,atG l i=l[i.toNat]:=by
 have hi:i.toNat<l.length:=by omega
 exact ⟨hi, by unfold atG; rw [List.getElem?_eq_getElem hi]; rfl⟩
def zf3 (l:List z00) (m:z07):Sum Int (List z00) :=
 if Two l.length m then
  if 60<(z3g (atG l m.A) (atG l m.B)).Ops.length then .inl 4 else .inr ((l.set m.A.toNat (z3g (atG l m.A) (atG l m.B))).set m.B.toNat (z3g (atG l m.A) (atG l m.B)))
 else .inl 2
theorem zy2 (n:Nat) (m:z07):z95 (n:Int) m=some (decide (Two n m)):=by
 unfold z95
 by_cases h1:0≤m.A∧0≤m.B
 ·
  rw [if_pos (by simp; omega)]
  by_cases h2:m.A<n∧m.B<n
  ·
   rw [if_pos (by simp; omega),Option.some.injEq,Bool.eq_iff_iff,decide_eq_true_iff,bne_iff_ne]
   unfold Two
   exact ⟨fun h=>⟨⟨h1.1,h2.1⟩,⟨h1.2,h2.2⟩,h⟩, fun h=>h.2.2⟩
  ·
   have:¬ Two n m:=fun h=>h2 ⟨h.1.2,h.2.1.2⟩
   rw [if_neg (by simp; omega),decide_eq_false this]
 ·
  have:¬ Two n m:=fun h=>h1 ⟨h.1.1,h.2.1.1⟩
  rw [if_neg (by simp; omega),decide_eq_false this]
theorem zph {m:z07} {e:Int} (h:zf3 l m=.inl e):e≠0:=by
 unfold zf3 at h
 split at h
 ·
  split at h
  ·
   cases h; decide
  ·
   cases h
 ·
  cases h; decide
theorem zhe {m:z07} {k:List z00} (h:zf3 l m=.inr k):k.length=l.length:=by
 unfold zf3 at h
 split at h
 ·
  split at h
  ·
   cases h
  ·
   cases h; simp
 ·
  cases h
theorem zfm (h:Rps l) {m:z07} {k:List z00} (hm:zf3 l m=.inr k):Rps k∧∀ g∈k,∀ x o,z1s g x=some o→za8 l x=some o:=by
 have hlen:=zhe hm
 unfold zf3 at hm
 split at hm
 ·
  rename_i h2
  obtain ⟨hA,hB,-⟩:=h2
  obtain ⟨ia,ea⟩:=zc6 hA.1 hA.2
  obtain ⟨ib,eb⟩:=zc6 hB.1 hB.2
  have ma:atG l m.A∈l:=by rw [ea]; exact List.getElem_mem _
  have mb:atG l m.B∈l:=by rw [eb]; exact List.getElem_mem _
  split at hm
  ·
   cases hm
  ·
   rename_i h60
   cases hm
   have Ru:=(h.rp _ ma).union (h.rp _ mb) (h.nc ma mb) (by omega)
   have hin:∀ g,g∈(l.set m.A.toNat (z3g (atG l m.A) (atG l m.B))).set m.B.toNat (z3g (atG l m.A) (atG l m.B))→g∈l∨g=z3g (atG l m.A) (atG l m.B):=fun g hg=>by
    rcases List.mem_or_eq_of_mem_set hg with h1 | h1
    ·
     exact List.mem_or_eq_of_mem_set h1
    ·
     exact .inr h1
   have hs:∀ g∈(l.set m.A.toNat (z3g (atG l m.A) (atG l m.B))).set m.B.toNat (z3g (atG l m.A) (atG l m.B)),∀ x o,z1s g x=some o→za8 l x=some o:=fun g hg x o ho=>by
    rcases hin g hg with h1 | rfl
    ·
     exact zb9 h.ag h1 ho
    ·
     exact zqg h ma mb ho
   refine ⟨h.sub (by rw [hlen]; exact h.len) (fun g hg=>?_) hs,hs⟩
   rcases hin g hg with h1 | rfl
   ·
    exact h.rp g h1
   ·
    exact Ru
 ·
  cases hm
theorem zmp (h:Rps l) (m:z07):zb8 l m=some (match zf3 l m with | .inl e=>(e,l) | .inr k=>(0,k)):=by
 unfold zb8 zf3
 rw [zy2]
 simp only [bS]
 by_cases h2:Two l.length m
 ·
  rw [decide_eq_true h2,if_pos h2]
  obtain ⟨hA,hB,hne⟩:=h2
  obtain ⟨ia,ea⟩:=zc6 hA.1 hA.2
  obtain ⟨ib,eb⟩:=zc6 hB.1 hB.2
  have ma:atG l m.A∈l:=by rw [ea]; exact List.getElem_mem _
  have mb:atG l m.B∈l:=by rw [eb]; exact List.getElem_mem _
  have Ra:=h.rp _ ma; have Rb:=h.rp _ mb
  rw [if_neg (by simp),zmf hA.1 ia,zmf hB.1 ib]
  simp only [bS]
  rw [← ea,← eb,zu6 Ra.good Rb.good Ra.chk.1 Rb.chk.1 Ra.fit Rb.fit (h.nc ma mb)]
  simp only [bS]
  by_cases h60:60<(z3g (atG l m.A) (atG l m.B)).Ops.length
  ·
   rw [if_pos h60,if_pos h60]
   rfl
  ·
   rw [if_neg h60,if_neg h60]
   simp only []
   rw [if_neg (by simp),zof (zb6 Ra.fit Rb.fit) (by omega)]
   simp only [bS]
   rw [zmf hB.1 (by rw [List.length_set]; exact ib)]
   simp only [bS]
 ·
  rw [decide_eq_false h2,if_neg h2]
  rfl
def z8y:List z00→List z07→Sum Int (List z00)
 | l,[]=>.inr l
 | l,m::ms=>match zf3 l m with
  | .inl e=>.inl e
  | .inr k=>z8y k ms
theorem zdi:∀ {ms:List z07} {l k:List z00},Rps l→z8y l ms=.inr k→Rps k∧k.length=l.length
 | [],l,k,h,hr=>by simp only [z8y] at hr; cases hr; exact ⟨h,rfl⟩
 | m::ms,l,k,h,hr=>by
  simp only [z8y] at hr
  cases hm:zf3 l m with
  | inl e=>rw [hm] at hr; cases hr
  | inr k' =>
   rw [hm] at hr
   have h1:=zdi (zfm h hm).1 hr
   exact ⟨h1.1,h1.2.trans (zhe hm)⟩
theorem zq2:∀ {ms:List z07} {l:List z00} {e:Int},z8y l ms=.inl e→e≠0
 | [],l,e,h=>by simp [z8y] at h
 | m::ms,l,e,h=>by
  simp only [z8y] at h
  cases hm:zf3 l m with
  | inl e'=>rw [hm] at h; cases h; exact zph hm
  | inr k=>rw [hm] at h; exact zq2 h
theorem zlt (ms:List z07) (hl:ms.length≤1000):∀ (rest pre:List z07) (l:List z00),pre++rest=ms→Rps l→iter (z6a ms) (l,(pre.length:Int))=some (match z8y l rest with | .inl e=>.inl ([],e) | .inr k=>.inr k)
 | [],pre,l,e,h=>by
  rw [List.append_nil] at e
  subst e
  refine z0t ?_
  unfold z6a
  simp only []
  rw [if_neg (by simp)]
  rfl
 | m::rest,pre,l,e,h=>by
  have hi:pre.length<ms.length:=by rw [← e]; simp
  have hm:ms[pre.length]=m:=by simp [← e]
  have hF:z6a ms (l,(pre.length:Int))=match zf3 l m with | .inl e=>some (.inl (.inl ([],e))) | .inr k=>some (.inr (k,((pre.length+1:Nat):Int))):=by
   unfold z6a
   simp only []
   rw [if_pos (by simpa using hi),z0c hi,hm]
   simp only [bS]
   rw [zmp h,z0h (by omega)]
   simp only [bS]
   cases hp:zf3 l m with
   | inl e=>rw [if_pos (by simpa using zph hp)]
   | inr k=>rfl
  cases hp:zf3 l m with
  | inl e' =>
   rw [hp] at hF
   rw [z0t hF]
   simp only [z8y,hp]
  | inr k =>
   rw [hp] at hF
   have ih:=zlt ms hl rest (pre++[m]) k (by simp [← e]) (zfm h hp).1
   rw [List.length_append,List.length_cons,List.length_nil,Nat.zero_add] at ih
   rw [z19 hF,ih]
   simp only [z8y,hp]
def z12j:Sum Int (List z00)→List z00 × Int
 | .inl e=>([],e)
 | .inr k=>(k,0)
theorem Rps.f900 (h:Rps l):∀ g∈l,Fit g 900:=fun g hg=>⟨(h.rp g hg).fit.ids, by have:=(h.rp g hg).fit.len; omega,(h.rp g hg).fit.ri,(h.rp g hg).op⟩
end
section
open Go
variable {g:z00} {n:Nat} {x y z:ID} {o q:z04}
structure zxa (g:z00) (x:ID) (o:z04):Prop where
 sz:o.Preds.length≤20∧o.Act.Key.length≤100∧o.Act.Value.Text.length≤100
 ok:zcu o=0∧sha (zc2 o)=x∧o.Preds.length≤4∧z7c o.Preds=true
 wf:zgj o
 no:x∉g.IDs
 ins:∀ p∈o.Preds,p∈g.IDs
theorem Rp.nil:Rp (⟨[],[]⟩:z00):=by
 have F:Fit (⟨[],[]⟩:z00) 60:=⟨rfl, by simp,rfl, by simp⟩
 have hn:∀ z o,z1s (⟨[],[]⟩:z00) z≠some o:=fun z o h=>by have:=(z6n h).1; cases this
 exact ⟨zlu F ⟨fun z o h=>absurd h (hn z o), fun z o h=>absurd h (hn z o), fun _=>0, fun z o h=>absurd h (hn z o)⟩, by simp,zwi F (by omega) (by simp)⟩
theorem zzd {p:ID × z04} {q:z04} (h:q∈(zhy g p).Ops):q=p.2∨q∈g.Ops:=by
 unfold zhy at h
 split at h
 ·
  exact .inr h
 ·
  exact zi8.1 h
theorem Rp.add (R:Rp g) (hl:g.Ops.length≤59) (N:zxa g x o):Rp (zhy g (x,o)):=by
 have S:=zin R.good R.fit
 have F:=zep (p:=(x,o)) R.fit N.sz
 have hlen:(zhy g (x,o)).Ops.length≤60:=by
  have F':Fit g g.Ops.length:=⟨R.fit.ids,Nat.le_refl _,R.fit.ri,R.fit.op⟩
  have:=(zep (p:=(x,o)) F' N.sz).len
  omega
 have F6:Fit (zhy g (x,o)) 60:=⟨F.ids,hlen,F.ri,F.op⟩
 refine ⟨zlu F6 (zui R.fit S (p:=(x,o)) N.sz N.no N.ok N.ins),F.op,zwi F6 (by omega) fun q hq=>?_⟩
 rcases zzd hq with rfl | h
 ·
  exact N.wf
 ·
  exact R.wf.2.1.1 q h
theorem z12c (F:Fit g n) (N:zxa g x o):(zhy g (x,o)).Ops.length=g.Ops.length+1:=by
 have F1:=zi7 F.ri x
 have:=F1.le
 have hi:=F.ids
 unfold zhy
 rw [if_neg N.no]
 show (zf7 g.Ops _ o).length=_
 unfold zf7
 simp; omega
theorem zwg (F:Fit g n) (N:zxa g x o) (y:ID):z1s (zhy g (x,o)) y=if y=x then some o else z1s g y:=zmb F (p:=(x,o)) N.sz N.no y
end
section
open Go
variable {g:z00} {n:Nat}
def oid (o:z04):ID:=sha (zc2 o)
structure OkN (o:z04):Prop where
 good:zcu o=0
 pre:o.Preds.length≤4
 key:o.Act.Key.length≤100
 text:o.Act.Value.Text.length≤100
 num:inI o.Act.Value.Num
def zc4 (l:List z04):List (ID × z04):=l.map fun o=>(oid o,o)
theorem zo6 (l:List z04):(zc4 l).map Prod.fst=l.map oid:=by unfold zc4; rw [List.map_map]; rfl
theorem zm4 {l:List z04} (h:∀ o∈l,OkN o):∀ p∈zc4 l,p.2.Preds.length≤20∧p.2.Act.Key.length≤100∧p.2.Act.Value.Text.length≤100:=fun p hp=>by
 obtain ⟨o,ho,rfl⟩:=List.mem_map.1 hp
 have:=h o ho
 exact ⟨Nat.le_trans this.pre (by omega),this.key,this.text⟩
theorem fit0:Fit (⟨[],[]⟩:z00) 0:=⟨rfl,Nat.le_refl _,rfl, fun o ho=>by simp at ho⟩
theorem zqq:∀ {l:List (ID × z04)} {g:z00} {n:Nat},Fit g n→(∀ p∈l,p.2.Preds.length≤20∧p.2.Act.Key.length≤100∧p.2.Act.Value.Text.length≤100)→∀ x,x∈(z8z g l).IDs↔x∈g.IDs∨x∈l.map Prod.fst
 | [],g,n,F,_,x=>by simp [z8z]
 | p::l,g,n,F,hp,x=>by
  have ih:=zqq (l:=l) (zep F (hp p (by simp))) (fun q hq=>hp q (by simp [hq])) x
  have:z8z g (p::l)=z8z (zhy g p) l:=rfl
  rw [this,ih,ztm F p,List.map_cons,List.mem_cons]
  constructor
  ·
   rintro ((h | h) | h)
   ·
    exact .inr (.inl h)
   ·
    exact .inl h
   ·
    exact .inr (.inr h)
  ·
   rintro (h | h | h)
   ·
    exact .inl (.inr h)
   ·
    exact .inl (.inl h)
   ·
    exact .inr h
theorem z15g (l:List z04) (hl:l.length≤60) (h:∀ o∈l,OkN o):iter (ze3 l) 0=some (.inr ()):=by
 refine z1q (F:=ze3 l) l.length (fun i=>(i:Int)) (fun i hi=>?_) ?_
 ·
  have ho:=h l[i] (List.getElem_mem hi)
  unfold ze3
  rw [if_pos (by simpa using hi),z0c hi]
  simp only [bS]
  rw [ziu _ ho.num (Nat.le_trans ho.text (by omega)),ho.good]
  simp only [bS]
  rw [if_neg (by simp),z0h (by omega)]
 ·
  unfold ze3
  rw [if_neg (by simp)]
theorem z15l (l:List z04) (hl:l.length≤60) (h:∀ o∈l,OkN o) (hn:(l.map oid).Nodup):iter (zed l) ([],[],0)=some (.inr ((z8z ⟨[],[]⟩ (zc4 l)).IDs,(z8z ⟨[],[]⟩ (zc4 l)).Ops)):=by
 have hpl:(zc4 l).length=l.length:=by simp [zc4]
 have hsz:=zm4 h
 have fit:∀ i,i≤l.length→Fit (z8z ⟨[],[]⟩ ((zc4 l).take i)) i:=fun i hi=>by
  have:=zjf (l:=(zc4 l).take i) fit0 (fun p hp=>hsz p (List.mem_of_mem_take hp))
  rw [List.length_take,hpl,Nat.min_eq_left hi,Nat.zero_add] at this
  exact this
 refine z1q (F:=zed l) l.length (fun i=>((z8z ⟨[],[]⟩ ((zc4 l).take i)).IDs,(z8z ⟨[],[]⟩ ((zc4 l).take i)).Ops,(i:Int))) (fun i hi=>?_) ?_
 ·
  have ho:=h l[i] (List.getElem_mem hi)
  have F:=fit i (by omega)
  have hx:oid l[i]∉(z8z ⟨[],[]⟩ ((zc4 l).take i)).IDs:=fun hc=>by
   rw [zqq fit0 (fun p hp=>hsz p (List.mem_of_mem_take hp))] at hc
   rcases hc with hc | hc
   ·
    simp at hc
   ·
    rw [List.map_take,zo6] at hc
    obtain ⟨j,hj,e⟩:=List.getElem_of_mem hc
    have hj':j<i:=by rw [List.length_take] at hj; omega
    rw [List.getElem_take,List.getElem_map] at e
    have:=(List.getElem_inj (xs:=l.map oid) (i:=j) (j:=i) (h₀:=by simp; omega) (h₁:=by simpa using hi) hn).1 (by rw [List.getElem_map,List.getElem_map,e])
    omega
  unfold zed
  rw [if_pos (by simpa using hi)]
  simp only []
  rw [z0c hi]
  simp only [bS]
  rw [zua _ ho.num (Nat.le_trans ho.text (by omega)),if_pos (z96 ho.good)]
  simp only [bS]
  have hput:=ztx F (by omega) (oid l[i],l[i]) (Nat.le_trans ho.pre (by omega))
  rw [decide_eq_false hx] at hput
  have hput:zd3 (⟨(z8z ⟨[],[]⟩ ((zc4 l).take i)).IDs,(z8z ⟨[],[]⟩ ((zc4 l).take i)).Ops⟩:z00) (sha (zc2 l[i])) l[i]=_:=hput
  rw [hput]
  simp only [bS]
  rw [if_neg (by simp),z0h (by omega)]
  have ht:(zc4 l).take (i+1)=(zc4 l).take i++[(oid l[i],l[i])]:=by
   rw [List.take_add_one,List.getElem?_eq_getElem (by omega)]
   simp [zc4]
  rw [ht,zhd]
 ·
  unfold zed
  rw [if_neg (by simp),List.take_of_length_le (by omega)]
theorem zne:∀ (l:List z04) (o:z04),(l.map oid).Nodup→o∈l→((zc4 l).find? fun p=>decide (p.1=oid o)).map Prod.snd=some o
 | [],o,_,h=>by simp at h
 | a::l,o,hn,ho=>by
  rw [List.map_cons,List.nodup_cons] at hn
  have e0:zc4 (a::l)=(oid a,a)::zc4 l:=rfl
  rw [e0]
  by_cases e:oid a=oid o
  ·
   rw [List.find?_cons_of_pos (by simpa using e)]
   rcases List.mem_cons.1 ho with rfl | h
   ·
    rfl
   ·
    exact absurd (List.mem_map.2 ⟨o,h,e.symm⟩) hn.1
  ·
   rw [List.find?_cons_of_neg (by simpa using e)]
   rcases List.mem_cons.1 ho with rfl | h
   ·
    exact absurd rfl e
   ·
    exact zne l o hn.2 h
theorem z11r (F:Fit g n) (S:zlj g) {l:List z04} (hl:∀ o,o∈l↔o∈g.Ops) (h:∀ o∈l,OkN o) (hn:(l.map oid).Nodup):z8z ⟨[],[]⟩ (zc4 l)=g:=by
 refine zj0 (zjf fit0 (zm4 h)) F fun y=>?_
 rw [znx fit0 (zm4 h) (by rw [zo6]; exact hn),zct (by simp),Option.none_or]
 cases hy:z1s g y with
 | some o =>
  have:=(S.ops y o hy).2.1
  have ho:=(hl o).2 (z6n hy).2
  have:=zne l o hn ho
  rw [show oid o=y from (S.ops y o hy).2.1] at this
  exact this
 | none =>
  rw [Option.map_eq_none_iff,List.find?_eq_none]
  intro p hp hc
  obtain ⟨o,ho,rfl⟩:=List.mem_map.1 hp
  have hc:oid o=y:=by simpa using hc
  obtain ⟨i,hi,rfl⟩:=List.getElem_of_mem ((hl o).1 ho)
  have h1:=z6o F hi
  have h2:=(S.ops _ _ h1).2.1
  rw [← h2, show sha (zc2 g.Ops[i])=y from hc,hy] at h1
  simp at h1
theorem z15p (F:Fit g 60) (S:zlj g) {l:List z04} (hl:∀ o,o∈l↔o∈g.Ops) (h6:l.length≤60) (h:∀ o∈l,OkN o) (hn:(l.map oid).Nodup):znn l=some (g,0):=by
 have G:=zlu F S
 obtain ⟨c,c1,-,c3⟩:=zrh (g:=g) G.e.len G.e.ids G.e.op
 have hc:c=0:=c3.2 ⟨G.e.ri,G.ins,G.wf⟩
 unfold znn
 rw [if_neg (by simp; omega),z15g l h6 h]
 simp only [z36]
 rw [z15l l h6 h hn,z11r F S hl h hn]
 simp only [z36,bS]
 rw [c1,hc]
 simp only [bS]
 rw [if_neg (by simp)]
end
section
open Go
variable {g a b:z00} {n m:Nat} {l l0:List z00}
def zp9 (i:Nat):z07:=⟨(i:Int),((i+1:Nat):Int)⟩
def z56 (n:Nat):List z07:=(List.range' 0 (n - 1)).map zp9++if 2<n then [⟨((n - 1:Nat):Int),0⟩] else []
def zou {α σ:Type} (Y:α→σ→Option σ) (go:σ→Bool):List α→σ→Option (Sum σ σ)
 | [],s=>some (.inr s)
 | x::xs,s=>Y x s >>= fun t=>if !(go t) then some (.inl t) else zou Y go xs t
theorem zr1 {σ:Type} (Y:z07→σ→Option σ) (go:σ→Bool) (k:Nat) (hk:k≤1000):∀ d i s,k - i=d→i≤k→iter (z3k Y go) ((k:Int),(i:Int),s)=zou Y go ((List.range' i d).map zp9) s
 | 0,i,s,hd,hi=>by
  refine z0t ?_
  unfold z3k
  simp only []
  rw [if_neg (by simp; omega)]
 | d+1,i,s,hd,hi=>by
  rw [show List.range' i (d+1)=i::List.range' (i+1) d from rfl,List.map_cons]
  simp only [zou]
  rw [iter]
  have e:z3k Y go ((k:Int),(i:Int),s)=Y (zp9 i) s >>= fun t=>if !(go t) then some (.inl (.inl t)) else some (.inr ((k:Int),((i+1:Nat):Int),t)):=by
   conv=>lhs; unfold z3k
   simp only []
   rw [if_pos (by simp; omega),z0h (by omega)]
   rfl
  rw [e]
  cases hY:Y (zp9 i) s with
  | none=>rfl
  | some t =>
   simp only [bS]
   cases hg:go t with
   | false=>rfl
   | true =>
    simp only [Bool.not_true,Bool.false_eq_true,if_false,bS]
    exact zr1 Y go k hk d (i+1) t (by omega) (by omega)
theorem zfu:∀ (xs ys:List z07) (l:List z00),z8y l (xs++ys)=match z8y l xs with | .inl e=>.inl e | .inr k=>z8y k ys
 | [],ys,l=>rfl
 | x::xs,ys,l=>by
  simp only [List.cons_append,z8y]
  cases zf3 l x with
  | inl e=>rfl
  | inr k=>exact zfu xs ys k
theorem z132 (h:Rps l) (x:z07):z3b x l=some (match zf3 l x with | .inl e=>.inl (e,l) | .inr k=>.inr k):=by
 unfold z3b
 rw [zmp h]
 simp only [bS]
 cases hm:zf3 l x with
 | inl e=>rw [if_pos (by simpa using zph hm)]
 | inr k=>rfl
theorem zng:∀ (xs:List z07) (l:List z00),Rps l →
  (∃ e k,z8y l xs=.inl e∧zou (zm7 z3b) Sum.isRight xs (.inr l)=some (.inl (.inl (e,k))))∨∃ k,z8y l xs=.inr k∧zou (zm7 z3b) Sum.isRight xs (.inr l)=some (.inr (.inr k))
 | [],l,h=>.inr ⟨l,rfl,rfl⟩
 | x::xs,l,h=>by
  have e:zm7 z3b x (.inr l)=_:=z132 h x
  simp only [zou,z8y]
  rw [e]
  cases hm:zf3 l x with
  | inl e'=>exact .inl ⟨e',l,rfl,rfl⟩
  | inr k=>exact zng xs k (zfm h hm).1
theorem zl8 (h:Rps l):∃ r,z9n l=some r∧(match z8y l (z56 l.length) with | .inl e=>r.1=e | .inr k=>r=(0,k)):=by
 have hl:=h.len
 unfold z9n zeg z9m
 simp only [bS]
 have e0:iter (z3k (zm7 z3b) Sum.isRight) (w64 ((l.length:Int) - 1),0,(.inr l))=zou (zm7 z3b) Sum.isRight ((List.range' 0 (l.length - 1)).map zp9) (.inr l):=by
  by_cases hz:l.length=0
  ·
   rw [hz]
   refine z0t ?_
   unfold z3k
   simp only []
   rw [if_neg (by rw [z0u (by omega) (by omega)]; simp)]
  ·
   rw [z0u (by omega) (by omega), show ((l.length:Int) - 1)=((l.length - 1:Nat):Int) by omega]
   exact zr1 _ _ _ (by omega) _ 0 _ rfl (Nat.zero_le _)
 rw [e0]
 unfold z56
 rw [zfu]
 rcases zng ((List.range' 0 (l.length - 1)).map zp9) l h with ⟨e,k,h1,h2⟩ | ⟨k,h1,h2⟩
 ·
  rw [h1,h2]
  exact ⟨(e,k),rfl,rfl⟩
 ·
  rw [h1,h2]
  simp only [zp6]
  have Rk:=(zdi h h1).1
  by_cases h2:2<l.length
  ·
   rw [if_pos (by simp; omega),if_pos h2,z0u (by omega) (by omega), show ((l.length:Int) - 1)=((l.length - 1:Nat):Int) by omega]
   have e:zm7 z3b ⟨((l.length - 1:Nat):Int),0⟩ (.inr k)=_:=z132 Rk _
   rw [e]
   simp only [z8y]
   cases zf3 k ⟨((l.length - 1:Nat):Int),0⟩ with
   | inl e=>exact ⟨(e,k),rfl,rfl⟩
   | inr k'=>exact ⟨(0,k'),rfl,rfl⟩
  ·
   rw [if_neg (by simp; omega),if_neg h2]
   exact ⟨(0,k),rfl,rfl⟩
def Has (l0:List z00) (w:Nat) (g:z00):Prop:=∀ x o,z1s g x=some o↔∃ i,∃ h:i<l0.length,w.testBit i=true∧z1s l0[i] x=some o
theorem Has.uni (Fa:Fit a n) (Fb:Fit b m) (hc:zc1 a b) {w v:Nat} (ha:Has l0 w a) (hb:Has l0 v b):Has l0 (w ||| v) (z3g a b):=fun x o=>by
 have hu:z1s (z3g a b) x=some o↔z1s a x=some o∨z1s b x=some o:=by
  rw [z9g Fa Fb]
  cases hq:z1s a x with
  | none=>simp
  | some q =>
   constructor
   ·
    intro h; exact .inl h
   ·
    rintro (h | h)
    ·
     exact h
    ·
     rw [(zjm Fa Fb).1 hc x q o hq h]; rfl
 rw [hu,ha,hb]
 constructor
 ·
  rintro (⟨i,hi,h1,h2⟩ | ⟨i,hi,h1,h2⟩)
  ·
   exact ⟨i,hi, by rw [Nat.testBit_or,h1]; rfl,h2⟩
  ·
   exact ⟨i,hi, by rw [Nat.testBit_or,h1]; simp,h2⟩
 ·
  rintro ⟨i,hi,h1,h2⟩
  rw [Nat.testBit_or,Bool.or_eq_true] at h1
  rcases h1 with h1 | h1
  ·
   exact .inl ⟨i,hi,h1,h2⟩
  ·
   exact .inr ⟨i,hi,h1,h2⟩
theorem Has.eq (Fa:Fit a n) (Fb:Fit b m) {w:Nat} (ha:Has l0 w a) (hb:Has l0 w b):a=b:=zj0 Fa Fb fun x=>by
 cases hq:z1s a x with
 | none =>
  cases hr:z1s b x with
  | none=>rfl
  | some o=>rw [(ha x o).2 ((hb x o).1 hr)] at hq; cases hq
 | some o=>rw [(hb x o).2 ((ha x o).1 hq)]
def zsf (ws:List Nat) (m:z07):List Nat :=
 (ws.set m.A.toNat (ws[m.A.toNat]?.getD 0 ||| ws[m.B.toNat]?.getD 0)).set m.B.toNat (ws[m.A.toNat]?.getD 0 ||| ws[m.B.toNat]?.getD 0)
def zpb:List Nat→List z07→List Nat
 | ws,[]=>ws
 | ws,m::ms=>zpb (zsf ws m) ms
def zlc (l0:List z00) (ws:List Nat) (l:List z00):Prop:=ws.length=l.length∧∀ i (h:i<ws.length) (h2:i<l.length),Has l0 ws[i] l[i]
theorem zpy (R:Rps l) {m:z07} {k:List z00} (hm:zf3 l m=.inr k) {ws:List Nat} (hw:zlc l0 ws l):zlc l0 (zsf ws m) k:=by
 have hlen:=zhe hm
 unfold zf3 at hm
 split at hm
 ·
  rename_i h2
  obtain ⟨hA,hB,-⟩:=h2
  obtain ⟨ia,ea⟩:=zc6 hA.1 hA.2
  obtain ⟨ib,eb⟩:=zc6 hB.1 hB.2
  have ma:atG l m.A∈l:=by rw [ea]; exact List.getElem_mem _
  have mb:atG l m.B∈l:=by rw [eb]; exact List.getElem_mem _
  split at hm
  ·
   cases hm
  ·
   cases hm
   have wa:m.A.toNat<ws.length:=by rw [hw.1]; exact ia
   have wb:m.B.toNat<ws.length:=by rw [hw.1]; exact ib
   have hu:Has l0 (ws[m.A.toNat]?.getD 0 ||| ws[m.B.toNat]?.getD 0) (z3g (atG l m.A) (atG l m.B)):=by
    rw [List.getElem?_eq_getElem wa,List.getElem?_eq_getElem wb]
    have h1:=hw.2 _ wa ia
    have h2:=hw.2 _ wb ib
    rw [← ea] at h1
    rw [← eb] at h2
    exact Has.uni (R.rp _ ma).fit (R.rp _ mb).fit (R.nc ma mb) h1 h2
   unfold zsf
   refine ⟨by rw [hlen,← hw.1]; simp, fun i h h2=>?_⟩
   simp only [List.getElem_set]
   by_cases e1:m.B.toNat=i
   ·
    rw [if_pos e1,if_pos e1]; exact hu
   ·
    rw [if_neg e1,if_neg e1]
    by_cases e2:m.A.toNat=i
    ·
     rw [if_pos e2,if_pos e2]; exact hu
    ·
     rw [if_neg e2,if_neg e2]
     exact hw.2 i (by simpa using h) (by simpa using h2)
 ·
  cases hm
theorem zlr:∀ {ms:List z07} {l k:List z00} {ws:List Nat},Rps l→z8y l ms=.inr k→zlc l0 ws l→zlc l0 (zpb ws ms) k
 | [],l,k,ws,R,hr,hw=>by simp only [z8y] at hr; cases hr; exact hw
 | m::ms,l,k,ws,R,hr,hw=>by
  simp only [z8y] at hr
  cases hm:zf3 l m with
  | inl e=>rw [hm] at hr; cases hr
  | inr k' =>
   rw [hm] at hr
   have hr:z8y k' ms=.inr k:=hr
   show zlc l0 (zpb (zsf ws m) ms) k
   exact zlr (zfm R hm).1 hr (zpy R hm hw)
def ws0 (n:Nat):List Nat:=(List.range n).map fun i=>2 ^ i
theorem has0 (l:List z00):zlc l (ws0 l.length) l:=⟨by simp [ws0], fun i h h2=>by
 intro x o
 simp only [ws0,List.getElem_map,List.getElem_range]
 constructor
 ·
  intro ho; exact ⟨i,h2, by simp [Nat.testBit_two_pow],ho⟩
 ·
  rintro ⟨j,hj,h3,h4⟩
  have:i=j:=by simpa [Nat.testBit_two_pow] using h3
  subst this; exact h4⟩
theorem z15s:∀ n,n<6→zpb (zpb (ws0 n) (z56 n)) (z56 n)=List.replicate n (2 ^ n - 1):=by decide +kernel
theorem zsc (R:Rps l) {k1 k2:List z00} (h1:z8y l (z56 l.length)=.inr k1) (h2:z8y k1 (z56 l.length)=.inr k2):k2.length=l.length∧∀ g∈k2,Has l (2 ^ l.length - 1) g:=by
 obtain ⟨R1,e1⟩:=zdi R h1
 obtain ⟨R2,e2⟩:=zdi R1 h2
 have hw:=zlr R1 h2 (zlr R h1 (has0 l))
 rw [z15s _ (by have:=R.len; omega)] at hw
 refine ⟨by omega, fun g hg=>?_⟩
 obtain ⟨i,hi,rfl⟩:=List.getElem_of_mem hg
 have:=hw.2 i (by rw [hw.1]; exact hi) hi
 rwa [List.getElem_replicate] at this
end
section
open Go
variable {g a b:z00} {n m:Nat} {l l0:List z00}
theorem zle (R:Rps l):∀ d i,l.length - i=d→∃ r,iter (z6f l) (i:Int)=some r∧iter (z54 l) (i:Int)=some r ∧
  ((r=.inl (false,0)∧∃ j,∃ h:j<l.length,i≤j∧l[j].IDs≠(l[0]'(by omega)).IDs)∨(r=.inr ()∧∀ j (h:j<l.length),i≤j→l[j].IDs=(l[0]'(by omega)).IDs)):=by
 have hl5:=R.len
 intro d
 induction d with
 | zero =>
  intro i hd
  refine ⟨.inr (),z0t ?_,z0t ?_,.inr ⟨rfl, fun j h hj=>by omega⟩⟩
  ·
   unfold z6f; rw [if_neg (by simp; omega)]
  ·
   unfold z54; rw [if_neg (by simp; omega)]
 | succ d ih =>
  intro i hd
  have hi:i<l.length:=by omega
  have h0:0<l.length:=by omega
  have F:=(R.rp _ (List.getElem_mem hi)).fit
  have hF1:=F.len; have hF2:=F.ids
  have e0:idx l 0=some l[0]:=z0c (i:=0) h0
  have hP:z6f l (i:Int)=if !decide (l[i].IDs=l[0].IDs) then some (.inl (.inl (false,0))) else some (.inr ((i+1:Nat):Int)):=by
   unfold z6f
   rw [if_pos (by simpa using hi),z0c hi,e0]
   simp only [bS]
   rw [z12b _ _ (by omega),z0h (by omega)]
   simp only [bS]
  have hQ:z54 l (i:Int)=if !decide (l[i].IDs=l[0].IDs) then some (.inl (.inl (false,0))) else some (.inr ((i+1:Nat):Int)):=by
   unfold z54
   rw [if_pos (by simpa using hi),z0c hi,e0]
   simp only [bS]
   rw [z101 _ _ (by omega),z0h (by omega)]
   simp only [bS]
  by_cases he:l[i].IDs=l[0].IDs
  ·
   rw [decide_eq_true he,if_neg (by simp)] at hP hQ
   rw [z19 hP,z19 hQ]
   obtain ⟨r,r1,r2,r3⟩:=ih (i+1) (by omega)
   refine ⟨r,r1,r2,?_⟩
   rcases r3 with ⟨h1,j,hj,h2,h3⟩ | ⟨h1,h2⟩
   ·
    exact .inl ⟨h1,j,hj, by omega,h3⟩
   ·
    refine .inr ⟨h1, fun j hj hij=>?_⟩
    by_cases e:j=i
    ·
     subst e; exact he
    ·
     exact h2 j hj (by omega)
  ·
   rw [decide_eq_false he,if_pos (by simp)] at hP hQ
   exact ⟨_,z0t hP,z0t hQ,.inl ⟨rfl,i,hi,Nat.le_refl _,he⟩⟩
def z68 (l:List z00):Prop:=∀ g∈l,∀ h∈l,g.IDs=h.IDs
instance (l:List z00):Decidable (z68 l):=by unfold z68; exact inferInstance
theorem zd2 (i:Nat) (hi:i≤1):z68 l↔∀ j (h:j<l.length),i≤j→l[j].IDs=(l[0]'(by omega)).IDs:=by
 constructor
 ·
  intro h j hj _
  exact h _ (List.getElem_mem hj) _ (List.getElem_mem _)
 ·
  intro h
  have all:∀ j (hj:j<l.length),l[j].IDs=(l[0]'(by omega)).IDs:=fun j hj=>by
   by_cases e:j=0
   ·
    subst e; rfl
   ·
    exact h j hj (by omega)
  intro g hg k hk
  obtain ⟨p,hp,rfl⟩:=List.getElem_of_mem hg
  obtain ⟨q,hq,rfl⟩:=List.getElem_of_mem hk
  rw [all p hp,all q hq]
theorem z10e (R:Rps l):∃ b,z71 l=some (b,0)∧z8n l=some (b,0)∧(b=true↔z68 l):=by
 obtain ⟨c1,c2⟩:=R.chk
 obtain ⟨r,r1,-,r3⟩:=zle R _ 0 rfl
 obtain ⟨q,-,q2,q3⟩:=zle R _ 1 rfl
 unfold z71 z8n
 rw [c1,c2]
 simp only [bS]
 rw [if_neg (by simp),if_neg (by simp), show (0:Int)=((0:Nat):Int) from rfl, show (1:Int)=((1:Nat):Int) from rfl,r1,q2]
 rcases r3 with ⟨rfl,j,hj,h1,h2⟩ | ⟨rfl,h1⟩ <;> rcases q3 with ⟨rfl,k,hk,h3,h4⟩ | ⟨rfl,h3⟩
 ·
  exact ⟨false,rfl,rfl, by simp; exact fun h=>h2 ((zd2 0 (by omega)).1 h j hj (by omega))⟩
 ·
  exact absurd ((zd2 0 (by omega)).1 ((zd2 1 (by omega)).2 h3) j hj (by omega)) h2
 ·
  exact absurd (h1 k hk (by omega)) h4
 ·
  exact ⟨true,rfl,rfl, by simp; exact (zd2 0 (by omega)).2 h1⟩
theorem z11p (R:Rps l) (h:¬ z68 l):z71 l=some (false,0)∧z8n l=some (false,0):=by
 obtain ⟨b,b1,b2,b3⟩:=z10e R
 cases b with
 | true=>exact absurd (b3.1 rfl) h
 | false=>exact ⟨b1,b2⟩
theorem zyb (R:Rps l) (h:z68 l):z71 l=some (true,0)∧z8n l=some (true,0):=by
 obtain ⟨b,b1,b2,b3⟩:=z10e R
 have:=b3.2 h
 subst this
 exact ⟨b1,b2⟩
def zgt:Nat→List z00→Sum Int (List z00)
 | 0,l=>.inr l
 | k+1,l=>match z8y l (z56 l.length) with
  | .inl e=>.inl e
  | .inr l'=>zgt k l'
theorem ziy (N:Nat) (hN:N≤5):∀ d i l,N - i=d→i≤N→Rps l→iter (z7o (N:Int)) (l,(i:Int))=some (match zgt d l with | .inl e=>.inl ([],e) | .inr k=>.inr k)
 | 0,i,l,hd,hi,R=>by
  refine z0t ?_
  unfold z7o
  simp only []
  rw [if_neg (by simp; omega)]
  rfl
 | d+1,i,l,hd,hi,R=>by
  obtain ⟨r,r1,r2⟩:=zl8 R
  have hF:z7o (N:Int) (l,(i:Int))=if r.1 != 0 then some (.inl (.inl ([],r.1))) else some (.inr (r.2,((i+1:Nat):Int))):=by
   unfold z7o
   simp only []
   rw [if_pos (by simp; omega),r1,z0h (by omega)]
   simp only [bS]
  simp only [zgt]
  cases hm:z8y l (z56 l.length) with
  | inl e =>
   rw [hm] at r2
   have r2:r.1=e:=r2
   rw [r2,if_pos (by simpa using zq2 hm)] at hF
   rw [z0t hF]
  | inr k =>
   rw [hm] at r2
   have r2:r=(0,k):=r2
   rw [r2,if_neg (by simp)] at hF
   rw [z19 hF]
   exact ziy N hN d (i+1) k (by omega) (by omega) (zdi R hm).1
theorem Has.same {w:Nat} {g h:z00} (Fg:Fit g n) (Fh:Fit h m) (hg:Has l0 w g) (hh:Has l0 w h):g.IDs=h.IDs:=by rw [Has.eq Fg Fh hg hh]
theorem zpd (R:Rps l) {k1 k2:List z00} (h1:z8y l (z56 l.length)=.inr k1) (h2:z8y k1 (z56 l.length)=.inr k2):z68 k2:=by
 obtain ⟨R1,e1⟩:=zdi R h1
 obtain ⟨R2,e2⟩:=zdi R1 h2
 obtain ⟨-,hall⟩:=zsc R h1 h2
 intro g hg h hh
 exact Has.same (R2.rp g hg).fit (R2.rp h hh).fit (hall g hg) (hall h hh)
def zjp (l:List z00) (n:Nat):Sum (Int × Int) (List z00) :=
 if z68 l then .inl ((n:Int),0) else match z8y l (z56 l.length) with
  | .inl e=>.inl (0,e)
  | .inr k=>.inr k
theorem zew (R:Rps l) {n:Nat} (hn:n<3):z7u (l,(n:Int))=some (match zjp l n with | .inl r=>.inl (.inl r) | .inr k=>.inr (k,((n+1:Nat):Int))):=by
 unfold z7u zjp
 simp only []
 rw [if_pos (by simp; omega)]
 by_cases hs:z68 l
 ·
  rw [(zyb R hs).1,if_pos hs]
  rfl
 ·
  obtain ⟨r,r1,r2⟩:=zl8 R
  rw [(z11p R hs).1,if_neg hs,r1,z0h (by omega)]
  simp only [bS]
  cases hm:z8y l (z56 l.length) with
  | inl e =>
   rw [hm] at r2
   have r2:r.1=e:=r2
   rw [r2]
   rw [if_neg (by simp)]
   simp only [bS,Bool.false_eq_true,if_false]
   rw [if_pos (by simpa using zq2 hm)]
  | inr k =>
   rw [hm] at r2
   have r2:r=(0,k):=r2
   rw [r2]
   rfl
theorem z14a (l:List z00) (hl:l.length≤1000) (hs:∀ g∈l,zye g):z3u l l=some true:=by
 have main:=z1q (F:=z43 l l) (b:=(.inr ():Sum Bool Unit)) l.length (fun i=>(i:Int)) (fun i hi=>?_) ?_
 ·
  unfold z3u
  rw [if_neg (by simp), show (0:Int)=((0:Nat):Int) from rfl,main]
  rfl
 ·
  unfold z43
  rw [if_pos (by simpa using hi),z0c hi,z0h (by omega)]
  simp only [bS]
  rw [ztr (hs _ (List.getElem_mem hi))]
  rfl
 ·
  unfold z43
  rw [if_neg (by simp)]
end
section
open Go
variable {g:z00}
theorem z159 {α:Type} {l:List α} {n:Nat} (h:n<l.length):l.take (n+1)=l.take n++[l[n]]:=by
 rw [List.take_add_one,List.getElem?_eq_getElem h]; rfl
end
section
open Go
variable {g a b:z00} {n m:Nat} {l:List z00} {mk:Nat→Bool}
def z6q (l:List z00):z00:=l.foldl z3g ⟨[],[]⟩
theorem z11c:Fit (⟨[],[]⟩:z00) 0:=⟨rfl,Nat.le_refl _,rfl, fun o ho=>by cases ho⟩
theorem zs2 (l:List z00) (g:z00):z6q (l++[g])=z3g (z6q l) g:=by unfold z6q; rw [List.foldl_append]; rfl
theorem zhf (R:Rps l):∀ i,i≤l.length→Fit (z6q (l.take i)) (60 * i)∧∀ x,z1s (z6q (l.take i)) x=za8 (l.take i) x
 | 0,_=>⟨z11c, fun x=>rfl⟩
 | i+1,hi=>by
  obtain ⟨h1,h2⟩:=zhf R i (by omega)
  have F:=(R.rp _ (List.getElem_mem (show i<l.length by omega))).fit
  rw [z159 (by omega),zs2]
  refine ⟨?_, fun x=>?_⟩
  ·
   have:=zb6 h1 F
   rw [Nat.mul_succ]; exact this
  ·
   rw [z9g h1 F,h2,zkt]
theorem zcr (R:Rps l):Fit (z6q l) 300:=by
 have h:=(zhf R l.length (Nat.le_refl _)).1
 rw [List.take_length] at h
 have:=R.len
 exact ⟨h.ids,Nat.le_trans h.len (by omega),h.ri,h.op⟩
theorem zap (R:Rps l) (x:ID):z1s (z6q l) x=za8 l x:=by
 have h:=(zhf R l.length (Nat.le_refl _)).2 x
 rwa [List.take_length] at h
end
section
open Go
variable {g a b:z00} {n m:Nat} {l:List z00} {mk:Nat→Bool}
theorem zw6 {W g:z00} (F:Fit W n) (G:Fit g m) (h:∀ x o,z1s W x=some o→z1s g x=some o):W.Ops.length≤g.Ops.length:=by
 rw [← F.ids,← G.ids]
 refine zcx _ _ (zcd F.ri) fun x hx=>?_
 obtain ⟨o,ho⟩:=z5w F hx
 exact (z6n (h x o ho)).1
end
section
open Go
variable {g a b:z00} {n:Nat} {l k:List z00} {m:z07} {x:ID} {o:z04}
theorem optE {α:Type} {p q:Option α} (h:∀ o,p=some o↔q=some o):p=q:=by
 cases p with
 | none =>
  cases q with
  | none=>rfl
  | some o=>exact absurd ((h o).2 rfl) (by simp)
 | some o=>exact ((h o).1 rfl).symm
theorem zm0 (R:Rps l):za8 l x=some o↔∃ h∈l,z1s h x=some o :=
 ⟨fun h=>zco h, fun ⟨_,h1,h2⟩=>zb9 R.ag h1 h2⟩
theorem z116 (hm:zf3 l m=.inr k):Two l.length m:=by
 unfold zf3 at hm
 split at hm
 ·
  assumption
 ·
  cases hm
theorem z119 (R:Rps l) (hw:(z6q l).Ops.length≤60) (h2:Two l.length m):∃ k,zf3 l m=.inr k:=by
 obtain ⟨ia,ea⟩:=zc6 h2.1.1 h2.1.2
 obtain ⟨ib,eb⟩:=zc6 h2.2.1.1 h2.2.1.2
 have ma:atG l m.A∈l:=by rw [ea]; exact List.getElem_mem _
 have mb:atG l m.B∈l:=by rw [eb]; exact List.getElem_mem _
 have hle:(z3g (atG l m.A) (atG l m.B)).Ops.length≤(z6q l).Ops.length:=zw6 (zb6 (R.rp _ ma).fit (R.rp _ mb).fit) (zcr R) fun x o h=>by rw [zap R]; exact zqg R ma mb h
 unfold zf3
 rw [if_pos h2,if_neg (by omega)]
 exact ⟨_,rfl⟩
theorem zqh (R:Rps l) (hm:zf3 l m=.inr k) {i:Nat} (hi:i<l.length) (hi2:i<k.length) (h:z1s l[i] x=some o):z1s k[i] x=some o:=by
 have h2:=z116 hm
 obtain ⟨ia,ea⟩:=zc6 h2.1.1 h2.1.2
 obtain ⟨ib,eb⟩:=zc6 h2.2.1.1 h2.2.1.2
 have ma:atG l m.A∈l:=by rw [ea]; exact List.getElem_mem _
 have mb:atG l m.B∈l:=by rw [eb]; exact List.getElem_mem _
 unfold zf3 at hm
 rw [if_pos h2] at hm
 split at hm
 ·
  cases hm
 ·
  have hk:k=(l.set m.A.toNat (z3g (atG l m.A) (atG l m.B))).set m.B.toNat (z3g (atG l m.A) (atG l m.B)):=by
   injection hm with hm; exact hm.symm
  subst hk
  have hu:∀ g,g=atG l m.A∨g=atG l m.B→z1s g x=some o→z1s (z3g (atG l m.A) (atG l m.B)) x=some o:=fun g hg ho=>by
   have hgl:g∈l:=by
    rcases hg with rfl | rfl
    ·
     exact ma
    ·
     exact mb
   rw [z9g (R.rp _ ma).fit (R.rp _ mb).fit]
   cases hq:z1s (atG l m.A) x with
   | some q =>
    rw [R.ag _ ma g hgl x q o hq ho]; rfl
   | none =>
    rcases hg with rfl | rfl
    ·
     rw [hq] at ho; cases ho
    ·
     rw [ho]; rfl
  simp only [List.getElem_set]
  by_cases e1:m.B.toNat=i
  ·
   rw [if_pos e1]
   subst e1
   exact hu _ (.inr rfl) (by rw [eb]; exact h)
  ·
   rw [if_neg e1]
   by_cases e2:m.A.toNat=i
   ·
    rw [if_pos e2]
    subst e2
    exact hu _ (.inl rfl) (by rw [ea]; exact h)
   ·
    rw [if_neg e2]; exact h
theorem zts (R:Rps l) (hm:zf3 l m=.inr k) (x:ID):za8 k x=za8 l x:=by
 obtain ⟨Rk,hs⟩:=zfm R hm
 have hlen:=zhe hm
 refine optE fun o=>?_
 rw [zm0 Rk,zm0 R]
 constructor
 ·
  rintro ⟨g,h1,h2⟩
  exact (zm0 R).1 (hs g h1 x o h2)
 ·
  rintro ⟨g,h1,h2⟩
  obtain ⟨i,hi,rfl⟩:=List.getElem_of_mem h1
  have hi2:i<k.length:=by omega
  exact ⟨k[i],List.getElem_mem hi2,zqh R hm hi hi2 h2⟩
theorem zf1 (R:Rps l) (Rk:Rps k) (h:∀ x,za8 k x=za8 l x):z6q k=z6q l:=zj0 (zcr Rk) (zcr R) fun x=>by rw [zap Rk,zap R,h]
theorem zos:∀ (ms:List z07) (l:List z00),Rps l→(z6q l).Ops.length≤60→(∀ m∈ms,Two l.length m)→∃ k,z8y l ms=.inr k∧Rps k∧k.length=l.length∧(∀ x,za8 k x=za8 l x)∧∀ i (h:i<l.length) (h2:i<k.length) x o,z1s l[i] x=some o→z1s k[i] x=some o
 | [],l,R,hw,h2=>⟨l,rfl,R,rfl, fun x=>rfl, fun i _ _ x o h=>h⟩
 | m::ms,l,R,hw,h2=>by
  obtain ⟨k1,e1⟩:=z119 R hw (h2 m (by simp))
  have R1:=(zfm R e1).1
  have l1:=zhe e1
  have a1:=zts R e1
  have w1:=zf1 R R1 a1
  obtain ⟨k,p1,p2,p3,p4,p5⟩:=zos ms k1 R1 (by rw [w1]; exact hw) fun m' hm'=>by rw [l1]; exact h2 m' (by simp [hm'])
  refine ⟨k,?_,p2, by omega, fun x=>by rw [p4,a1], fun i h h2 x o ho=>p5 i (by omega) h2 x o (zqh R e1 h (by omega) ho)⟩
  simp only [z8y]
  rw [e1]
  exact p1
theorem ze5 (n:Nat):∀ m∈z56 n,Two n m:=fun m hm=>by
 unfold z56 at hm
 rcases List.mem_append.1 hm with hm | hm
 ·
  obtain ⟨i,hi,rfl⟩:=List.mem_map.1 hm
  rw [List.mem_range'_1] at hi
  unfold Two zp9
  simp only
  omega
 ·
  split at hm
  ·
   rw [List.mem_singleton] at hm
   subst hm
   unfold Two
   simp only
   omega
  ·
   cases hm
theorem zud (R:Rps l) (hw:(z6q l).Ops.length≤60):∃ k,z8y l (z56 l.length)=.inr k∧Rps k∧k.length=l.length∧z6q k=z6q l:=by
 obtain ⟨k,p1,p2,p3,p4,-⟩:=zos _ l R hw (ze5 _)
 exact ⟨k,p1,p2,p3,zf1 R p2 p4⟩
theorem zh3 (R:Rps l) (N:Nat) (hN:N≤5) (h:zgt N l=.inr k):z15 l (N:Int)=some (k,0):=by
 unfold z15
 rw [R.chk.1]
 simp only [bS]
 have d1:¬ (decide ((N:Int)<0)=true):=by simp
 have d2:¬ (decide (5<(N:Int))=true):=by simp; omega
 rw [if_neg (by simp),if_neg d1,if_neg d2,zeq l (by have:=R.len; omega) R.f900]
 simp only [bS]
 rw [show (0:Int)=((0:Nat):Int) from rfl,ziy N hN N 0 l rfl (Nat.zero_le _) R,h]
 rfl
theorem zis (R:Rps l) {k1 k2:List z00} (h1:z8y l (z56 l.length)=.inr k1) (h2:z8y k1 (z56 k1.length)=.inr k2):z2a l=some (if z68 l then (0,0) else if z68 k1 then (1,0) else (2,0)):=by
 obtain ⟨R1,e1⟩:=zdi R h1
 obtain ⟨R2,e2⟩:=zdi R1 h2
 unfold z2a
 rw [R.chk.1]
 simp only [bS]
 rw [if_neg (by simp),zeq l (by have:=R.len; omega) R.f900]
 simp only [bS]
 have p0:=zew R (n:=0) (by omega)
 have p1:=zew R1 (n:=1) (by omega)
 have p2:=zew R2 (n:=2) (by omega)
 rw [show (0:Int)=((0:Nat):Int) from rfl]
 by_cases s0:z68 l
 ·
  have e:zjp l 0=.inl (((0:Nat):Int),0):=if_pos s0
  rw [e] at p0
  rw [z0t p0,if_pos s0]
  rfl
 ·
  have e:zjp l 0=.inr k1:=by unfold zjp; rw [if_neg s0,h1]
  rw [e] at p0
  rw [z19 p0,if_neg s0]
  by_cases s1:z68 k1
  ·
   have e:zjp k1 1=.inl (((1:Nat):Int),0):=if_pos s1
   rw [e] at p1
   rw [z0t p1,if_pos s1]
   rfl
  ·
   have e:zjp k1 1=.inr k2:=by unfold zjp; rw [if_neg s1,h2]
   rw [e] at p1
   rw [z19 p1,if_neg s1]
   have hs:=zpd R h1 (by rw [← e1]; exact h2)
   have e:zjp k2 2=.inl (((2:Nat):Int),0):=if_pos hs
   rw [e] at p2
   rw [z0t p2]
   rfl
theorem z112 (ids:List ID) (hn:ids.Nodup) {l0:List z00} (hl:l0.length=ids.length) (h0:∀ i (h:i<l0.length) (h2:i<ids.length),∃ o,∀ x q,z1s l0[i] x=some q↔x=ids[i]∧q=o) {w:Nat} (F:Fit g n) (H:Has l0 w g):g.IDs.length=((List.range ids.length).filter fun i=>w.testBit i).length:=by
 have e:((List.range ids.length).filter fun i=>w.testBit i).length=(((List.range ids.length).filter fun i=>w.testBit i).map fun i=>ids[i]?.getD (Vector.replicate 32 0)).length:=by rw [List.length_map]
 rw [e]
 refine zji (zcd F.ri) ?_ fun x=>?_
 ·
  unfold List.Nodup
  rw [List.pairwise_map]
  refine List.Pairwise.imp_of_mem (fun {a b} ha hb hab e=>?_) (List.Pairwise.sublist List.filter_sublist List.nodup_range)
  have ha:a<ids.length:=by simpa using (List.mem_filter.1 ha).1
  have hb:b<ids.length:=by simpa using (List.mem_filter.1 hb).1
  rw [List.getElem?_eq_getElem ha,List.getElem?_eq_getElem hb] at e
  exact hab ((List.getElem_inj hn).1 e)
 ·
  rw [List.mem_map]
  constructor
  ·
   intro hx
   obtain ⟨o,ho⟩:=z5w F hx
   obtain ⟨i,hi,h1,h2⟩:=(H x o).1 ho
   have hi2:i<ids.length:=by omega
   obtain ⟨q,hq⟩:=h0 i hi hi2
   refine ⟨i,List.mem_filter.2 ⟨by simpa using hi2,h1⟩,?_⟩
   rw [List.getElem?_eq_getElem hi2]
   exact ((hq x o).1 h2).1.symm
  ·
   rintro ⟨i,hi,rfl⟩
   rw [List.mem_filter] at hi
   have hi2:i<ids.length:=by simpa using hi.1
   obtain ⟨q,hq⟩:=h0 i (by omega) hi2
   rw [List.getElem?_eq_getElem hi2]
   exact (z6n ((H ids[i] q).2 ⟨i, by omega,hi.2,(hq _ _).2 ⟨rfl,rfl⟩⟩)).1
end
section
open Go
variable {l:List z00} {g:z00}
theorem zus (R:Rps l) (hg:g∈l) {x:ID} (hx:x∈g.IDs):x∈(z6q l).IDs:=by
 obtain ⟨o,ho⟩:=z5w (R.rp g hg).fit hx
 have:=zb9 R.ag hg ho
 rw [← zap R] at this
 exact (z6n this).1
theorem zsg (R:Rps l) {x:ID} (hx:x∈(z6q l).IDs):∃ g∈l,x∈g.IDs:=by
 obtain ⟨o,ho⟩:=z5w (zcr R) hx
 rw [zap R] at ho
 obtain ⟨g,h1,h2⟩:=zco ho
 exact ⟨g,h1,(z6n h2).1⟩
def rid (d:Rn):ID:=idv d.h3
def rop (d:Rn):z04:=zfp (u32 4) (UInt64.ofNat d.n) [] ⟨u32 d.E,u32 d.S⟩
def z16d (d:Rn):ID × z04:=(rid d,rop d)
def grR (m:List Rn):z00:=z8z ⟨[],[]⟩ (m.map z16d)
theorem wf_b {y:UInt32} {st:UInt64} {sg:z0b}:zgj (zfp y st [] sg):=by
 refine ⟨trivial,⟨fun x _ y _=>trivial, by show ([]:List ID).length≤_; simp⟩,trivial,?_,?_⟩
 ·
  refine ⟨trivial,?_,⟨trivial,?_,trivial,?_,trivial⟩,trivial⟩
  ·
   show ([]:List UInt8).length≤_; simp
  ·
   show inI 0; unfold inI; omega
  ·
   show ([]:List UInt8).length≤_; simp
 ·
  exact ⟨⟨trivial,trivial,trivial⟩,trivial⟩
theorem zr3 {d:Rn} (h:chkR d=true):zh8 1 (⟨0,[],UInt64.ofNat d.n,⟨1,[],⟨0,0,0,[]⟩⟩,⟨0,0⟩⟩:z04)=some (rop d,0)∧zcu (rop d)=0∧sha (zc2 (rop d))=rid d:=by
 have:=z15x (k:=1) (P:=[]) h
 exact this
theorem zti {g:z00} {d:Rn} (h:chkR d=true) (no:rid d∉g.IDs):zxa g (rid d) (rop d):=by
 have:=zr3 h
 exact ⟨⟨by show ([]:List ID).length≤20; simp, by show ([]:List UInt8).length≤100; simp, by show ([]:List UInt8).length≤100; simp⟩,⟨this.2.1,this.2.2, by show ([]:List ID).length≤4; simp,rfl⟩,wf_b,no, fun p hp=>by cases hp⟩
theorem z103 {α β γ:Type} {f:α→β} {k:β→γ} {l:List α} (h:(l.map fun d=>k (f d)).Nodup):(l.map f).Nodup:=by
 unfold List.Nodup at h ⊢
 rw [List.pairwise_map] at h ⊢
 exact h.imp fun hn e=>hn (by rw [e])
structure Mk (m:List Rn):Prop where
 chk:∀ d∈m,chkR d=true
 nd:(m.map rid).Nodup
 len:m.length≤60
theorem zxw (m:List Rn) (d:Rn):grR (m++[d])=zhy (grR m) (rid d,rop d):=by
 unfold grR
 rw [List.map_append,List.map_cons,List.map_nil,zhd]
 rfl
theorem Mk.of_app {m:List Rn} {d:Rn} (h:Mk (m++[d])):Mk m∧chkR d=true∧rid d∉m.map rid∧m.length≤59:=by
 have hn:=h.nd
 rw [List.map_append,List.map_cons,List.map_nil,List.nodup_append] at hn
 have hl:=h.len
 rw [List.length_append,List.length_singleton] at hl
 exact ⟨⟨fun e he=>h.chk e (by simp [he]),hn.1, by omega⟩,h.chk d (by simp), fun hm=>hn.2.2 _ hm _ (by simp) rfl, by omega⟩
theorem z10y:∀ (n:Nat) (m:List Rn),m.length=n→Mk m→Rp (grR m)∧(grR m).Ops.length=m.length∧∀ x o,z1s (grR m) x=some o↔∃ d∈m,rid d=x∧o=rop d:=by
 intro n
 induction n with
 | zero =>
  intro m hm _
  have:m=[]:=List.length_eq_zero_iff.1 hm
  subst this
  exact ⟨Rp.nil,rfl, fun x o=>⟨fun h=>(by have:=(z6n h).1; cases this), fun ⟨d,h,_⟩=>(by cases h)⟩⟩
 | succ n ih =>
  intro m hm hk
  obtain ⟨m',d,rfl⟩:∃ m' d,m=m'++[d]:=⟨m.dropLast,m.getLast (fun e=>by subst e; simp at hm),(List.dropLast_concat_getLast _).symm⟩
  obtain ⟨k1,k2,k3,k4⟩:=hk.of_app
  obtain ⟨R,hl,hlk⟩:=ih m' (by simpa using hm) k1
  have no:rid d∉(grR m').IDs:=fun hx=>by
   obtain ⟨o,ho⟩:=z5w R.fit hx
   obtain ⟨e,e1,e2,-⟩:=(hlk _ _).1 ho
   exact k3 (List.mem_map.2 ⟨e,e1,e2⟩)
  have N:=zti k2 no
  rw [zxw]
  refine ⟨R.add (by omega) N, by rw [z12c R.fit N,hl]; simp, fun x o=>?_⟩
  rw [zwg R.fit N]
  by_cases e:x=rid d
  ·
   rw [if_pos e]
   constructor
   ·
    intro h; exact ⟨d, by simp,e.symm,(Option.some.inj h).symm⟩
   ·
    rintro ⟨d',h1,h2,h3⟩
    rcases List.mem_append.1 h1 with h1 | h1
    ·
     exact absurd (List.mem_map.2 ⟨d',h1,h2.trans e⟩) k3
    ·
     rw [List.mem_singleton] at h1; subst h1; rw [h3]
  ·
   rw [if_neg e,hlk]
   constructor
   ·
    rintro ⟨d',h1,h2⟩; exact ⟨d', by simp [h1],h2⟩
   ·
    rintro ⟨d',h1,h2,h3⟩
    rcases List.mem_append.1 h1 with h1 | h1
    ·
     exact ⟨d',h1,h2,h3⟩
    ·
     rw [List.mem_singleton] at h1; subst h1; exact absurd h2.symm e
theorem zcb {m:List Rn} (h:Mk m):Rp (grR m)∧(grR m).Ops.length=m.length∧∀ x o,z1s (grR m) x=some o↔∃ d∈m,rid d=x∧o=rop d:=z10y _ m rfl h
theorem z13h {l:List Rn} (h:(l.map rid).Nodup) {d e:Rn} (hd:d∈l) (he:e∈l) (hr:rid d=rid e):d=e:=by
 obtain ⟨i,hi,rfl⟩:=List.getElem_of_mem hd
 obtain ⟨j,hj,rfl⟩:=List.getElem_of_mem he
 have h1:(l.map rid)[i]'(by simpa using hi)=(l.map rid)[j]'(by simpa using hj):=by simpa using hr
 have:=(List.getElem_inj (h₀:=by simpa using hi) (h₁:=by simpa using hj) h).1 h1
 subst this; rfl
theorem zwn {ms:List (List Rn)} (h5:ms.length≤5) (hk:∀ m∈ms,Mk m) (hn:(ms.flatten.map rid).Nodup):Rps (ms.map grR)∧(z6q (ms.map grR)).Ops.length=ms.flatten.length:=by
 have R:Rps (ms.map grR):=⟨by simpa using h5, fun g hg=>by
  obtain ⟨m,hm,rfl⟩:=List.mem_map.1 hg
  exact (zcb (hk m hm)).1, fun g hg h hh x o q h1 h2=>by
  obtain ⟨m,hm,rfl⟩:=List.mem_map.1 hg
  obtain ⟨m',hm',rfl⟩:=List.mem_map.1 hh
  obtain ⟨d,d1,d2,d3⟩:=((zcb (hk m hm)).2.2 x o).1 h1
  obtain ⟨e,e1,e2,e3⟩:=((zcb (hk m' hm')).2.2 x q).1 h2
  have:=z13h hn (List.mem_flatten.2 ⟨m,hm,d1⟩) (List.mem_flatten.2 ⟨m',hm',e1⟩) (d2.trans e2.symm)
  rw [d3,e3,this]⟩
 refine ⟨R,?_⟩
 have F:=zcr R
 rw [← F.ids]
 have e:=zji (zcd F.ri) hn fun x=>?_
 ·
  rw [e,List.length_map]
 ·
  constructor
  ·
   intro hx
   obtain ⟨g,g1,g2⟩:=zsg R hx
   obtain ⟨m,hm,rfl⟩:=List.mem_map.1 g1
   obtain ⟨o,ho⟩:=z5w (R.rp _ g1).fit g2
   obtain ⟨d,d1,d2,-⟩:=((zcb (hk m hm)).2.2 x o).1 ho
   exact List.mem_map.2 ⟨d,List.mem_flatten.2 ⟨m,hm,d1⟩,d2⟩
  ·
   intro hx
   obtain ⟨d,d1,d2⟩:=List.mem_map.1 hx
   obtain ⟨m,hm,d3⟩:=List.mem_flatten.1 d1
   have:=((zcb (hk m hm)).2.2 x (rop d)).2 ⟨d,d3,d2,rfl⟩
   exact zus R (List.mem_map.2 ⟨m,hm,rfl⟩) (z6n this).1
theorem z15e {d:Rn} (h:chkR d=true):OkN (rop d):=⟨(zr3 h).2.1, by show ([]:List ID).length≤4; simp, by show ([]:List UInt8).length≤100; simp, by show ([]:List UInt8).length≤100; simp, by show inI 0; unfold inI; omega⟩
theorem z164 {d:Rn} (h:chkR d=true):oid (rop d)=rid d:=(zr3 h).2.2
theorem of_r {m:List Rn} (h:Mk m):znn (m.map rop)=some (grR m,0):=by
 obtain ⟨R,hl,hlk⟩:=zcb h
 refine z15p R.fit (zin R.good R.fit) (fun o=>?_) (by rw [List.length_map]; exact h.len) (fun o ho=>?_) ?_
 ·
  constructor
  ·
   intro ho
   obtain ⟨d,hd,rfl⟩:=List.mem_map.1 ho
   exact (z6n ((hlk (rid d) (rop d)).2 ⟨d,hd,rfl,rfl⟩)).2
  ·
   intro ho
   obtain ⟨i,hi,rfl⟩:=List.getElem_of_mem ho
   obtain ⟨d,hd,-,e⟩:=(hlk _ _).1 (z6o R.fit hi)
   rw [e]
   exact List.mem_map.2 ⟨d,hd,rfl⟩
 ·
  obtain ⟨d,hd,rfl⟩:=List.mem_map.1 ho
  exact z15e (h.chk d hd)
 ·
  rw [List.map_map]
  have e:m.map (oid ∘ rop)=m.map rid:=List.map_congr_left fun d hd=>z164 (h.chk d hd)
  rw [e]
  exact h.nd
end
section
open Go
def zdg (n:Int) (m:z07):Bool:=decide (0≤m.A∧m.A<n∧0≤m.B∧m.B<n∧m.A≠m.B)
def zci (f:Nat→Nat→Bool) (m:z07):Nat→Nat→Bool:=fun i k=>if (i:Int)=m.A∨(i:Int)=m.B then f m.A.toNat k || f m.B.toNat k else f i k
theorem z13r (n:Int) (m:z07):z95 n m=some (zdg n m):=by
 unfold z95 zdg
 split
 ·
  rename_i h
  simp only [decide_eq_true_eq] at h
  split
  ·
   rename_i h2
   simp only [decide_eq_true_eq] at h2
   congr 1
   rw [Bool.eq_iff_iff]; simp; omega
  ·
   rename_i h2
   simp only [decide_eq_true_eq] at h2
   congr 1
   rw [Bool.eq_iff_iff]; simp; omega
 ·
  rename_i h
  simp only [decide_eq_true_eq] at h
  congr 1
  rw [Bool.eq_iff_iff]; simp; omega
def hb (h:Vector UInt64 5) (i k:Nat):Bool:=(h[i]?.getD 0).toNat.testBit k
theorem zp4 {h:Vector UInt64 5} {i k:Nat} (hi:i<5):hb h i k=(h[i]).toNat.testBit k:=by simp [hb,hi]
theorem ztl (h:Vector UInt64 5) (m:z07) (n:Int) (hn:n≤5) (hg:zdg n m=true) (i k:Nat) (hi:i<5) :
  hb (zca (zca h m.A (h[m.A.toNat]'(by simp [zdg] at hg; omega) ||| h[m.B.toNat]'(by simp [zdg] at hg; omega))) m.B (h[m.A.toNat]'(by simp [zdg] at hg; omega) ||| h[m.B.toNat]'(by simp [zdg] at hg; omega))) i k=zci (hb h) m i k:=by
 simp [zdg] at hg
 rw [zp4 hi,zak hi,zak hi]
 unfold zci
 rw [zp4 (show m.A.toNat<5 by omega),zp4 (show m.B.toNat<5 by omega),zp4 hi]
 by_cases h1:m.B.toNat=i
 ·
  rw [if_pos h1,if_pos (by omega),UInt64.toNat_or,Nat.testBit_or]
 ·
  rw [if_neg h1]
  by_cases h2:m.A.toNat=i
  ·
   rw [if_pos h2,if_pos (by omega),UInt64.toNat_or,Nat.testBit_or]
  ·
   rw [if_neg h2,if_neg (by omega)]
theorem zsr (n:Int) (hn:n≤5) (K:Nat→Prop):∀ (l:List z07) (f g:Nat→Nat→Bool),(∀ m∈l,zdg n m=true)→(∀ i k,i<5→K k→f i k=g i k)→∀ i k,i<5→K k→l.foldl zci f i k=l.foldl zci g i k:=by
 intro l
 induction l with
 | nil=>intro f g _ hfg i k hi hk; exact hfg i k hi hk
 | cons m l ih2 =>
  intro f g hgo hfg i k hi hk
  simp only [List.foldl_cons]
  refine ih2 _ _ (fun m hm=>hgo m (by simp [hm])) (fun i k hi hk=>?_) i k hi hk
  have:=hgo m (by simp)
  simp [zdg] at this
  unfold zci
  rw [hfg m.A.toNat k (by omega) hk,hfg m.B.toNat k (by omega) hk,hfg i k hi hk]
theorem zhb (n:Int) (hn:n≤5) (ms:List z07) (hl:ms.length≤1000):∀ (rest pre:List z07) (h:Vector UInt64 5),ms=pre++rest →
  (rest.all (zdg n)=true→∃ h',iter (z5s n ms) (h,(pre.length:Int))=some (.inr h')∧∀ i k,i<5→hb h' i k=rest.foldl zci (hb h) i k) ∧
  (rest.all (zdg n)=false→iter (z5s n ms) (h,(pre.length:Int))=some (.inl ([],2)))
 | [],pre,h,e=>by
  refine ⟨fun _=>⟨h,z0t ?_, fun _ _ _=>rfl⟩, fun hh=>by simp at hh⟩
  subst e
  unfold z5s
  simp
 | m::rest,pre,h,e=>by
  have hlen:pre.length<ms.length:=by rw [e]; simp
  have hget:ms[pre.length]'hlen=m:=by subst e; simp
  have hF:z5s n ms (h,(pre.length:Int))=if !zdg n m then some (.inl (.inl ([],2))) else
    z4w h m.A >>= fun x21=>z4w h m.B >>= fun x23=>z4w h m.A >>= fun x25=>z4w (zca h m.A (x21 ||| x23)) m.B >>= fun x27=>some (.inr (zca (zca h m.A (x21 ||| x23)) m.B (x21 ||| x23),w64 ((pre.length:Int)+1))):=by
   unfold z5s
   rw [if_pos (by simp <;> omega)]
   simp only [z0c hlen,hget,bs,z13r]
  cases hg:zdg n m with
  | false =>
   refine ⟨fun hh=>by simp [hg] at hh, fun _=>z0t ?_⟩
   rw [hF,hg]; rfl
  | true =>
   have hg':=hg
   simp [zdg] at hg'
   have hA:m.A.toNat<5:=by omega
   have hB:m.B.toNat<5:=by omega
   rw [hg] at hF
   simp only [Bool.not_true,Bool.false_eq_true,if_false,zqz (show 0≤m.A by omega) hA,zqz (show 0≤m.B by omega) hB,bs,z0h (show pre.length<9223372036854775807 by omega)] at hF
   rw [z19 hF]
   have ih:=zhb n hn ms hl rest (pre++[m]) (zca (zca h m.A (h[m.A.toNat] ||| h[m.B.toNat])) m.B (h[m.A.toNat] ||| h[m.B.toNat])) (by simp [e])
   simp only [List.length_append,List.length_cons,List.length_nil,Nat.zero_add] at ih
   refine ⟨fun hh=>?_, fun hh=>ih.2 (by simpa [hg] using hh)⟩
   obtain ⟨h',k1,k2⟩:=ih.1 (by simpa [hg] using hh)
   refine ⟨h',k1, fun i k hi=>?_⟩
   rw [k2 i k hi,List.foldl_cons]
   exact zsr n hn (fun _=>True) rest _ _ (fun m hm=>by simp [hg] at hh; exact hh m hm) (fun i k hi _=>ztl h m n hn hg i k hi) i k hi trivial
theorem znq:∃ h,iter z8h (Vector.replicate 5 0,0)=some h∧∀ i k,i<5→k<5→hb h i k=decide (i=k):=by
 refine zc3 5 (fun i s=>s.2=(i:Int)∧∀ j k,j<i→k<5→hb s.1 j k=decide (j=k)) (fun h=>∀ i k,i<5→k<5→hb h i k=decide (i=k)) (fun i s hi hs=>?_) (fun s hs=>?_) _ 0 (by omega) ⟨rfl, fun j k hj=>by omega⟩
 ·
  obtain ⟨h,x⟩:=s
  obtain ⟨rfl,h2⟩:=hs
  simp only at h2
  refine ⟨(zca h (i:Int) (zjt 1 i),((i+1:Nat):Int)),?_,rfl, fun j k hj hk=>?_⟩
  ·
   unfold z8h
   rw [if_pos (by simp <;> omega)]
   simp only [z35 (show (0:Int)≤(i:Int) by omega),bs,z5a hi,Int.toNat_natCast,z0h (show i<9223372036854775807 by omega)]
  ·
   simp only
   rw [zp4 (by omega),zak (by omega)]
   simp only [Int.toNat_natCast]
   by_cases hij:i=j
   ·
    subst hij
    rw [if_pos rfl,zft]
    have:∀ i k:Fin 5,((1:UInt64).toNat * 2 ^ min i.val 64 % 18446744073709551616).testBit k.val=decide (i.val=k.val):=by decide
    exact this ⟨i,hi⟩ ⟨k,hk⟩
   ·
    rw [if_neg hij,← zp4 (show j<5 by omega)]; exact h2 j k (by omega) hk
 ·
  obtain ⟨h,x⟩:=s
  obtain ⟨rfl,h2⟩:=hs
  exact ⟨h, by unfold z8h; rw [if_neg (by simp)], fun i k hi hk=>h2 i k hi hk⟩
def z82 (f:Nat→Bool) (n:Nat):List Int:=((List.range n).filter f).map fun k:Nat=>(k:Int)
theorem zq3 (f:Nat→Bool) (n:Nat):z82 f (n+1)=if f n then z82 f n++[(n:Int)] else z82 f n:=by
 unfold z82
 rw [List.range_succ,List.filter_append,List.map_append]
 cases h:f n <;> simp [h]
theorem zsb (f:Nat→Bool) (n:Nat):(z82 f n).length≤n:=by
 unfold z82
 rw [List.length_map]
 exact Nat.le_trans (List.length_filter_le _ _) (by simp)
theorem zn9 {f g:Nat→Bool} {n:Nat} (h:∀ k,k<n→f k=g k):z82 f n=z82 g n:=by
 unfold z82
 congr 1
 exact List.filter_congr (fun k hk=>h k (by simpa using hk))
theorem zyv (n:Nat) (hn:n≤5) (h:Vector UInt64 5) (s:List (List Int)) (i:Nat) (hi:i<n):iter (z8g (n:Int) h (s,(i:Int))) ([],0)=some (z82 (hb h i) n):=by
 refine z1q n (fun k=>(z82 (hb h i) k,(k:Int))) (fun k hk=>?_) ?_
 ·
  unfold z8g
  rw [if_pos (by simp <;> omega)]
  simp only [z5a (show i<5 by omega),bs,z35 (show (0:Int)≤(k:Int) by omega),Int.toNat_natCast,z14i _ k (by omega),← zp4 (show i<5 by omega)]
  rw [zq3]
  have hl:=zsb (hb h i) k
  cases hb h i k with
  | true=>simp only [if_true,z1p (show ((z82 (hb h i) k).length+[(k:Int)].length) * 8≤140737488355328 by simp; omega),bs,z0h (show k<9223372036854775807 by omega)]
  | false=>simp only [Bool.false_eq_true,if_false,z0h (show k<9223372036854775807 by omega)]
 ·
  unfold z8g
  rw [if_neg (by simp)]
theorem zu7 (n:Nat) (hn:n≤5) (h:Vector UInt64 5):iter (z88 (n:Int) h) ([],0)=some ((List.range n).map fun i=>z82 (hb h i) n):=by
 refine z1q n (fun k=>((List.range k).map fun i=>z82 (hb h i) n,(k:Int))) (fun k hk=>?_) ?_
 ·
  unfold z88
  rw [if_pos (by simp <;> omega)]
  rw [zyv n hn h _ k hk]
  simp only [bs]
  rw [z1p (by simp <;> omega)]
  simp only [bs,z0h (show k<9223372036854775807 by omega),List.range_succ,List.map_append,List.map_cons,List.map_nil]
 ·
  unfold z88
  rw [if_neg (by simp)]
theorem zxp {n:Nat} {m:z07}:zdg (n:Int) m=true↔Two n m:=by
 unfold zdg Two
 rw [decide_eq_true_iff]
 omega
def zvc (ws:List Nat) (i k:Nat):Bool:=(ws[i]?.getD 0).testBit k
theorem zxd {n:Nat} {ws:List Nat} (hl:ws.length=n) {m:z07} (h2:Two n m) {f:Nat→Nat→Bool} (hf:∀ i k,i<n→k<5→zvc ws i k=f i k):(zsf ws m).length=n∧∀ i k,i<n→k<5→zvc (zsf ws m) i k=zci f m i k:=by
 refine ⟨by unfold zsf; simp [hl], fun i k hi hk=>?_⟩
 obtain ⟨⟨a1,a2⟩,⟨b1,b2⟩,h3⟩:=h2
 have ha:m.A.toNat<n:=by omega
 have hb:m.B.toNat<n:=by omega
 have fa:=hf _ k ha hk
 have fb:=hf _ k hb hk
 have fi:=hf i k hi hk
 unfold zvc at fa fb fi ⊢
 unfold zsf zci
 have ei:∀ w:List Nat,w.length=n→w[i]?.getD 0=(w[i]?.getD 0):=fun _ _=>rfl
 rw [List.getElem?_set,List.getElem?_set]
 simp only [List.length_set,hl]
 by_cases e1:m.B.toNat=i
 ·
  rw [if_pos e1,if_pos (by omega),if_pos (by omega)]
  show (_ ||| _:Nat).testBit k=_
  rw [Nat.testBit_or,fa,fb]
 ·
  rw [if_neg e1]
  by_cases e2:m.A.toNat=i
  ·
   rw [if_pos e2,if_pos (by omega),if_pos (by omega)]
   show (_ ||| _:Nat).testBit k=_
   rw [Nat.testBit_or,fa,fb]
  ·
   rw [if_neg e2,if_neg (by omega)]
   exact fi
theorem zrt {n:Nat}:∀ (ms:List z07) (ws:List Nat) (f:Nat→Nat→Bool),ws.length=n→(∀ m∈ms,Two n m)→(∀ i k,i<n→k<5→zvc ws i k=f i k)→∀ i k,i<n→k<5→zvc (zpb ws ms) i k=ms.foldl zci f i k
 | [],ws,f,hl,h2,hf,i,k,hi,hk=>hf i k hi hk
 | m::ms,ws,f,hl,h2,hf,i,k,hi,hk=>by
  obtain ⟨h3,h4⟩:=zxd hl (h2 m (by simp)) hf
  show zvc (zpb (zsf ws m) ms) i k=ms.foldl zci (zci f m) i k
  exact zrt ms (zsf ws m) (zci f m) h3 (fun m' hm'=>h2 m' (by simp [hm'])) h4 i k hi hk
theorem zk3 {n:Nat}:∀ (ms:List z07) (f g:Nat→Nat→Bool),(∀ m∈ms,Two n m)→(∀ i k,i<n→k<5→f i k=g i k)→∀ i k,i<n→k<5→ms.foldl zci f i k=ms.foldl zci g i k
 | [],f,g,h2,hf,i,k,hi,hk=>hf i k hi hk
 | m::ms,f,g,h2,hf,i,k,hi,hk=>by
  refine zk3 ms (zci f m) (zci g m) (fun m' hm'=>h2 m' (by simp [hm'])) (fun i k hi hk=>?_) i k hi hk
  obtain ⟨⟨a1,a2⟩,⟨b1,b2⟩,h3⟩:=h2 m (by simp)
  unfold zci
  rw [hf m.A.toNat k (by omega) hk,hf m.B.toNat k (by omega) hk,hf i k hi hk]
theorem zj4 (n:Nat) (hn:n≤5) (ms:List z07) (hl:ms.length≤100) (h2:∀ m∈ms,Two n m):z13 (n:Int) ms=some ((List.range n).map fun i=>z82 (zvc (zpb (ws0 n) ms) i) n,0):=by
 obtain ⟨h,i1,i2⟩:=znq
 have p:=zhb (n:Int) (by omega) ms (by omega) ms [] h rfl
 simp only [List.length_nil] at p
 have hg:ms.all (zdg (n:Int))=true:=by
  rw [List.all_eq_true]; intro m hm; exact zxp.2 (h2 m hm)
 obtain ⟨h',q1,q2⟩:=p.1 hg
 rw [show ((0:Nat):Int)=0 from rfl] at q1
 have e1:z13 (n:Int) ms=some ((List.range n).map fun i=>z82 (hb h' i) n,0):=by
  unfold z13
  rw [if_neg (by simp),if_neg (by simp <;> omega),if_neg (by simp <;> omega),i1]
  simp only [bS]
  rw [q1]
  simp only [zp6]
  rw [zu7 n hn h']; rfl
 rw [e1]
 have e3:((List.range n).map fun i=>z82 (hb h' i) n)=(List.range n).map fun i=>z82 (zvc (zpb (ws0 n) ms) i) n:=by
  refine List.map_congr_left fun i hi=>?_
  have hi:i<n:=by simpa using hi
  refine zn9 fun c hc=>?_
  rw [q2 i c (by omega),zrt ms (ws0 n) (fun i k=>decide (i=k)) (by simp [ws0]) h2 (fun i k hi hk=>by
   unfold zvc ws0
   rw [List.getElem?_map,List.getElem?_range hi]
   simp [Nat.testBit_two_pow]) i c hi (by omega)]
  exact zk3 ms _ _ h2 (fun i k hi hk=>i2 i k (by omega) hk) i c hi (by omega)
 rw [e3]
end
section
open Go
variable {g a b:z00} {n:Nat} {l k:List z00} {m:z07} {x:ID} {o:z04}
theorem zzq (R:Rps l) (ms:List z07) (hl:ms.length≤100) (h:z8y l ms=.inr k):z34 l ms=some (k,0):=by
 have p:=zlt ms (by omega) ms [] l rfl R
 rw [h] at p
 have p:iter (z6a ms) (l,0)=some (.inr k):=p
 unfold z34
 rw [R.chk.1]
 simp only [bS]
 rw [if_neg (by simp),if_neg (by simp; omega),zeq l (by have:=R.len; omega) R.f900]
 simp only [bS]
 rw [p]
 rfl
theorem stay {n:Nat}:∀ (ms:List z07) (f:Nat→Nat→Bool) (i c:Nat),(∀ m∈ms,Two n m)→f i c=true→ms.foldl zci f i c=true
 | [],f,i,c,_,h=>h
 | m::ms,f,i,c,h2,h=>by
  refine stay ms (zci f m) i c (fun m' hm'=>h2 m' (by simp [hm'])) ?_
  obtain ⟨⟨a1,a2⟩,⟨b1,b2⟩,h3⟩:=h2 m (by simp)
  unfold zci
  split
  ·
   rename_i e
   rcases e with e | e
   ·
    have:m.A.toNat=i:=by omega
    rw [this,h]; rfl
   ·
    have:m.B.toNat=i:=by omega
    rw [this,h]; simp
  ·
   exact h
end
section
open Go
variable {g:z00} {l k:List z00} {x:ID} {o:z04}
theorem zpq (R:Rps l) (ms:List z07) (hl:ms.length≤100):z34 l ms=some (z12j (z8y l ms)):=by
 have p:=zlt ms (by omega) ms [] l rfl R
 have p:iter (z6a ms) (l,0)=some (match z8y l ms with | .inl e=>.inl ([],e) | .inr k=>.inr k):=p
 unfold z34
 rw [R.chk.1]
 simp only [bS]
 rw [if_neg (by simp),if_neg (by simp; omega),zeq l (by have:=R.len; omega) R.f900]
 simp only [bS]
 rw [p]
 cases z8y l ms with
 | inl e=>rfl
 | inr k=>rfl
theorem zxy (R:Rps l) (N:Nat) (hN:N≤5):z15 l (N:Int)=some (z12j (zgt N l)):=by
 unfold z15
 rw [R.chk.1]
 simp only [bS]
 have d1:¬ (decide ((N:Int)<0)=true):=by simp
 have d2:¬ (decide (5<(N:Int))=true):=by simp; omega
 rw [if_neg (by simp),if_neg d1,if_neg d2,zeq l (by have:=R.len; omega) R.f900]
 simp only [bS]
 rw [show (0:Int)=((0:Nat):Int) from rfl,ziy N hN N 0 l rfl (Nat.zero_le _) R]
 cases zgt N l with
 | inl e=>rfl
 | inr k=>rfl
def sg (ds:List Rn):List z00:=ds.map fun d=>grR [d]
theorem zjx (ds:List Rn):(sg ds).length=ds.length:=by unfold sg; rw [List.length_map]
theorem zhp {ds:List Rn} (h:Mk ds) {d:Rn} (hd:d∈ds):Mk [d]:=⟨fun e he=>by rw [List.mem_singleton] at he; rw [he]; exact h.chk d hd, by simp, by simp⟩
theorem zrq (ds:List Rn):(ds.map fun d=>[d]).flatten=ds:=by
 induction ds with
 | nil=>rfl
 | cons d t ih=>rw [List.map_cons,List.flatten_cons,ih]; rfl
theorem zhr {ds:List Rn} (h:Mk ds) (h5:ds.length≤5):Rps (sg ds)∧(z6q (sg ds)).Ops.length=ds.length:=by
 have:=zwn (ms:=ds.map fun d=>[d]) (by rw [List.length_map]; exact h5) (fun m hm=>by
  obtain ⟨d,hd,rfl⟩:=List.mem_map.1 hm
  exact zhp h hd) (by rw [zrq]; exact h.nd)
 rw [List.map_map,zrq] at this
 exact this
theorem z10m {ds:List Rn} (h:Mk ds) (i:Nat) (hi:i<(sg ds).length) (hi2:i<(ds.map rid).length):∃ o,∀ x q,z1s (sg ds)[i] x=some q↔x=(ds.map rid)[i]∧q=o:=by
 have hd:i<ds.length:=by rw [zjx] at hi; exact hi
 have e:(sg ds)[i]=grR [ds[i]]:=by simp [sg]
 obtain ⟨-,-,hlk⟩:=zcb (zhp h (List.getElem_mem hd))
 refine ⟨rop ds[i], fun x q=>?_⟩
 rw [e,hlk,List.getElem_map]
 constructor
 ·
  rintro ⟨d,h1,h2,h3⟩
  rw [List.mem_singleton] at h1
  subst h1
  exact ⟨h2.symm,h3⟩
 ·
  rintro ⟨rfl,rfl⟩
  exact ⟨ds[i], by simp,rfl,rfl⟩
def pop (w n:Nat):Nat:=((List.range n).filter fun c=>w.testBit c).length
theorem ztq {ds:List Rn} (h:Mk ds) (h5:ds.length≤5) (ms:List z07) (h2:∀ m∈ms,Two ds.length m):∃ e,z8y (sg ds) ms=.inr e∧Rps e∧e.length=ds.length∧z6q e=z6q (sg ds)∧∀ i (hi:i<e.length),e[i].IDs.length=pop ((zpb (ws0 ds.length) ms)[i]?.getD 0) ds.length:=by
 obtain ⟨R,hw⟩:=zhr h h5
 obtain ⟨e,p1,p2,p3,p4,p5⟩:=zos ms (sg ds) R (by omega) fun m hm=>by rw [zjx]; exact h2 m hm
 have H:=zlr R p1 (has0 (sg ds))
 rw [zjx] at H p3
 refine ⟨e,p1,p2,p3,zf1 R p2 p4, fun i hi=>?_⟩
 have hiw:i<(zpb (ws0 ds.length) ms).length:=by rw [H.1]; exact hi
 have:=z112 (ds.map rid) h.nd (l0:=sg ds) (by rw [zjx,List.length_map]) (fun i hi hi2=>z10m h i hi hi2) (p2.rp _ (List.getElem_mem hi)).fit (H.2 i hiw hi)
 rw [this,List.getElem?_eq_getElem hiw,List.length_map]
 rfl
theorem zw3 {ds es:List Rn} (h:Mk ds) (hs:List.Sublist es ds):Mk es:=⟨fun d hd=>h.chk d (hs.subset hd),List.Nodup.sublist (hs.map _) h.nd,Nat.le_trans hs.length_le h.len⟩
theorem zx0:Mk aR:=by
 refine ⟨fun d hd=>List.all_eq_true.1 z145 d hd,?_, by decide⟩
 have e:(fun d:Rn=>zt1 d.h3)=fun d=>(zi6 (rid d) 8).toNat:=funext fun d=>(zmd d.h3).symm
 have h:=z15u
 rw [e] at h
 exact z103 (f:=rid) (k:=fun i=>(zi6 i 8).toNat) h
theorem zql {l:List z00} {i j:Nat} (hi:i<l.length) (hj:j<l.length) (h:l[i].IDs≠l[j].IDs):¬ z68 l:=fun a=>h (a _ (List.getElem_mem hi) _ (List.getElem_mem hj))
theorem z157 {ds:List Rn} (h:Mk ds) {i j:Nat} (hi:i<ds.length) (hj:j<ds.length) (hij:i≠j) (hi':i<(sg ds).length) (hj':j<(sg ds).length):(sg ds)[i].IDs≠(sg ds)[j].IDs:=fun e=>by
 obtain ⟨o,ho⟩:=z10m h i hi' (by rw [List.length_map]; exact hi)
 obtain ⟨q,hq⟩:=z10m h j hj' (by rw [List.length_map]; exact hj)
 have h1:=(ho _ _).2 ⟨rfl,rfl⟩
 have h2:=(z6n h1).1
 rw [e] at h2
 have F:=((zhr (ds:=[ds[j]]) (zhp h (List.getElem_mem hj)) (by simp)).1.rp (grR [ds[j]]) (by simp [sg])).fit
 have e2:(sg ds)[j]=grR [ds[j]]:=by simp [sg]
 rw [e2] at h2 hq
 obtain ⟨r,hr⟩:=z5w F h2
 have:=((hq _ _).1 hr).1
 exact hij ((List.getElem_inj h.nd).1 this)
end
section
open Go
variable {g:z00} {l k:List z00}
theorem zgg (L:List (List Int)) (hl:L.length≤100) (h:∀ s∈L,s.length≤100):z4k L L=some true:=by
 have main:=z1q (F:=z3h L L) (b:=(.inr ():Sum Bool Unit)) L.length (fun i=>(i:Int)) (fun i hi=>?_) ?_
 ·
  have main:iter (z3h L L) 0=some (.inr ()):=main
  unfold z4k
  rw [if_neg (by simp),main]
  rfl
 ·
  have hs:=h _ (List.getElem_mem hi)
  have inner:iter (z3j L L (i:Int)) 0=some (.inr ()):=by
   refine z1q (F:=z3j L L (i:Int)) L[i].length (fun c=>(c:Int)) (fun c hc=>?_) ?_
   ·
    unfold z3j
    simp only [z0c hi,bS]
    rw [if_pos (by simpa using hc)]
    simp only [z0c hc,bS]
    rw [if_neg (by simp),z0h (by omega)]
   ·
    unfold z3j
    simp only [z0c hi,bS]
    rw [if_neg (by simp)]
  unfold z3h
  rw [if_pos (by simpa using hi)]
  simp only [z0c hi,bS]
  rw [if_neg (by simp),inner,z0h (by omega)]
  rfl
 ·
  unfold z3h
  rw [if_neg (by simp)]
theorem zu3 (e:List z00) (w:List Nat) (hl:e.length≤100) (h1:e.length=w.length) (h:∀ i (hi:i<e.length) (h2:i<w.length),e[i].IDs.length=w[i]):z1f e (w.map fun n:Nat=>(n:Int))=some true:=by
 have main:=z1q (F:=z59 e (w.map fun n:Nat=>(n:Int))) (b:=(.inr ():Sum Bool Unit)) e.length (fun i=>(i:Int)) (fun i hi=>?_) ?_
 ·
  have main:iter (z59 e (w.map fun n:Nat=>(n:Int))) 0=some (.inr ()):=main
  unfold z1f
  rw [if_neg (by simp [h1]),main]
  rfl
 ·
  have hw:i<w.length:=by omega
  have hwm:i<(w.map fun n:Nat=>(n:Int)).length:=by rw [List.length_map]; exact hw
  unfold z59
  rw [if_pos (by simpa using hi)]
  simp only [z0c hi,z0c hwm,bS]
  rw [List.getElem_map,h i hi hw,if_neg (by simp),z0h (by omega)]
 ·
  unfold z59
  rw [if_neg (by simp)]
theorem zku {ds:List Rn} (h:Mk ds):z1o (ds.map fun d=>UInt64.ofNat d.n)=some (grR ds,true):=by
 have hl:=h.len
 have main:=z1q (F:=z5v (ds.map fun d=>UInt64.ofNat d.n)) (b:=(.inr (ds.map rop):Sum (z00 × Bool) (List z04))) ds.length (fun i=>((ds.take i).map rop,(i:Int))) (fun i hi=>?_) ?_
 ·
  have main:iter (z5v (ds.map fun d=>UInt64.ofNat d.n)) ([],0)=some (.inr (ds.map rop)):=main
  obtain ⟨R,h1,-⟩:=zcb h
  unfold z1o
  rw [main]
  simp only [zp6]
  rw [of_r h]
  simp only [bS]
  rw [if_pos (by simp),R.fit.ids,h1,List.length_map]
  simp
 ·
  have hm:i<(ds.map fun d=>UInt64.ofNat d.n).length:=by rw [List.length_map]; exact hi
  unfold z5v
  rw [if_pos (by simpa using hi)]
  simp only [z0c hm,bS]
  rw [List.getElem_map,(zr3 (h.chk _ (List.getElem_mem hi))).1]
  simp only [bS]
  rw [if_neg (by simp),z1p (by simp; omega),z0h (by omega)]
  simp only [bS]
  rw [List.take_add_one,List.getElem?_eq_getElem hi,List.map_append]
  rfl
 ·
  unfold z5v
  rw [if_neg (by simp),List.take_length]
def e1:Rn:=aR[0]'(by decide)
def e2:Rn:=aR[1]'(by decide)
def e3:Rn:=aR[2]'(by decide)
def e4:Rn:=aR[3]'(by decide)
theorem zw1:aR=[e1,e2,e3,e4]:=rfl
theorem zyc:Mk [e1,e2,e3]:=zw3 zx0 (by rw [zw1]; exact List.sublist_append_left [e1,e2,e3] [e4])
theorem one1:z1o [1]=some (grR [e1],true):=by
 have h:=zku (zhp zx0 (d:=e1) (by rw [zw1]; simp))
 exact h
theorem one2:z1o [2]=some (grR [e2],true):=by
 have h:=zku (zhp zx0 (d:=e2) (by rw [zw1]; simp))
 exact h
theorem one3:z1o [3]=some (grR [e3],true):=by
 have h:=zku (zhp zx0 (d:=e3) (by rw [zw1]; simp))
 exact h
theorem one4:z1o [4]=some (grR [e4],true):=by
 have h:=zku (zhp zx0 (d:=e4) (by rw [zw1]; simp))
 exact h
theorem zrf:z6d=some (sg [e1,e2,e3],true):=by
 unfold z6d
 rw [one1,one2,one3]
 rfl
theorem zjj {ds:List Rn} (h:Mk ds) (h5:ds.length≤5) (ms:List z07) (h2:∀ m∈ms,Two ds.length m) (w:List Nat) (hw:w.length=ds.length) (hp:∀ i,i<w.length→w[i]?.getD 0=pop ((zpb (ws0 ds.length) ms)[i]?.getD 0) ds.length):∃ e,z8y (sg ds) ms=.inr e∧Rps e∧e.length=ds.length∧z1f e (w.map fun n:Nat=>(n:Int))=some true∧∀ i (hi:i<e.length),e[i].IDs.length=pop ((zpb (ws0 ds.length) ms)[i]?.getD 0) ds.length:=by
 obtain ⟨e,p1,p2,p3,-,p5⟩:=ztq h h5 ms h2
 refine ⟨e,p1,p2,p3,zu3 e w (by omega) (by omega) fun i hi hi2=>?_,p5⟩
 have:=hp i hi2
 rw [List.getElem?_eq_getElem hi2] at this
 rw [p5 i hi]
 exact this.symm
theorem zmv:z7w=some true:=by
 have R3:=(zhr zyc (by decide)).1
 have R4:=(zhr zx0 (by decide)).1
 obtain ⟨a,a1,a2,a3,a4,-⟩:=zjj zyc (by decide) [⟨0,1⟩,⟨1,2⟩] (by decide) [2,3,3] rfl (by decide)
 have a4:z1f a [2,3,3]=some true:=a4
 have hr:=zzq R3 [⟨0,1⟩,⟨1,2⟩] (by decide) a1
 have hh:=zj4 3 (by omega) [⟨0,1⟩,⟨1,2⟩] (by decide) (by decide)
 have hv:((List.range 3).map fun i=>z82 (zvc (zpb (ws0 3) [⟨0,1⟩,⟨1,2⟩]) i) 3)=[[0,1],[0,1,2],[0,1,2]]:=by decide
 rw [hv] at hh
 have hh:z13 3 [⟨0,1⟩,⟨1,2⟩]=some ([[0,1],[0,1,2],[0,1,2]],0):=hh
 obtain ⟨b,b1,b2,b3,b4,-⟩:=zjj zyc (by decide) (z56 3) (ze5 3) [3,3,3] rfl (by decide)
 have b4:z1f b [3,3,3]=some true:=b4
 have hb:zgt 1 (sg [e1,e2,e3])=.inr b:=by
  have b1:z8y (sg [e1,e2,e3]) (z56 (sg [e1,e2,e3]).length)=.inr b:=b1
  simp only [zgt]
  rw [b1]
 have rb:=zh3 R3 1 (by omega) hb
 obtain ⟨c,c1,c2,c3,c4,c5⟩:=zjj zx0 (by decide) (z56 4) (ze5 4) [4,3,4,4] rfl (by decide)
 have c4:z1f c [4,3,4,4]=some true:=c4
 have c1:z8y (sg aR) (z56 (sg aR).length)=.inr c:=c1
 have hc:zgt 1 (sg aR)=.inr c:=by
  simp only [zgt]
  rw [c1]
 have rc:=zh3 R4 1 (by omega) hc
 obtain ⟨d,d1,-,-,-⟩:=zud c2 (by
  obtain ⟨e,p1,p2,p3,p4,-⟩:=ztq zx0 (by decide) (z56 4) (ze5 4)
  have:z8y (sg aR) (z56 4)=.inr c:=c1
  rw [this] at p1
  injection p1 with p1
  subst p1
  rw [p4,(zhr zx0 (by decide)).2]; decide)
 have n0:¬ z68 (sg aR):=zql (i:=0) (j:=1) (by rw [zjx]; decide) (by rw [zjx]; decide) (z157 zx0 (i:=0) (j:=1) (by decide) (by decide) (by decide) _ _)
 have hc4:c.length=4:=c3
 have n1:¬ z68 c:=zql (i:=0) (j:=1) (by omega) (by omega) fun e=>by
  have h1:=c5 0 (by omega)
  have h2:=c5 1 (by omega)
  have e:=congrArg List.length e
  rw [h1,h2] at e
  exact absurd e (by decide)
 have rr:=zis R4 c1 d1
 rw [if_neg n0,if_neg n1] at rr
 have ap:app 48 (sg [e1,e2,e3]) [grR [e4]]=some (sg aR):=by
  rw [z1p (by simp [zjx])]
  rfl
 unfold z7w
 rw [zrf]
 simp only [bS]
 rw [hr,hh]
 simp only [bS]
 have rb:z15 (sg [e1,e2,e3]) 1=some (b,0):=rb
 have rc:z15 (sg aR) 1=some (c,0):=rc
 rw [rb,one4]
 simp only [bS]
 rw [ap]
 simp only [bS]
 rw [rc,rr]
 simp only [bS,if_true]
 rw [if_pos (by simp),a4]
 simp only [bS,if_true]
 rw [if_pos (by simp),zgg _ (by decide) (by decide)]
 simp only [bS,if_true]
 rw [if_pos (by simp),b4]
 simp only [bS,if_true]
 rw [if_pos (by simp),c4]
 rfl
end
section
open Go
set_option maxRecDepth 100000
def sR:List Rn:=[⟨202061843,895319347,375582489,77644329,0,(753358683,1502034250,3888361607,299573410,2753891800,2768924044,2347262215,1658860013),(3006704963,2051888895,772968531,3276617776,2404070813,1693202580,3451563284,2663520210),(562727161,1996990126,1822175405,2728318716,3031496430,3845315747,4039040572,112675031)⟩,
 ⟨211812135,336507345,376595462,88407594,1,(2261053786,2189437592,4250918557,511523450,927901408,2963204800,2466531220,3899628144),(4019536063,3281654824,3625032540,4045568769,2227745962,611298954,3347657813,1104596500),(1919042353,828965479,1946608802,2505164812,2592784033,1338713724,3633848372,3287155588)⟩,
 ⟨358141107,766039016,327709993,185851097,2,(747012434,1456358490,804610950,3693570951,2875422860,3487542053,434037898,952248037),(1866423202,3339467609,1822276220,3907566745,775869880,1527806595,2960668387,2899060751),(4203766807,2736023952,3435975126,3671172674,2694753518,3314665560,2527735095,2178541500)⟩,
 ⟨272350590,731616906,338697416,111048003,3,(2598521592,2324756209,1695480440,1045412123,1438825143,893120094,25727252,1801710823),(1918518857,3704250953,1213372559,563364864,2017639625,1872875242,1085739781,2863714442),(3702777760,917978259,1732861715,3622360910,534335015,2523587567,2471658336,1050998860)⟩,
 ⟨92784532,315489071,443367772,36152301,4,(801739318,639216953,2556629487,766398082,982515904,2227065922,807358220,2087033706),(3200411511,430399662,1048160394,3188668935,3331273994,2332516309,55390374,1964379912),(1432659025,4191672744,3315087781,992294743,976117740,369273346,2454284631,964643387)⟩,
 ⟨350299200,783531929,38050843,388350043,5,(1589748676,3382673295,4231806413,346231625,2137087276,1969512828,3560863514,1134804543),(2806284083,1085091006,462717516,2080309260,90273563,966389631,304528716,3856850672),(3556359373,1248763328,1713706346,2441384333,3162127279,1011528392,615623636,2093977936)⟩,
 ⟨21668165,252278069,400717774,422385939,6,(2869622989,4216647798,2798024737,1072932045,1310778564,3980207837,2473745486,3141872726),(1725123280,4188555065,3871575002,2028320492,2035149659,749226750,851949067,2246148419),(2616478888,2707461125,842043252,1917829409,630361599,3329776847,4049212702,2612372668)⟩,
 ⟨225643968,751735641,423779495,149423460,7,(2708909052,3585983547,1906746529,2624314967,3824432713,3770550079,706690106,1928228186),(816844431,908971498,3860744838,19562647,4058038146,3296470171,1032181248,2128033133),(1052800310,867366525,2255114905,818484499,3544086996,3745395121,97171313,2109191185)⟩,
 ⟨173572840,330715046,148160584,321733424,8,(3855410234,2215308789,62357882,972640652,3631304700,3359438695,2268491422,1306901665),(2322921397,3215756319,46284370,1093237824,1946740911,363184120,2183215655,2509997029),(3059512684,3352479043,2182872639,154652429,1336921385,1380640833,3296436921,1914547932)⟩,
 ⟨181769372,971538908,91705837,273475209,9,(3278045193,1253148617,1665145727,2298576771,1413410876,3827760915,4010526735,3307515249),(3114444933,422428984,3271721995,3117506844,18085278,4164082479,403787181,2513567173),(1245836212,2288318864,2034860037,2112206782,3274753656,3716180475,2353894346,2647037756)⟩,
 ⟨105426917,102565960,231039388,336466305,10,(3580039066,1237643966,942472641,4091440319,3906346842,1510876726,634271400,31107287),(330604268,4272627147,135749511,3942929571,2021399883,3464987080,3935678350,3951452586),(1049695942,3345946713,1404175747,1848248401,2340815975,1349517509,3652249760,4128395383)⟩,
 ⟨42658460,621832815,8245005,50903465,11,(831838880,2192273071,754988246,4162580959,1599793463,1901897457,2158079061,3383402445),(2569845062,655555242,3619566301,2921508637,3381057269,3582239209,3845906382,3126476072),(1766044827,2346623764,832879158,804529510,1789616377,3767614406,2772186780,4264903624)⟩,
 ⟨244266538,890186535,215320010,459586548,12,(1802205278,3017329055,4284578679,1404949918,1050151538,1428815252,2449797467,3812486950),(4100214689,543236409,1290286549,916776014,3330046907,1205083514,1200306154,4171912995),(1974713014,2791387360,362411569,1443465407,138878233,327684476,1782890003,1690260312)⟩,
 ⟨13711744,821570180,463942785,477654529,13,(3680732883,3951426569,1730560774,3681798058,1461475957,1931927114,3620934146,3763588547),(1614538548,1778957906,510902423,3301912445,3028334055,2140529581,1579691475,2049738642),(2510711906,3033772086,2179959280,3783209727,4066701040,2141641221,1983638853,4252896814)⟩,
 ⟨173985518,555322241,359305747,33291262,14,(30188728,724784427,1631385943,1304247713,3415292003,2385791061,3766217637,3410592043),(400784390,1390131338,3146882572,1061585505,1100783070,45423425,2282144469,821600330),(937986693,1296662382,1838365819,2371778322,3339034915,3877199386,314998546,1761125250)⟩,
 ⟨469212059,165980721,50045301,19257357,15,(1291701858,2868044956,2557949576,1791529131,1035577674,3983101239,558552992,784154598),(2409641734,4039308344,353844740,312399319,2131053201,1793490076,2284727494,213656617),(1838897010,3805686038,405510319,281946295,3753429925,3315388594,1020893607,814803580)⟩,
 ⟨474509644,992485463,253524055,228033696,16,(3024966933,1226622465,2180973628,1152914463,589374973,264282056,2776479822,1444567023),(4114430699,1918175288,1636142487,4282912550,1229588169,840661155,1699877715,3190439135),(1327311517,3989664952,3366674621,3538959553,631909227,3952727882,1270907714,2726440005)⟩,
 ⟨298986697,386186978,382221782,181208476,17,(1257616023,2694081570,1464688823,2289906042,1588165835,3699243234,2497732433,1987423248),(3700715155,4212353728,2286088713,903333759,717621124,2134748687,2064587922,4237502366),(33657069,1745172765,2339334683,305267754,3219564560,1143374993,1697462678,1533819786)⟩,
 ⟨124809235,873008663,457928460,82737692,18,(278469802,2395288602,3336778268,3545768757,98817947,3460473977,2932879972,1373602992),(3631858907,1298913807,1361334571,4012799517,2238797489,2484730144,1532692821,2891639885),(3149859967,1772262551,2232345178,3477081432,1736796646,4003909416,424015604,2244140859)⟩,
 ⟨378055796,551536277,11475590,389531386,19,(1969753545,763099569,3971813446,3939018776,1768656735,1139909610,1334245254,2834839633),(1348437609,909012711,1255365404,815503638,3117377902,1710830612,4285106963,2196249047),(106897714,1416528772,3906028244,3567248543,3978814026,185803988,2810870375,3439589293)⟩,
 ⟨58253807,1740634,96079526,154333333,20,(749853178,3128966584,3312223413,1938881471,761430084,1227995813,2092073189,3168321438),(1153888040,786007882,2770567573,2118927934,1233876391,1211241056,2133555195,834796844),(846197043,2088352372,1449873158,2440602891,1263974766,3824541352,884441153,2434845488)⟩,
 ⟨91062669,737405280,237995657,329058326,21,(3976177635,3489649070,37939906,1259797570,305280646,3366887511,690742670,2168736890),(131962732,907836678,1977421339,811099470,757246595,631293002,2987258711,714187351),(2551433077,1146113747,757854347,1972299866,2963614437,2565135171,1278204712,3953760404)⟩,
 ⟨90832404,949199760,218687193,309519597,22,(3504667811,2711657643,959452007,1538713194,2067223503,2211377560,4199567487,2626774428),(4068340347,4196727312,783412120,663516629,144028330,2476667287,975945489,1706721903),(4153782635,3207299291,4047566038,3803415605,2699753576,3481002378,821828226,3377445858)⟩,
 ⟨263146358,829675707,225242685,488389043,23,(3857927460,2001487023,616102706,2530765091,3946797798,2555299307,834912485,3807090135),(2844994747,3383404526,3126607594,4246601418,3341450095,3329822483,2744100660,2206491953),(2128599316,2828924361,1853099197,33849726,4104828288,1319600644,3116771668,4165155337)⟩,
 ⟨137138799,397481101,382825229,19964025,24,(4150731974,2154648548,4079455400,796864716,4037401327,168489331,3111359514,2552595810),(1057022016,2750086283,1810685313,1983108431,889462310,866979036,1642195537,2585112868),(2319056664,1884360885,1250680036,2196365370,4057572869,1263424477,1368364298,2371085312)⟩,
 ⟨191023291,263586220,382022177,73045465,25,(368538625,3334660644,4077021086,1383157588,3418554645,2544133153,1666662770,3724255801),(671947881,686487340,3447156538,15886051,756271601,334144759,3144396098,3326568986),(4200928900,29295389,3425022081,996004577,1773893005,3282473358,3331034562,3864266160)⟩,
 ⟨204083943,325964665,22022229,226106172,26,(76784763,2607125282,2588762413,3847794835,4263067957,3451138315,2630502972,794576084),(80429298,44431236,2620948985,1337136737,2698345693,2111170850,2232157902,2867977169),(146074287,1751471221,1207622491,3407334997,3186540382,3932292137,2032788760,2780406845)⟩,
 ⟨478541509,821759946,288800392,267341898,27,(3821624045,3251310100,2640561180,1189385929,1767817603,4163381947,881730707,3021666904),(7087853,1137597489,1519191173,1040606617,4260660169,4283653833,2014179781,2636895996),(2374478211,3740301396,3143999461,1917456771,1901262158,1832753145,2935054757,2833420012)⟩,
 ⟨104812784,240596783,286589390,391402174,28,(2096446252,1459710413,1643689682,3041450258,1757291362,3912821156,100815214,414720570),(875524814,1382208975,2691515069,3640872019,2506199489,3917979453,2566351292,524117186),(480808064,2234125534,978663560,3140685368,446995530,3958863089,2727302748,1577243889)⟩,
 ⟨355581237,174114134,262196886,117778120,29,(4068751006,3419091218,1549250713,4172195314,2433773017,1757392320,1805876667,4046474603),(870413154,1754361359,761017085,3714389238,12300006,2332888392,1923467277,964668991),(2914467756,2675514995,3048437552,2236287106,3313620096,4054142323,663546030,2934141055)⟩,
 ⟨491795219,636025660,217624188,209419404,30,(37890934,3297862052,3941294586,1979050970,337677570,266927666,330767103,759213858),(2031833991,2331428804,78139474,908442607,2711023152,929733643,4092496965,1727943133),(1144888195,587949966,752366610,1117370627,143937905,2395203264,4094909557,4129207561)⟩,
 ⟨491260972,491517294,1929649,493190621,31,(1524216436,3031422799,1193638015,1103632117,985086178,2681822607,9684733,2666002616),(2389036385,1537863184,2438156228,387083093,3203177007,3222910981,2645154700,1466359504),(796427159,1447563495,338574646,364296982,2003853754,3345686280,3458058980,3772299376)⟩,
 ⟨302982045,619644146,314153902,117135944,32,(2069245714,3834183248,3690684565,1184025325,379996285,538892205,3282125160,118728457),(3463098164,339868966,3525660581,3396555108,4954709,2894030689,3057075902,4017174081),(1182570787,2798350819,2385256739,3563792603,283773196,4038846880,1660332119,787185631)⟩,
 ⟨137188643,17525760,5169293,142357936,33,(558221648,4148139700,3212025742,370831864,872328421,408800013,2737360679,3424292867),(4203958870,461248288,203868248,3181358108,3067410655,260791587,4097034742,909720883),(2907352368,1162000233,3830485491,2511371439,97092683,228412791,1061448865,3298431867)⟩,
 ⟨111360120,801141634,426493490,37853607,34,(881444014,369486769,2263373368,1254052267,2457284559,294845041,2880579743,1663359507),(2045855057,2976560690,2460816764,3955966067,4117655795,1744949656,2242356317,4084400739),(1623485364,2759112330,1645120639,2727878392,2554508398,354796181,3773338178,801938380)⟩,
 ⟨411224455,320684917,53388949,464613404,35,(532801897,2702930806,1054133214,1373517357,4139664288,2777912876,2274195537,1009083408),(2131839301,867968997,3250857503,1377835080,1096035191,4266100059,2036026625,2661267225),(259463702,1296844302,3740534074,2610214742,2983758711,439722630,313677921,3716227129)⟩,
 ⟨6971882,924548151,252879764,259851646,36,(3066176537,5949519,3390498072,121224894,2930499635,4098937481,1078553115,3276788080),(912933881,3973650843,3450491584,1566583601,2358818688,4221482764,1399761390,667677075),(3433034168,1282559370,924739558,170864411,3476564811,1274022705,2316934275,3399741086)⟩,
 ⟨38630986,413362709,131527582,170158568,37,(3391557518,492213915,3660406646,2607522796,976640420,3349825306,2066524929,228151088),(135921012,254961818,1038795017,155206848,372704095,3992885987,931901232,2076647936),(497960101,842182843,621004426,3481142873,2625460253,2777099710,2585181983,3531078595)⟩,
 ⟨361358914,952451310,369092710,230451621,38,(606583292,3342362057,2048899795,1626960699,451020435,3340054905,4045340814,853626999),(1362540674,1181700806,916977501,1265300786,1128906729,62824158,1086015439,50759613),(3641166876,4018099772,908863811,3695918127,3690802518,2949759214,2052571353,1477993694)⟩,
 ⟨399232398,436748800,56078396,455310794,39,(3115408220,2831964747,2188606482,2859054845,1876894657,832832007,2523778875,3175477355),(939105948,4117577672,2699241115,2723491402,3497384871,3837614840,3980551792,89408374),(840168974,1701930958,396390395,2624131769,2128294226,327232281,2397863660,1226363088)⟩,
 ⟨18424022,477181239,100089275,118513297,40,(1351006378,4031122897,151063001,1881157092,533895763,478749180,4206143412,3053485429),(533960339,494069011,4045311262,3480974120,473151529,1409886991,3107031110,3686970089),(1998026607,2995058080,3998295029,2221623949,874476188,2317574424,759464865,2460194280)⟩,
 ⟨398402212,35999339,435078206,333480415,41,(1753729921,3815589115,3996399851,4109408186,925954202,1182615678,572530710,1091536750),(2328839628,560012198,477223742,176626004,182151377,1614879788,758967297,1156905137),(4107886410,448589784,923862720,3659318448,3141910250,2337254797,4220480561,3876684265)⟩,
 ⟨332338866,960174386,370486197,202825060,42,(4023937509,3160352945,4017719604,652028006,1352640735,1344748901,2402630668,3456272615),(3649653747,1832488440,134136772,518377390,473010939,548487556,481649502,250696496),(477986643,3263104072,2027483608,3483712358,322656694,3878361042,1302491490,2385193647)⟩,
 ⟨425245065,721583144,94411227,19656289,43,(2418685719,1570703328,1769554164,3291677407,4277185074,4141683909,1469298764,2075683861),(263016254,2125859270,2176114818,3461118365,3491331698,1197703805,1762225261,1671413923),(892784852,2786145320,526093118,1899115440,3814315026,1302254462,384774527,2245580068)⟩,
 ⟨88804761,586080314,43712803,132517564,44,(1559230376,3026395256,159272657,473815061,652118074,813565762,2743975268,1754539838),(3962636011,2963168391,1966213792,2136627840,382094025,1157667999,2809890472,1536401053),(3990384099,2654206682,232368229,346611944,3570113650,3516764700,2826666378,1150294836)⟩,
 ⟨91783948,347201454,86398141,178182089,45,(4149009670,1933474723,1444026999,3344600978,4039933247,242582007,2861829506,648730922),(1427162703,3408139665,2650561112,513528220,1732124878,2689082451,1427985830,3394499215),(3569962287,1781921571,2164901014,2369025404,1092383601,221396207,1266030842,1883030393)⟩,
 ⟨301917096,797473230,266460055,68377148,46,(1322305793,2272611829,1538809629,990291617,3305695087,3124446455,209492385,1415225101),(2551416854,1622764563,3061398099,2789622171,521945460,30898531,2893580021,2864989426),(2653452461,36458253,425050223,2661441615,2318718435,368832323,576166982,3684050573)⟩,
 ⟨256294572,791189930,156480403,412774975,47,(1753366053,1327291189,444151475,3195889771,2855783548,2690617027,2229189301,2313264518),(1027312649,3907998544,4203209500,1432912924,2221162938,878439886,3645406594,605480131),(2100352540,1690855215,3701021553,1454639466,1831009285,4039469122,3533773607,1193566944)⟩,
 ⟨224037578,525925418,272953098,496990676,48,(1818006905,79979375,3495185632,2870129199,3799552770,1389869743,884394886,515543857),(4072360642,1809323095,3769901893,2813258479,3409712303,2248921741,292183645,3333931422),(3618159578,2281659185,3570764976,128505016,90569285,3056256837,908876616,3480146858)⟩,
 ⟨414581790,493888678,452283163,366864950,49,(3779915952,1384337323,1547559722,667753578,248487249,1001049559,2019823226,286245829),(2694540779,2846706318,2641233188,4173477000,2422309341,390504364,2856495879,2714747775),(686380558,597900517,1886687741,1822127824,846041985,107834039,1246863085,3101358811)⟩,
 ⟨443910439,94132846,110174592,54085028,50,(3613536306,3345342654,2334124448,1438800370,3561126649,1298108801,3847456916,3068960182),(4087514316,3792806301,1292527931,2319596232,3757096229,4277534737,3273697615,1420385575),(3498680391,1587940318,3652705891,4050542772,1818500474,1759142872,487088325,2395432635)⟩,
 ⟨489117412,504651604,445687004,434804413,51,(3328594165,3342501675,836575582,702422554,338789403,3995573123,1515362362,2548376129),(3173612041,1942234944,2344934219,547893862,3242474769,170442195,1156240818,419837697),(3399459177,2521745606,1304026894,2149379877,1587592989,2800973073,2317198443,742447848)⟩,
 ⟨348319989,37952412,176737900,25057886,52,(569331690,3002953676,1821812660,4133785975,2265303544,731428716,3495147261,1478891495),(3999391978,1845532300,1711051177,4226221618,2172696373,4258700570,279238870,3414184278),(2165071224,586013715,3116332707,227258601,3608396355,109815234,1049987388,1094044998)⟩,
 ⟨156913370,628556118,152103758,309017128,53,(3578480046,3676156589,3960390557,2839529066,941814882,4076607128,3101598537,2552996105),(710405397,2442214832,1410891566,3657409043,3581447671,701918921,400471014,2685199407),(3169693202,99486464,185120143,3159463358,604188216,1953119584,1140434496,2636514322)⟩,
 ⟨304008329,943841208,483492932,287501258,54,(747008460,1102191742,3334068441,3766107887,3118428260,2225854262,22791871,2218031893),(4033247632,3310049310,439312522,863146696,1786393315,674071462,4010632198,2545876575),(2399388765,3151469640,3103960484,2520418374,644648232,2280307475,3717113005,3704801790)⟩,
 ⟨297098938,716589586,495012150,292111085,55,(3674043054,2890715755,489712288,580049558,1345183079,4203937449,142036949,873798574),(2645904011,3079214674,1277535036,2393111884,1578557841,4140617545,1578174669,550681847),(180515473,3003870381,3491917996,3855864075,4243124128,3420249520,2015597505,1581848545)⟩,
 ⟨21393758,417767296,124800124,146193882,56,(1983681518,1111147279,4192474377,908757503,3071694673,1709646758,1036897697,3796134564),(4022842740,3041636511,3673808970,3216076668,1983981703,2033344295,3628591806,3632999034),(121662130,3338970768,54161778,279242989,1919311520,296965865,916196467,4094996873)⟩,
 ⟨151026624,419052406,69719372,220745996,57,(217406134,1906241893,2978939880,1186269557,2273429324,3036353471,3889095727,250929553),(2543031098,1482160371,305141804,3768713646,1356414619,966962819,4017267451,3568390221),(2435342260,1901340550,2871655310,1615388724,655079853,2519489300,3294515146,1045400125)⟩,
 ⟨211804059,908094209,313917715,25721771,58,(2543079338,1058244190,730725776,3850261091,1730480869,2417900647,3522725820,1236326185),(2380672881,2794290584,3177246601,2337100628,1622615798,4146801797,2832831180,320193967),(3635337996,3627169385,829371081,3322445891,2870845251,1308243234,3974400021,1325758519)⟩,
 ⟨279009872,213839470,106095448,385105320,59,(3223199128,1897431141,950656543,2917177174,943529570,52425908,1175764518,161425518),(3560415549,232419453,2829230220,3364028403,593127070,540424024,2830792468,165391755),(841750794,1202121755,400874179,2842305868,2326729998,837130925,1404548555,174952073)⟩,
 ⟨445664290,794756043,73797727,19462014,60,(3324139471,1766204911,801722433,2136068164,4188556143,1574222226,2943073899,2736149187),(3714926032,2307662581,2226274073,400295008,1472926486,1596851776,3414102770,2434485836),(3663747522,3225136883,3207732227,3151811569,3925772221,1835531423,242395678,71406197)⟩]
theorem z14q:sR.all chkR=true:=by decide +kernel
theorem z15r:(sR.map fun d=>zt1 d.h3).Nodup:=by
 have e:(sR.map fun d=>zt1 d.h3)=[2416894755062916782,8242224146602852967,18055040958811367824,15903309384474115219,6153223662885919144,15274447201106828736,11237691257341907973,4521742901536028285,13140506922829661507,5350825789000841616,4508409744979859545,7585104777581601556,8481327816906977504,10783425528981598262,4028622171814854510,7898002522467870998,5700759561108812984,144556012379388189,13528545547016901783,459122187063690116,3634388627745258100,10958321624793763539,17840360575225004251,9142264451336893897,9960272531335221429,18042852238350549789,627384287202989173,10198306265049888852,2065054912767200478,12517543699942022771,4917257355689420686,3420628602998755559,5079102858168332771,12486983339670157161,6972816546673768074,1114388115885934094,14744769478893129098,2138722349350039739,15638692655716587068,3608498268145805262,8581458936597902752,17643237787081437144,2052937002872931400,3834481744490345512,17138569206337632986,15332871272400287523,11396491541522173709,9020945471061387055,15539877061500820273,2947982049818131685,15026717860089433054,14600565991823820998,9298910101176704019,13613728641043008256,10305296279216299080,775308055960841389,522534872850671248,10459715363168069510,15613657806353348201,3615292132814154779,15735675791016177395]:=by decide +kernel
 rw [e]; decide +kernel
end
section
open Go
variable {g:z00} {l k:List z00}
theorem Rps0:Rps []:=⟨by simp, fun g hg=>(by cases hg), fun g hg=>(by cases hg)⟩
theorem z14s:z15 [] 5=some ([],0):=zh3 Rps0 5 (by omega) rfl
theorem zxr:z2a []=some (0,0):=by
 have:=zis (k1:=[]) (k2:=[]) Rps0 rfl rfl
 have s:z68 []:=fun g hg=>(by cases hg)
 rw [this,if_pos s]
theorem R1:Rps (sg [e1]):=(zhr (zw3 zyc (by simp)) (by decide)).1
theorem z12q:z15 (sg [e1]) 5=some (sg [e1],0):=zh3 R1 5 (by omega) rfl
theorem zya:z2a (sg [e1])=some (0,0):=by
 have:=zis (k1:=sg [e1]) (k2:=sg [e1]) R1 rfl rfl
 have s:z68 (sg [e1]):=fun g hg h hh=>by
  have e:sg [e1]=[grR [e1]]:=rfl
  rw [e,List.mem_singleton] at hg hh
  rw [hg,hh]
 rw [this,if_pos s]
theorem z12w:z1f (sg [e1]) [1]=some true:=by
 have h:=zu3 (sg [e1]) [1] (by decide) rfl fun i hi hi2=>by
  have:i=0:=by have:i<1:=hi2; omega
  subst this
  obtain ⟨R,hl,-⟩:=zcb (zhp zyc (d:=e1) (by simp))
  show (grR [e1]).IDs.length=1
  rw [R.fit.ids,hl]; rfl
 exact h
theorem m12:Mk [e1,e2]:=zw3 zyc (List.sublist_append_left [e1,e2] [e3])
theorem z14d:∃ b,z15 (sg [e1,e2]) 1=some (b,0)∧z1f b [2,2]=some true:=by
 obtain ⟨b,b1,b2,b3,b4,-⟩:=zjj m12 (by decide) (z56 2) (ze5 2) [2,2] rfl (by decide)
 have hb:zgt 1 (sg [e1,e2])=.inr b:=by
  have b1:z8y (sg [e1,e2]) (z56 (sg [e1,e2]).length)=.inr b:=b1
  simp only [zgt]
  rw [b1]
 exact ⟨b,zh3 (zhr m12 (by decide)).1 1 (by omega) hb,b4⟩
theorem R123:Rps (sg [e1,e2,e3]):=(zhr zyc (by decide)).1
theorem z137:z15 (sg [e1,e2,e3]) 0=some (sg [e1,e2,e3],0):=zh3 R123 0 (by omega) rfl
theorem z16g:∃ b,z34 (sg [e1,e2,e3]) [⟨2,0⟩]=some (b,0)∧z1f b [2,1,2]=some true:=by
 obtain ⟨b,b1,b2,b3,b4,-⟩:=zjj zyc (by decide) [⟨2,0⟩] (by decide) [2,1,2] rfl (by decide)
 exact ⟨b,zzq R123 _ (by decide) b1,b4⟩
theorem nbad (m:z07) (h:¬ Two 3 m):z34 (sg [e1,e2,e3]) [m]=some ([],2):=by
 rw [zpq R123 _ (by simp)]
 have:z8y (sg [e1,e2,e3]) [m]=.inl 2:=by
  have:zf3 (sg [e1,e2,e3]) m=.inl 2:=if_neg h
  simp only [z8y]
  rw [this]
 rw [this]
 rfl
theorem z12u (n:Nat) (h:100<n):z34 (sg [e1,e2,e3]) (List.replicate n ⟨0,0⟩)=some ([],4):=by
 unfold z34
 rw [R123.chk.1]
 simp only [bS]
 rw [if_neg (by simp),if_pos (by simp; omega)]
theorem z10p:z34 (sg [e1,e2,e3]) [⟨0,1⟩,⟨0,0⟩]=some ([],2):=by
 obtain ⟨b,b1,b2,b3,-⟩:=ztq zyc (by decide) [⟨0,1⟩] (by decide)
 rw [zpq R123 _ (by simp)]
 have:z8y (sg [e1,e2,e3]) ([⟨0,1⟩]++[⟨0,0⟩])=.inl 2:=by
  rw [zfu,b1]
  have hl:b.length=3:=b3
  have:zf3 b ⟨0,0⟩=.inl 2:=if_neg (by rw [hl]; decide)
  simp only [z8y]
  rw [this]
 have this:z8y (sg [e1,e2,e3]) [⟨0,1⟩,⟨0,0⟩]=.inl 2:=this
 rw [this]
 rfl
theorem z14b:z15 (sg [e1,e2,e3]) (-1)=some ([],2):=by
 unfold z15
 rw [R123.chk.1]
 simp only [bS]
 rw [if_neg (by simp),if_pos (by decide)]
theorem z14t:z15 (sg [e1,e2,e3]) 6=some ([],2):=by
 unfold z15
 rw [R123.chk.1]
 simp only [bS]
 rw [if_neg (by simp),if_neg (by decide),if_pos (by decide)]
theorem z12o:z15 (List.replicate 6 (⟨[],[]⟩:z00)) 9=some ([],4):=by
 have:z25 (List.replicate 6 (⟨[],[]⟩:z00))=some 4:=by
  unfold z25
  rw [if_pos (by simp)]
 unfold z15
 rw [this]
 rfl
theorem z15n (v:ID):z2a [(⟨[v],[]⟩:z00)]=some (0,8):=by
 have bad:z6g (⟨[v],[]⟩:z00)=some 8:=by
  unfold z6g
  rw [if_neg (by simp),if_pos (by simp)]
 have s0:z2z [(⟨[v],[]⟩:z00)] 0=some (.inl (.inl 8)):=by
  unfold z2z
  rw [if_pos (by simp), show idx [(⟨[v],[]⟩:z00)] 0=some ⟨[v],[]⟩ from rfl]
  simp only [bS]
  rw [bad]
  rfl
 have:z25 [(⟨[v],[]⟩:z00)]=some 8:=by
  unfold z25
  rw [if_neg (by simp),z0t s0]
  rfl
 unfold z2a
 rw [this]
 rfl
theorem hneg:z13 (-1) []=some ([],2):=by
 unfold z13
 rw [if_pos (by decide)]
theorem hsix (m:List z07):z13 6 m=some ([],2):=by
 unfold z13
 rw [if_neg (by decide),if_pos (by decide)]
theorem z16b (n:Nat) (h:100<n):z13 3 (List.replicate n ⟨0,0⟩)=some ([],4):=by
 unfold z13
 rw [if_neg (by decide),if_neg (by decide),if_pos (by simp; omega)]
theorem hbad (n:Nat) (hn:n≤5) (ms:List z07) (hl:ms.length≤100) (hb:ms.all (zdg (n:Int))=false):z13 (n:Int) ms=some ([],2):=by
 obtain ⟨h,i1,i2⟩:=znq
 have p:=zhb (n:Int) (by omega) ms (by omega) ms [] h rfl
 simp only [List.length_nil] at p
 have q:=p.2 hb
 rw [show ((0:Nat):Int)=0 from rfl] at q
 unfold z13
 rw [if_neg (by simp),if_neg (by simp <;> omega),if_neg (by simp <;> omega),i1]
 simp only [bS]
 rw [q]
 rfl
theorem z158:z13 3 [⟨0,1⟩,⟨2,3⟩]=some ([],2):=hbad 3 (by omega) _ (by simp) (by decide)
theorem z16a:z13 0 [⟨0,1⟩]=some ([],2):=hbad 0 (by omega) _ (by simp) (by decide)
theorem z15y:z13 0 []=some ([],0):=zj4 0 (by omega) [] (by simp) (by simp)
theorem z16h:z13 2 []=some ([[0],[1]],0):=by
 have h:=zj4 2 (by omega) [] (by simp) (by simp)
 have e:((List.range 2).map fun i=>z82 (zvc (zpb (ws0 2) []) i) 2)=[[0],[1]]:=by decide
 rw [e] at h
 exact h
theorem zyd:iter z2r ([],0)=some ((List.range 61).map UInt64.ofNat):=by
 have main:=z1q (F:=z2r) (b:=(List.range 61).map UInt64.ofNat) 61 (fun i=>((List.range i).map UInt64.ofNat,UInt64.ofNat i)) (fun i hi=>?_) ?_
 ·
  exact main
 ·
  have hlt:UInt64.ofNat i<61:=by
   rw [UInt64.lt_iff_toNat_lt,UInt64.toNat_ofNat',Nat.mod_eq_of_lt (by omega)]
   exact hi
  unfold z2r
  rw [if_pos (by simpa using hlt)]
  simp only []
  rw [z1p (by simp; omega)]
  simp only [bS]
  rw [List.range_succ,List.map_append]
  have e:UInt64.ofNat i+1=UInt64.ofNat (i+1):=by
   apply UInt64.toNat_inj.1
   rw [UInt64.toNat_add,UInt64.toNat_ofNat',UInt64.toNat_ofNat', show (1:UInt64).toNat=1 from rfl,Nat.mod_eq_of_lt (a:=i) (by omega),Nat.mod_eq_of_lt (a:=i+1) (by omega)]
  rw [e]
  rfl
 ·
  unfold z2r
  rw [if_neg (by decide)]
theorem zob:sR.length=61:=by decide
theorem sR_n:sR.map (fun d=>d.n)=List.range 61:=by decide
theorem z13s:sR.map (fun d=>UInt64.ofNat d.n)=(List.range 61).map UInt64.ofNat:=by
 rw [← sR_n,List.map_map]; rfl
theorem zzx:(sR.map rid).Nodup:=by
 have e:(fun d:Rn=>zt1 d.h3)=fun d=>(zi6 (rid d) 8).toNat:=funext fun d=>(zmd d.h3).symm
 have h:=z15r
 rw [e] at h
 exact z103 (f:=rid) (k:=fun i=>(zi6 i 8).toNat) h
theorem zwf {ds:List Rn} (hs:List.Sublist ds sR) (h6:ds.length≤60):Mk ds:=⟨fun d hd=>List.all_eq_true.1 z14q d (hs.subset hd),List.Nodup.sublist (hs.map _) zzx,h6⟩
def sY:List Rn:=sR.take 31
def sZ:List Rn:=sR.drop 31
theorem mkY:Mk sY:=zwf (List.take_sublist _ _) (by unfold sY; rw [List.length_take,zob]; decide)
theorem mkZ:Mk sZ:=zwf (List.drop_sublist _ _) (by unfold sZ; rw [List.length_drop,zob]; decide)
theorem oneY:z1o (((List.range 61).map UInt64.ofNat).take 31)=some (grR sY,true):=by
 have h:=zku mkY
 unfold sY at h
 rw [List.map_take,z13s] at h
 exact h
theorem oneZ:z1o (((List.range 61).map UInt64.ofNat).drop 31)=some (grR sZ,true):=by
 have h:=zku mkZ
 unfold sZ at h
 rw [List.map_drop,z13s] at h
 exact h
theorem RYZ:Rps [grR sY,grR sZ]∧(z6q [grR sY,grR sZ]).Ops.length=61:=by
 have h:=zwn (ms:=[sY,sZ]) (by simp) (fun m hm=>by
  simp only [List.mem_cons,List.not_mem_nil,or_false] at hm
  rcases hm with rfl | rfl
  ·
   exact mkY
  ·
   exact mkZ) (by
  have e:([sY,sZ]:List (List Rn)).flatten=sR:=by
   simp only [List.flatten_cons,List.flatten_nil,List.append_nil]
   exact List.take_append_drop 31 sR
  rw [e]; exact zzx)
 have e:([sY,sZ]:List (List Rn)).flatten=sR:=by
  simp only [List.flatten_cons,List.flatten_nil,List.append_nil]
  exact List.take_append_drop 31 sR
 rw [e,zob] at h
 exact h
theorem z15i (m:z07) (h:m.A=0∧m.B=1∨m.A=1∧m.B=0) (i:Nat) (hi:i<2):((zsf (ws0 2) m)[m.A.toNat]?.getD 0).testBit i=true:=by
 obtain ⟨a,b⟩:=m
 rcases h with ⟨h1,h2⟩ | ⟨h1,h2⟩
 ·
  simp only at h1 h2
  subst h1; subst h2
  match i,hi with
  | 0,_=>decide
  | 1,_=>decide
 ·
  simp only at h1 h2
  subst h1; subst h2
  match i,hi with
  | 0,_=>decide
  | 1,_=>decide
theorem z14l (m:z07) (h2:Two 2 m):zf3 [grR sY,grR sZ] m=.inl 4:=by
 obtain ⟨R,hw⟩:=RYZ
 cases hm:zf3 [grR sY,grR sZ] m with
 | inr k =>
  have a:=zts R hm
  obtain ⟨Rk,-⟩:=zfm R hm
  have w:=zf1 R Rk a
  have hlen:=zhe hm
  obtain ⟨⟨a1,a2⟩,⟨b1,b2⟩,h3⟩:=h2
  have hA:m.A.toNat<k.length:=by rw [hlen]; show _<2; omega
  have hfull:∀ x o,z1s (z6q k) x=some o→z1s k[m.A.toNat] x=some o:=fun x o ho=>by
   rw [zap Rk,a,zm0 R] at ho
   obtain ⟨g,hg,ho⟩:=ho
   have H:=(zpy R hm (has0 [grR sY,grR sZ])).2 m.A.toNat (by rw [(zpy R hm (has0 [grR sY,grR sZ])).1]; exact hA) hA
   rw [H]
   obtain ⟨i,hi,rfl⟩:=List.getElem_of_mem hg
   refine ⟨i,hi,?_,ho⟩
   have hi2:i<2:=hi
   have hA2:m.A=0∧m.B=1∨m.A=1∧m.B=0:=by omega
   have hw2:m.A.toNat<(zsf (ws0 2) m).length:=by
    unfold zsf ws0
    simp only [List.length_set,List.length_map,List.length_range]
    omega
   have hb:=z15i m hA2 i hi2
   rw [List.getElem?_eq_getElem hw2] at hb
   exact hb
  have:=zw6 (zcr Rk) (Rk.rp _ (List.getElem_mem hA)).fit hfull
  rw [w,hw] at this
  have:=(Rk.rp _ (List.getElem_mem hA)).fit.len
  omega
 | inl e =>
  unfold zf3 at hm
  have h2':Two [grR sY,grR sZ].length m:=h2
  rw [if_pos h2'] at hm
  split at hm
  ·
   cases hm; rfl
  ·
   cases hm
theorem z13u:z34 [grR sY,grR sZ] [⟨1,0⟩]=some ([],4):=by
 rw [zpq RYZ.1 _ (by simp)]
 have:z8y [grR sY,grR sZ] [⟨1,0⟩]=.inl 4:=by
  simp only [z8y]
  rw [z14l _ (by decide)]
 rw [this]
 rfl
theorem ztc:z8y [grR sY,grR sZ] (z56 2)=.inl 4:=by
 have e:z56 2=[⟨0,1⟩]:=by decide
 rw [e]
 simp only [z8y]
 rw [z14l _ (by decide)]
theorem z13w:z15 [grR sY,grR sZ] 1=some ([],4):=by
 have h:=zxy RYZ.1 1 (by omega)
 have:zgt 1 [grR sY,grR sZ]=.inl 4:=by
  have r:z8y [grR sY,grR sZ] (z56 [grR sY,grR sZ].length)=.inl 4:=ztc
  simp only [zgt]
  rw [r]
 rw [this] at h
 exact h
theorem zza:z2a [grR sY,grR sZ]=some (0,4):=by
 obtain ⟨R,hw⟩:=RYZ
 have ns:¬ z68 [grR sY,grR sZ]:=fun hs=>by
  have h1:=hs (grR sY) (by simp) (grR sZ) (by simp)
  have e1:=(zcb mkY).1.fit.ids
  have e2:=(zcb mkZ).1.fit.ids
  have f1:=(zcb mkY).2.1
  have f2:=(zcb mkZ).2.1
  have g1:sY.length=31:=by unfold sY; rw [List.length_take,zob]; rfl
  have g2:sZ.length=30:=by unfold sZ; rw [List.length_drop,zob]
  have:=congrArg List.length h1
  omega
 have p0:=zew R (n:=0) (by omega)
 have e:zjp [grR sY,grR sZ] 0=.inl (0,4):=by
  have r:z8y [grR sY,grR sZ] (z56 [grR sY,grR sZ].length)=.inl 4:=ztc
  unfold zjp
  rw [if_neg ns,r]
 rw [e] at p0
 have p0:z7u ([grR sY,grR sZ],0)=some (.inl (.inl (0,4))):=p0
 unfold z2a
 rw [R.chk.1]
 simp only [bS]
 rw [if_neg (by simp),zeq _ (by simp) R.f900]
 simp only [bS]
 rw [z0t p0]
 rfl
theorem zk1 (l:List z00) (m:z07) {r:List z00 × Int} (h:z34 l [m]=some r):z6v l m=some r:=by
 unfold z6v
 rw [h]
 rfl
theorem zp5:z6k=some true:=by
 obtain ⟨b,b1,b2⟩:=z14d
 obtain ⟨c,c1,c2⟩:=z16g
 have k6:mkn 48 (⟨[],[]⟩:z00) 6=some (List.replicate 6 ⟨[],[]⟩):=zgp (n:=6) (by decide) (by decide)
 have k101:mkn 16 (⟨0,0⟩:z07) 101=some (List.replicate 101 ⟨0,0⟩):=zgp (n:=101) (by decide) (by decide)
 have k1:mkn 32 (Vector.replicate 32 (0:UInt8)) 1=some [Vector.replicate 32 0]:=zgp (n:=1) (by decide) (by decide)
 have t1:cut (sg [e1,e2,e3]) 0 1=some (sg [e1]):=rfl
 have t2:cut (sg [e1,e2,e3]) 0 2=some (sg [e1,e2]):=rfl
 have s3:z3u (sg [e1,e2,e3]) (sg [e1,e2,e3])=some true:=z14a _ (by decide) fun g hg=>(R123.rp g hg).fit.small (by omega)
 have z0:((0:Int)==0)=true:=rfl
 have z2:((2:Int)==2)=true:=rfl
 have z4:((4:Int)==4)=true:=rfl
 have z8:((8:Int)==8)=true:=rfl
 have zl:((([]:List z00).length:Int)==0)=true:=rfl
 have zh:((([]:List (List Int)).length:Int)==0)=true:=rfl
 unfold z6k
 rw [zrf]
 simp only [bS,Bool.not_true,Bool.false_eq_true,if_false]
 rw [z14s,zxr]
 simp only [bS]
 rw [t1]
 simp only [bS]
 rw [z12q,zya]
 simp only [bS]
 rw [t2]
 simp only [bS]
 rw [b1,z137,zk1 _ _ c1]
 simp only [bS,z0,zl,if_true]
 rw [z12w]
 simp only [bS,if_true]
 rw [b2]
 simp only [bS,if_true]
 rw [s3]
 simp only [bS,if_true]
 rw [c2]
 simp only [bS]
 rw [zk1 _ _ (nbad ⟨1,1⟩ (by decide)),zk1 _ _ (nbad ⟨0,3⟩ (by decide)),zk1 _ _ (nbad ⟨-1,0⟩ (by decide))]
 simp only [bS]
 rw [k101]
 simp only [bS]
 rw [z12u 101 (by omega),z10p,z14b,z14t,k6]
 simp only [bS]
 rw [z12o,k1]
 simp only [bS]
 rw [z15n,hneg]
 simp only [bS]
 rw [hsix]
 simp only [bS]
 rw [z16b 101 (by omega)]
 simp only [bS]
 rw [z158,z16a,z15y,z16h]
 simp only [bS,z0,z2,z4,z8,zh,if_true]
 rw [zgg _ (by decide) (by decide)]
 simp only [bS]
 rw [zyd]
 simp only [bS]
 have u1:cut ((List.range 61).map UInt64.ofNat) 0 31=some (((List.range 61).map UInt64.ofNat).take 31):=by
  have:=zhm (b:=(List.range 61).map UInt64.ofNat) (i:=0) (j:=31) (by omega) (by simp)
  exact this
 have u2:cut ((List.range 61).map UInt64.ofNat) 31 ((((List.range 61).map UInt64.ofNat).length:Nat):Int)=some (((List.range 61).map UInt64.ofNat).drop 31):=by
  have:=zhm (b:=(List.range 61).map UInt64.ofNat) (i:=31) (j:=((List.range 61).map UInt64.ofNat).length) (by simp) (Nat.le_refl _)
  rw [List.take_of_length_le (by simp)] at this
  exact this
 rw [u1]
 simp only [bS]
 rw [oneY,u2]
 simp only [bS]
 rw [oneZ]
 simp only [bS]
 rw [zk1 _ _ z13u,z13w,zza]
 simp only [bS,z4,if_true]
 rw [zmv]
 rfl
end
end Go.Proofs.YthimiiphpckifaaGreatDoor
