import Derived.Test.YthimiiphpckifaaGreatDoorUd
set_option linter.unusedSimpArgs false
set_option linter.unusedVariables false
namespace Go.Proofs.YthimiiphpckifaaGreatDoor
section
open Go
variable {g:z01}
theorem zgd (h:zif g=true) (i:Nat):∀ x∈zvy g i,x∈g.IDs:=by
 unfold zvy
 by_cases hi:i<g.Ops.length
 ·
  rw [List.getElem?_eq_getElem hi]
  unfold zif at h
  rw [List.all_eq_true] at h
  have:=h _ (List.getElem_mem hi)
  rw [List.all_eq_true] at this
  exact fun x hx=>by simpa using this x hx
 ·
  rw [List.getElem?_eq_none (by omega)]
  exact fun x hx=>by simp at hx
theorem z11j (E:zf5 g) (h:zif g=true):z10b (z3k g) g.Ops.length:=by
 refine ⟨E.len, fun i=>?_, fun i=>?_, fun i p hp=>?_⟩
 ·
  unfold z3k
  rw [List.Nodup,List.pairwise_map]
  exact (E.nodup i).imp_of_mem fun {a b} ha hb hne e=>hne (zoc (zgd h i b hb) e)
 ·
  unfold z3k; rw [List.length_map]; exact E.four i
 ·
  unfold z3k at hp
  rw [List.mem_map] at hp
  obtain ⟨x,hx,rfl⟩:=hp
  rw [← E.ids]
  exact List.idxOf_lt_length_of_mem (zgd h i x hx)
def zoo (g:z01) (i:Nat):ID:=match g.IDs[i]? with | some x=>x | none=>z32
theorem zco {i:Nat} (h:i<g.IDs.length):zoo g i=g.IDs[i]:=by unfold zoo; rw [List.getElem?_eq_getElem h]
theorem zxj {x:ID} (h:x∈g.IDs):zoo g (g.IDs.idxOf x)=x:=by
 rw [zco (List.idxOf_lt_length_of_mem h)]; simp
theorem zy0 (E:zf5 g) {i:Nat} (h:i<g.Ops.length):g.IDs.idxOf (zoo g i)=i:=by
 have hi:i<g.IDs.length:=by rw [E.ids]; exact h
 rw [zco hi]; exact zh1 E.ri hi
theorem zl3 (E:zf5 g) {Q:List Nat} (hQ:∀ x∈Q,x<g.Ops.length) {x:ID} (hx:x∈g.IDs):x∈Q.map (zoo g)↔g.IDs.idxOf x∈Q:=by
 rw [List.mem_map]
 constructor
 ·
  rintro ⟨q,hq,rfl⟩; rw [zy0 E (hQ q hq)]; exact hq
 ·
  exact fun h=>⟨_,h,zxj hx⟩
theorem zrc (E:zf5 g) (h:zif g=true) {Q:List Nat} (hQ:∀ x∈Q,x<g.Ops.length) (i:Nat):((zvy g i).all fun x=>decide (x∈Q.map (zoo g)))=decide (∀ p∈z3k g i,p∈Q):=by
 rw [Bool.eq_iff_iff,List.all_eq_true,decide_eq_true_iff]
 unfold z3k
 constructor
 ·
  intro hx p hp
  rw [List.mem_map] at hp
  obtain ⟨x,hx',rfl⟩:=hp
  exact (zl3 E hQ (zgd h i x hx')).1 (by simpa using hx x hx')
 ·
  intro hp x hx
  rw [decide_eq_true_iff]
  exact (zl3 E hQ (zgd h i x hx)).2 (hp _ (List.mem_map.2 ⟨x,hx,rfl⟩))
def zy7 (P:Nat→List Nat) (Q:List Nat):Prop:=∀ k (h:k<Q.length),∀ p∈P Q[k],p∈Q.take k
theorem zy7.snoc {P:Nat→List Nat} {Q:List Nat} {i:Nat} (h:zy7 P Q) (hi:∀ p∈P i,p∈Q):zy7 P (Q++[i]):=by
 intro k hk p hp
 by_cases hkq:k<Q.length
 ·
  rw [List.getElem_append_left hkq] at hp
  rw [List.take_append_of_le_length (by omega)]
  exact h k hkq p hp
 ·
  have hk':k=Q.length:=by simp at hk; omega
  subst hk'
  rw [List.getElem_append_right (by omega)] at hp
  simp at hp
  rw [List.take_left' rfl]
  exact hi p hp
def zii (g:z01) (Q:List Nat) (b:Bool):(List Int) × (List ID) × (List Bool) × Bool:=(il Q,Q.map (zoo g),tab g.Ops.length (fun i=>decide (i∈Q)),b)
theorem z12s (E:zf5 g) (h:zif g=true) (Q:List Nat) (hQ:Got (z3k g) g.Ops.length Q) (hT:zy7 (z3k g) Q) :
  ∃ b:Sum (List Int) ((List Int) × (List ID) × (List Bool) × Bool),iter (z39 g (zii g Q true)) 0=some b ∧
   ((∃ i,b=.inr (zii g (Q++[i]) true)∧Got (z3k g) g.Ops.length (Q++[i])∧zy7 (z3k g) (Q++[i])∧i<g.Ops.length∧i∉Q∧(∀ p∈z3k g i,p∈Q)∧∀ k,k<i→(∀ p∈z3k g k,p∈Q)→k∈Q)∨(b=.inr (zii g Q false)∧∀ i,i<g.Ops.length→(∀ p∈z3k g i,p∈Q)→i∈Q)):=by
 have hlen:=E.len
 have hql:=hQ.len
 refine zef (F:=z39 g (zii g Q true)) (fun s=>∃ i:Nat,s=(i:Int)∧i≤g.Ops.length∧∀ k,k<i→(∀ p∈z3k g k,p∈Q)→k∈Q) (fun s=>g.Ops.length - s.toNat) _ ?_ _ ⟨0,rfl,Nat.zero_le _, fun k hk=>by omega⟩
 rintro s ⟨i,rfl,h1,h2⟩
 by_cases hi:i<g.Ops.length
 ·
  have hcond:(idx (tab g.Ops.length fun i=>decide (i∈Q)) (i:Int) >>= fun x12=>if !x12 then idx g.Ops (i:Int) >>= fun x15=>z3d (Q.map (zoo g)) x15.Preds >>= fun r17=>some r17 else some false)=some (!decide (i∈Q)&&decide (∀ p∈z3k g i,p∈Q)):=by
   rw [zdw hi]
   simp only [bS]
   by_cases hm:i∈Q
   ·
    rw [decide_eq_true hm]; rfl
   ·
    rw [decide_eq_false hm,if_pos (by simp),z0c hi]
    simp only [bS]
    have h4:=(E.op i hi).1
    rw [zyf _ _ (by rw [List.length_map]; omega) (by omega)]
    simp only [bS]
    rw [← z9z hi,zrc E h hQ.lt]; rfl
  by_cases hm:i∈Q
  ·
   right
   refine ⟨((i+1:Nat):Int),?_,⟨i+1,rfl,hi, fun k hk hp=>?_⟩, by simp; omega⟩
   ·
    unfold z39
    rw [if_pos (by simpa using hi)]
    show ((idx (tab g.Ops.length fun i=>decide (i∈Q)) (i:Int) >>= fun x12=>if !x12 then idx g.Ops (i:Int) >>= fun x15=>z3d (Q.map (zoo g)) x15.Preds >>= fun r17=>some r17 else some false) >>= _)=_
    rw [hcond,decide_eq_true hm,z0i (by omega)]
    rfl
   ·
    by_cases hk':k=i
    ·
     subst hk'; exact hm
    ·
     exact h2 k (by omega) hp
  ·
   by_cases hp:∀ p∈z3k g i,p∈Q
   ·
    left
    refine ⟨_,?_,.inl ⟨i,rfl,?_,hT.snoc hp,hi,hm,hp,h2⟩⟩
    ·
     have hii:i<g.IDs.length:=by rw [E.ids]; exact hi
     unfold z39
     rw [if_pos (by simpa using hi)]
     show ((idx (tab g.Ops.length fun i=>decide (i∈Q)) (i:Int) >>= fun x12=>if !x12 then idx g.Ops (i:Int) >>= fun x15=>z3d (Q.map (zoo g)) x15.Preds >>= fun r17=>some r17 else some false) >>= _)=_
     rw [hcond,decide_eq_false hm,decide_eq_true hp]
     simp only [bS]
     rw [if_pos (by simp),z0c hii]
     simp only [bS]
     rw [show (zii g Q true).1=il Q from rfl, show (zii g Q true).2.1=Q.map (zoo g) from rfl, show (zii g Q true).2.2.1=tab g.Ops.length (fun i=>decide (i∈Q)) from rfl]
     rw [z1l (by rw [zdy]; simp only [List.length_cons,List.length_nil]; omega)]
     simp only [bS]
     rw [z1l (by rw [List.length_map]; simp only [List.length_cons,List.length_nil]; omega),zdw hi]
     simp only [bS,Int.toNat_natCast]
     rw [zlx (g:=fun j=>decide (j∈Q++[i])) hi (by simp) (fun j _ hj=>by simp [hj])]
     unfold zii
     rw [zvm,List.map_append,← zco hii]
     rfl
    ·
     refine ⟨?_,?_,?_⟩
     ·
      rw [List.nodup_append]
      exact ⟨hQ.nodup, by simp, fun a ha b hb e=>by
       rw [List.mem_singleton] at hb; subst hb; exact hm (e ▸ ha)⟩
     ·
      intro y hy
      rcases List.mem_append.1 hy with h | h
      ·
       exact hQ.lt y h
      ·
       rw [List.mem_singleton] at h; subst h; exact hi
     ·
      intro y hy
      rcases List.mem_append.1 hy with h | h
      ·
       exact hQ.wf y h
      ·
       rw [List.mem_singleton] at h; subst h; exact .mk _ fun p hpp=>hQ.wf p (hp p hpp)
   ·
    right
    refine ⟨((i+1:Nat):Int),?_,⟨i+1,rfl,hi, fun k hk hpk=>?_⟩, by simp; omega⟩
    ·
     unfold z39
     rw [if_pos (by simpa using hi)]
     show ((idx (tab g.Ops.length fun i=>decide (i∈Q)) (i:Int) >>= fun x12=>if !x12 then idx g.Ops (i:Int) >>= fun x15=>z3d (Q.map (zoo g)) x15.Preds >>= fun r17=>some r17 else some false) >>= _)=_
     rw [hcond,decide_eq_false hp,z0i (by omega),Bool.and_false]
     rfl
    ·
     by_cases hk':k=i
     ·
      subst hk'; exact absurd hpk hp
     ·
      exact h2 k (by omega) hpk
 ·
  left
  have:i=g.Ops.length:=by omega
  subst this
  refine ⟨_,?_,.inr ⟨rfl,h2⟩⟩
  unfold z39
  rw [if_neg (by simp)]
  rfl
theorem zqi (E:zf5 g) (h:zif g=true):∃ Q:List Nat,z8v g=some (il Q)∧Got (z3k g) g.Ops.length Q∧zy7 (z3k g) Q∧∀ i,i∈Q↔i<g.Ops.length∧Wf (z3k g) i:=by
 have hP:=z11j E h
 have hlen:=E.len
 have main:=zef (F:=z6o g)
  (fun s=>∃ Q b,s=zii g Q b∧Got (z3k g) g.Ops.length Q∧zy7 (z3k g) Q∧(b=false→∀ i,i<g.Ops.length→(∀ p∈z3k g i,p∈Q)→i∈Q))
  (fun s=>(g.Ops.length - s.1.length)+(if s.2.2.2 then 1 else 0))
  (fun r=>∃ Q:List Nat,r=il Q∧Got (z3k g) g.Ops.length Q∧zy7 (z3k g) Q∧∀ i,i∈Q↔i<g.Ops.length∧Wf (z3k g) i)
  (fun s hs=>by
   obtain ⟨Q,b,rfl,h1,h2,h3⟩:=hs
   have hql:=h1.len
   cases b with
   | false =>
    left
    refine ⟨il Q,rfl,Q,rfl,h1,h2, fun i=>⟨fun hi=>⟨h1.lt i hi,h1.wf i hi⟩, fun hi=>?_⟩⟩
    obtain ⟨hi,hw⟩:=hi
    revert hi
    induction hw with
    | mk i hpi ih=>exact fun hi=>h3 rfl i hi fun p hp=>ih p hp (hP.lt i p hp)
   | true =>
    right
    obtain ⟨r,e1,e2⟩:=z12s E h Q h1 h2
    rcases e2 with ⟨i,rfl,e3,e4,_⟩ | ⟨rfl,e3⟩
    ·
     refine ⟨_,?_,⟨Q++[i],true,rfl,e3,e4, by simp⟩,?_⟩
     ·
      unfold z6o
      exact (if_pos rfl).trans e1
     ·
      have:=e3.len
      simp only [zii,zdy,List.length_append,List.length_cons,List.length_nil] at this ⊢
      omega
    ·
     refine ⟨_,?_,⟨Q,false,rfl,h1,h2, fun _=>e3⟩,?_⟩
     ·
      unfold z6o
      exact (if_pos rfl).trans e1
     ·
      simp [zii])
  ([],[],List.replicate g.Ops.length false,true) ⟨[],true, by unfold zii; rw [zjd]; simp [il],⟨by simp, by simp, by simp⟩, fun k hk=>by simp at hk, by simp⟩
 obtain ⟨r,e1,Q,rfl,e2,e3,e4⟩:=main
 refine ⟨Q,?_,e2,e3,e4⟩
 unfold z8v
 rw [zlc (by omega) (by omega)]
 simp only [bS]
 rw [e1]
 simp only [bS]
theorem zxy {n:Nat} {Q:List Nat} (hn:Q.Nodup) (hl:∀ x∈Q,x<n):¬ Q.length<n↔∀ i,i<n→i∈Q:=by
 constructor
 ·
  intro h i hi
  refine Decidable.byContradiction fun hm=>?_
  have:=zeh (i::Q) (List.range n) (List.nodup_cons.2 ⟨hm,hn⟩) fun x hx=>by
   rcases List.mem_cons.1 hx with rfl | hx
   ·
    simpa using hi
   ·
    simpa using hl x hx
  simp at this; omega
 ·
  intro h
  have:=zeh (List.range n) Q List.nodup_range fun x hx=>h x (by simpa using hx)
  simp at this; omega
def z12j (g:z01):Prop:=∀ i,i<g.Ops.length→Wf (z3k g) i
theorem zw9 (hl:g.Ops.length≤60) (hi:g.IDs.length=g.Ops.length) (ho:∀ i (h:i<g.Ops.length),(g.Ops[i]).Preds.length≤4∧z96 (g.Ops[i]).Preds=true) :
  ∃ c:Int,zh3 g=some c∧z8s g=some c∧(c=0↔z96 g.IDs=true∧zif g=true∧z12j g):=by
 have s0:=zxw g (by omega)
 unfold zh3 z8s
 rw [s0,zof _ (by omega)]
 simp only [bS]
 by_cases hr:z96 g.IDs=true
 ·
  rw [if_pos hr,hr,if_neg (by simp),zlc (by omega) (by omega)]
  simp only [bS]
  rw [zlc (by omega) (by omega)]
  simp only [bS]
  have E:zf5 g:=⟨hl,hi,hr,ho⟩
  have h2:=zye E g.Ops [] rfl
  have h3:=zl5 E g.Ops [] rfl
  have i1:tab g.Ops.length (zet g 0)=List.replicate g.Ops.length 0:=by
   rw [zjd]; exact zg8 fun j _=>by unfold zet; rw [if_neg (by omega)]
  have i2:tab g.Ops.length (fun x=>il (zdt g 0 x))=List.replicate g.Ops.length []:=by
   rw [zjd]; exact zg8 fun j _=>by unfold zdt; simp [il]
  have i3:il (ready g 0)=[]:=by unfold ready; simp [il]
  simp only [List.length_nil] at h2 h3
  rw [i1,i2,i3] at h2
  rw [show (0:Int)=((0:Nat):Int) from rfl] at *
  rw [h2,h3]
  cases ha:g.Ops.all fun o=>o.Preds.all fun x=>decide (x∈g.IDs) with
  | false=>exact ⟨40,rfl,rfl, by simp [zif,ha]⟩
  | true =>
   have ha':zif g=true:=ha
   obtain ⟨Q,q1,q2,q3,q4⟩:=zqi E ha'
   have hP:=z11j E ha'
   have i4:tab g.Ops.length (zet g g.Ops.length)=tab g.Ops.length (cnt (z3k g) []):=zg8 fun j hj=>by
    unfold zet; rw [if_pos hj,zu2]
   obtain ⟨b,k1,R,rfl,k2,k3⟩:=z11c hP (tab g.Ops.length (zet g g.Ops.length),tab g.Ops.length (fun x=>il (zdt g g.Ops.length x)),il (ready g g.Ops.length)) rfl
   have hRQ:R.length=Q.length:=zu4 k2 q2.nodup fun x=>by rw [k3,q4]
   simp only [if_true,zr8]
   rw [i4] at k1
   rw [i4, show il (ready g g.Ops.length)=il ((List.range g.Ops.length).filter fun k=>decide ((z3k g k).length=0)) from rfl] at *
   rw [show ((0:Nat):Int)=0 from rfl] at *
   rw [k1,q1]
   simp only [bS]
   rw [zdy,hRQ]
   have hfull:=zxy q2.nodup q2.lt
   by_cases hc:Q.length<g.Ops.length
   ·
    rw [if_pos (by simpa using hc)]
    refine ⟨36,rfl,rfl, by simp, fun h=>?_⟩
    have:=hfull.2 fun i hi=>(q4 i).2 ⟨hi,h.2.2 i hi⟩
    exact absurd hc this
   ·
    rw [if_neg (by simpa using hc)]
    exact ⟨0,rfl,rfl, fun _=>⟨by first | exact hr | trivial,ha', fun i hi=>((q4 i).1 (hfull.1 hc i hi)).2⟩, fun _=>rfl⟩
 ·
  have hr':z96 g.IDs=false:=by simpa using hr
  rw [if_neg hr,hr']
  exact ⟨32,rfl,rfl, by simp [hr']⟩
def z129 (g:z01):Prop:=∀ i (h:i<g.Ops.length),zie g.Ops[i]=0∧sha (zik g.Ops[i])=zoo g i
structure zkh (g:z01):Prop where
 e:zf5 g
 ops:z129 g
 ins:zif g=true
 wf:z12j g
theorem zax {a:z06} (h:zie a=0):z5y a=0:=by
 unfold zie at h
 by_cases hc:z5y a=0
 ·
  exact hc
 ·
  rw [if_neg hc] at h; exact h
theorem z130 {g:z01} (h:z42 g) {o:z06} (ho:o∈g.Ops):inI o.Act.Value.Num∧o.Act.Value.Text.length≤9223372036854775807:=by
 have:=h.2.1.1 o ho
 exact ⟨this.2.2.2.1.2.2.1.2.1,this.2.2.2.1.2.2.1.2.2.2.1⟩
def zge (g:z01) (i:Nat) (o:z06):Bool:=decide (zie o=0)&&decide (sha (zik o)=zoo g i)
theorem zx8 (hw:z42 g) (hl:g.Ops.length≤60) (hi:g.IDs.length=g.Ops.length):∀ (k i:Nat),g.Ops.length - i=k→i≤g.Ops.length →
  ∃ r:Sum Int Unit,iter (zae g) (i:Int)=some r∧iter (z51 g) (i:Int)=some r∧((r=.inr ()∧∀ j (h:j<g.Ops.length),i≤j→zge g j g.Ops[j]=true)∨(r=.inl 8∧∃ j,∃ h:j<g.Ops.length,zge g j g.Ops[j]=false)):=by
 intro k
 induction k with
 | zero =>
  intro i hk hle
  refine ⟨.inr (),z0s ?_,z0s ?_,.inl ⟨rfl, fun j hj hij=>by omega⟩⟩
  ·
   unfold zae; rw [if_neg (by simp; omega)]
  ·
   unfold z51; rw [if_neg (by simp; omega)]
 | succ k ih =>
  intro i hk hle
  have hlt:i<g.Ops.length:=by omega
  have hii:i<g.IDs.length:=by omega
  obtain ⟨w1,w2⟩:=z130 hw (List.getElem_mem hlt)
  have e1:zae g (i:Int)=if zge g i g.Ops[i] then some (.inr ((i+1:Nat):Int)) else some (.inl (.inl 8)):=by
   unfold zae zge
   rw [if_pos (by simpa using hlt),z0c hlt]
   simp only [bS]
   rw [z10e _ w1 w2,z0i (by omega)]
   simp only [bS]
   by_cases hc:z5y g.Ops[i]=0
   ·
    rw [if_pos hc]
    simp only []
    rw [if_neg (by simp),z0c hii,← zco hii]
    simp only [bS]
    by_cases hs:sha (zik g.Ops[i])=zoo g i
    ·
     rw [decide_eq_true hs,if_neg (by simp),zpj _ w1 w2]
     simp only [bS]
     by_cases hb:zie g.Ops[i]=0
     ·
      rw [hb]; rfl
     ·
      rw [if_pos (by simpa using hb),decide_eq_false hb]; rfl
    ·
     rw [decide_eq_false hs,Bool.and_false]; rfl
   ·
    have hb:zie g.Ops[i]≠0:=fun h=>hc (zax h)
    rw [if_neg hc,decide_eq_false hb]
    simp only []
    rw [if_pos (by simpa using hc)]; rfl
  have e2:z51 g (i:Int)=if zge g i g.Ops[i] then some (.inr ((i+1:Nat):Int)) else some (.inl (.inl 8)):=by
   unfold z51 zge
   rw [if_pos (by simpa using hlt),z0c hlt]
   simp only [bS]
   rw [zmt _ w1 w2,z0i (by omega)]
   simp only [bS]
   by_cases hb:zie g.Ops[i]=0
   ·
    rw [hb,if_neg (by simp),z0c hii,← zco hii,zwd _ (zax hb) w1]
    simp only [bS]
    by_cases hs:sha (zik g.Ops[i])=zoo g i
    ·
     rw [decide_eq_true hs]; rfl
    ·
     rw [decide_eq_false hs]; rfl
   ·
    rw [if_pos (by simpa using hb),decide_eq_false hb]; rfl
  cases hg:zge g i g.Ops[i] with
  | false =>
   rw [hg] at e1 e2
   exact ⟨_,z0s e1,z0s e2,.inr ⟨rfl,i,hlt,hg⟩⟩
  | true =>
   rw [hg] at e1 e2
   obtain ⟨r,h1,h2,h3⟩:=ih (i+1) (by omega) (by omega)
   refine ⟨r, by rw [z16 e1]; exact h1, by rw [z16 e2]; exact h2,?_⟩
   rcases h3 with ⟨h3,h4⟩ | h3
   ·
    refine .inl ⟨h3, fun j hj hij=>?_⟩
    by_cases hji:j=i
    ·
     subst hji; exact hg
    ·
     exact h4 j hj (by omega)
   ·
    exact .inr h3
theorem zq8 (hw:z42 g):∃ c:Int,z8c g=some c∧z6x g=some c∧(c=0↔zkh g):=by
 unfold z8c z6x
 by_cases hl:60<g.Ops.length
 ·
  have d:decide (60<(g.Ops.length:Int))=true:=by simp; omega
  rw [d]
  exact ⟨4,rfl,rfl, by simp, fun h=>by have:=h.e.len; omega⟩
 have d:decide (60<(g.Ops.length:Int))=false:=by simp; omega
 simp only [d,Bool.false_eq_true,if_false]
 by_cases hi:g.IDs.length=g.Ops.length
 ·
  have d2:((g.IDs.length:Int) != (g.Ops.length:Int))=false:=by simp; omega
  simp only [d2,Bool.false_eq_true,if_false]
  obtain ⟨r,h1,h2,h3⟩:=zx8 hw (by omega) hi g.Ops.length 0 rfl (by omega)
  rw [show (0:Int)=((0:Nat):Int) from rfl,h1,h2]
  rcases h3 with ⟨rfl,h4⟩ | ⟨rfl,j,hj,h4⟩
  ·
   have hok:z129 g:=fun i h=>by
    have:=h4 i h (by omega)
    unfold zge at this
    simpa using this
   obtain ⟨c,s1,s2,s3⟩:=zw9 (g:=g) (by omega) hi fun i h=>⟨(z7m (zax (hok i h).1)).1,(z7m (zax (hok i h).1)).2.1⟩
   refine ⟨c,?_,?_,s3.trans ⟨fun ⟨a,b,d⟩=>⟨⟨by omega,hi,a, fun i h=>⟨(z7m (zax (hok i h).1)).1,(z7m (zax (hok i h).1)).2.1⟩⟩,hok,b,d⟩, fun h=>⟨h.e.ri,h.ins,h.wf⟩⟩⟩
   ·
    simp only [zr8]; rw [s1]; simp only [bS]
   ·
    simp only [zr8]; rw [s2]; simp only [bS]
  ·
   refine ⟨8,rfl,rfl, by simp, fun h=>?_⟩
   have:=h.ops j hj
   unfold zge at h4
   simp [this] at h4
 ·
  have d2:((g.IDs.length:Int) != (g.Ops.length:Int))=true:=by simp; omega
  rw [d2]
  exact ⟨8,rfl,rfl, by simp, fun h=>absurd h.e.ids hi⟩
end
section
open Go
variable {g:z01}
theorem zn3 {κ β:Type} [DecidableEq κ] (k:κ) (v:β) (x:κ):∀ m:List (κ × β),zis (zol m k v) x=if x=k then some v else zis m x
 | []=>rfl
 | p::m=>by
  have ih:=zn3 k v x m
  unfold zol
  by_cases h:k=p.1
  ·
   rw [if_pos h]
   show (if x=p.1 then some v else zis m x)=if x=k then some v else if x=p.1 then some p.2 else zis m x
   rw [← h]
   by_cases hx:x=k
   ·
    rw [if_pos hx,if_pos hx]
   ·
    rw [if_neg hx,if_neg hx,if_neg hx]
  ·
   rw [if_neg h]
   show (if x=p.1 then some p.2 else zis (zol m k v) x)=if x=k then some v else if x=p.1 then some p.2 else zis m x
   rw [ih]
   by_cases hx:x=p.1
   ·
    rw [if_pos hx,if_pos hx,if_neg (fun e=>h (by rw [← hx,e]))]
   ·
    rw [if_neg hx,if_neg hx]
theorem zg9:∀ (l m:List ID),l.Pairwise (fun a b=>kd a<kd b)→m.Pairwise (fun a b=>kd a<kd b)→(∀ x,x∈l↔x∈m)→l=m
 | [],m,_,_,h=>by
  cases m with
  | nil=>rfl
  | cons b m=>have:=(h b).2 (by simp); simp at this
 | a::l,[],_,_,h=>by have:=(h a).1 (by simp); simp at this
 | a::l,b::m,h1,h2,h=>by
  obtain ⟨p1,p2⟩:=List.pairwise_cons.1 h1
  obtain ⟨q1,q2⟩:=List.pairwise_cons.1 h2
  have hab:a=b:=by
   have ha:=(h a).1 (by simp)
   have hb:=(h b).2 (by simp)
   rcases List.mem_cons.1 ha with e | ha'
   ·
    exact e
   ·
    rcases List.mem_cons.1 hb with e | hb'
    ·
     exact e.symm
    ·
     have:=q1 a ha'; have:=p1 b hb'; omega
  subst hab
  congr 1
  refine zg9 l m p2 q2 fun x=>⟨fun hx=>?_, fun hx=>?_⟩
  ·
   rcases List.mem_cons.1 ((h x).1 (by simp [hx])) with e | h'
   ·
    subst e; have:=p1 x hx; omega
   ·
    exact h'
  ·
   rcases List.mem_cons.1 ((h x).2 (by simp [hx])) with e | h'
   ·
    subst e; have:=q1 x hx; omega
   ·
    exact h'
end
section
open Go
variable {g:z01}
theorem z106 {o:z06} (h:z5h o=some false):o.Preds.length≤20∧o.Act.Key.length≤100∧o.Act.Value.Text.length≤100:=by
 unfold z5h at h
 by_cases h1:20<o.Preds.length
 ·
  rw [if_pos (by simp; omega)] at h; exact absurd h (by simp)
 ·
  rw [if_neg (by simp; omega)] at h
  by_cases h2:100<o.Act.Key.length
  ·
   rw [if_pos (by simp; omega)] at h; exact absurd h (by simp)
  ·
   rw [if_neg (by simp; omega)] at h
   simp only [bS] at h
   have h:=Option.some.inj h
   rw [decide_eq_false_iff_not] at h
   exact ⟨by omega, by omega, by omega⟩
theorem znl (o:z06):∃ b,z5h o=some b:=by
 unfold z5h
 split
 ·
  exact ⟨_,rfl⟩
 ·
  split
  ·
   exact ⟨_,rfl⟩
  ·
   exact ⟨_,rfl⟩
structure zkf (g:z01):Prop where
 ops:g.Ops.length≤70
 ids:g.IDs.length≤70
 op:∀ i (h:i<g.Ops.length),g.Ops[i].Preds.length≤20∧g.Ops[i].Act.Key.length≤100∧g.Ops[i].Act.Value.Text.length≤100
theorem zl6 (g:z01):∀ (k i:Nat),71 - i=k→i≤71→∃ r:Sum Bool Unit,iter (z3r g) (i:Int)=some r∧(r=.inl true∨(r=.inr ()∧∀ j (h:j<g.Ops.length),i≤j→j≤70→g.Ops[j].Preds.length≤20∧g.Ops[j].Act.Key.length≤100∧g.Ops[j].Act.Value.Text.length≤100))
 | 0,i,h1,h2=>by
  refine ⟨.inr (),z0s ?_,.inr ⟨rfl, fun j hj h3 h4=>by omega⟩⟩
  unfold z3r
  split
  ·
   rw [if_neg (by simp; omega)]
  ·
   rfl
 | k+1,i,h1,h2=>by
  by_cases hi:i<g.Ops.length
  ·
   obtain ⟨b,hb⟩:=znl g.Ops[i]
   have hF:z3r g (i:Int)=if b then some (.inl (.inl true)) else some (.inr ((i+1:Nat):Int)):=by
    unfold z3r
    rw [if_pos (by simpa using hi),if_pos (by simp; omega),z0c hi]
    simp only [bS]
    rw [hb,z0i (by omega)]
    simp only [bS]
   cases b with
   | true=>exact ⟨_,z0s hF,.inl rfl⟩
   | false =>
    rw [if_neg (by simp)] at hF
    obtain ⟨r,e1,e2⟩:=zl6 g k (i+1) (by omega) (by omega)
    refine ⟨r, by rw [z16 hF]; exact e1,e2.imp id fun ⟨e2,e3⟩=>⟨e2, fun j hj h3 h4=>?_⟩⟩
    by_cases hji:j=i
    ·
     subst hji; exact z106 hb
    ·
     exact e3 j hj (by omega) h4
  ·
   refine ⟨.inr (),z0s ?_,.inr ⟨rfl, fun j hj h3 h4=>by omega⟩⟩
   unfold z3r
   rw [if_neg (by simpa using hi)]
theorem zwx (g:z01):∃ b,z8x g=some b∧(b=false→zkf g):=by
 obtain ⟨r,e1,e2⟩:=zl6 g 71 0 rfl (by omega)
 unfold z8x
 rw [show (0:Int)=((0:Nat):Int) from rfl,e1]
 rcases e2 with rfl | ⟨rfl,e3⟩
 ·
  exact ⟨true,rfl, fun h=>absurd h (by simp)⟩
 ·
  simp only [zr8,bS]
  have key:∀ (P:Bool),(P=false→g.Ops.length≤70∧g.IDs.length≤70)→P=false→zkf g:=fun P h hp=>⟨(h hp).1,(h hp).2, fun i hi=>e3 i hi (Nat.zero_le _) (by have:=(h hp).1; omega)⟩
  by_cases hA:70<g.Ops.length
  ·
   have a1:decide (70<(g.Ops.length:Int))=true:=by simp; omega
   have a2:decide ((g.Ops.length:Int)≤60)=false:=by simp; omega
   rw [a1,a2]
   simp only [if_true,Bool.false_eq_true,if_false]
   exact ⟨true, by split <;> rfl, fun h=>absurd h (by simp)⟩
  ·
   have a1:decide (70<(g.Ops.length:Int))=false:=by simp; omega
   rw [a1]
   simp only [Bool.false_eq_true,if_false]
   have k2:=key (decide (70<(g.IDs.length:Int))) fun h=>by simp at h; omega
   split
   ·
    split
    ·
     exact ⟨true,rfl, fun h=>absurd h (by simp)⟩
    ·
     exact ⟨_,rfl,k2⟩
   ·
    exact ⟨_,rfl,k2⟩
theorem z10g (S:zkf g):z3j g=some g:=by
 have h1:=S.ops
 have h2:=S.ids
 have main:=z2c (F:=z3f g) (b:=g.Ops) g.Ops.length (fun i=>(g.Ops.take i,(i:Int))) (fun i hi=>?_) ?_
 ·
  unfold z3j
  rw [z1l (by simp; omega)]
  simp only [bS,List.nil_append]
  rw [List.take_zero] at main
  rw [show (0:Int)=((0:Nat):Int) from rfl,main]
  simp only [bS]
 ·
  have h4:=(S.op i hi).1
  unfold z3f z9j
  rw [if_pos (by simpa using hi)]
  simp only []
  rw [z0c hi]
  simp only [bS]
  rw [z1l (by simp; omega)]
  simp only [bS,List.nil_append]
  rw [z1l (by simp; omega),z0i (by omega)]
  simp only [bS]
  rw [List.take_add_one,List.getElem?_eq_getElem hi]; rfl
 ·
  unfold z3f
  rw [if_neg (by simp),List.take_length]
theorem zi6 (l:List ID) (hl:l.length≤1000):z2y l l=some true:=by
 have:=z2c (F:=z1s l l) (b:=.inr ()) l.length (fun i=>(i:Int)) (fun i hi=>?_) ?_
 ·
  unfold z2y
  rw [if_neg (by simp), show (0:Int)=((0:Nat):Int) from rfl,this]; rfl
 ·
  unfold z1s
  rw [if_pos (by simpa using hi),z0c hi,z0i (by omega)]
  simp only [bS]
  rw [if_neg (by simp)]
 ·
  unfold z1s
  rw [if_neg (by simp)]
theorem zup (S:zkf g):z9f g g=some true:=by
 have h1:=S.ops
 have h2:=S.ids
 have:=z2c (F:=z77 g g) (b:=.inr ()) g.Ops.length (fun i=>(i:Int)) (fun i hi=>?_) ?_
 ·
  unfold z9f
  rw [zi6 _ (by omega)]
  simp only [bS]
  rw [if_neg (by simp),if_neg (by simp), show (0:Int)=((0:Nat):Int) from rfl,this]; rfl
 ·
  have h4:=(S.op i hi).1
  have hs:z4z g.Ops[i] g.Ops[i]=some true:=by
   unfold z4z
   rw [if_pos (by simp),zi6 _ (by omega)]
   simp only [bS]
   simp
  unfold z77
  rw [if_pos (by simpa using hi),z0c hi]
  simp only [bS]
  rw [hs,z0i (by omega)]
  simp only [bS]
  rw [if_neg (by simp)]
 ·
  unfold z77
  rw [if_neg (by simp)]
end
section
open Go
structure Pos (l:List ID) (x:ID) (k:Nat):Prop where
 le:k≤l.length
 lo:∀ i (h:i<l.length),i<k→kd l[i]<kd x
 hi:∀ i (h:i<l.length),k≤i→kd x≤kd l[i]
theorem Pos.uniq {l:List ID} {x:ID} {k k':Nat} (h:Pos l x k) (h':Pos l x k'):k=k':=by
 have a:=h.le; have b:=h'.le
 refine Nat.le_antisymm (Nat.le_of_not_lt fun c=>?_) (Nat.le_of_not_lt fun c=>?_)
 ·
  have:=h.lo k' (by omega) c; have:=h'.hi k' (by omega) (Nat.le_refl _); omega
 ·
  have:=h'.lo k (by omega) c; have:=h.hi k (by omega) (Nat.le_refl _); omega
def zff {α:Type} (l:List α) (k:Nat) (x:α):List α:=l.take k++[x]++l.drop k
theorem zgc {α:Type} {l:List α} {k:Nat} {x:α} (h:k≤l.length):(zff l k x).length=l.length+1:=by
 unfold zff; simp; omega
theorem zp8 {α:Type} {l:List α} {k i:Nat} {x:α} (h:k≤l.length) (hi:i<k):(zff l k x)[i]? = l[i]? := by
 unfold zff
 rw [List.append_assoc,List.getElem?_append_left (by simp; omega),List.getElem?_take_of_lt hi]
theorem zou {α:Type} {l:List α} {k:Nat} {x:α} (h:k≤l.length):(zff l k x)[k]? = some x:=by
 unfold zff
 rw [List.append_assoc,List.getElem?_append_right (by simp; omega)]
 simp [Nat.min_eq_left h]
theorem zp4 {α:Type} {l:List α} {k i:Nat} {x:α} (h:k≤l.length) (hi:k<i):(zff l k x)[i]? = l[i - 1]? := by
 unfold zff
 rw [List.getElem?_append_right (by simp; omega),List.getElem?_drop]
 congr 1; simp; omega
theorem zr7 {α:Type} {l:List α} {k:Nat} {x y:α}:y∈zff l k x↔y=x∨y∈l:=by
 unfold zff
 have:y∈l↔y∈l.take k∨y∈l.drop k:=by rw [← List.mem_append,List.take_append_drop]
 rw [this]
 simp only [List.mem_append,List.mem_singleton]
 constructor
 ·
  rintro ((h | h) | h) <;> simp [h]
 ·
  rintro (h | h | h) <;> simp [h]
def insG (g:z01) (k:Nat) (x:ID) (o:z06):z01:=⟨zff g.IDs k x,zff g.Ops k o⟩
theorem zwu (l:List ID) (hl:l.length≤4611686018427387903) (hi:z96 l=true) (x:ID) (hx:x∉l):∃ k:Nat,z0f l x=some ((k:Int),false)∧Pos l x k:=by
 obtain ⟨b,h1,k,rfl,h2,h3,h4⟩:=zuk l hl hi x
 refine ⟨k,?_,h2,h3,h4⟩
 unfold z0f
 simp only [bS]
 rw [h1]
 simp only [bS]
 by_cases hk:k<l.length
 ·
  rw [if_pos (by simpa using hk),z0c hk]
  simp only [bS]
  rw [zqw]
  simp only [bS]
  rw [z12q,decide_eq_false fun (e:l[k]=x)=>hx (e ▸ List.getElem_mem hk)]
 ·
  rw [if_neg (by simpa using hk)]
theorem zi1 (g:z01) (hl:g.IDs.length≤4611686018427387903) (hi:z96 g.IDs=true) (x:ID) (hx:x∉g.IDs):∃ k:Nat,zbv g x=some ((k:Int),false)∧Pos g.IDs x k:=by
 obtain ⟨k,h1,h2⟩:=zwu g.IDs hl hi x hx
 refine ⟨k,?_,h2⟩
 unfold zbv
 rw [h1]
 simp only [bS]
theorem zx9 {l:List ID} (hi:z96 l=true) (x:ID):∃ k,Pos l x k:=by
 induction l with
 | nil=>exact ⟨0,Nat.le_refl _, fun i h=>by simp at h, fun i h=>by simp at h⟩
 | cons y l ih =>
  have h1:=(ze5 _).1 hi
  obtain ⟨h2,h3⟩:=List.pairwise_cons.1 h1
  by_cases hy:kd y<kd x
  ·
   obtain ⟨k,hk⟩:=ih ((ze5 _).2 h3)
   refine ⟨k+1, by simpa using hk.le, fun i h hik=>?_, fun i h hik=>?_⟩
   ·
    cases i with
    | zero=>exact hy
    | succ i=>exact hk.lo i (by simpa using h) (by omega)
   ·
    cases i with
    | zero=>omega
    | succ i=>exact hk.hi i (by simpa using h) (by omega)
  ·
   refine ⟨0,Nat.zero_le _, fun i h hik=>by omega, fun i h _=>?_⟩
   cases i with
   | zero=>simpa using Nat.le_of_not_lt hy
   | succ i =>
    have hil:i<l.length:=by simpa using h
    have:=h2 l[i] (List.getElem_mem hil)
    simp only [List.getElem_cons_succ]; omega
theorem z102 {l:List ID} {k:Nat} {x:ID} (hk:k≤l.length) (hl:l.length≤1000000):insF l (k:Int) [x]=some (zff l k x):=by
 unfold insF
 rw [z4a ⟨by omega, by simpa using hk,hl,rfl⟩]
 simp only [bS,Int.toNat_natCast]
 rfl
theorem zo4 {l:List ID} (h:l.length≤1000000):z0p l=some l:=by
 unfold z0p
 rw [z1l (by simp; omega)]
 rfl
theorem ziq {o:z06} (h:o.Preds.length≤1000):zdb o=some o:=by
 unfold zdb
 rw [zo4 (by omega)]
 simp only [bS]
theorem zyo {α:Type} {l:List α} {i:Nat} {x:α} (h:l[i]? = some x):l.take i++[x]=l.take (i+1):=by
 rw [List.take_add_one,h]; rfl
theorem z12u {g:z01} (hl:g.IDs.length≤1000) (hi:z96 g.IDs=true) {x:ID} (hx:x∈g.IDs) (o:z06):zfs g x o=some (g,false):=by
 obtain ⟨k,k1,-,-⟩:=zg5 g (by omega) hi x
 unfold zfs
 rw [k1,decide_eq_true hx]
 rfl
theorem zzy {g:z01} (hg:g.IDs.length=g.Ops.length) (hl:g.IDs.length≤1000) (hi:z96 g.IDs=true) {x:ID} (hx:x∉g.IDs) {o:z06} (ho:o.Preds.length≤1000) (hp:∀ p∈g.Ops,p.Preds.length≤1000) :
  ∃ k,zfs g x o=some (insG g k x o,true)∧Pos g.IDs x k:=by
 obtain ⟨k,k1,k2⟩:=zi1 g (by omega) hi x hx
 have hk:=k2.le
 have hko:k≤g.Ops.length:=by omega
 refine ⟨k,?_,k2⟩
 have hlen:(zff g.Ops k o).length=g.Ops.length+1:=zgc hko
 have hleni:(zff g.IDs k x).length=g.Ops.length+1:=by rw [zgc hk,hg]
 have main:=z2c (F:=zeg g o ((k:Int),false) (zff g.IDs k x)) (b:=zff g.Ops k o) (g.Ops.length+1) (fun i=>((zff g.Ops k o).take i,(i:Int))) (fun i hin=>?_) ?_
 ·
  unfold zfs
  rw [k1]
  simp only [bS]
  rw [if_neg (by simp),zo4 (by omega)]
  simp only [bS]
  rw [z102 hk (by omega)]
  simp only [bS]
  rw [List.take_zero] at main
  rw [show (([]:List z06),(0:Int))=([],((0:Nat):Int)) from rfl,main]
  simp only [bS]
  rfl
 ·
  have happ:∀ z,(zff g.Ops k o)[i]? = some z→app 112 ((zff g.Ops k o).take i) [z]=some ((zff g.Ops k o).take (i+1)):=fun z hz=>by
   rw [z1l (by simp; omega),zyo hz]
  unfold zeg
  simp only [bS]
  rw [if_pos (by rw [hleni]; simp; omega)]
  by_cases h1:i<k
  ·
   have hio:i<g.Ops.length:=by omega
   rw [if_pos (by simpa using h1),z0c hio]
   simp only [bS]
   rw [ziq (hp _ (List.getElem_mem hio))]
   simp only [bS]
   rw [happ _ (by rw [zp8 hko h1,List.getElem?_eq_getElem hio]),z0i (by omega)]
   simp only [bS]
  ·
   by_cases h2:i=k
   ·
    subst h2
    rw [if_neg (by simp),if_pos (by simp),ziq ho]
    simp only [bS]
    rw [happ _ (zou hko),z0i (by omega)]
    simp only [bS]
   ·
    have hio:i - 1<g.Ops.length:=by omega
    have e:w64 ((i:Int) - 1)=((i - 1:Nat):Int):=by rw [z0z (by omega) (by omega)]; omega
    rw [if_neg (by simp; omega),if_neg (by simp; omega),e,z0c hio]
    simp only [bS]
    rw [ziq (hp _ (List.getElem_mem hio))]
    simp only [bS]
    rw [happ _ (by rw [zp4 hko (by omega),List.getElem?_eq_getElem hio]),z0i (by omega)]
    simp only [bS]
 ·
  unfold zeg
  rw [if_neg (by rw [hleni]; simp)]
  rw [List.take_of_length_le (by rw [hlen]; exact Nat.le_refl _)]
theorem zwl {l:List ID} (hi:z96 l=true) {x:ID} (hx:x∉l) {k:Nat} (hk:Pos l x k):z96 (zff l k x)=true:=by
 rw [ze5] at hi ⊢
 have hsplit:(l.take k++l.drop k).Pairwise (fun a b=>kd a<kd b):=by rw [List.take_append_drop]; exact hi
 obtain ⟨h1,h2,h3⟩:=List.pairwise_append.1 hsplit
 have hlo:∀ a∈l.take k,kd a<kd x:=fun a ha=>by
  obtain ⟨i,hi',rfl⟩:=List.getElem_of_mem ha
  rw [List.length_take] at hi'
  rw [List.getElem_take]
  exact hk.lo i (by omega) (by omega)
 have hhi:∀ a∈l.drop k,kd x<kd a:=fun a ha=>by
  obtain ⟨i,hi',rfl⟩:=List.getElem_of_mem ha
  rw [List.length_drop] at hi'
  rw [List.getElem_drop]
  have h:=hk.hi (k+i) (by omega) (by omega)
  have hne:kd x≠kd l[k+i]:=fun e=>hx (zt0 e ▸ List.getElem_mem _)
  omega
 unfold zff
 rw [List.append_assoc,List.pairwise_append]
 refine ⟨h1,?_, fun a ha b hb=>?_⟩
 ·
  rw [List.singleton_append,List.pairwise_cons]; exact ⟨hhi,h2⟩
 ·
  rw [List.singleton_append] at hb
  rcases List.mem_cons.1 hb with rfl | hb
  ·
   exact hlo a ha
  ·
   exact h3 a ha b hb
end
section
open Go
variable {g a b:z01}
theorem zs2 (l m:List ID) (hlm:l.length=m.length) (hl:l.length≤1000):∃ r,iter (z1q l m) 0=some r∧((r=.inl false∧l≠m)∨(r=.inr ()∧l=m)):=by
 refine zef (F:=z1q l m) (fun s=>∃ i:Nat,s=(i:Int)∧i≤l.length∧∀ k (h:k<l.length) (h2:k<m.length),k<i→l[k]=m[k]) (fun s=>l.length - s.toNat) _ ?_ 0 ⟨0,rfl,Nat.zero_le _, fun k _ _ h=>by omega⟩
 rintro s ⟨i,rfl,h1,h2⟩
 by_cases hi:i<l.length
 ·
  have him:i<m.length:=by omega
  by_cases hc:l[i]=m[i]
  ·
   refine .inr ⟨((i+1:Nat):Int),?_,⟨i+1,rfl,hi, fun k hk hk2 hki=>?_⟩, by simp; omega⟩
   ·
    unfold z1q
    rw [if_pos (by simpa using hi),z0c hi,z0c him,z0i (by omega)]
    simp only [bS]
    rw [if_neg (by simpa using hc)]
   ·
    by_cases hk':k=i
    ·
     subst hk'; exact hc
    ·
     exact h2 k hk hk2 (by omega)
  ·
   refine .inl ⟨.inl false,?_,.inl ⟨rfl, fun e=>hc (by subst e; rfl)⟩⟩
   unfold z1q
   rw [if_pos (by simpa using hi),z0c hi,z0c him]
   simp only [bS]
   rw [if_pos (by simpa using hc)]
 ·
  refine .inl ⟨.inr (),?_,.inr ⟨rfl,List.ext_getElem hlm fun k hk hk2=>h2 k hk hk2 (by omega)⟩⟩
  unfold z1q
  rw [if_neg (by simpa using hi)]
theorem zzu (l m:List ID) (hl:l.length≤1000):z1h l m=some (decide (l=m)):=by
 unfold z1h
 by_cases hlm:l.length=m.length
 ·
  obtain ⟨r,r1,r2⟩:=zs2 l m hlm hl
  rw [if_neg (by simp [hlm]),r1]
  rcases r2 with ⟨rfl,h⟩ | ⟨rfl,h⟩
  ·
   rw [decide_eq_false h]; rfl
  ·
   rw [decide_eq_true h]; rfl
 ·
  rw [if_pos (by simp; omega),decide_eq_false fun e=>hlm (by rw [e])]
theorem zov (l m:List ID) (hlm:l.length=m.length) (hl:l.length≤1000):∃ r,iter (z1s l m) 0=some r∧((r=.inl false∧l≠m)∨(r=.inr ()∧l=m)):=by
 refine zef (F:=z1s l m) (fun s=>∃ i:Nat,s=(i:Int)∧i≤l.length∧∀ k (h:k<l.length) (h2:k<m.length),k<i→l[k]=m[k]) (fun s=>l.length - s.toNat) _ ?_ 0 ⟨0,rfl,Nat.zero_le _, fun k _ _ h=>by omega⟩
 rintro s ⟨i,rfl,h1,h2⟩
 by_cases hi:i<l.length
 ·
  have him:i<m.length:=by omega
  by_cases hc:l[i]=m[i]
  ·
   refine .inr ⟨((i+1:Nat):Int),?_,⟨i+1,rfl,hi, fun k hk hk2 hki=>?_⟩, by simp; omega⟩
   ·
    unfold z1s
    rw [if_pos (by simpa using hi),z0c hi,z0c him,z0i (by omega)]
    simp only [bS]
    rw [if_neg (by simpa using hc)]
   ·
    by_cases hk':k=i
    ·
     subst hk'; exact hc
    ·
     exact h2 k hk hk2 (by omega)
  ·
   refine .inl ⟨.inl false,?_,.inl ⟨rfl, fun e=>hc (by subst e; rfl)⟩⟩
   unfold z1s
   rw [if_pos (by simpa using hi),z0c hi,z0c him]
   simp only [bS]
   rw [if_pos (by simpa using hc)]
 ·
  refine .inl ⟨.inr (),?_,.inr ⟨rfl,List.ext_getElem hlm fun k hk hk2=>h2 k hk hk2 (by omega)⟩⟩
  unfold z1s
  rw [if_neg (by simpa using hi)]
theorem zyd (l m:List ID) (hl:l.length≤1000):z2y l m=some (decide (l=m)):=by
 unfold z2y
 by_cases hlm:l.length=m.length
 ·
  obtain ⟨r,r1,r2⟩:=zov l m hlm hl
  rw [if_neg (by simp [hlm]),r1]
  rcases r2 with ⟨rfl,h⟩ | ⟨rfl,h⟩
  ·
   rw [decide_eq_false h]; rfl
  ·
   rw [decide_eq_true h]; rfl
 ·
  rw [if_pos (by simp; omega),decide_eq_false fun e=>hlm (by rw [e])]
theorem zan {p q:z06}:p=q↔p.Author=q.Author∧p.Preds=q.Preds∧p.Stamp=q.Stamp∧p.Act=q.Act∧p.Sig=q.Sig:=by
 cases p; cases q; simp
theorem zqf (p q:z06) (hp:p.Preds.length≤1000):ziz p q=some (decide (p=q)):=by
 unfold ziz
 rw [zzu _ _ hp]
 simp only [bS]
 by_cases h1:p.Author=q.Author
 ·
  by_cases h2:p.Stamp=q.Stamp
  ·
   by_cases h3:p.Act=q.Act
   ·
    by_cases h4:p.Sig=q.Sig
    ·
     simp [zan,h1,h2,h3,h4]
    ·
     simp [zan,h1,h2,h3,h4]
   ·
    simp [zan,h1,h2,h3]
  ·
   simp [zan,h1,h2]
 ·
  simp [zan,h1]
theorem zw8 (p q:z06) (hp:p.Preds.length≤1000):z4z p q=some (decide (p=q)):=by
 unfold z4z
 rw [zyd _ _ hp]
 simp only [bS]
 by_cases h1:p.Author=q.Author
 ·
  by_cases h5:p.Preds=q.Preds
  ·
   by_cases h2:p.Stamp=q.Stamp
   ·
    by_cases h3:p.Act=q.Act
    ·
     by_cases h4:p.Sig=q.Sig
     ·
      simp [zan,h1,h2,h3,h4,h5]
     ·
      simp [zan,h1,h2,h3,h4]
    ·
     simp [zan,h1,h2,h3,h5]
   ·
    simp [zan,h1,h2,h5]
  ·
   simp [zan,h1,h5]
 ·
  simp [zan,h1]
structure Fit (g:z01) (n:Nat):Prop where
 ids:g.IDs.length=g.Ops.length
 len:g.Ops.length≤n
 ri:z96 g.IDs=true
 op:∀ o∈g.Ops,o.Preds.length≤20∧o.Act.Key.length≤100∧o.Act.Value.Text.length≤100
theorem Fit.small {n:Nat} (h:Fit g n) (hn:n≤70):zkf g:=⟨by have:=h.len; omega, by have:=h.len; have:=h.ids; omega, fun i hi=>h.op _ (List.getElem_mem hi)⟩
def posF (l:List ID) (x:ID):Nat:=(l.filter fun y=>decide (kd y<kd x)).length
theorem ziw {l:List ID} (hi:z96 l=true) (x:ID):Pos l x (posF l x):=by
 obtain ⟨k,hk⟩:=zx9 hi x
 have hkl:=hk.le
 have:posF l x=k:=by
  unfold posF
  rw [← List.take_append_drop k l,List.filter_append,List.filter_eq_self.2 fun y hy=>?_,List.filter_eq_nil_iff.2 fun y hy=>?_]
  ·
   simp; omega
  ·
   obtain ⟨i,hi',rfl⟩:=List.getElem_of_mem hy
   rw [List.length_drop] at hi'
   rw [List.getElem_drop]
   have:=hk.hi (k+i) (by omega) (by omega)
   simp; omega
  ·
   obtain ⟨i,hi',rfl⟩:=List.getElem_of_mem hy
   rw [List.length_take] at hi'
   rw [List.getElem_take]
   have:=hk.lo i (by omega) (by omega)
   simpa using this
 rw [this]; exact hk
def zon (g:z01) (p:ID × z06):z01:=if p.1∈g.IDs then g else insG g (posF g.IDs p.1) p.1 p.2
theorem zj1 {n:Nat} (h:Fit g n) {p:ID × z06} (hp:p.2.Preds.length≤20∧p.2.Act.Key.length≤100∧p.2.Act.Value.Text.length≤100):Fit (zon g p) (n+1):=by
 unfold zon
 split
 ·
  exact ⟨h.ids, by have:=h.len; omega,h.ri,h.op⟩
 ·
  rename_i hx
  have hk:=ziw h.ri p.1
  have hkl:=hk.le
  have hi:=h.ids
  refine ⟨?_,?_,zwl h.ri hx hk, fun o ho=>?_⟩
  ·
   show (zff g.IDs _ _).length=(zff g.Ops _ _).length
   rw [zgc hkl,zgc (by omega),hi]
  ·
   show (zff g.Ops _ _).length≤_
   rw [zgc (by omega)]; have:=h.len; omega
  ·
   rcases zr7.1 ho with rfl | ho
   ·
    exact hp
   ·
    exact h.op o ho
theorem z100 {n:Nat} (h:Fit g n) (hn:n≤900) (p:ID × z06) (hp:p.2.Preds.length≤20):zfs g p.1 p.2=some (zon g p,!decide (p.1∈g.IDs)):=by
 have h1:=h.len
 have h2:=h.ids
 unfold zon
 by_cases hx:p.1∈g.IDs
 ·
  rw [z12u (by omega) h.ri hx,if_pos hx,decide_eq_true hx]; rfl
 ·
  obtain ⟨k,k1,k2⟩:=zzy h2 (by omega) h.ri hx (o:=p.2) (by omega) (fun q hq=>by have:=(h.op q hq).1; omega)
  rw [k1,if_neg hx,decide_eq_false hx,k2.uniq (ziw h.ri p.1)]; rfl
def zd4 (g:z01) (l:List (ID × z06)):z01:=l.foldl zon g
theorem zl2 (g:z01) (l:List (ID × z06)) (p:ID × z06):zd4 g (l++[p])=zon (zd4 g l) p:=by unfold zd4; rw [List.foldl_append]; rfl
theorem zuj {n:Nat}:∀ {l:List (ID × z06)} {g:z01},Fit g n→(∀ p∈l,p.2.Preds.length≤20∧p.2.Act.Key.length≤100∧p.2.Act.Value.Text.length≤100)→Fit (zd4 g l) (n+l.length):=by
 intro l
 induction l generalizing n with
 | nil=>intro g h _; exact h
 | cons p l ih =>
  intro g h hp
  have:=ih (zj1 h (hp p (by simp))) fun q hq=>hp q (by simp [hq])
  rw [List.length_cons, show n+(l.length+1)=n+1+l.length by omega]
  exact this
def zaa (g:z01):List (ID × z06):=g.IDs.zip g.Ops
theorem zjk (h:g.IDs.length=g.Ops.length) {i:Nat} (hi:i<g.Ops.length):(zaa g)[i]? = some (g.IDs[i],g.Ops[i]):=by
 unfold zaa; rw [List.getElem?_zip_eq_some]; exact ⟨List.getElem?_eq_getElem (by omega),List.getElem?_eq_getElem hi⟩
theorem zc8 (h:g.IDs.length=g.Ops.length):(zaa g).length=g.Ops.length:=by unfold zaa; rw [List.length_zip,h,Nat.min_self]
theorem zjq {p:ID × z06} (h:p∈zaa g):p.1∈g.IDs∧p.2∈g.Ops:=by
 unfold zaa at h
 exact ⟨(List.of_mem_zip h).1,(List.of_mem_zip h).2⟩
def z47 (a b:z01):z01:=zd4 a (zaa b)
def zc3 (a b:z01):Prop:=∀ i (h:i<b.IDs.length) (h2:i<b.Ops.length),b.IDs[i]∈a.IDs→a.Ops[a.IDs.idxOf b.IDs[i]]? = some b.Ops[i]
theorem zz4 {l:List ID} (hi:z96 l=true) (hl:l.length≤1000) {x:ID} (hx:x∈l):z40 l x=some (l.idxOf x:Int):=by
 obtain ⟨k,k1,k2⟩:=z105 l x (by omega)
 rcases k2 with ⟨-,h⟩ | ⟨i,rfl,h,rfl⟩
 ·
  exact absurd hx h
 ·
  rw [k1,zh1 hi h]
theorem zz3 {l:List ID} (hl:l.length≤1000) {x:ID} (hx:x∉l):z40 l x=some (-1):=by
 obtain ⟨k,k1,k2⟩:=z105 l x (by omega)
 rcases k2 with ⟨rfl,h⟩ | ⟨i,rfl,h,rfl⟩
 ·
  exact k1
 ·
  exact absurd (List.getElem_mem h) hx
end
section
open Go
variable {g a b:z01}
theorem zld (h:b.IDs.length=b.Ops.length) {i:Nat} (hi:i<b.Ops.length):(zaa b).take (i+1)=(zaa b).take i++[(b.IDs[i],b.Ops[i])]:=by
 rw [List.take_add_one,zjk h hi]; rfl
theorem zm8 {n m:Nat} (Fa:Fit a n) (Fb:Fit b m) (i:Nat):Fit (zd4 a ((zaa b).take i)) (n+m):=by
 have h:=zuj (l:=(zaa b).take i) Fa fun p hp=>Fb.op _ (zjq (List.mem_of_mem_take hp)).2
 have hl:((zaa b).take i).length≤m:=by rw [List.length_take,zc8 Fb.ids]; have:=Fb.len; omega
 exact ⟨h.ids, by have:=h.len; omega,h.ri,h.op⟩
theorem zve {n:Nat} (Fa:Fit a n) (hn:n≤500):iter (zad a) ([],0)=some a.Ops:=by
 have h1:=Fa.len
 have main:=z2c (F:=zad a) (b:=a.Ops) a.Ops.length (fun i=>(a.Ops.take i,(i:Int))) (fun i hi=>?_) ?_
 ·
  rw [List.take_zero] at main; exact main
 ·
  unfold zad
  simp only []
  rw [if_pos (by simpa using hi),z0c hi]
  simp only [bS]
  rw [ziq (by have:=(Fa.op _ (List.getElem_mem hi)).1; omega)]
  simp only [bS]
  rw [z1l (by simp; omega),z0i (by omega),zyo (List.getElem?_eq_getElem hi)]
  simp only [bS]
 ·
  unfold zad
  rw [if_neg (by simp),List.take_length]
theorem zxf {n m:Nat} (Fa:Fit a n) (Fb:Fit b m) (hn:n≤400) (hm:m≤400):iter (za6 b) (a.IDs,a.Ops,0)=some ((z47 a b).IDs,(z47 a b).Ops):=by
 have hb1:=Fb.len; have hb2:=Fb.ids
 have main:=z2c (F:=za6 b) (b:=((z47 a b).IDs,(z47 a b).Ops)) b.Ops.length (fun i=>((zd4 a ((zaa b).take i)).IDs,(zd4 a ((zaa b).take i)).Ops,(i:Int))) (fun i hi=>?_) ?_
 ·
  exact main
 ·
  have hf:=zm8 Fa Fb i
  unfold za6
  simp only []
  rw [if_pos (by simp; omega),z0c (by omega),z0c hi]
  simp only [bS]
  have hp:=z100 (g:=⟨(zd4 a ((zaa b).take i)).IDs,(zd4 a ((zaa b).take i)).Ops⟩) hf (by omega) (b.IDs[i],b.Ops[i]) (Fb.op _ (List.getElem_mem hi)).1
  simp only at hp
  rw [hp,z0i (by omega)]
  simp only [bS]
  rw [zld hb2 hi,zl2]
 ·
  unfold za6
  simp only []
  rw [if_neg (by simp; omega)]
  unfold z47
  rw [List.take_of_length_le (by rw [zc8 hb2]; exact Nat.le_refl _)]
theorem z10c {c d:Int} (ha:z8c a=some c) (hb:z8c b=some d):zec [a,b]=some (if c≠0 then c else d):=by
 have e0:z6q [a,b] 0=if c≠0 then some (.inl (.inl c)) else some (.inr 1):=by
  unfold z6q
  rw [if_pos (by simp), show idx [a,b] (0:Int)=some a from rfl]
  simp only [bS]
  rw [ha]
  simp only [bS]
  by_cases h:c=0
  ·
   subst h; rfl
  ·
   rw [if_pos (by simpa using h),if_pos h]
 have e1:z6q [a,b] 1=if d≠0 then some (.inl (.inl d)) else some (.inr 2):=by
  unfold z6q
  rw [if_pos (by simp), show idx [a,b] (1:Int)=some b from rfl]
  simp only [bS]
  rw [hb]
  simp only [bS]
  by_cases h:d=0
  ·
   subst h; rfl
  ·
   rw [if_pos (by simpa using h),if_pos h]
 have e2:z6q [a,b] 2=some (.inl (.inr ())):=by
  unfold z6q
  rw [if_neg (by simp)]
 unfold zec
 by_cases h:c=0
 ·
  rw [if_neg (by simpa using h)] at e0
  rw [z16 e0,if_neg (by simpa using h)]
  by_cases h2:d=0
  ·
   rw [if_neg (by simpa using h2)] at e1
   rw [z16 e1,z0s e2,h2]; rfl
  ·
   rw [if_pos h2] at e1
   rw [z0s e1]; rfl
 ·
  rw [if_pos h] at e0
  rw [z0s e0,if_pos h]; rfl
end
section
open Go
variable {g h a b:z01} {n m:Nat}
theorem zuu:∀ {l:List Nat} {x:Nat},x∈l→x≤l.sum
 | [],_,h=>by simp at h
 | y::l,x,h=>by
  rw [List.sum_cons]
  rcases List.mem_cons.1 h with rfl | h
  ·
   omega
  ·
   have:=zuu h; omega
def z2v (g:z01) (x:ID):Option z06:=if x∈g.IDs then g.Ops[g.IDs.idxOf x]? else none
theorem z9q (F:Fit g n) {x:ID} {o:z06}:z2v g x=some o↔∃ i:Nat,g.IDs[i]? = some x∧g.Ops[i]? = some o:=by
 unfold z2v
 constructor
 ·
  intro h
  split at h
  ·
   rename_i hx
   exact ⟨_, by rw [List.getElem?_eq_getElem (List.idxOf_lt_length_of_mem hx)]; simp,h⟩
  ·
   cases h
 ·
  rintro ⟨i,h1,h2⟩
  obtain ⟨hi,rfl⟩:=List.getElem?_eq_some_iff.1 h1
  rw [if_pos (List.getElem_mem hi),zh1 F.ri hi,h2]
theorem z8u (F:Fit g n) {i:Nat} (hi:i<g.Ops.length):z2v g (g.IDs[i]'(by rw [F.ids]; exact hi))=some g.Ops[i] :=
 (z9q F).2 ⟨i,List.getElem?_eq_getElem (by rw [F.ids]; exact hi),List.getElem?_eq_getElem hi⟩
theorem ziy {x:ID} {o:z06} (h:z2v g x=some o):x∈g.IDs∧o∈g.Ops:=by
 unfold z2v at h
 split at h
 ·
  exact ⟨by assumption,List.mem_of_getElem? h⟩
 ·
  cases h
theorem zcc (F:Fit g n) {x:ID} (hx:x∈g.IDs):∃ o,z2v g x=some o:=by
 have h1:g.IDs.idxOf x<g.Ops.length:=by rw [← F.ids]; exact List.idxOf_lt_length_of_mem hx
 exact ⟨g.Ops[g.IDs.idxOf x], by unfold z2v; rw [if_pos hx,List.getElem?_eq_getElem h1]⟩
theorem ze9 {x:ID} (hx:x∉g.IDs):z2v g x=none:=by unfold z2v; rw [if_neg hx]
theorem zb4 (F:Fit g n) {x:ID}:(z2v g x).isSome=decide (x∈g.IDs):=by
 by_cases hx:x∈g.IDs
 ·
  obtain ⟨o,ho⟩:=zcc F hx; rw [ho,decide_eq_true hx]; rfl
 ·
  rw [ze9 hx,decide_eq_false hx]; rfl
theorem ztn (Fg:Fit g n) (Fh:Fit h m) (e:∀ x,z2v g x=z2v h x):g=h:=by
 have hids:g.IDs=h.IDs:=zg9 _ _ ((ze5 _).1 Fg.ri) ((ze5 _).1 Fh.ri) fun x=>by
  have h1:=zb4 Fg (x:=x)
  have h2:=zb4 Fh (x:=x)
  rw [e] at h1
  rw [h1] at h2
  simpa using h2
 have hl:g.Ops.length=h.Ops.length:=by rw [← Fg.ids,← Fh.ids,hids]
 have hops:g.Ops=h.Ops:=List.ext_getElem hl fun i h1 h2=>by
  have e1:=z8u Fg h1
  have e2:=z8u Fh h2
  have e3:g.IDs[i]'(by rw [Fg.ids]; exact h1)=h.IDs[i]'(by rw [Fh.ids]; exact h2):=by simp [hids]
  rw [e3,e,e2] at e1
  exact (Option.some.inj e1).symm
 cases g; cases h
 simp only at hids hops
 rw [hids,hops]
theorem zws (F:Fit g n) {p:ID × z06} (hp:p.2.Preds.length≤20∧p.2.Act.Key.length≤100∧p.2.Act.Value.Text.length≤100) (hx:p.1∉g.IDs) (y:ID):z2v (zon g p) y=if y=p.1 then some p.2 else z2v g y:=by
 have Fa:=zj1 F hp
 have hk:=ziw F.ri p.1
 have hkl:=hk.le
 have hi:=F.ids
 have e:zon g p=insG g (posF g.IDs p.1) p.1 p.2:=by unfold zon; rw [if_neg hx]
 rw [e] at Fa ⊢
 generalize posF g.IDs p.1=k at hk hkl Fa
 by_cases hy:y=p.1
 ·
  rw [if_pos hy,z9q Fa]
  exact ⟨k, by show (zff g.IDs k p.1)[k]? = _; rw [zou hkl,hy],zou (by omega)⟩
 ·
  rw [if_neg hy]
  cases ho:z2v g y with
  | some o =>
   obtain ⟨i,h1,h2⟩:=(z9q F).1 ho
   rw [z9q Fa]
   by_cases hik:i<k
   ·
    exact ⟨i, by show (zff g.IDs k p.1)[i]? = _; rw [zp8 hkl hik,h1], by show (zff g.Ops k p.2)[i]? = _; rw [zp8 (by omega) hik,h2]⟩
   ·
    exact ⟨i+1, by show (zff g.IDs k p.1)[i+1]? = _; rw [zp4 hkl (by omega)]; exact h1, by show (zff g.Ops k p.2)[i+1]? = _; rw [zp4 (by omega) (by omega)]; exact h2⟩
  | none =>
   refine ze9 fun hm=>?_
   rcases zr7.1 hm with rfl | hm
   ·
    exact hy rfl
   ·
    obtain ⟨o,h⟩:=zcc F hm; rw [h] at ho; cases ho
def zz7 (g:z01) (rk:ID→Nat):Prop:=∀ x o,z2v g x=some o→∀ p∈o.Preds,rk p<rk x
theorem zzd (G:zkh g) (F:Fit g n):∃ rk,zz7 g rk:=by
 obtain ⟨Q,-,q1,q2,q3⟩:=zqi G.e G.ins
 refine ⟨fun x=>Q.idxOf (g.IDs.idxOf x), fun x o ho p hp=>?_⟩
 obtain ⟨i,h1,h2⟩:=(z9q F).1 ho
 obtain ⟨hi,rfl⟩:=List.getElem?_eq_some_iff.1 h1
 obtain ⟨hio,rfl⟩:=List.getElem?_eq_some_iff.1 h2
 have hiQ:i∈Q:=(q3 i).2 ⟨hio,G.wf i hio⟩
 have hk:Q.idxOf i<Q.length:=List.idxOf_lt_length_of_mem hiQ
 show Q.idxOf (g.IDs.idxOf p)<Q.idxOf (g.IDs.idxOf g.IDs[i])
 rw [zh1 F.ri hi]
 have hm:=q2 (Q.idxOf i) hk (g.IDs.idxOf p) (by
  have:Q[Q.idxOf i]=i:=by simp
  rw [this]
  unfold z3k
  exact List.mem_map.2 ⟨p, by rw [z9z hio]; exact hp,rfl⟩)
 obtain ⟨j,hj,e⟩:=List.getElem_of_mem hm
 rw [List.length_take] at hj
 rw [List.getElem_take] at e
 have:Q.idxOf (g.IDs.idxOf p)≤j:=by
  rw [← e]
  exact Nat.le_of_not_lt fun c=>by
   have:=List.not_of_lt_findIdx (p:=fun y=>y==Q[j]) (xs:=Q) (i:=j) (by simpa [List.idxOf] using c)
   simp at this
 omega
structure zvs (g:z01):Prop where
 ops:∀ x o,z2v g x=some o→zie o=0∧sha (zik o)=x∧o.Preds.length≤4∧z96 o.Preds=true
 ins:∀ x o,z2v g x=some o→∀ p∈o.Preds,p∈g.IDs
 rk:∃ rk,zz7 g rk
theorem zqv (G:zkh g) (F:Fit g n):zvs g:=by
 refine ⟨fun x o ho=>?_, fun x o ho p hp=>?_,zzd G F⟩
 ·
  obtain ⟨i,h1,h2⟩:=(z9q F).1 ho
  obtain ⟨hi,rfl⟩:=List.getElem?_eq_some_iff.1 h1
  obtain ⟨hio,rfl⟩:=List.getElem?_eq_some_iff.1 h2
  obtain ⟨k1,k2⟩:=G.ops i hio
  exact ⟨k1,k2.trans (zco hi),G.e.op i hio⟩
 ·
  obtain ⟨i,h1,h2⟩:=(z9q F).1 ho
  obtain ⟨hio,rfl⟩:=List.getElem?_eq_some_iff.1 h2
  exact zgd G.ins i p (by rw [z9z hio]; exact hp)
theorem zza (F:Fit g 60) (S:zvs g):zkh g:=by
 have hl:=F.len
 have E:zf5 g:=⟨hl,F.ids,F.ri, fun i hi=>(S.ops _ _ (z8u F hi)).2.2⟩
 have hin:zif g=true:=by
  unfold zif
  rw [List.all_eq_true]
  intro o ho
  rw [List.all_eq_true]
  intro p hp
  obtain ⟨i,hi,rfl⟩:=List.getElem_of_mem ho
  simpa using S.ins _ _ (z8u F hi) p hp
 obtain ⟨rk,hrk⟩:=S.rk
 refine ⟨E, fun i hi=>?_,hin, fun i hi=>?_⟩
 ·
  obtain ⟨k1,k2,-⟩:=S.ops _ _ (z8u F hi)
  exact ⟨k1,k2.trans (zco (by rw [F.ids]; exact hi)).symm⟩
 ·
  have key:∀ r i (hi:i<g.Ops.length),rk (g.IDs[i]'(by rw [F.ids]; exact hi))=r→Wf (z3k g) i:=by
   intro r
   induction r using Nat.strongRecOn with
   | _ r ih =>
    intro i hi hr
    refine .mk i fun p hp=>?_
    unfold z3k at hp
    obtain ⟨x,hx,rfl⟩:=List.mem_map.1 hp
    rw [z9z hi] at hx
    have hlt:=hrk _ _ (z8u F hi) x hx
    have hxm:=S.ins _ _ (z8u F hi) x hx
    have hpl:g.IDs.idxOf x<g.IDs.length:=List.idxOf_lt_length_of_mem hxm
    refine ih (rk x) (by omega) (g.IDs.idxOf x) (by rw [← F.ids]; exact hpl) ?_
    congr 1
    simp
  exact key _ i hi rfl
theorem zsw {l:List (ID × z06)}:∀ {g:z01} {n:Nat},Fit g n→(∀ p∈l,p.2.Preds.length≤20∧p.2.Act.Key.length≤100∧p.2.Act.Value.Text.length≤100)→(l.map Prod.fst).Nodup→∀ y,z2v (zd4 g l) y=(z2v g y).or ((l.find? fun p=>decide (p.1=y)).map Prod.snd):=by
 induction l with
 | nil=>intro g n F _ _ y; simp [zd4]
 | cons p l ih =>
  intro g n F hp hnd y
  rw [List.map_cons,List.nodup_cons] at hnd
  have hpp:=hp p (by simp)
  have e:zd4 g (p::l)=zd4 (zon g p) l:=rfl
  rw [e,ih (zj1 F hpp) (fun q hq=>hp q (by simp [hq])) hnd.2,List.find?_cons]
  have hnf:p.1=y→l.find? (fun q=>decide (q.1=y))=none:=fun e=>by
   rw [List.find?_eq_none]
   intro q hq hh
   exact hnd.1 (List.mem_map.2 ⟨q,hq, by simpa [e] using hh⟩)
  by_cases hx:p.1∈g.IDs
  ·
   have ea:zon g p=g:=by unfold zon; rw [if_pos hx]
   rw [ea]
   by_cases hy:p.1=y
   ·
    obtain ⟨o,ho⟩:=zcc F hx
    rw [← hy,ho]; rfl
   ·
    rw [decide_eq_false hy]
  ·
   rw [zws F hpp hx]
   by_cases hy:p.1=y
   ·
    rw [if_pos hy.symm,decide_eq_true hy,ze9 (by rw [← hy]; exact hx)]; rfl
   ·
    rw [if_neg fun e=>hy e.symm,decide_eq_false hy]
theorem zy3 (F:Fit b m) (y:ID):((zaa b).find? fun p=>decide (p.1=y)).map Prod.snd=z2v b y:=by
 cases ho:z2v b y with
 | none =>
  have:(zaa b).find? (fun p=>decide (p.1=y))=none:=List.find?_eq_none.2 fun q hq hh=>by
   have h1:=(zjq hq).1
   have:q.1=y:=by simpa using hh
   rw [this] at h1
   obtain ⟨o,h⟩:=zcc F h1
   rw [h] at ho; cases ho
  rw [this]; rfl
 | some o =>
  cases hf:(zaa b).find? (fun p=>decide (p.1=y)) with
  | none =>
   obtain ⟨i,h1,h2⟩:=(z9q F).1 ho
   obtain ⟨hio,rfl⟩:=List.getElem?_eq_some_iff.1 h2
   have hi:=zjk F.ids hio
   have:=List.find?_eq_none.1 hf _ (List.mem_of_getElem? hi)
   rw [List.getElem?_eq_getElem (by rw [F.ids]; exact hio)] at h1
   simp only [Option.some.injEq] at h1
   simp [h1] at this
  | some q =>
   have h1:=List.find?_some hf
   have h2:=List.mem_of_find?_eq_some hf
   have h1:q.1=y:=by simpa using h1
   obtain ⟨i,hi,rfl⟩:=List.getElem_of_mem h2
   rw [zc8 F.ids] at hi
   have e:=zjk F.ids hi
   rw [List.getElem?_eq_getElem (by rw [zc8 F.ids]; exact hi)] at e
   simp only [Option.some.injEq] at e
   rw [e] at h1 ⊢
   have:=z8u F hi
   simp only at h1
   rw [h1,ho] at this
   exact this.symm
theorem zph (F:Fit b m):((zaa b).map Prod.fst).Nodup:=by
 unfold zaa
 rw [List.map_fst_zip (by rw [F.ids]; exact Nat.le_refl _)]
 exact zl1 F.ri
theorem zcj (Fa:Fit a n) (Fb:Fit b m) (y:ID):z2v (z47 a b) y=(z2v a y).or (z2v b y):=by
 unfold z47
 rw [zsw Fa (fun p hp=>Fb.op _ (zjq hp).2) (zph Fb),zy3 Fb]
theorem zcf (Fa:Fit a n) (Fb:Fit b m):Fit (z47 a b) (n+m):=by
 have:=zm8 Fa Fb b.Ops.length
 rw [List.take_of_length_le (by rw [zc8 Fb.ids]; exact Nat.le_refl _)] at this
 exact this
theorem zsm (Fa:Fit a n) (Fb:Fit b m) {x:ID}:x∈(z47 a b).IDs↔x∈a.IDs∨x∈b.IDs:=by
 have h1:=zb4 (zcf Fa Fb) (x:=x)
 rw [zcj Fa Fb,Option.isSome_or,zb4 Fa,zb4 Fb] at h1
 have:=congrArg (· = true) h1
 simp only [Bool.or_eq_true,decide_eq_true_eq,eq_iff_iff] at this
 exact this.symm
theorem zjn (Fa:Fit a n) (Fb:Fit b m):zc3 a b↔∀ x o q,z2v a x=some o→z2v b x=some q→o=q:=by
 constructor
 ·
  intro h x o q ho hq
  obtain ⟨i,h1,h2⟩:=(z9q Fb).1 hq
  obtain ⟨hi,rfl⟩:=List.getElem?_eq_some_iff.1 h1
  obtain ⟨hio,rfl⟩:=List.getElem?_eq_some_iff.1 h2
  have hm:=(ziy ho).1
  have:=h i hi hio hm
  unfold z2v at ho
  rw [if_pos hm,this] at ho
  exact (Option.some.inj ho).symm
 ·
  intro h i hi hio hm
  obtain ⟨o,ho⟩:=zcc Fa hm
  have:=h _ o _ ho (z8u Fb hio)
  unfold z2v at ho
  rw [if_pos hm,this] at ho
  exact ho
theorem zpe (Fa:Fit a n) (Fb:Fit b m) (Sa:zvs a) (Sb:zvs b) (hc:zc3 a b):zvs (z47 a b):=by
 obtain ⟨ra,hra⟩:=Sa.rk
 obtain ⟨rb,hrb⟩:=Sb.rk
 have hl:=zcj Fa Fb
 have cases2:∀ x o,z2v (z47 a b) x=some o→z2v a x=some o∨x∉a.IDs∧z2v b x=some o:=fun x o ho=>by
  rw [hl] at ho
  cases h:z2v a x with
  | some q=>rw [h] at ho; exact .inl ho
  | none =>
   rw [h] at ho
   refine .inr ⟨fun hm=>?_,ho⟩
   obtain ⟨q,hq⟩:=zcc Fa hm; rw [hq] at h; cases h
 refine ⟨fun x o ho=>?_, fun x o ho p hp=>?_, fun y=>if y∈a.IDs then ra y else (a.IDs.map ra).sum+1+rb y, fun x o ho p hp=>?_⟩
 ·
  rcases cases2 x o ho with h | ⟨-,h⟩
  ·
   exact Sa.ops x o h
  ·
   exact Sb.ops x o h
 ·
  rw [zsm Fa Fb]
  rcases cases2 x o ho with h | ⟨-,h⟩
  ·
   exact .inl (Sa.ins x o h p hp)
  ·
   exact .inr (Sb.ins x o h p hp)
 ·
  show (if p∈a.IDs then ra p else (a.IDs.map ra).sum+1+rb p)<(if x∈a.IDs then ra x else (a.IDs.map ra).sum+1+rb x)
  rcases cases2 x o ho with h | ⟨hx,h⟩
  ·
   rw [if_pos (Sa.ins x o h p hp),if_pos (ziy h).1]
   exact hra x o h p hp
  ·
   rw [if_neg hx]
   by_cases hpa:p∈a.IDs
   ·
    rw [if_pos hpa]
    have:ra p≤(a.IDs.map ra).sum:=zuu (List.mem_map.2 ⟨p,hpa,rfl⟩)
    omega
   ·
    rw [if_neg hpa]
    have:=hrb x o h p hp
    omega
end
section
open Go
variable {g a b:z01} {n m:Nat}
theorem zj0 (F:Fit g n) (hn:n≤900):z3j g=some g:=by
 have h1:=F.len
 have h2:=F.ids
 have main:=z2c (F:=z3f g) (b:=g.Ops) g.Ops.length (fun i=>(g.Ops.take i,(i:Int))) (fun i hi=>?_) ?_
 ·
  unfold z3j
  rw [z1l (by simp; omega)]
  simp only [bS,List.nil_append]
  rw [List.take_zero] at main
  rw [show (0:Int)=((0:Nat):Int) from rfl,main]
  simp only [bS]
 ·
  have h4:=(F.op _ (List.getElem_mem hi)).1
  unfold z3f z9j
  rw [if_pos (by simpa using hi)]
  simp only []
  rw [z0c hi]
  simp only [bS]
  rw [z1l (by simp; omega)]
  simp only [bS,List.nil_append]
  rw [z1l (by simp; omega),z0i (by omega)]
  simp only [bS]
  rw [List.take_add_one,List.getElem?_eq_getElem hi]; rfl
 ·
  unfold z3f
  rw [if_neg (by simp),List.take_length]
theorem zxd (h:Fit g n) (hn:n≤800) (p:ID × z06) (hp:p.2.Preds.length≤20∧p.2.Act.Key.length≤100∧p.2.Act.Value.Text.length≤100) (hx:p.1∉g.IDs):za5 g p.1 p.2=some (zon g p):=by
 have hf:=zj1 h hp
 obtain ⟨k,hk⟩:∃ k,k=posF g.IDs p.1:=⟨_,rfl⟩
 have hP:=ziw h.ri p.1
 unfold zon at hf ⊢
 rw [if_neg hx] at hf ⊢
 rw [← hk] at hf hP ⊢
 have hkl:=hP.le
 have hl:=h.len; have hi:=h.ids
 have main:=zd1 (F:=z81 g p.1) k (fun i s=>s=(i:Int)) (fun b=>b=(k:Int)) (fun i s hik hs=>?_) (fun s hs=>?_) 0 0 (Nat.zero_le _) rfl
 ·
  obtain ⟨b,b1,rfl⟩:=main
  unfold za5
  rw [b1]
  simp only [bS]
  rw [show (0:Int)=((0:Nat):Int) from rfl,zf8 (Nat.zero_le _) hkl]
  simp only [bS]
  rw [z1l (by simp; omega)]
  simp only [bS]
  rw [z1l (by simp; omega),zf8 hkl (Nat.le_refl _)]
  simp only [bS]
  rw [z1l (by simp; omega),zf8 (Nat.zero_le _) (by omega)]
  simp only [bS]
  rw [z1l (by simp; omega)]
  simp only [bS]
  rw [z1l (by simp; omega),zf8 (by omega) (Nat.le_refl _)]
  simp only [bS]
  rw [z1l (by simp; omega)]
  simp only [bS]
  have e:(⟨[]++List.take (k - 0) (List.drop 0 g.IDs)++[p.1]++List.take (g.IDs.length - k) (List.drop k g.IDs),[]++List.take (k - 0) (List.drop 0 g.Ops)++[p.2]++List.take (g.Ops.length - k) (List.drop k g.Ops)⟩:z01)=insG g k p.1 p.2:=by
   unfold insG zff
   rw [List.take_of_length_le (l:=List.drop k g.IDs) (by simp),List.take_of_length_le (l:=List.drop k g.Ops) (by simp)]
   simp
  rw [e,zj0 hf (by omega)]
  simp only [bS]
 ·
  subst hs
  have h:i<g.IDs.length:=by omega
  refine ⟨_,?_,rfl⟩
  unfold z81
  rw [if_pos (by simpa using h),z0c h]
  simp only [bS]
  rw [ztt]
  simp only [bS]
  rw [zq9,decide_eq_true (hP.lo i h hik),if_pos rfl,z0i (by omega)]
 ·
  subst hs
  refine ⟨_,?_,rfl⟩
  unfold z81
  by_cases h:k<g.IDs.length
  ·
   rw [if_pos (by simpa using h),z0c h]
   simp only [bS]
   rw [ztt]
   simp only [bS]
   rw [zq9,decide_eq_false (by have:=hP.hi k h (Nat.le_refl _); omega),if_neg (by simp)]
  ·
   rw [if_neg (by simpa using h)]
theorem zv1 (Fa:Fit a n) (Fb:Fit b m) (hn:n≤200) (hm:m≤200):z7x a b=some (z47 a b):=by
 have hb1:=Fb.len; have hb2:=Fb.ids
 have main:=z2c (F:=z63 b) (b:=z47 a b) b.IDs.length (fun i=>(zd4 a ((zaa b).take i),(i:Int))) (fun i hi=>?_) ?_
 ·
  unfold z7x
  rw [zj0 Fa (by omega)]
  simp only [bS]
  rw [show zd4 a ((zaa b).take 0)=a from rfl] at main
  rw [show (0:Int)=((0:Nat):Int) from rfl,main]
  simp only [bS]
 ·
  have hio:i<b.Ops.length:=by omega
  have Fj:=zm8 Fa Fb i
  have hjl:=Fj.len; have hji:=Fj.ids
  have e1:zd4 a ((zaa b).take (i+1))=zon (zd4 a ((zaa b).take i)) (b.IDs[i],b.Ops[i]):=by rw [zld Fb.ids hio,zl2]
  unfold z63
  simp only []
  rw [if_pos (by simpa using hi),z0c hi]
  simp only [bS]
  by_cases hx:b.IDs[i]∈(zd4 a ((zaa b).take i)).IDs
  ·
   rw [zz4 Fj.ri (by omega) hx]
   simp only [bS]
   rw [if_neg (by simp),z0i (by omega),e1]
   unfold zon
   rw [if_pos hx]
  ·
   rw [zz3 (by omega) hx]
   simp only [bS]
   rw [if_pos (by simp),z0c hio]
   simp only [bS]
   rw [zxd Fj (by omega) (b.IDs[i],b.Ops[i]) (Fb.op _ (List.getElem_mem hio)) hx,z0i (by omega)]
   simp only [bS]
   rw [e1]
 ·
  unfold z63
  simp only []
  rw [if_neg (by simp)]
  unfold z47
  rw [List.take_of_length_le (by rw [zc8 Fb.ids]; omega)]
theorem zrt (Fa:Fit a n) (Fb:Fit b m) (hn:n≤500) (hm:m≤500):∃ r,iter (z5o a b) 0=some r∧((r=.inl ((⟨[],[]⟩:z01),14)∧¬ zc3 a b)∨(r=.inr ()∧zc3 a b)):=by
 have ha1:=Fa.len; have ha2:=Fa.ids; have hb1:=Fb.len; have hb2:=Fb.ids
 have key:∀ k i,b.IDs.length - i=k→i≤b.IDs.length→(∀ j (h:j<b.IDs.length) (h2:j<b.Ops.length),j<i→b.IDs[j]∈a.IDs→a.Ops[a.IDs.idxOf b.IDs[j]]? = some b.Ops[j]) →
   ∃ r,iter (z5o a b) (i:Int)=some r∧((r=.inl ((⟨[],[]⟩:z01),14)∧¬ zc3 a b)∨(r=.inr ()∧zc3 a b)):=by
  intro k
  induction k with
  | zero =>
   intro i hk hi hall
   refine ⟨.inr (),z0s ?_,.inr ⟨rfl, fun j h h2 hj=>hall j h h2 (by omega) hj⟩⟩
   ·
    unfold z5o; rw [if_neg (by simp; omega)]
  | succ k ih =>
   intro i hk hi hall
   have hib:i<b.IDs.length:=by omega
   have hio:i<b.Ops.length:=by omega
   by_cases hx:b.IDs[i]∈a.IDs
   ·
    obtain ⟨q,q1,q2,-⟩:=zg5 a (by omega) Fa.ri b.IDs[i]
    obtain ⟨rfl,hq⟩:=q2 hx
    have hqo:a.IDs.idxOf b.IDs[i]<a.Ops.length:=by omega
    have hq20:=(Fa.op _ (List.getElem_mem hqo)).1
    by_cases hs:a.Ops[a.IDs.idxOf b.IDs[i]]=b.Ops[i]
    ·
     have hF:z5o a b (i:Int)=some (.inr ((i+1:Nat):Int)):=by
      unfold z5o
      rw [if_pos (by simpa using hib),z0c hib]
      simp only [bS]
      rw [q1,decide_eq_true hx]
      simp only [bS]
      rw [if_pos trivial,z0c hqo,z0c hio]
      simp only [bS]
      rw [zqf _ _ (by omega),decide_eq_true hs,z0i (by omega)]
      simp only [bS]
      rw [if_neg (by simp)]
     rw [z16 hF]
     refine ih (i+1) (by omega) (by omega) fun j h h2 hj hm=>?_
     by_cases e:j=i
     ·
      subst e; rw [List.getElem?_eq_getElem hqo,hs]
     ·
      exact hall j h h2 (by omega) hm
    ·
     refine ⟨.inl ((⟨[],[]⟩:z01),14),z0s ?_,.inl ⟨rfl, fun h=>hs ?_⟩⟩
     ·
      unfold z5o
      rw [if_pos (by simpa using hib),z0c hib]
      simp only [bS]
      rw [q1,decide_eq_true hx]
      simp only [bS]
      rw [if_pos trivial,z0c hqo,z0c hio]
      simp only [bS]
      rw [zqf _ _ (by omega),decide_eq_false hs]
      simp only [bS]
      rw [if_pos (by simp)]
     ·
      have:=h i hib hio hx
      rw [List.getElem?_eq_getElem hqo] at this
      simpa using this
   ·
    obtain ⟨q,q1,-⟩:=zi1 a (by omega) Fa.ri b.IDs[i] hx
    have hF:z5o a b (i:Int)=some (.inr ((i+1:Nat):Int)):=by
     unfold z5o
     rw [if_pos (by simpa using hib),z0c hib]
     simp only [bS]
     rw [q1]
     simp only [bS]
     rw [if_neg (by simp),z0i (by omega)]
     simp only [bS]
     rw [if_neg (by simp)]
    rw [z16 hF]
    refine ih (i+1) (by omega) (by omega) fun j h h2 hj hm=>?_
    by_cases e:j=i
    ·
     subst e; exact absurd hm hx
    ·
     exact hall j h h2 (by omega) hm
 exact key _ 0 rfl (Nat.zero_le _) fun j _ _ h=>by omega
theorem ztx (Ga:zkh a) (Gb:zkh b) (ha:z8c a=some 0) (hb:z8c b=some 0) (Fa:Fit a 60) (Fb:Fit b 60) (hc:zc3 a b) :
  zgm a b=some (if 60<(z47 a b).Ops.length then (⟨[],[]⟩,4) else (z47 a b,0)):=by
 obtain ⟨r,r1,r3⟩:=zrt Fa Fb (by omega) (by omega)
 rcases r3 with ⟨-,h⟩ | ⟨rfl,-⟩
 ·
  exact absurd hc h
 unfold zgm
 rw [z10c ha hb]
 simp only [bS]
 rw [if_neg (by simp),r1]
 simp only [zr8]
 rw [zo4 (by have:=Fa.ids; have:=Fa.len; omega),zve Fa (by omega)]
 simp only [bS]
 rw [zxf Fa Fb (by omega) (by omega)]
 simp only [bS]
 by_cases h:60<(z47 a b).Ops.length
 ·
  rw [if_pos (by simp; omega),if_pos h]
 ·
  rw [if_neg (by simp; omega),if_neg h]
theorem zms (F:Fit g n) (hn:n≤900):z9i g=some g:=by
 have h1:=F.len
 have h2:=F.ids
 have main:=z2c (F:=z8y (g.IDs,g.Ops)) (b:=g.Ops) g.Ops.length (fun i=>(g.Ops,(i:Int))) (fun i hi=>?_) ?_
 ·
  unfold z9i
  rw [zo4 (by omega)]
  simp only [bS]
  unfold z5b
  rw [z1l (by simp; omega)]
  simp only [bS,List.nil_append]
  rw [show (0:Int)=((0:Nat):Int) from rfl,main]
  simp only [bS]
 ·
  have h4:=(F.op _ (List.getElem_mem hi)).1
  unfold z8y
  simp only []
  rw [if_pos (by simpa using hi),z0c hi]
  simp only [bS]
  rw [zo4 (by omega),z0i (by omega)]
  simp only [bS]
  rw [Int.toNat_natCast, show ({ g.Ops[i] with Preds:=g.Ops[i].Preds }:z06)=g.Ops[i] from rfl,List.set_getElem_self]
 ·
  unfold z8y
  simp only []
  rw [if_neg (by simp)]
theorem zls (l:List z01) (hl:l.length≤1000) (F:∀ g∈l,Fit g 900):zay l=some l:=by
 have main:=z2c (F:=zaq l) (b:=l) l.length (fun i=>(l.take i,(i:Int))) (fun i hi=>?_) ?_
 ·
  unfold zay
  rw [List.take_zero] at main
  rw [show (0:Int)=((0:Nat):Int) from rfl,main]
  simp only [bS]
 ·
  unfold zaq
  simp only []
  rw [if_pos (by simpa using hi),z0c hi]
  simp only [bS]
  rw [zms (F _ (List.getElem_mem hi)) (by omega)]
  simp only [bS]
  rw [z1l (by simp; omega),z0i (by omega)]
  simp only [bS]
  rw [List.take_add_one,List.getElem?_eq_getElem hi]; rfl
 ·
  unfold zaq
  simp only []
  rw [if_neg (by simp),List.take_length]
theorem zei (l:List z01) (hl:l.length≤1000) (F:∀ g∈l,Fit g 900):z2f l=some l:=by
 have main:=z2c (F:=z38 l) (b:=l) l.length (fun i=>(l.take i,(i:Int))) (fun i hi=>?_) ?_
 ·
  unfold z2f
  rw [List.take_zero] at main
  rw [show (0:Int)=((0:Nat):Int) from rfl,main]
  simp only [bS]
 ·
  unfold z38
  simp only []
  rw [if_pos (by simpa using hi),z0c hi]
  simp only [bS]
  rw [zj0 (F _ (List.getElem_mem hi)) (by omega)]
  simp only [bS]
  rw [z1l (by simp; omega),z0i (by omega)]
  simp only [bS]
  rw [List.take_add_one,List.getElem?_eq_getElem hi]; rfl
 ·
  unfold z38
  simp only []
  rw [if_neg (by simp),List.take_length]
theorem z101 (l m:List ID) (hm:m.length≤1000):z1h l m=some (decide (l=m)):=by
 by_cases h:l.length=m.length
 ·
  exact zzu l m (by omega)
 ·
  have hn:l≠m:=fun e=>h (by rw [e])
  unfold z1h
  rw [if_pos (by simp; omega),decide_eq_false hn]
theorem zui (p q:z06) (hp:q.Preds.length≤1000):z7z p q=some (decide (p=q)):=by
 unfold z7z
 rw [z101 _ _ hp]
 simp only [bS]
 by_cases h1:p.Author=q.Author
 ·
  by_cases h2:p.Stamp=q.Stamp
  ·
   by_cases h3:p.Act=q.Act
   ·
    by_cases h4:p.Sig=q.Sig
    ·
     simp [zan,h1,h2,h3,h4]
    ·
     simp [zan,h1,h2,h3,h4]
   ·
    simp [zan,h1,h2,h3]
  ·
   simp [zan,h1,h2]
 ·
  simp [zan,h1]
end
section
open Go
variable {g a b:z01} {n m:Nat} {l:List z01}
structure Rp (g:z01):Prop where
 good:zkh g
 op:∀ o∈g.Ops,o.Preds.length≤20∧o.Act.Key.length≤100∧o.Act.Value.Text.length≤100
 wf:z42 g
theorem Rp.fit (h:Rp g):Fit g 60:=⟨h.good.e.ids,h.good.e.len,h.good.e.ri,h.op⟩
theorem Rp.chk (h:Rp g):z8c g=some 0∧z6x g=some 0:=by
 obtain ⟨c,c1,c2,c3⟩:=zq8 h.wf
 have:=c3.2 h.good
 subst this
 exact ⟨c1,c2⟩
def zey (l:List z01) (x:ID):Option z06:=l.findSome? fun g=>z2v g x
theorem zrg (l:List z01) (g:z01) (x:ID):zey (l++[g]) x=(zey l x).or (z2v g x):=by
 unfold zey
 rw [List.findSome?_append]
 simp
def zfi (l:List z01):Prop:=∀ g∈l,∀ h∈l,∀ x o q,z2v g x=some o→z2v h x=some q→o=q
theorem zhl {x:ID} {o:z06} (h:zey l x=some o):∃ g∈l,z2v g x=some o:=by
 unfold zey at h
 obtain ⟨g,h1,h2⟩:=List.exists_of_findSome?_eq_some h
 exact ⟨g,h1,h2⟩
theorem ze2 (A:zfi l) {g:z01} (hg:g∈l) {x:ID} {o:z06} (h:z2v g x=some o):zey l x=some o:=by
 cases hq:zey l x with
 | none =>
  unfold zey at hq
  have:=List.findSome?_eq_none_iff.1 hq g hg
  rw [h] at this; cases this
 | some q =>
  obtain ⟨g',h1,h2⟩:=zhl hq
  rw [A g hg g' h1 x o q h h2]
def zjb (g:z01) (P:ID→Option z06):Prop:=∃ x o q,z2v g x=some o∧P x=some q∧o≠q
theorem zny (hi:z96 g.IDs=true) {i:Nat} (h:i<g.IDs.length):g.IDs[i]∉g.IDs.take i:=fun hm=>by
 obtain ⟨j,hj,e⟩:=List.getElem_of_mem hm
 rw [List.length_take] at hj
 rw [List.getElem_take] at e
 have:=zq7 hi (by omega) h e
 omega
theorem zvp (R:Rp g) (P:ID→Option z06) :
  ∀ k i (s:List (ID × z06)),g.IDs.length - i=k→i≤g.IDs.length→(∀ x,zis s x=(if x∈g.IDs.take i then z2v g x else none).or (P x))→(∀ j (h:j<g.IDs.length) (h2:j<g.Ops.length) q,j<i→P g.IDs[j]=some q→q=g.Ops[j]) →
   ∃ r,iter (z3v g) (s,(i:Int))=some r∧((r=.inl (.inl (.inl 14))∧zjb g P)∨∃ t,r=.inr t∧¬ zjb g P∧∀ x,zis t x=(z2v g x).or (P x)):=by
 have F:=R.fit
 have hl:=F.len; have hids:=F.ids
 intro k
 induction k with
 | zero =>
  intro i s hk hi hs hno
  have hie:i=g.IDs.length:=by omega
  subst hie
  refine ⟨.inr s,z0s ?_,.inr ⟨s,rfl,?_, fun x=>?_⟩⟩
  ·
   unfold z3v
   simp only []
   rw [if_neg (by simp)]
  ·
   rintro ⟨x,o,q,h1,h2,h3⟩
   obtain ⟨j,j1,j2⟩:=(z9q F).1 h1
   obtain ⟨hj,rfl⟩:=List.getElem?_eq_some_iff.1 j1
   obtain ⟨hjo,rfl⟩:=List.getElem?_eq_some_iff.1 j2
   exact h3 (hno j hj hjo q hj h2).symm
  ·
   rw [hs,List.take_length]
   by_cases hx:x∈g.IDs
   ·
    rw [if_pos hx]
   ·
    rw [if_neg hx,ze9 hx]
 | succ k ih =>
  intro i s hk hi hs hno
  have hlt:i<g.IDs.length:=by omega
  have hio:i<g.Ops.length:=by omega
  have hnt:=zny F.ri hlt
  have hmi:zis s g.IDs[i]=P g.IDs[i]:=by rw [hs,if_neg hnt]; rfl
  have hlk:=z8u F hio
  have htk:g.IDs.take (i+1)=g.IDs.take i++[g.IDs[i]]:=by rw [List.take_add_one,List.getElem?_eq_getElem hlt]; rfl
  have hmem:∀ x,x∈g.IDs.take (i+1)↔x∈g.IDs.take i∨x=g.IDs[i]:=fun x=>by rw [htk,List.mem_append,List.mem_singleton]
  have hnext:∀ x,zis (zol s g.IDs[i] g.Ops[i]) x=(if x∈g.IDs.take (i+1) then z2v g x else none).or (P x):=fun x=>by
   rw [zn3]
   by_cases e:x=g.IDs[i]
   ·
    rw [if_pos e,if_pos ((hmem x).2 (.inr e)),e,hlk]
    rfl
   ·
    rw [if_neg e,hs]
    by_cases hx:x∈g.IDs.take i
    ·
     rw [if_pos hx,if_pos ((hmem x).2 (.inl hx))]
    ·
     rw [if_neg hx,if_neg (fun h=>((hmem x).1 h).elim hx e)]
  cases hP:P g.IDs[i] with
  | none =>
   have hF:z3v g (s,(i:Int))=some (.inr (zol s g.IDs[i] g.Ops[i],((i+1:Nat):Int))):=by
    unfold z3v
    simp only []
    rw [if_pos (by simpa using hlt),z0c hlt]
    simp only [bS]
    rw [hmi,hP]
    simp only [Option.isSome_none,Bool.false_eq_true,if_false,zr8]
    rw [z0c hio,z0i (by omega)]
    simp only [bS]
   rw [z16 hF]
   refine ih (i+1) _ (by omega) (by omega) hnext fun j h h2 q hj hq=>?_
   by_cases e:j=i
   ·
    subst e; rw [hP] at hq; cases hq
   ·
    exact hno j h h2 q (by omega) hq
  | some q =>
   have hq4:q.Preds.length≤1000∨True:=.inr trivial
   have hpre:z3v g (s,(i:Int))=if !decide (q=g.Ops[i]) then some (.inl (.inl (.inl (.inl 14)))) else some (.inr (zol s g.IDs[i] g.Ops[i],((i+1:Nat):Int))):=by
    have hsame:z7z q g.Ops[i]=some (decide (q=g.Ops[i])):=by
     have h4:=(F.op _ (List.getElem_mem hio)).1
     have:z7z q g.Ops[i]=some (decide (q=g.Ops[i])):=zui q g.Ops[i] (by omega)
     exact this
    unfold z3v
    simp only []
    rw [if_pos (by simpa using hlt),z0c hlt]
    simp only [bS]
    rw [hmi,hP]
    simp only [Option.isSome_some,if_true,Option.getD_some]
    rw [z0c hio,z0i (by omega)]
    simp only [bS]
    rw [hsame]
    simp only [bS]
    cases decide (q=g.Ops[i]) <;> rfl
   by_cases he:q=g.Ops[i]
   ·
    rw [decide_eq_true he,if_neg (by simp)] at hpre
    rw [z16 hpre]
    refine ih (i+1) _ (by omega) (by omega) hnext fun j h h2 q' hj hq=>?_
    by_cases e:j=i
    ·
     subst e; rw [hP] at hq; cases hq; exact he
    ·
     exact hno j h h2 q' (by omega) hq
   ·
    rw [decide_eq_false he,if_pos (by simp)] at hpre
    exact ⟨_,z0s hpre,.inl ⟨rfl,g.IDs[i],g.Ops[i],q,hlk,hP, fun e=>he e.symm⟩⟩
theorem zhz {g:z01} (A:zfi l):zfi (l++[g])↔¬ zjb g (zey l):=by
 constructor
 ·
  rintro B ⟨x,o,q,h1,h2,h3⟩
  obtain ⟨g',h4,h5⟩:=zhl h2
  exact h3 (B g (by simp) g' (by simp [h4]) x o q h1 h5)
 ·
  intro hc h hh h' hh' x o q h1 h2
  rcases List.mem_append.1 hh with k1 | k1 <;> rcases List.mem_append.1 hh' with k2 | k2
  ·
   exact A h k1 h' k2 x o q h1 h2
  ·
   rw [List.mem_singleton] at k2; subst k2
   refine Classical.byContradiction fun hne=>hc ⟨x,q,o,h2,ze2 A k1 h1, fun e=>hne e.symm⟩
  ·
   rw [List.mem_singleton] at k1; subst k1
   exact Classical.byContradiction fun hne=>hc ⟨x,o,q,h1,ze2 A k2 h2,hne⟩
  ·
   rw [List.mem_singleton] at k1 k2; subst k1; subst k2
   rw [h1] at h2; exact Option.some.inj h2
theorem zrf {i:Nat} (A:zfi l):zfi (l.take i):=fun g hg h hh=>A g (List.mem_of_mem_take hg) h (List.mem_of_mem_take hh)
theorem zwi (hl:l.length≤1000) (R:∀ g∈l,Rp g):∀ k i (s:List (ID × z06)),l.length - i=k→i≤l.length→zfi (l.take i)→(∀ x,zis s x=zey (l.take i) x) →
  ∃ r,iter (z65 l) (s,(i:Int))=some r∧((r=.inl 14∧¬ zfi l)∨(r=.inr ()∧zfi l)):=by
 intro k
 induction k with
 | zero =>
  intro i s hk hi A hs
  have hie:i=l.length:=by omega
  subst hie
  rw [List.take_length] at A
  refine ⟨.inr (),z0s ?_,.inr ⟨rfl,A⟩⟩
  unfold z65
  simp only []
  rw [if_neg (by simp)]
 | succ k ih =>
  intro i s hk hi A hs
  have hlt:i<l.length:=by omega
  have htk:l.take (i+1)=l.take i++[l[i]]:=by rw [List.take_add_one,List.getElem?_eq_getElem hlt]; rfl
  obtain ⟨r,r1,r2⟩:=zvp (R _ (List.getElem_mem hlt)) (zey (l.take i)) _ 0 s rfl (Nat.zero_le _) (fun x=>by rw [hs]; simp) (fun j _ _ _ h=>by omega)
  have hF:z65 l (s,(i:Int))=z3p (some r) fun s15=>some (.inr (s15,((i+1:Nat):Int))):=by
   unfold z65
   simp only []
   rw [if_pos (by simpa using hlt),z0c hlt]
   simp only [bS]
   rw [show (0:Int)=((0:Nat):Int) from rfl,r1,z0i (by omega)]
  rcases r2 with ⟨rfl,hc⟩ | ⟨t,rfl,hc,ht⟩
  ·
   refine ⟨.inl 14,z0s (by rw [hF]; rfl),.inl ⟨rfl, fun B=>?_⟩⟩
   have:=zrf (i:=i+1) B
   rw [htk] at this
   exact (zhz A).1 this hc
  ·
   rw [zr8] at hF
   rw [z16 hF]
   have A':zfi (l.take (i+1)):=by rw [htk]; exact (zhz A).2 hc
   refine ih (i+1) t (by omega) (by omega) A' fun x=>?_
   rw [ht,htk,zrg]
   cases h1:z2v l[i] x with
   | none=>simp
   | some o =>
    cases h2:zey (l.take i) x with
    | none=>rfl
    | some q =>
     have:o=q:=Classical.byContradiction fun hne=>hc ⟨x,o,q,h1,h2,hne⟩
     rw [this]
theorem zu7 (Ra:Rp a) (Rb:Rp b):∃ c,z8n a b=some c∧(c=true↔zjb a (z2v b)):=by
 have Fa:=Ra.fit; have Fb:=Rb.fit
 have ha1:=Fa.len; have ha2:=Fa.ids; have hb1:=Fb.len; have hb2:=Fb.ids
 have key:∀ k i,a.IDs.length - i=k→i≤a.IDs.length→(∀ j (h:j<a.IDs.length) (h2:j<a.Ops.length) q,j<i→z2v b a.IDs[j]=some q→q=a.Ops[j]) →
   ∃ r,iter (z37 a b) (i:Int)=some r∧((r=.inl true∧zjb a (z2v b))∨(r=.inr ()∧¬ zjb a (z2v b))):=by
  intro k
  induction k with
  | zero =>
   intro i hk hi hno
   have hie:i=a.IDs.length:=by omega
   subst hie
   refine ⟨.inr (),z0s (by unfold z37; rw [if_neg (by simp)]),.inr ⟨rfl,?_⟩⟩
   rintro ⟨x,o,q,h1,h2,h3⟩
   obtain ⟨j,j1,j2⟩:=(z9q Fa).1 h1
   obtain ⟨hj,rfl⟩:=List.getElem?_eq_some_iff.1 j1
   obtain ⟨hjo,rfl⟩:=List.getElem?_eq_some_iff.1 j2
   exact h3 (hno j hj hjo q hj h2).symm
  | succ k ih =>
   intro i hk hi hno
   have hlt:i<a.IDs.length:=by omega
   have hio:i<a.Ops.length:=by omega
   have hlk:=z8u Fa hio
   by_cases hx:a.IDs[i]∈b.IDs
   ·
    have hqo:b.IDs.idxOf a.IDs[i]<b.Ops.length:=by rw [← hb2]; exact List.idxOf_lt_length_of_mem hx
    have hlb:z2v b a.IDs[i]=some b.Ops[b.IDs.idxOf a.IDs[i]]:=by unfold z2v; rw [if_pos hx,List.getElem?_eq_getElem hqo]
    have hpre:z37 a b (i:Int)=if !decide (a.Ops[i]=b.Ops[b.IDs.idxOf a.IDs[i]]) then some (.inl (.inl true)) else some (.inr ((i+1:Nat):Int)):=by
     have h4:=(Fa.op _ (List.getElem_mem hio)).1
     unfold z37
     rw [if_pos (by simpa using hlt),z0c hlt]
     simp only [bS]
     rw [zz4 Fb.ri (by omega) hx]
     simp only [bS]
     rw [if_pos (by simp),z0c hio,z0c hqo]
     simp only [bS]
     rw [zw8 _ _ (by omega),z0i (by omega)]
     simp only [bS]
    by_cases he:a.Ops[i]=b.Ops[b.IDs.idxOf a.IDs[i]]
    ·
     rw [decide_eq_true he,if_neg (by simp)] at hpre
     rw [z16 hpre]
     refine ih (i+1) (by omega) (by omega) fun j h h2 q hj hq=>?_
     by_cases e:j=i
     ·
      subst e; rw [hlb] at hq; cases hq; exact he.symm
     ·
      exact hno j h h2 q (by omega) hq
    ·
     rw [decide_eq_false he,if_pos (by simp)] at hpre
     exact ⟨_,z0s hpre,.inl ⟨rfl,a.IDs[i],a.Ops[i],_,hlk,hlb,he⟩⟩
   ·
    have hpre:z37 a b (i:Int)=some (.inr ((i+1:Nat):Int)):=by
     unfold z37
     rw [if_pos (by simpa using hlt),z0c hlt]
     simp only [bS]
     rw [zz3 (by omega) hx]
     simp only [bS]
     rw [if_neg (by simp),z0i (by omega)]
    rw [z16 hpre]
    refine ih (i+1) (by omega) (by omega) fun j h h2 q hj hq=>?_
    by_cases e:j=i
    ·
     subst e; rw [ze9 hx] at hq; cases hq
    ·
     exact hno j h h2 q (by omega) hq
 obtain ⟨r,r1,r2⟩:=key _ 0 rfl (Nat.zero_le _) fun j _ _ _ h=>by omega
 unfold z8n
 rw [show (0:Int)=((0:Nat):Int) from rfl,r1]
 rcases r2 with ⟨rfl,hc⟩ | ⟨rfl,hc⟩
 ·
  exact ⟨true,rfl, by simp [hc]⟩
 ·
  exact ⟨false,rfl, by simp [hc]⟩
theorem zsx (hl:l.length≤1000) (R:∀ g∈l,Rp g) {i:Nat} (hi:i<l.length):∃ r,iter (z3t l (i:Int)) 0=some r∧((r=.inl (.inl (.inl 14))∧∃ k,∃ h:k<l.length,k<i∧zjb l[i] (z2v l[k]))∨(r=.inr ()∧∀ k (h:k<l.length),k<i→¬ zjb l[i] (z2v l[k]))):=by
 have key:∀ d k,i - k=d→k≤i→(∀ j (h:j<l.length),j<k→¬ zjb l[i] (z2v l[j])) →
   ∃ r,iter (z3t l (i:Int)) (k:Int)=some r∧((r=.inl (.inl (.inl 14))∧∃ k,∃ h:k<l.length,k<i∧zjb l[i] (z2v l[k]))∨(r=.inr ()∧∀ k (h:k<l.length),k<i→¬ zjb l[i] (z2v l[k]))):=by
  intro d
  induction d with
  | zero =>
   intro k hd hk hno
   have:k=i:=by omega
   subst this
   exact ⟨.inr (),z0s (by unfold z3t; rw [if_neg (by simp)]),.inr ⟨rfl, fun j h hj=>hno j h hj⟩⟩
  | succ d ih =>
   intro k hd hk hno
   have hkl:k<l.length:=by omega
   obtain ⟨c,c1,c2⟩:=zu7 (R _ (List.getElem_mem hi)) (R _ (List.getElem_mem hkl))
   have hF:z3t l (i:Int) (k:Int)=if c then some (.inl (.inl (.inl (.inl 14)))) else some (.inr ((k+1:Nat):Int)):=by
    unfold z3t
    rw [if_pos (by simp; omega),z0c hi,z0c hkl]
    simp only [bS]
    rw [c1,z0i (by omega)]
    simp only [bS]
   cases c with
   | true=>exact ⟨_,z0s hF,.inl ⟨rfl,k,hkl, by omega,c2.1 rfl⟩⟩
   | false =>
    rw [if_neg (by simp)] at hF
    rw [z16 hF]
    refine ih (k+1) (by omega) (by omega) fun j h hj=>?_
    by_cases e:j=k
    ·
     subst e; exact fun hc=>by have:=c2.2 hc; cases this
    ·
     exact hno j h (by omega)
 exact key _ 0 rfl (Nat.zero_le _) fun j _ h=>by omega
theorem zrd (hl:l.length≤1000) (R:∀ g∈l,Rp g):∀ d i,l.length - i=d→i≤l.length→zfi (l.take i) →
  ∃ r,iter (z52 l) (i:Int)=some r∧((r=.inl 14∧¬ zfi l)∨(r=.inr ()∧zfi l)):=by
 intro d
 induction d with
 | zero =>
  intro i hd hi A
  have:i=l.length:=by omega
  subst this
  rw [List.take_length] at A
  exact ⟨.inr (),z0s (by unfold z52; rw [if_neg (by simp)]),.inr ⟨rfl,A⟩⟩
 | succ d ih =>
  intro i hd hi A
  have hlt:i<l.length:=by omega
  have htk:l.take (i+1)=l.take i++[l[i]]:=by rw [List.take_add_one,List.getElem?_eq_getElem hlt]; rfl
  obtain ⟨r,r1,r2⟩:=zsx hl R hlt
  have hF:z52 l (i:Int)=z3p (some r) fun _=>some (.inr ((i+1:Nat):Int)):=by
   unfold z52
   rw [if_pos (by simpa using hlt),r1,z0i (by omega)]
   rfl
  rcases r2 with ⟨rfl,k,hk,hki,hc⟩ | ⟨rfl,hno⟩
  ·
   refine ⟨.inl 14,z0s (by rw [hF]; rfl),.inl ⟨rfl, fun B=>?_⟩⟩
   obtain ⟨x,o,q,h1,h2,h3⟩:=hc
   exact h3 (B _ (List.getElem_mem hlt) _ (List.getElem_mem hk) x o q h1 h2)
  ·
   rw [zr8] at hF
   rw [z16 hF]
   refine ih (i+1) (by omega) (by omega) ?_
   rw [htk,zhz A]
   rintro ⟨x,o,q,h1,h2,h3⟩
   obtain ⟨g',h4,h5⟩:=zhl h2
   obtain ⟨k,hk,e⟩:=List.getElem_of_mem h4
   rw [List.length_take] at hk
   rw [List.getElem_take] at e
   subst e
   exact hno k (by omega) (by omega) ⟨x,o,q,h1,h5,h3⟩
theorem zrw (hl:l.length≤1000) (hw:∀ g∈l,z42 g):∀ d i,l.length - i=d→i≤l.length→(∀ g∈l.take i,zkh g) →
  ∃ r,iter (z4w l) (i:Int)=some r∧iter (z3x l) (i:Int)=some r∧((∃ c,r=.inl c∧c≠0∧¬ ∀ g∈l,zkh g)∨(r=.inr ()∧∀ g∈l,zkh g)):=by
 intro d
 induction d with
 | zero =>
  intro i hd hi hG
  have:i=l.length:=by omega
  subst this
  rw [List.take_length] at hG
  exact ⟨.inr (),z0s (by unfold z4w; rw [if_neg (by simp)]),z0s (by unfold z3x; rw [if_neg (by simp)]),.inr ⟨rfl,hG⟩⟩
 | succ d ih =>
  intro i hd hi hG
  have hlt:i<l.length:=by omega
  have htk:l.take (i+1)=l.take i++[l[i]]:=by rw [List.take_add_one,List.getElem?_eq_getElem hlt]; rfl
  obtain ⟨c,c1,c2,c3⟩:=zq8 (hw _ (List.getElem_mem hlt))
  by_cases hc:c=0
  ·
   subst hc
   have hF:z4w l (i:Int)=some (.inr ((i+1:Nat):Int)):=by
    unfold z4w
    rw [if_pos (by simpa using hlt),z0c hlt]
    simp only [bS]
    rw [c1,z0i (by omega)]
    rfl
   have hR:z3x l (i:Int)=some (.inr ((i+1:Nat):Int)):=by
    unfold z3x
    rw [if_pos (by simpa using hlt),z0c hlt]
    simp only [bS]
    rw [c2,z0i (by omega)]
    rfl
   rw [z16 hF,z16 hR]
   refine ih (i+1) (by omega) (by omega) fun g hg=>?_
   rw [htk] at hg
   rcases List.mem_append.1 hg with hg | hg
   ·
    exact hG g hg
   ·
    rw [List.mem_singleton] at hg; subst hg; exact c3.1 rfl
  ·
   refine ⟨.inl c,z0s ?_,z0s ?_,.inl ⟨c,rfl,hc, fun h=>hc (c3.2 (h _ (List.getElem_mem hlt)))⟩⟩
   ·
    unfold z4w
    rw [if_pos (by simpa using hlt),z0c hlt]
    simp only [bS]
    rw [c1]
    simp only [bS]
    rw [if_pos (by simpa using hc)]
   ·
    unfold z3x
    rw [if_pos (by simpa using hlt),z0c hlt]
    simp only [bS]
    rw [c2]
    simp only [bS]
    rw [if_pos (by simpa using hc)]
theorem zvr (hl:l.length≤1000) (hw:∀ g∈l,z42 g) (hop:∀ g∈l,∀ o∈g.Ops,o.Preds.length≤20∧o.Act.Key.length≤100∧o.Act.Value.Text.length≤100) :
  ∃ c,z26 l=some c∧z1n l=some c∧(c=0↔l.length≤5∧(∀ g∈l,Rp g)∧zfi l):=by
 unfold z26 z1n
 by_cases h5:5<l.length
 ·
  rw [if_pos (by simp; omega),if_pos (by simp; omega)]
  exact ⟨4,rfl,rfl, by simp; omega⟩
 ·
  rw [if_neg (by simp; omega),if_neg (by simp; omega)]
  obtain ⟨r,r1,r2,r3⟩:=zrw hl hw _ 0 rfl (Nat.zero_le _) (by simp)
  rw [show (0:Int)=((0:Nat):Int) from rfl,r1,r2]
  rcases r3 with ⟨c,rfl,hc,hn⟩ | ⟨rfl,hG⟩
  ·
   exact ⟨c,rfl,rfl, fun h=>absurd h hc, fun h=>absurd (fun g hg=>(h.2.1 g hg).good) hn⟩
  ·
   have R:∀ g∈l,Rp g:=fun g hg=>⟨hG g hg,hop g hg,hw g hg⟩
   obtain ⟨p,p1,p2⟩:=zwi hl R _ 0 [] rfl (Nat.zero_le _) (fun g hg=>by simp at hg) (fun x=>rfl)
   obtain ⟨q,q1,q2⟩:=zrd hl R _ 0 rfl (Nat.zero_le _) (fun g hg=>by simp at hg)
   simp only [zr8]
   rw [p1,q1]
   rcases p2 with ⟨rfl,h1⟩ | ⟨rfl,h1⟩ <;> rcases q2 with ⟨rfl,h2⟩ | ⟨rfl,h2⟩
   ·
    exact ⟨14,rfl,rfl, by simp [h1]⟩
   ·
    exact absurd h2 h1
   ·
    exact absurd h1 h2
   ·
    exact ⟨0,rfl,rfl, by simp [h1]; exact ⟨by omega,R⟩⟩
theorem zro (hl:l.length≤5) (R:∀ g∈l,Rp g) (A:zfi l):z26 l=some 0∧z1n l=some 0:=by
 obtain ⟨c,c1,c2,c3⟩:=zvr (l:=l) (by omega) (fun g hg=>(R g hg).wf) (fun g hg=>(R g hg).op)
 have:=c3.2 ⟨hl,R,A⟩
 subst this
 exact ⟨c1,c2⟩
end
section
open Go
variable {g a b:z01} {n m:Nat} {l:List z01}
theorem z11m (Fa:Fit a n) (Fb:Fit b m) {o:z06} (h:o∈(z47 a b).Ops):o∈a.Ops∨o∈b.Ops:=by
 obtain ⟨i,hi,rfl⟩:=List.getElem_of_mem h
 have hg:=z8u (zcf Fa Fb) hi
 rw [zcj Fa Fb] at hg
 generalize (z47 a b).IDs[i]'(by rw [(zcf Fa Fb).ids]; exact hi)=x at hg
 cases ho:z2v a x with
 | some q=>rw [ho] at hg; exact .inl (by have:=(ziy ho).2; simp at hg; rw [← hg]; exact this)
 | none=>rw [ho] at hg; exact .inr (ziy (by simpa using hg)).2
theorem z125 (F:Fit g n) (hn:n≤1000) (h:∀ o∈g.Ops,zj7 o):z42 g:=by
 have h1:=F.len; have h2:=F.ids
 exact ⟨⟨fun x _ y _=>trivial, by omega⟩,⟨h, by omega⟩,trivial⟩
theorem Rp.union (Ra:Rp a) (Rb:Rp b) (hc:zc3 a b) (hl:(z47 a b).Ops.length≤60):Rp (z47 a b):=by
 have F:=zcf Ra.fit Rb.fit
 refine ⟨zza ⟨F.ids,hl,F.ri,F.op⟩ (zpe Ra.fit Rb.fit (zqv Ra.good Ra.fit) (zqv Rb.good Rb.fit) hc),F.op,z125 F (by omega) fun o ho=>?_⟩
 rcases z11m Ra.fit Rb.fit ho with h | h
 ·
  exact Ra.wf.2.1.1 o h
 ·
  exact Rb.wf.2.1.1 o h
structure Rps (l:List z01):Prop where
 len:l.length≤5
 rp:∀ g∈l,Rp g
 ag:zfi l
theorem Rps.chk (h:Rps l):z26 l=some 0∧z1n l=some 0:=zro h.len h.rp h.ag
theorem Rps.nc (h:Rps l) (ha:a∈l) (hb:b∈l):zc3 a b:=(zjn (h.rp a ha).fit (h.rp b hb).fit).2 (h.ag a ha b hb)
theorem Rps.sub (h:Rps l) {k:List z01} (hl:k.length≤5) (hr:∀ g∈k,Rp g) (hs:∀ g∈k,∀ x o,z2v g x=some o→zey l x=some o):Rps k :=
 ⟨hl,hr, fun g hg h' hh x o q h1 h2=>by
  have e1:=hs g hg x o h1
  have e2:=hs h' hh x q h2
  rw [e1] at e2; exact Option.some.inj e2⟩
theorem zxg (h:Rps l) (ha:a∈l) (hb:b∈l) {x:ID} {o:z06} (ho:z2v (z47 a b) x=some o):zey l x=some o:=by
 rw [zcj (h.rp a ha).fit (h.rp b hb).fit] at ho
 cases hq:z2v a x with
 | some q =>
  rw [hq] at ho
  have:q=o:=by simpa using ho
  subst this
  exact ze2 h.ag ha hq
 | none=>rw [hq] at ho; exact ze2 h.ag hb (by simpa using ho)
def Two (n:Nat) (m:z0b):Prop:=(0≤m.A∧m.A<n)∧(0≤m.B∧m.B<n)∧m.A≠m.B
instance (n:Nat) (m:z0b):Decidable (Two n m):=by unfold Two; exact inferInstance
def atG (l:List z01) (i:Int):z01:=l[i.toNat]?.getD ⟨[],[]⟩
theorem ze3 {i:Int} (h0:0≤i) (h:i<(l.length:Int)):∃ hi:i.toNat<l.length,atG l i=l[i.toNat]:=by
 have hi:i.toNat<l.length:=by omega
 exact ⟨hi, by unfold atG; rw [List.getElem?_eq_getElem hi]; rfl⟩
def zhf (l:List z01) (m:z0b):Sum Int (List z01) :=
 if Two l.length m then
  if 60<(z47 (atG l m.A) (atG l m.B)).Ops.length then .inl 4 else .inr ((l.set m.A.toNat (z47 (atG l m.A) (atG l m.B))).set m.B.toNat (z47 (atG l m.A) (atG l m.B)))
 else .inl 2
theorem zy4 (n:Nat) (m:z0b):zed (n:Int) m=some (decide (Two n m)):=by
 unfold zed
 by_cases h1:0≤m.A∧0≤m.B
 ·
  rw [if_pos (by simp; omega)]
  by_cases h2:m.A<n∧m.B<n
  ·
   rw [if_pos (by simp; omega),Option.some.injEq,Bool.eq_iff_iff,decide_eq_true_iff,bne_iff_ne]
   unfold Two
   exact ⟨fun h=>⟨⟨h1.1,h2.1⟩,⟨h1.2,h2.2⟩,h⟩, fun h=>h.2.2⟩
  ·
   have:¬ Two n m:=fun h=>h2 ⟨h.1.2,h.2.1.2⟩
   rw [if_neg (by simp; omega),decide_eq_false this]
 ·
  have:¬ Two n m:=fun h=>h1 ⟨h.1.1,h.2.1.1⟩
  rw [if_neg (by simp; omega),decide_eq_false this]
theorem z10l (n:Nat) (m:z0b):za3 (n:Int) m=some (decide (Two n m)):=by
 unfold za3
 by_cases h1:0≤m.A
 ·
  rw [if_pos (by simpa using h1)]
  by_cases h2:m.A<n
  ·
   rw [if_pos (by simpa using h2)]
   by_cases h3:0≤m.B
   ·
    rw [if_pos (by simpa using h3)]
    by_cases h4:m.B<n
    ·
     rw [if_pos (by simpa using h4),Option.some.injEq,Bool.eq_iff_iff,decide_eq_true_iff,bne_iff_ne]
     unfold Two
     exact ⟨fun h=>⟨⟨h1,h2⟩,⟨h3,h4⟩,h⟩, fun h=>h.2.2⟩
    ·
     have:¬ Two n m:=fun h=>h4 h.2.1.2
     rw [if_neg (by simpa using h4),decide_eq_false this]
   ·
    have:¬ Two n m:=fun h=>h3 h.2.1.1
    rw [if_neg (by simpa using h3),decide_eq_false this]
  ·
   have:¬ Two n m:=fun h=>h2 h.1.2
   rw [if_neg (by simpa using h2),decide_eq_false this]
 ·
  have:¬ Two n m:=fun h=>h1 h.1.1
  rw [if_neg (by simpa using h1),decide_eq_false this]
theorem zmg {m:z0b} {e:Int} (h:zhf l m=.inl e):e≠0:=by
 unfold zhf at h
 split at h
 ·
  split at h
  ·
   cases h; decide
  ·
   cases h
 ·
  cases h; decide
theorem zpw {m:z0b} {k:List z01} (h:zhf l m=.inr k):k.length=l.length:=by
 unfold zhf at h
 split at h
 ·
  split at h
  ·
   cases h
  ·
   cases h; simp
 ·
  cases h
theorem zj9 (h:Rps l) {m:z0b} {k:List z01} (hm:zhf l m=.inr k):Rps k∧∀ g∈k,∀ x o,z2v g x=some o→zey l x=some o:=by
 have hlen:=zpw hm
 unfold zhf at hm
 split at hm
 ·
  rename_i h2
  obtain ⟨hA,hB,-⟩:=h2
  obtain ⟨ia,ea⟩:=ze3 hA.1 hA.2
  obtain ⟨ib,eb⟩:=ze3 hB.1 hB.2
  have ma:atG l m.A∈l:=by rw [ea]; exact List.getElem_mem _
  have mb:atG l m.B∈l:=by rw [eb]; exact List.getElem_mem _
  split at hm
  ·
   cases hm
  ·
   rename_i h60
   cases hm
   have Ru:=(h.rp _ ma).union (h.rp _ mb) (h.nc ma mb) (by omega)
   have hin:∀ g,g∈(l.set m.A.toNat (z47 (atG l m.A) (atG l m.B))).set m.B.toNat (z47 (atG l m.A) (atG l m.B))→g∈l∨g=z47 (atG l m.A) (atG l m.B):=fun g hg=>by
    rcases List.mem_or_eq_of_mem_set hg with h1 | h1
    ·
     exact List.mem_or_eq_of_mem_set h1
    ·
     exact .inr h1
   have hs:∀ g∈(l.set m.A.toNat (z47 (atG l m.A) (atG l m.B))).set m.B.toNat (z47 (atG l m.A) (atG l m.B)),∀ x o,z2v g x=some o→zey l x=some o:=fun g hg x o ho=>by
    rcases hin g hg with h1 | rfl
    ·
     exact ze2 h.ag h1 ho
    ·
     exact zxg h ma mb ho
   refine ⟨h.sub (by rw [hlen]; exact h.len) (fun g hg=>?_) hs,hs⟩
   rcases hin g hg with h1 | rfl
   ·
    exact h.rp g h1
   ·
    exact Ru
 ·
  cases hm
theorem zns (h:Rps l) (m:z0b):zb5 l m=some (match zhf l m with | .inl e=>(e,l) | .inr k=>(0,k)):=by
 unfold zb5 zhf
 rw [zy4]
 simp only [bS]
 by_cases h2:Two l.length m
 ·
  rw [decide_eq_true h2,if_pos h2]
  obtain ⟨hA,hB,hne⟩:=h2
  obtain ⟨ia,ea⟩:=ze3 hA.1 hA.2
  obtain ⟨ib,eb⟩:=ze3 hB.1 hB.2
  have ma:atG l m.A∈l:=by rw [ea]; exact List.getElem_mem _
  have mb:atG l m.B∈l:=by rw [eb]; exact List.getElem_mem _
  have Ra:=h.rp _ ma; have Rb:=h.rp _ mb
  rw [if_neg (by simp),zdq hA.1 ia,zdq hB.1 ib]
  simp only [bS]
  rw [← ea,← eb,ztx Ra.good Rb.good Ra.chk.1 Rb.chk.1 Ra.fit Rb.fit (h.nc ma mb)]
  simp only [bS]
  by_cases h60:60<(z47 (atG l m.A) (atG l m.B)).Ops.length
  ·
   rw [if_pos h60,if_pos h60]
   rfl
  ·
   rw [if_neg h60,if_neg h60]
   simp only []
   rw [if_neg (by simp),zms (zcf Ra.fit Rb.fit) (by omega)]
   simp only [bS]
   rw [zdq hB.1 (by rw [List.length_set]; exact ib)]
   simp only [bS]
 ·
  rw [decide_eq_false h2,if_neg h2]
  rfl
theorem zpz (h:Rps l) (m:z0b):z8h l m=some (match zhf l m with | .inl e=>([],e) | .inr k=>(k,0)):=by
 unfold z8h zhf
 rw [z10l]
 simp only [bS]
 by_cases h2:Two l.length m
 ·
  rw [decide_eq_true h2,if_pos h2]
  obtain ⟨hA,hB,hne⟩:=h2
  obtain ⟨ia,ea⟩:=ze3 hA.1 hA.2
  obtain ⟨ib,eb⟩:=ze3 hB.1 hB.2
  have ma:atG l m.A∈l:=by rw [ea]; exact List.getElem_mem _
  have mb:atG l m.B∈l:=by rw [eb]; exact List.getElem_mem _
  have Ra:=h.rp _ ma; have Rb:=h.rp _ mb
  rw [if_neg (by simp),zdq hA.1 ia,zdq hB.1 ib]
  simp only [bS]
  rw [← ea,← eb,zv1 Ra.fit Rb.fit (by omega) (by omega)]
  simp only [bS]
  by_cases h60:60<(z47 (atG l m.A) (atG l m.B)).Ops.length
  ·
   rw [if_pos (by simp; omega),if_pos h60]
  ·
   have F900:∀ g∈l,Fit g 900:=fun g hg=>⟨(h.rp g hg).fit.ids, by have:=(h.rp g hg).fit.len; omega,(h.rp g hg).fit.ri,(h.rp g hg).op⟩
   rw [if_neg (by simp; omega),if_neg h60,zei l (by have:=h.len; omega) F900]
   simp only [bS]
   rw [zj0 (zcf Ra.fit Rb.fit) (by omega)]
   simp only [bS]
   rw [zdq hA.1 ia,zdq hB.1 (by rw [List.length_set]; exact ib)]
   simp only [bS]
 ·
  rw [decide_eq_false h2,if_neg h2]
  rfl
def zbj:List z01→List z0b→Sum Int (List z01)
 | l,[]=>.inr l
 | l,m::ms=>match zhf l m with
  | .inl e=>.inl e
  | .inr k=>zbj k ms
theorem zah:∀ {ms:List z0b} {l k:List z01},Rps l→zbj l ms=.inr k→Rps k∧k.length=l.length
 | [],l,k,h,hr=>by simp only [zbj] at hr; cases hr; exact ⟨h,rfl⟩
 | m::ms,l,k,h,hr=>by
  simp only [zbj] at hr
  cases hm:zhf l m with
  | inl e=>rw [hm] at hr; cases hr
  | inr k' =>
   rw [hm] at hr
   have h1:=zah (zj9 h hm).1 hr
   exact ⟨h1.1,h1.2.trans (zpw hm)⟩
theorem zft:∀ {ms:List z0b} {l:List z01} {e:Int},zbj l ms=.inl e→e≠0
 | [],l,e,h=>by simp [zbj] at h
 | m::ms,l,e,h=>by
  simp only [zbj] at h
  cases hm:zhf l m with
  | inl e'=>rw [hm] at h; cases h; exact zmg hm
  | inr k=>rw [hm] at h; exact zft h
theorem zr5 (ms:List z0b) (hl:ms.length≤1000):∀ (rest pre:List z0b) (l:List z01),pre++rest=ms→Rps l→iter (z9d ms) (l,(pre.length:Int))=some (match zbj l rest with | .inl e=>.inl ([],e) | .inr k=>.inr k)
 | [],pre,l,e,h=>by
  rw [List.append_nil] at e
  subst e
  refine z0s ?_
  unfold z9d
  simp only []
  rw [if_neg (by simp)]
  rfl
 | m::rest,pre,l,e,h=>by
  have hi:pre.length<ms.length:=by rw [← e]; simp
  have hm:ms[pre.length]=m:=by simp [← e]
  have hF:z9d ms (l,(pre.length:Int))=match zhf l m with | .inl e=>some (.inl (.inl ([],e))) | .inr k=>some (.inr (k,((pre.length+1:Nat):Int))):=by
   unfold z9d
   simp only []
   rw [if_pos (by simpa using hi),z0c hi,hm]
   simp only [bS]
   rw [zns h,z0i (by omega)]
   simp only [bS]
   cases hp:zhf l m with
   | inl e=>rw [if_pos (by simpa using zmg hp)]
   | inr k=>rfl
  cases hp:zhf l m with
  | inl e' =>
   rw [hp] at hF
   rw [z0s hF]
   simp only [zbj,hp]
  | inr k =>
   rw [hp] at hF
   have ih:=zr5 ms hl rest (pre++[m]) k (by simp [← e]) (zj9 h hp).1
   rw [List.length_append,List.length_cons,List.length_nil,Nat.zero_add] at ih
   rw [z16 hF,ih]
   simp only [zbj,hp]
theorem zua (ms:List z0b) (hl:ms.length≤1000):∀ (rest pre:List z0b) (l:List z01),pre++rest=ms→Rps l→iter (z6d ms) (l,(pre.length:Int))=some (match zbj l rest with | .inl e=>.inl ([],e) | .inr k=>.inr k)
 | [],pre,l,e,h=>by
  rw [List.append_nil] at e
  subst e
  refine z0s ?_
  unfold z6d
  simp only []
  rw [if_neg (by simp)]
  rfl
 | m::rest,pre,l,e,h=>by
  have hi:pre.length<ms.length:=by rw [← e]; simp
  have hm:ms[pre.length]=m:=by simp [← e]
  have hF:z6d ms (l,(pre.length:Int))=match zhf l m with | .inl e=>some (.inl (.inl ([],e))) | .inr k=>some (.inr (k,((pre.length+1:Nat):Int))):=by
   unfold z6d
   simp only []
   rw [if_pos (by simpa using hi),z0c hi,hm]
   simp only [bS]
   rw [zpz h,z0i (by omega)]
   simp only [bS]
   cases hp:zhf l m with
   | inl e=>rw [if_pos (by simpa using zmg hp)]
   | inr k=>rfl
  cases hp:zhf l m with
  | inl e' =>
   rw [hp] at hF
   rw [z0s hF]
   simp only [zbj,hp]
  | inr k =>
   rw [hp] at hF
   have ih:=zua ms hl rest (pre++[m]) k (by simp [← e]) (zj9 h hp).1
   rw [List.length_append,List.length_cons,List.length_nil,Nat.zero_add] at ih
   rw [z16 hF,ih]
   simp only [zbj,hp]
def zpg:Sum Int (List z01)→List z01 × Int
 | .inl e=>([],e)
 | .inr k=>(k,0)
theorem Rps.f900 (h:Rps l):∀ g∈l,Fit g 900:=fun g hg=>⟨(h.rp g hg).fit.ids, by have:=(h.rp g hg).fit.len; omega,(h.rp g hg).fit.ri,(h.rp g hg).op⟩
theorem zm7 (h:Rps l) (ms:List z0b) (hl:ms.length≤1000):z74 l ms=some (zpg (zbj l ms)):=by
 unfold z74
 rw [zei l (by have:=h.len; omega) h.f900]
 simp only [bS]
 have:=zua ms hl ms [] l rfl h
 rw [List.length_nil] at this
 rw [show (0:Int)=((0:Nat):Int) from rfl,this]
 cases zbj l ms <;> rfl
theorem zyh (hc:∃ c,z26 l=some c∧z1n l=some c∧(c=0→Rps l)) (ms:List z0b) (hl:ms.length≤1000):∃ r,zaz l ms=some r∧z72 l ms=some r∧(r.2=0→Rps r.1)∧(r.2≠0→r.1=[]):=by
 obtain ⟨c,c1,c2,c3⟩:=hc
 unfold zaz z72
 rw [c1,c2]
 simp only [bS]
 by_cases h0:c=0
 ·
  have R:=c3 h0
  have hcn:¬ ((c != 0)=true):=by simpa using h0
  rw [if_neg hcn,if_neg hcn]
  by_cases h1:100<ms.length
  ·
   have h100:decide (100<(ms.length:Int))=true:=by simp; omega
   rw [if_pos h100,if_pos h100]
   exact ⟨_,rfl,rfl, by simp, by simp⟩
  ·
   have h100:¬ (decide (100<(ms.length:Int))=true):=by simp; omega
   rw [if_neg h100,if_neg h100,zls l (by have:=R.len; omega) R.f900,zm7 R ms hl]
   simp only [bS]
   have:=zr5 ms hl ms [] l rfl R
   rw [List.length_nil] at this
   rw [show (0:Int)=((0:Nat):Int) from rfl,this]
   cases hr:zbj l ms with
   | inl e=>exact ⟨([],e),rfl,rfl, fun h=>absurd h (zft hr), fun _=>rfl⟩
   | inr k=>exact ⟨(k,0),rfl,rfl, fun _=>(zah R hr).1, fun h=>absurd rfl h⟩
 ·
  have hcp:(c != 0)=true:=by simpa using h0
  rw [if_pos hcp,if_pos hcp]
  exact ⟨_,rfl,rfl, fun h=>absurd h h0, fun _=>rfl⟩
end
section
open Go
variable {g a b:z01} {n m:Nat} {l l0:List z01}
def zih (i:Nat):z0b:=⟨(i:Int),((i+1:Nat):Int)⟩
def z6t (n:Nat):List z0b:=(List.range' 0 (n - 1)).map zih++if 2<n then [⟨((n - 1:Nat):Int),0⟩] else []
theorem zoj (n:Nat):(z6t n).length≤n:=by
 unfold z6t
 by_cases h:2<n
 ·
  simp [h]; omega
 ·
  simp [h]
theorem zn1 (n:Nat) (hn:n≤1000):z6w (n:Int)=some (z6t n):=by
 have main:=z2c (F:=z6k (n:Int)) (b:=(List.range' 0 (n - 1)).map zih) (n - 1) (fun i=>((List.range' 0 i).map zih,(i:Int))) (fun i hi=>?_) ?_
 ·
  unfold z6w
  rw [show (([],0):List z0b × Int)=((List.range' 0 0).map zih,((0:Nat):Int)) from rfl,main]
  simp only [bS]
  unfold z6t
  by_cases h:2<n
  ·
   rw [if_pos (by simp; omega),if_pos h,z1l (by simp; omega),z0z (by omega) (by omega)]
   simp only [bS]
   rw [show ((n:Int) - 1)=((n - 1:Nat):Int) by omega]
  ·
   rw [if_neg (by simp; omega),if_neg h,List.append_nil]
 ·
  unfold z6k
  simp only []
  rw [z0i (by omega),if_pos (by simp; omega),z1l (by simp; omega)]
  simp only [bS]
  have:(List.range' 0 (i+1)).map zih=(List.range' 0 i).map zih++[zih i]:=by
   rw [List.range'_concat]; simp
  rw [this]
  rfl
 ·
  unfold z6k
  simp only []
  rw [z0i (by omega),if_neg (by simp; omega)]
def zpa {α σ:Type} (Y:α→σ→Option σ) (go:σ→Bool):List α→σ→Option (Sum σ σ)
 | [],s=>some (.inr s)
 | x::xs,s=>Y x s >>= fun t=>if !(go t) then some (.inl t) else zpa Y go xs t
theorem zqe {σ:Type} (Y:z0b→σ→Option σ) (go:σ→Bool) (k:Nat) (hk:k≤1000):∀ d i s,k - i=d→i≤k→iter (z3w Y go) ((k:Int),(i:Int),s)=zpa Y go ((List.range' i d).map zih) s
 | 0,i,s,hd,hi=>by
  refine z0s ?_
  unfold z3w
  simp only []
  rw [if_neg (by simp; omega)]
 | d+1,i,s,hd,hi=>by
  rw [show List.range' i (d+1)=i::List.range' (i+1) d from rfl,List.map_cons]
  simp only [zpa]
  rw [iter]
  have e:z3w Y go ((k:Int),(i:Int),s)=Y (zih i) s >>= fun t=>if !(go t) then some (.inl (.inl t)) else some (.inr ((k:Int),((i+1:Nat):Int),t)):=by
   conv=>lhs; unfold z3w
   simp only []
   rw [if_pos (by simp; omega),z0i (by omega)]
   rfl
  rw [e]
  cases hY:Y (zih i) s with
  | none=>rfl
  | some t =>
   simp only [bS]
   cases hg:go t with
   | false=>rfl
   | true =>
    simp only [Bool.not_true,Bool.false_eq_true,if_false,bS]
    exact zqe Y go k hk d (i+1) t (by omega) (by omega)
theorem zjo:∀ (xs ys:List z0b) (l:List z01),zbj l (xs++ys)=match zbj l xs with | .inl e=>.inl e | .inr k=>zbj k ys
 | [],ys,l=>rfl
 | x::xs,ys,l=>by
  simp only [List.cons_append,zbj]
  cases zhf l x with
  | inl e=>rfl
  | inr k=>exact zjo xs ys k
theorem z110 (h:Rps l) (x:z0b):z3g x l=some (match zhf l x with | .inl e=>.inl (e,l) | .inr k=>.inr k):=by
 unfold z3g
 rw [zns h]
 simp only [bS]
 cases hm:zhf l x with
 | inl e=>rw [if_pos (by simpa using zmg hm)]
 | inr k=>rfl
theorem zmr:∀ (xs:List z0b) (l:List z01),Rps l →
  (∃ e k,zbj l xs=.inl e∧zpa (zmf z3g) Sum.isRight xs (.inr l)=some (.inl (.inl (e,k))))∨∃ k,zbj l xs=.inr k∧zpa (zmf z3g) Sum.isRight xs (.inr l)=some (.inr (.inr k))
 | [],l,h=>.inr ⟨l,rfl,rfl⟩
 | x::xs,l,h=>by
  have e:zmf z3g x (.inr l)=_:=z110 h x
  simp only [zpa,zbj]
  rw [e]
  cases hm:zhf l x with
  | inl e'=>exact .inl ⟨e',l,rfl,rfl⟩
  | inr k=>exact zmr xs k (zj9 h hm).1
theorem zl8 (h:Rps l):∃ r,zab l=some r∧(match zbj l (z6t l.length) with | .inl e=>r.1=e | .inr k=>r=(0,k)):=by
 have hl:=h.len
 unfold zab ze7 za0
 simp only [bS]
 have e0:iter (z3w (zmf z3g) Sum.isRight) (w64 ((l.length:Int) - 1),0,(.inr l))=zpa (zmf z3g) Sum.isRight ((List.range' 0 (l.length - 1)).map zih) (.inr l):=by
  by_cases hz:l.length=0
  ·
   rw [hz]
   refine z0s ?_
   unfold z3w
   simp only []
   rw [if_neg (by rw [z0z (by omega) (by omega)]; simp)]
  ·
   rw [z0z (by omega) (by omega), show ((l.length:Int) - 1)=((l.length - 1:Nat):Int) by omega]
   exact zqe _ _ _ (by omega) _ 0 _ rfl (Nat.zero_le _)
 rw [e0]
 unfold z6t
 rw [zjo]
 rcases zmr ((List.range' 0 (l.length - 1)).map zih) l h with ⟨e,k,h1,h2⟩ | ⟨k,h1,h2⟩
 ·
  rw [h1,h2]
  exact ⟨(e,k),rfl,rfl⟩
 ·
  rw [h1,h2]
  simp only [zr8]
  have Rk:=(zah h h1).1
  by_cases h2:2<l.length
  ·
   rw [if_pos (by simp; omega),if_pos h2,z0z (by omega) (by omega), show ((l.length:Int) - 1)=((l.length - 1:Nat):Int) by omega]
   have e:zmf z3g ⟨((l.length - 1:Nat):Int),0⟩ (.inr k)=_:=z110 Rk _
   rw [e]
   simp only [zbj]
   cases zhf k ⟨((l.length - 1:Nat):Int),0⟩ with
   | inl e=>exact ⟨(e,k),rfl,rfl⟩
   | inr k'=>exact ⟨(0,k'),rfl,rfl⟩
  ·
   rw [if_neg (by simp; omega),if_neg h2]
   exact ⟨(0,k),rfl,rfl⟩
def Has (l0:List z01) (w:Nat) (g:z01):Prop:=∀ x o,z2v g x=some o↔∃ i,∃ h:i<l0.length,w.testBit i=true∧z2v l0[i] x=some o
theorem Has.uni (Fa:Fit a n) (Fb:Fit b m) (hc:zc3 a b) {w v:Nat} (ha:Has l0 w a) (hb:Has l0 v b):Has l0 (w ||| v) (z47 a b):=fun x o=>by
 have hu:z2v (z47 a b) x=some o↔z2v a x=some o∨z2v b x=some o:=by
  rw [zcj Fa Fb]
  cases hq:z2v a x with
  | none=>simp
  | some q =>
   constructor
   ·
    intro h; exact .inl h
   ·
    rintro (h | h)
    ·
     exact h
    ·
     rw [(zjn Fa Fb).1 hc x q o hq h]; rfl
 rw [hu,ha,hb]
 constructor
 ·
  rintro (⟨i,hi,h1,h2⟩ | ⟨i,hi,h1,h2⟩)
  ·
   exact ⟨i,hi, by rw [Nat.testBit_or,h1]; rfl,h2⟩
  ·
   exact ⟨i,hi, by rw [Nat.testBit_or,h1]; simp,h2⟩
 ·
  rintro ⟨i,hi,h1,h2⟩
  rw [Nat.testBit_or,Bool.or_eq_true] at h1
  rcases h1 with h1 | h1
  ·
   exact .inl ⟨i,hi,h1,h2⟩
  ·
   exact .inr ⟨i,hi,h1,h2⟩
theorem Has.eq (Fa:Fit a n) (Fb:Fit b m) {w:Nat} (ha:Has l0 w a) (hb:Has l0 w b):a=b:=ztn Fa Fb fun x=>by
 cases hq:z2v a x with
 | none =>
  cases hr:z2v b x with
  | none=>rfl
  | some o=>rw [(ha x o).2 ((hb x o).1 hr)] at hq; cases hq
 | some o=>rw [(hb x o).2 ((ha x o).1 hq)]
def metM (ws:List Nat) (m:z0b):List Nat :=
 (ws.set m.A.toNat (ws[m.A.toNat]?.getD 0 ||| ws[m.B.toNat]?.getD 0)).set m.B.toNat (ws[m.A.toNat]?.getD 0 ||| ws[m.B.toNat]?.getD 0)
def runM:List Nat→List z0b→List Nat
 | ws,[]=>ws
 | ws,m::ms=>runM (metM ws m) ms
def zlh (l0:List z01) (ws:List Nat) (l:List z01):Prop:=ws.length=l.length∧∀ i (h:i<ws.length) (h2:i<l.length),Has l0 ws[i] l[i]
theorem z10q (R:Rps l) {m:z0b} {k:List z01} (hm:zhf l m=.inr k) {ws:List Nat} (hw:zlh l0 ws l):zlh l0 (metM ws m) k:=by
 have hlen:=zpw hm
 unfold zhf at hm
 split at hm
 ·
  rename_i h2
  obtain ⟨hA,hB,-⟩:=h2
  obtain ⟨ia,ea⟩:=ze3 hA.1 hA.2
  obtain ⟨ib,eb⟩:=ze3 hB.1 hB.2
  have ma:atG l m.A∈l:=by rw [ea]; exact List.getElem_mem _
  have mb:atG l m.B∈l:=by rw [eb]; exact List.getElem_mem _
  split at hm
  ·
   cases hm
  ·
   cases hm
   have wa:m.A.toNat<ws.length:=by rw [hw.1]; exact ia
   have wb:m.B.toNat<ws.length:=by rw [hw.1]; exact ib
   have hu:Has l0 (ws[m.A.toNat]?.getD 0 ||| ws[m.B.toNat]?.getD 0) (z47 (atG l m.A) (atG l m.B)):=by
    rw [List.getElem?_eq_getElem wa,List.getElem?_eq_getElem wb]
    have h1:=hw.2 _ wa ia
    have h2:=hw.2 _ wb ib
    rw [← ea] at h1
    rw [← eb] at h2
    exact Has.uni (R.rp _ ma).fit (R.rp _ mb).fit (R.nc ma mb) h1 h2
   unfold metM
   refine ⟨by rw [hlen,← hw.1]; simp, fun i h h2=>?_⟩
   simp only [List.getElem_set]
   by_cases e1:m.B.toNat=i
   ·
    rw [if_pos e1,if_pos e1]; exact hu
   ·
    rw [if_neg e1,if_neg e1]
    by_cases e2:m.A.toNat=i
    ·
     rw [if_pos e2,if_pos e2]; exact hu
    ·
     rw [if_neg e2,if_neg e2]
     exact hw.2 i (by simpa using h) (by simpa using h2)
 ·
  cases hm
theorem zp1:∀ {ms:List z0b} {l k:List z01} {ws:List Nat},Rps l→zbj l ms=.inr k→zlh l0 ws l→zlh l0 (runM ws ms) k
 | [],l,k,ws,R,hr,hw=>by simp only [zbj] at hr; cases hr; exact hw
 | m::ms,l,k,ws,R,hr,hw=>by
  simp only [zbj] at hr
  cases hm:zhf l m with
  | inl e=>rw [hm] at hr; cases hr
  | inr k' =>
   rw [hm] at hr
   have hr:zbj k' ms=.inr k:=hr
   show zlh l0 (runM (metM ws m) ms) k
   exact zp1 (zj9 R hm).1 hr (z10q R hm hw)
def ws0 (n:Nat):List Nat:=(List.range n).map fun i=>2 ^ i
theorem has0 (l:List z01):zlh l (ws0 l.length) l:=⟨by simp [ws0], fun i h h2=>by
 intro x o
 simp only [ws0,List.getElem_map,List.getElem_range]
 constructor
 ·
  intro ho; exact ⟨i,h2, by simp [Nat.testBit_two_pow],ho⟩
 ·
  rintro ⟨j,hj,h3,h4⟩
  have:i=j:=by simpa [Nat.testBit_two_pow] using h3
  subst this; exact h4⟩
theorem z136:∀ n,n<6→runM (runM (ws0 n) (z6t n)) (z6t n)=List.replicate n (2 ^ n - 1):=by decide +kernel
theorem zrq (R:Rps l) {k1 k2:List z01} (h1:zbj l (z6t l.length)=.inr k1) (h2:zbj k1 (z6t l.length)=.inr k2):k2.length=l.length∧∀ g∈k2,Has l (2 ^ l.length - 1) g:=by
 obtain ⟨R1,e1⟩:=zah R h1
 obtain ⟨R2,e2⟩:=zah R1 h2
 have hw:=zp1 R1 h2 (zp1 R h1 (has0 l))
 rw [z136 _ (by have:=R.len; omega)] at hw
 refine ⟨by omega, fun g hg=>?_⟩
 obtain ⟨i,hi,rfl⟩:=List.getElem_of_mem hg
 have:=hw.2 i (by rw [hw.1]; exact hi) hi
 rwa [List.getElem_replicate] at this
end
section
open Go
variable {g a b:z01} {n m:Nat} {l l0:List z01}
theorem zle (R:Rps l):∀ d i,l.length - i=d→∃ r,iter (z6v l) (i:Int)=some r∧iter (z5k l) (i:Int)=some r ∧
  ((r=.inl (false,0)∧∃ j,∃ h:j<l.length,i≤j∧l[j].IDs≠(l[0]'(by omega)).IDs)∨(r=.inr ()∧∀ j (h:j<l.length),i≤j→l[j].IDs=(l[0]'(by omega)).IDs)):=by
 have hl5:=R.len
 intro d
 induction d with
 | zero =>
  intro i hd
  refine ⟨.inr (),z0s ?_,z0s ?_,.inr ⟨rfl, fun j h hj=>by omega⟩⟩
  ·
   unfold z6v; rw [if_neg (by simp; omega)]
  ·
   unfold z5k; rw [if_neg (by simp; omega)]
 | succ d ih =>
  intro i hd
  have hi:i<l.length:=by omega
  have h0:0<l.length:=by omega
  have F:=(R.rp _ (List.getElem_mem hi)).fit
  have hF1:=F.len; have hF2:=F.ids
  have e0:idx l 0=some l[0]:=z0c (i:=0) h0
  have hP:z6v l (i:Int)=if !decide (l[i].IDs=l[0].IDs) then some (.inl (.inl (false,0))) else some (.inr ((i+1:Nat):Int)):=by
   unfold z6v
   rw [if_pos (by simpa using hi),z0c hi,e0]
   simp only [bS]
   rw [zzu _ _ (by omega),z0i (by omega)]
   simp only [bS]
  have hQ:z5k l (i:Int)=if !decide (l[i].IDs=l[0].IDs) then some (.inl (.inl (false,0))) else some (.inr ((i+1:Nat):Int)):=by
   unfold z5k
   rw [if_pos (by simpa using hi),z0c hi,e0]
   simp only [bS]
   rw [zyd _ _ (by omega),z0i (by omega)]
   simp only [bS]
  by_cases he:l[i].IDs=l[0].IDs
  ·
   rw [decide_eq_true he,if_neg (by simp)] at hP hQ
   rw [z16 hP,z16 hQ]
   obtain ⟨r,r1,r2,r3⟩:=ih (i+1) (by omega)
   refine ⟨r,r1,r2,?_⟩
   rcases r3 with ⟨h1,j,hj,h2,h3⟩ | ⟨h1,h2⟩
   ·
    exact .inl ⟨h1,j,hj, by omega,h3⟩
   ·
    refine .inr ⟨h1, fun j hj hij=>?_⟩
    by_cases e:j=i
    ·
     subst e; exact he
    ·
     exact h2 j hj (by omega)
  ·
   rw [decide_eq_false he,if_pos (by simp)] at hP hQ
   exact ⟨_,z0s hP,z0s hQ,.inl ⟨rfl,i,hi,Nat.le_refl _,he⟩⟩
def zba (l:List z01):Prop:=∀ g∈l,∀ h∈l,g.IDs=h.IDs
instance (l:List z01):Decidable (zba l):=by unfold zba; exact inferInstance
theorem zcs (i:Nat) (hi:i≤1):zba l↔∀ j (h:j<l.length),i≤j→l[j].IDs=(l[0]'(by omega)).IDs:=by
 constructor
 ·
  intro h j hj _
  exact h _ (List.getElem_mem hj) _ (List.getElem_mem _)
 ·
  intro h
  have all:∀ j (hj:j<l.length),l[j].IDs=(l[0]'(by omega)).IDs:=fun j hj=>by
   by_cases e:j=0
   ·
    subst e; rfl
   ·
    exact h j hj (by omega)
  intro g hg k hk
  obtain ⟨p,hp,rfl⟩:=List.getElem_of_mem hg
  obtain ⟨q,hq,rfl⟩:=List.getElem_of_mem hk
  rw [all p hp,all q hq]
theorem zz0 (R:Rps l):∃ b,z7y l=some (b,0)∧z66 l=some (b,0)∧(b=true↔zba l):=by
 obtain ⟨c1,c2⟩:=R.chk
 obtain ⟨r,r1,-,r3⟩:=zle R _ 0 rfl
 obtain ⟨q,-,q2,q3⟩:=zle R _ 1 rfl
 unfold z7y z66
 rw [c1,c2]
 simp only [bS]
 rw [if_neg (by simp),if_neg (by simp), show (0:Int)=((0:Nat):Int) from rfl, show (1:Int)=((1:Nat):Int) from rfl,r1,q2]
 rcases r3 with ⟨rfl,j,hj,h1,h2⟩ | ⟨rfl,h1⟩ <;> rcases q3 with ⟨rfl,k,hk,h3,h4⟩ | ⟨rfl,h3⟩
 ·
  exact ⟨false,rfl,rfl, by simp; exact fun h=>h2 ((zcs 0 (by omega)).1 h j hj (by omega))⟩
 ·
  exact absurd ((zcs 0 (by omega)).1 ((zcs 1 (by omega)).2 h3) j hj (by omega)) h2
 ·
  exact absurd (h1 k hk (by omega)) h4
 ·
  exact ⟨true,rfl,rfl, by simp; exact (zcs 0 (by omega)).2 h1⟩
theorem zv8 (R:Rps l) (h:¬ zba l):z7y l=some (false,0)∧z66 l=some (false,0):=by
 obtain ⟨b,b1,b2,b3⟩:=zz0 R
 cases b with
 | true=>exact absurd (b3.1 rfl) h
 | false=>exact ⟨b1,b2⟩
theorem zqq (R:Rps l) (h:zba l):z7y l=some (true,0)∧z66 l=some (true,0):=by
 obtain ⟨b,b1,b2,b3⟩:=zz0 R
 have:=b3.2 h
 subst this
 exact ⟨b1,b2⟩
def zhw:Nat→List z01→Sum Int (List z01)
 | 0,l=>.inr l
 | k+1,l=>match zbj l (z6t l.length) with
  | .inl e=>.inl e
  | .inr l'=>zhw k l'
theorem zql:∀ {k:Nat} {l l':List z01},Rps l→zhw k l=.inr l'→Rps l'∧l'.length=l.length
 | 0,l,l',h,hr=>by simp only [zhw] at hr; cases hr; exact ⟨h,rfl⟩
 | k+1,l,l',h,hr=>by
  simp only [zhw] at hr
  cases hm:zbj l (z6t l.length) with
  | inl e=>rw [hm] at hr; cases hr
  | inr l1 =>
   rw [hm] at hr
   have hr:zhw k l1=.inr l':=hr
   obtain ⟨R1,e1⟩:=zah h hm
   obtain ⟨R2,e2⟩:=zql R1 hr
   exact ⟨R2,e2.trans e1⟩
theorem zqk:∀ {k:Nat} {l:List z01} {e:Int},zhw k l=.inl e→e≠0
 | 0,l,e,h=>by simp [zhw] at h
 | k+1,l,e,h=>by
  simp only [zhw] at h
  cases hm:zbj l (z6t l.length) with
  | inl e'=>rw [hm] at h; cases h; exact zft hm
  | inr l1=>rw [hm] at h; exact zqk h
theorem zoh (N:Nat) (hN:N≤5):∀ d i l,N - i=d→i≤N→Rps l→iter (z8k (N:Int)) (l,(i:Int))=some (match zhw d l with | .inl e=>.inl ([],e) | .inr k=>.inr k)
 | 0,i,l,hd,hi,R=>by
  refine z0s ?_
  unfold z8k
  simp only []
  rw [if_neg (by simp; omega)]
  rfl
 | d+1,i,l,hd,hi,R=>by
  obtain ⟨r,r1,r2⟩:=zl8 R
  have hF:z8k (N:Int) (l,(i:Int))=if r.1 != 0 then some (.inl (.inl ([],r.1))) else some (.inr (r.2,((i+1:Nat):Int))):=by
   unfold z8k
   simp only []
   rw [if_pos (by simp; omega),r1,z0i (by omega)]
   simp only [bS]
  simp only [zhw]
  cases hm:zbj l (z6t l.length) with
  | inl e =>
   rw [hm] at r2
   have r2:r.1=e:=r2
   rw [r2,if_pos (by simpa using zft hm)] at hF
   rw [z0s hF]
  | inr k =>
   rw [hm] at r2
   have r2:r=(0,k):=r2
   rw [r2,if_neg (by simp)] at hF
   rw [z16 hF]
   exact zoh N hN d (i+1) k (by omega) (by omega) (zah R hm).1
theorem zqh (N:Nat) (hN:N≤5) (l0:List z01):∀ d i l,N - i=d→i≤N→Rps l→l.length=l0.length→iter (z5r l0 (N:Int)) (l,(i:Int))=some (match zhw d l with | .inl e=>.inl ([],e) | .inr k=>.inr k)
 | 0,i,l,hd,hi,R,hl=>by
  refine z0s ?_
  unfold z5r
  simp only []
  rw [if_neg (by simp; omega)]
  rfl
 | d+1,i,l,hd,hi,R,hl=>by
  have h5:=R.len
  have hF:z5r l0 (N:Int) (l,(i:Int))=if (zpg (zbj l (z6t l.length))).2 != 0 then some (.inl (.inl ([],(zpg (zbj l (z6t l.length))).2))) else some (.inr ((zpg (zbj l (z6t l.length))).1,((i+1:Nat):Int))):=by
   unfold z5r
   simp only []
   rw [if_pos (by simp; omega),← hl,zn1 _ (by omega)]
   simp only [bS]
   rw [zm7 R _ (by have:=zoj l.length; omega),z0i (by omega)]
   simp only [bS]
  simp only [zhw]
  cases hm:zbj l (z6t l.length) with
  | inl e =>
   rw [hm] at hF
   rw [show (zpg (.inl e)).2=e from rfl,if_pos (by simpa using zft hm)] at hF
   rw [z0s hF]
  | inr k =>
   rw [hm] at hF
   rw [show zpg (.inr k)=(k,0) from rfl,if_neg (by simp)] at hF
   rw [z16 hF]
   obtain ⟨Rk,ek⟩:=zah R hm
   exact zqh N hN l0 d (i+1) k (by omega) (by omega) Rk (ek.trans hl)
theorem z10z (hc:∃ c,z26 l=some c∧z1n l=some c∧(c=0→Rps l)) (N:Int):∃ r,zb7 l N=some r∧z7e l N=some r∧(r.2=0→Rps r.1)∧(r.2≠0→r.1=[]):=by
 obtain ⟨c,c1,c2,c3⟩:=hc
 unfold zb7 z7e
 rw [c1,c2]
 simp only [bS]
 by_cases h0:c=0
 ·
  have R:=c3 h0
  have hcn:¬ ((c != 0)=true):=by simpa using h0
  rw [if_neg hcn,if_neg hcn]
  by_cases h1:N<0
  ·
   have d1:decide (N<0)=true:=by simpa using h1
   rw [if_pos d1,if_pos d1]
   exact ⟨_,rfl,rfl, by simp, by simp⟩
  ·
   have d1:¬ (decide (N<0)=true):=by simpa using h1
   rw [if_neg d1,if_neg d1]
   by_cases h2:5<N
   ·
    have d2:decide (5<N)=true:=by simpa using h2
    rw [if_pos d2,if_pos d2]
    exact ⟨_,rfl,rfl, by simp, by simp⟩
   ·
    have d2:¬ (decide (5<N)=true):=by simpa using h2
    obtain ⟨k,rfl⟩:∃ k:Nat,N=(k:Int):=⟨N.toNat, by omega⟩
    rw [if_neg d2,if_neg d2,zls l (by have:=R.len; omega) R.f900,zei l (by have:=R.len; omega) R.f900]
    simp only [bS]
    rw [show (0:Int)=((0:Nat):Int) from rfl,zoh k (by omega) k 0 l rfl (Nat.zero_le _) R,zqh k (by omega) l k 0 l rfl (Nat.zero_le _) R rfl]
    cases hr:zhw k l with
    | inl e=>exact ⟨([],e),rfl,rfl, fun h=>absurd h (zqk hr), fun _=>rfl⟩
    | inr k'=>exact ⟨(k',0),rfl,rfl, fun _=>(zql R hr).1, fun h=>absurd rfl h⟩
 ·
  have hcp:(c != 0)=true:=by simpa using h0
  rw [if_pos hcp,if_pos hcp]
  exact ⟨_,rfl,rfl, fun h=>absurd h h0, fun _=>rfl⟩
theorem Has.same {w:Nat} {g h:z01} (Fg:Fit g n) (Fh:Fit h m) (hg:Has l0 w g) (hh:Has l0 w h):g.IDs=h.IDs:=by rw [Has.eq Fg Fh hg hh]
theorem zpf (R:Rps l) {k1 k2:List z01} (h1:zbj l (z6t l.length)=.inr k1) (h2:zbj k1 (z6t l.length)=.inr k2):zba k2:=by
 obtain ⟨R1,e1⟩:=zah R h1
 obtain ⟨R2,e2⟩:=zah R1 h2
 obtain ⟨-,hall⟩:=zrq R h1 h2
 intro g hg h hh
 exact Has.same (R2.rp g hg).fit (R2.rp h hh).fit (hall g hg) (hall h hh)
def zkq (l:List z01) (n:Nat):Sum (Int × Int) (List z01) :=
 if zba l then .inl ((n:Int),0) else match zbj l (z6t l.length) with
  | .inl e=>.inl (0,e)
  | .inr k=>.inr k
theorem zhh (R:Rps l) {n:Nat} (hn:n<3):zak (l,(n:Int))=some (match zkq l n with | .inl r=>.inl (.inl r) | .inr k=>.inr (k,((n+1:Nat):Int))):=by
 unfold zak zkq
 simp only []
 rw [if_pos (by simp; omega)]
 by_cases hs:zba l
 ·
  rw [(zqq R hs).1,if_pos hs]
  rfl
 ·
  obtain ⟨r,r1,r2⟩:=zl8 R
  rw [(zv8 R hs).1,if_neg hs,r1,z0i (by omega)]
  simp only [bS]
  cases hm:zbj l (z6t l.length) with
  | inl e =>
   rw [hm] at r2
   have r2:r.1=e:=r2
   rw [r2]
   rw [if_neg (by simp)]
   simp only [bS,Bool.false_eq_true,if_false]
   rw [if_pos (by simpa using zft hm)]
  | inr k =>
   rw [hm] at r2
   have r2:r=(0,k):=r2
   rw [r2]
   rfl
theorem zjt (R:Rps l) (hl:l.length=l0.length) {n:Nat} (hn:n<3):z89 l0 (l,(n:Int))=some (match zkq l n with | .inl r=>.inl r | .inr k=>.inr (k,((n+1:Nat):Int))):=by
 have h5:=R.len
 unfold z89 zkq
 simp only []
 by_cases hs:zba l
 ·
  rw [(zqq R hs).2,if_pos hs]
  rfl
 ·
  rw [(zv8 R hs).2,if_neg hs,← hl,zn1 _ (by omega)]
  simp only [bS,Bool.false_eq_true,if_false]
  rw [zm7 R _ (by have:=zoj l.length; omega),z0i (by omega)]
  simp only [bS]
  cases hm:zbj l (z6t l.length) with
  | inl e=>rw [show zpg (.inl e)=([],e) from rfl,if_pos (by simpa using zft hm)]
  | inr k=>rfl
theorem znv {k:List z01} {n:Nat} (h:zkq l n=.inr k):¬ zba l∧zbj l (z6t l.length)=.inr k:=by
 unfold zkq at h
 split at h
 ·
  cases h
 ·
  rename_i hs
  cases hm:zbj l (z6t l.length) with
  | inl e=>rw [hm] at h; cases h
  | inr k'=>rw [hm] at h; cases h; exact ⟨hs,rfl⟩
theorem zsh (hc:∃ c,z26 l=some c∧z1n l=some c∧(c=0→Rps l)):∃ r,z9e l=some r∧z67 l=some r:=by
 obtain ⟨c,c1,c2,c3⟩:=hc
 unfold z9e z67
 rw [c1,c2]
 simp only [bS]
 by_cases h0:c=0
 ·
  have R:=c3 h0
  have hcn:¬ ((c != 0)=true):=by simpa using h0
  rw [if_neg hcn,if_neg hcn,zls l (by have:=R.len; omega) R.f900,zei l (by have:=R.len; omega) R.f900]
  simp only [bS]
  have p0:=zhh R (n:=0) (by omega)
  have q0:=zjt R (l0:=l) rfl (n:=0) (by omega)
  rw [show (0:Int)=((0:Nat):Int) from rfl]
  cases s0:zkq l 0 with
  | inl r =>
   rw [s0] at p0 q0
   rw [z0s p0,z0s q0]
   exact ⟨r,rfl,rfl⟩
  | inr k1 =>
   rw [s0] at p0 q0
   rw [z16 p0,z16 q0]
   obtain ⟨n0,m0⟩:=znv s0
   obtain ⟨R1,e1⟩:=zah R m0
   have p1:=zhh R1 (n:=1) (by omega)
   have q1:=zjt R1 (l0:=l) e1 (n:=1) (by omega)
   cases s1:zkq k1 1 with
   | inl r =>
    rw [s1] at p1 q1
    rw [z0s p1,z0s q1]
    exact ⟨r,rfl,rfl⟩
   | inr k2 =>
    rw [s1] at p1 q1
    rw [z16 p1,z16 q1]
    obtain ⟨n1,m1⟩:=znv s1
    obtain ⟨R2,e2⟩:=zah R1 m1
    rw [e1] at m1
    have hs:=zpf R m0 m1
    have p2:=zhh R2 (n:=2) (by omega)
    have q2:=zjt R2 (l0:=l) (e2.trans e1) (n:=2) (by omega)
    have s2:zkq k2 2=.inl (((2:Nat):Int),0):=by unfold zkq; rw [if_pos hs]
    rw [s2] at p2 q2
    rw [z0s p2,z0s q2]
    exact ⟨_,rfl,rfl⟩
 ·
  have hcp:(c != 0)=true:=by simpa using h0
  rw [if_pos hcp,if_pos hcp]
  exact ⟨_,rfl,rfl⟩
theorem zi8 (l:List z01):∀ (d i:Nat),11 - i=d→i≤11→∃ r,iter (z3s l) (i:Int)=some r∧(r=.inl true∨(r=.inr ()∧∀ j (h:j<l.length),i≤j→j≤10→zkf l[j]))
 | 0,i,hd,hi=>by
  have:i=11:=by omega
  subst this
  refine ⟨.inr (),z0s ?_,.inr ⟨rfl, fun j hj h1 h2=>by omega⟩⟩
  unfold z3s
  split
  ·
   rw [if_neg (by simp)]
  ·
   rfl
 | d+1,i,hd,hi=>by
  by_cases hl:i<l.length
  ·
   obtain ⟨b,b1,b2⟩:=zwx l[i]
   have hF:z3s l (i:Int)=if b then some (.inl (.inl true)) else some (.inr ((i+1:Nat):Int)):=by
    unfold z3s
    rw [if_pos (by simpa using hl),if_pos (by simp; omega),z0c hl,z0i (by omega)]
    simp only [bS]
    rw [b1]
    simp only [bS]
   cases b with
   | true=>exact ⟨_,z0s hF,.inl rfl⟩
   | false =>
    rw [if_neg (by simp)] at hF
    rw [z16 hF]
    obtain ⟨r,r1,r2⟩:=zi8 l d (i+1) (by omega) (by omega)
    refine ⟨r,r1,r2.imp id fun h=>⟨h.1, fun j hj h1 h2=>?_⟩⟩
    by_cases e:j=i
    ·
     subst e; exact b2 rfl
    ·
     exact h.2 j hj (by omega) h2
  ·
   refine ⟨.inr (),z0s ?_,.inr ⟨rfl, fun j hj h1 h2=>by omega⟩⟩
   unfold z3s
   rw [if_neg (by simp; omega)]
theorem z104 (l:List z01):∃ b,z8o l=some b∧(b=false→l.length≤10∧∀ g∈l,zkf g):=by
 obtain ⟨r,r1,r2⟩:=zi8 l _ 0 rfl (by omega)
 unfold z8o
 rw [show (0:Int)=((0:Nat):Int) from rfl,r1]
 rcases r2 with rfl | ⟨rfl,h⟩
 ·
  exact ⟨true,rfl, by simp⟩
 ·
  refine ⟨_,rfl, fun hb=>?_⟩
  have hl:l.length≤10:=by simp at hb; omega
  exact ⟨hl, fun g hg=>by obtain ⟨j,hj,rfl⟩:=List.getElem_of_mem hg; exact h j hj (Nat.zero_le _) (by omega)⟩
theorem ztl (l:List z01) (hl:l.length≤1000) (hs:∀ g∈l,zkf g):z15 l l=some true:=by
 have main:=z2c (F:=z4c l l) (b:=(.inr ():Sum Bool Unit)) l.length (fun i=>(i:Int)) (fun i hi=>?_) ?_
 ·
  unfold z15
  rw [if_neg (by simp), show (0:Int)=((0:Nat):Int) from rfl,main]
  rfl
 ·
  unfold z4c
  rw [if_pos (by simpa using hi),z0c hi,z0i (by omega)]
  simp only [bS]
  rw [zup (hs _ (List.getElem_mem hi))]
  rfl
 ·
  unfold z4c
  rw [if_neg (by simp)]
theorem zot {r:List z01 × Int} (h1:r.2=0→Rps r.1) (h2:r.2≠0→r.1=[]):z15 r.1 r.1=some true:=by
 by_cases h:r.2=0
 ·
  have R:=h1 h
  exact ztl _ (by have:=R.len; omega) fun g hg=>(R.rp g hg).fit.small (by omega)
 ·
  rw [h2 h]; exact ztl [] (by simp) (by simp)
theorem zt7 (hl:l.length≤1000) (hw:∀ g∈l,z42 g) (hs:∀ g∈l,zkf g):∃ c,z26 l=some c∧z1n l=some c∧(c=0→Rps l):=by
 obtain ⟨c,c1,c2,c3⟩:=zvr hl hw fun g hg o ho=>by
  obtain ⟨i,hi,rfl⟩:=List.getElem_of_mem ho
  exact (hs g hg).op i hi
 exact ⟨c,c1,c2, fun h=>⟨(c3.1 h).1,(c3.1 h).2.1,(c3.1 h).2.2⟩⟩
theorem zpk (hl:l.length≤1000) (hs:∀ g∈l,zkf g):z2f l=some l:=by
 have main:=z2c (F:=z38 l) (b:=l) l.length (fun i=>(l.take i,(i:Int))) (fun i hi=>?_) ?_
 ·
  unfold z2f
  rw [List.take_zero] at main
  rw [show (0:Int)=((0:Nat):Int) from rfl,main]
  simp only [bS]
 ·
  unfold z38
  simp only []
  rw [if_pos (by simpa using hi),z0c hi]
  simp only [bS]
  rw [z10g (hs _ (List.getElem_mem hi))]
  simp only [bS]
  rw [z1l (by simp; omega),z0i (by omega)]
  simp only [bS]
  rw [List.take_add_one,List.getElem?_eq_getElem hi]; rfl
 ·
  unfold z38
  simp only []
  rw [if_neg (by simp),List.take_length]
theorem zsp (a0:List z01) (a1:z0b) (a2:List z0b) (a3:Int) (w0:(∀ x∈a0,z42 x)∧a0.length≤9223372036854775807) (w1:z9y a1) (w2:(∀ x∈a2,z9y x)∧a2.length≤9223372036854775807) (w3:inI a3):z7h a0 a1 a2 a3=some true:=by
 obtain ⟨b,b1,b2⟩:=z104 a0
 unfold z7h
 rw [b1]
 simp only [bS]
 cases b with
 | true=>rfl
 | false =>
 obtain ⟨hl,hs⟩:=b2 rfl
 have hc:=zt7 (l:=a0) (by omega) w0.1 hs
 have fin:a2.length≤150→(z2f a0 >>= fun r10 =>
   zbb a0 a1 >>= fun r12=>z7o a0 a1 >>= fun r14=>zaz a0 a2 >>= fun r16=>z72 a0 a2 >>= fun r18 =>
   zb7 a0 a3 >>= fun r20=>z7e a0 a3 >>= fun r22=>z9e a0 >>= fun r24=>z67 a0 >>= fun r26 =>
   z15 r12.1 r14.1 >>= fun r28 =>
   if r28 then if r12.2==r14.2 then z15 r16.1 r18.1 >>= fun r32 =>
    if r32 then if r16.2==r18.2 then z15 r20.1 r22.1 >>= fun r36 =>
     if r36 then if r20.2==r22.2 then if r24.1==r26.1 then if r24.2==r26.2 then z15 a0 r10 >>= fun r42=>some r42 else some false else some false else some false else some false
    else some false else some false else some false else some false)=some true:=fun hlm=>by
  obtain ⟨r,r1,r2,r3,r4⟩:=zyh hc a2 (by omega)
  obtain ⟨p,p1,p2,p3,p4⟩:=z10z hc a3
  obtain ⟨q,q1,q2⟩:=zsh hc
  obtain ⟨o,o1,o2,o3,o4⟩:=zyh hc [a1] (by simp)
  have oo:z7o a0 a1=some o:=by
   obtain ⟨c,c1,c2,c3⟩:=hc
   unfold z72 at o2
   unfold z7o
   rw [c2] at o2 ⊢
   simp only [bS] at o2 ⊢
   by_cases h0:c=0
   ·
    have R:=c3 h0
    have hcn:¬ ((c != 0)=true):=by simpa using h0
    rw [if_neg hcn] at o2 ⊢
    rw [if_neg (by simp),zm7 R _ (by simp)] at o2
    simp only [bS] at o2
    rw [zpz R]
    simp only [bS]
    rw [← o2]
    simp only [zbj]
    cases zhf a0 a1 <;> rfl
   ·
    have hcp:(c != 0)=true:=by simpa using h0
    rw [if_pos hcp] at o2 ⊢
    exact o2
  have og:zbb a0 a1=some o:=by unfold zbb; rw [o1]; rfl
  rw [zpk (by omega) hs]
  simp only [bS]
  rw [og]
  simp only [bS]
  rw [oo]
  simp only [bS]
  rw [r1]
  simp only [bS]
  rw [r2]
  simp only [bS]
  rw [p1]
  simp only [bS]
  rw [p2]
  simp only [bS]
  rw [q1]
  simp only [bS]
  rw [q2]
  simp only [bS]
  rw [zot o3 o4,zot r3 r4,zot p3 p4,ztl a0 (by omega) hs]
  simp
 rw [if_neg (by simp)]
 by_cases h1:30<a2.length
 ·
  rw [if_pos (by simp; omega)]
  by_cases h2:a2.length≤100
  ·
   rw [if_pos (by simp; omega)]; rfl
  ·
   rw [if_neg (by simp; omega)]
   by_cases h3:150<a2.length
   ·
    rw [if_pos (by simp; omega)]; rfl
   ·
    rw [if_neg (by simp; omega)]
    exact fin (by omega)
 ·
  rw [if_neg (by simp; omega)]
  rw [if_neg (by simp; omega)]
  exact fin (by omega)
end
end Go.Proofs.YthimiiphpckifaaGreatDoor
