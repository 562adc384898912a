import Derived.Test.YtdeegahcaekfaaaGreatDoorVe
set_option linter.unusedSimpArgs false
set_option linter.unusedVariables false
namespace Go.Proofs.YtdeegahcaekfaaaGreatDoor
set_option maxRecDepth 100000
set_option maxHeartbeats 4000000
open Go Go.RowKit _root_.Go.Proofs.Tryz
section
variable {g:Ao} {n m:Nat}
theorem VG (a b:Str):K9 a b=some (Eh a b):=by
  unfold K9 MH Eh;simp only[bS,bne_self_eq_false,Bool.false_eq_true,if_false]
  cases Dp a b <;> cases Dp b a <;> rfl
theorem VH (x y:Int):Ka [x,y]=some (if x=0 then y else x):=by
  have e0:Ho [x,y] ((0:Nat):Int)=if x=0 then some (.inr ((1:Nat):Int)) else some (.inl (.inl x)):=by
    unfold Ho;rw[if_pos (by simp),Ax (by simp),AL (by omega)];simp only[bS];by_cases h:x=0 <;> simp[h]
  have U:Ho [x,y] ((1:Nat):Int)=if y=0 then some (.inr ((2:Nat):Int)) else some (.inl (.inl y)):=by
    unfold Ho;rw[if_pos (by simp),Ax (by simp),AL (by omega)];simp only[bS];by_cases h:y=0 <;> simp[h]
  have e2:Ho [x,y] ((2:Nat):Int)=some (.inl (.inr ())):=by
    unfold Ho;rw[if_neg (by simp)]
  unfold Ka;rw[show (0:Int)=((0:Nat):Int) from rfl];by_cases O:x=0
  · rw[if_pos O] at e0
    rw[Bl e0];by_cases hy:y=0
    · rw[if_pos hy] at U
      rw[Bl U,B2 e2];simp[Bc,O,hy]
    · rw[if_neg hy] at U
      rw[B2 U];simp[Bc,O]
  · rw[if_neg O] at e0
    rw[B2 e0];simp[Bc,O]
theorem VI (a b:AT):MI a b=some (cfT a b):=by
  unfold MI cfT;rw[VG];simp only[bS];rw[show Gt a.ID.toList b.ID.toList=some (Lib.compareBytes a.ID.toList b.ID.toList) from rfl];simp only[bS];rw[VH];rfl
theorem z1cs (o:Ab) (r:List ID × Int) (hr:r.1.length<=1000) (m:List (AT × Bool)):∃ m',iter (Kb o r) (m,0)=some m'/\∀ t,(Bv m' t).getD false=true↔(Bv m t).getD false=true\/(t.Key=o.Act.Key/\t.ID∈r.1):=by
  refine D9 (F:=Kb o r) r.1.length (λi s=>s.2=(i:Int)/\∀ t,(Bv s.1 t).getD false=true↔(Bv m t).getD false=true\/(t.Key=o.Act.Key/\t.ID∈r.1.take i)) _ (λi s hi=>?_) (λs=>?_) (m,0) 0 (Nat.zero_le _) ⟨rfl, λt=>by simp⟩
  · obtain⟨m1,i'⟩:=s
    rintro⟨e1,e2⟩
    simp only at e1 e2;subst e1;unfold Kb;rw[if_pos (by simpa using hi)];simp only[Ax hi,bS,AL (n:=i) (by omega)];refine⟨_,rfl,rfl, λt=>?_⟩;rw[KZ,z1dz hi,List.mem_append,List.mem_singleton];by_cases e:t=(⟨o.Act.Key,r.1[i]⟩:AT)
    · rw[if_pos e]; simp[e]
    · rw[if_neg e,e2]
      constructor
      · rintro (h | ⟨U,O⟩)
        · exact .inl h
        · exact .inr ⟨U,.inl O⟩
      · rintro (h | ⟨U,O | O⟩)
        · exact .inl h
        · exact .inr ⟨U,O⟩
        · exact absurd (by cases t; simp only at U O; rw[U,O]) e
  · rintro⟨e1,e2⟩
    unfold Kb;rw[if_neg (by rw[e1]; simp)]
    exact⟨_,rfl, λt=>by rw[e2,List.take_length]⟩
theorem z1cy (G:C9 g) (F:Fit g n) (h:Dx g=some 0):∃ m,iter (Kc g) ([],0)=some m/\∀ t,(Bv m t).getD false=true↔G6 g t.Key g.Ops.length t.ID:=by
  have hl:=G.e.len;refine D9 (F:=Kc g) g.Ops.length (λi s=>s.2=(i:Int)/\∀ t,(Bv s.1 t).getD false=true↔G6 g t.Key i t.ID) _ (λi s hi=>?_) (λs=>?_) ([],0) 0 (Nat.zero_le _) ⟨rfl, λx=>⟨λh=>by simp[Bv] at h, λh=>absurd h VF⟩⟩
  · obtain⟨m,i'⟩:=s
    rintro⟨U,O⟩
    simp only at U O;subst U;have hid:i<g.IDs.length:=by rw[G.e.ids]; exact hi
    unfold Kc;rw[if_pos (by simpa using hi)];simp only[Ax hi,bS,AL (n:=i) (by omega)];by_cases c2:g.Ops[i].Act.Kind=3
    · rw[if_neg (by simp[c2]),Ax hid]
      simp only[bS];obtain⟨s,s1,s2,s3⟩:=z19s G F h (VD F hi);rw[Cv hid] at s1;rw[s1];simp only[bS];obtain⟨m',q1,q2⟩:=z1cs g.Ops[i] (s,0) (by simp only; omega) m;rw[q1];simp only[bS];refine⟨_,rfl,rfl, λt=>?_⟩;rw[IF hi];refine(q2 t).trans ?_;rw[O,<- s3];exact⟨λh=>h.imp id λh=>⟨h.1.symm,c2,h.2⟩, λh=>h.imp id λh=>⟨h.1.symm,h.2.2⟩⟩
    · rw[if_pos (by simpa using c2)]
      simp only[bS];refine⟨_,rfl,rfl, λt=>?_⟩;rw[IF hi];exact(O t).trans ⟨.inl, λh=>h.elim id λh=>absurd h.2.1 c2⟩
  · rintro⟨U,O⟩
    unfold Kc;rw[if_neg (by rw[U]; simp)]
    exact⟨_,rfl,O⟩
def CK (g:Ao) (N:AT->Bool):Nat->List AT
  | 0=>[]
  | i+1=>CK g N i++if (kO g i).Act.Kind=2/\N ⟨(kO g i).Act.Key,B9 g i⟩=false then [⟨(kO g i).Act.Key,B9 g i⟩] else []
theorem Of (N:AT->Bool):∀ i,(CK g N i).length<=i
  | 0=>by simp[CK]
  | i+1=>by
    have:=Of N i
    unfold CK;rw[List.length_append]
    split <;> simp <;> omega
theorem Og (N:AT->Bool) (t:AT):∀ i,t∈CK g N i↔∃ j,j<i/\(kO g j).Act.Kind=2/\t=⟨(kO g j).Act.Key,B9 g j⟩/\N t=false
  | 0=>by simp[CK]
  | i+1=>by
    unfold CK;rw[List.mem_append,Og N t i]
    constructor
    · rintro (⟨j,h1,O⟩ | h)
      · exact⟨j, by omega,O⟩
      · split at h
        · rename_i hc
          rw[List.mem_singleton] at h;exact⟨i, by omega,hc.1,h, by rw[h]; exact hc.2⟩
        · simp at h
    · rintro⟨j,h1,O,U,h4⟩
      by_cases e:j=i
      · subst e
        right
        rw[if_pos ⟨O, by rw[<- U]; exact h4⟩,U];exact List.mem_singleton.2 rfl
      · exact .inl ⟨j, by omega,O,U,h4⟩
theorem Qs (F:Fit g n) (N:AT->Bool):∀ i,i<=g.Ops.length->(CK g N i).Nodup
  | 0,_=>by simp[CK]
  | i+1,hi=>by
    have O:=Qs F N i (by omega);unfold CK
    split
    · rw[List.nodup_append]
      refine⟨O, by simp, λa ha b U=>?_⟩;rw[List.mem_singleton] at U;subst U
      rintro rfl
      obtain⟨j,h1,h2,h3,-⟩:=(Og N _ i).1 ha;have e:B9 g i=B9 g j:=congrArg AT.ID h3;have a1:B9 g j=g.IDs[j]'(by rw[F.ids]; omega):=Cv (by rw[F.ids]; omega);have a2:B9 g i=g.IDs[i]'(by rw[F.ids]; omega):=Cv (by rw[F.ids]; omega);rw[a1,a2] at e
      have:=IA (KV F.ri) (by rw[F.ids]; omega) (by rw[F.ids]; omega) e;omega
    · rw[List.append_nil]; exact O
theorem z1cu (G:C9 g) (m:List (AT × Bool)):iter (I9 g m) ([],0)=some (CK g (λt=>(Bv m t).getD false) g.Ops.length):=by
  have hl:=G.e.len;have key:∃ b,iter (I9 g m) ([],0)=some b/\b=CK g (λt=>(Bv m t).getD false) g.Ops.length:=by
   refine D9 (F:=I9 g m) g.Ops.length (λi s=>s=(CK g (λt=>(Bv m t).getD false) i,(i:Int))) (λb=>b=CK g (λt=>(Bv m t).getD false) g.Ops.length) (λi s hi=>?_) (λs=>?_) ([],0) 0 (Nat.zero_le _) rfl
   · rintro rfl
     have hid:i<g.IDs.length:=by rw[G.e.ids]; exact hi
     unfold I9;rw[if_pos (by simpa using hi)];simp only[Ax hi,bS,AL (n:=i) (by omega)];rw[Ax hid];simp only[bS];have O:=GS hi;have U:g.IDs[i]=B9 g i:=(Cv hid).symm;rw[O,U];refine⟨_,?_,rfl⟩;by_cases c:(kO g i).Act.Kind=2
     · rw[if_pos (by simp[c])]
       simp only[bS]
       cases hN:(Bv m (⟨(kO g i).Act.Key,B9 g i⟩:AT)).getD false with
       | true =>
         rw[if_neg (by simp)];simp only[CK,hN,Bool.true_eq_false,and_false,if_false,List.append_nil]
       | false =>
         have:=Of (g:=g) (λt=>(Bv m t).getD false) i
         rw[if_pos (by simp),B1 (by simp only[List.length_singleton]; omega)];simp only[bS,CK,c,hN,and_self,if_true]
     · rw[if_neg (by simpa using c)]
       simp only[bS,Bool.false_eq_true,if_false,CK,c,false_and,List.append_nil]
   · rintro rfl
     unfold I9;rw[if_neg (by simp)];exact⟨_,rfl,rfl⟩
  obtain⟨b,b1,b2⟩:=key;rw[b1,b2]
structure IG (g:Ao) (T:List AT):Prop where
  len:T.length<=g.Ops.length
  ord:T.Pairwise λa b=>cfT a b<0
  mem:∀ t,t∈T↔∃ o,Cz g t.ID=some o/\o.Act.Kind=2/\o.Act.Key=t.Key/\¬ Over g t.Key t.ID
theorem VJ (a b:AT) (h:¬ cfT b a<0) (O:a≠b):cfT a b<0:=by
  rw[I8] at *;rcases Mz a.Key b.Key with k | k | k
  · exact .inl k
  · refine .inr ⟨k,?_⟩
    refine Classical.byContradiction λq=>h (.inr ⟨k.symm,?_⟩)
    have:kd a.ID≠kd b.ID:=λe=>O (by cases a; cases b; simp only at k e; rw[k,JY e]);omega
  · exact absurd (.inl k) h
theorem z1a4 (G:C9 g) (F:Fit g n) (h:Dx g=some 0):∃ T,MJ g=some (⟨T⟩,0)/\IG g T:=by
  have hl:=G.e.len;obtain⟨m,m1,m2⟩:=z1cy G F h;refine⟨srtG GB cfT (CK g (λt=>(Bv m t).getD false) g.Ops.length),?_,?_,?_, λt=>?_⟩
  · have:=Of (g:=g) (λt=>(Bv m t).getD false) g.Ops.length
    unfold MJ;rw[h];simp only[bS];rw[if_neg (by simp),m1];simp only[bS];rw[z1cu G m];simp only[bS];unfold PG;rw[CJ (by omega)];rfl
  · rw[Tn GB cfT swoT]; exact Of _ _
  · have p:=Mq GB cfT swoT (CK g (λt=>(Bv m t).getD false) g.Ops.length)
    have s:=Tm GB cfT swoT (CK g (λt=>(Bv m t).getD false) g.Ops.length);have nd:(srtG GB cfT (CK g (λt=>(Bv m t).getD false) g.Ops.length)).Nodup:=p.nodup_iff.2 (Qs F _ _ (Nat.le_refl _));exact(s.and nd).imp λ⟨O,U⟩=>VJ _ _ O U
  · rw[(Mq GB cfT swoT _).mem_iff,Og]
    constructor
    · rintro⟨j,O,U,rfl,h4⟩
      refine⟨_,Oc F O,U,rfl, λho=>?_⟩
      have:=(m2 _).2 ((Qr F).2 ho)
      rw[h4] at this
      cases this
    · rintro⟨o,O,U,h3,h4⟩
      obtain⟨i,hi,rfl,e⟩:=Vz F O;refine⟨i,hi,U, by cases t; simp only at h3 e ⊢; rw[h3,e],?_⟩;rw[<- Bool.not_eq_true,m2,Qr F];exact h4
end
section
theorem Qt {F G:Int->Option (Sum (Sum Int Unit) Int)} (n:Nat) (h:∀ i:Nat,i<n->F i=G i/\(F i=some (.inl (.inl 8))\/F i=some (.inr ((i+1:Nat):Int)))) (U:F n=some (.inl (.inr ()))) (hg:G n=some (.inl (.inr ()))) :
  ∀ k i:Nat,n - i=k->i<=n->∃ r,iter F i=some r/\iter G i=some r/\(r=.inl 8\/r=.inr ()/\∀ j:Nat,i<=j->j<n->F j=some (.inr ((j+1:Nat):Int)))
 | 0,i,hk,hi=>by
  obtain rfl:i=n:=by omega
  exact⟨_,B2 U,B2 hg,.inr ⟨rfl, λj O h2=>by omega⟩⟩
 | k+1,i,hk,hi=>by
  obtain⟨e,O | O⟩:=h i (by omega)
  ·exact⟨_,B2 O,B2 (e ▸ O),.inl rfl⟩
  ·obtain⟨r,r1,r2,r3⟩:=Qt n h U hg k (i+1) (by omega) (by omega);refine⟨r,(Bl O).trans r1,(Bl (e ▸ O)).trans r2,r3.imp id λ⟨q1,q2⟩=>⟨q1, λj h3 h4=>?_⟩⟩;by_cases c:j=i
   ·subst c; exact O
   ·exact q2 j (by omega) h4
theorem VK (k:Str):Gu (⟨2,k,(⟨0,0,0,[]⟩:Ay)⟩:AX)=some (if CG k then 0 else 8):=by
 rw[Q2 _ (by simp)]
 have:DW (⟨2,k,(⟨0,0,0,[]⟩:Ay)⟩:AX)=CG k:=by
  unfold DW;rw[if_neg (by simp),if_pos (.inl rfl)]
  cases CG k <;> rfl
 rw[this]
theorem VL (a b:AT):Kj a b=some (!decide (0<=cfT a b)):=by
 have e:decide (cfT a b<0)=!decide (0<=cfT a b):=by by_cases h:cfT a b<0 <;> simp[h] <;> omega
 rw[<- e];unfold Kj;by_cases c:a.Key=b.Key
 ·rw[if_neg (by simp[c]),Mx];simp only[bS]
  congr 1
  rw[decide_eq_decide,I8,FV];simp only[c,true_and]
  have:¬ b.Key<b.Key:=List.lt_irrefl _
  split
  ·simp[*]
  ·split <;> simp[*]
 ·rw[if_pos (by simp[c]),Ob];simp only[bS]
  congr 1
  rw[decide_eq_decide,I8];simp[c]
theorem z1c4 (a:Bb):∃ c,Hq a=some c/\N7 a=some c/\(c=0->a.List.length<=60/\∀ t∈a.List,CG t.Key=true):=by
 unfold Hq N7;by_cases hl:60<a.List.length
 ·rw[if_pos (by simp; omega),if_pos (by simp; omega)];exact⟨4,rfl,rfl, λh=>by cases h⟩
 rw[if_neg (by simp; omega),if_neg (by simp; omega)];have step:∀ i (hi:i<a.List.length),FW a (i:Int)=(if CG (a.List[i]).Key&&(i==0 || !decide (0<=cfT (a.List[i - 1]'(by omega)) a.List[i])) then some (.inr ((i+1:Nat):Int)) else some (.inl (.inl 8)))/\Ko a (i:Int)=FW a (i:Int):=λi hi=>by
  unfold FW Ko;have U:decide ((i:Int)<(a.List.length:Int))=true:=by simpa using hi
  simp only[U,if_true];rw[Ax hi];simp only[bS];rw[VK,Q1,AL (by omega)];simp only[bS]
  cases hn:CG (a.List[i]).Key with
  | false=>simp
  | true =>
   by_cases c:i=0
   ·subst c; simp
   ·rw[B6 (x:=(i:Int) - 1) (by omega) (by omega), show (i:Int) - 1=((i - 1:Nat):Int) by omega,Ax (by omega:i - 1<a.List.length)];simp only[bS];rw[VI,VL];simp only[bS]
    have:0<i:=by omega
    by_cases d:0<=cfT a.List[i - 1] a.List[i] <;> simp[c,d,this]
 obtain⟨r,r1,r2,O⟩:=Qt (F:=FW a) (G:=Ko a) a.List.length (λi hi=>⟨(step i hi).2.symm, by rw[(step i hi).1]; split <;> simp⟩) (by
  unfold FW
  rw[if_neg (by simp)]) (by
  unfold Ko
  rw[if_neg (by simp)]) _ 0 rfl (Nat.zero_le _)
 rw[show (0:Int)=((0:Nat):Int) from rfl,r1,r2];rcases O with rfl | ⟨rfl,O⟩
 ·exact⟨8,rfl,rfl, λh=>by cases h⟩
 ·refine⟨0,rfl,rfl, λ_=>⟨by omega, λt ht=>?_⟩⟩;obtain⟨i,hi,rfl⟩:=List.getElem_of_mem ht
  have:=O i (Nat.zero_le _) hi
  rw[(step i hi).1] at this
  split at this
  ·rename_i h; rw[Bool.and_eq_true] at h; exact h.1
  ·cases this
theorem z1dk (a:Bd) (w:∀ r∈a.List,r.Value.Text.length<=9223372036854775807):∃ c,Hr a=some c/\N8 a=some c/\(c=0->a.List.length<=60/\∀ r∈a.List,CG r.Key=true/\okV r.Value=true):=by
 unfold Hr N8;by_cases hl:60<a.List.length
 ·rw[if_pos (by simp; omega),if_pos (by simp; omega)];exact⟨4,rfl,rfl, λh=>by cases h⟩
 rw[if_neg (by simp; omega),if_neg (by simp; omega)];have step:∀ i (hi:i<a.List.length),FX a (i:Int)=(if CG (a.List[i]).Key&&(okV (a.List[i]).Value&&(!decide (1000000000000<(a.List[i]).Stamp)&&(i==0 || Dp (a.List[i - 1]'(by omega)).Key (a.List[i]).Key))) then some (.inr ((i+1:Nat):Int)) else some (.inl (.inl 8)))/\Kp a (i:Int)=FX a (i:Int):=λi hi=>by
  unfold FX Kp;have a1:decide ((i:Int)<(a.List.length:Int))=true:=by simpa using hi
  simp only[a1,if_true];rw[Ax hi];simp only[bS];rw[VK,Q1,AL (by omega)];simp only[bS]
  cases hn:CG (a.List[i]).Key with
  | false=>simp
  | true =>
   simp only[if_true,bne_self_eq_false,Bool.false_eq_true,if_false,Bool.not_true];rw[Mv _ (w _ (List.getElem_mem hi)),TE _ (w _ (List.getElem_mem hi))];simp only[bS]
   cases hv:okV (a.List[i]).Value with
   | false=>simp
   | true =>
    by_cases O:1000000000000<(a.List[i]).Stamp
    ·simp[O]
    ·by_cases c:i=0
     ·subst c; simp[O]
     ·rw[B6 (x:=(i:Int) - 1) (by omega) (by omega), show (i:Int) - 1=((i - 1:Nat):Int) by omega,Ax (by omega:i - 1<a.List.length)]
      have:0<i:=by omega
      cases d:Dp (a.List[i - 1]).Key (a.List[i]).Key <;> simp[c,d,O,this]
 obtain⟨r,r1,r2,U⟩:=Qt (F:=FX a) (G:=Kp a) a.List.length (λi hi=>⟨(step i hi).2.symm, by rw[(step i hi).1]; split <;> simp⟩) (by
  unfold FX
  rw[if_neg (by simp)]) (by
  unfold Kp
  rw[if_neg (by simp)]) _ 0 rfl (Nat.zero_le _)
 rw[show (0:Int)=((0:Nat):Int) from rfl,r1,r2];rcases U with rfl | ⟨rfl,U⟩
 ·exact⟨8,rfl,rfl, λh=>by cases h⟩
 ·refine⟨0,rfl,rfl, λ_=>⟨by omega, λt ht=>?_⟩⟩;obtain⟨i,hi,rfl⟩:=List.getElem_of_mem ht
  have:=U i (Nat.zero_le _) hi
  rw[(step i hi).1] at this
  split at this
  ·rename_i h; simp only[Bool.and_eq_true] at h; exact⟨h.1,h.2.1⟩
  ·cases this
theorem z10q (s:Bt) (hl:s.Heads.length<=1000):iter (FY s (s.Heads.length:Int)) 1=some (if BH s.Heads then .inr () else .inl 8):=by
 by_cases h0:s.Heads.length=0
 ·have e:s.Heads=[]:=List.length_eq_zero_iff.1 h0;refine(B2 (b:=.inr ()) ?_).trans (by rw[e]; rfl);unfold FY;rw[if_neg (by simp; omega)]
 have r:=PB s.Heads (by omega) _ 1 rfl (Nat.le_refl _) (by omega)
 refine(z17t (G:=FY s (s.Heads.length:Int)) id (Sum.map (λ_=>(8:Int)) id) (λi x O=>?_) ((1:Nat):Int) _ r).trans (by
  rw[Nat.sub_self,List.drop_zero]
  cases BH s.Heads <;> rfl)
 unfold He at O;unfold FY;simp only[id];by_cases c:decide (i<(s.Heads.length:Int))=true
 ·rw[if_pos c] at O ⊢
  cases U:idx s.Heads (w64 (i - 1)) with
  | none=>rw[U] at O; cases O
  | some y =>
   rw[U] at O;simp only[bS] at O ⊢
   cases h2:idx s.Heads i with
   | none=>rw[h2] at O; cases O
   | some z =>
    rw[h2] at O;simp only[bS] at O ⊢;rw[Mx] at O;rw[show MR y z=some (Lib.compareBytes y.toList z.toList) from rfl];simp only[bS] at O ⊢;by_cases d:decide (0<=Lib.compareBytes y.toList z.toList)=true
    ·rw[if_pos d] at O ⊢; cases O; rfl
    ·rw[if_neg d] at O ⊢; cases O; rfl
 ·rw[if_neg c] at O ⊢
  cases O; rfl
structure StOk (s:Bt):Prop where
 v0:0<=s.Version
 v1:s.Version<=60
 hd:s.Heads.length<=60
 tl:s.Set.List.length<=60
 tn:∀ t∈s.Set.List,CG t.Key=true
 rl:s.Regs.List.length<=60
 rn:∀ r∈s.Regs.List,CG r.Key=true/\okV r.Value=true
theorem stck (s:Bt) (w:∀ r∈s.Regs.List,r.Value.Text.length<=9223372036854775807) (wh:s.Heads.length<=9223372036854775807):∃ c,Hs s=some c/\N9 s=some c/\(c=0->StOk s):=by
 obtain⟨c1,a1,b1,o1⟩:=z1c4 s.Set;obtain⟨c2,a2,b2,o2⟩:=z1dk s.Regs w;unfold Hs N9;simp only[bS];by_cases h1:s.Version<0
 ·simp only[decide_eq_true h1,if_true];exact⟨8,rfl,rfl, λh=>by cases h⟩
 simp only[decide_eq_false h1,Bool.false_eq_true,if_false];by_cases h2:60<s.Version
 ·simp only[decide_eq_true h2,if_true];exact⟨8,rfl,rfl, λh=>by cases h⟩
 simp only[decide_eq_false h2,Bool.false_eq_true,if_false];by_cases h3:s.Version<(s.Heads.length:Int)
 ·simp only[decide_eq_true h3,if_true];exact⟨8,rfl,rfl, λh=>by cases h⟩
 simp only[decide_eq_false h3,Bool.false_eq_true,if_false];rw[z10q s (by omega),PC _ wh,a1,a2,b1,b2];have ok:c1=0->c2=0->StOk s:=λO U=>⟨by omega, by omega, by omega,(o1 O).1,(o1 O).2,(o2 U).1,(o2 U).2⟩;by_cases h4:s.Heads.length=0
 ·have d4:((s.Heads.length:Int)==0)=true:=by simp[h4]
  simp only[d4,if_true];by_cases h5:0<s.Version
  ·simp only[decide_eq_true h5,if_true];exact⟨8,rfl,rfl, λh=>by cases h⟩
  simp only[decide_eq_false h5,Bool.false_eq_true,if_false];by_cases O:c1=0 <;> by_cases U:c2=0 <;> cases BH s.Heads <;> simp[O,U,Bc] <;> exact ok O U
 ·have d4:((s.Heads.length:Int)==0)=false:=by rw[beq_eq_false_iff_ne]; omega
  simp only[d4,Bool.false_eq_true,if_false];by_cases O:c1=0 <;> by_cases U:c2=0 <;> cases BH s.Heads <;> simp[O,U,Bc] <;> exact ok O U
def E1 (t:AT):List UInt8:=BC t.Key.length++t.Key++t.ID.toList
def EA (r:AP):List UInt8:=BC r.Key.length++r.Key++encV r.Value++BC r.Stamp.toNat++r.ID.toList
def stB (s:Bt):List UInt8:=BC (UInt64.ofInt s.Version).toNat++(BC s.Heads.length++Da s.Heads)++BC s.Set.List.length++s.Set.List.flatMap E1++BC s.Regs.List.length++s.Regs.List.flatMap EA
theorem Oh {α:Type} (f:α->List UInt8) (l:List α) {i:Nat} (hi:i<l.length):(l.take (i+1)).flatMap f=(l.take i).flatMap f++f l[i]:=by
 rw[<- List.take_append_getElem hi,List.flatMap_append]; simp
theorem GT {α:Type} (f:α->List UInt8) (B:Nat) (l:List α) (h:∀ x∈l,(f x).length<=B):(l.flatMap f).length<=l.length * B:=by
 induction l with
 | nil=>simp
 | cons a l O =>
  have h1:=h a (by simp);have h2:=O λx U=>h x (by simp[U]);simp only[List.flatMap_cons,List.length_append,List.length_cons,Nat.add_mul];omega
theorem Oi {t:AT} (h:CG t.Key=true):(E1 t).length<=200:=by
 have h1:=GK h;have h2:=Bu t.Key.length (by omega);simp only[E1,List.length_append,Vector.length_toList];omega
theorem Oj {r:AP} (h:CG r.Key=true/\okV r.Value=true) (hI:inI r.Value.Num):(EA r).length<=200:=by
 have h1:=GK h.1;have h2:=Bu r.Key.length (by omega);have h3:=Iz h.2 hI;have h4:=Bu r.Stamp.toNat (UInt64.toNat_lt _);simp only[EA,List.length_append,Vector.length_toList];omega
theorem Qu {s:Bt} (K:StOk s) (hI:∀ r∈s.Regs.List,inI r.Value.Num):KK s=some (stB s):=by
 have n1:=Bu (UInt64.ofInt s.Version).toNat (UInt64.toNat_lt _);have n2:=Bu s.Heads.length (by have:=K.hd; omega);have n3:=Bu s.Set.List.length (by have:=K.tl; omega);have n4:=Bu s.Regs.List.length (by have:=K.rl; omega);have hd:=K.hd; have tl:=K.tl; have rl:=K.rl;have i1:=FB s.Heads;generalize hP:BC (UInt64.ofInt s.Version).toNat++(BC s.Heads.length++Da s.Heads)++BC s.Set.List.length=P;have hPl:P.length<=3000:=by rw[<- hP]; simp only[List.length_append]; omega
 have lt:∀ i,((s.Set.List.take i).flatMap E1).length<=12000:=λi=>Nat.le_trans (GT E1 200 _ λt O=>Oi (K.tn t (List.mem_of_mem_take O))) (by simp only[List.length_take]; omega);have lr:∀ i,((s.Regs.List.take i).flatMap EA).length<=12000:=λi=>Nat.le_trans (GT EA 200 _ λt O=>Oj (K.rn t (List.mem_of_mem_take O)) (hI t (List.mem_of_mem_take O))) (by simp only[List.length_take]; omega)
 have L0:=Ck (F:=KI s) s.Set.List.length (λi=>(P++(s.Set.List.take i).flatMap E1,(i:Int))) (λi hi=>by
  have hn:=GK (K.tn _ (List.getElem_mem hi));have h2:=Bu (s.Set.List[i]).Key.length (by omega);have h3:=lt i;unfold KI;rw[if_pos (by simpa using hi)];simp only[];rw[Ax hi];simp only[bS];rw[CJ (by omega),JW _ (by omega),AL (by omega)];simp only[bS];rw[B1 (by simp only[List.length_append]; omega)];simp only[bS];rw[B1 (by simp only[List.length_append,Vector.length_toList]; omega),Oh _ _ hi]
  simp only[bS,E1,List.append_assoc]) (by
  unfold KI
  rw[if_neg (by simp)])
 rw[List.take_length] at L0;generalize hQ:P++s.Set.List.flatMap E1++BC s.Regs.List.length=Q;have hQl:Q.length<=16000:=by
  have:=lt s.Set.List.length
  rw[List.take_length] at this;rw[<- hQ]; simp only[List.length_append]; omega
 have L2:=Ck (F:=KJ s) s.Regs.List.length (λi=>(Q++(s.Regs.List.take i).flatMap EA,(i:Int))) (λi hi=>by
  have U:=K.rn _ (List.getElem_mem hi);have hv:=hI _ (List.getElem_mem hi);have hn:=GK U.1;have h2:=Bu (s.Regs.List[i]).Key.length (by omega);have h3:=lr i;have h4:=Iz U.2 hv;have h5:=Bu (s.Regs.List[i]).Stamp.toNat (UInt64.toNat_lt _);unfold KJ;rw[if_pos (by simpa using hi)];simp only[];rw[Ax hi];simp only[bS];rw[CJ (by omega),JW _ (by omega),AL (by omega),TH _ hv U.2,Ey];simp only[bS]
  rw[B1 (by simp only[List.length_append]; omega)];simp only[bS];rw[B1 (by simp only[List.length_append]; omega)];simp only[bS];rw[B1 (by simp only[List.length_append]; omega)];simp only[bS];rw[B1 (by simp only[List.length_append,Vector.length_toList]; omega),Oh _ _ hi]
  simp only[bS,EA,List.append_assoc]) (by
  unfold KJ
  rw[if_neg (by simp)])
 rw[List.take_length] at L2;have hS:=lt s.Set.List.length;rw[List.take_length] at hS;unfold KK;rw[Ey,Ey,Ey,TJ _ (by omega),ES (by omega),ES (by omega)];simp only[bS];rw[B1 (by simp only[List.length_append]; omega)];simp only[bS];rw[B1 (by simp only[List.length_append]; omega),hP];simp only[bS];have L0':iter (KI s) (P,0)=some (P++s.Set.List.flatMap E1):=by simpa using L0
 rw[L0'];simp only[bS];rw[B1 (by simp only[List.length_append]; omega),hQ];simp only[bS];have L2':iter (KJ s) (Q,0)=some (Q++s.Regs.List.flatMap EA):=by simpa using L2
 rw[L2',<- hQ,<- hP];rfl
theorem Ok (c:CQ) (n:Int) (h:c.bytes.b.length<=100000):Hv c n=some ⟨⟨c.bytes.b++BC (UInt64.ofInt n).toNat⟩,c.bad⟩:=by
 have:=Bu (UInt64.ofInt n).toNat (UInt64.toNat_lt _)
 unfold Hv;rw[EZ];simp only[bS];rw[B1 (by omega)];rfl
theorem Qv (c:CQ) (v:ID) (h:c.bytes.b.length<=100000):It c v=some ⟨⟨c.bytes.b++v.toList⟩,c.bad⟩:=by
 unfold It;rw[B1 (by simp only[Vector.length_toList]; omega)];rfl
theorem VM (c:CQ) {k:Str} (h:c.bytes.b.length<=100000) (hk:k.length<=20):KF c k=some ⟨⟨c.bytes.b++(BC k.length++k)⟩,c.bad⟩:=by
 have:=Bu k.length (by omega)
 unfold KF;rw[CJ (by omega),Mw _ (by omega)];simp only[bS,bne_self_eq_false,Bool.false_eq_true,if_false];rw[B1 (by simp only[List.length_append]; omega)];rfl
theorem z15h (c:CQ) {l:List ID} (h:c.bytes.b.length<=90000) (hl:l.length<=60):NT c l=some ⟨⟨c.bytes.b++(BC l.length++Da l)⟩,c.bad⟩:=by
 have hn:=Bu l.length (by omega)
 have L:=Ck (F:=NS l) l.length (λi=>(c.bytes.b++BC l.length++Da (l.take i),c.bad,(i:Int))) (λi hi=>by
  have:=FB (l.take i)
  rw[List.length_take] at this;unfold NS;rw[if_pos (by simpa using hi)];simp only[];rw[Ax hi];simp only[bS];rw[Qv _ _ (by simp only[List.length_append]; omega),AL (by omega),PD _ _ hi]
  simp only[bS,List.append_assoc]) (by
  unfold NS
  rw[if_neg (by simp)])
 unfold NT;rw[Ok _ _ (by omega),ES (by omega)];simp only[bS];have e:Da ([]:List ID)=[]:=rfl;rw[List.take_length,List.take_zero,e,List.append_nil,List.append_assoc] at L;exact L
theorem VN {s:Bt} (K:StOk s) (hI:∀ r∈s.Regs.List,inI r.Value.Num/\r.Value.Text.length<=9223372036854775807) (hc:Hs s=some 0):GD s=some (stB s,0):=by
 have n1:=Bu (UInt64.ofInt s.Version).toNat (UInt64.toNat_lt _);have n2:=Bu s.Heads.length (by have:=K.hd; omega);have n3:=Bu s.Set.List.length (by have:=K.tl; omega);have n4:=Bu s.Regs.List.length (by have:=K.rl; omega);have hd:=K.hd; have tl:=K.tl; have rl:=K.rl;have i1:=FB s.Heads;generalize hP:BC (UInt64.ofInt s.Version).toNat++(BC s.Heads.length++Da s.Heads)++BC s.Set.List.length=P;have hPl:P.length<=3000:=by rw[<- hP]; simp only[List.length_append]; omega
 have lt:∀ i,((s.Set.List.take i).flatMap E1).length<=12000:=λi=>Nat.le_trans (GT E1 200 _ λt O=>Oi (K.tn t (List.mem_of_mem_take O))) (by simp only[List.length_take]; omega);have lr:∀ i,((s.Regs.List.take i).flatMap EA).length<=12000:=λi=>Nat.le_trans (GT EA 200 _ λt O=>Oj (K.rn t (List.mem_of_mem_take O)) (hI t (List.mem_of_mem_take O)).1) (by simp only[List.length_take]; omega)
 have L0:=Ck (F:=KG s) s.Set.List.length (λi=>(P++(s.Set.List.take i).flatMap E1,(0:Int),(i:Int))) (λi hi=>by
  have U:=GK (K.tn _ (List.getElem_mem hi));have h2:=Bu (s.Set.List[i]).Key.length (by omega);have h3:=lt i;unfold KG;rw[if_pos (by simpa using hi)];simp only[];rw[Ax hi];simp only[bS];rw[VM _ (by simp only[List.length_append]; omega) U,AL (by omega)];simp only[bS];rw[Qv _ _ (by simp only[List.length_append]; omega),Oh _ _ hi]
  simp only[bS,E1,List.append_assoc]) (by
  unfold KG
  rw[if_neg (by simp)])
 rw[List.take_length] at L0;have hS:=lt s.Set.List.length;rw[List.take_length] at hS;generalize hQ:P++s.Set.List.flatMap E1++BC s.Regs.List.length=Q;have hQl:Q.length<=16000:=by rw[<- hQ]; simp only[List.length_append]; omega
 have L2:=Ck (F:=KH s) s.Regs.List.length (λi=>(Q++(s.Regs.List.take i).flatMap EA,(0:Int),(i:Int))) (λi hi=>by
  have hk:=K.rn _ (List.getElem_mem hi);have hv:=hI _ (List.getElem_mem hi);have U:=GK hk.1;have h2:=Bu (s.Regs.List[i]).Key.length (by omega);have h3:=lr i;have h4:=Iz hk.2 hv.1;have h5:=Bu (s.Regs.List[i]).Stamp.toNat (UInt64.toNat_lt _);unfold KH;rw[if_pos (by simpa using hi)];simp only[];rw[Ax hi];simp only[bS];rw[VM _ (by simp only[List.length_append]; omega) U,AL (by omega),TG _ hv.1 hv.2,hk.2,EZ]
  simp only[bS,if_true,bne_self_eq_false,Bool.false_eq_true,if_false];rw[B1 (by simp only[List.length_append]; omega)];simp only[bS];rw[B1 (by simp only[List.length_append]; omega)];simp only[bS];rw[Qv _ _ (by simp only[List.length_append]; omega),Oh _ _ hi]
  simp only[bS,EA,List.append_assoc]) (by
  unfold KH
  rw[if_neg (by simp)])
 rw[List.take_length] at L2;unfold GD;rw[hc];simp only[bS,bne_self_eq_false,Bool.false_eq_true,if_false];rw[Ok _ _ (by simp)];simp only[bS,List.nil_append];rw[z15h _ (by show (BC (UInt64.ofInt s.Version).toNat).length<=90000; omega) hd];simp only[bS];rw[Ok _ _ (by simp only[List.length_append]; omega),ES (by omega),hP];simp only[bS];have L0':iter (KG s) (P,0,0)=some (P++s.Set.List.flatMap E1,0):=by simpa using L0
 rw[L0'];simp only[bS];rw[Ok _ _ (by simp only[List.length_append]; omega),ES (by omega),hQ];simp only[bS];have L2':iter (KH s) (Q,0,0)=some (.inr (Q++s.Regs.List.flatMap EA,0)):=by simpa using L2
 rw[L2',<- hQ,<- hP];rfl
theorem VO (s:Bt) (w:JU s):∃ r,GD s=some r/\Iu s=some r/\(r.2=0->StOk s/\r.1=stB s):=by
 obtain⟨_,-,⟨⟨U,-⟩,-⟩,⟨-,w4⟩,-⟩:=w;have hI:∀ r∈s.Regs.List,inI r.Value.Num/\r.Value.Text.length<=9223372036854775807:=λr O=>⟨(U r O).2.1.2.1,(U r O).2.1.2.2.2.1⟩;obtain⟨c,c1,c2,c3⟩:=stck s (λr O=>(hI r O).2) w4;by_cases h:c=0
 ·subst h;have K:=c3 rfl;refine⟨(stB s,0),VN K hI c1,?_, λ_=>⟨K,rfl⟩⟩;unfold Iu;rw[c2];simp only[bS,bne_self_eq_false,Bool.false_eq_true,if_false];rw[Qu K λr O=>(hI r O).1];rfl
 ·refine⟨([],c),?_,?_, λe=>absurd e h⟩
  ·unfold GD;rw[c1];simp only[bS];rw[if_pos (by simpa using h)]
  ·unfold Iu;rw[c2];simp only[bS];rw[if_pos (by simpa using h)]
end
section
variable {g:Ao} {n:Nat}
theorem VP (l:List ID) (x:ID) (O:l.length<=1000000):∀ n i:Nat,l.length - i=n->i<=l.length->iter (Kh l x) (i:Int)=some (if x∈l.drop i then .inl true else .inr ())
 | 0,i,U,hi=>by
  rw[List.drop_eq_nil_of_le (by omega)];refine B2 ?_;unfold Kh;rw[if_neg (by simp; omega)];rfl
 | n+1,i,U,hi=>by
  have h:i<l.length:=by omega
  have e:Kh l x (i:Int)=if l[i]=x then some (.inl (.inl true)) else some (.inr ((i+1:Nat):Int)):=by
   unfold Kh;rw[if_pos (by simpa using h),Ax h,AL (by omega)];simp only[bS,decide_eq_true_eq]
  rw[List.drop_eq_getElem_cons h];by_cases c:l[i]=x
  ·rw[B2 (e.trans (if_pos c)),if_pos (by simp[c])]
  ·rw[Bl (e.trans (if_neg c)),VP l x O n (i+1) (by omega) (by omega)];simp only[List.mem_cons, show ¬ x=l[i] from λh=>c h.symm,false_or]
theorem Qw (l:List ID) (x:ID) (O:l.length<=1000000):Ht l x=some (decide (x∈l)):=by
 have:=VP l x O _ 0 rfl (Nat.zero_le _)
 unfold Ht;rw[show (0:Int)=((0:Nat):Int) from rfl,this,List.drop_zero];by_cases c:x∈l <;> simp[c,Bc]
theorem z1ar (F:Fit g n) (hl:g.Ops.length<=1000) {x:ID} {o:Ab} (h:Cz g x=some o):MS g x=some o:=by
 obtain⟨i,h1,h2⟩:=(GR F).1 h;obtain⟨hi,rfl⟩:=List.getElem?_eq_some_iff.1 h1;obtain⟨hj,rfl⟩:=List.getElem?_eq_some_iff.1 h2;have hid:=F.ids;have hx:g.IDs[i]∈g.IDs:=List.getElem_mem hi;obtain⟨k,k1,⟨_,U⟩ | ⟨j,rfl,a1,U⟩⟩:=V7 g.IDs g.IDs[i] (by omega)
 ·exact absurd hx U
 have O:Cz g g.IDs[j]=some (g.Ops[j]'(by omega)):=IE F (by omega);rw[U,h,Option.some.injEq] at O;unfold MS;rw[k1];simp only[bS];rw[if_neg (by simp),if_neg (by simp; omega),Ax (by omega)];simp only[bS];rw[O]
theorem z17n (o:Ab) (out now:List ID) (hp:o.Preds.length<=100) (h1:out.length<=1000) (h2:now.length<=2000) (hn:out.Nodup):∃ new:List ID,iter (Ki o) (out,now,0)=some (.inr (out++new,now++new))/\(out++new).Nodup/\(∀ x∈new,x∈o.Preds)/\∀ x∈o.Preds,x∈out++new:=by
 have key:=D9 (F:=Ki o) o.Preds.length (λi s=>∃ new:List ID,s=(out++new,now++new,(i:Int))/\(out++new).Nodup/\new.length<=i/\(∀ x∈new,x∈o.Preds)/\∀ j (O:j<o.Preds.length),j<i->o.Preds[j]∈out++new) (λb=>∃ new:List ID,b=.inr (out++new,now++new)/\(out++new).Nodup/\(∀ x∈new,x∈o.Preds)/\∀ x∈o.Preds,x∈out++new) (λi s hi=>?_) (λs=>?_) (out,now,0) 0 (Nat.zero_le _) ⟨[], by simp, by simpa using hn,Nat.le_refl _, by simp, λj O h=>by omega⟩
 ·obtain⟨b,b1,new,rfl,b2⟩:=key;exact⟨new,b1,b2⟩
 ·rintro⟨new,rfl,c1,c2,c3,c4⟩
  unfold Ki;simp only[];rw[if_pos (by simpa using hi),Ax hi];simp only[bS];rw[Qw _ _ (by simp only[List.length_append]; omega),AL (by omega)];simp only[bS];by_cases c:o.Preds[i]∈out++new
  ·rw[decide_eq_true c,if_neg (by simp)]
   exact⟨_,rfl,new,rfl,c1, by omega,c3, λj O h=>by
    by_cases e:j=i
    ·subst e; exact c
    ·exact c4 j O (by omega)⟩
  ·rw[decide_eq_false c,if_pos (by simp),B1 (by simp only[List.length_append,List.length_singleton]; omega)];simp only[bS];rw[B1 (by simp only[List.length_append,List.length_singleton]; omega)];simp only[bS];refine⟨_,rfl,new++[o.Preds[i]], by simp only[List.append_assoc],?_, by simp; omega,?_, λj O h=>?_⟩
   ·rw[<- List.append_assoc,List.nodup_append];exact⟨c1, by simp, λa ha b hb=>by rw[List.mem_singleton.1 hb]; intro e; subst e; exact c ha⟩
   ·intro x U;rcases List.mem_append.1 U with U | U
    ·exact c3 x U
    ·rw[List.mem_singleton.1 U]; exact List.getElem_mem hi
   ·rw[<- List.append_assoc,List.mem_append];by_cases e:j=i
    ·subst e; exact .inr (by simp)
    ·exact .inl (c4 j O (by omega))
 ·rintro⟨new,rfl,c1,c2,c3,c4⟩
  unfold Ki;simp only[];rw[if_neg (by simp)];exact⟨_,rfl,new,rfl,c1,c3, λx U=>by obtain⟨j,O,rfl⟩:=List.getElem_of_mem U; exact c4 j O O⟩
theorem z172 (G:C9 g) (F:Fit g n) {y:ID} {o:Ab} (hy:Cz g y=some o):∃ l,MU g y=some l/\l.length<=60/\∀ x,x∈l↔DF g x y:=by
 have hl:=G.e.len;have a6:=F.ids;have Dz:∀ {x},DF g x y->∃ q,Cz g x=some q:=λU=>by
  have:=Vy G U
  obtain⟨i,hi,rfl⟩:=List.getElem_of_mem this;exact⟨_,IE F (by omega)⟩
 have small:∀ {l:List ID},l.Nodup->(∀ x∈l,DF g x y)->l.length<=60:=λhn ha=>by
  have:=FD _ g.IDs hn λx U=>Vy G (ha x U)
  omega
 have key:=FS (F:=MT g)
  (λs=>s.1.Nodup/\(∀ x∈s.1,DF g x y)/\(∀ p∈s.2,p=y\/p∈s.1)/\s.2.length<=s.1.length+1/\∀ p q,(p=y\/p∈s.1)->p∉s.2->Cz g p=some q->∀ x∈q.Preds,x∈s.1)
  (λs=>s.2.length+2 * (60 - s.1.length))
  (λl=>l.Nodup/\(∀ x∈l,DF g x y)/\∀ p q,(p=y\/p∈l)->Cz g p=some q->∀ x∈q.Preds,x∈l)
  (λs hs=>?_) ([],[y]) ⟨by simp, by simp, by simp, by simp, λp q O h2=>by simp at O; exact absurd (by simp[O]) h2⟩
 ·obtain⟨b,b1,b2,b3,b4⟩:=key;refine⟨b,?_,small b2 b3, λx=>⟨b3 x, λh=>?_⟩⟩
  ·unfold MU;rw[b1];rfl
  ·induction h with
   | one O h2=>exact b4 _ _ (.inl rfl) O _ h2
   | step h0 O h2 ih=>exact b4 _ _ (.inr (ih hy Dz small b1 b3 b4)) O _ h2
 ·obtain⟨out,now⟩:=s;obtain⟨c1,c2,c3,c4,c5⟩:=hs;simp only at c1 c2 c3 c4 c5;have ho:=small c1 c2
  cases now with
  | nil =>
   refine .inl ⟨out,?_,c1,c2, λp q O h2=>c5 p q O (by simp) h2⟩;unfold MT;rw[if_neg (by simp)]
  | cons p rest =>
   simp only[List.length_cons] at c4;have hp:∃ q,Cz g p=some q:=by
    rcases c3 p (by simp) with rfl | h
    ·exact⟨_,hy⟩
    ·exact Dz (c2 p h)
   obtain⟨q,hq⟩:=hp;have a1:q.Preds.length<=100:=by
    obtain⟨i,O,h2⟩:=(GR F).1 hq;obtain⟨hj,rfl⟩:=List.getElem?_eq_some_iff.1 h2
    have:=(F.op _ (List.getElem_mem hj)).1; omega
   obtain⟨new,e1,e2,e3,e4⟩:=z17n q out rest a1 (by omega) (by omega) c1;have anew:∀ x∈out++new,DF g x y:=λx U=>by
    rcases List.mem_append.1 U with U | U
    ·exact c2 x U
    ·rcases c3 p (by simp) with rfl | h
     ·exact .one hq (e3 x U)
     ·exact .step (c2 p h) hq (e3 x U)
   have hs:=small e2 anew;simp only[List.length_append] at hs;refine .inr ⟨(out++new,rest++new),?_,⟨e2,anew, λz hz=>?_, by simp only[List.length_append]; omega, λz w O h2 h3 x U=>?_⟩, by simp only[List.length_append,List.length_cons]; omega⟩
   ·unfold MT;simp only[];rw[if_pos (by simp), show idx (p::rest) 0=some p from rfl];simp only[bS];rw[z1ar F (by omega) hq, show (1:Int)=((1:Nat):Int) from rfl,Hn (by simp) (Nat.le_refl _),List.take_of_length_le (by simp)];simp only[bS,List.drop_succ_cons,List.drop_zero];exact e1
   ·rw[List.mem_append];rcases List.mem_append.1 hz with hz | hz
    ·exact(c3 z (by simp[hz])).imp id .inl
    ·exact .inr (.inr hz)
   ·by_cases ez:z=p
    ·subst ez;rw[hq,Option.some.injEq] at h3;subst h3;exact e4 x U
    ·have a2:z=y\/z∈out:=by
      rcases O with O | O
      ·exact .inl O
      ·rcases List.mem_append.1 O with O | O
       ·exact .inr O
       ·exact absurd (List.mem_append.2 (.inr O)) h2
     refine List.mem_append.2 (.inl (c5 z w a2 (λhc=>?_) h3 x U));rcases List.mem_cons.1 hc with hc | hc
     ·exact ez hc
     ·exact h2 (List.mem_append.2 (.inl hc))
theorem Qx {α:Type} {lt:α->α->Prop} (ir:∀ a,¬ lt a a) (tr:∀ a b c,lt a b->lt b c->lt a c):∀ (l m:List α),l.Pairwise lt->m.Pairwise lt->(∀ x,x∈l↔x∈m)->l=m
 | [],[],_,_,_=>rfl
 | [],b::m,_,_,h=>absurd ((h b).2 (by simp)) (by simp)
 | a::l,[],_,_,h=>absurd ((h a).1 (by simp)) (by simp)
 | a::l,b::m,hl,hm,h=>by
  obtain⟨l1,l2⟩:=List.pairwise_cons.1 hl;obtain⟨m1,m2⟩:=List.pairwise_cons.1 hm;have e:a=b:=by
   rcases List.mem_cons.1 ((h a).1 (by simp)) with e | ha
   ·exact e
   ·rcases List.mem_cons.1 ((h b).2 (by simp)) with e | hb
    ·exact e.symm
    ·exact absurd (tr _ _ _ (l1 b hb) (m1 a ha)) (ir a)
  subst e;rw[Qx ir tr l m l2 m2 λx=>?_]
  constructor
  ·intro O;rcases List.mem_cons.1 ((h x).1 (by simp[O])) with e | U
   ·subst e; exact absurd (l1 x O) (ir x)
   ·exact U
  ·intro O;rcases List.mem_cons.1 ((h x).2 (by simp[O])) with e | U
   ·subst e; exact absurd (m1 x O) (ir x)
   ·exact U
theorem Qy {α:Type} {F:List α × Int->Option (Sum (List α) (List α × Int))} {lt:α->α->Bool} (N:Nat)
  (hF:∀ (A:List α) (x t:α) (B:List α),A.length+B.length<=N->F (A++x::t::B,((A.length+1:Nat):Int))=if lt t x then some (.inr (A++t::x::B,(A.length:Int))) else some (.inl (A++x::t::B)))
  (h0:∀ l,F (l,0)=some (.inl l)) (t:α):∀ (k:Nat) (A B:List α),A.length=k->A.length+B.length<=N->(∀ b∈B,lt t b=true) ->
   ∃ A' B',A++B=A'++B'/\iter F (A++t::B,(A.length:Int))=some (A'++t::B')/\(∀ b∈B',lt t b=true)/\∀ x A'',A'=A''++[x]->lt t x=false
 | 0,A,B,O,hN,hB=>by
  obtain rfl:=List.length_eq_zero_iff.1 O;exact⟨[],B,rfl,B2 (h0 _),hB, λx A'' h=>by simp at h⟩
 | k+1,A,B,O,hN,hB=>by
  have a1:A≠[]:=λe=>by subst e; cases O
  obtain⟨A0,x,rfl⟩:∃ A0 x,A=A0++[x]:=⟨_,_,(List.dropLast_concat_getLast a1).symm⟩
  simp only[List.length_append,List.length_singleton] at O hN;have e:=hF A0 x t B (by omega);simp only[List.append_assoc,List.singleton_append,List.length_append,List.length_singleton]
  cases c:lt t x with
  | true =>
   rw[c,if_pos rfl] at e
   obtain⟨A',B',p1,p2,p3,p4⟩:=Qy N hF h0 t k A0 (x::B) (by omega) (by simp only[List.length_cons]; omega) (λb U=>by
    rcases List.mem_cons.1 U with rfl | U
    ·exact c
    ·exact hB b U)
   exact⟨A',B',p1,(Bl e).trans p2,p3,p4⟩
  | false =>
   rw[c,if_neg (by simp)] at e
   exact⟨A0++[x],B, by simp, by rw[B2 e]; simp,hB, λy A'' h=>by
    have:=List.append_inj_right' h rfl
    simp at this; rw[<- this]; exact c⟩
theorem VQ {α:Type} {lt:α->α->Prop} (tr:∀ a b c,lt a b->lt b c->lt a c) {t:α} {A B:List α} (hs:(A++B).Pairwise lt) (hB:∀ b∈B,lt t b) (hA:∀ x A'',A=A''++[x]->lt x t):(A++t::B).Pairwise lt:=by
 obtain⟨U,a2,a3⟩:=List.pairwise_append.1 hs;refine List.pairwise_append.2 ⟨U,List.pairwise_cons.2 ⟨hB,a2⟩, λx O y hy=>?_⟩;rcases List.mem_cons.1 hy with rfl | hy
 ·have a6:A≠[]:=λe=>by subst e; cases O
  have e:=(List.dropLast_concat_getLast a6).symm;have hl:=hA _ _ e;rw[e] at O U;rcases List.mem_append.1 O with h | h
  ·exact tr _ _ _ ((List.pairwise_append.1 U).2.2 x h _ (by simp)) hl
  ·rw[List.mem_singleton.1 h]; exact hl
 ·exact a3 x O y hy
theorem tr_T (x y z:AT) (O:cfT x y<0) (U:cfT y z<0):cfT x z<0:=by
 rw[I8] at *;rcases O with O | ⟨O,h3⟩ <;> rcases U with U | ⟨U,h4⟩
 ·exact .inl (List.lt_trans O U)
 ·exact .inl (U ▸ O)
 ·exact .inl (O ▸ U)
 ·exact .inr ⟨O.trans U, by omega⟩
theorem ir_T (x:AT):¬ cfT x x<0:=by
 rw[I8]; rintro (h | ⟨_,h⟩)
 ·exact List.lt_irrefl _ h
 ·omega
theorem VR {α:Type} (A:List α) (x t:α) (B:List α):((A++x::t::B).set (A.length+1) x).set A.length t=A++t::x::B:=by
 rw[List.set_append_right _ _ (by omega),List.set_append_right _ _ (by omega)]
 simp
theorem z17r (l:List AT) (t:AT) (U:l.length<=1000) (hs:l.Pairwise λa b=>cfT a b<0) (ht:t∉l):∃ l',MW l t=some l'/\l'.length=l.length+1/\l'.Pairwise (λa b=>cfT a b<0)/\∀ x,x∈l'↔x=t\/x∈l:=by
 obtain⟨A,B,O,p2,p3,p4⟩:=Qy (F:=MV) (lt:=λa b=>!decide (0<=cfT a b)) 1000 (λA x t B h=>by
  unfold MV;simp only[];have e1:w64 (((A.length+1:Nat):Int) - 1)=(A.length:Int):=by rw[B6 (by omega) (by omega)]; omega
  have i1:idx (A++x::t::B) ((A.length+1:Nat):Int)=some t:=by rw[Ax (by simp)]; simp
  have i2:idx (A++x::t::B) (A.length:Int)=some x:=by rw[Ax (by simp)]; simp
  have i3:idx ((A++x::t::B).set (A.length+1) x) (A.length:Int)=some x:=by rw[Ax (by simp)]; simp
  rw[if_pos (by simp),e1,i1,i2];simp only[bS,Int.toNat_natCast];rw[VL,i3,VR]
  simp only[bS]) (λl=>by
  unfold MV
  rw[if_neg (by simp)]) t l.length l [] rfl (by simpa using U) (by simp)
 rw[List.append_nil] at O;refine⟨A++t::B,?_, by rw[O]; simp; omega,VQ tr_T (O ▸ hs) (λb hb=>?_) (λx A'' h=>?_), λx=>?_⟩
 ·unfold MW;rw[B1 (by simp; omega),List.nil_append];simp only[bS];rw[B1 (by simp only[List.length_singleton]; omega)];simp only[bS];rw[List.length_append,List.length_singleton,B6 (by omega) (by omega), show ((l.length+1:Nat):Int) - 1=(l.length:Int) by omega];rw[p2];rfl
 ·have:=p3 b hb; simpa using this
 ·have h1:=p4 x A'' h;have hx:x∈l:=by rw[O,h]; simp
  refine VJ _ _ (by simpa using h1) λe=>?_;subst e; exact ht hx
 ·rw[O];simp only[List.mem_append,List.mem_cons];exact⟨λh=>by rcases h with h | h | h <;> simp[h], λh=>by rcases h with h | h | h <;> simp[h]⟩
theorem HB (F:Fit g n) {i:Nat} (hi:i<g.Ops.length):idx g.IDs (i:Int)=some (B9 g i):=by
 rw[Ax (by rw[F.ids]; exact hi),Cv (by rw[F.ids]; exact hi)]
theorem z19l (G:C9 g) (F:Fit g n):∃ M,iter (Kk g) ([],0)=some M/\M.length=g.Ops.length/\∀ i (h:i<M.length),M[i].length<=60/\∀ x,x∈M[i]↔DF g x (B9 g i):=by
 have hl:=G.e.len;have key:=D9 (F:=Kk g) g.Ops.length (λi s=>∃ M:List (List ID),s=(M,(i:Int))/\M.length=i/\∀ i (h:i<M.length),M[i].length<=60/\∀ x,x∈M[i]↔DF g x (B9 g i)) (λM=>M.length=g.Ops.length/\∀ i (h:i<M.length),M[i].length<=60/\∀ x,x∈M[i]↔DF g x (B9 g i)) (λi s hi=>?_) (λs=>?_) ([],0) 0 (Nat.zero_le _) ⟨[],rfl,rfl, λi h=>by simp at h⟩
 ·obtain⟨b,b1,b2⟩:=key;exact⟨b,b1,b2⟩
 ·rintro⟨M,rfl,O,U⟩
  obtain⟨l,l1,l2,l3⟩:=z172 G F (Oc F hi);unfold Kk;simp only[];rw[if_pos (by simpa using hi),HB F hi];simp only[bS];rw[l1,AL (by omega)];simp only[bS];rw[B1 (by simp only[List.length_singleton]; omega)];refine⟨_,rfl,M++[l],rfl, by simp[O], λj hj=>?_⟩;by_cases c:j<M.length
  ·rw[List.getElem_append_left c]; exact U j c
  ·have:j=M.length:=by simp at hj; omega
   subst this;simp only[List.getElem_append_right (Nat.le_refl _),Nat.sub_self,List.getElem_cons_zero];rw[O]; exact⟨l2,l3⟩
 ·rintro⟨M,rfl,O,U⟩
  unfold Kk;simp only[];rw[if_neg (by simp)];exact⟨_,rfl,O,U⟩
theorem z1cv (G:C9 g) (F:Fit g n) {M:List (List ID)} (hM:M.length=g.Ops.length) (hA:∀ i (h:i<M.length),M[i].length<=60/\∀ x,x∈M[i]↔DF g x (B9 g i)) {i:Nat} (hi:i<g.Ops.length) (l:List AT) :
  ∃ b,iter (Kl g M (l,(i:Int)) (kO g i)) (false,0)=some b/\(b=true↔Over g (kO g i).Act.Key (B9 g i)):=by
 have hl:=G.e.len;have key:=D9 (F:=Kl g M (l,(i:Int)) (kO g i)) g.Ops.length (λk s=>∃ b,s=(b,(k:Int))/\(b=true↔G6 g (kO g i).Act.Key k (B9 g i))) (λb=>b=true↔G6 g (kO g i).Act.Key g.Ops.length (B9 g i)) (λk s O=>?_) (λs=>?_) (false,0) 0 (Nat.zero_le _) ⟨false,rfl, by simp[VF]⟩
 ·obtain⟨b,b1,b2⟩:=key;exact⟨b,b1,b2.trans (Qr F)⟩
 ·rintro⟨b,rfl,hb⟩
  unfold Kl;simp only[];rw[if_pos (by simpa using O),Ax O];simp only[bS];rw[AL (by omega)]
  cases b with
  | true =>
   rw[if_pos rfl];exact⟨_,rfl,true,rfl, by rw[IF O]; exact⟨λ_=>.inl (hb.1 rfl), λ_=>rfl⟩⟩
  | false =>
   rw[if_neg (by simp)];have U:¬ G6 g (kO g i).Act.Key k (B9 g i):=λh=>by cases hb.2 h
   by_cases c1:g.Ops[k].Act.Kind=3
   ·rw[if_pos (by simp[c1])];by_cases c2:g.Ops[k].Act.Key=(kO g i).Act.Key
    ·rw[if_pos (by simp[c2]),Ax (by omega:k<M.length),HB F hi];simp only[bS];rw[Qw _ _ (by have:=(hA k (by omega)).1; omega)];simp only[bS];refine⟨_,rfl,_,rfl,?_⟩;rw[IF O,decide_eq_true_iff,(hA k (by omega)).2];exact⟨λh=>.inr ⟨c2,c1,h⟩, λh=>h.elim (λh=>absurd h U) λh=>h.2.2⟩
    ·rw[if_neg (by simp[c2])];refine⟨_,rfl,false,rfl,?_⟩;rw[IF O];exact⟨λh=>(by cases h), λh=>h.elim (λh=>absurd h U) λh=>absurd h.1 c2⟩
   ·rw[if_neg (by simp[c1])];refine⟨_,rfl,false,rfl,?_⟩;rw[IF O];exact⟨λh=>(by cases h), λh=>h.elim (λh=>absurd h U) λh=>absurd h.2.1 c1⟩
 ·rintro⟨b,rfl,hb⟩
  unfold Kl;simp only[];rw[if_neg (by simp)];exact⟨_,rfl,hb⟩
open Classical in
noncomputable def ovN (g:Ao) (t:AT):Bool:=decide (Over g t.Key t.ID)
theorem z1bz (G:C9 g) (F:Fit g n) (h9:Ee g=some 0) {T:List AT} (K:IG g T):MY g=some (⟨T⟩,0):=by
 have hl:=G.e.len;obtain⟨M,m1,m2,m3⟩:=z19l G F;have key:=D9 (F:=MX g M) g.Ops.length (λi s=>∃ l:List AT,s=(l,(i:Int))/\l.length<=i/\l.Pairwise (λa b=>cfT a b<0)/\∀ t,t∈l↔t∈CK g (ovN g) i) (λl=>l.Pairwise (λa b=>cfT a b<0)/\∀ t,t∈l↔t∈CK g (ovN g) g.Ops.length) (λi s hi=>?_) (λs=>?_) ([],0) 0 (Nat.zero_le _) ⟨[],rfl,Nat.le_refl _,List.Pairwise.nil, λt=>by simp[CK]⟩
 ·obtain⟨T',t1,t2,t3⟩:=key;have e:T'=T:=Qx ir_T tr_T T' T t2 K.ord λt=>by
   rw[t3,Og,K.mem]
   constructor
   ·rintro⟨j,h1,h2,rfl,h4⟩
    exact⟨_,Oc F h1,h2,rfl, by unfold ovN at h4; simpa using h4⟩
   ·rintro⟨o,h1,h2,h3,h4⟩
    obtain⟨i,hi,rfl,e⟩:=Vz F h1;exact⟨i,hi,h2, by cases t; simp only at h3 e ⊢; rw[h3,e], by unfold ovN; simpa using h4⟩
  unfold MY;rw[h9];simp only[bS];rw[if_neg (by simp),m1];simp only[bS];rw[t1,e];rfl
 ·rintro⟨l,rfl,e0,U,O⟩
  unfold MX;simp only[];rw[if_pos (by simpa using hi),Ax hi];simp only[bS];rw[AL (by omega),GS hi];have mem:∀ t,t∈CK g (ovN g) (i+1)↔t∈CK g (ovN g) i\/((kO g i).Act.Kind=2/\ovN g ⟨(kO g i).Act.Key,B9 g i⟩=false)/\t=⟨(kO g i).Act.Key,B9 g i⟩:=λt=>by
   conv=>lhs; unfold CK
   rw[List.mem_append]
   split
   ·rename_i hc; simp[hc]
   ·rename_i hc; simp[hc]
  by_cases c:(kO g i).Act.Kind=2
  ·rw[if_neg (by simp[c])];obtain⟨b,b1,b2⟩:=z1cv G F m2 m3 hi l;rw[b1];simp only[bS]
   cases b with
   | true =>
    rw[if_neg (by simp)];have ho:=b2.1 rfl;refine⟨_,rfl,l,rfl, by omega,U, λt=>?_⟩;rw[mem,O];refine⟨.inl, λh=>h.elim id λh=>?_⟩
    have:=h.1.2
    unfold ovN at this;exact absurd ho (by simpa using this)
   | false =>
    rw[if_pos (by simp),HB F hi];simp only[bS];have a1:¬ Over g (kO g i).Act.Key (B9 g i):=λh=>by cases b2.2 h
    have a2:(⟨(kO g i).Act.Key,B9 g i⟩:AT)∉l:=λh=>by
     have nd:=Qs F (ovN g) (i+1) (by omega);unfold CK at nd;rw[if_pos ⟨c, by unfold ovN; simpa using a1⟩] at nd
     exact(List.nodup_append.1 nd).2.2 _ ((O _).1 h) _ (by simp) rfl
    obtain⟨l',p1,p2,p3,p4⟩:=z17r l _ (by omega) U a2;rw[p1];simp only[bS];refine⟨_,rfl,l',rfl, by omega,p3, λt=>?_⟩;rw[mem,p4,O]
    constructor
    ·rintro (h | h)
     ·exact .inr ⟨⟨c, by unfold ovN; simpa using a1⟩,h⟩
     ·exact .inl h
    ·rintro (h | h)
     ·exact .inr h
     ·exact .inl h.2
  ·rw[if_pos (by simp[c])];refine⟨_,rfl,l,rfl, by omega,U, λt=>?_⟩;rw[mem,O];exact⟨.inl, λh=>h.elim id λh=>absurd h.1.1 c⟩
 ·rintro⟨l,rfl,e0,U,O⟩
  unfold MX;simp only[];rw[if_neg (by simp)];exact⟨_,rfl,U,O⟩
end
section
variable {g:Ao} {n m:Nat} {T:List AT}
theorem Qz (G:C9 g) (F:Fit g n) {x:ID} {o:Ab} (h:Cz g x=some o):DW o.Act=true/\¬ 1000000000000<o.Stamp:=by
 have U:=((z178 G F).ops x o h).1;have O:=(DE (G3 U)).2.2;unfold EN at O;simp only[Bool.and_eq_true,Bool.not_eq_true',decide_eq_false_iff_not] at O;exact⟨O.2.2.1,O.2.1⟩
theorem VS (G:C9 g) (F:Fit g n) {x:ID} {o:Ab} (h:Cz g x=some o) (O:o.Act.Kind=2\/o.Act.Kind=4):CG o.Act.Key=true:=by
 have U:=(Qz G F h).1;unfold DW at U;rcases O with O | O
 ·rw[if_neg (by rw[O]; decide),if_pos (.inl O),Bool.and_eq_true] at U
  exact U.1
 ·rw[if_neg (by rw[O]; decide),if_neg (by rw[O]; decide),if_pos O,Bool.and_eq_true] at U
  exact U.1
theorem z1d4 (G:C9 g) (F:Fit g n) {x:ID} {o:Ab} (h:Cz g x=some o) (O:o.Act.Kind=4):okV o.Act.Value=true:=by
 have U:=(Qz G F h).1;unfold DW at U;rw[if_neg (by rw[O]; decide),if_neg (by rw[O]; decide),if_pos O,Bool.and_eq_true] at U
 exact U.2
theorem VT {k:Str} (h:CG k=true):Gu (⟨2,k,(⟨0,0,0,[]⟩:Ay)⟩:AX)=some 0:=by
 rw[Q2 _ (by simp)]
 have:DW (⟨2,k,(⟨0,0,0,[]⟩:Ay)⟩:AX)=true:=by
  unfold DW;rw[if_neg (by simp),if_pos (.inl rfl),h];rfl
 rw[this]; rfl
theorem VU {β:Type} {F:Int->Option (Sum β Int)} {b:β} (N:Nat) (h:∀ i:Nat,i<N->F (i:Int)=some (.inr ((i+1:Nat):Int))) (U:F (N:Int)=some (.inl b)):∀ i:Nat,i<=N->iter F (i:Int)=some b:=by
 intro i hi;obtain⟨b',h1,h2⟩:=D9 (F:=F) N (λi s=>s=(i:Int)) (λb'=>b'=b) (λi s hi O=>⟨_, by rw[O,h i hi],rfl⟩) (λs O=>⟨b, by rw[O,U],rfl⟩) (i:Int) i hi rfl;rw[h1,h2]
theorem z15a (G:C9 g) (F:Fit g n) (K:IG g T) {t:AT} (O:t∈T):CG t.Key=true:=by
 obtain⟨o,U,h2,h3,-⟩:=(K.mem t).1 O;rw[<- h3]; exact VS G F U (.inl h2)
theorem z10h (G:C9 g) (F:Fit g n) (K:IG g T):Hq ⟨T⟩=some 0:=by
 have hl:=G.e.len;have a1:=K.len;unfold Hq;rw[if_neg (by simp; omega)]
 have:=VU (F:=FW ⟨T⟩) (b:=.inr ()) T.length (λi hi=>?_) ?_ 0 (Nat.zero_le _)
 ·rw[show (0:Int)=((0:Nat):Int) from rfl,this]; rfl
 ·unfold FW;simp only[];rw[if_pos (by simpa using hi),Ax hi];simp only[bS];rw[VT (z15a G F K (List.getElem_mem hi))];simp only[bS];rw[if_neg (by simp),AL (by omega)];by_cases O:0<i
  ·rw[if_pos (by simpa using O)];have U:w64 ((i:Int) - 1)=((i - 1:Nat):Int):=by rw[B6 (by omega) (by omega)]; omega
   rw[U,Ax (by omega:i - 1<T.length)];simp only[bS];rw[VI];simp only[bS]
   have:=List.pairwise_iff_getElem.1 K.ord (i - 1) i (by omega) hi (by omega)
   rw[show decide (0<=cfT T[i - 1] T[i])=false from decide_eq_false (by omega)];rfl
  ·rw[if_neg (by simpa using O)];rfl
 ·unfold FW;simp only[];rw[if_neg (by simp)]
end
section
variable {g:Ao} {n m:Nat} {R:List AP}
abbrev EU (R:List AP):List Str:=R.map AP.Key
theorem VV (r:AP) (k:Str):Hp r k=some (Eh r.Key k):=by
 unfold Hp PH;simp only[bS];rw[VG];rfl
theorem QA {l:List Str} (h:sinc l) {i j:Nat} (hi:i<l.length) (U:j<l.length) (O:i<j):l[i]<l[j]:=List.pairwise_iff_getElem.1 h i j hi U O
theorem z15k (R:List AP) (hl:R.length<=1000000) (hi:sinc (EU R)) (k:Str):∃ b:Int,iter (Ia R k) (0,(R.length:Int))=some b/\∃ p:Nat,b=(p:Int)/\p<=R.length/\(∀ i (h:i<R.length),i<p->R[i].Key<k)/\(∀ i (h:i<R.length),p<=i->¬ R[i].Key<k):=by
 have lt:∀ {i j:Nat} (h1:i<R.length) (U:j<R.length),i<j->R[i].Key<R[j].Key:=λ{i j} h1 U h=>by
  have:=QA hi (i:=i) (j:=j) (by simpa using h1) (by simpa using U) h
  simpa using this
 refine FS (F:=Ia R k)
  (λst=>∃ s e:Nat,st=((s:Int),(e:Int))/\s<=e/\e<=R.length/\(∀ i (h:i<R.length),i<s->R[i].Key<k)/\(∀ i (h:i<R.length),e<=i->¬ R[i].Key<k))
  (λst=>st.2.toNat - st.1.toNat) _ ?_ _ ⟨0,R.length,rfl, by omega, by omega, λi _ h=>by omega, λi h U=>by omega⟩
 rintro st ⟨s,e,rfl,h1,U,h3,h4⟩
 by_cases a1:s<e
 ·right
  have hm:(s+e) / 2<R.length:=by omega
  have hF:Ia R k ((s:Int),(e:Int))=if decide (Eh R[(s+e) / 2].Key k<0) then some (.inr ((((s+e) / 2+1:Nat):Int),(e:Int))) else some (.inr ((s:Int),(((s+e) / 2:Nat):Int))):=by
   unfold Ia;simp only[];rw[if_pos (by simpa using a1),V4 _ _ (by omega)];simp only[bS];rw[Ax hm];simp only[bS];rw[VV];simp only[bS];rw[AL (show (s+e) / 2<9223372036854775807 by omega)]
  by_cases O:R[(s+e) / 2].Key<k
  ·rw[decide_eq_true ((PF _ _).2 O),if_pos rfl] at hF;refine⟨_,hF,⟨(s+e) / 2+1,e,rfl, by omega,U, λi h a2=>?_,h4⟩, by simp; omega⟩;by_cases he:i=(s+e) / 2
   ·subst he; exact O
   ·exact Qk (lt h hm (by omega)) O
  ·rw[decide_eq_false (λh=>O ((PF _ _).1 h)),if_neg (by simp)] at hF;refine⟨_,hF,⟨s,(s+e) / 2,rfl, by omega, by omega,h3, λi h a2=>?_⟩, by simp; omega⟩;by_cases he:i=(s+e) / 2
   ·subst he; exact O
   ·exact λhk=>O (Qk (lt hm h (by omega)) hk)
 ·left
  refine⟨(s:Int),?_,s,rfl, by omega,h3, λi h a2=>h4 i h (by omega)⟩;unfold Ia;simp only[];rw[if_neg (by simpa using a1)]
structure VW (R:List AP) (k:Str) (p:Nat):Prop where
 le:p<=R.length
 lo:∀ i (h:i<R.length),i<p->R[i].Key<k
 hi:∀ i (h:i<R.length),p<=i->¬ R[i].Key<k
theorem z16j (R:List AP) (hl:R.length<=1000000) (hi:sinc (EU R)) (k:Str):∃ (p:Nat) (b:Bool),PI R k=some ((p:Int),b)/\VW R k p/\(b=true↔∃ h:p<R.length,R[p].Key=k):=by
 obtain⟨_,h1,p,rfl,U,h3,h4⟩:=z15k R hl hi k;unfold PI U7;simp only[bS];rw[h1];simp only[bS];by_cases O:p<R.length
 ·rw[if_pos (by simpa using O),Ax O];simp only[bS];rw[VV];simp only[bS];refine⟨p,_,rfl,⟨U,h3,h4⟩,?_⟩;rw[beq_iff_eq,TP];exact⟨λh=>⟨O,h⟩, λ⟨_,h⟩=>h⟩
 ·rw[if_neg (by simpa using O)];exact⟨p,_,rfl,⟨U,h3,h4⟩, by simp; exact λh=>absurd h O⟩
theorem z1dg (R:List AP) (k:Str):PJ R k=PI R k:=rfl
theorem QB (hi:sinc (EU R)) {k:Str} {p:Nat} (P:VW R k p) {i:Nat} (h:i<R.length) (e:R[i].Key=k):i=p:=by
 have h1:¬ i<p:=λc=>z195 k (by have:=P.lo i h c; rwa [e] at this)
 by_cases c:i=p
 ·exact c
 ·have O:p<R.length:=by omega
  have:=QA hi (i:=p) (j:=i) (by simpa using O) (by simpa using h) (by omega)
  simp only[List.getElem_map] at this;rw[e] at this;exact absurd this (P.hi p O (Nat.le_refl _))
def F3 (g:Ao) (i:Nat):AP:=⟨(kO g i).Act.Key,(kO g i).Act.Value,(kO g i).Stamp,B9 g i⟩
structure Fh (g:Ao) (i:Nat) (R:List AP):Prop where
 len:R.length<=i
 ord:sinc (EU R)
 mem:∀ r,r∈R↔∃ b,CU g r.Key i=some b/\r=F3 g b
theorem z192 (a b:UInt64):ML a b=some (if a<b then -1 else if b<a then 1 else 0):=by
 unfold ML MK;simp only[bS,bne_self_eq_false,Bool.false_eq_true,if_false];by_cases h:a<b
 ·simp[h]
 ·by_cases k:b<a <;> simp[h,k]
theorem z15z (a b:AP):MM a b=some (decide (b.Stamp<a.Stamp\/a.Stamp=b.Stamp/\kd b.ID<kd a.ID)):=by
 unfold MM;rw[z192];simp only[bS];rw[show Gt a.ID.toList b.ID.toList=some (Lib.compareBytes a.ID.toList b.ID.toList) from rfl];simp only[bS];rw[VH];simp only[bS];rw[FV]
 congr 1
 rw[decide_eq_decide];by_cases h:a.Stamp<b.Stamp
 ·have O:¬ b.Stamp<a.Stamp:=λk=>by rw[UInt64.lt_iff_toNat_lt] at *; omega
  have U:a.Stamp≠b.Stamp:=λk=>by rw[k] at h; rw[UInt64.lt_iff_toNat_lt] at h; omega
  simp[h,O,U]
 ·by_cases k:b.Stamp<a.Stamp
  ·simp[h,k]
  ·have e:a.Stamp=b.Stamp:=by
    apply UInt64.toNat_inj.1
    rw[UInt64.lt_iff_toNat_lt] at *; omega
   simp only[h,k,if_false,if_true,e,true_and,false_or];by_cases q:kd a.ID<kd b.ID
   ·have:¬ kd b.ID<kd a.ID:=by omega
    simp[q,this]
   ·by_cases q2:kd b.ID<kd a.ID <;> simp[q,q2]
theorem L6 (key:Str) (i:Nat):CU g key (i+1)=if (kO g i).Act.Kind=4/\(kO g i).Act.Key=key/\(∀ b,CU g key i=some b->(kO g b).Stamp<=(kO g i).Stamp) then some i else CU g key i:=rfl
theorem VX {key:Str} {i b:Nat} (h:CU g key i=some b):(kO g b).Act.Key=key:=by
 have:=L5 (g:=g) key i
 rw[h] at this;exact this.2.2.1
theorem z16c {l:List Str} (hs:sinc l) {k:Str} {p:Nat} (hp:p<=l.length) (lo:∀ i (h:i<l.length),i<p->l[i]<k) (hi:∀ i (h:i<l.length),p<=i->k<l[i]):sinc (l.take p++[k]++l.drop p):=by
 unfold sinc;rw[List.pairwise_append,List.pairwise_append];refine⟨⟨hs.sublist (List.take_sublist _ _),List.pairwise_singleton _ _, λa O b hb=>?_⟩,hs.sublist (List.drop_sublist _ _), λa O b hb=>?_⟩
 ·rw[List.mem_singleton] at hb;subst hb;obtain⟨i,U,rfl⟩:=List.getElem_of_mem O;rw[List.length_take] at U;rw[List.getElem_take];exact lo i (by omega) (by omega)
 ·obtain⟨j,hj,rfl⟩:=List.getElem_of_mem hb;rw[List.length_drop] at hj;rw[List.getElem_drop];have hk:=hi (p+j) (by omega) (by omega);rcases List.mem_append.1 O with O | O
  ·obtain⟨i,U,rfl⟩:=List.getElem_of_mem O;rw[List.length_take] at U;rw[List.getElem_take];exact Qk (lo i (by omega) (by omega)) hk
  ·rw[List.mem_singleton] at O;subst O;exact hk
theorem z14k (F:Fit g n) {i:Nat} (hi:i<g.Ops.length) (hl:g.Ops.length<=1000) (K:Fh g i R):∃ R',MN R g.Ops[i] (B9 g i)=some R'/\Fh g (i+1) R':=by
 have hRl:=K.len;rw[GS hi];unfold MN;by_cases hk:(kO g i).Act.Kind=4
 rotate_left
 ·rw[if_pos (by simpa using hk)];refine⟨R,rfl, by omega,K.ord, λr=>?_⟩;rw[K.mem,L6,if_neg (λh=>hk h.1)]
 ·rw[if_neg (by simp[hk]),z1dg];obtain⟨p,b,f1,P,f2⟩:=z16j R (by omega) K.ord (kO g i).Act.Key;have other:∀ {k:Str},k≠(kO g i).Act.Key->CU g k (i+1)=CU g k i:=λ{k} a1=>by rw[L6,if_neg (λh=>a1 h.2.1.symm)]
  rw[f1];simp only[bS]
  cases hb:b with
  | false =>
   subst hb;have aa:¬ ∃ h:p<R.length,R[p].Key=(kO g i).Act.Key:=λh=>by have:=f2.2 h; cases this
   have a6:CU g (kO g i).Act.Key i=none:=by
    cases hc:CU g (kO g i).Act.Key i with
    | none=>rfl
    | some c =>
     have hm:F3 g c∈R:=(K.mem _).2 ⟨c, by
      show CU g (kO g c).Act.Key i=some c
      rw[VX hc]; exact hc,rfl⟩
     obtain⟨j,O,e⟩:=List.getElem_of_mem hm;have ek:R[j].Key=(kO g i).Act.Key:=by rw[e]; exact VX hc
     have:=QB K.ord P O ek
     subst this;exact absurd ⟨O,ek⟩ aa
   have a2:CU g (kO g i).Act.Key (i+1)=some i:=by
    rw[L6,if_pos ⟨hk,rfl, λb hb=>by rw[a6] at hb; cases hb⟩]
   rw[if_pos (by simp)];unfold insR;rw[CJ ⟨by omega, by simpa using P.le, by omega,rfl⟩];simp only[bS,Int.toNat_natCast];refine⟨_,rfl,?_,?_, λr=>?_⟩
   ·have:=P.le
    simp only[List.length_append,List.length_take,List.length_drop,List.length_singleton]; omega
   ·have e:EU (R.take p++[(⟨(kO g i).Act.Key,(kO g i).Act.Value,(kO g i).Stamp,B9 g i⟩:AP)]++R.drop p)=(EU R).take p++[(kO g i).Act.Key]++(EU R).drop p:=by
     simp[EU,List.map_take,List.map_drop]
    rw[e];refine z16c K.ord (by simpa using P.le) (λj h O=>?_) (λj h O=>?_)
    ·have:=P.lo j (by simpa using h) O
     simpa using this
    ·have h':j<R.length:=by simpa using h
     have h1:=P.hi j h' O;have h2:R[j].Key≠(kO g i).Act.Key:=λq=>by
      have ab:=QB K.ord P h' q;exact aa ⟨by rw[<- ab]; exact h', by simp only[<- ab]; exact q⟩
     have h3:(EU R)[j]=R[j].Key:=by simp
     rw[h3];rcases z19e R[j].Key (kO g i).Act.Key with q | q | q
     ·exact absurd q h1
     ·exact absurd q h2
     ·exact q
   ·have hm:r∈R.take p++[F3 g i]++R.drop p↔r=F3 g i\/r∈R:=by
     rw[List.mem_append,List.mem_append,List.mem_singleton]
     constructor
     ·rintro ((h | h) | h)
      ·exact .inr (List.mem_of_mem_take h)
      ·exact .inl h
      ·exact .inr (List.mem_of_mem_drop h)
     ·rintro (h | h)
      ·exact .inl (.inr h)
      ·rw[<- List.take_append_drop p R,List.mem_append] at h;exact h.elim (λh=>.inl (.inl h)) .inr
    refine hm.trans ?_;rw[K.mem];by_cases U:r.Key=(kO g i).Act.Key
    ·rw[U,a2,a6]
     constructor
     ·rintro (h | ⟨b,h,-⟩)
      ·exact⟨i,rfl,h⟩
      ·cases h
     ·rintro⟨b,h,h2⟩
      cases h
      exact .inl h2
    ·rw[other U]
     constructor
     ·rintro (h | h)
      ·exact absurd (by rw[h]; rfl) U
      ·exact h
     ·exact .inr
  | true =>
   subst hb;obtain⟨hp,ek⟩:=f2.1 rfl;obtain⟨c,c1,c2⟩:=(K.mem R[p]).1 (List.getElem_mem hp);rw[ek] at c1;have ad:=Ql (g:=g) _ _ _ c1;rw[if_neg (by simp),Ax hp];simp only[bS];rw[z15z];simp only[bS];have ac:kd (B9 g c)<kd (B9 g i):=by
    have h1:=Qo F hi (show c<g.Ops.length by omega);have h2:=Qo F (show c<g.Ops.length by omega) hi;have h3:=h1.1 (by omega);by_cases e:kd (B9 g c)=kd (B9 g i)
    ·have:=h2.2 (by omega); omega
    ·omega
   have a8:decide (R[p].Stamp<(kO g i).Stamp\/(kO g i).Stamp=R[p].Stamp/\kd R[p].ID<kd (B9 g i))=decide ((kO g c).Stamp<=(kO g i).Stamp):=by
    rw[decide_eq_decide,c2];show (kO g c).Stamp<(kO g i).Stamp\/(kO g i).Stamp=(kO g c).Stamp/\kd (B9 g c)<kd (B9 g i)↔_;rw[Qm];exact⟨λh=>h.imp id And.left, λh=>h.imp id λh=>⟨h,ac⟩⟩
   rw[show decide ((R[p]).Stamp<(⟨(kO g i).Act.Key,(kO g i).Act.Value,(kO g i).Stamp,B9 g i⟩:AP).Stamp\/(⟨(kO g i).Act.Key,(kO g i).Act.Value,(kO g i).Stamp,B9 g i⟩:AP).Stamp=R[p].Stamp/\kd R[p].ID<kd (⟨(kO g i).Act.Key,(kO g i).Act.Value,(kO g i).Stamp,B9 g i⟩:AP).ID)=decide ((kO g c).Stamp<=(kO g i).Stamp) from a8];by_cases a7:(kO g c).Stamp<=(kO g i).Stamp
   ·have a2:CU g (kO g i).Act.Key (i+1)=some i:=by
     rw[L6,if_pos ⟨hk,rfl, λb hb=>by rw[c1] at hb; cases hb; exact a7⟩]
    rw[if_pos (by simpa using a7)];simp only[Int.toNat_natCast];refine⟨_,rfl, by rw[List.length_set]; omega,?_, λr=>?_⟩
    ·have e:EU (R.set p (F3 g i))=EU R:=by
      unfold EU;rw[List.map_set]
      have:(F3 g i).Key=(R.map AP.Key)[p]'(by simpa using hp):=by rw[List.getElem_map,ek]; rfl
      rw[this];exact List.set_getElem_self _
     have h:sinc (EU (R.set p (F3 g i))):=by rw[e]; exact K.ord
     exact h
    ·have hm:r∈R.set p (F3 g i)↔r=F3 g i\/(r∈R/\r.Key≠(kO g i).Act.Key):=by
      constructor
      ·intro h;obtain⟨j,O,e⟩:=List.getElem_of_mem h;rw[List.getElem_set] at e;rw[List.length_set] at O
       split at e
       ·exact .inl e.symm
       ·rename_i a1;refine .inr ⟨by rw[<- e]; exact List.getElem_mem O, λe2=>?_⟩;rw[<- e] at e2;exact a1 (QB K.ord P O e2).symm
      ·rintro (h | ⟨h,h2⟩)
       ·rw[h]; exact List.mem_iff_getElem.2 ⟨p, by simpa using hp, by simp⟩
       ·obtain⟨j,O,rfl⟩:=List.getElem_of_mem h;have a1:p≠j:=λe=>by subst e; exact h2 ek
        exact List.mem_iff_getElem.2 ⟨j, by simpa using O, by rw[List.getElem_set_ne a1]⟩
     refine hm.trans ?_;rw[K.mem];by_cases U:r.Key=(kO g i).Act.Key
     ·rw[U,a2]
      constructor
      ·rintro (h | ⟨-,h⟩)
       ·exact⟨i,rfl,h⟩
       ·exact absurd rfl h
      ·rintro⟨b,h,h2⟩
       cases h
       exact .inl h2
     ·rw[other U]
      constructor
      ·rintro (h | h)
       ·exact absurd (by rw[h]; rfl) U
       ·exact h.1
      ·exact λh=>.inr ⟨h,U⟩
   ·have a2:CU g (kO g i).Act.Key (i+1)=CU g (kO g i).Act.Key i:=by
     rw[L6,if_neg (λh=>a7 (h.2.2 c c1))]
    rw[if_neg (by simpa using a7)];refine⟨R,rfl, by omega,K.ord, λr=>?_⟩;rw[K.mem];by_cases U:r.Key=(kO g i).Act.Key
    ·rw[U,a2]
    ·rw[other U]
theorem z199 (G:C9 g) (F:Fit g n) (h:Dx g=some 0):∃ R,MO g=some (⟨R⟩,0)/\Fh g g.Ops.length R:=by
 have hl:=G.e.len;have key:∃ R,iter (Kd g) ([],0)=some R/\Fh g g.Ops.length R:=by
  refine D9 (F:=Kd g) g.Ops.length (λi s=>s.2=(i:Int)/\Fh g i s.1) _ (λi s hi=>?_) (λs=>?_) ([],0) 0 (Nat.zero_le _) ⟨rfl,Nat.le_refl _,List.Pairwise.nil, λr=>by simp[CU]⟩
  ·obtain⟨R,i'⟩:=s
   rintro⟨O,U⟩
   simp only at O U;subst O;have hid:i<g.IDs.length:=by rw[G.e.ids]; exact hi
   obtain⟨R',r1,r2⟩:=z14k F hi (by omega) U;rw[Cv hid] at r1;unfold Kd;rw[if_pos (by simpa using hi)];simp only[Ax hi,bS,AL (n:=i) (by omega)];rw[Ax hid];simp only[bS];rw[r1];exact⟨_,rfl,rfl,r2⟩
  ·rintro⟨O,U⟩
   unfold Kd;rw[if_neg (by rw[O]; simp)]
   exact⟨_,rfl,U⟩
 obtain⟨R,r1,r2⟩:=key;refine⟨R,?_,r2⟩;unfold MO;rw[h];simp only[bS];rw[if_neg (by simp),r1];rfl
end
section
variable {g:Ao} {n:Nat}
theorem z120 (l:List AP) (t:AP) (hl:l.length<=1000) (hs:l.Pairwise λa b=>a.Key<b.Key) (ht:∀ r∈l,r.Key≠t.Key):∃ l',N1 l t=some l'/\l'.length=l.length+1/\l'.Pairwise (λa b=>a.Key<b.Key)/\∀ x,x∈l'↔x=t\/x∈l:=by
 obtain⟨A,B,O,p2,p3,p4⟩:=Qy (F:=N0) (lt:=λa b=>Dp a.Key b.Key) 1000 (λA x t B h=>by
  unfold N0;simp only[];have e1:w64 (((A.length+1:Nat):Int) - 1)=(A.length:Int):=by rw[B6 (by omega) (by omega)]; omega
  have i1:idx (A++x::t::B) ((A.length+1:Nat):Int)=some t:=by rw[Ax (by simp)]; simp
  have i2:idx (A++x::t::B) (A.length:Int)=some x:=by rw[Ax (by simp)]; simp
  have i3:idx ((A++x::t::B).set (A.length+1) x) (A.length:Int)=some x:=by rw[Ax (by simp)]; simp
  rw[if_pos (by simp),e1,i1,i2];simp only[bS,Int.toNat_natCast];rw[i3,VR]
  simp only[bS]) (λl=>by
  unfold N0
  rw[if_neg (by simp)]) t l.length l [] rfl (by simpa using hl) (by simp)
 rw[List.append_nil] at O;refine⟨A++t::B,?_, by rw[O]; simp; omega,VQ (lt:=λa b:AP=>a.Key<b.Key) (λ_ _ _=>List.lt_trans) (O ▸ hs) (λb hb=>?_) (λx A'' h=>?_), λx=>?_⟩
 ·unfold N1;rw[B1 (by simp; omega),List.nil_append];simp only[bS];rw[B1 (by simp only[List.length_singleton]; omega)];simp only[bS];rw[List.length_append,List.length_singleton,B6 (by omega) (by omega), show ((l.length+1:Nat):Int) - 1=(l.length:Int) by omega];rw[p2];rfl
 ·have:=p3 b hb; rw[Ob] at this; simpa using this
 ·have U:=p4 x A'' h;have hx:x∈l:=by rw[O,h]; simp
  rw[Ob,decide_eq_false_iff_not] at U;rcases Mz x.Key t.Key with k | k | k
  ·exact k
  ·exact absurd k (ht x hx)
  ·exact absurd k U
 ·rw[O];simp only[List.mem_append,List.mem_cons];exact⟨λh=>by rcases h with h | h | h <;> simp[h], λh=>by rcases h with h | h | h <;> simp[h]⟩
theorem z10x (st:UInt64) (id:ID) (r:AP):MZ st id r=some (decide (r.Stamp<st\/st=r.Stamp/\kd r.ID<kd id)):=by
 unfold MZ;by_cases c:r.Stamp<st
 ·simp[c]
 ·rw[if_neg (by simpa using c)];by_cases d:st=r.Stamp
  ·rw[if_pos (by simp[d]),TK];simp only[bS]
   congr 1
   rw[decide_eq_decide];simp only[d,true_and]
   split
   ·simp; omega
   ·split <;> simp <;> omega
  ·rw[if_neg (by simpa using d)];simp[c,d]
def QC (g:Ao) (i k:Nat):Prop:=(kO g k).Act.Kind=4/\(kO g k).Act.Key=(kO g i).Act.Key/\((kO g i).Stamp<(kO g k).Stamp\/(kO g k).Stamp=(kO g i).Stamp/\kd (B9 g i)<kd (B9 g k))
def G7 (g:Ao) (i m:Nat):Prop:=∀ k,k<m->¬ QC g i k
theorem VY (F:Fit g n) {i j:Nat} (hi:i<g.Ops.length) (O:j<g.Ops.length):kd (B9 g i)<kd (B9 g j)↔i<j:=by
 have:=Qo F hi O
 omega
theorem Ol (F:Fit g n) {i:Nat} (hi:i<g.Ops.length) (h4:(kO g i).Act.Kind=4):G7 g i g.Ops.length↔CU g (kO g i).Act.Key g.Ops.length=some i:=by
 have O:=L5 (g:=g) (kO g i).Act.Key g.Ops.length
 cases e:CU g (kO g i).Act.Key g.Ops.length with
 | none=>rw[e] at O; exact absurd ⟨h4,rfl⟩ (O i hi)
 | some b =>
  rw[e] at O;obtain⟨b1,b2,b3,b4⟩:=O
  constructor
  ·intro h;have O:=h b b1;rcases b4 i hi h4 rfl with c | ⟨c,d⟩
   ·exact absurd ⟨b2,b3,.inl c⟩ O
   ·by_cases e:i=b
    ·rw[e]
    ·exact absurd ⟨b2,b3,.inr ⟨c.symm,(VY F hi b1).2 (by omega)⟩⟩ O
  ·intro h k hk ⟨k1,k2,U⟩;obtain rfl:b=i:=by simpa using h
   rcases b4 k hk k1 k2 with c | ⟨c,d⟩ <;> rcases U with U | ⟨U,k5⟩
   ·rw[UInt64.lt_iff_toNat_lt] at *; omega
   ·rw[U,UInt64.lt_iff_toNat_lt] at c; omega
   ·rw[c,UInt64.lt_iff_toNat_lt] at U; omega
   ·rw[VY F hi hk] at k5; omega
theorem z16m (F:Fit g n) (hl:g.Ops.length<=1000) {i:Nat} (hi:i<g.Ops.length):∃ b,iter (Km g (kO g i) (B9 g i)) (true,0)=some b/\(b=true↔G7 g i g.Ops.length):=by
 refine D9 (F:=Km g (kO g i) (B9 g i)) g.Ops.length (λk s=>∃ b,s=(b,(k:Int))/\(b=true↔G7 g i k)) _ (λk s O=>?_) (λs=>?_) (true,0) 0 (Nat.zero_le _) ⟨true,rfl, by simp[G7]⟩
 ·rintro⟨b,rfl,U⟩
  have succ:G7 g i (k+1)↔G7 g i k/\¬ QC g i k:=⟨λh=>⟨λj hj=>h j (by omega),h k (by omega)⟩, λh j hj=>by
   by_cases e:j=k
   ·subst e; exact h.2
   ·exact h.1 j (by omega)⟩
  have key:∀ c:Bool,(c=true↔QC g i k)->∃ s',(if c then some (w64 ((k:Int)+1))>>=λa1=>some (.inr (false,a1)) else some (w64 ((k:Int)+1))>>=λa2=>some (.inr (b,a2)):Option (Sum Bool (Bool × Int)))=some (.inr s')/\∃ b,s'=(b,((k+1:Nat):Int))/\(b=true↔G7 g i (k+1)):=λc hc=>by
   rw[AL (by omega),succ]
   cases c with
   | true=>exact⟨_,rfl,false,rfl,⟨λh=>(by cases h), λh=>absurd (hc.1 rfl) h.2⟩⟩
   | false=>exact⟨_,rfl,b,rfl,⟨λh=>⟨U.1 h, λh=>by cases hc.2 h⟩, λh=>U.2 h.1⟩⟩
  unfold Km;simp only[];rw[if_pos (by simpa using O),Ax O,HB F O];simp only[bS];rw[GS O];by_cases c1:(kO g k).Act.Kind=4
  ·rw[if_pos (by simp[c1])];by_cases c2:(kO g k).Act.Key=(kO g i).Act.Key
   ·rw[if_pos (by simp[c2]),z10x];simp only[bS];exact key _ (by rw[decide_eq_true_iff]; exact⟨λh=>⟨c1,c2,h⟩, λh=>h.2.2⟩)
   ·rw[if_neg (by simp[c2])];exact key false ⟨λh=>(by cases h), λh=>absurd h.2.1 c2⟩
  ·rw[if_neg (by simp[c1])];exact key false ⟨λh=>(by cases h), λh=>absurd h.1 c1⟩
 ·rintro⟨b,rfl,U⟩
  unfold Km;simp only[];rw[if_neg (by simp)];exact⟨_,rfl,U⟩
theorem z1ci (G:C9 g) (F:Fit g n) (h9:Ee g=some 0) {R:List AP} (K:Fh g g.Ops.length R):N3 g=some (⟨R⟩,0):=by
 have hl:=G.e.len;have key:=D9 (F:=N2 g) g.Ops.length (λi s=>∃ l:List AP,s=(l,(i:Int))/\l.length<=i/\l.Pairwise (λa b=>a.Key<b.Key)/\∀ r,r∈l↔∃ j,j<i/\(kO g j).Act.Kind=4/\G7 g j g.Ops.length/\r=F3 g j) (λl=>l.Pairwise (λa b=>a.Key<b.Key)/\∀ r,r∈l↔∃ j,j<g.Ops.length/\(kO g j).Act.Kind=4/\G7 g j g.Ops.length/\r=F3 g j) (λi s hi=>?_) (λs=>?_) ([],0) 0 (Nat.zero_le _) ⟨[],rfl,Nat.le_refl _,List.Pairwise.nil, λt=>by simp⟩
 ·obtain⟨R',t1,t2,t3⟩:=key;have e:R'=R:=Qx (lt:=λa b:AP=>a.Key<b.Key) (λ_=>List.lt_irrefl _) (λ_ _ _=>List.lt_trans) R' R t2 (List.pairwise_map.1 K.ord) λr=>by
   rw[t3,K.mem]
   constructor
   ·rintro⟨j,U,O,h3,rfl⟩
    exact⟨j,(Ol F U O).1 h3,rfl⟩
   ·rintro⟨b,U,O⟩
    have hb:=L5 (g:=g) r.Key g.Ops.length;rw[U] at hb;refine⟨b,hb.1,hb.2.1,(Ol F hb.1 hb.2.1).2 ?_,O⟩;rw[hb.2.2.1]; exact U
  unfold N3;rw[h9];simp only[bS];rw[if_neg (by simp),t1,e];rfl
 ·rintro⟨l,rfl,e0,e1,e2⟩
  unfold N2;simp only[];rw[if_pos (by simpa using hi),Ax hi];simp only[bS];rw[AL (by omega),GS hi];by_cases c:(kO g i).Act.Kind=4
  ·rw[if_neg (by simp[c]),HB F hi];simp only[bS];obtain⟨b,b1,b2⟩:=z16m F (by omega) hi;rw[b1];simp only[bS]
   cases b with
   | true =>
    have hL:=b2.1 rfl;rw[if_pos rfl]
    obtain⟨l',p1,p2,p3,p4⟩:=z120 l (F3 g i) (by omega) e1 (λr hr hk=>by
     obtain⟨j,j1,j2,j3,rfl⟩:=(e2 r).1 hr;have hk:(kO g j).Act.Key=(kO g i).Act.Key:=hk;have U:=(Ol F (by omega) j2).1 j3;have O:=(Ol F hi c).1 hL;rw[hk,O] at U
     have:i=j:=by simpa using U
     omega)
    refine⟨_,(congrArg (· >>= _) p1).trans rfl,l',rfl, by omega,p3, λr=>?_⟩;rw[p4,e2]
    constructor
    ·rintro (rfl | ⟨j,U,O⟩)
     ·exact⟨i, by omega,c,hL,rfl⟩
     ·exact⟨j, by omega,O⟩
    ·rintro⟨j,U,O,h3,rfl⟩
     by_cases e:j=i
     ·subst e; exact .inl rfl
     ·exact .inr ⟨j, by omega,O,h3,rfl⟩
   | false =>
    rw[if_neg (by simp)];refine⟨_,rfl,l,rfl, by omega,e1, λr=>?_⟩;rw[e2]
    constructor
    ·rintro⟨j,U,O⟩; exact⟨j, by omega,O⟩
    ·rintro⟨j,U,O,h3,h4⟩
     have:j≠i:=λe=>by subst e; cases b2.2 h3
     exact⟨j, by omega,O,h3,h4⟩
  ·rw[if_pos (by simp[c])];refine⟨_,rfl,l,rfl, by omega,e1, λr=>?_⟩;rw[e2]
   constructor
   ·rintro⟨j,U,O⟩; exact⟨j, by omega,O⟩
   ·rintro⟨j,U,O,h3⟩
    have:j≠i:=λe=>by subst e; exact c O
    exact⟨j, by omega,O,h3⟩
 ·rintro⟨l,rfl,e0,e1,e2⟩
  unfold N2;simp only[];rw[if_neg (by simp)];exact⟨_,rfl,e1,e2⟩
theorem z16e (G:C9 g) {i k:Nat} (hi:i<g.Ops.length):B9 g i∈DM g k↔i∈B3 g k:=by
 constructor
 ·intro h
  have:=(G5 G.ins h).2
  rwa [KY G.e hi] at this
 ·intro h;obtain⟨y,O,e⟩:=List.mem_map.1 h
  have:=IB (G5 G.ins O).1
  rw[e] at this;rw[this]; exact O
theorem z16u (G:C9 g) (F:Fit g n) {i:Nat} (hi:i<g.Ops.length) (l:List ID):iter (Kn g (l,(i:Int))) (true,0)=some (top g g.Ops.length i):=by
 have hl:=G.e.len;refine Ck (F:=Kn g (l,(i:Int))) g.Ops.length (λk=>(top g k i,(k:Int))) (λk O=>?_) ?_
 ·unfold Kn;simp only[];rw[if_pos (by simpa using O),Ax O,HB F hi,AL (by omega),Vt];simp only[bS]
  cases top g k i with
  | true =>
   rw[if_pos rfl,Qw _ _ (by have:=(F.op _ (List.getElem_mem O)).1; omega)];simp only[bS,Bool.true_and]
   have:decide (B9 g i∈g.Ops[k].Preds)=decide (i∈B3 g k):=by rw[decide_eq_decide,<- z16e G hi,Ek O]
   rw[this]
  | false=>rw[if_neg (by simp)]; rfl
 ·unfold Kn;rw[if_neg (by simp)]
theorem z19m (G:C9 g) (F:Fit g n):N5 g=some (CT g (top g g.Ops.length)):=by
 have hl:=G.e.len
 have out:=Ck (F:=N4 g) g.Ops.length (λi=>(((List.range i).filter (top g g.Ops.length)).map (B9 g),(i:Int))) (λi hi=>by
  have le:(((List.range i).filter (top g g.Ops.length)).map (B9 g)).length<=i:=by
   rw[List.length_map]; exact Nat.le_trans (List.length_filter_le _ _) (by simp)
  unfold N4;simp only[];rw[if_pos (by rw[F.ids]; simpa using hi),z16u G F hi,List.range_succ,List.filter_append,List.map_append,HB F hi,AL (by omega)]
  simp only[bS]
  cases h:top g g.Ops.length i with
  | true =>
   rw[if_pos rfl,B1 (by simp only[List.length_singleton]; omega)];simp[h]
  | false=>simp[h]) (by
  unfold N4
  rw[if_neg (by simp[F.ids])])
 unfold N5;exact(congrArg (· >>= _) out).trans rfl
theorem z130 (G:C9 g) (F:Fit g n) (h:Dx g=some 0) (O:Ee g=some 0):∃ T R,MQ g=some ((⟨(g.Ops.length:Int),⟨T⟩,⟨R⟩,CT g (top g g.Ops.length)⟩:Bt),0)/\N6 g=some ((⟨(g.Ops.length:Int),⟨T⟩,⟨R⟩,CT g (top g g.Ops.length)⟩:Bt),0)/\IG g T/\Fh g g.Ops.length R:=by
 obtain⟨T,t1,U⟩:=z1a4 G F h;obtain⟨R,r1,r2⟩:=z199 G F h;refine⟨T,R,?_,?_,U,r2⟩
 ·unfold MQ;rw[t1];simp only[bS];rw[if_neg (by simp),r1];simp only[bS];rw[z17f G h];rfl
 ·unfold N6;rw[O];simp only[bS];rw[if_neg (by simp),z1bz G F O U];simp only[bS];rw[z1ci G F O r2];simp only[bS];rw[z19m G F];rfl
end
section
def bt (v:V3) (i:Nat):Bool:=(kd v).testBit (255 - i)
theorem VZ:∀ (l:List UInt8) (j:Nat) (h:j<l.length),nk l / 256 ^ (l.length - 1 - j) % 256=l[j].toNat
 | [],j,h=>by simp at h
 | a::l,0,h=>by
  have O:=JX l;have U:=UInt8.toNat_lt a;simp only[nk,List.length_cons,Nat.add_sub_cancel,Nat.sub_zero,List.getElem_cons_zero];rw[Nat.mul_comm,Nat.mul_add_div (Nat.pow_pos (by omega)),Nat.div_eq_of_lt O,Nat.add_zero,Nat.mod_eq_of_lt U]
 | a::l,j+1,h=>by
  have hj:j<l.length:=by simpa using h
  have ih:=VZ l j hj;simp only[nk,List.length_cons,Nat.add_sub_cancel,List.getElem_cons_succ];rw[<- ih, show l.length - (j+1)=l.length - 1 - j by omega];have e:a.toNat * 256 ^ l.length=256 ^ (l.length - 1 - j) * (a.toNat * 256 ^ j * 256):=by
   rw[Nat.mul_assoc,<- Nat.pow_succ,Nat.mul_left_comm,<- Nat.pow_add]
   congr 2; omega
  rw[e,Nat.mul_add_div (Nat.pow_pos (by omega)),Nat.add_mod,Nat.mul_mod_left,Nat.zero_add,Nat.mod_mod]
theorem IH (v:V3) {j k:Nat} (O:j<32) (hk:k<8):v[j].toNat.testBit (7 - k)=bt v (8 * j+k):=by
 have h:=VZ v.toList j (by simpa using O);have e:v.toList[j]'(by simpa using O)=v[j]:=by simp
 rw[e] at h;unfold bt kd;rw[<- h];simp only[Vector.length_toList];rw[show (256:Nat)=2 ^ 8 by rfl,<- Nat.pow_mul,Nat.testBit_mod_two_pow,Nat.testBit_div_two_pow,decide_eq_true (by omega),Bool.true_and]
 congr 1
 omega
theorem z19w:∀ x:Fin 256,∀ k:Fin 8,((shl8 (UInt8.ofNat x) k &&& 128) != 0)=Nat.testBit x (7 - k)/\((UInt8.ofNat x &&& shr8 128 k) != 0)=Nat.testBit x (7 - k):=by decide +kernel
theorem W4 (x:UInt8) {k:Nat} (h:k<8):((shl8 x k &&& 128) != 0)=x.toNat.testBit (7 - k)/\((x &&& shr8 128 k) != 0)=x.toNat.testBit (7 - k):=by
 have:=z19w ⟨x.toNat,UInt8.toNat_lt x⟩ ⟨k,h⟩
 simpa using this
theorem z176 {a b p:Nat} (h:∀ q,p<=q->a.testBit q=b.testBit q):a / 2 ^ p=b / 2 ^ p:=Nat.eq_of_testBit_eq λi=>by
 rw[Nat.testBit_div_two_pow,Nat.testBit_div_two_pow]; exact h _ (by omega)
theorem W5 (v:V3) {q:Nat} (h:256<=q):(kd v).testBit q=false:=Nat.testBit_lt_two_pow (by
 have:=JX v.toList
 rw[Vector.length_toList, show (256:Nat) ^ 32=2 ^ 256 by rfl] at this
 exact Nat.lt_of_lt_of_le this (Nat.pow_le_pow_right (by omega) h))
def G8 (i:Nat) (a b:V3):Prop:=∀ k,k<i->bt a k=bt b k
theorem W6 {i:Nat} (hi:i<=256) {a b:V3}:G8 i a b↔kd a / 2 ^ (256 - i)=kd b / 2 ^ (256 - i):=by
 constructor
 ·intro h;refine z176 λq hq=>?_;by_cases h2:q<256
  ·have:=h (255 - q) (by omega)
   unfold bt at this
   rwa [show 255 - (255 - q)=q by omega] at this
  ·rw[W5 a (by omega),W5 b (by omega)]
 ·intro h k hk
  have:(kd a / 2 ^ (256 - i)).testBit (i - 1 - k)=(kd b / 2 ^ (256 - i)).testBit (i - 1 - k):=by rw[h]
  rw[Nat.testBit_div_two_pow,Nat.testBit_div_two_pow, show i - 1 - k+(256 - i)=255 - k by omega] at this;exact this
theorem z14n {i:Nat} (hi:i<=256) {a b c:V3} (h:G8 i a c) (O:kd a<=kd b) (U:kd b<=kd c):G8 i a b:=by
 rw[W6 hi] at *;exact Nat.le_antisymm (Nat.div_le_div_right O) (by rw[h]; exact Nat.div_le_div_right U)
theorem W7 {i:Nat} (hi:i<256) {a b:V3} (h:G8 i a b) (O:kd a<=kd b) (h2:bt a i=true):bt b i=true:=by
 have e:∀ v,kd v / 2 ^ (255 - i) / 2=kd v / 2 ^ (256 - i):=λv=>by rw[Nat.div_div_eq_div_mul,<- Nat.pow_succ]; congr 2; omega
 have U:=(W6 (by omega)).1 h;rw[<- e,<- e] at U;have h4:kd a / 2 ^ (255 - i)<=kd b / 2 ^ (255 - i):=Nat.div_le_div_right O;unfold bt at *;rw[Nat.testBit_eq_decide_div_mod_eq] at *;simp only[decide_eq_true_eq] at *;omega
theorem W8 {i:Nat} (hi:i<256):w64 (Int.tdiv (i:Int) 8)=((i / 8:Nat):Int):=by
 rw[Int.tdiv_eq_ediv_of_nonneg (by omega),B6 (by omega) (by omega)]; omega
theorem W9 {i:Nat}:Int.tmod (i:Int) 8=((i % 8:Nat):Int):=by
 rw[Int.tmod_eq_emod_of_nonneg (by omega)]; omega
theorem Wa (v:ID) {i:Nat} (hi:i<256):NG v (i:Int)=some (bt v i):=by
 unfold NG;rw[W8 hi,W9,DC (by omega:i / 8<32)];simp only[bS];rw[CJ (by omega)];simp only[bS,Int.toNat_natCast];rw[(W4 _ (Nat.mod_lt _ (by omega))).1,IH v (by omega) (Nat.mod_lt _ (by omega)),Nat.div_add_mod]
theorem QD (v:ID) {i:Nat} (hi:i<256):Iq v (i:Int)=some (bt v i):=by
 unfold Iq;rw[W8 hi,W9,DC (by omega:i / 8<32)];simp only[bS];rw[CJ (by omega)];simp only[bS,Int.toNat_natCast];rw[(W4 _ (Nat.mod_lt _ (by omega))).2,IH v (by omega) (Nat.mod_lt _ (by omega)),Nat.div_add_mod]
theorem z1c9:∀ d:Fin 256,d≠0->∃ z:Fin 8,PQ (UInt8.ofNat d)=some ((z:Nat):Int)/\(∀ k:Fin 8,k<z->Nat.testBit d (7 - k)=false)/\Nat.testBit d (7 - z)=true:=by decide +kernel
theorem O9 {P:Nat->Prop} (h:∃ n,P n):∃ n,P n/\∀ m,m<n->¬ P m:=by
 obtain⟨n,hn⟩:=h
 induction n using Nat.strongRecOn with
 | _ n ih =>
  by_cases c:∃ m,m<n/\P m
  ·obtain⟨m,O,U⟩:=c; exact ih m O U
  ·exact⟨n,hn, λm O U=>c ⟨m,O,U⟩⟩
theorem z16b {a b:ID} (h:a≠b):∃ i:Nat,i<256/\NF a b=some (i:Int)/\G8 i a b/\bt a i≠bt b i:=by
 have:∃ j,∃ O:j<32,a[j]≠b[j]:=Classical.byContradiction λhn=>h (Vector.ext λj O=>Classical.byContradiction λU=>hn ⟨j,O,U⟩)
 obtain⟨j,⟨O,h1⟩,h2⟩:=O9 this;have h2:∀ m (hm:m<j),a[m]=b[m]:=λm hm=>Classical.byContradiction λU=>h2 m hm ⟨by omega,U⟩
 have hx:(a[j] ^^^ b[j]).toNat≠0:=λU=>h1 (by
  have:a[j] ^^^ b[j]=0:=UInt8.toNat_inj.1 U
  exact UInt8.xor_eq_zero_iff.1 this)
 obtain⟨z,z1,z2,z3⟩:=z1c9 ⟨_,UInt8.toNat_lt (a[j] ^^^ b[j])⟩ (λU=>hx (congrArg Fin.val U));simp only[UInt8.ofNat_toNat] at z1;have a1:∀ k,(a[j] ^^^ b[j]).toNat.testBit k=(a[j].toNat.testBit k ^^ b[j].toNat.testBit k):=λk=>by rw[UInt8.toNat_xor,Nat.testBit_xor]
 have hz:=z.2;refine⟨8 * j+z, by omega,?_, λk hk=>?_,?_⟩
 ·have l:=Ck (F:=NE a b) j (λi=>(i:Int)) (b:=(j:Int)) (λi hi=>by
   unfold NE;rw[DC (by omega:i<32),DC (by omega:i<32)];simp only[bS]
   rw[if_pos (by simp[h2 i hi]),AL (by omega)]) (by
   unfold NE;rw[DC O,DC O];simp only[bS]
   rw[if_neg (by simpa using h1)])
  unfold NF;rw[if_neg (by simpa using h)];refine(congrArg (· >>= _) l).trans ?_;simp only[bS];rw[DC O,DC O];simp only[bS];rw[z1];simp only[bS];rw[B6 (x:=8 * (j:Int)) (by omega) (by omega),B6 (by omega) (by omega)]
  simp
 ·rw[<- Nat.div_add_mod k 8,<- IH a (j:=k / 8) (by omega) (Nat.mod_lt _ (by omega)),<- IH b (j:=k / 8) (by omega) (Nat.mod_lt _ (by omega))];by_cases c:k / 8<j
  ·rw[h2 _ c]
  ·obtain e:k / 8=j:=by omega
   have:=z2 ⟨k % 8,Nat.mod_lt _ (by omega)⟩ (by show k % 8<z; omega);simp only[a1] at this;simp only[e]
   simpa using this
 ·simp only[a1] at z3;rw[<- IH a O hz,<- IH b O hz];intro U;rw[U] at z3;simp at z3
theorem z145 {l:List ID} {i:Nat} (hi:i<256) (hl:l.length<=1000) (h0:0<l.length) (ha:∀ x∈l,G8 i l[0] x) (hx:∃ x∈l,bt x i≠bt l[0] i):NN l=some (i:Int):=by
 have i0:idx l 0=some l[0]:=Ax (i:=0) h0;have step:∀ (j k:Nat) (O:j<256) (U:k<l.length),Ir l (j:Int) (k:Int)=if bt l[k] j≠bt l[0] j then some (.inl (.inl (.inl (.inl (j:Int))))) else some (.inr ((k+1:Nat):Int)):=λj k O U=>by
  unfold Ir;rw[if_pos (by simpa using U),Ax U,i0];simp only[bS];rw[QD _ O,QD _ O];simp only[bS];rw[AL (by omega)];by_cases c:bt l[k] j=bt l[0] j <;> simp[c]
 have out:=Ck (F:=NM l) i (λj=>(j:Int)) (b:=(.inl (i:Int):Sum Int Unit)) (λj O=>by
  unfold NM;rw[if_pos (by simp; omega)]
  have:=Ck (F:=Ir l (j:Int)) (l.length - 1) (λk=>((k+1:Nat):Int)) (b:=.inr ()) (λk U=>by
   rw[step j (k+1) (by omega) (by omega),if_neg]
   exact λhc=>hc (ha _ (List.getElem_mem _) j O).symm) (by
   unfold Ir
   rw[if_neg (by simp; omega)])
  refine(congrArg (Bc · _) this).trans ?_;simp only[DL]
  rw[AL (by omega)]) (by
  obtain⟨x,x1,x2⟩:=hx;obtain⟨k,k1,rfl⟩:=List.getElem_of_mem x1;obtain⟨k,⟨k1,k2⟩,k3⟩:=O9 (P:=λk=>∃ h:k<l.length,bt l[k] i≠bt l[0] i) ⟨k,k1,x2⟩;have a1:k≠0:=λe=>by subst e; exact k2 rfl
  have:=Ck (F:=Ir l (i:Int)) (k - 1) (λk=>((k+1:Nat):Int)) (b:=.inl (.inl (.inl (i:Int)))) (λm hm=>by
   rw[step i (m+1) hi (by omega),if_neg]
   exact λhc=>k3 (m+1) (by omega) ⟨by omega,hc⟩) (by
   rw[show k - 1+1=k by omega,step i k hi k1,if_pos k2])
  unfold NM;rw[if_pos (by simp; omega)]
  exact(congrArg (Bc · _) this).trans rfl)
 unfold NN;exact(congrArg (Bc · _) out).trans rfl
theorem Wb (l:List ID) {i:Nat} (hi:i<256) (hl:l.length<=1000) (c:Bool):KE l (i:Int) c=some (l.filter λx=>bt x i==c):=by
 have out:=Ck (F:=NO l (i:Int) c) l.length (λk=>((l.take k).filter (λx=>bt x i==c),(k:Int))) (λk O=>by
  have tk:(l.take (k+1)).filter (λx=>bt x i==c)=(l.take k).filter (λx=>bt x i==c)++if bt l[k] i==c then [l[k]] else []:=by
   rw[<- List.take_append_getElem O,List.filter_append]
   cases h:bt l[k] i==c <;> simp[h]
  have le:((l.take k).filter λx=>bt x i==c).length<=1000:=Nat.le_trans (List.length_filter_le _ _) (by simp; omega);unfold NO;rw[if_pos (by simpa using O)];simp only[];rw[Ax O];simp only[bS];rw[QD _ hi,AL (by omega),tk];simp only[bS]
  cases h:bt l[k] i==c with
  | true =>
   simp only[if_true];rw[B1 (by simp only[List.length_singleton]; omega)];rfl
  | false=>simp) (by
  unfold NO
  rw[if_neg (by simp)])
 rw[List.take_length] at out;unfold KE;exact(congrArg (· >>= _) out).trans rfl
theorem z17b {l:List ID} {i:Nat} (hi:i<256) (hl:l.length<=1000) (ho:l.Pairwise λa b=>kd a<kd b) (ha:∀ x∈l,∀ y∈l,G8 i x y) (hx:∃ x∈l,bt x i=true):NI l (i:Int)=some (l.filter λx=>bt x i==false,l.filter λx=>bt x i==true):=by
 obtain⟨x,x1,x2⟩:=hx;obtain⟨k,U,rfl⟩:=List.getElem_of_mem x1;obtain⟨k,⟨U,k2⟩,k3⟩:=O9 (P:=λk=>∃ h:k<l.length,bt l[k] i=true) ⟨k,U,x2⟩
 have find:=Ck (F:=KC l (i:Int)) k (λm=>(m:Int)) (b:=(.inl (k:Int):Sum Int Unit)) (λm hm=>by
  unfold KC NH;rw[if_pos (by simp; omega),Ax (by omega:m<l.length)];simp only[bS];rw[Wa _ hi];simp only[bS]
  rw[if_neg (λhc=>k3 m hm ⟨by omega,hc⟩),AL (by omega)]) (by
  unfold KC NH;rw[if_pos (by simpa using U),Ax U];simp only[bS];rw[Wa _ hi];simp only[bS]
  rw[if_pos k2])
 have lo:∀ y∈l.take k,bt y i=false:=λy O=>by
  obtain⟨m,m1,rfl⟩:=List.getElem_of_mem O;rw[List.getElem_take];simp only[List.length_take] at m1;exact Bool.eq_false_iff.2 λhc=>k3 m (by omega) ⟨by omega,hc⟩
 have up:∀ y∈l.drop k,bt y i=true:=λy O=>by
  obtain⟨m,m1,rfl⟩:=List.getElem_of_mem O;rw[List.getElem_drop];simp only[List.length_drop] at m1;refine W7 hi (ha _ (List.getElem_mem U) _ (List.getElem_mem (by omega))) ?_ k2;by_cases e:m=0
  ·subst e; exact Nat.le_refl _
  ·exact Nat.le_of_lt (List.pairwise_iff_getElem.1 ho k (k+m) U (by omega) (by omega))
 have f1:l.filter (λx=>bt x i==false)=l.take k:=by
  conv=>lhs; rw[<- List.take_append_drop k l,List.filter_append]
  rw[List.filter_eq_self.2 (λy O=>by simp[lo y O]),List.filter_eq_nil_iff.2 (λy O=>by simp[up y O]),List.append_nil]
 have f2:l.filter (λx=>bt x i==true)=l.drop k:=by
  conv=>lhs; rw[<- List.take_append_drop k l,List.filter_append]
  rw[List.filter_eq_nil_iff.2 (λy O=>by simp[lo y O]),List.filter_eq_self.2 (λy O=>by simp[up y O]),List.nil_append]
 unfold NI PR;rw[show iter (KC l (i:Int)) 0=some (.inl (k:Int)) from find,f1,f2];simp only[or_l,bS];rw[if_neg (by simp)];simp only[bS];rw[show (0:Int)=((0:Nat):Int) from rfl,Hn (Nat.zero_le _) (by omega),Hn (by omega) (Nat.le_refl _),List.take_of_length_le (l:=l.drop k) (by simp)];rfl
theorem z1aa (v:ID):∃ d,ND v=some (d,0)/\NL v=some d:=by
 refine⟨sha ([0]++v.toList),?_,?_⟩
 ·unfold ND;rw[B1 (by simp)];simp only[bS];rw[O2 _ (by simp)];rfl
 ·unfold NL;rw[B1 (by simp)];simp only[bS];rw[KP _ (by simp)];rfl
theorem z193 (i:Int) (a b:ID):∃ d,NJ i a b=some (d,0)/\NP i a b=some d:=by
 refine⟨sha ([1,UInt8.ofInt i]++(a.toList++b.toList)),?_,?_⟩
 ·unfold NJ;rw[KO _ (by simp) (by simp)];simp only[bS,List.flatten_cons,List.flatten_nil,List.append_nil];rw[O2 _ (by simp)];rfl
 ·unfold NP;rw[B1 (by simp)];simp only[bS];rw[B1 (by simp)];simp only[bS];rw[KP _ (by simp),List.append_assoc];rfl
theorem z19z:∀ (n:Nat) (l:List ID),l.length<=n->l.length<=1000->l.Pairwise (λa b=>kd a<kd b)->∃ d,∀ N,n<N->FZ N l=some (d,0)/\ET N l=some d:=by
 intro n
 induction n with
 | zero =>
  intro l hn _ _
  have:l=[]:=List.length_eq_zero_iff.1 (by omega)
  subst this;refine⟨Vector.replicate 32 0, λN hN=>?_⟩;obtain⟨N,rfl⟩:∃ M,N=M+1:=⟨N - 1, by omega⟩
  exact⟨rfl,rfl⟩
 | succ n ih =>
  intro l hn hl ho;by_cases c0:l.length=0
  ·obtain⟨d,hd⟩:=ih l (by omega) hl ho;exact⟨d, λN hN=>hd N (by omega)⟩
  by_cases c1:l.length=1
  ·obtain⟨d,d1,d2⟩:=z1aa l[0];refine⟨d, λN hN=>?_⟩;obtain⟨N,rfl⟩:∃ M,N=M+1:=⟨N - 1, by omega⟩
   have i0:idx l 0=some l[0]:=Ax (i:=0) (by omega);refine⟨?_,?_⟩
   ·unfold FZ NK;rw[c1];simp only[bS];rw[if_neg (by simp),if_pos (by simp),i0];simp only[bS];rw[d1];rfl
   ·unfold ET NQ;rw[c1,if_neg (by simp),if_pos (by simp),i0];simp only[bS];rw[d2];rfl
  have O:l.length - 1<l.length:=by omega
  have a6:∀ k (U:k<l.length),0<k->kd (l[0]'(by omega))<kd l[k]:=λk U h0=>List.pairwise_iff_getElem.1 ho 0 k (by omega) U h0;have a7:l[0]'(by omega)≠l[l.length - 1]:=λe=>by
   have:=a6 (l.length - 1) O (by omega)
   rw[<- e] at this; omega
  obtain⟨i,hi,a1,a2,a3⟩:=z16b a7;have ends:∀ x∈l,kd (l[0]'(by omega))<=kd x/\kd x<=kd l[l.length - 1]:=λx hx=>by
   obtain⟨k,U,rfl⟩:=List.getElem_of_mem hx;refine⟨?_,?_⟩
   ·by_cases e:k=0
    ·subst e; exact Nat.le_refl _
    ·exact Nat.le_of_lt (a6 k U (by omega))
   ·by_cases e:k=l.length - 1
    ·subst e; exact Nat.le_refl _
    ·exact Nat.le_of_lt (List.pairwise_iff_getElem.1 ho k _ U O (by omega))
  have ag:∀ x∈l,G8 i (l[0]'(by omega)) x:=λx hx=>z14n (by omega) a2 (ends x hx).1 (ends x hx).2;have a8:∀ x∈l,∀ y∈l,G8 i x y:=λx hx y hy k U=>(ag x hx k U).symm.trans (ag y hy k U);have b0:bt (l[0]'(by omega)) i=false:=Bool.eq_false_iff.2 λhc=>a3 (hc.trans (W7 hi a2 (ends _ (List.getElem_mem _)).2 hc).symm);have b1:bt l[l.length - 1] i=true:=by
   cases h:bt l[l.length - 1] i with
   | true=>rfl
   | false=>exact absurd (b0.trans h.symm) a3
  have sp:=z145 hi hl (by omega) ag ⟨_,List.getElem_mem O,a3.symm⟩;have ct:=z17b hi hl ho a8 ⟨_,List.getElem_mem O,b1⟩;have r0:=Wb l hi hl false;have r1:=Wb l hi hl true;have len:∀ c,(∃ x∈l,bt x i≠c)->(l.filter λx=>bt x i==c).length<l.length:=λc ⟨x,h1,h2⟩=>by
   refine Nat.lt_of_le_of_ne (List.length_filter_le _ _) λe=>?_
   have:=(List.length_filter_eq_length_iff.1 e) x h1
   simp at this; exact h2 this
  have l0:=len false ⟨_,List.getElem_mem O, by simp[b1]⟩;have l1:=len true ⟨_,List.getElem_mem (by omega:0<l.length), by simp[b0]⟩;obtain⟨d0,e0⟩:=ih _ (by omega:(l.filter λx=>bt x i==false).length<=n) (by omega) (ho.filter _);obtain⟨d1,e1⟩:=ih _ (by omega:(l.filter λx=>bt x i==true).length<=n) (by omega) (ho.filter _);obtain⟨d,n1,n2⟩:=z193 (i:Int) d0 d1;refine⟨d, λN hN=>?_⟩;obtain⟨N,rfl⟩:∃ M,N=M+1:=⟨N - 1, by omega⟩
  have i0:idx l 0=some (l[0]'(by omega)):=Ax (i:=0) (by omega);have il:idx l (w64 ((l.length:Int) - 1))=some l[l.length - 1]:=by
   rw[B6 (by omega) (by omega), show (l.length:Int) - 1=((l.length - 1:Nat):Int) by omega]; exact Ax O
  refine⟨?_,?_⟩
  ·unfold FZ NK;simp only[bS];rw[if_neg (by simpa using c0),if_neg (by simp; omega),i0,il];simp only[bS];rw[a1];simp only[bS];rw[ct];simp only[bS];rw[(e0 N (by omega)).1];simp only[bS,bne_self_eq_false,Bool.false_eq_true,if_false];rw[(e1 N (by omega)).1];simp only[bS,bne_self_eq_false,Bool.false_eq_true,if_false];rw[n1];rfl
  ·unfold ET NQ;rw[if_neg (by simpa using c0),if_neg (by simp; omega),sp];simp only[bS];rw[r0];simp only[bS];rw[(e0 N (by omega)).2];simp only[bS];rw[r1];simp only[bS];rw[(e1 N (by omega)).2];simp only[bS];rw[n2];rfl
theorem z124 {l:List ID} (hl:l.length<=60) (O:l.Pairwise λa b=>kd a<kd b):NC l=some 0:=by
 have out:=Ck (F:=NB l) l.length (λi=>(i:Int)) (b:=(.inr ():Sum Int Unit)) (λi hi=>by
  unfold NB;rw[if_pos (by simpa using hi)];by_cases c:0<i
  ·rw[if_pos (by simpa using c),B6 (by omega) (by omega), show (i:Int) - 1=((i - 1:Nat):Int) by omega,Ax (by omega:i - 1<l.length),Ax hi];simp only[bS];rw[My,if_pos (List.pairwise_iff_getElem.1 O (i - 1) i (by omega) hi (by omega))];simp only[bS];rw[if_neg (by simp),AL (by omega)]
  ·rw[if_neg (by simpa using c),AL (by omega)]) (by
  unfold NB
  rw[if_neg (by simp)])
 unfold NC;rw[if_neg (by simp; omega)];exact(congrArg (Bc · _) out).trans rfl
theorem Wc {l:List ID} (O:l.length<=60) (U:l.Pairwise λa b=>kd a<kd b):∃ d,KD l=some (d,0)/\(ET 1000) l=some d:=by
 obtain⟨d,hd⟩:=z19z 60 l O (by omega) U
 have:=hd 1000 (by omega)
 refine⟨d,?_,this.2⟩;unfold KD;rw[z124 O U];simp only[bS,bne_self_eq_false,Bool.false_eq_true,if_false];rw[this.1];rfl
end
section
variable {g:Ao}
theorem z111 (G:C9 g):∀ i,i<g.Ops.length->∃ t,t<g.Ops.length/\top g g.Ops.length t=true/\Rch (B3 g) [t] i:=by
 obtain⟨Q,q1,q2,q3⟩:=zvr G;obtain⟨got,topo⟩:=q2.got;have U:∀ i,i<g.Ops.length->i∈Q:=(Qc got.nodup got.lt).1 (by omega);have key:∀ m i,g.Ops.length - Q.idxOf i=m->i<g.Ops.length->∃ t,t<g.Ops.length/\top g g.Ops.length t=true/\Rch (B3 g) [t] i:=by
  intro m
  induction m using Nat.strongRecOn with
  | _ m ih =>
   intro i hm hi
   cases ht:top g g.Ops.length i with
   | true=>exact⟨i,hi,ht,.base (by simp)⟩
   | false =>
    have:∃ k,k<g.Ops.length/\i∈B3 g k:=by
     refine Classical.byContradiction λhn=>?_
     have:top g g.Ops.length i=true:=by
      unfold top;rw[List.all_eq_true];intro k O;have O:k<g.Ops.length:=by simpa using O
      have:i∉B3 g k:=λhx=>hn ⟨k,O,hx⟩
      simp[this]
     rw[ht] at this; simp at this
    obtain⟨k,O,hx⟩:=this;have hkQ:=List.idxOf_lt_length_of_mem (U k O);have a1:Q.idxOf i<Q.idxOf k:=by
     have h1:=topo (Q.idxOf k) hkQ i (by rw[List.getElem_idxOf]; exact hx);obtain⟨j,hj,e⟩:=List.getElem_of_mem h1;rw[List.length_take] at hj;rw[List.getElem_take] at e;have h2:Q.idxOf i<=j:=by
      refine Nat.le_of_not_lt λc=>?_;have h3:=List.idxOf_lt_length_of_mem (U i hi)
      have:=(List.getElem_inj (xs:=Q) (i:=j) (j:=Q.idxOf i) (h₀:=by omega) (h₁:=h3) got.nodup).1 (by rw[e,List.getElem_idxOf])
      omega
     omega
    obtain⟨t,t1,t2,t3⟩:=ih _ (by omega) k rfl O;exact⟨t,t1,t2,.step t3 hx⟩
 exact λi hi=>key _ i rfl hi
end
section
variable {g:Ao} {n m:Nat} {R:List AP} {T:List AT}
theorem z1bu (G:C9 g) (F:Fit g n) (K:Fh g g.Ops.length R) {r:AP} (hr:r∈R):CG r.Key=true/\okV r.Value=true/\r.Value.Text.length<=100/\¬ 1000000000000<r.Stamp:=by
 obtain⟨b,h1,h2⟩:=(K.mem r).1 hr;have O:=L5 (g:=g) r.Key g.Ops.length;rw[h1] at O;have U:=Oc F O.1;rw[h2];exact⟨VS G F U (.inr O.2.1),z1d4 G F U O.2.1,(F.op _ (Qi U).2).2.2,(Qz G F U).2⟩
theorem z10d (G:C9 g) (F:Fit g n) (K:Fh g g.Ops.length R):Hr ⟨R⟩=some 0:=by
 have hl:=G.e.len;have a1:=K.len;unfold Hr;rw[if_neg (by simp; omega)]
 have:=VU (F:=FX ⟨R⟩) (b:=.inr ()) R.length (λi hi=>?_) ?_ 0 (Nat.zero_le _)
 ·rw[show (0:Int)=((0:Nat):Int) from rfl,this]; rfl
 ·obtain⟨U,k2,k3,k4⟩:=z1bu G F K (List.getElem_mem hi);unfold FX;simp only[];rw[if_pos (by simp; omega),Ax hi];simp only[bS];rw[VT U];simp only[bS];rw[if_neg (by simp),Mv _ (by omega),k2,AL (by omega)];simp only[bS,if_true];rw[if_neg (by simp),if_neg (by simpa using k4)];by_cases O:0<i
  ·rw[if_pos (by simpa using O)];have e1:w64 ((i:Int) - 1)=((i - 1:Nat):Int):=by rw[B6 (by omega) (by omega)]; omega
   rw[e1,Ax (by omega:i - 1<R.length)];simp only[bS]
   have:=QA K.ord (i:=i - 1) (j:=i) (by simp; omega) (by simpa using hi) (by omega);simp only[List.getElem_map] at this;rw[Ob,decide_eq_true this];rfl
  ·rw[if_neg (by simpa using O)];rfl
 ·unfold FX;simp only[];rw[if_neg (by simp)]
theorem z114 (G:C9 g):(CT g (top g g.Ops.length)).length=0↔g.Ops.length=0:=by
 constructor
 ·intro h;refine Classical.byContradiction λhn=>?_;obtain⟨t,O,U,-⟩:=z111 G 0 (by omega)
  have:B9 g t∈CT g (top g g.Ops.length):=(GN G.e).2 ⟨by rw[Cv (by rw[G.e.ids]; exact O)]; exact List.getElem_mem _, by rw[KY G.e O]; exact U⟩;rw[List.eq_nil_of_length_eq_zero h] at this
  cases this
 ·intro h
  have:=O7 (g:=g) (IC G.e (top g g.Ops.length)) λy hy=>((GN G.e).1 hy).1
  have:=G.e.ids
  omega
theorem z1ag {x y:ID} (h:kd x<kd y):¬ (0:Int)<=Lib.compareBytes x.toList y.toList:=by
 rw[FV,if_pos h]; omega
theorem z10l (G:C9 g) (F:Fit g n) (KT:IG g T) (KR:Fh g g.Ops.length R):Hs (⟨(g.Ops.length:Int),⟨T⟩,⟨R⟩,CT g (top g g.Ops.length)⟩:Bt)=some 0:=by
 have hl:=G.e.len;have hz:=z114 G;have O:=IC G.e (top g g.Ops.length);have a1:=O7 (g:=g) O λy hy=>((GN G.e).1 hy).1;rw[G.e.ids] at a1;generalize CT g (top g g.Ops.length)=H at *;unfold Hs;simp only[bS];rw[if_neg (by simp),if_neg (by simp; omega),if_neg (by simp; omega),z10h G F KT];simp only[bS];rw[if_neg (c:=((0:Int) != 0)=true) (by simp),z10d G F KR];simp only[bS];rw[if_neg (c:=((0:Int) != 0)=true) (by simp)]
 have e:(if ((H.length:Int)==0)=true then (if decide (0<(g.Ops.length:Int))=true then some (.inl (8:Int)) else some (.inr ())) else some (.inr ()):Option (Sum Int Unit))=some (.inr ()):=by
  by_cases c:H.length=0
  ·have c2:=hz.1 c;rw[if_pos (by simp[c]),if_neg (by simp[c2])]
  ·exact if_neg (by simpa using c)
 rw[e];simp only[DL];have key:∃ b,iter (FY (⟨(g.Ops.length:Int),⟨T⟩,⟨R⟩,H⟩:Bt) (H.length:Int)) 1=some b/\b=.inr ():=by
  refine D9 (F:=FY _ _) (H.length - 1) (λi s=>s=((i+1:Nat):Int)) _ (λi s hi U=>?_) (λs U=>?_) 1 0 (Nat.zero_le _) rfl
  ·subst U;unfold FY;simp only[];have e1:w64 (((i+1:Nat):Int) - 1)=((i:Nat):Int):=by rw[B6 (by omega) (by omega)]; omega
   rw[if_pos (by simp; omega),e1,Ax (by omega:i<H.length),Ax (by omega:i+1<H.length),AL (by omega)];simp only[bS];rw[show MR H[i] H[i+1]=some (Lib.compareBytes H[i].toList H[i+1].toList) from rfl];simp only[bS];rw[if_neg (by simpa using z1ag (G1 O (i:=i) (j:=i+1) (by omega) (by omega) (by omega)))];exact⟨_,rfl,rfl⟩
  ·subst U;unfold FY;simp only[];rw[if_neg (by simp; omega)];exact⟨_,rfl,rfl⟩
 obtain⟨b,b1,rfl⟩:=key;rw[b1];rfl
end
section
variable {g:Ao}
theorem Wd (g:Ao) (m:Nat->Bool):∀ i,subI g m i=((List.range i).filter m).map (B9 g)
 | 0=>rfl
 | i+1=>by
  have U:=Wd g m i;rw[List.range_succ,List.filter_append,List.map_append,<- U]
  cases O:m i with
  | true=>rw[VB O,List.filter_cons_of_pos (by exact O)]; rfl
  | false=>rw[VC O,List.filter_cons_of_neg (by rw[O]; simp)]; simp
theorem z10v (g:Ao) (m:Nat->Bool):subI g m g.Ops.length=CT g m:=Wd g m _
end
section
open Go Go.Sort
theorem We {κ β:Type} [DecidableEq κ] (x:κ):∀ m:List (κ × β),Bv m x=none↔x∉m.map Prod.fst
 | []=>by simp[Bv]
 | p::m=>by
  unfold Bv;by_cases h:x=p.1
  ·rw[if_pos h]; simp[h]
  ·rw[if_neg h,We x m]; simp[h]
theorem Wg {κ β:Type} [DecidableEq κ] (k:κ) (v:β):∀ m:List (κ × β),(m.map Prod.fst).Nodup->((D4 m k v).map Prod.fst).Nodup/\∀ x,x∈(D4 m k v).map Prod.fst->x=k\/x∈m.map Prod.fst
 | [],_=>by simp[D4]
 | p::m,h=>by
  simp only[List.map_cons,List.nodup_cons] at h;obtain⟨h1,h2⟩:=Wg k v m h.2;unfold D4;by_cases U:k=p.1
  ·rw[if_pos U];refine⟨by simp only[List.map_cons,List.nodup_cons]; exact h, λx O=>.inr ?_⟩
   simpa using O
  ·rw[if_neg U];refine⟨?_, λx O=>?_⟩
   ·simp only[List.map_cons,List.nodup_cons];refine⟨λO=>?_,h1⟩;rcases h2 _ O with e | e
    ·exact U e.symm
    ·exact h.1 e
   ·simp only[List.map_cons,List.mem_cons] at O ⊢;rcases O with e | e
    ·exact .inr (.inl e)
    ·rcases h2 _ e with e | e
     ·exact .inl e
     ·exact .inr (.inr e)
theorem Wh {κ β:Type} [DecidableEq κ] (k x:κ):∀ m:List (κ × β),(m.map Prod.fst).Nodup->Bv (DQ m k) x=if x=k then none else Bv m x
 | [],_=>by simp[DQ,Bv]
 | p::m,h=>by
  simp only[List.map_cons,List.nodup_cons] at h;unfold DQ;by_cases U:k=p.1
  ·rw[if_pos U];by_cases O:x=k
   ·rw[if_pos O,We,O,U]; exact h.1
   ·rw[if_neg O];show _=if x=p.1 then some p.2 else Bv m x
    rw[if_neg (λe=>O (e.trans U.symm))]
  ·rw[if_neg U];show (if x=p.1 then some p.2 else Bv (DQ m k) x)=if x=k then none else if x=p.1 then some p.2 else Bv m x
   rw[Wh k x m h.2];by_cases O:x=p.1
   ·rw[if_pos O,if_pos O,if_neg (λe=>U (e.symm.trans O))]
   ·rw[if_neg O,if_neg O]
theorem Wi {κ β:Type} [DecidableEq κ] (k:κ):∀ m:List (κ × β),(m.map Prod.fst).Nodup->((DQ m k).map Prod.fst).Nodup/\∀ x,x∈(DQ m k).map Prod.fst->x∈m.map Prod.fst
 | [],_=>by simp[DQ]
 | p::m,h=>by
  simp only[List.map_cons,List.nodup_cons] at h;obtain⟨h1,U⟩:=Wi k m h.2;unfold DQ;by_cases hk:k=p.1
  ·rw[if_pos hk]; exact⟨h.2, λx O=>by simp only[List.map_cons,List.mem_cons]; exact .inr O⟩
  ·rw[if_neg hk];refine⟨?_, λx O=>?_⟩
   ·simp only[List.map_cons,List.nodup_cons];exact⟨λO=>h.1 (U _ O),h1⟩
   ·simp only[List.map_cons,List.mem_cons] at O ⊢;exact O.imp id (U _)
def HC {α:Type} (cl:α->Option Bool) (a0:List α) (O:Int):Option (Sum (Sum Int Unit) Int) :=
 if decide (O<(a0.length:Int)) then
  idx a0 O>>=λU =>
  cl U>>=λr6 =>
  if r6 then
   some (.inl (.inl O))
  else
   some (.inr (w64 (O+1)))
 else
  some (.inl (.inr ()))
theorem Wj {α:Type} (cl:α->Option Bool) (p:α->Bool) (l:List α) (hp:∀ x∈l,cl x=some (p x)) (hl:l.length<=9223372036854775806):∀ rest pre:List α,l=pre++rest ->
  iter (HC cl l) (pre.length:Int)=some (match rest.findIdx? p with | some i=>.inl ((pre.length+i:Nat):Int) | none=>.inr ())
 | [],pre,e=>by
  subst e;refine B2 ?_;unfold HC;rw[if_neg (by simp)]; rfl
 | c::rest,pre,e=>by
  have O:pre.length<l.length:=by rw[e]; simp
  have U:l[pre.length]'O=c:=by subst e; simp
  have hF:HC cl l (pre.length:Int)=if p c then some (.inl (.inl (pre.length:Int))) else some (.inr ((pre.length+1:Nat):Int)):=by
   unfold HC;rw[if_pos (by simpa using O),Ax O,U];simp only[bS];rw[hp c (by rw[e]; simp),AL (by omega)]
   simp only[bS]
  rw[List.findIdx?_cons]
  cases hc:p c with
  | true =>
   rw[hc,if_pos rfl] at hF;rw[B2 hF]; simp
  | false =>
   rw[hc,if_neg (by simp)] at hF;have ih:=Wj cl p l hp hl rest (pre++[c]) (by simp[e]);simp only[List.length_append,List.length_cons,List.length_nil,Nat.zero_add] at ih;rw[Bl hF,ih]
   cases rest.findIdx? p with
   | none=>simp
   | some i=>simp; omega
theorem Wk {α:Type} (cl:α->Option Bool) (p:α->Bool) (l:List α) (O:∀ x∈l,cl x=some (p x)) (U:l.length<=9223372036854775806):iter (HC cl l) 0=some (match l.findIdx? p with | some i=>.inl (i:Int) | none=>.inr ()):=by
 have:=Wj cl p l O U l [] rfl
 simpa using this
theorem z170 {α:Type} (p:α->Bool) (l:List α):(l.findIdx? p).isSome=l.any p:=by
 induction l with
 | nil=>rfl
 | cons a l ih =>
  rw[List.findIdx?_cons,List.any_cons]
  cases h:p a with
  | true=>rfl
  | false=>simp
def wfO (l:List Ab):Prop:=∀ o∈l,inI o.Act.Value.Num/\o.Act.Value.Text.length<=9223372036854775807
def oid (o:Ab):ID:=sha (Dr o)
def nmd (o:Ab):Bg:=⟨o,oid o⟩
def DG:List Ab->Int
 | []=>0
 | o::l=>if BK o=0 then DG l else BK o
theorem HD:∀ l:List Ab,DG l=0↔∀ o∈l,BK o=0
 | []=>by simp[DG]
 | o::l=>by
  unfold DG;by_cases h:BK o=0
  ·rw[if_pos h,HD l]; simp[h]
  ·rw[if_neg h]; simp[h]
theorem Wl (l:List Ab) (hw:wfO l) (hl:l.length<=60):∀ rest pre:List Ab,l=pre++rest->iter (Ku l) (pre.map nmd,(pre.length:Int))=some (if DG rest=0 then .inr (l.map nmd) else .inl ([],DG rest))
 | [],pre,e=>by
  subst e;refine B2 ?_;unfold Ku;rw[if_neg (by simp)];simp[DG]
 | o::rest,pre,e=>by
  have O:pre.length<l.length:=by rw[e]; simp
  have a1:l[pre.length]'O=o:=by subst e; simp
  obtain⟨w1,w2⟩:=hw o (by rw[e]; simp)
  have U:DG (o::rest)=if BK o=0 then DG rest else BK o:=rfl
  have hF:Ku l (pre.map nmd,(pre.length:Int))=if BK o=0 then some (.inr ((pre++[o]).map nmd,((pre.length+1:Nat):Int))) else some (.inl (.inl ([],BK o))):=by
   unfold Ku;rw[if_pos (by simpa using O)];simp only[];rw[Ax O,a1];simp only[bS];rw[V1 o w1 w2];simp only[bS];by_cases h:BK o=0
   ·rw[if_pos h,if_pos h,if_neg (by simp)];rw[US _ (by have:=(DE h).1; omega)];simp only[bS];rw[B1 (by simp only[List.length_map,List.length_cons,List.length_nil]; omega)];simp only[bS];rw[AL (by omega),List.map_append];rfl
   ·rw[if_neg h,if_neg h,if_pos (by simpa using h)]
  by_cases h:BK o=0
  ·rw[if_pos h] at hF;have ih:=Wl l hw hl rest (pre++[o]) (by simp[e]);simp only[List.length_append,List.length_cons,List.length_nil,Nat.zero_add] at ih;rw[Bl hF,ih,U,if_pos h]
  ·rw[if_neg h] at hF;rw[B2 hF,U,if_neg h,if_neg h]
def BD (l:List Bg):List ID:=l.map (·.id)
theorem Wm (S:List Bg) (hS:S.length<=60):∀ (rest pre:List Bg) (m:List (ID × Bool)),S=pre++rest->(m.map Prod.fst).Nodup->(BD pre).Nodup->(∀ x,(Bv m x).getD false=decide (x∈BD pre)) ->
  ∃ r,iter (Kv S) (m,(pre.length:Int))=some r/\((r=.inl ([],14)/\¬ (BD S).Nodup)\/∃ m',r=.inr m'/\(BD S).Nodup/\(m'.map Prod.fst).Nodup/\∀ x,(Bv m' x).getD false=decide (x∈BD S))
 | [],pre,m,e,hm,hn,hx=>by
  rw[List.append_nil] at e;subst e;refine⟨.inr m,B2 ?_,.inr ⟨m,rfl,hn,hm,hx⟩⟩;unfold Kv;rw[if_neg (by simp)]
 | c::rest,pre,m,e,hm,hn,hx=>by
  have O:pre.length<S.length:=by rw[e]; simp
  have a2:S[pre.length]'O=c:=by subst e; simp
  have hF:Kv S (m,(pre.length:Int))=if decide (c.id∈BD pre) then some (.inl (.inl ([],14))) else some (.inr (D4 m c.id true,((pre.length+1:Nat):Int))):=by
   unfold Kv;rw[if_pos (by simpa using O)];simp only[];rw[Ax O,a2];simp only[bS];rw[hx,AL (by omega)]
  by_cases hc:c.id∈BD pre
  ·rw[decide_eq_true hc,if_pos rfl] at hF;refine⟨_,B2 hF,.inl ⟨rfl, λhS=>?_⟩⟩;rw[e] at hS;unfold BD at hS hc;rw[List.map_append,List.map_cons,List.nodup_append] at hS;exact hS.2.2 _ hc _ (by simp) rfl
  ·rw[decide_eq_false hc,if_neg (by simp)] at hF;have a1:BD (pre++[c])=BD pre++[c.id]:=by simp[BD]
   obtain⟨r,h1,h2⟩:=Wm S hS rest (pre++[c]) (D4 m c.id true) (by simp[e]) (Wg _ _ m hm).1 (by
    rw[a1,List.nodup_append];refine⟨hn, by simp, λa ha b hb=>?_⟩;simp only[List.mem_singleton] at hb;subst hb
    exact λe=>hc (e ▸ ha)) (λx=>by
    rw[KZ,a1];by_cases U:x=c.id
    ·rw[if_pos U]; simp[U]
    ·rw[if_neg U,hx]; simp[U])
   simp only[List.length_append,List.length_cons,List.length_nil,Nat.zero_add] at h1;exact⟨r, by rw[Bl hF]; exact h1,h2⟩
def free (W:List ID) (x:Bg):Bool:=x.o.Preds.all λp=>!decide (p∈W)
def BY:Nat->List Bg->List Bg
 | 0,_=>[]
 | n+1,left=>match left.findIdx? (free (BD left)) with
  | none=>[]
  | some i=>match left[i]? with
   | none=>[]
   | some x=>x::BY n (left.eraseIdx i)
theorem z13h (x:Bg) (hx:x.o.Preds.length<=4) (m:List (ID × Bool)) (W:List ID) (U:∀ x,(Bv m x).getD false=decide (x∈W)):Ii x m=some (free W x):=by
 have h:=Wk (λy=>Kt y m) (λy=>decide (y∈W)) x.o.Preds (λy _=>by unfold Kt; simp only[bS]; rw[U]) (by omega);unfold Ii PN PM;have hE:Ui x.o.Preds m=HC (λy=>Kt y m) x.o.Preds:=rfl;rw[hE,h];have ha:=z170 (λy=>decide (y∈W)) x.o.Preds;have O:free W x=!(x.o.Preds.any λy=>decide (y∈W)):=by unfold free; rw[List.all_eq_not_any_not]; simp
 rw[O,<- ha]
 cases x.o.Preds.findIdx? λy=>decide (y∈W) with
 | none=>rfl
 | some i=>simp only[or_l,bS]; simp
theorem z10j (left:List Bg) (hl:left.length<=60) (O:∀ x∈left,x.o.Preds.length<=4) (m:List (ID × Bool)) (W:List ID) (U:∀ x,(Bv m x).getD false=decide (x∈W)) :
  Nj left m=some (match left.findIdx? (free W) with | some i=>(i:Int) | none=>-1):=by
 have h:=Wk (λy=>Ii y m) (free W) left (λy hy=>z13h y (O y hy) m W U) (by omega);unfold Nj;have hE:Uj left m=HC (λy=>Ii y m) left:=rfl;rw[hE,h]
 cases left.findIdx? (free W) with
 | none=>rfl
 | some i=>rfl
theorem L7 (l:List Bg) (i:Nat):BD (l.eraseIdx i)=(BD l).eraseIdx i:=by
 unfold BD;rw[List.eraseIdx_eq_take_drop_succ,List.eraseIdx_eq_take_drop_succ,List.map_append,List.map_take,List.map_drop]
theorem QE {l:List ID} (hn:l.Nodup) {i:Nat} (hi:i<l.length) (x:ID):x∈l.eraseIdx i↔x∈l/\x≠l[i]:=by
 rw[List.mem_eraseIdx_iff_getElem]
 constructor
 ·rintro⟨j,O,U,h2⟩
  subst h2;exact⟨List.getElem_mem O, λe=>U (IA hn O hi e)⟩
 ·rintro⟨U,h2⟩
  obtain⟨j,O,rfl⟩:=List.getElem_of_mem U;exact⟨j,O, λe=>h2 (by subst e; rfl),rfl⟩
theorem Wn:∀ (n:Nat) (left:List Bg) (m:List (ID × Bool)) (out:List Bg),left.length=n->out.length+n<=60->(∀ x∈left,x.o.Preds.length<=4)->(BD left).Nodup->(m.map Prod.fst).Nodup->(∀ x,(Bv m x).getD false=decide (x∈BD left)) ->
  iter Ij (left,m,out)=some (if (BY n left).length=n then .inr (out++BY n left) else .inl ([],36))
 | 0,left,m,out,hl,ho,hp,hn,hk,hm=>by
  refine B2 ?_;unfold Ij;rw[if_neg (by simp[hl])];simp[BY]
 | n+1,left,m,out,hl,ho,hp,hn,hk,hm=>by
  have hf:=z10j left (by omega) hp m _ hm
  cases hi:left.findIdx? (free (BD left)) with
  | none =>
   rw[hi] at hf;have hc:BY (n+1) left=[]:=by unfold BY; rw[hi]
   rw[hc,if_neg (by simp)];refine B2 ?_;unfold Ij;rw[if_pos (by simp; omega)];simp only[];rw[hf];rfl
  | some i =>
   rw[hi] at hf;have O:i<left.length:=by
    have:=List.findIdx?_eq_some_iff_findIdx_eq.1 hi
    exact this.1
   have hc:BY (n+1) left=left[i]::BY n (left.eraseIdx i):=by
    conv=>lhs; unfold BY
    rw[hi];simp only[];rw[List.getElem?_eq_getElem O]
   have a1:i<(BD left).length:=by simpa [BD] using O
   have hF:Ij (left,m,out)=some (.inr (left.eraseIdx i,DQ m left[i].id,out++[left[i]])):=by
    unfold Ij;rw[if_pos (by simp; omega)];simp only[];rw[hf];simp only[bS];rw[if_neg (by simp),Ax O];simp only[bS];rw[B1 (by simp only[List.length_cons,List.length_nil]; omega)];simp only[bS];rw[AL (by omega)];unfold delL;rw[CJ ⟨⟨by omega, by omega⟩, by simp; omega, by omega⟩];simp only[bS,Int.toNat_natCast];rw[List.eraseIdx_eq_take_drop_succ]
   have a2:(left.eraseIdx i).length=n:=by rw[List.length_eraseIdx_of_lt O]; omega
   rw[Bl hF,Wn n (left.eraseIdx i) _ _ a2 (by simp; omega) (λx U=>hp x (List.mem_of_mem_eraseIdx U)) (by rw[L7]; exact hn.sublist (List.eraseIdx_sublist _ _)) (Wi _ m hk).1 (λx=>by
    rw[Wh _ _ m hk,L7];have e:(BD left)[i]=left[i].id:=by simp[BD]
    by_cases U:x=left[i].id
    ·rw[if_pos U]
     symm
     simp only[Option.getD_none,decide_eq_false_iff_not];rw[QE hn a1,e];exact λh=>h.2 U
    ·rw[if_neg U,hm]
     congr 1
     rw[QE hn a1,e]
     simp[U]),hc]
   by_cases hq:(BY n (left.eraseIdx i)).length=n
   ·rw[if_pos hq,if_pos (by simp[hq]),List.append_assoc]; rfl
   ·rw[if_neg hq,if_neg (by simp[hq])]
def CA (l:List Ab):List Bg:=srtG Kr cfN (l.map nmd)
theorem G9 (l:List Ab):(CA l).Perm (l.map nmd):=Mq Kr cfN swoN _
theorem Wo (l:List Ab):(CA l).Pairwise λx y=>kd x.id<=kd y.id:=(Tm Kr cfN swoN (l.map nmd)).imp λ{a b} h=>by
 have:=ltN b a
 unfold ltOf at this;rw[decide_eq_false h] at this
 have:=(decide_eq_false_iff_not.1 this.symm)
 omega
theorem Om (l:List Ab):(CA l).length=l.length:=by rw[(G9 l).length_eq,List.length_map]
def Cw (l:List Ab):List Bg × Int :=
 if 60<l.length then ([],4) else if DG l≠0 then ([],DG l) else if ¬ (BD (CA l)).Nodup then ([],14) else if (BY l.length (CA l)).length=l.length then (BY l.length (CA l),0) else ([],36)
theorem Wp (l:List Ab) (hw:wfO l):Kw l=some (Cw l):=by
 unfold Kw Cw;by_cases a1:60<l.length
 ·rw[if_pos (by simp; omega),if_pos a1]
 ·rw[if_neg (by simp; omega),if_neg a1];have h0:=Wl l hw (by omega) l [] rfl;simp only[List.map_nil,List.length_nil] at h0;rw[show ((0:Nat):Int)=0 from rfl] at h0;rw[h0];by_cases U:DG l=0
  ·rw[if_pos U,if_neg (by simp[U])];simp only[DL];have hs:Ni (l.map nmd)=some (CA l):=by
    unfold Ni;rw[CJ (by simp; omega)];rfl
   rw[hs];simp only[bS];have a2:=Om l;obtain⟨r,h1,O⟩:=Wm (CA l) (by omega) (CA l) [] [] rfl (by simp) (by simp[BD]) (λx=>by simp[Bv,BD]);simp only[List.length_nil] at h1;rw[show ((0:Nat):Int)=0 from rfl] at h1;rw[h1];rcases O with ⟨rfl,O⟩ | ⟨m,rfl,O,h3,h4⟩
   ·rw[if_pos O]; rfl
   ·rw[if_neg (λh=>h O)];simp only[DL];have hp:∀ x∈CA l,x.o.Preds.length<=4:=λx hx=>by
     obtain⟨o,ho,rfl⟩:=List.mem_map.1 ((G9 l).mem_iff.1 hx);exact(DE ((HD l).1 U o ho)).1
    rw[Wn l.length (CA l) m [] a2 (by simp; omega) hp O h3 h4];by_cases hq:(BY l.length (CA l)).length=l.length
    ·rw[if_pos hq,if_pos hq]; rfl
    ·rw[if_neg hq,if_neg hq]; rfl
  ·rw[if_neg U,if_pos U]; rfl
end
section
theorem Wq (l:List ID) (x:ID) (hl:l.length<=9223372036854775806):∀ (rest pre:List ID),l=pre++rest->iter (FQ l x) (pre.length:Int)=some (if x∈rest then .inl ((pre.length+rest.idxOf x:Nat):Int) else .inr ())
 | [],pre,e=>by
  refine B2 ?_;subst e;unfold FQ;rw[if_neg (by simp)]
  simp
 | c::rest,pre,e=>by
  have O:pre.length<l.length:=by rw[e]; simp
  have a1:l[pre.length]'O=c:=by subst e; simp
  have hF:FQ l x (pre.length:Int)=if decide (c=x) then some (.inl (.inl (pre.length:Int))) else some (.inr ((pre.length+1:Nat):Int)):=by
   unfold FQ;rw[if_pos (by simpa using O),Ax O,a1,AL (by omega)];simp only[bS]
  by_cases U:c=x
  ·rw[decide_eq_true U,if_pos rfl] at hF;rw[B2 hF,if_pos (by simp[U])];simp[U]
  ·rw[decide_eq_false U,if_neg (by simp)] at hF;have ih:=Wq l x hl rest (pre++[c]) (by simp[e]);simp only[List.length_append,List.length_cons,List.length_nil,Nat.zero_add] at ih;rw[Bl hF,ih];by_cases hx:x∈rest
   ·have hi:(c::rest).idxOf x=rest.idxOf x+1:=by
     rw[List.idxOf_cons, show (c==x)=false by simpa using U]; rfl
    rw[if_pos hx,if_pos (by simp[hx]),hi]
    congr 3; omega
   ·rw[if_neg hx,if_neg (by simp[hx]; exact λe=>U e.symm)]
theorem II (l:List ID) (x:ID) (U:l.length<=9223372036854775806):EK l x=some (if x∈l then (l.idxOf x:Int) else -1):=by
 have h:=Wq l x U l [] rfl;unfold EK;rw[show (0:Int)=(([]:List ID).length:Int) from rfl,h];by_cases O:x∈l
 ·rw[if_pos O,if_pos O]; simp[or_l]
 ·rw[if_neg O,if_neg O]; rfl
theorem Wr {F:Int->Option (Sum (Sum Bool Unit) Int)} (n:Nat) (q:Nat->Bool) (U:∀ i,i<n->F (i:Int)=if q i then some (.inr ((i+1:Nat):Int)) else some (.inl (.inl false))) (h2:F (n:Int)=some (.inl (.inr ()))):iter F 0=some (if (List.range n).all q then .inr () else .inl false):=by
 have key:∀ k i,n - i=k->i<=n->iter F (i:Int)=some (if (List.range' i k).all q then .inr () else .inl false):=by
  intro k
  induction k with
  | zero =>
   intro i hk hi
   have:i=n:=by omega
   subst this;rw[B2 h2]; rfl
  | succ k ih =>
   intro i hk hi;have hF:=U i (by omega);rw[List.range'_succ,List.all_cons]
   cases O:q i with
   | true =>
    rw[O,if_pos rfl] at hF;rw[Bl hF,ih (i+1) (by omega) (by omega),Bool.true_and]
   | false =>
    rw[O,if_neg (by simp)] at hF;rw[B2 hF]; simp
 have:=key n 0 (by omega) (by omega)
 rw[List.range_eq_range']; exact this
theorem L8 {α β:Type} {F:List β × Int->Option (Sum (List β) (List β × Int))} (l:List α) (g:α->List β) (s0:List β) (U:∀ i (h:i<l.length),F (s0++(l.take i).flatMap g,(i:Int))=some (.inr (s0++(l.take i).flatMap g++g l[i],((i+1:Nat):Int)))) (h2:F (s0++l.flatMap g,(l.length:Int))=some (.inl (s0++l.flatMap g))):iter F (s0,0)=some (s0++l.flatMap g):=by
 have O:=Ck (F:=F) (b:=s0++l.flatMap g) l.length (λi=>(s0++(l.take i).flatMap g,(i:Int))) (λi hi=>by
  rw[U i hi]
  simp only[VA hi,List.flatMap_append,List.flatMap_cons,List.flatMap_nil,List.append_nil,List.append_assoc]) (by simpa using h2)
 simpa using O
theorem IJ {α β:Type} (f:α->β) (l:List α):(l.flatMap λx=>[f x])=l.map f:=by
 induction l with
 | nil=>rfl
 | cons a l O=>rw[List.flatMap_cons,O]; rfl
theorem QF (l:List Ab) (hw:wfO l) (hl:l.length<=1000) (U:∀ o∈l,BK o=0):Il l=some (l.map oid):=by
 unfold Il
 have:=L8 (F:=Nr l) l (λo=>[oid o]) [] (λi hi=>by
  have O:=List.getElem_mem hi;unfold Nr;rw[if_pos (by simpa using hi)];simp only[];rw[Ax hi];simp only[bS];rw[V2 _ (U _ O) (hw _ O).1];simp only[bS];rw[B1 (by simp only[List.nil_append,IJ,List.length_map,List.length_take,List.length_cons,List.length_nil]; omega)];simp only[bS]
  rw[AL (by omega)]; rfl) (by
  unfold Nr
  rw[if_neg (by simp)])
 rw[this,IJ]; rfl
theorem Ws (l:List Ab) (hw:wfO l) (hl:l.length<=60):∀ rest pre:List Ab,l=pre++rest->iter (KB l) (pre.length:Int)=some (if DG rest=0 then .inr () else .inl (DG rest))
 | [],pre,e=>by
  subst e;refine B2 ?_;unfold KB;rw[if_neg (by simp)];simp[DG]
 | o::rest,pre,e=>by
  have O:pre.length<l.length:=by rw[e]; simp
  have a1:l[pre.length]'O=o:=by subst e; simp
  obtain⟨w1,w2⟩:=hw o (by rw[e]; simp)
  have U:DG (o::rest)=if BK o=0 then DG rest else BK o:=rfl
  have hF:KB l (pre.length:Int)=if BK o=0 then some (.inr ((pre.length+1:Nat):Int)) else some (.inl (.inl (BK o))):=by
   unfold KB;rw[if_pos (by simpa using O),Ax O,a1];simp only[bS];rw[UT o w2];simp only[bS];by_cases h:BK o=0
   ·rw[if_pos h,if_neg (by simp[h]),AL (by omega)]
   ·rw[if_neg h,if_pos (by simpa using h)]
  by_cases h:BK o=0
  ·rw[if_pos h] at hF;have ih:=Ws l hw hl rest (pre++[o]) (by simp[e]);simp only[List.length_append,List.length_cons,List.length_nil,Nat.zero_add] at ih;rw[Bl hF,ih,U,if_pos h]
  ·rw[if_neg h] at hF;rw[B2 hF,U,if_neg h,if_neg h]
theorem z17p (names:List ID) (hl:names.length<=60):iter Io (names,0)=some (if names.Nodup then .inr () else .inl 14):=by
 have key:∀ rest pre:List ID,names=pre++rest->pre.Nodup->iter Io (names,(pre.length:Int))=some (if names.Nodup then .inr () else .inl 14)
  := by
  intro rest
  induction rest with
  | nil =>
   intro pre e hn;rw[List.append_nil] at e;subst e;rw[if_pos hn];refine B2 ?_;unfold Io;rw[if_neg (by simp)]
  | cons c rest ih =>
   intro pre e hn;have U:pre.length<names.length:=by rw[e]; simp
   have a1:names[pre.length]'U=c:=by subst e; simp
   have a2:(names.idxOf c:Int)<pre.length↔c∈pre:=by
    rw[e,List.idxOf_append];by_cases O:c∈pre
    ·rw[if_pos O]
     have:=List.idxOf_lt_length_of_mem O
     constructor
     ·intro _; exact O
     ·intro _; omega
    ·rw[if_neg O]
     constructor
     ·intro h; omega
     ·intro h; exact absurd h O
   have hF:Io (names,(pre.length:Int))=if decide (c∈pre) then some (.inl (.inl 14)) else some (.inr (names,((pre.length+1:Nat):Int))):=by
    unfold Io;rw[if_pos (by simpa using U)];simp only[];rw[Ax U,a1];simp only[bS];rw[II names c (by omega),if_pos (by rw[e]; simp)]
    simp only[bS];rw[decide_eq_decide.2 a2,AL (by omega)]
   by_cases O:c∈pre
   ·rw[decide_eq_true O,if_pos rfl] at hF;rw[B2 hF,if_neg];intro h;rw[e,List.nodup_append] at h;exact h.2.2 c O c (by simp) rfl
   ·rw[decide_eq_false O,if_neg (by simp)] at hF
    have:=ih (pre++[c]) (by simp[e]) (by
     rw[List.nodup_append]
     exact⟨hn, by simp, λa ha b hb=>by simp only[List.mem_singleton] at hb; subst hb; exact λe=>O (e ▸ ha)⟩)
    simp only[List.length_append,List.length_cons,List.length_nil,Nat.zero_add] at this;rw[Bl hF,this]
 exact key names [] rfl (by simp)
def zO:Ab:=⟨0,[],0,⟨0,[],⟨0,0,0,[]⟩⟩,⟨0,0⟩⟩
def opJ (l:List Ab) (j:Nat):Ab:=l.getD j zO
theorem F4 {l:List Ab} {j:Nat} (h:j<l.length):opJ l j=l[j]:=by unfold opJ; rw[List.getD_eq_getElem?_getD,List.getElem?_eq_getElem h]; rfl
def frK (l:List Ab) (f:Nat->Bool) (k:Nat):Bool:=(List.range l.length).all λi=>!(f i&&decide (oid (opJ l i)∈(opJ l k).Preds))
theorem z13y (l:List Ab) (hl:l.length<=60) (f:Nat->Bool) (o:Ab) (ho:o.Preds.length<=4):Nt o (l.map oid) (tab l.length f)=some ((List.range l.length).all λi=>!(f i&&decide (oid (opJ l i)∈o.Preds))):=by
 unfold Nt
 have h:=Wr (F:=Ns o (l.map oid) (tab l.length f)) l.length (λi=>!(f i&&decide (oid (opJ l i)∈o.Preds))) (λi hi=>by
  unfold Ns;rw[if_pos (by simpa using hi),Ej hi,Ax (by simpa using hi)];simp only[bS,List.getElem_map];rw[<- F4 hi]
  cases hf:f i with
  | false=>rw[if_neg (by simp),AL (by omega)]; simp
  | true =>
   rw[if_pos rfl,II _ _ (by omega)];simp only[bS];by_cases O:oid (opJ l i)∈o.Preds
   ·rw[if_pos O,if_pos (by simp),if_neg (by simp[O])]
   ·rw[if_neg O,if_neg (by simp),if_pos (by simp[O]),AL (by omega)]) (by
  unfold Ns
  rw[if_neg (by simp)])
 rw[h]
 cases (List.range l.length).all λi=>!(f i&&decide (oid (opJ l i)∈o.Preds)) with
 | true=>rfl
 | false=>rfl
def cnd (l:List Ab) (f:Nat->Bool) (k:Nat):Bool:=f k&&frK l f k
def Bst (l:List Ab) (f:Nat->Bool) (i:Nat) (b:Int):Prop :=
 (b = -1/\∀ k,k<i->cnd l f k=false)\/∃ j:Nat,b=(j:Int)/\j<i/\cnd l f j=true/\∀ k,k<i->cnd l f k=true->kd (oid (opJ l j))<=kd (oid (opJ l k))
theorem Wt (l:List Ab) (hl:l.length<=60) (hp:∀ o∈l,o.Preds.length<=4) (f:Nat->Bool) (out:List Int):∃ b,iter (Im l (l.map oid) (tab l.length f,out)) (-1,0)=some b/\Bst l f l.length b:=by
 refine D9 (F:=Im l (l.map oid) (tab l.length f,out)) l.length (λi s=>s.2=(i:Int)/\Bst l f i s.1) (λb=>Bst l f l.length b) (λi s hi hs=>?_) (λs hs=>?_) (-1,0) 0 (Nat.zero_le _) ⟨rfl,.inl ⟨rfl, λk hk=>by omega⟩⟩
 ·obtain⟨b,i'⟩:=s;obtain⟨h1,h2⟩:=hs;simp only at h1 h2;subst h1;have a2:(opJ l i).Preds.length<=4:=by rw[F4 hi]; exact hp _ (List.getElem_mem hi)
  have a6:=z13y l hl f (opJ l i) a2;have hF:Im l (l.map oid) (tab l.length f,out) (b,(i:Int))=if cnd l f i&&(decide (b<0) || decide (kd (oid (opJ l i))<kd (oid (opJ l b.toNat)))) then some (.inr ((i:Int),((i+1:Nat):Int))) else some (.inr (b,((i+1:Nat):Int))):=by
   unfold Im;rw[if_pos (by simpa using hi)];simp only[];rw[Ej hi];simp only[bS]
   cases hf:f i with
   | false =>
    rw[if_neg (by simp)];simp only[bS];rw[if_neg (by simp),if_neg (by simp[cnd,hf]),AL (by omega)]
   | true =>
    rw[if_pos rfl,Ax hi];simp only[bS];rw[<- F4 hi,a6];simp only[bS];have hc:cnd l f i=(List.range l.length).all λi_1=>!(f i_1&&decide (oid (opJ l i_1)∈(opJ l i).Preds)):=by unfold cnd frK; rw[hf]; rfl
    rw[<- hc]
    cases cnd l f i with
    | false =>
     rw[if_neg (by simp)];simp only[bS];rw[if_neg (by simp),if_neg (by simp),AL (by omega)]
    | true =>
     rw[if_pos rfl];rcases h2 with ⟨rfl,h3⟩ | ⟨j,rfl,hj,h3,h4⟩
     ·rw[if_pos (by simp)];simp only[bS];rw[if_pos trivial,if_pos (by simp),AL (by omega)]
     ·rw[if_neg (by simp),Ax (by simpa using hi),Ax (by simp; omega)];simp only[bS,List.getElem_map];rw[TK];simp only[bS];rw[JZ,<- F4 hi,<- F4 (by omega)];simp only[Int.toNat_natCast,Bool.true_and];rw[decide_eq_false (by omega:¬ ((j:Int)<0)),Bool.false_or,AL (by omega)]
  refine⟨_,hF.trans (by rw[<- apply_ite some,<- apply_ite Sum.inr]),?_⟩;by_cases hc:cnd l f i=true
  ·rcases h2 with ⟨rfl,h3⟩ | ⟨j,rfl,hj,h3,h4⟩
   ·rw[hc,if_pos (by simp)];refine⟨rfl,.inr ⟨i,rfl, by omega,hc, λk hk O=>?_⟩⟩;by_cases U:k=i
    ·rw[U]; exact Nat.le_refl _
    ·rw[h3 k (by omega)] at O; cases O
   ·by_cases a1:kd (oid (opJ l i))<kd (oid (opJ l j))
    ·rw[hc,if_pos (by simp[a1])];refine⟨rfl,.inr ⟨i,rfl, by omega,hc, λk hk O=>?_⟩⟩;by_cases U:k=i
     ·rw[U]; exact Nat.le_refl _
     ·have:=h4 k (by omega) O; omega
    ·rw[hc,if_neg (by simp[a1])];refine⟨rfl,.inr ⟨j,rfl, by omega,h3, λk hk O=>?_⟩⟩;by_cases U:k=i
     ·rw[U]; omega
     ·exact h4 k (by omega) O
  ·rw[Bool.not_eq_true] at hc;rw[hc,if_neg (by simp)];refine⟨rfl,?_⟩;rcases h2 with ⟨h2,h3⟩ | ⟨j,h2,hj,h3,h4⟩
   ·refine .inl ⟨h2, λk hk=>?_⟩;by_cases U:k=i
    ·rw[U]; exact hc
    ·exact h3 k (by omega)
   ·refine .inr ⟨j,h2, by omega,h3, λk hk O=>?_⟩;by_cases U:k=i
    ·rw[U,hc] at O; cases O
    ·exact h4 k (by omega) O
 ·obtain⟨b,i'⟩:=s;obtain⟨h1,h2⟩:=hs;simp only at h1 h2;subst h1;refine⟨b,?_,h2⟩;unfold Im;rw[if_neg (by simp)]
def nmJ (l:List Ab) (j:Nat):Bg:=nmd (opJ l j)
theorem z10g (n:Nat) (f:Nat->Bool) {j:Nat} (U:j<n) (hf:f j=true):((List.range n).filter f).Perm (j::(List.range n).filter λi=>f i&&!decide (i=j)):=by
 have hm:j∈(List.range n).filter f:=List.mem_filter.2 ⟨by simpa using U,hf⟩;have hn:((List.range n).filter f).Nodup:=List.Pairwise.filter _ List.nodup_range;refine(List.perm_cons_erase hm).trans (List.Perm.cons _ (List.Perm.of_eq ?_));rw[hn.erase_eq_filter,List.filter_filter]
 apply List.filter_congr
 intro x _;by_cases O:x=j
 ·simp[O]
 ·simp[O]
theorem z1e6 {l:List Bg} (O:l.Pairwise λx y=>kd x.id<=kd y.id) {p q:Nat} (U:p<l.length) (hq:q<l.length) (h:p<=q):kd l[p].id<=kd l[q].id:=by
 by_cases e:p=q
 ·subst e; exact Nat.le_refl _
 ·exact List.pairwise_iff_getElem.1 O p q U hq (by omega)
theorem Wu {α:Type} (l:List α) (i:Nat) (hi:i<l.length):(l[i]::l.eraseIdx i).Perm l:=by
 rw[List.eraseIdx_eq_take_drop_succ];refine List.perm_middle.symm.trans (List.Perm.of_eq ?_);rw[<- List.drop_eq_getElem_cons hi,List.take_append_drop]
theorem z19a (l:List Ab) (hl:l.length<=60) (hp:∀ o∈l,o.Preds.length<=4) (hn:(l.map oid).Nodup):∀ (m:Nat) (f:Nat->Bool) (left:List Bg) (out:List Nat),left.length=m->out.length+m<=60 ->
  left.Perm (((List.range l.length).filter f).map (nmJ l))->left.Pairwise (λx y=>kd x.id<=kd y.id) ->
  ∃ js:List Nat,iter (In l (l.map oid)) (tab l.length f,il out)=some (il (out++js))/\(∀ j∈js,j<l.length)/\BY m left=js.map (nmJ l):=by
 intro m
 induction m with
 | zero =>
  intro f left out ac ho a1 hs;obtain⟨b,hb,hB⟩:=Wt l hl hp f (il out);have ad:∀ k,k<l.length->f k=false:=λk hk=>by
   by_cases h:f k=true
   ·have:nmJ l k∈left:=a1.mem_iff.2 (List.mem_map.2 ⟨k,List.mem_filter.2 ⟨by simpa using hk,h⟩,rfl⟩)
    rw[List.eq_nil_of_length_eq_zero ac] at this; cases this
   ·simpa using h
  rcases hB with ⟨rfl,-⟩ | ⟨j,rfl,hj,h3,-⟩
  ·refine⟨[],?_, by simp,rfl⟩;rw[List.append_nil];refine B2 ?_;unfold In;rw[hb];simp only[bS];rw[if_pos (by simp)]
  ·unfold cnd at h3;rw[ad j hj] at h3; cases h3
 | succ m ih =>
  intro f left out ac ho a1 hs;obtain⟨b,hb,hB⟩:=Wt l hl hp f (il out);have a6:∀ x,x∈left↔∃ k,k<l.length/\f k=true/\x=nmJ l k:=λx=>by
   rw[a1.mem_iff,List.mem_map]
   constructor
   ·rintro⟨k,hk,rfl⟩
    rw[List.mem_filter] at hk;exact⟨k, by simpa using hk.1,hk.2,rfl⟩
   ·rintro⟨k,U,h2,rfl⟩
    exact⟨k,List.mem_filter.2 ⟨by simpa using U,h2⟩,rfl⟩
  have ae:∀ y:ID,y∈BD left↔∃ k,k<l.length/\f k=true/\y=oid (opJ l k):=λy=>by
   unfold BD;rw[List.mem_map]
   constructor
   ·rintro⟨x,hx,rfl⟩
    obtain⟨k,U,h2,rfl⟩:=(a6 x).1 hx;exact⟨k,U,h2,rfl⟩
   ·rintro⟨k,U,h2,rfl⟩
    exact⟨nmJ l k,(a6 _).2 ⟨k,U,h2,rfl⟩,rfl⟩
  have a2:∀ k,free (BD left) (nmJ l k)=frK l f k:=λk=>by
   unfold free frK;rw[Bool.eq_iff_iff,List.all_eq_true,List.all_eq_true]
   constructor
   ·intro h i hi;have hi:i<l.length:=by simpa using hi
    cases hf:f i with
    | false=>rfl
    | true =>
     by_cases af:oid (opJ l i)∈(opJ l k).Preds
     ·have:=h _ af
      rw[decide_eq_true ((ae _).2 ⟨i,hi,hf,rfl⟩)] at this; cases this
     ·simp[af]
   ·intro h y hy;by_cases a8:y∈BD left
    ·obtain⟨i,U,h2,rfl⟩:=(ae y).1 a8
     have:=h i (by simpa using U)
     rw[h2,decide_eq_true (show oid (opJ l i)∈(opJ l k).Preds from hy)] at this; cases this
    ·simp[a8]
  rcases hB with ⟨rfl,ad⟩ | ⟨j,rfl,hj,O,aj⟩
  ·refine⟨[],?_, by simp,?_⟩
   ·rw[List.append_nil];refine B2 ?_;unfold In;rw[hb];simp only[bS];rw[if_pos (by simp)]
   ·have:left.findIdx? (free (BD left))=none:=by
     rw[List.findIdx?_eq_none_iff];intro x hx;obtain⟨k,U,h2,rfl⟩:=(a6 x).1 hx;rw[a2]
     have:=ad k U
     unfold cnd at this;rw[h2] at this; simpa using this
    unfold BY;rw[this]; rfl
  ·have ah:f j=true:=by unfold cnd at O; simp at O; exact O.1
   have a8:nmJ l j∈left:=(a6 _).2 ⟨j,hj,ah,rfl⟩
   cases hi:left.findIdx? (free (BD left)) with
   | none =>
    rw[List.findIdx?_eq_none_iff] at hi;have U:=hi _ a8;rw[a2] at U;unfold cnd at O;rw[U] at O; simp at O
   | some p =>
    obtain⟨a7,ak,am⟩:=List.findIdx?_eq_some_iff_getElem.1 hi;obtain⟨k,aa,ao,ab⟩:=(a6 _).1 (List.getElem_mem a7);have ap:cnd l f k=true:=by unfold cnd; rw[ao,<- a2,<- ab,ak]; rfl
    have h5:=aj k aa ap;obtain⟨q,hq,ai⟩:=List.getElem_of_mem a8;have aq:p<=q:=by
     by_cases h:q<p
     ·have:=am q h
      rw[ai,a2] at this;unfold cnd at O;simp at O;exact absurd O.2 this
     ·omega
    have h6:=z1e6 hs a7 hq aq;rw[ai,ab] at h6;have hid:oid (opJ l k)=oid (opJ l j):=JY (Nat.le_antisymm h6 h5);have ar:k=j:=by
     have e1:(l.map oid)[k]'(by simpa using aa)=(l.map oid)[j]'(by simpa using hj):=by
      rw[List.getElem_map,List.getElem_map,<- F4 aa,<- F4 hj]; exact hid
     exact IA hn (by simpa using aa) (by simpa using hj) e1
    subst ar;have hF:In l (l.map oid) (tab l.length f,il out)=some (.inr (tab l.length (λi=>f i&&!decide (i=k)),il (out++[k]))):=by
     unfold In;rw[hb];simp only[bS];rw[if_neg (by simp),B1 (by simp only[Ei,List.length_cons,List.length_nil]; omega)];simp only[bS];rw[Ej hj];simp only[bS,Int.toNat_natCast];rw[G2 (g:=λi=>f i&&!decide (i=k)) hj (by simp) (λi hi au=>by simp[au]),O5];rfl
    have hperm2:(left.eraseIdx p).Perm (((List.range l.length).filter λi=>f i&&!decide (i=k)).map (nmJ l)):=by
     have h7:(left[p]'a7::left.eraseIdx p).Perm (nmJ l k::((List.range l.length).filter λi=>f i&&!decide (i=k)).map (nmJ l)) :=
      (Wu left p a7).trans (a1.trans ((z10g l.length f hj ah).map (nmJ l)))
     rw[ab] at h7;exact List.Perm.cons_inv h7
    obtain⟨js,h8,h9,av⟩:=ih (λi=>f i&&!decide (i=k)) (left.eraseIdx p) (out++[k]) (by rw[List.length_eraseIdx_of_lt a7]; omega) (by simp; omega) hperm2 (hs.sublist (List.eraseIdx_sublist _ _));refine⟨k::js,?_,?_,?_⟩
    ·rw[Bl hF,h8,List.append_assoc]; rfl
    ·intro x hx;rcases List.mem_cons.1 hx with e | e
     ·rw[e]; exact hj
     ·exact h9 x e
    ·unfold BY;rw[hi];simp only[];rw[List.getElem?_eq_getElem a7];simp only[];rw[av,ab]; rfl
theorem QG:∀ (n:Nat) (left:List Bg),(BY n left).length<=n
 | 0,left=>by simp[BY]
 | n+1,left=>by
  unfold BY
  split
  ·simp
  ·split
   ·simp
   ·simp only[List.length_cons]
    have:=QG n
    exact Nat.succ_le_succ (this _)
theorem GU (l:List Ab):(BD (CA l)).Perm (l.map oid):=by
 have:=(G9 l).map (λx:Bg=>x.id)
 rw[List.map_map] at this;exact this
theorem z196 (l:List Ab):(List.range l.length).map (nmJ l)=l.map nmd:=by
 apply List.ext_getElem (by simp)
 intro i h1 O;have hi:i<l.length:=by simpa using O
 simp[nmJ,F4 hi]
theorem Wv (l:List Ab) (hw:wfO l) (U:l.length<=60) (O:∀ o∈l,BK o=0) (hn:(l.map oid).Nodup):∃ js:List Nat,KA l=some (il js)/\(∀ j∈js,j<l.length)/\BY l.length (CA l)=js.map (nmJ l):=by
 have hp:∀ o∈l,o.Preds.length<=4:=λo ho=>(DE (O o ho)).1;have h0:iter (Kz l) (tab l.length (λ_=>false),0)=some (tab l.length λ_=>true):=by
  have:=Ck (F:=Kz l) (b:=tab l.length λ_=>true) l.length (λi=>(tab l.length (λk=>decide (k<i)),(i:Int))) (λi hi=>by
   unfold Kz;rw[if_pos (by simpa using hi)];simp only[];rw[Ej hi];simp only[bS,Int.toNat_natCast]
   rw[AL (by omega),G2 (g:=λk=>decide (k<i+1)) hi (by simp) (λj _ a1=>by simp; omega)]) (by
   unfold Kz;rw[if_neg (by simp)];simp only[]
   rw[Hy (g:=λ_=>true) λj hj=>by simp[hj]])
  simpa using this
 obtain⟨js,h1,h2,h3⟩:=z19a l U hp hn l.length (λ_=>true) (CA l) [] (Om l) (by simp; omega) (by
  rw[List.filter_eq_self.2 (λ_ _=>rfl),z196]; exact G9 l) (Wo l)
 refine⟨js,?_,h2,h3⟩;unfold KA;rw[QF l hw (by omega) O];simp only[bS];rw[FT (by omega) (by omega)];simp only[bS];rw[Hz,h0];simp only[bS];exact h1
theorem z119 (l:List Ab) (hw:wfO l):Nu l=some (Cw l).2:=by
 unfold Nu Cw;by_cases a1:60<l.length
 ·rw[if_pos (by simp; omega),if_pos a1]
 ·rw[if_neg (by simp; omega),if_neg a1];have h0:=Ws l hw (by omega) l [] rfl;rw[show ((([]:List Ab).length:Nat):Int)=0 from rfl] at h0;rw[h0];by_cases O:DG l=0
  ·rw[if_pos O,if_neg (by simp[O])];simp only[DL];have hc:=(HD l).1 O;rw[QF l hw (by omega) hc];simp only[bS];rw[z17p _ (by simp; omega)];have a2:(BD (CA l)).Nodup↔(l.map oid).Nodup:=(GU l).nodup_iff;by_cases U:(l.map oid).Nodup
   ·rw[if_pos U,if_neg (λh=>h (a2.2 U))];simp only[DL];obtain⟨js,h1,h2,h3⟩:=Wv l hw (by omega) hc U;rw[h1,h3];simp only[bS,Ei,List.length_map];have a6:js.length<=l.length:=by
     have:(BY l.length (CA l)).length<=l.length:=QG _ _
     rw[h3,List.length_map] at this; exact this
    by_cases hq:js.length=l.length
    ·rw[if_neg (by simp; omega),if_pos hq]
    ·rw[if_pos (by simp; omega),if_neg hq]
   ·rw[if_neg U,if_pos (λh=>U (a2.1 h))]; rfl
  ·rw[if_neg O,if_pos O]; rfl
end
section
theorem z1b1 {α:Type} [DecidableEq α] (a b:List α) (hl:a.length=b.length):(List.range a.length).all (λi=>decide (a[i]? = b[i]?))=decide (a=b):=by
 rw[Bool.eq_iff_iff,List.all_eq_true,decide_eq_true_iff]
 constructor
 ·intro h
  apply List.ext_getElem?
  intro i;by_cases hi:i<a.length
  ·simpa using h i (by simpa using hi)
  ·rw[List.getElem?_eq_none (by omega),List.getElem?_eq_none (by omega)]
 ·rintro rfl i _
  simp
theorem z1b5 (b:Bool):Bc (some (if b then Sum.inr () else Sum.inl false)) (λ_=>some true)=some b:=by cases b <;> rfl
theorem QH (a b:List UInt8) (hb:a.length<=9223372036854775806):Ih a b=some (decide (a=b)):=by
 unfold Ih;by_cases O:a.length=b.length
 ·rw[if_neg (by simp[O]),Wr a.length (λi=>decide (a[i]? = b[i]?)) (λi hi=>by
   unfold PK;rw[if_pos (by simpa using hi),Ax hi,Ax (by omega),List.getElem?_eq_getElem hi,List.getElem?_eq_getElem (by omega),AL (by omega)];simp only[bS]
   by_cases h:a[i]=b[i] <;> simp[h]) (by unfold PK; rw[if_neg (by simp)]),z1b1 a b O]
  exact z1b5 _
 ·rw[if_pos (by simp; omega),decide_eq_false (λe=>O (by rw[e]))]
theorem z13q (o:Ab) (h:o.Preds.length<=1000):Nv o=some o:=by
 unfold Nv;rw[B1 (by simp only[List.length_nil]; omega)];rfl
theorem ztk (m:List Bg) (hl:m.length<=1000):No m=some (m.map (·.o)):=by
 unfold No
 have:=L8 (F:=Nn m) m (λx=>[x.o]) [] (λi hi=>by
  unfold Nn;rw[if_pos (by simpa using hi)];simp only[];rw[Ax hi];simp only[bS];rw[B1 (by simp only[List.nil_append,IJ,List.length_map,List.length_take,List.length_cons,List.length_nil]; omega)];simp only[bS]
  rw[AL (by omega)]) (by
  unfold Nn
  rw[if_neg (by simp)])
 rw[this,IJ]; rfl
def C2 (l:List Ab):List Bg:=BY l.length (CA l)
theorem L9:∀ (n:Nat) (left:List Bg),∀ x∈BY n left,x∈left
 | 0,left,x,O=>by simp[BY] at O
 | n+1,left,x,O=>by
  unfold BY at O
  split at O
  ·simp at O
  ·rename_i i hi
   split at O
   ·simp at O
   ·rename_i y U;rcases List.mem_cons.1 O with e | e
    ·rw[e]; exact List.mem_of_getElem? U
    ·exact List.mem_of_mem_eraseIdx (L9 n _ x e)
theorem Ww (l:List Ab):∀ x∈C2 l,∃ o∈l,x=nmd o:=λx O=>by
 obtain⟨o,U,h2⟩:=List.mem_map.1 ((G9 l).mem_iff.1 (L9 _ _ x O));exact⟨o,U,h2.symm⟩
theorem z15l (l:List Ab):(C2 l).length<=l.length:=QG _ _
theorem zxp (l:List Ab) (hw:wfO l) (hl:l.length<=60) (U:∀ o∈l,BK o=0) (hn:(l.map oid).Nodup):Nx l=some ((C2 l).map (·.o)):=by
 obtain⟨js,h1,h2,h3⟩:=Wv l hw hl U hn;have a1:js.length<=60:=by
  have:=z15l l
  unfold C2 at this;rw[h3,List.length_map] at this; omega
 unfold Nx C2;rw[h1,h3];simp only[bS]
 have:=L8 (F:=Nw l (il js)) js (λj=>[opJ l j]) [] (λi hi=>by
  have O:=h2 _ (List.getElem_mem hi);unfold Nw;rw[if_pos (by simpa [Ei] using hi)];simp only[];rw[Q7 hi];simp only[bS];rw[Ax O];simp only[bS];rw[<- F4 O,z13q _ (by rw[F4 O]; have:=(DE (U _ (List.getElem_mem O))).1; omega)];simp only[bS];rw[B1 (by simp only[List.nil_append,IJ,List.length_map,List.length_take,List.length_cons,List.length_nil]; omega)];simp only[bS]
  rw[AL (by omega)]) (by
  unfold Nw
  rw[if_neg (by simp[Ei])])
 rw[this,IJ,List.map_map]; rfl
theorem Wx:∀ (n:Nat) (left:List Bg) (k:Nat) (h:k<(BY n left).length),∀ p∈((BY n left)[k]).o.Preds,p∉BD ((BY n left).drop k)
 | 0,left,k,h=>by simp[BY] at h
 | n+1,left,k,h=>by
  cases hi:left.findIdx? (free (BD left)) with
  | none =>
   have hc:BY (n+1) left=[]:=by unfold BY; rw[hi]
   rw[hc] at h; simp at h
  | some i =>
   obtain⟨O,U,-⟩:=List.findIdx?_eq_some_iff_getElem.1 hi;have hc:BY (n+1) left=left[i]'O::BY n (left.eraseIdx i):=by
    conv=>lhs; unfold BY
    rw[hi];simp only[];rw[List.getElem?_eq_getElem O]
   simp only[hc] at h ⊢
   cases k with
   | zero =>
    intro p hp a1;simp only[List.getElem_cons_zero,List.drop_zero] at hp a1;unfold free at U;rw[List.all_eq_true] at U;have h1:=U p hp
    have:p∈BD left:=by
     unfold BD at a1 ⊢;obtain⟨x,hx,e⟩:=List.mem_map.1 a1;refine List.mem_map.2 ⟨x,?_,e⟩;rcases List.mem_cons.1 hx with e | e
     ·rw[e]; exact List.getElem_mem O
     ·exact List.mem_of_mem_eraseIdx (L9 n _ x e)
    rw[decide_eq_true this] at h1; cases h1
   | succ k =>
    simp only[List.getElem_cons_succ,List.drop_succ_cons];exact Wx n _ k (by simpa using h)
theorem Wy:∀ (n:Nat) (left:List Bg),(BD left).Nodup->(BD (BY n left)).Nodup
 | 0,left,h=>by simp[BY,BD]
 | n+1,left,h=>by
  cases hi:left.findIdx? (free (BD left)) with
  | none =>
   have hc:BY (n+1) left=[]:=by unfold BY; rw[hi]
   rw[hc]; simp[BD]
  | some i =>
   obtain⟨O,a6,-⟩:=List.findIdx?_eq_some_iff_getElem.1 hi;have hc:BY (n+1) left=left[i]'O::BY n (left.eraseIdx i):=by
    conv=>lhs; unfold BY
    rw[hi];simp only[];rw[List.getElem?_eq_getElem O]
   rw[hc];have a1:i<(BD left).length:=by simpa [BD] using O
   have he:(BD (left.eraseIdx i)).Nodup:=by rw[L7]; exact h.sublist (List.eraseIdx_sublist _ _)
   show ((left[i]'O).id::BD (BY n (left.eraseIdx i))).Nodup;rw[List.nodup_cons];refine⟨λa2=>?_,Wy n _ he⟩;obtain⟨x,hx,e⟩:=List.mem_map.1 a2;have U:x.id∈BD (left.eraseIdx i):=List.mem_map.2 ⟨x,L9 n _ x hx,rfl⟩;rw[L7,QE h a1] at U;exact U.2 (by rw[e]; simp[BD])
def La (m:List Ab):Prop:=∀ k (h:k<m.length),∀ p∈m[k].Preds,p∉(m.map oid).drop k
theorem Wz (l:List Ab):La ((C2 l).map (·.o)):=λk hk p O=>by
 have U:k<(C2 l).length:=by simpa using hk
 have h:=Wx l.length (CA l) k U p (by simp only[List.getElem_map] at O; exact O);have e:(((C2 l).map (·.o)).map oid)=BD (C2 l):=by
  unfold BD;rw[List.map_map]
  apply List.map_congr_left
  intro x hx;obtain⟨o,-,rfl⟩:=Ww l x hx;rfl
 rw[e];unfold BD at h ⊢;rw[<- List.map_drop]; exact h
theorem QI {m:List Ab} (hT:La m) {k:Nat} (O:k<m.length) {p:ID} (U:p∈m[k].Preds):p∈m.map oid↔p∈(m.map oid).take k:=by
 constructor
 ·intro h;rw[<- List.take_append_drop k (m.map oid)] at h;rcases List.mem_append.1 h with h | h
  ·exact h
  ·exact absurd h (hT k O p U)
 ·exact λh=>List.mem_of_mem_take h
theorem WA {l:List ID} {k:Nat} {p:ID} (h:p∈l.take k):l.idxOf p=(l.take k).idxOf p/\(l.take k).idxOf p<k:=by
 have h1:=List.idxOf_lt_length_of_mem h;have h2:(l.take k).length<=k:=by rw[List.length_take]; omega
 refine⟨?_, by omega⟩
 conv=>lhs; rw[<- List.take_append_drop k l]
 rw[List.idxOf_append,if_pos h]
def nop (o:Ab):Ab:=⟨o.Author,[],o.Stamp,o.Act,o.Sig⟩
theorem Lb {o:Ab} (h:BK o=0):BK (nop o)=0:=by
 obtain⟨-,-,O⟩:=DE h;unfold BK;rw[if_neg (by simp[nop]),if_neg (by simp[nop,BH]), show EN (nop o)=EN o from rfl,if_pos O]
def Eo (names:List ID) (i:Nat) (p:ID):List UInt8:=if p∈names then BC (i - names.idxOf p) else 0::p.toList
def opB (names:List ID) (i:Nat) (o:Ab):List UInt8:=(BC (Dr (nop o)).length++Dr (nop o))++BC o.Preds.length++o.Preds.flatMap (Eo names i)
def Ep (m:List Ab) (i:Nat):List UInt8:=112::BC m.length++(List.range i).flatMap λk=>opB (m.map oid) k (opJ m k)
def Fi (m:List Ab):List UInt8:=Ep m m.length
theorem QJ (names:List ID) (i:Nat) (p:ID) (hi:i<=1000):(Eo names i p).length<=33:=by
 unfold Eo
 split
 ·have:=Bu (i - names.idxOf p) (by omega); omega
 ·simp
theorem Lc {α:Type} (f:α->List UInt8) (c:Nat):∀ l:List α,(∀ x∈l,(f x).length<=c)->(l.flatMap f).length<=c * l.length
 | [],_=>by simp
 | x::l,h=>by
  rw[List.flatMap_cons,List.length_append,List.length_cons,Nat.mul_add];have h1:=h x (by simp);have h2:=Lc f c l (λy O=>h y (by simp[O]));omega
theorem z1aw {o:Ab} (h:BK o=0) (hI:inI o.Act.Value.Num) (names:List ID) (i:Nat) (hi:i<=1000):(opB names i o).length<=600:=by
 have h1:=KU (Lb h) hI;have h2:=Bu (Dr (nop o)).length (by omega);have h3:=(DE h).1;have h4:=Bu o.Preds.length (by omega);have h5:=Lc (Eo names i) 33 o.Preds (λx _=>QJ names i x hi);unfold opB;simp only[List.length_append];omega
theorem QK {m:List Ab} (hw:wfO m) (hl:m.length<=60) (hc:∀ o∈m,BK o=0) {i:Nat} (hi:i<=m.length):(Ep m i).length<=10+600 * i:=by
 have h1:=Bu m.length (by omega)
 have h2:=Lc (λk=>opB (m.map oid) k (opJ m k)) 600 (List.range i) (λk O=>by
  have O:k<i:=by simpa using O
  rw[F4 (by omega)];have U:=List.getElem_mem (show k<m.length by omega)
  exact z1aw (hc _ U) (hw _ U).1 _ _ (by omega))
 rw[List.length_range] at h2;unfold Ep;simp only[List.length_append,List.length_cons];omega
theorem WB (m:List Ab) {i:Nat} (hi:i<m.length):Ep m (i+1)=Ep m i++opB (m.map oid) i m[i]:=by
 unfold Ep;rw[List.range_succ,List.flatMap_append,List.flatMap_cons,List.flatMap_nil,List.append_nil,F4 hi,List.append_assoc]
theorem WC {i j:Nat} (h:j<=i) (hi:i<=1000):(UInt64.ofInt (w64 ((i:Int) - (j:Int)))).toNat=i - j:=by
 rw[B6 (by omega) (by omega), show (i:Int) - (j:Int)=((i - j:Nat):Int) by omega,ES (by omega)]
theorem z107 (m:List Ab) (hw:wfO m) (hl:m.length<=60) (hc:∀ o∈m,BK o=0) (hT:La m):NA m=some (Fi m):=by
 unfold NA;rw[QF m hw (by omega) hc];simp only[bS];rw[Ey,ES (by omega)];simp only[bS];have a6:=Bu m.length (by omega);rw[B1 (by simp only[List.length_cons,List.length_nil]; omega)];simp only[bS]
 have U:=Ck (F:=Nz m) (b:=Fi m) m.length (λi=>(m.map oid,Ep m i,(i:Int))) (λi hi=>by
  have hm:=List.getElem_mem hi;have a1:=hc _ hm;have a2:=hw _ hm;have a7:=QK hw hl hc (Nat.le_of_lt hi);have a8:=KU (Lb a1) a2.1;have h4:=(DE a1).1;have aa:=Bu (Dr (nop m[i])).length (by omega);have ab:=Bu m[i].Preds.length (by omega);unfold Nz;rw[if_pos (by simpa using hi)];simp only[];rw[Ax hi];simp only[bS];rw[show (⟨m[i].Author,[],m[i].Stamp,m[i].Act,m[i].Sig⟩:Ab)=nop m[i] from rfl,UZ _ (Lb a1) a2.1]
  simp only[bS];rw[JW _ (by omega)];simp only[bS];rw[B1 (by simp only[List.length_append]; omega)];simp only[bS];rw[Ey,ES (by omega)];simp only[bS];rw[B1 (by simp only[List.length_append]; omega)];simp only[bS]
  have inner:=L8 (F:=Ny m (m.map oid,Ep m i,(i:Int))) m[i].Preds (Eo (m.map oid) i) (Ep m i++(BC (Dr (nop m[i])).length++Dr (nop m[i]))++BC m[i].Preds.length) (λj hj=>by
   have ac:=Lc (Eo (m.map oid) i) 33 (m[i].Preds.take j) (λx _=>QJ _ _ _ (by omega));have ad:(m[i].Preds.take j).length<=4:=by rw[List.length_take]; omega
   unfold Ny;simp only[];rw[Ax hi];simp only[bS];rw[if_pos (by simpa using hj),Ax hj];simp only[bS];rw[II _ _ (by simp; omega)];simp only[bS];by_cases O:m[i].Preds[j]∈m.map oid
   ·have ht:=(QI hT hi (List.getElem_mem hj)).1 O;obtain⟨e1,e2⟩:=WA ht;rw[if_pos O,if_pos (by simp),Ey,WC (by omega) (by omega)];simp only[bS];have hnl2:=Bu (i - (m.map oid).idxOf m[i].Preds[j]) (by omega);rw[B1 (by simp only[List.length_append]; omega)];simp only[bS];rw[AL (by omega), show Eo (m.map oid) i m[i].Preds[j]=BC (i - (m.map oid).idxOf m[i].Preds[j]) by unfold Eo; rw[if_pos O]]
   ·rw[if_neg O,if_neg (by simp)];rw[B1 (by simp only[List.length_append,List.length_cons,List.length_nil]; omega)];simp only[bS];rw[B1 (by simp only[List.length_append,List.length_cons,List.length_nil,Vector.length_toList]; omega)];simp only[bS];rw[AL (by omega), show Eo (m.map oid) i m[i].Preds[j]=0::m[i].Preds[j].toList by unfold Eo; rw[if_neg O]]
    simp) (by
   unfold Ny;simp only[];rw[Ax hi];simp only[bS]
   rw[if_neg (by simp)])
  rw[inner];simp only[bS];rw[AL (by omega),WB m hi];unfold opB
  simp only[List.append_assoc]) (by
  unfold Nz;rw[if_neg (by simp)]
  rfl)
 have e0:Ep m 0=[112]++BC m.length:=by unfold Ep; simp
 simp only[e0] at U;rw[show ((0:Nat):Int)=0 from rfl] at U;rw[U]; rfl
theorem z17j (m:List (ID × Int)) (W:List ID) (h:∀ x,Bv m x=if x∈W then some (W.idxOf x:Int) else none) (y:ID) (U:y∉W):∀ x,Bv (D4 m y (W.length:Int)) x=if x∈W++[y] then some ((W++[y]).idxOf x:Int) else none:=λx=>by
 rw[KZ];by_cases O:x=y
 ·rw[if_pos O,if_pos (by simp[O]),O,List.idxOf_append,if_neg U]; simp
 ·rw[if_neg O,h,List.idxOf_append];by_cases hxW:x∈W
  ·rw[if_pos hxW,if_pos (by simp[hxW]),if_pos hxW]
  ·rw[if_neg hxW,if_neg (by simp[hxW,O])]
theorem z162 (l:List Ab) (hw:wfO l):Hu l=some (if (Cw l).2=0 then Fi ((Cw l).1.map (·.o)) else [],(Cw l).2):=by
 unfold Hu;rw[Wp l hw];simp only[bS];by_cases U:(Cw l).2=0
 ·have hA:Cw l=(C2 l,0)/\l.length<=60/\(∀ o∈l,BK o=0)/\(l.map oid).Nodup/\(C2 l).length=l.length:=by
   unfold Cw at U ⊢
   split at U
   ·cases U
   ·rename_i h1
    split at U
    ·rename_i h2; exact absurd U h2
    ·rename_i h2
     split at U
     ·cases U
     ·rename_i h3
      split at U
      ·rename_i h4;refine⟨?_, by omega,(HD l).1 (by simpa using h2),?_,h4⟩
       ·rw[if_neg h1,if_neg h2,if_neg h3,if_pos h4]; rfl
       ·exact(GU l).nodup_iff.1 (Classical.not_not.1 h3)
      ·cases U
  obtain⟨e,hl,hc,hn,ae⟩:=hA;rw[e];simp only[if_true];rw[if_neg (by simp),EZ,ES (by omega)];simp only[bS];have hm:∀ x∈C2 l,BK x.o=0/\(inI x.o.Act.Value.Num/\x.o.Act.Value.Text.length<=9223372036854775807)/\x.id=oid x.o:=λx O=>by
   obtain⟨o,ho,rfl⟩:=Ww l x O;exact⟨hc o ho,hw o ho,rfl⟩
  generalize hM:(C2 l).map (·.o)=M;have hMl:M.length=(C2 l).length:=by rw[<- hM,List.length_map]
  have hMi:M.map oid=BD (C2 l):=by
   rw[<- hM,List.map_map];unfold BD;exact List.map_congr_left λx O=>((hm x O).2.2).symm
  have hMg:∀ i (h:i<(C2 l).length),M[i]'(by omega)=(C2 l)[i].o:=λi h=>by simp[<- hM]
  have hMc:∀ o∈M,BK o=0:=λo ho=>by
   rw[<- hM] at ho;obtain⟨x,O,rfl⟩:=List.mem_map.1 ho;exact(hm x O).1
  have hMw:wfO M:=λo ho=>by
   rw[<- hM] at ho;obtain⟨x,O,rfl⟩:=List.mem_map.1 ho;exact(hm x O).2.1
  have hMn:(M.map oid).Nodup:=by
   rw[hMi];have h1:∀ x∈C2 l,x∈CA l:=L9 _ _;exact Wy l.length (CA l) ((GU l).nodup_iff.2 hn)
  have hT:La M:=by rw[<- hM]; exact Wz l
  have af:=Bu M.length (by omega);rw[<- hMl,B1 (by simp only[List.length_cons,List.length_nil]; omega)];simp only[bS]
  have aa:=D9 (F:=Nl (C2 l,0)) M.length (λi s=>s.1=Ep M i/\s.2.2=(i:Int)/\∀ x,Bv s.2.1 x=if x∈(M.map oid).take i then some (((M.map oid).take i).idxOf x:Int) else none) (λb=>b=.inr (Fi M)) (λi s hi hs=>by
   obtain⟨s1,s2,s3⟩:=s;obtain⟨h1,h2,h3⟩:=hs;simp only at h1 h2 h3;subst h1 h2;have a2:i<(C2 l).length:=by omega
   have O:=hMg i a2;have a8:=List.getElem_mem hi;have a6:=hMc _ a8;have a7:=hMw _ a8;have ah:=QK hMw (by omega) hMc (Nat.le_of_lt hi);have ai:=KU (Lb a6) a7.1;have h4:=(DE a6).1;have aj:=Bu (Dr (nop M[i])).length (by omega);have ak:=Bu M[i].Preds.length (by omega);have ab:(C2 l)[i].id=(M.map oid)[i]'(by simpa using hi):=by
    rw[List.getElem_map,O]; exact(hm _ (List.getElem_mem a2)).2.2
   have inner:=L8 (F:=Nk (Ep M i,s2,(i:Int)) (C2 l)[i]) M[i].Preds (Eo (M.map oid) i) (Ep M i++(BC (Dr (nop M[i])).length++Dr (nop M[i]))++BC M[i].Preds.length) (λj hj=>by
    have am:=Lc (Eo (M.map oid) i) 33 (M[i].Preds.take j) (λx _=>QJ _ _ _ (by omega));have ao:(M[i].Preds.take j).length<=4:=by rw[List.length_take]; omega
    unfold Nk;simp only[];rw[<- O,if_pos (by simpa using hj),Ax hj];simp only[bS];rw[h3];by_cases a1:M[i].Preds[j]∈M.map oid
    ·have ht:=(QI hT hi (List.getElem_mem hj)).1 a1;obtain⟨e1,e2⟩:=WA ht;rw[if_pos ht,if_pos (by simp)];simp only[Option.getD_some];rw[EZ,WC (by omega) (by omega)];simp only[bS];have hnl2:=Bu (i - ((M.map oid).take i).idxOf M[i].Preds[j]) (by omega);rw[B1 (by simp only[List.length_append]; omega)];simp only[bS];rw[AL (by omega), show Eo (M.map oid) i M[i].Preds[j]=BC (i - ((M.map oid).take i).idxOf M[i].Preds[j]) by unfold Eo; rw[if_pos a1,e1]]
    ·rw[if_neg (λh=>a1 ((QI hT hi (List.getElem_mem hj)).2 h)),if_neg (by simp)];rw[B1 (by simp only[List.length_append,List.length_cons,List.length_nil]; omega)];simp only[bS];rw[B1 (by simp only[List.length_append,List.length_cons,List.length_nil,Vector.length_toList]; omega)];simp only[bS];rw[AL (by omega), show Eo (M.map oid) i M[i].Preds[j]=0::M[i].Preds[j].toList by unfold Eo; rw[if_neg a1]]
     simp) (by
    unfold Nk;simp only[]
    rw[<- O,if_neg (by simp)])
   refine⟨(Ep M (i+1),D4 s2 (C2 l)[i].id (i:Int),((i+1:Nat):Int)),?_,rfl,rfl, λx=>?_⟩
   ·unfold Nl;rw[if_pos (by simp; omega)];simp only[];rw[Ax a2];simp only[bS];rw[<- O, show (⟨M[i].Author,[],M[i].Stamp,M[i].Act,M[i].Sig⟩:Ab)=nop M[i] from rfl,UY _ (Lb a6) a7.1 a7.2];simp only[bS];rw[if_neg (by simp),Mw _ (by omega)];simp only[bS];rw[if_neg (by simp),B1 (by simp only[List.length_append]; omega)];simp only[bS];rw[EZ,ES (by omega)];simp only[bS];rw[B1 (by simp only[List.length_append]; omega)]
    simp only[bS];rw[inner];simp only[bS];rw[AL (by omega),WB M hi];unfold opB;simp only[List.append_assoc]
   ·have ad:(M.map oid)[i]'(by simpa using hi)∉(M.map oid).take i:=λh=>by
     obtain⟨q,hq,e⟩:=List.getElem_of_mem h;rw[List.length_take] at hq;rw[List.getElem_take] at e
     have:=IA hMn (by omega) (by simpa using hi) e
     omega
    have ac:((M.map oid).take i).length=i:=by rw[List.length_take,List.length_map]; omega
    have:=z17j s2 _ h3 _ ad x
    rw[ac] at this
    rw[ab,this,VA (by simpa using hi)]) (λs hs=>by
   obtain⟨s1,s2,s3⟩:=s;obtain⟨h1,h2,h3⟩:=hs;simp only at h1 h2 h3;subst h1 h2;refine⟨_,?_,rfl⟩;unfold Nl;rw[if_neg (by simp; omega)]
   rfl) ([112]++BC M.length,[],0) 0 (Nat.zero_le _) ⟨by unfold Ep; simp,rfl, λx=>by simp[Bv]⟩
  obtain⟨b,hb,rfl⟩:=aa;rw[hb];rfl
 ·rw[if_neg U,if_pos (by simpa using U)]
end
section
theorem HE {l:List Ab} (O:(Cw l).2=0):Cw l=(C2 l,0)/\l.length<=60/\(∀ o∈l,BK o=0)/\(l.map oid).Nodup/\(C2 l).length=l.length:=by
 unfold Cw at O ⊢
 split at O
 ·cases O
 ·rename_i h1
  split at O
  ·rename_i U; exact absurd O U
  ·rename_i U
   split at O
   ·cases O
   ·rename_i h3
    split at O
    ·rename_i h4;refine⟨?_, by omega,(HD l).1 (by simpa using U),?_,h4⟩
     ·rw[if_neg h1,if_neg U,if_neg h3,if_pos h4]; rfl
     ·exact(GU l).nodup_iff.1 (Classical.not_not.1 h3)
    ·cases O
theorem z1a1 (l:List Ab) (hw:wfO l):Np l=some (if (Cw l).2=0 then (C2 l).map (·.o) else [],(Cw l).2):=by
 unfold Np;rw[Wp l hw];simp only[bS];by_cases O:(Cw l).2=0
 ·obtain⟨e,hl,hc,hn,a1⟩:=HE O;rw[e];simp only[if_true];rw[if_neg (by simp),ztk _ (by omega)];rfl
 ·rw[if_neg O,if_pos (by simpa using O)]
structure CanM (l M:List Ab):Prop where
 perm:M.Perm l
 topo:La M
theorem WD:∀ (n:Nat) (left:List Bg),left.length=n->(BY n left).length=n->(BY n left).Perm left
 | 0,left,h,_=>by rw[List.eq_nil_of_length_eq_zero h]; exact List.Perm.refl _
 | n+1,left,h,U=>by
  cases hi:left.findIdx? (free (BD left)) with
  | none =>
   have e:BY (n+1) left=[]:=by unfold BY; rw[hi]
   rw[e] at U; simp at U
  | some i =>
   obtain⟨O,a1,-⟩:=List.findIdx?_eq_some_iff_getElem.1 hi;have e:BY (n+1) left=left[i]'O::BY n (left.eraseIdx i):=by
    conv=>lhs; unfold BY
    rw[hi];simp only[];rw[List.getElem?_eq_getElem O]
   rw[e] at U ⊢
   have:=WD n (left.eraseIdx i) (by rw[List.length_eraseIdx_of_lt O]; omega) (by simpa using U);exact(this.cons _).trans (Wu left i O)
theorem z15f {l:List Ab} (O:(C2 l).length=l.length):(C2 l).Perm (CA l):=WD l.length (CA l) (Om l) O
theorem On {l:List Ab} (O:(C2 l).length=l.length):CanM l ((C2 l).map (·.o)):=by
 refine⟨?_,Wz l⟩;have h:=((z15f O).trans (G9 l)).map (λx:Bg=>x.o);rw[List.map_map] at h
 simpa [Function.comp_def,nmd] using h
theorem WE {l M:List Ab} (h:M.Perm l) (hw:wfO l):wfO M:=λo O=>hw o (h.mem_iff.1 O)
theorem WF (l:List Ab) (hw:wfO l):Ip l=some (if (Cw l).2=0 then Fi ((C2 l).map (·.o)) else [],(Cw l).2):=by
 unfold Ip;rw[z119 l hw];simp only[bS];by_cases O:(Cw l).2=0
 ·obtain⟨e,U,hc,hn,a1⟩:=HE O;have hM:=On a1;rw[if_neg (by simp[O]),zxp l hw U hc hn];simp only[bS];rw[z107 _ (WE hM.perm hw) (by rw[hM.perm.length_eq]; exact U) (λo ho=>hc o (hM.perm.mem_iff.1 ho)) hM.topo,O];rfl
 ·rw[if_neg O,if_pos (by simpa using O)]
theorem WG (l:List Ab) (hw:wfO l):Hu l=some (if (Cw l).2=0 then Fi ((C2 l).map (·.o)) else [],(Cw l).2):=by
 rw[z162 l hw];by_cases O:(Cw l).2=0
 ·obtain⟨e,-⟩:=HE O;rw[e]
 ·rw[if_neg O,if_neg O]
theorem QL {l:List Ab} (w:(∀ x∈l,Mt x)/\l.length<=9223372036854775807):wfO l:=λo O=>by
 obtain⟨-,-,-,h,-⟩:=w.1 o O;obtain⟨-,-,⟨-,U,-,h2,-⟩,-⟩:=h;exact⟨U,h2⟩
theorem WH {l:List Ab} (hw:wfO l) (h0:(Cw l).2=0):(Fi ((C2 l).map (·.o))).length<=36010:=by
 obtain⟨e,hl,hc,hn,O⟩:=HE h0;have hM:=On O;have U:((C2 l).map (·.o)).length<=60:=by rw[hM.perm.length_eq]; exact hl
 have:=QK (WE hM.perm hw) U (λo ho=>hc o (hM.perm.mem_iff.1 ho)) (Nat.le_refl _)
 unfold Fi;omega
end
section
def QM (M:List Ab):Prop:=(Cw M).2=0/\(C2 M).map (·.o)=M
theorem WI:∀ {l m:List Bg},l.Perm m->l.Pairwise (λx y=>kd x.id<kd y.id)->m.Pairwise (λx y=>kd x.id<kd y.id)->l=m
 | [],m,O,_,_=>(List.nil_perm.1 O).symm
 | x::l,[],O,_,_=>absurd O.length_eq (by simp)
 | x::l,y::m,O,hl,hm=>by
  obtain⟨hx,U⟩:=List.pairwise_cons.1 hl;obtain⟨hy,a1⟩:=List.pairwise_cons.1 hm;have a2:x∈y::m:=O.mem_iff.1 (List.mem_cons_self ..);have a6:y∈x::l:=O.mem_iff.2 (List.mem_cons_self ..);have e:x=y:=by
   rcases List.mem_cons.1 a2 with h | h
   ·exact h
   ·rcases List.mem_cons.1 a6 with h' | h'
    ·exact h'.symm
    ·have h1:=hy x h;have h2:=hx y h';omega
  subst e;rw[WI (List.perm_cons x |>.1 O) U a1]
theorem WJ {l:List Ab} (O:(l.map oid).Nodup):(CA l).Pairwise λx y=>kd x.id<kd y.id:=by
 have U:=Wo l;have h2:(BD (CA l)).Nodup:=(GU l).nodup_iff.2 O;have h3:(CA l).Pairwise λx y=>x.id≠y.id:=List.pairwise_map.1 h2;exact(U.and h3).imp λ{a b} h=>by
  have:kd a.id≠kd b.id:=λe=>h.2 (JY e)
  have:=h.1
  omega
theorem z16d {l M:List Ab} (O:M.Perm l) (U:(l.map oid).Nodup):CA M=CA l:=by
 have hm:(M.map oid).Nodup:=(O.map oid).nodup_iff.2 U;exact WI (((G9 M).trans (O.map nmd)).trans (G9 l).symm) (WJ hm) (WJ U)
theorem z12s {l M:List Ab} (O:M.Perm l) (h0:(Cw l).2=0):Cw M=(C2 l,0)/\C2 M=C2 l:=by
 obtain⟨e,hl,hc,hn,a1⟩:=HE h0;have hs:=z16d O hn;have U:C2 M=C2 l:=by unfold C2; rw[hs,O.length_eq]
 refine⟨?_,U⟩;have f:DG M=0:=(HD M).2 λo ho=>hc o (O.mem_iff.1 ho);have a2:(BD (CA M)).Nodup:=by rw[hs]; exact(GU l).nodup_iff.2 hn
 unfold Cw;rw[if_neg (by rw[O.length_eq]; omega),if_neg (by rw[f]; simp),if_neg (by exact λh=>h a2)]
 show (if (C2 M).length=M.length then (C2 M,0) else _)=_;rw[if_pos (by rw[U,a1,O.length_eq]),U]
theorem z174 {l:List Ab} (O:(Cw l).2=0):QM ((C2 l).map (·.o)):=by
 obtain⟨e,hl,hc,hn,U⟩:=HE O;have h:=z12s (On U).perm O;exact⟨by rw[h.1], by rw[h.2]⟩
theorem QM.write {M:List Ab} (h:QM M) (hw:wfO M):Hu M=some (Fi M,0):=by
 rw[WG M hw,h.1,if_pos rfl,h.2]
end
section
def frc {α:Type} (x:Nat) (k:Nat->α):α:=match x with
 | 0=>k 0
 | n+1=>k (n+1)
def fr32 {α:Type} (x:UInt32) (k:UInt32->α):α:=frc x.toNat λn=>k (UInt32.ofNat n)
def fW {α:Type}:List UInt32->(List UInt32->α)->α
 | [],k=>k []
 | x::l,k=>fr32 x λn=>fW l λm=>k (n::m)
end
section
variable {g:Ao} {n:Nat}
theorem z19g (G:C9 g):g.Ops.map oid=g.IDs:=by
 apply List.ext_getElem
 ·rw[List.length_map,G.e.ids]
 ·intro i O U;rw[List.length_map] at O;rw[List.getElem_map]
  have:=(G.ops i O).2
  rw[Cv U] at this;exact this
theorem WK {α:Type} (f:α->Nat):∀ l:List α,l≠[]->∃ x∈l,∀ y∈l,f x<=f y
 | [],h=>absurd rfl h
 | [x],_=>⟨x, by simp, λy O=>by rw[List.mem_singleton.1 O]; exact Nat.le_refl _⟩
 | x::z::l,_=>by
  obtain⟨y,O,U⟩:=WK f (z::l) (by simp);by_cases h:f x<=f y
  ·refine⟨x, by simp, λw hw=>?_⟩;rcases List.mem_cons.1 hw with rfl | hw
   ·exact Nat.le_refl _
   ·exact Nat.le_trans h (U w hw)
  ·refine⟨y,List.mem_cons_of_mem _ O, λw hw=>?_⟩;rcases List.mem_cons.1 hw with rfl | hw
   ·omega
   ·exact U w hw
theorem WL (rk:ID->Nat):∀ (n:Nat) (left:List Bg),left.length=n->(∀ x∈left,∀ p∈x.o.Preds,p∈BD left->rk p<rk x.id)->(BY n left).length=n
 | 0,left,_,_=>rfl
 | n+1,left,h,hr=>by
  obtain⟨x,hx,hm⟩:=WK (λx:Bg=>rk x.id) left (λe=>by rw[e] at h; simp at h);have hf:free (BD left) x=true:=by
   unfold free;rw[List.all_eq_true];intro p hp;rw[Bool.not_eq_true',decide_eq_false_iff_not];intro O;have h1:=hr x hx p hp O;unfold BD at O;obtain⟨y,hy,rfl⟩:=List.mem_map.1 O
   have:=hm y hy
   omega
  cases hi:left.findIdx? (free (BD left)) with
  | none =>
   have:=List.findIdx?_eq_none_iff.1 hi x hx
   rw[hf] at this; cases this
  | some i =>
   obtain⟨U,a1,-⟩:=List.findIdx?_eq_some_iff_getElem.1 hi;have e:BY (n+1) left=left[i]'U::BY n (left.eraseIdx i):=by
    conv=>lhs; unfold BY
    rw[hi];simp only[];rw[List.getElem?_eq_getElem U]
   rw[e,List.length_cons,WL rk n (left.eraseIdx i) (by rw[List.length_eraseIdx_of_lt U]; omega) ?_];intro y hy p hp O;refine hr y (List.mem_of_mem_eraseIdx hy) p hp ?_;rw[L7] at O;exact List.mem_of_mem_eraseIdx O
theorem WM {l:List Ab} (h6:l.length<=60) (hc:∀ o∈l,BK o=0) (hn:(l.map oid).Nodup) (rk:ID->Nat) (hr:∀ o∈l,∀ p∈o.Preds,p∈l.map oid->rk p<rk (oid o)):(Cw l).2=0:=by
 have hp:=G9 l;have O:(C2 l).length=l.length:=by
  refine WL rk l.length (CA l) (Om l) λx hx p U a1=>?_;obtain⟨o,ho,rfl⟩:=List.mem_map.1 (hp.mem_iff.1 hx);exact hr o ho p U ((GU l).mem_iff.1 a1)
 have f:DG l=0:=(HD l).2 hc;have a2:(BD (CA l)).Nodup:=(GU l).nodup_iff.2 hn;unfold Cw;rw[if_neg (by omega),if_neg (by rw[f]; simp),if_neg (by exact λh=>h a2)]
 show (if (C2 l).length=l.length then (C2 l,0) else _).2=0;rw[if_pos O]
theorem WN (G:C9 g) {i:Nat} (hi:i<g.Ops.length):oid g.Ops[i]=g.IDs[i]'(by rw[G.e.ids]; exact hi):=by
 have:=(G.ops i hi).2
 rw[Cv (by rw[G.e.ids]; exact hi)] at this; exact this
theorem WO (G:C9 g) (F:Fit g n) {o:Ab} (O:o∈g.Ops):Cz g (oid o)=some o:=by
 obtain⟨i,hi,rfl⟩:=List.getElem_of_mem O;rw[WN G hi]; exact IE F hi
theorem z14v (G:C9 g) (F:Fit g n):(Cw g.Ops).2=0:=by
 obtain⟨rk,U⟩:=Qj G F;refine WM G.e.len (λo O=>?_) (by rw[z19g G]; exact KV G.e.ri) rk (λo O p hp _=>U _ _ (WO G F O) p hp);obtain⟨i,hi,rfl⟩:=List.getElem_of_mem O;exact G3 (G.ops i hi).1
theorem QN (l:List ID) (x:ID) (hl:l.length<=9223372036854775806):∀ (rest pre:List ID),l=pre++rest->iter (Kx l x) (pre.length:Int)=some (if x∈rest then .inl ((pre.length+rest.idxOf x:Nat):Int) else .inr ())
 | [],pre,e=>by
  refine B2 ?_;subst e;unfold Kx;rw[if_neg (by simp)]
  simp
 | c::rest,pre,e=>by
  have O:pre.length<l.length:=by rw[e]; simp
  have a1:l[pre.length]'O=c:=by subst e; simp
  have hF:Kx l x (pre.length:Int)=if decide (x=c) then some (.inl (.inl (pre.length:Int))) else some (.inr ((pre.length+1:Nat):Int)):=by
   unfold Kx;rw[if_pos (by simpa using O),Ax O,a1,AL (by omega)];simp only[bS]
  by_cases U:x=c
  ·rw[decide_eq_true U,if_pos rfl] at hF;rw[B2 hF,if_pos (by simp[U])];simp[U]
  ·rw[decide_eq_false U,if_neg (by simp)] at hF;have ih:=QN l x hl rest (pre++[c]) (by simp[e]);simp only[List.length_append,List.length_cons,List.length_nil,Nat.zero_add] at ih;rw[Bl hF,ih];by_cases hx:x∈rest
   ·have hi:(c::rest).idxOf x=rest.idxOf x+1:=by
     rw[List.idxOf_cons, show (c==x)=false by simpa using λe:c=x=>U e.symm]; rfl
    rw[if_pos hx,if_pos (by simp[hx]),hi]
    congr 3; omega
   ·rw[if_neg hx,if_neg (by simp[hx]; exact U)]
theorem z11z (l:List ID) (x:ID) (U:l.length<=9223372036854775806):Nm l x=some (decide (x∈l)):=by
 have h:=QN l x U l [] rfl;unfold Nm Ik;rw[show (0:Int)=(([]:List ID).length:Int) from rfl,h];by_cases O:x∈l
 ·rw[if_pos O,decide_eq_true O]; simp[or_l,bS]
 ·rw[if_neg O,decide_eq_false O]; rfl
theorem WP (G:C9 g) (m:Nat->Bool) {i:Nat} (hi:i<g.Ops.length):decide (B9 g i∈CT g m)=m i:=by
 have O:=GN G.e (m:=m) (x:=B9 g i);rw[KY G.e hi] at O;rw[Bool.eq_iff_iff,decide_eq_true_iff,O];refine⟨λh=>h.2, λh=>⟨?_,h⟩⟩;rw[Cv (by rw[G.e.ids]; exact hi)]; exact List.getElem_mem _
theorem QO {i:Nat} (hi:i<g.Ops.length):g.Ops[i]?.toList=[g.Ops[i]]:=by rw[List.getElem?_eq_getElem hi]; rfl
theorem z113 (G:C9 g) (m:Nat->Bool):iter (Ky g (CT g m)) ([],0)=some (Dy g (λi=>!m i) g.Ops.length):=by
 have a1:=G.e.len;have a2:=G.e.ids;have a6:(CT g m).length<=60:=by
  unfold CT;rw[List.length_map]
  have:=List.length_filter_le m (List.range g.Ops.length)
  rw[List.length_range] at this; omega
 have h:=Ck (F:=Ky g (CT g m)) (b:=Dy g (λi=>!m i) g.Ops.length) g.Ops.length (λi=>(Dy g (λi=>!m i) i,(i:Int)))
  (λi hi=>by
   have O:i<g.IDs.length:=by omega
   unfold Ky;rw[if_pos (by simp; omega)];simp only;rw[Ax O];simp only[bS];rw[z11z _ _ (by omega),<- Cv O,WP G m hi];simp only[bS];have a7:=Od g (λi=>!m i) i
   cases U:m i with
   | true =>
    rw[if_neg (by simp),AL (by omega),Qq (by show (!m i)=false; rw[U]; rfl)]
   | false =>
    rw[if_pos (by simp),Ax hi,AL (by omega),Qp (by show (!m i)=true; rw[U]; rfl),QO hi];simp only[bS];rw[B1 (by simp only[List.length_cons,List.length_nil]; omega)]
    simp only[bS])
  (by
   unfold Ky
   rw[if_neg (by simp; omega)])
 exact h
theorem WQ (G:C9 g) (m:Nat->Bool):∀ i,i<=g.Ops.length->(Dy g m i).map oid=subI g m i
 | 0,_=>rfl
 | i+1,hi=>by
  have U:=WQ G m i (by omega)
  cases O:m i with
  | false=>rw[Qq O,VC O,U]
  | true =>
   rw[Qp O,VB O,QO (by omega),List.map_append,U,List.map_singleton,WN G (by omega),Cv (by rw[G.e.ids]; omega)]
theorem z1az {s:Bt} (K:StOk s) (hI:∀ r∈s.Regs.List,inI r.Value.Num) (h1:s.Heads.length<=16) (h2:s.Set.List.length<=16) (h3:s.Regs.List.length<=16):(stB s).length<=10000:=by
 have n1:=Bu (UInt64.ofInt s.Version).toNat (UInt64.toNat_lt _);have n2:=Bu s.Heads.length (by omega);have n3:=Bu s.Set.List.length (by omega);have n4:=Bu s.Regs.List.length (by omega);have i1:=FB s.Heads;have lt:=GT E1 200 s.Set.List λt O=>Oi (K.tn t O);have lr:=GT EA 200 s.Regs.List λt O=>Oj (K.rn t O) (hI t O);unfold stB;simp only[List.length_append];omega
theorem z1ce (w:EL g) (F:Fit g n) {R:List AP} (K:Fh g g.Ops.length R) {r:AP} (U:r∈R):inI r.Value.Num/\r.Value.Text.length<=9223372036854775807:=by
 obtain⟨b,h1,h2⟩:=(K.mem r).1 U;have O:=Ql _ _ _ h1;have e:r.Value=g.Ops[b].Act.Value:=by rw[h2,GS O]; rfl
 rw[e];exact QL w.2.1 _ (List.getElem_mem O)
theorem z19r (w:EL g) (G:C9 g) (F:Fit g n) (hn:g.Ops.length<=16) (h:Dx g=some 0) (h9:Ee g=some 0):∃ s d,NU g=some (s,d,0)/\NW g=some (d,s):=by
 obtain⟨T,R,f1,f2,KT,KR⟩:=z130 G F h h9;have fc:=z10l G F KT KR;have a1:=F.ids;have hh:(CT g (top g g.Ops.length)).length<=16:=by
  have:=O7 (g:=g) (IC G.e (top g g.Ops.length)) λy hy=>((GN G.e).1 hy).1
  omega
 have hT:=KT.len;have hR:=KR.len;generalize U:(⟨(g.Ops.length:Int),⟨T⟩,⟨R⟩,CT g (top g g.Ops.length)⟩:Bt)=s at f1 f2 fc;have e1:s.Heads.length<=16:=by rw[<- U]; exact hh
 have e2:s.Set.List.length<=16:=by rw[<- U]; exact Nat.le_trans hT hn
 have e3:s.Regs.List.length<=16:=by rw[<- U]; exact Nat.le_trans hR hn
 have hI:∀ r∈s.Regs.List,inI r.Value.Num/\r.Value.Text.length<=9223372036854775807:=λr O=>by rw[<- U] at O; exact z1ce w F KR O
 obtain⟨c,c1,-,c3⟩:=stck s (λr O=>(hI r O).2) (by omega);rw[fc] at c1;obtain rfl:(0:Int)=c:=by simpa using c1
 have K:=c3 rfl;have hl:=z1az K (λr O=>(hI r O).1) e1 e2 e3;refine⟨s,sha (stB s),?_,?_⟩
 ·unfold NU;rw[f1];simp only[bS,bne_self_eq_false,Bool.false_eq_true,if_false];rw[VN K hI fc];simp only[bS,bne_self_eq_false,Bool.false_eq_true,if_false];rw[O2 _ hl];rfl
 ·unfold NW;rw[f2];simp only[bS];rw[Qu K λr O=>(hI r O).1];simp only[bS];rw[KP _ (by omega)];rfl
theorem z11m (w:EL g) (hg:Fg g=some false):∃ r,KL g=some r/\KM g=some r/\r.1.length<=100000:=by
 obtain⟨c,c1,O,c3⟩:=Qd w;by_cases U:c=0
 ·subst U;have G:=c3.1 rfl;have S:L4 g:=by
   obtain⟨b,b1,b2⟩:=Oa g;rw[hg] at b1;exact b2 (by simpa using b1.symm)
  have F:=Qh G S;have hn:g.Ops.length<=16:=(z19o hg).resolve_right (by have:=G.e.len; omega);obtain⟨s,d,s1,s2⟩:=z19r w G F hn c1 O;have hw:=QL w.2.1;have ha:=z14v G F;have a1:=WH hw ha;refine⟨([115]++d.toList++Fi ((C2 g.Ops).map (·.o)),0),?_,?_, by simp only[List.length_append,Vector.length_toList,List.length_singleton]; omega⟩
  ·unfold KL;rw[c1];simp only[bS,bne_self_eq_false,Bool.false_eq_true,if_false];rw[s1];simp only[bS,bne_self_eq_false,Bool.false_eq_true,if_false];rw[WG _ hw,ha,if_pos rfl];simp only[bS,bne_self_eq_false,Bool.false_eq_true,if_false];rw[KO _ (by simp; omega) (by simp)]
   simp
  ·unfold KM;rw[O];simp only[bS,bne_self_eq_false,Bool.false_eq_true,if_false];rw[s2];simp only[bS];rw[WF _ hw,ha,if_pos rfl];simp only[bS];rw[B1 (by simp)];simp only[bS];rw[B1 (by simp; omega)];rfl
 ·refine⟨([],c),?_,?_, by simp⟩
  ·unfold KL;rw[c1];simp only[bS];rw[if_pos (by simpa using U)]
  ·unfold KM;rw[O];simp only[bS];rw[if_pos (by simpa using U)]
end
section
variable {g a b:Ao} {n m:Nat}
theorem WR (l:List ID) (x:ID) (hl:l.length<=1000000):Ik l x=some (if x∈l then (l.idxOf x:Int) else -1):=by
 have:=QN l x (by omega) l [] rfl
 unfold Ik;refine(congrArg (Bc · _) this).trans ?_;by_cases h:x∈l <;> simp[h,Bc]
theorem z1bq (x y:Ab) (U:x.Preds.length<=1000):(if x.Author != y.Author then some true else if x.Stamp != y.Stamp then some true else if !decide (x.Act=y.Act) then some true else if !decide (x.Sig=y.Sig) then some true else Kq x.Preds y.Preds>>=λO=>some (!O):Option Bool)=some (!decide (x=y)):=by
 rw[z1du _ _ U];simp only[bS];have e:=HA (p:=x) (q:=y);by_cases h1:x.Author=y.Author <;> by_cases h2:x.Stamp=y.Stamp <;> by_cases h3:x.Act=y.Act <;> by_cases h4:x.Sig=y.Sig <;> by_cases h5:x.Preds=y.Preds <;> simp[h1,h2,h3,h4,h5,e]
theorem QP (Fa:Fit a n) (Fb:Fit b m) (ha:a.Ops.length<=60) (hb:b.Ops.length<=60):∀ (k i:Nat),a.IDs.length - i=k->i<=a.IDs.length->∀ lk:Bool,
  (iter (GG a b) (lk,(i:Int))=some (.inl 14)/\iter (G0 a b) (i:Int)=some (.inl ([],14))) \/
  ∃ lk':Bool,iter (GG a b) (lk,(i:Int))=some (.inr lk')/\iter (G0 a b) (i:Int)=some (.inr ())/\(lk'=true↔lk=true\/∃ j,i<=j/\∃ h:j<a.IDs.length,a.IDs[j]∉b.IDs)
 | 0,i,hk,hi,lk=>by
  refine .inr ⟨lk,B2 ?_,B2 ?_,⟨.inl, λh=>h.elim id λ⟨j,h1,h2,_⟩=>by omega⟩⟩
  ·unfold GG;rw[if_neg (by simp; omega)]
  ·unfold G0;rw[if_neg (by simp; omega)]
 | k+1,i,hk,hi,lk=>by
  have ida:=Fa.ids;have idb:=Fb.ids;have O:i<a.IDs.length:=by omega
  have a1:i<a.Ops.length:=by omega
  by_cases c:a.IDs[i]∈b.IDs
  ·have hj:=List.idxOf_lt_length_of_mem c;have a2:b.IDs.idxOf a.IDs[i]<b.Ops.length:=by omega
   have hp:=(Fa.op _ (List.getElem_mem a1)).1;have U:GG a b (lk,(i:Int))=if a.Ops[i]=b.Ops[b.IDs.idxOf a.IDs[i]] then some (.inr (lk,((i+1:Nat):Int))) else some (.inl (.inl 14)):=by
    unfold GG;simp only[];rw[if_pos (by simpa using O),Ax O];simp only[bS];rw[WR _ _ (by omega),if_pos c,AL (by omega)];simp only[bS];rw[if_neg (by simp),Ax a1,Ax a2];simp only[bS];rw[z1bq _ _ (by omega)];simp only[bS];by_cases d:a.Ops[i]=b.Ops[b.IDs.idxOf a.IDs[i]] <;> simp[d]
   have s2:G0 a b (i:Int)=if a.Ops[i]=b.Ops[b.IDs.idxOf a.IDs[i]] then some (.inr ((i+1:Nat):Int)) else some (.inl (.inl ([],14))):=by
    unfold G0;rw[if_pos (by simpa using O),Ax O];simp only[bS];rw[II _ _ (by omega),if_pos c,AL (by omega)];simp only[bS];rw[if_pos (by simp),Ax a1,Ax a2];simp only[bS];rw[z15t _ _ (by omega)];simp only[bS];by_cases d:a.Ops[i]=b.Ops[b.IDs.idxOf a.IDs[i]] <;> simp[d]
   by_cases d:a.Ops[i]=b.Ops[b.IDs.idxOf a.IDs[i]]
   ·rw[if_pos d] at U s2;rw[Bl U,Bl s2];refine(QP Fa Fb ha hb k (i+1) (by omega) (by omega) lk).imp id λ⟨lk',h1,h2,h3⟩=>⟨lk',h1,h2,h3.trans ⟨λh=>h.imp id λ⟨j,q1,q2⟩=>⟨j, by omega,q2⟩, λh=>h.imp id λ⟨j,q1,q2,q3⟩=>⟨j,?_,q2,q3⟩⟩⟩;by_cases e:j=i
    ·subst e; exact absurd c q3
    ·omega
   ·rw[if_neg d] at U s2;exact .inl ⟨B2 U,B2 s2⟩
  ·have U:GG a b (lk,(i:Int))=some (.inr (true,((i+1:Nat):Int))):=by
    unfold GG;simp only[];rw[if_pos (by simpa using O),Ax O];simp only[bS];rw[WR _ _ (by omega),if_neg c,AL (by omega)];simp only[bS];rw[if_pos (by simp)]
   have s2:G0 a b (i:Int)=some (.inr ((i+1:Nat):Int)):=by
    unfold G0;rw[if_pos (by simpa using O),Ax O];simp only[bS];rw[II _ _ (by omega),if_neg c,AL (by omega)];simp only[bS];rw[if_neg (by simp)]
   rw[Bl U,Bl s2];exact(QP Fa Fb ha hb k (i+1) (by omega) (by omega) true).imp id λ⟨lk',h1,h2,h3⟩=>⟨lk',h1,h2,⟨λ_=>.inr ⟨i,Nat.le_refl _,O,c⟩, λ_=>h3.2 (.inl rfl)⟩⟩
theorem zuy {c d:Int} (U:Dx a=some c) (hb:Dx b=some d):iter (GF a b) 0=some (if c≠0 then .inl c else if d≠0 then .inl d else .inr ()):=by
 have s0:GF a b 0=if c≠0 then some (.inl (.inl c)) else some (.inr 1):=by
  unfold GF;rw[if_pos (by simp), show idx [a,b] 0=some a from rfl];simp only[bS];rw[U];simp only[bS];by_cases h:c=0
  ·simp[h]; rfl
  ·simp[h]
 have O:GF a b 1=if d≠0 then some (.inl (.inl d)) else some (.inr 2):=by
  unfold GF;rw[if_pos (by simp), show idx [a,b] 1=some b from rfl];simp only[bS];rw[hb];simp only[bS];by_cases h:d=0
  ·simp[h]; rfl
  ·simp[h]
 have s2:GF a b 2=some (.inl (.inr ())):=by
  unfold GF;rw[if_neg (by simp)]
 by_cases h:c=0
 ·rw[if_neg (by simpa using h)] at s0 ⊢;rw[Bl s0];by_cases h':d=0
  ·rw[if_neg (by simpa using h')] at O ⊢;rw[Bl O,B2 s2]
  ·rw[if_pos h'] at O ⊢;rw[B2 O]
 ·rw[if_pos h] at s0 ⊢;rw[B2 s0]
theorem z16f (G:C9 g) (F:Fit g n) (m:Nat->Bool):(Cw (Dy g (λi=>!m i) g.Ops.length)).2=0:=by
 have U:=WQ G (λi=>!m i) g.Ops.length (Nat.le_refl _);have O:∀ o∈Dy g (λi=>!m i) g.Ops.length,o∈g.Ops:=Oe g _ _;have a6:=Od g (λi=>!m i) g.Ops.length;have a1:BH (subI g (λi=>!m i) g.Ops.length)=true:=by rw[z10v]; exact IC G.e _
 have hl:=G.e.len;obtain⟨rk,a2⟩:=Qj G F
 exact WM (by omega) (λo ho=>by
  obtain⟨i,hi,rfl⟩:=List.getElem_of_mem (O o ho)
  exact G3 (G.ops i hi).1) (by rw[U]; exact KV a1) rk (λo ho p hp _=>a2 _ _ (WO G F (O o ho)) p hp)
theorem z15n (G:C9 g) (F:Fit g n) (m:Nat->Bool) (h:Ao) (hh:h.IDs=CT g m):iter (Iw h g) ([],0)=some (Dy g (λi=>!m i) g.Ops.length):=by
 have a2:=G.e.len;have a6:=G.e.ids;have a7:h.IDs.length<=60:=by
  rw[hh];unfold CT;rw[List.length_map]
  have:=List.length_filter_le m (List.range g.Ops.length)
  rw[List.length_range] at this; omega
 exact Ck (F:=Iw h g) g.Ops.length (λi=>(Dy g (λi=>!m i) i,(i:Int))) (λi hi=>by
  have a1:i<g.IDs.length:=by omega
  unfold Iw;simp only[];rw[if_pos (by simp; omega),Ax a1];simp only[bS];rw[II _ _ (by omega),AL (by omega)];simp only[bS];have a8:=Od g (λi=>!m i) i;have O:=WP G m hi;rw[Cv a1,<- hh] at O
  cases U:m i with
  | true =>
   rw[U] at O;have O:=of_decide_eq_true O;rw[if_pos O,if_neg (by simp),Qq (by show (!m i)=false; rw[U]; rfl)]
  | false =>
   rw[U] at O;have O:=of_decide_eq_false O;rw[if_neg O,if_pos (by simp),Ax hi,Qp (by show (!m i)=true; rw[U]; rfl),QO hi];simp only[bS];rw[B1 (by simp only[List.length_cons,List.length_nil]; omega)]
   rfl) (by
  unfold Iw
  rw[if_neg (by simp; omega)])
theorem z153 (wa:EL a) (wb:EL b) (ga:Fg a=some false) (gb:Fg b=some false):∃ r,Iv a b=some r/\Hw a b=some r/\r.1.length<=100000:=by
 obtain⟨c,c1,c2,c3⟩:=Qd wa;obtain⟨d,d1,d2,d3⟩:=Qd wb;have st:=zuy c1 d1;have bad:∀ e:Int,e≠0->GI a b=some e->Iv a b=some ([],e):=λe he h=>by
  unfold Iv;rw[h];simp only[bS];rw[if_pos (by simpa using he)]
 by_cases O:¬ c=0
 ·refine⟨([],c),bad c O ?_,?_, by simp⟩
  ·unfold GI;rw[st,if_pos O];rfl
  ·unfold Hw;rw[c2];simp only[bS];rw[if_pos (by simpa using O)]
 have O:=Classical.not_not.1 O;by_cases hd:¬ d=0
 ·refine⟨([],d),bad d hd ?_,?_, by simp⟩
  ·unfold GI;rw[st,if_neg (by simpa using O),if_pos hd];rfl
  ·unfold Hw;rw[c2];simp only[bS];rw[if_neg (by simpa using O),d2];simp only[bS];rw[if_pos (by simpa using hd)]
 have hd:=Classical.not_not.1 hd;subst O hd;rw[if_neg (by simp),if_neg (by simp)] at st;have Ga:=c3.1 rfl;have U:=d3.1 rfl;have small:∀ {g},Fg g=some false->L4 g:=λ{g} h=>by
  obtain⟨b,b1,b2⟩:=Oa g;rw[h] at b1;exact b2 (by simpa using b1.symm)
 have Fa:=Qh Ga (small ga);have Fb:=Qh U (small gb);have la:=Ga.e.len; have lb:=U.e.len;have ida:=Fa.ids; have idb:=Fb.ids;have ref0:∀ x,(Bc (iter (G0 a b) 0) λs9=>ER b.IDs a.IDs>>=λa7=>if !a7 then some ([],32) else (ET 1000) a.IDs>>=λa8=>(ET 1000) b.IDs>>=λaa=>(iter (Iw a b) ([],0))>>=λab=>Ip ab>>=λac=>app 1 [100] a8.toList>>=λad=>app 1 ad aa.toList>>=λae=>app 1 ae ac.1>>=λaf=>some (af,0))=x->Hw a b=x:=λx hx=>by
  unfold Hw;rw[c2];simp only[bS];rw[if_neg (by simp),d2];simp only[bS];rw[if_neg (by simp)];exact hx
 rcases QP Fa Fb la lb _ 0 rfl (Nat.zero_le _) false with ⟨h1,h2⟩ | ⟨lk,h1,h2,h3⟩
 ·refine⟨([],14),bad 14 (by decide) ?_,ref0 _ ?_, by simp⟩
  ·unfold GI;rw[st];simp only[DL];exact(congrArg (Bc · _) h1).trans rfl
  ·exact(congrArg (Bc · _) h2).trans rfl
 have a1:lk=false↔∀ x∈a.IDs,x∈b.IDs:=by
  rw[<- Bool.not_eq_true,h3]
  constructor
  ·intro h x hx;obtain⟨j,hj,rfl⟩:=List.getElem_of_mem hx;exact Classical.byContradiction λhn=>h (.inr ⟨j,Nat.zero_le _,hj,hn⟩)
  ·rintro h (h' | ⟨j,_,hj,hn⟩)
   ·cases h'
   ·exact hn (h _ (List.getElem_mem hj))
 have ha:ER b.IDs a.IDs=some (!lk):=by
  rw[Q6 _ _ (by omega) (by omega)]
  congr 1
  cases lk with
  | false=>simpa using a1.1 rfl
  | true =>
   refine Bool.eq_false_iff.2 λh=>?_
   have:=a1.2 (by simpa using h)
   cases this
 have ins:GI a b=some (if lk then 32 else 0):=by
  unfold GI;rw[st];simp only[DL];refine(congrArg (Bc · _) h1).trans ?_
  cases lk <;> rfl
 cases lk with
 | true =>
  refine⟨([],32),bad 32 (by decide) ins,ref0 _ ?_, by simp⟩;refine(congrArg (Bc · _) h2).trans ?_;simp only[DL];rw[ha];rfl
 | false =>
  have a2:=a1.1 rfl;have hm:a.IDs=CT b (λi=>decide (B9 b i∈a.IDs)):=Vs _ _ ((GA _).1 Fa.ri) ((GA _).1 (IC U.e _)) λx=>by
   rw[GN U.e]
   constructor
   ·intro hx;refine⟨a2 x hx,?_⟩;rw[IB (a2 x hx)]; exact decide_eq_true hx
   ·rintro⟨h1,h2⟩
    rw[IB h1] at h2; exact of_decide_eq_true h2
  obtain⟨p,p1,p2⟩:=Wc (l:=a.IDs) (by omega) ((GA _).1 Fa.ri);obtain⟨q,q1,q2⟩:=Wc (l:=b.IDs) (by omega) ((GA _).1 Fb.ri);have r2:=z15n U Fb _ a hm;have wl:=z113 U (λi=>decide (B9 b i∈a.IDs));rw[<- hm] at wl;have r0:=z16f U Fb (λi=>decide (B9 b i∈a.IDs));have a6:∀ o∈Dy b (λi=>!(λi=>decide (B9 b i∈a.IDs)) i) b.Ops.length,o∈b.Ops:=Oe b _ _;generalize Dy b (λi=>!(λi=>decide (B9 b i∈a.IDs)) i) b.Ops.length=W at r2 wl r0 a6
  have hw:wfO W:=λo ho=>QL wb.2.1 o (a6 o ho);have ah:=z174 r0;have ai:wfO ((C2 W).map (·.o)):=λo ho=>hw o ((On (HE r0).2.2.2.2).perm.mem_iff.1 ho);have aj:=WH hw r0;refine⟨([100]++p.toList++q.toList++Fi ((C2 W).map (·.o)),0),?_,ref0 _ ?_, by simp only[List.length_append,Vector.length_toList,List.length_singleton]; omega⟩
  ·have wo:Nq b a.IDs=some ((C2 W).map (·.o),0):=by
    unfold Nq;rw[d1];simp only[bS];rw[if_neg (by simp),if_neg (by simp; omega),wl];simp only[bS];rw[z1a1 W hw,r0,if_pos rfl];rfl
   unfold Iv;rw[ins];simp only[bS,bne_self_eq_false,Bool.false_eq_true,if_false];rw[p1];simp only[bS,bne_self_eq_false,Bool.false_eq_true,if_false];rw[q1];simp only[bS,bne_self_eq_false,Bool.false_eq_true,if_false];rw[wo];simp only[bS,bne_self_eq_false,Bool.false_eq_true,if_false];rw[ah.write ai];simp only[bS,bne_self_eq_false,Bool.false_eq_true,if_false];rw[KO _ (by simp; omega) (by simp)]
   simp
  ·refine(congrArg (Bc · _) h2).trans ?_;simp only[DL];rw[ha];simp only[bS,Bool.not_false,Bool.not_true,Bool.false_eq_true,if_false];rw[p2];simp only[bS];rw[q2];simp only[bS];rw[r2];simp only[bS];rw[WF W hw,r0,if_pos rfl];simp only[bS];rw[B1 (by simp)];simp only[bS];rw[B1 (by simp)];simp only[bS];rw[B1 (by simp; omega)];rfl
theorem z10y (s:Bt) (w:JU s) {r:List UInt8 × Int} (h:GD s=some r):r.1.length<=1000000:=by
 obtain⟨q,q1,O,q3⟩:=VO s w;rw[h,Option.some.injEq] at q1;subst q1;by_cases e:r.2=0
 ·obtain⟨K,hb⟩:=q3 e;obtain⟨_,-,⟨⟨w3,-⟩,-⟩,-⟩:=w;rw[hb];have hd:=K.hd; have tl:=K.tl; have rl:=K.rl;have n1:=Bu (UInt64.ofInt s.Version).toNat (UInt64.toNat_lt _);have n2:=Bu s.Heads.length (by omega);have n3:=Bu s.Set.List.length (by omega);have n4:=Bu s.Regs.List.length (by omega);have i1:=FB s.Heads;have lt:=GT E1 200 s.Set.List λt U=>Oi (K.tn t U);have lr:=GT EA 200 s.Regs.List λt U=>Oj (K.rn t U) (w3 t U).2.1.2.1
  unfold stB;simp only[List.length_append];omega
 ·unfold Iu at O;obtain⟨c,c1,c2,c3⟩:=stck s (λr hr=>(w.2.2.1.1.1 r hr).2.1.2.2.2.1) w.2.2.2.1.2;rw[c2] at O;simp only[bS] at O;by_cases h0:c=0
  ·subst h0;rw[if_neg (by simp),Qu (c3 rfl) (λr hr=>(w.2.2.1.1.1 r hr).2.1.2.1)] at O;simp only[bS,Option.some.injEq] at O;subst O;exact absurd rfl e
  ·rw[if_pos (by simpa using h0),Option.some.injEq] at O;subst O
   simp
theorem QQ {β:Type} {F:Int->Option (Sum β Int)} (n:Nat) (h:∀ i:Nat,i<n->(∃ b,F i=some (.inl b))\/F i=some (.inr ((i+1:Nat):Int))) (U:∃ b,F n=some (.inl b)):∀ k i:Nat,n - i=k->i<=n->∃ b,iter F i=some b
 | 0,i,hk,hi=>by
  obtain rfl:i=n:=by omega
  obtain⟨b,O⟩:=U;exact⟨b,B2 O⟩
 | k+1,i,hk,hi=>by
  rcases h i (by omega) with ⟨b,O⟩ | O
  ·exact⟨b,B2 O⟩
  ·obtain⟨b,a1⟩:=QQ n h U k (i+1) (by omega) (by omega);exact⟨b,(Bl O).trans a1⟩
theorem zu8 (s:Bt) (h1:s.Set.List.length<=9223372036854775807) (h2:s.Regs.List.length<=9223372036854775807):∃ b,Nf s=some b:=by
 obtain⟨r,O⟩:=QQ (F:=Na s.Set) s.Set.List.length (λi hi=>by
  unfold Na;rw[if_pos (by simpa using hi),Ax hi,AL (by omega)];simp only[bS]
  split
  ·split
   ·exact .inl ⟨_,rfl⟩
   ·exact .inr rfl
  ·exact .inl ⟨_,rfl⟩) ⟨_, by
  unfold Na
  rw[if_neg (by simp)]⟩ _ 0 rfl (Nat.zero_le _)
 obtain⟨q,U⟩:=QQ (F:=Nc s.Regs) s.Regs.List.length (λi hi=>by
  unfold Nc;rw[if_pos (by simpa using hi),Ax hi,AL (by omega)];simp only[bS]
  split
  ·split
   ·exact .inl ⟨_,rfl⟩
   ·split
    ·exact .inl ⟨_,rfl⟩
    ·exact .inr rfl
  ·exact .inl ⟨_,rfl⟩) ⟨_, by
  unfold Nc
  rw[if_neg (by simp)]⟩ _ 0 rfl (Nat.zero_le _)
 have e1:∃ b,Nb s.Set=some b:=by
  unfold Nb
  cases r with
  | inl x=>exact⟨x,(congrArg (Bc · _) O).trans rfl⟩
  | inr x=>exact⟨_,(congrArg (Bc · _) O).trans rfl⟩
 have e2:∃ b,Nd s.Regs=some b:=by
  unfold Nd
  cases q with
  | inl x=>exact⟨x,(congrArg (Bc · _) U).trans rfl⟩
  | inr x=>exact⟨_,(congrArg (Bc · _) U).trans rfl⟩
 obtain⟨x,hx⟩:=e1;obtain⟨y,hy⟩:=e2;unfold Nf;rw[hx];simp only[bS]
 cases x with
 | true=>exact⟨_,rfl⟩
 | false =>
  rw[if_neg (by simp),hy];simp only[bS]
  cases y with
  | true=>exact⟨_,rfl⟩
  | false=>exact⟨_,rfl⟩
theorem ztj (a0:Bt) (O U:Ao) (w0:JU a0) (w1:EL O) (w2:EL U):PU a0 O U=some true:=by
 obtain⟨g0,e0⟩:=zu8 a0 w0.2.1.1.2 w0.2.2.1.1.2;obtain⟨g1,e1,-⟩:=Oa O;obtain⟨g2,e2,-⟩:=Oa U;unfold PU;rw[e0,e1,e2];simp only[bS]
 cases g0 with
 | true=>rfl
 | false =>
 cases g1 with
 | true=>rfl
 | false =>
 cases g2 with
 | true=>rfl
 | false =>
 obtain⟨r,r1,r2,r3⟩:=VO a0 w0;obtain⟨s,s1,s2,s3⟩:=z11m w1 e1;obtain⟨t,t1,t2,t3⟩:=z153 w1 w2 e1 e2;have hr:r.1.length<=1000000:=z10y a0 w0 r1;simp only[Bool.false_eq_true,if_false,bS];rw[r1,r2,s1,s2,t1,t2];simp only[bS];rw[QH _ _ (by omega),QH _ _ (by omega),QH _ _ (by omega)];simp only[bS,beq_self_eq_true,decide_true,if_true]
end
end Go.Proofs.YtdeegahcaekfaaaGreatDoor
