import Derived.Test.YtgomhacoacmbcaaGreatDoorUe
set_option linter.unusedSimpArgs false
set_option linter.unusedVariables false
namespace Go.Proofs.YtgomhacoacmbcaaGreatDoor
set_option maxRecDepth 100000
set_option maxHeartbeats 4000000
open Go Go.RowKit _root_.Go.Proofs.Tryz
section
variable {g:A4}
theorem z19q {o:Ae} (h:IH o=some false):o.Preds.length<=20/\o.Act.Key.length<=100/\o.Act.Value.Text.length<=100:=by
 unfold IH at h;by_cases h1:20<o.Preds.length
 ·rw[if_pos (by simp; omega)] at h; exact absurd h (by simp)
 ·rw[if_neg (by simp; omega)] at h;by_cases h2:100<o.Act.Key.length
  ·rw[if_pos (by simp; omega)] at h; exact absurd h (by simp)
  ·rw[if_neg (by simp; omega)] at h;simp only[bS] at h;have h:=Option.some.inj h;rw[decide_eq_false_iff_not] at h;exact⟨by omega, by omega, by omega⟩
theorem zu1 (o:Ae):∃ b,IH o=some b:=by
 unfold IH
 split
 ·exact⟨_,rfl⟩
 ·split
  ·exact⟨_,rfl⟩
  ·exact⟨_,rfl⟩
structure Gj (g:A4):Prop where
 ops:g.Ops.length<=70
 ids:g.IDs.length<=70
 op:∀ i (h:i<g.Ops.length),g.Ops[i].Preds.length<=20/\g.Ops[i].Act.Key.length<=100/\g.Ops[i].Act.Value.Text.length<=100
theorem Q6 (g:A4):∀ (k i:Nat),71 - i=k->i<=71->∃ r:Sum Bool Unit,iter (II g) (i:Int)=some r/\(r=.inl true\/(r=.inr ()/\∀ j (h:j<g.Ops.length),i<=j->j<=70->g.Ops[j].Preds.length<=20/\g.Ops[j].Act.Key.length<=100/\g.Ops[j].Act.Value.Text.length<=100))
 | 0,i,h1,h2=>by
  refine⟨.inr (),AW ?_,.inr ⟨rfl, λj M h3 O=>by omega⟩⟩;unfold II
  split
  ·rw[if_neg (by simp; omega)]
  ·rfl
 | k+1,i,h1,h2=>by
  by_cases hi:i<g.Ops.length
  ·obtain⟨b,hb⟩:=zu1 g.Ops[i];have hF:II g (i:Int)=if b then some (.inl (.inl true)) else some (.inr ((i+1:Nat):Int)):=by
    unfold II;rw[if_pos (by simpa using hi),if_pos (by simp; omega),AE hi];simp only[bS];rw[hb,AO (by omega)];simp only[bS]
   cases b with
   | true=>exact⟨_,AW hF,.inl rfl⟩
   | false =>
    rw[if_neg (by simp)] at hF;obtain⟨r,e1,e2⟩:=Q6 g k (i+1) (by omega) (by omega);refine⟨r, by rw[B9 hF]; exact e1,e2.imp id λ⟨e2,e3⟩=>⟨e2, λj M h3 O=>?_⟩⟩;by_cases U:j=i
    ·subst U; exact z19q hb
    ·exact e3 j M (by omega) O
  ·refine⟨.inr (),AW ?_,.inr ⟨rfl, λj M h3 O=>by omega⟩⟩;unfold II;rw[if_neg (by simpa using hi)]
theorem VG (g:A4):∃ b,GN g=some b/\(b=false->Gj g):=by
 obtain⟨r,e1,e2⟩:=Q6 g 71 0 rfl (by omega);unfold GN;rw[show (0:Int)=((0:Nat):Int) from rfl,e1];rcases e2 with rfl | ⟨rfl,e3⟩
 ·exact⟨true,rfl, λh=>absurd h (by simp)⟩
 ·simp only[Df,bS];have key:∀ (P:Bool),(P=false->g.Ops.length<=70/\g.IDs.length<=70)->P=false->Gj g:=λP h M=>⟨(h M).1,(h M).2, λi hi=>e3 i hi (Nat.zero_le _) (by have:=(h M).1; omega)⟩;by_cases hA:70<g.Ops.length
  ·have O:decide (70<(g.Ops.length:Int))=true:=by simp; omega
   have a2:decide ((g.Ops.length:Int)<=60)=false:=by simp; omega
   rw[O,a2];simp only[if_true,Bool.false_eq_true,if_false];exact⟨true, by split <;> rfl, λh=>absurd h (by simp)⟩
  ·have O:decide (70<(g.Ops.length:Int))=false:=by simp; omega
   rw[O];simp only[Bool.false_eq_true,if_false];have U:=key (decide (70<(g.IDs.length:Int))) λh=>by simp at h; omega
   split
   ·split
    ·exact⟨true,rfl, λh=>absurd h (by simp)⟩
    ·exact⟨_,rfl,U⟩
   ·exact⟨_,rfl,U⟩
theorem VH (l:List ID) (hl:l.length<=1000):Hz l l=some true:=by
 have:=C1 (F:=G9 l l) (b:=.inr ()) l.length (λi=>(i:Int)) (λi hi=>?_) ?_
 ·unfold Hz;rw[if_neg (by simp), show (0:Int)=((0:Nat):Int) from rfl,this]; rfl
 ·unfold G9;rw[if_pos (by simpa using hi),AE hi,AO (by omega)];simp only[bS];rw[if_neg (by simp)]
 ·unfold G9;rw[if_neg (by simp)]
theorem VI (S:Gj g):GM g g=some true:=by
 have h1:=S.ops;have h2:=S.ids
 have:=C1 (F:=MX g g) (b:=.inr ()) g.Ops.length (λi=>(i:Int)) (λi hi=>?_) ?_
 ·unfold GM;rw[VH _ (by omega)];simp only[bS];rw[if_neg (by simp),if_neg (by simp), show (0:Int)=((0:Nat):Int) from rfl,this]; rfl
 ·have h4:=(S.op i hi).1;have M:HA g.Ops[i] g.Ops[i]=some true:=by
   unfold HA;rw[if_pos (by simp),VH _ (by omega)];simp only[bS]
   simp
  unfold MX;rw[if_pos (by simpa using hi),AE hi];simp only[bS];rw[M,AO (by omega)];simp only[bS];rw[if_neg (by simp)]
 ·unfold MX;rw[if_neg (by simp)]
end
section
structure Pos (l:List ID) (x:ID) (k:Nat):Prop where
 le:k<=l.length
 lo:∀ i (h:i<l.length),i<k->kd l[i]<kd x
 hi:∀ i (h:i<l.length),k<=i->kd x<=kd l[i]
theorem Pos.uniq {l:List ID} {x:ID} {k k':Nat} (h:Pos l x k) (h':Pos l x k'):k=k':=by
 have a:=h.le; have b:=h'.le;refine Nat.le_antisymm (Nat.le_of_not_lt λc=>?_) (Nat.le_of_not_lt λc=>?_)
 ·have:=h.lo k' (by omega) c; have:=h'.hi k' (by omega) (Nat.le_refl _); omega
 ·have:=h'.lo k (by omega) c; have:=h.hi k (by omega) (Nat.le_refl _); omega
def Ch {α:Type} (l:List α) (k:Nat) (x:α):List α:=l.take k++[x]++l.drop k
theorem L0 {α:Type} {l:List α} {k:Nat} {x:α} (h:k<=l.length):(Ch l k x).length=l.length+1:=by
 unfold Ch; simp; omega
theorem Q7 {α:Type} {l:List α} {k i:Nat} {x:α} (h:k<=l.length) (hi:i<k):(Ch l k x)[i]? = l[i]? := by
 unfold Ch;rw[List.append_assoc,List.getElem?_append_left (by simp; omega),List.getElem?_take_of_lt hi]
theorem Q8 {α:Type} {l:List α} {k:Nat} {x:α} (h:k<=l.length):(Ch l k x)[k]? = some x:=by
 unfold Ch;rw[List.append_assoc,List.getElem?_append_right (by simp; omega)];simp[Nat.min_eq_left h]
theorem Q9 {α:Type} {l:List α} {k i:Nat} {x:α} (h:k<=l.length) (hi:k<i):(Ch l k x)[i]? = l[i - 1]? := by
 unfold Ch;rw[List.getElem?_append_right (by simp; omega),List.getElem?_drop]
 congr 1; simp; omega
theorem L1 {α:Type} {l:List α} {k:Nat} {x y:α}:y∈Ch l k x↔y=x\/y∈l:=by
 unfold Ch
 have:y∈l↔y∈l.take k\/y∈l.drop k:=by rw[<- List.mem_append,List.take_append_drop]
 rw[this];simp only[List.mem_append,List.mem_singleton]
 constructor
 ·rintro ((h | h) | h) <;> simp[h]
 ·rintro (h | h | h) <;> simp[h]
def insG (g:A4) (k:Nat) (x:ID) (o:Ae):A4:=⟨Ch g.IDs k x,Ch g.Ops k o⟩
theorem z15x (l:List ID) (hl:l.length<=4611686018427387903) (hi:Bf l=true) (x:ID) (O:x∉l):∃ k:Nat,Ix l x=some ((k:Int),false)/\Pos l x k:=by
 obtain⟨b,h1,k,rfl,h2,h3,U⟩:=Vb l hl hi x;refine⟨k,?_,h2,h3,U⟩;unfold Ix;simp only[bS];rw[h1];simp only[bS];by_cases M:k<l.length
 ·rw[if_pos (by simpa using M),AE M];simp only[bS];rw[MA];simp only[bS];rw[TO,decide_eq_false λ(e:l[k]=x)=>O (e ▸ List.getElem_mem M)]
 ·rw[if_neg (by simpa using M)]
theorem VJ (g:A4) (hl:g.IDs.length<=4611686018427387903) (hi:Bf g.IDs=true) (x:ID) (M:x∉g.IDs):∃ k:Nat,FC g x=some ((k:Int),false)/\Pos g.IDs x k:=by
 obtain⟨k,h1,h2⟩:=z15x g.IDs hl hi x M;refine⟨k,?_,h2⟩;unfold FC;rw[h1];simp only[bS]
theorem z15q {l:List ID} (hi:Bf l=true) (x:ID):∃ k,Pos l x k:=by
 induction l with
 | nil=>exact⟨0,Nat.le_refl _, λi h=>by simp at h, λi h=>by simp at h⟩
 | cons y l ih =>
  have h1:=(F7 _).1 hi;obtain⟨h2,h3⟩:=List.pairwise_cons.1 h1;by_cases U:kd y<kd x
  ·obtain⟨k,O⟩:=ih ((F7 _).2 h3);refine⟨k+1, by simpa using O.le, λi h M=>?_, λi h M=>?_⟩
   ·cases i with
    | zero=>exact U
    | succ i=>exact O.lo i (by simpa using h) (by omega)
   ·cases i with
    | zero=>omega
    | succ i=>exact O.hi i (by simpa using h) (by omega)
  ·refine⟨0,Nat.zero_le _, λi h M=>by omega, λi h _=>?_⟩
   cases i with
   | zero=>simpa using Nat.le_of_not_lt U
   | succ i =>
    have a1:i<l.length:=by simpa using h
    have:=h2 l[i] (List.getElem_mem a1)
    simp only[List.getElem_cons_succ]; omega
theorem z1aj {l:List ID} {k:Nat} {x:ID} (M:k<=l.length) (hl:l.length<=1000000):insF l (k:Int) [x]=some (Ch l k x):=by
 unfold insF;rw[Cn ⟨by omega, by simpa using M,hl,rfl⟩];simp only[bS,Int.toNat_natCast];rfl
theorem L2 {l:List ID} (h:l.length<=1000000):DN l=some l:=by
 unfold DN;rw[Bw (by simp; omega)];rfl
theorem L3 {o:Ae} (h:o.Preds.length<=1000):G6 o=some o:=by
 unfold G6;rw[L2 (by omega)];simp only[bS]
theorem VK {α:Type} {l:List α} {i:Nat} {x:α} (h:l[i]? = some x):l.take i++[x]=l.take (i+1):=by
 rw[List.take_add_one,h]; rfl
theorem z1dl {g:A4} (hl:g.IDs.length<=1000) (hi:Bf g.IDs=true) {x:ID} (M:x∈g.IDs) (o:Ae):FG g x o=some (g,false):=by
 obtain⟨k,O,-,-⟩:=J4 g (by omega) hi x;unfold FG;rw[O,decide_eq_true M];rfl
theorem z1aw {g:A4} (hg:g.IDs.length=g.Ops.length) (hl:g.IDs.length<=1000) (hi:Bf g.IDs=true) {x:ID} (hx:x∉g.IDs) {o:Ae} (ho:o.Preds.length<=1000) (hp:∀ p∈g.Ops,p.Preds.length<=1000) :
  ∃ k,FG g x o=some (insG g k x o,true)/\Pos g.IDs x k:=by
 obtain⟨k,k1,k2⟩:=VJ g (by omega) hi x hx;have hk:=k2.le;have U:k<=g.Ops.length:=by omega
 refine⟨k,?_,k2⟩;have a6:(Ch g.Ops k o).length=g.Ops.length+1:=L0 U;have a1:(Ch g.IDs k x).length=g.Ops.length+1:=by rw[L0 hk,hg]
 have a2:=C1 (F:=MG g o ((k:Int),false) (Ch g.IDs k x)) (b:=Ch g.Ops k o) (g.Ops.length+1) (λi=>((Ch g.Ops k o).take i,(i:Int))) (λi a7=>?_) ?_
 ·unfold FG;rw[k1];simp only[bS];rw[if_neg (by simp),L2 (by omega)];simp only[bS];rw[z1aj hk (by omega)];simp only[bS];rw[List.take_zero] at a2;rw[show (([]:List Ae),(0:Int))=([],((0:Nat):Int)) from rfl,a2];simp only[bS];rfl
 ·have O:∀ z,(Ch g.Ops k o)[i]? = some z->app 112 ((Ch g.Ops k o).take i) [z]=some ((Ch g.Ops k o).take (i+1)):=λz hz=>by
   rw[Bw (by simp; omega),VK hz]
  unfold MG;simp only[bS];rw[if_pos (by rw[a1]; simp; omega)];by_cases h1:i<k
  ·have M:i<g.Ops.length:=by omega
   rw[if_pos (by simpa using h1),AE M];simp only[bS];rw[L3 (hp _ (List.getElem_mem M))];simp only[bS];rw[O _ (by rw[Q7 U h1,List.getElem?_eq_getElem M]),AO (by omega)];simp only[bS]
  ·by_cases h2:i=k
   ·subst h2;rw[if_neg (by simp),if_pos (by simp),L3 ho];simp only[bS];rw[O _ (Q8 U),AO (by omega)];simp only[bS]
   ·have M:i - 1<g.Ops.length:=by omega
    have e:w64 ((i:Int) - 1)=((i - 1:Nat):Int):=by rw[B1 (by omega) (by omega)]; omega
    rw[if_neg (by simp; omega),if_neg (by simp; omega),e,AE M];simp only[bS];rw[L3 (hp _ (List.getElem_mem M))];simp only[bS];rw[O _ (by rw[Q9 U (by omega),List.getElem?_eq_getElem M]),AO (by omega)];simp only[bS]
 ·unfold MG;rw[if_neg (by rw[a1]; simp)]
  rw[List.take_of_length_le (by rw[a6]; exact Nat.le_refl _)]
theorem z160 {l:List ID} (hi:Bf l=true) {x:ID} (hx:x∉l) {k:Nat} (U:Pos l x k):Bf (Ch l k x)=true:=by
 rw[F7] at hi ⊢;have hsplit:(l.take k++l.drop k).Pairwise (λa b=>kd a<kd b):=by rw[List.take_append_drop]; exact hi
 obtain⟨h1,h2,h3⟩:=List.pairwise_append.1 hsplit;have a1:∀ a∈l.take k,kd a<kd x:=λa M=>by
  obtain⟨i,O,rfl⟩:=List.getElem_of_mem M;rw[List.length_take] at O;rw[List.getElem_take];exact U.lo i (by omega) (by omega)
 have a2:∀ a∈l.drop k,kd x<kd a:=λa M=>by
  obtain⟨i,O,rfl⟩:=List.getElem_of_mem M;rw[List.length_drop] at O;rw[List.getElem_drop];have h:=U.hi (k+i) (by omega) (by omega);have a6:kd x≠kd l[k+i]:=λe=>hx (Hu e ▸ List.getElem_mem _);omega
 unfold Ch;rw[List.append_assoc,List.pairwise_append];refine⟨h1,?_, λa M b hb=>?_⟩
 ·rw[List.singleton_append,List.pairwise_cons]; exact⟨a2,h2⟩
 ·rw[List.singleton_append] at hb;rcases List.mem_cons.1 hb with rfl | hb
  ·exact a1 a M
  ·exact h3 a M b hb
end
section
open Go Go.RowKit _root_.Go.Proofs.Tryz
open Go Go.RowKit _root_.Go.Proofs.Tryz
variable {g a b:A4}
theorem z19o (h:GN g=some false):g.Ops.length <= 16 \/ 60<g.Ops.length:=by
 obtain⟨r,e1,e2⟩:=Q6 g 71 0 rfl (by omega)
 unfold GN at h
 rw[show (0:Int)=((0:Nat):Int) from rfl,e1] at h
 rcases e2 with rfl | ⟨rfl,-⟩
 ·simp[or_l] at h
 ·simp only[Df] at h;refine Classical.byContradiction λa1=>?_
  rw[if_pos (by simp; omega),if_pos (by simp; omega)] at h
  cases h
theorem z10u (l m:List ID) (a1:l.length=m.length) (hl:l.length <= 1000):∃ r,iter (IG l m) 0=some r /\ ((r=.inl false /\ l≠m) \/ (r=.inr () /\ l=m)):=by
 refine G2 (F:=IG l m) (λs=>∃ i:Nat,s=(i:Int) /\ i <= l.length /\ ∀ k (h:k<l.length) (h2:k<m.length),k<i -> l[k]=m[k]) (λs=>l.length - s.toNat) _ ?_ 0 ⟨0,rfl,Nat.zero_le _,λk _ _ h=>by omega⟩
 rintro s ⟨i,rfl,h1,h2⟩
 by_cases hi:i<l.length
 ·have U:i<m.length:=by omega
  by_cases O:l[i]=m[i]
  ·refine .inr ⟨((i+1:Nat):Int),?_,⟨i+1,rfl,hi,λk hk M a6=>?_⟩, by simp; omega⟩
   ·unfold IG
    rw[if_pos (by simpa using hi),AE hi,AE U,AO (by omega)]
    simp only[bS]
    rw[if_neg (by simpa using O)]
   ·by_cases a2:k=i
    ·subst a2; exact O
    ·exact h2 k hk M (by omega)
  ·refine .inl ⟨.inl false,?_,.inl ⟨rfl,λe=>O (by subst e; rfl)⟩⟩;unfold IG
   rw[if_pos (by simpa using hi),AE hi,AE U]
   simp only[bS]
   rw[if_pos (by simpa using O)]
 ·refine .inl ⟨.inr (),?_,.inr ⟨rfl,List.ext_getElem a1 λk hk M=>h2 k hk M (by omega)⟩⟩;unfold IG
  rw[if_neg (by simpa using hi)]
theorem Qa (l m:List ID) (hl:l.length <= 1000):GK l m=some (decide (l=m)):=by
 unfold GK;by_cases M:l.length=m.length
 ·obtain⟨r,O,U⟩:=z10u l m M hl
  rw[if_neg (by simp[M]),O]
  rcases U with ⟨rfl,h⟩ | ⟨rfl,h⟩
  ·rw[decide_eq_false h]; rfl
  ·rw[decide_eq_true h]; rfl
 ·rw[if_pos (by simp; omega),decide_eq_false λe=>M (by rw[e])]
theorem zx8 (l m:List ID) (a1:l.length=m.length) (hl:l.length <= 1000):∃ r,iter (G9 l m) 0=some r /\ ((r=.inl false /\ l≠m) \/ (r=.inr () /\ l=m)):=by
 refine G2 (F:=G9 l m) (λs=>∃ i:Nat,s=(i:Int) /\ i <= l.length /\ ∀ k (h:k<l.length) (h2:k<m.length),k<i -> l[k]=m[k]) (λs=>l.length - s.toNat) _ ?_ 0 ⟨0,rfl,Nat.zero_le _,λk _ _ h=>by omega⟩
 rintro s ⟨i,rfl,h1,h2⟩
 by_cases hi:i<l.length
 ·have U:i<m.length:=by omega
  by_cases O:l[i]=m[i]
  ·refine .inr ⟨((i+1:Nat):Int),?_,⟨i+1,rfl,hi,λk hk M a6=>?_⟩, by simp; omega⟩
   ·unfold G9
    rw[if_pos (by simpa using hi),AE hi,AE U,AO (by omega)]
    simp only[bS]
    rw[if_neg (by simpa using O)]
   ·by_cases a2:k=i
    ·subst a2; exact O
    ·exact h2 k hk M (by omega)
  ·refine .inl ⟨.inl false,?_,.inl ⟨rfl,λe=>O (by subst e; rfl)⟩⟩;unfold G9
   rw[if_pos (by simpa using hi),AE hi,AE U]
   simp only[bS]
   rw[if_pos (by simpa using O)]
 ·refine .inl ⟨.inr (),?_,.inr ⟨rfl,List.ext_getElem a1 λk hk M=>h2 k hk M (by omega)⟩⟩;unfold G9
  rw[if_neg (by simpa using hi)]
theorem z1c1 (l m:List ID) (hl:l.length <= 1000):Hz l m=some (decide (l=m)):=by
 unfold Hz;by_cases M:l.length=m.length
 ·obtain⟨r,O,U⟩:=zx8 l m M hl
  rw[if_neg (by simp[M]),O]
  rcases U with ⟨rfl,h⟩ | ⟨rfl,h⟩
  ·rw[decide_eq_false h]; rfl
  ·rw[decide_eq_true h]; rfl
 ·rw[if_pos (by simp; omega),decide_eq_false λe=>M (by rw[e])]
theorem E1 {p q:Ae}:p=q↔p.Author=q.Author /\ p.Preds=q.Preds /\ p.Stamp=q.Stamp /\ p.Act=q.Act /\ p.Sig=q.Sig:=by
 cases p; cases q; simp
theorem VL (p q:Ae) (O:p.Preds.length <= 1000):MF p q=some (decide (p=q)):=by
 unfold MF
 rw[Qa _ _ O]
 simp only[bS];by_cases h1:p.Author=q.Author
 ·by_cases h2:p.Stamp=q.Stamp
  ·by_cases h3:p.Act=q.Act
   ·by_cases M:p.Sig=q.Sig
    ·simp[E1,h1,h2,h3,M]
    ·simp[E1,h1,h2,h3,M]
   ·simp[E1,h1,h2,h3]
  ·simp[E1,h1,h2]
 ·simp[E1,h1]
theorem z15b (p q:Ae) (U:p.Preds.length <= 1000):HA p q=some (decide (p=q)):=by
 unfold HA
 rw[z1c1 _ _ U]
 simp only[bS];by_cases h1:p.Author=q.Author
 ·by_cases M:p.Preds=q.Preds
  ·by_cases h2:p.Stamp=q.Stamp
   ·by_cases h3:p.Act=q.Act
    ·by_cases O:p.Sig=q.Sig
     ·simp[E1,h1,h2,h3,O,M]
     ·simp[E1,h1,h2,h3,O]
    ·simp[E1,h1,h2,h3,M]
   ·simp[E1,h1,h2,M]
  ·simp[E1,h1,M]
 ·simp[E1,h1]
structure Fit (g:A4) (n:Nat):Prop where
 ids:g.IDs.length=g.Ops.length
 len:g.Ops.length <= n
 ri:Bf g.IDs=true
 op:∀ o∈g.Ops,o.Preds.length <= 20 /\ o.Act.Key.length <= 100 /\ o.Act.Value.Text.length <= 100
theorem Fit.small {n:Nat} (h:Fit g n) (hn:n <= 70):Gj g:=⟨by have:=h.len; omega, by have:=h.len; have:=h.ids; omega,λi hi=>h.op _ (List.getElem_mem hi)⟩
def posF (l:List ID) (x:ID):Nat:=(l.filter λy=>decide (kd y<kd x)).length
theorem NA {l:List ID} (hi:Bf l=true) (x:ID):Pos l x (posF l x):=by
 obtain⟨k,O⟩:=z15q hi x
 have a1:=O.le
 have:posF l x=k:=by
  unfold posF
  rw[<- List.take_append_drop k l,List.filter_append,List.filter_eq_self.2 λy U=>?_,List.filter_eq_nil_iff.2 λy U=>?_]
  ·simp; omega
  ·obtain⟨i,M,rfl⟩:=List.getElem_of_mem U
   rw[List.length_drop] at M
   rw[List.getElem_drop]
   have:=O.hi (k+i) (by omega) (by omega)
   simp; omega
  ·obtain⟨i,M,rfl⟩:=List.getElem_of_mem U
   rw[List.length_take] at M
   rw[List.getElem_take]
   have:=O.lo i (by omega) (by omega)
   simpa using this
 rw[this]; exact O
def Co (g:A4) (p:ID × Ae):A4:=if p.1∈g.IDs then g else insG g (posF g.IDs p.1) p.1 p.2
theorem HR {n:Nat} (h:Fit g n) {p:ID × Ae} (hp:p.2.Preds.length <= 20 /\ p.2.Act.Key.length <= 100 /\ p.2.Act.Value.Text.length <= 100):Fit (Co g p) (n+1):=by
 unfold Co
 split
 ·exact⟨h.ids, by have:=h.len; omega,h.ri,h.op⟩
 ·rename_i hx;have O:=NA h.ri p.1;have U:=O.le;have hi:=h.ids
  refine⟨?_,?_,z160 h.ri hx O,λo M=>?_⟩
  ·show (Ch g.IDs _ _).length=(Ch g.Ops _ _).length
   rw[L0 U,L0 (by omega),hi]
  ·show (Ch g.Ops _ _).length <= _
   rw[L0 (by omega)]; have:=h.len; omega
  ·rcases L1.1 M with rfl | M
   ·exact hp
   ·exact h.op o M
theorem Qc {n:Nat} (h:Fit g n) (hn:n <= 900) (p:ID × Ae) (hp:p.2.Preds.length <= 20):FG g p.1 p.2=some (Co g p,!decide (p.1∈g.IDs)):=by
 have h1:=h.len;have h2:=h.ids;unfold Co;by_cases M:p.1∈g.IDs
 ·rw[z1dl (by omega) h.ri M,if_pos M,decide_eq_true M]; rfl
 ·obtain⟨k,O,U⟩:=z1aw h2 (by omega) h.ri M (o:=p.2) (by omega) (λq hq=>by have:=(h.op q hq).1; omega)
  rw[O,if_neg M,decide_eq_false M,U.uniq (NA h.ri p.1)]; rfl
def Cz (g:A4) (l:List (ID × Ae)):A4:=l.foldl Co g
theorem Qd (g:A4) (l:List (ID × Ae)) (p:ID × Ae):Cz g (l++[p])=Co (Cz g l) p:=by unfold Cz; rw[List.foldl_append]; rfl
theorem Qe {n:Nat}:∀ {l:List (ID × Ae)} {g:A4},Fit g n -> (∀ p∈l,p.2.Preds.length <= 20 /\ p.2.Act.Key.length <= 100 /\ p.2.Act.Value.Text.length <= 100) -> Fit (Cz g l) (n+l.length):=by
 intro l
 induction l generalizing n with
 | nil=>intro g h _; exact h
 | cons p l O =>
  intro g h M
  have:=O (HR h (M p (by simp))) λq U=>M q (by simp[U])
  rw[List.length_cons, show n+(l.length+1)=n+1+l.length by omega]
  exact this
def Dj (g:A4):List (ID × Ae):=g.IDs.zip g.Ops
theorem Qf (h:g.IDs.length=g.Ops.length) {i:Nat} (hi:i<g.Ops.length):(Dj g)[i]? = some (g.IDs[i],g.Ops[i]):=by
 unfold Dj; rw[List.getElem?_zip_eq_some]; exact⟨List.getElem?_eq_getElem (by omega),List.getElem?_eq_getElem hi⟩
theorem L4 (h:g.IDs.length=g.Ops.length):(Dj g).length=g.Ops.length:=by unfold Dj; rw[List.length_zip,h,Nat.min_self]
theorem Qh {p:ID × Ae} (h:p∈Dj g):p.1∈g.IDs /\ p.2∈g.Ops:=by
 unfold Dj at h
 exact⟨(List.of_mem_zip h).1,(List.of_mem_zip h).2⟩
def BP (a b:A4):A4:=Cz a (Dj b)
def Dy (a b:A4):Prop:=∀ i (h:i<b.IDs.length) (h2:i<b.Ops.length),b.IDs[i]∈a.IDs -> a.Ops[a.IDs.idxOf b.IDs[i]]? = some b.Ops[i]
theorem z1b6 {l:List ID} (hi:Bf l=true) (hl:l.length <= 1000) {x:ID} (M:x∈l):G1 l x=some (l.idxOf x:Int):=by
 obtain⟨k,O,U⟩:=PQ l x (by omega)
 rcases U with ⟨-,h⟩ | ⟨i,rfl,h,rfl⟩
 ·exact absurd M h
 ·rw[O,Gf hi h]
theorem z1bw {l:List ID} (hl:l.length <= 1000) {x:ID} (M:x∉l):G1 l x=some (-1):=by
 obtain⟨k,O,U⟩:=PQ l x (by omega)
 rcases U with ⟨rfl,h⟩ | ⟨i,rfl,h,rfl⟩
 ·exact O
 ·exact absurd (List.getElem_mem h) M
end
section
open Go Go.RowKit _root_.Go.Proofs.Tryz
open Go Go.RowKit _root_.Go.Proofs.Tryz
variable {g a b:A4}
theorem z117 (h:b.IDs.length=b.Ops.length) {i:Nat} (hi:i<b.Ops.length):(Dj b).take (i+1)=(Dj b).take i++[(b.IDs[i],b.Ops[i])]:=by
 rw[List.take_add_one,Qf h hi]; rfl
theorem VM {n m:Nat} (O:Fit a n) (M:Fit b m) (i:Nat):Fit (Cz a ((Dj b).take i)) (n+m):=by
 have h:=Qe (l:=(Dj b).take i) O λp U=>M.op _ (Qh (List.mem_of_mem_take U)).2;have hl:((Dj b).take i).length <= m:=by rw[List.length_take,L4 M.ids]; have:=M.len; omega
 exact⟨h.ids, by have:=h.len; omega,h.ri,h.op⟩
theorem z14c {n:Nat} (O:Fit a n) (hn:n <= 500):iter (Kk a) ([],0)=some a.Ops:=by
 have h1:=O.len;have M:=C1 (F:=Kk a) (b:=a.Ops) a.Ops.length (λi=>(a.Ops.take i,(i:Int))) (λi hi=>?_) ?_
 ·rw[List.take_zero] at M; exact M
 ·unfold Kk;simp only[]
  rw[if_pos (by simpa using hi),AE hi]
  simp only[bS]
  rw[L3 (by have:=(O.op _ (List.getElem_mem hi)).1; omega)];simp only[bS]
  rw[Bw (by simp; omega),AO (by omega),VK (List.getElem?_eq_getElem hi)];simp only[bS]
 ·unfold Kk
  rw[if_neg (by simp),List.take_length]
theorem z16m {n m:Nat} (Fa:Fit a n) (M:Fit b m) (hn:n <= 400) (hm:m <= 400):iter (Kl b) (a.IDs,a.Ops,0)=some ((BP a b).IDs,(BP a b).Ops):=by
 have a1:=M.len; have O:=M.ids;have U:=C1 (F:=Kl b) (b:=((BP a b).IDs,(BP a b).Ops)) b.Ops.length (λi=>((Cz a ((Dj b).take i)).IDs,(Cz a ((Dj b).take i)).Ops,(i:Int))) (λi hi=>?_) ?_
 ·exact U
 ·have hf:=VM Fa M i;unfold Kl;simp only[]
  rw[if_pos (by simp; omega),AE (by omega),AE hi];simp only[bS];have hp:=Qc (g:=⟨(Cz a ((Dj b).take i)).IDs,(Cz a ((Dj b).take i)).Ops⟩) hf (by omega) (b.IDs[i],b.Ops[i]) (M.op _ (List.getElem_mem hi)).1;simp only at hp
  rw[hp,AO (by omega)]
  simp only[bS]
  rw[z117 O hi,Qd]
 ·unfold Kl;simp only[]
  rw[if_neg (by simp; omega)];unfold BP
  rw[List.take_of_length_le (by rw[L4 O]; exact Nat.le_refl _)]
theorem z1aa {c d:Int} (M:Cb a=some c) (hb:Cb b=some d):ME [a,b]=some (if c≠0 then c else d):=by
 have e0:Hv [a,b] 0=if c≠0 then some (.inl (.inl c)) else some (.inr 1):=by
  unfold Hv
  rw[if_pos (by simp), show idx [a,b] (0:Int)=some a from rfl]
  simp only[bS]
  rw[M]
  simp only[bS];by_cases h:c=0
  ·subst h; rfl
  ·rw[if_pos (by simpa using h),if_pos h]
 have e1:Hv [a,b] 1=if d≠0 then some (.inl (.inl d)) else some (.inr 2):=by
  unfold Hv
  rw[if_pos (by simp), show idx [a,b] (1:Int)=some b from rfl]
  simp only[bS]
  rw[hb]
  simp only[bS];by_cases h:d=0
  ·subst h; rfl
  ·rw[if_pos (by simpa using h),if_pos h]
 have e2:Hv [a,b] 2=some (.inl (.inr ())):=by
  unfold Hv
  rw[if_neg (by simp)]
 unfold ME;by_cases h:c=0
 ·rw[if_neg (by simpa using h)] at e0
  rw[B9 e0,if_neg (by simpa using h)]
  by_cases h2:d=0
  ·rw[if_neg (by simpa using h2)] at e1
   rw[B9 e1,AW e2,h2]; rfl
  ·rw[if_pos h2] at e1
   rw[AW e1]; rfl
 ·rw[if_pos h] at e0
  rw[AW e0,if_pos h]; rfl
end
section
variable {g h a b:A4} {n m:Nat}
theorem Qi:∀ {l:List Nat} {x:Nat},x∈l->x<=l.sum
 | [],_,h=>by simp at h
 | y::l,x,h=>by
  rw[List.sum_cons];rcases List.mem_cons.1 h with rfl | h
  ·omega
  ·have:=Qi h; omega
def AT (g:A4) (x:ID):Option Ae:=if x∈g.IDs then g.Ops[g.IDs.idxOf x]? else none
theorem Er (F:Fit g n) {x:ID} {o:Ae}:AT g x=some o↔∃ i:Nat,g.IDs[i]? = some x/\g.Ops[i]? = some o:=by
 unfold AT
 constructor
 ·intro h
  split at h
  ·rename_i M;exact⟨_, by rw[List.getElem?_eq_getElem (List.idxOf_lt_length_of_mem M)]; simp,h⟩
  ·cases h
 ·rintro⟨i,h1,h2⟩
  obtain⟨hi,rfl⟩:=List.getElem?_eq_some_iff.1 h1;rw[if_pos (List.getElem_mem hi),Gf F.ri hi,h2]
theorem Et (F:Fit g n) {i:Nat} (hi:i<g.Ops.length):AT g (g.IDs[i]'(by rw[F.ids]; exact hi))=some g.Ops[i] :=
 (Er F).2 ⟨i,List.getElem?_eq_getElem (by rw[F.ids]; exact hi),List.getElem?_eq_getElem hi⟩
theorem DH {x:ID} {o:Ae} (h:AT g x=some o):x∈g.IDs/\o∈g.Ops:=by
 unfold AT at h
 split at h
 ·exact⟨by assumption,List.mem_of_getElem? h⟩
 ·cases h
theorem DR (F:Fit g n) {x:ID} (M:x∈g.IDs):∃ o,AT g x=some o:=by
 have h1:g.IDs.idxOf x<g.Ops.length:=by rw[<- F.ids]; exact List.idxOf_lt_length_of_mem M
 exact⟨g.Ops[g.IDs.idxOf x], by unfold AT; rw[if_pos M,List.getElem?_eq_getElem h1]⟩
theorem H1 {x:ID} (M:x∉g.IDs):AT g x=none:=by unfold AT; rw[if_neg M]
theorem L5 (F:Fit g n) {x:ID}:(AT g x).isSome=decide (x∈g.IDs):=by
 by_cases M:x∈g.IDs
 ·obtain⟨o,O⟩:=DR F M; rw[O,decide_eq_true M]; rfl
 ·rw[H1 M,decide_eq_false M]; rfl
theorem J7 (O:Fit g n) (U:Fit h m) (e:∀ x,AT g x=AT h x):g=h:=by
 have M:g.IDs=h.IDs:=Vz _ _ ((F7 _).1 O.ri) ((F7 _).1 U.ri) λx=>by
  have h1:=L5 O (x:=x);have h2:=L5 U (x:=x);rw[e] at h1;rw[h1] at h2
  simpa using h2
 have hl:g.Ops.length=h.Ops.length:=by rw[<- O.ids,<- U.ids,M]
 have a1:g.Ops=h.Ops:=List.ext_getElem hl λi h1 h2=>by
  have e1:=Et O h1;have e2:=Et U h2;have e3:g.IDs[i]'(by rw[O.ids]; exact h1)=h.IDs[i]'(by rw[U.ids]; exact h2):=by simp[M]
  rw[e3,e,e2] at e1;exact(Option.some.inj e1).symm
 cases g; cases h
 simp only at M a1;rw[M,a1]
theorem Qj (F:Fit g n) (p:ID × Ae) {x:ID}:x∈(Co g p).IDs↔x=p.1\/x∈g.IDs:=by
 unfold Co
 split
 ·rename_i h; constructor
  ·exact .inr
  ·rintro (rfl | h2)
   ·exact h
   ·exact h2
 ·exact L1
theorem NB (F:Fit g n) {p:ID × Ae} (hp:p.2.Preds.length<=20/\p.2.Act.Key.length<=100/\p.2.Act.Value.Text.length<=100) (hx:p.1∉g.IDs) (y:ID):AT (Co g p) y=if y=p.1 then some p.2 else AT g y:=by
 have O:=HR F hp;have hk:=NA F.ri p.1;have M:=hk.le;have hi:=F.ids;have e:Co g p=insG g (posF g.IDs p.1) p.1 p.2:=by unfold Co; rw[if_neg hx]
 rw[e] at O ⊢;generalize posF g.IDs p.1=k at hk M O;by_cases U:y=p.1
 ·rw[if_pos U,Er O];exact⟨k, by show (Ch g.IDs k p.1)[k]? = _; rw[Q8 M,U],Q8 (by omega)⟩
 ·rw[if_neg U]
  cases ho:AT g y with
  | some o =>
   obtain⟨i,h1,h2⟩:=(Er F).1 ho;rw[Er O];by_cases a1:i<k
   ·exact⟨i, by show (Ch g.IDs k p.1)[i]? = _; rw[Q7 M a1,h1], by show (Ch g.Ops k p.2)[i]? = _; rw[Q7 (by omega) a1,h2]⟩
   ·exact⟨i+1, by show (Ch g.IDs k p.1)[i+1]? = _; rw[Q9 M (by omega)]; exact h1, by show (Ch g.Ops k p.2)[i+1]? = _; rw[Q9 (by omega) (by omega)]; exact h2⟩
  | none =>
   refine H1 λhm=>?_;rcases L1.1 hm with rfl | hm
   ·exact U rfl
   ·obtain⟨o,h⟩:=DR F hm; rw[h] at ho; cases ho
def VN (g:A4) (rk:ID->Nat):Prop:=∀ x o,AT g x=some o->∀ p∈o.Preds,rk p<rk x
theorem z19d (G:C2 g) (F:Fit g n):∃ rk,VN g rk:=by
 obtain⟨Q,-,q1,O,U⟩:=Vo G.e G.ins;refine⟨λx=>Q.idxOf (g.IDs.idxOf x), λx o ho p hp=>?_⟩;obtain⟨i,h1,h2⟩:=(Er F).1 ho;obtain⟨hi,rfl⟩:=List.getElem?_eq_some_iff.1 h1;obtain⟨M,rfl⟩:=List.getElem?_eq_some_iff.1 h2;have hiQ:i∈Q:=(U i).2 ⟨M,G.wf i M⟩;have hk:Q.idxOf i<Q.length:=List.idxOf_lt_length_of_mem hiQ;show Q.idxOf (g.IDs.idxOf p)<Q.idxOf (g.IDs.idxOf g.IDs[i]);rw[Gf F.ri hi]
 have hm:=O (Q.idxOf i) hk (g.IDs.idxOf p) (by
  have:Q[Q.idxOf i]=i:=by simp
  rw[this];unfold AS
  exact List.mem_map.2 ⟨p, by rw[Dw M]; exact hp,rfl⟩)
 obtain⟨j,hj,e⟩:=List.getElem_of_mem hm;rw[List.length_take] at hj;rw[List.getElem_take] at e
 have:Q.idxOf (g.IDs.idxOf p)<=j:=by
  rw[<- e];exact Nat.le_of_not_lt λc=>by
   have:=List.not_of_lt_findIdx (p:=λy=>y==Q[j]) (xs:=Q) (i:=j) (by simpa [List.idxOf] using c)
   simp at this
 omega
structure Fj (g:A4):Prop where
 ops:∀ x o,AT g x=some o->Di o=0/\sha (CS o)=x/\o.Preds.length<=4/\Bf o.Preds=true
 ins:∀ x o,AT g x=some o->∀ p∈o.Preds,p∈g.IDs
 rk:∃ rk,VN g rk
theorem H2 (G:C2 g) (F:Fit g n):Fj g:=by
 refine⟨λx o O=>?_, λx o O p U=>?_,z19d G F⟩
 ·obtain⟨i,h1,h2⟩:=(Er F).1 O;obtain⟨hi,rfl⟩:=List.getElem?_eq_some_iff.1 h1;obtain⟨M,rfl⟩:=List.getElem?_eq_some_iff.1 h2;obtain⟨k1,k2⟩:=G.ops i M;exact⟨k1,k2.trans (E0 hi),G.e.op i M⟩
 ·obtain⟨i,h1,h2⟩:=(Er F).1 O;obtain⟨M,rfl⟩:=List.getElem?_eq_some_iff.1 h2;exact FJ G.ins i p (by rw[Dw M]; exact U)
theorem J8 (F:Fit g 60) (S:Fj g):C2 g:=by
 have hl:=F.len;have E:Cj g:=⟨hl,F.ids,F.ri, λi hi=>(S.ops _ _ (Et F hi)).2.2⟩
 have U:Dx g=true:=by
  unfold Dx;rw[List.all_eq_true];intro o ho;rw[List.all_eq_true];intro p M;obtain⟨i,hi,rfl⟩:=List.getElem_of_mem ho
  simpa using S.ins _ _ (Et F hi) p M
 obtain⟨rk,a1⟩:=S.rk;refine⟨E, λi hi=>?_,U, λi hi=>?_⟩
 ·obtain⟨k1,k2,-⟩:=S.ops _ _ (Et F hi);exact⟨k1,k2.trans (E0 (by rw[F.ids]; exact hi)).symm⟩
 ·have key:∀ r i (hi:i<g.Ops.length),rk (g.IDs[i]'(by rw[F.ids]; exact hi))=r->Wf (AS g) i:=by
   intro r
   induction r using Nat.strongRecOn with
   | _ r ih =>
    intro i hi hr;refine .mk i λp M=>?_;unfold AS at M;obtain⟨x,O,rfl⟩:=List.mem_map.1 M;rw[Dw hi] at O;have a7:=a1 _ _ (Et F hi) x O;have a2:=S.ins _ _ (Et F hi) x O;have a6:g.IDs.idxOf x<g.IDs.length:=List.idxOf_lt_length_of_mem a2;refine ih (rk x) (by omega) (g.IDs.idxOf x) (by rw[<- F.ids]; exact a6) ?_
    congr 1
    simp
  exact key _ i hi rfl
theorem VO (F:Fit g n) (S:Fj g) {p:ID × Ae} (hp:p.2.Preds.length<=20/\p.2.Act.Key.length<=100/\p.2.Act.Value.Text.length<=100) (hx:p.1∉g.IDs) (h1:Di p.2=0/\sha (CS p.2)=p.1/\p.2.Preds.length<=4/\Bf p.2.Preds=true) (h2:∀ q∈p.2.Preds,q∈g.IDs):Fj (Co g p):=by
 obtain⟨rk,a1⟩:=S.rk;have hl:=NB F hp hx;refine⟨λx o M=>?_, λx o M q O=>?_,?_⟩
 ·rw[hl] at M
  split at M
  ·rename_i e; cases M; subst e; exact h1
  ·exact S.ops x o M
 ·rw[Qj F];rw[hl] at M
  split at M
  ·cases M; exact .inr (h2 q O)
  ·exact .inr (S.ins x o M q O)
 ·refine⟨λy=>if y=p.1 then (g.IDs.map rk).sum+1 else rk y, λx o M q O=>?_⟩;have U:q∈g.IDs:=by
   rw[hl] at M
   split at M
   ·cases M; exact h2 q O
   ·exact S.ins x o M q O
  have a2:q≠p.1:=λe=>hx (e ▸ U);simp only[if_neg a2];rw[hl] at M
  split at M
  ·rename_i e;rw[if_pos e]
   have:rk q<=(g.IDs.map rk).sum:=Qi (List.mem_map.2 ⟨q,U,rfl⟩)
   omega
  ·rename_i e;rw[if_neg e];exact a1 x o M q O
theorem VP {l:List (ID × Ae)}:∀ {g:A4} {n:Nat},Fit g n->(∀ p∈l,p.2.Preds.length<=20/\p.2.Act.Key.length<=100/\p.2.Act.Value.Text.length<=100)->(l.map Prod.fst).Nodup->∀ y,AT (Cz g l) y=(AT g y).or ((l.find? λp=>decide (p.1=y)).map Prod.snd):=by
 induction l with
 | nil=>intro g n F _ _ y; simp[Cz]
 | cons p l ih =>
  intro g n F hp O y;rw[List.map_cons,List.nodup_cons] at O;have a1:=hp p (by simp);have e:Cz g (p::l)=Cz (Co g p) l:=rfl;rw[e,ih (HR F a1) (λq hq=>hp q (by simp[hq])) O.2,List.find?_cons];have a2:p.1=y->l.find? (λq=>decide (q.1=y))=none:=λe=>by
   rw[List.find?_eq_none];intro q hq hh;exact O.1 (List.mem_map.2 ⟨q,hq, by simpa [e] using hh⟩)
  by_cases U:p.1∈g.IDs
  ·have ea:Co g p=g:=by unfold Co; rw[if_pos U]
   rw[ea];by_cases M:p.1=y
   ·obtain⟨o,ho⟩:=DR F U;rw[<- M,ho]; rfl
   ·rw[decide_eq_false M]
  ·rw[NB F a1 U];by_cases M:p.1=y
   ·rw[if_pos M.symm,decide_eq_true M,H1 (by rw[<- M]; exact U)]; rfl
   ·rw[if_neg λe=>M e.symm,decide_eq_false M]
theorem z17b (F:Fit b m) (y:ID):((Dj b).find? λp=>decide (p.1=y)).map Prod.snd=AT b y:=by
 cases M:AT b y with
 | none =>
  have:(Dj b).find? (λp=>decide (p.1=y))=none:=List.find?_eq_none.2 λq hq hh=>by
   have h1:=(Qh hq).1
   have:q.1=y:=by simpa using hh
   rw[this] at h1;obtain⟨o,h⟩:=DR F h1;rw[h] at M; cases M
  rw[this]; rfl
 | some o =>
  cases U:(Dj b).find? (λp=>decide (p.1=y)) with
  | none =>
   obtain⟨i,h1,h2⟩:=(Er F).1 M;obtain⟨O,rfl⟩:=List.getElem?_eq_some_iff.1 h2;have hi:=Qf F.ids O
   have:=List.find?_eq_none.1 U _ (List.mem_of_getElem? hi)
   rw[List.getElem?_eq_getElem (by rw[F.ids]; exact O)] at h1;simp only[Option.some.injEq] at h1;simp[h1] at this
  | some q =>
   have h1:=List.find?_some U;have h2:=List.mem_of_find?_eq_some U;have h1:q.1=y:=by simpa using h1
   obtain⟨i,hi,rfl⟩:=List.getElem_of_mem h2;rw[L4 F.ids] at hi;have e:=Qf F.ids hi;rw[List.getElem?_eq_getElem (by rw[L4 F.ids]; exact hi)] at e;simp only[Option.some.injEq] at e;rw[e] at h1 ⊢
   have:=Et F hi
   simp only at h1;rw[h1,M] at this;exact this.symm
theorem zwk (F:Fit b m):((Dj b).map Prod.fst).Nodup:=by
 unfold Dj;rw[List.map_fst_zip (by rw[F.ids]; exact Nat.le_refl _)];exact Ge F.ri
theorem Fk (O:Fit a n) (M:Fit b m) (y:ID):AT (BP a b) y=(AT a y).or (AT b y):=by
 unfold BP;rw[VP O (λp U=>M.op _ (Qh U).2) (zwk M),z17b M]
theorem Ee (O:Fit a n) (M:Fit b m):Fit (BP a b) (n+m):=by
 have:=VM O M b.Ops.length
 rw[List.take_of_length_le (by rw[L4 M.ids]; exact Nat.le_refl _)] at this;exact this
theorem z144 (M:Fit a n) (O:Fit b m) {x:ID}:x∈(BP a b).IDs↔x∈a.IDs\/x∈b.IDs:=by
 have h1:=L5 (Ee M O) (x:=x);rw[Fk M O,Option.isSome_or,L5 M,L5 O] at h1
 have:=congrArg (· = true) h1
 simp only[Bool.or_eq_true,decide_eq_true_eq,eq_iff_iff] at this;exact this.symm
theorem HS (Fa:Fit a n) (Fb:Fit b m):Dy a b↔∀ x o q,AT a x=some o->AT b x=some q->o=q:=by
 constructor
 ·intro h x o q M hq;obtain⟨i,h1,h2⟩:=(Er Fb).1 hq;obtain⟨hi,rfl⟩:=List.getElem?_eq_some_iff.1 h1;obtain⟨O,rfl⟩:=List.getElem?_eq_some_iff.1 h2;have U:=(DH M).1
  have:=h i hi O U
  unfold AT at M;rw[if_pos U,this] at M;exact(Option.some.inj M).symm
 ·intro h i hi O U;obtain⟨o,M⟩:=DR Fa U
  have:=h _ o _ M (Et Fb O)
  unfold AT at M;rw[if_pos U,this] at M;exact M
theorem zwm (Fa:Fit a n) (Fb:Fit b m) (Sa:Fj a) (Sb:Fj b) (hc:Dy a b):Fj (BP a b):=by
 obtain⟨ra,a1⟩:=Sa.rk;obtain⟨rb,a2⟩:=Sb.rk;have hl:=Fk Fa Fb;have cases2:∀ x o,AT (BP a b) x=some o->AT a x=some o\/x∉a.IDs/\AT b x=some o:=λx o M=>by
  rw[hl] at M
  cases h:AT a x with
  | some q=>rw[h] at M; exact .inl M
  | none =>
   rw[h] at M;refine .inr ⟨λhm=>?_,M⟩;obtain⟨q,hq⟩:=DR Fa hm; rw[hq] at h; cases h
 refine⟨λx o M=>?_, λx o M p O=>?_, λy=>if y∈a.IDs then ra y else (a.IDs.map ra).sum+1+rb y, λx o M p O=>?_⟩
 ·rcases cases2 x o M with h | ⟨-,h⟩
  ·exact Sa.ops x o h
  ·exact Sb.ops x o h
 ·rw[z144 Fa Fb];rcases cases2 x o M with h | ⟨-,h⟩
  ·exact .inl (Sa.ins x o h p O)
  ·exact .inr (Sb.ins x o h p O)
 ·show (if p∈a.IDs then ra p else (a.IDs.map ra).sum+1+rb p)<(if x∈a.IDs then ra x else (a.IDs.map ra).sum+1+rb x);rcases cases2 x o M with h | ⟨hx,h⟩
  ·rw[if_pos (Sa.ins x o h p O),if_pos (DH h).1];exact a1 x o h p O
  ·rw[if_neg hx];by_cases U:p∈a.IDs
   ·rw[if_pos U]
    have:ra p<=(a.IDs.map ra).sum:=Qi (List.mem_map.2 ⟨p,U,rfl⟩)
    omega
   ·rw[if_neg U]
    have:=a2 x o h p O
    omega
end
section
variable {g a b:A4} {n m:Nat}
theorem z11f (Fa:Fit a n) (Fb:Fit b m) (hn:n<=500) (hm:m<=500):∃ r,iter (G7 a b) 0=some r/\((r=.inl ((⟨[],[]⟩:A4),14)/\¬ Dy a b)\/(r=.inr ()/\Dy a b)):=by
 have a6:=Fa.len; have a7:=Fa.ids; have a8:=Fb.len; have aa:=Fb.ids;have key:∀ k i,b.IDs.length - i=k->i<=b.IDs.length->(∀ j (h:j<b.IDs.length) (h2:j<b.Ops.length),j<i->b.IDs[j]∈a.IDs->a.Ops[a.IDs.idxOf b.IDs[j]]? = some b.Ops[j]) ->
   ∃ r,iter (G7 a b) (i:Int)=some r/\((r=.inl ((⟨[],[]⟩:A4),14)/\¬ Dy a b)\/(r=.inr ()/\Dy a b)):=by
  intro k
  induction k with
  | zero =>
   intro i hk hi O;refine⟨.inr (),AW ?_,.inr ⟨rfl, λj h h2 hj=>O j h h2 (by omega) hj⟩⟩
   ·unfold G7; rw[if_neg (by simp; omega)]
  | succ k ih =>
   intro i hk hi O;have M:i<b.IDs.length:=by omega
   have a1:i<b.Ops.length:=by omega
   by_cases hx:b.IDs[i]∈a.IDs
   ·obtain⟨q,q1,q2,-⟩:=J4 a (by omega) Fa.ri b.IDs[i];obtain⟨rfl,hq⟩:=q2 hx;have U:a.IDs.idxOf b.IDs[i]<a.Ops.length:=by omega
    have a2:=(Fa.op _ (List.getElem_mem U)).1;by_cases hs:a.Ops[a.IDs.idxOf b.IDs[i]]=b.Ops[i]
    ·have hF:G7 a b (i:Int)=some (.inr ((i+1:Nat):Int)):=by
      unfold G7;rw[if_pos (by simpa using M),AE M];simp only[bS];rw[q1,decide_eq_true hx];simp only[bS];rw[if_pos trivial,AE U,AE a1];simp only[bS];rw[VL _ _ (by omega),decide_eq_true hs,AO (by omega)];simp only[bS];rw[if_neg (by simp)]
     rw[B9 hF];refine ih (i+1) (by omega) (by omega) λj h h2 hj hm=>?_;by_cases e:j=i
     ·subst e; rw[List.getElem?_eq_getElem U,hs]
     ·exact O j h h2 (by omega) hm
    ·refine⟨.inl ((⟨[],[]⟩:A4),14),AW ?_,.inl ⟨rfl, λh=>hs ?_⟩⟩
     ·unfold G7;rw[if_pos (by simpa using M),AE M];simp only[bS];rw[q1,decide_eq_true hx];simp only[bS];rw[if_pos trivial,AE U,AE a1];simp only[bS];rw[VL _ _ (by omega),decide_eq_false hs];simp only[bS];rw[if_pos (by simp)]
     ·have:=h i M a1 hx
      rw[List.getElem?_eq_getElem U] at this
      simpa using this
   ·obtain⟨q,q1,-⟩:=VJ a (by omega) Fa.ri b.IDs[i] hx;have hF:G7 a b (i:Int)=some (.inr ((i+1:Nat):Int)):=by
     unfold G7;rw[if_pos (by simpa using M),AE M];simp only[bS];rw[q1];simp only[bS];rw[if_neg (by simp),AO (by omega)];simp only[bS];rw[if_neg (by simp)]
    rw[B9 hF];refine ih (i+1) (by omega) (by omega) λj h h2 hj hm=>?_;by_cases e:j=i
    ·subst e; exact absurd hm hx
    ·exact O j h h2 (by omega) hm
 exact key _ 0 rfl (Nat.zero_le _) λj _ _ h=>by omega
theorem Qk (Ga:C2 a) (Gb:C2 b) (U:Cb a=some 0) (hb:Cb b=some 0) (M:Fit a 60) (O:Fit b 60) (hc:Dy a b) :
  F8 a b=some (if 60<(BP a b).Ops.length then (⟨[],[]⟩,4) else (BP a b,0)):=by
 obtain⟨r,r1,r3⟩:=z11f M O (by omega) (by omega);rcases r3 with ⟨-,h⟩ | ⟨rfl,-⟩
 ·exact absurd hc h
 unfold F8;rw[z1aa U hb];simp only[bS];rw[if_neg (by simp),r1];simp only[Df];rw[L2 (by have:=M.ids; have:=M.len; omega),z14c M (by omega)];simp only[bS];rw[z16m M O (by omega) (by omega)];simp only[bS];by_cases h:60<(BP a b).Ops.length
 ·rw[if_pos (by simp; omega),if_pos h]
 ·rw[if_neg (by simp; omega),if_neg h]
theorem VQ (F:Fit g n) (hn:n<=900):KE g=some g:=by
 have h1:=F.len;have h2:=F.ids;have M:=C1 (F:=N3 (g.IDs,g.Ops)) (b:=g.Ops) g.Ops.length (λi=>(g.Ops,(i:Int))) (λi hi=>?_) ?_
 ·unfold KE;rw[L2 (by omega)];simp only[bS];unfold Pc;rw[Bw (by simp; omega)];simp only[bS,List.nil_append];rw[show (0:Int)=((0:Nat):Int) from rfl,M];simp only[bS]
 ·have h4:=(F.op _ (List.getElem_mem hi)).1;unfold N3;simp only[];rw[if_pos (by simpa using hi),AE hi];simp only[bS];rw[L2 (by omega),AO (by omega)];simp only[bS];rw[Int.toNat_natCast, show ({ g.Ops[i] with Preds:=g.Ops[i].Preds }:Ae)=g.Ops[i] from rfl,List.set_getElem_self]
 ·unfold N3;simp only[];rw[if_neg (by simp)]
theorem Ql (l:List A4) (hl:l.length<=1000) (F:∀ g∈l,Fit g 900):HC l=some l:=by
 have M:=C1 (F:=N4 l) (b:=l) l.length (λi=>(l.take i,(i:Int))) (λi hi=>?_) ?_
 ·unfold HC;rw[List.take_zero] at M;rw[show (0:Int)=((0:Nat):Int) from rfl,M];simp only[bS]
 ·unfold N4;simp only[];rw[if_pos (by simpa using hi),AE hi];simp only[bS];rw[VQ (F _ (List.getElem_mem hi)) (by omega)];simp only[bS];rw[Bw (by simp; omega),AO (by omega)];simp only[bS];rw[List.take_add_one,List.getElem?_eq_getElem hi]; rfl
 ·unfold N4;simp only[];rw[if_neg (by simp),List.take_length]
theorem z18k (l m:List ID) (hm:m.length<=1000):GK l m=some (decide (l=m)):=by
 by_cases h:l.length=m.length
 ·exact Qa l m (by omega)
 ·have M:l≠m:=λe=>h (by rw[e]);unfold GK;rw[if_pos (by simp; omega),decide_eq_false M]
theorem z14p (p q:Ae) (O:q.Preds.length<=1000):IK p q=some (decide (p=q)):=by
 unfold IK;rw[z18k _ _ O];simp only[bS];by_cases h1:p.Author=q.Author
 ·by_cases h2:p.Stamp=q.Stamp
  ·by_cases h3:p.Act=q.Act
   ·by_cases M:p.Sig=q.Sig
    ·simp[E1,h1,h2,h3,M]
    ·simp[E1,h1,h2,h3,M]
   ·simp[E1,h1,h2,h3]
  ·simp[E1,h1,h2]
 ·simp[E1,h1]
end
section
variable {g a b:A4} {n m:Nat} {l:List A4}
structure Rp (g:A4):Prop where
 good:C2 g
 op:∀ o∈g.Ops,o.Preds.length<=20/\o.Act.Key.length<=100/\o.Act.Value.Text.length<=100
 wf:CN g
theorem Rp.fit (h:Rp g):Fit g 60:=⟨h.good.e.ids,h.good.e.len,h.good.e.ri,h.op⟩
theorem Rp.chk (h:Rp g):Cb g=some 0/\IB g=some 0:=by
 obtain⟨c,M,O,U⟩:=Nx h.wf
 have:=U.2 h.good
 subst this;exact⟨M,O⟩
def CO (l:List A4) (x:ID):Option Ae:=l.findSome? λg=>AT g x
theorem VR (l:List A4) (g:A4) (x:ID):CO (l++[g]) x=(CO l x).or (AT g x):=by
 unfold CO;rw[List.findSome?_append]
 simp
def Eg (l:List A4):Prop:=∀ g∈l,∀ h∈l,∀ x o q,AT g x=some o->AT h x=some q->o=q
theorem L6 {x:ID} {o:Ae} (h:CO l x=some o):∃ g∈l,AT g x=some o:=by
 unfold CO at h;obtain⟨g,h1,h2⟩:=List.exists_of_findSome?_eq_some h;exact⟨g,h1,h2⟩
theorem HT (A:Eg l) {g:A4} (O:g∈l) {x:ID} {o:Ae} (h:AT g x=some o):CO l x=some o:=by
 cases M:CO l x with
 | none =>
  unfold CO at M
  have:=List.findSome?_eq_none_iff.1 M g O
  rw[h] at this; cases this
 | some q =>
  obtain⟨g',h1,h2⟩:=L6 M;rw[A g O g' h1 x o q h h2]
def Fl (g:A4) (P:ID->Option Ae):Prop:=∃ x o q,AT g x=some o/\P x=some q/\o≠q
theorem zvo (hi:Bf g.IDs=true) {i:Nat} (h:i<g.IDs.length):g.IDs[i]∉g.IDs.take i:=λM=>by
 obtain⟨j,O,e⟩:=List.getElem_of_mem M;rw[List.length_take] at O;rw[List.getElem_take] at e
 have:=Va hi (by omega) h e
 omega
theorem z13q (R:Rp g) (P:ID->Option Ae) :
  ∀ k i (s:List (ID × Ae)),g.IDs.length - i=k->i<=g.IDs.length->(∀ x,C7 s x=(if x∈g.IDs.take i then AT g x else none).or (P x))->(∀ j (h:j<g.IDs.length) (h2:j<g.Ops.length) q,j<i->P g.IDs[j]=some q->q=g.Ops[j]) ->
   ∃ r,iter (HB g) (s,(i:Int))=some r/\((r=.inl (.inl (.inl 14))/\Fl g P)\/∃ t,r=.inr t/\¬ Fl g P/\∀ x,C7 t x=(AT g x).or (P x)):=by
 have F:=R.fit;have hl:=F.len; have ah:=F.ids;intro k
 induction k with
 | zero =>
  intro i s hk hi hs a2;have ac:i=g.IDs.length:=by omega
  subst ac;refine⟨.inr s,AW ?_,.inr ⟨s,rfl,?_, λx=>?_⟩⟩
  ·unfold HB;simp only[];rw[if_neg (by simp)]
  ·rintro⟨x,o,q,h1,h2,h3⟩
   obtain⟨j,j1,j2⟩:=(Er F).1 h1;obtain⟨hj,rfl⟩:=List.getElem?_eq_some_iff.1 j1;obtain⟨ad,rfl⟩:=List.getElem?_eq_some_iff.1 j2;exact h3 (a2 j hj ad q hj h2).symm
  ·rw[hs,List.take_length];by_cases U:x∈g.IDs
   ·rw[if_pos U]
   ·rw[if_neg U,H1 U]
 | succ k ih =>
  intro i s hk hi hs a2;have M:i<g.IDs.length:=by omega
  have a6:i<g.Ops.length:=by omega
  have ae:=zvo F.ri M;have aa:C7 s g.IDs[i]=P g.IDs[i]:=by rw[hs,if_neg ae]; rfl
  have ab:=Et F a6;have af:g.IDs.take (i+1)=g.IDs.take i++[g.IDs[i]]:=by rw[List.take_add_one,List.getElem?_eq_getElem M]; rfl
  have a1:∀ x,x∈g.IDs.take (i+1)↔x∈g.IDs.take i\/x=g.IDs[i]:=λx=>by rw[af,List.mem_append,List.mem_singleton]
  have a7:∀ x,C7 (Du s g.IDs[i] g.Ops[i]) x=(if x∈g.IDs.take (i+1) then AT g x else none).or (P x):=λx=>by
   rw[Ny];by_cases e:x=g.IDs[i]
   ·rw[if_pos e,if_pos ((a1 x).2 (.inr e)),e,ab];rfl
   ·rw[if_neg e,hs];by_cases U:x∈g.IDs.take i
    ·rw[if_pos U,if_pos ((a1 x).2 (.inl U))]
    ·rw[if_neg U,if_neg (λh=>((a1 x).1 h).elim U e)]
  cases hP:P g.IDs[i] with
  | none =>
   have hF:HB g (s,(i:Int))=some (.inr (Du s g.IDs[i] g.Ops[i],((i+1:Nat):Int))):=by
    unfold HB;simp only[];rw[if_pos (by simpa using M),AE M];simp only[bS];rw[aa,hP];simp only[Option.isSome_none,Bool.false_eq_true,if_false,Df];rw[AE a6,AO (by omega)];simp only[bS]
   rw[B9 hF];refine ih (i+1) _ (by omega) (by omega) a7 λj h h2 q hj hq=>?_;by_cases e:j=i
   ·subst e; rw[hP] at hq; cases hq
   ·exact a2 j h h2 q (by omega) hq
  | some q =>
   have ai:q.Preds.length<=1000\/True:=.inr trivial;have O:HB g (s,(i:Int))=if !decide (q=g.Ops[i]) then some (.inl (.inl (.inl (.inl 14)))) else some (.inr (Du s g.IDs[i] g.Ops[i],((i+1:Nat):Int))):=by
    have a8:IK q g.Ops[i]=some (decide (q=g.Ops[i])):=by
     have h4:=(F.op _ (List.getElem_mem a6)).1
     have:IK q g.Ops[i]=some (decide (q=g.Ops[i])):=z14p q g.Ops[i] (by omega)
     exact this
    unfold HB;simp only[];rw[if_pos (by simpa using M),AE M];simp only[bS];rw[aa,hP];simp only[Option.isSome_some,if_true,Option.getD_some];rw[AE a6,AO (by omega)];simp only[bS];rw[a8];simp only[bS]
    cases decide (q=g.Ops[i]) <;> rfl
   by_cases he:q=g.Ops[i]
   ·rw[decide_eq_true he,if_neg (by simp)] at O;rw[B9 O];refine ih (i+1) _ (by omega) (by omega) a7 λj h h2 q' hj hq=>?_;by_cases e:j=i
    ·subst e; rw[hP] at hq; cases hq; exact he
    ·exact a2 j h h2 q' (by omega) hq
   ·rw[decide_eq_false he,if_pos (by simp)] at O;exact⟨_,AW O,.inl ⟨rfl,g.IDs[i],g.Ops[i],q,ab,hP, λe=>he e.symm⟩⟩
theorem Qm {g:A4} (A:Eg l):Eg (l++[g])↔¬ Fl g (CO l):=by
 constructor
 ·rintro B ⟨x,o,q,h1,h2,h3⟩
  obtain⟨g',h4,h5⟩:=L6 h2;exact h3 (B g (by simp) g' (by simp[h4]) x o q h1 h5)
 ·intro hc h hh h' a1 x o q h1 h2;rcases List.mem_append.1 hh with M | M <;> rcases List.mem_append.1 a1 with O | O
  ·exact A h M h' O x o q h1 h2
  ·rw[List.mem_singleton] at O; subst O;refine Classical.byContradiction λU=>hc ⟨x,q,o,h2,HT A M h1, λe=>U e.symm⟩
  ·rw[List.mem_singleton] at M; subst M;exact Classical.byContradiction λU=>hc ⟨x,o,q,h1,HT A O h2,U⟩
  ·rw[List.mem_singleton] at M O; subst M; subst O;rw[h1] at h2; exact Option.some.inj h2
theorem z111 {i:Nat} (A:Eg l):Eg (l.take i):=λg M h hh=>A g (List.mem_of_mem_take M) h (List.mem_of_mem_take hh)
theorem z16j (hl:l.length<=1000) (R:∀ g∈l,Rp g):∀ k i (s:List (ID × Ae)),l.length - i=k->i<=l.length->Eg (l.take i)->(∀ x,C7 s x=CO (l.take i) x) ->
  ∃ r,iter (KD l) (s,(i:Int))=some r/\((r=.inl 14/\¬ Eg l)\/(r=.inr ()/\Eg l)):=by
 intro k
 induction k with
 | zero =>
  intro i s hk hi A hs;have a1:i=l.length:=by omega
  subst a1;rw[List.take_length] at A;refine⟨.inr (),AW ?_,.inr ⟨rfl,A⟩⟩;unfold KD;simp only[];rw[if_neg (by simp)]
 | succ k ih =>
  intro i s hk hi A hs;have M:i<l.length:=by omega
  have O:l.take (i+1)=l.take i++[l[i]]:=by rw[List.take_add_one,List.getElem?_eq_getElem M]; rfl
  obtain⟨r,r1,r2⟩:=z13q (R _ (List.getElem_mem M)) (CO (l.take i)) _ 0 s rfl (Nat.zero_le _) (λx=>by rw[hs]; simp) (λj _ _ _ h=>by omega)
  have hF:KD l (s,(i:Int))=Bi (some r) λa2=>some (.inr (a2,((i+1:Nat):Int))):=by
   unfold KD;simp only[];rw[if_pos (by simpa using M),AE M];simp only[bS];rw[show (0:Int)=((0:Nat):Int) from rfl,r1,AO (by omega)]
  rcases r2 with ⟨rfl,U⟩ | ⟨t,rfl,U,ht⟩
  ·refine⟨.inl 14,AW (by rw[hF]; rfl),.inl ⟨rfl, λB=>?_⟩⟩
   have:=z111 (i:=i+1) B
   rw[O] at this;exact(Qm A).1 this U
  ·rw[Df] at hF;rw[B9 hF];have A':Eg (l.take (i+1)):=by rw[O]; exact(Qm A).2 U
   refine ih (i+1) t (by omega) (by omega) A' λx=>?_;rw[ht,O,VR]
   cases h1:AT l[i] x with
   | none=>simp
   | some o =>
    cases h2:CO (l.take i) x with
    | none=>rfl
    | some q =>
     have:o=q:=Classical.byContradiction λa6=>U ⟨x,o,q,h1,h2,a6⟩
     rw[this]
theorem z13h (Ra:Rp a) (Rb:Rp b):∃ c,Nd a b=some c/\(c=true↔Fl a (AT b)):=by
 have Fa:=Ra.fit; have Fb:=Rb.fit;have ad:=Fa.len; have ae:=Fa.ids; have af:=Fb.len; have a8:=Fb.ids;have key:∀ k i,a.IDs.length - i=k->i<=a.IDs.length->(∀ j (h:j<a.IDs.length) (h2:j<a.Ops.length) q,j<i->AT b a.IDs[j]=some q->q=a.Ops[j]) ->
   ∃ r,iter (HH a b) (i:Int)=some r/\((r=.inl true/\Fl a (AT b))\/(r=.inr ()/\¬ Fl a (AT b))):=by
  intro k
  induction k with
  | zero =>
   intro i hk hi U;have aa:i=a.IDs.length:=by omega
   subst aa;refine⟨.inr (),AW (by unfold HH; rw[if_neg (by simp)]),.inr ⟨rfl,?_⟩⟩
   rintro⟨x,o,q,h1,h2,h3⟩
   obtain⟨j,j1,j2⟩:=(Er Fa).1 h1;obtain⟨hj,rfl⟩:=List.getElem?_eq_some_iff.1 j1;obtain⟨ab,rfl⟩:=List.getElem?_eq_some_iff.1 j2;exact h3 (U j hj ab q hj h2).symm
  | succ k ih =>
   intro i hk hi U;have a1:i<a.IDs.length:=by omega
   have a2:i<a.Ops.length:=by omega
   have ac:=Et Fa a2;by_cases hx:a.IDs[i]∈b.IDs
   ·have a6:b.IDs.idxOf a.IDs[i]<b.Ops.length:=by rw[<- a8]; exact List.idxOf_lt_length_of_mem hx
    have a7:AT b a.IDs[i]=some b.Ops[b.IDs.idxOf a.IDs[i]]:=by unfold AT; rw[if_pos hx,List.getElem?_eq_getElem a6]
    have M:HH a b (i:Int)=if !decide (a.Ops[i]=b.Ops[b.IDs.idxOf a.IDs[i]]) then some (.inl (.inl true)) else some (.inr ((i+1:Nat):Int)):=by
     have h4:=(Fa.op _ (List.getElem_mem a2)).1;unfold HH;rw[if_pos (by simpa using a1),AE a1];simp only[bS];rw[z1b6 Fb.ri (by omega) hx];simp only[bS];rw[if_pos (by simp),AE a2,AE a6];simp only[bS];rw[z15b _ _ (by omega),AO (by omega)];simp only[bS]
    by_cases he:a.Ops[i]=b.Ops[b.IDs.idxOf a.IDs[i]]
    ·rw[decide_eq_true he,if_neg (by simp)] at M;rw[B9 M];refine ih (i+1) (by omega) (by omega) λj h h2 q hj O=>?_;by_cases e:j=i
     ·subst e; rw[a7] at O; cases O; exact he.symm
     ·exact U j h h2 q (by omega) O
    ·rw[decide_eq_false he,if_pos (by simp)] at M;exact⟨_,AW M,.inl ⟨rfl,a.IDs[i],a.Ops[i],_,ac,a7,he⟩⟩
   ·have M:HH a b (i:Int)=some (.inr ((i+1:Nat):Int)):=by
     unfold HH;rw[if_pos (by simpa using a1),AE a1];simp only[bS];rw[z1bw (by omega) hx];simp only[bS];rw[if_neg (by simp),AO (by omega)]
    rw[B9 M];refine ih (i+1) (by omega) (by omega) λj h h2 q hj O=>?_;by_cases e:j=i
    ·subst e; rw[H1 hx] at O; cases O
    ·exact U j h h2 q (by omega) O
 obtain⟨r,r1,r2⟩:=key _ 0 rfl (Nat.zero_le _) λj _ _ _ h=>by omega
 unfold Nd;rw[show (0:Int)=((0:Nat):Int) from rfl,r1];rcases r2 with ⟨rfl,hc⟩ | ⟨rfl,hc⟩
 ·exact⟨true,rfl, by simp[hc]⟩
 ·exact⟨false,rfl, by simp[hc]⟩
theorem z123 (hl:l.length<=1000) (R:∀ g∈l,Rp g) {i:Nat} (hi:i<l.length):∃ r,iter (IS l (i:Int)) 0=some r/\((r=.inl (.inl (.inl 14))/\∃ k,∃ h:k<l.length,k<i/\Fl l[i] (AT l[k]))\/(r=.inr ()/\∀ k (h:k<l.length),k<i->¬ Fl l[i] (AT l[k]))):=by
 have key:∀ d k,i - k=d->k<=i->(∀ j (h:j<l.length),j<k->¬ Fl l[i] (AT l[j])) ->
   ∃ r,iter (IS l (i:Int)) (k:Int)=some r/\((r=.inl (.inl (.inl 14))/\∃ k,∃ h:k<l.length,k<i/\Fl l[i] (AT l[k]))\/(r=.inr ()/\∀ k (h:k<l.length),k<i->¬ Fl l[i] (AT l[k]))):=by
  intro d
  induction d with
  | zero =>
   intro k hd hk M
   have:k=i:=by omega
   subst this;exact⟨.inr (),AW (by unfold IS; rw[if_neg (by simp)]),.inr ⟨rfl, λj h U=>M j h U⟩⟩
  | succ d ih =>
   intro k hd hk M;have O:k<l.length:=by omega
   obtain⟨c,c1,c2⟩:=z13h (R _ (List.getElem_mem hi)) (R _ (List.getElem_mem O));have hF:IS l (i:Int) (k:Int)=if c then some (.inl (.inl (.inl (.inl 14)))) else some (.inr ((k+1:Nat):Int)):=by
    unfold IS;rw[if_pos (by simp; omega),AE hi,AE O];simp only[bS];rw[c1,AO (by omega)];simp only[bS]
   cases c with
   | true=>exact⟨_,AW hF,.inl ⟨rfl,k,O, by omega,c2.1 rfl⟩⟩
   | false =>
    rw[if_neg (by simp)] at hF;rw[B9 hF];refine ih (k+1) (by omega) (by omega) λj h U=>?_;by_cases e:j=k
    ·subst e; exact λhc=>by have:=c2.2 hc; cases this
    ·exact M j h (by omega)
 exact key _ 0 rfl (Nat.zero_le _) λj _ h=>by omega
theorem z11b (hl:l.length<=1000) (R:∀ g∈l,Rp g):∀ d i,l.length - i=d->i<=l.length->Eg (l.take i) ->
  ∃ r,iter (KM l) (i:Int)=some r/\((r=.inl 14/\¬ Eg l)\/(r=.inr ()/\Eg l)):=by
 intro d
 induction d with
 | zero =>
  intro i hd hi A
  have:i=l.length:=by omega
  subst this;rw[List.take_length] at A;exact⟨.inr (),AW (by unfold KM; rw[if_neg (by simp)]),.inr ⟨rfl,A⟩⟩
 | succ d ih =>
  intro i hd hi A;have M:i<l.length:=by omega
  have U:l.take (i+1)=l.take i++[l[i]]:=by rw[List.take_add_one,List.getElem?_eq_getElem M]; rfl
  obtain⟨r,r1,r2⟩:=z123 hl R M;have hF:KM l (i:Int)=Bi (some r) λ_=>some (.inr ((i+1:Nat):Int)):=by
   unfold KM;rw[if_pos (by simpa using M),r1,AO (by omega)];rfl
  rcases r2 with ⟨rfl,k,O,a2,hc⟩ | ⟨rfl,a1⟩
  ·refine⟨.inl 14,AW (by rw[hF]; rfl),.inl ⟨rfl, λB=>?_⟩⟩;obtain⟨x,o,q,h1,h2,h3⟩:=hc;exact h3 (B _ (List.getElem_mem M) _ (List.getElem_mem O) x o q h1 h2)
  ·rw[Df] at hF;rw[B9 hF];refine ih (i+1) (by omega) (by omega) ?_;rw[U,Qm A]
   rintro⟨x,o,q,h1,h2,h3⟩
   obtain⟨g',h4,h5⟩:=L6 h2;obtain⟨k,O,e⟩:=List.getElem_of_mem h4;rw[List.length_take] at O;rw[List.getElem_take] at e;subst e;exact a1 k (by omega) (by omega) ⟨x,o,q,h1,h5,h3⟩
theorem z10h (hl:l.length<=1000) (hw:∀ g∈l,CN g):∀ d i,l.length - i=d->i<=l.length->(∀ g∈l.take i,C2 g) ->
  ∃ r,iter (IL l) (i:Int)=some r/\iter (IR l) (i:Int)=some r/\((∃ c,r=.inl c/\c≠0/\¬ ∀ g∈l,C2 g)\/(r=.inr ()/\∀ g∈l,C2 g)):=by
 intro d
 induction d with
 | zero =>
  intro i hd hi hG
  have:i=l.length:=by omega
  subst this;rw[List.take_length] at hG;exact⟨.inr (),AW (by unfold IL; rw[if_neg (by simp)]),AW (by unfold IR; rw[if_neg (by simp)]),.inr ⟨rfl,hG⟩⟩
 | succ d ih =>
  intro i hd hi hG;have M:i<l.length:=by omega
  have a1:l.take (i+1)=l.take i++[l[i]]:=by rw[List.take_add_one,List.getElem?_eq_getElem M]; rfl
  obtain⟨c,c1,c2,c3⟩:=Nx (hw _ (List.getElem_mem M));by_cases U:c=0
  ·subst U;have hF:IL l (i:Int)=some (.inr ((i+1:Nat):Int)):=by
    unfold IL;rw[if_pos (by simpa using M),AE M];simp only[bS];rw[c1,AO (by omega)];rfl
   have hR:IR l (i:Int)=some (.inr ((i+1:Nat):Int)):=by
    unfold IR;rw[if_pos (by simpa using M),AE M];simp only[bS];rw[c2,AO (by omega)];rfl
   rw[B9 hF,B9 hR];refine ih (i+1) (by omega) (by omega) λg O=>?_;rw[a1] at O;rcases List.mem_append.1 O with O | O
   ·exact hG g O
   ·rw[List.mem_singleton] at O; subst O; exact c3.1 rfl
  ·refine⟨.inl c,AW ?_,AW ?_,.inl ⟨c,rfl,U, λh=>U (c3.2 (h _ (List.getElem_mem M)))⟩⟩
   ·unfold IL;rw[if_pos (by simpa using M),AE M];simp only[bS];rw[c1];simp only[bS];rw[if_pos (by simpa using U)]
   ·unfold IR;rw[if_pos (by simpa using M),AE M];simp only[bS];rw[c2];simp only[bS];rw[if_pos (by simpa using U)]
theorem VS (hl:l.length<=1000) (hw:∀ g∈l,CN g) (O:∀ g∈l,∀ o∈g.Ops,o.Preds.length<=20/\o.Act.Key.length<=100/\o.Act.Value.Text.length<=100) :
  ∃ c,Fc l=some c/\HI l=some c/\(c=0↔l.length<=5/\(∀ g∈l,Rp g)/\Eg l):=by
 unfold Fc HI;by_cases h5:5<l.length
 ·rw[if_pos (by simp; omega),if_pos (by simp; omega)];exact⟨4,rfl,rfl, by simp; omega⟩
 ·rw[if_neg (by simp; omega),if_neg (by simp; omega)];obtain⟨r,U,r2,r3⟩:=z10h hl hw _ 0 rfl (Nat.zero_le _) (by simp);rw[show (0:Int)=((0:Nat):Int) from rfl,U,r2];rcases r3 with ⟨c,rfl,hc,hn⟩ | ⟨rfl,hG⟩
  ·exact⟨c,rfl,rfl, λh=>absurd h hc, λh=>absurd (λg M=>(h.2.1 g M).good) hn⟩
  ·have R:∀ g∈l,Rp g:=λg M=>⟨hG g M,O g M,hw g M⟩;obtain⟨p,p1,p2⟩:=z16j hl R _ 0 [] rfl (Nat.zero_le _) (λg M=>by simp at M) (λx=>rfl);obtain⟨q,q1,q2⟩:=z11b hl R _ 0 rfl (Nat.zero_le _) (λg M=>by simp at M);simp only[Df];rw[p1,q1];rcases p2 with ⟨rfl,h1⟩ | ⟨rfl,h1⟩ <;> rcases q2 with ⟨rfl,h2⟩ | ⟨rfl,h2⟩
   ·exact⟨14,rfl,rfl, by simp[h1]⟩
   ·exact absurd h2 h1
   ·exact absurd h1 h2
   ·exact⟨0,rfl,rfl, by simp[h1]; exact⟨by omega,R⟩⟩
theorem z10d (hl:l.length<=5) (R:∀ g∈l,Rp g) (A:Eg l):Fc l=some 0/\HI l=some 0:=by
 obtain⟨c,O,U,c3⟩:=VS (l:=l) (by omega) (λg M=>(R g M).wf) (λg M=>(R g M).op)
 have:=c3.2 ⟨hl,R,A⟩
 subst this;exact⟨O,U⟩
theorem z1ct (O:Fit a n) (U:Fit b m) {o:Ae} (h:o∈(BP a b).Ops):o∈a.Ops\/o∈b.Ops:=by
 obtain⟨i,hi,rfl⟩:=List.getElem_of_mem h;have M:=Et (Ee O U) hi;rw[Fk O U] at M;generalize (BP a b).IDs[i]'(by rw[(Ee O U).ids]; exact hi)=x at M
 cases ho:AT a x with
 | some q=>rw[ho] at M; exact .inl (by have:=(DH ho).2; simp at M; rw[<- M]; exact this)
 | none=>rw[ho] at M; exact .inr (DH (by simpa using M)).2
theorem Qn (F:Fit g n) (hn:n<=1000) (h:∀ o∈g.Ops,FE o):CN g:=by
 have h1:=F.len; have h2:=F.ids;exact⟨⟨λx _ y _=>trivial, by omega⟩,⟨h, by omega⟩,trivial⟩
theorem Rp.union (M:Rp a) (O:Rp b) (U:Dy a b) (hl:(BP a b).Ops.length<=60):Rp (BP a b):=by
 have F:=Ee M.fit O.fit;refine⟨J8 ⟨F.ids,hl,F.ri,F.op⟩ (zwm M.fit O.fit (H2 M.good M.fit) (H2 O.good O.fit) U),F.op,Qn F (by omega) λo ho=>?_⟩;rcases z1ct M.fit O.fit ho with h | h
 ·exact M.wf.2.1.1 o h
 ·exact O.wf.2.1.1 o h
structure Rps (l:List A4):Prop where
 len:l.length<=5
 rp:∀ g∈l,Rp g
 ag:Eg l
theorem Rps.chk (h:Rps l):Fc l=some 0/\HI l=some 0:=z10d h.len h.rp h.ag
theorem Rps.nc (h:Rps l) (M:a∈l) (hb:b∈l):Dy a b:=(HS (h.rp a M).fit (h.rp b hb).fit).2 (h.ag a M b hb)
theorem Rps.sub (h:Rps l) {k:List A4} (hl:k.length<=5) (O:∀ g∈k,Rp g) (M:∀ g∈k,∀ x o,AT g x=some o->CO l x=some o):Rps k :=
 ⟨hl,O, λg U h' hh x o q h1 h2=>by
  have e1:=M g U x o h1;have e2:=M h' hh x q h2
  rw[e1] at e2; exact Option.some.inj e2⟩
theorem VT (h:Rps l) (U:a∈l) (hb:b∈l) {x:ID} {o:Ae} (M:AT (BP a b) x=some o):CO l x=some o:=by
 rw[Fk (h.rp a U).fit (h.rp b hb).fit] at M
 cases O:AT a x with
 | some q =>
  rw[O] at M
  have:q=o:=by simpa using M
  subst this;exact HT h.ag U O
 | none=>rw[O] at M; exact HT h.ag hb (by simpa using M)
def Two (n:Nat) (m:AX):Prop:=(0<=m.A/\m.A<n)/\(0<=m.B/\m.B<n)/\m.A≠m.B
instance (n:Nat) (m:AX):Decidable (Two n m):=by unfold Two; exact inferInstance
def atG (l:List A4) (i:Int):A4:=l[i.toNat]?.getD ⟨[],[]⟩
theorem EE {i:Int} (h0:0<=i) (h:i<(l.length:Int)):∃ hi:i.toNat<l.length,atG l i=l[i.toNat]:=by
 have hi:i.toNat<l.length:=by omega
 exact⟨hi, by unfold atG; rw[List.getElem?_eq_getElem hi]; rfl⟩
def C9 (l:List A4) (m:AX):Sum Int (List A4) :=
 if Two l.length m then
  if 60<(BP (atG l m.A) (atG l m.B)).Ops.length then .inl 4 else .inr ((l.set m.A.toNat (BP (atG l m.A) (atG l m.B))).set m.B.toNat (BP (atG l m.A) (atG l m.B)))
 else .inl 2
theorem z170 (n:Nat) (m:AX):HD (n:Int) m=some (decide (Two n m)):=by
 unfold HD;by_cases h1:0<=m.A/\0<=m.B
 ·rw[if_pos (by simp; omega)];by_cases h2:m.A<n/\m.B<n
  ·rw[if_pos (by simp; omega),Option.some.injEq,Bool.eq_iff_iff,decide_eq_true_iff,bne_iff_ne];unfold Two;exact⟨λh=>⟨⟨h1.1,h2.1⟩,⟨h1.2,h2.2⟩,h⟩, λh=>h.2.2⟩
  ·have:¬ Two n m:=λh=>h2 ⟨h.1.2,h.2.1.2⟩
   rw[if_neg (by simp; omega),decide_eq_false this]
 ·have:¬ Two n m:=λh=>h1 ⟨h.1.1,h.2.1.1⟩
  rw[if_neg (by simp; omega),decide_eq_false this]
theorem VU (n:Nat) (m:AX):KN (n:Int) m=some (decide (Two n m)):=by
 unfold KN;by_cases h1:0<=m.A
 ·rw[if_pos (by simpa using h1)];by_cases h2:m.A<n
  ·rw[if_pos (by simpa using h2)];by_cases h3:0<=m.B
   ·rw[if_pos (by simpa using h3)];by_cases M:m.B<n
    ·rw[if_pos (by simpa using M),Option.some.injEq,Bool.eq_iff_iff,decide_eq_true_iff,bne_iff_ne];unfold Two;exact⟨λh=>⟨⟨h1,h2⟩,⟨h3,M⟩,h⟩, λh=>h.2.2⟩
    ·have:¬ Two n m:=λh=>M h.2.1.2
     rw[if_neg (by simpa using M),decide_eq_false this]
   ·have:¬ Two n m:=λh=>h3 h.2.1.1
    rw[if_neg (by simpa using h3),decide_eq_false this]
  ·have:¬ Two n m:=λh=>h2 h.1.2
   rw[if_neg (by simpa using h2),decide_eq_false this]
 ·have:¬ Two n m:=λh=>h1 h.1.1
  rw[if_neg (by simpa using h1),decide_eq_false this]
theorem Qo {m:AX} {e:Int} (h:C9 l m=.inl e):e≠0:=by
 unfold C9 at h
 split at h
 ·split at h
  ·cases h; decide
  ·cases h
 ·cases h; decide
theorem L7 {m:AX} {k:List A4} (h:C9 l m=.inr k):k.length=l.length:=by
 unfold C9 at h
 split at h
 ·split at h
  ·cases h
  ·cases h; simp
 ·cases h
theorem HU (h:Rps l) {m:AX} {k:List A4} (M:C9 l m=.inr k):Rps k/\∀ g∈k,∀ x o,AT g x=some o->CO l x=some o:=by
 have a1:=L7 M;unfold C9 at M
 split at M
 ·rename_i h2;obtain⟨hA,hB,-⟩:=h2;obtain⟨ia,ea⟩:=EE hA.1 hA.2;obtain⟨ib,eb⟩:=EE hB.1 hB.2;have ma:atG l m.A∈l:=by rw[ea]; exact List.getElem_mem _
  have mb:atG l m.B∈l:=by rw[eb]; exact List.getElem_mem _
  split at M
  ·cases M
  ·rename_i a2
   cases M
   have Ru:=(h.rp _ ma).union (h.rp _ mb) (h.nc ma mb) (by omega);have U:∀ g,g∈(l.set m.A.toNat (BP (atG l m.A) (atG l m.B))).set m.B.toNat (BP (atG l m.A) (atG l m.B))->g∈l\/g=BP (atG l m.A) (atG l m.B):=λg O=>by
    rcases List.mem_or_eq_of_mem_set O with h1 | h1
    ·exact List.mem_or_eq_of_mem_set h1
    ·exact .inr h1
   have hs:∀ g∈(l.set m.A.toNat (BP (atG l m.A) (atG l m.B))).set m.B.toNat (BP (atG l m.A) (atG l m.B)),∀ x o,AT g x=some o->CO l x=some o:=λg O x o ho=>by
    rcases U g O with h1 | rfl
    ·exact HT h.ag h1 ho
    ·exact VT h ma mb ho
   refine⟨h.sub (by rw[a1]; exact h.len) (λg O=>?_) hs,hs⟩;rcases U g O with h1 | rfl
   ·exact h.rp g h1
   ·exact Ru
 ·cases M
theorem VV (h:Rps l) (m:AX):KF l m=some (match C9 l m with | .inl e=>(e,l) | .inr k=>(0,k)):=by
 unfold KF C9;rw[z170];simp only[bS];by_cases h2:Two l.length m
 ·rw[decide_eq_true h2,if_pos h2];obtain⟨hA,hB,a1⟩:=h2;obtain⟨ia,ea⟩:=EE hA.1 hA.2;obtain⟨ib,eb⟩:=EE hB.1 hB.2;have ma:atG l m.A∈l:=by rw[ea]; exact List.getElem_mem _
  have mb:atG l m.B∈l:=by rw[eb]; exact List.getElem_mem _
  have O:=h.rp _ ma; have U:=h.rp _ mb;rw[if_neg (by simp),Kd hA.1 ia,Kd hB.1 ib];simp only[bS];rw[<- ea,<- eb,Qk O.good U.good O.chk.1 U.chk.1 O.fit U.fit (h.nc ma mb)];simp only[bS];by_cases M:60<(BP (atG l m.A) (atG l m.B)).Ops.length
  ·rw[if_pos M,if_pos M];rfl
  ·rw[if_neg M,if_neg M];simp only[];rw[if_neg (by simp),VQ (Ee O.fit U.fit) (by omega)];simp only[bS];rw[Kd hB.1 (by rw[List.length_set]; exact ib)];simp only[bS]
 ·rw[decide_eq_false h2,if_neg h2];rfl
def BR:List A4->List AX->Sum Int (List A4)
 | l,[]=>.inr l
 | l,m::ms=>match C9 l m with
  | .inl e=>.inl e
  | .inr k=>BR k ms
theorem FK:∀ {ms:List AX} {l k:List A4},Rps l->BR l ms=.inr k->Rps k/\k.length=l.length
 | [],l,k,h,M=>by simp only[BR] at M; cases M; exact⟨h,rfl⟩
 | m::ms,l,k,h,M=>by
  simp only[BR] at M
  cases O:C9 l m with
  | inl e=>rw[O] at M; cases M
  | inr k' =>
   rw[O] at M;have h1:=FK (HU h O).1 M;exact⟨h1.1,h1.2.trans (L7 O)⟩
theorem Qp:∀ {ms:List AX} {l:List A4} {e:Int},BR l ms=.inl e->e≠0
 | [],l,e,h=>by simp[BR] at h
 | m::ms,l,e,h=>by
  simp only[BR] at h
  cases M:C9 l m with
  | inl e'=>rw[M] at h; cases h; exact Qo M
  | inr k=>rw[M] at h; exact Qp h
theorem VW (ms:List AX) (hl:ms.length<=1000):∀ (rest pre:List AX) (l:List A4),pre++rest=ms->Rps l->iter (IM ms) (l,(pre.length:Int))=some (match BR l rest with | .inl e=>.inl ([],e) | .inr k=>.inr k)
 | [],pre,l,e,h=>by
  rw[List.append_nil] at e;subst e;refine AW ?_;unfold IM;simp only[];rw[if_neg (by simp)];rfl
 | m::rest,pre,l,e,h=>by
  have hi:pre.length<ms.length:=by rw[<- e]; simp
  have U:ms[pre.length]=m:=by simp[<- e]
  have hF:IM ms (l,(pre.length:Int))=match C9 l m with | .inl e=>some (.inl (.inl ([],e))) | .inr k=>some (.inr (k,((pre.length+1:Nat):Int))):=by
   unfold IM;simp only[];rw[if_pos (by simpa using hi),AE hi,U];simp only[bS];rw[VV h,AO (by omega)];simp only[bS]
   cases M:C9 l m with
   | inl e=>rw[if_pos (by simpa using Qo M)]
   | inr k=>rfl
  cases M:C9 l m with
  | inl e' =>
   rw[M] at hF;rw[AW hF];simp only[BR,M]
  | inr k =>
   rw[M] at hF;have O:=VW ms hl rest (pre++[m]) k (by simp[<- e]) (HU h M).1;rw[List.length_append,List.length_cons,List.length_nil,Nat.zero_add] at O;rw[B9 hF,O];simp only[BR,M]
theorem Rps.f900 (h:Rps l):∀ g∈l,Fit g 900:=λg M=>⟨(h.rp g M).fit.ids, by have:=(h.rp g M).fit.len; omega,(h.rp g M).fit.ri,(h.rp g M).op⟩
end
section
variable {g:A4} {n:Nat} {x y z:ID} {o q:Ae}
structure NC (g:A4) (x:ID) (o:Ae):Prop where
 sz:o.Preds.length<=20/\o.Act.Key.length<=100/\o.Act.Value.Text.length<=100
 ok:Di o=0/\sha (CS o)=x/\o.Preds.length<=4/\Bf o.Preds=true
 wf:FE o
 no:x∉g.IDs
 ins:∀ p∈o.Preds,p∈g.IDs
theorem Rp.nil:Rp (⟨[],[]⟩:A4):=by
 have F:Fit (⟨[],[]⟩:A4) 60:=⟨rfl, by simp,rfl, by simp⟩
 have M:∀ z o,AT (⟨[],[]⟩:A4) z≠some o:=λz o h=>by have:=(DH h).1; cases this
 exact⟨J8 F ⟨λz o h=>absurd h (M z o), λz o h=>absurd h (M z o), λ_=>0, λz o h=>absurd h (M z o)⟩, by simp,Qn F (by omega) (by simp)⟩
theorem z15o {p:ID × Ae} {q:Ae} (h:q∈(Co g p).Ops):q=p.2\/q∈g.Ops:=by
 unfold Co at h
 split at h
 ·exact .inr h
 ·exact L1.1 h
theorem Rp.add (R:Rp g) (hl:g.Ops.length<=59) (N:NC g x o):Rp (Co g (x,o)):=by
 have S:=H2 R.good R.fit;have F:=HR (p:=(x,o)) R.fit N.sz;have M:(Co g (x,o)).Ops.length<=60:=by
  have F':Fit g g.Ops.length:=⟨R.fit.ids,Nat.le_refl _,R.fit.ri,R.fit.op⟩
  have:=(HR (p:=(x,o)) F' N.sz).len
  omega
 have F6:Fit (Co g (x,o)) 60:=⟨F.ids,M,F.ri,F.op⟩
 refine⟨J8 F6 (VO R.fit S (p:=(x,o)) N.sz N.no N.ok N.ins),F.op,Qn F6 (by omega) λq O=>?_⟩;rcases z15o O with rfl | h
 ·exact N.wf
 ·exact R.wf.2.1.1 q h
theorem z1av (F:Fit g n) (N:NC g x o):(Co g (x,o)).Ops.length=g.Ops.length+1:=by
 have F1:=NA F.ri x
 have:=F1.le
 have hi:=F.ids;unfold Co;rw[if_neg N.no];show (Ch g.Ops _ o).length=_;unfold Ch
 simp; omega
theorem z153 (F:Fit g n) (N:NC g x o) (y:ID):AT (Co g (x,o)) y=if y=x then some o else AT g y:=NB F (p:=(x,o)) N.sz N.no y
end
section
variable {g:A4} {n:Nat}
def oid (o:Ae):ID:=sha (CS o)
structure OkN (o:Ae):Prop where
 good:Di o=0
 pre:o.Preds.length<=4
 key:o.Act.Key.length<=100
 text:o.Act.Value.Text.length<=100
 num:inI o.Act.Value.Num
def Dk (l:List Ae):List (ID × Ae):=l.map λo=>(oid o,o)
theorem VX (l:List Ae):(Dk l).map Prod.fst=l.map oid:=by unfold Dk; rw[List.map_map]; rfl
theorem Qq {l:List Ae} (h:∀ o∈l,OkN o):∀ p∈Dk l,p.2.Preds.length<=20/\p.2.Act.Key.length<=100/\p.2.Act.Value.Text.length<=100:=λp M=>by
 obtain⟨o,O,rfl⟩:=List.mem_map.1 M
 have:=h o O
 exact⟨Nat.le_trans this.pre (by omega),this.key,this.text⟩
theorem fit0:Fit (⟨[],[]⟩:A4) 0:=⟨rfl,Nat.le_refl _,rfl, λo M=>by simp at M⟩
theorem VY:∀ {l:List (ID × Ae)} {g:A4} {n:Nat},Fit g n->(∀ p∈l,p.2.Preds.length<=20/\p.2.Act.Key.length<=100/\p.2.Act.Value.Text.length<=100)->∀ x,x∈(Cz g l).IDs↔x∈g.IDs\/x∈l.map Prod.fst
 | [],g,n,F,_,x=>by simp[Cz]
 | p::l,g,n,F,M,x=>by
  have O:=VY (l:=l) (HR F (M p (by simp))) (λq U=>M q (by simp[U])) x
  have:Cz g (p::l)=Cz (Co g p) l:=rfl
  rw[this,O,Qj F p,List.map_cons,List.mem_cons]
  constructor
  ·rintro ((h | h) | h)
   ·exact .inr (.inl h)
   ·exact .inl h
   ·exact .inr (.inr h)
  ·rintro (h | h | h)
   ·exact .inl (.inr h)
   ·exact .inl (.inl h)
   ·exact .inr h
theorem z1eq (l:List Ae) (hl:l.length<=60) (h:∀ o∈l,OkN o):iter (Km l) 0=some (.inr ()):=by
 refine C1 (F:=Km l) l.length (λi=>(i:Int)) (λi hi=>?_) ?_
 ·have M:=h l[i] (List.getElem_mem hi);unfold Km;rw[if_pos (by simpa using hi),AE hi];simp only[bS];rw[PK _ M.num (Nat.le_trans M.text (by omega)),M.good];simp only[bS];rw[if_neg (by simp),AO (by omega)]
 ·unfold Km;rw[if_neg (by simp)]
theorem z1e2 (l:List Ae) (hl:l.length<=60) (h:∀ o∈l,OkN o) (hn:(l.map oid).Nodup):iter (Kn l) ([],[],0)=some (.inr ((Cz ⟨[],[]⟩ (Dk l)).IDs,(Cz ⟨[],[]⟩ (Dk l)).Ops)):=by
 have a2:(Dk l).length=l.length:=by simp[Dk]
 have a1:=Qq h;have fit:∀ i,i<=l.length->Fit (Cz ⟨[],[]⟩ ((Dk l).take i)) i:=λi hi=>by
  have:=Qe (l:=(Dk l).take i) fit0 (λp hp=>a1 p (List.mem_of_mem_take hp))
  rw[List.length_take,a2,Nat.min_eq_left hi,Nat.zero_add] at this;exact this
 refine C1 (F:=Kn l) l.length (λi=>((Cz ⟨[],[]⟩ ((Dk l).take i)).IDs,(Cz ⟨[],[]⟩ ((Dk l).take i)).Ops,(i:Int))) (λi hi=>?_) ?_
 ·have U:=h l[i] (List.getElem_mem hi);have F:=fit i (by omega);have hx:oid l[i]∉(Cz ⟨[],[]⟩ ((Dk l).take i)).IDs:=λO=>by
   rw[VY fit0 (λp hp=>a1 p (List.mem_of_mem_take hp))] at O;rcases O with O | O
   ·simp at O
   ·rw[List.map_take,VX] at O;obtain⟨j,hj,e⟩:=List.getElem_of_mem O;have a6:j<i:=by rw[List.length_take] at hj; omega
    rw[List.getElem_take,List.getElem_map] at e
    have:=(List.getElem_inj (xs:=l.map oid) (i:=j) (j:=i) (h₀:=by simp; omega) (h₁:=by simpa using hi) hn).1 (by rw[List.getElem_map,List.getElem_map,e]);omega
  unfold Kn;rw[if_pos (by simpa using hi)];simp only[];rw[AE hi];simp only[bS];rw[PJ _ U.num (Nat.le_trans U.text (by omega)),if_pos (Gg U.good)];simp only[bS];have M:=Qc F (by omega) (oid l[i],l[i]) (Nat.le_trans U.pre (by omega));rw[decide_eq_false hx] at M;have M:FG (⟨(Cz ⟨[],[]⟩ ((Dk l).take i)).IDs,(Cz ⟨[],[]⟩ ((Dk l).take i)).Ops⟩:A4) (sha (CS l[i])) l[i]=_:=M
  rw[M];simp only[bS];rw[if_neg (by simp),AO (by omega)];have ht:(Dk l).take (i+1)=(Dk l).take i++[(oid l[i],l[i])]:=by
   rw[List.take_add_one,List.getElem?_eq_getElem (by omega)];simp[Dk]
  rw[ht,Qd]
 ·unfold Kn;rw[if_neg (by simp),List.take_of_length_le (by omega)]
theorem VZ:∀ (l:List Ae) (o:Ae),(l.map oid).Nodup->o∈l->((Dk l).find? λp=>decide (p.1=oid o)).map Prod.snd=some o
 | [],o,_,h=>by simp at h
 | a::l,o,M,O=>by
  rw[List.map_cons,List.nodup_cons] at M;have e0:Dk (a::l)=(oid a,a)::Dk l:=rfl;rw[e0];by_cases e:oid a=oid o
  ·rw[List.find?_cons_of_pos (by simpa using e)];rcases List.mem_cons.1 O with rfl | h
   ·rfl
   ·exact absurd (List.mem_map.2 ⟨o,h,e.symm⟩) M.1
  ·rw[List.find?_cons_of_neg (by simpa using e)];rcases List.mem_cons.1 O with rfl | h
   ·exact absurd rfl e
   ·exact VZ l o M.2 h
theorem z1aq (F:Fit g n) (S:Fj g) {l:List Ae} (hl:∀ o,o∈l↔o∈g.Ops) (h:∀ o∈l,OkN o) (hn:(l.map oid).Nodup):Cz ⟨[],[]⟩ (Dk l)=g:=by
 refine J7 (Qe fit0 (Qq h)) F λy=>?_;rw[VP fit0 (Qq h) (by rw[VX]; exact hn),H1 (by simp),Option.none_or]
 cases M:AT g y with
 | some o =>
  have:=(S.ops y o M).2.1
  have O:=(hl o).2 (DH M).2
  have:=VZ l o hn O
  rw[show oid o=y from (S.ops y o M).2.1] at this;exact this
 | none =>
  rw[Option.map_eq_none_iff,List.find?_eq_none];intro p hp U;obtain⟨o,O,rfl⟩:=List.mem_map.1 hp;have U:oid o=y:=by simpa using U
  obtain⟨i,hi,rfl⟩:=List.getElem_of_mem ((hl o).1 O);have h1:=Et F hi;have h2:=(S.ops _ _ h1).2.1;rw[<- h2, show sha (CS g.Ops[i])=y from U,M] at h1;simp at h1
theorem z1ef (F:Fit g 60) (S:Fj g) {l:List Ae} (hl:∀ o,o∈l↔o∈g.Ops) (M:l.length<=60) (h:∀ o∈l,OkN o) (O:(l.map oid).Nodup):Ko l=some (g,0):=by
 have G:=J8 F S;obtain⟨c,U,-,c3⟩:=Vq (g:=g) G.e.len G.e.ids G.e.op;have hc:c=0:=c3.2 ⟨G.e.ri,G.ins,G.wf⟩;unfold Ko;rw[if_neg (by simp; omega),z1eq l M h];simp only[Bi];rw[z1e2 l M h O,z1aq F S hl h O];simp only[Bi,bS];rw[U,hc];simp only[bS];rw[if_neg (by simp)]
end
section
variable {g a b:A4} {n m:Nat} {l l0:List A4}
def HV (i:Nat):AX:=⟨(i:Int),((i+1:Nat):Int)⟩
def CX (n:Nat):List AX:=(List.range' 0 (n - 1)).map HV++if 2<n then [⟨((n - 1:Nat):Int),0⟩] else []
def HW {α σ:Type} (Y:α->σ->Option σ) (go:σ->Bool):List α->σ->Option (Sum σ σ)
 | [],s=>some (.inr s)
 | x::xs,s=>Y x s>>=λt=>if !(go t) then some (.inl t) else HW Y go xs t
theorem W5 {σ:Type} (Y:AX->σ->Option σ) (go:σ->Bool) (k:Nat) (M:k<=1000):∀ d i s,k - i=d->i<=k->iter (HE Y go) ((k:Int),(i:Int),s)=HW Y go ((List.range' i d).map HV) s
 | 0,i,s,hd,hi=>by
  refine AW ?_;unfold HE;simp only[];rw[if_neg (by simp; omega)]
 | d+1,i,s,hd,hi=>by
  rw[show List.range' i (d+1)=i::List.range' (i+1) d from rfl,List.map_cons];simp only[HW];rw[iter];have e:HE Y go ((k:Int),(i:Int),s)=Y (HV i) s>>=λt=>if !(go t) then some (.inl (.inl t)) else some (.inr ((k:Int),((i+1:Nat):Int),t)):=by
   conv=>lhs; unfold HE
   simp only[];rw[if_pos (by simp; omega),AO (by omega)];rfl
  rw[e]
  cases hY:Y (HV i) s with
  | none=>rfl
  | some t =>
   simp only[bS]
   cases hg:go t with
   | false=>rfl
   | true =>
    simp only[Bool.not_true,Bool.false_eq_true,if_false,bS];exact W5 Y go k M d (i+1) t (by omega) (by omega)
theorem W6:∀ (xs ys:List AX) (l:List A4),BR l (xs++ys)=match BR l xs with | .inl e=>.inl e | .inr k=>BR k ys
 | [],ys,l=>rfl
 | x::xs,ys,l=>by
  simp only[List.cons_append,BR]
  cases C9 l x with
  | inl e=>rfl
  | inr k=>exact W6 xs ys k
theorem W7 (h:Rps l) (x:AX):Gc x l=some (match C9 l x with | .inl e=>.inl (e,l) | .inr k=>.inr k):=by
 unfold Gc;rw[VV h];simp only[bS]
 cases M:C9 l x with
 | inl e=>rw[if_pos (by simpa using Qo M)]
 | inr k=>rfl
theorem W8:∀ (xs:List AX) (l:List A4),Rps l ->
  (∃ e k,BR l xs=.inl e/\HW (FW Gc) Sum.isRight xs (.inr l)=some (.inl (.inl (e,k))))\/∃ k,BR l xs=.inr k/\HW (FW Gc) Sum.isRight xs (.inr l)=some (.inr (.inr k))
 | [],l,h=>.inr ⟨l,rfl,rfl⟩
 | x::xs,l,h=>by
  have e:FW Gc x (.inr l)=_:=W7 h x;simp only[HW,BR];rw[e]
  cases M:C9 l x with
  | inl e'=>exact .inl ⟨e',l,rfl,rfl⟩
  | inr k=>exact W8 xs k (HU h M).1
theorem W9 (h:Rps l):∃ r,KG l=some r/\(match BR l (CX l.length) with | .inl e=>r.1=e | .inr k=>r=(0,k)):=by
 have hl:=h.len;unfold KG Ph N8;simp only[bS];have e0:iter (HE (FW Gc) Sum.isRight) (w64 ((l.length:Int) - 1),0,(.inr l))=HW (FW Gc) Sum.isRight ((List.range' 0 (l.length - 1)).map HV) (.inr l):=by
  by_cases M:l.length=0
  ·rw[M];refine AW ?_;unfold HE;simp only[];rw[if_neg (by rw[B1 (by omega) (by omega)]; simp)]
  ·rw[B1 (by omega) (by omega), show ((l.length:Int) - 1)=((l.length - 1:Nat):Int) by omega];exact W5 _ _ _ (by omega) _ 0 _ rfl (Nat.zero_le _)
 rw[e0];unfold CX;rw[W6];rcases W8 ((List.range' 0 (l.length - 1)).map HV) l h with ⟨e,k,h1,h2⟩ | ⟨k,h1,h2⟩
 ·rw[h1,h2];exact⟨(e,k),rfl,rfl⟩
 ·rw[h1,h2];simp only[Df];have O:=(FK h h1).1;by_cases h2:2<l.length
  ·rw[if_pos (by simp; omega),if_pos h2,B1 (by omega) (by omega), show ((l.length:Int) - 1)=((l.length - 1:Nat):Int) by omega];have e:FW Gc ⟨((l.length - 1:Nat):Int),0⟩ (.inr k)=_:=W7 O _;rw[e];simp only[BR]
   cases C9 k ⟨((l.length - 1:Nat):Int),0⟩ with
   | inl e=>exact⟨(e,k),rfl,rfl⟩
   | inr k'=>exact⟨(0,k'),rfl,rfl⟩
  ·rw[if_neg (by simp; omega),if_neg h2];exact⟨(0,k),rfl,rfl⟩
def Has (l0:List A4) (w:Nat) (g:A4):Prop:=∀ x o,AT g x=some o↔∃ i,∃ h:i<l0.length,w.testBit i=true/\AT l0[i] x=some o
theorem Has.uni (M:Fit a n) (O:Fit b m) (U:Dy a b) {w v:Nat} (ha:Has l0 w a) (hb:Has l0 v b):Has l0 (w ||| v) (BP a b):=λx o=>by
 have hu:AT (BP a b) x=some o↔AT a x=some o\/AT b x=some o:=by
  rw[Fk M O]
  cases hq:AT a x with
  | none=>simp
  | some q =>
   constructor
   ·intro h; exact .inl h
   ·rintro (h | h)
    ·exact h
    ·rw[(HS M O).1 U x q o hq h]; rfl
 rw[hu,ha,hb]
 constructor
 ·rintro (⟨i,hi,h1,h2⟩ | ⟨i,hi,h1,h2⟩)
  ·exact⟨i,hi, by rw[Nat.testBit_or,h1]; rfl,h2⟩
  ·exact⟨i,hi, by rw[Nat.testBit_or,h1]; simp,h2⟩
 ·rintro⟨i,hi,h1,h2⟩
  rw[Nat.testBit_or,Bool.or_eq_true] at h1;rcases h1 with h1 | h1
  ·exact .inl ⟨i,hi,h1,h2⟩
  ·exact .inr ⟨i,hi,h1,h2⟩
theorem Has.eq (U:Fit a n) (Fb:Fit b m) {w:Nat} (O:Has l0 w a) (hb:Has l0 w b):a=b:=J7 U Fb λx=>by
 cases M:AT a x with
 | none =>
  cases hr:AT b x with
  | none=>rfl
  | some o=>rw[(O x o).2 ((hb x o).1 hr)] at M; cases M
 | some o=>rw[(hb x o).2 ((O x o).1 M)]
def metM (ws:List Nat) (m:AX):List Nat :=
 (ws.set m.A.toNat (ws[m.A.toNat]?.getD 0 ||| ws[m.B.toNat]?.getD 0)).set m.B.toNat (ws[m.A.toNat]?.getD 0 ||| ws[m.B.toNat]?.getD 0)
def Eu:List Nat->List AX->List Nat
 | ws,[]=>ws
 | ws,m::ms=>Eu (metM ws m) ms
def J9 (l0:List A4) (ws:List Nat) (l:List A4):Prop:=ws.length=l.length/\∀ i (h:i<ws.length) (h2:i<l.length),Has l0 ws[i] l[i]
theorem z1ab (R:Rps l) {m:AX} {k:List A4} (M:C9 l m=.inr k) {ws:List Nat} (hw:J9 l0 ws l):J9 l0 (metM ws m) k:=by
 have O:=L7 M;unfold C9 at M
 split at M
 ·rename_i h2;obtain⟨hA,hB,-⟩:=h2;obtain⟨ia,ea⟩:=EE hA.1 hA.2;obtain⟨ib,eb⟩:=EE hB.1 hB.2;have ma:atG l m.A∈l:=by rw[ea]; exact List.getElem_mem _
  have mb:atG l m.B∈l:=by rw[eb]; exact List.getElem_mem _
  split at M
  ·cases M
  ·cases M
   have wa:m.A.toNat<ws.length:=by rw[hw.1]; exact ia
   have wb:m.B.toNat<ws.length:=by rw[hw.1]; exact ib
   have U:Has l0 (ws[m.A.toNat]?.getD 0 ||| ws[m.B.toNat]?.getD 0) (BP (atG l m.A) (atG l m.B)):=by
    rw[List.getElem?_eq_getElem wa,List.getElem?_eq_getElem wb];have h1:=hw.2 _ wa ia;have h2:=hw.2 _ wb ib;rw[<- ea] at h1;rw[<- eb] at h2;exact Has.uni (R.rp _ ma).fit (R.rp _ mb).fit (R.nc ma mb) h1 h2
   unfold metM;refine⟨by rw[O,<- hw.1]; simp, λi h h2=>?_⟩
   simp only[List.getElem_set];by_cases e1:m.B.toNat=i
   ·rw[if_pos e1,if_pos e1]; exact U
   ·rw[if_neg e1,if_neg e1];by_cases e2:m.A.toNat=i
    ·rw[if_pos e2,if_pos e2]; exact U
    ·rw[if_neg e2,if_neg e2];exact hw.2 i (by simpa using h) (by simpa using h2)
 ·cases M
theorem ND:∀ {ms:List AX} {l k:List A4} {ws:List Nat},Rps l->BR l ms=.inr k->J9 l0 ws l->J9 l0 (Eu ws ms) k
 | [],l,k,ws,R,M,hw=>by simp only[BR] at M; cases M; exact hw
 | m::ms,l,k,ws,R,M,hw=>by
  simp only[BR] at M
  cases O:C9 l m with
  | inl e=>rw[O] at M; cases M
  | inr k' =>
   rw[O] at M;have M:BR k' ms=.inr k:=M;show J9 l0 (Eu (metM ws m) ms) k;exact ND (HU R O).1 M (z1ab R O hw)
def ws0 (n:Nat):List Nat:=(List.range n).map λi=>2 ^ i
theorem has0 (l:List A4):J9 l (ws0 l.length) l:=⟨by simp[ws0], λi h h2=>by
 intro x o;simp only[ws0,List.getElem_map,List.getElem_range]
 constructor
 ·intro M; exact⟨i,h2, by simp[Nat.testBit_two_pow],M⟩
 ·rintro⟨j,hj,h3,O⟩
  have:i=j:=by simpa [Nat.testBit_two_pow] using h3
  subst this; exact O⟩
theorem z1es:∀ n,n<6->Eu (Eu (ws0 n) (CX n)) (CX n)=List.replicate n (2 ^ n - 1):=by decide +kernel
theorem z108 (R:Rps l) {O M:List A4} (h1:BR l (CX l.length)=.inr O) (h2:BR O (CX l.length)=.inr M):M.length=l.length/\∀ g∈M,Has l (2 ^ l.length - 1) g:=by
 obtain⟨R1,e1⟩:=FK R h1;obtain⟨R2,e2⟩:=FK R1 h2;have hw:=ND R1 h2 (ND R h1 (has0 l));rw[z1es _ (by have:=R.len; omega)] at hw;refine⟨by omega, λg U=>?_⟩;obtain⟨i,hi,rfl⟩:=List.getElem_of_mem U
 have:=hw.2 i (by rw[hw.1]; exact hi) hi
 rwa [List.getElem_replicate] at this
theorem z10t (R:Rps l):∀ d i,l.length - i=d->∃ r,iter (KI l) (i:Int)=some r /\
  ((r=.inl (false,0)/\∃ j,∃ h:j<l.length,i<=j/\l[j].IDs≠(l[0]'(by omega)).IDs)\/(r=.inr ()/\∀ j (h:j<l.length),i<=j->l[j].IDs=(l[0]'(by omega)).IDs)):=by
 have a1:=R.len;intro d
 induction d with
 | zero =>
  intro i hd;refine⟨.inr (),AW ?_,.inr ⟨rfl, λj h M=>by omega⟩⟩;unfold KI; rw[if_neg (by simp; omega)]
 | succ d U =>
  intro i hd;have hi:i<l.length:=by omega
  have h0:0<l.length:=by omega
  have F:=(R.rp _ (List.getElem_mem hi)).fit;have hF1:=F.len; have hF2:=F.ids;have e0:idx l 0=some l[0]:=AE (i:=0) h0;have hP:KI l (i:Int)=if !decide (l[i].IDs=l[0].IDs) then some (.inl (.inl (false,0))) else some (.inr ((i+1:Nat):Int)):=by
   unfold KI;rw[if_pos (by simpa using hi),AE hi,e0];simp only[bS];rw[Qa _ _ (by omega),AO (by omega)];simp only[bS]
  by_cases O:l[i].IDs=l[0].IDs
  ·rw[decide_eq_true O,if_neg (by simp)] at hP;rw[B9 hP];obtain⟨r,r1,r3⟩:=U (i+1) (by omega);refine⟨r,r1,?_⟩;rcases r3 with ⟨h1,j,M,h2,h3⟩ | ⟨h1,h2⟩
   ·exact .inl ⟨h1,j,M, by omega,h3⟩
   ·refine .inr ⟨h1, λj M a2=>?_⟩;by_cases e:j=i
    ·subst e; exact O
    ·exact h2 j M (by omega)
  ·rw[decide_eq_false O,if_pos (by simp)] at hP;exact⟨_,AW hP,.inl ⟨rfl,i,hi,Nat.le_refl _,O⟩⟩
def E2 (l:List A4):Prop:=∀ g∈l,∀ h∈l,g.IDs=h.IDs
instance (l:List A4):Decidable (E2 l):=by unfold E2; exact inferInstance
theorem Wa (i:Nat) (hi:i<=1):E2 l↔∀ j (h:j<l.length),i<=j->l[j].IDs=(l[0]'(by omega)).IDs:=by
 constructor
 ·intro h j M _;exact h _ (List.getElem_mem M) _ (List.getElem_mem _)
 ·intro h;have all:∀ j (M:j<l.length),l[j].IDs=(l[0]'(by omega)).IDs:=λj M=>by
   by_cases e:j=0
   ·subst e; rfl
   ·exact h j M (by omega)
  intro g O k U;obtain⟨p,hp,rfl⟩:=List.getElem_of_mem O;obtain⟨q,hq,rfl⟩:=List.getElem_of_mem U;rw[all p hp,all q hq]
theorem Wb (R:Rps l):∃ b,IQ l=some (b,0)/\(b=true↔E2 l):=by
 obtain⟨M,c2⟩:=R.chk;obtain⟨r,O,U⟩:=z10t R _ 0 rfl;unfold IQ;rw[M];simp only[bS];rw[if_neg (by simp), show (0:Int)=((0:Nat):Int) from rfl,O];rcases U with ⟨rfl,j,hj,h1,h2⟩ | ⟨rfl,h1⟩
 ·exact⟨false,rfl, by simp; exact λh=>h2 ((Wa 0 (by omega)).1 h j hj (by omega))⟩
 ·exact⟨true,rfl, by simp; exact(Wa 0 (by omega)).2 h1⟩
theorem z18w (R:Rps l) (h:¬ E2 l):IQ l=some (false,0)/\True:=by
 obtain⟨b,M,O⟩:=Wb R
 cases b with
 | true=>exact absurd (O.1 rfl) h
 | false=>exact⟨M,trivial⟩
theorem z15r (R:Rps l) (h:E2 l):IQ l=some (true,0)/\True:=by
 obtain⟨b,M,O⟩:=Wb R
 have:=O.2 h
 subst this;exact⟨M,trivial⟩
def H3:Nat->List A4->Sum Int (List A4)
 | 0,l=>.inr l
 | k+1,l=>match BR l (CX l.length) with
  | .inl e=>.inl e
  | .inr l'=>H3 k l'
theorem Wc (N:Nat) (hN:N<=5):∀ d i l,N - i=d->i<=N->Rps l->iter (KH (N:Int)) (l,(i:Int))=some (match H3 d l with | .inl e=>.inl ([],e) | .inr k=>.inr k)
 | 0,i,l,hd,hi,R=>by
  refine AW ?_;unfold KH;simp only[];rw[if_neg (by simp; omega)];rfl
 | d+1,i,l,hd,hi,R=>by
  obtain⟨r,U,M⟩:=W9 R;have hF:KH (N:Int) (l,(i:Int))=if r.1 != 0 then some (.inl (.inl ([],r.1))) else some (.inr (r.2,((i+1:Nat):Int))):=by
   unfold KH;simp only[];rw[if_pos (by simp; omega),U,AO (by omega)];simp only[bS]
  simp only[H3]
  cases O:BR l (CX l.length) with
  | inl e =>
   rw[O] at M;have M:r.1=e:=M;rw[M,if_pos (by simpa using Qp O)] at hF;rw[AW hF]
  | inr k =>
   rw[O] at M;have M:r=(0,k):=M;rw[M,if_neg (by simp)] at hF;rw[B9 hF];exact Wc N hN d (i+1) k (by omega) (by omega) (FK R O).1
theorem Has.same {w:Nat} {g h:A4} (M:Fit g n) (O:Fit h m) (U:Has l0 w g) (hh:Has l0 w h):g.IDs=h.IDs:=by rw[Has.eq M O U hh]
theorem zxk (R:Rps l) {O U:List A4} (h1:BR l (CX l.length)=.inr O) (h2:BR O (CX l.length)=.inr U):E2 U:=by
 obtain⟨R1,e1⟩:=FK R h1;obtain⟨R2,e2⟩:=FK R1 h2;obtain⟨-,M⟩:=z108 R h1 h2;intro g hg h hh;exact Has.same (R2.rp g hg).fit (R2.rp h hh).fit (M g hg) (M h hh)
def Gk (l:List A4) (n:Nat):Sum (Int × Int) (List A4) :=
 if E2 l then .inl ((n:Int),0) else match BR l (CX l.length) with
  | .inl e=>.inl (0,e)
  | .inr k=>.inr k
theorem Qr (R:Rps l) {n:Nat} (hn:n<3):Pi (l,(n:Int))=some (match Gk l n with | .inl r=>.inl (.inl r) | .inr k=>.inr (k,((n+1:Nat):Int))):=by
 unfold Pi Gk;simp only[];rw[if_pos (by simp; omega)];by_cases O:E2 l
 ·rw[(z15r R O).1,if_pos O];rfl
 ·obtain⟨r,r1,M⟩:=W9 R;rw[(z18w R O).1,if_neg O,r1,AO (by omega)];simp only[bS]
  cases U:BR l (CX l.length) with
  | inl e =>
   rw[U] at M;have M:r.1=e:=M;rw[M];rw[if_neg (by simp)];simp only[bS,Bool.false_eq_true,if_false];rw[if_pos (by simpa using Qp U)]
  | inr k =>
   rw[U] at M;have M:r=(0,k):=M;rw[M];rfl
theorem Wd (l:List A4):∀ (d i:Nat),11 - i=d->i<=11->∃ r,iter (Fd l) (i:Int)=some r/\(r=.inl true\/(r=.inr ()/\∀ j (h:j<l.length),i<=j->j<=10->Gj l[j]))
 | 0,i,hd,hi=>by
  have:i=11:=by omega
  subst this;refine⟨.inr (),AW ?_,.inr ⟨rfl, λj M h1 h2=>by omega⟩⟩;unfold Fd
  split
  ·rw[if_neg (by simp)]
  ·rfl
 | d+1,i,hd,hi=>by
  by_cases hl:i<l.length
  ·obtain⟨b,O,U⟩:=VG l[i];have hF:Fd l (i:Int)=if b then some (.inl (.inl true)) else some (.inr ((i+1:Nat):Int)):=by
    unfold Fd;rw[if_pos (by simpa using hl),if_pos (by simp; omega),AE hl,AO (by omega)];simp only[bS];rw[O];simp only[bS]
   cases b with
   | true=>exact⟨_,AW hF,.inl rfl⟩
   | false =>
    rw[if_neg (by simp)] at hF;rw[B9 hF];obtain⟨r,r1,r2⟩:=Wd l d (i+1) (by omega) (by omega);refine⟨r,r1,r2.imp id λh=>⟨h.1, λj M h1 h2=>?_⟩⟩;by_cases e:j=i
    ·subst e; exact U rfl
    ·exact h.2 j M (by omega) h2
  ·refine⟨.inr (),AW ?_,.inr ⟨rfl, λj M h1 h2=>by omega⟩⟩;unfold Fd;rw[if_neg (by simp; omega)]
theorem z1an (l:List A4):∃ b,HG l=some b/\(b=false->l.length<=10/\∀ g∈l,Gj g):=by
 obtain⟨r,M,O⟩:=Wd l _ 0 rfl (by omega);unfold HG;rw[show (0:Int)=((0:Nat):Int) from rfl,M];rcases O with rfl | ⟨rfl,h⟩
 ·exact⟨true,rfl, by simp⟩
 ·refine⟨_,rfl, λhb=>?_⟩;have hl:l.length<=10:=by simp at hb; omega
  exact⟨hl, λg U=>by obtain⟨j,hj,rfl⟩:=List.getElem_of_mem U; exact h j hj (Nat.zero_le _) (by omega)⟩
theorem We (l:List A4) (hl:l.length<=1000) (O:∀ g∈l,Gj g):HL l l=some true:=by
 have M:=C1 (F:=Nm l l) (b:=(.inr ():Sum Bool Unit)) l.length (λi=>(i:Int)) (λi hi=>?_) ?_
 ·unfold HL;rw[if_neg (by simp), show (0:Int)=((0:Nat):Int) from rfl,M];rfl
 ·unfold Nm;rw[if_pos (by simpa using hi),AE hi,AO (by omega)];simp only[bS];rw[VI (O _ (List.getElem_mem hi))];rfl
 ·unfold Nm;rw[if_neg (by simp)]
theorem z11m (hl:l.length<=1000) (hw:∀ g∈l,CN g) (O:∀ g∈l,Gj g):∃ c,Fc l=some c/\HI l=some c/\(c=0->Rps l):=by
 obtain⟨c,U,c2,M⟩:=VS hl hw λg hg o ho=>by
  obtain⟨i,hi,rfl⟩:=List.getElem_of_mem ho;exact(O g hg).op i hi
 exact⟨c,U,c2, λh=>⟨(M.1 h).1,(M.1 h).2.1,(M.1 h).2.2⟩⟩
end
section
variable {g:A4}
theorem z1e0 {α:Type} {l:List α} {n:Nat} (h:n<l.length):l.take (n+1)=l.take n++[l[n]]:=by
 rw[List.take_add_one,List.getElem?_eq_getElem h]; rfl
theorem Fm {α:Type} {l:List α} {n:Nat} (h:n<l.length):l.take (n+1)=l.take n++[l[n]]:=by
  rw[List.take_add_one,List.getElem?_eq_getElem h]; rfl
theorem Wg {l:List V3} (M:l.Pairwise λx y=>kd x<=kd y) {n i:Nat} (hi:i<l.length) (hn:n<=i+1):∀ x∈l.take n,kd x<=kd l[i]:=by
  intro x U;obtain⟨j,hj,rfl⟩:=List.getElem_of_mem U;rw[List.length_take] at hj;rw[List.getElem_take];by_cases O:j=i
  · subst O; exact Nat.le_refl _
  · exact List.pairwise_iff_getElem.1 M j i (by omega) hi (by omega)
theorem Wh {l:List V3} {x:V3} (h:l.Pairwise λa b=>kd a<kd b) (M:∀ y∈l,kd y<kd x):(l++[x]).Pairwise λa b=>kd a<kd b:=by
  rw[List.pairwise_append];exact⟨h, by simp, λa O b hb=>by rw[List.mem_singleton] at hb; subst hb; exact M a O⟩
theorem zuf (l : List V3) (hl : l.length <= 1000) (a2 : l.Pairwise λx y => kd x <= kd y) (s : Nat) (h1 : 1 <= s) (hs : s < l.length) (a7 : (l.take s).Pairwise λx y => kd x < kd y) (heq : l[s] = l[s - 1]) :
    ∃ b:List V3 × Int,iter (FZ l s) (l,(s:Int),1)=some b/\b.1.length=l.length/\∃ j:Nat,b.2=(j:Int)/\j<l.length/\(b.1.take j).Pairwise (λx y=>kd x<kd y)/\∀ x,x∈b.1.take j↔x∈l:=by
  refine DV (F:=FZ l s) (l.length - s)
    (λi st=>st.1.length=l.length/\st.2.2=(i:Int)/\1<=i/\∃ j:Nat,st.2.1=(j:Int)/\j+1<=s+i/\(∀ q,s+i - 1<=q->st.1[q]? = l[q]?)/\(st.1.take j).Pairwise (λx y=>kd x<kd y)/\∀ x,x∈st.1.take j↔x∈l.take (s+i)) _ ?_ ?_ _ 1 (by omega)
    ⟨rfl,rfl, by omega,s,rfl, by omega, λ_ _=>rfl,a7, λx=>?_⟩
  · rintro i ⟨c,j',i'⟩ hi ⟨e1,e2,e0,j,e3,e4,M,U,O⟩
    simp only at e1 e2 e3 M U O;subst e2 e3;have g1:c[s+i]'(by omega)=l[s+i]'(by omega):=by
      have:=M (s+i) (by omega)
      rw[List.getElem?_eq_getElem (by omega),List.getElem?_eq_getElem (by omega)] at this;exact Option.some.inj this
    have g2:c[s+(i - 1)]'(by omega)=l[s+(i - 1)]'(by omega):=by
      have:=M (s+(i - 1)) (by omega)
      rw[List.getElem?_eq_getElem (by omega),List.getElem?_eq_getElem (by omega)] at this;exact Option.some.inj this
    have a6:l.take (s+(i+1))=l.take (s+i)++[l[s+i]'(by omega)]:=Fm (n:=s+i) (by omega);unfold FZ;rw[if_pos (by simp; omega)];simp only[Int.toNat_natCast];rw[MB (by omega),B1 (x:=(i:Int) - 1) (by omega) (by omega), show ((i:Int) - 1)=((i - 1:Nat):Int) by omega,MB (by omega)];simp only[bS];rw[AE (by omega),AE (by omega)];simp only[bS];by_cases hc:c[s+i]'(by omega)=c[s+(i - 1)]'(by omega)
    · rw[decide_eq_true hc,if_neg (by simp)]
      refine⟨_,rfl,e1,AO (by omega), by omega,j,rfl, by omega, λq hq=>M q (by omega),U, λx=>?_⟩;rw[O,a6,List.mem_append];refine⟨.inl, λh=>h.elim id λh=>?_⟩;have hx:x=l[s+i]'(by omega):=List.mem_singleton.1 h;rw[hx,<- g1,hc,g2,List.mem_take_iff_getElem];exact⟨s+(i - 1), by omega,rfl⟩
    · rw[decide_eq_false hc,if_pos (by simp),AE (by omega)]
      simp only[bS];have a1:(c.set j (l[s+i]'(by omega))).take (j+1)=c.take j++[l[s+i]'(by omega)]:=by
        rw[Fm (by rw[List.length_set]; omega),List.take_set_of_le (Nat.le_refl _),List.getElem_set_self]
      refine⟨_,rfl, by simpa using e1,AO (by omega), by omega,j+1,AO (by omega), by omega, λq hq=>?_,?_, λx=>?_⟩
      · show (c.set j _)[q]? = _
        rw[List.getElem?_set_ne (by omega)]; exact M q (by omega)
      · show ((c.set j (c[s+i]'(by omega))).take (j+1)).Pairwise _
        rw[g1,a1];refine Wh U λy hy=>?_;have h1:=Wg a2 (n:=s+i) (i:=s+(i - 1)) (by omega) (by omega) y ((O y).1 hy);have h2:kd (l[s+(i - 1)]'(by omega))<=kd (l[s+i]'(by omega)):=List.pairwise_iff_getElem.1 a2 _ _ (by omega) (by omega) (by omega);have h3:kd (l[s+(i - 1)]'(by omega))≠kd (l[s+i]'(by omega)):=λe=>hc (by rw[g1,g2]; exact(Hu e).symm);omega
      · show x∈(c.set j (c[s+i]'(by omega))).take (j+1)↔_
        rw[g1,a1,a6,List.mem_append,List.mem_append,O]
  · rintro⟨c,j',i'⟩ ⟨e1,e2,e0,j,e3,e4,M,U,O⟩
    simp only at e1 e2 e3 M U O;subst e2 e3;unfold FZ;rw[if_neg (by simp <;> omega)]
    refine⟨_,rfl,e1,j,rfl, by omega,U, λx=>?_⟩;rw[O,List.take_of_length_le (by omega)]
  · show x∈l.take s↔x∈l.take (s+1)
    rw[Fm hs,List.mem_append];refine⟨.inl, λh=>h.elim id λh=>?_⟩;have hx:x=l[s]:=List.mem_singleton.1 h;rw[hx,heq,List.mem_take_iff_getElem];exact⟨s - 1, by omega,rfl⟩
theorem Wi (l:List V3) (hl:l.length<=1000) (U:l.Pairwise λx y=>kd x<=kd y):∃ c,F0 l=some c/\Bf c=true/\∀ x,x∈c↔x∈l:=by
  have key:∀ k n,l.length - n=k->1<=n->n<=l.length->(l.take n).Pairwise (λx y=>kd x<kd y)->∃ r:Sum (List V3) Unit,iter (Ez l) (n:Int)=some r/\((r=.inr ()/\l.Pairwise λx y=>kd x<kd y)\/(∃ c,r=.inl c/\(c.Pairwise λx y=>kd x<kd y)/\∀ x,x∈c↔x∈l)):=by
    intro k
    induction k with
    | zero =>
      intro n hk h1 hn M;refine⟨_,AW ?_,.inl ⟨rfl,?_⟩⟩
      · unfold Ez
        rw[if_neg (by simp; omega)]
      · rw[List.take_of_length_le (by omega)] at M; exact M
    | succ k ih =>
      intro n hk h1 hn M;have O:n<l.length:=by omega
      by_cases hc:l[n]=l[n - 1]
      · obtain⟨⟨c,j'⟩,e1,e2,j,e3,e4,e5,e6⟩:=zuf l hl U n h1 O M hc
        simp only at e2 e3 e5 e6;subst e3;have hF:Ez l (n:Int)=some (.inl (.inl (c.take j))):=by
          unfold Ez;rw[if_pos (by simp; omega),AE O,B1 (by omega) (by omega), show ((n:Int) - 1)=((n - 1:Nat):Int) by omega,AE (by omega)];simp only[bS];rw[decide_eq_true hc,if_pos rfl,Cn (by omega)];simp only[bS];rw[e1];simp only[bS];rw[Cn (by omega),Cn (by simp; omega)];simp only[bS,Int.toNat_natCast];rw[show (0:Int)=((0:Nat):Int) from rfl,GF (by omega) (by rw[P4 _ _ _ _ (by omega)]; omega)]
          simp only[bS,List.drop_zero,Nat.sub_zero]
          have:(clr c j (c.length - j) (Vector.replicate 32 0)).take j=c.take j:=by
            unfold clr
            first
              | rw[List.append_assoc,List.take_append_of_le_length (by rw[List.length_take]; omega),List.take_take,Nat.min_self]
              | rw[List.take_append_of_le_length (by rw[List.length_take]; omega),List.take_take,Nat.min_self]
          rw[this]
        exact⟨_,AW hF,.inr ⟨_,rfl,e5,e6⟩⟩
      · have hF : Ez l (n : Int) = some (.inr ((n + 1 : Nat) : Int)) := by
          unfold Ez;rw[if_pos (by simp; omega),AE O,B1 (x:=(n:Int) - 1) (by omega) (by omega), show ((n:Int) - 1)=((n - 1:Nat):Int) by omega,AE (by omega)];simp only[bS];rw[decide_eq_false hc,if_neg (by simp),AO (by omega)]
        obtain⟨r,h2,h3⟩:=ih (n+1) (by omega) (by omega) (by omega) (by
          rw[Fm O];refine Wh M λy hy=>?_;have a1:=Wg U (n:=n) (i:=n - 1) (by omega) (by omega) y hy;have a2:kd (l[n - 1]'(by omega))<=kd l[n]:=List.pairwise_iff_getElem.1 U _ _ (by omega) O (by omega);have a6:kd (l[n - 1]'(by omega))≠kd l[n]:=λe=>hc (Hu e).symm
          omega)
        exact⟨r, by rw[B9 hF]; exact h2,h3⟩
  unfold F0;by_cases h2:l.length<2
  · rw[if_pos (by simp; omega)]
    refine⟨l,rfl,?_, λx=>Iff.rfl⟩
    match l,h2 with
    | [],_=>rfl
    | [_],_=>rfl
  · rw[if_neg (by simp; omega)]
    obtain⟨r,e1,e2⟩:=key (l.length - 1) 1 rfl (by omega) (by omega) (by rw[Fm (by omega)]; simp)
    rw[show (1:Int)=((1:Nat):Int) from rfl,e1];rcases e2 with ⟨rfl,h3⟩ | ⟨c,rfl,h3,h4⟩
    · exact⟨l,rfl,(F7 l).2 h3, λx=>Iff.rfl⟩
    · exact⟨c,rfl,(F7 c).2 h3,h4⟩
def Ja (cl:ID->Option Bool) (a0:List ID) (M:Int):Option (Sum (Sum Int Unit) Int) :=
  if decide (M<(a0.length:Int)) then
    idx a0 M>>=λO =>
    cl O>>=λU =>
    if U then
      some (.inl (.inl M))
    else
      some (.inr (w64 (M+1)))
  else
    some (.inl (.inr ()))
def L8 (cl:ID->Option Bool) (M:(List ID) × Int × Int):Option (Sum ((List ID) × Int) ((List ID) × Int × Int)) :=
  if decide (M.2.2<(M.1.length:Int)) then
    idx M.1 M.2.2>>=λO =>
    cl O>>=λU =>
    if !U then
      idx M.1 M.2.1>>=λa7 =>
      some (w64 (M.2.1+1))>>=λa1 =>
      some (w64 (M.2.2+1))>>=λa2 =>
      some (.inr (M.1.set (M.2.1:Int).toNat O,a1,a2))
    else
      some (w64 (M.2.2+1))>>=λa6 =>
      some (.inr (M.1,M.2.1,a6))
  else
    some (.inl (M.1,M.2.1))
def Wj (cl:ID->Option Bool) (c0:List ID):Option (List ID) :=
  (Bi (iter (Ja cl c0) 0) λs1=>some (-1))>>=λO =>
  if O==(-1) then
    some c0
  else
    (iter (L8 cl) (c0,O,w64 (O+1)))>>=λM =>
    chk (0<=M.2/\M.2<=(M.1.length:Int)/\(M.1.length:Int)<=(M.1.length:Int))>>=λa1 =>
    chk ((M.2:Int).toNat+(((M.1.length:Int):Int).toNat - (M.2:Int).toNat)<=M.1.length)>>=λa2 =>
    cut (clr M.1 ((M.2:Int).toNat) (((M.1.length:Int):Int).toNat - (M.2:Int).toNat) (Vector.replicate 32 0)) 0 M.2>>=λU =>
    some U
theorem z16z (cl:ID->Option Bool) (p:ID->Bool) (hp:∀ x,cl x=some (p x)) (l:List ID) (hl:l.length<=1000):∃ b:Sum Int Unit,iter (Ja cl l) 0=some b/\((b=.inr ()/\∀ x∈l,p x=false)\/∃ i:Nat,b=.inl (i:Int)/\(∃ h:i<l.length,p l[i]=true)/\∀ k (h:k<l.length),k<i->p l[k]=false):=by
  refine G2 (F:=Ja cl l) (λs=>∃ i:Nat,s=(i:Int)/\i<=l.length/\∀ k (h:k<l.length),k<i->p l[k]=false) (λs=>l.length - s.toNat) _ ?_ 0 ⟨0,rfl,Nat.zero_le _, λk _ h=>by omega⟩
  rintro s ⟨i,rfl,h1,h2⟩
  by_cases hi:i<l.length
  · have hF : Ja cl l (i : Int) = if p l[i] then some (.inl (.inl (i : Int))) else some (.inr ((i + 1 : Nat) : Int)) := by
      unfold Ja;rw[if_pos (by simpa using hi),AE hi,AO (by omega)];simp only[bS];rw[hp];simp only[bS]
    cases M:p l[i] with
    | true=>rw[M] at hF; exact .inl ⟨_,hF,.inr ⟨i,rfl,⟨hi,M⟩,h2⟩⟩
    | false =>
      rw[M] at hF;refine .inr ⟨_,hF,⟨i+1,rfl,hi, λk O a1=>?_⟩, by simp; omega⟩;by_cases U:k=i
      · subst U; exact M
      · exact h2 k O (by omega)
  · refine .inl ⟨.inr (),?_,.inl ⟨rfl, λx hx=>?_⟩⟩
    · unfold Ja
      rw[if_neg (by simpa using hi)]
    · obtain⟨k,O,rfl⟩:=List.getElem_of_mem hx
      exact h2 k O (by omega)
theorem NE (cl:ID->Option Bool) (p:ID->Bool) (hp:∀ x,cl x=some (p x)) (l:List ID) (hl:l.length<=1000):Wj cl l=some (l.filter λx=>!p x):=by
  obtain⟨b,b1,b2⟩:=z16z cl p hp l hl;unfold Wj;rw[b1];rcases b2 with ⟨rfl,b3⟩ | ⟨i,rfl,⟨b3,b5⟩,b4⟩
  · simp only[Df,bS]
    rw[if_pos (by rfl),List.filter_eq_self.2 (λx hx=>by rw[b3 x hx]; first | done | rfl)]
  · simp only[or_l,bS]
    rw[if_neg (by simp <;> omega),AO (by omega)]
    have h0:(l.take (i+1)).filter (λx=>!p x)=l.take i:=by
      rw[Fm b3,List.filter_append,List.filter_cons_of_neg (by rw[b5]; simp),List.filter_nil,List.append_nil]
      refine List.filter_eq_self.2 λx hx=>?_;obtain⟨k,hk,rfl⟩:=List.getElem_of_mem hx;rw[List.length_take] at hk;rw[List.getElem_take,b4 k (by omega) (by omega)]; rfl
    have a1:=DV (F:=L8 cl) l.length
      (λj st=>st.1.length=l.length/\st.2.2=(j:Int)/\∃ i:Nat,st.2.1=(i:Int)/\i<j/\(∀ q,j<=q->st.1[q]? = l[q]?)/\st.1.take i=(l.take j).filter λx=>!p x)
      (λb=>b.1.length=l.length/\∃ i:Nat,b.2=(i:Int)/\i<=l.length/\b.1.take i=l.filter λx=>!p x)
      (λj st hj U=>by
        obtain⟨c,i',j'⟩:=st;obtain⟨e1,e2,i,e3,e4,O,M⟩:=U;simp only at e1 e2 e3 O M;subst e2 e3;have g1:c[j]'(by omega)=l[j]:=by
          have:=O j (Nat.le_refl _)
          rw[List.getElem?_eq_getElem (by omega),List.getElem?_eq_getElem (by omega)] at this;exact Option.some.inj this
        have hF:L8 cl (c,(i:Int),(j:Int))=if !p l[j] then some (.inr (c.set i l[j],((i+1:Nat):Int),((j+1:Nat):Int))) else some (.inr (c,(i:Int),((j+1:Nat):Int))):=by
          unfold L8;rw[if_pos (by simp; omega)];simp only[];rw[AE (by omega),g1];simp only[bS];rw[hp];simp only[bS];rw[AE (by omega),AO (by omega),AO (by omega)];simp only[bS,Int.toNat_natCast]
        cases hc:p l[j] with
        | true =>
          rw[hc,if_neg (by simp)] at hF;refine⟨_,hF,e1,rfl,i,rfl, by omega, λq hq=>O q (by omega),?_⟩;rw[Fm hj,List.filter_append,List.filter_cons_of_neg (by rw[hc]; simp),List.filter_nil,List.append_nil]
          exact M
        | false =>
          rw[hc,if_pos (by simp)] at hF;refine⟨_,hF, by simpa using e1,rfl,i+1,rfl, by omega, λq hq=>?_,?_⟩
          · show (c.set i _)[q]? = _
            rw[List.getElem?_set_ne (by omega)]; exact O q (by omega)
          · show (c.set i l[j]).take (i+1)=_
            rw[Fm (by rw[List.length_set]; omega),List.take_set_of_le (Nat.le_refl _),List.getElem_set_self,M,Fm hj,List.filter_append,List.filter_cons_of_pos (by rw[hc]; simp),List.filter_nil])
      (λst U=>by
        obtain⟨c,i',j'⟩:=st;obtain⟨e1,e2,i,e3,e4,O,M⟩:=U;simp only at e1 e2 e3 O M;subst e2 e3;refine⟨(c,(i:Int)),?_,e1,i,rfl, by omega,?_⟩
        · unfold L8
          rw[if_neg (by simp; omega)]
        · rw[List.take_length] at M; exact M)
      (l,(i:Int),((i+1:Nat):Int)) (i+1) b3 ⟨rfl,rfl,i,rfl, by omega, λ_ _=>rfl,h0.symm⟩
    obtain⟨⟨c,k'⟩,m1,m2,k,m3,m4,m5⟩:=a1;simp only at m2 m3 m5;subst m3;rw[m1];simp only[bS];rw[Cn (by omega),Cn (by simp; omega)];simp only[bS,Int.toNat_natCast];rw[show (0:Int)=((0:Nat):Int) from rfl,GF (by omega) (by rw[P4 _ _ _ _ (by omega)]; omega)];simp only[bS,List.drop_zero,Nat.sub_zero]
    have:(clr c k (c.length - k) (Vector.replicate 32 0)).take k=c.take k:=by
      unfold clr
      first
              | rw[List.append_assoc,List.take_append_of_le_length (by rw[List.length_take]; omega),List.take_take,Nat.min_self]
              | rw[List.take_append_of_le_length (by rw[List.length_take]; omega),List.take_take,Nat.min_self]
    rw[this,m5]
theorem z1d5 (m:List (ID × Int)) (p:ID->Bool) (M:∀ x,(C7 m x).isSome=p x) (l:List ID) (hl:l.length<=1000):MQ l m=some (l.filter λx=>!p x):=by
  have:=NE (λx=>Kx x m) p (λx=>by unfold Kx; simp only[bS]; rw[M]) l hl;exact this
theorem zx6 (E:Cj g):∃ m,G8 g=some m/\∀ x,(C7 m x).isSome=decide (x∈g.IDs):=by
  have a1:=E.len;have a2:=E.ids;have O:=DV (F:=Hx g) g.IDs.length
    (λi s=>s.2=(i:Int)/\∀ x,(C7 s.1 x).isSome=decide (x∈g.IDs.take i))
    (λm=>∀ x,(C7 m x).isSome=decide (x∈g.IDs))
    (λi s hi U=>by
      obtain⟨m,i'⟩:=s;obtain⟨h1,h2⟩:=U;simp only at h1 h2;subst h1;refine⟨(Du m g.IDs[i] (i:Int),((i+1:Nat):Int)),?_,rfl, λx=>?_⟩
      · unfold Hx
        rw[if_pos (by simpa using hi)];simp only[];rw[AE hi,AO (by omega)];simp only[bS]
      · simp only[]
        rw[Ny,Fm hi];by_cases M:x=g.IDs[i]
        · rw[if_pos M,decide_eq_true (List.mem_append.2 (.inr (List.mem_singleton.2 M)))]; rfl
        · rw[if_neg M,h2,decide_eq_decide,List.mem_append]
          exact⟨.inl, λh=>h.resolve_right λh=>M (List.mem_singleton.1 h)⟩)
    (λs U=>by
      obtain⟨m,i'⟩:=s;obtain⟨h1,h2⟩:=U;simp only at h1 h2;subst h1;rw[List.take_length] at h2;refine⟨m,?_,h2⟩;unfold Hx
      rw[if_neg (by simp)])
    (([]:List (ID × Int)),0) 0 (Nat.zero_le _) ⟨rfl, λx=>by simp[C7]⟩
  obtain⟨m,h1,h2⟩:=O;refine⟨m,?_,h2⟩;unfold G8;rw[h1];simp only[bS]
def Ev (g:A4) (m:Nat->Bool):Nat->List ID
 | 0=>[]
 | i+1=>if m i then Ev g m i++[BU g i] else Ev g m i
def subO (g:A4) (m:Nat->Bool):Nat->List Ae
 | 0=>[]
 | i+1=>if m i then subO g m i++g.Ops[i]?.toList else subO g m i
theorem Wk {g:A4} {m:Nat->Bool} {i:Nat} (h:m i=true):Ev g m (i+1)=Ev g m i++[BU g i]:=if_pos h
theorem z1dh {g:A4} {m:Nat->Bool} {i:Nat} (h:m i=true):subO g m (i+1)=subO g m i++g.Ops[i]?.toList:=if_pos h
theorem Wl {g:A4} {m:Nat->Bool} {i:Nat} (h:m i=false):Ev g m (i+1)=Ev g m i:=if_neg (by rw[h]; simp)
theorem z1d3 {g:A4} {m:Nat->Bool} {i:Nat} (h:m i=false):subO g m (i+1)=subO g m i:=if_neg (by rw[h]; simp)
def subG (g:A4) (m:Nat->Bool):A4:=⟨Ev g m g.Ops.length,subO g m g.Ops.length⟩
theorem Wm (g:A4) (m:Nat->Bool):∀ i,(Ev g m i).length<=i
 | 0=>Nat.le_refl _
 | i+1=>by
  have:=Wm g m i
  unfold Ev
  split
  ·rw[List.length_append,List.length_singleton]; omega
  ·omega
theorem Wn (g:A4) (m:Nat->Bool):∀ i,(subO g m i).length<=i
 | 0=>Nat.le_refl _
 | i+1=>by
  have:=Wn g m i
  unfold subO
  split
  ·rw[List.length_append]
   have:g.Ops[i]?.toList.length<=1:=by cases g.Ops[i]? <;> simp
   omega
  ·omega
theorem z177 (E:Cj g) (m:Nat->Bool):iter (Ky g (tab g.Ops.length m)) ([],[],0)=some (Ev g m g.Ops.length,subO g m g.Ops.length):=by
 have a1:=E.len;have a2:=E.ids;have U:=C1 (F:=Ky g (tab g.Ops.length m)) (b:=(Ev g m g.Ops.length,subO g m g.Ops.length)) g.Ops.length (λi=>(Ev g m i,subO g m i,(i:Int))) (λi hi=>?_) ?_
 ·exact U
 ·have O:i<g.IDs.length:=by omega
  have l1:=Wm g m i;have l2:=Wn g m i;have h4:=(E.op i hi).1;unfold Ky;rw[if_pos (by rw[HP]; simpa using hi)]
  simp only[];rw[DX hi,AO (by omega)];simp only[bS]
  cases M:m i with
  | false =>
   rw[if_neg (by simp),Wl M,z1d3 M]
  | true =>
   rw[if_pos rfl,AE hi];simp only[bS];rw[HO _ (by omega),AE O];simp only[bS];rw[Bw (by simp only[List.length_cons,List.length_nil]; omega)];simp only[bS];rw[Bw (by simp only[List.length_cons,List.length_nil]; omega)];simp only[bS];rw[Wk M,z1dh M,E0 O,List.getElem?_eq_getElem hi];rfl
 ·unfold Ky;rw[if_neg (by rw[HP]; simp)]
theorem Qs {P:Nat->List Nat} {S:List Nat} {i:Nat}:Rch P S i↔i∈S\/∃ s∈S,Rch P (P s) i:=by
 constructor
 ·intro h
  induction h with
  | base h=>exact .inl h
  | @step i p _ O U =>
   rcases U with h | ⟨s,M,h⟩
   ·exact .inr ⟨i,h,.base O⟩
   ·exact .inr ⟨s,M,.step h O⟩
 ·rintro (h | ⟨s,M,h⟩)
  ·exact .base h
  ·exact h.thru λx hx=>.step (.base M) hx
end
section
variable {g a b:A4} {n m:Nat} {l:List A4} {mk:Nat->Bool}
def Dl (l:List A4):A4:=l.foldl BP ⟨[],[]⟩
theorem z1au:Fit (⟨[],[]⟩:A4) 0:=⟨rfl,Nat.le_refl _,rfl, λo M=>by cases M⟩
theorem z10x (l:List A4) (g:A4):Dl (l++[g])=BP (Dl l) g:=by unfold Dl; rw[List.foldl_append]; rfl
theorem Qu (R:Rps l):∀ i,i<=l.length->Fit (Dl (l.take i)) (60 * i)/\∀ x,AT (Dl (l.take i)) x=CO (l.take i) x
 | 0,_=>⟨z1au, λx=>rfl⟩
 | i+1,hi=>by
  obtain⟨h1,h2⟩:=Qu R i (by omega);have F:=(R.rp _ (List.getElem_mem (show i<l.length by omega))).fit;rw[z1e0 (by omega),z10x];refine⟨?_, λx=>?_⟩
  ·have:=Ee h1 F
   rw[Nat.mul_succ]; exact this
  ·rw[Fk h1 F,h2,VR]
theorem L9 (R:Rps l):Fit (Dl l) 300:=by
 have h:=(Qu R l.length (Nat.le_refl _)).1;rw[List.take_length] at h
 have:=R.len
 exact⟨h.ids,Nat.le_trans h.len (by omega),h.ri,h.op⟩
theorem La (R:Rps l) (x:ID):AT (Dl l) x=CO l x:=by
 have h:=(Qu R l.length (Nat.le_refl _)).2 x
 rwa [List.take_length] at h
theorem z1a7 {W g:A4} (F:Fit W n) (G:Fit g m) (h:∀ x o,AT W x=some o->AT g x=some o):W.Ops.length<=g.Ops.length:=by
 rw[<- F.ids,<- G.ids];refine Ed _ _ (Ge F.ri) λx M=>?_;obtain⟨o,O⟩:=DR F M;exact(DH (h x o O)).1
end
section
variable {g a b:A4} {n:Nat} {l k:List A4} {m:AX} {x:ID} {o:Ae}
theorem optE {α:Type} {p q:Option α} (h:∀ o,p=some o↔q=some o):p=q:=by
 cases p with
 | none =>
  cases q with
  | none=>rfl
  | some o=>exact absurd ((h o).2 rfl) (by simp)
 | some o=>exact((h o).1 rfl).symm
theorem Qv (R:Rps l):CO l x=some o↔∃ h∈l,AT h x=some o :=
 ⟨λh=>L6 h, λ⟨_,h1,h2⟩=>HT R.ag h1 h2⟩
theorem z1ad (M:C9 l m=.inr k):Two l.length m:=by
 unfold C9 at M
 split at M
 ·assumption
 ·cases M
theorem z19h (R:Rps l) (hw:(Dl l).Ops.length<=60) (h2:Two l.length m):∃ k,C9 l m=.inr k:=by
 obtain⟨ia,ea⟩:=EE h2.1.1 h2.1.2;obtain⟨ib,eb⟩:=EE h2.2.1.1 h2.2.1.2;have ma:atG l m.A∈l:=by rw[ea]; exact List.getElem_mem _
 have mb:atG l m.B∈l:=by rw[eb]; exact List.getElem_mem _
 have a1:(BP (atG l m.A) (atG l m.B)).Ops.length<=(Dl l).Ops.length:=z1a7 (Ee (R.rp _ ma).fit (R.rp _ mb).fit) (L9 R) λx o h=>by rw[La R]; exact VT R ma mb h
 unfold C9;rw[if_pos h2,if_neg (by omega)];exact⟨_,rfl⟩
theorem Wo (R:Rps l) (M:C9 l m=.inr k) {i:Nat} (hi:i<l.length) (a2:i<k.length) (h:AT l[i] x=some o):AT k[i] x=some o:=by
 have h2:=z1ad M;obtain⟨ia,ea⟩:=EE h2.1.1 h2.1.2;obtain⟨ib,eb⟩:=EE h2.2.1.1 h2.2.1.2;have ma:atG l m.A∈l:=by rw[ea]; exact List.getElem_mem _
 have mb:atG l m.B∈l:=by rw[eb]; exact List.getElem_mem _
 unfold C9 at M;rw[if_pos h2] at M
 split at M
 ·cases M
 ·have hk:k=(l.set m.A.toNat (BP (atG l m.A) (atG l m.B))).set m.B.toNat (BP (atG l m.A) (atG l m.B)):=by
   injection M with M; exact M.symm
  subst hk;have U:∀ g,g=atG l m.A\/g=atG l m.B->AT g x=some o->AT (BP (atG l m.A) (atG l m.B)) x=some o:=λg hg O=>by
   have a1:g∈l:=by
    rcases hg with rfl | rfl
    ·exact ma
    ·exact mb
   rw[Fk (R.rp _ ma).fit (R.rp _ mb).fit]
   cases hq:AT (atG l m.A) x with
   | some q =>
    rw[R.ag _ ma g a1 x q o hq O]; rfl
   | none =>
    rcases hg with rfl | rfl
    ·rw[hq] at O; cases O
    ·rw[O]; rfl
  simp only[List.getElem_set];by_cases e1:m.B.toNat=i
  ·rw[if_pos e1];subst e1;exact U _ (.inr rfl) (by rw[eb]; exact h)
  ·rw[if_neg e1];by_cases e2:m.A.toNat=i
   ·rw[if_pos e2];subst e2;exact U _ (.inl rfl) (by rw[ea]; exact h)
   ·rw[if_neg e2]; exact h
theorem z19u (R:Rps l) (O:C9 l m=.inr k) (x:ID):CO k x=CO l x:=by
 obtain⟨U,hs⟩:=HU R O;have a1:=L7 O;refine optE λo=>?_;rw[Qv U,Qv R]
 constructor
 ·rintro⟨g,h1,h2⟩
  exact(Qv R).1 (hs g h1 x o h2)
 ·rintro⟨g,h1,h2⟩
  obtain⟨i,hi,rfl⟩:=List.getElem_of_mem h1;have M:i<k.length:=by omega
  exact⟨k[i],List.getElem_mem M,Wo R O hi M h2⟩
theorem Qw (R:Rps l) (M:Rps k) (h:∀ x,CO k x=CO l x):Dl k=Dl l:=J7 (L9 M) (L9 R) λx=>by rw[La M,La R,h]
theorem Qx:∀ (ms:List AX) (l:List A4),Rps l->(Dl l).Ops.length<=60->(∀ m∈ms,Two l.length m)->∃ k,BR l ms=.inr k/\Rps k/\k.length=l.length/\(∀ x,CO k x=CO l x)/\∀ i (h:i<l.length) (h2:i<k.length) x o,AT l[i] x=some o->AT k[i] x=some o
 | [],l,R,hw,h2=>⟨l,rfl,R,rfl, λx=>rfl, λi _ _ x o h=>h⟩
 | m::ms,l,R,hw,h2=>by
  obtain⟨U,e1⟩:=z19h R hw (h2 m (by simp));have R1:=(HU R e1).1;have l1:=L7 e1;have M:=z19u R e1;have w1:=Qw R R1 M;obtain⟨k,p1,p2,p3,p4,p5⟩:=Qx ms U R1 (by rw[w1]; exact hw) λm' O=>by rw[l1]; exact h2 m' (by simp[O])
  refine⟨k,?_,p2, by omega, λx=>by rw[p4,M], λi h h2 x o ho=>p5 i (by omega) h2 x o (Wo R e1 h (by omega) ho)⟩;simp only[BR];rw[e1];exact p1
theorem NF (n:Nat):∀ m∈CX n,Two n m:=λm M=>by
 unfold CX at M;rcases List.mem_append.1 M with M | M
 ·obtain⟨i,hi,rfl⟩:=List.mem_map.1 M;rw[List.mem_range'_1] at hi;unfold Two HV;simp only;omega
 ·split at M
  ·rw[List.mem_singleton] at M;subst M;unfold Two;simp only;omega
  ·cases M
theorem z12e (R:Rps l) (hw:(Dl l).Ops.length<=60):∃ k,BR l (CX l.length)=.inr k/\Rps k/\k.length=l.length/\Dl k=Dl l:=by
 obtain⟨k,O,M,U,p4,-⟩:=Qx _ l R hw (NF _);exact⟨k,O,M,U,Qw R M p4⟩
theorem Wp (R:Rps l) (N:Nat) (hN:N<=5) (h:H3 N l=.inr k):HF l (N:Int)=some (k,0):=by
 unfold HF;rw[R.chk.1];simp only[bS];have M:¬ (decide ((N:Int)<0)=true):=by simp
 have O:¬ (decide (5<(N:Int))=true):=by simp; omega
 rw[if_neg (by simp),if_neg M,if_neg O,Ql l (by have:=R.len; omega) R.f900];simp only[bS];rw[show (0:Int)=((0:Nat):Int) from rfl,Wc N hN N 0 l rfl (Nat.zero_le _) R,h];rfl
theorem z120 (R:Rps l) {M k2:List A4} (h1:BR l (CX l.length)=.inr M) (h2:BR M (CX M.length)=.inr k2):Na l=some (if E2 l then (0,0) else if E2 M then (1,0) else (2,0)):=by
 obtain⟨R1,e1⟩:=FK R h1;obtain⟨R2,e2⟩:=FK R1 h2;unfold Na;rw[R.chk.1];simp only[bS];rw[if_neg (by simp),Ql l (by have:=R.len; omega) R.f900];simp only[bS];have O:=Qr R (n:=0) (by omega);have U:=Qr R1 (n:=1) (by omega);have p2:=Qr R2 (n:=2) (by omega);rw[show (0:Int)=((0:Nat):Int) from rfl];by_cases s0:E2 l
 ·have e:Gk l 0=.inl (((0:Nat):Int),0):=if_pos s0;rw[e] at O;rw[AW O,if_pos s0];rfl
 ·have e:Gk l 0=.inr M:=by unfold Gk; rw[if_neg s0,h1]
  rw[e] at O;rw[B9 O,if_neg s0];by_cases s1:E2 M
  ·have e:Gk M 1=.inl (((1:Nat):Int),0):=if_pos s1;rw[e] at U;rw[AW U,if_pos s1];rfl
  ·have e:Gk M 1=.inr k2:=by unfold Gk; rw[if_neg s1,h2]
   rw[e] at U;rw[B9 U,if_neg s1];have hs:=zxk R h1 (by rw[<- e1]; exact h2);have e:Gk k2 2=.inl (((2:Nat):Int),0):=if_pos hs;rw[e] at p2;rw[AW p2];rfl
theorem z18m (ids:List ID) (hn:ids.Nodup) {l0:List A4} (hl:l0.length=ids.length) (h0:∀ i (h:i<l0.length) (h2:i<ids.length),∃ o,∀ x q,AT l0[i] x=some q↔x=ids[i]/\q=o) {w:Nat} (F:Fit g n) (H:Has l0 w g):g.IDs.length=((List.range ids.length).filter λi=>w.testBit i).length:=by
 have e:((List.range ids.length).filter λi=>w.testBit i).length=(((List.range ids.length).filter λi=>w.testBit i).map λi=>ids[i]?.getD (Vector.replicate 32 0)).length:=by rw[List.length_map]
 rw[e];refine PP (Ge F.ri) ?_ λx=>?_
 ·unfold List.Nodup;rw[List.pairwise_map];refine List.Pairwise.imp_of_mem (λ{a b} O hb a1 e=>?_) (List.Pairwise.sublist List.filter_sublist List.nodup_range);have O:a<ids.length:=by simpa using (List.mem_filter.1 O).1
  have hb:b<ids.length:=by simpa using (List.mem_filter.1 hb).1
  rw[List.getElem?_eq_getElem O,List.getElem?_eq_getElem hb] at e;exact a1 ((List.getElem_inj hn).1 e)
 ·rw[List.mem_map]
  constructor
  ·intro hx;obtain⟨o,ho⟩:=DR F hx;obtain⟨i,hi,h1,h2⟩:=(H x o).1 ho;have M:i<ids.length:=by omega
   obtain⟨q,U⟩:=h0 i hi M;refine⟨i,List.mem_filter.2 ⟨by simpa using M,h1⟩,?_⟩;rw[List.getElem?_eq_getElem M];exact((U x o).1 h2).1.symm
  ·rintro⟨i,hi,rfl⟩
   rw[List.mem_filter] at hi;have M:i<ids.length:=by simpa using hi.1
   obtain⟨q,U⟩:=h0 i (by omega) M;rw[List.getElem?_eq_getElem M];exact(DH ((H ids[i] q).2 ⟨i, by omega,hi.2,(U _ _).2 ⟨rfl,rfl⟩⟩)).1
end
section
variable {l:List A4} {g:A4}
theorem z14k (R:Rps l) (M:g∈l) {x:ID} (O:x∈g.IDs):x∈(Dl l).IDs:=by
 obtain⟨o,U⟩:=DR (R.rp g M).fit O
 have:=HT R.ag M U
 rw[<- La R] at this;exact(DH this).1
theorem z11h (R:Rps l) {x:ID} (O:x∈(Dl l).IDs):∃ g∈l,x∈g.IDs:=by
 obtain⟨o,M⟩:=DR (L9 R) O;rw[La R] at M;obtain⟨g,h1,h2⟩:=L6 M;exact⟨g,h1,(DH h2).1⟩
def rid (d:Rn):ID:=idv d.h3
def rop (d:Rn):Ae:=Ec (u32 4) (UInt64.ofNat d.n) [] ⟨u32 d.E,u32 d.S⟩
def z1ep (d:Rn):ID × Ae:=(rid d,rop d)
def grR (m:List Rn):A4:=Cz ⟨[],[]⟩ (m.map z1ep)
theorem wf_b {y:UInt32} {st:UInt64} {sg:AC}:FE (Ec y st [] sg):=by
 refine⟨trivial,⟨λx _ y _=>trivial, by show ([]:List ID).length<=_; simp⟩,trivial,?_,?_⟩
 ·refine⟨trivial,?_,⟨trivial,?_,trivial,?_,trivial⟩,trivial⟩
  ·show ([]:List UInt8).length<=_; simp
  ·show inI 0; unfold inI; omega
  ·show ([]:List UInt8).length<=_; simp
 ·exact⟨⟨trivial,trivial,trivial⟩,trivial⟩
theorem NG {d:Rn} (h:chkR d=true):IJ 1 (⟨0,[],UInt64.ofNat d.n,⟨1,[],⟨0,0,0,[]⟩⟩,⟨0,0⟩⟩:Ae)=some (rop d,0)/\Di (rop d)=0/\sha (CS (rop d))=rid d:=by
 have:=z1ee (k:=1) (P:=[]) h
 exact this
theorem z145 {g:A4} {d:Rn} (h:chkR d=true) (no:rid d∉g.IDs):NC g (rid d) (rop d):=by
 have:=NG h
 exact⟨⟨by show ([]:List ID).length<=20; simp, by show ([]:List UInt8).length<=100; simp, by show ([]:List UInt8).length<=100; simp⟩,⟨this.2.1,this.2.2, by show ([]:List ID).length<=4; simp,rfl⟩,wf_b,no, λp M=>by cases M⟩
theorem z1ch {α β γ:Type} {f:α->β} {k:β->γ} {l:List α} (h:(l.map λd=>k (f d)).Nodup):(l.map f).Nodup:=by
 unfold List.Nodup at h ⊢;rw[List.pairwise_map] at h ⊢;exact h.imp λM e=>M (by rw[e])
structure Mk (m:List Rn):Prop where
 chk:∀ d∈m,chkR d=true
 nd:(m.map rid).Nodup
 len:m.length<=60
theorem z15z (m:List Rn) (d:Rn):grR (m++[d])=Co (grR m) (rid d,rop d):=by
 unfold grR;rw[List.map_append,List.map_cons,List.map_nil,Qd];rfl
theorem Mk.of_app {m:List Rn} {d:Rn} (h:Mk (m++[d])):Mk m/\chkR d=true/\rid d∉m.map rid/\m.length<=59:=by
 have M:=h.nd;rw[List.map_append,List.map_cons,List.map_nil,List.nodup_append] at M;have hl:=h.len;rw[List.length_append,List.length_singleton] at hl;exact⟨⟨λe O=>h.chk e (by simp[O]),M.1, by omega⟩,h.chk d (by simp), λU=>M.2.2 _ U _ (by simp) rfl, by omega⟩
theorem z1ao:∀ (n:Nat) (m:List Rn),m.length=n->Mk m->Rp (grR m)/\(grR m).Ops.length=m.length/\∀ x o,AT (grR m) x=some o↔∃ d∈m,rid d=x/\o=rop d:=by
 intro n
 induction n with
 | zero =>
  intro m M _
  have:m=[]:=List.length_eq_zero_iff.1 M
  subst this;exact⟨Rp.nil,rfl, λx o=>⟨λh=>(by have:=(DH h).1; cases this), λ⟨d,h,_⟩=>(by cases h)⟩⟩
 | succ n ih =>
  intro m M hk;obtain⟨m',d,rfl⟩:∃ m' d,m=m'++[d]:=⟨m.dropLast,m.getLast (λe=>by subst e; simp at M),(List.dropLast_concat_getLast _).symm⟩
  obtain⟨k1,k2,U,k4⟩:=hk.of_app;obtain⟨R,hl,O⟩:=ih m' (by simpa using M) k1;have no:rid d∉(grR m').IDs:=λhx=>by
   obtain⟨o,ho⟩:=DR R.fit hx;obtain⟨e,e1,e2,-⟩:=(O _ _).1 ho;exact U (List.mem_map.2 ⟨e,e1,e2⟩)
  have N:=z145 k2 no;rw[z15z];refine⟨R.add (by omega) N, by rw[z1av R.fit N,hl]; simp, λx o=>?_⟩
  rw[z153 R.fit N];by_cases e:x=rid d
  ·rw[if_pos e]
   constructor
   ·intro h; exact⟨d, by simp,e.symm,(Option.some.inj h).symm⟩
   ·rintro⟨d',h1,h2,h3⟩
    rcases List.mem_append.1 h1 with h1 | h1
    ·exact absurd (List.mem_map.2 ⟨d',h1,h2.trans e⟩) U
    ·rw[List.mem_singleton] at h1; subst h1; rw[h3]
  ·rw[if_neg e,O]
   constructor
   ·rintro⟨d',h1,h2⟩; exact⟨d', by simp[h1],h2⟩
   ·rintro⟨d',h1,h2,h3⟩
    rcases List.mem_append.1 h1 with h1 | h1
    ·exact⟨d',h1,h2,h3⟩
    ·rw[List.mem_singleton] at h1; subst h1; exact absurd h2.symm e
theorem H4 {m:List Rn} (h:Mk m):Rp (grR m)/\(grR m).Ops.length=m.length/\∀ x o,AT (grR m) x=some o↔∃ d∈m,rid d=x/\o=rop d:=z1ao _ m rfl h
theorem z1bm {l:List Rn} (h:(l.map rid).Nodup) {d e:Rn} (hd:d∈l) (O:e∈l) (U:rid d=rid e):d=e:=by
 obtain⟨i,hi,rfl⟩:=List.getElem_of_mem hd;obtain⟨j,M,rfl⟩:=List.getElem_of_mem O;have h1:(l.map rid)[i]'(by simpa using hi)=(l.map rid)[j]'(by simpa using M):=by simpa using U
 have:=(List.getElem_inj (h₀:=by simpa using hi) (h₁:=by simpa using M) h).1 h1
 subst this; rfl
theorem z19z {ms:List (List Rn)} (h5:ms.length<=5) (O:∀ m∈ms,Mk m) (hn:(ms.flatten.map rid).Nodup):Rps (ms.map grR)/\(Dl (ms.map grR)).Ops.length=ms.flatten.length:=by
 have R:Rps (ms.map grR):=⟨by simpa using h5, λg hg=>by
  obtain⟨m,M,rfl⟩:=List.mem_map.1 hg;exact(H4 (O m M)).1, λg hg h hh x o q h1 h2=>by
  obtain⟨m,M,rfl⟩:=List.mem_map.1 hg;obtain⟨m',a1,rfl⟩:=List.mem_map.1 hh;obtain⟨d,U,d2,d3⟩:=((H4 (O m M)).2.2 x o).1 h1;obtain⟨e,e1,e2,e3⟩:=((H4 (O m' a1)).2.2 x q).1 h2
  have:=z1bm hn (List.mem_flatten.2 ⟨m,M,U⟩) (List.mem_flatten.2 ⟨m',a1,e1⟩) (d2.trans e2.symm)
  rw[d3,e3,this]⟩
 refine⟨R,?_⟩;have F:=L9 R;rw[<- F.ids];have e:=PP (Ge F.ri) hn λx=>?_
 ·rw[e,List.length_map]
 ·constructor
  ·intro hx;obtain⟨g,g1,g2⟩:=z11h R hx;obtain⟨m,M,rfl⟩:=List.mem_map.1 g1;obtain⟨o,ho⟩:=DR (R.rp _ g1).fit g2;obtain⟨d,U,d2,-⟩:=((H4 (O m M)).2.2 x o).1 ho;exact List.mem_map.2 ⟨d,List.mem_flatten.2 ⟨m,M,U⟩,d2⟩
  ·intro hx;obtain⟨d,U,d2⟩:=List.mem_map.1 hx;obtain⟨m,M,d3⟩:=List.mem_flatten.1 U
   have:=((H4 (O m M)).2.2 x (rop d)).2 ⟨d,d3,d2,rfl⟩
   exact z14k R (List.mem_map.2 ⟨m,M,rfl⟩) (DH this).1
theorem z1eh {d:Rn} (h:chkR d=true):OkN (rop d):=⟨(NG h).2.1, by show ([]:List ID).length<=4; simp, by show ([]:List UInt8).length<=100; simp, by show ([]:List UInt8).length<=100; simp, by show inI 0; unfold inI; omega⟩
theorem z1ei {d:Rn} (h:chkR d=true):oid (rop d)=rid d:=(NG h).2.2
theorem of_r {m:List Rn} (h:Mk m):Ko (m.map rop)=some (grR m,0):=by
 obtain⟨R,hl,O⟩:=H4 h;refine z1ef R.fit (H2 R.good R.fit) (λo=>?_) (by rw[List.length_map]; exact h.len) (λo M=>?_) ?_
 ·constructor
  ·intro M;obtain⟨d,hd,rfl⟩:=List.mem_map.1 M;exact(DH ((O (rid d) (rop d)).2 ⟨d,hd,rfl,rfl⟩)).2
  ·intro M;obtain⟨i,hi,rfl⟩:=List.getElem_of_mem M;obtain⟨d,hd,-,e⟩:=(O _ _).1 (Et R.fit hi);rw[e];exact List.mem_map.2 ⟨d,hd,rfl⟩
 ·obtain⟨d,hd,rfl⟩:=List.mem_map.1 M;exact z1eh (h.chk d hd)
 ·rw[List.map_map];have e:m.map (oid ∘ rop)=m.map rid:=List.map_congr_left λd hd=>z1ei (h.chk d hd);rw[e];exact h.nd
end
section
def DI (n:Int) (m:AX):Bool:=decide (0<=m.A/\m.A<n/\0<=m.B/\m.B<n/\m.A≠m.B)
def Dq (f:Nat->Nat->Bool) (m:AX):Nat->Nat->Bool:=λi k=>if (i:Int)=m.A\/(i:Int)=m.B then f m.A.toNat k || f m.B.toNat k else f i k
theorem z1cs (n:Int) (m:AX):HD n m=some (DI n m):=by
 unfold HD DI
 split
 ·rename_i h;simp only[decide_eq_true_eq] at h
  split
  ·rename_i h2;simp only[decide_eq_true_eq] at h2
   congr 1
   rw[Bool.eq_iff_iff]; simp; omega
  ·rename_i h2;simp only[decide_eq_true_eq] at h2
   congr 1
   rw[Bool.eq_iff_iff]; simp; omega
 ·rename_i h;simp only[decide_eq_true_eq] at h
  congr 1
  rw[Bool.eq_iff_iff]; simp; omega
def hb (h:Vector UInt64 5) (i k:Nat):Bool:=(h[i]?.getD 0).toNat.testBit k
theorem HX {h:Vector UInt64 5} {i k:Nat} (hi:i<5):hb h i k=(h[i]).toNat.testBit k:=by simp[hb,hi]
theorem z16l (h:Vector UInt64 5) (m:AX) (n:Int) (hn:n<=5) (M:DI n m=true) (i k:Nat) (hi:i<5) :
  hb (BY (BY h m.A (h[m.A.toNat]'(by simp[DI] at M; omega) ||| h[m.B.toNat]'(by simp[DI] at M; omega))) m.B (h[m.A.toNat]'(by simp[DI] at M; omega) ||| h[m.B.toNat]'(by simp[DI] at M; omega))) i k=Dq (hb h) m i k:=by
 simp[DI] at M;rw[HX hi,G3 hi,G3 hi];unfold Dq;rw[HX (show m.A.toNat<5 by omega),HX (show m.B.toNat<5 by omega),HX hi];by_cases h1:m.B.toNat=i
 ·rw[if_pos h1,if_pos (by omega),UInt64.toNat_or,Nat.testBit_or]
 ·rw[if_neg h1];by_cases h2:m.A.toNat=i
  ·rw[if_pos h2,if_pos (by omega),UInt64.toNat_or,Nat.testBit_or]
  ·rw[if_neg h2,if_neg (by omega)]
theorem z101 (n:Int) (hn:n<=5) (K:Nat->Prop):∀ (l:List AX) (f g:Nat->Nat->Bool),(∀ m∈l,DI n m=true)->(∀ i k,i<5->K k->f i k=g i k)->∀ i k,i<5->K k->l.foldl Dq f i k=l.foldl Dq g i k:=by
 intro l
 induction l with
 | nil=>intro f g _ M i k hi O; exact M i k hi O
 | cons m l a1 =>
  intro f g U M i k hi O;simp only[List.foldl_cons];refine a1 _ _ (λm hm=>U m (by simp[hm])) (λi k hi O=>?_) i k hi O
  have:=U m (by simp)
  simp[DI] at this;unfold Dq;rw[M m.A.toNat k (by omega) O,M m.B.toNat k (by omega) O,M i k hi O]
theorem Wq (n:Int) (hn:n<=5) (ms:List AX) (hl:ms.length<=1000):∀ (rest pre:List AX) (h:Vector UInt64 5),ms=pre++rest ->
  (rest.all (DI n)=true->∃ h',iter (IN n ms) (h,(pre.length:Int))=some (.inr h')/\∀ i k,i<5->hb h' i k=rest.foldl Dq (hb h) i k) /\
  (rest.all (DI n)=false->iter (IN n ms) (h,(pre.length:Int))=some (.inl ([],2)))
 | [],pre,h,e=>by
  refine⟨λ_=>⟨h,AW ?_, λ_ _ _=>rfl⟩, λhh=>by simp at hh⟩;subst e;unfold IN
  simp
 | m::rest,pre,h,e=>by
  have O:pre.length<ms.length:=by rw[e]; simp
  have a2:ms[pre.length]'O=m:=by subst e; simp
  have hF:IN n ms (h,(pre.length:Int))=if !DI n m then some (.inl (.inl ([],2))) else
    B3 h m.A>>=λU=>B3 h m.B>>=λa1=>B3 h m.A>>=λa7=>B3 (BY h m.A (U ||| a1)) m.B>>=λa8=>some (.inr (BY (BY h m.A (U ||| a1)) m.B (U ||| a1),w64 ((pre.length:Int)+1))):=by
   unfold IN;rw[if_pos (by simp <;> omega)]
   simp only[AE O,a2,bs,z1cs]
  cases M:DI n m with
  | false =>
   refine⟨λhh=>by simp[M] at hh, λ_=>AW ?_⟩;rw[hF,M]; rfl
  | true =>
   have a6:=M;simp[DI] at a6;have hA:m.A.toNat<5:=by omega
   have hB:m.B.toNat<5:=by omega
   rw[M] at hF;simp only[Bool.not_true,Bool.false_eq_true,if_false,Tu (show 0<=m.A by omega) hA,Tu (show 0<=m.B by omega) hB,bs,AO (show pre.length<9223372036854775807 by omega)] at hF;rw[B9 hF];have ih:=Wq n hn ms hl rest (pre++[m]) (BY (BY h m.A (h[m.A.toNat] ||| h[m.B.toNat])) m.B (h[m.A.toNat] ||| h[m.B.toNat])) (by simp[e]);simp only[List.length_append,List.length_cons,List.length_nil,Nat.zero_add] at ih
   refine⟨λhh=>?_, λhh=>ih.2 (by simpa [M] using hh)⟩;obtain⟨h',k1,k2⟩:=ih.1 (by simpa [M] using hh);refine⟨h',k1, λi k hi=>?_⟩;rw[k2 i k hi,List.foldl_cons];exact z101 n hn (λ_=>True) rest _ _ (λm hm=>by simp[M] at hh; exact hh m hm) (λi k hi _=>z16l h m n hn M i k hi) i k hi trivial
theorem z132:∃ h,iter N5 (Vector.replicate 5 0,0)=some h/\∀ i k,i<5->k<5->hb h i k=decide (i=k):=by
 refine DV 5 (λi s=>s.2=(i:Int)/\∀ j k,j<i->k<5->hb s.1 j k=decide (j=k)) (λh=>∀ i k,i<5->k<5->hb h i k=decide (i=k)) (λi s hi U=>?_) (λs U=>?_) _ 0 (by omega) ⟨rfl, λj k hj=>by omega⟩
 ·obtain⟨h,x⟩:=s;obtain⟨rfl,h2⟩:=U;simp only at h2;refine⟨(BY h (i:Int) (EW 1 i),((i+1:Nat):Int)),?_,rfl, λj k hj M=>?_⟩
  ·unfold N5;rw[if_pos (by simp <;> omega)]
   simp only[Cn (show (0:Int)<=(i:Int) by omega),bs,DO hi,Int.toNat_natCast,AO (show i<9223372036854775807 by omega)]
  ·simp only;rw[HX (by omega),G3 (by omega)];simp only[Int.toNat_natCast];by_cases O:i=j
   ·subst O;rw[if_pos rfl,OV]
    have:∀ i k:Fin 5,((1:UInt64).toNat * 2 ^ min i.val 64 % 18446744073709551616).testBit k.val=decide (i.val=k.val):=by decide
    exact this ⟨i,hi⟩ ⟨k,M⟩
   ·rw[if_neg O,<- HX (show j<5 by omega)]; exact h2 j k (by omega) M
 ·obtain⟨h,x⟩:=s;obtain⟨rfl,h2⟩:=U;exact⟨h, by unfold N5; rw[if_neg (by simp)], λi k hi M=>h2 i k hi M⟩
def Dz (f:Nat->Bool) (n:Nat):List Int:=((List.range n).filter f).map λk:Nat=>(k:Int)
theorem zw7 (f:Nat->Bool) (n:Nat):Dz f (n+1)=if f n then Dz f n++[(n:Int)] else Dz f n:=by
 unfold Dz;rw[List.range_succ,List.filter_append,List.map_append]
 cases h:f n <;> simp[h]
theorem z11e (f:Nat->Bool) (n:Nat):(Dz f n).length<=n:=by
 unfold Dz;rw[List.length_map];exact Nat.le_trans (List.length_filter_le _ _) (by simp)
theorem zuy {f g:Nat->Bool} {n:Nat} (h:∀ k,k<n->f k=g k):Dz f n=Dz g n:=by
 unfold Dz
 congr 1
 exact List.filter_congr (λk M=>h k (by simpa using M))
theorem z155 (n:Nat) (hn:n<=5) (h:Vector UInt64 5) (s:List (List Int)) (i:Nat) (hi:i<n):iter (N6 (n:Int) h (s,(i:Int))) ([],0)=some (Dz (hb h i) n):=by
 refine C1 n (λk=>(Dz (hb h i) k,(k:Int))) (λk hk=>?_) ?_
 ·unfold N6;rw[if_pos (by simp <;> omega)]
  simp only[DO (show i<5 by omega),bs,Cn (show (0:Int)<=(k:Int) by omega),Int.toNat_natCast,Tv _ k (by omega),<- HX (show i<5 by omega)];rw[zw7];have hl:=z11e (hb h i) k
  cases hb h i k with
  | true=>simp only[if_true,Bw (show ((Dz (hb h i) k).length+[(k:Int)].length) * 8<=140737488355328 by simp; omega),bs,AO (show k<9223372036854775807 by omega)]
  | false=>simp only[Bool.false_eq_true,if_false,AO (show k<9223372036854775807 by omega)]
 ·unfold N6;rw[if_neg (by simp)]
theorem z14o (n:Nat) (M:n<=5) (h:Vector UInt64 5):iter (N7 (n:Int) h) ([],0)=some ((List.range n).map λi=>Dz (hb h i) n):=by
 refine C1 n (λk=>((List.range k).map λi=>Dz (hb h i) n,(k:Int))) (λk O=>?_) ?_
 ·unfold N7;rw[if_pos (by simp <;> omega)]
  rw[z155 n M h _ k O];simp only[bs];rw[Bw (by simp <;> omega)]
  simp only[bs,AO (show k<9223372036854775807 by omega),List.range_succ,List.map_append,List.map_cons,List.map_nil]
 ·unfold N7;rw[if_neg (by simp)]
theorem z16f {n:Nat} {m:AX}:DI (n:Int) m=true↔Two n m:=by
 unfold DI Two;rw[decide_eq_true_iff];omega
def bitW (ws:List Nat) (i k:Nat):Bool:=(ws[i]?.getD 0).testBit k
theorem z174 {n:Nat} {ws:List Nat} (hl:ws.length=n) {m:AX} (h2:Two n m) {f:Nat->Nat->Bool} (M:∀ i k,i<n->k<5->bitW ws i k=f i k):(metM ws m).length=n/\∀ i k,i<n->k<5->bitW (metM ws m) i k=Dq f m i k:=by
 refine⟨by unfold metM; simp[hl], λi k hi O=>?_⟩;obtain⟨⟨a1,a2⟩,⟨b1,b2⟩,h3⟩:=h2;have U:m.A.toNat<n:=by omega
 have hb:m.B.toNat<n:=by omega
 have fa:=M _ k U O;have fb:=M _ k hb O;have fi:=M i k hi O;unfold bitW at fa fb fi ⊢;unfold metM Dq;have ei:∀ w:List Nat,w.length=n->w[i]?.getD 0=(w[i]?.getD 0):=λ_ _=>rfl;rw[List.getElem?_set,List.getElem?_set];simp only[List.length_set,hl];by_cases e1:m.B.toNat=i
 ·rw[if_pos e1,if_pos (by omega),if_pos (by omega)];show (_ ||| _:Nat).testBit k=_;rw[Nat.testBit_or,fa,fb]
 ·rw[if_neg e1];by_cases e2:m.A.toNat=i
  ·rw[if_pos e2,if_pos (by omega),if_pos (by omega)];show (_ ||| _:Nat).testBit k=_;rw[Nat.testBit_or,fa,fb]
  ·rw[if_neg e2,if_neg (by omega)];exact fi
theorem Wr {n:Nat}:∀ (ms:List AX) (ws:List Nat) (f:Nat->Nat->Bool),ws.length=n->(∀ m∈ms,Two n m)->(∀ i k,i<n->k<5->bitW ws i k=f i k)->∀ i k,i<n->k<5->bitW (Eu ws ms) i k=ms.foldl Dq f i k
 | [],ws,f,hl,h2,M,i,k,hi,O=>M i k hi O
 | m::ms,ws,f,hl,h2,M,i,k,hi,O=>by
  obtain⟨h3,h4⟩:=z174 hl (h2 m (by simp)) M;show bitW (Eu (metM ws m) ms) i k=ms.foldl Dq (Dq f m) i k;exact Wr ms (metM ws m) (Dq f m) h3 (λm' U=>h2 m' (by simp[U])) h4 i k hi O
theorem Ws {n:Nat}:∀ (ms:List AX) (f g:Nat->Nat->Bool),(∀ m∈ms,Two n m)->(∀ i k,i<n->k<5->f i k=g i k)->∀ i k,i<n->k<5->ms.foldl Dq f i k=ms.foldl Dq g i k
 | [],f,g,h2,O,i,k,hi,M=>O i k hi M
 | m::ms,f,g,h2,O,i,k,hi,M=>by
  refine Ws ms (Dq f m) (Dq g m) (λm' U=>h2 m' (by simp[U])) (λi k hi M=>?_) i k hi M;obtain⟨⟨a1,a2⟩,⟨b1,b2⟩,h3⟩:=h2 m (by simp);unfold Dq;rw[O m.A.toNat k (by omega) M,O m.B.toNat k (by omega) M,O i k hi M]
theorem z14l (n:Nat) (U:n<=5) (ms:List AX) (hl:ms.length<=100) (h2:∀ m∈ms,Two n m):IP (n:Int) ms=some ((List.range n).map λi=>Dz (bitW (Eu (ws0 n) ms) i) n,0):=by
 obtain⟨h,i1,i2⟩:=z132;have p:=Wq (n:Int) (by omega) ms (by omega) ms [] h rfl;simp only[List.length_nil] at p;have hg:ms.all (DI (n:Int))=true:=by
  rw[List.all_eq_true]; intro m hm; exact z16f.2 (h2 m hm)
 obtain⟨h',M,q2⟩:=p.1 hg;rw[show ((0:Nat):Int)=0 from rfl] at M;have e1:IP (n:Int) ms=some ((List.range n).map λi=>Dz (hb h' i) n,0):=by
  unfold IP;rw[if_neg (by simp),if_neg (by simp <;> omega),if_neg (by simp <;> omega),i1]
  simp only[bS];rw[M];simp only[Df];rw[z14o n U h']; rfl
 rw[e1];have e3:((List.range n).map λi=>Dz (hb h' i) n)=(List.range n).map λi=>Dz (bitW (Eu (ws0 n) ms) i) n:=by
  refine List.map_congr_left λi hi=>?_;have hi:i<n:=by simpa using hi
  refine zuy λc hc=>?_
  rw[q2 i c (by omega),Wr ms (ws0 n) (λi k=>decide (i=k)) (by simp[ws0]) h2 (λi k hi O=>by
   unfold bitW ws0;rw[List.getElem?_map,List.getElem?_range hi]
   simp[Nat.testBit_two_pow]) i c hi (by omega)]
  exact Ws ms _ _ h2 (λi k hi O=>i2 i k (by omega) O) i c hi (by omega)
 rw[e3]
end
section
variable {g a b:A4} {n:Nat} {l k:List A4} {m:AX} {x:ID} {o:Ae}
theorem NH (R:Rps l) (ms:List AX) (hl:ms.length<=100) (h:BR l ms=.inr k):GR l ms=some (k,0):=by
 have p:=VW ms (by omega) ms [] l rfl R;rw[h] at p;have p:iter (IM ms) (l,0)=some (.inr k):=p;unfold GR;rw[R.chk.1];simp only[bS];rw[if_neg (by simp),if_neg (by simp; omega),Ql l (by have:=R.len; omega) R.f900];simp only[bS];rw[p];rfl
theorem stay {n:Nat}:∀ (ms:List AX) (f:Nat->Nat->Bool) (i c:Nat),(∀ m∈ms,Two n m)->f i c=true->ms.foldl Dq f i c=true
 | [],f,i,c,_,h=>h
 | m::ms,f,i,c,h2,h=>by
  refine stay ms (Dq f m) i c (λm' M=>h2 m' (by simp[M])) ?_;obtain⟨⟨a1,a2⟩,⟨b1,b2⟩,h3⟩:=h2 m (by simp);unfold Dq
  split
  ·rename_i e;rcases e with e | e
   ·have:m.A.toNat=i:=by omega
    rw[this,h]; rfl
   ·have:m.B.toNat=i:=by omega
    rw[this,h]; simp
  ·exact h
end
section
variable {g:A4} {l k:List A4} {x:ID} {o:Ae}
def sg (ds:List Rn):List A4:=ds.map λd=>grR [d]
theorem HY (ds:List Rn):(sg ds).length=ds.length:=by unfold sg; rw[List.length_map]
theorem HZ {ds:List Rn} (h:Mk ds) {d:Rn} (hd:d∈ds):Mk [d]:=⟨λe M=>by rw[List.mem_singleton] at M; rw[M]; exact h.chk d hd, by simp, by simp⟩
theorem Wt (ds:List Rn):(ds.map λd=>[d]).flatten=ds:=by
 induction ds with
 | nil=>rfl
 | cons d t M=>rw[List.map_cons,List.flatten_cons,M]; rfl
theorem Lb {ds:List Rn} (h:Mk ds) (M:ds.length<=5):Rps (sg ds)/\(Dl (sg ds)).Ops.length=ds.length:=by
 have:=z19z (ms:=ds.map λd=>[d]) (by rw[List.length_map]; exact M) (λm O=>by
  obtain⟨d,hd,rfl⟩:=List.mem_map.1 O
  exact HZ h hd) (by rw[Wt]; exact h.nd)
 rw[List.map_map,Wt] at this;exact this
theorem Qy {ds:List Rn} (h:Mk ds) (i:Nat) (hi:i<(sg ds).length) (a1:i<(ds.map rid).length):∃ o,∀ x q,AT (sg ds)[i] x=some q↔x=(ds.map rid)[i]/\q=o:=by
 have hd:i<ds.length:=by rw[HY] at hi; exact hi
 have e:(sg ds)[i]=grR [ds[i]]:=by simp[sg]
 obtain⟨-,-,M⟩:=H4 (HZ h (List.getElem_mem hd));refine⟨rop ds[i], λx q=>?_⟩;rw[e,M,List.getElem_map]
 constructor
 ·rintro⟨d,h1,h2,h3⟩
  rw[List.mem_singleton] at h1;subst h1;exact⟨h2.symm,h3⟩
 ·rintro⟨rfl,rfl⟩
  exact⟨ds[i], by simp,rfl,rfl⟩
def pop (w n:Nat):Nat:=((List.range n).filter λc=>w.testBit c).length
theorem Wu {ds:List Rn} (h:Mk ds) (h5:ds.length<=5) (ms:List AX) (h2:∀ m∈ms,Two ds.length m):∃ e,BR (sg ds) ms=.inr e/\Rps e/\e.length=ds.length/\Dl e=Dl (sg ds)/\∀ i (hi:i<e.length),e[i].IDs.length=pop ((Eu (ws0 ds.length) ms)[i]?.getD 0) ds.length:=by
 obtain⟨R,hw⟩:=Lb h h5;obtain⟨e,U,O,p3,p4,p5⟩:=Qx ms (sg ds) R (by omega) λm hm=>by rw[HY]; exact h2 m hm
 have H:=ND R U (has0 (sg ds));rw[HY] at H p3;refine⟨e,U,O,p3,Qw R O p4, λi hi=>?_⟩;have M:i<(Eu (ws0 ds.length) ms).length:=by rw[H.1]; exact hi
 have:=z18m (ds.map rid) h.nd (l0:=sg ds) (by rw[HY,List.length_map]) (λi hi a1=>Qy h i hi a1) (O.rp _ (List.getElem_mem hi)).fit (H.2 i M hi)
 rw[this,List.getElem?_eq_getElem M,List.length_map];rfl
theorem z1b8 {ds es:List Rn} (h:Mk ds) (M:List.Sublist es ds):Mk es:=⟨λd hd=>h.chk d (M.subset hd),List.Nodup.sublist (M.map _) h.nd,Nat.le_trans M.length_le h.len⟩
theorem mk_a:Mk aR:=by
 refine⟨λd hd=>List.all_eq_true.1 z1bf d hd,?_, by decide⟩;have e:(λd:Rn=>num8 d.h3)=λd=>(D7 (rid d) 8).toNat:=funext λd=>(PN d.h3).symm;have h:=z1ez;rw[e] at h;exact z1ch (f:=rid) (k:=λi=>(D7 i 8).toNat) h
theorem Wv {l:List A4} {i j:Nat} (hi:i<l.length) (M:j<l.length) (h:l[i].IDs≠l[j].IDs):¬ E2 l:=λa=>h (a _ (List.getElem_mem hi) _ (List.getElem_mem M))
theorem z1e4 {ds:List Rn} (h:Mk ds) {i j:Nat} (hi:i<ds.length) (M:j<ds.length) (O:i≠j) (U:i<(sg ds).length) (a1:j<(sg ds).length):(sg ds)[i].IDs≠(sg ds)[j].IDs:=λe=>by
 obtain⟨o,ho⟩:=Qy h i U (by rw[List.length_map]; exact hi);obtain⟨q,hq⟩:=Qy h j a1 (by rw[List.length_map]; exact M);have h1:=(ho _ _).2 ⟨rfl,rfl⟩;have h2:=(DH h1).1;rw[e] at h2;have F:=((Lb (ds:=[ds[j]]) (HZ h (List.getElem_mem M)) (by simp)).1.rp (grR [ds[j]]) (by simp[sg])).fit;have e2:(sg ds)[j]=grR [ds[j]]:=by simp[sg]
 rw[e2] at h2 hq;obtain⟨r,hr⟩:=DR F h2
 have:=((hq _ _).1 hr).1
 exact O ((List.getElem_inj h.nd).1 this)
end
section
variable {g:A4} {l k:List A4}
theorem zse (L:List (List Int)) (hl:L.length<=100) (h:∀ s∈L,s.length<=100):Nb L L=some true:=by
 have M:=C1 (F:=KL L L) (b:=(.inr ():Sum Bool Unit)) L.length (λi=>(i:Int)) (λi hi=>?_) ?_
 ·have M:iter (KL L L) 0=some (.inr ()):=M;unfold Nb;rw[if_neg (by simp),M];rfl
 ·have hs:=h _ (List.getElem_mem hi);have inner:iter (KK L L (i:Int)) 0=some (.inr ()):=by
   refine C1 (F:=KK L L (i:Int)) L[i].length (λc=>(c:Int)) (λc O=>?_) ?_
   ·unfold KK;simp only[AE hi,bS];rw[if_pos (by simpa using O)];simp only[AE O,bS];rw[if_neg (by simp),AO (by omega)]
   ·unfold KK;simp only[AE hi,bS];rw[if_neg (by simp)]
  unfold KL;rw[if_pos (by simpa using hi)];simp only[AE hi,bS];rw[if_neg (by simp),inner,AO (by omega)];rfl
 ·unfold KL;rw[if_neg (by simp)]
theorem z1ae (e:List A4) (w:List Nat) (hl:e.length<=100) (h1:e.length=w.length) (h:∀ i (hi:i<e.length) (h2:i<w.length),e[i].IDs.length=w[i]):FH e (w.map λn:Nat=>(n:Int))=some true:=by
 have M:=C1 (F:=KJ e (w.map λn:Nat=>(n:Int))) (b:=(.inr ():Sum Bool Unit)) e.length (λi=>(i:Int)) (λi hi=>?_) ?_
 ·have M:iter (KJ e (w.map λn:Nat=>(n:Int))) 0=some (.inr ()):=M;unfold FH;rw[if_neg (by simp[h1]),M];rfl
 ·have hw:i<w.length:=by omega
  have O:i<(w.map λn:Nat=>(n:Int)).length:=by rw[List.length_map]; exact hw
  unfold KJ;rw[if_pos (by simpa using hi)];simp only[AE hi,AE O,bS];rw[List.getElem_map,h i hi hw,if_neg (by simp),AO (by omega)]
 ·unfold KJ;rw[if_neg (by simp)]
theorem NI {ds:List Rn} (h:Mk ds):EQ (ds.map λd=>UInt64.ofNat d.n)=some (grR ds,true):=by
 have hl:=h.len;have M:=C1 (F:=KC (ds.map λd=>UInt64.ofNat d.n)) (b:=(.inr (ds.map rop):Sum (A4 × Bool) (List Ae))) ds.length (λi=>((ds.take i).map rop,(i:Int))) (λi hi=>?_) ?_
 ·have M:iter (KC (ds.map λd=>UInt64.ofNat d.n)) ([],0)=some (.inr (ds.map rop)):=M;obtain⟨R,h1,-⟩:=H4 h;unfold EQ;rw[M];simp only[Df];rw[of_r h];simp only[bS];rw[if_pos (by simp),R.fit.ids,h1,List.length_map]
  simp
 ·have O:i<(ds.map λd=>UInt64.ofNat d.n).length:=by rw[List.length_map]; exact hi
  unfold KC;rw[if_pos (by simpa using hi)];simp only[AE O,bS];rw[List.getElem_map,(NG (h.chk _ (List.getElem_mem hi))).1];simp only[bS];rw[if_neg (by simp),Bw (by simp; omega),AO (by omega)];simp only[bS];rw[List.take_add_one,List.getElem?_eq_getElem hi,List.map_append];rfl
 ·unfold KC;rw[if_neg (by simp),List.take_length]
def e1:Rn:=aR[0]'(by decide)
def e2:Rn:=aR[1]'(by decide)
def e3:Rn:=aR[2]'(by decide)
def e4:Rn:=aR[3]'(by decide)
theorem Lc:aR=[e1,e2,e3,e4]:=rfl
theorem m123:Mk [e1,e2,e3]:=z1b8 mk_a (by rw[Lc]; exact List.sublist_append_left [e1,e2,e3] [e4])
theorem one1:EQ [1]=some (grR [e1],true):=by
 have h:=NI (HZ mk_a (d:=e1) (by rw[Lc]; simp))
 exact h
theorem one2:EQ [2]=some (grR [e2],true):=by
 have h:=NI (HZ mk_a (d:=e2) (by rw[Lc]; simp))
 exact h
theorem one3:EQ [3]=some (grR [e3],true):=by
 have h:=NI (HZ mk_a (d:=e3) (by rw[Lc]; simp))
 exact h
theorem one4:EQ [4]=some (grR [e4],true):=by
 have h:=NI (HZ mk_a (d:=e4) (by rw[Lc]; simp))
 exact h
theorem z15w:N2=some (sg [e1,e2,e3],true):=by
 unfold N2;rw[one1,one2,one3];rfl
theorem Qz {ds:List Rn} (h:Mk ds) (U:ds.length<=5) (ms:List AX) (h2:∀ m∈ms,Two ds.length m) (w:List Nat) (hw:w.length=ds.length) (hp:∀ i,i<w.length->w[i]?.getD 0=pop ((Eu (ws0 ds.length) ms)[i]?.getD 0) ds.length):∃ e,BR (sg ds) ms=.inr e/\Rps e/\e.length=ds.length/\FH e (w.map λn:Nat=>(n:Int))=some true/\∀ i (hi:i<e.length),e[i].IDs.length=pop ((Eu (ws0 ds.length) ms)[i]?.getD 0) ds.length:=by
 obtain⟨e,p1,p2,p3,-,O⟩:=Wu h U ms h2;refine⟨e,p1,p2,p3,z1ae e w (by omega) (by omega) λi hi M=>?_,O⟩
 have:=hp i M
 rw[List.getElem?_eq_getElem M] at this;rw[O i hi];exact this.symm
theorem zvv:Nc=some true:=by
 have R3:=(Lb m123 (by decide)).1;have R4:=(Lb mk_a (by decide)).1;obtain⟨a,a1,a2,a3,a4,-⟩:=Qz m123 (by decide) [⟨0,1⟩,⟨1,2⟩] (by decide) [2,3,3] rfl (by decide);have a4:FH a [2,3,3]=some true:=a4;have hr:=NH R3 [⟨0,1⟩,⟨1,2⟩] (by decide) a1;have hh:=z14l 3 (by omega) [⟨0,1⟩,⟨1,2⟩] (by decide) (by decide);have hv:((List.range 3).map λi=>Dz (bitW (Eu (ws0 3) [⟨0,1⟩,⟨1,2⟩]) i) 3)=[[0,1],[0,1,2],[0,1,2]]:=by decide
 rw[hv] at hh;have hh:IP 3 [⟨0,1⟩,⟨1,2⟩]=some ([[0,1],[0,1,2],[0,1,2]],0):=hh;obtain⟨b,U,b2,b3,b4,-⟩:=Qz m123 (by decide) (CX 3) (NF 3) [3,3,3] rfl (by decide);have b4:FH b [3,3,3]=some true:=b4;have hb:H3 1 (sg [e1,e2,e3])=.inr b:=by
  have U:BR (sg [e1,e2,e3]) (CX (sg [e1,e2,e3]).length)=.inr b:=U;simp only[H3];rw[U]
 have rb:=Wp R3 1 (by omega) hb;obtain⟨c,M,c2,c3,c4,c5⟩:=Qz mk_a (by decide) (CX 4) (NF 4) [4,3,4,4] rfl (by decide);have c4:FH c [4,3,4,4]=some true:=c4;have M:BR (sg aR) (CX (sg aR).length)=.inr c:=M;have hc:H3 1 (sg aR)=.inr c:=by
  simp only[H3];rw[M]
 have rc:=Wp R4 1 (by omega) hc
 obtain⟨d,d1,-,-,-⟩:=z12e c2 (by
  obtain⟨e,O,p2,p3,p4,-⟩:=Wu mk_a (by decide) (CX 4) (NF 4)
  have:BR (sg aR) (CX 4)=.inr c:=M
  rw[this] at O
  injection O with O
  subst O
  rw[p4,(Lb mk_a (by decide)).2]; decide)
 have n0:¬ E2 (sg aR):=Wv (i:=0) (j:=1) (by rw[HY]; decide) (by rw[HY]; decide) (z1e4 mk_a (i:=0) (j:=1) (by decide) (by decide) (by decide) _ _)
 have a6:c.length=4:=c3;have n1:¬ E2 c:=Wv (i:=0) (j:=1) (by omega) (by omega) λe=>by
  have h1:=c5 0 (by omega);have h2:=c5 1 (by omega);have e:=congrArg List.length e;rw[h1,h2] at e;exact absurd e (by decide)
 have rr:=z120 R4 M d1;rw[if_neg n0,if_neg n1] at rr;have ap:app 48 (sg [e1,e2,e3]) [grR [e4]]=some (sg aR):=by
  rw[Bw (by simp[HY])];rfl
 unfold Nc;rw[z15w];simp only[bS];rw[hr,hh];simp only[bS];have rb:HF (sg [e1,e2,e3]) 1=some (b,0):=rb;have rc:HF (sg aR) 1=some (c,0):=rc;rw[rb,one4];simp only[bS];rw[ap];simp only[bS];rw[rc,rr];simp only[bS,if_true];rw[if_pos (by simp),a4];simp only[bS,if_true];rw[if_pos (by simp),zse _ (by decide) (by decide)];simp only[bS,if_true];rw[if_pos (by simp),b4];simp only[bS,if_true]
 rw[if_pos (by simp),c4];rfl
end
section
variable {g:A4}
theorem Ww (g:A4) (m:Nat->Bool):∀ i,Ev g m i=((List.range i).filter m).map (BU g)
 | 0=>rfl
 | i+1=>by
  have O:=Ww g m i;rw[List.range_succ,List.filter_append,List.map_append,<- O]
  cases M:m i with
  | true=>rw[Wk M,List.filter_cons_of_pos (by exact M)]; rfl
  | false=>rw[Wl M,List.filter_cons_of_neg (by rw[M]; simp)]; simp
theorem z10m (g:A4) (m:Nat->Bool):Ev g m g.Ops.length=EU g m:=Ww g m _
theorem zvi (G:C2 g) (h1:Cb g=some 0) (l:List ID) (hl:l.length<=60):∃ r,MR g l=some (r,0)/\∀ x,x∈r↔x∈l/\x∉g.IDs:=by
 unfold MR;rw[h1];simp only[bS];rw[if_neg (by simp),if_neg (by simp; omega)];obtain⟨m,m1,m2⟩:=zx6 G.e;obtain⟨F,M,f2,O⟩:∃ F,MQ l m=some F/\F.length<=l.length/\∀ x,x∈F↔x∈l/\x∉g.IDs :=
  ⟨_,z1d5 m _ m2 l (by omega),List.length_filter_le _ _, λx=>by rw[List.mem_filter]; simp⟩
 obtain⟨d,U,d2,d3⟩:=Wi (GJ F) (by rw[MC]; omega) (TS _);rw[m1];simp only[bS];rw[HO l (by omega)];simp only[bS];rw[M];simp only[bS];unfold FF;rw[Cn (by omega)];simp only[bS];rw[U];simp only[bS];exact⟨d,rfl, λx=>by rw[d3,TR,O]⟩
theorem z10a (G:C2 g) (h1:Cb g=some 0) (l:List ID) (hb:l.length<=60) (M:∀ x∈l,x∈g.IDs):∃ m,MW g l=some (subG g m,0)/\∀ i,m i=true↔Rch (AS g) (l.map λx=>g.IDs.idxOf x) i:=by
 obtain⟨r,O,U⟩:=zvi G h1 l hb;have he:r=[]:=by
  cases r with
  | nil=>rfl
  | cons a b =>
   have:=(U a).1 (by simp)
   exact absurd (M a this.1) this.2
 subst he;obtain⟨m,m1,m2⟩:=z167 G.e G.ins l M (by omega);refine⟨m,?_,m2⟩;unfold MW;rw[O];simp only[bS];rw[if_neg (by simp),if_neg (by simp),m1];simp only[bS];rw[z177 G.e m];simp only[bS];rfl
theorem Jb (l:List ID) (x:ID) (hl:l.length<=1000):GS l x=some (decide (x∈l)):=by
 have O:=G2 (F:=KO l x) (λs=>∃ i:Nat,s=(i:Int)/\i<=l.length/\∀ k (h:k<l.length),k<i->l[k]≠x) (λs=>l.length - s.toNat)
  (λb:Sum Int Unit=>(b=.inr ()/\x∉l)\/∃ i:Nat,b=.inl (i:Int)/\x∈l)
  (λs hs=>by
   obtain⟨i,rfl,h1,h2⟩:=hs;by_cases hi:i<l.length
   ·have hF:KO l x (i:Int)=if decide (x=l[i]) then some (.inl (.inl (i:Int))) else some (.inr ((i+1:Nat):Int)):=by
     unfold KO;rw[if_pos (by simpa using hi),AE hi,AO (by omega)];simp only[bS]
    by_cases M:x=l[i]
    ·rw[decide_eq_true M,if_pos rfl] at hF;exact .inl ⟨_,hF,.inr ⟨i,rfl,M ▸ List.getElem_mem hi⟩⟩
    ·rw[decide_eq_false M,if_neg (by simp)] at hF;refine .inr ⟨_,hF,⟨i+1,rfl,hi, λk U a2=>?_⟩, by simp; omega⟩;by_cases a1:k=i
     ·subst a1; exact λe=>M e.symm
     ·exact h2 k U (by omega)
   ·refine .inl ⟨.inr (),?_,.inl ⟨rfl, λhx=>?_⟩⟩
    ·unfold KO;rw[if_neg (by simpa using hi)]
    ·obtain⟨k,U,e⟩:=List.getElem_of_mem hx
     exact h2 k U (by omega) e)
  0 ⟨0,rfl,Nat.zero_le _, λk _ h=>by omega⟩
 obtain⟨b,b1,b2⟩:=O;unfold GS Po;rw[b1];rcases b2 with ⟨rfl,h⟩ | ⟨i,rfl,h⟩
 ·rw[decide_eq_false h]; rfl
 ·rw[decide_eq_true h];simp only[or_l,bS];rw[decide_eq_true (by simp)]
theorem z18j (cap:A4) (p:ID->Bool) (M:∀ x,IT x cap=some (p x)) (l:List ID) (hl:l.length<=1000):Nf l cap=some (l.filter λx=>!p x) :=
 NE (λx=>IT x cap) p M l hl
theorem z19m (cap:A4) (p:ID->Bool) (M:∀ x,IU x cap=some (p x)) (l:List ID) (hl:l.length<=1000):Nh l cap=some (l.filter λx=>!p x) :=
 NE (λx=>IU x cap) p M l hl
theorem z19c (cap cap2:List ID) (p:ID->Bool) (M:∀ x,IV x cap cap2=some (p x)) (l:List ID) (hl:l.length<=1000):Pp l cap cap2=some (l.filter λx=>!p x) :=
 NE (λx=>IV x cap cap2) p M l hl
theorem Wx (F:List ID) (hF:F.length<=100):∃ d,(FF F>>=λM=>F0 M)=some d/\Bf d=true/\∀ x,x∈d↔x∈F:=by
 obtain⟨d,O,U,d3⟩:=Wi (GJ F) (by rw[MC]; omega) (TS _);refine⟨d,?_,U, λx=>by rw[d3,TR]⟩;unfold FF;rw[Cn (by omega)];simp only[bS];rw[O]
theorem z11d (E:Cj g) (l:List ID) (hl:l.length<=60):∃ d,Ng g l=some d/\Bf d=true/\∀ x,x∈d↔x∈l/\x∉g.IDs:=by
 have a1:=E.len;have a2:=E.ids;obtain⟨F,U,f2,f3⟩:∃ F,Nf l g=some F/\F.length<=l.length/\∀ x,x∈F↔x∈l/\x∉g.IDs :=
  ⟨_,z18j g (λx=>decide (x∈g.IDs)) (λx=>by unfold IT; rw[Jb _ _ (by omega)]; rfl) l (by omega),List.length_filter_le _ _, λx=>by rw[List.mem_filter]; simp⟩
 obtain⟨d,M,d2,d3⟩:=Wx F (by omega);refine⟨d,?_,d2, λx=>by rw[d3,f3]⟩;unfold Ng;rw[HO l (by omega)];simp only[bS];rw[U];simp only[bS]
 cases O:FF F with
 | none=>rw[O] at M; cases M
 | some r6 =>
  rw[O] at M;simp only[bS] at M ⊢;rw[M];simp only[bS]
def Fo (g:A4) (l:List ID) (y:ID):Prop:=y∈g.IDs/\((y∈l)\/∃ x∈l,x∈g.IDs/\Rch (AS g) (AS g (g.IDs.idxOf x)) (g.IDs.idxOf y))
theorem Wy (G:C2 g) (h1:Cb g=some 0) (l:List ID) (hl:l.length<=60):∃ d,KQ g l=some d/\Bf d=true/\∀ y,y∈d↔Fo g l y:=by
 have E:=G.e;have a6:=E.len;have a7:=E.ids;obtain⟨F,f1,f2,U⟩:∃ F,Nh l g=some F/\F.length<=l.length/\∀ x,x∈F↔x∈l/\x∈g.IDs :=
  ⟨_,z19m g (λx=>!decide (x∈g.IDs)) (λx=>by unfold IU; rw[Jb _ _ (by omega)]; rfl) l (by omega),List.length_filter_le _ _, λx=>by rw[List.mem_filter]; simp⟩
 obtain⟨d,d1,d2,d3⟩:=Wx F (by omega);have a1:∀ x∈d,x∈g.IDs:=λx M=>((U x).1 ((d3 x).1 M)).2;have a8:=Q4 (g:=g) d2 a1;obtain⟨m,m1,m2⟩:=z10a G h1 d (by omega) a1;refine⟨EU g m,?_,PZ E m, λy=>?_⟩
 ·unfold KQ;rw[HO l (by omega)];simp only[bS];rw[f1];simp only[bS]
  cases hs:FF F with
  | none=>rw[hs] at d1; cases d1
  | some r6 =>
   rw[hs] at d1;simp only[bS] at d1 ⊢;rw[d1];simp only[bS];rw[m1];simp only[bS];rw[<- z10m]; rfl
 ·rw[KZ E,m2,Qs];unfold Fo
  constructor
  ·rintro⟨O,h | ⟨q,hq,hr⟩⟩
   ·obtain⟨x,M,e⟩:=List.mem_map.1 h
    have:x=y:=KY O e
    subst this;exact⟨O,.inl ((U _).1 ((d3 _).1 M)).1⟩
   ·obtain⟨x,M,e⟩:=List.mem_map.1 hq;rw[<- e] at hr;exact⟨O,.inr ⟨x,((U _).1 ((d3 _).1 M)).1,a1 x M,hr⟩⟩
  ·rintro⟨O,h | ⟨x,M,a2,hr⟩⟩
   ·exact⟨O,.inl (List.mem_map.2 ⟨y,(d3 _).2 ((U _).2 ⟨h,O⟩),rfl⟩)⟩
   ·exact⟨O,.inr ⟨_,List.mem_map.2 ⟨x,(d3 _).2 ((U _).2 ⟨M,a2⟩),rfl⟩,hr⟩⟩
def bts (g:A4) (x:ID):List UInt8:=match g.Ops[g.IDs.idxOf x]? with | some o=>CS o | none=>[]
theorem Wz (G:C2 g) (hw:CN g) {i:Nat} (hi:i<g.Ops.length):Cd g.Ops[i]=0/\inI g.Ops[i].Act.Value.Num/\g.Ops[i].Act.Value.Text.length<=9223372036854775807:=by
 obtain⟨M,O⟩:=Vs hw (List.getElem_mem hi);exact⟨Gg (G.ops i hi).1,M,O⟩
theorem WA (G:C2 g) {x:ID} (M:x∈g.IDs):bts g x=CS (g.Ops[g.IDs.idxOf x]'(GW G M)):=by
 unfold bts;rw[List.getElem?_eq_getElem (GW G M)]
theorem QA (G:C2 g) (hw:CN g) {x:ID} (M:x∈g.IDs):(bts g x).length<=400:=by
 rw[WA G M];obtain⟨h1,h2,_⟩:=Wz G hw (GW G M);exact PH h1 h2
theorem WB (G:C2 g) (hw:CN g) (h1:Cb g=some 0) {x:ID} (M:x∈g.IDs):∃ r,Hw g x=some r/\GB r.1=some (bts g x,0):=by
 have a1:=G.e.len;have a2:=G.e.ids;obtain⟨k,O,U,k3⟩:=J4 g (by omega) G.e.ri x;obtain⟨rfl,hk⟩:=U M;have hi:=GW G M;have h4:=(G.e.op _ hi).1;refine⟨(g.Ops[g.IDs.idxOf x],0),?_,?_⟩
 ·unfold Hw;rw[h1];simp only[bS];rw[if_neg (by simp),O,decide_eq_true M];simp only[bS];rw[if_neg (by simp),AE hi];simp only[bS];unfold G6;rw[HO _ (by omega)];rfl
 ·obtain⟨c1,c2,c3⟩:=Wz G hw hi;rw[WA G M];exact UU _ c1 c2 c3
def fr (ops:List (List UInt8)):Cp:=⟨5,0,[],ops⟩
def Gl (ops:List (List UInt8)):List UInt8:=ops.flatMap λo=>BW o.length++o
def Jc (ops:List (List UInt8)):List UInt8:=([5]++BW ops.length)++Gl ops
def okF (ops:List (List UInt8)):Bool:=decide (ops.length<=8)&&decide ((Jc ops).length<=2000)
theorem QB:∀ (l:List (List UInt8)),(∀ o∈l,o.length<=400)->(Gl l).length<=409 * l.length
 | [],_=>by simp[Gl]
 | o::l,h=>by
  have ih:=QB l λq M=>h q (by simp[M]);have ho:=h o (by simp)
  have:=Ct o.length (by omega)
  unfold Gl at *;rw[List.flatMap_cons];simp only[List.length_append,List.length_cons]; omega
theorem zx3 (l:List (List UInt8)) (o:List UInt8):Gl (l++[o])=Gl l++(BW o.length++o):=by
 unfold Gl; rw[List.flatMap_append]; simp
theorem z10i (ops:List (List UInt8)) (h9:ops.length<=9) (O:∀ o∈ops,o.length<=400):Nk (fr ops)=some (if okF ops then 0 else 8):=by
 have hn:=Ct ops.length (by omega);have hb:=QB ops O;have hL:ops.length<=8->iter (HJ (fr ops)) ([5]++BW ops.length,true,0)=some (Jc ops,true):=λM=>by
  have U:=C1 (F:=HJ (fr ops)) (b:=(Jc ops,true)) ops.length (λi=>(([5]++BW ops.length)++Gl (ops.take i),true,(i:Int))) (λi hi=>?_) ?_
  ·simpa [Gl] using U
  ·have ho:ops[i].length<=400:=O _ (List.getElem_mem hi);have ht:=QB (ops.take i) λo ho=>O o (List.mem_of_mem_take ho);rw[List.length_take] at ht;have a6:=Ct ops[i].length (by omega);unfold HJ;rw[if_pos rfl,if_pos (by show decide ((i:Int)<((ops.length:Nat):Int))=true; simpa using hi)]
   show (idx ops (i:Int) >>= _)=_;rw[AE hi];simp only[bS];rw[OY _ (by omega)];simp only[bS];rw[Bw (by simp only[List.length_append,List.length_cons,List.length_nil]; omega)];simp only[bS];show (idx ops (i:Int) >>= _)=_;rw[AE hi];simp only[bS];rw[decide_eq_true (by omega),AO (by omega),Fm hi,zx3];simp only[List.append_assoc]
  ·unfold HJ;rw[if_pos rfl,if_neg (by show ¬ decide (((ops.length:Nat):Int)<((ops.length:Nat):Int))=true; simp),List.take_length]
   rfl
 have hw:Nj (fr ops)=some (if ops.length<=8 then (Jc ops,decide (((Jc ops).length:Int)<=2000)) else ([5]++BW ops.length,false)):=by
  unfold Nj;have e1:Pq (fr ops).Kind=some false:=rfl;rw[e1];simp only[bS,Bool.false_eq_true,if_false];rw[if_pos (by rfl),if_pos (by rfl),if_pos (by rfl)];simp only[bS];show ((EA (UInt64.ofInt (ops.length:Int))>>=λa1=>app 1 [(5:UInt8)] a1>>=λa2=>iter (HJ (fr ops)) (a2,decide ((ops.length:Int)<=8),0)) >>= _)=_;rw[GI,Mz (by omega)];simp only[bS];rw[Bw (by simp only[List.length_cons,List.length_nil]; omega)]
  simp only[bS];by_cases M:ops.length<=8
  ·rw[decide_eq_true (by omega),hL M,if_pos M];simp only[bS];rw[if_pos trivial]
  ·rw[decide_eq_false (by omega),if_neg M,AW (b:=([5]++BW ops.length,false)) (by unfold HJ; rw[if_neg (by simp)])];simp only[bS];rw[if_neg (by simp)]
 unfold Nk;rw[hw];simp only[bS];unfold okF;by_cases M:ops.length<=8
 ·rw[if_pos M,decide_eq_true M,Bool.true_and];by_cases h2:(Jc ops).length<=2000
  ·rw[decide_eq_true h2];simp only[];rw[decide_eq_true (by omega)]; rfl
  ·rw[decide_eq_false h2];simp only[];rw[decide_eq_false (by omega)]; rfl
 ·rw[if_neg M,decide_eq_false M]; rfl
def DS (bs:List (List UInt8)):Nat->Option (List (List (List UInt8)) × List (List UInt8))
 | 0=>none
 | i+1=>match bs[i]? with
  | none=>DS bs i
  | some b=>match DS bs i with
   | none=>some ([],[b])
   | some (a,l)=>if okF (l++[b]) then some (a,l++[b]) else some (a++[l],[b])
theorem NJ (bs:List (List UInt8)) (hb:∀ b∈bs,b.length<=400):∀ i,i<=bs.length->(DS bs i=none/\i=0)\/∃ a l,DS bs i=some (a,l)/\a.length+1<=i/\l≠[]/\l.length<=8/\∀ o∈l,o.length<=400
 | 0,_=>.inl ⟨rfl,rfl⟩
 | i+1,hi=>by
  have a1:i<bs.length:=by omega
  have O:bs[i].length<=400:=hb _ (List.getElem_mem a1)
  right
  unfold DS;rw[List.getElem?_eq_getElem a1];rcases NJ bs hb i (by omega) with ⟨h,h0⟩ | ⟨a,l,h,h1,h2,h3,h4⟩
  ·simp only[h];exact⟨[],[bs[i]],rfl, by simp, by simp, by simp, λo M=>by rw[List.mem_singleton] at M; rw[M]; exact O⟩
  ·simp only[h];by_cases U:okF (l++[bs[i]])=true
   ·rw[if_pos U];have h8:(l++[bs[i]]).length<=8:=by unfold okF at U; simp only[Bool.and_eq_true,decide_eq_true_eq] at U; exact U.1
    exact⟨a,l++[bs[i]],rfl, by omega, by simp,h8, λo M=>(List.mem_append.1 M).elim (h4 o) λh=>by rw[List.mem_singleton] at h; rw[h]; exact O⟩
   ·rw[if_neg U];exact⟨a++[l],[bs[i]],rfl, by simp; omega, by simp, by simp, λo M=>by rw[List.mem_singleton] at M; rw[M]; exact O⟩
theorem WC (bs:List (List UInt8)) {i:Nat} (M:i<bs.length):DS bs (i+1)=match DS bs i with | none=>some ([],[bs[i]]) | some (a,l)=>if okF (l++[bs[i]]) then some (a,l++[bs[i]]) else some (a++[l],[bs[i]]):=by
 rw[DS,List.getElem?_eq_getElem M]
def outP:Option (List (List (List UInt8)) × List (List UInt8))->List Cp
 | none=>[]
 | some (a,l)=>a.map fr++[fr l]
theorem z15k (G:C2 g) (hw:CN g) (h1:Cb g=some 0) (l:List ID) (M:∀ x∈l,x∈g.IDs) {i:Nat} (hi:i<l.length) (hl:l.length<=60):GT g l ([],(i:Int))=some (.inr ([fr [bts g l[i]]],((i+1:Nat):Int))):=by
 obtain⟨r,O,U⟩:=WB G hw h1 (M _ (List.getElem_mem hi));unfold GT;rw[if_pos (by simpa using hi)];simp only[];rw[AE hi];simp only[bS];rw[O];simp only[bS];rw[U];simp only[bS];rw[if_neg (by simp)];simp only[Df];rw[Bw (by simp),AO (by omega)];rfl
theorem z127 (G:C2 g) (hw:CN g) (h1:Cb g=some 0) (l:List ID) (a1:∀ x∈l,x∈g.IDs) (X:List Cp) (q:List (List UInt8)) (hX:X.length<=100) (g3:q.length<=8) (g4:∀ o∈q,o.length<=400) {i:Nat} (hi:i<l.length) (hl:l.length<=60) :
  GT g l (X++[fr q],(i:Int))=if okF (q++[bts g l[i]]) then some (.inr (X++[fr (q++[bts g l[i]])],((i+1:Nat):Int))) else some (.inr ((X++[fr q])++[fr [bts g l[i]]],((i+1:Nat):Int))):=by
 obtain⟨r,r1,r2⟩:=WB G hw h1 (a1 _ (List.getElem_mem hi));have O:=QA G hw (a1 _ (List.getElem_mem hi));have a2:(X++[fr q]).length=X.length+1:=by simp
 have a6:(X++[fr q])[X.length]'(by omega)=fr q:=by
  rw[List.getElem_append_right (by simp)]; simp
 have e1:Ni (fr q).Ops=some q:=by
  unfold Ni;show (app 24 ([]:List (List UInt8)) q >>= _)=_;rw[Bw (by simp; omega)]; rfl
 have M:=z10i (q++[bts g l[i]]) (by simp; omega) (λo ho=>(List.mem_append.1 ho).elim (g4 o) λh=>by rw[List.mem_singleton] at h; rw[h]; exact O);have e2:(⟨(fr q).Kind,(fr q).N,(fr q).IDs,q++[bts g l[i]]⟩:Cp)=fr (q++[bts g l[i]]):=rfl;have e3:(X++[fr q]).set X.length (fr (q++[bts g l[i]]))=X++[fr (q++[bts g l[i]])]:=by
  simp[List.set_append]
 have e4:w64 (((X++[fr q]).length:Int) - 1)=(X.length:Int):=by
  rw[a2,B1 (by omega) (by omega)]; omega
 unfold GT;rw[if_pos (by simpa using hi)];simp only[];rw[AE hi];simp only[bS];rw[r1];simp only[bS];rw[r2];simp only[bS];rw[if_pos (by simp <;> omega),e4,AE (by omega),a6]
 simp only[bS];rw[e1];simp only[bS];rw[Bw (by simp only[List.length_cons,List.length_nil]; omega)];simp only[bS];rw[e2];by_cases U:okF (q++[bts g l[i]])=true
 ·rw[if_pos U] at M;rw[M];simp only[bS,if_pos U];rw[if_pos (by rfl)];simp only[or_l,Int.toNat_natCast];rw[AO (by omega),e3]
 ·rw[if_neg U] at M;rw[M];simp only[bS,if_neg U];rw[if_neg (by decide)];simp only[Df];rw[Bw (by simp; omega),AO (by omega)];rfl
theorem zwt (G:C2 g) (hw:CN g) (h1:Cb g=some 0) (l:List ID) (hl:l.length<=60) (M:∀ x∈l,x∈g.IDs):Nl g l=some (outP (DS (l.map (bts g)) l.length)):=by
 have hb:∀ b∈l.map (bts g),b.length<=400:=λb hb=>by
  obtain⟨x,hx,rfl⟩:=List.mem_map.1 hb;exact QA G hw (M x hx)
 have O:=C1 (F:=GT g l) (b:=outP (DS (l.map (bts g)) l.length)) l.length (λi=>(outP (DS (l.map (bts g)) i),(i:Int))) (λi hi=>?_) ?_
 ·unfold Nl;have e0:(([]:List Cp),(0:Int))=(outP (DS (l.map (bts g)) 0),((0:Nat):Int)):=rfl;rw[e0,O];simp only[bS]
 ·have U:i<(l.map (bts g)).length:=by simpa using hi
  have a1:(l.map (bts g))[i]=bts g l[i]:=by simp
  rw[WC _ U,a1];rcases NJ (l.map (bts g)) hb i (by omega) with ⟨h,h0⟩ | ⟨a,q,h,g1,g2,g3,g4⟩
  ·rw[h];exact z15k G hw h1 l M hi hl
  ·rw[h];have hs:=z127 G hw h1 l M (a.map fr) q (by simp; omega) g3 g4 hi hl;show GT g l (a.map fr++[fr q],(i:Int))=_;rw[hs];by_cases hc:okF (q++[bts g l[i]])=true
   ·simp only[if_pos hc]; rfl
   ·simp only[if_neg hc];show some (Sum.inr ((a.map fr++[fr q])++[fr [bts g l[i]]],_))=some (Sum.inr ((a++[q]).map fr++[fr [bts g l[i]]],_));rw[List.map_append]; rfl
 ·unfold GT;rw[if_neg (by simp)]
theorem WD (bs:List (List UInt8)) (hb:∀ b∈bs,b.length<=400):∀ i,i<=bs.length->∀ a l,DS bs i=some (a,l)->∀ q∈a,q.length<=8
 | 0,_,a,l,h,q,M=>by simp[DS] at h
 | i+1,hi,a,l,h,q,M=>by
  have U:i<bs.length:=by omega
  rw[WC bs U] at h;rcases NJ bs hb i (by omega) with ⟨O,_⟩ | ⟨a',l',O,h1,h2,h3,h4⟩
  ·rw[O] at h;simp only[Option.some.injEq,Prod.mk.injEq] at h;rw[<- h.1] at M; simp at M
  ·have ih:=WD bs hb i (by omega) a' l' O;rw[O] at h;by_cases hc:okF (l'++[bs[i]])=true
   ·simp only[if_pos hc,Option.some.injEq,Prod.mk.injEq] at h;rw[<- h.1] at M; exact ih q M
   ·simp only[if_neg hc,Option.some.injEq,Prod.mk.injEq] at h;rw[<- h.1] at M;rcases List.mem_append.1 M with M | M
    ·exact ih q M
    ·rw[List.mem_singleton] at M; rw[M]; exact h3
theorem z19b (bs:List (List UInt8)) (hb:∀ b∈bs,b.length<=400) (hl:bs.length<=60):(outP (DS bs bs.length)).length<=60/\∀ f∈outP (DS bs bs.length),∃ q,f=fr q/\q.length<=8:=by
 rcases NJ bs hb bs.length (Nat.le_refl _) with ⟨h,_⟩ | ⟨a,l,h,h1,h2,h3,h4⟩
 ·rw[h]; exact⟨by simp[outP], by simp[outP]⟩
 ·have O:=WD bs hb bs.length (Nat.le_refl _) a l h;rw[h];refine⟨by simp[outP]; omega, λf M=>?_⟩;rcases List.mem_append.1 M with M | M
  ·obtain⟨q,U,rfl⟩:=List.mem_map.1 M;exact⟨q,rfl,O q U⟩
  ·rw[List.mem_singleton] at M;exact⟨l,M,h3⟩
section
variable {c:Int} (h1:Cb g=some c) (h2:IB g=some c) (h3:c=0↔C2 g)
include h1 h2 h3
end
end
section
variable {g a b:A4} {n m:Nat}
theorem WE (h:CN g) {o:Ae} (M:o∈g.Ops):FE o:=h.2.1.1 o M
theorem WF (F:Fit g n) (hn:n<=1000) (h:∀ o∈g.Ops,FE o):CN g:=by
 have h1:=F.len; have h2:=F.ids;exact⟨⟨λx _ y _=>trivial, by omega⟩,⟨h, by omega⟩,trivial⟩
theorem z1ck {o:Ae} (h:FE o):inI o.Act.Value.Num/\o.Act.Value.Text.length<=9223372036854775807:=⟨h.2.2.2.1.2.2.1.2.1,h.2.2.2.1.2.2.1.2.2.2.1⟩
theorem z18h {p:ID × Ae} {o:Ae} (h:o∈(Co g p).Ops):o=p.2\/o∈g.Ops:=by
 unfold Co at h
 split at h
 ·exact .inr h
 ·exact L1.1 h
theorem zuw (F:Fit g n) (hn:n<=1000) (l:List ID) (hl:l.length<=1000):MJ l g=some (l.any λx=>!decide (x∈g.IDs)):=by
 have h1:=F.len; have h2:=F.ids;have a1:∀ x,MI x g=some (!decide (x∈g.IDs)):=λx=>by
  obtain⟨k,k1,-⟩:=J4 g (by omega) F.ri x;unfold MI;rw[k1];simp only[bS]
 have U:=G2 (F:=Kp l g) (λs=>∃ i:Nat,s=(i:Int)/\i<=l.length/\∀ k (h:k<l.length),k<i->l[k]∈g.IDs) (λs=>l.length - s.toNat)
  (λb:Sum Int Unit=>(b=.inr ()/\∀ x∈l,x∈g.IDs)\/∃ i:Nat,b=.inl (i:Int)/\∃ x∈l,x∉g.IDs)
  (λs hs=>by
   obtain⟨i,rfl,h1,h2⟩:=hs;by_cases hi:i<l.length
   ·have hF:Kp l g (i:Int)=if !decide (l[i]∈g.IDs) then some (.inl (.inl (i:Int))) else some (.inr ((i+1:Nat):Int)):=by
     unfold Kp;rw[if_pos (by simpa using hi),AE hi,AO (by omega)];simp only[bS];rw[a1];simp only[bS]
    by_cases O:l[i]∈g.IDs
    ·rw[decide_eq_true O,if_neg (by simp)] at hF;refine .inr ⟨_,hF,⟨i+1,rfl,hi, λk hk a7=>?_⟩, by simp; omega⟩;by_cases a2:k=i
     ·subst a2; exact O
     ·exact h2 k hk (by omega)
    ·rw[decide_eq_false O,if_pos (by simp)] at hF;exact .inl ⟨_,hF,.inr ⟨i,rfl,l[i],List.getElem_mem hi,O⟩⟩
   ·refine .inl ⟨.inr (),?_,.inl ⟨rfl, λx M=>?_⟩⟩
    ·unfold Kp;rw[if_neg (by simpa using hi)]
    ·obtain⟨k,hk,rfl⟩:=List.getElem_of_mem M
     exact h2 k hk (by omega))
  0 ⟨0,rfl,Nat.zero_le _, λk _ h=>by omega⟩
 obtain⟨r,r1,r2⟩:=U;unfold MJ P7;rw[r1];rcases r2 with ⟨rfl,h⟩ | ⟨i,rfl,x,M,a6⟩
 ·simp only[Df,bS]
  have:(l.any λx=>!decide (x∈g.IDs))=false:=by
   rw[List.any_eq_false]; intro x M; simp[h x M]
  rw[this]; rfl
 ·simp only[or_l,bS]
  have:(l.any λx=>!decide (x∈g.IDs))=true:=by
   rw[List.any_eq_true]; exact⟨x,M, by simp[a6]⟩
  rw[this]; simp
theorem z173 (F:Fit g n) (hn:n<=59) (hc:Cb g=some 0) {p:ID × Ae} (hw:FE p.2) (hp:p.2.Preds.length<=20) (h1:Di p.2=0) (h2:sha (CS p.2)=p.1) (M:p.1∉g.IDs) (hq:∀ q∈p.2.Preds,q∈g.IDs):Kq g p.2=some (Co g p,p.1,0):=by
 obtain⟨U,w2⟩:=z1ck hw;have hl:=F.len;have O:(p.2.Preds.any λx=>!decide (x∈g.IDs))=false:=by
  rw[List.any_eq_false]; intro x M; simp[hq x M]
 unfold Kq;rw[hc];simp only[bS];rw[if_pos (by simp),PK _ U w2,h1];simp only[bS];rw[if_neg (by simp),PJ _ U w2,if_pos (Gg h1),h2];simp only[bS];rw[Qc F (by omega) p hp,decide_eq_false M];simp only[bS];rw[if_neg (by simp),zuw F (by omega) _ (by omega),O];simp only[bS];rw[if_neg (by simp),if_neg (by simp; omega)]
theorem z10s (G:C2 g) (F:Fit g n) {l:List ID} {y p:ID} {o:Ae} (h:Fo g l y) (O:AT g y=some o) (U:p∈o.Preds):Fo g l p:=by
 have S:=H2 G F;have a1:=S.ins y o O p U;obtain⟨i,i1,i2⟩:=(Er F).1 O;obtain⟨hi,rfl⟩:=List.getElem?_eq_some_iff.1 i1;obtain⟨a2,rfl⟩:=List.getElem?_eq_some_iff.1 i2;have M:g.IDs.idxOf p∈AS g (g.IDs.idxOf g.IDs[i]):=by
  rw[Gf F.ri hi];unfold AS;exact List.mem_map.2 ⟨p, by rw[Dw a2]; exact U,rfl⟩
 refine⟨a1,.inr ?_⟩;rcases h.2 with hl | ⟨x,hx,a6,hr⟩
 ·exact⟨_,hl,h.1,.base M⟩
 ·exact⟨x,hx,a6,.step hr M⟩
theorem QC {α:Type} (f:α->Bool):∀ (l:List α) (i:Nat) (h:i<(l.filter f).length),∃ k,∃ O:k<l.length,l[k]=(l.filter f)[i]/\(l.take k).filter f=(l.filter f).take i
 | [],i,h=>by simp at h
 | x::l,i,h=>by
  by_cases M:f x=true
  ·cases i with
   | zero=>exact⟨0, by simp, by simp[List.filter_cons_of_pos M], by simp⟩
   | succ i =>
    have h':i<(l.filter f).length:=by rw[List.filter_cons_of_pos M] at h; simpa using h
    obtain⟨k,O,e1,e2⟩:=QC f l i h';exact⟨k+1, by simpa using O, by simp[List.filter_cons_of_pos M,e1], by simp[List.filter_cons_of_pos M,e2]⟩
  ·have h':i<(l.filter f).length:=by rw[List.filter_cons_of_neg M] at h; exact h
   obtain⟨k,O,e1,e2⟩:=QC f l i h';exact⟨k+1, by simpa using O, by simp[List.filter_cons_of_neg M,e1], by simp[List.filter_cons_of_neg M,e2]⟩
structure QD (g:A4) (l r d:List ID):Prop where
 len:d.length<=60
 nd:d.Nodup
 mem:∀ x,x∈d↔Fo g l x/\¬ Fo g r x
 topo:∀ i (h:i<d.length) o,AT g d[i]=some o->∀ p∈o.Preds,p∈d.take i\/Fo g r p
structure Mid (a b s:A4) (d:List ID) (i:Nat):Prop where
 fit:Fit s (16+i)
 sound:Fj s
 wf:∀ o∈s.Ops,FE o
 ids:∀ x,x∈s.IDs↔x∈b.IDs\/x∈d.take i
 look:∀ x o,AT s x=some o->AT a x=some o\/AT b x=some o
theorem z14e:Fit (⟨[],[]⟩:A4) 0:=⟨rfl,Nat.le_refl _,rfl, λo M=>by simp at M⟩
theorem z149 (F:Fit g n) (hn:n<=1000) (hc:Cb g=some 0) {x:ID} {o:Ae} (M:AT g x=some o):Hw g x=some (o,0):=by
 have h1:=F.len; have h2:=F.ids;have U:=(DH M).1;obtain⟨k,k1,k2,-⟩:=J4 g (by omega) F.ri x;obtain⟨rfl,hk⟩:=k2 U;have O:g.IDs.idxOf x<g.Ops.length:=by omega
 have e:g.Ops[g.IDs.idxOf x]=o:=by
  unfold AT at M;rw[if_pos U,List.getElem?_eq_getElem O] at M;exact Option.some.inj M
 unfold Hw;rw[hc];simp only[bS];rw[if_neg (by simp),k1,decide_eq_true U];simp only[bS];rw[if_neg (by simp),AE O];simp only[bS];rw[e,L3 (by have:=(F.op o (DH M).2).1; omega)];simp only[bS]
theorem QE (Ga:C2 a) (Fa:Fit a n) (Gb:C2 b) (Fb:Fit b m) (hc:Dy a b) {l:List ID} (hl:∀ x∈l,x∈b.IDs) {x:ID} (h:Fo a l x):x∈b.IDs:=by
 have Sb:=H2 Gb Fb;have step:∀ y p,y∈b.IDs->y∈a.IDs->a.IDs.idxOf p∈AS a (a.IDs.idxOf y)->p∈a.IDs->p∈b.IDs:=λy p hy a1 O a8=>by
  obtain⟨o,ho⟩:=DR Fa a1;obtain⟨q,hq⟩:=DR Fb hy
  have:=(HS Fa Fb).1 hc y o q ho hq
  subst this;obtain⟨i,i1,i2⟩:=(Er Fa).1 ho;obtain⟨hi,rfl⟩:=List.getElem?_eq_some_iff.1 i1;obtain⟨aa,rfl⟩:=List.getElem?_eq_some_iff.1 i2;rw[Gf Fa.ri hi] at O;unfold AS at O;obtain⟨z,U,e⟩:=List.mem_map.1 O;rw[Dw aa] at U
  have:z=p:=KY a8 e
  subst this;exact Sb.ins _ _ hq z U
 obtain⟨ab,h⟩:=h;rcases h with h | ⟨y,hy,a1,hr⟩
 ·exact hl x h
 ·have key:∀ j,Rch (AS a) (AS a (a.IDs.idxOf y)) j->j<a.Ops.length/\BU a j∈b.IDs:=λj hj=>by
   induction hj with
   | @base i hi =>
    have a6:=hi;unfold AS at a6;obtain⟨z,U,e⟩:=List.mem_map.1 a6;have M:=FJ Ga.ins _ z U;have a2:i<a.Ops.length:=by rw[<- e]; exact GW Ga M
    refine⟨a2,?_⟩
    have:BU a i=z:=by rw[<- e]; exact GV M
    rw[this];exact step y z (hl y hy) a1 (by rw[e]; exact hi) M
   | @step i p hr O ih =>
    have a7:=O;unfold AS at a7;obtain⟨z,U,e⟩:=List.mem_map.1 a7;have M:=FJ Ga.ins _ z U;have a2:p<a.Ops.length:=by rw[<- e]; exact GW Ga M
    refine⟨a2,?_⟩
    have:BU a p=z:=by rw[<- e]; exact GV M
    rw[this];have ac:BU a i∈a.IDs:=by rw[E0 (by rw[Fa.ids]; exact ih.1)]; exact List.getElem_mem _
    refine step (BU a i) z ih.2 ac ?_ M;rw[HQ Ga.e ih.1,e]; exact O
  have:=(key _ hr).2
  rw[GV ab] at this;exact this
end
section
variable {g:A4}
theorem z1a5 {n x:Nat}:top g n x=true↔∀ k,k<n->x∉AS g k:=by
 unfold top;rw[List.all_eq_true]
 constructor
 ·intro h k M O
  have:=h k (by simpa using M)
  simp[O] at this
 ·intro h k M
  have:=h k (by simpa using M)
  simp[this]
theorem z16o (G:C2 g) (hc:Cb g=some 0):∀ i,i<g.Ops.length->∃ t,t<g.Ops.length/\top g g.Ops.length t=true/\Rch (AS g) [t] i:=by
 obtain⟨Q,q1,q2,q3⟩:=VF G hc;obtain⟨got,topo⟩:=q2.got;have M:∀ i,i<g.Ops.length->i∈Q:=(PX got.nodup got.lt).1 (by omega);have key:∀ m i,g.Ops.length - Q.idxOf i=m->i<g.Ops.length->∃ t,t<g.Ops.length/\top g g.Ops.length t=true/\Rch (AS g) [t] i:=by
  intro m
  induction m using Nat.strongRecOn with
  | _ m ih =>
   intro i hm hi
   cases ht:top g g.Ops.length i with
   | true=>exact⟨i,hi,ht,.base (by simp)⟩
   | false =>
    have:∃ k,k<g.Ops.length/\i∈AS g k:=by
     refine Classical.byContradiction λhn=>?_
     have:top g g.Ops.length i=true:=z1a5.2 λk O U=>hn ⟨k,O,U⟩
     rw[ht] at this; simp at this
    obtain⟨k,O,U⟩:=this;have hkQ:=List.idxOf_lt_length_of_mem (M k O);have a1:Q.idxOf i<Q.idxOf k:=by
     have h1:=topo (Q.idxOf k) hkQ i (by rw[List.getElem_idxOf]; exact U);obtain⟨j,hj,e⟩:=List.getElem_of_mem h1;rw[List.length_take] at hj;rw[List.getElem_take] at e;have h2:Q.idxOf i<=j:=by
      refine Nat.le_of_not_lt λc=>?_;have h3:=List.idxOf_lt_length_of_mem (M i hi)
      have:=(List.getElem_inj (xs:=Q) (i:=j) (j:=Q.idxOf i) (h₀:=by omega) (h₁:=h3) got.nodup).1 (by rw[e,List.getElem_idxOf])
      omega
     omega
    obtain⟨t,t1,t2,t3⟩:=ih _ (by omega) k rfl O;exact⟨t,t1,t2,.step t3 U⟩
 exact λi hi=>key _ i rfl hi
theorem WG (G:C2 g) (h:Cb g=some 0):Hy g=some (EU g (top g g.Ops.length),0):=by
 have a1:=G.e.len;have M:=G.e.ids;obtain⟨r,O,U⟩:=PY G.e;have d0:((0:Int) != 0)=false:=rfl;unfold Hy;rw[h];simp only[bS,d0,Bool.false_eq_true,if_false];rw[O];simp only[bS];rw[G4 (by omega) (by omega),M];simp only[bS];rw[z1ew _ (by omega)];simp only[bS];rw[z11c G.e G.ins U];simp only[bS];rw[z11o G.e];rfl
end
section
variable {a b g:A4} {n m:Nat}
theorem z1c6 (G:C2 g) (F:Fit g n) (h1:Cb g=some 0) (l r:List ID) (hl:l.length<=60) (hr:r.length<=60):∃ d,KR g l r=some d/\QD g l r d:=by
 obtain⟨p,p1,p3,p4⟩:=Wy G h1 l hl;obtain⟨q,q1,q3,q4⟩:=Wy G h1 r hr;obtain⟨Q,Q1,Q2,Q3⟩:=VF G h1;obtain⟨Qg,Qt⟩:=Q2.got;have ad:=G.e.len;have ae:=G.e.ids;have af:=Ed p g.IDs (Ge p3) λy M=>((p4 y).1 M).1;have ah:=Ed q g.IDs (Ge q3) λy M=>((q4 y).1 M).1;have h0:KR g l r=some ((Q.map (BU g)).filter λx=>!(!decide (x∈p) || decide (x∈q))):=by
  unfold KR;rw[p1,q1];simp only[bS];rw[Q1];simp only[bS]
  rw[z19c p q (λx=>!decide (x∈p) || decide (x∈q)) (λx=>by
   unfold IV;rw[Jb _ _ (by omega),Jb _ _ (by omega)];simp only[bS]
   cases decide (x∈p) <;> rfl) _ (by simp; omega)]
  rfl
 have d3:((Q.map (BU g)).filter λx=>!(!decide (x∈p) || decide (x∈q))).length<=60:=Nat.le_trans (List.length_filter_le _ _) (by rw[List.length_map]; omega);have hmemQ:∀ x,x∈Q.map (BU g)↔x∈g.IDs:=λx=>by
  constructor
  ·intro U;obtain⟨i,hi,rfl⟩:=List.mem_map.1 U
   have:=Qg.lt i hi
   rw[E0 (by rw[F.ids]; exact this)];exact List.getElem_mem _
  ·intro U;have O:g.IDs.idxOf x<g.Ops.length:=GW G U;refine List.mem_map.2 ⟨g.IDs.idxOf x,?_,GV U⟩;refine Classical.byContradiction λa6=>?_
   have:=Ed (Q++[g.IDs.idxOf x]) (List.range g.Ops.length) (by
    rw[List.nodup_append]; exact⟨Qg.nodup, by simp, λa ha c hc e=>by rw[List.mem_singleton] at hc; subst hc; subst e; exact a6 ha⟩) (λy M=>by
    rcases List.mem_append.1 M with M | M
    ·simpa using Qg.lt y M
    ·rw[List.mem_singleton] at M; subst M; simpa using O)
   rw[List.length_append,List.length_range,Q3] at this;simp at this;omega
 have hndQ:(Q.map (BU g)).Nodup:=by
  rw[List.Nodup,List.pairwise_map];exact Qg.nodup.imp_of_mem λ{a b} ha hb a7 e=>a7 (by rw[<- HQ G.e (Qg.lt a ha),e,HQ G.e (Qg.lt b hb)])
 have hf:∀ x,(!(!decide (x∈p) || decide (x∈q)))=true↔Fo g l x/\¬ Fo g r x:=λx=>by
  rw[<- p4,<- q4]; simp
 refine⟨_,h0,d3,hndQ.sublist List.filter_sublist, λx=>?_, λi hi o ho y M=>?_⟩
 ·rw[List.mem_filter,hmemQ,hf];exact⟨λh=>h.2, λh=>⟨h.1.1,h⟩⟩
 ·by_cases hb:Fo g r y
  ·exact .inr hb
  refine .inl ?_;obtain⟨k,hk,e1,e2⟩:=QC _ _ i hi;rw[<- e2,List.mem_filter,hf];have a1:((Q.map (BU g)).filter λx=>!(!decide (x∈p) || decide (x∈q)))[i]∈(Q.map (BU g)).filter λx=>!(!decide (x∈p) || decide (x∈q)):=List.getElem_mem hi;rw[List.mem_filter,hf] at a1;have a2:=z10s G F a1.2.1 ho M;refine⟨?_,a2,hb⟩;have hkQ:k<Q.length:=by simpa using hk
  rw[List.map_take.symm];have a8:BU g Q[k]=((Q.map (BU g)).filter λx=>!(!decide (x∈p) || decide (x∈q)))[i]:=by rw[<- e1]; simp
  have O:=Qg.lt Q[k] (List.getElem_mem hkQ);obtain⟨j,j1,j2⟩:=(Er F).1 ho;obtain⟨hj,ej⟩:=List.getElem?_eq_some_iff.1 j1;obtain⟨aa,rfl⟩:=List.getElem?_eq_some_iff.1 j2;have ab:j=Q[k]:=by
   have:=Gf F.ri hj
   rw[ej,<- a8,HQ G.e O] at this;exact this.symm
  have ac:g.IDs.idxOf y∈AS g Q[k]:=by
   unfold AS;refine List.mem_map.2 ⟨y,?_,rfl⟩;rw[<- ab,Dw aa]; exact M
  exact List.mem_map.2 ⟨_,Qt k hkQ _ ac,GV a2.1⟩
theorem z1ec (Ga:C2 a) (Fa:Fit a n) (wa:CN a) (Gb:C2 b) (Fb:Fit b m) (a6:Dy a b) {l r:List ID} (hr:∀ x∈r,x∈b.IDs) {d:List ID} (P:QD a l r d) {s:A4} {i:Nat} (hi:i<d.length) (hd:d.length<=16) (M:Mid a b s d i) :
  (d[i]∈b.IDs/\d[i]∈s.IDs/\Mid a b s d (i+1))\/(∃ o,d[i]∉b.IDs/\d[i]∉s.IDs/\AT a d[i]=some o/\Kq s o=some (Co s (d[i],o),d[i],0)/\Mid a b (Co s (d[i],o)) d (i+1)):=by
 have a1:d.take (i+1)=d.take i++[d[i]]:=by rw[List.take_add_one,List.getElem?_eq_getElem hi]; rfl
 by_cases hb:d[i]∈b.IDs
 ·refine .inl ⟨hb,(M.ids _).2 (.inl hb),⟨M.fit.ids, by have:=M.fit.len; omega,M.fit.ri,M.fit.op⟩,M.sound,M.wf, λx=>?_,M.look⟩;rw[M.ids,a1,List.mem_append,List.mem_singleton]
  constructor
  ·rintro (h | h) <;> simp[h]
  ·rintro (h | h | rfl)
   ·exact .inl h
   ·exact .inr h
   ·exact .inl hb
 ·have a2:=((P.mem _).1 (List.getElem_mem hi)).1;obtain⟨o,ho⟩:=DR Fa a2.1;have O:d[i]∉s.IDs:=λh=>by
   rcases (M.ids _).1 h with h | h
   ·exact hb h
   ·obtain⟨j,hj,e⟩:=List.getElem_of_mem h;rw[List.length_take] at hj;rw[List.getElem_take] at e
    have:=PT P.nd (by omega) hi e
    omega
  have Sa:=H2 Ga Fa;obtain⟨k1,k2,k3,k4⟩:=Sa.ops _ o ho;have U:=Fa.op o (DH ho).2;have hq:∀ q∈o.Preds,q∈s.IDs:=λq hq=>by
   rw[M.ids];rcases P.topo i hi o ho q hq with h | h
   ·exact .inr h
   ·exact .inl (QE Ga Fa Gb Fb a6 hr h)
  have hw:=WE wa (DH ho).2;have Fs:Fit s 60:=⟨M.fit.ids, by have:=M.fit.len; omega,M.fit.ri,M.fit.op⟩
  have Gs:=J8 Fs M.sound;obtain⟨c,c1,c2,c3⟩:=Nx (WF M.fit (by omega) M.wf);have a7:=c3.2 Gs;subst a7;refine .inr ⟨o,hb,O,ho,z173 M.fit (by omega) c1 (p:=(d[i],o)) hw U.1 k1 k2 O hq,HR M.fit U,VO M.fit M.sound (p:=(d[i],o)) U O ⟨k1,k2,k3,k4⟩ hq, λq a8=>?_, λx=>?_, λx q hx=>?_⟩
  ·rcases z18h a8 with rfl | h
   ·exact hw
   ·exact M.wf q h
  ·rw[Qj M.fit,M.ids,a1,List.mem_append,List.mem_singleton]
   constructor
   ·rintro (h | h | h) <;> simp[h]
   ·rintro (h | h | h) <;> simp[h]
  ·rw[NB M.fit U O] at hx
   split at hx
   ·rename_i e
    cases hx
    subst e;exact .inl ho
   ·exact M.look x q hx
theorem z1dj (Ga:C2 a) (U:Fit a n) (hn:n<=60) (wa:CN a) (ha:Cb a=some 0) (Gb:C2 b) (O:Fit b m) (hm:m<=60) (a1:Dy a b) {l r:List ID} (hr:∀ x∈r,x∈b.IDs) {d:List ID} (P:QD a l r d) (hd:d.length<=16) :
  ∀ k i s,d.length - i=k->i<=d.length->Mid a b s d i->∃ s',iter (HK a b d) (s,(i:Int))=some s'/\Mid a b s' d d.length:=by
 have a2:=O.len; have a6:=O.ids;intro k
 induction k with
 | zero =>
  intro i s hk hi M
  have:i=d.length:=by omega
  subst this;exact⟨s,AW (by unfold HK; rw[if_neg (by simp)]),M⟩
 | succ k ih =>
  intro i s hk hi M;have hid:i<d.length:=by omega
  rcases z1ec Ga U wa Gb O a1 hr P hid hd M with ⟨hb,hs,M'⟩ | ⟨o,hb,hs,ho,h1,M'⟩
  ·have hF:HK a b d (s,(i:Int))=some (.inr (s,((i+1:Nat):Int))):=by
    unfold HK;simp only[];rw[if_pos (by simpa using hid),AE hid];simp only[bS];rw[Jb _ _ (by omega),decide_eq_true hb,AO (by omega)];simp only[bS];rfl
   rw[B9 hF];exact ih (i+1) s (by omega) (by omega) M'
  ·have hF:HK a b d (s,(i:Int))=some (.inr (Co s (d[i],o),((i+1:Nat):Int))):=by
    unfold HK;simp only[];rw[if_pos (by simpa using hid),AE hid];simp only[bS];rw[Jb _ _ (by omega),decide_eq_false hb];simp only[bS];rw[if_neg (by simp),z149 U (by omega) ha ho];simp only[bS];rw[h1,AO (by omega)];simp only[bS]
   rw[B9 hF];exact ih (i+1) _ (by omega) (by omega) M'
theorem z1f0:Fj (⟨[],[]⟩:A4):=⟨λx o h=>by simp[AT] at h, λx o h=>by simp[AT] at h, λ_=>0, λx o h=>by simp[AT] at h⟩
theorem WH:C2 (⟨[],[]⟩:A4):=J8 (g:=⟨[],[]⟩) ⟨rfl, by simp,rfl, λo M=>by simp at M⟩ z1f0
theorem z1ed:Cb (⟨[],[]⟩:A4)=some 0:=by
 obtain⟨c,M,c2,O⟩:=Nx (g:=⟨[],[]⟩) (WF z14e (by omega) λo U=>by simp at U)
 have:=O.2 WH
 subst this;exact M
theorem z14m (O:C2 b) (hb:Cb b=some 0) (M:Fit b 60):F8 b (⟨[],[]⟩:A4)=some (b,0):=by
 have h:=Qk O WH hb z1ed M ⟨rfl, by simp,rfl, λo U=>by simp at U⟩ (λi hi=>by simp at hi);have e:BP b (⟨[],[]⟩:A4)=b:=rfl;rw[e,if_neg (by have:=M.len; omega)] at h;exact h
theorem z12t (U:C2 a) (Fa:Fit a n) (Gb:C2 b) (Fb:Fit b m) (hc:Dy a b) {t:ID} (ht:t∈b.IDs) (M:t∈a.IDs) {x:ID} (hx:x∈a.IDs) (hr:Rch (AS a) [a.IDs.idxOf t] (a.IDs.idxOf x)):x∈b.IDs :=
 QE U Fa Gb Fb hc (l:=[t]) (λz O=>by rw[List.mem_singleton] at O; subst O; exact ht) ⟨hx, by
  rcases Qs.1 hr with h | ⟨s,h1,h2⟩
  ·rw[List.mem_singleton] at h;exact .inl (by rw[List.mem_singleton]; exact KY M h)
  ·rw[List.mem_singleton] at h1;subst h1
   exact .inr ⟨t, by simp,M,h2⟩⟩
theorem WI (U:C2 a) (Gb:C2 b) (wa:CN a) (wb:CN b) (ha:Cb a=some 0) (hb:Cb b=some 0) (Fa:Fit a 16) (O:Fit b 16) (a2:Dy a b) :
  ∃ c:Nat,c<=60/\KS a b=some (BP a b,(c:Int)):=by
 obtain⟨x,x1,x3,x4⟩:∃ x,Hy a=some (x,0)/\x.length<=60/\x=EU a (top a a.Ops.length):=⟨_,WG U ha, by
  have:=Q4 (g:=a) (PZ U.e (top a a.Ops.length)) λy hy=>((KZ U.e).1 hy).1
  have:=Fa.len; have:=Fa.ids; omega,rfl⟩
 obtain⟨y,y1,y3,y4⟩:∃ y,Hy b=some (y,0)/\y.length<=60/\y=EU b (top b b.Ops.length):=⟨_,WG Gb hb, by
  have:=Q4 (g:=b) (PZ Gb.e (top b b.Ops.length)) λy hy=>((KZ Gb.e).1 hy).1
  have:=O.len; have:=O.ids; omega,rfl⟩
 obtain⟨w,w1,w2,w4⟩:=z11d Gb.e x x3;have w3:=Ed w x (Ge w2) λz hz=>((w4 z).1 hz).1;obtain⟨d,d1,P⟩:=z1c6 U Fa ha w y (by omega) y3;have aa:∀ z∈y,z∈b.IDs:=λz hz=>by rw[y4] at hz; exact((KZ Gb.e).1 hz).1
 have a1:∀ z∈d,z∈a.IDs:=λz hz=>((P.mem z).1 hz).1.1;have ac:d.length<=16:=by
  have:=Ed _ _ P.nd a1
  have:=Fa.len; have:=Fa.ids
  omega
 have M0:Mid a b b d 0:=⟨⟨O.ids, by have:=O.len; omega,O.ri,O.op⟩,H2 Gb O, λo ho=>WE wb ho, λz=>by simp, λz o h=>.inr h⟩
 obtain⟨s,s1,M⟩:=z1dj U Fa (by omega) wa ha Gb O (by omega) a2 aa P ac _ 0 b rfl (Nat.zero_le _) M0;have hs:s=BP a b:=by
  refine J7 M.fit (Ee Fa O) λz=>?_;rw[Fk Fa O];have hM:=M.ids z;rw[List.take_length] at hM
  cases hz:AT s z with
  | some o =>
   rcases M.look z o hz with h | h
   ·rw[h]; rfl
   ·cases ho:AT a z with
    | none=>rw[h]; rfl
    | some q=>rw[(HS Fa O).1 a2 z q o ho h]; rfl
  | none =>
   have hn:z∉s.IDs:=λhc=>by
    obtain⟨o,ho⟩:=DR M.fit hc;rw[hz] at ho; simp at ho
   have a6:z∉b.IDs:=λhc=>hn (hM.2 (.inl hc));have ad:z∉a.IDs:=λhc=>by
    obtain⟨t,t1,t2,t3⟩:=z16o U ha (a.IDs.idxOf z) (GW U hc);have ae:t<a.IDs.length:=by have:=U.e.ids; omega
    have a7:BU a t∈a.IDs:=by rw[E0 ae]; exact List.getElem_mem _
    have a8:a.IDs.idxOf (BU a t)=t:=HQ U.e t1;have af:BU a t∉b.IDs:=λhb=>a6 (z12t U Fa Gb O a2 hb a7 hc (by rw[a8]; exact t3));have ab:BU a t∈w:=by rw[w4,x4]; exact⟨(KZ U.e).2 ⟨a7, by rw[a8]; exact t2⟩,af⟩
    refine hn (hM.2 (.inr ((P.mem z).2 ⟨⟨hc,?_⟩, λhk=>a6 (QE U Fa Gb O a2 aa hk)⟩)));rcases Qs.1 t3 with h | ⟨q,h1,h2⟩
    ·rw[List.mem_singleton] at h
     have:z=BU a t:=by rw[<- h]; exact(GV hc).symm
     rw[this]; exact .inl ab
    ·rw[List.mem_singleton] at h1;subst h1;exact .inr ⟨BU a q,ab,a7, by rw[a8]; exact h2⟩
   rw[H1 ad,H1 a6]; rfl
 have ah:(outP (DS (d.map (bts a)) d.length)).length<=60:=by
  have:=(z19b (d.map (bts a)) (λq hq=>by
   obtain⟨z,hz,rfl⟩:=List.mem_map.1 hq
   exact QA U wa (a1 z hz)) (by simp; omega)).1
  simpa using this
 refine⟨_,ah,?_⟩;rw[<- hs];unfold KS;rw[x1,y1];simp only[bS];rw[w1];simp only[bS];rw[d1,z14m Gb hb ⟨O.ids, by have:=O.len; omega,O.ri,O.op⟩];simp only[bS];rw[show ((b,(0:Int)):A4 × Int)=(b,((0:Nat):Int)) from rfl,s1,zwt U wa ha d (by omega) a1];simp only[bS]
theorem z18y (M:Fit a n) (O:Fit b m) (h:Dy a b):Dy b a:=(HS O M).2 λx o q U hq=>((HS M O).1 h x q o hq U).symm
theorem WJ (M:Fit a n) (O:Fit b m) (U:Dy a b):BP b a=BP a b:=J7 (Ee O M) (Ee M O) λx=>by
 rw[Fk O M,Fk M O]
 cases ha:AT a x with
 | none=>cases AT b x <;> rfl
 | some o =>
  cases hb:AT b x with
  | none=>rfl
  | some q=>rw[(HS M O).1 U x o q ha hb]
theorem z1b1 (F:Fit g n):BP g g=g:=J7 (Ee F F) F λx=>by
 rw[Fk F F]
 cases AT g x <;> rfl
theorem z15h (Ga:C2 a) (Gb:C2 b) (wa:CN a) (wb:CN b) (ha:Cb a=some 0) (hb:Cb b=some 0) (M:Fit a 16) (O:Fit b 16) (U:Dy a b) :
  F8 a b=some (BP a b,0)/\∃ c:Int,KT a b=some (BP a b,BP a b,c,0):=by
 have hu:F8 a b=some (BP a b,0):=by
  have h:=Qk Ga Gb ha hb ⟨M.ids, by have:=M.len; omega,M.ri,M.op⟩ ⟨O.ids, by have:=O.len; omega,O.ri,O.op⟩ U;rw[if_neg (by have:=(Ee M O).len; omega)] at h;exact h
 obtain⟨c,-,h1⟩:=WI Ga Gb wa wb ha hb M O U;obtain⟨e,-,h2⟩:=WI Gb Ga wb wa hb ha O M (z18y M O U);refine⟨hu,w64 ((c:Int)+(e:Int)),?_⟩;unfold KT;rw[hu];simp only[bS];rw[if_neg (by simp),h1];simp only[bS];rw[h2,WJ M O U];rfl
end
section
variable {l k:List A4} {m p:AX}
theorem WK (l:List A4):∀ (d i:Nat),11 - i=d->i<=11->∃ r,iter (Fd l) (i:Int)=some r/\(r=.inl true\/(r=.inr ()/\∀ j (h:j<l.length),i<=j->j<=10->GN l[j]=some false))
 | 0,i,hd,hi=>by
  have:i=11:=by omega
  subst this;refine⟨.inr (),AW ?_,.inr ⟨rfl, λj M h1 h2=>by omega⟩⟩;unfold Fd
  split
  ·rw[if_neg (by simp)]
  ·rfl
 | d+1,i,hd,hi=>by
  by_cases hl:i<l.length
  ·obtain⟨b,O,-⟩:=VG l[i];have hF:Fd l (i:Int)=if b then some (.inl (.inl true)) else some (.inr ((i+1:Nat):Int)):=by
    unfold Fd;rw[if_pos (by simpa using hl),if_pos (by simp; omega),AE hl,AO (by omega)];simp only[bS];rw[O];simp only[bS]
   cases b with
   | true=>exact⟨_,AW hF,.inl rfl⟩
   | false =>
    rw[if_neg (by simp)] at hF;rw[B9 hF];obtain⟨r,U,r2⟩:=WK l d (i+1) (by omega) (by omega);refine⟨r,U,r2.imp id λh=>⟨h.1, λj M h1 h2=>?_⟩⟩;by_cases e:j=i
    ·subst e; exact O
    ·exact h.2 j M (by omega) h2
  ·refine⟨.inr (),AW ?_,.inr ⟨rfl, λj M h1 h2=>by omega⟩⟩;unfold Fd;rw[if_neg (by simp; omega)]
theorem g16 (h:HG l=some false) (hl:l.length<=10):∀ g∈l,GN g=some false:=λg M=>by
 obtain⟨r,O,U⟩:=WK l _ 0 rfl (by omega);obtain⟨j,hj,rfl⟩:=List.getElem_of_mem M;rcases U with rfl | ⟨-,h2⟩
 ·unfold HG at h;rw[show (0:Int)=((0:Nat):Int) from rfl,O] at h
  cases h
 ·exact h2 j hj (Nat.zero_le _) (by omega)
theorem z1ex (R:Rps l) (h:HG l=some false):∀ g∈l,g.Ops.length<=16:=λg M=>by
 have:=z19o (g16 h (by have:=R.len; omega) g M)
 have:=(R.rp g M).fit.len
 omega
def Ck (l:List A4) (m:AX) (u:A4):List A4:=(l.set m.A.toNat u).set m.B.toNat u
theorem DJ (l:List A4) (m:AX) (u:A4):(Ck l m u).length=l.length:=by unfold Ck; simp
theorem EV {u:A4} {i:Nat} (hi:i<l.length):(Ck l m u)[i]? = some (if i=m.A.toNat\/i=m.B.toNat then u else l[i]):=by
 unfold Ck;rw[List.getElem?_set,List.getElem?_set];simp only[List.length_set];by_cases e1:m.B.toNat=i
 ·rw[if_pos e1,if_pos (by omega),if_pos (by omega)]
 ·rw[if_neg e1];by_cases e2:m.A.toNat=i
  ·rw[if_pos e2,if_pos (by omega),if_pos (by omega)]
  ·rw[if_neg e2,if_neg (by omega),List.getElem?_eq_getElem hi]
theorem QF {a b:List A4} (h:a.length=b.length) (h2:∀ i,i<a.length->a[i]? = b[i]?):a=b:=List.ext_getElem? λi=>by
 by_cases hi:i<a.length
 ·exact h2 i hi
 ·rw[List.getElem?_eq_none (by omega),List.getElem?_eq_none (by omega)]
def Cl (l:List A4) (m:AX):A4:=BP (atG l m.A) (atG l m.B)
theorem Ld (h:0<=m.A/\m.A<l.length):atG l m.A∈l:=by
 obtain⟨ia,ea⟩:=EE h.1 h.2;rw[ea]; exact List.getElem_mem _
theorem NK (h:0<=m.B/\m.B<l.length):atG l m.B∈l:=by
 obtain⟨ia,ea⟩:=EE h.1 h.2;rw[ea]; exact List.getElem_mem _
theorem H5 (R:Rps l) (O:∀ g∈l,g.Ops.length<=16) {g:A4} (M:g∈l):Fit g 16:=⟨(R.rp g M).fit.ids,O g M,(R.rp g M).fit.ri,(R.rp g M).op⟩
theorem QG (R:Rps l) (M:∀ g∈l,g.Ops.length<=16) (h2:Two l.length m):C9 l m=.inr (Ck l m (Cl l m)):=by
 have F1:=H5 R M (Ld h2.1);have F2:=H5 R M (NK h2.2.1);have hl:=(Ee F1 F2).len;unfold C9;rw[if_pos h2,if_neg (by omega)];rfl
theorem z194 (h:C9 l m=.inr k):BR l [m]=.inr k:=by
 simp only[BR];rw[h]
theorem z13x (u:A4):Ck l ⟨m.B,m.A⟩ u=Ck l m u:=QF (by rw[DJ,DJ]) λi hi=>by
 rw[DJ] at hi;rw[EV hi,EV hi];by_cases c:i=m.A.toNat\/i=m.B.toNat
 ·rw[if_pos c,if_pos c.symm]
 ·rw[if_neg c,if_neg λh=>c h.symm]
theorem z16p (R:Rps l) (M:∀ g∈l,g.Ops.length<=16) (h2:Two l.length m):C9 l ⟨m.B,m.A⟩=.inr (Ck l m (Cl l m)):=by
 have O:Two l.length ⟨m.B,m.A⟩:=⟨h2.2.1,h2.1, λe=>h2.2.2 e.symm⟩
 have ma:=Ld h2.1;have mb:=NK h2.2.1;have e:Cl l ⟨m.B,m.A⟩=Cl l m:=WJ (R.rp _ ma).fit (R.rp _ mb).fit (R.nc ma mb);rw[QG R M O,e,z13x]
theorem WL {u:A4} (h2:Two l.length m):atG (Ck l m u) m.A=u/\atG (Ck l m u) m.B=u:=by
 obtain⟨⟨a1,a2⟩,⟨b1,b2⟩,h3⟩:=h2;unfold atG;rw[EV (by omega),EV (by omega)]
 simp
theorem WM {u:A4} {i:Int} (h0:0<=i) (hi:i<l.length) (ha:i≠m.A) (hb:i≠m.B) (hA:0<=m.A) (hB:0<=m.B):atG (Ck l m u) i=atG l i:=by
 unfold atG;rw[EV (by omega),if_neg (by omega),List.getElem?_eq_getElem (by omega)]
theorem z137 (Rk:Rps (Ck l m (Cl l m))) (h2:Two l.length m):C9 (Ck l m (Cl l m)) m=.inr (Ck l m (Cl l m)):=by
 obtain⟨e1,e2⟩:=WL (u:=Cl l m) h2;have O:Two (Ck l m (Cl l m)).length m:=by rw[DJ]; exact h2
 have mu:Cl l m∈Ck l m (Cl l m):=by
  have:=Ld O.1
  rwa [e1] at this
 have Fu:=(Rk.rp _ mu).fit;have hu:=z1b1 Fu;have hl:=Fu.len;unfold C9;rw[if_pos O,e1,e2,hu,if_neg (by omega)]
 congr 1
 refine QF (by rw[List.length_set,List.length_set]) λi hi=>?_;rw[List.length_set,List.length_set,DJ] at hi;show (Ck (Ck l m (Cl l m)) m (Cl l m))[i]? = _;rw[EV (by rw[DJ]; exact hi),EV hi];have M:=EV (m:=m) (u:=Cl l m) hi;have U:i<(Ck l m (Cl l m)).length:=by rw[DJ]; exact hi
 rw[List.getElem?_eq_getElem U] at M;have M:=Option.some.inj M;rw[M];by_cases c:i=m.A.toNat\/i=m.B.toNat
 ·rw[if_pos c,if_pos c]
 ·rw[if_neg c,if_neg c]
theorem WN (R:Rps l) (O:∀ g∈l,g.Ops.length<=16) (h2:Two l.length m) (M:Two l.length p) (d1:p.A≠m.A) (d2:p.A≠m.B) (d3:p.B≠m.A) (d4:p.B≠m.B) :
  BR l [m,p]=.inr (Ck (Ck l m (Cl l m)) p (Cl l p)):=by
 have e1:=QG R O h2;have hA:=h2.1.1; have hB:=h2.2.1.1;have U:=WM (u:=Cl l m) M.1.1 M.1.2 d1 d2 hA hB;have f2:=WM (u:=Cl l m) M.2.1.1 M.2.1.2 d3 d4 hA hB;have eu:Cl (Ck l m (Cl l m)) p=Cl l p:=by unfold Cl at U f2 ⊢; rw[U,f2]
 have F1:=H5 R O (Ld M.1);have F2:=H5 R O (NK M.2.1);have hl:=(Ee F1 F2).len;have e2:C9 (Ck l m (Cl l m)) p=.inr (Ck (Ck l m (Cl l m)) p (Cl l p)):=by
  have h3:Two (Ck l m (Cl l m)).length p:=by rw[DJ]; exact M
  unfold C9;rw[if_pos h3,U,f2,if_neg (by omega)];rfl
 simp only[BR];rw[e1];simp only[];rw[e2]
theorem z12j {u v:A4} (hm:0<=m.A/\0<=m.B) (hp:0<=p.A/\0<=p.B) (d1:p.A≠m.A) (d2:p.A≠m.B) (d3:p.B≠m.A) (d4:p.B≠m.B):Ck (Ck l m u) p v=Ck (Ck l p v) m u:=QF (by rw[DJ,DJ,DJ,DJ]) λi hi=>by
 rw[DJ,DJ] at hi;rw[EV (by rw[DJ]; exact hi),EV (by rw[DJ]; exact hi)];have O:=EV (m:=m) (u:=u) hi;have U:=EV (m:=p) (u:=v) hi;rw[List.getElem?_eq_getElem (by rw[DJ]; exact hi)] at O U;rw[Option.some.inj O,Option.some.inj U]
 congr 1
 by_cases M:i=p.A.toNat\/i=p.B.toNat
 ·have c2:¬ (i=m.A.toNat\/i=m.B.toNat):=by omega
  rw[if_pos M,if_neg c2,if_pos M]
 ·rw[if_neg M,if_neg M]
theorem QH (R:Rps l) (h:C9 l m=.inr k):Gd l m=some (k,0):=by
 unfold Gd;rw[NH R [m] (by simp) (z194 h)];rfl
theorem NL {i:Int} (M:0<=i) (h:i<(l.length:Int)):idx l i=some (atG l i):=by
 obtain⟨hi,e⟩:=EE M h;rw[e];exact Kd M hi
structure z1ey (l:List A4) (m:AX) (k:List A4) (u:A4):Prop where
 once:Gd l m=some (k,0)
 swap:Gd l ⟨m.B,m.A⟩=some (k,0)
 uni:F8 (atG l m.A) (atG l m.B)=some (u,0)
 exch:∃ c:Int,KT (atG l m.A) (atG l m.B)=some (u,u,c,0)
 len:k.length=l.length
 rps:Rps k
 atA:atG k m.A=u
 atB:atG k m.B=u
 again:Gd k m=some (k,0)
 small:Gj u
theorem z10l (R:Rps l) (M:∀ g∈l,g.Ops.length<=16) (h2:Two l.length m):z1ey l m (Ck l m (Cl l m)) (Cl l m):=by
 have ma:=Ld h2.1;have mb:=NK h2.2.1;have O:=R.rp _ ma;have U:=R.rp _ mb;have e1:=QG R M h2;have Rk:=(HU R e1).1;obtain⟨x1,x2⟩:=z15h O.good U.good O.wf U.wf O.chk.1 U.chk.1 (H5 R M ma) (H5 R M mb) (R.nc ma mb);obtain⟨a1,a2⟩:=WL (u:=Cl l m) h2;have F:=Ee (H5 R M ma) (H5 R M mb);exact⟨QH R e1,QH R (z16p R M h2),x1,x2,DJ _ _ _,Rk,a1,a2,QH Rk (z137 Rk h2),F.small (by omega)⟩
theorem zxe (a0:List A4) (O U:AX) (w0:(∀ x∈a0,CN x)/\a0.length<=9223372036854775807) (w1:IE O) (w2:IE U):Ps a0 O U=some true:=by
 obtain⟨b,b1,b2⟩:=z1an a0;unfold Ps Pm;rw[zvv];simp only[bS];rw[b1];simp only[bS]
 cases b with
 | true=>rfl
 | false =>
 obtain⟨hl,hs⟩:=b2 rfl;obtain⟨c,c1,c2,c3⟩:=z11m (l:=a0) (by omega) w0.1 hs;rw[if_pos (by simp),c2];simp only[bS];by_cases h:c=0
 ·have R:=c3 h;have a6:=z1ex R b1;rw[if_neg (by simp[h]),VU];simp only[bS];by_cases h2:Two a0.length O
  ·rw[decide_eq_true h2];have M:=z10l R a6 h2;obtain⟨cn,hx⟩:=M.exch;have iA:=NL (l:=a0) h2.1.1 h2.1.2;have iB:=NL (l:=a0) h2.2.1.1 h2.2.1.2;generalize hk:Ck a0 O (Cl a0 O)=k at M;generalize hu:Cl a0 O=u at M hx;have a7:=M.len;have jA:idx k O.A=some u:=by rw[NL h2.1.1 (by rw[a7]; exact h2.1.2),M.atA]
   have jB:idx k O.B=some u:=by rw[NL h2.2.1.1 (by rw[a7]; exact h2.2.1.2),M.atB]
   have sk:HL k k=some true:=We k (by have:=M.rps.len; omega) λg hg=>(M.rps.rp g hg).fit.small (by omega);have su:=VI M.small;have d0:((0:Int) != 0)=false:=rfl;have a8:((k.length:Int) != (a0.length:Int))=false:=by simp[a7]
   simp only[Bool.not_true,Bool.false_eq_true,if_false,bS];rw[M.once,M.swap];simp only[bS];rw[iA,iB];simp only[bS];rw[M.uni,hx];simp only[bS,d0,a8,Bool.false_eq_true,if_false];rw[sk];simp only[bS,Bool.not_true,Bool.false_eq_true,if_false];rw[jA];simp only[bS];rw[su];simp only[bS,Bool.not_true,Bool.false_eq_true,if_false];rw[jB];simp only[bS];rw[su];simp only[bS,Bool.not_true,Bool.false_eq_true,if_false]
   rw[M.again];simp only[bS,d0,Bool.false_eq_true,if_false];rw[sk,VU];simp only[bS,Bool.not_true,Bool.false_eq_true,if_false];by_cases h3:Two a0.length U
   ·rw[decide_eq_true h3];by_cases f1:U.A=O.A
    ·simp[f1,bS]
    by_cases f2:U.A=O.B
    ·simp[f1,f2,bS]
    by_cases f3:U.B=O.A
    ·simp[f1,f2,f3,bS]
    by_cases f4:U.B=O.B
    ·simp[f1,f2,f3,f4,bS]
    have v1:=WN R a6 h2 h3 f1 f2 f3 f4;have v2:=WN R a6 h3 h2 (λe=>f1 e.symm) (λe=>f3 e.symm) (λe=>f2 e.symm) (λe=>f4 e.symm);rw[z12j (m:=U) (p:=O) ⟨h3.1.1,h3.2.1.1⟩ ⟨h2.1.1,h2.2.1.1⟩ (λe=>f1 e.symm) (λe=>f3 e.symm) (λe=>f2 e.symm) (λe=>f4 e.symm)] at v2;have RK:=(FK R v1).1;have q1:=NH R [O,U] (by simp) v1;have q2:=NH R [U,O] (by simp) v2;have sK:=We _ (by have:=RK.len; omega) λg hg=>(RK.rp g hg).fit.small (by omega)
    have g1:(U.A==O.A)=false:=by simpa using f1
    have g2:(U.A==O.B)=false:=by simpa using f2
    have g3:(U.B==O.A)=false:=by simpa using f3
    have g4:(U.B==O.B)=false:=by simpa using f4
    simp only[g1,g2,g3,g4,Bool.not_true,Bool.false_eq_true,if_false,bS];rw[q1,q2];simp only[bS];rw[sK];rfl
   ·rw[decide_eq_false h3];rfl
  ·rw[decide_eq_false h2];rfl
 ·rw[if_pos (by simp[h])];rfl
end
end Go.Proofs.YtgomhacoacmbcaaGreatDoor
