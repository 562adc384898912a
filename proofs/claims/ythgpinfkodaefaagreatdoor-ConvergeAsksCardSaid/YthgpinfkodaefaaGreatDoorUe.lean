import Derived.Test.YthgpinfkodaefaaGreatDoorUd
set_option linter.unusedSimpArgs false
set_option linter.unusedVariables false
namespace Go.Proofs.YthgpinfkodaefaaGreatDoor
section
open Go
variable {g:z00}
abbrev Str:=List UInt8
theorem zv0 (x y:Str):zwj x y=decide (x<y):=bytesLess_eq x y
def zga (l:List Str):Prop:=l.Pairwise (· < ·)
theorem zmv (x:Str):¬ x<x:=List.lt_irrefl x
theorem zlj {x y:Str} (h:x≤y) (hn:x≠y):x<y:=by
 by_cases c:x<y
 ·
  exact c
 ·
  exact absurd (List.le_antisymm h (List.not_lt.1 c)) hn
theorem zol {x y z:Str} (h:x<y) (k:y<z):x<z:=List.lt_trans h k
theorem zyw {x y:Str} (h:x<y) (k:y<x):False:=zmv x (zol h k)
theorem zv8 {x y z:Str} (h:x≤y) (k:y<z):x<z:=by
 by_cases e:x=y
 ·
  rw [e]; exact k
 ·
  exact zol (zlj h e) k
theorem zxm (x y:Str):x<y∨x=y∨y<x:=by
 by_cases c:x<y
 ·
  exact .inl c
 ·
  by_cases e:x=y
  ·
   exact .inr (.inl e)
  ·
   exact .inr (.inr (zlj (List.not_lt.1 c) fun h=>e h.symm))
theorem zei:∀ (l m:List Str),zga l→zga m→(∀ x,x∈l↔x∈m)→l=m
 | [],m,_,_,h=>by
  cases m with
  | nil=>rfl
  | cons b m=>have:=(h b).2 (by simp); simp at this
 | a::l,[],_,_,h=>by have:=(h a).1 (by simp); simp at this
 | a::l,b::m,h1,h2,h=>by
  obtain ⟨p1,p2⟩:=List.pairwise_cons.1 h1
  obtain ⟨q1,q2⟩:=List.pairwise_cons.1 h2
  have hab:a=b:=by
   have ha:=(h a).1 (by simp)
   have hb:=(h b).2 (by simp)
   rcases List.mem_cons.1 ha with e | ha'
   ·
    exact e
   ·
    rcases List.mem_cons.1 hb with e | hb'
    ·
     exact e.symm
    ·
     exact (zyw (q1 a ha') (p1 b hb')).elim
  subst hab
  congr 1
  refine zei l m p2 q2 fun x=>⟨fun hx=>?_, fun hx=>?_⟩
  ·
   rcases List.mem_cons.1 ((h x).1 (by simp [hx])) with e | h'
   ·
    subst e; exact (zmv _ (p1 x hx)).elim
   ·
    exact h'
  ·
   rcases List.mem_cons.1 ((h x).2 (by simp [hx])) with e | h'
   ·
    subst e; exact (zmv _ (q1 x hx)).elim
   ·
    exact h'
theorem ztg {l:List Str} (h:l.Nodup):zga (zmq l):=by
 have h1:=zcc l
 have h2:(zmq l).Nodup:=(zhs l).nodup_iff.2 h
 exact (h1.and h2).imp fun {a b} hab=>zlj hab.1 hab.2
theorem z10y (l:List Str) (k:Str) (hl:l.length≤1000):∃ b:Int,iter (z5z l k) 0=some b∧∃ n:Nat,b=(n:Int)∧n≤l.length∧(∀ i (h:i<l.length),i<n→l[i]<k)∧(∀ h:n<l.length,¬ l[n]<k):=by
 refine zca (F:=z5z l k) (fun s=>∃ n:Nat,s=(n:Int)∧n≤l.length∧∀ i (h:i<l.length),i<n→l[i]<k) (fun s=>l.length - s.toNat) _ ?_ 0 ⟨0,rfl,Nat.zero_le _, fun i _ h=>absurd h (by omega)⟩
 rintro s ⟨n,rfl,hn,hi⟩
 by_cases h:n<l.length
 ·
  unfold z5z
  rw [if_pos (by simpa using h),z0c h]
  simp only [bS,zv0]
  by_cases c:l[n]<k
  ·
   rw [if_pos (by simpa using c)]
   refine .inr ⟨_,rfl,⟨n+1,z0q (by omega), by omega, fun i h2 h3=>?_⟩,?_⟩
   ·
    rcases Nat.lt_or_ge i n with h4 | h4
    ·
     exact hi i h2 h4
    ·
     have:i=n:=by omega
     subst this; exact c
   ·
    rw [z0q (by omega)]; simp only [Int.toNat_natCast]; omega
  ·
   rw [if_neg (by simpa using c)]
   exact .inl ⟨_,rfl,n,rfl,hn,hi, fun _=>c⟩
 ·
  unfold z5z
  rw [if_neg (by simpa using h)]
  exact .inl ⟨_,rfl,n,rfl,hn,hi, fun h2=>absurd h2 h⟩
theorem zvm (l:List Str) (k:Str) (hl:l.length≤1000) (hs:zga l):∃ r,z82 l k=some r∧zga r∧r.length≤l.length+1∧∀ x,x∈r↔x∈l∨x=k:=by
 obtain ⟨_,h1,n,rfl,h2,h3,h4⟩:=z10y l k hl
 unfold z82
 rw [h1]
 simp only [bS]
 have hlt:∀ x∈l.take n,x<k:=fun x hx=>by
  obtain ⟨j,hj,rfl⟩:=List.getElem_of_mem hx
  rw [List.length_take] at hj
  rw [List.getElem_take]
  exact h3 j (by omega) (by omega)
 by_cases hn:n<l.length
 ·
  rw [if_pos (by simpa using hn),z0c hn]
  simp only [bS]
  by_cases c:l[n]=k
  ·
   rw [if_pos (by simpa using c)]
   refine ⟨l,rfl,hs, by omega, fun x=>⟨.inl, fun h=>h.elim id fun e=>?_⟩⟩
   subst e; subst c; exact List.getElem_mem hn
  ·
   rw [if_neg (by simpa using c)]
   simp only [zom]
   rw [show (0:Int)=((0:Nat):Int) from rfl,za7 (by omega) (by omega)]
   simp only [bS,List.drop_zero,Nat.sub_zero]
   rw [z1b (by simp; omega)]
   simp only [bS]
   rw [z1b (by simp; omega)]
   simp only [bS]
   rw [za7 (by omega) (by omega)]
   simp only [bS]
   rw [z1b (by simp; omega)]
   simp only [bS]
   have hk:k<l[n]:=by
    rcases zxm k l[n] with h | h | h
    ·
     exact h
    ·
     exact absurd h.symm c
    ·
     exact absurd h (h4 hn)
   have hdr:(l.drop n).take (l.length - n)=l.drop n:=List.take_of_length_le (by simp)
   rw [hdr]
   have hgt:∀ x∈l.drop n,k<x:=fun x hx=>by
    obtain ⟨j,hj,rfl⟩:=List.getElem_of_mem hx
    rw [List.length_drop] at hj
    rw [List.getElem_drop]
    by_cases hj0:j=0
    ·
     subst hj0; exact hk
    ·
     exact zol hk (List.pairwise_iff_getElem.1 hs n (n+j) hn (by omega) (by omega))
   refine ⟨_,rfl,?_, by simp; omega, fun x=>?_⟩
   ·
    unfold zga
    rw [List.nil_append,List.append_assoc,List.pairwise_append,List.pairwise_append]
    refine ⟨hs.sublist (List.take_sublist _ _),⟨by simp,hs.sublist (List.drop_sublist _ _), fun a ha b hb=>?_⟩, fun a ha b hb=>?_⟩
    ·
     rw [List.mem_singleton] at ha; subst ha; exact hgt b hb
    ·
     rcases List.mem_append.1 hb with hb | hb
     ·
      rw [List.mem_singleton] at hb; subst hb; exact hlt a ha
     ·
      exact zol (hlt a ha) (hgt b hb)
   ·
    rw [List.nil_append]; exact zlg l n k x
 ·
  rw [if_neg (by simpa using hn)]
  have hnl:n=l.length:=by omega
  subst hnl
  simp only [zom]
  rw [show (0:Int)=((0:Nat):Int) from rfl,za7 (by omega) (by omega)]
  simp only [bS,List.drop_zero,Nat.sub_zero]
  rw [z1b (by simp; omega)]
  simp only [bS]
  rw [z1b (by simp; omega)]
  simp only [bS]
  rw [za7 (by omega) (by omega)]
  simp only [bS]
  rw [z1b (by simp; omega)]
  simp only [bS]
  rw [List.take_length] at hlt ⊢
  refine ⟨_,rfl,?_, by simp, fun x=>by simp⟩
  simp only [List.nil_append,List.drop_length,List.take_nil,List.append_nil]
  unfold zga
  rw [List.pairwise_append]
  exact ⟨hs, by simp, fun a ha b hb=>by rw [List.mem_singleton] at hb; subst hb; exact hlt a ha⟩
theorem z109 (n:Nat) (hn:n≤100000):z3s (n:Int)=some []:=by
 unfold z3s
 rw [if_neg (by simp)]
 have e:w64 ((n:Int) - w64 (0 - (([]:List Str).length:Int)))=(n:Int):=by
  show w64 ((n:Int) - w64 (0 - 0))=_
  rw [show w64 (0 - 0)=0 from by decide,z0r (by omega) (by omega)]
  omega
 rw [e]
 simp only [bS]
 by_cases h:0<n
 ·
  rw [if_pos (by simpa using h),zgx (by omega) (by omega)]
  simp only [bS]
  show (cut (List.replicate n ([]:Str)) ((0:Nat):Int) ((0:Nat):Int) >>= fun x7=>some x7)=_
  rw [za7 (by omega) (by omega)]
  rfl
 ·
  rw [if_neg (by simpa using h)]
theorem zwr (a b:List Str) (ha:a.length≤1000) (hb:b.length≤1000):z3b [a,b]=some (a++b):=by
 unfold z3b
 have h1:iter (z23 [a,b]) (0,0)=some ((a.length+b.length:Nat):Int):=by
  rw [z1g (s':=((a.length:Int),1)) ?_,z1g (s':=(((a.length+b.length:Nat):Int),2)) ?_]
  ·
   exact z1a (by unfold z23; rfl)
  ·
   unfold z23
   rw [if_pos (by simp)]
   show (some b >>= fun x4=>_)=_
   simp only [bS]
   rw [z0r (by omega) (by omega),if_neg (by simp; omega)]
   simp only [Option.some.injEq,Sum.inr.injEq,Prod.mk.injEq]
   exact ⟨by omega, by decide⟩
  ·
   unfold z23
   rw [if_pos (by simp)]
   show (some a >>= fun x4=>_)=_
   simp only [bS]
   rw [z0r (by omega) (by omega),if_neg (by simp)]
   simp only [Option.some.injEq,Sum.inr.injEq,Prod.mk.injEq]
   exact ⟨by omega, by decide⟩
 have h2:iter (z24 [a,b]) ([],0)=some (a++b):=by
  rw [z1g (s':=(a,1)) ?_,z1g (s':=(a++b,2)) ?_]
  ·
   exact z1a (by unfold z24; rfl)
  ·
   unfold z24
   rw [if_pos (by simp)]
   show (some b >>= fun x4=>_)=_
   simp only [bS]
   rw [z1b (by first | omega | (simp; omega))]
   simp only [bS,Option.some.injEq,Sum.inr.injEq,Prod.mk.injEq,true_and]
   decide
  ·
   unfold z24
   rw [if_pos (by simp)]
   show (some a >>= fun x4=>_)=_
   simp only [bS]
   rw [z1b (by first | omega | (simp; omega))]
   simp only [bS,List.nil_append,Option.some.injEq,Sum.inr.injEq,Prod.mk.injEq,true_and]
   decide
 rw [h1]
 simp only [bS]
 rw [z109 _ (by omega)]
 simp only [bS]
 rw [h2]
 rfl
theorem znw (l:List Str) (hl:l.length≤1000000):ziw l=some (zmq l):=by
 unfold ziw; rw [z3a hl]; rfl
theorem zko {α:Type} {l:List α} {n:Nat} (h:n<l.length):l.take (n+1)=l.take n++[l[n]]:=by
 rw [List.take_add_one,List.getElem?_eq_getElem h]; rfl
theorem zsv {l:List Str} (hso:l.Pairwise (· ≤ ·)) {n i:Nat} (hi:i<l.length) (hn:n≤i+1):∀ x∈l.take n,x≤l[i]:=by
 intro x hx
 obtain ⟨j,hj,rfl⟩:=List.getElem_of_mem hx
 rw [List.length_take] at hj
 rw [List.getElem_take]
 by_cases hji:j=i
 ·
  subst hji; exact List.le_refl _
 ·
  exact List.pairwise_iff_getElem.1 hso j i (by omega) hi (by omega)
theorem zgw {l:List Str} {x:Str} (h:zga l) (hx:∀ y∈l,y<x):zga (l++[x]):=by
 unfold zga
 rw [List.pairwise_append]
 exact ⟨h, by simp, fun a ha b hb=>by rw [List.mem_singleton] at hb; subst hb; exact hx a ha⟩
theorem zk7 (l:List Str) (hl:l.length≤1000) (hso:l.Pairwise (· ≤ ·)) (s:Nat) (h1:1≤s) (hs:s<l.length) (hst:zga (l.take s)) (heq:l[s]=l[s - 1]) :
  ∃ b:List Str × Int,iter (z1w l s) (l,(s:Int),1)=some b∧b.1.length=l.length∧∃ j:Nat,b.2=(j:Int)∧j<l.length∧zga (b.1.take j)∧∀ x,x∈b.1.take j↔x∈l:=by
 refine z77 (F:=z1w l s) (l.length - s)
  (fun i st=>st.1.length=l.length∧st.2.2=(i:Int)∧1≤i∧∃ j:Nat,st.2.1=(j:Int)∧j+1≤s+i∧(∀ q,s+i - 1≤q→st.1[q]? = l[q]?)∧zga (st.1.take j)∧∀ x,x∈st.1.take j↔x∈l.take (s+i)) _ ?_ ?_ _ 1 (by omega)
  ⟨rfl,rfl, by omega,s,rfl, by omega, fun _ _=>rfl,hst, fun x=>?_⟩
 ·
  rintro i ⟨c,j',i'⟩ hi ⟨e1,e2,e0,j,e3,e4,e5,e6,e7⟩
  simp only at e1 e2 e3 e5 e6 e7
  subst e2 e3
  have g1:c[s+i]'(by omega)=l[s+i]'(by omega):=by
   have:=e5 (s+i) (by omega)
   rw [List.getElem?_eq_getElem (by omega),List.getElem?_eq_getElem (by omega)] at this
   exact Option.some.inj this
  have g2:c[s+(i - 1)]'(by omega)=l[s+(i - 1)]'(by omega):=by
   have:=e5 (s+(i - 1)) (by omega)
   rw [List.getElem?_eq_getElem (by omega),List.getElem?_eq_getElem (by omega)] at this
   exact Option.some.inj this
  have hs1:l.take (s+(i+1))=l.take (s+i)++[l[s+i]'(by omega)]:=zko (n:=s+i) (by omega)
  unfold z1w
  rw [if_pos (by simp; omega)]
  simp only [Int.toNat_natCast]
  rw [zkn (by omega),z0r (x:=(i:Int) - 1) (by omega) (by omega), show ((i:Int) - 1)=((i - 1:Nat):Int) by omega,zkn (by omega)]
  simp only [bS]
  rw [z0c (by omega),z0c (by omega)]
  simp only [bS]
  by_cases hc:c[s+i]'(by omega)=c[s+(i - 1)]'(by omega)
  ·
   rw [if_neg (by simpa using hc)]
   refine ⟨_,rfl,e1,z0q (by omega), by omega,j,rfl, by omega, fun q hq=>e5 q (by omega),e6, fun x=>?_⟩
   rw [e7,hs1,List.mem_append]
   refine ⟨.inl, fun h=>h.elim id fun h=>?_⟩
   have hx:x=l[s+i]'(by omega):=List.mem_singleton.1 h
   rw [hx,← g1,hc,g2,List.mem_take_iff_getElem]
   exact ⟨s+(i - 1), by omega,rfl⟩
  ·
   rw [if_pos (by simpa using hc),z0c (by omega)]
   simp only [bS]
   have hset:(c.set j (l[s+i]'(by omega))).take (j+1)=c.take j++[l[s+i]'(by omega)]:=by
    rw [zko (by rw [List.length_set]; omega),List.take_set_of_le (Nat.le_refl _),List.getElem_set_self]
   refine ⟨_,rfl, by simpa using e1,z0q (by omega), by omega,j+1,z0q (by omega), by omega, fun q hq=>?_,?_, fun x=>?_⟩
   ·
    show (c.set j _)[q]? = _
    rw [List.getElem?_set_ne (by omega)]; exact e5 q (by omega)
   ·
    show zga ((c.set j (c[s+i]'(by omega))).take (j+1))
    rw [g1,hset]
    refine zgw e6 fun y hy=>?_
    have h1:=zsv hso (n:=s+i) (i:=s+(i - 1)) (by omega) (by omega) y ((e7 y).1 hy)
    have h2:l[s+(i - 1)]'(by omega)≤l[s+i]'(by omega):=List.pairwise_iff_getElem.1 hso _ _ (by omega) (by omega) (by omega)
    exact zv8 h1 (zlj h2 fun e=>hc (by rw [g1,g2]; exact e.symm))
   ·
    show x∈(c.set j (c[s+i]'(by omega))).take (j+1)↔_
    rw [g1,hset,hs1,List.mem_append,List.mem_append,e7]
 ·
  rintro ⟨c,j',i'⟩ ⟨e1,e2,e0,j,e3,e4,e5,e6,e7⟩
  simp only at e1 e2 e3 e5 e6 e7
  subst e2 e3
  unfold z1w
  rw [if_neg (by simp <;> omega)]
  refine ⟨_,rfl,e1,j,rfl, by omega,e6, fun x=>?_⟩
  rw [e7,List.take_of_length_le (by omega)]
 ·
  show x∈l.take s↔x∈l.take (s+1)
  rw [zko hs,List.mem_append]
  refine ⟨.inl, fun h=>h.elim id fun h=>?_⟩
  have hx:x=l[s]:=List.mem_singleton.1 h
  rw [hx,heq,List.mem_take_iff_getElem]
  exact ⟨s - 1, by omega,rfl⟩
theorem zi6 (l:List Str) (hl:l.length≤1000) (hso:l.Pairwise (· ≤ ·)):∃ c,z33 l=some c∧zga c∧∀ x,x∈c↔x∈l:=by
 have key:∀ k n,l.length - n=k→1≤n→n≤l.length→zga (l.take n)→∃ r:Sum (List Str) Unit,iter (z11 l) (n:Int)=some r∧((r=.inr ()∧zga l)∨(∃ c,r=.inl c∧zga c∧∀ x,x∈c↔x∈l)):=by
  intro k
  induction k with
  | zero =>
   intro n hk h1 hn hst
   refine ⟨_,z1a ?_,.inl ⟨rfl,?_⟩⟩
   ·
    unfold z11
    rw [if_neg (by simp; omega)]
   ·
    rw [List.take_of_length_le (by omega)] at hst; exact hst
  | succ k ih =>
   intro n hk h1 hn hst
   have hlt:n<l.length:=by omega
   by_cases hc:l[n]=l[n - 1]
   ·
    obtain ⟨⟨c,j'⟩,e1,e2,j,e3,e4,e5,e6⟩:=zk7 l hl hso n h1 hlt hst hc
    simp only at e2 e3 e5 e6
    subst e3
    have hF:z11 l (n:Int)=some (.inl (.inl (c.take j))):=by
     unfold z11
     rw [if_pos (by simp; omega),z0c hlt,z0r (by omega) (by omega), show ((n:Int) - 1)=((n - 1:Nat):Int) by omega,z0c (by omega)]
     simp only [bS]
     rw [if_pos (by simpa using hc),z3a (by omega)]
     simp only [bS]
     rw [e1]
     simp only [bS]
     rw [z3a (by omega),z3a (by simp; omega)]
     simp only [bS,Int.toNat_natCast]
     rw [show (0:Int)=((0:Nat):Int) from rfl,za7 (by omega) (by rw [zsl _ _ _ _ (by omega)]; omega)]
     simp only [bS,List.drop_zero,Nat.sub_zero]
     have:(clr c j (c.length - j) ([]:Str)).take j=c.take j:=by
      unfold clr
      first
       | rw [List.append_assoc,List.take_append_of_le_length (by rw [List.length_take]; omega),List.take_take,Nat.min_self]
       | rw [List.take_append_of_le_length (by rw [List.length_take]; omega),List.take_take,Nat.min_self]
     rw [this]
    exact ⟨_,z1a hF,.inr ⟨_,rfl,e5,e6⟩⟩
   ·
    have hF:z11 l (n:Int)=some (.inr ((n+1:Nat):Int)):=by
     unfold z11
     rw [if_pos (by simp; omega),z0c hlt,z0r (x:=(n:Int) - 1) (by omega) (by omega), show ((n:Int) - 1)=((n - 1:Nat):Int) by omega,z0c (by omega)]
     simp only [bS]
     rw [if_neg (by simpa using hc),z0q (by omega)]
    obtain ⟨r,h2,h3⟩:=ih (n+1) (by omega) (by omega) (by omega) (by
     rw [zko hlt]
     refine zgw hst fun y hy=>?_
     have h1':=zsv hso (n:=n) (i:=n - 1) (by omega) (by omega) y hy
     have h2':l[n - 1]'(by omega)≤l[n]:=List.pairwise_iff_getElem.1 hso _ _ (by omega) hlt (by omega)
     exact zv8 h1' (zlj h2' fun e=>hc e.symm))
    exact ⟨r, by rw [z1g hF]; exact h2,h3⟩
 unfold z33
 by_cases h2:l.length<2
 ·
  rw [if_pos (by simp; omega)]
  refine ⟨l,rfl,?_, fun x=>Iff.rfl⟩
  match l,h2 with
  | [],_=>exact List.Pairwise.nil
  | [_],_=>exact List.pairwise_singleton _ _
 ·
  rw [if_neg (by simp; omega)]
  obtain ⟨r,e1,e2⟩:=key (l.length - 1) 1 rfl (by omega) (by omega) (by rw [zko (by omega)]; simp [zga])
  rw [show (1:Int)=((1:Nat):Int) from rfl,e1]
  rcases e2 with ⟨rfl,h3⟩ | ⟨c,rfl,h3,h4⟩
  ·
   exact ⟨l,rfl,h3, fun x=>Iff.rfl⟩
  ·
   exact ⟨c,rfl,h3,h4⟩
theorem zfe (l:List Str) (hl:l.length≤1000):z4m l l=some true:=by
 unfold z4m
 rw [if_neg (by simp)]
 have:iter (z4p l l) ((0:Nat):Int)=some (.inr ()):=by
  refine z3e l.length (fun i=>(i:Int)) (fun i hi=>?_) ?_
  ·
   unfold z4p
   rw [if_pos (by simpa using hi),z0c hi]
   simp only [bS]
   rw [if_neg (by simp),z0q (by omega)]
  ·
   unfold z4p
   rw [if_neg (by simp)]
 rw [show (0:Int)=((0:Nat):Int) from rfl,this]
 rfl
def zj3 (g:z00) (i:Nat) (k:Str):Prop:=∃ j,∃ h:j<g.Ops.length,j<i∧g.Ops[j].Act.Kind≠1∧g.Ops[j].Act.Key=k
theorem zjs {k:Str}:¬ zj3 g 0 k:=fun ⟨_,_,h,_⟩=>absurd h (by omega)
theorem zdh {i:Nat} (hi:i<g.Ops.length) {k:Str}:zj3 g (i+1) k↔zj3 g i k∨g.Ops[i].Act.Kind≠1∧g.Ops[i].Act.Key=k:=by
 constructor
 ·
  rintro ⟨j,h,h1,h2⟩
  by_cases e:j=i
  ·
   subst e; exact .inr h2
  ·
   exact .inl ⟨j,h, by omega,h2⟩
 ·
  rintro (⟨j,h,h1,h2⟩ | h)
  ·
   exact ⟨j,h, by omega,h2⟩
  ·
   exact ⟨i,hi, by omega,h⟩
theorem zwk (hl:g.Ops.length≤60):∃ l,z4j g=some l∧zga l∧l.length≤60∧∀ k,k∈l↔zj3 g g.Ops.length k:=by
 suffices hk:∃ l,iter (z5d g) ([],0)=some l∧zga l∧l.length≤60∧∀ k,k∈l↔zj3 g g.Ops.length k by
  obtain ⟨l,h1,h2⟩:=hk
  unfold z4j
  exact ⟨l, by rw [h1]; rfl,h2⟩
 refine z77 (F:=z5d g) g.Ops.length (fun i s=>s.2=(i:Int)∧zga s.1∧s.1.length≤i∧∀ k,k∈s.1↔zj3 g i k) (fun l=>zga l∧l.length≤60∧∀ k,k∈l↔zj3 g g.Ops.length k) (fun i s hi=>?_) (fun s=>?_) ([],0) 0 (Nat.zero_le _) ⟨rfl,List.Pairwise.nil,Nat.le_refl _, fun k=>⟨fun h=>absurd h (by simp), fun h=>absurd h zjs⟩⟩
 ·
  obtain ⟨l,i'⟩:=s
  rintro ⟨e1,e2,e3,e4⟩
  simp only at e1 e2 e3 e4
  subst e1
  unfold z5d
  rw [if_pos (by simpa using hi)]
  simp only [z0c hi,bS,z0q (n:=i) (by omega)]
  by_cases c:g.Ops[i].Act.Kind=1
  ·
   rw [if_neg (by simp [c])]
   refine ⟨_,rfl,rfl,e2, by show l.length≤_; omega, fun k=>?_⟩
   rw [zdh hi,e4]
   exact ⟨.inl, fun h=>h.elim id fun h=>absurd c h.1⟩
  ·
   rw [if_pos (by simpa using c)]
   obtain ⟨r,r1,r2,r3,r4⟩:=zvm l g.Ops[i].Act.Key (by omega) e2
   rw [r1]
   simp only [bS]
   refine ⟨_,rfl,rfl,r2, by show r.length≤_; omega, fun k=>?_⟩
   rw [zdh hi,r4,e4]
   exact ⟨fun h=>h.imp id fun h=>⟨c,h.symm⟩, fun h=>h.imp id fun h=>h.2.symm⟩
 ·
  rintro ⟨e1,e2,e3,e4⟩
  unfold z5d
  rw [if_neg (by rw [e1]; simp)]
  exact ⟨_,rfl,e2, by omega,e4⟩
theorem zhg {κ β:Type} [DecidableEq κ] (k:κ) (v:β):∀ m:List (κ × β),(zj0 m k v).map Prod.fst=if k∈m.map Prod.fst then m.map Prod.fst else m.map Prod.fst++[k]
 | []=>rfl
 | p::m=>by
  unfold zj0
  by_cases h:k=p.1
  ·
   rw [if_pos h,if_pos (by simp [h])]; rfl
  ·
   rw [if_neg h,List.map_cons,zhg k v m]
   by_cases h2:k∈m.map Prod.fst
   ·
    rw [if_pos h2,if_pos (by rw [List.map_cons]; exact List.mem_cons_of_mem _ h2),List.map_cons]
   ·
    rw [if_neg h2,if_neg (by rw [List.map_cons]; exact fun h3=>(List.mem_cons.1 h3).elim h h2),List.map_cons]; rfl
theorem zpe {κ β:Type} [DecidableEq κ] {k:κ} {v:β} {m:List (κ × β)} (h:(m.map Prod.fst).Nodup):((zj0 m k v).map Prod.fst).Nodup:=by
 rw [zhg]
 by_cases h2:k∈m.map Prod.fst
 ·
  rw [if_pos h2]; exact h
 ·
  rw [if_neg h2,List.nodup_append]
  exact ⟨h, by simp, fun a ha b hb e=>by rw [List.mem_singleton] at hb; subst hb; subst e; exact h2 ha⟩
theorem ztw {κ β:Type} [DecidableEq κ] {k x:κ} {v:β} {m:List (κ × β)}:x∈(zj0 m k v).map Prod.fst↔x∈m.map Prod.fst∨x=k:=by
 rw [zhg]
 by_cases h2:k∈m.map Prod.fst
 ·
  rw [if_pos h2]; exact ⟨.inl, fun h=>h.elim id fun e=>e ▸ h2⟩
 ·
  rw [if_neg h2,List.mem_append,List.mem_singleton]
theorem zuk {κ β:Type} [DecidableEq κ] {k:κ} {v:β} {m:List (κ × β)}:(zj0 m k v).length≤m.length+1:=by
 have h:=congrArg List.length (zhg k v m)
 rw [List.length_map] at h
 rw [h]
 split <;> simp
theorem zor:∀ (m:List (Str × Bool)) (acc:List Str),acc.length+m.length≤1000→zgj (fun e s=>z6i e.1 e.2 s) m acc=some (acc++m.map Prod.fst)
 | [],acc,_=>by rw [List.map_nil,List.append_nil]; rfl
 | p::m,acc,h=>by
  rw [List.length_cons] at h
  have e:z6i p.1 p.2 acc=some (acc++[p.1]):=by
   unfold z6i
   rw [z1b (by simp; omega)]
   rfl
  have h2:=zor m (acc++[p.1]) (by simp; omega)
  unfold zgj
  simp only [e,bS]
  rw [h2]
  simp
theorem zto (hl:g.Ops.length≤60):∃ m,iter (z6h g) ([],0)=some m∧(m.map Prod.fst).Nodup∧m.length≤60∧∀ k,k∈m.map Prod.fst↔zj3 g g.Ops.length k:=by
 refine z77 (F:=z6h g) g.Ops.length (fun i s=>s.2=(i:Int)∧(s.1.map Prod.fst).Nodup∧s.1.length≤i∧∀ k,k∈s.1.map Prod.fst↔zj3 g i k) _ (fun i s hi=>?_) (fun s=>?_) ([],0) 0 (Nat.zero_le _) ⟨rfl,List.Pairwise.nil,Nat.le_refl _, fun k=>⟨fun h=>absurd h (by simp), fun h=>absurd h zjs⟩⟩
 ·
  obtain ⟨m,i'⟩:=s
  rintro ⟨e1,e2,e3,e4⟩
  simp only at e1 e2 e3 e4
  subst e1
  unfold z6h
  rw [if_pos (by simpa using hi)]
  simp only [z0c hi,bS,z0q (n:=i) (by omega)]
  by_cases c:g.Ops[i].Act.Kind=1
  ·
   rw [if_neg (by simp [c])]
   refine ⟨_,rfl,rfl,e2, by simp only; omega, fun k=>?_⟩
   rw [zdh hi]
   exact (e4 k).trans ⟨.inl, fun h=>h.elim id fun h=>absurd c h.1⟩
  ·
   rw [if_pos (by simpa using c)]
   refine ⟨_,rfl,rfl,zpe e2,Nat.le_trans zuk (by omega), fun k=>?_⟩
   rw [zdh hi]
   refine ztw.trans ?_
   rw [e4]
   exact ⟨fun h=>h.imp id fun h=>⟨c,h.symm⟩, fun h=>h.imp id fun h=>h.2.symm⟩
 ·
  rintro ⟨e1,e2,e3,e4⟩
  unfold z6h
  rw [if_neg (by rw [e1]; simp)]
  exact ⟨_,rfl,e2, by omega,e4⟩
theorem znp (hl:g.Ops.length≤60) (h1:z57 g=some 0):∃ l,z3r g=some (l,0)∧z4j g=some l∧zga l∧l.length≤60∧∀ k,k∈l↔zj3 g g.Ops.length k:=by
 obtain ⟨l,p1,p2,p3,p4⟩:=zwk hl
 obtain ⟨m,q1,q2,q3,q4⟩:=zto hl
 refine ⟨l,?_,p1,p2,p3,p4⟩
 unfold z3r
 rw [h1]
 simp only [bS]
 rw [if_neg (by simp),q1]
 simp only [bS]
 rw [zor m [] (by simp; omega),List.nil_append]
 simp only [bS]
 rw [znw _ (by rw [List.length_map]; omega)]
 simp only [bS]
 rw [zei (zmq (m.map Prod.fst)) l (ztg q2) p2 fun x=>by rw [zp2,q4,p4]]
end
section
open Go
variable {g:z00}
theorem z10s (G:zh0 g) (h:z57 g=some 0) {x:ID} (hx:x∈g.IDs):∃ s,z6s g x=some (s,0)∧z1t g x=some s∧s.length≤60:=by
 obtain ⟨s,m,p1,p2,p3,p4,p5⟩:=zjw G hx
 refine ⟨s,?_,p1,p4⟩
 unfold z6s
 rw [zwe G h x,if_pos hx]
 simp only [bS]
 have hi:=zuq G hx
 rw [if_neg (by simp),z0c hi]
 simp only [bS]
 rw [← z9i hi,p2]
 simp only [bS]
 rw [p3]
 rfl
def zjp (g:z00) (key:Str) (i:Nat) (x:ID):Prop:=∃ j,∃ h:j<g.Ops.length,j<i∧g.Ops[j].Act.Key=key∧g.Ops[j].Act.Kind=3∧∃ s,z1t g (zew g j)=some s∧x∈s
theorem zn2 {key:Str} {x:ID}:¬ zjp g key 0 x:=fun ⟨_,_,h,_⟩=>absurd h (by omega)
theorem zeb {key:Str} {i:Nat} (hi:i<g.Ops.length) {x:ID}:zjp g key (i+1) x↔zjp g key i x∨g.Ops[i].Act.Key=key∧g.Ops[i].Act.Kind=3∧∃ s,z1t g (zew g i)=some s∧x∈s:=by
 constructor
 ·
  rintro ⟨j,h,h1,h2⟩
  by_cases e:j=i
  ·
   subst e; exact .inr h2
  ·
   exact .inl ⟨j,h, by omega,h2⟩
 ·
  rintro (⟨j,h,h1,h2⟩ | h)
  ·
   exact ⟨j,h, by omega,h2⟩
  ·
   exact ⟨i,hi, by omega,h⟩
theorem zzy (r:List ID × Int) (hr:r.1.length≤1000) (m:List (ID × Bool)):∃ b,iter (z5w r) (m,0)=some b∧∃ m',b=.inr m'∧∀ x,(zcd m' x).getD false=true↔(zcd m x).getD false=true∨x∈r.1:=by
 refine z77 (F:=z5w r) r.1.length (fun i s=>s.2=(i:Int)∧∀ x,(zcd s.1 x).getD false=true↔(zcd m x).getD false=true∨x∈r.1.take i) _ (fun i s hi=>?_) (fun s=>?_) (m,0) 0 (Nat.zero_le _) ⟨rfl, fun x=>by simp⟩
 ·
  obtain ⟨m1,i'⟩:=s
  rintro ⟨e1,e2⟩
  simp only at e1 e2
  subst e1
  unfold z5w
  rw [if_pos (by simpa using hi)]
  simp only [z0c hi,bS,z0q (n:=i) (by omega)]
  refine ⟨_,rfl,rfl, fun x=>?_⟩
  rw [zhp,zko hi,List.mem_append,List.mem_singleton]
  by_cases e:x=r.1[i]
  ·
   rw [if_pos e]; simp [e]
  ·
   rw [if_neg e,e2]
   simp [e]
 ·
  rintro ⟨e1,e2⟩
  unfold z5w
  rw [if_neg (by rw [e1]; simp)]
  exact ⟨_,rfl,_,rfl, fun x=>by rw [e2,List.take_length]⟩
theorem zzq (G:zh0 g) (h:z57 g=some 0) (key:Str):∃ b,iter (z5x g key) ([],0)=some b∧∃ m,b=.inr m∧∀ x,(zcd m x).getD false=true↔zjp g key g.Ops.length x:=by
 have hl:=G.e.len
 refine z77 (F:=z5x g key) g.Ops.length (fun i s=>s.2=(i:Int)∧∀ x,(zcd s.1 x).getD false=true↔zjp g key i x) _ (fun i s hi=>?_) (fun s=>?_) ([],0) 0 (Nat.zero_le _) ⟨rfl, fun x=>⟨fun h=>by simp [zcd] at h, fun h=>absurd h zn2⟩⟩
 ·
  obtain ⟨m,i'⟩:=s
  rintro ⟨e1,e2⟩
  simp only at e1 e2
  subst e1
  have hid:i<g.IDs.length:=by rw [G.e.ids]; exact hi
  unfold z5x
  rw [if_pos (by simpa using hi)]
  simp only [z0c hi,bS,z0q (n:=i) (by omega)]
  by_cases c:g.Ops[i].Act.Key=key
  ·
   rw [if_neg (by simp [c])]
   by_cases c2:g.Ops[i].Act.Kind=3
   ·
    rw [if_neg (by simp [c2]),z0c hid]
    simp only [bS]
    obtain ⟨s,s1,s2,s3⟩:=z10s G h (List.getElem_mem hid)
    rw [s1]
    simp only [bS]
    rw [if_neg (by simp)]
    obtain ⟨_,q1,m',rfl,q2⟩:=zzy (s,0) (by simp only; omega) m
    rw [q1]
    simp only [zom]
    refine ⟨_,rfl,rfl, fun x=>?_⟩
    rw [zeb hi]
    refine (q2 x).trans ?_
    rw [e2,z5n hid]
    exact ⟨fun h=>h.imp id fun h=>⟨c,c2,s,s2,h⟩, fun h=>h.imp id fun ⟨_,_,s',h1,h2⟩=>by rw [s2] at h1; cases h1; exact h2⟩
   ·
    rw [if_pos (by simpa using c2)]
    simp only [zom]
    refine ⟨_,rfl,rfl, fun x=>?_⟩
    rw [zeb hi]
    exact (e2 x).trans ⟨.inl, fun h=>h.elim id fun h=>absurd h.2.1 c2⟩
  ·
   rw [if_pos (by simpa using c)]
   simp only [zom]
   refine ⟨_,rfl,rfl, fun x=>?_⟩
   rw [zeb hi]
   exact (e2 x).trans ⟨.inl, fun h=>h.elim id fun h=>absurd h.1 c⟩
 ·
  rintro ⟨e1,e2⟩
  unfold z5x
  rw [if_neg (by rw [e1]; simp)]
  exact ⟨_,rfl,_,rfl,e2⟩
theorem zka (G:zh0 g) (x:ID) (key:Str):∀ (d i:Nat),g.Ops.length - i=d→i≤g.Ops.length→∃ r,iter (z2s g x key) (i:Int)=some r∧((r=.inl true∧∃ j,∃ h:j<g.Ops.length,i≤j∧g.Ops[j].Act.Key=key∧g.Ops[j].Act.Kind=3∧∃ s,z1t g (zew g j)=some s∧x∈s)∨(r=.inr ()∧¬ ∃ j,∃ h:j<g.Ops.length,i≤j∧g.Ops[j].Act.Key=key∧g.Ops[j].Act.Kind=3∧∃ s,z1t g (zew g j)=some s∧x∈s)):=by
 have hl:=G.e.len
 intro d
 induction d with
 | zero =>
  intro i hd hi
  refine ⟨.inr (),z1a ?_,.inr ⟨rfl, fun ⟨j,h,h1,_⟩=>by omega⟩⟩
  unfold z2s
  rw [if_neg (by simp; omega)]
 | succ d ih =>
  intro i hd hi
  have hlt:i<g.Ops.length:=by omega
  have hid:i<g.IDs.length:=by rw [G.e.ids]; exact hlt
  by_cases c:g.Ops[i].Act.Key=key∧g.Ops[i].Act.Kind=3∧∃ s,z1t g (zew g i)=some s∧x∈s
  ·
   obtain ⟨c1,c2,s,c3,c4⟩:=c
   have hs:s.length≤60:=by
    obtain ⟨s',m,p1,p2,p3,p4,p5⟩:=zjw G (x:=zew g i) (by rw [z5n hid]; exact List.getElem_mem hid)
    rw [p1] at c3; cases c3; exact p4
   obtain ⟨k,k1,k2⟩:=zo9 s x (by omega)
   refine ⟨.inl true,z1a ?_,.inl ⟨rfl,i,hlt,Nat.le_refl _,c1,c2,s,c3,c4⟩⟩
   unfold z2s
   rw [if_pos (by simpa using hlt)]
   simp only [z0c hlt,bS]
   rw [if_pos (by simp [c2]),if_pos (by simp [c1]),z0c hid,← z5n hid]
   simp only [bS]
   rw [c3]
   simp only [bS]
   rw [k1]
   have hk:decide (0≤k)=true:=by
    have:¬ k<0:=by simpa [c4] using k2
    exact decide_eq_true (by omega)
   simp only [bS,hk,if_true]
  ·
   have hF:z2s g x key (i:Int)=some (.inr ((i+1:Nat):Int)):=by
    unfold z2s
    rw [if_pos (by simpa using hlt)]
    simp only [z0c hlt,bS,z0q (n:=i) (by omega)]
    by_cases c2:g.Ops[i].Act.Kind=3
    ·
     rw [if_pos (by simp [c2])]
     by_cases c1:g.Ops[i].Act.Key=key
     ·
      obtain ⟨s,m,p1,p2,p3,p4,p5⟩:=zjw G (x:=zew g i) (by rw [z5n hid]; exact List.getElem_mem hid)
      obtain ⟨k,k1,k2⟩:=zo9 s x (by omega)
      rw [if_pos (by simp [c1]),z0c hid,← z5n hid]
      simp only [bS]
      rw [p1]
      simp only [bS]
      rw [k1]
      have hx:x∉s:=fun hx=>c ⟨c1,c2,s,p1,hx⟩
      have hk:decide (0≤k)=false:=by
       have:k<0:=by simpa [hx] using k2
       exact decide_eq_false (by omega)
      simp only [bS,hk,Bool.false_eq_true,if_false]
     ·
      rw [if_neg (by simpa using c1)]
      simp only [bS,Bool.false_eq_true,if_false]
    ·
     rw [if_neg (by simpa using c2)]
     simp only [bS,Bool.false_eq_true,if_false]
   obtain ⟨r,r1,r2⟩:=ih (i+1) (by omega) (by omega)
   refine ⟨r, by rw [z1g hF]; exact r1,?_⟩
   rcases r2 with ⟨rfl,j,h,h1,h2⟩ | ⟨rfl,h1⟩
   ·
    exact .inl ⟨rfl,j,h, by omega,h2⟩
   ·
    refine .inr ⟨rfl, fun ⟨j,h,h2,h3⟩=>?_⟩
    by_cases e:j=i
    ·
     subst e; exact c h3
    ·
     exact h1 ⟨j,h, by omega,h3⟩
theorem zn7 (G:zh0 g) (x:ID) (key:Str):∃ b,z2y g x key=some b∧(b=true↔zjp g key g.Ops.length x):=by
 obtain ⟨r,r1,r2⟩:=zka G x key _ 0 rfl (Nat.zero_le _)
 unfold z2y
 rw [show (0:Int)=((0:Nat):Int) from rfl,r1]
 rcases r2 with ⟨rfl,j,h,h1,h2⟩ | ⟨rfl,h1⟩
 ·
  exact ⟨true,rfl, fun _=>⟨j,h,h,h2⟩, fun _=>rfl⟩
 ·
  exact ⟨false,rfl, fun h=>by simp at h, fun ⟨j,h,h2,h3⟩=>(h1 ⟨j,h,Nat.zero_le _,h3⟩).elim⟩
def kO (g:z00) (i:Nat):z12:=match g.Ops[i]? with | some o=>o | none=>⟨0,[],0,⟨0,[],⟨0,0,0,[]⟩⟩,⟨0,0⟩⟩
theorem zli {i:Nat} (h:i<g.Ops.length):g.Ops[i]=kO g i:=by unfold kO; rw [List.getElem?_eq_getElem h]
def zev (g:z00) (key:Str):Nat→Option Nat
 | 0=>none
 | i+1=>if (kO g i).Act.Kind=4∧(kO g i).Act.Key=key∧(∀ b,zev g key i=some b→(kO g b).Stamp≤(kO g i).Stamp) then some i else zev g key i
def bI:Option Nat→Int
 | none=>-1
 | some b=>(b:Int)
theorem zxi (b:Nat):¬ bI (some b)<0:=by unfold bI; simp only; omega
theorem z9z (b:Nat):bI (some b)=(b:Int):=rfl
def inN (g:z00) (key:Str) (N:ID→Bool):Nat→Bool
 | 0=>false
 | i+1=>inN g key N i || (decide ((kO g i).Act.Kind=2)&&decide ((kO g i).Act.Key=key)&&!N (zew g i))
def vN (g:z00):Option Nat→z02
 | none=>⟨0,0,0,[]⟩
 | some b=>(kO g b).Act.Value
theorem znr (key:Str):∀ (i b:Nat),zev g key i=some b→b<i
 | 0,b,h=>by simp [zev] at h
 | i+1,b,h=>by
  unfold zev at h
  split at h
  ·
   cases h; omega
  ·
   have:=znr key i b h; omega
theorem zk6 {a b:UInt64}:a≤b↔a<b∨b=a:=by
 rw [UInt64.le_iff_toNat_le,UInt64.lt_iff_toNat_lt,← UInt64.toNat_inj]
 omega
theorem z10j (G:zh0 g) (key:Str) (m:List (ID × Bool)):iter (z7g g key m) (⟨false,⟨0,0,0,[]⟩⟩,-1,0)=some ⟨inN g key (fun x=>(zcd m x).getD false) g.Ops.length,vN g (zev g key g.Ops.length)⟩:=by
 have hl:=G.e.len
 refine z3e g.Ops.length (fun i=>((⟨inN g key (fun x=>(zcd m x).getD false) i,vN g (zev g key i)⟩:z06),bI (zev g key i),(i:Int))) (fun i hi=>?_) ?_
 ·
  have hid:i<g.IDs.length:=by rw [G.e.ids]; exact hi
  unfold z7g
  rw [if_pos (by simpa using hi)]
  simp only [z0c hi,bS,z0q (n:=i) (by omega)]
  simp only [zli hi]
  by_cases c:(kO g i).Act.Key=key
  ·
   rw [if_neg (by simp [c])]
   by_cases c2:(kO g i).Act.Kind=2
   ·
    have c4:¬ (kO g i).Act.Kind=4:=by rw [c2]; decide
    have hb:zev g key (i+1)=zev g key i:=by show (if _ then _ else _)=_; rw [if_neg fun h=>c4 h.1]
    rw [if_pos (by simp [c2]),z0c hid,← z5n hid]
    simp only [bS]
    by_cases c5:(zcd m (zew g i)).getD false=true
    ·
     have hin:inN g key (fun x=>(zcd m x).getD false) (i+1)=inN g key (fun x=>(zcd m x).getD false) i:=by
      show (_ || _)=_
      simp [c5]
     rw [if_neg (by simp [c5]),if_neg (by simp [c4])]
     simp only [bS,Bool.false_eq_true,if_false,hin,hb,z9z]
    ·
     have hin:inN g key (fun x=>(zcd m x).getD false) (i+1)=true:=by
      show (_ || _)=_
      simp only [Bool.not_eq_true] at c5
      simp [c5,c,c2]
     simp only [Bool.not_eq_true] at c5
     rw [if_pos (by simp [c5])]
     simp only [hin,hb]
   ·
    have hin:inN g key (fun x=>(zcd m x).getD false) (i+1)=inN g key (fun x=>(zcd m x).getD false) i:=by
     show (_ || _)=_
     simp [c2]
    rw [if_neg (by simpa using c2)]
    simp only [bS,Bool.false_eq_true,if_false]
    by_cases c4:(kO g i).Act.Kind=4
    ·
     rw [if_pos (by simp [c4])]
     cases hbi:zev g key i with
     | none =>
      have hb:zev g key (i+1)=some i:=by show (if _ then _ else _)=_; rw [if_pos ⟨c4,c, fun b h=>by rw [hbi] at h; cases h⟩]
      rw [if_pos (by simp [bI])]
      simp only [bS,if_true,hin,hb,z9z,vN]
     | some b =>
      have hbl:=znr key i b hbi
      have hbo:b<g.Ops.length:=by omega
      have hbd:b<g.IDs.length:=by omega
      rw [if_neg fun h=>absurd (of_decide_eq_true h) (zxi b)]
      simp only [z9z,z0c hbo,bS,zli hbo]
      by_cases s1:(kO g b).Stamp<(kO g i).Stamp
      ·
       have hb:zev g key (i+1)=some i:=by show (if _ then _ else _)=_; rw [if_pos ⟨c4,c, fun b' h=>by rw [hbi] at h; cases h; exact zk6.2 (.inl s1)⟩]
       rw [if_pos (by simpa using s1)]
       simp only [bS,if_true,hin,hb,vN,z9z]
      ·
       rw [if_neg (by simpa using s1)]
       by_cases s2:(kO g i).Stamp=(kO g b).Stamp
       ·
        have hb:zev g key (i+1)=some i:=by show (if _ then _ else _)=_; rw [if_pos ⟨c4,c, fun b' h=>by rw [hbi] at h; cases h; exact zk6.2 (.inr s2)⟩]
        have hk:=zcl G.e.ri hbd hid hbl
        rw [if_pos (by simpa using s2),z0c hid,z0c hbd]
        simp only [bS]
        rw [zo7,if_neg (by omega),if_pos hk]
        simp only [bS]
        rw [if_pos (by decide)]
        simp only [hin,hb,vN,z9z]
       ·
        have hb:zev g key (i+1)=some b:=by
         show (if _ then _ else _)=_
         rw [if_neg fun h=>(zk6.1 (h.2.2 b hbi)).elim s1 s2,hbi]
        rw [if_neg (by simpa using s2)]
        simp only [bS,Bool.false_eq_true,if_false,hin,hb,z9z]
    ·
     have hb:zev g key (i+1)=zev g key i:=by show (if _ then _ else _)=_; rw [if_neg fun h=>c4 h.1]
     rw [if_neg (by simpa using c4)]
     simp only [bS,Bool.false_eq_true,if_false,hin,hb,z9z]
  ·
   have hb:zev g key (i+1)=zev g key i:=by show (if _ then _ else _)=_; rw [if_neg fun h=>c h.2.1]
   have hin:inN g key (fun x=>(zcd m x).getD false) (i+1)=inN g key (fun x=>(zcd m x).getD false) i:=by
    show (_ || _)=_
    simp [c]
   rw [if_pos (by simpa using c)]
   simp only [hin,hb]
 ·
  unfold z7g
  rw [if_neg (by simp)]
theorem zzc (G:zh0 g) (key:Str) (N:ID→Bool) (hN:∀ x,z2y g x key=some (N x)):iter (z5r g key) (false,-1,0)=some (inN g key N g.Ops.length,bI (zev g key g.Ops.length)):=by
 have hl:=G.e.len
 refine z3e g.Ops.length (fun i=>(inN g key N i,bI (zev g key i),(i:Int))) (fun i hi=>?_) ?_
 ·
  have hid:i<g.IDs.length:=by rw [G.e.ids]; exact hi
  unfold z5r
  rw [if_pos (by simpa using hi)]
  simp only [z0c hi,bS,z0q (n:=i) (by omega)]
  simp only [zli hi]
  have h1:(if (kO g i).Act.Kind==2 then (if (kO g i).Act.Key==key then (idx g.IDs (i:Int) >>= fun x12=>z2y g x12 key >>= fun r14=>if !r14 then some true else some (inN g key N i)) else some (inN g key N i)) else some (inN g key N i))=some (inN g key N (i+1)):=by
   show _=some (_ || _)
   by_cases c2:(kO g i).Act.Kind=2
   ·
    rw [if_pos (by simp [c2])]
    by_cases c:(kO g i).Act.Key=key
    ·
     rw [if_pos (by simp [c]),z0c hid,← z5n hid]
     simp only [bS]
     rw [hN]
     simp only [bS]
     cases h:N (zew g i) <;> simp [c,c2]
    ·
     rw [if_neg (by simpa using c)]; simp [c]
   ·
    rw [if_neg (by simpa using c2)]; simp [c2]
  rw [h1]
  simp only [bS]
  by_cases c4:(kO g i).Act.Kind=4
  ·
   rw [if_neg (by simp [c4])]
   by_cases c:(kO g i).Act.Key=key
   ·
    rw [if_neg (by simp [c])]
    cases hbi:zev g key i with
    | none =>
     have hb:zev g key (i+1)=some i:=by show (if _ then _ else _)=_; rw [if_pos ⟨c4,c, fun b h=>by rw [hbi] at h; cases h⟩]
     rw [if_pos (by simp [bI])]
     simp only [bS,hb,z9z]
    | some b =>
     have hbl:=znr key i b hbi
     have hbo:b<g.Ops.length:=by omega
     rw [if_neg fun h=>absurd (of_decide_eq_true h) (zxi b)]
     simp only [z9z,z0c hbo,bS,zli hbo]
     by_cases s1:(kO g b).Stamp≤(kO g i).Stamp
     ·
      have hb:zev g key (i+1)=some i:=by show (if _ then _ else _)=_; rw [if_pos ⟨c4,c, fun b' h=>by rw [hbi] at h; cases h; exact s1⟩]
      rw [if_pos (by simpa using s1)]
      simp only [bS,hb,z9z]
     ·
      have hb:zev g key (i+1)=some b:=by
       show (if _ then _ else _)=_
       rw [if_neg fun h=>s1 (h.2.2 b hbi),hbi]
      rw [if_neg (by simpa using s1)]
      simp only [bS,hb,z9z]
   ·
    have hb:zev g key (i+1)=zev g key i:=by show (if _ then _ else _)=_; rw [if_neg fun h=>c h.2.1]
    rw [if_pos (by simpa using c),hb]
  ·
   have hb:zev g key (i+1)=zev g key i:=by show (if _ then _ else _)=_; rw [if_neg fun h=>c4 h.1]
   rw [if_pos (by simpa using c4),hb]
 ·
  unfold z5r
  rw [if_neg (by simp)]
theorem zib (G:zh0 g) (h:z57 g=some 0) (key:Str):∃ a,z38 g key=some (a,0)∧z2c g key=some (a.in_,a.v):=by
 obtain ⟨_,p1,m,rfl,p2⟩:=zzq G h key
 have hN:∀ x,z2y g x key=some ((zcd m x).getD false):=fun x=>by
  obtain ⟨b,b1,b2⟩:=zn7 G x key
  have:b=(zcd m x).getD false:=by rw [Bool.eq_iff_iff,b2,p2]
  rw [b1,this]
 refine ⟨⟨inN g key (fun x=>(zcd m x).getD false) g.Ops.length,vN g (zev g key g.Ops.length)⟩,?_,?_⟩
 ·
  unfold z38
  rw [p1]
  simp only [zom]
  rw [z10j G key m]
  rfl
 ·
  unfold z2c
  rw [zzc G key _ hN]
  simp only [bS]
  cases hb:zev g key g.Ops.length with
  | none=>rw [if_pos (by simp [bI])]; rfl
  | some b =>
   have hbl:=znr key _ b hb
   rw [if_neg fun h=>absurd (of_decide_eq_true h) (zxi b)]
   simp only [z9z,z0c hbl,zli hbl,bS]
   rfl
end
section
open Go
variable {g:z00}
theorem zts (a b:z00) (fa fb:Str→z06) (ha:∀ k,z38 a k=some (fa k,0)) (hb:∀ k,z38 b k=some (fb k,0)) (l:List Str) (hl:l.length≤1000) :
  iter (z6u a b l) ([],0)=some (.inr (l.filter fun k=>!decide (fa k=fb k))):=by
 refine z3e l.length (fun i=>((l.take i).filter fun k=>!decide (fa k=fb k),(i:Int))) (fun i hi=>?_) ?_
 ·
  have hf:=List.length_filter_le (fun k=>!decide (fa k=fb k)) (l.take i)
  rw [List.length_take] at hf
  unfold z6u
  rw [if_pos (by simpa using hi)]
  simp only [z0c hi,bS,z0q (n:=i) (by omega),ha,hb]
  rw [if_neg (by simp),if_neg (by simp),zko hi,List.filter_append,List.filter_cons]
  by_cases c:fa l[i]=fb l[i]
  ·
   rw [if_neg (by simp [c]),if_neg (by simp [c])]
   simp
  ·
   rw [if_pos (by simp [c]),if_pos (by simp [c]),z1b (by simp only [List.length_singleton]; omega)]
   simp
 ·
  unfold z6u
  rw [if_neg (by simp),List.take_length]
theorem zrz (a b:z00) (fa fb:Str→z06) (ha:∀ k,z2c a k=some ((fa k).in_,(fa k).v)) (hb:∀ k,z2c b k=some ((fb k).in_,(fb k).v)) (l:List Str) (hl:l.length≤1000) :
  iter (z5o a b l) ([],0)=some (l.filter fun k=>!decide (fa k=fb k)):=by
 refine z3e l.length (fun i=>((l.take i).filter fun k=>!decide (fa k=fb k),(i:Int))) (fun i hi=>?_) ?_
 ·
  have hf:=List.length_filter_le (fun k=>!decide (fa k=fb k)) (l.take i)
  rw [List.length_take] at hf
  unfold z5o
  rw [if_pos (by simpa using hi)]
  simp only [z0c hi,bS,z0q (n:=i) (by omega),ha,hb]
  have hc:(if ((fa l[i]).in_ != (fb l[i]).in_)=true then some true else some (!decide ((fa l[i]).v=(fb l[i]).v)))=some (!decide (fa l[i]=fb l[i])):=by
   cases h1:fa l[i] with
   | mk i1 v1 =>
    cases h2:fb l[i] with
    | mk i2 v2 =>
     by_cases e:i1=i2
     ·
      rw [if_neg (by simp [e])]; simp [e]
     ·
      rw [if_pos (by simp [e])]; simp [e]
  rw [hc,zko hi,List.filter_append,List.filter_cons]
  simp only [bS]
  by_cases c:fa l[i]=fb l[i]
  ·
   rw [if_neg (by simp [c]),if_neg (by simp [c])]
   simp
  ·
   rw [if_pos (by simp [c]),if_pos (by simp [c]),z1b (by simp only [List.length_singleton]; omega)]
   simp
 ·
  unfold z5o
  rw [if_neg (by simp),List.take_length]
theorem zue (l m:List Str) (hl:l.length≤100) (hm:m.length≤100) (hs:zga l):∃ r,iter (z49 m) (l,0)=some r∧zga r∧r.length≤200∧∀ x,x∈r↔x∈l∨x∈m:=by
 refine z77 (F:=z49 m) m.length (fun i s=>s.2=(i:Int)∧zga s.1∧s.1.length≤l.length+i∧∀ x,x∈s.1↔x∈l∨x∈m.take i) _ (fun i s hi=>?_) (fun s=>?_) (l,0) 0 (Nat.zero_le _) ⟨rfl,hs,Nat.le_refl _, fun x=>by simp⟩
 ·
  obtain ⟨t,i'⟩:=s
  rintro ⟨e1,e2,e3,e4⟩
  simp only at e1 e2 e3 e4
  subst e1
  unfold z49
  rw [if_pos (by simpa using hi)]
  simp only [z0c hi,bS,z0q (n:=i) (by omega)]
  obtain ⟨r,r1,r2,r3,r4⟩:=zvm t m[i] (by omega) e2
  rw [r1]
  simp only [bS]
  refine ⟨_,rfl,rfl,r2, by show r.length≤_; omega, fun x=>?_⟩
  show x∈r↔_
  rw [r4,e4,zko hi,List.mem_append,List.mem_singleton]
  exact or_assoc
 ·
  rintro ⟨e1,e2,e3,e4⟩
  unfold z49
  rw [if_neg (by rw [e1]; simp)]
  exact ⟨_,rfl,e2, by omega, fun x=>by rw [e4,List.take_length]⟩
inductive z10i (g:z00):Prop where
 | bad (c:Int) (hc:c≠0) (h1:z57 g=some c) (h2:z2u g=some c)
 | ok (G:zh0 g) (h1:z57 g=some 0) (h2:z2u g=some 0)
theorem zv1 (w:z2r g):z10i g:=by
 obtain ⟨c,c1,c2,c3⟩:=zum w
 by_cases h:c=0
 ·
  subst h; exact .ok (c3.1 rfl) c1 c2
 ·
  exact .bad c h c1 c2
theorem z102 (w:z2r g):∃ r,z3r g=some r∧z78 g=some r∧r.1.length≤60:=by
 rcases zv1 w with ⟨c,hc,h1,h2⟩ | ⟨G,h1,h2⟩
 ·
  refine ⟨([],c),?_,?_, by simp⟩
  ·
   unfold z3r
   rw [h1]
   simp only [bS]
   rw [if_pos (by simpa using hc)]
  ·
   unfold z78
   rw [h2]
   simp only [bS]
   rw [if_pos (by simpa using hc)]
 ·
  obtain ⟨l,p1,p2,p3,p4,p5⟩:=znp G.e.len h1
  refine ⟨(l,0),p1,?_,p4⟩
  unfold z78
  rw [h2]
  simp only [bS]
  rw [if_neg (by simp),p2]
  rfl
theorem z10k (w:z2r g) (key:Str):∃ r,z9n g key=some r∧z81 g key=some r:=by
 rcases zv1 w with ⟨c,hc,h1,h2⟩ | ⟨G,h1,h2⟩
 ·
  refine ⟨(false,⟨0,0,0,[]⟩,c),?_,?_⟩
  ·
   unfold z9n
   rw [h1]
   simp only [bS]
   rw [if_pos (by simpa using hc)]
  ·
   unfold z81
   rw [h2]
   simp only [bS]
   rw [if_pos (by simpa using hc)]
 ·
  obtain ⟨a,p1,p2⟩:=zib G h1 key
  refine ⟨(a.in_,a.v,0),?_,?_⟩
  ·
   unfold z9n
   rw [h1]
   simp only [bS]
   rw [if_neg (by simp),p1]
   rfl
  ·
   unfold z81
   rw [h2]
   simp only [bS]
   rw [if_neg (by simp),p2]
   rfl
theorem zl0 {c:Int} (hc:c≠0) (h1:z57 g=some c):z3r g=some ([],c):=by
 unfold z3r
 rw [h1]
 simp only [bS]
 rw [if_pos (by simpa using hc)]
theorem zun {a b:z00} (wa:z2r a) (wb:z2r b):∃ r,z5v a b=some r∧z4g a b=some r∧r.1.length≤1000:=by
 rcases zv1 wa with ⟨c,hc,h1,h2⟩ | ⟨Ga,h1,h2⟩
 ·
  refine ⟨([],c),?_,?_, by simp⟩
  ·
   unfold z5v
   rw [zl0 hc h1]
   simp only [bS]
   rw [if_pos (by simpa using hc)]
  ·
   unfold z4g
   rw [h2]
   simp only [bS]
   rw [if_pos (by simpa using hc)]
 ·
  obtain ⟨l,p1,p2,p3,p4,p5⟩:=znp Ga.e.len h1
  rcases zv1 wb with ⟨c,hc,h3,h4⟩ | ⟨Gb,h3,h4⟩
  ·
   refine ⟨([],c),?_,?_, by simp⟩
   ·
    unfold z5v
    rw [p1]
    simp only [bS]
    rw [if_neg (by simp),zl0 hc h3]
    simp only [bS]
    rw [if_pos (by simpa using hc)]
   ·
    unfold z4g
    rw [h2]
    simp only [bS]
    rw [if_neg (by simp),h4]
    simp only [bS]
    rw [if_pos (by simpa using hc)]
  ·
   obtain ⟨m,q1,q2,q3,q4,q5⟩:=znp Gb.e.len h3
   have ha:∃ fa:Str→z06,∀ k,z38 a k=some (fa k,0)∧z2c a k=some ((fa k).in_,(fa k).v):=⟨fun k=>Classical.choose (zib Ga h1 k), fun k=>Classical.choose_spec (zib Ga h1 k)⟩
   have hb:∃ fb:Str→z06,∀ k,z38 b k=some (fb k,0)∧z2c b k=some ((fb k).in_,(fb k).v):=⟨fun k=>Classical.choose (zib Gb h3 k), fun k=>Classical.choose_spec (zib Gb h3 k)⟩
   obtain ⟨fa,ha⟩:=ha
   obtain ⟨fb,hb⟩:=hb
   obtain ⟨all,r1,r2,r3,r4⟩:=zue l m (by omega) (by omega) p3
   obtain ⟨d,d1,d2,d3⟩:=zi6 (zmq (l++m)) (by rw [zg8,List.length_append]; omega) (zcc _)
   have hd:d=all:=zei _ _ d2 r2 fun x=>by rw [d3,zp2,List.mem_append,r4]
   subst hd
   refine ⟨(d.filter fun k=>!decide (fa k=fb k),0),?_,?_,Nat.le_trans (List.length_filter_le _ d) (by omega)⟩
   ·
    unfold z5v
    rw [p1]
    simp only [bS]
    rw [if_neg (by simp),q1]
    simp only [bS]
    rw [if_neg (by simp),zwr l m (by omega) (by omega)]
    simp only [bS]
    rw [znw _ (by rw [List.length_append]; omega)]
    simp only [bS]
    rw [d1]
    simp only [bS]
    rw [zts a b fa fb (fun k=>(ha k).1) (fun k=>(hb k).1) d (by omega)]
    rfl
   ·
    unfold z4g
    rw [h2]
    simp only [bS]
    rw [if_neg (by simp),h4]
    simp only [bS]
    rw [if_neg (by simp),p2]
    simp only [bS]
    rw [q2]
    simp only [bS]
    rw [r1]
    simp only [bS]
    rw [zrz a b fa fb (fun k=>(ha k).2) (fun k=>(hb k).2) d (by omega)]
    rfl
theorem zss (a0 a1:z00) (a2:Str) (w0:z2r a0) (w1:z2r a1) (_:a2.length≤9223372036854775807):z69 a0 a1 a2=some true:=by
 obtain ⟨b,b1,b2⟩:=zwv [a0,a1]
 unfold z69
 rw [b1]
 simp only [bS]
 cases b with
 | true=>rfl
 | false =>
  rw [if_neg (by simp)]
  by_cases hk:100<(a2.length:Int)
  ·
   rw [if_pos (by simpa using hk)]
  ·
   rw [if_neg (by simpa using hk)]
   obtain ⟨r1,p1,p2,p3⟩:=z102 w0
   obtain ⟨r2,p4,p5⟩:=z10k w0 a2
   obtain ⟨r3,p6,p7,p8⟩:=zun w0 w1
   rw [p1,p2]
   simp only [bS]
   rw [p4,p5]
   simp only [bS]
   rw [p6,p7]
   simp only [bS]
   rw [zfe _ (by omega)]
   simp only [bS]
   rw [if_pos trivial,if_pos (by simp),if_pos (by simp),if_pos (by simp),if_pos (by simp),zfe _ (by omega)]
   simp only [bS]
   rw [if_pos trivial]
   simp
end
end Go.Proofs.YthgpinfkodaefaaGreatDoor
