import Derived.Test.YthimiiphpckifaaGreatDoorVe
set_option linter.unusedSimpArgs false
set_option linter.unusedVariables false
namespace Go.Proofs.YthimiiphpckifaaGreatDoor
section
open Go
variable {g a b:z00} {n m:Nat} {l l0:List z00}
def zso (i:Nat):z0g:=⟨(i:Int),((i+1:Nat):Int)⟩
def z7d (n:Nat):List z0g:=(List.range' 0 (n - 1)).map zso++if 2<n then [⟨((n - 1:Nat):Int),0⟩] else []
def zsu {α σ:Type} (Y:α→σ→Option σ) (go:σ→Bool):List α→σ→Option (Sum σ σ)
 | [],s=>some (.inr s)
 | x::xs,s=>Y x s >>= fun t=>if !(go t) then some (.inl t) else zsu Y go xs t
theorem ztn {σ:Type} (Y:z0g→σ→Option σ) (go:σ→Bool) (k:Nat) (hk:k≤1000):∀ d i s,k - i=d→i≤k→iter (z4m Y go) ((k:Int),(i:Int),s)=zsu Y go ((List.range' i d).map zso) s
 | 0,i,s,hd,hi=>by
  refine z11 ?_
  unfold z4m
  simp only []
  rw [if_neg (by simp; omega)]
 | d+1,i,s,hd,hi=>by
  rw [show List.range' i (d+1)=i::List.range' (i+1) d from rfl,List.map_cons]
  simp only [zsu]
  rw [iter]
  have e:z4m Y go ((k:Int),(i:Int),s)=Y (zso i) s >>= fun t=>if !(go t) then some (.inl (.inl t)) else some (.inr ((k:Int),((i+1:Nat):Int),t)):=by
   conv=>lhs; unfold z4m
   simp only []
   rw [if_pos (by simp; omega),z0i (by omega)]
   rfl
  rw [e]
  cases hY:Y (zso i) s with
  | none=>rfl
  | some t =>
   simp only [bS]
   cases hg:go t with
   | false=>rfl
   | true =>
    simp only [Bool.not_true,Bool.false_eq_true,if_false,bS]
    exact ztn Y go k hk d (i+1) t (by omega) (by omega)
theorem zmf:∀ (xs ys:List z0g) (l:List z00),zcs l (xs++ys)=match zcs l xs with | .inl e=>.inl e | .inr k=>zcs k ys
 | [],ys,l=>rfl
 | x::xs,ys,l=>by
  simp only [List.cons_append,zcs]
  cases zia l x with
  | inl e=>rfl
  | inr k=>exact zmf xs ys k
theorem z15x (h:Rps l) (x:z0g):z44 x l=some (match zia l x with | .inl e=>.inl (e,l) | .inr k=>.inr k):=by
 unfold z44
 rw [zrc h]
 simp only [bS]
 cases hm:zia l x with
 | inl e=>rw [if_pos (by simpa using zs1 hm)]
 | inr k=>rfl
theorem zr5:∀ (xs:List z0g) (l:List z00),Rps l →
  (∃ e k,zcs l xs=.inl e∧zsu (zog z44) Sum.isRight xs (.inr l)=some (.inl (.inl (e,k))))∨∃ k,zcs l xs=.inr k∧zsu (zog z44) Sum.isRight xs (.inr l)=some (.inr (.inr k))
 | [],l,h=>.inr ⟨l,rfl,rfl⟩
 | x::xs,l,h=>by
  have e:zog z44 x (.inr l)=_:=z15x h x
  simp only [zsu,zcs]
  rw [e]
  cases hm:zia l x with
  | inl e'=>exact .inl ⟨e',l,rfl,rfl⟩
  | inr k=>exact zr5 xs k (zjl h hm).1
theorem znz (h:Rps l):∃ r,zb6 l=some r∧(match zcs l (z7d l.length) with | .inl e=>r.1=e | .inr k=>r=(0,k)):=by
 have hl:=h.len
 unfold zb6 zfu zb2
 simp only [bS]
 have e0:iter (z4m (zog z44) Sum.isRight) (w64 ((l.length:Int) - 1),0,(.inr l))=zsu (zog z44) Sum.isRight ((List.range' 0 (l.length - 1)).map zso) (.inr l):=by
  by_cases hz:l.length=0
  ·
   rw [hz]
   refine z11 ?_
   unfold z4m
   simp only []
   rw [if_neg (by rw [z13 (by omega) (by omega)]; simp)]
  ·
   rw [z13 (by omega) (by omega), show ((l.length:Int) - 1)=((l.length - 1:Nat):Int) by omega]
   exact ztn _ _ _ (by omega) _ 0 _ rfl (Nat.zero_le _)
 rw [e0]
 unfold z7d
 rw [zmf]
 rcases zr5 ((List.range' 0 (l.length - 1)).map zso) l h with ⟨e,k,h1,h2⟩ | ⟨k,h1,h2⟩
 ·
  rw [h1,h2]
  exact ⟨(e,k),rfl,rfl⟩
 ·
  rw [h1,h2]
  simp only [zqe]
  have Rk:=(zc6 h h1).1
  by_cases h2:2<l.length
  ·
   rw [if_pos (by simp; omega),if_pos h2,z13 (by omega) (by omega), show ((l.length:Int) - 1)=((l.length - 1:Nat):Int) by omega]
   have e:zog z44 ⟨((l.length - 1:Nat):Int),0⟩ (.inr k)=_:=z15x Rk _
   rw [e]
   simp only [zcs]
   cases zia k ⟨((l.length - 1:Nat):Int),0⟩ with
   | inl e=>exact ⟨(e,k),rfl,rfl⟩
   | inr k'=>exact ⟨(0,k'),rfl,rfl⟩
  ·
   rw [if_neg (by simp; omega),if_neg h2]
   exact ⟨(0,k),rfl,rfl⟩
def Has (l0:List z00) (w:Nat) (g:z00):Prop:=∀ x o,z1p g x=some o↔∃ i,∃ h:i<l0.length,w.testBit i=true∧z1p l0[i] x=some o
theorem Has.uni (Fa:Fit a n) (Fb:Fit b m) (hc:zdg a b) {w v:Nat} (ha:Has l0 w a) (hb:Has l0 v b):Has l0 (w ||| v) (z4d a b):=fun x o=>by
 have hu:z1p (z4d a b) x=some o↔z1p a x=some o∨z1p b x=some o:=by
  rw [zat Fa Fb]
  cases hq:z1p a x with
  | none=>simp
  | some q =>
   constructor
   ·
    intro h; exact .inl h
   ·
    rintro (h | h)
    ·
     exact h
    ·
     rw [(zmo Fa Fb).1 hc x q o hq h]; rfl
 rw [hu,ha,hb]
 constructor
 ·
  rintro (⟨i,hi,h1,h2⟩ | ⟨i,hi,h1,h2⟩)
  ·
   exact ⟨i,hi, by rw [Nat.testBit_or,h1]; rfl,h2⟩
  ·
   exact ⟨i,hi, by rw [Nat.testBit_or,h1]; simp,h2⟩
 ·
  rintro ⟨i,hi,h1,h2⟩
  rw [Nat.testBit_or,Bool.or_eq_true] at h1
  rcases h1 with h1 | h1
  ·
   exact .inl ⟨i,hi,h1,h2⟩
  ·
   exact .inr ⟨i,hi,h1,h2⟩
theorem Has.eq (Fa:Fit a n) (Fb:Fit b m) {w:Nat} (ha:Has l0 w a) (hb:Has l0 w b):a=b:=zfg Fa Fb fun x=>by
 cases hq:z1p a x with
 | none =>
  cases hr:z1p b x with
  | none=>rfl
  | some o=>rw [(ha x o).2 ((hb x o).1 hr)] at hq; cases hq
 | some o=>rw [(hb x o).2 ((ha x o).1 hq)]
def metM (ws:List Nat) (m:z0g):List Nat :=
 (ws.set m.A.toNat (ws[m.A.toNat]?.getD 0 ||| ws[m.B.toNat]?.getD 0)).set m.B.toNat (ws[m.A.toNat]?.getD 0 ||| ws[m.B.toNat]?.getD 0)
def zum:List Nat→List z0g→List Nat
 | ws,[]=>ws
 | ws,m::ms=>zum (metM ws m) ms
def zo2 (l0:List z00) (ws:List Nat) (l:List z00):Prop:=ws.length=l.length∧∀ i (h:i<ws.length) (h2:i<l.length),Has l0 ws[i] l[i]
theorem z15n (R:Rps l) {m:z0g} {k:List z00} (hm:zia l m=.inr k) {ws:List Nat} (hw:zo2 l0 ws l):zo2 l0 (metM ws m) k:=by
 have hlen:=zlw hm
 unfold zia at hm
 split at hm
 ·
  rename_i h2
  obtain ⟨hA,hB,-⟩:=h2
  obtain ⟨ia,ea⟩:=zdk hA.1 hA.2
  obtain ⟨ib,eb⟩:=zdk hB.1 hB.2
  have ma:atG l m.A∈l:=by rw [ea]; exact List.getElem_mem _
  have mb:atG l m.B∈l:=by rw [eb]; exact List.getElem_mem _
  split at hm
  ·
   cases hm
  ·
   cases hm
   have wa:m.A.toNat<ws.length:=by rw [hw.1]; exact ia
   have wb:m.B.toNat<ws.length:=by rw [hw.1]; exact ib
   have hu:Has l0 (ws[m.A.toNat]?.getD 0 ||| ws[m.B.toNat]?.getD 0) (z4d (atG l m.A) (atG l m.B)):=by
    rw [List.getElem?_eq_getElem wa,List.getElem?_eq_getElem wb]
    have h1:=hw.2 _ wa ia
    have h2:=hw.2 _ wb ib
    rw [← ea] at h1
    rw [← eb] at h2
    exact Has.uni (R.rp _ ma).fit (R.rp _ mb).fit (R.nc ma mb) h1 h2
   unfold metM
   refine ⟨by rw [hlen,← hw.1]; simp, fun i h h2=>?_⟩
   simp only [List.getElem_set]
   by_cases e1:m.B.toNat=i
   ·
    rw [if_pos e1,if_pos e1]; exact hu
   ·
    rw [if_neg e1,if_neg e1]
    by_cases e2:m.A.toNat=i
    ·
     rw [if_pos e2,if_pos e2]; exact hu
    ·
     rw [if_neg e2,if_neg e2]
     exact hw.2 i (by simpa using h) (by simpa using h2)
 ·
  cases hm
theorem zph:∀ {ms:List z0g} {l k:List z00} {ws:List Nat},Rps l→zcs l ms=.inr k→zo2 l0 ws l→zo2 l0 (zum ws ms) k
 | [],l,k,ws,R,hr,hw=>by simp only [zcs] at hr; cases hr; exact hw
 | m::ms,l,k,ws,R,hr,hw=>by
  simp only [zcs] at hr
  cases hm:zia l m with
  | inl e=>rw [hm] at hr; cases hr
  | inr k' =>
   rw [hm] at hr
   have hr:zcs k' ms=.inr k:=hr
   show zo2 l0 (zum (metM ws m) ms) k
   exact zph (zjl R hm).1 hr (z15n R hm hw)
def ws0 (n:Nat):List Nat:=(List.range n).map fun i=>2 ^ i
theorem has0 (l:List z00):zo2 l (ws0 l.length) l:=⟨by simp [ws0], fun i h h2=>by
 intro x o
 simp only [ws0,List.getElem_map,List.getElem_range]
 constructor
 ·
  intro ho; exact ⟨i,h2, by simp [Nat.testBit_two_pow],ho⟩
 ·
  rintro ⟨j,hj,h3,h4⟩
  have:i=j:=by simpa [Nat.testBit_two_pow] using h3
  subst this; exact h4⟩
theorem z18t:∀ n,n<6→zum (zum (ws0 n) (z7d n)) (z7d n)=List.replicate n (2 ^ n - 1):=by decide +kernel
theorem zo9 (R:Rps l) {k1 k2:List z00} (h1:zcs l (z7d l.length)=.inr k1) (h2:zcs k1 (z7d l.length)=.inr k2):k2.length=l.length∧∀ g∈k2,Has l (2 ^ l.length - 1) g:=by
 obtain ⟨R1,e1⟩:=zc6 R h1
 obtain ⟨R2,e2⟩:=zc6 R1 h2
 have hw:=zph R1 h2 (zph R h1 (has0 l))
 rw [z18t _ (by have:=R.len; omega)] at hw
 refine ⟨by omega, fun g hg=>?_⟩
 obtain ⟨i,hi,rfl⟩:=List.getElem_of_mem hg
 have:=hw.2 i (by rw [hw.1]; exact hi) hi
 rwa [List.getElem_replicate] at this
end
section
open Go
variable {g a b:z00} {n m:Nat} {l l0:List z00}
theorem znl (R:Rps l):∀ d i,l.length - i=d→∃ r,iter (z7s l) (i:Int)=some r∧iter (z6a l) (i:Int)=some r ∧
  ((r=.inl (false,0)∧∃ j,∃ h:j<l.length,i≤j∧l[j].IDs≠(l[0]'(by omega)).IDs)∨(r=.inr ()∧∀ j (h:j<l.length),i≤j→l[j].IDs=(l[0]'(by omega)).IDs)):=by
 have hl5:=R.len
 intro d
 induction d with
 | zero =>
  intro i hd
  refine ⟨.inr (),z11 ?_,z11 ?_,.inr ⟨rfl, fun j h hj=>by omega⟩⟩
  ·
   unfold z7s; rw [if_neg (by simp; omega)]
  ·
   unfold z6a; rw [if_neg (by simp; omega)]
 | succ d ih =>
  intro i hd
  have hi:i<l.length:=by omega
  have h0:0<l.length:=by omega
  have F:=(R.rp _ (List.getElem_mem hi)).fit
  have hF1:=F.len; have hF2:=F.ids
  have e0:idx l 0=some l[0]:=z0d (i:=0) h0
  have hP:z7s l (i:Int)=if !decide (l[i].IDs=l[0].IDs) then some (.inl (.inl (false,0))) else some (.inr ((i+1:Nat):Int)):=by
   unfold z7s
   rw [if_pos (by simpa using hi),z0d hi,e0]
   simp only [bS]
   rw [z149 _ _ (by omega),z0i (by omega)]
   simp only [bS]
  have hQ:z6a l (i:Int)=if !decide (l[i].IDs=l[0].IDs) then some (.inl (.inl (false,0))) else some (.inr ((i+1:Nat):Int)):=by
   unfold z6a
   rw [if_pos (by simpa using hi),z0d hi,e0]
   simp only [bS]
   rw [z13f _ _ (by omega),z0i (by omega)]
   simp only [bS]
  by_cases he:l[i].IDs=l[0].IDs
  ·
   rw [decide_eq_true he,if_neg (by simp)] at hP hQ
   rw [z1b hP,z1b hQ]
   obtain ⟨r,r1,r2,r3⟩:=ih (i+1) (by omega)
   refine ⟨r,r1,r2,?_⟩
   rcases r3 with ⟨h1,j,hj,h2,h3⟩ | ⟨h1,h2⟩
   ·
    exact .inl ⟨h1,j,hj, by omega,h3⟩
   ·
    refine .inr ⟨h1, fun j hj hij=>?_⟩
    by_cases e:j=i
    ·
     subst e; exact he
    ·
     exact h2 j hj (by omega)
  ·
   rw [decide_eq_false he,if_pos (by simp)] at hP hQ
   exact ⟨_,z11 hP,z11 hQ,.inl ⟨rfl,i,hi,Nat.le_refl _,he⟩⟩
def z78 (l:List z00):Prop:=∀ g∈l,∀ h∈l,g.IDs=h.IDs
instance (l:List z00):Decidable (z78 l):=by unfold z78; exact inferInstance
theorem zee (i:Nat) (hi:i≤1):z78 l↔∀ j (h:j<l.length),i≤j→l[j].IDs=(l[0]'(by omega)).IDs:=by
 constructor
 ·
  intro h j hj _
  exact h _ (List.getElem_mem hj) _ (List.getElem_mem _)
 ·
  intro h
  have all:∀ j (hj:j<l.length),l[j].IDs=(l[0]'(by omega)).IDs:=fun j hj=>by
   by_cases e:j=0
   ·
    subst e; rfl
   ·
    exact h j hj (by omega)
  intro g hg k hk
  obtain ⟨p,hp,rfl⟩:=List.getElem_of_mem hg
  obtain ⟨q,hq,rfl⟩:=List.getElem_of_mem hk
  rw [all p hp,all q hq]
theorem z13a (R:Rps l):∃ b,z5e l=some (b,0)∧z9w l=some (b,0)∧(b=true↔z78 l):=by
 obtain ⟨c1,c2⟩:=R.chk
 obtain ⟨r,r1,-,r3⟩:=znl R _ 0 rfl
 obtain ⟨q,-,q2,q3⟩:=znl R _ 1 rfl
 unfold z5e z9w
 rw [c1,c2]
 simp only [bS]
 rw [if_neg (by simp),if_neg (by simp), show (0:Int)=((0:Nat):Int) from rfl, show (1:Int)=((1:Nat):Int) from rfl,r1,q2]
 rcases r3 with ⟨rfl,j,hj,h1,h2⟩ | ⟨rfl,h1⟩ <;> rcases q3 with ⟨rfl,k,hk,h3,h4⟩ | ⟨rfl,h3⟩
 ·
  exact ⟨false,rfl,rfl, by simp; exact fun h=>h2 ((zee 0 (by omega)).1 h j hj (by omega))⟩
 ·
  exact absurd ((zee 0 (by omega)).1 ((zee 1 (by omega)).2 h3) j hj (by omega)) h2
 ·
  exact absurd (h1 k hk (by omega)) h4
 ·
  exact ⟨true,rfl,rfl, by simp; exact (zee 0 (by omega)).2 h1⟩
theorem zor (R:Rps l) (h:¬ z78 l):z5e l=some (false,0)∧z9w l=some (false,0):=by
 obtain ⟨b,b1,b2,b3⟩:=z13a R
 cases b with
 | true=>exact absurd (b3.1 rfl) h
 | false=>exact ⟨b1,b2⟩
theorem zl7 (R:Rps l) (h:z78 l):z5e l=some (true,0)∧z9w l=some (true,0):=by
 obtain ⟨b,b1,b2,b3⟩:=z13a R
 have:=b3.2 h
 subst this
 exact ⟨b1,b2⟩
def zje:Nat→List z00→Sum Int (List z00)
 | 0,l=>.inr l
 | k+1,l=>match zcs l (z7d l.length) with
  | .inl e=>.inl e
  | .inr l'=>zje k l'
theorem zqf (N:Nat) (hN:N≤5):∀ d i l,N - i=d→i≤N→Rps l→iter (z92 (N:Int)) (l,(i:Int))=some (match zje d l with | .inl e=>.inl ([],e) | .inr k=>.inr k)
 | 0,i,l,hd,hi,R=>by
  refine z11 ?_
  unfold z92
  simp only []
  rw [if_neg (by simp; omega)]
  rfl
 | d+1,i,l,hd,hi,R=>by
  obtain ⟨r,r1,r2⟩:=znz R
  have hF:z92 (N:Int) (l,(i:Int))=if r.1 != 0 then some (.inl (.inl ([],r.1))) else some (.inr (r.2,((i+1:Nat):Int))):=by
   unfold z92
   simp only []
   rw [if_pos (by simp; omega),r1,z0i (by omega)]
   simp only [bS]
  simp only [zje]
  cases hm:zcs l (z7d l.length) with
  | inl e =>
   rw [hm] at r2
   have r2:r.1=e:=r2
   rw [r2,if_pos (by simpa using zsc hm)] at hF
   rw [z11 hF]
  | inr k =>
   rw [hm] at r2
   have r2:r=(0,k):=r2
   rw [r2,if_neg (by simp)] at hF
   rw [z1b hF]
   exact zqf N hN d (i+1) k (by omega) (by omega) (zc6 R hm).1
theorem Has.same {w:Nat} {g h:z00} (Fg:Fit g n) (Fh:Fit h m) (hg:Has l0 w g) (hh:Has l0 w h):g.IDs=h.IDs:=by rw [Has.eq Fg Fh hg hh]
theorem zma (R:Rps l) {k1 k2:List z00} (h1:zcs l (z7d l.length)=.inr k1) (h2:zcs k1 (z7d l.length)=.inr k2):z78 k2:=by
 obtain ⟨R1,e1⟩:=zc6 R h1
 obtain ⟨R2,e2⟩:=zc6 R1 h2
 obtain ⟨-,hall⟩:=zo9 R h1 h2
 intro g hg h hh
 exact Has.same (R2.rp g hg).fit (R2.rp h hh).fit (hall g hg) (hall h hh)
def zpb (l:List z00) (n:Nat):Sum (Int × Int) (List z00) :=
 if z78 l then .inl ((n:Int),0) else match zcs l (z7d l.length) with
  | .inl e=>.inl (0,e)
  | .inr k=>.inr k
theorem zj9 (R:Rps l) {n:Nat} (hn:n<3):zbq (l,(n:Int))=some (match zpb l n with | .inl r=>.inl (.inl r) | .inr k=>.inr (k,((n+1:Nat):Int))):=by
 unfold zbq zpb
 simp only []
 rw [if_pos (by simp; omega)]
 by_cases hs:z78 l
 ·
  rw [(zl7 R hs).1,if_pos hs]
  rfl
 ·
  obtain ⟨r,r1,r2⟩:=znz R
  rw [(zor R hs).1,if_neg hs,r1,z0i (by omega)]
  simp only [bS]
  cases hm:zcs l (z7d l.length) with
  | inl e =>
   rw [hm] at r2
   have r2:r.1=e:=r2
   rw [r2]
   rw [if_neg (by simp)]
   simp only [bS,Bool.false_eq_true,if_false]
   rw [if_pos (by simpa using zsc hm)]
  | inr k =>
   rw [hm] at r2
   have r2:r=(0,k):=r2
   rw [r2]
   rfl
theorem zk7 (l:List z00):∀ (d i:Nat),11 - i=d→i≤11→∃ r,iter (z4n l) (i:Int)=some r∧(r=.inl true∨(r=.inr ()∧∀ j (h:j<l.length),i≤j→j≤10→zqz l[j]))
 | 0,i,hd,hi=>by
  have:i=11:=by omega
  subst this
  refine ⟨.inr (),z11 ?_,.inr ⟨rfl, fun j hj h1 h2=>by omega⟩⟩
  unfold z4n
  split
  ·
   rw [if_neg (by simp)]
  ·
   rfl
 | d+1,i,hd,hi=>by
  by_cases hl:i<l.length
  ·
   obtain ⟨b,b1,b2⟩:=z10o l[i]
   have hF:z4n l (i:Int)=if b then some (.inl (.inl true)) else some (.inr ((i+1:Nat):Int)):=by
    unfold z4n
    rw [if_pos (by simpa using hl),if_pos (by simp; omega),z0d hl,z0i (by omega)]
    simp only [bS]
    rw [b1]
    simp only [bS]
   cases b with
   | true=>exact ⟨_,z11 hF,.inl rfl⟩
   | false =>
    rw [if_neg (by simp)] at hF
    rw [z1b hF]
    obtain ⟨r,r1,r2⟩:=zk7 l d (i+1) (by omega) (by omega)
    refine ⟨r,r1,r2.imp id fun h=>⟨h.1, fun j hj h1 h2=>?_⟩⟩
    by_cases e:j=i
    ·
     subst e; exact b2 rfl
    ·
     exact h.2 j hj (by omega) h2
  ·
   refine ⟨.inr (),z11 ?_,.inr ⟨rfl, fun j hj h1 h2=>by omega⟩⟩
   unfold z4n
   rw [if_neg (by simp; omega)]
theorem z151 (l:List z00):∃ b,z9j l=some b∧(b=false→l.length≤10∧∀ g∈l,zqz g):=by
 obtain ⟨r,r1,r2⟩:=zk7 l _ 0 rfl (by omega)
 unfold z9j
 rw [show (0:Int)=((0:Nat):Int) from rfl,r1]
 rcases r2 with rfl | ⟨rfl,h⟩
 ·
  exact ⟨true,rfl, by simp⟩
 ·
  refine ⟨_,rfl, fun hb=>?_⟩
  have hl:l.length≤10:=by simp at hb; omega
  exact ⟨hl, fun g hg=>by obtain ⟨j,hj,rfl⟩:=List.getElem_of_mem hg; exact h j hj (Nat.zero_le _) (by omega)⟩
theorem zyp (hl:l.length≤1000) (hw:∀ g∈l,z4s g) (hs:∀ g∈l,zqz g):∃ c,z33 l=some c∧z4b l=some c∧(c=0→Rps l):=by
 obtain ⟨c,c1,c2,c3⟩:=zyj hl hw fun g hg o ho=>by
  obtain ⟨i,hi,rfl⟩:=List.getElem_of_mem ho
  exact (hs g hg).op i hi
 exact ⟨c,c1,c2, fun h=>⟨(c3.1 h).1,(c3.1 h).2.1,(c3.1 h).2.2⟩⟩
end
section
open Go
variable {g:z00}
theorem zzs {α:Type} {l:List α} {n:Nat} (h:n<l.length):l.take (n+1)=l.take n++[l[n]]:=by
 rw [List.take_add_one,List.getElem?_eq_getElem h]; rfl
theorem zpk {κ β:Type} [DecidableEq κ] (k:κ) (v:β):∀ m:List (κ × β),(zbh m k v).map Prod.fst=if k∈m.map Prod.fst then m.map Prod.fst else m.map Prod.fst++[k]
 | []=>rfl
 | p::m=>by
  unfold zbh
  by_cases h:k=p.1
  ·
   rw [if_pos h,if_pos (by simp [h])]; rfl
  ·
   rw [if_neg h,List.map_cons,zpk k v m]
   by_cases h2:k∈m.map Prod.fst
   ·
    rw [if_pos h2,if_pos (by rw [List.map_cons]; exact List.mem_cons_of_mem _ h2),List.map_cons]
   ·
    rw [if_neg h2,if_neg (by rw [List.map_cons]; exact fun h3=>(List.mem_cons.1 h3).elim h h2),List.map_cons]; rfl
theorem zwc {κ β:Type} [DecidableEq κ] {k:κ} {v:β} {m:List (κ × β)} (h:(m.map Prod.fst).Nodup):((zbh m k v).map Prod.fst).Nodup:=by
 rw [zpk]
 by_cases h2:k∈m.map Prod.fst
 ·
  rw [if_pos h2]; exact h
 ·
  rw [if_neg h2,List.nodup_append]
  exact ⟨h, by simp, fun a ha b hb e=>by rw [List.mem_singleton] at hb; subst hb; subst e; exact h2 ha⟩
theorem z12n {κ β:Type} [DecidableEq κ] {k:κ} {v:β} {m:List (κ × β)}:(zbh m k v).length≤m.length+1:=by
 have h:=congrArg List.length (zpk k v m)
 rw [List.length_map] at h
 rw [h]
 split <;> simp
end
section
open Go
variable {g a b:z00} {n m:Nat} {l:List z00}
def op0:z04:=⟨0,[],0,(⟨0,[],(⟨0,0,0,[]⟩:z05)⟩:z0e),(⟨0,0⟩:z0a)⟩
def zmz (l:List z00) (x:ID):Nat:=(l.filter fun g=>decide (x∈g.IDs)).length
theorem zxt (l:List z00) (g:z00) (x:ID):zmz (l++[g]) x=zmz l x+if x∈g.IDs then 1 else 0:=by
 unfold zmz
 rw [List.filter_append,List.length_append,List.filter_cons]
 by_cases h:x∈g.IDs
 ·
  simp [h]
 ·
  simp [h]
theorem z13x (l:List z00) (x:ID):zmz l x≤l.length:=List.length_filter_le _ _
def cntO (n:Nat):Option Int:=if n=0 then none else some (n:Int)
theorem z10n (n:Nat):(cntO n).getD 0=(n:Int):=by
 unfold cntO
 by_cases h:n=0
 ·
  rw [if_pos h,h]; rfl
 ·
  rw [if_neg h]; rfl
theorem zxn (n:Nat):cntO (n+1)=some ((n+1:Nat):Int):=if_neg (by omega)
theorem zmk {κ β:Type} [DecidableEq κ] {x:κ} {v:β}:∀ {m:List (κ × β)},(m.map Prod.fst).Nodup→(x,v)∈m→z62 m x=some v
 | p::m,hn,h=>by
  rw [List.map_cons,List.nodup_cons] at hn
  rcases List.mem_cons.1 h with e | h
  ·
   subst e
   exact if_pos rfl
  ·
   have hx:x≠p.1:=fun e=>hn.1 (by rw [← e]; exact List.mem_map.2 ⟨_,h,rfl⟩)
   have e:z62 (p::m) x=z62 m x:=if_neg hx
   rw [e,zmk hn.2 h]
theorem zmu {κ β:Type} [DecidableEq κ] {x:κ} {v:β}:∀ {m:List (κ × β)},z62 m x=some v→(x,v)∈m
 | [],h=>by simp [z62] at h
 | p::m,h=>by
  by_cases hx:x=p.1
  ·
   have e:z62 (p::m) x=some p.2:=if_pos hx
   rw [e] at h
   cases h
   subst hx
   exact List.mem_cons_self
  ·
   have e:z62 (p::m) x=z62 m x:=if_neg hx
   rw [e] at h
   exact List.mem_cons_of_mem _ (zmu h)
theorem z16i (F:Fit g 60) (M:List (ID × Int)) (O:List (ID × z04)) (c:ID→Nat) (P:ID→Option z04) (hc:∀ x,c x≤1000) (hn:(M.map Prod.fst).Nodup) (hM:∀ x,z62 M x=cntO (c x)) (hO:∀ x,z62 O x=P x) :
  ∃ s,iter (z1q g) (M,O,0)=some s∧(s.1.map Prod.fst).Nodup∧s.1.length≤M.length+60∧(∀ x,z62 s.1 x=cntO (c x+if x∈g.IDs then 1 else 0))∧∀ x,z62 s.2 x=(z1p g x).or (P x):=by
 have hl:=F.len; have hi:=F.ids
 refine zbs (F:=z1q g) g.IDs.length (fun j s=>s.2.2=(j:Int)∧(s.1.map Prod.fst).Nodup∧s.1.length≤M.length+j∧(∀ x,z62 s.1 x=cntO (c x+if x∈g.IDs.take j then 1 else 0))∧∀ x,z62 s.2.1 x=(if x∈g.IDs.take j then z1p g x else none).or (P x)) _ (fun j s hj=>?_) (fun s=>?_) (M,O,0) 0 (Nat.zero_le _) ⟨rfl,hn,Nat.le_refl _, fun x=>by simp [hM], fun x=>by simp [hO]⟩
 ·
  obtain ⟨M1,O1,j'⟩:=s
  rintro ⟨e1,e2,e3,e4,e5⟩
  simp only at e1 e2 e3 e4 e5
  subst e1
  have hjo:j<g.Ops.length:=by omega
  have hnt:=zkb F.ri hj
  have hx:=e4 g.IDs[j]
  rw [if_neg hnt,Nat.add_zero] at hx
  have hcj:=hc g.IDs[j]
  have hmem:∀ x,x∈g.IDs.take (j+1)↔x∈g.IDs.take j∨x=g.IDs[j]:=fun x=>by rw [zzs hj,List.mem_append,List.mem_singleton]
  have hstay:∀ x,x≠g.IDs[j]→(x∈g.IDs.take (j+1))=(x∈g.IDs.take j):=fun x e=>propext ⟨fun h=>((hmem x).1 h).resolve_right e, fun h=>(hmem x).2 (.inl h)⟩
  unfold z1q
  rw [if_pos (by simpa using hj)]
  simp only [z0d hj,z0d hjo,bS,z0i (n:=j) (by omega),hx,z10n,z0i (n:=c g.IDs[j]) (by omega)]
  refine ⟨_,rfl,rfl,zwc e2,Nat.le_trans z12n (by omega), fun x=>?_, fun x=>?_⟩
  ·
   show z62 (zbh M1 g.IDs[j] ((c g.IDs[j]+1:Nat):Int)) x=_
   rw [zi2,e4]
   by_cases e:x=g.IDs[j]
   ·
    rw [if_pos e,if_pos ((hmem x).2 (.inr e)),e,zxn]
   ·
    rw [if_neg e]
    simp only [hstay x e]
  ·
   show z62 (zbh O1 g.IDs[j] g.Ops[j]) x=_
   rw [zi2,e5]
   by_cases e:x=g.IDs[j]
   ·
    rw [if_pos e,if_pos ((hmem x).2 (.inr e)),e,z7f F hjo]; rfl
   ·
    rw [if_neg e]
    simp only [hstay x e]
 ·
  rintro ⟨e1,e2,e3,e4,e5⟩
  unfold z1q
  rw [if_neg (by rw [e1]; simp)]
  refine ⟨_,rfl,e2, by simp only; omega, fun x=>by rw [e4,List.take_length], fun x=>?_⟩
  rw [e5,List.take_length]
  by_cases h:x∈g.IDs
  ·
   rw [if_pos h]
  ·
   rw [if_neg h,zck h]
theorem z17o (R:Rps l):∃ s,iter (z1r l) ([],[],0)=some s∧(s.1.map Prod.fst).Nodup∧s.1.length≤300∧(∀ x,z62 s.1 x=cntO (zmz l x))∧∀ x,z62 s.2 x=z8j l x:=by
 have hl:=R.len
 refine zbs (F:=z1r l) l.length (fun i s=>s.2.2=(i:Int)∧(s.1.map Prod.fst).Nodup∧s.1.length≤60 * i∧(∀ x,z62 s.1 x=cntO (zmz (l.take i) x))∧∀ x,z62 s.2.1 x=z8j (l.take i) x) _ (fun i s hi=>?_) (fun s=>?_) ([],[],0) 0 (Nat.zero_le _) ⟨rfl,List.Pairwise.nil,Nat.le_refl _, fun x=>rfl, fun x=>rfl⟩
 ·
  obtain ⟨M,O,i'⟩:=s
  rintro ⟨e1,e2,e3,e4,e5⟩
  simp only at e1 e2 e3 e4 e5
  subst e1
  have Rg:=R.rp l[i] (List.getElem_mem hi)
  obtain ⟨s,s1,s2,s3,s4,s5⟩:=z16i Rg.fit M O _ _ (fun x=>by have:=z13x (l.take i) x; rw [List.length_take] at this; omega) e2 e4 e5
  unfold z1r
  rw [if_pos (by simpa using hi)]
  simp only [z0d hi,bS]
  rw [s1]
  simp only [bS,z0i (n:=i) (by omega)]
  refine ⟨_,rfl,rfl,s2, by show s.1.length≤_; omega, fun x=>?_, fun x=>?_⟩
  ·
   show z62 s.1 x=_
   rw [s4,zzs hi,zxt]
  ·
   show z62 s.2 x=_
   rw [s5,zzs hi,zjk]
   cases h1:z8j (l.take i) x with
   | none=>cases z1p l[i] x <;> rfl
   | some o =>
    cases h2:z1p l[i] x with
    | none=>rfl
    | some q =>
     obtain ⟨g',h3,h4⟩:=z9p h1
     have:=R.ag _ (List.mem_of_mem_take h3) _ (List.getElem_mem hi) x o q h4 h2
     rw [this]
     first | done | rfl
 ·
  rintro ⟨e1,e2,e3,e4,e5⟩
  unfold z1r
  rw [if_neg (by rw [e1]; simp)]
  refine ⟨_,rfl,e2, by simp only; omega, fun x=>by rw [e4,List.take_length], fun x=>by rw [e5,List.take_length]⟩
theorem zot (F:ID × Int→List ID→Option (List ID)) (en:Int→Bool) (hF:∀ e acc,acc.length≤1000→F e acc=some (if en e.2 then acc++[e.1] else acc)):∀ (M:List (ID × Int)) (acc:List ID),acc.length+M.length≤1000→zik F M acc=some (acc++(M.filter fun e=>en e.2).map Prod.fst)
 | [],acc,_=>by simp [zik]
 | e::M,acc,h=>by
  rw [List.length_cons] at h
  unfold zik
  rw [hF e acc (by omega)]
  simp only [bS]
  cases he:en e.2 with
  | true =>
   rw [if_pos rfl,zot F en hF M _ (by rw [List.length_append,List.length_singleton]; omega),List.filter_cons_of_pos (by rw [he])]
   simp
  | false =>
   rw [if_neg (by simp),zot F en hF M _ (by omega),List.filter_cons_of_neg (by rw [he]; simp)]
theorem z17d (s4:List (ID × Int) × List (ID × z04)) (K:List ID) (hK:K.length≤1000) (hO:∀ x∈K,((z62 s4.2 x).getD op0).Preds.length≤100):iter (z1s s4 K) ([],0)=some (K.map fun x=>(z62 s4.2 x).getD op0):=by
 refine z1u K.length (fun i=>((K.take i).map fun x=>(z62 s4.2 x).getD op0,(i:Int))) (fun i hi=>?_) ?_
 ·
  unfold z1s
  rw [if_pos (by simpa using hi)]
  simp only [z0d hi,bS,z0i (n:=i) (by omega)]
  show (z0m (((z62 s4.2 K[i]).getD op0).Preds) >>= fun r54=>_)=_
  rw [zll _ (hO _ (List.getElem_mem hi))]
  simp only [bS]
  rw [z1w (by simp only [List.length_map,List.length_take,List.length_singleton]; omega),zzs hi,List.map_append]
  rfl
 ·
  unfold z1s
  rw [if_neg (by simp),List.take_length]
theorem zxa (S:List ID) (f:ID→z04) (x:ID):z1p ⟨S,S.map f⟩ x=if x∈S then some (f x) else none:=by
 unfold z1p
 by_cases h:x∈S
 ·
  have hi:=List.idxOf_lt_length_of_mem h
  rw [if_pos h,if_pos h]
  show (S.map f)[S.idxOf x]? = _
  rw [List.getElem?_map,List.getElem?_eq_getElem hi]
  simp
 ·
  rw [if_neg h,if_neg h]
theorem z12l {K:List ID} (h:K.Nodup):z8r (zi5 K)=true:=by
 rw [ze4]
 have h1:=zfq K
 have h2:(zi5 K).Nodup:=(List.mergeSort_perm K _).nodup_iff.2 h
 exact (h1.and h2).imp fun {a b} hab=>by
  have:kd a≠kd b:=fun e=>hab.2 (znr e)
  have:=hab.1
  omega
theorem zvx (R:Rps l) {s:List (ID × Int) × List (ID × z04)} (hn:(s.1.map Prod.fst).Nodup) (hl:s.1.length≤300) (hM:∀ x,z62 s.1 x=cntO (zmz l x)) (hO:∀ x,z62 s.2 x=z8j l x) (en:Int→Bool) {K:List ID} (hK:K=(s.1.filter fun e=>en e.2).map Prod.fst) :
  ∃ W,(zsl K >>= fun r44=>iter (z1s s r44) ([],0) >>= fun s46=>some (⟨r44,s46⟩:z00))=some W∧Fit W 300∧∀ x,z1p W x=if zmz l x≠0∧en (zmz l x:Int)=true then z8j l x else none:=by
 have hKl:K.length≤300:=by
  have:=List.length_filter_le (fun e:ID × Int=>en e.2) s.1
  rw [hK,List.length_map]; omega
 have hKn:K.Nodup:=by
  rw [hK]
  exact List.Nodup.sublist (List.Sublist.map _ List.filter_sublist) hn
 have hKm:∀ x,x∈K↔zmz l x≠0∧en (zmz l x:Int)=true:=fun x=>by
  rw [hK,List.mem_map]
  constructor
  ·
   rintro ⟨⟨y,v⟩,h1,rfl⟩
   rw [List.mem_filter] at h1
   have h2:=zmk hn h1.1
   rw [hM] at h2
   unfold cntO at h2
   split at h2
   ·
    cases h2
   ·
    rename_i h3
    cases h2
    exact ⟨h3,h1.2⟩
  ·
   rintro ⟨h1,h2⟩
   have h3:z62 s.1 x=some (zmz l x:Int):=by rw [hM]; exact if_neg h1
   exact ⟨(x,(zmz l x:Int)),List.mem_filter.2 ⟨zmu h3,h2⟩,rfl⟩
 have hsome:∀ x,zmz l x≠0→∃ o,z8j l x=some o:=fun x h=>by
  obtain ⟨g,hg⟩:=List.exists_mem_of_ne_nil _ (fun e=>h (by unfold zmz; rw [e]; rfl):(l.filter fun g=>decide (x∈g.IDs))≠[])
  rw [List.mem_filter] at hg
  obtain ⟨o,ho⟩:=z6k (R.rp g hg.1).fit (by simpa using hg.2)
  exact ⟨o,zbf R.ag hg.1 ho⟩
 have hop:∀ x∈zi5 K,((z62 s.2 x).getD op0).Preds.length≤20∧((z62 s.2 x).getD op0).Act.Key.length≤100∧((z62 s.2 x).getD op0).Act.Value.Text.length≤100:=fun x hx=>by
  rw [zqb,hKm] at hx
  obtain ⟨o,ho⟩:=hsome x hx.1
  rw [hO,ho]
  obtain ⟨g,h1,h2⟩:=z9p ho
  exact (R.rp g h1).op _ (z6v h2).2
 refine ⟨⟨zi5 K,(zi5 K).map fun x=>(z62 s.2 x).getD op0⟩,?_,⟨by simp, by simp only [List.length_map,zlv]; omega,z12l hKn, fun o ho=>?_⟩, fun x=>?_⟩
 ·
  unfold zsl
  rw [z3j (by omega)]
  simp only [bS]
  rw [z17d s (zi5 K) (by rw [zlv]; omega) fun x hx=>by have:=(hop x hx).1; omega]
  rfl
 ·
  obtain ⟨x,hx,rfl⟩:=List.mem_map.1 ho
  exact hop x hx
 ·
  have hm:x∈zi5 K↔zmz l x≠0∧en (zmz l x:Int)=true:=by rw [zqb,hKm]
  rw [zxa,hO]
  by_cases h:zmz l x≠0∧en (zmz l x:Int)=true
  ·
   rw [if_pos (hm.2 h),if_pos h]
   obtain ⟨o,ho⟩:=hsome x h.1
   rw [ho]; rfl
  ·
   rw [if_neg fun k=>h (hm.1 k),if_neg h]
theorem z12o (R:Rps l) {x:ID} (h:zmz l x=0):z8j l x=none:=by
 cases hq:z8j l x with
 | none=>rfl
 | some o =>
  obtain ⟨g,h1,h2⟩:=z9p hq
  have:g∈l.filter fun g=>decide (x∈g.IDs):=List.mem_filter.2 ⟨h1, by simpa using (z6v h2).1⟩
  unfold zmz at h
  rw [List.length_eq_zero_iff] at h
  rw [h] at this; cases this
theorem zvw (R:Rps l):∃ W,z2x l=some W∧Fit W 300∧∀ x,z1p W x=z8j l x:=by
 obtain ⟨s,s1,s2,s3,s4,s5⟩:=z17o R
 obtain ⟨W,w1,w2,w3⟩:=zvx R s2 s3 s4 s5 (fun _=>true) rfl
 refine ⟨W,?_,w2, fun x=>?_⟩
 ·
  unfold z2x
  rw [s1]
  simp only [bS]
  rw [zot _ (fun _=>true) (fun e acc h=>by
   unfold z3m zbr
   simp only [bS,if_true]
   rw [z1w (by rw [List.length_singleton]; omega)]
   rfl) s.1 [] (by simp; omega)]
  simp only [bS,List.nil_append]
  exact w1
 ·
  rw [w3]
  by_cases h:zmz l x=0
  ·
   rw [if_neg (by simp [h]),z12o R h]
  ·
   rw [if_pos ⟨h,rfl⟩]
end
section
open Go
variable {g a b:z00} {n m:Nat} {l:List z00} {mk:Nat→Bool}
def z54 (l:List z00):z00:=l.foldl z4d ⟨[],[]⟩
theorem z14f:Fit (⟨[],[]⟩:z00) 0:=⟨rfl,Nat.le_refl _,rfl, fun o ho=>by cases ho⟩
theorem zw4 (l:List z00) (g:z00):z54 (l++[g])=z4d (z54 l) g:=by unfold z54; rw [List.foldl_append]; rfl
theorem zjy (R:Rps l):∀ i,i≤l.length→Fit (z54 (l.take i)) (60 * i)∧∀ x,z1p (z54 (l.take i)) x=z8j (l.take i) x
 | 0,_=>⟨z14f, fun x=>rfl⟩
 | i+1,hi=>by
  obtain ⟨h1,h2⟩:=zjy R i (by omega)
  have F:=(R.rp _ (List.getElem_mem (show i<l.length by omega))).fit
  rw [zzs (by omega),zw4]
  refine ⟨?_, fun x=>?_⟩
  ·
   have:=zcq h1 F
   rw [Nat.mul_succ]; exact this
  ·
   rw [zat h1 F,h2,zjk]
theorem zbe (R:Rps l):Fit (z54 l) 300:=by
 have h:=(zjy R l.length (Nat.le_refl _)).1
 rw [List.take_length] at h
 have:=R.len
 exact ⟨h.ids,Nat.le_trans h.len (by omega),h.ri,h.op⟩
theorem zar (R:Rps l) (x:ID):z1p (z54 l) x=z8j l x:=by
 have h:=(zjy R l.length (Nat.le_refl _)).2 x
 rwa [List.take_length] at h
end
section
open Go
variable {g a b:z00} {n m:Nat} {l:List z00} {mk:Nat→Bool}
theorem Fit.le60 (F:Fit g n) (h:g.Ops.length≤60):Fit g 60:=⟨F.ids,h,F.ri,F.op⟩
theorem z14s {W g:z00} (F:Fit W n) (G:Fit g m) (h:∀ x o,z1p W x=some o→z1p g x=some o):W.Ops.length≤g.Ops.length:=by
 rw [← F.ids,← G.ids]
 refine zed _ _ (zdn F.ri) fun x hx=>?_
 obtain ⟨o,ho⟩:=z6k F hx
 exact (z6v (h x o ho)).1
end
section
open Go
variable {g a b:z00} {n:Nat} {l k:List z00} {m:z0g} {x:ID} {o:z04}
theorem optE {α:Type} {p q:Option α} (h:∀ o,p=some o↔q=some o):p=q:=by
 cases p with
 | none =>
  cases q with
  | none=>rfl
  | some o=>exact absurd ((h o).2 rfl) (by simp)
 | some o=>exact ((h o).1 rfl).symm
theorem zpa (R:Rps l):z8j l x=some o↔∃ h∈l,z1p h x=some o :=
 ⟨fun h=>z9p h, fun ⟨_,h1,h2⟩=>zbf R.ag h1 h2⟩
def zr7 (l:List z00):z00 × Int:=if 60<(z54 l).Ops.length then (⟨[],[]⟩,4) else (z54 l,0)
theorem zx5 (R:Rps l):zb1 l=some (zr7 l):=by
 obtain ⟨W,w1,w2,w3⟩:=zvw R
 have e:W=z54 l:=zfg w2 (zbe R) fun x=>by rw [w3,zar R]
 subst e
 unfold zb1
 rw [R.chk.1]
 simp only [bS]
 rw [if_neg (by simp),w1]
 simp only [bS]
 by_cases h:60<(z54 l).Ops.length
 ·
  have e:zr7 l=(⟨[],[]⟩,4):=if_pos h
  rw [e,if_pos (by simp; omega)]
 ·
  have e:zr7 l=(z54 l,0):=if_neg h
  rw [e,if_neg (by simp; omega)]
theorem z143 (hm:zia l m=.inr k):Two l.length m:=by
 unfold zia at hm
 split at hm
 ·
  assumption
 ·
  cases hm
theorem z13q (R:Rps l) (hw:(z54 l).Ops.length≤60) (h2:Two l.length m):∃ k,zia l m=.inr k:=by
 obtain ⟨ia,ea⟩:=zdk h2.1.1 h2.1.2
 obtain ⟨ib,eb⟩:=zdk h2.2.1.1 h2.2.1.2
 have ma:atG l m.A∈l:=by rw [ea]; exact List.getElem_mem _
 have mb:atG l m.B∈l:=by rw [eb]; exact List.getElem_mem _
 have hle:(z4d (atG l m.A) (atG l m.B)).Ops.length≤(z54 l).Ops.length:=z14s (zcq (R.rp _ ma).fit (R.rp _ mb).fit) (zbe R) fun x o h=>by rw [zar R]; exact zuu R ma mb h
 unfold zia
 rw [if_pos h2,if_neg (by omega)]
 exact ⟨_,rfl⟩
theorem ztz (R:Rps l) (hm:zia l m=.inr k) {i:Nat} (hi:i<l.length) (hi2:i<k.length) (h:z1p l[i] x=some o):z1p k[i] x=some o:=by
 have h2:=z143 hm
 obtain ⟨ia,ea⟩:=zdk h2.1.1 h2.1.2
 obtain ⟨ib,eb⟩:=zdk h2.2.1.1 h2.2.1.2
 have ma:atG l m.A∈l:=by rw [ea]; exact List.getElem_mem _
 have mb:atG l m.B∈l:=by rw [eb]; exact List.getElem_mem _
 unfold zia at hm
 rw [if_pos h2] at hm
 split at hm
 ·
  cases hm
 ·
  have hk:k=(l.set m.A.toNat (z4d (atG l m.A) (atG l m.B))).set m.B.toNat (z4d (atG l m.A) (atG l m.B)):=by
   injection hm with hm; exact hm.symm
  subst hk
  have hu:∀ g,g=atG l m.A∨g=atG l m.B→z1p g x=some o→z1p (z4d (atG l m.A) (atG l m.B)) x=some o:=fun g hg ho=>by
   have hgl:g∈l:=by
    rcases hg with rfl | rfl
    ·
     exact ma
    ·
     exact mb
   rw [zat (R.rp _ ma).fit (R.rp _ mb).fit]
   cases hq:z1p (atG l m.A) x with
   | some q =>
    rw [R.ag _ ma g hgl x q o hq ho]; rfl
   | none =>
    rcases hg with rfl | rfl
    ·
     rw [hq] at ho; cases ho
    ·
     rw [ho]; rfl
  simp only [List.getElem_set]
  by_cases e1:m.B.toNat=i
  ·
   rw [if_pos e1]
   subst e1
   exact hu _ (.inr rfl) (by rw [eb]; exact h)
  ·
   rw [if_neg e1]
   by_cases e2:m.A.toNat=i
   ·
    rw [if_pos e2]
    subst e2
    exact hu _ (.inl rfl) (by rw [ea]; exact h)
   ·
    rw [if_neg e2]; exact h
theorem z14i (R:Rps l) (hm:zia l m=.inr k) (x:ID):z8j k x=z8j l x:=by
 obtain ⟨Rk,hs⟩:=zjl R hm
 have hlen:=zlw hm
 refine optE fun o=>?_
 rw [zpa Rk,zpa R]
 constructor
 ·
  rintro ⟨g,h1,h2⟩
  exact (zpa R).1 (hs g h1 x o h2)
 ·
  rintro ⟨g,h1,h2⟩
  obtain ⟨i,hi,rfl⟩:=List.getElem_of_mem h1
  have hi2:i<k.length:=by omega
  exact ⟨k[i],List.getElem_mem hi2,ztz R hm hi hi2 h2⟩
theorem zjq (R:Rps l) (Rk:Rps k) (h:∀ x,z8j k x=z8j l x):z54 k=z54 l:=zfg (zbe Rk) (zbe R) fun x=>by rw [zar Rk,zar R,h]
theorem zsy:∀ (ms:List z0g) (l:List z00),Rps l→(z54 l).Ops.length≤60→(∀ m∈ms,Two l.length m)→∃ k,zcs l ms=.inr k∧Rps k∧k.length=l.length∧(∀ x,z8j k x=z8j l x)∧∀ i (h:i<l.length) (h2:i<k.length) x o,z1p l[i] x=some o→z1p k[i] x=some o
 | [],l,R,hw,h2=>⟨l,rfl,R,rfl, fun x=>rfl, fun i _ _ x o h=>h⟩
 | m::ms,l,R,hw,h2=>by
  obtain ⟨k1,e1⟩:=z13q R hw (h2 m (by simp))
  have R1:=(zjl R e1).1
  have l1:=zlw e1
  have a1:=z14i R e1
  have w1:=zjq R R1 a1
  obtain ⟨k,p1,p2,p3,p4,p5⟩:=zsy ms k1 R1 (by rw [w1]; exact hw) fun m' hm'=>by rw [l1]; exact h2 m' (by simp [hm'])
  refine ⟨k,?_,p2, by omega, fun x=>by rw [p4,a1], fun i h h2 x o ho=>p5 i (by omega) h2 x o (ztz R e1 h (by omega) ho)⟩
  simp only [zcs]
  rw [e1]
  exact p1
theorem zi4 (n:Nat):∀ m∈z7d n,Two n m:=fun m hm=>by
 unfold z7d at hm
 rcases List.mem_append.1 hm with hm | hm
 ·
  obtain ⟨i,hi,rfl⟩:=List.mem_map.1 hm
  rw [List.mem_range'_1] at hi
  unfold Two zso
  simp only
  omega
 ·
  split at hm
  ·
   rw [List.mem_singleton] at hm
   subst hm
   unfold Two
   simp only
   omega
  ·
   cases hm
theorem zm3 (R:Rps l) (hw:(z54 l).Ops.length≤60):∃ k,zcs l (z7d l.length)=.inr k∧Rps k∧k.length=l.length∧z54 k=z54 l:=by
 obtain ⟨k,p1,p2,p3,p4,-⟩:=zsy _ l R hw (zi4 _)
 exact ⟨k,p1,p2,p3,zjq R p2 p4⟩
theorem zm0 (R:Rps l) (N:Nat) (hN:N≤5) (h:zje N l=.inr k):z4k l (N:Int)=some (k,0):=by
 unfold z4k
 rw [R.chk.1]
 simp only [bS]
 have d1:¬ (decide ((N:Int)<0)=true):=by simp
 have d2:¬ (decide (5<(N:Int))=true):=by simp; omega
 rw [if_neg (by simp),if_neg d1,if_neg d2,zpf l (by have:=R.len; omega) R.f900]
 simp only [bS]
 rw [show (0:Int)=((0:Nat):Int) from rfl,zqf N hN N 0 l rfl (Nat.zero_le _) R,h]
 rfl
theorem zrd (R:Rps l) {k1 k2:List z00} (h1:zcs l (z7d l.length)=.inr k1) (h2:zcs k1 (z7d k1.length)=.inr k2):z7e l=some (if z78 l then (0,0) else if z78 k1 then (1,0) else (2,0)):=by
 obtain ⟨R1,e1⟩:=zc6 R h1
 obtain ⟨R2,e2⟩:=zc6 R1 h2
 unfold z7e
 rw [R.chk.1]
 simp only [bS]
 rw [if_neg (by simp),zpf l (by have:=R.len; omega) R.f900]
 simp only [bS]
 have p0:=zj9 R (n:=0) (by omega)
 have p1:=zj9 R1 (n:=1) (by omega)
 have p2:=zj9 R2 (n:=2) (by omega)
 rw [show (0:Int)=((0:Nat):Int) from rfl]
 by_cases s0:z78 l
 ·
  have e:zpb l 0=.inl (((0:Nat):Int),0):=if_pos s0
  rw [e] at p0
  rw [z11 p0,if_pos s0]
  rfl
 ·
  have e:zpb l 0=.inr k1:=by unfold zpb; rw [if_neg s0,h1]
  rw [e] at p0
  rw [z1b p0,if_neg s0]
  by_cases s1:z78 k1
  ·
   have e:zpb k1 1=.inl (((1:Nat):Int),0):=if_pos s1
   rw [e] at p1
   rw [z11 p1,if_pos s1]
   rfl
  ·
   have e:zpb k1 1=.inr k2:=by unfold zpb; rw [if_neg s1,h2]
   rw [e] at p1
   rw [z1b p1,if_neg s1]
   have hs:=zma R h1 (by rw [← e1]; exact h2)
   have e:zpb k2 2=.inl (((2:Nat):Int),0):=if_pos hs
   rw [e] at p2
   rw [z11 p2]
   rfl
theorem zwv (R:Rps l) {k1 k2:List z00} (h1:zcs l (z7d l.length)=.inr k1) (h2:zcs k1 (z7d l.length)=.inr k2) (hg:g∈k2):g=z54 l:=by
 obtain ⟨R1,e1⟩:=zc6 R h1
 obtain ⟨R2,-⟩:=zc6 R1 h2
 have H:=(zo9 R h1 h2).2 g hg
 refine zfg (R2.rp g hg).fit (zbe R) fun x=>optE fun o=>?_
 rw [zar R,zpa R,H]
 constructor
 ·
  rintro ⟨i,hi,-,ho⟩
  exact ⟨_,List.getElem_mem hi,ho⟩
 ·
  rintro ⟨h,hh,ho⟩
  obtain ⟨i,hi,rfl⟩:=List.getElem_of_mem hh
  exact ⟨i,hi, by rw [Nat.testBit_two_pow_sub_one]; simpa using hi,ho⟩
theorem z15h (ids:List ID) (hn:ids.Nodup) {l0:List z00} (hl:l0.length=ids.length) (h0:∀ i (h:i<l0.length) (h2:i<ids.length),∃ o,∀ x q,z1p l0[i] x=some q↔x=ids[i]∧q=o) {w:Nat} (F:Fit g n) (H:Has l0 w g):g.IDs.length=((List.range ids.length).filter fun i=>w.testBit i).length:=by
 have e:((List.range ids.length).filter fun i=>w.testBit i).length=(((List.range ids.length).filter fun i=>w.testBit i).map fun i=>ids[i]?.getD (Vector.replicate 32 0)).length:=by rw [List.length_map]
 rw [e]
 refine zm2 (zdn F.ri) ?_ fun x=>?_
 ·
  unfold List.Nodup
  rw [List.pairwise_map]
  refine List.Pairwise.imp_of_mem (fun {a b} ha hb hab e=>?_) (List.Pairwise.sublist List.filter_sublist List.nodup_range)
  have ha:a<ids.length:=by simpa using (List.mem_filter.1 ha).1
  have hb:b<ids.length:=by simpa using (List.mem_filter.1 hb).1
  rw [List.getElem?_eq_getElem ha,List.getElem?_eq_getElem hb] at e
  exact hab ((List.getElem_inj hn).1 e)
 ·
  rw [List.mem_map]
  constructor
  ·
   intro hx
   obtain ⟨o,ho⟩:=z6k F hx
   obtain ⟨i,hi,h1,h2⟩:=(H x o).1 ho
   have hi2:i<ids.length:=by omega
   obtain ⟨q,hq⟩:=h0 i hi hi2
   refine ⟨i,List.mem_filter.2 ⟨by simpa using hi2,h1⟩,?_⟩
   rw [List.getElem?_eq_getElem hi2]
   exact ((hq x o).1 h2).1.symm
  ·
   rintro ⟨i,hi,rfl⟩
   rw [List.mem_filter] at hi
   have hi2:i<ids.length:=by simpa using hi.1
   obtain ⟨q,hq⟩:=h0 i (by omega) hi2
   rw [List.getElem?_eq_getElem hi2]
   exact (z6v ((H ids[i] q).2 ⟨i, by omega,hi.2,(hq _ _).2 ⟨rfl,rfl⟩⟩)).1
end
section
open Go
variable {l:List z00} {g:z00}
theorem zz7 (R:Rps l) (hg:g∈l) {x:ID} (hx:x∈g.IDs):x∈(z54 l).IDs:=by
 obtain ⟨o,ho⟩:=z6k (R.rp g hg).fit hx
 have:=zbf R.ag hg ho
 rw [← zar R] at this
 exact (z6v this).1
theorem zw3 (R:Rps l) {x:ID} (hx:x∈(z54 l).IDs):∃ g∈l,x∈g.IDs:=by
 obtain ⟨o,ho⟩:=z6k (zbe R) hx
 rw [zar R] at ho
 obtain ⟨g,h1,h2⟩:=z9p ho
 exact ⟨g,h1,(z6v h2).1⟩
def rid (d:Rn):ID:=idv d.h3
def rop (d:Rn):z04:=zhj (u32 4) (UInt64.ofNat d.n) [] ⟨u32 d.E,u32 d.S⟩
def z18z (d:Rn):ID × z04:=(rid d,rop d)
def grR (m:List Rn):z00:=zak ⟨[],[]⟩ (m.map z18z)
theorem wf_b {y:UInt32} {st:UInt64} {sg:z0a}:zfv (zhj y st [] sg):=by
 refine ⟨trivial,⟨fun x _ y _=>trivial, by show ([]:List ID).length≤_; simp⟩,trivial,?_,?_⟩
 ·
  refine ⟨trivial,?_,⟨trivial,?_,trivial,?_,trivial⟩,trivial⟩
  ·
   show ([]:List UInt8).length≤_; simp
  ·
   show inI 0; unfold inI; omega
  ·
   show ([]:List UInt8).length≤_; simp
 ·
  exact ⟨⟨trivial,trivial,trivial⟩,trivial⟩
theorem ztw {d:Rn} (h:chkR d=true):zjf 1 (⟨0,[],UInt64.ofNat d.n,⟨1,[],⟨0,0,0,[]⟩⟩,⟨0,0⟩⟩:z04)=some (rop d,0)∧zdt (rop d)=0∧sha (zdh (rop d))=rid d:=by
 have:=z19a (k:=1) (P:=[]) h
 exact this
theorem z104 {g:z00} {d:Rn} (h:chkR d=true) (no:rid d∉g.IDs):z123 g (rid d) (rop d):=by
 have:=ztw h
 exact ⟨⟨by show ([]:List ID).length≤20; simp, by show ([]:List UInt8).length≤100; simp, by show ([]:List UInt8).length≤100; simp⟩,⟨this.2.1,this.2.2, by show ([]:List ID).length≤4; simp,rfl⟩,wf_b,no, fun p hp=>by cases hp⟩
theorem z18d {α β γ:Type} {f:α→β} {k:β→γ} {l:List α} (h:(l.map fun d=>k (f d)).Nodup):(l.map f).Nodup:=by
 unfold List.Nodup at h ⊢
 rw [List.pairwise_map] at h ⊢
 exact h.imp fun hn e=>hn (by rw [e])
structure Mk (m:List Rn):Prop where
 chk:∀ d∈m,chkR d=true
 nd:(m.map rid).Nodup
 len:m.length≤60
theorem z11p (m:List Rn) (d:Rn):grR (m++[d])=zkh (grR m) (rid d,rop d):=by
 unfold grR
 rw [List.map_append,List.map_cons,List.map_nil,zjg]
 rfl
theorem Mk.of_app {m:List Rn} {d:Rn} (h:Mk (m++[d])):Mk m∧chkR d=true∧rid d∉m.map rid∧m.length≤59:=by
 have hn:=h.nd
 rw [List.map_append,List.map_cons,List.map_nil,List.nodup_append] at hn
 have hl:=h.len
 rw [List.length_append,List.length_singleton] at hl
 exact ⟨⟨fun e he=>h.chk e (by simp [he]),hn.1, by omega⟩,h.chk d (by simp), fun hm=>hn.2.2 _ hm _ (by simp) rfl, by omega⟩
theorem z14o:∀ (n:Nat) (m:List Rn),m.length=n→Mk m→Rp (grR m)∧(grR m).Ops.length=m.length∧∀ x o,z1p (grR m) x=some o↔∃ d∈m,rid d=x∧o=rop d:=by
 intro n
 induction n with
 | zero =>
  intro m hm _
  have:m=[]:=List.length_eq_zero_iff.1 hm
  subst this
  exact ⟨Rp.nil,rfl, fun x o=>⟨fun h=>(by have:=(z6v h).1; cases this), fun ⟨d,h,_⟩=>(by cases h)⟩⟩
 | succ n ih =>
  intro m hm hk
  obtain ⟨m',d,rfl⟩:∃ m' d,m=m'++[d]:=⟨m.dropLast,m.getLast (fun e=>by subst e; simp at hm),(List.dropLast_concat_getLast _).symm⟩
  obtain ⟨k1,k2,k3,k4⟩:=hk.of_app
  obtain ⟨R,hl,hlk⟩:=ih m' (by simpa using hm) k1
  have no:rid d∉(grR m').IDs:=fun hx=>by
   obtain ⟨o,ho⟩:=z6k R.fit hx
   obtain ⟨e,e1,e2,-⟩:=(hlk _ _).1 ho
   exact k3 (List.mem_map.2 ⟨e,e1,e2⟩)
  have N:=z104 k2 no
  rw [z11p]
  refine ⟨R.add (by omega) N, by rw [z14c R.fit N,hl]; simp, fun x o=>?_⟩
  rw [zxd R.fit N]
  by_cases e:x=rid d
  ·
   rw [if_pos e]
   constructor
   ·
    intro h; exact ⟨d, by simp,e.symm,(Option.some.inj h).symm⟩
   ·
    rintro ⟨d',h1,h2,h3⟩
    rcases List.mem_append.1 h1 with h1 | h1
    ·
     exact absurd (List.mem_map.2 ⟨d',h1,h2.trans e⟩) k3
    ·
     rw [List.mem_singleton] at h1; subst h1; rw [h3]
  ·
   rw [if_neg e,hlk]
   constructor
   ·
    rintro ⟨d',h1,h2⟩; exact ⟨d', by simp [h1],h2⟩
   ·
    rintro ⟨d',h1,h2,h3⟩
    rcases List.mem_append.1 h1 with h1 | h1
    ·
     exact ⟨d',h1,h2,h3⟩
    ·
     rw [List.mem_singleton] at h1; subst h1; exact absurd h2.symm e
theorem zkf {m:List Rn} (h:Mk m):Rp (grR m)∧(grR m).Ops.length=m.length∧∀ x o,z1p (grR m) x=some o↔∃ d∈m,rid d=x∧o=rop d:=z14o _ m rfl h
theorem z175 {l:List Rn} (h:(l.map rid).Nodup) {d e:Rn} (hd:d∈l) (he:e∈l) (hr:rid d=rid e):d=e:=by
 obtain ⟨i,hi,rfl⟩:=List.getElem_of_mem hd
 obtain ⟨j,hj,rfl⟩:=List.getElem_of_mem he
 have h1:(l.map rid)[i]'(by simpa using hi)=(l.map rid)[j]'(by simpa using hj):=by simpa using hr
 have:=(List.getElem_inj (h₀:=by simpa using hi) (h₁:=by simpa using hj) h).1 h1
 subst this; rfl
theorem z15g {ms:List (List Rn)} (h5:ms.length≤5) (hk:∀ m∈ms,Mk m) (hn:(ms.flatten.map rid).Nodup):Rps (ms.map grR)∧(z54 (ms.map grR)).Ops.length=ms.flatten.length:=by
 have R:Rps (ms.map grR):=⟨by simpa using h5, fun g hg=>by
  obtain ⟨m,hm,rfl⟩:=List.mem_map.1 hg
  exact (zkf (hk m hm)).1, fun g hg h hh x o q h1 h2=>by
  obtain ⟨m,hm,rfl⟩:=List.mem_map.1 hg
  obtain ⟨m',hm',rfl⟩:=List.mem_map.1 hh
  obtain ⟨d,d1,d2,d3⟩:=((zkf (hk m hm)).2.2 x o).1 h1
  obtain ⟨e,e1,e2,e3⟩:=((zkf (hk m' hm')).2.2 x q).1 h2
  have:=z175 hn (List.mem_flatten.2 ⟨m,hm,d1⟩) (List.mem_flatten.2 ⟨m',hm',e1⟩) (d2.trans e2.symm)
  rw [d3,e3,this]⟩
 refine ⟨R,?_⟩
 have F:=zbe R
 rw [← F.ids]
 have e:=zm2 (zdn F.ri) hn fun x=>?_
 ·
  rw [e,List.length_map]
 ·
  constructor
  ·
   intro hx
   obtain ⟨g,g1,g2⟩:=zw3 R hx
   obtain ⟨m,hm,rfl⟩:=List.mem_map.1 g1
   obtain ⟨o,ho⟩:=z6k (R.rp _ g1).fit g2
   obtain ⟨d,d1,d2,-⟩:=((zkf (hk m hm)).2.2 x o).1 ho
   exact List.mem_map.2 ⟨d,List.mem_flatten.2 ⟨m,hm,d1⟩,d2⟩
  ·
   intro hx
   obtain ⟨d,d1,d2⟩:=List.mem_map.1 hx
   obtain ⟨m,hm,d3⟩:=List.mem_flatten.1 d1
   have:=((zkf (hk m hm)).2.2 x (rop d)).2 ⟨d,d3,d2,rfl⟩
   exact zz7 R (List.mem_map.2 ⟨m,hm,rfl⟩) (z6v this).1
theorem z18o {d:Rn} (h:chkR d=true):OkN (rop d):=⟨(ztw h).2.1, by show ([]:List ID).length≤4; simp, by show ([]:List UInt8).length≤100; simp, by show ([]:List UInt8).length≤100; simp, by show inI 0; unfold inI; omega⟩
theorem z18n {d:Rn} (h:chkR d=true):oid (rop d)=rid d:=(ztw h).2.2
theorem of_r {m:List Rn} (h:Mk m):zr1 (m.map rop)=some (grR m,0):=by
 obtain ⟨R,hl,hlk⟩:=zkf h
 refine z196 R.fit (zl9 R.good R.fit) (fun o=>?_) (by rw [List.length_map]; exact h.len) (fun o ho=>?_) ?_
 ·
  constructor
  ·
   intro ho
   obtain ⟨d,hd,rfl⟩:=List.mem_map.1 ho
   exact (z6v ((hlk (rid d) (rop d)).2 ⟨d,hd,rfl,rfl⟩)).2
  ·
   intro ho
   obtain ⟨i,hi,rfl⟩:=List.getElem_of_mem ho
   obtain ⟨d,hd,-,e⟩:=(hlk _ _).1 (z7f R.fit hi)
   rw [e]
   exact List.mem_map.2 ⟨d,hd,rfl⟩
 ·
  obtain ⟨d,hd,rfl⟩:=List.mem_map.1 ho
  exact z18o (h.chk d hd)
 ·
  rw [List.map_map]
  have e:m.map (oid ∘ rop)=m.map rid:=List.map_congr_left fun d hd=>z18n (h.chk d hd)
  rw [e]
  exact h.nd
end
section
open Go
def zf7 (n:Int) (m:z0g):Bool:=decide (0≤m.A∧m.A<n∧0≤m.B∧m.B<n∧m.A≠m.B)
def zdw (f:Nat→Nat→Bool) (m:z0g):Nat→Nat→Bool:=fun i k=>if (i:Int)=m.A∨(i:Int)=m.B then f m.A.toNat k || f m.B.toNat k else f i k
theorem z169 (n:Int) (m:z0g):zay n m=some (zf7 n m):=by
 unfold zay zf7
 split
 ·
  rename_i h
  simp only [decide_eq_true_eq] at h
  split
  ·
   rename_i h2
   simp only [decide_eq_true_eq] at h2
   congr 1
   rw [Bool.eq_iff_iff]; simp; omega
  ·
   rename_i h2
   simp only [decide_eq_true_eq] at h2
   congr 1
   rw [Bool.eq_iff_iff]; simp; omega
 ·
  rename_i h
  simp only [decide_eq_true_eq] at h
  congr 1
  rw [Bool.eq_iff_iff]; simp; omega
def hb (h:Vector UInt64 5) (i k:Nat):Bool:=(h[i]?.getD 0).toNat.testBit k
theorem zsr {h:Vector UInt64 5} {i k:Nat} (hi:i<5):hb h i k=(h[i]).toNat.testBit k:=by simp [hb,hi]
theorem zza (h:Vector UInt64 5) (m:z0g) (n:Int) (hn:n≤5) (hg:zf7 n m=true) (i k:Nat) (hi:i<5) :
  hb (zdm (zdm h m.A (h[m.A.toNat]'(by simp [zf7] at hg; omega) ||| h[m.B.toNat]'(by simp [zf7] at hg; omega))) m.B (h[m.A.toNat]'(by simp [zf7] at hg; omega) ||| h[m.B.toNat]'(by simp [zf7] at hg; omega))) i k=zdw (hb h) m i k:=by
 simp [zf7] at hg
 rw [zsr hi,zc0 hi,zc0 hi]
 unfold zdw
 rw [zsr (show m.A.toNat<5 by omega),zsr (show m.B.toNat<5 by omega),zsr hi]
 by_cases h1:m.B.toNat=i
 ·
  rw [if_pos h1,if_pos (by omega),UInt64.toNat_or,Nat.testBit_or]
 ·
  rw [if_neg h1]
  by_cases h2:m.A.toNat=i
  ·
   rw [if_pos h2,if_pos (by omega),UInt64.toNat_or,Nat.testBit_or]
  ·
   rw [if_neg h2,if_neg (by omega)]
theorem zvp (n:Int) (hn:n≤5) (K:Nat→Prop):∀ (l:List z0g) (f g:Nat→Nat→Bool),(∀ m∈l,zf7 n m=true)→(∀ i k,i<5→K k→f i k=g i k)→∀ i k,i<5→K k→l.foldl zdw f i k=l.foldl zdw g i k:=by
 intro l
 induction l with
 | nil=>intro f g _ hfg i k hi hk; exact hfg i k hi hk
 | cons m l ih2 =>
  intro f g hgo hfg i k hi hk
  simp only [List.foldl_cons]
  refine ih2 _ _ (fun m hm=>hgo m (by simp [hm])) (fun i k hi hk=>?_) i k hi hk
  have:=hgo m (by simp)
  simp [zf7] at this
  unfold zdw
  rw [hfg m.A.toNat k (by omega) hk,hfg m.B.toNat k (by omega) hk,hfg i k hi hk]
theorem zo8 (n:Int) (hn:n≤5) (ms:List z0g) (hl:ms.length≤1000):∀ (rest pre:List z0g) (h:Vector UInt64 5),ms=pre++rest →
  (rest.all (zf7 n)=true→∃ h',iter (z79 n ms) (h,(pre.length:Int))=some (.inr h')∧∀ i k,i<5→hb h' i k=rest.foldl zdw (hb h) i k) ∧
  (rest.all (zf7 n)=false→iter (z79 n ms) (h,(pre.length:Int))=some (.inl ([],2)))
 | [],pre,h,e=>by
  refine ⟨fun _=>⟨h,z11 ?_, fun _ _ _=>rfl⟩, fun hh=>by simp at hh⟩
  subst e
  unfold z79
  simp
 | m::rest,pre,h,e=>by
  have hlen:pre.length<ms.length:=by rw [e]; simp
  have hget:ms[pre.length]'hlen=m:=by subst e; simp
  have hF:z79 n ms (h,(pre.length:Int))=if !zf7 n m then some (.inl (.inl ([],2))) else
    z5w h m.A >>= fun x21=>z5w h m.B >>= fun x23=>z5w h m.A >>= fun x25=>z5w (zdm h m.A (x21 ||| x23)) m.B >>= fun x27=>some (.inr (zdm (zdm h m.A (x21 ||| x23)) m.B (x21 ||| x23),w64 ((pre.length:Int)+1))):=by
   unfold z79
   rw [if_pos (by simp <;> omega)]
   simp only [z0d hlen,hget,bs,z169]
  cases hg:zf7 n m with
  | false =>
   refine ⟨fun hh=>by simp [hg] at hh, fun _=>z11 ?_⟩
   rw [hF,hg]; rfl
  | true =>
   have hg':=hg
   simp [zf7] at hg'
   have hA:m.A.toNat<5:=by omega
   have hB:m.B.toNat<5:=by omega
   rw [hg] at hF
   simp only [Bool.not_true,Bool.false_eq_true,if_false,ztm (show 0≤m.A by omega) hA,ztm (show 0≤m.B by omega) hB,bs,z0i (show pre.length<9223372036854775807 by omega)] at hF
   rw [z1b hF]
   have ih:=zo8 n hn ms hl rest (pre++[m]) (zdm (zdm h m.A (h[m.A.toNat] ||| h[m.B.toNat])) m.B (h[m.A.toNat] ||| h[m.B.toNat])) (by simp [e])
   simp only [List.length_append,List.length_cons,List.length_nil,Nat.zero_add] at ih
   refine ⟨fun hh=>?_, fun hh=>ih.2 (by simpa [hg] using hh)⟩
   obtain ⟨h',k1,k2⟩:=ih.1 (by simpa [hg] using hh)
   refine ⟨h',k1, fun i k hi=>?_⟩
   rw [k2 i k hi,List.foldl_cons]
   exact zvp n hn (fun _=>True) rest _ _ (fun m hm=>by simp [hg] at hh; exact hh m hm) (fun i k hi _=>zza h m n hn hg i k hi) i k hi trivial
theorem zy7:∃ h,iter z9z (Vector.replicate 5 0,0)=some h∧∀ i k,i<5→k<5→hb h i k=decide (i=k):=by
 refine zbs 5 (fun i s=>s.2=(i:Int)∧∀ j k,j<i→k<5→hb s.1 j k=decide (j=k)) (fun h=>∀ i k,i<5→k<5→hb h i k=decide (i=k)) (fun i s hi hs=>?_) (fun s hs=>?_) _ 0 (by omega) ⟨rfl, fun j k hj=>by omega⟩
 ·
  obtain ⟨h,x⟩:=s
  obtain ⟨rfl,h2⟩:=hs
  simp only at h2
  refine ⟨(zdm h (i:Int) (zly 1 i),((i+1:Nat):Int)),?_,rfl, fun j k hj hk=>?_⟩
  ·
   unfold z9z
   rw [if_pos (by simp <;> omega)]
   simp only [z3j (show (0:Int)≤(i:Int) by omega),bs,z68 hi,Int.toNat_natCast,z0i (show i<9223372036854775807 by omega)]
  ·
   simp only
   rw [zsr (by omega),zc0 (by omega)]
   simp only [Int.toNat_natCast]
   by_cases hij:i=j
   ·
    subst hij
    rw [if_pos rfl,zha]
    have:∀ i k:Fin 5,((1:UInt64).toNat * 2 ^ min i.val 64 % 18446744073709551616).testBit k.val=decide (i.val=k.val):=by decide
    exact this ⟨i,hi⟩ ⟨k,hk⟩
   ·
    rw [if_neg hij,← zsr (show j<5 by omega)]; exact h2 j k (by omega) hk
 ·
  obtain ⟨h,x⟩:=s
  obtain ⟨rfl,h2⟩:=hs
  exact ⟨h, by unfold z9z; rw [if_neg (by simp)], fun i k hi hk=>h2 i k hi hk⟩
def zaf (f:Nat→Bool) (n:Nat):List Int:=((List.range n).filter f).map fun k:Nat=>(k:Int)
theorem zsi (f:Nat→Bool) (n:Nat):zaf f (n+1)=if f n then zaf f n++[(n:Int)] else zaf f n:=by
 unfold zaf
 rw [List.range_succ,List.filter_append,List.map_append]
 cases h:f n <;> simp [h]
theorem zwd (f:Nat→Bool) (n:Nat):(zaf f n).length≤n:=by
 unfold zaf
 rw [List.length_map]
 exact Nat.le_trans (List.length_filter_le _ _) (by simp)
theorem zps {f g:Nat→Bool} {n:Nat} (h:∀ k,k<n→f k=g k):zaf f n=zaf g n:=by
 unfold zaf
 congr 1
 exact List.filter_congr (fun k hk=>h k (by simpa using hk))
theorem z128 (n:Nat) (hn:n≤5) (h:Vector UInt64 5) (s:List (List Int)) (i:Nat) (hi:i<n):iter (zac (n:Int) h (s,(i:Int))) ([],0)=some (zaf (hb h i) n):=by
 refine z1u n (fun k=>(zaf (hb h i) k,(k:Int))) (fun k hk=>?_) ?_
 ·
  unfold zac
  rw [if_pos (by simp <;> omega)]
  simp only [z68 (show i<5 by omega),bs,z3j (show (0:Int)≤(k:Int) by omega),Int.toNat_natCast,z16w _ k (by omega),← zsr (show i<5 by omega)]
  rw [zsi]
  have hl:=zwd (hb h i) k
  cases hb h i k with
  | true=>simp only [if_true,z1w (show ((zaf (hb h i) k).length+[(k:Int)].length) * 8≤140737488355328 by simp; omega),bs,z0i (show k<9223372036854775807 by omega)]
  | false=>simp only [Bool.false_eq_true,if_false,z0i (show k<9223372036854775807 by omega)]
 ·
  unfold zac
  rw [if_neg (by simp)]
theorem zzx (n:Nat) (hn:n≤5) (h:Vector UInt64 5):iter (za4 (n:Int) h) ([],0)=some ((List.range n).map fun i=>zaf (hb h i) n):=by
 refine z1u n (fun k=>((List.range k).map fun i=>zaf (hb h i) n,(k:Int))) (fun k hk=>?_) ?_
 ·
  unfold za4
  rw [if_pos (by simp <;> omega)]
  rw [z128 n hn h _ k hk]
  simp only [bs]
  rw [z1w (by simp <;> omega)]
  simp only [bs,z0i (show k<9223372036854775807 by omega),List.range_succ,List.map_append,List.map_cons,List.map_nil]
 ·
  unfold za4
  rw [if_neg (by simp)]
theorem z11v {n:Nat} {m:z0g}:zf7 (n:Int) m=true↔Two n m:=by
 unfold zf7 Two
 rw [decide_eq_true_iff]
 omega
def bitW (ws:List Nat) (i k:Nat):Bool:=(ws[i]?.getD 0).testBit k
theorem z124 {n:Nat} {ws:List Nat} (hl:ws.length=n) {m:z0g} (h2:Two n m) {f:Nat→Nat→Bool} (hf:∀ i k,i<n→k<5→bitW ws i k=f i k):(metM ws m).length=n∧∀ i k,i<n→k<5→bitW (metM ws m) i k=zdw f m i k:=by
 refine ⟨by unfold metM; simp [hl], fun i k hi hk=>?_⟩
 obtain ⟨⟨a1,a2⟩,⟨b1,b2⟩,h3⟩:=h2
 have ha:m.A.toNat<n:=by omega
 have hb:m.B.toNat<n:=by omega
 have fa:=hf _ k ha hk
 have fb:=hf _ k hb hk
 have fi:=hf i k hi hk
 unfold bitW at fa fb fi ⊢
 unfold metM zdw
 have ei:∀ w:List Nat,w.length=n→w[i]?.getD 0=(w[i]?.getD 0):=fun _ _=>rfl
 rw [List.getElem?_set,List.getElem?_set]
 simp only [List.length_set,hl]
 by_cases e1:m.B.toNat=i
 ·
  rw [if_pos e1,if_pos (by omega),if_pos (by omega)]
  show (_ ||| _:Nat).testBit k=_
  rw [Nat.testBit_or,fa,fb]
 ·
  rw [if_neg e1]
  by_cases e2:m.A.toNat=i
  ·
   rw [if_pos e2,if_pos (by omega),if_pos (by omega)]
   show (_ ||| _:Nat).testBit k=_
   rw [Nat.testBit_or,fa,fb]
  ·
   rw [if_neg e2,if_neg (by omega)]
   exact fi
theorem ztt {n:Nat}:∀ (ms:List z0g) (ws:List Nat) (f:Nat→Nat→Bool),ws.length=n→(∀ m∈ms,Two n m)→(∀ i k,i<n→k<5→bitW ws i k=f i k)→∀ i k,i<n→k<5→bitW (zum ws ms) i k=ms.foldl zdw f i k
 | [],ws,f,hl,h2,hf,i,k,hi,hk=>hf i k hi hk
 | m::ms,ws,f,hl,h2,hf,i,k,hi,hk=>by
  obtain ⟨h3,h4⟩:=z124 hl (h2 m (by simp)) hf
  show bitW (zum (metM ws m) ms) i k=ms.foldl zdw (zdw f m) i k
  exact ztt ms (metM ws m) (zdw f m) h3 (fun m' hm'=>h2 m' (by simp [hm'])) h4 i k hi hk
theorem zlm {n:Nat}:∀ (ms:List z0g) (f g:Nat→Nat→Bool),(∀ m∈ms,Two n m)→(∀ i k,i<n→k<5→f i k=g i k)→∀ i k,i<n→k<5→ms.foldl zdw f i k=ms.foldl zdw g i k
 | [],f,g,h2,hf,i,k,hi,hk=>hf i k hi hk
 | m::ms,f,g,h2,hf,i,k,hi,hk=>by
  refine zlm ms (zdw f m) (zdw g m) (fun m' hm'=>h2 m' (by simp [hm'])) (fun i k hi hk=>?_) i k hi hk
  obtain ⟨⟨a1,a2⟩,⟨b1,b2⟩,h3⟩:=h2 m (by simp)
  unfold zdw
  rw [hf m.A.toNat k (by omega) hk,hf m.B.toNat k (by omega) hk,hf i k hi hk]
theorem z10g (n:Nat) (hn:n≤5) (ms:List z0g) (hl:ms.length≤100) (h2:∀ m∈ms,Two n m):z9o (n:Int) ms=some ((List.range n).map fun i=>zaf (bitW (zum (ws0 n) ms) i) n,0):=by
 obtain ⟨h,i1,i2⟩:=zy7
 have p:=zo8 (n:Int) (by omega) ms (by omega) ms [] h rfl
 simp only [List.length_nil] at p
 have hg:ms.all (zf7 (n:Int))=true:=by
  rw [List.all_eq_true]; intro m hm; exact z11v.2 (h2 m hm)
 obtain ⟨h',q1,q2⟩:=p.1 hg
 rw [show ((0:Nat):Int)=0 from rfl] at q1
 have e1:z9o (n:Int) ms=some ((List.range n).map fun i=>zaf (hb h' i) n,0):=by
  unfold z9o
  rw [if_neg (by simp),if_neg (by simp <;> omega),if_neg (by simp <;> omega),i1]
  simp only [bS]
  rw [q1]
  simp only [zqe]
  rw [zzx n hn h']; rfl
 rw [e1]
 have e3:((List.range n).map fun i=>zaf (hb h' i) n)=(List.range n).map fun i=>zaf (bitW (zum (ws0 n) ms) i) n:=by
  refine List.map_congr_left fun i hi=>?_
  have hi:i<n:=by simpa using hi
  refine zps fun c hc=>?_
  rw [q2 i c (by omega),ztt ms (ws0 n) (fun i k=>decide (i=k)) (by simp [ws0]) h2 (fun i k hi hk=>by
   unfold bitW ws0
   rw [List.getElem?_map,List.getElem?_range hi]
   simp [Nat.testBit_two_pow]) i c hi (by omega)]
  exact zlm ms _ _ h2 (fun i k hi hk=>i2 i k (by omega) hk) i c hi (by omega)
 rw [e3]
end
section
open Go
variable {g a b:z00} {n:Nat} {l k:List z00} {m:z0g} {x:ID} {o:z04}
structure AllF (l:List z00) (kk:Nat→List z00) (n:Nat):Prop where
 two:n≤2
 rounds:z7e l=some ((n:Int),0)
 ring:∀ i:Nat,i≤2→z4k l (i:Int)=some (kk i,0)
 same:∀ i:Nat,i≤n→z5e (kk i)=some (decide (i=n),0)
 len:(kk 2).length=l.length
 all:∀ g∈kk 2,g=z54 l
theorem zx0 (R:Rps l) (hw:(z54 l).Ops.length≤60):∃ kk n,AllF l kk n:=by
 obtain ⟨k1,h1,R1,e1,w1⟩:=zm3 R hw
 obtain ⟨k2,h2,R2,e2,w2⟩:=zm3 R1 (by rw [w1]; exact hw)
 have h2':zcs k1 (z7d l.length)=.inr k2:=by rw [← e1]; exact h2
 have r0:zje 0 l=.inr l:=rfl
 have r1:zje 1 l=.inr k1:=by
  simp only [zje]
  rw [h1]
 have r2:zje 2 l=.inr k2:=by
  simp only [zje]
  rw [h1]
  simp only []
  rw [h2]
 have hr:=zrd R h1 h2
 have s2:=zma R h1 h2'
 have q0:=zm0 R 0 (by omega) r0
 have q1:=zm0 R 1 (by omega) r1
 have q2:=zm0 R 2 (by omega) r2
 have ring:∀ i:Nat,i≤2→z4k l (i:Int)=some ((match i with | 0=>l | 1=>k1 | _=>k2),0):=fun i hi=>by
  match i,hi with
  | 0,_=>exact q0
  | 1,_=>exact q1
  | 2,_=>exact q2
 refine ⟨fun i=>match i with | 0=>l | 1=>k1 | _=>k2, if z78 l then 0 else if z78 k1 then 1 else 2,?_,?_,ring,?_, by show k2.length=_; omega, fun g hg=>zwv R h1 h2' hg⟩
 ·
  split
  ·
   omega
  ·
   split <;> omega
 ·
  rw [hr]
  split
  ·
   rfl
  ·
   split <;> rfl
 ·
  intro i hi
  by_cases c0:z78 l
  ·
   rw [if_pos c0] at hi ⊢
   have:i=0:=by omega
   subst this
   exact (zl7 R c0).1
  ·
   rw [if_neg c0] at hi ⊢
   by_cases c1:z78 k1
   ·
    rw [if_pos c1] at hi ⊢
    match i,hi with
    | 0,_=>exact (zor R c0).1
    | 1,_=>exact (zl7 R1 c1).1
   ·
    rw [if_neg c1] at hi ⊢
    match i,hi with
    | 0,_=>exact (zor R c0).1
    | 1,_=>exact (zor R1 c1).1
    | 2,_=>exact (zl7 R2 s2).1
theorem z187 (R:Rps l) (ms:List z0g) (hl:ms.length≤100) (h:zcs l ms=.inr k):zg4 l ms=some (k,0):=by
 have p:=zts ms (by omega) ms [] l rfl R
 rw [h] at p
 have p:iter (z8f ms) (l,0)=some (.inr k):=p
 unfold zg4
 rw [R.chk.1]
 simp only [bS]
 rw [if_neg (by simp),if_neg (by simp; omega),zpf l (by have:=R.len; omega) R.f900]
 simp only [bS]
 rw [p]
 rfl
theorem stay {n:Nat}:∀ (ms:List z0g) (f:Nat→Nat→Bool) (i c:Nat),(∀ m∈ms,Two n m)→f i c=true→ms.foldl zdw f i c=true
 | [],f,i,c,_,h=>h
 | m::ms,f,i,c,h2,h=>by
  refine stay ms (zdw f m) i c (fun m' hm'=>h2 m' (by simp [hm'])) ?_
  obtain ⟨⟨a1,a2⟩,⟨b1,b2⟩,h3⟩:=h2 m (by simp)
  unfold zdw
  split
  ·
   rename_i e
   rcases e with e | e
   ·
    have:m.A.toNat=i:=by omega
    rw [this,h]; rfl
   ·
    have:m.B.toNat=i:=by omega
    rw [this,h]; simp
  ·
   exact h
end
section
open Go
variable {g:z00} {l k:List z00} {x:ID} {o:z04}
def sg (ds:List Rn):List z00:=ds.map fun d=>grR [d]
theorem zm6 (ds:List Rn):(sg ds).length=ds.length:=by unfold sg; rw [List.length_map]
theorem zmp {ds:List Rn} (h:Mk ds) {d:Rn} (hd:d∈ds):Mk [d]:=⟨fun e he=>by rw [List.mem_singleton] at he; rw [he]; exact h.chk d hd, by simp, by simp⟩
theorem ztj (ds:List Rn):(ds.map fun d=>[d]).flatten=ds:=by
 induction ds with
 | nil=>rfl
 | cons d t ih=>rw [List.map_cons,List.flatten_cons,ih]; rfl
theorem zr3 {ds:List Rn} (h:Mk ds) (h5:ds.length≤5):Rps (sg ds)∧(z54 (sg ds)).Ops.length=ds.length:=by
 have:=z15g (ms:=ds.map fun d=>[d]) (by rw [List.length_map]; exact h5) (fun m hm=>by
  obtain ⟨d,hd,rfl⟩:=List.mem_map.1 hm
  exact zmp h hd) (by rw [ztj]; exact h.nd)
 rw [List.map_map,ztj] at this
 exact this
theorem z14p {ds:List Rn} (h:Mk ds) (i:Nat) (hi:i<(sg ds).length) (hi2:i<(ds.map rid).length):∃ o,∀ x q,z1p (sg ds)[i] x=some q↔x=(ds.map rid)[i]∧q=o:=by
 have hd:i<ds.length:=by rw [zm6] at hi; exact hi
 have e:(sg ds)[i]=grR [ds[i]]:=by simp [sg]
 obtain ⟨-,-,hlk⟩:=zkf (zmp h (List.getElem_mem hd))
 refine ⟨rop ds[i], fun x q=>?_⟩
 rw [e,hlk,List.getElem_map]
 constructor
 ·
  rintro ⟨d,h1,h2,h3⟩
  rw [List.mem_singleton] at h1
  subst h1
  exact ⟨h2.symm,h3⟩
 ·
  rintro ⟨rfl,rfl⟩
  exact ⟨ds[i], by simp,rfl,rfl⟩
def pop (w n:Nat):Nat:=((List.range n).filter fun c=>w.testBit c).length
theorem z13e {ds:List Rn} (h:Mk ds) (h5:ds.length≤5) (ms:List z0g) (h2:∀ m∈ms,Two ds.length m):∃ e,zcs (sg ds) ms=.inr e∧Rps e∧e.length=ds.length∧z54 e=z54 (sg ds)∧∀ i (hi:i<e.length),e[i].IDs.length=pop ((zum (ws0 ds.length) ms)[i]?.getD 0) ds.length:=by
 obtain ⟨R,hw⟩:=zr3 h h5
 obtain ⟨e,p1,p2,p3,p4,p5⟩:=zsy ms (sg ds) R (by omega) fun m hm=>by rw [zm6]; exact h2 m hm
 have H:=zph R p1 (has0 (sg ds))
 rw [zm6] at H p3
 refine ⟨e,p1,p2,p3,zjq R p2 p4, fun i hi=>?_⟩
 have hiw:i<(zum (ws0 ds.length) ms).length:=by rw [H.1]; exact hi
 have:=z15h (ds.map rid) h.nd (l0:=sg ds) (by rw [zm6,List.length_map]) (fun i hi hi2=>z14p h i hi hi2) (p2.rp _ (List.getElem_mem hi)).fit (H.2 i hiw hi)
 rw [this,List.getElem?_eq_getElem hiw,List.length_map]
 rfl
theorem z16t {ds es:List Rn} (h:Mk ds) (hs:List.Sublist es ds):Mk es:=⟨fun d hd=>h.chk d (hs.subset hd),List.Nodup.sublist (hs.map _) h.nd,Nat.le_trans hs.length_le h.len⟩
theorem mk_a:Mk aR:=by
 refine ⟨fun d hd=>List.all_eq_true.1 z16g d hd,?_, by decide⟩
 have e:(fun d:Rn=>num8 d.h3)=fun d=>(zn0 (rid d) 8).toNat:=funext fun d=>(zsg d.h3).symm
 have h:=z19j
 rw [e] at h
 exact z18d (f:=rid) (k:=fun i=>(zn0 i 8).toNat) h
theorem ztu {l:List z00} {i j:Nat} (hi:i<l.length) (hj:j<l.length) (h:l[i].IDs≠l[j].IDs):¬ z78 l:=fun a=>h (a _ (List.getElem_mem hi) _ (List.getElem_mem hj))
theorem z18p {ds:List Rn} (h:Mk ds) {i j:Nat} (hi:i<ds.length) (hj:j<ds.length) (hij:i≠j) (hi':i<(sg ds).length) (hj':j<(sg ds).length):(sg ds)[i].IDs≠(sg ds)[j].IDs:=fun e=>by
 obtain ⟨o,ho⟩:=z14p h i hi' (by rw [List.length_map]; exact hi)
 obtain ⟨q,hq⟩:=z14p h j hj' (by rw [List.length_map]; exact hj)
 have h1:=(ho _ _).2 ⟨rfl,rfl⟩
 have h2:=(z6v h1).1
 rw [e] at h2
 have F:=((zr3 (ds:=[ds[j]]) (zmp h (List.getElem_mem hj)) (by simp)).1.rp (grR [ds[j]]) (by simp [sg])).fit
 have e2:(sg ds)[j]=grR [ds[j]]:=by simp [sg]
 rw [e2] at h2 hq
 obtain ⟨r,hr⟩:=z6k F h2
 have:=((hq _ _).1 hr).1
 exact hij ((List.getElem_inj h.nd).1 this)
end
section
open Go
variable {g:z00} {l k:List z00}
theorem zp6 (L:List (List Int)) (hl:L.length≤100) (h:∀ s∈L,s.length≤100):z7i L L=some true:=by
 have main:=z1u (F:=z4f L L) (b:=(.inr ():Sum Bool Unit)) L.length (fun i=>(i:Int)) (fun i hi=>?_) ?_
 ·
  have main:iter (z4f L L) 0=some (.inr ()):=main
  unfold z7i
  rw [if_neg (by simp),main]
  rfl
 ·
  have hs:=h _ (List.getElem_mem hi)
  have inner:iter (z4e L L (i:Int)) 0=some (.inr ()):=by
   refine z1u (F:=z4e L L (i:Int)) L[i].length (fun c=>(c:Int)) (fun c hc=>?_) ?_
   ·
    unfold z4e
    simp only [z0d hi,bS]
    rw [if_pos (by simpa using hc)]
    simp only [z0d hc,bS]
    rw [if_neg (by simp),z0i (by omega)]
   ·
    unfold z4e
    simp only [z0d hi,bS]
    rw [if_neg (by simp)]
  unfold z4f
  rw [if_pos (by simpa using hi)]
  simp only [z0d hi,bS]
  rw [if_neg (by simp),inner,z0i (by omega)]
  rfl
 ·
  unfold z4f
  rw [if_neg (by simp)]
theorem z15r (e:List z00) (w:List Nat) (hl:e.length≤100) (h1:e.length=w.length) (h:∀ i (hi:i<e.length) (h2:i<w.length),e[i].IDs.length=w[i]):z3e e (w.map fun n:Nat=>(n:Int))=some true:=by
 have main:=z1u (F:=z6d e (w.map fun n:Nat=>(n:Int))) (b:=(.inr ():Sum Bool Unit)) e.length (fun i=>(i:Int)) (fun i hi=>?_) ?_
 ·
  have main:iter (z6d e (w.map fun n:Nat=>(n:Int))) 0=some (.inr ()):=main
  unfold z3e
  rw [if_neg (by simp [h1]),main]
  rfl
 ·
  have hw:i<w.length:=by omega
  have hwm:i<(w.map fun n:Nat=>(n:Int)).length:=by rw [List.length_map]; exact hw
  unfold z6d
  rw [if_pos (by simpa using hi)]
  simp only [z0d hi,z0d hwm,bS]
  rw [List.getElem_map,h i hi hw,if_neg (by simp),z0i (by omega)]
 ·
  unfold z6d
  rw [if_neg (by simp)]
theorem zv8 {ds:List Rn} (h:Mk ds):z31 (ds.map fun d=>UInt64.ofNat d.n)=some (grR ds,true):=by
 have hl:=h.len
 have main:=z1u (F:=z72 (ds.map fun d=>UInt64.ofNat d.n)) (b:=(.inr (ds.map rop):Sum (z00 × Bool) (List z04))) ds.length (fun i=>((ds.take i).map rop,(i:Int))) (fun i hi=>?_) ?_
 ·
  have main:iter (z72 (ds.map fun d=>UInt64.ofNat d.n)) ([],0)=some (.inr (ds.map rop)):=main
  obtain ⟨R,h1,-⟩:=zkf h
  unfold z31
  rw [main]
  simp only [zqe]
  rw [of_r h]
  simp only [bS]
  rw [if_pos (by simp),R.fit.ids,h1,List.length_map]
  simp
 ·
  have hm:i<(ds.map fun d=>UInt64.ofNat d.n).length:=by rw [List.length_map]; exact hi
  unfold z72
  rw [if_pos (by simpa using hi)]
  simp only [z0d hm,bS]
  rw [List.getElem_map,(ztw (h.chk _ (List.getElem_mem hi))).1]
  simp only [bS]
  rw [if_neg (by simp),z1w (by simp; omega),z0i (by omega)]
  simp only [bS]
  rw [List.take_add_one,List.getElem?_eq_getElem hi,List.map_append]
  rfl
 ·
  unfold z72
  rw [if_neg (by simp),List.take_length]
def e1:Rn:=aR[0]'(by decide)
def e2:Rn:=aR[1]'(by decide)
def e3:Rn:=aR[2]'(by decide)
def e4:Rn:=aR[3]'(by decide)
theorem zyq:aR=[e1,e2,e3,e4]:=rfl
theorem m123:Mk [e1,e2,e3]:=z16t mk_a (by rw [zyq]; exact List.sublist_append_left [e1,e2,e3] [e4])
theorem one1:z31 [1]=some (grR [e1],true):=by
 have h:=zv8 (zmp mk_a (d:=e1) (by rw [zyq]; simp))
 exact h
theorem one2:z31 [2]=some (grR [e2],true):=by
 have h:=zv8 (zmp mk_a (d:=e2) (by rw [zyq]; simp))
 exact h
theorem one3:z31 [3]=some (grR [e3],true):=by
 have h:=zv8 (zmp mk_a (d:=e3) (by rw [zyq]; simp))
 exact h
theorem one4:z31 [4]=some (grR [e4],true):=by
 have h:=zv8 (zmp mk_a (d:=e4) (by rw [zyq]; simp))
 exact h
theorem z10k:z99=some (sg [e1,e2,e3],true):=by
 unfold z99
 rw [one1,one2,one3]
 rfl
theorem zt0 {ds:List Rn} (h:Mk ds) (h5:ds.length≤5) (ms:List z0g) (h2:∀ m∈ms,Two ds.length m) (w:List Nat) (hw:w.length=ds.length) (hp:∀ i,i<w.length→w[i]?.getD 0=pop ((zum (ws0 ds.length) ms)[i]?.getD 0) ds.length):∃ e,zcs (sg ds) ms=.inr e∧Rps e∧e.length=ds.length∧z3e e (w.map fun n:Nat=>(n:Int))=some true∧∀ i (hi:i<e.length),e[i].IDs.length=pop ((zum (ws0 ds.length) ms)[i]?.getD 0) ds.length:=by
 obtain ⟨e,p1,p2,p3,-,p5⟩:=z13e h h5 ms h2
 refine ⟨e,p1,p2,p3,z15r e w (by omega) (by omega) fun i hi hi2=>?_,p5⟩
 have:=hp i hi2
 rw [List.getElem?_eq_getElem hi2] at this
 rw [p5 i hi]
 exact this.symm
theorem zpz:z9k=some true:=by
 have R3:=(zr3 m123 (by decide)).1
 have R4:=(zr3 mk_a (by decide)).1
 obtain ⟨a,a1,a2,a3,a4,-⟩:=zt0 m123 (by decide) [⟨0,1⟩,⟨1,2⟩] (by decide) [2,3,3] rfl (by decide)
 have a4:z3e a [2,3,3]=some true:=a4
 have hr:=z187 R3 [⟨0,1⟩,⟨1,2⟩] (by decide) a1
 have hh:=z10g 3 (by omega) [⟨0,1⟩,⟨1,2⟩] (by decide) (by decide)
 have hv:((List.range 3).map fun i=>zaf (bitW (zum (ws0 3) [⟨0,1⟩,⟨1,2⟩]) i) 3)=[[0,1],[0,1,2],[0,1,2]]:=by decide
 rw [hv] at hh
 have hh:z9o 3 [⟨0,1⟩,⟨1,2⟩]=some ([[0,1],[0,1,2],[0,1,2]],0):=hh
 obtain ⟨b,b1,b2,b3,b4,-⟩:=zt0 m123 (by decide) (z7d 3) (zi4 3) [3,3,3] rfl (by decide)
 have b4:z3e b [3,3,3]=some true:=b4
 have hb:zje 1 (sg [e1,e2,e3])=.inr b:=by
  have b1:zcs (sg [e1,e2,e3]) (z7d (sg [e1,e2,e3]).length)=.inr b:=b1
  simp only [zje]
  rw [b1]
 have rb:=zm0 R3 1 (by omega) hb
 obtain ⟨c,c1,c2,c3,c4,c5⟩:=zt0 mk_a (by decide) (z7d 4) (zi4 4) [4,3,4,4] rfl (by decide)
 have c4:z3e c [4,3,4,4]=some true:=c4
 have c1:zcs (sg aR) (z7d (sg aR).length)=.inr c:=c1
 have hc:zje 1 (sg aR)=.inr c:=by
  simp only [zje]
  rw [c1]
 have rc:=zm0 R4 1 (by omega) hc
 obtain ⟨d,d1,-,-,-⟩:=zm3 c2 (by
  obtain ⟨e,p1,p2,p3,p4,-⟩:=z13e mk_a (by decide) (z7d 4) (zi4 4)
  have:zcs (sg aR) (z7d 4)=.inr c:=c1
  rw [this] at p1
  injection p1 with p1
  subst p1
  rw [p4,(zr3 mk_a (by decide)).2]; decide)
 have n0:¬ z78 (sg aR):=ztu (i:=0) (j:=1) (by rw [zm6]; decide) (by rw [zm6]; decide) (z18p mk_a (i:=0) (j:=1) (by decide) (by decide) (by decide) _ _)
 have hc4:c.length=4:=c3
 have n1:¬ z78 c:=ztu (i:=0) (j:=1) (by omega) (by omega) fun e=>by
  have h1:=c5 0 (by omega)
  have h2:=c5 1 (by omega)
  have e:=congrArg List.length e
  rw [h1,h2] at e
  exact absurd e (by decide)
 have rr:=zrd R4 c1 d1
 rw [if_neg n0,if_neg n1] at rr
 have ap:app 48 (sg [e1,e2,e3]) [grR [e4]]=some (sg aR):=by
  rw [z1w (by simp [zm6])]
  rfl
 unfold z9k
 rw [z10k]
 simp only [bS]
 rw [hr,hh]
 simp only [bS]
 have rb:z4k (sg [e1,e2,e3]) 1=some (b,0):=rb
 have rc:z4k (sg aR) 1=some (c,0):=rc
 rw [rb,one4]
 simp only [bS]
 rw [ap]
 simp only [bS]
 rw [rc,rr]
 simp only [bS,if_true]
 rw [if_pos (by simp),a4]
 simp only [bS,if_true]
 rw [if_pos (by simp),zp6 _ (by decide) (by decide)]
 simp only [bS,if_true]
 rw [if_pos (by simp),b4]
 simp only [bS,if_true]
 rw [if_pos (by simp),c4]
 rfl
end
section
open Go
variable {g:z00} {l k:List z00}
theorem zz3 (a0:List z00) (w0:(∀ x∈a0,z4s x)∧a0.length≤9223372036854775807):z8x a0=some true:=by
 obtain ⟨b,b1,b2⟩:=z151 a0
 unfold z8x zdb
 rw [zpz]
 simp only [bS]
 rw [b1]
 simp only [bS]
 cases b with
 | true=>rfl
 | false =>
 obtain ⟨hl,hs⟩:=b2 rfl
 obtain ⟨c,c1,c2,c3⟩:=zyp (l:=a0) (by omega) w0.1 hs
 rw [if_pos (by simp),c2]
 simp only [bS]
 by_cases h:c=0
 ·
  have R:=c3 h
  rw [if_neg (by simp [h])]
  simp only [Bool.not_true,Bool.false_eq_true,if_false]
  rw [zx5 R]
  simp only [bS]
  by_cases h6:60<(z54 a0).Ops.length
  ·
   have e:zr7 a0=(⟨[],[]⟩,4):=if_pos h6
   rw [e]
   rfl
  ·
   have e:zr7 a0=(z54 a0,0):=if_neg h6
   rw [e,if_neg (by simp)]
   obtain ⟨kk,n,A⟩:=zx0 R (by omega)
   have h2:=A.ring 2 (by omega)
   have h2:z4k a0 2=some (kk 2,0):=h2
   have FW:=((zbe R).le60 (by omega)).small (by omega)
   have hn:=A.two
   have L0:iter (z3y (z54 a0,0) (kk 2,0)) 0=some (.inr ()):=by
    have hk:=A.len
    have hl5:=R.len
    refine z1u (F:=z3y (z54 a0,0) (kk 2,0)) (kk 2).length (fun i=>(i:Int)) (fun i hi=>?_) ?_
    ·
     unfold z3y
     rw [if_pos (by simpa using hi)]
     simp only [z0d hi,bS]
     rw [A.all _ (List.getElem_mem hi),z10c FW,z0i (by omega)]
     rfl
    ·
     unfold z3y
     rw [if_neg (by simp)]
   have L2:iter (z3z a0 ((n:Int),0)) 0=some (.inr ()):=by
    refine z1u (F:=z3z a0 ((n:Int),0)) (n+1) (fun i=>(i:Int)) (fun i hi=>?_) ?_
    ·
     unfold z3z
     rw [if_pos (by simp; omega),A.ring i (by omega)]
     simp only [bS]
     rw [A.same i (by omega)]
     simp only [bS]
     have e:(decide (i=n) != ((i:Int)==(n:Int)))=false:=by
      by_cases e:i=n
      ·
       simp [e]
      ·
       have:¬ ((i:Int)=(n:Int)):=by omega
       simp [e,this]
     rw [if_neg (by simp),if_neg (by simp),e]
     simp only [bS,Bool.false_eq_true,if_false]
     rw [z0i (by omega)]
    ·
     unfold z3z
     rw [if_neg (by simp; omega)]
   rw [A.rounds,h2]
   simp only [bS]
   rw [if_neg (by simp),if_neg (by simp),if_neg (by simp; omega),if_neg (by simp),A.len]
   simp only [bS,bne_self_eq_false,Bool.false_eq_true,if_false]
   rw [L0]
   simp only [zqe]
   rw [L2]
   rfl
 ·
  rw [if_pos (by simp [h])]
end
end Go.Proofs.YthimiiphpckifaaGreatDoor
