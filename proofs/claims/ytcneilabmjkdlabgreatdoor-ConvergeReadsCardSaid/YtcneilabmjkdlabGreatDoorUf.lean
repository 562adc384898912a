import Derived.Test.YtcneilabmjkdlabGreatDoorUe
set_option linter.unusedSimpArgs false
set_option linter.unusedVariables false
namespace Go.Proofs.YtcneilabmjkdlabGreatDoor
section
open Go
variable {g:z00} {x y z:ID} {o q:z0a} {key:Str}
theorem z120 (l:List ID) (h:l.length≤1):z8l l=true:=by
 rw [zgf]
 match l,h with
 | [],_=>simp
 | [z],_=>simp
theorem z17f {y:UInt32} {st:UInt64} {P:List O8} {a:z07} {sg:z0c} (hp:P.length≤4) (hk:a.Key.length≤100) (ht:a.Value.Text.length≤100) (hI:inI a.Value.Num):zcr (zkr y st P a sg):=by
 have h4:(P.map idv).length≤4:=by rw [List.length_map]; exact hp
 refine ⟨trivial,⟨fun x _ y _=>trivial,Nat.le_trans h4 (by omega)⟩,trivial,?_,?_⟩
 ·refine ⟨trivial,?_,⟨trivial,?_,trivial,?_,trivial⟩,trivial⟩
  ·show a.Key.length≤_; omega
  ·exact hI
  ·show a.Value.Text.length≤_; omega
 ·exact ⟨⟨trivial,trivial,trivial⟩,trivial⟩
theorem zjs {k y K r E S st:Nat} {P:List O8} {a:z07} {h1 h2 h3:O8} (h:zm4 k y K r E S st P a h1 h2 h3=true) (hP:P.length≤1) (no:idv h3∉g.IDs) (ins:∀ p∈P.map idv,p∈g.IDs):ze4 g (idv h3) (zkr (u32 y) (UInt64.ofNat st) P a ⟨u32 E,u32 S⟩):=by
 have hs:=zt1 h;have a1:=hs.1.1; have a2:=hs.1.2.1; have a3:=hs.1.2.2.1; have a4:=hs.1.2.2.2;have ho:=z13j h;have b1:=ho.2.1; have b2:=ho.2.2
 clear hs ho h
 have hk:=zto a1 a3;have hl:(P.map idv).length≤1:=by rw [List.length_map]; exact hP
 have hi:z8l (P.map idv)=true:=z120 _ hl;generalize u32 y=y' at *;generalize UInt64.ofNat st=st' at *;generalize (⟨u32 E,u32 S⟩:z0c)=sg at *;exact ⟨⟨Nat.le_trans hl (by omega),Nat.le_trans hk (by omega),a3⟩,⟨b1,b2,Nat.le_trans hl (by omega),hi⟩,z17f a4 (by omega) a3 a2,no,ins⟩
theorem kd36:kd (idv jD)<kd (idv jE)∧kd (idv jE)<kd (idv jA)∧kd (idv jA)<kd (idv jC)∧kd (idv jC)<kd (idv jB):=by
 have h:=zp2 [jD,jE,jA,jC,jB];rw [show zsu [jD,jE,jA,jC,jB]=true by decide +kernel] at h;have h:z8l [idv jD,idv jE,idv jA,idv jC,idv jB]=true:=h;exact ⟨zai h (i:=0) (j:=1) (by simp) (by simp) (by omega),zai h (i:=1) (j:=2) (by simp) (by simp) (by omega),zai h (i:=2) (j:=3) (by simp) (by simp) (by omega),zai h (i:=3) (j:=4) (by simp) (by simp) (by omega)⟩
theorem ne36:idv jB≠idv jA∧idv jC≠idv jA∧idv jE≠idv jD:=by
 obtain ⟨h1,h2,h3,h4⟩:=kd36;exact ⟨fun e=>by rw [e] at h4; omega, fun e=>by rw [e] at h3; omega, fun e=>by rw [e] at h1; omega⟩
abbrev gA:z00:=zf8 ⟨[],[]⟩ (idv jA,xA)
abbrev gB:z00:=zf8 gA (idv jB,xB)
abbrev gC:z00:=zf8 gA (idv jC,xC)
abbrev gD:z00:=zf8 ⟨[],[]⟩ (idv jD,xD)
abbrev gE:z00:=zf8 gD (idv jE,xE)
theorem nFA:ze4 (⟨[],[]⟩:z00) (idv jA) xA:=zjs runA (by simp) (by simp) (by simp)
theorem nFD:ze4 (⟨[],[]⟩:z00) (idv jD) xD:=zjs runD (by simp) (by simp) (by simp)
theorem RA:Rp gA:=Rp.nil.add (by simp) nFA
theorem RD:Rp gD:=Rp.nil.add (by simp) nFD
theorem idA {x:ID}:x∈gA.IDs↔x=idv jA:=by
 rw [zsq Rp.nil.fit];exact ⟨fun h=>h.elim id (fun h=>by cases h),.inl⟩
theorem idD {x:ID}:x∈gD.IDs↔x=idv jD:=by
 rw [zsq Rp.nil.fit];exact ⟨fun h=>h.elim id (fun h=>by cases h),.inl⟩
theorem nFB:ze4 gA (idv jB) xB:=zjs runB (by simp) (fun h=>ne36.1 (idA.1 h)) (by simp)
theorem nFC:ze4 gA (idv jC) xC:=zjs runC (by simp) (fun h=>ne36.2.1 (idA.1 h)) (fun p hp=>by
 rw [List.map_cons,List.map_nil,List.mem_singleton] at hp
 exact idA.2 hp)
theorem nFE:ze4 gD (idv jE) xE:=zjs runE (by simp) (fun h=>ne36.2.2 (idD.1 h)) (by simp)
theorem lnA:gA.Ops.length=1:=zyu Rp.nil.fit nFA
theorem lnD:gD.Ops.length=1:=zyu Rp.nil.fit nFD
theorem RB:Rp gB:=RA.add (by rw [lnA]; omega) nFB
theorem RC:Rp gC:=RA.add (by rw [lnA]; omega) nFC
theorem RE:Rp gE:=RD.add (by rw [lnD]; omega) nFE
theorem wasA {x:ID} {o:z0a} (h:z5q gA x=some o):x=idv jA∧o=xA:=by
 rcases zag Rp.nil.fit nFA h with h | ⟨-,h⟩
 ·exact h
 ·have:=(zdh h).1; cases this
theorem wasD {x:ID} {o:z0a} (h:z5q gD x=some o):x=idv jD∧o=xD:=by
 rcases zag Rp.nil.fit nFD h with h | ⟨-,h⟩
 ·exact h
 ·have:=(zdh h).1; cases this
theorem in_A:InS gA [97]:=z18j Rp.nil (by simp) nFA rfl rfl
theorem in_B:InS gB [97]:=by
 refine ⟨idv jA,xA,zj9 RA.fit nFB (zir Rp.nil.fit nFA),rfl,rfl,?_⟩
 rintro ⟨y,q,h1,h2,h3,h4⟩
 obtain ⟨o',p,h5,h6⟩:=zzo h4;rcases zag RA.fit nFB h5 with ⟨-,rfl⟩ | ⟨-,h⟩
 ·have h6:p∈([]:List ID):=h6
  cases h6
 ·have:=(wasA h).2; subst this;have h6:p∈([]:List ID):=h6
  cases h6
theorem in_C:¬ InS gC [97]:=z15n RA nFC rfl rfl fun z q h=>by
 have:=(wasA h).1; subst this;exact .one (zir RA.fit nFC) (show idv jA∈[idv jA] by simp)
theorem z171 (key:Str):¬ InS gD key:=by
 rintro ⟨y,q,h1,h2,-⟩
 have:=(wasD h1).2; subst this
 cases h2
theorem z17c (key:Str):¬ InS gE key:=fun h=>z171 key ((z14f RD nFE (by rintro ⟨h,-⟩; cases h) (by rintro ⟨h,-⟩; cases h)).1 h)
theorem no4A:∀ x o,z5q gA x=some o→o.Act.Kind≠4:=fun x o h=>by rw [(wasA h).2]; decide
theorem no4B:∀ x o,z5q gB x=some o→o.Act.Kind≠4:=fun x o h=>by
 rcases zag RA.fit nFB h with ⟨-,rfl⟩ | ⟨-,h⟩
 ·decide
 ·exact no4A x o h
theorem no4C:∀ x o,z5q gC x=some o→o.Act.Kind≠4:=fun x o h=>by
 rcases zag RA.fit nFC h with ⟨-,rfl⟩ | ⟨-,h⟩
 ·decide
 ·exact no4A x o h
theorem z191:ValS gE [114] ⟨1,2,0,[]⟩:=by
 refine .inl ⟨idv jE,xE,⟨⟨zir RD.fit nFE,rfl,rfl⟩, fun y q hs=>?_⟩,rfl⟩;rcases zag RD.fit nFE hs.1 with ⟨rfl,rfl⟩ | ⟨-,h⟩
 ·exact .inr ⟨rfl,Nat.le_refl _⟩
 ·obtain ⟨rfl,rfl⟩:=wasD h;exact .inr ⟨rfl,Nat.le_of_lt kd36.1⟩
theorem zux (R:Rp g) {key:Str} {i:Bool} {v:z02} (hi:i=true↔InS g key) (hv:ValS g key v):z4s g key=some (i,v,0):=by
 obtain ⟨i',v',h1,-,h2,h3⟩:=zzw R.good R.fit R.chk.1 key;rw [h1,zv6 R.fit h3 hv]
 have:i'=i:=by rw [Bool.eq_iff_iff,h2,hi]
 rw [this]
theorem z19z:z4s gA [97]=some (true,⟨0,0,0,[]⟩,0):=zux RA (by simp [in_A]) (.inr ⟨fun x o h=>no4A x o h.1 h.2.1,rfl⟩)
theorem z19x:z4s gB [97]=some (true,⟨0,0,0,[]⟩,0):=zux RB (by simp [in_B]) (.inr ⟨fun x o h=>no4B x o h.1 h.2.1,rfl⟩)
theorem z19t:z4s gC [97]=some (false,⟨0,0,0,[]⟩,0):=zux RC (by simp [in_C]) (.inr ⟨fun x o h=>no4C x o h.1 h.2.1,rfl⟩)
theorem z19y:z4s gE [114]=some (false,⟨1,2,0,[]⟩,0):=zux RE (by simp [z17c]) z191
end
section
open Go
theorem z17d:z95 gA=some ([[97]],0):=by
 obtain ⟨l,h1,h2,-,h3⟩:=z13g RA.fit.len RA.chk.1
 have:l=[[97]]:=zlv _ _ h2 (List.pairwise_singleton _ _) fun k=>by
  rw [h3,List.mem_singleton];have hl:=lnA
  constructor
  ·rintro ⟨j,hj,-,h4,h5⟩
   have:=zbj RA.fit hj
   rw [(wasA this).2] at h5;exact h5.symm
  ·rintro rfl
   have h0:0<gA.Ops.length:=by omega
   have:=zbj RA.fit h0
   have e:=(wasA this).2;exact ⟨0,h0,h0, by rw [e]; decide, by rw [e]; rfl⟩
 rw [h1,this]
end
section
open Go
variable {g a b:z00} {n m:Nat}
theorem z16n {o:z0a} (h:zcr o):inI o.Act.Value.Num∧o.Act.Value.Text.length≤9223372036854775807:=⟨h.2.2.2.1.2.2.1.2.1,h.2.2.2.1.2.2.1.2.2.2.1⟩
theorem zpx (F:Fit g n) (hn:n≤1000) (l:List ID) (hl:l.length≤1000):z1v l g=some (l.any fun x=>!decide (x∈g.IDs)):=by
 have h1:=F.len; have h2:=F.ids;have hcl:∀ x,zis x g=some (!decide (x∈g.IDs)):=fun x=>by
  obtain ⟨k,k1,-⟩:=zi3 g (by omega) F.ri x;unfold zis;rw [k1];simp only [bS]
 have main:=zf0 (F:=z1g l g) (fun s=>∃ i:Nat,s=(i:Int)∧i≤l.length∧∀ k (h:k<l.length),k<i→l[k]∈g.IDs) (fun s=>l.length - s.toNat)
  (fun b:Sum Int Unit=>(b=.inr ()∧∀ x∈l,x∈g.IDs)∨∃ i:Nat,b=.inl (i:Int)∧∃ x∈l,x∉g.IDs)
  (fun s hs=>by
   obtain ⟨i,rfl,h1,h2⟩:=hs;by_cases hi:i<l.length
   ·have hF:z1g l g (i:Int)=if !decide (l[i]∈g.IDs) then some (.inl (.inl (i:Int))) else some (.inr ((i+1:Nat):Int)):=by
     unfold z1g;rw [if_pos (by simpa using hi),z0f hi,z0u (by omega)];simp only [bS];rw [hcl];simp only [bS]
    by_cases hc:l[i]∈g.IDs
    ·rw [decide_eq_true hc,if_neg (by simp)] at hF;refine .inr ⟨_,hF,⟨i+1,rfl,hi, fun k hk hki=>?_⟩, by simp; omega⟩;by_cases hk':k=i
     ·subst hk'; exact hc
     ·exact h2 k hk (by omega)
    ·rw [decide_eq_false hc,if_pos (by simp)] at hF;exact .inl ⟨_,hF,.inr ⟨i,rfl,l[i],List.getElem_mem hi,hc⟩⟩
   ·refine .inl ⟨.inr (),?_,.inl ⟨rfl, fun x hx=>?_⟩⟩
    ·unfold z1g;rw [if_neg (by simpa using hi)]
    ·obtain ⟨k,hk,rfl⟩:=List.getElem_of_mem hx
     exact h2 k hk (by omega))
  0 ⟨0,rfl,Nat.zero_le _, fun k _ h=>by omega⟩
 obtain ⟨r,r1,r2⟩:=main;unfold z1v z3g;rw [r1];rcases r2 with ⟨rfl,h⟩ | ⟨i,rfl,x,hx,hxn⟩
 ·simp only [zu0,bS]
  have:(l.any fun x=>!decide (x∈g.IDs))=false:=by
   rw [List.any_eq_false]; intro x hx; simp [h x hx]
  rw [this]; rfl
 ·simp only [or_l,bS]
  have:(l.any fun x=>!decide (x∈g.IDs))=true:=by
   rw [List.any_eq_true]; exact ⟨x,hx, by simp [hxn]⟩
  rw [this]; simp
theorem z12f (F:Fit g n) (hn:n≤59) (hc:z3f g=some 0) {p:ID × z0a} (hw:zcr p.2) (hp:p.2.Preds.length≤20) (h1:zf3 p.2=0) (h2:sha (zfl p.2)=p.1) (hx:p.1∉g.IDs) (hq:∀ q∈p.2.Preds,q∈g.IDs):zmd g p.2=some (zf8 g p,p.1,0):=by
 obtain ⟨w1,w2⟩:=z16n hw;have hl:=F.len;have hany:(p.2.Preds.any fun x=>!decide (x∈g.IDs))=false:=by
  rw [List.any_eq_false]; intro x hx; simp [hq x hx]
 unfold zmd;rw [hc];simp only [bS];rw [if_pos (by simp),zm0 _ w1 w2,h1];simp only [bS];rw [if_neg (by simp),zzj _ w1 w2,if_pos (za9 h1),h2];simp only [bS];rw [z14c F (by omega) p hp,decide_eq_false hx];simp only [bS];rw [if_neg (by simp),zpx F (by omega) _ (by omega),hany];simp only [bS];rw [if_neg (by simp),if_neg (by simp; omega)]
end
section
open Go
variable {g:z00} {x:ID} {o:z0a}
theorem z195 (R:Rp g) (hl:g.Ops.length≤59) (N:ze4 g x o):zmd g o=some (zf8 g (x,o),x,0) :=
 z12f (p:=(x,o)) (n:=g.Ops.length) ⟨R.fit.ids,Nat.le_refl _,R.fit.ri,R.fit.op⟩ hl R.chk.1 N.wf N.sz.1 N.ok.1 N.ok.2.1 N.no N.ins
theorem zqx (R:Rp g) (hl:g.Ops.length≤59) {y K r E S st:Nat} {P:List O8} {a:z07} {h1 h2 h3:O8} (h:zm4 3 y K r E S st P a h1 h2 h3=true) (N:ze4 g (idv h3) (zkr (u32 y) (UInt64.ofNat st) P a ⟨u32 E,u32 S⟩)) :
  z2s g a (UInt64.ofNat st) (P.map idv)=some (zf8 g (idv h3,zkr (u32 y) (UInt64.ofNat st) P a ⟨u32 E,u32 S⟩),idv h3,true):=by
 have hs:zkg 3 (⟨0,P.map idv,UInt64.ofNat st,a,(⟨0,0⟩:z0c)⟩:z0a)=some (zkr (u32 y) (UInt64.ofNat st) P a ⟨u32 E,u32 S⟩,0):=(z13j h).1;unfold z2s;rw [hs];simp only [bS];rw [z195 R hl N];simp only [bS];rw [if_pos (by simp)];rfl
theorem mA:z2s (⟨[],[]⟩:z00) (⟨2,([97]:List UInt8),(⟨0,0,0,[]⟩:z02)⟩:z07) 1 []=some (gA,idv jA,true):=by
 have h:=zqx Rp.nil (by simp) runA nFA;exact h
theorem mB:z2s gA (⟨3,([97]:List UInt8),(⟨0,0,0,[]⟩:z02)⟩:z07) 2 []=some (gB,idv jB,true):=by
 have h:=zqx RA (by rw [lnA]; omega) runB nFB;exact h
theorem mC:z2s gA (⟨3,([97]:List UInt8),(⟨0,0,0,[]⟩:z02)⟩:z07) 2 [idv jA]=some (gC,idv jC,true):=by
 have h:=zqx RA (by rw [lnA]; omega) runC nFC;exact h
theorem mD:z2s (⟨[],[]⟩:z00) (⟨4,([114]:List UInt8),(⟨1,1,0,[]⟩:z02)⟩:z07) 7 []=some (gD,idv jD,true):=by
 have h:=zqx Rp.nil (by simp) runD nFD;exact h
theorem mE:z2s gD (⟨4,([114]:List UInt8),(⟨1,2,0,[]⟩:z02)⟩:z07) 7 []=some (gE,idv jE,true):=by
 have h:=zqx RD (by rw [lnD]; omega) runE nFE;exact h
theorem zgx {g:z00} {k:Str} {i:Bool} {v:z02} (h:z4s g k=some (i,v,0)):z4h g k i v=some true:=by
 unfold z4h;rw [h];simp [bS]
theorem zqa:z9z=some true:=by
 have n1:∀ n,z7d n=some (⟨1,n,0,[]⟩:z02):=fun n=>rfl;have bf:z90 (idv jD) (idv jE)=some true:=by
  unfold z90;rw [z14k,if_pos kd36.1];rfl
 unfold z9z;rw [mA];simp only [bS];rw [mB];simp only [bS];rw [mC];simp only [bS];rw [z17d];simp only [bS];rw [n1 1,n1 2];simp only [bS];rw [mD];simp only [bS];rw [mE];simp only [bS];rw [bf];simp only [bS,if_true];rw [if_pos (by simp),zok _ (by simp)];simp only [bS,if_true];rw [zgx z19z];simp only [bS,if_true];rw [zgx z19x];simp only [bS,if_true];rw [zgx z19t];simp only [bS,if_true];rw [n1 2];simp only [bS]
 rw [zgx z19y];rfl
end
section
open Go
variable {g:z00} {n m:Nat} {R:List z16} {T:List z11}
theorem z12u (F:Fit g n) (key:Str):ValS g key (vN g (zcl g key g.Ops.length)):=by
 have:=zls (g:=g) key g.Ops.length
 cases hb:zcl g key g.Ops.length with
 | none =>
  rw [hb] at this;refine .inr ⟨fun x o hs=>?_,rfl⟩;obtain ⟨i,hi,rfl,rfl⟩:=zkb F hs.1;exact this i hi ⟨hs.2.1,hs.2.2⟩
 | some b =>
  rw [hb] at this;refine .inl ⟨zb2 g b,kO g b,⟨⟨zmp F this.1,this.2.1,this.2.2.1⟩, fun y q hs=>?_⟩,rfl⟩;obtain ⟨i,hi,rfl,rfl⟩:=zkb F hs.1;rcases this.2.2.2 i hi hs.2.1 hs.2.2 with h1 | ⟨h1,h2⟩
  ·exact .inl h1
  ·exact .inr ⟨h1,(zpl F this.1 hi).1 h2⟩
theorem z17b (G:z7v g) (F:Fit g n) (K:zg2 g g.Ops.length R) {r:z16} (hr:r∈R):zb5 r.Key=true∧okV r.Value=true∧r.Value.Text.length≤100∧¬ 1000000000000<r.Stamp:=by
 obtain ⟨b,h1,h2⟩:=(K.mem r).1 hr;have h3:=zls (g:=g) r.Key g.Ops.length;rw [h1] at h3;have hl:=zmp F h3.1;rw [h2];exact ⟨zyz G F hl (.inr h3.2.1),z180 G F hl h3.2.1,(F.op _ (zdh hl).2).2.2,(z154 G F hl).2⟩
theorem zo7 (G:z7v g) (F:Fit g n) (K:zg2 g g.Ops.length R):zed ⟨R⟩=some 0:=by
 have hl:=G.e.len;have hl2:=K.len;unfold zed;rw [if_neg (by simp; omega)]
 have:=zp3 (F:=zdj ⟨R⟩) (b:=.inr ()) R.length (fun i hi=>?_) ?_ 0 (Nat.zero_le _)
 ·rw [show (0:Int)=((0:Nat):Int) from rfl,this]; rfl
 ·obtain ⟨k1,k2,k3,k4⟩:=z17b G F K (List.getElem_mem hi);unfold zdj;simp only [];rw [if_pos (by simp; omega),z0f hi];simp only [bS];rw [zyp k1];simp only [bS];rw [if_neg (by simp),zmn _ (by omega),k2,z0u (by omega)];simp only [bS,if_true];rw [if_neg (by simp),if_neg (by simpa using k4)];by_cases h0:0<i
  ·rw [if_pos (by simpa using h0)];have e1:w64 ((i:Int) - 1)=((i - 1:Nat):Int):=by rw [z12 (by omega) (by omega)]; omega
   rw [e1,z0f (by omega:i - 1<R.length)];simp only [bS]
   have:=zpi K.ord (i:=i - 1) (j:=i) (by simp; omega) (by simpa using hi) (by omega);simp only [List.getElem_map] at this;rw [zuk,decide_eq_true this];rfl
  ·rw [if_neg (by simpa using h0)];rfl
 ·unfold zdj;simp only [];rw [if_neg (by simp)]
theorem z11s (G:z7v g) (F:Fit g n) (K:zg2 g g.Ops.length R) (k:Str):∃ e,zor ⟨R⟩ k=some (vN g (zcl g k g.Ops.length),e):=by
 have hl:=G.e.len;have hl2:=K.len;obtain ⟨p,b,f1,P,f2⟩:=zu1 R (by omega) K.ord k;unfold zor;rw [zo7 G F K];simp only [bS];rw [if_neg (by simp),f1];simp only [bS]
 cases hb:b with
 | false =>
  subst hb;have hnone:zcl g k g.Ops.length=none:=by
   cases hc:zcl g k g.Ops.length with
   | none=>rfl
   | some c =>
    have hm:zn9 g c∈R:=(K.mem _).2 ⟨c, by
     show zcl g (kO g c).Act.Key _=some c
     rw [zoi hc]; exact hc,rfl⟩
    obtain ⟨j,hj,e⟩:=List.getElem_of_mem hm;have ek:R[j].Key=k:=by rw [e]; exact zoi hc
    have:=zl8 K.ord P hj ek
    have hx:∃ h:p<R.length,R[p].Key=k:=⟨by rw [← this]; exact hj, by simp only [← this]; exact ek⟩
    have:=f2.2 hx
    cases this
  rw [hnone,if_pos (by simp)];exact ⟨6,rfl⟩
 | true =>
  subst hb;obtain ⟨hp,ek⟩:=f2.1 rfl;obtain ⟨c,c1,c2⟩:=(K.mem R[p]).1 (List.getElem_mem hp);rw [ek] at c1;rw [if_neg (by simp),z0f hp,c1];simp only [bS];exact ⟨0, by rw [c2]; rfl⟩
theorem zwh (G:z7v g):(z9d g (top g g.Ops.length)).length=0↔g.Ops.length=0:=by
 constructor
 ·intro h;refine Classical.byContradiction fun hn=>?_;obtain ⟨t,t1,t2,-⟩:=zvh G 0 (by omega)
  have:zb2 g t∈z9d g (top g g.Ops.length):=(zcz G.e).2 ⟨by rw [z3j (by rw [G.e.ids]; exact t1)]; exact List.getElem_mem _, by rw [zod G.e t1]; exact t2⟩;rw [List.eq_nil_of_length_eq_zero h] at this
  cases this
 ·intro h
  have:=zsv (g:=g) (zg6 G.e (top g g.Ops.length)) fun y hy=>((zcz G.e).1 hy).1
  have:=G.e.ids
  omega
theorem z168 (G:z7v g) (F:Fit g n) (h:z3f g=some 0):∃ T R,zon g=some ((⟨(g.Ops.length:Int),⟨T⟩,⟨R⟩,z9d g (top g g.Ops.length)⟩:z3n),0)∧zkn g T∧zg2 g g.Ops.length R:=by
 obtain ⟨T,t1,t2⟩:=z146 G F h;obtain ⟨R,r1,r2⟩:=z159 G F h;refine ⟨T,R,?_,t2,r2⟩;unfold zon;rw [t1];simp only [bS];rw [if_neg (by simp),r1];simp only [bS];rw [z12s G h];rfl
theorem z148 {x y:ID} (h:kd x<kd y):¬ (0:Int)≤Lib.compareBytes x.toList y.toList:=by
 rw [zq8,if_pos h]; omega
theorem zvx (G:z7v g) (F:Fit g n) (KT:zkn g T) (KR:zg2 g g.Ops.length R):zgs (⟨(g.Ops.length:Int),⟨T⟩,⟨R⟩,z9d g (top g g.Ops.length)⟩:z3n)=some 0:=by
 have hl:=G.e.len;have hz:=zwh G;have hinc:=zg6 G.e (top g g.Ops.length);have hle:=zsv (g:=g) hinc fun y hy=>((zcz G.e).1 hy).1;rw [G.e.ids] at hle;generalize z9d g (top g g.Ops.length)=H at *;unfold zgs;simp only [bS];rw [if_neg (by simp),if_neg (by simp; omega),if_neg (by simp; omega),zns G F KT];simp only [bS];rw [if_neg (c:=((0:Int) != 0)=true) (by simp),zo7 G F KR];simp only [bS];rw [if_neg (c:=((0:Int) != 0)=true) (by simp)]
 have e:(if ((H.length:Int)==0)=true then (if decide (0<(g.Ops.length:Int))=true then some (.inl (8:Int)) else some (.inr ())) else some (.inr ()):Option (Sum Int Unit))=some (.inr ()):=by
  by_cases c:H.length=0
  ·have c2:=hz.1 c;rw [if_pos (by simp [c]),if_neg (by simp [c2])]
  ·exact if_neg (by simpa using c)
 rw [e];simp only [zu0];have key:∃ b,iter (zae (⟨(g.Ops.length:Int),⟨T⟩,⟨R⟩,H⟩:z3n) (H.length:Int)) 1=some b∧b=.inr ():=by
  refine z62 (F:=zae _ _) (H.length - 1) (fun i s=>s=((i+1:Nat):Int)) _ (fun i s hi hs=>?_) (fun s hs=>?_) 1 0 (Nat.zero_le _) rfl
  ·subst hs;unfold zae;simp only [];have e1:w64 (((i+1:Nat):Int) - 1)=((i:Nat):Int):=by rw [z12 (by omega) (by omega)]; omega
   rw [if_pos (by simp; omega),e1,z0f (by omega:i<H.length),z0f (by omega:i+1<H.length),z0u (by omega)];simp only [bS];rw [show zg4 H[i] H[i+1]=some (Lib.compareBytes H[i].toList H[i+1].toList) from rfl];simp only [bS];rw [if_neg (by simpa using z148 (zai hinc (i:=i) (j:=i+1) (by omega) (by omega) (by omega)))];exact ⟨_,rfl,rfl⟩
  ·subst hs;unfold zae;simp only [];rw [if_neg (by simp; omega)];exact ⟨_,rfl,rfl⟩
 obtain ⟨b,b1,rfl⟩:=key;rw [b1];rfl
theorem z106 (G:z7v g) (F:Fit g n) (KT:zkn g T) (KR:zg2 g g.Ops.length R) (k:Str):∃ b,zj5 (⟨(g.Ops.length:Int),⟨T⟩,⟨R⟩,z9d g (top g g.Ops.length)⟩:z3n) k=some (b,vN g (zcl g k g.Ops.length),0)∧(b=true↔InS g k):=by
 obtain ⟨b,b1,b2⟩:=z11i G F KT k;obtain ⟨e,e1⟩:=z11s G F KR k;refine ⟨b,?_,b2⟩;unfold zj5;rw [zvx G F KT KR];simp only [bS];rw [if_neg (by simp),b1];simp only [bS];rw [e1];rfl
theorem zrl (a0:z00) (a1:Str) (w0:z7o a0) (_:a1.length≤9223372036854775807):z7j a0 a1=some true:=by
 obtain ⟨b,b1,b2⟩:=z16g [a0];unfold z7j;rw [zqa];simp only [bS];rw [b1];simp only [bS]
 cases b with
 | true=>rfl
 | false =>
 have S:zvp a0:=(b2 rfl).2 a0 (by simp);obtain ⟨c,c1,c2,c3⟩:=zuj w0;simp only [Bool.false_eq_true,if_false];rw [c2];simp only [bS];by_cases h0:c=0
 ·subst h0;rw [if_neg (by simp)];by_cases hk:100<a1.length
  ·rw [if_pos (by simp; omega)];rfl
  rw [if_neg (by simp; omega)];simp only [bS,Bool.not_true,Bool.false_eq_true,if_false];have G:=c3.1 rfl;have F:=z18y G S;have hl:=G.e.len;obtain ⟨T,R,f1,KT,KR⟩:=z168 G F c1;obtain ⟨l,k1,k2,k3,-⟩:=z13g hl c1;rw [f1];simp only [bS];rw [k1];simp only [bS];rw [if_neg (by simp),if_neg (by simp),decide_eq_false (by omega)];simp only [bS,Bool.false_eq_true,if_false];rw [z2y (by simp only [List.length_nil]; omega),List.nil_append]
  simp only [bS];rw [z2y (by simp only [List.length_singleton]; omega)];simp only [bS]
  have:=zp3 (F:=z4g a0 ((⟨(a0.Ops.length:Int),⟨T⟩,⟨R⟩,z9d a0 (top a0 a0.Ops.length)⟩:z3n),0) (l,0) (l++[a1])) (b:=.inr ()) (l++[a1]).length (fun i hi=>?_) ?_ 0 (Nat.zero_le _)
  ·refine (congrArg (fun z=>z67 z _) this).trans ?_;rfl
  ·have hi':i<l.length+1:=by simpa using hi
   obtain ⟨is,v,q1,-,q2,q3⟩:=zzw G F c1 (l++[a1])[i];obtain ⟨b,r1,r2⟩:=z106 G F KT KR (l++[a1])[i];have hv:=zv6 F q3 (z12u F (l++[a1])[i]);have hb:is=b:=by rw [Bool.eq_iff_iff,q2,r2]
   unfold z4g;simp only [];rw [if_pos (by simp; omega),z0f hi];simp only [bS];rw [q1];simp only [bS];rw [r1,hv,hb,z0u (by omega)];simp only [bS,bne_self_eq_false,Bool.false_eq_true,if_false,decide_true,Bool.not_true];by_cases h1:0<i
   ·rw [if_pos (by simpa using h1)];by_cases h2:i<l.length
    ·rw [if_pos (by simpa using h2)];have e1:w64 ((i:Int) - 1)=((i - 1:Nat):Int):=by rw [z12 (by omega) (by omega)]; omega
     rw [e1,z0f (by simp; omega:i - 1<(l++[a1]).length)];simp only [bS]
     have:=zpi k2 (i:=i - 1) (j:=i) (by omega) h2 (by omega)
     rw [List.getElem_append_left (by omega:i - 1<l.length),List.getElem_append_left h2,zuk,decide_eq_true this];rfl
    ·rw [if_neg (by simpa using h2)];rfl
   ·rw [if_neg (by simpa using h1)];rfl
  ·unfold z4g;simp only [];rw [if_neg (by simp)]
 ·rw [if_pos (by simpa using h0)];rfl
end
end Go.Proofs.YtcneilabmjkdlabGreatDoor
