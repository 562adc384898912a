import Derived.Test.YthgpinfkodaefaaGreatDoorQe
set_option linter.unusedSimpArgs false
set_option linter.unusedVariables false
namespace Go.Proofs.YthgpinfkodaefaaGreatDoor
section
open Go
theorem kd3:kd (idv jG)<kd (idv jH)∧kd (idv jH)<kd (idv jF):=by
 have h:=zl6 [jG,jH,jF]
 rw [show zrk [jG,jH,jF]=true by decide +kernel] at h
 have h:z74 [idv jG,idv jH,idv jF]=true:=h
 exact ⟨z8t h (i:=0) (j:=1) (by simp) (by simp) (by omega),z8t h (i:=1) (j:=2) (by simp) (by simp) (by omega)⟩
theorem ne3:idv jG≠idv jF∧idv jH≠idv jG∧idv jH≠idv jF:=by
 obtain ⟨h1,h2⟩:=kd3
 exact ⟨fun e=>by rw [e] at h1; omega, fun e=>by rw [e] at h1; omega, fun e=>by rw [e] at h2; omega⟩
abbrev hF:z00:=zbc ⟨[],[]⟩ (idv jF,xF)
abbrev hG:z00:=zbc hF (idv jG,xG)
abbrev hH:z00:=zbc hG (idv jH,xH)
theorem fF:zcn (⟨[],[]⟩:z00) (idv jF) xF:=zcz runF (by simp) (by simp) (by simp)
theorem QF:Rp hF:=Rp.nil.add (by simp) fF
theorem memF {x:ID}:x∈hF.IDs↔x=idv jF:=by
 rw [zmw Rp.nil.fit]
 exact ⟨fun h=>h.elim id (fun h=>by cases h),.inl⟩
theorem fG:zcn hF (idv jG) xG:=zcz runG (by simp) (fun h=>ne3.1 (memF.1 h)) (by simp)
theorem ln1:hF.Ops.length=1:=zli Rp.nil.fit fF
theorem QG:Rp hG:=QF.add (by rw [ln1]; omega) fG
theorem ln2:hG.Ops.length=2:=by rw [zli QF.fit fG,ln1]
theorem memG {x:ID}:x∈hG.IDs↔x=idv jG∨x=idv jF:=by rw [zmw QF.fit,memF]
theorem nwH:zcn hG (idv jH) xH:=zcz runH (by simp) (fun h=>(memG.1 h).elim ne3.2.1 ne3.2.2) (by simp)
theorem QH:Rp hH:=QG.add (by rw [ln2]; omega) nwH
theorem isF {x:ID} {o:z05} (h:z1a hF x=some o):x=idv jF∧o=xF:=by
 rcases z8n Rp.nil.fit fF h with h | ⟨-,h⟩
 ·
  exact h
 ·
  have:=(z42 h).1; cases this
theorem isG {x:ID} {o:z05} (h:z1a hG x=some o):(x=idv jG∧o=xG)∨(x=idv jF∧o=xF):=by
 rcases z8n QF.fit fG h with h | ⟨-,h⟩
 ·
  exact .inl h
 ·
  exact .inr (isF h)
theorem isH {x:ID} {o:z05} (h:z1a hH x=some o):(x=idv jH∧o=xH)∨(x=idv jG∧o=xG)∨(x=idv jF∧o=xF):=by
 rcases z8n QG.fit nwH h with h | ⟨-,h⟩
 ·
  exact .inl h
 ·
  exact .inr (isG h)
theorem set1:z3m (⟨[],[]⟩:z00) 5 1000000000000=some (hF,true):=by
 have:z15 (⟨[],[]⟩:z00) (⟨4,[114],⟨1,5,0,[]⟩⟩:z06) 1000000000000 []=some (hF,idv jF,true):=by
  have h:=ziy Rp.nil (by simp) runF fF
  exact h
 unfold z3m z2e
 simp only [bS]
 rw [this]
 rfl
theorem set2:z3m hF 6 999999999999=some (hG,true):=by
 have:z15 hF (⟨4,[114],⟨1,6,0,[]⟩⟩:z06) 999999999999 []=some (hG,idv jG,true):=by
  have h:=ziy QF (by rw [ln1]; omega) runG fG
  exact h
 unfold z3m z2e
 simp only [bS]
 rw [this]
 rfl
theorem set3:z15 hG (⟨1,[],⟨0,0,0,[]⟩⟩:z06) 0 []=some (hH,idv jH,true):=by
 have h:=ziy QG (by rw [ln2]; omega) runH nwH
 exact h
theorem no2H (k:Str):¬ InS hH k:=by
 rintro ⟨y,q,h1,h2,-⟩
 rcases isH h1 with ⟨-,rfl⟩ | ⟨-,rfl⟩ | ⟨-,rfl⟩ <;> cases h2
theorem no2F (k:Str):¬ InS hF k:=by
 rintro ⟨y,q,h1,h2,-⟩
 rw [(isF h1).2] at h2; cases h2
theorem no2E (k:Str):¬ InS (⟨[],[]⟩:z00) k:=by
 rintro ⟨y,q,h1,-⟩
 have:=(z42 h1).1; cases this
theorem valF:zs4 hF [114] ⟨1,5,0,[]⟩ :=
 .inl ⟨idv jF,xF,⟨⟨zea Rp.nil.fit fF,rfl,rfl⟩, fun y q hs=>by obtain ⟨rfl,rfl⟩:=isF hs.1; exact .inr ⟨rfl,Nat.le_refl _⟩⟩,rfl⟩
theorem valH:zs4 hH [114] ⟨1,5,0,[]⟩:=by
 refine .inl ⟨idv jF,xF,⟨⟨zc2 QG.fit nwH (zc2 QF.fit fG (zea Rp.nil.fit fF)),rfl,rfl⟩, fun y q hs=>?_⟩,rfl⟩
 rcases isH hs.1 with ⟨-,rfl⟩ | ⟨-,rfl⟩ | ⟨rfl,rfl⟩
 ·
  have:=hs.2.1; cases this
 ·
  exact .inl (show UInt64.ofNat 999999999999<UInt64.ofNat 1000000000000 by decide)
 ·
  exact .inr ⟨rfl,Nat.le_refl _⟩
theorem z18t {k:Str} (hk:k≠[114]):zs4 hH k ⟨0,0,0,[]⟩:=.inr ⟨fun x o hs=>by
 rcases isH hs.1 with ⟨-,rfl⟩ | ⟨-,rfl⟩ | ⟨-,rfl⟩
 ·
  have:=hs.2.1; cases this
 ·
  exact hk hs.2.2.symm
 ·
  exact hk hs.2.2.symm,rfl⟩
theorem z1b4 {k:Str} (hk:k≠[114]):zs4 hF k ⟨0,0,0,[]⟩:=.inr ⟨fun x o hs=>by
 rw [(isF hs.1).2] at hs
 exact hk hs.2.2.symm,rfl⟩
theorem valE (k:Str):zs4 (⟨[],[]⟩:z00) k ⟨0,0,0,[]⟩:=.inr ⟨fun x o hs=>(by have:=(z42 hs.1).1; cases this),rfl⟩
theorem z102 {g:z00} (R:Rp g) {k:Str} {v:z03} (h1:¬ InS g k) (h2:zs4 g k v):z2n g k=some (false,v,0):=zqw R (by simp [h1]) h2
theorem keyH {k:Str}:zi8 hH hH.Ops.length k↔k=[114]:=by
 constructor
 ·
  rintro ⟨j,hj,-,h1,h2⟩
  rcases isH (z68 QH.fit hj) with ⟨-,e⟩ | ⟨-,e⟩ | ⟨-,e⟩
  ·
   rw [e] at h1; exact absurd rfl h1
  ·
   rw [e] at h2; exact h2.symm
  ·
   rw [e] at h2; exact h2.symm
 ·
  rintro rfl
  obtain ⟨i,h1,h2⟩:=(z7v QH.fit).1 (zc2 QG.fit nwH (zea QF.fit fG))
  obtain ⟨hi,h3⟩:=List.getElem?_eq_some_iff.1 h2
  exact ⟨i,hi,hi, by rw [h3]; decide, by rw [h3]; rfl⟩
theorem keyE {k:Str}:¬ zi8 (⟨[],[]⟩:z00) 0 k:=zjx
theorem z1ae:z2q hH=some ([[114]],0):=by
 obtain ⟨l,h1,-,h2,-,h3⟩:=zjs QH.fit.len QH.chk.1
 have:l=[[114]]:=zdr _ _ h2 (List.pairwise_singleton _ _) fun k=>by rw [h3,keyH,List.mem_singleton]
 rw [h1,this]
theorem z1b2:z2q (⟨[],[]⟩:z00)=some ([],0):=by
 obtain ⟨l,h1,-,h2,-,h3⟩:=zjs Rp.nil.fit.len Rp.nil.chk.1
 have:l=[]:=List.eq_nil_iff_forall_not_mem.2 fun k hk=>keyE ((h3 k).1 hk)
 rw [h1,this]
theorem znx {g:z00} (R:Rp g) {f:Str→z0b} (hf:∀ k,z2h g k=some (f k,0)∧z2n g k=some ((f k).in_,(f k).v,0)∧((f k).in_=true↔InS g k)∧zs4 g k (f k).v) {k:Str} {v:z03} (h1:¬ InS g k) (h2:zs4 g k v):f k=⟨false,v⟩:=by
 obtain ⟨-,-,h3,h4⟩:=hf k
 have e1:(f k).in_=false:=by
  cases h:(f k).in_ with
  | false=>rfl
  | true=>exact absurd (h3.1 h) h1
 have e2:=zuf R.fit h4 h2
 cases h:f k
 rw [h] at e1 e2
 simp only at e1 e2
 rw [e1,e2]
theorem z11i:z3p hH hF=some ([],0):=by
 obtain ⟨fa,ha⟩:=ziu QH
 obtain ⟨fb,hb⟩:=ziu QF
 obtain ⟨d,d1,d2,-⟩:=zrj QH QF (fun k=>(ha k).1) (fun k=>(hb k).1)
 have:(d.filter fun k=>!decide (fa k=fb k))=[]:=by
  rw [List.filter_eq_nil_iff]
  intro k _
  by_cases e:k=[114]
  ·
   subst e
   rw [znx QH ha (no2H _) valH,znx QF hb (no2F _) valF]
   simp
  ·
   rw [znx QH ha (no2H _) (z18t e),znx QF hb (no2F _) (z1b4 e)]
   simp
 rw [d1,this]
theorem z13j:z3p (⟨[],[]⟩:z00) hH=some ([[114]],0):=by
 obtain ⟨fa,ha⟩:=ziu Rp.nil
 obtain ⟨fb,hb⟩:=ziu QH
 obtain ⟨d,d1,d2,d3⟩:=zrj Rp.nil QH (fun k=>(ha k).1) (fun k=>(hb k).1)
 have:(d.filter fun k=>!decide (fa k=fb k))=[[114]]:=zdr _ _ (List.Pairwise.sublist List.filter_sublist d2) (List.pairwise_singleton _ _) fun k=>by
  rw [List.mem_filter,d3,List.mem_singleton,keyH]
  constructor
  ·
   rintro ⟨h | h,-⟩
   ·
    exact absurd h keyE
   ·
    exact h
  ·
   rintro rfl
   refine ⟨.inr rfl,?_⟩
   rw [znx Rp.nil ha (no2E _) (valE _),znx QH hb (no2H _) valH]
   decide
 rw [d1,this]
theorem Rps0:Rps []:=⟨by simp, fun g hg=>(by cases hg), fun g hg=>(by cases hg)⟩
theorem z191:z1s []=some (⟨[],[]⟩,0):=(zlb Rps0).1
theorem z172:z8p []=some (⟨[],[]⟩,0):=by
 obtain ⟨W,h1,-,h2,h3⟩:=z19m Rps0
 have:W=⟨[],[]⟩:=zez h3.fit zpa fun x=>by
  rw [h2,if_neg (by rintro ⟨h,-⟩; exact h rfl)]; rfl
 rw [h1,this]
theorem z17t:z4t []=some ([],0):=by
 obtain ⟨n,h1,-,h2⟩:=zoc Rps0
 rw [h1,h2]; rfl
theorem z1au:z5p []=some (true,0):=(z12c Rps0 fun g hg=>by cases hg).1
def zpl:z00:=⟨[ze2 (Vector.replicate 32 0) ((0:Nat):Int) 1],[]⟩
theorem bad8:z4a zpl=some 8:=by
 unfold z4a zpl
 rw [if_neg (by simp),if_pos (by simp)]
theorem z187:z1r (List.replicate 6 (⟨[],[]⟩:z00))=some 4:=by
 unfold z1r
 rw [if_pos (by simp)]
theorem z19o:z1s (List.replicate 6 (⟨[],[]⟩:z00))=some (⟨[],[]⟩,4):=by
 unfold z1s
 rw [z187]
 rfl
theorem z16g:z1r [hF,zpl]=some 8:=by
 have s0:z1x [hF,zpl] 0=some (.inr 1):=by
  unfold z1x
  rw [if_pos (by simp), show idx [hF,zpl] 0=some hF from rfl]
  simp only [bS]
  rw [QF.chk.1]
  rfl
 have s1:z1x [hF,zpl] 1=some (.inl (.inl 8)):=by
  unfold z1x
  rw [if_pos (by simp), show idx [hF,zpl] 1=some zpl from rfl]
  simp only [bS]
  rw [bad8]
  rfl
 unfold z1r
 rw [if_neg (by simp),z17 s0,z14 s1]
 rfl
theorem z19y:z1r [zpl]=some 8:=by
 have s0:z1x [zpl] 0=some (.inl (.inl 8)):=by
  unfold z1x
  rw [if_pos (by simp), show idx [zpl] 0=some zpl from rfl]
  simp only [bS]
  rw [bad8]
  rfl
 unfold z1r
 rw [if_neg (by simp),z14 s0]
 rfl
theorem z15z:z1s [hF,zpl]=some (⟨[],[]⟩,8):=by
 unfold z1s
 rw [z16g]
 rfl
theorem z1ac:z5p [zpl]=some (false,8):=by
 unfold z5p
 rw [z19y]
 rfl
theorem askb:z2n zpl [114]=some (false,⟨0,0,0,[]⟩,8):=by
 unfold z2n
 rw [bad8]
 rfl
theorem z199:z2q zpl=some ([],8):=zzb (by decide) bad8
theorem z127:z3p hF zpl=some ([],8):=by
 obtain ⟨l,h1,-,-,-,-⟩:=zjs QF.fit.len QF.chk.1
 unfold z3p
 rw [h1]
 simp only [bS]
 rw [if_neg (by simp),z199]
 rfl
theorem z19u:z1r (List.replicate 5 (⟨[],[]⟩:z00))=some 0 :=
 (zo5 (by simp) (fun g hg=>by rw [(List.mem_replicate.1 hg).2]; exact Rp.nil) fun g hg h hh x o q h1 h2=>by
  rw [(List.mem_replicate.1 hg).2] at h1
  have:=(z42 h1).1; cases this).1
theorem z16m:z1s zfy=some (⟨[],[]⟩,4):=by
 rw [(zlb R65.1).1]
 unfold zmi
 rw [if_pos (by rw [R65.2]; omega)]
theorem z14n:z4t zfy=some ([],4):=by
 obtain ⟨n,h1,-,h2⟩:=zoc R65.1
 rw [h1,h2,if_pos (by rw [R65.2]; omega)]
theorem z174:∃ W,z1s (zfy.take 4)=some (W,0)∧W.Ops.length=52:=by
 refine ⟨_,?_,R52.2⟩
 rw [(zlb R52.1).1]
 unfold zmi
 rw [if_neg (by rw [R52.2]; omega)]
theorem RFG:Rps [hF,hG]:=z176 QG (by simp) (fun h hh=>by
 simp only [List.mem_cons,List.not_mem_nil,or_false] at hh
 rcases hh with rfl | rfl
 ·
  exact QF
 ·
  exact QG) fun h hh x o ho=>by
 simp only [List.mem_cons,List.not_mem_nil,or_false] at hh
 rcases hh with rfl | rfl
 ·
  exact zc2 QF.fit fG ho
 ·
  exact ho
theorem z16f:z37 [hF,hG]=hG:=zez (zev RFG) QG.fit fun x=>z15g fun o=>by
 rw [zh5 RFG,zxw RFG]
 constructor
 ·
  rintro ⟨h,hh,ho⟩
  simp only [List.mem_cons,List.not_mem_nil,or_false] at hh
  rcases hh with rfl | rfl
  ·
   exact zc2 QF.fit fG ho
  ·
   exact ho
 ·
  intro ho
  exact ⟨hG, by simp,ho⟩
theorem z16h:∃ a b,z4t [hF,hG]=some ([a,b],0)∧a.length=1∧b.length=0:=by
 obtain ⟨n,h1,-,h2⟩:=zoc RFG
 have e1:=zr0 RFG (g:=hF) (by simp)
 have e2:=zr0 RFG (g:=hG) (by simp)
 rw [z16f] at h2 e1 e2
 rw [if_neg (by rw [ln2]; omega)] at h2
 rw [QF.fit.ids,QG.fit.ids,ln1,ln2] at e1
 rw [QG.fit.ids,ln2] at e2
 refine ⟨hG.IDs.filter (fun x=>!decide (x∈hF.IDs)),hG.IDs.filter (fun x=>!decide (x∈hG.IDs)), by rw [h1,h2]; rfl,?_,?_⟩
 ·
  omega
 ·
  omega
theorem cut4:cut zfy 0 4=some (zfy.take 4):=rfl
theorem zsj:z7o=some true:=by
 have nm:∀ n,z2e n=some (⟨1,n,0,[]⟩:z03):=fun n=>rfl
 have k6:mkn 48 (⟨[],[]⟩:z00) 6=some (List.replicate 6 ⟨[],[]⟩):=zhn (n:=6) (by decide) (by decide)
 have k5:mkn 48 (⟨[],[]⟩:z00) 5=some (List.replicate 5 ⟨[],[]⟩):=zhn (n:=5) (by decide) (by decide)
 obtain ⟨W,w1,w2⟩:=z174
 obtain ⟨a,b,l1,l2,l3⟩:=z16h
 have hb:(⟨[ze2 (Vector.replicate 32 0) ((0:Nat):Int) 1],[]⟩:z00)=zpl:=rfl
 unfold z7o
 rw [set1]
 simp only [bS]
 rw [set2]
 simp only [bS]
 rw [set3]
 simp only [bS,if_true]
 rw [nm 5]
 simp only [bS]
 rw [zbm (z102 QH (no2H _) valH)]
 simp only [bS,if_true]
 rw [zbm (z102 QH (no2H _) (z18t (by decide)))]
 simp only [bS,if_true]
 rw [zbm (z102 Rp.nil (no2E _) (valE _))]
 simp only [bS]
 rw [z1ae,z1b2,z11i,z13j,z191,z172,z17t,z1au]
 simp only [bS]
 rw [zjj _ (by simp)]
 have z0:((0:Int)==0)=true:=rfl
 have zl:((([]:List Str).length:Int)==0)=true:=rfl
 have zo:((([]:List z05).length:Int)==0)=true:=rfl
 have zi:((([]:List (List ID)).length:Int)==0)=true:=rfl
 simp only [bS,z0,zl,zo,zi,if_true]
 simp only [hb]
 rw [k6]
 simp only [bS]
 rw [z19o,z15z,z1ac,askb,z199,z127]
 simp only [bS]
 rw [k5]
 have z4:((4:Int)==4)=true:=rfl
 have z8:((8:Int)==8)=true:=rfl
 simp only [bS,z4,z8,if_true]
 rw [z19u]
 simp only [bS,z0]
 rw [z11r]
 simp only [zn7]
 rw [z16m,z14n,cut4]
 simp only [bS]
 rw [w1]
 simp only [bS]
 rw [l1]
 simp only [bS,z4,z0,if_true]
 rw [w2,if_pos (by decide),if_pos (by simp), show idx [a,b] 0=some a from rfl]
 simp only [bS]
 rw [if_pos (by simp [l2]), show idx [a,b] 1=some b from rfl]
 simp only [bS]
 rw [if_pos (by simp [l3]),zqj]
 rfl
end
end Go.Proofs.YthgpinfkodaefaaGreatDoor
