import Derived.Test.YtojceajkeefnpaaGreatDoorRc
set_option linter.unusedSimpArgs false
set_option linter.unusedVariables false
namespace Go.Proofs.YtojceajkeefnpaaGreatDoor
section
open Go Go.Shelf Go.RowKit Go.Sort
section
variable {α:Type} (x0:α) (cf:α→α→Int)
def ltI (l:List α) (i j:Nat):Int:=cf (l.getD i x0) (l.getD j x0)
def srtG (l:List α):List α:=(pdq (ltOf (ltI x0 cf l)) (Array.range l.length) 0 l.length (Lib.bitLen l.length) true true).toList.map fun i=>l.getD i x0
theorem swoI (hO:SWO (ltOf cf)) (l:List α):SWO (ltOf (ltI x0 cf l)) where
 irrefl x:=hO.irrefl _
 trans x y z h1 h2:=hO.trans _ _ _ h1 h2
 ntrans x y z h1 h2:=hO.ntrans _ _ _ h1 h2
theorem pdqI (hO:SWO (ltOf cf)) (l:List α):∃ d:List Nat,d.Perm (List.range l.length)∧srtG x0 cf l=d.map (fun i=>l.getD i x0)∧d.Pairwise fun i j=>¬ cf (l.getD j x0) (l.getD i x0)<0:=by
 have h:=pdq_sorts (ltOf (ltI x0 cf l)) (swoI x0 cf hO l) (Array.range l.length) 0 l.length (Lib.bitLen l.length) true true (Nat.zero_le _) (by simp) (Or.inl rfl);have hs:(pdq (ltOf (ltI x0 cf l)) (Array.range l.length) 0 l.length (Lib.bitLen l.length) true true).size=l.length:=by rw [h.1.1]; simp
 refine ⟨_,?_,rfl,?_⟩
 ·have p:=h.1.2.2;rw [Array.extract_eq_self_of_le (by omega),Array.extract_eq_self_of_le (by simp)] at p
  simpa using p
 ·rw [List.pairwise_iff_getElem];intro i j hi hj hij;have q:=h.2 i j (Nat.zero_le _) hij (by simpa [hs] using hj);rw [getElem!_pos _ i (by simpa using hi),getElem!_pos _ j (by simpa using hj)] at q
  simpa [ltOf,ltI] using q
theorem zt7 (hO:SWO (ltOf cf)) (l:List α):(srtG x0 cf l).Perm l:=by
 obtain ⟨d,h1,h2,_⟩:=pdqI x0 cf hO l;rw [h2];refine (h1.map _).trans (List.Perm.of_eq ?_)
 apply List.ext_getElem (by simp)
 intro i h1 h2;simp [List.getD_eq_getElem?_getD,h2]
theorem zuu (hO:SWO (ltOf cf)) (l:List α):(srtG x0 cf l).Pairwise fun x y=>¬ cf y x<0:=by
 obtain ⟨d,_,h2,h3⟩:=pdqI x0 cf hO l;rw [h2,List.pairwise_map];exact h3
theorem z12x (hO:SWO (ltOf cf)) (l:List α):(srtG x0 cf l).length=l.length:=(zt7 x0 cf hO l).length_eq
end
theorem zwm {α:Type} {R:Rep α} {S:Blk} {w:World}:∀ {l:List α} {cs:List Value} (i:Nat) (hi:i<l.length),z6u R S w cs l→R.rel S w ((cs.drop (i * R.sz)).take R.sz) l[i]
 | x::l,cs,0,hi,h=>by
  obtain ⟨c,d,rfl,h1,h2⟩:=h
  have:=R.len h1
  simp [← this,h1]
 | x::l,cs,i+1,hi,h=>by
  obtain ⟨c,d,rfl,h1,h2⟩:=h;have hc:=R.len h1
  have:=zwm i (by simpa using hi) h2
  rw [show (i+1) * R.sz=c.length+i * R.sz by rw [hc,Nat.add_mul]; omega]
  simpa using this
theorem zsd (k:Nat):∀ (n:Nat) (cs:List Value),cs.length=n * k→(List.range n).flatMap (fun i=>(cs.drop (i * k)).take k)=cs
 | 0,cs,h=>by simp at h; simp [h]
 | n+1,cs,h=>by
  have ih:=zsd k n (cs.take (n * k)) (by rw [List.length_take,h,Nat.add_mul]; omega);rw [List.range_succ,List.flatMap_append];have e:(List.range n).flatMap (fun i=>(cs.drop (i * k)).take k)=(List.range n).flatMap (fun i=>((cs.take (n * k)).drop (i * k)).take k):=by
   simp only [List.flatMap_def]
   congr 1
   apply List.map_congr_left
   intro i hi;have hi':i<n:=by simpa using hi
   rw [List.drop_take,List.take_take]
   have:k≤n * k - i * k:=by
    rw [← Nat.sub_mul];exact Nat.le_mul_of_pos_left k (by omega)
   rw [Nat.min_eq_left this]
  rw [e,ih];simp only [List.flatMap_cons,List.flatMap_nil,List.append_nil];rw [List.take_of_length_le (l:=cs.drop (n * k)) (by rw [List.length_drop,h,Nat.add_mul]; omega),List.take_append_drop]
theorem z108 {α:Type} {R:Rep α} {S:Blk} {w:World} {enc:Nat→List Value} {g:Nat→α} (h:∀ i,R.rel S w (enc i) (g i)):∀ is:List Nat,z6u R S w (is.flatMap enc) (is.map g)
 | []=>rfl
 | i::is=>⟨enc i,is.flatMap enc,List.flatMap_cons,h i,z108 h is⟩
theorem z10f {α:Type} {R:Rep α} (hagg:R.agg=true) (x0:α) (r0:List Value) (hz:∀ S w,R.rel S w r0 x0) (cf:α→α→Int) (hO:SWO (ltOf cf)) {P:Program} {f g T:Nat}
  (hnone:∀ (cap:Nat) (w:World),Calls P f #[.slice none 0 cap,.func (.func g) #[] #[]] w fun e w'=>e=.returned (.tuple #[])∧w'=w)
  (hsome:∀ (enc:Nat→List Value) (hk:∀ x,(enc x).length=R.sz) (h1:∀ x,∀ v∈enc x,v.oneCell'=true) (cf':Nat→Nat→Int) (hO:SWO (ltOf cf')) (blk cap:Nat) (d:Array Nat) (w:World),
   CmpLays P g #[] enc R.sz cf' blk 0 d.size w→HoldsK enc R.sz w blk 0 d→blk<w.heap.size→d.size<4611686018427387904 →
   Calls P f #[.slice (some ⟨blk,0,none⟩) d.size cap,.func (.func g) #[] #[]] w fun e w'=>e=.returned (.tuple #[])∧∃ n os,w'=sortWorldK enc R.sz w blk 0 n (pdq (ltOf cf') d 0 d.size (Lib.bitLen d.size) true true) os)
  (hcmp:∀ (x y:α) (c d:List Value) (S:Blk) (w W:World),R.rel S w c x→R.rel S w d y→Calls P g #[.agg c.toArray,.agg d.toArray] W fun e w'=>e=.returned (.int .i64 (cf x y))∧∃ q os',w'=grow (W.drewN q) os')
  (p0:Value) (c0:List α):z2b P f [.val p0,.val (.func (.func g) #[] #[])] [(1,some (p0,.list R T c0))] (chk (c0.length≤1000000) >>= fun _=>some (srtG x0 cf c0))
   (fun r nv=>⟨[],[(1,some (p0,.list R T r))]⟩):=by
 intro r hr H vs w hvs hres;have hb:c0.length≤1000000∧r=srtG x0 cf c0:=by
  unfold chk at hr
  split at hr
  ·rename_i h; simp at hr; exact ⟨h,hr.symm⟩
  ·simp at hr
 obtain ⟨hlen0,rfl⟩:=hb
 match vs,hvs with
 | [v0,v1],hvs =>
 obtain ⟨h0,h1,_⟩:=hvs;have e0:v0=p0:=h0.1;have e1:v1=.func (.func g) #[] #[]:=h1.1;subst e0; subst e1;have hc:=hres.conts 1 v0 _ rfl;have only:∀ r v c (q:z4j),lr [(1,some (v0,q))] r=some (v,c)→r=1∧v=v0∧c=q:=fun r v c q h=>by
  rw [z1z] at h
  split at h
  ·rename_i e; cases h; exact ⟨e.symm,rfl,rfl⟩
  ·simp [lr,lk] at h
 have hlen:=z12x x0 cf hO;rcases hc with ⟨rfl,rfl⟩ | ⟨b,o,k1,k2,b',cap,C,k3,rfl,k4,k5,k6,k7⟩
 ·refine (hnone 0 w).mono fun e w' ⟨he,hw⟩=>?_;subst hw;refine ⟨fun _=>undef,[],he,trivial, fun r v c h=>?_, fun r v c r' v' c' h h' hne=>?_, fun r v c h b hb=>?_,zlv.rfl'⟩
  ·obtain ⟨rfl,rfl,rfl⟩:=only _ _ _ _ h
   have:srtG x0 cf ([]:List α)=[]:=List.eq_nil_of_length_eq_zero (by rw [hlen]; rfl);exact .inl ⟨rfl,this⟩
  ·exact absurd ((only _ _ _ _ h).1.trans (only _ _ _ _ h').1.symm) hne
  ·obtain ⟨rfl,rfl,rfl⟩:=only _ _ _ _ h; cases hb
 ·subst k3;simp only [z4s,Option.some.injEq] at k1;subst k1;have hlt:b'<w.heap.size:=(Array.getElem?_eq_some_iff.1 k2).1;have hC:c0.length * R.sz≤C.size:=by rw [k6]; exact Nat.mul_le_mul_right _ k4
  let cs:=C.toList.take (c0.length * R.sz)
  have hcs:z6u R (Shr H [(1,some (.slice (some ⟨b',0,none⟩) c0.length cap,.list R T c0))] w) w cs c0:=k7
  let enc:Nat→List Value:=fun i=>if i<c0.length then (cs.drop (i * R.sz)).take R.sz else r0
  have henc:∀ i,R.rel (Shr H [(1,some (.slice (some ⟨b',0,none⟩) c0.length cap,.list R T c0))] w) w (enc i) (c0.getD i x0):=fun i=>by
   by_cases hi:i<c0.length
   ·have:=zwm i hi hcs
    simp only [enc,if_pos hi,List.getD_eq_getElem?_getD,List.getElem?_eq_getElem hi,Option.getD_some]; exact this
   ·simp only [enc,if_neg hi,List.getD_eq_getElem?_getD,List.getElem?_eq_none (Nat.le_of_not_lt hi),Option.getD_none]; exact hz _ _
  have hk:∀ i,(enc i).length=R.sz:=fun i=>R.len (henc i);have hflat:(List.range c0.length).flatMap enc=cs:=by
   have:=zsd R.sz c0.length cs (hcs.len)
   rw [← this];simp only [List.flatMap_def]
   congr 1
   apply List.map_congr_left
   intro i hi;have hi':i<c0.length:=by simpa using hi
   simp only [enc,if_pos hi']
  have hH:HoldsK enc R.sz w b' 0 (Array.range c0.length):=by
   have:=zrw enc R.sz hk (List.range c0.length) k2 (by rw [List.length_range,hflat])
   rwa [show (List.range c0.length).toArray=Array.range c0.length from by simp] at this
  have hso:=hsome enc hk (fun i v hv=>R.one (henc i) v hv) (ltI x0 cf c0) (swoI x0 cf hO c0) b' cap (Array.range c0.length) w
   (fun m os dk hdk x y=>hcmp _ _ _ _ _ w _ (henc x) (henc y)) hH hlt (by simp; omega)
  rw [Array.size_range] at hso;refine hso.mono fun e w' ⟨he,n,os,hw⟩=>?_;obtain ⟨d,d1,d2,-⟩:=(⟨_,rfl,rfl,trivial⟩:∃ d:List Nat,d=(pdq (ltOf (ltI x0 cf c0)) (Array.range c0.length) 0 c0.length (Lib.bitLen c0.length) true true).toList∧srtG x0 cf c0=d.map (fun i=>c0.getD i x0)∧True)
  have dl:d.length=c0.length:=by have:=hlen c0; rw [d2] at this; simpa using this
  have da:pdq (ltOf (ltI x0 cf c0)) (Array.range c0.length) 0 c0.length (Lib.bitLen c0.length) true true=d.toArray:=by rw [d1]
  rw [da] at hw;rw [d2];subst hw;have only':=only;have hst:z96 (Shr H [(1,some (.slice (some ⟨b',0,none⟩) c0.length cap,.list R T c0))] w) (Shr H [(1,some (.slice (some ⟨b',0,none⟩) c0.length cap,.list R T (d.map fun i=>c0.getD i x0)))] (sortWorldK enc R.sz w b' 0 n d.toArray os)) w (sortWorldK enc R.sz w b' 0 n d.toArray os):=fun i hi=>by
   have hne:i≠b':=fun e=>hi.2.1 1 _ _ rfl (by rw [e]; rfl);refine ⟨⟨?_, fun r v c h=>?_,hi.2.2⟩,zou enc R.sz w b' n _ os hi.1 hne⟩
   ·show i<(w.heap.modify b' _++os).size
    have:=hi.1
    simp; omega
   ·obtain ⟨rfl,rfl,rfl⟩:=only _ _ _ _ h;exact hi.2.1 1 _ _ rfl
  refine ⟨fun _=>undef,[],he,trivial, fun r v c h=>?_, fun r v c r' v' c' h h' hne=>?_, fun r v c h b hb=>?_,rfl,rfl,rfl,?_, fun i hi=>?_⟩
  ·obtain ⟨rfl,rfl,rfl⟩:=only _ _ _ _ h;refine .inr ⟨b',_,rfl,z16k enc R.sz w n _ os k2,b',cap,_, by rw [List.length_map,dl],rfl, by rw [List.length_map,dl]; exact k4,k5,?_,?_⟩
   ·rw [← k6]; simp [putCells]
   ·rw [List.length_map,z124 enc R.sz hk d C (by rw [dl]; exact hC)];exact z108 (fun i=>R.mono hst (henc i)) d
  ·exact absurd ((only _ _ _ _ h).1.trans (only _ _ _ _ h').1.symm) hne
  ·obtain ⟨rfl,rfl,rfl⟩:=only _ _ _ _ h;exact .inr ⟨1,_,_,rfl,hb⟩
  ·show w.heap.size≤(w.heap.modify b' _++os).size
   simp
  ·exact zou enc R.sz w b' n _ os hi.1 fun e=>hi.2 ⟨1,_,_,rfl, by rw [e]; rfl⟩
end
section
open Go Go.Shelf Go.RowKit Go.Lib Go.Sort
theorem z13q (W:World) (o1 o2:Obj) (q:Nat) (os':Array Obj):grow (((W.alloc o1).alloc o2).drewN q) os'=grow (W.drewN q) (#[o1,o2]++os'):=by
 have:(W.heap.push o1).push o2++os'=W.heap++(#[o1,o2]++os'):=by apply Array.toList_inj.1; simp
 show ({ W with drawn:=W.drawn+q,heap:=(W.heap.push o1).push o2++os' }:World) = { W with drawn:=W.drawn+q,heap:=W.heap++(#[o1,o2]++os') };rw [this]
theorem relN {S:Blk} {w:World} {c:List Value} {x:z0d} (h:(z0s).rel S w c x):∃ c1:List Value,c1.length=11∧c=c1++za3 x.id:=by
 obtain ⟨c1,c2,rfl,h1,c3,c4,rfl,h2,h3⟩:=h;refine ⟨c1,z05.len h1,?_⟩;have h3:c4=[]:=h3;rw [h3,List.append_nil,zkw h2]; rfl
theorem z182 {w:World} {b:Nat} {c1:List Value} {x:V3} {T:TypeId} {fr:Nat × Nat} (h:w.heap[b]? = some (.cells (c1++za3 x).toArray T fr)) (hl:c1.length=11):(loadVar 45 ⟨b,11,none⟩).run Tryz.prog w=.ok (.agg (za3 x).toArray) w:=by
 refine zmy ag45 z40 (zmt x) fun j u hu=>?_;rw [z58];unfold World.cell?;rw [h]
 have:(c1++za3 x)[11+j]? = some u:=by rw [← hl,List.getElem?_append_right (by omega),Nat.add_sub_cancel_left]; exact hu
 simpa using this
set_option maxHeartbeats 1000000 in
set_option maxRecDepth 100000 in
theorem cmpN (c1 d1:List Value) (hc:c1.length=11) (hd:d1.length=11) (x y:V3) (W:World) :
  Calls Tryz.prog 88 #[.agg (c1++za3 x).toArray,.agg (d1++za3 y).toArray] W fun e w'=>e=.returned (.int .i64 (Lib.compareBytes x.toList y.toList))∧∃ q os',w'=grow (W.drewN q) os':=by
 obtain ⟨W1,hW1⟩:∃ W1,W1=W.alloc (.cells (c1++za3 x).toArray 94):=⟨_,rfl⟩
 obtain ⟨W2,hW2⟩:∃ W2,W2=W1.alloc (.cells (d1++za3 y).toArray 94):=⟨_,rfl⟩
 have l0:(loadVar 45 ⟨W.heap.size,11,none⟩).run Tryz.prog W2=.ok (.agg (za3 x).toArray) W2:=z182 (c1:=c1) (T:=94) (fr:=(0,0)) (by
  rw [hW2,hW1]; show ((W.heap.push _).push _)[W.heap.size]? = _
  rw [Array.getElem?_push_lt (by simp)]; simp) hc
 have l1:(loadVar 45 ⟨W1.heap.size,11,none⟩).run Tryz.prog W2=.ok (.agg (za3 y).toArray) W2:=z182 (c1:=d1) (T:=94) (fr:=(0,0)) (by
  rw [hW2]; show (W1.heap.push _)[W1.heap.size]? = _
  rw [Array.getElem?_push_size]) hd
 go_enter Tryz.func88,Tryz.ntmps88
 refine wp_seq (wp_region_lit ?_);refine st (za9 rfl) (v:=.pointer (some ⟨W.heap.size,0,none⟩)) (w':=W1) (by rw [hW1]; simp [execOp,Act.eval,Act.put]; rfl) ?_;refine st (za9 rfl) (v:=.pointer (some ⟨W1.heap.size,0,none⟩)) (w':=W2) (by rw [hW2]; simp [execOp,Act.eval,Act.put]; rfl) ?_;refine st (za9 rfl) (v:=.int .i64 0) (w':=W2) (by simp [execOp,Act.eval]) ?_;refine wp_seq (wp_region_lit ?_);refine st (za9 rfl) (v:=.pointer (some ⟨W.heap.size,11,none⟩)) (w':=W2) (by simp [execOp,Act.eval,Act.put]; rfl) ?_
 refine st (za9 rfl) (v:=.agg (za3 x).toArray) (w':=W2) (by simp [execOp,Act.eval,Act.put,Instr.loadAt,Instr.sureAddr,l0]) ?_;refine st (za9 rfl) (v:=.pointer (some ⟨W1.heap.size,11,none⟩)) (w':=W2) (by simp [execOp,Act.eval,Act.put]; rfl) ?_;refine st (za9 rfl) (v:=.agg (za3 y).toArray) (w':=W2) (by simp [execOp,Act.eval,Act.put,Instr.loadAt,Instr.sureAddr,l1]) ?_;refine wpList_step fun K hK=>?_;rw [if_pos (za9 rfl)]
 unfold Oper.wp
 rw [show ∀ a:Act,a.eval (.tmp 6)=.agg (za3 x).toArray→a.eval (.tmp 8)=.agg (za3 y).toArray→∀ o:Oper,o.op=Op.call { callee:=Callee.value (Operand.func 48),args:=#[Operand.tmp 6,Operand.tmp 8],argTypes:=#[45,45] }→(execOp a.eval o).run Tryz.prog W2=.ok (.enter 48 #[.agg (za3 x).toArray,.agg (za3 y).toArray]) W2 from fun a h6 h8 o ho=>by
  have e0:a.eval (.func 48)=.func (.func 48) #[] #[]:=rfl
  simp [execOp,ho,resolve,e0,Deferred.ofValue,invoke,zby Tryz.func48 rfl (by rfl),h6,h8]]
 rotate_left
 ·simp [Act.eval,Act.put]
 ·simp [Act.eval,Act.put]
 ·rfl
 simp only [Oper.upon];refine (zx1 x y W2).mono fun e w' ⟨he,q,os',hw⟩=>?_;subst he;refine hK _ _ ?_;refine st (za9 rfl) (v:=.int .i64 (Lib.compareBytes x.toList y.toList)) (w':=w') (by simp [execOp,Act.eval,Act.put]) ?_
 go_wp2
 go_ret
 refine ⟨rfl,q,#[.cells (c1++za3 x).toArray 94,.cells (d1++za3 y).toArray 94]++os',?_⟩;exact z13q _ _ _ _ _
def zyr:z0d:=(⟨(⟨0,[],0,(⟨0,[],(⟨0,0,0,[]⟩:z01)⟩:z0a),(⟨0,0⟩:z0b)⟩:z03),(Vector.replicate 32 0)⟩:z0d)
def cfN (x y:z0d):Int:=Lib.compareBytes x.id.toList y.id.toList
theorem ltN (x y:z0d):ltOf cfN x y=decide (kd x.id<kd y.id):=by
 unfold ltOf cfN;rw [z10x,zvz]
theorem swoN:SWO (ltOf cfN) where
 irrefl x:=by rw [ltN]; simp
 trans x y z h1 h2:=by rw [ltN] at *; simp at *; omega
 ntrans x y z h1 h2:=by rw [ltN] at *; simp at *; omega
def z12z (l:List (z0d)):Option (List (z0d)):=chk (l.length≤1000000) >>= fun _=>some (srtG zyr cfN l)
theorem z11v (p0:Value) (c0:List (z0d)):z2b Tryz.prog 87 [.val p0,.val (.func (.func 88) #[] #[])] [(1,some (p0,.list z0s 94 c0))] (z12z c0) (fun r nv=>⟨[],[(1,some (p0,.list z0s 94 r))]⟩):=by
 refine z10f rfl zyr _ zr94 cfN swoN (fun cap w=>?_) (fun enc hk h1 cf' hO blk cap d w hc hH hb hs=>?_) (fun x y c d S w W hx hy=>?_) p0 c0
 ·exact AnyF.slices_SortFunc_none z147 none cap _ w
 ·have eg:∀ args w,(callFunc 88 args).run Tryz.prog w=.ok (.enter 88 args) w:=enters_of Tryz.func88 (by kernel_rfl) rfl;exact AnyQ.slices_SortFunc_eq z147 43 Tryz.isAgg94 Tryz.sizeOf94 enc hk h1 cf' hO 88 #[] blk 0 cap d w eg hc hH hb hs
 ·obtain ⟨c1,h1,rfl⟩:=relN hx;obtain ⟨d1,h2,rfl⟩:=relN hy;exact cmpN c1 d1 h1 h2 x.id y.id W
end
section
open Go Go.Shelf Go.RowKit Go.Lib
theorem z10b {P:Program} {ops:Array Oper} {o:Oper} {a:Act} {w:World} {K:Act→World→Prop} {Q:Exit→Act→World→Prop} {E:Prop}
  (hg:o.guard=none) (d x:Operand) (dT sT:TypeId) (hop:o.op=Op.call { callee:=Callee.builtin Builtin.append,args:=#[d,x],argTypes:=#[dT,sT] })
  (v u:Value) (hd:a.eval d=v) (hx:a.eval x=u) {v':Value} {w':World} (hr:(Builtin.append_ #[dT,sT] o.type #[v,u]).run P w=.ok v' w') (hK:K (a.put o.dst v') w') :
  if Region.wanted o (yielded ops a.tmps)=true then Oper.wp P o a w K Q else E:=by
 have hw:Region.wanted o (yielded ops a.tmps)=true:=by simp [Region.wanted,hg]
 rw [if_pos hw];unfold Oper.wp;simp [execOp,hop,resolve,invoke,builtin,hd,hx,hr,Result.andThen];exact hK
theorem z179 {P:Program} {k by_:Nat} {z:Value} (w:World) (T e:TypeId) (hT:P.underlying T=some (.slice e)) (hE:TI P e z k by_) (hzl:z.cells.size=k) (h0:0<k) (hone:∀ u∈z.cells.toList,u.oneCell'=true)
  (g o n:Nat) (cur:Array Value) (t:TypeId) (hg:w.heap[g]? = some (.cells cur t (0,0))) (hn:0<n) (hfit:o+n * k≤cur.size) :
  ∃ D:Array Value,(∀ ty c,(Builtin.clear_ #[T] ty #[.slice (some ⟨g,o,none⟩) n c]).run P w=.ok (.tuple #[]) (w.setRow g D))∧D.size=cur.size∧D.toList.take o=cur.toList.take o:=by
 have hfl:=zha (n:=n) (z:=z.cells) (by omega);have hll:((List.replicate n z.cells.toList).flatten).length=n * k:=by simp [hzl]
 have hz1:∀ u∈(Builtin.zeroCells z.cells n).toList,u.oneCell'=true:=fun u hu=>by
  rw [hfl] at hu;simp only [List.mem_flatten,List.mem_replicate] at hu;obtain ⟨q,⟨-,rfl⟩,hu⟩:=hu;exact hone u hu
 have hzn:(Builtin.zeroCells z.cells n).toList.length=n * k:=by rw [hfl,hll]
 have hst:=run_storeCells_at P g o t (Builtin.zeroCells z.cells n).toList 0 cur w hg (by rw [hzn]; simpa using hfit) hz1
 simp only [Nat.add_zero] at hst;refine ⟨(cur.toList.take o++(Builtin.zeroCells z.cells n).toList++cur.toList.drop (o+(Builtin.zeroCells z.cells n).toList.length)).toArray, fun ty c=>?_,?_,?_⟩
 ·obtain ⟨n',rfl⟩:∃ n',n=n'+1:=⟨n - 1, by omega⟩
  simp only [Builtin.clear_,Sem.run_bind,run_underlying hT,Result.andThen,zdi hE,hst,Sem.run_pure,List.getElem?_toArray,List.getElem?_cons_zero]
 ·simp only [List.size_toArray,List.length_append,List.length_take,List.length_drop,Array.length_toList,hzn]; omega
 ·simp only [List.append_assoc];rw [List.take_append_of_le_length (by rw [List.length_take,Array.length_toList]; omega),List.take_take,Nat.min_self]
section
variable (b n c i j:Nat) (xs:List Value) (C:Array Value) (w:World)
set_option maxHeartbeats 4000000 in
set_option maxRecDepth 100000 in
theorem zvg (p:Option Addr) (hi:i≤n) (hnc:n≤c) (hc63:c≤9223372036854775807) :
  Calls Tryz.prog 92 #[.slice p n c,.int .i64 i,.int .i64 i] w fun e w'=>e=.returned (.slice p n c)∧w'=w:=by
 have hn63:n≤9223372036854775807:=by omega
 go_enter Tryz.func92,Tryz.ntmps92
 go_wp2
 all_goals (go_ret; exact ⟨rfl,rfl⟩)
set_option maxHeartbeats 4000000 in
set_option maxRecDepth 100000 in
theorem z11q (hij:i<j) (hj:j≤n) (hnc:n≤c) (hc63:c≤9223372036854775807) (hC:w.heap[b]? = some (.cells C 94 (0,0)))
  (hCs:C.size=c * 43) (hxs:C.toList.take (n * 43)=xs) (h1x:∀ v∈xs,v.oneCell'=true) :
  Calls Tryz.prog 92 #[.slice (some ⟨b,0,none⟩) n c,.int .i64 i,.int .i64 j] w fun e w' =>
   e=.returned (.slice (some ⟨b,0,none⟩) (i+(n - j)) c)∧∃ D,w'=w.drew.setRow b D∧D.size=C.size∧D.toList.take ((i+(n - j)) * 43)=xs.take (i * 43)++xs.drop (j * 43):=by
 have u22:Tryz.prog.underlying 88=some (.slice 94):=Tryz.underlying88;have hcc:∀ j v,C.toList[j]? = some v→w.cell? ⟨b,j,none⟩=some v:=fun j v hj=>by
  rw [Array.getElem?_toList] at hj; unfold World.cell?; rw [hC]; exact hj
 have hxl:xs.length=n * 43:=by rw [← hxs,List.length_take,Array.length_toList]; omega
 have hxg:∀ j v,xs[j]? = some v→C.toList[j]? = some v:=fun j v hj=>by
  rw [← hxs,List.getElem?_take] at hj; split at hj
  ·exact hj
  ·cases hj
 obtain ⟨i0,hi0,hz0,hzs,hzb⟩:=(zp9:TI Tryz.prog 94 _ _ _)
 have hnl:(xs.drop (j * 43)).length=(n - j) * 43:=by rw [List.length_drop,hxl,Nat.sub_mul]
 obtain ⟨Ad,hA,hsrc⟩:∃ Ad:Addr,(if c=j then some (⟨b,0,none⟩:Addr) else some ⟨b,j * 43,none⟩)=some Ad∧∀ t u,(xs.drop (j * 43))[t]? = some u→w.drew.cell? (Ad.add t)=some u:=by
  by_cases h:c=j
  ·refine ⟨⟨b,0,none⟩, by simp [h], fun t u hu=>?_⟩;have h0:(xs.drop (j * 43)).length=0:=by rw [hnl, show n - j=0 by omega,Nat.zero_mul]
   rw [List.length_eq_zero_iff.1 h0] at hu;simp at hu
  ·refine ⟨⟨b,j * 43,none⟩, by simp [h], fun t u hu=>?_⟩;rw [Addr.add_lit];rw [List.getElem?_drop] at hu;exact hcc _ _ (hxg _ _ hu)
 obtain ⟨D1,hD1⟩:∃ D1,D1=(C.toList.take (i * 43)++xs.drop (j * 43)++C.toList.drop (i * 43+(xs.drop (j * 43)).length)).toArray:=⟨_,rfl⟩
 have hap:∀ ty,(Builtin.append_ #[88,88] ty #[.slice (some ⟨b,0,none⟩) i c,.slice (some Ad) (n - j) (c - j)]).run Tryz.prog w.drew=.ok (.slice (some ⟨b,0,none⟩) (i+(n - j)) c) (w.drew.setRow b D1):=fun ty=>by
  have e:=run_append_room (P:=Tryz.prog) (w:=w.drew) 88 ty 94 i0 u22 hi0 b i c C hC Ad (n - j) (c - j) (xs.drop (j * 43)) (by rw [hzs,hnl]) hsrc (fun v hv=>h1x v (List.mem_of_mem_drop hv)) (by omega) (by rw [hzs,hnl,hCs]; omega);rw [hzs] at e;rw [hD1]; exact e
 have hD1s:D1.size=C.size:=by
  rw [hD1]; simp only [List.size_toArray,List.length_append,List.length_take,List.length_drop,Array.length_toList,hxl]; omega
 have hD1t:D1.toList.take ((i+(n - j)) * 43)=xs.take (i * 43)++xs.drop (j * 43):=by
  have el:(C.toList.take (i * 43)).length=i * 43:=by rw [List.length_take,Array.length_toList]; omega
  have e2:C.toList.take (i * 43)=xs.take (i * 43):=by rw [← hxs,List.take_take]; congr 1; omega
  rw [hD1,List.take_append_of_le_length (by rw [List.length_append,el,hnl]; omega),List.take_of_length_le (by rw [List.length_append,el,hnl]; omega),e2]
 have hB1:(w.drew.setRow b D1).heap[b]? = some (.cells D1 94 (0,0)):=setRow_heap w.drew b C D1 94 (0,0) hC;obtain ⟨D2,hcl,hD2s,hD2t⟩:=z179 (P:=Tryz.prog) (w.drew.setRow b D1) 88 94 u22 zp9 (by rfl) (by decide) (by decide) b ((i+(n - j)) * 43) (n - (i+(n - j))) D1 94 hB1 (by omega) (by rw [hD1s,hCs]; omega);obtain ⟨W1,hW1⟩:∃ W1,W1=w.drew.setRow b D1:=⟨_,rfl⟩
 have hfin:w.drew.setRow b D2=W1.setRow b D2:=by rw [hW1,setRow_setRow]
 rw [← hW1] at hcl hap;have hic:i≤c:=by omega
 have hjc:j≤c:=by omega
 have hres:D2.size=C.size∧D2.toList.take ((i+(n - j)) * 43)=xs.take (i * 43)++xs.drop (j * 43):=⟨hD2s.trans hD1s,hD2t.trans hD1t⟩
 clear hcc hxg hD1 hxs hC hB1 h1x hnl hxl hsrc hD1s hD1t hD2s hD2t hz0 hzb hW1
 have hmix:Tryz.prog.follows .mixedOrders=true:=mixed
 go_enter Tryz.func92,Tryz.ntmps92
 go_wp2_with fail
 go_region_law_o (refine z10b rfl (.tmp 22) (.tmp 25) 88 88 rfl (.slice (some ⟨b,0,none⟩) i c) (.slice (some Ad) (n - j) (c - j)) (by simp [Act.eval,Act.put]) (by simp [Act.eval,Act.put,hA]) (hap _) ?_)
 go_wp2_with (simp only [hcl])
 go_ret
 exact ⟨rfl,D2,hfin.symm,hres⟩
end
end
section
open Go Go.RowKit
def delL {α:Type} (c0:List α) (i j:Int):Option (List α):=chk ((0≤i∧i≤j)∧j.toNat≤c0.length∧c0.length≤1000000) >>= fun _=>some (c0.take i.toNat++c0.drop j.toNat)
theorem z157 {α:Type} {R:Rep α} (hR:R.sz=43) (p0:Value) (c0:List α) (i j:Int):z2b Tryz.prog 92 [.val p0,.rd z0k i,.rd z0k j] [(1,some (p0,.list R 94 c0))] (delL c0 i j)
  (fun r nv=>⟨[.val (nv 0)],[(100,some (nv 0,.list R 94 r))]⟩):=by
 intro r hr H vs w hvs hres;have hb:((0≤i∧i≤j)∧j.toNat≤c0.length∧c0.length≤1000000)∧r=c0.take i.toNat++c0.drop j.toNat:=by
  unfold delL chk at hr
  split at hr
  ·rename_i h; simp at hr; exact ⟨h,hr.symm⟩
  ·simp at hr
 obtain ⟨⟨⟨hi0,hij⟩,hj,hn⟩,rfl⟩:=hb
 match vs,hvs with
 | [v0,v1,v2],hvs =>
 obtain ⟨h0,h1,h2,_⟩:=hvs;have e0:v0=p0:=h0.1;have e1:v1=.int .i64 i:=z52 h1;have e2:v2=.int .i64 j:=z52 h2;subst e0; subst e1; subst e2;obtain ⟨i,rfl⟩:∃ k:Nat,i=(k:Int):=⟨i.toNat, by omega⟩
 obtain ⟨j,rfl⟩:∃ k:Nat,j=(k:Int):=⟨j.toNat, by omega⟩
 simp only [Int.toNat_natCast] at hj ⊢;have hij:i≤j:=by omega
 have only:∀ v' r v c (q:z4j),lr [(100,some (v',q))] r=some (v,c)→r=100∧v=v'∧c=q:=fun v' r v c q h=>by
  rw [z1z] at h
  split at h
  ·rename_i e; cases h; exact ⟨e.symm,rfl,rfl⟩
  ·simp [lr,lk] at h
 have hlen:(c0.take i++c0.drop j).length=i+(c0.length - j):=by
  simp only [List.length_append,List.length_take,List.length_drop]; omega
 rcases hres.conts 1 v0 _ rfl with ⟨rfl,rfl⟩ | ⟨b,o,k1,k2,b',cap,C,k3,rfl,k4,k5,k6,k7⟩
 ·simp only [List.length_nil,Nat.le_zero] at hj;have hi:i=0:=by omega
  subst hj; subst hi;refine (zvg 0 0 0 w none (Nat.le_refl _) (Nat.le_refl _) (by omega)).mono fun e w' ⟨he,hw⟩=>?_;subst hw;refine ⟨fun _=>.slice none 0 0,[.slice none 0 0],he,⟨⟨rfl,rfl⟩,trivial⟩, fun r v c h=>?_, fun r v c r' v' c' h h' hne=>?_, fun r v c h b hb=>?_,zlv.rfl'⟩
  ·obtain ⟨rfl,rfl,rfl⟩:=only _ _ _ _ _ h;exact .inl ⟨rfl,rfl⟩
  ·exact absurd ((only _ _ _ _ _ h).1.trans (only _ _ _ _ _ h').1.symm) hne
  ·obtain ⟨rfl,rfl,rfl⟩:=only _ _ _ _ _ h; cases hb
 ·subst k3;simp only [z4s,Option.some.injEq] at k1;subst k1;have hlt:b'<w.heap.size:=(Array.getElem?_eq_some_iff.1 k2).1;have hcm:cap≤9223372036854775807:=by unfold maxLen at k5; omega
  rw [hR] at k6 k7;have main:Calls Tryz.prog 92 #[.slice (some ⟨b',0,none⟩) c0.length cap,.int .i64 i,.int .i64 j] w fun e w'=>e=.returned (.slice (some ⟨b',0,none⟩) (i+(c0.length - j)) cap) ∧
    ∃ D,w'.heap[b']? = some (.cells D 94 (0,0))∧w.grownBy w' (some b')∧D.size=C.size∧D.toList.take ((i+(c0.length - j)) * 43)=(C.toList.take (c0.length * 43)).take (i * 43)++(C.toList.take (c0.length * 43)).drop (j * 43):=by
   rcases Nat.lt_or_ge i j with h | h
   ·refine (z11q b' c0.length cap i j _ C w h hj k4 hcm k2 k6 rfl (fun v hv=>k7.one v hv)).mono fun e w' ⟨he,D,hw,hD,hT⟩=>⟨he,D,?_,?_,hD,hT⟩
    ·rw [hw]; exact setRow_heap w.drew b' C D 94 (0,0) k2
    ·rw [hw];refine ⟨rfl,rfl,rfl,?_, fun k hk hne=>?_⟩
     ·rw [setRow_size]; exact Nat.le_refl _
     ·rw [setRow_other w.drew b' k D (fun e=>hne (by rw [e]))]; rfl
   ·have e:j=i:=by omega
    subst e;refine (zvg c0.length cap j w _ hj k4 hcm).mono fun e w' ⟨he,hw⟩=>⟨by rw [he, show j+(c0.length - j)=c0.length by omega],C, by rw [hw]; exact k2, by rw [hw]; exact ⟨rfl,rfl,rfl,Nat.le_refl _, fun _ _ _=>rfl⟩,rfl,?_⟩;rw [show j+(c0.length - j)=c0.length by omega,List.take_append_drop]
  refine main.mono fun e w' ⟨he,D,hD,hg,hs,ht⟩=>?_;have hst:z96 (Shr H [(1,some (.slice (some ⟨b',0,none⟩) c0.length cap,.list R 94 c0))] w) (Shr H [(100,some (.slice (some ⟨b',0,none⟩) (i+(c0.length - j)) cap,.list R 94 (c0.take i++c0.drop j)))] w') w w':=fun k hk=>by
   have hne:k≠b':=fun e=>hk.2.1 1 _ _ rfl (by rw [e]; rfl);refine ⟨⟨Nat.lt_of_lt_of_le hk.1 hg.size, fun r v c h=>?_,hk.2.2⟩,hg.block k hk.1 (fun e=>hne (Option.some.inj e))⟩;obtain ⟨rfl,rfl,rfl⟩:=only _ _ _ _ _ h;exact fun e=>hne (Option.some.inj e).symm
  refine ⟨fun _=>.slice (some ⟨b',0,none⟩) (i+(c0.length - j)) cap,[.slice (some ⟨b',0,none⟩) (i+(c0.length - j)) cap],he,⟨⟨rfl,rfl⟩,trivial⟩, fun r v c h=>?_, fun r v c r' v' c' h h' hne=>?_, fun r v c h b hb=>?_,hg.os,hg.tape,hg.output,hg.size, fun k hk=>?_⟩
  ·obtain ⟨rfl,rfl,rfl⟩:=only _ _ _ _ _ h;refine .inr ⟨b',_,rfl,hD,b',cap,D, by rw [hlen],rfl, by rw [hlen]; omega,k5, by rw [hs,k6,hR],?_⟩;rw [hlen,hR,ht];have x2:=k7.mono hst;have a1:=x2.take i;have a2:=x2.drop j;rw [hR] at a1 a2;exact a1.append a2
  ·exact absurd ((only _ _ _ _ _ h).1.trans (only _ _ _ _ _ h').1.symm) hne
  ·obtain ⟨rfl,rfl,rfl⟩:=only _ _ _ _ _ h;exact .inr ⟨1,_,_,rfl,hb⟩
  ·refine hg.block k hk.1 fun e=>hk.2 ⟨1,_,_,rfl,?_⟩;rw [Option.some.inj e]; rfl
end
section
open Go Go.RowKit
set_option maxRecDepth 100000
def z7o (a0:V3) (c1_0:List (V3 × Bool)):Option (Bool) :=
 some ((zfh c1_0 a0).getD false) >>= fun y2 =>
 some y2
theorem zic (a0:V3) (p1_0:Value) (q1_0:Value) (c1_0:List (V3 × Bool)):z2b Tryz.prog 91 [.rd aZ a0,.val (z0j p1_0 0)] [(1,some (p1_0,.box 92 [.val q1_0])),(2,some (q1_0,.map aZ z0l c1_0))] (z7o a0 c1_0) (fun r nv=>⟨[.rd z0l r],[(1,some (p1_0,.box 92 [.val q1_0])),(2,some (q1_0,.map aZ z0l c1_0))]⟩):=by
 refine z2n 7 Tryz.func91 Z Z Z fun H w=>?_;refine gSR<|Eb Z (bx 3 Z) fun v1=>Zb Z<|gSR<|Zq (ldV 1 Z Z .here sc92 Z)<|Zq (ld 3 Z Z fH z83 Z)<|Zq (mlk Z (.own 2 Z Z) Z ky45 Tryz.underlying92 ti4 Zr.bool Z)<|Za Z<|z1o 3 Z fun y2=>Zn<|z0o<|Ze [] [1,2] Z
def z3n (a0:List V3) (c1_0:List (V3 × Bool)) (s2:Int):Option (Sum (Sum Int Unit) Int) :=
 if decide (s2<(a0.length:Int)) then
  idx a0 s2 >>= fun x4 =>
  z7o x4 c1_0 >>= fun r6 =>
  if r6 then
   some (.inl (.inl s2))
  else
   some (.inr (w64 (s2+1)))
 else
  some (.inl (.inr ()))
def z2l (a0:List V3) (c1_0:List (V3 × Bool)):Option (Int) :=
 z5o (iter (z3n a0 c1_0) 0) fun s1 =>
 some (-1)
theorem z6c (a0:List V3) (p1_0:Value) (q1_0:Value) (c1_0:List (V3 × Bool)):z2b Tryz.prog 125 [.rd (z04 aZ) a0,.val (.func (.func 91) #[] #[z0j p1_0 0])] [(1,some (p1_0,.box 92 [.val q1_0])),(2,some (q1_0,.map aZ z0l c1_0))] (z2l a0 c1_0) (fun r nv=>⟨[.rd z0k r],[(1,some (p1_0,.box 92 [.val q1_0])),(2,some (q1_0,.map aZ z0l c1_0))]⟩):=by
 refine z2n 19 Tryz.func125 Z Z Z fun H w=>?_;refine gSR<|Zb Z<|z7j (fun (s1:Unit) aa ww=>Sta (ctx 19 H [(1,some (p1_0,.box 92 [.val q1_0])),(2,some (q1_0,.map aZ z0l c1_0))] w) [] [(2,some (q1_0,.map aZ z0l c1_0)),(1,some (p1_0,.box 92 [.val q1_0]))] aa ww) ?_ (fun s1=>?_)
 ·refine gSR<|Zm Z<|Zq (z2v Z .rd Z tu29)<|Zm Z<|Zn<|z2a (fun (s2:Int) aa ww=>Sta (ctx 19 H [(1,some (p1_0,.box 92 [.val q1_0])),(2,some (q1_0,.map aZ z0l c1_0))] w) [(0,.rd (z04 aZ) a0),(1,.val (.func (.func 91) #[] #[z0j p1_0 0])),(7,.rd z0k (a0.length:Int)),(8,.rd z0k s2)] [(2,some (q1_0,.map aZ z0l c1_0)),(1,some (p1_0,.box 92 [.val q1_0]))] aa ww) (fun aa ww h=>Zu h [2,1]) (fun s2=>?_);refine gSR<|Zq (I.lss Z Z)<|Zn<|z0v<|gIf Z Z (fun h3=>?_) (fun h3=>?_)
  ·refine Zt<|z0v<|z5b<|gSR<|Zm Z<|Zb Z<|gSR<|Zm Z<|Zm Z<|Zm Z<|z0m fun x4 h5=>Zq (ixR Z Z h5 tu29 z40 Z)<|Zq (ldR Z z83)<|zps [1,2] [(1,1),(2,2)] (gd0 Z) Z Z Tryz.func91 Z Z (zic _ _ _ _) (Y1 Z) (cQ 1 Z<|cN) (Zi Z<|Zi Z<|rN) fun r6 n7=>Zj Z (fun h8=>?_) (fun h8=>?_)
   ·refine gSR<|Zm Z<|Zb Z<|z0o<|z44<|z0q<|z6t<|z4g<|Ze [] [1,2] Z
   ·refine z31<|z3f<|z0z<|z20<|Zq (I.add Z Z)<|Zm Z<|z1g<|z1q (fun aa ww h=>Zu h [2,1])
  ·refine z21<|z15<|z17<|z5k (fun aa ww h=>Zu h [2,1])
 ·refine gSR<|Zb Z<|z0o<|Ze [] [1,2] Z
def z2c (a0:List V3) (c1_0:List (V3 × Bool)):Option (Bool) :=
 z2l a0 c1_0 >>= fun r1 =>
 some (decide (0≤r1)) >>= fun y3 =>
 some y3
theorem z5r (a0:List V3) (p1_0:Value) (q1_0:Value) (c1_0:List (V3 × Bool)):z2b Tryz.prog 79 [.rd (z04 aZ) a0,.val (.func (.func 91) #[] #[z0j p1_0 0])] [(1,some (p1_0,.box 92 [.val q1_0])),(2,some (q1_0,.map aZ z0l c1_0))] (z2c a0 c1_0) (fun r nv=>⟨[.rd z0l r],[(1,some (p1_0,.box 92 [.val q1_0])),(2,some (q1_0,.map aZ z0l c1_0))]⟩):=by
 refine z2n 9 Tryz.func79 Z Z Z fun H w=>?_;refine gSR<|Zb Z<|gSR<|Zm Z<|Zm Z<|Zc [1,2] [(1,1),(2,2)] Tryz.func125 Z (z6c _ _ _ _) fun r1 n2=>Zq (I.geq Z Z)<|Za Z<|z1o 4 Z fun y3=>Zn<|z0o<|Ze [] [1,2] Z
def z7w (a0:z0d) (c1_0:List (V3 × Bool)):Option (Bool) :=
 z2c a0.o.Preds c1_0 >>= fun r2 =>
 some (!r2)
theorem zkb (a0:z0d) (p1_0:Value) (q1_0:Value) (c1_0:List (V3 × Bool)):z2b Tryz.prog 90 [.rd z0s a0,.val (z0j p1_0 0)] [(1,some (p1_0,.box 92 [.val q1_0])),(2,some (q1_0,.map aZ z0l c1_0))] (z7w a0 c1_0) (fun r nv=>⟨[.rd z0l r],[(1,some (p1_0,.box 92 [.val q1_0])),(2,some (q1_0,.map aZ z0l c1_0))]⟩):=by
 refine z2n 10 Tryz.func90 Z Z Z fun H w=>?_;refine gSR<|Eb Z (bx 3 Z) fun v1=>Zb Z<|gSR<|Zq (faB 3 Z Z Tryz.underlying94 Z (by exact z6w))<|Zq (faB 3 Z Z Tryz.underlying43 Z (by exact za8))<|Zq (ld 3 Z Z ((fP (z7t _)).part (z16 _)) zeh Z)<|Zq (mkf mp0 (mp1 Z))<|Zc [1,2] [(1,1),(2,2)] Tryz.func79 Z (z5r _ _ _ _) fun r2 n3=>Zq (zex Z)<|Zb Z<|z0o<|Ze [] [1,2] Z
def z2r (a0:List z0d) (c1_0:List (V3 × Bool)) (s2:Int):Option (Sum (Sum Int Unit) Int) :=
 if decide (s2<(a0.length:Int)) then
  idx a0 s2 >>= fun x4 =>
  z7w x4 c1_0 >>= fun r6 =>
  if r6 then
   some (.inl (.inl s2))
  else
   some (.inr (w64 (s2+1)))
 else
  some (.inl (.inr ()))
def z1e (a0:List z0d) (c1_0:List (V3 × Bool)):Option (Int) :=
 z5o (iter (z2r a0 c1_0) 0) fun s1 =>
 some (-1)
theorem z4u (a0:List z0d) (q0:Value) (l0:List z0d) (p1_0:Value) (q1_0:Value) (c1_0:List (V3 × Bool)):z2b Tryz.prog 89 [.vw z0s q0 l0 a0,.val (.func (.func 90) #[] #[z0j p1_0 0])] [(1,some (q0,.list z0s 94 l0)),(2,some (p1_0,.box 92 [.val q1_0])),(3,some (q1_0,.map aZ z0l c1_0))] (z1e a0 c1_0) (fun r nv=>⟨[.rd z0k r],[(1,some (q0,.list z0s 94 l0)),(2,some (p1_0,.box 92 [.val q1_0])),(3,some (q1_0,.map aZ z0l c1_0))]⟩):=by
 refine z2n 19 Tryz.func89 Z Z Z fun H w=>?_;refine gSR<|Zb Z<|z7j (fun (s1:Unit) aa ww=>Sta (ctx 19 H [(1,some (q0,.list z0s 94 l0)),(2,some (p1_0,.box 92 [.val q1_0])),(3,some (q1_0,.map aZ z0l c1_0))] w) [] [(1,some (q0,.list z0s 94 l0)),(3,some (q1_0,.map aZ z0l c1_0)),(2,some (p1_0,.box 92 [.val q1_0]))] aa ww) ?_ (fun s1=>?_)
 ·refine gSR<|Zm Z<|Zq (z2v Z (.vw 1 Z) Z tu88)<|Zm Z<|Zn<|z2a (fun (s2:Int) aa ww=>Sta (ctx 19 H [(1,some (q0,.list z0s 94 l0)),(2,some (p1_0,.box 92 [.val q1_0])),(3,some (q1_0,.map aZ z0l c1_0))] w) [(0,.vw z0s q0 l0 a0),(1,.val (.func (.func 90) #[] #[z0j p1_0 0])),(7,.rd z0k (a0.length:Int)),(8,.rd z0k s2)] [(1,some (q0,.list z0s 94 l0)),(3,some (q1_0,.map aZ z0l c1_0)),(2,some (p1_0,.box 92 [.val q1_0]))] aa ww) (fun aa ww h=>Zu h [1,3,2]) (fun s2=>?_)
  refine gSR<|Zq (I.lss Z Z)<|Zn<|z0v<|gIf Z Z (fun h3=>?_) (fun h3=>?_)
  ·refine Zt<|z0v<|z5b<|gSR<|Zm Z<|Zb Z<|gSR<|Zm Z<|Zm Z<|Zm Z<|z0m fun x4 h5=>Zq (ixQ 1 Z Z Z h5 tu88 zp9)<|Zq (ldQ 1 Z Z ty94 Z)<|zps [2,3] [(1,2),(2,3)] (gd0 Z) Z Z Tryz.func90 Z Z (zkb _ _ _ _) (Y1 Z) (cQ 2 Z<|cN) (Zi Z<|Zi Z<|rN) fun r6 n7=>Zj Z (fun h8=>?_) (fun h8=>?_)
   ·refine gSR<|Zm Z<|Zb Z<|z0o<|z44<|z0q<|z6t<|z4g<|Ze [] [1,2,3] Z
   ·refine z31<|z3f<|z0z<|z20<|Zq (I.add Z Z)<|Zm Z<|z1g<|z1q (fun aa ww h=>Zu h [1,3,2])
  ·refine z21<|z15<|z17<|z5k (fun aa ww h=>Zu h [1,3,2])
 ·refine gSR<|Zb Z<|z0o<|Ze [] [1,2,3] Z
def z8l (a0:List z03) (s3:(List z0d) × Int):Option (Sum (Sum ((List z0d) × Int) ((List z0d))) ((List z0d) × Int)) :=
 if decide (s3.2<(a0.length:Int)) then
  idx a0 s3.2 >>= fun x6 =>
  zs2 x6 >>= fun r9 =>
  if r9.2 != 0 then
   some (.inl (.inl ([],r9.2)))
  else
   z35 x6.Preds >>= fun r13 =>
   app 144 s3.1 [(⟨(⟨x6.Author,r13,x6.Stamp,x6.Act,x6.Sig⟩:z03),r9.1⟩:z0d)] >>= fun x16 =>
   some (.inr (x16,w64 (s3.2+1)))
 else
  some (.inl (.inr s3.1))
def z8j (r20:List z0d) (s25:(List (V3 × Bool)) × Int):Option (Sum (Sum ((List z0d) × Int) ((List (V3 × Bool)))) ((List (V3 × Bool)) × Int)) :=
 if decide (s25.2<(r20.length:Int)) then
  idx r20 s25.2 >>= fun x27 =>
  if (zfh s25.1 x27.id).getD false then
   some (.inl (.inl ([],14)))
  else
   some (.inr (zo6 s25.1 x27.id true,w64 (s25.2+1)))
 else
  some (.inl (.inr s25.1))
def z6y (s32:(List z0d) × (List (V3 × Bool)) × (List z0d)):Option (Sum (Sum ((List z0d) × Int) ((List z0d))) ((List z0d) × (List (V3 × Bool)) × (List z0d))) :=
 if decide (0<(s32.1.length:Int)) then
  z1e s32.1 s32.2.1 >>= fun r35 =>
  if decide (r35<0) then
   some (.inl (.inl ([],36)))
  else
   idx s32.1 r35 >>= fun x38 =>
   app 144 s32.2.2 [x38] >>= fun x41 =>
   idx s32.1 r35 >>= fun x44 =>
   delL s32.1 r35 (w64 (r35+1)) >>= fun r46 =>
   some (.inr (r46,zqw s32.2.1 x44.id,x41))
 else
  some (.inl (.inr s32.2.2))
def zbe (a0:List z03):Option ((List z0d) × Int) :=
 if decide (60<(a0.length:Int)) then
  some ([],4)
 else
  z5o (iter (z8l a0) ([],0)) fun s2 =>
  z12z s2 >>= fun r20 =>
  z5o (iter (z8j r20) (([]:List (V3 × Bool)),0)) fun s24 =>
  z5o (iter (z6y) (r20,s24,[])) fun s31 =>
  some (s31,0)
theorem zgc (a0:List z03):z2b Tryz.prog 45 [.rd (z04 z05) a0] [zG1] (zbe a0) (fun r nv=>⟨[.val (nv 0),.rd z0k r.2],[(1001,some (.bool true,.glob 1 (z43 64 z0x) zah)),(100,some (nv 0,.list z0s 94 r.1))]⟩):=by
 refine z2n 86 Tryz.func45 Z Z Z fun H w=>?_;refine gSR<|Za Z<|Zb Z<|z0v<|gSR<|Zm Z<|Zq (z2v Z .rd Z tu22)<|Zq (I.gtr Z Z)<|Zj Z (fun h1=>?_) (fun h1=>?_)
 ·refine gSR<|Za Z<|Zb Z<|z0o<|z0q<|zgb z0s 94 1<|Ze [(.slice none 0 0)] [1001,1] Z
 ·refine Zt<|gSR<|Zb Z<|z7j (fun (s2:(List z0d)) aa ww=>∃ nv:Nat→Value,Sta (ctx 86 H [zG1] w) [(4,.val (nv 0))] [(6,some ((nv 0),.list z0s 94 s2)),zG1] aa ww) ?_ (fun s2=>?_)
  ·refine gSR<|Zm Z<|Zq (z2v Z .rd Z tu22)<|Zm Z<|Zn<|zqy z0s 94 1106<|z2a (fun (s3:(List z0d) × Int) aa ww=>∃ nv:Nat→Value,Sta (ctx 86 H [zG1] w) [(4,.val (nv 0)),(17,.rd (z04 z05) a0),(18,.rd z0k (a0.length:Int)),(19,.rd z0k s3.2)] [(1105,some ((nv 0),.list z0s 94 s3.1)),zG1] aa ww) (fun aa ww h=>⟨nvl [(.slice none 0 0)],Zu h [1106,1001]⟩) (fun s3=>?_);refine gEx fun n4=>gSR<|Zq (I.lss Z Z)<|Zn<|z0v<|gIf Z Z (fun h5=>?_) (fun h5=>?_)
   ·refine Zt<|z0v<|z5b<|gSR<|z0m fun x6 h7=>Zq (ixR Z Z h7 tu22 z6w Z)<|Zq (ldR Z z8y)<|Eb Z (zad 1107 z6w (ZrE.rd (R:=z0x) (x:=0) (Zr.num Z) (ZrE.nilS (ZrE.rd (R:=z1p) (x:=0) (Zr.num Z) (ZrE.rd (R:=z07) (x:=(⟨0,[],(⟨0,0,0,[]⟩:z01)⟩:z0a)) zja (ZrE.rd (R:=z09) (x:=(⟨0,0⟩:z0b)) zln ZrE.nil Z) Z) Z)) Z)) fun v8=>ztm aZ [.rd z0x 0,.rd (z04 aZ) [],.rd z1p 0,.rd z07 (⟨0,[],(⟨0,0,0,[]⟩:z01)⟩:z0a),.rd z09 (⟨0,0⟩:z0b)] 1107 [.rd z0x 0] [.rd z1p 0,.rd z07 (⟨0,[],(⟨0,0,0,[]⟩:z01)⟩:z0a),.rd z09 (⟨0,0⟩:z0b)] Z Z Z<|zmr (R:=z05) (⟨0,[],0,(⟨0,[],(⟨0,0,0,[]⟩:z01)⟩:z0a),(⟨0,0⟩:z0b)⟩:z03) 1107 Z (Sp.via (Sp.prod (Sp.prod (Sp.prod (Sp.prod (Sp.prod Sp.unit))))))<|Es (sto 1107 Z Z fH Z z6w)<|Zn<|gSR<|Zq (ld 1107 Z Z fH z8y Z)<|Zc [1001] [] Tryz.func65 Z (zqf _) fun r9 n10=>Zm Z<|Zq (ext Z Z)<|Zq (ext Z Z)<|Eb Z (zad 1108 z40 (.zr (R:=aZ) (x:=(Vector.replicate 32 0)) zl9)) fun v11=>Es (sto 1108 Z Z fH Z z40)<|Zb Z<|z0v<|gSR<|Zm Z<|Zq (I.neq Z Z)<|Zj Z (fun h12=>?_) (fun h12=>?_)
    ·refine gSR<|Zm Z<|Za Z<|Zb Z<|z0o<|z0q<|z44<|z0q<|z6t<|z4g<|zgb z0s 94 1109<|Ze [(.slice none 0 0)] [1001,1109] Z
    ·refine Zt<|gSR<|Zq (faB 1107 Z Z Tryz.underlying43 Z (by exact za8))<|Zq (ld 1107 Z Z (fP (z16 _)) zeh Z)<|Zc [] [(100,1110)] Tryz.func83 Z (z8r _) fun r13 n14=>Zq (faB 1107 Z Z Tryz.underlying43 Z (by exact za8))<|lSpl (R:=z05) 1107 Z (Sp.via (Sp.prod (Sp.prod (Sp.prod (Sp.prod (Sp.prod Sp.unit))))))<|Es (zqr 1107 Z Z (z6z.cast (z6z.next z00 (z6z.here z00)) Z) Z z1d z0c za8)<|Zn<|z20<|Zm Z<|lPow [.rd z0x x6.Author,.rd (z04 aZ) r13,.rd z1p x6.Stamp,.rd z07 x6.Act,.rd z09 x6.Sig] 1107 1110 [.rd z0x x6.Author] [.rd z1p x6.Stamp,.rd z07 x6.Act,.rd z09 x6.Sig] Z Z Z Z Z<|zmr (R:=z05) (⟨x6.Author,r13,x6.Stamp,x6.Act,x6.Sig⟩:z03) 1107 Z (Sp.via (Sp.prod (Sp.prod (Sp.prod (Sp.prod (Sp.prod Sp.unit))))))<|Zq (ld 1107 Z Z fH z8y Z)<|Zq (ld 1108 Z Z fH z83 Z)<|Zq (bld (x':=(⟨(⟨x6.Author,r13,x6.Stamp,x6.Act,x6.Sig⟩:z03),r9.1⟩:z0d)) [(0,11),(11,32)] Tryz.underlying94 zp9 Z zr94 Z (Bld.cons (z7t _) Z Z<|Bld.cons (z8o _) Z Z<|Bld.done Z))<|Ef Z (lit (R:=z0s) ([(⟨(⟨x6.Author,r13,x6.Stamp,x6.Act,x6.Sig⟩:z03),r9.1⟩:z0d)]:List z0d) 1111 (pP Z Z<|pN) Z tu88 zp9 Z Z) fun v15=>zf4 1111 [39] Z (fS Z<|fN)<|z0m fun x16 h17=>Ef Z (apn 1105 Z Z Z .rd h17 tu88 zp9 Z Z Z) fun v18=>Za Z<|z1g<|z3f<|z0z<|z20<|Zq (I.add Z Z)<|Zm Z<|z1g<|z1q (fun aa ww h=>⟨nvl [v18],Zu h [1105,1001]⟩)
   ·refine z21<|z15<|z17<|z5k (fun aa ww h=>⟨nvl [(n4 0)],Zu h [1105,1001]⟩)
  ·refine gEx fun n19=>gSR<|Zm Z<|Zc [6] [(1,6)] Tryz.func87 Z (z11v _ _) fun r20 n21=>Zn<|gSR<|Ef Z (mkm aZ z0l 1112 (Or.inl Z) Tryz.underlying92) fun v22=>Eb Z (zad 1113 ti92 (.val Z)) fun v23=>Es (zqr 1113 Z Z (.here z0c) Z z1d z0c ti92)<|Zn<|z7j (fun (s24:(List (V3 × Bool))) aa ww=>Sta (ctx 86 H [zG1] w) [(4,.val (n19 0)),(9,.val (z0j v23 0))] [(6,some ((n19 0),.list z0s 94 r20)),(1112,some (v22,.map aZ z0l s24)),(1113,some (v23,.box 92 [.val v22])),zG1] aa ww) ?_ (fun s24=>?_)
   ·refine gSR<|Zm Z<|Zq (z2v Z (.own 6 Z) Z tu88)<|Zm Z<|Zn<|z2a (fun (s25:(List (V3 × Bool)) × Int) aa ww=>Sta (ctx 86 H [zG1] w) [(4,.val (n19 0)),(9,.val (z0j v23 0)),(45,.val (n19 0)),(46,.rd z0k (r20.length:Int)),(47,.rd z0k s25.2)] [(6,some ((n19 0),.list z0s 94 r20)),(1112,some (v22,.map aZ z0l s25.1)),(1113,some (v23,.box 92 [.val v22])),zG1] aa ww) (fun aa ww h=>Zu h [6,1112,1113,1001]) (fun s25=>?_)
    refine gSR<|Zq (I.lss Z Z)<|Zn<|z0v<|gIf Z Z (fun h26=>?_) (fun h26=>?_)
    ·refine Zt<|z0v<|z5b<|gSR<|z0m fun x27 h28=>Zq (ixO 6 Z Z Z h28 tu88 zp9)<|Zq (ld 6 Z Z (Foc.el h28) ty94 Z)<|Eb Z (zad 1114 zp9 (.zr (R:=z0s) (x:=(⟨(⟨0,[],0,(⟨0,[],(⟨0,0,0,[]⟩:z01)⟩:z0a),(⟨0,0⟩:z0b)⟩:z03),(Vector.replicate 32 0)⟩:z0d)) zr94)) fun v29=>Es (sto 1114 Z Z fH Z zp9)<|Zn<|z0v<|gSR<|Zq (ldV 1113 Z Z .here sc92 Z)<|Zq (faB 1114 Z Z Tryz.underlying94 Z (by exact z40))<|Zq (ld 1114 Z Z (fP (z8o _)) z83 Z)<|Zq (mlk Z (.own 1112 Z Z) Z ky45 Tryz.underlying92 ti4 Zr.bool Z)<|Zj Z (fun h30=>?_) (fun h30=>?_)
     ·refine gSR<|Za Z<|Zb Z<|z0o<|z0q<|z44<|z0q<|z6t<|z4g<|zgb z0s 94 1115<|Ze [(.slice none 0 0)] [1001,1115] Z
     ·refine Zt<|z20<|Zq (ldV 1113 Z Z .here sc92 Z)<|Zq (faB 1114 Z Z Tryz.underlying94 Z (by exact z40))<|Zq (ld 1114 Z Z (fP (z8o _)) z83 Z)<|Es (mup 1112 Z Z Z Z ky45 Tryz.underlying92)<|z1g<|z3f<|z0z<|z20<|Zq (I.add Z Z)<|Zm Z<|z1g<|z1q (fun aa ww h=>Zu h [6,1112,1113,1001])
    ·refine z21<|z15<|z17<|z5k (fun aa ww h=>Zu h [6,1112,1113,1001])
   ·refine gSR<|Zb Z<|z7j (fun (s31:(List z0d)) aa ww=>∃ nv:Nat→Value,Sta (ctx 86 H [zG1] w) [(12,.val (nv 0))] [(1117,some ((nv 0),.list z0s 94 s31)),zG1] aa ww) ?_ (fun s31=>?_)
    ·refine zqy z0s 94 1121<|z2a (fun (s32:(List z0d) × (List (V3 × Bool)) × (List z0d)) aa ww=>∃ nv:Nat→Value,Sta (ctx 86 H [zG1] w) [(4,.val (nv 0)),(9,.val (z0j v23 0)),(12,.val (nv 1))] [(6,some ((nv 0),.list z0s 94 s32.1)),(1112,some (v22,.map aZ z0l s32.2.1)),(1113,some (v23,.box 92 [.val v22])),(1120,some ((nv 1),.list z0s 94 s32.2.2)),zG1] aa ww) (fun aa ww h=>⟨nvl [(n19 0),(.slice none 0 0)],Zu h [6,1112,1113,1121,1001]⟩) (fun s32=>?_)
     refine gEx fun n33=>z0v<|gSR<|Zm Z<|Zq (z2v Z (.own 6 Z) Z tu88)<|Zq (I.gtr Z Z)<|Zj Z (fun h34=>?_) (fun h34=>?_)
     ·refine Zt<|z5b<|gSR<|Zm Z<|Zq (mkf mp0 (mp1 Z))<|call [6,1113,1112] [(1,6),(2,1113),(3,1112)] Z Tryz.func89 Z Z (z4u _ _ _ _ _ _) (aW Z<|aQ Z<|aN) (Zi Z<|Zi Z<|Zi Z<|rN) fun r35 n36=>Zb Z<|z0v<|gSR<|Zm Z<|Zq (I.lss Z Z)<|Zj Z (fun h37=>?_) (fun h37=>?_)
      ·refine gSR<|Za Z<|Zb Z<|z0o<|z0q<|z44<|z6t<|z4g<|zgb z0s 94 1122<|Ze [(.slice none 0 0)] [1001,1122] Z
      ·refine Zt<|gSR<|Zm Z<|Zm Z<|Zm Z<|z0m fun x38 h39=>Zq (ixO 6 Z Z Z h39 tu88 zp9)<|Zq (ld 6 Z Z (Foc.el h39) ty94 Z)<|Ef Z (lit (R:=z0s) ([x38]:List z0d) 1123 (pP Z Z<|pN) Z tu88 zp9 Z Z) fun v40=>zf4 1123 [72] Z (fS Z<|fN)<|z0m fun x41 h42=>Ef Z (apn 1120 Z Z Z .rd h42 tu88 zp9 Z Z Z) fun v43=>Zb Z<|z0v<|z8g [1112] mixed Z Z<|hTk 0 Z Z (ldV 1113 Z Z .here sc92 Z)<|hTk 1 Z Z (mv Z)<|hTk 2 Z Z (mv Z)<|z3s fun x44 h45=>hTk 3 Z Z (ixO 6 Z Z Z h45 tu88 zp9)<|hTk 4 Z Z (fa 6 Z Z z11l (z18z h45) Tryz.underlying94 Z (by exact z40))<|hTk 5 Z Z (ld 6 Z Z ((Foc.el h45).part (z8o _)) z83 Z)<|hDoV 6 Z (by kernel_rfl) (gd0 Z) Z Z Z Z (mdeV 1112 Z Z Z ky45 Z Tryz.underlying92)<|z4t (by kernel_rfl)<|z0z<|z20<|Zm Z<|Zm Z<|Zm Z<|Zq (I.add Z Z)<|call [6] [(100,1148)] Z Tryz.func92 Z Z (z157 (R:=z0s) Z _ _ _ _) (aQ Z<|aQ Z<|aQ Z<|aN) (y1 Z) fun r46 n47=>Za Z<|z1g<|z3f<|z1q (fun aa ww h=>⟨nvl [(n47 0),v43],Zu h [1148,1112,1113,1120,1001]⟩)
     ·refine z21<|z15<|z17<|z5k (fun aa ww h=>⟨nvl [(n33 1)],Zu h [1120,1001]⟩)
    ·refine gEx fun n48=>gSR<|Zm Z<|Za Z<|Zb Z<|z0o<|Ze [(n48 0)] [1001,1117] Z
def zdq (s12:(List UInt8) × (List (V3 × Int)) × Int) (x15:z0d) (s34:(List UInt8) × Int):Option (Sum ((List UInt8)) ((List UInt8) × Int)) :=
 if decide (s34.2<(x15.o.Preds.length:Int)) then
  idx x15.o.Preds s34.2 >>= fun x37 =>
  some ((zfh s12.2.1 x37).getD 0) >>= fun y40 =>
  some ((zfh s12.2.1 x37).isSome) >>= fun y41 =>
  if y41 then
   z4y (UInt64.ofInt (w64 (s12.2.2 - y40))) >>= fun r43 =>
   app 1 s34.1 r43 >>= fun x45 =>
   some (.inr (x45,w64 (s34.2+1)))
  else
   app 1 s34.1 [0] >>= fun x49 =>
   app 1 x49 x37.toList >>= fun x52 =>
   some (.inr (x52,w64 (s34.2+1)))
 else
  some (.inl s34.1)
def zdp (r1:(List z0d) × Int) (s12:(List UInt8) × (List (V3 × Int)) × Int):Option (Sum (Sum ((List UInt8) × Int) ((List UInt8))) ((List UInt8) × (List (V3 × Int)) × Int)) :=
 if decide (s12.2.2<(r1.1.length:Int)) then
  idx r1.1 s12.2.2 >>= fun x15 =>
  ze7 (⟨x15.o.Author,[],x15.o.Stamp,x15.o.Act,x15.o.Sig⟩:z03) >>= fun r19 =>
  if r19.2 != 0 then
   some (.inl (.inl ([],r19.2)))
  else
   zcc r19.1 >>= fun r22 =>
   if r22.2 != 0 then
    some (.inl (.inl ([],r22.2)))
   else
    app 1 s12.1 r22.1 >>= fun x25 =>
    z4y (UInt64.ofInt (x15.o.Preds.length:Int)) >>= fun r28 =>
    app 1 x25 r28 >>= fun x30 =>
    (iter (zdq s12 x15) (x30,0)) >>= fun s33 =>
    some (.inr (s33,zo6 s12.2.1 x15.id s12.2.2,w64 (s12.2.2+1)))
 else
  some (.inl (.inr s12.1))
def zb9 (a0:List z03):Option ((List UInt8) × Int) :=
 zbe a0 >>= fun r1 =>
 if r1.2 != 0 then
  some ([],r1.2)
 else
  z4y (UInt64.ofInt (r1.1.length:Int)) >>= fun r5 =>
  app 1 [112] r5 >>= fun x7 =>
  z5o (iter (zdp r1) (x7,([]:List (V3 × Int)),0)) fun s11 =>
  some (s11,0)
theorem zqv (a0:List z03):z2b Tryz.prog 21 [.rd (z04 z05) a0] [zG1] (zb9 a0) (fun r nv=>⟨[.val (nv 0),.rd z0k r.2],[(1001,some (.bool true,.glob 1 (z43 64 z0x) zah)),(100,some (nv 0,.list u8R 5 r.1))]⟩):=by
 refine z2n 103 Tryz.func21 Z Z Z fun H w=>?_;refine gSR<|Za Z<|Zb Z<|gSR<|Zm Z<|Zc [1001] [(100,1)] Tryz.func45 Z (zgc _) fun r1 n2=>Zm Z<|Zq (ext Z Z)<|Zq (ext Z Z)<|Za Z<|Zb Z<|z0v<|gSR<|Zm Z<|Zq (I.neq Z Z)<|Zj Z (fun h3=>?_) (fun h3=>?_)
 ·refine gSR<|Zm Z<|Za Z<|Zb Z<|z0o<|z0q<|zgb u8R 5 2<|Ze [(.slice none 0 0)] [1001,2] Z
 ·refine Zt<|gSR<|Ef Z (lit (R:=u8R) ([112]:List UInt8) 3 (pP Z Z<|pN) Z tu52 ti5 Z Z) fun v4=>Zm Z<|Zq (z2v Z (.own 1 Z) Z tu88)<|Zq (I.toU Z tu3 tu35)<|Zc [] [(100,4)] Tryz.func57 Z (z4b _) fun r5 n6=>z0m fun x7 h8=>Ef Z (apn 3 Z Z Z (.own 4 Z) h8 tu52 ti5 Z Z Z) fun v9=>Zb Z<|gSR<|Ef Z (mkm aZ z0k 5 (Or.inl Z) Tryz.underlying103) fun v10=>Zb Z<|z7j (fun (s11:(List UInt8)) aa ww=>∃ nv:Nat→Value,Sta (ctx 103 H [zG1] w) [(6,.val (nv 0))] [(3,some ((nv 0),.list u8R 5 s11)),zG1] aa ww) ?_ (fun s11=>?_)
  ·refine gSR<|Zm Z<|Zq (z2v Z (.own 1 Z) Z tu88)<|Zm Z<|Zn<|z2a (fun (s12:(List UInt8) × (List (V3 × Int)) × Int) aa ww=>∃ nv:Nat→Value,Sta (ctx 103 H [zG1] w) [(6,.val (nv 0)),(7,.val v10),(33,.val (n2 0)),(34,.rd z0k (r1.1.length:Int)),(35,.rd z0k s12.2.2)] [(3,some ((nv 0),.list u8R 5 s12.1)),(5,some (v10,.map aZ z0k s12.2.1)),(1,some ((n2 0),.list z0s 94 r1.1)),zG1] aa ww) (fun aa ww h=>⟨nvl [v9],Zu h [3,5,1,1001]⟩) (fun s12=>?_)
   refine gEx fun n13=>gSR<|Zq (I.lss Z Z)<|Zn<|z0v<|gIf Z Z (fun h14=>?_) (fun h14=>?_)
   ·refine Zt<|z0v<|z5b<|gSR<|Zm Z<|z0m fun x15 h16=>Zq (ixO 1 Z Z Z h16 tu88 zp9)<|Zq (ld 1 Z Z (Foc.el h16) ty94 Z)<|Eb Z (zad 1100 zp9 (.zr (R:=z0s) (x:=(⟨(⟨0,[],0,(⟨0,[],(⟨0,0,0,[]⟩:z01)⟩:z0a),(⟨0,0⟩:z0b)⟩:z03),(Vector.replicate 32 0)⟩:z0d)) zr94)) fun v17=>Za Z<|Es (sto 1100 Z Z fH Z zp9)<|Zn<|gSR<|Zq (faB 1100 Z Z Tryz.underlying94 Z (by exact z6w))<|Zq (ld 1100 Z Z (fP (z7t _)) z8y Z)<|Eb Z (zad 1101 z6w (ZrE.rd (R:=z0x) (x:=0) (Zr.num Z) (ZrE.nilS (ZrE.rd (R:=z1p) (x:=0) (Zr.num Z) (ZrE.rd (R:=z07) (x:=(⟨0,[],(⟨0,0,0,[]⟩:z01)⟩:z0a)) zja (ZrE.rd (R:=z09) (x:=(⟨0,0⟩:z0b)) zln ZrE.nil Z) Z) Z)) Z)) fun v18=>ztm aZ [.rd z0x 0,.rd (z04 aZ) [],.rd z1p 0,.rd z07 (⟨0,[],(⟨0,0,0,[]⟩:z01)⟩:z0a),.rd z09 (⟨0,0⟩:z0b)] 1101 [.rd z0x 0] [.rd z1p 0,.rd z07 (⟨0,[],(⟨0,0,0,[]⟩:z01)⟩:z0a),.rd z09 (⟨0,0⟩:z0b)] Z Z Z<|zmr (R:=z05) (⟨0,[],0,(⟨0,[],(⟨0,0,0,[]⟩:z01)⟩:z0a),(⟨0,0⟩:z0b)⟩:z03) 1101 Z (Sp.via (Sp.prod (Sp.prod (Sp.prod (Sp.prod (Sp.prod Sp.unit))))))<|Es (sto 1101 Z Z fH Z z6w)<|Zn<|gSR<|Zq (faB 1101 Z Z Tryz.underlying43 Z (by exact za8))<|lSpl (R:=z05) 1101 Z (Sp.via (Sp.prod (Sp.prod (Sp.prod (Sp.prod (Sp.prod Sp.unit))))))<|Es (zqr 1101 Z Z (z6z.cast (z6z.next z00 (z6z.here z00)) Z) Z z1d z0c za8)<|Zn<|gSR<|ztm aZ [.rd z0x x15.o.Author,.rd (z04 aZ) [],.rd z1p x15.o.Stamp,.rd z07 x15.o.Act,.rd z09 x15.o.Sig] 1101 [.rd z0x x15.o.Author] [.rd z1p x15.o.Stamp,.rd z07 x15.o.Act,.rd z09 x15.o.Sig] Z Z Z<|zmr (R:=z05) (⟨x15.o.Author,[],x15.o.Stamp,x15.o.Act,x15.o.Sig⟩:z03) 1101 Z (Sp.via (Sp.prod (Sp.prod (Sp.prod (Sp.prod (Sp.prod Sp.unit))))))<|Zq (ld 1101 Z Z fH z8y Z)<|Zc [] [(100,1102)] Tryz.func58 Z (zlo _) fun r19 n20=>Zm Z<|Zq (ext Z Z)<|Zq (ext Z Z)<|Za Z<|Zb Z<|z0v<|gSR<|Zm Z<|Zq (I.neq Z Z)<|Zj Z (fun h21=>?_) (fun h21=>?_)
    ·refine gSR<|Zm Z<|Za Z<|Zb Z<|z0o<|z0q<|z44<|z0q<|z6t<|z4g<|zgb u8R 5 1103<|Ze [(.slice none 0 0)] [1001,1103] Z
    ·refine Zt<|gSR<|Zm Z<|zf4 1102 [46,11,52] Z (fS Z<|fS Z<|fS Z<|fN)<|Zc [] [(100,1104)] Tryz.func59 Z (zfo _) fun r22 n23=>Zm Z<|Zq (ext Z Z)<|Zq (ext Z Z)<|Za Z<|Zb Z<|z0v<|gSR<|Zm Z<|Zq (I.neq Z Z)<|Zj Z (fun h24=>?_) (fun h24=>?_)
     ·refine gSR<|Zm Z<|Za Z<|Zb Z<|z0o<|z0q<|z44<|z0q<|z6t<|z4g<|zgb u8R 5 1105<|Ze [(.slice none 0 0)] [1001,1105] Z
     ·refine Zt<|z0v<|z8g [3,1130] mixed Z Z<|hTk 0 Z Z (mv Z)<|hTk 1 Z Z (mv Z)<|hTk 3 Z Z (faB 1100 Z Z Tryz.underlying94 Z (by exact z6w))<|hTk 4 Z Z (faB 1100 Z Z Tryz.underlying43 Z (by exact za8))<|hTk 5 Z Z (ld 1100 Z Z ((fP (z7t _)).part (z16 _)) zeh Z)<|hTk 6 Z Z (z2v Z .rd Z tu29)<|hTk 7 Z Z (I.toU Z tu3 tu35)<|z3s fun x25 h26=>Zo 2 Z Z Z (apn 3 Z Z Z (.own 1104 Z) h26 tu52 ti5 Z Z Z) fun v27=>z54 8 [] [(100,1130)] Z (by kernel_rfl) Z (gd0 Z) Z Tryz.func57 Z Z (z4b _) (Y1 Z) rN Z (fun _ _=>z36) fun r28 n29=>z3s fun x30 h31=>Zo 9 Z Z Z (apn 3 Z Z Z (.own 1130 Z) h31 tu52 ti5 Z Z Z) fun v32=>Zf 10 Z Z z36 (asg Z)<|z4t (by kernel_rfl)<|z0z<|z68 (fun (s33:(List UInt8)) aa ww=>∃ nv:Nat→Value,Sta (ctx 103 H [zG1] w) [(6,.val (nv 0)),(7,.val v10),(8,.rd z0k s12.2.2),(9,.val (z0j v17 0)),(33,.val (n2 0)),(34,.rd z0k (r1.1.length:Int)),(35,.rd z0k s12.2.2)] [(3,some ((nv 0),.list u8R 5 s33)),(5,some (v10,.map aZ z0k s12.2.1)),(1100,some (v17,.box 94 [.rd z0s x15])),(1,some ((n2 0),.list z0s 94 r1.1)),zG1] aa ww) ?_ (fun s33=>?_)
      ·refine gSR<|Zq (faB 1100 Z Z Tryz.underlying94 Z (by exact z6w))<|Zq (faB 1100 Z Z Tryz.underlying43 Z (by exact za8))<|Zq (ld 1100 Z Z ((fP (z7t _)).part (z16 _)) zeh Z)<|Zq (z2v Z .rd Z tu29)<|Zm Z<|Zn<|z2a (fun (s34:(List UInt8) × Int) aa ww=>∃ nv:Nat→Value,Sta (ctx 103 H [zG1] w) [(6,.val (nv 0)),(7,.val v10),(8,.rd z0k s12.2.2),(9,.val (z0j v17 0)),(33,.val (n2 0)),(34,.rd z0k (r1.1.length:Int)),(35,.rd z0k s12.2.2),(71,.rd (z04 aZ) x15.o.Preds),(72,.rd z0k (x15.o.Preds.length:Int)),(73,.rd z0k s34.2)] [(3,some ((nv 0),.list u8R 5 s34.1)),(5,some (v10,.map aZ z0k s12.2.1)),(1100,some (v17,.box 94 [.rd z0s x15])),(1,some ((n2 0),.list z0s 94 r1.1)),zG1] aa ww) (fun aa ww h=>⟨nvl [v32],Zu h [3,5,1100,1,1001]⟩) (fun s34=>?_)
       refine gEx fun n35=>gSR<|Zq (I.lss Z Z)<|Zn<|z0v<|gIf Z Z (fun h36=>?_) (fun h36=>?_)
       ·refine Zt<|z0v<|z5b<|gSR<|z0m fun x37 h38=>Zq (ixR Z Z h38 tu29 z40 Z)<|Zq (ldR Z z83)<|Eb Z (zad 1142 z40 (.zr (R:=aZ) (x:=(Vector.replicate 32 0)) zl9)) fun v39=>Es (sto 1142 Z Z fH Z z40)<|Zn<|gSR<|Zm Z<|Zq (ld 1142 Z Z fH z83 Z)<|Zq (mlk2 Z (.own 5 Z Z) Z ky45 Tryz.underlying103 ti3 (Zr.num Z) Z)<|Zm Z<|Zq (ext Z Z)<|Zq (ext Z Z)<|Za Z<|z1o 16 Z fun y40=>Za Z<|z1o 17 Z fun y41=>Zn<|gSR<|Zm Z<|Zj Z (fun h42=>?_) (fun h42=>?_)
        ·refine gKn 17 Z h42<|z20<|Zm Z<|Zm Z<|Zm Z<|Zq (I.sub Z Z)<|Zq (I.toU Z tu3 tu35)<|Zc [] [(100,1143)] Tryz.func57 Z (z4b _) fun r43 n44=>z0m fun x45 h46=>Ef Z (apn 3 Z Z Z (.own 1143 Z) h46 tu52 ti5 Z Z Z) fun v47=>Za Z<|z1g<|z3f<|z0z<|z20<|Zq (I.add Z Z)<|Zm Z<|z1g<|z1q (fun aa ww h=>⟨nvl [v47],Zu h [3,5,1100,1,1001]⟩)
        ·refine gKn 17 Z h42<|z14s 1142 15 Z Z<|z8g [3,1147] mixed Z Z<|hTk 0 Z Z (mv Z)<|hTk 3 Z Z (cutV Z tu45 ti5 Z Z Z)<|Zo 1 Z Z Z (lit (R:=u8R) ([0]:List UInt8) 1147 (pP Z Z<|pN) Z tu52 ti5 Z Z) fun v48=>z3s fun x49 h50=>Zo 2 Z Z Z (apn 3 Z Z Z (.own 1147 Z) h50 tu52 ti5 Z Z Z) fun v51=>z3s fun x52 h53=>Zo 4 Z Z Z (apn 3 Z Z Z .rd h53 tu52 ti5 Z Z Z) fun v54=>Zf 5 Z Z z36 (asg Z)<|z4t (by kernel_rfl)<|z3f<|z0z<|z20<|Zq (I.add Z Z)<|Zm Z<|z1g<|z1q (fun aa ww h=>⟨nvl [v54],Zu h [3,5,1100,1,1001]⟩)
       ·refine z21<|z15<|z17<|z2q (fun aa ww h=>⟨nvl [(n35 0)],Zu h [3,5,1100,1,1001]⟩)
      ·refine gEx fun n55=>z20<|Zm Z<|Zq (faB 1100 Z Z Tryz.underlying94 Z (by exact z40))<|Zq (ld 1100 Z Z (fP (z8o _)) z83 Z)<|Zm Z<|Es (mup 5 Z Z Z Z ky45 Tryz.underlying103)<|z1g<|z3f<|z0z<|z20<|Zq (I.add Z Z)<|Zm Z<|z1g<|z1q (fun aa ww h=>⟨nvl [(n55 0)],Zu h [3,5,1,1001]⟩)
   ·refine z21<|z15<|z17<|z5k (fun aa ww h=>⟨nvl [(n13 0)],Zu h [3,1001]⟩)
  ·refine gEx fun n56=>gSR<|Zm Z<|Za Z<|Zb Z<|z0o<|Ze [(n56 0)] [1001,3] Z
def z8e (a0:List UInt8) (a1:List UInt8) (s3:Int):Option (Sum (Sum Bool Unit) Int) :=
 if decide (s3<(a0.length:Int)) then
  idx a0 s3 >>= fun x5 =>
  idx a1 s3 >>= fun x7 =>
  if x5 != x7 then
   some (.inl (.inl false))
  else
   some (.inr (w64 (s3+1)))
 else
  some (.inl (.inr ()))
def z3e (a0:List UInt8) (a1:List UInt8):Option (Bool) :=
 if (a0.length:Int) != (a1.length:Int) then
  some false
 else
  z5o (iter (z8e a0 a1) 0) fun s2 =>
  some true
theorem zc5 (a0:List UInt8) (a1:List UInt8):z2b Tryz.prog 26 [.rd (z04 u8R) a0,.rd (z04 u8R) a1] [] (z3e a0 a1) (fun r nv=>⟨[.rd z0l r],[]⟩):=by
 refine z2n 26 Tryz.func26 Z Z Z fun H w=>?_;refine gSR<|Zb Z<|z0v<|gSR<|Zm Z<|Zq (z2v Z .rd Z tu52)<|Zm Z<|Zq (z2v Z .rd Z tu52)<|Zq (I.neq Z Z)<|Zj Z (fun h1=>?_) (fun h1=>?_)
 ·refine gSR<|Zb Z<|z0o<|z0q<|Ze [] [] Z
 ·refine Zt<|z7j (fun (s2:Unit) aa ww=>Sta (ctx 26 H [] w) [] [] aa ww) ?_ (fun s2=>?_)
  ·refine gSR<|Zb Z<|z2a (fun (s3:Int) aa ww=>Sta (ctx 26 H [] w) [(0,.rd (z04 u8R) a0),(1,.rd (z04 u8R) a1),(5,.rd z0k s3)] [] aa ww) (fun aa ww h=>Zu h []) (fun s3=>?_);refine z0v<|gSR<|Zm Z<|Zm Z<|Zq (z2v Z .rd Z tu52)<|Zq (I.lss Z Z)<|Zj Z (fun h4=>?_) (fun h4=>?_)
   ·refine Zt<|z0v<|z5b<|z0v<|zi5 mixed (by kernel_rfl)<|Rq Z (mv Z)<|Rq Z (mv Z)<|z80 fun x5 h6=>Rq Z (ixR Z Z h6 tu52 ti5 Z)<|Rq Z (ldR Z ty5)<|Rq Z (mv Z)<|Rq Z (mv Z)<|z80 fun x7 h8=>Rq Z (ixR Z Z h8 tu52 ti5 Z)<|Rq Z (ldR Z ty5)<|Rq Z (B.neq Z Z)<|ztj<|z0z<|gIf Z Z (fun h9=>?_) (fun h9=>?_)
    ·refine gSR<|Zb Z<|z0o<|z44<|z0q<|z6t<|z4g<|Ze [] [] Z
    ·refine z31<|z3f<|z0z<|z20<|Zm Z<|Zq (I.add Z Z)<|Za Z<|z1g<|z1q (fun aa ww h=>Zu h [])
   ·refine z21<|z15<|z17<|z5k (fun aa ww h=>Zu h [])
  ·refine gSR<|Zb Z<|z0o<|Ze [] [] Z
def za4 (a0:List z03) (s2:(List V3) × Int):Option (Sum ((List V3)) ((List V3) × Int)) :=
 if decide (s2.2<(a0.length:Int)) then
  idx a0 s2.2 >>= fun x5 =>
  za5 x5 >>= fun r7 =>
  app 32 s2.1 [r7] >>= fun x10 =>
  some (w64 (s2.2+1)) >>= fun y13 =>
  some (.inr (x10,y13))
 else
  some (.inl s2.1)
def z8u (a0:List z03):Option ((List V3)) :=
 (iter (za4 a0) ([],0)) >>= fun s1 =>
 some s1
theorem zcd (a0:List z03):z2b Tryz.prog 43 [.rd (z04 z05) a0] [] (z8u a0) (fun r nv=>⟨[.val (nv 0)],[(100,some (nv 0,.list aZ 45 r))]⟩):=by
 refine z2n 20 Tryz.func43 Z Z Z fun H w=>?_;refine gSR<|Zb Z<|gSR<|Zb Z<|z68 (fun (s1:(List V3)) aa ww=>∃ nv:Nat→Value,Sta (ctx 20 H [] w) [(3,.val (nv 0))] [(2,some ((nv 0),.list aZ 45 s1))] aa ww) ?_ (fun s1=>?_)
 ·refine gSR<|Zb Z<|zqy aZ 45 5<|z2a (fun (s2:(List V3) × Int) aa ww=>∃ nv:Nat→Value,Sta (ctx 20 H [] w) [(0,.rd (z04 z05) a0),(3,.val (nv 0)),(4,.rd z0k s2.2)] [(4,some ((nv 0),.list aZ 45 s2.1))] aa ww) (fun aa ww h=>⟨nvl [(.slice none 0 0)],Zu h [5]⟩) (fun s2=>?_);refine gEx fun n3=>z0v<|gSR<|Zm Z<|Zm Z<|Zq (z2v Z .rd Z tu22)<|Zq (I.lss Z Z)<|Zj Z (fun h4=>?_) (fun h4=>?_)
  ·refine Zt<|z0v<|z5b<|z20<|Zm Z<|Zm Z<|Zm Z<|z0m fun x5 h6=>Zq (ixR Z Z h6 tu22 z6w Z)<|Zq (ldR Z z8y)<|Zc [] [] Tryz.func16 Z (zd6 _) fun r7 n8=>Ef Z (lit (R:=aZ) ([r7]:List V3) 6 (pP Z Z<|pN) Z tu29 z40 Z Z) fun v9=>zf4 6 [17] Z (fS Z<|fN)<|z0m fun x10 h11=>Ef Z (apn 4 Z Z Z .rd h11 tu29 z40 Z Z Z) fun v12=>Za Z<|z1g<|z3f<|z0z<|z20<|Zm Z<|Zq (I.add Z Z)<|Za Z<|z1o 4 Z fun y13=>z1g<|z1q (fun aa ww h=>⟨nvl [v12],Zu h [4]⟩)
  ·refine z21<|z15<|z17<|z2q (fun aa ww h=>⟨nvl [(n3 0)],Zu h [4]⟩)
 ·refine gEx fun n14=>gSR<|Zm Z<|Zb Z<|z0o<|Ze [(n14 0)] [2] Z
def z94 (a0:z03) (a1:List V3) (a2:List Bool) (s3:Int):Option (Sum (Sum Bool Unit) Int) :=
 if decide (s3<(a1.length:Int)) then
  idx a2 s3 >>= fun x5 =>
  if x5 then
   idx a1 s3 >>= fun x8 =>
   z3u a0.Preds x8 >>= fun r10 =>
   if decide (0≤r10) then
    some (.inl (.inl false))
   else
    some (.inr (w64 (s3+1)))
  else
   some (.inr (w64 (s3+1)))
 else
  some (.inl (.inr ()))
def zbx (a0:z03) (a1:List V3) (a2:List Bool):Option (Bool) :=
 z5o (iter (z94 a0 a1 a2) 0) fun s2 =>
 some true
theorem zg2 (a0:z03) (a1:List V3) (q1:Value) (l1:List V3) (a2:List Bool) (q2:Value) (l2:List Bool):z2b Tryz.prog 86 [.rd z05 a0,.vw aZ q1 l1 a1,.vw z0l q2 l2 a2] [(1,some (q1,.list aZ 45 l1)),(2,some (q2,.list z0l 4 l2))] (zbx a0 a1 a2) (fun r nv=>⟨[.rd z0l r],[(1,some (q1,.list aZ 45 l1)),(2,some (q2,.list z0l 4 l2))]⟩):=by
 refine z2n 28 Tryz.func86 Z Z Z fun H w=>?_;refine gSR<|Eb Z (bx 3 Z) fun v1=>Zb Z<|z7j (fun (s2:Unit) aa ww=>Sta (ctx 28 H [(1,some (q1,.list aZ 45 l1)),(2,some (q2,.list z0l 4 l2))] w) [] [(1,some (q1,.list aZ 45 l1)),(2,some (q2,.list z0l 4 l2))] aa ww) ?_ (fun s2=>?_)
 ·refine gSR<|Zb Z<|z2a (fun (s3:Int) aa ww=>Sta (ctx 28 H [(1,some (q1,.list aZ 45 l1)),(2,some (q2,.list z0l 4 l2))] w) [(1,.vw aZ q1 l1 a1),(2,.vw z0l q2 l2 a2),(3,.val (z0j v1 0)),(7,.rd z0k s3)] [(1,some (q1,.list aZ 45 l1)),(2,some (q2,.list z0l 4 l2)),(3,some (v1,.box 43 [.rd z05 a0]))] aa ww) (fun aa ww h=>Zu h [1,2,3]) (fun s3=>?_);refine z0v<|gSR<|Zm Z<|Zm Z<|Zq (z2v Z (.vw 1 Z) Z tu29)<|Zq (I.lss Z Z)<|Zj Z (fun h4=>?_) (fun h4=>?_)
  ·refine Zt<|z0v<|z5b<|z0v<|z8g [] mixed Z Z<|hTk 0 Z Z (mv Z)<|hTk 1 Z Z (mv Z)<|z3s fun x5 h6=>hTk 2 Z Z (ixQ 2 Z Z Z h6 tu128 ti4)<|hTk 3 Z Z (ldQ 2 Z Z ty4 Z)<|hTk 4 Z Z (mv Z)<|hIf 18 Z Z (fun h7=>?_) (fun h7=>?_)
   ·refine hKn 17 Z Z h7<|Zg 5 Z Z (faB 3 Z Z Tryz.underlying43 Z (by exact za8))<|Zg 6 Z Z (ld 3 Z Z (fP (z16 _)) zeh Z)<|Zg 7 Z Z (mv Z)<|Zg 8 Z Z (mv Z)<|z3s fun x8 h9=>Zg 9 Z Z (ixQ 1 Z Z Z h9 tu29 z40)<|Zg 10 Z Z (ldQ 1 Z Z z83 Z)<|z54 11 [] [] Z (by kernel_rfl) Z Zx Z Tryz.func17 Z Z (z8h _ _) (Y2 Z Z) rN Z (fun _ _=>z3g) fun r10 n11=>Zg 12 Z Z (I.geq Z Z)<|hTk 13 Z Z (pkT Z Z)<|z4t (by kernel_rfl)<|z0z<|gIf Z Z (fun h12=>?_) (fun h12=>?_)
    ·refine gKn 26 Z h12<|gSR<|Zb Z<|z0o<|z44<|z0q<|z6t<|z4g<|Ze [] [1,2] Z
    ·refine gKn 26 Z h12<|z31<|z3f<|z0z<|z20<|Zm Z<|Zq (I.add Z Z)<|Za Z<|z1g<|z1q (fun aa ww h=>Zu h [1,2,3])
   ·refine hKn 17 Z Z h7<|hSk 5 Z Z<|hSk 6 Z Z<|hSk 7 Z Z<|hSk 8 Z Z<|hSk 9 Z Z<|hSk 10 Z Z<|hSk 11 Z Z<|hSk 12 Z Z<|hTk 13 Z Z (pkF Z Z)<|z4t (by kernel_rfl)<|z0z<|zbu Z<|z31<|z3f<|z0z<|z20<|Zm Z<|Zq (I.add Z Z)<|Za Z<|z1g<|z1q (fun aa ww h=>Zu h [1,2,3])
  ·refine z21<|z15<|z17<|z5k (fun aa ww h=>Zu h [1,2])
 ·refine gSR<|Zb Z<|z0o<|Ze [] [1,2] Z
def z6k (a0:List z03) (s7:(List Bool) × Int):Option (Sum ((List Bool)) ((List Bool) × Int)) :=
 if decide (s7.2<(a0.length:Int)) then
  idx s7.1 s7.2 >>= fun x9 =>
  some (w64 (s7.2+1)) >>= fun y11 =>
  some (.inr (s7.1.set (s7.2:Int).toNat true,y11))
 else
  some (.inl s7.1)
def z4x (a0:List z03) (r1:(List V3)) (s12:(List Bool) × (List Int)) (s15:Int × Int):Option (Sum Int (Int × Int)) :=
 if decide (s15.2<(a0.length:Int)) then
  (idx s12.1 s15.2 >>= fun x18 =>
  if x18 then
   idx a0 s15.2 >>= fun x21 =>
   zbx x21 r1 s12.1 >>= fun r23 =>
   if r23 then
    if decide (s15.1<0) then
     some true
    else
     idx r1 s15.2 >>= fun x27 =>
     idx r1 s15.1 >>= fun x29 =>
     z8w x27 x29 >>= fun r31 =>
     some (decide (r31<0))
   else
    some false
  else
   some false) >>= fun s17 =>
  if s17 then
   some (w64 (s15.2+1)) >>= fun y36 =>
   some (.inr (s15.2,y36))
  else
   some (w64 (s15.2+1)) >>= fun y37 =>
   some (.inr (s15.1,y37))
 else
  some (.inl s15.1)
def z4v (a0:List z03) (r1:(List V3)) (s12:(List Bool) × (List Int)):Option (Sum ((List Int)) ((List Bool) × (List Int))) :=
 (iter (z4x a0 r1 s12) ((-1),0)) >>= fun s14 =>
 if decide (s14<0) then
  some (.inl s12.2)
 else
  app 8 s12.2 [s14] >>= fun x40 =>
  idx s12.1 s14 >>= fun x43 =>
  some (.inr (s12.1.set (s14:Int).toNat false,x40))
def z8s (a0:List z03):Option ((List Int)) :=
 z8u a0 >>= fun r1 =>
 mkn 1 false (a0.length:Int) >>= fun x3 =>
 (iter (z6k a0) (x3,0)) >>= fun s6 =>
 iter (z4v a0 r1) (s6,[])
theorem ze6 (a0:List z03):z2b Tryz.prog 44 [.rd (z04 z05) a0] [] (z8s a0) (fun r nv=>⟨[.val (nv 0)],[(100,some (nv 0,.list z0k 3 r))]⟩):=by
 refine z2n 69 Tryz.func44 Z Z Z fun H w=>?_;refine gSR<|Zb Z<|gSR<|Zm Z<|Zc [] [(100,1)] Tryz.func43 Z (zcd _) fun r1 n2=>Zb Z<|gSR<|Zm Z<|Zq (z2v Z .rd Z tu22)<|z0m fun x3 h4=>Ef Z (mks (R:=z0l) 2 Z Z h4 tu128 ti4 Zr.bool Z) fun v5=>Zb Z<|z68 (fun (s6:(List Bool)) aa ww=>Sta (ctx 69 H [] w) [(0,.rd (z04 z05) a0),(3,.val (n2 0)),(4,.val v5)] [(1,some ((n2 0),.list aZ 45 r1)),(2,some (v5,.list z0l 4 s6))] aa ww) ?_ (fun s6=>?_)
 ·refine gSR<|Zb Z<|z2a (fun (s7:(List Bool) × Int) aa ww=>Sta (ctx 69 H [] w) [(0,.rd (z04 z05) a0),(3,.val (n2 0)),(4,.val v5),(5,.rd z0k s7.2)] [(1,some ((n2 0),.list aZ 45 r1)),(2,some (v5,.list z0l 4 s7.1))] aa ww) (fun aa ww h=>Zu h [1,2]) (fun s7=>?_);refine z0v<|gSR<|Zm Z<|Zm Z<|Zq (z2v Z .rd Z tu22)<|Zq (I.lss Z Z)<|Zj Z (fun h8=>?_) (fun h8=>?_)
  ·refine Zt<|z0v<|z5b<|z20<|Zm Z<|Zm Z<|z0m fun x9 h10=>Zq (ixO 2 Z Z Z h10 tu128 ti4)<|Es (sto 2 Z Z (Foc.el h10) Z ti4)<|z1g<|z3f<|z0z<|z20<|Zm Z<|Zq (I.add Z Z)<|Za Z<|z1o 5 Z fun y11=>z1g<|z1q (fun aa ww h=>Zu h [1,2])
  ·refine z21<|z15<|z17<|z2q (fun aa ww h=>Zu h [1,2])
 ·refine gSR<|Zb Z<|zqy z0k 3 96<|z2a (fun (s12:(List Bool) × (List Int)) aa ww=>∃ nv:Nat→Value,Sta (ctx 69 H [] w) [(0,.rd (z04 z05) a0),(3,.val (n2 0)),(4,.val v5),(6,.val (nv 0))] [(1,some ((n2 0),.list aZ 45 r1)),(2,some (v5,.list z0l 4 s12.1)),(95,some ((nv 0),.list z0k 3 s12.2))] aa ww) (fun aa ww h=>⟨nvl [(.slice none 0 0)],Zu h [1,2,96]⟩) (fun s12=>?_);refine gEx fun n13=>z5b<|gSR<|Zb Z<|z68 (fun (s14:Int) aa ww=>Sta (ctx 69 H [] w) [(0,.rd (z04 z05) a0),(3,.val (n2 0)),(4,.val v5),(6,.val (n13 0)),(7,.rd z0k s14)] [(1,some ((n2 0),.list aZ 45 r1)),(2,some (v5,.list z0l 4 s12.1)),(95,some ((n13 0),.list z0k 3 s12.2))] aa ww) ?_ (fun s14=>?_)
  ·refine gSR<|Zb Z<|z2a (fun (s15:Int × Int) aa ww=>Sta (ctx 69 H [] w) [(0,.rd (z04 z05) a0),(3,.val (n2 0)),(4,.val v5),(6,.val (n13 0)),(7,.rd z0k s15.1),(8,.rd z0k s15.2)] [(1,some ((n2 0),.list aZ 45 r1)),(2,some (v5,.list z0l 4 s12.1)),(95,some ((n13 0),.list z0k 3 s12.2))] aa ww) (fun aa ww h=>Zu h [1,2,95]) (fun s15=>?_);refine z0v<|gSR<|Zm Z<|Zm Z<|Zq (z2v Z .rd Z tu22)<|Zq (I.lss Z Z)<|Zj Z (fun h16=>?_) (fun h16=>?_)
   ·refine Zt<|z0v<|z5b<|z68 (fun (s17:Bool) aa ww=>Sta (ctx 69 H [] w) [(0,.rd (z04 z05) a0),(3,.val (n2 0)),(4,.val v5),(6,.val (n13 0)),(7,.rd z0k s15.1),(8,.rd z0k s15.2),(57,.rd z0l s17)] [(1,some ((n2 0),.list aZ 45 r1)),(2,some (v5,.list z0l 4 s12.1)),(95,some ((n13 0),.list z0k 3 s12.2))] aa ww) ?_ (fun s17=>?_)
    ·refine z8g [1,2] mixed Z Z<|hTk 0 Z Z (mv Z)<|hTk 1 Z Z (mv Z)<|z3s fun x18 h19=>hTk 2 Z Z (ixO 2 Z Z Z h19 tu128 ti4)<|zxz 3 Z (by kernel_rfl) (gd0 Z) Z Z zam (ld 2 Z Z (Foc.el h19) ty4 Z)<|hTk 4 Z Z (mv Z)<|hIf 33 Z Z (fun h20=>?_) (fun h20=>?_)
     ·refine hKn 32 Z Z h20<|Zg 5 Z Z (mv Z)<|Zg 6 Z Z (mv Z)<|z3s fun x21 h22=>Zg 7 Z Z (ixR Z Z h22 tu22 z6w Z)<|Zg 8 Z Z (ldR Z z8y)<|Zg 9 Z Z (mv Z)<|Zg 10 Z Z (mv Z)<|z54 11 [1,2] [(1,1),(2,2)] Z (by kernel_rfl) Z Zx Z Tryz.func86 Z Z (zg2 _ _ _ _ _ _ _) (aQ Z<|aW Z<|aW Z<|aN) (Zi Z<|Zi Z<|rN) Z (fun _ _=>zam) fun r23 n24=>hTk 12 Z Z (pkT Z Z)<|hTk 13 Z Z (mv Z)<|hIf 42 Z Z (fun h25=>?_) (fun h25=>?_)
      ·refine hKn 40 Z Z h25<|hKn 41 Z Z h25<|Zg 14 Z Z (mv Z)<|Zg 15 Z Z (I.lss Z Z)<|Zg 16 Z Z (mv Z)<|hIf 45 Z Z (fun h26=>?_) (fun h26=>?_)
       ·refine hKn 44 Z Z h26<|hSk 17 Z Z<|hSk 18 Z Z<|hSk 19 Z Z<|hSk 20 Z Z<|hSk 21 Z Z<|hSk 22 Z Z<|hSk 23 Z Z<|hSk 24 Z Z<|hSk 25 Z Z<|hSk 26 Z Z<|Zg 27 Z Z (pkT Z Z)<|hTk 28 Z Z (pkT Z Z)<|z4t (by kernel_rfl)<|z2q (fun aa ww h=>Zu h [1,2,95])
       ·refine hKn 44 Z Z h26<|Zg 17 Z Z (mv Z)<|Zg 18 Z Z (mv Z)<|z3s fun x27 h28=>Zg 19 Z Z (ixO 1 Z Z Z h28 tu29 z40)<|Zg 21 Z Z (mv Z)<|Zg 22 Z Z (mv Z)<|z3s fun x29 h30=>Zg 23 Z Z (ixO 1 Z Z Z h30 tu29 z40)<|hAlt [20,24] (by kernel_rfl) Z ⟨?_,?_,trivial⟩
        ·refine oRun 20 Z Zx Z Z anyJ (ld 1 Z Z (Foc.el h28) z83 Z)<|zxz 24 Z (by kernel_rfl) Zx Z Z anyJ (ld 1 Z Z (Foc.el h30) z83 Z)<|z54 25 [] [] Z (by kernel_rfl) Z Zx Z Tryz.func18 Z Z (zc9 _ _) (Y2 Z Z) rN Z (fun _ _=>z3g) fun r31 n32=>Zg 26 Z Z (I.lss Z Z)<|Zg 27 Z Z (pkF Z Z)<|hTk 28 Z Z (pkT Z Z)<|z4t (by kernel_rfl)<|z2q (fun aa ww h=>Zu h [1,2,95])
        ·refine oRun 24 Z Zx Z Z anyJ (ld 1 Z Z (Foc.el h30) z83 Z)<|zxz 20 Z (by kernel_rfl) Zx Z Z anyJ (ld 1 Z Z (Foc.el h28) z83 Z)<|z54 25 [] [] Z (by kernel_rfl) Z Zx Z Tryz.func18 Z Z (zc9 _ _) (Y2 Z Z) rN Z (fun _ _=>z3g) fun r33 n34=>Zg 26 Z Z (I.lss Z Z)<|Zg 27 Z Z (pkF Z Z)<|hTk 28 Z Z (pkT Z Z)<|z4t (by kernel_rfl)<|z2q (fun aa ww h=>Zu h [1,2,95])
      ·refine hKn 40 Z Z h25<|hKn 41 Z Z h25<|hSk 14 Z Z<|hSk 15 Z Z<|hSk 16 Z Z<|zf0 17 Z (by kernel_rfl) (by kernel_rfl) (by kernel_rfl) (gdU Z Z Z) Z Z<|zf0 18 Z (by kernel_rfl) (by kernel_rfl) (by kernel_rfl) (gdU Z Z Z) Z Z<|zf0 19 Z (by kernel_rfl) (by kernel_rfl) (by kernel_rfl) (gdU Z Z Z) Z Z<|zf0 20 Z (by kernel_rfl) (by kernel_rfl) (by kernel_rfl) (gdU Z Z Z) Z Z<|zf0 21 Z (by kernel_rfl) (by kernel_rfl) (by kernel_rfl) (gdU Z Z Z) Z Z<|zf0 22 Z (by kernel_rfl) (by kernel_rfl) (by kernel_rfl) (gdU Z Z Z) Z Z<|zf0 23 Z (by kernel_rfl) (by kernel_rfl) (by kernel_rfl) (gdU Z Z Z) Z Z<|zf0 24 Z (by kernel_rfl) (by kernel_rfl) (by kernel_rfl) (gdU Z Z Z) Z Z<|zf0 25 Z (by kernel_rfl) (by kernel_rfl) (by kernel_rfl) (gdU Z Z Z) Z Z<|zf0 26 Z (by kernel_rfl) (by kernel_rfl) (by kernel_rfl) (gdU Z Z Z) Z Z<|hSk 27 Z Z<|hTk 28 Z Z (pkF Z Z)<|z4t (by kernel_rfl)<|z2q (fun aa ww h=>Zu h [1,2,95])
     ·refine hKn 32 Z Z h20<|hSk 5 Z Z<|hSk 6 Z Z<|hSk 7 Z Z<|hSk 8 Z Z<|hSk 9 Z Z<|hSk 10 Z Z<|hSk 11 Z Z<|hTk 12 Z Z (pkF Z Z)<|hTk 13 Z Z (mv Z)<|hSk 14 Z Z<|hSk 15 Z Z<|hSk 16 Z Z<|zf0 17 Z (by kernel_rfl) (by kernel_rfl) (by kernel_rfl) (gdU Z Z Z) Z Z<|zf0 18 Z (by kernel_rfl) (by kernel_rfl) (by kernel_rfl) (gdU Z Z Z) Z Z<|zf0 19 Z (by kernel_rfl) (by kernel_rfl) (by kernel_rfl) (gdU Z Z Z) Z Z<|zf0 20 Z (by kernel_rfl) (by kernel_rfl) (by kernel_rfl) (gdU Z Z Z) Z Z<|zf0 21 Z (by kernel_rfl) (by kernel_rfl) (by kernel_rfl) (gdU Z Z Z) Z Z<|zf0 22 Z (by kernel_rfl) (by kernel_rfl) (by kernel_rfl) (gdU Z Z Z) Z Z<|zf0 23 Z (by kernel_rfl) (by kernel_rfl) (by kernel_rfl) (gdU Z Z Z) Z Z<|zf0 24 Z (by kernel_rfl) (by kernel_rfl) (by kernel_rfl) (gdU Z Z Z) Z Z<|zf0 25 Z (by kernel_rfl) (by kernel_rfl) (by kernel_rfl) (gdU Z Z Z) Z Z<|zf0 26 Z (by kernel_rfl) (by kernel_rfl) (by kernel_rfl) (gdU Z Z Z) Z Z<|hSk 27 Z Z<|hTk 28 Z Z (pkF Z Z)<|z4t (by kernel_rfl)<|z2q (fun aa ww h=>Zu h [1,2,95])
    ·refine gIf Z Z (fun h35=>?_) (fun h35=>?_)
     ·refine z20<|Zm Z<|Za Z<|z1g<|z3f<|z0z<|z20<|Zm Z<|Zq (I.add Z Z)<|Za Z<|z1o 8 Z fun y36=>z1g<|z1q (fun aa ww h=>Zu h [1,2,95])
     ·refine z31<|z3f<|z0z<|z20<|Zm Z<|Zq (I.add Z Z)<|Za Z<|z1o 8 Z fun y37=>z1g<|z1q (fun aa ww h=>Zu h [1,2,95])
   ·refine z21<|z15<|z17<|z2q (fun aa ww h=>Zu h [1,2,95])
  ·refine z0v<|gSR<|Zm Z<|Zq (I.lss Z Z)<|Zj Z (fun h38=>?_) (fun h38=>?_)
   ·refine gSR<|Zm Z<|Zb Z<|z0o<|z0q<|z44<|z6t<|Ze [(n13 0)] [95] Z
   ·refine Zt<|gSR<|Zm Z<|Zm Z<|Ef Z (lit (R:=z0k) ([s14]:List Int) 187 (pP Z Z<|pN) Z tu86 ti3 Z Z) fun v39=>z0m fun x40 h41=>Ef Z (apn 95 Z Z Z (.own 187 Z) h41 tu86 ti3 Z Z Z) fun v42=>Zb Z<|z20<|Zm Z<|Zm Z<|z0m fun x43 h44=>Zq (ixO 2 Z Z Z h44 tu128 ti4)<|Es (sto 2 Z Z (Foc.el h44) Z ti4)<|z1g<|z3f<|z1q (fun aa ww h=>⟨nvl [v42],Zu h [1,2,95]⟩)
def z69 (a0:List z03) (s3:Int):Option (Sum (Sum Int Unit) Int) :=
 if decide (s3<(a0.length:Int)) then
  idx a0 s3 >>= fun x5 =>
  z4p x5 >>= fun r7 =>
  if r7 != 0 then
   some (.inl (.inl r7))
  else
   some (.inr (w64 (s3+1)))
 else
  some (.inl (.inr ()))
def z4z (s13:(List V3) × Int):Option (Sum (Sum Int Unit) ((List V3) × Int)) :=
 if decide (s13.2<(s13.1.length:Int)) then
  idx s13.1 s13.2 >>= fun x15 =>
  z3u s13.1 x15 >>= fun r17 =>
  if decide (r17<s13.2) then
   some (.inl (.inl 14))
  else
   some (w64 (s13.2+1)) >>= fun y20 =>
   some (.inr (s13.1,y20))
 else
  some (.inl (.inr ()))
def z8i (a0:List z03):Option (Int) :=
 if decide (60<(a0.length:Int)) then
  some 4
 else
  z5o (iter (z69 a0) 0) fun s2 =>
  z8u a0 >>= fun r10 =>
  z5o (iter (z4z) (r10,0)) fun s12 =>
  z8s a0 >>= fun r21 =>
  if decide ((r21.length:Int)<(a0.length:Int)) then
   some 36
  else
   some 0
theorem ziy (a0:List z03):z2b Tryz.prog 11 [.rd (z04 z05) a0] [] (z8i a0) (fun r nv=>⟨[.rd z0k r],[]⟩):=by
 refine z2n 46 Tryz.func11 Z Z Z fun H w=>?_;refine gSR<|Zb Z<|z0v<|gSR<|Zm Z<|Zq (z2v Z .rd Z tu22)<|Zq (I.gtr Z Z)<|Zj Z (fun h1=>?_) (fun h1=>?_)
 ·refine gSR<|Zb Z<|z0o<|z0q<|Ze [] [] Z
 ·refine Zt<|z7j (fun (s2:Unit) aa ww=>Sta (ctx 46 H [] w) [(0,.rd (z04 z05) a0)] [] aa ww) ?_ (fun s2=>?_)
  ·refine gSR<|Zb Z<|z2a (fun (s3:Int) aa ww=>Sta (ctx 46 H [] w) [(0,.rd (z04 z05) a0),(3,.rd z0k s3)] [] aa ww) (fun aa ww h=>Zu h []) (fun s3=>?_);refine z0v<|gSR<|Zm Z<|Zm Z<|Zq (z2v Z .rd Z tu22)<|Zq (I.lss Z Z)<|Zj Z (fun h4=>?_) (fun h4=>?_)
   ·refine Zt<|z0v<|z5b<|gSR<|Zm Z<|Zm Z<|z0m fun x5 h6=>Zq (ixR Z Z h6 tu22 z6w Z)<|Zq (ldR Z z8y)<|Zc [] [] Tryz.func15 Z (z6a _) fun r7 n8=>Zb Z<|gSR<|Zm Z<|Zq (I.neq Z Z)<|Zj Z (fun h9=>?_) (fun h9=>?_)
    ·refine gSR<|Zm Z<|Zb Z<|z0o<|z44<|z0q<|z6t<|z4g<|Ze [] [] Z
    ·refine z31<|z3f<|z0z<|z20<|Zm Z<|Zq (I.add Z Z)<|Za Z<|z1g<|z1q (fun aa ww h=>Zu h [])
   ·refine z21<|z15<|z17<|z5k (fun aa ww h=>Zu h [])
  ·refine gSR<|Zm Z<|Zc [] [(100,1)] Tryz.func43 Z (zcd _) fun r10 n11=>Zb Z<|z7j (fun (s12:Unit) aa ww=>Sta (ctx 46 H [] w) [(0,.rd (z04 z05) a0)] [] aa ww) ?_ (fun s12=>?_)
   ·refine gSR<|Zb Z<|gFrz 1 [25,5] Z (fS Z<|fS Z<|fN)<|z2a (fun (s13:(List V3) × Int) aa ww=>Sta (ctx 46 H [] w) [(0,.rd (z04 z05) a0),(5,.rd (z04 aZ) s13.1),(6,.rd z0k s13.2)] [] aa ww) (fun aa ww h=>Zu h []) (fun s13=>?_);refine z0v<|gSR<|Zm Z<|Zm Z<|Zq (z2v Z .rd Z tu29)<|Zq (I.lss Z Z)<|Zj Z (fun h14=>?_) (fun h14=>?_)
    ·refine Zt<|z0v<|z5b<|gSR<|Zm Z<|Zm Z<|Zm Z<|z0m fun x15 h16=>Zq (ixR Z Z h16 tu29 z40 Z)<|Zq (ldR Z z83)<|Zc [] [] Tryz.func17 Z (z8h _ _) fun r17 n18=>Zm Z<|Zq (I.lss Z Z)<|Zj Z (fun h19=>?_) (fun h19=>?_)
     ·refine gSR<|Zb Z<|z0o<|z44<|z0q<|z6t<|z4g<|Ze [] [] Z
     ·refine z31<|z3f<|z0z<|z20<|Zm Z<|Zq (I.add Z Z)<|Za Z<|z1o 6 Z fun y20=>z1g<|z1q (fun aa ww h=>Zu h [])
    ·refine z21<|z15<|z17<|z5k (fun aa ww h=>Zu h [])
   ·refine z0v<|gSR<|Zm Z<|Zc [] [(100,2)] Tryz.func44 Z (ze6 _) fun r21 n22=>Zq (z2v Z (.own 2 Z) Z tu86)<|Zm Z<|Zq (z2v Z .rd Z tu22)<|Zq (I.lss Z Z)<|Zj Z (fun h23=>?_) (fun h23=>?_)
    ·refine gSR<|Zb Z<|z0o<|z0q<|Ze [] [] Z
    ·refine Zt<|gSR<|Zb Z<|z0o<|Ze [] [] Z
def z91 (a0:List z0d) (s2:(List z03) × Int):Option (Sum ((List z03)) ((List z03) × Int)) :=
 if decide (s2.2<(a0.length:Int)) then
  idx a0 s2.2 >>= fun x5 =>
  app 112 s2.1 [x5.o] >>= fun x9 =>
  some (.inr (x9,w64 (s2.2+1)))
 else
  some (.inl s2.1)
def zc2 (a0:List z0d):Option ((List z03)) :=
 (iter (z91 a0) ([],0)) >>= fun s1 =>
 some s1
theorem zje (a0:List z0d):z2b Tryz.prog 46 [.rd (z04 z0s) a0] [] (zc2 a0) (fun r nv=>⟨[.val (nv 0)],[(100,some (nv 0,.list z05 43 r))]⟩):=by
 refine z2n 19 Tryz.func46 Z Z Z fun H w=>?_;refine gSR<|Zb Z<|gSR<|Zb Z<|z68 (fun (s1:(List z03)) aa ww=>∃ nv:Nat→Value,Sta (ctx 19 H [] w) [(3,.val (nv 0))] [(3,some ((nv 0),.list z05 43 s1))] aa ww) ?_ (fun s1=>?_)
 ·refine gSR<|Zm Z<|Zq (z2v Z .rd Z tu88)<|Zm Z<|Zn<|zqy z05 43 7<|z2a (fun (s2:(List z03) × Int) aa ww=>∃ nv:Nat→Value,Sta (ctx 19 H [] w) [(3,.val (nv 0)),(6,.rd (z04 z0s) a0),(7,.rd z0k (a0.length:Int)),(8,.rd z0k s2.2)] [(6,some ((nv 0),.list z05 43 s2.1))] aa ww) (fun aa ww h=>⟨nvl [(.slice none 0 0)],Zu h [7]⟩) (fun s2=>?_);refine gEx fun n3=>gSR<|Zq (I.lss Z Z)<|Zn<|z0v<|gIf Z Z (fun h4=>?_) (fun h4=>?_)
  ·refine Zt<|z0v<|z5b<|gSR<|z0m fun x5 h6=>Zq (ixR Z Z h6 tu88 zp9 Z)<|Zq (ldR Z ty94)<|Eb Z (zad 8 zp9 (.zr (R:=z0s) (x:=(⟨(⟨0,[],0,(⟨0,[],(⟨0,0,0,[]⟩:z01)⟩:z0a),(⟨0,0⟩:z0b)⟩:z03),(Vector.replicate 32 0)⟩:z0d)) zr94)) fun v7=>Es (sto 8 Z Z fH Z zp9)<|Zn<|z20<|Zm Z<|Zq (faB 8 Z Z Tryz.underlying94 Z (by exact z6w))<|Zq (ld 8 Z Z (fP (z7t _)) z8y Z)<|Ef Z (lit (R:=z05) ([x5.o]:List z03) 9 (pP Z Z<|pN) Z tu22 z6w Z Z) fun v8=>zf4 9 [15] Z (fS Z<|fN)<|z0m fun x9 h10=>Ef Z (apn 6 Z Z Z .rd h10 tu22 z6w Z Z Z) fun v11=>Za Z<|z1g<|z3f<|z0z<|z20<|Zq (I.add Z Z)<|Zm Z<|z1g<|z1q (fun aa ww h=>⟨nvl [v11],Zu h [6]⟩)
  ·refine z21<|z15<|z17<|z2q (fun aa ww h=>⟨nvl [(n3 0)],Zu h [6]⟩)
 ·refine gEx fun n12=>gSR<|Zm Z<|Zb Z<|z0o<|Ze [(n12 0)] [3] Z
def zgt (a0:List z03):Option ((List z03) × Int) :=
 zbe a0 >>= fun r1 =>
 if r1.2 != 0 then
  some ([],r1.2)
 else
  zc2 r1.1 >>= fun r4 =>
  some (r4,0)
theorem zrb (a0:List z03):z2b Tryz.prog 12 [.rd (z04 z05) a0] [zG1] (zgt a0) (fun r nv=>⟨[.val (nv 0),.rd z0k r.2],[(1001,some (.bool true,.glob 1 (z43 64 z0x) zah)),(100,some (nv 0,.list z05 43 r.1))]⟩):=by
 refine z2n 16 Tryz.func12 Z Z Z fun H w=>?_;refine gSR<|Za Z<|Zb Z<|gSR<|Zm Z<|Zc [1001] [(100,1)] Tryz.func45 Z (zgc _) fun r1 n2=>Zm Z<|Zq (ext Z Z)<|Zq (ext Z Z)<|Za Z<|Zb Z<|z0v<|gSR<|Zm Z<|Zq (I.neq Z Z)<|Zj Z (fun h3=>?_) (fun h3=>?_)
 ·refine gSR<|Zm Z<|Za Z<|Zb Z<|z0o<|z0q<|zgb z05 43 2<|Ze [(.slice none 0 0)] [1001,2] Z
 ·refine Zt<|gSR<|Zm Z<|zf4 1 [9,4,14] Z (fS Z<|fS Z<|fS Z<|fN)<|Zc [] [(100,3)] Tryz.func46 Z (zje _) fun r4 n5=>Za Z<|Zb Z<|z0o<|Ze [(n5 0)] [1001,3] Z
def zbm (a0:z03):Option (z03) :=
 app 32 ([]:List V3) a0.Preds >>= fun x4 =>
 some (⟨a0.Author,x4,a0.Stamp,a0.Act,a0.Sig⟩:z03)
theorem zjz (a0:z03):z2b Tryz.prog 55 [.rd z05 a0] [] (zbm a0) (fun r nv=>⟨[.rd z05 r],[]⟩):=by
 refine z2n 9 Tryz.func55 Z Z Z fun H w=>?_;refine gSR<|Eb Z (bx 1 Z) fun v1=>Eb Z (zad 2 z6w (ZrE.rd (R:=z0x) (x:=0) (Zr.num Z) (ZrE.nilS (ZrE.rd (R:=z1p) (x:=0) (Zr.num Z) (ZrE.rd (R:=z07) (x:=(⟨0,[],(⟨0,0,0,[]⟩:z01)⟩:z0a)) zja (ZrE.rd (R:=z09) (x:=(⟨0,0⟩:z0b)) zln ZrE.nil Z) Z) Z)) Z)) fun v2=>Zn<|gSR<|Ef Z (lit (R:=aZ) (([]:List V3):List V3) 3 (pN) Z tu29 z40 Z Z) fun v3=>Zq (faB 1 Z Z Tryz.underlying43 Z (by exact za8))<|Zq (ld 1 Z Z (fP (z16 _)) zeh Z)<|z0m fun x4 h5=>Ef Z (apn 3 Z Z Z .rd h5 tu29 z40 Z Z Z) fun v6=>Zq (faB 1 Z Z Tryz.underlying43 Z (by exact za8))<|lSpl (R:=z05) 1 Z (Sp.via (Sp.prod (Sp.prod (Sp.prod (Sp.prod (Sp.prod Sp.unit))))))<|Es (zqr 1 Z Z (z6z.cast (z6z.next z00 (z6z.here z00)) Z) Z z1d z0c za8)<|Zn<|gSR<|lPow [.rd z0x a0.Author,.rd (z04 aZ) x4,.rd z1p a0.Stamp,.rd z07 a0.Act,.rd z09 a0.Sig] 1 3 [.rd z0x a0.Author] [.rd z1p a0.Stamp,.rd z07 a0.Act,.rd z09 a0.Sig] Z Z Z Z Z<|zmr (R:=z05) (⟨a0.Author,x4,a0.Stamp,a0.Act,a0.Sig⟩:z03) 1 Z (Sp.via (Sp.prod (Sp.prod (Sp.prod (Sp.prod (Sp.prod Sp.unit))))))<|Zq (ld 1 Z Z fH z8y Z)<|ztm aZ [.rd z0x 0,.rd (z04 aZ) [],.rd z1p 0,.rd z07 (⟨0,[],(⟨0,0,0,[]⟩:z01)⟩:z0a),.rd z09 (⟨0,0⟩:z0b)] 2 [.rd z0x 0] [.rd z1p 0,.rd z07 (⟨0,[],(⟨0,0,0,[]⟩:z01)⟩:z0a),.rd z09 (⟨0,0⟩:z0b)] Z Z Z<|zmr (R:=z05) (⟨0,[],0,(⟨0,[],(⟨0,0,0,[]⟩:z01)⟩:z0a),(⟨0,0⟩:z0b)⟩:z03) 2 Z (Sp.via (Sp.prod (Sp.prod (Sp.prod (Sp.prod (Sp.prod Sp.unit))))))<|Es (sto 2 Z Z fH Z z6w)<|Zn<|z0o<|zb3 [] [] Z (eC 2 Z Z z8y<|eN) (rN)
def z7l (a0:List z03) (r1:(List Int)) (s4:(List z03) × Int):Option (Sum ((List z03)) ((List z03) × Int)) :=
 if decide (s4.2<(r1.length:Int)) then
  idx r1 s4.2 >>= fun x7 =>
  idx a0 x7 >>= fun x9 =>
  zbm x9 >>= fun r11 =>
  app 112 s4.1 [r11] >>= fun x14 =>
  some (w64 (s4.2+1)) >>= fun y17 =>
  some (.inr (x14,y17))
 else
  some (.inl s4.1)
def z63 (a0:List z03):Option ((List z03)) :=
 z8s a0 >>= fun r1 =>
 (iter (z7l a0 r1) ([],0)) >>= fun s3 =>
 some s3
end
section
open Go Go.RowKit
set_option maxRecDepth 100000
theorem zdh (a0:List z03):z2b Tryz.prog 56 [.rd (z04 z05) a0] [] (z63 a0) (fun r nv=>⟨[.val (nv 0)],[(100,some (nv 0,.list z05 43 r))]⟩):=by
 refine z2n 26 Tryz.func56 Z Z Z fun H w=>?_;refine gSR<|Zb Z<|gSR<|Zb Z<|gSR<|Zm Z<|Zc [] [(100,1)] Tryz.func44 Z (ze6 _) fun r1 n2=>Zb Z<|z68 (fun (s3:(List z03)) aa ww=>∃ nv:Nat→Value,Sta (ctx 26 H [] w) [(3,.val (nv 0))] [(3,some ((nv 0),.list z05 43 s3))] aa ww) ?_ (fun s3=>?_)
 ·refine gSR<|Zb Z<|zqy z05 43 6<|z2a (fun (s4:(List z03) × Int) aa ww=>∃ nv:Nat→Value,Sta (ctx 26 H [] w) [(0,.rd (z04 z05) a0),(3,.val (nv 0)),(4,.val (n2 0)),(5,.rd z0k s4.2)] [(5,some ((nv 0),.list z05 43 s4.1)),(1,some ((n2 0),.list z0k 3 r1))] aa ww) (fun aa ww h=>⟨nvl [(.slice none 0 0)],Zu h [6,1]⟩) (fun s4=>?_);refine gEx fun n5=>z0v<|gSR<|Zm Z<|Zm Z<|Zq (z2v Z (.own 1 Z) Z tu86)<|Zq (I.lss Z Z)<|Zj Z (fun h6=>?_) (fun h6=>?_)
  ·refine Zt<|z0v<|z5b<|z20<|Zm Z<|Zm Z<|Zm Z<|Zm Z<|z0m fun x7 h8=>Zq (ixO 1 Z Z Z h8 tu86 ti3)<|Zq (ld 1 Z Z (Foc.el h8) ty3 Z)<|z0m fun x9 h10=>Zq (ixR Z Z h10 tu22 z6w Z)<|Zq (ldR Z z8y)<|Zc [] [] Tryz.func55 Z (zjz _) fun r11 n12=>Ef Z (lit (R:=z05) ([r11]:List z03) 7 (pP Z Z<|pN) Z tu22 z6w Z Z) fun v13=>zf4 7 [23] Z (fS Z<|fN)<|z0m fun x14 h15=>Ef Z (apn 5 Z Z Z .rd h15 tu22 z6w Z Z Z) fun v16=>Za Z<|z1g<|z3f<|z0z<|z20<|Zm Z<|Zq (I.add Z Z)<|Za Z<|z1o 5 Z fun y17=>z1g<|z1q (fun aa ww h=>⟨nvl [v16],Zu h [5,1]⟩)
  ·refine z21<|z15<|z17<|z2q (fun aa ww h=>⟨nvl [(n5 0)],Zu h [5]⟩)
 ·refine gEx fun n18=>gSR<|Zm Z<|Zb Z<|z0o<|Ze [(n18 0)] [3] Z
def z8a (a0:List z03) (s10:(List V3) × (List UInt8) × Int) (s31:(List UInt8) × Int):Option (Sum ((List UInt8)) ((List UInt8) × Int)) :=
 idx a0 s10.2.2 >>= fun x33 =>
 if decide (s31.2<(x33.Preds.length:Int)) then
  idx a0 s10.2.2 >>= fun x36 =>
  idx x36.Preds s31.2 >>= fun x38 =>
  z3u s10.1 x38 >>= fun r40 =>
  if decide (0≤r40) then
   z1u (UInt64.ofInt (w64 (s10.2.2 - r40))) >>= fun r43 =>
   app 1 s31.1 r43 >>= fun x45 =>
   some (w64 (s31.2+1)) >>= fun y48 =>
   some (.inr (x45,y48))
  else
   idx a0 s10.2.2 >>= fun x49 =>
   idx x49.Preds s31.2 >>= fun x51 =>
   app 1 s31.1 [0] >>= fun x54 =>
   app 1 x54 x51.toList >>= fun x57 =>
   some (w64 (s31.2+1)) >>= fun y60 =>
   some (.inr (x57,y60))
 else
  some (.inl s31.1)
def z8c (a0:List z03) (s10:(List V3) × (List UInt8) × Int):Option (Sum ((List UInt8)) ((List V3) × (List UInt8) × Int)) :=
 if decide (s10.2.2<(a0.length:Int)) then
  (idx a0 s10.2.2 >>= fun x14 =>
  z71 (⟨x14.Author,[],x14.Stamp,x14.Act,x14.Sig⟩:z03) >>= fun r17 =>
  z6d r17 >>= fun r19 =>
  app 1 s10.2.1 r19 >>= fun x21 =>
  idx a0 s10.2.2 >>= fun x24 =>
  z1u (UInt64.ofInt (x24.Preds.length:Int)) >>= fun r26 =>
  app 1 x21 r26 >>= fun x28 =>
  iter (z8a a0 s10) (x28,0)) >>= fun s13 =>
  some (w64 (s10.2.2+1)) >>= fun y62 =>
  some (.inr (s10.1,s13,y62))
 else
  some (.inl s10.2.1)
def z8m (a0:List z03):Option ((List UInt8)) :=
 z8u a0 >>= fun r1 =>
 z1u (UInt64.ofInt (a0.length:Int)) >>= fun r4 =>
 app 1 [112] r4 >>= fun x6 =>
 (iter (z8c a0) (r1,x6,0)) >>= fun s9 =>
 some s9
theorem zj5 (a0:List z03):z2b Tryz.prog 60 [.rd (z04 z05) a0] [] (z8m a0) (fun r nv=>⟨[.val (nv 0)],[(100,some (nv 0,.list u8R 5 r))]⟩):=by
 refine z2n 85 Tryz.func60 Z Z Z fun H w=>?_;refine gSR<|Zb Z<|gSR<|Zm Z<|Zc [] [(100,1)] Tryz.func43 Z (zcd _) fun r1 n2=>Zb Z<|gSR<|Ef Z (lit (R:=u8R) ([112]:List UInt8) 2 (pP Z Z<|pN) Z tu52 ti5 Z Z) fun v3=>Zm Z<|Zq (z2v Z .rd Z tu22)<|Zq (I.toU Z tu3 tu35)<|Zc [] [(100,3)] Tryz.func104 Z (z1x _) fun r4 n5=>z0m fun x6 h7=>Ef Z (apn 2 Z Z Z (.own 3 Z) h7 tu52 ti5 Z Z Z) fun v8=>Zb Z<|z68 (fun (s9:(List UInt8)) aa ww=>∃ nv:Nat→Value,Sta (ctx 85 H [] w) [(4,.val (nv 0))] [(2,some ((nv 0),.list u8R 5 s9))] aa ww) ?_ (fun s9=>?_)
 ·refine gSR<|Zb Z<|gFrz 1 [10,3] Z (fS Z<|fS Z<|fN)<|z2a (fun (s10:(List V3) × (List UInt8) × Int) aa ww=>∃ nv:Nat→Value,Sta (ctx 85 H [] w) [(0,.rd (z04 z05) a0),(3,.rd (z04 aZ) s10.1),(4,.val (nv 0)),(5,.rd z0k s10.2.2)] [(2,some ((nv 0),.list u8R 5 s10.2.1))] aa ww) (fun aa ww h=>⟨nvl [v8],Zu h [2]⟩) (fun s10=>?_);refine gEx fun n11=>z0v<|gSR<|Zm Z<|Zm Z<|Zq (z2v Z .rd Z tu22)<|Zq (I.lss Z Z)<|Zj Z (fun h12=>?_) (fun h12=>?_)
  ·refine Zt<|z68 (fun (s13:(List UInt8)) aa ww=>∃ nv:Nat→Value,Sta (ctx 85 H [] w) [(0,.rd (z04 z05) a0),(3,.rd (z04 aZ) s10.1),(4,.val (nv 0)),(5,.rd z0k s10.2.2)] [(2,some ((nv 0),.list u8R 5 s13))] aa ww) ?_ (fun s13=>?_)
   ·refine z5b<|gSR<|Zm Z<|Zm Z<|z0m fun x14 h15=>Zq (ixR Z Z h15 tu22 z6w Z)<|Zq (ldR Z z8y)<|Eb Z (zad 4 z6w (ZrE.rd (R:=z0x) (x:=0) (Zr.num Z) (ZrE.nilS (ZrE.rd (R:=z1p) (x:=0) (Zr.num Z) (ZrE.rd (R:=z07) (x:=(⟨0,[],(⟨0,0,0,[]⟩:z01)⟩:z0a)) zja (ZrE.rd (R:=z09) (x:=(⟨0,0⟩:z0b)) zln ZrE.nil Z) Z) Z)) Z)) fun v16=>ztm aZ [.rd z0x 0,.rd (z04 aZ) [],.rd z1p 0,.rd z07 (⟨0,[],(⟨0,0,0,[]⟩:z01)⟩:z0a),.rd z09 (⟨0,0⟩:z0b)] 4 [.rd z0x 0] [.rd z1p 0,.rd z07 (⟨0,[],(⟨0,0,0,[]⟩:z01)⟩:z0a),.rd z09 (⟨0,0⟩:z0b)] Z Z Z<|zmr (R:=z05) (⟨0,[],0,(⟨0,[],(⟨0,0,0,[]⟩:z01)⟩:z0a),(⟨0,0⟩:z0b)⟩:z03) 4 Z (Sp.via (Sp.prod (Sp.prod (Sp.prod (Sp.prod (Sp.prod Sp.unit))))))<|Es (sto 4 Z Z fH Z z6w)<|Zn<|gSR<|Zq (faB 4 Z Z Tryz.underlying43 Z (by exact za8))<|lSpl (R:=z05) 4 Z (Sp.via (Sp.prod (Sp.prod (Sp.prod (Sp.prod (Sp.prod Sp.unit))))))<|Es (zqr 4 Z Z (z6z.cast (z6z.next z00 (z6z.here z00)) Z) Z z1d z0c za8)<|Zn<|gSR<|Zm Z<|ztm aZ [.rd z0x x14.Author,.rd (z04 aZ) [],.rd z1p x14.Stamp,.rd z07 x14.Act,.rd z09 x14.Sig] 4 [.rd z0x x14.Author] [.rd z1p x14.Stamp,.rd z07 x14.Act,.rd z09 x14.Sig] Z Z Z<|zmr (R:=z05) (⟨x14.Author,[],x14.Stamp,x14.Act,x14.Sig⟩:z03) 4 Z (Sp.via (Sp.prod (Sp.prod (Sp.prod (Sp.prod (Sp.prod Sp.unit))))))<|Zq (ld 4 Z Z fH z8y Z)<|Zc [] [(100,5)] Tryz.func54 Z (zay _) fun r17 n18=>zf4 5 [30] Z (fS Z<|fN)<|Zc [] [(100,6)] Tryz.func109 Z (zbn _) fun r19 n20=>z0m fun x21 h22=>Ef Z (apn 2 Z Z Z (.own 6 Z) h22 tu52 ti5 Z Z Z) fun v23=>Zb Z<|gSR<|Zm Z<|Zm Z<|Zm Z<|z0m fun x24 h25=>Zq (ixR Z Z h25 tu22 z6w Z)<|Zq (faR Z (z16 _) Tryz.underlying43 Z Z (by exact za8))<|Zq (ldR Z zeh)<|Zq (z2v Z .rd Z tu29)<|Zq (I.toU Z tu3 tu35)<|Zc [] [(100,7)] Tryz.func104 Z (z1x _) fun r26 n27=>z0m fun x28 h29=>Ef Z (apn 2 Z Z Z (.own 7 Z) h29 tu52 ti5 Z Z Z) fun v30=>Zb Z<|gSR<|Zb Z<|z2a (fun (s31:(List UInt8) × Int) aa ww=>∃ nv:Nat→Value,Sta (ctx 85 H [] w) [(0,.rd (z04 z05) a0),(3,.rd (z04 aZ) s10.1),(4,.val (nv 0)),(5,.rd z0k s10.2.2),(7,.rd z0k s31.2)] [(2,some ((nv 0),.list u8R 5 s31.1))] aa ww) (fun aa ww h=>⟨nvl [v30],Zu h [2]⟩) (fun s31=>?_)
    refine gEx fun n32=>z0v<|gSR<|Zm Z<|Zm Z<|Zm Z<|z0m fun x33 h34=>Zq (ixR Z Z h34 tu22 z6w Z)<|Zq (faR Z (z16 _) Tryz.underlying43 Z Z (by exact za8))<|Zq (ldR Z zeh)<|Zq (z2v Z .rd Z tu29)<|Zq (I.lss Z Z)<|Zj Z (fun h35=>?_) (fun h35=>?_)
    ·refine Zt<|z0v<|z5b<|gSR<|Zm Z<|Zm Z<|Zm Z<|z0m fun x36 h37=>Zq (ixR Z Z h37 tu22 z6w Z)<|Zq (faR Z (z16 _) Tryz.underlying43 Z Z (by exact za8))<|Zq (ldR Z zeh)<|Zm Z<|z0m fun x38 h39=>Zq (ixR Z Z h39 tu29 z40 Z)<|Zq (ldR Z z83)<|Zc [] [] Tryz.func17 Z (z8h _ _) fun r40 n41=>Zb Z<|gSR<|Zm Z<|Zq (I.geq Z Z)<|Zj Z (fun h42=>?_) (fun h42=>?_)
     ·refine z20<|Zm Z<|Zm Z<|Zm Z<|Zq (I.sub Z Z)<|Zq (I.toU Z tu3 tu35)<|Zc [] [(100,8)] Tryz.func104 Z (z1x _) fun r43 n44=>z0m fun x45 h46=>Ef Z (apn 2 Z Z Z (.own 8 Z) h46 tu52 ti5 Z Z Z) fun v47=>Za Z<|z1g<|z3f<|z0z<|z20<|Zm Z<|Zq (I.add Z Z)<|Za Z<|z1o 7 Z fun y48=>z1g<|z1q (fun aa ww h=>⟨nvl [v47],Zu h [2]⟩)
     ·refine z8g [2,12] mixed Z Z<|hTk 0 Z Z (mv Z)<|hTk 3 Z Z (mv Z)<|hTk 4 Z Z (mv Z)<|z3s fun x49 h50=>hTk 5 Z Z (ixR Z Z h50 tu22 z6w Z)<|hTk 6 Z Z (faR Z (z16 _) Tryz.underlying43 Z Z (by exact za8))<|hTk 7 Z Z (ldR Z zeh)<|hTk 8 Z Z (mv Z)<|z3s fun x51 h52=>hTk 9 Z Z (ixR Z Z h52 tu29 z40 Z)<|hTk 10 Z Z (cutV Z tu45 ti5 Z Z Z)<|Zo 1 Z Z Z (lit (R:=u8R) ([0]:List UInt8) 12 (pP Z Z<|pN) Z tu52 ti5 Z Z) fun v53=>z3s fun x54 h55=>Zo 2 Z Z Z (apn 2 Z Z Z (.own 12 Z) h55 tu52 ti5 Z Z Z) fun v56=>z3s fun x57 h58=>Zo 11 Z Z Z (apn 2 Z Z Z .rd h58 tu52 ti5 Z Z Z) fun v59=>Zf 12 Z Z z36 (asg Z)<|z4t (by kernel_rfl)<|z3f<|z0z<|z20<|Zm Z<|Zq (I.add Z Z)<|Za Z<|z1o 7 Z fun y60=>z1g<|z1q (fun aa ww h=>⟨nvl [v59],Zu h [2]⟩)
    ·refine z21<|z15<|z17<|z3f<|z2q (fun aa ww h=>⟨nvl [(n32 0)],Zu h [2]⟩)
   ·refine gEx fun n61=>z20<|Zm Z<|Zq (I.add Z Z)<|Za Z<|z1o 5 Z fun y62=>z1g<|z1q (fun aa ww h=>⟨nvl [(n61 0)],Zu h [2]⟩)
  ·refine z21<|z15<|z17<|z2q (fun aa ww h=>⟨nvl [(n11 0)],Zu h [2]⟩)
 ·refine gEx fun n63=>gSR<|Zm Z<|Zb Z<|z0o<|Ze [(n63 0)] [2] Z
def z99 (a0:List z03) (a1:List z03) (s3:Int):Option (Sum (Sum Bool Unit) Int) :=
 if decide (s3<(a0.length:Int)) then
  idx a0 s3 >>= fun x5 =>
  idx a1 s3 >>= fun x7 =>
  zbg x5 x7 >>= fun r9 =>
  if !r9 then
   some (.inl (.inl false))
  else
   some (.inr (w64 (s3+1)))
 else
  some (.inl (.inr ()))
def z1t (a0:List z03) (a1:List z03):Option (Bool) :=
 if (a0.length:Int) != (a1.length:Int) then
  some false
 else
  z5o (iter (z99 a0 a1) 0) fun s2 =>
  some true
theorem z9k (a0:List z03) (a1:List z03):z2b Tryz.prog 25 [.rd (z04 z05) a0,.rd (z04 z05) a1] [] (z1t a0 a1) (fun r nv=>⟨[.rd z0l r],[]⟩):=by
 refine z2n 27 Tryz.func25 Z Z Z fun H w=>?_;refine gSR<|Zb Z<|z0v<|gSR<|Zm Z<|Zq (z2v Z .rd Z tu22)<|Zm Z<|Zq (z2v Z .rd Z tu22)<|Zq (I.neq Z Z)<|Zj Z (fun h1=>?_) (fun h1=>?_)
 ·refine gSR<|Zb Z<|z0o<|z0q<|Ze [] [] Z
 ·refine Zt<|z7j (fun (s2:Unit) aa ww=>Sta (ctx 27 H [] w) [] [] aa ww) ?_ (fun s2=>?_)
  ·refine gSR<|Zb Z<|z2a (fun (s3:Int) aa ww=>Sta (ctx 27 H [] w) [(0,.rd (z04 z05) a0),(1,.rd (z04 z05) a1),(5,.rd z0k s3)] [] aa ww) (fun aa ww h=>Zu h []) (fun s3=>?_);refine z0v<|gSR<|Zm Z<|Zm Z<|Zq (z2v Z .rd Z tu22)<|Zq (I.lss Z Z)<|Zj Z (fun h4=>?_) (fun h4=>?_)
   ·refine Zt<|z0v<|z5b<|z0v<|z8g [] mixed Z Z<|hTk 0 Z Z (mv Z)<|hTk 1 Z Z (mv Z)<|z3s fun x5 h6=>hTk 2 Z Z (ixR Z Z h6 tu22 z6w Z)<|hTk 3 Z Z (ldR Z z8y)<|hTk 4 Z Z (mv Z)<|hTk 5 Z Z (mv Z)<|z3s fun x7 h8=>hTk 6 Z Z (ixR Z Z h8 tu22 z6w Z)<|hTk 7 Z Z (ldR Z z8y)<|z54 8 [] [] Z (by kernel_rfl) Z (gd0 Z) Z Tryz.func62 Z Z (zjo _ _) (Y2 Z Z) rN Z (fun _ _=>zam) fun r9 n10=>hTk 9 Z Z (zex Z)<|z4t (by kernel_rfl)<|z0z<|gIf Z Z (fun h11=>?_) (fun h11=>?_)
    ·refine gSR<|Zb Z<|z0o<|z44<|z0q<|z6t<|z4g<|Ze [] [] Z
    ·refine z31<|z3f<|z0z<|z20<|Zm Z<|Zq (I.add Z Z)<|Za Z<|z1g<|z1q (fun aa ww h=>Zu h [])
   ·refine z21<|z15<|z17<|z5k (fun aa ww h=>Zu h [])
  ·refine gSR<|Zb Z<|z0o<|Ze [] [] Z
def z7a (x20:List UInt8) (s22:UInt64 × Int):Option (Sum UInt64 (UInt64 × Int)) :=
 if decide (s22.2<(x20.length:Int)) then
  idx x20 s22.2 >>= fun x24 =>
  some ((zjc s22.1 8) ||| x24.toUInt64) >>= fun y26 =>
  some (.inr (y26,w64 (s22.2+1)))
 else
  some (.inl s22.1)
def z4c (a0:List UInt8):Option (UInt64 × Int × Int) :=
 if (a0.length:Int)==0 then
  some (0,0,12)
 else
  idx a0 0 >>= fun x2 =>
  if decide (x2≤247) then
   idx a0 0 >>= fun x5 =>
   some (x5.toUInt64,1,0)
  else
   idx a0 0 >>= fun x7 =>
   some (w64 ((x7.toNat:Int) - 247)) >>= fun y9 =>
   z5o (if decide ((a0.length:Int)≤y9) then
    some (.inl (0,0,12))
   else
    idx a0 1 >>= fun x12 =>
    if x12==0 then
     some (.inl (0,0,12))
    else
     if y9==1 then
      idx a0 1 >>= fun x16 =>
      if decide (x16≤247) then
       some (.inl (0,0,12))
      else
       some (.inr ())
     else
      some (.inr ())) fun s10 =>
   (cut a0 1 (w64 (y9+1)) >>= fun x20 =>
   iter (z7a x20) (0,0)) >>= fun s19 =>
   some (s19,w64 (y9+1),0)
theorem z8z (a0:List UInt8):z2b Tryz.prog 111 [.rd (z04 u8R) a0] [] (z4c a0) (fun r nv=>⟨[.rd z1p r.1,.rd z0k r.2.1,.rd z0k r.2.2],[]⟩):=by
 refine z2n 63 Tryz.func111 Z Z Z fun H w=>?_;refine gSR<|Za Z<|Za Z<|Zb Z<|z0v<|gSR<|Zm Z<|Zq (z2v Z .rd Z tu52)<|Zq (I.eql Z Z)<|Zj Z (fun h1=>?_) (fun h1=>?_)
 ·refine gSR<|Za Z<|Za Z<|Zb Z<|z0o<|z0q<|Ze [] [] Z
 ·refine Zt<|z0v<|gSR<|Zm Z<|z0m fun x2 h3=>Zq (ixR Z Z h3 tu52 ti5 Z)<|Zq (ldR Z ty5)<|Zq (B.leq Z Z)<|Zj Z (fun h4=>?_) (fun h4=>?_)
  ·refine gSR<|Zm Z<|z0m fun x5 h6=>Zq (ixR Z Z h6 tu52 ti5 Z)<|Zq (ldR Z ty5)<|Zq (B.toU Z tu5 tu35)<|Za Z<|Za Z<|Zb Z<|z0o<|z0q<|Ze [] [] Z
  ·refine Zt<|gSR<|Zm Z<|z0m fun x7 h8=>Zq (ixR Z Z h8 tu52 ti5 Z)<|Zq (ldR Z ty5)<|Zq (B.toI Z tu5 tu3)<|Zq (I.sub Z Z)<|Za Z<|z1o 5 Z fun y9=>Zn<|z7j (fun (s10:Unit) aa ww=>Sta (ctx 63 H [] w) [(0,.rd (z04 u8R) a0),(5,.rd z0k y9)] [] aa ww) ?_ (fun s10=>?_)
   ·refine gSR<|Zm Z<|Zq (z2v Z .rd Z tu52)<|Zm Z<|Zq (I.leq Z Z)<|Zm Z<|z19 29 Z (fun h11=>?_) (fun h11=>?_)
    ·refine lKn 28 Z h11<|Zk Z<|Zk Z<|Zk Z<|Zk Z<|Zq (pkT Z Z)<|Zm Z<|Zk Z<|Zk Z<|Zk Z<|zh1 (gdU Z Z Z) Z Z<|zh1 (gdU Z Z Z) Z Z<|zh1 (gdU Z Z Z) Z Z<|zh1 (gdU Z Z Z) Z Z<|Zk Z<|Zq (pkT Z Z)<|Zn<|zc7 Z<|gSR<|Za Z<|Za Z<|Zb Z<|z0o<|z4g<|Ze [] [] Z
    ·refine lKn 28 Z h11<|z0w Zx Z Z (mv Z)<|z0m fun x12 h13=>z0w Zx Z Z (ixR Z Z h13 tu52 ti5 Z)<|z0w Zx Z Z (ldR Z ty5)<|z0w Zx Z Z (B.eql Z Z)<|Zq (pkF Z Z)<|Zm Z<|z19 35 Z (fun h14=>?_) (fun h14=>?_)
     ·refine lKn 33 Z h14<|lKn 34 Z h14<|Zk Z<|Zk Z<|Zk Z<|zh1 (gdU Z Z Z) Z Z<|zh1 (gdU Z Z Z) Z Z<|zh1 (gdU Z Z Z) Z Z<|zh1 (gdU Z Z Z) Z Z<|Zk Z<|Zq (pkT Z Z)<|Zn<|zc7 Z<|gSR<|Za Z<|Za Z<|Zb Z<|z0o<|z4g<|Ze [] [] Z
     ·refine lKn 33 Z h14<|lKn 34 Z h14<|z0w Zx Z Z (mv Z)<|z0w Zx Z Z (I.eql Z Z)<|z0w Zx Z Z (mv Z)<|z19 38 Z (fun h15=>?_) (fun h15=>?_)
      ·refine lKn 37 Z h15<|z0w Zx Z Z (mv Z)<|z0m fun x16 h17=>z0w Zx Z Z (ixR Z Z h17 tu52 ti5 Z)<|z0w Zx Z Z (ldR Z ty5)<|z0w Zx Z Z (B.leq Z Z)<|z0w Zx Z Z (pkT Z Z)<|Zq (pkF Z Z)<|Zj Z (fun h18=>?_) (fun h18=>?_)
       ·refine gKn 42 Z h18<|gKn 43 Z h18<|gSR<|Za Z<|Za Z<|Zb Z<|z0o<|z4g<|Ze [] [] Z
       ·refine gKn 42 Z h18<|gKn 43 Z h18<|z31<|z5k (fun aa ww h=>Zu h [])
      ·refine lKn 37 Z h15<|Zk Z<|Zk Z<|Zk Z<|Zk Z<|z0w Zx Z Z (pkF Z Z)<|Zq (pkF Z Z)<|Zn<|zbu Z<|z31<|z5k (fun aa ww h=>Zu h [])
   ·refine gSR<|Zb Z<|z68 (fun (s19:UInt64) aa ww=>Sta (ctx 63 H [] w) [(5,.rd z0k y9),(6,.rd z1p s19)] [] aa ww) ?_ (fun s19=>?_)
    ·refine gSR<|Zm Z<|Zm Z<|Zq (I.add Z Z)<|z0m fun x20 h21=>Zq (zll Z (.to Z) (.to Z) h21 tu52 ti5)<|Zq (z2v Z .rd Z tu52)<|Zm Z<|Zn<|z2a (fun (s22:UInt64 × Int) aa ww=>Sta (ctx 63 H [] w) [(5,.rd z0k y9),(6,.rd z1p s22.1),(48,.rd (z04 u8R) x20),(49,.rd z0k (x20.length:Int)),(50,.rd z0k s22.2)] [] aa ww) (fun aa ww h=>Zu h []) (fun s22=>?_);refine gSR<|Zq (I.lss Z Z)<|Zn<|z0v<|gIf Z Z (fun h23=>?_) (fun h23=>?_)
     ·refine Zt<|z0v<|z5b<|gSR<|z0m fun x24 h25=>Zq (ixR Z Z h25 tu52 ti5 Z)<|Zq (ldR Z ty5)<|Zb Z<|z20<|Zm Z<|Zq (U.shl Z Z (Int.natCast_nonneg _))<|Zm Z<|Zq (B.toU Z tu5 tu35)<|Zq (U.or Z Z)<|Za Z<|z1o 6 Z fun y26=>z1g<|z3f<|z0z<|z20<|Zq (I.add Z Z)<|Zm Z<|z1g<|z1q (fun aa ww h=>Zu h [])
     ·refine z21<|z15<|z17<|z2q (fun aa ww h=>Zu h [])
    ·refine gSR<|Zm Z<|Zm Z<|Zq (I.add Z Z)<|Za Z<|Za Z<|Zb Z<|z0o<|Ze [] [] Z
def zdy (a0:List UInt8) (a1:Int) (a2:Int):Option ((List UInt8) × Int × Int) :=
 if decide (a1<0) then
  some ([],0,2)
 else
  z4c a0 >>= fun r2 =>
  (if r2.2.2 != 0 then
   some true
  else
   if decide ((UInt64.ofInt a1)<r2.1) then
    some true
   else
    chk (a2≠0) >>= fun u7 =>
    some (decide ((UInt64.ofInt (w64 (Int.tdiv (w64 ((a0.length:Int) - r2.2.1)) a2)))<r2.1))) >>= fun s4 =>
  if s4 then
   some ([],0,12)
  else
   some (w64 (r2.2.1+(w64 (a2 * (w64 (r2.1.toNat:Int)))))) >>= fun y10 =>
   cut a0 r2.2.1 y10 >>= fun x11 =>
   some (x11,y10,0)
theorem zrv (a0:List UInt8) (a1:Int) (a2:Int):z2b Tryz.prog 152 [.rd (z04 u8R) a0,.rd z0k a1,.rd z0k a2] [] (zdy a0 a1 a2) (fun r nv=>⟨[.rd (z04 u8R) r.1,.rd z0k r.2.1,.rd z0k r.2.2],[]⟩):=by
 refine z2n 51 Tryz.func152 Z Z Z fun H w=>?_;refine gSR<|Za Z<|Za Z<|Zb Z<|z0v<|gSR<|Zm Z<|Zq (I.lss Z Z)<|Zj Z (fun h1=>?_) (fun h1=>?_)
 ·refine gSR<|Za Z<|Za Z<|Zb Z<|z0o<|z0q<|zc8 u8R 6 Z<|Ze [] [] Z
 ·refine Zt<|gSR<|Zm Z<|Zc [] [] Tryz.func111 Z (z8z _) fun r2 n3=>Zm Z<|Zq (ext Z Z)<|Zq (ext Z Z)<|Zq (ext Z Z)<|Za Z<|Za Z<|Zb Z<|z0v<|z68 (fun (s4:Bool) aa ww=>Sta (ctx 51 H [] w) [(0,.rd (z04 u8R) a0),(2,.rd z0k a2),(9,.rd z1p r2.1),(10,.rd z0k r2.2.1),(39,.rd z0l s4)] [] aa ww) ?_ (fun s4=>?_)
  ·refine z20<|Zm Z<|Zq (I.neq Z Z)<|Zm Z<|z19 23 Z (fun h5=>?_) (fun h5=>?_)
   ·refine lKn 22 Z h5<|Zk Z<|Zk Z<|Zk Z<|Zk Z<|Zq (pkT Z Z)<|Zm Z<|Zk Z<|Zk Z<|Zk Z<|Zk Z<|Zk Z<|Zk Z<|Zk Z<|Zk Z<|Zk Z<|Zq (pkT Z Z)<|z1g<|z2q (fun aa ww h=>Zu h [])
   ·refine lKn 22 Z h5<|z0w Zx Z Z (mv Z)<|z0w Zx Z Z (mv Z)<|z0w Zx Z Z (I.toU Z tu3 tu35)<|z0w Zx Z Z (U.gtr Z Z)<|Zq (pkF Z Z)<|Zm Z<|z19 29 Z (fun h6=>?_) (fun h6=>?_)
    ·refine lKn 27 Z h6<|lKn 28 Z h6<|Zk Z<|Zk Z<|Zk Z<|Zk Z<|Zk Z<|Zk Z<|Zk Z<|Zk Z<|Zk Z<|Zq (pkT Z Z)<|z1g<|z2q (fun aa ww h=>Zu h [])
    ·refine lKn 27 Z h6<|lKn 28 Z h6<|z0w Zx Z Z (mv Z)<|z0w Zx Z Z (mv Z)<|z0w Zx Z Z (z2v Z .rd Z tu52)<|z0w Zx Z Z (mv Z)<|z0w Zx Z Z (I.sub Z Z)<|z0w Zx Z Z (mv Z)<|z0m fun u7 h8=>z0w Zx Z Z (I.quo Z Z (z60 h8))<|z0w Zx Z Z (I.toU Z tu3 tu35)<|z0w Zx Z Z (U.gtr Z Z)<|Zq (pkF Z Z)<|z1g<|z2q (fun aa ww h=>Zu h [])
  ·refine gIf Z Z (fun h9=>?_) (fun h9=>?_)
   ·refine gSR<|Za Z<|Za Z<|Zb Z<|z0o<|z0q<|zc8 u8R 6 Z<|Ze [] [] Z
   ·refine Zt<|gSR<|Zm Z<|Zm Z<|Zm Z<|Zq (U.toI Z tu35 tu3)<|Zq (I.mul Z Z)<|Zq (I.add Z Z)<|Za Z<|z1o 12 Z fun y10=>Zn<|gSR<|Zm Z<|Zm Z<|Zm Z<|z0m fun x11 h12=>Zq (zll Z (.to Z) (.to Z) h12 tu52 ti5)<|Zm Z<|Za Z<|Za Z<|Zb Z<|z0o<|Ze [] [] Z
def zfw (a0:List UInt8):Option ((List UInt8)) :=
 app 1 ([]:List UInt8) a0 >>= fun x3 =>
 some x3
theorem zoo (a0:List UInt8):z2b Tryz.prog 153 [.rd (z04 u8R) a0] [] (zfw a0) (fun r nv=>⟨[.val (nv 0)],[(100,some (nv 0,.list u8R 5 r))]⟩):=by
 refine z2n 8 Tryz.func153 Z Z Z fun H w=>?_;refine gSR<|Zb Z<|z0v<|gSR<|Zm Z<|z11w Z Z .rd Z tu52 (fun h1=>?_) ?_
 ·subst h1;refine Zn<|zc7 Z<|gSR<|Zb Z<|z0o<|z0q<|zgb u8R 5 1<|Ze [(.slice none 0 0)] [1] Z
 ·refine Zn<|zbu Z<|Zt<|gSR<|Ef Z (lit (R:=u8R) (([]:List UInt8):List UInt8) 2 (pN) Z tu52 ti5 Z Z) fun v2=>Zm Z<|z0m fun x3 h4=>Ef Z (apn 2 Z Z Z .rd h4 tu52 ti5 Z Z Z) fun v5=>Zb Z<|z0o<|Ze [v5] [2] Z
def z49 (a0:List UInt8) (a1:Int):Option ((List UInt8) × Int × Int) :=
 zdy a0 a1 1 >>= fun r1 =>
 zfw r1.1 >>= fun r3 =>
 some (r3,r1.2.1,r1.2.2)
theorem zfg (a0:List UInt8) (a1:Int):z2b Tryz.prog 112 [.rd (z04 u8R) a0,.rd z0k a1] [] (z49 a0 a1) (fun r nv=>⟨[.val (nv 0),.rd z0k r.2.1,.rd z0k r.2.2],[(100,some (nv 0,.list u8R 5 r.1))]⟩):=by
 refine z2n 21 Tryz.func112 Z Z Z fun H w=>?_;refine gSR<|Za Z<|Za Z<|Zb Z<|gSR<|Zm Z<|Zm Z<|Zc [] [] Tryz.func152 Z (zrv _ _ _) fun r1 n2=>Zm Z<|Zq (ext Z Z)<|Zq (ext Z Z)<|Zq (ext Z Z)<|Za Z<|Za Z<|Zb Z<|gSR<|Zm Z<|Zc [] [(100,1)] Tryz.func153 Z (zoo _) fun r3 n4=>Zm Z<|Zm Z<|Za Z<|Za Z<|Zb Z<|z0o<|Ze [(n4 0)] [1] Z
def zg6  : Option (z03 × Int) :=
 some ((⟨0,[],0,(⟨0,[],(⟨0,0,0,[]⟩:z01)⟩:z0a),(⟨0,0⟩:z0b)⟩:z03),12)
def z9j (x4:List V3) (s8:(List UInt8) × (List V3) × Int):Option (Sum ((List V3)) ((List UInt8) × (List V3) × Int)) :=
 if decide (s8.2.2<(x4.length:Int)) then
  idx s8.2.1 s8.2.2 >>= fun x10 =>
  cut s8.1 ((min s8.1.length 32:Nat):Int) (s8.1.length:Int) >>= fun x12 =>
  some (.inr (x12,s8.2.1.set (s8.2.2:Int).toNat (zg4 x10 s8.1),w64 (s8.2.2+1)))
 else
  some (.inl s8.2.1)
def zet (a0:List UInt8) (a1:Int):Option ((List V3) × Int × Int) :=
 zdy a0 a1 32 >>= fun r1 =>
 if r1.2.2 != 0 then
  some ([],0,r1.2.2)
 else
  mkn 32 (Vector.replicate 32 0) (w64 (Int.tdiv (r1.1.length:Int) 32)) >>= fun x4 =>
  (iter (z9j x4) (r1.1,x4,0)) >>= fun s7 =>
  ze1 s7 >>= fun r14 =>
  if !r14 then
   some ([],0,12)
  else
   some (s7,r1.2.1,0)
def zbi (a0:List UInt8):Option (Int × Int × Int) :=
 z4c a0 >>= fun r1 =>
 if r1.2.2 != 0 then
  some (0,0,r1.2.2)
 else
  some (xorI (w64 ((z6r r1.1 1).toNat:Int)) (w64 (0 - (w64 ((r1.1 &&& 1).toNat:Int))))) >>= fun y4 =>
  some (y4,r1.2.1,0)
theorem zjq (a0:List UInt8):z2b Tryz.prog 194 [.rd (z04 u8R) a0] [] (zbi a0) (fun r nv=>⟨[.rd z0k r.1,.rd z0k r.2.1,.rd z0k r.2.2],[]⟩):=by
 refine z2n 26 Tryz.func194 Z Z Z fun H w=>?_;refine gSR<|Za Z<|Za Z<|Zb Z<|gSR<|Zm Z<|Zc [] [] Tryz.func111 Z (z8z _) fun r1 n2=>Zm Z<|Zq (ext Z Z)<|Zq (ext Z Z)<|Zq (ext Z Z)<|Za Z<|Za Z<|Zb Z<|z0v<|gSR<|Zm Z<|Zq (I.neq Z Z)<|Zj Z (fun h3=>?_) (fun h3=>?_)
 ·refine gSR<|Zm Z<|Za Z<|Za Z<|Zb Z<|z0o<|z0q<|Ze [] [] Z
 ·refine Zt<|gSR<|Zm Z<|Zq (U.shr Z Z (Int.natCast_nonneg _))<|Zq (U.toI Z tu35 Tryz.underlying2)<|Zm Z<|Zq (U.and Z Z)<|Zq (U.toI Z tu35 Tryz.underlying2)<|Zq (I.neg Z)<|Zq (I.xor Z Z)<|Zm Z<|Za Z<|z1o 2 Z fun y4=>Za Z<|Zb Z<|z0o<|Ze [] [] Z
def z9i (x17:List UInt8) (s19:z01 × Int):Option (Sum z01 (z01 × Int)) :=
 if decide (s19.2<(x17.length:Int)) then
  idx x17 s19.2 >>= fun x21 =>
  some (.inr ({ s19.1 with Bits:=(zjc s19.1.Bits 8) ||| x21.toUInt64 },w64 (s19.2+1)))
 else
  some (.inl s19.1)
def zd2 (a0:List UInt8):Option (z01 × Int × Int) :=
 if (a0.length:Int)==0 then
  some ((⟨0,0,0,[]⟩:z01),0,12)
 else
  idx a0 0 >>= fun x3 =>
  z5o (cut a0 1 (a0.length:Int) >>= fun x7 =>
  some (((⟨x3,0,0,[]⟩:z01).Kind)==1) >>= fun y9 =>
  if y9 then
   zbi x7 >>= fun r11 =>
   some (.inr ({ (⟨x3,0,0,[]⟩:z01) with Num:=r11.1 },r11.2.1,r11.2.2))
  else
   some (((⟨x3,0,0,[]⟩:z01).Kind)==2) >>= fun y13 =>
   if y13 then
    if decide ((x7.length:Int)<8) then
     some (.inl ((⟨0,0,0,[]⟩:z01),0,12))
    else
     (cut x7 0 8 >>= fun x17 =>
     iter (z9i x17) ((⟨x3,0,0,[]⟩:z01),0)) >>= fun s16 =>
     some (.inr (s16,8,0))
   else
    some (((⟨x3,0,0,[]⟩:z01).Kind)==3) >>= fun y23 =>
    if y23 then
     z49 x7 30 >>= fun r25 =>
     some (.inr ({ (⟨x3,0,0,[]⟩:z01) with Text:=r25.1 },r25.2.1,r25.2.2))
    else
     some (.inr ((⟨x3,0,0,[]⟩:z01),0,0))) fun s6 =>
  (if s6.2.2 != 0 then
   some true
  else
   z9l s6.1 >>= fun r29 =>
   some (r29 != 0)) >>= fun s27 =>
  if s27 then
   some ((⟨0,0,0,[]⟩:z01),0,12)
  else
   some (w64 (s6.2.1+1)) >>= fun y32 =>
   some (s6.1,y32,0)
theorem znm (a0:List UInt8):z2b Tryz.prog 159 [.rd (z04 u8R) a0] [] (zd2 a0) (fun r nv=>⟨[.rd z0r r.1,.rd z0k r.2.1,.rd z0k r.2.2],[]⟩):=by
 refine z2n 76 Tryz.func159 Z Z Z fun H w=>?_;refine gSR<|Eb Z (zad 1 zcl (.zr (R:=z0r) (x:=(⟨0,0,0,[]⟩:z01)) zlw)) fun v1=>Za Z<|Zb Z<|z0v<|gSR<|Zm Z<|Zq (z2v Z .rd Z tu52)<|Zq (I.eql Z Z)<|Zj Z (fun h2=>?_) (fun h2=>?_)
 ·refine gSR<|Zq (bld (x':=(⟨0,0,0,[]⟩:z01)) [(0,1),(1,1),(2,1),(3,1)] Tryz.underlying37 zcl Z zlw Z (Bld.done Z))<|Es (sto 1 Z Z fH Z zcl)<|Za Z<|Zb Z<|z0o<|z0q<|zb3 [] [] Z (eC 1 Z Z zki<|eE Z<|eE Z<|eN) (rN)
 ·refine Zt<|gSR<|Zm Z<|z0m fun x3 h4=>Zq (ixR Z Z h4 tu52 ti5 Z)<|Zq (ldR Z ty5)<|Zq (bld (x':=(⟨x3,0,0,[]⟩:z01)) [(0,1),(1,1),(2,1),(3,1)] Tryz.underlying37 zcl Z zlw Z (Bld.cons (z23 _) Z Z<|Bld.done Z))<|Eb Z (zad 2 zcl (.zr (R:=z0r) (x:=(⟨0,0,0,[]⟩:z01)) zlw)) fun v5=>Es (sto 2 Z Z fH Z zcl)<|Za Z<|Zb Z<|z7j (fun (s6:z01 × Int × Int) aa ww=>Sta (ctx 76 H [] w) [(2,.val (z0j v1 0)),(5,.val (z0j v5 0)),(6,.rd z0k s6.2.1),(7,.rd z0k s6.2.2)] [(1,some (v1,.box 37 [.rd z0r (⟨0,0,0,[]⟩:z01)])),(2,some (v5,.box 37 [.rd z0r s6.1]))] aa ww) ?_ (fun s6=>?_)
  ·refine gSR<|Zm Z<|z0m fun x7 h8=>Zq (zll Z (.to Z) .no h8 tu52 ti5)<|Zb Z<|gSR<|Zq (faB 2 Z Z Tryz.underlying37 Z (by exact ti5))<|Zq (ld 2 Z Z (fP (z23 _)) ty5 Z)<|Zn<|z5b<|gSR<|Zq (B.eql Z Z)<|Za Z<|z1o 24 Z fun y9=>Zj Z (fun h10=>?_) (fun h10=>?_)
   ·refine z20<|Zm Z<|Zc [] [] Tryz.func194 Z (zjq _) fun r11 n12=>Zm Z<|Zq (ext Z Z)<|Zq (ext Z Z)<|Zq (ext Z Z)<|Zq (faB 2 Z Z Tryz.underlying37 Z (by exact ti2))<|Es (sto 2 Z Z (fP (z4n _)) Z ti2)<|Za Z<|Za Z<|z1g<|z3f<|z5k (fun aa ww h=>Zu h [1,2])
   ·refine gSR<|Zq (B.eql Z Z)<|Za Z<|z1o 33 Z fun y13=>Zj Z (fun h14=>?_) (fun h14=>?_)
    ·refine z0v<|gSR<|Zm Z<|Zq (z2v Z .rd Z tu52)<|Zq (I.lss Z Z)<|Zj Z (fun h15=>?_) (fun h15=>?_)
     ·refine gSR<|Zq (bld (x':=(⟨0,0,0,[]⟩:z01)) [(0,1),(1,1),(2,1),(3,1)] Tryz.underlying37 zcl Z zlw Z (Bld.done Z))<|Es (sto 1 Z Z fH Z zcl)<|Za Z<|Zb Z<|z0o<|z0q<|z44<|z4g<|zb3 [] [] Z (eC 1 Z Z zki<|eE Z<|eE Z<|eN) (rN)
     ·refine Zt<|z68 (fun (s16:z01) aa ww=>Sta (ctx 76 H [] w) [(2,.val (z0j v1 0)),(5,.val (z0j v5 0)),(7,.rd z0k 0)] [(1,some (v1,.box 37 [.rd z0r (⟨0,0,0,[]⟩:z01)])),(2,some (v5,.box 37 [.rd z0r s16]))] aa ww) ?_ (fun s16=>?_)
      ·refine gSR<|Zm Z<|z0m fun x17 h18=>Zq (zll Z .no (.to Z) h18 tu52 ti5)<|Zq (z2v Z .rd Z tu52)<|Zm Z<|Zn<|z2a (fun (s19:z01 × Int) aa ww=>Sta (ctx 76 H [] w) [(2,.val (z0j v1 0)),(5,.val (z0j v5 0)),(7,.rd z0k 0),(40,.rd (z04 u8R) x17),(41,.rd z0k (x17.length:Int)),(42,.rd z0k s19.2)] [(1,some (v1,.box 37 [.rd z0r (⟨0,0,0,[]⟩:z01)])),(2,some (v5,.box 37 [.rd z0r s19.1]))] aa ww) (fun aa ww h=>Zu h [1,2]) (fun s19=>?_)
       refine gSR<|Zq (I.lss Z Z)<|Zn<|z0v<|gIf Z Z (fun h20=>?_) (fun h20=>?_)
       ·refine Zt<|z0v<|z5b<|gSR<|z0m fun x21 h22=>Zq (ixR Z Z h22 tu52 ti5 Z)<|Zq (ldR Z ty5)<|Zb Z<|z20<|Zq (faB 2 Z Z Tryz.underlying37 Z (by exact zo8))<|Zq (ld 2 Z Z (fP (z2i _)) ztl Z)<|Zq (U.shl Z Z (Int.natCast_nonneg _))<|Zm Z<|Zq (B.toU Z tu5 tu35)<|Zq (U.or Z Z)<|Zq (faB 2 Z Z Tryz.underlying37 Z (by exact zo8))<|Es (sto 2 Z Z (fP (z2i _)) Z zo8)<|z1g<|z3f<|z0z<|z20<|Zq (I.add Z Z)<|Zm Z<|z1g<|z1q (fun aa ww h=>Zu h [1,2])
       ·refine z21<|z15<|z17<|z2q (fun aa ww h=>Zu h [1,2])
      ·refine z20<|Za Z<|z1g<|z3f<|z5k (fun aa ww h=>Zu h [1,2])
    ·refine gSR<|Zq (B.eql Z Z)<|Za Z<|z1o 54 Z fun y23=>Zj Z (fun h24=>?_) (fun h24=>?_)
     ·refine gSR<|Zb Z<|gSR<|Zm Z<|Zc [] [(100,3)] Tryz.func112 Z (zfg _ _) fun r25 n26=>Zm Z<|Zq (ext Z Z)<|Zq (ext Z Z)<|Zq (ext Z Z)<|Za Z<|Za Z<|Zb Z<|z20<|Zm Z<|zf4 3 [11,59,62] Z (fS Z<|fS Z<|fS Z<|fN)<|Zq (cvBS Z tu52 tu5 tu9)<|Zq (faB 2 Z Z Tryz.underlying37 Z (by exact ti9))<|Es (sto 2 Z Z (fP (z2u _)) Z ti9)<|z1g<|z3f<|z5k (fun aa ww h=>Zu h [1,2])
     ·refine z31<|z3f<|z5k (fun aa ww h=>Zu h [1,2])
  ·refine z0v<|z68 (fun (s27:Bool) aa ww=>Sta (ctx 76 H [] w) [(2,.val (z0j v1 0)),(5,.val (z0j v5 0)),(6,.rd z0k s6.2.1),(71,.rd z0l s27)] [(1,some (v1,.box 37 [.rd z0r (⟨0,0,0,[]⟩:z01)])),(2,some (v5,.box 37 [.rd z0r s6.1]))] aa ww) ?_ (fun s27=>?_)
   ·refine z20<|Zm Z<|Zq (I.neq Z Z)<|Zm Z<|z19 67 Z (fun h28=>?_) (fun h28=>?_)
    ·refine lKn 66 Z h28<|Zk Z<|Zk Z<|Zk Z<|Zq (pkT Z Z)<|z1g<|z2q (fun aa ww h=>Zu h [1,2])
    ·refine lKn 66 Z h28<|z0w Zx Z Z (ld 2 Z Z fH zki Z)<|zcs [] [] Zx Z Tryz.func191 Z Z (zf3 _) (Y1 Z) rN fun r29 n30=>z0w Zx Z Z (I.neq Z Z)<|Zq (pkF Z Z)<|z1g<|z2q (fun aa ww h=>Zu h [1,2])
   ·refine gIf Z Z (fun h31=>?_) (fun h31=>?_)
    ·refine gSR<|Zq (bld (x':=(⟨0,0,0,[]⟩:z01)) [(0,1),(1,1),(2,1),(3,1)] Tryz.underlying37 zcl Z zlw Z (Bld.done Z))<|Es (sto 1 Z Z fH Z zcl)<|Za Z<|Zb Z<|z0o<|z0q<|zb3 [] [] Z (eC 1 Z Z zki<|eE Z<|eE Z<|eN) (rN)
    ·refine Zt<|gSR<|Zq (ld 2 Z Z fH zki Z)<|Zm Z<|Zq (I.add Z Z)<|Es (sto 1 Z Z fH Z zcl)<|Za Z<|z1o 3 Z fun y32=>Zb Z<|z0o<|zb3 [] [] Z (eC 1 Z Z zki<|eE Z<|eE Z<|eN) (rN)
def z2p (c0_0:z28) (a1:Int) (a2:Int):Option (z28) :=
 if a2 != 0 then
  some ({ c0_0 with bad:=true })
 else
  cut c0_0.b a1 (c0_0.b.length:Int) >>= fun x2 =>
  some ({ c0_0 with b:=x2 })
theorem z7u (p0_0:Value) (c0_0:z28) (a1:Int) (a2:Int):z2b Tryz.prog 158 [.val (z0j p0_0 0),.rd z0k a1,.rd z0k a2] [(1,some (p0_0,.box 198 [.rd z4w c0_0]))] (z2p c0_0 a1 a2) (fun r nv=>⟨[],[(1,some (p0_0,.box 198 [.rd z4w r]))]⟩):=by
 refine z2n 20 Tryz.func158 Z Z Z fun H w=>?_;refine z0v<|gSR<|Zm Z<|Zq (I.neq Z Z)<|Zj Z (fun h1=>?_) (fun h1=>?_)
 ·refine gSR<|Zm Z<|Zq (zef 1 Z Z fH)<|Zq (faB 1 Z Z Tryz.underlying198 Z (by exact ti4))<|Es (sto 1 Z Z (fP (z5m _)) Z ti4)<|Zn<|z0o<|z0q<|Ze [] [1] Z
 ·refine Zt<|z20<|Zm Z<|Zm Z<|Zq (zef 1 Z Z fH)<|Zq (faB 1 Z Z Tryz.underlying198 Z (by exact zcr))<|Zq (ld 1 Z Z (fP (z4a _)) zpk Z)<|Zm Z<|z0m fun x2 h3=>Zq (zll Z (.to Z) .no h3 tu52 ti5)<|Zq (zef 1 Z Z fH)<|Zq (faB 1 Z Z Tryz.underlying198 Z (by exact zcr))<|Es (sto 1 Z Z (fP (z4a _)) Z zcr)<|z1g<|Ze [] [1] Z
def z9z (c0_0:z28):Option (UInt8 × z28) :=
 (if c0_0.bad then
  some true
 else
  some ((c0_0.b.length:Int)==0)) >>= fun s1 =>
 if s1 then
  some (0,{ c0_0 with bad:=true })
 else
  idx c0_0.b 0 >>= fun x4 =>
  z2p c0_0 1 0 >>= fun r6 =>
  some (x4,r6)
theorem zgj (p0_0:Value) (c0_0:z28):z2b Tryz.prog 155 [.val (z0j p0_0 0)] [(1,some (p0_0,.box 198 [.rd z4w c0_0]))] (z9z c0_0) (fun r nv=>⟨[.rd u8R r.1],[(1,some (p0_0,.box 198 [.rd z4w r.2]))]⟩):=by
 refine z2n 28 Tryz.func155 Z Z Z fun H w=>?_;refine gSR<|Zb Z<|z0v<|z68 (fun (s1:Bool) aa ww=>Sta (ctx 28 H [(1,some (p0_0,.box 198 [.rd z4w c0_0]))] w) [(0,.val (z0j p0_0 0)),(15,.rd z0l s1)] [(1,some (p0_0,.box 198 [.rd z4w c0_0]))] aa ww) ?_ (fun s1=>?_)
 ·refine z20<|Zm Z<|Zq (zef 1 Z Z fH)<|Zq (faB 1 Z Z Tryz.underlying198 Z (by exact ti4))<|Zq (ld 1 Z Z (fP (z5m _)) ty4 Z)<|Zm Z<|z19 8 Z (fun h2=>?_) (fun h2=>?_)
  ·refine lKn 7 Z h2<|Zk Z<|Zk Z<|Zk Z<|Zk Z<|Zk Z<|Zk Z<|Zq (pkT Z Z)<|z1g<|z2q (fun aa ww h=>Zu h [1])
  ·refine lKn 7 Z h2<|z0w Zx Z Z (mv Z)<|z0w Zx Z Z (zef 1 Z Z fH)<|z0w Zx Z Z (faB 1 Z Z Tryz.underlying198 Z (by exact zcr))<|z0w Zx Z Z (ld 1 Z Z (fP (z4a _)) zpk Z)<|z0w Zx Z Z (z2v Z .rd Z tu52)<|z0w Zx Z Z (I.eql Z Z)<|Zq (pkF Z Z)<|z1g<|z2q (fun aa ww h=>Zu h [1])
 ·refine gIf Z Z (fun h3=>?_) (fun h3=>?_)
  ·refine gSR<|Zm Z<|Zq (zef 1 Z Z fH)<|Zq (faB 1 Z Z Tryz.underlying198 Z (by exact ti4))<|Es (sto 1 Z Z (fP (z5m _)) Z ti4)<|Zn<|gSR<|Zb Z<|z0o<|z0q<|Ze [] [1] Z
  ·refine Zt<|gSR<|Zm Z<|Zq (zef 1 Z Z fH)<|Zq (faB 1 Z Z Tryz.underlying198 Z (by exact zcr))<|Zq (ld 1 Z Z (fP (z4a _)) zpk Z)<|z0m fun x4 h5=>Zq (ixR Z Z h5 tu52 ti5 Z)<|Zq (ldR Z ty5)<|Zb Z<|gSR<|Zm Z<|Zc [1] [(1,1)] Tryz.func158 Z (z7u _ _ _ _) fun r6 n7=>Zn<|gSR<|Zm Z<|Zb Z<|z0o<|Ze [] [1] Z
def z5n (c0_0:z28) (a1:UInt64):Option (UInt64 × z28) :=
 z4c c0_0.b >>= fun r1 =>
 z2p c0_0 r1.2.1 r1.2.2 >>= fun r3 =>
 if r3.bad then
  some (r1.1,{ r3 with bad:=true })
 else
  some (r1.1,{ r3 with bad:=decide (a1<r1.1) })
theorem z86 (p0_0:Value) (c0_0:z28) (a1:UInt64):z2b Tryz.prog 156 [.val (z0j p0_0 0),.rd z1p a1] [(1,some (p0_0,.box 198 [.rd z4w c0_0]))] (z5n c0_0 a1) (fun r nv=>⟨[.rd z1p r.1],[(1,some (p0_0,.box 198 [.rd z4w r.2]))]⟩):=by
 refine z2n 34 Tryz.func156 Z Z Z fun H w=>?_;refine gSR<|Zb Z<|gSR<|Zm Z<|Zq (zef 1 Z Z fH)<|Zq (faB 1 Z Z Tryz.underlying198 Z (by exact zcr))<|Zq (ld 1 Z Z (fP (z4a _)) zpk Z)<|Zc [] [] Tryz.func111 Z (z8z _) fun r1 n2=>Zm Z<|Zq (ext Z Z)<|Zq (ext Z Z)<|Zq (ext Z Z)<|Za Z<|Za Z<|Zb Z<|gSR<|Zm Z<|Zm Z<|Zm Z<|Zc [1] [(1,1)] Tryz.func158 Z (z7u _ _ _ _) fun r3 n4=>Zn<|gSR<|Zm Z<|Zm Z<|Zq (zef 1 Z Z fH)<|Zq (faB 1 Z Z Tryz.underlying198 Z (by exact ti4))<|Zq (ld 1 Z Z (fP (z5m _)) ty4 Z)<|Zm Z<|z19 26 Z (fun h5=>?_) (fun h5=>?_)
 ·refine lKn 25 Z h5<|Zk Z<|Zk Z<|Zk Z<|Zq (pkT Z Z)<|Zq (zef 1 Z Z fH)<|Zq (faB 1 Z Z Tryz.underlying198 Z (by exact ti4))<|Es (sto 1 Z Z (fP (z5m _)) Z ti4)<|Zn<|gSR<|Zm Z<|Zb Z<|z0o<|Ze [] [1] Z
 ·refine lKn 25 Z h5<|z0w Zx Z Z (mv Z)<|z0w Zx Z Z (mv Z)<|z0w Zx Z Z (U.gtr Z Z)<|Zq (pkF Z Z)<|Zq (zef 1 Z Z fH)<|Zq (faB 1 Z Z Tryz.underlying198 Z (by exact ti4))<|Es (sto 1 Z Z (fP (z5m _)) Z ti4)<|Zn<|gSR<|Zm Z<|Zb Z<|z0o<|Ze [] [1] Z
def zdw (a0:List UInt8) (a1:List UInt8):Option (Bool) :=
 some (a0==a1)
def z2y (c0_0:z0e) (a1:Int):Option (Int × z0e) :=
 z4c c0_0.b >>= fun r1 =>
 (if r1.2.2 != 0 then
  some true
 else
  some (decide ((UInt64.ofInt a1)<r1.1))) >>= fun s3 =>
 if s3 then
  some (0,{ c0_0 with bad:=true })
 else
  cut c0_0.b r1.2.1 (c0_0.b.length:Int) >>= fun x6 =>
  some (w64 (r1.1.toNat:Int)) >>= fun y8 =>
  some (y8,{ c0_0 with b:=x6 })
theorem zgf  : z2b Tryz.prog 154 [] [] (zg6) (fun r nv=>⟨[.agg [.rd z0x r.1.Author,.val (nv 0),.rd z1p r.1.Stamp,.rd z07 r.1.Act,.rd z09 r.1.Sig],.rd z0k r.2],[(100,some (nv 0,.list aZ 45 r.1.Preds))]⟩):=by
 refine z2n 3 Tryz.func154 Z Z Z fun H w=>?_;refine gSR<|Eb Z (zad 1 z6w (ZrE.rd (R:=z0x) (x:=0) (Zr.num Z) (ZrE.nilS (ZrE.rd (R:=z1p) (x:=0) (Zr.num Z) (ZrE.rd (R:=z07) (x:=(⟨0,[],(⟨0,0,0,[]⟩:z01)⟩:z0a)) zja (ZrE.rd (R:=z09) (x:=(⟨0,0⟩:z0b)) zln ZrE.nil Z) Z) Z)) Z)) fun v1=>Zb Z<|gSR<|Zq (bldE [(0,1),(1,1),(2,1),(3,6),(9,2)] Tryz.underlying43 z6w (ZrE.rd (R:=z0x) (x:=0) (Zr.num Z) (ZrE.nilS (ZrE.rd (R:=z1p) (x:=0) (Zr.num Z) (ZrE.rd (R:=z07) (x:=(⟨0,[],(⟨0,0,0,[]⟩:z01)⟩:z0a)) zja (ZrE.rd (R:=z09) (x:=(⟨0,0⟩:z0b)) zln ZrE.nil Z) Z) Z)) Z) Z (zmf.done Z))<|Es (zqo 1 Z Z (z02.cast (z02.cons z00 (z02.cons z0c (z02.cons z00 (z02.cons z00 (z02.cons z00 z02.nil))))) Z) Z (z0i.cons z06 (z0i.cons z1d (z0i.cons z06 (z0i.cons z06 (z0i.cons z06 z0i.nil))))) (z02.cast (z02.cons z00 (z02.cons z0c (z02.cons z00 (z02.cons z00 (z02.cons z00 z02.nil))))) Z) z6w)<|Zb Z<|z0o<|zgb aZ 45 2<|zxy 1 Z<|zb3 [(.slice none 0 0)] [2] Z (eCA 1 Z Z (z02.cast (z02.cons z00 (z02.cons z0c (z02.cons z00 (z02.cons z00 (z02.cons z00 z02.nil))))) Z) (z0i.cons z06 (z0i.cons z1d (z0i.cons z06 (z0i.cons z06 (z0i.cons z06 z0i.nil))))) z8y<|eE Z<|eN) (y1 Z)
theorem zod (a0:List UInt8) (a1:Int) (a2:Int):z2b Tryz.prog 152 [.rd (z04 u8R) a0,.rd z0k a1,.rd z0k a2] [] (zdy a0 a1 a2) (fun r nv=>⟨[.rd (z04 u8R) r.1,.rd z0k r.2.1,.rd z0k r.2.2],[]⟩):=by
 refine z2n 51 Tryz.func152 Z Z Z fun H w=>?_;refine gSR<|Za Z<|Za Z<|Zb Z<|z0v<|gSR<|Zm Z<|Zq (I.lss Z Z)<|Zj Z (fun h1=>?_) (fun h1=>?_)
 ·refine gSR<|Za Z<|Za Z<|Zb Z<|z0o<|z0q<|zc8 u8R 6 Z<|Ze [] [] Z
 ·refine Zt<|gSR<|Zm Z<|Zc [] [] Tryz.func111 Z (z8z _) fun r2 n3=>Zm Z<|Zq (ext Z Z)<|Zq (ext Z Z)<|Zq (ext Z Z)<|Za Z<|Za Z<|Zb Z<|z0v<|z68 (fun (s4:Bool) aa ww=>Sta (ctx 51 H [] w) [(0,.rd (z04 u8R) a0),(2,.rd z0k a2),(9,.rd z1p r2.1),(10,.rd z0k r2.2.1),(39,.rd z0l s4)] [] aa ww) ?_ (fun s4=>?_)
  ·refine z20<|Zm Z<|Zq (I.neq Z Z)<|Zm Z<|z19 23 Z (fun h5=>?_) (fun h5=>?_)
   ·refine lKn 22 Z h5<|Zk Z<|Zk Z<|Zk Z<|Zk Z<|Zq (pkT Z Z)<|Zm Z<|Zk Z<|Zk Z<|Zk Z<|Zk Z<|Zk Z<|Zk Z<|Zk Z<|Zk Z<|Zk Z<|Zq (pkT Z Z)<|z1g<|z2q (fun aa ww h=>Zu h [])
   ·refine lKn 22 Z h5<|z0w Zx Z Z (mv Z)<|z0w Zx Z Z (mv Z)<|z0w Zx Z Z (I.toU Z tu3 tu35)<|z0w Zx Z Z (U.gtr Z Z)<|Zq (pkF Z Z)<|Zm Z<|z19 29 Z (fun h6=>?_) (fun h6=>?_)
    ·refine lKn 27 Z h6<|lKn 28 Z h6<|Zk Z<|Zk Z<|Zk Z<|Zk Z<|Zk Z<|Zk Z<|Zk Z<|Zk Z<|Zk Z<|Zq (pkT Z Z)<|z1g<|z2q (fun aa ww h=>Zu h [])
    ·refine lKn 27 Z h6<|lKn 28 Z h6<|z0w Zx Z Z (mv Z)<|z0w Zx Z Z (mv Z)<|z0w Zx Z Z (z2v Z .rd Z tu52)<|z0w Zx Z Z (mv Z)<|z0w Zx Z Z (I.sub Z Z)<|z0w Zx Z Z (mv Z)<|z0m fun u7 h8=>z0w Zx Z Z (I.quo Z Z (z60 h8))<|z0w Zx Z Z (I.toU Z tu3 tu35)<|z0w Zx Z Z (U.gtr Z Z)<|Zq (pkF Z Z)<|z1g<|z2q (fun aa ww h=>Zu h [])
  ·refine gIf Z Z (fun h9=>?_) (fun h9=>?_)
   ·refine gSR<|Za Z<|Za Z<|Zb Z<|z0o<|z0q<|zc8 u8R 6 Z<|Ze [] [] Z
   ·refine Zt<|gSR<|Zm Z<|Zm Z<|Zm Z<|Zq (U.toI Z tu35 tu3)<|Zq (I.mul Z Z)<|Zq (I.add Z Z)<|Za Z<|z1o 12 Z fun y10=>Zn<|gSR<|Zm Z<|Zm Z<|Zm Z<|z0m fun x11 h12=>Zq (zll Z (.to Z) (.to Z) h12 tu52 ti5)<|Zm Z<|Za Z<|Za Z<|Zb Z<|z0o<|Ze [] [] Z
theorem zku (a0:List UInt8) (a1:Int):z2b Tryz.prog 157 [.rd (z04 u8R) a0,.rd z0k a1] [] (zet a0 a1) (fun r nv=>⟨[.val (nv 0),.rd z0k r.2.1,.rd z0k r.2.2],[(100,some (nv 0,.list aZ 45 r.1))]⟩):=by
 refine z2n 45 Tryz.func157 Z Z Z fun H w=>?_;refine gSR<|Za Z<|Za Z<|Zb Z<|gSR<|Zm Z<|Zm Z<|Zc [] [] Tryz.func152 Z (zod _ _ _) fun r1 n2=>Zm Z<|Zq (ext Z Z)<|Zq (ext Z Z)<|Zq (ext Z Z)<|Za Z<|Za Z<|Zb Z<|z0v<|gSR<|Zm Z<|Zq (I.neq Z Z)<|Zj Z (fun h3=>?_) (fun h3=>?_)
 ·refine gSR<|Zm Z<|Za Z<|Za Z<|Zb Z<|z0o<|z0q<|zgb aZ 45 1<|Ze [(.slice none 0 0)] [1] Z
 ·refine Zt<|gSR<|Zm Z<|Zq (z2v Z .rd Z tu52)<|Zq (I.quo Z Z (by decide))<|z0m fun x4 h5=>Ef Z (mks (R:=aZ) 2 Z Z h5 tu29 z40 zl9 Z) fun v6=>Zb Z<|z68 (fun (s7:(List V3)) aa ww=>Sta (ctx 45 H [] w) [(8,.rd z0k r1.2.1),(10,.val v6)] [(2,some (v6,.list aZ 45 s7))] aa ww) ?_ (fun s7=>?_)
  ·refine gSR<|Zm Z<|Zq (z2v Z (.own 2 Z) Z tu29)<|Zm Z<|Zn<|z2a (fun (s8:(List UInt8) × (List V3) × Int) aa ww=>Sta (ctx 45 H [] w) [(7,.rd (z04 u8R) s8.1),(8,.rd z0k r1.2.1),(10,.val v6),(27,.rd z0k (x4.length:Int)),(28,.rd z0k s8.2.2)] [(2,some (v6,.list aZ 45 s8.2.1))] aa ww) (fun aa ww h=>Zu h [2]) (fun s8=>?_);refine gSR<|Zq (I.lss Z Z)<|Zn<|z0v<|gIf Z Z (fun h9=>?_) (fun h9=>?_)
   ·refine Zt<|z0v<|z5b<|gSR<|Zm Z<|Zb Z<|z20<|Zm Z<|Zm Z<|Zm Z<|z0m fun x10 h11=>Zq (ixO 2 Z Z Z h11 tu29 z40)<|Zq (cutW 2 Z Z (Foc.el h11) tu45 ti5 Z)<|Zm Z<|lCpy 2 Z Z Z (Foc.el h11) Z .rd Z tu52 ti5<|z0m fun x12 h13=>Zq (zll Z (.to Z) .no h13 tu52 ti5)<|Za Z<|z1g<|z3f<|z0z<|z20<|Zq (I.add Z Z)<|Zm Z<|z1g<|z1q (fun aa ww h=>Zu h [2])
   ·refine z21<|z15<|z17<|z2q (fun aa ww h=>Zu h [2])
  ·refine z0v<|gSR<|Zm Z<|zxo [2] [] (gd0 Z) Z Tryz.func192 Z Z (zij _) (aBo 2 Z Z Z<|aB0) (fun _ _=>(flC zam fl0)) (fun _ _=>cf0) fun r14 n15=>Zq (zex Z)<|Zj Z (fun h16=>?_) (fun h16=>?_)
   ·refine gSR<|Za Z<|Za Z<|Zb Z<|z0o<|z0q<|zgb aZ 45 3<|Ze [(.slice none 0 0)] [3] Z
   ·refine Zt<|gSR<|Zm Z<|Zm Z<|Za Z<|Za Z<|Zb Z<|z0o<|Ze [v6] [2] Z
def zck (a0:List UInt8):Option (z03 × Int) :=
 z9z (⟨a0,false⟩:z28) >>= fun r3 =>
 if r3.1 != 111 then
  zg6 >>= fun r6 =>
  some (r6.1,r6.2)
 else
  z5n r3.2 1000000007 >>= fun r9 =>
  zet r9.2.b 4 >>= fun r11 =>
  z2p r9.2 r11.2.1 r11.2.2 >>= fun r13 =>
  z5n r13 1000000000000 >>= fun r15 =>
  z9z r15.2 >>= fun r17 =>
  (if (({ (⟨0,[],(⟨0,0,0,[]⟩:z01)⟩:z0a) with Kind:=r17.1 }).Kind) != 1 then
   z49 r17.2.b 20 >>= fun r21 =>
   z2p r17.2 r21.2.1 r21.2.2 >>= fun r23 =>
   some (r23,{ { (⟨0,[],(⟨0,0,0,[]⟩:z01)⟩:z0a) with Kind:=r17.1 } with Key:=r21.1 })
  else
   some (r17.2,{ (⟨0,[],(⟨0,0,0,[]⟩:z01)⟩:z0a) with Kind:=r17.1 })) >>= fun s19 =>
  (if s19.2.Kind==4 then
   zd2 s19.1.b >>= fun r27 =>
   z2p s19.1 r27.2.1 r27.2.2 >>= fun r30 =>
   some (r30,{ s19.2 with Value:=r27.1 })
  else
   some (s19.1,s19.2)) >>= fun s25 =>
  z5n s25.1 500000003 >>= fun r32 =>
  z5n r32.2 500000003 >>= fun r34 =>
  (if r34.2.bad then
   some true
  else
   if decide (0<(r34.2.b.length:Int)) then
    some true
   else
    zeq (⟨r9.1.toUInt32,r11.1,r15.1,s25.2,{ { (⟨0,0⟩:z0b) with E:=r32.1.toUInt32 } with S:=r34.1.toUInt32 }⟩:z03) >>= fun r39 =>
    some (r39 != 0)) >>= fun s36 =>
  if s36 then
   zg6 >>= fun r42 =>
   some (r42.1,r42.2)
  else
   some ((⟨r9.1.toUInt32,r11.1,r15.1,s25.2,{ { (⟨0,0⟩:z0b) with E:=r32.1.toUInt32 } with S:=r34.1.toUInt32 }⟩:z03),0)
theorem zog (a0:List UInt8):z2b Tryz.prog 113 [.rd (z04 u8R) a0] [] (zck a0) (fun r nv=>⟨[.agg [.rd z0x r.1.Author,.val (nv 0),.rd z1p r.1.Stamp,.rd z07 r.1.Act,.rd z09 r.1.Sig],.rd z0k r.2],[(100,some (nv 0,.list aZ 45 r.1.Preds))]⟩):=by
 refine z2n 125 Tryz.func113 Z Z Z fun H w=>?_;refine gSR<|Eb Z (zad 1 z6w (ZrE.rd (R:=z0x) (x:=0) (Zr.num Z) (ZrE.nilS (ZrE.rd (R:=z1p) (x:=0) (Zr.num Z) (ZrE.rd (R:=z07) (x:=(⟨0,[],(⟨0,0,0,[]⟩:z01)⟩:z0a)) zja (ZrE.rd (R:=z09) (x:=(⟨0,0⟩:z0b)) zln ZrE.nil Z) Z) Z)) Z)) fun v1=>Zb Z<|gSR<|Zm Z<|Zq (bld (x':=(⟨a0,false⟩:z28)) [(0,1),(1,1)] Tryz.underlying198 z18s Z z18w Z (Bld.cons (z4a _) Z Z<|Bld.done Z))<|Eb Z (bx 2 Z) fun v2=>Zb Z<|gSR<|Zb Z<|z0v<|gSR<|Zm Z<|Zc [2] [(1,2)] Tryz.func155 Z (zgj _ _) fun r3 n4=>Zq (B.neq Z Z)<|Zj Z (fun h5=>?_) (fun h5=>?_)
 ·refine gSR<|Zm Z<|zps [] [(100,3)] (gd0 Z) Z Z Tryz.func154 Z Z (zgf) (aN) (cN) rN fun r6 n7=>Zq (ext Z Z)<|Zq (ext Z Z)<|Es (zqo 1 Z Z (z02.cast (z02.cons z00 (z02.cons z0c (z02.cons z00 (z02.cons z00 (z02.cons z00 z02.nil))))) Z) Z (z0i.cons z06 (z0i.cons z1d (z0i.cons z06 (z0i.cons z06 (z0i.cons z06 z0i.nil))))) (z02.cast (z02.cons z00 (z02.cons z0c (z02.cons z00 (z02.cons z00 (z02.cons z00 z02.nil))))) Z) z6w)<|Zb Z<|z0o<|z0q<|zxy 1 Z<|zb3 [(n7 0)] [3] Z (eCA 1 Z Z (z02.cast (z02.cons z00 (z02.cons z0c (z02.cons z00 (z02.cons z00 (z02.cons z00 z02.nil))))) Z) (z0i.cons z06 (z0i.cons z1d (z0i.cons z06 (z0i.cons z06 (z0i.cons z06 z0i.nil))))) z8y<|eE Z<|eN) (y1 Z)
 ·refine Zt<|gSR<|Eb Z (zad 4 z6w (ZrE.rd (R:=z0x) (x:=0) (Zr.num Z) (ZrE.nilS (ZrE.rd (R:=z1p) (x:=0) (Zr.num Z) (ZrE.rd (R:=z07) (x:=(⟨0,[],(⟨0,0,0,[]⟩:z01)⟩:z0a)) zja (ZrE.rd (R:=z09) (x:=(⟨0,0⟩:z0b)) zln ZrE.nil Z) Z) Z)) Z)) fun v8=>Zn<|gSR<|Zm Z<|Zc [2] [(1,2)] Tryz.func156 Z (z86 _ _ _) fun r9 n10=>Zq (U.toW Z tu35 tu34)<|Zq (faB 4 Z Z Tryz.underlying43 Z (by exact z64))<|Es (sto 4 Z Z (Foc.cast fH Z) Z z64)<|Zn<|gSR<|Zm Z<|Zq (zef 2 Z Z fH)<|Zq (faB 2 Z Z Tryz.underlying198 Z (by exact zcr))<|Zq (ld 2 Z Z (fP (z4a _)) zpk Z)<|Zc [] [(100,5)] Tryz.func157 Z (zku _ _) fun r11 n12=>Zm Z<|Zq (ext Z Z)<|Zq (ext Z Z)<|Zq (ext Z Z)<|Za Z<|Za Z<|Zb Z<|gSR<|Zm Z<|Zm Z<|Zm Z<|Zc [2] [(1,2)] Tryz.func158 Z (z7u _ _ _ _) fun r13 n14=>Zn<|gSR<|Zm Z<|Zm Z<|Zc [2] [(1,2)] Tryz.func156 Z (z86 _ _ _) fun r15 n16=>Zm Z<|Zc [2] [(1,2)] Tryz.func155 Z (zgj _ _) fun r17 n18=>Zq (faB 4 Z Z Tryz.underlying43 Z (by exact za8))<|Es (zqr 4 Z Z (z6z.cast (z6z.next z00 (z6z.here z0c)) Z) Z z1d z0c za8)<|Zq (faB 4 Z Z Tryz.underlying43 Z (by exact zo8))<|Es (sto 4 Z Z (Foc.cast (Foc.next z00 (Foc.next z0c fH)) Z) Z zo8)<|Zq (faB 4 Z Z Tryz.underlying43 Z (by exact zgq))<|Zq (faB 4 Z Z Tryz.underlying39 Z (by exact ti5))<|Es (sto 4 Z Z ((Foc.cast (Foc.next z00 (Foc.next z0c (Foc.next z00 fH))) Z).part (z2d _)) Z ti5)<|Zn<|z68 (fun (s19:z28 × z0a) aa ww=>Sta (ctx 125 H [] w) [(2,.val (z0j v1 0)),(4,.val (z0j v2 0)),(5,.val (.func (.func 154) #[] #[])),(6,.val (z0j v8 0))] [(1,some (v1,.box 43 [.rd z0x 0,.val (.slice none 0 0),.rd z1p 0,.rd z07 (⟨0,[],(⟨0,0,0,[]⟩:z01)⟩:z0a),.rd z09 (⟨0,0⟩:z0b)])),(2,some (v2,.box 198 [.rd z4w s19.1])),(5,some ((n12 0),.list aZ 45 r11.1)),(4,some (v8,.box 43 [.rd z0x r9.1.toUInt32,.val (n12 0),.rd z1p r15.1,.rd z07 s19.2,.rd z09 (⟨0,0⟩:z0b)]))] aa ww) ?_ (fun s19=>?_)
  ·refine gSR<|Zq (faB 4 Z Z Tryz.underlying43 Z (by exact zgq))<|Zq (faB 4 Z Z Tryz.underlying39 Z (by exact ti5))<|Zq (ld 4 Z Z ((Foc.cast (Foc.next z00 (Foc.next z0c (Foc.next z00 fH))) Z).part (z2d _)) ty5 Z)<|Zq (B.neq Z Z)<|Zj Z (fun h20=>?_) (fun h20=>?_)
   ·refine gSR<|Zm Z<|Zq (zef 2 Z Z fH)<|Zq (faB 2 Z Z Tryz.underlying198 Z (by exact zcr))<|Zq (ld 2 Z Z (fP (z4a _)) zpk Z)<|Zc [] [(100,6)] Tryz.func112 Z (zfg _ _) fun r21 n22=>Zm Z<|Zq (ext Z Z)<|Zq (ext Z Z)<|Zq (ext Z Z)<|Za Z<|Za Z<|Zb Z<|gSR<|Zm Z<|Zm Z<|Zm Z<|Zc [2] [(1,2)] Tryz.func158 Z (z7u _ _ _ _) fun r23 n24=>Zn<|z20<|Zm Z<|zf4 6 [62,10,69] Z (fS Z<|fS Z<|fS Z<|fN)<|Zq (cvBS Z tu52 tu5 tu9)<|Zq (faB 4 Z Z Tryz.underlying43 Z (by exact zgq))<|Zq (faB 4 Z Z Tryz.underlying39 Z (by exact ti9))<|Es (sto 4 Z Z ((Foc.cast (Foc.next z00 (Foc.next z0c (Foc.next z00 fH))) Z).part (z48 _)) Z ti9)<|z1g<|z2q (fun aa ww h=>Zu h [1,2,5,4])
   ·refine z31<|z2q (fun aa ww h=>Zu h [1,2,5,4])
  ·refine z68 (fun (s25:z28 × z0a) aa ww=>Sta (ctx 125 H [] w) [(2,.val (z0j v1 0)),(4,.val (z0j v2 0)),(5,.val (.func (.func 154) #[] #[])),(6,.val (z0j v8 0))] [(1,some (v1,.box 43 [.rd z0x 0,.val (.slice none 0 0),.rd z1p 0,.rd z07 (⟨0,[],(⟨0,0,0,[]⟩:z01)⟩:z0a),.rd z09 (⟨0,0⟩:z0b)])),(2,some (v2,.box 198 [.rd z4w s25.1])),(5,some ((n12 0),.list aZ 45 r11.1)),(4,some (v8,.box 43 [.rd z0x r9.1.toUInt32,.val (n12 0),.rd z1p r15.1,.rd z07 s25.2,.rd z09 (⟨0,0⟩:z0b)]))] aa ww) ?_ (fun s25=>?_)
   ·refine gSR<|Zq (faB 4 Z Z Tryz.underlying43 Z (by exact zgq))<|Zq (faB 4 Z Z Tryz.underlying39 Z (by exact ti5))<|Zq (ld 4 Z Z ((Foc.cast (Foc.next z00 (Foc.next z0c (Foc.next z00 fH))) Z).part (z2d _)) ty5 Z)<|Zq (B.eql Z Z)<|Zj Z (fun h26=>?_) (fun h26=>?_)
    ·refine gSR<|Zm Z<|Zq (zef 2 Z Z fH)<|Zq (faB 2 Z Z Tryz.underlying198 Z (by exact zcr))<|Zq (ld 2 Z Z (fP (z4a _)) zpk Z)<|Zc [] [] Tryz.func159 Z (znm _) fun r27 n28=>Zm Z<|Zq (ext Z Z)<|Zq (ext Z Z)<|Zq (ext Z Z)<|Eb Z (zad 7 zcl (.zr (R:=z0r) (x:=(⟨0,0,0,[]⟩:z01)) zlw)) fun v29=>Es (sto 7 Z Z fH Z zcl)<|Za Z<|Zb Z<|gSR<|Zm Z<|Zm Z<|Zm Z<|Zc [2] [(1,2)] Tryz.func158 Z (z7u _ _ _ _) fun r30 n31=>Zn<|z20<|Zq (ld 7 Z Z fH zki Z)<|Zq (faB 4 Z Z Tryz.underlying43 Z (by exact zgq))<|Zq (faB 4 Z Z Tryz.underlying39 Z (by exact zcl))<|Es (sto 4 Z Z ((Foc.cast (Foc.next z00 (Foc.next z0c (Foc.next z00 fH))) Z).part (z3t _)) Z zcl)<|z1g<|z2q (fun aa ww h=>Zu h [1,2,5,4])
    ·refine z31<|z2q (fun aa ww h=>Zu h [1,2,5,4])
   ·refine gSR<|Zm Z<|Zc [2] [(1,2)] Tryz.func156 Z (z86 _ _ _) fun r32 n33=>Zq (U.toW Z tu35 tu34)<|Zm Z<|Zc [2] [(1,2)] Tryz.func156 Z (z86 _ _ _) fun r34 n35=>Zq (U.toW Z tu35 tu34)<|Zq (faB 4 Z Z Tryz.underlying43 Z (by exact zqn))<|Zq (faB 4 Z Z Tryz.underlying41 Z (by exact z64))<|Es (sto 4 Z Z ((Foc.cast (Foc.next z00 (Foc.next z0c (Foc.next z00 (Foc.next z00 fH)))) Z).part (z4l _)) Z z64)<|Zq (faB 4 Z Z Tryz.underlying43 Z (by exact zqn))<|Zq (faB 4 Z Z Tryz.underlying41 Z (by exact z64))<|Es (sto 4 Z Z ((Foc.cast (Foc.next z00 (Foc.next z0c (Foc.next z00 (Foc.next z00 fH)))) Z).part (z61 _)) Z z64)<|Zn<|z0v<|z68 (fun (s36:Bool) aa ww=>Sta (ctx 125 H [] w) [(2,.val (z0j v1 0)),(5,.val (.func (.func 154) #[] #[])),(6,.val (z0j v8 0)),(119,.rd z0l s36)] [(1,some (v1,.box 43 [.rd z0x 0,.val (.slice none 0 0),.rd z1p 0,.rd z07 (⟨0,[],(⟨0,0,0,[]⟩:z01)⟩:z0a),.rd z09 (⟨0,0⟩:z0b)])),(5,some ((n12 0),.list aZ 45 r11.1)),(4,some (v8,.box 43 [.rd z0x r9.1.toUInt32,.val (n12 0),.rd z1p r15.1,.rd z07 s25.2,.rd z09 ({ { (⟨0,0⟩:z0b) with E:=r32.1.toUInt32 } with S:=r34.1.toUInt32 })]))] aa ww) ?_ (fun s36=>?_)
    ·refine z20<|Zm Z<|Zq (zef 2 Z Z fH)<|Zq (faB 2 Z Z Tryz.underlying198 Z (by exact ti4))<|Zq (ld 2 Z Z (fP (z5m _)) ty4 Z)<|Zm Z<|z19 107 Z (fun h37=>?_) (fun h37=>?_)
     ·refine lKn 106 Z h37<|Zk Z<|Zk Z<|Zk Z<|Zk Z<|Zk Z<|Zk Z<|Zq (pkT Z Z)<|Zm Z<|Zk Z<|Zk Z<|Zk Z<|Zq (pkT Z Z)<|z1g<|z2q (fun aa ww h=>Zu h [1,5,4])
     ·refine lKn 106 Z h37<|z0w Zx Z Z (mv Z)<|z0w Zx Z Z (zef 2 Z Z fH)<|z0w Zx Z Z (faB 2 Z Z Tryz.underlying198 Z (by exact zcr))<|z0w Zx Z Z (ld 2 Z Z (fP (z4a _)) zpk Z)<|z0w Zx Z Z (z2v Z .rd Z tu52)<|z0w Zx Z Z (I.gtr Z Z)<|Zq (pkF Z Z)<|Zm Z<|z19 115 Z (fun h38=>?_) (fun h38=>?_)
      ·refine lKn 113 Z h38<|lKn 114 Z h38<|Zk Z<|Zk Z<|Zk Z<|Zq (pkT Z Z)<|z1g<|z2q (fun aa ww h=>Zu h [1,5,4])
      ·refine lKn 113 Z h38<|lKn 114 Z h38<|z0w Zx Z Z (ldA 4 Z Z (z02.cast (z02.cons z00 (z02.cons z0c (z02.cons z00 (z02.cons z00 (z02.cons z00 z02.nil))))) Z) (z0i.cons z06 (z0i.cons z1d (z0i.cons z06 (z0i.cons z06 (z0i.cons z06 z0i.nil))))) z8y Z)<|zxo [5] [] Zx Z Tryz.func106 Z Z (zg5 _) (aBs (R:=z05) (x:=(⟨r9.1.toUInt32,r11.1,r15.1,s25.2,{ { (⟨0,0⟩:z0b) with E:=r32.1.toUInt32 } with S:=r34.1.toUInt32 }⟩:z03)) Z (Sp.via (Sp.prod (Sp.prod (Sp.prod (Sp.prod (Sp.prod Sp.unit)))))) (pBe (pBo 5 Z Z (pBe (pBe (pBe pB0)))))<|aB0) (fun _ _=>(flC z3g fl0)) (fun _ _=>cf0) fun r39 n40=>z0w Zx Z Z (I.neq Z Z)<|Zq (pkF Z Z)<|z1g<|z2q (fun aa ww h=>Zu h [1,5,4])
    ·refine gIf Z Z (fun h41=>?_) (fun h41=>?_)
     ·refine gSR<|Zm Z<|zps [] [(100,8)] (gd0 Z) Z Z Tryz.func154 Z Z (zgf) (aN) (cN) rN fun r42 n43=>Zq (ext Z Z)<|Zq (ext Z Z)<|Es (zqo 1 Z Z (z02.cast (z02.cons z00 (z02.cons z0c (z02.cons z00 (z02.cons z00 (z02.cons z00 z02.nil))))) Z) Z (z0i.cons z06 (z0i.cons z1d (z0i.cons z06 (z0i.cons z06 (z0i.cons z06 z0i.nil))))) (z02.cast (z02.cons z00 (z02.cons z0c (z02.cons z00 (z02.cons z00 (z02.cons z00 z02.nil))))) Z) z6w)<|Zb Z<|z0o<|z0q<|zxy 1 Z<|zb3 [(n43 0)] [8] Z (eCA 1 Z Z (z02.cast (z02.cons z00 (z02.cons z0c (z02.cons z00 (z02.cons z00 (z02.cons z00 z02.nil))))) Z) (z0i.cons z06 (z0i.cons z1d (z0i.cons z06 (z0i.cons z06 (z0i.cons z06 z0i.nil))))) z8y<|eE Z<|eN) (y1 Z)
     ·refine Zt<|gSR<|Zq (ldA 4 Z Z (z02.cast (z02.cons z00 (z02.cons z0c (z02.cons z00 (z02.cons z00 (z02.cons z00 z02.nil))))) Z) (z0i.cons z06 (z0i.cons z1d (z0i.cons z06 (z0i.cons z06 (z0i.cons z06 z0i.nil))))) z8y Z)<|Es (zqo 1 Z Z (z02.cast (z02.cons z00 (z02.cons z0c (z02.cons z00 (z02.cons z00 (z02.cons z00 z02.nil))))) Z) Z (z0i.cons z06 (z0i.cons z1d (z0i.cons z06 (z0i.cons z06 (z0i.cons z06 z0i.nil))))) (z02.cast (z02.cons z00 (z02.cons z0c (z02.cons z00 (z02.cons z00 (z02.cons z00 z02.nil))))) Z) z6w)<|Zb Z<|z0o<|zxy 1 Z<|zb3 [(n12 0)] [5] Z (eCA 1 Z Z (z02.cast (z02.cons z00 (z02.cons z0c (z02.cons z00 (z02.cons z00 (z02.cons z00 z02.nil))))) Z) (z0i.cons z06 (z0i.cons z1d (z0i.cons z06 (z0i.cons z06 (z0i.cons z06 z0i.nil))))) z8y<|eE Z<|eN) (y1 Z)
def z7h (c0_0:z0e):Option (V3 × z0e) :=
 if decide ((c0_0.b.length:Int)<32) then
  some ((Vector.replicate 32 0),{ c0_0 with bad:=true })
 else
  cut c0_0.b ((min c0_0.b.length 32:Nat):Int) (c0_0.b.length:Int) >>= fun x4 =>
  some (zg4 (Vector.replicate 32 0) c0_0.b,{ c0_0 with b:=x4 })
def z0y (a1:List V3) (r14:Int × z0e) (s16:z0e × (List V3) × Int):Option (Sum ((List V3) × z0e) (z0e × (List V3) × Int)) :=
 if decide (s16.2.2<r14.1) then
  z2y s16.1 (a1.length:Int) >>= fun r19 =>
  if decide (0<r19.1) then
   idx a1 (w64 ((a1.length:Int) - r19.1)) >>= fun x22 =>
   app 32 s16.2.1 [x22] >>= fun x25 =>
   some (.inr (r19.2,x25,w64 (s16.2.2+1)))
  else
   if !r19.2.bad then
    z7h r19.2 >>= fun r33 =>
    app 32 s16.2.1 [r33.1] >>= fun x36 =>
    some (.inr (r33.2,x36,w64 (s16.2.2+1)))
   else
    some (.inr (r19.2,s16.2.1,w64 (s16.2.2+1)))
 else
  some (.inl (s16.2.1,s16.1))
def z1r (c0_0:z0e) (a1:List V3):Option (z03 × z0e) :=
 z49 c0_0.b 400 >>= fun r2 =>
 if r2.2.2 != 0 then
  some ((⟨0,[],0,(⟨0,[],(⟨0,0,0,[]⟩:z01)⟩:z0a),(⟨0,0⟩:z0b)⟩:z03),{ c0_0 with bad:=true })
 else
  cut c0_0.b r2.2.1 (c0_0.b.length:Int) >>= fun x5 =>
  zck r2.1 >>= fun r7 =>
  (if r7.2 != 0 then
   some true
  else
   some (decide (0<(r7.1.Preds.length:Int)))) >>= fun s10 =>
  if s10 then
   some ((⟨0,[],0,(⟨0,[],(⟨0,0,0,[]⟩:z01)⟩:z0a),(⟨0,0⟩:z0b)⟩:z03),{ { c0_0 with b:=x5 } with bad:=true })
  else
   (z2y ({ c0_0 with b:=x5 }) 4 >>= fun r14 =>
   iter (z0y a1 r14) (r14.2,r7.1.Preds,0)) >>= fun s13 =>
   some ((⟨r7.1.Author,s13.1,r7.1.Stamp,r7.1.Act,r7.1.Sig⟩:z03),s13.2)
def z42 (r10:Int × z0e) (s12:z0e × (List z03) × (List V3) × Int):Option (Sum (Sum ((List z03) × Int) (z0e × (List z03))) (z0e × (List z03) × (List V3) × Int)) :=
 if decide (s12.2.2.2<r10.1) then
  z1r s12.1 s12.2.2.1 >>= fun r15 =>
  zs2 r15.1 >>= fun r18 =>
  if r15.2.bad then
   some (.inl (.inl ([],12)))
  else
   if r18.2 != 0 then
    some (.inl (.inl ([],12)))
   else
    app 112 s12.2.1 [r15.1] >>= fun x23 =>
    app 32 s12.2.2.1 [r18.1] >>= fun x25 =>
    some (.inr (r15.2,x23,x25,w64 (s12.2.2.2+1)))
 else
  some (.inl (.inr (s12.1,s12.2.1)))
def z9f (a0:List UInt8):Option ((List z03) × Int) :=
 if decide (30000<(a0.length:Int)) then
  some ([],4)
 else
  if (a0.length:Int)==0 then
   some ([],12)
  else
   idx a0 0 >>= fun x3 =>
   if x3 != 112 then
    some ([],12)
   else
    cut a0 1 (a0.length:Int) >>= fun x6 =>
    z5o (z2y (⟨x6,false⟩:z0e) 60 >>= fun r10 =>
    iter (z42 r10) (r10.2,[],[],0)) fun s9 =>
    zb9 s9.2 >>= fun r29 =>
    (if s9.1.bad then
     some true
    else
     if r29.2 != 0 then
      some true
     else
      zdw r29.1 a0 >>= fun r34 =>
      some (!r34)) >>= fun s31 =>
    if s31 then
     some ([],12)
    else
     some (s9.2,0)
def z9x (a0:List UInt8) (a1:List UInt8):Option (Bool) :=
 if decide ((a1.length:Int)≤(a0.length:Int)) then
  cut a0 0 (a1.length:Int) >>= fun x2 =>
  z3e x2 a1 >>= fun r4 =>
  some r4
 else
  some false
end
section
open Go Go.RowKit
set_option maxRecDepth 100000
theorem zid (a0:List UInt8) (a1:List UInt8):z2b Tryz.prog 161 [.rd (z04 u8R) a0,.rd (z04 u8R) a1] [] (z9x a0 a1) (fun r nv=>⟨[.rd z0l r],[]⟩):=by
 refine z2n 18 Tryz.func161 Z Z Z fun H w=>?_;refine gSR<|Zb Z<|gSR<|Zm Z<|Zq (z2v Z .rd Z tu52)<|Zm Z<|Zq (z2v Z .rd Z tu52)<|Zq (I.geq Z Z)<|Zm Z<|z19 10 Z (fun h1=>?_) (fun h1=>?_)
 ·refine lKn 9 Z h1<|z0w Zx Z Z (mv Z)<|z0w Zx Z Z (mv Z)<|z0w Zx Z Z (z2v Z .rd Z tu52)<|z0m fun x2 h3=>z0w Zx Z Z (zll Z .no (.to Z) h3 tu52 ti5)<|z0w Zx Z Z (mv Z)<|zcs [] [] Zx Z Tryz.func26 Z Z (zc5 _ _) (Y2 Z Z) rN fun r4 n5=>Zq (pkT Z Z)<|Zb Z<|z0o<|Ze [] [] Z
 ·refine lKn 9 Z h1<|Zk Z<|Zk Z<|Zk Z<|Zk Z<|Zk Z<|Zk Z<|Zq (pkF Z Z)<|Zb Z<|z0o<|Ze [] [] Z
def z3l (a0:List UInt8) (y6:Int) (s7:UInt64 × Int):Option (Sum UInt64 (UInt64 × Int)) :=
 if decide (s7.2≤y6) then
  if decide (s7.2<(a0.length:Int)) then
   idx a0 s7.2 >>= fun x10 =>
   some ((256 * s7.1)+x10.toUInt64) >>= fun y12 =>
   some (w64 (s7.2+1)) >>= fun y13 =>
   some (.inr (y12,y13))
  else
   some (.inl s7.1)
 else
  some (.inl s7.1)
def z2j (a0:List UInt8):Option (UInt64 × Int × Int) :=
 if (a0.length:Int)==0 then
  some (0,0,12)
 else
  idx a0 0 >>= fun x2 =>
  (if decide (247<x2.toUInt64) then
   some (w64 ((w64 (x2.toUInt64.toNat:Int)) - 247)) >>= fun y6 =>
   iter (z3l a0 y6) (0,1)
  else
   some x2.toUInt64) >>= fun s4 =>
  z1u s4 >>= fun r14 =>
  z9x a0 r14 >>= fun r16 =>
  if !r16 then
   some (0,0,12)
  else
   some (r14.length:Int) >>= fun y19 =>
   some (s4,y19,0)
theorem z3j (a0:List UInt8):z2b Tryz.prog 116 [.rd (z04 u8R) a0] [] (z2j a0) (fun r nv=>⟨[.rd z1p r.1,.rd z0k r.2.1,.rd z0k r.2.2],[]⟩):=by
 refine z2n 49 Tryz.func116 Z Z Z fun H w=>?_;refine gSR<|Za Z<|Za Z<|Zb Z<|z0v<|gSR<|Zm Z<|Zq (z2v Z .rd Z tu52)<|Zq (I.eql Z Z)<|Zj Z (fun h1=>?_) (fun h1=>?_)
 ·refine gSR<|Za Z<|Za Z<|Zb Z<|z0o<|z0q<|Ze [] [] Z
 ·refine Zt<|gSR<|Zm Z<|z0m fun x2 h3=>Zq (ixR Z Z h3 tu52 ti5 Z)<|Zq (ldR Z ty5)<|Zq (B.toU Z tu5 tu35)<|Zb Z<|z68 (fun (s4:UInt64) aa ww=>Sta (ctx 49 H [] w) [(0,.rd (z04 u8R) a0),(5,.rd z1p s4)] [] aa ww) ?_ (fun s4=>?_)
  ·refine gSR<|Zm Z<|Zq (U.gtr Z Z)<|Zj Z (fun h5=>?_) (fun h5=>?_)
   ·refine gSR<|Zm Z<|Zq (U.toI Z tu35 tu3)<|Zq (I.sub Z Z)<|Za Z<|z1o 6 Z fun y6=>Zn<|gSR<|Zb Z<|gSR<|Zb Z<|z2a (fun (s7:UInt64 × Int) aa ww=>Sta (ctx 49 H [] w) [(0,.rd (z04 u8R) a0),(5,.rd z1p s7.1),(6,.rd z0k y6),(7,.rd z0k s7.2)] [] aa ww) (fun aa ww h=>Zu h []) (fun s7=>?_);refine z0v<|gSR<|Zm Z<|Zm Z<|Zq (I.leq Z Z)<|Zm Z<|z19 24 Z (fun h8=>?_) (fun h8=>?_)
    ·refine lKn 23 Z h8<|z0w Zx Z Z (mv Z)<|z0w Zx Z Z (mv Z)<|z0w Zx Z Z (z2v Z .rd Z tu52)<|z0w Zx Z Z (I.lss Z Z)<|Zq (pkT Z Z)<|Zj Z (fun h9=>?_) (fun h9=>?_)
     ·refine gKn 28 Z h9<|Zt<|z0v<|z5b<|z20<|Zm Z<|Zq (U.mul Z Z)<|Zm Z<|Zm Z<|z0m fun x10 h11=>Zq (ixR Z Z h11 tu52 ti5 Z)<|Zq (ldR Z ty5)<|Zq (B.toU Z tu5 tu35)<|Zq (U.add Z Z)<|Za Z<|z1o 5 Z fun y12=>z1g<|z3f<|z0z<|z20<|Zm Z<|Zq (I.add Z Z)<|Za Z<|z1o 7 Z fun y13=>z1g<|z1q (fun aa ww h=>Zu h [])
     ·refine gKn 28 Z h9<|z21<|z15<|z17<|z2q (fun aa ww h=>Zu h [])
    ·refine lKn 23 Z h8<|Zk Z<|Zk Z<|Zk Z<|Zk Z<|Zq (pkF Z Z)<|Zn<|zbu Z<|z21<|z15<|z17<|z2q (fun aa ww h=>Zu h [])
   ·refine z31<|z2q (fun aa ww h=>Zu h [])
  ·refine gSR<|Zm Z<|Zc [] [(100,1)] Tryz.func104 Z (z1x _) fun r14 n15=>Zb Z<|z0v<|gSR<|Zm Z<|Zm Z<|zf4 1 [41,8,43] Z (fS Z<|fS Z<|fS Z<|fN)<|Zc [] [] Tryz.func161 Z (zid _ _) fun r16 n17=>Zq (zex Z)<|Zj Z (fun h18=>?_) (fun h18=>?_)
   ·refine gSR<|Za Z<|Za Z<|Zb Z<|z0o<|z0q<|Ze [] [] Z
   ·refine Zt<|gSR<|Zm Z<|Zm Z<|Zq (z2v Z .rd Z tu52)<|Za Z<|Za Z<|z1o 3 Z fun y19=>Zb Z<|z0o<|Ze [] [] Z
def z4i (a0:List UInt8) (a1:Int):Option ((List UInt8) × Int × Int) :=
 if decide (a1<0) then
  some ([],0,2)
 else
  z2j a0 >>= fun r2 =>
  (if r2.2.2 != 0 then
   some true
  else
   if decide ((UInt64.ofInt a1)<r2.1) then
    some true
   else
    some (decide ((UInt64.ofInt (w64 ((a0.length:Int) - r2.2.1)))<r2.1))) >>= fun s4 =>
  if s4 then
   some ([],0,12)
  else
   some (w64 (r2.2.1+(w64 (r2.1.toNat:Int)))) >>= fun y8 =>
   cut a0 r2.2.1 y8 >>= fun x10 =>
   app 1 ([]:List UInt8) x10 >>= fun x12 =>
   some (x12,y8,0)
theorem z8d (a0:List UInt8) (a1:Int):z2b Tryz.prog 117 [.rd (z04 u8R) a0,.rd z0k a1] [] (z4i a0 a1) (fun r nv=>⟨[.val (nv 0),.rd z0k r.2.1,.rd z0k r.2.2],[(100,some (nv 0,.list u8R 5 r.1))]⟩):=by
 refine z2n 47 Tryz.func117 Z Z Z fun H w=>?_;refine gSR<|Za Z<|Za Z<|Zb Z<|z0v<|gSR<|Zm Z<|Zq (I.lss Z Z)<|Zj Z (fun h1=>?_) (fun h1=>?_)
 ·refine gSR<|Za Z<|Za Z<|Zb Z<|z0o<|z0q<|zgb u8R 5 1<|Ze [(.slice none 0 0)] [1] Z
 ·refine Zt<|gSR<|Zm Z<|Zc [] [] Tryz.func116 Z (z3j _) fun r2 n3=>Zm Z<|Zq (ext Z Z)<|Zq (ext Z Z)<|Zq (ext Z Z)<|Za Z<|Za Z<|Zb Z<|z0v<|z68 (fun (s4:Bool) aa ww=>Sta (ctx 47 H [] w) [(0,.rd (z04 u8R) a0),(7,.rd z1p r2.1),(8,.rd z0k r2.2.1),(35,.rd z0l s4)] [] aa ww) ?_ (fun s4=>?_)
  ·refine z20<|Zm Z<|Zq (I.neq Z Z)<|Zm Z<|z19 21 Z (fun h5=>?_) (fun h5=>?_)
   ·refine lKn 20 Z h5<|Zk Z<|Zk Z<|Zk Z<|Zk Z<|Zq (pkT Z Z)<|Zm Z<|Zk Z<|Zk Z<|Zk Z<|Zk Z<|Zk Z<|Zk Z<|Zk Z<|Zq (pkT Z Z)<|z1g<|z2q (fun aa ww h=>Zu h [])
   ·refine lKn 20 Z h5<|z0w Zx Z Z (mv Z)<|z0w Zx Z Z (mv Z)<|z0w Zx Z Z (I.toU Z tu3 tu35)<|z0w Zx Z Z (U.gtr Z Z)<|Zq (pkF Z Z)<|Zm Z<|z19 27 Z (fun h6=>?_) (fun h6=>?_)
    ·refine lKn 25 Z h6<|lKn 26 Z h6<|Zk Z<|Zk Z<|Zk Z<|Zk Z<|Zk Z<|Zk Z<|Zk Z<|Zq (pkT Z Z)<|z1g<|z2q (fun aa ww h=>Zu h [])
    ·refine lKn 25 Z h6<|lKn 26 Z h6<|z0w Zx Z Z (mv Z)<|z0w Zx Z Z (mv Z)<|z0w Zx Z Z (z2v Z .rd Z tu52)<|z0w Zx Z Z (mv Z)<|z0w Zx Z Z (I.sub Z Z)<|z0w Zx Z Z (I.toU Z tu3 tu35)<|z0w Zx Z Z (U.gtr Z Z)<|Zq (pkF Z Z)<|z1g<|z2q (fun aa ww h=>Zu h [])
  ·refine gIf Z Z (fun h7=>?_) (fun h7=>?_)
   ·refine gSR<|Za Z<|Za Z<|Zb Z<|z0o<|z0q<|zgb u8R 5 2<|Ze [(.slice none 0 0)] [2] Z
   ·refine Zt<|gSR<|Zm Z<|Zm Z<|Zq (U.toI Z tu35 tu3)<|Zq (I.add Z Z)<|Za Z<|z1o 10 Z fun y8=>Zn<|gSR<|Ef Z (lit (R:=u8R) (([]:List UInt8):List UInt8) 3 (pN) Z tu52 ti5 Z Z) fun v9=>Zm Z<|Zm Z<|Zm Z<|z0m fun x10 h11=>Zq (zll Z (.to Z) (.to Z) h11 tu52 ti5)<|z0m fun x12 h13=>Ef Z (apn 3 Z Z Z .rd h13 tu52 ti5 Z Z Z) fun v14=>Zm Z<|Za Z<|Za Z<|Zb Z<|z0o<|Ze [v14] [3] Z
def z72 (a0:List UInt8):Option (UInt32 × (List UInt8) × Bool) :=
 z2j a0 >>= fun r1 =>
 (if r1.2.2 != 0 then
  some true
 else
  some (decide (4294967295<r1.1))) >>= fun s3 =>
 if s3 then
  some (0,[],false)
 else
  cut a0 r1.2.1 (a0.length:Int) >>= fun x6 =>
  some (r1.1.toUInt32,x6,true)
def z5g (a0:List UInt8) (r2:UInt64 × Int × Int) (s9:(List V3) × Int) (s14:V3 × Int):Option (Sum (V3) (V3 × Int)) :=
 if decide (s14.2<32) then
  idx a0 (w64 ((w64 (r2.2.1+(w64 (32 * s9.2))))+s14.2)) >>= fun x16 =>
  z7z s14.1 s14.2 >>= fun x18 =>
  some (w64 (s14.2+1)) >>= fun y20 =>
  some (.inr (zi0 s14.1 s14.2 x16,y20))
 else
  some (.inl s14.1)
def z5c (a0:List UInt8) (r2:UInt64 × Int × Int) (s9:(List V3) × Int):Option (Sum ((List V3)) ((List V3) × Int)) :=
 if decide (s9.2<(w64 (r2.1.toNat:Int))) then
  (iter (z5g a0 r2 s9) ((Vector.replicate 32 0),0)) >>= fun s13 =>
  app 32 s9.1 [s13] >>= fun x22 =>
  some (w64 (s9.2+1)) >>= fun y25 =>
  some (.inr (x22,y25))
 else
  some (.inl s9.1)
def z90 (a0:List UInt8) (a1:Int):Option ((List V3) × Int × Int) :=
 if decide (a1<0) then
  some ([],0,2)
 else
  z2j a0 >>= fun r2 =>
  (if r2.2.2 != 0 then
   some true
  else
   if decide ((UInt64.ofInt a1)<r2.1) then
    some true
   else
    some (decide (((UInt64.ofInt (w64 ((a0.length:Int) - r2.2.1))) / 32)<r2.1))) >>= fun s4 =>
  if s4 then
   some ([],0,12)
  else
   (iter (z5c a0 r2) ([],0)) >>= fun s8 =>
   z62 s8 >>= fun r27 =>
   if !r27 then
    some ([],0,12)
   else
    some (w64 (r2.2.1+(w64 (32 * (w64 (r2.1.toNat:Int)))))) >>= fun y30 =>
    some (s8,y30,0)
def z7e (a0:List UInt8):Option (Int × Int × Int) :=
 z2j a0 >>= fun r1 =>
 if r1.2.2 != 0 then
  some (0,0,r1.2.2)
 else
  if (r1.1 % 2)==0 then
   some (w64 ((r1.1 / 2).toNat:Int)) >>= fun y5 =>
   some (y5,r1.2.1,0)
  else
   some (w64 ((w64 (0 - (w64 ((r1.1 / 2).toNat:Int)))) - 1)) >>= fun y6 =>
   some (y6,r1.2.1,0)
theorem zf7 (a0:List UInt8):z2b Tryz.prog 226 [.rd (z04 u8R) a0] [] (z7e a0) (fun r nv=>⟨[.rd z0k r.1,.rd z0k r.2.1,.rd z0k r.2.2],[]⟩):=by
 refine z2n 30 Tryz.func226 Z Z Z fun H w=>?_;refine gSR<|Za Z<|Za Z<|Zb Z<|gSR<|Zm Z<|Zc [] [] Tryz.func116 Z (z3j _) fun r1 n2=>Zm Z<|Zq (ext Z Z)<|Zq (ext Z Z)<|Zq (ext Z Z)<|Za Z<|Za Z<|Zb Z<|z0v<|gSR<|Zm Z<|Zq (I.neq Z Z)<|Zj Z (fun h3=>?_) (fun h3=>?_)
 ·refine gSR<|Zm Z<|Za Z<|Za Z<|Zb Z<|z0o<|z0q<|Ze [] [] Z
 ·refine Zt<|z0v<|gSR<|Zm Z<|Zq (U.rem Z Z (by decide))<|Zq (U.eql Z Z)<|Zj Z (fun h4=>?_) (fun h4=>?_)
  ·refine gSR<|Zm Z<|Zq (U.quo Z Z (by decide))<|Zq (U.toI Z tu35 Tryz.underlying2)<|Zm Z<|Za Z<|z1o 2 Z fun y5=>Za Z<|Zb Z<|z0o<|z0q<|Ze [] [] Z
  ·refine Zt<|gSR<|Zm Z<|Zq (U.quo Z Z (by decide))<|Zq (U.toI Z tu35 Tryz.underlying2)<|Zq (I.neg Z)<|Zq (I.sub Z Z)<|Zm Z<|Za Z<|z1o 2 Z fun y6=>Za Z<|Zb Z<|z0o<|Ze [] [] Z
def z5x (a0:List UInt8) (s16:z01 × Int):Option (Sum z01 (z01 × Int)) :=
 if decide (s16.2≤8) then
  if decide (s16.2<(a0.length:Int)) then
   idx a0 s16.2 >>= fun x19 =>
   some (w64 (s16.2+1)) >>= fun y21 =>
   some (.inr ({ s16.1 with Bits:=(256 * s16.1.Bits)+x19.toUInt64 },y21))
  else
   some (.inl s16.1)
 else
  some (.inl s16.1)
def z9s (a0:List UInt8):Option (z01 × Int × Int) :=
 if (a0.length:Int)==0 then
  some ((⟨0,0,0,[]⟩:z01),0,12)
 else
  idx a0 0 >>= fun x3 =>
  (some (((⟨x3,0,0,[]⟩:z01).Kind)==1) >>= fun y7 =>
  if y7 then
   cut a0 1 (a0.length:Int) >>= fun x9 =>
   z7e x9 >>= fun r11 =>
   some ({ (⟨x3,0,0,[]⟩:z01) with Num:=r11.1 },r11.2.1,r11.2.2)
  else
   some (((⟨x3,0,0,[]⟩:z01).Kind)==2) >>= fun y13 =>
   if y13 then
    (iter (z5x a0) ((⟨x3,0,0,[]⟩:z01),1)) >>= fun s15 =>
    some (s15,8,0)
   else
    some (((⟨x3,0,0,[]⟩:z01).Kind)==3) >>= fun y22 =>
    if y22 then
     cut a0 1 (a0.length:Int) >>= fun x24 =>
     z4i x24 30 >>= fun r26 =>
     some ({ (⟨x3,0,0,[]⟩:z01) with Text:=r26.1 },r26.2.1,r26.2.2)
    else
     some ((⟨x3,0,0,[]⟩:z01),0,0)) >>= fun s6 =>
  (if s6.2.2 != 0 then
   some true
  else
   if decide ((a0.length:Int)<(w64 (s6.2.1+1))) then
    some true
   else
    z5p s6.1 >>= fun r31 =>
    some (r31 != 0)) >>= fun s28 =>
  if s28 then
   some ((⟨0,0,0,[]⟩:z01),0,12)
  else
   some (w64 (s6.2.1+1)) >>= fun y34 =>
   some (s6.1,y34,0)
theorem zhx (a0:List UInt8):z2b Tryz.prog 200 [.rd (z04 u8R) a0] [] (z9s a0) (fun r nv=>⟨[.rd z0r r.1,.rd z0k r.2.1,.rd z0k r.2.2],[]⟩):=by
 refine z2n 82 Tryz.func200 Z Z Z fun H w=>?_;refine gSR<|Eb Z (zad 1 zcl (.zr (R:=z0r) (x:=(⟨0,0,0,[]⟩:z01)) zlw)) fun v1=>Za Z<|Zb Z<|z0v<|gSR<|Zm Z<|Zq (z2v Z .rd Z tu52)<|Zq (I.eql Z Z)<|Zj Z (fun h2=>?_) (fun h2=>?_)
 ·refine gSR<|Zq (bld (x':=(⟨0,0,0,[]⟩:z01)) [(0,1),(1,1),(2,1),(3,1)] Tryz.underlying37 zcl Z zlw Z (Bld.done Z))<|Es (sto 1 Z Z fH Z zcl)<|Za Z<|Zb Z<|z0o<|z0q<|zb3 [] [] Z (eC 1 Z Z zki<|eE Z<|eE Z<|eN) (rN)
 ·refine Zt<|gSR<|Zm Z<|z0m fun x3 h4=>Zq (ixR Z Z h4 tu52 ti5 Z)<|Zq (ldR Z ty5)<|Zq (bld (x':=(⟨x3,0,0,[]⟩:z01)) [(0,1),(1,1),(2,1),(3,1)] Tryz.underlying37 zcl Z zlw Z (Bld.cons (z23 _) Z Z<|Bld.done Z))<|Eb Z (zad 2 zcl (.zr (R:=z0r) (x:=(⟨0,0,0,[]⟩:z01)) zlw)) fun v5=>Es (sto 2 Z Z fH Z zcl)<|Zn<|gSR<|Za Z<|Zb Z<|z68 (fun (s6:z01 × Int × Int) aa ww=>Sta (ctx 82 H [] w) [(0,.rd (z04 u8R) a0),(2,.val (z0j v1 0)),(5,.val (z0j v5 0)),(6,.rd z0k s6.2.1),(7,.rd z0k s6.2.2)] [(1,some (v1,.box 37 [.rd z0r (⟨0,0,0,[]⟩:z01)])),(2,some (v5,.box 37 [.rd z0r s6.1]))] aa ww) ?_ (fun s6=>?_)
  ·refine gSR<|Zq (faB 2 Z Z Tryz.underlying37 Z (by exact ti5))<|Zq (ld 2 Z Z (fP (z23 _)) ty5 Z)<|Zn<|z5b<|gSR<|Zq (B.eql Z Z)<|Za Z<|z1o 20 Z fun y7=>Zj Z (fun h8=>?_) (fun h8=>?_)
   ·refine z20<|Zm Z<|z0m fun x9 h10=>Zq (zll Z (.to Z) .no h10 tu52 ti5)<|Zc [] [] Tryz.func226 Z (zf7 _) fun r11 n12=>Zm Z<|Zq (ext Z Z)<|Zq (ext Z Z)<|Zq (ext Z Z)<|Zq (faB 2 Z Z Tryz.underlying37 Z (by exact ti2))<|Es (sto 2 Z Z (fP (z4n _)) Z ti2)<|Za Z<|Za Z<|z1g<|z3f<|z2q (fun aa ww h=>Zu h [1,2])
   ·refine gSR<|Zq (B.eql Z Z)<|Za Z<|z1o 30 Z fun y13=>Zj Z (fun h14=>?_) (fun h14=>?_)
    ·refine z68 (fun (s15:z01) aa ww=>Sta (ctx 82 H [] w) [(0,.rd (z04 u8R) a0),(2,.val (z0j v1 0)),(5,.val (z0j v5 0)),(7,.rd z0k 0)] [(1,some (v1,.box 37 [.rd z0r (⟨0,0,0,[]⟩:z01)])),(2,some (v5,.box 37 [.rd z0r s15]))] aa ww) ?_ (fun s15=>?_)
     ·refine gSR<|Zb Z<|z2a (fun (s16:z01 × Int) aa ww=>Sta (ctx 82 H [] w) [(0,.rd (z04 u8R) a0),(2,.val (z0j v1 0)),(5,.val (z0j v5 0)),(7,.rd z0k 0),(8,.rd z0k s16.2)] [(1,some (v1,.box 37 [.rd z0r (⟨0,0,0,[]⟩:z01)])),(2,some (v5,.box 37 [.rd z0r s16.1]))] aa ww) (fun aa ww h=>Zu h [1,2]) (fun s16=>?_);refine z0v<|gSR<|Zm Z<|Zq (I.leq Z Z)<|Zm Z<|z19 34 Z (fun h17=>?_) (fun h17=>?_)
      ·refine lKn 33 Z h17<|z0w Zx Z Z (mv Z)<|z0w Zx Z Z (mv Z)<|z0w Zx Z Z (z2v Z .rd Z tu52)<|z0w Zx Z Z (I.lss Z Z)<|Zq (pkT Z Z)<|Zj Z (fun h18=>?_) (fun h18=>?_)
       ·refine gKn 38 Z h18<|Zt<|z0v<|z5b<|z8g [2] mixed Z Z<|hTk 0 Z Z (faB 2 Z Z Tryz.underlying37 Z (by exact zo8))<|hTk 3 Z Z (mv Z)<|hTk 4 Z Z (mv Z)<|z3s fun x19 h20=>hTk 5 Z Z (ixR Z Z h20 tu52 ti5 Z)<|hTk 6 Z Z (ldR Z ty5)<|hTk 7 Z Z (B.toU Z tu5 tu35)<|zxz 1 Z (by kernel_rfl) (gd0 Z) Z Z z3g (ld 2 Z Z (fP (z2i _)) ztl Z)<|hTk 2 Z Z (U.mul Z Z)<|hTk 8 Z Z (U.add Z Z)<|hTk 9 Z Z (faB 2 Z Z Tryz.underlying37 Z (by exact zo8))<|Zp 10 Z Z Z Z Z (sto 2 Z Z (fP (z2i _)) Z zo8)<|z4t (by kernel_rfl)<|z3f<|z0z<|z20<|Zm Z<|Zq (I.add Z Z)<|Za Z<|z1o 8 Z fun y21=>z1g<|z1q (fun aa ww h=>Zu h [1,2])
       ·refine gKn 38 Z h18<|z21<|z15<|z17<|z2q (fun aa ww h=>Zu h [1,2])
      ·refine lKn 33 Z h17<|Zk Z<|Zk Z<|Zk Z<|Zk Z<|Zq (pkF Z Z)<|Zn<|zbu Z<|z21<|z15<|z17<|z2q (fun aa ww h=>Zu h [1,2])
     ·refine z20<|Za Z<|z1g<|z3f<|z2q (fun aa ww h=>Zu h [1,2])
    ·refine gSR<|Zq (B.eql Z Z)<|Za Z<|z1o 52 Z fun y22=>Zj Z (fun h23=>?_) (fun h23=>?_)
     ·refine gSR<|Zb Z<|gSR<|Zm Z<|z0m fun x24 h25=>Zq (zll Z (.to Z) .no h25 tu52 ti5)<|Zc [] [(100,39)] Tryz.func117 Z (z8d _ _) fun r26 n27=>Zm Z<|Zq (ext Z Z)<|Zq (ext Z Z)<|Zq (ext Z Z)<|Za Z<|Za Z<|Zb Z<|z20<|Zm Z<|zf4 39 [9,58,61] Z (fS Z<|fS Z<|fS Z<|fN)<|Zq (cvBS Z tu52 tu5 tu9)<|Zq (faB 2 Z Z Tryz.underlying37 Z (by exact ti9))<|Es (sto 2 Z Z (fP (z2u _)) Z ti9)<|z1g<|z3f<|z2q (fun aa ww h=>Zu h [1,2])
     ·refine z31<|z3f<|z2q (fun aa ww h=>Zu h [1,2])
  ·refine z0v<|z68 (fun (s28:Bool) aa ww=>Sta (ctx 82 H [] w) [(2,.val (z0j v1 0)),(5,.val (z0j v5 0)),(6,.rd z0k s6.2.1),(77,.rd z0l s28)] [(1,some (v1,.box 37 [.rd z0r (⟨0,0,0,[]⟩:z01)])),(2,some (v5,.box 37 [.rd z0r s6.1]))] aa ww) ?_ (fun s28=>?_)
   ·refine z20<|Zm Z<|Zq (I.neq Z Z)<|Zm Z<|z19 66 Z (fun h29=>?_) (fun h29=>?_)
    ·refine lKn 65 Z h29<|Zk Z<|Zk Z<|Zk Z<|Zk Z<|Zk Z<|Zq (pkT Z Z)<|Zm Z<|Zk Z<|Zk Z<|Zk Z<|Zq (pkT Z Z)<|z1g<|z2q (fun aa ww h=>Zu h [1,2])
    ·refine lKn 65 Z h29<|z0w Zx Z Z (mv Z)<|z0w Zx Z Z (z2v Z .rd Z tu52)<|z0w Zx Z Z (mv Z)<|z0w Zx Z Z (I.add Z Z)<|z0w Zx Z Z (I.lss Z Z)<|Zq (pkF Z Z)<|Zm Z<|z19 73 Z (fun h30=>?_) (fun h30=>?_)
     ·refine lKn 71 Z h30<|lKn 72 Z h30<|Zk Z<|Zk Z<|Zk Z<|Zq (pkT Z Z)<|z1g<|z2q (fun aa ww h=>Zu h [1,2])
     ·refine lKn 71 Z h30<|lKn 72 Z h30<|z0w Zx Z Z (ld 2 Z Z fH zki Z)<|zcs [] [] Zx Z Tryz.func98 Z Z (zdv _) (Y1 Z) rN fun r31 n32=>z0w Zx Z Z (I.neq Z Z)<|Zq (pkF Z Z)<|z1g<|z2q (fun aa ww h=>Zu h [1,2])
   ·refine gIf Z Z (fun h33=>?_) (fun h33=>?_)
    ·refine gSR<|Zq (bld (x':=(⟨0,0,0,[]⟩:z01)) [(0,1),(1,1),(2,1),(3,1)] Tryz.underlying37 zcl Z zlw Z (Bld.done Z))<|Es (sto 1 Z Z fH Z zcl)<|Za Z<|Zb Z<|z0o<|z0q<|zb3 [] [] Z (eC 1 Z Z zki<|eE Z<|eE Z<|eN) (rN)
    ·refine Zt<|gSR<|Zq (ld 2 Z Z fH zki Z)<|Zm Z<|Zq (I.add Z Z)<|Es (sto 1 Z Z fH Z zcl)<|Za Z<|z1o 3 Z fun y34=>Zb Z<|z0o<|zb3 [] [] Z (eC 1 Z Z zki<|eE Z<|eE Z<|eN) (rN)
def zcp (a0:List UInt8):Option (z0a × (List UInt8) × Bool) :=
 if (a0.length:Int)==0 then
  some ((⟨0,[],(⟨0,0,0,[]⟩:z01)⟩:z0a),[],false)
 else
  idx a0 0 >>= fun x3 =>
  cut a0 1 (a0.length:Int) >>= fun x6 =>
  if ((⟨x3,[],(⟨0,0,0,[]⟩:z01)⟩:z0a).Kind)==1 then
   some ((⟨x3,[],(⟨0,0,0,[]⟩:z01)⟩:z0a),x6,true)
  else
   z4i x6 20 >>= fun r9 =>
   if r9.2.2 != 0 then
    some ((⟨x3,[],(⟨0,0,0,[]⟩:z01)⟩:z0a),[],false)
   else
    cut x6 r9.2.1 (x6.length:Int) >>= fun x12 =>
    if (({ (⟨x3,[],(⟨0,0,0,[]⟩:z01)⟩:z0a) with Key:=r9.1 }).Kind)==4 then
     z9s x12 >>= fun r15 =>
     if r15.2.2 != 0 then
      some ({ (⟨x3,[],(⟨0,0,0,[]⟩:z01)⟩:z0a) with Key:=r9.1 },[],false)
     else
      cut x12 r15.2.1 (x12.length:Int) >>= fun x19 =>
      some ({ { (⟨x3,[],(⟨0,0,0,[]⟩:z01)⟩:z0a) with Key:=r9.1 } with Value:=r15.1 },x19,true)
    else
     some ({ (⟨x3,[],(⟨0,0,0,[]⟩:z01)⟩:z0a) with Key:=r9.1 },x12,true)
def z7x (a0:List UInt8):Option (z03 × Int) :=
 (if (a0.length:Int)==0 then
  some true
 else
  idx a0 0 >>= fun x5 =>
  some (x5 != 111)) >>= fun s3 =>
 if s3 then
  some ((⟨0,[],0,(⟨0,[],(⟨0,0,0,[]⟩:z01)⟩:z0a),(⟨0,0⟩:z0b)⟩:z03),12)
 else
  cut a0 1 (a0.length:Int) >>= fun x8 =>
  z72 x8 >>= fun r10 =>
  if !r10.2.2 then
   some ((⟨0,[],0,(⟨0,[],(⟨0,0,0,[]⟩:z01)⟩:z0a),(⟨0,0⟩:z0b)⟩:z03),12)
  else
   z90 r10.2.1 4 >>= fun r13 =>
   if r13.2.2 != 0 then
    some ((⟨0,[],0,(⟨0,[],(⟨0,0,0,[]⟩:z01)⟩:z0a),(⟨0,0⟩:z0b)⟩:z03),12)
   else
    cut r10.2.1 r13.2.1 (r10.2.1.length:Int) >>= fun x16 =>
    z2j x16 >>= fun r18 =>
    if r18.2.2 != 0 then
     some ((⟨0,[],0,(⟨0,[],(⟨0,0,0,[]⟩:z01)⟩:z0a),(⟨0,0⟩:z0b)⟩:z03),12)
    else
     cut x16 r18.2.1 (x16.length:Int) >>= fun x21 =>
     zcp x21 >>= fun r23 =>
     if !r23.2.2 then
      some ((⟨0,[],0,(⟨0,[],(⟨0,0,0,[]⟩:z01)⟩:z0a),(⟨0,0⟩:z0b)⟩:z03),12)
     else
      z72 r23.2.1 >>= fun r27 =>
      if !r27.2.2 then
       some ((⟨0,[],0,(⟨0,[],(⟨0,0,0,[]⟩:z01)⟩:z0a),(⟨0,0⟩:z0b)⟩:z03),12)
      else
       z72 r27.2.1 >>= fun r30 =>
       (if !r30.2.2 then
        some true
       else
        if decide (0<(r30.2.1.length:Int)) then
         some true
        else
         z4p (⟨r10.1,r13.1,r18.1,r23.1,(⟨r27.1,r30.1⟩:z0b)⟩:z03) >>= fun r36 =>
         if r36 != 0 then
          some true
         else
          z71 (⟨r10.1,r13.1,r18.1,r23.1,(⟨r27.1,r30.1⟩:z0b)⟩:z03) >>= fun r39 =>
          z3e r39 a0 >>= fun r41 =>
          some (!r41)) >>= fun s33 =>
       if s33 then
        some ((⟨0,[],0,(⟨0,[],(⟨0,0,0,[]⟩:z01)⟩:z0a),(⟨0,0⟩:z0b)⟩:z03),12)
       else
        some ((⟨r10.1,r13.1,r18.1,r23.1,(⟨r27.1,r30.1⟩:z0b)⟩:z03),0)
def z3k (c0_0:z08) (a1:UInt64):Option (UInt64 × z08) :=
 z2j c0_0.b >>= fun r1 =>
 (if !c0_0.ok then
  some true
 else
  if r1.2.2 != 0 then
   some true
  else
   some (decide (a1<r1.1))) >>= fun s3 =>
 if s3 then
  some (0,{ c0_0 with ok:=false })
 else
  cut c0_0.b r1.2.1 (c0_0.b.length:Int) >>= fun x7 =>
  some (r1.1,{ c0_0 with b:=x7 })
theorem z6e (p0_0:Value) (c0_0:z08) (a1:UInt64):z2b Tryz.prog 68 [.val (z0j p0_0 0),.rd z1p a1] [(1,some (p0_0,.box 120 [.rd z1a c0_0]))] (z3k c0_0 a1) (fun r nv=>⟨[.rd z1p r.1],[(1,some (p0_0,.box 120 [.rd z1a r.2]))]⟩):=by
 refine z2n 44 Tryz.func68 Z Z Z fun H w=>?_;refine gSR<|Zb Z<|gSR<|Zm Z<|Zq (zef 1 Z Z fH)<|Zq (faB 1 Z Z Tryz.underlying120 Z (by exact zcr))<|Zq (ld 1 Z Z (fP (z1s _)) zpk Z)<|Zc [] [] Tryz.func116 Z (z3j _) fun r1 n2=>Zm Z<|Zq (ext Z Z)<|Zq (ext Z Z)<|Zq (ext Z Z)<|Za Z<|Za Z<|Zb Z<|z0v<|z68 (fun (s3:Bool) aa ww=>Sta (ctx 44 H [(1,some (p0_0,.box 120 [.rd z1a c0_0]))] w) [(0,.val (z0j p0_0 0)),(5,.rd z1p r1.1),(6,.rd z0k r1.2.1),(30,.rd z0l s3)] [(1,some (p0_0,.box 120 [.rd z1a c0_0]))] aa ww) ?_ (fun s3=>?_)
 ·refine z20<|Zm Z<|Zq (zef 1 Z Z fH)<|Zq (faB 1 Z Z Tryz.underlying120 Z (by exact ti4))<|Zq (ld 1 Z Z (fP (z1n _)) ty4 Z)<|Zq (zex Z)<|Zm Z<|z19 22 Z (fun h4=>?_) (fun h4=>?_)
  ·refine lKn 21 Z h4<|Zk Z<|Zk Z<|Zq (pkT Z Z)<|Zm Z<|Zk Z<|Zk Z<|Zk Z<|Zq (pkT Z Z)<|z1g<|z2q (fun aa ww h=>Zu h [1])
  ·refine lKn 21 Z h4<|z0w Zx Z Z (mv Z)<|z0w Zx Z Z (I.neq Z Z)<|Zq (pkF Z Z)<|Zm Z<|z19 26 Z (fun h5=>?_) (fun h5=>?_)
   ·refine lKn 24 Z h5<|lKn 25 Z h5<|Zk Z<|Zk Z<|Zk Z<|Zq (pkT Z Z)<|z1g<|z2q (fun aa ww h=>Zu h [1])
   ·refine lKn 24 Z h5<|lKn 25 Z h5<|z0w Zx Z Z (mv Z)<|z0w Zx Z Z (mv Z)<|z0w Zx Z Z (U.gtr Z Z)<|Zq (pkF Z Z)<|z1g<|z2q (fun aa ww h=>Zu h [1])
 ·refine gIf Z Z (fun h6=>?_) (fun h6=>?_)
  ·refine gSR<|Zm Z<|Zq (zef 1 Z Z fH)<|Zq (faB 1 Z Z Tryz.underlying120 Z (by exact ti4))<|Es (sto 1 Z Z (fP (z1n _)) Z ti4)<|Zn<|gSR<|Zb Z<|z0o<|z0q<|Ze [] [1] Z
  ·refine Zt<|gSR<|Zm Z<|Zm Z<|Zq (zef 1 Z Z fH)<|Zq (faB 1 Z Z Tryz.underlying120 Z (by exact zcr))<|Zq (ld 1 Z Z (fP (z1s _)) zpk Z)<|Zm Z<|z0m fun x7 h8=>Zq (zll Z (.to Z) .no h8 tu52 ti5)<|Zq (zef 1 Z Z fH)<|Zq (faB 1 Z Z Tryz.underlying120 Z (by exact zcr))<|Es (sto 1 Z Z (fP (z1s _)) Z zcr)<|Zn<|gSR<|Zm Z<|Zb Z<|z0o<|Ze [] [1] Z
theorem zeg (a0:List UInt8) (q0:Value) (l0:List UInt8) (a1:List UInt8):z2b Tryz.prog 26 [.vw u8R q0 l0 a0,.rd (z04 u8R) a1] [(1,some (q0,.list u8R 5 l0))] (z3e a0 a1) (fun r nv=>⟨[.rd z0l r],[(1,some (q0,.list u8R 5 l0))]⟩):=by
 refine z2n 26 Tryz.func26 Z Z Z fun H w=>?_;refine gSR<|Zb Z<|z0v<|gSR<|Zm Z<|Zq (z2v Z (.vw 1 Z) Z tu52)<|Zm Z<|Zq (z2v Z .rd Z tu52)<|Zq (I.neq Z Z)<|Zj Z (fun h1=>?_) (fun h1=>?_)
 ·refine gSR<|Zb Z<|z0o<|z0q<|Ze [] [1] Z
 ·refine Zt<|z7j (fun (s2:Unit) aa ww=>Sta (ctx 26 H [(1,some (q0,.list u8R 5 l0))] w) [] [(1,some (q0,.list u8R 5 l0))] aa ww) ?_ (fun s2=>?_)
  ·refine gSR<|Zb Z<|z2a (fun (s3:Int) aa ww=>Sta (ctx 26 H [(1,some (q0,.list u8R 5 l0))] w) [(0,.vw u8R q0 l0 a0),(1,.rd (z04 u8R) a1),(5,.rd z0k s3)] [(1,some (q0,.list u8R 5 l0))] aa ww) (fun aa ww h=>Zu h [1]) (fun s3=>?_);refine z0v<|gSR<|Zm Z<|Zm Z<|Zq (z2v Z (.vw 1 Z) Z tu52)<|Zq (I.lss Z Z)<|Zj Z (fun h4=>?_) (fun h4=>?_)
   ·refine Zt<|z0v<|z5b<|z0v<|zi5 mixed (by kernel_rfl)<|Rq Z (mv Z)<|Rq Z (mv Z)<|z80 fun x5 h6=>Rq Z (ixQ 1 Z Z Z h6 tu52 ti5)<|Rq Z (ldQ 1 Z Z ty5 Z)<|Rq Z (mv Z)<|Rq Z (mv Z)<|z80 fun x7 h8=>Rq Z (ixR Z Z h8 tu52 ti5 Z)<|Rq Z (ldR Z ty5)<|Rq Z (B.neq Z Z)<|ztj<|z0z<|gIf Z Z (fun h9=>?_) (fun h9=>?_)
    ·refine gSR<|Zb Z<|z0o<|z44<|z0q<|z6t<|z4g<|Ze [] [1] Z
    ·refine z31<|z3f<|z0z<|z20<|Zm Z<|Zq (I.add Z Z)<|Za Z<|z1g<|z1q (fun aa ww h=>Zu h [1])
   ·refine z21<|z15<|z17<|z5k (fun aa ww h=>Zu h [1])
  ·refine gSR<|Zb Z<|z0o<|Ze [] [1] Z
theorem z9m (a0:List UInt8):z2b Tryz.prog 162 [.rd (z04 u8R) a0] [] (z72 a0) (fun r nv=>⟨[.rd z0x r.1,.rd (z04 u8R) r.2.1,.rd z0l r.2.2],[]⟩):=by
 refine z2n 25 Tryz.func162 Z Z Z fun H w=>?_;refine gSR<|Za Z<|Za Z<|Zb Z<|gSR<|Zm Z<|Zc [] [] Tryz.func116 Z (z3j _) fun r1 n2=>Zm Z<|Zq (ext Z Z)<|Zq (ext Z Z)<|Zq (ext Z Z)<|Za Z<|Za Z<|Zb Z<|z0v<|z68 (fun (s3:Bool) aa ww=>Sta (ctx 25 H [] w) [(0,.rd (z04 u8R) a0),(5,.rd z1p r1.1),(6,.rd z0k r1.2.1),(19,.rd z0l s3)] [] aa ww) ?_ (fun s3=>?_)
 ·refine z20<|Zm Z<|Zq (I.neq Z Z)<|Zm Z<|z19 16 Z (fun h4=>?_) (fun h4=>?_)
  ·refine lKn 15 Z h4<|Zk Z<|Zk Z<|Zq (pkT Z Z)<|z1g<|z2q (fun aa ww h=>Zu h [])
  ·refine lKn 15 Z h4<|z0w Zx Z Z (mv Z)<|z0w Zx Z Z (U.gtr Z Z)<|Zq (pkF Z Z)<|z1g<|z2q (fun aa ww h=>Zu h [])
 ·refine gIf Z Z (fun h5=>?_) (fun h5=>?_)
  ·refine gSR<|Za Z<|Za Z<|Zb Z<|z0o<|z0q<|zc8 u8R 3 Z<|Ze [] [] Z
  ·refine Zt<|z0v<|zi5 mixed (by kernel_rfl)<|Rq Z (mv Z)<|Rq Z (U.toW Z tu35 tu34)<|Rq Z (mv Z)<|Rq Z (mv Z)<|z80 fun x6 h7=>Rq Z (zll Z (.to Z) .no h7 tu52 ti5)<|Rq Z (asg Z)<|Rq Z (asg Z)<|Rq Z (asg Z)<|ztj<|z0z<|z0o<|Ze [] [] Z
theorem zfm (a0:List UInt8) (a1:Int):z2b Tryz.prog 163 [.rd (z04 u8R) a0,.rd z0k a1] [] (z90 a0 a1) (fun r nv=>⟨[.val (nv 0),.rd z0k r.2.1,.rd z0k r.2.2],[(100,some (nv 0,.list aZ 45 r.1))]⟩):=by
 refine z2n 74 Tryz.func163 Z Z Z fun H w=>?_;refine gSR<|Za Z<|Za Z<|Zb Z<|z0v<|gSR<|Zm Z<|Zq (I.lss Z Z)<|Zj Z (fun h1=>?_) (fun h1=>?_)
 ·refine gSR<|Za Z<|Za Z<|Zb Z<|z0o<|z0q<|zgb aZ 45 1<|Ze [(.slice none 0 0)] [1] Z
 ·refine Zt<|gSR<|Zm Z<|Zc [] [] Tryz.func116 Z (z3j _) fun r2 n3=>Zm Z<|Zq (ext Z Z)<|Zq (ext Z Z)<|Zq (ext Z Z)<|Za Z<|Za Z<|Zb Z<|z0v<|z68 (fun (s4:Bool) aa ww=>Sta (ctx 74 H [] w) [(0,.rd (z04 u8R) a0),(7,.rd z1p r2.1),(8,.rd z0k r2.2.1),(39,.rd z0l s4)] [] aa ww) ?_ (fun s4=>?_)
  ·refine z20<|Zm Z<|Zq (I.neq Z Z)<|Zm Z<|z19 24 Z (fun h5=>?_) (fun h5=>?_)
   ·refine lKn 23 Z h5<|Zk Z<|Zk Z<|Zk Z<|Zk Z<|Zq (pkT Z Z)<|Zm Z<|Zk Z<|Zk Z<|Zk Z<|Zk Z<|Zk Z<|Zk Z<|Zk Z<|Zk Z<|Zq (pkT Z Z)<|z1g<|z2q (fun aa ww h=>Zu h [])
   ·refine lKn 23 Z h5<|z0w Zx Z Z (mv Z)<|z0w Zx Z Z (mv Z)<|z0w Zx Z Z (I.toU Z tu3 tu35)<|z0w Zx Z Z (U.gtr Z Z)<|Zq (pkF Z Z)<|Zm Z<|z19 30 Z (fun h6=>?_) (fun h6=>?_)
    ·refine lKn 28 Z h6<|lKn 29 Z h6<|Zk Z<|Zk Z<|Zk Z<|Zk Z<|Zk Z<|Zk Z<|Zk Z<|Zk Z<|Zq (pkT Z Z)<|z1g<|z2q (fun aa ww h=>Zu h [])
    ·refine lKn 28 Z h6<|lKn 29 Z h6<|z0w Zx Z Z (mv Z)<|z0w Zx Z Z (mv Z)<|z0w Zx Z Z (z2v Z .rd Z tu52)<|z0w Zx Z Z (mv Z)<|z0w Zx Z Z (I.sub Z Z)<|z0w Zx Z Z (I.toU Z tu3 tu35)<|z0w Zx Z Z (U.quo Z Z (by decide))<|z0w Zx Z Z (U.gtr Z Z)<|Zq (pkF Z Z)<|z1g<|z2q (fun aa ww h=>Zu h [])
  ·refine gIf Z Z (fun h7=>?_) (fun h7=>?_)
   ·refine gSR<|Za Z<|Za Z<|Zb Z<|z0o<|z0q<|zgb aZ 45 2<|Ze [(.slice none 0 0)] [2] Z
   ·refine Zt<|gSR<|Zb Z<|z68 (fun (s8:(List V3)) aa ww=>∃ nv:Nat→Value,Sta (ctx 74 H [] w) [(7,.rd z1p r2.1),(8,.rd z0k r2.2.1),(10,.val (nv 0))] [(5,some ((nv 0),.list aZ 45 s8))] aa ww) ?_ (fun s8=>?_)
    ·refine gSR<|Zb Z<|zqy aZ 45 9<|z2a (fun (s9:(List V3) × Int) aa ww=>∃ nv:Nat→Value,Sta (ctx 74 H [] w) [(0,.rd (z04 u8R) a0),(7,.rd z1p r2.1),(8,.rd z0k r2.2.1),(10,.val (nv 0)),(11,.rd z0k s9.2)] [(8,some ((nv 0),.list aZ 45 s9.1))] aa ww) (fun aa ww h=>⟨nvl [(.slice none 0 0)],Zu h [9]⟩) (fun s9=>?_);refine gEx fun n10=>z0v<|gSR<|Zm Z<|Zm Z<|Zq (U.toI Z tu35 tu3)<|Zq (I.lss Z Z)<|Zj Z (fun h11=>?_) (fun h11=>?_)
     ·refine Zt<|z0v<|z5b<|gSR<|Eb Z (zad 10 z40 (.zr (R:=aZ) (x:=(Vector.replicate 32 0)) zl9)) fun v12=>Zn<|z68 (fun (s13:V3) aa ww=>Sta (ctx 74 H [] w) [(0,.rd (z04 u8R) a0),(7,.rd z1p r2.1),(8,.rd z0k r2.2.1),(10,.val (n10 0)),(11,.rd z0k s9.2),(12,.val (z0j v12 0))] [(8,some ((n10 0),.list aZ 45 s9.1)),(10,some (v12,.box 45 [.rd aZ s13]))] aa ww) ?_ (fun s13=>?_)
      ·refine gSR<|Zb Z<|z2a (fun (s14:V3 × Int) aa ww=>Sta (ctx 74 H [] w) [(0,.rd (z04 u8R) a0),(7,.rd z1p r2.1),(8,.rd z0k r2.2.1),(10,.val (n10 0)),(11,.rd z0k s9.2),(12,.val (z0j v12 0)),(13,.rd z0k s14.2)] [(8,some ((n10 0),.list aZ 45 s9.1)),(10,some (v12,.box 45 [.rd aZ s14.1]))] aa ww) (fun aa ww h=>Zu h [8,10]) (fun s14=>?_);refine z0v<|gSR<|Zm Z<|Zq (I.lss Z Z)<|Zj Z (fun h15=>?_) (fun h15=>?_)
       ·refine Zt<|z0v<|z5b<|z20<|Zm Z<|Zm Z<|Zm Z<|Zm Z<|Zq (I.mul Z Z)<|Zq (I.add Z Z)<|Zm Z<|Zq (I.add Z Z)<|z0m fun x16 h17=>Zq (ixR Z Z h17 tu52 ti5 Z)<|Zq (ldR Z ty5)<|z0m fun x18 h19=>Zq (ixB 10 Z Z Z h19 tu45 ti5)<|Es (sto 10 Z Z (fP (.el h19)) Z ti5)<|z1g<|z3f<|z0z<|z20<|Zm Z<|Zq (I.add Z Z)<|Za Z<|z1o 13 Z fun y20=>z1g<|z1q (fun aa ww h=>Zu h [8,10])
       ·refine z21<|z15<|z17<|z2q (fun aa ww h=>Zu h [8,10])
      ·refine z20<|Zm Z<|Zq (ld 10 Z Z fH z83 Z)<|Ef Z (lit (R:=aZ) ([s13]:List V3) 11 (pP Z Z<|pN) Z tu29 z40 Z Z) fun v21=>zf4 11 [63] Z (fS Z<|fN)<|z0m fun x22 h23=>Ef Z (apn 8 Z Z Z .rd h23 tu29 z40 Z Z Z) fun v24=>Za Z<|z1g<|z3f<|z0z<|z20<|Zm Z<|Zq (I.add Z Z)<|Za Z<|z1o 11 Z fun y25=>z1g<|z1q (fun aa ww h=>⟨nvl [v24],Zu h [8]⟩)
     ·refine z21<|z15<|z17<|z2q (fun aa ww h=>⟨nvl [(n10 0)],Zu h [8]⟩)
    ·refine gEx fun n26=>z0v<|gSR<|Zm Z<|zxo [5] [] (gd0 Z) Z Tryz.func14 Z Z (zae _) (aBo 5 Z Z Z<|aB0) (fun _ _=>(flC zam fl0)) (fun _ _=>cf0) fun r27 n28=>Zq (zex Z)<|Zj Z (fun h29=>?_) (fun h29=>?_)
     ·refine gSR<|Za Z<|Za Z<|Zb Z<|z0o<|z0q<|zgb aZ 45 12<|Ze [(.slice none 0 0)] [12] Z
     ·refine Zt<|gSR<|Zm Z<|Zm Z<|Zm Z<|Zq (U.toI Z tu35 tu3)<|Zq (I.mul Z Z)<|Zq (I.add Z Z)<|Za Z<|Za Z<|z1o 5 Z fun y30=>Zb Z<|z0o<|Ze [(n26 0)] [5] Z
theorem zis (a0:List UInt8):z2b Tryz.prog 164 [.rd (z04 u8R) a0] [] (zcp a0) (fun r nv=>⟨[.rd z07 r.1,.rd (z04 u8R) r.2.1,.rd z0l r.2.2],[]⟩):=by
 refine z2n 61 Tryz.func164 Z Z Z fun H w=>?_;refine gSR<|Eb Z (zad 1 zgq (.zr (R:=z07) (x:=(⟨0,[],(⟨0,0,0,[]⟩:z01)⟩:z0a)) zja)) fun v1=>Za Z<|Zb Z<|z0v<|gSR<|Zm Z<|Zq (z2v Z .rd Z tu52)<|Zq (I.eql Z Z)<|Zj Z (fun h2=>?_) (fun h2=>?_)
 ·refine gSR<|Zq (bld (x':=(⟨0,[],(⟨0,0,0,[]⟩:z01)⟩:z0a)) [(0,1),(1,1),(2,4)] Tryz.underlying39 zgq Z zja Z (Bld.done Z))<|Es (sto 1 Z Z fH Z zgq)<|Za Z<|Zb Z<|z0o<|z0q<|zc8 u8R 3 Z<|zb3 [] [] Z (eC 1 Z Z zrk<|eE Z<|eE Z<|eN) (rN)
 ·refine Zt<|gSR<|Zm Z<|z0m fun x3 h4=>Zq (ixR Z Z h4 tu52 ti5 Z)<|Zq (ldR Z ty5)<|Zq (bld (x':=(⟨x3,[],(⟨0,0,0,[]⟩:z01)⟩:z0a)) [(0,1),(1,1),(2,4)] Tryz.underlying39 zgq Z zja Z (Bld.cons (z2d _) Z Z<|Bld.done Z))<|Eb Z (zad 2 zgq (.zr (R:=z07) (x:=(⟨0,[],(⟨0,0,0,[]⟩:z01)⟩:z0a)) zja)) fun v5=>Es (sto 2 Z Z fH Z zgq)<|Zn<|gSR<|Zm Z<|z0m fun x6 h7=>Zq (zll Z (.to Z) .no h7 tu52 ti5)<|Zb Z<|z0v<|gSR<|Zq (faB 2 Z Z Tryz.underlying39 Z (by exact ti5))<|Zq (ld 2 Z Z (fP (z2d _)) ty5 Z)<|Zq (B.eql Z Z)<|Zj Z (fun h8=>?_) (fun h8=>?_)
  ·refine gSR<|Zq (ld 2 Z Z fH zrk Z)<|Zm Z<|Es (sto 1 Z Z fH Z zgq)<|Za Z<|Zb Z<|z0o<|z0q<|zb3 [] [] Z (eC 1 Z Z zrk<|eE Z<|eE Z<|eN) (rN)
  ·refine Zt<|gSR<|Zm Z<|Zc [] [(100,3)] Tryz.func117 Z (z8d _ _) fun r9 n10=>Zm Z<|Zq (ext Z Z)<|Zq (ext Z Z)<|Zq (ext Z Z)<|Za Z<|Za Z<|Zb Z<|z0v<|gSR<|Zm Z<|Zq (I.neq Z Z)<|Zj Z (fun h11=>?_) (fun h11=>?_)
   ·refine gSR<|Zq (ld 2 Z Z fH zrk Z)<|Es (sto 1 Z Z fH Z zgq)<|Za Z<|Zb Z<|z0o<|z0q<|zc8 u8R 3 Z<|zb3 [] [] Z (eC 1 Z Z zrk<|eE Z<|eE Z<|eN) (rN)
   ·refine Zt<|gSR<|Zm Z<|zf4 3 [30,6,36] Z (fS Z<|fS Z<|fS Z<|fN)<|Zq (cvBS Z tu52 tu5 tu9)<|Zq (faB 2 Z Z Tryz.underlying39 Z (by exact ti9))<|Es (sto 2 Z Z (fP (z48 _)) Z ti9)<|Zn<|gSR<|Zm Z<|Zm Z<|z0m fun x12 h13=>Zq (zll Z (.to Z) .no h13 tu52 ti5)<|Zb Z<|z0v<|gSR<|Zq (faB 2 Z Z Tryz.underlying39 Z (by exact ti5))<|Zq (ld 2 Z Z (fP (z2d _)) ty5 Z)<|Zq (B.eql Z Z)<|Zj Z (fun h14=>?_) (fun h14=>?_)
    ·refine gSR<|Zm Z<|Zc [] [] Tryz.func200 Z (zhx _) fun r15 n16=>Zm Z<|Zq (ext Z Z)<|Zq (ext Z Z)<|Zq (ext Z Z)<|Eb Z (zad 4 zcl (.zr (R:=z0r) (x:=(⟨0,0,0,[]⟩:z01)) zlw)) fun v17=>Es (sto 4 Z Z fH Z zcl)<|Za Z<|Zb Z<|z0v<|gSR<|Zm Z<|Zq (I.neq Z Z)<|Zj Z (fun h18=>?_) (fun h18=>?_)
     ·refine gSR<|Zq (ld 2 Z Z fH zrk Z)<|Es (sto 1 Z Z fH Z zgq)<|Za Z<|Zb Z<|z0o<|z0q<|z0q<|zc8 u8R 3 Z<|zb3 [] [] Z (eC 1 Z Z zrk<|eE Z<|eE Z<|eN) (rN)
     ·refine Zt<|gSR<|Zq (ld 4 Z Z fH zki Z)<|Zq (faB 2 Z Z Tryz.underlying39 Z (by exact zcl))<|Es (sto 2 Z Z (fP (z3t _)) Z zcl)<|Zn<|z20<|Zm Z<|Zm Z<|z0m fun x19 h20=>Zq (zll Z (.to Z) .no h20 tu52 ti5)<|Zb Z<|gSR<|Zq (ld 2 Z Z fH zrk Z)<|Zm Z<|Es (sto 1 Z Z fH Z zgq)<|Za Z<|Zb Z<|z0o<|zb3 [] [] Z (eC 1 Z Z zrk<|eE Z<|eE Z<|eN) (rN)
    ·refine Zt<|gSR<|Zq (ld 2 Z Z fH zrk Z)<|Zm Z<|Es (sto 1 Z Z fH Z zgq)<|Za Z<|Zb Z<|z0o<|zb3 [] [] Z (eC 1 Z Z zrk<|eE Z<|eE Z<|eN) (rN)
theorem zgm (a0:List UInt8):z2b Tryz.prog 118 [.rd (z04 u8R) a0] [] (z7x a0) (fun r nv=>⟨[.agg [.rd z0x r.1.Author,.val (nv 0),.rd z1p r.1.Stamp,.rd z07 r.1.Act,.rd z09 r.1.Sig],.rd z0k r.2],[(100,some (nv 0,.list aZ 45 r.1.Preds))]⟩):=by
 refine z2n 114 Tryz.func118 Z Z Z fun H w=>?_;refine gSR<|Eb Z (zad 1 z6w (ZrE.rd (R:=z0x) (x:=0) (Zr.num Z) (ZrE.nilS (ZrE.rd (R:=z1p) (x:=0) (Zr.num Z) (ZrE.rd (R:=z07) (x:=(⟨0,[],(⟨0,0,0,[]⟩:z01)⟩:z0a)) zja (ZrE.rd (R:=z09) (x:=(⟨0,0⟩:z0b)) zln ZrE.nil Z) Z) Z)) Z)) fun v1=>Zb Z<|gSR<|Eb Z (zad 2 z6w (ZrE.rd (R:=z0x) (x:=0) (Zr.num Z) (ZrE.nilS (ZrE.rd (R:=z1p) (x:=0) (Zr.num Z) (ZrE.rd (R:=z07) (x:=(⟨0,[],(⟨0,0,0,[]⟩:z01)⟩:z0a)) zja (ZrE.rd (R:=z09) (x:=(⟨0,0⟩:z0b)) zln ZrE.nil Z) Z) Z)) Z)) fun v2=>Zn<|z0v<|z68 (fun (s3:Bool) aa ww=>Sta (ctx 114 H [] w) [(0,.rd (z04 u8R) a0),(2,.val (z0j v1 0)),(4,.val (z0j v2 0)),(26,.rd z0l s3)] [(1,some (v1,.box 43 [.rd z0x 0,.val (.slice none 0 0),.rd z1p 0,.rd z07 (⟨0,[],(⟨0,0,0,[]⟩:z01)⟩:z0a),.rd z09 (⟨0,0⟩:z0b)])),(2,some (v2,.box 43 [.rd z0x 0,.val (.slice none 0 0),.rd z1p 0,.rd z07 (⟨0,[],(⟨0,0,0,[]⟩:z01)⟩:z0a),.rd z09 (⟨0,0⟩:z0b)]))] aa ww) ?_ (fun s3=>?_)
 ·refine z20<|Zm Z<|Zq (z2v Z .rd Z tu52)<|Zq (I.eql Z Z)<|Zm Z<|z19 21 Z (fun h4=>?_) (fun h4=>?_)
  ·refine lKn 20 Z h4<|Zk Z<|Zk Z<|Zk Z<|Zk Z<|Zq (pkT Z Z)<|z1g<|z2q (fun aa ww h=>Zu h [1,2])
  ·refine lKn 20 Z h4<|z0w Zx Z Z (mv Z)<|z0m fun x5 h6=>z0w Zx Z Z (ixR Z Z h6 tu52 ti5 Z)<|z0w Zx Z Z (ldR Z ty5)<|z0w Zx Z Z (B.neq Z Z)<|Zq (pkF Z Z)<|z1g<|z2q (fun aa ww h=>Zu h [1,2])
 ·refine gIf Z Z (fun h7=>?_) (fun h7=>?_)
  ·refine gSR<|Zq (ldA 2 Z Z (z02.cast (z02.cons z00 (z02.cons z0c (z02.cons z00 (z02.cons z00 (z02.cons z00 z02.nil))))) Z) (z0i.cons z06 (z0i.cons z1d (z0i.cons z06 (z0i.cons z06 (z0i.cons z06 z0i.nil))))) z8y Z)<|Es (zqo 1 Z Z (z02.cast (z02.cons z00 (z02.cons z0c (z02.cons z00 (z02.cons z00 (z02.cons z00 z02.nil))))) Z) Z (z0i.cons z06 (z0i.cons z1d (z0i.cons z06 (z0i.cons z06 (z0i.cons z06 z0i.nil))))) (z02.cast (z02.cons z00 (z02.cons z0c (z02.cons z00 (z02.cons z00 (z02.cons z00 z02.nil))))) Z) z6w)<|Zb Z<|z0o<|z0q<|zgb aZ 45 3<|zxy 1 Z<|zb3 [(.slice none 0 0)] [3] Z (eCA 1 Z Z (z02.cast (z02.cons z00 (z02.cons z0c (z02.cons z00 (z02.cons z00 (z02.cons z00 z02.nil))))) Z) (z0i.cons z06 (z0i.cons z1d (z0i.cons z06 (z0i.cons z06 (z0i.cons z06 z0i.nil))))) z8y<|eE Z<|eN) (y1 Z)
  ·refine Zt<|gSR<|Zm Z<|z0m fun x8 h9=>Zq (zll Z (.to Z) .no h9 tu52 ti5)<|Zc [] [] Tryz.func162 Z (z9m _) fun r10 n11=>Zm Z<|Zq (ext Z Z)<|Zq (ext Z Z)<|Zq (ext Z Z)<|Za Z<|Za Z<|Zb Z<|z0v<|gSR<|Zm Z<|Zq (zex Z)<|Zj Z (fun h12=>?_) (fun h12=>?_)
   ·refine gSR<|Zq (ldA 2 Z Z (z02.cast (z02.cons z00 (z02.cons z0c (z02.cons z00 (z02.cons z00 (z02.cons z00 z02.nil))))) Z) (z0i.cons z06 (z0i.cons z1d (z0i.cons z06 (z0i.cons z06 (z0i.cons z06 z0i.nil))))) z8y Z)<|Es (zqo 1 Z Z (z02.cast (z02.cons z00 (z02.cons z0c (z02.cons z00 (z02.cons z00 (z02.cons z00 z02.nil))))) Z) Z (z0i.cons z06 (z0i.cons z1d (z0i.cons z06 (z0i.cons z06 (z0i.cons z06 z0i.nil))))) (z02.cast (z02.cons z00 (z02.cons z0c (z02.cons z00 (z02.cons z00 (z02.cons z00 z02.nil))))) Z) z6w)<|Zb Z<|z0o<|z0q<|zgb aZ 45 4<|zxy 1 Z<|zb3 [(.slice none 0 0)] [4] Z (eCA 1 Z Z (z02.cast (z02.cons z00 (z02.cons z0c (z02.cons z00 (z02.cons z00 (z02.cons z00 z02.nil))))) Z) (z0i.cons z06 (z0i.cons z1d (z0i.cons z06 (z0i.cons z06 (z0i.cons z06 z0i.nil))))) z8y<|eE Z<|eN) (y1 Z)
   ·refine Zt<|gSR<|Zm Z<|Zc [] [(100,5)] Tryz.func163 Z (zfm _ _) fun r13 n14=>Zm Z<|Zq (ext Z Z)<|Zq (ext Z Z)<|Zq (ext Z Z)<|Za Z<|Za Z<|Zb Z<|z0v<|gSR<|Zm Z<|Zq (I.neq Z Z)<|Zj Z (fun h15=>?_) (fun h15=>?_)
    ·refine gSR<|Zq (ldA 2 Z Z (z02.cast (z02.cons z00 (z02.cons z0c (z02.cons z00 (z02.cons z00 (z02.cons z00 z02.nil))))) Z) (z0i.cons z06 (z0i.cons z1d (z0i.cons z06 (z0i.cons z06 (z0i.cons z06 z0i.nil))))) z8y Z)<|Es (zqo 1 Z Z (z02.cast (z02.cons z00 (z02.cons z0c (z02.cons z00 (z02.cons z00 (z02.cons z00 z02.nil))))) Z) Z (z0i.cons z06 (z0i.cons z1d (z0i.cons z06 (z0i.cons z06 (z0i.cons z06 z0i.nil))))) (z02.cast (z02.cons z00 (z02.cons z0c (z02.cons z00 (z02.cons z00 (z02.cons z00 z02.nil))))) Z) z6w)<|Zb Z<|z0o<|z0q<|zgb aZ 45 6<|zxy 1 Z<|zb3 [(.slice none 0 0)] [6] Z (eCA 1 Z Z (z02.cast (z02.cons z00 (z02.cons z0c (z02.cons z00 (z02.cons z00 (z02.cons z00 z02.nil))))) Z) (z0i.cons z06 (z0i.cons z1d (z0i.cons z06 (z0i.cons z06 (z0i.cons z06 z0i.nil))))) z8y<|eE Z<|eN) (y1 Z)
    ·refine Zt<|gSR<|Zm Z<|Zm Z<|z0m fun x16 h17=>Zq (zll Z (.to Z) .no h17 tu52 ti5)<|Zb Z<|gSR<|Zm Z<|Zc [] [] Tryz.func116 Z (z3j _) fun r18 n19=>Zm Z<|Zq (ext Z Z)<|Zq (ext Z Z)<|Zq (ext Z Z)<|Za Z<|Za Z<|Zb Z<|z0v<|gSR<|Zm Z<|Zq (I.neq Z Z)<|Zj Z (fun h20=>?_) (fun h20=>?_)
     ·refine gSR<|Zq (ldA 2 Z Z (z02.cast (z02.cons z00 (z02.cons z0c (z02.cons z00 (z02.cons z00 (z02.cons z00 z02.nil))))) Z) (z0i.cons z06 (z0i.cons z1d (z0i.cons z06 (z0i.cons z06 (z0i.cons z06 z0i.nil))))) z8y Z)<|Es (zqo 1 Z Z (z02.cast (z02.cons z00 (z02.cons z0c (z02.cons z00 (z02.cons z00 (z02.cons z00 z02.nil))))) Z) Z (z0i.cons z06 (z0i.cons z1d (z0i.cons z06 (z0i.cons z06 (z0i.cons z06 z0i.nil))))) (z02.cast (z02.cons z00 (z02.cons z0c (z02.cons z00 (z02.cons z00 (z02.cons z00 z02.nil))))) Z) z6w)<|Zb Z<|z0o<|z0q<|zgb aZ 45 7<|zxy 1 Z<|zb3 [(.slice none 0 0)] [7] Z (eCA 1 Z Z (z02.cast (z02.cons z00 (z02.cons z0c (z02.cons z00 (z02.cons z00 (z02.cons z00 z02.nil))))) Z) (z0i.cons z06 (z0i.cons z1d (z0i.cons z06 (z0i.cons z06 (z0i.cons z06 z0i.nil))))) z8y<|eE Z<|eN) (y1 Z)
     ·refine Zt<|gSR<|Zm Z<|Zm Z<|z0m fun x21 h22=>Zq (zll Z (.to Z) .no h22 tu52 ti5)<|Zc [] [] Tryz.func164 Z (zis _) fun r23 n24=>Zm Z<|Zq (ext Z Z)<|Zq (ext Z Z)<|Zq (ext Z Z)<|Eb Z (zad 8 zgq (.zr (R:=z07) (x:=(⟨0,[],(⟨0,0,0,[]⟩:z01)⟩:z0a)) zja)) fun v25=>Es (sto 8 Z Z fH Z zgq)<|Za Z<|Zb Z<|z0v<|gSR<|Zm Z<|Zq (zex Z)<|Zj Z (fun h26=>?_) (fun h26=>?_)
      ·refine gSR<|Zq (ldA 2 Z Z (z02.cast (z02.cons z00 (z02.cons z0c (z02.cons z00 (z02.cons z00 (z02.cons z00 z02.nil))))) Z) (z0i.cons z06 (z0i.cons z1d (z0i.cons z06 (z0i.cons z06 (z0i.cons z06 z0i.nil))))) z8y Z)<|Es (zqo 1 Z Z (z02.cast (z02.cons z00 (z02.cons z0c (z02.cons z00 (z02.cons z00 (z02.cons z00 z02.nil))))) Z) Z (z0i.cons z06 (z0i.cons z1d (z0i.cons z06 (z0i.cons z06 (z0i.cons z06 z0i.nil))))) (z02.cast (z02.cons z00 (z02.cons z0c (z02.cons z00 (z02.cons z00 (z02.cons z00 z02.nil))))) Z) z6w)<|Zb Z<|z0o<|z0q<|zgb aZ 45 9<|zxy 1 Z<|zb3 [(.slice none 0 0)] [9] Z (eCA 1 Z Z (z02.cast (z02.cons z00 (z02.cons z0c (z02.cons z00 (z02.cons z00 (z02.cons z00 z02.nil))))) Z) (z0i.cons z06 (z0i.cons z1d (z0i.cons z06 (z0i.cons z06 (z0i.cons z06 z0i.nil))))) z8y<|eE Z<|eN) (y1 Z)
      ·refine Zt<|gSR<|Zm Z<|Zc [] [] Tryz.func162 Z (z9m _) fun r27 n28=>Zm Z<|Zq (ext Z Z)<|Zq (ext Z Z)<|Zq (ext Z Z)<|Za Z<|Za Z<|Zb Z<|z0v<|gSR<|Zm Z<|Zq (zex Z)<|Zj Z (fun h29=>?_) (fun h29=>?_)
       ·refine gSR<|Zq (ldA 2 Z Z (z02.cast (z02.cons z00 (z02.cons z0c (z02.cons z00 (z02.cons z00 (z02.cons z00 z02.nil))))) Z) (z0i.cons z06 (z0i.cons z1d (z0i.cons z06 (z0i.cons z06 (z0i.cons z06 z0i.nil))))) z8y Z)<|Es (zqo 1 Z Z (z02.cast (z02.cons z00 (z02.cons z0c (z02.cons z00 (z02.cons z00 (z02.cons z00 z02.nil))))) Z) Z (z0i.cons z06 (z0i.cons z1d (z0i.cons z06 (z0i.cons z06 (z0i.cons z06 z0i.nil))))) (z02.cast (z02.cons z00 (z02.cons z0c (z02.cons z00 (z02.cons z00 (z02.cons z00 z02.nil))))) Z) z6w)<|Zb Z<|z0o<|z0q<|zgb aZ 45 10<|zxy 1 Z<|zb3 [(.slice none 0 0)] [10] Z (eCA 1 Z Z (z02.cast (z02.cons z00 (z02.cons z0c (z02.cons z00 (z02.cons z00 (z02.cons z00 z02.nil))))) Z) (z0i.cons z06 (z0i.cons z1d (z0i.cons z06 (z0i.cons z06 (z0i.cons z06 z0i.nil))))) z8y<|eE Z<|eN) (y1 Z)
       ·refine Zt<|gSR<|Zm Z<|Zc [] [] Tryz.func162 Z (z9m _) fun r30 n31=>Zm Z<|Zq (ext Z Z)<|Zq (ext Z Z)<|Zq (ext Z Z)<|Za Z<|Za Z<|Zb Z<|gSR<|Zm Z<|Zm Z<|Zm Z<|Zq (ld 8 Z Z fH zrk Z)<|Zm Z<|Zm Z<|Zq (bld (x':=(⟨r27.1,r30.1⟩:z0b)) [(0,1),(1,1)] Tryz.underlying41 zqn Z zln Z (Bld.cons (z4l _) Z Z<|Bld.cons (z61 _) Z Z<|Bld.done Z))<|Zq (bldE [(0,1),(1,1),(2,1),(3,6),(9,2)] Tryz.underlying43 z6w (ZrE.rd (R:=z0x) (x:=0) (Zr.num Z) (ZrE.nilS (ZrE.rd (R:=z1p) (x:=0) (Zr.num Z) (ZrE.rd (R:=z07) (x:=(⟨0,[],(⟨0,0,0,[]⟩:z01)⟩:z0a)) zja (ZrE.rd (R:=z09) (x:=(⟨0,0⟩:z0b)) zln ZrE.nil Z) Z) Z)) Z) Z (zmf.cons Z Z z00 (z6z.cast (z6z.here z00) Z)<|zmf.cons Z Z z0c (z6z.cast (z6z.next z00 (z6z.here z0c)) Z)<|zmf.cons Z Z z00 (z6z.cast (z6z.next z00 (z6z.next z0c (z6z.here z00))) Z)<|zmf.cons Z Z z00 (z6z.cast (z6z.next z00 (z6z.next z0c (z6z.next z00 (z6z.here z00)))) Z)<|zmf.cons Z Z z00 (z6z.cast (z6z.next z00 (z6z.next z0c (z6z.next z00 (z6z.next z00 (z6z.here z00))))) Z)<|zmf.done Z))<|Eb Z (zad 11 z6w (ZrE.rd (R:=z0x) (x:=0) (Zr.num Z) (ZrE.nilS (ZrE.rd (R:=z1p) (x:=0) (Zr.num Z) (ZrE.rd (R:=z07) (x:=(⟨0,[],(⟨0,0,0,[]⟩:z01)⟩:z0a)) zja (ZrE.rd (R:=z09) (x:=(⟨0,0⟩:z0b)) zln ZrE.nil Z) Z) Z)) Z)) fun v32=>Es (zqo 11 Z Z (z02.cast (z02.cons z00 (z02.cons z0c (z02.cons z00 (z02.cons z00 (z02.cons z00 z02.nil))))) Z) Z (z0i.cons z06 (z0i.cons z1d (z0i.cons z06 (z0i.cons z06 (z0i.cons z06 z0i.nil))))) (z02.cast (z02.cons z00 (z02.cons z0c (z02.cons z00 (z02.cons z00 (z02.cons z00 z02.nil))))) Z) z6w)<|Zn<|z0v<|z68 (fun (s33:Bool) aa ww=>Sta (ctx 114 H [] w) [(2,.val (z0j v1 0)),(4,.val (z0j v2 0)),(17,.val (z0j v32 0)),(111,.rd z0l s33)] [(1,some (v1,.box 43 [.rd z0x 0,.val (.slice none 0 0),.rd z1p 0,.rd z07 (⟨0,[],(⟨0,0,0,[]⟩:z01)⟩:z0a),.rd z09 (⟨0,0⟩:z0b)])),(2,some (v2,.box 43 [.rd z0x 0,.val (.slice none 0 0),.rd z1p 0,.rd z07 (⟨0,[],(⟨0,0,0,[]⟩:z01)⟩:z0a),.rd z09 (⟨0,0⟩:z0b)])),(5,some ((n14 0),.list aZ 45 r13.1)),(11,some (v32,.box 43 [.rd z0x r10.1,.val (n14 0),.rd z1p r18.1,.rd z07 r23.1,.rd z09 (⟨r27.1,r30.1⟩:z0b)]))] aa ww) ?_ (fun s33=>?_)
        ·refine z20<|Zm Z<|Zq (zex Z)<|Zm Z<|z19 95 Z (fun h34=>?_) (fun h34=>?_)
         ·refine lKn 94 Z h34<|Zk Z<|Zk Z<|Zk Z<|Zq (pkT Z Z)<|Zm Z<|Zk Z<|Zk Z<|Zk Z<|Zq (pkT Z Z)<|Zm Z<|Zk Z<|Zk Z<|Zk Z<|Zk Z<|Zk Z<|Zq (pkT Z Z)<|z1g<|z2q (fun aa ww h=>Zu h [1,2,5,11])
         ·refine lKn 94 Z h34<|z0w Zx Z Z (mv Z)<|z0w Zx Z Z (z2v Z .rd Z tu52)<|z0w Zx Z Z (I.gtr Z Z)<|Zq (pkF Z Z)<|Zm Z<|z19 100 Z (fun h35=>?_) (fun h35=>?_)
          ·refine lKn 98 Z h35<|lKn 99 Z h35<|Zk Z<|Zk Z<|Zk Z<|Zq (pkT Z Z)<|Zm Z<|Zk Z<|Zk Z<|Zk Z<|Zk Z<|Zk Z<|Zq (pkT Z Z)<|z1g<|z2q (fun aa ww h=>Zu h [1,2,5,11])
          ·refine lKn 98 Z h35<|lKn 99 Z h35<|z0w Zx Z Z (ldA 11 Z Z (z02.cast (z02.cons z00 (z02.cons z0c (z02.cons z00 (z02.cons z00 (z02.cons z00 z02.nil))))) Z) (z0i.cons z06 (z0i.cons z1d (z0i.cons z06 (z0i.cons z06 (z0i.cons z06 z0i.nil))))) z8y Z)<|zxo [5] [] Zx Z Tryz.func15 Z Z (z6a _) (aBs (R:=z05) (x:=(⟨r10.1,r13.1,r18.1,r23.1,(⟨r27.1,r30.1⟩:z0b)⟩:z03)) Z (Sp.via (Sp.prod (Sp.prod (Sp.prod (Sp.prod (Sp.prod Sp.unit)))))) (pBe (pBo 5 Z Z (pBe (pBe (pBe pB0)))))<|aB0) (fun _ _=>(flC z3g fl0)) (fun _ _=>cf0) fun r36 n37=>z0w Zx Z Z (I.neq Z Z)<|Zq (pkF Z Z)<|Zm Z<|z19 105 Z (fun h38=>?_) (fun h38=>?_)
           ·refine lKn 103 Z h38<|lKn 104 Z h38<|Zk Z<|Zk Z<|Zk Z<|Zk Z<|Zk Z<|Zq (pkT Z Z)<|z1g<|z2q (fun aa ww h=>Zu h [1,2,5,11])
           ·refine lKn 103 Z h38<|lKn 104 Z h38<|z0w Zx Z Z (ldA 11 Z Z (z02.cast (z02.cons z00 (z02.cons z0c (z02.cons z00 (z02.cons z00 (z02.cons z00 z02.nil))))) Z) (z0i.cons z06 (z0i.cons z1d (z0i.cons z06 (z0i.cons z06 (z0i.cons z06 z0i.nil))))) z8y Z)<|zxo [5] [(100,12)] Zx Z Tryz.func54 Z Z (zay _) (aBs (R:=z05) (x:=(⟨r10.1,r13.1,r18.1,r23.1,(⟨r27.1,r30.1⟩:z0b)⟩:z03)) Z (Sp.via (Sp.prod (Sp.prod (Sp.prod (Sp.prod (Sp.prod Sp.unit)))))) (pBe (pBo 5 Z Z (pBe (pBe (pBe pB0)))))<|aB0) (fun _ _=>(flC z36 fl0)) (fun _ _=>(cfC (cf_l z17q) cf0)) fun r39 n40=>z0w Zx Z Z (mv Z)<|zxo [12] [] Zx Z Tryz.func26 Z Z (zc5 _ _) (aBo 12 Z Z Z<|aBq Z<|aB0) (fun _ _=>(flC zam fl0)) (fun _ _=>cf0) fun r41 n42=>z0w Zx Z Z (zex Z)<|Zq (pkF Z Z)<|z1g<|z2q (fun aa ww h=>Zu h [1,2,5,11])
        ·refine gIf Z Z (fun h43=>?_) (fun h43=>?_)
         ·refine gSR<|Zq (ldA 2 Z Z (z02.cast (z02.cons z00 (z02.cons z0c (z02.cons z00 (z02.cons z00 (z02.cons z00 z02.nil))))) Z) (z0i.cons z06 (z0i.cons z1d (z0i.cons z06 (z0i.cons z06 (z0i.cons z06 z0i.nil))))) z8y Z)<|Es (zqo 1 Z Z (z02.cast (z02.cons z00 (z02.cons z0c (z02.cons z00 (z02.cons z00 (z02.cons z00 z02.nil))))) Z) Z (z0i.cons z06 (z0i.cons z1d (z0i.cons z06 (z0i.cons z06 (z0i.cons z06 z0i.nil))))) (z02.cast (z02.cons z00 (z02.cons z0c (z02.cons z00 (z02.cons z00 (z02.cons z00 z02.nil))))) Z) z6w)<|Zb Z<|z0o<|z0q<|zgb aZ 45 13<|zxy 1 Z<|zb3 [(.slice none 0 0)] [13] Z (eCA 1 Z Z (z02.cast (z02.cons z00 (z02.cons z0c (z02.cons z00 (z02.cons z00 (z02.cons z00 z02.nil))))) Z) (z0i.cons z06 (z0i.cons z1d (z0i.cons z06 (z0i.cons z06 (z0i.cons z06 z0i.nil))))) z8y<|eE Z<|eN) (y1 Z)
         ·refine Zt<|gSR<|Zq (ldA 11 Z Z (z02.cast (z02.cons z00 (z02.cons z0c (z02.cons z00 (z02.cons z00 (z02.cons z00 z02.nil))))) Z) (z0i.cons z06 (z0i.cons z1d (z0i.cons z06 (z0i.cons z06 (z0i.cons z06 z0i.nil))))) z8y Z)<|Es (zqo 1 Z Z (z02.cast (z02.cons z00 (z02.cons z0c (z02.cons z00 (z02.cons z00 (z02.cons z00 z02.nil))))) Z) Z (z0i.cons z06 (z0i.cons z1d (z0i.cons z06 (z0i.cons z06 (z0i.cons z06 z0i.nil))))) (z02.cast (z02.cons z00 (z02.cons z0c (z02.cons z00 (z02.cons z00 (z02.cons z00 z02.nil))))) Z) z6w)<|Zb Z<|z0o<|zxy 1 Z<|zb3 [(n14 0)] [5] Z (eCA 1 Z Z (z02.cast (z02.cons z00 (z02.cons z0c (z02.cons z00 (z02.cons z00 (z02.cons z00 z02.nil))))) Z) (z0i.cons z06 (z0i.cons z1d (z0i.cons z06 (z0i.cons z06 (z0i.cons z06 z0i.nil))))) z8y<|eE Z<|eN) (y1 Z)
def z14 (a1:List V3) (r4:z03 × Int) (r13:UInt64 × z08) (s16:z08 × (List V3) × UInt64):Option (Sum (Sum (z03 × z08) ((List V3) × z08)) (z08 × (List V3) × UInt64)) :=
 if decide (s16.2.2<r13.1) then
  if s16.1.ok then
   z3k s16.1 (UInt64.ofInt (a1.length:Int)) >>= fun r20 =>
   if decide (0<r20.1) then
    idx a1 (w64 ((a1.length:Int) - (w64 (r20.1.toNat:Int)))) >>= fun x23 =>
    app 32 s16.2.1 [x23] >>= fun x26 =>
    some (.inr (r20.2,x26,s16.2.2+1))
   else
    if decide ((r20.2.b.length:Int)<32) then
     some (.inl (.inl ((⟨r4.1.Author,s16.2.1,r4.1.Stamp,r4.1.Act,r4.1.Sig⟩:z03),{ r20.2 with ok:=false })))
    else
     cut r20.2.b 0 32 >>= fun x35 =>
     app 32 s16.2.1 [zg4 (Vector.replicate 32 0) x35] >>= fun x38 =>
     cut r20.2.b 32 (r20.2.b.length:Int) >>= fun x41 =>
     some (.inr ({ r20.2 with b:=x41 },x38,s16.2.2+1))
  else
   some (.inl (.inr (s16.2.1,s16.1)))
 else
  some (.inl (.inr (s16.2.1,s16.1)))
def z1k (c0_0:z08) (a1:List V3):Option (z03 × z08) :=
 z4i c0_0.b 400 >>= fun r2 =>
 z7x r2.1 >>= fun r4 =>
 (if !c0_0.ok then
  some true
 else
  if r2.2.2 != 0 then
   some true
  else
   some (r4.2 != 0)) >>= fun s7 =>
 if s7 then
  some ((⟨0,[],0,(⟨0,[],(⟨0,0,0,[]⟩:z01)⟩:z0a),(⟨0,0⟩:z0b)⟩:z03),{ c0_0 with ok:=false })
 else
  cut c0_0.b r2.2.1 (c0_0.b.length:Int) >>= fun x11 =>
  z3k ({ c0_0 with b:=x11 }) 4 >>= fun r13 =>
  z5o (iter (z14 a1 r4 r13) (r13.2,r4.1.Preds,0)) fun s15 =>
  some ((⟨r4.1.Author,s15.1,r4.1.Stamp,r4.1.Act,r4.1.Sig⟩:z03),s15.2)
end
section
open Go Go.RowKit
set_option maxRecDepth 100000
theorem zbl (p0_0:Value) (c0_0:z08) (a1:List V3) (q1:Value) (l1:List V3):z2b Tryz.prog 69 [.val (z0j p0_0 0),.vw aZ q1 l1 a1] [(1,some (p0_0,.box 120 [.rd z1a c0_0])),(2,some (q1,.list aZ 45 l1))] (z1k c0_0 a1) (fun r nv=>⟨[.rd z05 r.1],[(1,some (p0_0,.box 120 [.rd z1a r.2])),(2,some (q1,.list aZ 45 l1))]⟩):=by
 refine z2n 119 Tryz.func69 Z Z Z fun H w=>?_;refine gSR<|Eb Z (zad 3 z6w (ZrE.rd (R:=z0x) (x:=0) (Zr.num Z) (ZrE.nilS (ZrE.rd (R:=z1p) (x:=0) (Zr.num Z) (ZrE.rd (R:=z07) (x:=(⟨0,[],(⟨0,0,0,[]⟩:z01)⟩:z0a)) zja (ZrE.rd (R:=z09) (x:=(⟨0,0⟩:z0b)) zln ZrE.nil Z) Z) Z)) Z)) fun v1=>Zn<|gSR<|Zm Z<|Zq (zef 1 Z Z fH)<|Zq (faB 1 Z Z Tryz.underlying120 Z (by exact zcr))<|Zq (ld 1 Z Z (fP (z1s _)) zpk Z)<|Zc [] [(100,4)] Tryz.func117 Z (z8d _ _) fun r2 n3=>Zm Z<|Zq (ext Z Z)<|Zq (ext Z Z)<|Zq (ext Z Z)<|Za Z<|Za Z<|Zb Z<|gSR<|Zm Z<|zf4 4 [20,5,24] Z (fS Z<|fS Z<|fS Z<|fN)<|Zc [] [(100,5)] Tryz.func118 Z (zgm _) fun r4 n5=>Zm Z<|Zq (ext Z Z)<|Zq (ext Z Z)<|Eb Z (zad 6 z6w (ZrE.rd (R:=z0x) (x:=0) (Zr.num Z) (ZrE.nilS (ZrE.rd (R:=z1p) (x:=0) (Zr.num Z) (ZrE.rd (R:=z07) (x:=(⟨0,[],(⟨0,0,0,[]⟩:z01)⟩:z0a)) zja (ZrE.rd (R:=z09) (x:=(⟨0,0⟩:z0b)) zln ZrE.nil Z) Z) Z)) Z)) fun v6=>Es (zqo 6 Z Z (z02.cast (z02.cons z00 (z02.cons z0c (z02.cons z00 (z02.cons z00 (z02.cons z00 z02.nil))))) Z) Z (z0i.cons z06 (z0i.cons z1d (z0i.cons z06 (z0i.cons z06 (z0i.cons z06 z0i.nil))))) (z02.cast (z02.cons z00 (z02.cons z0c (z02.cons z00 (z02.cons z00 (z02.cons z00 z02.nil))))) Z) z6w)<|Zb Z<|z0v<|z68 (fun (s7:Bool) aa ww=>Sta (ctx 119 H [(1,some (p0_0,.box 120 [.rd z1a c0_0])),(2,some (q1,.list aZ 45 l1))] w) [(0,.val (z0j p0_0 0)),(1,.vw aZ q1 l1 a1),(4,.val (z0j v1 0)),(6,.rd z0k r2.2.1),(8,.val (z0j v6 0)),(40,.rd z0l s7)] [(1,some (p0_0,.box 120 [.rd z1a c0_0])),(2,some (q1,.list aZ 45 l1)),(3,some (v1,.box 43 [.rd z0x 0,.val (.slice none 0 0),.rd z1p 0,.rd z07 (⟨0,[],(⟨0,0,0,[]⟩:z01)⟩:z0a),.rd z09 (⟨0,0⟩:z0b)])),(5,some ((n5 0),.list aZ 45 r4.1.Preds)),(6,some (v6,.box 43 [.rd z0x r4.1.Author,.val (n5 0),.rd z1p r4.1.Stamp,.rd z07 r4.1.Act,.rd z09 r4.1.Sig]))] aa ww) ?_ (fun s7=>?_)
 ·refine z20<|Zm Z<|Zq (zef 1 Z Z fH)<|Zq (faB 1 Z Z Tryz.underlying120 Z (by exact ti4))<|Zq (ld 1 Z Z (fP (z1n _)) ty4 Z)<|Zq (zex Z)<|Zm Z<|z19 33 Z (fun h8=>?_) (fun h8=>?_)
  ·refine lKn 32 Z h8<|Zk Z<|Zk Z<|Zq (pkT Z Z)<|Zm Z<|Zk Z<|Zk Z<|Zq (pkT Z Z)<|z1g<|z2q (fun aa ww h=>Zu h [1,2,3,5,6])
  ·refine lKn 32 Z h8<|z0w Zx Z Z (mv Z)<|z0w Zx Z Z (I.neq Z Z)<|Zq (pkF Z Z)<|Zm Z<|z19 37 Z (fun h9=>?_) (fun h9=>?_)
   ·refine lKn 35 Z h9<|lKn 36 Z h9<|Zk Z<|Zk Z<|Zq (pkT Z Z)<|z1g<|z2q (fun aa ww h=>Zu h [1,2,3,5,6])
   ·refine lKn 35 Z h9<|lKn 36 Z h9<|z0w Zx Z Z (mv Z)<|z0w Zx Z Z (I.neq Z Z)<|Zq (pkF Z Z)<|z1g<|z2q (fun aa ww h=>Zu h [1,2,3,5,6])
 ·refine gIf Z Z (fun h10=>?_) (fun h10=>?_)
  ·refine gSR<|Zm Z<|Zq (zef 1 Z Z fH)<|Zq (faB 1 Z Z Tryz.underlying120 Z (by exact ti4))<|Es (sto 1 Z Z (fP (z1n _)) Z ti4)<|Zn<|gSR<|Zq (bldE [(0,1),(1,1),(2,1),(3,6),(9,2)] Tryz.underlying43 z6w (ZrE.rd (R:=z0x) (x:=0) (Zr.num Z) (ZrE.nilS (ZrE.rd (R:=z1p) (x:=0) (Zr.num Z) (ZrE.rd (R:=z07) (x:=(⟨0,[],(⟨0,0,0,[]⟩:z01)⟩:z0a)) zja (ZrE.rd (R:=z09) (x:=(⟨0,0⟩:z0b)) zln ZrE.nil Z) Z) Z)) Z) Z (zmf.done Z))<|Es (zqo 3 Z Z (z02.cast (z02.cons z00 (z02.cons z0c (z02.cons z00 (z02.cons z00 (z02.cons z00 z02.nil))))) Z) Z (z0i.cons z06 (z0i.cons z1d (z0i.cons z06 (z0i.cons z06 (z0i.cons z06 z0i.nil))))) (z02.cast (z02.cons z00 (z02.cons z0c (z02.cons z00 (z02.cons z00 (z02.cons z00 z02.nil))))) Z) z6w)<|Zn<|z0o<|z0q<|ePnl aZ [.rd z0x 0,.rd (z04 aZ) [],.rd z1p 0,.rd z07 (⟨0,[],(⟨0,0,0,[]⟩:z01)⟩:z0a),.rd z09 (⟨0,0⟩:z0b)] 3 [.rd z0x 0] [.rd z1p 0,.rd z07 (⟨0,[],(⟨0,0,0,[]⟩:z01)⟩:z0a),.rd z09 (⟨0,0⟩:z0b)] Z Z Z<|eJoi (R:=z05) (⟨0,[],0,(⟨0,[],(⟨0,0,0,[]⟩:z01)⟩:z0a),(⟨0,0⟩:z0b)⟩:z03) 3 Z (Sp.via (Sp.prod (Sp.prod (Sp.prod (Sp.prod (Sp.prod Sp.unit))))))<|zb3 [] [1,2] Z (eC 3 Z Z z8y<|eN) (Zi Z<|Zi Z<|rN)
  ·refine Zt<|gSR<|Zm Z<|Zm Z<|Zq (zef 1 Z Z fH)<|Zq (faB 1 Z Z Tryz.underlying120 Z (by exact zcr))<|Zq (ld 1 Z Z (fP (z1s _)) zpk Z)<|Zm Z<|z0m fun x11 h12=>Zq (zll Z (.to Z) .no h12 tu52 ti5)<|Zq (zef 1 Z Z fH)<|Zq (faB 1 Z Z Tryz.underlying120 Z (by exact zcr))<|Es (sto 1 Z Z (fP (z1s _)) Z zcr)<|Zn<|gSR<|Zm Z<|Zc [1] [(1,1)] Tryz.func68 Z (z6e _ _ _) fun r13 n14=>Zb Z<|z7j (fun (s15:(List V3) × z08) aa ww=>∃ nv:Nat→Value,Sta (ctx 119 H [(1,some (p0_0,.box 120 [.rd z1a c0_0])),(2,some (q1,.list aZ 45 l1))] w) [(4,.val (z0j v1 0)),(8,.val (z0j v6 0))] [(3,some (v1,.box 43 [.rd z0x 0,.val (.slice none 0 0),.rd z1p 0,.rd z07 (⟨0,[],(⟨0,0,0,[]⟩:z01)⟩:z0a),.rd z09 (⟨0,0⟩:z0b)])),(5,some ((nv 0),.list aZ 45 s15.1)),(6,some (v6,.box 43 [.rd z0x r4.1.Author,.val (nv 0),.rd z1p r4.1.Stamp,.rd z07 r4.1.Act,.rd z09 r4.1.Sig])),(1,some (p0_0,.box 120 [.rd z1a s15.2])),(2,some (q1,.list aZ 45 l1))] aa ww) ?_ (fun s15=>?_)
   ·refine gSR<|Zb Z<|z2a (fun (s16:z08 × (List V3) × UInt64) aa ww=>∃ nv:Nat→Value,Sta (ctx 119 H [(1,some (p0_0,.box 120 [.rd z1a c0_0])),(2,some (q1,.list aZ 45 l1))] w) [(0,.val (z0j p0_0 0)),(1,.vw aZ q1 l1 a1),(4,.val (z0j v1 0)),(8,.val (z0j v6 0)),(10,.rd z1p r13.1),(11,.rd z1p s16.2.2)] [(1,some (p0_0,.box 120 [.rd z1a s16.1])),(2,some (q1,.list aZ 45 l1)),(3,some (v1,.box 43 [.rd z0x 0,.val (.slice none 0 0),.rd z1p 0,.rd z07 (⟨0,[],(⟨0,0,0,[]⟩:z01)⟩:z0a),.rd z09 (⟨0,0⟩:z0b)])),(5,some ((nv 0),.list aZ 45 s16.2.1)),(6,some (v6,.box 43 [.rd z0x r4.1.Author,.val (nv 0),.rd z1p r4.1.Stamp,.rd z07 r4.1.Act,.rd z09 r4.1.Sig]))] aa ww) (fun aa ww h=>⟨nvl [(n5 0)],Zu h [1,2,3,5,6]⟩) (fun s16=>?_)
    refine gEx fun n17=>z0v<|gSR<|Zm Z<|Zm Z<|Zq (U.lss Z Z)<|Zm Z<|z19 59 Z (fun h18=>?_) (fun h18=>?_)
    ·refine lKn 58 Z h18<|z0w Zx Z Z (mv Z)<|z0w Zx Z Z (zef 1 Z Z fH)<|z0w Zx Z Z (faB 1 Z Z Tryz.underlying120 Z (by exact ti4))<|z0w Zx Z Z (ld 1 Z Z (fP (z1n _)) ty4 Z)<|Zq (pkT Z Z)<|Zj Z (fun h19=>?_) (fun h19=>?_)
     ·refine gKn 63 Z h19<|Zt<|z0v<|z5b<|gSR<|Zm Z<|Zm Z<|Zq (z2v Z (.vw 2 Z) Z tu29)<|Zq (I.toU Z tu3 tu35)<|Zc [1] [(1,1)] Tryz.func68 Z (z6e _ _ _) fun r20 n21=>Zb Z<|z0v<|gSR<|Zm Z<|Zq (U.gtr Z Z)<|Zj Z (fun h22=>?_) (fun h22=>?_)
      ·refine z0v<|z8g [5,6,37] mixed Z Z<|hTk 0 Z Z (faB 6 Z Z Tryz.underlying43 Z (by exact za8))<|hTk 2 Z Z (mv Z)<|hTk 3 Z Z (mv Z)<|hTk 4 Z Z (z2v Z (.vw 2 Z) Z tu29)<|hTk 5 Z Z (mv Z)<|hTk 6 Z Z (U.toI Z tu35 tu3)<|hTk 7 Z Z (I.sub Z Z)<|z3s fun x23 h24=>hTk 8 Z Z (ixQ 2 Z Z Z h24 tu29 z40)<|hTk 9 Z Z (ldQ 2 Z Z z83 Z)<|hAlt [1,10] (by kernel_rfl) Z ⟨?_,?_,trivial⟩
       ·refine oRun 1 Z (gd0 Z) Z Z z36 (ldV 6 Z Z (At.cast (At.next z00 At.here) Z) sc29 Z)<|Zo 10 Z Z Z (lit (R:=aZ) ([x23]:List V3) 37 (pP Z Z<|pN) Z tu29 z40 Z Z) fun v25=>zyi 37 [84] Z (fS Z<|fN)<|z3s fun x26 h27=>Zo 11 Z Z Z (apn 5 Z Z Z .rd h27 tu29 z40 Z Z Z) fun v28=>hTk 12 Z Z (faB 6 Z Z Tryz.underlying43 Z (by exact za8))<|Zp 13 Z Z Z Z Z (zqr 6 Z Z (z6z.cast (z6z.next z00 (z6z.here z0c)) Z) Z z1d z0c za8)<|z4t (by kernel_rfl)<|z0z<|z21<|z15<|z140<|z0z<|z20<|Zm Z<|Zq (U.add Z Z)<|Za Z<|z1g<|z1q (fun aa ww h=>⟨nvl [v28],Zu h [1,2,3,5,6]⟩)
       ·refine oDo 10 Z (gd0 Z) Z Z Z (lit (R:=aZ) ([x23]:List V3) 37 (pP Z Z<|pN) Z tu29 z40 Z Z) (fun _=>rfl) fun v29=>zxz 1 Z (by kernel_rfl) (gd0 Z) Z Z z36 (ldV 6 Z Z (At.cast (At.next z00 At.here) Z) sc29 Z)<|zyi 37 [84] Z (fS Z<|fN)<|z3s fun x30 h31=>Zo 11 Z Z Z (apn 5 Z Z Z .rd h31 tu29 z40 Z Z Z) fun v32=>hTk 12 Z Z (faB 6 Z Z Tryz.underlying43 Z (by exact za8))<|Zp 13 Z Z Z Z Z (zqr 6 Z Z (z6z.cast (z6z.next z00 (z6z.here z0c)) Z) Z z1d z0c za8)<|z4t (by kernel_rfl)<|z0z<|z21<|z15<|z140<|z0z<|z20<|Zm Z<|Zq (U.add Z Z)<|Za Z<|z1g<|z1q (fun aa ww h=>⟨nvl [v32],Zu h [1,2,3,5,6]⟩)
      ·refine Zt<|z0v<|gSR<|Zm Z<|Zq (zef 1 Z Z fH)<|Zq (faB 1 Z Z Tryz.underlying120 Z (by exact zcr))<|Zq (ld 1 Z Z (fP (z1s _)) zpk Z)<|Zq (z2v Z .rd Z tu52)<|Zq (I.lss Z Z)<|Zj Z (fun h33=>?_) (fun h33=>?_)
       ·refine gSR<|Zm Z<|Zq (zef 1 Z Z fH)<|Zq (faB 1 Z Z Tryz.underlying120 Z (by exact ti4))<|Es (sto 1 Z Z (fP (z1n _)) Z ti4)<|Zn<|gSR<|lPow [.rd z0x r4.1.Author,.rd (z04 aZ) s16.2.1,.rd z1p r4.1.Stamp,.rd z07 r4.1.Act,.rd z09 r4.1.Sig] 6 5 [.rd z0x r4.1.Author] [.rd z1p r4.1.Stamp,.rd z07 r4.1.Act,.rd z09 r4.1.Sig] Z Z Z Z Z<|zmr (R:=z05) (⟨r4.1.Author,s16.2.1,r4.1.Stamp,r4.1.Act,r4.1.Sig⟩:z03) 6 Z (Sp.via (Sp.prod (Sp.prod (Sp.prod (Sp.prod (Sp.prod Sp.unit))))))<|Zq (ld 6 Z Z fH z8y Z)<|ztm aZ [.rd z0x 0,.rd (z04 aZ) [],.rd z1p 0,.rd z07 (⟨0,[],(⟨0,0,0,[]⟩:z01)⟩:z0a),.rd z09 (⟨0,0⟩:z0b)] 3 [.rd z0x 0] [.rd z1p 0,.rd z07 (⟨0,[],(⟨0,0,0,[]⟩:z01)⟩:z0a),.rd z09 (⟨0,0⟩:z0b)] Z Z Z<|zmr (R:=z05) (⟨0,[],0,(⟨0,[],(⟨0,0,0,[]⟩:z01)⟩:z0a),(⟨0,0⟩:z0b)⟩:z03) 3 Z (Sp.via (Sp.prod (Sp.prod (Sp.prod (Sp.prod (Sp.prod Sp.unit))))))<|Es (sto 3 Z Z fH Z z6w)<|Zn<|z0o<|z0q<|z44<|z0q<|z6t<|z4g<|zb3 [] [1,2] Z (eC 3 Z Z z8y<|eN) (Zi Z<|Zi Z<|rN)
       ·refine Zt<|gSR<|Eb Z (zad 52 z40 (.zr (R:=aZ) (x:=(Vector.replicate 32 0)) zl9)) fun v34=>Zn<|z0v<|z8g [52] mixed Z Z<|hTk 0 Z Z (cutW 52 Z Z fH tu45 ti5 Z)<|hTk 1 Z Z (mv Z)<|hTk 2 Z Z (zef 1 Z Z fH)<|hTk 3 Z Z (faB 1 Z Z Tryz.underlying120 Z (by exact zcr))<|hTk 4 Z Z (ld 1 Z Z (fP (z1s _)) zpk Z)<|z3s fun x35 h36=>hTk 5 Z Z (zll Z .no (.to Z) h36 tu52 ti5)<|hDoW 6 Z (by kernel_rfl) (gd0 Z) Z Z Z Z Z _ zw4 (cpyV 52 Z Z fH Z .rd Z tu52 ti5)<|z4t (by kernel_rfl)<|z0z<|gSR<|Zq (faB 6 Z Z Tryz.underlying43 Z (by exact za8))<|Zq (ldV 6 Z Z (At.cast (At.next z00 At.here) Z) sc29 Z)<|Zq (ld 52 Z Z fH z83 Z)<|Ef Z (lit (R:=aZ) ([zg4 (Vector.replicate 32 0) x35]:List V3) 77 (pP Z Z<|pN) Z tu29 z40 Z Z) fun v37=>zf4 77 [107] Z (fS Z<|fN)<|z0m fun x38 h39=>Ef Z (apn 5 Z Z Z .rd h39 tu29 z40 Z Z Z) fun v40=>Zq (faB 6 Z Z Tryz.underlying43 Z (by exact za8))<|Es (zqr 6 Z Z (z6z.cast (z6z.next z00 (z6z.here z0c)) Z) Z z1d z0c za8)<|Zn<|z20<|Zm Z<|Zm Z<|Zq (zef 1 Z Z fH)<|Zq (faB 1 Z Z Tryz.underlying120 Z (by exact zcr))<|Zq (ld 1 Z Z (fP (z1s _)) zpk Z)<|z0m fun x41 h42=>Zq (zll Z (.to Z) .no h42 tu52 ti5)<|Zq (zef 1 Z Z fH)<|Zq (faB 1 Z Z Tryz.underlying120 Z (by exact zcr))<|Es (sto 1 Z Z (fP (z1s _)) Z zcr)<|z1g<|z3f<|z0z<|z20<|Zm Z<|Zq (U.add Z Z)<|Za Z<|z1g<|z1q (fun aa ww h=>⟨nvl [v40],Zu h [1,2,3,5,6]⟩)
     ·refine gKn 63 Z h19<|z21<|z15<|z17<|z5k (fun aa ww h=>⟨nvl [(n17 0)],Zu h [3,5,6,1,2]⟩)
    ·refine lKn 58 Z h18<|Zk Z<|Zk Z<|Zk Z<|Zk Z<|Zq (pkF Z Z)<|Zn<|zbu Z<|z21<|z15<|z17<|z5k (fun aa ww h=>⟨nvl [(n17 0)],Zu h [3,5,6,1,2]⟩)
   ·refine gEx fun n43=>gSR<|lPow [.rd z0x r4.1.Author,.rd (z04 aZ) s15.1,.rd z1p r4.1.Stamp,.rd z07 r4.1.Act,.rd z09 r4.1.Sig] 6 5 [.rd z0x r4.1.Author] [.rd z1p r4.1.Stamp,.rd z07 r4.1.Act,.rd z09 r4.1.Sig] Z Z Z Z Z<|zmr (R:=z05) (⟨r4.1.Author,s15.1,r4.1.Stamp,r4.1.Act,r4.1.Sig⟩:z03) 6 Z (Sp.via (Sp.prod (Sp.prod (Sp.prod (Sp.prod (Sp.prod Sp.unit))))))<|Zq (ld 6 Z Z fH z8y Z)<|ztm aZ [.rd z0x 0,.rd (z04 aZ) [],.rd z1p 0,.rd z07 (⟨0,[],(⟨0,0,0,[]⟩:z01)⟩:z0a),.rd z09 (⟨0,0⟩:z0b)] 3 [.rd z0x 0] [.rd z1p 0,.rd z07 (⟨0,[],(⟨0,0,0,[]⟩:z01)⟩:z0a),.rd z09 (⟨0,0⟩:z0b)] Z Z Z<|zmr (R:=z05) (⟨0,[],0,(⟨0,[],(⟨0,0,0,[]⟩:z01)⟩:z0a),(⟨0,0⟩:z0b)⟩:z03) 3 Z (Sp.via (Sp.prod (Sp.prod (Sp.prod (Sp.prod (Sp.prod Sp.unit))))))<|Es (sto 3 Z Z fH Z z6w)<|Zn<|z0o<|zb3 [] [1,2] Z (eC 3 Z Z z8y<|eN) (Zi Z<|Zi Z<|rN)
def z3i (r9:UInt64 × z08) (s12:z08 × (List z03) × (List V3) × UInt64):Option (Sum (z08 × (List z03)) (z08 × (List z03) × (List V3) × UInt64)) :=
 if decide (s12.2.2.2<r9.1) then
  if s12.1.ok then
   z1k s12.1 s12.2.2.1 >>= fun r16 =>
   (if r16.2.ok then
    z4p r16.1 >>= fun r21 =>
    some (r21==0)
   else
    some false) >>= fun s19 =>
   if s19 then
    app 112 s12.2.1 [r16.1] >>= fun x25 =>
    za5 r16.1 >>= fun r28 =>
    app 32 s12.2.2.1 [r28] >>= fun x31 =>
    some (s12.2.2.2+1) >>= fun y34 =>
    some (.inr (r16.2,x25,x31,y34))
   else
    some (s12.2.2.2+1) >>= fun y35 =>
    some (.inr ({ r16.2 with ok:=false },s12.2.1,s12.2.2.1,y35))
  else
   some (.inl (s12.1,s12.2.1))
 else
  some (.inl (s12.1,s12.2.1))
def z3r (a0:List UInt8):Option ((List z03) × Int) :=
 if decide (30000<(a0.length:Int)) then
  some ([],4)
 else
  if (a0.length:Int)==0 then
   some ([],12)
  else
   idx a0 0 >>= fun x3 =>
   if x3 != 112 then
    some ([],12)
   else
    cut a0 1 (a0.length:Int) >>= fun x6 =>
    z3k (⟨x6,true⟩:z08) 60 >>= fun r9 =>
    (iter (z3i r9) (r9.2,[],[],0)) >>= fun s11 =>
    (if !s11.1.ok then
     some (s11.2,true)
    else
     z8i s11.2 >>= fun r39 =>
     if r39 != 0 then
      some (s11.2,true)
     else
      z63 s11.2 >>= fun r42 =>
      z1t r42 s11.2 >>= fun r44 =>
      if !r44 then
       some (s11.2,true)
      else
       z8m s11.2 >>= fun r47 =>
       z3e r47 a0 >>= fun r49 =>
       some (s11.2,!r49)) >>= fun s37 =>
    if s37.2 then
     some ([],12)
    else
     some (s37.1,0)
theorem zjy (a0:List UInt8):z2b Tryz.prog 30 [.rd (z04 u8R) a0] [] (z3r a0) (fun r nv=>⟨[.rd (z04 z05) r.1,.rd z0k r.2],[]⟩):=by
 refine z2n 88 Tryz.func30 Z Z Z fun H w=>?_;refine gSR<|Za Z<|Zb Z<|z0v<|gSR<|Zm Z<|Zq (z2v Z .rd Z tu52)<|Zq (I.gtr Z Z)<|Zj Z (fun h1=>?_) (fun h1=>?_)
 ·refine gSR<|Za Z<|Zb Z<|z0o<|z0q<|zc8 z05 2 Z<|Ze [] [] Z
 ·refine Zt<|z0v<|gSR<|Zm Z<|Zq (z2v Z .rd Z tu52)<|Zq (I.eql Z Z)<|Zm Z<|z19 16 Z (fun h2=>?_) (fun h2=>?_)
  ·refine lKn 15 Z h2<|Zk Z<|Zk Z<|Zk Z<|Zk Z<|Zq (pkT Z Z)<|Zn<|zc7 Z<|gSR<|Za Z<|Zb Z<|z0o<|z0q<|zc8 z05 2 Z<|Ze [] [] Z
  ·refine lKn 15 Z h2<|z0w Zx Z Z (mv Z)<|z0m fun x3 h4=>z0w Zx Z Z (ixR Z Z h4 tu52 ti5 Z)<|z0w Zx Z Z (ldR Z ty5)<|z0w Zx Z Z (B.neq Z Z)<|Zq (pkF Z Z)<|Zj Z (fun h5=>?_) (fun h5=>?_)
   ·refine gKn 20 Z h5<|gSR<|Za Z<|Zb Z<|z0o<|z0q<|zc8 z05 2 Z<|Ze [] [] Z
   ·refine gKn 20 Z h5<|Zt<|gSR<|Zm Z<|z0m fun x6 h7=>Zq (zll Z (.to Z) .no h7 tu52 ti5)<|Zq (bld (x':=(⟨x6,true⟩:z08)) [(0,1),(1,1)] Tryz.underlying120 z18l Z z18r Z (Bld.cons (z1s _) Z Z<|Bld.cons (z1n _) Z Z<|Bld.done Z))<|Eb Z (bx 1 Z) fun v8=>Zb Z<|gSR<|Zm Z<|Zc [1] [(1,1)] Tryz.func68 Z (z6e _ _ _) fun r9 n10=>Zb Z<|gSR<|Zb Z<|gSR<|Zb Z<|z68 (fun (s11:z08 × (List z03)) aa ww=>∃ nv:Nat→Value,Sta (ctx 88 H [] w) [(0,.rd (z04 u8R) a0),(4,.val (z0j v8 0)),(6,.val (nv 0))] [(1,some (v8,.box 120 [.rd z1a s11.1])),(12,some ((nv 0),.list z05 43 s11.2))] aa ww) ?_ (fun s11=>?_)
    ·refine gSR<|Zb Z<|zqy z05 43 39<|zqy aZ 45 40<|z2a (fun (s12:z08 × (List z03) × (List V3) × UInt64) aa ww=>∃ nv:Nat→Value,Sta (ctx 88 H [] w) [(0,.rd (z04 u8R) a0),(4,.val (z0j v8 0)),(5,.rd z1p r9.1),(6,.val (nv 0)),(7,.val (nv 1)),(8,.rd z1p s12.2.2.2)] [(1,some (v8,.box 120 [.rd z1a s12.1])),(23,some ((nv 0),.list z05 43 s12.2.1)),(38,some ((nv 1),.list aZ 45 s12.2.2.1))] aa ww) (fun aa ww h=>⟨nvl [(.slice none 0 0),(.slice none 0 0)],Zu h [1,39,40]⟩) (fun s12=>?_)
     refine gEx fun n13=>z0v<|gSR<|Zm Z<|Zm Z<|Zq (U.lss Z Z)<|Zm Z<|z19 31 Z (fun h14=>?_) (fun h14=>?_)
     ·refine lKn 30 Z h14<|z0w Zx Z Z (mv Z)<|z0w Zx Z Z (zef 1 Z Z fH)<|z0w Zx Z Z (faB 1 Z Z Tryz.underlying120 Z (by exact ti4))<|z0w Zx Z Z (ld 1 Z Z (fP (z1n _)) ty4 Z)<|Zq (pkT Z Z)<|Zj Z (fun h15=>?_) (fun h15=>?_)
      ·refine gKn 35 Z h15<|Zt<|z0v<|z5b<|gSR<|Zm Z<|Zm Z<|call [1,38] [(1,1),(2,38)] Z Tryz.func69 Z Z (zbl _ _ _ _ _) (aQ Z<|aW Z<|aN) (Zi Z<|Zi Z<|rN) fun r16 n17=>Eb Z (zad 41 z6w (ZrE.rd (R:=z0x) (x:=0) (Zr.num Z) (ZrE.nilS (ZrE.rd (R:=z1p) (x:=0) (Zr.num Z) (ZrE.rd (R:=z07) (x:=(⟨0,[],(⟨0,0,0,[]⟩:z01)⟩:z0a)) zja (ZrE.rd (R:=z09) (x:=(⟨0,0⟩:z0b)) zln ZrE.nil Z) Z) Z)) Z)) fun v18=>ztm aZ [.rd z0x 0,.rd (z04 aZ) [],.rd z1p 0,.rd z07 (⟨0,[],(⟨0,0,0,[]⟩:z01)⟩:z0a),.rd z09 (⟨0,0⟩:z0b)] 41 [.rd z0x 0] [.rd z1p 0,.rd z07 (⟨0,[],(⟨0,0,0,[]⟩:z01)⟩:z0a),.rd z09 (⟨0,0⟩:z0b)] Z Z Z<|zmr (R:=z05) (⟨0,[],0,(⟨0,[],(⟨0,0,0,[]⟩:z01)⟩:z0a),(⟨0,0⟩:z0b)⟩:z03) 41 Z (Sp.via (Sp.prod (Sp.prod (Sp.prod (Sp.prod (Sp.prod Sp.unit))))))<|Es (sto 41 Z Z fH Z z6w)<|Zn<|z68 (fun (s19:Bool) aa ww=>Sta (ctx 88 H [] w) [(0,.rd (z04 u8R) a0),(4,.val (z0j v8 0)),(5,.rd z1p r9.1),(6,.val (n13 0)),(7,.val (n13 1)),(8,.rd z1p s12.2.2.2),(9,.val (z0j v18 0)),(50,.rd z0l s19)] [(1,some (v8,.box 120 [.rd z1a r16.2])),(23,some ((n13 0),.list z05 43 s12.2.1)),(38,some ((n13 1),.list aZ 45 s12.2.2.1)),(41,some (v18,.box 43 [.rd z05 r16.1]))] aa ww) ?_ (fun s19=>?_)
       ·refine z20<|Zm Z<|Zq (zef 1 Z Z fH)<|Zq (faB 1 Z Z Tryz.underlying120 Z (by exact ti4))<|Zq (ld 1 Z Z (fP (z1n _)) ty4 Z)<|Zm Z<|z19 46 Z (fun h20=>?_) (fun h20=>?_)
        ·refine lKn 45 Z h20<|z0w Zx Z Z (ld 41 Z Z fH z8y Z)<|zcs [] [] Zx Z Tryz.func15 Z Z (z6a _) (Y1 Z) rN fun r21 n22=>z0w Zx Z Z (I.eql Z Z)<|Zq (pkT Z Z)<|z1g<|z2q (fun aa ww h=>Zu h [1,23,38,41])
        ·refine lKn 45 Z h20<|Zk Z<|Zk Z<|Zk Z<|Zq (pkF Z Z)<|z1g<|z2q (fun aa ww h=>Zu h [1,23,38,41])
       ·refine gIf Z Z (fun h23=>?_) (fun h23=>?_)
        ·refine z8g [23,38,48,63] mixed Z Z<|hTk 0 Z Z (mv Z)<|hTk 1 Z Z (ld 41 Z Z fH z8y Z)<|hTk 4 Z Z (mv Z)<|hTk 5 Z Z (ld 41 Z Z fH z8y Z)<|Zo 2 Z Z Z (lit (R:=z05) ([r16.1]:List z03) 48 (pP Z Z<|pN) Z tu22 z6w Z Z) fun v24=>zyi 48 [53] Z (fS Z<|fN)<|z3s fun x25 h26=>Zo 3 Z Z Z (apn 23 Z Z Z .rd h26 tu22 z6w Z Z Z) fun v27=>z105 6 [] [] Z (by kernel_rfl) Z (gd0 Z) Z Tryz.func16 Z Z (zd6 _) (Y1 Z) rN Z fun r28 n29=>Zo 7 Z Z Z (lit (R:=aZ) ([r28]:List V3) 63 (pP Z Z<|pN) Z tu29 z40 Z Z) fun v30=>zyi 63 [58] Z (fS Z<|fN)<|z3s fun x31 h32=>Zo 8 Z Z Z (apn 38 Z Z Z .rd h32 tu29 z40 Z Z Z) fun v33=>Zf 9 Z Z z36 (asg Z)<|Zf 10 Z Z z36 (asg Z)<|z4t (by kernel_rfl)<|z3f<|z0z<|z20<|Zm Z<|Zq (U.add Z Z)<|Za Z<|z1o 8 Z fun y34=>z1g<|z1q (fun aa ww h=>⟨nvl [v27,v33],Zu h [1,23,38]⟩)
        ·refine z20<|Zm Z<|Zq (zef 1 Z Z fH)<|Zq (faB 1 Z Z Tryz.underlying120 Z (by exact ti4))<|Es (sto 1 Z Z (fP (z1n _)) Z ti4)<|z1g<|z3f<|z0z<|z20<|Zm Z<|Zq (U.add Z Z)<|Za Z<|z1o 8 Z fun y35=>z1g<|z1q (fun aa ww h=>⟨nvl [(n13 0),(n13 1)],Zu h [1,23,38]⟩)
      ·refine gKn 35 Z h15<|z21<|z15<|z17<|z2q (fun aa ww h=>⟨nvl [(n13 0)],Zu h [1,23]⟩)
     ·refine lKn 30 Z h14<|Zk Z<|Zk Z<|Zk Z<|Zk Z<|Zq (pkF Z Z)<|Zn<|zbu Z<|z21<|z15<|z17<|z2q (fun aa ww h=>⟨nvl [(n13 0)],Zu h [1,23]⟩)
    ·refine gEx fun n36=>z0v<|z68 (fun (s37:(List z03) × Bool) aa ww=>Sta (ctx 88 H [] w) [(6,.rd (z04 z05) s37.1),(86,.rd z0l s37.2)] [] aa ww) ?_ (fun s37=>?_)
     ·refine z20<|Zm Z<|Zq (zef 1 Z Z fH)<|Zq (faB 1 Z Z Tryz.underlying120 Z (by exact ti4))<|Zq (ld 1 Z Z (fP (z1n _)) ty4 Z)<|Zq (zex Z)<|Zm Z<|z19 68 Z (fun h38=>?_) (fun h38=>?_)
      ·refine lKn 67 Z h38<|Zk Z<|Zk Z<|Zk Z<|Zq (pkT Z Z)<|Zm Z<|Zk Z<|Zk Z<|Zk Z<|Zk Z<|Zk Z<|Zq (pkT Z Z)<|Zm Z<|Zk Z<|Zk Z<|Zk Z<|Zk Z<|Zk Z<|Zq (pkT Z Z)<|z1g<|eFrz 12 [6] Z (fS Z<|fN)<|z2q (fun aa ww h=>Zu h [])
      ·refine lKn 67 Z h38<|z0w Zx Z Z (mv Z)<|zf4 12 [6,69] Z (fS Z<|fS Z<|fN)<|zcs [] [] Zx Z Tryz.func11 Z Z (ziy _) (Y1 Z) rN fun r39 n40=>z0w Zx Z Z (I.neq Z Z)<|Zq (pkF Z Z)<|Zm Z<|z19 73 Z (fun h41=>?_) (fun h41=>?_)
       ·refine lKn 71 Z h41<|lKn 72 Z h41<|Zk Z<|Zk Z<|Zk Z<|Zk Z<|Zk Z<|Zq (pkT Z Z)<|Zm Z<|Zk Z<|Zk Z<|Zk Z<|Zk Z<|Zk Z<|Zq (pkT Z Z)<|z1g<|z2q (fun aa ww h=>Zu h [])
       ·refine lKn 71 Z h41<|lKn 72 Z h41<|z0w Zx Z Z (mv Z)<|zcs [] [(100,78)] Zx Z Tryz.func56 Z Z (zdh _) (Y1 Z) rN fun r42 n43=>z0w Zx Z Z (mv Z)<|zf4 78 [75] Z (fS Z<|fN)<|zcs [] [] Zx Z Tryz.func25 Z Z (z9k _ _) (Y2 Z Z) rN fun r44 n45=>z0w Zx Z Z (zex Z)<|Zq (pkF Z Z)<|Zm Z<|z19 80 Z (fun h46=>?_) (fun h46=>?_)
        ·refine lKn 78 Z h46<|lKn 79 Z h46<|Zk Z<|Zk Z<|Zk Z<|Zk Z<|Zk Z<|Zq (pkT Z Z)<|z1g<|z2q (fun aa ww h=>Zu h [])
        ·refine lKn 78 Z h46<|lKn 79 Z h46<|z0w Zx Z Z (mv Z)<|zcs [] [(100,79)] Zx Z Tryz.func60 Z Z (zj5 _) (Y1 Z) rN fun r47 n48=>z0w Zx Z Z (mv Z)<|zcs [79] [(1,79)] Zx Z Tryz.func26 Z Z (zeg _ _ _ _) (aW Z<|aQ Z<|aN) (y1 Z) fun r49 n50=>z0w Zx Z Z (zex Z)<|Zq (pkF Z Z)<|z1g<|z2q (fun aa ww h=>Zu h [])
     ·refine gIf Z Z (fun h51=>?_) (fun h51=>?_)
      ·refine gSR<|Za Z<|Zb Z<|z0o<|z0q<|zc8 z05 2 Z<|Ze [] [] Z
      ·refine Zt<|gSR<|Zm Z<|Za Z<|Zb Z<|z0o<|Ze [] [] Z
def z3a (a0:List V3) (a1:V3) (s3:Int):Option (Sum (Sum Int Unit) Int) :=
 if decide (s3<(a0.length:Int)) then
  idx a0 s3 >>= fun x5 =>
  if decide (a1=x5) then
   some (.inl (.inl s3))
  else
   some (.inr (w64 (s3+1)))
 else
  some (.inl (.inr ()))
def z6s (a0:List V3) (a1:V3):Option (Int) :=
 z5o (iter (z3a a0 a1) 0) fun s2 =>
 some (-1)
theorem zde (a0:List V3) (a1:V3):z2b Tryz.prog 119 [.rd (z04 aZ) a0,.rd aZ a1] [] (z6s a0 a1) (fun r nv=>⟨[.rd z0k r],[]⟩):=by
 refine z2n 19 Tryz.func119 Z Z Z fun H w=>?_;refine gSR<|Eb Z (bx 1 Z) fun v1=>Zb Z<|z7j (fun (s2:Unit) aa ww=>Sta (ctx 19 H [] w) [] [] aa ww) ?_ (fun s2=>?_)
 ·refine gSR<|Zm Z<|Zq (z2v Z .rd Z tu29)<|Zm Z<|Zn<|z2a (fun (s3:Int) aa ww=>Sta (ctx 19 H [] w) [(0,.rd (z04 aZ) a0),(3,.val (z0j v1 0)),(7,.rd z0k (a0.length:Int)),(8,.rd z0k s3)] [(1,some (v1,.box 45 [.rd aZ a1]))] aa ww) (fun aa ww h=>Zu h [1]) (fun s3=>?_);refine gSR<|Zq (I.lss Z Z)<|Zn<|z0v<|gIf Z Z (fun h4=>?_) (fun h4=>?_)
  ·refine Zt<|z0v<|z5b<|gSR<|Zm Z<|Zb Z<|z0v<|zi5 mixed (by kernel_rfl)<|Rq Z (ld 1 Z Z fH z83 Z)<|Rq Z (mv Z)<|Rq Z (mv Z)<|z80 fun x5 h6=>Rq Z (ixR Z Z h6 tu29 z40 Z)<|Rq Z (ldR Z z83)<|Rq Z (eqA Z Z eq45 Z Z gq45)<|ztj<|z0z<|gIf Z Z (fun h7=>?_) (fun h7=>?_)
   ·refine gSR<|Zm Z<|Zb Z<|z0o<|z44<|z0q<|z6t<|z4g<|Ze [] [] Z
   ·refine z31<|z3f<|z0z<|z20<|Zq (I.add Z Z)<|Zm Z<|z1g<|z1q (fun aa ww h=>Zu h [1])
  ·refine z21<|z15<|z17<|z5k (fun aa ww h=>Zu h [])
 ·refine gSR<|Zb Z<|z0o<|Ze [] [] Z
def z3x (a0:List V3) (a1:V3):Option (Bool) :=
 z6s a0 a1 >>= fun r2 =>
 some (decide (0≤r2)) >>= fun y4 =>
 some y4
theorem zc6 (a0:List V3) (a1:V3):z2b Tryz.prog 71 [.rd (z04 aZ) a0,.rd aZ a1] [] (z3x a0 a1) (fun r nv=>⟨[.rd z0l r],[]⟩):=by
 refine z2n 9 Tryz.func71 Z Z Z fun H w=>?_;refine gSR<|Eb Z (bx 1 Z) fun v1=>Zb Z<|gSR<|Zm Z<|Zq (ld 1 Z Z fH z83 Z)<|Zc [] [] Tryz.func119 Z (zde _ _) fun r2 n3=>Zq (I.geq Z Z)<|Za Z<|z1o 4 Z fun y4=>Zn<|z0o<|Ze [] [] Z
def z9h (a0:z0f) (a1:List V3) (s7:(List z03) × Int):Option (Sum ((List z03)) ((List z03) × Int)) :=
 if decide (s7.2<(a0.IDs.length:Int)) then
  idx a0.IDs s7.2 >>= fun x10 =>
  z3x a1 x10 >>= fun r13 =>
  if !r13 then
   idx a0.Ops s7.2 >>= fun x16 =>
   app 112 s7.1 [x16] >>= fun x19 =>
   some (.inr (x19,w64 (s7.2+1)))
  else
   some (.inr (s7.1,w64 (s7.2+1)))
 else
  some (.inl s7.1)
def zd4 (a0:z0f) (a1:List V3):Option ((List z03) × Int) :=
 zjs a0 >>= fun r2 =>
 if r2 != 0 then
  some ([],r2)
 else
  if decide (60<(a1.length:Int)) then
   some ([],4)
  else
   (iter (z9h a0 a1) ([],0)) >>= fun s6 =>
   zgt s6 >>= fun r23 =>
   some (r23.1,r23.2)
theorem znh (a0:z0f) (a1:List V3):z2b Tryz.prog 31 [.rd z11 a0,.rd (z04 aZ) a1] [zG1] (zd4 a0 a1) (fun r nv=>⟨[.val (nv 0),.rd z0k r.2],[(1001,some (.bool true,.glob 1 (z43 64 z0x) zah)),(100,some (nv 0,.list z05 43 r.1))]⟩):=by
 refine z2n 43 Tryz.func31 Z Z Z fun H w=>?_;refine gSR<|Eb Z (bx 1 Z) fun v1=>Za Z<|Zb Z<|z0v<|gSR<|Zq (ld 1 Z Z fH ty66 Z)<|Zc [1001] [] Tryz.func70 Z (zsa _) fun r2 n3=>Zb Z<|gSR<|Zm Z<|Zq (I.neq Z Z)<|Zj Z (fun h4=>?_) (fun h4=>?_)
 ·refine gSR<|Zm Z<|Za Z<|Zb Z<|z0o<|z0q<|zgb z05 43 2<|Ze [(.slice none 0 0)] [1001,2] Z
 ·refine Zt<|z0v<|gSR<|Zm Z<|Zq (z2v Z .rd Z tu29)<|Zq (I.gtr Z Z)<|Zj Z (fun h5=>?_) (fun h5=>?_)
  ·refine gSR<|Za Z<|Zb Z<|z0o<|z0q<|zgb z05 43 3<|Ze [(.slice none 0 0)] [1001,3] Z
  ·refine Zt<|gSR<|Zb Z<|z68 (fun (s6:(List z03)) aa ww=>∃ nv:Nat→Value,Sta (ctx 43 H [zG1] w) [(7,.val (nv 0))] [(6,some ((nv 0),.list z05 43 s6)),zG1] aa ww) ?_ (fun s6=>?_)
   ·refine gSR<|Zq (faB 1 Z Z Tryz.underlying66 Z (by exact za8))<|Zq (ld 1 Z Z (fP (z1y _)) zeh Z)<|Zq (z2v Z .rd Z tu29)<|Zm Z<|Zn<|zqy z05 43 1103<|z2a (fun (s7:(List z03) × Int) aa ww=>∃ nv:Nat→Value,Sta (ctx 43 H [zG1] w) [(1,.rd (z04 aZ) a1),(2,.val (z0j v1 0)),(7,.val (nv 0)),(19,.rd (z04 aZ) a0.IDs),(20,.rd z0k (a0.IDs.length:Int)),(21,.rd z0k s7.2)] [(1,some (v1,.box 66 [.rd z11 a0])),(1102,some ((nv 0),.list z05 43 s7.1)),zG1] aa ww) (fun aa ww h=>⟨nvl [(.slice none 0 0)],Zu h [1,1103,1001]⟩) (fun s7=>?_)
    refine gEx fun n8=>gSR<|Zq (I.lss Z Z)<|Zn<|z0v<|gIf Z Z (fun h9=>?_) (fun h9=>?_)
    ·refine Zt<|z0v<|z5b<|gSR<|Zm Z<|z0m fun x10 h11=>Zq (ixR Z Z h11 tu29 z40 Z)<|Zq (ldR Z z83)<|Eb Z (zad 1104 z40 (.zr (R:=aZ) (x:=(Vector.replicate 32 0)) zl9)) fun v12=>Za Z<|Es (sto 1104 Z Z fH Z z40)<|Zn<|gSR<|Zm Z<|Zq (ld 1104 Z Z fH z83 Z)<|Zc [] [] Tryz.func71 Z (zc6 _ _) fun r13 n14=>Zq (zex Z)<|Zj Z (fun h15=>?_) (fun h15=>?_)
     ·refine z20<|Zm Z<|Zq (faB 1 Z Z Tryz.underlying66 Z (by exact zlm))<|Zq (ld 1 Z Z (fP (z12 _)) zli Z)<|Zm Z<|z0m fun x16 h17=>Zq (ixR Z Z h17 tu22 z6w Z)<|Zq (ldR Z z8y)<|Ef Z (lit (R:=z05) ([x16]:List z03) 1105 (pP Z Z<|pN) Z tu22 z6w Z Z) fun v18=>zf4 1105 [36] Z (fS Z<|fN)<|z0m fun x19 h20=>Ef Z (apn 1102 Z Z Z .rd h20 tu22 z6w Z Z Z) fun v21=>Za Z<|z1g<|z3f<|z0z<|z20<|Zq (I.add Z Z)<|Zm Z<|z1g<|z1q (fun aa ww h=>⟨nvl [v21],Zu h [1,1102,1001]⟩)
     ·refine z31<|z3f<|z0z<|z20<|Zq (I.add Z Z)<|Zm Z<|z1g<|z1q (fun aa ww h=>⟨nvl [(n8 0)],Zu h [1,1102,1001]⟩)
    ·refine z21<|z15<|z17<|z2q (fun aa ww h=>⟨nvl [(n8 0)],Zu h [1102,1001]⟩)
   ·refine gEx fun n22=>gSR<|Zm Z<|zf4 6 [7,39] Z (fS Z<|fS Z<|fN)<|Zc [1001] [(100,1106)] Tryz.func12 Z (zrb _) fun r23 n24=>Zq (ext Z Z)<|Zq (ext Z Z)<|Za Z<|Zb Z<|z0o<|Ze [(n24 0)] [1001,1106] Z
def z5d (a0:z0f) (a1:List V3) (s7:(List z03) × Int):Option (Sum ((List z03)) ((List z03) × Int)) :=
 if decide (s7.2<(a0.IDs.length:Int)) then
  idx a0.IDs s7.2 >>= fun x10 =>
  z3u a1 x10 >>= fun r12 =>
  if decide (r12<0) then
   idx a0.Ops s7.2 >>= fun x15 =>
   app 112 s7.1 [x15] >>= fun x18 =>
   some (w64 (s7.2+1)) >>= fun y21 =>
   some (.inr (x18,y21))
  else
   some (w64 (s7.2+1)) >>= fun y22 =>
   some (.inr (s7.1,y22))
 else
  some (.inl s7.1)
def z7d (a0:z0f) (a1:List V3):Option ((List z03) × Int) :=
 zax a0 >>= fun r2 =>
 if r2 != 0 then
  some ([],r2)
 else
  if decide (60<(a1.length:Int)) then
   some ([],4)
  else
   (iter (z5d a0 a1) ([],0)) >>= fun s6 =>
   z63 s6 >>= fun r24 =>
   some (r24,0)
theorem zh8 (a0:z0f) (a1:List V3):z2b Tryz.prog 32 [.rd z11 a0,.rd (z04 aZ) a1] [] (z7d a0 a1) (fun r nv=>⟨[.val (nv 0),.rd z0k r.2],[(100,some (nv 0,.list z05 43 r.1))]⟩):=by
 refine z2n 42 Tryz.func32 Z Z Z fun H w=>?_;refine gSR<|Eb Z (bx 1 Z) fun v1=>Za Z<|Zb Z<|z0v<|gSR<|Zq (ld 1 Z Z fH ty66 Z)<|Zc [] [] Tryz.func35 Z (ziz _) fun r2 n3=>Zb Z<|gSR<|Zm Z<|Zq (I.neq Z Z)<|Zj Z (fun h4=>?_) (fun h4=>?_)
 ·refine gSR<|Zm Z<|Za Z<|Zb Z<|z0o<|z0q<|zgb z05 43 2<|Ze [(.slice none 0 0)] [2] Z
 ·refine Zt<|z0v<|gSR<|Zm Z<|Zq (z2v Z .rd Z tu29)<|Zq (I.gtr Z Z)<|Zj Z (fun h5=>?_) (fun h5=>?_)
  ·refine gSR<|Za Z<|Zb Z<|z0o<|z0q<|zgb z05 43 3<|Ze [(.slice none 0 0)] [3] Z
  ·refine Zt<|gSR<|Zb Z<|z68 (fun (s6:(List z03)) aa ww=>∃ nv:Nat→Value,Sta (ctx 42 H [] w) [(7,.val (nv 0))] [(5,some ((nv 0),.list z05 43 s6))] aa ww) ?_ (fun s6=>?_)
   ·refine gSR<|Zb Z<|zqy z05 43 8<|z2a (fun (s7:(List z03) × Int) aa ww=>∃ nv:Nat→Value,Sta (ctx 42 H [] w) [(1,.rd (z04 aZ) a1),(2,.val (z0j v1 0)),(7,.val (nv 0)),(8,.rd z0k s7.2)] [(1,some (v1,.box 66 [.rd z11 a0])),(7,some ((nv 0),.list z05 43 s7.1))] aa ww) (fun aa ww h=>⟨nvl [(.slice none 0 0)],Zu h [1,8]⟩) (fun s7=>?_);refine gEx fun n8=>z0v<|gSR<|Zm Z<|Zq (faB 1 Z Z Tryz.underlying66 Z (by exact za8))<|Zq (ld 1 Z Z (fP (z1y _)) zeh Z)<|Zq (z2v Z .rd Z tu29)<|Zq (I.lss Z Z)<|Zj Z (fun h9=>?_) (fun h9=>?_)
    ·refine Zt<|z0v<|z5b<|gSR<|Zm Z<|Zq (faB 1 Z Z Tryz.underlying66 Z (by exact za8))<|Zq (ld 1 Z Z (fP (z1y _)) zeh Z)<|Zm Z<|z0m fun x10 h11=>Zq (ixR Z Z h11 tu29 z40 Z)<|Zq (ldR Z z83)<|Zc [] [] Tryz.func17 Z (z8h _ _) fun r12 n13=>Zq (I.lss Z Z)<|Zj Z (fun h14=>?_) (fun h14=>?_)
     ·refine z20<|Zm Z<|Zq (faB 1 Z Z Tryz.underlying66 Z (by exact zlm))<|Zq (ld 1 Z Z (fP (z12 _)) zli Z)<|Zm Z<|z0m fun x15 h16=>Zq (ixR Z Z h16 tu22 z6w Z)<|Zq (ldR Z z8y)<|Ef Z (lit (R:=z05) ([x15]:List z03) 9 (pP Z Z<|pN) Z tu22 z6w Z Z) fun v17=>zf4 9 [38] Z (fS Z<|fN)<|z0m fun x18 h19=>Ef Z (apn 7 Z Z Z .rd h19 tu22 z6w Z Z Z) fun v20=>Za Z<|z1g<|z3f<|z0z<|z20<|Zm Z<|Zq (I.add Z Z)<|Za Z<|z1o 8 Z fun y21=>z1g<|z1q (fun aa ww h=>⟨nvl [v20],Zu h [1,7]⟩)
     ·refine z31<|z3f<|z0z<|z20<|Zm Z<|Zq (I.add Z Z)<|Za Z<|z1o 8 Z fun y22=>z1g<|z1q (fun aa ww h=>⟨nvl [(n8 0)],Zu h [1,7]⟩)
    ·refine z21<|z15<|z17<|z2q (fun aa ww h=>⟨nvl [(n8 0)],Zu h [7]⟩)
   ·refine gEx fun n23=>gSR<|Zm Z<|zf4 5 [7,40] Z (fS Z<|fS Z<|fN)<|Zc [] [(100,10)] Tryz.func56 Z (zdh _) fun r24 n25=>Za Z<|Zb Z<|z0o<|Ze [(n25 0)] [10] Z
end
section
open Go Go.RowKit
theorem zm9 {α:Type} {R:Rep α} {v:Value} {b x:List α} {S:Blk} {w:World} {u:Value} (h:(Ent.vw R v b x).holds S w u):u.oneCell'=true:=by
 rcases h with ⟨_,_,h⟩ | ⟨rfl,_⟩ | ⟨k,o,sp,cap,i,rfl,_⟩
 ·exact h
 ·rfl
 ·rfl
theorem z6n {α:Type} {R:Rep α} {v:Value} {b x:List α}:(Ent.vw R v b x).fills 1:=fun S w u h=>by
 rw [z5z (zm9 h)]; rfl
theorem znt {α:Type} {R:Rep α} {v:Value} {b x:List α}:(Ent.vw R v b x).ones:=fun S w u h=>by
 rw [z5z (zm9 h)]; simpa using zm9 h
section
variable {C:World→World→Prop} {P:Program} {Γ:Ctx} {l:z1w} {res:Res} {d:Tmp} {ty:TypeId} {pos:String} {after:Array Edge} {g:Option (Nat × Bool)}
theorem bxG (r:Nat) {T:TypeId} {x:Operand} {es:List Ent} (hx:opE l x=some (.agg es)):Eff P Γ l res ⟨some d,.box T x,ty,pos,after,g⟩ r (fun v=>(v,.box T es)):=fun a w ha=>by
 obtain ⟨ys,hy1,hy2⟩:=ha.vl hx;have hrun:(execOp a.eval ⟨some d,.box T x,ty,pos,after,g⟩).run P w=.ok (.value (.pointer (some ⟨w.heap.size,0,none⟩))) (w.alloc (.cells (a.eval x).cells T)):=by
  simp [execOp,Instr.box,newVar,newRow]
 exact ⟨_,_,hrun,ha.upd r (c:=.box T es) (zgi w (.cells (a.eval x).cells T)) (by simp) (fun b hb=>.inr (by simp [z4s] at hb; omega)) (v:=.pointer (some ⟨w.heap.size,0,none⟩))
  (fun S' k'=>zu0 (vs:=ys) (by rw [hy2]; rfl) hy1 k'),rfl,none,zgi w _, by simp⟩
theorem zq2 (r:Nat) {T:TypeId} {x:Operand} {v:Value} {es:List Ent} (hx:opE l x=some (.val (z0j v 0))) (hr:lr res r=some (v,.box T es)):Run C P Γ l res ⟨some d,.nilCheck x,ty,pos,after,g⟩ (.val (z0j v 0)):=fun a w ha=>by
 have h1:=(ha.vl hx).1;rcases ha.conts r v _ hr with h2 | ⟨b,o,h2,h3,b',vs,rfl,rfl,h4⟩
 ·exact h2.elim
 ·rw [zeb] at h1 ⊢;exact ⟨_, fun w' _=>by simp [execOp,h1],rfl,rfl⟩
theorem ldW {α:Type} {R:Rep α} {ws:List Nat} [LC C res ws] {t T:TypeId} {x:Operand} {v vq:Value} {L y':List α} {es:List Ent} {k:Nat} (r:Nat) (hx:opE l x=some (.val (z0j v k))) (hr:lr res r=some (v,.box T es)) (hf:At es k (.vw R vq L y')) (hT:Sc P t) (hw:ws.contains r=false) :
  Run C P Γ l res ⟨some d,.load t x,ty,pos,after,g⟩ (.vw R vq L y'):=fun a w ha=>by
 have h1:=(ha.vl hx).1;rcases ha.conts r v _ hr with h2 | ⟨b,o,h2,h3,b',vs,rfl,rfl,h4⟩
 ·exact h2.elim
 ·simp only [z4s,Option.some.injEq] at h2;subst h2;obtain ⟨pre,post,rfl,hk⟩:=hf;obtain ⟨us,ts,rfl,h5,h6⟩:=h4.app
  match ts,h6 with
  | y::ts,⟨h7,h8⟩ =>
   have h9:=zm9 h7;have hl:=hk _ _ _ h5;rw [zeb] at h1;refine ⟨y, fun w' hw'=>?_,h7⟩;have hb':Bx w' b' (z93 (us++y::ts)).toArray T:=(CW.at hw' ha hr rfl hw).trans h3;have hc:w'.cell? ⟨b',k,none⟩=some y:=by
    rw [hb'.cell];subst hl;simp [z93,z5z h9]
   exact z107 hT h1 hc
end
end
section
open Go Go.RowKit
set_option maxRecDepth 100000
theorem zcu (a0:List UInt8) (q0:Value) (l0:List UInt8):z2b Tryz.prog 111 [.vw u8R q0 l0 a0] [(1,some (q0,.list u8R 5 l0))] (z4c a0) (fun r nv=>⟨[.rd z1p r.1,.rd z0k r.2.1,.rd z0k r.2.2],[(1,some (q0,.list u8R 5 l0))]⟩):=by
 refine z2n 63 Tryz.func111 Z Z Z fun H w=>?_;refine gSR<|Za Z<|Za Z<|Zb Z<|z0v<|gSR<|Zm Z<|Zq (z2v Z (.vw 1 Z) Z tu52)<|Zq (I.eql Z Z)<|Zj Z (fun h1=>?_) (fun h1=>?_)
 ·refine gSR<|Za Z<|Za Z<|Zb Z<|z0o<|z0q<|Ze [] [1] Z
 ·refine Zt<|z0v<|gSR<|Zm Z<|z0m fun x2 h3=>Zq (ixQ 1 Z Z Z h3 tu52 ti5)<|Zq (ldQ 1 Z Z ty5 Z)<|Zq (B.leq Z Z)<|Zj Z (fun h4=>?_) (fun h4=>?_)
  ·refine gSR<|Zm Z<|z0m fun x5 h6=>Zq (ixQ 1 Z Z Z h6 tu52 ti5)<|Zq (ldQ 1 Z Z ty5 Z)<|Zq (B.toU Z tu5 tu35)<|Za Z<|Za Z<|Zb Z<|z0o<|z0q<|Ze [] [1] Z
  ·refine Zt<|gSR<|Zm Z<|z0m fun x7 h8=>Zq (ixQ 1 Z Z Z h8 tu52 ti5)<|Zq (ldQ 1 Z Z ty5 Z)<|Zq (B.toI Z tu5 tu3)<|Zq (I.sub Z Z)<|Za Z<|z1o 5 Z fun y9=>Zn<|z7j (fun (s10:Unit) aa ww=>Sta (ctx 63 H [(1,some (q0,.list u8R 5 l0))] w) [(0,.vw u8R q0 l0 a0),(5,.rd z0k y9)] [(1,some (q0,.list u8R 5 l0))] aa ww) ?_ (fun s10=>?_)
   ·refine gSR<|Zm Z<|Zq (z2v Z (.vw 1 Z) Z tu52)<|Zm Z<|Zq (I.leq Z Z)<|Zm Z<|z19 29 Z (fun h11=>?_) (fun h11=>?_)
    ·refine lKn 28 Z h11<|Zk Z<|Zk Z<|Zk Z<|Zk Z<|Zq (pkT Z Z)<|Zm Z<|Zk Z<|Zk Z<|Zk Z<|zh1 (gdU Z Z Z) Z Z<|zh1 (gdU Z Z Z) Z Z<|zh1 (gdU Z Z Z) Z Z<|zh1 (gdU Z Z Z) Z Z<|Zk Z<|Zq (pkT Z Z)<|Zn<|zc7 Z<|gSR<|Za Z<|Za Z<|Zb Z<|z0o<|z4g<|Ze [] [1] Z
    ·refine lKn 28 Z h11<|z0w Zx Z Z (mv Z)<|z0m fun x12 h13=>z0w Zx Z Z (ixQ 1 Z Z Z h13 tu52 ti5)<|z0w Zx Z Z (ldQ 1 Z Z ty5 Z)<|z0w Zx Z Z (B.eql Z Z)<|Zq (pkF Z Z)<|Zm Z<|z19 35 Z (fun h14=>?_) (fun h14=>?_)
     ·refine lKn 33 Z h14<|lKn 34 Z h14<|Zk Z<|Zk Z<|Zk Z<|zh1 (gdU Z Z Z) Z Z<|zh1 (gdU Z Z Z) Z Z<|zh1 (gdU Z Z Z) Z Z<|zh1 (gdU Z Z Z) Z Z<|Zk Z<|Zq (pkT Z Z)<|Zn<|zc7 Z<|gSR<|Za Z<|Za Z<|Zb Z<|z0o<|z4g<|Ze [] [1] Z
     ·refine lKn 33 Z h14<|lKn 34 Z h14<|z0w Zx Z Z (mv Z)<|z0w Zx Z Z (I.eql Z Z)<|z0w Zx Z Z (mv Z)<|z19 38 Z (fun h15=>?_) (fun h15=>?_)
      ·refine lKn 37 Z h15<|z0w Zx Z Z (mv Z)<|z0m fun x16 h17=>z0w Zx Z Z (ixQ 1 Z Z Z h17 tu52 ti5)<|z0w Zx Z Z (ldQ 1 Z Z ty5 Z)<|z0w Zx Z Z (B.leq Z Z)<|z0w Zx Z Z (pkT Z Z)<|Zq (pkF Z Z)<|Zj Z (fun h18=>?_) (fun h18=>?_)
       ·refine gKn 42 Z h18<|gKn 43 Z h18<|gSR<|Za Z<|Za Z<|Zb Z<|z0o<|z4g<|Ze [] [1] Z
       ·refine gKn 42 Z h18<|gKn 43 Z h18<|z31<|z5k (fun aa ww h=>Zu h [1])
      ·refine lKn 37 Z h15<|Zk Z<|Zk Z<|Zk Z<|Zk Z<|z0w Zx Z Z (pkF Z Z)<|Zq (pkF Z Z)<|Zn<|zbu Z<|z31<|z5k (fun aa ww h=>Zu h [1])
   ·refine gSR<|Zb Z<|z68 (fun (s19:UInt64) aa ww=>Sta (ctx 63 H [(1,some (q0,.list u8R 5 l0))] w) [(5,.rd z0k y9),(6,.rd z1p s19)] [(1,some (q0,.list u8R 5 l0))] aa ww) ?_ (fun s19=>?_)
    ·refine gSR<|Zm Z<|Zm Z<|Zq (I.add Z Z)<|z0m fun x20 h21=>Zq (cutQ 1 Z vwI Z (.to Z) (.to Z) h21 tu52 ti5)<|Zq (z2v Z (.vw 1 Z) Z tu52)<|Zm Z<|Zn<|z2a (fun (s22:UInt64 × Int) aa ww=>Sta (ctx 63 H [(1,some (q0,.list u8R 5 l0))] w) [(5,.rd z0k y9),(6,.rd z1p s22.1),(48,.vw u8R q0 l0 x20),(49,.rd z0k (x20.length:Int)),(50,.rd z0k s22.2)] [(1,some (q0,.list u8R 5 l0))] aa ww) (fun aa ww h=>Zu h [1]) (fun s22=>?_)
     refine gSR<|Zq (I.lss Z Z)<|Zn<|z0v<|gIf Z Z (fun h23=>?_) (fun h23=>?_)
     ·refine Zt<|z0v<|z5b<|gSR<|z0m fun x24 h25=>Zq (ixQ 1 Z Z Z h25 tu52 ti5)<|Zq (ldQ 1 Z Z ty5 Z)<|Zb Z<|z20<|Zm Z<|Zq (U.shl Z Z (Int.natCast_nonneg _))<|Zm Z<|Zq (B.toU Z tu5 tu35)<|Zq (U.or Z Z)<|Za Z<|z1o 6 Z fun y26=>z1g<|z3f<|z0z<|z20<|Zq (I.add Z Z)<|Zm Z<|z1g<|z1q (fun aa ww h=>Zu h [1])
     ·refine z21<|z15<|z17<|z2q (fun aa ww h=>Zu h [1])
    ·refine gSR<|Zm Z<|Zm Z<|Zq (I.add Z Z)<|Za Z<|Za Z<|Zb Z<|z0o<|Ze [] [1] Z
theorem zny (a0:List UInt8) (q0:Value) (l0:List UInt8) (a1:Int) (a2:Int):z2b Tryz.prog 152 [.vw u8R q0 l0 a0,.rd z0k a1,.rd z0k a2] [(1,some (q0,.list u8R 5 l0))] (zdy a0 a1 a2) (fun r nv=>⟨[.vw u8R q0 l0 r.1,.rd z0k r.2.1,.rd z0k r.2.2],[(1,some (q0,.list u8R 5 l0))]⟩):=by
 refine z2n 51 Tryz.func152 Z Z Z fun H w=>?_;refine gSR<|Za Z<|Za Z<|Zb Z<|z0v<|gSR<|Zm Z<|Zq (I.lss Z Z)<|Zj Z (fun h1=>?_) (fun h1=>?_)
 ·refine gSR<|Za Z<|Za Z<|Zb Z<|z0o<|z0q<|eVwN u8R q0 l0 6 Z<|Ze [] [1] Z
 ·refine Zt<|gSR<|Zm Z<|Zc [1] [(1,1)] Tryz.func111 Z (zcu _ _ _) fun r2 n3=>Zm Z<|Zq (ext Z Z)<|Zq (ext Z Z)<|Zq (ext Z Z)<|Za Z<|Za Z<|Zb Z<|z0v<|z68 (fun (s4:Bool) aa ww=>Sta (ctx 51 H [(1,some (q0,.list u8R 5 l0))] w) [(0,.vw u8R q0 l0 a0),(2,.rd z0k a2),(9,.rd z1p r2.1),(10,.rd z0k r2.2.1),(39,.rd z0l s4)] [(1,some (q0,.list u8R 5 l0))] aa ww) ?_ (fun s4=>?_)
  ·refine z20<|Zm Z<|Zq (I.neq Z Z)<|Zm Z<|z19 23 Z (fun h5=>?_) (fun h5=>?_)
   ·refine lKn 22 Z h5<|Zk Z<|Zk Z<|Zk Z<|Zk Z<|Zq (pkT Z Z)<|Zm Z<|Zk Z<|Zk Z<|Zk Z<|Zk Z<|Zk Z<|Zk Z<|Zk Z<|Zk Z<|Zk Z<|Zq (pkT Z Z)<|z1g<|z2q (fun aa ww h=>Zu h [1])
   ·refine lKn 22 Z h5<|z0w Zx Z Z (mv Z)<|z0w Zx Z Z (mv Z)<|z0w Zx Z Z (I.toU Z tu3 tu35)<|z0w Zx Z Z (U.gtr Z Z)<|Zq (pkF Z Z)<|Zm Z<|z19 29 Z (fun h6=>?_) (fun h6=>?_)
    ·refine lKn 27 Z h6<|lKn 28 Z h6<|Zk Z<|Zk Z<|Zk Z<|Zk Z<|Zk Z<|Zk Z<|Zk Z<|Zk Z<|Zk Z<|Zq (pkT Z Z)<|z1g<|z2q (fun aa ww h=>Zu h [1])
    ·refine lKn 27 Z h6<|lKn 28 Z h6<|z0w Zx Z Z (mv Z)<|z0w Zx Z Z (mv Z)<|z0w Zx Z Z (z2v Z (.vw 1 Z) Z tu52)<|z0w Zx Z Z (mv Z)<|z0w Zx Z Z (I.sub Z Z)<|z0w Zx Z Z (mv Z)<|z0m fun u7 h8=>z0w Zx Z Z (I.quo Z Z (z60 h8))<|z0w Zx Z Z (I.toU Z tu3 tu35)<|z0w Zx Z Z (U.gtr Z Z)<|Zq (pkF Z Z)<|z1g<|z2q (fun aa ww h=>Zu h [1])
  ·refine gIf Z Z (fun h9=>?_) (fun h9=>?_)
   ·refine gSR<|Za Z<|Za Z<|Zb Z<|z0o<|z0q<|eVwN u8R q0 l0 6 Z<|Ze [] [1] Z
   ·refine Zt<|gSR<|Zm Z<|Zm Z<|Zm Z<|Zq (U.toI Z tu35 tu3)<|Zq (I.mul Z Z)<|Zq (I.add Z Z)<|Za Z<|z1o 12 Z fun y10=>Zn<|gSR<|Zm Z<|Zm Z<|Zm Z<|z0m fun x11 h12=>Zq (cutQ 1 Z vwI Z (.to Z) (.to Z) h12 tu52 ti5)<|Zm Z<|Za Z<|Za Z<|Zb Z<|z0o<|Ze [] [1] Z
theorem zkk (a0:List UInt8) (q0:Value) (l0:List UInt8):z2b Tryz.prog 153 [.vw u8R q0 l0 a0] [(1,some (q0,.list u8R 5 l0))] (zfw a0) (fun r nv=>⟨[.val (nv 0)],[(1,some (q0,.list u8R 5 l0)),(100,some (nv 0,.list u8R 5 r))]⟩):=by
 refine z2n 8 Tryz.func153 Z Z Z fun H w=>?_;refine gSR<|Zb Z<|z0v<|gSR<|Zm Z<|z11w Z Z (.vw 1 Z) Z tu52 (fun h1=>?_) ?_
 ·subst h1;refine Zn<|zc7 Z<|gSR<|Zb Z<|z0o<|z0q<|zgb u8R 5 2<|Ze [(.slice none 0 0)] [1,2] Z
 ·refine Zn<|zbu Z<|Zt<|gSR<|Ef Z (lit (R:=u8R) (([]:List UInt8):List UInt8) 3 (pN) Z tu52 ti5 Z Z) fun v2=>Zm Z<|z0m fun x3 h4=>Ef Z (apn 3 Z Z Z (.vw 1 Z) h4 tu52 ti5 Z Z Z) fun v5=>Zb Z<|z0o<|Ze [v5] [1,3] Z
theorem zhy (a0:List UInt8) (q0:Value) (l0:List UInt8) (a1:Int):z2b Tryz.prog 112 [.vw u8R q0 l0 a0,.rd z0k a1] [(1,some (q0,.list u8R 5 l0))] (z49 a0 a1) (fun r nv=>⟨[.val (nv 0),.rd z0k r.2.1,.rd z0k r.2.2],[(1,some (q0,.list u8R 5 l0)),(100,some (nv 0,.list u8R 5 r.1))]⟩):=by
 refine z2n 21 Tryz.func112 Z Z Z fun H w=>?_;refine gSR<|Za Z<|Za Z<|Zb Z<|gSR<|Zm Z<|Zm Z<|Zc [1] [(1,1)] Tryz.func152 Z (zny _ _ _ _ _) fun r1 n2=>Zm Z<|Zq (ext Z Z)<|Zq (ext Z Z)<|Zq (ext Z Z)<|Za Z<|Za Z<|Zb Z<|gSR<|Zm Z<|Zc [1] [(100,2),(1,1)] Tryz.func153 Z (zkk _ _ _) fun r3 n4=>Zm Z<|Zm Z<|Za Z<|Za Z<|Zb Z<|z0o<|Ze [(n4 0)] [1,2] Z
def z5y (c0_0:z0e) (a1:Int):Option (Int × z0e) :=
 z4c c0_0.b >>= fun r1 =>
 (if r1.2.2 != 0 then
  some true
 else
  some (decide ((UInt64.ofInt a1)<r1.1))) >>= fun s3 =>
 if s3 then
  some (0,(⟨c0_0.b,true⟩:z0e))
 else
  cut c0_0.b r1.2.1 (c0_0.b.length:Int) >>= fun x6 =>
  some (w64 (r1.1.toNat:Int)) >>= fun y8 =>
  some (y8,(⟨x6,c0_0.bad⟩:z0e))
theorem z88 (p0_0:Value) (q0_0:Value) (l0_0:List UInt8) (c0_0:z0e) (a1:Int):z2b Tryz.prog 63 [.val (z0j p0_0 0),.rd z0k a1] [(1,some (q0_0,.list u8R 5 l0_0)),(2,some (p0_0,.box 112 [.vw u8R q0_0 l0_0 c0_0.b,.rd z0l c0_0.bad]))] (z5y c0_0 a1) (fun r nv=>⟨[.rd z0k r.1],[(1,some (q0_0,.list u8R 5 l0_0)),(2,some (p0_0,.box 112 [.vw u8R q0_0 l0_0 r.2.b,.rd z0l r.2.bad]))]⟩):=by
 refine z2n 39 Tryz.func63 Z Z Z fun H w=>?_;refine gSR<|Zb Z<|gSR<|Zm Z<|Zq (zq2 2 Z Z)<|Zq (faB 2 Z Z Tryz.underlying112 Z (by exact zcr))<|Zq (ldW 2 Z Z (At.cast At.here Z) sc52 Z)<|Zc [1] [(1,1)] Tryz.func111 Z (zcu _ _ _) fun r1 n2=>Zm Z<|Zq (ext Z Z)<|Zq (ext Z Z)<|Zq (ext Z Z)<|Za Z<|Za Z<|Zb Z<|z0v<|z68 (fun (s3:Bool) aa ww=>Sta (ctx 39 H [(1,some (q0_0,.list u8R 5 l0_0)),(2,some (p0_0,.box 112 [.vw u8R q0_0 l0_0 c0_0.b,.rd z0l c0_0.bad]))] w) [(0,.val (z0j p0_0 0)),(5,.rd z1p r1.1),(6,.rd z0k r1.2.1),(24,.rd z0l s3)] [(1,some (q0_0,.list u8R 5 l0_0)),(2,some (p0_0,.box 112 [.vw u8R q0_0 l0_0 c0_0.b,.rd z0l c0_0.bad]))] aa ww) ?_ (fun s3=>?_)
 ·refine z20<|Zm Z<|Zq (I.neq Z Z)<|Zm Z<|z19 19 Z (fun h4=>?_) (fun h4=>?_)
  ·refine lKn 18 Z h4<|Zk Z<|Zk Z<|Zk Z<|Zk Z<|Zq (pkT Z Z)<|z1g<|z2q (fun aa ww h=>Zu h [1,2])
  ·refine lKn 18 Z h4<|z0w Zx Z Z (mv Z)<|z0w Zx Z Z (mv Z)<|z0w Zx Z Z (I.toU Z tu3 tu35)<|z0w Zx Z Z (U.gtr Z Z)<|Zq (pkF Z Z)<|z1g<|z2q (fun aa ww h=>Zu h [1,2])
 ·refine gIf Z Z (fun h5=>?_) (fun h5=>?_)
  ·refine gSR<|Zm Z<|Zq (zq2 2 Z Z)<|Zq (faB 2 Z Z Tryz.underlying112 Z (by exact ti4))<|Es (sto 2 Z Z (Foc.cast (Foc.next z6n fH) Z) Z ti4)<|Zn<|gSR<|Zb Z<|z0o<|z0q<|Ze [] [1,2] Z
  ·refine Zt<|gSR<|Zm Z<|Zm Z<|Zq (zq2 2 Z Z)<|Zq (faB 2 Z Z Tryz.underlying112 Z (by exact zcr))<|Zq (ldW 2 Z Z (At.cast At.here Z) sc52 Z)<|Zm Z<|z0m fun x6 h7=>Zq (cutQ 1 Z vwI Z (.to Z) .no h7 tu52 ti5)<|Zq (zq2 2 Z Z)<|Zq (faB 2 Z Z Tryz.underlying112 Z (by exact zcr))<|Es (zqr 2 Z Z (z6z.cast (z6z.here z6n) Z) Z znt z6n zcr)<|Zn<|gSR<|Zm Z<|Zq (U.toI Z tu35 tu3)<|Za Z<|z1o 4 Z fun y8=>Zn<|z0o<|Ze [] [1,2] Z
def zd8 (c0_0:z0e):Option (V3 × z0e) :=
 if decide ((c0_0.b.length:Int)<32) then
  some ((Vector.replicate 32 0),(⟨c0_0.b,true⟩:z0e))
 else
  cut c0_0.b ((min c0_0.b.length 32:Nat):Int) (c0_0.b.length:Int) >>= fun x4 =>
  some (zg4 (Vector.replicate 32 0) c0_0.b,(⟨x4,c0_0.bad⟩:z0e))
theorem zj4 (p0_0:Value) (q0_0:Value) (l0_0:List UInt8) (c0_0:z0e):z2b Tryz.prog 114 [.val (z0j p0_0 0)] [(1,some (q0_0,.list u8R 5 l0_0)),(2,some (p0_0,.box 112 [.vw u8R q0_0 l0_0 c0_0.b,.rd z0l c0_0.bad]))] (zd8 c0_0) (fun r nv=>⟨[.rd aZ r.1],[(1,some (q0_0,.list u8R 5 l0_0)),(2,some (p0_0,.box 112 [.vw u8R q0_0 l0_0 r.2.b,.rd z0l r.2.bad]))]⟩):=by
 refine z2n 29 Tryz.func114 Z Z Z fun H w=>?_;refine gSR<|Eb Z (zad 3 z40 (.zr (R:=aZ) (x:=(Vector.replicate 32 0)) zl9)) fun v1=>Zn<|gSR<|Eb Z (zad 4 z40 (.zr (R:=aZ) (x:=(Vector.replicate 32 0)) zl9)) fun v2=>Zn<|z0v<|gSR<|Zm Z<|Zq (zq2 2 Z Z)<|Zq (faB 2 Z Z Tryz.underlying112 Z (by exact zcr))<|Zq (ldW 2 Z Z (At.cast At.here Z) sc52 Z)<|Zq (z2v Z (.vw 1 Z) Z tu52)<|Zq (I.lss Z Z)<|Zj Z (fun h3=>?_) (fun h3=>?_)
 ·refine gSR<|Zm Z<|Zq (zq2 2 Z Z)<|Zq (faB 2 Z Z Tryz.underlying112 Z (by exact ti4))<|Es (sto 2 Z Z (Foc.cast (Foc.next z6n fH) Z) Z ti4)<|Zn<|gSR<|Zq (ld 4 Z Z fH z83 Z)<|Es (sto 3 Z Z fH Z z40)<|Zn<|z0o<|z0q<|zb3 [] [1,2] Z (eC 3 Z Z z83<|eN) (Zi Z<|Zi Z<|rN)
 ·refine Zt<|z0v<|z8g [2,4] mixed Z Z<|hTk 0 Z Z (mv Z)<|hTk 1 Z Z (mv Z)<|hTk 2 Z Z (zq2 2 Z Z)<|hTk 3 Z Z (faB 2 Z Z Tryz.underlying112 Z (by exact zcr))<|hTk 5 Z Z (cutW 4 Z Z fH tu45 ti5 Z)<|hTk 6 Z Z (mv Z)<|hTk 7 Z Z (zq2 2 Z Z)<|hTk 8 Z Z (faB 2 Z Z Tryz.underlying112 Z (by exact zcr))<|hAlt [4,9] (by kernel_rfl) Z ⟨?_,?_,trivial⟩
  ·refine oRun 4 Z (gd0 Z) Z Z znz (ldW 2 Z Z (At.cast At.here Z) sc52 Z)<|zxz 9 Z (by kernel_rfl) (gd0 Z) Z Z znz (ldW 2 Z Z (At.cast At.here Z) sc52 Z)<|hDoW 10 Z (by kernel_rfl) (gd0 Z) Z Z Z Z Z _ zw4 (cpyV 4 Z Z fH Z (.vw 1 Z) Z tu52 ti5)<|z3s fun x4 h5=>hTk 11 Z Z (cutQ 1 Z vwI Z (.to Z) .no h5 tu52 ti5)<|hTk 12 Z Z (zq2 2 Z Z)<|hTk 13 Z Z (faB 2 Z Z Tryz.underlying112 Z (by exact zcr))<|Zp 14 Z Z Z Z Z (zqr 2 Z Z (z6z.cast (z6z.here z6n) Z) Z znt z6n zcr)<|z4t (by kernel_rfl)<|z0z<|gSR<|Zq (ld 4 Z Z fH z83 Z)<|Es (sto 3 Z Z fH Z z40)<|Zn<|z0o<|zb3 [] [1,2] Z (eC 3 Z Z z83<|eN) (Zi Z<|Zi Z<|rN)
  ·refine oRun 9 Z (gd0 Z) Z Z znz (ldW 2 Z Z (At.cast At.here Z) sc52 Z)<|hAlt [4,10] (by kernel_rfl) Z ⟨?_,?_,trivial⟩
   ·refine oRun 4 Z (gd0 Z) Z Z znz (ldW 2 Z Z (At.cast At.here Z) sc52 Z)<|hDoW 10 Z (by kernel_rfl) (gd0 Z) Z Z Z Z Z _ zw4 (cpyV 4 Z Z fH Z (.vw 1 Z) Z tu52 ti5)<|z3s fun x6 h7=>hTk 11 Z Z (cutQ 1 Z vwI Z (.to Z) .no h7 tu52 ti5)<|hTk 12 Z Z (zq2 2 Z Z)<|hTk 13 Z Z (faB 2 Z Z Tryz.underlying112 Z (by exact zcr))<|Zp 14 Z Z Z Z Z (zqr 2 Z Z (z6z.cast (z6z.here z6n) Z) Z znt z6n zcr)<|z4t (by kernel_rfl)<|z0z<|gSR<|Zq (ld 4 Z Z fH z83 Z)<|Es (sto 3 Z Z fH Z z40)<|Zn<|z0o<|zb3 [] [1,2] Z (eC 3 Z Z z83<|eN) (Zi Z<|Zi Z<|rN)
   ·refine oDoW 10 Z (gd0 Z) Z Z Z Z Z _ zw4 (cpyV 4 Z Z fH Z (.vw 1 Z) Z tu52 ti5)<|zxz 4 Z (by kernel_rfl) (gd0 Z) Z Z znz (ldW 2 Z Z (At.cast At.here Z) sc52 Z)<|z3s fun x8 h9=>hTk 11 Z Z (cutQ 1 Z vwI Z (.to Z) .no h9 tu52 ti5)<|hTk 12 Z Z (zq2 2 Z Z)<|hTk 13 Z Z (faB 2 Z Z Tryz.underlying112 Z (by exact zcr))<|Zp 14 Z Z Z Z Z (zqr 2 Z Z (z6z.cast (z6z.here z6n) Z) Z znt z6n zcr)<|z4t (by kernel_rfl)<|z0z<|gSR<|Zq (ld 4 Z Z fH z83 Z)<|Es (sto 3 Z Z fH Z z40)<|Zn<|z0o<|zb3 [] [1,2] Z (eC 3 Z Z z83<|eN) (Zi Z<|Zi Z<|rN)
def z3w (a1:List V3) (r14:Int × z0e) (s16:(List UInt8) × Bool × (List V3) × Int):Option (Sum ((List V3) × (List UInt8) × Bool) ((List UInt8) × Bool × (List V3) × Int)) :=
 if decide (s16.2.2.2<r14.1) then
  z5y (⟨s16.1,s16.2.1⟩:z0e) (a1.length:Int) >>= fun r19 =>
  if decide (0<r19.1) then
   idx a1 (w64 ((a1.length:Int) - r19.1)) >>= fun x22 =>
   app 32 s16.2.2.1 [x22] >>= fun x25 =>
   some (.inr (r19.2.b,r19.2.bad,x25,w64 (s16.2.2.2+1)))
  else
   if !r19.2.bad then
    zd8 r19.2 >>= fun r33 =>
    app 32 s16.2.2.1 [r33.1] >>= fun x36 =>
    some (.inr (r33.2.b,r33.2.bad,x36,w64 (s16.2.2.2+1)))
   else
    some (.inr (r19.2.b,r19.2.bad,s16.2.2.1,w64 (s16.2.2.2+1)))
 else
  some (.inl (s16.2.2.1,s16.1,s16.2.1))
def z4r (c0_0:z0e) (a1:List V3):Option (z03 × z0e) :=
 z49 c0_0.b 400 >>= fun r2 =>
 if r2.2.2 != 0 then
  some ((⟨0,[],0,(⟨0,[],(⟨0,0,0,[]⟩:z01)⟩:z0a),(⟨0,0⟩:z0b)⟩:z03),(⟨c0_0.b,true⟩:z0e))
 else
  cut c0_0.b r2.2.1 (c0_0.b.length:Int) >>= fun x5 =>
  zck r2.1 >>= fun r7 =>
  (if r7.2 != 0 then
   some true
  else
   some (decide (0<(r7.1.Preds.length:Int)))) >>= fun s10 =>
  if s10 then
   some ((⟨0,[],0,(⟨0,[],(⟨0,0,0,[]⟩:z01)⟩:z0a),(⟨0,0⟩:z0b)⟩:z03),(⟨x5,true⟩:z0e))
  else
   (z5y (⟨x5,c0_0.bad⟩:z0e) 4 >>= fun r14 =>
   iter (z3w a1 r14) (r14.2.b,r14.2.bad,r7.1.Preds,0)) >>= fun s13 =>
   some ((⟨r7.1.Author,s13.1,r7.1.Stamp,r7.1.Act,r7.1.Sig⟩:z03),(⟨s13.2.1,s13.2.2⟩:z0e))
set_option maxHeartbeats 4000000 in
theorem zdg (p0_0:Value) (q0_0:Value) (l0_0:List UInt8) (c0_0:z0e) (a1:List V3) (q1:Value) (l1:List V3):z2b Tryz.prog 64 [.val (z0j p0_0 0),.vw aZ q1 l1 a1] [(1,some (q0_0,.list u8R 5 l0_0)),(2,some (p0_0,.box 112 [.vw u8R q0_0 l0_0 c0_0.b,.rd z0l c0_0.bad])),(3,some (q1,.list aZ 45 l1))] (z4r c0_0 a1) (fun r nv=>⟨[.rd z05 r.1],[(1,some (q0_0,.list u8R 5 l0_0)),(2,some (p0_0,.box 112 [.vw u8R q0_0 l0_0 r.2.b,.rd z0l r.2.bad])),(3,some (q1,.list aZ 45 l1))]⟩):=by
 refine z2n 87 Tryz.func64 Z Z Z fun H w=>?_;refine gSR<|Eb Z (zad 4 z6w (ZrE.rd (R:=z0x) (x:=0) (Zr.num Z) (ZrE.nilS (ZrE.rd (R:=z1p) (x:=0) (Zr.num Z) (ZrE.rd (R:=z07) (x:=(⟨0,[],(⟨0,0,0,[]⟩:z01)⟩:z0a)) zja (ZrE.rd (R:=z09) (x:=(⟨0,0⟩:z0b)) zln ZrE.nil Z) Z) Z)) Z)) fun v1=>Zn<|gSR<|Zm Z<|Zq (zq2 2 Z Z)<|Zq (faB 2 Z Z Tryz.underlying112 Z (by exact zcr))<|Zq (ldW 2 Z Z (At.cast At.here Z) sc52 Z)<|Zc [1] [(100,5),(1,1)] Tryz.func112 Z (zhy _ _ _ _) fun r2 n3=>Zm Z<|Zq (ext Z Z)<|Zq (ext Z Z)<|Zq (ext Z Z)<|Za Z<|Za Z<|Zb Z<|z0v<|gSR<|Zm Z<|Zq (I.neq Z Z)<|Zj Z (fun h4=>?_) (fun h4=>?_)
 ·refine gSR<|Zm Z<|Zq (zq2 2 Z Z)<|Zq (faB 2 Z Z Tryz.underlying112 Z (by exact ti4))<|Es (sto 2 Z Z (Foc.cast (Foc.next z6n fH) Z) Z ti4)<|Zn<|gSR<|Zq (bldE [(0,1),(1,1),(2,1),(3,6),(9,2)] Tryz.underlying43 z6w (ZrE.rd (R:=z0x) (x:=0) (Zr.num Z) (ZrE.nilS (ZrE.rd (R:=z1p) (x:=0) (Zr.num Z) (ZrE.rd (R:=z07) (x:=(⟨0,[],(⟨0,0,0,[]⟩:z01)⟩:z0a)) zja (ZrE.rd (R:=z09) (x:=(⟨0,0⟩:z0b)) zln ZrE.nil Z) Z) Z)) Z) Z (zmf.done Z))<|Es (zqo 4 Z Z (z02.cast (z02.cons z00 (z02.cons z0c (z02.cons z00 (z02.cons z00 (z02.cons z00 z02.nil))))) Z) Z (z0i.cons z06 (z0i.cons z1d (z0i.cons z06 (z0i.cons z06 (z0i.cons z06 z0i.nil))))) (z02.cast (z02.cons z00 (z02.cons z0c (z02.cons z00 (z02.cons z00 (z02.cons z00 z02.nil))))) Z) z6w)<|Zn<|z0o<|z0q<|ePnl aZ [.rd z0x 0,.rd (z04 aZ) [],.rd z1p 0,.rd z07 (⟨0,[],(⟨0,0,0,[]⟩:z01)⟩:z0a),.rd z09 (⟨0,0⟩:z0b)] 4 [.rd z0x 0] [.rd z1p 0,.rd z07 (⟨0,[],(⟨0,0,0,[]⟩:z01)⟩:z0a),.rd z09 (⟨0,0⟩:z0b)] Z Z Z<|eJoi (R:=z05) (⟨0,[],0,(⟨0,[],(⟨0,0,0,[]⟩:z01)⟩:z0a),(⟨0,0⟩:z0b)⟩:z03) 4 Z (Sp.via (Sp.prod (Sp.prod (Sp.prod (Sp.prod (Sp.prod Sp.unit))))))<|zb3 [] [1,2,3] Z (eC 4 Z Z z8y<|eN) (Zi Z<|Zi Z<|Zi Z<|rN)
 ·refine Zt<|gSR<|Zm Z<|Zm Z<|Zq (zq2 2 Z Z)<|Zq (faB 2 Z Z Tryz.underlying112 Z (by exact zcr))<|Zq (ldW 2 Z Z (At.cast At.here Z) sc52 Z)<|Zm Z<|z0m fun x5 h6=>Zq (cutQ 1 Z vwI Z (.to Z) .no h6 tu52 ti5)<|Zq (zq2 2 Z Z)<|Zq (faB 2 Z Z Tryz.underlying112 Z (by exact zcr))<|Es (zqr 2 Z Z (z6z.cast (z6z.here z6n) Z) Z znt z6n zcr)<|Zn<|gSR<|Zm Z<|zf4 5 [16,5,35] Z (fS Z<|fS Z<|fS Z<|fN)<|Zc [] [(100,6)] Tryz.func113 Z (zog _) fun r7 n8=>Zm Z<|Zq (ext Z Z)<|Zq (ext Z Z)<|Eb Z (zad 7 z6w (ZrE.rd (R:=z0x) (x:=0) (Zr.num Z) (ZrE.nilS (ZrE.rd (R:=z1p) (x:=0) (Zr.num Z) (ZrE.rd (R:=z07) (x:=(⟨0,[],(⟨0,0,0,[]⟩:z01)⟩:z0a)) zja (ZrE.rd (R:=z09) (x:=(⟨0,0⟩:z0b)) zln ZrE.nil Z) Z) Z)) Z)) fun v9=>Es (zqo 7 Z Z (z02.cast (z02.cons z00 (z02.cons z0c (z02.cons z00 (z02.cons z00 (z02.cons z00 z02.nil))))) Z) Z (z0i.cons z06 (z0i.cons z1d (z0i.cons z06 (z0i.cons z06 (z0i.cons z06 z0i.nil))))) (z02.cast (z02.cons z00 (z02.cons z0c (z02.cons z00 (z02.cons z00 (z02.cons z00 z02.nil))))) Z) z6w)<|Zb Z<|z0v<|z68 (fun (s10:Bool) aa ww=>Sta (ctx 87 H [(1,some (q0_0,.list u8R 5 l0_0)),(2,some (p0_0,.box 112 [.vw u8R q0_0 l0_0 c0_0.b,.rd z0l c0_0.bad])),(3,some (q1,.list aZ 45 l1))] w) [(0,.val (z0j p0_0 0)),(1,.vw aZ q1 l1 a1),(4,.val (z0j v1 0)),(8,.val (z0j v9 0)),(46,.rd z0l s10)] [(1,some (q0_0,.list u8R 5 l0_0)),(2,some (p0_0,.box 112 [.vw u8R q0_0 l0_0 x5,.rd z0l c0_0.bad])),(3,some (q1,.list aZ 45 l1)),(4,some (v1,.box 43 [.rd z0x 0,.val (.slice none 0 0),.rd z1p 0,.rd z07 (⟨0,[],(⟨0,0,0,[]⟩:z01)⟩:z0a),.rd z09 (⟨0,0⟩:z0b)])),(6,some ((n8 0),.list aZ 45 r7.1.Preds)),(7,some (v9,.box 43 [.rd z0x r7.1.Author,.val (n8 0),.rd z1p r7.1.Stamp,.rd z07 r7.1.Act,.rd z09 r7.1.Sig]))] aa ww) ?_ (fun s10=>?_)
  ·refine z20<|Zm Z<|Zq (I.neq Z Z)<|Zm Z<|z19 41 Z (fun h11=>?_) (fun h11=>?_)
   ·refine lKn 40 Z h11<|Zk Z<|Zk Z<|Zk Z<|Zk Z<|Zq (pkT Z Z)<|z1g<|z2q (fun aa ww h=>Zu h [1,2,3,4,6,7])
   ·refine lKn 40 Z h11<|z0w Zx Z Z (faB 7 Z Z Tryz.underlying43 Z (by exact za8))<|z0w Zx Z Z (ldV 7 Z Z (At.cast (At.next z00 At.here) Z) sc29 Z)<|z0w Zx Z Z (z2v Z (.own 6 Z) Z tu29)<|z0w Zx Z Z (I.gtr Z Z)<|Zq (pkF Z Z)<|z1g<|z2q (fun aa ww h=>Zu h [1,2,3,4,6,7])
  ·refine gIf Z Z (fun h12=>?_) (fun h12=>?_)
   ·refine gSR<|Zm Z<|Zq (zq2 2 Z Z)<|Zq (faB 2 Z Z Tryz.underlying112 Z (by exact ti4))<|Es (sto 2 Z Z (Foc.cast (Foc.next z6n fH) Z) Z ti4)<|Zn<|gSR<|Zq (bldE [(0,1),(1,1),(2,1),(3,6),(9,2)] Tryz.underlying43 z6w (ZrE.rd (R:=z0x) (x:=0) (Zr.num Z) (ZrE.nilS (ZrE.rd (R:=z1p) (x:=0) (Zr.num Z) (ZrE.rd (R:=z07) (x:=(⟨0,[],(⟨0,0,0,[]⟩:z01)⟩:z0a)) zja (ZrE.rd (R:=z09) (x:=(⟨0,0⟩:z0b)) zln ZrE.nil Z) Z) Z)) Z) Z (zmf.done Z))<|Es (zqo 4 Z Z (z02.cast (z02.cons z00 (z02.cons z0c (z02.cons z00 (z02.cons z00 (z02.cons z00 z02.nil))))) Z) Z (z0i.cons z06 (z0i.cons z1d (z0i.cons z06 (z0i.cons z06 (z0i.cons z06 z0i.nil))))) (z02.cast (z02.cons z00 (z02.cons z0c (z02.cons z00 (z02.cons z00 (z02.cons z00 z02.nil))))) Z) z6w)<|Zn<|z0o<|z0q<|ePnl aZ [.rd z0x 0,.rd (z04 aZ) [],.rd z1p 0,.rd z07 (⟨0,[],(⟨0,0,0,[]⟩:z01)⟩:z0a),.rd z09 (⟨0,0⟩:z0b)] 4 [.rd z0x 0] [.rd z1p 0,.rd z07 (⟨0,[],(⟨0,0,0,[]⟩:z01)⟩:z0a),.rd z09 (⟨0,0⟩:z0b)] Z Z Z<|eJoi (R:=z05) (⟨0,[],0,(⟨0,[],(⟨0,0,0,[]⟩:z01)⟩:z0a),(⟨0,0⟩:z0b)⟩:z03) 4 Z (Sp.via (Sp.prod (Sp.prod (Sp.prod (Sp.prod (Sp.prod Sp.unit))))))<|zb3 [] [1,2,3] Z (eC 4 Z Z z8y<|eN) (Zi Z<|Zi Z<|Zi Z<|rN)
   ·refine Zt<|z68 (fun (s13:(List V3) × (List UInt8) × Bool) aa ww=>∃ nv:Nat→Value,Sta (ctx 87 H [(1,some (q0_0,.list u8R 5 l0_0)),(2,some (p0_0,.box 112 [.vw u8R q0_0 l0_0 c0_0.b,.rd z0l c0_0.bad])),(3,some (q1,.list aZ 45 l1))] w) [(4,.val (z0j v1 0)),(8,.val (z0j v9 0))] [(4,some (v1,.box 43 [.rd z0x 0,.val (.slice none 0 0),.rd z1p 0,.rd z07 (⟨0,[],(⟨0,0,0,[]⟩:z01)⟩:z0a),.rd z09 (⟨0,0⟩:z0b)])),(6,some ((nv 0),.list aZ 45 s13.1)),(7,some (v9,.box 43 [.rd z0x r7.1.Author,.val (nv 0),.rd z1p r7.1.Stamp,.rd z07 r7.1.Act,.rd z09 r7.1.Sig])),(1,some (q0_0,.list u8R 5 l0_0)),(2,some (p0_0,.box 112 [.vw u8R q0_0 l0_0 s13.2.1,.rd z0l s13.2.2])),(3,some (q1,.list aZ 45 l1))] aa ww) ?_ (fun s13=>?_)
    ·refine gSR<|Zm Z<|Zc [1,2] [(1,1),(2,2)] Tryz.func63 Z (z88 _ _ _ _ _) fun r14 n15=>Zm Z<|Zn<|z2a (fun (s16:(List UInt8) × Bool × (List V3) × Int) aa ww=>∃ nv:Nat→Value,Sta (ctx 87 H [(1,some (q0_0,.list u8R 5 l0_0)),(2,some (p0_0,.box 112 [.vw u8R q0_0 l0_0 c0_0.b,.rd z0l c0_0.bad])),(3,some (q1,.list aZ 45 l1))] w) [(0,.val (z0j p0_0 0)),(1,.vw aZ q1 l1 a1),(4,.val (z0j v1 0)),(8,.val (z0j v9 0)),(52,.rd z0k r14.1),(53,.rd z0k s16.2.2.2)] [(1,some (q0_0,.list u8R 5 l0_0)),(2,some (p0_0,.box 112 [.vw u8R q0_0 l0_0 s16.1,.rd z0l s16.2.1])),(3,some (q1,.list aZ 45 l1)),(4,some (v1,.box 43 [.rd z0x 0,.val (.slice none 0 0),.rd z1p 0,.rd z07 (⟨0,[],(⟨0,0,0,[]⟩:z01)⟩:z0a),.rd z09 (⟨0,0⟩:z0b)])),(6,some ((nv 0),.list aZ 45 s16.2.2.1)),(7,some (v9,.box 43 [.rd z0x r7.1.Author,.val (nv 0),.rd z1p r7.1.Stamp,.rd z07 r7.1.Act,.rd z09 r7.1.Sig]))] aa ww) (fun aa ww h=>⟨nvl [(n8 0)],Zu h [1,2,3,4,6,7]⟩) (fun s16=>?_)
     refine gEx fun n17=>gSR<|Zq (I.lss Z Z)<|Zn<|z0v<|gIf Z Z (fun h18=>?_) (fun h18=>?_)
     ·refine Zt<|z0v<|z5b<|gSR<|Zm Z<|Zm Z<|Zq (z2v Z (.vw 3 Z) Z tu29)<|Zc [1,2] [(1,1),(2,2)] Tryz.func63 Z (z88 _ _ _ _ _) fun r19 n20=>Zb Z<|gSR<|Zm Z<|Zq (I.gtr Z Z)<|Zj Z (fun h21=>?_) (fun h21=>?_)
      ·refine z8g [6,7,35] mixed Z Z<|hTk 0 Z Z (faB 7 Z Z Tryz.underlying43 Z (by exact za8))<|hTk 2 Z Z (mv Z)<|hTk 3 Z Z (mv Z)<|hTk 4 Z Z (z2v Z (.vw 3 Z) Z tu29)<|hTk 5 Z Z (mv Z)<|hTk 6 Z Z (I.sub Z Z)<|z3s fun x22 h23=>hTk 7 Z Z (ixQ 3 Z Z Z h23 tu29 z40)<|hTk 8 Z Z (ldQ 3 Z Z z83 Z)<|hAlt [1,9] (by kernel_rfl) Z ⟨?_,?_,trivial⟩
       ·refine oRun 1 Z (gd0 Z) Z Z z36 (ldV 7 Z Z (At.cast (At.next z00 At.here) Z) sc29 Z)<|Zo 9 Z Z Z (lit (R:=aZ) ([x22]:List V3) 35 (pP Z Z<|pN) Z tu29 z40 Z Z) fun v24=>zyi 35 [70] Z (fS Z<|fN)<|z3s fun x25 h26=>Zo 10 Z Z Z (apn 6 Z Z Z .rd h26 tu29 z40 Z Z Z) fun v27=>hTk 11 Z Z (faB 7 Z Z Tryz.underlying43 Z (by exact za8))<|Zp 12 Z Z Z Z Z (zqr 7 Z Z (z6z.cast (z6z.next z00 (z6z.here z0c)) Z) Z z1d z0c za8)<|z4t (by kernel_rfl)<|z3f<|z0z<|z20<|Zq (I.add Z Z)<|Zm Z<|z1g<|z1q (fun aa ww h=>⟨nvl [v27],Zu h [1,2,3,4,6,7]⟩)
       ·refine oDo 9 Z (gd0 Z) Z Z Z (lit (R:=aZ) ([x22]:List V3) 35 (pP Z Z<|pN) Z tu29 z40 Z Z) (fun _=>rfl) fun v28=>zxz 1 Z (by kernel_rfl) (gd0 Z) Z Z z36 (ldV 7 Z Z (At.cast (At.next z00 At.here) Z) sc29 Z)<|zyi 35 [70] Z (fS Z<|fN)<|z3s fun x29 h30=>Zo 10 Z Z Z (apn 6 Z Z Z .rd h30 tu29 z40 Z Z Z) fun v31=>hTk 11 Z Z (faB 7 Z Z Tryz.underlying43 Z (by exact za8))<|Zp 12 Z Z Z Z Z (zqr 7 Z Z (z6z.cast (z6z.next z00 (z6z.here z0c)) Z) Z z1d z0c za8)<|z4t (by kernel_rfl)<|z3f<|z0z<|z20<|Zq (I.add Z Z)<|Zm Z<|z1g<|z1q (fun aa ww h=>⟨nvl [v31],Zu h [1,2,3,4,6,7]⟩)
      ·refine gSR<|Zm Z<|Zq (zq2 2 Z Z)<|Zq (faB 2 Z Z Tryz.underlying112 Z (by exact ti4))<|Zq (ld 2 Z Z (Foc.cast (Foc.next z6n fH) Z) ty4 Z)<|Zq (zex Z)<|Zj Z (fun h32=>?_) (fun h32=>?_)
       ·refine gSub [(0,.val (z0j p0_0 0)),(1,.vw aZ q1 l1 a1),(4,.val (z0j v1 0)),(8,.val (z0j v9 0)),(52,.rd z0k r14.1),(53,.rd z0k s16.2.2.2)] [(1,some (q0_0,.list u8R 5 l0_0)),(2,some (p0_0,.box 112 [.vw u8R q0_0 l0_0 r19.2.b,.rd z0l r19.2.bad])),(3,some (q1,.list aZ 45 l1)),(4,some (v1,.box 43 [.rd z0x 0,.val (.slice none 0 0),.rd z1p 0,.rd z07 (⟨0,[],(⟨0,0,0,[]⟩:z01)⟩:z0a),.rd z09 (⟨0,0⟩:z0b)])),(6,some ((n17 0),.list aZ 45 s16.2.2.1)),(7,some (v9,.box 43 [.rd z0x r7.1.Author,.val (n17 0),.rd z1p r7.1.Stamp,.rd z07 r7.1.Act,.rd z09 r7.1.Sig]))] [1,2,3,4,6,7] (Zs Z Z Z Z<|sS Z<|sS Z<|sN) (Zi Z<|Zi Z<|Zi Z<|Zi Z<|Zi Z<|Zi Z<|rN)<|zez fun r33 h35=>zez fun x36 h37=>gOr [] [⟨7,some ([], fun nv=>(v9,.box 43 [.rd z0x r7.1.Author,.val (n17 0),.rd z1p r7.1.Stamp,.rd z07 r7.1.Act,.rd z09 r7.1.Sig])),[(7,some ([2], fun nv=>(v9,.box 43 [.rd z0x r7.1.Author,.val (nv 2),.rd z1p r7.1.Stamp,.rd z07 r7.1.Act,.rd z09 r7.1.Sig])))]⟩,⟨2,some ([], fun nv=>(p0_0,.box 112 [.vw u8R q0_0 l0_0 r19.2.b,.rd z0l r19.2.bad])),[(3,some ([], fun nv=>(p0_0,.box 112 [.vw u8R q0_0 l0_0 r33.2.b,.rd z0l r33.2.bad])))]⟩,⟨1,some ([], fun nv=>(q0_0,.list u8R 5 l0_0)),[]⟩,⟨50,none,[(4,none)]⟩,⟨6,some ([], fun nv=>((n17 0),.list aZ 45 s16.2.2.1)),[(5,some ([2], fun nv=>((nv 2),.list aZ 45 x36)))]⟩] [pk 78 (.val (z0j v9 (0+1))) [(0,0,false)],pk 79 (.val (n17 0)) [(0,0,false)],pd 80 (.val (z0j p0_0 0)),pk 81 (.rd aZ r33.1) [(1,0,true),(2,0,false)],⟨some (82,[], fun nv=>.rd (z04 aZ) [r33.1]),[(3,0,true)],[1],[]⟩,⟨some (83,[2], fun nv=>.val (nv 2)),[(4,0,true)],[2],[]⟩,pk 84 (.val (z0j v9 (0+1))) [(0,0,false)],⟨none,[(4,1,false),(0,0,true)],[],[]⟩] mixed (oC (oRn (fun nv E=>faB 7 Z Z Tryz.underlying43 Z (by exact za8)))<|oC (oRn (fun nv E=>ldV 7 Z Z (At.cast (At.next z00 At.here) Z) sc29 Z))<|oC (oRn (fun nv E=>mv Z))<|oC (oCl [] [1,2] [(1,1),(2,2)] h35 Tryz.func114 Z (fun nv=>(zj4 _ _ _ _)) (fun nv=>(Y1 Z)) (fun nv E=>(Zi Z<|Zi Z<|rN)))<|oC (oFz (A1:=fun nv=>[(50,some ((nv 1),.list aZ 45 [r33.1]))]) 50 1 (oEf 50 1 (fun nv E=>lit (R:=aZ) ([r33.1]:List V3) 50 (pP Z Z<|pN) Z tu29 z40 Z Z)))<|oC (oEf 6 2 (fun nv E=>apn 6 Z Z Z .rd h37 tu29 z40 Z Z Z))<|oC (oRn (fun nv E=>faB 7 Z Z Tryz.underlying43 Z (by exact za8)))<|oC (oEs 7 (fun nv E=>zqr 7 Z Z (z6z.cast (z6z.next z00 (z6z.here z0c)) Z) Z z1d z0c za8))<|oN) fun n38=>z3f<|z0z<|z20<|Zq (I.add Z Z)<|Zm Z<|z1g<|z1q (fun aa ww h=>⟨nvl [(n38 2)],Zu h [1,2,3,4,6,7]⟩)
       ·refine z31<|z3f<|z0z<|z20<|Zq (I.add Z Z)<|Zm Z<|z1g<|z1q (fun aa ww h=>⟨nvl [(n17 0)],Zu h [1,2,3,4,6,7]⟩)
     ·refine z21<|z15<|z17<|z2q (fun aa ww h=>⟨nvl [(n17 0)],Zu h [4,6,7,1,2,3]⟩)
    ·refine gEx fun n39=>gSR<|lPow [.rd z0x r7.1.Author,.rd (z04 aZ) s13.1,.rd z1p r7.1.Stamp,.rd z07 r7.1.Act,.rd z09 r7.1.Sig] 7 6 [.rd z0x r7.1.Author] [.rd z1p r7.1.Stamp,.rd z07 r7.1.Act,.rd z09 r7.1.Sig] Z Z Z Z Z<|zmr (R:=z05) (⟨r7.1.Author,s13.1,r7.1.Stamp,r7.1.Act,r7.1.Sig⟩:z03) 7 Z (Sp.via (Sp.prod (Sp.prod (Sp.prod (Sp.prod (Sp.prod Sp.unit))))))<|Zq (ld 7 Z Z fH z8y Z)<|ztm aZ [.rd z0x 0,.rd (z04 aZ) [],.rd z1p 0,.rd z07 (⟨0,[],(⟨0,0,0,[]⟩:z01)⟩:z0a),.rd z09 (⟨0,0⟩:z0b)] 4 [.rd z0x 0] [.rd z1p 0,.rd z07 (⟨0,[],(⟨0,0,0,[]⟩:z01)⟩:z0a),.rd z09 (⟨0,0⟩:z0b)] Z Z Z<|zmr (R:=z05) (⟨0,[],0,(⟨0,[],(⟨0,0,0,[]⟩:z01)⟩:z0a),(⟨0,0⟩:z0b)⟩:z03) 4 Z (Sp.via (Sp.prod (Sp.prod (Sp.prod (Sp.prod (Sp.prod Sp.unit))))))<|Es (sto 4 Z Z fH Z z6w)<|Zn<|z0o<|zb3 [] [1,2,3] Z (eC 4 Z Z z8y<|eN) (Zi Z<|Zi Z<|Zi Z<|rN)
theorem zj1 (a0:List UInt8) (q0:Value) (l0:List UInt8) (a1:List UInt8) (q1:Value) (l1:List UInt8):z2b Tryz.prog 66 [.vw u8R q0 l0 a0,.vw u8R q1 l1 a1] [(1,some (q0,.list u8R 5 l0)),(2,some (q1,.list u8R 5 l1))] (zdw a0 a1) (fun r nv=>⟨[.rd z0l r],[(1,some (q0,.list u8R 5 l0)),(2,some (q1,.list u8R 5 l1))]⟩):=by
 refine z2n 10 Tryz.func66 Z Z Z fun H w=>?_;refine gSR<|Zb Z<|gSR<|Zm Z<|Zq (cvBQ 1 Z vwI Z tu52 tu5 tu9 Z)<|Zm Z<|Zq (cvBQ 2 Z vwI Z tu52 tu5 tu9 Z)<|Zq (eqS Z Z)<|Zb Z<|z0o<|Ze [] [1,2] Z
def zbk (r10:Int × z0e) (s12:(List UInt8) × Bool × (List z03) × (List V3) × Int):Option (Sum (Sum ((List z03) × Int) ((List UInt8) × Bool × (List z03))) ((List UInt8) × Bool × (List z03) × (List V3) × Int)) :=
 if decide (s12.2.2.2.2<r10.1) then
  z4r (⟨s12.1,s12.2.1⟩:z0e) s12.2.2.2.1 >>= fun r15 =>
  zs2 r15.1 >>= fun r18 =>
  if r15.2.bad then
   some (.inl (.inl ([],12)))
  else
   if r18.2 != 0 then
    some (.inl (.inl ([],12)))
   else
    app 112 s12.2.2.1 [r15.1] >>= fun x23 =>
    app 32 s12.2.2.2.1 [r18.1] >>= fun x25 =>
    some (.inr (r15.2.b,r15.2.bad,x23,x25,w64 (s12.2.2.2.2+1)))
 else
  some (.inl (.inr (s12.1,s12.2.1,s12.2.2.1)))
def zb2 (a0:List UInt8):Option ((List z03) × Int) :=
 if decide (30000<(a0.length:Int)) then
  some ([],4)
 else
  if (a0.length:Int)==0 then
   some ([],12)
  else
   idx a0 0 >>= fun x3 =>
   if x3 != 112 then
    some ([],12)
   else
    cut a0 1 (a0.length:Int) >>= fun x6 =>
    z5o (z5y (⟨x6,false⟩:z0e) 60 >>= fun r10 =>
    iter (zbk r10) (r10.2.b,r10.2.bad,[],[],0)) fun s9 =>
    zb9 s9.2.2 >>= fun r29 =>
    (if s9.2.1 then
     some true
    else
     if r29.2 != 0 then
      some true
     else
      zdw r29.1 a0 >>= fun r34 =>
      some (!r34)) >>= fun s31 =>
    if s31 then
     some ([],12)
    else
     some (s9.2.2,0)
set_option maxHeartbeats 4000000 in
theorem znl (a0:List UInt8) (q0:Value) (l0:List UInt8):z2b Tryz.prog 28 [.vw u8R q0 l0 a0] [(1,some (q0,.list u8R 5 l0)),zG1] (zb2 a0) (fun r nv=>⟨[.rd (z04 z05) r.1,.rd z0k r.2],[(1,some (q0,.list u8R 5 l0)),(1001,some (.bool true,.glob 1 (z43 64 z0x) zah))]⟩):=by
 refine z2n 77 Tryz.func28 Z Z Z fun H w=>?_;refine gSR<|Za Z<|Zb Z<|z0v<|gSR<|Zm Z<|Zq (z2v Z (.vw 1 Z) Z tu52)<|Zq (I.gtr Z Z)<|Zj Z (fun h1=>?_) (fun h1=>?_)
 ·refine gSR<|Za Z<|Zb Z<|z0o<|z0q<|zc8 z05 2 Z<|Ze [] [1,1001] Z
 ·refine Zt<|z0v<|gSR<|Zm Z<|Zq (z2v Z (.vw 1 Z) Z tu52)<|Zq (I.eql Z Z)<|Zm Z<|z19 18 Z (fun h2=>?_) (fun h2=>?_)
  ·refine lKn 17 Z h2<|Zk Z<|Zk Z<|Zk Z<|Zk Z<|Zq (pkT Z Z)<|Zn<|zc7 Z<|gSR<|Za Z<|Zb Z<|z0o<|z0q<|zc8 z05 2 Z<|Ze [] [1,1001] Z
  ·refine lKn 17 Z h2<|z0w Zx Z Z (mv Z)<|z0m fun x3 h4=>z0w Zx Z Z (ixQ 1 Z Z Z h4 tu52 ti5)<|z0w Zx Z Z (ldQ 1 Z Z ty5 Z)<|z0w Zx Z Z (B.neq Z Z)<|Zq (pkF Z Z)<|Zj Z (fun h5=>?_) (fun h5=>?_)
   ·refine gKn 22 Z h5<|gSR<|Za Z<|Zb Z<|z0o<|z0q<|zc8 z05 2 Z<|Ze [] [1,1001] Z
   ·refine gKn 22 Z h5<|Zt<|gSR<|Zm Z<|z0m fun x6 h7=>Zq (cutQ 1 Z vwI Z (.to Z) .no h7 tu52 ti5)<|Zq (bldE [(0,1),(1,1)] Tryz.underlying112 z18u (ZrE.nilS (ZrE.rd (R:=z0l) (x:=false) Zr.bool ZrE.nil Z)) Z (zmf.cons Z Z z6n (z6z.cast (z6z.here z0c) Z)<|zmf.done Z))<|Eb Z (bxG 2 Z) fun v8=>Zb Z<|gSR<|Zb Z<|gSR<|Zb Z<|z7j (fun (s9:(List UInt8) × Bool × (List z03)) aa ww=>∃ nv:Nat→Value,Sta (ctx 77 H [(1,some (q0,.list u8R 5 l0)),zG1] w) [(0,.vw u8R q0 l0 a0),(4,.val (z0j v8 0)),(5,.val (nv 0))] [(1,some (q0,.list u8R 5 l0)),(2,some (v8,.box 112 [.vw u8R q0 l0 s9.1,.rd z0l s9.2.1])),(5,some ((nv 0),.list z05 43 s9.2.2)),zG1] aa ww) ?_ (fun s9=>?_)
    ·refine gSR<|Zm Z<|Zc [1,2] [(1,1),(2,2)] Tryz.func63 Z (z88 _ _ _ _ _) fun r10 n11=>Zm Z<|Zn<|zqy z05 43 1104<|zqy aZ 45 1105<|z2a (fun (s12:(List UInt8) × Bool × (List z03) × (List V3) × Int) aa ww=>∃ nv:Nat→Value,Sta (ctx 77 H [(1,some (q0,.list u8R 5 l0)),zG1] w) [(0,.vw u8R q0 l0 a0),(4,.val (z0j v8 0)),(5,.val (nv 0)),(6,.val (nv 1)),(29,.rd z0k r10.1),(30,.rd z0k s12.2.2.2.2)] [(1,some (q0,.list u8R 5 l0)),(2,some (v8,.box 112 [.vw u8R q0 l0 s12.1,.rd z0l s12.2.1])),(1102,some ((nv 0),.list z05 43 s12.2.2.1)),(1103,some ((nv 1),.list aZ 45 s12.2.2.2.1)),zG1] aa ww) (fun aa ww h=>⟨nvl [(.slice none 0 0),(.slice none 0 0)],Zu h [1,2,1104,1105,1001]⟩) (fun s12=>?_)
     refine gEx fun n13=>gSR<|Zq (I.lss Z Z)<|Zn<|z0v<|gIf Z Z (fun h14=>?_) (fun h14=>?_)
     ·refine Zt<|z0v<|z5b<|gSR<|Zm Z<|Zm Z<|call [1,2,1103] [(1,1),(2,2),(3,1103)] Z Tryz.func64 Z Z (zdg _ _ _ _ _ _ _) (aQ Z<|aW Z<|aN) (Zi Z<|Zi Z<|Zi Z<|rN) fun r15 n16=>Eb Z (zad 1106 z6w (ZrE.rd (R:=z0x) (x:=0) (Zr.num Z) (ZrE.nilS (ZrE.rd (R:=z1p) (x:=0) (Zr.num Z) (ZrE.rd (R:=z07) (x:=(⟨0,[],(⟨0,0,0,[]⟩:z01)⟩:z0a)) zja (ZrE.rd (R:=z09) (x:=(⟨0,0⟩:z0b)) zln ZrE.nil Z) Z) Z)) Z)) fun v17=>ztm aZ [.rd z0x 0,.rd (z04 aZ) [],.rd z1p 0,.rd z07 (⟨0,[],(⟨0,0,0,[]⟩:z01)⟩:z0a),.rd z09 (⟨0,0⟩:z0b)] 1106 [.rd z0x 0] [.rd z1p 0,.rd z07 (⟨0,[],(⟨0,0,0,[]⟩:z01)⟩:z0a),.rd z09 (⟨0,0⟩:z0b)] Z Z Z<|zmr (R:=z05) (⟨0,[],0,(⟨0,[],(⟨0,0,0,[]⟩:z01)⟩:z0a),(⟨0,0⟩:z0b)⟩:z03) 1106 Z (Sp.via (Sp.prod (Sp.prod (Sp.prod (Sp.prod (Sp.prod Sp.unit))))))<|Es (sto 1106 Z Z fH Z z6w)<|Zn<|gSR<|Zq (ld 1106 Z Z fH z8y Z)<|Zc [1001] [] Tryz.func65 Z (zqf _) fun r18 n19=>Zm Z<|Zq (ext Z Z)<|Zq (ext Z Z)<|Eb Z (zad 1107 z40 (.zr (R:=aZ) (x:=(Vector.replicate 32 0)) zl9)) fun v20=>Es (sto 1107 Z Z fH Z z40)<|Zb Z<|z0v<|gSR<|Zm Z<|Zq (zq2 2 Z Z)<|Zq (faB 2 Z Z Tryz.underlying112 Z (by exact ti4))<|Zq (ld 2 Z Z (Foc.cast (Foc.next z6n fH) Z) ty4 Z)<|Zm Z<|z19 44 Z (fun h21=>?_) (fun h21=>?_)
      ·refine lKn 43 Z h21<|Zk Z<|Zk Z<|Zq (pkT Z Z)<|Zn<|zc7 Z<|gSR<|Za Z<|Zb Z<|z0o<|z0q<|z44<|z0q<|z6t<|z4g<|zc8 z05 2 Z<|Ze [] [1,1001] Z
      ·refine lKn 43 Z h21<|z0w Zx Z Z (mv Z)<|z0w Zx Z Z (I.neq Z Z)<|Zq (pkF Z Z)<|Zj Z (fun h22=>?_) (fun h22=>?_)
       ·refine gKn 46 Z h22<|gSR<|Za Z<|Zb Z<|z0o<|z0q<|z44<|z0q<|z6t<|z4g<|zc8 z05 2 Z<|Ze [] [1,1001] Z
       ·refine gKn 46 Z h22<|Zt<|gSub [(5,.val (n13 0)),(6,.val (n13 1)),(0,.vw u8R q0 l0 a0),(4,.val (z0j v8 0)),(29,.rd z0k r10.1),(30,.rd z0k s12.2.2.2.2),(7,.val (z0j v17 0)),(8,.val (z0j v20 0))] [(1,some (q0,.list u8R 5 l0)),(2,some (v8,.box 112 [.vw u8R q0 l0 r15.2.b,.rd z0l r15.2.bad])),(1102,some ((n13 0),.list z05 43 s12.2.2.1)),(1103,some ((n13 1),.list aZ 45 s12.2.2.2.1)),zG1,(1106,some (v17,.box 43 [.rd z05 r15.1])),(1107,some (v20,.box 45 [.rd aZ r18.1]))] [1,2,1102,1103,1001,1106,1107] (Zs Z Z Z Z<|Zs Z Z Z Z<|sN) (Zi Z<|Zi Z<|Zi Z<|Zi Z<|Zi Z<|Zi Z<|Zi Z<|rN)<|zez fun x23 h24=>zez fun x25 h26=>gOr [(5,.val (n13 0),8),(6,.val (n13 1),9)] [⟨1106,some ([], fun nv=>(v17,.box 43 [.rd z05 r15.1])),[]⟩,⟨1108,none,[(2,none)]⟩,⟨1102,some ([], fun nv=>((n13 0),.list z05 43 s12.2.2.1)),[(3,some ([2], fun nv=>((nv 2),.list z05 43 x23)))]⟩,⟨1107,some ([], fun nv=>(v20,.box 45 [.rd aZ r18.1])),[]⟩,⟨1109,none,[(6,none)]⟩,⟨1103,some ([], fun nv=>((n13 1),.list aZ 45 s12.2.2.2.1)),[(7,some ([4], fun nv=>((nv 4),.list aZ 45 x25)))]⟩] [⟨some (48,[], fun nv=>.val (n13 0)),[],[],[0]⟩,pk 49 (.rd z05 r15.1) [(0,0,false)],⟨some (50,[], fun nv=>.rd (z04 z05) [r15.1]),[(1,0,true)],[1],[]⟩,⟨some (51,[2], fun nv=>.val (nv 2)),[(2,0,true)],[2],[]⟩,⟨some (52,[], fun nv=>.val (n13 1)),[],[],[1]⟩,pk 53 (.rd aZ r18.1) [(3,0,false)],⟨some (54,[], fun nv=>.rd (z04 aZ) [r18.1]),[(4,0,true)],[3],[]⟩,⟨some (55,[4], fun nv=>.val (nv 4)),[(5,0,true)],[4],[]⟩,⟨some (5,[2], fun nv=>.val (nv 2)),[],[],[]⟩,⟨some (6,[4], fun nv=>.val (nv 4)),[],[],[]⟩] mixed (oC (oRn (fun nv E=>mv Z))<|oC (oRn (fun nv E=>ld 1106 Z Z fH z8y Z))<|oC (oFz (A1:=fun nv=>[(1108,some ((nv 1),.list z05 43 [r15.1]))]) 1108 1 (oEf 1108 1 (fun nv E=>lit (R:=z05) ([r15.1]:List z03) 1108 (pP Z Z<|pN) Z tu22 z6w Z Z)))<|oC (oEf 1102 2 (fun nv E=>apn 1102 Z Z Z .rd h24 tu22 z6w Z Z Z))<|oC (oRn (fun nv E=>mv Z))<|oC (oRn (fun nv E=>ld 1107 Z Z fH z83 Z))<|oC (oFz (A1:=fun nv=>[(1109,some ((nv 3),.list aZ 45 [r18.1]))]) 1109 3 (oEf 1109 3 (fun nv E=>lit (R:=aZ) ([r18.1]:List V3) 1109 (pP Z Z<|pN) Z tu29 z40 Z Z)))<|oC (oEf 1103 4 (fun nv E=>apn 1103 Z Z Z .rd h26 tu29 z40 Z Z Z))<|oC (oRn (fun nv E=>asg Z))<|oC (oRn (fun nv E=>asg Z))<|oN) fun n27=>z3f<|z0z<|z20<|Zq (I.add Z Z)<|Zm Z<|z1g<|z1q (fun aa ww h=>⟨nvl [(n27 2),(n27 4)],Zu h [1,2,1102,1103,1001]⟩)
     ·refine z21<|z15<|z17<|z5k (fun aa ww h=>⟨nvl [(n13 0)],Zu h [1,2,1102,1001]⟩)
    ·refine gEx fun n28=>z0v<|gSR<|Zm Z<|zf4 5 [5,58] Z (fS Z<|fS Z<|fN)<|Zc [1001] [(100,1110)] Tryz.func21 Z (zqv _) fun r29 n30=>Zm Z<|Zq (ext Z Z)<|Zq (ext Z Z)<|Za Z<|Zb Z<|z68 (fun (s31:Bool) aa ww=>Sta (ctx 77 H [(1,some (q0,.list u8R 5 l0)),zG1] w) [(5,.rd (z04 z05) s9.2.2),(75,.rd z0l s31)] [(1,some (q0,.list u8R 5 l0)),zG1] aa ww) ?_ (fun s31=>?_)
     ·refine z20<|Zm Z<|Zq (zq2 2 Z Z)<|Zq (faB 2 Z Z Tryz.underlying112 Z (by exact ti4))<|Zq (ld 2 Z Z (Foc.cast (Foc.next z6n fH) Z) ty4 Z)<|Zm Z<|z19 66 Z (fun h32=>?_) (fun h32=>?_)
      ·refine lKn 65 Z h32<|Zk Z<|Zk Z<|Zq (pkT Z Z)<|Zm Z<|Zk Z<|Zk Z<|Zk Z<|Zk Z<|Zq (pkT Z Z)<|z1g<|z2q (fun aa ww h=>Zu h [1,1001])
      ·refine lKn 65 Z h32<|z0w Zx Z Z (mv Z)<|z0w Zx Z Z (I.neq Z Z)<|Zq (pkF Z Z)<|Zm Z<|z19 70 Z (fun h33=>?_) (fun h33=>?_)
       ·refine lKn 68 Z h33<|lKn 69 Z h33<|Zk Z<|Zk Z<|Zk Z<|Zk Z<|Zq (pkT Z Z)<|z1g<|z2q (fun aa ww h=>Zu h [1,1001])
       ·refine lKn 68 Z h33<|lKn 69 Z h33<|z0w Zx Z Z (mv Z)<|z0w Zx Z Z (mv Z)<|zcs [1110,1] [(1,1110),(2,1)] Zx Z Tryz.func66 Z Z (zj1 _ _ _ _ _ _) (aW Z<|aQ Z<|aN) (Zi Z<|Zi Z<|rN) fun r34 n35=>z0w Zx Z Z (zex Z)<|Zq (pkF Z Z)<|z1g<|z2q (fun aa ww h=>Zu h [1,1001])
     ·refine gIf Z Z (fun h36=>?_) (fun h36=>?_)
      ·refine gSR<|Za Z<|Zb Z<|z0o<|z0q<|zc8 z05 2 Z<|Ze [] [1,1001] Z
      ·refine Zt<|gSR<|Zm Z<|Za Z<|Zb Z<|z0o<|Ze [] [1,1001] Z
def z3o (s28:(List UInt8) × Int):Option (Sum Unit ((List UInt8) × Int)) :=
 if decide (s28.2<(s28.1.length:Int)) then
  idx s28.1 s28.2 >>= fun x30 =>
  idx s28.1 s28.2 >>= fun x32 =>
  some (w64 (s28.2+1)) >>= fun y34 =>
  some (.inr (s28.1.set (s28.2:Int).toNat (x30+1),y34))
 else
  some (.inl ())
def zac (a0:List UInt8) (a1:z0f) (a2:List V3):Option (Bool) :=
 z5o (if decide (3000<(a0.length:Int)) then
  if decide ((a0.length:Int)≤30000) then
   some (.inl true)
  else
   if decide (31000<(a0.length:Int)) then
    some (.inl true)
   else
    z4m a1 >>= fun r6 =>
    if r6 then
     some (.inl true)
    else
     if decide (80<(a2.length:Int)) then
      some (.inl true)
     else
      some (.inr ())
 else
  if decide (31000<(a0.length:Int)) then
   some (.inl true)
  else
   z4m a1 >>= fun r11 =>
   if r11 then
    some (.inl true)
   else
    if decide (80<(a2.length:Int)) then
     some (.inl true)
    else
     some (.inr ())) fun s2 =>
 app 1 ([]:List UInt8) a0 >>= fun x16 =>
 zb2 x16 >>= fun r19 =>
 z3r a0 >>= fun r21 =>
 zd4 a1 a2 >>= fun r23 =>
 z7d a1 a2 >>= fun r25 =>
 (iter (z3o) (x16,0)) >>= fun s27 =>
 z1t r19.1 r21.1 >>= fun r35 =>
 if r35 then
  if r19.2==r21.2 then
   z1t r23.1 r25.1 >>= fun r39 =>
   if r39 then
    some (r23.2==r25.2) >>= fun y42 =>
    some y42
   else
    some false
  else
   some false
 else
  some false
theorem zfv (a0:List UInt8) (a1:z0f) (a2:List V3):z2b Tryz.prog 6 [.rd (z04 u8R) a0,.rd z11 a1,.rd (z04 aZ) a2] [zG1] (zac a0 a1 a2) (fun r nv=>⟨[.rd z0l r],[(1001,some (.bool true,.glob 1 (z43 64 z0x) zah))]⟩):=by
 refine z2n 94 Tryz.func6 Z Z Z fun H w=>?_;refine gSR<|Eb Z (bx 1 Z) fun v1=>Zb Z<|z7j (fun (s2:Unit) aa ww=>Sta (ctx 94 H [zG1] w) [(0,.rd (z04 u8R) a0),(2,.rd (z04 aZ) a2),(4,.val (z0j v1 0))] [(1,some (v1,.box 66 [.rd z11 a1])),zG1] aa ww) ?_ (fun s2=>?_)
 ·refine gSR<|Zm Z<|Zq (z2v Z .rd Z tu52)<|Zq (I.gtr Z Z)<|Zm Z<|z19 20 Z (fun h3=>?_) (fun h3=>?_)
  ·refine lKn 19 Z h3<|z0w Zx Z Z (mv Z)<|z0w Zx Z Z (z2v Z .rd Z tu52)<|z0w Zx Z Z (I.leq Z Z)<|Zq (pkT Z Z)<|Zm Z<|z19 25 Z (fun h4=>?_) (fun h4=>?_)
   ·refine lKn 23 Z h4<|lKn 24 Z h4<|Zk Z<|Zk Z<|Zk Z<|Zq (pkT Z Z)<|Zm Z<|Zk Z<|Zk Z<|Zq (pkT Z Z)<|Zm Z<|Zk Z<|Zk Z<|Zk Z<|Zq (pkT Z Z)<|Zn<|zc7 Z<|gSR<|Zb Z<|z0o<|z4g<|Ze [] [1001] Z
   ·refine lKn 23 Z h4<|lKn 24 Z h4<|z0w Zx Z Z (mv Z)<|z0w Zx Z Z (z2v Z .rd Z tu52)<|z0w Zx Z Z (I.gtr Z Z)<|Zq (pkF Z Z)<|Zm Z<|z19 30 Z (fun h5=>?_) (fun h5=>?_)
    ·refine lKn 28 Z h5<|lKn 29 Z h5<|Zk Z<|Zk Z<|Zq (pkT Z Z)<|Zm Z<|Zk Z<|Zk Z<|Zk Z<|Zq (pkT Z Z)<|Zn<|zc7 Z<|gSR<|Zb Z<|z0o<|z4g<|Ze [] [1001] Z
    ·refine lKn 28 Z h5<|lKn 29 Z h5<|z0w Zx Z Z (ld 1 Z Z fH ty66 Z)<|zcs [] [] Zx Z Tryz.func29 Z Z (zee _) (Y1 Z) rN fun r6 n7=>Zq (pkF Z Z)<|Zm Z<|z19 34 Z (fun h8=>?_) (fun h8=>?_)
     ·refine lKn 32 Z h8<|lKn 33 Z h8<|Zk Z<|Zk Z<|Zk Z<|Zq (pkT Z Z)<|Zn<|zc7 Z<|gSR<|Zb Z<|z0o<|z4g<|Ze [] [1001] Z
     ·refine lKn 32 Z h8<|lKn 33 Z h8<|z0w Zx Z Z (mv Z)<|z0w Zx Z Z (z2v Z .rd Z tu29)<|z0w Zx Z Z (I.gtr Z Z)<|Zq (pkF Z Z)<|Zj Z (fun h9=>?_) (fun h9=>?_)
      ·refine gKn 37 Z h9<|gSR<|Zb Z<|z0o<|z4g<|Ze [] [1001] Z
      ·refine gKn 37 Z h9<|z31<|z5k (fun aa ww h=>Zu h [1,1001])
  ·refine lKn 19 Z h3<|Zk Z<|Zk Z<|Zk Z<|Zq (pkF Z Z)<|Zm Z<|z0w Zx Z Z (mv Z)<|z0w Zx Z Z (z2v Z .rd Z tu52)<|z0w Zx Z Z (I.gtr Z Z)<|Zq (pkF Z Z)<|Zm Z<|z19 30 Z (fun h10=>?_) (fun h10=>?_)
   ·refine lKn 28 Z h10<|lKn 29 Z h10<|Zk Z<|Zk Z<|Zq (pkT Z Z)<|Zm Z<|Zk Z<|Zk Z<|Zk Z<|Zq (pkT Z Z)<|Zn<|zc7 Z<|gSR<|Zb Z<|z0o<|z4g<|Ze [] [1001] Z
   ·refine lKn 28 Z h10<|lKn 29 Z h10<|z0w Zx Z Z (ld 1 Z Z fH ty66 Z)<|zcs [] [] Zx Z Tryz.func29 Z Z (zee _) (Y1 Z) rN fun r11 n12=>Zq (pkF Z Z)<|Zm Z<|z19 34 Z (fun h13=>?_) (fun h13=>?_)
    ·refine lKn 32 Z h13<|lKn 33 Z h13<|Zk Z<|Zk Z<|Zk Z<|Zq (pkT Z Z)<|Zn<|zc7 Z<|gSR<|Zb Z<|z0o<|z4g<|Ze [] [1001] Z
    ·refine lKn 32 Z h13<|lKn 33 Z h13<|z0w Zx Z Z (mv Z)<|z0w Zx Z Z (z2v Z .rd Z tu29)<|z0w Zx Z Z (I.gtr Z Z)<|Zq (pkF Z Z)<|Zj Z (fun h14=>?_) (fun h14=>?_)
     ·refine gKn 37 Z h14<|gSR<|Zb Z<|z0o<|z4g<|Ze [] [1001] Z
     ·refine gKn 37 Z h14<|z31<|z5k (fun aa ww h=>Zu h [1,1001])
 ·refine gSR<|Ef Z (lit (R:=u8R) (([]:List UInt8):List UInt8) 1100 (pN) Z tu52 ti5 Z Z) fun v15=>Zm Z<|z0m fun x16 h17=>Ef Z (apn 1100 Z Z Z .rd h17 tu52 ti5 Z Z Z) fun v18=>Zb Z<|gSR<|Zm Z<|call [1100,1001] [(1,1100)] Z Tryz.func28 Z Z (znl _ _ _) (aW Z<|aN) (Zi Z<|Zi Z<|rN) fun r19 n20=>Zm Z<|Zq (ext Z Z)<|Zq (ext Z Z)<|Za Z<|Zb Z<|gSR<|Zm Z<|Zc [] [] Tryz.func30 Z (zjy _) fun r21 n22=>Zm Z<|Zq (ext Z Z)<|Zq (ext Z Z)<|Za Z<|Zb Z<|gSR<|Zq (ld 1 Z Z fH ty66 Z)<|Zm Z<|Zc [1001] [(100,1101)] Tryz.func31 Z (znh _ _) fun r23 n24=>Zm Z<|Zq (ext Z Z)<|Zq (ext Z Z)<|Za Z<|Zb Z<|gSR<|Zq (ld 1 Z Z fH ty66 Z)<|Zm Z<|Zc [] [(100,1102)] Tryz.func32 Z (zh8 _ _) fun r25 n26=>Zm Z<|Zq (ext Z Z)<|Zq (ext Z Z)<|Za Z<|Zb Z<|z68 (fun (s27:Unit) aa ww=>Sta (ctx 94 H [zG1] w) [(8,.rd (z04 z05) r19.1),(9,.rd z0k r19.2),(10,.rd (z04 z05) r21.1),(11,.rd z0k r21.2),(12,.val (n24 0)),(13,.rd z0k r23.2),(14,.val (n26 0)),(15,.rd z0k r25.2)] [(1101,some ((n24 0),.list z05 43 r23.1)),(1102,some ((n26 0),.list z05 43 r25.1)),zG1] aa ww) ?_ (fun s27=>?_)
  ·refine gSR<|Zb Z<|z2a (fun (s28:(List UInt8) × Int) aa ww=>Sta (ctx 94 H [zG1] w) [(7,.val v18),(8,.rd (z04 z05) r19.1),(9,.rd z0k r19.2),(10,.rd (z04 z05) r21.1),(11,.rd z0k r21.2),(12,.val (n24 0)),(13,.rd z0k r23.2),(14,.val (n26 0)),(15,.rd z0k r25.2),(16,.rd z0k s28.2)] [(1100,some (v18,.list u8R 5 s28.1)),(1101,some ((n24 0),.list z05 43 r23.1)),(1102,some ((n26 0),.list z05 43 r25.1)),zG1] aa ww) (fun aa ww h=>Zu h [1100,1101,1102,1001]) (fun s28=>?_)
   refine z0v<|gSR<|Zm Z<|Zm Z<|Zq (z2v Z (.own 1100 Z) Z tu52)<|Zq (I.lss Z Z)<|Zj Z (fun h29=>?_) (fun h29=>?_)
   ·refine Zt<|z0v<|z5b<|z20<|Zm Z<|Zm Z<|z0m fun x30 h31=>Zq (ixO 1100 Z Z Z h31 tu52 ti5)<|Zq (ld 1100 Z Z (Foc.el h31) ty5 Z)<|Zq (B.add Z Z)<|z0m fun x32 h33=>Zq (ixO 1100 Z Z Z h33 tu52 ti5)<|Es (sto 1100 Z Z (Foc.el h33) Z ti5)<|z1g<|z3f<|z0z<|z20<|Zm Z<|Zq (I.add Z Z)<|Za Z<|z1o 16 Z fun y34=>z1g<|z1q (fun aa ww h=>Zu h [1100,1101,1102,1001])
   ·refine z21<|z15<|z17<|z2q (fun aa ww h=>Zu h [1101,1102,1001])
  ·refine gSR<|Zm Z<|Zm Z<|Zc [] [] Tryz.func25 Z (z9k _ _) fun r35 n36=>Zm Z<|z19 79 Z (fun h37=>?_) (fun h37=>?_)
   ·refine lKn 78 Z h37<|z0w Zx Z Z (mv Z)<|z0w Zx Z Z (mv Z)<|z0w Zx Z Z (I.eql Z Z)<|Zq (pkT Z Z)<|Zm Z<|z19 84 Z (fun h38=>?_) (fun h38=>?_)
    ·refine lKn 82 Z h38<|lKn 83 Z h38<|z0w Zx Z Z (mv Z)<|z0w Zx Z Z (mv Z)<|zf4 1101 [12,85] Z (fS Z<|fS Z<|fN)<|zf4 1102 [14,86] Z (fS Z<|fS Z<|fN)<|zcs [] [] Zx Z Tryz.func25 Z Z (z9k _ _) (Y2 Z Z) rN fun r39 n40=>Zq (pkT Z Z)<|Zm Z<|z19 89 Z (fun h41=>?_) (fun h41=>?_)
     ·refine lKn 87 Z h41<|lKn 88 Z h41<|z0w Zx Z Z (mv Z)<|z0w Zx Z Z (mv Z)<|z0w Zx Z Z (I.eql Z Z)<|Zq (pkT Z Z)<|Za Z<|z1o 6 Z fun y42=>Zn<|z0o<|Ze [] [1001] Z
     ·refine lKn 87 Z h41<|lKn 88 Z h41<|Zk Z<|Zk Z<|Zk Z<|Zq (pkF Z Z)<|Zb Z<|z0o<|Ze [] [1001] Z
    ·refine lKn 82 Z h38<|lKn 83 Z h38<|Zk Z<|Zk Z<|Zk Z<|Zq (pkF Z Z)<|Zm Z<|Zk Z<|Zk Z<|Zk Z<|Zq (pkF Z Z)<|Zb Z<|z0o<|Ze [] [1001] Z
   ·refine lKn 78 Z h37<|Zk Z<|Zk Z<|Zk Z<|Zq (pkF Z Z)<|Zm Z<|Zk Z<|Zk Z<|Zk Z<|Zq (pkF Z Z)<|Zm Z<|Zk Z<|Zk Z<|Zk Z<|Zq (pkF Z Z)<|Zb Z<|z0o<|Ze [] [1001] Z
end
section
open Go
section
variable {α:Type}
theorem zhc {l:List α} {i:Nat} (d:α) (h:i<l.length):idx l (i:Int)=some (l.getD i d):=by rw [z0p h]; simp [h]
theorem z11m {n:Nat} {v:Vector α n} {i:Int}:z7z v i=idx v.toList i:=rfl
theorem z14f {n:Nat} {v:Vector α n} {i:Nat} {x:α}:(zi0 v (i:Int) x).toList=v.toList.set i x:=by
 unfold zi0; simp
theorem z12k {l:List α} {i j:Nat} {x d:α} (h:i<l.length):(l.set i x).getD j d=if i=j then x else l.getD j d:=by
 simp only [List.getD_eq_getElem?_getD,List.getElem?_set];by_cases e:i=j
 ·subst e; simp [h]
 ·simp [e]
theorem zrm {l:List α} {n i:Nat} {d:α} (h:i<n):(l.take n).getD i d=l.getD i d:=by
 simp [List.getD_eq_getElem?_getD,List.getElem?_take,h]
theorem zqu {l:List α} {n:Nat} {x:α} (h:n<l.length):(l.set n x).take (n+1)=l.take n++[x]:=by
 rw [List.take_add_one,List.getElem?_set_self h,List.take_set_of_le (Nat.le_refl _)]; rfl
end
theorem zts (a:UInt32) (n:Nat):(zqp a n).toNat=a.toNat * 2 ^ (min n 32) % 4294967296:=by unfold zqp; simp
theorem zfz (a:UInt32) (n:Nat):(z57 a n).toNat=a.toNat / 2 ^ (min n 32):=by
 unfold z57;have h1:=UInt32.toNat_lt a;have h2:a.toNat / 2 ^ (min n 32)≤a.toNat:=Nat.div_le_self _ _
 simp; omega
def tr (x:UInt32) (n:Nat):UInt32:=z57 x n ||| zqp x (32 - n)
theorem zey (x:UInt32) (n:Nat) (h:n≤32):z2w x (n:Int)=some (tr x n):=by
 unfold z2w;rw [z4f (by omega),z13 (by omega) (by omega),z4f (by omega)];simp only [bS];unfold tr;rw [show ((32:Int) - (n:Int)).toNat=32 - n by omega,Int.toNat_natCast]
theorem zo3 (x:UInt32) (n:Nat) (h:1≤n) (h2:n≤31):z27 x (-(n:Int))=some (tr x n):=by
 have key:∀ n:Fin 32,1≤n.val→(UInt64.ofInt (-(n.val:Int)) &&& 31)=UInt64.ofNat (32 - n.val):=by decide +kernel
 have k2:∀ n:Fin 32,1≤n.val→(UInt64.ofNat (32 - n.val)).toNat=32 - n.val∧(32 - UInt64.ofNat (32 - n.val)).toNat=n.val:=by decide +kernel
 unfold z27;rw [key ⟨n, by omega⟩ h];simp only [bS];rw [(k2 ⟨n, by omega⟩ h).1,(k2 ⟨n, by omega⟩ h).2];unfold tr;rw [UInt32.or_comm]
theorem z143 (x:UInt32) (a b c:Nat) (ha:1≤a∧a≤31) (hb:1≤b∧b≤31) (hc:1≤c∧c≤31):zfd x (a:Int) (b:Int) (c:Int)=some ((tr x a ^^^ tr x b) ^^^ tr x c):=by
 unfold zfd;rw [z13 (by omega) (by omega),z13 (by omega) (by omega),z13 (by omega) (by omega)];rw [show (0:Int) - (a:Int) = -(a:Int) by omega, show (0:Int) - (b:Int) = -(b:Int) by omega, show (0:Int) - (c:Int) = -(c:Int) by omega];rw [zo3 x a ha.1 ha.2,zo3 x b hb.1 hb.2,zo3 x c hc.1 hc.2];rfl
def sg0 (x:UInt32):UInt32:=(tr x 7 ^^^ tr x 18) ^^^ z57 x 3
def sg1 (x:UInt32):UInt32:=(tr x 17 ^^^ tr x 19) ^^^ z57 x 10
def word (b:List UInt8) (k:Nat):UInt32:=(((b.getD (4 * k) 0).toUInt32 * 256+(b.getD (4 * k+1) 0).toUInt32) * 256+(b.getD (4 * k+2) 0).toUInt32) * 256+(b.getD (4 * k+3) 0).toUInt32
def zzf (l:List UInt32):List UInt32:=l++[((l.getD (l.length - 16) 0+l.getD (l.length - 7) 0)+sg0 (l.getD (l.length - 15) 0))+sg1 (l.getD (l.length - 2) 0)]
def zcf (b:List UInt8):Nat→List UInt32
 | 0=>(List.range 16).map (word b)
 | n+1=>zzf (zcf b n)
theorem zjv (b:List UInt8):∀ n,(zcf b n).length=16+n
 | 0=>by simp [zcf]
 | n+1=>by simp [zcf,zzf,zjv b n]; omega
theorem zvi (l:List UInt32) (t:Nat) (h:l.length=t):zzf l=l++[((l.getD (t - 16) 0+l.getD (t - 7) 0)+sg0 (l.getD (t - 15) 0))+sg1 (l.getD (t - 2) 0)]:=by subst h; rfl
theorem z11n (b:List UInt8) (hb:64≤b.length):iter (z5u b) ([],0)=some (zcf b 0):=by
 refine z3m (F:=z5u b) (b:=zcf b 0) 16 (fun i=>((List.range i).map (word b),(i:Int))) (fun i hi=>?_) ?_
 ·unfold z5u;rw [if_pos (by simp; omega)];simp only [];rw [z13 (x:=4 * (i:Int)) (by omega) (by omega),z13 (x:=4 * (i:Int)+1) (by omega) (by omega),z13 (x:=4 * (i:Int)+2) (by omega) (by omega),z13 (x:=4 * (i:Int)+3) (by omega) (by omega)];rw [show (4 * (i:Int))=((4 * i:Nat):Int) by omega, show (((4 * i:Nat):Int)+1)=((4 * i+1:Nat):Int) by omega, show (((4 * i:Nat):Int)+2)=((4 * i+2:Nat):Int) by omega, show (((4 * i:Nat):Int)+3)=((4 * i+3:Nat):Int) by omega]
  rw [zhc 0 (by omega),zhc 0 (by omega),zhc 0 (by omega),zhc 0 (by omega)];simp only [bS];rw [z1m (by simp; omega)];simp only [bS,z0u (show i<9223372036854775807 by omega)];rw [List.range_succ,List.map_append];rfl
 ·unfold z5u;rw [if_neg (by simp)];rfl
theorem z129 (b:List UInt8):iter (z5q) (zcf b 0,16)=some (zcf b 48):=by
 refine z3m (F:=z5q) (b:=zcf b 48) 48 (fun i=>(zcf b i,((16+i:Nat):Int))) (fun i hi=>?_) ?_
 ·have hl:=zjv b i;unfold z5q;rw [if_pos (by simp; omega)];simp only [];rw [z13 (x:=((16+i:Nat):Int) - 15) (by omega) (by omega),z13 (x:=((16+i:Nat):Int) - 2) (by omega) (by omega),z13 (x:=((16+i:Nat):Int) - 16) (by omega) (by omega),z13 (x:=((16+i:Nat):Int) - 7) (by omega) (by omega)];rw [show ((16+i:Nat):Int) - 15=((16+i - 15:Nat):Int) by omega, show ((16+i:Nat):Int) - 2=((16+i - 2:Nat):Int) by omega, show ((16+i:Nat):Int) - 16=((16+i - 16:Nat):Int) by omega, show ((16+i:Nat):Int) - 7=((16+i - 7:Nat):Int) by omega]
  rw [zhc 0 (by omega),zhc 0 (by omega),zhc 0 (by omega),zhc 0 (by omega)];simp only [bS];rw [show (7:Int)=((7:Nat):Int) from rfl, show (18:Int)=((18:Nat):Int) from rfl, show (17:Int)=((17:Nat):Int) from rfl, show (19:Int)=((19:Nat):Int) from rfl];rw [zey _ 7 (by omega),zey _ 18 (by omega),zey _ 17 (by omega),zey _ 19 (by omega)];simp only [bS];rw [z1m (by simp; omega)];simp only [bS,z0u (show 16+i<9223372036854775807 by omega)]
  rw [show zcf b (i+1)=zzf (zcf b i) from rfl,zvi _ (16+i) hl];rfl
 ·unfold z5q;rw [if_neg (by simp)]
theorem z17m (x:UInt32) (y:UInt8) (h:x.toNat<16777216):(zqp x 8) ||| y.toUInt32=x * 256+y.toUInt32:=by
 apply UInt32.toNat_inj.1
 have hy:=UInt8.toNat_lt y;rw [UInt32.toNat_or,zts,UInt32.toNat_add,UInt32.toNat_mul];have e1:(y.toUInt32).toNat=y.toNat:=by simp
 have e2:(256:UInt32).toNat=256:=rfl;rw [e1,e2, show (2:Nat) ^ (min 8 32)=256 from rfl,Nat.mod_eq_of_lt (a:=x.toNat * 256) (by omega),Nat.mod_eq_of_lt (a:=x.toNat * 256+y.toNat) (by omega)]
 have:=Nat.shiftLeft_add_eq_or_of_lt (i:=8) (b:=y.toNat) (by simpa using hy) x.toNat
 rw [Nat.shiftLeft_eq, show (2:Nat) ^ 8=256 from rfl] at this;exact this.symm
def zlr (b:List UInt8) (k:Nat):Nat→UInt32
 | 0=>0
 | m+1=>zlr b k m * 256+(b.getD (4 * k+m) 0).toUInt32
theorem zvj (b:List UInt8) (k:Nat):∀ m,m≤4→(zlr b k m).toNat<256 ^ m
 | 0,_=>by simp [zlr]
 | m+1,h=>by
  have ih:=zvj b k m (by omega);have hy:=UInt8.toNat_lt (b.getD (4 * k+m) 0);have hp:256 ^ m≤256 ^ 3:=Nat.pow_le_pow_right (by omega) (by omega);have e3:(256:Nat) ^ 3=16777216:=rfl;have ep:256 ^ (m+1)=256 ^ m * 256:=Nat.pow_succ ..;rw [zlr,UInt32.toNat_add,UInt32.toNat_mul,ep];have e1:((b.getD (4 * k+m) 0).toUInt32).toNat=(b.getD (4 * k+m) 0).toNat:=by simp
  have e2:(256:UInt32).toNat=256:=rfl;rw [e1,e2,Nat.mod_eq_of_lt (a:=(zlr b k m).toNat * 256) (by omega),Nat.mod_eq_of_lt (by omega)];omega
theorem zxn (b:List UInt8) (k:Nat):zlr b k 4=word b k:=by
 simp only [zlr,word,Nat.add_zero]
 simp
theorem zz7 (b:List UInt8) (hb:b.length=64):∃ w,iter (z7b b) (Vector.replicate 64 0,0)=some w∧w.toList.take 16=zcf b 0:=by
 refine z9o (F:=z7b b) 64 (fun i s=>s.2=(i:Int)∧∀ k,k<16→s.1.toList.getD k 0=zlr b k (min 4 (i - 4 * k))) (fun w=>w.toList.take 16=zcf b 0) (fun i s hi hs=>?_) (fun s hs=>?_) (Vector.replicate 64 0,0) 0 (by omega) ⟨rfl, fun k hk=>?_⟩
 ·obtain ⟨w,j⟩:=s;obtain ⟨h1,h2⟩:=hs;simp only at h1 h2;subst h1;have hlw:w.toList.length=64:=by simp
  have hdiv:w64 (Int.tdiv (i:Int) 4)=((i / 4:Nat):Int):=by
   have:Int.tdiv (i:Int) 4=((i / 4:Nat):Int):=by
    rw [Int.tdiv_eq_ediv_of_nonneg (by omega)]; omega
   rw [this,z13 (by omega) (by omega)]
  refine ⟨(zi0 w ((i / 4:Nat):Int) (zlr b (i / 4) (i % 4+1)),((i+1:Nat):Int)),?_,rfl, fun k hk=>?_⟩
  ·unfold z7b;rw [if_pos (by simp; omega)];simp only [hdiv,z11m];rw [zhc 0 (by omega)];simp only [bS];rw [zhc 0 (by omega)];simp only [bS,z0u (show i<9223372036854775807 by omega)];rw [h2 (i / 4) (by omega), show min 4 (i - 4 * (i / 4))=i % 4 by omega];have hlt:=zvj b (i / 4) (i % 4) (by omega);have hp:256 ^ (i % 4)≤256 ^ 3:=Nat.pow_le_pow_right (by omega) (by omega);have e3:(256:Nat) ^ 3=16777216:=rfl
   rw [z17m _ _ (by omega)];have e4:zlr b (i / 4) (i % 4+1)=zlr b (i / 4) (i % 4) * 256+(b.getD i 0).toUInt32:=by
    show zlr b (i / 4) (i % 4) * 256+(b.getD (4 * (i / 4)+i % 4) 0).toUInt32=_;rw [show 4 * (i / 4)+i % 4=i by omega]
   rw [e4]
  ·simp only [];rw [z14f,z12k (by omega)];by_cases hk2:i / 4=k
   ·subst hk2;rw [if_pos rfl, show min 4 (i+1 - 4 * (i / 4))=i % 4+1 by omega]
   ·rw [if_neg hk2,h2 k hk]
    congr 1; omega
 ·obtain ⟨w,j⟩:=s;obtain ⟨h1,h2⟩:=hs;simp only at h1 h2;subst h1;have hlw:w.toList.length=64:=by simp
  refine ⟨w,?_,?_⟩
  ·unfold z7b;rw [if_neg (by simp [hb])]
  ·apply List.ext_getElem
   ·simp [zcf]
   ·intro k k1 k2;have hk:k<16:=by simp [zcf] at k2; exact k2
    have:=h2 k hk
    rw [show min 4 (64 - 4 * k)=4 by omega,zxn] at this;have e:w.toList.getD k 0=w.toList[k]'(by omega):=by rw [List.getD_eq_getElem?_getD,List.getElem?_eq_getElem (by omega)]; rfl
    rw [e] at this;simp only [List.getElem_take,this,zcf,List.getElem_map,List.getElem_range]
 ·show (Vector.replicate 64 (0:UInt32)).toList.getD k 0=_;rw [show min 4 (0 - 4 * k)=0 by omega,Vector.toList_replicate,List.getD_eq_getElem?_getD,List.getElem?_replicate,if_pos (by omega)];rfl
theorem zx8 (v:Vector UInt32 64) (t:Nat) (h1:16≤t) (h2:t<64) (p q r s u:UInt32) (e1:z7z v ((t - 15:Nat):Int)=some p) (e2:z7z v ((t - 2:Nat):Int)=some q) (e3:z7z v ((t - 16:Nat):Int)=some r) (e4:z7z v ((t - 7:Nat):Int)=some s) (e5:z7z v (t:Int)=some u) :
  z5l (v,(t:Int))=some (.inr (zi0 v (t:Int) (((r+s)+sg0 p)+sg1 q),((t+1:Nat):Int))):=by
 have r1:=zo3 p 7 (by omega) (by omega);have r2:=zo3 p 18 (by omega) (by omega);have r3:=zo3 q 17 (by omega) (by omega);have r4:=zo3 q 19 (by omega) (by omega);have hw:=z0u (show t<9223372036854775807 by omega);have hd:decide ((t:Int)<64)=true:=by simp; omega
 have w1:w64 ((t:Int) - 15)=((t - 15:Nat):Int):=by rw [z13 (by omega) (by omega)]; omega
 have w2:w64 ((t:Int) - 2)=((t - 2:Nat):Int):=by rw [z13 (by omega) (by omega)]; omega
 have w3:w64 ((t:Int) - 16)=((t - 16:Nat):Int):=by rw [z13 (by omega) (by omega)]; omega
 have w4:w64 ((t:Int) - 7)=((t - 7:Nat):Int):=by rw [z13 (by omega) (by omega)]; omega
 unfold z5l;rw [if_pos hd];simp only [];rw [w1,w2,w3,w4,hw,e1,e2,e3,e4,e5];simp only [bS];rw [show (-7:Int) = -((7:Nat):Int) from rfl, show (-18:Int) = -((18:Nat):Int) from rfl, show (-17:Int) = -((17:Nat):Int) from rfl, show (-19:Int) = -((19:Nat):Int) from rfl,r1,r2,r3,r4];simp only [bS];rfl
theorem zyo (b:List UInt8) (w:Vector UInt32 64) (hw:w.toList.take 16=zcf b 0):∃ v,iter (z5l) (w,16)=some v∧v.toList=zcf b 48:=by
 refine z9o (F:=z5l) 48 (fun i s=>s.2=((16+i:Nat):Int)∧s.1.toList.take (16+i)=zcf b i) (fun v=>v.toList=zcf b 48) (fun i s hi hs=>?_) (fun s hs=>?_) (w,16) 0 (by omega) ⟨rfl,hw⟩
 ·obtain ⟨w,j⟩:=s;obtain ⟨h1,h2⟩:=hs;simp only at h1 h2;subst h1;have hlw:w.toList.length=64:=by simp
  have hl:=zjv b i;have hg:∀ k,k<16+i→w.toList.getD k 0=(zcf b i).getD k 0:=fun k hk=>by rw [← h2,zrm hk]
  have hv:∀ k,k<16+i→z7z w (k:Int)=some ((zcf b i).getD k 0):=fun k hk=>by rw [z11m,zhc 0 (by omega),hg k hk]
  refine ⟨_,zx8 w (16+i) (by omega) (by omega) _ _ _ _ _ (hv _ (by omega)) (hv _ (by omega)) (hv _ (by omega)) (hv _ (by omega)) (za1 (by omega)),rfl,?_⟩;simp only [];rw [z14f, show 16+(i+1)=16+i+1 by omega,zqu (by omega),h2, show zcf b (i+1)=zzf (zcf b i) from rfl,zvi _ (16+i) hl]
 ·obtain ⟨w,j⟩:=s;obtain ⟨h1,h2⟩:=hs;simp only at h1 h2;subst h1;refine ⟨w,?_,?_⟩
  ·unfold z5l;rw [if_neg (by simp)]
  ·rw [← h2,List.take_of_length_le (by simp)]
abbrev O8:=UInt32 × UInt32 × UInt32 × UInt32 × UInt32 × UInt32 × UInt32 × UInt32
def toV (s:O8):Vector UInt32 8:=#v[s.1,s.2.1,s.2.2.1,s.2.2.2.1,s.2.2.2.2.1,s.2.2.2.2.2.1,s.2.2.2.2.2.2.1,s.2.2.2.2.2.2.2]
def ofV (h:Vector UInt32 8):O8:=(h[0],h[1],h[2],h[3],h[4],h[5],h[6],h[7])
theorem z164 (h:Vector UInt32 8):toV (ofV h)=h:=by
 apply Vector.ext
 intro i hi;unfold toV ofV
 match i,hi with
 | 0,_=>rfl
 | 1,_=>rfl
 | 2,_=>rfl
 | 3,_=>rfl
 | 4,_=>rfl
 | 5,_=>rfl
 | 6,_=>rfl
 | 7,_=>rfl
def rnd1 (k w:UInt32) (s:O8):UInt32:=(((s.2.2.2.2.2.2.2+((tr s.2.2.2.2.1 6 ^^^ tr s.2.2.2.2.1 11) ^^^ tr s.2.2.2.2.1 25))+((s.2.2.2.2.1 &&& s.2.2.2.2.2.1) ^^^ ((~~~s.2.2.2.2.1) &&& s.2.2.2.2.2.2.1)))+k)+w
def rnd2 (s:O8):UInt32:=((tr s.1 2 ^^^ tr s.1 13) ^^^ tr s.1 22)+(((s.1 &&& s.2.1) ^^^ (s.1 &&& s.2.2.1)) ^^^ (s.2.1 &&& s.2.2.1))
def rnd (k w:UInt32) (s:O8):O8:=(rnd1 k w s+rnd2 s,s.1,s.2.1,s.2.2.1,s.2.2.2.1+rnd1 k w s,s.2.2.2.2.1,s.2.2.2.2.2.1,s.2.2.2.2.2.2.1)
def runs (K W:List UInt32) (s:O8):Nat→O8
 | 0=>s
 | n+1=>rnd (K.getD n 0) (W.getD n 0) (runs K W s n)
theorem z10p:zag=some zah.toList:=rfl
theorem zwr:zah.toList.length=64:=by simp
theorem zyu (w:Vector UInt32 64) (a b c d e f g z:UInt32) (i:Nat) (hi:i<64) (k u:UInt32) (hk:z7z zah (i:Int)=some k) (hu:z7z w (i:Int)=some u) :
  z6b w (a,b,c,d,e,f,g,z,(i:Int))=some (.inr (rnd1 k u (a,b,c,d,e,f,g,z)+rnd2 (a,b,c,d,e,f,g,z),a,b,c,d+rnd1 k u (a,b,c,d,e,f,g,z),e,f,g,((i+1:Nat):Int))):=by
 have m1:=z143 e 6 11 25 (by omega) (by omega) (by omega);have m2:=z143 a 2 13 22 (by omega) (by omega) (by omega);have hw:=z0u (show i<9223372036854775807 by omega);have hd:decide ((i:Int)<64)=true:=by simp; omega
 unfold z6b;rw [if_pos hd];simp only [];rw [hk,hu,hw];simp only [bS];rw [show (6:Int)=((6:Nat):Int) from rfl, show (11:Int)=((11:Nat):Int) from rfl, show (25:Int)=((25:Nat):Int) from rfl, show (2:Int)=((2:Nat):Int) from rfl, show (13:Int)=((13:Nat):Int) from rfl, show (22:Int)=((22:Nat):Int) from rfl,m1,m2];simp only [bS];rfl
theorem z11x (K W:List UInt32) (a b c d e f g z:UInt32) (i:Nat) (hi:i<64) (k u:UInt32) (hk:idx K (i:Int)=some k) (hu:idx W (i:Int)=some u) :
  z3q W K (#v[a,b,c,d,e,f,g,z],(i:Int))=some (.inr (#v[rnd1 k u (a,b,c,d,e,f,g,z)+rnd2 (a,b,c,d,e,f,g,z),a,b,c,d+rnd1 k u (a,b,c,d,e,f,g,z),e,f,g],((i+1:Nat):Int))):=by
 have t1:=zey e 6 (by omega);have t2:=zey e 11 (by omega);have t3:=zey e 25 (by omega);have t4:=zey a 2 (by omega);have t5:=zey a 13 (by omega);have t6:=zey a 22 (by omega);have hw:=z0u (show i<9223372036854775807 by omega);have hd:decide ((i:Int)<64)=true:=by simp; omega
 have v0:z7z #v[a,b,c,d,e,f,g,z] 0=some a:=rfl;have v1:z7z #v[a,b,c,d,e,f,g,z] 1=some b:=rfl;have v2:z7z #v[a,b,c,d,e,f,g,z] 2=some c:=rfl;have v3:z7z #v[a,b,c,d,e,f,g,z] 3=some d:=rfl;have v4:z7z #v[a,b,c,d,e,f,g,z] 4=some e:=rfl;have v5:z7z #v[a,b,c,d,e,f,g,z] 5=some f:=rfl;have v6:z7z #v[a,b,c,d,e,f,g,z] 6=some g:=rfl;have v7:z7z #v[a,b,c,d,e,f,g,z] 7=some z:=rfl;unfold z3q;rw [if_pos hd];simp only []
 rw [v0,v1,v2,v3,v4,v5,v6,v7,hk,hu,hw];simp only [bS];rw [show (6:Int)=((6:Nat):Int) from rfl, show (11:Int)=((11:Nat):Int) from rfl, show (25:Int)=((25:Nat):Int) from rfl, show (2:Int)=((2:Nat):Int) from rfl, show (13:Int)=((13:Nat):Int) from rfl, show (22:Int)=((22:Nat):Int) from rfl,t1,t2,t3,t4,t5,t6];simp only [bS];rfl
def zwz (s:O8) (i:Int):UInt32 × UInt32 × UInt32 × UInt32 × UInt32 × UInt32 × UInt32 × UInt32 × Int:=match s with
 | (a,b,c,d,e,f,g,z)=>(a,b,c,d,e,f,g,z,i)
theorem zxr (w:Vector UInt32 64) (s:O8) (i:Nat) (hi:i<64):z6b w (zwz s (i:Int))=some (.inr (zwz (rnd (zah.toList.getD i 0) (w.toList.getD i 0) s) ((i+1:Nat):Int))):=by
 obtain ⟨a,b,c,d,e,f,g,z⟩:=s;exact zyu w a b c d e f g z i hi _ _ (zhc 0 (by rw [zwr]; exact hi)) (zhc 0 (by simp; exact hi))
theorem zx0 (w:Vector UInt32 64) (s:O8):iter (z6b w) (zwz s 0)=some (runs zah.toList w.toList s 64):=by
 refine z3m (F:=z6b w) (b:=runs zah.toList w.toList s 64) 64 (fun i=>zwz (runs zah.toList w.toList s i) (i:Int)) (fun i hi=>zxr w _ i hi) ?_;generalize runs zah.toList w.toList s 64=q;obtain ⟨a,b,c,d,e,f,g,z⟩:=q;unfold zwz z6b;rw [if_neg (by simp)]
theorem zyg (K W:List UInt32) (hk:K.length=64) (hW:W.length=64) (s:O8) (i:Nat) (hi:i<64):z3q W K (toV s,(i:Int))=some (.inr (toV (rnd (K.getD i 0) (W.getD i 0) s),((i+1:Nat):Int))):=by
 obtain ⟨a,b,c,d,e,f,g,z⟩:=s;exact z11x K W a b c d e f g z i hi _ _ (zhc 0 (by omega)) (zhc 0 (by omega))
theorem z114 (K W:List UInt32) (hk:K.length=64) (hW:W.length=64) (s:O8):iter (z3q W K) (toV s,0)=some (toV (runs K W s 64)):=by
 refine z3m (F:=z3q W K) (b:=toV (runs K W s 64)) 64 (fun i=>(toV (runs K W s i),(i:Int))) (fun i hi=>zyg K W hk hW _ i hi) ?_;generalize toV (runs K W s 64)=q;unfold z3q;rw [if_neg (by simp)]
theorem z14v (s:O8):zec s=z3d (toV s):=by
 funext x
 obtain ⟨h,i⟩:=x;unfold zec z3d;simp only [bS];show (if decide (i<8)=true then z7z (toV s) i >>= _ else _)=_
 split
 ·cases h1:z7z (toV s) i <;> cases h2:z7z h i <;> rfl
 ·rfl
def addV (h v:Vector UInt32 8):Vector UInt32 8:=(iter (z3d v) (h,0)).getD h
theorem zzl (h v:Vector UInt32 8):iter (z3d v) (h,0)=some (addV h v):=by
 obtain ⟨r,h1,-⟩:=z9o (F:=z3d v) 8 (fun i s=>s.2=(i:Int)) (fun _=>True) (fun i s hi hs=>by
  obtain ⟨u,j⟩:=s;simp only at hs;subst hs;unfold z3d;rw [if_pos (by simp; omega)];rw [za1 (show i<8 by omega),za1 (show i<8 by omega)];simp only [bS,z0u (show i<9223372036854775807 by omega)]
  exact ⟨_,rfl,rfl⟩) (fun s hs=>by
  obtain ⟨u,j⟩:=s;simp only at hs;subst hs;unfold z3d;rw [if_neg (by simp)]
  exact ⟨_,rfl,trivial⟩) (h,0) 0 (by omega) rfl
 unfold addV;rw [h1]; rfl
def gr (h:Vector UInt32 8) (b:List UInt8):Vector UInt32 8:=addV h (toV (runs zah.toList (zcf b 48) (ofV h) 64))
theorem z187 (h:Vector UInt32 8) (b:List UInt8) (hb:b.length=64):z9w h b=some (gr h b):=by
 unfold z9w;rw [z11n b (by omega)];simp only [bS];rw [z129 b];simp only [bS,z10p]
 have:=z114 zah.toList (zcf b 48) zwr (by rw [zjv]) (ofV h)
 rw [z164] at this;rw [this];simp only [bS];rw [zzl];rfl
theorem z14x (h:Vector UInt32 8) (b:List UInt8) (hb:64≤b.length):zek h b=some (gr h (b.take 64)):=by
 unfold zek ze8;rw [show (64:Int)=((64:Nat):Int) from rfl, show (0:Int)=((0:Nat):Int) from rfl,z5i (by omega) hb];simp only [bS,List.drop_zero,Nat.sub_zero];obtain ⟨w,h1,h2⟩:=zz7 (b.take 64) (by simp; omega);rw [show ((0:Nat):Int)=0 from rfl,h1];simp only [bS];obtain ⟨v,h3,h4⟩:=zyo (b.take 64) w h2;rw [h3];simp only [bS];have hv:∀ i:Nat,(hi:i<8)→z7z h (i:Int)=some h[i]:=fun i hi=>za1 hi;rw [show z7z h 0=some h[0] from hv 0 (by omega), show z7z h 1=some h[1] from hv 1 (by omega), show z7z h 2=some h[2] from hv 2 (by omega), show z7z h 3=some h[3] from hv 3 (by omega), show z7z h 4=some h[4] from hv 4 (by omega), show z7z h 5=some h[5] from hv 5 (by omega), show z7z h 6=some h[6] from hv 6 (by omega), show z7z h 7=some h[7] from hv 7 (by omega)]
 simp only [bS]
 have:=zx0 v (ofV h)
 rw [show (h[0],h[1],h[2],h[3],h[4],h[5],h[6],h[7],(0:Int))=zwz (ofV h) 0 from rfl,this];simp only [bS];rw [z14v,h4,zzl];rfl
end
end Go.Proofs.YtojceajkeefnpaaGreatDoor
