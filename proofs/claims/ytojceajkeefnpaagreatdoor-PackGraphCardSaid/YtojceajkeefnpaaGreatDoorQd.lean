import Derived.Test.YtojceajkeefnpaaGreatDoorQc
set_option linter.unusedSimpArgs false
set_option linter.unusedVariables false
namespace Go.Proofs.YtojceajkeefnpaaGreatDoor
section
open Go Go.Shelf Go.RowKit Go.Lib
theorem z148 {P:Program} {k:Nat} (w:World) (dT sT ty elem:TypeId) (g o dLen dCap:Nat) (a:Addr) (sLen sCap:Nat) (cur:Array Value) (t:TypeId) (cs:List Value)
  (hu:P.underlying dT=some (.slice elem)) (hs:(P.info? elem).map (·.size)=some k)
  (hg:w.heap[g]? = some (.cells cur t (0,0))) (hn:cs.length=Nat.min sLen dLen * k)
  (hsrc:∀ j v,cs[j]? = some v→w.cell? (a.add j)=some v) (hfit:o+cs.length≤cur.size) (h1:∀ v∈cs,v.oneCell'=true) :
  (Builtin.copy_ #[dT,sT] ty #[.slice (some ⟨g,o,none⟩) dLen dCap,.slice (some a) sLen sCap]).run P w =
   .ok (goInt (Nat.min sLen dLen)) (w.setRow g (cur.toList.take o++cs++cur.toList.drop (o+cs.length)).toArray):=by
 have hl:=run_firstCells_some (P:=P) w k (Nat.min sLen dLen) a sLen sCap cs hn hsrc;have hst:=run_storeCells_at P g o t cs 0 cur w hg (by simpa using hfit) h1
 cases hq:P.info? elem with
 | none=>simp [hq] at hs
 | some i =>
  have hi:i.size=k:=by simpa [hq] using hs
  simp [Builtin.copy_,run_underlying hu,Builtin.lenOf,sizeOf,typeInfo,hq,hi,hl,hst]
theorem z14j {P:Program} (w:World) {o:Oper} {a:Act} {K:Act→World→Prop} {Q:Exit→Act→World→Prop} (d s:Operand) (t t':TypeId)
  (ho:o.op=.call { callee:=.builtin .copy,args:=#[d,s],argTypes:=#[t,t'] }) (v u:Value) (hd:a.eval d=v) (hs:a.eval s=u) {v':Value} {w':World}
  (hr:(Builtin.copy_ #[t,t'] o.type #[v,u]).run P w=.ok v' w') (h:K (a.put o.dst v') w'):o.wp P a w K Q:=by
 unfold Oper.wp execOp;simp only [ho,resolve,invoke,builtin,Sem.run_bind,Sem.run_pure,Result.andThen_ok,List.map_toArray,List.map_cons,List.map_nil,hd,hs,hr];exact h
theorem zm3 {P:Program} (w:World) {ops:Array Oper} {rest:List Oper} {o:Oper} {a:Act} {Q:Exit→Act→World→Prop} (hgd:o.guard=none) (d s:Operand) (t t':TypeId)
  (ho:o.op=.call { callee:=.builtin .copy,args:=#[d,s],argTypes:=#[t,t'] }) (v u:Value) (hd:a.eval d=v) (hs:a.eval s=u) {v':Value} {w':World}
  (hr:(Builtin.copy_ #[t,t'] o.type #[v,u]).run P w=.ok v' w') (h:wpList P ops Q rest (a.put o.dst v') w'):wpList P ops Q (o::rest) a w :=
 wpList_plain hgd fun _ hK=>z14j w d s t t' ho v u hd hs hr (hK _ _ h)
theorem zpm {P:Program} {ops:Array Oper} {o:Oper} {a:Act} {w:World} {K:Act→World→Prop} {Q:Exit→Act→World→Prop} {E:Prop}
  (hg:o.guard=none) (d x:Operand) (dT sT:TypeId) (hop:o.op=Op.call { callee:=Callee.builtin Builtin.copy,args:=#[d,x],argTypes:=#[dT,sT] })
  (v u:Value) (hd:a.eval d=v) (hx:a.eval x=u) {v':Value} {w':World} (hr:(Builtin.copy_ #[dT,sT] o.type #[v,u]).run P w=.ok v' w') (hK:K (a.put o.dst v') w') :
  if Region.wanted o (yielded ops a.tmps)=true then Oper.wp P o a w K Q else E:=by
 have hw:Region.wanted o (yielded ops a.tmps)=true:=by simp [Region.wanted,hg]
 rw [if_pos hw];unfold Oper.wp;simp [execOp,hop,resolve,invoke,builtin,hd,hx,hr,Result.andThen];exact hK
section
variable (b n c i vb vc:Nat) (xs ys:List Value) (C V:Array Value) (w:World)
theorem zzf:TI Tryz.prog 45 (.agg (Array.replicate 32 (.int .u8 0))) 32 32:=z31
theorem z10n:(Tryz.prog.info? 45).map (·.size)=some 32:=by kernel_rfl
set_option maxHeartbeats 4000000 in
set_option maxRecDepth 100000 in
theorem z12g (hi:i<n) (hroom:n+1≤c) (hc63:c≤9223372036854775807) (hvb:vb≠b) (hC:w.heap[b]? = some (.cells C 45 (0,0))) (hV:w.heap[vb]? = some (.cells V 45 (0,0)))
  (hCs:C.size=c * 32) (hxs:C.toList.take (n * 32)=xs) (hys:V.toList.take 32=ys) (hyl:ys.length=32) (h1x:∀ v∈xs,v.oneCell'=true) (h1y:∀ v∈ys,v.oneCell'=true) :
  Calls Tryz.prog 123 #[.slice (some ⟨b,0,none⟩) n c,.int .i64 i,.slice (some ⟨vb,0,none⟩) 1 vc] w fun e w' =>
   e=.returned (.slice (some ⟨b,0,none⟩) (n+1) c)∧∃ D,w'=w.drew.setRow b D∧D.size=C.size∧D.toList.take ((n+1) * 32)=xs.take (i * 32)++ys++xs.drop (i * 32):=by
 have hsz:=z10n;have u22:Tryz.prog.underlying 29=some (.slice 45):=Tryz.underlying29;have hcc:∀ j v,C.toList[j]? = some v→w.cell? ⟨b,j,none⟩=some v:=fun j v hj=>by
  rw [Array.getElem?_toList] at hj; unfold World.cell?; rw [hC]; exact hj
 have hcv:∀ j v,V.toList[j]? = some v→w.cell? ⟨vb,j,none⟩=some v:=fun j v hj=>by
  rw [Array.getElem?_toList] at hj; unfold World.cell?; rw [hV]; exact hj
 have hxl:xs.length=n * 32:=by rw [← hxs,List.length_take,Array.length_toList]; omega
 have hxg:∀ j v,xs[j]? = some v→C.toList[j]? = some v:=fun j v hj=>by
  rw [← hxs,List.getElem?_take] at hj; split at hj
  ·exact hj
  ·cases hj
 have hyg:∀ j v,ys[j]? = some v→V.toList[j]? = some v:=fun j v hj=>by
  rw [← hys,List.getElem?_take] at hj; split at hj
  ·exact hj
  ·cases hj
 have hVs:V.size≠0:=by
  have:ys.length≤V.size:=by rw [← hys,List.length_take,Array.length_toList]; omega
  omega
 have hov:∀ lb cb,(callFunc 170 #[.slice (some ⟨vb,0,none⟩) 1 vc,.slice (some ⟨b,(i+1) * 32,none⟩) lb cb]).run Tryz.prog w=.ok (.value (.bool false)) w:=fun lb cb=>by
  rw [run_callFunc_extern Tryz.func170 (by kernel_rfl) (by kernel_rfl) (by kernel_rfl) (e:=Extern.SlicesOverlaps.overlaps #[29,29] #[4]) (by kernel_rfl),
   Lib.run_overlaps_apart w 29 4 45 u22 32 Tryz.sizeOf45 ⟨vb,0,none⟩ ⟨b,(i+1) * 32,none⟩ 1 vc lb cb hvb 45 45 V.size C.size (by simp [World.shape?,hV]) (by simp [World.shape?,hC]) (by omega) (by simp [World.frozen?,hV]) (by simp [World.frozen?,hV])]
  rfl
 have hdl:(xs.drop (i * 32)).length=(n - i) * 32:=by rw [List.length_drop,hxl,Nat.sub_mul]
 have hmin1:Nat.min (n+1 - i) (n - i)=n - i:=by simp only [Nat.min_def]; split <;> omega
 have hcp1:∀ ty dc sc,(Builtin.copy_ #[29,29] ty #[.slice (some ⟨b,(i+1) * 32,none⟩) (n - i) dc,.slice (some ⟨b,i * 32,none⟩) (n+1 - i) sc]).run Tryz.prog w.drew =
   .ok (goInt ((n - i:Nat):Int)) (w.drew.setRow b (C.toList.take ((i+1) * 32)++xs.drop (i * 32)++C.toList.drop ((i+1) * 32+(xs.drop (i * 32)).length)).toArray):=fun ty dc sc=>by
  have e:=z148 (P:=Tryz.prog) w.drew 29 29 ty 45 b ((i+1) * 32) (n - i) dc ⟨b,i * 32,none⟩ (n+1 - i) sc C 45 (xs.drop (i * 32)) u22 hsz hC (by rw [hmin1,hdl])
   (fun j v hj=>by rw [Addr.add_lit]; exact hcc _ v (hxg _ v (by rwa [List.getElem?_drop] at hj))) (by rw [hdl,hCs]; omega) (fun v hv=>h1x v (List.mem_of_mem_drop hv))
  rw [hmin1] at e; exact e
 obtain ⟨D1,hD1⟩:∃ D1,D1=(C.toList.take ((i+1) * 32)++xs.drop (i * 32)++C.toList.drop ((i+1) * 32+(xs.drop (i * 32)).length)).toArray:=⟨_,rfl⟩
 rw [← hD1] at hcp1;have hD1s:D1.size=C.size:=by
  rw [hD1]; simp only [List.size_toArray,List.length_append,List.length_take,List.length_drop,Array.length_toList,hxl]; omega
 obtain ⟨W1,hW1⟩:∃ W1,W1=w.drew.setRow b D1:=⟨_,rfl⟩
 have hB1:W1.heap[b]? = some (.cells D1 45 (0,0)):=by rw [hW1]; exact setRow_heap w.drew b C D1 45 (0,0) hC
 have hV1:W1.heap[vb]? = some (.cells V 45 (0,0)):=by rw [hW1,setRow_other w.drew b vb D1 hvb]; exact hV
 obtain ⟨D2,hD2⟩:∃ D2,D2=(D1.toList.take (i * 32)++ys++D1.toList.drop (i * 32+ys.length)).toArray:=⟨_,rfl⟩
 have hcp2:∀ ty dc,(Builtin.copy_ #[29,29] ty #[.slice (some ⟨b,i * 32,none⟩) (n+1 - i) dc,.slice (some ⟨vb,0,none⟩) 1 vc]).run Tryz.prog W1=.ok (goInt 1) (W1.setRow b D2):=fun ty dc=>by
  have hm:Nat.min 1 (n+1 - i)=1:=by simp only [Nat.min_def]; split <;> omega
  have e:=z148 (P:=Tryz.prog) W1 29 29 ty 45 b (i * 32) (n+1 - i) dc ⟨vb,0,none⟩ 1 vc D1 45 ys u22 hsz hB1 (by rw [hm,hyl])
   (fun j v hj=>by
    rw [Addr.add_lit,Nat.zero_add]
    have:=hyg j v hj
    rw [Array.getElem?_toList] at this
    unfold World.cell?; rw [hV1]; exact this) (by rw [hyl,hD1s,hCs]; omega) h1y
  rw [hm,← hD2] at e; exact e
 have hfin:D2.size=C.size∧D2.toList.take ((n+1) * 32)=xs.take (i * 32)++ys++xs.drop (i * 32):=by
  have t1:D1.toList.take (i * 32)=xs.take (i * 32):=by
   rw [hD1,← hxs,List.take_take];simp only [List.append_assoc];rw [List.take_append_of_le_length (by rw [List.length_take,Array.length_toList]; omega),List.take_take]
   congr 1; omega
  have t2:(D1.toList.drop ((i+1) * 32)).take ((n - i) * 32)=xs.drop (i * 32):=by
   have el:(C.toList.take ((i+1) * 32)).length=(i+1) * 32:=by rw [List.length_take,Array.length_toList]; omega
   rw [hD1];simp only [List.append_assoc];rw [List.drop_append,el,Nat.sub_self,List.drop_zero,List.drop_eq_nil_of_le (by rw [el]; omega),List.nil_append,List.take_append_of_le_length (by rw [hdl]; omega),List.take_of_length_le (by rw [hdl]; omega)]
  constructor
  ·rw [hD2]; simp only [List.size_toArray,List.length_append,List.length_take,List.length_drop,Array.length_toList,hyl]; omega
  ·rw [hD2];simp only [List.append_assoc];have el:(D1.toList.take (i * 32)).length=i * 32:=by rw [List.length_take,Array.length_toList]; omega
   rw [List.take_append,el,List.take_of_length_le (by rw [el]; omega),List.take_append,hyl,List.take_of_length_le (l:=ys) (by rw [hyl]; omega),t1,
    show i * 32+32=(i+1) * 32 by omega, show (n+1) * 32 - i * 32 - 32=(n - i) * 32 by omega,t2]
 have hz1:¬ ((1:Int)=0):=by decide
 have hz2:¬ ((i:Int)=(n:Int)):=by omega
 have hw1:IntKind.i64.wrap ((i:Int)+1)=(i:Int)+1:=by rw [IntKind.wrap_i64]; omega
 have hb1:(0:Int)≤(i:Int)+1:=by omega
 have hin:i≤n:=by omega
 have htn:((i:Int)+1).toNat=i+1:=by omega
 have hb2:¬ (c=i+1):=by omega
 have hb3:(i:Int)≤(n:Int)+1:=by omega
 have hb4:¬ (c=i):=by omega
 subst hW1
 clear hcc hcv hxg hyg hD1 hD2 hxs hys hC hV hB1 hV1 h1x h1y hdl hmin1 hxl hyl
 go_enter Tryz.func123,Tryz.ntmps123
 go_wp2_with (simp only [hov])
 go_region_law (refine zpm rfl _ _ 29 29 rfl (.slice (some ⟨b,(i+1) * 32,none⟩) (n - i) (c - (i+1))) (.slice (some ⟨b,i * 32,none⟩) (n+1 - i) (c - i)) (by simp [Act.eval,Act.put]) (by simp [Act.eval,Act.put]) (hcp1 3 (c - (i+1)) (c - i)) ?_)
 go_wp2_with (at_builtin; refine zm3 _ rfl _ _ 29 29 rfl _ _ rfl rfl (hcp2 _ _) ?_)
 go_ret
 exact ⟨rfl,D2, by rw [setRow_setRow],hfin⟩
set_option maxHeartbeats 4000000 in
set_option maxRecDepth 100000 in
theorem z146 (hi:i<n) (hnc:n≤c) (hroom:c<n+1) (hn:n≤1000000) (hvb:vb≠b) (hC:w.heap[b]? = some (.cells C 45 (0,0))) (hV:w.heap[vb]? = some (.cells V 45 (0,0)))
  (hCs:C.size=c * 32) (hxs:C.toList.take (n * 32)=xs) (hys:V.toList.take 32=ys) (hyl:ys.length=32) (h1x:∀ v∈xs,v.oneCell'=true) (h1y:∀ v∈ys,v.oneCell'=true) :
  Calls Tryz.prog 123 #[.slice (some ⟨b,0,none⟩) n c,.int .i64 i,.slice (some ⟨vb,0,none⟩) 1 vc] w fun e w' =>
   ∃ G,e=.returned (.slice (some ⟨w.heap.size,0,none⟩) (n+1) G)∧n+1≤G∧G≤maxLen∧∃ D,w'.heap[w.heap.size]? = some (.cells D 45 (0,0))∧w.grownBy w' none∧D.size=G * 32∧D.toList.take ((n+1) * 32)=xs.take (i * 32)++ys++xs.drop (i * 32):=by
 have hsz:=z10n;have u22:Tryz.prog.underlying 29=some (.slice 45):=Tryz.underlying29;have u3:Tryz.prog.underlying 3=some (.int .i64):=Tryz.underlying3;have hcn:c=n:=by omega
 subst hcn;have hcc:∀ j v,C.toList[j]? = some v→w.cell? ⟨b,j,none⟩=some v:=fun j v hj=>by
  rw [Array.getElem?_toList] at hj; unfold World.cell?; rw [hC]; exact hj
 have hxl:xs.length=c * 32:=by rw [← hxs,List.length_take,Array.length_toList]; omega
 have hxg:∀ j v,xs[j]? = some v→C.toList[j]? = some v:=fun j v hj=>by
  rw [← hxs,List.getElem?_take] at hj; split at hj
  ·exact hj
  ·cases hj
 have hyg:∀ j v,ys[j]? = some v→V.toList[j]? = some v:=fun j v hj=>by
  rw [← hys,List.getElem?_take] at hj; split at hj
  ·exact hj
  ·cases hj
 have hbw:b<w.heap.size:=(Array.getElem?_eq_some_iff.1 hC).1;have hvw:vb<w.heap.size:=(Array.getElem?_eq_some_iff.1 hV).1;have hkk:(c:Int)+1 - (i:Int)=((c+1 - i:Nat):Int):=by omega
 obtain ⟨i0,hi0,hz0,hzs,hzb⟩:=zzf;have hold:(Builtin.firstCells i0.size i (.slice (some ⟨b,0,none⟩) i c)).run Tryz.prog w.drew=.ok (xs.take (i * 32)).toArray w.drew:=by
  rw [hzs]
  exact run_firstCells_some w.drew 32 i ⟨b,0,none⟩ i c (xs.take (i * 32)) (by rw [List.length_take]; omega) (fun j v hj=>by
   rw [Addr.add_lit,Nat.zero_add];rw [List.getElem?_take] at hj
   split at hj
   ·exact hcc j v (hxg j v hj)
   ·cases hj)
 obtain ⟨G,hG⟩:∃ G,G=grownCap w (c+1) c 45:=⟨_,rfl⟩
 obtain ⟨ROW,hROW⟩:∃ ROW:Array Value,ROW=(xs.take (i * 32)).toArray++Builtin.zeroCells (Array.replicate 32 (.int .u8 0)) (c+1 - i)++Builtin.zeroCells (Array.replicate 32 (.int .u8 0)) (G - (c+1)):=⟨_,rfl⟩
 have hrz:∀ ty,(Builtin.append_ #[29,3] ty #[.slice (some ⟨b,0,none⟩) i c,.int .i64 ((c:Int)+1 - (i:Int))]).run Tryz.prog w =
   .ok (.slice (some ⟨w.heap.size,0,none⟩) (c+1) G) (w.drew.alloc (.cells ROW 45)):=fun ty=>by
  have h:=Lib.run_append_grow_zeros w 29 3 ty 45 i0 _ .i64 .i64 u22 u3 hi0 hz0 (some ⟨b,0,none⟩) i c (xs.take (i * 32)) hold (c+1 - i) (by omega) (by omega) (by omega) (by omega) (by rw [hzb]; omega) (by rw [hzb, show i+(c+1 - i)=c+1 by omega]; exact growslice_fits (by omega) (by omega));rw [show i+(c+1 - i)=c+1 by omega] at h;rw [hkk,hROW,hG];exact h
 have hGn:c+1≤G:=by rw [hG]; exact grownCap_ge w _ _ _
 have hGm:G≤maxLen:=by rw [hG]; exact grownCap_le_maxLen w (c+1) c 45 (by unfold maxLen; omega)
 have hG63:G≤9223372036854775807:=by unfold maxLen at hGm; omega
 have hRs:ROW.size=G * 32:=by
  rw [hROW]; simp only [Array.size_append,List.size_toArray,List.length_take,size_zeroCells,Array.size_replicate,hxl]; omega
 have hRt:ROW.toList.take (i * 32)=xs.take (i * 32):=by
  rw [hROW]; simp only [Array.toList_append,List.append_assoc];rw [List.take_append_of_le_length (by rw [List.length_take]; omega),List.take_take]; congr 1; omega
 obtain ⟨D1,hD1⟩:∃ D1,D1=(ROW.toList.take (i * 32)++ys++ROW.toList.drop (i * 32+ys.length)).toArray:=⟨_,rfl⟩
 have hD1s:D1.size=G * 32:=by
  rw [hD1]; simp only [List.size_toArray,List.length_append,List.length_take,List.length_drop,Array.length_toList,hyl]; omega
 obtain ⟨D2,hD2⟩:∃ D2,D2=(D1.toList.take ((i+1) * 32)++xs.drop (i * 32)++D1.toList.drop ((i+1) * 32+(xs.drop (i * 32)).length)).toArray:=⟨_,rfl⟩
 have hdl:(xs.drop (i * 32)).length=(c - i) * 32:=by rw [List.length_drop,hxl,Nat.sub_mul]
 have hD2s:D2.size=G * 32:=by
  rw [hD2]; simp only [List.size_toArray,List.length_append,List.length_take,List.length_drop,Array.length_toList,hxl]; omega
 have hfin:D2.toList.take ((c+1) * 32)=xs.take (i * 32)++ys++xs.drop (i * 32):=by
  have e1:(ROW.toList.take (i * 32)).length=i * 32:=by rw [List.length_take,Array.length_toList]; omega
  have e2:D1.toList.take ((i+1) * 32)=xs.take (i * 32)++ys:=by
   rw [hD1]; simp only [List.append_assoc];rw [List.take_append,e1,List.take_of_length_le (by rw [e1]; omega),List.take_append_of_le_length (by rw [hyl]; omega),List.take_of_length_le (l:=ys) (by rw [hyl]; omega),hRt]
  have e3:(D1.toList.take ((i+1) * 32)).length=(i+1) * 32:=by rw [List.length_take,Array.length_toList]; omega
  rw [hD2]; simp only [List.append_assoc];rw [List.take_append,e3,List.take_of_length_le (by rw [e3]; omega),List.take_append_of_le_length (by rw [hdl]; omega),List.take_of_length_le (l:=xs.drop (i * 32)) (by rw [hdl]; omega),e2,List.append_assoc]
 have hcpA:∀ (W:World),W.heap=w.heap.push (.cells ROW 45)→∀ ty dc,(Builtin.copy_ #[29,29] ty #[.slice (some ⟨w.heap.size,i * 32,none⟩) (c+1 - i) dc,.slice (some ⟨vb,0,none⟩) 1 vc]).run Tryz.prog W=.ok (goInt 1) (W.setRow w.heap.size D1):=fun W hW ty dc=>by
  have hm:Nat.min 1 (c+1 - i)=1:=by simp only [Nat.min_def]; split <;> omega
  have hN:W.heap[w.heap.size]? = some (.cells ROW 45 (0,0)):=by rw [hW,Array.getElem?_push_size]
  have hV1:W.heap[vb]? = some (.cells V 45 (0,0)):=by rw [hW,Array.getElem?_push_lt hvw]; rw [← hV,Array.getElem?_eq_getElem hvw]
  have e:=z148 (P:=Tryz.prog) W 29 29 ty 45 w.heap.size (i * 32) (c+1 - i) dc ⟨vb,0,none⟩ 1 vc ROW 45 ys u22 hsz hN (by rw [hm,hyl])
   (fun j v hj=>by
    rw [Addr.add_lit,Nat.zero_add]
    have:=hyg j v hj
    rw [Array.getElem?_toList] at this
    unfold World.cell?; rw [hV1]; exact this) (by rw [hyl,hRs]; omega) h1y
  rw [hm,← hD1] at e; exact e
 have hcpB:∀ (W W0:World),W0.heap=w.heap.push (.cells ROW 45)→W.heap=(W0.setRow w.heap.size D1).heap→∀ ty dc sc,(Builtin.copy_ #[29,29] ty #[.slice (some ⟨w.heap.size,(i+1) * 32,none⟩) (c - i) dc,.slice (some ⟨b,i * 32,none⟩) (c - i) sc]).run Tryz.prog W=.ok (goInt ((c - i:Nat):Int)) (W.setRow w.heap.size D2):=fun W W0 hW0 hW ty dc sc=>by
  have hm:Nat.min (c - i) (c - i)=c - i:=Nat.min_self _;have hN:W.heap[w.heap.size]? = some (.cells D1 45 (0,0)):=by rw [hW]; exact setRow_heap W0 w.heap.size ROW D1 45 (0,0) (by rw [hW0,Array.getElem?_push_size])
  have hB1:W.heap[b]? = some (.cells C 45 (0,0)):=by
   rw [hW,setRow_other W0 w.heap.size b D1 (by omega),hW0,Array.getElem?_push_lt hbw,← hC,Array.getElem?_eq_getElem hbw]
  have e:=z148 (P:=Tryz.prog) W 29 29 ty 45 w.heap.size ((i+1) * 32) (c - i) dc ⟨b,i * 32,none⟩ (c - i) sc D1 45 (xs.drop (i * 32)) u22 hsz hN (by rw [hm,hdl])
   (fun j v hj=>by
    rw [Addr.add_lit]
    have:=hxg _ v (by rwa [List.getElem?_drop] at hj)
    rw [Array.getElem?_toList] at this
    unfold World.cell?; rw [hB1]; exact this) (by rw [hdl,hD1s]; omega) (fun v hv=>h1x v (List.mem_of_mem_drop hv))
  rw [hm,← hD2] at e; exact e
 have hz1:¬ ((1:Int)=0):=by decide
 have hz2:¬ ((i:Int)=(c:Int)):=by omega
 have hz3:(c:Int)<(c:Int)+1:=by omega
 have hw1:IntKind.i64.wrap ((i:Int)+1)=(i:Int)+1:=by rw [IntKind.wrap_i64]; omega
 have hb1:(0:Int)≤(i:Int)+1:=by omega
 have hin:i≤c:=by omega
 have htn:((i:Int)+1).toNat=i+1:=by omega
 have hGi:¬ (G=i):=by omega
 have hGim:¬ (G=i+1):=by omega
 have hci:¬ (c=i):=by omega
 have hb3:(i:Int)≤(c:Int):=by omega
 have hE1:((w.alloc (.cells ROW 45)).drew).heap=w.heap.push (.cells ROW 45):=rfl;have hF1:(((w.alloc (.cells ROW 45)).drew.setRow w.heap.size D1).drew).heap=(((w.alloc (.cells ROW 45)).drew).setRow w.heap.size D1).heap:=rfl
 clear hROW hold hG hRt hD1 hD2 hxs hys hC hV h1x h1y hdl hxl hyl hcc hxg hyg hi0 hz0 hzs hzb hkk hnc hroom
 go_enter Tryz.func123,Tryz.ntmps123
 go_wp2_with (first
  | (at_builtin; refine Lib.wpList_append_run _ rfl _ _ _ _ rfl _ _ rfl rfl _ _ (hrz _) ?_)
  | (at_builtin; refine zm3 _ rfl _ _ 29 29 rfl _ _ rfl rfl (hcpA _ hE1 _ _) ?_))
 go_region_law (refine zpm rfl _ _ 29 29 rfl (.slice (some ⟨w.heap.size,(i+1) * 32,none⟩) (c - i) (G - (i+1))) (.slice (some ⟨b,i * 32,none⟩) (c - i) (c - i)) (by simp [Act.eval,Act.put]) (by simp [Act.eval,Act.put]) (hcpB _ _ hE1 hF1 3 (G - (i+1)) (c - i)) ?_)
 go_wp2
 go_ret
 refine ⟨G,rfl,hGn,hGm,D2,?_,⟨rfl,rfl,rfl,?_, fun k hk _=>?_⟩,hD2s,hfin⟩
 ·exact setRow_heap _ w.heap.size D1 D2 45 (0,0) (setRow_heap ((w.alloc (.cells ROW 45)).drew) w.heap.size ROW D1 45 (0,0) (by rw [hE1,Array.getElem?_push_size]))
 ·rw [setRow_size]; show _≤((w.alloc (.cells ROW 45)).drew.setRow w.heap.size D1).heap.size; rw [setRow_size,hE1,Array.size_push]; omega
 ·rw [setRow_other _ w.heap.size k D2 (by omega)]; show ((w.alloc (.cells ROW 45)).drew.setRow w.heap.size D1).heap[k]? = _;rw [setRow_other _ w.heap.size k D1 (by omega),hE1,Array.getElem?_push_lt hk,Array.getElem?_eq_getElem hk]
set_option maxHeartbeats 4000000 in
set_option maxRecDepth 100000 in
theorem z18v (p0 p1:Value) (h0:w.ownsRow 0 45 32 p0 n xs) (h1:w.ownsRow 0 45 32 p1 1 ys) (hn:n≤1000000) (h1y:∀ v∈ys,v.oneCell'=true) :
  Calls Tryz.prog 123 #[p0,.int .i64 n,p1] w fun e w'=>∃ v',e=.returned v'∧w'.ownsRow 0 45 32 v' (n+1) (xs++ys)∧w.grownBy w' p0.ownBlock∧∀ b,v'.ownBlock=some b→p0.ownBlock=some b∨w.heap.size≤b:=by
 have u22:Tryz.prog.underlying 29=some (.slice 45):=Tryz.underlying29;obtain ⟨p,c,rfl⟩:=z3y h0;obtain ⟨q,d,rfl⟩:=z3y h1;obtain ⟨p',c',w',hrun,ho,hg,hs⟩:=zk1 (P:=Tryz.prog) (rt:=29) (w:=w) u22 zzf (by simp [Value.cells]) (by decide) h0 (Rd.of_own h1) h1y (by omega) (by omega) (Nat.zero_le _);have hz1:¬ ((1:Int)=0):=by decide
 have hnc:n≤c:=by
  rcases h0.2 with ⟨e,rfl⟩ | ⟨g,cap,cur,e,_,_,h,_⟩
  ·omega
  ·simp only [Value.slice.injEq] at e; omega
 have hc63:c≤9223372036854775807:=by
  rcases h0.2 with ⟨e,rfl⟩ | ⟨g,cap,cur,e,_,_,_,h,_⟩
  ·simp only [Value.slice.injEq] at e; omega
  ·simp only [Value.slice.injEq] at e; unfold maxLen at h; omega
 have hin:n≤n:=Nat.le_refl _;have hp0:p=none→n=0∧c=0:=fun e=>by
  rcases h0.2 with ⟨e',rfl⟩ | ⟨g,cap,cur,e',_⟩
  ·simp only [Value.slice.injEq] at e'; omega
  ·rw [e] at e'; simp at e'
 clear h0 h1 h1y
 go_enter Tryz.func123,Tryz.ntmps123
 cases p with
 | none =>
  obtain ⟨rfl,rfl⟩:=hp0 rfl
  clear hp0
  go_wp2_with (at_builtin; refine Lib.wpList_append_run _ rfl _ _ _ _ rfl _ _ rfl rfl _ _ hrun ?_)
  go_ret
  exact ⟨_,rfl,ho,hg,hs⟩
 | some a =>
  clear hp0
  obtain ⟨ab,ao,asp⟩:=a
  go_wp2_with (at_builtin; refine Lib.wpList_append_run _ rfl _ _ _ _ rfl _ _ rfl rfl _ _ hrun ?_)
  all_goals (go_ret; exact ⟨_,rfl,ho,hg,hs⟩)
end
end
section
open Go Go.RowKit
theorem relB {S S':Blk} {w w':World}:∀ {l:List UInt8} {cs:List Value},z65 u8R S w cs l→z65 u8R S' w' cs l
 | [],cs,h=>h
 | x::l,cs,h=>by
  obtain ⟨c,d,rfl,h1,h2⟩:=h;exact ⟨c,d,rfl,h1,relB h2⟩
theorem relD {S S':Blk} {w w':World}:∀ {l:List V3} {cs:List Value},z65 (z3i 32 u8R) S w cs l→z65 (z3i 32 u8R) S' w' cs l
 | [],cs,h=>h
 | x::l,cs,h=>by
  obtain ⟨c,d,rfl,h1,h2⟩:=h;exact ⟨c,d,rfl,relB h1,relD h2⟩
def insF (c0:List V3) (i:Int) (c1:List V3):Option (List V3) :=
 chk (0≤i∧i.toNat≤c0.length∧c0.length≤1000000∧c1.length=1) >>= fun _=>some (c0.take i.toNat++c1++c0.drop i.toNat)
theorem z16l (p0 p1:Value) (n i:Nat) (xs ys:List Value) (w:World) (hi:i≤n) (h0:w.ownsRow 0 45 32 p0 n xs) (h1:w.ownsRow 0 45 32 p1 1 ys) (hsep:∀ b,p0.ownBlock=some b→p1.ownBlock≠some b) (hn:n≤1000000)
  (h1x:∀ v∈xs,v.oneCell'=true) (h1y:∀ v∈ys,v.oneCell'=true) :
  Calls Tryz.prog 123 #[p0,.int .i64 i,p1] w fun e w'=>∃ v',e=.returned v'∧w'.ownsRow 0 45 32 v' (n+1) (xs.take (i * 32)++ys++xs.drop (i * 32))∧w.grownBy w' p0.ownBlock∧∀ b,v'.ownBlock=some b→p0.ownBlock=some b∨w.heap.size≤b:=by
 have hxl:=h0.1;by_cases hin:i=n
 ·subst hin;refine (z18v i xs ys w p0 p1 h0 h1 hn h1y).mono fun e w' ⟨v',a,b,c,d⟩=>⟨v',a,?_,c,d⟩;rw [List.take_of_length_le (by omega),List.drop_eq_nil_of_le (by omega),List.append_nil];exact b
 ·rcases h0.2 with ⟨rfl,rfl⟩ | ⟨b,c,C,rfl,-,hC,hnc,hcm,hCs,hxs⟩
  ·omega
  rcases h1.2 with ⟨rfl,e⟩ | ⟨vb,vc,V,rfl,-,hV,-,-,hVs,hys⟩
  ·omega
  have hvb:vb≠b:=fun e=>hsep b rfl (by rw [e]; rfl);have hyl:ys.length=32:=by have:=h1.1; omega
  have hlen:(xs.take (i * 32)++ys++xs.drop (i * 32)).length=(n+1) * 32:=by
   simp only [List.length_append,List.length_take,List.length_drop,hyl]; omega
  by_cases hroom:n+1≤c
  ·refine (z12g b n c i vb vc xs ys C V w (by omega) hroom (by unfold maxLen at hcm; omega) hvb hC hV hCs hxs (by simpa using hys) hyl h1x h1y).mono fun e w' ⟨a,D,a2,a3,a4⟩=>⟨_,a,?_,?_, fun b' hb'=>.inl hb'⟩
   ·refine ⟨hlen,.inr ⟨b,c,D,rfl,Nat.zero_le _,?_,hroom,hcm,a3.trans hCs,a4⟩⟩;rw [a2]; exact setRow_heap w.drew b C D 45 (0,0) hC
   ·rw [a2];refine ⟨rfl,rfl,rfl,?_, fun k hk hne=>?_⟩
    ·rw [setRow_size]; exact Nat.le_refl _
    ·rw [setRow_other w.drew b k D (fun e=>hne (by rw [e]; rfl))]; rfl
  ·refine (z146 b n c i vb vc xs ys C V w (by omega) hnc (by omega) hn hvb hC hV hCs hxs (by simpa using hys) hyl h1x h1y).mono fun e w' ⟨G,a,g1,g2,D,a1,a2,a3,a4⟩=>⟨_,a,?_,?_, fun b' hb'=>.inr ?_⟩
   ·exact ⟨hlen,.inr ⟨w.heap.size,G,D,rfl,Nat.zero_le _,a1,g1,g2,a3,a4⟩⟩
   ·exact ⟨a2.os,a2.tape,a2.output,a2.size, fun k hk _=>a2.block k hk (by simp)⟩
   ·simp only [Value.ownBlock,Option.some.injEq] at hb'; omega
theorem z18z (p0 p1:Value) (c0 c1:List V3) (i:Int):z23 Tryz.prog 123 [.val p0,.rd z0f i,.val p1] [(1,some (p0,.list (z3i 32 u8R) 45 c0)),(2,some (p1,.list (z3i 32 u8R) 45 c1))] (insF c0 i c1)
  (fun r nv=>⟨[.val (nv 0)],[(100,some (nv 0,.list (z3i 32 u8R) 45 r))]⟩):=by
 intro r hr H vs w hvs hres;have hb:(0≤i∧i.toNat≤c0.length∧c0.length≤1000000∧c1.length=1)∧r=c0.take i.toNat++c1++c0.drop i.toNat:=by
  unfold insF chk at hr
  split at hr
  ·rename_i h; simp at hr; exact ⟨h, by rw [← hr,List.append_assoc]⟩
  ·simp at hr
 obtain ⟨⟨hi0,hi1,hn,hc1⟩,rfl⟩:=hb
 match vs,hvs with
 | [v0,v1,v2],hvs =>
 obtain ⟨h0,h1,h2,_⟩:=hvs;have e0:v0=p0:=h0.1;have e2:v2=p1:=h2.1;have e1:v1=.int .i64 i:=z4l h1;subst e0; subst e2; subst e1;obtain ⟨j,rfl⟩:∃ j:Nat,i=(j:Int):=⟨i.toNat, by omega⟩
 simp only [Int.toNat_natCast] at hi1 ⊢;obtain ⟨xs,x1,x2⟩:=z8o (hres.conts 1 v0 _ rfl);obtain ⟨ys,y1,y2⟩:=z8o (hres.conts 2 v2 _ rfl);rw [hc1] at y1;have hsep:∀ b,v0.ownBlock=some b→v2.ownBlock≠some b:=fun b hb hb2=>by
  obtain ⟨p,c,rfl⟩:=z3y x1;obtain ⟨q,d,rfl⟩:=z3y y1;exact hres.excl 1 _ _ 2 _ _ rfl rfl (by decide) b (by rw [z90]; exact hb) (by rw [z90]; exact hb2)
 refine (z16l v0 v2 c0.length j xs ys w hi1 x1 y1 hsep hn x2.one y2.one).mono fun e w' ⟨v',he,hw,hg,hs⟩=>?_;have only:∀ r v c (q:z42),lr [(100,some (v',q))] r=some (v,c)→r=100∧v=v'∧c=q:=fun r v c q h=>by
  rw [z1q] at h
  split at h
  ·rename_i e; cases h; exact ⟨e.symm,rfl,rfl⟩
  ·simp [lr,lk] at h
 have hlen:(c0.take j++c1++c0.drop j).length=c0.length+1:=by
  simp only [List.length_append,List.length_take,List.length_drop,hc1]; omega
 obtain ⟨p',c',rfl⟩:=z3y hw;refine ⟨fun _=>.slice p' (c0.length+1) c',[.slice p' (c0.length+1) c'],he,⟨⟨rfl,rfl⟩,trivial⟩, fun r v c h=>?_, fun r v c r' v2' c2' h h' hne=>?_, fun r v c h b hb=>?_,hg.os,hg.tape,hg.output,hg.size, fun k hk=>?_⟩
 ·obtain ⟨rfl,rfl,rfl⟩:=only _ _ _ _ h;refine znm (B:=0) (xs:=xs.take (j * 32)++ys++xs.drop (j * 32)) (by rw [hlen]; exact hw) ?_;exact ((relD (x2.take j)).append (relD y2)).append (relD (x2.drop j))
 ·exact absurd ((only _ _ _ _ h).1.trans (only _ _ _ _ h').1.symm) hne
 ·obtain ⟨rfl,rfl,rfl⟩:=only _ _ _ _ h;rw [z90] at hb;rcases hs b hb with h | h
  ·exact .inr ⟨1,_,_,rfl, by obtain ⟨p,c,rfl⟩:=z3y x1; rw [z90]; exact h⟩
  ·exact .inl h
 ·refine hg.block k hk.1 fun e=>hk.2 ⟨1,_,_,rfl,?_⟩;obtain ⟨p,c,rfl⟩:=z3y x1; rw [z90]; exact e.symm
end
section
open Go Go.RowKit
set_option maxRecDepth 100000
def zhi (a0:z05):Option (z05) :=
 z15 a0.Preds >>= fun r3 =>
 some (⟨a0.Author,r3,a0.Stamp,a0.Act,a0.Sig⟩:z05)
theorem zio (a0:z05):z23 Tryz.prog 124 [.rd z03 a0] [] (zhi a0) (fun r nv=>⟨[.rd z03 r],[]⟩):=by
 refine z2m 8 Tryz.func124 Z Z Z fun H w=>?_;refine gSR<|Eb Z (bx 1 Z) fun v1=>Eb Z (z6n 2 z6h (ZrE.rd (R:=z0s) (x:=0) (Zr.num Z) (ZrE.nilS (ZrE.rd (R:=z1z) (x:=0) (Zr.num Z) (ZrE.rd (R:=z0c) (x:=(⟨0,[],(⟨0,0,0,[]⟩:z00)⟩:z0b)) zlm (ZrE.rd (R:=z0e) (x:=(⟨0,0⟩:z0a)) zlc ZrE.nil Z) Z) Z)) Z)) fun v2=>Zn<|gSR<|Zq (faB 1 Z Z Tryz.underlying43 Z (by exact z8j))<|Zq (ld 1 Z Z (fP (z0z _)) zbn Z)<|Zc [] [(100,3)] Tryz.func83 Z (z2g _) fun r3 n4=>Zq (faB 1 Z Z Tryz.underlying43 Z (by exact z8j))<|lSpl (R:=z03) 1 Z (Sp.via (Sp.prod (Sp.prod (Sp.prod (Sp.prod (Sp.prod Sp.unit))))))<|Es (zo4 1 Z Z (z7f.cast (z7f.next z09 (z7f.here z09)) Z) Z z12 z08 z8j)<|Zn<|gSR<|lPow [.rd z0s a0.Author,.rd (z02 aZ) r3,.rd z1z a0.Stamp,.rd z0c a0.Act,.rd z0e a0.Sig] 1 3 [.rd z0s a0.Author] [.rd z1z a0.Stamp,.rd z0c a0.Act,.rd z0e a0.Sig] Z Z Z Z Z<|zgt (R:=z03) (⟨a0.Author,r3,a0.Stamp,a0.Act,a0.Sig⟩:z05) 1 Z (Sp.via (Sp.prod (Sp.prod (Sp.prod (Sp.prod (Sp.prod Sp.unit))))))<|Zq (ld 1 Z Z fH za3 Z)<|zhd aZ [.rd z0s 0,.rd (z02 aZ) [],.rd z1z 0,.rd z0c (⟨0,[],(⟨0,0,0,[]⟩:z00)⟩:z0b),.rd z0e (⟨0,0⟩:z0a)] 2 [.rd z0s 0] [.rd z1z 0,.rd z0c (⟨0,[],(⟨0,0,0,[]⟩:z00)⟩:z0b),.rd z0e (⟨0,0⟩:z0a)] Z Z Z<|zgt (R:=z03) (⟨0,[],0,(⟨0,[],(⟨0,0,0,[]⟩:z00)⟩:z0b),(⟨0,0⟩:z0a)⟩:z05) 2 Z (Sp.via (Sp.prod (Sp.prod (Sp.prod (Sp.prod (Sp.prod Sp.unit))))))<|Es (sto 2 Z Z fH Z z6h)<|Zn<|z0n<|zbm [] [] Z (eC 2 Z Z za3<|eN) (rN)
def zhq (a0:z01) (a2:z05) (r5:Int × Bool) (r11:List V3) (s16:(List z05) × Int):Option (Sum ((List z05)) ((List z05) × Int)) :=
 if decide (s16.2<(r11.length:Int)) then
  some (decide (s16.2<r5.1)) >>= fun y19 =>
  if y19 then
   idx a0.Ops s16.2 >>= fun x21 =>
   zhi x21 >>= fun r23 =>
   app 112 s16.1 [r23] >>= fun x26 =>
   some (.inr (x26,w64 (s16.2+1)))
  else
   some (s16.2==r5.1) >>= fun y29 =>
   if y29 then
    zhi a2 >>= fun r31 =>
    app 112 s16.1 [r31] >>= fun x34 =>
    some (.inr (x34,w64 (s16.2+1)))
   else
    idx a0.Ops (w64 (s16.2 - 1)) >>= fun x37 =>
    zhi x37 >>= fun r39 =>
    app 112 s16.1 [r39] >>= fun x42 =>
    some (.inr (x42,w64 (s16.2+1)))
 else
  some (.inl s16.1)
def zfr (a0:z01) (a1:V3) (a2:z05):Option (z01 × Bool) :=
 zea a0 a1 >>= fun r5 =>
 if r5.2 then
  some (a0,false)
 else
  z15 a0.IDs >>= fun r8 =>
  insF r8 r5.1 [a1] >>= fun r11 =>
  (iter (zhq a0 a2 r5 r11) ([],0)) >>= fun s15 =>
  some ((⟨r11,s15⟩:z01),true)
set_option maxHeartbeats 4000000 in
theorem zps (a0:z01) (a1:V3) (a2:z05):z23 Tryz.prog 75 [.rd z04 a0,.rd aZ a1,.rd z03 a2] [] (zfr a0 a1 a2) (fun r nv=>⟨[.rd z04 r.1,.rd z0h r.2],[]⟩):=by
 refine z2m 74 Tryz.func75 Z Z Z fun H w=>?_;refine gSR<|Eb Z (bx 1 Z) fun v1=>Eb Z (bx 2 Z) fun v2=>Eb Z (bx 3 Z) fun v3=>Eb Z (z6n 4 zde (ZrE.nilS (ZrE.nilS ZrE.nil))) fun v4=>Zb Z<|gSR<|Zq (ld 1 Z Z fH zcv Z)<|Zq (ld 2 Z Z fH z59 Z)<|Zc [] [] Tryz.func85 Z (zji _ _) fun r5 n6=>Zm Z<|Zq (ext Z Z)<|Zq (ext Z Z)<|Za Z<|Zb Z<|z0x<|gSR<|Zm Z<|Zj Z (fun h7=>?_) (fun h7=>?_)
 ·refine gKn 17 Z h7<|gKn 9 Z h7<|gSR<|Zq (ld 1 Z Z fH zcv Z)<|zhd aZ [.rd (z02 aZ) [],.val (.slice none 0 0)] 4 [] [.val (.slice none 0 0)] Z Z Z<|zhd z03 [.rd (z02 aZ) [],.rd (z02 z03) []] 4 [.rd (z02 aZ) []] [] Z Z Z<|zgt (R:=z04) (⟨[],[]⟩:z01) 4 Z (Sp.via (Sp.prod (Sp.prod Sp.unit)))<|Es (sto 4 Z Z fH Z zde)<|Zb Z<|z0n<|z0u<|zbm [] [] Z (eC 4 Z Z zcv<|eE Z<|eN) (rN)
 ·refine gKn 17 Z h7<|gKn 9 Z h7<|Zt<|z0x<|zxx [(3,.val (z07 v1 0)),(4,.val (z07 v2 0)),(5,.val (z07 v3 0)),(6,.val (z07 v4 0)),(8,.rd z0f r5.1)] [(1,some (v1,.box 66 [.rd z04 a0])),(2,some (v2,.box 45 [.rd aZ a1])),(3,some (v3,.box 43 [.rd z03 a2])),(4,some (v4,.box 66 [.val (.slice none 0 0),.val (.slice none 0 0)]))] [1,2,3,4] (Zs Z Z Z Z<|sS Z<|sN) (Zi Z<|Zi Z<|Zi Z<|Zi Z<|rN)<|z83 fun r8 h10=>z83 fun r11 h13=>gOr [] [⟨1,some ([], fun nv=>(v1,.box 66 [.rd z04 a0])),[]⟩,⟨5,none,[(2,some ([1], fun nv=>((nv 1),.list aZ 45 r8))),(6,none)]⟩,⟨2,some ([], fun nv=>(v2,.box 45 [.rd aZ a1])),[]⟩,⟨6,none,[(5,some ([2], fun nv=>((nv 2),.list aZ 45 [a1]))),(6,none)]⟩,⟨7,none,[(6,some ([3], fun nv=>((nv 3),.list aZ 45 r11)))]⟩,⟨8,none,[(8,some ([4], fun nv=>((nv 4),.box 66 [.val (.slice none 0 0),.val (.slice none 0 0)]))),(9,some ([3,4], fun nv=>((nv 4),.box 66 [.val (nv 3),.val (.slice none 0 0)])))]⟩] [pk 20 (.val (z07 v1 (0+0))) [(0,0,false)],pk 21 (.rd (z02 aZ) a0.IDs) [(0,0,false)],⟨some (22,[1], fun nv=>.val (nv 1)),[(1,0,true)],[1],[]⟩,pd 23 (.rd z0f r5.1),pk 24 (.rd aZ a1) [(2,0,false)],⟨some (25,[2], fun nv=>.val (nv 2)),[(3,0,true)],[2],[]⟩,⟨some (26,[3], fun nv=>.val (nv 3)),[(3,1,true),(1,1,true),(4,0,true)],[3],[]⟩,⟨some (27,[3], fun nv=>.agg [.val (nv 3),.val (.slice none 0 0)]),[],[],[]⟩,⟨some (10,[4], fun nv=>.val (z07 (nv 4) 0)),[(5,0,true)],[4],[]⟩,⟨none,[(5,1,true)],[],[]⟩] mixed (oC (oRn (fun nv E=>faB 1 Z Z Tryz.underlying66 Z (by exact z8j)))<|oC (oRn (fun nv E=>ld 1 Z Z (fP (z0r _)) zbn Z))<|oC (oCl [1] [] [(100,5)] h10 Tryz.func83 Z (fun nv=>(z2g _)) (fun nv=>(Y1 Z)) (fun nv E=>rN))<|oC (oRn (fun nv E=>mv Z))<|oC (oRn (fun nv E=>ld 2 Z Z fH z59 Z))<|oC (oEf 6 2 (fun nv E=>lit (R:=aZ) ([a1]:List V3) 6 (pP Z Z<|pN) Z tu29 z31 Z Z))<|oC (oCl [3] [5,6] [(100,7)] h13 Tryz.func123 Z (fun nv=>(z18z _ _ _ _ _)) (fun nv=>(aQ Z<|aQ Z<|aQ Z<|aN)) (fun nv E=>(Zi Z<|Zi Z<|rN)))<|oC (oRn (fun nv E=>zuc [(0,1),(1,1)] Tryz.underlying66 zde (ZrE.nilS (ZrE.nilS ZrE.nil)) Z (zi7.cons Z Z z08 (z7f.cast (z7f.here z08) Z)<|zi7.done Z)))<|oC (oEb 8 4 (fun nv E=>z6n 8 zde (ZrE.nilS (ZrE.nilS ZrE.nil))))<|oC (oEs 8 (fun nv E=>zpl 8 Z Z (z06.cast (z06.cons z08 (z06.cons z08 z06.nil)) Z) Z (z1e.cons z12 (z1e.cons z12 z1e.nil)) (z06.cast (z06.cons z08 (z06.cons z08 z06.nil)) Z) zde))<|oN) fun n14=>z0y<|z7x (fun (s15:(List z05)) aa ww=>∃ nv:Nat→Value,Sta (ctx 74 H [] w) [(6,.val (z07 v4 0)),(10,.val (z07 (nv 0) 0))] [(4,some (v4,.box 66 [.val (.slice none 0 0),.val (.slice none 0 0)])),(7,some ((nv 1),.list aZ 45 r11)),(9,some ((nv 2),.list z03 43 s15)),(8,some ((nv 0),.box 66 [.val (nv 1),.val (nv 2)]))] aa ww) ?_ (fun s15=>?_)
  ·refine gSR<|Zq (faB 8 Z Z Tryz.underlying66 Z (by exact z8j))<|Zq (ldV 8 Z Z (At.cast At.here Z) sc29 Z)<|Zq (z3e Z (.own 7 Z) Z tu29)<|Zm Z<|Zn<|zub z03 43 11<|z29 (fun (s16:(List z05) × Int) aa ww=>∃ nv:Nat→Value,Sta (ctx 74 H [] w) [(3,.val (z07 v1 0)),(5,.val (z07 v3 0)),(6,.val (z07 v4 0)),(8,.rd z0f r5.1),(10,.val (z07 (nv 0) 0)),(30,.rd z0f (r11.length:Int)),(31,.rd z0f s16.2)] [(1,some (v1,.box 66 [.rd z04 a0])),(3,some (v3,.box 43 [.rd z03 a2])),(4,some (v4,.box 66 [.val (.slice none 0 0),.val (.slice none 0 0)])),(7,some ((nv 1),.list aZ 45 r11)),(10,some ((nv 2),.list z03 43 s16.1)),(8,some ((nv 0),.box 66 [.val (nv 1),.val (nv 2)]))] aa ww) (fun aa ww h=>⟨nvl [(n14 4),(n14 3),(.slice none 0 0)],Zu h [1,3,4,7,11,8]⟩) (fun s16=>?_)
   refine gEx fun n17=>gSR<|Zq (I.lss Z Z)<|Zn<|z0x<|gIf Z Z (fun h18=>?_) (fun h18=>?_)
   ·refine Zt<|z0x<|z4s<|gSR<|Zm Z<|Zb Z<|z4s<|gSR<|Zm Z<|Zm Z<|Zq (I.lss Z Z)<|Za Z<|z24 46 Z fun y19=>Zj Z (fun h20=>?_) (fun h20=>?_)
    ·refine zxx [(3,.val (z07 v1 0)),(5,.val (z07 v3 0)),(6,.val (z07 v4 0)),(8,.rd z0f r5.1),(10,.val (z07 (n17 0) 0)),(30,.rd z0f (r11.length:Int)),(31,.rd z0f s16.2),(11,.rd z0f s16.2)] [(1,some (v1,.box 66 [.rd z04 a0])),(3,some (v3,.box 43 [.rd z03 a2])),(4,some (v4,.box 66 [.val (.slice none 0 0),.val (.slice none 0 0)])),(7,some ((n17 1),.list aZ 45 r11)),(10,some ((n17 2),.list z03 43 s16.1)),(8,some ((n17 0),.box 66 [.val (n17 1),.val (n17 2)]))] [1,3,4,7,10,8] (Zs Z Z Z Z<|Zs Z Z Z Z<|sN) (Zi Z<|Zi Z<|Zi Z<|Zi Z<|Zi Z<|Zi Z<|rN)<|z83 fun x21 h22=>z83 fun r23 h25=>z83 fun x26 h27=>gOr [] [⟨8,some ([], fun nv=>((n17 0),.box 66 [.val (n17 1),.val (n17 2)])),[(11,some ([2], fun nv=>((n17 0),.box 66 [.val (n17 1),.val (nv 2)])))]⟩,⟨1,some ([], fun nv=>(v1,.box 66 [.rd z04 a0])),[]⟩,⟨12,none,[(8,none)]⟩,⟨10,some ([], fun nv=>((n17 2),.list z03 43 s16.1)),[(9,some ([2], fun nv=>((nv 2),.list z03 43 x26)))]⟩] [pk 50 (.val (z07 (n17 0) (0+1))) [(0,0,false)],pk 51 (.val (n17 2)) [(0,0,false)],pk 52 (.val (z07 v1 (0+1))) [(1,0,false)],pk 53 (.rd (z02 z03) a0.Ops) [(1,0,false)],pd 54 (.rd z0f s16.2),pd 55 (.rp z03 x21),pd 56 (.rd z03 x21),pd 57 (.rd z03 r23),⟨some (58,[], fun nv=>.rd (z02 z03) [r23]),[(2,0,true)],[1],[]⟩,⟨some (59,[2], fun nv=>.val (nv 2)),[(3,0,true)],[2],[]⟩,pk 60 (.val (z07 (n17 0) (0+1))) [(0,0,false)],⟨none,[(3,1,false),(0,0,true)],[],[]⟩] mixed (oC (oRn (fun nv E=>faB 8 Z Z Tryz.underlying66 Z (by exact zcx)))<|oC (oRn (fun nv E=>ldV 8 Z Z (At.cast (At.next z08 At.here) Z) sc22 Z))<|oC (oRn (fun nv E=>faB 1 Z Z Tryz.underlying66 Z (by exact zcx)))<|oC (oRn (fun nv E=>ld 1 Z Z (fP (z0g _)) zgb Z))<|oC (oRn (fun nv E=>mv Z))<|oC (oRn (fun nv E=>ixR Z Z h22 tu22 z6h Z))<|oC (oRn (fun nv E=>ldR Z za3))<|oC (oCl [] [] [] h25 Tryz.func124 Z (fun nv=>(zio _)) (fun nv=>(Y1 Z)) (fun nv E=>rN))<|oC (oFz (A1:=fun nv=>[(12,some ((nv 1),.list z03 43 [r23]))]) 12 1 (oEf 12 1 (fun nv E=>lit (R:=z03) ([r23]:List z05) 12 (pP Z Z<|pN) Z tu22 z6h Z Z)))<|oC (oEf 10 2 (fun nv E=>apn 10 Z Z Z .rd h27 tu22 z6h Z Z Z))<|oC (oRn (fun nv E=>faB 8 Z Z Tryz.underlying66 Z (by exact zcx)))<|oC (oEs 8 (fun nv E=>zo4 8 Z Z (z7f.cast (z7f.next z08 (z7f.here z08)) Z) Z z12 z08 zcx))<|oN) fun n28=>z3c<|z3c<|z0y<|z28<|Zq (I.add Z Z)<|Zm Z<|z1p<|z1s (fun aa ww h=>⟨nvl [(n17 0),(n17 1),(n28 2)],Zu h [1,3,4,7,10,8]⟩)
    ·refine gSR<|Zm Z<|Zm Z<|Zq (I.eql Z Z)<|Za Z<|z24 61 Z fun y29=>Zj Z (fun h30=>?_) (fun h30=>?_)
     ·refine zxx [(3,.val (z07 v1 0)),(5,.val (z07 v3 0)),(6,.val (z07 v4 0)),(8,.rd z0f r5.1),(10,.val (z07 (n17 0) 0)),(30,.rd z0f (r11.length:Int)),(31,.rd z0f s16.2)] [(1,some (v1,.box 66 [.rd z04 a0])),(3,some (v3,.box 43 [.rd z03 a2])),(4,some (v4,.box 66 [.val (.slice none 0 0),.val (.slice none 0 0)])),(7,some ((n17 1),.list aZ 45 r11)),(10,some ((n17 2),.list z03 43 s16.1)),(8,some ((n17 0),.box 66 [.val (n17 1),.val (n17 2)]))] [1,3,4,7,10,8] (Zs Z Z Z Z<|sS Z<|sS Z<|sS Z<|sN) (Zi Z<|Zi Z<|Zi Z<|Zi Z<|Zi Z<|Zi Z<|rN)<|z83 fun r31 h33=>z83 fun x34 h35=>gOr [] [⟨8,some ([], fun nv=>((n17 0),.box 66 [.val (n17 1),.val (n17 2)])),[(7,some ([2], fun nv=>((n17 0),.box 66 [.val (n17 1),.val (nv 2)])))]⟩,⟨3,some ([], fun nv=>(v3,.box 43 [.rd z03 a2])),[]⟩,⟨13,none,[(4,none)]⟩,⟨10,some ([], fun nv=>((n17 2),.list z03 43 s16.1)),[(5,some ([2], fun nv=>((nv 2),.list z03 43 x34)))]⟩] [pk 65 (.val (z07 (n17 0) (0+1))) [(0,0,false)],pk 66 (.val (n17 2)) [(0,0,false)],pk 67 (.rd z03 a2) [(1,0,false)],pd 68 (.rd z03 r31),⟨some (69,[], fun nv=>.rd (z02 z03) [r31]),[(2,0,true)],[1],[]⟩,⟨some (70,[2], fun nv=>.val (nv 2)),[(3,0,true)],[2],[]⟩,pk 71 (.val (z07 (n17 0) (0+1))) [(0,0,false)],⟨none,[(3,1,false),(0,0,true)],[],[]⟩] mixed (oC (oRn (fun nv E=>faB 8 Z Z Tryz.underlying66 Z (by exact zcx)))<|oC (oRn (fun nv E=>ldV 8 Z Z (At.cast (At.next z08 At.here) Z) sc22 Z))<|oC (oRn (fun nv E=>ld 3 Z Z fH za3 Z))<|oC (oCl [] [] [] h33 Tryz.func124 Z (fun nv=>(zio _)) (fun nv=>(Y1 Z)) (fun nv E=>rN))<|oC (oFz (A1:=fun nv=>[(13,some ((nv 1),.list z03 43 [r31]))]) 13 1 (oEf 13 1 (fun nv E=>lit (R:=z03) ([r31]:List z05) 13 (pP Z Z<|pN) Z tu22 z6h Z Z)))<|oC (oEf 10 2 (fun nv E=>apn 10 Z Z Z .rd h35 tu22 z6h Z Z Z))<|oC (oRn (fun nv E=>faB 8 Z Z Tryz.underlying66 Z (by exact zcx)))<|oC (oEs 8 (fun nv E=>zo4 8 Z Z (z7f.cast (z7f.next z08 (z7f.here z08)) Z) Z z12 z08 zcx))<|oN) fun n36=>z3c<|z3c<|z0y<|z28<|Zq (I.add Z Z)<|Zm Z<|z1p<|z1s (fun aa ww h=>⟨nvl [(n17 0),(n17 1),(n36 2)],Zu h [1,3,4,7,10,8]⟩)
     ·refine zxx [(3,.val (z07 v1 0)),(5,.val (z07 v3 0)),(6,.val (z07 v4 0)),(8,.rd z0f r5.1),(10,.val (z07 (n17 0) 0)),(30,.rd z0f (r11.length:Int)),(31,.rd z0f s16.2),(11,.rd z0f s16.2)] [(1,some (v1,.box 66 [.rd z04 a0])),(3,some (v3,.box 43 [.rd z03 a2])),(4,some (v4,.box 66 [.val (.slice none 0 0),.val (.slice none 0 0)])),(7,some ((n17 1),.list aZ 45 r11)),(10,some ((n17 2),.list z03 43 s16.1)),(8,some ((n17 0),.box 66 [.val (n17 1),.val (n17 2)]))] [1,3,4,7,10,8] (Zs Z Z Z Z<|Zs Z Z Z Z<|sN) (Zi Z<|Zi Z<|Zi Z<|Zi Z<|Zi Z<|Zi Z<|rN)<|z83 fun x37 h38=>z83 fun r39 h41=>z83 fun x42 h43=>gOr [] [⟨8,some ([], fun nv=>((n17 0),.box 66 [.val (n17 1),.val (n17 2)])),[(12,some ([2], fun nv=>((n17 0),.box 66 [.val (n17 1),.val (nv 2)])))]⟩,⟨1,some ([], fun nv=>(v1,.box 66 [.rd z04 a0])),[]⟩,⟨14,none,[(9,none)]⟩,⟨10,some ([], fun nv=>((n17 2),.list z03 43 s16.1)),[(10,some ([2], fun nv=>((nv 2),.list z03 43 x42)))]⟩] [pk 34 (.val (z07 (n17 0) (0+1))) [(0,0,false)],pk 35 (.val (n17 2)) [(0,0,false)],pk 36 (.val (z07 v1 (0+1))) [(1,0,false)],pk 37 (.rd (z02 z03) a0.Ops) [(1,0,false)],pd 38 (.rd z0f s16.2),pd 39 (.rd z0f (w64 (s16.2 - 1))),pd 40 (.rp z03 x37),pd 41 (.rd z03 x37),pd 42 (.rd z03 r39),⟨some (43,[], fun nv=>.rd (z02 z03) [r39]),[(2,0,true)],[1],[]⟩,⟨some (44,[2], fun nv=>.val (nv 2)),[(3,0,true)],[2],[]⟩,pk 45 (.val (z07 (n17 0) (0+1))) [(0,0,false)],⟨none,[(3,1,false),(0,0,true)],[],[]⟩] mixed (oC (oRn (fun nv E=>faB 8 Z Z Tryz.underlying66 Z (by exact zcx)))<|oC (oRn (fun nv E=>ldV 8 Z Z (At.cast (At.next z08 At.here) Z) sc22 Z))<|oC (oRn (fun nv E=>faB 1 Z Z Tryz.underlying66 Z (by exact zcx)))<|oC (oRn (fun nv E=>ld 1 Z Z (fP (z0g _)) zgb Z))<|oC (oRn (fun nv E=>mv Z))<|oC (oRn (fun nv E=>I.sub Z Z))<|oC (oRn (fun nv E=>ixR Z Z h38 tu22 z6h Z))<|oC (oRn (fun nv E=>ldR Z za3))<|oC (oCl [] [] [] h41 Tryz.func124 Z (fun nv=>(zio _)) (fun nv=>(Y1 Z)) (fun nv E=>rN))<|oC (oFz (A1:=fun nv=>[(14,some ((nv 1),.list z03 43 [r39]))]) 14 1 (oEf 14 1 (fun nv E=>lit (R:=z03) ([r39]:List z05) 14 (pP Z Z<|pN) Z tu22 z6h Z Z)))<|oC (oEf 10 2 (fun nv E=>apn 10 Z Z Z .rd h43 tu22 z6h Z Z Z))<|oC (oRn (fun nv E=>faB 8 Z Z Tryz.underlying66 Z (by exact zcx)))<|oC (oEs 8 (fun nv E=>zo4 8 Z Z (z7f.cast (z7f.next z08 (z7f.here z08)) Z) Z z12 z08 zcx))<|oN) fun n44=>z3c<|z3c<|z0y<|z28<|Zq (I.add Z Z)<|Zm Z<|z1p<|z1s (fun aa ww h=>⟨nvl [(n17 0),(n17 1),(n44 2)],Zu h [1,3,4,7,10,8]⟩)
   ·refine z27<|z19<|z1b<|z3k (fun aa ww h=>⟨nvl [(n17 0),(n17 1),(n17 2)],Zu h [4,7,10,8]⟩)
  ·refine gEx fun n45=>gSR<|lPow [.rd (z02 aZ) r11,.val (n45 2)] 8 7 [] [.val (n45 2)] Z Z Z Z Z<|lPow [.rd (z02 aZ) r11,.rd (z02 z03) s15] 8 9 [.rd (z02 aZ) r11] [] Z Z Z Z Z<|zgt (R:=z04) (⟨r11,s15⟩:z01) 8 Z (Sp.via (Sp.prod (Sp.prod Sp.unit)))<|Zq (ld 8 Z Z fH zcv Z)<|zhd aZ [.rd (z02 aZ) [],.val (.slice none 0 0)] 4 [] [.val (.slice none 0 0)] Z Z Z<|zhd z03 [.rd (z02 aZ) [],.rd (z02 z03) []] 4 [.rd (z02 aZ) []] [] Z Z Z<|zgt (R:=z04) (⟨[],[]⟩:z01) 4 Z (Sp.via (Sp.prod (Sp.prod Sp.unit)))<|Es (sto 4 Z Z fH Z zde)<|Zb Z<|z0n<|zbm [] [] Z (eC 4 Z Z zcv<|eE Z<|eN) (rN)
def zgm (a0:List z05) (s4:Int):Option (Sum (Sum (z01 × Int) Unit) Int) :=
 if decide (s4<(a0.length:Int)) then
  idx a0 s4 >>= fun x6 =>
  zeo x6 >>= fun r9 =>
  if r9 != 0 then
   some (.inl (.inl ((⟨[],[]⟩:z01),r9)))
  else
   some (.inr (w64 (s4+1)))
 else
  some (.inl (.inr ()))
def zh1 (a0:List z05) (s14:(List V3) × (List z05) × Int):Option (Sum (Sum (z01 × Int) ((List V3) × (List z05))) ((List V3) × (List z05) × Int)) :=
 if decide (s14.2.2<(a0.length:Int)) then
  idx a0 s14.2.2 >>= fun x16 =>
  zow x16 >>= fun r19 =>
  zfr (⟨s14.1,s14.2.1⟩:z01) r19.1 x16 >>= fun r22 =>
  if !r22.2 then
   some (.inl (.inl ((⟨[],[]⟩:z01),14)))
  else
   some (.inr (r22.1.IDs,r22.1.Ops,w64 (s14.2.2+1)))
 else
  some (.inl (.inr (s14.1,s14.2.1)))
def zss (a0:List z05):Option (z01 × Int) :=
 if decide (60<(a0.length:Int)) then
  some ((⟨[],[]⟩:z01),4)
 else
  z4y (iter (zgm a0) 0) fun s3 =>
  z4y (iter (zh1 a0) ([],[],0)) fun s13 =>
  zgo (⟨s13.1,s13.2⟩:z01) >>= fun r26 =>
  if r26 != 0 then
   some ((⟨[],[]⟩:z01),r26)
  else
   some ((⟨s13.1,s13.2⟩:z01),0)
theorem zzl (a0:List z05):z23 Tryz.prog 37 [.rd (z02 z03) a0] [zG1] (zss a0) (fun r nv=>⟨[.rd z04 r.1,.rd z0f r.2],[(1001,some (.bool true,.glob 1 (z3i 64 z0s) z6j))]⟩):=by
 refine z2m 62 Tryz.func37 Z Z Z fun H w=>?_;refine gSR<|Eb Z (z6n 1 zde (ZrE.nilS (ZrE.nilS ZrE.nil))) fun v1=>Zb Z<|z0x<|gSR<|Zm Z<|Zq (z3e Z .rd Z tu22)<|Zq (I.gtr Z Z)<|Zj Z (fun h2=>?_) (fun h2=>?_)
 ·refine gSR<|Zq (zuc [(0,1),(1,1)] Tryz.underlying66 zde (ZrE.nilS (ZrE.nilS ZrE.nil)) Z (zi7.done Z))<|Es (zpl 1 Z Z (z06.cast (z06.cons z08 (z06.cons z08 z06.nil)) Z) Z (z1e.cons z12 (z1e.cons z12 z1e.nil)) (z06.cast (z06.cons z08 (z06.cons z08 z06.nil)) Z) zde)<|Zb Z<|z0n<|z0u<|zn8 aZ [.rd (z02 aZ) [],.val (.slice none 0 0)] 1 [] [.val (.slice none 0 0)] Z Z Z<|zn8 z03 [.rd (z02 aZ) [],.rd (z02 z03) []] 1 [.rd (z02 aZ) []] [] Z Z Z<|zxn (R:=z04) (⟨[],[]⟩:z01) 1 Z (Sp.via (Sp.prod (Sp.prod Sp.unit)))<|zbm [] [1001] Z (eC 1 Z Z zcv<|eE Z<|eN) (y1 Z)
 ·refine Zt<|z7c (fun (s3:Unit) aa ww=>Sta (ctx 62 H [zG1] w) [(0,.rd (z02 z03) a0),(2,.val (z07 v1 0))] [(1,some (v1,.box 66 [.val (.slice none 0 0),.val (.slice none 0 0)])),zG1] aa ww) ?_ (fun s3=>?_)
  ·refine gSR<|Zm Z<|Zq (z3e Z .rd Z tu22)<|Zm Z<|Zn<|z29 (fun (s4:Int) aa ww=>Sta (ctx 62 H [zG1] w) [(0,.rd (z02 z03) a0),(2,.val (z07 v1 0)),(19,.rd (z02 z03) a0),(20,.rd z0f (a0.length:Int)),(21,.rd z0f s4)] [(1,some (v1,.box 66 [.val (.slice none 0 0),.val (.slice none 0 0)])),zG1] aa ww) (fun aa ww h=>Zu h [1,1001]) (fun s4=>?_);refine gSR<|Zq (I.lss Z Z)<|Zn<|z0x<|gIf Z Z (fun h5=>?_) (fun h5=>?_)
   ·refine Zt<|z0x<|z4s<|gSR<|z0q fun x6 h7=>Zq (ixR Z Z h7 tu22 z6h Z)<|Zq (ldR Z za3)<|Eb Z (z6n 1100 z6h (ZrE.rd (R:=z0s) (x:=0) (Zr.num Z) (ZrE.nilS (ZrE.rd (R:=z1z) (x:=0) (Zr.num Z) (ZrE.rd (R:=z0c) (x:=(⟨0,[],(⟨0,0,0,[]⟩:z00)⟩:z0b)) zlm (ZrE.rd (R:=z0e) (x:=(⟨0,0⟩:z0a)) zlc ZrE.nil Z) Z) Z)) Z)) fun v8=>zhd aZ [.rd z0s 0,.rd (z02 aZ) [],.rd z1z 0,.rd z0c (⟨0,[],(⟨0,0,0,[]⟩:z00)⟩:z0b),.rd z0e (⟨0,0⟩:z0a)] 1100 [.rd z0s 0] [.rd z1z 0,.rd z0c (⟨0,[],(⟨0,0,0,[]⟩:z00)⟩:z0b),.rd z0e (⟨0,0⟩:z0a)] Z Z Z<|zgt (R:=z03) (⟨0,[],0,(⟨0,[],(⟨0,0,0,[]⟩:z00)⟩:z0b),(⟨0,0⟩:z0a)⟩:z05) 1100 Z (Sp.via (Sp.prod (Sp.prod (Sp.prod (Sp.prod (Sp.prod Sp.unit))))))<|Es (sto 1100 Z Z fH Z z6h)<|Zn<|gSR<|Zq (ld 1100 Z Z fH za3 Z)<|Zc [1001] [] Tryz.func74 Z (zh9 _) fun r9 n10=>Zb Z<|gSR<|Zm Z<|Zq (I.neq Z Z)<|Zj Z (fun h11=>?_) (fun h11=>?_)
    ·refine gSR<|Zq (zuc [(0,1),(1,1)] Tryz.underlying66 zde (ZrE.nilS (ZrE.nilS ZrE.nil)) Z (zi7.done Z))<|Zm Z<|Es (zpl 1 Z Z (z06.cast (z06.cons z08 (z06.cons z08 z06.nil)) Z) Z (z1e.cons z12 (z1e.cons z12 z1e.nil)) (z06.cast (z06.cons z08 (z06.cons z08 z06.nil)) Z) zde)<|Zb Z<|z0n<|z3m<|z0u<|z6c<|z58<|zn8 aZ [.rd (z02 aZ) [],.val (.slice none 0 0)] 1 [] [.val (.slice none 0 0)] Z Z Z<|zn8 z03 [.rd (z02 aZ) [],.rd (z02 z03) []] 1 [.rd (z02 aZ) []] [] Z Z Z<|zxn (R:=z04) (⟨[],[]⟩:z01) 1 Z (Sp.via (Sp.prod (Sp.prod Sp.unit)))<|zbm [] [1001] Z (eC 1 Z Z zcv<|eE Z<|eN) (y1 Z)
    ·refine z30<|z3c<|z0y<|z28<|Zq (I.add Z Z)<|Zm Z<|z1p<|z1s (fun aa ww h=>Zu h [1,1001])
   ·refine z27<|z19<|z1b<|z5q (fun aa ww h=>Zu h [1,1001])
  ·refine gSR<|Eb Z (z6n 1101 zde (ZrE.nilS (ZrE.nilS ZrE.nil))) fun v12=>Zn<|z7c (fun (s13:(List V3) × (List z05)) aa ww=>Sta (ctx 62 H [zG1] w) [(2,.val (z07 v1 0)),(7,.val (z07 v12 0))] [(1,some (v1,.box 66 [.val (.slice none 0 0),.val (.slice none 0 0)])),(1101,some (v12,.box 66 [.rd (z02 aZ) s13.1,.rd (z02 z03) s13.2])),zG1] aa ww) ?_ (fun s13=>?_)
   ·refine gSR<|Zm Z<|Zq (z3e Z .rd Z tu22)<|Zm Z<|Zn<|gPnl aZ [.rd (z02 aZ) [],.val (.slice none 0 0)] 1101 [] [.val (.slice none 0 0)] Z Z Z<|gPnl z03 [.rd (z02 aZ) [],.rd (z02 z03) []] 1101 [.rd (z02 aZ) []] [] Z Z Z<|z29 (fun (s14:(List V3) × (List z05) × Int) aa ww=>Sta (ctx 62 H [zG1] w) [(2,.val (z07 v1 0)),(7,.val (z07 v12 0)),(32,.rd (z02 z03) a0),(33,.rd z0f (a0.length:Int)),(34,.rd z0f s14.2.2)] [(1,some (v1,.box 66 [.val (.slice none 0 0),.val (.slice none 0 0)])),(1101,some (v12,.box 66 [.rd (z02 aZ) s14.1,.rd (z02 z03) s14.2.1])),zG1] aa ww) (fun aa ww h=>Zu h [1,1101,1001]) (fun s14=>?_)
    refine gSR<|Zq (I.lss Z Z)<|Zn<|z0x<|gIf Z Z (fun h15=>?_) (fun h15=>?_)
    ·refine Zt<|z0x<|z4s<|gSR<|z0q fun x16 h17=>Zq (ixR Z Z h17 tu22 z6h Z)<|Zq (ldR Z za3)<|Eb Z (z6n 1102 z6h (ZrE.rd (R:=z0s) (x:=0) (Zr.num Z) (ZrE.nilS (ZrE.rd (R:=z1z) (x:=0) (Zr.num Z) (ZrE.rd (R:=z0c) (x:=(⟨0,[],(⟨0,0,0,[]⟩:z00)⟩:z0b)) zlm (ZrE.rd (R:=z0e) (x:=(⟨0,0⟩:z0a)) zlc ZrE.nil Z) Z) Z)) Z)) fun v18=>zhd aZ [.rd z0s 0,.rd (z02 aZ) [],.rd z1z 0,.rd z0c (⟨0,[],(⟨0,0,0,[]⟩:z00)⟩:z0b),.rd z0e (⟨0,0⟩:z0a)] 1102 [.rd z0s 0] [.rd z1z 0,.rd z0c (⟨0,[],(⟨0,0,0,[]⟩:z00)⟩:z0b),.rd z0e (⟨0,0⟩:z0a)] Z Z Z<|zgt (R:=z03) (⟨0,[],0,(⟨0,[],(⟨0,0,0,[]⟩:z00)⟩:z0b),(⟨0,0⟩:z0a)⟩:z05) 1102 Z (Sp.via (Sp.prod (Sp.prod (Sp.prod (Sp.prod (Sp.prod Sp.unit))))))<|Es (sto 1102 Z Z fH Z z6h)<|Zn<|gSR<|Zq (ld 1102 Z Z fH za3 Z)<|Zc [1001] [] Tryz.func65 Z (zhs _) fun r19 n20=>Zm Z<|Zq (ext Z Z)<|Zq (ext Z Z)<|Eb Z (z6n 1103 z31 (.zr (R:=aZ) (x:=(Vector.replicate 32 0)) zfo)) fun v21=>Es (sto 1103 Z Z fH Z z31)<|Zb Z<|gSR<|zgt (R:=z04) (⟨s14.1,s14.2.1⟩:z01) 1101 Z (Sp.via (Sp.prod (Sp.prod Sp.unit)))<|Zq (ld 1101 Z Z fH zcv Z)<|Zq (ld 1103 Z Z fH z59 Z)<|Zq (ld 1102 Z Z fH za3 Z)<|Zc [] [] Tryz.func75 Z (zps _ _ _) fun r22 n23=>Zm Z<|Zq (ext Z Z)<|Zq (ext Z Z)<|Eb Z (z6n 1104 zde (ZrE.nilS (ZrE.nilS ZrE.nil))) fun v24=>zhd aZ [.rd (z02 aZ) [],.val (.slice none 0 0)] 1104 [] [.val (.slice none 0 0)] Z Z Z<|zhd z03 [.rd (z02 aZ) [],.rd (z02 z03) []] 1104 [.rd (z02 aZ) []] [] Z Z Z<|zgt (R:=z04) (⟨[],[]⟩:z01) 1104 Z (Sp.via (Sp.prod (Sp.prod Sp.unit)))<|Es (sto 1104 Z Z fH Z zde)<|Zb Z<|z0x<|gSR<|Zm Z<|Zq (zds Z)<|Zj Z (fun h25=>?_) (fun h25=>?_)
     ·refine gSR<|Zq (zuc [(0,1),(1,1)] Tryz.underlying66 zde (ZrE.nilS (ZrE.nilS ZrE.nil)) Z (zi7.done Z))<|Es (zpl 1 Z Z (z06.cast (z06.cons z08 (z06.cons z08 z06.nil)) Z) Z (z1e.cons z12 (z1e.cons z12 z1e.nil)) (z06.cast (z06.cons z08 (z06.cons z08 z06.nil)) Z) zde)<|Zb Z<|z0n<|z0u<|z3m<|z0u<|z6c<|z58<|zn8 aZ [.rd (z02 aZ) [],.val (.slice none 0 0)] 1 [] [.val (.slice none 0 0)] Z Z Z<|zn8 z03 [.rd (z02 aZ) [],.rd (z02 z03) []] 1 [.rd (z02 aZ) []] [] Z Z Z<|zxn (R:=z04) (⟨[],[]⟩:z01) 1 Z (Sp.via (Sp.prod (Sp.prod Sp.unit)))<|zbm [] [1001] Z (eC 1 Z Z zcv<|eE Z<|eN) (y1 Z)
     ·refine Zt<|z28<|Zq (ld 1104 Z Z fH zcv Z)<|Es (sto 1101 Z Z fH Z zde)<|z1p<|z3c<|z0y<|z28<|Zq (I.add Z Z)<|Zm Z<|z1p<|eSpl (R:=z04) 1101 Z (Sp.via (Sp.prod (Sp.prod Sp.unit)))<|z1s (fun aa ww h=>Zu h [1,1101,1001])
    ·refine z27<|z19<|z1b<|z5q (fun aa ww h=>Zu h [1,1101,1001])
   ·refine z0x<|gSR<|zgt (R:=z04) (⟨s13.1,s13.2⟩:z01) 1101 Z (Sp.via (Sp.prod (Sp.prod Sp.unit)))<|Zq (ld 1101 Z Z fH zcv Z)<|Zc [] [] Tryz.func76 Z (zmf _) fun r26 n27=>Zb Z<|gSR<|Zm Z<|Zq (I.neq Z Z)<|Zj Z (fun h28=>?_) (fun h28=>?_)
    ·refine gSR<|Zq (zuc [(0,1),(1,1)] Tryz.underlying66 zde (ZrE.nilS (ZrE.nilS ZrE.nil)) Z (zi7.done Z))<|Zm Z<|Es (zpl 1 Z Z (z06.cast (z06.cons z08 (z06.cons z08 z06.nil)) Z) Z (z1e.cons z12 (z1e.cons z12 z1e.nil)) (z06.cast (z06.cons z08 (z06.cons z08 z06.nil)) Z) zde)<|Zb Z<|z0n<|z0u<|zn8 aZ [.rd (z02 aZ) [],.val (.slice none 0 0)] 1 [] [.val (.slice none 0 0)] Z Z Z<|zn8 z03 [.rd (z02 aZ) [],.rd (z02 z03) []] 1 [.rd (z02 aZ) []] [] Z Z Z<|zxn (R:=z04) (⟨[],[]⟩:z01) 1 Z (Sp.via (Sp.prod (Sp.prod Sp.unit)))<|zbm [] [1001] Z (eC 1 Z Z zcv<|eE Z<|eN) (y1 Z)
    ·refine Zt<|gSR<|Zq (ld 1101 Z Z fH zcv Z)<|zhd aZ [.rd (z02 aZ) [],.val (.slice none 0 0)] 1 [] [.val (.slice none 0 0)] Z Z Z<|zhd z03 [.rd (z02 aZ) [],.rd (z02 z03) []] 1 [.rd (z02 aZ) []] [] Z Z Z<|zgt (R:=z04) (⟨[],[]⟩:z01) 1 Z (Sp.via (Sp.prod (Sp.prod Sp.unit)))<|Es (sto 1 Z Z fH Z zde)<|Zb Z<|z0n<|zbm [] [1001] Z (eC 1 Z Z zcv<|eE Z<|eN) (y1 Z)
def zkk (a0:V3) (c1_0:z01):Option (Bool) :=
 zea c1_0 a0 >>= fun r2 =>
 some (!r2.2)
theorem ztk (a0:V3) (p1_0:Value) (c1_0:z01):z23 Tryz.prog 84 [.rd aZ a0,.val (z07 p1_0 0)] [(1,some (p1_0,.box 66 [.rd z04 c1_0]))] (zkk a0 c1_0) (fun r nv=>⟨[.rd z0h r],[(1,some (p1_0,.box 66 [.rd z04 c1_0]))]⟩):=by
 refine z2m 14 Tryz.func84 Z Z Z fun H w=>?_;refine gSR<|Eb Z (bx 2 Z) fun v1=>Zb Z<|gSR<|Zq (ld 1 Z Z fH zcv Z)<|Zq (ld 2 Z Z fH z59 Z)<|Zc [] [] Tryz.func85 Z (zji _ _) fun r2 n3=>Zm Z<|Zq (ext Z Z)<|Zq (ext Z Z)<|Za Z<|Zb Z<|gSR<|Zm Z<|Zq (zds Z)<|Zb Z<|z0n<|Ze [] [1] Z
def z1m (a0:List V3) (c1_0:z01) (s2:Int):Option (Sum (Sum Int Unit) Int) :=
 if decide (s2<(a0.length:Int)) then
  idx a0 s2 >>= fun x4 =>
  zkk x4 c1_0 >>= fun r6 =>
  if r6 then
   some (.inl (.inl s2))
  else
   some (.inr (w64 (s2+1)))
 else
  some (.inl (.inr ()))
def z3f (a0:List V3) (c1_0:z01):Option (Int) :=
 z4y (iter (z1m a0 c1_0) 0) fun s1 =>
 some (-1)
theorem z8b (a0:List V3) (p1_0:Value) (c1_0:z01):z23 Tryz.prog 125 [.rd (z02 aZ) a0,.val (.func (.func 84) #[] #[z07 p1_0 0])] [(1,some (p1_0,.box 66 [.rd z04 c1_0]))] (z3f a0 c1_0) (fun r nv=>⟨[.rd z0f r],[(1,some (p1_0,.box 66 [.rd z04 c1_0]))]⟩):=by
 refine z2m 19 Tryz.func125 Z Z Z fun H w=>?_;refine gSR<|Zb Z<|z7c (fun (s1:Unit) aa ww=>Sta (ctx 19 H [(1,some (p1_0,.box 66 [.rd z04 c1_0]))] w) [] [(1,some (p1_0,.box 66 [.rd z04 c1_0]))] aa ww) ?_ (fun s1=>?_)
 ·refine gSR<|Zm Z<|Zq (z3e Z .rd Z tu29)<|Zm Z<|Zn<|z29 (fun (s2:Int) aa ww=>Sta (ctx 19 H [(1,some (p1_0,.box 66 [.rd z04 c1_0]))] w) [(0,.rd (z02 aZ) a0),(1,.val (.func (.func 84) #[] #[z07 p1_0 0])),(7,.rd z0f (a0.length:Int)),(8,.rd z0f s2)] [(1,some (p1_0,.box 66 [.rd z04 c1_0]))] aa ww) (fun aa ww h=>Zu h [1]) (fun s2=>?_);refine gSR<|Zq (I.lss Z Z)<|Zn<|z0x<|gIf Z Z (fun h3=>?_) (fun h3=>?_)
  ·refine Zt<|z0x<|z4s<|gSR<|Zm Z<|Zb Z<|gSR<|Zm Z<|Zm Z<|Zm Z<|z0q fun x4 h5=>Zq (ixR Z Z h5 tu29 z31 Z)<|Zq (ldR Z z59)<|zi0 [1] [(1,1)] (gd0 Z) Z Z Tryz.func84 Z Z (ztk _ _ _) (Y1 Z) (cQ 1 Z<|cN) (y1 Z) fun r6 n7=>Zj Z (fun h8=>?_) (fun h8=>?_)
   ·refine gSR<|Zm Z<|Zb Z<|z0n<|z3m<|z0u<|z6c<|z58<|Ze [] [1] Z
   ·refine z30<|z3c<|z0y<|z28<|Zq (I.add Z Z)<|Zm Z<|z1p<|z1s (fun aa ww h=>Zu h [1])
  ·refine z27<|z19<|z1b<|z5q (fun aa ww h=>Zu h [1])
 ·refine gSR<|Zb Z<|z0n<|Ze [] [1] Z
def z26 (a0:List V3) (c1_0:z01):Option (Bool) :=
 z3f a0 c1_0 >>= fun r1 =>
 some (decide (0≤r1)) >>= fun y3 =>
 some y3
theorem z7i (a0:List V3) (p1_0:Value) (c1_0:z01):z23 Tryz.prog 79 [.rd (z02 aZ) a0,.val (.func (.func 84) #[] #[z07 p1_0 0])] [(1,some (p1_0,.box 66 [.rd z04 c1_0]))] (z26 a0 c1_0) (fun r nv=>⟨[.rd z0h r],[(1,some (p1_0,.box 66 [.rd z04 c1_0]))]⟩):=by
 refine z2m 9 Tryz.func79 Z Z Z fun H w=>?_;refine gSR<|Zb Z<|gSR<|Zm Z<|Zm Z<|Zc [1] [(1,1)] Tryz.func125 Z (z8b _ _ _) fun r1 n2=>Zq (I.geq Z Z)<|Za Z<|z24 4 Z fun y3=>Zn<|z0n<|Ze [] [1] Z
def zof (a0:z01) (a1:z05):Option (z01 × V3 × Int) :=
 z7v a0 >>= fun r5 =>
 (if r5==0 then
  zeo a1 >>= fun r9 =>
  some r9
 else
  some r5) >>= fun s7 =>
 if s7 != 0 then
  some ((⟨[],[]⟩:z01),(Vector.replicate 32 0),s7)
 else
  zow a1 >>= fun r12 =>
  zfr a0 r12.1 a1 >>= fun r15 =>
  if !r15.2 then
   some ((⟨[],[]⟩:z01),(Vector.replicate 32 0),14)
  else
   z26 a1.Preds a0 >>= fun r19 =>
   if r19 then
    some ((⟨[],[]⟩:z01),(Vector.replicate 32 0),40)
   else
    some ((a0.Ops.length:Int)==60) >>= fun y22 =>
    if y22 then
     some ((⟨[],[]⟩:z01),(Vector.replicate 32 0),18)
    else
     some (r15.1,r12.1,0)
theorem zyc (a0:z01) (a1:z05):z23 Tryz.prog 41 [.rd z04 a0,.rd z03 a1] [zG1] (zof a0 a1) (fun r nv=>⟨[.rd z04 r.1,.rd aZ r.2.1,.rd z0f r.2.2],[(1001,some (.bool true,.glob 1 (z3i 64 z0s) z6j))]⟩):=by
 refine z2m 56 Tryz.func41 Z Z Z fun H w=>?_;refine gSR<|Eb Z (bx 1 Z) fun v1=>Eb Z (bx 2 Z) fun v2=>Eb Z (z6n 3 zde (ZrE.nilS (ZrE.nilS ZrE.nil))) fun v3=>Eb Z (z6n 4 z31 (.zr (R:=aZ) (x:=(Vector.replicate 32 0)) zfo)) fun v4=>Zb Z<|gSR<|Zq (ld 1 Z Z fH zcv Z)<|Zc [1001] [] Tryz.func70 Z (ze7 _) fun r5 n6=>Zb Z<|z7x (fun (s7:Int) aa ww=>Sta (ctx 56 H [zG1] w) [(2,.val (z07 v1 0)),(3,.val (z07 v2 0)),(4,.val (z07 v3 0)),(5,.val (z07 v4 0)),(7,.rd z0f s7)] [(1,some (v1,.box 66 [.rd z04 a0])),(2,some (v2,.box 43 [.rd z03 a1])),(3,some (v3,.box 66 [.val (.slice none 0 0),.val (.slice none 0 0)])),(4,some (v4,.box 45 [.rd aZ (Vector.replicate 32 0)])),zG1] aa ww) ?_ (fun s7=>?_)
 ·refine gSR<|Zm Z<|Zq (I.eql Z Z)<|Zj Z (fun h8=>?_) (fun h8=>?_)
  ·refine z28<|Zq (ld 2 Z Z fH za3 Z)<|Zc [1001] [] Tryz.func74 Z (zh9 _) fun r9 n10=>Za Z<|z1p<|z3k (fun aa ww h=>Zu h [1,2,3,4,1001])
  ·refine z30<|z3k (fun aa ww h=>Zu h [1,2,3,4,1001])
 ·refine z0x<|gSR<|Zm Z<|Zq (I.neq Z Z)<|Zj Z (fun h11=>?_) (fun h11=>?_)
  ·refine gSR<|Zq (zuc [(0,1),(1,1)] Tryz.underlying66 zde (ZrE.nilS (ZrE.nilS ZrE.nil)) Z (zi7.done Z))<|Zq (bldG (x':=((Vector.replicate 32 0):V3)) tu45 z31 zfo ti5 (Bld.done Z))<|Zm Z<|Es (zpl 3 Z Z (z06.cast (z06.cons z08 (z06.cons z08 z06.nil)) Z) Z (z1e.cons z12 (z1e.cons z12 z1e.nil)) (z06.cast (z06.cons z08 (z06.cons z08 z06.nil)) Z) zde)<|Es (sto 4 Z Z fH Z z31)<|Zb Z<|z0n<|z0u<|zn8 aZ [.rd (z02 aZ) [],.val (.slice none 0 0)] 3 [] [.val (.slice none 0 0)] Z Z Z<|zn8 z03 [.rd (z02 aZ) [],.rd (z02 z03) []] 3 [.rd (z02 aZ) []] [] Z Z Z<|zxn (R:=z04) (⟨[],[]⟩:z01) 3 Z (Sp.via (Sp.prod (Sp.prod Sp.unit)))<|zbm [] [1001] Z (eC 3 Z Z zcv<|eC 4 Z Z z59<|eE Z<|eN) (y1 Z)
  ·refine Zt<|gSR<|Zq (ld 2 Z Z fH za3 Z)<|Zc [1001] [] Tryz.func65 Z (zhs _) fun r12 n13=>Zm Z<|Zq (ext Z Z)<|Zq (ext Z Z)<|Eb Z (z6n 1100 z31 (.zr (R:=aZ) (x:=(Vector.replicate 32 0)) zfo)) fun v14=>Es (sto 1100 Z Z fH Z z31)<|Zb Z<|gSR<|Zq (ld 1 Z Z fH zcv Z)<|Zq (ld 1100 Z Z fH z59 Z)<|Zq (ld 2 Z Z fH za3 Z)<|Zc [] [] Tryz.func75 Z (zps _ _ _) fun r15 n16=>Zm Z<|Zq (ext Z Z)<|Zq (ext Z Z)<|Eb Z (z6n 1101 zde (ZrE.nilS (ZrE.nilS ZrE.nil))) fun v17=>zhd aZ [.rd (z02 aZ) [],.val (.slice none 0 0)] 1101 [] [.val (.slice none 0 0)] Z Z Z<|zhd z03 [.rd (z02 aZ) [],.rd (z02 z03) []] 1101 [.rd (z02 aZ) []] [] Z Z Z<|zgt (R:=z04) (⟨[],[]⟩:z01) 1101 Z (Sp.via (Sp.prod (Sp.prod Sp.unit)))<|Es (sto 1101 Z Z fH Z zde)<|Zb Z<|z0x<|z4s<|gSR<|Zm Z<|Zq (zds Z)<|Zb Z<|gIf Z Z (fun h18=>?_) (fun h18=>?_)
   ·refine gKn 37 Z h18<|gSR<|Zq (zuc [(0,1),(1,1)] Tryz.underlying66 zde (ZrE.nilS (ZrE.nilS ZrE.nil)) Z (zi7.done Z))<|Zq (bldG (x':=((Vector.replicate 32 0):V3)) tu45 z31 zfo ti5 (Bld.done Z))<|Es (zpl 3 Z Z (z06.cast (z06.cons z08 (z06.cons z08 z06.nil)) Z) Z (z1e.cons z12 (z1e.cons z12 z1e.nil)) (z06.cast (z06.cons z08 (z06.cons z08 z06.nil)) Z) zde)<|Es (sto 4 Z Z fH Z z31)<|Zb Z<|z0n<|z3m<|z0u<|zn8 aZ [.rd (z02 aZ) [],.val (.slice none 0 0)] 3 [] [.val (.slice none 0 0)] Z Z Z<|zn8 z03 [.rd (z02 aZ) [],.rd (z02 z03) []] 3 [.rd (z02 aZ) []] [] Z Z Z<|zxn (R:=z04) (⟨[],[]⟩:z01) 3 Z (Sp.via (Sp.prod (Sp.prod Sp.unit)))<|zbm [] [1001] Z (eC 3 Z Z zcv<|eC 4 Z Z z59<|eE Z<|eN) (y1 Z)
   ·refine gKn 37 Z h18<|gSR<|Zq (faB 2 Z Z Tryz.underlying43 Z (by exact z8j))<|Zq (ld 2 Z Z (fP (z0z _)) zbn Z)<|Zq (mkf mp0 (mp1 Z))<|Zc [1] [(1,1)] Tryz.func79 Z (z7i _ _ _) fun r19 n20=>Zb Z<|gIf Z Z (fun h21=>?_) (fun h21=>?_)
    ·refine gKn 44 Z h21<|gSR<|Zq (zuc [(0,1),(1,1)] Tryz.underlying66 zde (ZrE.nilS (ZrE.nilS ZrE.nil)) Z (zi7.done Z))<|Zq (bldG (x':=((Vector.replicate 32 0):V3)) tu45 z31 zfo ti5 (Bld.done Z))<|Es (zpl 3 Z Z (z06.cast (z06.cons z08 (z06.cons z08 z06.nil)) Z) Z (z1e.cons z12 (z1e.cons z12 z1e.nil)) (z06.cast (z06.cons z08 (z06.cons z08 z06.nil)) Z) zde)<|Es (sto 4 Z Z fH Z z31)<|Zb Z<|z0n<|z3m<|z0u<|zn8 aZ [.rd (z02 aZ) [],.val (.slice none 0 0)] 3 [] [.val (.slice none 0 0)] Z Z Z<|zn8 z03 [.rd (z02 aZ) [],.rd (z02 z03) []] 3 [.rd (z02 aZ) []] [] Z Z Z<|zxn (R:=z04) (⟨[],[]⟩:z01) 3 Z (Sp.via (Sp.prod (Sp.prod Sp.unit)))<|zbm [] [1001] Z (eC 3 Z Z zcv<|eC 4 Z Z z59<|eE Z<|eN) (y1 Z)
    ·refine gKn 44 Z h21<|gSR<|Zq (faB 1 Z Z Tryz.underlying66 Z (by exact zcx))<|Zq (ld 1 Z Z (fP (z0g _)) zgb Z)<|Zq (z3e Z .rd Z tu22)<|Zq (I.eql Z Z)<|Za Z<|z24 47 Z fun y22=>Zj Z (fun h23=>?_) (fun h23=>?_)
     ·refine gSR<|Zq (zuc [(0,1),(1,1)] Tryz.underlying66 zde (ZrE.nilS (ZrE.nilS ZrE.nil)) Z (zi7.done Z))<|Zq (bldG (x':=((Vector.replicate 32 0):V3)) tu45 z31 zfo ti5 (Bld.done Z))<|Es (zpl 3 Z Z (z06.cast (z06.cons z08 (z06.cons z08 z06.nil)) Z) Z (z1e.cons z12 (z1e.cons z12 z1e.nil)) (z06.cast (z06.cons z08 (z06.cons z08 z06.nil)) Z) zde)<|Es (sto 4 Z Z fH Z z31)<|Zb Z<|z0n<|z3m<|z0u<|zn8 aZ [.rd (z02 aZ) [],.val (.slice none 0 0)] 3 [] [.val (.slice none 0 0)] Z Z Z<|zn8 z03 [.rd (z02 aZ) [],.rd (z02 z03) []] 3 [.rd (z02 aZ) []] [] Z Z Z<|zxn (R:=z04) (⟨[],[]⟩:z01) 3 Z (Sp.via (Sp.prod (Sp.prod Sp.unit)))<|zbm [] [1001] Z (eC 3 Z Z zcv<|eC 4 Z Z z59<|eE Z<|eN) (y1 Z)
     ·refine z30<|z3c<|z0y<|z0x<|z9u [3,4] mixed Z Z<|hTk 0 Z Z (ld 1101 Z Z fH zcv Z)<|hTk 1 Z Z (ld 1100 Z Z fH z59 Z)<|hPnl aZ [.rd (z02 aZ) [],.val (.slice none 0 0)] 3 [] [.val (.slice none 0 0)] Z Z Z<|hPnl z03 [.rd (z02 aZ) [],.rd (z02 z03) []] 3 [.rd (z02 aZ) []] [] Z Z Z<|hJoi (R:=z04) (⟨[],[]⟩:z01) 3 Z (Sp.via (Sp.prod (Sp.prod Sp.unit)))<|Zp 2 Z Z Z Z Z (sto 3 Z Z fH Z zde)<|Zp 3 Z Z Z Z Z (sto 4 Z Z fH Z z31)<|hTk 4 Z Z (asg Z)<|z6e (by kernel_rfl)<|z0y<|z0n<|zbm [] [1001] Z (eC 3 Z Z zcv<|eC 4 Z Z z59<|eE Z<|eN) (y1 Z)
def z48 (a0:z01) (s4:(List (V3 × Int)) × Int):Option (Sum ((List (V3 × Int))) ((List (V3 × Int)) × Int)) :=
 if decide (s4.2<(a0.IDs.length:Int)) then
  idx a0.IDs s4.2 >>= fun x6 =>
  some (.inr (zlg s4.1 x6 s4.2,w64 (s4.2+1)))
 else
  some (.inl s4.1)
def z4w (a0:z01):Option ((List (V3 × Int))) :=
 (iter (z48 a0) (([]:List (V3 × Int)),0)) >>= fun s3 =>
 some s3
theorem zba (a0:z01):z23 Tryz.prog 77 [.rd z04 a0] [] (z4w a0) (fun r nv=>⟨[.val (nv 0)],[(100,some (nv 0,.map aZ z0f r))]⟩):=by
 refine z2m 23 Tryz.func77 Z Z Z fun H w=>?_;refine gSR<|Eb Z (bx 1 Z) fun v1=>Zb Z<|gSR<|Zq (faB 1 Z Z Tryz.underlying66 Z (by exact z8j))<|Zq (ld 1 Z Z (fP (z0r _)) zbn Z)<|Zq (z3e Z .rd Z tu29)<|Ef Z (mkm aZ z0f 2 (Or.inr ⟨_,_,Z,rfl⟩) Tryz.underlying103) fun v2=>Zb Z<|z7x (fun (s3:(List (V3 × Int))) aa ww=>Sta (ctx 23 H [] w) [(3,.val v2)] [(2,some (v2,.map aZ z0f s3))] aa ww) ?_ (fun s3=>?_)
 ·refine gSR<|Zq (faB 1 Z Z Tryz.underlying66 Z (by exact z8j))<|Zq (ld 1 Z Z (fP (z0r _)) zbn Z)<|Zq (z3e Z .rd Z tu29)<|Zm Z<|Zn<|z29 (fun (s4:(List (V3 × Int)) × Int) aa ww=>Sta (ctx 23 H [] w) [(3,.val v2),(11,.rd (z02 aZ) a0.IDs),(12,.rd z0f (a0.IDs.length:Int)),(13,.rd z0f s4.2)] [(2,some (v2,.map aZ z0f s4.1))] aa ww) (fun aa ww h=>Zu h [2]) (fun s4=>?_);refine gSR<|Zq (I.lss Z Z)<|Zn<|z0x<|gIf Z Z (fun h5=>?_) (fun h5=>?_)
  ·refine Zt<|z0x<|z4s<|gSR<|Zm Z<|z0q fun x6 h7=>Zq (ixR Z Z h7 tu29 z31 Z)<|Zq (ldR Z z59)<|Eb Z (z6n 3 z31 (.zr (R:=aZ) (x:=(Vector.replicate 32 0)) zfo)) fun v8=>Za Z<|Es (sto 3 Z Z fH Z z31)<|Zn<|z28<|Zm Z<|Zq (ld 3 Z Z fH z59 Z)<|Zm Z<|Es (mup 2 Z Z Z Z zz0 Tryz.underlying103)<|z1p<|z3c<|z0y<|z28<|Zq (I.add Z Z)<|Zm Z<|z1p<|z1s (fun aa ww h=>Zu h [2])
  ·refine z27<|z19<|z1b<|z3k (fun aa ww h=>Zu h [2])
 ·refine gSR<|Zm Z<|Zb Z<|z0n<|Ze [v2] [2] Z
def zbd (a0:V3) (c1_0:List Bool) (c2_0:List (V3 × Int)):Option (Bool) :=
 idx c1_0 ((zbr c2_0 a0).getD 0) >>= fun x2 =>
 some (!x2)
theorem zh6 (a0:V3) (p1_0:Value) (q1_0:Value) (c1_0:List Bool) (p2_0:Value) (q2_0:Value) (c2_0:List (V3 × Int)):z23 Tryz.prog 80 [.rd aZ a0,.val (z07 p1_0 0),.val (z07 p2_0 0)] [(1,some (p1_0,.box 128 [.val q1_0])),(2,some (q1_0,.list z0h 4 c1_0)),(3,some (p2_0,.box 103 [.val q2_0])),(4,some (q2_0,.map aZ z0f c2_0))] (zbd a0 c1_0 c2_0) (fun r nv=>⟨[.rd z0h r],[(1,some (p1_0,.box 128 [.val q1_0])),(2,some (q1_0,.list z0h 4 c1_0)),(3,some (p2_0,.box 103 [.val q2_0])),(4,some (q2_0,.map aZ z0f c2_0))]⟩):=by
 refine z2m 12 Tryz.func80 Z Z Z fun H w=>?_;refine gSR<|Eb Z (bx 5 Z) fun v1=>Zb Z<|z0x<|zix mixed (by kernel_rfl)<|Rq Z (ldV 1 Z Z .here zy3 Z)<|Rq Z (ldV 3 Z Z .here z18t Z)<|Rq Z (ld 5 Z Z fH z59 Z)<|Rq Z (mlk Z (.own 4 Z Z) Z zz0 Tryz.underlying103 ti3 (Zr.num Z) Z)<|z8n fun x2 h3=>Rq Z (ixO 2 Z Z Z h3 tu128 ti4)<|Rq Z (ld 2 Z Z (Foc.el h3) ty4 Z)<|Rq Z (zds Z)<|Rq Z (asg Z)<|zvk<|z0y<|z0n<|Ze [] [1,2,3,4] Z
def z1a (a0:List V3) (c1_0:List Bool) (c1_1:List (V3 × Int)) (s2:Int):Option (Sum (Sum Int Unit) Int) :=
 if decide (s2<(a0.length:Int)) then
  idx a0 s2 >>= fun x4 =>
  zbd x4 c1_0 c1_1 >>= fun r6 =>
  if r6 then
   some (.inl (.inl s2))
  else
   some (.inr (w64 (s2+1)))
 else
  some (.inl (.inr ()))
def z2d (a0:List V3) (c1_0:List Bool) (c1_1:List (V3 × Int)):Option (Int) :=
 z4y (iter (z1a a0 c1_0 c1_1) 0) fun s1 =>
 some (-1)
theorem z5x (a0:List V3) (p1_0:Value) (q1_0:Value) (c1_0:List Bool) (p1_1:Value) (q1_1:Value) (c1_1:List (V3 × Int)):z23 Tryz.prog 125 [.rd (z02 aZ) a0,.val (.func (.func 80) #[] #[z07 p1_0 0,z07 p1_1 0])] [(1,some (p1_0,.box 128 [.val q1_0])),(2,some (q1_0,.list z0h 4 c1_0)),(3,some (p1_1,.box 103 [.val q1_1])),(4,some (q1_1,.map aZ z0f c1_1))] (z2d a0 c1_0 c1_1) (fun r nv=>⟨[.rd z0f r],[(1,some (p1_0,.box 128 [.val q1_0])),(2,some (q1_0,.list z0h 4 c1_0)),(3,some (p1_1,.box 103 [.val q1_1])),(4,some (q1_1,.map aZ z0f c1_1))]⟩):=by
 refine z2m 19 Tryz.func125 Z Z Z fun H w=>?_;refine gSR<|Zb Z<|z7c (fun (s1:Unit) aa ww=>Sta (ctx 19 H [(1,some (p1_0,.box 128 [.val q1_0])),(2,some (q1_0,.list z0h 4 c1_0)),(3,some (p1_1,.box 103 [.val q1_1])),(4,some (q1_1,.map aZ z0f c1_1))] w) [] [(2,some (q1_0,.list z0h 4 c1_0)),(1,some (p1_0,.box 128 [.val q1_0])),(4,some (q1_1,.map aZ z0f c1_1)),(3,some (p1_1,.box 103 [.val q1_1]))] aa ww) ?_ (fun s1=>?_)
 ·refine gSR<|Zm Z<|Zq (z3e Z .rd Z tu29)<|Zm Z<|Zn<|z29 (fun (s2:Int) aa ww=>Sta (ctx 19 H [(1,some (p1_0,.box 128 [.val q1_0])),(2,some (q1_0,.list z0h 4 c1_0)),(3,some (p1_1,.box 103 [.val q1_1])),(4,some (q1_1,.map aZ z0f c1_1))] w) [(0,.rd (z02 aZ) a0),(1,.val (.func (.func 80) #[] #[z07 p1_0 0,z07 p1_1 0])),(7,.rd z0f (a0.length:Int)),(8,.rd z0f s2)] [(2,some (q1_0,.list z0h 4 c1_0)),(1,some (p1_0,.box 128 [.val q1_0])),(4,some (q1_1,.map aZ z0f c1_1)),(3,some (p1_1,.box 103 [.val q1_1]))] aa ww) (fun aa ww h=>Zu h [2,1,4,3]) (fun s2=>?_)
  refine gSR<|Zq (I.lss Z Z)<|Zn<|z0x<|gIf Z Z (fun h3=>?_) (fun h3=>?_)
  ·refine Zt<|z0x<|z4s<|gSR<|Zm Z<|Zb Z<|gSR<|Zm Z<|Zm Z<|Zm Z<|z0q fun x4 h5=>Zq (ixR Z Z h5 tu29 z31 Z)<|Zq (ldR Z z59)<|zi0 [1,2,3,4] [(1,1),(2,2),(3,3),(4,4)] (gd0 Z) Z Z Tryz.func80 Z Z (zh6 _ _ _ _ _ _ _) (Y1 Z) (cQ 1 Z<|cQ 3 Z<|cN) (Zi Z<|Zi Z<|Zi Z<|Zi Z<|rN) fun r6 n7=>Zj Z (fun h8=>?_) (fun h8=>?_)
   ·refine gSR<|Zm Z<|Zb Z<|z0n<|z3m<|z0u<|z6c<|z58<|Ze [] [1,2,3,4] Z
   ·refine z30<|z3c<|z0y<|z28<|Zq (I.add Z Z)<|Zm Z<|z1p<|z1s (fun aa ww h=>Zu h [2,1,4,3])
  ·refine z27<|z19<|z1b<|z5q (fun aa ww h=>Zu h [2,1,4,3])
 ·refine gSR<|Zb Z<|z0n<|Ze [] [1,2,3,4] Z
def z1j (a0:List V3) (c1_0:List Bool) (c1_1:List (V3 × Int)):Option (Bool) :=
 z2d a0 c1_0 c1_1 >>= fun r1 =>
 some (decide (0≤r1)) >>= fun y3 =>
 some y3
theorem z5a (a0:List V3) (p1_0:Value) (q1_0:Value) (c1_0:List Bool) (p1_1:Value) (q1_1:Value) (c1_1:List (V3 × Int)):z23 Tryz.prog 79 [.rd (z02 aZ) a0,.val (.func (.func 80) #[] #[z07 p1_0 0,z07 p1_1 0])] [(1,some (p1_0,.box 128 [.val q1_0])),(2,some (q1_0,.list z0h 4 c1_0)),(3,some (p1_1,.box 103 [.val q1_1])),(4,some (q1_1,.map aZ z0f c1_1))] (z1j a0 c1_0 c1_1) (fun r nv=>⟨[.rd z0h r],[(1,some (p1_0,.box 128 [.val q1_0])),(2,some (q1_0,.list z0h 4 c1_0)),(3,some (p1_1,.box 103 [.val q1_1])),(4,some (q1_1,.map aZ z0f c1_1))]⟩):=by
 refine z2m 9 Tryz.func79 Z Z Z fun H w=>?_;refine gSR<|Zb Z<|gSR<|Zm Z<|Zm Z<|Zc [1,2,3,4] [(1,1),(2,2),(3,3),(4,4)] Tryz.func125 Z (z5x _ _ _ _ _ _ _) fun r1 n2=>Zq (I.geq Z Z)<|Za Z<|z24 4 Z fun y3=>Zn<|z0n<|Ze [] [1,2,3,4] Z
def zan (a0:Int) (c1_0:List Bool) (c2_0:z01) (c3_0:List (V3 × Int)):Option (Bool) :=
 idx c1_0 a0 >>= fun x1 =>
 if !x1 then
  idx c2_0.Ops a0 >>= fun x4 =>
  z1j x4.Preds c1_0 c3_0 >>= fun r6 =>
  some (!r6)
 else
  some false
theorem zj5 (a0:Int) (p1_0:Value) (q1_0:Value) (c1_0:List Bool) (p2_0:Value) (c2_0:z01) (p3_0:Value) (q3_0:Value) (c3_0:List (V3 × Int)):z23 Tryz.prog 78 [.rd z0f a0,.val (z07 p1_0 0),.val (z07 p2_0 0),.val (z07 p3_0 0)] [(1,some (p1_0,.box 128 [.val q1_0])),(2,some (q1_0,.list z0h 4 c1_0)),(3,some (p2_0,.box 66 [.rd z04 c2_0])),(4,some (p3_0,.box 103 [.val q3_0])),(5,some (q3_0,.map aZ z0f c3_0))] (zan a0 c1_0 c2_0 c3_0) (fun r nv=>⟨[.rd z0h r],[(1,some (p1_0,.box 128 [.val q1_0])),(2,some (q1_0,.list z0h 4 c1_0)),(3,some (p2_0,.box 66 [.rd z04 c2_0])),(4,some (p3_0,.box 103 [.val q3_0])),(5,some (q3_0,.map aZ z0f c3_0))]⟩):=by
 refine z2m 22 Tryz.func78 Z Z Z fun H w=>?_;refine gSR<|Zb Z<|gSR<|Zq (ldV 1 Z Z .here zy3 Z)<|Zm Z<|z0q fun x1 h2=>Zq (ixO 2 Z Z Z h2 tu128 ti4)<|Zq (ld 2 Z Z (Foc.el h2) ty4 Z)<|Zq (zds Z)<|Zm Z<|z1h 11 Z (fun h3=>?_) (fun h3=>?_)
 ·refine lKn 10 Z h3<|z13 Zx Z Z (faB 3 Z Z Tryz.underlying66 Z (by exact zcx))<|z13 Zx Z Z (ld 3 Z Z (fP (z0g _)) zgb Z)<|z13 Zx Z Z (mv Z)<|z0q fun x4 h5=>z13 Zx Z Z (ixR Z Z h5 tu22 z6h Z)<|z13 Zx Z Z (faR Z (z0z _) Tryz.underlying43 Z Z (by exact z8j))<|z13 Zx Z Z (ldR Z zbn)<|z13 Zx Z Z (mkf mp0 (mp2 Z Z))<|zd3 [1,2,4,5] [(1,1),(2,2),(3,4),(4,5)] Zx Z Tryz.func79 Z Z (z5a _ _ _ _ _ _ _) (Y2 Z Z) (Zi Z<|Zi Z<|Zi Z<|Zi Z<|rN) fun r6 n7=>z13 Zx Z Z (zds Z)<|Zq (pkT Z Z)<|Zb Z<|z0n<|Ze [] [1,2,3,4,5] Z
 ·refine lKn 10 Z h3<|Zk Z<|Zk Z<|Zk Z<|Zk Z<|Zk Z<|Zk Z<|Zk Z<|Zk Z<|Zk Z<|Zq (pkF Z Z)<|Zb Z<|z0n<|Ze [] [1,2,3,4,5] Z
def z80 (a0:z01) (r5:(List (V3 × Int))) (s13:(List Bool) × (List V3) × Int) (s17:Int):Option (Sum Int Int) :=
 zan s17 s13.1 a0 r5 >>= fun r18 =>
 if !r18 then
  some (w64 (s17+1)) >>= fun y21 =>
  some (.inr y21)
 else
  some (.inl s17)
def z9r (a0:z01) (r5:(List (V3 × Int))) (s13:(List Bool) × (List V3) × Int):Option (Sum ((List V3)) ((List Bool) × (List V3) × Int)) :=
 if decide (s13.2.2<(a0.IDs.length:Int)) then
  (iter (z80 a0 r5 s13) 0) >>= fun s16 =>
  idx s13.1 s16 >>= fun x22 =>
  idx a0.IDs s16 >>= fun x24 =>
  app 32 s13.2.1 [x24] >>= fun x27 =>
  some (.inr (s13.1.set (s16:Int).toNat true,x27,w64 (s13.2.2+1)))
 else
  some (.inl s13.2.1)
def zaa (a0:z01):Option ((List V3) × Int) :=
 z7v a0 >>= fun r2 =>
 if r2 != 0 then
  some ([],r2)
 else
  z4w a0 >>= fun r5 =>
  mkn 1 false (a0.IDs.length:Int) >>= fun x8 =>
  (iter (z9r a0 r5) (x8,[],0)) >>= fun s12 =>
  some (s12,0)
theorem zlb (a0:z01):z23 Tryz.prog 38 [.rd z04 a0] [zG1] (zaa a0) (fun r nv=>⟨[.val (nv 0),.rd z0f r.2],[(1001,some (.bool true,.glob 1 (z3i 64 z0s) z6j)),(100,some (nv 0,.list aZ 45 r.1))]⟩):=by
 refine z2m 46 Tryz.func38 Z Z Z fun H w=>?_;refine gSR<|Eb Z (bx 1 Z) fun v1=>Za Z<|Zb Z<|z0x<|gSR<|Zq (ld 1 Z Z fH zcv Z)<|Zc [1001] [] Tryz.func70 Z (ze7 _) fun r2 n3=>Zb Z<|gSR<|Zm Z<|Zq (I.neq Z Z)<|Zj Z (fun h4=>?_) (fun h4=>?_)
 ·refine gSR<|Zm Z<|Za Z<|Zb Z<|z0n<|z0u<|zlp aZ 45 2<|Ze [(.slice none 0 0)] [1001,2] Z
 ·refine Zt<|gSR<|Zq (ld 1 Z Z fH zcv Z)<|Zc [] [(100,3)] Tryz.func77 Z (zba _) fun r5 n6=>Eb Z (z6n 4 zyo (.val Z)) fun v7=>Es (zo4 4 Z Z (.here z08) Z z12 z08 zyo)<|Zn<|gSR<|Zq (faB 1 Z Z Tryz.underlying66 Z (by exact z8j))<|Zq (ld 1 Z Z (fP (z0r _)) zbn Z)<|Zq (z3e Z .rd Z tu29)<|z0q fun x8 h9=>Ef Z (mks (R:=z0h) 5 Z Z h9 tu128 ti4 Zr.bool Z) fun v10=>Eb Z (z6n 6 z15d (.val Z)) fun v11=>Es (zo4 6 Z Z (.here z08) Z z12 z08 z15d)<|Zn<|gSR<|Zq (mkf mp0 (mp3 Z Z Z))<|Zb Z<|gSR<|Zb Z<|z7x (fun (s12:(List V3)) aa ww=>∃ nv:Nat→Value,Sta (ctx 46 H [zG1] w) [(8,.val (nv 0))] [(1101,some ((nv 0),.list aZ 45 s12)),zG1] aa ww) ?_ (fun s12=>?_)
  ·refine gSR<|Zq (faB 1 Z Z Tryz.underlying66 Z (by exact z8j))<|Zq (ld 1 Z Z (fP (z0r _)) zbn Z)<|Zq (z3e Z .rd Z tu29)<|Zm Z<|Zn<|zub aZ 45 1104<|z29 (fun (s13:(List Bool) × (List V3) × Int) aa ww=>∃ nv:Nat→Value,Sta (ctx 46 H [zG1] w) [(1,.val (z07 v1 0)),(6,.val (z07 v11 0)),(7,.val (.func (.func 78) #[] #[z07 v11 0,z07 v1 0,z07 v7 0])),(8,.val (nv 0)),(24,.rd z0f (a0.IDs.length:Int)),(25,.rd z0f s13.2.2)] [(1,some (v1,.box 66 [.rd z04 a0])),(5,some (v10,.list z0h 4 s13.1)),(6,some (v11,.box 128 [.val v10])),(3,some ((n6 0),.map aZ z0f r5)),(4,some (v7,.box 103 [.val (n6 0)])),(1103,some ((nv 0),.list aZ 45 s13.2.1)),zG1] aa ww) (fun aa ww h=>⟨nvl [(.slice none 0 0)],Zu h [1,5,6,3,4,1104,1001]⟩) (fun s13=>?_)
   refine gEx fun n14=>gSR<|Zq (I.lss Z Z)<|Zn<|z0x<|gIf Z Z (fun h15=>?_) (fun h15=>?_)
   ·refine Zt<|z0x<|z4s<|gSR<|Zb Z<|z7x (fun (s16:Int) aa ww=>Sta (ctx 46 H [zG1] w) [(1,.val (z07 v1 0)),(6,.val (z07 v11 0)),(7,.val (.func (.func 78) #[] #[z07 v11 0,z07 v1 0,z07 v7 0])),(8,.val (n14 0)),(9,.rd z0f s16),(24,.rd z0f (a0.IDs.length:Int)),(25,.rd z0f s13.2.2)] [(1,some (v1,.box 66 [.rd z04 a0])),(5,some (v10,.list z0h 4 s13.1)),(6,some (v11,.box 128 [.val v10])),(3,some ((n6 0),.map aZ z0f r5)),(4,some (v7,.box 103 [.val (n6 0)])),(1103,some ((n14 0),.list aZ 45 s13.2.1)),zG1] aa ww) ?_ (fun s16=>?_)
    ·refine z29 (fun (s17:Int) aa ww=>Sta (ctx 46 H [zG1] w) [(1,.val (z07 v1 0)),(6,.val (z07 v11 0)),(7,.val (.func (.func 78) #[] #[z07 v11 0,z07 v1 0,z07 v7 0])),(8,.val (n14 0)),(9,.rd z0f s17),(24,.rd z0f (a0.IDs.length:Int)),(25,.rd z0f s13.2.2)] [(1,some (v1,.box 66 [.rd z04 a0])),(5,some (v10,.list z0h 4 s13.1)),(6,some (v11,.box 128 [.val v10])),(3,some ((n6 0),.map aZ z0f r5)),(4,some (v7,.box 103 [.val (n6 0)])),(1103,some ((n14 0),.list aZ 45 s13.2.1)),zG1] aa ww) (fun aa ww h=>Zu h [1,5,6,3,4,1103,1001]) (fun s17=>?_)
     refine z0x<|gSR<|Zm Z<|Zm Z<|zi0 [6,5,1,4,3] [(1,6),(2,5),(3,1),(4,4),(5,3)] (gd0 Z) Z Z Tryz.func78 Z Z (zj5 _ _ _ _ _ _ _ _ _) (Y1 Z) (cQ 6 Z<|cQ 1 Z<|cQ 4 Z<|cN) (Zi Z<|Zi Z<|Zi Z<|Zi Z<|Zi Z<|rN) fun r18 n19=>Zq (zds Z)<|Zj Z (fun h20=>?_) (fun h20=>?_)
     ·refine Zt<|z4s<|z28<|Zm Z<|Zq (I.add Z Z)<|Za Z<|z24 9 Z fun y21=>z1p<|z3c<|z1s (fun aa ww h=>Zu h [1,5,6,3,4,1103,1001])
     ·refine z27<|z19<|z1b<|z3k (fun aa ww h=>Zu h [1,5,6,3,4,1103,1001])
    ·refine gSR<|Zq (ldV 6 Z Z .here zy3 Z)<|Zm Z<|z0q fun x22 h23=>Zq (ixO 5 Z Z Z h23 tu128 ti4)<|Es (sto 5 Z Z (Foc.el h23) Z ti4)<|Zn<|z28<|Zm Z<|Zq (faB 1 Z Z Tryz.underlying66 Z (by exact z8j))<|Zq (ld 1 Z Z (fP (z0r _)) zbn Z)<|Zm Z<|z0q fun x24 h25=>Zq (ixR Z Z h25 tu29 z31 Z)<|Zq (ldR Z z59)<|Ef Z (lit (R:=aZ) ([x24]:List V3) 1105 (pP Z Z<|pN) Z tu29 z31 Z Z) fun v26=>zg9 1105 [42] Z (fS Z<|fN)<|z0q fun x27 h28=>Ef Z (apn 1103 Z Z Z .rd h28 tu29 z31 Z Z Z) fun v29=>Za Z<|z1p<|z3c<|z0y<|z28<|Zq (I.add Z Z)<|Zm Z<|z1p<|z1s (fun aa ww h=>⟨nvl [v29],Zu h [1,5,6,3,4,1103,1001]⟩)
   ·refine z27<|z19<|z1b<|z3k (fun aa ww h=>⟨nvl [(n14 0)],Zu h [1103,1001]⟩)
  ·refine gEx fun n30=>gSR<|Zm Z<|Za Z<|Zb Z<|z0n<|Ze [(n30 0)] [1001,1101] Z
def z74 (a0:V3) (c1_0:List (V3 × Int)):Option (Bool) :=
 some ((zbr c1_0 a0).getD 0) >>= fun y2 =>
 some ((zbr c1_0 a0).isSome) >>= fun y3 =>
 some y3
theorem zch (a0:V3) (p1_0:Value) (q1_0:Value) (c1_0:List (V3 × Int)):z23 Tryz.prog 127 [.rd aZ a0,.val (z07 p1_0 0)] [(1,some (p1_0,.box 103 [.val q1_0])),(2,some (q1_0,.map aZ z0f c1_0))] (z74 a0 c1_0) (fun r nv=>⟨[.rd z0h r],[(1,some (p1_0,.box 103 [.val q1_0])),(2,some (q1_0,.map aZ z0f c1_0))]⟩):=by
 refine z2m 13 Tryz.func127 Z Z Z fun H w=>?_;refine gSR<|Eb Z (bx 3 Z) fun v1=>Zb Z<|gSR<|Zq (ldV 1 Z Z .here z18t Z)<|Zq (ld 3 Z Z fH z59 Z)<|Zq (mlk2 Z (.own 2 Z Z) Z zz0 Tryz.underlying103 ti3 (Zr.num Z) Z)<|Zm Z<|Zq (ext Z Z)<|Zq (ext Z Z)<|Za Z<|z24 4 Z fun y2=>Za Z<|z24 5 Z fun y3=>Zn<|gSR<|Zm Z<|Zb Z<|z0n<|Ze [] [1,2] Z
def z5c (a0:List V3) (c1_0:List (V3 × Int)) (s2:Int):Option (Sum (Sum Int Unit) Int) :=
 if decide (s2<(a0.length:Int)) then
  idx a0 s2 >>= fun x4 =>
  z74 x4 c1_0 >>= fun r6 =>
  if r6 then
   some (.inl (.inl s2))
  else
   some (.inr (w64 (s2+1)))
 else
  some (.inl (.inr ()))
def z3h (a0:List V3) (c1_0:List (V3 × Int)):Option (Int) :=
 z4y (iter (z5c a0 c1_0) 0) fun s1 =>
 some (-1)
theorem z57 (a0:List V3) (q0:Value) (l0:List V3) (p1_0:Value) (q1_0:Value) (c1_0:List (V3 × Int)):z23 Tryz.prog 125 [.vw aZ q0 l0 a0,.val (.func (.func 127) #[] #[z07 p1_0 0])] [(1,some (q0,.list aZ 45 l0)),(2,some (p1_0,.box 103 [.val q1_0])),(3,some (q1_0,.map aZ z0f c1_0))] (z3h a0 c1_0) (fun r nv=>⟨[.rd z0f r],[(1,some (q0,.list aZ 45 l0)),(2,some (p1_0,.box 103 [.val q1_0])),(3,some (q1_0,.map aZ z0f c1_0))]⟩):=by
 refine z2m 19 Tryz.func125 Z Z Z fun H w=>?_;refine gSR<|Zb Z<|z7c (fun (s1:Unit) aa ww=>Sta (ctx 19 H [(1,some (q0,.list aZ 45 l0)),(2,some (p1_0,.box 103 [.val q1_0])),(3,some (q1_0,.map aZ z0f c1_0))] w) [] [(1,some (q0,.list aZ 45 l0)),(3,some (q1_0,.map aZ z0f c1_0)),(2,some (p1_0,.box 103 [.val q1_0]))] aa ww) ?_ (fun s1=>?_)
 ·refine gSR<|Zm Z<|Zq (z3e Z (.vw 1 Z) Z tu29)<|Zm Z<|Zn<|z29 (fun (s2:Int) aa ww=>Sta (ctx 19 H [(1,some (q0,.list aZ 45 l0)),(2,some (p1_0,.box 103 [.val q1_0])),(3,some (q1_0,.map aZ z0f c1_0))] w) [(0,.vw aZ q0 l0 a0),(1,.val (.func (.func 127) #[] #[z07 p1_0 0])),(7,.rd z0f (a0.length:Int)),(8,.rd z0f s2)] [(1,some (q0,.list aZ 45 l0)),(3,some (q1_0,.map aZ z0f c1_0)),(2,some (p1_0,.box 103 [.val q1_0]))] aa ww) (fun aa ww h=>Zu h [1,3,2]) (fun s2=>?_)
  refine gSR<|Zq (I.lss Z Z)<|Zn<|z0x<|gIf Z Z (fun h3=>?_) (fun h3=>?_)
  ·refine Zt<|z0x<|z4s<|gSR<|Zm Z<|Zb Z<|gSR<|Zm Z<|Zm Z<|Zm Z<|z0q fun x4 h5=>Zq (ixQ 1 Z Z Z h5 tu29 z31)<|Zq (ldQ 1 Z Z z59 Z)<|zi0 [2,3] [(1,2),(2,3)] (gd0 Z) Z Z Tryz.func127 Z Z (zch _ _ _ _) (Y1 Z) (cQ 2 Z<|cN) (Zi Z<|Zi Z<|rN) fun r6 n7=>Zj Z (fun h8=>?_) (fun h8=>?_)
   ·refine gSR<|Zm Z<|Zb Z<|z0n<|z3m<|z0u<|z6c<|z58<|Ze [] [1,2,3] Z
   ·refine z30<|z3c<|z0y<|z28<|Zq (I.add Z Z)<|Zm Z<|z1p<|z1s (fun aa ww h=>Zu h [1,3,2])
  ·refine z27<|z19<|z1b<|z5q (fun aa ww h=>Zu h [1,3,2])
 ·refine gSR<|Zb Z<|z0n<|Ze [] [1,2,3] Z
def z5r (c1_0:List (V3 × Int)) (s5:(List V3) × Int × Int):Option (Sum ((List V3) × Int) ((List V3) × Int × Int)) :=
 if decide (s5.2.2<(s5.1.length:Int)) then
  idx s5.1 s5.2.2 >>= fun x7 =>
  z74 x7 c1_0 >>= fun r10 =>
  if !r10 then
   idx s5.1 s5.2.1 >>= fun x13 =>
   some (w64 (s5.2.1+1)) >>= fun y15 =>
   some (w64 (s5.2.2+1)) >>= fun y16 =>
   some (.inr (s5.1.set (s5.2.1:Int).toNat x7,y15,y16))
  else
   some (w64 (s5.2.2+1)) >>= fun y17 =>
   some (.inr (s5.1,s5.2.1,y17))
 else
  some (.inl (s5.1,s5.2.1))
def z1o (c0:List V3) (c1_0:List (V3 × Int)):Option ((List V3)) :=
 z3h c0 c1_0 >>= fun r1 =>
 if r1==(-1) then
  some c0
 else
  (iter (z5r c1_0) (c0,r1,w64 (r1+1))) >>= fun s4 =>
  chk (0≤s4.2∧s4.2≤(s4.1.length:Int)∧(s4.1.length:Int)≤(s4.1.length:Int)) >>= fun u18 =>
  chk ((s4.2:Int).toNat+(((s4.1.length:Int):Int).toNat - (s4.2:Int).toNat)≤s4.1.length) >>= fun u20 =>
  cut (clr s4.1 ((s4.2:Int).toNat) (((s4.1.length:Int):Int).toNat - (s4.2:Int).toNat) (Vector.replicate 32 0)) 0 s4.2 >>= fun x22 =>
  some x22
theorem z5o (p0:Value) (c0:List V3) (p1_0:Value) (q1_0:Value) (c1_0:List (V3 × Int)):z23 Tryz.prog 126 [.val p0,.val (.func (.func 127) #[] #[z07 p1_0 0])] [(1,some (p0,.list aZ 45 c0)),(2,some (p1_0,.box 103 [.val q1_0])),(3,some (q1_0,.map aZ z0f c1_0))] (z1o c0 c1_0) (fun r nv=>⟨[.val (nv 0)],[(2,some (p1_0,.box 103 [.val q1_0])),(3,some (q1_0,.map aZ z0f c1_0)),(100,some (nv 0,.list aZ 45 r))]⟩):=by
 refine z2m 42 Tryz.func126 Z Z Z fun H w=>?_;refine gSR<|Zb Z<|gSR<|Zm Z<|Zm Z<|call [1,2,3] [(1,1),(2,2),(3,3)] Z Tryz.func125 Z Z (z57 _ _ _ _ _ _) (aW Z<|aQ Z<|aN) (Zi Z<|Zi Z<|Zi Z<|rN) fun r1 n2=>Zb Z<|z0x<|gSR<|Zm Z<|Zq (I.eql Z Z)<|Zj Z (fun h3=>?_) (fun h3=>?_)
 ·refine gSR<|Zm Z<|Zb Z<|z0n<|z0u<|Ze [p0] [2,3,1] Z
 ·refine Zt<|z7x (fun (s4:(List V3) × Int) aa ww=>Sta (ctx 42 H [(1,some (p0,.list aZ 45 c0)),(2,some (p1_0,.box 103 [.val q1_0])),(3,some (q1_0,.map aZ z0f c1_0))] w) [(0,.val p0),(5,.rd z0f s4.2)] [(1,some (p0,.list aZ 45 s4.1)),(3,some (q1_0,.map aZ z0f c1_0)),(2,some (p1_0,.box 103 [.val q1_0]))] aa ww) ?_ (fun s4=>?_)
  ·refine gSR<|Zm Z<|Zq (I.add Z Z)<|Zb Z<|z29 (fun (s5:(List V3) × Int × Int) aa ww=>Sta (ctx 42 H [(1,some (p0,.list aZ 45 c0)),(2,some (p1_0,.box 103 [.val q1_0])),(3,some (q1_0,.map aZ z0f c1_0))] w) [(0,.val p0),(1,.val (.func (.func 127) #[] #[z07 p1_0 0])),(5,.rd z0f s5.2.1),(6,.rd z0f s5.2.2)] [(1,some (p0,.list aZ 45 s5.1)),(3,some (q1_0,.map aZ z0f c1_0)),(2,some (p1_0,.box 103 [.val q1_0]))] aa ww) (fun aa ww h=>Zu h [1,3,2]) (fun s5=>?_)
   refine z0x<|gSR<|Zm Z<|Zm Z<|Zq (z3e Z (.own 1 Z) Z tu29)<|Zq (I.lss Z Z)<|Zj Z (fun h6=>?_) (fun h6=>?_)
   ·refine Zt<|z0x<|z4s<|gSR<|Zm Z<|Zm Z<|z0q fun x7 h8=>Zq (ixO 1 Z Z Z h8 tu29 z31)<|Zq (ld 1 Z Z (Foc.el h8) z59 Z)<|Eb Z (z6n 4 z31 (.zr (R:=aZ) (x:=(Vector.replicate 32 0)) zfo)) fun v9=>Es (sto 4 Z Z fH Z z31)<|Zn<|gSR<|Zm Z<|Zq (ld 4 Z Z fH z59 Z)<|zi0 [2,3] [(1,2),(2,3)] (gd0 Z) Z Z Tryz.func127 Z Z (zch _ _ _ _) (Y1 Z) (cQ 2 Z<|cN) (Zi Z<|Zi Z<|rN) fun r10 n11=>Zq (zds Z)<|Zj Z (fun h12=>?_) (fun h12=>?_)
    ·refine gSR<|Zm Z<|Zm Z<|Zq (ld 4 Z Z fH z59 Z)<|z0q fun x13 h14=>Zq (ixO 1 Z Z Z h14 tu29 z31)<|Es (sto 1 Z Z (Foc.el h14) Z z31)<|Zn<|z28<|Zm Z<|Zq (I.add Z Z)<|Za Z<|z24 5 Z fun y15=>z1p<|z3c<|z0y<|z28<|Zm Z<|Zq (I.add Z Z)<|Za Z<|z24 6 Z fun y16=>z1p<|z1s (fun aa ww h=>Zu h [1,3,2])
    ·refine z30<|z3c<|z0y<|z28<|Zm Z<|Zq (I.add Z Z)<|Za Z<|z24 6 Z fun y17=>z1p<|z1s (fun aa ww h=>Zu h [1,3,2])
   ·refine z27<|z19<|z1b<|z3k (fun aa ww h=>Zu h [1,3,2])
  ·refine gSR<|Zm Z<|Zm Z<|z0q fun u18 h19=>Zq (z18q 1 Z Z (.to Z) .no (z4z h19) tu29 z31)<|z0q fun u20 h21=>EsV (clrS 1 Z Z (z4z h21) Z tu29 z31 zfo Z)<|Zn<|gSR<|Zm Z<|Zm Z<|z0q fun x22 h23=>Ef Z (cutO 1 Z Z Z h23 tu29 z31) fun v24=>Zb Z<|z0n<|Ze [v24] [2,3,1] Z
def zai (a0:z01) (a1:List V3):Option ((List V3) × Int) :=
 z7v a0 >>= fun r2 =>
 if r2 != 0 then
  some ([],r2)
 else
  if decide (60<(a1.length:Int)) then
   some ([],4)
  else
   z4w a0 >>= fun r6 =>
   z15 a1 >>= fun r9 =>
   z1o r9 r6 >>= fun r11 =>
   z10e r11 >>= fun r13 =>
   z1g r13 >>= fun r15 =>
   some (r15,0)
end
section
open Go Go.RowKit
set_option maxRecDepth 100000
theorem zj2 (a0:z01) (a1:List V3):z23 Tryz.prog 81 [.rd z04 a0,.rd (z02 aZ) a1] [zG1] (zai a0 a1) (fun r nv=>⟨[.val (nv 0),.rd z0f r.2],[(1001,some (.bool true,.glob 1 (z3i 64 z0s) z6j)),(100,some (nv 0,.list aZ 45 r.1))]⟩):=by
 refine z2m 27 Tryz.func81 Z Z Z fun H w=>?_;refine gSR<|Eb Z (bx 1 Z) fun v1=>Za Z<|Zb Z<|z0x<|gSR<|Zq (ld 1 Z Z fH zcv Z)<|Zc [1001] [] Tryz.func70 Z (ze7 _) fun r2 n3=>Zb Z<|gSR<|Zm Z<|Zq (I.neq Z Z)<|Zj Z (fun h4=>?_) (fun h4=>?_)
 ·refine gSR<|Zm Z<|Za Z<|Zb Z<|z0n<|z0u<|zlp aZ 45 2<|Ze [(.slice none 0 0)] [1001,2] Z
 ·refine Zt<|z0x<|gSR<|Zm Z<|Zq (z3e Z .rd Z tu29)<|Zq (I.gtr Z Z)<|Zj Z (fun h5=>?_) (fun h5=>?_)
  ·refine gSR<|Za Z<|Zb Z<|z0n<|z0u<|zlp aZ 45 3<|Ze [(.slice none 0 0)] [1001,3] Z
  ·refine Zt<|gSR<|Zq (ld 1 Z Z fH zcv Z)<|Zc [] [(100,4)] Tryz.func77 Z (zba _) fun r6 n7=>Eb Z (z6n 5 zyo (.val Z)) fun v8=>Es (zo4 5 Z Z (.here z08) Z z12 z08 zyo)<|Zn<|gSR<|Zm Z<|Zc [] [(100,6)] Tryz.func83 Z (z2g _) fun r9 n10=>Zq (mkf mp0 (mp1 Z))<|Zc [6,5,4] [(100,7),(2,5),(3,4)] Tryz.func126 Z (z5o _ _ _ _ _) fun r11 n12=>Zb Z<|gSR<|Zm Z<|Zc [7] [(1,7)] Tryz.func47 Z (zwk _ _) fun r13 n14=>Zn<|gSR<|Zm Z<|Zc [7] [(100,8)] Tryz.func49 Z (z4p _ _) fun r15 n16=>Za Z<|Zb Z<|z0n<|Ze [(n16 0)] [1001,8] Z
def z8i (c1_0:List (V3 × Int)) (c3_0:z01) (rec:V3→(List (V3 × Int))→(List Bool)→z01→Option ((List Bool))) (x8:z05) (s10:(List Bool) × Int):Option (Sum ((List Bool)) ((List Bool) × Int)) :=
 if decide (s10.2<(x8.Preds.length:Int)) then
  idx x8.Preds s10.2 >>= fun x12 =>
  rec x12 c1_0 s10.1 c3_0 >>= fun r15 =>
  some (.inr (r15,w64 (s10.2+1)))
 else
  some (.inl s10.1)
def z6u (rec:V3→(List (V3 × Int))→(List Bool)→z01→Option ((List Bool))) (a0:V3) (c1_0:List (V3 × Int)) (c2_0:List Bool) (c3_0:z01):Option ((List Bool)) :=
 some ((zbr c1_0 a0).getD 0) >>= fun y2 =>
 idx c2_0 y2 >>= fun x3 =>
 if x3 then
  some c2_0
 else
  idx c2_0 y2 >>= fun x6 =>
  idx c3_0.Ops y2 >>= fun x8 =>
  iter (z8i c1_0 c3_0 rec x8) (c2_0.set (y2:Int).toNat true,0)
def z34:Nat→V3→(List (V3 × Int))→(List Bool)→z01→Option ((List Bool))
 | 0,_,_,_,_=>none
 | N+1,a0,c1_0,c2_0,c3_0=>z6u (z34 N) a0 c1_0 c2_0 c3_0
theorem zj6 (rec:V3→(List (V3 × Int))→(List Bool)→z01→Option ((List Bool))) (ih:∀ (a0:V3) (p1_0:Value) (q1_0:Value) (c1_0:List (V3 × Int)) (p2_0:Value) (q2_0:Value) (c2_0:List Bool) (p3_0:Value) (c3_0:z01) (p4_0:Value),z23 Tryz.prog 128 [.rd aZ a0,.val (z07 p1_0 0),.val (z07 p2_0 0),.val (z07 p3_0 0),.val (z07 p4_0 0)] [(1,some (p1_0,.box 103 [.val q1_0])),(2,some (q1_0,.map aZ z0f c1_0)),(3,some (p2_0,.box 128 [.val q2_0])),(4,some (q2_0,.list z0h 4 c2_0)),(5,some (p3_0,.box 66 [.rd z04 c3_0])),(6,some (p4_0,.box 176 [.val (.func (.func 128) #[] #[z07 p1_0 0,z07 p2_0 0,z07 p3_0 0,z07 p4_0 0])]))] (rec a0 c1_0 c2_0 c3_0) (fun r nv=>⟨[],[(1,some (p1_0,.box 103 [.val q1_0])),(2,some (q1_0,.map aZ z0f c1_0)),(3,some (p2_0,.box 128 [.val q2_0])),(4,some (q2_0,.list z0h 4 r)),(5,some (p3_0,.box 66 [.rd z04 c3_0])),(6,some (p4_0,.box 176 [.val (.func (.func 128) #[] #[z07 p1_0 0,z07 p2_0 0,z07 p3_0 0,z07 p4_0 0])]))]⟩)) (a0:V3) (p1_0:Value) (q1_0:Value) (c1_0:List (V3 × Int)) (p2_0:Value) (q2_0:Value) (c2_0:List Bool) (p3_0:Value) (c3_0:z01) (p4_0:Value):z23 Tryz.prog 128 [.rd aZ a0,.val (z07 p1_0 0),.val (z07 p2_0 0),.val (z07 p3_0 0),.val (z07 p4_0 0)] [(1,some (p1_0,.box 103 [.val q1_0])),(2,some (q1_0,.map aZ z0f c1_0)),(3,some (p2_0,.box 128 [.val q2_0])),(4,some (q2_0,.list z0h 4 c2_0)),(5,some (p3_0,.box 66 [.rd z04 c3_0])),(6,some (p4_0,.box 176 [.val (.func (.func 128) #[] #[z07 p1_0 0,z07 p2_0 0,z07 p3_0 0,z07 p4_0 0])]))] (z6u rec a0 c1_0 c2_0 c3_0) (fun r nv=>⟨[],[(1,some (p1_0,.box 103 [.val q1_0])),(2,some (q1_0,.map aZ z0f c1_0)),(3,some (p2_0,.box 128 [.val q2_0])),(4,some (q2_0,.list z0h 4 r)),(5,some (p3_0,.box 66 [.rd z04 c3_0])),(6,some (p4_0,.box 176 [.val (.func (.func 128) #[] #[z07 p1_0 0,z07 p2_0 0,z07 p3_0 0,z07 p4_0 0])]))]⟩):=by
 refine z2m 34 Tryz.func128 Z Z Z fun H w=>?_;refine gSR<|Eb Z (bx 7 Z) fun v1=>Zn<|gSR<|Zq (ldV 1 Z Z .here z18t Z)<|Zq (ld 7 Z Z fH z59 Z)<|Zq (mlk Z (.own 2 Z Z) Z zz0 Tryz.underlying103 ti3 (Zr.num Z) Z)<|Za Z<|z24 6 Z fun y2=>Zn<|z0x<|gSR<|Zq (ldV 3 Z Z .here zy3 Z)<|Zm Z<|z0q fun x3 h4=>Zq (ixO 4 Z Z Z h4 tu128 ti4)<|Zq (ld 4 Z Z (Foc.el h4) ty4 Z)<|Zj Z (fun h5=>?_) (fun h5=>?_)
 ·refine z0n<|z0u<|Ze [] [1,2,3,4,5,6] Z
 ·refine Zt<|gSR<|Zq (ldV 3 Z Z .here zy3 Z)<|Zm Z<|z0q fun x6 h7=>Zq (ixO 4 Z Z Z h7 tu128 ti4)<|Es (sto 4 Z Z (Foc.el h7) Z ti4)<|Zn<|gSR<|Zq (faB 5 Z Z Tryz.underlying66 Z (by exact zcx))<|Zq (ld 5 Z Z (fP (z0g _)) zgb Z)<|Zm Z<|z0q fun x8 h9=>Zq (ixR Z Z h9 tu22 z6h Z)<|Zq (faR Z (z0z _) Tryz.underlying43 Z Z (by exact z8j))<|Zq (ldR Z zbn)<|Zq (z3e Z .rd Z tu29)<|Zm Z<|Zn<|z29 (fun (s10:(List Bool) × Int) aa ww=>Sta (ctx 34 H [(1,some (p1_0,.box 103 [.val q1_0])),(2,some (q1_0,.map aZ z0f c1_0)),(3,some (p2_0,.box 128 [.val q2_0])),(4,some (q2_0,.list z0h 4 c2_0)),(5,some (p3_0,.box 66 [.rd z04 c3_0])),(6,some (p4_0,.box 176 [.val (.func (.func 128) #[] #[z07 p1_0 0,z07 p2_0 0,z07 p3_0 0,z07 p4_0 0])]))] w) [(4,.val (z07 p4_0 0)),(24,.rd (z02 aZ) x8.Preds),(25,.rd z0f (x8.Preds.length:Int)),(26,.rd z0f s10.2)] [(6,some (p4_0,.box 176 [.val (.func (.func 128) #[] #[z07 p1_0 0,z07 p2_0 0,z07 p3_0 0,z07 p4_0 0])])),(2,some (q1_0,.map aZ z0f c1_0)),(1,some (p1_0,.box 103 [.val q1_0])),(4,some (q2_0,.list z0h 4 s10.1)),(3,some (p2_0,.box 128 [.val q2_0])),(5,some (p3_0,.box 66 [.rd z04 c3_0]))] aa ww) (fun aa ww h=>Zu h [6,2,1,4,3,5]) (fun s10=>?_)
  refine gSR<|Zq (I.lss Z Z)<|Zn<|z0x<|gIf Z Z (fun h11=>?_) (fun h11=>?_)
  ·refine Zt<|z0x<|z4s<|gSR<|z0q fun x12 h13=>Zq (ixR Z Z h13 tu29 z31 Z)<|Zq (ldR Z z59)<|Eb Z (z6n 8 z31 (.zr (R:=aZ) (x:=(Vector.replicate 32 0)) zfo)) fun v14=>Es (sto 8 Z Z fH Z z31)<|Zn<|z28<|Zq (ldV 6 Z Z .here z197 Z)<|Zq (ld 8 Z Z fH z59 Z)<|zi0 [1,2,3,4,5,6] [(1,1),(2,2),(3,3),(4,4),(5,5),(6,6)] (gd0 Z) Z Z Tryz.func128 Z Z (ih _ _ _ _ _ _ _ _ _ _) (Y1 Z) (cQ 1 Z<|cQ 3 Z<|cQ 5 Z<|cQ 6 Z<|cN) (Zi Z<|Zi Z<|Zi Z<|Zi Z<|Zi Z<|Zi Z<|rN) fun r15 n16=>z1p<|z3c<|z0y<|z28<|Zq (I.add Z Z)<|Zm Z<|z1p<|z1s (fun aa ww h=>Zu h [6,2,1,4,3,5])
  ·refine z27<|z19<|z1b<|Ze [] [1,2,3,4,5,6] Z
theorem zcw:∀ (N:Nat) (a0:V3) (p1_0:Value) (q1_0:Value) (c1_0:List (V3 × Int)) (p2_0:Value) (q2_0:Value) (c2_0:List Bool) (p3_0:Value) (c3_0:z01) (p4_0:Value),z23 Tryz.prog 128 [.rd aZ a0,.val (z07 p1_0 0),.val (z07 p2_0 0),.val (z07 p3_0 0),.val (z07 p4_0 0)] [(1,some (p1_0,.box 103 [.val q1_0])),(2,some (q1_0,.map aZ z0f c1_0)),(3,some (p2_0,.box 128 [.val q2_0])),(4,some (q2_0,.list z0h 4 c2_0)),(5,some (p3_0,.box 66 [.rd z04 c3_0])),(6,some (p4_0,.box 176 [.val (.func (.func 128) #[] #[z07 p1_0 0,z07 p2_0 0,z07 p3_0 0,z07 p4_0 0])]))] (z34 N a0 c1_0 c2_0 c3_0) (fun r nv=>⟨[],[(1,some (p1_0,.box 103 [.val q1_0])),(2,some (q1_0,.map aZ z0f c1_0)),(3,some (p2_0,.box 128 [.val q2_0])),(4,some (q2_0,.list z0h 4 r)),(5,some (p3_0,.box 66 [.rd z04 c3_0])),(6,some (p4_0,.box 176 [.val (.func (.func 128) #[] #[z07 p1_0 0,z07 p2_0 0,z07 p3_0 0,z07 p4_0 0])]))]⟩)
 | 0,a0,p1_0,q1_0,c1_0,p2_0,q2_0,c2_0,p3_0,c3_0,p4_0=>fun r hr=>absurd hr (by simp [z34])
 | N+1,a0,p1_0,q1_0,c1_0,p2_0,q2_0,c2_0,p3_0,c3_0,p4_0=>zj6 (z34 N) (zcw N) a0 p1_0 q1_0 c1_0 p2_0 q2_0 c2_0 p3_0 c3_0 p4_0
theorem zil (a0:V3) (p1_0:Value) (q1_0:Value) (c1_0:List (V3 × Int)) (p2_0:Value) (q2_0:Value) (c2_0:List Bool) (p3_0:Value) (c3_0:z01) (p4_0:Value):z23 Tryz.prog 128 [.rd aZ a0,.val (z07 p1_0 0),.val (z07 p2_0 0),.val (z07 p3_0 0),.val (z07 p4_0 0)] [(1,some (p1_0,.box 103 [.val q1_0])),(2,some (q1_0,.map aZ z0f c1_0)),(3,some (p2_0,.box 128 [.val q2_0])),(4,some (q2_0,.list z0h 4 c2_0)),(5,some (p3_0,.box 66 [.rd z04 c3_0])),(6,some (p4_0,.box 176 [.val (.func (.func 128) #[] #[z07 p1_0 0,z07 p2_0 0,z07 p3_0 0,z07 p4_0 0])]))] (z34 1000 a0 c1_0 c2_0 c3_0) (fun r nv=>⟨[],[(1,some (p1_0,.box 103 [.val q1_0])),(2,some (q1_0,.map aZ z0f c1_0)),(3,some (p2_0,.box 128 [.val q2_0])),(4,some (q2_0,.list z0h 4 r)),(5,some (p3_0,.box 66 [.rd z04 c3_0])),(6,some (p4_0,.box 176 [.val (.func (.func 128) #[] #[z07 p1_0 0,z07 p2_0 0,z07 p3_0 0,z07 p4_0 0])]))]⟩):=zcw 1000 a0 p1_0 q1_0 c1_0 p2_0 q2_0 c2_0 p3_0 c3_0 p4_0
def z9t (a0:z01) (a1:List V3) (r2:(List (V3 × Int))) (s11:(List Bool) × Int):Option (Sum ((List Bool)) ((List Bool) × Int)) :=
 if decide (s11.2<(a1.length:Int)) then
  idx a1 s11.2 >>= fun x13 =>
  (z34 1000) x13 r2 s11.1 a0 >>= fun r16 =>
  some (.inr (r16,w64 (s11.2+1)))
 else
  some (.inl s11.1)
def zc4 (a0:z01) (a1:List V3):Option ((List Bool)) :=
 z4w a0 >>= fun r2 =>
 mkn 1 false (a0.IDs.length:Int) >>= fun x5 =>
 (iter (z9t a0 a1 r2) (x5,0)) >>= fun s10 =>
 some s10
theorem zlv (a0:z01) (a1:List V3):z23 Tryz.prog 82 [.rd z04 a0,.rd (z02 aZ) a1] [] (zc4 a0 a1) (fun r nv=>⟨[.val (nv 0)],[(100,some (nv 0,.list z0h 4 r))]⟩):=by
 refine z2m 28 Tryz.func82 Z Z Z fun H w=>?_;refine gSR<|Eb Z (bx 1 Z) fun v1=>Zb Z<|gSR<|Zq (ld 1 Z Z fH zcv Z)<|Zc [] [(100,2)] Tryz.func77 Z (zba _) fun r2 n3=>Eb Z (z6n 3 zyo (.val Z)) fun v4=>Es (zo4 3 Z Z (.here z08) Z z12 z08 zyo)<|Zn<|gSR<|Zq (faB 1 Z Z Tryz.underlying66 Z (by exact z8j))<|Zq (ld 1 Z Z (fP (z0r _)) zbn Z)<|Zq (z3e Z .rd Z tu29)<|z0q fun x5 h6=>Ef Z (mks (R:=z0h) 4 Z Z h6 tu128 ti4 Zr.bool Z) fun v7=>Eb Z (z6n 5 z15d (.val Z)) fun v8=>Es (zo4 5 Z Z (.here z08) Z z12 z08 z15d)<|Zn<|gSR<|Eb Z (z6n 6 z1al (.val Z)) fun v9=>Zn<|gSR<|Zq (mkf mp0 (mp4 Z Z Z Z))<|Es (zo4 6 Z Z (.here z08) Z z12 z08 z1al)<|Zn<|z7x (fun (s10:(List Bool)) aa ww=>Sta (ctx 28 H [] w) [(6,.val (z07 v8 0))] [(4,some (v7,.list z0h 4 s10)),(5,some (v8,.box 128 [.val v7]))] aa ww) ?_ (fun s10=>?_)
 ·refine gSR<|Zm Z<|Zq (z3e Z .rd Z tu29)<|Zm Z<|Zn<|z29 (fun (s11:(List Bool) × Int) aa ww=>Sta (ctx 28 H [] w) [(6,.val (z07 v8 0)),(7,.val (z07 v9 0)),(17,.rd (z02 aZ) a1),(18,.rd z0f (a1.length:Int)),(19,.rd z0f s11.2)] [(4,some (v7,.list z0h 4 s11.1)),(5,some (v8,.box 128 [.val v7])),(6,some (v9,.box 176 [.val (.func (.func 128) #[] #[z07 v4 0,z07 v8 0,z07 v1 0,z07 v9 0])])),(2,some ((n3 0),.map aZ z0f r2)),(3,some (v4,.box 103 [.val (n3 0)])),(1,some (v1,.box 66 [.rd z04 a0]))] aa ww) (fun aa ww h=>Zu h [4,5,6,2,3,1]) (fun s11=>?_)
  refine gSR<|Zq (I.lss Z Z)<|Zn<|z0x<|gIf Z Z (fun h12=>?_) (fun h12=>?_)
  ·refine Zt<|z0x<|z4s<|gSR<|z0q fun x13 h14=>Zq (ixR Z Z h14 tu29 z31 Z)<|Zq (ldR Z z59)<|Eb Z (z6n 7 z31 (.zr (R:=aZ) (x:=(Vector.replicate 32 0)) zfo)) fun v15=>Es (sto 7 Z Z fH Z z31)<|Zn<|z28<|Zq (ldV 6 Z Z .here z197 Z)<|Zq (ld 7 Z Z fH z59 Z)<|zi0 [3,2,5,4,1,6] [(1,3),(2,2),(3,5),(4,4),(5,1),(6,6)] (gd0 Z) Z Z Tryz.func128 Z Z (zil _ _ _ _ _ _ _ _ _ _) (Y1 Z) (cQ 3 Z<|cQ 5 Z<|cQ 1 Z<|cQ 6 Z<|cN) (Zi Z<|Zi Z<|Zi Z<|Zi Z<|Zi Z<|Zi Z<|rN) fun r16 n17=>z1p<|z3c<|z0y<|z28<|Zq (I.add Z Z)<|Zm Z<|z1p<|z1s (fun aa ww h=>Zu h [4,5,6,2,3,1])
  ·refine z27<|z19<|z1b<|z3k (fun aa ww h=>Zu h [4,5])
 ·refine gSR<|Zq (ldV 5 Z Z .here zy3 Z)<|Zb Z<|z0n<|Ze [v7] [4] Z
def z82 (a0:z01) (r10:(List Bool)) (s12:(List V3) × (List z05) × Int):Option (Sum ((List V3) × (List z05)) ((List V3) × (List z05) × Int)) :=
 if decide (s12.2.2<(r10.length:Int)) then
  idx r10 s12.2.2 >>= fun x15 =>
  if x15 then
   idx a0.Ops s12.2.2 >>= fun x18 =>
   z15 x18.Preds >>= fun r21 =>
   idx a0.IDs s12.2.2 >>= fun x23 =>
   app 32 s12.1 [x23] >>= fun x25 =>
   app 112 s12.2.1 [(⟨x18.Author,r21,x18.Stamp,x18.Act,x18.Sig⟩:z05)] >>= fun x27 =>
   some (.inr (x25,x27,w64 (s12.2.2+1)))
  else
   some (.inr (s12.1,s12.2.1,w64 (s12.2.2+1)))
 else
  some (.inl (s12.1,s12.2.1))
def zc3 (a0:z01) (a1:List V3):Option (z01 × Int) :=
 zai a0 a1 >>= fun r3 =>
 if r3.2 != 0 then
  some ((⟨[],[]⟩:z01),r3.2)
 else
  some (decide (0<(r3.1.length:Int))) >>= fun y6 =>
  if y6 then
   some ((⟨[],[]⟩:z01),6)
  else
   (zc4 a0 a1 >>= fun r10 =>
   iter (z82 a0 r10) ([],[],0)) >>= fun s9 =>
   some ((⟨s9.1,s9.2⟩:z01),0)
set_option maxHeartbeats 4000000 in
theorem zli (a0:z01) (a1:List V3):z23 Tryz.prog 40 [.rd z04 a0,.rd (z02 aZ) a1] [zG1] (zc3 a0 a1) (fun r nv=>⟨[.rd z04 r.1,.rd z0f r.2],[(1001,some (.bool true,.glob 1 (z3i 64 z0s) z6j))]⟩):=by
 refine z2m 65 Tryz.func40 Z Z Z fun H w=>?_;refine gSR<|Eb Z (bx 1 Z) fun v1=>Eb Z (z6n 2 zde (ZrE.nilS (ZrE.nilS ZrE.nil))) fun v2=>Zb Z<|gSR<|Zq (ld 1 Z Z fH zcv Z)<|Zm Z<|Zc [1001] [(100,3)] Tryz.func81 Z (zj2 _ _) fun r3 n4=>Zm Z<|Zq (ext Z Z)<|Zq (ext Z Z)<|Za Z<|Zb Z<|z0x<|z4s<|gSR<|Zm Z<|Zq (I.neq Z Z)<|Zb Z<|gIf Z Z (fun h5=>?_) (fun h5=>?_)
 ·refine gKn 20 Z h5<|gSR<|Zq (zuc [(0,1),(1,1)] Tryz.underlying66 zde (ZrE.nilS (ZrE.nilS ZrE.nil)) Z (zi7.done Z))<|Zm Z<|Es (zpl 2 Z Z (z06.cast (z06.cons z08 (z06.cons z08 z06.nil)) Z) Z (z1e.cons z12 (z1e.cons z12 z1e.nil)) (z06.cast (z06.cons z08 (z06.cons z08 z06.nil)) Z) zde)<|Zb Z<|z0n<|z3m<|z0u<|zn8 aZ [.rd (z02 aZ) [],.val (.slice none 0 0)] 2 [] [.val (.slice none 0 0)] Z Z Z<|zn8 z03 [.rd (z02 aZ) [],.rd (z02 z03) []] 2 [.rd (z02 aZ) []] [] Z Z Z<|zxn (R:=z04) (⟨[],[]⟩:z01) 2 Z (Sp.via (Sp.prod (Sp.prod Sp.unit)))<|zbm [] [1001] Z (eC 2 Z Z zcv<|eE Z<|eN) (y1 Z)
 ·refine gKn 20 Z h5<|gSR<|Zm Z<|Zq (z3e Z (.own 3 Z) Z tu29)<|Zq (I.gtr Z Z)<|Za Z<|z24 23 Z fun y6=>Zj Z (fun h7=>?_) (fun h7=>?_)
  ·refine gSR<|Zq (zuc [(0,1),(1,1)] Tryz.underlying66 zde (ZrE.nilS (ZrE.nilS ZrE.nil)) Z (zi7.done Z))<|Es (zpl 2 Z Z (z06.cast (z06.cons z08 (z06.cons z08 z06.nil)) Z) Z (z1e.cons z12 (z1e.cons z12 z1e.nil)) (z06.cast (z06.cons z08 (z06.cons z08 z06.nil)) Z) zde)<|Zb Z<|z0n<|z3m<|z0u<|zn8 aZ [.rd (z02 aZ) [],.val (.slice none 0 0)] 2 [] [.val (.slice none 0 0)] Z Z Z<|zn8 z03 [.rd (z02 aZ) [],.rd (z02 z03) []] 2 [.rd (z02 aZ) []] [] Z Z Z<|zxn (R:=z04) (⟨[],[]⟩:z01) 2 Z (Sp.via (Sp.prod (Sp.prod Sp.unit)))<|zbm [] [1001] Z (eC 2 Z Z zcv<|eE Z<|eN) (y1 Z)
  ·refine z30<|z3c<|z0y<|gSR<|Eb Z (z6n 4 zde (ZrE.nilS (ZrE.nilS ZrE.nil))) fun v8=>Zn<|z7x (fun (s9:(List V3) × (List z05)) aa ww=>∃ nv:Nat→Value,Sta (ctx 65 H [zG1] w) [(4,.val (z07 v2 0)),(8,.val (z07 v8 0))] [(2,some (v2,.box 66 [.val (.slice none 0 0),.val (.slice none 0 0)])),(8,some ((nv 0),.list aZ 45 s9.1)),(9,some ((nv 1),.list z03 43 s9.2)),(4,some (v8,.box 66 [.val (nv 0),.val (nv 1)])),zG1] aa ww) ?_ (fun s9=>?_)
   ·refine gSR<|Zq (ld 1 Z Z fH zcv Z)<|Zm Z<|Zc [] [(100,1100)] Tryz.func82 Z (zlv _ _) fun r10 n11=>Zq (z3e Z (.own 1100 Z) Z tu128)<|Zm Z<|Zn<|zub aZ 45 1105<|zub z03 43 1106<|z29 (fun (s12:(List V3) × (List z05) × Int) aa ww=>∃ nv:Nat→Value,Sta (ctx 65 H [zG1] w) [(2,.val (z07 v1 0)),(4,.val (z07 v2 0)),(8,.val (z07 v8 0)),(30,.val (n11 0)),(31,.rd z0f (r10.length:Int)),(32,.rd z0f s12.2.2)] [(1,some (v1,.box 66 [.rd z04 a0])),(2,some (v2,.box 66 [.val (.slice none 0 0),.val (.slice none 0 0)])),(1103,some ((nv 0),.list aZ 45 s12.1)),(1104,some ((nv 1),.list z03 43 s12.2.1)),(4,some (v8,.box 66 [.val (nv 0),.val (nv 1)])),(1100,some ((n11 0),.list z0h 4 r10)),zG1] aa ww) (fun aa ww h=>⟨nvl [(.slice none 0 0),(.slice none 0 0)],Zu h [1,2,1105,1106,4,1100,1001]⟩) (fun s12=>?_)
    refine gEx fun n13=>gSR<|Zq (I.lss Z Z)<|Zn<|z0x<|gIf Z Z (fun h14=>?_) (fun h14=>?_)
    ·refine Zt<|z0x<|z4s<|gSR<|Zm Z<|z0q fun x15 h16=>Zq (ixO 1100 Z Z Z h16 tu128 ti4)<|Zq (ld 1100 Z Z (Foc.el h16) ty4 Z)<|Za Z<|Zb Z<|gSR<|Zm Z<|Zj Z (fun h17=>?_) (fun h17=>?_)
     ·refine gKn 36 Z h17<|gKn 10 Z h17<|gSR<|Zq (faB 1 Z Z Tryz.underlying66 Z (by exact zcx))<|Zq (ld 1 Z Z (fP (z0g _)) zgb Z)<|Zm Z<|z0q fun x18 h19=>Zq (ixR Z Z h19 tu22 z6h Z)<|Zq (ldR Z za3)<|Eb Z (z6n 1107 z6h (ZrE.rd (R:=z0s) (x:=0) (Zr.num Z) (ZrE.nilS (ZrE.rd (R:=z1z) (x:=0) (Zr.num Z) (ZrE.rd (R:=z0c) (x:=(⟨0,[],(⟨0,0,0,[]⟩:z00)⟩:z0b)) zlm (ZrE.rd (R:=z0e) (x:=(⟨0,0⟩:z0a)) zlc ZrE.nil Z) Z) Z)) Z)) fun v20=>zhd aZ [.rd z0s 0,.rd (z02 aZ) [],.rd z1z 0,.rd z0c (⟨0,[],(⟨0,0,0,[]⟩:z00)⟩:z0b),.rd z0e (⟨0,0⟩:z0a)] 1107 [.rd z0s 0] [.rd z1z 0,.rd z0c (⟨0,[],(⟨0,0,0,[]⟩:z00)⟩:z0b),.rd z0e (⟨0,0⟩:z0a)] Z Z Z<|zgt (R:=z03) (⟨0,[],0,(⟨0,[],(⟨0,0,0,[]⟩:z00)⟩:z0b),(⟨0,0⟩:z0a)⟩:z05) 1107 Z (Sp.via (Sp.prod (Sp.prod (Sp.prod (Sp.prod (Sp.prod Sp.unit))))))<|Es (sto 1107 Z Z fH Z z6h)<|Zn<|gSR<|Zq (faB 1107 Z Z Tryz.underlying43 Z (by exact z8j))<|Zq (ld 1107 Z Z (fP (z0z _)) zbn Z)<|Zc [] [(100,1108)] Tryz.func83 Z (z2g _) fun r21 n22=>Zq (faB 1107 Z Z Tryz.underlying43 Z (by exact z8j))<|lSpl (R:=z03) 1107 Z (Sp.via (Sp.prod (Sp.prod (Sp.prod (Sp.prod (Sp.prod Sp.unit))))))<|Es (zo4 1107 Z Z (z7f.cast (z7f.next z09 (z7f.here z09)) Z) Z z12 z08 z8j)<|Zn<|gPow [.rd z0s x18.Author,.rd (z02 aZ) r21,.rd z1z x18.Stamp,.rd z0c x18.Act,.rd z0e x18.Sig] 1107 1108 [.rd z0s x18.Author] [.rd z1z x18.Stamp,.rd z0c x18.Act,.rd z0e x18.Sig] Z Z Z Z Z<|gJoi (R:=z03) (⟨x18.Author,r21,x18.Stamp,x18.Act,x18.Sig⟩:z05) 1107 Z (Sp.via (Sp.prod (Sp.prod (Sp.prod (Sp.prod (Sp.prod Sp.unit))))))<|zxx [(2,.val (z07 v1 0)),(4,.val (z07 v2 0)),(8,.val (z07 v8 0)),(30,.val (n11 0)),(31,.rd z0f (r10.length:Int)),(32,.rd z0f s12.2.2),(9,.rd z0f s12.2.2),(11,.val (z07 v20 0))] [(1,some (v1,.box 66 [.rd z04 a0])),(2,some (v2,.box 66 [.val (.slice none 0 0),.val (.slice none 0 0)])),(1103,some ((n13 0),.list aZ 45 s12.1)),(1104,some ((n13 1),.list z03 43 s12.2.1)),(4,some (v8,.box 66 [.val (n13 0),.val (n13 1)])),(1100,some ((n11 0),.list z0h 4 r10)),zG1,(1107,some (v20,.box 43 [.rd z03 (⟨x18.Author,r21,x18.Stamp,x18.Act,x18.Sig⟩:z05)]))] [1,2,1103,1104,4,1100,1001,1107] (Zs Z Z Z Z<|Zs Z Z Z Z<|sN) (Zi Z<|Zi Z<|Zi Z<|Zi Z<|Zi Z<|Zi Z<|Zi Z<|Zi Z<|rN)<|z83 fun x23 h24=>z83 fun x25 h26=>z83 fun x27 h28=>gOr [] [⟨4,some ([], fun nv=>(v8,.box 66 [.val (n13 0),.val (n13 1)])),[(15,some ([2], fun nv=>(v8,.box 66 [.val (nv 2),.val (n13 1)]))),(17,some ([2,4], fun nv=>(v8,.box 66 [.val (nv 2),.val (nv 4)])))]⟩,⟨1,some ([], fun nv=>(v1,.box 66 [.rd z04 a0])),[]⟩,⟨1109,none,[(7,none)]⟩,⟨1103,some ([], fun nv=>((n13 0),.list aZ 45 s12.1)),[(8,some ([2], fun nv=>((nv 2),.list aZ 45 x25)))]⟩,⟨1107,some ([], fun nv=>(v20,.box 43 [.rd z03 (⟨x18.Author,r21,x18.Stamp,x18.Act,x18.Sig⟩:z05)])),[]⟩,⟨1110,none,[(12,none)]⟩,⟨1104,some ([], fun nv=>((n13 1),.list z03 43 s12.2.1)),[(13,some ([4], fun nv=>((nv 4),.list z03 43 x27)))]⟩] [pk 47 (.val (z07 v8 (0+0))) [(0,0,false)],pk 48 (.val (n13 0)) [(0,0,false)],pk 49 (.val (z07 v1 (0+0))) [(1,0,false)],pk 50 (.rd (z02 aZ) a0.IDs) [(1,0,false)],pd 51 (.rd z0f s12.2.2),pd 52 (.rp aZ x23),pd 53 (.rd aZ x23),⟨some (54,[], fun nv=>.rd (z02 aZ) [x23]),[(2,0,true)],[1],[]⟩,⟨some (55,[2], fun nv=>.val (nv 2)),[(3,0,true)],[2],[]⟩,pk 56 (.val (z07 v8 (0+1))) [(0,0,false)],pk 57 (.val (n13 1)) [(0,0,false)],pk 58 (.rd z03 (⟨x18.Author,r21,x18.Stamp,x18.Act,x18.Sig⟩:z05)) [(4,0,false)],⟨some (59,[], fun nv=>.rd (z02 z03) [(⟨x18.Author,r21,x18.Stamp,x18.Act,x18.Sig⟩:z05)]),[(5,0,true)],[3],[]⟩,⟨some (60,[4], fun nv=>.val (nv 4)),[(6,0,true)],[4],[]⟩,pk 61 (.val (z07 v8 (0+0))) [(0,0,false)],⟨none,[(0,0,true),(3,1,false)],[],[]⟩,pk 62 (.val (z07 v8 (0+1))) [(0,1,false)],⟨none,[(6,1,false),(0,1,true)],[],[]⟩] mixed (oC (oRn (fun nv E=>faB 4 Z Z Tryz.underlying66 Z (by exact z8j)))<|oC (oRn (fun nv E=>ldV 4 Z Z (At.cast At.here Z) sc29 Z))<|oC (oRn (fun nv E=>faB 1 Z Z Tryz.underlying66 Z (by exact z8j)))<|oC (oRn (fun nv E=>ld 1 Z Z (fP (z0r _)) zbn Z))<|oC (oRn (fun nv E=>mv Z))<|oC (oRn (fun nv E=>ixR Z Z h24 tu29 z31 Z))<|oC (oRn (fun nv E=>ldR Z z59))<|oC (oFz (A1:=fun nv=>[(1109,some ((nv 1),.list aZ 45 [x23]))]) 1109 1 (oEf 1109 1 (fun nv E=>lit (R:=aZ) ([x23]:List V3) 1109 (pP Z Z<|pN) Z tu29 z31 Z Z)))<|oC (oEf 1103 2 (fun nv E=>apn 1103 Z Z Z .rd h26 tu29 z31 Z Z Z))<|oC (oRn (fun nv E=>faB 4 Z Z Tryz.underlying66 Z (by exact zcx)))<|oC (oRn (fun nv E=>ldV 4 Z Z (At.cast (At.next z08 At.here) Z) sc22 Z))<|oC (oRn (fun nv E=>ld 1107 Z Z fH za3 Z))<|oC (oFz (A1:=fun nv=>[(1110,some ((nv 3),.list z03 43 [(⟨x18.Author,r21,x18.Stamp,x18.Act,x18.Sig⟩:z05)]))]) 1110 3 (oEf 1110 3 (fun nv E=>lit (R:=z03) ([(⟨x18.Author,r21,x18.Stamp,x18.Act,x18.Sig⟩:z05)]:List z05) 1110 (pP Z Z<|pN) Z tu22 z6h Z Z)))<|oC (oEf 1104 4 (fun nv E=>apn 1104 Z Z Z .rd h28 tu22 z6h Z Z Z))<|oC (oRn (fun nv E=>faB 4 Z Z Tryz.underlying66 Z (by exact z8j)))<|oC (oEs 4 (fun nv E=>zo4 4 Z Z (z7f.cast (z7f.here z08) Z) Z z12 z08 z8j))<|oC (oRn (fun nv E=>faB 4 Z Z Tryz.underlying66 Z (by exact zcx)))<|oC (oEs 4 (fun nv E=>zo4 4 Z Z (z7f.cast (z7f.next z08 (z7f.here z08)) Z) Z z12 z08 zcx))<|oN) fun n29=>z3c<|z0y<|z28<|Zq (I.add Z Z)<|Zm Z<|z1p<|z1s (fun aa ww h=>⟨nvl [(n29 2),(n29 4)],Zu h [1,2,1103,1104,4,1100,1001]⟩)
     ·refine gKn 36 Z h17<|gKn 10 Z h17<|z30<|z3c<|z0y<|z28<|Zq (I.add Z Z)<|Zm Z<|z1p<|z1s (fun aa ww h=>⟨nvl [(n13 0),(n13 1)],Zu h [1,2,1103,1104,4,1100,1001]⟩)
    ·refine z27<|z19<|z1b<|z3k (fun aa ww h=>⟨nvl [(n13 0),(n13 1)],Zu h [2,1103,1104,4,1001]⟩)
   ·refine gEx fun n30=>gSR<|lPow [.rd (z02 aZ) s9.1,.val (n30 1)] 4 8 [] [.val (n30 1)] Z Z Z Z Z<|lPow [.rd (z02 aZ) s9.1,.rd (z02 z03) s9.2] 4 9 [.rd (z02 aZ) s9.1] [] Z Z Z Z Z<|zgt (R:=z04) (⟨s9.1,s9.2⟩:z01) 4 Z (Sp.via (Sp.prod (Sp.prod Sp.unit)))<|Zq (ld 4 Z Z fH zcv Z)<|zhd aZ [.rd (z02 aZ) [],.val (.slice none 0 0)] 2 [] [.val (.slice none 0 0)] Z Z Z<|zhd z03 [.rd (z02 aZ) [],.rd (z02 z03) []] 2 [.rd (z02 aZ) []] [] Z Z Z<|zgt (R:=z04) (⟨[],[]⟩:z01) 2 Z (Sp.via (Sp.prod (Sp.prod Sp.unit)))<|Es (sto 2 Z Z fH Z zde)<|Zb Z<|z0n<|zbm [] [1001] Z (eC 2 Z Z zcv<|eE Z<|eN) (y1 Z)
def z6w (a0:List V3) (a1:List V3) (s3:Int):Option (Sum (Sum Bool Unit) Int) :=
 if decide (s3<(a0.length:Int)) then
  idx a0 s3 >>= fun x5 =>
  idx a1 s3 >>= fun x7 =>
  if !decide (x5=x7) then
   some (.inl (.inl false))
  else
   some (.inr (w64 (s3+1)))
 else
  some (.inl (.inr ()))
def z78 (a0:List V3) (a1:List V3):Option (Bool) :=
 if (a0.length:Int) != (a1.length:Int) then
  some false
 else
  z4y (iter (z6w a0 a1) 0) fun s2 =>
  some true
theorem zci (a0:List V3) (a1:List V3):z23 Tryz.prog 27 [.rd (z02 aZ) a0,.rd (z02 aZ) a1] [] (z78 a0 a1) (fun r nv=>⟨[.rd z0h r],[]⟩):=by
 refine z2m 26 Tryz.func27 Z Z Z fun H w=>?_;refine gSR<|Zb Z<|z0x<|gSR<|Zm Z<|Zq (z3e Z .rd Z tu29)<|Zm Z<|Zq (z3e Z .rd Z tu29)<|Zq (I.neq Z Z)<|Zj Z (fun h1=>?_) (fun h1=>?_)
 ·refine gSR<|Zb Z<|z0n<|z0u<|Ze [] [] Z
 ·refine Zt<|z7c (fun (s2:Unit) aa ww=>Sta (ctx 26 H [] w) [] [] aa ww) ?_ (fun s2=>?_)
  ·refine gSR<|Zb Z<|z29 (fun (s3:Int) aa ww=>Sta (ctx 26 H [] w) [(0,.rd (z02 aZ) a0),(1,.rd (z02 aZ) a1),(5,.rd z0f s3)] [] aa ww) (fun aa ww h=>Zu h []) (fun s3=>?_);refine z0x<|gSR<|Zm Z<|Zm Z<|Zq (z3e Z .rd Z tu29)<|Zq (I.lss Z Z)<|Zj Z (fun h4=>?_) (fun h4=>?_)
   ·refine Zt<|z0x<|z4s<|z0x<|zix mixed (by kernel_rfl)<|Rq Z (mv Z)<|Rq Z (mv Z)<|z8n fun x5 h6=>Rq Z (ixR Z Z h6 tu29 z31 Z)<|Rq Z (ldR Z z59)<|Rq Z (mv Z)<|Rq Z (mv Z)<|z8n fun x7 h8=>Rq Z (ixR Z Z h8 tu29 z31 Z)<|Rq Z (ldR Z z59)<|Rq Z (neA Z Z eq45 Z Z gq45)<|zvk<|z0y<|gIf Z Z (fun h9=>?_) (fun h9=>?_)
    ·refine gSR<|Zb Z<|z0n<|z3m<|z0u<|z6c<|z58<|Ze [] [] Z
    ·refine z30<|z3c<|z0y<|z28<|Zm Z<|Zq (I.add Z Z)<|Za Z<|z1p<|z1s (fun aa ww h=>Zu h [])
   ·refine z27<|z19<|z1b<|z5q (fun aa ww h=>Zu h [])
  ·refine gSR<|Zb Z<|z0n<|Ze [] [] Z
def zb3 (a0:z05) (a1:z05):Option (Bool) :=
 if a0.Author==a1.Author then
  z78 a0.Preds a1.Preds >>= fun r4 =>
  if r4 then
   if a0.Stamp==a1.Stamp then
    if decide (a0.Act=a1.Act) then
     some (decide (a0.Sig=a1.Sig)) >>= fun y9 =>
     some y9
    else
     some false
   else
    some false
  else
   some false
 else
  some false
theorem zjm (a0:z05) (a1:z05):z23 Tryz.prog 62 [.rd z03 a0,.rd z03 a1] [] (zb3 a0 a1) (fun r nv=>⟨[.rd z0h r],[]⟩):=by
 refine z2m 38 Tryz.func62 Z Z Z fun H w=>?_;refine gSR<|Eb Z (bx 1 Z) fun v1=>Eb Z (bx 2 Z) fun v2=>Zb Z<|gSR<|Zq (faB 1 Z Z Tryz.underlying43 Z (by exact z5u))<|Zq (ld 1 Z Z (fP (z4f _)) z9k Z)<|Zq (faB 2 Z Z Tryz.underlying43 Z (by exact z5u))<|Zq (ld 2 Z Z (fP (z4f _)) z9k Z)<|Zq (W.eql Z Z)<|Zm Z<|z1h 10 Z (fun h3=>?_) (fun h3=>?_)
 ·refine lKn 9 Z h3<|z13 Zx Z Z (faB 1 Z Z Tryz.underlying43 Z (by exact z8j))<|z13 Zx Z Z (ld 1 Z Z (fP (z0z _)) zbn Z)<|z13 Zx Z Z (faB 2 Z Z Tryz.underlying43 Z (by exact z8j))<|z13 Zx Z Z (ld 2 Z Z (fP (z0z _)) zbn Z)<|zd3 [] [] Zx Z Tryz.func27 Z Z (zci _ _) (Y2 Z Z) rN fun r4 n5=>Zq (pkT Z Z)<|Zm Z<|z1h 17 Z (fun h6=>?_) (fun h6=>?_)
  ·refine lKn 15 Z h6<|lKn 16 Z h6<|z13 Zx Z Z (faB 1 Z Z Tryz.underlying43 Z (by exact zrn))<|z13 Zx Z Z (ld 1 Z Z (fP (z7u _)) zux Z)<|z13 Zx Z Z (faB 2 Z Z Tryz.underlying43 Z (by exact zrn))<|z13 Zx Z Z (ld 2 Z Z (fP (z7u _)) zux Z)<|z13 Zx Z Z (U.eql Z Z)<|Zq (pkT Z Z)<|Zm Z<|z1h 24 Z (fun h7=>?_) (fun h7=>?_)
   ·refine lKn 22 Z h7<|lKn 23 Z h7<|z13 Zx Z Z (faB 1 Z Z Tryz.underlying43 Z (by exact zn7))<|z13 Zx Z Z (ld 1 Z Z (fP (z2p _)) ty39 Z)<|z13 Zx Z Z (faB 2 Z Z Tryz.underlying43 Z (by exact zn7))<|z13 Zx Z Z (ld 2 Z Z (fP (z2p _)) ty39 Z)<|z13 Zx Z Z (eqA Z Z eq39 Z Z gq39)<|Zq (pkT Z Z)<|Zm Z<|z1h 31 Z (fun h8=>?_) (fun h8=>?_)
    ·refine lKn 29 Z h8<|lKn 30 Z h8<|z13 Zx Z Z (faB 1 Z Z Tryz.underlying43 Z (by exact zqy))<|z13 Zx Z Z (ld 1 Z Z (fP (z3l _)) ty41 Z)<|z13 Zx Z Z (faB 2 Z Z Tryz.underlying43 Z (by exact zqy))<|z13 Zx Z Z (ld 2 Z Z (fP (z3l _)) ty41 Z)<|z13 Zx Z Z (eqA Z Z eq41 Z Z gq41)<|Zq (pkT Z Z)<|Za Z<|z24 4 Z fun y9=>Zn<|z0n<|Ze [] [] Z
    ·refine lKn 29 Z h8<|lKn 30 Z h8<|Zk Z<|Zk Z<|Zk Z<|Zk Z<|Zk Z<|Zq (pkF Z Z)<|Zb Z<|z0n<|Ze [] [] Z
   ·refine lKn 22 Z h7<|lKn 23 Z h7<|Zk Z<|Zk Z<|Zk Z<|Zk Z<|Zk Z<|Zq (pkF Z Z)<|Zm Z<|Zk Z<|Zk Z<|Zk Z<|Zk Z<|Zk Z<|Zq (pkF Z Z)<|Zb Z<|z0n<|Ze [] [] Z
  ·refine lKn 15 Z h6<|lKn 16 Z h6<|Zk Z<|Zk Z<|Zk Z<|Zk Z<|Zk Z<|Zq (pkF Z Z)<|Zm Z<|Zk Z<|Zk Z<|Zk Z<|Zk Z<|Zk Z<|Zq (pkF Z Z)<|Zm Z<|Zk Z<|Zk Z<|Zk Z<|Zk Z<|Zk Z<|Zq (pkF Z Z)<|Zb Z<|z0n<|Ze [] [] Z
 ·refine lKn 9 Z h3<|Zk Z<|Zk Z<|Zk Z<|Zk Z<|Zk Z<|Zq (pkF Z Z)<|Zm Z<|Zk Z<|Zk Z<|Zk Z<|Zk Z<|Zk Z<|Zq (pkF Z Z)<|Zm Z<|Zk Z<|Zk Z<|Zk Z<|Zk Z<|Zk Z<|Zq (pkF Z Z)<|Zm Z<|Zk Z<|Zk Z<|Zk Z<|Zk Z<|Zk Z<|Zq (pkF Z Z)<|Zb Z<|z0n<|Ze [] [] Z
def z91 (a0:z01) (a1:z01) (s8:Int):Option (Sum (Sum Bool Unit) Int) :=
 if decide (s8<(a0.Ops.length:Int)) then
  idx a0.Ops s8 >>= fun x10 =>
  idx a1.Ops s8 >>= fun x12 =>
  zb3 x10 x12 >>= fun r14 =>
  if !r14 then
   some (.inl (.inl false))
  else
   some (.inr (w64 (s8+1)))
 else
  some (.inl (.inr ()))
def z95 (a0:z01) (a1:z01):Option (Bool) :=
 z78 a0.IDs a1.IDs >>= fun r3 =>
 if !r3 then
  some false
 else
  if (a0.Ops.length:Int) != (a1.Ops.length:Int) then
   some false
  else
   z4y (iter (z91 a0 a1) 0) fun s7 =>
   some true
theorem zec (a0:z01) (a1:z01):z23 Tryz.prog 39 [.rd z04 a0,.rd z04 a1] [] (z95 a0 a1) (fun r nv=>⟨[.rd z0h r],[]⟩):=by
 refine z2m 40 Tryz.func39 Z Z Z fun H w=>?_;refine gSR<|Eb Z (bx 1 Z) fun v1=>Eb Z (bx 2 Z) fun v2=>Zb Z<|z0x<|gSR<|Zq (faB 1 Z Z Tryz.underlying66 Z (by exact z8j))<|Zq (ld 1 Z Z (fP (z0r _)) zbn Z)<|Zq (faB 2 Z Z Tryz.underlying66 Z (by exact z8j))<|Zq (ld 2 Z Z (fP (z0r _)) zbn Z)<|Zc [] [] Tryz.func27 Z (zci _ _) fun r3 n4=>Zq (zds Z)<|Zm Z<|z1h 12 Z (fun h5=>?_) (fun h5=>?_)
 ·refine lKn 11 Z h5<|Zk Z<|Zk Z<|Zk Z<|Zk Z<|Zk Z<|Zk Z<|Zk Z<|Zq (pkT Z Z)<|Zn<|zes Z<|gSR<|Zb Z<|z0n<|z0u<|Ze [] [] Z
 ·refine lKn 11 Z h5<|z13 Zx Z Z (faB 1 Z Z Tryz.underlying66 Z (by exact zcx))<|z13 Zx Z Z (ld 1 Z Z (fP (z0g _)) zgb Z)<|z13 Zx Z Z (z3e Z .rd Z tu22)<|z13 Zx Z Z (faB 2 Z Z Tryz.underlying66 Z (by exact zcx))<|z13 Zx Z Z (ld 2 Z Z (fP (z0g _)) zgb Z)<|z13 Zx Z Z (z3e Z .rd Z tu22)<|z13 Zx Z Z (I.neq Z Z)<|Zq (pkF Z Z)<|Zj Z (fun h6=>?_) (fun h6=>?_)
  ·refine gKn 19 Z h6<|gSR<|Zb Z<|z0n<|z0u<|Ze [] [] Z
  ·refine gKn 19 Z h6<|Zt<|z7c (fun (s7:Unit) aa ww=>Sta (ctx 40 H [] w) [] [] aa ww) ?_ (fun s7=>?_)
   ·refine gSR<|Zb Z<|z29 (fun (s8:Int) aa ww=>Sta (ctx 40 H [] w) [(2,.val (z07 v1 0)),(3,.val (z07 v2 0)),(5,.rd z0f s8)] [(1,some (v1,.box 66 [.rd z04 a0])),(2,some (v2,.box 66 [.rd z04 a1]))] aa ww) (fun aa ww h=>Zu h [1,2]) (fun s8=>?_);refine z0x<|gSR<|Zm Z<|Zq (faB 1 Z Z Tryz.underlying66 Z (by exact zcx))<|Zq (ld 1 Z Z (fP (z0g _)) zgb Z)<|Zq (z3e Z .rd Z tu22)<|Zq (I.lss Z Z)<|Zj Z (fun h9=>?_) (fun h9=>?_)
    ·refine Zt<|z0x<|z4s<|z0x<|z9u [] mixed Z Z<|hTk 0 Z Z (faB 1 Z Z Tryz.underlying66 Z (by exact zcx))<|hTk 1 Z Z (ld 1 Z Z (fP (z0g _)) zgb Z)<|hTk 2 Z Z (mv Z)<|z5n fun x10 h11=>hTk 3 Z Z (ixR Z Z h11 tu22 z6h Z)<|hTk 4 Z Z (ldR Z za3)<|hTk 5 Z Z (faB 2 Z Z Tryz.underlying66 Z (by exact zcx))<|hTk 6 Z Z (ld 2 Z Z (fP (z0g _)) zgb Z)<|hTk 7 Z Z (mv Z)<|z5n fun x12 h13=>hTk 8 Z Z (ixR Z Z h13 tu22 z6h Z)<|hTk 9 Z Z (ldR Z za3)<|z5t 10 [] [] Z (by kernel_rfl) Z (gd0 Z) Z Tryz.func62 Z Z (zjm _ _) (Y2 Z Z) rN Z (fun _ _=>zdo) fun r14 n15=>hTk 11 Z Z (zds Z)<|z6e (by kernel_rfl)<|z0y<|gIf Z Z (fun h16=>?_) (fun h16=>?_)
     ·refine gSR<|Zb Z<|z0n<|z3m<|z0u<|z6c<|z58<|Ze [] [] Z
     ·refine z30<|z3c<|z0y<|z28<|Zm Z<|Zq (I.add Z Z)<|Za Z<|z1p<|z1s (fun aa ww h=>Zu h [1,2])
    ·refine z27<|z19<|z1b<|z5q (fun aa ww h=>Zu h [])
   ·refine gSR<|Zb Z<|z0n<|Ze [] [] Z
def z6q (a0:z05):Option (Bool) :=
 if decide (20<(a0.Preds.length:Int)) then
  some true
 else
  if decide (100<(a0.Act.Key.length:Int)) then
   some true
  else
   some (decide (100<(a0.Act.Value.Text.length:Int))) >>= fun y4 =>
   some y4
theorem ziy (a0:z05):z23 Tryz.prog 67 [.rd z03 a0] [] (z6q a0) (fun r nv=>⟨[.rd z0h r],[]⟩):=by
 refine z2m 22 Tryz.func67 Z Z Z fun H w=>?_;refine gSR<|Eb Z (bx 1 Z) fun v1=>Zb Z<|gSR<|Zq (faB 1 Z Z Tryz.underlying43 Z (by exact z8j))<|Zq (ld 1 Z Z (fP (z0z _)) zbn Z)<|Zq (z3e Z .rd Z tu29)<|Zq (I.gtr Z Z)<|Zm Z<|z1h 7 Z (fun h2=>?_) (fun h2=>?_)
 ·refine lKn 6 Z h2<|Zk Z<|Zk Z<|Zk Z<|Zk Z<|Zk Z<|Zq (pkT Z Z)<|Zm Z<|Zk Z<|Zk Z<|Zk Z<|Zk Z<|Zk Z<|Zk Z<|Zq (pkT Z Z)<|Zb Z<|z0n<|Ze [] [] Z
 ·refine lKn 6 Z h2<|z13 Zx Z Z (faB 1 Z Z Tryz.underlying43 Z (by exact zn7))<|z13 Zx Z Z (faB 1 Z Z Tryz.underlying39 Z (by exact ti9))<|z13 Zx Z Z (ld 1 Z Z ((fP (z2p _)).part (z43 _)) ty9 Z)<|z13 Zx Z Z (lenT Z Z tu9)<|z13 Zx Z Z (I.gtr Z Z)<|Zq (pkF Z Z)<|Zm Z<|z1h 14 Z (fun h3=>?_) (fun h3=>?_)
  ·refine lKn 12 Z h3<|lKn 13 Z h3<|Zk Z<|Zk Z<|Zk Z<|Zk Z<|Zk Z<|Zk Z<|Zq (pkT Z Z)<|Zb Z<|z0n<|Ze [] [] Z
  ·refine lKn 12 Z h3<|lKn 13 Z h3<|z13 Zx Z Z (faB 1 Z Z Tryz.underlying43 Z (by exact zn7))<|z13 Zx Z Z (faB 1 Z Z Tryz.underlying39 Z (by exact zel))<|z13 Zx Z Z (faB 1 Z Z Tryz.underlying37 Z (by exact ti9))<|z13 Zx Z Z (ld 1 Z Z (((fP (z2p _)).part (z4g _)).part (z3a _)) ty9 Z)<|z13 Zx Z Z (lenT Z Z tu9)<|z13 Zx Z Z (I.gtr Z Z)<|Zq (pkF Z Z)<|Za Z<|z24 2 Z fun y4=>Zn<|z0n<|Ze [] [] Z
def z4o (a0:z01) (s3:Int):Option (Sum (Sum Bool Unit) Int) :=
 if decide (s3<(a0.Ops.length:Int)) then
  if decide (s3≤70) then
   idx a0.Ops s3 >>= fun x6 =>
   z6q x6 >>= fun r8 =>
   if r8 then
    some (.inl (.inl true))
   else
    some (.inr (w64 (s3+1)))
  else
   some (.inl (.inr ()))
 else
  some (.inl (.inr ()))
def zaf (a0:z01):Option (Bool) :=
 z4y (iter (z4o a0) 0) fun s2 =>
 if decide (16<(a0.Ops.length:Int)) then
  if decide ((a0.Ops.length:Int)≤60) then
   some true
  else
   if decide (70<(a0.Ops.length:Int)) then
    some true
   else
    some (decide (70<(a0.IDs.length:Int))) >>= fun y14 =>
    some y14
 else
  if decide (70<(a0.Ops.length:Int)) then
   some true
  else
   some (decide (70<(a0.IDs.length:Int))) >>= fun y16 =>
   some y16
theorem zit (a0:z01):z23 Tryz.prog 29 [.rd z04 a0] [] (zaf a0) (fun r nv=>⟨[.rd z0h r],[]⟩):=by
 refine z2m 43 Tryz.func29 Z Z Z fun H w=>?_;refine gSR<|Eb Z (bx 1 Z) fun v1=>Zb Z<|z7c (fun (s2:Unit) aa ww=>Sta (ctx 43 H [] w) [(1,.val (z07 v1 0))] [(1,some (v1,.box 66 [.rd z04 a0]))] aa ww) ?_ (fun s2=>?_)
 ·refine gSR<|Zb Z<|z29 (fun (s3:Int) aa ww=>Sta (ctx 43 H [] w) [(1,.val (z07 v1 0)),(3,.rd z0f s3)] [(1,some (v1,.box 66 [.rd z04 a0]))] aa ww) (fun aa ww h=>Zu h [1]) (fun s3=>?_);refine z0x<|gSR<|Zm Z<|Zq (faB 1 Z Z Tryz.underlying66 Z (by exact zcx))<|Zq (ld 1 Z Z (fP (z0g _)) zgb Z)<|Zq (z3e Z .rd Z tu22)<|Zq (I.lss Z Z)<|Zm Z<|z1h 9 Z (fun h4=>?_) (fun h4=>?_)
  ·refine lKn 8 Z h4<|z13 Zx Z Z (mv Z)<|z13 Zx Z Z (I.leq Z Z)<|Zq (pkT Z Z)<|Zj Z (fun h5=>?_) (fun h5=>?_)
   ·refine gKn 11 Z h5<|Zt<|z0x<|z4s<|gSR<|Zq (faB 1 Z Z Tryz.underlying66 Z (by exact zcx))<|Zq (ld 1 Z Z (fP (z0g _)) zgb Z)<|Zm Z<|z0q fun x6 h7=>Zq (ixR Z Z h7 tu22 z6h Z)<|Zq (ldR Z za3)<|Zc [] [] Tryz.func67 Z (ziy _) fun r8 n9=>Zj Z (fun h10=>?_) (fun h10=>?_)
    ·refine gSR<|Zb Z<|z0n<|z3m<|z0u<|z6c<|z58<|Ze [] [] Z
    ·refine z30<|z3c<|z0y<|z28<|Zm Z<|Zq (I.add Z Z)<|Za Z<|z1p<|z1s (fun aa ww h=>Zu h [1])
   ·refine gKn 11 Z h5<|z27<|z19<|z1b<|z5q (fun aa ww h=>Zu h [1])
  ·refine lKn 8 Z h4<|Zk Z<|Zk Z<|Zq (pkF Z Z)<|Zn<|zgc Z<|z27<|z19<|z1b<|z5q (fun aa ww h=>Zu h [1])
 ·refine gSR<|Zq (faB 1 Z Z Tryz.underlying66 Z (by exact zcx))<|Zq (ld 1 Z Z (fP (z0g _)) zgb Z)<|Zq (z3e Z .rd Z tu22)<|Zq (I.gtr Z Z)<|Zm Z<|z1h 25 Z (fun h11=>?_) (fun h11=>?_)
  ·refine lKn 24 Z h11<|z13 Zx Z Z (faB 1 Z Z Tryz.underlying66 Z (by exact zcx))<|z13 Zx Z Z (ld 1 Z Z (fP (z0g _)) zgb Z)<|z13 Zx Z Z (z3e Z .rd Z tu22)<|z13 Zx Z Z (I.leq Z Z)<|Zq (pkT Z Z)<|Zm Z<|z1h 31 Z (fun h12=>?_) (fun h12=>?_)
   ·refine lKn 29 Z h12<|lKn 30 Z h12<|Zk Z<|Zk Z<|Zk Z<|Zk Z<|Zq (pkT Z Z)<|Zm Z<|Zk Z<|Zk Z<|Zk Z<|Zk Z<|Zq (pkT Z Z)<|Zb Z<|z0n<|Ze [] [] Z
   ·refine lKn 29 Z h12<|lKn 30 Z h12<|z13 Zx Z Z (faB 1 Z Z Tryz.underlying66 Z (by exact zcx))<|z13 Zx Z Z (ld 1 Z Z (fP (z0g _)) zgb Z)<|z13 Zx Z Z (z3e Z .rd Z tu22)<|z13 Zx Z Z (I.gtr Z Z)<|Zq (pkF Z Z)<|Zm Z<|z1h 37 Z (fun h13=>?_) (fun h13=>?_)
    ·refine lKn 35 Z h13<|lKn 36 Z h13<|Zk Z<|Zk Z<|Zk Z<|Zk Z<|Zq (pkT Z Z)<|Zb Z<|z0n<|Ze [] [] Z
    ·refine lKn 35 Z h13<|lKn 36 Z h13<|z13 Zx Z Z (faB 1 Z Z Tryz.underlying66 Z (by exact z8j))<|z13 Zx Z Z (ld 1 Z Z (fP (z0r _)) zbn Z)<|z13 Zx Z Z (z3e Z .rd Z tu29)<|z13 Zx Z Z (I.gtr Z Z)<|Zq (pkF Z Z)<|Za Z<|z24 2 Z fun y14=>Zn<|z0n<|Ze [] [] Z
  ·refine lKn 24 Z h11<|Zk Z<|Zk Z<|Zk Z<|Zk Z<|Zq (pkF Z Z)<|Zm Z<|z13 Zx Z Z (faB 1 Z Z Tryz.underlying66 Z (by exact zcx))<|z13 Zx Z Z (ld 1 Z Z (fP (z0g _)) zgb Z)<|z13 Zx Z Z (z3e Z .rd Z tu22)<|z13 Zx Z Z (I.gtr Z Z)<|Zq (pkF Z Z)<|Zm Z<|z1h 37 Z (fun h15=>?_) (fun h15=>?_)
   ·refine lKn 35 Z h15<|lKn 36 Z h15<|Zk Z<|Zk Z<|Zk Z<|Zk Z<|Zq (pkT Z Z)<|Zb Z<|z0n<|Ze [] [] Z
   ·refine lKn 35 Z h15<|lKn 36 Z h15<|z13 Zx Z Z (faB 1 Z Z Tryz.underlying66 Z (by exact z8j))<|z13 Zx Z Z (ld 1 Z Z (fP (z0r _)) zbn Z)<|z13 Zx Z Z (z3e Z .rd Z tu29)<|z13 Zx Z Z (I.gtr Z Z)<|Zq (pkF Z Z)<|Za Z<|z24 2 Z fun y16=>Zn<|z0n<|Ze [] [] Z
def z4e (a0:List V3) (s2:(List V3) × Int) (s6:Int):Option (Sum Int Int) :=
 if decide (s6<(s2.1.length:Int)) then
  idx s2.1 s6 >>= fun x8 =>
  idx a0 s2.2 >>= fun x10 =>
  z8u x8 x10 >>= fun r12 =>
  if decide (r12<0) then
   some (.inr (w64 (s6+1)))
  else
   some (.inl s6)
 else
  some (.inl s6)
def z5h (a0:List V3) (s2:(List V3) × Int):Option (Sum ((List V3)) ((List V3) × Int)) :=
 if decide (s2.2<(a0.length:Int)) then
  (iter (z4e a0 s2) 0) >>= fun s5 =>
  (if s5==(s2.1.length:Int) then
   some true
  else
   idx s2.1 s5 >>= fun x17 =>
   idx a0 s2.2 >>= fun x19 =>
   some (!decide (x17=x19))) >>= fun s15 =>
  if s15 then
   cut s2.1 0 s5 >>= fun x22 =>
   idx a0 s2.2 >>= fun x24 =>
   cut s2.1 s5 (s2.1.length:Int) >>= fun x26 =>
   app 32 ([]:List V3) x22 >>= fun x29 =>
   app 32 x29 [x24] >>= fun x33 =>
   app 32 x33 x26 >>= fun x36 =>
   some (w64 (s2.2+1)) >>= fun y39 =>
   some (.inr (x36,y39))
  else
   some (w64 (s2.2+1)) >>= fun y63 =>
   some (.inr (s2.1,y63))
 else
  some (.inl s2.1)
def zc1 (a0:List V3):Option ((List V3)) :=
 (iter (z5h a0) ([],0)) >>= fun s1 =>
 some s1
def z7n (a0:List V3) (a1:List V3) (s2:(List V3) × Int):Option (Sum ((List V3)) ((List V3) × Int)) :=
 if decide (s2.2<(a1.length:Int)) then
  idx a1 s2.2 >>= fun x5 =>
  z5p a0 x5 >>= fun r7 =>
  if decide (r7<0) then
   idx a1 s2.2 >>= fun x10 =>
   app 32 s2.1 [x10] >>= fun x13 =>
   some (w64 (s2.2+1)) >>= fun y16 =>
   some (.inr (x13,y16))
  else
   some (w64 (s2.2+1)) >>= fun y17 =>
   some (.inr (s2.1,y17))
 else
  some (.inl s2.1)
def zew (a0:List V3) (a1:List V3):Option ((List V3)) :=
 (iter (z7n a0 a1) ([],0)) >>= fun s1 =>
 zc1 s1 >>= fun r19 =>
 some r19
end
section
open Go Go.Shelf
def zxp:Go.Shelf.Ren:=⟨fun | 6=>87 | 15=>94 | 14=>130 | 28=>139 | 29=>105 | 20=>172 | 21=>173 | 22=>174 | 23=>175 | 24=>176 | 25=>177 | 26=>178 | 27=>179 | 46=>210 | 47=>181 | 48=>182 | 49=>211 | 50=>212 | 57=>231 | n=>n, fun | 22=>88 | 24=>94 | 25=>137 | 3=>3 | 39=>143 | 0=>0 | 53=>34 | 55=>35 | 4=>4 | 46=>181 | 45=>180 | 50=>106 | 5=>5 | 9=>9 | 66=>225 | 70=>229 | 76=>260 | 77=>261 | n=>n, fun | n=>n⟩
theorem z16e:Go.Proofs.SlLaysF0.n6 Tryz.prog zxp:={
 mixed:=by kernel_rfl
 f6:=⟨Tryz.f87.name, by decide,Tryz.func87.trans (congrArg some (by kernel_rfl))⟩
 f14:=⟨Tryz.f130.name, by decide,Tryz.func130.trans (congrArg some (by kernel_rfl))⟩
 f15:=Tryz.func94.trans (congrArg some (by kernel_rfl))
 f20:=⟨Tryz.f172.name, by decide,Tryz.func172.trans (congrArg some (by kernel_rfl))⟩
 f21:=⟨Tryz.f173.name, by decide,Tryz.func173.trans (congrArg some (by kernel_rfl))⟩
 f22:=⟨Tryz.f174.name, by decide,Tryz.func174.trans (congrArg some (by kernel_rfl))⟩
 f23:=⟨Tryz.f175.name, by decide,Tryz.func175.trans (congrArg some (by kernel_rfl))⟩
 f24:=⟨Tryz.f176.name, by decide,Tryz.func176.trans (congrArg some (by kernel_rfl))⟩
 f25:=⟨Tryz.f177.name, by decide,Tryz.func177.trans (congrArg some (by kernel_rfl))⟩
 f26:=⟨Tryz.f178.name, by decide,Tryz.func178.trans (congrArg some (by kernel_rfl))⟩
 f27:=⟨Tryz.f179.name, by decide,Tryz.func179.trans (congrArg some (by kernel_rfl))⟩
 f28:=Tryz.func139.trans (congrArg some (by kernel_rfl))
 f29:=Tryz.func105.trans (congrArg some (by kernel_rfl))
 f46:=⟨Tryz.f210.name, by decide,Tryz.func210.trans (congrArg some (by kernel_rfl))⟩
 f47:=Tryz.func181.trans (congrArg some (by kernel_rfl))
 f48:=Tryz.func182.trans (congrArg some (by kernel_rfl))
 f49:=⟨Tryz.f211.name, by decide,Tryz.func211.trans (congrArg some (by kernel_rfl))⟩
 f50:=⟨Tryz.f212.name, by decide,Tryz.func212.trans (congrArg some (by kernel_rfl))⟩
 f57:=⟨Tryz.f231.name, by decide,Tryz.func231.trans (congrArg some (by kernel_rfl))⟩
 t0:=Tryz.underlying0
 a0:=Tryz.isAgg0
 z0:=Tryz.sizeOf0
 v0:=Tryz.zeroValue0
 t3:=Tryz.underlying3
 a3:=Tryz.isAgg3
 z3:=Tryz.sizeOf3
 v3:=Tryz.zeroValue3
 t4:=Tryz.underlying4
 a4:=Tryz.isAgg4
 z4:=Tryz.sizeOf4
 v4:=Tryz.zeroValue4
 t5:=Tryz.underlying5
 a5:=Tryz.isAgg5
 z5:=Tryz.sizeOf5
 v5:=Tryz.zeroValue5
 t9:=Tryz.underlying9
 a9:=Tryz.isAgg9
 z9:=Tryz.sizeOf9
 v9:=Tryz.zeroValue9
 t22:=Tryz.underlying88
 a22:=Tryz.isAgg88
 z22:=Tryz.sizeOf88
 v22:=Tryz.zeroValue88
 t25:=Tryz.underlying137
 a25:=Tryz.isAgg137
 z25:=Tryz.sizeOf137
 v25:=Tryz.zeroValue137
 t39:=Tryz.underlying143
 a39:=Tryz.isAgg143
 z39:=Tryz.sizeOf143
 v39:=Tryz.zeroValue143
 t45:=Tryz.underlying180
 a45:=Tryz.isAgg180
 z45:=Tryz.sizeOf180
 v45:=Tryz.zeroValue180
 t46:=Tryz.underlying181
 a46:=Tryz.isAgg181
 z46:=Tryz.sizeOf181
 v46:=Tryz.zeroValue181
 t50:=Tryz.underlying106
 a50:=Tryz.isAgg106
 z50:=Tryz.sizeOf106
 v50:=Tryz.zeroValue106
 t53:=Tryz.underlying34
 a53:=Tryz.isAgg34
 z53:=Tryz.sizeOf34
 v53:=Tryz.zeroValue34
 t55:=Tryz.underlying35
 a55:=Tryz.isAgg35
 z55:=Tryz.sizeOf35
 v55:=Tryz.zeroValue35
 t66:=Tryz.underlying225
 a66:=Tryz.isAgg225
 z66:=Tryz.sizeOf225
 v66:=Tryz.zeroValue225
 t70:=Tryz.underlying229
 a70:=Tryz.isAgg229
 z70:=Tryz.sizeOf229
 v70:=Tryz.zeroValue229
 t76:=Tryz.underlying260
 a76:=Tryz.isAgg260
 z76:=Tryz.sizeOf260
 v76:=Tryz.zeroValue260
 t77:=Tryz.underlying261
 a77:=Tryz.isAgg261
 z77:=Tryz.sizeOf261
 v77:=Tryz.zeroValue261 }
end
section
open Go Go.Shelf Go.RowKit Go.Sort
section
variable {α:Type} (x0:α) (cf:α→α→Int)
def ltI (l:List α) (i j:Nat):Int:=cf (l.getD i x0) (l.getD j x0)
def srtG (l:List α):List α:=(pdq (ltOf (ltI x0 cf l)) (Array.range l.length) 0 l.length (Lib.bitLen l.length) true true).toList.map fun i=>l.getD i x0
theorem swoI (hO:SWO (ltOf cf)) (l:List α):SWO (ltOf (ltI x0 cf l)) where
 irrefl x:=hO.irrefl _
 trans x y z h1 h2:=hO.trans _ _ _ h1 h2
 ntrans x y z h1 h2:=hO.ntrans _ _ _ h1 h2
theorem pdqI (hO:SWO (ltOf cf)) (l:List α):∃ d:List Nat,d.Perm (List.range l.length)∧srtG x0 cf l=d.map (fun i=>l.getD i x0)∧d.Pairwise fun i j=>¬ cf (l.getD j x0) (l.getD i x0)<0:=by
 have h:=pdq_sorts (ltOf (ltI x0 cf l)) (swoI x0 cf hO l) (Array.range l.length) 0 l.length (Lib.bitLen l.length) true true (Nat.zero_le _) (by simp) (Or.inl rfl);have hs:(pdq (ltOf (ltI x0 cf l)) (Array.range l.length) 0 l.length (Lib.bitLen l.length) true true).size=l.length:=by rw [h.1.1]; simp
 refine ⟨_,?_,rfl,?_⟩
 ·have p:=h.1.2.2;rw [Array.extract_eq_self_of_le (by omega),Array.extract_eq_self_of_le (by simp)] at p
  simpa using p
 ·rw [List.pairwise_iff_getElem];intro i j hi hj hij;have q:=h.2 i j (Nat.zero_le _) hij (by simpa [hs] using hj);rw [getElem!_pos _ i (by simpa using hi),getElem!_pos _ j (by simpa using hj)] at q
  simpa [ltOf,ltI] using q
theorem zs8 (hO:SWO (ltOf cf)) (l:List α):(srtG x0 cf l).Perm l:=by
 obtain ⟨d,h1,h2,_⟩:=pdqI x0 cf hO l;rw [h2];refine (h1.map _).trans (List.Perm.of_eq ?_)
 apply List.ext_getElem (by simp)
 intro i h1 h2;simp [List.getD_eq_getElem?_getD,h2]
theorem zuz (hO:SWO (ltOf cf)) (l:List α):(srtG x0 cf l).Pairwise fun x y=>¬ cf y x<0:=by
 obtain ⟨d,_,h2,h3⟩:=pdqI x0 cf hO l;rw [h2,List.pairwise_map];exact h3
theorem z15j (hO:SWO (ltOf cf)) (l:List α):(srtG x0 cf l).length=l.length:=(zs8 x0 cf hO l).length_eq
end
theorem zxm {α:Type} {R:Rep α} {S:Blk} {w:World}:∀ {l:List α} {cs:List Value} (i:Nat) (hi:i<l.length),z65 R S w cs l→R.rel S w ((cs.drop (i * R.sz)).take R.sz) l[i]
 | x::l,cs,0,hi,h=>by
  obtain ⟨c,d,rfl,h1,h2⟩:=h
  have:=R.len h1
  simp [← this,h1]
 | x::l,cs,i+1,hi,h=>by
  obtain ⟨c,d,rfl,h1,h2⟩:=h;have hc:=R.len h1
  have:=zxm i (by simpa using hi) h2
  rw [show (i+1) * R.sz=c.length+i * R.sz by rw [hc,Nat.add_mul]; omega]
  simpa using this
theorem zrx (k:Nat):∀ (n:Nat) (cs:List Value),cs.length=n * k→(List.range n).flatMap (fun i=>(cs.drop (i * k)).take k)=cs
 | 0,cs,h=>by simp at h; simp [h]
 | n+1,cs,h=>by
  have ih:=zrx k n (cs.take (n * k)) (by rw [List.length_take,h,Nat.add_mul]; omega);rw [List.range_succ,List.flatMap_append];have e:(List.range n).flatMap (fun i=>(cs.drop (i * k)).take k)=(List.range n).flatMap (fun i=>((cs.take (n * k)).drop (i * k)).take k):=by
   simp only [List.flatMap_def]
   congr 1
   apply List.map_congr_left
   intro i hi;have hi':i<n:=by simpa using hi
   rw [List.drop_take,List.take_take]
   have:k≤n * k - i * k:=by
    rw [← Nat.sub_mul];exact Nat.le_mul_of_pos_left k (by omega)
   rw [Nat.min_eq_left this]
  rw [e,ih];simp only [List.flatMap_cons,List.flatMap_nil,List.append_nil];rw [List.take_of_length_le (l:=cs.drop (n * k)) (by rw [List.length_drop,h,Nat.add_mul]; omega),List.take_append_drop]
theorem z10k {α:Type} {R:Rep α} {S:Blk} {w:World} {enc:Nat→List Value} {g:Nat→α} (h:∀ i,R.rel S w (enc i) (g i)):∀ is:List Nat,z65 R S w (is.flatMap enc) (is.map g)
 | []=>rfl
 | i::is=>⟨enc i,is.flatMap enc,List.flatMap_cons,h i,z10k h is⟩
theorem zzg {α:Type} {R:Rep α} (hagg:R.agg=true) (x0:α) (r0:List Value) (hz:∀ S w,R.rel S w r0 x0) (cf:α→α→Int) (hO:SWO (ltOf cf)) {P:Program} {f g T:Nat}
  (hnone:∀ (cap:Nat) (w:World),Calls P f #[.slice none 0 cap,.func (.func g) #[] #[]] w fun e w'=>e=.returned (.tuple #[])∧w'=w)
  (hsome:∀ (enc:Nat→List Value) (hk:∀ x,(enc x).length=R.sz) (h1:∀ x,∀ v∈enc x,v.oneCell'=true) (cf':Nat→Nat→Int) (hO:SWO (ltOf cf')) (blk cap:Nat) (d:Array Nat) (w:World),
   CmpLays P g #[] enc R.sz cf' blk 0 d.size w→HoldsK enc R.sz w blk 0 d→blk<w.heap.size→d.size<4611686018427387904 →
   Calls P f #[.slice (some ⟨blk,0,none⟩) d.size cap,.func (.func g) #[] #[]] w fun e w'=>e=.returned (.tuple #[])∧∃ n os,w'=sortWorldK enc R.sz w blk 0 n (pdq (ltOf cf') d 0 d.size (Lib.bitLen d.size) true true) os)
  (hcmp:∀ (x y:α) (c d:List Value) (S:Blk) (w W:World),R.rel S w c x→R.rel S w d y→Calls P g #[.agg c.toArray,.agg d.toArray] W fun e w'=>e=.returned (.int .i64 (cf x y))∧∃ q os',w'=grow (W.drewN q) os')
  (p0:Value) (c0:List α):z23 P f [.val p0,.val (.func (.func g) #[] #[])] [(1,some (p0,.list R T c0))] (chk (c0.length≤1000000) >>= fun _=>some (srtG x0 cf c0))
   (fun r nv=>⟨[],[(1,some (p0,.list R T r))]⟩):=by
 intro r hr H vs w hvs hres;have hb:c0.length≤1000000∧r=srtG x0 cf c0:=by
  unfold chk at hr
  split at hr
  ·rename_i h; simp at hr; exact ⟨h,hr.symm⟩
  ·simp at hr
 obtain ⟨hlen0,rfl⟩:=hb
 match vs,hvs with
 | [v0,v1],hvs =>
 obtain ⟨h0,h1,_⟩:=hvs;have e0:v0=p0:=h0.1;have e1:v1=.func (.func g) #[] #[]:=h1.1;subst e0; subst e1;have hc:=hres.conts 1 v0 _ rfl;have only:∀ r v c (q:z42),lr [(1,some (v0,q))] r=some (v,c)→r=1∧v=v0∧c=q:=fun r v c q h=>by
  rw [z1q] at h
  split at h
  ·rename_i e; cases h; exact ⟨e.symm,rfl,rfl⟩
  ·simp [lr,lk] at h
 have hlen:=z15j x0 cf hO;rcases hc with ⟨rfl,rfl⟩ | ⟨b,o,k1,k2,b',cap,C,k3,rfl,k4,k5,k6,k7⟩
 ·refine (hnone 0 w).mono fun e w' ⟨he,hw⟩=>?_;subst hw;refine ⟨fun _=>undef,[],he,trivial, fun r v c h=>?_, fun r v c r' v' c' h h' hne=>?_, fun r v c h b hb=>?_,zm4.rfl'⟩
  ·obtain ⟨rfl,rfl,rfl⟩:=only _ _ _ _ h
   have:srtG x0 cf ([]:List α)=[]:=List.eq_nil_of_length_eq_zero (by rw [hlen]; rfl);exact .inl ⟨rfl,this⟩
  ·exact absurd ((only _ _ _ _ h).1.trans (only _ _ _ _ h').1.symm) hne
  ·obtain ⟨rfl,rfl,rfl⟩:=only _ _ _ _ h; cases hb
 ·subst k3;simp only [z4k,Option.some.injEq] at k1;subst k1;have hlt:b'<w.heap.size:=(Array.getElem?_eq_some_iff.1 k2).1;have hC:c0.length * R.sz≤C.size:=by rw [k6]; exact Nat.mul_le_mul_right _ k4
  let cs:=C.toList.take (c0.length * R.sz)
  have hcs:z65 R (Shr H [(1,some (.slice (some ⟨b',0,none⟩) c0.length cap,.list R T c0))] w) w cs c0:=k7
  let enc:Nat→List Value:=fun i=>if i<c0.length then (cs.drop (i * R.sz)).take R.sz else r0
  have henc:∀ i,R.rel (Shr H [(1,some (.slice (some ⟨b',0,none⟩) c0.length cap,.list R T c0))] w) w (enc i) (c0.getD i x0):=fun i=>by
   by_cases hi:i<c0.length
   ·have:=zxm i hi hcs
    simp only [enc,if_pos hi,List.getD_eq_getElem?_getD,List.getElem?_eq_getElem hi,Option.getD_some]; exact this
   ·simp only [enc,if_neg hi,List.getD_eq_getElem?_getD,List.getElem?_eq_none (Nat.le_of_not_lt hi),Option.getD_none]; exact hz _ _
  have hk:∀ i,(enc i).length=R.sz:=fun i=>R.len (henc i);have hflat:(List.range c0.length).flatMap enc=cs:=by
   have:=zrx R.sz c0.length cs (hcs.len)
   rw [← this];simp only [List.flatMap_def]
   congr 1
   apply List.map_congr_left
   intro i hi;have hi':i<c0.length:=by simpa using hi
   simp only [enc,if_pos hi']
  have hH:HoldsK enc R.sz w b' 0 (Array.range c0.length):=by
   have:=zmb enc R.sz hk (List.range c0.length) k2 (by rw [List.length_range,hflat])
   rwa [show (List.range c0.length).toArray=Array.range c0.length from by simp] at this
  have hso:=hsome enc hk (fun i v hv=>R.one (henc i) v hv) (ltI x0 cf c0) (swoI x0 cf hO c0) b' cap (Array.range c0.length) w
   (fun m os dk hdk x y=>hcmp _ _ _ _ _ w _ (henc x) (henc y)) hH hlt (by simp; omega)
  rw [Array.size_range] at hso;refine hso.mono fun e w' ⟨he,n,os,hw⟩=>?_;obtain ⟨d,d1,d2,-⟩:=(⟨_,rfl,rfl,trivial⟩:∃ d:List Nat,d=(pdq (ltOf (ltI x0 cf c0)) (Array.range c0.length) 0 c0.length (Lib.bitLen c0.length) true true).toList∧srtG x0 cf c0=d.map (fun i=>c0.getD i x0)∧True)
  have dl:d.length=c0.length:=by have:=hlen c0; rw [d2] at this; simpa using this
  have da:pdq (ltOf (ltI x0 cf c0)) (Array.range c0.length) 0 c0.length (Lib.bitLen c0.length) true true=d.toArray:=by rw [d1]
  rw [da] at hw;rw [d2];subst hw;have only':=only;have hst:z92 (Shr H [(1,some (.slice (some ⟨b',0,none⟩) c0.length cap,.list R T c0))] w) (Shr H [(1,some (.slice (some ⟨b',0,none⟩) c0.length cap,.list R T (d.map fun i=>c0.getD i x0)))] (sortWorldK enc R.sz w b' 0 n d.toArray os)) w (sortWorldK enc R.sz w b' 0 n d.toArray os):=fun i hi=>by
   have hne:i≠b':=fun e=>hi.2.1 1 _ _ rfl (by rw [e]; rfl);refine ⟨⟨?_, fun r v c h=>?_,hi.2.2⟩,zld enc R.sz w b' n _ os hi.1 hne⟩
   ·show i<(w.heap.modify b' _++os).size
    have:=hi.1
    simp; omega
   ·obtain ⟨rfl,rfl,rfl⟩:=only _ _ _ _ h;exact hi.2.1 1 _ _ rfl
  refine ⟨fun _=>undef,[],he,trivial, fun r v c h=>?_, fun r v c r' v' c' h h' hne=>?_, fun r v c h b hb=>?_,rfl,rfl,rfl,?_, fun i hi=>?_⟩
  ·obtain ⟨rfl,rfl,rfl⟩:=only _ _ _ _ h;refine .inr ⟨b',_,rfl,z12x enc R.sz w n _ os k2,b',cap,_, by rw [List.length_map,dl],rfl, by rw [List.length_map,dl]; exact k4,k5,?_,?_⟩
   ·rw [← k6]; simp [putCells]
   ·rw [List.length_map,zx8 enc R.sz hk d C (by rw [dl]; exact hC)];exact z10k (fun i=>R.mono hst (henc i)) d
  ·exact absurd ((only _ _ _ _ h).1.trans (only _ _ _ _ h').1.symm) hne
  ·obtain ⟨rfl,rfl,rfl⟩:=only _ _ _ _ h;exact .inr ⟨1,_,_,rfl,hb⟩
  ·show w.heap.size≤(w.heap.modify b' _++os).size
   simp
  ·exact zld enc R.sz w b' n _ os hi.1 fun e=>hi.2 ⟨1,_,_,rfl, by rw [e]; rfl⟩
end
section
open Go Go.Shelf Go.RowKit Go.Lib Go.Sort
theorem z15e (W:World) (o1 o2:Obj) (q:Nat) (os':Array Obj):grow (((W.alloc o1).alloc o2).drewN q) os'=grow (W.drewN q) (#[o1,o2]++os'):=by
 have:(W.heap.push o1).push o2++os'=W.heap++(#[o1,o2]++os'):=by apply Array.toList_inj.1; simp
 show ({ W with drawn:=W.drawn+q,heap:=(W.heap.push o1).push o2++os' }:World) = { W with drawn:=W.drawn+q,heap:=W.heap++(#[o1,o2]++os') };rw [this]
theorem relN {S:Blk} {w:World} {c:List Value} {x:z0d} (h:(z0j).rel S w c x):∃ c1:List Value,c1.length=11∧c=c1++z6d x.id:=by
 obtain ⟨c1,c2,rfl,h1,c3,c4,rfl,h2,h3⟩:=h;refine ⟨c1,z03.len h1,?_⟩;have h3:c4=[]:=h3;rw [h3,List.append_nil,zje h2]; rfl
theorem z1b5 {w:World} {b:Nat} {c1:List Value} {x:V3} {T:TypeId} {fr:Nat × Nat} (h:w.heap[b]? = some (.cells (c1++z6d x).toArray T fr)) (hl:c1.length=11):(loadVar 45 ⟨b,11,none⟩).run Tryz.prog w=.ok (.agg (z6d x).toArray) w:=by
 refine znh ag45 z31 (zf1 x) fun j u hu=>?_;rw [z52];unfold World.cell?;rw [h]
 have:(c1++z6d x)[11+j]? = some u:=by rw [← hl,List.getElem?_append_right (by omega),Nat.add_sub_cancel_left]; exact hu
 simpa using this
set_option maxHeartbeats 1000000 in
set_option maxRecDepth 100000 in
theorem cmpN (c1 d1:List Value) (hc:c1.length=11) (hd:d1.length=11) (x y:V3) (W:World) :
  Calls Tryz.prog 88 #[.agg (c1++z6d x).toArray,.agg (d1++z6d y).toArray] W fun e w'=>e=.returned (.int .i64 (Lib.compareBytes x.toList y.toList))∧∃ q os',w'=grow (W.drewN q) os':=by
 obtain ⟨W1,hW1⟩:∃ W1,W1=W.alloc (.cells (c1++z6d x).toArray 94):=⟨_,rfl⟩
 obtain ⟨W2,hW2⟩:∃ W2,W2=W1.alloc (.cells (d1++z6d y).toArray 94):=⟨_,rfl⟩
 have l0:(loadVar 45 ⟨W.heap.size,11,none⟩).run Tryz.prog W2=.ok (.agg (z6d x).toArray) W2:=z1b5 (c1:=c1) (T:=94) (fr:=(0,0)) (by
  rw [hW2,hW1]; show ((W.heap.push _).push _)[W.heap.size]? = _
  rw [Array.getElem?_push_lt (by simp)]; simp) hc
 have l1:(loadVar 45 ⟨W1.heap.size,11,none⟩).run Tryz.prog W2=.ok (.agg (z6d y).toArray) W2:=z1b5 (c1:=d1) (T:=94) (fr:=(0,0)) (by
  rw [hW2]; show (W1.heap.push _)[W1.heap.size]? = _
  rw [Array.getElem?_push_size]) hd
 go_enter Tryz.func88,Tryz.ntmps88
 refine wp_seq (wp_region_lit ?_);refine st (za0 rfl) (v:=.pointer (some ⟨W.heap.size,0,none⟩)) (w':=W1) (by rw [hW1]; simp [execOp,Act.eval,Act.put]; rfl) ?_;refine st (za0 rfl) (v:=.pointer (some ⟨W1.heap.size,0,none⟩)) (w':=W2) (by rw [hW2]; simp [execOp,Act.eval,Act.put]; rfl) ?_;refine st (za0 rfl) (v:=.int .i64 0) (w':=W2) (by simp [execOp,Act.eval]) ?_;refine wp_seq (wp_region_lit ?_);refine st (za0 rfl) (v:=.pointer (some ⟨W.heap.size,11,none⟩)) (w':=W2) (by simp [execOp,Act.eval,Act.put]; rfl) ?_
 refine st (za0 rfl) (v:=.agg (z6d x).toArray) (w':=W2) (by simp [execOp,Act.eval,Act.put,Instr.loadAt,Instr.sureAddr,l0]) ?_;refine st (za0 rfl) (v:=.pointer (some ⟨W1.heap.size,11,none⟩)) (w':=W2) (by simp [execOp,Act.eval,Act.put]; rfl) ?_;refine st (za0 rfl) (v:=.agg (z6d y).toArray) (w':=W2) (by simp [execOp,Act.eval,Act.put,Instr.loadAt,Instr.sureAddr,l1]) ?_;refine wpList_step fun K hK=>?_;rw [if_pos (za0 rfl)]
 unfold Oper.wp
 rw [show ∀ a:Act,a.eval (.tmp 6)=.agg (z6d x).toArray→a.eval (.tmp 8)=.agg (z6d y).toArray→∀ o:Oper,o.op=Op.call { callee:=Callee.value (Operand.func 48),args:=#[Operand.tmp 6,Operand.tmp 8],argTypes:=#[45,45] }→(execOp a.eval o).run Tryz.prog W2=.ok (.enter 48 #[.agg (z6d x).toArray,.agg (z6d y).toArray]) W2 from fun a h6 h8 o ho=>by
  have e0:a.eval (.func 48)=.func (.func 48) #[] #[]:=rfl
  simp [execOp,ho,resolve,e0,Deferred.ofValue,invoke,zb0 Tryz.func48 rfl (by rfl),h6,h8]]
 rotate_left
 ·simp [Act.eval,Act.put]
 ·simp [Act.eval,Act.put]
 ·rfl
 simp only [Oper.upon];refine (zpu x y W2).mono fun e w' ⟨he,q,os',hw⟩=>?_;subst he;refine hK _ _ ?_;refine st (za0 rfl) (v:=.int .i64 (Lib.compareBytes x.toList y.toList)) (w':=w') (by simp [execOp,Act.eval,Act.put]) ?_
 go_wp2
 go_ret
 refine ⟨rfl,q,#[.cells (c1++z6d x).toArray 94,.cells (d1++z6d y).toArray 94]++os',?_⟩;exact z15e _ _ _ _ _
def z10p:z0d:=(⟨(⟨0,[],0,(⟨0,[],(⟨0,0,0,[]⟩:z00)⟩:z0b),(⟨0,0⟩:z0a)⟩:z05),(Vector.replicate 32 0)⟩:z0d)
def cfN (x y:z0d):Int:=Lib.compareBytes x.id.toList y.id.toList
theorem ltN (x y:z0d):ltOf cfN x y=decide (kd x.id<kd y.id):=by
 unfold ltOf cfN;rw [zyb,zu9]
theorem swoN:SWO (ltOf cfN) where
 irrefl x:=by rw [ltN]; simp
 trans x y z h1 h2:=by rw [ltN] at *; simp at *; omega
 ntrans x y z h1 h2:=by rw [ltN] at *; simp at *; omega
def z13l (l:List (z0d)):Option (List (z0d)):=chk (l.length≤1000000) >>= fun _=>some (srtG z10p cfN l)
theorem z13c (p0:Value) (c0:List (z0d)):z23 Tryz.prog 87 [.val p0,.val (.func (.func 88) #[] #[])] [(1,some (p0,.list z0j 94 c0))] (z13l c0) (fun r nv=>⟨[],[(1,some (p0,.list z0j 94 r))]⟩):=by
 refine zzg rfl z10p _ zr94 cfN swoN (fun cap w=>?_) (fun enc hk h1 cf' hO blk cap d w hc hH hb hs=>?_) (fun x y c d S w W hx hy=>?_) p0 c0
 ·exact AnyF.slices_SortFunc_none z16e none cap _ w
 ·have eg:∀ args w,(callFunc 88 args).run Tryz.prog w=.ok (.enter 88 args) w:=enters_of Tryz.func88 (by kernel_rfl) rfl;exact AnyQ.slices_SortFunc_eq z16e 43 Tryz.isAgg94 Tryz.sizeOf94 enc hk h1 cf' hO 88 #[] blk 0 cap d w eg hc hH hb hs
 ·obtain ⟨c1,h1,rfl⟩:=relN hx;obtain ⟨d1,h2,rfl⟩:=relN hy;exact cmpN c1 d1 h1 h2 x.id y.id W
end
section
open Go Go.Shelf Go.RowKit Go.Lib
theorem z12o {P:Program} {ops:Array Oper} {o:Oper} {a:Act} {w:World} {K:Act→World→Prop} {Q:Exit→Act→World→Prop} {E:Prop}
  (hg:o.guard=none) (d x:Operand) (dT sT:TypeId) (hop:o.op=Op.call { callee:=Callee.builtin Builtin.append,args:=#[d,x],argTypes:=#[dT,sT] })
  (v u:Value) (hd:a.eval d=v) (hx:a.eval x=u) {v':Value} {w':World} (hr:(Builtin.append_ #[dT,sT] o.type #[v,u]).run P w=.ok v' w') (hK:K (a.put o.dst v') w') :
  if Region.wanted o (yielded ops a.tmps)=true then Oper.wp P o a w K Q else E:=by
 have hw:Region.wanted o (yielded ops a.tmps)=true:=by simp [Region.wanted,hg]
 rw [if_pos hw];unfold Oper.wp;simp [execOp,hop,resolve,invoke,builtin,hd,hx,hr,Result.andThen];exact hK
theorem z19z {P:Program} {k by_:Nat} {z:Value} (w:World) (T e:TypeId) (hT:P.underlying T=some (.slice e)) (hE:TI P e z k by_) (hzl:z.cells.size=k) (h0:0<k) (hone:∀ u∈z.cells.toList,u.oneCell'=true)
  (g o n:Nat) (cur:Array Value) (t:TypeId) (hg:w.heap[g]? = some (.cells cur t (0,0))) (hn:0<n) (hfit:o+n * k≤cur.size) :
  ∃ D:Array Value,(∀ ty c,(Builtin.clear_ #[T] ty #[.slice (some ⟨g,o,none⟩) n c]).run P w=.ok (.tuple #[]) (w.setRow g D))∧D.size=cur.size∧D.toList.take o=cur.toList.take o:=by
 have hfl:=zh7 (n:=n) (z:=z.cells) (by omega);have hll:((List.replicate n z.cells.toList).flatten).length=n * k:=by simp [hzl]
 have hz1:∀ u∈(Builtin.zeroCells z.cells n).toList,u.oneCell'=true:=fun u hu=>by
  rw [hfl] at hu;simp only [List.mem_flatten,List.mem_replicate] at hu;obtain ⟨q,⟨-,rfl⟩,hu⟩:=hu;exact hone u hu
 have hzn:(Builtin.zeroCells z.cells n).toList.length=n * k:=by rw [hfl,hll]
 have hst:=run_storeCells_at P g o t (Builtin.zeroCells z.cells n).toList 0 cur w hg (by rw [hzn]; simpa using hfit) hz1
 simp only [Nat.add_zero] at hst;refine ⟨(cur.toList.take o++(Builtin.zeroCells z.cells n).toList++cur.toList.drop (o+(Builtin.zeroCells z.cells n).toList.length)).toArray, fun ty c=>?_,?_,?_⟩
 ·obtain ⟨n',rfl⟩:∃ n',n=n'+1:=⟨n - 1, by omega⟩
  simp only [Builtin.clear_,Sem.run_bind,run_underlying hT,Result.andThen,zd6 hE,hst,Sem.run_pure,List.getElem?_toArray,List.getElem?_cons_zero]
 ·simp only [List.size_toArray,List.length_append,List.length_take,List.length_drop,Array.length_toList,hzn]; omega
 ·simp only [List.append_assoc];rw [List.take_append_of_le_length (by rw [List.length_take,Array.length_toList]; omega),List.take_take,Nat.min_self]
section
variable (b n c i j:Nat) (xs:List Value) (C:Array Value) (w:World)
set_option maxHeartbeats 4000000 in
set_option maxRecDepth 100000 in
theorem zws (p:Option Addr) (hi:i≤n) (hnc:n≤c) (hc63:c≤9223372036854775807) :
  Calls Tryz.prog 92 #[.slice p n c,.int .i64 i,.int .i64 i] w fun e w'=>e=.returned (.slice p n c)∧w'=w:=by
 have hn63:n≤9223372036854775807:=by omega
 go_enter Tryz.func92,Tryz.ntmps92
 go_wp2
 all_goals (go_ret; exact ⟨rfl,rfl⟩)
set_option maxHeartbeats 4000000 in
set_option maxRecDepth 100000 in
theorem z14l (hij:i<j) (hj:j≤n) (hnc:n≤c) (hc63:c≤9223372036854775807) (hC:w.heap[b]? = some (.cells C 94 (0,0)))
  (hCs:C.size=c * 43) (hxs:C.toList.take (n * 43)=xs) (h1x:∀ v∈xs,v.oneCell'=true) :
  Calls Tryz.prog 92 #[.slice (some ⟨b,0,none⟩) n c,.int .i64 i,.int .i64 j] w fun e w' =>
   e=.returned (.slice (some ⟨b,0,none⟩) (i+(n - j)) c)∧∃ D,w'=w.drew.setRow b D∧D.size=C.size∧D.toList.take ((i+(n - j)) * 43)=xs.take (i * 43)++xs.drop (j * 43):=by
 have u22:Tryz.prog.underlying 88=some (.slice 94):=Tryz.underlying88;have hcc:∀ j v,C.toList[j]? = some v→w.cell? ⟨b,j,none⟩=some v:=fun j v hj=>by
  rw [Array.getElem?_toList] at hj; unfold World.cell?; rw [hC]; exact hj
 have hxl:xs.length=n * 43:=by rw [← hxs,List.length_take,Array.length_toList]; omega
 have hxg:∀ j v,xs[j]? = some v→C.toList[j]? = some v:=fun j v hj=>by
  rw [← hxs,List.getElem?_take] at hj; split at hj
  ·exact hj
  ·cases hj
 obtain ⟨i0,hi0,hz0,hzs,hzb⟩:=(zme:TI Tryz.prog 94 _ _ _)
 have hnl:(xs.drop (j * 43)).length=(n - j) * 43:=by rw [List.length_drop,hxl,Nat.sub_mul]
 obtain ⟨Ad,hA,hsrc⟩:∃ Ad:Addr,(if c=j then some (⟨b,0,none⟩:Addr) else some ⟨b,j * 43,none⟩)=some Ad∧∀ t u,(xs.drop (j * 43))[t]? = some u→w.drew.cell? (Ad.add t)=some u:=by
  by_cases h:c=j
  ·refine ⟨⟨b,0,none⟩, by simp [h], fun t u hu=>?_⟩;have h0:(xs.drop (j * 43)).length=0:=by rw [hnl, show n - j=0 by omega,Nat.zero_mul]
   rw [List.length_eq_zero_iff.1 h0] at hu;simp at hu
  ·refine ⟨⟨b,j * 43,none⟩, by simp [h], fun t u hu=>?_⟩;rw [Addr.add_lit];rw [List.getElem?_drop] at hu;exact hcc _ _ (hxg _ _ hu)
 obtain ⟨D1,hD1⟩:∃ D1,D1=(C.toList.take (i * 43)++xs.drop (j * 43)++C.toList.drop (i * 43+(xs.drop (j * 43)).length)).toArray:=⟨_,rfl⟩
 have hap:∀ ty,(Builtin.append_ #[88,88] ty #[.slice (some ⟨b,0,none⟩) i c,.slice (some Ad) (n - j) (c - j)]).run Tryz.prog w.drew=.ok (.slice (some ⟨b,0,none⟩) (i+(n - j)) c) (w.drew.setRow b D1):=fun ty=>by
  have e:=run_append_room (P:=Tryz.prog) (w:=w.drew) 88 ty 94 i0 u22 hi0 b i c C hC Ad (n - j) (c - j) (xs.drop (j * 43)) (by rw [hzs,hnl]) hsrc (fun v hv=>h1x v (List.mem_of_mem_drop hv)) (by omega) (by rw [hzs,hnl,hCs]; omega);rw [hzs] at e;rw [hD1]; exact e
 have hD1s:D1.size=C.size:=by
  rw [hD1]; simp only [List.size_toArray,List.length_append,List.length_take,List.length_drop,Array.length_toList,hxl]; omega
 have hD1t:D1.toList.take ((i+(n - j)) * 43)=xs.take (i * 43)++xs.drop (j * 43):=by
  have el:(C.toList.take (i * 43)).length=i * 43:=by rw [List.length_take,Array.length_toList]; omega
  have e2:C.toList.take (i * 43)=xs.take (i * 43):=by rw [← hxs,List.take_take]; congr 1; omega
  rw [hD1,List.take_append_of_le_length (by rw [List.length_append,el,hnl]; omega),List.take_of_length_le (by rw [List.length_append,el,hnl]; omega),e2]
 have hB1:(w.drew.setRow b D1).heap[b]? = some (.cells D1 94 (0,0)):=setRow_heap w.drew b C D1 94 (0,0) hC;obtain ⟨D2,hcl,hD2s,hD2t⟩:=z19z (P:=Tryz.prog) (w.drew.setRow b D1) 88 94 u22 zme (by rfl) (by decide) (by decide) b ((i+(n - j)) * 43) (n - (i+(n - j))) D1 94 hB1 (by omega) (by rw [hD1s,hCs]; omega);obtain ⟨W1,hW1⟩:∃ W1,W1=w.drew.setRow b D1:=⟨_,rfl⟩
 have hfin:w.drew.setRow b D2=W1.setRow b D2:=by rw [hW1,setRow_setRow]
 rw [← hW1] at hcl hap;have hic:i≤c:=by omega
 have hjc:j≤c:=by omega
 have hres:D2.size=C.size∧D2.toList.take ((i+(n - j)) * 43)=xs.take (i * 43)++xs.drop (j * 43):=⟨hD2s.trans hD1s,hD2t.trans hD1t⟩
 clear hcc hxg hD1 hxs hC hB1 h1x hnl hxl hsrc hD1s hD1t hD2s hD2t hz0 hzb hW1
 have hmix:Tryz.prog.follows .mixedOrders=true:=mixed
 go_enter Tryz.func92,Tryz.ntmps92
 go_wp2_with fail
 go_region_law_o (refine z12o rfl (.tmp 22) (.tmp 25) 88 88 rfl (.slice (some ⟨b,0,none⟩) i c) (.slice (some Ad) (n - j) (c - j)) (by simp [Act.eval,Act.put]) (by simp [Act.eval,Act.put,hA]) (hap _) ?_)
 go_wp2_with (simp only [hcl])
 go_ret
 exact ⟨rfl,D2,hfin.symm,hres⟩
end
end
section
open Go Go.RowKit
def delL {α:Type} (c0:List α) (i j:Int):Option (List α):=chk ((0≤i∧i≤j)∧j.toNat≤c0.length∧c0.length≤1000000) >>= fun _=>some (c0.take i.toNat++c0.drop j.toNat)
theorem z17t {α:Type} {R:Rep α} (hR:R.sz=43) (p0:Value) (c0:List α) (i j:Int):z23 Tryz.prog 92 [.val p0,.rd z0f i,.rd z0f j] [(1,some (p0,.list R 94 c0))] (delL c0 i j)
  (fun r nv=>⟨[.val (nv 0)],[(100,some (nv 0,.list R 94 r))]⟩):=by
 intro r hr H vs w hvs hres;have hb:((0≤i∧i≤j)∧j.toNat≤c0.length∧c0.length≤1000000)∧r=c0.take i.toNat++c0.drop j.toNat:=by
  unfold delL chk at hr
  split at hr
  ·rename_i h; simp at hr; exact ⟨h,hr.symm⟩
  ·simp at hr
 obtain ⟨⟨⟨hi0,hij⟩,hj,hn⟩,rfl⟩:=hb
 match vs,hvs with
 | [v0,v1,v2],hvs =>
 obtain ⟨h0,h1,h2,_⟩:=hvs;have e0:v0=p0:=h0.1;have e1:v1=.int .i64 i:=z4l h1;have e2:v2=.int .i64 j:=z4l h2;subst e0; subst e1; subst e2;obtain ⟨i,rfl⟩:∃ k:Nat,i=(k:Int):=⟨i.toNat, by omega⟩
 obtain ⟨j,rfl⟩:∃ k:Nat,j=(k:Int):=⟨j.toNat, by omega⟩
 simp only [Int.toNat_natCast] at hj ⊢;have hij:i≤j:=by omega
 have only:∀ v' r v c (q:z42),lr [(100,some (v',q))] r=some (v,c)→r=100∧v=v'∧c=q:=fun v' r v c q h=>by
  rw [z1q] at h
  split at h
  ·rename_i e; cases h; exact ⟨e.symm,rfl,rfl⟩
  ·simp [lr,lk] at h
 have hlen:(c0.take i++c0.drop j).length=i+(c0.length - j):=by
  simp only [List.length_append,List.length_take,List.length_drop]; omega
 rcases hres.conts 1 v0 _ rfl with ⟨rfl,rfl⟩ | ⟨b,o,k1,k2,b',cap,C,k3,rfl,k4,k5,k6,k7⟩
 ·simp only [List.length_nil,Nat.le_zero] at hj;have hi:i=0:=by omega
  subst hj; subst hi;refine (zws 0 0 0 w none (Nat.le_refl _) (Nat.le_refl _) (by omega)).mono fun e w' ⟨he,hw⟩=>?_;subst hw;refine ⟨fun _=>.slice none 0 0,[.slice none 0 0],he,⟨⟨rfl,rfl⟩,trivial⟩, fun r v c h=>?_, fun r v c r' v' c' h h' hne=>?_, fun r v c h b hb=>?_,zm4.rfl'⟩
  ·obtain ⟨rfl,rfl,rfl⟩:=only _ _ _ _ _ h;exact .inl ⟨rfl,rfl⟩
  ·exact absurd ((only _ _ _ _ _ h).1.trans (only _ _ _ _ _ h').1.symm) hne
  ·obtain ⟨rfl,rfl,rfl⟩:=only _ _ _ _ _ h; cases hb
 ·subst k3;simp only [z4k,Option.some.injEq] at k1;subst k1;have hlt:b'<w.heap.size:=(Array.getElem?_eq_some_iff.1 k2).1;have hcm:cap≤9223372036854775807:=by unfold maxLen at k5; omega
  rw [hR] at k6 k7;have main:Calls Tryz.prog 92 #[.slice (some ⟨b',0,none⟩) c0.length cap,.int .i64 i,.int .i64 j] w fun e w'=>e=.returned (.slice (some ⟨b',0,none⟩) (i+(c0.length - j)) cap) ∧
    ∃ D,w'.heap[b']? = some (.cells D 94 (0,0))∧w.grownBy w' (some b')∧D.size=C.size∧D.toList.take ((i+(c0.length - j)) * 43)=(C.toList.take (c0.length * 43)).take (i * 43)++(C.toList.take (c0.length * 43)).drop (j * 43):=by
   rcases Nat.lt_or_ge i j with h | h
   ·refine (z14l b' c0.length cap i j _ C w h hj k4 hcm k2 k6 rfl (fun v hv=>k7.one v hv)).mono fun e w' ⟨he,D,hw,hD,hT⟩=>⟨he,D,?_,?_,hD,hT⟩
    ·rw [hw]; exact setRow_heap w.drew b' C D 94 (0,0) k2
    ·rw [hw];refine ⟨rfl,rfl,rfl,?_, fun k hk hne=>?_⟩
     ·rw [setRow_size]; exact Nat.le_refl _
     ·rw [setRow_other w.drew b' k D (fun e=>hne (by rw [e]))]; rfl
   ·have e:j=i:=by omega
    subst e;refine (zws c0.length cap j w _ hj k4 hcm).mono fun e w' ⟨he,hw⟩=>⟨by rw [he, show j+(c0.length - j)=c0.length by omega],C, by rw [hw]; exact k2, by rw [hw]; exact ⟨rfl,rfl,rfl,Nat.le_refl _, fun _ _ _=>rfl⟩,rfl,?_⟩;rw [show j+(c0.length - j)=c0.length by omega,List.take_append_drop]
  refine main.mono fun e w' ⟨he,D,hD,hg,hs,ht⟩=>?_;have hst:z92 (Shr H [(1,some (.slice (some ⟨b',0,none⟩) c0.length cap,.list R 94 c0))] w) (Shr H [(100,some (.slice (some ⟨b',0,none⟩) (i+(c0.length - j)) cap,.list R 94 (c0.take i++c0.drop j)))] w') w w':=fun k hk=>by
   have hne:k≠b':=fun e=>hk.2.1 1 _ _ rfl (by rw [e]; rfl);refine ⟨⟨Nat.lt_of_lt_of_le hk.1 hg.size, fun r v c h=>?_,hk.2.2⟩,hg.block k hk.1 (fun e=>hne (Option.some.inj e))⟩;obtain ⟨rfl,rfl,rfl⟩:=only _ _ _ _ _ h;exact fun e=>hne (Option.some.inj e).symm
  refine ⟨fun _=>.slice (some ⟨b',0,none⟩) (i+(c0.length - j)) cap,[.slice (some ⟨b',0,none⟩) (i+(c0.length - j)) cap],he,⟨⟨rfl,rfl⟩,trivial⟩, fun r v c h=>?_, fun r v c r' v' c' h h' hne=>?_, fun r v c h b hb=>?_,hg.os,hg.tape,hg.output,hg.size, fun k hk=>?_⟩
  ·obtain ⟨rfl,rfl,rfl⟩:=only _ _ _ _ _ h;refine .inr ⟨b',_,rfl,hD,b',cap,D, by rw [hlen],rfl, by rw [hlen]; omega,k5, by rw [hs,k6,hR],?_⟩;rw [hlen,hR,ht];have x2:=k7.mono hst;have a1:=x2.take i;have a2:=x2.drop j;rw [hR] at a1 a2;exact a1.append a2
  ·exact absurd ((only _ _ _ _ _ h).1.trans (only _ _ _ _ _ h').1.symm) hne
  ·obtain ⟨rfl,rfl,rfl⟩:=only _ _ _ _ _ h;exact .inr ⟨1,_,_,rfl,hb⟩
  ·refine hg.block k hk.1 fun e=>hk.2 ⟨1,_,_,rfl,?_⟩;rw [Option.some.inj e]; rfl
end
section
open Go Go.RowKit
set_option maxRecDepth 100000
def zad  : Option (z05 × z05 × Bool) :=
 zow (⟨4,[],7,(⟨2,([97]:List UInt8),(⟨0,0,0,[]⟩:z00)⟩:z0b),(⟨5,6⟩:z0a)⟩:z05) >>= fun r4 =>
 some ((⟨4,[],7,(⟨2,([97]:List UInt8),(⟨0,0,0,[]⟩:z00)⟩:z0b),(⟨5,6⟩:z0a)⟩:z05),(⟨(⟨4,[],7,(⟨2,([97]:List UInt8),(⟨0,0,0,[]⟩:z00)⟩:z0b),(⟨5,6⟩:z0a)⟩:z05).Author,[r4.1],(⟨4,[],7,(⟨2,([97]:List UInt8),(⟨0,0,0,[]⟩:z00)⟩:z0b),(⟨5,6⟩:z0a)⟩:z05).Stamp,(⟨4,[],7,(⟨2,([97]:List UInt8),(⟨0,0,0,[]⟩:z00)⟩:z0b),(⟨5,6⟩:z0a)⟩:z05).Act,(⟨4,[],7,(⟨2,([97]:List UInt8),(⟨0,0,0,[]⟩:z00)⟩:z0b),(⟨5,6⟩:z0a)⟩:z05).Sig⟩:z05),r4.2==0)
theorem ziu  : z23 Tryz.prog 33 [] [zG1] (zad) (fun r nv=>⟨[.rd z03 r.1,.rd z03 r.2.1,.rd z0h r.2.2],[(1001,some (.bool true,.glob 1 (z3i 64 z0s) z6j))]⟩):=by
 refine z2m 23 Tryz.func33 Z Z Z fun H w=>?_;refine gSR<|Eb Z (z6n 1 z6h (ZrE.rd (R:=z0s) (x:=0) (Zr.num Z) (ZrE.nilS (ZrE.rd (R:=z1z) (x:=0) (Zr.num Z) (ZrE.rd (R:=z0c) (x:=(⟨0,[],(⟨0,0,0,[]⟩:z00)⟩:z0b)) zlm (ZrE.rd (R:=z0e) (x:=(⟨0,0⟩:z0a)) zlc ZrE.nil Z) Z) Z)) Z)) fun v1=>Eb Z (z6n 2 z6h (ZrE.rd (R:=z0s) (x:=0) (Zr.num Z) (ZrE.nilS (ZrE.rd (R:=z1z) (x:=0) (Zr.num Z) (ZrE.rd (R:=z0c) (x:=(⟨0,[],(⟨0,0,0,[]⟩:z00)⟩:z0b)) zlm (ZrE.rd (R:=z0e) (x:=(⟨0,0⟩:z0a)) zlc ZrE.nil Z) Z) Z)) Z)) fun v2=>Zb Z<|gSR<|Zq (bld (x':=(⟨2,([97]:List UInt8),(⟨0,0,0,[]⟩:z00)⟩:z0b)) [(0,1),(1,1),(2,4)] Tryz.underlying39 zn7 Z zlm Z (Bld.cons (z2r _) Z Z<|Bld.cons (z43 _) Z Z<|Bld.done Z))<|Zq (bld (x':=(⟨5,6⟩:z0a)) [(0,1),(1,1)] Tryz.underlying41 zqy Z zlc Z (Bld.cons (z4h _) Z Z<|Bld.cons (z5s _) Z Z<|Bld.done Z))<|Zq (zuc [(0,1),(1,1),(2,1),(3,6),(9,2)] Tryz.underlying43 z6h (ZrE.rd (R:=z0s) (x:=0) (Zr.num Z) (ZrE.nilS (ZrE.rd (R:=z1z) (x:=0) (Zr.num Z) (ZrE.rd (R:=z0c) (x:=(⟨0,[],(⟨0,0,0,[]⟩:z00)⟩:z0b)) zlm (ZrE.rd (R:=z0e) (x:=(⟨0,0⟩:z0a)) zlc ZrE.nil Z) Z) Z)) Z) Z (zi7.cons Z Z z09 (z7f.cast (z7f.here z09) Z)<|zi7.cons Z Z z09 (z7f.cast (z7f.next z09 (z7f.next z08 (z7f.here z09))) Z)<|zi7.cons Z Z z09 (z7f.cast (z7f.next z09 (z7f.next z08 (z7f.next z09 (z7f.here z09)))) Z)<|zi7.cons Z Z z09 (z7f.cast (z7f.next z09 (z7f.next z08 (z7f.next z09 (z7f.next z09 (z7f.here z09))))) Z)<|zi7.done Z))<|Eb Z (z6n 3 z6h (ZrE.rd (R:=z0s) (x:=0) (Zr.num Z) (ZrE.nilS (ZrE.rd (R:=z1z) (x:=0) (Zr.num Z) (ZrE.rd (R:=z0c) (x:=(⟨0,[],(⟨0,0,0,[]⟩:z00)⟩:z0b)) zlm (ZrE.rd (R:=z0e) (x:=(⟨0,0⟩:z0a)) zlc ZrE.nil Z) Z) Z)) Z)) fun v3=>Es (zpl 3 Z Z (z06.cast (z06.cons z09 (z06.cons z08 (z06.cons z09 (z06.cons z09 (z06.cons z09 z06.nil))))) Z) Z (z1e.cons z1n (z1e.cons z12 (z1e.cons z1n (z1e.cons z1n (z1e.cons z1n z1e.nil))))) (z06.cast (z06.cons z09 (z06.cons z08 (z06.cons z09 (z06.cons z09 (z06.cons z09 z06.nil))))) Z) z6h)<|Zn<|gSR<|zhd aZ [.rd z0s 4,.rd (z02 aZ) [],.rd z1z 7,.rd z0c (⟨2,([97]:List UInt8),(⟨0,0,0,[]⟩:z00)⟩:z0b),.rd z0e (⟨5,6⟩:z0a)] 3 [.rd z0s 4] [.rd z1z 7,.rd z0c (⟨2,([97]:List UInt8),(⟨0,0,0,[]⟩:z00)⟩:z0b),.rd z0e (⟨5,6⟩:z0a)] Z Z Z<|zgt (R:=z03) (⟨4,[],7,(⟨2,([97]:List UInt8),(⟨0,0,0,[]⟩:z00)⟩:z0b),(⟨5,6⟩:z0a)⟩:z05) 3 Z (Sp.via (Sp.prod (Sp.prod (Sp.prod (Sp.prod (Sp.prod Sp.unit))))))<|Zq (ld 3 Z Z fH za3 Z)<|Zc [1001] [] Tryz.func65 Z (zhs _) fun r4 n5=>Zm Z<|Zq (ext Z Z)<|Zq (ext Z Z)<|Eb Z (z6n 4 z31 (.zr (R:=aZ) (x:=(Vector.replicate 32 0)) zfo)) fun v6=>Es (sto 4 Z Z fH Z z31)<|Zb Z<|gSR<|Zq (ld 3 Z Z fH za3 Z)<|Eb Z (z6n 5 z6h (ZrE.rd (R:=z0s) (x:=0) (Zr.num Z) (ZrE.nilS (ZrE.rd (R:=z1z) (x:=0) (Zr.num Z) (ZrE.rd (R:=z0c) (x:=(⟨0,[],(⟨0,0,0,[]⟩:z00)⟩:z0b)) zlm (ZrE.rd (R:=z0e) (x:=(⟨0,0⟩:z0a)) zlc ZrE.nil Z) Z) Z)) Z)) fun v7=>zhd aZ [.rd z0s 0,.rd (z02 aZ) [],.rd z1z 0,.rd z0c (⟨0,[],(⟨0,0,0,[]⟩:z00)⟩:z0b),.rd z0e (⟨0,0⟩:z0a)] 5 [.rd z0s 0] [.rd z1z 0,.rd z0c (⟨0,[],(⟨0,0,0,[]⟩:z00)⟩:z0b),.rd z0e (⟨0,0⟩:z0a)] Z Z Z<|zgt (R:=z03) (⟨0,[],0,(⟨0,[],(⟨0,0,0,[]⟩:z00)⟩:z0b),(⟨0,0⟩:z0a)⟩:z05) 5 Z (Sp.via (Sp.prod (Sp.prod (Sp.prod (Sp.prod (Sp.prod Sp.unit))))))<|Es (sto 5 Z Z fH Z z6h)<|Zn<|gSR<|Zq (ld 4 Z Z fH z59 Z)<|Ef Z (lit (R:=aZ) ([r4.1]:List V3) 6 (pP Z Z<|pN) Z tu29 z31 Z Z) fun v8=>Zq (faB 5 Z Z Tryz.underlying43 Z (by exact z8j))<|lSpl (R:=z03) 5 Z (Sp.via (Sp.prod (Sp.prod (Sp.prod (Sp.prod (Sp.prod Sp.unit))))))<|Es (zo4 5 Z Z (z7f.cast (z7f.next z09 (z7f.here z09)) Z) Z z12 z08 z8j)<|Zn<|z0x<|gPow [.rd z0s ((⟨4,[],7,(⟨2,([97]:List UInt8),(⟨0,0,0,[]⟩:z00)⟩:z0b),(⟨5,6⟩:z0a)⟩:z05).Author),.rd (z02 aZ) [r4.1],.rd z1z ((⟨4,[],7,(⟨2,([97]:List UInt8),(⟨0,0,0,[]⟩:z00)⟩:z0b),(⟨5,6⟩:z0a)⟩:z05).Stamp),.rd z0c ((⟨4,[],7,(⟨2,([97]:List UInt8),(⟨0,0,0,[]⟩:z00)⟩:z0b),(⟨5,6⟩:z0a)⟩:z05).Act),.rd z0e ((⟨4,[],7,(⟨2,([97]:List UInt8),(⟨0,0,0,[]⟩:z00)⟩:z0b),(⟨5,6⟩:z0a)⟩:z05).Sig)] 5 6 [.rd z0s ((⟨4,[],7,(⟨2,([97]:List UInt8),(⟨0,0,0,[]⟩:z00)⟩:z0b),(⟨5,6⟩:z0a)⟩:z05).Author)] [.rd z1z ((⟨4,[],7,(⟨2,([97]:List UInt8),(⟨0,0,0,[]⟩:z00)⟩:z0b),(⟨5,6⟩:z0a)⟩:z05).Stamp),.rd z0c ((⟨4,[],7,(⟨2,([97]:List UInt8),(⟨0,0,0,[]⟩:z00)⟩:z0b),(⟨5,6⟩:z0a)⟩:z05).Act),.rd z0e ((⟨4,[],7,(⟨2,([97]:List UInt8),(⟨0,0,0,[]⟩:z00)⟩:z0b),(⟨5,6⟩:z0a)⟩:z05).Sig)] Z Z Z Z Z<|gJoi (R:=z03) (⟨(⟨4,[],7,(⟨2,([97]:List UInt8),(⟨0,0,0,[]⟩:z00)⟩:z0b),(⟨5,6⟩:z0a)⟩:z05).Author,[r4.1],(⟨4,[],7,(⟨2,([97]:List UInt8),(⟨0,0,0,[]⟩:z00)⟩:z0b),(⟨5,6⟩:z0a)⟩:z05).Stamp,(⟨4,[],7,(⟨2,([97]:List UInt8),(⟨0,0,0,[]⟩:z00)⟩:z0b),(⟨5,6⟩:z0a)⟩:z05).Act,(⟨4,[],7,(⟨2,([97]:List UInt8),(⟨0,0,0,[]⟩:z00)⟩:z0b),(⟨5,6⟩:z0a)⟩:z05).Sig⟩:z05) 5 Z (Sp.via (Sp.prod (Sp.prod (Sp.prod (Sp.prod (Sp.prod Sp.unit))))))<|z9u [1,2] mixed Z Z<|hTk 0 Z Z (ld 3 Z Z fH za3 Z)<|hTk 1 Z Z (ld 5 Z Z fH za3 Z)<|hTk 2 Z Z (mv Z)<|hTk 3 Z Z (I.eql Z Z)<|hPnl aZ [.rd z0s 0,.rd (z02 aZ) [],.rd z1z 0,.rd z0c (⟨0,[],(⟨0,0,0,[]⟩:z00)⟩:z0b),.rd z0e (⟨0,0⟩:z0a)] 1 [.rd z0s 0] [.rd z1z 0,.rd z0c (⟨0,[],(⟨0,0,0,[]⟩:z00)⟩:z0b),.rd z0e (⟨0,0⟩:z0a)] Z Z Z<|hJoi (R:=z03) (⟨0,[],0,(⟨0,[],(⟨0,0,0,[]⟩:z00)⟩:z0b),(⟨0,0⟩:z0a)⟩:z05) 1 Z (Sp.via (Sp.prod (Sp.prod (Sp.prod (Sp.prod (Sp.prod Sp.unit))))))<|Zp 4 Z Z Z Z Z (sto 1 Z Z fH Z z6h)<|hPnl aZ [.rd z0s 0,.rd (z02 aZ) [],.rd z1z 0,.rd z0c (⟨0,[],(⟨0,0,0,[]⟩:z00)⟩:z0b),.rd z0e (⟨0,0⟩:z0a)] 2 [.rd z0s 0] [.rd z1z 0,.rd z0c (⟨0,[],(⟨0,0,0,[]⟩:z00)⟩:z0b),.rd z0e (⟨0,0⟩:z0a)] Z Z Z<|hJoi (R:=z03) (⟨0,[],0,(⟨0,[],(⟨0,0,0,[]⟩:z00)⟩:z0b),(⟨0,0⟩:z0a)⟩:z05) 2 Z (Sp.via (Sp.prod (Sp.prod (Sp.prod (Sp.prod (Sp.prod Sp.unit))))))<|Zp 5 Z Z Z Z Z (sto 2 Z Z fH Z z6h)<|hTk 6 Z Z (asg Z)<|z6e (by kernel_rfl)<|z0y<|z0n<|zbm [] [1001] Z (eC 1 Z Z za3<|eC 2 Z Z za3<|eE Z<|eN) (y1 Z)
def z7w (a0:V3) (c1_0:List (V3 × Bool)):Option (Bool) :=
 some ((zbr c1_0 a0).getD false) >>= fun y2 =>
 some y2
theorem zhu (a0:V3) (p1_0:Value) (q1_0:Value) (c1_0:List (V3 × Bool)):z23 Tryz.prog 91 [.rd aZ a0,.val (z07 p1_0 0)] [(1,some (p1_0,.box 92 [.val q1_0])),(2,some (q1_0,.map aZ z0h c1_0))] (z7w a0 c1_0) (fun r nv=>⟨[.rd z0h r],[(1,some (p1_0,.box 92 [.val q1_0])),(2,some (q1_0,.map aZ z0h c1_0))]⟩):=by
 refine z2m 7 Tryz.func91 Z Z Z fun H w=>?_;refine gSR<|Eb Z (bx 3 Z) fun v1=>Zb Z<|gSR<|Zq (ldV 1 Z Z .here sc92 Z)<|Zq (ld 3 Z Z fH z59 Z)<|Zq (mlk Z (.own 2 Z Z) Z zz0 Tryz.underlying92 ti4 Zr.bool Z)<|Za Z<|z24 3 Z fun y2=>Zn<|z0n<|Ze [] [1,2] Z
def z3j (a0:List V3) (c1_0:List (V3 × Bool)) (s2:Int):Option (Sum (Sum Int Unit) Int) :=
 if decide (s2<(a0.length:Int)) then
  idx a0 s2 >>= fun x4 =>
  z7w x4 c1_0 >>= fun r6 =>
  if r6 then
   some (.inl (.inl s2))
  else
   some (.inr (w64 (s2+1)))
 else
  some (.inl (.inr ()))
def z2i (a0:List V3) (c1_0:List (V3 × Bool)):Option (Int) :=
 z4y (iter (z3j a0 c1_0) 0) fun s1 =>
 some (-1)
theorem z62 (a0:List V3) (p1_0:Value) (q1_0:Value) (c1_0:List (V3 × Bool)):z23 Tryz.prog 125 [.rd (z02 aZ) a0,.val (.func (.func 91) #[] #[z07 p1_0 0])] [(1,some (p1_0,.box 92 [.val q1_0])),(2,some (q1_0,.map aZ z0h c1_0))] (z2i a0 c1_0) (fun r nv=>⟨[.rd z0f r],[(1,some (p1_0,.box 92 [.val q1_0])),(2,some (q1_0,.map aZ z0h c1_0))]⟩):=by
 refine z2m 19 Tryz.func125 Z Z Z fun H w=>?_;refine gSR<|Zb Z<|z7c (fun (s1:Unit) aa ww=>Sta (ctx 19 H [(1,some (p1_0,.box 92 [.val q1_0])),(2,some (q1_0,.map aZ z0h c1_0))] w) [] [(2,some (q1_0,.map aZ z0h c1_0)),(1,some (p1_0,.box 92 [.val q1_0]))] aa ww) ?_ (fun s1=>?_)
 ·refine gSR<|Zm Z<|Zq (z3e Z .rd Z tu29)<|Zm Z<|Zn<|z29 (fun (s2:Int) aa ww=>Sta (ctx 19 H [(1,some (p1_0,.box 92 [.val q1_0])),(2,some (q1_0,.map aZ z0h c1_0))] w) [(0,.rd (z02 aZ) a0),(1,.val (.func (.func 91) #[] #[z07 p1_0 0])),(7,.rd z0f (a0.length:Int)),(8,.rd z0f s2)] [(2,some (q1_0,.map aZ z0h c1_0)),(1,some (p1_0,.box 92 [.val q1_0]))] aa ww) (fun aa ww h=>Zu h [2,1]) (fun s2=>?_);refine gSR<|Zq (I.lss Z Z)<|Zn<|z0x<|gIf Z Z (fun h3=>?_) (fun h3=>?_)
  ·refine Zt<|z0x<|z4s<|gSR<|Zm Z<|Zb Z<|gSR<|Zm Z<|Zm Z<|Zm Z<|z0q fun x4 h5=>Zq (ixR Z Z h5 tu29 z31 Z)<|Zq (ldR Z z59)<|zi0 [1,2] [(1,1),(2,2)] (gd0 Z) Z Z Tryz.func91 Z Z (zhu _ _ _ _) (Y1 Z) (cQ 1 Z<|cN) (Zi Z<|Zi Z<|rN) fun r6 n7=>Zj Z (fun h8=>?_) (fun h8=>?_)
   ·refine gSR<|Zm Z<|Zb Z<|z0n<|z3m<|z0u<|z6c<|z58<|Ze [] [1,2] Z
   ·refine z30<|z3c<|z0y<|z28<|Zq (I.add Z Z)<|Zm Z<|z1p<|z1s (fun aa ww h=>Zu h [2,1])
  ·refine z27<|z19<|z1b<|z5q (fun aa ww h=>Zu h [2,1])
 ·refine gSR<|Zb Z<|z0n<|Ze [] [1,2] Z
def z2a (a0:List V3) (c1_0:List (V3 × Bool)):Option (Bool) :=
 z2i a0 c1_0 >>= fun r1 =>
 some (decide (0≤r1)) >>= fun y3 =>
 some y3
theorem z5j (a0:List V3) (p1_0:Value) (q1_0:Value) (c1_0:List (V3 × Bool)):z23 Tryz.prog 79 [.rd (z02 aZ) a0,.val (.func (.func 91) #[] #[z07 p1_0 0])] [(1,some (p1_0,.box 92 [.val q1_0])),(2,some (q1_0,.map aZ z0h c1_0))] (z2a a0 c1_0) (fun r nv=>⟨[.rd z0h r],[(1,some (p1_0,.box 92 [.val q1_0])),(2,some (q1_0,.map aZ z0h c1_0))]⟩):=by
 refine z2m 9 Tryz.func79 Z Z Z fun H w=>?_;refine gSR<|Zb Z<|gSR<|Zm Z<|Zm Z<|Zc [1,2] [(1,1),(2,2)] Tryz.func125 Z (z62 _ _ _ _) fun r1 n2=>Zq (I.geq Z Z)<|Za Z<|z24 4 Z fun y3=>Zn<|z0n<|Ze [] [1,2] Z
def z7p (a0:z0d) (c1_0:List (V3 × Bool)):Option (Bool) :=
 z2a a0.o.Preds c1_0 >>= fun r2 =>
 some (!r2)
theorem zk0 (a0:z0d) (p1_0:Value) (q1_0:Value) (c1_0:List (V3 × Bool)):z23 Tryz.prog 90 [.rd z0j a0,.val (z07 p1_0 0)] [(1,some (p1_0,.box 92 [.val q1_0])),(2,some (q1_0,.map aZ z0h c1_0))] (z7p a0 c1_0) (fun r nv=>⟨[.rd z0h r],[(1,some (p1_0,.box 92 [.val q1_0])),(2,some (q1_0,.map aZ z0h c1_0))]⟩):=by
 refine z2m 10 Tryz.func90 Z Z Z fun H w=>?_;refine gSR<|Eb Z (bx 3 Z) fun v1=>Zb Z<|gSR<|Zq (faB 3 Z Z Tryz.underlying94 Z (by exact z6h))<|Zq (faB 3 Z Z Tryz.underlying43 Z (by exact z8j))<|Zq (ld 3 Z Z ((fP (z61 _)).part (z0z _)) zbn Z)<|Zq (mkf mp0 (mp1 Z))<|Zc [1,2] [(1,1),(2,2)] Tryz.func79 Z (z5j _ _ _ _) fun r2 n3=>Zq (zds Z)<|Zb Z<|z0n<|Ze [] [1,2] Z
def z2o (a0:List z0d) (c1_0:List (V3 × Bool)) (s2:Int):Option (Sum (Sum Int Unit) Int) :=
 if decide (s2<(a0.length:Int)) then
  idx a0 s2 >>= fun x4 =>
  z7p x4 c1_0 >>= fun r6 =>
  if r6 then
   some (.inl (.inl s2))
  else
   some (.inr (w64 (s2+1)))
 else
  some (.inl (.inr ()))
def z1d (a0:List z0d) (c1_0:List (V3 × Bool)):Option (Int) :=
 z4y (iter (z2o a0 c1_0) 0) fun s1 =>
 some (-1)
theorem z4j (a0:List z0d) (q0:Value) (l0:List z0d) (p1_0:Value) (q1_0:Value) (c1_0:List (V3 × Bool)):z23 Tryz.prog 89 [.vw z0j q0 l0 a0,.val (.func (.func 90) #[] #[z07 p1_0 0])] [(1,some (q0,.list z0j 94 l0)),(2,some (p1_0,.box 92 [.val q1_0])),(3,some (q1_0,.map aZ z0h c1_0))] (z1d a0 c1_0) (fun r nv=>⟨[.rd z0f r],[(1,some (q0,.list z0j 94 l0)),(2,some (p1_0,.box 92 [.val q1_0])),(3,some (q1_0,.map aZ z0h c1_0))]⟩):=by
 refine z2m 19 Tryz.func89 Z Z Z fun H w=>?_;refine gSR<|Zb Z<|z7c (fun (s1:Unit) aa ww=>Sta (ctx 19 H [(1,some (q0,.list z0j 94 l0)),(2,some (p1_0,.box 92 [.val q1_0])),(3,some (q1_0,.map aZ z0h c1_0))] w) [] [(1,some (q0,.list z0j 94 l0)),(3,some (q1_0,.map aZ z0h c1_0)),(2,some (p1_0,.box 92 [.val q1_0]))] aa ww) ?_ (fun s1=>?_)
 ·refine gSR<|Zm Z<|Zq (z3e Z (.vw 1 Z) Z tu88)<|Zm Z<|Zn<|z29 (fun (s2:Int) aa ww=>Sta (ctx 19 H [(1,some (q0,.list z0j 94 l0)),(2,some (p1_0,.box 92 [.val q1_0])),(3,some (q1_0,.map aZ z0h c1_0))] w) [(0,.vw z0j q0 l0 a0),(1,.val (.func (.func 90) #[] #[z07 p1_0 0])),(7,.rd z0f (a0.length:Int)),(8,.rd z0f s2)] [(1,some (q0,.list z0j 94 l0)),(3,some (q1_0,.map aZ z0h c1_0)),(2,some (p1_0,.box 92 [.val q1_0]))] aa ww) (fun aa ww h=>Zu h [1,3,2]) (fun s2=>?_)
  refine gSR<|Zq (I.lss Z Z)<|Zn<|z0x<|gIf Z Z (fun h3=>?_) (fun h3=>?_)
  ·refine Zt<|z0x<|z4s<|gSR<|Zm Z<|Zb Z<|gSR<|Zm Z<|Zm Z<|Zm Z<|z0q fun x4 h5=>Zq (ixQ 1 Z Z Z h5 tu88 zme)<|Zq (ldQ 1 Z Z ty94 Z)<|zi0 [2,3] [(1,2),(2,3)] (gd0 Z) Z Z Tryz.func90 Z Z (zk0 _ _ _ _) (Y1 Z) (cQ 2 Z<|cN) (Zi Z<|Zi Z<|rN) fun r6 n7=>Zj Z (fun h8=>?_) (fun h8=>?_)
   ·refine gSR<|Zm Z<|Zb Z<|z0n<|z3m<|z0u<|z6c<|z58<|Ze [] [1,2,3] Z
   ·refine z30<|z3c<|z0y<|z28<|Zq (I.add Z Z)<|Zm Z<|z1p<|z1s (fun aa ww h=>Zu h [1,3,2])
  ·refine z27<|z19<|z1b<|z5q (fun aa ww h=>Zu h [1,3,2])
 ·refine gSR<|Zb Z<|z0n<|Ze [] [1,2,3] Z
def z8m (a0:List z05) (s3:(List z0d) × Int):Option (Sum (Sum ((List z0d) × Int) ((List z0d))) ((List z0d) × Int)) :=
 if decide (s3.2<(a0.length:Int)) then
  idx a0 s3.2 >>= fun x6 =>
  zow x6 >>= fun r9 =>
  if r9.2 != 0 then
   some (.inl (.inl ([],r9.2)))
  else
   z15 x6.Preds >>= fun r13 =>
   app 144 s3.1 [(⟨(⟨x6.Author,r13,x6.Stamp,x6.Act,x6.Sig⟩:z05),r9.1⟩:z0d)] >>= fun x16 =>
   some (.inr (x16,w64 (s3.2+1)))
 else
  some (.inl (.inr s3.1))
def z8p (r20:List z0d) (s25:(List (V3 × Bool)) × Int):Option (Sum (Sum ((List z0d) × Int) ((List (V3 × Bool)))) ((List (V3 × Bool)) × Int)) :=
 if decide (s25.2<(r20.length:Int)) then
  idx r20 s25.2 >>= fun x27 =>
  if (zbr s25.1 x27.id).getD false then
   some (.inl (.inl ([],14)))
  else
   some (.inr (zlg s25.1 x27.id true,w64 (s25.2+1)))
 else
  some (.inl (.inr s25.1))
def z6r (s32:(List z0d) × (List (V3 × Bool)) × (List z0d)):Option (Sum (Sum ((List z0d) × Int) ((List z0d))) ((List z0d) × (List (V3 × Bool)) × (List z0d))) :=
 if decide (0<(s32.1.length:Int)) then
  z1d s32.1 s32.2.1 >>= fun r35 =>
  if decide (r35<0) then
   some (.inl (.inl ([],36)))
  else
   idx s32.1 r35 >>= fun x38 =>
   app 144 s32.2.2 [x38] >>= fun x41 =>
   idx s32.1 r35 >>= fun x44 =>
   delL s32.1 r35 (w64 (r35+1)) >>= fun r46 =>
   some (.inr (r46,zro s32.2.1 x44.id,x41))
 else
  some (.inl (.inr s32.2.2))
def z9q (a0:List z05):Option ((List z0d) × Int) :=
 if decide (60<(a0.length:Int)) then
  some ([],4)
 else
  z4y (iter (z8m a0) ([],0)) fun s2 =>
  z13l s2 >>= fun r20 =>
  z4y (iter (z8p r20) (([]:List (V3 × Bool)),0)) fun s24 =>
  z4y (iter (z6r) (r20,s24,[])) fun s31 =>
  some (s31,0)
theorem zcm (a0:List z05):z23 Tryz.prog 45 [.rd (z02 z03) a0] [zG1] (z9q a0) (fun r nv=>⟨[.val (nv 0),.rd z0f r.2],[(1001,some (.bool true,.glob 1 (z3i 64 z0s) z6j)),(100,some (nv 0,.list z0j 94 r.1))]⟩):=by
 refine z2m 86 Tryz.func45 Z Z Z fun H w=>?_;refine gSR<|Za Z<|Zb Z<|z0x<|gSR<|Zm Z<|Zq (z3e Z .rd Z tu22)<|Zq (I.gtr Z Z)<|Zj Z (fun h1=>?_) (fun h1=>?_)
 ·refine gSR<|Za Z<|Zb Z<|z0n<|z0u<|zlp z0j 94 1<|Ze [(.slice none 0 0)] [1001,1] Z
 ·refine Zt<|gSR<|Zb Z<|z7c (fun (s2:(List z0d)) aa ww=>∃ nv:Nat→Value,Sta (ctx 86 H [zG1] w) [(4,.val (nv 0))] [(6,some ((nv 0),.list z0j 94 s2)),zG1] aa ww) ?_ (fun s2=>?_)
  ·refine gSR<|Zm Z<|Zq (z3e Z .rd Z tu22)<|Zm Z<|Zn<|zub z0j 94 1106<|z29 (fun (s3:(List z0d) × Int) aa ww=>∃ nv:Nat→Value,Sta (ctx 86 H [zG1] w) [(4,.val (nv 0)),(17,.rd (z02 z03) a0),(18,.rd z0f (a0.length:Int)),(19,.rd z0f s3.2)] [(1105,some ((nv 0),.list z0j 94 s3.1)),zG1] aa ww) (fun aa ww h=>⟨nvl [(.slice none 0 0)],Zu h [1106,1001]⟩) (fun s3=>?_);refine gEx fun n4=>gSR<|Zq (I.lss Z Z)<|Zn<|z0x<|gIf Z Z (fun h5=>?_) (fun h5=>?_)
   ·refine Zt<|z0x<|z4s<|gSR<|z0q fun x6 h7=>Zq (ixR Z Z h7 tu22 z6h Z)<|Zq (ldR Z za3)<|Eb Z (z6n 1107 z6h (ZrE.rd (R:=z0s) (x:=0) (Zr.num Z) (ZrE.nilS (ZrE.rd (R:=z1z) (x:=0) (Zr.num Z) (ZrE.rd (R:=z0c) (x:=(⟨0,[],(⟨0,0,0,[]⟩:z00)⟩:z0b)) zlm (ZrE.rd (R:=z0e) (x:=(⟨0,0⟩:z0a)) zlc ZrE.nil Z) Z) Z)) Z)) fun v8=>zhd aZ [.rd z0s 0,.rd (z02 aZ) [],.rd z1z 0,.rd z0c (⟨0,[],(⟨0,0,0,[]⟩:z00)⟩:z0b),.rd z0e (⟨0,0⟩:z0a)] 1107 [.rd z0s 0] [.rd z1z 0,.rd z0c (⟨0,[],(⟨0,0,0,[]⟩:z00)⟩:z0b),.rd z0e (⟨0,0⟩:z0a)] Z Z Z<|zgt (R:=z03) (⟨0,[],0,(⟨0,[],(⟨0,0,0,[]⟩:z00)⟩:z0b),(⟨0,0⟩:z0a)⟩:z05) 1107 Z (Sp.via (Sp.prod (Sp.prod (Sp.prod (Sp.prod (Sp.prod Sp.unit))))))<|Es (sto 1107 Z Z fH Z z6h)<|Zn<|gSR<|Zq (ld 1107 Z Z fH za3 Z)<|Zc [1001] [] Tryz.func65 Z (zhs _) fun r9 n10=>Zm Z<|Zq (ext Z Z)<|Zq (ext Z Z)<|Eb Z (z6n 1108 z31 (.zr (R:=aZ) (x:=(Vector.replicate 32 0)) zfo)) fun v11=>Es (sto 1108 Z Z fH Z z31)<|Zb Z<|z0x<|gSR<|Zm Z<|Zq (I.neq Z Z)<|Zj Z (fun h12=>?_) (fun h12=>?_)
    ·refine gSR<|Zm Z<|Za Z<|Zb Z<|z0n<|z0u<|z3m<|z0u<|z6c<|z58<|zlp z0j 94 1109<|Ze [(.slice none 0 0)] [1001,1109] Z
    ·refine Zt<|gSR<|Zq (faB 1107 Z Z Tryz.underlying43 Z (by exact z8j))<|Zq (ld 1107 Z Z (fP (z0z _)) zbn Z)<|Zc [] [(100,1110)] Tryz.func83 Z (z2g _) fun r13 n14=>Zq (faB 1107 Z Z Tryz.underlying43 Z (by exact z8j))<|lSpl (R:=z03) 1107 Z (Sp.via (Sp.prod (Sp.prod (Sp.prod (Sp.prod (Sp.prod Sp.unit))))))<|Es (zo4 1107 Z Z (z7f.cast (z7f.next z09 (z7f.here z09)) Z) Z z12 z08 z8j)<|Zn<|z28<|Zm Z<|lPow [.rd z0s x6.Author,.rd (z02 aZ) r13,.rd z1z x6.Stamp,.rd z0c x6.Act,.rd z0e x6.Sig] 1107 1110 [.rd z0s x6.Author] [.rd z1z x6.Stamp,.rd z0c x6.Act,.rd z0e x6.Sig] Z Z Z Z Z<|zgt (R:=z03) (⟨x6.Author,r13,x6.Stamp,x6.Act,x6.Sig⟩:z05) 1107 Z (Sp.via (Sp.prod (Sp.prod (Sp.prod (Sp.prod (Sp.prod Sp.unit))))))<|Zq (ld 1107 Z Z fH za3 Z)<|Zq (ld 1108 Z Z fH z59 Z)<|Zq (bld (x':=(⟨(⟨x6.Author,r13,x6.Stamp,x6.Act,x6.Sig⟩:z05),r9.1⟩:z0d)) [(0,11),(11,32)] Tryz.underlying94 zme Z zr94 Z (Bld.cons (z61 _) Z Z<|Bld.cons (z6s _) Z Z<|Bld.done Z))<|Ef Z (lit (R:=z0j) ([(⟨(⟨x6.Author,r13,x6.Stamp,x6.Act,x6.Sig⟩:z05),r9.1⟩:z0d)]:List z0d) 1111 (pP Z Z<|pN) Z tu88 zme Z Z) fun v15=>zg9 1111 [39] Z (fS Z<|fN)<|z0q fun x16 h17=>Ef Z (apn 1105 Z Z Z .rd h17 tu88 zme Z Z Z) fun v18=>Za Z<|z1p<|z3c<|z0y<|z28<|Zq (I.add Z Z)<|Zm Z<|z1p<|z1s (fun aa ww h=>⟨nvl [v18],Zu h [1105,1001]⟩)
   ·refine z27<|z19<|z1b<|z5q (fun aa ww h=>⟨nvl [(n4 0)],Zu h [1105,1001]⟩)
  ·refine gEx fun n19=>gSR<|Zm Z<|Zc [6] [(1,6)] Tryz.func87 Z (z13c _ _) fun r20 n21=>Zn<|gSR<|Ef Z (mkm aZ z0h 1112 (Or.inl Z) Tryz.underlying92) fun v22=>Eb Z (z6n 1113 ti92 (.val Z)) fun v23=>Es (zo4 1113 Z Z (.here z08) Z z12 z08 ti92)<|Zn<|z7c (fun (s24:(List (V3 × Bool))) aa ww=>Sta (ctx 86 H [zG1] w) [(4,.val (n19 0)),(9,.val (z07 v23 0))] [(6,some ((n19 0),.list z0j 94 r20)),(1112,some (v22,.map aZ z0h s24)),(1113,some (v23,.box 92 [.val v22])),zG1] aa ww) ?_ (fun s24=>?_)
   ·refine gSR<|Zm Z<|Zq (z3e Z (.own 6 Z) Z tu88)<|Zm Z<|Zn<|z29 (fun (s25:(List (V3 × Bool)) × Int) aa ww=>Sta (ctx 86 H [zG1] w) [(4,.val (n19 0)),(9,.val (z07 v23 0)),(45,.val (n19 0)),(46,.rd z0f (r20.length:Int)),(47,.rd z0f s25.2)] [(6,some ((n19 0),.list z0j 94 r20)),(1112,some (v22,.map aZ z0h s25.1)),(1113,some (v23,.box 92 [.val v22])),zG1] aa ww) (fun aa ww h=>Zu h [6,1112,1113,1001]) (fun s25=>?_)
    refine gSR<|Zq (I.lss Z Z)<|Zn<|z0x<|gIf Z Z (fun h26=>?_) (fun h26=>?_)
    ·refine Zt<|z0x<|z4s<|gSR<|z0q fun x27 h28=>Zq (ixO 6 Z Z Z h28 tu88 zme)<|Zq (ld 6 Z Z (Foc.el h28) ty94 Z)<|Eb Z (z6n 1114 zme (.zr (R:=z0j) (x:=(⟨(⟨0,[],0,(⟨0,[],(⟨0,0,0,[]⟩:z00)⟩:z0b),(⟨0,0⟩:z0a)⟩:z05),(Vector.replicate 32 0)⟩:z0d)) zr94)) fun v29=>Es (sto 1114 Z Z fH Z zme)<|Zn<|z0x<|gSR<|Zq (ldV 1113 Z Z .here sc92 Z)<|Zq (faB 1114 Z Z Tryz.underlying94 Z (by exact z31))<|Zq (ld 1114 Z Z (fP (z6s _)) z59 Z)<|Zq (mlk Z (.own 1112 Z Z) Z zz0 Tryz.underlying92 ti4 Zr.bool Z)<|Zj Z (fun h30=>?_) (fun h30=>?_)
     ·refine gSR<|Za Z<|Zb Z<|z0n<|z0u<|z3m<|z0u<|z6c<|z58<|zlp z0j 94 1115<|Ze [(.slice none 0 0)] [1001,1115] Z
     ·refine Zt<|z28<|Zq (ldV 1113 Z Z .here sc92 Z)<|Zq (faB 1114 Z Z Tryz.underlying94 Z (by exact z31))<|Zq (ld 1114 Z Z (fP (z6s _)) z59 Z)<|Es (mup 1112 Z Z Z Z zz0 Tryz.underlying92)<|z1p<|z3c<|z0y<|z28<|Zq (I.add Z Z)<|Zm Z<|z1p<|z1s (fun aa ww h=>Zu h [6,1112,1113,1001])
    ·refine z27<|z19<|z1b<|z5q (fun aa ww h=>Zu h [6,1112,1113,1001])
   ·refine gSR<|Zb Z<|z7c (fun (s31:(List z0d)) aa ww=>∃ nv:Nat→Value,Sta (ctx 86 H [zG1] w) [(12,.val (nv 0))] [(1117,some ((nv 0),.list z0j 94 s31)),zG1] aa ww) ?_ (fun s31=>?_)
    ·refine zub z0j 94 1121<|z29 (fun (s32:(List z0d) × (List (V3 × Bool)) × (List z0d)) aa ww=>∃ nv:Nat→Value,Sta (ctx 86 H [zG1] w) [(4,.val (nv 0)),(9,.val (z07 v23 0)),(12,.val (nv 1))] [(6,some ((nv 0),.list z0j 94 s32.1)),(1112,some (v22,.map aZ z0h s32.2.1)),(1113,some (v23,.box 92 [.val v22])),(1120,some ((nv 1),.list z0j 94 s32.2.2)),zG1] aa ww) (fun aa ww h=>⟨nvl [(n19 0),(.slice none 0 0)],Zu h [6,1112,1113,1121,1001]⟩) (fun s32=>?_)
     refine gEx fun n33=>z0x<|gSR<|Zm Z<|Zq (z3e Z (.own 6 Z) Z tu88)<|Zq (I.gtr Z Z)<|Zj Z (fun h34=>?_) (fun h34=>?_)
     ·refine Zt<|z4s<|gSR<|Zm Z<|Zq (mkf mp0 (mp1 Z))<|call [6,1113,1112] [(1,6),(2,1113),(3,1112)] Z Tryz.func89 Z Z (z4j _ _ _ _ _ _) (aW Z<|aQ Z<|aN) (Zi Z<|Zi Z<|Zi Z<|rN) fun r35 n36=>Zb Z<|z0x<|gSR<|Zm Z<|Zq (I.lss Z Z)<|Zj Z (fun h37=>?_) (fun h37=>?_)
      ·refine gSR<|Za Z<|Zb Z<|z0n<|z0u<|z3m<|z6c<|z58<|zlp z0j 94 1122<|Ze [(.slice none 0 0)] [1001,1122] Z
      ·refine Zt<|gSR<|Zm Z<|Zm Z<|Zm Z<|z0q fun x38 h39=>Zq (ixO 6 Z Z Z h39 tu88 zme)<|Zq (ld 6 Z Z (Foc.el h39) ty94 Z)<|Ef Z (lit (R:=z0j) ([x38]:List z0d) 1123 (pP Z Z<|pN) Z tu88 zme Z Z) fun v40=>zg9 1123 [72] Z (fS Z<|fN)<|z0q fun x41 h42=>Ef Z (apn 1120 Z Z Z .rd h42 tu88 zme Z Z Z) fun v43=>Zb Z<|z0x<|z9u [1112] mixed Z Z<|hTk 0 Z Z (ldV 1113 Z Z .here sc92 Z)<|hTk 1 Z Z (mv Z)<|hTk 2 Z Z (mv Z)<|z5n fun x44 h45=>hTk 3 Z Z (ixO 6 Z Z Z h45 tu88 zme)<|hTk 4 Z Z (fa 6 Z Z z11t (z1c0 h45) Tryz.underlying94 Z (by exact z31))<|hTk 5 Z Z (ld 6 Z Z ((Foc.el h45).part (z6s _)) z59 Z)<|hDoV 6 Z (by kernel_rfl) (gd0 Z) Z Z Z Z (mdeV 1112 Z Z Z zz0 Z Tryz.underlying92)<|z6e (by kernel_rfl)<|z0y<|z28<|Zm Z<|Zm Z<|Zm Z<|Zq (I.add Z Z)<|call [6] [(100,1148)] Z Tryz.func92 Z Z (z17t (R:=z0j) Z _ _ _ _) (aQ Z<|aQ Z<|aQ Z<|aN) (y1 Z) fun r46 n47=>Za Z<|z1p<|z3c<|z1s (fun aa ww h=>⟨nvl [(n47 0),v43],Zu h [1148,1112,1113,1120,1001]⟩)
     ·refine z27<|z19<|z1b<|z5q (fun aa ww h=>⟨nvl [(n33 1)],Zu h [1120,1001]⟩)
    ·refine gEx fun n48=>gSR<|Zm Z<|Za Z<|Zb Z<|z0n<|Ze [(n48 0)] [1001,1117] Z
def zd5 (s12:(List UInt8) × (List (V3 × Int)) × Int) (x15:z0d) (s34:(List UInt8) × Int):Option (Sum ((List UInt8)) ((List UInt8) × Int)) :=
 if decide (s34.2<(x15.o.Preds.length:Int)) then
  idx x15.o.Preds s34.2 >>= fun x37 =>
  some ((zbr s12.2.1 x37).getD 0) >>= fun y40 =>
  some ((zbr s12.2.1 x37).isSome) >>= fun y41 =>
  if y41 then
   z4n (UInt64.ofInt (w64 (s12.2.2 - y40))) >>= fun r43 =>
   app 1 s34.1 r43 >>= fun x45 =>
   some (.inr (x45,w64 (s34.2+1)))
  else
   app 1 s34.1 [0] >>= fun x49 =>
   app 1 x49 x37.toList >>= fun x52 =>
   some (.inr (x52,w64 (s34.2+1)))
 else
  some (.inl s34.1)
def zd2 (r1:(List z0d) × Int) (s12:(List UInt8) × (List (V3 × Int)) × Int):Option (Sum (Sum ((List UInt8) × Int) ((List UInt8))) ((List UInt8) × (List (V3 × Int)) × Int)) :=
 if decide (s12.2.2<(r1.1.length:Int)) then
  idx r1.1 s12.2.2 >>= fun x15 =>
  zdc (⟨x15.o.Author,[],x15.o.Stamp,x15.o.Act,x15.o.Sig⟩:z05) >>= fun r19 =>
  if r19.2 != 0 then
   some (.inl (.inl ([],r19.2)))
  else
   zbx r19.1 >>= fun r22 =>
   if r22.2 != 0 then
    some (.inl (.inl ([],r22.2)))
   else
    app 1 s12.1 r22.1 >>= fun x25 =>
    z4n (UInt64.ofInt (x15.o.Preds.length:Int)) >>= fun r28 =>
    app 1 x25 r28 >>= fun x30 =>
    (iter (zd5 s12 x15) (x30,0)) >>= fun s33 =>
    some (.inr (s33,zlg s12.2.1 x15.id s12.2.2,w64 (s12.2.2+1)))
 else
  some (.inl (.inr s12.1))
def z5w (a0:List z05):Option ((List UInt8) × Int) :=
 z9q a0 >>= fun r1 =>
 if r1.2 != 0 then
  some ([],r1.2)
 else
  z4n (UInt64.ofInt (r1.1.length:Int)) >>= fun r5 =>
  app 1 [112] r5 >>= fun x7 =>
  z4y (iter (zd2 r1) (x7,([]:List (V3 × Int)),0)) fun s11 =>
  some (s11,0)
theorem zfy (a0:List z05):z23 Tryz.prog 21 [.rd (z02 z03) a0] [zG1] (z5w a0) (fun r nv=>⟨[.val (nv 0),.rd z0f r.2],[(1001,some (.bool true,.glob 1 (z3i 64 z0s) z6j)),(100,some (nv 0,.list u8R 5 r.1))]⟩):=by
 refine z2m 103 Tryz.func21 Z Z Z fun H w=>?_;refine gSR<|Za Z<|Zb Z<|gSR<|Zm Z<|Zc [1001] [(100,1)] Tryz.func45 Z (zcm _) fun r1 n2=>Zm Z<|Zq (ext Z Z)<|Zq (ext Z Z)<|Za Z<|Zb Z<|z0x<|gSR<|Zm Z<|Zq (I.neq Z Z)<|Zj Z (fun h3=>?_) (fun h3=>?_)
 ·refine gSR<|Zm Z<|Za Z<|Zb Z<|z0n<|z0u<|zlp u8R 5 2<|Ze [(.slice none 0 0)] [1001,2] Z
 ·refine Zt<|gSR<|Ef Z (lit (R:=u8R) ([112]:List UInt8) 3 (pP Z Z<|pN) Z tu52 ti5 Z Z) fun v4=>Zm Z<|Zq (z3e Z (.own 1 Z) Z tu88)<|Zq (I.toU Z tu3 tu35)<|Zc [] [(100,4)] Tryz.func57 Z (z47 _) fun r5 n6=>z0q fun x7 h8=>Ef Z (apn 3 Z Z Z (.own 4 Z) h8 tu52 ti5 Z Z Z) fun v9=>Zb Z<|gSR<|Ef Z (mkm aZ z0f 5 (Or.inl Z) Tryz.underlying103) fun v10=>Zb Z<|z7c (fun (s11:(List UInt8)) aa ww=>∃ nv:Nat→Value,Sta (ctx 103 H [zG1] w) [(6,.val (nv 0))] [(3,some ((nv 0),.list u8R 5 s11)),zG1] aa ww) ?_ (fun s11=>?_)
  ·refine gSR<|Zm Z<|Zq (z3e Z (.own 1 Z) Z tu88)<|Zm Z<|Zn<|z29 (fun (s12:(List UInt8) × (List (V3 × Int)) × Int) aa ww=>∃ nv:Nat→Value,Sta (ctx 103 H [zG1] w) [(6,.val (nv 0)),(7,.val v10),(33,.val (n2 0)),(34,.rd z0f (r1.1.length:Int)),(35,.rd z0f s12.2.2)] [(3,some ((nv 0),.list u8R 5 s12.1)),(5,some (v10,.map aZ z0f s12.2.1)),(1,some ((n2 0),.list z0j 94 r1.1)),zG1] aa ww) (fun aa ww h=>⟨nvl [v9],Zu h [3,5,1,1001]⟩) (fun s12=>?_)
   refine gEx fun n13=>gSR<|Zq (I.lss Z Z)<|Zn<|z0x<|gIf Z Z (fun h14=>?_) (fun h14=>?_)
   ·refine Zt<|z0x<|z4s<|gSR<|Zm Z<|z0q fun x15 h16=>Zq (ixO 1 Z Z Z h16 tu88 zme)<|Zq (ld 1 Z Z (Foc.el h16) ty94 Z)<|Eb Z (z6n 1100 zme (.zr (R:=z0j) (x:=(⟨(⟨0,[],0,(⟨0,[],(⟨0,0,0,[]⟩:z00)⟩:z0b),(⟨0,0⟩:z0a)⟩:z05),(Vector.replicate 32 0)⟩:z0d)) zr94)) fun v17=>Za Z<|Es (sto 1100 Z Z fH Z zme)<|Zn<|gSR<|Zq (faB 1100 Z Z Tryz.underlying94 Z (by exact z6h))<|Zq (ld 1100 Z Z (fP (z61 _)) za3 Z)<|Eb Z (z6n 1101 z6h (ZrE.rd (R:=z0s) (x:=0) (Zr.num Z) (ZrE.nilS (ZrE.rd (R:=z1z) (x:=0) (Zr.num Z) (ZrE.rd (R:=z0c) (x:=(⟨0,[],(⟨0,0,0,[]⟩:z00)⟩:z0b)) zlm (ZrE.rd (R:=z0e) (x:=(⟨0,0⟩:z0a)) zlc ZrE.nil Z) Z) Z)) Z)) fun v18=>zhd aZ [.rd z0s 0,.rd (z02 aZ) [],.rd z1z 0,.rd z0c (⟨0,[],(⟨0,0,0,[]⟩:z00)⟩:z0b),.rd z0e (⟨0,0⟩:z0a)] 1101 [.rd z0s 0] [.rd z1z 0,.rd z0c (⟨0,[],(⟨0,0,0,[]⟩:z00)⟩:z0b),.rd z0e (⟨0,0⟩:z0a)] Z Z Z<|zgt (R:=z03) (⟨0,[],0,(⟨0,[],(⟨0,0,0,[]⟩:z00)⟩:z0b),(⟨0,0⟩:z0a)⟩:z05) 1101 Z (Sp.via (Sp.prod (Sp.prod (Sp.prod (Sp.prod (Sp.prod Sp.unit))))))<|Es (sto 1101 Z Z fH Z z6h)<|Zn<|gSR<|Zq (faB 1101 Z Z Tryz.underlying43 Z (by exact z8j))<|lSpl (R:=z03) 1101 Z (Sp.via (Sp.prod (Sp.prod (Sp.prod (Sp.prod (Sp.prod Sp.unit))))))<|Es (zo4 1101 Z Z (z7f.cast (z7f.next z09 (z7f.here z09)) Z) Z z12 z08 z8j)<|Zn<|gSR<|zhd aZ [.rd z0s x15.o.Author,.rd (z02 aZ) [],.rd z1z x15.o.Stamp,.rd z0c x15.o.Act,.rd z0e x15.o.Sig] 1101 [.rd z0s x15.o.Author] [.rd z1z x15.o.Stamp,.rd z0c x15.o.Act,.rd z0e x15.o.Sig] Z Z Z<|zgt (R:=z03) (⟨x15.o.Author,[],x15.o.Stamp,x15.o.Act,x15.o.Sig⟩:z05) 1101 Z (Sp.via (Sp.prod (Sp.prod (Sp.prod (Sp.prod (Sp.prod Sp.unit))))))<|Zq (ld 1101 Z Z fH za3 Z)<|Zc [] [(100,1102)] Tryz.func58 Z (zlz _) fun r19 n20=>Zm Z<|Zq (ext Z Z)<|Zq (ext Z Z)<|Za Z<|Zb Z<|z0x<|gSR<|Zm Z<|Zq (I.neq Z Z)<|Zj Z (fun h21=>?_) (fun h21=>?_)
    ·refine gSR<|Zm Z<|Za Z<|Zb Z<|z0n<|z0u<|z3m<|z0u<|z6c<|z58<|zlp u8R 5 1103<|Ze [(.slice none 0 0)] [1001,1103] Z
    ·refine Zt<|gSR<|Zm Z<|zg9 1102 [46,11,52] Z (fS Z<|fS Z<|fS Z<|fN)<|Zc [] [(100,1104)] Tryz.func59 Z (zfb _) fun r22 n23=>Zm Z<|Zq (ext Z Z)<|Zq (ext Z Z)<|Za Z<|Zb Z<|z0x<|gSR<|Zm Z<|Zq (I.neq Z Z)<|Zj Z (fun h24=>?_) (fun h24=>?_)
     ·refine gSR<|Zm Z<|Za Z<|Zb Z<|z0n<|z0u<|z3m<|z0u<|z6c<|z58<|zlp u8R 5 1105<|Ze [(.slice none 0 0)] [1001,1105] Z
     ·refine Zt<|z0x<|z9u [3,1130] mixed Z Z<|hTk 0 Z Z (mv Z)<|hTk 1 Z Z (mv Z)<|hTk 3 Z Z (faB 1100 Z Z Tryz.underlying94 Z (by exact z6h))<|hTk 4 Z Z (faB 1100 Z Z Tryz.underlying43 Z (by exact z8j))<|hTk 5 Z Z (ld 1100 Z Z ((fP (z61 _)).part (z0z _)) zbn Z)<|hTk 6 Z Z (z3e Z .rd Z tu29)<|hTk 7 Z Z (I.toU Z tu3 tu35)<|z5n fun x25 h26=>Zo 2 Z Z Z (apn 3 Z Z Z (.own 1104 Z) h26 tu52 ti5 Z Z Z) fun v27=>z5t 8 [] [(100,1130)] Z (by kernel_rfl) Z (gd0 Z) Z Tryz.func57 Z Z (z47 _) (Y1 Z) rN Z (fun _ _=>z3t) fun r28 n29=>z5n fun x30 h31=>Zo 9 Z Z Z (apn 3 Z Z Z (.own 1130 Z) h31 tu52 ti5 Z Z Z) fun v32=>Zf 10 Z Z z3t (asg Z)<|z6e (by kernel_rfl)<|z0y<|z7x (fun (s33:(List UInt8)) aa ww=>∃ nv:Nat→Value,Sta (ctx 103 H [zG1] w) [(6,.val (nv 0)),(7,.val v10),(8,.rd z0f s12.2.2),(9,.val (z07 v17 0)),(33,.val (n2 0)),(34,.rd z0f (r1.1.length:Int)),(35,.rd z0f s12.2.2)] [(3,some ((nv 0),.list u8R 5 s33)),(5,some (v10,.map aZ z0f s12.2.1)),(1100,some (v17,.box 94 [.rd z0j x15])),(1,some ((n2 0),.list z0j 94 r1.1)),zG1] aa ww) ?_ (fun s33=>?_)
      ·refine gSR<|Zq (faB 1100 Z Z Tryz.underlying94 Z (by exact z6h))<|Zq (faB 1100 Z Z Tryz.underlying43 Z (by exact z8j))<|Zq (ld 1100 Z Z ((fP (z61 _)).part (z0z _)) zbn Z)<|Zq (z3e Z .rd Z tu29)<|Zm Z<|Zn<|z29 (fun (s34:(List UInt8) × Int) aa ww=>∃ nv:Nat→Value,Sta (ctx 103 H [zG1] w) [(6,.val (nv 0)),(7,.val v10),(8,.rd z0f s12.2.2),(9,.val (z07 v17 0)),(33,.val (n2 0)),(34,.rd z0f (r1.1.length:Int)),(35,.rd z0f s12.2.2),(71,.rd (z02 aZ) x15.o.Preds),(72,.rd z0f (x15.o.Preds.length:Int)),(73,.rd z0f s34.2)] [(3,some ((nv 0),.list u8R 5 s34.1)),(5,some (v10,.map aZ z0f s12.2.1)),(1100,some (v17,.box 94 [.rd z0j x15])),(1,some ((n2 0),.list z0j 94 r1.1)),zG1] aa ww) (fun aa ww h=>⟨nvl [v32],Zu h [3,5,1100,1,1001]⟩) (fun s34=>?_)
       refine gEx fun n35=>gSR<|Zq (I.lss Z Z)<|Zn<|z0x<|gIf Z Z (fun h36=>?_) (fun h36=>?_)
       ·refine Zt<|z0x<|z4s<|gSR<|z0q fun x37 h38=>Zq (ixR Z Z h38 tu29 z31 Z)<|Zq (ldR Z z59)<|Eb Z (z6n 1142 z31 (.zr (R:=aZ) (x:=(Vector.replicate 32 0)) zfo)) fun v39=>Es (sto 1142 Z Z fH Z z31)<|Zn<|gSR<|Zm Z<|Zq (ld 1142 Z Z fH z59 Z)<|Zq (mlk2 Z (.own 5 Z Z) Z zz0 Tryz.underlying103 ti3 (Zr.num Z) Z)<|Zm Z<|Zq (ext Z Z)<|Zq (ext Z Z)<|Za Z<|z24 16 Z fun y40=>Za Z<|z24 17 Z fun y41=>Zn<|gSR<|Zm Z<|Zj Z (fun h42=>?_) (fun h42=>?_)
        ·refine gKn 17 Z h42<|z28<|Zm Z<|Zm Z<|Zm Z<|Zq (I.sub Z Z)<|Zq (I.toU Z tu3 tu35)<|Zc [] [(100,1143)] Tryz.func57 Z (z47 _) fun r43 n44=>z0q fun x45 h46=>Ef Z (apn 3 Z Z Z (.own 1143 Z) h46 tu52 ti5 Z Z Z) fun v47=>Za Z<|z1p<|z3c<|z0y<|z28<|Zq (I.add Z Z)<|Zm Z<|z1p<|z1s (fun aa ww h=>⟨nvl [v47],Zu h [3,5,1100,1,1001]⟩)
        ·refine gKn 17 Z h42<|z178 1142 15 Z Z<|z9u [3,1147] mixed Z Z<|hTk 0 Z Z (mv Z)<|hTk 3 Z Z (cutV Z tu45 ti5 Z Z Z)<|Zo 1 Z Z Z (lit (R:=u8R) ([0]:List UInt8) 1147 (pP Z Z<|pN) Z tu52 ti5 Z Z) fun v48=>z5n fun x49 h50=>Zo 2 Z Z Z (apn 3 Z Z Z (.own 1147 Z) h50 tu52 ti5 Z Z Z) fun v51=>z5n fun x52 h53=>Zo 4 Z Z Z (apn 3 Z Z Z .rd h53 tu52 ti5 Z Z Z) fun v54=>Zf 5 Z Z z3t (asg Z)<|z6e (by kernel_rfl)<|z3c<|z0y<|z28<|Zq (I.add Z Z)<|Zm Z<|z1p<|z1s (fun aa ww h=>⟨nvl [v54],Zu h [3,5,1100,1,1001]⟩)
       ·refine z27<|z19<|z1b<|z3k (fun aa ww h=>⟨nvl [(n35 0)],Zu h [3,5,1100,1,1001]⟩)
      ·refine gEx fun n55=>z28<|Zm Z<|Zq (faB 1100 Z Z Tryz.underlying94 Z (by exact z31))<|Zq (ld 1100 Z Z (fP (z6s _)) z59 Z)<|Zm Z<|Es (mup 5 Z Z Z Z zz0 Tryz.underlying103)<|z1p<|z3c<|z0y<|z28<|Zq (I.add Z Z)<|Zm Z<|z1p<|z1s (fun aa ww h=>⟨nvl [(n55 0)],Zu h [3,5,1,1001]⟩)
   ·refine z27<|z19<|z1b<|z5q (fun aa ww h=>⟨nvl [(n13 0)],Zu h [3,1001]⟩)
  ·refine gEx fun n56=>gSR<|Zm Z<|Za Z<|Zb Z<|z0n<|Ze [(n56 0)] [1001,3] Z
def z8e (a0:List UInt8) (a1:List UInt8) (s3:Int):Option (Sum (Sum Bool Unit) Int) :=
 if decide (s3<(a0.length:Int)) then
  idx a0 s3 >>= fun x5 =>
  idx a1 s3 >>= fun x7 =>
  if x5 != x7 then
   some (.inl (.inl false))
  else
   some (.inr (w64 (s3+1)))
 else
  some (.inl (.inr ()))
def z7m (a0:List UInt8) (a1:List UInt8):Option (Bool) :=
 if (a0.length:Int) != (a1.length:Int) then
  some false
 else
  z4y (iter (z8e a0 a1) 0) fun s2 =>
  some true
theorem zfn (a0:List UInt8) (a1:List UInt8):z23 Tryz.prog 26 [.rd (z02 u8R) a0,.rd (z02 u8R) a1] [] (z7m a0 a1) (fun r nv=>⟨[.rd z0h r],[]⟩):=by
 refine z2m 26 Tryz.func26 Z Z Z fun H w=>?_;refine gSR<|Zb Z<|z0x<|gSR<|Zm Z<|Zq (z3e Z .rd Z tu52)<|Zm Z<|Zq (z3e Z .rd Z tu52)<|Zq (I.neq Z Z)<|Zj Z (fun h1=>?_) (fun h1=>?_)
 ·refine gSR<|Zb Z<|z0n<|z0u<|Ze [] [] Z
 ·refine Zt<|z7c (fun (s2:Unit) aa ww=>Sta (ctx 26 H [] w) [] [] aa ww) ?_ (fun s2=>?_)
  ·refine gSR<|Zb Z<|z29 (fun (s3:Int) aa ww=>Sta (ctx 26 H [] w) [(0,.rd (z02 u8R) a0),(1,.rd (z02 u8R) a1),(5,.rd z0f s3)] [] aa ww) (fun aa ww h=>Zu h []) (fun s3=>?_);refine z0x<|gSR<|Zm Z<|Zm Z<|Zq (z3e Z .rd Z tu52)<|Zq (I.lss Z Z)<|Zj Z (fun h4=>?_) (fun h4=>?_)
   ·refine Zt<|z0x<|z4s<|z0x<|zix mixed (by kernel_rfl)<|Rq Z (mv Z)<|Rq Z (mv Z)<|z8n fun x5 h6=>Rq Z (ixR Z Z h6 tu52 ti5 Z)<|Rq Z (ldR Z ty5)<|Rq Z (mv Z)<|Rq Z (mv Z)<|z8n fun x7 h8=>Rq Z (ixR Z Z h8 tu52 ti5 Z)<|Rq Z (ldR Z ty5)<|Rq Z (B.neq Z Z)<|zvk<|z0y<|gIf Z Z (fun h9=>?_) (fun h9=>?_)
    ·refine gSR<|Zb Z<|z0n<|z3m<|z0u<|z6c<|z58<|Ze [] [] Z
    ·refine z30<|z3c<|z0y<|z28<|Zm Z<|Zq (I.add Z Z)<|Za Z<|z1p<|z1s (fun aa ww h=>Zu h [])
   ·refine z27<|z19<|z1b<|z5q (fun aa ww h=>Zu h [])
  ·refine gSR<|Zb Z<|z0n<|Ze [] [] Z
def z56 (a0:List z05) (a1:List UInt8):Option (Bool) :=
 z5w a0 >>= fun r1 =>
 if r1.2==0 then
  z7m r1.1 a1 >>= fun r4 =>
  some r4
 else
  some false
theorem z8g (a0:List z05) (a1:List UInt8):z23 Tryz.prog 42 [.rd (z02 z03) a0,.rd (z02 u8R) a1] [zG1] (z56 a0 a1) (fun r nv=>⟨[.rd z0h r],[(1001,some (.bool true,.glob 1 (z3i 64 z0s) z6j))]⟩):=by
 refine z2m 19 Tryz.func42 Z Z Z fun H w=>?_;refine gSR<|Zb Z<|gSR<|Zm Z<|Zc [1001] [(100,1)] Tryz.func21 Z (zfy _) fun r1 n2=>Zm Z<|Zq (ext Z Z)<|Zq (ext Z Z)<|Za Z<|Zb Z<|gSR<|Zm Z<|Zq (I.eql Z Z)<|Zm Z<|z1h 14 Z (fun h3=>?_) (fun h3=>?_)
 ·refine lKn 13 Z h3<|z13 Zx Z Z (mv Z)<|z13 Zx Z Z (mv Z)<|zg9 1 [10,5,15] Z (fS Z<|fS Z<|fS Z<|fN)<|zd3 [] [] Zx Z Tryz.func26 Z Z (zfn _ _) (Y2 Z Z) rN fun r4 n5=>Zq (pkT Z Z)<|Zb Z<|z0n<|Ze [] [1001] Z
 ·refine lKn 13 Z h3<|Zk Z<|Zk Z<|Zk Z<|Zq (pkF Z Z)<|Zb Z<|z0n<|Ze [] [1001] Z
def zaq  : Option (Bool) :=
 zad >>= fun r1 =>
 if !r1.2.2 then
  some false
 else
  app 1 [112,1] [9,111,4,0,7,2,1,97,5,6] >>= fun x8 =>
  app 1 x8 [0] >>= fun x12 =>
  app 1 [112,2] [9,111,4,0,7,2,1,97,5,6] >>= fun x16 =>
  app 1 x16 [0] >>= fun x20 =>
  app 1 ([]:List UInt8) [9,111,4,0,7,2,1,97,5,6] >>= fun x24 =>
  app 1 x24 [1,1] >>= fun x28 =>
  app 1 x20 x28 >>= fun x31 =>
  app 1 [112,1] [9,111,4,0,7,2,1,97,5,6] >>= fun x34 =>
  app 1 x34 [1,0] >>= fun x36 =>
  idx r1.2.1.Preds 0 >>= fun x38 =>
  app 1 x36 x38.toList >>= fun x40 =>
  z56 [] [112,0] >>= fun r44 =>
  if r44 then
   z56 [r1.1] x12 >>= fun r48 =>
   if r48 then
    z56 [r1.2.1,r1.1] x31 >>= fun r52 =>
    if r52 then
     z56 [r1.2.1] x40 >>= fun r56 =>
     some r56
    else
     some false
   else
    some false
  else
   some false
set_option maxHeartbeats 4000000 in
theorem zik  : z23 Tryz.prog 9 [] [zG1] (zaq) (fun r nv=>⟨[.rd z0h r],[(1001,some (.bool true,.glob 1 (z3i 64 z0s) z6j))]⟩):=by
 refine z2m 63 Tryz.func9 Z Z Z fun H w=>?_;refine gSR<|Zb Z<|gSR<|Zc [1001] [] Tryz.func33 Z (ziu) fun r1 n2=>Zm Z<|Zq (ext Z Z)<|Zq (ext Z Z)<|Zq (ext Z Z)<|Eb Z (z6n 1 z6h (ZrE.rd (R:=z0s) (x:=0) (Zr.num Z) (ZrE.nilS (ZrE.rd (R:=z1z) (x:=0) (Zr.num Z) (ZrE.rd (R:=z0c) (x:=(⟨0,[],(⟨0,0,0,[]⟩:z00)⟩:z0b)) zlm (ZrE.rd (R:=z0e) (x:=(⟨0,0⟩:z0a)) zlc ZrE.nil Z) Z) Z)) Z)) fun v3=>Eb Z (z6n 2 z6h (ZrE.rd (R:=z0s) (x:=0) (Zr.num Z) (ZrE.nilS (ZrE.rd (R:=z1z) (x:=0) (Zr.num Z) (ZrE.rd (R:=z0c) (x:=(⟨0,[],(⟨0,0,0,[]⟩:z00)⟩:z0b)) zlm (ZrE.rd (R:=z0e) (x:=(⟨0,0⟩:z0a)) zlc ZrE.nil Z) Z) Z)) Z)) fun v4=>zhd aZ [.rd z0s 0,.rd (z02 aZ) [],.rd z1z 0,.rd z0c (⟨0,[],(⟨0,0,0,[]⟩:z00)⟩:z0b),.rd z0e (⟨0,0⟩:z0a)] 1 [.rd z0s 0] [.rd z1z 0,.rd z0c (⟨0,[],(⟨0,0,0,[]⟩:z00)⟩:z0b),.rd z0e (⟨0,0⟩:z0a)] Z Z Z<|zgt (R:=z03) (⟨0,[],0,(⟨0,[],(⟨0,0,0,[]⟩:z00)⟩:z0b),(⟨0,0⟩:z0a)⟩:z05) 1 Z (Sp.via (Sp.prod (Sp.prod (Sp.prod (Sp.prod (Sp.prod Sp.unit))))))<|Es (sto 1 Z Z fH Z z6h)<|zhd aZ [.rd z0s 0,.rd (z02 aZ) [],.rd z1z 0,.rd z0c (⟨0,[],(⟨0,0,0,[]⟩:z00)⟩:z0b),.rd z0e (⟨0,0⟩:z0a)] 2 [.rd z0s 0] [.rd z1z 0,.rd z0c (⟨0,[],(⟨0,0,0,[]⟩:z00)⟩:z0b),.rd z0e (⟨0,0⟩:z0a)] Z Z Z<|zgt (R:=z03) (⟨0,[],0,(⟨0,[],(⟨0,0,0,[]⟩:z00)⟩:z0b),(⟨0,0⟩:z0a)⟩:z05) 2 Z (Sp.via (Sp.prod (Sp.prod (Sp.prod (Sp.prod (Sp.prod Sp.unit))))))<|Es (sto 2 Z Z fH Z z6h)<|Zb Z<|z0x<|gSR<|Zm Z<|Zq (zds Z)<|Zj Z (fun h5=>?_) (fun h5=>?_)
 ·refine gSR<|Zb Z<|z0n<|z0u<|Ze [] [1001] Z
 ·refine Zt<|gSR<|Ef Z (lit (R:=u8R) ([9,111,4,0,7,2,1,97,5,6]:List UInt8) 3 (pP Z Z<|pP Z Z<|pP Z Z<|pP Z Z<|pP Z Z<|pP Z Z<|pP Z Z<|pP Z Z<|pP Z Z<|pP Z Z<|pN) Z tu52 ti5 Z Z) fun v6=>Zb Z<|gSR<|Ef Z (lit (R:=u8R) ([112,1]:List UInt8) 4 (pP Z Z<|pP Z Z<|pN) Z tu52 ti5 Z Z) fun v7=>Zm Z<|z0q fun x8 h9=>Ef Z (apn 4 Z Z Z (.own 3 Z) h9 tu52 ti5 Z Z Z) fun v10=>Ef Z (lit (R:=u8R) ([0]:List UInt8) 5 (pP Z Z<|pN) Z tu52 ti5 Z Z) fun v11=>z0q fun x12 h13=>Ef Z (apn 4 Z Z Z (.own 5 Z) h13 tu52 ti5 Z Z Z) fun v14=>Zb Z<|gSR<|Ef Z (lit (R:=u8R) ([112,2]:List UInt8) 6 (pP Z Z<|pP Z Z<|pN) Z tu52 ti5 Z Z) fun v15=>Zm Z<|z0q fun x16 h17=>Ef Z (apn 6 Z Z Z (.own 3 Z) h17 tu52 ti5 Z Z Z) fun v18=>Ef Z (lit (R:=u8R) ([0]:List UInt8) 7 (pP Z Z<|pN) Z tu52 ti5 Z Z) fun v19=>z0q fun x20 h21=>Ef Z (apn 6 Z Z Z (.own 7 Z) h21 tu52 ti5 Z Z Z) fun v22=>Ef Z (lit (R:=u8R) (([]:List UInt8):List UInt8) 8 (pN) Z tu52 ti5 Z Z) fun v23=>Zm Z<|z0q fun x24 h25=>Ef Z (apn 8 Z Z Z (.own 3 Z) h25 tu52 ti5 Z Z Z) fun v26=>Ef Z (lit (R:=u8R) ([1,1]:List UInt8) 9 (pP Z Z<|pP Z Z<|pN) Z tu52 ti5 Z Z) fun v27=>z0q fun x28 h29=>Ef Z (apn 8 Z Z Z (.own 9 Z) h29 tu52 ti5 Z Z Z) fun v30=>z0q fun x31 h32=>Ef Z (apn 6 Z Z Z (.own 8 Z) h32 tu52 ti5 Z Z Z) fun v33=>Zb Z<|z0x<|zxx [(1,.val (z07 v3 0)),(2,.val (z07 v4 0)),(4,.val v6),(5,.val v14),(6,.val v33)] [zG1,(1,some (v3,.box 43 [.rd z03 r1.1])),(2,some (v4,.box 43 [.rd z03 r1.2.1])),(3,some (v6,.list u8R 5 [9,111,4,0,7,2,1,97,5,6])),(4,some (v14,.list u8R 5 x12)),(5,some (v11,.list u8R 5 [0])),(6,some (v33,.list u8R 5 x31)),(7,some (v19,.list u8R 5 [0])),(8,some (v30,.list u8R 5 x28)),(9,some (v27,.list u8R 5 [1,1]))] [1001,1,2,3,4,5,6,7,8,9] (Zs Z Z Z Z<|sS Z<|sN) (Zi Z<|Zi Z<|Zi Z<|Zi Z<|Zi Z<|Zi Z<|Zi Z<|Zi Z<|Zi Z<|Zi Z<|rN)<|z83 fun x34 h35=>z83 fun x36 h37=>z83 fun x38 h39=>z83 fun x40 h41=>gOr [] [⟨10,none,[(0,some ([1], fun nv=>((nv 1),.list u8R 5 [112,1]))),(2,some ([2], fun nv=>((nv 2),.list u8R 5 x34))),(4,some ([4], fun nv=>((nv 4),.list u8R 5 x36))),(9,some ([5], fun nv=>((nv 5),.list u8R 5 x40)))]⟩,⟨3,some ([], fun nv=>(v6,.list u8R 5 [9,111,4,0,7,2,1,97,5,6])),[]⟩,⟨11,none,[(3,some ([3], fun nv=>((nv 3),.list u8R 5 [1,0])))]⟩,⟨2,some ([], fun nv=>(v4,.box 43 [.rd z03 r1.2.1])),[]⟩] [⟨some (32,[1], fun nv=>.val (nv 1)),[(0,0,true)],[1],[]⟩,pd 33 (.val v6),⟨some (34,[2], fun nv=>.val (nv 2)),[(0,1,true),(1,0,false)],[2],[]⟩,⟨some (35,[3], fun nv=>.val (nv 3)),[(2,0,true)],[3],[]⟩,⟨some (36,[4], fun nv=>.val (nv 4)),[(0,2,true),(2,1,false)],[4],[]⟩,pk 37 (.val (z07 v4 (0+1))) [(3,0,false)],pk 38 (.rd (z02 aZ) r1.2.1.Preds) [(3,0,false)],pd 39 (.rp aZ x38),pd 40 (.rd (z02 u8R) x38.toList),⟨some (41,[5], fun nv=>.val (nv 5)),[(0,3,true)],[5],[]⟩,⟨some (7,[5], fun nv=>.val (nv 5)),[],[],[]⟩] mixed (oC (oEf 10 1 (fun nv E=>lit (R:=u8R) ([112,1]:List UInt8) 10 (pP Z Z<|pP Z Z<|pN) Z tu52 ti5 Z Z))<|oC (oRn (fun nv E=>mv Z))<|oC (oEf 10 2 (fun nv E=>apn 10 Z Z Z (.own 3 Z) h35 tu52 ti5 Z Z Z))<|oC (oEf 11 3 (fun nv E=>lit (R:=u8R) ([1,0]:List UInt8) 11 (pP Z Z<|pP Z Z<|pN) Z tu52 ti5 Z Z))<|oC (oEf 10 4 (fun nv E=>apn 10 Z Z Z (.own 11 Z) h37 tu52 ti5 Z Z Z))<|oC (oRn (fun nv E=>faB 2 Z Z Tryz.underlying43 Z (by exact z8j)))<|oC (oRn (fun nv E=>ld 2 Z Z (fP (z0z _)) zbn Z))<|oC (oRn (fun nv E=>ixR Z Z h39 tu29 z31 Z))<|oC (oRn (fun nv E=>cutV Z tu45 ti5 Z Z Z))<|oC (oEf 10 5 (fun nv E=>apn 10 Z Z Z .rd h41 tu52 ti5 Z Z Z))<|oC (oRn (fun nv E=>asg Z))<|oN) fun n42=>z0y<|gSR<|Ef Z (lit (R:=u8R) ([112,0]:List UInt8) 12 (pP Z Z<|pP Z Z<|pN) Z tu52 ti5 Z Z) fun v43=>zg9 12 [42] Z (fS Z<|fN)<|call [1001] [] Z Tryz.func42 Z Z (z8g _ _) (aNil Z<|aQ Z<|aN) (y1 Z) fun r44 n45=>Zm Z<|z1h 44 Z (fun h46=>?_) (fun h46=>?_)
  ·refine lKn 43 Z h46<|z13 Zx Z Z (ld 1 Z Z fH za3 Z)<|Efg Zx Z Z (lit (R:=z03) ([r1.1]:List z05) 13 (pP Z Z<|pN) Z tu22 z6h Z Z) fun v47=>z13 Zx Z Z (mv Z)<|zg9 13 [46] Z (fS Z<|fN)<|zg9 4 [5,47] Z (fS Z<|fS Z<|fN)<|zd3 [1001] [] Zx Z Tryz.func42 Z Z (z8g _ _) (Y2 Z Z) (y1 Z) fun r48 n49=>Zq (pkT Z Z)<|Zm Z<|z1h 50 Z (fun h50=>?_) (fun h50=>?_)
   ·refine lKn 48 Z h50<|lKn 49 Z h50<|z13 Zx Z Z (ld 2 Z Z fH za3 Z)<|z13 Zx Z Z (ld 1 Z Z fH za3 Z)<|Efg Zx Z Z (lit (R:=z03) ([r1.2.1,r1.1]:List z05) 14 (pP Z Z<|pP Z Z<|pN) Z tu22 z6h Z Z) fun v51=>z13 Zx Z Z (mv Z)<|zg9 14 [53] Z (fS Z<|fN)<|zg9 6 [6,54] Z (fS Z<|fS Z<|fN)<|zd3 [1001] [] Zx Z Tryz.func42 Z Z (z8g _ _) (Y2 Z Z) (y1 Z) fun r52 n53=>Zq (pkT Z Z)<|Zm Z<|z1h 57 Z (fun h54=>?_) (fun h54=>?_)
    ·refine lKn 55 Z h54<|lKn 56 Z h54<|z13 Zx Z Z (ld 2 Z Z fH za3 Z)<|Efg Zx Z Z (lit (R:=z03) ([r1.2.1]:List z05) 15 (pP Z Z<|pN) Z tu22 z6h Z Z) fun v55=>z13 Zx Z Z (mv Z)<|zg9 15 [59] Z (fS Z<|fN)<|zg9 10 [41,7,60] Z (fS Z<|fS Z<|fS Z<|fN)<|zd3 [1001] [] Zx Z Tryz.func42 Z Z (z8g _ _) (Y2 Z Z) (y1 Z) fun r56 n57=>Zq (pkT Z Z)<|Zb Z<|z0n<|Ze [] [1001] Z
    ·refine lKn 55 Z h54<|lKn 56 Z h54<|Zk Z<|Zk Z<|Zk Z<|Zk Z<|Zq (pkF Z Z)<|Zb Z<|z0n<|Ze [] [1001] Z
   ·refine lKn 48 Z h50<|lKn 49 Z h50<|Zk Z<|Zk Z<|Zk Z<|Zk Z<|Zk Z<|Zq (pkF Z Z)<|Zm Z<|Zk Z<|Zk Z<|Zk Z<|Zk Z<|Zq (pkF Z Z)<|Zb Z<|z0n<|Ze [] [1001] Z
  ·refine lKn 43 Z h46<|Zk Z<|Zk Z<|Zk Z<|Zk Z<|Zq (pkF Z Z)<|Zm Z<|Zk Z<|Zk Z<|Zk Z<|Zk Z<|Zk Z<|Zq (pkF Z Z)<|Zm Z<|Zk Z<|Zk Z<|Zk Z<|Zk Z<|Zq (pkF Z Z)<|Zb Z<|z0n<|Ze [] [1001] Z
def z8x (a0:List z0d) (s2:(List z05) × Int):Option (Sum ((List z05)) ((List z05) × Int)) :=
 if decide (s2.2<(a0.length:Int)) then
  idx a0 s2.2 >>= fun x5 =>
  app 112 s2.1 [x5.o] >>= fun x9 =>
  some (.inr (x9,w64 (s2.2+1)))
 else
  some (.inl s2.1)
def zbf (a0:List z0d):Option ((List z05)) :=
 (iter (z8x a0) ([],0)) >>= fun s1 =>
 some s1
theorem zki (a0:List z0d):z23 Tryz.prog 46 [.rd (z02 z0j) a0] [] (zbf a0) (fun r nv=>⟨[.val (nv 0)],[(100,some (nv 0,.list z03 43 r))]⟩):=by
 refine z2m 19 Tryz.func46 Z Z Z fun H w=>?_;refine gSR<|Zb Z<|gSR<|Zb Z<|z7x (fun (s1:(List z05)) aa ww=>∃ nv:Nat→Value,Sta (ctx 19 H [] w) [(3,.val (nv 0))] [(3,some ((nv 0),.list z03 43 s1))] aa ww) ?_ (fun s1=>?_)
 ·refine gSR<|Zm Z<|Zq (z3e Z .rd Z tu88)<|Zm Z<|Zn<|zub z03 43 7<|z29 (fun (s2:(List z05) × Int) aa ww=>∃ nv:Nat→Value,Sta (ctx 19 H [] w) [(3,.val (nv 0)),(6,.rd (z02 z0j) a0),(7,.rd z0f (a0.length:Int)),(8,.rd z0f s2.2)] [(6,some ((nv 0),.list z03 43 s2.1))] aa ww) (fun aa ww h=>⟨nvl [(.slice none 0 0)],Zu h [7]⟩) (fun s2=>?_);refine gEx fun n3=>gSR<|Zq (I.lss Z Z)<|Zn<|z0x<|gIf Z Z (fun h4=>?_) (fun h4=>?_)
  ·refine Zt<|z0x<|z4s<|gSR<|z0q fun x5 h6=>Zq (ixR Z Z h6 tu88 zme Z)<|Zq (ldR Z ty94)<|Eb Z (z6n 8 zme (.zr (R:=z0j) (x:=(⟨(⟨0,[],0,(⟨0,[],(⟨0,0,0,[]⟩:z00)⟩:z0b),(⟨0,0⟩:z0a)⟩:z05),(Vector.replicate 32 0)⟩:z0d)) zr94)) fun v7=>Es (sto 8 Z Z fH Z zme)<|Zn<|z28<|Zm Z<|Zq (faB 8 Z Z Tryz.underlying94 Z (by exact z6h))<|Zq (ld 8 Z Z (fP (z61 _)) za3 Z)<|Ef Z (lit (R:=z03) ([x5.o]:List z05) 9 (pP Z Z<|pN) Z tu22 z6h Z Z) fun v8=>zg9 9 [15] Z (fS Z<|fN)<|z0q fun x9 h10=>Ef Z (apn 6 Z Z Z .rd h10 tu22 z6h Z Z Z) fun v11=>Za Z<|z1p<|z3c<|z0y<|z28<|Zq (I.add Z Z)<|Zm Z<|z1p<|z1s (fun aa ww h=>⟨nvl [v11],Zu h [6]⟩)
  ·refine z27<|z19<|z1b<|z3k (fun aa ww h=>⟨nvl [(n3 0)],Zu h [6]⟩)
 ·refine gEx fun n12=>gSR<|Zm Z<|Zb Z<|z0n<|Ze [(n12 0)] [3] Z
def zf4 (a0:List z05):Option ((List z05) × Int) :=
 z9q a0 >>= fun r1 =>
 if r1.2 != 0 then
  some ([],r1.2)
 else
  zbf r1.1 >>= fun r4 =>
  some (r4,0)
theorem zso (a0:List z05):z23 Tryz.prog 12 [.rd (z02 z03) a0] [zG1] (zf4 a0) (fun r nv=>⟨[.val (nv 0),.rd z0f r.2],[(1001,some (.bool true,.glob 1 (z3i 64 z0s) z6j)),(100,some (nv 0,.list z03 43 r.1))]⟩):=by
 refine z2m 16 Tryz.func12 Z Z Z fun H w=>?_;refine gSR<|Za Z<|Zb Z<|gSR<|Zm Z<|Zc [1001] [(100,1)] Tryz.func45 Z (zcm _) fun r1 n2=>Zm Z<|Zq (ext Z Z)<|Zq (ext Z Z)<|Za Z<|Zb Z<|z0x<|gSR<|Zm Z<|Zq (I.neq Z Z)<|Zj Z (fun h3=>?_) (fun h3=>?_)
 ·refine gSR<|Zm Z<|Za Z<|Zb Z<|z0n<|z0u<|zlp z03 43 2<|Ze [(.slice none 0 0)] [1001,2] Z
 ·refine Zt<|gSR<|Zm Z<|zg9 1 [9,4,14] Z (fS Z<|fS Z<|fS Z<|fN)<|Zc [] [(100,3)] Tryz.func46 Z (zki _) fun r4 n5=>Za Z<|Zb Z<|z0n<|Ze [(n5 0)] [1001,3] Z
def zb7 (r1:(List z0d) × Int) (s6:(List (V3 × Bool)) × Int):Option (Sum ((List (V3 × Bool))) ((List (V3 × Bool)) × Int)) :=
 if decide (s6.2<(r1.1.length:Int)) then
  idx r1.1 s6.2 >>= fun x8 =>
  some (.inr (zlg s6.1 x8.id true,w64 (s6.2+1)))
 else
  some (.inl s6.1)
def z9g (s5:(List (V3 × Bool))) (x16:z0d) (s19:(List V3) × Int):Option (Sum ((List V3)) ((List V3) × Int)) :=
 if decide (s19.2<(x16.o.Preds.length:Int)) then
  idx x16.o.Preds s19.2 >>= fun x22 =>
  if !((zbr s5 x22).getD false) then
   app 32 s19.1 [x22] >>= fun x27 =>
   some (.inr (x27,w64 (s19.2+1)))
  else
   some (.inr (s19.1,w64 (s19.2+1)))
 else
  some (.inl s19.1)
def zbh (r1:(List z0d) × Int) (s5:(List (V3 × Bool))) (s12:(List V3) × Int):Option (Sum ((List V3)) ((List V3) × Int)) :=
 if decide (s12.2<(r1.1.length:Int)) then
  (idx r1.1 s12.2 >>= fun x16 =>
  iter (z9g s5 x16) (s12.1,0)) >>= fun s15 =>
  some (.inr (s15,w64 (s12.2+1)))
 else
  some (.inl s12.1)
def zck (a0:List z05):Option ((List V3) × Int) :=
 z9q a0 >>= fun r1 =>
 if r1.2 != 0 then
  some ([],r1.2)
 else
  (iter (zb7 r1) (([]:List (V3 × Bool)),0)) >>= fun s5 =>
  (iter (zbh r1 s5) ([],0)) >>= fun s11 =>
  z10e s11 >>= fun r32 =>
  z1g r32 >>= fun r34 =>
  some (r34,0)
theorem zny (a0:List z05):z23 Tryz.prog 13 [.rd (z02 z03) a0] [zG1] (zck a0) (fun r nv=>⟨[.val (nv 0),.rd z0f r.2],[(1001,some (.bool true,.glob 1 (z3i 64 z0s) z6j)),(100,some (nv 0,.list aZ 45 r.1))]⟩):=by
 refine z2m 61 Tryz.func13 Z Z Z fun H w=>?_;refine gSR<|Za Z<|Zb Z<|gSR<|Zm Z<|Zc [1001] [(100,1)] Tryz.func45 Z (zcm _) fun r1 n2=>Zm Z<|Zq (ext Z Z)<|Zq (ext Z Z)<|Za Z<|Zb Z<|z0x<|gSR<|Zm Z<|Zq (I.neq Z Z)<|Zj Z (fun h3=>?_) (fun h3=>?_)
 ·refine gSR<|Zm Z<|Za Z<|Zb Z<|z0n<|z0u<|zlp aZ 45 2<|Ze [(.slice none 0 0)] [1001,2] Z
 ·refine Zt<|gSR<|Ef Z (mkm aZ z0h 3 (Or.inl Z) Tryz.underlying92) fun v4=>Zb Z<|gSR<|Zb Z<|z7x (fun (s5:(List (V3 × Bool))) aa ww=>Sta (ctx 61 H [zG1] w) [(4,.val (n2 0)),(6,.val v4),(7,.val (.slice none 0 0))] [(1,some ((n2 0),.list z0j 94 r1.1)),(3,some (v4,.map aZ z0h s5)),zG1] aa ww) ?_ (fun s5=>?_)
  ·refine gSR<|Zm Z<|Zq (z3e Z (.own 1 Z) Z tu88)<|Zm Z<|Zn<|z29 (fun (s6:(List (V3 × Bool)) × Int) aa ww=>Sta (ctx 61 H [zG1] w) [(4,.val (n2 0)),(6,.val v4),(7,.val (.slice none 0 0)),(23,.val (n2 0)),(24,.rd z0f (r1.1.length:Int)),(25,.rd z0f s6.2)] [(1,some ((n2 0),.list z0j 94 r1.1)),(3,some (v4,.map aZ z0h s6.1)),zG1] aa ww) (fun aa ww h=>Zu h [1,3,1001]) (fun s6=>?_);refine gSR<|Zq (I.lss Z Z)<|Zn<|z0x<|gIf Z Z (fun h7=>?_) (fun h7=>?_)
   ·refine Zt<|z0x<|z4s<|gSR<|z0q fun x8 h9=>Zq (ixO 1 Z Z Z h9 tu88 zme)<|Zq (ld 1 Z Z (Foc.el h9) ty94 Z)<|Eb Z (z6n 1100 zme (.zr (R:=z0j) (x:=(⟨(⟨0,[],0,(⟨0,[],(⟨0,0,0,[]⟩:z00)⟩:z0b),(⟨0,0⟩:z0a)⟩:z05),(Vector.replicate 32 0)⟩:z0d)) zr94)) fun v10=>Es (sto 1100 Z Z fH Z zme)<|Zn<|z28<|Zm Z<|Zq (faB 1100 Z Z Tryz.underlying94 Z (by exact z31))<|Zq (ld 1100 Z Z (fP (z6s _)) z59 Z)<|Es (mup 3 Z Z Z Z zz0 Tryz.underlying92)<|z1p<|z3c<|z0y<|z28<|Zq (I.add Z Z)<|Zm Z<|z1p<|z1s (fun aa ww h=>Zu h [1,3,1001])
   ·refine z27<|z19<|z1b<|z3k (fun aa ww h=>Zu h [1,3,1001])
  ·refine z7x (fun (s11:(List V3)) aa ww=>∃ nv:Nat→Value,Sta (ctx 61 H [zG1] w) [(7,.val (nv 0))] [(1104,some ((nv 0),.list aZ 45 s11)),zG1] aa ww) ?_ (fun s11=>?_)
   ·refine gSR<|Zm Z<|Zq (z3e Z (.own 1 Z) Z tu88)<|Zm Z<|Zn<|zub aZ 45 1109<|z29 (fun (s12:(List V3) × Int) aa ww=>∃ nv:Nat→Value,Sta (ctx 61 H [zG1] w) [(6,.val v4),(7,.val (nv 0)),(33,.val (n2 0)),(34,.rd z0f (r1.1.length:Int)),(35,.rd z0f s12.2)] [(3,some (v4,.map aZ z0h s5)),(1108,some ((nv 0),.list aZ 45 s12.1)),(1,some ((n2 0),.list z0j 94 r1.1)),zG1] aa ww) (fun aa ww h=>⟨nvl [(.slice none 0 0)],Zu h [3,1109,1,1001]⟩) (fun s12=>?_)
    refine gEx fun n13=>gSR<|Zq (I.lss Z Z)<|Zn<|z0x<|gIf Z Z (fun h14=>?_) (fun h14=>?_)
    ·refine Zt<|z7x (fun (s15:(List V3)) aa ww=>∃ nv:Nat→Value,Sta (ctx 61 H [zG1] w) [(6,.val v4),(7,.val (nv 0)),(33,.val (n2 0)),(34,.rd z0f (r1.1.length:Int)),(35,.rd z0f s12.2)] [(3,some (v4,.map aZ z0h s5)),(1108,some ((nv 0),.list aZ 45 s15)),(1,some ((n2 0),.list z0j 94 r1.1)),zG1] aa ww) ?_ (fun s15=>?_)
     ·refine z4s<|gSR<|z0q fun x16 h17=>Zq (ixO 1 Z Z Z h17 tu88 zme)<|Zq (ld 1 Z Z (Foc.el h17) ty94 Z)<|Eb Z (z6n 1110 zme (.zr (R:=z0j) (x:=(⟨(⟨0,[],0,(⟨0,[],(⟨0,0,0,[]⟩:z00)⟩:z0b),(⟨0,0⟩:z0a)⟩:z05),(Vector.replicate 32 0)⟩:z0d)) zr94)) fun v18=>Es (sto 1110 Z Z fH Z zme)<|Zn<|gSR<|Zq (faB 1110 Z Z Tryz.underlying94 Z (by exact z6h))<|Zq (faB 1110 Z Z Tryz.underlying43 Z (by exact z8j))<|Zq (ld 1110 Z Z ((fP (z61 _)).part (z0z _)) zbn Z)<|Zq (z3e Z .rd Z tu29)<|Zm Z<|Zn<|z29 (fun (s19:(List V3) × Int) aa ww=>∃ nv:Nat→Value,Sta (ctx 61 H [zG1] w) [(6,.val v4),(7,.val (nv 0)),(33,.val (n2 0)),(34,.rd z0f (r1.1.length:Int)),(35,.rd z0f s12.2),(41,.rd (z02 aZ) x16.o.Preds),(42,.rd z0f (x16.o.Preds.length:Int)),(43,.rd z0f s19.2)] [(3,some (v4,.map aZ z0h s5)),(1108,some ((nv 0),.list aZ 45 s19.1)),(1,some ((n2 0),.list z0j 94 r1.1)),zG1] aa ww) (fun aa ww h=>⟨nvl [(n13 0)],Zu h [3,1108,1,1001]⟩) (fun s19=>?_)
      refine gEx fun n20=>gSR<|Zq (I.lss Z Z)<|Zn<|z0x<|gIf Z Z (fun h21=>?_) (fun h21=>?_)
      ·refine Zt<|z0x<|z4s<|gSR<|z0q fun x22 h23=>Zq (ixR Z Z h23 tu29 z31 Z)<|Zq (ldR Z z59)<|Eb Z (z6n 1111 z31 (.zr (R:=aZ) (x:=(Vector.replicate 32 0)) zfo)) fun v24=>Es (sto 1111 Z Z fH Z z31)<|Zn<|gSR<|Zm Z<|Zq (ld 1111 Z Z fH z59 Z)<|Zq (mlk Z (.own 3 Z Z) Z zz0 Tryz.underlying92 ti4 Zr.bool Z)<|Zq (zds Z)<|Zj Z (fun h25=>?_) (fun h25=>?_)
       ·refine z28<|Zm Z<|Zq (ld 1111 Z Z fH z59 Z)<|Ef Z (lit (R:=aZ) ([x22]:List V3) 1112 (pP Z Z<|pN) Z tu29 z31 Z Z) fun v26=>zg9 1112 [53] Z (fS Z<|fN)<|z0q fun x27 h28=>Ef Z (apn 1108 Z Z Z .rd h28 tu29 z31 Z Z Z) fun v29=>Za Z<|z1p<|z3c<|z0y<|z28<|Zq (I.add Z Z)<|Zm Z<|z1p<|z1s (fun aa ww h=>⟨nvl [v29],Zu h [3,1108,1,1001]⟩)
       ·refine z30<|z3c<|z0y<|z28<|Zq (I.add Z Z)<|Zm Z<|z1p<|z1s (fun aa ww h=>⟨nvl [(n20 0)],Zu h [3,1108,1,1001]⟩)
      ·refine z27<|z19<|z1b<|z3c<|z3k (fun aa ww h=>⟨nvl [(n20 0)],Zu h [3,1108,1,1001]⟩)
     ·refine gEx fun n30=>z28<|Zq (I.add Z Z)<|Zm Z<|z1p<|z1s (fun aa ww h=>⟨nvl [(n30 0)],Zu h [3,1108,1,1001]⟩)
    ·refine z27<|z19<|z1b<|z3k (fun aa ww h=>⟨nvl [(n13 0)],Zu h [1108,1001]⟩)
   ·refine gEx fun n31=>gSR<|Zm Z<|Zc [1104] [(1,1104)] Tryz.func47 Z (zwk _ _) fun r32 n33=>Zn<|gSR<|Zm Z<|Zc [1104] [(100,1113)] Tryz.func49 Z (z4p _ _) fun r34 n35=>Za Z<|Zb Z<|z0n<|Ze [(n35 0)] [1001,1113] Z
def z72 (x20:List UInt8) (s22:UInt64 × Int):Option (Sum UInt64 (UInt64 × Int)) :=
 if decide (s22.2<(x20.length:Int)) then
  idx x20 s22.2 >>= fun x24 =>
  some ((zkj s22.1 8) ||| x24.toUInt64) >>= fun y26 =>
  some (.inr (y26,w64 (s22.2+1)))
 else
  some (.inl s22.1)
end
section
open Go Go.RowKit
set_option maxRecDepth 100000
def z60 (a0:List UInt8):Option (UInt64 × Int × Int) :=
 if (a0.length:Int)==0 then
  some (0,0,12)
 else
  idx a0 0 >>= fun x2 =>
  if decide (x2≤247) then
   idx a0 0 >>= fun x5 =>
   some (x5.toUInt64,1,0)
  else
   idx a0 0 >>= fun x7 =>
   some (w64 ((x7.toNat:Int) - 247)) >>= fun y9 =>
   z4y (if decide ((a0.length:Int)≤y9) then
    some (.inl (0,0,12))
   else
    idx a0 1 >>= fun x12 =>
    if x12==0 then
     some (.inl (0,0,12))
    else
     if y9==1 then
      idx a0 1 >>= fun x16 =>
      if decide (x16≤247) then
       some (.inl (0,0,12))
      else
       some (.inr ())
     else
      some (.inr ())) fun s10 =>
   (cut a0 1 (w64 (y9+1)) >>= fun x20 =>
   iter (z72 x20) (0,0)) >>= fun s19 =>
   some (s19,w64 (y9+1),0)
theorem z73 (a0:List UInt8):z23 Tryz.prog 111 [.rd (z02 u8R) a0] [] (z60 a0) (fun r nv=>⟨[.rd z1z r.1,.rd z0f r.2.1,.rd z0f r.2.2],[]⟩):=by
 refine z2m 63 Tryz.func111 Z Z Z fun H w=>?_;refine gSR<|Za Z<|Za Z<|Zb Z<|z0x<|gSR<|Zm Z<|Zq (z3e Z .rd Z tu52)<|Zq (I.eql Z Z)<|Zj Z (fun h1=>?_) (fun h1=>?_)
 ·refine gSR<|Za Z<|Za Z<|Zb Z<|z0n<|z0u<|Ze [] [] Z
 ·refine Zt<|z0x<|gSR<|Zm Z<|z0q fun x2 h3=>Zq (ixR Z Z h3 tu52 ti5 Z)<|Zq (ldR Z ty5)<|Zq (B.leq Z Z)<|Zj Z (fun h4=>?_) (fun h4=>?_)
  ·refine gSR<|Zm Z<|z0q fun x5 h6=>Zq (ixR Z Z h6 tu52 ti5 Z)<|Zq (ldR Z ty5)<|Zq (B.toU Z tu5 tu35)<|Za Z<|Za Z<|Zb Z<|z0n<|z0u<|Ze [] [] Z
  ·refine Zt<|gSR<|Zm Z<|z0q fun x7 h8=>Zq (ixR Z Z h8 tu52 ti5 Z)<|Zq (ldR Z ty5)<|Zq (B.toI Z tu5 tu3)<|Zq (I.sub Z Z)<|Za Z<|z24 5 Z fun y9=>Zn<|z7c (fun (s10:Unit) aa ww=>Sta (ctx 63 H [] w) [(0,.rd (z02 u8R) a0),(5,.rd z0f y9)] [] aa ww) ?_ (fun s10=>?_)
   ·refine gSR<|Zm Z<|Zq (z3e Z .rd Z tu52)<|Zm Z<|Zq (I.leq Z Z)<|Zm Z<|z1h 29 Z (fun h11=>?_) (fun h11=>?_)
    ·refine lKn 28 Z h11<|Zk Z<|Zk Z<|Zk Z<|Zk Z<|Zq (pkT Z Z)<|Zm Z<|Zk Z<|Zk Z<|Zk Z<|zr7 (gdU Z Z Z) Z Z<|zr7 (gdU Z Z Z) Z Z<|zr7 (gdU Z Z Z) Z Z<|zr7 (gdU Z Z Z) Z Z<|Zk Z<|Zq (pkT Z Z)<|Zn<|zes Z<|gSR<|Za Z<|Za Z<|Zb Z<|z0n<|z58<|Ze [] [] Z
    ·refine lKn 28 Z h11<|z13 Zx Z Z (mv Z)<|z0q fun x12 h13=>z13 Zx Z Z (ixR Z Z h13 tu52 ti5 Z)<|z13 Zx Z Z (ldR Z ty5)<|z13 Zx Z Z (B.eql Z Z)<|Zq (pkF Z Z)<|Zm Z<|z1h 35 Z (fun h14=>?_) (fun h14=>?_)
     ·refine lKn 33 Z h14<|lKn 34 Z h14<|Zk Z<|Zk Z<|Zk Z<|zr7 (gdU Z Z Z) Z Z<|zr7 (gdU Z Z Z) Z Z<|zr7 (gdU Z Z Z) Z Z<|zr7 (gdU Z Z Z) Z Z<|Zk Z<|Zq (pkT Z Z)<|Zn<|zes Z<|gSR<|Za Z<|Za Z<|Zb Z<|z0n<|z58<|Ze [] [] Z
     ·refine lKn 33 Z h14<|lKn 34 Z h14<|z13 Zx Z Z (mv Z)<|z13 Zx Z Z (I.eql Z Z)<|z13 Zx Z Z (mv Z)<|z1h 38 Z (fun h15=>?_) (fun h15=>?_)
      ·refine lKn 37 Z h15<|z13 Zx Z Z (mv Z)<|z0q fun x16 h17=>z13 Zx Z Z (ixR Z Z h17 tu52 ti5 Z)<|z13 Zx Z Z (ldR Z ty5)<|z13 Zx Z Z (B.leq Z Z)<|z13 Zx Z Z (pkT Z Z)<|Zq (pkF Z Z)<|Zj Z (fun h18=>?_) (fun h18=>?_)
       ·refine gKn 42 Z h18<|gKn 43 Z h18<|gSR<|Za Z<|Za Z<|Zb Z<|z0n<|z58<|Ze [] [] Z
       ·refine gKn 42 Z h18<|gKn 43 Z h18<|z30<|z5q (fun aa ww h=>Zu h [])
      ·refine lKn 37 Z h15<|Zk Z<|Zk Z<|Zk Z<|Zk Z<|z13 Zx Z Z (pkF Z Z)<|Zq (pkF Z Z)<|Zn<|zgc Z<|z30<|z5q (fun aa ww h=>Zu h [])
   ·refine gSR<|Zb Z<|z7x (fun (s19:UInt64) aa ww=>Sta (ctx 63 H [] w) [(5,.rd z0f y9),(6,.rd z1z s19)] [] aa ww) ?_ (fun s19=>?_)
    ·refine gSR<|Zm Z<|Zm Z<|Zq (I.add Z Z)<|z0q fun x20 h21=>Zq (zud Z (.to Z) (.to Z) h21 tu52 ti5)<|Zq (z3e Z .rd Z tu52)<|Zm Z<|Zn<|z29 (fun (s22:UInt64 × Int) aa ww=>Sta (ctx 63 H [] w) [(5,.rd z0f y9),(6,.rd z1z s22.1),(48,.rd (z02 u8R) x20),(49,.rd z0f (x20.length:Int)),(50,.rd z0f s22.2)] [] aa ww) (fun aa ww h=>Zu h []) (fun s22=>?_);refine gSR<|Zq (I.lss Z Z)<|Zn<|z0x<|gIf Z Z (fun h23=>?_) (fun h23=>?_)
     ·refine Zt<|z0x<|z4s<|gSR<|z0q fun x24 h25=>Zq (ixR Z Z h25 tu52 ti5 Z)<|Zq (ldR Z ty5)<|Zb Z<|z28<|Zm Z<|Zq (U.shl Z Z (Int.natCast_nonneg _))<|Zm Z<|Zq (B.toU Z tu5 tu35)<|Zq (U.or Z Z)<|Za Z<|z24 6 Z fun y26=>z1p<|z3c<|z0y<|z28<|Zq (I.add Z Z)<|Zm Z<|z1p<|z1s (fun aa ww h=>Zu h [])
     ·refine z27<|z19<|z1b<|z3k (fun aa ww h=>Zu h [])
    ·refine gSR<|Zm Z<|Zm Z<|Zq (I.add Z Z)<|Za Z<|Za Z<|Zb Z<|z0n<|Ze [] [] Z
def zey (a0:List UInt8) (a1:Int) (a2:Int):Option ((List UInt8) × Int × Int) :=
 if decide (a1<0) then
  some ([],0,2)
 else
  z60 a0 >>= fun r2 =>
  (if r2.2.2 != 0 then
   some true
  else
   if decide ((UInt64.ofInt a1)<r2.1) then
    some true
   else
    chk (a2≠0) >>= fun u7 =>
    some (decide ((UInt64.ofInt (w64 (Int.tdiv (w64 ((a0.length:Int) - r2.2.1)) a2)))<r2.1))) >>= fun s4 =>
  if s4 then
   some ([],0,12)
  else
   some (w64 (r2.2.1+(w64 (a2 * (w64 (r2.1.toNat:Int)))))) >>= fun y10 =>
   cut a0 r2.2.1 y10 >>= fun x11 =>
   some (x11,y10,0)
theorem ztr (a0:List UInt8) (a1:Int) (a2:Int):z23 Tryz.prog 152 [.rd (z02 u8R) a0,.rd z0f a1,.rd z0f a2] [] (zey a0 a1 a2) (fun r nv=>⟨[.rd (z02 u8R) r.1,.rd z0f r.2.1,.rd z0f r.2.2],[]⟩):=by
 refine z2m 51 Tryz.func152 Z Z Z fun H w=>?_;refine gSR<|Za Z<|Za Z<|Zb Z<|z0x<|gSR<|Zm Z<|Zq (I.lss Z Z)<|Zj Z (fun h1=>?_) (fun h1=>?_)
 ·refine gSR<|Za Z<|Za Z<|Zb Z<|z0n<|z0u<|zi8 u8R 6 Z<|Ze [] [] Z
 ·refine Zt<|gSR<|Zm Z<|Zc [] [] Tryz.func111 Z (z73 _) fun r2 n3=>Zm Z<|Zq (ext Z Z)<|Zq (ext Z Z)<|Zq (ext Z Z)<|Za Z<|Za Z<|Zb Z<|z0x<|z7x (fun (s4:Bool) aa ww=>Sta (ctx 51 H [] w) [(0,.rd (z02 u8R) a0),(2,.rd z0f a2),(9,.rd z1z r2.1),(10,.rd z0f r2.2.1),(39,.rd z0h s4)] [] aa ww) ?_ (fun s4=>?_)
  ·refine z28<|Zm Z<|Zq (I.neq Z Z)<|Zm Z<|z1h 23 Z (fun h5=>?_) (fun h5=>?_)
   ·refine lKn 22 Z h5<|Zk Z<|Zk Z<|Zk Z<|Zk Z<|Zq (pkT Z Z)<|Zm Z<|Zk Z<|Zk Z<|Zk Z<|Zk Z<|Zk Z<|Zk Z<|Zk Z<|Zk Z<|Zk Z<|Zq (pkT Z Z)<|z1p<|z3k (fun aa ww h=>Zu h [])
   ·refine lKn 22 Z h5<|z13 Zx Z Z (mv Z)<|z13 Zx Z Z (mv Z)<|z13 Zx Z Z (I.toU Z tu3 tu35)<|z13 Zx Z Z (U.gtr Z Z)<|Zq (pkF Z Z)<|Zm Z<|z1h 29 Z (fun h6=>?_) (fun h6=>?_)
    ·refine lKn 27 Z h6<|lKn 28 Z h6<|Zk Z<|Zk Z<|Zk Z<|Zk Z<|Zk Z<|Zk Z<|Zk Z<|Zk Z<|Zk Z<|Zq (pkT Z Z)<|z1p<|z3k (fun aa ww h=>Zu h [])
    ·refine lKn 27 Z h6<|lKn 28 Z h6<|z13 Zx Z Z (mv Z)<|z13 Zx Z Z (mv Z)<|z13 Zx Z Z (z3e Z .rd Z tu52)<|z13 Zx Z Z (mv Z)<|z13 Zx Z Z (I.sub Z Z)<|z13 Zx Z Z (mv Z)<|z0q fun u7 h8=>z13 Zx Z Z (I.quo Z Z (z4z h8))<|z13 Zx Z Z (I.toU Z tu3 tu35)<|z13 Zx Z Z (U.gtr Z Z)<|Zq (pkF Z Z)<|z1p<|z3k (fun aa ww h=>Zu h [])
  ·refine gIf Z Z (fun h9=>?_) (fun h9=>?_)
   ·refine gSR<|Za Z<|Za Z<|Zb Z<|z0n<|z0u<|zi8 u8R 6 Z<|Ze [] [] Z
   ·refine Zt<|gSR<|Zm Z<|Zm Z<|Zm Z<|Zq (U.toI Z tu35 tu3)<|Zq (I.mul Z Z)<|Zq (I.add Z Z)<|Za Z<|z24 12 Z fun y10=>Zn<|gSR<|Zm Z<|Zm Z<|Zm Z<|z0q fun x11 h12=>Zq (zud Z (.to Z) (.to Z) h12 tu52 ti5)<|Zm Z<|Za Z<|Za Z<|Zb Z<|z0n<|Ze [] [] Z
def zjb (a0:List UInt8):Option ((List UInt8)) :=
 app 1 ([]:List UInt8) a0 >>= fun x3 =>
 some x3
theorem zoy (a0:List UInt8):z23 Tryz.prog 153 [.rd (z02 u8R) a0] [] (zjb a0) (fun r nv=>⟨[.val (nv 0)],[(100,some (nv 0,.list u8R 5 r))]⟩):=by
 refine z2m 8 Tryz.func153 Z Z Z fun H w=>?_;refine gSR<|Zb Z<|z0x<|gSR<|Zm Z<|z17m Z Z .rd Z tu52 (fun h1=>?_) ?_
 ·subst h1;refine Zn<|zes Z<|gSR<|Zb Z<|z0n<|z0u<|zlp u8R 5 1<|Ze [(.slice none 0 0)] [1] Z
 ·refine Zn<|zgc Z<|Zt<|gSR<|Ef Z (lit (R:=u8R) (([]:List UInt8):List UInt8) 2 (pN) Z tu52 ti5 Z Z) fun v2=>Zm Z<|z0q fun x3 h4=>Ef Z (apn 2 Z Z Z .rd h4 tu52 ti5 Z Z Z) fun v5=>Zb Z<|z0n<|Ze [v5] [2] Z
def z7e (a0:List UInt8) (a1:Int):Option ((List UInt8) × Int × Int) :=
 zey a0 a1 1 >>= fun r1 =>
 zjb r1.1 >>= fun r3 =>
 some (r3,r1.2.1,r1.2.2)
theorem zbt (a0:List UInt8) (a1:Int):z23 Tryz.prog 112 [.rd (z02 u8R) a0,.rd z0f a1] [] (z7e a0 a1) (fun r nv=>⟨[.val (nv 0),.rd z0f r.2.1,.rd z0f r.2.2],[(100,some (nv 0,.list u8R 5 r.1))]⟩):=by
 refine z2m 21 Tryz.func112 Z Z Z fun H w=>?_;refine gSR<|Za Z<|Za Z<|Zb Z<|gSR<|Zm Z<|Zm Z<|Zc [] [] Tryz.func152 Z (ztr _ _ _) fun r1 n2=>Zm Z<|Zq (ext Z Z)<|Zq (ext Z Z)<|Zq (ext Z Z)<|Za Z<|Za Z<|Zb Z<|gSR<|Zm Z<|Zc [] [(100,1)] Tryz.func153 Z (zoy _) fun r3 n4=>Zm Z<|Zm Z<|Za Z<|Za Z<|Zb Z<|z0n<|Ze [(n4 0)] [1] Z
def zff  : Option (z05 × Int) :=
 some ((⟨0,[],0,(⟨0,[],(⟨0,0,0,[]⟩:z00)⟩:z0b),(⟨0,0⟩:z0a)⟩:z05),12)
def z9a (x4:List V3) (s8:(List UInt8) × (List V3) × Int):Option (Sum ((List V3)) ((List UInt8) × (List V3) × Int)) :=
 if decide (s8.2.2<(x4.length:Int)) then
  idx s8.2.1 s8.2.2 >>= fun x10 =>
  cut s8.1 ((min s8.1.length 32:Nat):Int) (s8.1.length:Int) >>= fun x12 =>
  some (.inr (x12,s8.2.1.set (s8.2.2:Int).toNat (zkx x10 s8.1),w64 (s8.2.2+1)))
 else
  some (.inl s8.2.1)
def ze9 (a0:List UInt8) (a1:Int):Option ((List V3) × Int × Int) :=
 zey a0 a1 32 >>= fun r1 =>
 if r1.2.2 != 0 then
  some ([],0,r1.2.2)
 else
  mkn 32 (Vector.replicate 32 0) (w64 (Int.tdiv (r1.1.length:Int) 32)) >>= fun x4 =>
  (iter (z9a x4) (r1.1,x4,0)) >>= fun s7 =>
  zdb s7 >>= fun r14 =>
  if !r14 then
   some ([],0,12)
  else
   some (s7,r1.2.1,0)
def zbe (a0:List UInt8):Option (Int × Int × Int) :=
 z60 a0 >>= fun r1 =>
 if r1.2.2 != 0 then
  some (0,0,r1.2.2)
 else
  some (xorI (w64 ((z6l r1.1 1).toNat:Int)) (w64 (0 - (w64 ((r1.1 &&& 1).toNat:Int))))) >>= fun y4 =>
  some (y4,r1.2.1,0)
theorem zjz (a0:List UInt8):z23 Tryz.prog 194 [.rd (z02 u8R) a0] [] (zbe a0) (fun r nv=>⟨[.rd z0f r.1,.rd z0f r.2.1,.rd z0f r.2.2],[]⟩):=by
 refine z2m 26 Tryz.func194 Z Z Z fun H w=>?_;refine gSR<|Za Z<|Za Z<|Zb Z<|gSR<|Zm Z<|Zc [] [] Tryz.func111 Z (z73 _) fun r1 n2=>Zm Z<|Zq (ext Z Z)<|Zq (ext Z Z)<|Zq (ext Z Z)<|Za Z<|Za Z<|Zb Z<|z0x<|gSR<|Zm Z<|Zq (I.neq Z Z)<|Zj Z (fun h3=>?_) (fun h3=>?_)
 ·refine gSR<|Zm Z<|Za Z<|Za Z<|Zb Z<|z0n<|z0u<|Ze [] [] Z
 ·refine Zt<|gSR<|Zm Z<|Zq (U.shr Z Z (Int.natCast_nonneg _))<|Zq (U.toI Z tu35 Tryz.underlying2)<|Zm Z<|Zq (U.and Z Z)<|Zq (U.toI Z tu35 Tryz.underlying2)<|Zq (I.neg Z)<|Zq (I.xor Z Z)<|Zm Z<|Za Z<|z24 2 Z fun y4=>Za Z<|Zb Z<|z0n<|Ze [] [] Z
def z98 (x17:List UInt8) (s19:z00 × Int):Option (Sum z00 (z00 × Int)) :=
 if decide (s19.2<(x17.length:Int)) then
  idx x17 s19.2 >>= fun x21 =>
  some (.inr ({ s19.1 with Bits:=(zkj s19.1.Bits 8) ||| x21.toUInt64 },w64 (s19.2+1)))
 else
  some (.inl s19.1)
def zca (a0:List UInt8):Option (z00 × Int × Int) :=
 if (a0.length:Int)==0 then
  some ((⟨0,0,0,[]⟩:z00),0,12)
 else
  idx a0 0 >>= fun x3 =>
  z4y (cut a0 1 (a0.length:Int) >>= fun x7 =>
  some (((⟨x3,0,0,[]⟩:z00).Kind)==1) >>= fun y9 =>
  if y9 then
   zbe x7 >>= fun r11 =>
   some (.inr ({ (⟨x3,0,0,[]⟩:z00) with Num:=r11.1 },r11.2.1,r11.2.2))
  else
   some (((⟨x3,0,0,[]⟩:z00).Kind)==2) >>= fun y13 =>
   if y13 then
    if decide ((x7.length:Int)<8) then
     some (.inl ((⟨0,0,0,[]⟩:z00),0,12))
    else
     (cut x7 0 8 >>= fun x17 =>
     iter (z98 x17) ((⟨x3,0,0,[]⟩:z00),0)) >>= fun s16 =>
     some (.inr (s16,8,0))
   else
    some (((⟨x3,0,0,[]⟩:z00).Kind)==3) >>= fun y23 =>
    if y23 then
     z7e x7 30 >>= fun r25 =>
     some (.inr ({ (⟨x3,0,0,[]⟩:z00) with Text:=r25.1 },r25.2.1,r25.2.2))
    else
     some (.inr ((⟨x3,0,0,[]⟩:z00),0,0))) fun s6 =>
  (if s6.2.2 != 0 then
   some true
  else
   z9d s6.1 >>= fun r29 =>
   some (r29 != 0)) >>= fun s27 =>
  if s27 then
   some ((⟨0,0,0,[]⟩:z00),0,12)
  else
   some (w64 (s6.2.1+1)) >>= fun y32 =>
   some (s6.1,y32,0)
theorem zo1 (a0:List UInt8):z23 Tryz.prog 159 [.rd (z02 u8R) a0] [] (zca a0) (fun r nv=>⟨[.rd z18 r.1,.rd z0f r.2.1,.rd z0f r.2.2],[]⟩):=by
 refine z2m 76 Tryz.func159 Z Z Z fun H w=>?_;refine gSR<|Eb Z (z6n 1 zel (.zr (R:=z18) (x:=(⟨0,0,0,[]⟩:z00)) zr1)) fun v1=>Za Z<|Zb Z<|z0x<|gSR<|Zm Z<|Zq (z3e Z .rd Z tu52)<|Zq (I.eql Z Z)<|Zj Z (fun h2=>?_) (fun h2=>?_)
 ·refine gSR<|Zq (bld (x':=(⟨0,0,0,[]⟩:z00)) [(0,1),(1,1),(2,1),(3,1)] Tryz.underlying37 zel Z zr1 Z (Bld.done Z))<|Es (sto 1 Z Z fH Z zel)<|Za Z<|Zb Z<|z0n<|z0u<|zbm [] [] Z (eC 1 Z Z zot<|eE Z<|eE Z<|eN) (rN)
 ·refine Zt<|gSR<|Zm Z<|z0q fun x3 h4=>Zq (ixR Z Z h4 tu52 ti5 Z)<|Zq (ldR Z ty5)<|Zq (bld (x':=(⟨x3,0,0,[]⟩:z00)) [(0,1),(1,1),(2,1),(3,1)] Tryz.underlying37 zel Z zr1 Z (Bld.cons (z2f _) Z Z<|Bld.done Z))<|Eb Z (z6n 2 zel (.zr (R:=z18) (x:=(⟨0,0,0,[]⟩:z00)) zr1)) fun v5=>Es (sto 2 Z Z fH Z zel)<|Za Z<|Zb Z<|z7c (fun (s6:z00 × Int × Int) aa ww=>Sta (ctx 76 H [] w) [(2,.val (z07 v1 0)),(5,.val (z07 v5 0)),(6,.rd z0f s6.2.1),(7,.rd z0f s6.2.2)] [(1,some (v1,.box 37 [.rd z18 (⟨0,0,0,[]⟩:z00)])),(2,some (v5,.box 37 [.rd z18 s6.1]))] aa ww) ?_ (fun s6=>?_)
  ·refine gSR<|Zm Z<|z0q fun x7 h8=>Zq (zud Z (.to Z) .no h8 tu52 ti5)<|Zb Z<|gSR<|Zq (faB 2 Z Z Tryz.underlying37 Z (by exact ti5))<|Zq (ld 2 Z Z (fP (z2f _)) ty5 Z)<|Zn<|z4s<|gSR<|Zq (B.eql Z Z)<|Za Z<|z24 24 Z fun y9=>Zj Z (fun h10=>?_) (fun h10=>?_)
   ·refine z28<|Zm Z<|Zc [] [] Tryz.func194 Z (zjz _) fun r11 n12=>Zm Z<|Zq (ext Z Z)<|Zq (ext Z Z)<|Zq (ext Z Z)<|Zq (faB 2 Z Z Tryz.underlying37 Z (by exact ti2))<|Es (sto 2 Z Z (fP (z5e _)) Z ti2)<|Za Z<|Za Z<|z1p<|z3c<|z5q (fun aa ww h=>Zu h [1,2])
   ·refine gSR<|Zq (B.eql Z Z)<|Za Z<|z24 33 Z fun y13=>Zj Z (fun h14=>?_) (fun h14=>?_)
    ·refine z0x<|gSR<|Zm Z<|Zq (z3e Z .rd Z tu52)<|Zq (I.lss Z Z)<|Zj Z (fun h15=>?_) (fun h15=>?_)
     ·refine gSR<|Zq (bld (x':=(⟨0,0,0,[]⟩:z00)) [(0,1),(1,1),(2,1),(3,1)] Tryz.underlying37 zel Z zr1 Z (Bld.done Z))<|Es (sto 1 Z Z fH Z zel)<|Za Z<|Zb Z<|z0n<|z0u<|z3m<|z58<|zbm [] [] Z (eC 1 Z Z zot<|eE Z<|eE Z<|eN) (rN)
     ·refine Zt<|z7x (fun (s16:z00) aa ww=>Sta (ctx 76 H [] w) [(2,.val (z07 v1 0)),(5,.val (z07 v5 0)),(7,.rd z0f 0)] [(1,some (v1,.box 37 [.rd z18 (⟨0,0,0,[]⟩:z00)])),(2,some (v5,.box 37 [.rd z18 s16]))] aa ww) ?_ (fun s16=>?_)
      ·refine gSR<|Zm Z<|z0q fun x17 h18=>Zq (zud Z .no (.to Z) h18 tu52 ti5)<|Zq (z3e Z .rd Z tu52)<|Zm Z<|Zn<|z29 (fun (s19:z00 × Int) aa ww=>Sta (ctx 76 H [] w) [(2,.val (z07 v1 0)),(5,.val (z07 v5 0)),(7,.rd z0f 0),(40,.rd (z02 u8R) x17),(41,.rd z0f (x17.length:Int)),(42,.rd z0f s19.2)] [(1,some (v1,.box 37 [.rd z18 (⟨0,0,0,[]⟩:z00)])),(2,some (v5,.box 37 [.rd z18 s19.1]))] aa ww) (fun aa ww h=>Zu h [1,2]) (fun s19=>?_)
       refine gSR<|Zq (I.lss Z Z)<|Zn<|z0x<|gIf Z Z (fun h20=>?_) (fun h20=>?_)
       ·refine Zt<|z0x<|z4s<|gSR<|z0q fun x21 h22=>Zq (ixR Z Z h22 tu52 ti5 Z)<|Zq (ldR Z ty5)<|Zb Z<|z28<|Zq (faB 2 Z Z Tryz.underlying37 Z (by exact zrn))<|Zq (ld 2 Z Z (fP (z38 _)) zux Z)<|Zq (U.shl Z Z (Int.natCast_nonneg _))<|Zm Z<|Zq (B.toU Z tu5 tu35)<|Zq (U.or Z Z)<|Zq (faB 2 Z Z Tryz.underlying37 Z (by exact zrn))<|Es (sto 2 Z Z (fP (z38 _)) Z zrn)<|z1p<|z3c<|z0y<|z28<|Zq (I.add Z Z)<|Zm Z<|z1p<|z1s (fun aa ww h=>Zu h [1,2])
       ·refine z27<|z19<|z1b<|z3k (fun aa ww h=>Zu h [1,2])
      ·refine z28<|Za Z<|z1p<|z3c<|z5q (fun aa ww h=>Zu h [1,2])
    ·refine gSR<|Zq (B.eql Z Z)<|Za Z<|z24 54 Z fun y23=>Zj Z (fun h24=>?_) (fun h24=>?_)
     ·refine gSR<|Zb Z<|gSR<|Zm Z<|Zc [] [(100,3)] Tryz.func112 Z (zbt _ _) fun r25 n26=>Zm Z<|Zq (ext Z Z)<|Zq (ext Z Z)<|Zq (ext Z Z)<|Za Z<|Za Z<|Zb Z<|z28<|Zm Z<|zg9 3 [11,59,62] Z (fS Z<|fS Z<|fS Z<|fN)<|Zq (cvBS Z tu52 tu5 tu9)<|Zq (faB 2 Z Z Tryz.underlying37 Z (by exact ti9))<|Es (sto 2 Z Z (fP (z3a _)) Z ti9)<|z1p<|z3c<|z5q (fun aa ww h=>Zu h [1,2])
     ·refine z30<|z3c<|z5q (fun aa ww h=>Zu h [1,2])
  ·refine z0x<|z7x (fun (s27:Bool) aa ww=>Sta (ctx 76 H [] w) [(2,.val (z07 v1 0)),(5,.val (z07 v5 0)),(6,.rd z0f s6.2.1),(71,.rd z0h s27)] [(1,some (v1,.box 37 [.rd z18 (⟨0,0,0,[]⟩:z00)])),(2,some (v5,.box 37 [.rd z18 s6.1]))] aa ww) ?_ (fun s27=>?_)
   ·refine z28<|Zm Z<|Zq (I.neq Z Z)<|Zm Z<|z1h 67 Z (fun h28=>?_) (fun h28=>?_)
    ·refine lKn 66 Z h28<|Zk Z<|Zk Z<|Zk Z<|Zq (pkT Z Z)<|z1p<|z3k (fun aa ww h=>Zu h [1,2])
    ·refine lKn 66 Z h28<|z13 Zx Z Z (ld 2 Z Z fH zot Z)<|zd3 [] [] Zx Z Tryz.func191 Z Z (zeh _) (Y1 Z) rN fun r29 n30=>z13 Zx Z Z (I.neq Z Z)<|Zq (pkF Z Z)<|z1p<|z3k (fun aa ww h=>Zu h [1,2])
   ·refine gIf Z Z (fun h31=>?_) (fun h31=>?_)
    ·refine gSR<|Zq (bld (x':=(⟨0,0,0,[]⟩:z00)) [(0,1),(1,1),(2,1),(3,1)] Tryz.underlying37 zel Z zr1 Z (Bld.done Z))<|Es (sto 1 Z Z fH Z zel)<|Za Z<|Zb Z<|z0n<|z0u<|zbm [] [] Z (eC 1 Z Z zot<|eE Z<|eE Z<|eN) (rN)
    ·refine Zt<|gSR<|Zq (ld 2 Z Z fH zot Z)<|Zm Z<|Zq (I.add Z Z)<|Es (sto 1 Z Z fH Z zel)<|Za Z<|z24 3 Z fun y32=>Zb Z<|z0n<|zbm [] [] Z (eC 1 Z Z zot<|eE Z<|eE Z<|eN) (rN)
def z2j (c0_0:z20) (a1:Int) (a2:Int):Option (z20) :=
 if a2 != 0 then
  some ({ c0_0 with bad:=true })
 else
  cut c0_0.b a1 (c0_0.b.length:Int) >>= fun x2 =>
  some ({ c0_0 with b:=x2 })
theorem z7q (p0_0:Value) (c0_0:z20) (a1:Int) (a2:Int):z23 Tryz.prog 158 [.val (z07 p0_0 0),.rd z0f a1,.rd z0f a2] [(1,some (p0_0,.box 198 [.rd z4m c0_0]))] (z2j c0_0 a1 a2) (fun r nv=>⟨[],[(1,some (p0_0,.box 198 [.rd z4m r]))]⟩):=by
 refine z2m 20 Tryz.func158 Z Z Z fun H w=>?_;refine z0x<|gSR<|Zm Z<|Zq (I.neq Z Z)<|Zj Z (fun h1=>?_) (fun h1=>?_)
 ·refine gSR<|Zm Z<|Zq (zdu 1 Z Z fH)<|Zq (faB 1 Z Z Tryz.underlying198 Z (by exact ti4))<|Es (sto 1 Z Z (fP (z5b _)) Z ti4)<|Zn<|z0n<|z0u<|Ze [] [1] Z
 ·refine Zt<|z28<|Zm Z<|Zm Z<|Zq (zdu 1 Z Z fH)<|Zq (faB 1 Z Z Tryz.underlying198 Z (by exact zet))<|Zq (ld 1 Z Z (fP (z44 _)) znl Z)<|Zm Z<|z0q fun x2 h3=>Zq (zud Z (.to Z) .no h3 tu52 ti5)<|Zq (zdu 1 Z Z fH)<|Zq (faB 1 Z Z Tryz.underlying198 Z (by exact zet))<|Es (sto 1 Z Z (fP (z44 _)) Z zet)<|z1p<|Ze [] [1] Z
def z9o (c0_0:z20):Option (UInt8 × z20) :=
 (if c0_0.bad then
  some true
 else
  some ((c0_0.b.length:Int)==0)) >>= fun s1 =>
 if s1 then
  some (0,{ c0_0 with bad:=true })
 else
  idx c0_0.b 0 >>= fun x4 =>
  z2j c0_0 1 0 >>= fun r6 =>
  some (x4,r6)
theorem zg5 (p0_0:Value) (c0_0:z20):z23 Tryz.prog 155 [.val (z07 p0_0 0)] [(1,some (p0_0,.box 198 [.rd z4m c0_0]))] (z9o c0_0) (fun r nv=>⟨[.rd u8R r.1],[(1,some (p0_0,.box 198 [.rd z4m r.2]))]⟩):=by
 refine z2m 28 Tryz.func155 Z Z Z fun H w=>?_;refine gSR<|Zb Z<|z0x<|z7x (fun (s1:Bool) aa ww=>Sta (ctx 28 H [(1,some (p0_0,.box 198 [.rd z4m c0_0]))] w) [(0,.val (z07 p0_0 0)),(15,.rd z0h s1)] [(1,some (p0_0,.box 198 [.rd z4m c0_0]))] aa ww) ?_ (fun s1=>?_)
 ·refine z28<|Zm Z<|Zq (zdu 1 Z Z fH)<|Zq (faB 1 Z Z Tryz.underlying198 Z (by exact ti4))<|Zq (ld 1 Z Z (fP (z5b _)) ty4 Z)<|Zm Z<|z1h 8 Z (fun h2=>?_) (fun h2=>?_)
  ·refine lKn 7 Z h2<|Zk Z<|Zk Z<|Zk Z<|Zk Z<|Zk Z<|Zk Z<|Zq (pkT Z Z)<|z1p<|z3k (fun aa ww h=>Zu h [1])
  ·refine lKn 7 Z h2<|z13 Zx Z Z (mv Z)<|z13 Zx Z Z (zdu 1 Z Z fH)<|z13 Zx Z Z (faB 1 Z Z Tryz.underlying198 Z (by exact zet))<|z13 Zx Z Z (ld 1 Z Z (fP (z44 _)) znl Z)<|z13 Zx Z Z (z3e Z .rd Z tu52)<|z13 Zx Z Z (I.eql Z Z)<|Zq (pkF Z Z)<|z1p<|z3k (fun aa ww h=>Zu h [1])
 ·refine gIf Z Z (fun h3=>?_) (fun h3=>?_)
  ·refine gSR<|Zm Z<|Zq (zdu 1 Z Z fH)<|Zq (faB 1 Z Z Tryz.underlying198 Z (by exact ti4))<|Es (sto 1 Z Z (fP (z5b _)) Z ti4)<|Zn<|gSR<|Zb Z<|z0n<|z0u<|Ze [] [1] Z
  ·refine Zt<|gSR<|Zm Z<|Zq (zdu 1 Z Z fH)<|Zq (faB 1 Z Z Tryz.underlying198 Z (by exact zet))<|Zq (ld 1 Z Z (fP (z44 _)) znl Z)<|z0q fun x4 h5=>Zq (ixR Z Z h5 tu52 ti5 Z)<|Zq (ldR Z ty5)<|Zb Z<|gSR<|Zm Z<|Zc [1] [(1,1)] Tryz.func158 Z (z7q _ _ _ _) fun r6 n7=>Zn<|gSR<|Zm Z<|Zb Z<|z0n<|Ze [] [1] Z
def z5d (c0_0:z20) (a1:UInt64):Option (UInt64 × z20) :=
 z60 c0_0.b >>= fun r1 =>
 z2j c0_0 r1.2.1 r1.2.2 >>= fun r3 =>
 if r3.bad then
  some (r1.1,{ r3 with bad:=true })
 else
  some (r1.1,{ r3 with bad:=decide (a1<r1.1) })
theorem z8c (p0_0:Value) (c0_0:z20) (a1:UInt64):z23 Tryz.prog 156 [.val (z07 p0_0 0),.rd z1z a1] [(1,some (p0_0,.box 198 [.rd z4m c0_0]))] (z5d c0_0 a1) (fun r nv=>⟨[.rd z1z r.1],[(1,some (p0_0,.box 198 [.rd z4m r.2]))]⟩):=by
 refine z2m 34 Tryz.func156 Z Z Z fun H w=>?_;refine gSR<|Zb Z<|gSR<|Zm Z<|Zq (zdu 1 Z Z fH)<|Zq (faB 1 Z Z Tryz.underlying198 Z (by exact zet))<|Zq (ld 1 Z Z (fP (z44 _)) znl Z)<|Zc [] [] Tryz.func111 Z (z73 _) fun r1 n2=>Zm Z<|Zq (ext Z Z)<|Zq (ext Z Z)<|Zq (ext Z Z)<|Za Z<|Za Z<|Zb Z<|gSR<|Zm Z<|Zm Z<|Zm Z<|Zc [1] [(1,1)] Tryz.func158 Z (z7q _ _ _ _) fun r3 n4=>Zn<|gSR<|Zm Z<|Zm Z<|Zq (zdu 1 Z Z fH)<|Zq (faB 1 Z Z Tryz.underlying198 Z (by exact ti4))<|Zq (ld 1 Z Z (fP (z5b _)) ty4 Z)<|Zm Z<|z1h 26 Z (fun h5=>?_) (fun h5=>?_)
 ·refine lKn 25 Z h5<|Zk Z<|Zk Z<|Zk Z<|Zq (pkT Z Z)<|Zq (zdu 1 Z Z fH)<|Zq (faB 1 Z Z Tryz.underlying198 Z (by exact ti4))<|Es (sto 1 Z Z (fP (z5b _)) Z ti4)<|Zn<|gSR<|Zm Z<|Zb Z<|z0n<|Ze [] [1] Z
 ·refine lKn 25 Z h5<|z13 Zx Z Z (mv Z)<|z13 Zx Z Z (mv Z)<|z13 Zx Z Z (U.gtr Z Z)<|Zq (pkF Z Z)<|Zq (zdu 1 Z Z fH)<|Zq (faB 1 Z Z Tryz.underlying198 Z (by exact ti4))<|Es (sto 1 Z Z (fP (z5b _)) Z ti4)<|Zn<|gSR<|Zm Z<|Zb Z<|z0n<|Ze [] [1] Z
def zj8 (a0:List UInt8) (a1:List UInt8):Option (Bool) :=
 some (a0==a1)
def z54 (c0_0:z0w) (a1:Int):Option (Int × z0w) :=
 z60 c0_0.b >>= fun r1 =>
 (if r1.2.2 != 0 then
  some true
 else
  some (decide ((UInt64.ofInt a1)<r1.1))) >>= fun s3 =>
 if s3 then
  some (0,{ c0_0 with bad:=true })
 else
  cut c0_0.b r1.2.1 (c0_0.b.length:Int) >>= fun x6 =>
  some (w64 (r1.1.toNat:Int)) >>= fun y8 =>
  some (y8,{ c0_0 with b:=x6 })
theorem z9f (p0_0:Value) (c0_0:z0w) (a1:Int):z23 Tryz.prog 63 [.val (z07 p0_0 0),.rd z0f a1] [(1,some (p0_0,.box 112 [.rd z1k c0_0]))] (z54 c0_0 a1) (fun r nv=>⟨[.rd z0f r.1],[(1,some (p0_0,.box 112 [.rd z1k r.2]))]⟩):=by
 refine z2m 39 Tryz.func63 Z Z Z fun H w=>?_;refine gSR<|Zb Z<|gSR<|Zm Z<|Zq (zdu 1 Z Z fH)<|Zq (faB 1 Z Z Tryz.underlying112 Z (by exact zet))<|Zq (ld 1 Z Z (fP (z1t _)) znl Z)<|Zc [] [] Tryz.func111 Z (z73 _) fun r1 n2=>Zm Z<|Zq (ext Z Z)<|Zq (ext Z Z)<|Zq (ext Z Z)<|Za Z<|Za Z<|Zb Z<|z0x<|z7x (fun (s3:Bool) aa ww=>Sta (ctx 39 H [(1,some (p0_0,.box 112 [.rd z1k c0_0]))] w) [(0,.val (z07 p0_0 0)),(5,.rd z1z r1.1),(6,.rd z0f r1.2.1),(24,.rd z0h s3)] [(1,some (p0_0,.box 112 [.rd z1k c0_0]))] aa ww) ?_ (fun s3=>?_)
 ·refine z28<|Zm Z<|Zq (I.neq Z Z)<|Zm Z<|z1h 19 Z (fun h4=>?_) (fun h4=>?_)
  ·refine lKn 18 Z h4<|Zk Z<|Zk Z<|Zk Z<|Zk Z<|Zq (pkT Z Z)<|z1p<|z3k (fun aa ww h=>Zu h [1])
  ·refine lKn 18 Z h4<|z13 Zx Z Z (mv Z)<|z13 Zx Z Z (mv Z)<|z13 Zx Z Z (I.toU Z tu3 tu35)<|z13 Zx Z Z (U.gtr Z Z)<|Zq (pkF Z Z)<|z1p<|z3k (fun aa ww h=>Zu h [1])
 ·refine gIf Z Z (fun h5=>?_) (fun h5=>?_)
  ·refine gSR<|Zm Z<|Zq (zdu 1 Z Z fH)<|Zq (faB 1 Z Z Tryz.underlying112 Z (by exact ti4))<|Es (sto 1 Z Z (fP (z4c _)) Z ti4)<|Zn<|gSR<|Zb Z<|z0n<|z0u<|Ze [] [1] Z
  ·refine Zt<|gSR<|Zm Z<|Zm Z<|Zq (zdu 1 Z Z fH)<|Zq (faB 1 Z Z Tryz.underlying112 Z (by exact zet))<|Zq (ld 1 Z Z (fP (z1t _)) znl Z)<|Zm Z<|z0q fun x6 h7=>Zq (zud Z (.to Z) .no h7 tu52 ti5)<|Zq (zdu 1 Z Z fH)<|Zq (faB 1 Z Z Tryz.underlying112 Z (by exact zet))<|Es (sto 1 Z Z (fP (z1t _)) Z zet)<|Zn<|gSR<|Zm Z<|Zq (U.toI Z tu35 tu3)<|Za Z<|z24 4 Z fun y8=>Zn<|z0n<|Ze [] [1] Z
theorem zg2  : z23 Tryz.prog 154 [] [] (zff) (fun r nv=>⟨[.agg [.rd z0s r.1.Author,.val (nv 0),.rd z1z r.1.Stamp,.rd z0c r.1.Act,.rd z0e r.1.Sig],.rd z0f r.2],[(100,some (nv 0,.list aZ 45 r.1.Preds))]⟩):=by
 refine z2m 3 Tryz.func154 Z Z Z fun H w=>?_;refine gSR<|Eb Z (z6n 1 z6h (ZrE.rd (R:=z0s) (x:=0) (Zr.num Z) (ZrE.nilS (ZrE.rd (R:=z1z) (x:=0) (Zr.num Z) (ZrE.rd (R:=z0c) (x:=(⟨0,[],(⟨0,0,0,[]⟩:z00)⟩:z0b)) zlm (ZrE.rd (R:=z0e) (x:=(⟨0,0⟩:z0a)) zlc ZrE.nil Z) Z) Z)) Z)) fun v1=>Zb Z<|gSR<|Zq (zuc [(0,1),(1,1),(2,1),(3,6),(9,2)] Tryz.underlying43 z6h (ZrE.rd (R:=z0s) (x:=0) (Zr.num Z) (ZrE.nilS (ZrE.rd (R:=z1z) (x:=0) (Zr.num Z) (ZrE.rd (R:=z0c) (x:=(⟨0,[],(⟨0,0,0,[]⟩:z00)⟩:z0b)) zlm (ZrE.rd (R:=z0e) (x:=(⟨0,0⟩:z0a)) zlc ZrE.nil Z) Z) Z)) Z) Z (zi7.done Z))<|Es (zpl 1 Z Z (z06.cast (z06.cons z09 (z06.cons z08 (z06.cons z09 (z06.cons z09 (z06.cons z09 z06.nil))))) Z) Z (z1e.cons z1n (z1e.cons z12 (z1e.cons z1n (z1e.cons z1n (z1e.cons z1n z1e.nil))))) (z06.cast (z06.cons z09 (z06.cons z08 (z06.cons z09 (z06.cons z09 (z06.cons z09 z06.nil))))) Z) z6h)<|Zb Z<|z0n<|zlp aZ 45 2<|eGat 1 Z<|zbm [(.slice none 0 0)] [2] Z (eCA 1 Z Z (z06.cast (z06.cons z09 (z06.cons z08 (z06.cons z09 (z06.cons z09 (z06.cons z09 z06.nil))))) Z) (z1e.cons z1n (z1e.cons z12 (z1e.cons z1n (z1e.cons z1n (z1e.cons z1n z1e.nil))))) za3<|eE Z<|eN) (y1 Z)
theorem zp6 (a0:List UInt8) (a1:Int) (a2:Int):z23 Tryz.prog 152 [.rd (z02 u8R) a0,.rd z0f a1,.rd z0f a2] [] (zey a0 a1 a2) (fun r nv=>⟨[.rd (z02 u8R) r.1,.rd z0f r.2.1,.rd z0f r.2.2],[]⟩):=by
 refine z2m 51 Tryz.func152 Z Z Z fun H w=>?_;refine gSR<|Za Z<|Za Z<|Zb Z<|z0x<|gSR<|Zm Z<|Zq (I.lss Z Z)<|Zj Z (fun h1=>?_) (fun h1=>?_)
 ·refine gSR<|Za Z<|Za Z<|Zb Z<|z0n<|z0u<|zi8 u8R 6 Z<|Ze [] [] Z
 ·refine Zt<|gSR<|Zm Z<|Zc [] [] Tryz.func111 Z (z73 _) fun r2 n3=>Zm Z<|Zq (ext Z Z)<|Zq (ext Z Z)<|Zq (ext Z Z)<|Za Z<|Za Z<|Zb Z<|z0x<|z7x (fun (s4:Bool) aa ww=>Sta (ctx 51 H [] w) [(0,.rd (z02 u8R) a0),(2,.rd z0f a2),(9,.rd z1z r2.1),(10,.rd z0f r2.2.1),(39,.rd z0h s4)] [] aa ww) ?_ (fun s4=>?_)
  ·refine z28<|Zm Z<|Zq (I.neq Z Z)<|Zm Z<|z1h 23 Z (fun h5=>?_) (fun h5=>?_)
   ·refine lKn 22 Z h5<|Zk Z<|Zk Z<|Zk Z<|Zk Z<|Zq (pkT Z Z)<|Zm Z<|Zk Z<|Zk Z<|Zk Z<|Zk Z<|Zk Z<|Zk Z<|Zk Z<|Zk Z<|Zk Z<|Zq (pkT Z Z)<|z1p<|z3k (fun aa ww h=>Zu h [])
   ·refine lKn 22 Z h5<|z13 Zx Z Z (mv Z)<|z13 Zx Z Z (mv Z)<|z13 Zx Z Z (I.toU Z tu3 tu35)<|z13 Zx Z Z (U.gtr Z Z)<|Zq (pkF Z Z)<|Zm Z<|z1h 29 Z (fun h6=>?_) (fun h6=>?_)
    ·refine lKn 27 Z h6<|lKn 28 Z h6<|Zk Z<|Zk Z<|Zk Z<|Zk Z<|Zk Z<|Zk Z<|Zk Z<|Zk Z<|Zk Z<|Zq (pkT Z Z)<|z1p<|z3k (fun aa ww h=>Zu h [])
    ·refine lKn 27 Z h6<|lKn 28 Z h6<|z13 Zx Z Z (mv Z)<|z13 Zx Z Z (mv Z)<|z13 Zx Z Z (z3e Z .rd Z tu52)<|z13 Zx Z Z (mv Z)<|z13 Zx Z Z (I.sub Z Z)<|z13 Zx Z Z (mv Z)<|z0q fun u7 h8=>z13 Zx Z Z (I.quo Z Z (z4z h8))<|z13 Zx Z Z (I.toU Z tu3 tu35)<|z13 Zx Z Z (U.gtr Z Z)<|Zq (pkF Z Z)<|z1p<|z3k (fun aa ww h=>Zu h [])
  ·refine gIf Z Z (fun h9=>?_) (fun h9=>?_)
   ·refine gSR<|Za Z<|Za Z<|Zb Z<|z0n<|z0u<|zi8 u8R 6 Z<|Ze [] [] Z
   ·refine Zt<|gSR<|Zm Z<|Zm Z<|Zm Z<|Zq (U.toI Z tu35 tu3)<|Zq (I.mul Z Z)<|Zq (I.add Z Z)<|Za Z<|z24 12 Z fun y10=>Zn<|gSR<|Zm Z<|Zm Z<|Zm Z<|z0q fun x11 h12=>Zq (zud Z (.to Z) (.to Z) h12 tu52 ti5)<|Zm Z<|Za Z<|Za Z<|Zb Z<|z0n<|Ze [] [] Z
theorem zlf (a0:List UInt8) (a1:Int):z23 Tryz.prog 157 [.rd (z02 u8R) a0,.rd z0f a1] [] (ze9 a0 a1) (fun r nv=>⟨[.val (nv 0),.rd z0f r.2.1,.rd z0f r.2.2],[(100,some (nv 0,.list aZ 45 r.1))]⟩):=by
 refine z2m 45 Tryz.func157 Z Z Z fun H w=>?_;refine gSR<|Za Z<|Za Z<|Zb Z<|gSR<|Zm Z<|Zm Z<|Zc [] [] Tryz.func152 Z (zp6 _ _ _) fun r1 n2=>Zm Z<|Zq (ext Z Z)<|Zq (ext Z Z)<|Zq (ext Z Z)<|Za Z<|Za Z<|Zb Z<|z0x<|gSR<|Zm Z<|Zq (I.neq Z Z)<|Zj Z (fun h3=>?_) (fun h3=>?_)
 ·refine gSR<|Zm Z<|Za Z<|Za Z<|Zb Z<|z0n<|z0u<|zlp aZ 45 1<|Ze [(.slice none 0 0)] [1] Z
 ·refine Zt<|gSR<|Zm Z<|Zq (z3e Z .rd Z tu52)<|Zq (I.quo Z Z (by decide))<|z0q fun x4 h5=>Ef Z (mks (R:=aZ) 2 Z Z h5 tu29 z31 zfo Z) fun v6=>Zb Z<|z7x (fun (s7:(List V3)) aa ww=>Sta (ctx 45 H [] w) [(8,.rd z0f r1.2.1),(10,.val v6)] [(2,some (v6,.list aZ 45 s7))] aa ww) ?_ (fun s7=>?_)
  ·refine gSR<|Zm Z<|Zq (z3e Z (.own 2 Z) Z tu29)<|Zm Z<|Zn<|z29 (fun (s8:(List UInt8) × (List V3) × Int) aa ww=>Sta (ctx 45 H [] w) [(7,.rd (z02 u8R) s8.1),(8,.rd z0f r1.2.1),(10,.val v6),(27,.rd z0f (x4.length:Int)),(28,.rd z0f s8.2.2)] [(2,some (v6,.list aZ 45 s8.2.1))] aa ww) (fun aa ww h=>Zu h [2]) (fun s8=>?_);refine gSR<|Zq (I.lss Z Z)<|Zn<|z0x<|gIf Z Z (fun h9=>?_) (fun h9=>?_)
   ·refine Zt<|z0x<|z4s<|gSR<|Zm Z<|Zb Z<|z28<|Zm Z<|Zm Z<|Zm Z<|z0q fun x10 h11=>Zq (ixO 2 Z Z Z h11 tu29 z31)<|Zq (cutW 2 Z Z (Foc.el h11) tu45 ti5 Z)<|Zm Z<|lCpy 2 Z Z Z (Foc.el h11) Z .rd Z tu52 ti5<|z0q fun x12 h13=>Zq (zud Z (.to Z) .no h13 tu52 ti5)<|Za Z<|z1p<|z3c<|z0y<|z28<|Zq (I.add Z Z)<|Zm Z<|z1p<|z1s (fun aa ww h=>Zu h [2])
   ·refine z27<|z19<|z1b<|z3k (fun aa ww h=>Zu h [2])
  ·refine z0x<|gSR<|Zm Z<|z19e [2] [] (gd0 Z) Z Tryz.func192 Z Z (zia _) (aBo 2 Z Z Z<|aB0) (fun _ _=>(flC zdo fl0)) (fun _ _=>cf0) fun r14 n15=>Zq (zds Z)<|Zj Z (fun h16=>?_) (fun h16=>?_)
   ·refine gSR<|Za Z<|Za Z<|Zb Z<|z0n<|z0u<|zlp aZ 45 3<|Ze [(.slice none 0 0)] [3] Z
   ·refine Zt<|gSR<|Zm Z<|Zm Z<|Za Z<|Za Z<|Zb Z<|z0n<|Ze [v6] [2] Z
def zfw (a0:List UInt8):Option (z05 × Int) :=
 z9o (⟨a0,false⟩:z20) >>= fun r3 =>
 if r3.1 != 111 then
  zff >>= fun r6 =>
  some (r6.1,r6.2)
 else
  z5d r3.2 1000000007 >>= fun r9 =>
  ze9 r9.2.b 4 >>= fun r11 =>
  z2j r9.2 r11.2.1 r11.2.2 >>= fun r13 =>
  z5d r13 1000000000000 >>= fun r15 =>
  z9o r15.2 >>= fun r17 =>
  (if (({ (⟨0,[],(⟨0,0,0,[]⟩:z00)⟩:z0b) with Kind:=r17.1 }).Kind) != 1 then
   z7e r17.2.b 20 >>= fun r21 =>
   z2j r17.2 r21.2.1 r21.2.2 >>= fun r23 =>
   some (r23,{ { (⟨0,[],(⟨0,0,0,[]⟩:z00)⟩:z0b) with Kind:=r17.1 } with Key:=r21.1 })
  else
   some (r17.2,{ (⟨0,[],(⟨0,0,0,[]⟩:z00)⟩:z0b) with Kind:=r17.1 })) >>= fun s19 =>
  (if s19.2.Kind==4 then
   zca s19.1.b >>= fun r27 =>
   z2j s19.1 r27.2.1 r27.2.2 >>= fun r30 =>
   some (r30,{ s19.2 with Value:=r27.1 })
  else
   some (s19.1,s19.2)) >>= fun s25 =>
  z5d s25.1 500000003 >>= fun r32 =>
  z5d r32.2 500000003 >>= fun r34 =>
  (if r34.2.bad then
   some true
  else
   if decide (0<(r34.2.b.length:Int)) then
    some true
   else
    ze0 (⟨r9.1.toUInt32,r11.1,r15.1,s25.2,{ { (⟨0,0⟩:z0a) with E:=r32.1.toUInt32 } with S:=r34.1.toUInt32 }⟩:z05) >>= fun r39 =>
    some (r39 != 0)) >>= fun s36 =>
  if s36 then
   zff >>= fun r42 =>
   some (r42.1,r42.2)
  else
   some ((⟨r9.1.toUInt32,r11.1,r15.1,s25.2,{ { (⟨0,0⟩:z0a) with E:=r32.1.toUInt32 } with S:=r34.1.toUInt32 }⟩:z05),0)
theorem zpb (a0:List UInt8):z23 Tryz.prog 113 [.rd (z02 u8R) a0] [] (zfw a0) (fun r nv=>⟨[.agg [.rd z0s r.1.Author,.val (nv 0),.rd z1z r.1.Stamp,.rd z0c r.1.Act,.rd z0e r.1.Sig],.rd z0f r.2],[(100,some (nv 0,.list aZ 45 r.1.Preds))]⟩):=by
 refine z2m 125 Tryz.func113 Z Z Z fun H w=>?_;refine gSR<|Eb Z (z6n 1 z6h (ZrE.rd (R:=z0s) (x:=0) (Zr.num Z) (ZrE.nilS (ZrE.rd (R:=z1z) (x:=0) (Zr.num Z) (ZrE.rd (R:=z0c) (x:=(⟨0,[],(⟨0,0,0,[]⟩:z00)⟩:z0b)) zlm (ZrE.rd (R:=z0e) (x:=(⟨0,0⟩:z0a)) zlc ZrE.nil Z) Z) Z)) Z)) fun v1=>Zb Z<|gSR<|Zm Z<|Zq (bld (x':=(⟨a0,false⟩:z20)) [(0,1),(1,1)] Tryz.underlying198 z1c2 Z z1bw Z (Bld.cons (z44 _) Z Z<|Bld.done Z))<|Eb Z (bx 2 Z) fun v2=>Zb Z<|gSR<|Zb Z<|z0x<|gSR<|Zm Z<|Zc [2] [(1,2)] Tryz.func155 Z (zg5 _ _) fun r3 n4=>Zq (B.neq Z Z)<|Zj Z (fun h5=>?_) (fun h5=>?_)
 ·refine gSR<|Zm Z<|zi0 [] [(100,3)] (gd0 Z) Z Z Tryz.func154 Z Z (zg2) (aN) (cN) rN fun r6 n7=>Zq (ext Z Z)<|Zq (ext Z Z)<|Es (zpl 1 Z Z (z06.cast (z06.cons z09 (z06.cons z08 (z06.cons z09 (z06.cons z09 (z06.cons z09 z06.nil))))) Z) Z (z1e.cons z1n (z1e.cons z12 (z1e.cons z1n (z1e.cons z1n (z1e.cons z1n z1e.nil))))) (z06.cast (z06.cons z09 (z06.cons z08 (z06.cons z09 (z06.cons z09 (z06.cons z09 z06.nil))))) Z) z6h)<|Zb Z<|z0n<|z0u<|eGat 1 Z<|zbm [(n7 0)] [3] Z (eCA 1 Z Z (z06.cast (z06.cons z09 (z06.cons z08 (z06.cons z09 (z06.cons z09 (z06.cons z09 z06.nil))))) Z) (z1e.cons z1n (z1e.cons z12 (z1e.cons z1n (z1e.cons z1n (z1e.cons z1n z1e.nil))))) za3<|eE Z<|eN) (y1 Z)
 ·refine Zt<|gSR<|Eb Z (z6n 4 z6h (ZrE.rd (R:=z0s) (x:=0) (Zr.num Z) (ZrE.nilS (ZrE.rd (R:=z1z) (x:=0) (Zr.num Z) (ZrE.rd (R:=z0c) (x:=(⟨0,[],(⟨0,0,0,[]⟩:z00)⟩:z0b)) zlm (ZrE.rd (R:=z0e) (x:=(⟨0,0⟩:z0a)) zlc ZrE.nil Z) Z) Z)) Z)) fun v8=>Zn<|gSR<|Zm Z<|Zc [2] [(1,2)] Tryz.func156 Z (z8c _ _ _) fun r9 n10=>Zq (U.toW Z tu35 tu34)<|Zq (faB 4 Z Z Tryz.underlying43 Z (by exact z5u))<|Es (sto 4 Z Z (Foc.cast fH Z) Z z5u)<|Zn<|gSR<|Zm Z<|Zq (zdu 2 Z Z fH)<|Zq (faB 2 Z Z Tryz.underlying198 Z (by exact zet))<|Zq (ld 2 Z Z (fP (z44 _)) znl Z)<|Zc [] [(100,5)] Tryz.func157 Z (zlf _ _) fun r11 n12=>Zm Z<|Zq (ext Z Z)<|Zq (ext Z Z)<|Zq (ext Z Z)<|Za Z<|Za Z<|Zb Z<|gSR<|Zm Z<|Zm Z<|Zm Z<|Zc [2] [(1,2)] Tryz.func158 Z (z7q _ _ _ _) fun r13 n14=>Zn<|gSR<|Zm Z<|Zm Z<|Zc [2] [(1,2)] Tryz.func156 Z (z8c _ _ _) fun r15 n16=>Zm Z<|Zc [2] [(1,2)] Tryz.func155 Z (zg5 _ _) fun r17 n18=>Zq (faB 4 Z Z Tryz.underlying43 Z (by exact z8j))<|Es (zo4 4 Z Z (z7f.cast (z7f.next z09 (z7f.here z08)) Z) Z z12 z08 z8j)<|Zq (faB 4 Z Z Tryz.underlying43 Z (by exact zrn))<|Es (sto 4 Z Z (Foc.cast (Foc.next z09 (Foc.next z08 fH)) Z) Z zrn)<|Zq (faB 4 Z Z Tryz.underlying43 Z (by exact zn7))<|Zq (faB 4 Z Z Tryz.underlying39 Z (by exact ti5))<|Es (sto 4 Z Z ((Foc.cast (Foc.next z09 (Foc.next z08 (Foc.next z09 fH))) Z).part (z2r _)) Z ti5)<|Zn<|z7x (fun (s19:z20 × z0b) aa ww=>Sta (ctx 125 H [] w) [(2,.val (z07 v1 0)),(4,.val (z07 v2 0)),(5,.val (.func (.func 154) #[] #[])),(6,.val (z07 v8 0))] [(1,some (v1,.box 43 [.rd z0s 0,.val (.slice none 0 0),.rd z1z 0,.rd z0c (⟨0,[],(⟨0,0,0,[]⟩:z00)⟩:z0b),.rd z0e (⟨0,0⟩:z0a)])),(2,some (v2,.box 198 [.rd z4m s19.1])),(5,some ((n12 0),.list aZ 45 r11.1)),(4,some (v8,.box 43 [.rd z0s r9.1.toUInt32,.val (n12 0),.rd z1z r15.1,.rd z0c s19.2,.rd z0e (⟨0,0⟩:z0a)]))] aa ww) ?_ (fun s19=>?_)
  ·refine gSR<|Zq (faB 4 Z Z Tryz.underlying43 Z (by exact zn7))<|Zq (faB 4 Z Z Tryz.underlying39 Z (by exact ti5))<|Zq (ld 4 Z Z ((Foc.cast (Foc.next z09 (Foc.next z08 (Foc.next z09 fH))) Z).part (z2r _)) ty5 Z)<|Zq (B.neq Z Z)<|Zj Z (fun h20=>?_) (fun h20=>?_)
   ·refine gSR<|Zm Z<|Zq (zdu 2 Z Z fH)<|Zq (faB 2 Z Z Tryz.underlying198 Z (by exact zet))<|Zq (ld 2 Z Z (fP (z44 _)) znl Z)<|Zc [] [(100,6)] Tryz.func112 Z (zbt _ _) fun r21 n22=>Zm Z<|Zq (ext Z Z)<|Zq (ext Z Z)<|Zq (ext Z Z)<|Za Z<|Za Z<|Zb Z<|gSR<|Zm Z<|Zm Z<|Zm Z<|Zc [2] [(1,2)] Tryz.func158 Z (z7q _ _ _ _) fun r23 n24=>Zn<|z28<|Zm Z<|zg9 6 [62,10,69] Z (fS Z<|fS Z<|fS Z<|fN)<|Zq (cvBS Z tu52 tu5 tu9)<|Zq (faB 4 Z Z Tryz.underlying43 Z (by exact zn7))<|Zq (faB 4 Z Z Tryz.underlying39 Z (by exact ti9))<|Es (sto 4 Z Z ((Foc.cast (Foc.next z09 (Foc.next z08 (Foc.next z09 fH))) Z).part (z43 _)) Z ti9)<|z1p<|z3k (fun aa ww h=>Zu h [1,2,5,4])
   ·refine z30<|z3k (fun aa ww h=>Zu h [1,2,5,4])
  ·refine z7x (fun (s25:z20 × z0b) aa ww=>Sta (ctx 125 H [] w) [(2,.val (z07 v1 0)),(4,.val (z07 v2 0)),(5,.val (.func (.func 154) #[] #[])),(6,.val (z07 v8 0))] [(1,some (v1,.box 43 [.rd z0s 0,.val (.slice none 0 0),.rd z1z 0,.rd z0c (⟨0,[],(⟨0,0,0,[]⟩:z00)⟩:z0b),.rd z0e (⟨0,0⟩:z0a)])),(2,some (v2,.box 198 [.rd z4m s25.1])),(5,some ((n12 0),.list aZ 45 r11.1)),(4,some (v8,.box 43 [.rd z0s r9.1.toUInt32,.val (n12 0),.rd z1z r15.1,.rd z0c s25.2,.rd z0e (⟨0,0⟩:z0a)]))] aa ww) ?_ (fun s25=>?_)
   ·refine gSR<|Zq (faB 4 Z Z Tryz.underlying43 Z (by exact zn7))<|Zq (faB 4 Z Z Tryz.underlying39 Z (by exact ti5))<|Zq (ld 4 Z Z ((Foc.cast (Foc.next z09 (Foc.next z08 (Foc.next z09 fH))) Z).part (z2r _)) ty5 Z)<|Zq (B.eql Z Z)<|Zj Z (fun h26=>?_) (fun h26=>?_)
    ·refine gSR<|Zm Z<|Zq (zdu 2 Z Z fH)<|Zq (faB 2 Z Z Tryz.underlying198 Z (by exact zet))<|Zq (ld 2 Z Z (fP (z44 _)) znl Z)<|Zc [] [] Tryz.func159 Z (zo1 _) fun r27 n28=>Zm Z<|Zq (ext Z Z)<|Zq (ext Z Z)<|Zq (ext Z Z)<|Eb Z (z6n 7 zel (.zr (R:=z18) (x:=(⟨0,0,0,[]⟩:z00)) zr1)) fun v29=>Es (sto 7 Z Z fH Z zel)<|Za Z<|Zb Z<|gSR<|Zm Z<|Zm Z<|Zm Z<|Zc [2] [(1,2)] Tryz.func158 Z (z7q _ _ _ _) fun r30 n31=>Zn<|z28<|Zq (ld 7 Z Z fH zot Z)<|Zq (faB 4 Z Z Tryz.underlying43 Z (by exact zn7))<|Zq (faB 4 Z Z Tryz.underlying39 Z (by exact zel))<|Es (sto 4 Z Z ((Foc.cast (Foc.next z09 (Foc.next z08 (Foc.next z09 fH))) Z).part (z4g _)) Z zel)<|z1p<|z3k (fun aa ww h=>Zu h [1,2,5,4])
    ·refine z30<|z3k (fun aa ww h=>Zu h [1,2,5,4])
   ·refine gSR<|Zm Z<|Zc [2] [(1,2)] Tryz.func156 Z (z8c _ _ _) fun r32 n33=>Zq (U.toW Z tu35 tu34)<|Zm Z<|Zc [2] [(1,2)] Tryz.func156 Z (z8c _ _ _) fun r34 n35=>Zq (U.toW Z tu35 tu34)<|Zq (faB 4 Z Z Tryz.underlying43 Z (by exact zqy))<|Zq (faB 4 Z Z Tryz.underlying41 Z (by exact z5u))<|Es (sto 4 Z Z ((Foc.cast (Foc.next z09 (Foc.next z08 (Foc.next z09 (Foc.next z09 fH)))) Z).part (z4h _)) Z z5u)<|Zq (faB 4 Z Z Tryz.underlying43 Z (by exact zqy))<|Zq (faB 4 Z Z Tryz.underlying41 Z (by exact z5u))<|Es (sto 4 Z Z ((Foc.cast (Foc.next z09 (Foc.next z08 (Foc.next z09 (Foc.next z09 fH)))) Z).part (z5s _)) Z z5u)<|Zn<|z0x<|z7x (fun (s36:Bool) aa ww=>Sta (ctx 125 H [] w) [(2,.val (z07 v1 0)),(5,.val (.func (.func 154) #[] #[])),(6,.val (z07 v8 0)),(119,.rd z0h s36)] [(1,some (v1,.box 43 [.rd z0s 0,.val (.slice none 0 0),.rd z1z 0,.rd z0c (⟨0,[],(⟨0,0,0,[]⟩:z00)⟩:z0b),.rd z0e (⟨0,0⟩:z0a)])),(5,some ((n12 0),.list aZ 45 r11.1)),(4,some (v8,.box 43 [.rd z0s r9.1.toUInt32,.val (n12 0),.rd z1z r15.1,.rd z0c s25.2,.rd z0e ({ { (⟨0,0⟩:z0a) with E:=r32.1.toUInt32 } with S:=r34.1.toUInt32 })]))] aa ww) ?_ (fun s36=>?_)
    ·refine z28<|Zm Z<|Zq (zdu 2 Z Z fH)<|Zq (faB 2 Z Z Tryz.underlying198 Z (by exact ti4))<|Zq (ld 2 Z Z (fP (z5b _)) ty4 Z)<|Zm Z<|z1h 107 Z (fun h37=>?_) (fun h37=>?_)
     ·refine lKn 106 Z h37<|Zk Z<|Zk Z<|Zk Z<|Zk Z<|Zk Z<|Zk Z<|Zq (pkT Z Z)<|Zm Z<|Zk Z<|Zk Z<|Zk Z<|Zq (pkT Z Z)<|z1p<|z3k (fun aa ww h=>Zu h [1,5,4])
     ·refine lKn 106 Z h37<|z13 Zx Z Z (mv Z)<|z13 Zx Z Z (zdu 2 Z Z fH)<|z13 Zx Z Z (faB 2 Z Z Tryz.underlying198 Z (by exact zet))<|z13 Zx Z Z (ld 2 Z Z (fP (z44 _)) znl Z)<|z13 Zx Z Z (z3e Z .rd Z tu52)<|z13 Zx Z Z (I.gtr Z Z)<|Zq (pkF Z Z)<|Zm Z<|z1h 115 Z (fun h38=>?_) (fun h38=>?_)
      ·refine lKn 113 Z h38<|lKn 114 Z h38<|Zk Z<|Zk Z<|Zk Z<|Zq (pkT Z Z)<|z1p<|z3k (fun aa ww h=>Zu h [1,5,4])
      ·refine lKn 113 Z h38<|lKn 114 Z h38<|z13 Zx Z Z (ldA 4 Z Z (z06.cast (z06.cons z09 (z06.cons z08 (z06.cons z09 (z06.cons z09 (z06.cons z09 z06.nil))))) Z) (z1e.cons z1n (z1e.cons z12 (z1e.cons z1n (z1e.cons z1n (z1e.cons z1n z1e.nil))))) za3 Z)<|z19e [5] [] Zx Z Tryz.func106 Z Z (zfm _) (aBs (R:=z03) (x:=(⟨r9.1.toUInt32,r11.1,r15.1,s25.2,{ { (⟨0,0⟩:z0a) with E:=r32.1.toUInt32 } with S:=r34.1.toUInt32 }⟩:z05)) Z (Sp.via (Sp.prod (Sp.prod (Sp.prod (Sp.prod (Sp.prod Sp.unit)))))) (pBe (pBo 5 Z Z (pBe (pBe (pBe pB0)))))<|aB0) (fun _ _=>(flC z41 fl0)) (fun _ _=>cf0) fun r39 n40=>z13 Zx Z Z (I.neq Z Z)<|Zq (pkF Z Z)<|z1p<|z3k (fun aa ww h=>Zu h [1,5,4])
    ·refine gIf Z Z (fun h41=>?_) (fun h41=>?_)
     ·refine gSR<|Zm Z<|zi0 [] [(100,8)] (gd0 Z) Z Z Tryz.func154 Z Z (zg2) (aN) (cN) rN fun r42 n43=>Zq (ext Z Z)<|Zq (ext Z Z)<|Es (zpl 1 Z Z (z06.cast (z06.cons z09 (z06.cons z08 (z06.cons z09 (z06.cons z09 (z06.cons z09 z06.nil))))) Z) Z (z1e.cons z1n (z1e.cons z12 (z1e.cons z1n (z1e.cons z1n (z1e.cons z1n z1e.nil))))) (z06.cast (z06.cons z09 (z06.cons z08 (z06.cons z09 (z06.cons z09 (z06.cons z09 z06.nil))))) Z) z6h)<|Zb Z<|z0n<|z0u<|eGat 1 Z<|zbm [(n43 0)] [8] Z (eCA 1 Z Z (z06.cast (z06.cons z09 (z06.cons z08 (z06.cons z09 (z06.cons z09 (z06.cons z09 z06.nil))))) Z) (z1e.cons z1n (z1e.cons z12 (z1e.cons z1n (z1e.cons z1n (z1e.cons z1n z1e.nil))))) za3<|eE Z<|eN) (y1 Z)
     ·refine Zt<|gSR<|Zq (ldA 4 Z Z (z06.cast (z06.cons z09 (z06.cons z08 (z06.cons z09 (z06.cons z09 (z06.cons z09 z06.nil))))) Z) (z1e.cons z1n (z1e.cons z12 (z1e.cons z1n (z1e.cons z1n (z1e.cons z1n z1e.nil))))) za3 Z)<|Es (zpl 1 Z Z (z06.cast (z06.cons z09 (z06.cons z08 (z06.cons z09 (z06.cons z09 (z06.cons z09 z06.nil))))) Z) Z (z1e.cons z1n (z1e.cons z12 (z1e.cons z1n (z1e.cons z1n (z1e.cons z1n z1e.nil))))) (z06.cast (z06.cons z09 (z06.cons z08 (z06.cons z09 (z06.cons z09 (z06.cons z09 z06.nil))))) Z) z6h)<|Zb Z<|z0n<|eGat 1 Z<|zbm [(n12 0)] [5] Z (eCA 1 Z Z (z06.cast (z06.cons z09 (z06.cons z08 (z06.cons z09 (z06.cons z09 (z06.cons z09 z06.nil))))) Z) (z1e.cons z1n (z1e.cons z12 (z1e.cons z1n (z1e.cons z1n (z1e.cons z1n z1e.nil))))) za3<|eE Z<|eN) (y1 Z)
def z8t (c0_0:z0w):Option (V3 × z0w) :=
 if decide ((c0_0.b.length:Int)<32) then
  some ((Vector.replicate 32 0),{ c0_0 with bad:=true })
 else
  cut c0_0.b ((min c0_0.b.length 32:Nat):Int) (c0_0.b.length:Int) >>= fun x4 =>
  some (zkx (Vector.replicate 32 0) c0_0.b,{ c0_0 with b:=x4 })
theorem zll (p0_0:Value) (c0_0:z0w):z23 Tryz.prog 114 [.val (z07 p0_0 0)] [(1,some (p0_0,.box 112 [.rd z1k c0_0]))] (z8t c0_0) (fun r nv=>⟨[.rd aZ r.1],[(1,some (p0_0,.box 112 [.rd z1k r.2]))]⟩):=by
 refine z2m 29 Tryz.func114 Z Z Z fun H w=>?_;refine gSR<|Eb Z (z6n 2 z31 (.zr (R:=aZ) (x:=(Vector.replicate 32 0)) zfo)) fun v1=>Zn<|gSR<|Eb Z (z6n 3 z31 (.zr (R:=aZ) (x:=(Vector.replicate 32 0)) zfo)) fun v2=>Zn<|z0x<|gSR<|Zm Z<|Zq (zdu 1 Z Z fH)<|Zq (faB 1 Z Z Tryz.underlying112 Z (by exact zet))<|Zq (ld 1 Z Z (fP (z1t _)) znl Z)<|Zq (z3e Z .rd Z tu52)<|Zq (I.lss Z Z)<|Zj Z (fun h3=>?_) (fun h3=>?_)
 ·refine gSR<|Zm Z<|Zq (zdu 1 Z Z fH)<|Zq (faB 1 Z Z Tryz.underlying112 Z (by exact ti4))<|Es (sto 1 Z Z (fP (z4c _)) Z ti4)<|Zn<|gSR<|Zq (ld 3 Z Z fH z59 Z)<|Es (sto 2 Z Z fH Z z31)<|Zn<|z0n<|z0u<|zbm [] [1] Z (eC 2 Z Z z59<|eN) (y1 Z)
 ·refine Zt<|z0x<|z9u [1,3] mixed Z Z<|hTk 0 Z Z (mv Z)<|hTk 1 Z Z (mv Z)<|hTk 2 Z Z (zdu 1 Z Z fH)<|hTk 3 Z Z (faB 1 Z Z Tryz.underlying112 Z (by exact zet))<|hTk 5 Z Z (cutW 3 Z Z fH tu45 ti5 Z)<|hTk 6 Z Z (mv Z)<|hTk 7 Z Z (zdu 1 Z Z fH)<|hTk 8 Z Z (faB 1 Z Z Tryz.underlying112 Z (by exact zet))<|hAlt [4,9] (by kernel_rfl) Z ⟨?_,?_,trivial⟩
  ·refine oRun 4 Z (gd0 Z) Z Z anyJ (ld 1 Z Z (fP (z1t _)) znl Z)<|hRun 9 Z (by kernel_rfl) (gd0 Z) Z Z anyJ (ld 1 Z Z (fP (z1t _)) znl Z)<|hDoW 10 Z (by kernel_rfl) (gd0 Z) Z Z Z Z Z _ z10t (cpyV 3 Z Z fH Z .rd Z tu52 ti5)<|z5n fun x4 h5=>z12k 11 Z (by kernel_rfl) (by kernel_rfl) (by kernel_rfl) (gd0 Z) Z Z (zud Z (.to Z) .no h5 tu52 ti5)<|hTk 12 Z Z (zdu 1 Z Z fH)<|hTk 13 Z Z (faB 1 Z Z Tryz.underlying112 Z (by exact zet))<|Zp 14 Z Z Z Z Z (sto 1 Z Z (fP (z1t _)) Z zet)<|z6e (by kernel_rfl)<|z0y<|gSR<|Zq (ld 3 Z Z fH z59 Z)<|Es (sto 2 Z Z fH Z z31)<|Zn<|z0n<|zbm [] [1] Z (eC 2 Z Z z59<|eN) (y1 Z)
  ·refine oRun 9 Z (gd0 Z) Z Z anyJ (ld 1 Z Z (fP (z1t _)) znl Z)<|hAlt [4,10] (by kernel_rfl) Z ⟨?_,?_,trivial⟩
   ·refine oRun 4 Z (gd0 Z) Z Z anyJ (ld 1 Z Z (fP (z1t _)) znl Z)<|hDoW 10 Z (by kernel_rfl) (gd0 Z) Z Z Z Z Z _ z10t (cpyV 3 Z Z fH Z .rd Z tu52 ti5)<|z5n fun x6 h7=>z12k 11 Z (by kernel_rfl) (by kernel_rfl) (by kernel_rfl) (gd0 Z) Z Z (zud Z (.to Z) .no h7 tu52 ti5)<|hTk 12 Z Z (zdu 1 Z Z fH)<|hTk 13 Z Z (faB 1 Z Z Tryz.underlying112 Z (by exact zet))<|Zp 14 Z Z Z Z Z (sto 1 Z Z (fP (z1t _)) Z zet)<|z6e (by kernel_rfl)<|z0y<|gSR<|Zq (ld 3 Z Z fH z59 Z)<|Es (sto 2 Z Z fH Z z31)<|Zn<|z0n<|zbm [] [1] Z (eC 2 Z Z z59<|eN) (y1 Z)
   ·refine oDoW 10 Z (gd0 Z) Z Z Z Z Z _ z10t (cpyV 3 Z Z fH Z .rd Z tu52 ti5)<|hRun 4 Z (by kernel_rfl) (gd0 Z) Z Z anyJ (ld 1 Z Z (fP (z1t _)) znl Z)<|z5n fun x8 h9=>z12k 11 Z (by kernel_rfl) (by kernel_rfl) (by kernel_rfl) (gd0 Z) Z Z (zud Z (.to Z) .no h9 tu52 ti5)<|hTk 12 Z Z (zdu 1 Z Z fH)<|hTk 13 Z Z (faB 1 Z Z Tryz.underlying112 Z (by exact zet))<|Zp 14 Z Z Z Z Z (sto 1 Z Z (fP (z1t _)) Z zet)<|z6e (by kernel_rfl)<|z0y<|gSR<|Zq (ld 3 Z Z fH z59 Z)<|Es (sto 2 Z Z fH Z z31)<|Zn<|z0n<|zbm [] [1] Z (eC 2 Z Z z59<|eN) (y1 Z)
def z2t (a1:List V3) (r14:Int × z0w) (s16:z0w × (List V3) × Int):Option (Sum ((List V3) × z0w) (z0w × (List V3) × Int)) :=
 if decide (s16.2.2<r14.1) then
  z54 s16.1 (a1.length:Int) >>= fun r19 =>
  if decide (0<r19.1) then
   idx a1 (w64 ((a1.length:Int) - r19.1)) >>= fun x22 =>
   app 32 s16.2.1 [x22] >>= fun x25 =>
   some (.inr (r19.2,x25,w64 (s16.2.2+1)))
  else
   if !r19.2.bad then
    z8t r19.2 >>= fun r33 =>
    app 32 s16.2.1 [r33.1] >>= fun x36 =>
    some (.inr (r33.2,x36,w64 (s16.2.2+1)))
   else
    some (.inr (r19.2,s16.2.1,w64 (s16.2.2+1)))
 else
  some (.inl (s16.2.1,s16.1))
def z3g (c0_0:z0w) (a1:List V3):Option (z05 × z0w) :=
 z7e c0_0.b 400 >>= fun r2 =>
 if r2.2.2 != 0 then
  some ((⟨0,[],0,(⟨0,[],(⟨0,0,0,[]⟩:z00)⟩:z0b),(⟨0,0⟩:z0a)⟩:z05),{ c0_0 with bad:=true })
 else
  cut c0_0.b r2.2.1 (c0_0.b.length:Int) >>= fun x5 =>
  zfw r2.1 >>= fun r7 =>
  (if r7.2 != 0 then
   some true
  else
   some (decide (0<(r7.1.Preds.length:Int)))) >>= fun s10 =>
  if s10 then
   some ((⟨0,[],0,(⟨0,[],(⟨0,0,0,[]⟩:z00)⟩:z0b),(⟨0,0⟩:z0a)⟩:z05),{ { c0_0 with b:=x5 } with bad:=true })
  else
   (z54 ({ c0_0 with b:=x5 }) 4 >>= fun r14 =>
   iter (z2t a1 r14) (r14.2,r7.1.Preds,0)) >>= fun s13 =>
   some ((⟨r7.1.Author,s13.1,r7.1.Stamp,r7.1.Act,r7.1.Sig⟩:z05),s13.2)
end
end Go.Proofs.YtojceajkeefnpaaGreatDoor
