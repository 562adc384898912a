import Derived.Test.YthgpinfkodaefaaGreatDoorJc
set_option linter.unusedSimpArgs false
set_option linter.unusedVariables false
namespace Go.Proofs.YthgpinfkodaefaaGreatDoor
section
open Go Go.Shelf Go.RowKit Go.Lib
theorem z13j {P:Program} {k:Nat} (w:World) (dT sT ty elem:TypeId) (g o dLen dCap:Nat) (a:Addr) (sLen sCap:Nat) (cur:Array Value) (t:TypeId) (cs:List Value)
  (hu:P.underlying dT=some (.slice elem)) (hs:(P.info? elem).map (·.size)=some k)
  (hg:w.heap[g]? = some (.cells cur t (0,0))) (hn:cs.length=Nat.min sLen dLen * k)
  (hsrc:∀ j v,cs[j]? = some v→w.cell? (a.add j)=some v) (hfit:o+cs.length≤cur.size) (h1:∀ v∈cs,v.oneCell'=true) :
  (Builtin.copy_ #[dT,sT] ty #[.slice (some ⟨g,o,none⟩) dLen dCap,.slice (some a) sLen sCap]).run P w =
   .ok (goInt (Nat.min sLen dLen)) (w.setRow g (cur.toList.take o++cs++cur.toList.drop (o+cs.length)).toArray):=by
 have hl:=run_firstCells_some (P:=P) w k (Nat.min sLen dLen) a sLen sCap cs hn hsrc
 have hst:=run_storeCells_at P g o t cs 0 cur w hg (by simpa using hfit) h1
 cases hq:P.info? elem with
 | none=>simp [hq] at hs
 | some i =>
  have hi:i.size=k:=by simpa [hq] using hs
  simp [Builtin.copy_,run_underlying hu,Builtin.lenOf,sizeOf,typeInfo,hq,hi,hl,hst]
theorem z128 {P:Program} (w:World) {o:Oper} {a:Act} {K:Act→World→Prop} {Q:Exit→Act→World→Prop} (d s:Operand) (t t':TypeId)
  (ho:o.op=.call { callee:=.builtin .copy,args:=#[d,s],argTypes:=#[t,t'] }) (v u:Value) (hd:a.eval d=v) (hs:a.eval s=u) {v':Value} {w':World}
  (hr:(Builtin.copy_ #[t,t'] o.type #[v,u]).run P w=.ok v' w') (h:K (a.put o.dst v') w'):o.wp P a w K Q:=by
 unfold Oper.wp execOp
 simp only [ho,resolve,invoke,builtin,Sem.run_bind,Sem.run_pure,Result.andThen_ok,List.map_toArray,List.map_cons,List.map_nil,hd,hs,hr]
 exact h
theorem zlk {P:Program} (w:World) {ops:Array Oper} {rest:List Oper} {o:Oper} {a:Act} {Q:Exit→Act→World→Prop} (hgd:o.guard=none) (d s:Operand) (t t':TypeId)
  (ho:o.op=.call { callee:=.builtin .copy,args:=#[d,s],argTypes:=#[t,t'] }) (v u:Value) (hd:a.eval d=v) (hs:a.eval s=u) {v':Value} {w':World}
  (hr:(Builtin.copy_ #[t,t'] o.type #[v,u]).run P w=.ok v' w') (h:wpList P ops Q rest (a.put o.dst v') w'):wpList P ops Q (o::rest) a w :=
 wpList_plain hgd fun _ hK=>z128 w d s t t' ho v u hd hs hr (hK _ _ h)
theorem zpf {P:Program} {ops:Array Oper} {o:Oper} {a:Act} {w:World} {K:Act→World→Prop} {Q:Exit→Act→World→Prop} {E:Prop}
  (hg:o.guard=none) (d x:Operand) (dT sT:TypeId) (hop:o.op=Op.call { callee:=Callee.builtin Builtin.copy,args:=#[d,x],argTypes:=#[dT,sT] })
  (v u:Value) (hd:a.eval d=v) (hx:a.eval x=u) {v':Value} {w':World} (hr:(Builtin.copy_ #[dT,sT] o.type #[v,u]).run P w=.ok v' w') (hK:K (a.put o.dst v') w') :
  if Region.wanted o (yielded ops a.tmps)=true then Oper.wp P o a w K Q else E:=by
 have hw:Region.wanted o (yielded ops a.tmps)=true:=by simp [Region.wanted,hg]
 rw [if_pos hw]
 unfold Oper.wp
 simp [execOp,hop,resolve,invoke,builtin,hd,hx,hr,Result.andThen]
 exact hK
section
variable (b n c i vb vc:Nat) (xs ys:List Value) (C V:Array Value) (w:World)
theorem zz2:TI Tryz.prog 78 (.agg (Array.replicate 32 (.int .u8 0))) 32 32:=z33
theorem z10u:(Tryz.prog.info? 78).map (·.size)=some 32:=by kernel_rfl
set_option maxHeartbeats 4000000 in
set_option maxRecDepth 100000 in
theorem zzh (hi:i<n) (hroom:n+1≤c) (hc63:c≤9223372036854775807) (hvb:vb≠b) (hC:w.heap[b]? = some (.cells C 78 (0,0))) (hV:w.heap[vb]? = some (.cells V 78 (0,0)))
  (hCs:C.size=c * 32) (hxs:C.toList.take (n * 32)=xs) (hys:V.toList.take 32=ys) (hyl:ys.length=32) (h1x:∀ v∈xs,v.oneCell'=true) (h1y:∀ v∈ys,v.oneCell'=true) :
  Calls Tryz.prog 120 #[.slice (some ⟨b,0,none⟩) n c,.int .i64 i,.slice (some ⟨vb,0,none⟩) 1 vc] w fun e w' =>
   e=.returned (.slice (some ⟨b,0,none⟩) (n+1) c)∧∃ D,w'=w.drew.setRow b D∧D.size=C.size∧D.toList.take ((n+1) * 32)=xs.take (i * 32)++ys++xs.drop (i * 32):=by
 have hsz:=z10u
 have u22:Tryz.prog.underlying 24=some (.slice 78):=Tryz.underlying24
 have hcc:∀ j v,C.toList[j]? = some v→w.cell? ⟨b,j,none⟩=some v:=fun j v hj=>by
  rw [Array.getElem?_toList] at hj; unfold World.cell?; rw [hC]; exact hj
 have hcv:∀ j v,V.toList[j]? = some v→w.cell? ⟨vb,j,none⟩=some v:=fun j v hj=>by
  rw [Array.getElem?_toList] at hj; unfold World.cell?; rw [hV]; exact hj
 have hxl:xs.length=n * 32:=by rw [← hxs,List.length_take,Array.length_toList]; omega
 have hxg:∀ j v,xs[j]? = some v→C.toList[j]? = some v:=fun j v hj=>by
  rw [← hxs,List.getElem?_take] at hj; split at hj
  ·
   exact hj
  ·
   cases hj
 have hyg:∀ j v,ys[j]? = some v→V.toList[j]? = some v:=fun j v hj=>by
  rw [← hys,List.getElem?_take] at hj; split at hj
  ·
   exact hj
  ·
   cases hj
 have hVs:V.size≠0:=by
  have:ys.length≤V.size:=by rw [← hys,List.length_take,Array.length_toList]; omega
  omega
 have hov:∀ lb cb,(callFunc 164 #[.slice (some ⟨vb,0,none⟩) 1 vc,.slice (some ⟨b,(i+1) * 32,none⟩) lb cb]).run Tryz.prog w=.ok (.value (.bool false)) w:=fun lb cb=>by
  rw [run_callFunc_extern Tryz.func164 (by kernel_rfl) (by kernel_rfl) (by kernel_rfl) (e:=Extern.SlicesOverlaps.overlaps #[24,24] #[4]) (by kernel_rfl),
   Lib.run_overlaps_apart w 24 4 78 u22 32 Tryz.sizeOf78 ⟨vb,0,none⟩ ⟨b,(i+1) * 32,none⟩ 1 vc lb cb hvb 78 78 V.size C.size (by simp [World.shape?,hV]) (by simp [World.shape?,hC]) (by omega) (by simp [World.frozen?,hV]) (by simp [World.frozen?,hV])]
  rfl
 have hdl:(xs.drop (i * 32)).length=(n - i) * 32:=by rw [List.length_drop,hxl,Nat.sub_mul]
 have hmin1:Nat.min (n+1 - i) (n - i)=n - i:=by simp only [Nat.min_def]; split <;> omega
 have hcp1:∀ ty dc sc,(Builtin.copy_ #[24,24] ty #[.slice (some ⟨b,(i+1) * 32,none⟩) (n - i) dc,.slice (some ⟨b,i * 32,none⟩) (n+1 - i) sc]).run Tryz.prog w.drew =
   .ok (goInt ((n - i:Nat):Int)) (w.drew.setRow b (C.toList.take ((i+1) * 32)++xs.drop (i * 32)++C.toList.drop ((i+1) * 32+(xs.drop (i * 32)).length)).toArray):=fun ty dc sc=>by
  have e:=z13j (P:=Tryz.prog) w.drew 24 24 ty 78 b ((i+1) * 32) (n - i) dc ⟨b,i * 32,none⟩ (n+1 - i) sc C 78 (xs.drop (i * 32)) u22 hsz hC (by rw [hmin1,hdl])
   (fun j v hj=>by rw [Addr.add_lit]; exact hcc _ v (hxg _ v (by rwa [List.getElem?_drop] at hj))) (by rw [hdl,hCs]; omega) (fun v hv=>h1x v (List.mem_of_mem_drop hv))
  rw [hmin1] at e; exact e
 obtain ⟨D1,hD1⟩:∃ D1,D1=(C.toList.take ((i+1) * 32)++xs.drop (i * 32)++C.toList.drop ((i+1) * 32+(xs.drop (i * 32)).length)).toArray:=⟨_,rfl⟩
 rw [← hD1] at hcp1
 have hD1s:D1.size=C.size:=by
  rw [hD1]; simp only [List.size_toArray,List.length_append,List.length_take,List.length_drop,Array.length_toList,hxl]; omega
 obtain ⟨W1,hW1⟩:∃ W1,W1=w.drew.setRow b D1:=⟨_,rfl⟩
 have hB1:W1.heap[b]? = some (.cells D1 78 (0,0)):=by rw [hW1]; exact setRow_heap w.drew b C D1 78 (0,0) hC
 have hV1:W1.heap[vb]? = some (.cells V 78 (0,0)):=by rw [hW1,setRow_other w.drew b vb D1 hvb]; exact hV
 obtain ⟨D2,hD2⟩:∃ D2,D2=(D1.toList.take (i * 32)++ys++D1.toList.drop (i * 32+ys.length)).toArray:=⟨_,rfl⟩
 have hcp2:∀ ty dc,(Builtin.copy_ #[24,24] ty #[.slice (some ⟨b,i * 32,none⟩) (n+1 - i) dc,.slice (some ⟨vb,0,none⟩) 1 vc]).run Tryz.prog W1=.ok (goInt 1) (W1.setRow b D2):=fun ty dc=>by
  have hm:Nat.min 1 (n+1 - i)=1:=by simp only [Nat.min_def]; split <;> omega
  have e:=z13j (P:=Tryz.prog) W1 24 24 ty 78 b (i * 32) (n+1 - i) dc ⟨vb,0,none⟩ 1 vc D1 78 ys u22 hsz hB1 (by rw [hm,hyl])
   (fun j v hj=>by
    rw [Addr.add_lit,Nat.zero_add]
    have:=hyg j v hj
    rw [Array.getElem?_toList] at this
    unfold World.cell?; rw [hV1]; exact this) (by rw [hyl,hD1s,hCs]; omega) h1y
  rw [hm,← hD2] at e; exact e
 have hfin:D2.size=C.size∧D2.toList.take ((n+1) * 32)=xs.take (i * 32)++ys++xs.drop (i * 32):=by
  have t1:D1.toList.take (i * 32)=xs.take (i * 32):=by
   rw [hD1,← hxs,List.take_take]
   simp only [List.append_assoc]
   rw [List.take_append_of_le_length (by rw [List.length_take,Array.length_toList]; omega),List.take_take]
   congr 1; omega
  have t2:(D1.toList.drop ((i+1) * 32)).take ((n - i) * 32)=xs.drop (i * 32):=by
   have el:(C.toList.take ((i+1) * 32)).length=(i+1) * 32:=by rw [List.length_take,Array.length_toList]; omega
   rw [hD1]
   simp only [List.append_assoc]
   rw [List.drop_append,el,Nat.sub_self,List.drop_zero,List.drop_eq_nil_of_le (by rw [el]; omega),List.nil_append,List.take_append_of_le_length (by rw [hdl]; omega),List.take_of_length_le (by rw [hdl]; omega)]
  constructor
  ·
   rw [hD2]; simp only [List.size_toArray,List.length_append,List.length_take,List.length_drop,Array.length_toList,hyl]; omega
  ·
   rw [hD2]
   simp only [List.append_assoc]
   have el:(D1.toList.take (i * 32)).length=i * 32:=by rw [List.length_take,Array.length_toList]; omega
   rw [List.take_append,el,List.take_of_length_le (by rw [el]; omega),List.take_append,hyl,List.take_of_length_le (l:=ys) (by rw [hyl]; omega),t1,
    show i * 32+32=(i+1) * 32 by omega, show (n+1) * 32 - i * 32 - 32=(n - i) * 32 by omega,t2]
 have hz1:¬ ((1:Int)=0):=by decide
 have hz2:¬ ((i:Int)=(n:Int)):=by omega
 have hw1:IntKind.i64.wrap ((i:Int)+1)=(i:Int)+1:=by rw [IntKind.wrap_i64]; omega
 have hb1:(0:Int)≤(i:Int)+1:=by omega
 have hin:i≤n:=by omega
 have htn:((i:Int)+1).toNat=i+1:=by omega
 have hb2:¬ (c=i+1):=by omega
 have hb3:(i:Int)≤(n:Int)+1:=by omega
 have hb4:¬ (c=i):=by omega
 subst hW1
 clear hcc hcv hxg hyg hD1 hD2 hxs hys hC hV hB1 hV1 h1x h1y hdl hmin1 hxl hyl
 go_enter Tryz.func120,Tryz.ntmps120
 go_wp2_with (simp only [hov])
 go_region_law (refine zpf rfl _ _ 24 24 rfl (.slice (some ⟨b,(i+1) * 32,none⟩) (n - i) (c - (i+1))) (.slice (some ⟨b,i * 32,none⟩) (n+1 - i) (c - i)) (by simp [Act.eval,Act.put]) (by simp [Act.eval,Act.put]) (hcp1 3 (c - (i+1)) (c - i)) ?_)
 go_wp2_with (at_builtin; refine zlk _ rfl _ _ 24 24 rfl _ _ rfl rfl (hcp2 _ _) ?_)
 go_ret
 exact ⟨rfl,D2, by rw [setRow_setRow],hfin⟩
set_option maxHeartbeats 4000000 in
set_option maxRecDepth 100000 in
theorem z12s (hi:i<n) (hnc:n≤c) (hroom:c<n+1) (hn:n≤1000000) (hvb:vb≠b) (hC:w.heap[b]? = some (.cells C 78 (0,0))) (hV:w.heap[vb]? = some (.cells V 78 (0,0)))
  (hCs:C.size=c * 32) (hxs:C.toList.take (n * 32)=xs) (hys:V.toList.take 32=ys) (hyl:ys.length=32) (h1x:∀ v∈xs,v.oneCell'=true) (h1y:∀ v∈ys,v.oneCell'=true) :
  Calls Tryz.prog 120 #[.slice (some ⟨b,0,none⟩) n c,.int .i64 i,.slice (some ⟨vb,0,none⟩) 1 vc] w fun e w' =>
   ∃ G,e=.returned (.slice (some ⟨w.heap.size,0,none⟩) (n+1) G)∧n+1≤G∧G≤maxLen∧∃ D,w'.heap[w.heap.size]? = some (.cells D 78 (0,0))∧w.grownBy w' none∧D.size=G * 32∧D.toList.take ((n+1) * 32)=xs.take (i * 32)++ys++xs.drop (i * 32):=by
 have hsz:=z10u
 have u22:Tryz.prog.underlying 24=some (.slice 78):=Tryz.underlying24
 have u3:Tryz.prog.underlying 3=some (.int .i64):=Tryz.underlying3
 have hcn:c=n:=by omega
 subst hcn
 have hcc:∀ j v,C.toList[j]? = some v→w.cell? ⟨b,j,none⟩=some v:=fun j v hj=>by
  rw [Array.getElem?_toList] at hj; unfold World.cell?; rw [hC]; exact hj
 have hxl:xs.length=c * 32:=by rw [← hxs,List.length_take,Array.length_toList]; omega
 have hxg:∀ j v,xs[j]? = some v→C.toList[j]? = some v:=fun j v hj=>by
  rw [← hxs,List.getElem?_take] at hj; split at hj
  ·
   exact hj
  ·
   cases hj
 have hyg:∀ j v,ys[j]? = some v→V.toList[j]? = some v:=fun j v hj=>by
  rw [← hys,List.getElem?_take] at hj; split at hj
  ·
   exact hj
  ·
   cases hj
 have hbw:b<w.heap.size:=(Array.getElem?_eq_some_iff.1 hC).1
 have hvw:vb<w.heap.size:=(Array.getElem?_eq_some_iff.1 hV).1
 have hkk:(c:Int)+1 - (i:Int)=((c+1 - i:Nat):Int):=by omega
 obtain ⟨i0,hi0,hz0,hzs,hzb⟩:=zz2
 have hold:(Builtin.firstCells i0.size i (.slice (some ⟨b,0,none⟩) i c)).run Tryz.prog w.drew=.ok (xs.take (i * 32)).toArray w.drew:=by
  rw [hzs]
  exact run_firstCells_some w.drew 32 i ⟨b,0,none⟩ i c (xs.take (i * 32)) (by rw [List.length_take]; omega) (fun j v hj=>by
   rw [Addr.add_lit,Nat.zero_add]
   rw [List.getElem?_take] at hj
   split at hj
   ·
    exact hcc j v (hxg j v hj)
   ·
    cases hj)
 obtain ⟨G,hG⟩:∃ G,G=grownCap w (c+1) c 78:=⟨_,rfl⟩
 obtain ⟨ROW,hROW⟩:∃ ROW:Array Value,ROW=(xs.take (i * 32)).toArray++Builtin.zeroCells (Array.replicate 32 (.int .u8 0)) (c+1 - i)++Builtin.zeroCells (Array.replicate 32 (.int .u8 0)) (G - (c+1)):=⟨_,rfl⟩
 have hrz:∀ ty,(Builtin.append_ #[24,3] ty #[.slice (some ⟨b,0,none⟩) i c,.int .i64 ((c:Int)+1 - (i:Int))]).run Tryz.prog w =
   .ok (.slice (some ⟨w.heap.size,0,none⟩) (c+1) G) (w.drew.alloc (.cells ROW 78)):=fun ty=>by
  have h:=Lib.run_append_grow_zeros w 24 3 ty 78 i0 _ .i64 .i64 u22 u3 hi0 hz0 (some ⟨b,0,none⟩) i c (xs.take (i * 32)) hold (c+1 - i) (by omega) (by omega) (by omega) (by omega) (by rw [hzb]; omega) (by rw [hzb, show i+(c+1 - i)=c+1 by omega]; exact growslice_fits (by omega) (by omega))
  rw [show i+(c+1 - i)=c+1 by omega] at h
  rw [hkk,hROW,hG]
  exact h
 have hGn:c+1≤G:=by rw [hG]; exact grownCap_ge w _ _ _
 have hGm:G≤maxLen:=by rw [hG]; exact grownCap_le_maxLen w (c+1) c 78 (by unfold maxLen; omega)
 have hG63:G≤9223372036854775807:=by unfold maxLen at hGm; omega
 have hRs:ROW.size=G * 32:=by
  rw [hROW]; simp only [Array.size_append,List.size_toArray,List.length_take,size_zeroCells,Array.size_replicate,hxl]; omega
 have hRt:ROW.toList.take (i * 32)=xs.take (i * 32):=by
  rw [hROW]; simp only [Array.toList_append,List.append_assoc]
  rw [List.take_append_of_le_length (by rw [List.length_take]; omega),List.take_take]; congr 1; omega
 obtain ⟨D1,hD1⟩:∃ D1,D1=(ROW.toList.take (i * 32)++ys++ROW.toList.drop (i * 32+ys.length)).toArray:=⟨_,rfl⟩
 have hD1s:D1.size=G * 32:=by
  rw [hD1]; simp only [List.size_toArray,List.length_append,List.length_take,List.length_drop,Array.length_toList,hyl]; omega
 obtain ⟨D2,hD2⟩:∃ D2,D2=(D1.toList.take ((i+1) * 32)++xs.drop (i * 32)++D1.toList.drop ((i+1) * 32+(xs.drop (i * 32)).length)).toArray:=⟨_,rfl⟩
 have hdl:(xs.drop (i * 32)).length=(c - i) * 32:=by rw [List.length_drop,hxl,Nat.sub_mul]
 have hD2s:D2.size=G * 32:=by
  rw [hD2]; simp only [List.size_toArray,List.length_append,List.length_take,List.length_drop,Array.length_toList,hxl]; omega
 have hfin:D2.toList.take ((c+1) * 32)=xs.take (i * 32)++ys++xs.drop (i * 32):=by
  have e1:(ROW.toList.take (i * 32)).length=i * 32:=by rw [List.length_take,Array.length_toList]; omega
  have e2:D1.toList.take ((i+1) * 32)=xs.take (i * 32)++ys:=by
   rw [hD1]; simp only [List.append_assoc]
   rw [List.take_append,e1,List.take_of_length_le (by rw [e1]; omega),List.take_append_of_le_length (by rw [hyl]; omega),List.take_of_length_le (l:=ys) (by rw [hyl]; omega),hRt]
  have e3:(D1.toList.take ((i+1) * 32)).length=(i+1) * 32:=by rw [List.length_take,Array.length_toList]; omega
  rw [hD2]; simp only [List.append_assoc]
  rw [List.take_append,e3,List.take_of_length_le (by rw [e3]; omega),List.take_append_of_le_length (by rw [hdl]; omega),List.take_of_length_le (l:=xs.drop (i * 32)) (by rw [hdl]; omega),e2,List.append_assoc]
 have hcpA:∀ (W:World),W.heap=w.heap.push (.cells ROW 78)→∀ ty dc,(Builtin.copy_ #[24,24] ty #[.slice (some ⟨w.heap.size,i * 32,none⟩) (c+1 - i) dc,.slice (some ⟨vb,0,none⟩) 1 vc]).run Tryz.prog W=.ok (goInt 1) (W.setRow w.heap.size D1):=fun W hW ty dc=>by
  have hm:Nat.min 1 (c+1 - i)=1:=by simp only [Nat.min_def]; split <;> omega
  have hN:W.heap[w.heap.size]? = some (.cells ROW 78 (0,0)):=by rw [hW,Array.getElem?_push_size]
  have hV1:W.heap[vb]? = some (.cells V 78 (0,0)):=by rw [hW,Array.getElem?_push_lt hvw]; rw [← hV,Array.getElem?_eq_getElem hvw]
  have e:=z13j (P:=Tryz.prog) W 24 24 ty 78 w.heap.size (i * 32) (c+1 - i) dc ⟨vb,0,none⟩ 1 vc ROW 78 ys u22 hsz hN (by rw [hm,hyl])
   (fun j v hj=>by
    rw [Addr.add_lit,Nat.zero_add]
    have:=hyg j v hj
    rw [Array.getElem?_toList] at this
    unfold World.cell?; rw [hV1]; exact this) (by rw [hyl,hRs]; omega) h1y
  rw [hm,← hD1] at e; exact e
 have hcpB:∀ (W W0:World),W0.heap=w.heap.push (.cells ROW 78)→W.heap=(W0.setRow w.heap.size D1).heap→∀ ty dc sc,(Builtin.copy_ #[24,24] ty #[.slice (some ⟨w.heap.size,(i+1) * 32,none⟩) (c - i) dc,.slice (some ⟨b,i * 32,none⟩) (c - i) sc]).run Tryz.prog W=.ok (goInt ((c - i:Nat):Int)) (W.setRow w.heap.size D2):=fun W W0 hW0 hW ty dc sc=>by
  have hm:Nat.min (c - i) (c - i)=c - i:=Nat.min_self _
  have hN:W.heap[w.heap.size]? = some (.cells D1 78 (0,0)):=by rw [hW]; exact setRow_heap W0 w.heap.size ROW D1 78 (0,0) (by rw [hW0,Array.getElem?_push_size])
  have hB1:W.heap[b]? = some (.cells C 78 (0,0)):=by
   rw [hW,setRow_other W0 w.heap.size b D1 (by omega),hW0,Array.getElem?_push_lt hbw,← hC,Array.getElem?_eq_getElem hbw]
  have e:=z13j (P:=Tryz.prog) W 24 24 ty 78 w.heap.size ((i+1) * 32) (c - i) dc ⟨b,i * 32,none⟩ (c - i) sc D1 78 (xs.drop (i * 32)) u22 hsz hN (by rw [hm,hdl])
   (fun j v hj=>by
    rw [Addr.add_lit]
    have:=hxg _ v (by rwa [List.getElem?_drop] at hj)
    rw [Array.getElem?_toList] at this
    unfold World.cell?; rw [hB1]; exact this) (by rw [hdl,hD1s]; omega) (fun v hv=>h1x v (List.mem_of_mem_drop hv))
  rw [hm,← hD2] at e; exact e
 have hz1:¬ ((1:Int)=0):=by decide
 have hz2:¬ ((i:Int)=(c:Int)):=by omega
 have hz3:(c:Int)<(c:Int)+1:=by omega
 have hw1:IntKind.i64.wrap ((i:Int)+1)=(i:Int)+1:=by rw [IntKind.wrap_i64]; omega
 have hb1:(0:Int)≤(i:Int)+1:=by omega
 have hin:i≤c:=by omega
 have htn:((i:Int)+1).toNat=i+1:=by omega
 have hGi:¬ (G=i):=by omega
 have hGim:¬ (G=i+1):=by omega
 have hci:¬ (c=i):=by omega
 have hb3:(i:Int)≤(c:Int):=by omega
 have hE1:((w.alloc (.cells ROW 78)).drew).heap=w.heap.push (.cells ROW 78):=rfl
 have hF1:(((w.alloc (.cells ROW 78)).drew.setRow w.heap.size D1).drew).heap=(((w.alloc (.cells ROW 78)).drew).setRow w.heap.size D1).heap:=rfl
 clear hROW hold hG hRt hD1 hD2 hxs hys hC hV h1x h1y hdl hxl hyl hcc hxg hyg hi0 hz0 hzs hzb hkk hnc hroom
 go_enter Tryz.func120,Tryz.ntmps120
 go_wp2_with (first
  | (at_builtin; refine Lib.wpList_append_run _ rfl _ _ _ _ rfl _ _ rfl rfl _ _ (hrz _) ?_)
  | (at_builtin; refine zlk _ rfl _ _ 24 24 rfl _ _ rfl rfl (hcpA _ hE1 _ _) ?_))
 go_region_law (refine zpf rfl _ _ 24 24 rfl (.slice (some ⟨w.heap.size,(i+1) * 32,none⟩) (c - i) (G - (i+1))) (.slice (some ⟨b,i * 32,none⟩) (c - i) (c - i)) (by simp [Act.eval,Act.put]) (by simp [Act.eval,Act.put]) (hcpB _ _ hE1 hF1 3 (G - (i+1)) (c - i)) ?_)
 go_wp2
 go_ret
 refine ⟨G,rfl,hGn,hGm,D2,?_,⟨rfl,rfl,rfl,?_, fun k hk _=>?_⟩,hD2s,hfin⟩
 ·
  exact setRow_heap _ w.heap.size D1 D2 78 (0,0) (setRow_heap ((w.alloc (.cells ROW 78)).drew) w.heap.size ROW D1 78 (0,0) (by rw [hE1,Array.getElem?_push_size]))
 ·
  rw [setRow_size]; show _≤((w.alloc (.cells ROW 78)).drew.setRow w.heap.size D1).heap.size; rw [setRow_size,hE1,Array.size_push]; omega
 ·
  rw [setRow_other _ w.heap.size k D2 (by omega)]; show ((w.alloc (.cells ROW 78)).drew.setRow w.heap.size D1).heap[k]? = _
  rw [setRow_other _ w.heap.size k D1 (by omega),hE1,Array.getElem?_push_lt hk,Array.getElem?_eq_getElem hk]
set_option maxHeartbeats 4000000 in
set_option maxRecDepth 100000 in
theorem z16h (p0 p1:Value) (h0:w.ownsRow 0 78 32 p0 n xs) (h1:w.ownsRow 0 78 32 p1 1 ys) (hn:n≤1000000) (h1y:∀ v∈ys,v.oneCell'=true) :
  Calls Tryz.prog 120 #[p0,.int .i64 n,p1] w fun e w'=>∃ v',e=.returned v'∧w'.ownsRow 0 78 32 v' (n+1) (xs++ys)∧w.grownBy w' p0.ownBlock∧∀ b,v'.ownBlock=some b→p0.ownBlock=some b∨w.heap.size≤b:=by
 have u22:Tryz.prog.underlying 24=some (.slice 78):=Tryz.underlying24
 obtain ⟨p,c,rfl⟩:=z4f h0
 obtain ⟨q,d,rfl⟩:=z4f h1
 obtain ⟨p',c',w',hrun,ho,hg,hs⟩:=zk0 (P:=Tryz.prog) (rt:=24) (w:=w) u22 zz2 (by simp [Value.cells]) (by decide) h0 (Rd.of_own h1) h1y (by omega) (by omega) (Nat.zero_le _)
 have hz1:¬ ((1:Int)=0):=by decide
 have hnc:n≤c:=by
  rcases h0.2 with ⟨e,rfl⟩ | ⟨g,cap,cur,e,_,_,h,_⟩
  ·
   omega
  ·
   simp only [Value.slice.injEq] at e; omega
 have hc63:c≤9223372036854775807:=by
  rcases h0.2 with ⟨e,rfl⟩ | ⟨g,cap,cur,e,_,_,_,h,_⟩
  ·
   simp only [Value.slice.injEq] at e; omega
  ·
   simp only [Value.slice.injEq] at e; unfold maxLen at h; omega
 have hin:n≤n:=Nat.le_refl _
 have hp0:p=none→n=0∧c=0:=fun e=>by
  rcases h0.2 with ⟨e',rfl⟩ | ⟨g,cap,cur,e',_⟩
  ·
   simp only [Value.slice.injEq] at e'; omega
  ·
   rw [e] at e'; simp at e'
 clear h0 h1 h1y
 go_enter Tryz.func120,Tryz.ntmps120
 cases p with
 | none =>
  obtain ⟨rfl,rfl⟩:=hp0 rfl
  clear hp0
  go_wp2_with (at_builtin; refine Lib.wpList_append_run _ rfl _ _ _ _ rfl _ _ rfl rfl _ _ hrun ?_)
  go_ret
  exact ⟨_,rfl,ho,hg,hs⟩
 | some a =>
  clear hp0
  obtain ⟨ab,ao,asp⟩:=a
  go_wp2_with (at_builtin; refine Lib.wpList_append_run _ rfl _ _ _ _ rfl _ _ rfl rfl _ _ hrun ?_)
  all_goals (go_ret; exact ⟨_,rfl,ho,hg,hs⟩)
end
end
section
open Go Go.RowKit
theorem relB {S S':Blk} {w w':World}:∀ {l:List UInt8} {cs:List Value},z6k u8R S w cs l→z6k u8R S' w' cs l
 | [],cs,h=>h
 | x::l,cs,h=>by
  obtain ⟨c,d,rfl,h1,h2⟩:=h
  exact ⟨c,d,rfl,h1,relB h2⟩
theorem relD {S S':Blk} {w w':World}:∀ {l:List V3} {cs:List Value},z6k (z3m 32 u8R) S w cs l→z6k (z3m 32 u8R) S' w' cs l
 | [],cs,h=>h
 | x::l,cs,h=>by
  obtain ⟨c,d,rfl,h1,h2⟩:=h
  exact ⟨c,d,rfl,relB h1,relD h2⟩
def insF (c0:List V3) (i:Int) (c1:List V3):Option (List V3) :=
 chk (0≤i∧i.toNat≤c0.length∧c0.length≤1000000∧c1.length=1) >>= fun _=>some (c0.take i.toNat++c1++c0.drop i.toNat)
theorem z16y (p0 p1:Value) (n i:Nat) (xs ys:List Value) (w:World) (hi:i≤n) (h0:w.ownsRow 0 78 32 p0 n xs) (h1:w.ownsRow 0 78 32 p1 1 ys) (hsep:∀ b,p0.ownBlock=some b→p1.ownBlock≠some b) (hn:n≤1000000)
  (h1x:∀ v∈xs,v.oneCell'=true) (h1y:∀ v∈ys,v.oneCell'=true) :
  Calls Tryz.prog 120 #[p0,.int .i64 i,p1] w fun e w'=>∃ v',e=.returned v'∧w'.ownsRow 0 78 32 v' (n+1) (xs.take (i * 32)++ys++xs.drop (i * 32))∧w.grownBy w' p0.ownBlock∧∀ b,v'.ownBlock=some b→p0.ownBlock=some b∨w.heap.size≤b:=by
 have hxl:=h0.1
 by_cases hin:i=n
 ·
  subst hin
  refine (z16h i xs ys w p0 p1 h0 h1 hn h1y).mono fun e w' ⟨v',a,b,c,d⟩=>⟨v',a,?_,c,d⟩
  rw [List.take_of_length_le (by omega),List.drop_eq_nil_of_le (by omega),List.append_nil]
  exact b
 ·
  rcases h0.2 with ⟨rfl,rfl⟩ | ⟨b,c,C,rfl,-,hC,hnc,hcm,hCs,hxs⟩
  ·
   omega
  rcases h1.2 with ⟨rfl,e⟩ | ⟨vb,vc,V,rfl,-,hV,-,-,hVs,hys⟩
  ·
   omega
  have hvb:vb≠b:=fun e=>hsep b rfl (by rw [e]; rfl)
  have hyl:ys.length=32:=by have:=h1.1; omega
  have hlen:(xs.take (i * 32)++ys++xs.drop (i * 32)).length=(n+1) * 32:=by
   simp only [List.length_append,List.length_take,List.length_drop,hyl]; omega
  by_cases hroom:n+1≤c
  ·
   refine (zzh b n c i vb vc xs ys C V w (by omega) hroom (by unfold maxLen at hcm; omega) hvb hC hV hCs hxs (by simpa using hys) hyl h1x h1y).mono fun e w' ⟨a,D,a2,a3,a4⟩=>⟨_,a,?_,?_, fun b' hb'=>.inl hb'⟩
   ·
    refine ⟨hlen,.inr ⟨b,c,D,rfl,Nat.zero_le _,?_,hroom,hcm,a3.trans hCs,a4⟩⟩
    rw [a2]; exact setRow_heap w.drew b C D 78 (0,0) hC
   ·
    rw [a2]
    refine ⟨rfl,rfl,rfl,?_, fun k hk hne=>?_⟩
    ·
     rw [setRow_size]; exact Nat.le_refl _
    ·
     rw [setRow_other w.drew b k D (fun e=>hne (by rw [e]; rfl))]; rfl
  ·
   refine (z12s b n c i vb vc xs ys C V w (by omega) hnc (by omega) hn hvb hC hV hCs hxs (by simpa using hys) hyl h1x h1y).mono fun e w' ⟨G,a,g1,g2,D,a1,a2,a3,a4⟩=>⟨_,a,?_,?_, fun b' hb'=>.inr ?_⟩
   ·
    exact ⟨hlen,.inr ⟨w.heap.size,G,D,rfl,Nat.zero_le _,a1,g1,g2,a3,a4⟩⟩
   ·
    exact ⟨a2.os,a2.tape,a2.output,a2.size, fun k hk _=>a2.block k hk (by simp)⟩
   ·
    simp only [Value.ownBlock,Option.some.injEq] at hb'; omega
theorem z16d (p0 p1:Value) (c0 c1:List V3) (i:Int):z1t Tryz.prog 120 [.val p0,.rd z0c i,.val p1] [(1,some (p0,.list (z3m 32 u8R) 78 c0)),(2,some (p1,.list (z3m 32 u8R) 78 c1))] (insF c0 i c1)
  (fun r nv=>⟨[.val (nv 0)],[(100,some (nv 0,.list (z3m 32 u8R) 78 r))]⟩):=by
 intro r hr H vs w hvs hres
 have hb:(0≤i∧i.toNat≤c0.length∧c0.length≤1000000∧c1.length=1)∧r=c0.take i.toNat++c1++c0.drop i.toNat:=by
  unfold insF chk at hr
  split at hr
  ·
   rename_i h; simp at hr; exact ⟨h, by rw [← hr,List.append_assoc]⟩
  ·
   simp at hr
 obtain ⟨⟨hi0,hi1,hn,hc1⟩,rfl⟩:=hb
 match vs,hvs with
 | [v0,v1,v2],hvs =>
 obtain ⟨h0,h1,h2,_⟩:=hvs
 have e0:v0=p0:=h0.1
 have e2:v2=p1:=h2.1
 have e1:v1=.int .i64 i:=z4s h1
 subst e0; subst e2; subst e1
 obtain ⟨j,rfl⟩:∃ j:Nat,i=(j:Int):=⟨i.toNat, by omega⟩
 simp only [Int.toNat_natCast] at hi1 ⊢
 obtain ⟨xs,x1,x2⟩:=z97 (hres.conts 1 v0 _ rfl)
 obtain ⟨ys,y1,y2⟩:=z97 (hres.conts 2 v2 _ rfl)
 rw [hc1] at y1
 have hsep:∀ b,v0.ownBlock=some b→v2.ownBlock≠some b:=fun b hb hb2=>by
  obtain ⟨p,c,rfl⟩:=z4f x1
  obtain ⟨q,d,rfl⟩:=z4f y1
  exact hres.excl 1 _ _ 2 _ _ rfl rfl (by decide) b (by rw [z9d]; exact hb) (by rw [z9d]; exact hb2)
 refine (z16y v0 v2 c0.length j xs ys w hi1 x1 y1 hsep hn x2.one y2.one).mono fun e w' ⟨v',he,hw,hg,hs⟩=>?_
 have only:∀ r v c (q:z4b),lr [(100,some (v',q))] r=some (v,c)→r=100∧v=v'∧c=q:=fun r v c q h=>by
  rw [z16] at h
  split at h
  ·
   rename_i e; cases h; exact ⟨e.symm,rfl,rfl⟩
  ·
   simp [lr,lk] at h
 have hlen:(c0.take j++c1++c0.drop j).length=c0.length+1:=by
  simp only [List.length_append,List.length_take,List.length_drop,hc1]; omega
 obtain ⟨p',c',rfl⟩:=z4f hw
 refine ⟨fun _=>.slice p' (c0.length+1) c',[.slice p' (c0.length+1) c'],he,⟨⟨rfl,rfl⟩,trivial⟩, fun r v c h=>?_, fun r v c r' v2' c2' h h' hne=>?_, fun r v c h b hb=>?_,hg.os,hg.tape,hg.output,hg.size, fun k hk=>?_⟩
 ·
  obtain ⟨rfl,rfl,rfl⟩:=only _ _ _ _ h
  refine zmr (B:=0) (xs:=xs.take (j * 32)++ys++xs.drop (j * 32)) (by rw [hlen]; exact hw) ?_
  exact ((relD (x2.take j)).append (relD y2)).append (relD (x2.drop j))
 ·
  exact absurd ((only _ _ _ _ h).1.trans (only _ _ _ _ h').1.symm) hne
 ·
  obtain ⟨rfl,rfl,rfl⟩:=only _ _ _ _ h
  rw [z9d] at hb
  rcases hs b hb with h | h
  ·
   exact .inr ⟨1,_,_,rfl, by obtain ⟨p,c,rfl⟩:=z4f x1; rw [z9d]; exact h⟩
  ·
   exact .inl h
 ·
  refine hg.block k hk.1 fun e=>hk.2 ⟨1,_,_,rfl,?_⟩
  obtain ⟨p,c,rfl⟩:=z4f x1; rw [z9d]; exact e.symm
end
section
open Go Go.RowKit
section
variable {ρ:Type} {C:World→World→Prop} {P:Program} {Γ:Ctx} {l:z1i} {res:Res} {d:Tmp} {ty:TypeId} {pos:String} {after:Array Edge} {g:Option (Nat × Bool)}
def z19j (b c:List UInt8):Bool:=Op.bytesLess b c
end
end
section
open Go Go.RowKit
set_option maxRecDepth 100000
def z8y (a0:z00) (s4:(List (V3 × Int)) × Int):Option (Sum ((List (V3 × Int))) ((List (V3 × Int)) × Int)) :=
 if decide (s4.2<(a0.IDs.length:Int)) then
  idx a0.IDs s4.2 >>= fun x6 =>
  some (.inr (zbr s4.1 x6 s4.2,w64 (s4.2+1)))
 else
  some (.inl s4.1)
def zbm (a0:z00):Option ((List (V3 × Int))) :=
 (iter (z8y a0) (([]:List (V3 × Int)),0)) >>= fun s3 =>
 some s3
theorem zk2 (a0:z00):z1t Tryz.prog 74 [.rd z01 a0] [] (zbm a0) (fun r nv=>⟨[.val (nv 0)],[(100,some (nv 0,.map aZ z0c r))]⟩):=by
 refine z2p 23 Tryz.func74 Z Z Z fun H w=>?_
 refine gSR<|Eb Z (bx 1 Z) fun v1=>Zb Z<|gSR<|Zq (faB 1 Z Z Tryz.underlying27 Z (by exact z6b))<|Zq (ld 1 Z Z (fP (z09 _)) z8l Z)<|Zq (z3s Z .rd Z tu24)<|Ef Z (mkm aZ z0c 2 (Or.inr ⟨_,_,Z,rfl⟩) Tryz.underlying123) fun v2=>Zb Z<|z8t (fun (s3:(List (V3 × Int))) aa ww=>Sta (ctx 23 H [] w) [(3,.val v2)] [(2,some (v2,.map aZ z0c s3))] aa ww) ?_ (fun s3=>?_)
 ·
  refine gSR<|Zq (faB 1 Z Z Tryz.underlying27 Z (by exact z6b))<|Zq (ld 1 Z Z (fP (z09 _)) z8l Z)<|Zq (z3s Z .rd Z tu24)<|Zm Z<|Zn<|z1w (fun (s4:(List (V3 × Int)) × Int) aa ww=>Sta (ctx 23 H [] w) [(3,.val v2),(11,.rd (z02 aZ) a0.IDs),(12,.rd z0c (a0.IDs.length:Int)),(13,.rd z0c s4.2)] [(2,some (v2,.map aZ z0c s4.1))] aa ww) (fun aa ww h=>Zu h [2]) (fun s4=>?_)
  refine gSR<|Zq (I.lss Z Z)<|Zn<|z0s<|gIf Z Z (fun h5=>?_) (fun h5=>?_)
  ·
   refine Zt<|z0s<|z4w<|gSR<|Zm Z<|z0u fun x6 h7=>Zq (ixR Z Z h7 tu24 z33 Z)<|Zq (ldR Z z4x)<|Eb Z (z5o 3 z33 (.zr (R:=aZ) (x:=(Vector.replicate 32 0)) zex)) fun v8=>Za Z<|Es (sto 3 Z Z fH Z z33)<|Zn<|z28<|Zm Z<|Zq (ld 3 Z Z fH z4x Z)<|Zm Z<|Es (mup 2 Z Z Z Z zr0 Tryz.underlying123)<|z1s<|z38<|z0k<|z28<|Zq (I.add Z Z)<|Zm Z<|z1s<|z1g (fun aa ww h=>Zu h [2])
  ·
   refine z1r<|z0x<|z10<|z3t (fun aa ww h=>Zu h [2])
 ·
  refine gSR<|Zm Z<|Zb Z<|z0l<|Ze [v2] [2] Z
def z6z (a0:z00) (a1:List Bool) (s3:(List V3) × Int):Option (Sum ((List V3)) ((List V3) × Int)) :=
 if decide (s3.2<(a1.length:Int)) then
  idx a1 s3.2 >>= fun x6 =>
  if x6 then
   idx a0.IDs s3.2 >>= fun x9 =>
   app 32 s3.1 [x9] >>= fun x12 =>
   some (.inr (x12,w64 (s3.2+1)))
  else
   some (.inr (s3.1,w64 (s3.2+1)))
 else
  some (.inl s3.1)
def z94 (a0:z00) (a1:List Bool):Option ((List V3)) :=
 (iter (z6z a0 a1) ([],0)) >>= fun s2 =>
 some s2
theorem zjl (a0:z00) (a1:List Bool):z1t Tryz.prog 75 [.rd z01 a0,.rd (z02 z0d) a1] [] (z94 a0 a1) (fun r nv=>⟨[.val (nv 0)],[(100,some (nv 0,.list aZ 78 r))]⟩):=by
 refine z2p 26 Tryz.func75 Z Z Z fun H w=>?_
 refine gSR<|Eb Z (bx 1 Z) fun v1=>Zb Z<|gSR<|Zb Z<|z8t (fun (s2:(List V3)) aa ww=>∃ nv:Nat→Value,Sta (ctx 26 H [] w) [(5,.val (nv 0))] [(3,some ((nv 0),.list aZ 78 s2))] aa ww) ?_ (fun s2=>?_)
 ·
  refine gSR<|Zm Z<|Zq (z3s Z .rd Z Tryz.underlying125)<|Zm Z<|Zn<|zxg aZ 78 6<|z1w (fun (s3:(List V3) × Int) aa ww=>∃ nv:Nat→Value,Sta (ctx 26 H [] w) [(1,.rd (z02 z0d) a1),(2,.val (z06 v1 0)),(5,.val (nv 0)),(8,.rd z0c (a1.length:Int)),(9,.rd z0c s3.2)] [(1,some (v1,.box 27 [.rd z01 a0])),(5,some ((nv 0),.list aZ 78 s3.1))] aa ww) (fun aa ww h=>⟨nvl [(.slice none 0 0)],Zu h [1,6]⟩) (fun s3=>?_)
  refine gEx fun n4=>gSR<|Zq (I.lss Z Z)<|Zn<|z0s<|gIf Z Z (fun h5=>?_) (fun h5=>?_)
  ·
   refine Zt<|z0s<|z4w<|gSR<|Zm Z<|Zb Z<|gSR<|Zm Z<|Zm Z<|z0u fun x6 h7=>Zq (ixR Z Z h7 Tryz.underlying125 ti4 Z)<|Zq (ldR Z ty4)<|Zj Z (fun h8=>?_) (fun h8=>?_)
   ·
    refine z28<|Zm Z<|Zq (faB 1 Z Z Tryz.underlying27 Z (by exact z6b))<|Zq (ld 1 Z Z (fP (z09 _)) z8l Z)<|Zm Z<|z0u fun x9 h10=>Zq (ixR Z Z h10 tu24 z33 Z)<|Zq (ldR Z z4x)<|Ef Z (lit (R:=aZ) ([x9]:List V3) 7 (pP Z Z<|pN) Z tu24 z33 Z Z) fun v11=>zkx 7 [22] Z (fS Z<|fN)<|z0u fun x12 h13=>Ef Z (apn 5 Z Z Z .rd h13 tu24 z33 Z Z Z) fun v14=>Za Z<|z1s<|z38<|z0k<|z28<|Zq (I.add Z Z)<|Zm Z<|z1s<|z1g (fun aa ww h=>⟨nvl [v14],Zu h [1,5]⟩)
   ·
    refine z2u<|z38<|z0k<|z28<|Zq (I.add Z Z)<|Zm Z<|z1s<|z1g (fun aa ww h=>⟨nvl [(n4 0)],Zu h [1,5]⟩)
  ·
   refine z1r<|z0x<|z10<|z3t (fun aa ww h=>⟨nvl [(n4 0)],Zu h [5]⟩)
 ·
  refine gEx fun n15=>gSR<|Zm Z<|Zb Z<|z0l<|Ze [(n15 0)] [3] Z
def zd4 (a0:z00) (a1:V3):Option (Int × Int) :=
 z5g a0 >>= fun r3 =>
 if r3 != 0 then
  some (0,r3)
 else
  z0f a0.IDs a1 >>= fun r6 =>
  if !r6.2 then
   some (0,6)
  else
   some (r6.1,0)
theorem zlz (a0:z00) (a1:V3):z1t Tryz.prog 139 [.rd z01 a0,.rd aZ a1] [zG1] (zd4 a0 a1) (fun r nv=>⟨[.rd z0c r.1,.rd z0c r.2],[(1001,some (.bool true,.glob 1 (z3m 64 z0n) z5x))]⟩):=by
 refine z2p 24 Tryz.func139 Z Z Z fun H w=>?_
 refine gSR<|Eb Z (bx 1 Z) fun v1=>Eb Z (bx 2 Z) fun v2=>Za Z<|Zb Z<|z0s<|gSR<|Zq (ld 1 Z Z fH zb2 Z)<|Zc [1001] [] Tryz.func60 Z (zcj _) fun r3 n4=>Zb Z<|gSR<|Zm Z<|Zq (I.neq Z Z)<|Zj Z (fun h5=>?_) (fun h5=>?_)
 ·
  refine gSR<|Zm Z<|Za Z<|Zb Z<|z0l<|z0w<|Ze [] [1001] Z
 ·
  refine Zt<|gSR<|Zq (faB 1 Z Z Tryz.underlying27 Z (by exact z6b))<|Zq (ld 1 Z Z (fP (z09 _)) z8l Z)<|Zq (ld 2 Z Z fH z4x Z)<|Zc [] [] Tryz.func122 Z (z2q _ _) fun r6 n7=>Zm Z<|Zq (ext Z Z)<|Zq (ext Z Z)<|Za Z<|Zb Z<|z0s<|gSR<|Zm Z<|Zq (zew Z)<|Zj Z (fun h8=>?_) (fun h8=>?_)
  ·
   refine gSR<|Za Z<|Zb Z<|z0l<|z0w<|Ze [] [1001] Z
  ·
   refine Zt<|gSR<|Zm Z<|Za Z<|Zb Z<|z0l<|Ze [] [1001] Z
def z8d (c1_0:List (V3 × Int)) (c3_0:z00) (rec:V3→(List (V3 × Int))→(List Bool)→z00→Option ((List Bool))) (x8:z05) (s10:(List Bool) × Int):Option (Sum ((List Bool)) ((List Bool) × Int)) :=
 if decide (s10.2<(x8.Preds.length:Int)) then
  idx x8.Preds s10.2 >>= fun x12 =>
  rec x12 c1_0 s10.1 c3_0 >>= fun r15 =>
  some (.inr (r15,w64 (s10.2+1)))
 else
  some (.inl s10.1)
def z72 (rec:V3→(List (V3 × Int))→(List Bool)→z00→Option ((List Bool))) (a0:V3) (c1_0:List (V3 × Int)) (c2_0:List Bool) (c3_0:z00):Option ((List Bool)) :=
 some ((z3q c1_0 a0).getD 0) >>= fun y2 =>
 idx c2_0 y2 >>= fun x3 =>
 if x3 then
  some c2_0
 else
  idx c2_0 y2 >>= fun x6 =>
  idx c3_0.Ops y2 >>= fun x8 =>
  iter (z8d c1_0 c3_0 rec x8) (c2_0.set (y2:Int).toNat true,0)
def z2x:Nat→V3→(List (V3 × Int))→(List Bool)→z00→Option ((List Bool))
 | 0,_,_,_,_=>none
 | N+1,a0,c1_0,c2_0,c3_0=>z72 (z2x N) a0 c1_0 c2_0 c3_0
theorem zih (rec:V3→(List (V3 × Int))→(List Bool)→z00→Option ((List Bool))) (ih:∀ (a0:V3) (p1_0:Value) (q1_0:Value) (c1_0:List (V3 × Int)) (p2_0:Value) (q2_0:Value) (c2_0:List Bool) (p3_0:Value) (c3_0:z00) (p4_0:Value),z1t Tryz.prog 125 [.rd aZ a0,.val (z06 p1_0 0),.val (z06 p2_0 0),.val (z06 p3_0 0),.val (z06 p4_0 0)] [(1,some (p1_0,.box 123 [.val q1_0])),(2,some (q1_0,.map aZ z0c c1_0)),(3,some (p2_0,.box 125 [.val q2_0])),(4,some (q2_0,.list z0d 4 c2_0)),(5,some (p3_0,.box 27 [.rd z01 c3_0])),(6,some (p4_0,.box 173 [.val (.func (.func 125) #[] #[z06 p1_0 0,z06 p2_0 0,z06 p3_0 0,z06 p4_0 0])]))] (rec a0 c1_0 c2_0 c3_0) (fun r nv=>⟨[],[(1,some (p1_0,.box 123 [.val q1_0])),(2,some (q1_0,.map aZ z0c c1_0)),(3,some (p2_0,.box 125 [.val q2_0])),(4,some (q2_0,.list z0d 4 r)),(5,some (p3_0,.box 27 [.rd z01 c3_0])),(6,some (p4_0,.box 173 [.val (.func (.func 125) #[] #[z06 p1_0 0,z06 p2_0 0,z06 p3_0 0,z06 p4_0 0])]))]⟩)) (a0:V3) (p1_0:Value) (q1_0:Value) (c1_0:List (V3 × Int)) (p2_0:Value) (q2_0:Value) (c2_0:List Bool) (p3_0:Value) (c3_0:z00) (p4_0:Value):z1t Tryz.prog 125 [.rd aZ a0,.val (z06 p1_0 0),.val (z06 p2_0 0),.val (z06 p3_0 0),.val (z06 p4_0 0)] [(1,some (p1_0,.box 123 [.val q1_0])),(2,some (q1_0,.map aZ z0c c1_0)),(3,some (p2_0,.box 125 [.val q2_0])),(4,some (q2_0,.list z0d 4 c2_0)),(5,some (p3_0,.box 27 [.rd z01 c3_0])),(6,some (p4_0,.box 173 [.val (.func (.func 125) #[] #[z06 p1_0 0,z06 p2_0 0,z06 p3_0 0,z06 p4_0 0])]))] (z72 rec a0 c1_0 c2_0 c3_0) (fun r nv=>⟨[],[(1,some (p1_0,.box 123 [.val q1_0])),(2,some (q1_0,.map aZ z0c c1_0)),(3,some (p2_0,.box 125 [.val q2_0])),(4,some (q2_0,.list z0d 4 r)),(5,some (p3_0,.box 27 [.rd z01 c3_0])),(6,some (p4_0,.box 173 [.val (.func (.func 125) #[] #[z06 p1_0 0,z06 p2_0 0,z06 p3_0 0,z06 p4_0 0])]))]⟩):=by
 refine z2p 34 Tryz.func125 Z Z Z fun H w=>?_
 refine gSR<|Eb Z (bx 7 Z) fun v1=>Zn<|gSR<|Zq (ldV 1 Z Z .here z1aj Z)<|Zq (ld 7 Z Z fH z4x Z)<|Zq (mlk Z (.own 2 Z Z) Z zr0 Tryz.underlying123 ti3 (Zr.num Z) Z)<|Za Z<|z1x 6 Z fun y2=>Zn<|z0s<|gSR<|Zq (ldV 3 Z Z .here z16p Z)<|Zm Z<|z0u fun x3 h4=>Zq (ixO 4 Z Z Z h4 Tryz.underlying125 ti4)<|Zq (ld 4 Z Z (Foc.el h4) ty4 Z)<|Zj Z (fun h5=>?_) (fun h5=>?_)
 ·
  refine z0l<|z0w<|Ze [] [1,2,3,4,5,6] Z
 ·
  refine Zt<|gSR<|Zq (ldV 3 Z Z .here z16p Z)<|Zm Z<|z0u fun x6 h7=>Zq (ixO 4 Z Z Z h7 Tryz.underlying125 ti4)<|Es (sto 4 Z Z (Foc.el h7) Z ti4)<|Zn<|gSR<|Zq (faB 5 Z Z Tryz.underlying27 Z (by exact zc0))<|Zq (ld 5 Z Z (fP (z0a _)) zf9 Z)<|Zm Z<|z0u fun x8 h9=>Zq (ixR Z Z h9 tu25 zax Z)<|Zq (faR Z (z0t _) Tryz.underlying72 Z Z (by exact z6b))<|Zq (ldR Z z8l)<|Zq (z3s Z .rd Z tu24)<|Zm Z<|Zn<|z1w (fun (s10:(List Bool) × Int) aa ww=>Sta (ctx 34 H [(1,some (p1_0,.box 123 [.val q1_0])),(2,some (q1_0,.map aZ z0c c1_0)),(3,some (p2_0,.box 125 [.val q2_0])),(4,some (q2_0,.list z0d 4 c2_0)),(5,some (p3_0,.box 27 [.rd z01 c3_0])),(6,some (p4_0,.box 173 [.val (.func (.func 125) #[] #[z06 p1_0 0,z06 p2_0 0,z06 p3_0 0,z06 p4_0 0])]))] w) [(4,.val (z06 p4_0 0)),(24,.rd (z02 aZ) x8.Preds),(25,.rd z0c (x8.Preds.length:Int)),(26,.rd z0c s10.2)] [(6,some (p4_0,.box 173 [.val (.func (.func 125) #[] #[z06 p1_0 0,z06 p2_0 0,z06 p3_0 0,z06 p4_0 0])])),(2,some (q1_0,.map aZ z0c c1_0)),(1,some (p1_0,.box 123 [.val q1_0])),(4,some (q2_0,.list z0d 4 s10.1)),(3,some (p2_0,.box 125 [.val q2_0])),(5,some (p3_0,.box 27 [.rd z01 c3_0]))] aa ww) (fun aa ww h=>Zu h [6,2,1,4,3,5]) (fun s10=>?_)
  refine gSR<|Zq (I.lss Z Z)<|Zn<|z0s<|gIf Z Z (fun h11=>?_) (fun h11=>?_)
  ·
   refine Zt<|z0s<|z4w<|gSR<|z0u fun x12 h13=>Zq (ixR Z Z h13 tu24 z33 Z)<|Zq (ldR Z z4x)<|Eb Z (z5o 8 z33 (.zr (R:=aZ) (x:=(Vector.replicate 32 0)) zex)) fun v14=>Es (sto 8 Z Z fH Z z33)<|Zn<|z28<|Zq (ldV 6 Z Z .here z19w Z)<|Zq (ld 8 Z Z fH z4x Z)<|zly [1,2,3,4,5,6] [(1,1),(2,2),(3,3),(4,4),(5,5),(6,6)] (gd0 Z) Z Z Tryz.func125 Z Z (ih _ _ _ _ _ _ _ _ _ _) (Y1 Z) (cQ 1 Z<|cQ 3 Z<|cQ 5 Z<|cQ 6 Z<|cN) (Zi Z<|Zi Z<|Zi Z<|Zi Z<|Zi Z<|Zi Z<|rN) fun r15 n16=>z1s<|z38<|z0k<|z28<|Zq (I.add Z Z)<|Zm Z<|z1s<|z1g (fun aa ww h=>Zu h [6,2,1,4,3,5])
  ·
   refine z1r<|z0x<|z10<|Ze [] [1,2,3,4,5,6] Z
theorem zd3:∀ (N:Nat) (a0:V3) (p1_0:Value) (q1_0:Value) (c1_0:List (V3 × Int)) (p2_0:Value) (q2_0:Value) (c2_0:List Bool) (p3_0:Value) (c3_0:z00) (p4_0:Value),z1t Tryz.prog 125 [.rd aZ a0,.val (z06 p1_0 0),.val (z06 p2_0 0),.val (z06 p3_0 0),.val (z06 p4_0 0)] [(1,some (p1_0,.box 123 [.val q1_0])),(2,some (q1_0,.map aZ z0c c1_0)),(3,some (p2_0,.box 125 [.val q2_0])),(4,some (q2_0,.list z0d 4 c2_0)),(5,some (p3_0,.box 27 [.rd z01 c3_0])),(6,some (p4_0,.box 173 [.val (.func (.func 125) #[] #[z06 p1_0 0,z06 p2_0 0,z06 p3_0 0,z06 p4_0 0])]))] (z2x N a0 c1_0 c2_0 c3_0) (fun r nv=>⟨[],[(1,some (p1_0,.box 123 [.val q1_0])),(2,some (q1_0,.map aZ z0c c1_0)),(3,some (p2_0,.box 125 [.val q2_0])),(4,some (q2_0,.list z0d 4 r)),(5,some (p3_0,.box 27 [.rd z01 c3_0])),(6,some (p4_0,.box 173 [.val (.func (.func 125) #[] #[z06 p1_0 0,z06 p2_0 0,z06 p3_0 0,z06 p4_0 0])]))]⟩)
 | 0,a0,p1_0,q1_0,c1_0,p2_0,q2_0,c2_0,p3_0,c3_0,p4_0=>fun r hr=>absurd hr (by simp [z2x])
 | N+1,a0,p1_0,q1_0,c1_0,p2_0,q2_0,c2_0,p3_0,c3_0,p4_0=>zih (z2x N) (zd3 N) a0 p1_0 q1_0 c1_0 p2_0 q2_0 c2_0 p3_0 c3_0 p4_0
theorem zj2 (a0:V3) (p1_0:Value) (q1_0:Value) (c1_0:List (V3 × Int)) (p2_0:Value) (q2_0:Value) (c2_0:List Bool) (p3_0:Value) (c3_0:z00) (p4_0:Value):z1t Tryz.prog 125 [.rd aZ a0,.val (z06 p1_0 0),.val (z06 p2_0 0),.val (z06 p3_0 0),.val (z06 p4_0 0)] [(1,some (p1_0,.box 123 [.val q1_0])),(2,some (q1_0,.map aZ z0c c1_0)),(3,some (p2_0,.box 125 [.val q2_0])),(4,some (q2_0,.list z0d 4 c2_0)),(5,some (p3_0,.box 27 [.rd z01 c3_0])),(6,some (p4_0,.box 173 [.val (.func (.func 125) #[] #[z06 p1_0 0,z06 p2_0 0,z06 p3_0 0,z06 p4_0 0])]))] (z2x 1000 a0 c1_0 c2_0 c3_0) (fun r nv=>⟨[],[(1,some (p1_0,.box 123 [.val q1_0])),(2,some (q1_0,.map aZ z0c c1_0)),(3,some (p2_0,.box 125 [.val q2_0])),(4,some (q2_0,.list z0d 4 r)),(5,some (p3_0,.box 27 [.rd z01 c3_0])),(6,some (p4_0,.box 173 [.val (.func (.func 125) #[] #[z06 p1_0 0,z06 p2_0 0,z06 p3_0 0,z06 p4_0 0])]))]⟩):=zd3 1000 a0 p1_0 q1_0 c1_0 p2_0 q2_0 c2_0 p3_0 c3_0 p4_0
def z9f (a0:z00) (a1:List V3) (r2:(List (V3 × Int))) (s11:(List Bool) × Int):Option (Sum ((List Bool)) ((List Bool) × Int)) :=
 if decide (s11.2<(a1.length:Int)) then
  idx a1 s11.2 >>= fun x13 =>
  (z2x 1000) x13 r2 s11.1 a0 >>= fun r16 =>
  some (.inr (r16,w64 (s11.2+1)))
 else
  some (.inl s11.1)
def za7 (a0:z00) (a1:List V3):Option ((List Bool)) :=
 zbm a0 >>= fun r2 =>
 mkn 1 false (a0.IDs.length:Int) >>= fun x5 =>
 (iter (z9f a0 a1 r2) (x5,0)) >>= fun s10 =>
 some s10
theorem zkp (a0:z00) (a1:List V3):z1t Tryz.prog 87 [.rd z01 a0,.rd (z02 aZ) a1] [] (za7 a0 a1) (fun r nv=>⟨[.val (nv 0)],[(100,some (nv 0,.list z0d 4 r))]⟩):=by
 refine z2p 28 Tryz.func87 Z Z Z fun H w=>?_
 refine gSR<|Eb Z (bx 1 Z) fun v1=>Zb Z<|gSR<|Zq (ld 1 Z Z fH zb2 Z)<|Zc [] [(100,2)] Tryz.func74 Z (zk2 _) fun r2 n3=>Eb Z (z5o 3 z19v (.val Z)) fun v4=>Es (zta 3 Z Z (.here z0e) Z z23 z0e z19v)<|Zn<|gSR<|Zq (faB 1 Z Z Tryz.underlying27 Z (by exact z6b))<|Zq (ld 1 Z Z (fP (z09 _)) z8l Z)<|Zq (z3s Z .rd Z tu24)<|z0u fun x5 h6=>Ef Z (mks (R:=z0d) 4 Z Z h6 Tryz.underlying125 ti4 Zr.bool Z) fun v7=>Eb Z (z5o 5 z18z (.val Z)) fun v8=>Es (zta 5 Z Z (.here z0e) Z z23 z0e z18z)<|Zn<|gSR<|Eb Z (z5o 6 z18h (.val Z)) fun v9=>Zn<|gSR<|Zq (mkf mp0 (mp4 Z Z Z Z))<|Es (zta 6 Z Z (.here z0e) Z z23 z0e z18h)<|Zn<|z8t (fun (s10:(List Bool)) aa ww=>Sta (ctx 28 H [] w) [(6,.val (z06 v8 0))] [(4,some (v7,.list z0d 4 s10)),(5,some (v8,.box 125 [.val v7]))] aa ww) ?_ (fun s10=>?_)
 ·
  refine gSR<|Zm Z<|Zq (z3s Z .rd Z tu24)<|Zm Z<|Zn<|z1w (fun (s11:(List Bool) × Int) aa ww=>Sta (ctx 28 H [] w) [(6,.val (z06 v8 0)),(7,.val (z06 v9 0)),(17,.rd (z02 aZ) a1),(18,.rd z0c (a1.length:Int)),(19,.rd z0c s11.2)] [(4,some (v7,.list z0d 4 s11.1)),(5,some (v8,.box 125 [.val v7])),(6,some (v9,.box 173 [.val (.func (.func 125) #[] #[z06 v4 0,z06 v8 0,z06 v1 0,z06 v9 0])])),(2,some ((n3 0),.map aZ z0c r2)),(3,some (v4,.box 123 [.val (n3 0)])),(1,some (v1,.box 27 [.rd z01 a0]))] aa ww) (fun aa ww h=>Zu h [4,5,6,2,3,1]) (fun s11=>?_)
  refine gSR<|Zq (I.lss Z Z)<|Zn<|z0s<|gIf Z Z (fun h12=>?_) (fun h12=>?_)
  ·
   refine Zt<|z0s<|z4w<|gSR<|z0u fun x13 h14=>Zq (ixR Z Z h14 tu24 z33 Z)<|Zq (ldR Z z4x)<|Eb Z (z5o 7 z33 (.zr (R:=aZ) (x:=(Vector.replicate 32 0)) zex)) fun v15=>Es (sto 7 Z Z fH Z z33)<|Zn<|z28<|Zq (ldV 6 Z Z .here z19w Z)<|Zq (ld 7 Z Z fH z4x Z)<|zly [3,2,5,4,1,6] [(1,3),(2,2),(3,5),(4,4),(5,1),(6,6)] (gd0 Z) Z Z Tryz.func125 Z Z (zj2 _ _ _ _ _ _ _ _ _ _) (Y1 Z) (cQ 3 Z<|cQ 5 Z<|cQ 1 Z<|cQ 6 Z<|cN) (Zi Z<|Zi Z<|Zi Z<|Zi Z<|Zi Z<|Zi Z<|rN) fun r16 n17=>z1s<|z38<|z0k<|z28<|Zq (I.add Z Z)<|Zm Z<|z1s<|z1g (fun aa ww h=>Zu h [4,5,6,2,3,1])
  ·
   refine z1r<|z0x<|z10<|z3t (fun aa ww h=>Zu h [4,5])
 ·
  refine gSR<|Zq (ldV 5 Z Z .here z16p Z)<|Zb Z<|z0l<|Ze [v7] [4] Z
def z90 (a0:z00) (a1:V3):Option ((List V3) × Int) :=
 zd4 a0 a1 >>= fun r3 =>
 if r3.2 != 0 then
  some ([],r3.2)
 else
  idx a0.Ops r3.1 >>= fun x6 =>
  za7 a0 x6.Preds >>= fun r8 =>
  z94 a0 r8 >>= fun r10 =>
  some (r10,0)
theorem zgw (a0:z00) (a1:V3):z1t Tryz.prog 97 [.rd z01 a0,.rd aZ a1] [zG1] (z90 a0 a1) (fun r nv=>⟨[.val (nv 0),.rd z0c r.2],[(1001,some (.bool true,.glob 1 (z3m 64 z0n) z5x)),(100,some (nv 0,.list aZ 78 r.1))]⟩):=by
 refine z2p 27 Tryz.func97 Z Z Z fun H w=>?_
 refine gSR<|Eb Z (bx 1 Z) fun v1=>Eb Z (bx 2 Z) fun v2=>Za Z<|Zb Z<|gSR<|Zq (ld 1 Z Z fH zb2 Z)<|Zq (ld 2 Z Z fH z4x Z)<|Zc [1001] [] Tryz.func139 Z (zlz _ _) fun r3 n4=>Zm Z<|Zq (ext Z Z)<|Zq (ext Z Z)<|Za Z<|Zb Z<|z0s<|gSR<|Zm Z<|Zq (I.neq Z Z)<|Zj Z (fun h5=>?_) (fun h5=>?_)
 ·
  refine gSR<|Zm Z<|Za Z<|Zb Z<|z0l<|z0w<|zy4 aZ 78 3<|Ze [(.slice none 0 0)] [1001,3] Z
 ·
  refine Zt<|z0s<|z6n [28,31] mixed Z Z<|hTk 0 Z Z (ld 1 Z Z fH zb2 Z)<|hTk 1 Z Z (ld 1 Z Z fH zb2 Z)<|hTk 2 Z Z (faB 1 Z Z Tryz.underlying27 Z (by exact zc0))<|hTk 3 Z Z (ld 1 Z Z (fP (z0a _)) zf9 Z)<|hTk 4 Z Z (mv Z)<|z4c fun x6 h7=>hTk 5 Z Z (ixR Z Z h7 tu25 zax Z)<|hTk 6 Z Z (faR Z (z0t _) Tryz.underlying72 Z Z (by exact z6b))<|hTk 7 Z Z (ldR Z z8l)<|z3a 8 [] [(100,28)] Z (by kernel_rfl) Z (gd0 Z) Z Tryz.func87 Z Z (zkp _ _) (Y2 Z Z) rN Z (fun _ _=>z3w) fun r8 n9=>hFrz 28 [25] Z (fS Z<|fN)<|z3a 9 [] [(100,31)] Z (by kernel_rfl) Z (gd0 Z) Z Tryz.func75 Z Z (zjl _ _) (Y2 Z Z) rN Z (fun _ _=>z3w) fun r10 n11=>Zf 10 Z Z z3w (asg Z)<|hTk 11 Z Z (asg Z)<|z30 (by kernel_rfl)<|z0k<|z0l<|Ze [(n11 0)] [1001,31] Z
def zh7 (a0:z05):Option (z05) :=
 z0p a0.Preds >>= fun r3 =>
 some (⟨a0.Author,r3,a0.Stamp,a0.Act,a0.Sig⟩:z05)
theorem zj1 (a0:z05):z1t Tryz.prog 121 [.rd z04 a0] [] (zh7 a0) (fun r nv=>⟨[.rd z04 r],[]⟩):=by
 refine z2p 8 Tryz.func121 Z Z Z fun H w=>?_
 refine gSR<|Eb Z (bx 1 Z) fun v1=>Eb Z (z5o 2 zax (ZrE.rd (R:=z0n) (x:=0) (Zr.num Z) (ZrE.nilS (ZrE.rd (R:=z2w) (x:=0) (Zr.num Z) (ZrE.rd (R:=z0h) (x:=(⟨0,[],(⟨0,0,0,[]⟩:z03)⟩:z07)) zom (ZrE.rd (R:=z0o) (x:=(⟨0,0⟩:z08)) zqy ZrE.nil Z) Z) Z)) Z)) fun v2=>Zn<|gSR<|Zq (faB 1 Z Z Tryz.underlying72 Z (by exact z6b))<|Zq (ld 1 Z Z (fP (z0t _)) z8l Z)<|Zc [] [(100,3)] Tryz.func55 Z (z1m _) fun r3 n4=>Zq (faB 1 Z Z Tryz.underlying72 Z (by exact z6b))<|lSpl (R:=z04) 1 Z (Sp.via (Sp.prod (Sp.prod (Sp.prod (Sp.prod (Sp.prod Sp.unit))))))<|Es (zta 1 Z Z (zbp.cast (zbp.next z2c (zbp.here z2c)) Z) Z z23 z0e z6b)<|Zn<|gSR<|zxy [.rd z0n a0.Author,.rd (z02 aZ) r3,.rd z2w a0.Stamp,.rd z0h a0.Act,.rd z0o a0.Sig] 1 3 [.rd z0n a0.Author] [.rd z2w a0.Stamp,.rd z0h a0.Act,.rd z0o a0.Sig] Z Z Z Z Z<|ze3 (R:=z04) (⟨a0.Author,r3,a0.Stamp,a0.Act,a0.Sig⟩:z05) 1 Z (Sp.via (Sp.prod (Sp.prod (Sp.prod (Sp.prod (Sp.prod Sp.unit))))))<|Zq (ld 1 Z Z fH ze5 Z)<|zbv aZ [.rd z0n 0,.rd (z02 aZ) [],.rd z2w 0,.rd z0h (⟨0,[],(⟨0,0,0,[]⟩:z03)⟩:z07),.rd z0o (⟨0,0⟩:z08)] 2 [.rd z0n 0] [.rd z2w 0,.rd z0h (⟨0,[],(⟨0,0,0,[]⟩:z03)⟩:z07),.rd z0o (⟨0,0⟩:z08)] Z Z Z<|ze3 (R:=z04) (⟨0,[],0,(⟨0,[],(⟨0,0,0,[]⟩:z03)⟩:z07),(⟨0,0⟩:z08)⟩:z05) 2 Z (Sp.via (Sp.prod (Sp.prod (Sp.prod (Sp.prod (Sp.prod Sp.unit))))))<|Es (sto 2 Z Z fH Z zax)<|Zn<|z0l<|zcn [] [] Z (eC 2 Z Z ze5<|eN) (rN)
def zha (a0:z00) (a2:z05) (r5:Int × Bool) (r11:List V3) (s16:(List z05) × Int):Option (Sum ((List z05)) ((List z05) × Int)) :=
 if decide (s16.2<(r11.length:Int)) then
  some (decide (s16.2<r5.1)) >>= fun y19 =>
  if y19 then
   idx a0.Ops s16.2 >>= fun x21 =>
   zh7 x21 >>= fun r23 =>
   app 112 s16.1 [r23] >>= fun x26 =>
   some (.inr (x26,w64 (s16.2+1)))
  else
   some (s16.2==r5.1) >>= fun y29 =>
   if y29 then
    zh7 a2 >>= fun r31 =>
    app 112 s16.1 [r31] >>= fun x34 =>
    some (.inr (x34,w64 (s16.2+1)))
   else
    idx a0.Ops (w64 (s16.2 - 1)) >>= fun x37 =>
    zh7 x37 >>= fun r39 =>
    app 112 s16.1 [r39] >>= fun x42 =>
    some (.inr (x42,w64 (s16.2+1)))
 else
  some (.inl s16.1)
def zif (a0:z00) (a1:V3) (a2:z05):Option (z00 × Bool) :=
 zec a0 a1 >>= fun r5 =>
 if r5.2 then
  some (a0,false)
 else
  z0p a0.IDs >>= fun r8 =>
  insF r8 r5.1 [a1] >>= fun r11 =>
  (iter (zha a0 a2 r5 r11) ([],0)) >>= fun s15 =>
  some ((⟨r11,s15⟩:z00),true)
set_option maxHeartbeats 4000000 in
theorem zxm (a0:z00) (a1:V3) (a2:z05):z1t Tryz.prog 81 [.rd z01 a0,.rd aZ a1,.rd z04 a2] [] (zif a0 a1 a2) (fun r nv=>⟨[.rd z01 r.1,.rd z0d r.2],[]⟩):=by
 refine z2p 74 Tryz.func81 Z Z Z fun H w=>?_
 refine gSR<|Eb Z (bx 1 Z) fun v1=>Eb Z (bx 2 Z) fun v2=>Eb Z (bx 3 Z) fun v3=>Eb Z (z5o 4 z7e (ZrE.nilS (ZrE.nilS ZrE.nil))) fun v4=>Zb Z<|gSR<|Zq (ld 1 Z Z fH zb2 Z)<|Zq (ld 2 Z Z fH z4x Z)<|Zc [] [] Tryz.func84 Z (zj4 _ _) fun r5 n6=>Zm Z<|Zq (ext Z Z)<|Zq (ext Z Z)<|Za Z<|Zb Z<|z0s<|gSR<|Zm Z<|Zj Z (fun h7=>?_) (fun h7=>?_)
 ·
  refine gKn 17 Z h7<|gKn 9 Z h7<|gSR<|Zq (ld 1 Z Z fH zb2 Z)<|zbv aZ [.rd (z02 aZ) [],.val (.slice none 0 0)] 4 [] [.val (.slice none 0 0)] Z Z Z<|zbv z04 [.rd (z02 aZ) [],.rd (z02 z04) []] 4 [.rd (z02 aZ) []] [] Z Z Z<|ze3 (R:=z01) (⟨[],[]⟩:z00) 4 Z (Sp.via (Sp.prod (Sp.prod Sp.unit)))<|Es (sto 4 Z Z fH Z z7e)<|Zb Z<|z0l<|z0w<|zcn [] [] Z (eC 4 Z Z zb2<|eE Z<|eN) (rN)
 ·
  refine gKn 17 Z h7<|gKn 9 Z h7<|Zt<|z0s<|gSub [(3,.val (z06 v1 0)),(4,.val (z06 v2 0)),(5,.val (z06 v3 0)),(6,.val (z06 v4 0)),(8,.rd z0c r5.1)] [(1,some (v1,.box 27 [.rd z01 a0])),(2,some (v2,.box 78 [.rd aZ a1])),(3,some (v3,.box 72 [.rd z04 a2])),(4,some (v4,.box 27 [.val (.slice none 0 0),.val (.slice none 0 0)]))] [1,2,3,4] (Zs Z Z Z Z<|sS Z<|sN) (Zi Z<|Zi Z<|Zi Z<|Zi Z<|rN)<|zbq fun r8 h10=>zbq fun r11 h13=>gOr [] [⟨1,some ([], fun nv=>(v1,.box 27 [.rd z01 a0])),[]⟩,⟨5,none,[(2,some ([1], fun nv=>((nv 1),.list aZ 78 r8))),(6,none)]⟩,⟨2,some ([], fun nv=>(v2,.box 78 [.rd aZ a1])),[]⟩,⟨6,none,[(5,some ([2], fun nv=>((nv 2),.list aZ 78 [a1]))),(6,none)]⟩,⟨7,none,[(6,some ([3], fun nv=>((nv 3),.list aZ 78 r11)))]⟩,⟨8,none,[(8,some ([4], fun nv=>((nv 4),.box 27 [.val (.slice none 0 0),.val (.slice none 0 0)]))),(9,some ([3,4], fun nv=>((nv 4),.box 27 [.val (nv 3),.val (.slice none 0 0)])))]⟩] [pk 20 (.val (z06 v1 (0+0))) [(0,0,false)],pk 21 (.rd (z02 aZ) a0.IDs) [(0,0,false)],⟨some (22,[1], fun nv=>.val (nv 1)),[(1,0,true)],[1],[]⟩,pd 23 (.rd z0c r5.1),pk 24 (.rd aZ a1) [(2,0,false)],⟨some (25,[2], fun nv=>.val (nv 2)),[(3,0,true)],[2],[]⟩,⟨some (26,[3], fun nv=>.val (nv 3)),[(3,1,true),(1,1,true),(4,0,true)],[3],[]⟩,⟨some (27,[3], fun nv=>.agg [.val (nv 3),.val (.slice none 0 0)]),[],[],[]⟩,⟨some (10,[4], fun nv=>.val (z06 (nv 4) 0)),[(5,0,true)],[4],[]⟩,⟨none,[(5,1,true)],[],[]⟩] mixed (oC (oRn (fun nv E=>faB 1 Z Z Tryz.underlying27 Z (by exact z6b)))<|oC (oRn (fun nv E=>ld 1 Z Z (fP (z09 _)) z8l Z))<|oC (oCl [1] [] [(100,5)] h10 Tryz.func55 Z (fun nv=>(z1m _)) (fun nv=>(Y1 Z)) (fun nv E=>rN))<|oC (oRn (fun nv E=>mv Z))<|oC (oRn (fun nv E=>ld 2 Z Z fH z4x Z))<|oC (oEf 6 2 (fun nv E=>lit (R:=aZ) ([a1]:List V3) 6 (pP Z Z<|pN) Z tu24 z33 Z Z))<|oC (oCl [3] [5,6] [(100,7)] h13 Tryz.func120 Z (fun nv=>(z16d _ _ _ _ _)) (fun nv=>(aQ Z<|aQ Z<|aQ Z<|aN)) (fun nv E=>(Zi Z<|Zi Z<|rN)))<|oC (oRn (fun nv E=>zz1 [(0,1),(1,1)] Tryz.underlying27 z7e (ZrE.nilS (ZrE.nilS ZrE.nil)) Z (zn2.cons Z Z z0e (zbp.cast (zbp.here z0e) Z)<|zn2.done Z)))<|oC (oEb 8 4 (fun nv E=>z5o 8 z7e (ZrE.nilS (ZrE.nilS ZrE.nil))))<|oC (oEs 8 (fun nv E=>zze 8 Z Z (z0q.cast (z0q.cons z0e (z0q.cons z0e z0q.nil)) Z) Z (z6j.cons z23 (z6j.cons z23 z6j.nil)) (z0q.cast (z0q.cons z0e (z0q.cons z0e z0q.nil)) Z) z7e))<|oN) fun n14=>z0k<|z8t (fun (s15:(List z05)) aa ww=>∃ nv:Nat→Value,Sta (ctx 74 H [] w) [(6,.val (z06 v4 0)),(10,.val (z06 (nv 0) 0))] [(4,some (v4,.box 27 [.val (.slice none 0 0),.val (.slice none 0 0)])),(7,some ((nv 1),.list aZ 78 r11)),(9,some ((nv 2),.list z04 72 s15)),(8,some ((nv 0),.box 27 [.val (nv 1),.val (nv 2)]))] aa ww) ?_ (fun s15=>?_)
  ·
   refine gSR<|Zq (faB 8 Z Z Tryz.underlying27 Z (by exact z6b))<|Zq (ldV 8 Z Z (At.cast At.here Z) sc24 Z)<|Zq (z3s Z (.own 7 Z) Z tu24)<|Zm Z<|Zn<|zxg z04 72 11<|z1w (fun (s16:(List z05) × Int) aa ww=>∃ nv:Nat→Value,Sta (ctx 74 H [] w) [(3,.val (z06 v1 0)),(5,.val (z06 v3 0)),(6,.val (z06 v4 0)),(8,.rd z0c r5.1),(10,.val (z06 (nv 0) 0)),(30,.rd z0c (r11.length:Int)),(31,.rd z0c s16.2)] [(1,some (v1,.box 27 [.rd z01 a0])),(3,some (v3,.box 72 [.rd z04 a2])),(4,some (v4,.box 27 [.val (.slice none 0 0),.val (.slice none 0 0)])),(7,some ((nv 1),.list aZ 78 r11)),(10,some ((nv 2),.list z04 72 s16.1)),(8,some ((nv 0),.box 27 [.val (nv 1),.val (nv 2)]))] aa ww) (fun aa ww h=>⟨nvl [(n14 4),(n14 3),(.slice none 0 0)],Zu h [1,3,4,7,11,8]⟩) (fun s16=>?_)
   refine gEx fun n17=>gSR<|Zq (I.lss Z Z)<|Zn<|z0s<|gIf Z Z (fun h18=>?_) (fun h18=>?_)
   ·
    refine Zt<|z0s<|z4w<|gSR<|Zm Z<|Zb Z<|z4w<|gSR<|Zm Z<|Zm Z<|Zq (I.lss Z Z)<|Za Z<|z1x 46 Z fun y19=>Zj Z (fun h20=>?_) (fun h20=>?_)
    ·
     refine gSub [(3,.val (z06 v1 0)),(5,.val (z06 v3 0)),(6,.val (z06 v4 0)),(8,.rd z0c r5.1),(10,.val (z06 (n17 0) 0)),(30,.rd z0c (r11.length:Int)),(31,.rd z0c s16.2),(11,.rd z0c s16.2)] [(1,some (v1,.box 27 [.rd z01 a0])),(3,some (v3,.box 72 [.rd z04 a2])),(4,some (v4,.box 27 [.val (.slice none 0 0),.val (.slice none 0 0)])),(7,some ((n17 1),.list aZ 78 r11)),(10,some ((n17 2),.list z04 72 s16.1)),(8,some ((n17 0),.box 27 [.val (n17 1),.val (n17 2)]))] [1,3,4,7,10,8] (Zs Z Z Z Z<|Zs Z Z Z Z<|sN) (Zi Z<|Zi Z<|Zi Z<|Zi Z<|Zi Z<|Zi Z<|rN)<|zbq fun x21 h22=>zbq fun r23 h25=>zbq fun x26 h27=>gOr [] [⟨8,some ([], fun nv=>((n17 0),.box 27 [.val (n17 1),.val (n17 2)])),[(11,some ([2], fun nv=>((n17 0),.box 27 [.val (n17 1),.val (nv 2)])))]⟩,⟨1,some ([], fun nv=>(v1,.box 27 [.rd z01 a0])),[]⟩,⟨12,none,[(8,none)]⟩,⟨10,some ([], fun nv=>((n17 2),.list z04 72 s16.1)),[(9,some ([2], fun nv=>((nv 2),.list z04 72 x26)))]⟩] [pk 50 (.val (z06 (n17 0) (0+1))) [(0,0,false)],pk 51 (.val (n17 2)) [(0,0,false)],pk 52 (.val (z06 v1 (0+1))) [(1,0,false)],pk 53 (.rd (z02 z04) a0.Ops) [(1,0,false)],pd 54 (.rd z0c s16.2),pd 55 (.rp z04 x21),pd 56 (.rd z04 x21),pd 57 (.rd z04 r23),⟨some (58,[], fun nv=>.rd (z02 z04) [r23]),[(2,0,true)],[1],[]⟩,⟨some (59,[2], fun nv=>.val (nv 2)),[(3,0,true)],[2],[]⟩,pk 60 (.val (z06 (n17 0) (0+1))) [(0,0,false)],⟨none,[(3,1,false),(0,0,true)],[],[]⟩] mixed (oC (oRn (fun nv E=>faB 8 Z Z Tryz.underlying27 Z (by exact zc0)))<|oC (oRn (fun nv E=>ldV 8 Z Z (At.cast (At.next z0e At.here) Z) sc25 Z))<|oC (oRn (fun nv E=>faB 1 Z Z Tryz.underlying27 Z (by exact zc0)))<|oC (oRn (fun nv E=>ld 1 Z Z (fP (z0a _)) zf9 Z))<|oC (oRn (fun nv E=>mv Z))<|oC (oRn (fun nv E=>ixR Z Z h22 tu25 zax Z))<|oC (oRn (fun nv E=>ldR Z ze5))<|oC (oCl [] [] [] h25 Tryz.func121 Z (fun nv=>(zj1 _)) (fun nv=>(Y1 Z)) (fun nv E=>rN))<|oC (oFz (A1:=fun nv=>[(12,some ((nv 1),.list z04 72 [r23]))]) 12 1 (oEf 12 1 (fun nv E=>lit (R:=z04) ([r23]:List z05) 12 (pP Z Z<|pN) Z tu25 zax Z Z)))<|oC (oEf 10 2 (fun nv E=>apn 10 Z Z Z .rd h27 tu25 zax Z Z Z))<|oC (oRn (fun nv E=>faB 8 Z Z Tryz.underlying27 Z (by exact zc0)))<|oC (oEs 8 (fun nv E=>zta 8 Z Z (zbp.cast (zbp.next z0e (zbp.here z0e)) Z) Z z23 z0e zc0))<|oN) fun n28=>z38<|z38<|z0k<|z28<|Zq (I.add Z Z)<|Zm Z<|z1s<|z1g (fun aa ww h=>⟨nvl [(n17 0),(n17 1),(n28 2)],Zu h [1,3,4,7,10,8]⟩)
    ·
     refine gSR<|Zm Z<|Zm Z<|Zq (I.eql Z Z)<|Za Z<|z1x 61 Z fun y29=>Zj Z (fun h30=>?_) (fun h30=>?_)
     ·
      refine gSub [(3,.val (z06 v1 0)),(5,.val (z06 v3 0)),(6,.val (z06 v4 0)),(8,.rd z0c r5.1),(10,.val (z06 (n17 0) 0)),(30,.rd z0c (r11.length:Int)),(31,.rd z0c s16.2)] [(1,some (v1,.box 27 [.rd z01 a0])),(3,some (v3,.box 72 [.rd z04 a2])),(4,some (v4,.box 27 [.val (.slice none 0 0),.val (.slice none 0 0)])),(7,some ((n17 1),.list aZ 78 r11)),(10,some ((n17 2),.list z04 72 s16.1)),(8,some ((n17 0),.box 27 [.val (n17 1),.val (n17 2)]))] [1,3,4,7,10,8] (Zs Z Z Z Z<|sS Z<|sS Z<|sS Z<|sN) (Zi Z<|Zi Z<|Zi Z<|Zi Z<|Zi Z<|Zi Z<|rN)<|zbq fun r31 h33=>zbq fun x34 h35=>gOr [] [⟨8,some ([], fun nv=>((n17 0),.box 27 [.val (n17 1),.val (n17 2)])),[(7,some ([2], fun nv=>((n17 0),.box 27 [.val (n17 1),.val (nv 2)])))]⟩,⟨3,some ([], fun nv=>(v3,.box 72 [.rd z04 a2])),[]⟩,⟨13,none,[(4,none)]⟩,⟨10,some ([], fun nv=>((n17 2),.list z04 72 s16.1)),[(5,some ([2], fun nv=>((nv 2),.list z04 72 x34)))]⟩] [pk 65 (.val (z06 (n17 0) (0+1))) [(0,0,false)],pk 66 (.val (n17 2)) [(0,0,false)],pk 67 (.rd z04 a2) [(1,0,false)],pd 68 (.rd z04 r31),⟨some (69,[], fun nv=>.rd (z02 z04) [r31]),[(2,0,true)],[1],[]⟩,⟨some (70,[2], fun nv=>.val (nv 2)),[(3,0,true)],[2],[]⟩,pk 71 (.val (z06 (n17 0) (0+1))) [(0,0,false)],⟨none,[(3,1,false),(0,0,true)],[],[]⟩] mixed (oC (oRn (fun nv E=>faB 8 Z Z Tryz.underlying27 Z (by exact zc0)))<|oC (oRn (fun nv E=>ldV 8 Z Z (At.cast (At.next z0e At.here) Z) sc25 Z))<|oC (oRn (fun nv E=>ld 3 Z Z fH ze5 Z))<|oC (oCl [] [] [] h33 Tryz.func121 Z (fun nv=>(zj1 _)) (fun nv=>(Y1 Z)) (fun nv E=>rN))<|oC (oFz (A1:=fun nv=>[(13,some ((nv 1),.list z04 72 [r31]))]) 13 1 (oEf 13 1 (fun nv E=>lit (R:=z04) ([r31]:List z05) 13 (pP Z Z<|pN) Z tu25 zax Z Z)))<|oC (oEf 10 2 (fun nv E=>apn 10 Z Z Z .rd h35 tu25 zax Z Z Z))<|oC (oRn (fun nv E=>faB 8 Z Z Tryz.underlying27 Z (by exact zc0)))<|oC (oEs 8 (fun nv E=>zta 8 Z Z (zbp.cast (zbp.next z0e (zbp.here z0e)) Z) Z z23 z0e zc0))<|oN) fun n36=>z38<|z38<|z0k<|z28<|Zq (I.add Z Z)<|Zm Z<|z1s<|z1g (fun aa ww h=>⟨nvl [(n17 0),(n17 1),(n36 2)],Zu h [1,3,4,7,10,8]⟩)
     ·
      refine gSub [(3,.val (z06 v1 0)),(5,.val (z06 v3 0)),(6,.val (z06 v4 0)),(8,.rd z0c r5.1),(10,.val (z06 (n17 0) 0)),(30,.rd z0c (r11.length:Int)),(31,.rd z0c s16.2),(11,.rd z0c s16.2)] [(1,some (v1,.box 27 [.rd z01 a0])),(3,some (v3,.box 72 [.rd z04 a2])),(4,some (v4,.box 27 [.val (.slice none 0 0),.val (.slice none 0 0)])),(7,some ((n17 1),.list aZ 78 r11)),(10,some ((n17 2),.list z04 72 s16.1)),(8,some ((n17 0),.box 27 [.val (n17 1),.val (n17 2)]))] [1,3,4,7,10,8] (Zs Z Z Z Z<|Zs Z Z Z Z<|sN) (Zi Z<|Zi Z<|Zi Z<|Zi Z<|Zi Z<|Zi Z<|rN)<|zbq fun x37 h38=>zbq fun r39 h41=>zbq fun x42 h43=>gOr [] [⟨8,some ([], fun nv=>((n17 0),.box 27 [.val (n17 1),.val (n17 2)])),[(12,some ([2], fun nv=>((n17 0),.box 27 [.val (n17 1),.val (nv 2)])))]⟩,⟨1,some ([], fun nv=>(v1,.box 27 [.rd z01 a0])),[]⟩,⟨14,none,[(9,none)]⟩,⟨10,some ([], fun nv=>((n17 2),.list z04 72 s16.1)),[(10,some ([2], fun nv=>((nv 2),.list z04 72 x42)))]⟩] [pk 34 (.val (z06 (n17 0) (0+1))) [(0,0,false)],pk 35 (.val (n17 2)) [(0,0,false)],pk 36 (.val (z06 v1 (0+1))) [(1,0,false)],pk 37 (.rd (z02 z04) a0.Ops) [(1,0,false)],pd 38 (.rd z0c s16.2),pd 39 (.rd z0c (w64 (s16.2 - 1))),pd 40 (.rp z04 x37),pd 41 (.rd z04 x37),pd 42 (.rd z04 r39),⟨some (43,[], fun nv=>.rd (z02 z04) [r39]),[(2,0,true)],[1],[]⟩,⟨some (44,[2], fun nv=>.val (nv 2)),[(3,0,true)],[2],[]⟩,pk 45 (.val (z06 (n17 0) (0+1))) [(0,0,false)],⟨none,[(3,1,false),(0,0,true)],[],[]⟩] mixed (oC (oRn (fun nv E=>faB 8 Z Z Tryz.underlying27 Z (by exact zc0)))<|oC (oRn (fun nv E=>ldV 8 Z Z (At.cast (At.next z0e At.here) Z) sc25 Z))<|oC (oRn (fun nv E=>faB 1 Z Z Tryz.underlying27 Z (by exact zc0)))<|oC (oRn (fun nv E=>ld 1 Z Z (fP (z0a _)) zf9 Z))<|oC (oRn (fun nv E=>mv Z))<|oC (oRn (fun nv E=>I.sub Z Z))<|oC (oRn (fun nv E=>ixR Z Z h38 tu25 zax Z))<|oC (oRn (fun nv E=>ldR Z ze5))<|oC (oCl [] [] [] h41 Tryz.func121 Z (fun nv=>(zj1 _)) (fun nv=>(Y1 Z)) (fun nv E=>rN))<|oC (oFz (A1:=fun nv=>[(14,some ((nv 1),.list z04 72 [r39]))]) 14 1 (oEf 14 1 (fun nv E=>lit (R:=z04) ([r39]:List z05) 14 (pP Z Z<|pN) Z tu25 zax Z Z)))<|oC (oEf 10 2 (fun nv E=>apn 10 Z Z Z .rd h43 tu25 zax Z Z Z))<|oC (oRn (fun nv E=>faB 8 Z Z Tryz.underlying27 Z (by exact zc0)))<|oC (oEs 8 (fun nv E=>zta 8 Z Z (zbp.cast (zbp.next z0e (zbp.here z0e)) Z) Z z23 z0e zc0))<|oN) fun n44=>z38<|z38<|z0k<|z28<|Zq (I.add Z Z)<|Zm Z<|z1s<|z1g (fun aa ww h=>⟨nvl [(n17 0),(n17 1),(n44 2)],Zu h [1,3,4,7,10,8]⟩)
   ·
    refine z1r<|z0x<|z10<|z3t (fun aa ww h=>⟨nvl [(n17 0),(n17 1),(n17 2)],Zu h [4,7,10,8]⟩)
  ·
   refine gEx fun n45=>gSR<|zxy [.rd (z02 aZ) r11,.val (n45 2)] 8 7 [] [.val (n45 2)] Z Z Z Z Z<|zxy [.rd (z02 aZ) r11,.rd (z02 z04) s15] 8 9 [.rd (z02 aZ) r11] [] Z Z Z Z Z<|ze3 (R:=z01) (⟨r11,s15⟩:z00) 8 Z (Sp.via (Sp.prod (Sp.prod Sp.unit)))<|Zq (ld 8 Z Z fH zb2 Z)<|zbv aZ [.rd (z02 aZ) [],.val (.slice none 0 0)] 4 [] [.val (.slice none 0 0)] Z Z Z<|zbv z04 [.rd (z02 aZ) [],.rd (z02 z04) []] 4 [.rd (z02 aZ) []] [] Z Z Z<|ze3 (R:=z01) (⟨[],[]⟩:z00) 4 Z (Sp.via (Sp.prod (Sp.prod Sp.unit)))<|Es (sto 4 Z Z fH Z z7e)<|Zb Z<|z0l<|zcn [] [] Z (eC 4 Z Z zb2<|eE Z<|eN) (rN)
def zk8 (a0:V3) (c1_0:z00):Option (Bool) :=
 zec c1_0 a0 >>= fun r2 =>
 some (!r2.2)
theorem zs9 (a0:V3) (p1_0:Value) (c1_0:z00):z1t Tryz.prog 83 [.rd aZ a0,.val (z06 p1_0 0)] [(1,some (p1_0,.box 27 [.rd z01 c1_0]))] (zk8 a0 c1_0) (fun r nv=>⟨[.rd z0d r],[(1,some (p1_0,.box 27 [.rd z01 c1_0]))]⟩):=by
 refine z2p 14 Tryz.func83 Z Z Z fun H w=>?_
 refine gSR<|Eb Z (bx 2 Z) fun v1=>Zb Z<|gSR<|Zq (ld 1 Z Z fH zb2 Z)<|Zq (ld 2 Z Z fH z4x Z)<|Zc [] [] Tryz.func84 Z (zj4 _ _) fun r2 n3=>Zm Z<|Zq (ext Z Z)<|Zq (ext Z Z)<|Za Z<|Zb Z<|gSR<|Zm Z<|Zq (zew Z)<|Zb Z<|z0l<|Ze [] [1] Z
def z1b (a0:List V3) (c1_0:z00) (s2:Int):Option (Sum (Sum Int Unit) Int) :=
 if decide (s2<(a0.length:Int)) then
  idx a0 s2 >>= fun x4 =>
  zk8 x4 c1_0 >>= fun r6 =>
  if r6 then
   some (.inl (.inl s2))
  else
   some (.inr (w64 (s2+1)))
 else
  some (.inl (.inr ()))
def z3d (a0:List V3) (c1_0:z00):Option (Int) :=
 z4y (iter (z1b a0 c1_0) 0) fun s1 =>
 some (-1)
theorem z8g (a0:List V3) (p1_0:Value) (c1_0:z00):z1t Tryz.prog 91 [.rd (z02 aZ) a0,.val (.func (.func 83) #[] #[z06 p1_0 0])] [(1,some (p1_0,.box 27 [.rd z01 c1_0]))] (z3d a0 c1_0) (fun r nv=>⟨[.rd z0c r],[(1,some (p1_0,.box 27 [.rd z01 c1_0]))]⟩):=by
 refine z2p 19 Tryz.func91 Z Z Z fun H w=>?_
 refine gSR<|Zb Z<|z7b (fun (s1:Unit) aa ww=>Sta (ctx 19 H [(1,some (p1_0,.box 27 [.rd z01 c1_0]))] w) [] [(1,some (p1_0,.box 27 [.rd z01 c1_0]))] aa ww) ?_ (fun s1=>?_)
 ·
  refine gSR<|Zm Z<|Zq (z3s Z .rd Z tu24)<|Zm Z<|Zn<|z1w (fun (s2:Int) aa ww=>Sta (ctx 19 H [(1,some (p1_0,.box 27 [.rd z01 c1_0]))] w) [(0,.rd (z02 aZ) a0),(1,.val (.func (.func 83) #[] #[z06 p1_0 0])),(7,.rd z0c (a0.length:Int)),(8,.rd z0c s2)] [(1,some (p1_0,.box 27 [.rd z01 c1_0]))] aa ww) (fun aa ww h=>Zu h [1]) (fun s2=>?_)
  refine gSR<|Zq (I.lss Z Z)<|Zn<|z0s<|gIf Z Z (fun h3=>?_) (fun h3=>?_)
  ·
   refine Zt<|z0s<|z4w<|gSR<|Zm Z<|Zb Z<|gSR<|Zm Z<|Zm Z<|Zm Z<|z0u fun x4 h5=>Zq (ixR Z Z h5 tu24 z33 Z)<|Zq (ldR Z z4x)<|zly [1] [(1,1)] (gd0 Z) Z Z Tryz.func83 Z Z (zs9 _ _ _) (Y1 Z) (cQ 1 Z<|cN) (y1 Z) fun r6 n7=>Zj Z (fun h8=>?_) (fun h8=>?_)
   ·
    refine gSR<|Zm Z<|Zb Z<|z0l<|z3x<|z0w<|z6q<|z5w<|Ze [] [1] Z
   ·
    refine z2u<|z38<|z0k<|z28<|Zq (I.add Z Z)<|Zm Z<|z1s<|z1g (fun aa ww h=>Zu h [1])
  ·
   refine z1r<|z0x<|z10<|z5p (fun aa ww h=>Zu h [1])
 ·
  refine gSR<|Zb Z<|z0l<|Ze [] [1] Z
def z1q (a0:List V3) (c1_0:z00):Option (Bool) :=
 z3d a0 c1_0 >>= fun r1 =>
 some (decide (0≤r1)) >>= fun y3 =>
 some y3
theorem z7m (a0:List V3) (p1_0:Value) (c1_0:z00):z1t Tryz.prog 82 [.rd (z02 aZ) a0,.val (.func (.func 83) #[] #[z06 p1_0 0])] [(1,some (p1_0,.box 27 [.rd z01 c1_0]))] (z1q a0 c1_0) (fun r nv=>⟨[.rd z0d r],[(1,some (p1_0,.box 27 [.rd z01 c1_0]))]⟩):=by
 refine z2p 9 Tryz.func82 Z Z Z fun H w=>?_
 refine gSR<|Zb Z<|gSR<|Zm Z<|Zm Z<|Zc [1] [(1,1)] Tryz.func91 Z (z8g _ _ _) fun r1 n2=>Zq (I.geq Z Z)<|Za Z<|z1x 4 Z fun y3=>Zn<|z0l<|Ze [] [1] Z
def znr (a0:z00) (a1:z05):Option (z00 × V3 × Int) :=
 z5g a0 >>= fun r5 =>
 (if r5==0 then
  zh0 a1 >>= fun r9 =>
  some r9
 else
  some r5) >>= fun s7 =>
 if s7 != 0 then
  some ((⟨[],[]⟩:z00),(Vector.replicate 32 0),s7)
 else
  zyq a1 >>= fun r12 =>
  zif a0 r12.1 a1 >>= fun r15 =>
  if !r15.2 then
   some ((⟨[],[]⟩:z00),(Vector.replicate 32 0),14)
  else
   z1q a1.Preds a0 >>= fun r19 =>
   if r19 then
    some ((⟨[],[]⟩:z00),(Vector.replicate 32 0),40)
   else
    some ((a0.Ops.length:Int)==60) >>= fun y22 =>
    if y22 then
     some ((⟨[],[]⟩:z00),(Vector.replicate 32 0),18)
    else
     some (r15.1,r12.1,0)
theorem zxu (a0:z00) (a1:z05):z1t Tryz.prog 35 [.rd z01 a0,.rd z04 a1] [zG1] (znr a0 a1) (fun r nv=>⟨[.rd z01 r.1,.rd aZ r.2.1,.rd z0c r.2.2],[(1001,some (.bool true,.glob 1 (z3m 64 z0n) z5x))]⟩):=by
 refine z2p 56 Tryz.func35 Z Z Z fun H w=>?_
 refine gSR<|Eb Z (bx 1 Z) fun v1=>Eb Z (bx 2 Z) fun v2=>Eb Z (z5o 3 z7e (ZrE.nilS (ZrE.nilS ZrE.nil))) fun v3=>Eb Z (z5o 4 z33 (.zr (R:=aZ) (x:=(Vector.replicate 32 0)) zex)) fun v4=>Zb Z<|gSR<|Zq (ld 1 Z Z fH zb2 Z)<|Zc [1001] [] Tryz.func60 Z (zcj _) fun r5 n6=>Zb Z<|z8t (fun (s7:Int) aa ww=>Sta (ctx 56 H [zG1] w) [(2,.val (z06 v1 0)),(3,.val (z06 v2 0)),(4,.val (z06 v3 0)),(5,.val (z06 v4 0)),(7,.rd z0c s7)] [(1,some (v1,.box 27 [.rd z01 a0])),(2,some (v2,.box 72 [.rd z04 a1])),(3,some (v3,.box 27 [.val (.slice none 0 0),.val (.slice none 0 0)])),(4,some (v4,.box 78 [.rd aZ (Vector.replicate 32 0)])),zG1] aa ww) ?_ (fun s7=>?_)
 ·
  refine gSR<|Zm Z<|Zq (I.eql Z Z)<|Zj Z (fun h8=>?_) (fun h8=>?_)
  ·
   refine z28<|Zq (ld 2 Z Z fH ze5 Z)<|Zc [1001] [] Tryz.func79 Z (zlc _) fun r9 n10=>Za Z<|z1s<|z3t (fun aa ww h=>Zu h [1,2,3,4,1001])
  ·
   refine z2u<|z3t (fun aa ww h=>Zu h [1,2,3,4,1001])
 ·
  refine z0s<|gSR<|Zm Z<|Zq (I.neq Z Z)<|Zj Z (fun h11=>?_) (fun h11=>?_)
  ·
   refine gSR<|Zq (zz1 [(0,1),(1,1)] Tryz.underlying27 z7e (ZrE.nilS (ZrE.nilS ZrE.nil)) Z (zn2.done Z))<|Zq (bldG (x':=((Vector.replicate 32 0):V3)) tu78 z33 zex ti5 (Bld.done Z))<|Zm Z<|Es (zze 3 Z Z (z0q.cast (z0q.cons z0e (z0q.cons z0e z0q.nil)) Z) Z (z6j.cons z23 (z6j.cons z23 z6j.nil)) (z0q.cast (z0q.cons z0e (z0q.cons z0e z0q.nil)) Z) z7e)<|Es (sto 4 Z Z fH Z z33)<|Zb Z<|z0l<|z0w<|zrm aZ [.rd (z02 aZ) [],.val (.slice none 0 0)] 3 [] [.val (.slice none 0 0)] Z Z Z<|zrm z04 [.rd (z02 aZ) [],.rd (z02 z04) []] 3 [.rd (z02 aZ) []] [] Z Z Z<|eJoi (R:=z01) (⟨[],[]⟩:z00) 3 Z (Sp.via (Sp.prod (Sp.prod Sp.unit)))<|zcn [] [1001] Z (eC 3 Z Z zb2<|eC 4 Z Z z4x<|eE Z<|eN) (y1 Z)
  ·
   refine Zt<|gSR<|Zq (ld 2 Z Z fH ze5 Z)<|Zc [1001] [] Tryz.func80 Z (zvk _) fun r12 n13=>Zm Z<|Zq (ext Z Z)<|Zq (ext Z Z)<|Eb Z (z5o 1100 z33 (.zr (R:=aZ) (x:=(Vector.replicate 32 0)) zex)) fun v14=>Es (sto 1100 Z Z fH Z z33)<|Zb Z<|gSR<|Zq (ld 1 Z Z fH zb2 Z)<|Zq (ld 1100 Z Z fH z4x Z)<|Zq (ld 2 Z Z fH ze5 Z)<|Zc [] [] Tryz.func81 Z (zxm _ _ _) fun r15 n16=>Zm Z<|Zq (ext Z Z)<|Zq (ext Z Z)<|Eb Z (z5o 1101 z7e (ZrE.nilS (ZrE.nilS ZrE.nil))) fun v17=>zbv aZ [.rd (z02 aZ) [],.val (.slice none 0 0)] 1101 [] [.val (.slice none 0 0)] Z Z Z<|zbv z04 [.rd (z02 aZ) [],.rd (z02 z04) []] 1101 [.rd (z02 aZ) []] [] Z Z Z<|ze3 (R:=z01) (⟨[],[]⟩:z00) 1101 Z (Sp.via (Sp.prod (Sp.prod Sp.unit)))<|Es (sto 1101 Z Z fH Z z7e)<|Zb Z<|z0s<|z4w<|gSR<|Zm Z<|Zq (zew Z)<|Zb Z<|gIf Z Z (fun h18=>?_) (fun h18=>?_)
   ·
    refine gKn 37 Z h18<|gSR<|Zq (zz1 [(0,1),(1,1)] Tryz.underlying27 z7e (ZrE.nilS (ZrE.nilS ZrE.nil)) Z (zn2.done Z))<|Zq (bldG (x':=((Vector.replicate 32 0):V3)) tu78 z33 zex ti5 (Bld.done Z))<|Es (zze 3 Z Z (z0q.cast (z0q.cons z0e (z0q.cons z0e z0q.nil)) Z) Z (z6j.cons z23 (z6j.cons z23 z6j.nil)) (z0q.cast (z0q.cons z0e (z0q.cons z0e z0q.nil)) Z) z7e)<|Es (sto 4 Z Z fH Z z33)<|Zb Z<|z0l<|z3x<|z0w<|zrm aZ [.rd (z02 aZ) [],.val (.slice none 0 0)] 3 [] [.val (.slice none 0 0)] Z Z Z<|zrm z04 [.rd (z02 aZ) [],.rd (z02 z04) []] 3 [.rd (z02 aZ) []] [] Z Z Z<|eJoi (R:=z01) (⟨[],[]⟩:z00) 3 Z (Sp.via (Sp.prod (Sp.prod Sp.unit)))<|zcn [] [1001] Z (eC 3 Z Z zb2<|eC 4 Z Z z4x<|eE Z<|eN) (y1 Z)
   ·
    refine gKn 37 Z h18<|gSR<|Zq (faB 2 Z Z Tryz.underlying72 Z (by exact z6b))<|Zq (ld 2 Z Z (fP (z0t _)) z8l Z)<|Zq (mkf mp0 (mp1 Z))<|Zc [1] [(1,1)] Tryz.func82 Z (z7m _ _ _) fun r19 n20=>Zb Z<|gIf Z Z (fun h21=>?_) (fun h21=>?_)
    ·
     refine gKn 44 Z h21<|gSR<|Zq (zz1 [(0,1),(1,1)] Tryz.underlying27 z7e (ZrE.nilS (ZrE.nilS ZrE.nil)) Z (zn2.done Z))<|Zq (bldG (x':=((Vector.replicate 32 0):V3)) tu78 z33 zex ti5 (Bld.done Z))<|Es (zze 3 Z Z (z0q.cast (z0q.cons z0e (z0q.cons z0e z0q.nil)) Z) Z (z6j.cons z23 (z6j.cons z23 z6j.nil)) (z0q.cast (z0q.cons z0e (z0q.cons z0e z0q.nil)) Z) z7e)<|Es (sto 4 Z Z fH Z z33)<|Zb Z<|z0l<|z3x<|z0w<|zrm aZ [.rd (z02 aZ) [],.val (.slice none 0 0)] 3 [] [.val (.slice none 0 0)] Z Z Z<|zrm z04 [.rd (z02 aZ) [],.rd (z02 z04) []] 3 [.rd (z02 aZ) []] [] Z Z Z<|eJoi (R:=z01) (⟨[],[]⟩:z00) 3 Z (Sp.via (Sp.prod (Sp.prod Sp.unit)))<|zcn [] [1001] Z (eC 3 Z Z zb2<|eC 4 Z Z z4x<|eE Z<|eN) (y1 Z)
    ·
     refine gKn 44 Z h21<|gSR<|Zq (faB 1 Z Z Tryz.underlying27 Z (by exact zc0))<|Zq (ld 1 Z Z (fP (z0a _)) zf9 Z)<|Zq (z3s Z .rd Z tu25)<|Zq (I.eql Z Z)<|Za Z<|z1x 47 Z fun y22=>Zj Z (fun h23=>?_) (fun h23=>?_)
     ·
      refine gSR<|Zq (zz1 [(0,1),(1,1)] Tryz.underlying27 z7e (ZrE.nilS (ZrE.nilS ZrE.nil)) Z (zn2.done Z))<|Zq (bldG (x':=((Vector.replicate 32 0):V3)) tu78 z33 zex ti5 (Bld.done Z))<|Es (zze 3 Z Z (z0q.cast (z0q.cons z0e (z0q.cons z0e z0q.nil)) Z) Z (z6j.cons z23 (z6j.cons z23 z6j.nil)) (z0q.cast (z0q.cons z0e (z0q.cons z0e z0q.nil)) Z) z7e)<|Es (sto 4 Z Z fH Z z33)<|Zb Z<|z0l<|z3x<|z0w<|zrm aZ [.rd (z02 aZ) [],.val (.slice none 0 0)] 3 [] [.val (.slice none 0 0)] Z Z Z<|zrm z04 [.rd (z02 aZ) [],.rd (z02 z04) []] 3 [.rd (z02 aZ) []] [] Z Z Z<|eJoi (R:=z01) (⟨[],[]⟩:z00) 3 Z (Sp.via (Sp.prod (Sp.prod Sp.unit)))<|zcn [] [1001] Z (eC 3 Z Z zb2<|eC 4 Z Z z4x<|eE Z<|eN) (y1 Z)
     ·
      refine z2u<|z38<|z0k<|z0s<|z6n [3,4] mixed Z Z<|hTk 0 Z Z (ld 1101 Z Z fH zb2 Z)<|hTk 1 Z Z (ld 1100 Z Z fH z4x Z)<|hPnl aZ [.rd (z02 aZ) [],.val (.slice none 0 0)] 3 [] [.val (.slice none 0 0)] Z Z Z<|hPnl z04 [.rd (z02 aZ) [],.rd (z02 z04) []] 3 [.rd (z02 aZ) []] [] Z Z Z<|hJoi (R:=z01) (⟨[],[]⟩:z00) 3 Z (Sp.via (Sp.prod (Sp.prod Sp.unit)))<|Zp 2 Z Z Z Z Z (sto 3 Z Z fH Z z7e)<|Zp 3 Z Z Z Z Z (sto 4 Z Z fH Z z33)<|hTk 4 Z Z (asg Z)<|z30 (by kernel_rfl)<|z0k<|z0l<|zcn [] [1001] Z (eC 3 Z Z zb2<|eC 4 Z Z z4x<|eE Z<|eN) (y1 Z)
def zgr (a0:z05):Option (z05) :=
 app 32 ([]:List V3) a0.Preds >>= fun x4 =>
 some (⟨a0.Author,x4,a0.Stamp,a0.Act,a0.Sig⟩:z05)
def z8z (a0:z00) (s9:(List z05) × Int):Option (Sum ((List z05)) ((List z05) × Int)) :=
 if decide (s9.2<(a0.Ops.length:Int)) then
  idx a0.Ops s9.2 >>= fun x12 =>
  zgr x12 >>= fun r14 =>
  app 112 s9.1 [r14] >>= fun x17 =>
  some (w64 (s9.2+1)) >>= fun y20 =>
  some (.inr (x17,y20))
 else
  some (.inl s9.1)
def z98 (a0:z00):Option (z00) :=
 app 32 ([]:List V3) a0.IDs >>= fun x4 =>
 (iter (z8z a0) ([],0)) >>= fun s8 =>
 some (⟨x4,s8⟩:z00)
def z43 (a0:List V3) (a1:List V3) (s3:Int):Option (Sum (Sum Bool Unit) Int) :=
 if decide (s3<(a0.length:Int)) then
  idx a0 s3 >>= fun x5 =>
  idx a1 s3 >>= fun x7 =>
  if !decide (x5=x7) then
   some (.inl (.inl false))
  else
   some (.inr (w64 (s3+1)))
 else
  some (.inl (.inr ()))
def z73 (a0:List V3) (a1:List V3):Option (Bool) :=
 if (a0.length:Int) != (a1.length:Int) then
  some false
 else
  z4y (iter (z43 a0 a1) 0) fun s2 =>
  some true
theorem zgg (a0:List V3) (a1:List V3):z1t Tryz.prog 48 [.rd (z02 aZ) a0,.rd (z02 aZ) a1] [] (z73 a0 a1) (fun r nv=>⟨[.rd z0d r],[]⟩):=by
 refine z2p 26 Tryz.func48 Z Z Z fun H w=>?_
 refine gSR<|Zb Z<|z0s<|gSR<|Zm Z<|Zq (z3s Z .rd Z tu24)<|Zm Z<|Zq (z3s Z .rd Z tu24)<|Zq (I.neq Z Z)<|Zj Z (fun h1=>?_) (fun h1=>?_)
 ·
  refine gSR<|Zb Z<|z0l<|z0w<|Ze [] [] Z
 ·
  refine Zt<|z7b (fun (s2:Unit) aa ww=>Sta (ctx 26 H [] w) [] [] aa ww) ?_ (fun s2=>?_)
  ·
   refine gSR<|Zb Z<|z1w (fun (s3:Int) aa ww=>Sta (ctx 26 H [] w) [(0,.rd (z02 aZ) a0),(1,.rd (z02 aZ) a1),(5,.rd z0c s3)] [] aa ww) (fun aa ww h=>Zu h []) (fun s3=>?_)
   refine z0s<|gSR<|Zm Z<|Zm Z<|Zq (z3s Z .rd Z tu24)<|Zq (I.lss Z Z)<|Zj Z (fun h4=>?_) (fun h4=>?_)
   ·
    refine Zt<|z0s<|z4w<|z0s<|zit mixed (by kernel_rfl)<|Rq Z (mv Z)<|Rq Z (mv Z)<|z8f fun x5 h6=>Rq Z (ixR Z Z h6 tu24 z33 Z)<|Rq Z (ldR Z z4x)<|Rq Z (mv Z)<|Rq Z (mv Z)<|z8f fun x7 h8=>Rq Z (ixR Z Z h8 tu24 z33 Z)<|Rq Z (ldR Z z4x)<|Rq Z (neA Z Z eq78 Z Z gq78)<|ztz<|z0k<|gIf Z Z (fun h9=>?_) (fun h9=>?_)
    ·
     refine gSR<|Zb Z<|z0l<|z3x<|z0w<|z6q<|z5w<|Ze [] [] Z
    ·
     refine z2u<|z38<|z0k<|z28<|Zm Z<|Zq (I.add Z Z)<|Za Z<|z1s<|z1g (fun aa ww h=>Zu h [])
   ·
    refine z1r<|z0x<|z10<|z5p (fun aa ww h=>Zu h [])
  ·
   refine gSR<|Zb Z<|z0l<|Ze [] [] Z
def zbh (a0:z05) (a1:z05):Option (Bool) :=
 if a0.Author==a1.Author then
  z73 a0.Preds a1.Preds >>= fun r4 =>
  if r4 then
   if a0.Stamp==a1.Stamp then
    if decide (a0.Act=a1.Act) then
     some (decide (a0.Sig=a1.Sig)) >>= fun y9 =>
     some y9
    else
     some false
   else
    some false
  else
   some false
 else
  some false
theorem zkh (a0:z05) (a1:z05):z1t Tryz.prog 59 [.rd z04 a0,.rd z04 a1] [] (zbh a0 a1) (fun r nv=>⟨[.rd z0d r],[]⟩):=by
 refine z2p 38 Tryz.func59 Z Z Z fun H w=>?_
 refine gSR<|Eb Z (bx 1 Z) fun v1=>Eb Z (bx 2 Z) fun v2=>Zb Z<|gSR<|Zq (faB 1 Z Z Tryz.underlying72 Z (by exact z5u))<|Zq (ld 1 Z Z (fP (z2z _)) z92 Z)<|Zq (faB 2 Z Z Tryz.underlying72 Z (by exact z5u))<|Zq (ld 2 Z Z (fP (z2z _)) z92 Z)<|Zq (W.eql Z Z)<|Zm Z<|z1p 10 Z (fun h3=>?_) (fun h3=>?_)
 ·
  refine lKn 9 Z h3<|z18 Zx Z Z (faB 1 Z Z Tryz.underlying72 Z (by exact z6b))<|z18 Zx Z Z (ld 1 Z Z (fP (z0t _)) z8l Z)<|z18 Zx Z Z (faB 2 Z Z Tryz.underlying72 Z (by exact z6b))<|z18 Zx Z Z (ld 2 Z Z (fP (z0t _)) z8l Z)<|zgy [] [] Zx Z Tryz.func48 Z Z (zgg _ _) (Y2 Z Z) rN fun r4 n5=>Zq (pkT Z Z)<|Zm Z<|z1p 17 Z (fun h6=>?_) (fun h6=>?_)
  ·
   refine lKn 15 Z h6<|lKn 16 Z h6<|z18 Zx Z Z (faB 1 Z Z Tryz.underlying72 Z (by exact zq6))<|z18 Zx Z Z (ld 1 Z Z (fP (z2i _)) zpd Z)<|z18 Zx Z Z (faB 2 Z Z Tryz.underlying72 Z (by exact zq6))<|z18 Zx Z Z (ld 2 Z Z (fP (z2i _)) zpd Z)<|z18 Zx Z Z (U.eql Z Z)<|Zq (pkT Z Z)<|Zm Z<|z1p 24 Z (fun h7=>?_) (fun h7=>?_)
   ·
    refine lKn 22 Z h7<|lKn 23 Z h7<|z18 Zx Z Z (faB 1 Z Z Tryz.underlying72 Z (by exact zgd))<|z18 Zx Z Z (ld 1 Z Z (fP (z11 _)) ty64 Z)<|z18 Zx Z Z (faB 2 Z Z Tryz.underlying72 Z (by exact zgd))<|z18 Zx Z Z (ld 2 Z Z (fP (z11 _)) ty64 Z)<|z18 Zx Z Z (eqA Z Z eq64 Z Z gq64)<|Zq (pkT Z Z)<|Zm Z<|z1p 31 Z (fun h8=>?_) (fun h8=>?_)
    ·
     refine lKn 29 Z h8<|lKn 30 Z h8<|z18 Zx Z Z (faB 1 Z Z Tryz.underlying72 Z (by exact zm3))<|z18 Zx Z Z (ld 1 Z Z (fP (z2g _)) ty70 Z)<|z18 Zx Z Z (faB 2 Z Z Tryz.underlying72 Z (by exact zm3))<|z18 Zx Z Z (ld 2 Z Z (fP (z2g _)) ty70 Z)<|z18 Zx Z Z (eqA Z Z eq70 Z Z gq70)<|Zq (pkT Z Z)<|Za Z<|z1x 4 Z fun y9=>Zn<|z0l<|Ze [] [] Z
    ·
     refine lKn 29 Z h8<|lKn 30 Z h8<|Zk Z<|Zk Z<|Zk Z<|Zk Z<|Zk Z<|Zq (pkF Z Z)<|Zb Z<|z0l<|Ze [] [] Z
   ·
    refine lKn 22 Z h7<|lKn 23 Z h7<|Zk Z<|Zk Z<|Zk Z<|Zk Z<|Zk Z<|Zq (pkF Z Z)<|Zm Z<|Zk Z<|Zk Z<|Zk Z<|Zk Z<|Zk Z<|Zq (pkF Z Z)<|Zb Z<|z0l<|Ze [] [] Z
  ·
   refine lKn 15 Z h6<|lKn 16 Z h6<|Zk Z<|Zk Z<|Zk Z<|Zk Z<|Zk Z<|Zq (pkF Z Z)<|Zm Z<|Zk Z<|Zk Z<|Zk Z<|Zk Z<|Zk Z<|Zq (pkF Z Z)<|Zm Z<|Zk Z<|Zk Z<|Zk Z<|Zk Z<|Zk Z<|Zq (pkF Z Z)<|Zb Z<|z0l<|Ze [] [] Z
 ·
  refine lKn 9 Z h3<|Zk Z<|Zk Z<|Zk Z<|Zk Z<|Zk Z<|Zq (pkF Z Z)<|Zm Z<|Zk Z<|Zk Z<|Zk Z<|Zk Z<|Zk Z<|Zq (pkF Z Z)<|Zm Z<|Zk Z<|Zk Z<|Zk Z<|Zk Z<|Zk Z<|Zq (pkF Z Z)<|Zm Z<|Zk Z<|Zk Z<|Zk Z<|Zk Z<|Zk Z<|Zq (pkF Z Z)<|Zb Z<|z0l<|Ze [] [] Z
def z6r (a0:z05):Option (Bool) :=
 if decide (20<(a0.Preds.length:Int)) then
  some true
 else
  if decide (100<(a0.Act.Key.length:Int)) then
   some true
  else
   some (decide (100<(a0.Act.Value.Text.length:Int))) >>= fun y4 =>
   some y4
theorem zi9 (a0:z05):z1t Tryz.prog 32 [.rd z04 a0] [] (z6r a0) (fun r nv=>⟨[.rd z0d r],[]⟩):=by
 refine z2p 22 Tryz.func32 Z Z Z fun H w=>?_
 refine gSR<|Eb Z (bx 1 Z) fun v1=>Zb Z<|gSR<|Zq (faB 1 Z Z Tryz.underlying72 Z (by exact z6b))<|Zq (ld 1 Z Z (fP (z0t _)) z8l Z)<|Zq (z3s Z .rd Z tu24)<|Zq (I.gtr Z Z)<|Zm Z<|z1p 7 Z (fun h2=>?_) (fun h2=>?_)
 ·
  refine lKn 6 Z h2<|Zk Z<|Zk Z<|Zk Z<|Zk Z<|Zk Z<|Zq (pkT Z Z)<|Zm Z<|Zk Z<|Zk Z<|Zk Z<|Zk Z<|Zk Z<|Zk Z<|Zq (pkT Z Z)<|Zb Z<|z0l<|Ze [] [] Z
 ·
  refine lKn 6 Z h2<|z18 Zx Z Z (faB 1 Z Z Tryz.underlying72 Z (by exact zgd))<|z18 Zx Z Z (faB 1 Z Z Tryz.underlying64 Z (by exact ti9))<|z18 Zx Z Z (ld 1 Z Z ((fP (z11 _)).part (z29 _)) ty9 Z)<|z18 Zx Z Z (lenT Z Z tu9)<|z18 Zx Z Z (I.gtr Z Z)<|Zq (pkF Z Z)<|Zm Z<|z1p 14 Z (fun h3=>?_) (fun h3=>?_)
  ·
   refine lKn 12 Z h3<|lKn 13 Z h3<|Zk Z<|Zk Z<|Zk Z<|Zk Z<|Zk Z<|Zk Z<|Zq (pkT Z Z)<|Zb Z<|z0l<|Ze [] [] Z
  ·
   refine lKn 12 Z h3<|lKn 13 Z h3<|z18 Zx Z Z (faB 1 Z Z Tryz.underlying72 Z (by exact zgd))<|z18 Zx Z Z (faB 1 Z Z Tryz.underlying64 Z (by exact zem))<|z18 Zx Z Z (faB 1 Z Z Tryz.underlying54 Z (by exact ti9))<|z18 Zx Z Z (ld 1 Z Z (((fP (z11 _)).part (z3k _)).part (z3o _)) ty9 Z)<|z18 Zx Z Z (lenT Z Z tu9)<|z18 Zx Z Z (I.gtr Z Z)<|Zq (pkF Z Z)<|Za Z<|z1x 2 Z fun y4=>Zn<|z0l<|Ze [] [] Z
def z4p (a0:z00) (s3:Int):Option (Sum (Sum Bool Unit) Int) :=
 if decide (s3<(a0.Ops.length:Int)) then
  if decide (s3≤70) then
   idx a0.Ops s3 >>= fun x6 =>
   z6r x6 >>= fun r8 =>
   if r8 then
    some (.inl (.inl true))
   else
    some (.inr (w64 (s3+1)))
  else
   some (.inl (.inr ()))
 else
  some (.inl (.inr ()))
def zau (a0:z00):Option (Bool) :=
 z4y (iter (z4p a0) 0) fun s2 =>
 if decide (16<(a0.Ops.length:Int)) then
  if decide ((a0.Ops.length:Int)≤60) then
   some true
  else
   if decide (70<(a0.Ops.length:Int)) then
    some true
   else
    some (decide (70<(a0.IDs.length:Int))) >>= fun y14 =>
    some y14
 else
  if decide (70<(a0.Ops.length:Int)) then
   some true
  else
   some (decide (70<(a0.IDs.length:Int))) >>= fun y16 =>
   some y16
theorem zj3 (a0:z00):z1t Tryz.prog 45 [.rd z01 a0] [] (zau a0) (fun r nv=>⟨[.rd z0d r],[]⟩):=by
 refine z2p 43 Tryz.func45 Z Z Z fun H w=>?_
 refine gSR<|Eb Z (bx 1 Z) fun v1=>Zb Z<|z7b (fun (s2:Unit) aa ww=>Sta (ctx 43 H [] w) [(1,.val (z06 v1 0))] [(1,some (v1,.box 27 [.rd z01 a0]))] aa ww) ?_ (fun s2=>?_)
 ·
  refine gSR<|Zb Z<|z1w (fun (s3:Int) aa ww=>Sta (ctx 43 H [] w) [(1,.val (z06 v1 0)),(3,.rd z0c s3)] [(1,some (v1,.box 27 [.rd z01 a0]))] aa ww) (fun aa ww h=>Zu h [1]) (fun s3=>?_)
  refine z0s<|gSR<|Zm Z<|Zq (faB 1 Z Z Tryz.underlying27 Z (by exact zc0))<|Zq (ld 1 Z Z (fP (z0a _)) zf9 Z)<|Zq (z3s Z .rd Z tu25)<|Zq (I.lss Z Z)<|Zm Z<|z1p 9 Z (fun h4=>?_) (fun h4=>?_)
  ·
   refine lKn 8 Z h4<|z18 Zx Z Z (mv Z)<|z18 Zx Z Z (I.leq Z Z)<|Zq (pkT Z Z)<|Zj Z (fun h5=>?_) (fun h5=>?_)
   ·
    refine gKn 11 Z h5<|Zt<|z0s<|z4w<|gSR<|Zq (faB 1 Z Z Tryz.underlying27 Z (by exact zc0))<|Zq (ld 1 Z Z (fP (z0a _)) zf9 Z)<|Zm Z<|z0u fun x6 h7=>Zq (ixR Z Z h7 tu25 zax Z)<|Zq (ldR Z ze5)<|Zc [] [] Tryz.func32 Z (zi9 _) fun r8 n9=>Zj Z (fun h10=>?_) (fun h10=>?_)
    ·
     refine gSR<|Zb Z<|z0l<|z3x<|z0w<|z6q<|z5w<|Ze [] [] Z
    ·
     refine z2u<|z38<|z0k<|z28<|Zm Z<|Zq (I.add Z Z)<|Za Z<|z1s<|z1g (fun aa ww h=>Zu h [1])
   ·
    refine gKn 11 Z h5<|z1r<|z0x<|z10<|z5p (fun aa ww h=>Zu h [1])
  ·
   refine lKn 8 Z h4<|Zk Z<|Zk Z<|Zq (pkF Z Z)<|Zn<|zeh Z<|z1r<|z0x<|z10<|z5p (fun aa ww h=>Zu h [1])
 ·
  refine gSR<|Zq (faB 1 Z Z Tryz.underlying27 Z (by exact zc0))<|Zq (ld 1 Z Z (fP (z0a _)) zf9 Z)<|Zq (z3s Z .rd Z tu25)<|Zq (I.gtr Z Z)<|Zm Z<|z1p 25 Z (fun h11=>?_) (fun h11=>?_)
  ·
   refine lKn 24 Z h11<|z18 Zx Z Z (faB 1 Z Z Tryz.underlying27 Z (by exact zc0))<|z18 Zx Z Z (ld 1 Z Z (fP (z0a _)) zf9 Z)<|z18 Zx Z Z (z3s Z .rd Z tu25)<|z18 Zx Z Z (I.leq Z Z)<|Zq (pkT Z Z)<|Zm Z<|z1p 31 Z (fun h12=>?_) (fun h12=>?_)
   ·
    refine lKn 29 Z h12<|lKn 30 Z h12<|Zk Z<|Zk Z<|Zk Z<|Zk Z<|Zq (pkT Z Z)<|Zm Z<|Zk Z<|Zk Z<|Zk Z<|Zk Z<|Zq (pkT Z Z)<|Zb Z<|z0l<|Ze [] [] Z
   ·
    refine lKn 29 Z h12<|lKn 30 Z h12<|z18 Zx Z Z (faB 1 Z Z Tryz.underlying27 Z (by exact zc0))<|z18 Zx Z Z (ld 1 Z Z (fP (z0a _)) zf9 Z)<|z18 Zx Z Z (z3s Z .rd Z tu25)<|z18 Zx Z Z (I.gtr Z Z)<|Zq (pkF Z Z)<|Zm Z<|z1p 37 Z (fun h13=>?_) (fun h13=>?_)
    ·
     refine lKn 35 Z h13<|lKn 36 Z h13<|Zk Z<|Zk Z<|Zk Z<|Zk Z<|Zq (pkT Z Z)<|Zb Z<|z0l<|Ze [] [] Z
    ·
     refine lKn 35 Z h13<|lKn 36 Z h13<|z18 Zx Z Z (faB 1 Z Z Tryz.underlying27 Z (by exact z6b))<|z18 Zx Z Z (ld 1 Z Z (fP (z09 _)) z8l Z)<|z18 Zx Z Z (z3s Z .rd Z tu24)<|z18 Zx Z Z (I.gtr Z Z)<|Zq (pkF Z Z)<|Za Z<|z1x 2 Z fun y14=>Zn<|z0l<|Ze [] [] Z
  ·
   refine lKn 24 Z h11<|Zk Z<|Zk Z<|Zk Z<|Zk Z<|Zq (pkF Z Z)<|Zm Z<|z18 Zx Z Z (faB 1 Z Z Tryz.underlying27 Z (by exact zc0))<|z18 Zx Z Z (ld 1 Z Z (fP (z0a _)) zf9 Z)<|z18 Zx Z Z (z3s Z .rd Z tu25)<|z18 Zx Z Z (I.gtr Z Z)<|Zq (pkF Z Z)<|Zm Z<|z1p 37 Z (fun h15=>?_) (fun h15=>?_)
   ·
    refine lKn 35 Z h15<|lKn 36 Z h15<|Zk Z<|Zk Z<|Zk Z<|Zk Z<|Zq (pkT Z Z)<|Zb Z<|z0l<|Ze [] [] Z
   ·
    refine lKn 35 Z h15<|lKn 36 Z h15<|z18 Zx Z Z (faB 1 Z Z Tryz.underlying27 Z (by exact z6b))<|z18 Zx Z Z (ld 1 Z Z (fP (z09 _)) z8l Z)<|z18 Zx Z Z (z3s Z .rd Z tu24)<|z18 Zx Z Z (I.gtr Z Z)<|Zq (pkF Z Z)<|Za Z<|z1x 2 Z fun y16=>Zn<|z0l<|Ze [] [] Z
def z9q (a0:z00) (a1:V3) (s7:Int):Option (Sum Int Int) :=
 if decide (s7<(a0.IDs.length:Int)) then
  idx a0.IDs s7 >>= fun x9 =>
  z5q x9 a1 >>= fun r11 =>
  if decide (r11<0) then
   some (.inr (w64 (s7+1)))
  else
   some (.inl s7)
 else
  some (.inl s7)
def zcc (a0:z00) (a1:V3) (a2:z05):Option (z00) :=
 (iter (z9q a0 a1) 0) >>= fun s6 =>
 cut a0.IDs 0 s6 >>= fun x14 =>
 app 32 ([]:List V3) x14 >>= fun x16 =>
 app 32 x16 [a1] >>= fun x18 =>
 cut a0.IDs s6 (a0.IDs.length:Int) >>= fun x20 =>
 app 32 x18 x20 >>= fun x22 =>
 cut a0.Ops 0 s6 >>= fun x25 =>
 app 112 ([]:List z05) x25 >>= fun x27 =>
 app 112 x27 [a2] >>= fun x29 =>
 cut a0.Ops s6 (a0.Ops.length:Int) >>= fun x31 =>
 app 112 x29 x31 >>= fun x33 =>
 z98 (⟨x22,x33⟩:z00) >>= fun r36 =>
 some r36
def z6s (a0:z00) (a1:List V3) (s5:(List V3) × (List z05) × Int):Option (Sum ((List V3) × (List z05)) ((List V3) × (List z05) × Int)) :=
 if decide (s5.2.2<(a0.IDs.length:Int)) then
  idx a0.IDs s5.2.2 >>= fun x8 =>
  z2f a1 x8 >>= fun r10 =>
  if decide (0≤r10) then
   idx a0.IDs s5.2.2 >>= fun x13 =>
   app 32 s5.1 [x13] >>= fun x15 =>
   idx a0.Ops s5.2.2 >>= fun x18 =>
   app 112 s5.2.1 [x18] >>= fun x20 =>
   some (w64 (s5.2.2+1)) >>= fun y23 =>
   some (.inr (x15,x20,y23))
  else
   some (w64 (s5.2.2+1)) >>= fun y24 =>
   some (.inr (s5.1,s5.2.1,y24))
 else
  some (.inl (s5.1,s5.2.1))
def zdj (a0:z00) (a1:List V3):Option (z00) :=
 (iter (z6s a0 a1) ([],[],0)) >>= fun s4 =>
 z98 (⟨s4.1,s4.2⟩:z00) >>= fun r26 =>
 some r26
def z4h (a0:List V3) (s2:(List V3) × Int) (s6:Int):Option (Sum Int Int) :=
 if decide (s6<(s2.1.length:Int)) then
  idx s2.1 s6 >>= fun x8 =>
  idx a0 s2.2 >>= fun x10 =>
  z5q x8 x10 >>= fun r12 =>
  if decide (r12<0) then
   some (.inr (w64 (s6+1)))
  else
   some (.inl s6)
 else
  some (.inl s6)
def z5k (a0:List V3) (s2:(List V3) × Int):Option (Sum ((List V3)) ((List V3) × Int)) :=
 if decide (s2.2<(a0.length:Int)) then
  (iter (z4h a0 s2) 0) >>= fun s5 =>
  (if s5==(s2.1.length:Int) then
   some true
  else
   idx s2.1 s5 >>= fun x17 =>
   idx a0 s2.2 >>= fun x19 =>
   some (!decide (x17=x19))) >>= fun s15 =>
  if s15 then
   cut s2.1 0 s5 >>= fun x22 =>
   idx a0 s2.2 >>= fun x24 =>
   cut s2.1 s5 (s2.1.length:Int) >>= fun x26 =>
   app 32 ([]:List V3) x22 >>= fun x29 =>
   app 32 x29 [x24] >>= fun x33 =>
   app 32 x33 x26 >>= fun x36 =>
   some (w64 (s2.2+1)) >>= fun y39 =>
   some (.inr (x36,y39))
  else
   some (w64 (s2.2+1)) >>= fun y63 =>
   some (.inr (s2.1,y63))
 else
  some (.inl s2.1)
def z9j (a0:List V3):Option ((List V3)) :=
 (iter (z5k a0) ([],0)) >>= fun s1 =>
 some s1
def z7q (a0:List V3) (a1:List V3) (s2:(List V3) × Int):Option (Sum ((List V3)) ((List V3) × Int)) :=
 if decide (s2.2<(a1.length:Int)) then
  idx a1 s2.2 >>= fun x5 =>
  z2f a0 x5 >>= fun r7 =>
  if decide (r7<0) then
   idx a1 s2.2 >>= fun x10 =>
   app 32 s2.1 [x10] >>= fun x13 =>
   some (w64 (s2.2+1)) >>= fun y16 =>
   some (.inr (x13,y16))
  else
   some (w64 (s2.2+1)) >>= fun y17 =>
   some (.inr (s2.1,y17))
 else
  some (.inl s2.1)
def z9w (a0:List V3) (a1:List V3):Option ((List V3)) :=
 (iter (z7q a0 a1) ([],0)) >>= fun s1 =>
 z9j s1 >>= fun r19 =>
 some r19
def zav (a0:z00) (a1:V3):Option ((List V3)) :=
 z2f a0.IDs a1 >>= fun r3 =>
 idx a0.Ops r3 >>= fun x5 =>
 some x5.Preds
end
section
open Go Go.RowKit
def z5d (a0:z00) (s10:(List V3) × (List V3)):Option (Sum ((List V3)) ((List V3) × (List V3))) :=
 if decide (0<(s10.2.length:Int)) then
  idx s10.2 0 >>= fun x13 =>
  cut s10.2 1 (s10.2.length:Int) >>= fun x16 =>
  z2f s10.1 x13 >>= fun r19 =>
  if decide (r19<0) then
   app 32 s10.1 [x13] >>= fun x23 =>
   zav a0 x13 >>= fun r26 =>
   app 32 x16 r26 >>= fun x28 =>
   some (.inr (x23,x28))
  else
   some (.inr (s10.1,x16))
 else
  some (.inl s10.1)
def z4n (a0:z00) (a1:V3):Option ((List V3)) :=
 zav a0 a1 >>= fun r4 =>
 app 32 ([]:List V3) r4 >>= fun x6 =>
 (iter (z5d a0) ([],x6)) >>= fun s9 =>
 z9j s9 >>= fun r32 =>
 some r32
end
section
open Go Go.RowKit
set_option maxRecDepth 100000
def zfc (a0:UInt32):Option (Int) :=
 if decide (500000002≤(a0 - 1)) then
  some 2
 else
  some 0
theorem zjj (a0:UInt32):z1t Tryz.prog 105 [.rd z0n a0] [] (zfc a0) (fun r nv=>⟨[.rd z0c r],[]⟩):=by
 refine z2p 6 Tryz.func105 Z Z Z fun H w=>?_
 refine gSR<|Zb Z<|z0s<|gSR<|Zm Z<|Zq (W.sub Z Z)<|Zq (W.geq Z Z)<|Zj Z (fun h1=>?_) (fun h1=>?_)
 ·
  refine gSR<|Zb Z<|z0l<|z0w<|Ze [] [] Z
 ·
  refine Zt<|gSR<|Zb Z<|z0l<|Ze [] [] Z
def zdm (a0:UInt32):Option (UInt32 × Int) :=
 zfc a0 >>= fun r1 =>
 if r1 != 0 then
  some (0,r1)
 else
  zcb a0.toUInt64 >>= fun r4 =>
  some (r4,0)
theorem zi1 (a0:UInt32):z1t Tryz.prog 76 [.rd z0n a0] [] (zdm a0) (fun r nv=>⟨[.rd z0n r.1,.rd z0c r.2],[]⟩):=by
 refine z2p 13 Tryz.func76 Z Z Z fun H w=>?_
 refine gSR<|Za Z<|Zb Z<|z0s<|gSR<|Zm Z<|Zc [] [] Tryz.func105 Z (zjj _) fun r1 n2=>Zb Z<|gSR<|Zm Z<|Zq (I.neq Z Z)<|Zj Z (fun h3=>?_) (fun h3=>?_)
 ·
  refine gSR<|Zm Z<|Za Z<|Zb Z<|z0l<|z0w<|Ze [] [] Z
 ·
  refine Zt<|gSR<|Zm Z<|Zq (W.toU Z tu65 tu52)<|Zc [] [] Tryz.func106 Z (zfx _) fun r4 n5=>Za Z<|Zb Z<|z0l<|Ze [] [] Z
def zhi (a0:UInt32) (a1:List UInt8):Option (UInt32 × Int) :=
 zfc a0 >>= fun r1 =>
 if r1 != 0 then
  some (0,r1)
 else
  zdr 110 a1 [a0] >>= fun r5 =>
  if r5.2 != 0 then
   some (0,r5.2)
  else
   some (((r5.1 % 500000002).toUInt32)+1) >>= fun y8 =>
   some (y8,0)
theorem zqq (a0:UInt32) (a1:List UInt8):z1t Tryz.prog 113 [.rd z0n a0,.rd (z02 u8R) a1] [zG1] (zhi a0 a1) (fun r nv=>⟨[.rd z0n r.1,.rd z0c r.2],[(1001,some (.bool true,.glob 1 (z3m 64 z0n) z5x))]⟩):=by
 refine z2p 28 Tryz.func113 Z Z Z fun H w=>?_
 refine gSR<|Za Z<|Zb Z<|z0s<|gSR<|Zm Z<|Zc [] [] Tryz.func105 Z (zjj _) fun r1 n2=>Zb Z<|gSR<|Zm Z<|Zq (I.neq Z Z)<|Zj Z (fun h3=>?_) (fun h3=>?_)
 ·
  refine gSR<|Zm Z<|Za Z<|Zb Z<|z0l<|z0w<|Ze [] [1001] Z
 ·
  refine Zt<|gSR<|Zm Z<|Zm Z<|Ef Z (lit (R:=z0n) ([a0]:List UInt32) 1 (pP Z Z<|pN) Z tu236 z5u Z Z) fun v4=>zkx 1 [17] Z (fS Z<|fN)<|Zc [1001] [] Tryz.func159 Z (zls _ _ _) fun r5 n6=>Zm Z<|Zq (ext Z Z)<|Zq (ext Z Z)<|Za Z<|Zb Z<|z0s<|gSR<|Zm Z<|Zq (I.neq Z Z)<|Zj Z (fun h7=>?_) (fun h7=>?_)
  ·
   refine gSR<|Zm Z<|Za Z<|Zb Z<|z0l<|z0w<|Ze [] [1001] Z
  ·
   refine Zt<|gSR<|Zm Z<|Zq (U.rem Z Z (by decide))<|Zq (U.toW Z tu52 tu65)<|Zq (W.add Z Z)<|Za Z<|z1x 4 Z fun y8=>Zb Z<|z0l<|Ze [] [1001] Z
def zfl (a0:UInt32) (a1:UInt32):Option (UInt32 × Int) :=
 if decide (500000003≤(max a0 a1)) then
  some (0,2)
 else
  zb8 500000003 [a0,a1] >>= fun r3 =>
  some (r3,0)
theorem zoa (a0:UInt32) (a1:UInt32):z1t Tryz.prog 115 [.rd z0n a0,.rd z0n a1] [] (zfl a0 a1) (fun r nv=>⟨[.rd z0n r.1,.rd z0c r.2],[]⟩):=by
 refine z2p 14 Tryz.func115 Z Z Z fun H w=>?_
 refine gSR<|Za Z<|Zb Z<|z0s<|gSR<|Zm Z<|Zm Z<|Zq (W.max Z Z)<|Zq (W.geq Z Z)<|Zj Z (fun h1=>?_) (fun h1=>?_)
 ·
  refine gSR<|Za Z<|Zb Z<|z0l<|z0w<|Ze [] [] Z
 ·
  refine Zt<|gSR<|Zm Z<|Zm Z<|Ef Z (lit (R:=z0n) ([a0,a1]:List UInt32) 1 (pP Z Z<|pP Z Z<|pN) Z tu236 z5u Z Z) fun v2=>zkx 1 [12] Z (fS Z<|fN)<|Zc [] [] Tryz.func160 Z (zed _ _) fun r3 n4=>Za Z<|Zb Z<|z0l<|Ze [] [] Z
def zh5 (a0:UInt32) (a1:UInt32):Option (UInt32 × Int) :=
 if decide (500000003≤(max a0 a1)) then
  some (0,2)
 else
  some ((a0+a1) % 500000003) >>= fun y2 =>
  some (y2,0)
theorem zqg (a0:UInt32) (a1:UInt32):z1t Tryz.prog 116 [.rd z0n a0,.rd z0n a1] [] (zh5 a0 a1) (fun r nv=>⟨[.rd z0n r.1,.rd z0c r.2],[]⟩):=by
 refine z2p 14 Tryz.func116 Z Z Z fun H w=>?_
 refine gSR<|Za Z<|Zb Z<|z0s<|gSR<|Zm Z<|Zm Z<|Zq (W.max Z Z)<|Zq (W.geq Z Z)<|Zj Z (fun h1=>?_) (fun h1=>?_)
 ·
  refine gSR<|Za Z<|Zb Z<|z0l<|z0w<|Ze [] [] Z
 ·
  refine Zt<|gSR<|Zm Z<|Zm Z<|Zq (W.add Z Z)<|Zq (W.rem Z Z (by decide))<|Za Z<|z1x 4 Z fun y2=>Zb Z<|z0l<|Ze [] [] Z
def zk9 (a0:UInt32) (a1:List UInt8):Option (z08 × Int) :=
 zhi a0 a1 >>= fun r2 =>
 if r2.2 != 0 then
  some ((⟨0,0⟩:z08),r2.2)
 else
  zdm a0 >>= fun r5 =>
  zcb r2.1.toUInt64 >>= fun r7 =>
  za9 r7 r5.1 a1 >>= fun r9 =>
  zfl r9.1 a0 >>= fun r11 =>
  zh5 r2.1 r11.1 >>= fun r13 =>
  some ((⟨r9.1,r13.1⟩:z08),0)
theorem zsa (a0:UInt32) (a1:List UInt8):z1t Tryz.prog 78 [.rd z0n a0,.rd (z02 u8R) a1] [zG1] (zk9 a0 a1) (fun r nv=>⟨[.rd z0o r.1,.rd z0c r.2],[(1001,some (.bool true,.glob 1 (z3m 64 z0n) z5x))]⟩):=by
 refine z2p 55 Tryz.func78 Z Z Z fun H w=>?_
 refine gSR<|Eb Z (z5o 1 zm3 (.zr (R:=z0o) (x:=(⟨0,0⟩:z08)) zqy)) fun v1=>Zb Z<|gSR<|Zm Z<|Zm Z<|Zc [1001] [] Tryz.func113 Z (zqq _ _) fun r2 n3=>Zm Z<|Zq (ext Z Z)<|Zq (ext Z Z)<|Za Z<|Zb Z<|z0s<|gSR<|Zm Z<|Zq (I.neq Z Z)<|Zj Z (fun h4=>?_) (fun h4=>?_)
 ·
  refine gSR<|Zq (bld (x':=(⟨0,0⟩:z08)) [(0,1),(1,1)] Tryz.underlying70 zm3 Z zqy Z (Bld.done Z))<|Zm Z<|Es (sto 1 Z Z fH Z zm3)<|Zb Z<|z0l<|z0w<|zcn [] [1001] Z (eC 1 Z Z ty70<|eE Z<|eN) (y1 Z)
 ·
  refine Zt<|gSR<|Zm Z<|Zc [] [] Tryz.func76 Z (zi1 _) fun r5 n6=>Zm Z<|Zq (ext Z Z)<|Zq (ext Z Z)<|Za Z<|Zb Z<|gSR<|Zm Z<|Zq (W.toU Z tu65 tu52)<|Zc [] [] Tryz.func106 Z (zfx _) fun r7 n8=>Zm Z<|Zm Z<|Zc [1001] [] Tryz.func114 Z (zez _ _ _) fun r9 n10=>Zm Z<|Zq (ext Z Z)<|Zq (ext Z Z)<|Za Z<|Zb Z<|gSR<|Zm Z<|Zm Z<|Zc [] [] Tryz.func115 Z (zoa _ _) fun r11 n12=>Zm Z<|Zq (ext Z Z)<|Zq (ext Z Z)<|Za Z<|Zb Z<|gSR<|Zm Z<|Zm Z<|Zc [] [] Tryz.func116 Z (zqg _ _) fun r13 n14=>Zm Z<|Zq (ext Z Z)<|Zq (ext Z Z)<|Za Z<|Zb Z<|gSR<|Zm Z<|Zm Z<|Zq (bld (x':=(⟨r9.1,r13.1⟩:z08)) [(0,1),(1,1)] Tryz.underlying70 zm3 Z zqy Z (Bld.cons (z4v _) Z Z<|Bld.cons (z6v _) Z Z<|Bld.done Z))<|Es (sto 1 Z Z fH Z zm3)<|Zb Z<|z0l<|zcn [] [1001] Z (eC 1 Z Z ty70<|eE Z<|eN) (y1 Z)
def zkt (a0:UInt32) (a1:z05):Option (z05 × Int) :=
 zdm a0 >>= fun r3 =>
 if r3.2 != 0 then
  some ((⟨0,[],0,(⟨0,[],(⟨0,0,0,[]⟩:z03)⟩:z07),(⟨0,0⟩:z08)⟩:z05),r3.2)
 else
  z0p a1.Preds >>= fun r6 =>
  zc3 (⟨({ a1 with Author:=r3.1 }).Author,r6,({ a1 with Author:=r3.1 }).Stamp,({ a1 with Author:=r3.1 }).Act,({ a1 with Author:=r3.1 }).Sig⟩:z05) >>= fun r8 =>
  if r8.2 != 0 then
   some ((⟨0,[],0,(⟨0,[],(⟨0,0,0,[]⟩:z03)⟩:z07),(⟨0,0⟩:z08)⟩:z05),r8.2)
  else
   zk9 a0 r8.1 >>= fun r11 =>
   some ({ (⟨({ a1 with Author:=r3.1 }).Author,r6,({ a1 with Author:=r3.1 }).Stamp,({ a1 with Author:=r3.1 }).Act,({ a1 with Author:=r3.1 }).Sig⟩:z05) with Sig:=r11.1 },0)
theorem zxx (a0:UInt32) (a1:z05):z1t Tryz.prog 34 [.rd z0n a0,.rd z04 a1] [zG1] (zkt a0 a1) (fun r nv=>⟨[.rd z04 r.1,.rd z0c r.2],[(1001,some (.bool true,.glob 1 (z3m 64 z0n) z5x))]⟩):=by
 refine z2p 41 Tryz.func34 Z Z Z fun H w=>?_
 refine gSR<|Eb Z (bx 1 Z) fun v1=>Eb Z (z5o 2 zax (ZrE.rd (R:=z0n) (x:=0) (Zr.num Z) (ZrE.nilS (ZrE.rd (R:=z2w) (x:=0) (Zr.num Z) (ZrE.rd (R:=z0h) (x:=(⟨0,[],(⟨0,0,0,[]⟩:z03)⟩:z07)) zom (ZrE.rd (R:=z0o) (x:=(⟨0,0⟩:z08)) zqy ZrE.nil Z) Z) Z)) Z)) fun v2=>Zb Z<|gSR<|Zm Z<|Zc [] [] Tryz.func76 Z (zi1 _) fun r3 n4=>Zm Z<|Zq (ext Z Z)<|Zq (ext Z Z)<|Za Z<|Zb Z<|z0s<|gSR<|Zm Z<|Zq (I.neq Z Z)<|Zj Z (fun h5=>?_) (fun h5=>?_)
 ·
  refine gSR<|Zq (zz1 [(0,1),(1,1),(2,1),(3,6),(9,2)] Tryz.underlying72 zax (ZrE.rd (R:=z0n) (x:=0) (Zr.num Z) (ZrE.nilS (ZrE.rd (R:=z2w) (x:=0) (Zr.num Z) (ZrE.rd (R:=z0h) (x:=(⟨0,[],(⟨0,0,0,[]⟩:z03)⟩:z07)) zom (ZrE.rd (R:=z0o) (x:=(⟨0,0⟩:z08)) zqy ZrE.nil Z) Z) Z)) Z) Z (zn2.done Z))<|Zm Z<|Es (zze 2 Z Z (z0q.cast (z0q.cons z2c (z0q.cons z0e (z0q.cons z2c (z0q.cons z2c (z0q.cons z2c z0q.nil))))) Z) Z (z6j.cons zeo (z6j.cons z23 (z6j.cons zeo (z6j.cons zeo (z6j.cons zeo z6j.nil))))) (z0q.cast (z0q.cons z2c (z0q.cons z0e (z0q.cons z2c (z0q.cons z2c (z0q.cons z2c z0q.nil))))) Z) zax)<|Zb Z<|z0l<|z0w<|zrm aZ [.rd z0n 0,.rd (z02 aZ) [],.rd z2w 0,.rd z0h (⟨0,[],(⟨0,0,0,[]⟩:z03)⟩:z07),.rd z0o (⟨0,0⟩:z08)] 2 [.rd z0n 0] [.rd z2w 0,.rd z0h (⟨0,[],(⟨0,0,0,[]⟩:z03)⟩:z07),.rd z0o (⟨0,0⟩:z08)] Z Z Z<|eJoi (R:=z04) (⟨0,[],0,(⟨0,[],(⟨0,0,0,[]⟩:z03)⟩:z07),(⟨0,0⟩:z08)⟩:z05) 2 Z (Sp.via (Sp.prod (Sp.prod (Sp.prod (Sp.prod (Sp.prod Sp.unit))))))<|zcn [] [1001] Z (eC 2 Z Z ze5<|eE Z<|eN) (y1 Z)
 ·
  refine Zt<|gSR<|Zm Z<|Zq (faB 1 Z Z Tryz.underlying72 Z (by exact z6b))<|Zq (ld 1 Z Z (fP (z0t _)) z8l Z)<|Zc [] [(100,3)] Tryz.func55 Z (z1m _) fun r6 n7=>Zq (faB 1 Z Z Tryz.underlying72 Z (by exact z5u))<|Es (sto 1 Z Z (fP (z2z _)) Z z5u)<|Zq (faB 1 Z Z Tryz.underlying72 Z (by exact z6b))<|lSpl (R:=z04) 1 Z (Sp.via (Sp.prod (Sp.prod (Sp.prod (Sp.prod (Sp.prod Sp.unit))))))<|Es (zta 1 Z Z (zbp.cast (zbp.next z2c (zbp.here z2c)) Z) Z z23 z0e z6b)<|Zn<|gSR<|zxy [.rd z0n (({ a1 with Author:=r3.1 }).Author),.rd (z02 aZ) r6,.rd z2w (({ a1 with Author:=r3.1 }).Stamp),.rd z0h (({ a1 with Author:=r3.1 }).Act),.rd z0o (({ a1 with Author:=r3.1 }).Sig)] 1 3 [.rd z0n (({ a1 with Author:=r3.1 }).Author)] [.rd z2w (({ a1 with Author:=r3.1 }).Stamp),.rd z0h (({ a1 with Author:=r3.1 }).Act),.rd z0o (({ a1 with Author:=r3.1 }).Sig)] Z Z Z Z Z<|ze3 (R:=z04) (⟨({ a1 with Author:=r3.1 }).Author,r6,({ a1 with Author:=r3.1 }).Stamp,({ a1 with Author:=r3.1 }).Act,({ a1 with Author:=r3.1 }).Sig⟩:z05) 1 Z (Sp.via (Sp.prod (Sp.prod (Sp.prod (Sp.prod (Sp.prod Sp.unit))))))<|Zq (ld 1 Z Z fH ze5 Z)<|Zc [] [(100,4)] Tryz.func77 Z (zft _) fun r8 n9=>Zm Z<|Zq (ext Z Z)<|Zq (ext Z Z)<|Za Z<|Zb Z<|z0s<|gSR<|Zm Z<|Zq (I.neq Z Z)<|Zj Z (fun h10=>?_) (fun h10=>?_)
  ·
   refine gSR<|Zq (zz1 [(0,1),(1,1),(2,1),(3,6),(9,2)] Tryz.underlying72 zax (ZrE.rd (R:=z0n) (x:=0) (Zr.num Z) (ZrE.nilS (ZrE.rd (R:=z2w) (x:=0) (Zr.num Z) (ZrE.rd (R:=z0h) (x:=(⟨0,[],(⟨0,0,0,[]⟩:z03)⟩:z07)) zom (ZrE.rd (R:=z0o) (x:=(⟨0,0⟩:z08)) zqy ZrE.nil Z) Z) Z)) Z) Z (zn2.done Z))<|Zm Z<|Es (zze 2 Z Z (z0q.cast (z0q.cons z2c (z0q.cons z0e (z0q.cons z2c (z0q.cons z2c (z0q.cons z2c z0q.nil))))) Z) Z (z6j.cons zeo (z6j.cons z23 (z6j.cons zeo (z6j.cons zeo (z6j.cons zeo z6j.nil))))) (z0q.cast (z0q.cons z2c (z0q.cons z0e (z0q.cons z2c (z0q.cons z2c (z0q.cons z2c z0q.nil))))) Z) zax)<|Zb Z<|z0l<|z0w<|zrm aZ [.rd z0n 0,.rd (z02 aZ) [],.rd z2w 0,.rd z0h (⟨0,[],(⟨0,0,0,[]⟩:z03)⟩:z07),.rd z0o (⟨0,0⟩:z08)] 2 [.rd z0n 0] [.rd z2w 0,.rd z0h (⟨0,[],(⟨0,0,0,[]⟩:z03)⟩:z07),.rd z0o (⟨0,0⟩:z08)] Z Z Z<|eJoi (R:=z04) (⟨0,[],0,(⟨0,[],(⟨0,0,0,[]⟩:z03)⟩:z07),(⟨0,0⟩:z08)⟩:z05) 2 Z (Sp.via (Sp.prod (Sp.prod (Sp.prod (Sp.prod (Sp.prod Sp.unit))))))<|zcn [] [1001] Z (eC 2 Z Z ze5<|eE Z<|eN) (y1 Z)
  ·
   refine Zt<|gSR<|Zm Z<|Zm Z<|zkx 4 [27,8,35] Z (fS Z<|fS Z<|fS Z<|fN)<|Zc [1001] [] Tryz.func78 Z (zsa _ _) fun r11 n12=>Zm Z<|Zq (ext Z Z)<|Zq (ext Z Z)<|Zq (faB 1 Z Z Tryz.underlying72 Z (by exact zm3))<|Es (sto 1 Z Z (fP (z2g _)) Z zm3)<|Zn<|gSR<|Zq (ld 1 Z Z fH ze5 Z)<|zbv aZ [.rd z0n 0,.rd (z02 aZ) [],.rd z2w 0,.rd z0h (⟨0,[],(⟨0,0,0,[]⟩:z03)⟩:z07),.rd z0o (⟨0,0⟩:z08)] 2 [.rd z0n 0] [.rd z2w 0,.rd z0h (⟨0,[],(⟨0,0,0,[]⟩:z03)⟩:z07),.rd z0o (⟨0,0⟩:z08)] Z Z Z<|ze3 (R:=z04) (⟨0,[],0,(⟨0,[],(⟨0,0,0,[]⟩:z03)⟩:z07),(⟨0,0⟩:z08)⟩:z05) 2 Z (Sp.via (Sp.prod (Sp.prod (Sp.prod (Sp.prod (Sp.prod Sp.unit))))))<|Es (sto 2 Z Z fH Z zax)<|Zb Z<|z0l<|zcn [] [1001] Z (eC 2 Z Z ze5<|eE Z<|eN) (y1 Z)
end
section
open Go Go.RowKit
def zga {α σ:Type} (F:α→σ→Option σ):List α→σ→Option σ
 | [],s=>some s
 | e::L,s=>F e s >>= zga F L
def z1a9 {α σ:Type} (F:α→σ→Option σ) (E:σ→σ→Prop):Prop:=∀ (L L':List α) (s r:σ),L.Perm L'→zga F L s=some r→∃ r',zga F L' s=some r'∧E r r'
def zvs {κ:Type} (by_:Nat) (acc:List κ) (l:List κ):Option (List κ):=if l=[] then some acc else app by_ acc l
theorem zw7 {κ:Type} {by_:Nat} {acc l r:List κ}:zvs by_ acc l=some r↔r=acc++l∧(l=[]∨(acc.length+l.length) * by_≤140737488355328):=by
 unfold zvs app
 by_cases h:l=[]
 ·
  rw [if_pos h,h,List.append_nil]
  exact ⟨fun e=>⟨(Option.some.inj e).symm,.inl rfl⟩, fun e=>by rw [e.1]⟩
 ·
  rw [if_neg h]
  by_cases h2:(acc.length+l.length) * by_≤140737488355328
  ·
   rw [if_pos h2]
   exact ⟨fun e=>⟨(Option.some.inj e).symm,.inr h2⟩, fun e=>by rw [e.1]⟩
  ·
   rw [if_neg h2]
   exact ⟨fun e=>(by cases e), fun e=>(e.2.elim h h2).elim⟩
def AppF {α κ:Type} (by_:Nat) (F:α→List κ→Option (List κ)):Prop:=∀ e,∃ o:Option (List κ),∀ acc,F e acc=o >>= fun l=>zvs by_ acc l
theorem AppF.fold {α κ:Type} {by_:Nat} {F:α→List κ→Option (List κ)} {sel:α→Option (List κ)} (h:∀ e acc,F e acc=sel e >>= fun l=>zvs by_ acc l):∀ (L:List α) (s r:List κ),zga F L s=some r↔(∀ e∈L,(sel e).isSome)∧r=s++(L.flatMap fun e=>(sel e).getD [])∧(L.flatMap (fun e=>(sel e).getD [])=[]∨r.length * by_≤140737488355328)
 | [],s,r=>by
  simp only [zga,List.flatMap_nil,List.append_nil]
  exact ⟨fun e=>⟨fun _ h=>absurd h (by simp),(Option.some.inj e).symm,.inl trivial⟩, fun e=>by rw [e.2.1]⟩
 | e::L,s,r=>by
  unfold zga
  rw [h]
  cases hs:sel e with
  | none=>simp [hs]
  | some l =>
   simp only [Option.bind_eq_bind,Option.bind_some]
   cases ha:zvs by_ s l with
   | none =>
    simp only [Option.bind_none]
    constructor
    ·
     intro h; cases h
    ·
     rintro ⟨-,h2,h3⟩
     exfalso
     simp only [List.flatMap_cons,hs,Option.getD_some] at h2 h3
     have:zvs by_ s l=some (s++l):=by
      rw [zw7]
      refine ⟨rfl,?_⟩
      rcases h3 with h3 | h3
      ·
       exact .inl (by simpa using (List.append_eq_nil_iff.1 h3).1)
      ·
       refine .inr (Nat.le_trans (Nat.mul_le_mul_right _ ?_) h3)
       rw [h2]; simp
     rw [this] at ha; cases ha
   | some t =>
    obtain ⟨rfl,hb⟩:=zw7.1 ha
    simp only [Option.bind_some]
    rw [AppF.fold h L (s++l) r]
    simp only [List.flatMap_cons,hs,Option.getD_some,List.mem_cons,forall_eq_or_imp,Option.isSome_some,true_and,List.append_assoc]
    constructor
    ·
     rintro ⟨h1,h2,h3⟩
     refine ⟨h1,h2,?_⟩
     rcases h3 with h3 | h3
     ·
      rcases hb with hb | hb
      ·
       exact .inl (by rw [hb,h3]; rfl)
      ·
       refine .inr ?_
       rw [h2,h3]; simpa using hb
     ·
      exact .inr h3
    ·
     rintro ⟨h1,h2,h3⟩
     refine ⟨h1,h2,?_⟩
     rcases h3 with h3 | h3
     ·
      exact .inl (List.append_eq_nil_iff.1 h3).2
     ·
      exact .inr h3
theorem AppF.comm {α κ:Type} {by_:Nat} {F:α→List κ→Option (List κ)} (hF:AppF by_ F):z1a9 F List.Perm:=by
 have hF':∃ sel:α→Option (List κ),∀ e acc,F e acc=sel e >>= fun l=>zvs by_ acc l:=⟨fun e=>Classical.choose (hF e), fun e=>Classical.choose_spec (hF e)⟩
 obtain ⟨sel,h⟩:=hF'
 intro L L' s r hp hr
 obtain ⟨h1,h2,h3⟩:=(AppF.fold h L s r).1 hr
 have hq:(L.flatMap fun e=>(sel e).getD []).Perm (L'.flatMap fun e=>(sel e).getD []):=hp.flatMap_right _
 refine ⟨s++L'.flatMap fun e=>(sel e).getD [],(AppF.fold h L' s _).2 ⟨fun e he=>h1 e (hp.mem_iff.2 he),rfl,?_⟩, by rw [h2]; exact hq.append_left s⟩
 rcases h3 with h3 | h3
 ·
  rw [h3] at hq; exact .inl hq.symm.eq_nil
 ·
  refine .inr ?_
  rw [h2,List.length_append,hq.length_eq] at h3
  rwa [List.length_append]
theorem zus {κ:Type} {by_:Nat} (x:κ):∃ o:Option (List κ),∀ acc:List κ,(app by_ acc [x] >>= fun z=>some z)=o >>= fun l=>zvs by_ acc l:=⟨some [x], fun acc=>by
 simp only [Option.bind_eq_bind,Option.bind_some,zvs]
 rw [if_neg (by simp)]
 cases app by_ acc [x] <;> rfl⟩
theorem zpm {κ τ:Type} {by_:Nat} {m:Option τ} {f:τ→List κ→Option (List κ)} (h:∀ r,∃ o:Option (List κ),∀ acc,f r acc=o >>= fun l=>zvs by_ acc l):∃ o:Option (List κ),∀ acc,(m >>= fun r=>f r acc)=o >>= fun l=>zvs by_ acc l:=by
 cases m with
 | none=>exact ⟨none, fun _=>rfl⟩
 | some r=>obtain ⟨o,ho⟩:=h r; exact ⟨o, fun acc=>ho acc⟩
theorem ztr {κ:Type} {by_:Nat} {c:Prop} [Decidable c] {f g:List κ→Option (List κ)} (hf:∃ o:Option (List κ),∀ acc,f acc=o >>= fun l=>zvs by_ acc l) (hg:∃ o:Option (List κ),∀ acc,g acc=o >>= fun l=>zvs by_ acc l):∃ o:Option (List κ),∀ acc,(if c then f acc else g acc)=o >>= fun l=>zvs by_ acc l:=by
 by_cases h:c
 ·
  obtain ⟨o,ho⟩:=hf; exact ⟨o, fun acc=>by rw [if_pos h]; exact ho acc⟩
 ·
  obtain ⟨o,ho⟩:=hg; exact ⟨o, fun acc=>by rw [if_neg h]; exact ho acc⟩
theorem gExM {ρ σ τ:Type} {ro:Option Nat} {P:Program} {A:σ→τ→Asn} {E:σ→Prop} {c:Code} {Q:ρ→Exit→Act→World→Prop} {m:Option ρ} (h:∀ s nv,E s→G ro P (A s nv) c Q m):G ro P (fun a w=>∃ s nv,E s∧A s nv a w) c Q m:=fun a w ⟨s,nv,h1,h2⟩=>h s nv h1 a w h2
theorem eExM {ρ σ τ:Type} {A:σ→τ→Asn} {E:σ→Prop} {e:Exit} {Q:ρ→Exit→Act→World→Prop} {m:Option ρ} (h:∀ s nv,E s→GE (A s nv) e Q m):GE (fun a w=>∃ s nv,E s∧A s nv a w) e Q m:=fun a w ⟨s,nv,h1,h2⟩=>h s nv h1 a w h2
theorem z1t.congr {ρ:Type} {P:Program} {f:FuncId} {pin:List Ent} {rin:Res} {m m':Option ρ} {q:ρ→(Nat→Value)→zo5} (e:m=m') (h:z1t P f pin rin m q):z1t P f pin rin m' q:=e ▸ h
section
variable {κ β:Type}
def z4b.mapX (RK:Rep κ) (RV:Rep β) (es:Array MapEntry) (clock:Nat) (m:List (κ × β)):z4b where
 nil _ _ _:=False
 nilm _ h:=h
 nilb h:=h.elim
 rel S w v o:=∃ b,v=.map (some b)∧o=.map es clock∧zhs RK RV S w es.toList m∧zvj es.toList clock
 mono k h:=by obtain ⟨b,h1,h2,h3,h4⟩:=h; exact ⟨b,h1,h2,h3.mono k,h4⟩
def z4b.mit (vm:Value) (since:Nat) (seen:Array Nat) (c0:Nat):z4b where
 nil _ _ _:=False
 nilm _ h:=h
 nilb h:=h.elim
 rel S w v o:=∃ g bm,v=.pointer (some ⟨g,0,none⟩)∧vm=.map (some bm)∧o=.mapIter (some bm) since seen c0
 mono k h:=h
theorem zkc {RK:Rep κ} {RV:Rep β} {es clock m S w v} (h:(z4b.mapX RK RV es clock m).holds S w v):∃ b,v=.map (some b)∧w.heap[b]? = some (.map es clock)∧zhs RK RV S w es.toList m∧zvj es.toList clock:=by
 rcases h with h | ⟨b,o,h1,h2,b',rfl,rfl,h3,h4⟩
 ·
  exact h.elim
 ·
  simp only [z5b,Option.some.injEq] at h1
  subst h1
  exact ⟨_,rfl,h2,h3,h4⟩
theorem zwd {vm v:Value} {since c0:Nat} {seen:Array Nat} {S:Blk} {w:World} (h:(z4b.mit vm since seen c0).holds S w v):∃ g bm,v=.pointer (some ⟨g,0,none⟩)∧vm=.map (some bm)∧w.heap[g]? = some (.mapIter (some bm) since seen c0):=by
 rcases h with h | ⟨b,o,h1,h2,g,bm,rfl,rfl,rfl⟩
 ·
  exact h.elim
 ·
  simp only [z5b,Option.some.injEq] at h1
  subst h1
  exact ⟨_,_,rfl,rfl,h2⟩
def z96 (es:List MapEntry) (m:List (κ × β)) (seen:Array Nat):List (κ × β):=((es.zip m).filter fun p=>!seen.contains p.1.born).map (·.2)
theorem zwy {RK:Rep κ} {RV:Rep β} {S:Blk} {w:World} {es:List MapEntry} {m:List (κ × β)} (h:zhs RK RV S w es m):z96 es m #[]=m:=by
 have hl:=h.size
 unfold z96
 rw [List.filter_eq_self.2 (fun p _=>by simp)]
 exact List.map_snd_zip (by omega)
theorem z114 {es:List MapEntry} {m:List (κ × β)} {seen:Array Nat} {b:Nat} (h:∀ e∈es,e.born≠b):z96 es m (seen.push b)=z96 es m seen:=by
 unfold z96
 congr 1
 apply List.filter_congr
 intro p hp
 have:=h p.1 (List.of_mem_zip hp).1
 simp [this]
theorem zse {RK:Rep κ} {RV:Rep β} {S:Blk} {w:World} {seen:Array Nat} {e:MapEntry}:∀ {es:List MapEntry} {m:List (κ × β)},zhs RK RV S w es m→(es.map (·.born)).Nodup→e∈es→seen.contains e.born=false→∃ (i:Nat) (k:κ) (x:β),es[i]? = some e∧m[i]? = some (k,x)∧(z96 es m seen).Perm ((k,x)::z96 es m (seen.push e.born))
 | e0::es,p::m,h,hn,he,hs=>by
  simp only [List.map_cons,List.nodup_cons] at hn
  rcases List.mem_cons.1 he with rfl | he
  ·
   refine ⟨0,p.1,p.2,rfl,rfl,?_⟩
   have hfar:∀ e'∈es,e'.born≠e.born:=fun e' h' h2=>hn.1 (List.mem_map.2 ⟨e',h',h2⟩)
   have hs':e.born∉seen:=by simpa using hs
   have h1:z96 (e::es) (p::m) seen=p::z96 es m seen:=by simp [z96,hs']
   have h2:z96 (e::es) (p::m) (seen.push e.born)=z96 es m (seen.push e.born):=by simp [z96]
   rw [h1,h2,z114 hfar]
  ·
   obtain ⟨i,k,x,h1,h2,h3⟩:=zse h.2 hn.2 he hs
   refine ⟨i+1,k,x, by simpa using h1, by simpa using h2,?_⟩
   have hne:e0.born≠e.born:=fun hh=>hn.1 (List.mem_map.2 ⟨e,he,hh.symm⟩)
   by_cases h0:seen.contains e0.born=true
   ·
    have g1:z96 (e0::es) (p::m) seen=z96 es m seen:=by simp [z96] at h0 ⊢; simp [h0]
    have g2:z96 (e0::es) (p::m) (seen.push e.born)=z96 es m (seen.push e.born):=by simp [z96] at h0 ⊢; simp [h0]
    rw [g1,g2]; exact h3
   ·
    have g1:z96 (e0::es) (p::m) seen=p::z96 es m seen:=by simp [z96] at h0 ⊢; simp [h0]
    have g2:z96 (e0::es) (p::m) (seen.push e.born)=p::z96 es m (seen.push e.born):=by simp [z96] at h0 ⊢; simp [h0,hne]
    rw [g1,g2]
    exact (h3.cons p).trans (List.Perm.swap _ _ _)
theorem zw9 {RK:Rep κ} {RV:Rep β} {S:Blk} {w:World} {seen:Array Nat}:∀ {es:List MapEntry} {m:List (κ × β)},zhs RK RV S w es m→(es.filter fun e=>!seen.contains e.born)=[]→z96 es m seen=[]
 | [],[],_,_=>rfl
 | e::es,p::m,h,h0=>by
  rw [List.filter_cons] at h0
  split at h0
  ·
   cases h0
  ·
   rename_i hs
   have:=zw9 h.2 h0
   simp [z96] at hs this ⊢
   simp [hs]
   exact this
 | [],_::_,h,_=>h.elim
 | _::_,[],h,_=>h.elim
theorem zvv {RK:Rep κ} {RV:Rep β} {S:Blk} {w:World}:∀ {es:List MapEntry} {m:List (κ × β)} {i:Nat} {e:MapEntry} {k:κ} {x:β},zhs RK RV S w es m→es[i]? = some e→m[i]? = some (k,x)→RK.vrel S w e.key k∧RV.vrel S w e.val x
 | e0::es,p::m,0,e,k,x,h,h1,h2=>by
  simp only [List.getElem?_cons_zero,Option.some.injEq] at h1 h2
  subst h1; subst h2; exact h.1
 | e0::es,p::m,i+1,e,k,x,h,h1,h2=>zvv h.2 (by simpa using h1) (by simpa using h2)
 | [],_,_,_,_,_,_,h1,_=>by simp at h1
def ItAt (P:Program) (Ci Cm:z4b) (u v:Value) (RK:Rep κ) (RV:Rep β) (k:κ) (x:β):Prop :=
 ∀ S w,Ci.holds S w u→Cm.holds S w v→∃ key val,(∀ w',(∀ b,z5b u=some b→w'.heap[b]? = w.heap[b]?)→(∀ b,z5b v=some b→w'.heap[b]? = w.heap[b]?)→(Instr.entry u).run P w'=.ok (.tuple #[key,val]) w')∧RK.vrel S w key k∧RV.vrel S w val x
theorem itAt {P:Program} {u v:Value} {RK:Rep κ} {RV:Rep β} {es:Array MapEntry} {clock:Nat} {seen:Array Nat} {m:List (κ × β)} {i:Nat} {e:MapEntry} {k:κ} {x:β} (h1:es.toList[i]? = some e) (h2:m[i]? = some (k,x)) :
  ItAt P (.mit v clock (seen.push e.born) clock) (.mapX RK RV es clock m) u v RK RV k x:=fun S w hi hm=>by
 obtain ⟨g,bm,rfl,rfl,g1⟩:=zwd hi
 obtain ⟨b,hb,m1,m2,m3⟩:=zkc hm
 cases hb
 obtain ⟨k1,k2⟩:=zvv m2 h1 h2
 refine ⟨e.key,e.val, fun w' q1 q2=>?_,k1,k2⟩
 have g1':w'.heap[g]? = some (.mapIter (some bm) clock (seen.push e.born) clock):=(q1 g rfl).trans g1
 have m1':w'.heap[bm]? = some (.map es clock):=(q2 bm rfl).trans m1
 obtain ⟨hi,he⟩:=List.getElem?_eq_some_iff.1 h1
 have hmem:e∈es.toList:=by rw [← he]; exact List.getElem_mem _
 have hf:es.find? (·.born==e.born)=some e:=by rw [← Array.find?_toList]; exact find_born e es.toList m3.1 hmem
 simp only [Instr.entry,getObj,Sem.run_bind,Sem.run,g1',m1',Result.andThen,Array.back?_push,bne_self_eq_false,Bool.false_eq_true,if_false,hf]
 rfl
end
section
variable {ρ:Type} {P:Program} {Γ:Ctx} {l:z1i} {res:Res} {m:Option ρ} {os rest:List Oper} {N:ρ→Exit→Act→World→Prop}
 {d:Tmp} {ty:TypeId} {pos:String} {after:Array Edge} {g:Option (Nat × Bool)} {ro:Option Nat} {κ β:Type} {RK:Rep κ} {RV:Rep β} {mm:List (κ × β)}
theorem Sta.less {res':Res} {a:Act} {w:World} (ha:Sta Γ l res a w) (h:∀ r y,lr res' r=some y→lr res r=some y):Sta Γ l res' a w:=by
 have hst:zah (Shr Γ.H res w) (Shr Γ.H res' w) w w:=fun b hb=>⟨⟨hb.1, fun r v c h1=>hb.2.1 r v c (h _ _ h1),hb.2.2⟩,rfl⟩
 exact ⟨ha.size,ha.defers, fun t e ht=>by obtain ⟨u,h1,h2⟩:=ha.slots t e ht; exact ⟨u,h1,e.mono hst h2⟩, fun r v c hr=>(ha.conts r v c (h _ _ hr)).mono hst (fun _ _=>rfl),
  fun r1 v1 c1 r2 v2 c2 h1 h2=>ha.excl r1 v1 c1 r2 v2 c2 (h _ _ h1) (h _ _ h2), fun r v c hr=>ha.own r v c (h _ _ hr),ha.keep,ha.old,ha.hid⟩
theorem z169 {x:Operand} {v:Value} {T K V:TypeId} (ri rm:Nat) (hn:Nat.blt d Γ.n=true) (hx:opE l x=some (.val v)) (hr:lr res rm=some (v,.map RK RV mm)) (hT:P.underlying T=some (.map K V))
  (k:∀ u es clock,GL P os (Sta Γ ((d,.val u)::l) ((ri,some (u,.mit v clock #[] clock))::(rm,some (v,.mapX RK RV es clock mm))::res)) rest N m) :
  GL P os (Sta Γ l res) (⟨some d,.range T x,ty,pos,after,none⟩::rest) N m:=fun a w ha ρ hm=>by
 have h1:=(ha.vl hx).1
 obtain ⟨b,es,clock,rfl,h2,h3,h4⟩:=zml (ha.conts rm v _ hr)
 have ha2:=ha.recont (c':=.mapX RK RV es clock mm) rm hr (fun _=>.inr ⟨b,_,rfl,h2,b,rfl,rfl,h3,h4⟩)
 have hrun:(execOp a.eval ⟨some d,.range T x,ty,pos,after,none⟩).run P w=.ok (.value (.pointer (some ⟨w.heap.size,0,none⟩))) (w.alloc (.mapIter (some b) clock #[] clock)):=by
  simp [execOp,h1,run_range_map w T K V b es clock hT h2]
 obtain ⟨h5,h6⟩:=ha2.upd ri (c:=.mit (.map (some b)) clock #[] clock) (v:=.pointer (some ⟨w.heap.size,0,none⟩)) (zgu w (.mapIter (some b) clock #[] clock)) (by simp) (fun b hb=>.inr (by simp [z5b] at hb; omega)) (fun S' k'=>.inr ⟨w.heap.size,_,rfl,heap_alloc_new _ _,_,_,rfl,rfl,rfl⟩)
 exact st (ze1 rfl) hrun (k _ es clock _ _ (h5.put hn ⟨rfl,rfl⟩) ρ hm)
theorem entM {k:κ} {x0:β} {u v:Value} {Ci Cm:z4b} {x:Operand} (ri rm:Nat) (hx:opE l x=some (.val u)) (h1:lr res ri=some (u,Ci)) (h2:lr res rm=some (v,Cm)) (hI:ItAt P Ci Cm u v RK RV k x0) :
  Run Eq P Γ l res ⟨some d,.entry x,ty,pos,after,g⟩ (.tup [.rd RK k,.rd RV x0]):=fun a w ha=>by
 obtain ⟨key,val,q1,q2,q3⟩:=hI _ _ (ha.conts ri u _ h1) (ha.conts rm v _ h2)
 refine ⟨.tuple #[key,val], fun w' hw=>?_,[key,val],⟨q2,q3,trivial⟩,rfl⟩
 subst hw
 simp [execOp,(ha.vl hx).1,q1 w (fun _ _=>rfl) (fun _ _=>rfl)]
theorem z18m {u v:Value} {x:Operand} {es:Array MapEntry} {clock c0:Nat} {seen:Array Nat} (ri rm:Nat) (hn:Nat.blt d Γ.n=true) (hx:opE l x=some (.val u)) (h1:lr res ri=some (u,.mit v clock seen c0)) (h2:lr res rm=some (v,.mapX RK RV es clock mm)) (hc:clock≤c0)
  (k0:z96 es.toList mm seen=[]→GL P os (Sta Γ ((d,.tup [.rd z0d false])::l) res) rest N m)
  (k1:∀ (i:Nat) (e:MapEntry) (k:κ) (x:β),es.toList[i]? = some e→mm[i]? = some (k,x)→(z96 es.toList mm seen).Perm ((k,x)::z96 es.toList mm (seen.push e.born))→GL P os (Sta Γ ((d,.tup [.rd z0d true,.junk,.junk])::l) ((ri,some (u,.mit v clock (seen.push e.born) clock))::res)) rest N m) :
  GL P os (Sta Γ l res) (⟨some d,.next x false,ty,pos,after,none⟩::rest) N m:=fun a w ha ρ hm=>by
 have hu:=(ha.vl hx).1
 obtain ⟨gb,bm,rfl,rfl,g1⟩:=zwd (ha.conts ri u _ h1)
 obtain ⟨b,hb,m1,m2,m3⟩:=zkc (ha.conts rm _ _ h2)
 cases hb
 rcases run_next_at (P:=P) w ty gb bm clock c0 seen es clock g1 m1 (fun x hx=>m3.2 x hx) hc with ⟨hz,hrun⟩ | ⟨e,he,w1,hw1,hrun⟩
 ·
  have hnil:(es.toList.filter fun e=>!seen.contains e.born)=[]:=by
   have:(leftOf es seen).toList=[]:=by
    rw [Array.toList_eq_nil_iff]; exact Array.eq_empty_of_size_eq_zero hz
   unfold leftOf at this
   rwa [Array.toList_filter] at this
  have hrun':(execOp a.eval ⟨some d,.next x false,ty,pos,after,none⟩).run P w=.ok (.value (.tuple #[.bool false])) w:=by
   simp [execOp,hu,hrun]
  exact st (ze1 rfl) hrun' (k0 (zw9 m2 hnil) _ _ (ha.put hn ⟨[_],⟨⟨_,rfl,rfl⟩,trivial⟩,rfl⟩) ρ hm)
 ·
  have hmem:e∈es.toList∧seen.contains e.born=false:=by
   unfold leftOf at he
   rw [Array.toList_filter,List.mem_filter] at he
   exact ⟨he.1, by simpa using he.2⟩
  obtain ⟨i,k,x0,e1,e2,e3⟩:=zse m2 m3.1 hmem.1 hmem.2
  have hlt:gb<w.heap.size:=(Array.getElem?_eq_some_iff.1 g1).1
  have hheap:w1.heap=w.heap:=by rcases hw1 with rfl | rfl <;> rfl
  have hgr:w.grownBy (ChangeMaps.setBlock w1 gb (.mapIter (some bm) clock (seen.push e.born) clock)) (some gb):=by
   refine ⟨?_,?_,?_,?_, fun q hq hne=>?_⟩
   ·
    rcases hw1 with rfl | rfl <;> rfl
   ·
    rcases hw1 with rfl | rfl <;> rfl
   ·
    rcases hw1 with rfl | rfl <;> rfl
   ·
    show w.heap.size≤(w1.heap.setIfInBounds gb _).size
    rw [hheap]; simp
   ·
    have hne:q≠gb:=fun e=>hne (by rw [e])
    show (w1.heap.setIfInBounds gb _)[q]? = w.heap[q]?
    rw [hheap,Array.getElem?_setIfInBounds_ne (fun e=>hne e.symm)]
  obtain ⟨h5,h6⟩:=ha.upd ri (v:=.pointer (some ⟨gb,0,none⟩)) (c:=.mit (.map (some bm)) clock (seen.push e.born) clock) hgr (fun b hb=>⟨_,_,h1, by cases hb; rfl⟩) (fun b hb=>.inl ⟨_,_,h1,hb⟩)
   (fun S' k'=>.inr ⟨gb,.mapIter (some bm) clock (seen.push e.born) clock,rfl, by show (w1.heap.setIfInBounds gb _)[gb]? = _; rw [hheap]; simp [hlt],gb,bm,rfl,rfl,rfl⟩)
  have hrun':(execOp a.eval ⟨some d,.next x false,ty,pos,after,none⟩).run P w=.ok (.value (.tuple #[.bool true,e.key,e.val])) (ChangeMaps.setBlock w1 gb (.mapIter (some bm) clock (seen.push e.born) clock)):=by
   simp [execOp,hu,hrun]
  exact st (ze1 rfl) hrun' (k1 i e k x0 e1 e2 e3 _ _ (h5.put hn ⟨[_,_,_],⟨⟨_,rfl,rfl⟩,trivial,trivial,trivial⟩,rfl⟩) ρ hm)
def mcnt:Nat→Option (Sum Unit Nat)
 | 0=>some (.inl ())
 | k+1=>some (.inr k)
theorem zr5:∀ n,iter mcnt n=some ()
 | 0=>by rw [iter]; rfl
 | n+1=>by rw [iter]; exact zr5 n
def z192 {σ:Type} (Γ:Ctx) (L:(Nat→Value)→z1i) (ri rm:Nat) (u v:Value) (RK:Rep κ) (RV:Rep β) (es:Array MapEntry) (clock:Nat) (mm:List (κ × β)) (Rs:σ→(Nat→Value)→Res) (F:κ × β→σ→Option σ) (E:σ→σ→Prop) (r:σ) (k:Nat):Asn:=fun a w =>
 ∃ s seen c0 nv,Sta Γ (L nv) ((ri,some (u,.mit v clock seen c0))::(rm,some (v,.mapX RK RV es clock mm))::Rs s nv) a w∧clock≤c0∧(z96 es.toList mm seen).length=k∧∃ r',zga F (z96 es.toList mm seen) s=some r'∧E r r'
theorem z126 {σ:Type} {A:Asn} {ib nb id1:Nat} {t tn tm:Tmp} {ty1 ty2:TypeId} {p1 p2:String} {a1 a2:Array Edge} {body:Code} {u v:Value} {es:Array MapEntry} {clock:Nat} {L:(Nat→Value)→z1i} {s0:σ} {nv0:Nat→Value} {F:κ × β→σ→Option σ}
  (ri rm:Nat) (E:σ→σ→Prop) (hEt:∀ a b c,E a b→E b c→E a c) (hE0:∀ a,E a a) (hC:z1a9 F E) (Rs:σ→(Nat→Value)→Res) (h0:∀ a w,A a w→Sta Γ (L nv0) ((ri,some (u,.mit v clock #[] clock))::(rm,some (v,.mapX RK RV es clock mm))::Rs s0 nv0) a w)
  (ht:∀ nv,lk (L nv) t=some (.val u)) (hn1:Nat.blt tn Γ.n=true) (hn2:Nat.blt tm Γ.n=true) (hL:∀ nv e1 e2,zw8 ((tm,e1)::(tn,e2)::L nv) (L nv)) (hri:∀ s nv,lr (Rs s nv) ri=none) (hne:Nat.beq ri rm=false)
  (hbody:∀ (Ci Cm:z4b) (k:κ) (x:β) (s:σ) (nv:Nat→Value),ItAt P Ci Cm u v RK RV k x→G ro P (Sta Γ (L nv) ((ri,some (u,Ci))::(rm,some (v,Cm))::Rs s nv)) (.block nb body) (midQ fun s1 aa ww=>∃ nv',Sta Γ (L nv') ((ri,some (u,Ci))::(rm,some (v,Cm))::Rs s1 nv') aa ww) (F (k,x) s)) :
  G ro P A (.block ib (.loop (.seq (.region id1 #[⟨some tn,.next (.tmp t) false,ty1,p1,a1,none⟩,⟨some tm,.extract (.tmp tn) 0,ty2,p2,a2,none⟩] false) (.seq (.cond (.tmp tm) .skip (.exit ib)) (.block nb body)))))
   (midQ fun r aa ww=>∃ s nv,E r s∧Sta Γ (L nv) ((rm,some (v,.map RK RV mm))::Rs s nv) aa ww) (zga F mm s0):=fun a w ha r hr=>by
 have hsta:=h0 a w ha
 obtain ⟨bm,hbm,m1,m2,m3⟩:=zkc (hsta.conts rm v (.mapX RK RV es clock mm) (by
  rw [z16,if_neg (Nat.ne_of_beq_eq_false hne),z16,if_pos rfl]))
 have hleft:z96 es.toList mm #[]=mm:=zwy m2
 have main:G ro P (fun aa ww=>aa=a∧ww=w) (.block ib (.loop (.seq (.region id1 #[⟨some tn,.next (.tmp t) false,ty1,p1,a1,none⟩,⟨some tm,.extract (.tmp tn) 0,ty2,p2,a2,none⟩] false) (.seq (.cond (.tmp tm) .skip (.exit ib)) (.block nb body)))))
   (midQ fun (_:Unit) aa ww=>∃ s nv,E r s∧Sta Γ (L nv) ((rm,some (v,.map RK RV mm))::Rs s nv) aa ww) (iter mcnt mm.length):=by
  refine z1w (z192 Γ L ri rm u v RK RV es clock mm Rs F E r) ?_ fun k=>?_
  ·
   rintro aa ww ⟨rfl,rfl⟩
   exact ⟨s0,#[],clock,nv0,hsta,Nat.le_refl _, by rw [hleft],r, by rw [hleft]; exact hr,hE0 r⟩
  ·
   rintro aa ww ⟨s,seen,c0,nv,hs,hc,hk,r',hf,hE⟩
   have hlr1:∀ (x:Option (Value × z4b)),lr ((ri,x)::(rm,some (v,z4b.mapX RK RV es clock mm))::Rs s nv) rm=some (v,.mapX RK RV es clock mm):=fun x=>by
    rw [z16,if_neg (Nat.ne_of_beq_eq_false hne),z16,if_pos rfl]
   have goal:G ro P (Sta Γ (L nv) ((ri,some (u,.mit v clock seen c0))::(rm,some (v,.mapX RK RV es clock mm))::Rs s nv)) (.seq (.region id1 #[⟨some tn,.next (.tmp t) false,ty1,p1,a1,none⟩,⟨some tm,.extract (.tmp tn) 0,ty2,p2,a2,none⟩] false) (.seq (.cond (.tmp tm) .skip (.exit ib)) (.block nb body)))
     (zpn ib (z192 Γ L ri rm u v RK RV es clock mm Rs F E r) (midQ fun (_:Unit) aa ww=>∃ s nv,E r s∧Sta Γ (L nv) ((rm,some (v,.map RK RV mm))::Rs s nv) aa ww)) (mcnt k):=by
    refine z0s<|z28 (os:=[⟨some tn,.next (.tmp t) false,ty1,p1,a1,none⟩,⟨some tm,.extract (.tmp tn) 0,ty2,p2,a2,none⟩])<|z18m ri rm hn1 (ht nv) (by rw [z16,if_pos rfl]) (hlr1 _) hc (fun hnil=>?_) (fun i e kk x e1 e2 e3=>?_)
    ·
     rw [hnil] at hk hf
     have hk:k=0:=hk.symm
     subst hk
     have hf:s=r':=Option.some.inj hf
     subst hf
     refine R hn2 (ext (es:=[.rd z0d false]) (by show lk _ _=_; rw [z2e,if_pos rfl]) rfl)<|z1s<|z0k<|z0s<|zeh (by show lk _ _=_; rw [z2e,if_pos rfl])<|z1r<|z0x<|z10<|z3t fun aa ww h=>⟨s,nv,hE,?_⟩
     have h':Sta Γ (L nv) ((ri,some (u,.mit v clock seen c0))::(rm,some (v,.mapX RK RV es clock mm))::Rs s nv) aa ww:=⟨h.size,h.defers, fun t' e' ht'=>h.slots t' e' ((hL _ _ _).get ht'),h.conts,h.excl,h.own,h.keep,h.old,h.hid⟩
     refine (h'.recont (c':=.map RK RV mm) rm (hlr1 _) (fun hh=>?_)).less fun q y hq=>?_
     ·
      obtain ⟨b,rfl,q1,q2,q3⟩:=zkc hh
      exact zjp q1 q2 q3
     ·
      rw [z16] at hq ⊢
      by_cases e:rm=q
      ·
       rw [if_pos e] at hq ⊢; exact hq
      ·
       rw [if_neg e] at hq ⊢
       rw [z16]
       by_cases e2:ri=q
       ·
        subst e2; rw [hri] at hq; cases hq
       ·
        rw [if_neg e2,z16,if_neg e]; exact hq
    ·
     obtain ⟨r2,hr2,hE2⟩:=hC _ _ s r' e3 hf
     have hlen:=e3.length_eq
     rw [List.length_cons,hk] at hlen
     subst hlen
     unfold zga at hr2
     cases hF:F (kk,x) s with
     | none=>rw [hF] at hr2; cases hr2
     | some s1 =>
      rw [hF] at hr2
      have hr2:zga F (z96 es.toList mm (seen.push e.born)) s1=some r2:=hr2
      refine R hn2 (ext (es:=[.rd z0d true,.junk,.junk]) (by show lk _ _=_; rw [z2e,if_pos rfl]) rfl)<|z1s<|z0k<|z0s<|zgn (by show lk _ _=_; rw [z2e,if_pos rfl])<|z2u<|z0k ?_
      intro aa ww h ρ hρ
      have h':Sta Γ (L nv) ((ri,some (u,.mit v clock (seen.push e.born) clock))::(rm,some (v,.mapX RK RV es clock mm))::Rs s nv) aa ww:=by
       refine Sta.less (res:=(ri,some (u,.mit v clock (seen.push e.born) clock))::(ri,some (u,.mit v clock seen c0))::(rm,some (v,.mapX RK RV es clock mm))::Rs s nv) ⟨h.size,h.defers, fun t' e' ht'=>h.slots t' e' ((hL _ _ _).get ht'),h.conts,h.excl,h.own,h.keep,h.old,h.hid⟩ fun q y hq=>?_
       rw [z16] at hq ⊢
       by_cases e:ri=q
       ·
        rw [if_pos e] at hq ⊢; exact hq
       ·
        rw [if_neg e] at hq ⊢
        rw [z16,if_neg e]; exact hq
      have hb:=hbody (.mit v clock (seen.push e.born) clock) (.mapX RK RV es clock mm) kk x s nv (itAt e1 e2) aa ww h' s1 hF
      have hρ:Sum.inr (z96 es.toList mm (seen.push e.born)).length=ρ:=Option.some.inj hρ
      subst hρ
      refine zm8 (fun ex a3 w3 hq=>?_) hb
      obtain ⟨rfl,nv',hq⟩:=hq
      exact ⟨rfl,s1,seen.push e.born,clock,nv',hq,Nat.le_refl _,rfl,r2,hr2,hEt _ _ _ hE hE2⟩
   exact goal aa ww hs
 exact main a w ⟨rfl,rfl⟩ () (zr5 _)
end
end
section
open Go Go.Shelf
def zww:Go.Shelf.Ren:=⟨fun | 190=>63 | 125=>96 | 258=>95 | 128=>137 | 129=>138 | 302=>128 | 303=>129 | 304=>130 | 305=>131 | 306=>132 | 307=>133 | 308=>134 | 309=>135 | 310=>136 | 333=>175 | 329=>176 | 330=>177 | 334=>178 | 335=>179 | 336=>180 | 344=>210 | n=>n, fun | 31=>47 | 9=>9 | 3=>3 | 46=>149 | 0=>0 | 51=>65 | 53=>52 | 4=>4 | 183=>179 | 182=>178 | 131=>139 | 5=>5 | 218=>216 | 222=>220 | 228=>247 | 229=>248 | n=>n, fun | n=>n⟩
theorem z158:Go.Proofs.Lays.n190 Tryz.prog zww:={
 mixed:=by kernel_rfl
 f125:=Tryz.func96.trans (congrArg some (by kernel_rfl))
 f128:=Tryz.func137.trans (congrArg some (by kernel_rfl))
 f129:=Tryz.func138.trans (congrArg some (by kernel_rfl))
 f190:=Tryz.func63.trans (congrArg some (by kernel_rfl))
 f258:=Tryz.func95.trans (congrArg some (by kernel_rfl))
 f302:=Tryz.func128.trans (congrArg some (by kernel_rfl))
 f303:=Tryz.func129.trans (congrArg some (by kernel_rfl))
 f304:=Tryz.func130.trans (congrArg some (by kernel_rfl))
 f305:=Tryz.func131.trans (congrArg some (by kernel_rfl))
 f306:=Tryz.func132.trans (congrArg some (by kernel_rfl))
 f307:=Tryz.func133.trans (congrArg some (by kernel_rfl))
 f308:=Tryz.func134.trans (congrArg some (by kernel_rfl))
 f309:=Tryz.func135.trans (congrArg some (by kernel_rfl))
 f310:=Tryz.func136.trans (congrArg some (by kernel_rfl))
 f329:=Tryz.func176.trans (congrArg some (by kernel_rfl))
 f330:=Tryz.func177.trans (congrArg some (by kernel_rfl))
 f333:=Tryz.func175.trans (congrArg some (by kernel_rfl))
 f334:=Tryz.func178.trans (congrArg some (by kernel_rfl))
 f335:=Tryz.func179.trans (congrArg some (by kernel_rfl))
 f336:=Tryz.func180.trans (congrArg some (by kernel_rfl))
 f344:=Tryz.func210.trans (congrArg some (by kernel_rfl))
 t0:=Tryz.underlying0
 a0:=Tryz.isAgg0
 z0:=Tryz.sizeOf0
 v0:=Tryz.zeroValue0
 t3:=Tryz.underlying3
 a3:=Tryz.isAgg3
 z3:=Tryz.sizeOf3
 v3:=Tryz.zeroValue3
 t4:=Tryz.underlying4
 a4:=Tryz.isAgg4
 z4:=Tryz.sizeOf4
 v4:=Tryz.zeroValue4
 t5:=Tryz.underlying5
 a5:=Tryz.isAgg5
 z5:=Tryz.sizeOf5
 v5:=Tryz.zeroValue5
 t9:=Tryz.underlying9
 a9:=Tryz.isAgg9
 z9:=Tryz.sizeOf9
 v9:=Tryz.zeroValue9
 t31:=Tryz.underlying47
 a31:=Tryz.isAgg47
 z31:=Tryz.sizeOf47
 v31:=Tryz.zeroValue47
 t46:=Tryz.underlying149
 a46:=Tryz.isAgg149
 z46:=Tryz.sizeOf149
 v46:=Tryz.zeroValue149
 t51:=Tryz.underlying65
 a51:=Tryz.isAgg65
 z51:=Tryz.sizeOf65
 v51:=Tryz.zeroValue65
 t53:=Tryz.underlying52
 a53:=Tryz.isAgg52
 z53:=Tryz.sizeOf52
 v53:=Tryz.zeroValue52
 t131:=Tryz.underlying139
 a131:=Tryz.isAgg139
 z131:=Tryz.sizeOf139
 v131:=Tryz.zeroValue139
 t182:=Tryz.underlying178
 a182:=Tryz.isAgg178
 z182:=Tryz.sizeOf178
 v182:=Tryz.zeroValue178
 t183:=Tryz.underlying179
 a183:=Tryz.isAgg179
 z183:=Tryz.sizeOf179
 v183:=Tryz.zeroValue179
 t218:=Tryz.underlying216
 a218:=Tryz.isAgg216
 z218:=Tryz.sizeOf216
 v218:=Tryz.zeroValue216
 t222:=Tryz.underlying220
 a222:=Tryz.isAgg220
 z222:=Tryz.sizeOf220
 v222:=Tryz.zeroValue220
 t228:=Tryz.underlying247
 a228:=Tryz.isAgg247
 z228:=Tryz.sizeOf247
 v228:=Tryz.zeroValue247
 t229:=Tryz.underlying248
 a229:=Tryz.isAgg248
 z229:=Tryz.sizeOf248
 v229:=Tryz.zeroValue248 }
end
section
open Go Go.RowKit Go.Sort
theorem zr9 {S:Blk} {w:World}:∀ {l:List (List UInt8)} {cs:List Value},z6k zb4 S w cs l→cs=l.map encStr
 | [],cs,h=>h
 | x::l,cs,h=>by
  obtain ⟨c,d,rfl,⟨s,rfl,rfl⟩,h2⟩:=h
  rw [List.map_cons,zr9 h2]; rfl
theorem zsw {S:Blk} {w:World}:∀ (l:List (List UInt8)),z6k zb4 S w (l.map encStr) l
 | []=>rfl
 | x::l=>⟨[encStr x],l.map encStr,rfl,⟨⟨x.toArray⟩,rfl,rfl⟩,zsw l⟩
theorem zwx {w:World} {b:Nat} {C:Array Value} {T:TypeId} (l:List (List UInt8)) (hb:w.heap[b]? = some (.cells C T (0,0))) (hc:C.toList.take l.length=l.map encStr):Holds encStr w b 0 l.toArray:=by
 intro j hj
 have hj':j<l.length:=by simpa using hj
 constructor
 ·
  refine zqi hb ?_
  have e:(C.toList.take l.length)[j]? = (l.map encStr)[j]? := by rw [hc]
  rw [List.getElem?_take_of_lt hj',List.getElem?_map,List.getElem?_eq_getElem hj'] at e
  rw [← Array.getElem?_toList,e,getElem!_pos _ j hj]
  simp
 ·
  simp [World.frozen?,hb]
theorem z12t (l:List (List UInt8)) (C:Array Value) (hC:l.length≤C.size):(putCells encStr 0 l.toArray C).toList.take l.length=l.map encStr:=by
 apply List.ext_getElem?
 intro t
 by_cases ht:t<l.length
 ·
  rw [List.getElem?_take_of_lt ht,Array.getElem?_toList,List.getElem?_map,List.getElem?_eq_getElem ht]
  simp only [putCells,Array.getElem?_mapIdx,Nat.sub_zero,Nat.zero_add,List.size_toArray,Nat.zero_le,true_and]
  rw [Array.getElem?_eq_getElem (by omega),Option.map_some,if_pos ht,getElem!_pos _ t (by simpa using ht)]
  simp
 ·
  rw [List.getElem?_eq_none (by simp; omega),List.getElem?_eq_none (by simpa using ht)]
def zue (l:List (List UInt8)):List (List UInt8):=l.mergeSort fun x y=>decide (x≤y)
theorem zmp (l:List (List UInt8)):(zue l).length=l.length:=List.length_mergeSort l
theorem z14m (l:List (List UInt8)) (x:List UInt8):x∈zue l↔x∈l:=List.mem_mergeSort
theorem zmw (l:List (List UInt8)):(zue l).Perm l:=List.mergeSort_perm l _
theorem zia (l:List (List UInt8)):(zue l).Pairwise (· ≤ ·):=by
 have h:=List.pairwise_mergeSort (le:=fun x y:List UInt8=>decide (x≤y)) (fun a b c h1 h2=>by
  simp only [decide_eq_true_eq] at *; exact List.le_trans h1 h2) (fun a b=>by simp only [Bool.or_eq_true,decide_eq_true_eq]; exact List.le_total a b) l
 exact h.imp fun {a b} hab=>by simpa using hab
theorem zxf {l l':List (List UInt8)} (h:l.Perm l'):zue l=zue l' :=
 (((zmw l).trans h).trans (zmw l').symm).eq_of_pairwise (le:=(· ≤ ·)) (fun a b _ _ h1 h2=>List.le_antisymm h1 h2) (zia l) (zia l')
def zq3 (l:List (List UInt8)):Option (List (List UInt8)):=chk (l.length≤1000000) >>= fun _=>some (zue l)
theorem zxp {l l':List (List UInt8)} (h:l.Perm l'):zq3 l=zq3 l':=by unfold zq3; rw [h.length_eq,zxf h]
set_option maxHeartbeats 1000000 in
theorem z10c {P:Program} {f T:Nat}
  (hnone:∀ (cap:Nat) (w:World),Calls P f #[.slice none 0 cap] w fun e w'=>e=.returned (.tuple #[])∧w'=w)
  (hsome:∀ (blk cap:Nat) (d:List (List UInt8)) (w:World),Holds encStr w blk 0 d.toArray→blk<w.heap.size→d.length<4611686018427387904 →
   Calls P f #[.slice (some ⟨blk,0,none⟩) d.length cap] w fun e w'=>e=.returned (.tuple #[])∧∃ n os,w'=grow (putRow encStr (Sort.ahead w n) blk 0 (zue d).toArray) os)
  (p0:Value) (c0:List (List UInt8)):z1t P f [.val p0] [(1,some (p0,.list zb4 T c0))] (zq3 c0) (fun r nv=>⟨[],[(1,some (p0,.list zb4 T r))]⟩):=by
 intro r hr H vs w hvs hres
 have hb:c0.length≤1000000∧r=zue c0:=by
  unfold zq3 chk at hr
  split at hr
  ·
   rename_i h; simp at hr; exact ⟨h,hr.symm⟩
  ·
   simp at hr
 obtain ⟨hlen0,rfl⟩:=hb
 match vs,hvs with
 | [v0],hvs =>
 obtain ⟨h0,_⟩:=hvs
 have e0:v0=p0:=h0.1
 subst e0
 have hc:=hres.conts 1 v0 _ rfl
 have only:∀ r v c (q:z4b),lr [(1,some (v0,q))] r=some (v,c)→r=1∧v=v0∧c=q:=fun r v c q h=>by
  rw [z16] at h
  split at h
  ·
   rename_i e; cases h; exact ⟨e.symm,rfl,rfl⟩
  ·
   simp [lr,lk] at h
 rcases hc with ⟨rfl,rfl⟩ | ⟨b,o,k1,k2,b',cap,C,k3,rfl,k4,k5,k6,k7⟩
 ·
  refine (hnone 0 w).mono fun e w' ⟨he,hw⟩=>?_
  subst hw
  refine ⟨fun _=>undef,[],he,trivial, fun r v c h=>?_, fun r v c r' v' c' h h' hne=>?_, fun r v c h b hb=>?_,zm6.rfl'⟩
  ·
   obtain ⟨rfl,rfl,rfl⟩:=only _ _ _ _ h
   exact .inl ⟨rfl,List.eq_nil_of_length_eq_zero (by rw [zmp]; rfl)⟩
  ·
   exact absurd ((only _ _ _ _ h).1.trans (only _ _ _ _ h').1.symm) hne
  ·
   obtain ⟨rfl,rfl,rfl⟩:=only _ _ _ _ h; cases hb
 ·
  subst k3
  simp only [z5b,Option.some.injEq] at k1
  subst k1
  have hlt:b'<w.heap.size:=(Array.getElem?_eq_some_iff.1 k2).1
  have hrow:=zr9 k7
  have hsz:zb4.sz=1:=rfl
  rw [hsz,Nat.mul_one] at k6 hrow
  refine (hsome b' cap c0 w (zwx c0 k2 hrow) hlt (by omega)).mono fun e w' ⟨he,n,os,hw⟩=>?_
  subst hw
  refine ⟨fun _=>undef,[],he,trivial, fun r v c h=>?_, fun r v c r' v' c' h h' hne=>?_, fun r v c h b hb=>?_,rfl,rfl,rfl,?_, fun i hi=>?_⟩
  ·
   obtain ⟨rfl,rfl,rfl⟩:=only _ _ _ _ h
   refine .inr ⟨b',.cells (putCells encStr 0 (zue c0).toArray C) T (0,0),rfl,?_,b',cap,_, by rw [zmp],rfl, by rw [zmp]; exact k4,k5,?_,?_⟩
   ·
    show (w.heap.modify b' _++os)[b']? = _
    rw [Array.getElem?_append_left (by simpa using hlt),Array.getElem?_modify,if_pos rfl,k2]
    rfl
   ·
    rw [hsz,Nat.mul_one,← k6]; simp [putCells]
   ·
    rw [hsz,Nat.mul_one,z12t (zue c0) C (by rw [zmp]; omega)]
    exact zsw _
  ·
   exact absurd ((only _ _ _ _ h).1.trans (only _ _ _ _ h').1.symm) hne
  ·
   obtain ⟨rfl,rfl,rfl⟩:=only _ _ _ _ h
   exact .inr ⟨1,_,_,rfl,hb⟩
  ·
   show w.heap.size≤(w.heap.modify b' _++os).size
   simp
  ·
   show (w.heap.modify b' _++os)[i]? = _
   rw [Array.getElem?_append_left (by simpa using hi.1),Array.getElem?_modify,if_neg (fun e=>hi.2 ⟨1,_,_,rfl, by rw [← e]; rfl⟩)]
theorem z12e (p0:Value) (c0:List (List UInt8)):z1t Tryz.prog 63 [.val p0] [(1,some (p0,.list zb4 9 c0))] (zq3 c0) (fun r nv=>⟨[],[(1,some (p0,.list zb4 9 r))]⟩) :=
 z10c (fun cap w=>Any.slices_Sort_string_none z158 none cap w) (fun blk cap d w hH hb hs=>Any.slices_Sort_string z158 blk 0 cap d w hH hb hs) p0 c0
end
section
open Go Go.RowKit
section
variable {κ β:Type} [DecidableEq κ] {RK:Rep κ} {RV:Rep β}
theorem zrp (k:κ) (x y:β):∀ m:List (κ × β),zbr (zbr m k x) k y=zbr m k y
 | []=>by simp [zbr]
 | p::m=>by
  by_cases h:k=p.1
  ·
   have e1:zbr (p::m) k x=(p.1,x)::m:=if_pos h
   have e2:zbr (p::m) k y=(p.1,y)::m:=if_pos h
   have e3:zbr ((p.1,x)::m) k y=(p.1,y)::m:=if_pos h
   rw [e1,e2,e3]
  ·
   have e1:zbr (p::m) k x=p::zbr m k x:=if_neg h
   have e2:zbr (p::m) k y=p::zbr m k y:=if_neg h
   have e3:zbr (p::zbr m k x) k y=p::zbr (zbr m k x) k y:=if_neg h
   rw [e1,e2,e3,zrp k x y m]
theorem zsp {k:κ} {x:β}:∀ {m:List (κ × β)},z3q m k=some x→zbr m k x=m
 | [],h=>by cases h
 | p::m,h=>by
  unfold z3q at h
  unfold zbr
  by_cases hk:k=p.1
  ·
   rw [if_pos hk] at h ⊢
   cases h; rfl
  ·
   rw [if_neg hk] at h ⊢
   rw [zsp h]
theorem zvp (k:κ) (x:β):∀ m:List (κ × β),z3q (zbr m k x) k=some x
 | []=>by simp [zbr,z3q]
 | p::m=>by
  unfold zbr
  by_cases h:k=p.1
  ·
   rw [if_pos h]; simp [z3q,h]
  ·
   rw [if_neg h]; simp [z3q,h,zvp k x m]
theorem zuw {k:κ} {z:β} {e:MapEntry} {S:Blk} {w:World}:∀ {es:List MapEntry} {m:List (κ × β)} {i:Nat},zhs RK RV S w es m→fnd k es m i=none→fnd k (es++[e]) (m++[(k,z)]) i=some (i+es.length,e.val)
 | [],[],i,_,_=>by simp [fnd]
 | e0::es,p::m,i,h,h0=>by
  simp only [fnd] at h0
  split at h0
  ·
   cases h0
  ·
   rename_i hk
   simp only [List.cons_append,fnd,if_neg hk]
   rw [zuw h.2 h0,List.length_cons]
   congr 2
   omega
 | [],_::_,_,h,_=>h.elim
 | _::_,[],_,h,_=>h.elim
def z4b.mapP (RK:Rep κ) (RV:Rep β) (m:List (κ × β)) (k:κ) (z:β) (born:Nat):z4b where
 nil _ _ _:=False
 nilm _ h:=h
 nilb h:=h.elim
 rel S w v o:=∃ b es clock i u e,v=.map (some b)∧o=.map es clock∧zhs RK RV S w es.toList (zbr m k z)∧zvj es.toList clock∧fnd k es.toList (zbr m k z) 0=some (i,u)∧es.toList[i]? = some e∧e.born=born
 mono k h:=by obtain ⟨b,es,clock,i,u,e,h1,h2,h3,h4⟩:=h; exact ⟨b,es,clock,i,u,e,h1,h2,h3.mono k,h4⟩
theorem zsz {m:List (κ × β)} {k:κ} {z:β} {born:Nat} {S:Blk} {w:World} {v:Value} (h:(z4b.mapP RK RV m k z born).holds S w v):∃ b es clock i u e,v=.map (some b)∧w.heap[b]? = some (.map es clock)∧zhs RK RV S w es.toList (zbr m k z)∧zvj es.toList clock∧fnd k es.toList (zbr m k z) 0=some (i,u)∧es.toList[i]? = some e∧e.born=born:=by
 rcases h with h | ⟨b,o,h1,h2,b',es,clock,i,u,e,rfl,rfl,h3⟩
 ·
  exact h.elim
 ·
  simp only [z5b,Option.some.injEq] at h1
  subst h1
  exact ⟨_,es,clock,i,u,e,rfl,h2,h3⟩
theorem zqr {es:Array MapEntry} {i:Nat} {e:MapEntry} (hn:(es.toList.map (·.born)).Nodup) (h:es.toList[i]? = some e):es.findIdx? (fun x=>(x.born:Int)==(e.born:Int))=some i:=by
 obtain ⟨hi,he⟩:=List.getElem?_eq_some_iff.1 h
 rw [Array.findIdx?_eq_some_iff_getElem]
 have he':es[i]'(by simpa using hi)=e:=by rw [← Array.getElem_toList]; exact he
 refine ⟨by simpa using hi, by rw [he']; simp, fun j hj=>?_⟩
 have hp:=List.pairwise_iff_getElem.1 hn j i (by rw [List.length_map]; omega) (by rw [List.length_map]; exact hi) hj
 simp only [List.getElem_map] at hp
 rw [he] at hp
 simp only [beq_iff_eq,Int.natCast_inj]
 simpa using hp
end
section
variable {ρ:Type} {P:Program} {Γ:Ctx} {l l0:z1i} {res res0:Res} {ws:List Nat} {m m1 m2:Option ρ} {os:List Oper} {N:ρ→Exit→Act→World→Prop}
 {d:Tmp} {op:Op} {ty:TypeId} {pos:String} {after:Array Edge} {g:Option (Nat × Bool)} {fuel i:Nat} {listed listed':Array Bool} {rest:List Oper}
def EffE (P:Program) (Γ:Ctx) (l:z1i) (res:Res) (o:Oper) (r:Nat) (v0:Value) (e:Nat→Ent) (c:Nat→z4b):Prop:=∀ a w,Sta Γ l res a w →
 ∃ w' v n,(execOp a.eval o).run P w=.ok (.value v) w'∧(Sta Γ l ((r,some (v0,c n))::res) a w'∧zah (Shr Γ.H res w) (Shr Γ.H ((r,some (v0,c n))::res) w') w w')∧Grew res r w w'∧(e n).holds (Shr Γ.H ((r,some (v0,c n))::res) w') w' v
theorem oDoE {r:Nat} {e:Nat→Ent} {v0:Value} {c:Nat→z4b} {c0:z4b} (i:Nat) (hi:os.toArray[i]? = some ⟨some d,op,ty,pos,after,g⟩) (hg:Grd os l ⟨some d,op,ty,pos,after,g⟩ true) (hn:Nat.blt d Γ.n=true) (hl:listed.setIfInBounds i true=listed') (hw:ws.contains r=true) (hv:lr res r=some (v0,c0))
  (he:EffE P Γ l res ⟨some d,op,ty,pos,after,g⟩ r v0 e c) (k:∀ n,GH P os Γ ((d,.junk)::l0) res0 ws ((d,e n)::l) ((r,some (v0,c n))::res) N fuel listed' m):GO P os Γ l0 res0 ws l res N fuel listed i m:=fun a w0 w ha ρ' hm=>by
 obtain ⟨w',v,n,h1,h2,h3,h4⟩:=he a w ha.s
 have hgw:=hg.wanted ha.s
 unfold wpOp
 simp only [hi,hgw,if_true]
 refine .inl ?_
 unfold Oper.wp; rw [h1]
 have hS:=ha.grew hw h2 h3 (fun b hb=>.inl ⟨v0,c0,hv,hb⟩)
 refine ⟨hS.cw,?_⟩
 rw [hl]
 exact k n _ w0 w' (hS.put hn trivial h4) ρ' hm
theorem hDoE {r:Nat} {e:Nat→Ent} {v0:Value} {c:Nat→z4b} {c0:z4b} (i:Nat) (hi:os.toArray[i]? = some ⟨some d,op,ty,pos,after,g⟩) (hr:Region.ready .any os.toArray listed=[i]) (hg:Grd os l ⟨some d,op,ty,pos,after,g⟩ true) (hn:Nat.blt d Γ.n=true) (hl:listed.setIfInBounds i true=listed') (hw:ws.contains r=true) (hv:lr res r=some (v0,c0))
  (he:EffE P Γ l res ⟨some d,op,ty,pos,after,g⟩ r v0 e c) (k:∀ n,GH P os Γ ((d,.junk)::l0) res0 ws ((d,e n)::l) ((r,some (v0,c n))::res) N fuel listed' m):GH P os Γ l0 res0 ws l res N (fuel+1) listed m :=
 hAlt [i] hr rfl ⟨oDoE i hi hg hn hl hw hv he k,trivial⟩
variable {κ β:Type} [DecidableEq κ] {RK:Rep κ} {RV:Rep β} {mm:List (κ × β)} {x y s:Operand} {v:Value} {k:κ} {x0 b0:β} {T K V:TypeId} {n by_:Nat} {z:Value}
theorem men (r:Nat) (hx:opE l x=some (.val v)) (hr:lr res r=some (v,.map RK RV mm)) (hy:opE l y=some (.rd RK k)) (hK:zmi P K RK n) (hT:P.underlying T=some (.map K V)) (hV:TI P V z RV.sz by_) (hz:Zr RV z.cells.toList x0) (hzv:z=RV.val z.cells.toList) :
  EffE P Γ l res ⟨some d,.mapEntry T x y,ty,pos,after,g⟩ r v (fun n=>.tup [.rd RV ((z3q mm k).getD x0),.rd z0c (n:Int)]) (fun n=>.mapP RK RV mm k ((z3q mm k).getD x0) n):=fun a w ha=>by
 have e1:=(ha.vl hx).1
 obtain ⟨bk,es,clock,rfl,h1,h2,h3⟩:=zml (ha.conts r v _ hr)
 have hy1:=ha.vl hy
 obtain ⟨cs,hk1,hk2⟩:=hy1
 have hck:=hK.chk hk1 10000 (Nat.le_of_ble_eq_true hK.deep) false w
 rw [← hk2] at hck
 have hf:=zmo hK ⟨cs,hk1,hk2⟩ w h2
 have hbi:=hK.bits hk1 10000 (Nat.le_of_ble_eq_true hK.deep)
 rw [← hk2] at hbi
 have hlt:bk<w.heap.size:=(Array.getElem?_eq_some_iff.1 h1).1
 cases hq:fnd k es.toList mm 0 with
 | none =>
  obtain ⟨q1,q2,-⟩:=zmc h2 hq
  have hu:=ha.upd r (v:=.map (some bk)) (c:=.mapP RK RV mm k ((z3q mm k).getD x0) clock) (w':={ w with heap:=w.heap.setIfInBounds bk (.map (es.push { key:=a.eval y,val:=z,born:=clock }) (clock+1)) }) za5 (fun bb hbb=>⟨_,_,hr, by cases hbb; rfl⟩) (fun bb hbb=>.inl ⟨_,_,hr,hbb⟩)
   (fun S' k'=>.inr ⟨bk,_,rfl, by simp [hlt],bk,es.push { key:=a.eval y,val:=z,born:=clock },clock+1,es.toList.length,z,{ key:=a.eval y,val:=z,born:=clock },rfl,rfl, by
    rw [q2,Array.toList_push]
    refine (h2.mono k').push (Rep.vrel.mono ⟨cs,hk1,hk2⟩ k') ?_
    rw [q1]; exact ⟨_,hz _ _,hzv⟩, by rw [Array.toList_push]; exact h3.push rfl, by rw [q2,Array.toList_push,zuw h2 hq,Nat.zero_add], by rw [Array.toList_push]; simp,rfl⟩)
  refine ⟨_,.tuple #[z,.int .i64 (clock:Int)],clock,?_,hu,⟨some bk,za5, fun bb hbb=>⟨_,_,hr, by cases hbb; rfl⟩⟩,⟨[z,.int .i64 (clock:Int)],⟨?_,z7s,trivial⟩,rfl⟩⟩
  ·
   have:(Instr.mapEntry T (a.eval x) (a.eval y)).run P w=.ok (.tuple #[z,.int .i64 (clock:Int)]) { w with heap:=w.heap.setIfInBounds bk (.map (es.push { key:=a.eval y,val:=z,born:=clock }) (clock+1)) }:=by
    rw [e1]
    unfold Instr.mapEntry
    simp only [Sem.run_bind,run_underlying hT,Result.andThen,MapKept.run_getObj_map h1,hck,hf,hq,zd9 hV,MapKept.run_setObj_map _ h1,Sem.run_pure,goInt]
   simp [execOp,this]
  ·
   rw [q1]; exact ⟨_,hz _ _,hzv⟩
 | some ju =>
  obtain ⟨j,u⟩:=ju
  obtain ⟨-,e,x1,q1,q2,q3,q4,q5,q6,q7⟩:=zh2 h2 hq
  simp only [Nat.sub_zero] at q1 q6
  have hj:es[j]? = some e:=by rw [← Array.getElem?_toList]; exact q1
  have hkey:e.key=a.eval y:=by
   obtain ⟨cs',h4,h5⟩:=q5
   rw [h5,hk2,hK.one h4 hk1]
  have hsame:Instr.sameBits 10000 e.key (a.eval y)=true:=by rw [hkey]; exact hbi
  have hmod:es.modify j (fun e=>{ e with key:=a.eval y })=es:=by
   apply Array.toList_inj.1
   rw [Array.toList_modify]
   apply List.ext_getElem?
   intro i
   simp only [List.getElem?_modify]
   by_cases hi:j=i
   ·
    subst hi
    rw [q1]
    show some (if j=j then _ else _)=_
    rw [if_pos rfl,← hkey]
   ·
    simp [hi]
  have hself:zbr mm k x1=mm:=zsp q3
  have hu:=ha.upd r (v:=.map (some bk)) (c:=.mapP RK RV mm k ((z3q mm k).getD x0) e.born) (w':={ w with heap:=w.heap.setIfInBounds bk (.map es clock) }) za5 (fun bb hbb=>⟨_,_,hr, by cases hbb; rfl⟩) (fun bb hbb=>.inl ⟨_,_,hr,hbb⟩)
   (fun S' k'=>.inr ⟨bk,_,rfl, by simp [hlt],bk,es,clock,j,u,e,rfl,rfl, by rw [q3]; show zhs RK RV S' _ es.toList (zbr mm k x1); rw [hself]; exact h2.mono k',h3, by rw [q3]; show fnd k es.toList (zbr mm k x1) 0=_; rw [hself]; exact hq,q1,rfl⟩)
  refine ⟨_,.tuple #[u,.int .i64 (e.born:Int)],e.born,?_,hu,⟨some bk,za5, fun bb hbb=>⟨_,_,hr, by cases hbb; rfl⟩⟩,⟨[u,.int .i64 (e.born:Int)],⟨?_,z7s,trivial⟩,rfl⟩⟩
  ·
   have:(Instr.mapEntry T (a.eval x) (a.eval y)).run P w=.ok (.tuple #[u,.int .i64 (e.born:Int)]) { w with heap:=w.heap.setIfInBounds bk (.map es clock) }:=by
    rw [e1]
    unfold Instr.mapEntry
    simp only [Sem.run_bind,run_underlying hT,Result.andThen,MapKept.run_getObj_map h1,hck,hf,hq,hj,Option.map_some,Option.getD_some,Instr.keyThatStays,hsame,if_true,Sem.run_pure,goInt]
    rw [hmod,MapKept.run_setObj_map _ h1]
   simp [execOp,this]
  ·
   have hq4:RV.vrel (Shr Γ.H res w) w u ((z3q mm k).getD x0):=by rw [q3,← q2]; exact q4
   exact Rep.vrel.mono hq4 hu.2
theorem ens {T:TypeId} (r:Nat) (hx:opE l x=some (.val v)) (hr:lr res r=some (v,.mapP RK RV mm k x0 n)) (hs:opE l s=some (.rd z0c (n:Int))) (hy:opE l y=some (.rd RV b0)) :
  EffS P Γ l res ⟨none,.entryStore T x s y,ty,pos,after,g⟩ r (v,.map RK RV (zbr mm k b0)):=fun a w ha=>by
 have e1:=(ha.vl hx).1
 have e2:a.eval s=.int .i64 (n:Int):=z4s (ha.vl hs)
 have e3:(asInt (.int .i64 (n:Int))).run P w=.ok (n:Int) w:=rfl
 obtain ⟨bk,es,clock,i,u,e,rfl,h1,h2,h3,h4,h5,h6⟩:=zsz (ha.conts r v _ hr)
 have hy1:=ha.vl hy
 have hlt:bk<w.heap.size:=(Array.getElem?_eq_some_iff.1 h1).1
 obtain ⟨-,e',x1,q1,q2,q3,q4,q5,q6,q7⟩:=zh2 h2 h4
 simp only [Nat.sub_zero] at q6
 have hfi:=zqr h3.1 h5
 rw [h6] at hfi
 refine ⟨{ w with heap:=w.heap.setIfInBounds bk (.map (es.modify i fun e=>{ e with val:=a.eval y }) clock) },?_,?_,some bk,za5, fun bb hbb=>⟨_,_,hr, by cases hbb; rfl⟩⟩
 ·
  have:(Instr.entryStore T (a.eval x) (a.eval s) (a.eval y)).run P w=.ok () { w with heap:=w.heap.setIfInBounds bk (.map (es.modify i fun e=>{ e with val:=a.eval y }) clock) }:=by
   rw [e1,e2]
   unfold Instr.entryStore
   simp only [Sem.run_bind,Result.andThen,MapKept.run_getObj_map h1,e3,Sem.run_pure,hfi,MapKept.run_setObj_map _ h1]
  simp [execOp,this]
 ·
  refine ha.upd r (v:=.map (some bk)) za5 (fun bb hbb=>⟨_,_,hr, by cases hbb; rfl⟩) (fun bb hbb=>.inl ⟨_,_,hr,hbb⟩) (fun S' k'=>zjp (es:=es.modify i fun e=>{ e with val:=a.eval y }) (clock:=clock) (by simp [hlt]) ?_ ?_)
  ·
   rw [Array.toList_modify,← zrp k x0 b0 mm]
   exact q6 S' _ _ b0 k' (Rep.vrel.mono hy1 k')
  ·
   rw [Array.toList_modify]; exact h3.modify (fun _=>rfl)
theorem mlkP {n':Nat} (r:Nat) (hx:opE l x=some (.val v)) (hr:lr res r=some (v,.mapP RK RV mm k x0 n')) (hy:opE l y=some (.rd RK k)) (hK:zmi P K RK n) (hT:P.underlying T=some (.map K V)) :
  Run Eq P Γ l res ⟨some d,.lookup T x y false,ty,pos,after,g⟩ (.rd RV x0):=fun a w ha=>by
 have e1:=(ha.vl hx).1
 obtain ⟨bk,es,clock,i,u,e,rfl,h1,h2,h3,h4,h5,h6⟩:=zsz (ha.conts r v _ hr)
 obtain ⟨cs,hk1,hk2⟩:=ha.vl hy
 have hck:=fun em w'=>hK.chk hk1 10000 (Nat.le_of_ble_eq_true hK.deep) em w'
 rw [← hk2] at hck
 have hf:=fun w'=>zmo hK ⟨cs,hk1,hk2⟩ w' h2
 obtain ⟨-,e',x1,q1,q2,q3,q4,q5,q6,q7⟩:=zh2 h2 h4
 have hx1:x1=x0:=by rw [zvp] at q3; exact (Option.some.inj q3).symm
 subst hx1
 refine ⟨u, fun w' hw'=>?_, by rw [← q2]; exact q4⟩
 subst hw'
 have:(Instr.lookup T (a.eval x) (a.eval y) false).run P w=.ok u w:=by
  rw [e1]
  unfold Instr.lookup
  simp only [Sem.run_bind,run_underlying hT,Result.andThen,MapKept.run_getObj_map h1,Sem.run_pure,hck,hf,h4]
  rfl
 simp [execOp,this]
end
end
section
open Go Go.RowKit
set_option maxRecDepth 100000
def z4q (a0:List z00) (s2:Int):Option (Sum (Sum Bool Unit) Int) :=
 if decide (s2<(a0.length:Int)) then
  if decide (s2≤10) then
   idx a0 s2 >>= fun x5 =>
   zau x5 >>= fun r7 =>
   if r7 then
    some (.inl (.inl true))
   else
    some (.inr (w64 (s2+1)))
  else
   some (.inl (.inr ()))
 else
  some (.inl (.inr ()))
def zaw (a0:List z00):Option (Bool) :=
 z4y (iter (z4q a0) 0) fun s1 =>
 some (decide (10<(a0.length:Int))) >>= fun y10 =>
 some y10
theorem zic (a0:List z00):z1t Tryz.prog 9 [.rd (z02 z01) a0] [] (zaw a0) (fun r nv=>⟨[.rd z0d r],[]⟩):=by
 refine z2p 22 Tryz.func9 Z Z Z fun H w=>?_
 refine gSR<|Zb Z<|z7b (fun (s1:Unit) aa ww=>Sta (ctx 22 H [] w) [(0,.rd (z02 z01) a0)] [] aa ww) ?_ (fun s1=>?_)
 ·
  refine gSR<|Zb Z<|z1w (fun (s2:Int) aa ww=>Sta (ctx 22 H [] w) [(0,.rd (z02 z01) a0),(3,.rd z0c s2)] [] aa ww) (fun aa ww h=>Zu h []) (fun s2=>?_)
  refine z0s<|gSR<|Zm Z<|Zm Z<|Zq (z3s Z .rd Z tu22)<|Zq (I.lss Z Z)<|Zm Z<|z1p 8 Z (fun h3=>?_) (fun h3=>?_)
  ·
   refine lKn 7 Z h3<|z18 Zx Z Z (mv Z)<|z18 Zx Z Z (I.leq Z Z)<|Zq (pkT Z Z)<|Zj Z (fun h4=>?_) (fun h4=>?_)
   ·
    refine gKn 10 Z h4<|Zt<|z0s<|z4w<|gSR<|Zm Z<|Zm Z<|z0u fun x5 h6=>Zq (ixR Z Z h6 tu22 z7e Z)<|Zq (ldR Z zb2)<|Zc [] [] Tryz.func45 Z (zj3 _) fun r7 n8=>Zj Z (fun h9=>?_) (fun h9=>?_)
    ·
     refine gSR<|Zb Z<|z0l<|z3x<|z0w<|z6q<|z5w<|Ze [] [] Z
    ·
     refine z2u<|z38<|z0k<|z28<|Zm Z<|Zq (I.add Z Z)<|Za Z<|z1s<|z1g (fun aa ww h=>Zu h [])
   ·
    refine gKn 10 Z h4<|z1r<|z0x<|z10<|z5p (fun aa ww h=>Zu h [])
  ·
   refine lKn 7 Z h3<|Zk Z<|Zk Z<|Zq (pkF Z Z)<|Zn<|zeh Z<|z1r<|z0x<|z10<|z5p (fun aa ww h=>Zu h [])
 ·
  refine gSR<|Zm Z<|Zq (z3s Z .rd Z tu22)<|Zq (I.gtr Z Z)<|Za Z<|z1x 2 Z fun y10=>Zn<|z0l<|Ze [] [] Z
def z20 (a0:List V3) (a1:List V3) (s3:Int):Option (Sum (Sum Bool Unit) Int) :=
 if decide (s3<(a0.length:Int)) then
  idx a0 s3 >>= fun x5 =>
  idx a1 s3 >>= fun x7 =>
  if !decide (x5=x7) then
   some (.inl (.inl false))
  else
   some (.inr (w64 (s3+1)))
 else
  some (.inl (.inr ()))
def z1z (a0:List V3) (a1:List V3):Option (Bool) :=
 if (a0.length:Int) != (a1.length:Int) then
  some false
 else
  z4y (iter (z20 a0 a1) 0) fun s2 =>
  some true
theorem z8p (a0:List V3) (a1:List V3):z1t Tryz.prog 47 [.rd (z02 aZ) a0,.rd (z02 aZ) a1] [] (z1z a0 a1) (fun r nv=>⟨[.rd z0d r],[]⟩):=by
 refine z2p 26 Tryz.func47 Z Z Z fun H w=>?_
 refine gSR<|Zb Z<|z0s<|gSR<|Zm Z<|Zq (z3s Z .rd Z tu24)<|Zm Z<|Zq (z3s Z .rd Z tu24)<|Zq (I.neq Z Z)<|Zj Z (fun h1=>?_) (fun h1=>?_)
 ·
  refine gSR<|Zb Z<|z0l<|z0w<|Ze [] [] Z
 ·
  refine Zt<|z7b (fun (s2:Unit) aa ww=>Sta (ctx 26 H [] w) [] [] aa ww) ?_ (fun s2=>?_)
  ·
   refine gSR<|Zm Z<|Zq (z3s Z .rd Z tu24)<|Zm Z<|Zn<|z1w (fun (s3:Int) aa ww=>Sta (ctx 26 H [] w) [(0,.rd (z02 aZ) a0),(1,.rd (z02 aZ) a1),(12,.rd z0c (a0.length:Int)),(13,.rd z0c s3)] [] aa ww) (fun aa ww h=>Zu h []) (fun s3=>?_)
   refine gSR<|Zq (I.lss Z Z)<|Zn<|z0s<|gIf Z Z (fun h4=>?_) (fun h4=>?_)
   ·
    refine Zt<|z0s<|z4w<|gSR<|Zm Z<|Zb Z<|z0s<|zit mixed (by kernel_rfl)<|Rq Z (mv Z)<|Rq Z (mv Z)<|z8f fun x5 h6=>Rq Z (ixR Z Z h6 tu24 z33 Z)<|Rq Z (ldR Z z4x)<|Rq Z (mv Z)<|Rq Z (mv Z)<|z8f fun x7 h8=>Rq Z (ixR Z Z h8 tu24 z33 Z)<|Rq Z (ldR Z z4x)<|Rq Z (neA Z Z eq78 Z Z gq78)<|ztz<|z0k<|gIf Z Z (fun h9=>?_) (fun h9=>?_)
    ·
     refine gSR<|Zb Z<|z0l<|z3x<|z0w<|z6q<|z5w<|Ze [] [] Z
    ·
     refine z2u<|z38<|z0k<|z28<|Zq (I.add Z Z)<|Zm Z<|z1s<|z1g (fun aa ww h=>Zu h [])
   ·
    refine z1r<|z0x<|z10<|z5p (fun aa ww h=>Zu h [])
  ·
   refine gSR<|Zb Z<|z0l<|Ze [] [] Z
def z9v (a0:z05) (a1:z05):Option (Bool) :=
 if a0.Author==a1.Author then
  if a0.Stamp==a1.Stamp then
   if decide (a0.Act=a1.Act) then
    if decide (a0.Sig=a1.Sig) then
     z1z a0.Preds a1.Preds >>= fun r7 =>
     some r7
    else
     some false
   else
    some false
  else
   some false
 else
  some false
theorem zlw (a0:z05) (a1:z05):z1t Tryz.prog 61 [.rd z04 a0,.rd z04 a1] [] (z9v a0 a1) (fun r nv=>⟨[.rd z0d r],[]⟩):=by
 refine z2p 38 Tryz.func61 Z Z Z fun H w=>?_
 refine gSR<|Eb Z (bx 1 Z) fun v1=>Eb Z (bx 2 Z) fun v2=>Zb Z<|gSR<|Zq (faB 1 Z Z Tryz.underlying72 Z (by exact z5u))<|Zq (ld 1 Z Z (fP (z2z _)) z92 Z)<|Zq (faB 2 Z Z Tryz.underlying72 Z (by exact z5u))<|Zq (ld 2 Z Z (fP (z2z _)) z92 Z)<|Zq (W.eql Z Z)<|Zm Z<|z1p 10 Z (fun h3=>?_) (fun h3=>?_)
 ·
  refine lKn 9 Z h3<|z18 Zx Z Z (faB 1 Z Z Tryz.underlying72 Z (by exact zq6))<|z18 Zx Z Z (ld 1 Z Z (fP (z2i _)) zpd Z)<|z18 Zx Z Z (faB 2 Z Z Tryz.underlying72 Z (by exact zq6))<|z18 Zx Z Z (ld 2 Z Z (fP (z2i _)) zpd Z)<|z18 Zx Z Z (U.eql Z Z)<|Zq (pkT Z Z)<|Zm Z<|z1p 17 Z (fun h4=>?_) (fun h4=>?_)
  ·
   refine lKn 15 Z h4<|lKn 16 Z h4<|z18 Zx Z Z (faB 1 Z Z Tryz.underlying72 Z (by exact zgd))<|z18 Zx Z Z (ld 1 Z Z (fP (z11 _)) ty64 Z)<|z18 Zx Z Z (faB 2 Z Z Tryz.underlying72 Z (by exact zgd))<|z18 Zx Z Z (ld 2 Z Z (fP (z11 _)) ty64 Z)<|z18 Zx Z Z (eqA Z Z eq64 Z Z gq64)<|Zq (pkT Z Z)<|Zm Z<|z1p 24 Z (fun h5=>?_) (fun h5=>?_)
   ·
    refine lKn 22 Z h5<|lKn 23 Z h5<|z18 Zx Z Z (faB 1 Z Z Tryz.underlying72 Z (by exact zm3))<|z18 Zx Z Z (ld 1 Z Z (fP (z2g _)) ty70 Z)<|z18 Zx Z Z (faB 2 Z Z Tryz.underlying72 Z (by exact zm3))<|z18 Zx Z Z (ld 2 Z Z (fP (z2g _)) ty70 Z)<|z18 Zx Z Z (eqA Z Z eq70 Z Z gq70)<|Zq (pkT Z Z)<|Zm Z<|z1p 31 Z (fun h6=>?_) (fun h6=>?_)
    ·
     refine lKn 29 Z h6<|lKn 30 Z h6<|z18 Zx Z Z (faB 1 Z Z Tryz.underlying72 Z (by exact z6b))<|z18 Zx Z Z (ld 1 Z Z (fP (z0t _)) z8l Z)<|z18 Zx Z Z (faB 2 Z Z Tryz.underlying72 Z (by exact z6b))<|z18 Zx Z Z (ld 2 Z Z (fP (z0t _)) z8l Z)<|zgy [] [] Zx Z Tryz.func47 Z Z (z8p _ _) (Y2 Z Z) rN fun r7 n8=>Zq (pkT Z Z)<|Zb Z<|z0l<|Ze [] [] Z
    ·
     refine lKn 29 Z h6<|lKn 30 Z h6<|Zk Z<|Zk Z<|Zk Z<|Zk Z<|Zk Z<|Zq (pkF Z Z)<|Zb Z<|z0l<|Ze [] [] Z
   ·
    refine lKn 22 Z h5<|lKn 23 Z h5<|Zk Z<|Zk Z<|Zk Z<|Zk Z<|Zk Z<|Zq (pkF Z Z)<|Zm Z<|Zk Z<|Zk Z<|Zk Z<|Zk Z<|Zk Z<|Zq (pkF Z Z)<|Zb Z<|z0l<|Ze [] [] Z
  ·
   refine lKn 15 Z h4<|lKn 16 Z h4<|Zk Z<|Zk Z<|Zk Z<|Zk Z<|Zk Z<|Zq (pkF Z Z)<|Zm Z<|Zk Z<|Zk Z<|Zk Z<|Zk Z<|Zk Z<|Zq (pkF Z Z)<|Zm Z<|Zk Z<|Zk Z<|Zk Z<|Zk Z<|Zk Z<|Zq (pkF Z Z)<|Zb Z<|z0l<|Ze [] [] Z
 ·
  refine lKn 9 Z h3<|Zk Z<|Zk Z<|Zk Z<|Zk Z<|Zk Z<|Zq (pkF Z Z)<|Zm Z<|Zk Z<|Zk Z<|Zk Z<|Zk Z<|Zk Z<|Zq (pkF Z Z)<|Zm Z<|Zk Z<|Zk Z<|Zk Z<|Zk Z<|Zk Z<|Zq (pkF Z Z)<|Zm Z<|Zk Z<|Zk Z<|Zk Z<|Zk Z<|Zk Z<|Zq (pkF Z Z)<|Zb Z<|z0l<|Ze [] [] Z
def z5v (a0:List z00) (s3:Int):Option (Sum (Sum Int Unit) Int) :=
 if decide (s3<(a0.length:Int)) then
  idx a0 s3 >>= fun x5 =>
  z5g x5 >>= fun r8 =>
  if r8 != 0 then
   some (.inl (.inl r8))
  else
   some (.inr (w64 (s3+1)))
 else
  some (.inl (.inr ()))
def z4o (x16:z00) (s19:(List (V3 × z05)) × Int):Option (Sum (Sum (Sum (Sum Int Unit) ((List (V3 × z05)) × Int)) ((List (V3 × z05)))) ((List (V3 × z05)) × Int)) :=
 if decide (s19.2<(x16.IDs.length:Int)) then
  idx x16.IDs s19.2 >>= fun x21 =>
  z4y (some ((z3q s19.1 x21).isSome) >>= fun y26 =>
  if y26 then
   idx x16.Ops s19.2 >>= fun x28 =>
   z9v ((z3q s19.1 x21).getD (⟨0,[],0,(⟨0,[],(⟨0,0,0,[]⟩:z03)⟩:z07),(⟨0,0⟩:z08)⟩:z05)) x28 >>= fun r30 =>
   if !r30 then
    some (.inl (.inl (.inl (.inl (.inl 14)))))
   else
    some (.inr ())
  else
   some (.inr ())) fun s24 =>
  idx x16.Ops s19.2 >>= fun x33 =>
  some (.inr (zbr s19.1 x21 x33,w64 (s19.2+1)))
 else
  some (.inl (.inr s19.1))
def z7x (a0:List z00) (s13:(List (V3 × z05)) × Int):Option (Sum (Sum Int Unit) ((List (V3 × z05)) × Int)) :=
 if decide (s13.2<(a0.length:Int)) then
  z4y (idx a0 s13.2 >>= fun x16 =>
  iter (z4o x16) (s13.1,0)) fun s15 =>
  some (.inr (s15,w64 (s13.2+1)))
 else
  some (.inl (.inr ()))
def z4t (a0:List z00):Option (Int) :=
 if decide (5<(a0.length:Int)) then
  some 4
 else
  z4y (iter (z5v a0) 0) fun s2 =>
  z4y (iter (z7x a0) (([]:List (V3 × z05)),0)) fun s12 =>
  some 0
theorem zc6 (a0:List z00):z1t Tryz.prog 20 [.rd (z02 z01) a0] [zG1] (z4t a0) (fun r nv=>⟨[.rd z0c r],[(1001,some (.bool true,.glob 1 (z3m 64 z0n) z5x))]⟩):=by
 refine z2p 69 Tryz.func20 Z Z Z fun H w=>?_
 refine gSR<|Zb Z<|z0s<|gSR<|Zm Z<|Zq (z3s Z .rd Z tu22)<|Zq (I.gtr Z Z)<|Zj Z (fun h1=>?_) (fun h1=>?_)
 ·
  refine gSR<|Zb Z<|z0l<|z0w<|Ze [] [1001] Z
 ·
  refine Zt<|z7b (fun (s2:Unit) aa ww=>Sta (ctx 69 H [zG1] w) [(0,.rd (z02 z01) a0)] [zG1] aa ww) ?_ (fun s2=>?_)
  ·
   refine gSR<|Zm Z<|Zq (z3s Z .rd Z tu22)<|Zm Z<|Zn<|z1w (fun (s3:Int) aa ww=>Sta (ctx 69 H [zG1] w) [(0,.rd (z02 z01) a0),(16,.rd (z02 z01) a0),(17,.rd z0c (a0.length:Int)),(18,.rd z0c s3)] [zG1] aa ww) (fun aa ww h=>Zu h [1001]) (fun s3=>?_)
   refine gSR<|Zq (I.lss Z Z)<|Zn<|z0s<|gIf Z Z (fun h4=>?_) (fun h4=>?_)
   ·
    refine Zt<|z0s<|z4w<|gSR<|z0u fun x5 h6=>Zq (ixR Z Z h6 tu22 z7e Z)<|Zq (ldR Z zb2)<|Eb Z (z5o 1100 z7e (ZrE.nilS (ZrE.nilS ZrE.nil))) fun v7=>zbv aZ [.rd (z02 aZ) [],.val (.slice none 0 0)] 1100 [] [.val (.slice none 0 0)] Z Z Z<|zbv z04 [.rd (z02 aZ) [],.rd (z02 z04) []] 1100 [.rd (z02 aZ) []] [] Z Z Z<|ze3 (R:=z01) (⟨[],[]⟩:z00) 1100 Z (Sp.via (Sp.prod (Sp.prod Sp.unit)))<|Es (sto 1100 Z Z fH Z z7e)<|Zn<|gSR<|Zq (ld 1100 Z Z fH zb2 Z)<|Zc [1001] [] Tryz.func60 Z (zcj _) fun r8 n9=>Zb Z<|gSR<|Zm Z<|Zq (I.neq Z Z)<|Zj Z (fun h10=>?_) (fun h10=>?_)
    ·
     refine gSR<|Zm Z<|Zb Z<|z0l<|z3x<|z0w<|z6q<|z5w<|Ze [] [1001] Z
    ·
     refine z2u<|z38<|z0k<|z28<|Zq (I.add Z Z)<|Zm Z<|z1s<|z1g (fun aa ww h=>Zu h [1001])
   ·
    refine z1r<|z0x<|z10<|z5p (fun aa ww h=>Zu h [1001])
  ·
   refine gSR<|Ef Z (mkm aZ z04 1101 (Or.inl Z) Tryz.underlying106) fun v11=>Zb Z<|z7b (fun (s12:Unit) aa ww=>Sta (ctx 69 H [zG1] w) [] [zG1] aa ww) ?_ (fun s12=>?_)
   ·
    refine gSR<|Zm Z<|Zq (z3s Z .rd Z tu22)<|Zm Z<|Zn<|z1w (fun (s13:(List (V3 × z05)) × Int) aa ww=>Sta (ctx 69 H [zG1] w) [(6,.val v11),(29,.rd (z02 z01) a0),(30,.rd z0c (a0.length:Int)),(31,.rd z0c s13.2)] [(1101,some (v11,.map aZ z04 s13.1)),zG1] aa ww) (fun aa ww h=>Zu h [1101,1001]) (fun s13=>?_)
    refine gSR<|Zq (I.lss Z Z)<|Zn<|z0s<|gIf Z Z (fun h14=>?_) (fun h14=>?_)
    ·
     refine Zt<|z7b (fun (s15:(List (V3 × z05))) aa ww=>Sta (ctx 69 H [zG1] w) [(6,.val v11),(29,.rd (z02 z01) a0),(30,.rd z0c (a0.length:Int)),(31,.rd z0c s13.2)] [(1101,some (v11,.map aZ z04 s15)),zG1] aa ww) ?_ (fun s15=>?_)
     ·
      refine z4w<|gSR<|z0u fun x16 h17=>Zq (ixR Z Z h17 tu22 z7e Z)<|Zq (ldR Z zb2)<|Eb Z (z5o 1102 z7e (ZrE.nilS (ZrE.nilS ZrE.nil))) fun v18=>zbv aZ [.rd (z02 aZ) [],.val (.slice none 0 0)] 1102 [] [.val (.slice none 0 0)] Z Z Z<|zbv z04 [.rd (z02 aZ) [],.rd (z02 z04) []] 1102 [.rd (z02 aZ) []] [] Z Z Z<|ze3 (R:=z01) (⟨[],[]⟩:z00) 1102 Z (Sp.via (Sp.prod (Sp.prod Sp.unit)))<|Es (sto 1102 Z Z fH Z z7e)<|Zn<|gSR<|Zq (faB 1102 Z Z Tryz.underlying27 Z (by exact z6b))<|Zq (ld 1102 Z Z (fP (z09 _)) z8l Z)<|Zq (z3s Z .rd Z tu24)<|Zm Z<|Zn<|z1w (fun (s19:(List (V3 × z05)) × Int) aa ww=>Sta (ctx 69 H [zG1] w) [(6,.val v11),(8,.val (z06 v18 0)),(29,.rd (z02 z01) a0),(30,.rd z0c (a0.length:Int)),(31,.rd z0c s13.2),(36,.rd (z02 aZ) x16.IDs),(37,.rd z0c (x16.IDs.length:Int)),(38,.rd z0c s19.2)] [(1101,some (v11,.map aZ z04 s19.1)),(1102,some (v18,.box 27 [.rd z01 x16])),zG1] aa ww) (fun aa ww h=>Zu h [1101,1102,1001]) (fun s19=>?_)
      refine gSR<|Zq (I.lss Z Z)<|Zn<|z0s<|gIf Z Z (fun h20=>?_) (fun h20=>?_)
      ·
       refine Zt<|z0s<|z4w<|gSR<|Zm Z<|z0u fun x21 h22=>Zq (ixR Z Z h22 tu24 z33 Z)<|Zq (ldR Z z4x)<|Eb Z (z5o 1103 z33 (.zr (R:=aZ) (x:=(Vector.replicate 32 0)) zex)) fun v23=>Za Z<|Es (sto 1103 Z Z fH Z z33)<|Zn<|z7b (fun (s24:Unit) aa ww=>Sta (ctx 69 H [zG1] w) [(6,.val v11),(8,.val (z06 v18 0)),(9,.rd z0c s19.2),(10,.val (z06 v23 0)),(29,.rd (z02 z01) a0),(30,.rd z0c (a0.length:Int)),(31,.rd z0c s13.2),(36,.rd (z02 aZ) x16.IDs),(37,.rd z0c (x16.IDs.length:Int)),(38,.rd z0c s19.2)] [(1101,some (v11,.map aZ z04 s19.1)),(1102,some (v18,.box 27 [.rd z01 x16])),(1103,some (v23,.box 78 [.rd aZ x21])),zG1] aa ww) ?_ (fun s24=>?_)
       ·
        refine gSR<|Zm Z<|Zq (ld 1103 Z Z fH z4x Z)<|Zq (mlk2 Z (.own 1101 Z Z) Z zr0 Tryz.underlying106 zax zr72 Z)<|Zm Z<|Zq (ext Z Z)<|Zq (ext Z Z)<|Eb Z (z5o 1104 zax (ZrE.rd (R:=z0n) (x:=0) (Zr.num Z) (ZrE.nilS (ZrE.rd (R:=z2w) (x:=0) (Zr.num Z) (ZrE.rd (R:=z0h) (x:=(⟨0,[],(⟨0,0,0,[]⟩:z03)⟩:z07)) zom (ZrE.rd (R:=z0o) (x:=(⟨0,0⟩:z08)) zqy ZrE.nil Z) Z) Z)) Z)) fun v25=>zbv aZ [.rd z0n 0,.rd (z02 aZ) [],.rd z2w 0,.rd z0h (⟨0,[],(⟨0,0,0,[]⟩:z03)⟩:z07),.rd z0o (⟨0,0⟩:z08)] 1104 [.rd z0n 0] [.rd z2w 0,.rd z0h (⟨0,[],(⟨0,0,0,[]⟩:z03)⟩:z07),.rd z0o (⟨0,0⟩:z08)] Z Z Z<|ze3 (R:=z04) (⟨0,[],0,(⟨0,[],(⟨0,0,0,[]⟩:z03)⟩:z07),(⟨0,0⟩:z08)⟩:z05) 1104 Z (Sp.via (Sp.prod (Sp.prod (Sp.prod (Sp.prod (Sp.prod Sp.unit))))))<|Es (sto 1104 Z Z fH Z zax)<|Za Z<|z1x 12 Z fun y26=>Zn<|z0s<|z6n [] mixed Z Z<|hTk 0 Z Z (mv Z)<|hTk 1 Z Z (mv Z)<|hIf 50 Z Z (fun h27=>?_) (fun h27=>?_)
        ·
         refine hKn 12 Z Z h27<|hKn 49 Z Z h27<|Zg 2 Z Z (ld 1104 Z Z fH ze5 Z)<|Zg 3 Z Z (faB 1102 Z Z Tryz.underlying27 Z (by exact zc0))<|Zg 4 Z Z (ld 1102 Z Z (fP (z0a _)) zf9 Z)<|Zg 5 Z Z (mv Z)<|z4c fun x28 h29=>Zg 6 Z Z (ixR Z Z h29 tu25 zax Z)<|Zg 7 Z Z (ldR Z ze5)<|z3a 8 [] [] Z (by kernel_rfl) Z Zx Z Tryz.func61 Z Z (zlw _ _) (Y2 Z Z) rN Z (fun _ _=>z52) fun r30 n31=>Zg 9 Z Z (zew Z)<|hTk 10 Z Z (pkT Z Z)<|z30 (by kernel_rfl)<|z0k<|gIf Z Z (fun h32=>?_) (fun h32=>?_)
         ·
          refine gKn 58 Z h32<|gSR<|Zb Z<|z0l<|z5w<|z3x<|z0w<|z6q<|z3x<|z5w<|z6q<|z5w<|Ze [] [1001] Z
         ·
          refine gKn 58 Z h32<|z2u<|z5p (fun aa ww h=>Zu h [1101,1102,1103,1001])
        ·
         refine hKn 12 Z Z h27<|hKn 49 Z Z h27<|hSk 2 Z Z<|hSk 3 Z Z<|hSk 4 Z Z<|hSk 5 Z Z<|hSk 6 Z Z<|hSk 7 Z Z<|hSk 8 Z Z<|hSk 9 Z Z<|hTk 10 Z Z (pkF Z Z)<|z30 (by kernel_rfl)<|z0k<|zeh Z<|z2u<|z5p (fun aa ww h=>Zu h [1101,1102,1103,1001])
       ·
        refine z6n [1101] mixed Z Z<|hTk 0 Z Z (mv Z)<|hTk 1 Z Z (ld 1103 Z Z fH z4x Z)<|hTk 2 Z Z (faB 1102 Z Z Tryz.underlying27 Z (by exact zc0))<|hTk 3 Z Z (ld 1102 Z Z (fP (z0a _)) zf9 Z)<|hTk 4 Z Z (mv Z)<|z4c fun x33 h34=>hTk 5 Z Z (ixR Z Z h34 tu25 zax Z)<|hTk 6 Z Z (ldR Z ze5)<|Zp 7 Z Z Z Z Z (mup 1101 Z Z Z Z zr0 Tryz.underlying106)<|z30 (by kernel_rfl)<|z38<|z0k<|z28<|Zq (I.add Z Z)<|Zm Z<|z1s<|z1g (fun aa ww h=>Zu h [1101,1102,1001])
      ·
       refine z1r<|z0x<|z10<|z38<|z5p (fun aa ww h=>Zu h [1101,1001])
     ·
      refine z28<|Zq (I.add Z Z)<|Zm Z<|z1s<|z1g (fun aa ww h=>Zu h [1101,1001])
    ·
     refine z1r<|z0x<|z10<|z5p (fun aa ww h=>Zu h [1001])
   ·
    refine gSR<|Zb Z<|z0l<|Ze [] [1001] Z
def z8q (a0:List z00) (s5:Int):Option (Sum (Sum (Bool × Int) Unit) Int) :=
 if decide (s5<(a0.length:Int)) then
  idx a0 s5 >>= fun x7 =>
  idx a0 0 >>= fun x10 =>
  z1z x7.IDs x10.IDs >>= fun r12 =>
  if !r12 then
   some (.inl (.inl (false,0)))
  else
   some (.inr (w64 (s5+1)))
 else
  some (.inl (.inr ()))
def zdc (a0:List z00):Option (Bool × Int) :=
 z4t a0 >>= fun r1 =>
 if r1 != 0 then
  some (false,r1)
 else
  z4y (iter (z8q a0) 0) fun s4 =>
  some (true,0)
theorem zlx (a0:List z00):z1t Tryz.prog 11 [.rd (z02 z01) a0] [zG1] (zdc a0) (fun r nv=>⟨[.rd z0d r.1,.rd z0c r.2],[(1001,some (.bool true,.glob 1 (z3m 64 z0n) z5x))]⟩):=by
 refine z2p 27 Tryz.func11 Z Z Z fun H w=>?_
 refine gSR<|Za Z<|Zb Z<|z0s<|gSR<|Zm Z<|Zc [1001] [] Tryz.func20 Z (zc6 _) fun r1 n2=>Zb Z<|gSR<|Zm Z<|Zq (I.neq Z Z)<|Zj Z (fun h3=>?_) (fun h3=>?_)
 ·
  refine gSR<|Zm Z<|Za Z<|Zb Z<|z0l<|z0w<|Ze [] [1001] Z
 ·
  refine Zt<|z7b (fun (s4:Unit) aa ww=>Sta (ctx 27 H [zG1] w) [] [zG1] aa ww) ?_ (fun s4=>?_)
  ·
   refine gSR<|Zm Z<|Zq (z3s Z .rd Z tu22)<|Zm Z<|Zn<|z1w (fun (s5:Int) aa ww=>Sta (ctx 27 H [zG1] w) [(0,.rd (z02 z01) a0),(12,.rd (z02 z01) a0),(13,.rd z0c (a0.length:Int)),(14,.rd z0c s5)] [zG1] aa ww) (fun aa ww h=>Zu h [1001]) (fun s5=>?_)
   refine gSR<|Zq (I.lss Z Z)<|Zn<|z0s<|gIf Z Z (fun h6=>?_) (fun h6=>?_)
   ·
    refine Zt<|z0s<|z4w<|gSR<|z0u fun x7 h8=>Zq (ixR Z Z h8 tu22 z7e Z)<|Zq (ldR Z zb2)<|Eb Z (z5o 1100 z7e (ZrE.nilS (ZrE.nilS ZrE.nil))) fun v9=>zbv aZ [.rd (z02 aZ) [],.val (.slice none 0 0)] 1100 [] [.val (.slice none 0 0)] Z Z Z<|zbv z04 [.rd (z02 aZ) [],.rd (z02 z04) []] 1100 [.rd (z02 aZ) []] [] Z Z Z<|ze3 (R:=z01) (⟨[],[]⟩:z00) 1100 Z (Sp.via (Sp.prod (Sp.prod Sp.unit)))<|Es (sto 1100 Z Z fH Z z7e)<|Zn<|z0s<|z6n [] mixed Z Z<|hTk 0 Z Z (faB 1100 Z Z Tryz.underlying27 Z (by exact z6b))<|hTk 1 Z Z (ld 1100 Z Z (fP (z09 _)) z8l Z)<|hTk 2 Z Z (mv Z)<|z4c fun x10 h11=>hTk 3 Z Z (ixR Z Z h11 tu22 z7e Z)<|hTk 4 Z Z (faR Z (z09 _) Tryz.underlying27 Z Z (by exact z6b))<|hTk 5 Z Z (ldR Z z8l)<|z3a 6 [] [] Z (by kernel_rfl) Z (gd0 Z) Z Tryz.func47 Z Z (z8p _ _) (Y2 Z Z) rN Z (fun _ _=>z52) fun r12 n13=>hTk 7 Z Z (zew Z)<|z30 (by kernel_rfl)<|z0k<|gIf Z Z (fun h14=>?_) (fun h14=>?_)
    ·
     refine gSR<|Za Z<|Zb Z<|z0l<|z3x<|z0w<|z6q<|z5w<|Ze [] [1001] Z
    ·
     refine z2u<|z38<|z0k<|z28<|Zq (I.add Z Z)<|Zm Z<|z1s<|z1g (fun aa ww h=>Zu h [1001])
   ·
    refine z1r<|z0x<|z10<|z5p (fun aa ww h=>Zu h [1001])
  ·
   refine gSR<|Za Z<|Zb Z<|z0l<|Ze [] [1001] Z
def z3z (a0:z00) (a1:z00) (s4:Int):Option (Sum (Sum Bool Unit) Int) :=
 if decide (s4<(a0.IDs.length:Int)) then
  idx a0.IDs s4 >>= fun x6 =>
  z2f a1.IDs x6 >>= fun r8 =>
  if decide (0≤r8) then
   idx a0.Ops s4 >>= fun x11 =>
   idx a1.Ops r8 >>= fun x13 =>
   zbh x11 x13 >>= fun r15 =>
   if !r15 then
    some (.inl (.inl true))
   else
    some (.inr (w64 (s4+1)))
  else
   some (.inr (w64 (s4+1)))
 else
  some (.inl (.inr ()))
def zan (a0:z00) (a1:z00):Option (Bool) :=
 z4y (iter (z3z a0 a1) 0) fun s3 =>
 some false
theorem ziw (a0:z00) (a1:z00):z1t Tryz.prog 62 [.rd z01 a0,.rd z01 a1] [] (zan a0 a1) (fun r nv=>⟨[.rd z0d r],[]⟩):=by
 refine z2p 38 Tryz.func62 Z Z Z fun H w=>?_
 refine gSR<|Eb Z (bx 1 Z) fun v1=>Eb Z (bx 2 Z) fun v2=>Zb Z<|z7b (fun (s3:Unit) aa ww=>Sta (ctx 38 H [] w) [] [] aa ww) ?_ (fun s3=>?_)
 ·
  refine gSR<|Zb Z<|z1w (fun (s4:Int) aa ww=>Sta (ctx 38 H [] w) [(2,.val (z06 v1 0)),(3,.val (z06 v2 0)),(5,.rd z0c s4)] [(1,some (v1,.box 27 [.rd z01 a0])),(2,some (v2,.box 27 [.rd z01 a1]))] aa ww) (fun aa ww h=>Zu h [1,2]) (fun s4=>?_)
  refine z0s<|gSR<|Zm Z<|Zq (faB 1 Z Z Tryz.underlying27 Z (by exact z6b))<|Zq (ld 1 Z Z (fP (z09 _)) z8l Z)<|Zq (z3s Z .rd Z tu24)<|Zq (I.lss Z Z)<|Zj Z (fun h5=>?_) (fun h5=>?_)
  ·
   refine Zt<|z0s<|z4w<|z0s<|z6n [] mixed Z Z<|hTk 0 Z Z (faB 2 Z Z Tryz.underlying27 Z (by exact z6b))<|hTk 1 Z Z (ld 2 Z Z (fP (z09 _)) z8l Z)<|hTk 2 Z Z (faB 1 Z Z Tryz.underlying27 Z (by exact z6b))<|hTk 3 Z Z (ld 1 Z Z (fP (z09 _)) z8l Z)<|hTk 4 Z Z (mv Z)<|z4c fun x6 h7=>hTk 5 Z Z (ixR Z Z h7 tu24 z33 Z)<|hTk 6 Z Z (ldR Z z4x)<|z3a 7 [] [] Z (by kernel_rfl) Z (gd0 Z) Z Tryz.func39 Z Z (zd1 _ _) (Y2 Z Z) rN Z (fun _ _=>z27) fun r8 n9=>hTk 8 Z Z (asg Z)<|z30 (by kernel_rfl)<|z0k<|z0s<|z6n [] mixed Z Z<|hTk 0 Z Z (mv Z)<|hTk 1 Z Z (I.geq Z Z)<|hTk 2 Z Z (mv Z)<|hIf 24 Z Z (fun h10=>?_) (fun h10=>?_)
   ·
    refine hKn 23 Z Z h10<|Zg 3 Z Z (faB 1 Z Z Tryz.underlying27 Z (by exact zc0))<|Zg 4 Z Z (ld 1 Z Z (fP (z0a _)) zf9 Z)<|Zg 5 Z Z (mv Z)<|z4c fun x11 h12=>Zg 6 Z Z (ixR Z Z h12 tu25 zax Z)<|Zg 7 Z Z (ldR Z ze5)<|Zg 8 Z Z (faB 2 Z Z Tryz.underlying27 Z (by exact zc0))<|Zg 9 Z Z (ld 2 Z Z (fP (z0a _)) zf9 Z)<|Zg 10 Z Z (mv Z)<|z4c fun x13 h14=>Zg 11 Z Z (ixR Z Z h14 tu25 zax Z)<|Zg 12 Z Z (ldR Z ze5)<|z3a 13 [] [] Z (by kernel_rfl) Z Zx Z Tryz.func59 Z Z (zkh _ _) (Y2 Z Z) rN Z (fun _ _=>z52) fun r15 n16=>Zg 14 Z Z (zew Z)<|hTk 15 Z Z (pkT Z Z)<|z30 (by kernel_rfl)<|z0k<|gIf Z Z (fun h17=>?_) (fun h17=>?_)
    ·
     refine gKn 36 Z h17<|gSR<|Zb Z<|z0l<|z3x<|z0w<|z6q<|z5w<|Ze [] [] Z
    ·
     refine gKn 36 Z h17<|z2u<|z38<|z0k<|z28<|Zm Z<|Zq (I.add Z Z)<|Za Z<|z1s<|z1g (fun aa ww h=>Zu h [1,2])
   ·
    refine hKn 23 Z Z h10<|hSk 3 Z Z<|hSk 4 Z Z<|hSk 5 Z Z<|hSk 6 Z Z<|hSk 7 Z Z<|hSk 8 Z Z<|hSk 9 Z Z<|hSk 10 Z Z<|hSk 11 Z Z<|hSk 12 Z Z<|hSk 13 Z Z<|hSk 14 Z Z<|hTk 15 Z Z (pkF Z Z)<|z30 (by kernel_rfl)<|z0k<|zeh Z<|z2u<|z38<|z0k<|z28<|Zm Z<|Zq (I.add Z Z)<|Za Z<|z1s<|z1g (fun aa ww h=>Zu h [1,2])
  ·
   refine z1r<|z0x<|z10<|z5p (fun aa ww h=>Zu h [])
 ·
  refine gSR<|Zb Z<|z0l<|Ze [] [] Z
def z4r (a0:List z00) (s3:Int):Option (Sum (Sum Int Unit) Int) :=
 if decide (s3<(a0.length:Int)) then
  idx a0 s3 >>= fun x5 =>
  z5a x5 >>= fun r7 =>
  if r7 != 0 then
   some (.inl (.inl r7))
  else
   some (.inr (w64 (s3+1)))
 else
  some (.inl (.inr ()))
def z4m (a0:List z00) (s11:Int) (s14:Int):Option (Sum (Sum (Sum (Sum Int Unit) Int) Unit) Int) :=
 if decide (s14<s11) then
  idx a0 s11 >>= fun x16 =>
  idx a0 s14 >>= fun x18 =>
  zan x16 x18 >>= fun r20 =>
  if r20 then
   some (.inl (.inl (.inl (.inl 14))))
  else
   some (w64 (s14+1)) >>= fun y23 =>
   some (.inr y23)
 else
  some (.inl (.inr ()))
def z65 (a0:List z00) (s11:Int):Option (Sum (Sum Int Unit) Int) :=
 if decide (s11<(a0.length:Int)) then
  z4y (iter (z4m a0 s11) 0) fun s13 =>
  some (w64 (s11+1)) >>= fun y24 =>
  some (.inr y24)
 else
  some (.inl (.inr ()))
def z3l (a0:List z00):Option (Int) :=
 if decide (5<(a0.length:Int)) then
  some 4
 else
  z4y (iter (z4r a0) 0) fun s2 =>
  z4y (iter (z65 a0) 0) fun s10 =>
  some 0
theorem zii (a0:List z00):z1t Tryz.prog 21 [.rd (z02 z01) a0] [] (z3l a0) (fun r nv=>⟨[.rd z0c r],[]⟩):=by
 refine z2p 44 Tryz.func21 Z Z Z fun H w=>?_
 refine gSR<|Zb Z<|z0s<|gSR<|Zm Z<|Zq (z3s Z .rd Z tu22)<|Zq (I.gtr Z Z)<|Zj Z (fun h1=>?_) (fun h1=>?_)
 ·
  refine gSR<|Zb Z<|z0l<|z0w<|Ze [] [] Z
 ·
  refine Zt<|z7b (fun (s2:Unit) aa ww=>Sta (ctx 44 H [] w) [(0,.rd (z02 z01) a0)] [] aa ww) ?_ (fun s2=>?_)
  ·
   refine gSR<|Zb Z<|z1w (fun (s3:Int) aa ww=>Sta (ctx 44 H [] w) [(0,.rd (z02 z01) a0),(3,.rd z0c s3)] [] aa ww) (fun aa ww h=>Zu h []) (fun s3=>?_)
   refine z0s<|gSR<|Zm Z<|Zm Z<|Zq (z3s Z .rd Z tu22)<|Zq (I.lss Z Z)<|Zj Z (fun h4=>?_) (fun h4=>?_)
   ·
    refine Zt<|z0s<|z4w<|gSR<|Zm Z<|Zm Z<|z0u fun x5 h6=>Zq (ixR Z Z h6 tu22 z7e Z)<|Zq (ldR Z zb2)<|Zc [] [] Tryz.func31 Z (zb1 _) fun r7 n8=>Zb Z<|gSR<|Zm Z<|Zq (I.neq Z Z)<|Zj Z (fun h9=>?_) (fun h9=>?_)
    ·
     refine gSR<|Zm Z<|Zb Z<|z0l<|z3x<|z0w<|z6q<|z5w<|Ze [] [] Z
    ·
     refine z2u<|z38<|z0k<|z28<|Zm Z<|Zq (I.add Z Z)<|Za Z<|z1s<|z1g (fun aa ww h=>Zu h [])
   ·
    refine z1r<|z0x<|z10<|z5p (fun aa ww h=>Zu h [])
  ·
   refine z7b (fun (s10:Unit) aa ww=>Sta (ctx 44 H [] w) [] [] aa ww) ?_ (fun s10=>?_)
   ·
    refine gSR<|Zb Z<|z1w (fun (s11:Int) aa ww=>Sta (ctx 44 H [] w) [(0,.rd (z02 z01) a0),(5,.rd z0c s11)] [] aa ww) (fun aa ww h=>Zu h []) (fun s11=>?_)
    refine z0s<|gSR<|Zm Z<|Zm Z<|Zq (z3s Z .rd Z tu22)<|Zq (I.lss Z Z)<|Zj Z (fun h12=>?_) (fun h12=>?_)
    ·
     refine Zt<|z7b (fun (s13:Unit) aa ww=>Sta (ctx 44 H [] w) [(0,.rd (z02 z01) a0),(5,.rd z0c s11)] [] aa ww) ?_ (fun s13=>?_)
     ·
      refine z4w<|gSR<|Zb Z<|z1w (fun (s14:Int) aa ww=>Sta (ctx 44 H [] w) [(0,.rd (z02 z01) a0),(5,.rd z0c s11),(6,.rd z0c s14)] [] aa ww) (fun aa ww h=>Zu h []) (fun s14=>?_)
      refine z0s<|gSR<|Zm Z<|Zm Z<|Zq (I.lss Z Z)<|Zj Z (fun h15=>?_) (fun h15=>?_)
      ·
       refine Zt<|z0s<|z4w<|z0s<|z6n [] mixed Z Z<|hTk 0 Z Z (mv Z)<|hTk 1 Z Z (mv Z)<|z4c fun x16 h17=>hTk 2 Z Z (ixR Z Z h17 tu22 z7e Z)<|hTk 3 Z Z (ldR Z zb2)<|hTk 4 Z Z (mv Z)<|hTk 5 Z Z (mv Z)<|z4c fun x18 h19=>hTk 6 Z Z (ixR Z Z h19 tu22 z7e Z)<|hTk 7 Z Z (ldR Z zb2)<|z3a 8 [] [] Z (by kernel_rfl) Z (gd0 Z) Z Tryz.func62 Z Z (ziw _ _) (Y2 Z Z) rN Z (fun _ _=>z52) fun r20 n21=>z30 (by kernel_rfl)<|z0k<|gIf Z Z (fun h22=>?_) (fun h22=>?_)
       ·
        refine gSR<|Zb Z<|z0l<|z3x<|z0w<|z6q<|z3x<|z5w<|z6q<|z5w<|Ze [] [] Z
       ·
        refine z2u<|z38<|z0k<|z28<|Zm Z<|Zq (I.add Z Z)<|Za Z<|z1x 6 Z fun y23=>z1s<|z1g (fun aa ww h=>Zu h [])
      ·
       refine z1r<|z0x<|z10<|z38<|z5p (fun aa ww h=>Zu h [])
     ·
      refine z28<|Zm Z<|Zq (I.add Z Z)<|Za Z<|z1x 5 Z fun y24=>z1s<|z1g (fun aa ww h=>Zu h [])
    ·
     refine z1r<|z0x<|z10<|z5p (fun aa ww h=>Zu h [])
   ·
    refine gSR<|Zb Z<|z0l<|Ze [] [] Z
def z6y (a0:List z00) (s5:Int):Option (Sum (Sum (Bool × Int) Unit) Int) :=
 if decide (s5<(a0.length:Int)) then
  idx a0 s5 >>= fun x7 =>
  idx a0 0 >>= fun x9 =>
  z73 x7.IDs x9.IDs >>= fun r11 =>
  if !r11 then
   some (.inl (.inl (false,0)))
  else
   some (.inr (w64 (s5+1)))
 else
  some (.inl (.inr ()))
def zgq (a0:List z00):Option (Bool × Int) :=
 z3l a0 >>= fun r1 =>
 if r1 != 0 then
  some (false,r1)
 else
  z4y (iter (z6y a0) 1) fun s4 =>
  some (true,0)
def zcx (a0:Int):Option (Bool) :=
 some true
theorem zio (a0:Int):z1t Tryz.prog 50 [.rd z0c a0] [] (zcx a0) (fun r nv=>⟨[.rd z0d r],[]⟩):=by
 refine z2p 3 Tryz.func50 Z Z Z fun H w=>?_
 refine gSR<|Zb Z<|gSR<|Zb Z<|z0l<|Ze [] [] Z
def z1v (x8:z00) (s11:(List (V3 × Int)) × (List (V3 × z05)) × Int):Option (Sum ((List (V3 × Int)) × (List (V3 × z05))) ((List (V3 × Int)) × (List (V3 × z05)) × Int)) :=
 if decide (s11.2.2<(x8.IDs.length:Int)) then
  idx x8.IDs s11.2.2 >>= fun x13 =>
  (some (zbr s11.1 x13 (w64 (((z3q s11.1 x13).getD 0)+1)))) >>= fun s16 =>
  idx x8.Ops s11.2.2 >>= fun x19 =>
  some (.inr (s16,zbr s11.2.1 x13 x19,w64 (s11.2.2+1)))
 else
  some (.inl (s11.1,s11.2.1))
def z1d (a0:List z00) (s5:(List (V3 × Int)) × (List (V3 × z05)) × Int):Option (Sum ((List (V3 × Int)) × (List (V3 × z05))) ((List (V3 × Int)) × (List (V3 × z05)) × Int)) :=
 if decide (s5.2.2<(a0.length:Int)) then
  (idx a0 s5.2.2 >>= fun x8 =>
  iter (z1v x8) (s5.1,s5.2.1,0)) >>= fun s7 =>
  some (.inr (s7.1,s7.2,w64 (s5.2.2+1)))
 else
  some (.inl (s5.1,s5.2.1))
def z41 (k27:V3) (x28:Int) (s25:(List V3)):Option ((List V3)) :=
 zcx x28 >>= fun r37 =>
 if r37 then
  app 32 s25 [k27] >>= fun x41 =>
  some x41
 else
  some s25
def z1u (s4:(List (V3 × Int)) × (List (V3 × z05))) (r44:List V3) (s47:(List z05) × Int):Option (Sum ((List z05)) ((List z05) × Int)) :=
 if decide (s47.2<(r44.length:Int)) then
  idx r44 s47.2 >>= fun x50 =>
  z0p (((z3q s4.2 x50).getD (⟨0,[],0,(⟨0,[],(⟨0,0,0,[]⟩:z03)⟩:z07),(⟨0,0⟩:z08)⟩:z05)).Preds) >>= fun r54 =>
  app 112 s47.1 [(⟨((z3q s4.2 x50).getD (⟨0,[],0,(⟨0,[],(⟨0,0,0,[]⟩:z03)⟩:z07),(⟨0,0⟩:z08)⟩:z05)).Author,r54,((z3q s4.2 x50).getD (⟨0,[],0,(⟨0,[],(⟨0,0,0,[]⟩:z03)⟩:z07),(⟨0,0⟩:z08)⟩:z05)).Stamp,((z3q s4.2 x50).getD (⟨0,[],0,(⟨0,[],(⟨0,0,0,[]⟩:z03)⟩:z07),(⟨0,0⟩:z08)⟩:z05)).Act,((z3q s4.2 x50).getD (⟨0,[],0,(⟨0,[],(⟨0,0,0,[]⟩:z03)⟩:z07),(⟨0,0⟩:z08)⟩:z05)).Sig⟩:z05)] >>= fun x57 =>
  some (.inr (x57,w64 (s47.2+1)))
 else
  some (.inl s47.1)
def z3g (a0:List z00):Option (z00) :=
 (iter (z1d a0) (([]:List (V3 × Int)),([]:List (V3 × z05)),0)) >>= fun s4 =>
 (zga (fun e s=>z41 e.1 e.2 s) s4.1 []) >>= fun r32 =>
 zs0 r32 >>= fun r44 =>
 (iter (z1u s4 r44) ([],0)) >>= fun s46 =>
 some (⟨r44,s46⟩:z00)
theorem zaz (a0:List z00):z1t Tryz.prog 49 [.rd (z02 z01) a0,.val (.func (.func 50) #[] #[])] [] (z3g a0) (fun r nv=>⟨[.rd z01 r],[]⟩):=by
 refine z2p 89 Tryz.func49 Z Z Z fun H w=>?_
 refine gSR<|Eb Z (z5o 1 z7e (ZrE.nilS (ZrE.nilS ZrE.nil))) fun v1=>Zn<|gSR<|Ef Z (mkm aZ z0c 2 (Or.inl Z) Tryz.underlying123) fun v2=>Zb Z<|gSR<|Ef Z (mkm aZ z04 3 (Or.inl Z) Tryz.underlying106) fun v3=>Zb Z<|z8t (fun (s4:(List (V3 × Int)) × (List (V3 × z05))) aa ww=>Sta (ctx 89 H [] w) [(1,.val (.func (.func 50) #[] #[])),(4,.val (z06 v1 0)),(5,.val v2),(6,.val v3)] [(1,some (v1,.box 27 [.val (.slice none 0 0),.val (.slice none 0 0)])),(2,some (v2,.map aZ z0c s4.1)),(3,some (v3,.map aZ z04 s4.2))] aa ww) ?_ (fun s4=>?_)
 ·
  refine gSR<|Zm Z<|Zq (z3s Z .rd Z tu22)<|Zm Z<|Zn<|z1w (fun (s5:(List (V3 × Int)) × (List (V3 × z05)) × Int) aa ww=>Sta (ctx 89 H [] w) [(1,.val (.func (.func 50) #[] #[])),(4,.val (z06 v1 0)),(5,.val v2),(6,.val v3),(19,.rd (z02 z01) a0),(20,.rd z0c (a0.length:Int)),(21,.rd z0c s5.2.2)] [(1,some (v1,.box 27 [.val (.slice none 0 0),.val (.slice none 0 0)])),(2,some (v2,.map aZ z0c s5.1)),(3,some (v3,.map aZ z04 s5.2.1))] aa ww) (fun aa ww h=>Zu h [1,2,3]) (fun s5=>?_)
  refine gSR<|Zq (I.lss Z Z)<|Zn<|z0s<|gIf Z Z (fun h6=>?_) (fun h6=>?_)
  ·
   refine Zt<|z8t (fun (s7:(List (V3 × Int)) × (List (V3 × z05))) aa ww=>Sta (ctx 89 H [] w) [(1,.val (.func (.func 50) #[] #[])),(4,.val (z06 v1 0)),(5,.val v2),(6,.val v3),(19,.rd (z02 z01) a0),(20,.rd z0c (a0.length:Int)),(21,.rd z0c s5.2.2)] [(1,some (v1,.box 27 [.val (.slice none 0 0),.val (.slice none 0 0)])),(2,some (v2,.map aZ z0c s7.1)),(3,some (v3,.map aZ z04 s7.2))] aa ww) ?_ (fun s7=>?_)
   ·
    refine z4w<|gSR<|z0u fun x8 h9=>Zq (ixR Z Z h9 tu22 z7e Z)<|Zq (ldR Z zb2)<|Eb Z (z5o 4 z7e (ZrE.nilS (ZrE.nilS ZrE.nil))) fun v10=>zbv aZ [.rd (z02 aZ) [],.val (.slice none 0 0)] 4 [] [.val (.slice none 0 0)] Z Z Z<|zbv z04 [.rd (z02 aZ) [],.rd (z02 z04) []] 4 [.rd (z02 aZ) []] [] Z Z Z<|ze3 (R:=z01) (⟨[],[]⟩:z00) 4 Z (Sp.via (Sp.prod (Sp.prod Sp.unit)))<|Es (sto 4 Z Z fH Z z7e)<|Zn<|gSR<|Zq (faB 4 Z Z Tryz.underlying27 Z (by exact z6b))<|Zq (ld 4 Z Z (fP (z09 _)) z8l Z)<|Zq (z3s Z .rd Z tu24)<|Zm Z<|Zn<|z1w (fun (s11:(List (V3 × Int)) × (List (V3 × z05)) × Int) aa ww=>Sta (ctx 89 H [] w) [(1,.val (.func (.func 50) #[] #[])),(4,.val (z06 v1 0)),(5,.val v2),(6,.val v3),(8,.val (z06 v10 0)),(19,.rd (z02 z01) a0),(20,.rd z0c (a0.length:Int)),(21,.rd z0c s5.2.2),(26,.rd (z02 aZ) x8.IDs),(27,.rd z0c (x8.IDs.length:Int)),(28,.rd z0c s11.2.2)] [(1,some (v1,.box 27 [.val (.slice none 0 0),.val (.slice none 0 0)])),(2,some (v2,.map aZ z0c s11.1)),(3,some (v3,.map aZ z04 s11.2.1)),(4,some (v10,.box 27 [.rd z01 x8]))] aa ww) (fun aa ww h=>Zu h [1,2,3,4]) (fun s11=>?_)
    refine gSR<|Zq (I.lss Z Z)<|Zn<|z0s<|gIf Z Z (fun h12=>?_) (fun h12=>?_)
    ·
     refine Zt<|z0s<|z4w<|gSR<|Zm Z<|z0u fun x13 h14=>Zq (ixR Z Z h14 tu24 z33 Z)<|Zq (ldR Z z4x)<|Eb Z (z5o 5 z33 (.zr (R:=aZ) (x:=(Vector.replicate 32 0)) zex)) fun v15=>Za Z<|Es (sto 5 Z Z fH Z z33)<|Zn<|z8t (fun (s16:(List (V3 × Int))) aa ww=>Sta (ctx 89 H [] w) [(1,.val (.func (.func 50) #[] #[])),(4,.val (z06 v1 0)),(5,.val v2),(6,.val v3),(8,.val (z06 v10 0)),(9,.rd z0c s11.2.2),(10,.val (z06 v15 0)),(19,.rd (z02 z01) a0),(20,.rd z0c (a0.length:Int)),(21,.rd z0c s5.2.2),(26,.rd (z02 aZ) x8.IDs),(27,.rd z0c (x8.IDs.length:Int)),(28,.rd z0c s11.2.2)] [(1,some (v1,.box 27 [.val (.slice none 0 0),.val (.slice none 0 0)])),(2,some (v2,.map aZ z0c s16)),(3,some (v3,.map aZ z04 s11.2.1)),(4,some (v10,.box 27 [.rd z01 x8])),(5,some (v15,.box 78 [.rd aZ x13]))] aa ww) ?_ (fun s16=>?_)
     ·
      refine z6n [2] mixed Z Z<|hTk 0 Z Z (mv Z)<|hTk 1 Z Z (ld 5 Z Z fH z4x Z)<|hAlt [2,4] (by kernel_rfl) Z ⟨?_,?_,trivial⟩
      ·
       refine oRun 2 Z (gd0 Z) Z Z z27 (mlk Z (.own 2 Z Z) Z zr0 Tryz.underlying123 ti3 (Zr.num Z) Z)<|hTk 3 Z Z (I.add Z Z)<|hDoE 4 Z (by kernel_rfl) (gd0 Z) Z Z Z Z (men 2 Z Z Z zr0 Tryz.underlying123 ti3 (Zr.num Z) Z) fun n17=>Zf 5 Z Z z27 (ext Z Z)<|Zp 6 Z Z Z Z Z (ens 2 Z Z Z Z)<|z30 (by kernel_rfl)<|z3t (fun aa ww h=>Zu h [1,2,3,4,5])
      ·
       refine oDoE 4 Z (gd0 Z) Z Z Z Z (men 2 Z Z Z zr0 Tryz.underlying123 ti3 (Zr.num Z) Z) fun n18=>Zf 5 Z Z z27 (ext Z Z)<|hRun 2 Z (by kernel_rfl) (gd0 Z) Z Z z27 (mlkP 2 Z Z Z zr0 Tryz.underlying123)<|hTk 3 Z Z (I.add Z Z)<|Zp 6 Z Z Z Z Z (ens 2 Z Z Z Z)<|z30 (by kernel_rfl)<|z3t (fun aa ww h=>Zu h [1,2,3,4,5])
     ·
      refine z6n [3] mixed Z Z<|hTk 0 Z Z (mv Z)<|hTk 1 Z Z (ld 5 Z Z fH z4x Z)<|hTk 2 Z Z (faB 4 Z Z Tryz.underlying27 Z (by exact zc0))<|hTk 3 Z Z (ld 4 Z Z (fP (z0a _)) zf9 Z)<|hTk 4 Z Z (mv Z)<|z4c fun x19 h20=>hTk 5 Z Z (ixR Z Z h20 tu25 zax Z)<|hTk 6 Z Z (ldR Z ze5)<|Zp 7 Z Z Z Z Z (mup 3 Z Z Z Z zr0 Tryz.underlying106)<|z30 (by kernel_rfl)<|z38<|z0k<|z28<|Zq (I.add Z Z)<|Zm Z<|z1s<|z1g (fun aa ww h=>Zu h [1,2,3,4])
    ·
     refine z1r<|z0x<|z10<|z38<|z3t (fun aa ww h=>Zu h [1,2,3])
   ·
    refine z28<|Zq (I.add Z Z)<|Zm Z<|z1s<|z1g (fun aa ww h=>Zu h [1,2,3])
  ·
   refine z1r<|z0x<|z10<|z3t (fun aa ww h=>Zu h [1,2,3])
 ·
  refine gSR<|Eb Z (z5o 57 z7e (ZrE.nilS (ZrE.nilS ZrE.nil))) fun v21=>Zn<|z0s<|gSR<|Zm Z<|z169 58 2 Z Z Z Tryz.underlying123 fun u22 es23 ck24=>Zn<|zxg aZ 78 62<|z16s (z126 (L:=fun (n26:Nat→Value)=>[(1,.val (.func (.func 50) #[] #[])),(4,.val (z06 v1 0)),(6,.val v3),(11,.val (z06 v21 0)),(49,.val u22)]) (nv0:=nvl [(.slice none 0 0)]) 58 2 List.Perm (fun _ _ _ h k=>h.trans k) (fun _=>.refl _) (AppF.comm (by_:=32) ?_) (fun (s25:(List V3)) (n26:Nat→Value)=>[(1,some (v1,.box 27 [.val (.slice none 0 0),.val (.slice none 0 0)])),(3,some (v3,.map aZ z04 s4.2)),(61,some ((n26 0),.list aZ 78 s25)),(57,some (v21,.box 27 [.val (n26 0),.val (.slice none 0 0)]))]) (fun aa ww h=>Zu h [58,2,1,3,62,57]) (fun _=>rfl) Z Z (fun _ _ _=>(Zs Z Z Z Z<|sS Z<|sN)) (fun _ _=>rfl) Z (fun Ci30 Cm31 k27 x28 s25 n26 hI29=>?_)) (fun r32=>eExM fun xp33 n35 hp34=>?_)
  ·
   intro e; unfold z41; repeat first | exact ⟨some [], fun _=>rfl⟩ | exact zus _ | refine zpm fun _=>?_ | refine ztr ?_ ?_
  ·
   refine z4w<|gSR<|Zq (entM 58 2 Z Z Z hI29)<|Zq (ext Z Z)<|Zq (ext Z Z)<|Eb Z (z5o 63 z33 (.zr (R:=aZ) (x:=(Vector.replicate 32 0)) zex)) fun v36=>Es (sto 63 Z Z fH Z z33)<|Zb Z<|gSR<|Zm Z<|Zm Z<|zly [] [] (gd0 Z) Z Z Tryz.func50 Z Z (zio _) (Y1 Z) (cN) rN fun r37 n38=>Zj Z (fun h39=>?_) (fun h39=>?_)
   ·
    refine z28<|Zq (faB 57 Z Z Tryz.underlying27 Z (by exact z6b))<|Zq (ldV 57 Z Z (At.cast At.here Z) sc24 Z)<|Zq (ld 63 Z Z fH z4x Z)<|Ef Z (lit (R:=aZ) ([k27]:List V3) 64 (pP Z Z<|pN) Z tu24 z33 Z Z) fun v40=>zkx 64 [61] Z (fS Z<|fN)<|z0u fun x41 h42=>Ef Z (apn 61 Z Z Z .rd h42 tu24 z33 Z Z Z) fun v43=>Zq (faB 57 Z Z Tryz.underlying27 Z (by exact z6b))<|Es (zta 57 Z Z (zbp.cast (zbp.here z0e) Z) Z z23 z0e z6b)<|z1s<|z38<|z3t (fun aa ww h=>⟨nvl [v43],Zu h [58,2,1,3,61,57]⟩)
   ·
    refine z2u<|z38<|z3t (fun aa ww h=>⟨nvl [(n26 0)],Zu h [58,2,1,3,61,57]⟩)
  ·
   refine z0k<|gSR<|Zq (faB 57 Z Z Tryz.underlying27 Z (by exact z6b))<|Zq (ldV 57 Z Z (At.cast At.here Z) sc24 Z)<|call [61] [(1,61)] Z Tryz.func88 Z Z (z1t.congr (zox (hp34).symm) (zvi _ _)) (Y2 Z Z) (y1 Z) fun r44 n45=>Zn<|z8t (fun (s46:(List z05)) aa ww=>∃ nv:Nat→Value,Sta (ctx 89 H [] w) [(4,.val (z06 v1 0)),(11,.val (z06 v21 0))] [(1,some (v1,.box 27 [.val (.slice none 0 0),.val (.slice none 0 0)])),(61,some ((n35 0),.list aZ 78 r44)),(69,some ((nv 0),.list z04 72 s46)),(57,some (v21,.box 27 [.val (n35 0),.val (nv 0)]))] aa ww) ?_ (fun s46=>?_)
   ·
    refine gSR<|Zq (faB 57 Z Z Tryz.underlying27 Z (by exact z6b))<|Zq (ldV 57 Z Z (At.cast At.here Z) sc24 Z)<|Zq (z3s Z (.own 61 Z) Z tu24)<|Zm Z<|Zn<|zxg z04 72 75<|z1w (fun (s47:(List z05) × Int) aa ww=>∃ nv:Nat→Value,Sta (ctx 89 H [] w) [(4,.val (z06 v1 0)),(6,.val v3),(11,.val (z06 v21 0)),(68,.val (n35 0)),(69,.rd z0c (r44.length:Int)),(70,.rd z0c s47.2)] [(1,some (v1,.box 27 [.val (.slice none 0 0),.val (.slice none 0 0)])),(3,some (v3,.map aZ z04 s4.2)),(61,some ((n35 0),.list aZ 78 r44)),(74,some ((nv 0),.list z04 72 s47.1)),(57,some (v21,.box 27 [.val (n35 0),.val (nv 0)]))] aa ww) (fun aa ww h=>⟨nvl [(.slice none 0 0)],Zu h [1,3,61,75,57]⟩) (fun s47=>?_)
    refine gEx fun n48=>gSR<|Zq (I.lss Z Z)<|Zn<|z0s<|gIf Z Z (fun h49=>?_) (fun h49=>?_)
    ·
     refine Zt<|z0s<|z4w<|gSR<|z0u fun x50 h51=>Zq (ixO 61 Z Z Z h51 tu24 z33)<|Zq (ld 61 Z Z (Foc.el h51) z4x Z)<|Eb Z (z5o 76 z33 (.zr (R:=aZ) (x:=(Vector.replicate 32 0)) zex)) fun v52=>Es (sto 76 Z Z fH Z z33)<|Zn<|gSR<|Zm Z<|Zq (ld 76 Z Z fH z4x Z)<|Zq (mlk Z (.own 3 Z Z) Z zr0 Tryz.underlying106 zax zr72 Z)<|Eb Z (z5o 77 zax (ZrE.rd (R:=z0n) (x:=0) (Zr.num Z) (ZrE.nilS (ZrE.rd (R:=z2w) (x:=0) (Zr.num Z) (ZrE.rd (R:=z0h) (x:=(⟨0,[],(⟨0,0,0,[]⟩:z03)⟩:z07)) zom (ZrE.rd (R:=z0o) (x:=(⟨0,0⟩:z08)) zqy ZrE.nil Z) Z) Z)) Z)) fun v53=>zbv aZ [.rd z0n 0,.rd (z02 aZ) [],.rd z2w 0,.rd z0h (⟨0,[],(⟨0,0,0,[]⟩:z03)⟩:z07),.rd z0o (⟨0,0⟩:z08)] 77 [.rd z0n 0] [.rd z2w 0,.rd z0h (⟨0,[],(⟨0,0,0,[]⟩:z03)⟩:z07),.rd z0o (⟨0,0⟩:z08)] Z Z Z<|ze3 (R:=z04) (⟨0,[],0,(⟨0,[],(⟨0,0,0,[]⟩:z03)⟩:z07),(⟨0,0⟩:z08)⟩:z05) 77 Z (Sp.via (Sp.prod (Sp.prod (Sp.prod (Sp.prod (Sp.prod Sp.unit))))))<|Es (sto 77 Z Z fH Z zax)<|Zn<|gSR<|Zq (faB 77 Z Z Tryz.underlying72 Z (by exact z6b))<|Zq (ld 77 Z Z (fP (z0t _)) z8l Z)<|Zc [] [(100,78)] Tryz.func55 Z (z1m _) fun r54 n55=>Zq (faB 77 Z Z Tryz.underlying72 Z (by exact z6b))<|lSpl (R:=z04) 77 Z (Sp.via (Sp.prod (Sp.prod (Sp.prod (Sp.prod (Sp.prod Sp.unit))))))<|Es (zta 77 Z Z (zbp.cast (zbp.next z2c (zbp.here z2c)) Z) Z z23 z0e z6b)<|Zn<|z28<|Zq (faB 57 Z Z Tryz.underlying27 Z (by exact zc0))<|Zq (ldV 57 Z Z (At.cast (At.next z0e At.here) Z) sc25 Z)<|zxy [.rd z0n (((z3q s4.2 x50).getD (⟨0,[],0,(⟨0,[],(⟨0,0,0,[]⟩:z03)⟩:z07),(⟨0,0⟩:z08)⟩:z05)).Author),.rd (z02 aZ) r54,.rd z2w (((z3q s4.2 x50).getD (⟨0,[],0,(⟨0,[],(⟨0,0,0,[]⟩:z03)⟩:z07),(⟨0,0⟩:z08)⟩:z05)).Stamp),.rd z0h (((z3q s4.2 x50).getD (⟨0,[],0,(⟨0,[],(⟨0,0,0,[]⟩:z03)⟩:z07),(⟨0,0⟩:z08)⟩:z05)).Act),.rd z0o (((z3q s4.2 x50).getD (⟨0,[],0,(⟨0,[],(⟨0,0,0,[]⟩:z03)⟩:z07),(⟨0,0⟩:z08)⟩:z05)).Sig)] 77 78 [.rd z0n (((z3q s4.2 x50).getD (⟨0,[],0,(⟨0,[],(⟨0,0,0,[]⟩:z03)⟩:z07),(⟨0,0⟩:z08)⟩:z05)).Author)] [.rd z2w (((z3q s4.2 x50).getD (⟨0,[],0,(⟨0,[],(⟨0,0,0,[]⟩:z03)⟩:z07),(⟨0,0⟩:z08)⟩:z05)).Stamp),.rd z0h (((z3q s4.2 x50).getD (⟨0,[],0,(⟨0,[],(⟨0,0,0,[]⟩:z03)⟩:z07),(⟨0,0⟩:z08)⟩:z05)).Act),.rd z0o (((z3q s4.2 x50).getD (⟨0,[],0,(⟨0,[],(⟨0,0,0,[]⟩:z03)⟩:z07),(⟨0,0⟩:z08)⟩:z05)).Sig)] Z Z Z Z Z<|ze3 (R:=z04) (⟨((z3q s4.2 x50).getD (⟨0,[],0,(⟨0,[],(⟨0,0,0,[]⟩:z03)⟩:z07),(⟨0,0⟩:z08)⟩:z05)).Author,r54,((z3q s4.2 x50).getD (⟨0,[],0,(⟨0,[],(⟨0,0,0,[]⟩:z03)⟩:z07),(⟨0,0⟩:z08)⟩:z05)).Stamp,((z3q s4.2 x50).getD (⟨0,[],0,(⟨0,[],(⟨0,0,0,[]⟩:z03)⟩:z07),(⟨0,0⟩:z08)⟩:z05)).Act,((z3q s4.2 x50).getD (⟨0,[],0,(⟨0,[],(⟨0,0,0,[]⟩:z03)⟩:z07),(⟨0,0⟩:z08)⟩:z05)).Sig⟩:z05) 77 Z (Sp.via (Sp.prod (Sp.prod (Sp.prod (Sp.prod (Sp.prod Sp.unit))))))<|Zq (ld 77 Z Z fH ze5 Z)<|Ef Z (lit (R:=z04) ([(⟨((z3q s4.2 x50).getD (⟨0,[],0,(⟨0,[],(⟨0,0,0,[]⟩:z03)⟩:z07),(⟨0,0⟩:z08)⟩:z05)).Author,r54,((z3q s4.2 x50).getD (⟨0,[],0,(⟨0,[],(⟨0,0,0,[]⟩:z03)⟩:z07),(⟨0,0⟩:z08)⟩:z05)).Stamp,((z3q s4.2 x50).getD (⟨0,[],0,(⟨0,[],(⟨0,0,0,[]⟩:z03)⟩:z07),(⟨0,0⟩:z08)⟩:z05)).Act,((z3q s4.2 x50).getD (⟨0,[],0,(⟨0,[],(⟨0,0,0,[]⟩:z03)⟩:z07),(⟨0,0⟩:z08)⟩:z05)).Sig⟩:z05)]:List z05) 79 (pP Z Z<|pN) Z tu25 zax Z Z) fun v56=>zkx 79 [84] Z (fS Z<|fN)<|z0u fun x57 h58=>Ef Z (apn 74 Z Z Z .rd h58 tu25 zax Z Z Z) fun v59=>Zq (faB 57 Z Z Tryz.underlying27 Z (by exact zc0))<|Es (zta 57 Z Z (zbp.cast (zbp.next z0e (zbp.here z0e)) Z) Z z23 z0e zc0)<|z1s<|z38<|z0k<|z28<|Zq (I.add Z Z)<|Zm Z<|z1s<|z1g (fun aa ww h=>⟨nvl [v59],Zu h [1,3,61,74,57]⟩)
    ·
     refine z1r<|z0x<|z10<|z3t (fun aa ww h=>⟨nvl [(n48 0)],Zu h [1,61,74,57]⟩)
   ·
    refine gEx fun n60=>gSR<|zxy [.rd (z02 aZ) r44,.val (n60 0)] 57 61 [] [.val (n60 0)] Z Z Z Z Z<|zxy [.rd (z02 aZ) r44,.rd (z02 z04) s46] 57 69 [.rd (z02 aZ) r44] [] Z Z Z Z Z<|ze3 (R:=z01) (⟨r44,s46⟩:z00) 57 Z (Sp.via (Sp.prod (Sp.prod Sp.unit)))<|Zq (ld 57 Z Z fH zb2 Z)<|zbv aZ [.rd (z02 aZ) [],.val (.slice none 0 0)] 1 [] [.val (.slice none 0 0)] Z Z Z<|zbv z04 [.rd (z02 aZ) [],.rd (z02 z04) []] 1 [.rd (z02 aZ) []] [] Z Z Z<|ze3 (R:=z01) (⟨[],[]⟩:z00) 1 Z (Sp.via (Sp.prod (Sp.prod Sp.unit)))<|Es (sto 1 Z Z fH Z z7e)<|Zn<|z0l<|zcn [] [] Z (eC 1 Z Z zb2<|eN) (rN)
def zag (a0:List z00):Option (z00 × Int) :=
 z4t a0 >>= fun r2 =>
 if r2 != 0 then
  some ((⟨[],[]⟩:z00),r2)
 else
  z3g a0 >>= fun r5 =>
  if decide (60<(r5.Ops.length:Int)) then
   some ((⟨[],[]⟩:z00),4)
  else
   some (r5,0)
theorem zf7 (a0:List z00):z1t Tryz.prog 13 [.rd (z02 z01) a0] [zG1] (zag a0) (fun r nv=>⟨[.rd z01 r.1,.rd z0c r.2],[(1001,some (.bool true,.glob 1 (z3m 64 z0n) z5x))]⟩):=by
 refine z2p 20 Tryz.func13 Z Z Z fun H w=>?_
 refine gSR<|Eb Z (z5o 1 z7e (ZrE.nilS (ZrE.nilS ZrE.nil))) fun v1=>Zb Z<|z0s<|gSR<|Zm Z<|Zc [1001] [] Tryz.func20 Z (zc6 _) fun r2 n3=>Zb Z<|gSR<|Zm Z<|Zq (I.neq Z Z)<|Zj Z (fun h4=>?_) (fun h4=>?_)
 ·
  refine gSR<|Zq (zz1 [(0,1),(1,1)] Tryz.underlying27 z7e (ZrE.nilS (ZrE.nilS ZrE.nil)) Z (zn2.done Z))<|Zm Z<|Es (zze 1 Z Z (z0q.cast (z0q.cons z0e (z0q.cons z0e z0q.nil)) Z) Z (z6j.cons z23 (z6j.cons z23 z6j.nil)) (z0q.cast (z0q.cons z0e (z0q.cons z0e z0q.nil)) Z) z7e)<|Zb Z<|z0l<|z0w<|zrm aZ [.rd (z02 aZ) [],.val (.slice none 0 0)] 1 [] [.val (.slice none 0 0)] Z Z Z<|zrm z04 [.rd (z02 aZ) [],.rd (z02 z04) []] 1 [.rd (z02 aZ) []] [] Z Z Z<|eJoi (R:=z01) (⟨[],[]⟩:z00) 1 Z (Sp.via (Sp.prod (Sp.prod Sp.unit)))<|zcn [] [1001] Z (eC 1 Z Z zb2<|eE Z<|eN) (y1 Z)
 ·
  refine Zt<|gSR<|Zm Z<|Zc [] [] Tryz.func49 Z (zaz _) fun r5 n6=>Eb Z (z5o 2 z7e (ZrE.nilS (ZrE.nilS ZrE.nil))) fun v7=>zbv aZ [.rd (z02 aZ) [],.val (.slice none 0 0)] 2 [] [.val (.slice none 0 0)] Z Z Z<|zbv z04 [.rd (z02 aZ) [],.rd (z02 z04) []] 2 [.rd (z02 aZ) []] [] Z Z Z<|ze3 (R:=z01) (⟨[],[]⟩:z00) 2 Z (Sp.via (Sp.prod (Sp.prod Sp.unit)))<|Es (sto 2 Z Z fH Z z7e)<|Zn<|z0s<|gSR<|Zq (faB 2 Z Z Tryz.underlying27 Z (by exact zc0))<|Zq (ld 2 Z Z (fP (z0a _)) zf9 Z)<|Zq (z3s Z .rd Z tu25)<|Zq (I.gtr Z Z)<|Zj Z (fun h8=>?_) (fun h8=>?_)
  ·
   refine gSR<|Zq (zz1 [(0,1),(1,1)] Tryz.underlying27 z7e (ZrE.nilS (ZrE.nilS ZrE.nil)) Z (zn2.done Z))<|Es (zze 1 Z Z (z0q.cast (z0q.cons z0e (z0q.cons z0e z0q.nil)) Z) Z (z6j.cons z23 (z6j.cons z23 z6j.nil)) (z0q.cast (z0q.cons z0e (z0q.cons z0e z0q.nil)) Z) z7e)<|Zb Z<|z0l<|z0w<|zrm aZ [.rd (z02 aZ) [],.val (.slice none 0 0)] 1 [] [.val (.slice none 0 0)] Z Z Z<|zrm z04 [.rd (z02 aZ) [],.rd (z02 z04) []] 1 [.rd (z02 aZ) []] [] Z Z Z<|eJoi (R:=z01) (⟨[],[]⟩:z00) 1 Z (Sp.via (Sp.prod (Sp.prod Sp.unit)))<|zcn [] [1001] Z (eC 1 Z Z zb2<|eE Z<|eN) (y1 Z)
  ·
   refine Zt<|gSR<|Zq (ld 2 Z Z fH zb2 Z)<|zbv aZ [.rd (z02 aZ) [],.val (.slice none 0 0)] 1 [] [.val (.slice none 0 0)] Z Z Z<|zbv z04 [.rd (z02 aZ) [],.rd (z02 z04) []] 1 [.rd (z02 aZ) []] [] Z Z Z<|ze3 (R:=z01) (⟨[],[]⟩:z00) 1 Z (Sp.via (Sp.prod (Sp.prod Sp.unit)))<|Es (sto 1 Z Z fH Z z7e)<|Zb Z<|z0l<|zcn [] [1001] Z (eC 1 Z Z zb2<|eE Z<|eN) (y1 Z)
def z67 (a0:List z00) (s4:(List V3) × (List z05) × Int) (s7:(List V3) × (List z05) × Int):Option (Sum ((List V3) × (List z05)) ((List V3) × (List z05) × Int)) :=
 idx a0 s4.2.2 >>= fun x8 =>
 if decide (s7.2.2<(x8.IDs.length:Int)) then
  idx a0 s4.2.2 >>= fun x11 =>
  idx x11.IDs s7.2.2 >>= fun x13 =>
  z2f s7.1 x13 >>= fun r15 =>
  if decide (r15<0) then
   idx a0 s4.2.2 >>= fun x18 =>
   idx x18.IDs s7.2.2 >>= fun x20 =>
   idx a0 s4.2.2 >>= fun x22 =>
   idx x22.Ops s7.2.2 >>= fun x24 =>
   zcc (⟨s7.1,s7.2.1⟩:z00) x20 x24 >>= fun r26 =>
   some (w64 (s7.2.2+1)) >>= fun y28 =>
   some (.inr (r26.IDs,r26.Ops,y28))
  else
   some (w64 (s7.2.2+1)) >>= fun y29 =>
   some (.inr (s7.1,s7.2.1,y29))
 else
  some (.inl (s7.1,s7.2.1))
def z6a (a0:List z00) (s4:(List V3) × (List z05) × Int):Option (Sum ((List V3) × (List z05)) ((List V3) × (List z05) × Int)) :=
 if decide (s4.2.2<(a0.length:Int)) then
  (iter (z67 a0 s4) (s4.1,s4.2.1,0)) >>= fun s6 =>
  some (w64 (s4.2.2+1)) >>= fun y30 =>
  some (.inr (s6.1,s6.2,y30))
 else
  some (.inl (s4.1,s4.2.1))
def zcv (a0:List z00):Option (z00) :=
 (iter (z6a a0) ([],[],0)) >>= fun s3 =>
 some (⟨s3.1,s3.2⟩:z00)
def zcq (a0:List z00):Option (z00 × Int) :=
 z3l a0 >>= fun r2 =>
 if r2 != 0 then
  some ((⟨[],[]⟩:z00),r2)
 else
  zcv a0 >>= fun r5 =>
  if decide (60<(r5.Ops.length:Int)) then
   some ((⟨[],[]⟩:z00),4)
  else
   some (r5,0)
def zc2 (a0:Int) (c1_0:List z00):Option (Bool) :=
 some (a0==(c1_0.length:Int)) >>= fun y1 =>
 some y1
theorem zhm (a0:Int) (p1_0:Value) (c1_0:List z00):z1t Tryz.prog 52 [.rd z0c a0,.val (z06 p1_0 0)] [(1,some (p1_0,.box 22 [.rd (z02 z01) c1_0]))] (zc2 a0 c1_0) (fun r nv=>⟨[.rd z0d r],[(1,some (p1_0,.box 22 [.rd (z02 z01) c1_0]))]⟩):=by
 refine z2p 8 Tryz.func52 Z Z Z fun H w=>?_
 refine gSR<|Zb Z<|gSR<|Zm Z<|Zq (ld 1 Z Z fH ty22 Z)<|Zq (z3s Z .rd Z tu22)<|Zq (I.eql Z Z)<|Za Z<|z1x 3 Z fun y1=>Zn<|z0l<|Ze [] [1] Z
def zaf (x8:z00) (s11:(List (V3 × Int)) × (List (V3 × z05)) × Int):Option (Sum ((List (V3 × Int)) × (List (V3 × z05))) ((List (V3 × Int)) × (List (V3 × z05)) × Int)) :=
 if decide (s11.2.2<(x8.IDs.length:Int)) then
  idx x8.IDs s11.2.2 >>= fun x13 =>
  (some (zbr s11.1 x13 (w64 (((z3q s11.1 x13).getD 0)+1)))) >>= fun s16 =>
  idx x8.Ops s11.2.2 >>= fun x19 =>
  some (.inr (s16,zbr s11.2.1 x13 x19,w64 (s11.2.2+1)))
 else
  some (.inl (s11.1,s11.2.1))
def z5r (a0:List z00) (s5:(List (V3 × Int)) × (List (V3 × z05)) × Int):Option (Sum ((List (V3 × Int)) × (List (V3 × z05))) ((List (V3 × Int)) × (List (V3 × z05)) × Int)) :=
 if decide (s5.2.2<(a0.length:Int)) then
  (idx a0 s5.2.2 >>= fun x8 =>
  iter (zaf x8) (s5.1,s5.2.1,0)) >>= fun s7 =>
  some (.inr (s7.1,s7.2,w64 (s5.2.2+1)))
 else
  some (.inl (s5.1,s5.2.1))
def z3u (c1_0:List z00) (k27:V3) (x28:Int) (s25:(List V3)):Option ((List V3)) :=
 zc2 x28 c1_0 >>= fun r37 =>
 if r37 then
  app 32 s25 [k27] >>= fun x41 =>
  some x41
 else
  some s25
def za6 (s4:(List (V3 × Int)) × (List (V3 × z05))) (r44:List V3) (s47:(List z05) × Int):Option (Sum ((List z05)) ((List z05) × Int)) :=
 if decide (s47.2<(r44.length:Int)) then
  idx r44 s47.2 >>= fun x50 =>
  z0p (((z3q s4.2 x50).getD (⟨0,[],0,(⟨0,[],(⟨0,0,0,[]⟩:z03)⟩:z07),(⟨0,0⟩:z08)⟩:z05)).Preds) >>= fun r54 =>
  app 112 s47.1 [(⟨((z3q s4.2 x50).getD (⟨0,[],0,(⟨0,[],(⟨0,0,0,[]⟩:z03)⟩:z07),(⟨0,0⟩:z08)⟩:z05)).Author,r54,((z3q s4.2 x50).getD (⟨0,[],0,(⟨0,[],(⟨0,0,0,[]⟩:z03)⟩:z07),(⟨0,0⟩:z08)⟩:z05)).Stamp,((z3q s4.2 x50).getD (⟨0,[],0,(⟨0,[],(⟨0,0,0,[]⟩:z03)⟩:z07),(⟨0,0⟩:z08)⟩:z05)).Act,((z3q s4.2 x50).getD (⟨0,[],0,(⟨0,[],(⟨0,0,0,[]⟩:z03)⟩:z07),(⟨0,0⟩:z08)⟩:z05)).Sig⟩:z05)] >>= fun x57 =>
  some (.inr (x57,w64 (s47.2+1)))
 else
  some (.inl s47.1)
def z3b (a0:List z00) (c1_0:List z00):Option (z00) :=
 (iter (z5r a0) (([]:List (V3 × Int)),([]:List (V3 × z05)),0)) >>= fun s4 =>
 (zga (fun e s=>z3u c1_0 e.1 e.2 s) s4.1 []) >>= fun r32 =>
 zs0 r32 >>= fun r44 =>
 (iter (za6 s4 r44) ([],0)) >>= fun s46 =>
 some (⟨r44,s46⟩:z00)
end
section
open Go Go.RowKit
set_option maxRecDepth 100000
theorem zac (a0:List z00) (p1_0:Value) (c1_0:List z00):z1t Tryz.prog 49 [.rd (z02 z01) a0,.val (.func (.func 52) #[] #[z06 p1_0 0])] [(1,some (p1_0,.box 22 [.rd (z02 z01) c1_0]))] (z3b a0 c1_0) (fun r nv=>⟨[.rd z01 r],[(1,some (p1_0,.box 22 [.rd (z02 z01) c1_0]))]⟩):=by
 refine z2p 89 Tryz.func49 Z Z Z fun H w=>?_
 refine gSR<|Eb Z (z5o 2 z7e (ZrE.nilS (ZrE.nilS ZrE.nil))) fun v1=>Zn<|gSR<|Ef Z (mkm aZ z0c 3 (Or.inl Z) Tryz.underlying123) fun v2=>Zb Z<|gSR<|Ef Z (mkm aZ z04 4 (Or.inl Z) Tryz.underlying106) fun v3=>Zb Z<|z8t (fun (s4:(List (V3 × Int)) × (List (V3 × z05))) aa ww=>Sta (ctx 89 H [(1,some (p1_0,.box 22 [.rd (z02 z01) c1_0]))] w) [(1,.val (.func (.func 52) #[] #[z06 p1_0 0])),(4,.val (z06 v1 0)),(5,.val v2),(6,.val v3)] [(1,some (p1_0,.box 22 [.rd (z02 z01) c1_0])),(2,some (v1,.box 27 [.val (.slice none 0 0),.val (.slice none 0 0)])),(3,some (v2,.map aZ z0c s4.1)),(4,some (v3,.map aZ z04 s4.2))] aa ww) ?_ (fun s4=>?_)
 ·
  refine gSR<|Zm Z<|Zq (z3s Z .rd Z tu22)<|Zm Z<|Zn<|z1w (fun (s5:(List (V3 × Int)) × (List (V3 × z05)) × Int) aa ww=>Sta (ctx 89 H [(1,some (p1_0,.box 22 [.rd (z02 z01) c1_0]))] w) [(1,.val (.func (.func 52) #[] #[z06 p1_0 0])),(4,.val (z06 v1 0)),(5,.val v2),(6,.val v3),(19,.rd (z02 z01) a0),(20,.rd z0c (a0.length:Int)),(21,.rd z0c s5.2.2)] [(1,some (p1_0,.box 22 [.rd (z02 z01) c1_0])),(2,some (v1,.box 27 [.val (.slice none 0 0),.val (.slice none 0 0)])),(3,some (v2,.map aZ z0c s5.1)),(4,some (v3,.map aZ z04 s5.2.1))] aa ww) (fun aa ww h=>Zu h [1,2,3,4]) (fun s5=>?_)
  refine gSR<|Zq (I.lss Z Z)<|Zn<|z0s<|gIf Z Z (fun h6=>?_) (fun h6=>?_)
  ·
   refine Zt<|z8t (fun (s7:(List (V3 × Int)) × (List (V3 × z05))) aa ww=>Sta (ctx 89 H [(1,some (p1_0,.box 22 [.rd (z02 z01) c1_0]))] w) [(1,.val (.func (.func 52) #[] #[z06 p1_0 0])),(4,.val (z06 v1 0)),(5,.val v2),(6,.val v3),(19,.rd (z02 z01) a0),(20,.rd z0c (a0.length:Int)),(21,.rd z0c s5.2.2)] [(1,some (p1_0,.box 22 [.rd (z02 z01) c1_0])),(2,some (v1,.box 27 [.val (.slice none 0 0),.val (.slice none 0 0)])),(3,some (v2,.map aZ z0c s7.1)),(4,some (v3,.map aZ z04 s7.2))] aa ww) ?_ (fun s7=>?_)
   ·
    refine z4w<|gSR<|z0u fun x8 h9=>Zq (ixR Z Z h9 tu22 z7e Z)<|Zq (ldR Z zb2)<|Eb Z (z5o 5 z7e (ZrE.nilS (ZrE.nilS ZrE.nil))) fun v10=>zbv aZ [.rd (z02 aZ) [],.val (.slice none 0 0)] 5 [] [.val (.slice none 0 0)] Z Z Z<|zbv z04 [.rd (z02 aZ) [],.rd (z02 z04) []] 5 [.rd (z02 aZ) []] [] Z Z Z<|ze3 (R:=z01) (⟨[],[]⟩:z00) 5 Z (Sp.via (Sp.prod (Sp.prod Sp.unit)))<|Es (sto 5 Z Z fH Z z7e)<|Zn<|gSR<|Zq (faB 5 Z Z Tryz.underlying27 Z (by exact z6b))<|Zq (ld 5 Z Z (fP (z09 _)) z8l Z)<|Zq (z3s Z .rd Z tu24)<|Zm Z<|Zn<|z1w (fun (s11:(List (V3 × Int)) × (List (V3 × z05)) × Int) aa ww=>Sta (ctx 89 H [(1,some (p1_0,.box 22 [.rd (z02 z01) c1_0]))] w) [(1,.val (.func (.func 52) #[] #[z06 p1_0 0])),(4,.val (z06 v1 0)),(5,.val v2),(6,.val v3),(8,.val (z06 v10 0)),(19,.rd (z02 z01) a0),(20,.rd z0c (a0.length:Int)),(21,.rd z0c s5.2.2),(26,.rd (z02 aZ) x8.IDs),(27,.rd z0c (x8.IDs.length:Int)),(28,.rd z0c s11.2.2)] [(1,some (p1_0,.box 22 [.rd (z02 z01) c1_0])),(2,some (v1,.box 27 [.val (.slice none 0 0),.val (.slice none 0 0)])),(3,some (v2,.map aZ z0c s11.1)),(4,some (v3,.map aZ z04 s11.2.1)),(5,some (v10,.box 27 [.rd z01 x8]))] aa ww) (fun aa ww h=>Zu h [1,2,3,4,5]) (fun s11=>?_)
    refine gSR<|Zq (I.lss Z Z)<|Zn<|z0s<|gIf Z Z (fun h12=>?_) (fun h12=>?_)
    ·
     refine Zt<|z0s<|z4w<|gSR<|Zm Z<|z0u fun x13 h14=>Zq (ixR Z Z h14 tu24 z33 Z)<|Zq (ldR Z z4x)<|Eb Z (z5o 6 z33 (.zr (R:=aZ) (x:=(Vector.replicate 32 0)) zex)) fun v15=>Za Z<|Es (sto 6 Z Z fH Z z33)<|Zn<|z8t (fun (s16:(List (V3 × Int))) aa ww=>Sta (ctx 89 H [(1,some (p1_0,.box 22 [.rd (z02 z01) c1_0]))] w) [(1,.val (.func (.func 52) #[] #[z06 p1_0 0])),(4,.val (z06 v1 0)),(5,.val v2),(6,.val v3),(8,.val (z06 v10 0)),(9,.rd z0c s11.2.2),(10,.val (z06 v15 0)),(19,.rd (z02 z01) a0),(20,.rd z0c (a0.length:Int)),(21,.rd z0c s5.2.2),(26,.rd (z02 aZ) x8.IDs),(27,.rd z0c (x8.IDs.length:Int)),(28,.rd z0c s11.2.2)] [(1,some (p1_0,.box 22 [.rd (z02 z01) c1_0])),(2,some (v1,.box 27 [.val (.slice none 0 0),.val (.slice none 0 0)])),(3,some (v2,.map aZ z0c s16)),(4,some (v3,.map aZ z04 s11.2.1)),(5,some (v10,.box 27 [.rd z01 x8])),(6,some (v15,.box 78 [.rd aZ x13]))] aa ww) ?_ (fun s16=>?_)
     ·
      refine z6n [3] mixed Z Z<|hTk 0 Z Z (mv Z)<|hTk 1 Z Z (ld 6 Z Z fH z4x Z)<|hAlt [2,4] (by kernel_rfl) Z ⟨?_,?_,trivial⟩
      ·
       refine oRun 2 Z (gd0 Z) Z Z z27 (mlk Z (.own 3 Z Z) Z zr0 Tryz.underlying123 ti3 (Zr.num Z) Z)<|hTk 3 Z Z (I.add Z Z)<|hDoE 4 Z (by kernel_rfl) (gd0 Z) Z Z Z Z (men 3 Z Z Z zr0 Tryz.underlying123 ti3 (Zr.num Z) Z) fun n17=>Zf 5 Z Z z27 (ext Z Z)<|Zp 6 Z Z Z Z Z (ens 3 Z Z Z Z)<|z30 (by kernel_rfl)<|z3t (fun aa ww h=>Zu h [1,2,3,4,5,6])
      ·
       refine oDoE 4 Z (gd0 Z) Z Z Z Z (men 3 Z Z Z zr0 Tryz.underlying123 ti3 (Zr.num Z) Z) fun n18=>Zf 5 Z Z z27 (ext Z Z)<|hRun 2 Z (by kernel_rfl) (gd0 Z) Z Z z27 (mlkP 3 Z Z Z zr0 Tryz.underlying123)<|hTk 3 Z Z (I.add Z Z)<|Zp 6 Z Z Z Z Z (ens 3 Z Z Z Z)<|z30 (by kernel_rfl)<|z3t (fun aa ww h=>Zu h [1,2,3,4,5,6])
     ·
      refine z6n [4] mixed Z Z<|hTk 0 Z Z (mv Z)<|hTk 1 Z Z (ld 6 Z Z fH z4x Z)<|hTk 2 Z Z (faB 5 Z Z Tryz.underlying27 Z (by exact zc0))<|hTk 3 Z Z (ld 5 Z Z (fP (z0a _)) zf9 Z)<|hTk 4 Z Z (mv Z)<|z4c fun x19 h20=>hTk 5 Z Z (ixR Z Z h20 tu25 zax Z)<|hTk 6 Z Z (ldR Z ze5)<|Zp 7 Z Z Z Z Z (mup 4 Z Z Z Z zr0 Tryz.underlying106)<|z30 (by kernel_rfl)<|z38<|z0k<|z28<|Zq (I.add Z Z)<|Zm Z<|z1s<|z1g (fun aa ww h=>Zu h [1,2,3,4,5])
    ·
     refine z1r<|z0x<|z10<|z38<|z3t (fun aa ww h=>Zu h [1,2,3,4])
   ·
    refine z28<|Zq (I.add Z Z)<|Zm Z<|z1s<|z1g (fun aa ww h=>Zu h [1,2,3,4])
  ·
   refine z1r<|z0x<|z10<|z3t (fun aa ww h=>Zu h [1,2,3,4])
 ·
  refine gSR<|Eb Z (z5o 58 z7e (ZrE.nilS (ZrE.nilS ZrE.nil))) fun v21=>Zn<|z0s<|gSR<|Zm Z<|z169 59 3 Z Z Z Tryz.underlying123 fun u22 es23 ck24=>Zn<|zxg aZ 78 63<|z16s (z126 (L:=fun (n26:Nat→Value)=>[(1,.val (.func (.func 52) #[] #[z06 p1_0 0])),(4,.val (z06 v1 0)),(6,.val v3),(11,.val (z06 v21 0)),(49,.val u22)]) (nv0:=nvl [(.slice none 0 0)]) 59 3 List.Perm (fun _ _ _ h k=>h.trans k) (fun _=>.refl _) (AppF.comm (by_:=32) ?_) (fun (s25:(List V3)) (n26:Nat→Value)=>[(1,some (p1_0,.box 22 [.rd (z02 z01) c1_0])),(2,some (v1,.box 27 [.val (.slice none 0 0),.val (.slice none 0 0)])),(4,some (v3,.map aZ z04 s4.2)),(62,some ((n26 0),.list aZ 78 s25)),(58,some (v21,.box 27 [.val (n26 0),.val (.slice none 0 0)]))]) (fun aa ww h=>Zu h [59,3,1,2,4,63,58]) (fun _=>rfl) Z Z (fun _ _ _=>(Zs Z Z Z Z<|sS Z<|sN)) (fun _ _=>rfl) Z (fun Ci30 Cm31 k27 x28 s25 n26 hI29=>?_)) (fun r32=>eExM fun xp33 n35 hp34=>?_)
  ·
   intro e; unfold z3u; repeat first | exact ⟨some [], fun _=>rfl⟩ | exact zus _ | refine zpm fun _=>?_ | refine ztr ?_ ?_
  ·
   refine z4w<|gSR<|Zq (entM 59 3 Z Z Z hI29)<|Zq (ext Z Z)<|Zq (ext Z Z)<|Eb Z (z5o 64 z33 (.zr (R:=aZ) (x:=(Vector.replicate 32 0)) zex)) fun v36=>Es (sto 64 Z Z fH Z z33)<|Zb Z<|gSR<|Zm Z<|Zm Z<|zly [1] [(1,1)] (gd0 Z) Z Z Tryz.func52 Z Z (zhm _ _ _) (Y1 Z) (cQ 1 Z<|cN) (y1 Z) fun r37 n38=>Zj Z (fun h39=>?_) (fun h39=>?_)
   ·
    refine z28<|Zq (faB 58 Z Z Tryz.underlying27 Z (by exact z6b))<|Zq (ldV 58 Z Z (At.cast At.here Z) sc24 Z)<|Zq (ld 64 Z Z fH z4x Z)<|Ef Z (lit (R:=aZ) ([k27]:List V3) 65 (pP Z Z<|pN) Z tu24 z33 Z Z) fun v40=>zkx 65 [61] Z (fS Z<|fN)<|z0u fun x41 h42=>Ef Z (apn 62 Z Z Z .rd h42 tu24 z33 Z Z Z) fun v43=>Zq (faB 58 Z Z Tryz.underlying27 Z (by exact z6b))<|Es (zta 58 Z Z (zbp.cast (zbp.here z0e) Z) Z z23 z0e z6b)<|z1s<|z38<|z3t (fun aa ww h=>⟨nvl [v43],Zu h [59,3,1,2,4,62,58]⟩)
   ·
    refine z2u<|z38<|z3t (fun aa ww h=>⟨nvl [(n26 0)],Zu h [59,3,1,2,4,62,58]⟩)
  ·
   refine z0k<|gSR<|Zq (faB 58 Z Z Tryz.underlying27 Z (by exact z6b))<|Zq (ldV 58 Z Z (At.cast At.here Z) sc24 Z)<|call [62] [(1,62)] Z Tryz.func88 Z Z (z1t.congr (zox (hp34).symm) (zvi _ _)) (Y2 Z Z) (y1 Z) fun r44 n45=>Zn<|z8t (fun (s46:(List z05)) aa ww=>∃ nv:Nat→Value,Sta (ctx 89 H [(1,some (p1_0,.box 22 [.rd (z02 z01) c1_0]))] w) [(4,.val (z06 v1 0)),(11,.val (z06 v21 0))] [(2,some (v1,.box 27 [.val (.slice none 0 0),.val (.slice none 0 0)])),(62,some ((n35 0),.list aZ 78 r44)),(70,some ((nv 0),.list z04 72 s46)),(58,some (v21,.box 27 [.val (n35 0),.val (nv 0)])),(1,some (p1_0,.box 22 [.rd (z02 z01) c1_0]))] aa ww) ?_ (fun s46=>?_)
   ·
    refine gSR<|Zq (faB 58 Z Z Tryz.underlying27 Z (by exact z6b))<|Zq (ldV 58 Z Z (At.cast At.here Z) sc24 Z)<|Zq (z3s Z (.own 62 Z) Z tu24)<|Zm Z<|Zn<|zxg z04 72 76<|z1w (fun (s47:(List z05) × Int) aa ww=>∃ nv:Nat→Value,Sta (ctx 89 H [(1,some (p1_0,.box 22 [.rd (z02 z01) c1_0]))] w) [(4,.val (z06 v1 0)),(6,.val v3),(11,.val (z06 v21 0)),(68,.val (n35 0)),(69,.rd z0c (r44.length:Int)),(70,.rd z0c s47.2)] [(2,some (v1,.box 27 [.val (.slice none 0 0),.val (.slice none 0 0)])),(4,some (v3,.map aZ z04 s4.2)),(62,some ((n35 0),.list aZ 78 r44)),(75,some ((nv 0),.list z04 72 s47.1)),(58,some (v21,.box 27 [.val (n35 0),.val (nv 0)])),(1,some (p1_0,.box 22 [.rd (z02 z01) c1_0]))] aa ww) (fun aa ww h=>⟨nvl [(.slice none 0 0)],Zu h [2,4,62,76,58,1]⟩) (fun s47=>?_)
    refine gEx fun n48=>gSR<|Zq (I.lss Z Z)<|Zn<|z0s<|gIf Z Z (fun h49=>?_) (fun h49=>?_)
    ·
     refine Zt<|z0s<|z4w<|gSR<|z0u fun x50 h51=>Zq (ixO 62 Z Z Z h51 tu24 z33)<|Zq (ld 62 Z Z (Foc.el h51) z4x Z)<|Eb Z (z5o 77 z33 (.zr (R:=aZ) (x:=(Vector.replicate 32 0)) zex)) fun v52=>Es (sto 77 Z Z fH Z z33)<|Zn<|gSR<|Zm Z<|Zq (ld 77 Z Z fH z4x Z)<|Zq (mlk Z (.own 4 Z Z) Z zr0 Tryz.underlying106 zax zr72 Z)<|Eb Z (z5o 78 zax (ZrE.rd (R:=z0n) (x:=0) (Zr.num Z) (ZrE.nilS (ZrE.rd (R:=z2w) (x:=0) (Zr.num Z) (ZrE.rd (R:=z0h) (x:=(⟨0,[],(⟨0,0,0,[]⟩:z03)⟩:z07)) zom (ZrE.rd (R:=z0o) (x:=(⟨0,0⟩:z08)) zqy ZrE.nil Z) Z) Z)) Z)) fun v53=>zbv aZ [.rd z0n 0,.rd (z02 aZ) [],.rd z2w 0,.rd z0h (⟨0,[],(⟨0,0,0,[]⟩:z03)⟩:z07),.rd z0o (⟨0,0⟩:z08)] 78 [.rd z0n 0] [.rd z2w 0,.rd z0h (⟨0,[],(⟨0,0,0,[]⟩:z03)⟩:z07),.rd z0o (⟨0,0⟩:z08)] Z Z Z<|ze3 (R:=z04) (⟨0,[],0,(⟨0,[],(⟨0,0,0,[]⟩:z03)⟩:z07),(⟨0,0⟩:z08)⟩:z05) 78 Z (Sp.via (Sp.prod (Sp.prod (Sp.prod (Sp.prod (Sp.prod Sp.unit))))))<|Es (sto 78 Z Z fH Z zax)<|Zn<|gSR<|Zq (faB 78 Z Z Tryz.underlying72 Z (by exact z6b))<|Zq (ld 78 Z Z (fP (z0t _)) z8l Z)<|Zc [] [(100,79)] Tryz.func55 Z (z1m _) fun r54 n55=>Zq (faB 78 Z Z Tryz.underlying72 Z (by exact z6b))<|lSpl (R:=z04) 78 Z (Sp.via (Sp.prod (Sp.prod (Sp.prod (Sp.prod (Sp.prod Sp.unit))))))<|Es (zta 78 Z Z (zbp.cast (zbp.next z2c (zbp.here z2c)) Z) Z z23 z0e z6b)<|Zn<|z28<|Zq (faB 58 Z Z Tryz.underlying27 Z (by exact zc0))<|Zq (ldV 58 Z Z (At.cast (At.next z0e At.here) Z) sc25 Z)<|zxy [.rd z0n (((z3q s4.2 x50).getD (⟨0,[],0,(⟨0,[],(⟨0,0,0,[]⟩:z03)⟩:z07),(⟨0,0⟩:z08)⟩:z05)).Author),.rd (z02 aZ) r54,.rd z2w (((z3q s4.2 x50).getD (⟨0,[],0,(⟨0,[],(⟨0,0,0,[]⟩:z03)⟩:z07),(⟨0,0⟩:z08)⟩:z05)).Stamp),.rd z0h (((z3q s4.2 x50).getD (⟨0,[],0,(⟨0,[],(⟨0,0,0,[]⟩:z03)⟩:z07),(⟨0,0⟩:z08)⟩:z05)).Act),.rd z0o (((z3q s4.2 x50).getD (⟨0,[],0,(⟨0,[],(⟨0,0,0,[]⟩:z03)⟩:z07),(⟨0,0⟩:z08)⟩:z05)).Sig)] 78 79 [.rd z0n (((z3q s4.2 x50).getD (⟨0,[],0,(⟨0,[],(⟨0,0,0,[]⟩:z03)⟩:z07),(⟨0,0⟩:z08)⟩:z05)).Author)] [.rd z2w (((z3q s4.2 x50).getD (⟨0,[],0,(⟨0,[],(⟨0,0,0,[]⟩:z03)⟩:z07),(⟨0,0⟩:z08)⟩:z05)).Stamp),.rd z0h (((z3q s4.2 x50).getD (⟨0,[],0,(⟨0,[],(⟨0,0,0,[]⟩:z03)⟩:z07),(⟨0,0⟩:z08)⟩:z05)).Act),.rd z0o (((z3q s4.2 x50).getD (⟨0,[],0,(⟨0,[],(⟨0,0,0,[]⟩:z03)⟩:z07),(⟨0,0⟩:z08)⟩:z05)).Sig)] Z Z Z Z Z<|ze3 (R:=z04) (⟨((z3q s4.2 x50).getD (⟨0,[],0,(⟨0,[],(⟨0,0,0,[]⟩:z03)⟩:z07),(⟨0,0⟩:z08)⟩:z05)).Author,r54,((z3q s4.2 x50).getD (⟨0,[],0,(⟨0,[],(⟨0,0,0,[]⟩:z03)⟩:z07),(⟨0,0⟩:z08)⟩:z05)).Stamp,((z3q s4.2 x50).getD (⟨0,[],0,(⟨0,[],(⟨0,0,0,[]⟩:z03)⟩:z07),(⟨0,0⟩:z08)⟩:z05)).Act,((z3q s4.2 x50).getD (⟨0,[],0,(⟨0,[],(⟨0,0,0,[]⟩:z03)⟩:z07),(⟨0,0⟩:z08)⟩:z05)).Sig⟩:z05) 78 Z (Sp.via (Sp.prod (Sp.prod (Sp.prod (Sp.prod (Sp.prod Sp.unit))))))<|Zq (ld 78 Z Z fH ze5 Z)<|Ef Z (lit (R:=z04) ([(⟨((z3q s4.2 x50).getD (⟨0,[],0,(⟨0,[],(⟨0,0,0,[]⟩:z03)⟩:z07),(⟨0,0⟩:z08)⟩:z05)).Author,r54,((z3q s4.2 x50).getD (⟨0,[],0,(⟨0,[],(⟨0,0,0,[]⟩:z03)⟩:z07),(⟨0,0⟩:z08)⟩:z05)).Stamp,((z3q s4.2 x50).getD (⟨0,[],0,(⟨0,[],(⟨0,0,0,[]⟩:z03)⟩:z07),(⟨0,0⟩:z08)⟩:z05)).Act,((z3q s4.2 x50).getD (⟨0,[],0,(⟨0,[],(⟨0,0,0,[]⟩:z03)⟩:z07),(⟨0,0⟩:z08)⟩:z05)).Sig⟩:z05)]:List z05) 80 (pP Z Z<|pN) Z tu25 zax Z Z) fun v56=>zkx 80 [84] Z (fS Z<|fN)<|z0u fun x57 h58=>Ef Z (apn 75 Z Z Z .rd h58 tu25 zax Z Z Z) fun v59=>Zq (faB 58 Z Z Tryz.underlying27 Z (by exact zc0))<|Es (zta 58 Z Z (zbp.cast (zbp.next z0e (zbp.here z0e)) Z) Z z23 z0e zc0)<|z1s<|z38<|z0k<|z28<|Zq (I.add Z Z)<|Zm Z<|z1s<|z1g (fun aa ww h=>⟨nvl [v59],Zu h [2,4,62,75,58,1]⟩)
    ·
     refine z1r<|z0x<|z10<|z3t (fun aa ww h=>⟨nvl [(n48 0)],Zu h [2,62,75,58,1]⟩)
   ·
    refine gEx fun n60=>gSR<|zxy [.rd (z02 aZ) r44,.val (n60 0)] 58 62 [] [.val (n60 0)] Z Z Z Z Z<|zxy [.rd (z02 aZ) r44,.rd (z02 z04) s46] 58 70 [.rd (z02 aZ) r44] [] Z Z Z Z Z<|ze3 (R:=z01) (⟨r44,s46⟩:z00) 58 Z (Sp.via (Sp.prod (Sp.prod Sp.unit)))<|Zq (ld 58 Z Z fH zb2 Z)<|zbv aZ [.rd (z02 aZ) [],.val (.slice none 0 0)] 2 [] [.val (.slice none 0 0)] Z Z Z<|zbv z04 [.rd (z02 aZ) [],.rd (z02 z04) []] 2 [.rd (z02 aZ) []] [] Z Z Z<|ze3 (R:=z01) (⟨[],[]⟩:z00) 2 Z (Sp.via (Sp.prod (Sp.prod Sp.unit)))<|Es (sto 2 Z Z fH Z z7e)<|Zn<|z0l<|zcn [] [1] Z (eC 2 Z Z zb2<|eN) (y1 Z)
def zbs (a0:List z00):Option (z00 × Int) :=
 z4t a0 >>= fun r3 =>
 if r3 != 0 then
  some ((⟨[],[]⟩:z00),r3)
 else
  z3b a0 a0 >>= fun r6 =>
  some (r6,0)
theorem zkk (a0:List z00):z1t Tryz.prog 15 [.rd (z02 z01) a0] [zG1] (zbs a0) (fun r nv=>⟨[.rd z01 r.1,.rd z0c r.2],[(1001,some (.bool true,.glob 1 (z3m 64 z0n) z5x))]⟩):=by
 refine z2p 14 Tryz.func15 Z Z Z fun H w=>?_
 refine gSR<|Eb Z (bx 1 Z) fun v1=>Eb Z (z5o 2 z7e (ZrE.nilS (ZrE.nilS ZrE.nil))) fun v2=>Zb Z<|z0s<|gSR<|Zq (ld 1 Z Z fH ty22 Z)<|Zc [1001] [] Tryz.func20 Z (zc6 _) fun r3 n4=>Zb Z<|gSR<|Zm Z<|Zq (I.neq Z Z)<|Zj Z (fun h5=>?_) (fun h5=>?_)
 ·
  refine gSR<|Zq (zz1 [(0,1),(1,1)] Tryz.underlying27 z7e (ZrE.nilS (ZrE.nilS ZrE.nil)) Z (zn2.done Z))<|Zm Z<|Es (zze 2 Z Z (z0q.cast (z0q.cons z0e (z0q.cons z0e z0q.nil)) Z) Z (z6j.cons z23 (z6j.cons z23 z6j.nil)) (z0q.cast (z0q.cons z0e (z0q.cons z0e z0q.nil)) Z) z7e)<|Zb Z<|z0l<|z0w<|zrm aZ [.rd (z02 aZ) [],.val (.slice none 0 0)] 2 [] [.val (.slice none 0 0)] Z Z Z<|zrm z04 [.rd (z02 aZ) [],.rd (z02 z04) []] 2 [.rd (z02 aZ) []] [] Z Z Z<|eJoi (R:=z01) (⟨[],[]⟩:z00) 2 Z (Sp.via (Sp.prod (Sp.prod Sp.unit)))<|zcn [] [1001] Z (eC 2 Z Z zb2<|eE Z<|eN) (y1 Z)
 ·
  refine Zt<|gSR<|Zq (ld 1 Z Z fH ty22 Z)<|Zq (mkf mp0 (mp1 Z))<|Zc [1] [(1,1)] Tryz.func49 Z (zac _ _ _) fun r6 n7=>zbv aZ [.rd (z02 aZ) [],.val (.slice none 0 0)] 2 [] [.val (.slice none 0 0)] Z Z Z<|zbv z04 [.rd (z02 aZ) [],.rd (z02 z04) []] 2 [.rd (z02 aZ) []] [] Z Z Z<|ze3 (R:=z01) (⟨[],[]⟩:z00) 2 Z (Sp.via (Sp.prod (Sp.prod Sp.unit)))<|Es (sto 2 Z Z fH Z z7e)<|Zb Z<|z0l<|zcn [] [1001] Z (eC 2 Z Z zb2<|eE Z<|eN) (y1 Z)
def z7p (a0:List z00) (s9:(List V3) × Int) (s12:(List V3) × Int):Option (Sum ((List V3)) ((List V3) × Int)) :=
 if decide (s12.2<(s9.1.length:Int)) then
  idx a0 s9.2 >>= fun x15 =>
  idx s9.1 s12.2 >>= fun x17 =>
  z2f x15.IDs x17 >>= fun r19 =>
  if decide (0≤r19) then
   idx s9.1 s12.2 >>= fun x22 =>
   app 32 s12.1 [x22] >>= fun x25 =>
   some (w64 (s12.2+1)) >>= fun y28 =>
   some (.inr (x25,y28))
  else
   some (w64 (s12.2+1)) >>= fun y29 =>
   some (.inr (s12.1,y29))
 else
  some (.inl s12.1)
def z4i (a0:List z00) (s9:(List V3) × Int):Option (Sum ((List V3)) ((List V3) × Int)) :=
 if decide (s9.2<(a0.length:Int)) then
  (iter (z7p a0 s9) ([],0)) >>= fun s11 =>
  some (w64 (s9.2+1)) >>= fun y31 =>
  some (.inr (s11,y31))
 else
  some (.inl s9.1)
def zfb (a0:List z00):Option (z00 × Int) :=
 z3l a0 >>= fun r2 =>
 if r2 != 0 then
  some ((⟨[],[]⟩:z00),r2)
 else
  if (a0.length:Int)==0 then
   some ((⟨[],[]⟩:z00),0)
  else
   idx a0 0 >>= fun x6 =>
   (iter (z4i a0) (x6.IDs,1)) >>= fun s8 =>
   idx a0 0 >>= fun x32 =>
   zdj x32 s8 >>= fun r34 =>
   some (r34,0)
def z34 (a0:List V3) (a1:V3) (s3:Int):Option (Sum (Sum Int Unit) Int) :=
 if decide (s3<(a0.length:Int)) then
  idx a0 s3 >>= fun x5 =>
  if decide (a1=x5) then
   some (.inl (.inl s3))
  else
   some (.inr (w64 (s3+1)))
 else
  some (.inl (.inr ()))
def z6p (a0:List V3) (a1:V3):Option (Int) :=
 z4y (iter (z34 a0 a1) 0) fun s2 =>
 some (-1)
theorem zcw (a0:List V3) (a1:V3):z1t Tryz.prog 92 [.rd (z02 aZ) a0,.rd aZ a1] [] (z6p a0 a1) (fun r nv=>⟨[.rd z0c r],[]⟩):=by
 refine z2p 19 Tryz.func92 Z Z Z fun H w=>?_
 refine gSR<|Eb Z (bx 1 Z) fun v1=>Zb Z<|z7b (fun (s2:Unit) aa ww=>Sta (ctx 19 H [] w) [] [] aa ww) ?_ (fun s2=>?_)
 ·
  refine gSR<|Zm Z<|Zq (z3s Z .rd Z tu24)<|Zm Z<|Zn<|z1w (fun (s3:Int) aa ww=>Sta (ctx 19 H [] w) [(0,.rd (z02 aZ) a0),(3,.val (z06 v1 0)),(7,.rd z0c (a0.length:Int)),(8,.rd z0c s3)] [(1,some (v1,.box 78 [.rd aZ a1]))] aa ww) (fun aa ww h=>Zu h [1]) (fun s3=>?_)
  refine gSR<|Zq (I.lss Z Z)<|Zn<|z0s<|gIf Z Z (fun h4=>?_) (fun h4=>?_)
  ·
   refine Zt<|z0s<|z4w<|gSR<|Zm Z<|Zb Z<|z0s<|zit mixed (by kernel_rfl)<|Rq Z (ld 1 Z Z fH z4x Z)<|Rq Z (mv Z)<|Rq Z (mv Z)<|z8f fun x5 h6=>Rq Z (ixR Z Z h6 tu24 z33 Z)<|Rq Z (ldR Z z4x)<|Rq Z (eqA Z Z eq78 Z Z gq78)<|ztz<|z0k<|gIf Z Z (fun h7=>?_) (fun h7=>?_)
   ·
    refine gSR<|Zm Z<|Zb Z<|z0l<|z3x<|z0w<|z6q<|z5w<|Ze [] [] Z
   ·
    refine z2u<|z38<|z0k<|z28<|Zq (I.add Z Z)<|Zm Z<|z1s<|z1g (fun aa ww h=>Zu h [1])
  ·
   refine z1r<|z0x<|z10<|z5p (fun aa ww h=>Zu h [])
 ·
  refine gSR<|Zb Z<|z0l<|Ze [] [] Z
def z3v (a0:List V3) (a1:V3):Option (Bool) :=
 z6p a0 a1 >>= fun r2 =>
 some (decide (0≤r2)) >>= fun y4 =>
 some y4
theorem zbx (a0:List V3) (a1:V3):z1t Tryz.prog 57 [.rd (z02 aZ) a0,.rd aZ a1] [] (z3v a0 a1) (fun r nv=>⟨[.rd z0d r],[]⟩):=by
 refine z2p 9 Tryz.func57 Z Z Z fun H w=>?_
 refine gSR<|Eb Z (bx 1 Z) fun v1=>Zb Z<|gSR<|Zm Z<|Zq (ld 1 Z Z fH z4x Z)<|Zc [] [] Tryz.func92 Z (zcw _ _) fun r2 n3=>Zq (I.geq Z Z)<|Za Z<|z1x 4 Z fun y4=>Zn<|z0l<|Ze [] [] Z
def z8j (a0:V3) (c1_0:z00):Option (Bool) :=
 z3v c1_0.IDs a0 >>= fun r2 =>
 some r2
theorem zdz (a0:V3) (p1_0:Value) (c1_0:z00):z1t Tryz.prog 56 [.rd aZ a0,.val (z06 p1_0 0)] [(1,some (p1_0,.box 27 [.rd z01 c1_0]))] (z8j a0 c1_0) (fun r nv=>⟨[.rd z0d r],[(1,some (p1_0,.box 27 [.rd z01 c1_0]))]⟩):=by
 refine z2p 8 Tryz.func56 Z Z Z fun H w=>?_
 refine gSR<|Eb Z (bx 2 Z) fun v1=>Zb Z<|gSR<|Zq (faB 1 Z Z Tryz.underlying27 Z (by exact z6b))<|Zq (ld 1 Z Z (fP (z09 _)) z8l Z)<|Zq (ld 2 Z Z fH z4x Z)<|Zc [] [] Tryz.func57 Z (zbx _ _) fun r2 n3=>Zb Z<|z0l<|Ze [] [1] Z
def z5m (a0:List V3) (c1_0:z00) (s2:Int):Option (Sum (Sum Int Unit) Int) :=
 if decide (s2<(a0.length:Int)) then
  idx a0 s2 >>= fun x4 =>
  z8j x4 c1_0 >>= fun r6 =>
  if r6 then
   some (.inl (.inl s2))
  else
   some (.inr (w64 (s2+1)))
 else
  some (.inl (.inr ()))
def z3n (a0:List V3) (c1_0:z00):Option (Int) :=
 z4y (iter (z5m a0 c1_0) 0) fun s1 =>
 some (-1)
theorem z5n (a0:List V3) (q0:Value) (l0:List V3) (p1_0:Value) (c1_0:z00):z1t Tryz.prog 91 [.vw aZ q0 l0 a0,.val (.func (.func 56) #[] #[z06 p1_0 0])] [(1,some (q0,.list aZ 78 l0)),(2,some (p1_0,.box 27 [.rd z01 c1_0]))] (z3n a0 c1_0) (fun r nv=>⟨[.rd z0c r],[(1,some (q0,.list aZ 78 l0)),(2,some (p1_0,.box 27 [.rd z01 c1_0]))]⟩):=by
 refine z2p 19 Tryz.func91 Z Z Z fun H w=>?_
 refine gSR<|Zb Z<|z7b (fun (s1:Unit) aa ww=>Sta (ctx 19 H [(1,some (q0,.list aZ 78 l0)),(2,some (p1_0,.box 27 [.rd z01 c1_0]))] w) [] [(1,some (q0,.list aZ 78 l0)),(2,some (p1_0,.box 27 [.rd z01 c1_0]))] aa ww) ?_ (fun s1=>?_)
 ·
  refine gSR<|Zm Z<|Zq (z3s Z (.vw 1 Z) Z tu24)<|Zm Z<|Zn<|z1w (fun (s2:Int) aa ww=>Sta (ctx 19 H [(1,some (q0,.list aZ 78 l0)),(2,some (p1_0,.box 27 [.rd z01 c1_0]))] w) [(0,.vw aZ q0 l0 a0),(1,.val (.func (.func 56) #[] #[z06 p1_0 0])),(7,.rd z0c (a0.length:Int)),(8,.rd z0c s2)] [(1,some (q0,.list aZ 78 l0)),(2,some (p1_0,.box 27 [.rd z01 c1_0]))] aa ww) (fun aa ww h=>Zu h [1,2]) (fun s2=>?_)
  refine gSR<|Zq (I.lss Z Z)<|Zn<|z0s<|gIf Z Z (fun h3=>?_) (fun h3=>?_)
  ·
   refine Zt<|z0s<|z4w<|gSR<|Zm Z<|Zb Z<|gSR<|Zm Z<|Zm Z<|Zm Z<|z0u fun x4 h5=>Zq (ixQ 1 Z Z Z h5 tu24 z33)<|Zq (ldQ 1 Z Z z4x Z)<|zly [2] [(1,2)] (gd0 Z) Z Z Tryz.func56 Z Z (zdz _ _ _) (Y1 Z) (cQ 2 Z<|cN) (y1 Z) fun r6 n7=>Zj Z (fun h8=>?_) (fun h8=>?_)
   ·
    refine gSR<|Zm Z<|Zb Z<|z0l<|z3x<|z0w<|z6q<|z5w<|Ze [] [1,2] Z
   ·
    refine z2u<|z38<|z0k<|z28<|Zq (I.add Z Z)<|Zm Z<|z1s<|z1g (fun aa ww h=>Zu h [1,2])
  ·
   refine z1r<|z0x<|z10<|z5p (fun aa ww h=>Zu h [1,2])
 ·
  refine gSR<|Zb Z<|z0l<|Ze [] [1,2] Z
def z62 (c1_0:z00) (s5:(List V3) × Int × Int):Option (Sum ((List V3) × Int) ((List V3) × Int × Int)) :=
 if decide (s5.2.2<(s5.1.length:Int)) then
  idx s5.1 s5.2.2 >>= fun x7 =>
  z8j x7 c1_0 >>= fun r10 =>
  if !r10 then
   idx s5.1 s5.2.1 >>= fun x13 =>
   some (w64 (s5.2.1+1)) >>= fun y15 =>
   some (w64 (s5.2.2+1)) >>= fun y16 =>
   some (.inr (s5.1.set (s5.2.1:Int).toNat x7,y15,y16))
  else
   some (w64 (s5.2.2+1)) >>= fun y17 =>
   some (.inr (s5.1,s5.2.1,y17))
 else
  some (.inl (s5.1,s5.2.1))
def z26 (c0:List V3) (c1_0:z00):Option ((List V3)) :=
 z3n c0 c1_0 >>= fun r1 =>
 if r1==(-1) then
  some c0
 else
  (iter (z62 c1_0) (c0,r1,w64 (r1+1))) >>= fun s4 =>
  chk (0≤s4.2∧s4.2≤(s4.1.length:Int)∧(s4.1.length:Int)≤(s4.1.length:Int)) >>= fun u18 =>
  chk ((s4.2:Int).toNat+(((s4.1.length:Int):Int).toNat - (s4.2:Int).toNat)≤s4.1.length) >>= fun u20 =>
  cut (clr s4.1 ((s4.2:Int).toNat) (((s4.1.length:Int):Int).toNat - (s4.2:Int).toNat) (Vector.replicate 32 0)) 0 s4.2 >>= fun x22 =>
  some x22
theorem z68 (p0:Value) (c0:List V3) (p1_0:Value) (c1_0:z00):z1t Tryz.prog 54 [.val p0,.val (.func (.func 56) #[] #[z06 p1_0 0])] [(1,some (p0,.list aZ 78 c0)),(2,some (p1_0,.box 27 [.rd z01 c1_0]))] (z26 c0 c1_0) (fun r nv=>⟨[.val (nv 0)],[(2,some (p1_0,.box 27 [.rd z01 c1_0])),(100,some (nv 0,.list aZ 78 r))]⟩):=by
 refine z2p 42 Tryz.func54 Z Z Z fun H w=>?_
 refine gSR<|Zb Z<|gSR<|Zm Z<|Zm Z<|call [1,2] [(1,1),(2,2)] Z Tryz.func91 Z Z (z5n _ _ _ _ _) (aW Z<|aQ Z<|aN) (Zi Z<|Zi Z<|rN) fun r1 n2=>Zb Z<|z0s<|gSR<|Zm Z<|Zq (I.eql Z Z)<|Zj Z (fun h3=>?_) (fun h3=>?_)
 ·
  refine gSR<|Zm Z<|Zb Z<|z0l<|z0w<|Ze [p0] [2,1] Z
 ·
  refine Zt<|z8t (fun (s4:(List V3) × Int) aa ww=>Sta (ctx 42 H [(1,some (p0,.list aZ 78 c0)),(2,some (p1_0,.box 27 [.rd z01 c1_0]))] w) [(0,.val p0),(5,.rd z0c s4.2)] [(1,some (p0,.list aZ 78 s4.1)),(2,some (p1_0,.box 27 [.rd z01 c1_0]))] aa ww) ?_ (fun s4=>?_)
  ·
   refine gSR<|Zm Z<|Zq (I.add Z Z)<|Zb Z<|z1w (fun (s5:(List V3) × Int × Int) aa ww=>Sta (ctx 42 H [(1,some (p0,.list aZ 78 c0)),(2,some (p1_0,.box 27 [.rd z01 c1_0]))] w) [(0,.val p0),(1,.val (.func (.func 56) #[] #[z06 p1_0 0])),(5,.rd z0c s5.2.1),(6,.rd z0c s5.2.2)] [(1,some (p0,.list aZ 78 s5.1)),(2,some (p1_0,.box 27 [.rd z01 c1_0]))] aa ww) (fun aa ww h=>Zu h [1,2]) (fun s5=>?_)
   refine z0s<|gSR<|Zm Z<|Zm Z<|Zq (z3s Z (.own 1 Z) Z tu24)<|Zq (I.lss Z Z)<|Zj Z (fun h6=>?_) (fun h6=>?_)
   ·
    refine Zt<|z0s<|z4w<|gSR<|Zm Z<|Zm Z<|z0u fun x7 h8=>Zq (ixO 1 Z Z Z h8 tu24 z33)<|Zq (ld 1 Z Z (Foc.el h8) z4x Z)<|Eb Z (z5o 3 z33 (.zr (R:=aZ) (x:=(Vector.replicate 32 0)) zex)) fun v9=>Es (sto 3 Z Z fH Z z33)<|Zn<|gSR<|Zm Z<|Zq (ld 3 Z Z fH z4x Z)<|zly [2] [(1,2)] (gd0 Z) Z Z Tryz.func56 Z Z (zdz _ _ _) (Y1 Z) (cQ 2 Z<|cN) (y1 Z) fun r10 n11=>Zq (zew Z)<|Zj Z (fun h12=>?_) (fun h12=>?_)
    ·
     refine gSR<|Zm Z<|Zm Z<|Zq (ld 3 Z Z fH z4x Z)<|z0u fun x13 h14=>Zq (ixO 1 Z Z Z h14 tu24 z33)<|Es (sto 1 Z Z (Foc.el h14) Z z33)<|Zn<|z28<|Zm Z<|Zq (I.add Z Z)<|Za Z<|z1x 5 Z fun y15=>z1s<|z38<|z0k<|z28<|Zm Z<|Zq (I.add Z Z)<|Za Z<|z1x 6 Z fun y16=>z1s<|z1g (fun aa ww h=>Zu h [1,2])
    ·
     refine z2u<|z38<|z0k<|z28<|Zm Z<|Zq (I.add Z Z)<|Za Z<|z1x 6 Z fun y17=>z1s<|z1g (fun aa ww h=>Zu h [1,2])
   ·
    refine z1r<|z0x<|z10<|z3t (fun aa ww h=>Zu h [1,2])
  ·
   refine gSR<|Zm Z<|Zm Z<|z0u fun u18 h19=>Zq (z15z 1 Z Z (.to Z) .no (z6g h19) tu24 z33)<|z0u fun u20 h21=>EsV (clrS 1 Z Z (z6g h21) Z tu24 z33 zex Z)<|Zn<|gSR<|Zm Z<|Zm Z<|z0u fun x22 h23=>Ef Z (cutO 1 Z Z Z h23 tu24 z33) fun v24=>Zb Z<|z0l<|Ze [v24] [2,1] Z
def z9m (a0:List z00) (r1:z00 × Int) (s6:(List (List V3)) × Int):Option (Sum ((List (List V3))) ((List (List V3)) × Int)) :=
 if decide (s6.2<(a0.length:Int)) then
  idx a0 s6.2 >>= fun x9 =>
  z0p r1.1.IDs >>= fun r12 =>
  z26 r12 x9 >>= fun r14 =>
  app 24 s6.1 [r14] >>= fun x17 =>
  some (.inr (x17,w64 (s6.2+1)))
 else
  some (.inl s6.1)
def zcd (a0:List z00):Option ((List (List V3)) × Int) :=
 zag a0 >>= fun r1 =>
 if r1.2 != 0 then
  some ([],r1.2)
 else
  (iter (z9m a0 r1) ([],0)) >>= fun s5 =>
  some (s5,0)
theorem zl6 (a0:List z00):z1t Tryz.prog 17 [.rd (z02 z01) a0] [zG1] (zcd a0) (fun r nv=>⟨[.val (nv 0),.rd z0c r.2],[(1001,some (.bool true,.glob 1 (z3m 64 z0n) z5x)),(100,some (nv 0,.list (z02 aZ) 24 r.1))]⟩):=by
 refine z2p 35 Tryz.func17 Z Z Z fun H w=>?_
 refine gSR<|Za Z<|Zb Z<|gSR<|Zm Z<|Zc [1001] [] Tryz.func13 Z (zf7 _) fun r1 n2=>Zm Z<|Zq (ext Z Z)<|Zq (ext Z Z)<|Eb Z (z5o 1 z7e (ZrE.nilS (ZrE.nilS ZrE.nil))) fun v3=>zbv aZ [.rd (z02 aZ) [],.val (.slice none 0 0)] 1 [] [.val (.slice none 0 0)] Z Z Z<|zbv z04 [.rd (z02 aZ) [],.rd (z02 z04) []] 1 [.rd (z02 aZ) []] [] Z Z Z<|ze3 (R:=z01) (⟨[],[]⟩:z00) 1 Z (Sp.via (Sp.prod (Sp.prod Sp.unit)))<|Es (sto 1 Z Z fH Z z7e)<|Zb Z<|z0s<|gSR<|Zm Z<|Zq (I.neq Z Z)<|Zj Z (fun h4=>?_) (fun h4=>?_)
 ·
  refine gSR<|Zm Z<|Za Z<|Zb Z<|z0l<|z0w<|zy4 (z02 aZ) 24 2<|Ze [(.slice none 0 0)] [1001,2] Z
 ·
  refine Zt<|gSR<|Zb Z<|z8t (fun (s5:(List (List V3))) aa ww=>∃ nv:Nat→Value,Sta (ctx 35 H [zG1] w) [(6,.val (nv 0))] [(7,some ((nv 0),.list (z02 aZ) 24 s5)),zG1] aa ww) ?_ (fun s5=>?_)
  ·
   refine gSR<|Zm Z<|Zq (z3s Z .rd Z tu22)<|Zm Z<|Zn<|zxg (z02 aZ) 24 1105<|z1w (fun (s6:(List (List V3)) × Int) aa ww=>∃ nv:Nat→Value,Sta (ctx 35 H [zG1] w) [(4,.val (z06 v3 0)),(6,.val (nv 0)),(18,.rd (z02 z01) a0),(19,.rd z0c (a0.length:Int)),(20,.rd z0c s6.2)] [(1,some (v3,.box 27 [.rd z01 r1.1])),(1104,some ((nv 0),.list (z02 aZ) 24 s6.1)),zG1] aa ww) (fun aa ww h=>⟨nvl [(.slice none 0 0)],Zu h [1,1105,1001]⟩) (fun s6=>?_)
   refine gEx fun n7=>gSR<|Zq (I.lss Z Z)<|Zn<|z0s<|gIf Z Z (fun h8=>?_) (fun h8=>?_)
   ·
    refine Zt<|z0s<|z4w<|gSR<|z0u fun x9 h10=>Zq (ixR Z Z h10 tu22 z7e Z)<|Zq (ldR Z zb2)<|Eb Z (z5o 1106 z7e (ZrE.nilS (ZrE.nilS ZrE.nil))) fun v11=>zbv aZ [.rd (z02 aZ) [],.val (.slice none 0 0)] 1106 [] [.val (.slice none 0 0)] Z Z Z<|zbv z04 [.rd (z02 aZ) [],.rd (z02 z04) []] 1106 [.rd (z02 aZ) []] [] Z Z Z<|ze3 (R:=z01) (⟨[],[]⟩:z00) 1106 Z (Sp.via (Sp.prod (Sp.prod Sp.unit)))<|Es (sto 1106 Z Z fH Z z7e)<|Zn<|gSR<|Zq (faB 1 Z Z Tryz.underlying27 Z (by exact z6b))<|Zq (ld 1 Z Z (fP (z09 _)) z8l Z)<|Zc [] [(100,1107)] Tryz.func55 Z (z1m _) fun r12 n13=>Zq (mkf mp0 (mp1 Z))<|Zc [1107,1106] [(100,1108),(2,1106)] Tryz.func54 Z (z68 _ _ _ _) fun r14 n15=>Zb Z<|z28<|Zm Z<|Zm Z<|zkx 1108 [28,9,30] Z (fS Z<|fS Z<|fS Z<|fN)<|Ef Z (lit (R:=(z02 aZ)) ([r14]:List (List V3)) 1109 (pP Z Z<|pN) Z tu38 z6b Z Z) fun v16=>zkx 1109 [31] Z (fS Z<|fN)<|z0u fun x17 h18=>Ef Z (apn 1104 Z Z Z .rd h18 tu38 z6b Z Z Z) fun v19=>Za Z<|z1s<|z38<|z0k<|z28<|Zq (I.add Z Z)<|Zm Z<|z1s<|z1g (fun aa ww h=>⟨nvl [v19],Zu h [1,1104,1001]⟩)
   ·
    refine z1r<|z0x<|z10<|z3t (fun aa ww h=>⟨nvl [(n7 0)],Zu h [1104,1001]⟩)
  ·
   refine gEx fun n20=>gSR<|Zm Z<|Za Z<|Zb Z<|z0l<|Ze [(n20 0)] [1001,7] Z
def z8c (a0:List z00) (r1:z00 × Int) (s6:(List (List V3)) × Int):Option (Sum ((List (List V3))) ((List (List V3)) × Int)) :=
 if decide (s6.2<(a0.length:Int)) then
  idx a0 s6.2 >>= fun x9 =>
  z9w x9.IDs r1.1.IDs >>= fun r11 =>
  app 24 s6.1 [r11] >>= fun x14 =>
  some (w64 (s6.2+1)) >>= fun y17 =>
  some (.inr (x14,y17))
 else
  some (.inl s6.1)
def zg2 (a0:List z00):Option ((List (List V3)) × Int) :=
 zcq a0 >>= fun r1 =>
 if r1.2 != 0 then
  some ([],r1.2)
 else
  (iter (z8c a0 r1) ([],0)) >>= fun s5 =>
  some (s5,0)
def z8o (a0:z00) (s7:(List ((List UInt8) × Bool)) × Int):Option (Sum ((List ((List UInt8) × Bool))) ((List ((List UInt8) × Bool)) × Int)) :=
 if decide (s7.2<(a0.Ops.length:Int)) then
  idx a0.Ops s7.2 >>= fun x9 =>
  if x9.Act.Kind != 1 then
   some (.inr (zbr s7.1 x9.Act.Key true,w64 (s7.2+1)))
  else
   some (.inr (s7.1,w64 (s7.2+1)))
 else
  some (.inl s7.1)
def z8i (k18:List UInt8) (x19:Bool) (s16:(List (List UInt8))):Option ((List (List UInt8))) :=
 app 16 s16 [k18] >>= fun x28 =>
 some x28
def zbt (a0:z00):Option ((List (List UInt8)) × Int) :=
 z5g a0 >>= fun r2 =>
 if r2 != 0 then
  some ([],r2)
 else
  (iter (z8o a0) (([]:List ((List UInt8) × Bool)),0)) >>= fun s6 =>
  (zga (fun e s=>z8i e.1 e.2 s) s6 []) >>= fun r23 =>
  zq3 r23 >>= fun r31 =>
  some (r31,0)
theorem zm7 (a0:z00):z1t Tryz.prog 23 [.rd z01 a0] [zG1] (zbt a0) (fun r nv=>⟨[.val (nv 0),.rd z0c r.2],[(1001,some (.bool true,.glob 1 (z3m 64 z0n) z5x)),(100,some (nv 0,.list zb4 9 r.1))]⟩):=by
 refine z2p 45 Tryz.func23 Z Z Z fun H w=>?_
 refine gSR<|Eb Z (bx 1 Z) fun v1=>Za Z<|Zb Z<|z0s<|gSR<|Zq (ld 1 Z Z fH zb2 Z)<|Zc [1001] [] Tryz.func60 Z (zcj _) fun r2 n3=>Zb Z<|gSR<|Zm Z<|Zq (I.neq Z Z)<|Zj Z (fun h4=>?_) (fun h4=>?_)
 ·
  refine gSR<|Zm Z<|Za Z<|Zb Z<|z0l<|z0w<|zy4 zb4 9 2<|Ze [(.slice none 0 0)] [1001,2] Z
 ·
  refine Zt<|gSR<|Ef Z (mkm zb4 z0d 3 (Or.inl Z) Tryz.underlying108) fun v5=>Zb Z<|z8t (fun (s6:(List ((List UInt8) × Bool))) aa ww=>Sta (ctx 45 H [zG1] w) [(5,.val v5)] [(3,some (v5,.map zb4 z0d s6)),zG1] aa ww) ?_ (fun s6=>?_)
  ·
   refine gSR<|Zq (faB 1 Z Z Tryz.underlying27 Z (by exact zc0))<|Zq (ld 1 Z Z (fP (z0a _)) zf9 Z)<|Zq (z3s Z .rd Z tu25)<|Zm Z<|Zn<|z1w (fun (s7:(List ((List UInt8) × Bool)) × Int) aa ww=>Sta (ctx 45 H [zG1] w) [(5,.val v5),(17,.rd (z02 z04) a0.Ops),(18,.rd z0c (a0.Ops.length:Int)),(19,.rd z0c s7.2)] [(3,some (v5,.map zb4 z0d s7.1)),zG1] aa ww) (fun aa ww h=>Zu h [3,1001]) (fun s7=>?_)
   refine gSR<|Zq (I.lss Z Z)<|Zn<|z0s<|gIf Z Z (fun h8=>?_) (fun h8=>?_)
   ·
    refine Zt<|z0s<|z4w<|gSR<|z0u fun x9 h10=>Zq (ixR Z Z h10 tu25 zax Z)<|Zq (ldR Z ze5)<|Eb Z (z5o 1100 zax (ZrE.rd (R:=z0n) (x:=0) (Zr.num Z) (ZrE.nilS (ZrE.rd (R:=z2w) (x:=0) (Zr.num Z) (ZrE.rd (R:=z0h) (x:=(⟨0,[],(⟨0,0,0,[]⟩:z03)⟩:z07)) zom (ZrE.rd (R:=z0o) (x:=(⟨0,0⟩:z08)) zqy ZrE.nil Z) Z) Z)) Z)) fun v11=>zbv aZ [.rd z0n 0,.rd (z02 aZ) [],.rd z2w 0,.rd z0h (⟨0,[],(⟨0,0,0,[]⟩:z03)⟩:z07),.rd z0o (⟨0,0⟩:z08)] 1100 [.rd z0n 0] [.rd z2w 0,.rd z0h (⟨0,[],(⟨0,0,0,[]⟩:z03)⟩:z07),.rd z0o (⟨0,0⟩:z08)] Z Z Z<|ze3 (R:=z04) (⟨0,[],0,(⟨0,[],(⟨0,0,0,[]⟩:z03)⟩:z07),(⟨0,0⟩:z08)⟩:z05) 1100 Z (Sp.via (Sp.prod (Sp.prod (Sp.prod (Sp.prod (Sp.prod Sp.unit))))))<|Es (sto 1100 Z Z fH Z zax)<|Zn<|gSR<|Zq (faB 1100 Z Z Tryz.underlying72 Z (by exact zgd))<|Zq (faB 1100 Z Z Tryz.underlying64 Z (by exact ti5))<|Zq (ld 1100 Z Z ((fP (z11 _)).part (z1h _)) ty5 Z)<|Zq (B.neq Z Z)<|Zj Z (fun h12=>?_) (fun h12=>?_)
    ·
     refine z28<|Zm Z<|Zq (faB 1100 Z Z Tryz.underlying72 Z (by exact zgd))<|Zq (faB 1100 Z Z Tryz.underlying64 Z (by exact ti9))<|Zq (ld 1100 Z Z ((fP (z11 _)).part (z29 _)) ty9 Z)<|Es (mup 3 Z Z Z Z (zmi.str tu9) Tryz.underlying108)<|z1s<|z38<|z0k<|z28<|Zq (I.add Z Z)<|Zm Z<|z1s<|z1g (fun aa ww h=>Zu h [3,1001])
    ·
     refine z2u<|z38<|z0k<|z28<|Zq (I.add Z Z)<|Zm Z<|z1s<|z1g (fun aa ww h=>Zu h [3,1001])
   ·
    refine z1r<|z0x<|z10<|z3t (fun aa ww h=>Zu h [3,1001])
  ·
   refine gSR<|Zb Z<|z0s<|gSR<|Zm Z<|z169 1101 3 Z Z Z Tryz.underlying108 fun u13 es14 ck15=>Zn<|zxg zb4 9 1104<|z16s (z126 (L:=fun (n17:Nat→Value)=>[(8,.val (n17 0)),(33,.val u13)]) (nv0:=nvl [(.slice none 0 0)]) 1101 3 List.Perm (fun _ _ _ h k=>h.trans k) (fun _=>.refl _) (AppF.comm (by_:=16) ?_) (fun (s16:(List (List UInt8))) (n17:Nat→Value)=>[(1103,some ((n17 0),.list zb4 9 s16)),zG1]) (fun aa ww h=>Zu h [1101,3,1104,1001]) (fun _=>rfl) Z Z (fun _ _ _=>(sS Z<|sS Z<|sN)) (fun _ _=>rfl) Z (fun Ci21 Cm22 k18 x19 s16 n17 hI20=>?_)) (fun r23=>eExM fun xp24 n26 hp25=>?_)
   ·
    intro e; unfold z8i; repeat first | exact ⟨some [], fun _=>rfl⟩ | exact zus _ | refine zpm fun _=>?_ | refine ztr ?_ ?_
   ·
    refine z4w<|gSR<|Zq (entM 1101 3 Z Z Z hI20)<|Zq (ext Z Z)<|Zb Z<|z28<|Zm Z<|Zm Z<|Ef Z (lit (R:=zb4) ([k18]:List (List UInt8)) 1105 (pP Z Z<|pN) Z tu47 ti9 Z Z) fun v27=>z0u fun x28 h29=>Ef Z (apn 1103 Z Z Z (.own 1105 Z) h29 tu47 ti9 Z Z Z) fun v30=>Za Z<|z1s<|z38<|z3t (fun aa ww h=>⟨nvl [v30],Zu h [1101,3,1103,1001]⟩)
   ·
    refine z0k<|gSR<|Zm Z<|call [1103] [(1,1103)] Z Tryz.func63 Z Z (z1t.congr (zxp (hp25).symm) (z12e _ _)) (Y1 Z) (y1 Z) fun r31 n32=>Zn<|gSR<|Zm Z<|Za Z<|Zb Z<|z0l<|Ze [(n26 0)] [1001,1103] Z
def z7y (a0:List (List UInt8)) (a1:List UInt8) (s2:Int):Option (Sum Int Int) :=
 if decide (s2<(a0.length:Int)) then
  idx a0 s2 >>= fun x4 =>
  if z19j x4 a1 then
   some (.inr (w64 (s2+1)))
  else
   some (.inl s2)
 else
  some (.inl s2)
def zeu (a0:List (List UInt8)) (a1:List UInt8):Option ((List (List UInt8))) :=
 (iter (z7y a0 a1) 0) >>= fun s1 =>
 z4y (if decide (s1<(a0.length:Int)) then
  idx a0 s1 >>= fun x9 =>
  if x9==a1 then
   some (.inl a0)
  else
   some (.inr ())
 else
  some (.inr ())) fun s7 =>
 cut a0 0 s1 >>= fun x12 =>
 app 16 ([]:List (List UInt8)) x12 >>= fun x14 =>
 app 16 x14 [a1] >>= fun x16 =>
 cut a0 s1 (a0.length:Int) >>= fun x18 =>
 app 16 x16 x18 >>= fun x20 =>
 some x20
def z75 (a0:z00) (s3:(List (List UInt8)) × Int):Option (Sum ((List (List UInt8))) ((List (List UInt8)) × Int)) :=
 if decide (s3.2<(a0.Ops.length:Int)) then
  idx a0.Ops s3.2 >>= fun x5 =>
  if x5.Act.Kind != 1 then
   idx a0.Ops s3.2 >>= fun x8 =>
   zeu s3.1 x8.Act.Key >>= fun r10 =>
   some (w64 (s3.2+1)) >>= fun y12 =>
   some (.inr (r10,y12))
  else
   some (w64 (s3.2+1)) >>= fun y13 =>
   some (.inr (s3.1,y13))
 else
  some (.inl s3.1)
def zdw (a0:z00):Option ((List (List UInt8))) :=
 (iter (z75 a0) ([],0)) >>= fun s2 =>
 some s2
def z81 (r16:(List V3) × Int) (s19:(List (V3 × Bool)) × Int):Option (Sum (Sum (Sum (Sum (z0j × Int) ((List (V3 × Bool)))) ((List (V3 × Bool)) × Int)) ((List (V3 × Bool)))) ((List (V3 × Bool)) × Int)) :=
 if decide (s19.2<(r16.1.length:Int)) then
  idx r16.1 s19.2 >>= fun x21 =>
  some (.inr (zbr s19.1 x21 true,w64 (s19.2+1)))
 else
  some (.inl (.inr s19.1))
def z83 (a0:z00) (a1:List UInt8) (s6:(List (V3 × Bool)) × Int):Option (Sum (Sum (z0j × Int) ((List (V3 × Bool)))) ((List (V3 × Bool)) × Int)) :=
 if decide (s6.2<(a0.Ops.length:Int)) then
  z4y (idx a0.Ops s6.2 >>= fun x9 =>
  if x9.Act.Key != a1 then
   some (.inr s6.1)
  else
   if x9.Act.Kind != 3 then
    some (.inr s6.1)
   else
    idx a0.IDs s6.2 >>= fun x14 =>
    z90 a0 x14 >>= fun r16 =>
    if r16.2 != 0 then
     some (.inl (.inl (.inl ((⟨false,(⟨0,0,0,[]⟩:z03)⟩:z0j),r16.2))))
    else
     iter (z81 r16) (s6.1,0)) fun s8 =>
  some (.inr (s8,w64 (s6.2+1)))
 else
  some (.inl (.inr s6.1))
def z9x (a0:z00) (a1:List UInt8) (s5:(List (V3 × Bool))) (s25:z0j × Int × Int):Option (Sum z0j (z0j × Int × Int)) :=
 if decide (s25.2.2<(a0.Ops.length:Int)) then
  idx a0.Ops s25.2.2 >>= fun x27 =>
  some (x27.Act.Key != a1) >>= fun y30 =>
  if y30 then
   some (.inr (s25.1,s25.2.1,w64 (s25.2.2+1)))
  else
   (if x27.Act.Kind==2 then
    idx a0.IDs s25.2.2 >>= fun x34 =>
    some (!((z3q s5 x34).getD false)) >>= fun y36 =>
    some y36
   else
    some false) >>= fun s32 =>
   if s32 then
    some (.inr ({ s25.1 with in_:=true },s25.2.1,w64 (s25.2.2+1)))
   else
    (if x27.Act.Kind==4 then
     if decide (s25.2.1<0) then
      some true
     else
      idx a0.Ops s25.2.1 >>= fun x41 =>
      if decide (x41.Stamp<x27.Stamp) then
       some true
      else
       idx a0.Ops s25.2.1 >>= fun x44 =>
       if x27.Stamp==x44.Stamp then
        idx a0.IDs s25.2.2 >>= fun x47 =>
        idx a0.IDs s25.2.1 >>= fun x49 =>
        z8s x47 x49 >>= fun r51 =>
        some (decide (0<r51)) >>= fun y53 =>
        some y53
       else
        some false
    else
     some false) >>= fun s38 =>
    if s38 then
     some (.inr ({ s25.1 with v:=x27.Act.Value },s25.2.2,w64 (s25.2.2+1)))
    else
     some (.inr (s25.1,s25.2.1,w64 (s25.2.2+1)))
 else
  some (.inl s25.1)
def zae (a0:z00) (a1:List UInt8):Option (z0j × Int) :=
 z4y (iter (z83 a0 a1) (([]:List (V3 × Bool)),0)) fun s5 =>
 (iter (z9x a0 a1 s5) ((⟨false,(⟨0,0,0,[]⟩:z03)⟩:z0j),(-1),0)) >>= fun s24 =>
 some (s24,0)
end
section
open Go Go.RowKit
set_option maxRecDepth 100000
theorem zku (a0:z00) (a1:List UInt8):z1t Tryz.prog 65 [.rd z01 a0,.rd zb4 a1] [zG1] (zae a0 a1) (fun r nv=>⟨[.rd z0r r.1,.rd z0c r.2],[(1001,some (.bool true,.glob 1 (z3m 64 z0n) z5x))]⟩):=by
 refine z2p 143 Tryz.func65 Z Z Z fun H w=>?_
 refine gSR<|Eb Z (bx 1 Z) fun v1=>Eb Z (z5o 2 zr4 (.zr (R:=z0r) (x:=(⟨false,(⟨0,0,0,[]⟩:z03)⟩:z0j)) z13b)) fun v2=>Zb Z<|gSR<|Eb Z (z5o 3 zr4 (.zr (R:=z0r) (x:=(⟨false,(⟨0,0,0,[]⟩:z03)⟩:z0j)) z13b)) fun v3=>Zn<|gSR<|Ef Z (mkm aZ z0d 4 (Or.inl Z) Tryz.underlying150) fun v4=>Zb Z<|z7b (fun (s5:(List (V3 × Bool))) aa ww=>Sta (ctx 143 H [zG1] w) [(1,.rd zb4 a1),(2,.val (z06 v1 0)),(4,.val (z06 v2 0)),(6,.val (z06 v3 0)),(7,.val v4)] [(1,some (v1,.box 27 [.rd z01 a0])),(2,some (v2,.box 112 [.rd z0r (⟨false,(⟨0,0,0,[]⟩:z03)⟩:z0j)])),(3,some (v3,.box 112 [.rd z0r (⟨false,(⟨0,0,0,[]⟩:z03)⟩:z0j)])),(4,some (v4,.map aZ z0d s5)),zG1] aa ww) ?_ (fun s5=>?_)
 ·
  refine gSR<|Zq (faB 1 Z Z Tryz.underlying27 Z (by exact zc0))<|Zq (ld 1 Z Z (fP (z0a _)) zf9 Z)<|Zq (z3s Z .rd Z tu25)<|Zm Z<|Zn<|z1w (fun (s6:(List (V3 × Bool)) × Int) aa ww=>Sta (ctx 143 H [zG1] w) [(1,.rd zb4 a1),(2,.val (z06 v1 0)),(4,.val (z06 v2 0)),(6,.val (z06 v3 0)),(7,.val v4),(19,.rd (z02 z04) a0.Ops),(20,.rd z0c (a0.Ops.length:Int)),(21,.rd z0c s6.2)] [(1,some (v1,.box 27 [.rd z01 a0])),(2,some (v2,.box 112 [.rd z0r (⟨false,(⟨0,0,0,[]⟩:z03)⟩:z0j)])),(3,some (v3,.box 112 [.rd z0r (⟨false,(⟨0,0,0,[]⟩:z03)⟩:z0j)])),(4,some (v4,.map aZ z0d s6.1)),zG1] aa ww) (fun aa ww h=>Zu h [1,2,3,4,1001]) (fun s6=>?_)
  refine gSR<|Zq (I.lss Z Z)<|Zn<|z0s<|gIf Z Z (fun h7=>?_) (fun h7=>?_)
  ·
   refine Zt<|z7b (fun (s8:(List (V3 × Bool))) aa ww=>Sta (ctx 143 H [zG1] w) [(1,.rd zb4 a1),(2,.val (z06 v1 0)),(4,.val (z06 v2 0)),(6,.val (z06 v3 0)),(7,.val v4),(19,.rd (z02 z04) a0.Ops),(20,.rd z0c (a0.Ops.length:Int)),(21,.rd z0c s6.2)] [(1,some (v1,.box 27 [.rd z01 a0])),(2,some (v2,.box 112 [.rd z0r (⟨false,(⟨0,0,0,[]⟩:z03)⟩:z0j)])),(3,some (v3,.box 112 [.rd z0r (⟨false,(⟨0,0,0,[]⟩:z03)⟩:z0j)])),(4,some (v4,.map aZ z0d s8)),zG1] aa ww) ?_ (fun s8=>?_)
   ·
    refine z4w<|gSR<|Zm Z<|z0u fun x9 h10=>Zq (ixR Z Z h10 tu25 zax Z)<|Zq (ldR Z ze5)<|Eb Z (z5o 1100 zax (ZrE.rd (R:=z0n) (x:=0) (Zr.num Z) (ZrE.nilS (ZrE.rd (R:=z2w) (x:=0) (Zr.num Z) (ZrE.rd (R:=z0h) (x:=(⟨0,[],(⟨0,0,0,[]⟩:z03)⟩:z07)) zom (ZrE.rd (R:=z0o) (x:=(⟨0,0⟩:z08)) zqy ZrE.nil Z) Z) Z)) Z)) fun v11=>Za Z<|zbv aZ [.rd z0n 0,.rd (z02 aZ) [],.rd z2w 0,.rd z0h (⟨0,[],(⟨0,0,0,[]⟩:z03)⟩:z07),.rd z0o (⟨0,0⟩:z08)] 1100 [.rd z0n 0] [.rd z2w 0,.rd z0h (⟨0,[],(⟨0,0,0,[]⟩:z03)⟩:z07),.rd z0o (⟨0,0⟩:z08)] Z Z Z<|ze3 (R:=z04) (⟨0,[],0,(⟨0,[],(⟨0,0,0,[]⟩:z03)⟩:z07),(⟨0,0⟩:z08)⟩:z05) 1100 Z (Sp.via (Sp.prod (Sp.prod (Sp.prod (Sp.prod (Sp.prod Sp.unit))))))<|Es (sto 1100 Z Z fH Z zax)<|Zn<|z0s<|gSR<|Zq (faB 1100 Z Z Tryz.underlying72 Z (by exact zgd))<|Zq (faB 1100 Z Z Tryz.underlying64 Z (by exact ti9))<|Zq (ld 1100 Z Z ((fP (z11 _)).part (z29 _)) ty9 Z)<|Zm Z<|Zq (neS Z Z)<|Zm Z<|z1p 31 Z (fun h12=>?_) (fun h12=>?_)
    ·
     refine lKn 30 Z h12<|Zk Z<|Zk Z<|Zk Z<|Zk Z<|Zq (pkT Z Z)<|Zn<|zgn Z<|z1r<|z0x<|z15k<|z5p (fun aa ww h=>Zu h [1,2,3,4,1001])
    ·
     refine lKn 30 Z h12<|z18 Zx Z Z (faB 1100 Z Z Tryz.underlying72 Z (by exact zgd))<|z18 Zx Z Z (faB 1100 Z Z Tryz.underlying64 Z (by exact ti5))<|z18 Zx Z Z (ld 1100 Z Z ((fP (z11 _)).part (z1h _)) ty5 Z)<|z18 Zx Z Z (B.neq Z Z)<|Zq (pkF Z Z)<|Zj Z (fun h13=>?_) (fun h13=>?_)
     ·
      refine gKn 35 Z h13<|z1r<|z0x<|z15k<|z5p (fun aa ww h=>Zu h [1,2,3,4,1001])
     ·
      refine gKn 35 Z h13<|Zt<|z0s<|z6n [1001,1119] mixed Z Z<|hTk 0 Z Z (ld 1 Z Z fH zb2 Z)<|hTk 1 Z Z (faB 1 Z Z Tryz.underlying27 Z (by exact z6b))<|hTk 2 Z Z (ld 1 Z Z (fP (z09 _)) z8l Z)<|hTk 3 Z Z (mv Z)<|z4c fun x14 h15=>hTk 4 Z Z (ixR Z Z h15 tu24 z33 Z)<|hTk 5 Z Z (ldR Z z4x)<|z3a 6 [1001] [(100,1119)] Z (by kernel_rfl) Z (gd0 Z) Z Tryz.func97 Z Z (zgw _ _) (Y2 Z Z) (y1 Z) Z (fun _ _=>(z14q (flC z3w (flC z27 fl0)))) fun r16 n17=>hTk 7 Z Z (mv Z)<|hTk 8 Z Z (ext Z Z)<|hTk 9 Z Z (ext Z Z)<|Zf 10 Z Z z3w (asg Z)<|hTk 11 Z Z (asg Z)<|z30 (by kernel_rfl)<|z0k<|z0s<|gSR<|Zm Z<|Zq (I.neq Z Z)<|Zj Z (fun h18=>?_) (fun h18=>?_)
      ·
       refine gSR<|Zq (bld (x':=(⟨false,(⟨0,0,0,[]⟩:z03)⟩:z0j)) [(0,1),(1,4)] Tryz.underlying112 zr4 Z z13b Z (Bld.done Z))<|Zm Z<|Es (sto 2 Z Z fH Z zr4)<|Zb Z<|z0l<|z0w<|z3x<|z5w<|z6q<|z5w<|zcn [] [1001] Z (eC 2 Z Z z175<|eE Z<|eN) (y1 Z)
      ·
       refine Zt<|gSR<|Zm Z<|Zq (z3s Z (.own 1119 Z) Z tu24)<|Zm Z<|Zn<|z1w (fun (s19:(List (V3 × Bool)) × Int) aa ww=>Sta (ctx 143 H [zG1] w) [(1,.rd zb4 a1),(2,.val (z06 v1 0)),(4,.val (z06 v2 0)),(6,.val (z06 v3 0)),(7,.val v4),(19,.rd (z02 z04) a0.Ops),(20,.rd z0c (a0.Ops.length:Int)),(21,.rd z0c s6.2),(51,.val (n17 0)),(52,.rd z0c (r16.1.length:Int)),(53,.rd z0c s19.2)] [(1,some (v1,.box 27 [.rd z01 a0])),(2,some (v2,.box 112 [.rd z0r (⟨false,(⟨0,0,0,[]⟩:z03)⟩:z0j)])),(3,some (v3,.box 112 [.rd z0r (⟨false,(⟨0,0,0,[]⟩:z03)⟩:z0j)])),(4,some (v4,.map aZ z0d s19.1)),(1119,some ((n17 0),.list aZ 78 r16.1)),zG1] aa ww) (fun aa ww h=>Zu h [1,2,3,4,1119,1001]) (fun s19=>?_)
       refine gSR<|Zq (I.lss Z Z)<|Zn<|z0s<|gIf Z Z (fun h20=>?_) (fun h20=>?_)
       ·
        refine Zt<|z0s<|z4w<|gSR<|z0u fun x21 h22=>Zq (ixO 1119 Z Z Z h22 tu24 z33)<|Zq (ld 1119 Z Z (Foc.el h22) z4x Z)<|Eb Z (z5o 1140 z33 (.zr (R:=aZ) (x:=(Vector.replicate 32 0)) zex)) fun v23=>Es (sto 1140 Z Z fH Z z33)<|Zn<|z28<|Zm Z<|Zq (ld 1140 Z Z fH z4x Z)<|Es (mup 4 Z Z Z Z zr0 Tryz.underlying150)<|z1s<|z38<|z0k<|z28<|Zq (I.add Z Z)<|Zm Z<|z1s<|z1g (fun aa ww h=>Zu h [1,2,3,4,1119,1001])
       ·
        refine z1r<|z0x<|z10<|z38<|z5p (fun aa ww h=>Zu h [1,2,3,4,1001])
   ·
    refine z28<|Zq (I.add Z Z)<|Zm Z<|z1s<|z1g (fun aa ww h=>Zu h [1,2,3,4,1001])
  ·
   refine z1r<|z0x<|z10<|z5p (fun aa ww h=>Zu h [1,2,3,4,1001])
 ·
  refine gSR<|Zb Z<|z8t (fun (s24:z0j) aa ww=>Sta (ctx 143 H [zG1] w) [(4,.val (z06 v2 0)),(6,.val (z06 v3 0))] [(2,some (v2,.box 112 [.rd z0r (⟨false,(⟨0,0,0,[]⟩:z03)⟩:z0j)])),(3,some (v3,.box 112 [.rd z0r s24])),zG1] aa ww) ?_ (fun s24=>?_)
  ·
   refine gSR<|Zq (faB 1 Z Z Tryz.underlying27 Z (by exact zc0))<|Zq (ld 1 Z Z (fP (z0a _)) zf9 Z)<|Zq (z3s Z .rd Z tu25)<|Zm Z<|Zn<|z1w (fun (s25:z0j × Int × Int) aa ww=>Sta (ctx 143 H [zG1] w) [(1,.rd zb4 a1),(2,.val (z06 v1 0)),(4,.val (z06 v2 0)),(6,.val (z06 v3 0)),(7,.val v4),(14,.rd z0c s25.2.1),(62,.rd (z02 z04) a0.Ops),(63,.rd z0c (a0.Ops.length:Int)),(64,.rd z0c s25.2.2)] [(1,some (v1,.box 27 [.rd z01 a0])),(2,some (v2,.box 112 [.rd z0r (⟨false,(⟨0,0,0,[]⟩:z03)⟩:z0j)])),(3,some (v3,.box 112 [.rd z0r s25.1])),(4,some (v4,.map aZ z0d s5)),zG1] aa ww) (fun aa ww h=>Zu h [1,2,3,4,1001]) (fun s25=>?_)
   refine gSR<|Zq (I.lss Z Z)<|Zn<|z0s<|gIf Z Z (fun h26=>?_) (fun h26=>?_)
   ·
    refine Zt<|z0s<|z4w<|gSR<|Zm Z<|z0u fun x27 h28=>Zq (ixR Z Z h28 tu25 zax Z)<|Zq (ldR Z ze5)<|Eb Z (z5o 1141 zax (ZrE.rd (R:=z0n) (x:=0) (Zr.num Z) (ZrE.nilS (ZrE.rd (R:=z2w) (x:=0) (Zr.num Z) (ZrE.rd (R:=z0h) (x:=(⟨0,[],(⟨0,0,0,[]⟩:z03)⟩:z07)) zom (ZrE.rd (R:=z0o) (x:=(⟨0,0⟩:z08)) zqy ZrE.nil Z) Z) Z)) Z)) fun v29=>Za Z<|zbv aZ [.rd z0n 0,.rd (z02 aZ) [],.rd z2w 0,.rd z0h (⟨0,[],(⟨0,0,0,[]⟩:z03)⟩:z07),.rd z0o (⟨0,0⟩:z08)] 1141 [.rd z0n 0] [.rd z2w 0,.rd z0h (⟨0,[],(⟨0,0,0,[]⟩:z03)⟩:z07),.rd z0o (⟨0,0⟩:z08)] Z Z Z<|ze3 (R:=z04) (⟨0,[],0,(⟨0,[],(⟨0,0,0,[]⟩:z03)⟩:z07),(⟨0,0⟩:z08)⟩:z05) 1141 Z (Sp.via (Sp.prod (Sp.prod (Sp.prod (Sp.prod (Sp.prod Sp.unit))))))<|Es (sto 1141 Z Z fH Z zax)<|Zn<|z4w<|gSR<|Zq (faB 1141 Z Z Tryz.underlying72 Z (by exact zgd))<|Zq (faB 1141 Z Z Tryz.underlying64 Z (by exact ti9))<|Zq (ld 1141 Z Z ((fP (z11 _)).part (z29 _)) ty9 Z)<|Zm Z<|Zq (neS Z Z)<|Za Z<|z1x 69 Z fun y30=>Zj Z (fun h31=>?_) (fun h31=>?_)
    ·
     refine z2u<|z38<|z38<|z0k<|z28<|Zq (I.add Z Z)<|Zm Z<|z1s<|z1g (fun aa ww h=>Zu h [1,2,3,4,1001])
    ·
     refine z8t (fun (s32:Bool) aa ww=>Sta (ctx 143 H [zG1] w) [(1,.rd zb4 a1),(2,.val (z06 v1 0)),(4,.val (z06 v2 0)),(6,.val (z06 v3 0)),(7,.val v4),(14,.rd z0c s25.2.1),(15,.rd z0c s25.2.2),(16,.val (z06 v29 0)),(62,.rd (z02 z04) a0.Ops),(63,.rd z0c (a0.Ops.length:Int)),(64,.rd z0c s25.2.2),(75,.rd z0d s32)] [(1,some (v1,.box 27 [.rd z01 a0])),(2,some (v2,.box 112 [.rd z0r (⟨false,(⟨0,0,0,[]⟩:z03)⟩:z0j)])),(3,some (v3,.box 112 [.rd z0r s25.1])),(4,some (v4,.map aZ z0d s5)),(1141,some (v29,.box 72 [.rd z04 x27])),zG1] aa ww) ?_ (fun s32=>?_)
     ·
      refine z28<|Zq (faB 1141 Z Z Tryz.underlying72 Z (by exact zgd))<|Zq (faB 1141 Z Z Tryz.underlying64 Z (by exact ti5))<|Zq (ld 1141 Z Z ((fP (z11 _)).part (z1h _)) ty5 Z)<|Zq (B.eql Z Z)<|Zm Z<|z1p 80 Z (fun h33=>?_) (fun h33=>?_)
      ·
       refine lKn 79 Z h33<|z18 Zx Z Z (mv Z)<|z18 Zx Z Z (faB 1 Z Z Tryz.underlying27 Z (by exact z6b))<|z18 Zx Z Z (ld 1 Z Z (fP (z09 _)) z8l Z)<|z18 Zx Z Z (mv Z)<|z0u fun x34 h35=>z18 Zx Z Z (ixR Z Z h35 tu24 z33 Z)<|z18 Zx Z Z (ldR Z z4x)<|z18 Zx Z Z (mlk Z (.own 4 Z Z) Z zr0 Tryz.underlying150 ti4 Zr.bool Z)<|z18 Zx Z Z (zew Z)<|Zq (pkT Z Z)<|Za Z<|z1x 75 Z fun y36=>z1s<|z3t (fun aa ww h=>Zu h [1,2,3,4,1141,1001])
      ·
       refine lKn 79 Z h33<|Zk Z<|Zk Z<|Zk Z<|Zk Z<|Zk Z<|Zk Z<|Zk Z<|Zk Z<|Zq (pkF Z Z)<|Za Z<|z1s<|z3t (fun aa ww h=>Zu h [1,2,3,4,1141,1001])
     ·
      refine gIf Z Z (fun h37=>?_) (fun h37=>?_)
      ·
       refine z28<|Zq (faB 3 Z Z Tryz.underlying112 Z (by exact ti4))<|Es (sto 3 Z Z (fP (zbz _)) Z ti4)<|z1s<|z38<|z38<|z0k<|z28<|Zq (I.add Z Z)<|Zm Z<|z1s<|z1g (fun aa ww h=>Zu h [1,2,3,4,1001])
      ·
       refine z8t (fun (s38:Bool) aa ww=>Sta (ctx 143 H [zG1] w) [(1,.rd zb4 a1),(2,.val (z06 v1 0)),(4,.val (z06 v2 0)),(6,.val (z06 v3 0)),(7,.val v4),(14,.rd z0c s25.2.1),(15,.rd z0c s25.2.2),(16,.val (z06 v29 0)),(62,.rd (z02 z04) a0.Ops),(63,.rd z0c (a0.Ops.length:Int)),(64,.rd z0c s25.2.2),(91,.rd z0d s38)] [(1,some (v1,.box 27 [.rd z01 a0])),(2,some (v2,.box 112 [.rd z0r (⟨false,(⟨0,0,0,[]⟩:z03)⟩:z0j)])),(3,some (v3,.box 112 [.rd z0r s25.1])),(4,some (v4,.map aZ z0d s5)),(1141,some (v29,.box 72 [.rd z04 x27])),zG1] aa ww) ?_ (fun s38=>?_)
       ·
        refine z6n [] mixed Z Z<|hTk 0 Z Z (faB 1141 Z Z Tryz.underlying72 Z (by exact zgd))<|hTk 1 Z Z (faB 1141 Z Z Tryz.underlying64 Z (by exact ti5))<|hTk 2 Z Z (ld 1141 Z Z ((fP (z11 _)).part (z1h _)) ty5 Z)<|hTk 3 Z Z (B.eql Z Z)<|hTk 4 Z Z (mv Z)<|hIf 96 Z Z (fun h39=>?_) (fun h39=>?_)
        ·
         refine hKn 95 Z Z h39<|Zg 5 Z Z (mv Z)<|Zg 6 Z Z (I.lss Z Z)<|Zg 7 Z Z (mv Z)<|hIf 99 Z Z (fun h40=>?_) (fun h40=>?_)
         ·
          refine hKn 98 Z Z h40<|hSk 8 Z Z<|hSk 9 Z Z<|hSk 10 Z Z<|hSk 11 Z Z<|hSk 12 Z Z<|hSk 13 Z Z<|hSk 14 Z Z<|hSk 15 Z Z<|hSk 16 Z Z<|Zg 17 Z Z (pkT Z Z)<|Zg 18 Z Z (mv Z)<|hSk 19 Z Z<|hSk 20 Z Z<|hSk 21 Z Z<|hSk 22 Z Z<|hSk 23 Z Z<|hSk 24 Z Z<|hSk 25 Z Z<|hSk 26 Z Z<|hSk 27 Z Z<|hSk 28 Z Z<|z4j 29 Z (by kernel_rfl) (by kernel_rfl) (by kernel_rfl) (gdU Z Z Z) Z Z<|z4j 30 Z (by kernel_rfl) (by kernel_rfl) (by kernel_rfl) (gdU Z Z Z) Z Z<|z4j 31 Z (by kernel_rfl) (by kernel_rfl) (by kernel_rfl) (gdU Z Z Z) Z Z<|z4j 32 Z (by kernel_rfl) (by kernel_rfl) (by kernel_rfl) (gdU Z Z Z) Z Z<|z4j 33 Z (by kernel_rfl) (by kernel_rfl) (by kernel_rfl) (gdU Z Z Z) Z Z<|z4j 34 Z (by kernel_rfl) (by kernel_rfl) (by kernel_rfl) (gdU Z Z Z) Z Z<|z4j 35 Z (by kernel_rfl) (by kernel_rfl) (by kernel_rfl) (gdU Z Z Z) Z Z<|z4j 36 Z (by kernel_rfl) (by kernel_rfl) (by kernel_rfl) (gdU Z Z Z) Z Z<|z4j 37 Z (by kernel_rfl) (by kernel_rfl) (by kernel_rfl) (gdU Z Z Z) Z Z<|z4j 38 Z (by kernel_rfl) (by kernel_rfl) (by kernel_rfl) (gdU Z Z Z) Z Z<|z4j 39 Z (by kernel_rfl) (by kernel_rfl) (by kernel_rfl) (gdU Z Z Z) Z Z<|z4j 40 Z (by kernel_rfl) (by kernel_rfl) (by kernel_rfl) (gdU Z Z Z) Z Z<|hSk 41 Z Z<|Zg 42 Z Z (pkT Z Z)<|hTk 43 Z Z (pkT Z Z)<|hTk 44 Z Z (asg Z)<|z30 (by kernel_rfl)<|z3t (fun aa ww h=>Zu h [1,2,3,4,1141,1001])
         ·
          refine hKn 98 Z Z h40<|Zg 8 Z Z (faB 1141 Z Z Tryz.underlying72 Z (by exact zq6))<|Zg 9 Z Z (ld 1141 Z Z (fP (z2i _)) zpd Z)<|Zg 10 Z Z (faB 1 Z Z Tryz.underlying27 Z (by exact zc0))<|Zg 11 Z Z (ld 1 Z Z (fP (z0a _)) zf9 Z)<|Zg 12 Z Z (mv Z)<|z4c fun x41 h42=>Zg 13 Z Z (ixR Z Z h42 tu25 zax Z)<|Zg 14 Z Z (faR Z (z2i _) Tryz.underlying72 Z Z (by exact zq6))<|Zg 15 Z Z (ldR Z zpd)<|Zg 16 Z Z (U.gtr Z Z)<|Zg 17 Z Z (pkF Z Z)<|Zg 18 Z Z (mv Z)<|hIf 110 Z Z (fun h43=>?_) (fun h43=>?_)
          ·
           refine hKn 108 Z Z h43<|hKn 109 Z Z h43<|hSk 19 Z Z<|hSk 20 Z Z<|hSk 21 Z Z<|hSk 22 Z Z<|hSk 23 Z Z<|hSk 24 Z Z<|hSk 25 Z Z<|hSk 26 Z Z<|hSk 27 Z Z<|hSk 28 Z Z<|z4j 29 Z (by kernel_rfl) (by kernel_rfl) (by kernel_rfl) (gdU Z Z Z) Z Z<|z4j 30 Z (by kernel_rfl) (by kernel_rfl) (by kernel_rfl) (gdU Z Z Z) Z Z<|z4j 31 Z (by kernel_rfl) (by kernel_rfl) (by kernel_rfl) (gdU Z Z Z) Z Z<|z4j 32 Z (by kernel_rfl) (by kernel_rfl) (by kernel_rfl) (gdU Z Z Z) Z Z<|z4j 33 Z (by kernel_rfl) (by kernel_rfl) (by kernel_rfl) (gdU Z Z Z) Z Z<|z4j 34 Z (by kernel_rfl) (by kernel_rfl) (by kernel_rfl) (gdU Z Z Z) Z Z<|z4j 35 Z (by kernel_rfl) (by kernel_rfl) (by kernel_rfl) (gdU Z Z Z) Z Z<|z4j 36 Z (by kernel_rfl) (by kernel_rfl) (by kernel_rfl) (gdU Z Z Z) Z Z<|z4j 37 Z (by kernel_rfl) (by kernel_rfl) (by kernel_rfl) (gdU Z Z Z) Z Z<|z4j 38 Z (by kernel_rfl) (by kernel_rfl) (by kernel_rfl) (gdU Z Z Z) Z Z<|z4j 39 Z (by kernel_rfl) (by kernel_rfl) (by kernel_rfl) (gdU Z Z Z) Z Z<|z4j 40 Z (by kernel_rfl) (by kernel_rfl) (by kernel_rfl) (gdU Z Z Z) Z Z<|hSk 41 Z Z<|Zg 42 Z Z (pkT Z Z)<|hTk 43 Z Z (pkT Z Z)<|hTk 44 Z Z (asg Z)<|z30 (by kernel_rfl)<|z3t (fun aa ww h=>Zu h [1,2,3,4,1141,1001])
          ·
           refine hKn 108 Z Z h43<|hKn 109 Z Z h43<|Zg 19 Z Z (faB 1141 Z Z Tryz.underlying72 Z (by exact zq6))<|Zg 20 Z Z (ld 1141 Z Z (fP (z2i _)) zpd Z)<|Zg 21 Z Z (faB 1 Z Z Tryz.underlying27 Z (by exact zc0))<|Zg 22 Z Z (ld 1 Z Z (fP (z0a _)) zf9 Z)<|Zg 23 Z Z (mv Z)<|z4c fun x44 h45=>Zg 24 Z Z (ixR Z Z h45 tu25 zax Z)<|Zg 25 Z Z (faR Z (z2i _) Tryz.underlying72 Z Z (by exact zq6))<|Zg 26 Z Z (ldR Z zpd)<|Zg 27 Z Z (U.eql Z Z)<|Zg 28 Z Z (mv Z)<|hIf 120 Z Z (fun h46=>?_) (fun h46=>?_)
           ·
            refine hKn 119 Z Z h46<|Zg 29 Z Z (faB 1 Z Z Tryz.underlying27 Z (by exact z6b))<|Zg 30 Z Z (ld 1 Z Z (fP (z09 _)) z8l Z)<|Zg 31 Z Z (mv Z)<|z4c fun x47 h48=>Zg 32 Z Z (ixR Z Z h48 tu24 z33 Z)<|Zg 33 Z Z (ldR Z z4x)<|Zg 34 Z Z (faB 1 Z Z Tryz.underlying27 Z (by exact z6b))<|Zg 35 Z Z (ld 1 Z Z (fP (z09 _)) z8l Z)<|Zg 36 Z Z (mv Z)<|z4c fun x49 h50=>Zg 37 Z Z (ixR Z Z h50 tu24 z33 Z)<|Zg 38 Z Z (ldR Z z4x)<|z3a 39 [] [] Z (by kernel_rfl) Z Zx Z Tryz.func89 Z Z (z9r _ _) (Y2 Z Z) rN Z (fun _ _=>z27) fun r51 n52=>Zg 40 Z Z (I.gtr Z Z)<|Zg 41 Z Z (pkT Z Z)<|Zg 42 Z Z (pkF Z Z)<|hTk 43 Z Z (pkT Z Z)<|hTk 44 Z Z (asg Z)<|z10k 91 Z Z fun y53=>z30 (by kernel_rfl)<|z3t (fun aa ww h=>Zu h [1,2,3,4,1141,1001])
           ·
            refine hKn 119 Z Z h46<|hSk 29 Z Z<|hSk 30 Z Z<|hSk 31 Z Z<|hSk 32 Z Z<|hSk 33 Z Z<|hSk 34 Z Z<|hSk 35 Z Z<|hSk 36 Z Z<|hSk 37 Z Z<|hSk 38 Z Z<|hSk 39 Z Z<|hSk 40 Z Z<|Zg 41 Z Z (pkF Z Z)<|Zg 42 Z Z (pkF Z Z)<|hTk 43 Z Z (pkT Z Z)<|hTk 44 Z Z (asg Z)<|z30 (by kernel_rfl)<|z3t (fun aa ww h=>Zu h [1,2,3,4,1141,1001])
        ·
         refine hKn 95 Z Z h39<|hSk 5 Z Z<|hSk 6 Z Z<|hSk 7 Z Z<|z4j 8 Z (by kernel_rfl) (by kernel_rfl) (by kernel_rfl) (gdU Z Z Z) Z Z<|z4j 9 Z (by kernel_rfl) (by kernel_rfl) (by kernel_rfl) (gdU Z Z Z) Z Z<|z4j 10 Z (by kernel_rfl) (by kernel_rfl) (by kernel_rfl) (gdU Z Z Z) Z Z<|z4j 11 Z (by kernel_rfl) (by kernel_rfl) (by kernel_rfl) (gdU Z Z Z) Z Z<|z4j 12 Z (by kernel_rfl) (by kernel_rfl) (by kernel_rfl) (gdU Z Z Z) Z Z<|z4j 13 Z (by kernel_rfl) (by kernel_rfl) (by kernel_rfl) (gdU Z Z Z) Z Z<|z4j 14 Z (by kernel_rfl) (by kernel_rfl) (by kernel_rfl) (gdU Z Z Z) Z Z<|z4j 15 Z (by kernel_rfl) (by kernel_rfl) (by kernel_rfl) (gdU Z Z Z) Z Z<|z4j 16 Z (by kernel_rfl) (by kernel_rfl) (by kernel_rfl) (gdU Z Z Z) Z Z<|hSk 17 Z Z<|hSk 18 Z Z<|z4j 19 Z (by kernel_rfl) (by kernel_rfl) (by kernel_rfl) (gdU Z Z Z) Z Z<|z4j 20 Z (by kernel_rfl) (by kernel_rfl) (by kernel_rfl) (gdU Z Z Z) Z Z<|z4j 21 Z (by kernel_rfl) (by kernel_rfl) (by kernel_rfl) (gdU Z Z Z) Z Z<|z4j 22 Z (by kernel_rfl) (by kernel_rfl) (by kernel_rfl) (gdU Z Z Z) Z Z<|z4j 23 Z (by kernel_rfl) (by kernel_rfl) (by kernel_rfl) (gdU Z Z Z) Z Z<|z4j 24 Z (by kernel_rfl) (by kernel_rfl) (by kernel_rfl) (gdU Z Z Z) Z Z<|z4j 25 Z (by kernel_rfl) (by kernel_rfl) (by kernel_rfl) (gdU Z Z Z) Z Z<|z4j 26 Z (by kernel_rfl) (by kernel_rfl) (by kernel_rfl) (gdU Z Z Z) Z Z<|z4j 27 Z (by kernel_rfl) (by kernel_rfl) (by kernel_rfl) (gdU Z Z Z) Z Z<|z4j 28 Z (by kernel_rfl) (by kernel_rfl) (by kernel_rfl) (gdU Z Z Z) Z Z<|z4j 29 Z (by kernel_rfl) (by kernel_rfl) (by kernel_rfl) (gdU Z Z Z) Z Z<|z4j 30 Z (by kernel_rfl) (by kernel_rfl) (by kernel_rfl) (gdU Z Z Z) Z Z<|z4j 31 Z (by kernel_rfl) (by kernel_rfl) (by kernel_rfl) (gdU Z Z Z) Z Z<|z4j 32 Z (by kernel_rfl) (by kernel_rfl) (by kernel_rfl) (gdU Z Z Z) Z Z<|z4j 33 Z (by kernel_rfl) (by kernel_rfl) (by kernel_rfl) (gdU Z Z Z) Z Z<|z4j 34 Z (by kernel_rfl) (by kernel_rfl) (by kernel_rfl) (gdU Z Z Z) Z Z<|z4j 35 Z (by kernel_rfl) (by kernel_rfl) (by kernel_rfl) (gdU Z Z Z) Z Z<|z4j 36 Z (by kernel_rfl) (by kernel_rfl) (by kernel_rfl) (gdU Z Z Z) Z Z<|z4j 37 Z (by kernel_rfl) (by kernel_rfl) (by kernel_rfl) (gdU Z Z Z) Z Z<|z4j 38 Z (by kernel_rfl) (by kernel_rfl) (by kernel_rfl) (gdU Z Z Z) Z Z<|z4j 39 Z (by kernel_rfl) (by kernel_rfl) (by kernel_rfl) (gdU Z Z Z) Z Z<|z4j 40 Z (by kernel_rfl) (by kernel_rfl) (by kernel_rfl) (gdU Z Z Z) Z Z<|z4j 41 Z (by kernel_rfl) (by kernel_rfl) (by kernel_rfl) (gdU Z Z Z) Z Z<|hSk 42 Z Z<|hTk 43 Z Z (pkF Z Z)<|hTk 44 Z Z (asg Z)<|z30 (by kernel_rfl)<|z3t (fun aa ww h=>Zu h [1,2,3,4,1141,1001])
       ·
        refine gIf Z Z (fun h54=>?_) (fun h54=>?_)
        ·
         refine z6n [3] mixed Z Z<|hTk 0 Z Z (mv Z)<|hTk 1 Z Z (faB 1141 Z Z Tryz.underlying72 Z (by exact zgd))<|hTk 2 Z Z (faB 1141 Z Z Tryz.underlying64 Z (by exact zem))<|hTk 3 Z Z (ld 1141 Z Z ((fP (z11 _)).part (z3k _)) zo4 Z)<|hTk 4 Z Z (asg Z)<|hTk 5 Z Z (faB 3 Z Z Tryz.underlying112 Z (by exact zem))<|Zp 6 Z Z Z Z Z (sto 3 Z Z (fP (zd2 _)) Z zem)<|z30 (by kernel_rfl)<|z38<|z38<|z0k<|z28<|Zq (I.add Z Z)<|Zm Z<|z1s<|z1g (fun aa ww h=>Zu h [1,2,3,4,1001])
        ·
         refine z2u<|z38<|z38<|z0k<|z28<|Zq (I.add Z Z)<|Zm Z<|z1s<|z1g (fun aa ww h=>Zu h [1,2,3,4,1001])
   ·
    refine z1r<|z0x<|z10<|z3t (fun aa ww h=>Zu h [2,3,1001])
  ·
   refine gSR<|Zq (ld 3 Z Z fH z175 Z)<|Es (sto 2 Z Z fH Z zr4)<|Zb Z<|z0l<|zcn [] [1001] Z (eC 2 Z Z z175<|eE Z<|eN) (y1 Z)
def z5s (a0:z00) (a1:List UInt8):Option (Bool × z03 × Int) :=
 z5g a0 >>= fun r3 =>
 if r3 != 0 then
  some (false,(⟨0,0,0,[]⟩:z03),r3)
 else
  zae a0 a1 >>= fun r6 =>
  some (r6.1.in_,r6.1.v,r6.2)
theorem znz (a0:z00) (a1:List UInt8):z1t Tryz.prog 25 [.rd z01 a0,.rd zb4 a1] [zG1] (z5s a0 a1) (fun r nv=>⟨[.rd z0d r.1,.rd z12 r.2.1,.rd z0c r.2.2],[(1001,some (.bool true,.glob 1 (z3m 64 z0n) z5x))]⟩):=by
 refine z2p 27 Tryz.func25 Z Z Z fun H w=>?_
 refine gSR<|Eb Z (bx 1 Z) fun v1=>Za Z<|Eb Z (z5o 2 zem (.zr (R:=z12) (x:=(⟨0,0,0,[]⟩:z03)) zok)) fun v2=>Zb Z<|z0s<|gSR<|Zq (ld 1 Z Z fH zb2 Z)<|Zc [1001] [] Tryz.func60 Z (zcj _) fun r3 n4=>Zb Z<|gSR<|Zm Z<|Zq (I.neq Z Z)<|Zj Z (fun h5=>?_) (fun h5=>?_)
 ·
  refine gSR<|Zq (bld (x':=(⟨0,0,0,[]⟩:z03)) [(0,1),(1,1),(2,1),(3,1)] Tryz.underlying54 zem Z zok Z (Bld.done Z))<|Zm Z<|Za Z<|Es (sto 2 Z Z fH Z zem)<|Zb Z<|z0l<|z0w<|zcn [] [1001] Z (eE Z<|eC 2 Z Z zo4<|eE Z<|eN) (y1 Z)
 ·
  refine Zt<|gSR<|Zq (ld 1 Z Z fH zb2 Z)<|Zm Z<|Zc [1001] [] Tryz.func65 Z (zku _ _) fun r6 n7=>Zm Z<|Zq (ext Z Z)<|Zq (ext Z Z)<|Eb Z (z5o 3 zr4 (.zr (R:=z0r) (x:=(⟨false,(⟨0,0,0,[]⟩:z03)⟩:z0j)) z13b)) fun v8=>Es (sto 3 Z Z fH Z zr4)<|Zb Z<|z0s<|z6n [2] mixed Z Z<|hTk 0 Z Z (faB 3 Z Z Tryz.underlying112 Z (by exact ti4))<|hTk 1 Z Z (ld 3 Z Z (fP (zbz _)) ty4 Z)<|hTk 2 Z Z (faB 3 Z Z Tryz.underlying112 Z (by exact zem))<|hTk 3 Z Z (ld 3 Z Z (fP (zd2 _)) zo4 Z)<|hTk 4 Z Z (mv Z)<|hTk 5 Z Z (asg Z)<|Zp 6 Z Z Z Z Z (sto 2 Z Z fH Z zem)<|hTk 7 Z Z (asg Z)<|z30 (by kernel_rfl)<|z0k<|z0l<|zcn [] [1001] Z (eE Z<|eC 2 Z Z zo4<|eE Z<|eN) (y1 Z)
def z6h (a0:List (List UInt8)) (a1:List (List UInt8)) (s3:Int):Option (Sum (Sum Bool Unit) Int) :=
 if decide (s3<(a0.length:Int)) then
  idx a0 s3 >>= fun x5 =>
  idx a1 s3 >>= fun x7 =>
  if x5 != x7 then
   some (.inl (.inl false))
  else
   some (.inr (w64 (s3+1)))
 else
  some (.inl (.inr ()))
def z87 (a0:List (List UInt8)) (a1:List (List UInt8)):Option (Bool) :=
 if (a0.length:Int) != (a1.length:Int) then
  some false
 else
  z4y (iter (z6h a0 a1) 0) fun s2 =>
  some true
theorem zg7 (a0:List (List UInt8)) (a1:List (List UInt8)):z1t Tryz.prog 29 [.rd (z02 zb4) a0,.rd (z02 zb4) a1] [] (z87 a0 a1) (fun r nv=>⟨[.rd z0d r],[]⟩):=by
 refine z2p 26 Tryz.func29 Z Z Z fun H w=>?_
 refine gSR<|Zb Z<|z0s<|gSR<|Zm Z<|Zq (z3s Z .rd Z tu47)<|Zm Z<|Zq (z3s Z .rd Z tu47)<|Zq (I.neq Z Z)<|Zj Z (fun h1=>?_) (fun h1=>?_)
 ·
  refine gSR<|Zb Z<|z0l<|z0w<|Ze [] [] Z
 ·
  refine Zt<|z7b (fun (s2:Unit) aa ww=>Sta (ctx 26 H [] w) [] [] aa ww) ?_ (fun s2=>?_)
  ·
   refine gSR<|Zb Z<|z1w (fun (s3:Int) aa ww=>Sta (ctx 26 H [] w) [(0,.rd (z02 zb4) a0),(1,.rd (z02 zb4) a1),(5,.rd z0c s3)] [] aa ww) (fun aa ww h=>Zu h []) (fun s3=>?_)
   refine z0s<|gSR<|Zm Z<|Zm Z<|Zq (z3s Z .rd Z tu47)<|Zq (I.lss Z Z)<|Zj Z (fun h4=>?_) (fun h4=>?_)
   ·
    refine Zt<|z0s<|z4w<|z0s<|zit mixed (by kernel_rfl)<|Rq Z (mv Z)<|Rq Z (mv Z)<|z8f fun x5 h6=>Rq Z (ixR Z Z h6 tu47 ti9 Z)<|Rq Z (ldR Z ty9)<|Rq Z (mv Z)<|Rq Z (mv Z)<|z8f fun x7 h8=>Rq Z (ixR Z Z h8 tu47 ti9 Z)<|Rq Z (ldR Z ty9)<|Rq Z (neS Z Z)<|ztz<|z0k<|gIf Z Z (fun h9=>?_) (fun h9=>?_)
    ·
     refine gSR<|Zb Z<|z0l<|z3x<|z0w<|z6q<|z5w<|Ze [] [] Z
    ·
     refine z2u<|z38<|z0k<|z28<|Zm Z<|Zq (I.add Z Z)<|Za Z<|z1s<|z1g (fun aa ww h=>Zu h [])
   ·
    refine z1r<|z0x<|z10<|z5p (fun aa ww h=>Zu h [])
  ·
   refine gSR<|Zb Z<|z0l<|Ze [] [] Z
def z2o (a0:z00) (a1:z07) (a2:UInt64) (a3:List V3):Option (z00 × V3 × Bool) :=
 zkt 3 (⟨0,a3,a2,a1,(⟨0,0⟩:z08)⟩:z05) >>= fun r5 =>
 znr a0 r5.1 >>= fun r8 =>
 if r5.2==0 then
  some (r8.1,r8.2.1,r8.2.2==0)
 else
  some (r8.1,r8.2.1,false)
theorem z6u (a0:z00) (a1:z07) (a2:UInt64) (a3:List V3):z1t Tryz.prog 41 [.rd z01 a0,.rd z0h a1,.rd z2w a2,.rd (z02 aZ) a3] [zG1] (z2o a0 a1 a2 a3) (fun r nv=>⟨[.rd z01 r.1,.rd aZ r.2.1,.rd z0d r.2.2],[(1001,some (.bool true,.glob 1 (z3m 64 z0n) z5x))]⟩):=by
 refine z2p 39 Tryz.func41 Z Z Z fun H w=>?_
 refine gSR<|Eb Z (bx 1 Z) fun v1=>Eb Z (bx 2 Z) fun v2=>Eb Z (z5o 3 z7e (ZrE.nilS (ZrE.nilS ZrE.nil))) fun v3=>Eb Z (z5o 4 z33 (.zr (R:=aZ) (x:=(Vector.replicate 32 0)) zex)) fun v4=>Zb Z<|gSR<|Zm Z<|Zm Z<|Zq (ld 2 Z Z fH ty64 Z)<|Zq (bld (x':=(⟨0,a3,a2,a1,(⟨0,0⟩:z08)⟩:z05)) [(0,1),(1,1),(2,1),(3,6),(9,2)] Tryz.underlying72 zax Z zr72 Z (Bld.cons (z0t _) Z Z<|Bld.cons (z2i _) Z Z<|Bld.cons (z11 _) Z Z<|Bld.done Z))<|Zc [1001] [] Tryz.func34 Z (zxx _ _) fun r5 n6=>Zm Z<|Zq (ext Z Z)<|Zq (ext Z Z)<|Eb Z (z5o 5 zax (ZrE.rd (R:=z0n) (x:=0) (Zr.num Z) (ZrE.nilS (ZrE.rd (R:=z2w) (x:=0) (Zr.num Z) (ZrE.rd (R:=z0h) (x:=(⟨0,[],(⟨0,0,0,[]⟩:z03)⟩:z07)) zom (ZrE.rd (R:=z0o) (x:=(⟨0,0⟩:z08)) zqy ZrE.nil Z) Z) Z)) Z)) fun v7=>zbv aZ [.rd z0n 0,.rd (z02 aZ) [],.rd z2w 0,.rd z0h (⟨0,[],(⟨0,0,0,[]⟩:z03)⟩:z07),.rd z0o (⟨0,0⟩:z08)] 5 [.rd z0n 0] [.rd z2w 0,.rd z0h (⟨0,[],(⟨0,0,0,[]⟩:z03)⟩:z07),.rd z0o (⟨0,0⟩:z08)] Z Z Z<|ze3 (R:=z04) (⟨0,[],0,(⟨0,[],(⟨0,0,0,[]⟩:z03)⟩:z07),(⟨0,0⟩:z08)⟩:z05) 5 Z (Sp.via (Sp.prod (Sp.prod (Sp.prod (Sp.prod (Sp.prod Sp.unit))))))<|Es (sto 5 Z Z fH Z zax)<|Zb Z<|gSR<|Zq (ld 1 Z Z fH zb2 Z)<|Zq (ld 5 Z Z fH ze5 Z)<|Zc [1001] [] Tryz.func35 Z (zxu _ _) fun r8 n9=>Zm Z<|Zq (ext Z Z)<|Zq (ext Z Z)<|Zq (ext Z Z)<|Eb Z (z5o 6 z7e (ZrE.nilS (ZrE.nilS ZrE.nil))) fun v10=>Eb Z (z5o 7 z33 (.zr (R:=aZ) (x:=(Vector.replicate 32 0)) zex)) fun v11=>zbv aZ [.rd (z02 aZ) [],.val (.slice none 0 0)] 6 [] [.val (.slice none 0 0)] Z Z Z<|zbv z04 [.rd (z02 aZ) [],.rd (z02 z04) []] 6 [.rd (z02 aZ) []] [] Z Z Z<|ze3 (R:=z01) (⟨[],[]⟩:z00) 6 Z (Sp.via (Sp.prod (Sp.prod Sp.unit)))<|Es (sto 6 Z Z fH Z z7e)<|Es (sto 7 Z Z fH Z z33)<|Zb Z<|z0s<|z6n [3,4] mixed Z Z<|hTk 0 Z Z (ld 6 Z Z fH zb2 Z)<|hTk 1 Z Z (ld 7 Z Z fH z4x Z)<|hTk 2 Z Z (mv Z)<|hTk 3 Z Z (I.eql Z Z)<|hTk 4 Z Z (mv Z)<|hIf 35 Z Z (fun h12=>?_) (fun h12=>?_)
 ·
  refine hKn 34 Z Z h12<|Zg 5 Z Z (mv Z)<|Zg 6 Z Z (I.eql Z Z)<|hTk 7 Z Z (pkT Z Z)<|hPnl aZ [.rd (z02 aZ) [],.val (.slice none 0 0)] 3 [] [.val (.slice none 0 0)] Z Z Z<|hPnl z04 [.rd (z02 aZ) [],.rd (z02 z04) []] 3 [.rd (z02 aZ) []] [] Z Z Z<|hJoi (R:=z01) (⟨[],[]⟩:z00) 3 Z (Sp.via (Sp.prod (Sp.prod Sp.unit)))<|Zp 8 Z Z Z Z Z (sto 3 Z Z fH Z z7e)<|Zp 9 Z Z Z Z Z (sto 4 Z Z fH Z z33)<|hTk 10 Z Z (asg Z)<|z30 (by kernel_rfl)<|z0k<|z0l<|zcn [] [1001] Z (eC 3 Z Z zb2<|eC 4 Z Z z4x<|eE Z<|eN) (y1 Z)
 ·
  refine hKn 34 Z Z h12<|hSk 5 Z Z<|hSk 6 Z Z<|hTk 7 Z Z (pkF Z Z)<|hPnl aZ [.rd (z02 aZ) [],.val (.slice none 0 0)] 3 [] [.val (.slice none 0 0)] Z Z Z<|hPnl z04 [.rd (z02 aZ) [],.rd (z02 z04) []] 3 [.rd (z02 aZ) []] [] Z Z Z<|hJoi (R:=z01) (⟨[],[]⟩:z00) 3 Z (Sp.via (Sp.prod (Sp.prod Sp.unit)))<|Zp 8 Z Z Z Z Z (sto 3 Z Z fH Z z7e)<|Zp 9 Z Z Z Z Z (sto 4 Z Z fH Z z33)<|hTk 10 Z Z (asg Z)<|z30 (by kernel_rfl)<|z0k<|z0l<|zcn [] [1001] Z (eC 3 Z Z zb2<|eC 4 Z Z z4x<|eE Z<|eN) (y1 Z)
def z7v (a0:Int):Option (z03) :=
 some (⟨1,a0,0,[]⟩:z03)
theorem za1 (a0:Int):z1t Tryz.prog 43 [.rd z0c a0] [] (z7v a0) (fun r nv=>⟨[.rd z12 r],[]⟩):=by
 refine z2p 5 Tryz.func43 Z Z Z fun H w=>?_
 refine gSR<|Eb Z (z5o 1 zem (.zr (R:=z12) (x:=(⟨0,0,0,[]⟩:z03)) zok)) fun v1=>Zn<|gSR<|Zm Z<|Zq (bld (x':=(⟨1,a0,0,[]⟩:z03)) [(0,1),(1,1),(2,1),(3,1)] Tryz.underlying54 zem Z zok Z (Bld.cons (z2m _) Z Z<|Bld.cons (z5c _) Z Z<|Bld.done Z))<|Es (sto 1 Z Z fH Z zem)<|Zn<|z0l<|zcn [] [] Z (eC 1 Z Z zo4<|eN) (rN)
def z9i (a0:V3) (a1:V3):Option (Bool) :=
 z5q a0 a1 >>= fun r3 =>
 some (decide (r3<0)) >>= fun y5 =>
 some y5
theorem zho (a0:V3) (a1:V3):z1t Tryz.prog 70 [.rd aZ a0,.rd aZ a1] [] (z9i a0 a1) (fun r nv=>⟨[.rd z0d r],[]⟩):=by
 refine z2p 9 Tryz.func70 Z Z Z fun H w=>?_
 refine gSR<|Eb Z (bx 1 Z) fun v1=>Eb Z (bx 2 Z) fun v2=>Zb Z<|gSR<|Zq (ld 1 Z Z fH z4x Z)<|Zq (ld 2 Z Z fH z4x Z)<|Zc [] [] Tryz.func85 Z (zfa _ _) fun r3 n4=>Zq (I.lss Z Z)<|Za Z<|z1x 4 Z fun y5=>Zn<|z0l<|Ze [] [] Z
def z4e (a0:z00) (a1:List UInt8) (a2:Bool) (a3:z03):Option (Bool) :=
 z5s a0 a1 >>= fun r3 =>
 if r3.2.2==0 then
  if r3.1==a2 then
   some (decide (r3.2.1=a3)) >>= fun y8 =>
   some y8
  else
   some false
 else
  some false
theorem z6w (a0:z00) (a1:List UInt8) (a2:Bool) (a3:z03):z1t Tryz.prog 42 [.rd z01 a0,.rd zb4 a1,.rd z0d a2,.rd z12 a3] [zG1] (z4e a0 a1 a2 a3) (fun r nv=>⟨[.rd z0d r],[(1001,some (.bool true,.glob 1 (z3m 64 z0n) z5x))]⟩):=by
 refine z2p 31 Tryz.func42 Z Z Z fun H w=>?_
 refine gSR<|Eb Z (bx 1 Z) fun v1=>Eb Z (bx 2 Z) fun v2=>Zb Z<|gSR<|Zq (ld 1 Z Z fH zb2 Z)<|Zm Z<|Zc [1001] [] Tryz.func25 Z (znz _ _) fun r3 n4=>Zm Z<|Zq (ext Z Z)<|Zq (ext Z Z)<|Zq (ext Z Z)<|Eb Z (z5o 3 zem (.zr (R:=z12) (x:=(⟨0,0,0,[]⟩:z03)) zok)) fun v5=>Za Z<|Es (sto 3 Z Z fH Z zem)<|Zb Z<|gSR<|Zm Z<|Zq (I.eql Z Z)<|Zm Z<|z1p 21 Z (fun h6=>?_) (fun h6=>?_)
 ·
  refine lKn 20 Z h6<|z18 Zx Z Z (mv Z)<|z18 Zx Z Z (mv Z)<|z18 Zx Z Z (eqB Tryz.underlying4 Z Z)<|Zq (pkT Z Z)<|Zm Z<|z1p 26 Z (fun h7=>?_) (fun h7=>?_)
  ·
   refine lKn 24 Z h7<|lKn 25 Z h7<|z18 Zx Z Z (ld 3 Z Z fH zo4 Z)<|z18 Zx Z Z (ld 2 Z Z fH zo4 Z)<|z18 Zx Z Z (eqA Z Z eq54 Z Z gq54)<|Zq (pkT Z Z)<|Za Z<|z1x 8 Z fun y8=>Zn<|z0l<|Ze [] [1001] Z
  ·
   refine lKn 24 Z h7<|lKn 25 Z h7<|Zk Z<|Zk Z<|Zk Z<|Zq (pkF Z Z)<|Zb Z<|z0l<|Ze [] [1001] Z
 ·
  refine lKn 20 Z h6<|Zk Z<|Zk Z<|Zk Z<|Zq (pkF Z Z)<|Zm Z<|Zk Z<|Zk Z<|Zk Z<|Zq (pkF Z Z)<|Zb Z<|z0l<|Ze [] [1001] Z
def zat  : Option (Bool) :=
 z2o (⟨[],[]⟩:z00) (⟨2,([97]:List UInt8),(⟨0,0,0,[]⟩:z03)⟩:z07) 1 [] >>= fun r3 =>
 z2o r3.1 (⟨3,([97]:List UInt8),(⟨0,0,0,[]⟩:z03)⟩:z07) 2 [] >>= fun r7 =>
 z2o r3.1 (⟨3,([97]:List UInt8),(⟨0,0,0,[]⟩:z03)⟩:z07) 2 [r3.2.1] >>= fun r12 =>
 zbt r3.1 >>= fun r16 =>
 z7v 1 >>= fun r18 =>
 z2o (⟨[],[]⟩:z00) (⟨4,([114]:List UInt8),r18⟩:z07) 7 [] >>= fun r20 =>
 z7v 2 >>= fun r24 =>
 z2o r20.1 (⟨4,([114]:List UInt8),r24⟩:z07) 7 [] >>= fun r27 =>
 (z9i r20.2.1 r27.2.1 >>= fun r32 =>
 if r32 then
  some 2
 else
  some 1) >>= fun s31 =>
 if r3.2.2 then
  if r7.2.2 then
   if r12.2.2 then
    if r16.2==0 then
     z87 r16.1 [([97]:List UInt8)] >>= fun r41 =>
     if r41 then
      z4e r3.1 ([97]:List UInt8) true (⟨0,0,0,[]⟩:z03) >>= fun r44 =>
      if r44 then
       z4e r7.1 ([97]:List UInt8) true (⟨0,0,0,[]⟩:z03) >>= fun r47 =>
       if r47 then
        z4e r12.1 ([97]:List UInt8) false (⟨0,0,0,[]⟩:z03) >>= fun r50 =>
        if r50 then
         if r20.2.2 then
          if r27.2.2 then
           z7v s31 >>= fun r55 =>
           z4e r27.1 ([114]:List UInt8) false r55 >>= fun r57 =>
           some r57
          else
           some false
         else
          some false
        else
         some false
       else
        some false
      else
       some false
     else
      some false
    else
     some false
   else
    some false
  else
   some false
 else
  some false
end
section
open Go Go.RowKit
set_option maxRecDepth 100000
set_option maxHeartbeats 4000000 in
theorem zib  : z1t Tryz.prog 30 [] [zG1] (zat) (fun r nv=>⟨[.rd z0d r],[(1001,some (.bool true,.glob 1 (z3m 64 z0n) z5x))]⟩):=by
 refine z2p 113 Tryz.func30 Z Z Z fun H w=>?_
 refine gSR<|Zb Z<|gSR<|Zq (bld (x':=(⟨2,([97]:List UInt8),(⟨0,0,0,[]⟩:z03)⟩:z07)) [(0,1),(1,1),(2,4)] Tryz.underlying64 zgd Z zom Z (Bld.cons (z1h _) Z Z<|Bld.cons (z29 _) Z Z<|Bld.done Z))<|Zq (bld (x':=(⟨3,([97]:List UInt8),(⟨0,0,0,[]⟩:z03)⟩:z07)) [(0,1),(1,1),(2,4)] Tryz.underlying64 zgd Z zom Z (Bld.cons (z1h _) Z Z<|Bld.cons (z29 _) Z Z<|Bld.done Z))<|Eb Z (z5o 1 zgd (.zr (R:=z0h) (x:=(⟨0,[],(⟨0,0,0,[]⟩:z03)⟩:z07)) zom)) fun v1=>Eb Z (z5o 2 zgd (.zr (R:=z0h) (x:=(⟨0,[],(⟨0,0,0,[]⟩:z03)⟩:z07)) zom)) fun v2=>Es (sto 1 Z Z fH Z zgd)<|Es (sto 2 Z Z fH Z zgd)<|Zn<|gSR<|Zq (bld (x':=(⟨[],[]⟩:z00)) [(0,1),(1,1)] Tryz.underlying27 z7e Z zr27 Z (Bld.done Z))<|Zq (ld 1 Z Z fH ty64 Z)<|call [1001] [] Z Tryz.func41 Z Z (z6u _ _ _ _) (aQ Z<|aQ Z<|aQ Z<|aNil Z<|aN) (y1 Z) fun r3 n4=>Zm Z<|Zq (ext Z Z)<|Zq (ext Z Z)<|Zq (ext Z Z)<|Eb Z (z5o 3 z7e (ZrE.nilS (ZrE.nilS ZrE.nil))) fun v5=>Eb Z (z5o 4 z33 (.zr (R:=aZ) (x:=(Vector.replicate 32 0)) zex)) fun v6=>zbv aZ [.rd (z02 aZ) [],.val (.slice none 0 0)] 3 [] [.val (.slice none 0 0)] Z Z Z<|zbv z04 [.rd (z02 aZ) [],.rd (z02 z04) []] 3 [.rd (z02 aZ) []] [] Z Z Z<|ze3 (R:=z01) (⟨[],[]⟩:z00) 3 Z (Sp.via (Sp.prod (Sp.prod Sp.unit)))<|Es (sto 3 Z Z fH Z z7e)<|Es (sto 4 Z Z fH Z z33)<|Zb Z<|gSR<|Zq (ld 3 Z Z fH zb2 Z)<|Zq (ld 2 Z Z fH ty64 Z)<|call [1001] [] Z Tryz.func41 Z Z (z6u _ _ _ _) (aQ Z<|aQ Z<|aQ Z<|aNil Z<|aN) (y1 Z) fun r7 n8=>Zm Z<|Zq (ext Z Z)<|Zq (ext Z Z)<|Zq (ext Z Z)<|Eb Z (z5o 5 z7e (ZrE.nilS (ZrE.nilS ZrE.nil))) fun v9=>Eb Z (z5o 6 z33 (.zr (R:=aZ) (x:=(Vector.replicate 32 0)) zex)) fun v10=>zbv aZ [.rd (z02 aZ) [],.val (.slice none 0 0)] 5 [] [.val (.slice none 0 0)] Z Z Z<|zbv z04 [.rd (z02 aZ) [],.rd (z02 z04) []] 5 [.rd (z02 aZ) []] [] Z Z Z<|ze3 (R:=z01) (⟨[],[]⟩:z00) 5 Z (Sp.via (Sp.prod (Sp.prod Sp.unit)))<|Es (sto 5 Z Z fH Z z7e)<|Es (sto 6 Z Z fH Z z33)<|Zb Z<|gSR<|Zq (ld 3 Z Z fH zb2 Z)<|Zq (ld 2 Z Z fH ty64 Z)<|Zq (ld 4 Z Z fH z4x Z)<|Ef Z (lit (R:=aZ) ([r3.2.1]:List V3) 7 (pP Z Z<|pN) Z tu24 z33 Z Z) fun v11=>zkx 7 [41] Z (fS Z<|fN)<|Zc [1001] [] Tryz.func41 Z (z6u _ _ _ _) fun r12 n13=>Zm Z<|Zq (ext Z Z)<|Zq (ext Z Z)<|Zq (ext Z Z)<|Eb Z (z5o 8 z7e (ZrE.nilS (ZrE.nilS ZrE.nil))) fun v14=>Eb Z (z5o 9 z33 (.zr (R:=aZ) (x:=(Vector.replicate 32 0)) zex)) fun v15=>zbv aZ [.rd (z02 aZ) [],.val (.slice none 0 0)] 8 [] [.val (.slice none 0 0)] Z Z Z<|zbv z04 [.rd (z02 aZ) [],.rd (z02 z04) []] 8 [.rd (z02 aZ) []] [] Z Z Z<|ze3 (R:=z01) (⟨[],[]⟩:z00) 8 Z (Sp.via (Sp.prod (Sp.prod Sp.unit)))<|Es (sto 8 Z Z fH Z z7e)<|Es (sto 9 Z Z fH Z z33)<|Zb Z<|gSR<|Zq (ld 3 Z Z fH zb2 Z)<|Zc [1001] [(100,10)] Tryz.func23 Z (zm7 _) fun r16 n17=>Zm Z<|Zq (ext Z Z)<|Zq (ext Z Z)<|Za Z<|Zb Z<|gSR<|Zq (bld (x':=(⟨[],[]⟩:z00)) [(0,1),(1,1)] Tryz.underlying27 z7e Z zr27 Z (Bld.done Z))<|Zc [] [] Tryz.func43 Z (za1 _) fun r18 n19=>Zq (bld (x':=(⟨4,([114]:List UInt8),r18⟩:z07)) [(0,1),(1,1),(2,4)] Tryz.underlying64 zgd Z zom Z (Bld.cons (z1h _) Z Z<|Bld.cons (z29 _) Z Z<|Bld.cons (z3k _) Z Z<|Bld.done Z))<|call [1001] [] Z Tryz.func41 Z Z (z6u _ _ _ _) (aQ Z<|aQ Z<|aQ Z<|aNil Z<|aN) (y1 Z) fun r20 n21=>Zm Z<|Zq (ext Z Z)<|Zq (ext Z Z)<|Zq (ext Z Z)<|Eb Z (z5o 11 z7e (ZrE.nilS (ZrE.nilS ZrE.nil))) fun v22=>Eb Z (z5o 12 z33 (.zr (R:=aZ) (x:=(Vector.replicate 32 0)) zex)) fun v23=>zbv aZ [.rd (z02 aZ) [],.val (.slice none 0 0)] 11 [] [.val (.slice none 0 0)] Z Z Z<|zbv z04 [.rd (z02 aZ) [],.rd (z02 z04) []] 11 [.rd (z02 aZ) []] [] Z Z Z<|ze3 (R:=z01) (⟨[],[]⟩:z00) 11 Z (Sp.via (Sp.prod (Sp.prod Sp.unit)))<|Es (sto 11 Z Z fH Z z7e)<|Es (sto 12 Z Z fH Z z33)<|Zb Z<|z0s<|gSub [(3,.val (z06 v5 0)),(5,.rd z0d r3.2.2),(6,.val (z06 v9 0)),(8,.rd z0d r7.2.2),(9,.val (z06 v14 0)),(11,.rd z0d r12.2.2),(12,.val (n17 0)),(13,.rd z0c r16.2),(14,.val (z06 v22 0)),(15,.val (z06 v23 0)),(16,.rd z0d r20.2.2)] [zG1,(1,some (v1,.box 64 [.rd z0h (⟨2,([97]:List UInt8),(⟨0,0,0,[]⟩:z03)⟩:z07)])),(2,some (v2,.box 64 [.rd z0h (⟨3,([97]:List UInt8),(⟨0,0,0,[]⟩:z03)⟩:z07)])),(3,some (v5,.box 27 [.rd z01 r3.1])),(4,some (v6,.box 78 [.rd aZ r3.2.1])),(5,some (v9,.box 27 [.rd z01 r7.1])),(6,some (v10,.box 78 [.rd aZ r7.2.1])),(8,some (v14,.box 27 [.rd z01 r12.1])),(9,some (v15,.box 78 [.rd aZ r12.2.1])),(10,some ((n17 0),.list zb4 9 r16.1)),(11,some (v22,.box 27 [.rd z01 r20.1])),(12,some (v23,.box 78 [.rd aZ r20.2.1]))] [1001,1,2,3,4,5,6,8,9,10,11,12] (Zs Z Z Z Z<|Zs Z Z Z Z<|sS Z<|sS Z<|sS Z<|sN) (Zi Z<|Zi Z<|Zi Z<|Zi Z<|Zi Z<|Zi Z<|Zi Z<|Zi Z<|Zi Z<|Zi Z<|Zi Z<|Zi Z<|rN)<|zbq fun r24 h26=>zbq fun r27 h29=>gOr [] [⟨11,some ([], fun nv=>(v22,.box 27 [.rd z01 r20.1])),[]⟩,⟨1001,some ([], fun nv=>((.bool true),.glob 1 (z3m 64 z0n) z5x)),[]⟩,⟨13,none,[(8,some ([1], fun nv=>((nv 1),.box 27 [.rd z01 (⟨[],[]⟩:z00)]))),(10,some ([1], fun nv=>((nv 1),.box 27 [.rd z01 r27.1])))]⟩,⟨14,none,[(9,some ([2], fun nv=>((nv 2),.box 78 [.rd aZ (Vector.replicate 32 0)]))),(11,some ([2], fun nv=>((nv 2),.box 78 [.rd aZ r27.2.1])))]⟩] [pk 60 (.rd z01 r20.1) [(0,0,false)],pd 61 (.rd z12 r24),pd 62 (.rd z0h (⟨4,([114]:List UInt8),r24⟩:z07)),pk 63 (.tup [.rd z01 r27.1,.rd aZ r27.2.1,.rd z0d r27.2.2]) [(1,0,false)],pd 59 (.tup [.rd z01 r27.1,.rd aZ r27.2.1,.rd z0d r27.2.2]),pd 64 (.rd z01 r27.1),pd 65 (.rd aZ r27.2.1),pd 66 (.rd z0d r27.2.2),⟨some (17,[1], fun nv=>.val (z06 (nv 1) 0)),[(2,0,true)],[1],[]⟩,⟨some (18,[2], fun nv=>.val (z06 (nv 2) 0)),[(3,0,true)],[2],[]⟩,⟨none,[(2,1,true)],[],[]⟩,⟨none,[(3,1,true)],[],[]⟩,pd 19 (.rd z0d r27.2.2)] mixed (oC (oRn (fun nv E=>ld 11 Z Z fH zb2 Z))<|oC (oCl [] [] [] h26 Tryz.func43 Z (fun nv=>(za1 _)) (fun nv=>(Y1 Z)) (fun nv E=>rN))<|oC (oRn (fun nv E=>bld (x':=(⟨4,([114]:List UInt8),r24⟩:z07)) [(0,1),(1,1),(2,4)] Tryz.underlying64 zgd Z zom Z (Bld.cons (z1h _) Z Z<|Bld.cons (z29 _) Z Z<|Bld.cons (z3k _) Z Z<|Bld.done Z)))<|oC (oCl [] [1001] [] h29 Tryz.func41 Z (fun nv=>(z6u _ _ _ _)) (fun nv=>(aQ Z<|aQ Z<|aQ Z<|aNil Z<|aN)) (fun nv E=>(y1 Z)))<|oC (oRn (fun nv E=>mv Z))<|oC (oRn (fun nv E=>ext Z Z))<|oC (oRn (fun nv E=>ext Z Z))<|oC (oRn (fun nv E=>ext Z Z))<|oC (oEb 13 1 (fun nv E=>z5o 13 z7e (.zr (R:=z01) (x:=(⟨[],[]⟩:z00)) zr27)))<|oC (oEb 14 2 (fun nv E=>z5o 14 z33 (.zr (R:=aZ) (x:=(Vector.replicate 32 0)) zex)))<|oC (oEs 13 (fun nv E=>sto 13 Z Z fH Z z7e))<|oC (oEs 14 (fun nv E=>sto 14 Z Z fH Z z33))<|oC (oRn (fun nv E=>asg Z))<|oN) fun n30=>z0k<|gSR<|Zb Z<|z8t (fun (s31:Int) aa ww=>∃ nv:Nat→Value,Sta (ctx 113 H [zG1] w) [(3,.val (z06 v5 0)),(5,.rd z0d r3.2.2),(6,.val (z06 v9 0)),(8,.rd z0d r7.2.2),(9,.val (z06 v14 0)),(11,.rd z0d r12.2.2),(12,.val (n17 0)),(13,.rd z0c r16.2),(16,.rd z0d r20.2.2),(17,.val (z06 (nv 0) 0)),(19,.rd z0d r27.2.2),(20,.rd z0c s31)] [(3,some (v5,.box 27 [.rd z01 r3.1])),(5,some (v9,.box 27 [.rd z01 r7.1])),(8,some (v14,.box 27 [.rd z01 r12.1])),(10,some ((n17 0),.list zb4 9 r16.1)),(13,some ((nv 0),.box 27 [.rd z01 r27.1])),zG1] aa ww) ?_ (fun s31=>?_)
 ·
  refine gSR<|Zq (ld 12 Z Z fH z4x Z)<|Zq (ld 14 Z Z fH z4x Z)<|Zc [] [] Tryz.func70 Z (zho _ _) fun r32 n33=>Zj Z (fun h34=>?_) (fun h34=>?_)
  ·
   refine z28<|Za Z<|z1s<|z3t (fun aa ww h=>⟨nvl [(n30 1)],Zu h [3,5,8,10,13,1001]⟩)
  ·
   refine z2u<|z3t (fun aa ww h=>⟨nvl [(n30 1)],Zu h [3,5,8,10,13,1001]⟩)
 ·
  refine gEx fun n35=>z0s<|z6n [1001,1041] mixed Z Z<|hTk 0 Z Z (mv Z)<|hTk 1 Z Z (mv Z)<|hIf 71 Z Z (fun h36=>?_) (fun h36=>?_)
  ·
   refine hKn 5 Z Z h36<|hKn 70 Z Z h36<|Zg 2 Z Z (mv Z)<|hTk 3 Z Z (pkT Z Z)<|hTk 4 Z Z (mv Z)<|hIf 74 Z Z (fun h37=>?_) (fun h37=>?_)
   ·
    refine hKn 8 Z Z h37<|hKn 72 Z Z h37<|hKn 73 Z Z h37<|Zg 5 Z Z (mv Z)<|hTk 6 Z Z (pkT Z Z)<|hTk 7 Z Z (mv Z)<|hIf 77 Z Z (fun h38=>?_) (fun h38=>?_)
    ·
     refine hKn 11 Z Z h38<|hKn 75 Z Z h38<|hKn 76 Z Z h38<|Zg 8 Z Z (mv Z)<|Zg 9 Z Z (I.eql Z Z)<|hTk 10 Z Z (pkT Z Z)<|hTk 11 Z Z (mv Z)<|hIf 81 Z Z (fun h39=>?_) (fun h39=>?_)
     ·
      refine hKn 79 Z Z h39<|hKn 80 Z Z h39<|Zg 12 Z Z (mv Z)<|hDo 13 Z (by kernel_rfl) Zx Z Z Z (lit (R:=zb4) ([([97]:List UInt8)]:List (List UInt8)) 1041 (pP Z Z<|pN) Z tu47 ti9 Z Z) (fun _=>rfl) fun v40=>hFrz 10 [12,82] Z (fS Z<|fS Z<|fN)<|hFrz 1041 [83] Z (fS Z<|fN)<|z3a 14 [] [] Z (by kernel_rfl) Z Zx Z Tryz.func29 Z Z (zg7 _ _) (Y2 Z Z) rN Z (fun _ _=>z52) fun r41 n42=>hTk 15 Z Z (pkT Z Z)<|hTk 16 Z Z (mv Z)<|hIf 86 Z Z (fun h43=>?_) (fun h43=>?_)
      ·
       refine hKn 84 Z Z h43<|hKn 85 Z Z h43<|Zg 17 Z Z (ld 3 Z Z fH zb2 Z)<|Zg 18 Z Z (bld (x':=(⟨0,0,0,[]⟩:z03)) [(0,1),(1,1),(2,1),(3,1)] Tryz.underlying54 zem Z zok Z (Bld.done Z))<|z3a 19 [1001] [] Z (by kernel_rfl) Z Zx Z Tryz.func42 Z Z (z6w _ _ _ _) (aQ Z<|aQ Z<|aQ Z<|aQ Z<|aN) (y1 Z) Z (fun _ _=>z52) fun r44 n45=>hTk 20 Z Z (pkT Z Z)<|hTk 21 Z Z (mv Z)<|hIf 91 Z Z (fun h46=>?_) (fun h46=>?_)
       ·
        refine hKn 89 Z Z h46<|hKn 90 Z Z h46<|Zg 22 Z Z (ld 5 Z Z fH zb2 Z)<|Zg 23 Z Z (bld (x':=(⟨0,0,0,[]⟩:z03)) [(0,1),(1,1),(2,1),(3,1)] Tryz.underlying54 zem Z zok Z (Bld.done Z))<|z3a 24 [1001] [] Z (by kernel_rfl) Z Zx Z Tryz.func42 Z Z (z6w _ _ _ _) (aQ Z<|aQ Z<|aQ Z<|aQ Z<|aN) (y1 Z) Z (fun _ _=>z52) fun r47 n48=>hTk 25 Z Z (pkT Z Z)<|hTk 26 Z Z (mv Z)<|hIf 96 Z Z (fun h49=>?_) (fun h49=>?_)
        ·
         refine hKn 94 Z Z h49<|hKn 95 Z Z h49<|Zg 27 Z Z (ld 8 Z Z fH zb2 Z)<|Zg 28 Z Z (bld (x':=(⟨0,0,0,[]⟩:z03)) [(0,1),(1,1),(2,1),(3,1)] Tryz.underlying54 zem Z zok Z (Bld.done Z))<|z3a 29 [1001] [] Z (by kernel_rfl) Z Zx Z Tryz.func42 Z Z (z6w _ _ _ _) (aQ Z<|aQ Z<|aQ Z<|aQ Z<|aN) (y1 Z) Z (fun _ _=>z52) fun r50 n51=>hTk 30 Z Z (pkT Z Z)<|hTk 31 Z Z (mv Z)<|hIf 101 Z Z (fun h52=>?_) (fun h52=>?_)
         ·
          refine hKn 99 Z Z h52<|hKn 100 Z Z h52<|Zg 32 Z Z (mv Z)<|hTk 33 Z Z (pkT Z Z)<|hTk 34 Z Z (mv Z)<|hIf 104 Z Z (fun h53=>?_) (fun h53=>?_)
          ·
           refine hKn 16 Z Z h53<|hKn 102 Z Z h53<|hKn 103 Z Z h53<|Zg 35 Z Z (mv Z)<|hTk 36 Z Z (pkT Z Z)<|hTk 37 Z Z (mv Z)<|hIf 107 Z Z (fun h54=>?_) (fun h54=>?_)
           ·
            refine hKn 19 Z Z h54<|hKn 105 Z Z h54<|hKn 106 Z Z h54<|Zg 38 Z Z (ld 13 Z Z fH zb2 Z)<|Zg 39 Z Z (mv Z)<|z100 40 [] [] Z (by kernel_rfl) Z Zx Z Tryz.func43 Z Z (za1 _) (Y1 Z) rN Z fun r55 n56=>z3a 41 [1001] [] Z (by kernel_rfl) Z Zx Z Tryz.func42 Z Z (z6w _ _ _ _) (aQ Z<|aQ Z<|aQ Z<|aQ Z<|aN) (y1 Z) Z (fun _ _=>z52) fun r57 n58=>hTk 42 Z Z (pkT Z Z)<|hTk 43 Z Z (asg Z)<|z30 (by kernel_rfl)<|z0k<|z0l<|Ze [] [1001] Z
           ·
            refine hKn 19 Z Z h54<|hKn 105 Z Z h54<|hKn 106 Z Z h54<|hSk 38 Z Z<|hSk 39 Z Z<|hSk 40 Z Z<|hSk 41 Z Z<|hTk 42 Z Z (pkF Z Z)<|hTk 43 Z Z (asg Z)<|z30 (by kernel_rfl)<|z0k<|z0l<|Ze [] [1001] Z
          ·
           refine hKn 16 Z Z h53<|hKn 102 Z Z h53<|hKn 103 Z Z h53<|hSk 35 Z Z<|hTk 36 Z Z (pkF Z Z)<|hTk 37 Z Z (mv Z)<|hSk 38 Z Z<|hSk 39 Z Z<|hSk 40 Z Z<|hSk 41 Z Z<|hTk 42 Z Z (pkF Z Z)<|hTk 43 Z Z (asg Z)<|z30 (by kernel_rfl)<|z0k<|z0l<|Ze [] [1001] Z
         ·
          refine hKn 99 Z Z h52<|hKn 100 Z Z h52<|hSk 32 Z Z<|hTk 33 Z Z (pkF Z Z)<|hTk 34 Z Z (mv Z)<|hSk 35 Z Z<|hTk 36 Z Z (pkF Z Z)<|hTk 37 Z Z (mv Z)<|hSk 38 Z Z<|hSk 39 Z Z<|hSk 40 Z Z<|hSk 41 Z Z<|hTk 42 Z Z (pkF Z Z)<|hTk 43 Z Z (asg Z)<|z30 (by kernel_rfl)<|z0k<|z0l<|Ze [] [1001] Z
        ·
         refine hKn 94 Z Z h49<|hKn 95 Z Z h49<|hSk 27 Z Z<|hSk 28 Z Z<|hSk 29 Z Z<|hTk 30 Z Z (pkF Z Z)<|hTk 31 Z Z (mv Z)<|hSk 32 Z Z<|hTk 33 Z Z (pkF Z Z)<|hTk 34 Z Z (mv Z)<|hSk 35 Z Z<|hTk 36 Z Z (pkF Z Z)<|hTk 37 Z Z (mv Z)<|hSk 38 Z Z<|hSk 39 Z Z<|hSk 40 Z Z<|hSk 41 Z Z<|hTk 42 Z Z (pkF Z Z)<|hTk 43 Z Z (asg Z)<|z30 (by kernel_rfl)<|z0k<|z0l<|Ze [] [1001] Z
       ·
        refine hKn 89 Z Z h46<|hKn 90 Z Z h46<|hSk 22 Z Z<|hSk 23 Z Z<|hSk 24 Z Z<|hTk 25 Z Z (pkF Z Z)<|hTk 26 Z Z (mv Z)<|hSk 27 Z Z<|hSk 28 Z Z<|hSk 29 Z Z<|hTk 30 Z Z (pkF Z Z)<|hTk 31 Z Z (mv Z)<|hSk 32 Z Z<|hTk 33 Z Z (pkF Z Z)<|hTk 34 Z Z (mv Z)<|hSk 35 Z Z<|hTk 36 Z Z (pkF Z Z)<|hTk 37 Z Z (mv Z)<|hSk 38 Z Z<|hSk 39 Z Z<|hSk 40 Z Z<|hSk 41 Z Z<|hTk 42 Z Z (pkF Z Z)<|hTk 43 Z Z (asg Z)<|z30 (by kernel_rfl)<|z0k<|z0l<|Ze [] [1001] Z
      ·
       refine hKn 84 Z Z h43<|hKn 85 Z Z h43<|hSk 17 Z Z<|hSk 18 Z Z<|hSk 19 Z Z<|hTk 20 Z Z (pkF Z Z)<|hTk 21 Z Z (mv Z)<|hSk 22 Z Z<|hSk 23 Z Z<|hSk 24 Z Z<|hTk 25 Z Z (pkF Z Z)<|hTk 26 Z Z (mv Z)<|hSk 27 Z Z<|hSk 28 Z Z<|hSk 29 Z Z<|hTk 30 Z Z (pkF Z Z)<|hTk 31 Z Z (mv Z)<|hSk 32 Z Z<|hTk 33 Z Z (pkF Z Z)<|hTk 34 Z Z (mv Z)<|hSk 35 Z Z<|hTk 36 Z Z (pkF Z Z)<|hTk 37 Z Z (mv Z)<|hSk 38 Z Z<|hSk 39 Z Z<|hSk 40 Z Z<|hSk 41 Z Z<|hTk 42 Z Z (pkF Z Z)<|hTk 43 Z Z (asg Z)<|z30 (by kernel_rfl)<|z0k<|z0l<|Ze [] [1001] Z
     ·
      refine hKn 79 Z Z h39<|hKn 80 Z Z h39<|hSk 12 Z Z<|hSk 13 Z Z<|hSk 14 Z Z<|hTk 15 Z Z (pkF Z Z)<|hTk 16 Z Z (mv Z)<|hSk 17 Z Z<|hSk 18 Z Z<|hSk 19 Z Z<|hTk 20 Z Z (pkF Z Z)<|hTk 21 Z Z (mv Z)<|hSk 22 Z Z<|hSk 23 Z Z<|hSk 24 Z Z<|hTk 25 Z Z (pkF Z Z)<|hTk 26 Z Z (mv Z)<|hSk 27 Z Z<|hSk 28 Z Z<|hSk 29 Z Z<|hTk 30 Z Z (pkF Z Z)<|hTk 31 Z Z (mv Z)<|hSk 32 Z Z<|hTk 33 Z Z (pkF Z Z)<|hTk 34 Z Z (mv Z)<|hSk 35 Z Z<|hTk 36 Z Z (pkF Z Z)<|hTk 37 Z Z (mv Z)<|hSk 38 Z Z<|hSk 39 Z Z<|hSk 40 Z Z<|hSk 41 Z Z<|hTk 42 Z Z (pkF Z Z)<|hTk 43 Z Z (asg Z)<|z30 (by kernel_rfl)<|z0k<|z0l<|Ze [] [1001] Z
    ·
     refine hKn 11 Z Z h38<|hKn 75 Z Z h38<|hKn 76 Z Z h38<|hSk 8 Z Z<|hSk 9 Z Z<|hTk 10 Z Z (pkF Z Z)<|hTk 11 Z Z (mv Z)<|hSk 12 Z Z<|hSk 13 Z Z<|hSk 14 Z Z<|hTk 15 Z Z (pkF Z Z)<|hTk 16 Z Z (mv Z)<|hSk 17 Z Z<|hSk 18 Z Z<|hSk 19 Z Z<|hTk 20 Z Z (pkF Z Z)<|hTk 21 Z Z (mv Z)<|hSk 22 Z Z<|hSk 23 Z Z<|hSk 24 Z Z<|hTk 25 Z Z (pkF Z Z)<|hTk 26 Z Z (mv Z)<|hSk 27 Z Z<|hSk 28 Z Z<|hSk 29 Z Z<|hTk 30 Z Z (pkF Z Z)<|hTk 31 Z Z (mv Z)<|hSk 32 Z Z<|hTk 33 Z Z (pkF Z Z)<|hTk 34 Z Z (mv Z)<|hSk 35 Z Z<|hTk 36 Z Z (pkF Z Z)<|hTk 37 Z Z (mv Z)<|hSk 38 Z Z<|hSk 39 Z Z<|hSk 40 Z Z<|hSk 41 Z Z<|hTk 42 Z Z (pkF Z Z)<|hTk 43 Z Z (asg Z)<|z30 (by kernel_rfl)<|z0k<|z0l<|Ze [] [1001] Z
   ·
    refine hKn 8 Z Z h37<|hKn 72 Z Z h37<|hKn 73 Z Z h37<|hSk 5 Z Z<|hTk 6 Z Z (pkF Z Z)<|hTk 7 Z Z (mv Z)<|hSk 8 Z Z<|hSk 9 Z Z<|hTk 10 Z Z (pkF Z Z)<|hTk 11 Z Z (mv Z)<|hSk 12 Z Z<|hSk 13 Z Z<|hSk 14 Z Z<|hTk 15 Z Z (pkF Z Z)<|hTk 16 Z Z (mv Z)<|hSk 17 Z Z<|hSk 18 Z Z<|hSk 19 Z Z<|hTk 20 Z Z (pkF Z Z)<|hTk 21 Z Z (mv Z)<|hSk 22 Z Z<|hSk 23 Z Z<|hSk 24 Z Z<|hTk 25 Z Z (pkF Z Z)<|hTk 26 Z Z (mv Z)<|hSk 27 Z Z<|hSk 28 Z Z<|hSk 29 Z Z<|hTk 30 Z Z (pkF Z Z)<|hTk 31 Z Z (mv Z)<|hSk 32 Z Z<|hTk 33 Z Z (pkF Z Z)<|hTk 34 Z Z (mv Z)<|hSk 35 Z Z<|hTk 36 Z Z (pkF Z Z)<|hTk 37 Z Z (mv Z)<|hSk 38 Z Z<|hSk 39 Z Z<|hSk 40 Z Z<|hSk 41 Z Z<|hTk 42 Z Z (pkF Z Z)<|hTk 43 Z Z (asg Z)<|z30 (by kernel_rfl)<|z0k<|z0l<|Ze [] [1001] Z
  ·
   refine hKn 5 Z Z h36<|hKn 70 Z Z h36<|hSk 2 Z Z<|hTk 3 Z Z (pkF Z Z)<|hTk 4 Z Z (mv Z)<|hSk 5 Z Z<|hTk 6 Z Z (pkF Z Z)<|hTk 7 Z Z (mv Z)<|hSk 8 Z Z<|hSk 9 Z Z<|hTk 10 Z Z (pkF Z Z)<|hTk 11 Z Z (mv Z)<|hSk 12 Z Z<|hSk 13 Z Z<|hSk 14 Z Z<|hTk 15 Z Z (pkF Z Z)<|hTk 16 Z Z (mv Z)<|hSk 17 Z Z<|hSk 18 Z Z<|hSk 19 Z Z<|hTk 20 Z Z (pkF Z Z)<|hTk 21 Z Z (mv Z)<|hSk 22 Z Z<|hSk 23 Z Z<|hSk 24 Z Z<|hTk 25 Z Z (pkF Z Z)<|hTk 26 Z Z (mv Z)<|hSk 27 Z Z<|hSk 28 Z Z<|hSk 29 Z Z<|hTk 30 Z Z (pkF Z Z)<|hTk 31 Z Z (mv Z)<|hSk 32 Z Z<|hTk 33 Z Z (pkF Z Z)<|hTk 34 Z Z (mv Z)<|hSk 35 Z Z<|hTk 36 Z Z (pkF Z Z)<|hTk 37 Z Z (mv Z)<|hSk 38 Z Z<|hSk 39 Z Z<|hSk 40 Z Z<|hSk 41 Z Z<|hTk 42 Z Z (pkF Z Z)<|hTk 43 Z Z (asg Z)<|z30 (by kernel_rfl)<|z0k<|z0l<|Ze [] [1001] Z
def zev (a0:List z00):Option (Bool) :=
 zaw a0 >>= fun r1 =>
 if !r1 then
  z3l a0 >>= fun r4 =>
  some (r4==0)
 else
  some false
theorem zl9 (a0:List z00):z1t Tryz.prog 36 [.rd (z02 z01) a0] [] (zev a0) (fun r nv=>⟨[.rd z0d r],[]⟩):=by
 refine z2p 11 Tryz.func36 Z Z Z fun H w=>?_
 refine gSR<|Zb Z<|gSR<|Zm Z<|Zc [] [] Tryz.func9 Z (zic _) fun r1 n2=>Zq (zew Z)<|Zm Z<|z1p 6 Z (fun h3=>?_) (fun h3=>?_)
 ·
  refine lKn 5 Z h3<|z18 Zx Z Z (mv Z)<|zgy [] [] Zx Z Tryz.func21 Z Z (zii _) (Y1 Z) rN fun r4 n5=>z18 Zx Z Z (I.eql Z Z)<|Zq (pkT Z Z)<|Zb Z<|z0l<|Ze [] [] Z
 ·
  refine lKn 5 Z h3<|Zk Z<|Zk Z<|Zk Z<|Zq (pkF Z Z)<|Zb Z<|z0l<|Ze [] [] Z
def z3i (a0:List z00) (r13:(List (List V3)) × Int) (s34:Bool × Int) (s63:Int):Option (Sum (Sum (Sum (Sum Bool Bool) (Bool × Int)) Unit) Int) :=
 idx r13.1 s34.2 >>= fun x64 =>
 if decide (s63<(x64.length:Int)) then
  idx a0 s34.2 >>= fun x67 =>
  idx r13.1 s34.2 >>= fun x69 =>
  idx x69 s63 >>= fun x71 =>
  z2f x67.IDs x71 >>= fun r73 =>
  if decide (0≤r73) then
   some (.inl (.inl (.inl (.inl false))))
  else
   some (w64 (s63+1)) >>= fun y76 =>
   some (.inr y76)
 else
  some (.inl (.inr ()))
def z3j (a0:List z00) (r7:z00 × Int) (r10:z00 × Int) (r13:(List (List V3)) × Int) (s34:Bool × Int):Option (Sum (Sum Bool Bool) (Bool × Int)) :=
 if decide (s34.2<(a0.length:Int)) then
  (idx a0 s34.2 >>= fun x37 =>
  z35 x37.IDs r10.1.IDs >>= fun r39 =>
  if !r39 then
   some true
  else
   idx a0 s34.2 >>= fun x42 =>
   z35 r7.1.IDs x42.IDs >>= fun r44 =>
   if !r44 then
    some true
   else
    idx r13.1 s34.2 >>= fun x47 =>
    z5t x47 >>= fun r49 =>
    if !r49 then
     some true
    else
     idx r13.1 s34.2 >>= fun x52 =>
     idx a0 s34.2 >>= fun x54 =>
     if (w64 ((x52.length:Int)+(x54.IDs.length:Int))) != (r7.1.IDs.length:Int) then
      some true
     else
      idx r13.1 s34.2 >>= fun x57 =>
      z35 r7.1.IDs x57 >>= fun r59 =>
      some (!r59)) >>= fun s36 =>
  if s36 then
   some (.inl (.inl false))
  else
   z4y (iter (z3i a0 r13 s34) 0) fun s62 =>
   if s34.1 then
    idx r13.1 s34.2 >>= fun x78 =>
    some ((x78.length:Int)==0) >>= fun y80 =>
    some (w64 (s34.2+1)) >>= fun y81 =>
    some (.inr (y80,y81))
   else
    some (w64 (s34.2+1)) >>= fun y82 =>
    some (.inr (false,y82))
 else
  some (.inl (.inr s34.1))
def z82 (a0:List z00):Option (Bool) :=
 zat >>= fun r1 =>
 zev a0 >>= fun r3 =>
 if !r3 then
  some r1
 else
  if !r1 then
   some r1
  else
   zag a0 >>= fun r7 =>
   zbs a0 >>= fun r10 =>
   zcd a0 >>= fun r13 =>
   zdc a0 >>= fun r15 =>
   (if r10.2 != 0 then
    some true
   else
    if r15.2 != 0 then
     some true
    else
     z5a r10.1 >>= fun r20 =>
     some (r20 != 0)) >>= fun s17 =>
   if s17 then
    some false
   else
    if r7.2 != 0 then
     (if r1 then
      if r7.2==4 then
       some (r13.2==4)
      else
       some false
     else
      some false) >>= fun s24 =>
     some s24
    else
     (if r13.2 != 0 then
      some true
     else
      if (r13.1.length:Int) != (a0.length:Int) then
       some true
      else
       z5a r7.1 >>= fun r30 =>
       some (r30 != 0)) >>= fun s27 =>
     if s27 then
      some false
     else
      z4y (iter (z3j a0 r7 r10 r13) (true,0)) fun s33 =>
      if r1 then
       if r15.1==s33 then
        if !r15.1 then
         some true
        else
         if (a0.length:Int)==0 then
          some true
         else
          some ((r10.1.IDs.length:Int)==(r7.1.IDs.length:Int)) >>= fun y87 =>
          some y87
       else
        some false
      else
       some false
end
end Go.Proofs.YthgpinfkodaefaaGreatDoor
