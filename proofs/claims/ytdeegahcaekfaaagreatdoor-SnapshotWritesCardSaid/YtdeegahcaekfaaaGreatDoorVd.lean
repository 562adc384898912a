import Derived.Test.YtdeegahcaekfaaaGreatDoorVc
set_option linter.unusedSimpArgs false
set_option linter.unusedVariables false
namespace Go.Proofs.YtdeegahcaekfaaaGreatDoor
set_option maxRecDepth 100000
set_option maxHeartbeats 4000000
open Go Go.RowKit _root_.Go.Proofs.Tryz
section
open Go Go.Shelf Go.RowKit Go.Lib
def inrZ:Array Value:=#[.string ByteArray.empty,.int .u8 (0),.int .i64 (0),.int .u64 (0),.string ByteArray.empty,.int .u64 (0),.int .u8 (0),.int .u8 (0),.int .u8 (0),.int .u8 (0),.int .u8 (0),.int .u8 (0),.int .u8 (0),.int .u8 (0),.int .u8 (0),.int .u8 (0),.int .u8 (0),.int .u8 (0),.int .u8 (0),.int .u8 (0),.int .u8 (0),.int .u8 (0),.int .u8 (0),.int .u8 (0),.int .u8 (0),.int .u8 (0),.int .u8 (0),.int .u8 (0),.int .u8 (0),.int .u8 (0),.int .u8 (0),.int .u8 (0),.int .u8 (0),.int .u8 (0),.int .u8 (0),.int .u8 (0),.int .u8 (0),.int .u8 (0)]
section
variable (b n c i vb vc:Nat) (xs ys:List Value) (C V:Array Value) (w:World)
theorem TS:TI Tryz.prog 75 (.agg inrZ) 38 96:=Cf
theorem TU:inrZ.size=38:=rfl
theorem TV:(Tryz.prog.info? 75).map (·.size)=some 38:=by kernel_rfl
theorem z13b (hi:i<n) (aj:n+1<=c) (ak:c<=9223372036854775807) (aa:vb≠b) (hC:w.heap[b]? = some (.cells C 75 (0,0))) (hV:w.heap[vb]? = some (.cells V 75 (0,0)))
  (hCs:C.size=c * 38) (a2:C.toList.take (n * 38)=xs) (a6:V.toList.take 38=ys) (U:ys.length=38) (h1x:∀ v∈xs,v.oneCell'=true) (h1y:∀ v∈ys,v.oneCell'=true) :
  Calls Tryz.prog 189 #[.slice (some ⟨b,0,none⟩) n c,.int .i64 i,.slice (some ⟨vb,0,none⟩) 1 vc] w λe w' =>
   e=.returned (.slice (some ⟨b,0,none⟩) (n+1) c)/\∃ D,w'=w.drew.setRow b D/\D.size=C.size/\D.toList.take ((n+1) * 38)=xs.take (i * 38)++ys++xs.drop (i * 38):=by
 have ab:=TV;have a7:Tryz.prog.underlying 25=some (.slice 75):=underlying25;have ac:∀ j v,C.toList[j]? = some v->w.cell? ⟨b,j,none⟩=some v:=λj v O=>by
  rw[Array.getElem?_toList] at O; unfold World.cell?; rw[hC]; exact O
 have ah:∀ j v,V.toList[j]? = some v->w.cell? ⟨vb,j,none⟩=some v:=λj v O=>by
  rw[Array.getElem?_toList] at O; unfold World.cell?; rw[hV]; exact O
 have a8:xs.length=n * 38:=by rw[<- a2,List.length_take,Array.length_toList]; omega
 have ad:∀ j v,xs[j]? = some v->C.toList[j]? = some v:=λj v O=>by
  rw[<- a2,List.getElem?_take] at O; split at O
  ·exact O
  ·cases O
 have ae:∀ j v,ys[j]? = some v->V.toList[j]? = some v:=λj v O=>by
  rw[<- a6,List.getElem?_take] at O; split at O
  ·exact O
  ·cases O
 have hVs:V.size≠0:=by
  have:ys.length<=V.size:=by rw[<- a6,List.length_take,Array.length_toList]; omega
  omega
 have ai:∀ lb cb,(callFunc 229 #[.slice (some ⟨vb,0,none⟩) 1 vc,.slice (some ⟨b,(i+1) * 38,none⟩) lb cb]).run Tryz.prog w=.ok (.value (.bool false)) w:=λlb cb=>by
  rw[run_callFunc_extern func229 (by kernel_rfl) (by kernel_rfl) (by kernel_rfl) (e:=Extern.SlicesOverlaps.overlaps #[25,25] #[4]) (by kernel_rfl),
   Lib.run_overlaps_apart w 25 4 75 a7 38 Tryz.sizeOf75 ⟨vb,0,none⟩ ⟨b,(i+1) * 38,none⟩ 1 vc lb cb aa 75 75 V.size C.size (by simp[World.shape?,hV]) (by simp[World.shape?,hC]) (by omega) (by simp[World.frozen?,hV]) (by simp[World.frozen?,hV])]
  rfl
 have a1:(xs.drop (i * 38)).length=(n - i) * 38:=by rw[List.length_drop,a8,Nat.sub_mul]
 have hmin1:Nat.min (n+1 - i) (n - i)=n - i:=by simp only[Nat.min_def]; split <;> omega
 have hcp1:∀ ty dc sc,(Builtin.copy_ #[25,25] ty #[.slice (some ⟨b,(i+1) * 38,none⟩) (n - i) dc,.slice (some ⟨b,i * 38,none⟩) (n+1 - i) sc]).run Tryz.prog w.drew =
   .ok (goInt ((n - i:Nat):Int)) (w.drew.setRow b (C.toList.take ((i+1) * 38)++xs.drop (i * 38)++C.toList.drop ((i+1) * 38+(xs.drop (i * 38)).length)).toArray):=λty dc sc=>by
  have e:=MA (P:=Tryz.prog) w.drew 25 25 ty 75 b ((i+1) * 38) (n - i) dc ⟨b,i * 38,none⟩ (n+1 - i) sc C 75 (xs.drop (i * 38)) a7 ab hC (by rw[hmin1,a1])
   (λj v O=>by rw[Addr.add_lit]; exact ac _ v (ad _ v (by rwa [List.getElem?_drop] at O))) (by rw[a1,hCs]; omega) (λv hv=>h1x v (List.mem_of_mem_drop hv))
  rw[hmin1] at e; exact e
 obtain⟨D1,hD1⟩:∃ D1,D1=(C.toList.take ((i+1) * 38)++xs.drop (i * 38)++C.toList.drop ((i+1) * 38+(xs.drop (i * 38)).length)).toArray:=⟨_,rfl⟩
 rw[<- hD1] at hcp1;have hD1s:D1.size=C.size:=by
  rw[hD1]; simp only[List.size_toArray,List.length_append,List.length_take,List.length_drop,Array.length_toList,a8]; omega
 obtain⟨W1,hW1⟩:∃ W1,W1=w.drew.setRow b D1:=⟨_,rfl⟩
 have hB1:W1.heap[b]? = some (.cells D1 75 (0,0)):=by rw[hW1]; exact setRow_heap w.drew b C D1 75 (0,0) hC
 have hV1:W1.heap[vb]? = some (.cells V 75 (0,0)):=by rw[hW1,setRow_other w.drew b vb D1 aa]; exact hV
 obtain⟨D2,hD2⟩:∃ D2,D2=(D1.toList.take (i * 38)++ys++D1.toList.drop (i * 38+ys.length)).toArray:=⟨_,rfl⟩
 have hcp2:∀ ty dc,(Builtin.copy_ #[25,25] ty #[.slice (some ⟨b,i * 38,none⟩) (n+1 - i) dc,.slice (some ⟨vb,0,none⟩) 1 vc]).run Tryz.prog W1=.ok (goInt 1) (W1.setRow b D2):=λty dc=>by
  have hm:Nat.min 1 (n+1 - i)=1:=by simp only[Nat.min_def]; split <;> omega
  have e:=MA (P:=Tryz.prog) W1 25 25 ty 75 b (i * 38) (n+1 - i) dc ⟨vb,0,none⟩ 1 vc D1 75 ys a7 ab hB1 (by rw[hm,U])
   (λj v O=>by
    rw[Addr.add_lit,Nat.zero_add]
    have:=ae j v O
    rw[Array.getElem?_toList] at this
    unfold World.cell?; rw[hV1]; exact this) (by rw[U,hD1s,hCs]; omega) h1y
  rw[hm,<- hD2] at e; exact e
 have af:D2.size=C.size/\D2.toList.take ((n+1) * 38)=xs.take (i * 38)++ys++xs.drop (i * 38):=by
  have t1:D1.toList.take (i * 38)=xs.take (i * 38):=by
   rw[hD1,<- a2,List.take_take];simp only[List.append_assoc];rw[List.take_append_of_le_length (by rw[List.length_take,Array.length_toList]; omega),List.take_take]
   congr 1; omega
  have t2:(D1.toList.drop ((i+1) * 38)).take ((n - i) * 38)=xs.drop (i * 38):=by
   have el:(C.toList.take ((i+1) * 38)).length=(i+1) * 38:=by rw[List.length_take,Array.length_toList]; omega
   rw[hD1];simp only[List.append_assoc];rw[List.drop_append,el,Nat.sub_self,List.drop_zero,List.drop_eq_nil_of_le (by rw[el]; omega),List.nil_append,List.take_append_of_le_length (by rw[a1]; omega),List.take_of_length_le (by rw[a1]; omega)]
  constructor
  ·rw[hD2]; simp only[List.size_toArray,List.length_append,List.length_take,List.length_drop,Array.length_toList,U]; omega
  ·rw[hD2];simp only[List.append_assoc];have el:(D1.toList.take (i * 38)).length=i * 38:=by rw[List.length_take,Array.length_toList]; omega
   rw[List.take_append,el,List.take_of_length_le (by rw[el]; omega),List.take_append,U,List.take_of_length_le (l:=ys) (by rw[U]; omega),t1,
    show i * 38+38=(i+1) * 38 by omega, show (n+1) * 38 - i * 38 - 38=(n - i) * 38 by omega,t2]
 have am:¬ ((1:Int)=0):=by decide
 have ao:¬ ((i:Int)=(n:Int)):=by omega
 have ap:IntKind.i64.wrap ((i:Int)+1)=(i:Int)+1:=by rw[IntKind.wrap_i64]; omega
 have aq:(0:Int)<=(i:Int)+1:=by omega
 have ar:i<=n:=by omega
 have au:((i:Int)+1).toNat=i+1:=by omega
 have av:¬ (c=i+1):=by omega
 have aw:(i:Int)<=(n:Int)+1:=by omega
 have ax:¬ (c=i):=by omega
 subst hW1
 clear ac ah ad ae hD1 hD2 a2 a6 hC hV hB1 hV1 h1x h1y a1 hmin1 a8 U
 go_enter func189,Tryz.ntmps189
 go_wp2_with (simp only[ai])
 go_region_law (refine TR rfl _ _ 25 25 rfl (.slice (some ⟨b,(i+1) * 38,none⟩) (n - i) (c - (i+1))) (.slice (some ⟨b,i * 38,none⟩) (n+1 - i) (c - i)) (by simp[Act.eval,Act.put]) (by simp[Act.eval,Act.put]) (hcp1 3 (c - (i+1)) (c - i)) ?_)
 go_wp2_with (at_builtin; refine TQ _ rfl _ _ 25 25 rfl _ _ rfl rfl (hcp2 _ _) ?_)
 go_ret
 exact⟨rfl,D2, by rw[setRow_setRow],af⟩
theorem z15o (hi:i<n) (ar:n<=c) (ac:c<n+1) (hn:n<=1000000) (aw:vb≠b) (hC:w.heap[b]? = some (.cells C 75 (0,0))) (hV:w.heap[vb]? = some (.cells V 75 (0,0)))
  (hCs:C.size=c * 38) (a6:C.toList.take (n * 38)=xs) (ad:V.toList.take 38=ys) (U:ys.length=38) (h1x:∀ v∈xs,v.oneCell'=true) (h1y:∀ v∈ys,v.oneCell'=true) :
  Calls Tryz.prog 189 #[.slice (some ⟨b,0,none⟩) n c,.int .i64 i,.slice (some ⟨vb,0,none⟩) 1 vc] w λe w' =>
   ∃ G,e=.returned (.slice (some ⟨w.heap.size,0,none⟩) (n+1) G)/\n+1<=G/\G<=maxLen/\∃ D,w'.heap[w.heap.size]? = some (.cells D 75 (0,0))/\w.grownBy w' none/\D.size=G * 38/\D.toList.take ((n+1) * 38)=xs.take (i * 38)++ys++xs.drop (i * 38):=by
 have ae:=TV;have a7:Tryz.prog.underlying 25=some (.slice 75):=underlying25;have u3:Tryz.prog.underlying 3=some (.int .i64):=underlying3;have au:c=n:=by omega
 subst au;have af:∀ j v,C.toList[j]? = some v->w.cell? ⟨b,j,none⟩=some v:=λj v O=>by
  rw[Array.getElem?_toList] at O; unfold World.cell?; rw[hC]; exact O
 have a2:xs.length=c * 38:=by rw[<- a6,List.length_take,Array.length_toList]; omega
 have a8:∀ j v,xs[j]? = some v->C.toList[j]? = some v:=λj v O=>by
  rw[<- a6,List.getElem?_take] at O; split at O
  ·exact O
  ·cases O
 have ah:∀ j v,ys[j]? = some v->V.toList[j]? = some v:=λj v O=>by
  rw[<- ad,List.getElem?_take] at O; split at O
  ·exact O
  ·cases O
 have ai:b<w.heap.size:=(Array.getElem?_eq_some_iff.1 hC).1;have aj:vb<w.heap.size:=(Array.getElem?_eq_some_iff.1 hV).1;have ak:(c:Int)+1 - (i:Int)=((c+1 - i:Nat):Int):=by omega
 obtain⟨i0,am,ao,ap,aa⟩:=TS;have ab:(Builtin.firstCells i0.size i (.slice (some ⟨b,0,none⟩) i c)).run Tryz.prog w.drew=.ok (xs.take (i * 38)).toArray w.drew:=by
  rw[ap]
  exact run_firstCells_some w.drew 38 i ⟨b,0,none⟩ i c (xs.take (i * 38)) (by rw[List.length_take]; omega) (λj v O=>by
   rw[Addr.add_lit,Nat.zero_add];rw[List.getElem?_take] at O
   split at O
   ·exact af j v (a8 j v O)
   ·cases O)
 obtain⟨G,hG⟩:∃ G,G=grownCap w (c+1) c 75:=⟨_,rfl⟩
 obtain⟨ROW,hROW⟩:∃ ROW:Array Value,ROW=(xs.take (i * 38)).toArray++Builtin.zeroCells inrZ (c+1 - i)++Builtin.zeroCells inrZ (G - (c+1)):=⟨_,rfl⟩
 have av:∀ ty,(Builtin.append_ #[25,3] ty #[.slice (some ⟨b,0,none⟩) i c,.int .i64 ((c:Int)+1 - (i:Int))]).run Tryz.prog w =
   .ok (.slice (some ⟨w.heap.size,0,none⟩) (c+1) G) (w.drew.alloc (.cells ROW 75)):=λty=>by
  have h:=Lib.run_append_grow_zeros w 25 3 ty 75 i0 _ .i64 .i64 a7 u3 am ao (some ⟨b,0,none⟩) i c (xs.take (i * 38)) ab (c+1 - i) (by omega) (by omega) (by omega) (by omega) (by rw[aa]; omega) (by rw[aa, show i+(c+1 - i)=c+1 by omega]; exact growslice_fits (by omega) (by omega));rw[show i+(c+1 - i)=c+1 by omega] at h;rw[ak,hROW,hG];exact h
 have hGn:c+1<=G:=by rw[hG]; exact grownCap_ge w _ _ _
 have hGm:G<=maxLen:=by rw[hG]; exact grownCap_le_maxLen w (c+1) c 75 (by unfold maxLen; omega)
 have hG63:G<=9223372036854775807:=by unfold maxLen at hGm; omega
 have hRs:ROW.size=G * 38:=by
  rw[hROW]; simp only[Array.size_append,List.size_toArray,List.length_take,size_zeroCells,TU,a2]; omega
 have hRt:ROW.toList.take (i * 38)=xs.take (i * 38):=by
  rw[hROW]; simp only[Array.toList_append,List.append_assoc];rw[List.take_append_of_le_length (by rw[List.length_take]; omega),List.take_take]; congr 1; omega
 obtain⟨D1,hD1⟩:∃ D1,D1=(ROW.toList.take (i * 38)++ys++ROW.toList.drop (i * 38+ys.length)).toArray:=⟨_,rfl⟩
 have hD1s:D1.size=G * 38:=by
  rw[hD1]; simp only[List.size_toArray,List.length_append,List.length_take,List.length_drop,Array.length_toList,U]; omega
 obtain⟨D2,hD2⟩:∃ D2,D2=(D1.toList.take ((i+1) * 38)++xs.drop (i * 38)++D1.toList.drop ((i+1) * 38+(xs.drop (i * 38)).length)).toArray:=⟨_,rfl⟩
 have a1:(xs.drop (i * 38)).length=(c - i) * 38:=by rw[List.length_drop,a2,Nat.sub_mul]
 have hD2s:D2.size=G * 38:=by
  rw[hD2]; simp only[List.size_toArray,List.length_append,List.length_take,List.length_drop,Array.length_toList,a2]; omega
 have aq:D2.toList.take ((c+1) * 38)=xs.take (i * 38)++ys++xs.drop (i * 38):=by
  have e1:(ROW.toList.take (i * 38)).length=i * 38:=by rw[List.length_take,Array.length_toList]; omega
  have e2:D1.toList.take ((i+1) * 38)=xs.take (i * 38)++ys:=by
   rw[hD1]; simp only[List.append_assoc];rw[List.take_append,e1,List.take_of_length_le (by rw[e1]; omega),List.take_append_of_le_length (by rw[U]; omega),List.take_of_length_le (l:=ys) (by rw[U]; omega),hRt]
  have e3:(D1.toList.take ((i+1) * 38)).length=(i+1) * 38:=by rw[List.length_take,Array.length_toList]; omega
  rw[hD2]; simp only[List.append_assoc];rw[List.take_append,e3,List.take_of_length_le (by rw[e3]; omega),List.take_append_of_le_length (by rw[a1]; omega),List.take_of_length_le (l:=xs.drop (i * 38)) (by rw[a1]; omega),e2,List.append_assoc]
 have hcpA:∀ (W:World),W.heap=w.heap.push (.cells ROW 75)->∀ ty dc,(Builtin.copy_ #[25,25] ty #[.slice (some ⟨w.heap.size,i * 38,none⟩) (c+1 - i) dc,.slice (some ⟨vb,0,none⟩) 1 vc]).run Tryz.prog W=.ok (goInt 1) (W.setRow w.heap.size D1):=λW hW ty dc=>by
  have hm:Nat.min 1 (c+1 - i)=1:=by simp only[Nat.min_def]; split <;> omega
  have hN:W.heap[w.heap.size]? = some (.cells ROW 75 (0,0)):=by rw[hW,Array.getElem?_push_size]
  have hV1:W.heap[vb]? = some (.cells V 75 (0,0)):=by rw[hW,Array.getElem?_push_lt aj]; rw[<- hV,Array.getElem?_eq_getElem aj]
  have e:=MA (P:=Tryz.prog) W 25 25 ty 75 w.heap.size (i * 38) (c+1 - i) dc ⟨vb,0,none⟩ 1 vc ROW 75 ys a7 ae hN (by rw[hm,U])
   (λj v O=>by
    rw[Addr.add_lit,Nat.zero_add]
    have:=ah j v O
    rw[Array.getElem?_toList] at this
    unfold World.cell?; rw[hV1]; exact this) (by rw[U,hRs]; omega) h1y
  rw[hm,<- hD1] at e; exact e
 have hcpB:∀ (W W0:World),W0.heap=w.heap.push (.cells ROW 75)->W.heap=(W0.setRow w.heap.size D1).heap->∀ ty dc sc,(Builtin.copy_ #[25,25] ty #[.slice (some ⟨w.heap.size,(i+1) * 38,none⟩) (c - i) dc,.slice (some ⟨b,i * 38,none⟩) (c - i) sc]).run Tryz.prog W=.ok (goInt ((c - i:Nat):Int)) (W.setRow w.heap.size D2):=λW W0 hW0 hW ty dc sc=>by
  have hm:Nat.min (c - i) (c - i)=c - i:=Nat.min_self _;have hN:W.heap[w.heap.size]? = some (.cells D1 75 (0,0)):=by rw[hW]; exact setRow_heap W0 w.heap.size ROW D1 75 (0,0) (by rw[hW0,Array.getElem?_push_size])
  have hB1:W.heap[b]? = some (.cells C 75 (0,0)):=by
   rw[hW,setRow_other W0 w.heap.size b D1 (by omega),hW0,Array.getElem?_push_lt ai,<- hC,Array.getElem?_eq_getElem ai]
  have e:=MA (P:=Tryz.prog) W 25 25 ty 75 w.heap.size ((i+1) * 38) (c - i) dc ⟨b,i * 38,none⟩ (c - i) sc D1 75 (xs.drop (i * 38)) a7 ae hN (by rw[hm,a1])
   (λj v O=>by
    rw[Addr.add_lit]
    have:=a8 _ v (by rwa [List.getElem?_drop] at O)
    rw[Array.getElem?_toList] at this
    unfold World.cell?; rw[hB1]; exact this) (by rw[a1,hD1s]; omega) (λv hv=>h1x v (List.mem_of_mem_drop hv))
  rw[hm,<- hD2] at e; exact e
 have ax:¬ ((1:Int)=0):=by decide
 have ay:¬ ((i:Int)=(c:Int)):=by omega
 have az:(c:Int)<(c:Int)+1:=by omega
 have b0:IntKind.i64.wrap ((i:Int)+1)=(i:Int)+1:=by rw[IntKind.wrap_i64]; omega
 have b1:(0:Int)<=(i:Int)+1:=by omega
 have b2:i<=c:=by omega
 have b3:((i:Int)+1).toNat=i+1:=by omega
 have hGi:¬ (G=i):=by omega
 have hGim:¬ (G=i+1):=by omega
 have b4:¬ (c=i):=by omega
 have b5:(i:Int)<=(c:Int):=by omega
 have hE1:((w.alloc (.cells ROW 75)).drew).heap=w.heap.push (.cells ROW 75):=rfl;have hF1:(((w.alloc (.cells ROW 75)).drew.setRow w.heap.size D1).drew).heap=(((w.alloc (.cells ROW 75)).drew).setRow w.heap.size D1).heap:=rfl
 clear hROW ab hG hRt hD1 hD2 a6 ad hC hV h1x h1y a1 a2 U af a8 ah am ao ap aa ak ar ac
 go_enter func189,Tryz.ntmps189
 go_wp2_with (first
  | (at_builtin; refine Lib.wpList_append_run _ rfl _ _ _ _ rfl _ _ rfl rfl _ _ (av _) ?_)
  | (at_builtin; refine TQ _ rfl _ _ 25 25 rfl _ _ rfl rfl (hcpA _ hE1 _ _) ?_))
 go_region_law (refine TR rfl _ _ 25 25 rfl (.slice (some ⟨w.heap.size,(i+1) * 38,none⟩) (c - i) (G - (i+1))) (.slice (some ⟨b,i * 38,none⟩) (c - i) (c - i)) (by simp[Act.eval,Act.put]) (by simp[Act.eval,Act.put]) (hcpB _ _ hE1 hF1 3 (G - (i+1)) (c - i)) ?_)
 go_wp2
 go_ret
 refine⟨G,rfl,hGn,hGm,D2,?_,⟨rfl,rfl,rfl,?_, λk hk _=>?_⟩,hD2s,aq⟩
 ·exact setRow_heap _ w.heap.size D1 D2 75 (0,0) (setRow_heap ((w.alloc (.cells ROW 75)).drew) w.heap.size ROW D1 75 (0,0) (by rw[hE1,Array.getElem?_push_size]))
 ·rw[setRow_size]; show _<=((w.alloc (.cells ROW 75)).drew.setRow w.heap.size D1).heap.size; rw[setRow_size,hE1,Array.size_push]; omega
 ·rw[setRow_other _ w.heap.size k D2 (by omega)]; show ((w.alloc (.cells ROW 75)).drew.setRow w.heap.size D1).heap[k]? = _;rw[setRow_other _ w.heap.size k D1 (by omega),hE1,Array.getElem?_push_lt hk,Array.getElem?_eq_getElem hk]
theorem z1ap (p0 p1:Value) (O:w.ownsRow 0 75 38 p0 n xs) (h1:w.ownsRow 0 75 38 p1 1 ys) (hn:n<=1000000) (h1y:∀ v∈ys,v.oneCell'=true) :
  Calls Tryz.prog 189 #[p0,.int .i64 n,p1] w λe w'=>∃ v',e=.returned v'/\w'.ownsRow 0 75 38 v' (n+1) (xs++ys)/\w.grownBy w' p0.ownBlock/\∀ b,v'.ownBlock=some b->p0.ownBlock=some b\/w.heap.size<=b:=by
 have a2:Tryz.prog.underlying 25=some (.slice 75):=underlying25;obtain⟨p,c,rfl⟩:=E3 O;obtain⟨q,d,rfl⟩:=E3 h1;obtain⟨p',c',w',U,ho,hg,hs⟩:=Ou (P:=Tryz.prog) (rt:=25) (w:=w) a2 TS (by simp[Value.cells,TU]) (by decide) O (Rd.of_own h1) h1y (by omega) (by omega) (Nat.zero_le _);have a7:¬ ((1:Int)=0):=by decide
 have a8:n<=c:=by
  rcases O.2 with ⟨e,rfl⟩ | ⟨g,cap,cur,e,_,_,h,_⟩
  ·omega
  ·simp only[Value.slice.injEq] at e; omega
 have a6:c<=9223372036854775807:=by
  rcases O.2 with ⟨e,rfl⟩ | ⟨g,cap,cur,e,_,_,_,h,_⟩
  ·simp only[Value.slice.injEq] at e; omega
  ·simp only[Value.slice.injEq] at e; unfold maxLen at h; omega
 have aa:n<=n:=Nat.le_refl _;have a1:p=none->n=0/\c=0:=λe=>by
  rcases O.2 with ⟨e',rfl⟩ | ⟨g,cap,cur,e',_⟩
  ·simp only[Value.slice.injEq] at e'; omega
  ·rw[e] at e'; simp at e'
 clear O h1 h1y
 go_enter func189,Tryz.ntmps189
 cases p with
 | none =>
  obtain⟨rfl,rfl⟩:=a1 rfl
  clear a1
  go_wp2_with (at_builtin; refine Lib.wpList_append_run _ rfl _ _ _ _ rfl _ _ rfl rfl _ _ U ?_)
  go_ret
  exact⟨_,rfl,ho,hg,hs⟩
 | some a =>
  clear a1
  obtain⟨ab,ao,asp⟩:=a
  go_wp2_with (at_builtin; refine Lib.wpList_append_run _ rfl _ _ _ _ rfl _ _ rfl rfl _ _ U ?_)
  all_goals (go_ret; exact⟨_,rfl,ho,hg,hs⟩)
end
end
section
def RG {α:Type} (R:Rep α):Prop:=∀ S S' w w' cs x,R.rel S w cs x->R.rel S' w' cs x
theorem K4 {α:Type} {k:IntKind} {f:α->Int}:RG (Bn k f):=λ_ _ _ _ _ _ h=>h
theorem TW:RG BI:=λ_ _ _ _ _ _ h=>h
theorem rg_l {α:Type} {R:Rep α} (h:RG R) {S S':Blk} {w w':World}:∀ {l:List α} {cs:List Value},B5 R S w cs l->B5 R S' w' cs l
 | [],cs,k=>k
 | x::l,cs,k=>by
  obtain⟨c,d,rfl,O,U⟩:=k;exact⟨c,d,rfl,h _ _ _ _ _ _ O,rg_l h U⟩
theorem z1ca {α:Type} {n:Nat} {R:Rep α} (h:RG R):RG (Az n R):=λ_ _ _ _ _ _ k=>rg_l h k
theorem TX:RG Dc:=λ_ _ _ _ _ _ h=>h
theorem GC {α β:Type} {R:Rep α} {T:Rep β} (h:RG R) (k:RG T):RG (BT R T):=λ_ _ _ _ _ _ ⟨c,d,e,O,U⟩=>⟨c,d,e,h _ _ _ _ _ _ O,k _ _ _ _ _ _ U⟩
theorem TY {α β:Type} {R:Rep α} {g:β->α} (h:RG R):RG (CH g R):=λ_ _ _ _ _ _ k=>h _ _ _ _ _ _ k
theorem rgR:RG B7:=(TY (GC TW (GC (TY (GC K4 (GC K4 (GC K4 (GC TW TX))))) (GC K4 (GC (z1ca K4) TX)))))
def insR (c0:List AP) (i:Int) (c1:List AP):Option (List AP) :=
 chk (0<=i/\i.toNat<=c0.length/\c0.length<=1000000/\c1.length=1)>>=λ_=>some (c0.take i.toNat++c1++c0.drop i.toNat)
theorem z1ba (p0 p1:Value) (n i:Nat) (xs ys:List Value) (w:World) (hi:i<=n) (h0:w.ownsRow 0 75 38 p0 n xs) (h1:w.ownsRow 0 75 38 p1 1 ys) (ae:∀ b,p0.ownBlock=some b->p1.ownBlock≠some b) (hn:n<=1000000)
  (h1x:∀ v∈xs,v.oneCell'=true) (h1y:∀ v∈ys,v.oneCell'=true) :
  Calls Tryz.prog 189 #[p0,.int .i64 i,p1] w λe w'=>∃ v',e=.returned v'/\w'.ownsRow 0 75 38 v' (n+1) (xs.take (i * 38)++ys++xs.drop (i * 38))/\w.grownBy w' p0.ownBlock/\∀ b,v'.ownBlock=some b->p0.ownBlock=some b\/w.heap.size<=b:=by
 have aj:=h0.1;by_cases af:i=n
 ·subst af;refine(z1ap i xs ys w p0 p1 h0 h1 hn h1y).mono λe w' ⟨v',a,b,c,d⟩=>⟨v',a,?_,c,d⟩;rw[List.take_of_length_le (by omega),List.drop_eq_nil_of_le (by omega),List.append_nil];exact b
 ·rcases h0.2 with ⟨rfl,rfl⟩ | ⟨b,c,C,rfl,-,hC,ah,aa,hCs,ab⟩
  ·omega
  rcases h1.2 with ⟨rfl,e⟩ | ⟨vb,vc,V,rfl,-,hV,-,-,hVs,ac⟩
  ·omega
  have ad:vb≠b:=λe=>ae b rfl (by rw[e]; rfl);have a6:ys.length=38:=by have:=h1.1; omega
  have a7:(xs.take (i * 38)++ys++xs.drop (i * 38)).length=(n+1) * 38:=by
   simp only[List.length_append,List.length_take,List.length_drop,a6]; omega
  by_cases U:n+1<=c
  ·refine(z13b b n c i vb vc xs ys C V w (by omega) U (by unfold maxLen at aa; omega) ad hC hV hCs ab (by simpa using ac) a6 h1x h1y).mono λe w' ⟨a,D,O,a3,a4⟩=>⟨_,a,?_,?_, λb' a8=>.inl a8⟩
   ·refine⟨a7,.inr ⟨b,c,D,rfl,Nat.zero_le _,?_,U,aa,a3.trans hCs,a4⟩⟩;rw[O]; exact setRow_heap w.drew b C D 75 (0,0) hC
   ·rw[O];refine⟨rfl,rfl,rfl,?_, λk hk ai=>?_⟩
    ·rw[setRow_size]; exact Nat.le_refl _
    ·rw[setRow_other w.drew b k D (λe=>ai (by rw[e]; rfl))]; rfl
  ·refine(z15o b n c i vb vc xs ys C V w (by omega) ah (by omega) hn ad hC hV hCs ab (by simpa using ac) a6 h1x h1y).mono λe w' ⟨G,a,g1,g2,D,a1,O,a3,a4⟩=>⟨_,a,?_,?_, λb' a8=>.inr ?_⟩
   ·exact⟨a7,.inr ⟨w.heap.size,G,D,rfl,Nat.zero_le _,a1,g1,g2,a3,a4⟩⟩
   ·exact⟨O.os,O.tape,O.output,O.size, λk hk _=>O.block k hk (by simp)⟩
   ·simp only[Value.ownBlock,Option.some.injEq] at a8; omega
theorem z1ac (p0 p1:Value) (c0 c1:List AP) (i:Int):Ah Tryz.prog 189 [.val p0,.rd A3 i,.val p1] [(1,some (p0,.list B7 75 c0)),(2,some (p1,.list B7 75 c1))] (insR c0 i c1)
  (λr nv=>⟨[.val (nv 0)],[(100,some (nv 0,.list B7 75 r))]⟩):=by
 intro r hr H vs w a1 O;have U:(0<=i/\i.toNat<=c0.length/\c0.length<=1000000/\c1.length=1)/\r=c0.take i.toNat++c1++c0.drop i.toNat:=by
  unfold insR chk at hr
  split at hr
  ·rename_i h; simp at hr; exact⟨h, by rw[<- hr,List.append_assoc]⟩
  ·simp at hr
 obtain⟨⟨ac,a2,hn,a6⟩,rfl⟩:=U
 match vs,a1 with
 | [v0,v1,v2],a1 =>
 obtain⟨h0,h1,h2,_⟩:=a1;have e0:v0=p0:=h0.1;have e2:v2=p1:=h2.1;have e1:v1=.int .i64 i:=Ci h1;subst e0; subst e2; subst e1;obtain⟨j,rfl⟩:∃ j:Nat,i=(j:Int):=⟨i.toNat, by omega⟩
 simp only[Int.toNat_natCast] at a2 ⊢;obtain⟨xs,x1,x2⟩:=F6 (O.conts 1 v0 _ rfl);obtain⟨ys,y1,y2⟩:=F6 (O.conts 2 v2 _ rfl);rw[a6] at y1;have a7:∀ b,v0.ownBlock=some b->v2.ownBlock≠some b:=λb U aa=>by
  obtain⟨p,c,rfl⟩:=E3 x1;obtain⟨q,d,rfl⟩:=E3 y1;exact O.excl 1 _ _ 2 _ _ rfl rfl (by decide) b (by rw[ED]; exact U) (by rw[ED]; exact aa)
 refine(z1ba v0 v2 c0.length j xs ys w a2 x1 y1 a7 hn x2.one y2.one).mono λe w' ⟨v',he,hw,hg,hs⟩=>?_;have only:∀ r v c (q:AO),lr [(100,some (v',q))] r=some (v,c)->r=100/\v=v'/\c=q:=λr v c q h=>by
  rw[C0] at h
  split at h
  ·rename_i e; cases h; exact⟨e.symm,rfl,rfl⟩
  ·simp[lr,lk] at h
 have a8:(c0.take j++c1++c0.drop j).length=c0.length+1:=by
  simp only[List.length_append,List.length_take,List.length_drop,a6]; omega
 obtain⟨p',c',rfl⟩:=E3 hw;refine⟨λ_=>.slice p' (c0.length+1) c',[.slice p' (c0.length+1) c'],he,⟨⟨rfl,rfl⟩,trivial⟩, λr v c h=>?_, λr v c r' v2' c2' h h' ab=>?_, λr v c h b U=>?_,hg.os,hg.tape,hg.output,hg.size, λk hk=>?_⟩
 ·obtain⟨rfl,rfl,rfl⟩:=only _ _ _ _ h;refine Le (B:=0) (xs:=xs.take (j * 38)++ys++xs.drop (j * 38)) (by rw[a8]; exact hw) ?_;exact((rg_l rgR (x2.take j)).append ((rg_l rgR) y2)).append (rg_l rgR (x2.drop j))
 ·exact absurd ((only _ _ _ _ h).1.trans (only _ _ _ _ h').1.symm) ab
 ·obtain⟨rfl,rfl,rfl⟩:=only _ _ _ _ h;rw[ED] at U;rcases hs b U with h | h
  ·exact .inr ⟨1,_,_,rfl, by obtain⟨p,c,rfl⟩:=E3 x1; rw[ED]; exact h⟩
  ·exact .inl h
 ·refine hg.block k hk.1 λe=>hk.2 ⟨1,_,_,rfl,?_⟩;obtain⟨p,c,rfl⟩:=E3 x1; rw[ED]; exact e.symm
end
section
def MB (a0:Ao) (a1:V3):Option (Int × Int) :=
 Dx a0>>=λO =>
 if O != 0 then
  some (0,O)
 else
  JI a0.IDs a1>>=λU =>
  if !U.2 then
   some (0,6)
  else
   some (U.1,0)
theorem zpd (a0:Ao) (O:V3):Ah Tryz.prog 184 [.rd AF a0,.rd aZ O] [AE] (MB a0 O) (λr nv=>⟨[.rd A3 r.1,.rd A3 r.2],[(1001,some (.bool true,.glob 1 (Az 64 A9) C6))]⟩):=by
 refine Am 24 func184 Z Z Z λH w=>?_;refine A2<|Eb Z (bx 1 Z) λv1=>Eb Z (bx 2 Z) λv2=>Za Z<|Zb Z<|A6<|A2<|Zq (ld 1 Z Z fH BX Z)<|Zc [1001] [] func25 Z (Hj _) λr3 n4=>Zb Z<|A2<|Zm Z<|Zq (I.neq Z Z)<|Zj Z (λU=>?_) (λU=>?_)
 ·refine A2<|Zm Z<|Za Z<|Zb Z<|A5<|An<|Ze [] [1001] Z
 ·refine Zt<|A2<|Zq (faB 1 Z Z underlying33 Z (by exact AU))<|Zq (ld 1 Z Z (fP (C7 _)) B0 Z)<|Zq (ld 2 Z Z fH Aw Z)<|Zc [] [] func145 Z (Tg _ _) λr6 n7=>Zm Z<|Zq (ext Z Z)<|Zq (ext Z Z)<|Za Z<|Zb Z<|A6<|A2<|Zm Z<|Zq (Cd Z)<|Zj Z (λh8=>?_) (λh8=>?_)
  ·refine A2<|Za Z<|Zb Z<|A5<|An<|Ze [] [1001] Z
  ·refine Zt<|A2<|Zm Z<|Za Z<|Zb Z<|A5<|Ze [] [1001] Z
def MC (a0:Ao) (O:(List (V3 × Int)) × Int):Option (Sum ((List (V3 × Int))) ((List (V3 × Int)) × Int)) :=
 if decide (O.2<(a0.IDs.length:Int)) then
  idx a0.IDs O.2>>=λU =>
  some (.inr (D4 O.1 U O.2,w64 (O.2+1)))
 else
  some (.inl O.1)
def K5 (a0:Ao):Option ((List (V3 × Int))) :=
 (iter (MC a0) (([]:List (V3 × Int)),0))>>=λO =>
 some O
theorem TZ (a0:Ao):Ah Tryz.prog 149 [.rd AF a0] [] (K5 a0) (λr nv=>⟨[.val (nv 0)],[(100,some (nv 0,.map aZ A3 r))]⟩):=by
 refine Am 23 func149 Z Z Z λH w=>?_;refine A2<|Eb Z (bx 1 Z) λv1=>Zb Z<|A2<|Zq (faB 1 Z Z underlying33 Z (by exact AU))<|Zq (ld 1 Z Z (fP (C7 _)) B0 Z)<|Zq (Aq Z .rd Z tu28)<|Ef Z (mkm aZ A3 2 (Or.inr ⟨_,_,Z,rfl⟩) underlying121) λv2=>Zb Z<|AY (λ(s3:(List (V3 × Int))) O U=>Sta (ctx 23 H [] w) [(3,.val v2)] [(2,some (v2,.map aZ A3 s3))] O U) ?_ (λs3=>?_)
 ·refine A2<|Zq (faB 1 Z Z underlying33 Z (by exact AU))<|Zq (ld 1 Z Z (fP (C7 _)) B0 Z)<|Zq (Aq Z .rd Z tu28)<|Zm Z<|Zn<|AJ (λ(s4:(List (V3 × Int)) × Int) O U=>Sta (ctx 23 H [] w) [(3,.val v2),(11,.rd (A8 aZ) a0.IDs),(12,.rd A3 (a0.IDs.length:Int)),(13,.rd A3 s4.2)] [(2,some (v2,.map aZ A3 s4.1))] O U) (λO U h=>Zu h [2]) (λs4=>?_);refine A2<|Zq (I.lss Z Z)<|Zn<|A6<|gIf Z Z (λh5=>?_) (λh5=>?_)
  ·refine Zt<|A6<|AB<|A2<|Zm Z<|Al λx6 h7=>Zq (ixR Z Z h7 tu28 Ak Z)<|Zq (ldR Z Aw)<|Eb Z (AN 3 Ak (.zr (R:=aZ) (x:=(Vector.replicate 32 0)) BU)) λv8=>Za Z<|Es (sto 3 Z Z fH Z Ak)<|Zn<|Ai<|Zm Z<|Zq (ld 3 Z Z fH Aw Z)<|Zm Z<|Es (mup 2 Z Z Z Z ky71 underlying121)<|Ae<|Ap<|Af<|Ai<|Zq (I.add Z Z)<|Zm Z<|Ae<|Au (λO U h=>Zu h [2])
  ·refine AC<|AD<|AG<|Av (λO U h=>Zu h [2])
 ·refine A2<|Zm Z<|Zb Z<|A5<|Ze [v2] [2] Z
def MD (c1_0:List (V3 × Int)) (c3_0:Ao) (rec:V3->(List (V3 × Int))->(List Bool)->Ao->Option ((List Bool))) (U:Ab) (O:(List Bool) × Int):Option (Sum ((List Bool)) ((List Bool) × Int)) :=
 if decide (O.2<(U.Preds.length:Int)) then
  idx U.Preds O.2>>=λa1 =>
  rec a1 c1_0 O.1 c3_0>>=λa2 =>
  some (.inr (a2,w64 (O.2+1)))
 else
  some (.inl O.1)
def ME (rec:V3->(List (V3 × Int))->(List Bool)->Ao->Option ((List Bool))) (a0:V3) (c1_0:List (V3 × Int)) (c2_0:List Bool) (c3_0:Ao):Option ((List Bool)) :=
 some ((Bv c1_0 a0).getD 0)>>=λO =>
 idx c2_0 O>>=λU =>
 if U then
  some c2_0
 else
  idx c2_0 O>>=λx6 =>
  idx c3_0.Ops O>>=λx8 =>
  iter (MD c1_0 c3_0 rec x8) (c2_0.set (O:Int).toNat true,0)
def Ff:Nat->V3->(List (V3 × Int))->(List Bool)->Ao->Option ((List Bool))
 | 0,_,_,_,_=>none
 | N+1,a0,c1_0,c2_0,c3_0=>ME (Ff N) a0 c1_0 c2_0 c3_0
theorem zl2 (rec:V3->(List (V3 × Int))->(List Bool)->Ao->Option ((List Bool))) (ih:∀ (a0:V3) (p1_0:Value) (q1_0:Value) (c1_0:List (V3 × Int)) (p2_0:Value) (q2_0:Value) (c2_0:List Bool) (p3_0:Value) (c3_0:Ao) (p4_0:Value),Ah Tryz.prog 218 [.rd aZ a0,.val (A7 p1_0 0),.val (A7 p2_0 0),.val (A7 p3_0 0),.val (A7 p4_0 0)] [(1,some (p1_0,.box 121 [.val q1_0])),(2,some (q1_0,.map aZ A3 c1_0)),(3,some (p2_0,.box 215 [.val q2_0])),(4,some (q2_0,.list Ac 4 c2_0)),(5,some (p3_0,.box 33 [.rd AF c3_0])),(6,some (p4_0,.box 69 [.val (.func (.func 218) #[] #[A7 p1_0 0,A7 p2_0 0,A7 p3_0 0,A7 p4_0 0])]))] (rec a0 c1_0 c2_0 c3_0) (λr nv=>⟨[],[(1,some (p1_0,.box 121 [.val q1_0])),(2,some (q1_0,.map aZ A3 c1_0)),(3,some (p2_0,.box 215 [.val q2_0])),(4,some (q2_0,.list Ac 4 r)),(5,some (p3_0,.box 33 [.rd AF c3_0])),(6,some (p4_0,.box 69 [.val (.func (.func 218) #[] #[A7 p1_0 0,A7 p2_0 0,A7 p3_0 0,A7 p4_0 0])]))]⟩)) (a0:V3) (p1_0:Value) (q1_0:Value) (c1_0:List (V3 × Int)) (p2_0:Value) (q2_0:Value) (c2_0:List Bool) (p3_0:Value) (c3_0:Ao) (p4_0:Value):Ah Tryz.prog 218 [.rd aZ a0,.val (A7 p1_0 0),.val (A7 p2_0 0),.val (A7 p3_0 0),.val (A7 p4_0 0)] [(1,some (p1_0,.box 121 [.val q1_0])),(2,some (q1_0,.map aZ A3 c1_0)),(3,some (p2_0,.box 215 [.val q2_0])),(4,some (q2_0,.list Ac 4 c2_0)),(5,some (p3_0,.box 33 [.rd AF c3_0])),(6,some (p4_0,.box 69 [.val (.func (.func 218) #[] #[A7 p1_0 0,A7 p2_0 0,A7 p3_0 0,A7 p4_0 0])]))] (ME rec a0 c1_0 c2_0 c3_0) (λr nv=>⟨[],[(1,some (p1_0,.box 121 [.val q1_0])),(2,some (q1_0,.map aZ A3 c1_0)),(3,some (p2_0,.box 215 [.val q2_0])),(4,some (q2_0,.list Ac 4 r)),(5,some (p3_0,.box 33 [.rd AF c3_0])),(6,some (p4_0,.box 69 [.val (.func (.func 218) #[] #[A7 p1_0 0,A7 p2_0 0,A7 p3_0 0,A7 p4_0 0])]))]⟩):=by
 refine Am 34 func218 Z Z Z λH w=>?_;refine A2<|Eb Z (bx 7 Z) λv1=>Zn<|A2<|Zq (ldV 1 Z Z .here Y6 Z)<|Zq (ld 7 Z Z fH Aw Z)<|Zq (mlk Z (.own 2 Z Z) Z ky71 underlying121 ti3 (Zr.num Z) Z)<|Za Z<|AI 6 Z λy2=>Zn<|A6<|A2<|Zq (ldV 3 Z Z .here OO Z)<|Zm Z<|Al λx3 h4=>Zq (ixO 4 Z Z Z h4 tu215 ti4)<|Zq (ld 4 Z Z (Foc.el h4) ty4 Z)<|Zj Z (λh5=>?_) (λh5=>?_)
 ·refine A5<|An<|Ze [] [1,2,3,4,5,6] Z
 ·refine Zt<|A2<|Zq (ldV 3 Z Z .here OO Z)<|Zm Z<|Al λx6 h7=>Zq (ixO 4 Z Z Z h7 tu215 ti4)<|Es (sto 4 Z Z (Foc.el h7) Z ti4)<|Zn<|A2<|Zq (faB 5 Z Z underlying33 Z (by exact BP))<|Zq (ld 5 Z Z (fP (BQ _)) BR Z)<|Zm Z<|Al λx8 h9=>Zq (ixR Z Z h9 tu31 Ba Z)<|Zq (faR Z (Co _) underlying60 Z Z (by exact AU))<|Zq (ldR Z B0)<|Zq (Aq Z .rd Z tu28)<|Zm Z<|Zn<|AJ (λ(O:(List Bool) × Int) U ww=>Sta (ctx 34 H [(1,some (p1_0,.box 121 [.val q1_0])),(2,some (q1_0,.map aZ A3 c1_0)),(3,some (p2_0,.box 215 [.val q2_0])),(4,some (q2_0,.list Ac 4 c2_0)),(5,some (p3_0,.box 33 [.rd AF c3_0])),(6,some (p4_0,.box 69 [.val (.func (.func 218) #[] #[A7 p1_0 0,A7 p2_0 0,A7 p3_0 0,A7 p4_0 0])]))] w) [(4,.val (A7 p4_0 0)),(24,.rd (A8 aZ) x8.Preds),(25,.rd A3 (x8.Preds.length:Int)),(26,.rd A3 O.2)] [(6,some (p4_0,.box 69 [.val (.func (.func 218) #[] #[A7 p1_0 0,A7 p2_0 0,A7 p3_0 0,A7 p4_0 0])])),(2,some (q1_0,.map aZ A3 c1_0)),(1,some (p1_0,.box 121 [.val q1_0])),(4,some (q2_0,.list Ac 4 O.1)),(3,some (p2_0,.box 215 [.val q2_0])),(5,some (p3_0,.box 33 [.rd AF c3_0]))] U ww) (λU ww h=>Zu h [6,2,1,4,3,5]) (λO=>?_)
  refine A2<|Zq (I.lss Z Z)<|Zn<|A6<|gIf Z Z (λa1=>?_) (λa1=>?_)
  ·refine Zt<|A6<|AB<|A2<|Al λa6 a2=>Zq (ixR Z Z a2 tu28 Ak Z)<|Zq (ldR Z Aw)<|Eb Z (AN 8 Ak (.zr (R:=aZ) (x:=(Vector.replicate 32 0)) BU)) λa7=>Es (sto 8 Z Z fH Z Ak)<|Zn<|Ai<|Zq (ldV 6 Z Z .here sc69 Z)<|Zq (ld 8 Z Z fH Aw Z)<|EO [1,2,3,4,5,6] [(1,1),(2,2),(3,3),(4,4),(5,5),(6,6)] (gd0 Z) Z Z func218 Z Z (ih _ _ _ _ _ _ _ _ _ _) (Y1 Z) (cQ 1 Z<|cQ 3 Z<|cQ 5 Z<|cQ 6 Z<|cN) (Zi Z<|Zi Z<|Zi Z<|Zi Z<|Zi Z<|Zi Z<|rN) λa8 ab=>Ae<|Ap<|Af<|Ai<|Zq (I.add Z Z)<|Zm Z<|Ae<|Au (λU ww h=>Zu h [6,2,1,4,3,5])
  ·refine AC<|AD<|AG<|Ze [] [1,2,3,4,5,6] Z
theorem U0:∀ (N:Nat) (a0:V3) (p1_0:Value) (q1_0:Value) (c1_0:List (V3 × Int)) (p2_0:Value) (q2_0:Value) (c2_0:List Bool) (p3_0:Value) (c3_0:Ao) (p4_0:Value),Ah Tryz.prog 218 [.rd aZ a0,.val (A7 p1_0 0),.val (A7 p2_0 0),.val (A7 p3_0 0),.val (A7 p4_0 0)] [(1,some (p1_0,.box 121 [.val q1_0])),(2,some (q1_0,.map aZ A3 c1_0)),(3,some (p2_0,.box 215 [.val q2_0])),(4,some (q2_0,.list Ac 4 c2_0)),(5,some (p3_0,.box 33 [.rd AF c3_0])),(6,some (p4_0,.box 69 [.val (.func (.func 218) #[] #[A7 p1_0 0,A7 p2_0 0,A7 p3_0 0,A7 p4_0 0])]))] (Ff N a0 c1_0 c2_0 c3_0) (λr nv=>⟨[],[(1,some (p1_0,.box 121 [.val q1_0])),(2,some (q1_0,.map aZ A3 c1_0)),(3,some (p2_0,.box 215 [.val q2_0])),(4,some (q2_0,.list Ac 4 r)),(5,some (p3_0,.box 33 [.rd AF c3_0])),(6,some (p4_0,.box 69 [.val (.func (.func 218) #[] #[A7 p1_0 0,A7 p2_0 0,A7 p3_0 0,A7 p4_0 0])]))]⟩)
 | 0,a0,p1_0,q1_0,c1_0,p2_0,q2_0,c2_0,p3_0,c3_0,p4_0=>λr O=>absurd O (by simp[Ff])
 | N+1,a0,p1_0,q1_0,c1_0,p2_0,q2_0,c2_0,p3_0,c3_0,p4_0=>zl2 (Ff N) (U0 N) a0 p1_0 q1_0 c1_0 p2_0 q2_0 c2_0 p3_0 c3_0 p4_0
theorem zl0 (a0:V3) (p1_0:Value) (q1_0:Value) (c1_0:List (V3 × Int)) (p2_0:Value) (q2_0:Value) (c2_0:List Bool) (p3_0:Value) (c3_0:Ao) (p4_0:Value):Ah Tryz.prog 218 [.rd aZ a0,.val (A7 p1_0 0),.val (A7 p2_0 0),.val (A7 p3_0 0),.val (A7 p4_0 0)] [(1,some (p1_0,.box 121 [.val q1_0])),(2,some (q1_0,.map aZ A3 c1_0)),(3,some (p2_0,.box 215 [.val q2_0])),(4,some (q2_0,.list Ac 4 c2_0)),(5,some (p3_0,.box 33 [.rd AF c3_0])),(6,some (p4_0,.box 69 [.val (.func (.func 218) #[] #[A7 p1_0 0,A7 p2_0 0,A7 p3_0 0,A7 p4_0 0])]))] (Ff 1000 a0 c1_0 c2_0 c3_0) (λr nv=>⟨[],[(1,some (p1_0,.box 121 [.val q1_0])),(2,some (q1_0,.map aZ A3 c1_0)),(3,some (p2_0,.box 215 [.val q2_0])),(4,some (q2_0,.list Ac 4 r)),(5,some (p3_0,.box 33 [.rd AF c3_0])),(6,some (p4_0,.box 69 [.val (.func (.func 218) #[] #[A7 p1_0 0,A7 p2_0 0,A7 p3_0 0,A7 p4_0 0])]))]⟩):=U0 1000 a0 p1_0 q1_0 c1_0 p2_0 q2_0 c2_0 p3_0 c3_0 p4_0
def MF (a0:Ao) (U:List V3) (r2:(List (V3 × Int))) (O:(List Bool) × Int):Option (Sum ((List Bool)) ((List Bool) × Int)) :=
 if decide (O.2<(U.length:Int)) then
  idx U O.2>>=λa2 =>
  (Ff 1000) a2 r2 O.1 a0>>=λa6 =>
  some (.inr (a6,w64 (O.2+1)))
 else
  some (.inl O.1)
def MG (a0:Ao) (U:List V3):Option ((List Bool)) :=
 K5 a0>>=λr2 =>
 mkn 1 false (a0.IDs.length:Int)>>=λx5 =>
 (iter (MF a0 U r2) (x5,0))>>=λO =>
 some O
theorem zoj (a0:Ao) (a1:List V3):Ah Tryz.prog 185 [.rd AF a0,.rd (A8 aZ) a1] [] (MG a0 a1) (λr nv=>⟨[.val (nv 0)],[(100,some (nv 0,.list Ac 4 r))]⟩):=by
 refine Am 28 func185 Z Z Z λH w=>?_;refine A2<|Eb Z (bx 1 Z) λv1=>Zb Z<|A2<|Zq (ld 1 Z Z fH BX Z)<|Zc [] [(100,2)] func149 Z (TZ _) λr2 n3=>Eb Z (AN 3 SD (.val Z)) λv4=>Es (DI 3 Z Z (.here BG) Z Cx BG SD)<|Zn<|A2<|Zq (faB 1 Z Z underlying33 Z (by exact AU))<|Zq (ld 1 Z Z (fP (C7 _)) B0 Z)<|Zq (Aq Z .rd Z tu28)<|Al λx5 h6=>Ef Z (mks (R:=Ac) 4 Z Z h6 tu215 ti4 Zr.bool Z) λv7=>Eb Z (AN 5 SF (.val Z)) λv8=>Es (DI 5 Z Z (.here BG) Z Cx BG SF)<|Zn<|A2<|Eb Z (AN 6 ti69 (.val Z)) λv9=>Zn<|A2<|Zq (mkf mp0 (mp4 Z Z Z Z))<|Es (DI 6 Z Z (.here BG) Z Cx BG ti69)<|Zn<|AY (λ(a6:(List Bool)) O U=>Sta (ctx 28 H [] w) [(6,.val (A7 v8 0))] [(4,some (v7,.list Ac 4 a6)),(5,some (v8,.box 215 [.val v7]))] O U) ?_ (λa6=>?_)
 ·refine A2<|Zm Z<|Zq (Aq Z .rd Z tu28)<|Zm Z<|Zn<|AJ (λ(a2:(List Bool) × Int) O U=>Sta (ctx 28 H [] w) [(6,.val (A7 v8 0)),(7,.val (A7 v9 0)),(17,.rd (A8 aZ) a1),(18,.rd A3 (a1.length:Int)),(19,.rd A3 a2.2)] [(4,some (v7,.list Ac 4 a2.1)),(5,some (v8,.box 215 [.val v7])),(6,some (v9,.box 69 [.val (.func (.func 218) #[] #[A7 v4 0,A7 v8 0,A7 v1 0,A7 v9 0])])),(2,some ((n3 0),.map aZ A3 r2)),(3,some (v4,.box 121 [.val (n3 0)])),(1,some (v1,.box 33 [.rd AF a0]))] O U) (λO U h=>Zu h [4,5,6,2,3,1]) (λa2=>?_)
  refine A2<|Zq (I.lss Z Z)<|Zn<|A6<|gIf Z Z (λa7=>?_) (λa7=>?_)
  ·refine Zt<|A6<|AB<|A2<|Al λab a8=>Zq (ixR Z Z a8 tu28 Ak Z)<|Zq (ldR Z Aw)<|Eb Z (AN 7 Ak (.zr (R:=aZ) (x:=(Vector.replicate 32 0)) BU)) λac=>Es (sto 7 Z Z fH Z Ak)<|Zn<|Ai<|Zq (ldV 6 Z Z .here sc69 Z)<|Zq (ld 7 Z Z fH Aw Z)<|EO [3,2,5,4,1,6] [(1,3),(2,2),(3,5),(4,4),(5,1),(6,6)] (gd0 Z) Z Z func218 Z Z (zl0 _ _ _ _ _ _ _ _ _ _) (Y1 Z) (cQ 3 Z<|cQ 5 Z<|cQ 1 Z<|cQ 6 Z<|cN) (Zi Z<|Zi Z<|Zi Z<|Zi Z<|Zi Z<|Zi Z<|rN) λad ae=>Ae<|Ap<|Af<|Ai<|Zq (I.add Z Z)<|Zm Z<|Ae<|Au (λO U h=>Zu h [4,5,6,2,3,1])
  ·refine AC<|AD<|AG<|Av (λO U h=>Zu h [4,5])
 ·refine A2<|Zq (ldV 5 Z Z .here OO Z)<|Zb Z<|A5<|Ze [v7] [4] Z
def K6 (a0:Ao) (U:List Bool) (O:(List V3) × Int):Option (Sum ((List V3)) ((List V3) × Int)) :=
 if decide (O.2<(U.length:Int)) then
  idx U O.2>>=λx6 =>
  if x6 then
   idx a0.IDs O.2>>=λx9 =>
   app 32 O.1 [x9]>>=λa2 =>
   some (.inr (a2,w64 (O.2+1)))
  else
   some (.inr (O.1,w64 (O.2+1)))
 else
  some (.inl O.1)
def K7 (a0:Ao) (O:List Bool):Option ((List V3)) :=
 (iter (K6 a0 O) ([],0))>>=λU =>
 some U
theorem U1 (a0:Ao) (a1:List Bool):Ah Tryz.prog 150 [.rd AF a0,.rd (A8 Ac) a1] [] (K7 a0 a1) (λr O=>⟨[.val (O 0)],[(100,some (O 0,.list aZ 71 r))]⟩):=by
 refine Am 26 func150 Z Z Z λH w=>?_;refine A2<|Eb Z (bx 1 Z) λv1=>Zb Z<|A2<|Zb Z<|AY (λ(s2:(List V3)) U ww=>∃ O:Nat->Value,Sta (ctx 26 H [] w) [(5,.val (O 0))] [(3,some ((O 0),.list aZ 71 s2))] U ww) ?_ (λs2=>?_)
 ·refine A2<|Zm Z<|Zq (Aq Z .rd Z tu215)<|Zm Z<|Zn<|Dk aZ 71 6<|AJ (λ(s3:(List V3) × Int) U ww=>∃ O:Nat->Value,Sta (ctx 26 H [] w) [(1,.rd (A8 Ac) a1),(2,.val (A7 v1 0)),(5,.val (O 0)),(8,.rd A3 (a1.length:Int)),(9,.rd A3 s3.2)] [(1,some (v1,.box 33 [.rd AF a0])),(5,some ((O 0),.list aZ 71 s3.1))] U ww) (λU ww h=>⟨nvl [(.slice none 0 0)],Zu h [1,6]⟩) (λs3=>?_);refine gEx λn4=>A2<|Zq (I.lss Z Z)<|Zn<|A6<|gIf Z Z (λh5=>?_) (λh5=>?_)
  ·refine Zt<|A6<|AB<|A2<|Zm Z<|Zb Z<|A2<|Zm Z<|Zm Z<|Al λx6 h7=>Zq (ixR Z Z h7 tu215 ti4 Z)<|Zq (ldR Z ty4)<|Zj Z (λh8=>?_) (λh8=>?_)
   ·refine Ai<|Zm Z<|Zq (faB 1 Z Z underlying33 Z (by exact AU))<|Zq (ld 1 Z Z (fP (C7 _)) B0 Z)<|Zm Z<|Al λx9 a2=>Zq (ixR Z Z a2 tu28 Ak Z)<|Zq (ldR Z Aw)<|Ef Z (lit (R:=aZ) ([x9]:List V3) 7 (pP Z Z<|pN) Z tu28 Ak Z Z) λab=>BW 7 [22] Z (fS Z<|fN)<|Al λac a6=>Ef Z (apn 5 Z Z Z .rd a6 tu28 Ak Z Z Z) λa7=>Za Z<|Ae<|Ap<|Af<|Ai<|Zq (I.add Z Z)<|Zm Z<|Ae<|Au (λU ww h=>⟨nvl [a7],Zu h [1,5]⟩)
   ·refine AW<|Ap<|Af<|Ai<|Zq (I.add Z Z)<|Zm Z<|Ae<|Au (λU ww h=>⟨nvl [(n4 0)],Zu h [1,5]⟩)
  ·refine AC<|AD<|AG<|Av (λU ww h=>⟨nvl [(n4 0)],Zu h [5]⟩)
 ·refine gEx λa8=>A2<|Zm Z<|Zb Z<|A5<|Ze [(a8 0)] [3] Z
def K8 (a0:Ao) (a1:V3):Option ((List V3) × Int) :=
 MB a0 a1>>=λO =>
 if O.2 != 0 then
  some ([],O.2)
 else
  idx a0.Ops O.1>>=λx6 =>
  MG a0 x6.Preds>>=λr8 =>
  K7 a0 r8>>=λU =>
  some (U,0)
theorem zjq (a0:Ao) (O:V3):Ah Tryz.prog 146 [.rd AF a0,.rd aZ O] [AE] (K8 a0 O) (λr U=>⟨[.val (U 0),.rd A3 r.2],[(1001,some (.bool true,.glob 1 (Az 64 A9) C6)),(100,some (U 0,.list aZ 71 r.1))]⟩):=by
 refine Am 27 func146 Z Z Z λH w=>?_;refine A2<|Eb Z (bx 1 Z) λv1=>Eb Z (bx 2 Z) λv2=>Za Z<|Zb Z<|A2<|Zq (ld 1 Z Z fH BX Z)<|Zq (ld 2 Z Z fH Aw Z)<|Zc [1001] [] func184 Z (zpd _ _) λr3 n4=>Zm Z<|Zq (ext Z Z)<|Zq (ext Z Z)<|Za Z<|Zb Z<|A6<|A2<|Zm Z<|Zq (I.neq Z Z)<|Zj Z (λh5=>?_) (λh5=>?_)
 ·refine A2<|Zm Z<|Za Z<|Zb Z<|A5<|An<|Cl aZ 71 3<|Ze [(.slice none 0 0)] [1001,3] Z
 ·refine Zt<|A6<|Bq [28,31] mixed Z Z<|A4 0 Z Z (ld 1 Z Z fH BX Z)<|A4 1 Z Z (ld 1 Z Z fH BX Z)<|A4 2 Z Z (faB 1 Z Z underlying33 Z (by exact BP))<|A4 3 Z Z (ld 1 Z Z (fP (BQ _)) BR Z)<|A4 4 Z Z (mv Z)<|AZ λx6 h7=>A4 5 Z Z (ixR Z Z h7 tu31 Ba Z)<|A4 6 Z Z (faR Z (Co _) underlying60 Z Z (by exact AU))<|A4 7 Z Z (ldR Z B0)<|Be 8 [] [(100,28)] Z (by kernel_rfl) Z (gd0 Z) Z func185 Z Z (zoj _ _) (Y2 Z Z) rN Z (λ_ _=>C1) λr8 n9=>DJ 28 [25] Z (fS Z<|fN)<|Be 9 [] [(100,31)] Z (by kernel_rfl) Z (gd0 Z) Z func150 Z Z (U1 _ _) (Y2 Z Z) rN Z (λ_ _=>C1) λa6 a2=>Zf 10 Z Z C1 (asg Z)<|A4 11 Z Z (asg Z)<|AV (by kernel_rfl)<|Af<|A5<|Ze [(a2 0)] [1001,31] Z
def MH (a0:List UInt8):Option (Bool) :=
 some (a0 != a0)
theorem U2 (a0:List UInt8):Ah Tryz.prog 175 [.rd BI a0] [] (MH a0) (λr nv=>⟨[.rd Ac r],[]⟩):=by
 refine Am 6 func175 Z Z Z λH w=>?_;refine A2<|Zb Z<|A2<|Zm Z<|Zm Z<|Zq (neS Z Z)<|Zb Z<|A5<|Ze [] [] Z
def K9 (a0:List UInt8) (O:List UInt8):Option (Int) :=
 MH a0>>=λr1 =>
 MH O>>=λU =>
 if r1 then
  if U then
   some 0
  else
   some (-1)
 else
  if U then
   some 1
  else
   if Dp a0 O then
    some (-1)
   else
    if Dp O a0 then
     some 1
    else
     some 0
theorem U3 (a0:List UInt8) (a1:List UInt8):Ah Tryz.prog 130 [.rd BI a0,.rd BI a1] [] (K9 a0 a1) (λr nv=>⟨[.rd A3 r],[]⟩):=by
 refine Am 20 func130 Z Z Z λH w=>?_;refine A2<|Zb Z<|A2<|Zm Z<|Zc [] [] func175 Z (U2 _) λr1 n2=>Zb Z<|A2<|Zm Z<|Zc [] [] func175 Z (U2 _) λr3 n4=>Zb Z<|A6<|A2<|Zm Z<|Zj Z (λO=>?_) (λO=>?_)
 ·refine gKn 8 Z O<|gKn 5 Z O<|A6<|A2<|Zm Z<|Zj Z (λU=>?_) (λU=>?_)
  ·refine gKn 10 Z U<|gKn 6 Z U<|A2<|Zb Z<|A5<|An<|An<|Ze [] [] Z
  ·refine gKn 10 Z U<|gKn 6 Z U<|Zt<|A2<|Zb Z<|A5<|An<|Ze [] [] Z
 ·refine gKn 8 Z O<|gKn 5 Z O<|Zt<|A6<|A2<|Zm Z<|Zj Z (λh7=>?_) (λh7=>?_)
  ·refine gKn 10 Z h7<|gKn 6 Z h7<|A2<|Zb Z<|A5<|An<|Ze [] [] Z
  ·refine gKn 10 Z h7<|gKn 6 Z h7<|Zt<|A6<|A2<|Zm Z<|Zm Z<|Zq (ltS Z Z)<|Zj Z (λh8=>?_) (λh8=>?_)
   ·refine A2<|Zb Z<|A5<|An<|Ze [] [] Z
   ·refine Zt<|A6<|A2<|Zm Z<|Zm Z<|Zq (gtS Z Z)<|Zj Z (λh9=>?_) (λh9=>?_)
    ·refine A2<|Zb Z<|A5<|An<|Ze [] [] Z
    ·refine Zt<|A2<|Zb Z<|A5<|Ze [] [] Z
def Ho (a0:List Int) (O:Int):Option (Sum (Sum Int Unit) Int) :=
 if decide (O<(a0.length:Int)) then
  idx a0 O>>=λU =>
  if U != 0 then
   some (.inl (.inl U))
  else
   some (.inr (w64 (O+1)))
 else
  some (.inl (.inr ()))
def Ka (a0:List Int):Option (Int) :=
 Bc (iter (Ho a0) 0) λs1 =>
 some 0
theorem U4 (a0:List Int):Ah Tryz.prog 129 [.rd (A8 A3) a0] [] (Ka a0) (λr nv=>⟨[.rd A3 r],[]⟩):=by
 refine Am 18 func129 Z Z Z λH w=>?_;refine A2<|Zb Z<|A2<|Zb Z<|BM (λ(s1:Unit) O U=>Sta (ctx 18 H [] w) [(3,.rd A3 0)] [] O U) ?_ (λs1=>?_)
 ·refine A2<|Zm Z<|Zq (Aq Z .rd Z tu156)<|Zm Z<|Zn<|AJ (λ(s2:Int) O U=>Sta (ctx 18 H [] w) [(3,.rd A3 0),(6,.rd (A8 A3) a0),(7,.rd A3 (a0.length:Int)),(8,.rd A3 s2)] [] O U) (λO U h=>Zu h []) (λs2=>?_);refine A2<|Zq (I.lss Z Z)<|Zn<|A6<|gIf Z Z (λh3=>?_) (λh3=>?_)
  ·refine Zt<|A6<|AB<|A2<|Al λx4 h5=>Zq (ixR Z Z h5 tu156 ti3 Z)<|Zq (ldR Z ty3)<|Zb Z<|A2<|Zm Z<|Zm Z<|Zq (I.neq Z Z)<|Zj Z (λh6=>?_) (λh6=>?_)
   ·refine A2<|Zm Z<|Zb Z<|A5<|Bh<|An<|BE<|Bk<|Ze [] [] Z
   ·refine AW<|Ap<|Af<|Ai<|Zq (I.add Z Z)<|Zm Z<|Ae<|Au (λO U h=>Zu h [])
  ·refine AC<|AD<|AG<|BA (λO U h=>Zu h [])
 ·refine A2<|Zm Z<|Zb Z<|A5<|Ze [] [] Z
def MI (a0:AT) (O:AT):Option (Int) :=
 K9 a0.Key O.Key>>=λU =>
 Gt a0.ID.toList O.ID.toList>>=λr5 =>
 Ka [U,r5]>>=λr8 =>
 some r8
theorem zpc (a0:AT) (O:AT):Ah Tryz.prog 81 [.rd Bi a0,.rd Bi O] [] (MI a0 O) (λr nv=>⟨[.rd A3 r],[]⟩):=by
 refine Am 17 func81 Z Z Z λH w=>?_;refine A2<|Eb Z (bx 1 Z) λv1=>Eb Z (bx 2 Z) λv2=>Zb Z<|A6<|DO 1 2 Z Z<|DO 2 3 Z Z<|Bq [33] mixed Z Z<|A4 0 Z Z (faR Z (EH _) underlying73 Z Z (by exact ti9))<|A4 1 Z Z (ldR Z ty9)<|A4 2 Z Z (faR Z (EH _) underlying73 Z Z (by exact ti9))<|A4 3 Z Z (ldR Z ty9)<|A4 5 Z Z (faR Z (FL _) underlying73 Z Z (by exact Ak))<|A4 6 Z Z (CO Z tu71 ti5 Z Z Z)<|A4 7 Z Z (faR Z (FL _) underlying73 Z Z (by exact Ak))<|A4 8 Z Z (CO Z tu71 ti5 Z Z Z)<|Be 4 [] [] Z (by kernel_rfl) Z (gd0 Z) Z func130 Z Z (U3 _ _) (Y2 Z Z) rN Z (λ_ _=>Cb) λU n4=>Be 9 [] [] Z (by kernel_rfl) Z (gd0 Z) Z func82 Z Z (LE _ _) (Y2 Z Z) rN Z (λ_ _=>Cb) λr5 n6=>Zo 10 Z Z Z (lit (R:=A3) ([U,r5]:List Int) 33 (pP Z Z<|pP Z Z<|pN) Z tu156 ti3 Z Z) λv7=>DJ 33 [15] Z (fS Z<|fN)<|Be 11 [] [] Z (by kernel_rfl) Z (gd0 Z) Z func129 Z Z (U4 _) (Y1 Z) rN Z (λ_ _=>Cb) λr8 n9=>A4 12 Z Z (asg Z)<|AV (by kernel_rfl)<|Af<|A5<|Ze [] [] Z
def Kb (a1:Ab) (U:(List V3) × Int) (O:(List (AT × Bool)) × Int):Option (Sum ((List (AT × Bool))) ((List (AT × Bool)) × Int)) :=
 if decide (O.2<(U.1.length:Int)) then
  idx U.1 O.2>>=λa2 =>
  some (.inr (D4 O.1 (⟨a1.Act.Key,a2⟩:AT) true,w64 (O.2+1)))
 else
  some (.inl O.1)
def Kc (a0:Ao) (O:(List (AT × Bool)) × Int):Option (Sum ((List (AT × Bool))) ((List (AT × Bool)) × Int)) :=
 if decide (O.2<(a0.Ops.length:Int)) then
  (idx a0.Ops O.2>>=λU =>
  if U.Act.Kind != 3 then
   some O.1
  else
   idx a0.IDs O.2>>=λa1 =>
   K8 a0 a1>>=λa2 =>
   iter (Kb U a2) (O.1,0))>>=λa6 =>
  some (.inr (a6,w64 (O.2+1)))
 else
  some (.inl O.1)
def I9 (a0:Ao) (s7:(List (AT × Bool))) (O:(List AT) × Int):Option (Sum ((List AT)) ((List AT) × Int)) :=
 if decide (O.2<(a0.Ops.length:Int)) then
  idx a0.Ops O.2>>=λU =>
  idx a0.IDs O.2>>=λa1 =>
  (if U.Act.Kind==2 then
   some (!((Bv s7 (⟨U.Act.Key,a1⟩:AT)).getD false))
  else
   some false)>>=λa2 =>
  if a2 then
   app 48 O.1 [(⟨U.Act.Key,a1⟩:AT)]>>=λa6 =>
   some (.inr (a6,w64 (O.2+1)))
  else
   some (.inr (O.1,w64 (O.2+1)))
 else
  some (.inl O.1)
def MJ (a0:Ao):Option (Bb × Int) :=
 Dx a0>>=λO =>
 if O != 0 then
  some ((⟨[]⟩:Bb),O)
 else
  (iter (Kc a0) (([]:List (AT × Bool)),0))>>=λs7 =>
  (iter (I9 a0 s7) ([],0))>>=λU =>
  PG U>>=λa1 =>
  some ((⟨a1⟩:Bb),0)
theorem zxe (a0:Ao):Ah Tryz.prog 96 [.rd AF a0] [AE] (MJ a0) (λr nv=>⟨[.rd Bz r.1,.rd A3 r.2],[(1001,some (.bool true,.glob 1 (Az 64 A9) C6))]⟩):=by
 refine Am 97 func96 Z Z Z λH w=>?_;refine A2<|Eb Z (bx 1 Z) λv1=>Eb Z (AN 2 D7 (ZrE.nilS ZrE.nil)) λv2=>Zb Z<|A6<|A2<|Zq (ld 1 Z Z fH BX Z)<|Zc [1001] [] func25 Z (Hj _) λr3 n4=>Zb Z<|A2<|Zm Z<|Zq (I.neq Z Z)<|Zj Z (λh5=>?_) (λh5=>?_)
 ·refine A2<|Zq (bldE [(0,1)] underlying24 D7 (ZrE.nilS ZrE.nil) Z (D3.done Z))<|Zm Z<|Es (stoG 2 Z Z (AH.cast (AH.cons BG AH.nil) Z) Z (BO.cons Cx BO.nil) (AH.cast (AH.cons BG AH.nil) Z) D7)<|Zb Z<|A5<|An<|ePnl Bi [.rd (A8 Bi) []] 2 [] [] Z Z Z<|eJoi (R:=Bz) (⟨[]⟩:Bb) 2 Z (Sp.via (Sp.prod Sp.unit))<|BF [] [1001] Z (eC 2 Z Z ty24<|eE Z<|eN) (Y0 Z)
 ·refine Zt<|A2<|Ef Z (mkm Bi Ac 3 (Or.inl Z) underlying210) λv6=>Zb Z<|AY (λ(s7:(List (AT × Bool))) O U=>Sta (ctx 97 H [AE] w) [(1,.val (A7 v1 0)),(2,.val (A7 v2 0)),(5,.val v6)] [(1,some (v1,.box 33 [.rd AF a0])),(2,some (v2,.box 24 [.val (.slice none 0 0)])),(3,some (v6,.map Bi Ac s7)),AE] O U) ?_ (λs7=>?_)
  ·refine A2<|Zq (faB 1 Z Z underlying33 Z (by exact BP))<|Zq (ld 1 Z Z (fP (BQ _)) BR Z)<|Zq (Aq Z .rd Z tu31)<|Zm Z<|Zn<|AJ (λ(s8:(List (AT × Bool)) × Int) O U=>Sta (ctx 97 H [AE] w) [(1,.val (A7 v1 0)),(2,.val (A7 v2 0)),(5,.val v6),(24,.rd (A8 AA) a0.Ops),(25,.rd A3 (a0.Ops.length:Int)),(26,.rd A3 s8.2)] [(1,some (v1,.box 33 [.rd AF a0])),(2,some (v2,.box 24 [.val (.slice none 0 0)])),(3,some (v6,.map Bi Ac s8.1)),AE] O U) (λO U h=>Zu h [1,2,3,1001]) (λs8=>?_)
   refine A2<|Zq (I.lss Z Z)<|Zn<|A6<|gIf Z Z (λh9=>?_) (λh9=>?_)
   ·refine Zt<|AY (λ(ad:(List (AT × Bool))) O U=>Sta (ctx 97 H [AE] w) [(1,.val (A7 v1 0)),(2,.val (A7 v2 0)),(5,.val v6),(24,.rd (A8 AA) a0.Ops),(25,.rd A3 (a0.Ops.length:Int)),(26,.rd A3 s8.2)] [(1,some (v1,.box 33 [.rd AF a0])),(2,some (v2,.box 24 [.val (.slice none 0 0)])),(3,some (v6,.map Bi Ac ad)),AE] O U) ?_ (λad=>?_)
    ·refine AB<|A2<|Zm Z<|Al λae aq=>Zq (ixR Z Z aq tu31 Ba Z)<|Zq (ldR Z C4)<|Eb Z (AN 1100 Ba (ZrE.rd (R:=A9) (x:=0) (Zr.num Z) (ZrE.nilS (ZrE.rd (R:=Ar) (x:=0) (Zr.num Z) (ZrE.rd (R:=Bw) (x:=(⟨0,[],(⟨0,0,0,[]⟩:Ay)⟩:AX)) DB (ZrE.rd (R:=BJ) (x:=(⟨0,0⟩:AQ)) E9 ZrE.nil Z) Z) Z)) Z)) λaf=>Za Z<|Cy aZ [.rd A9 0,.rd (A8 aZ) [],.rd Ar 0,.rd Bw (⟨0,[],(⟨0,0,0,[]⟩:Ay)⟩:AX),.rd BJ (⟨0,0⟩:AQ)] 1100 [.rd A9 0] [.rd Ar 0,.rd Bw (⟨0,[],(⟨0,0,0,[]⟩:Ay)⟩:AX),.rd BJ (⟨0,0⟩:AQ)] Z Z Z<|Cm (R:=AA) (⟨0,[],0,(⟨0,[],(⟨0,0,0,[]⟩:Ay)⟩:AX),(⟨0,0⟩:AQ)⟩:Ab) 1100 Z (Sp.via (Sp.prod (Sp.prod (Sp.prod (Sp.prod (Sp.prod Sp.unit))))))<|Es (sto 1100 Z Z fH Z Ba)<|Zn<|A6<|A2<|Zq (faB 1100 Z Z underlying60 Z (by exact Cj))<|Zq (faB 1100 Z Z underlying56 Z (by exact ti5))<|Zq (ld 1100 Z Z ((fP (Ct _)).part (DS _)) ty5 Z)<|Zq (B.neq Z Z)<|Zj Z (λar=>?_) (λar=>?_)
     ·refine AC<|AD<|Lg<|Av (λO U h=>Zu h [1,2,3,1001])
     ·refine Zt<|A6<|Bq [1001,1119] mixed Z Z<|A4 0 Z Z (ld 1 Z Z fH BX Z)<|A4 1 Z Z (faB 1 Z Z underlying33 Z (by exact AU))<|A4 2 Z Z (ld 1 Z Z (fP (C7 _)) B0 Z)<|A4 3 Z Z (mv Z)<|AZ λb3 au=>A4 4 Z Z (ixR Z Z au tu28 Ak Z)<|A4 5 Z Z (ldR Z Aw)<|Be 6 [1001] [(100,1119)] Z (by kernel_rfl) Z (gd0 Z) Z func146 Z Z (zjq _ _) (Y2 Z Z) (Y0 Z) Z (λ_ _=>(XQ (flC C1 (flC Cb fl0)))) λah ai=>A4 7 Z Z (mv Z)<|A4 8 Z Z (ext Z Z)<|A4 9 Z Z (ext Z Z)<|Zf 10 Z Z C1 (asg Z)<|A4 11 Z Z (asg Z)<|AV (by kernel_rfl)<|Af<|A2<|Zm Z<|Zq (Aq Z (.own 1119 Z) Z tu28)<|Zm Z<|Zn<|AJ (λ(a7:(List (AT × Bool)) × Int) O U=>Sta (ctx 97 H [AE] w) [(1,.val (A7 v1 0)),(2,.val (A7 v2 0)),(5,.val v6),(7,.val (A7 af 0)),(24,.rd (A8 AA) a0.Ops),(25,.rd A3 (a0.Ops.length:Int)),(26,.rd A3 s8.2),(45,.val (ai 0)),(46,.rd A3 (ah.1.length:Int)),(47,.rd A3 a7.2)] [(1,some (v1,.box 33 [.rd AF a0])),(2,some (v2,.box 24 [.val (.slice none 0 0)])),(3,some (v6,.map Bi Ac a7.1)),(1100,some (af,.box 60 [.rd AA ae])),(1119,some ((ai 0),.list aZ 71 ah.1)),AE] O U) (λO U h=>Zu h [1,2,3,1100,1119,1001]) (λa7=>?_)
      refine A2<|Zq (I.lss Z Z)<|Zn<|A6<|gIf Z Z (λav=>?_) (λav=>?_)
      ·refine Zt<|A6<|AB<|A2<|Al λaw aj=>Zq (ixO 1119 Z Z Z aj tu28 Ak)<|Zq (ld 1119 Z Z (Foc.el aj) Aw Z)<|Eb Z (AN 1140 Ak (.zr (R:=aZ) (x:=(Vector.replicate 32 0)) BU)) λb4=>Es (sto 1140 Z Z fH Z Ak)<|Zn<|Ai<|Zm Z<|Zq (faB 1100 Z Z underlying60 Z (by exact Cj))<|Zq (faB 1100 Z Z underlying56 Z (by exact ti9))<|Zq (ld 1100 Z Z ((fP (Ct _)).part (DT _)) ty9 Z)<|Zq (ld 1140 Z Z fH Aw Z)<|Zq (bld (x':=(⟨ae.Act.Key,aw⟩:AT)) [(0,1),(1,32)] underlying73 Cq Z Gm Z (Bld.cons (EH _) Z Z<|Bld.cons (FL _) Z Z<|Bld.done Z))<|Es (mup 3 Z Z Z Z ky73 underlying210)<|Ae<|Ap<|Af<|Ai<|Zq (I.add Z Z)<|Zm Z<|Ae<|Au (λO U h=>Zu h [1,2,3,1100,1119,1001])
      ·refine AC<|AD<|AG<|Ap<|Av (λO U h=>Zu h [1,2,3,1001])
    ·refine Ai<|Zq (I.add Z Z)<|Zm Z<|Ae<|Au (λO U h=>Zu h [1,2,3,1001])
   ·refine AC<|AD<|AG<|Av (λO U h=>Zu h [1,2,3,1001])
  ·refine A2<|Eb Z (AN 1141 D7 (ZrE.nilS ZrE.nil)) λa1=>Zn<|AY (λ(ak:(List AT)) O U=>∃ nv:Nat->Value,Sta (ctx 97 H [AE] w) [(2,.val (A7 v2 0)),(12,.val (A7 a1 0))] [(2,some (v2,.box 24 [.val (.slice none 0 0)])),(1180,some ((nv 0),.list Bi 73 ak)),(1141,some (a1,.box 24 [.val (nv 0)])),AE] O U) ?_ (λak=>?_)
   ·refine A2<|Zq (faB 1 Z Z underlying33 Z (by exact BP))<|Zq (ld 1 Z Z (fP (BQ _)) BR Z)<|Zq (Aq Z .rd Z tu31)<|Zm Z<|Zn<|Dk Bi 73 1220<|AJ (λ(a2:(List AT) × Int) O U=>∃ nv:Nat->Value,Sta (ctx 97 H [AE] w) [(1,.val (A7 v1 0)),(2,.val (A7 v2 0)),(5,.val v6),(12,.val (A7 a1 0)),(60,.rd (A8 AA) a0.Ops),(61,.rd A3 (a0.Ops.length:Int)),(62,.rd A3 a2.2)] [(1,some (v1,.box 33 [.rd AF a0])),(2,some (v2,.box 24 [.val (.slice none 0 0)])),(3,some (v6,.map Bi Ac s7)),(1219,some ((nv 0),.list Bi 73 a2.1)),(1141,some (a1,.box 24 [.val (nv 0)])),AE] O U) (λO U h=>⟨nvl [(.slice none 0 0)],Zu h [1,2,3,1220,1141,1001]⟩) (λa2=>?_)
    refine gEx λa6=>A2<|Zq (I.lss Z Z)<|Zn<|A6<|gIf Z Z (λax=>?_) (λax=>?_)
    ·refine Zt<|A6<|AB<|A2<|Zm Z<|Al λa8 ay=>Zq (ixR Z Z ay tu31 Ba Z)<|Zq (ldR Z C4)<|Eb Z (AN 1221 Ba (ZrE.rd (R:=A9) (x:=0) (Zr.num Z) (ZrE.nilS (ZrE.rd (R:=Ar) (x:=0) (Zr.num Z) (ZrE.rd (R:=Bw) (x:=(⟨0,[],(⟨0,0,0,[]⟩:Ay)⟩:AX)) DB (ZrE.rd (R:=BJ) (x:=(⟨0,0⟩:AQ)) E9 ZrE.nil Z) Z) Z)) Z)) λb5=>Za Z<|Cy aZ [.rd A9 0,.rd (A8 aZ) [],.rd Ar 0,.rd Bw (⟨0,[],(⟨0,0,0,[]⟩:Ay)⟩:AX),.rd BJ (⟨0,0⟩:AQ)] 1221 [.rd A9 0] [.rd Ar 0,.rd Bw (⟨0,[],(⟨0,0,0,[]⟩:Ay)⟩:AX),.rd BJ (⟨0,0⟩:AQ)] Z Z Z<|Cm (R:=AA) (⟨0,[],0,(⟨0,[],(⟨0,0,0,[]⟩:Ay)⟩:AX),(⟨0,0⟩:AQ)⟩:Ab) 1221 Z (Sp.via (Sp.prod (Sp.prod (Sp.prod (Sp.prod (Sp.prod Sp.unit))))))<|Es (sto 1221 Z Z fH Z Ba)<|Zn<|A6<|Bq [1249] mixed Z Z<|A4 0 Z Z (faB 1221 Z Z underlying60 Z (by exact Cj))<|A4 1 Z Z (faB 1221 Z Z underlying56 Z (by exact ti9))<|A4 2 Z Z (ld 1221 Z Z ((fP (Ct _)).part (DT _)) ty9 Z)<|A4 3 Z Z (faB 1 Z Z underlying33 Z (by exact AU))<|A4 4 Z Z (ld 1 Z Z (fP (C7 _)) B0 Z)<|A4 5 Z Z (mv Z)<|AZ λab az=>A4 6 Z Z (ixR Z Z az tu28 Ak Z)<|A4 7 Z Z (ldR Z Aw)<|A4 8 Z Z (bld (x':=(⟨a8.Act.Key,ab⟩:AT)) [(0,1),(1,32)] underlying73 Cq Z Gm Z (Bld.cons (EH _) Z Z<|Bld.cons (FL _) Z Z<|Bld.done Z))<|hDoB 9 Z (by kernel_rfl) (gd0 Z) Z Z Z (AN 1249 Cq (.zr (R:=Bi) (x:=(⟨[],(Vector.replicate 32 0)⟩:AT)) Gm)) λam=>Zp 10 Z Z Z Z Z (sto 1249 Z Z fH Z Cq)<|AV (by kernel_rfl)<|Af<|AY (λ(ao:Bool) O U=>Sta (ctx 97 H [AE] w) [(1,.val (A7 v1 0)),(2,.val (A7 v2 0)),(5,.val v6),(12,.val (A7 a1 0)),(15,.val (A7 am 0)),(60,.rd (A8 AA) a0.Ops),(61,.rd A3 (a0.Ops.length:Int)),(62,.rd A3 a2.2),(85,.rd Ac ao)] [(1,some (v1,.box 33 [.rd AF a0])),(2,some (v2,.box 24 [.val (.slice none 0 0)])),(3,some (v6,.map Bi Ac s7)),(1219,some ((a6 0),.list Bi 73 a2.1)),(1141,some (a1,.box 24 [.val (a6 0)])),(1249,some (am,.box 73 [.rd Bi (⟨a8.Act.Key,ab⟩:AT)])),AE] O U) ?_ (λao=>?_)
     ·refine Ai<|Zq (faB 1221 Z Z underlying60 Z (by exact Cj))<|Zq (faB 1221 Z Z underlying56 Z (by exact ti5))<|Zq (ld 1221 Z Z ((fP (Ct _)).part (DS _)) ty5 Z)<|Zq (B.eql Z Z)<|Zm Z<|Bf 80 Z (λac=>?_) (λac=>?_)
      ·refine Aj 79 Z ac<|Aa Zx Z Z (mv Z)<|Aa Zx Z Z (ld 1249 Z Z fH EI Z)<|Aa Zx Z Z (mlk Z (.own 3 Z Z) Z ky73 underlying210 ti4 Zr.bool Z)<|Aa Zx Z Z (Cd Z)<|Zq (pkT Z Z)<|Ae<|Av (λO U h=>Zu h [1,2,3,1219,1141,1249,1001])
      ·refine Aj 79 Z ac<|Zk Z<|Zk Z<|Zk Z<|Zk Z<|Zq (pkF Z Z)<|Ae<|Av (λO U h=>Zu h [1,2,3,1219,1141,1249,1001])
     ·refine gIf Z Z (λb0=>?_) (λb0=>?_)
      ·refine Ai<|Zq (faB 1141 Z Z underlying24 Z (by exact Df))<|Zq (ldV 1141 Z Z (At.cast At.here Z) sc22 Z)<|Zq (ld 1249 Z Z fH EI Z)<|Ef Z (lit (R:=Bi) ([(⟨a8.Act.Key,ab⟩:AT)]:List AT) 1258 (pP Z Z<|pN) Z tu22 Cq Z Z) λb6=>BW 1258 [89] Z (fS Z<|fN)<|Al λb7 b1=>Ef Z (apn 1219 Z Z Z .rd b1 tu22 Cq Z Z Z) λb2=>Zq (faB 1141 Z Z underlying24 Z (by exact Df))<|Es (DI 1141 Z Z (By.cast (By.here BG) Z) Z Cx BG Df)<|Ae<|Ap<|Af<|Ai<|Zq (I.add Z Z)<|Zm Z<|Ae<|Au (λO U h=>⟨nvl [b2],Zu h [1,2,3,1219,1141,1001]⟩)
      ·refine AW<|Ap<|Af<|Ai<|Zq (I.add Z Z)<|Zm Z<|Ae<|Au (λO U h=>⟨nvl [(a6 0)],Zu h [1,2,3,1219,1141,1001]⟩)
    ·refine AC<|AD<|AG<|Av (λO U h=>⟨nvl [(a6 0)],Zu h [2,1219,1141,1001]⟩)
   ·refine gEx λb8=>A2<|Zq (faB 1141 Z Z underlying24 Z (by exact Df))<|Zq (ldV 1141 Z Z (At.cast At.here Z) sc22 Z)<|Zc [1180] [(1,1180)] func147 Z (z16k _ _) λap b9=>Zn<|A2<|lPow [.rd (A8 Bi) ap] 1141 1180 [] [] Z Z Z Z Z<|Cm (R:=Bz) (⟨ap⟩:Bb) 1141 Z (Sp.via (Sp.prod Sp.unit))<|Zq (ld 1141 Z Z fH ty24 Z)<|Cy Bi [.rd (A8 Bi) []] 2 [] [] Z Z Z<|Cm (R:=Bz) (⟨[]⟩:Bb) 2 Z (Sp.via (Sp.prod Sp.unit))<|Es (sto 2 Z Z fH Z D7)<|Zb Z<|A5<|BF [] [1001] Z (eC 2 Z Z ty24<|eE Z<|eN) (Y0 Z)
def PH (a0:AP):Option ((List UInt8)) :=
 some a0.Key
theorem z10w (a0:AP):Ah Tryz.prog 188 [.rd B7 a0] [] (PH a0) (λr nv=>⟨[.rd BI r],[]⟩):=by
 refine Am 5 func188 Z Z Z λH w=>?_;refine A2<|Eb Z (bx 1 Z) λv1=>Zb Z<|A2<|Zq (faB 1 Z Z underlying75 Z (by exact ti9))<|Zq (ld 1 Z Z (fP (E7 _)) ty9 Z)<|Zb Z<|A5<|Ze [] [] Z
def MK (a0:UInt64):Option (Bool) :=
 some (a0 != a0)
theorem U5 (a0:UInt64):Ah Tryz.prog 246 [.rd Ar a0] [] (MK a0) (λr nv=>⟨[.rd Ac r],[]⟩):=by
 refine Am 6 func246 Z Z Z λH w=>?_;refine A2<|Zb Z<|A2<|Zm Z<|Zm Z<|Zq (U.neq Z Z)<|Zb Z<|A5<|Ze [] [] Z
def ML (a0:UInt64) (O:UInt64):Option (Int) :=
 MK a0>>=λr1 =>
 MK O>>=λU =>
 if r1 then
  if U then
   some 0
  else
   some (-1)
 else
  if U then
   some 1
  else
   if decide (a0<O) then
    some (-1)
   else
    if decide (O<a0) then
     some 1
    else
     some 0
theorem zjy (a0:UInt64) (a1:UInt64):Ah Tryz.prog 231 [.rd Ar a0,.rd Ar a1] [] (ML a0 a1) (λr nv=>⟨[.rd A3 r],[]⟩):=by
 refine Am 20 func231 Z Z Z λH w=>?_;refine A2<|Zb Z<|A2<|Zm Z<|Zc [] [] func246 Z (U5 _) λr1 n2=>Zb Z<|A2<|Zm Z<|Zc [] [] func246 Z (U5 _) λr3 n4=>Zb Z<|A6<|A2<|Zm Z<|Zj Z (λO=>?_) (λO=>?_)
 ·refine gKn 8 Z O<|gKn 5 Z O<|A6<|A2<|Zm Z<|Zj Z (λh6=>?_) (λh6=>?_)
  ·refine gKn 10 Z h6<|gKn 6 Z h6<|A2<|Zb Z<|A5<|An<|An<|Ze [] [] Z
  ·refine gKn 10 Z h6<|gKn 6 Z h6<|Zt<|A2<|Zb Z<|A5<|An<|Ze [] [] Z
 ·refine gKn 8 Z O<|gKn 5 Z O<|Zt<|A6<|A2<|Zm Z<|Zj Z (λh7=>?_) (λh7=>?_)
  ·refine gKn 10 Z h7<|gKn 6 Z h7<|A2<|Zb Z<|A5<|An<|Ze [] [] Z
  ·refine gKn 10 Z h7<|gKn 6 Z h7<|Zt<|A6<|A2<|Zm Z<|Zm Z<|Zq (U.lss Z Z)<|Zj Z (λh8=>?_) (λh8=>?_)
   ·refine A2<|Zb Z<|A5<|An<|Ze [] [] Z
   ·refine Zt<|A6<|A2<|Zm Z<|Zm Z<|Zq (U.gtr Z Z)<|Zj Z (λh9=>?_) (λh9=>?_)
    ·refine A2<|Zb Z<|A5<|An<|Ze [] [] Z
    ·refine Zt<|A2<|Zb Z<|A5<|Ze [] [] Z
def MM (a0:AP) (O:AP):Option (Bool) :=
 ML a0.Stamp O.Stamp>>=λr3 =>
 Gt a0.ID.toList O.ID.toList>>=λr5 =>
 Ka [r3,r5]>>=λr8 =>
 some (decide (0<r8))>>=λU =>
 some U
theorem zv5 (a0:AP) (O:AP):Ah Tryz.prog 190 [.rd B7 a0,.rd B7 O] [] (MM a0 O) (λr nv=>⟨[.rd Ac r],[]⟩):=by
 refine Am 18 func190 Z Z Z λH w=>?_;refine A2<|Eb Z (bx 1 Z) λv1=>Eb Z (bx 2 Z) λv2=>Zb Z<|A6<|DO 1 2 Z Z<|DO 2 3 Z Z<|Bq [33] mixed Z Z<|A4 0 Z Z (faR Z (Fr _) underlying75 Z Z (by exact CV))<|A4 1 Z Z (ldR Z CR)<|A4 2 Z Z (faR Z (Fr _) underlying75 Z Z (by exact CV))<|A4 3 Z Z (ldR Z CR)<|A4 5 Z Z (faR Z (GZ _) underlying75 Z Z (by exact Ak))<|A4 6 Z Z (CO Z tu71 ti5 Z Z Z)<|A4 7 Z Z (faR Z (GZ _) underlying75 Z Z (by exact Ak))<|A4 8 Z Z (CO Z tu71 ti5 Z Z Z)<|Be 4 [] [] Z (by kernel_rfl) Z (gd0 Z) Z func231 Z Z (zjy _ _) (Y2 Z Z) rN Z (λ_ _=>Cb) λU n4=>Be 9 [] [] Z (by kernel_rfl) Z (gd0 Z) Z func82 Z Z (LE _ _) (Y2 Z Z) rN Z (λ_ _=>Cb) λr5 n6=>Zo 10 Z Z Z (lit (R:=A3) ([U,r5]:List Int) 33 (pP Z Z<|pP Z Z<|pN) Z tu156 ti3 Z Z) λv7=>DJ 33 [15] Z (fS Z<|fN)<|Be 11 [] [] Z (by kernel_rfl) Z (gd0 Z) Z func129 Z Z (U4 _) (Y1 Z) rN Z (λ_ _=>Cb) λr8 n9=>A4 12 Z Z (I.gtr Z Z)<|A4 13 Z Z (asg Z)<|HH 4 Z Z λa2=>AV (by kernel_rfl)<|Af<|A5<|Ze [] [] Z
def Hp (a0:AP) (O:List UInt8):Option (Int) :=
 PH a0>>=λU =>
 K9 U O>>=λr4 =>
 some r4
theorem U6 (a0:AP) (O:List UInt8) (p2_0:Value):Ah Tryz.prog 228 [.rd B7 a0,.rd BI O,.val (A7 p2_0 0)] [(1,some (p2_0,.box 248 [.val (.func (.func 188) #[] #[])]))] (Hp a0 O) (λr nv=>⟨[.rd A3 r],[(1,some (p2_0,.box 248 [.val (.func (.func 188) #[] #[])]))]⟩):=by
 refine Am 11 func228 Z Z Z λH w=>?_;refine A2<|Eb Z (bx 2 Z) λv1=>Zb Z<|A2<|Zq (ldV 1 Z Z .here Yf Z)<|Zq (ld 2 Z Z fH Ed Z)<|EO [] [] (gd0 Z) Z Z func188 Z Z (z10w _) (Y1 Z) (cN) rN λr2 n3=>Zm Z<|Zc [] [] func130 Z (U3 _ _) λr4 n5=>Zb Z<|A5<|Ze [] [1] Z
def Ia (a0:List AP) (a1:List UInt8) (O:Int × Int):Option (Sum Int (Int × Int)) :=
 if decide (O.1<O.2) then
  some (w64 ((Ce (UInt64.ofInt (w64 (O.1+O.2))) 1).toNat:Int))>>=λU =>
  idx a0 U>>=λx6 =>
  Hp x6 a1>>=λr8 =>
  if decide (r8<0) then
   some (.inr (w64 (U+1),O.2))
  else
   some (.inr (O.1,U))
 else
  some (.inl O.1)
def U7 (a0:List AP) (U:List UInt8):Option (Int × Bool) :=
 some (a0.length:Int)>>=λy1 =>
 (iter (Ia a0 U) (0,y1))>>=λO =>
 if decide (O<y1) then
  idx a0 O>>=λa2 =>
  Hp a2 U>>=λa6 =>
  some (O,a6==0)
 else
  some (O,false)
def PI (a0:List AP) (U:List UInt8):Option (Int × Bool) :=
 U7 a0 U>>=λO =>
 some (O.1,O.2)
def z4o (a0:List AP) (a1:List UInt8) (O:Int × Int):Option (Sum Int (Int × Int)) :=
 if decide (O.1<O.2) then
  some (w64 ((Ce (UInt64.ofInt (w64 (O.1+O.2))) 1).toNat:Int))>>=λU =>
  idx a0 U>>=λx6 =>
  Hp x6 a1>>=λr8 =>
  if decide (r8<0) then
   some (.inr (w64 (U+1),O.2))
  else
   some (.inr (O.1,U))
 else
  some (.inl O.1)
def U8 (a0:List AP) (U:List UInt8):Option (Int × Bool) :=
 some (a0.length:Int)>>=λy1 =>
 (iter (z4o a0 U) (0,y1))>>=λO =>
 if decide (O<y1) then
  idx a0 O>>=λa2 =>
  Hp a2 U>>=λa6 =>
  some (O,a6==0)
 else
  some (O,false)
theorem z4m (a0:List AP) (O:Value) (l0:List AP) (a1:List UInt8) (p2_0:Value):Ah Tryz.prog 227 [.vw B7 O l0 a0,.rd BI a1,.val (.func (.func 228) #[] #[A7 p2_0 0])] [(1,some (O,.list B7 75 l0)),(2,some (p2_0,.box 248 [.val (.func (.func 188) #[] #[])]))] (U8 a0 a1) (λr nv=>⟨[.rd A3 r.1,.rd Ac r.2],[(1,some (O,.list B7 75 l0)),(2,some (p2_0,.box 248 [.val (.func (.func 188) #[] #[])]))]⟩):=by
 refine Am 49 func227 Z Z Z λH w=>?_;refine A2<|Za Z<|Zb Z<|A2<|Zm Z<|Zq (Aq Z (.vw 1 Z) Z tu25)<|Za Z<|AI 8 Z λy1=>Zn<|A2<|Zm Z<|Za Z<|Zb Z<|AY (λ(s2:Int) aa ww=>Sta (ctx 49 H [(1,some (O,.list B7 75 l0)),(2,some (p2_0,.box 248 [.val (.func (.func 188) #[] #[])]))] w) [(0,.vw B7 O l0 a0),(1,.rd BI a1),(2,.val (.func (.func 228) #[] #[A7 p2_0 0])),(8,.rd A3 y1),(9,.rd A3 s2)] [(1,some (O,.list B7 75 l0)),(2,some (p2_0,.box 248 [.val (.func (.func 188) #[] #[])]))] aa ww) ?_ (λs2=>?_)
 ·refine AJ (λ(s3:Int × Int) aa ww=>Sta (ctx 49 H [(1,some (O,.list B7 75 l0)),(2,some (p2_0,.box 248 [.val (.func (.func 188) #[] #[])]))] w) [(0,.vw B7 O l0 a0),(1,.rd BI a1),(2,.val (.func (.func 228) #[] #[A7 p2_0 0])),(8,.rd A3 y1),(9,.rd A3 s3.1),(10,.rd A3 s3.2)] [(1,some (O,.list B7 75 l0)),(2,some (p2_0,.box 248 [.val (.func (.func 188) #[] #[])]))] aa ww) (λaa ww h=>Zu h [1,2]) (λs3=>?_)
  refine A6<|A2<|Zm Z<|Zm Z<|Zq (I.lss Z Z)<|Zj Z (λh4=>?_) (λh4=>?_)
  ·refine Zt<|AB<|A2<|Zm Z<|Zm Z<|Zq (I.add Z Z)<|Zq (I.toU Z tu3 underlying151)<|Zq (U.shr Z Z (Int.natCast_nonneg _))<|Zq (U.toI Z underlying151 tu3)<|Za Z<|AI 11 Z λy5=>Zn<|A2<|Zm Z<|Zm Z<|Zm Z<|Al λx6 h7=>Zq (ixQ 1 Z Z Z h7 tu25 Cf)<|Zq (ldQ 1 Z Z Ed Z)<|Zm Z<|EO [2] [(1,2)] (gd0 Z) Z Z func228 Z Z (U6 _ _ _) (Y2 Z Z) (cQ 2 Z<|cN) (Y0 Z) λr8 n9=>Zq (I.lss Z Z)<|Zj Z (λa6=>?_) (λa6=>?_)
   ·refine Ai<|Zm Z<|Zq (I.add Z Z)<|Za Z<|Ae<|Ap<|Au (λaa ww h=>Zu h [1,2])
   ·refine Ai<|Zm Z<|Za Z<|Ae<|Ap<|Au (λaa ww h=>Zu h [1,2])
  ·refine AC<|AD<|AG<|Av (λaa ww h=>Zu h [1,2])
 ·refine A2<|Zm Z<|Zm Z<|Zm Z<|Zq (I.lss Z Z)<|Zm Z<|Bf 39 Z (λa2=>?_) (λa2=>?_)
  ·refine Aj 38 Z a2<|Aa Zx Z Z (mv Z)<|Aa Zx Z Z (mv Z)<|Aa Zx Z Z (mv Z)<|Al λa8 a7=>Aa Zx Z Z (ixQ 1 Z Z Z a7 tu25 Cf)<|Aa Zx Z Z (ldQ 1 Z Z Ed Z)<|Aa Zx Z Z (mv Z)<|EO [2] [(1,2)] Zx Z Z func228 Z Z (U6 _ _ _) (Y2 Z Z) (cQ 2 Z<|cN) (Y0 Z) λab ac=>Aa Zx Z Z (I.eql Z Z)<|Zq (pkT Z Z)<|Za Z<|Zb Z<|A5<|Ze [] [1,2] Z
  ·refine Aj 38 Z a2<|Zk Z<|Zk Z<|Zk Z<|Zk Z<|Zk Z<|Zk Z<|Zk Z<|Zk Z<|Zq (pkF Z Z)<|Za Z<|Zb Z<|A5<|Ze [] [1,2] Z
def PJ (a0:List AP) (U:List UInt8):Option (Int × Bool) :=
 U8 a0 U>>=λO =>
 some (O.1,O.2)
theorem zeu (a0:List AP) (O:Value) (l0:List AP) (U:List UInt8):Ah Tryz.prog 187 [.vw B7 O l0 a0,.val (.func (.func 188) #[] #[]),.rd BI U] [(1,some (O,.list B7 75 l0))] (PJ a0 U) (λr nv=>⟨[.rd A3 r.1,.rd Ac r.2],[(1,some (O,.list B7 75 l0))]⟩):=by
 refine Am 14 func187 Z Z Z λH w=>?_;refine A2<|Eb Z (bx 2 Z) λv1=>Za Z<|Zb Z<|A2<|Zm Z<|Zm Z<|Zq (mkf mp0 (mp1 Z))<|Zc [1,2] [(1,1),(2,2)] func227 Z (z4m _ _ _ _ _) λr2 n3=>Zq (ext Z Z)<|Zq (ext Z Z)<|Za Z<|Zb Z<|A5<|Ze [] [1] Z
def MN (c0:List AP) (O:Ab) (a2:V3):Option ((List AP)) :=
 if O.Act.Kind != 4 then
  some c0
 else
  PJ c0 ((⟨O.Act.Key,O.Act.Value,O.Stamp,a2⟩:AP).Key)>>=λU =>
  if !U.2 then
   insR c0 U.1 [(⟨O.Act.Key,O.Act.Value,O.Stamp,a2⟩:AP)]>>=λr9 =>
   some r9
  else
   idx c0 U.1>>=λa6 =>
   MM (⟨O.Act.Key,O.Act.Value,O.Stamp,a2⟩:AP) a6>>=λa7 =>
   if a7 then
    idx c0 U.1>>=λa8 =>
    some (c0.set (U.1:Int).toNat (⟨O.Act.Key,O.Act.Value,O.Stamp,a2⟩:AP))
   else
    some c0
theorem zwa (U:Value) (c0:List AP) (O:Ab) (a2:V3):Ah Tryz.prog 148 [.val U,.rd AA O,.rd aZ a2] [(1,some (U,.list B7 75 c0))] (MN c0 O a2) (λr nv=>⟨[.val (nv 0)],[(100,some (nv 0,.list B7 75 r))]⟩):=by
 refine Am 50 func148 Z Z Z λH w=>?_;refine A2<|Eb Z (bx 2 Z) λv1=>Eb Z (bx 3 Z) λv2=>Zb Z<|A6<|A2<|Zq (faB 2 Z Z underlying60 Z (by exact Cj))<|Zq (faB 2 Z Z underlying56 Z (by exact ti5))<|Zq (ld 2 Z Z ((fP (Ct _)).part (DS _)) ty5 Z)<|Zq (B.neq Z Z)<|Zj Z (λh3=>?_) (λh3=>?_)
 ·refine A2<|Zm Z<|Zb Z<|A5<|An<|Ze [U] [1] Z
 ·refine Zt<|A2<|Zq (faB 2 Z Z underlying60 Z (by exact Cj))<|Zq (faB 2 Z Z underlying56 Z (by exact ti9))<|Zq (ld 2 Z Z ((fP (Ct _)).part (DT _)) ty9 Z)<|Zq (faB 2 Z Z underlying60 Z (by exact Cj))<|Zq (faB 2 Z Z underlying56 Z (by exact Cp))<|Zq (ld 2 Z Z ((fP (Ct _)).part (FM _)) Dv Z)<|Zq (faB 2 Z Z underlying60 Z (by exact CV))<|Zq (ld 2 Z Z (fP (Fc _)) CR Z)<|Zq (ld 3 Z Z fH Aw Z)<|Zq (bld (x':=(⟨O.Act.Key,O.Act.Value,O.Stamp,a2⟩:AP)) [(0,1),(1,4),(5,1),(6,32)] underlying75 Cf Z Gn Z (Bld.cons (E7 _) Z Z<|Bld.cons (GY _) Z Z<|Bld.cons (Fr _) Z Z<|Bld.cons (GZ _) Z Z<|Bld.done Z))<|Eb Z (AN 4 Cf (.zr (R:=B7) (x:=(⟨[],(⟨0,0,0,[]⟩:Ay),0,(Vector.replicate 32 0)⟩:AP)) Gn)) λv4=>Es (sto 4 Z Z fH Z Cf)<|Zn<|A2<|Zm Z<|Zq (faB 4 Z Z underlying75 Z (by exact ti9))<|Zq (ld 4 Z Z (fP (E7 _)) ty9 Z)<|call [1] [(1,1)] Z func187 Z Z (zeu _ _ _ _) (aW Z<|aQ Z<|aQ Z<|aN) (Y0 Z) λr5 n6=>Zm Z<|Zq (ext Z Z)<|Zq (ext Z Z)<|Za Z<|Zb Z<|A6<|A2<|Zm Z<|Zq (Cd Z)<|Zj Z (λh7=>?_) (λh7=>?_)
  ·refine A2<|Zm Z<|Zm Z<|Zq (ld 4 Z Z fH Ed Z)<|Ef Z (lit (R:=B7) ([(⟨O.Act.Key,O.Act.Value,O.Stamp,a2⟩:AP)]:List AP) 5 (pP Z Z<|pN) Z tu25 Cf Z Z) λv8=>Zc [1,5] [(100,6)] func189 Z (z1ac _ _ _ _ _) λr9 a8=>Zb Z<|A5<|An<|Ze [(a8 0)] [6] Z
  ·refine Zt<|A6<|A6<|Bq [] mixed Z Z<|A4 0 Z Z (ld 4 Z Z fH Ed Z)<|A4 1 Z Z (mv Z)<|A4 2 Z Z (mv Z)<|AZ λab a6=>A4 3 Z Z (ixO 1 Z Z Z a6 tu25 Cf)<|A4 4 Z Z (ld 1 Z Z (Foc.el a6) Ed Z)<|Be 5 [] [] Z (by kernel_rfl) Z (gd0 Z) Z func190 Z Z (zv5 _ _) (Y2 Z Z) rN Z (λ_ _=>DY) λac ad=>AV (by kernel_rfl)<|Af<|gIf Z Z (λaa=>?_) (λaa=>?_)
   ·refine Ai<|Zm Z<|Zm Z<|Zq (ld 4 Z Z fH Ed Z)<|Al λae a7=>Zq (ixO 1 Z Z Z a7 tu25 Cf)<|Es (sto 1 Z Z (Foc.el a7) Z Cf)<|Zn<|A2<|Zm Z<|Zb Z<|A5<|Ze [U] [1] Z
   ·refine Zt<|A2<|Zm Z<|Zb Z<|A5<|Ze [U] [1] Z
def Kd (a0:Ao) (O:(List AP) × Int):Option (Sum ((List AP)) ((List AP) × Int)) :=
 if decide (O.2<(a0.Ops.length:Int)) then
  idx a0.Ops O.2>>=λU =>
  idx a0.IDs O.2>>=λa1 =>
  MN O.1 U a1>>=λa2 =>
  some (.inr (a2,w64 (O.2+1)))
 else
  some (.inl O.1)
def MO (a0:Ao):Option (Bd × Int) :=
 Dx a0>>=λO =>
 if O != 0 then
  some ((⟨[]⟩:Bd),O)
 else
  (iter (Kd a0) ([],0))>>=λU =>
  some ((⟨U⟩:Bd),0)
theorem z13r (a0:Ao):Ah Tryz.prog 97 [.rd AF a0] [AE] (MO a0) (λr O=>⟨[.rd BB r.1,.rd A3 r.2],[(1001,some (.bool true,.glob 1 (Az 64 A9) C6))]⟩):=by
 refine Am 34 func97 Z Z Z λH w=>?_;refine A2<|Eb Z (bx 1 Z) λv1=>Eb Z (AN 2 D8 (ZrE.nilS ZrE.nil)) λv2=>Zb Z<|A6<|A2<|Zq (ld 1 Z Z fH BX Z)<|Zc [1001] [] func25 Z (Hj _) λr3 n4=>Zb Z<|A2<|Zm Z<|Zq (I.neq Z Z)<|Zj Z (λh5=>?_) (λh5=>?_)
 ·refine A2<|Zq (bldE [(0,1)] underlying27 D8 (ZrE.nilS ZrE.nil) Z (D3.done Z))<|Zm Z<|Es (stoG 2 Z Z (AH.cast (AH.cons BG AH.nil) Z) Z (BO.cons Cx BO.nil) (AH.cast (AH.cons BG AH.nil) Z) D8)<|Zb Z<|A5<|An<|ePnl B7 [.rd (A8 B7) []] 2 [] [] Z Z Z<|eJoi (R:=BB) (⟨[]⟩:Bd) 2 Z (Sp.via (Sp.prod Sp.unit))<|BF [] [1001] Z (eC 2 Z Z ty27<|eE Z<|eN) (Y0 Z)
 ·refine Zt<|A2<|Eb Z (AN 3 D8 (ZrE.nilS ZrE.nil)) λv6=>Zn<|AY (λ(s7:(List AP)) U ww=>∃ O:Nat->Value,Sta (ctx 34 H [AE] w) [(2,.val (A7 v2 0)),(5,.val (A7 v6 0))] [(2,some (v2,.box 27 [.val (.slice none 0 0)])),(30,some ((O 0),.list B7 75 s7)),(3,some (v6,.box 27 [.val (O 0)])),AE] U ww) ?_ (λs7=>?_)
  ·refine A2<|Zq (faB 1 Z Z underlying33 Z (by exact BP))<|Zq (ld 1 Z Z (fP (BQ _)) BR Z)<|Zq (Aq Z .rd Z tu31)<|Zm Z<|Zn<|Dk B7 75 1127<|AJ (λ(s8:(List AP) × Int) U ww=>∃ O:Nat->Value,Sta (ctx 34 H [AE] w) [(1,.val (A7 v1 0)),(2,.val (A7 v2 0)),(5,.val (A7 v6 0)),(15,.rd (A8 AA) a0.Ops),(16,.rd A3 (a0.Ops.length:Int)),(17,.rd A3 s8.2)] [(1,some (v1,.box 33 [.rd AF a0])),(2,some (v2,.box 27 [.val (.slice none 0 0)])),(1126,some ((O 0),.list B7 75 s8.1)),(3,some (v6,.box 27 [.val (O 0)])),AE] U ww) (λU ww h=>⟨nvl [(.slice none 0 0)],Zu h [1,2,1127,3,1001]⟩) (λs8=>?_)
   refine gEx λn9=>A2<|Zq (I.lss Z Z)<|Zn<|A6<|gIf Z Z (λa1=>?_) (λa1=>?_)
   ·refine Zt<|A6<|AB<|A2<|Zm Z<|Al λa8 a2=>Zq (ixR Z Z a2 tu31 Ba Z)<|Zq (ldR Z C4)<|Eb Z (AN 1128 Ba (ZrE.rd (R:=A9) (x:=0) (Zr.num Z) (ZrE.nilS (ZrE.rd (R:=Ar) (x:=0) (Zr.num Z) (ZrE.rd (R:=Bw) (x:=(⟨0,[],(⟨0,0,0,[]⟩:Ay)⟩:AX)) DB (ZrE.rd (R:=BJ) (x:=(⟨0,0⟩:AQ)) E9 ZrE.nil Z) Z) Z)) Z)) λab=>Za Z<|Cy aZ [.rd A9 0,.rd (A8 aZ) [],.rd Ar 0,.rd Bw (⟨0,[],(⟨0,0,0,[]⟩:Ay)⟩:AX),.rd BJ (⟨0,0⟩:AQ)] 1128 [.rd A9 0] [.rd Ar 0,.rd Bw (⟨0,[],(⟨0,0,0,[]⟩:Ay)⟩:AX),.rd BJ (⟨0,0⟩:AQ)] Z Z Z<|Cm (R:=AA) (⟨0,[],0,(⟨0,[],(⟨0,0,0,[]⟩:Ay)⟩:AX),(⟨0,0⟩:AQ)⟩:Ab) 1128 Z (Sp.via (Sp.prod (Sp.prod (Sp.prod (Sp.prod (Sp.prod Sp.unit))))))<|Es (sto 1128 Z Z fH Z Ba)<|Zn<|Bq [3,1126,1153] mixed Z Z<|A4 0 Z Z (faB 3 Z Z underlying27 Z (by exact Dm))<|A4 2 Z Z (ld 1128 Z Z fH C4 Z)<|A4 3 Z Z (faB 1 Z Z underlying33 Z (by exact AU))<|A4 4 Z Z (ld 1 Z Z (fP (C7 _)) B0 Z)<|A4 5 Z Z (mv Z)<|AZ λac a6=>A4 6 Z Z (ixR Z Z a6 tu28 Ak Z)<|A4 7 Z Z (ldR Z Aw)<|hRun 1 Z (by kernel_rfl) (gd0 Z) Z Z C1 (ldV 3 Z Z (At.cast At.here Z) sc25 Z)<|Be 8 [1126] [(100,1153)] Z (by kernel_rfl) Z (gd0 Z) Z func148 Z Z (zwa _ _ _ _) (aQ Z<|aQ Z<|aQ Z<|aN) (Y0 Z) Z (λ_ _=>C1) λad a7=>Zf 9 Z Z C1 (faB 3 Z Z underlying27 Z (by exact Dm))<|Zp 10 Z Z Z Z Z (DI 3 Z Z (By.cast (By.here BG) Z) Z Cx BG Dm)<|AV (by kernel_rfl)<|Ap<|Af<|Ai<|Zq (I.add Z Z)<|Zm Z<|Ae<|Au (λU ww h=>⟨nvl [(a7 0)],Zu h [1,2,1153,3,1001]⟩)
   ·refine AC<|AD<|AG<|Av (λU ww h=>⟨nvl [(n9 0)],Zu h [2,1126,3,1001]⟩)
  ·refine gEx λae=>A2<|lPow [.rd (A8 B7) s7] 3 30 [] [] Z Z Z Z Z<|Cm (R:=BB) (⟨s7⟩:Bd) 3 Z (Sp.via (Sp.prod Sp.unit))<|Zq (ld 3 Z Z fH ty27 Z)<|Cy B7 [.rd (A8 B7) []] 2 [] [] Z Z Z<|Cm (R:=BB) (⟨[]⟩:Bd) 2 Z (Sp.via (Sp.prod Sp.unit))<|Es (sto 2 Z Z fH Z D8)<|Zb Z<|A5<|BF [] [1001] Z (eC 2 Z Z ty27<|eE Z<|eN) (Y0 Z)
def Ke (U:List Bool) (O:(List Bool) × Int):Option (Sum ((List Bool)) ((List Bool) × Int)) :=
 if decide (O.2<(U.length:Int)) then
  idx O.1 O.2>>=λa1 =>
  some (.inr (O.1.set (O.2:Int).toNat true,w64 (O.2+1)))
 else
  some (.inl O.1)
def Kf (r5:(List (V3 × Int))) (U:Ab) (O:(List Bool) × Int):Option (Sum ((List Bool)) ((List Bool) × Int)) :=
 if decide (O.2<(U.Preds.length:Int)) then
  idx U.Preds O.2>>=λa1 =>
  idx O.1 ((Bv r5 a1).getD 0)>>=λa2 =>
  some (.inr (O.1.set ((Bv r5 a1).getD 0:Int).toNat false,w64 (O.2+1)))
 else
  some (.inl O.1)
def Kg (a0:Ao) (r5:(List (V3 × Int))) (O:(List Bool) × Int):Option (Sum ((List Bool)) ((List Bool) × Int)) :=
 if decide (O.2<(a0.Ops.length:Int)) then
  (idx a0.Ops O.2>>=λU =>
  iter (Kf r5 U) (O.1,0))>>=λa1 =>
  some (.inr (a1,w64 (O.2+1)))
 else
  some (.inl O.1)
def MP (a0:Ao):Option ((List V3) × Int) :=
 Dx a0>>=λO =>
 if O != 0 then
  some ([],O)
 else
  K5 a0>>=λr5 =>
  mkn 1 false (a0.IDs.length:Int)>>=λU =>
  (iter (Ke U) (U,0))>>=λa1 =>
  (iter (Kg a0 r5) (a1,0))>>=λa2 =>
  K7 a0 a2>>=λa6 =>
  some (a6,0)
end
section
theorem zoe (a0:Ao):Ah Tryz.prog 98 [.rd AF a0] [AE] (MP a0) (λr nv=>⟨[.val (nv 0),.rd A3 r.2],[(1001,some (.bool true,.glob 1 (Az 64 A9) C6)),(100,some (nv 0,.list aZ 71 r.1))]⟩):=by
 refine Am 56 func98 Z Z Z λH w=>?_;refine A2<|Eb Z (bx 1 Z) λv1=>Za Z<|Zb Z<|A6<|A2<|Zq (ld 1 Z Z fH BX Z)<|Zc [1001] [] func25 Z (Hj _) λr2 n3=>Zb Z<|A2<|Zm Z<|Zq (I.neq Z Z)<|Zj Z (λh4=>?_) (λh4=>?_)
 ·refine A2<|Zm Z<|Za Z<|Zb Z<|A5<|An<|Cl aZ 71 2<|Ze [(.slice none 0 0)] [1001,2] Z
 ·refine Zt<|A2<|Zq (ld 1 Z Z fH BX Z)<|Zc [] [(100,3)] func149 Z (TZ _) λr5 n6=>Zb Z<|A2<|Zq (faB 1 Z Z underlying33 Z (by exact AU))<|Zq (ld 1 Z Z (fP (C7 _)) B0 Z)<|Zq (Aq Z .rd Z tu28)<|Al λx7 h8=>Ef Z (mks (R:=Ac) 4 Z Z h8 tu215 ti4 Zr.bool Z) λv9=>Zb Z<|AY (λ(a7:(List Bool)) O U=>Sta (ctx 56 H [AE] w) [(1,.val (A7 v1 0)),(5,.val (n6 0)),(6,.val v9)] [(1,some (v1,.box 33 [.rd AF a0])),(3,some ((n6 0),.map aZ A3 r5)),(4,some (v9,.list Ac 4 a7)),AE] O U) ?_ (λa7=>?_)
  ·refine A2<|Zm Z<|Zq (Aq Z (.own 4 Z) Z tu215)<|Zm Z<|Zn<|AJ (λ(a2:(List Bool) × Int) O U=>Sta (ctx 56 H [AE] w) [(1,.val (A7 v1 0)),(5,.val (n6 0)),(6,.val v9),(24,.rd A3 (x7.length:Int)),(25,.rd A3 a2.2)] [(1,some (v1,.box 33 [.rd AF a0])),(3,some ((n6 0),.map aZ A3 r5)),(4,some (v9,.list Ac 4 a2.1)),AE] O U) (λO U h=>Zu h [1,3,4,1001]) (λa2=>?_);refine A2<|Zq (I.lss Z Z)<|Zn<|A6<|gIf Z Z (λaf=>?_) (λaf=>?_)
   ·refine Zt<|A6<|AB<|A2<|Zm Z<|Zb Z<|Ai<|Zm Z<|Zm Z<|Al λao a8=>Zq (ixO 4 Z Z Z a8 tu215 ti4)<|Es (sto 4 Z Z (Foc.el a8) Z ti4)<|Ae<|Ap<|Af<|Ai<|Zq (I.add Z Z)<|Zm Z<|Ae<|Au (λO U h=>Zu h [1,3,4,1001])
   ·refine AC<|AD<|AG<|Av (λO U h=>Zu h [1,3,4,1001])
  ·refine AY (λ(ab:(List Bool)) O U=>Sta (ctx 56 H [AE] w) [(1,.val (A7 v1 0)),(6,.val v9)] [(1,some (v1,.box 33 [.rd AF a0])),(4,some (v9,.list Ac 4 ab)),AE] O U) ?_ (λab=>?_)
   ·refine A2<|Zq (faB 1 Z Z underlying33 Z (by exact BP))<|Zq (ld 1 Z Z (fP (BQ _)) BR Z)<|Zq (Aq Z .rd Z tu31)<|Zm Z<|Zn<|AJ (λ(a1:(List Bool) × Int) O U=>Sta (ctx 56 H [AE] w) [(1,.val (A7 v1 0)),(5,.val (n6 0)),(6,.val v9),(33,.rd (A8 AA) a0.Ops),(34,.rd A3 (a0.Ops.length:Int)),(35,.rd A3 a1.2)] [(1,some (v1,.box 33 [.rd AF a0])),(3,some ((n6 0),.map aZ A3 r5)),(4,some (v9,.list Ac 4 a1.1)),AE] O U) (λO U h=>Zu h [1,3,4,1001]) (λa1=>?_)
    refine A2<|Zq (I.lss Z Z)<|Zn<|A6<|gIf Z Z (λah=>?_) (λah=>?_)
    ·refine Zt<|AY (λ(ac:(List Bool)) O U=>Sta (ctx 56 H [AE] w) [(1,.val (A7 v1 0)),(5,.val (n6 0)),(6,.val v9),(33,.rd (A8 AA) a0.Ops),(34,.rd A3 (a0.Ops.length:Int)),(35,.rd A3 a1.2)] [(1,some (v1,.box 33 [.rd AF a0])),(3,some ((n6 0),.map aZ A3 r5)),(4,some (v9,.list Ac 4 ac)),AE] O U) ?_ (λac=>?_)
     ·refine AB<|A2<|Al λad ai=>Zq (ixR Z Z ai tu31 Ba Z)<|Zq (ldR Z C4)<|Eb Z (AN 1100 Ba (ZrE.rd (R:=A9) (x:=0) (Zr.num Z) (ZrE.nilS (ZrE.rd (R:=Ar) (x:=0) (Zr.num Z) (ZrE.rd (R:=Bw) (x:=(⟨0,[],(⟨0,0,0,[]⟩:Ay)⟩:AX)) DB (ZrE.rd (R:=BJ) (x:=(⟨0,0⟩:AQ)) E9 ZrE.nil Z) Z) Z)) Z)) λap=>Cy aZ [.rd A9 0,.rd (A8 aZ) [],.rd Ar 0,.rd Bw (⟨0,[],(⟨0,0,0,[]⟩:Ay)⟩:AX),.rd BJ (⟨0,0⟩:AQ)] 1100 [.rd A9 0] [.rd Ar 0,.rd Bw (⟨0,[],(⟨0,0,0,[]⟩:Ay)⟩:AX),.rd BJ (⟨0,0⟩:AQ)] Z Z Z<|Cm (R:=AA) (⟨0,[],0,(⟨0,[],(⟨0,0,0,[]⟩:Ay)⟩:AX),(⟨0,0⟩:AQ)⟩:Ab) 1100 Z (Sp.via (Sp.prod (Sp.prod (Sp.prod (Sp.prod (Sp.prod Sp.unit))))))<|Es (sto 1100 Z Z fH Z Ba)<|Zn<|A2<|Zq (faB 1100 Z Z underlying60 Z (by exact AU))<|Zq (ld 1100 Z Z (fP (Co _)) B0 Z)<|Zq (Aq Z .rd Z tu28)<|Zm Z<|Zn<|AJ (λ(a6:(List Bool) × Int) O U=>Sta (ctx 56 H [AE] w) [(1,.val (A7 v1 0)),(5,.val (n6 0)),(6,.val v9),(33,.rd (A8 AA) a0.Ops),(34,.rd A3 (a0.Ops.length:Int)),(35,.rd A3 a1.2),(40,.rd (A8 aZ) ad.Preds),(41,.rd A3 (ad.Preds.length:Int)),(42,.rd A3 a6.2)] [(1,some (v1,.box 33 [.rd AF a0])),(3,some ((n6 0),.map aZ A3 r5)),(4,some (v9,.list Ac 4 a6.1)),AE] O U) (λO U h=>Zu h [1,3,4,1001]) (λa6=>?_)
      refine A2<|Zq (I.lss Z Z)<|Zn<|A6<|gIf Z Z (λaj=>?_) (λaj=>?_)
      ·refine Zt<|A6<|AB<|A2<|Al λaq ak=>Zq (ixR Z Z ak tu28 Ak Z)<|Zq (ldR Z Aw)<|Eb Z (AN 1101 Ak (.zr (R:=aZ) (x:=(Vector.replicate 32 0)) BU)) λar=>Es (sto 1101 Z Z fH Z Ak)<|Zn<|Ai<|Zm Z<|Zm Z<|Zq (ld 1101 Z Z fH Aw Z)<|Zq (mlk Z (.own 3 Z Z) Z ky71 underlying121 ti3 (Zr.num Z) Z)<|Al λau ae=>Zq (ixO 4 Z Z Z ae tu215 ti4)<|Es (sto 4 Z Z (Foc.el ae) Z ti4)<|Ae<|Ap<|Af<|Ai<|Zq (I.add Z Z)<|Zm Z<|Ae<|Au (λO U h=>Zu h [1,3,4,1001])
      ·refine AC<|AD<|AG<|Ap<|Av (λO U h=>Zu h [1,3,4,1001])
     ·refine Ai<|Zq (I.add Z Z)<|Zm Z<|Ae<|Au (λO U h=>Zu h [1,3,4,1001])
    ·refine AC<|AD<|AG<|Av (λO U h=>Zu h [1,4,1001])
   ·refine A2<|Zq (ld 1 Z Z fH BX Z)<|Zm Z<|BW 4 [6,54] Z (fS Z<|fS Z<|fN)<|Zc [] [(100,1102)] func150 Z (U1 _ _) λav am=>Za Z<|Zb Z<|A5<|Ze [(am 0)] [1001,1102] Z
def MQ (a0:Ao):Option (Bt × Int) :=
 MJ a0>>=λO =>
 if O.2 != 0 then
  some ((⟨0,(⟨[]⟩:Bb),(⟨[]⟩:Bd),[]⟩:Bt),O.2)
 else
  MO a0>>=λr8 =>
  MP a0>>=λU =>
  some ((⟨(a0.Ops.length:Int),O.1,r8.1,U.1⟩:Bt),0)
theorem z106 (a0:Ao):Ah Tryz.prog 56 [.rd AF a0] [AE] (MQ a0) (λr nv=>⟨[.rd Ch r.1,.rd A3 r.2],[(1001,some (.bool true,.glob 1 (Az 64 A9) C6))]⟩):=by
 refine Am 34 func56 Z Z Z λH w=>?_;refine A2<|Eb Z (bx 1 Z) λv1=>Eb Z (AN 2 CE (ZrE.rd (R:=A3) (x:=0) (Zr.num Z) (ZrE.rd (R:=Bz) (x:=(⟨[]⟩:Bb)) Et (ZrE.rd (R:=BB) (x:=(⟨[]⟩:Bd)) Eu (ZrE.nilS ZrE.nil) Z) Z) Z)) λv2=>Zb Z<|A2<|Zq (ld 1 Z Z fH BX Z)<|Zc [1001] [] func96 Z (zxe _) λU n4=>Zm Z<|Zq (ext Z Z)<|Zq (ext Z Z)<|Eb Z (AN 3 D7 (ZrE.nilS ZrE.nil)) λv5=>Cy Bi [.rd (A8 Bi) []] 3 [] [] Z Z Z<|Cm (R:=Bz) (⟨[]⟩:Bb) 3 Z (Sp.via (Sp.prod Sp.unit))<|Es (sto 3 Z Z fH Z D7)<|Zb Z<|A6<|A2<|Zm Z<|Zq (I.neq Z Z)<|Zj Z (λh6=>?_) (λh6=>?_)
 ·refine A2<|Zq (bldE [(0,1),(1,1),(2,1),(3,1)] underlying30 CE (ZrE.rd (R:=A3) (x:=0) (Zr.num Z) (ZrE.rd (R:=Bz) (x:=(⟨[]⟩:Bb)) Et (ZrE.rd (R:=BB) (x:=(⟨[]⟩:Bd)) Eu (ZrE.nilS ZrE.nil) Z) Z) Z) Z (D3.done Z))<|Zm Z<|Es (stoG 2 Z Z (AH.cast (AH.cons Bj (AH.cons Bj (AH.cons Bj (AH.cons BG AH.nil)))) Z) Z (BO.cons D0 (BO.cons D0 (BO.cons D0 (BO.cons Cx BO.nil)))) (AH.cast (AH.cons Bj (AH.cons Bj (AH.cons Bj (AH.cons BG AH.nil)))) Z) CE)<|Zb Z<|A5<|An<|ePnl aZ [.rd A3 0,.rd Bz (⟨[]⟩:Bb),.rd BB (⟨[]⟩:Bd),.rd (A8 aZ) []] 2 [.rd A3 0,.rd Bz (⟨[]⟩:Bb),.rd BB (⟨[]⟩:Bd)] [] Z Z Z<|eJoi (R:=Ch) (⟨0,(⟨[]⟩:Bb),(⟨[]⟩:Bd),[]⟩:Bt) 2 Z (Sp.via (Sp.prod (Sp.prod (Sp.prod (Sp.prod Sp.unit)))))<|BF [] [1001] Z (eC 2 Z Z DK<|eE Z<|eN) (Y0 Z)
 ·refine Zt<|A2<|Zq (faB 1 Z Z underlying33 Z (by exact BP))<|Zq (ld 1 Z Z (fP (BQ _)) BR Z)<|Zq (Aq Z .rd Z tu31)<|Zq (ld 3 Z Z fH ty24 Z)<|Zq (bldE [(0,1),(1,1),(2,1),(3,1)] underlying30 CE (ZrE.rd (R:=A3) (x:=0) (Zr.num Z) (ZrE.rd (R:=Bz) (x:=(⟨[]⟩:Bb)) Et (ZrE.rd (R:=BB) (x:=(⟨[]⟩:Bd)) Eu (ZrE.nilS ZrE.nil) Z) Z) Z) Z (D3.cons Z Z Bj (By.cast (By.here Bj) Z)<|D3.cons Z Z Bj (By.cast (By.next Bj (By.here Bj)) Z)<|D3.done Z))<|Eb Z (AN 4 CE (ZrE.rd (R:=A3) (x:=0) (Zr.num Z) (ZrE.rd (R:=Bz) (x:=(⟨[]⟩:Bb)) Et (ZrE.rd (R:=BB) (x:=(⟨[]⟩:Bd)) Eu (ZrE.nilS ZrE.nil) Z) Z) Z)) λv7=>Es (stoG 4 Z Z (AH.cast (AH.cons Bj (AH.cons Bj (AH.cons Bj (AH.cons BG AH.nil)))) Z) Z (BO.cons D0 (BO.cons D0 (BO.cons D0 (BO.cons Cx BO.nil)))) (AH.cast (AH.cons Bj (AH.cons Bj (AH.cons Bj (AH.cons BG AH.nil)))) Z) CE)<|Zn<|A2<|Zq (ld 1 Z Z fH BX Z)<|Zc [1001] [] func97 Z (z13r _) λr8 n9=>Zm Z<|Zq (ext Z Z)<|Zq (ext Z Z)<|Zq (faB 4 Z Z underlying30 Z (by exact D8))<|Es (sto 4 Z Z (Foc.cast (Foc.next Bj (Foc.next Bj fH)) Z) Z D8)<|Zn<|A2<|Zq (ld 1 Z Z fH BX Z)<|Zc [1001] [(100,5)] func98 Z (zoe _) λO a1=>Zm Z<|Zq (ext Z Z)<|Zq (ext Z Z)<|Zq (faB 4 Z Z underlying30 Z (by exact AU))<|Es (DI 4 Z Z (By.cast (By.next Bj (By.next Bj (By.next Bj (By.here BG)))) Z) Z Cx BG AU)<|Zn<|A2<|lPow [.rd A3 (a0.Ops.length:Int),.rd Bz U.1,.rd BB r8.1,.rd (A8 aZ) O.1] 4 5 [.rd A3 (a0.Ops.length:Int),.rd Bz U.1,.rd BB r8.1] [] Z Z Z Z Z<|Cm (R:=Ch) (⟨(a0.Ops.length:Int),U.1,r8.1,O.1⟩:Bt) 4 Z (Sp.via (Sp.prod (Sp.prod (Sp.prod (Sp.prod Sp.unit)))))<|Zq (ld 4 Z Z fH DK Z)<|Cy aZ [.rd A3 0,.rd Bz (⟨[]⟩:Bb),.rd BB (⟨[]⟩:Bd),.rd (A8 aZ) []] 2 [.rd A3 0,.rd Bz (⟨[]⟩:Bb),.rd BB (⟨[]⟩:Bd)] [] Z Z Z<|Cm (R:=Ch) (⟨0,(⟨[]⟩:Bb),(⟨[]⟩:Bd),[]⟩:Bt) 2 Z (Sp.via (Sp.prod (Sp.prod (Sp.prod (Sp.prod Sp.unit)))))<|Es (sto 2 Z Z fH Z CE)<|Zb Z<|A5<|BF [] [1001] Z (eC 2 Z Z DK<|eE Z<|eN) (Y0 Z)
def FW (a0:Bb) (O:Int):Option (Sum (Sum Int Unit) Int) :=
 if decide (O<(a0.List.length:Int)) then
  idx a0.List O>>=λU =>
  (Gu (⟨2,U.Key,(⟨0,0,0,[]⟩:Ay)⟩:AX)>>=λa1 =>
  if a1 != 0 then
   some true
  else
   if decide (0<O) then
    idx a0.List (w64 (O - 1))>>=λa2 =>
    MI a2 U>>=λa6 =>
    some (decide (0<=a6))
   else
    some false)>>=λs9 =>
  if s9 then
   some (.inl (.inl 8))
  else
   some (.inr (w64 (O+1)))
 else
  some (.inl (.inr ()))
def Hq (a0:Bb):Option (Int) :=
 if decide (60<(a0.List.length:Int)) then
  some 4
 else
  Bc (iter (FW a0) 0) λs3 =>
  some 0
theorem U9 (a0:Bb):Ah Tryz.prog 39 [.rd Bz a0] [] (Hq a0) (λr nv=>⟨[.rd A3 r],[]⟩):=by
 refine Am 38 func39 Z Z Z λH w=>?_;refine A2<|Eb Z (bx 1 Z) λv1=>Zb Z<|A6<|A2<|Zq (faB 1 Z Z underlying24 Z (by exact Df))<|Zq (ld 1 Z Z (fP (E6 _)) Ea Z)<|Zq (Aq Z .rd Z tu22)<|Zq (I.gtr Z Z)<|Zj Z (λh2=>?_) (λh2=>?_)
 ·refine A2<|Zb Z<|A5<|An<|Ze [] [] Z
 ·refine Zt<|BM (λ(s3:Unit) O U=>Sta (ctx 38 H [] w) [] [] O U) ?_ (λs3=>?_)
  ·refine A2<|Zq (faB 1 Z Z underlying24 Z (by exact Df))<|Zq (ld 1 Z Z (fP (E6 _)) Ea Z)<|Zq (Aq Z .rd Z tu22)<|Zm Z<|Zn<|AJ (λ(s4:Int) O U=>Sta (ctx 38 H [] w) [(1,.val (A7 v1 0)),(10,.rd (A8 Bi) a0.List),(11,.rd A3 (a0.List.length:Int)),(12,.rd A3 s4)] [(1,some (v1,.box 24 [.rd Bz a0]))] O U) (λO U h=>Zu h [1]) (λs4=>?_);refine A2<|Zq (I.lss Z Z)<|Zn<|A6<|gIf Z Z (λh5=>?_) (λh5=>?_)
   ·refine Zt<|A6<|AB<|A2<|Zm Z<|Al λx6 h7=>Zq (ixR Z Z h7 tu22 Cq Z)<|Zq (ldR Z EI)<|Eb Z (AN 2 Cq (.zr (R:=Bi) (x:=(⟨[],(Vector.replicate 32 0)⟩:AT)) Gm)) λv8=>Za Z<|Es (sto 2 Z Z fH Z Cq)<|Zn<|AY (λ(s9:Bool) O U=>Sta (ctx 38 H [] w) [(1,.val (A7 v1 0)),(10,.rd (A8 Bi) a0.List),(11,.rd A3 (a0.List.length:Int)),(12,.rd A3 s4),(36,.rd Ac s9)] [(1,some (v1,.box 24 [.rd Bz a0]))] O U) ?_ (λs9=>?_)
    ·refine Bq [] mixed Z Z<|A4 0 Z Z (faB 2 Z Z underlying73 Z (by exact ti9))<|A4 1 Z Z (ld 2 Z Z (fP (EH _)) ty9 Z)<|A4 2 Z Z (bld (x':=(⟨2,x6.Key,(⟨0,0,0,[]⟩:Ay)⟩:AX)) [(0,1),(1,1),(2,4)] underlying56 Cj Z DB Z (Bld.cons (DS _) Z Z<|Bld.cons (DT _) Z Z<|Bld.done Z))<|Be 3 [] [] Z (by kernel_rfl) Z (gd0 Z) Z func80 Z Z (P6 _) (Y1 Z) rN Z (λ_ _=>Cb) λa8 ab=>A4 4 Z Z (I.neq Z Z)<|A4 5 Z Z (mv Z)<|hIf 22 Z Z (λa1=>?_) (λa1=>?_)
     ·refine hKn 21 Z Z a1<|hSk 6 Z Z<|hSk 7 Z Z<|hSk 8 Z Z<|AM 9 Z (by kernel_rfl) (by kernel_rfl) (by kernel_rfl) (gdU Z Z Z) Z Z<|AM 10 Z (by kernel_rfl) (by kernel_rfl) (by kernel_rfl) (gdU Z Z Z) Z Z<|AM 11 Z (by kernel_rfl) (by kernel_rfl) (by kernel_rfl) (gdU Z Z Z) Z Z<|AM 12 Z (by kernel_rfl) (by kernel_rfl) (by kernel_rfl) (gdU Z Z Z) Z Z<|AM 13 Z (by kernel_rfl) (by kernel_rfl) (by kernel_rfl) (gdU Z Z Z) Z Z<|AM 14 Z (by kernel_rfl) (by kernel_rfl) (by kernel_rfl) (gdU Z Z Z) Z Z<|AM 15 Z (by kernel_rfl) (by kernel_rfl) (by kernel_rfl) (gdU Z Z Z) Z Z<|AM 16 Z (by kernel_rfl) (by kernel_rfl) (by kernel_rfl) (gdU Z Z Z) Z Z<|AM 17 Z (by kernel_rfl) (by kernel_rfl) (by kernel_rfl) (gdU Z Z Z) Z Z<|hSk 18 Z Z<|A4 19 Z Z (pkT Z Z)<|AV (by kernel_rfl)<|Av (λO U h=>Zu h [1])
     ·refine hKn 21 Z Z a1<|Zg 6 Z Z (mv Z)<|Zg 7 Z Z (I.gtr Z Z)<|Zg 8 Z Z (mv Z)<|hIf 25 Z Z (λa2=>?_) (λa2=>?_)
      ·refine hKn 24 Z Z a2<|Zg 9 Z Z (faB 1 Z Z underlying24 Z (by exact Df))<|Zg 10 Z Z (ld 1 Z Z (fP (E6 _)) Ea Z)<|Zg 11 Z Z (mv Z)<|Zg 12 Z Z (I.sub Z Z)<|AZ λac a6=>Zg 13 Z Z (ixR Z Z a6 tu22 Cq Z)<|Zg 14 Z Z (ldR Z EI)<|Zg 15 Z Z (ld 2 Z Z fH EI Z)<|Be 16 [] [] Z (by kernel_rfl) Z Zx Z func81 Z Z (zpc _ _) (Y2 Z Z) rN Z (λ_ _=>Cb) λad ae=>Zg 17 Z Z (I.geq Z Z)<|Zg 18 Z Z (pkT Z Z)<|A4 19 Z Z (pkF Z Z)<|AV (by kernel_rfl)<|Av (λO U h=>Zu h [1])
      ·refine hKn 24 Z Z a2<|hSk 9 Z Z<|hSk 10 Z Z<|hSk 11 Z Z<|hSk 12 Z Z<|hSk 13 Z Z<|hSk 14 Z Z<|hSk 15 Z Z<|hSk 16 Z Z<|hSk 17 Z Z<|Zg 18 Z Z (pkF Z Z)<|A4 19 Z Z (pkF Z Z)<|AV (by kernel_rfl)<|Av (λO U h=>Zu h [1])
    ·refine gIf Z Z (λa7=>?_) (λa7=>?_)
     ·refine A2<|Zb Z<|A5<|Bh<|An<|BE<|Bk<|Ze [] [] Z
     ·refine AW<|Ap<|Af<|Ai<|Zq (I.add Z Z)<|Zm Z<|Ae<|Au (λO U h=>Zu h [1])
   ·refine AC<|AD<|AG<|BA (λO U h=>Zu h [])
  ·refine A2<|Zb Z<|A5<|Ze [] [] Z
def FX (a0:Bd) (O:Int):Option (Sum (Sum Int Unit) Int) :=
 if decide (O<(a0.List.length:Int)) then
  idx a0.List O>>=λU =>
  (Gu (⟨2,U.Key,(⟨0,0,0,[]⟩:Ay)⟩:AX)>>=λa1 =>
  if a1 != 0 then
   some true
  else
   HT U.Value>>=λa2 =>
   if a2 != 0 then
    some true
   else
    if decide (1000000000000<U.Stamp) then
     some true
    else
     if decide (0<O) then
      idx a0.List (w64 (O - 1))>>=λa6 =>
      some (!Dp a6.Key U.Key)
     else
      some false)>>=λs9 =>
  if s9 then
   some (.inl (.inl 8))
  else
   some (.inr (w64 (O+1)))
 else
  some (.inl (.inr ()))
def Hr (a0:Bd):Option (Int) :=
 if decide (60<(a0.List.length:Int)) then
  some 4
 else
  Bc (iter (FX a0) 0) λs3 =>
  some 0
theorem Ua (a0:Bd):Ah Tryz.prog 40 [.rd BB a0] [] (Hr a0) (λr nv=>⟨[.rd A3 r],[]⟩):=by
 refine Am 50 func40 Z Z Z λH w=>?_;refine A2<|Eb Z (bx 1 Z) λv1=>Zb Z<|A6<|A2<|Zq (faB 1 Z Z underlying27 Z (by exact Dm))<|Zq (ld 1 Z Z (fP (E8 _)) Ec Z)<|Zq (Aq Z .rd Z tu25)<|Zq (I.gtr Z Z)<|Zj Z (λh2=>?_) (λh2=>?_)
 ·refine A2<|Zb Z<|A5<|An<|Ze [] [] Z
 ·refine Zt<|BM (λ(s3:Unit) O ww=>Sta (ctx 50 H [] w) [] [] O ww) ?_ (λs3=>?_)
  ·refine A2<|Zq (faB 1 Z Z underlying27 Z (by exact Dm))<|Zq (ld 1 Z Z (fP (E8 _)) Ec Z)<|Zq (Aq Z .rd Z tu25)<|Zm Z<|Zn<|AJ (λ(s4:Int) O ww=>Sta (ctx 50 H [] w) [(1,.val (A7 v1 0)),(10,.rd (A8 B7) a0.List),(11,.rd A3 (a0.List.length:Int)),(12,.rd A3 s4)] [(1,some (v1,.box 27 [.rd BB a0]))] O ww) (λO ww h=>Zu h [1]) (λs4=>?_);refine A2<|Zq (I.lss Z Z)<|Zn<|A6<|gIf Z Z (λh5=>?_) (λh5=>?_)
   ·refine Zt<|A6<|AB<|A2<|Zm Z<|Al λx6 h7=>Zq (ixR Z Z h7 tu25 Cf Z)<|Zq (ldR Z Ed)<|Eb Z (AN 2 Cf (.zr (R:=B7) (x:=(⟨[],(⟨0,0,0,[]⟩:Ay),0,(Vector.replicate 32 0)⟩:AP)) Gn)) λv8=>Za Z<|Es (sto 2 Z Z fH Z Cf)<|Zn<|AY (λ(s9:Bool) O ww=>Sta (ctx 50 H [] w) [(1,.val (A7 v1 0)),(10,.rd (A8 B7) a0.List),(11,.rd A3 (a0.List.length:Int)),(12,.rd A3 s4),(48,.rd Ac s9)] [(1,some (v1,.box 27 [.rd BB a0]))] O ww) ?_ (λs9=>?_)
    ·refine Bq [] mixed Z Z<|A4 0 Z Z (faB 2 Z Z underlying75 Z (by exact ti9))<|A4 1 Z Z (ld 2 Z Z (fP (E7 _)) ty9 Z)<|A4 2 Z Z (bld (x':=(⟨2,x6.Key,(⟨0,0,0,[]⟩:Ay)⟩:AX)) [(0,1),(1,1),(2,4)] underlying56 Cj Z DB Z (Bld.cons (DS _) Z Z<|Bld.cons (DT _) Z Z<|Bld.done Z))<|Be 3 [] [] Z (by kernel_rfl) Z (gd0 Z) Z func80 Z Z (P6 _) (Y1 Z) rN Z (λ_ _=>Cb) λac ad=>A4 4 Z Z (I.neq Z Z)<|A4 5 Z Z (mv Z)<|hIf 22 Z Z (λa6=>?_) (λa6=>?_)
     ·refine hKn 21 Z Z a6<|hSk 6 Z Z<|hSk 7 Z Z<|hSk 8 Z Z<|hSk 9 Z Z<|A4 10 Z Z (pkT Z Z)<|A4 11 Z Z (mv Z)<|hSk 12 Z Z<|hSk 13 Z Z<|hSk 14 Z Z<|A4 15 Z Z (pkT Z Z)<|A4 16 Z Z (mv Z)<|hSk 17 Z Z<|hSk 18 Z Z<|hSk 19 Z Z<|AM 20 Z (by kernel_rfl) (by kernel_rfl) (by kernel_rfl) (gdU Z Z Z) Z Z<|AM 21 Z (by kernel_rfl) (by kernel_rfl) (by kernel_rfl) (gdU Z Z Z) Z Z<|AM 22 Z (by kernel_rfl) (by kernel_rfl) (by kernel_rfl) (gdU Z Z Z) Z Z<|AM 23 Z (by kernel_rfl) (by kernel_rfl) (by kernel_rfl) (gdU Z Z Z) Z Z<|AM 24 Z (by kernel_rfl) (by kernel_rfl) (by kernel_rfl) (gdU Z Z Z) Z Z<|AM 25 Z (by kernel_rfl) (by kernel_rfl) (by kernel_rfl) (gdU Z Z Z) Z Z<|AM 26 Z (by kernel_rfl) (by kernel_rfl) (by kernel_rfl) (gdU Z Z Z) Z Z<|AM 27 Z (by kernel_rfl) (by kernel_rfl) (by kernel_rfl) (gdU Z Z Z) Z Z<|AM 28 Z (by kernel_rfl) (by kernel_rfl) (by kernel_rfl) (gdU Z Z Z) Z Z<|AM 29 Z (by kernel_rfl) (by kernel_rfl) (by kernel_rfl) (gdU Z Z Z) Z Z<|hSk 30 Z Z<|A4 31 Z Z (pkT Z Z)<|AV (by kernel_rfl)<|Av (λO ww h=>Zu h [1])
     ·refine hKn 21 Z Z a6<|Zg 6 Z Z (faB 2 Z Z underlying75 Z (by exact Cp))<|Zg 7 Z Z (ld 2 Z Z (fP (GY _)) Dv Z)<|Be 8 [] [] Z (by kernel_rfl) Z Zx Z func43 Z Z (P5 _) (Y1 Z) rN Z (λ_ _=>Cb) λae af=>Zg 9 Z Z (I.neq Z Z)<|A4 10 Z Z (pkF Z Z)<|A4 11 Z Z (mv Z)<|hIf 28 Z Z (λa1=>?_) (λa1=>?_)
      ·refine hKn 26 Z Z a1<|hKn 27 Z Z a1<|hSk 12 Z Z<|hSk 13 Z Z<|hSk 14 Z Z<|A4 15 Z Z (pkT Z Z)<|A4 16 Z Z (mv Z)<|hSk 17 Z Z<|hSk 18 Z Z<|hSk 19 Z Z<|AM 20 Z (by kernel_rfl) (by kernel_rfl) (by kernel_rfl) (gdU Z Z Z) Z Z<|AM 21 Z (by kernel_rfl) (by kernel_rfl) (by kernel_rfl) (gdU Z Z Z) Z Z<|AM 22 Z (by kernel_rfl) (by kernel_rfl) (by kernel_rfl) (gdU Z Z Z) Z Z<|AM 23 Z (by kernel_rfl) (by kernel_rfl) (by kernel_rfl) (gdU Z Z Z) Z Z<|AM 24 Z (by kernel_rfl) (by kernel_rfl) (by kernel_rfl) (gdU Z Z Z) Z Z<|AM 25 Z (by kernel_rfl) (by kernel_rfl) (by kernel_rfl) (gdU Z Z Z) Z Z<|AM 26 Z (by kernel_rfl) (by kernel_rfl) (by kernel_rfl) (gdU Z Z Z) Z Z<|AM 27 Z (by kernel_rfl) (by kernel_rfl) (by kernel_rfl) (gdU Z Z Z) Z Z<|AM 28 Z (by kernel_rfl) (by kernel_rfl) (by kernel_rfl) (gdU Z Z Z) Z Z<|AM 29 Z (by kernel_rfl) (by kernel_rfl) (by kernel_rfl) (gdU Z Z Z) Z Z<|hSk 30 Z Z<|A4 31 Z Z (pkT Z Z)<|AV (by kernel_rfl)<|Av (λO ww h=>Zu h [1])
      ·refine hKn 26 Z Z a1<|hKn 27 Z Z a1<|Zg 12 Z Z (faB 2 Z Z underlying75 Z (by exact CV))<|Zg 13 Z Z (ld 2 Z Z (fP (Fr _)) CR Z)<|Zg 14 Z Z (U.gtr Z Z)<|A4 15 Z Z (pkF Z Z)<|A4 16 Z Z (mv Z)<|hIf 33 Z Z (λa2=>?_) (λa2=>?_)
       ·refine hKn 31 Z Z a2<|hKn 32 Z Z a2<|hSk 17 Z Z<|hSk 18 Z Z<|hSk 19 Z Z<|AM 20 Z (by kernel_rfl) (by kernel_rfl) (by kernel_rfl) (gdU Z Z Z) Z Z<|AM 21 Z (by kernel_rfl) (by kernel_rfl) (by kernel_rfl) (gdU Z Z Z) Z Z<|AM 22 Z (by kernel_rfl) (by kernel_rfl) (by kernel_rfl) (gdU Z Z Z) Z Z<|AM 23 Z (by kernel_rfl) (by kernel_rfl) (by kernel_rfl) (gdU Z Z Z) Z Z<|AM 24 Z (by kernel_rfl) (by kernel_rfl) (by kernel_rfl) (gdU Z Z Z) Z Z<|AM 25 Z (by kernel_rfl) (by kernel_rfl) (by kernel_rfl) (gdU Z Z Z) Z Z<|AM 26 Z (by kernel_rfl) (by kernel_rfl) (by kernel_rfl) (gdU Z Z Z) Z Z<|AM 27 Z (by kernel_rfl) (by kernel_rfl) (by kernel_rfl) (gdU Z Z Z) Z Z<|AM 28 Z (by kernel_rfl) (by kernel_rfl) (by kernel_rfl) (gdU Z Z Z) Z Z<|AM 29 Z (by kernel_rfl) (by kernel_rfl) (by kernel_rfl) (gdU Z Z Z) Z Z<|hSk 30 Z Z<|A4 31 Z Z (pkT Z Z)<|AV (by kernel_rfl)<|Av (λO ww h=>Zu h [1])
       ·refine hKn 31 Z Z a2<|hKn 32 Z Z a2<|Zg 17 Z Z (mv Z)<|Zg 18 Z Z (I.gtr Z Z)<|Zg 19 Z Z (mv Z)<|hIf 36 Z Z (λa7=>?_) (λa7=>?_)
        ·refine hKn 35 Z Z a7<|Zg 20 Z Z (faB 1 Z Z underlying27 Z (by exact Dm))<|Zg 21 Z Z (ld 1 Z Z (fP (E8 _)) Ec Z)<|Zg 22 Z Z (mv Z)<|Zg 23 Z Z (I.sub Z Z)<|AZ λah a8=>Zg 24 Z Z (ixR Z Z a8 tu25 Cf Z)<|Zg 25 Z Z (faR Z (E7 _) underlying75 Z Z (by exact ti9))<|Zg 26 Z Z (ldR Z ty9)<|Zg 27 Z Z (faB 2 Z Z underlying75 Z (by exact ti9))<|Zg 28 Z Z (ld 2 Z Z (fP (E7 _)) ty9 Z)<|Zg 29 Z Z (geS Z Z)<|Zg 30 Z Z (pkT Z Z)<|A4 31 Z Z (pkF Z Z)<|AV (by kernel_rfl)<|Av (λO ww h=>Zu h [1])
        ·refine hKn 35 Z Z a7<|hSk 20 Z Z<|hSk 21 Z Z<|hSk 22 Z Z<|hSk 23 Z Z<|hSk 24 Z Z<|hSk 25 Z Z<|hSk 26 Z Z<|hSk 27 Z Z<|hSk 28 Z Z<|hSk 29 Z Z<|Zg 30 Z Z (pkF Z Z)<|A4 31 Z Z (pkF Z Z)<|AV (by kernel_rfl)<|Av (λO ww h=>Zu h [1])
    ·refine gIf Z Z (λab=>?_) (λab=>?_)
     ·refine A2<|Zb Z<|A5<|Bh<|An<|BE<|Bk<|Ze [] [] Z
     ·refine AW<|Ap<|Af<|Ai<|Zq (I.add Z Z)<|Zm Z<|Ae<|Au (λO ww h=>Zu h [1])
   ·refine AC<|AD<|AG<|BA (λO ww h=>Zu h [])
  ·refine A2<|Zb Z<|A5<|Ze [] [] Z
def MR (a0:V3) (O:V3):Option (Int) :=
 Gt a0.toList O.toList>>=λU =>
 some U
theorem zq9 (a0:V3) (O:V3):Ah Tryz.prog 41 [.rd aZ a0,.rd aZ O] [] (MR a0 O) (λr nv=>⟨[.rd A3 r],[]⟩):=by
 refine Am 8 func41 Z Z Z λH w=>?_;refine A2<|Eb Z (bx 1 Z) λv1=>Eb Z (bx 2 Z) λv2=>Zb Z<|A6<|DO 1 2 Z Z<|DO 2 3 Z Z<|Bq [] mixed Z Z<|A4 0 Z Z (CO Z tu71 ti5 Z Z Z)<|A4 1 Z Z (CO Z tu71 ti5 Z Z Z)<|Be 2 [] [] Z (by kernel_rfl) Z (gd0 Z) Z func82 Z Z (LE _ _) (Y2 Z Z) rN Z (λ_ _=>Cb) λr3 n4=>A4 3 Z Z (asg Z)<|AV (by kernel_rfl)<|Af<|A5<|Ze [] [] Z
def FY (a0:Bt) (y2:Int) (O:Int):Option (Sum (Sum Int Unit) Int) :=
 if decide (O<y2) then
  idx a0.Heads (w64 (O - 1))>>=λU =>
  idx a0.Heads O>>=λa1 =>
  MR U a1>>=λa2 =>
  if decide (0<=a2) then
   some (.inl (.inl 8))
  else
   some (w64 (O+1))>>=λa6 =>
   some (.inr a6)
 else
  some (.inl (.inr ()))
def Hs (a0:Bt):Option (Int) :=
 some (a0.Heads.length:Int)>>=λO =>
 Bc (if decide (a0.Version<0) then
  some (.inl 8)
 else
  if decide (60<a0.Version) then
   some (.inl 8)
  else
   if decide (a0.Version<O) then
    some (.inl 8)
   else
    if O==0 then
     if decide (0<a0.Version) then
      some (.inl 8)
     else
      Hq a0.Set>>=λr9 =>
      if r9 != 0 then
       some (.inl 8)
      else
       Hr a0.Regs>>=λU =>
       if U != 0 then
        some (.inl 8)
       else
        some (.inr ())
    else
     Hq a0.Set>>=λa1 =>
     if a1 != 0 then
      some (.inl 8)
     else
      Hr a0.Regs>>=λa2 =>
      if a2 != 0 then
       some (.inl 8)
      else
       some (.inr ())) λs3 =>
 Bc (iter (FY a0 O) 1) λa6 =>
 some 0
theorem zu6 (a0:Bt):Ah Tryz.prog 16 [.rd Ch a0] [] (Hs a0) (λr nv=>⟨[.rd A3 r],[]⟩):=by
 refine Am 61 func16 Z Z Z λH w=>?_;refine A2<|Eb Z (bx 1 Z) λv1=>Zb Z<|A2<|Zq (faB 1 Z Z underlying30 Z (by exact AU))<|Zq (ld 1 Z Z (fP (F9 _)) B0 Z)<|Zq (Aq Z .rd Z tu28)<|Za Z<|AI 3 Z λy2=>Zn<|BM (λ(s3:Unit) O U=>Sta (ctx 61 H [] w) [(1,.val (A7 v1 0)),(3,.rd A3 y2)] [(1,some (v1,.box 30 [.rd Ch a0]))] O U) ?_ (λs3=>?_)
 ·refine A2<|Zq (faB 1 Z Z underlying30 Z (by exact ti3))<|Zq (ld 1 Z Z (fP (F8 _)) ty3 Z)<|Zq (I.lss Z Z)<|Zm Z<|Bf 11 Z (λh4=>?_) (λh4=>?_)
  ·refine Aj 10 Z h4<|Zk Z<|Zk Z<|Zk Z<|Zq (pkT Z Z)<|Zm Z<|Zk Z<|Zk Z<|Zk Z<|Zk Z<|Zq (pkT Z Z)<|Zm Z<|Zk Z<|Zk Z<|Zk Z<|D6 (gdU Z Z Z) Z Z<|D6 (gdU Z Z Z) Z Z<|D6 (gdU Z Z Z) Z Z<|Zk Z<|Zq (pkT Z Z)<|Zm Z<|Zk Z<|Zk Z<|Zk Z<|Zk Z<|Zq (pkT Z Z)<|Zm Z<|Zk Z<|Zk Z<|Zk Z<|Zk Z<|Zq (pkT Z Z)<|Zn<|CL Z<|A2<|Zb Z<|A5<|Bk<|Ze [] [] Z
  ·refine Aj 10 Z h4<|Aa Zx Z Z (faB 1 Z Z underlying30 Z (by exact ti3))<|Aa Zx Z Z (ld 1 Z Z (fP (F8 _)) ty3 Z)<|Aa Zx Z Z (I.gtr Z Z)<|Zq (pkF Z Z)<|Zm Z<|Bf 16 Z (λh5=>?_) (λh5=>?_)
   ·refine Aj 14 Z h5<|Aj 15 Z h5<|Zk Z<|Zk Z<|Zk Z<|Zk Z<|Zq (pkT Z Z)<|Zm Z<|Zk Z<|Zk Z<|Zk Z<|D6 (gdU Z Z Z) Z Z<|D6 (gdU Z Z Z) Z Z<|D6 (gdU Z Z Z) Z Z<|Zk Z<|Zq (pkT Z Z)<|Zm Z<|Zk Z<|Zk Z<|Zk Z<|Zk Z<|Zq (pkT Z Z)<|Zm Z<|Zk Z<|Zk Z<|Zk Z<|Zk Z<|Zq (pkT Z Z)<|Zn<|CL Z<|A2<|Zb Z<|A5<|Bk<|Ze [] [] Z
   ·refine Aj 14 Z h5<|Aj 15 Z h5<|Aa Zx Z Z (mv Z)<|Aa Zx Z Z (faB 1 Z Z underlying30 Z (by exact ti3))<|Aa Zx Z Z (ld 1 Z Z (fP (F8 _)) ty3 Z)<|Aa Zx Z Z (I.gtr Z Z)<|Zq (pkF Z Z)<|Zm Z<|Bf 22 Z (λh6=>?_) (λh6=>?_)
    ·refine Aj 20 Z h6<|Aj 21 Z h6<|Zk Z<|Zk Z<|Zk Z<|D6 (gdU Z Z Z) Z Z<|D6 (gdU Z Z Z) Z Z<|D6 (gdU Z Z Z) Z Z<|Zk Z<|Zq (pkT Z Z)<|Zm Z<|Zk Z<|Zk Z<|Zk Z<|Zk Z<|Zq (pkT Z Z)<|Zm Z<|Zk Z<|Zk Z<|Zk Z<|Zk Z<|Zq (pkT Z Z)<|Zn<|CL Z<|A2<|Zb Z<|A5<|Bk<|Ze [] [] Z
    ·refine Aj 20 Z h6<|Aj 21 Z h6<|Aa Zx Z Z (mv Z)<|Aa Zx Z Z (I.eql Z Z)<|Aa Zx Z Z (mv Z)<|Bf 25 Z (λh7=>?_) (λh7=>?_)
     ·refine Aj 24 Z h7<|Aa Zx Z Z (faB 1 Z Z underlying30 Z (by exact ti3))<|Aa Zx Z Z (ld 1 Z Z (fP (F8 _)) ty3 Z)<|Aa Zx Z Z (I.gtr Z Z)<|Aa Zx Z Z (pkT Z Z)<|Zq (pkF Z Z)<|Zm Z<|Bf 31 Z (λh8=>?_) (λh8=>?_)
      ·refine Aj 28 Z h8<|Aj 29 Z h8<|Aj 30 Z h8<|Zk Z<|Zk Z<|Zk Z<|Zk Z<|Zq (pkT Z Z)<|Zm Z<|Zk Z<|Zk Z<|Zk Z<|Zk Z<|Zq (pkT Z Z)<|Zn<|CL Z<|A2<|Zb Z<|A5<|Bk<|Ze [] [] Z
      ·refine Aj 28 Z h8<|Aj 29 Z h8<|Aj 30 Z h8<|Aa Zx Z Z (faB 1 Z Z underlying30 Z (by exact D7))<|Aa Zx Z Z (ld 1 Z Z (fP (Fs _)) ty24 Z)<|CN [] [] Zx Z func39 Z Z (U9 _) (Y1 Z) rN λr9 ah=>Aa Zx Z Z (I.neq Z Z)<|Zq (pkF Z Z)<|Zm Z<|Bf 37 Z (λa1=>?_) (λa1=>?_)
       ·refine Aj 35 Z a1<|Aj 36 Z a1<|Zk Z<|Zk Z<|Zk Z<|Zk Z<|Zq (pkT Z Z)<|Zn<|CL Z<|A2<|Zb Z<|A5<|Bk<|Ze [] [] Z
       ·refine Aj 35 Z a1<|Aj 36 Z a1<|Aa Zx Z Z (faB 1 Z Z underlying30 Z (by exact D8))<|Aa Zx Z Z (ld 1 Z Z (fP (Ft _)) ty27 Z)<|CN [] [] Zx Z func40 Z Z (Ua _) (Y1 Z) rN λai aj=>Aa Zx Z Z (I.neq Z Z)<|Zq (pkF Z Z)<|Zj Z (λa6=>?_) (λa6=>?_)
        ·refine gKn 41 Z a6<|A2<|Zb Z<|A5<|Bk<|Ze [] [] Z
        ·refine gKn 41 Z a6<|AW<|BA (λO U h=>Zu h [1])
     ·refine Aj 24 Z h7<|Zk Z<|Zk Z<|Zk Z<|Aa Zx Z Z (pkF Z Z)<|Zq (pkF Z Z)<|Zm Z<|Aa Zx Z Z (faB 1 Z Z underlying30 Z (by exact D7))<|Aa Zx Z Z (ld 1 Z Z (fP (Fs _)) ty24 Z)<|CN [] [] Zx Z func39 Z Z (U9 _) (Y1 Z) rN λak am=>Aa Zx Z Z (I.neq Z Z)<|Zq (pkF Z Z)<|Zm Z<|Bf 37 Z (λa2=>?_) (λa2=>?_)
      ·refine Aj 35 Z a2<|Aj 36 Z a2<|Zk Z<|Zk Z<|Zk Z<|Zk Z<|Zq (pkT Z Z)<|Zn<|CL Z<|A2<|Zb Z<|A5<|Bk<|Ze [] [] Z
      ·refine Aj 35 Z a2<|Aj 36 Z a2<|Aa Zx Z Z (faB 1 Z Z underlying30 Z (by exact D8))<|Aa Zx Z Z (ld 1 Z Z (fP (Ft _)) ty27 Z)<|CN [] [] Zx Z func40 Z Z (Ua _) (Y1 Z) rN λao ap=>Aa Zx Z Z (I.neq Z Z)<|Zq (pkF Z Z)<|Zj Z (λa7=>?_) (λa7=>?_)
       ·refine gKn 41 Z a7<|A2<|Zb Z<|A5<|Bk<|Ze [] [] Z
       ·refine gKn 41 Z a7<|AW<|BA (λO U h=>Zu h [1])
 ·refine BM (λ(ab:Unit) O U=>Sta (ctx 61 H [] w) [] [] O U) ?_ (λab=>?_)
  ·refine A2<|Zb Z<|AJ (λ(a8:Int) O U=>Sta (ctx 61 H [] w) [(1,.val (A7 v1 0)),(3,.rd A3 y2),(4,.rd A3 a8)] [(1,some (v1,.box 30 [.rd Ch a0]))] O U) (λO U h=>Zu h [1]) (λa8=>?_);refine A6<|A2<|Zm Z<|Zm Z<|Zq (I.lss Z Z)<|Zj Z (λac=>?_) (λac=>?_)
   ·refine Zt<|A6<|AB<|A6<|Bq [] mixed Z Z<|A4 0 Z Z (faB 1 Z Z underlying30 Z (by exact AU))<|A4 1 Z Z (ld 1 Z Z (fP (F9 _)) B0 Z)<|A4 2 Z Z (mv Z)<|A4 3 Z Z (I.sub Z Z)<|AZ λaq ad=>A4 4 Z Z (ixR Z Z ad tu28 Ak Z)<|A4 5 Z Z (ldR Z Aw)<|A4 6 Z Z (faB 1 Z Z underlying30 Z (by exact AU))<|A4 7 Z Z (ld 1 Z Z (fP (F9 _)) B0 Z)<|A4 8 Z Z (mv Z)<|AZ λar ae=>A4 9 Z Z (ixR Z Z ae tu28 Ak Z)<|A4 10 Z Z (ldR Z Aw)<|Be 11 [] [] Z (by kernel_rfl) Z (gd0 Z) Z func41 Z Z (zq9 _ _) (Y2 Z Z) rN Z (λ_ _=>Cb) λau av=>A4 12 Z Z (I.geq Z Z)<|AV (by kernel_rfl)<|Af<|gIf Z Z (λaf=>?_) (λaf=>?_)
    ·refine A2<|Zb Z<|A5<|Bh<|An<|BE<|Bk<|Ze [] [] Z
    ·refine AW<|Ap<|Af<|Ai<|Zm Z<|Zq (I.add Z Z)<|Za Z<|AI 4 Z λaw=>Ae<|Au (λO U h=>Zu h [1])
   ·refine AC<|AD<|AG<|BA (λO U h=>Zu h [])
  ·refine A2<|Zb Z<|A5<|Ze [] [] Z
def MS (a0:Ao) (U:V3):Option (Ab) :=
 EK a0.IDs U>>=λO =>
 if decide (O<0) then
  some (⟨0,[],0,(⟨0,[],(⟨0,0,0,[]⟩:Ay)⟩:AX),(⟨0,0⟩:AQ)⟩:Ab)
 else
  if decide ((a0.Ops.length:Int)<=O) then
   some (⟨0,[],0,(⟨0,[],(⟨0,0,0,[]⟩:Ay)⟩:AX),(⟨0,0⟩:AQ)⟩:Ab)
  else
   idx a0.Ops O>>=λx8 =>
   some x8
theorem zp2 (a0:Ao) (a1:V3):Ah Tryz.prog 209 [.rd AF a0,.rd aZ a1] [] (MS a0 a1) (λr nv=>⟨[.rd AA r],[]⟩):=by
 refine Am 25 func209 Z Z Z λH w=>?_;refine A2<|Eb Z (bx 1 Z) λv1=>Eb Z (bx 2 Z) λv2=>Eb Z (AN 3 Ba (ZrE.rd (R:=A9) (x:=0) (Zr.num Z) (ZrE.nilS (ZrE.rd (R:=Ar) (x:=0) (Zr.num Z) (ZrE.rd (R:=Bw) (x:=(⟨0,[],(⟨0,0,0,[]⟩:Ay)⟩:AX)) DB (ZrE.rd (R:=BJ) (x:=(⟨0,0⟩:AQ)) E9 ZrE.nil Z) Z) Z)) Z)) λv3=>Zn<|A2<|Zq (faB 1 Z Z underlying33 Z (by exact AU))<|Zq (ld 1 Z Z (fP (C7 _)) B0 Z)<|Zq (ld 2 Z Z fH Aw Z)<|Zc [] [] func35 Z (Hk _ _) λr4 n5=>Zb Z<|A6<|A2<|Zm Z<|Zq (I.lss Z Z)<|Zm Z<|Bf 12 Z (λO=>?_) (λO=>?_)
 ·refine Aj 11 Z O<|Zk Z<|Zk Z<|Zk Z<|Zk Z<|Zk Z<|Zq (pkT Z Z)<|Zn<|CL Z<|A2<|Zq (bldE [(0,1),(1,1),(2,1),(3,6),(9,2)] underlying60 Ba (ZrE.rd (R:=A9) (x:=0) (Zr.num Z) (ZrE.nilS (ZrE.rd (R:=Ar) (x:=0) (Zr.num Z) (ZrE.rd (R:=Bw) (x:=(⟨0,[],(⟨0,0,0,[]⟩:Ay)⟩:AX)) DB (ZrE.rd (R:=BJ) (x:=(⟨0,0⟩:AQ)) E9 ZrE.nil Z) Z) Z)) Z) Z (D3.done Z))<|Es (stoG 3 Z Z (AH.cast (AH.cons Bj (AH.cons BG (AH.cons Bj (AH.cons Bj (AH.cons Bj AH.nil))))) Z) Z (BO.cons D0 (BO.cons Cx (BO.cons D0 (BO.cons D0 (BO.cons D0 BO.nil))))) (AH.cast (AH.cons Bj (AH.cons BG (AH.cons Bj (AH.cons Bj (AH.cons Bj AH.nil))))) Z) Ba)<|Zn<|A5<|An<|ePnl aZ [.rd A9 0,.rd (A8 aZ) [],.rd Ar 0,.rd Bw (⟨0,[],(⟨0,0,0,[]⟩:Ay)⟩:AX),.rd BJ (⟨0,0⟩:AQ)] 3 [.rd A9 0] [.rd Ar 0,.rd Bw (⟨0,[],(⟨0,0,0,[]⟩:Ay)⟩:AX),.rd BJ (⟨0,0⟩:AQ)] Z Z Z<|eJoi (R:=AA) (⟨0,[],0,(⟨0,[],(⟨0,0,0,[]⟩:Ay)⟩:AX),(⟨0,0⟩:AQ)⟩:Ab) 3 Z (Sp.via (Sp.prod (Sp.prod (Sp.prod (Sp.prod (Sp.prod Sp.unit))))))<|BF [] [] Z (eC 3 Z Z C4<|eN) (rN)
 ·refine Aj 11 Z O<|Aa Zx Z Z (mv Z)<|Aa Zx Z Z (faB 1 Z Z underlying33 Z (by exact BP))<|Aa Zx Z Z (ld 1 Z Z (fP (BQ _)) BR Z)<|Aa Zx Z Z (Aq Z .rd Z tu31)<|Aa Zx Z Z (I.geq Z Z)<|Zq (pkF Z Z)<|Zj Z (λU=>?_) (λU=>?_)
  ·refine gKn 17 Z U<|A2<|Zq (bldE [(0,1),(1,1),(2,1),(3,6),(9,2)] underlying60 Ba (ZrE.rd (R:=A9) (x:=0) (Zr.num Z) (ZrE.nilS (ZrE.rd (R:=Ar) (x:=0) (Zr.num Z) (ZrE.rd (R:=Bw) (x:=(⟨0,[],(⟨0,0,0,[]⟩:Ay)⟩:AX)) DB (ZrE.rd (R:=BJ) (x:=(⟨0,0⟩:AQ)) E9 ZrE.nil Z) Z) Z)) Z) Z (D3.done Z))<|Es (stoG 3 Z Z (AH.cast (AH.cons Bj (AH.cons BG (AH.cons Bj (AH.cons Bj (AH.cons Bj AH.nil))))) Z) Z (BO.cons D0 (BO.cons Cx (BO.cons D0 (BO.cons D0 (BO.cons D0 BO.nil))))) (AH.cast (AH.cons Bj (AH.cons BG (AH.cons Bj (AH.cons Bj (AH.cons Bj AH.nil))))) Z) Ba)<|Zn<|A5<|An<|ePnl aZ [.rd A9 0,.rd (A8 aZ) [],.rd Ar 0,.rd Bw (⟨0,[],(⟨0,0,0,[]⟩:Ay)⟩:AX),.rd BJ (⟨0,0⟩:AQ)] 3 [.rd A9 0] [.rd Ar 0,.rd Bw (⟨0,[],(⟨0,0,0,[]⟩:Ay)⟩:AX),.rd BJ (⟨0,0⟩:AQ)] Z Z Z<|eJoi (R:=AA) (⟨0,[],0,(⟨0,[],(⟨0,0,0,[]⟩:Ay)⟩:AX),(⟨0,0⟩:AQ)⟩:Ab) 3 Z (Sp.via (Sp.prod (Sp.prod (Sp.prod (Sp.prod (Sp.prod Sp.unit))))))<|BF [] [] Z (eC 3 Z Z C4<|eN) (rN)
  ·refine gKn 17 Z U<|Zt<|A2<|Zq (faB 1 Z Z underlying33 Z (by exact BP))<|Zq (ld 1 Z Z (fP (BQ _)) BR Z)<|Zm Z<|Al λx8 h9=>Zq (ixR Z Z h9 tu31 Ba Z)<|Zq (ldR Z C4)<|Cy aZ [.rd A9 0,.rd (A8 aZ) [],.rd Ar 0,.rd Bw (⟨0,[],(⟨0,0,0,[]⟩:Ay)⟩:AX),.rd BJ (⟨0,0⟩:AQ)] 3 [.rd A9 0] [.rd Ar 0,.rd Bw (⟨0,[],(⟨0,0,0,[]⟩:Ay)⟩:AX),.rd BJ (⟨0,0⟩:AQ)] Z Z Z<|Cm (R:=AA) (⟨0,[],0,(⟨0,[],(⟨0,0,0,[]⟩:Ay)⟩:AX),(⟨0,0⟩:AQ)⟩:Ab) 3 Z (Sp.via (Sp.prod (Sp.prod (Sp.prod (Sp.prod (Sp.prod Sp.unit))))))<|Es (sto 3 Z Z fH Z Ba)<|Zn<|A5<|BF [] [] Z (eC 3 Z Z C4<|eN) (rN)
def Kh (a0:List V3) (U:V3) (O:Int):Option (Sum (Sum Bool Unit) Int) :=
 if decide (O<(a0.length:Int)) then
  idx a0 O>>=λx5 =>
  if decide (x5=U) then
   some (.inl (.inl true))
  else
   some (.inr (w64 (O+1)))
 else
  some (.inl (.inr ()))
def Ht (a0:List V3) (O:V3):Option (Bool) :=
 Bc (iter (Kh a0 O) 0) λs2 =>
 some false
theorem Ub (a0:List V3) (a1:V3):Ah Tryz.prog 165 [.rd (A8 aZ) a0,.rd aZ a1] [] (Ht a0 a1) (λr nv=>⟨[.rd Ac r],[]⟩):=by
 refine Am 18 func165 Z Z Z λH w=>?_;refine A2<|Eb Z (bx 1 Z) λv1=>Zb Z<|BM (λ(s2:Unit) O U=>Sta (ctx 18 H [] w) [] [] O U) ?_ (λs2=>?_)
 ·refine A2<|Zb Z<|AJ (λ(s3:Int) O U=>Sta (ctx 18 H [] w) [(0,.rd (A8 aZ) a0),(3,.val (A7 v1 0)),(5,.rd A3 s3)] [(1,some (v1,.box 71 [.rd aZ a1]))] O U) (λO U h=>Zu h [1]) (λs3=>?_);refine A6<|A2<|Zm Z<|Zm Z<|Zq (Aq Z .rd Z tu28)<|Zq (I.lss Z Z)<|Zj Z (λh4=>?_) (λh4=>?_)
  ·refine Zt<|A6<|AB<|A6<|Dh mixed (by kernel_rfl)<|Rq Z (mv Z)<|Rq Z (mv Z)<|C3 λx5 h6=>Rq Z (ixR Z Z h6 tu28 Ak Z)<|Rq Z (ldR Z Aw)<|Rq Z (ld 1 Z Z fH Aw Z)<|Rq Z (eqA Z Z eq71 Z Z gq71)<|Dd<|Af<|gIf Z Z (λh7=>?_) (λh7=>?_)
   ·refine A2<|Zb Z<|A5<|Bh<|An<|BE<|Bk<|Ze [] [] Z
   ·refine AW<|Ap<|Af<|Ai<|Zm Z<|Zq (I.add Z Z)<|Za Z<|Ae<|Au (λO U h=>Zu h [1])
  ·refine AC<|AD<|AG<|BA (λO U h=>Zu h [])
 ·refine A2<|Zb Z<|A5<|Ze [] [] Z
theorem zl6 (a0:List V3) (O:Value) (l0:List V3) (a1:V3):Ah Tryz.prog 165 [.vw aZ O l0 a0,.rd aZ a1] [(1,some (O,.list aZ 71 l0))] (Ht a0 a1) (λr nv=>⟨[.rd Ac r],[(1,some (O,.list aZ 71 l0))]⟩):=by
 refine Am 18 func165 Z Z Z λH w=>?_;refine A2<|Eb Z (bx 2 Z) λv1=>Zb Z<|BM (λ(s2:Unit) U ww=>Sta (ctx 18 H [(1,some (O,.list aZ 71 l0))] w) [] [(1,some (O,.list aZ 71 l0))] U ww) ?_ (λs2=>?_)
 ·refine A2<|Zb Z<|AJ (λ(s3:Int) U ww=>Sta (ctx 18 H [(1,some (O,.list aZ 71 l0))] w) [(0,.vw aZ O l0 a0),(3,.val (A7 v1 0)),(5,.rd A3 s3)] [(1,some (O,.list aZ 71 l0)),(2,some (v1,.box 71 [.rd aZ a1]))] U ww) (λU ww h=>Zu h [1,2]) (λs3=>?_);refine A6<|A2<|Zm Z<|Zm Z<|Zq (Aq Z (.vw 1 Z) Z tu28)<|Zq (I.lss Z Z)<|Zj Z (λh4=>?_) (λh4=>?_)
  ·refine Zt<|A6<|AB<|A6<|Dh mixed (by kernel_rfl)<|Rq Z (mv Z)<|Rq Z (mv Z)<|C3 λx5 h6=>Rq Z (ixQ 1 Z Z Z h6 tu28 Ak)<|Rq Z (ldQ 1 Z Z Aw Z)<|Rq Z (ld 2 Z Z fH Aw Z)<|Rq Z (eqA Z Z eq71 Z Z gq71)<|Dd<|Af<|gIf Z Z (λh7=>?_) (λh7=>?_)
   ·refine A2<|Zb Z<|A5<|Bh<|An<|BE<|Bk<|Ze [] [1] Z
   ·refine AW<|Ap<|Af<|Ai<|Zm Z<|Zq (I.add Z Z)<|Za Z<|Ae<|Au (λU ww h=>Zu h [1,2])
  ·refine AC<|AD<|AG<|BA (λU ww h=>Zu h [1])
 ·refine A2<|Zb Z<|A5<|Ze [] [1] Z
def Ki (U:Ab) (O:(List V3) × (List V3) × Int):Option (Sum (Sum ((List V3)) ((List V3) × (List V3))) ((List V3) × (List V3) × Int)) :=
 if decide (O.2.2<(U.Preds.length:Int)) then
  idx U.Preds O.2.2>>=λa1 =>
  Ht O.1 a1>>=λa2 =>
  if !a2 then
   idx U.Preds O.2.2>>=λa6 =>
   app 32 O.1 [a6]>>=λa7 =>
   idx U.Preds O.2.2>>=λa8 =>
   app 32 O.2.1 [a8]>>=λaa =>
   some (w64 (O.2.2+1))>>=λab =>
   some (.inr (a7,aa,ab))
  else
   some (w64 (O.2.2+1))>>=λac =>
   some (.inr (O.1,O.2.1,ac))
 else
  some (.inl (.inr (O.1,O.2.1)))
def MT (a0:Ao) (O:(List V3) × (List V3)):Option (Sum ((List V3)) ((List V3) × (List V3))) :=
 if decide (0<(O.2.length:Int)) then
  idx O.2 0>>=λx8 =>
  MS a0 x8>>=λU =>
  cut O.2 1 (O.2.length:Int)>>=λa1 =>
  iter (Ki U) (O.1,a1,0)
 else
  some (.inl O.1)
def MU (a0:Ao) (O:V3):Option ((List V3)) :=
 (iter (MT a0) ([],[O]))>>=λU =>
 some U
theorem zln (a0:Ao) (a1:V3):Ah Tryz.prog 164 [.rd AF a0,.rd aZ a1] [] (MU a0 a1) (λr O=>⟨[.val (O 0)],[(100,some (O 0,.list aZ 71 r))]⟩):=by
 refine Am 53 func164 Z Z Z λH w=>?_;refine A2<|Eb Z (bx 1 Z) λv1=>Eb Z (bx 2 Z) λv2=>Zb Z<|A2<|Zb Z<|A2<|Zq (ld 2 Z Z fH Aw Z)<|Ef Z (lit (R:=aZ) ([a1]:List V3) 3 (pP Z Z<|pN) Z tu28 Ak Z Z) λv3=>Zb Z<|AY (λ(s4:(List V3)) U ww=>∃ O:Nat->Value,Sta (ctx 53 H [] w) [(5,.val (O 0))] [(6,some ((O 0),.list aZ 71 s4))] U ww) ?_ (λs4=>?_)
 ·refine Dk aZ 71 10<|gSeg 3 Z<|AJ (λ(s5:(List V3) × (List V3)) U ww=>∃ O:Nat->Value,Sta (ctx 53 H [] w) [(2,.val (A7 v1 0)),(5,.val (O 0)),(6,.val (O 1))] [(1,some (v1,.box 33 [.rd AF a0])),(9,some ((O 0),.list aZ 71 s5.1)),(3,some ((O 1),.seg aZ 71 s5.2))] U ww) (λU ww h=>⟨nvl [(.slice none 0 0),v3],Zu h [1,10,3]⟩) (λs5=>?_);refine gEx λn6=>A6<|A2<|Zm Z<|Zq (Aq Z (.seg 3 Z) Z tu28)<|Zq (I.gtr Z Z)<|Zj Z (λh7=>?_) (λh7=>?_)
  ·refine Zt<|AB<|A6<|EJ [(2,.val (A7 v1 0)),(5,.val (n6 0)),(6,.val (n6 1))] [(1,some (v1,.box 33 [.rd AF a0])),(9,some ((n6 0),.list aZ 71 s5.1)),(3,some ((n6 1),.seg aZ 71 s5.2))] [1,9,3] (sS Z<|sS Z<|sS Z<|sN) (Zi Z<|Zi Z<|Zi Z<|rN)<|Ca λx8 h9=>Ca λa7 a8=>gOr [] [⟨1,some ([], λO=>(v1,.box 33 [.rd AF a0])),[]⟩,⟨3,some ([], λO=>((n6 1),.seg aZ 71 s5.2)),[]⟩,⟨11,none,[(5,some ([1], λO=>((O 1),.box 60 [.rd AA (⟨0,[],0,(⟨0,[],(⟨0,0,0,[]⟩:Ay)⟩:AX),(⟨0,0⟩:AQ)⟩:Ab)]))),(6,some ([1], λO=>((O 1),.box 60 [.rd AA a7])))]⟩] [pk 14 (.rd AF a0) [(0,0,false)],pd 15 (.val (n6 1)),pk 16 (.sp aZ (n6 1) s5.2 x8) [(1,0,false)],pk 17 (.rd aZ x8) [(1,0,false)],pd 18 (.rd AA a7),⟨some (7,[1], λO=>.val (A7 (O 1) 0)),[(2,0,true)],[1],[]⟩,⟨none,[(2,1,true)],[],[]⟩] mixed (oC (oRn (λO E=>ld 1 Z Z fH BX Z))<|oC (oRn (λO E=>mv Z))<|oC (oRn (λO E=>ixSg 3 Z Z Z h9 tu28 Ak))<|oC (oRn (λO E=>ldSg 3 Z Z Aw Z))<|oC (oCl [] [] [] a8 func209 Z (λO=>(zp2 _ _)) (λO=>(Y2 Z Z)) (λO E=>rN))<|oC (oEb 11 1 (λO E=>AN 11 Ba (.zr (R:=AA) (x:=(⟨0,[],0,(⟨0,[],(⟨0,0,0,[]⟩:Ay)⟩:AX),(⟨0,0⟩:AQ)⟩:Ab)) Lv)))<|oC (oEs 11 (λO E=>sto 11 Z Z fH Z Ba))<|oN) λab=>Af<|A2<|Zm Z<|Al λav ac=>Ef Z (cutS 3 Z Z Z ac tu28 Ak) λad=>Zb Z<|A2<|Zb Z<|AJ (λ(a6:(List V3) × (List V3) × Int) U ww=>∃ O:Nat->Value,Sta (ctx 53 H [] w) [(2,.val (A7 v1 0)),(5,.val (O 0)),(6,.val (O 1)),(7,.val (A7 (O 2) 0)),(8,.rd A3 a6.2.2)] [(1,some (v1,.box 33 [.rd AF a0])),(9,some ((O 0),.list aZ 71 a6.1)),(3,some ((O 1),.seg aZ 71 a6.2.1)),(11,some ((O 2),.box 60 [.rd AA a7]))] U ww) (λU ww h=>⟨nvl [(n6 0),ad,(ab 1)],Zu h [1,9,3,11]⟩) (λa6=>?_)
   refine gEx λa2=>A6<|A2<|Zm Z<|Zq (faB 11 Z Z underlying60 Z (by exact AU))<|Zq (ld 11 Z Z (fP (Co _)) B0 Z)<|Zq (Aq Z .rd Z tu28)<|Zq (I.lss Z Z)<|Zj Z (λae=>?_) (λae=>?_)
   ·refine Zt<|A6<|AB<|A2<|Zm Z<|Zq (faB 11 Z Z underlying60 Z (by exact AU))<|Zq (ld 11 Z Z (fP (Co _)) B0 Z)<|Zm Z<|Al λaw af=>Zq (ixR Z Z af tu28 Ak Z)<|Zq (ldR Z Aw)<|call [9] [(1,9)] Z func165 Z Z (zl6 _ _ _ _) (aW Z<|aQ Z<|aN) (Y0 Z) λax ay=>Zq (Cd Z)<|Zj Z (λah=>?_) (λah=>?_)
    ·refine A2<|Zm Z<|Zq (faB 11 Z Z underlying60 Z (by exact AU))<|Zq (ld 11 Z Z (fP (Co _)) B0 Z)<|Zm Z<|Al λai aj=>Zq (ixR Z Z aj tu28 Ak Z)<|Zq (ldR Z Aw)<|Ef Z (lit (R:=aZ) ([ai]:List V3) 12 (pP Z Z<|pN) Z tu28 Ak Z Z) λaz=>BW 12 [42] Z (fS Z<|fN)<|Al λb0 ak=>Ef Z (apn 9 Z Z Z .rd ak tu28 Ak Z Z Z) λam=>Zb Z<|Ai<|Zm Z<|Zq (faB 11 Z Z underlying60 Z (by exact AU))<|Zq (ld 11 Z Z (fP (Co _)) B0 Z)<|Zm Z<|Al λao ap=>Zq (ixR Z Z ap tu28 Ak Z)<|Zq (ldR Z Aw)<|Ef Z (lit (R:=aZ) ([ao]:List V3) 13 (pP Z Z<|pN) Z tu28 Ak Z Z) λb1=>BW 13 [50] Z (fS Z<|fN)<|Al λb2 aq=>Ef Z (apS 3 Z Z Z .rd aq tu28 Ak Z Z Z) λar=>Za Z<|Ae<|Ap<|Af<|Ai<|Zm Z<|Zq (I.add Z Z)<|Za Z<|AI 8 Z λb3=>Ae<|Au (λU ww h=>⟨nvl [am,ar,(a2 2)],Zu h [1,9,3,11]⟩)
    ·refine AW<|Ap<|Af<|Ai<|Zm Z<|Zq (I.add Z Z)<|Za Z<|AI 8 Z λb4=>Ae<|Au (λU ww h=>⟨nvl [(a2 0),(a2 1),(a2 2)],Zu h [1,9,3,11]⟩)
   ·refine AC<|AD<|AG<|Ap<|Au (λU ww h=>⟨nvl [(a2 0),(a2 1)],Zu h [1,9,3]⟩)
  ·refine AC<|AD<|AG<|Av (λU ww h=>⟨nvl [(n6 0)],Zu h [9]⟩)
 ·refine gEx λau=>A2<|Zm Z<|Zb Z<|A5<|Ze [(au 0)] [6] Z
def Kj (a0:AT) (O:AT):Option (Bool) :=
 if a0.Key != O.Key then
  some (Dp a0.Key O.Key)>>=λU =>
  some U
 else
  Gz a0.ID O.ID>>=λr5 =>
  some (decide (r5<0))>>=λy7 =>
  some y7
theorem Uc (a0:AT) (O:AT):Ah Tryz.prog 88 [.rd Bi a0,.rd Bi O] [] (Kj a0 O) (λr nv=>⟨[.rd Ac r],[]⟩):=by
 refine Am 21 func88 Z Z Z λH w=>?_;refine A2<|Eb Z (bx 1 Z) λv1=>Eb Z (bx 2 Z) λv2=>Zb Z<|A6<|A2<|Zq (faB 1 Z Z underlying73 Z (by exact ti9))<|Zq (ld 1 Z Z (fP (EH _)) ty9 Z)<|Zq (faB 2 Z Z underlying73 Z (by exact ti9))<|Zq (ld 2 Z Z (fP (EH _)) ty9 Z)<|Zq (neS Z Z)<|Zj Z (λU=>?_) (λU=>?_)
 ·refine A2<|Zq (faB 1 Z Z underlying73 Z (by exact ti9))<|Zq (ld 1 Z Z (fP (EH _)) ty9 Z)<|Zq (faB 2 Z Z underlying73 Z (by exact ti9))<|Zq (ld 2 Z Z (fP (EH _)) ty9 Z)<|Zq (ltS Z Z)<|Za Z<|AI 4 Z λy4=>Zn<|A5<|An<|Ze [] [] Z
 ·refine Zt<|A2<|Zq (faB 1 Z Z underlying73 Z (by exact Ak))<|Zq (ld 1 Z Z (fP (FL _)) Aw Z)<|Zq (faB 2 Z Z underlying73 Z (by exact Ak))<|Zq (ld 2 Z Z (fP (FL _)) Aw Z)<|Zc [] [] func86 Z (Jz _ _) λr5 n6=>Zq (I.lss Z Z)<|Za Z<|AI 4 Z λy7=>Zn<|A5<|Ze [] [] Z
def MV (O:(List AT) × Int):Option (Sum ((List AT)) ((List AT) × Int)) :=
 if decide (0<O.2) then
  idx O.1 O.2>>=λa1 =>
  idx O.1 (w64 (O.2 - 1))>>=λa2 =>
  Kj a1 a2>>=λa6 =>
  if a6 then
   idx O.1 (w64 (O.2 - 1))>>=λU =>
   idx O.1 O.2>>=λa7 =>
   idx O.1 O.2>>=λaa =>
   idx (O.1.set (O.2:Int).toNat U) (w64 (O.2 - 1))>>=λab =>
   some (w64 (O.2 - 1))>>=λa8 =>
   some (.inr ((O.1.set (O.2:Int).toNat U).set (w64 (O.2 - 1):Int).toNat a7,a8))
  else
   some (.inl O.1)
 else
  some (.inl O.1)
def MW (a0:List AT) (U:AT):Option ((List AT)) :=
 app 48 ([]:List AT) a0>>=λx2 =>
 app 48 x2 [U]>>=λO =>
 (some (w64 ((O.length:Int) - 1))>>=λy8 =>
 iter (MV) (O,y8))>>=λs7 =>
 some s7
theorem zo0 (a0:List AT) (a1:AT):Ah Tryz.prog 166 [.rd (A8 Bi) a0,.rd Bi a1] [] (MW a0 a1) (λr O=>⟨[.val (O 0)],[(100,some (O 0,.list Bi 73 r))]⟩):=by
 refine Am 49 func166 Z Z Z λH w=>?_;refine A2<|Eb Z (bx 1 Z) λv1=>Zb Z<|A6<|EJ [(0,.rd (A8 Bi) a0),(3,.val (A7 v1 0))] [(1,some (v1,.box 73 [.rd Bi a1]))] [1] (sS Z<|sS Z<|sN) (Y0 Z)<|Ca λx2 h3=>Ca λx4 h5=>gOr [] [⟨2,none,[(0,some ([1], λO=>((O 1),.list Bi 73 ([]:List AT)))),(2,some ([2], λO=>((O 2),.list Bi 73 x2))),(5,some ([4], λO=>((O 4),.list Bi 73 x4)))]⟩,⟨1,some ([], λO=>(v1,.box 73 [.rd Bi a1])),[]⟩,⟨3,none,[(4,none)]⟩] [⟨some (7,[1], λO=>.val (O 1)),[(0,0,true)],[1],[]⟩,pd 8 (.rd (A8 Bi) a0),⟨some (9,[2], λO=>.val (O 2)),[(0,1,true)],[2],[]⟩,pk 10 (.rd Bi a1) [(1,0,false)],⟨some (11,[], λO=>.rd (A8 Bi) [a1]),[(2,0,true)],[3],[]⟩,⟨some (12,[4], λO=>.val (O 4)),[(0,2,true)],[4],[]⟩,⟨some (5,[4], λO=>.val (O 4)),[],[],[]⟩] mixed (oC (oEf 2 1 (λO E=>lit (R:=Bi) (([]:List AT):List AT) 2 (pN) Z tu22 Cq Z Z))<|oC (oRn (λO E=>mv Z))<|oC (oEf 2 2 (λO E=>apn 2 Z Z Z .rd h3 tu22 Cq Z Z Z))<|oC (oRn (λO E=>ld 1 Z Z fH EI Z))<|oC (oFz (A1:=λO=>[(3,some ((O 3),.list Bi 73 [a1]))]) 3 3 (oEf 3 3 (λO E=>lit (R:=Bi) ([a1]:List AT) 3 (pP Z Z<|pN) Z tu22 Cq Z Z)))<|oC (oEf 2 4 (λO E=>apn 2 Z Z Z .rd h5 tu22 Cq Z Z Z))<|oC (oRn (λO E=>asg Z))<|oN) λn6=>Af<|AY (λ(s7:(List AT)) aa ww=>∃ O:Nat->Value,Sta (ctx 49 H [] w) [(5,.val (O 0))] [(2,some ((O 0),.list Bi 73 s7))] aa ww) ?_ (λs7=>?_)
 ·refine A2<|Zm Z<|Zq (Aq Z (.own 2 Z) Z tu22)<|Zq (I.sub Z Z)<|Za Z<|AI 6 Z λy8=>Zn<|AJ (λ(s9:(List AT) × Int) aa ww=>∃ O:Nat->Value,Sta (ctx 49 H [] w) [(5,.val (O 0)),(6,.rd A3 s9.2)] [(2,some ((O 0),.list Bi 73 s9.1))] aa ww) (λaa ww h=>⟨nvl [(n6 4)],Zu h [2]⟩) (λs9=>?_);refine gEx λU=>A6<|A6<|Bq [] mixed Z Z<|A4 0 Z Z (mv Z)<|A4 1 Z Z (I.gtr Z Z)<|A4 2 Z Z (mv Z)<|hIf 18 Z Z (λa2=>?_) (λa2=>?_)
  ·refine hKn 17 Z Z a2<|Zg 3 Z Z (mv Z)<|Zg 4 Z Z (mv Z)<|AZ λaj a8=>Zg 5 Z Z (ixO 2 Z Z Z a8 tu22 Cq)<|Zg 6 Z Z (ld 2 Z Z (Foc.el a8) EI Z)<|Zg 7 Z Z (mv Z)<|Zg 8 Z Z (mv Z)<|Zg 9 Z Z (I.sub Z Z)<|AZ λak ab=>Zg 10 Z Z (ixO 2 Z Z Z ab tu22 Cq)<|Zg 11 Z Z (ld 2 Z Z (Foc.el ab) EI Z)<|Be 12 [] [] Z (by kernel_rfl) Z Zx Z func88 Z Z (Uc _ _) (Y2 Z Z) rN Z (λ_ _=>DY) λam ao=>A4 13 Z Z (pkT Z Z)<|AV (by kernel_rfl)<|Af<|gIf Z Z (λa6=>?_) (λa6=>?_)
   ·refine gKn 28 Z a6<|Zt<|A6<|AB<|EJ [(5,.val (U 0)),(6,.rd A3 s9.2)] [(2,some ((U 0),.list Bi 73 s9.1))] [2] (sS Z<|sS Z<|sN) (Y0 Z)<|Ca λa7 ac=>Ca λad ae=>Ca λap af=>Ca λaq ah=>gOr [] [⟨2,some ([], λO=>((U 0),.list Bi 73 s9.1)),[(15,some ([], λO=>((U 0),.list Bi 73 (s9.1.set (s9.2:Int).toNat a7)))),(17,some ([], λO=>((U 0),.list Bi 73 ((s9.1.set (s9.2:Int).toNat a7).set (w64 (s9.2 - 1):Int).toNat ad))))]⟩] [pd 32 (.val (U 0)),pd 33 (.rd A3 s9.2),pd 34 (.val (U 0)),pd 35 (.rd A3 s9.2),pd 36 (.rd A3 (w64 (s9.2 - 1))),pd 37 (.val (U 0)),pd 38 (.rd A3 s9.2),pd 39 (.rd A3 (w64 (s9.2 - 1))),pk 40 (.val (A7 (U 0) ((w64 (s9.2 - 1):Int).toNat * 33))) [(0,0,false)],pk 41 (.rd Bi a7) [(0,0,false)],pd 42 (.val (U 0)),pd 43 (.rd A3 s9.2),pk 44 (.val (A7 (U 0) ((s9.2:Int).toNat * 33))) [(0,0,false)],pk 45 (.rd Bi ad) [(0,0,false)],pk 46 (.val (A7 (U 0) ((s9.2:Int).toNat * 33))) [(0,0,false)],⟨none,[(0,0,true)],[],[]⟩,pk 47 (.val (A7 (U 0) ((w64 (s9.2 - 1):Int).toNat * 33))) [(0,1,false)],⟨none,[(0,1,true)],[],[]⟩] mixed (oC (oRn (λO E=>mv Z))<|oC (oRn (λO E=>mv Z))<|oC (oRn (λO E=>mv Z))<|oC (oRn (λO E=>mv Z))<|oC (oRn (λO E=>I.sub Z Z))<|oC (oRn (λO E=>mv Z))<|oC (oRn (λO E=>mv Z))<|oC (oRn (λO E=>I.sub Z Z))<|oC (oRn (λO E=>ixO 2 Z Z Z ac tu22 Cq))<|oC (oRn (λO E=>ld 2 Z Z (Foc.el ac) EI Z))<|oC (oRn (λO E=>mv Z))<|oC (oRn (λO E=>mv Z))<|oC (oRn (λO E=>ixO 2 Z Z Z ae tu22 Cq))<|oC (oRn (λO E=>ld 2 Z Z (Foc.el ae) EI Z))<|oC (oRn (λO E=>ixO 2 Z Z Z af tu22 Cq))<|oC (oEs 2 (λO E=>sto 2 Z Z (Foc.el af) Z Cq))<|oC (oRn (λO E=>ixO 2 Z Z Z ah tu22 Cq))<|oC (oEs 2 (λO E=>sto 2 Z Z (Foc.el ah) Z Cq))<|oN) λar=>Ap<|Af<|Ai<|Zm Z<|Zq (I.sub Z Z)<|Za Z<|AI 6 Z λau=>Ae<|Au (λaa ww h=>⟨nvl [(U 0)],Zu h [2]⟩)
   ·refine gKn 28 Z a6<|AC<|AD<|AG<|Av (λaa ww h=>⟨nvl [(U 0)],Zu h [2]⟩)
  ·refine hKn 17 Z Z a2<|hSk 3 Z Z<|hSk 4 Z Z<|hSk 5 Z Z<|hSk 6 Z Z<|hSk 7 Z Z<|hSk 8 Z Z<|hSk 9 Z Z<|hSk 10 Z Z<|hSk 11 Z Z<|hSk 12 Z Z<|A4 13 Z Z (pkF Z Z)<|AV (by kernel_rfl)<|Af<|DX Z<|AC<|AD<|AG<|Av (λaa ww h=>⟨nvl [(U 0)],Zu h [2]⟩)
 ·refine gEx λai=>A2<|Zm Z<|Zb Z<|A5<|Ze [(ai 0)] [2] Z
def Kk (a0:Ao) (O:(List (List V3)) × Int):Option (Sum ((List (List V3))) ((List (List V3)) × Int)) :=
 if decide (O.2<(a0.Ops.length:Int)) then
  idx a0.IDs O.2>>=λU =>
  MU a0 U>>=λa1 =>
  app 24 O.1 [a1]>>=λa2 =>
  some (w64 (O.2+1))>>=λa6 =>
  some (.inr (a2,a6))
 else
  some (.inl O.1)
end
section
def Kl (a0:Ao) (s8:(List (List V3))) (a1:(List AT) × Int) (a2:Ab) (O:Bool × Int):Option (Sum Bool (Bool × Int)) :=
 if decide (O.2<(a0.Ops.length:Int)) then
  idx a0.Ops O.2>>=λU =>
  if O.1 then
   some (w64 (O.2+1))>>=λa6 =>
   some (.inr (true,a6))
  else
   if U.Act.Kind==3 then
    if U.Act.Key==a2.Act.Key then
     idx s8 O.2>>=λa7 =>
     idx a0.IDs a1.2>>=λa8 =>
     Ht a7 a8>>=λaa =>
     some (w64 (O.2+1))>>=λab =>
     some (.inr (aa,ab))
    else
     some (w64 (O.2+1))>>=λac =>
     some (.inr (false,ac))
   else
    some (w64 (O.2+1))>>=λad =>
    some (.inr (false,ad))
 else
  some (.inl O.1)
def MX (a0:Ao) (s8:(List (List V3))) (O:(List AT) × Int):Option (Sum ((List AT)) ((List AT) × Int)) :=
 if decide (O.2<(a0.Ops.length:Int)) then
  idx a0.Ops O.2>>=λU =>
  if U.Act.Kind != 2 then
   some (w64 (O.2+1))>>=λa1 =>
   some (.inr (O.1,a1))
  else
   (iter (Kl a0 s8 O U) (false,0))>>=λa2 =>
   if !a2 then
    idx a0.IDs O.2>>=λa6 =>
    MW O.1 (⟨U.Act.Key,a6⟩:AT)>>=λa7 =>
    some (w64 (O.2+1))>>=λa8 =>
    some (.inr (a7,a8))
   else
    some (w64 (O.2+1))>>=λaa =>
    some (.inr (O.1,aa))
 else
  some (.inl O.1)
def MY (a0:Ao):Option (Bb × Int) :=
 Ee a0>>=λU =>
 if U != 0 then
  Ee a0>>=λr6 =>
  some ((⟨[]⟩:Bb),r6)
 else
  (iter (Kk a0) ([],0))>>=λs8 =>
  (iter (MX a0 s8) ([],0))>>=λO =>
  some ((⟨O⟩:Bb),0)
theorem zp9 (a0:Ao):Ah Tryz.prog 112 [.rd AF a0] [] (MY a0) (λr nv=>⟨[.rd Bz r.1,.rd A3 r.2],[]⟩):=by
 refine Am 104 func112 Z Z Z λH w=>?_;refine A2<|Eb Z (bx 1 Z) λv1=>Eb Z (AN 2 D7 (ZrE.nilS ZrE.nil)) λv2=>Zb Z<|A6<|A2<|Zq (ld 1 Z Z fH BX Z)<|Zc [] [] func29 Z (FR _) λr3 n4=>Zq (I.neq Z Z)<|Zj Z (λh5=>?_) (λh5=>?_)
 ·refine A2<|Zq (bldE [(0,1)] underlying24 D7 (ZrE.nilS ZrE.nil) Z (D3.done Z))<|Zq (ld 1 Z Z fH BX Z)<|Zc [] [] func29 Z (FR _) λr6 n7=>Es (stoG 2 Z Z (AH.cast (AH.cons BG AH.nil) Z) Z (BO.cons Cx BO.nil) (AH.cast (AH.cons BG AH.nil) Z) D7)<|Zb Z<|A5<|An<|ePnl Bi [.rd (A8 Bi) []] 2 [] [] Z Z Z<|eJoi (R:=Bz) (⟨[]⟩:Bb) 2 Z (Sp.via (Sp.prod Sp.unit))<|BF [] [] Z (eC 2 Z Z ty24<|eE Z<|eN) (rN)
 ·refine Zt<|A2<|Zb Z<|AY (λ(s8:(List (List V3))) O U=>∃ nv:Nat->Value,Sta (ctx 104 H [] w) [(1,.val (A7 v1 0)),(2,.val (A7 v2 0)),(4,.val (nv 0))] [(1,some (v1,.box 33 [.rd AF a0])),(2,some (v2,.box 24 [.val (.slice none 0 0)])),(30,some ((nv 0),.list (A8 aZ) 28 s8))] O U) ?_ (λs8=>?_)
  ·refine A2<|Zb Z<|Dk (A8 aZ) 28 59<|AJ (λ(s9:(List (List V3)) × Int) O U=>∃ nv:Nat->Value,Sta (ctx 104 H [] w) [(1,.val (A7 v1 0)),(2,.val (A7 v2 0)),(4,.val (nv 0)),(5,.rd A3 s9.2)] [(1,some (v1,.box 33 [.rd AF a0])),(2,some (v2,.box 24 [.val (.slice none 0 0)])),(58,some ((nv 0),.list (A8 aZ) 28 s9.1))] O U) (λO U h=>⟨nvl [(.slice none 0 0)],Zu h [1,2,59]⟩) (λs9=>?_);refine gEx λaj=>A6<|A2<|Zm Z<|Zq (faB 1 Z Z underlying33 Z (by exact BP))<|Zq (ld 1 Z Z (fP (BQ _)) BR Z)<|Zq (Aq Z .rd Z tu31)<|Zq (I.lss Z Z)<|Zj Z (λak=>?_) (λak=>?_)
   ·refine Zt<|A6<|AB<|Bq [58,81,84] mixed Z Z<|A4 0 Z Z (mv Z)<|A4 1 Z Z (ld 1 Z Z fH BX Z)<|A4 2 Z Z (faB 1 Z Z underlying33 Z (by exact AU))<|A4 3 Z Z (ld 1 Z Z (fP (C7 _)) B0 Z)<|A4 4 Z Z (mv Z)<|AZ λb3 am=>A4 5 Z Z (ixR Z Z am tu28 Ak Z)<|A4 6 Z Z (ldR Z Aw)<|Be 7 [] [(100,81)] Z (by kernel_rfl) Z (gd0 Z) Z func164 Z Z (zln _ _) (Y2 Z Z) rN Z (λ_ _=>C1) λao b4=>DJ 81 [32] Z (fS Z<|fN)<|Zo 8 Z Z Z (lit (R:=(A8 aZ)) ([ao]:List (List V3)) 84 (pP Z Z<|pN) Z underlying229 AU Z Z) λb5=>DJ 84 [33] Z (fS Z<|fN)<|AZ λb6 ap=>Zo 9 Z Z Z (apn 58 Z Z Z .rd ap underlying229 AU Z Z Z) λaq=>Zf 10 Z Z C1 (asg Z)<|AV (by kernel_rfl)<|Ap<|Af<|Ai<|Zm Z<|Zq (I.add Z Z)<|Za Z<|AI 5 Z λb7=>Ae<|Au (λO U h=>⟨nvl [aq],Zu h [1,2,58]⟩)
   ·refine AC<|AD<|AG<|Av (λO U h=>⟨nvl [(aj 0)],Zu h [1,2,58]⟩)
  ·refine gEx λa6=>A2<|Eb Z (AN 96 D7 (ZrE.nilS ZrE.nil)) λv22=>Zn<|AY (λ(ab:(List AT)) O U=>∃ nv:Nat->Value,Sta (ctx 104 H [] w) [(2,.val (A7 v2 0)),(6,.val (A7 v22 0))] [(2,some (v2,.box 24 [.val (.slice none 0 0)])),(210,some ((nv 0),.list Bi 73 ab)),(96,some (v22,.box 24 [.val (nv 0)]))] O U) ?_ (λab=>?_)
   ·refine A2<|Zb Z<|Dk Bi 73 325<|AJ (λ(a1:(List AT) × Int) O U=>∃ nv:Nat->Value,Sta (ctx 104 H [] w) [(1,.val (A7 v1 0)),(2,.val (A7 v2 0)),(4,.val (a6 0)),(6,.val (A7 v22 0)),(7,.rd A3 a1.2)] [(1,some (v1,.box 33 [.rd AF a0])),(2,some (v2,.box 24 [.val (.slice none 0 0)])),(30,some ((a6 0),.list (A8 aZ) 28 s8)),(324,some ((nv 0),.list Bi 73 a1.1)),(96,some (v22,.box 24 [.val (nv 0)]))] O U) (λO U h=>⟨nvl [(.slice none 0 0)],Zu h [1,2,30,325,96]⟩) (λa1=>?_)
    refine gEx λa2=>A6<|A2<|Zm Z<|Zq (faB 1 Z Z underlying33 Z (by exact BP))<|Zq (ld 1 Z Z (fP (BQ _)) BR Z)<|Zq (Aq Z .rd Z tu31)<|Zq (I.lss Z Z)<|Zj Z (λar=>?_) (λar=>?_)
    ·refine Zt<|A6<|AB<|A2<|Zq (faB 1 Z Z underlying33 Z (by exact BP))<|Zq (ld 1 Z Z (fP (BQ _)) BR Z)<|Zm Z<|Al λad au=>Zq (ixR Z Z au tu31 Ba Z)<|Zq (faR Z (Ct _) underlying60 Z Z (by exact Cj))<|Zq (ldR Z ty56)<|Eb Z (AN 326 Cj (.zr (R:=Bw) (x:=(⟨0,[],(⟨0,0,0,[]⟩:Ay)⟩:AX)) DB)) λac=>Es (sto 326 Z Z fH Z Cj)<|Zn<|A6<|A2<|Zq (faB 326 Z Z underlying56 Z (by exact ti5))<|Zq (ld 326 Z Z (fP (DS _)) ty5 Z)<|Zq (B.neq Z Z)<|Zj Z (λav=>?_) (λav=>?_)
     ·refine AC<|AD<|Lg<|Af<|Ai<|Zm Z<|Zq (I.add Z Z)<|Za Z<|AI 7 Z λb8=>Ae<|Au (λO U h=>⟨nvl [(a2 0)],Zu h [1,2,30,324,96]⟩)
     ·refine Zt<|A2<|Zb Z<|AY (λ(ah:Bool) O U=>Sta (ctx 104 H [] w) [(1,.val (A7 v1 0)),(2,.val (A7 v2 0)),(4,.val (a6 0)),(6,.val (A7 v22 0)),(7,.rd A3 a1.2),(8,.val (A7 ac 0)),(9,.rd Ac ah)] [(1,some (v1,.box 33 [.rd AF a0])),(2,some (v2,.box 24 [.val (.slice none 0 0)])),(30,some ((a6 0),.list (A8 aZ) 28 s8)),(324,some ((a2 0),.list Bi 73 a1.1)),(96,some (v22,.box 24 [.val (a2 0)])),(326,some (ac,.box 56 [.rd Bw ad.Act]))] O U) ?_ (λah=>?_)
      ·refine A2<|Zb Z<|AJ (λ(ae:Bool × Int) O U=>Sta (ctx 104 H [] w) [(1,.val (A7 v1 0)),(2,.val (A7 v2 0)),(4,.val (a6 0)),(6,.val (A7 v22 0)),(7,.rd A3 a1.2),(8,.val (A7 ac 0)),(9,.rd Ac ae.1),(10,.rd A3 ae.2)] [(1,some (v1,.box 33 [.rd AF a0])),(2,some (v2,.box 24 [.val (.slice none 0 0)])),(30,some ((a6 0),.list (A8 aZ) 28 s8)),(324,some ((a2 0),.list Bi 73 a1.1)),(96,some (v22,.box 24 [.val (a2 0)])),(326,some (ac,.box 56 [.rd Bw ad.Act]))] O U) (λO U h=>Zu h [1,2,30,324,96,326]) (λae=>?_)
       refine A6<|A2<|Zm Z<|Zq (faB 1 Z Z underlying33 Z (by exact BP))<|Zq (ld 1 Z Z (fP (BQ _)) BR Z)<|Zq (Aq Z .rd Z tu31)<|Zq (I.lss Z Z)<|Zj Z (λaw=>?_) (λaw=>?_)
       ·refine Zt<|A6<|AB<|A2<|Zq (faB 1 Z Z underlying33 Z (by exact BP))<|Zq (ld 1 Z Z (fP (BQ _)) BR Z)<|Zm Z<|Al λb9 ax=>Zq (ixR Z Z ax tu31 Ba Z)<|Zq (faR Z (Ct _) underlying60 Z Z (by exact Cj))<|Zq (ldR Z ty56)<|Eb Z (AN 327 Cj (.zr (R:=Bw) (x:=(⟨0,[],(⟨0,0,0,[]⟩:Ay)⟩:AX)) DB)) λba=>Es (sto 327 Z Z fH Z Cj)<|Zn<|Bq [] mixed Z Z<|A4 0 Z Z (mv Z)<|A4 1 Z Z (mv Z)<|hIf 65 Z Z (λa7=>?_) (λa7=>?_)
        ·refine hKn 9 Z Z a7<|hKn 64 Z Z a7<|hSk 2 Z Z<|hSk 3 Z Z<|hSk 4 Z Z<|hSk 5 Z Z<|AM 6 Z (by kernel_rfl) (by kernel_rfl) (by kernel_rfl) (gdU Z Z Z) Z Z<|AM 7 Z (by kernel_rfl) (by kernel_rfl) (by kernel_rfl) (gdU Z Z Z) Z Z<|AM 8 Z (by kernel_rfl) (by kernel_rfl) (by kernel_rfl) (gdU Z Z Z) Z Z<|AM 9 Z (by kernel_rfl) (by kernel_rfl) (by kernel_rfl) (gdU Z Z Z) Z Z<|AM 10 Z (by kernel_rfl) (by kernel_rfl) (by kernel_rfl) (gdU Z Z Z) Z Z<|hSk 11 Z Z<|hSk 12 Z Z<|AM 13 Z (by kernel_rfl) (by kernel_rfl) (by kernel_rfl) (gdU Z Z Z) Z Z<|AM 14 Z (by kernel_rfl) (by kernel_rfl) (by kernel_rfl) (gdU Z Z Z) Z Z<|AM 15 Z (by kernel_rfl) (by kernel_rfl) (by kernel_rfl) (gdU Z Z Z) Z Z<|AM 16 Z (by kernel_rfl) (by kernel_rfl) (by kernel_rfl) (gdU Z Z Z) Z Z<|AM 17 Z (by kernel_rfl) (by kernel_rfl) (by kernel_rfl) (gdU Z Z Z) Z Z<|AM 18 Z (by kernel_rfl) (by kernel_rfl) (by kernel_rfl) (gdU Z Z Z) Z Z<|AM 19 Z (by kernel_rfl) (by kernel_rfl) (by kernel_rfl) (gdU Z Z Z) Z Z<|AM 20 Z (by kernel_rfl) (by kernel_rfl) (by kernel_rfl) (gdU Z Z Z) Z Z<|AM 21 Z (by kernel_rfl) (by kernel_rfl) (by kernel_rfl) (gdU Z Z Z) Z Z<|AM 22 Z (by kernel_rfl) (by kernel_rfl) (by kernel_rfl) (gdU Z Z Z) Z Z<|hSk 23 Z Z<|A4 24 Z Z (pkT Z Z)<|A4 25 Z Z (asg Z)<|AV (by kernel_rfl)<|Ap<|Af<|Ai<|Zm Z<|Zq (I.add Z Z)<|Za Z<|AI 10 Z λbb=>Ae<|Au (λO U h=>Zu h [1,2,30,324,96,326])
        ·refine hKn 9 Z Z a7<|hKn 64 Z Z a7<|Zg 2 Z Z (faB 327 Z Z underlying56 Z (by exact ti5))<|Zg 3 Z Z (ld 327 Z Z (fP (DS _)) ty5 Z)<|Zg 4 Z Z (B.eql Z Z)<|Zg 5 Z Z (mv Z)<|hIf 69 Z Z (λaf=>?_) (λaf=>?_)
         ·refine hKn 68 Z Z af<|Zg 6 Z Z (faB 327 Z Z underlying56 Z (by exact ti9))<|Zg 7 Z Z (ld 327 Z Z (fP (DT _)) ty9 Z)<|Zg 8 Z Z (faB 326 Z Z underlying56 Z (by exact ti9))<|Zg 9 Z Z (ld 326 Z Z (fP (DT _)) ty9 Z)<|Zg 10 Z Z (eqS Z Z)<|Zg 11 Z Z (pkT Z Z)<|Zg 12 Z Z (mv Z)<|hIf 76 Z Z (λa8=>?_) (λa8=>?_)
          ·refine hKn 74 Z Z a8<|hKn 75 Z Z a8<|Zg 13 Z Z (mv Z)<|Zg 14 Z Z (mv Z)<|AZ λbc ai=>Zg 15 Z Z (ixO 30 Z Z Z ai underlying229 AU)<|Zg 16 Z Z (ld 30 Z Z (Foc.el ai) B0 Z)<|Zg 17 Z Z (faB 1 Z Z underlying33 Z (by exact AU))<|Zg 18 Z Z (ld 1 Z Z (fP (C7 _)) B0 Z)<|Zg 19 Z Z (mv Z)<|AZ λbd ay=>Zg 20 Z Z (ixR Z Z ay tu28 Ak Z)<|Zg 21 Z Z (ldR Z Aw)<|Be 22 [] [] Z (by kernel_rfl) Z Zx Z func165 Z Z (Ub _ _) (Y2 Z Z) rN Z (λ_ _=>DY) λbe bf=>Zg 23 Z Z (pkT Z Z)<|A4 24 Z Z (pkF Z Z)<|A4 25 Z Z (asg Z)<|AV (by kernel_rfl)<|Ap<|Af<|Ai<|Zm Z<|Zq (I.add Z Z)<|Za Z<|AI 10 Z λbg=>Ae<|Au (λO U h=>Zu h [1,2,30,324,96,326])
          ·refine hKn 74 Z Z a8<|hKn 75 Z Z a8<|hSk 13 Z Z<|hSk 14 Z Z<|hSk 15 Z Z<|hSk 16 Z Z<|hSk 17 Z Z<|hSk 18 Z Z<|hSk 19 Z Z<|hSk 20 Z Z<|hSk 21 Z Z<|hSk 22 Z Z<|Zg 23 Z Z (pkF Z Z)<|A4 24 Z Z (pkF Z Z)<|A4 25 Z Z (asg Z)<|AV (by kernel_rfl)<|Ap<|Af<|Ai<|Zm Z<|Zq (I.add Z Z)<|Za Z<|AI 10 Z λbh=>Ae<|Au (λO U h=>Zu h [1,2,30,324,96,326])
         ·refine hKn 68 Z Z af<|hSk 6 Z Z<|hSk 7 Z Z<|hSk 8 Z Z<|hSk 9 Z Z<|hSk 10 Z Z<|Zg 11 Z Z (pkF Z Z)<|Zg 12 Z Z (mv Z)<|hSk 13 Z Z<|hSk 14 Z Z<|hSk 15 Z Z<|hSk 16 Z Z<|hSk 17 Z Z<|hSk 18 Z Z<|hSk 19 Z Z<|hSk 20 Z Z<|hSk 21 Z Z<|hSk 22 Z Z<|Zg 23 Z Z (pkF Z Z)<|A4 24 Z Z (pkF Z Z)<|A4 25 Z Z (asg Z)<|AV (by kernel_rfl)<|Ap<|Af<|Ai<|Zm Z<|Zq (I.add Z Z)<|Za Z<|AI 10 Z λbi=>Ae<|Au (λO U h=>Zu h [1,2,30,324,96,326])
       ·refine AC<|AD<|AG<|Av (λO U h=>Zu h [1,2,30,324,96,326])
      ·refine A2<|Zm Z<|Zq (Cd Z)<|Zj Z (λaz=>?_) (λaz=>?_)
       ·refine Bq [96,439] mixed Z Z<|A4 0 Z Z (faB 96 Z Z underlying24 Z (by exact Df))<|A4 2 Z Z (faB 326 Z Z underlying56 Z (by exact ti9))<|A4 3 Z Z (ld 326 Z Z (fP (DT _)) ty9 Z)<|A4 4 Z Z (faB 1 Z Z underlying33 Z (by exact AU))<|A4 5 Z Z (ld 1 Z Z (fP (C7 _)) B0 Z)<|A4 6 Z Z (mv Z)<|AZ λb0 b1=>A4 7 Z Z (ixR Z Z b1 tu28 Ak Z)<|A4 8 Z Z (ldR Z Aw)<|A4 9 Z Z (bld (x':=(⟨ad.Act.Key,b0⟩:AT)) [(0,1),(1,32)] underlying73 Cq Z Gm Z (Bld.cons (EH _) Z Z<|Bld.cons (FL _) Z Z<|Bld.done Z))<|hRun 1 Z (by kernel_rfl) (gd0 Z) Z Z C1 (ldV 96 Z Z (At.cast At.here Z) sc22 Z)<|DJ 324 [92] Z (fS Z<|fN)<|Be 10 [] [(100,439)] Z (by kernel_rfl) Z (gd0 Z) Z func166 Z Z (zo0 _ _) (Y2 Z Z) rN Z (λ_ _=>C1) λbj b2=>Zf 11 Z Z C1 (faB 96 Z Z underlying24 Z (by exact Df))<|Zp 12 Z Z Z Z Z (DI 96 Z Z (By.cast (By.here BG) Z) Z Cx BG Df)<|AV (by kernel_rfl)<|Ap<|Af<|Ai<|Zm Z<|Zq (I.add Z Z)<|Za Z<|AI 7 Z λbk=>Ae<|Au (λO U h=>⟨nvl [(b2 0)],Zu h [1,2,30,439,96]⟩)
       ·refine AW<|Ap<|Af<|Ai<|Zm Z<|Zq (I.add Z Z)<|Za Z<|AI 7 Z λbl=>Ae<|Au (λO U h=>⟨nvl [(a2 0)],Zu h [1,2,30,324,96]⟩)
    ·refine AC<|AD<|AG<|Av (λO U h=>⟨nvl [(a2 0)],Zu h [2,324,96]⟩)
   ·refine gEx λbm=>A2<|lPow [.rd (A8 Bi) ab] 96 210 [] [] Z Z Z Z Z<|Cm (R:=Bz) (⟨ab⟩:Bb) 96 Z (Sp.via (Sp.prod Sp.unit))<|Zq (ld 96 Z Z fH ty24 Z)<|Cy Bi [.rd (A8 Bi) []] 2 [] [] Z Z Z<|Cm (R:=Bz) (⟨[]⟩:Bb) 2 Z (Sp.via (Sp.prod Sp.unit))<|Es (sto 2 Z Z fH Z D7)<|Zb Z<|A5<|BF [] [] Z (eC 2 Z Z ty24<|eE Z<|eN) (rN)
def MZ (a0:UInt64) (U:V3) (O:AP):Option (Bool) :=
 if decide (O.Stamp<a0) then
  some true
 else
  if a0==O.Stamp then
   Gz U O.ID>>=λr5 =>
   some (decide (0<r5))>>=λy7 =>
   some y7
  else
   some false
theorem zly (a0:UInt64) (a1:V3) (a2:AP):Ah Tryz.prog 167 [.rd Ar a0,.rd aZ a1,.rd B7 a2] [] (MZ a0 a1 a2) (λr nv=>⟨[.rd Ac r],[]⟩):=by
 refine Am 24 func167 Z Z Z λH w=>?_;refine A2<|Eb Z (bx 1 Z) λv1=>Eb Z (bx 2 Z) λv2=>Zb Z<|A2<|Zm Z<|Zq (faB 2 Z Z underlying75 Z (by exact CV))<|Zq (ld 2 Z Z (fP (Fr _)) CR Z)<|Zq (U.gtr Z Z)<|Zm Z<|Bf 11 Z (λO=>?_) (λO=>?_)
 ·refine Aj 10 Z O<|Zk Z<|Zk Z<|Zk Z<|Zk Z<|Zk Z<|D6 (gdU Z Z Z) Z Z<|D6 (gdU Z Z Z) Z Z<|D6 (gdU Z Z Z) Z Z<|D6 (gdU Z Z Z) Z Z<|D6 (gdU Z Z Z) Z Z<|Zk Z<|Zq (pkT Z Z)<|Zb Z<|A5<|Ze [] [] Z
 ·refine Aj 10 Z O<|Aa Zx Z Z (mv Z)<|Aa Zx Z Z (faB 2 Z Z underlying75 Z (by exact CV))<|Aa Zx Z Z (ld 2 Z Z (fP (Fr _)) CR Z)<|Aa Zx Z Z (U.eql Z Z)<|Aa Zx Z Z (mv Z)<|Bf 16 Z (λh4=>?_) (λh4=>?_)
  ·refine Aj 15 Z h4<|Aa Zx Z Z (ld 1 Z Z fH Aw Z)<|Aa Zx Z Z (faB 2 Z Z underlying75 Z (by exact Ak))<|Aa Zx Z Z (ld 2 Z Z (fP (GZ _)) Aw Z)<|CN [] [] Zx Z func86 Z Z (Jz _ _) (Y2 Z Z) rN λr5 n6=>Aa Zx Z Z (I.gtr Z Z)<|Aa Zx Z Z (pkT Z Z)<|Zq (pkF Z Z)<|Za Z<|AI 6 Z λy7=>Zn<|A5<|Ze [] [] Z
  ·refine Aj 15 Z h4<|Zk Z<|Zk Z<|Zk Z<|Zk Z<|Zk Z<|Aa Zx Z Z (pkF Z Z)<|Zq (pkF Z Z)<|Zb Z<|A5<|Ze [] [] Z
def N0 (O:(List AP) × Int):Option (Sum ((List AP)) ((List AP) × Int)) :=
 if decide (0<O.2) then
  idx O.1 O.2>>=λa1 =>
  idx O.1 (w64 (O.2 - 1))>>=λa2 =>
  if Dp a1.Key a2.Key then
   idx O.1 (w64 (O.2 - 1))>>=λU =>
   idx O.1 O.2>>=λa6 =>
   idx O.1 O.2>>=λa8 =>
   idx (O.1.set (O.2:Int).toNat U) (w64 (O.2 - 1))>>=λaa =>
   some (w64 (O.2 - 1))>>=λa7 =>
   some (.inr ((O.1.set (O.2:Int).toNat U).set (w64 (O.2 - 1):Int).toNat a6,a7))
  else
   some (.inl O.1)
 else
  some (.inl O.1)
def N1 (a0:List AP) (U:AP):Option ((List AP)) :=
 app 96 ([]:List AP) a0>>=λx2 =>
 app 96 x2 [U]>>=λO =>
 (some (w64 ((O.length:Int) - 1))>>=λy8 =>
 iter (N0) (O,y8))>>=λs7 =>
 some s7
theorem zmt (a0:List AP) (a1:AP):Ah Tryz.prog 168 [.rd (A8 B7) a0,.rd B7 a1] [] (N1 a0 a1) (λr O=>⟨[.val (O 0)],[(100,some (O 0,.list B7 75 r))]⟩):=by
 refine Am 51 func168 Z Z Z λH w=>?_;refine A2<|Eb Z (bx 1 Z) λv1=>Zb Z<|A6<|EJ [(0,.rd (A8 B7) a0),(3,.val (A7 v1 0))] [(1,some (v1,.box 75 [.rd B7 a1]))] [1] (sS Z<|sS Z<|sN) (Y0 Z)<|Ca λx2 h3=>Ca λx4 h5=>gOr [] [⟨2,none,[(0,some ([1], λO=>((O 1),.list B7 75 ([]:List AP)))),(2,some ([2], λO=>((O 2),.list B7 75 x2))),(5,some ([4], λO=>((O 4),.list B7 75 x4)))]⟩,⟨1,some ([], λO=>(v1,.box 75 [.rd B7 a1])),[]⟩,⟨3,none,[(4,none)]⟩] [⟨some (7,[1], λO=>.val (O 1)),[(0,0,true)],[1],[]⟩,pd 8 (.rd (A8 B7) a0),⟨some (9,[2], λO=>.val (O 2)),[(0,1,true)],[2],[]⟩,pk 10 (.rd B7 a1) [(1,0,false)],⟨some (11,[], λO=>.rd (A8 B7) [a1]),[(2,0,true)],[3],[]⟩,⟨some (12,[4], λO=>.val (O 4)),[(0,2,true)],[4],[]⟩,⟨some (5,[4], λO=>.val (O 4)),[],[],[]⟩] mixed (oC (oEf 2 1 (λO E=>lit (R:=B7) (([]:List AP):List AP) 2 (pN) Z tu25 Cf Z Z))<|oC (oRn (λO E=>mv Z))<|oC (oEf 2 2 (λO E=>apn 2 Z Z Z .rd h3 tu25 Cf Z Z Z))<|oC (oRn (λO E=>ld 1 Z Z fH Ed Z))<|oC (oFz (A1:=λO=>[(3,some ((O 3),.list B7 75 [a1]))]) 3 3 (oEf 3 3 (λO E=>lit (R:=B7) ([a1]:List AP) 3 (pP Z Z<|pN) Z tu25 Cf Z Z)))<|oC (oEf 2 4 (λO E=>apn 2 Z Z Z .rd h5 tu25 Cf Z Z Z))<|oC (oRn (λO E=>asg Z))<|oN) λn6=>Af<|AY (λ(s7:(List AP)) aa ww=>∃ O:Nat->Value,Sta (ctx 51 H [] w) [(5,.val (O 0))] [(2,some ((O 0),.list B7 75 s7))] aa ww) ?_ (λs7=>?_)
 ·refine A2<|Zm Z<|Zq (Aq Z (.own 2 Z) Z tu25)<|Zq (I.sub Z Z)<|Za Z<|AI 6 Z λy8=>Zn<|AJ (λ(s9:(List AP) × Int) aa ww=>∃ O:Nat->Value,Sta (ctx 51 H [] w) [(5,.val (O 0)),(6,.rd A3 s9.2)] [(2,some ((O 0),.list B7 75 s9.1))] aa ww) (λaa ww h=>⟨nvl [(n6 4)],Zu h [2]⟩) (λs9=>?_);refine gEx λU=>A6<|A6<|Dh mixed (by kernel_rfl)<|Rq Z (mv Z)<|Rq Z (I.gtr Z Z)<|Rq Z (mv Z)<|XO 18 Z (λa2=>?_) (λa2=>?_)
  ·refine qKn 17 Z a2<|qRun Zx Z Z (mv Z)<|qRun Zx Z Z (mv Z)<|C3 λaj a6=>qRun Zx Z Z (ixO 2 Z Z Z a6 tu25 Cf)<|qRun Zx Z Z (fa 2 Z Z OB (OJ a6) underlying75 Z (by exact ti9))<|qRun Zx Z Z (ld 2 Z Z ((Foc.el a6).part (E7 _)) ty9 Z)<|qRun Zx Z Z (mv Z)<|qRun Zx Z Z (mv Z)<|qRun Zx Z Z (I.sub Z Z)<|C3 λak a7=>qRun Zx Z Z (ixO 2 Z Z Z a7 tu25 Cf)<|qRun Zx Z Z (fa 2 Z Z OB (OJ a7) underlying75 Z (by exact ti9))<|qRun Zx Z Z (ld 2 Z Z ((Foc.el a7).part (E7 _)) ty9 Z)<|qRun Zx Z Z (ltS Z Z)<|Rq Z (pkT Z Z)<|Dd<|Af<|gIf Z Z (λa8=>?_) (λa8=>?_)
   ·refine gKn 30 Z a8<|Zt<|A6<|AB<|EJ [(5,.val (U 0)),(6,.rd A3 s9.2)] [(2,some ((U 0),.list B7 75 s9.1))] [2] (sS Z<|sS Z<|sN) (Y0 Z)<|Ca λab ac=>Ca λad ae=>Ca λam af=>Ca λao ah=>gOr [] [⟨2,some ([], λO=>((U 0),.list B7 75 s9.1)),[(15,some ([], λO=>((U 0),.list B7 75 (s9.1.set (s9.2:Int).toNat ab)))),(17,some ([], λO=>((U 0),.list B7 75 ((s9.1.set (s9.2:Int).toNat ab).set (w64 (s9.2 - 1):Int).toNat ad))))]⟩] [pd 34 (.val (U 0)),pd 35 (.rd A3 s9.2),pd 36 (.val (U 0)),pd 37 (.rd A3 s9.2),pd 38 (.rd A3 (w64 (s9.2 - 1))),pd 39 (.val (U 0)),pd 40 (.rd A3 s9.2),pd 41 (.rd A3 (w64 (s9.2 - 1))),pk 42 (.val (A7 (U 0) ((w64 (s9.2 - 1):Int).toNat * 38))) [(0,0,false)],pk 43 (.rd B7 ab) [(0,0,false)],pd 44 (.val (U 0)),pd 45 (.rd A3 s9.2),pk 46 (.val (A7 (U 0) ((s9.2:Int).toNat * 38))) [(0,0,false)],pk 47 (.rd B7 ad) [(0,0,false)],pk 48 (.val (A7 (U 0) ((s9.2:Int).toNat * 38))) [(0,0,false)],⟨none,[(0,0,true)],[],[]⟩,pk 49 (.val (A7 (U 0) ((w64 (s9.2 - 1):Int).toNat * 38))) [(0,1,false)],⟨none,[(0,1,true)],[],[]⟩] mixed (oC (oRn (λO E=>mv Z))<|oC (oRn (λO E=>mv Z))<|oC (oRn (λO E=>mv Z))<|oC (oRn (λO E=>mv Z))<|oC (oRn (λO E=>I.sub Z Z))<|oC (oRn (λO E=>mv Z))<|oC (oRn (λO E=>mv Z))<|oC (oRn (λO E=>I.sub Z Z))<|oC (oRn (λO E=>ixO 2 Z Z Z ac tu25 Cf))<|oC (oRn (λO E=>ld 2 Z Z (Foc.el ac) Ed Z))<|oC (oRn (λO E=>mv Z))<|oC (oRn (λO E=>mv Z))<|oC (oRn (λO E=>ixO 2 Z Z Z ae tu25 Cf))<|oC (oRn (λO E=>ld 2 Z Z (Foc.el ae) Ed Z))<|oC (oRn (λO E=>ixO 2 Z Z Z af tu25 Cf))<|oC (oEs 2 (λO E=>sto 2 Z Z (Foc.el af) Z Cf))<|oC (oRn (λO E=>ixO 2 Z Z Z ah tu25 Cf))<|oC (oEs 2 (λO E=>sto 2 Z Z (Foc.el ah) Z Cf))<|oN) λap=>Ap<|Af<|Ai<|Zm Z<|Zq (I.sub Z Z)<|Za Z<|AI 6 Z λaq=>Ae<|Au (λaa ww h=>⟨nvl [(U 0)],Zu h [2]⟩)
   ·refine gKn 30 Z a8<|AC<|AD<|AG<|Av (λaa ww h=>⟨nvl [(U 0)],Zu h [2]⟩)
  ·refine qKn 17 Z a2<|EW Zx Z Z<|EW Zx Z Z<|EW Zx Z Z<|EW Zx Z Z<|EW Zx Z Z<|EW Zx Z Z<|EW Zx Z Z<|EW Zx Z Z<|EW Zx Z Z<|EW Zx Z Z<|EW Zx Z Z<|EW Zx Z Z<|Rq Z (pkF Z Z)<|Dd<|Af<|DX Z<|AC<|AD<|AG<|Av (λaa ww h=>⟨nvl [(U 0)],Zu h [2]⟩)
 ·refine gEx λai=>A2<|Zm Z<|Zb Z<|A5<|Ze [(ai 0)] [2] Z
def Km (a0:Ao) (U:Ab) (a1:V3) (O:Bool × Int):Option (Sum Bool (Bool × Int)) :=
 if decide (O.2<(a0.Ops.length:Int)) then
  (idx a0.Ops O.2>>=λa2 =>
  if a2.Act.Kind==4 then
   idx a0.Ops O.2>>=λa6 =>
   if a6.Act.Key==((⟨U.Act.Key,U.Act.Value,U.Stamp,a1⟩:AP).Key) then
    idx a0.Ops O.2>>=λa7 =>
    idx a0.IDs O.2>>=λa8 =>
    MZ a7.Stamp a8 (⟨U.Act.Key,U.Act.Value,U.Stamp,a1⟩:AP)>>=λaa =>
    some aa
   else
    some false
  else
   some false)>>=λab =>
  if ab then
   some (w64 (O.2+1))>>=λac =>
   some (.inr (false,ac))
  else
   some (w64 (O.2+1))>>=λad =>
   some (.inr (O.1,ad))
 else
  some (.inl O.1)
def N2 (a0:Ao) (O:(List AP) × Int):Option (Sum ((List AP)) ((List AP) × Int)) :=
 if decide (O.2<(a0.Ops.length:Int)) then
  idx a0.Ops O.2>>=λU =>
  if U.Act.Kind != 4 then
   some (w64 (O.2+1))>>=λa2 =>
   some (.inr (O.1,a2))
  else
   idx a0.IDs O.2>>=λa1 =>
   (iter (Km a0 U a1) (true,0))>>=λa6 =>
   if a6 then
    N1 O.1 (⟨U.Act.Key,U.Act.Value,U.Stamp,a1⟩:AP)>>=λa7 =>
    some (w64 (O.2+1))>>=λa8 =>
    some (.inr (a7,a8))
   else
    some (w64 (O.2+1))>>=λaa =>
    some (.inr (O.1,aa))
 else
  some (.inl O.1)
def N3 (a0:Ao):Option (Bd × Int) :=
 Ee a0>>=λO =>
 if O != 0 then
  Ee a0>>=λU =>
  some ((⟨[]⟩:Bd),U)
 else
  (iter (N2 a0) ([],0))>>=λs9 =>
  some ((⟨s9⟩:Bd),0)
theorem zpe (a0:Ao):Ah Tryz.prog 113 [.rd AF a0] [] (N3 a0) (λr nv=>⟨[.rd BB r.1,.rd A3 r.2],[]⟩):=by
 refine Am 95 func113 Z Z Z λH w=>?_;refine A2<|Eb Z (bx 1 Z) λv1=>Eb Z (AN 2 D8 (ZrE.nilS ZrE.nil)) λv2=>Zb Z<|A6<|A2<|Zq (ld 1 Z Z fH BX Z)<|Zc [] [] func29 Z (FR _) λr3 n4=>Zq (I.neq Z Z)<|Zj Z (λh5=>?_) (λh5=>?_)
 ·refine A2<|Zq (bldE [(0,1)] underlying27 D8 (ZrE.nilS ZrE.nil) Z (D3.done Z))<|Zq (ld 1 Z Z fH BX Z)<|Zc [] [] func29 Z (FR _) λr6 n7=>Es (stoG 2 Z Z (AH.cast (AH.cons BG AH.nil) Z) Z (BO.cons Cx BO.nil) (AH.cast (AH.cons BG AH.nil) Z) D8)<|Zb Z<|A5<|An<|ePnl B7 [.rd (A8 B7) []] 2 [] [] Z Z Z<|eJoi (R:=BB) (⟨[]⟩:Bd) 2 Z (Sp.via (Sp.prod Sp.unit))<|BF [] [] Z (eC 2 Z Z ty27<|eE Z<|eN) (rN)
 ·refine Zt<|A2<|Eb Z (AN 3 D8 (ZrE.nilS ZrE.nil)) λv8=>Zn<|AY (λ(s9:(List AP)) O U=>∃ nv:Nat->Value,Sta (ctx 95 H [] w) [(2,.val (A7 v2 0)),(4,.val (A7 v8 0))] [(2,some (v2,.box 27 [.val (.slice none 0 0)])),(164,some ((nv 0),.list B7 75 s9)),(3,some (v8,.box 27 [.val (nv 0)]))] O U) ?_ (λs9=>?_)
  ·refine A2<|Zb Z<|Dk B7 75 326<|AJ (λ(a2:(List AP) × Int) O U=>∃ nv:Nat->Value,Sta (ctx 95 H [] w) [(1,.val (A7 v1 0)),(2,.val (A7 v2 0)),(4,.val (A7 v8 0)),(5,.rd A3 a2.2)] [(1,some (v1,.box 33 [.rd AF a0])),(2,some (v2,.box 27 [.val (.slice none 0 0)])),(325,some ((nv 0),.list B7 75 a2.1)),(3,some (v8,.box 27 [.val (nv 0)]))] O U) (λO U h=>⟨nvl [(.slice none 0 0)],Zu h [1,2,326,3]⟩) (λa2=>?_)
   refine gEx λa6=>A6<|A2<|Zm Z<|Zq (faB 1 Z Z underlying33 Z (by exact BP))<|Zq (ld 1 Z Z (fP (BQ _)) BR Z)<|Zq (Aq Z .rd Z tu31)<|Zq (I.lss Z Z)<|Zj Z (λai=>?_) (λai=>?_)
   ·refine Zt<|A6<|AB<|A2<|Zq (faB 1 Z Z underlying33 Z (by exact BP))<|Zq (ld 1 Z Z (fP (BQ _)) BR Z)<|Zm Z<|Al λa1 aj=>Zq (ixR Z Z aj tu31 Ba Z)<|Zq (ldR Z C4)<|Eb Z (AN 327 Ba (ZrE.rd (R:=A9) (x:=0) (Zr.num Z) (ZrE.nilS (ZrE.rd (R:=Ar) (x:=0) (Zr.num Z) (ZrE.rd (R:=Bw) (x:=(⟨0,[],(⟨0,0,0,[]⟩:Ay)⟩:AX)) DB (ZrE.rd (R:=BJ) (x:=(⟨0,0⟩:AQ)) E9 ZrE.nil Z) Z) Z)) Z)) λax=>Cy aZ [.rd A9 0,.rd (A8 aZ) [],.rd Ar 0,.rd Bw (⟨0,[],(⟨0,0,0,[]⟩:Ay)⟩:AX),.rd BJ (⟨0,0⟩:AQ)] 327 [.rd A9 0] [.rd Ar 0,.rd Bw (⟨0,[],(⟨0,0,0,[]⟩:Ay)⟩:AX),.rd BJ (⟨0,0⟩:AQ)] Z Z Z<|Cm (R:=AA) (⟨0,[],0,(⟨0,[],(⟨0,0,0,[]⟩:Ay)⟩:AX),(⟨0,0⟩:AQ)⟩:Ab) 327 Z (Sp.via (Sp.prod (Sp.prod (Sp.prod (Sp.prod (Sp.prod Sp.unit))))))<|Es (sto 327 Z Z fH Z Ba)<|Zn<|A6<|A2<|Zq (faB 327 Z Z underlying60 Z (by exact Cj))<|Zq (faB 327 Z Z underlying56 Z (by exact ti5))<|Zq (ld 327 Z Z ((fP (Ct _)).part (DS _)) ty5 Z)<|Zq (B.neq Z Z)<|Zj Z (λak=>?_) (λak=>?_)
    ·refine AC<|AD<|Lg<|Af<|Ai<|Zm Z<|Zq (I.add Z Z)<|Za Z<|AI 5 Z λay=>Ae<|Au (λO U h=>⟨nvl [(a6 0)],Zu h [1,2,325,3]⟩)
    ·refine Zt<|A6<|Bq [370] mixed Z Z<|A4 0 Z Z (faB 327 Z Z underlying60 Z (by exact Cj))<|A4 1 Z Z (faB 327 Z Z underlying56 Z (by exact ti9))<|A4 2 Z Z (ld 327 Z Z ((fP (Ct _)).part (DT _)) ty9 Z)<|A4 3 Z Z (faB 327 Z Z underlying60 Z (by exact Cj))<|A4 4 Z Z (faB 327 Z Z underlying56 Z (by exact Cp))<|A4 5 Z Z (ld 327 Z Z ((fP (Ct _)).part (FM _)) Dv Z)<|A4 6 Z Z (faB 327 Z Z underlying60 Z (by exact CV))<|A4 7 Z Z (ld 327 Z Z (fP (Fc _)) CR Z)<|A4 8 Z Z (faB 1 Z Z underlying33 Z (by exact AU))<|A4 9 Z Z (ld 1 Z Z (fP (C7 _)) B0 Z)<|A4 10 Z Z (mv Z)<|AZ λac am=>A4 11 Z Z (ixR Z Z am tu28 Ak Z)<|A4 12 Z Z (ldR Z Aw)<|A4 13 Z Z (bld (x':=(⟨a1.Act.Key,a1.Act.Value,a1.Stamp,ac⟩:AP)) [(0,1),(1,4),(5,1),(6,32)] underlying75 Cf Z Gn Z (Bld.cons (E7 _) Z Z<|Bld.cons (GY _) Z Z<|Bld.cons (Fr _) Z Z<|Bld.cons (GZ _) Z Z<|Bld.done Z))<|hDoB 14 Z (by kernel_rfl) (gd0 Z) Z Z Z (AN 370 Cf (.zr (R:=B7) (x:=(⟨[],(⟨0,0,0,[]⟩:Ay),0,(Vector.replicate 32 0)⟩:AP)) Gn)) λa7=>Zp 15 Z Z Z Z Z (sto 370 Z Z fH Z Cf)<|AV (by kernel_rfl)<|Af<|A2<|Zb Z<|AY (λ(af:Bool) O U=>Sta (ctx 95 H [] w) [(1,.val (A7 v1 0)),(2,.val (A7 v2 0)),(4,.val (A7 v8 0)),(5,.rd A3 a2.2),(7,.val (A7 a7 0)),(8,.rd Ac af)] [(1,some (v1,.box 33 [.rd AF a0])),(2,some (v2,.box 27 [.val (.slice none 0 0)])),(325,some ((a6 0),.list B7 75 a2.1)),(3,some (v8,.box 27 [.val (a6 0)])),(370,some (a7,.box 75 [.rd B7 (⟨a1.Act.Key,a1.Act.Value,a1.Stamp,ac⟩:AP)]))] O U) ?_ (λaf=>?_)
     ·refine A2<|Zb Z<|AJ (λ(a8:Bool × Int) O U=>Sta (ctx 95 H [] w) [(1,.val (A7 v1 0)),(2,.val (A7 v2 0)),(4,.val (A7 v8 0)),(5,.rd A3 a2.2),(7,.val (A7 a7 0)),(8,.rd Ac a8.1),(9,.rd A3 a8.2)] [(1,some (v1,.box 33 [.rd AF a0])),(2,some (v2,.box 27 [.val (.slice none 0 0)])),(325,some ((a6 0),.list B7 75 a2.1)),(3,some (v8,.box 27 [.val (a6 0)])),(370,some (a7,.box 75 [.rd B7 (⟨a1.Act.Key,a1.Act.Value,a1.Stamp,ac⟩:AP)]))] O U) (λO U h=>Zu h [1,2,325,3,370]) (λa8=>?_)
      refine A6<|A2<|Zm Z<|Zq (faB 1 Z Z underlying33 Z (by exact BP))<|Zq (ld 1 Z Z (fP (BQ _)) BR Z)<|Zq (Aq Z .rd Z tu31)<|Zq (I.lss Z Z)<|Zj Z (λao=>?_) (λao=>?_)
      ·refine Zt<|A6<|AB<|AY (λ(ah:Bool) O U=>Sta (ctx 95 H [] w) [(1,.val (A7 v1 0)),(2,.val (A7 v2 0)),(4,.val (A7 v8 0)),(5,.rd A3 a2.2),(7,.val (A7 a7 0)),(8,.rd Ac a8.1),(9,.rd A3 a8.2),(87,.rd Ac ah)] [(1,some (v1,.box 33 [.rd AF a0])),(2,some (v2,.box 27 [.val (.slice none 0 0)])),(325,some ((a6 0),.list B7 75 a2.1)),(3,some (v8,.box 27 [.val (a6 0)])),(370,some (a7,.box 75 [.rd B7 (⟨a1.Act.Key,a1.Act.Value,a1.Stamp,ac⟩:AP)]))] O U) ?_ (λah=>?_)
       ·refine Bq [] mixed Z Z<|A4 0 Z Z (faB 1 Z Z underlying33 Z (by exact BP))<|A4 1 Z Z (ld 1 Z Z (fP (BQ _)) BR Z)<|A4 2 Z Z (mv Z)<|AZ λaz ap=>A4 3 Z Z (ixR Z Z ap tu31 Ba Z)<|A4 4 Z Z (faR Z (Ct _) underlying60 Z Z (by exact Cj))<|A4 5 Z Z (faR Z (DS _) underlying56 Z Z (by exact ti5))<|A4 6 Z Z (ldR Z ty5)<|A4 7 Z Z (B.eql Z Z)<|A4 8 Z Z (mv Z)<|hIf 61 Z Z (λad=>?_) (λad=>?_)
        ·refine hKn 60 Z Z ad<|Zg 9 Z Z (faB 1 Z Z underlying33 Z (by exact BP))<|Zg 10 Z Z (ld 1 Z Z (fP (BQ _)) BR Z)<|Zg 11 Z Z (mv Z)<|AZ λb0 aq=>Zg 12 Z Z (ixR Z Z aq tu31 Ba Z)<|Zg 13 Z Z (faR Z (Ct _) underlying60 Z Z (by exact Cj))<|Zg 14 Z Z (faR Z (DT _) underlying56 Z Z (by exact ti9))<|Zg 15 Z Z (ldR Z ty9)<|Zg 16 Z Z (faB 370 Z Z underlying75 Z (by exact ti9))<|Zg 17 Z Z (ld 370 Z Z (fP (E7 _)) ty9 Z)<|Zg 18 Z Z (eqS Z Z)<|A4 19 Z Z (pkT Z Z)<|A4 20 Z Z (mv Z)<|hIf 73 Z Z (λab=>?_) (λab=>?_)
         ·refine hKn 71 Z Z ab<|hKn 72 Z Z ab<|Zg 21 Z Z (faB 1 Z Z underlying33 Z (by exact BP))<|Zg 22 Z Z (ld 1 Z Z (fP (BQ _)) BR Z)<|Zg 23 Z Z (mv Z)<|AZ λb1 ar=>Zg 24 Z Z (ixR Z Z ar tu31 Ba Z)<|Zg 25 Z Z (faR Z (Fc _) underlying60 Z Z (by exact CV))<|Zg 26 Z Z (ldR Z CR)<|Zg 27 Z Z (faB 1 Z Z underlying33 Z (by exact AU))<|Zg 28 Z Z (ld 1 Z Z (fP (C7 _)) B0 Z)<|Zg 29 Z Z (mv Z)<|AZ λb2 au=>Zg 30 Z Z (ixR Z Z au tu28 Ak Z)<|Zg 31 Z Z (ldR Z Aw)<|Zg 32 Z Z (ld 370 Z Z fH Ed Z)<|Be 33 [] [] Z (by kernel_rfl) Z Zx Z func167 Z Z (zly _ _ _) (aQ Z<|aQ Z<|aQ Z<|aN) rN Z (λ_ _=>DY) λb3 b4=>A4 34 Z Z (pkT Z Z)<|AV (by kernel_rfl)<|Av (λO U h=>Zu h [1,2,325,3,370])
         ·refine hKn 71 Z Z ab<|hKn 72 Z Z ab<|hSk 21 Z Z<|hSk 22 Z Z<|hSk 23 Z Z<|hSk 24 Z Z<|hSk 25 Z Z<|hSk 26 Z Z<|hSk 27 Z Z<|hSk 28 Z Z<|hSk 29 Z Z<|hSk 30 Z Z<|hSk 31 Z Z<|hSk 32 Z Z<|hSk 33 Z Z<|A4 34 Z Z (pkF Z Z)<|AV (by kernel_rfl)<|Av (λO U h=>Zu h [1,2,325,3,370])
        ·refine hKn 60 Z Z ad<|hSk 9 Z Z<|hSk 10 Z Z<|hSk 11 Z Z<|hSk 12 Z Z<|hSk 13 Z Z<|hSk 14 Z Z<|hSk 15 Z Z<|hSk 16 Z Z<|hSk 17 Z Z<|hSk 18 Z Z<|A4 19 Z Z (pkF Z Z)<|A4 20 Z Z (mv Z)<|hSk 21 Z Z<|hSk 22 Z Z<|hSk 23 Z Z<|hSk 24 Z Z<|hSk 25 Z Z<|hSk 26 Z Z<|hSk 27 Z Z<|hSk 28 Z Z<|hSk 29 Z Z<|hSk 30 Z Z<|hSk 31 Z Z<|hSk 32 Z Z<|hSk 33 Z Z<|A4 34 Z Z (pkF Z Z)<|AV (by kernel_rfl)<|Av (λO U h=>Zu h [1,2,325,3,370])
       ·refine gIf Z Z (λav=>?_) (λav=>?_)
        ·refine Ai<|Za Z<|Ae<|Ap<|Af<|Ai<|Zm Z<|Zq (I.add Z Z)<|Za Z<|AI 9 Z λb5=>Ae<|Au (λO U h=>Zu h [1,2,325,3,370])
        ·refine AW<|Ap<|Af<|Ai<|Zm Z<|Zq (I.add Z Z)<|Za Z<|AI 9 Z λb6=>Ae<|Au (λO U h=>Zu h [1,2,325,3,370])
      ·refine AC<|AD<|AG<|Av (λO U h=>Zu h [1,2,325,3,370])
     ·refine A2<|Zm Z<|Zj Z (λae=>?_) (λae=>?_)
      ·refine gKn 8 Z ae<|Ai<|Zq (faB 3 Z Z underlying27 Z (by exact Dm))<|Zq (ldV 3 Z Z (At.cast At.here Z) sc25 Z)<|Zq (ld 370 Z Z fH Ed Z)<|BW 325 [90] Z (fS Z<|fN)<|Zc [] [(100,487)] func168 Z (zmt _ _) λb7 aw=>Zq (faB 3 Z Z underlying27 Z (by exact Dm))<|Es (DI 3 Z Z (By.cast (By.here BG) Z) Z Cx BG Dm)<|Ae<|Ap<|Af<|Ai<|Zm Z<|Zq (I.add Z Z)<|Za Z<|AI 5 Z λb8=>Ae<|Au (λO U h=>⟨nvl [(aw 0)],Zu h [1,2,487,3]⟩)
      ·refine gKn 8 Z ae<|AW<|Ap<|Af<|Ai<|Zm Z<|Zq (I.add Z Z)<|Za Z<|AI 5 Z λb9=>Ae<|Au (λO U h=>⟨nvl [(a6 0)],Zu h [1,2,325,3]⟩)
   ·refine AC<|AD<|AG<|Av (λO U h=>⟨nvl [(a6 0)],Zu h [2,325,3]⟩)
  ·refine gEx λba=>A2<|lPow [.rd (A8 B7) s9] 3 164 [] [] Z Z Z Z Z<|Cm (R:=BB) (⟨s9⟩:Bd) 3 Z (Sp.via (Sp.prod Sp.unit))<|Zq (ld 3 Z Z fH ty27 Z)<|Cy B7 [.rd (A8 B7) []] 2 [] [] Z Z Z<|Cm (R:=BB) (⟨[]⟩:Bd) 2 Z (Sp.via (Sp.prod Sp.unit))<|Es (sto 2 Z Z fH Z D8)<|Zb Z<|A5<|BF [] [] Z (eC 2 Z Z ty27<|eE Z<|eN) (rN)
def Kn (a0:Ao) (s3:(List V3) × Int) (O:Bool × Int):Option (Sum Bool (Bool × Int)) :=
 if decide (O.2<(a0.Ops.length:Int)) then
  if O.1 then
   idx a0.Ops O.2>>=λU =>
   idx a0.IDs s3.2>>=λa1 =>
   Ht U.Preds a1>>=λa2 =>
   some (w64 (O.2+1))>>=λa6 =>
   some (.inr (!a2,a6))
  else
   some (w64 (O.2+1))>>=λa7 =>
   some (.inr (false,a7))
 else
  some (.inl O.1)
def N4 (a0:Ao) (O:(List V3) × Int):Option (Sum ((List V3)) ((List V3) × Int)) :=
 if decide (O.2<(a0.IDs.length:Int)) then
  (iter (Kn a0 O) (true,0))>>=λs6 =>
  if s6 then
   idx a0.IDs O.2>>=λU =>
   app 32 O.1 [U]>>=λa1 =>
   some (w64 (O.2+1))>>=λa2 =>
   some (.inr (a1,a2))
  else
   some (w64 (O.2+1))>>=λa6 =>
   some (.inr (O.1,a6))
 else
  some (.inl O.1)
def N5 (a0:Ao):Option ((List V3)) :=
 (iter (N4 a0) ([],0))>>=λO =>
 some O
theorem zl5 (a0:Ao):Ah Tryz.prog 114 [.rd AF a0] [] (N5 a0) (λr nv=>⟨[.val (nv 0)],[(100,some (nv 0,.list aZ 71 r))]⟩):=by
 refine Am 47 func114 Z Z Z λH w=>?_;refine A2<|Eb Z (bx 1 Z) λv1=>Zb Z<|A2<|Zb Z<|AY (λ(s2:(List V3)) O U=>∃ nv:Nat->Value,Sta (ctx 47 H [] w) [(3,.val (nv 0))] [(57,some ((nv 0),.list aZ 71 s2))] O U) ?_ (λs2=>?_)
 ·refine A2<|Zb Z<|Dk aZ 71 114<|AJ (λ(s3:(List V3) × Int) O U=>∃ nv:Nat->Value,Sta (ctx 47 H [] w) [(1,.val (A7 v1 0)),(3,.val (nv 0)),(4,.rd A3 s3.2)] [(1,some (v1,.box 33 [.rd AF a0])),(113,some ((nv 0),.list aZ 71 s3.1))] O U) (λO U h=>⟨nvl [(.slice none 0 0)],Zu h [1,114]⟩) (λs3=>?_);refine gEx λn4=>A6<|A2<|Zm Z<|Zq (faB 1 Z Z underlying33 Z (by exact AU))<|Zq (ld 1 Z Z (fP (C7 _)) B0 Z)<|Zq (Aq Z .rd Z tu28)<|Zq (I.lss Z Z)<|Zj Z (λh5=>?_) (λh5=>?_)
  ·refine Zt<|A6<|AB<|A2<|Zb Z<|AY (λ(s6:Bool) O U=>Sta (ctx 47 H [] w) [(1,.val (A7 v1 0)),(3,.val (n4 0)),(4,.rd A3 s3.2),(5,.rd Ac s6)] [(1,some (v1,.box 33 [.rd AF a0])),(113,some ((n4 0),.list aZ 71 s3.1))] O U) ?_ (λs6=>?_)
   ·refine A2<|Zb Z<|AJ (λ(s7:Bool × Int) O U=>Sta (ctx 47 H [] w) [(1,.val (A7 v1 0)),(3,.val (n4 0)),(4,.rd A3 s3.2),(5,.rd Ac s7.1),(6,.rd A3 s7.2)] [(1,some (v1,.box 33 [.rd AF a0])),(113,some ((n4 0),.list aZ 71 s3.1))] O U) (λO U h=>Zu h [1,113]) (λs7=>?_);refine A6<|A2<|Zm Z<|Zq (faB 1 Z Z underlying33 Z (by exact BP))<|Zq (ld 1 Z Z (fP (BQ _)) BR Z)<|Zq (Aq Z .rd Z tu31)<|Zq (I.lss Z Z)<|Zj Z (λh8=>?_) (λh8=>?_)
    ·refine Zt<|A6<|AB<|Bq [] mixed Z Z<|A4 0 Z Z (mv Z)<|A4 1 Z Z (mv Z)<|hIf 22 Z Z (λh9=>?_) (λh9=>?_)
     ·refine hKn 5 Z Z h9<|hKn 21 Z Z h9<|Zg 2 Z Z (faB 1 Z Z underlying33 Z (by exact BP))<|Zg 3 Z Z (ld 1 Z Z (fP (BQ _)) BR Z)<|Zg 4 Z Z (mv Z)<|AZ λae a2=>Zg 5 Z Z (ixR Z Z a2 tu31 Ba Z)<|Zg 6 Z Z (faR Z (Co _) underlying60 Z Z (by exact AU))<|Zg 7 Z Z (ldR Z B0)<|Zg 8 Z Z (faB 1 Z Z underlying33 Z (by exact AU))<|Zg 9 Z Z (ld 1 Z Z (fP (C7 _)) B0 Z)<|Zg 10 Z Z (mv Z)<|AZ λaf a6=>Zg 11 Z Z (ixR Z Z a6 tu28 Ak Z)<|Zg 12 Z Z (ldR Z Aw)<|Be 13 [] [] Z (by kernel_rfl) Z Zx Z func165 Z Z (Ub _ _) (Y2 Z Z) rN Z (λ_ _=>DY) λah ai=>Zg 14 Z Z (Cd Z)<|A4 15 Z Z (pkT Z Z)<|A4 16 Z Z (asg Z)<|AV (by kernel_rfl)<|Ap<|Af<|Ai<|Zm Z<|Zq (I.add Z Z)<|Za Z<|AI 6 Z λaj=>Ae<|Au (λO U h=>Zu h [1,113])
     ·refine hKn 5 Z Z h9<|hKn 21 Z Z h9<|hSk 2 Z Z<|hSk 3 Z Z<|hSk 4 Z Z<|hSk 5 Z Z<|hSk 6 Z Z<|hSk 7 Z Z<|hSk 8 Z Z<|hSk 9 Z Z<|hSk 10 Z Z<|hSk 11 Z Z<|hSk 12 Z Z<|hSk 13 Z Z<|hSk 14 Z Z<|A4 15 Z Z (pkF Z Z)<|A4 16 Z Z (asg Z)<|AV (by kernel_rfl)<|Ap<|Af<|Ai<|Zm Z<|Zq (I.add Z Z)<|Za Z<|AI 6 Z λak=>Ae<|Au (λO U h=>Zu h [1,113])
    ·refine AC<|AD<|AG<|Av (λO U h=>Zu h [1,113])
   ·refine A2<|Zm Z<|Zj Z (λa1=>?_) (λa1=>?_)
    ·refine gKn 5 Z a1<|Ai<|Zm Z<|Zq (faB 1 Z Z underlying33 Z (by exact AU))<|Zq (ld 1 Z Z (fP (C7 _)) B0 Z)<|Zm Z<|Al λa7 a8=>Zq (ixR Z Z a8 tu28 Ak Z)<|Zq (ldR Z Aw)<|Ef Z (lit (R:=aZ) ([a7]:List V3) 169 (pP Z Z<|pN) Z tu28 Ak Z Z) λam=>BW 169 [44] Z (fS Z<|fN)<|Al λao ab=>Ef Z (apn 113 Z Z Z .rd ab tu28 Ak Z Z Z) λac=>Za Z<|Ae<|Ap<|Af<|Ai<|Zm Z<|Zq (I.add Z Z)<|Za Z<|AI 4 Z λap=>Ae<|Au (λO U h=>⟨nvl [ac],Zu h [1,113]⟩)
    ·refine gKn 5 Z a1<|AW<|Ap<|Af<|Ai<|Zm Z<|Zq (I.add Z Z)<|Za Z<|AI 4 Z λaq=>Ae<|Au (λO U h=>⟨nvl [(n4 0)],Zu h [1,113]⟩)
  ·refine AC<|AD<|AG<|Av (λO U h=>⟨nvl [(n4 0)],Zu h [113]⟩)
 ·refine gEx λad=>A2<|Zm Z<|Zb Z<|A5<|Ze [(ad 0)] [57] Z
def N6 (a0:Ao):Option (Bt × Int) :=
 Ee a0>>=λr3 =>
 if r3 != 0 then
  Ee a0>>=λr6 =>
  some ((⟨0,(⟨[]⟩:Bb),(⟨[]⟩:Bd),[]⟩:Bt),r6)
 else
  MY a0>>=λr8 =>
  N3 a0>>=λO =>
  N5 a0>>=λU =>
  some ((⟨(a0.Ops.length:Int),r8.1,O.1,U⟩:Bt),0)
theorem zpa (a0:Ao):Ah Tryz.prog 64 [.rd AF a0] [] (N6 a0) (λr nv=>⟨[.rd Ch r.1,.rd A3 r.2],[]⟩):=by
 refine Am 32 func64 Z Z Z λH w=>?_;refine A2<|Eb Z (bx 1 Z) λv1=>Eb Z (AN 2 CE (ZrE.rd (R:=A3) (x:=0) (Zr.num Z) (ZrE.rd (R:=Bz) (x:=(⟨[]⟩:Bb)) Et (ZrE.rd (R:=BB) (x:=(⟨[]⟩:Bd)) Eu (ZrE.nilS ZrE.nil) Z) Z) Z)) λv2=>Zb Z<|A6<|A2<|Zq (ld 1 Z Z fH BX Z)<|Zc [] [] func29 Z (FR _) λr3 n4=>Zq (I.neq Z Z)<|Zj Z (λh5=>?_) (λh5=>?_)
 ·refine A2<|Zq (bldE [(0,1),(1,1),(2,1),(3,1)] underlying30 CE (ZrE.rd (R:=A3) (x:=0) (Zr.num Z) (ZrE.rd (R:=Bz) (x:=(⟨[]⟩:Bb)) Et (ZrE.rd (R:=BB) (x:=(⟨[]⟩:Bd)) Eu (ZrE.nilS ZrE.nil) Z) Z) Z) Z (D3.done Z))<|Zq (ld 1 Z Z fH BX Z)<|Zc [] [] func29 Z (FR _) λr6 n7=>Es (stoG 2 Z Z (AH.cast (AH.cons Bj (AH.cons Bj (AH.cons Bj (AH.cons BG AH.nil)))) Z) Z (BO.cons D0 (BO.cons D0 (BO.cons D0 (BO.cons Cx BO.nil)))) (AH.cast (AH.cons Bj (AH.cons Bj (AH.cons Bj (AH.cons BG AH.nil)))) Z) CE)<|Zb Z<|A5<|An<|ePnl aZ [.rd A3 0,.rd Bz (⟨[]⟩:Bb),.rd BB (⟨[]⟩:Bd),.rd (A8 aZ) []] 2 [.rd A3 0,.rd Bz (⟨[]⟩:Bb),.rd BB (⟨[]⟩:Bd)] [] Z Z Z<|eJoi (R:=Ch) (⟨0,(⟨[]⟩:Bb),(⟨[]⟩:Bd),[]⟩:Bt) 2 Z (Sp.via (Sp.prod (Sp.prod (Sp.prod (Sp.prod Sp.unit)))))<|BF [] [] Z (eC 2 Z Z DK<|eE Z<|eN) (rN)
 ·refine Zt<|A2<|Zq (ld 1 Z Z fH BX Z)<|Zc [] [] func112 Z (zp9 _) λr8 n9=>Zm Z<|Zq (ext Z Z)<|Zq (ext Z Z)<|Eb Z (AN 3 D7 (ZrE.nilS ZrE.nil)) λa1=>Cy Bi [.rd (A8 Bi) []] 3 [] [] Z Z Z<|Cm (R:=Bz) (⟨[]⟩:Bb) 3 Z (Sp.via (Sp.prod Sp.unit))<|Es (sto 3 Z Z fH Z D7)<|Zb Z<|A2<|Zq (ld 1 Z Z fH BX Z)<|Zc [] [] func113 Z (zpe _) λO a2=>Zm Z<|Zq (ext Z Z)<|Zq (ext Z Z)<|Eb Z (AN 4 D8 (ZrE.nilS ZrE.nil)) λa6=>Cy B7 [.rd (A8 B7) []] 4 [] [] Z Z Z<|Cm (R:=BB) (⟨[]⟩:Bd) 4 Z (Sp.via (Sp.prod Sp.unit))<|Es (sto 4 Z Z fH Z D8)<|Zb Z<|A6<|Bq [2,23] mixed Z Z<|A4 0 Z Z (faB 1 Z Z underlying33 Z (by exact BP))<|A4 1 Z Z (ld 1 Z Z (fP (BQ _)) BR Z)<|A4 2 Z Z (Aq Z .rd Z tu31)<|A4 3 Z Z (ld 3 Z Z fH ty24 Z)<|A4 4 Z Z (ld 4 Z Z fH ty27 Z)<|A4 5 Z Z (ld 1 Z Z fH BX Z)<|Be 6 [] [(100,23)] Z (by kernel_rfl) Z (gd0 Z) Z func114 Z Z (zl5 _) (Y1 Z) rN Z (λ_ _=>C1) λU a7=>DJ 23 [30] Z (fS Z<|fN)<|Si 7 Z (by kernel_rfl) (by kernel_rfl) (by kernel_rfl) (gd0 Z) Z Z (bld (x':=(⟨(a0.Ops.length:Int),r8.1,O.1,U⟩:Bt)) [(0,1),(1,1),(2,1),(3,1)] underlying30 CE Z Ye Z (Bld.cons (F8 _) Z Z<|Bld.cons (Fs _) Z Z<|Bld.cons (Ft _) Z Z<|Bld.cons (F9 _) Z Z<|Bld.done Z))<|hPnl aZ [.rd A3 0,.rd Bz (⟨[]⟩:Bb),.rd BB (⟨[]⟩:Bd),.rd (A8 aZ) []] 2 [.rd A3 0,.rd Bz (⟨[]⟩:Bb),.rd BB (⟨[]⟩:Bd)] [] Z Z Z<|hJoi (R:=Ch) (⟨0,(⟨[]⟩:Bb),(⟨[]⟩:Bd),[]⟩:Bt) 2 Z (Sp.via (Sp.prod (Sp.prod (Sp.prod (Sp.prod Sp.unit)))))<|Zp 8 Z Z Z Z Z (sto 2 Z Z fH Z CE)<|A4 9 Z Z (asg Z)<|AV (by kernel_rfl)<|Af<|A5<|BF [] [] Z (eC 2 Z Z DK<|eE Z<|eN) (rN)
def Ko (a0:Bb) (O:Int):Option (Sum (Sum Int Unit) Int) :=
 if decide (O<(a0.List.length:Int)) then
  (idx a0.List O>>=λx7 =>
  Hg x7.Key>>=λr9 =>
  if !r9 then
   some true
  else
   if decide (0<O) then
    idx a0.List (w64 (O - 1))>>=λU =>
    idx a0.List O>>=λa1 =>
    Kj U a1>>=λa2 =>
    some (!a2)
   else
    some false)>>=λs6 =>
  if s6 then
   some (.inl (.inl 8))
  else
   some (.inr (w64 (O+1)))
 else
  some (.inl (.inr ()))
def N7 (a0:Bb):Option (Int) :=
 if decide (60<(a0.List.length:Int)) then
  some 4
 else
  Bc (iter (Ko a0) 0) λs3 =>
  some 0
theorem zlf (a0:Bb):Ah Tryz.prog 47 [.rd Bz a0] [] (N7 a0) (λr nv=>⟨[.rd A3 r],[]⟩):=by
 refine Am 42 func47 Z Z Z λH w=>?_;refine A2<|Eb Z (bx 1 Z) λv1=>Zb Z<|A6<|A2<|Zq (faB 1 Z Z underlying24 Z (by exact Df))<|Zq (ld 1 Z Z (fP (E6 _)) Ea Z)<|Zq (Aq Z .rd Z tu22)<|Zq (I.gtr Z Z)<|Zj Z (λh2=>?_) (λh2=>?_)
 ·refine A2<|Zb Z<|A5<|An<|Ze [] [] Z
 ·refine Zt<|BM (λ(s3:Unit) O U=>Sta (ctx 42 H [] w) [] [] O U) ?_ (λs3=>?_)
  ·refine A2<|Zb Z<|AJ (λ(s4:Int) O U=>Sta (ctx 42 H [] w) [(1,.val (A7 v1 0)),(3,.rd A3 s4)] [(1,some (v1,.box 24 [.rd Bz a0]))] O U) (λO U h=>Zu h [1]) (λs4=>?_);refine A6<|A2<|Zm Z<|Zq (faB 1 Z Z underlying24 Z (by exact Df))<|Zq (ld 1 Z Z (fP (E6 _)) Ea Z)<|Zq (Aq Z .rd Z tu22)<|Zq (I.lss Z Z)<|Zj Z (λh5=>?_) (λh5=>?_)
   ·refine Zt<|A6<|AB<|AY (λ(s6:Bool) O U=>Sta (ctx 42 H [] w) [(1,.val (A7 v1 0)),(3,.rd A3 s4),(41,.rd Ac s6)] [(1,some (v1,.box 24 [.rd Bz a0]))] O U) ?_ (λs6=>?_)
    ·refine Bq [] mixed Z Z<|A4 0 Z Z (faB 1 Z Z underlying24 Z (by exact Df))<|A4 1 Z Z (ld 1 Z Z (fP (E6 _)) Ea Z)<|A4 2 Z Z (mv Z)<|AZ λx7 h8=>A4 3 Z Z (ixR Z Z h8 tu22 Cq Z)<|A4 4 Z Z (faR Z (EH _) underlying73 Z Z (by exact ti9))<|A4 5 Z Z (ldR Z ty9)<|Be 6 [] [] Z (by kernel_rfl) Z (gd0 Z) Z func87 Z Z (Mb _) (Y1 Z) rN Z (λ_ _=>DY) λr9 ab=>A4 7 Z Z (Cd Z)<|A4 8 Z Z (mv Z)<|hIf 23 Z Z (λa1=>?_) (λa1=>?_)
     ·refine hKn 22 Z Z a1<|hSk 9 Z Z<|hSk 10 Z Z<|hSk 11 Z Z<|AM 12 Z (by kernel_rfl) (by kernel_rfl) (by kernel_rfl) (gdU Z Z Z) Z Z<|AM 13 Z (by kernel_rfl) (by kernel_rfl) (by kernel_rfl) (gdU Z Z Z) Z Z<|AM 14 Z (by kernel_rfl) (by kernel_rfl) (by kernel_rfl) (gdU Z Z Z) Z Z<|AM 15 Z (by kernel_rfl) (by kernel_rfl) (by kernel_rfl) (gdU Z Z Z) Z Z<|AM 16 Z (by kernel_rfl) (by kernel_rfl) (by kernel_rfl) (gdU Z Z Z) Z Z<|AM 17 Z (by kernel_rfl) (by kernel_rfl) (by kernel_rfl) (gdU Z Z Z) Z Z<|AM 18 Z (by kernel_rfl) (by kernel_rfl) (by kernel_rfl) (gdU Z Z Z) Z Z<|AM 19 Z (by kernel_rfl) (by kernel_rfl) (by kernel_rfl) (gdU Z Z Z) Z Z<|AM 20 Z (by kernel_rfl) (by kernel_rfl) (by kernel_rfl) (gdU Z Z Z) Z Z<|AM 21 Z (by kernel_rfl) (by kernel_rfl) (by kernel_rfl) (gdU Z Z Z) Z Z<|AM 22 Z (by kernel_rfl) (by kernel_rfl) (by kernel_rfl) (gdU Z Z Z) Z Z<|AM 23 Z (by kernel_rfl) (by kernel_rfl) (by kernel_rfl) (gdU Z Z Z) Z Z<|AM 24 Z (by kernel_rfl) (by kernel_rfl) (by kernel_rfl) (gdU Z Z Z) Z Z<|hSk 25 Z Z<|A4 26 Z Z (pkT Z Z)<|AV (by kernel_rfl)<|Av (λO U h=>Zu h [1])
     ·refine hKn 22 Z Z a1<|Zg 9 Z Z (mv Z)<|Zg 10 Z Z (I.gtr Z Z)<|Zg 11 Z Z (mv Z)<|hIf 26 Z Z (λa2=>?_) (λa2=>?_)
      ·refine hKn 25 Z Z a2<|Zg 12 Z Z (faB 1 Z Z underlying24 Z (by exact Df))<|Zg 13 Z Z (ld 1 Z Z (fP (E6 _)) Ea Z)<|Zg 14 Z Z (mv Z)<|Zg 15 Z Z (I.sub Z Z)<|AZ λac a6=>Zg 16 Z Z (ixR Z Z a6 tu22 Cq Z)<|Zg 17 Z Z (ldR Z EI)<|Zg 18 Z Z (faB 1 Z Z underlying24 Z (by exact Df))<|Zg 19 Z Z (ld 1 Z Z (fP (E6 _)) Ea Z)<|Zg 20 Z Z (mv Z)<|AZ λad a7=>Zg 21 Z Z (ixR Z Z a7 tu22 Cq Z)<|Zg 22 Z Z (ldR Z EI)<|Be 23 [] [] Z (by kernel_rfl) Z Zx Z func88 Z Z (Uc _ _) (Y2 Z Z) rN Z (λ_ _=>DY) λae af=>Zg 24 Z Z (Cd Z)<|Zg 25 Z Z (pkT Z Z)<|A4 26 Z Z (pkF Z Z)<|AV (by kernel_rfl)<|Av (λO U h=>Zu h [1])
      ·refine hKn 25 Z Z a2<|hSk 12 Z Z<|hSk 13 Z Z<|hSk 14 Z Z<|hSk 15 Z Z<|hSk 16 Z Z<|hSk 17 Z Z<|hSk 18 Z Z<|hSk 19 Z Z<|hSk 20 Z Z<|hSk 21 Z Z<|hSk 22 Z Z<|hSk 23 Z Z<|hSk 24 Z Z<|Zg 25 Z Z (pkF Z Z)<|A4 26 Z Z (pkF Z Z)<|AV (by kernel_rfl)<|Av (λO U h=>Zu h [1])
    ·refine gIf Z Z (λa8=>?_) (λa8=>?_)
     ·refine A2<|Zb Z<|A5<|Bh<|An<|BE<|Bk<|Ze [] [] Z
     ·refine AW<|Ap<|Af<|Ai<|Zm Z<|Zq (I.add Z Z)<|Za Z<|Ae<|Au (λO U h=>Zu h [1])
   ·refine AC<|AD<|AG<|BA (λO U h=>Zu h [])
  ·refine A2<|Zb Z<|A5<|Ze [] [] Z
def Kp (a0:Bd) (O:Int):Option (Sum (Sum Int Unit) Int) :=
 if decide (O<(a0.List.length:Int)) then
  idx a0.List O>>=λU =>
  (Hg U.Key>>=λa1 =>
  if !a1 then
   some true
  else
   JF U.Value>>=λa2 =>
   if a2 != 0 then
    some true
   else
    if decide (1000000000000<U.Stamp) then
     some true
    else
     if decide (0<O) then
      idx a0.List (w64 (O - 1))>>=λa6 =>
      some (!Dp a6.Key U.Key)
     else
      some false)>>=λs9 =>
  if s9 then
   some (.inl (.inl 8))
  else
   some (.inr (w64 (O+1)))
 else
  some (.inl (.inr ()))
def N8 (a0:Bd):Option (Int) :=
 if decide (60<(a0.List.length:Int)) then
  some 4
 else
  Bc (iter (Kp a0) 0) λs3 =>
  some 0
end
section
theorem zl3 (a0:Bd):Ah Tryz.prog 48 [.rd BB a0] [] (N8 a0) (λr nv=>⟨[.rd A3 r],[]⟩):=by
 refine Am 52 func48 Z Z Z λH w=>?_;refine A2<|Eb Z (bx 1 Z) λv1=>Zb Z<|A6<|A2<|Zq (faB 1 Z Z underlying27 Z (by exact Dm))<|Zq (ld 1 Z Z (fP (E8 _)) Ec Z)<|Zq (Aq Z .rd Z tu25)<|Zq (I.gtr Z Z)<|Zj Z (λh2=>?_) (λh2=>?_)
 ·refine A2<|Zb Z<|A5<|An<|Ze [] [] Z
 ·refine Zt<|BM (λ(s3:Unit) O ww=>Sta (ctx 52 H [] w) [] [] O ww) ?_ (λs3=>?_)
  ·refine A2<|Zb Z<|AJ (λ(s4:Int) O ww=>Sta (ctx 52 H [] w) [(1,.val (A7 v1 0)),(3,.rd A3 s4)] [(1,some (v1,.box 27 [.rd BB a0]))] O ww) (λO ww h=>Zu h [1]) (λs4=>?_);refine A6<|A2<|Zm Z<|Zq (faB 1 Z Z underlying27 Z (by exact Dm))<|Zq (ld 1 Z Z (fP (E8 _)) Ec Z)<|Zq (Aq Z .rd Z tu25)<|Zq (I.lss Z Z)<|Zj Z (λh5=>?_) (λh5=>?_)
   ·refine Zt<|A6<|AB<|A2<|Zq (faB 1 Z Z underlying27 Z (by exact Dm))<|Zq (ld 1 Z Z (fP (E8 _)) Ec Z)<|Zm Z<|Al λx6 h7=>Zq (ixR Z Z h7 tu25 Cf Z)<|Zq (ldR Z Ed)<|Eb Z (AN 2 Cf (.zr (R:=B7) (x:=(⟨[],(⟨0,0,0,[]⟩:Ay),0,(Vector.replicate 32 0)⟩:AP)) Gn)) λv8=>Es (sto 2 Z Z fH Z Cf)<|Zn<|AY (λ(s9:Bool) O ww=>Sta (ctx 52 H [] w) [(1,.val (A7 v1 0)),(3,.rd A3 s4),(51,.rd Ac s9)] [(1,some (v1,.box 27 [.rd BB a0]))] O ww) ?_ (λs9=>?_)
    ·refine Bq [] mixed Z Z<|A4 0 Z Z (faB 2 Z Z underlying75 Z (by exact ti9))<|A4 1 Z Z (ld 2 Z Z (fP (E7 _)) ty9 Z)<|Be 2 [] [] Z (by kernel_rfl) Z (gd0 Z) Z func87 Z Z (Mb _) (Y1 Z) rN Z (λ_ _=>DY) λac ad=>A4 3 Z Z (Cd Z)<|A4 4 Z Z (mv Z)<|hIf 25 Z Z (λa6=>?_) (λa6=>?_)
     ·refine hKn 24 Z Z a6<|hSk 5 Z Z<|hSk 6 Z Z<|hSk 7 Z Z<|hSk 8 Z Z<|A4 9 Z Z (pkT Z Z)<|A4 10 Z Z (mv Z)<|hSk 11 Z Z<|hSk 12 Z Z<|hSk 13 Z Z<|A4 14 Z Z (pkT Z Z)<|A4 15 Z Z (mv Z)<|hSk 16 Z Z<|hSk 17 Z Z<|hSk 18 Z Z<|AM 19 Z (by kernel_rfl) (by kernel_rfl) (by kernel_rfl) (gdU Z Z Z) Z Z<|AM 20 Z (by kernel_rfl) (by kernel_rfl) (by kernel_rfl) (gdU Z Z Z) Z Z<|AM 21 Z (by kernel_rfl) (by kernel_rfl) (by kernel_rfl) (gdU Z Z Z) Z Z<|AM 22 Z (by kernel_rfl) (by kernel_rfl) (by kernel_rfl) (gdU Z Z Z) Z Z<|AM 23 Z (by kernel_rfl) (by kernel_rfl) (by kernel_rfl) (gdU Z Z Z) Z Z<|AM 24 Z (by kernel_rfl) (by kernel_rfl) (by kernel_rfl) (gdU Z Z Z) Z Z<|AM 25 Z (by kernel_rfl) (by kernel_rfl) (by kernel_rfl) (gdU Z Z Z) Z Z<|AM 26 Z (by kernel_rfl) (by kernel_rfl) (by kernel_rfl) (gdU Z Z Z) Z Z<|AM 27 Z (by kernel_rfl) (by kernel_rfl) (by kernel_rfl) (gdU Z Z Z) Z Z<|AM 28 Z (by kernel_rfl) (by kernel_rfl) (by kernel_rfl) (gdU Z Z Z) Z Z<|hSk 29 Z Z<|A4 30 Z Z (pkT Z Z)<|AV (by kernel_rfl)<|Av (λO ww h=>Zu h [1])
     ·refine hKn 24 Z Z a6<|Zg 5 Z Z (faB 2 Z Z underlying75 Z (by exact Cp))<|Zg 6 Z Z (ld 2 Z Z (fP (GY _)) Dv Z)<|Be 7 [] [] Z (by kernel_rfl) Z Zx Z func89 Z Z (Te _) (Y1 Z) rN Z (λ_ _=>Cb) λae af=>Zg 8 Z Z (I.neq Z Z)<|A4 9 Z Z (pkF Z Z)<|A4 10 Z Z (mv Z)<|hIf 31 Z Z (λa1=>?_) (λa1=>?_)
      ·refine hKn 29 Z Z a1<|hKn 30 Z Z a1<|hSk 11 Z Z<|hSk 12 Z Z<|hSk 13 Z Z<|A4 14 Z Z (pkT Z Z)<|A4 15 Z Z (mv Z)<|hSk 16 Z Z<|hSk 17 Z Z<|hSk 18 Z Z<|AM 19 Z (by kernel_rfl) (by kernel_rfl) (by kernel_rfl) (gdU Z Z Z) Z Z<|AM 20 Z (by kernel_rfl) (by kernel_rfl) (by kernel_rfl) (gdU Z Z Z) Z Z<|AM 21 Z (by kernel_rfl) (by kernel_rfl) (by kernel_rfl) (gdU Z Z Z) Z Z<|AM 22 Z (by kernel_rfl) (by kernel_rfl) (by kernel_rfl) (gdU Z Z Z) Z Z<|AM 23 Z (by kernel_rfl) (by kernel_rfl) (by kernel_rfl) (gdU Z Z Z) Z Z<|AM 24 Z (by kernel_rfl) (by kernel_rfl) (by kernel_rfl) (gdU Z Z Z) Z Z<|AM 25 Z (by kernel_rfl) (by kernel_rfl) (by kernel_rfl) (gdU Z Z Z) Z Z<|AM 26 Z (by kernel_rfl) (by kernel_rfl) (by kernel_rfl) (gdU Z Z Z) Z Z<|AM 27 Z (by kernel_rfl) (by kernel_rfl) (by kernel_rfl) (gdU Z Z Z) Z Z<|AM 28 Z (by kernel_rfl) (by kernel_rfl) (by kernel_rfl) (gdU Z Z Z) Z Z<|hSk 29 Z Z<|A4 30 Z Z (pkT Z Z)<|AV (by kernel_rfl)<|Av (λO ww h=>Zu h [1])
      ·refine hKn 29 Z Z a1<|hKn 30 Z Z a1<|Zg 11 Z Z (faB 2 Z Z underlying75 Z (by exact CV))<|Zg 12 Z Z (ld 2 Z Z (fP (Fr _)) CR Z)<|Zg 13 Z Z (U.gtr Z Z)<|A4 14 Z Z (pkF Z Z)<|A4 15 Z Z (mv Z)<|hIf 36 Z Z (λa2=>?_) (λa2=>?_)
       ·refine hKn 34 Z Z a2<|hKn 35 Z Z a2<|hSk 16 Z Z<|hSk 17 Z Z<|hSk 18 Z Z<|AM 19 Z (by kernel_rfl) (by kernel_rfl) (by kernel_rfl) (gdU Z Z Z) Z Z<|AM 20 Z (by kernel_rfl) (by kernel_rfl) (by kernel_rfl) (gdU Z Z Z) Z Z<|AM 21 Z (by kernel_rfl) (by kernel_rfl) (by kernel_rfl) (gdU Z Z Z) Z Z<|AM 22 Z (by kernel_rfl) (by kernel_rfl) (by kernel_rfl) (gdU Z Z Z) Z Z<|AM 23 Z (by kernel_rfl) (by kernel_rfl) (by kernel_rfl) (gdU Z Z Z) Z Z<|AM 24 Z (by kernel_rfl) (by kernel_rfl) (by kernel_rfl) (gdU Z Z Z) Z Z<|AM 25 Z (by kernel_rfl) (by kernel_rfl) (by kernel_rfl) (gdU Z Z Z) Z Z<|AM 26 Z (by kernel_rfl) (by kernel_rfl) (by kernel_rfl) (gdU Z Z Z) Z Z<|AM 27 Z (by kernel_rfl) (by kernel_rfl) (by kernel_rfl) (gdU Z Z Z) Z Z<|AM 28 Z (by kernel_rfl) (by kernel_rfl) (by kernel_rfl) (gdU Z Z Z) Z Z<|hSk 29 Z Z<|A4 30 Z Z (pkT Z Z)<|AV (by kernel_rfl)<|Av (λO ww h=>Zu h [1])
       ·refine hKn 34 Z Z a2<|hKn 35 Z Z a2<|Zg 16 Z Z (mv Z)<|Zg 17 Z Z (I.gtr Z Z)<|Zg 18 Z Z (mv Z)<|hIf 39 Z Z (λa7=>?_) (λa7=>?_)
        ·refine hKn 38 Z Z a7<|Zg 19 Z Z (faB 1 Z Z underlying27 Z (by exact Dm))<|Zg 20 Z Z (ld 1 Z Z (fP (E8 _)) Ec Z)<|Zg 21 Z Z (mv Z)<|Zg 22 Z Z (I.sub Z Z)<|AZ λah a8=>Zg 23 Z Z (ixR Z Z a8 tu25 Cf Z)<|Zg 24 Z Z (faR Z (E7 _) underlying75 Z Z (by exact ti9))<|Zg 25 Z Z (ldR Z ty9)<|Zg 26 Z Z (faB 2 Z Z underlying75 Z (by exact ti9))<|Zg 27 Z Z (ld 2 Z Z (fP (E7 _)) ty9 Z)<|Zg 28 Z Z (geS Z Z)<|Zg 29 Z Z (pkT Z Z)<|A4 30 Z Z (pkF Z Z)<|AV (by kernel_rfl)<|Av (λO ww h=>Zu h [1])
        ·refine hKn 38 Z Z a7<|hSk 19 Z Z<|hSk 20 Z Z<|hSk 21 Z Z<|hSk 22 Z Z<|hSk 23 Z Z<|hSk 24 Z Z<|hSk 25 Z Z<|hSk 26 Z Z<|hSk 27 Z Z<|hSk 28 Z Z<|Zg 29 Z Z (pkF Z Z)<|A4 30 Z Z (pkF Z Z)<|AV (by kernel_rfl)<|Av (λO ww h=>Zu h [1])
    ·refine gIf Z Z (λab=>?_) (λab=>?_)
     ·refine A2<|Zb Z<|A5<|Bh<|An<|BE<|Bk<|Ze [] [] Z
     ·refine AW<|Ap<|Af<|Ai<|Zm Z<|Zq (I.add Z Z)<|Za Z<|Ae<|Au (λO ww h=>Zu h [1])
   ·refine AC<|AD<|AG<|BA (λO ww h=>Zu h [])
  ·refine A2<|Zb Z<|A5<|Ze [] [] Z
def N9 (a0:Bt):Option (Int) :=
 Bc (if decide (a0.Version<0) then
  some (.inl 8)
 else
  if decide (60<a0.Version) then
   some (.inl 8)
  else
   if decide (a0.Version<(a0.Heads.length:Int)) then
    some (.inl 8)
   else
    if (a0.Heads.length:Int)==0 then
     if decide (0<a0.Version) then
      some (.inl 8)
     else
      Hf a0.Heads>>=λr8 =>
      if !r8 then
       some (.inl 8)
      else
       some (.inr ())
    else
     Hf a0.Heads>>=λO =>
     if !O then
      some (.inl 8)
     else
      some (.inr ())) λs2 =>
 N7 a0.Set>>=λU =>
 if U != 0 then
  some 8
 else
  N8 a0.Regs>>=λa1 =>
  if a1 != 0 then
   some 8
  else
   some 0
theorem zlw (a0:Bt):Ah Tryz.prog 23 [.rd Ch a0] [] (N9 a0) (λr nv=>⟨[.rd A3 r],[]⟩):=by
 refine Am 46 func23 Z Z Z λH w=>?_;refine A2<|Eb Z (bx 1 Z) λv1=>Zb Z<|BM (λ(s2:Unit) aa ww=>Sta (ctx 46 H [] w) [(1,.val (A7 v1 0))] [(1,some (v1,.box 30 [.rd Ch a0]))] aa ww) ?_ (λs2=>?_)
 ·refine A2<|Zq (faB 1 Z Z underlying30 Z (by exact ti3))<|Zq (ld 1 Z Z (fP (F8 _)) ty3 Z)<|Zq (I.lss Z Z)<|Zm Z<|Bf 6 Z (λh3=>?_) (λh3=>?_)
  ·refine Aj 5 Z h3<|Zk Z<|Zk Z<|Zk Z<|Zq (pkT Z Z)<|Zm Z<|Zk Z<|Zk Z<|Zk Z<|Zk Z<|Zk Z<|Zk Z<|Zq (pkT Z Z)<|Zm Z<|Zk Z<|Zk Z<|Zk Z<|Zk Z<|Zk Z<|D6 (gdU Z Z Z) Z Z<|D6 (gdU Z Z Z) Z Z<|D6 (gdU Z Z Z) Z Z<|Zk Z<|Zq (pkT Z Z)<|Zm Z<|Zk Z<|Zk Z<|Zk Z<|Zk Z<|Zq (pkT Z Z)<|Zn<|CL Z<|A2<|Zb Z<|A5<|Bk<|Ze [] [] Z
  ·refine Aj 5 Z h3<|Aa Zx Z Z (faB 1 Z Z underlying30 Z (by exact ti3))<|Aa Zx Z Z (ld 1 Z Z (fP (F8 _)) ty3 Z)<|Aa Zx Z Z (I.gtr Z Z)<|Zq (pkF Z Z)<|Zm Z<|Bf 11 Z (λU=>?_) (λU=>?_)
   ·refine Aj 9 Z U<|Aj 10 Z U<|Zk Z<|Zk Z<|Zk Z<|Zk Z<|Zk Z<|Zk Z<|Zq (pkT Z Z)<|Zm Z<|Zk Z<|Zk Z<|Zk Z<|Zk Z<|Zk Z<|D6 (gdU Z Z Z) Z Z<|D6 (gdU Z Z Z) Z Z<|D6 (gdU Z Z Z) Z Z<|Zk Z<|Zq (pkT Z Z)<|Zm Z<|Zk Z<|Zk Z<|Zk Z<|Zk Z<|Zq (pkT Z Z)<|Zn<|CL Z<|A2<|Zb Z<|A5<|Bk<|Ze [] [] Z
   ·refine Aj 9 Z U<|Aj 10 Z U<|Aa Zx Z Z (faB 1 Z Z underlying30 Z (by exact AU))<|Aa Zx Z Z (ld 1 Z Z (fP (F9 _)) B0 Z)<|Aa Zx Z Z (Aq Z .rd Z tu28)<|Aa Zx Z Z (faB 1 Z Z underlying30 Z (by exact ti3))<|Aa Zx Z Z (ld 1 Z Z (fP (F8 _)) ty3 Z)<|Aa Zx Z Z (I.gtr Z Z)<|Zq (pkF Z Z)<|Zm Z<|Bf 19 Z (λh5=>?_) (λh5=>?_)
    ·refine Aj 17 Z h5<|Aj 18 Z h5<|Zk Z<|Zk Z<|Zk Z<|Zk Z<|Zk Z<|D6 (gdU Z Z Z) Z Z<|D6 (gdU Z Z Z) Z Z<|D6 (gdU Z Z Z) Z Z<|Zk Z<|Zq (pkT Z Z)<|Zm Z<|Zk Z<|Zk Z<|Zk Z<|Zk Z<|Zq (pkT Z Z)<|Zn<|CL Z<|A2<|Zb Z<|A5<|Bk<|Ze [] [] Z
    ·refine Aj 17 Z h5<|Aj 18 Z h5<|Aa Zx Z Z (faB 1 Z Z underlying30 Z (by exact AU))<|Aa Zx Z Z (ld 1 Z Z (fP (F9 _)) B0 Z)<|Aa Zx Z Z (Aq Z .rd Z tu28)<|Aa Zx Z Z (I.eql Z Z)<|Aa Zx Z Z (mv Z)<|Bf 24 Z (λh6=>?_) (λh6=>?_)
     ·refine Aj 23 Z h6<|Aa Zx Z Z (faB 1 Z Z underlying30 Z (by exact ti3))<|Aa Zx Z Z (ld 1 Z Z (fP (F8 _)) ty3 Z)<|Aa Zx Z Z (I.gtr Z Z)<|Aa Zx Z Z (pkT Z Z)<|Zq (pkF Z Z)<|Zm Z<|Bf 30 Z (λO=>?_) (λO=>?_)
      ·refine Aj 27 Z O<|Aj 28 Z O<|Aj 29 Z O<|Zk Z<|Zk Z<|Zk Z<|Zk Z<|Zq (pkT Z Z)<|Zn<|CL Z<|A2<|Zb Z<|A5<|Bk<|Ze [] [] Z
      ·refine Aj 27 Z O<|Aj 28 Z O<|Aj 29 Z O<|Aa Zx Z Z (faB 1 Z Z underlying30 Z (by exact AU))<|Aa Zx Z Z (ld 1 Z Z (fP (F9 _)) B0 Z)<|CN [] [] Zx Z func46 Z Z (Ma _) (Y1 Z) rN λr8 n9=>Aa Zx Z Z (Cd Z)<|Zq (pkF Z Z)<|Zj Z (λa1=>?_) (λa1=>?_)
       ·refine gKn 34 Z a1<|A2<|Zb Z<|A5<|Bk<|Ze [] [] Z
       ·refine gKn 34 Z a1<|AW<|BA (λaa ww h=>Zu h [1])
     ·refine Aj 23 Z h6<|Zk Z<|Zk Z<|Zk Z<|Aa Zx Z Z (pkF Z Z)<|Zq (pkF Z Z)<|Zm Z<|Aa Zx Z Z (faB 1 Z Z underlying30 Z (by exact AU))<|Aa Zx Z Z (ld 1 Z Z (fP (F9 _)) B0 Z)<|CN [] [] Zx Z func46 Z Z (Ma _) (Y1 Z) rN λa8 ab=>Aa Zx Z Z (Cd Z)<|Zq (pkF Z Z)<|Zj Z (λa2=>?_) (λa2=>?_)
      ·refine gKn 34 Z a2<|A2<|Zb Z<|A5<|Bk<|Ze [] [] Z
      ·refine gKn 34 Z a2<|AW<|BA (λaa ww h=>Zu h [1])
 ·refine A6<|A2<|Zq (faB 1 Z Z underlying30 Z (by exact D7))<|Zq (ld 1 Z Z (fP (Fs _)) ty24 Z)<|Zc [] [] func47 Z (zlf _) λac ad=>Zq (I.neq Z Z)<|Zm Z<|Bf 40 Z (λa6=>?_) (λa6=>?_)
  ·refine Aj 39 Z a6<|Zk Z<|Zk Z<|Zk Z<|Zk Z<|Zq (pkT Z Z)<|Zn<|CL Z<|A2<|Zb Z<|A5<|An<|Ze [] [] Z
  ·refine Aj 39 Z a6<|Aa Zx Z Z (faB 1 Z Z underlying30 Z (by exact D8))<|Aa Zx Z Z (ld 1 Z Z (fP (Ft _)) ty27 Z)<|CN [] [] Zx Z func48 Z Z (zl3 _) (Y1 Z) rN λae af=>Aa Zx Z Z (I.neq Z Z)<|Zq (pkF Z Z)<|Zj Z (λa7=>?_) (λa7=>?_)
   ·refine gKn 44 Z a7<|A2<|Zb Z<|A5<|An<|Ze [] [] Z
   ·refine gKn 44 Z a7<|Zt<|A2<|Zb Z<|A5<|Ze [] [] Z
def Na (a0:Bb) (O:Int):Option (Sum (Sum Bool Unit) Int) :=
 if decide (O<(a0.List.length:Int)) then
  if decide (O<=100) then
   idx a0.List O>>=λU =>
   if decide (100<(U.Key.length:Int)) then
    some (.inl (.inl true))
   else
    some (.inr (w64 (O+1)))
  else
   some (.inl (.inr ()))
 else
  some (.inl (.inr ()))
def Nb (a0:Bb):Option (Bool) :=
 Bc (iter (Na a0) 0) λs2 =>
 some (decide (100<(a0.List.length:Int)))>>=λO =>
 some O
theorem zm2 (a0:Bb):Ah Tryz.prog 13 [.rd Bz a0] [] (Nb a0) (λr nv=>⟨[.rd Ac r],[]⟩):=by
 refine Am 27 func13 Z Z Z λH w=>?_;refine A2<|Eb Z (bx 1 Z) λv1=>Zb Z<|BM (λ(s2:Unit) O U=>Sta (ctx 27 H [] w) [(1,.val (A7 v1 0))] [(1,some (v1,.box 24 [.rd Bz a0]))] O U) ?_ (λs2=>?_)
 ·refine A2<|Zb Z<|AJ (λ(s3:Int) O U=>Sta (ctx 27 H [] w) [(1,.val (A7 v1 0)),(3,.rd A3 s3)] [(1,some (v1,.box 24 [.rd Bz a0]))] O U) (λO U h=>Zu h [1]) (λs3=>?_);refine A6<|A2<|Zm Z<|Zq (faB 1 Z Z underlying24 Z (by exact Df))<|Zq (ld 1 Z Z (fP (E6 _)) Ea Z)<|Zq (Aq Z .rd Z tu22)<|Zq (I.lss Z Z)<|Zm Z<|Bf 9 Z (λh4=>?_) (λh4=>?_)
  ·refine Aj 8 Z h4<|Aa Zx Z Z (mv Z)<|Aa Zx Z Z (I.leq Z Z)<|Zq (pkT Z Z)<|Zj Z (λh5=>?_) (λh5=>?_)
   ·refine gKn 11 Z h5<|Zt<|A6<|AB<|A2<|Zq (faB 1 Z Z underlying24 Z (by exact Df))<|Zq (ld 1 Z Z (fP (E6 _)) Ea Z)<|Zm Z<|Al λx6 h7=>Zq (ixR Z Z h7 tu22 Cq Z)<|Zq (faR Z (EH _) underlying73 Z Z (by exact ti9))<|Zq (ldR Z ty9)<|Zq (lenT Z Z tu9)<|Zq (I.gtr Z Z)<|Zj Z (λh8=>?_) (λh8=>?_)
    ·refine A2<|Zb Z<|A5<|Bh<|An<|BE<|Bk<|Ze [] [] Z
    ·refine AW<|Ap<|Af<|Ai<|Zm Z<|Zq (I.add Z Z)<|Za Z<|Ae<|Au (λO U h=>Zu h [1])
   ·refine gKn 11 Z h5<|AC<|AD<|AG<|BA (λO U h=>Zu h [1])
  ·refine Aj 8 Z h4<|Zk Z<|Zk Z<|Zq (pkF Z Z)<|Zn<|DX Z<|AC<|AD<|AG<|BA (λO U h=>Zu h [1])
 ·refine A2<|Zq (faB 1 Z Z underlying24 Z (by exact Df))<|Zq (ld 1 Z Z (fP (E6 _)) Ea Z)<|Zq (Aq Z .rd Z tu22)<|Zq (I.gtr Z Z)<|Za Z<|AI 2 Z λy9=>Zn<|A5<|Ze [] [] Z
def Nc (a0:Bd) (O:Int):Option (Sum (Sum Bool Unit) Int) :=
 if decide (O<(a0.List.length:Int)) then
  if decide (O<=100) then
   idx a0.List O>>=λU =>
   if decide (100<(U.Key.length:Int)) then
    some (.inl (.inl true))
   else
    idx a0.List O>>=λx9 =>
    if decide (100<(x9.Value.Text.length:Int)) then
     some (.inl (.inl true))
    else
     some (.inr (w64 (O+1)))
  else
   some (.inl (.inr ()))
 else
  some (.inl (.inr ()))
def Nd (a0:Bd):Option (Bool) :=
 Bc (iter (Nc a0) 0) λs2 =>
 some (decide (100<(a0.List.length:Int)))>>=λO =>
 some O
theorem zls (a0:Bd):Ah Tryz.prog 14 [.rd BB a0] [] (Nd a0) (λr nv=>⟨[.rd Ac r],[]⟩):=by
 refine Am 38 func14 Z Z Z λH w=>?_;refine A2<|Eb Z (bx 1 Z) λv1=>Zb Z<|BM (λ(s2:Unit) O U=>Sta (ctx 38 H [] w) [(1,.val (A7 v1 0))] [(1,some (v1,.box 27 [.rd BB a0]))] O U) ?_ (λs2=>?_)
 ·refine A2<|Zb Z<|AJ (λ(s3:Int) O U=>Sta (ctx 38 H [] w) [(1,.val (A7 v1 0)),(3,.rd A3 s3)] [(1,some (v1,.box 27 [.rd BB a0]))] O U) (λO U h=>Zu h [1]) (λs3=>?_);refine A6<|A2<|Zm Z<|Zq (faB 1 Z Z underlying27 Z (by exact Dm))<|Zq (ld 1 Z Z (fP (E8 _)) Ec Z)<|Zq (Aq Z .rd Z tu25)<|Zq (I.lss Z Z)<|Zm Z<|Bf 9 Z (λh4=>?_) (λh4=>?_)
  ·refine Aj 8 Z h4<|Aa Zx Z Z (mv Z)<|Aa Zx Z Z (I.leq Z Z)<|Zq (pkT Z Z)<|Zj Z (λh5=>?_) (λh5=>?_)
   ·refine gKn 11 Z h5<|Zt<|A6<|AB<|A2<|Zq (faB 1 Z Z underlying27 Z (by exact Dm))<|Zq (ld 1 Z Z (fP (E8 _)) Ec Z)<|Zm Z<|Al λx6 h7=>Zq (ixR Z Z h7 tu25 Cf Z)<|Zq (faR Z (E7 _) underlying75 Z Z (by exact ti9))<|Zq (ldR Z ty9)<|Zq (lenT Z Z tu9)<|Zq (I.gtr Z Z)<|Zm Z<|Bf 23 Z (λh8=>?_) (λh8=>?_)
    ·refine Aj 22 Z h8<|Zk Z<|Zk Z<|Zk Z<|Zk Z<|Zk Z<|Zk Z<|Zk Z<|Zk Z<|Zk Z<|Zq (pkT Z Z)<|Zn<|CL Z<|A2<|Zb Z<|A5<|Bh<|An<|BE<|Bk<|Ze [] [] Z
    ·refine Aj 22 Z h8<|Aa Zx Z Z (faB 1 Z Z underlying27 Z (by exact Dm))<|Aa Zx Z Z (ld 1 Z Z (fP (E8 _)) Ec Z)<|Aa Zx Z Z (mv Z)<|Al λx9 a2=>Aa Zx Z Z (ixR Z Z a2 tu25 Cf Z)<|Aa Zx Z Z (faR Z (GY _) underlying75 Z Z (by exact Cp))<|Aa Zx Z Z (faR Z (Fq _) underlying54 Z Z (by exact ti9))<|Aa Zx Z Z (ldR Z ty9)<|Aa Zx Z Z (lenT Z Z tu9)<|Aa Zx Z Z (I.gtr Z Z)<|Zq (pkF Z Z)<|Zj Z (λa1=>?_) (λa1=>?_)
     ·refine gKn 32 Z a1<|A2<|Zb Z<|A5<|Bh<|An<|BE<|Bk<|Ze [] [] Z
     ·refine gKn 32 Z a1<|AW<|Ap<|Af<|Ai<|Zm Z<|Zq (I.add Z Z)<|Za Z<|Ae<|Au (λO U h=>Zu h [1])
   ·refine gKn 11 Z h5<|AC<|AD<|AG<|BA (λO U h=>Zu h [1])
  ·refine Aj 8 Z h4<|Zk Z<|Zk Z<|Zq (pkF Z Z)<|Zn<|DX Z<|AC<|AD<|AG<|BA (λO U h=>Zu h [1])
 ·refine A2<|Zq (faB 1 Z Z underlying27 Z (by exact Dm))<|Zq (ld 1 Z Z (fP (E8 _)) Ec Z)<|Zq (Aq Z .rd Z tu25)<|Zq (I.gtr Z Z)<|Za Z<|AI 2 Z λa6=>Zn<|A5<|Ze [] [] Z
def Nf (a0:Bt):Option (Bool) :=
 Nb a0.Set>>=λO =>
 if O then
  some true
 else
  Nd a0.Regs>>=λU =>
  if U then
   some true
  else
   some (decide (100<(a0.Heads.length:Int)))>>=λy8 =>
   some y8
theorem zlk (a0:Bt):Ah Tryz.prog 4 [.rd Ch a0] [] (Nf a0) (λr nv=>⟨[.rd Ac r],[]⟩):=by
 refine Am 17 func4 Z Z Z λH w=>?_;refine A2<|Eb Z (bx 1 Z) λv1=>Zb Z<|A2<|Zq (faB 1 Z Z underlying30 Z (by exact D7))<|Zq (ld 1 Z Z (fP (Fs _)) ty24 Z)<|Zc [] [] func13 Z (zm2 _) λr2 n3=>Zm Z<|Bf 6 Z (λU=>?_) (λU=>?_)
 ·refine Aj 5 Z U<|Zk Z<|Zk Z<|Zk Z<|Zq (pkT Z Z)<|Zm Z<|Zk Z<|Zk Z<|Zk Z<|Zk Z<|Zq (pkT Z Z)<|Zb Z<|A5<|Ze [] [] Z
 ·refine Aj 5 Z U<|Aa Zx Z Z (faB 1 Z Z underlying30 Z (by exact D8))<|Aa Zx Z Z (ld 1 Z Z (fP (Ft _)) ty27 Z)<|CN [] [] Zx Z func14 Z Z (zls _) (Y1 Z) rN λr5 n6=>Zq (pkF Z Z)<|Zm Z<|Bf 11 Z (λO=>?_) (λO=>?_)
  ·refine Aj 9 Z O<|Aj 10 Z O<|Zk Z<|Zk Z<|Zk Z<|Zk Z<|Zq (pkT Z Z)<|Zb Z<|A5<|Ze [] [] Z
  ·refine Aj 9 Z O<|Aj 10 Z O<|Aa Zx Z Z (faB 1 Z Z underlying30 Z (by exact AU))<|Aa Zx Z Z (ld 1 Z Z (fP (F9 _)) B0 Z)<|Aa Zx Z Z (Aq Z .rd Z tu28)<|Aa Zx Z Z (I.gtr Z Z)<|Zq (pkF Z Z)<|Za Z<|AI 2 Z λy8=>Zn<|A5<|Ze [] [] Z
def Ib (a0:Ab):Option (Bool) :=
 if decide (20<(a0.Preds.length:Int)) then
  some true
 else
  if decide (100<(a0.Act.Key.length:Int)) then
   some true
  else
   some (decide (100<(a0.Act.Value.Text.length:Int)))>>=λO =>
   some O
theorem zkz (a0:Ab):Ah Tryz.prog 15 [.rd AA a0] [] (Ib a0) (λr nv=>⟨[.rd Ac r],[]⟩):=by
 refine Am 22 func15 Z Z Z λH w=>?_;refine A2<|Eb Z (bx 1 Z) λv1=>Zb Z<|A2<|Zq (faB 1 Z Z underlying60 Z (by exact AU))<|Zq (ld 1 Z Z (fP (Co _)) B0 Z)<|Zq (Aq Z .rd Z tu28)<|Zq (I.gtr Z Z)<|Zm Z<|Bf 7 Z (λU=>?_) (λU=>?_)
 ·refine Aj 6 Z U<|Zk Z<|Zk Z<|Zk Z<|Zk Z<|Zk Z<|Zq (pkT Z Z)<|Zm Z<|Zk Z<|Zk Z<|Zk Z<|Zk Z<|Zk Z<|Zk Z<|Zq (pkT Z Z)<|Zb Z<|A5<|Ze [] [] Z
 ·refine Aj 6 Z U<|Aa Zx Z Z (faB 1 Z Z underlying60 Z (by exact Cj))<|Aa Zx Z Z (faB 1 Z Z underlying56 Z (by exact ti9))<|Aa Zx Z Z (ld 1 Z Z ((fP (Ct _)).part (DT _)) ty9 Z)<|Aa Zx Z Z (lenT Z Z tu9)<|Aa Zx Z Z (I.gtr Z Z)<|Zq (pkF Z Z)<|Zm Z<|Bf 14 Z (λO=>?_) (λO=>?_)
  ·refine Aj 12 Z O<|Aj 13 Z O<|Zk Z<|Zk Z<|Zk Z<|Zk Z<|Zk Z<|Zk Z<|Zq (pkT Z Z)<|Zb Z<|A5<|Ze [] [] Z
  ·refine Aj 12 Z O<|Aj 13 Z O<|Aa Zx Z Z (faB 1 Z Z underlying60 Z (by exact Cj))<|Aa Zx Z Z (faB 1 Z Z underlying56 Z (by exact Cp))<|Aa Zx Z Z (faB 1 Z Z underlying54 Z (by exact ti9))<|Aa Zx Z Z (ld 1 Z Z (((fP (Ct _)).part (FM _)).part (Fq _)) ty9 Z)<|Aa Zx Z Z (lenT Z Z tu9)<|Aa Zx Z Z (I.gtr Z Z)<|Zq (pkF Z Z)<|Za Z<|AI 2 Z λy4=>Zn<|A5<|Ze [] [] Z
def Ic (a0:Ao) (O:Int):Option (Sum (Sum Bool Unit) Int) :=
 if decide (O<(a0.Ops.length:Int)) then
  if decide (O<=70) then
   idx a0.Ops O>>=λU =>
   Ib U>>=λr8 =>
   if r8 then
    some (.inl (.inl true))
   else
    some (.inr (w64 (O+1)))
  else
   some (.inl (.inr ()))
 else
  some (.inl (.inr ()))
def Fg (a0:Ao):Option (Bool) :=
 Bc (iter (Ic a0) 0) λs2 =>
 if decide (16<(a0.Ops.length:Int)) then
  if decide ((a0.Ops.length:Int)<=60) then
   some true
  else
   if decide (70<(a0.Ops.length:Int)) then
    some true
   else
    some (decide (70<(a0.IDs.length:Int)))>>=λO =>
    some O
 else
  if decide (70<(a0.Ops.length:Int)) then
   some true
  else
   some (decide (70<(a0.IDs.length:Int)))>>=λU =>
   some U
theorem Ud (a0:Ao):Ah Tryz.prog 5 [.rd AF a0] [] (Fg a0) (λr nv=>⟨[.rd Ac r],[]⟩):=by
 refine Am 43 func5 Z Z Z λH w=>?_;refine A2<|Eb Z (bx 1 Z) λv1=>Zb Z<|BM (λ(s2:Unit) aa ww=>Sta (ctx 43 H [] w) [(1,.val (A7 v1 0))] [(1,some (v1,.box 33 [.rd AF a0]))] aa ww) ?_ (λs2=>?_)
 ·refine A2<|Zb Z<|AJ (λ(s3:Int) aa ww=>Sta (ctx 43 H [] w) [(1,.val (A7 v1 0)),(3,.rd A3 s3)] [(1,some (v1,.box 33 [.rd AF a0]))] aa ww) (λaa ww h=>Zu h [1]) (λs3=>?_);refine A6<|A2<|Zm Z<|Zq (faB 1 Z Z underlying33 Z (by exact BP))<|Zq (ld 1 Z Z (fP (BQ _)) BR Z)<|Zq (Aq Z .rd Z tu31)<|Zq (I.lss Z Z)<|Zm Z<|Bf 9 Z (λh4=>?_) (λh4=>?_)
  ·refine Aj 8 Z h4<|Aa Zx Z Z (mv Z)<|Aa Zx Z Z (I.leq Z Z)<|Zq (pkT Z Z)<|Zj Z (λh5=>?_) (λh5=>?_)
   ·refine gKn 11 Z h5<|Zt<|A6<|AB<|A2<|Zq (faB 1 Z Z underlying33 Z (by exact BP))<|Zq (ld 1 Z Z (fP (BQ _)) BR Z)<|Zm Z<|Al λx6 h7=>Zq (ixR Z Z h7 tu31 Ba Z)<|Zq (ldR Z C4)<|Zc [] [] func15 Z (zkz _) λr8 n9=>Zj Z (λa6=>?_) (λa6=>?_)
    ·refine A2<|Zb Z<|A5<|Bh<|An<|BE<|Bk<|Ze [] [] Z
    ·refine AW<|Ap<|Af<|Ai<|Zm Z<|Zq (I.add Z Z)<|Za Z<|Ae<|Au (λaa ww h=>Zu h [1])
   ·refine gKn 11 Z h5<|AC<|AD<|AG<|BA (λaa ww h=>Zu h [1])
  ·refine Aj 8 Z h4<|Zk Z<|Zk Z<|Zq (pkF Z Z)<|Zn<|DX Z<|AC<|AD<|AG<|BA (λaa ww h=>Zu h [1])
 ·refine A2<|Zq (faB 1 Z Z underlying33 Z (by exact BP))<|Zq (ld 1 Z Z (fP (BQ _)) BR Z)<|Zq (Aq Z .rd Z tu31)<|Zq (I.gtr Z Z)<|Zm Z<|Bf 25 Z (λa2=>?_) (λa2=>?_)
  ·refine Aj 24 Z a2<|Aa Zx Z Z (faB 1 Z Z underlying33 Z (by exact BP))<|Aa Zx Z Z (ld 1 Z Z (fP (BQ _)) BR Z)<|Aa Zx Z Z (Aq Z .rd Z tu31)<|Aa Zx Z Z (I.leq Z Z)<|Zq (pkT Z Z)<|Zm Z<|Bf 31 Z (λO=>?_) (λO=>?_)
   ·refine Aj 29 Z O<|Aj 30 Z O<|Zk Z<|Zk Z<|Zk Z<|Zk Z<|Zq (pkT Z Z)<|Zm Z<|Zk Z<|Zk Z<|Zk Z<|Zk Z<|Zq (pkT Z Z)<|Zb Z<|A5<|Ze [] [] Z
   ·refine Aj 29 Z O<|Aj 30 Z O<|Aa Zx Z Z (faB 1 Z Z underlying33 Z (by exact BP))<|Aa Zx Z Z (ld 1 Z Z (fP (BQ _)) BR Z)<|Aa Zx Z Z (Aq Z .rd Z tu31)<|Aa Zx Z Z (I.gtr Z Z)<|Zq (pkF Z Z)<|Zm Z<|Bf 37 Z (λU=>?_) (λU=>?_)
    ·refine Aj 35 Z U<|Aj 36 Z U<|Zk Z<|Zk Z<|Zk Z<|Zk Z<|Zq (pkT Z Z)<|Zb Z<|A5<|Ze [] [] Z
    ·refine Aj 35 Z U<|Aj 36 Z U<|Aa Zx Z Z (faB 1 Z Z underlying33 Z (by exact AU))<|Aa Zx Z Z (ld 1 Z Z (fP (C7 _)) B0 Z)<|Aa Zx Z Z (Aq Z .rd Z tu28)<|Aa Zx Z Z (I.gtr Z Z)<|Zq (pkF Z Z)<|Za Z<|AI 2 Z λa7=>Zn<|A5<|Ze [] [] Z
  ·refine Aj 24 Z a2<|Zk Z<|Zk Z<|Zk Z<|Zk Z<|Zq (pkF Z Z)<|Zm Z<|Aa Zx Z Z (faB 1 Z Z underlying33 Z (by exact BP))<|Aa Zx Z Z (ld 1 Z Z (fP (BQ _)) BR Z)<|Aa Zx Z Z (Aq Z .rd Z tu31)<|Aa Zx Z Z (I.gtr Z Z)<|Zq (pkF Z Z)<|Zm Z<|Bf 37 Z (λa1=>?_) (λa1=>?_)
   ·refine Aj 35 Z a1<|Aj 36 Z a1<|Zk Z<|Zk Z<|Zk Z<|Zk Z<|Zq (pkT Z Z)<|Zb Z<|A5<|Ze [] [] Z
   ·refine Aj 35 Z a1<|Aj 36 Z a1<|Aa Zx Z Z (faB 1 Z Z underlying33 Z (by exact AU))<|Aa Zx Z Z (ld 1 Z Z (fP (C7 _)) B0 Z)<|Aa Zx Z Z (Aq Z .rd Z tu28)<|Aa Zx Z Z (I.gtr Z Z)<|Zq (pkF Z Z)<|Za Z<|AI 2 Z λa8=>Zn<|A5<|Ze [] [] Z
def Ie (a0:List V3) (U:List V3) (O:Int):Option (Sum (Sum Bool Unit) Int) :=
 if decide (O<(a0.length:Int)) then
  idx a0 O>>=λx5 =>
  idx U O>>=λx7 =>
  if !decide (x5=x7) then
   some (.inl (.inl false))
  else
   some (.inr (w64 (O+1)))
 else
  some (.inl (.inr ()))
def Ng (a0:List V3) (O:List V3):Option (Bool) :=
 if (a0.length:Int) != (O.length:Int) then
  some false
 else
  Bc (iter (Ie a0 O) 0) λs2 =>
  some true
theorem zj8 (a0:List V3) (a1:List V3):Ah Tryz.prog 75 [.rd (A8 aZ) a0,.rd (A8 aZ) a1] [] (Ng a0 a1) (λr nv=>⟨[.rd Ac r],[]⟩):=by
 refine Am 26 func75 Z Z Z λH w=>?_;refine A2<|Zb Z<|A6<|A2<|Zm Z<|Zq (Aq Z .rd Z tu28)<|Zm Z<|Zq (Aq Z .rd Z tu28)<|Zq (I.neq Z Z)<|Zj Z (λh1=>?_) (λh1=>?_)
 ·refine A2<|Zb Z<|A5<|An<|Ze [] [] Z
 ·refine Zt<|BM (λ(s2:Unit) O U=>Sta (ctx 26 H [] w) [] [] O U) ?_ (λs2=>?_)
  ·refine A2<|Zb Z<|AJ (λ(s3:Int) O U=>Sta (ctx 26 H [] w) [(0,.rd (A8 aZ) a0),(1,.rd (A8 aZ) a1),(5,.rd A3 s3)] [] O U) (λO U h=>Zu h []) (λs3=>?_);refine A6<|A2<|Zm Z<|Zm Z<|Zq (Aq Z .rd Z tu28)<|Zq (I.lss Z Z)<|Zj Z (λh4=>?_) (λh4=>?_)
   ·refine Zt<|A6<|AB<|A6<|Dh mixed (by kernel_rfl)<|Rq Z (mv Z)<|Rq Z (mv Z)<|C3 λx5 h6=>Rq Z (ixR Z Z h6 tu28 Ak Z)<|Rq Z (ldR Z Aw)<|Rq Z (mv Z)<|Rq Z (mv Z)<|C3 λx7 h8=>Rq Z (ixR Z Z h8 tu28 Ak Z)<|Rq Z (ldR Z Aw)<|Rq Z (neA Z Z eq71 Z Z gq71)<|Dd<|Af<|gIf Z Z (λh9=>?_) (λh9=>?_)
    ·refine A2<|Zb Z<|A5<|Bh<|An<|BE<|Bk<|Ze [] [] Z
    ·refine AW<|Ap<|Af<|Ai<|Zm Z<|Zq (I.add Z Z)<|Za Z<|Ae<|Au (λO U h=>Zu h [])
   ·refine AC<|AD<|AG<|BA (λO U h=>Zu h [])
  ·refine A2<|Zb Z<|A5<|Ze [] [] Z
def Nh (a0:Ab) (O:Ab):Option (Bool) :=
 if a0.Author==O.Author then
  Ng a0.Preds O.Preds>>=λU =>
  if U then
   if a0.Stamp==O.Stamp then
    if decide (a0.Act=O.Act) then
     some (decide (a0.Sig=O.Sig))>>=λy9 =>
     some y9
    else
     some false
   else
    some false
  else
   some false
 else
  some false
theorem zmh (a0:Ab) (a1:Ab):Ah Tryz.prog 36 [.rd AA a0,.rd AA a1] [] (Nh a0 a1) (λr nv=>⟨[.rd Ac r],[]⟩):=by
 refine Am 38 func36 Z Z Z λH w=>?_;refine A2<|Eb Z (bx 1 Z) λv1=>Eb Z (bx 2 Z) λv2=>Zb Z<|A2<|Zq (faB 1 Z Z underlying60 Z (by exact B4))<|Zq (ld 1 Z Z (fP (Fv _)) Bm Z)<|Zq (faB 2 Z Z underlying60 Z (by exact B4))<|Zq (ld 2 Z Z (fP (Fv _)) Bm Z)<|Zq (W.eql Z Z)<|Zm Z<|Bf 10 Z (λh3=>?_) (λh3=>?_)
 ·refine Aj 9 Z h3<|Aa Zx Z Z (faB 1 Z Z underlying60 Z (by exact AU))<|Aa Zx Z Z (ld 1 Z Z (fP (Co _)) B0 Z)<|Aa Zx Z Z (faB 2 Z Z underlying60 Z (by exact AU))<|Aa Zx Z Z (ld 2 Z Z (fP (Co _)) B0 Z)<|CN [] [] Zx Z func75 Z Z (zj8 _ _) (Y2 Z Z) rN λr4 n5=>Zq (pkT Z Z)<|Zm Z<|Bf 17 Z (λO=>?_) (λO=>?_)
  ·refine Aj 15 Z O<|Aj 16 Z O<|Aa Zx Z Z (faB 1 Z Z underlying60 Z (by exact CV))<|Aa Zx Z Z (ld 1 Z Z (fP (Fc _)) CR Z)<|Aa Zx Z Z (faB 2 Z Z underlying60 Z (by exact CV))<|Aa Zx Z Z (ld 2 Z Z (fP (Fc _)) CR Z)<|Aa Zx Z Z (U.eql Z Z)<|Zq (pkT Z Z)<|Zm Z<|Bf 24 Z (λh7=>?_) (λh7=>?_)
   ·refine Aj 22 Z h7<|Aj 23 Z h7<|Aa Zx Z Z (faB 1 Z Z underlying60 Z (by exact Cj))<|Aa Zx Z Z (ld 1 Z Z (fP (Ct _)) ty56 Z)<|Aa Zx Z Z (faB 2 Z Z underlying60 Z (by exact Cj))<|Aa Zx Z Z (ld 2 Z Z (fP (Ct _)) ty56 Z)<|Aa Zx Z Z (eqA Z Z eq56 Z Z gq56)<|Zq (pkT Z Z)<|Zm Z<|Bf 31 Z (λh8=>?_) (λh8=>?_)
    ·refine Aj 29 Z h8<|Aj 30 Z h8<|Aa Zx Z Z (faB 1 Z Z underlying60 Z (by exact DR))<|Aa Zx Z Z (ld 1 Z Z (fP (Er _)) ty58 Z)<|Aa Zx Z Z (faB 2 Z Z underlying60 Z (by exact DR))<|Aa Zx Z Z (ld 2 Z Z (fP (Er _)) ty58 Z)<|Aa Zx Z Z (eqA Z Z eq58 Z Z gq58)<|Zq (pkT Z Z)<|Za Z<|AI 4 Z λy9=>Zn<|A5<|Ze [] [] Z
    ·refine Aj 29 Z h8<|Aj 30 Z h8<|Zk Z<|Zk Z<|Zk Z<|Zk Z<|Zk Z<|Zq (pkF Z Z)<|Zb Z<|A5<|Ze [] [] Z
   ·refine Aj 22 Z h7<|Aj 23 Z h7<|Zk Z<|Zk Z<|Zk Z<|Zk Z<|Zk Z<|Zq (pkF Z Z)<|Zm Z<|Zk Z<|Zk Z<|Zk Z<|Zk Z<|Zk Z<|Zq (pkF Z Z)<|Zb Z<|A5<|Ze [] [] Z
  ·refine Aj 15 Z O<|Aj 16 Z O<|Zk Z<|Zk Z<|Zk Z<|Zk Z<|Zk Z<|Zq (pkF Z Z)<|Zm Z<|Zk Z<|Zk Z<|Zk Z<|Zk Z<|Zk Z<|Zq (pkF Z Z)<|Zm Z<|Zk Z<|Zk Z<|Zk Z<|Zk Z<|Zk Z<|Zq (pkF Z Z)<|Zb Z<|A5<|Ze [] [] Z
 ·refine Aj 9 Z h3<|Zk Z<|Zk Z<|Zk Z<|Zk Z<|Zk Z<|Zq (pkF Z Z)<|Zm Z<|Zk Z<|Zk Z<|Zk Z<|Zk Z<|Zk Z<|Zq (pkF Z Z)<|Zm Z<|Zk Z<|Zk Z<|Zk Z<|Zk Z<|Zk Z<|Zq (pkF Z Z)<|Zm Z<|Zk Z<|Zk Z<|Zk Z<|Zk Z<|Zk Z<|Zq (pkF Z Z)<|Zb Z<|A5<|Ze [] [] Z
def Ig (a0:List V3) (U:List V3) (O:Int):Option (Sum (Sum Bool Unit) Int) :=
 if decide (O<(a0.length:Int)) then
  idx a0 O>>=λx5 =>
  idx U O>>=λx7 =>
  if !decide (x5=x7) then
   some (.inl (.inl false))
  else
   some (.inr (w64 (O+1)))
 else
  some (.inl (.inr ()))
def Kq (a0:List V3) (O:List V3):Option (Bool) :=
 if (a0.length:Int) != (O.length:Int) then
  some false
 else
  Bc (iter (Ig a0 O) 0) λs2 =>
  some true
theorem zff (a0:List V3) (a1:List V3):Ah Tryz.prog 70 [.rd (A8 aZ) a0,.rd (A8 aZ) a1] [] (Kq a0 a1) (λr nv=>⟨[.rd Ac r],[]⟩):=by
 refine Am 26 func70 Z Z Z λH w=>?_;refine A2<|Zb Z<|A6<|A2<|Zm Z<|Zq (Aq Z .rd Z tu28)<|Zm Z<|Zq (Aq Z .rd Z tu28)<|Zq (I.neq Z Z)<|Zj Z (λh1=>?_) (λh1=>?_)
 ·refine A2<|Zb Z<|A5<|An<|Ze [] [] Z
 ·refine Zt<|BM (λ(s2:Unit) O U=>Sta (ctx 26 H [] w) [] [] O U) ?_ (λs2=>?_)
  ·refine A2<|Zm Z<|Zq (Aq Z .rd Z tu28)<|Zm Z<|Zn<|AJ (λ(s3:Int) O U=>Sta (ctx 26 H [] w) [(0,.rd (A8 aZ) a0),(1,.rd (A8 aZ) a1),(12,.rd A3 (a0.length:Int)),(13,.rd A3 s3)] [] O U) (λO U h=>Zu h []) (λs3=>?_);refine A2<|Zq (I.lss Z Z)<|Zn<|A6<|gIf Z Z (λh4=>?_) (λh4=>?_)
   ·refine Zt<|A6<|AB<|A2<|Zm Z<|Zb Z<|A6<|Dh mixed (by kernel_rfl)<|Rq Z (mv Z)<|Rq Z (mv Z)<|C3 λx5 h6=>Rq Z (ixR Z Z h6 tu28 Ak Z)<|Rq Z (ldR Z Aw)<|Rq Z (mv Z)<|Rq Z (mv Z)<|C3 λx7 h8=>Rq Z (ixR Z Z h8 tu28 Ak Z)<|Rq Z (ldR Z Aw)<|Rq Z (neA Z Z eq71 Z Z gq71)<|Dd<|Af<|gIf Z Z (λh9=>?_) (λh9=>?_)
    ·refine A2<|Zb Z<|A5<|Bh<|An<|BE<|Bk<|Ze [] [] Z
    ·refine AW<|Ap<|Af<|Ai<|Zq (I.add Z Z)<|Zm Z<|Ae<|Au (λO U h=>Zu h [])
   ·refine AC<|AD<|AG<|BA (λO U h=>Zu h [])
  ·refine A2<|Zb Z<|A5<|Ze [] [] Z
def PK (a0:List UInt8) (U:List UInt8) (O:Int):Option (Sum (Sum Bool Unit) Int) :=
 if decide (O<(a0.length:Int)) then
  idx a0 O>>=λx5 =>
  idx U O>>=λx7 =>
  if x5 != x7 then
   some (.inl (.inl false))
  else
   some (.inr (w64 (O+1)))
 else
  some (.inl (.inr ()))
def Ih (a0:List UInt8) (O:List UInt8):Option (Bool) :=
 if (a0.length:Int) != (O.length:Int) then
  some false
 else
  Bc (iter (PK a0 O) 0) λs2 =>
  some true
theorem PL (a0:List UInt8) (a1:List UInt8):Ah Tryz.prog 12 [.rd (A8 u8R) a0,.rd (A8 u8R) a1] [] (Ih a0 a1) (λr nv=>⟨[.rd Ac r],[]⟩):=by
 refine Am 26 func12 Z Z Z λH w=>?_;refine A2<|Zb Z<|A6<|A2<|Zm Z<|Zq (Aq Z .rd Z tu36)<|Zm Z<|Zq (Aq Z .rd Z tu36)<|Zq (I.neq Z Z)<|Zj Z (λh1=>?_) (λh1=>?_)
 ·refine A2<|Zb Z<|A5<|An<|Ze [] [] Z
 ·refine Zt<|BM (λ(s2:Unit) O U=>Sta (ctx 26 H [] w) [] [] O U) ?_ (λs2=>?_)
  ·refine A2<|Zb Z<|AJ (λ(s3:Int) O U=>Sta (ctx 26 H [] w) [(0,.rd (A8 u8R) a0),(1,.rd (A8 u8R) a1),(5,.rd A3 s3)] [] O U) (λO U h=>Zu h []) (λs3=>?_);refine A6<|A2<|Zm Z<|Zm Z<|Zq (Aq Z .rd Z tu36)<|Zq (I.lss Z Z)<|Zj Z (λh4=>?_) (λh4=>?_)
   ·refine Zt<|A6<|AB<|A6<|Dh mixed (by kernel_rfl)<|Rq Z (mv Z)<|Rq Z (mv Z)<|C3 λx5 h6=>Rq Z (ixR Z Z h6 tu36 ti5 Z)<|Rq Z (ldR Z ty5)<|Rq Z (mv Z)<|Rq Z (mv Z)<|C3 λx7 h8=>Rq Z (ixR Z Z h8 tu36 ti5 Z)<|Rq Z (ldR Z ty5)<|Rq Z (B.neq Z Z)<|Dd<|Af<|gIf Z Z (λh9=>?_) (λh9=>?_)
    ·refine A2<|Zb Z<|A5<|Bh<|An<|BE<|Bk<|Ze [] [] Z
    ·refine AW<|Ap<|Af<|Ai<|Zm Z<|Zq (I.add Z Z)<|Za Z<|Ae<|Au (λO U h=>Zu h [])
   ·refine AC<|AD<|AG<|BA (λO U h=>Zu h [])
  ·refine A2<|Zb Z<|A5<|Ze [] [] Z
end
section
open Go Go.Shelf
def z10i:Go.Shelf.Ren:=⟨fun | 6=>101 | 15=>157 | 14=>156 | 28=>202 | 29=>45 | 20=>194 | 21=>195 | 22=>196 | 23=>197 | 24=>198 | 25=>199 | 26=>200 | 27=>201 | 46=>234 | 47=>235 | 48=>236 | 49=>237 | 50=>238 | 57=>248 | n=>n, fun | 22=>118 | 24=>123 | 25=>168 | 3=>3 | 39=>151 | 0=>0 | 53=>51 | 55=>52 | 4=>4 | 46=>256 | 45=>255 | 50=>125 | 5=>5 | 9=>9 | 66=>287 | 70=>291 | 76=>298 | 77=>299 | n=>n, fun | n=>n⟩
theorem Ue:Go.Proofs.SlLaysF0.n6 Tryz.prog z10i:={
 mixed:=by kernel_rfl
 f6:=⟨Tryz.f101.name, by decide,func101.trans (congrArg some (by kernel_rfl))⟩
 f14:=⟨Tryz.f156.name, by decide,func156.trans (congrArg some (by kernel_rfl))⟩
 f15:=func157.trans (congrArg some (by kernel_rfl))
 f20:=⟨Tryz.f194.name, by decide,func194.trans (congrArg some (by kernel_rfl))⟩
 f21:=⟨Tryz.f195.name, by decide,func195.trans (congrArg some (by kernel_rfl))⟩
 f22:=⟨Tryz.f196.name, by decide,func196.trans (congrArg some (by kernel_rfl))⟩
 f23:=⟨Tryz.f197.name, by decide,func197.trans (congrArg some (by kernel_rfl))⟩
 f24:=⟨Tryz.f198.name, by decide,func198.trans (congrArg some (by kernel_rfl))⟩
 f25:=⟨Tryz.f199.name, by decide,func199.trans (congrArg some (by kernel_rfl))⟩
 f26:=⟨Tryz.f200.name, by decide,func200.trans (congrArg some (by kernel_rfl))⟩
 f27:=⟨Tryz.f201.name, by decide,func201.trans (congrArg some (by kernel_rfl))⟩
 f28:=func202.trans (congrArg some (by kernel_rfl))
 f29:=func45.trans (congrArg some (by kernel_rfl))
 f46:=⟨Tryz.f234.name, by decide,func234.trans (congrArg some (by kernel_rfl))⟩
 f47:=func235.trans (congrArg some (by kernel_rfl))
 f48:=func236.trans (congrArg some (by kernel_rfl))
 f49:=⟨Tryz.f237.name, by decide,func237.trans (congrArg some (by kernel_rfl))⟩
 f50:=⟨Tryz.f238.name, by decide,func238.trans (congrArg some (by kernel_rfl))⟩
 f57:=⟨Tryz.f248.name, by decide,func248.trans (congrArg some (by kernel_rfl))⟩
 t0:=underlying0
 a0:=Tryz.isAgg0
 z0:=Tryz.sizeOf0
 v0:=Tryz.zeroValue0
 t3:=underlying3
 a3:=Tryz.isAgg3
 z3:=Tryz.sizeOf3
 v3:=Tryz.zeroValue3
 t4:=underlying4
 a4:=Tryz.isAgg4
 z4:=Tryz.sizeOf4
 v4:=Tryz.zeroValue4
 t5:=underlying5
 a5:=Tryz.isAgg5
 z5:=Tryz.sizeOf5
 v5:=Tryz.zeroValue5
 t9:=underlying9
 a9:=Tryz.isAgg9
 z9:=Tryz.sizeOf9
 v9:=Tryz.zeroValue9
 t22:=underlying118
 a22:=Tryz.isAgg118
 z22:=Tryz.sizeOf118
 v22:=Tryz.zeroValue118
 t25:=underlying168
 a25:=Tryz.isAgg168
 z25:=Tryz.sizeOf168
 v25:=Tryz.zeroValue168
 t39:=underlying151
 a39:=Tryz.isAgg151
 z39:=Tryz.sizeOf151
 v39:=Tryz.zeroValue151
 t45:=underlying255
 a45:=Tryz.isAgg255
 z45:=Tryz.sizeOf255
 v45:=Tryz.zeroValue255
 t46:=underlying256
 a46:=Tryz.isAgg256
 z46:=Tryz.sizeOf256
 v46:=Tryz.zeroValue256
 t50:=underlying125
 a50:=Tryz.isAgg125
 z50:=Tryz.sizeOf125
 v50:=Tryz.zeroValue125
 t53:=underlying51
 a53:=Tryz.isAgg51
 z53:=Tryz.sizeOf51
 v53:=Tryz.zeroValue51
 t55:=underlying52
 a55:=Tryz.isAgg52
 z55:=Tryz.sizeOf52
 v55:=Tryz.zeroValue52
 t66:=underlying287
 a66:=Tryz.isAgg287
 z66:=Tryz.sizeOf287
 v66:=Tryz.zeroValue287
 t70:=underlying291
 a70:=Tryz.isAgg291
 z70:=Tryz.sizeOf291
 v70:=Tryz.zeroValue291
 t76:=underlying298
 a76:=Tryz.isAgg298
 z76:=Tryz.sizeOf298
 v76:=Tryz.zeroValue298
 t77:=underlying299
 a77:=Tryz.isAgg299
 z77:=Tryz.sizeOf299
 v77:=Tryz.zeroValue299 }
end
section
open Go Go.Shelf Go.RowKit Go.Lib Go.Sort
theorem z16t (W:World) (O U:Obj) (q:Nat) (os':Array Obj):grow (((W.alloc O).alloc U).drewN q) os'=grow (W.drewN q) (#[O,U]++os'):=by
 have:(W.heap.push O).push U++os'=W.heap++(#[O,U]++os'):=by apply Array.toList_inj.1; simp
 show ({ W with drawn:=W.drawn+q,heap:=(W.heap.push O).push U++os' }:World) = { W with drawn:=W.drawn+q,heap:=W.heap++(#[O,U]++os') };rw[this]
theorem relN {S:Blk} {w:World} {c:List Value} {x:Bg} (h:(Cg).rel S w c x):∃ c1:List Value,c1.length=11/\c=c1++BL x.id:=by
 obtain⟨c1,c2,rfl,U,c3,c4,rfl,h2,O⟩:=h;refine⟨c1,AA.len U,?_⟩;have O:c4=[]:=O;rw[O,List.append_nil,IR h2]; rfl
theorem Uf {w:World} {b:Nat} {c1:List Value} {x:V3} {T:TypeId} {fr:Nat × Nat} (h:w.heap[b]? = some (.cells (c1++BL x).toArray T fr)) (O:c1.length=11):(loadVar 71 ⟨b,11,none⟩).run Tryz.prog w=.ok (.agg (BL x).toArray) w:=by
 refine Oq ag71 Ak (JP x) λj u U=>?_;rw[CX];unfold World.cell?;rw[h]
 have:(c1++BL x)[11+j]? = some u:=by rw[<- O,List.getElem?_append_right (by omega),Nat.add_sub_cancel_left]; exact U
 simpa using this
set_option maxHeartbeats 1000000 in
theorem cmpN (c1 O:List Value) (U:c1.length=11) (hd:O.length=11) (x y:V3) (W:World) :
  Calls Tryz.prog 102 #[.agg (c1++BL x).toArray,.agg (O++BL y).toArray] W λe w'=>e=.returned (.int .i64 (Lib.compareBytes x.toList y.toList))/\∃ q os',w'=grow (W.drewN q) os':=by
 obtain⟨W1,hW1⟩:∃ W1,W1=W.alloc (.cells (c1++BL x).toArray 123):=⟨_,rfl⟩
 obtain⟨W2,hW2⟩:∃ W2,W2=W1.alloc (.cells (O++BL y).toArray 123):=⟨_,rfl⟩
 have l0:(loadVar 71 ⟨W.heap.size,11,none⟩).run Tryz.prog W2=.ok (.agg (BL x).toArray) W2:=Uf (c1:=c1) (T:=123) (fr:=(0,0)) (by
  rw[hW2,hW1]; show ((W.heap.push _).push _)[W.heap.size]? = _
  rw[Array.getElem?_push_lt (by simp)]; simp) U
 have l1:(loadVar 71 ⟨W1.heap.size,11,none⟩).run Tryz.prog W2=.ok (.agg (BL y).toArray) W2:=Uf (c1:=O) (T:=123) (fr:=(0,0)) (by
  rw[hW2]; show (W1.heap.push _)[W1.heap.size]? = _
  rw[Array.getElem?_push_size]) hd
 go_enter func102,Tryz.ntmps102
 refine wp_seq (wp_region_lit ?_);refine st (Ds rfl) (v:=.pointer (some ⟨W.heap.size,0,none⟩)) (w':=W1) (by rw[hW1]; simp[execOp,Act.eval,Act.put]; rfl) ?_;refine st (Ds rfl) (v:=.pointer (some ⟨W1.heap.size,0,none⟩)) (w':=W2) (by rw[hW2]; simp[execOp,Act.eval,Act.put]; rfl) ?_;refine st (Ds rfl) (v:=.int .i64 0) (w':=W2) (by simp[execOp,Act.eval]) ?_;refine wp_seq (wp_region_lit ?_);refine st (Ds rfl) (v:=.pointer (some ⟨W.heap.size,11,none⟩)) (w':=W2) (by simp[execOp,Act.eval,Act.put]; rfl) ?_
 refine st (Ds rfl) (v:=.agg (BL x).toArray) (w':=W2) (by simp[execOp,Act.eval,Act.put,Instr.loadAt,Instr.sureAddr,l0]) ?_;refine st (Ds rfl) (v:=.pointer (some ⟨W1.heap.size,11,none⟩)) (w':=W2) (by simp[execOp,Act.eval,Act.put]; rfl) ?_;refine st (Ds rfl) (v:=.agg (BL y).toArray) (w':=W2) (by simp[execOp,Act.eval,Act.put,Instr.loadAt,Instr.sureAddr,l1]) ?_;refine wpList_step λK hK=>?_;rw[if_pos (Ds rfl)]
 unfold Oper.wp
 rw[show ∀ a:Act,a.eval (.tmp 6)=.agg (BL x).toArray->a.eval (.tmp 8)=.agg (BL y).toArray->∀ o:Oper,o.op=Op.call { callee:=Callee.value (Operand.func 94),args:=#[Operand.tmp 6,Operand.tmp 8],argTypes:=#[71,71] }->(execOp a.eval o).run Tryz.prog W2=.ok (.enter 94 #[.agg (BL x).toArray,.agg (BL y).toArray]) W2 from λa h6 h8 o ho=>by
  have e0:a.eval (.func 94)=.func (.func 94) #[] #[]:=rfl
  simp[execOp,ho,resolve,e0,Deferred.ofValue,invoke,FE func94 rfl (by rfl),h6,h8]]
 rotate_left
 ·simp[Act.eval,Act.put]
 ·simp[Act.eval,Act.put]
 ·rfl
 simp only[Oper.upon];refine(z112 x y W2).mono λe w' ⟨he,q,os',hw⟩=>?_;subst he;refine hK _ _ ?_;refine st (Ds rfl) (v:=.int .i64 (Lib.compareBytes x.toList y.toList)) (w':=w') (by simp[execOp,Act.eval,Act.put]) ?_
 go_wp2
 go_ret
 refine⟨rfl,q,#[.cells (c1++BL x).toArray 123,.cells (O++BL y).toArray 123]++os',?_⟩;exact z16t _ _ _ _ _
def Kr:Bg:=(⟨(⟨0,[],0,(⟨0,[],(⟨0,0,0,[]⟩:Ay)⟩:AX),(⟨0,0⟩:AQ)⟩:Ab),(Vector.replicate 32 0)⟩:Bg)
def cfN (x y:Bg):Int:=Lib.compareBytes x.id.toList y.id.toList
theorem ltN (x y:Bg):ltOf cfN x y=decide (kd x.id<kd y.id):=by
 unfold ltOf cfN;rw[FV,JZ]
theorem swoN:SWO (ltOf cfN) where
 irrefl x:=by rw[ltN]; simp
 trans x y z O U:=by rw[ltN] at *; simp at *; omega
 ntrans x y z O U:=by rw[ltN] at *; simp at *; omega
def Ni (l:List (Bg)):Option (List (Bg)):=chk (l.length<=1000000)>>=λ_=>some (srtG Kr cfN l)
theorem z16v (O:Value) (c0:List (Bg)):Ah Tryz.prog 101 [.val O,.val (.func (.func 102) #[] #[])] [(1,some (O,.list Cg 123 c0))] (Ni c0) (λr nv=>⟨[],[(1,some (O,.list Cg 123 r))]⟩):=by
 refine Tr rfl Kr _ IW cfN swoN (λcap w=>?_) (λenc hk U cf' hO blk cap d w hc hH hb hs=>?_) (λx y c d S w W hx hy=>?_) O c0
 ·exact AnyF.slices_SortFunc_none Ue none cap _ w
 ·have eg:∀ args w,(callFunc 102 args).run Tryz.prog w=.ok (.enter 102 args) w:=enters_of func102 (by kernel_rfl) rfl;exact AnyQ.slices_SortFunc_eq Ue 43 Tryz.isAgg123 Tryz.sizeOf123 enc hk U cf' hO 102 #[] blk 0 cap d w eg hc hH hb hs
 ·obtain⟨c1,U,rfl⟩:=relN hx;obtain⟨d1,h2,rfl⟩:=relN hy;exact cmpN c1 d1 U h2 x.id y.id W
end
section
open Go Go.Shelf Go.RowKit Go.Lib
theorem z14j {P:Program} {ops:Array Oper} {o:Oper} {a:Act} {w:World} {K:Act->World->Prop} {Q:Exit->Act->World->Prop} {E:Prop}
  (U:o.guard=none) (d x:Operand) (dT sT:TypeId) (O:o.op=Op.call { callee:=Callee.builtin Builtin.append,args:=#[d,x],argTypes:=#[dT,sT] })
  (v u:Value) (hd:a.eval d=v) (hx:a.eval x=u) {v':Value} {w':World} (hr:(Builtin.append_ #[dT,sT] o.type #[v,u]).run P w=.ok v' w') (hK:K (a.put o.dst v') w') :
  if Region.wanted o (yielded ops a.tmps)=true then Oper.wp P o a w K Q else E:=by
 have hw:Region.wanted o (yielded ops a.tmps)=true:=by simp[Region.wanted,U]
 rw[if_pos hw];unfold Oper.wp;simp[execOp,O,resolve,invoke,builtin,hd,hx,hr,Result.andThen];exact hK
theorem z1df {P:Program} {k by_:Nat} {z:Value} (w:World) (T e:TypeId) (hT:P.underlying T=some (.slice e)) (hE:TI P e z k by_) (a8:z.cells.size=k) (h0:0<k) (a6:∀ u∈z.cells.toList,u.oneCell'=true)
  (g o n:Nat) (cur:Array Value) (t:TypeId) (hg:w.heap[g]? = some (.cells cur t (0,0))) (hn:0<n) (a7:o+n * k<=cur.size) :
  ∃ D:Array Value,(∀ ty c,(Builtin.clear_ #[T] ty #[.slice (some ⟨g,o,none⟩) n c]).run P w=.ok (.tuple #[]) (w.setRow g D))/\D.size=cur.size/\D.toList.take o=cur.toList.take o:=by
 have U:=IY (n:=n) (z:=z.cells) (by omega);have aa:((List.replicate n z.cells.toList).flatten).length=n * k:=by simp[a8]
 have ab:∀ u∈(Builtin.zeroCells z.cells n).toList,u.oneCell'=true:=λu O=>by
  rw[U] at O;simp only[List.mem_flatten,List.mem_replicate] at O;obtain⟨q,⟨-,rfl⟩,O⟩:=O;exact a6 u O
 have a1:(Builtin.zeroCells z.cells n).toList.length=n * k:=by rw[U,aa]
 have a2:=run_storeCells_at P g o t (Builtin.zeroCells z.cells n).toList 0 cur w hg (by rw[a1]; simpa using a7) ab
 simp only[Nat.add_zero] at a2;refine⟨(cur.toList.take o++(Builtin.zeroCells z.cells n).toList++cur.toList.drop (o+(Builtin.zeroCells z.cells n).toList.length)).toArray, λty c=>?_,?_,?_⟩
 ·obtain⟨n',rfl⟩:∃ n',n=n'+1:=⟨n - 1, by omega⟩
  simp only[Builtin.clear_,Sem.run_bind,run_underlying hT,Result.andThen,FF hE,a2,Sem.run_pure,List.getElem?_toArray,List.getElem?_cons_zero]
 ·simp only[List.size_toArray,List.length_append,List.length_take,List.length_drop,Array.length_toList,a1]; omega
 ·simp only[List.append_assoc];rw[List.take_append_of_le_length (by rw[List.length_take,Array.length_toList]; omega),List.take_take,Nat.min_self]
section
variable (b n c i j:Nat) (xs:List Value) (C:Array Value) (w:World)
theorem Ug (p:Option Addr) (hi:i<=n) (a6:n<=c) (a1:c<=9223372036854775807) :
  Calls Tryz.prog 107 #[.slice p n c,.int .i64 i,.int .i64 i] w λe w'=>e=.returned (.slice p n c)/\w'=w:=by
 have a2:n<=9223372036854775807:=by omega
 go_enter func107,Tryz.ntmps107
 go_wp2
 all_goals (go_ret; exact⟨rfl,rfl⟩)
theorem z16r (ao:i<j) (U:j<=n) (ap:n<=c) (ak:c<=9223372036854775807) (hC:w.heap[b]? = some (.cells C 123 (0,0)))
  (hCs:C.size=c * 43) (a1:C.toList.take (n * 43)=xs) (h1x:∀ v∈xs,v.oneCell'=true) :
  Calls Tryz.prog 107 #[.slice (some ⟨b,0,none⟩) n c,.int .i64 i,.int .i64 j] w λe w' =>
   e=.returned (.slice (some ⟨b,0,none⟩) (i+(n - j)) c)/\∃ D,w'=w.drew.setRow b D/\D.size=C.size/\D.toList.take ((i+(n - j)) * 43)=xs.take (i * 43)++xs.drop (j * 43):=by
 have a8:Tryz.prog.underlying 118=some (.slice 123):=underlying118;have aa:∀ j v,C.toList[j]? = some v->w.cell? ⟨b,j,none⟩=some v:=λj v U=>by
  rw[Array.getElem?_toList] at U; unfold World.cell?; rw[hC]; exact U
 have a2:xs.length=n * 43:=by rw[<- a1,List.length_take,Array.length_toList]; omega
 have ab:∀ j v,xs[j]? = some v->C.toList[j]? = some v:=λj v U=>by
  rw[<- a1,List.getElem?_take] at U; split at U
  ·exact U
  ·cases U
 obtain⟨i0,ah,ai,a6,aj⟩:=(DA:TI Tryz.prog 123 _ _ _)
 have O:(xs.drop (j * 43)).length=(n - j) * 43:=by rw[List.length_drop,a2,Nat.sub_mul]
 obtain⟨Ad,hA,a7⟩:∃ Ad:Addr,(if c=j then some (⟨b,0,none⟩:Addr) else some ⟨b,j * 43,none⟩)=some Ad/\∀ t u,(xs.drop (j * 43))[t]? = some u->w.drew.cell? (Ad.add t)=some u:=by
  by_cases h:c=j
  ·refine⟨⟨b,0,none⟩, by simp[h], λt u hu=>?_⟩;have h0:(xs.drop (j * 43)).length=0:=by rw[O, show n - j=0 by omega,Nat.zero_mul]
   rw[List.length_eq_zero_iff.1 h0] at hu;simp at hu
  ·refine⟨⟨b,j * 43,none⟩, by simp[h], λt u hu=>?_⟩;rw[Addr.add_lit];rw[List.getElem?_drop] at hu;exact aa _ _ (ab _ _ hu)
 obtain⟨D1,hD1⟩:∃ D1,D1=(C.toList.take (i * 43)++xs.drop (j * 43)++C.toList.drop (i * 43+(xs.drop (j * 43)).length)).toArray:=⟨_,rfl⟩
 have ac:∀ ty,(Builtin.append_ #[118,118] ty #[.slice (some ⟨b,0,none⟩) i c,.slice (some Ad) (n - j) (c - j)]).run Tryz.prog w.drew=.ok (.slice (some ⟨b,0,none⟩) (i+(n - j)) c) (w.drew.setRow b D1):=λty=>by
  have e:=run_append_room (P:=Tryz.prog) (w:=w.drew) 118 ty 123 i0 a8 ah b i c C hC Ad (n - j) (c - j) (xs.drop (j * 43)) (by rw[a6,O]) a7 (λv hv=>h1x v (List.mem_of_mem_drop hv)) (by omega) (by rw[a6,O,hCs]; omega);rw[a6] at e;rw[hD1]; exact e
 have hD1s:D1.size=C.size:=by
  rw[hD1]; simp only[List.size_toArray,List.length_append,List.length_take,List.length_drop,Array.length_toList,a2]; omega
 have hD1t:D1.toList.take ((i+(n - j)) * 43)=xs.take (i * 43)++xs.drop (j * 43):=by
  have el:(C.toList.take (i * 43)).length=i * 43:=by rw[List.length_take,Array.length_toList]; omega
  have e2:C.toList.take (i * 43)=xs.take (i * 43):=by rw[<- a1,List.take_take]; congr 1; omega
  rw[hD1,List.take_append_of_le_length (by rw[List.length_append,el,O]; omega),List.take_of_length_le (by rw[List.length_append,el,O]; omega),e2]
 have hB1:(w.drew.setRow b D1).heap[b]? = some (.cells D1 123 (0,0)):=setRow_heap w.drew b C D1 123 (0,0) hC;obtain⟨D2,ad,hD2s,hD2t⟩:=z1df (P:=Tryz.prog) (w.drew.setRow b D1) 118 123 a8 DA (by rfl) (by decide) (by decide) b ((i+(n - j)) * 43) (n - (i+(n - j))) D1 123 hB1 (by omega) (by rw[hD1s,hCs]; omega);obtain⟨W1,hW1⟩:∃ W1,W1=w.drew.setRow b D1:=⟨_,rfl⟩
 have ae:w.drew.setRow b D2=W1.setRow b D2:=by rw[hW1,setRow_setRow]
 rw[<- hW1] at ad ac;have aq:i<=c:=by omega
 have ar:j<=c:=by omega
 have af:D2.size=C.size/\D2.toList.take ((i+(n - j)) * 43)=xs.take (i * 43)++xs.drop (j * 43):=⟨hD2s.trans hD1s,hD2t.trans hD1t⟩
 clear aa ab hD1 a1 hC hB1 h1x O a2 a7 hD1s hD1t hD2s hD2t ai aj hW1
 have am:Tryz.prog.follows .mixedOrders=true:=mixed
 go_enter func107,Tryz.ntmps107
 go_wp2_with fail
 go_region_law_o (refine z14j rfl (.tmp 22) (.tmp 25) 118 118 rfl (.slice (some ⟨b,0,none⟩) i c) (.slice (some Ad) (n - j) (c - j)) (by simp[Act.eval,Act.put]) (by simp[Act.eval,Act.put,hA]) (ac _) ?_)
 go_wp2_with (simp only[ad])
 go_ret
 exact⟨rfl,D2,ae.symm,af⟩
end
end
section
def delL {α:Type} (c0:List α) (i j:Int):Option (List α):=chk ((0<=i/\i<=j)/\j.toNat<=c0.length/\c0.length<=1000000)>>=λ_=>some (c0.take i.toNat++c0.drop j.toNat)
theorem z1a2 {α:Type} {R:Rep α} (hR:R.sz=43) (p0:Value) (c0:List α) (i j:Int):Ah Tryz.prog 107 [.val p0,.rd A3 i,.rd A3 j] [(1,some (p0,.list R 123 c0))] (delL c0 i j)
  (λr nv=>⟨[.val (nv 0)],[(100,some (nv 0,.list R 123 r))]⟩):=by
 intro r hr H vs w a7 aa;have hb:((0<=i/\i<=j)/\j.toNat<=c0.length/\c0.length<=1000000)/\r=c0.take i.toNat++c0.drop j.toNat:=by
  unfold delL chk at hr
  split at hr
  ·rename_i h; simp at hr; exact⟨h,hr.symm⟩
  ·simp at hr
 obtain⟨⟨⟨ae,ac⟩,hj,hn⟩,rfl⟩:=hb
 match vs,a7 with
 | [v0,v1,v2],a7 =>
 obtain⟨h0,h1,h2,_⟩:=a7;have e0:v0=p0:=h0.1;have e1:v1=.int .i64 i:=Ci h1;have e2:v2=.int .i64 j:=Ci h2;subst e0; subst e1; subst e2;obtain⟨i,rfl⟩:∃ k:Nat,i=(k:Int):=⟨i.toNat, by omega⟩
 obtain⟨j,rfl⟩:∃ k:Nat,j=(k:Int):=⟨j.toNat, by omega⟩
 simp only[Int.toNat_natCast] at hj ⊢;have ac:i<=j:=by omega
 have only:∀ v' r v c (q:AO),lr [(100,some (v',q))] r=some (v,c)->r=100/\v=v'/\c=q:=λv' r v c q h=>by
  rw[C0] at h
  split at h
  ·rename_i e; cases h; exact⟨e.symm,rfl,rfl⟩
  ·simp[lr,lk] at h
 have a6:(c0.take i++c0.drop j).length=i+(c0.length - j):=by
  simp only[List.length_append,List.length_take,List.length_drop]; omega
 rcases aa.conts 1 v0 _ rfl with ⟨rfl,rfl⟩ | ⟨b,o,k1,k2,b',cap,C,k3,rfl,k4,k5,k6,k7⟩
 ·simp only[List.length_nil,Nat.le_zero] at hj;have hi:i=0:=by omega
  subst hj; subst hi;refine(Ug 0 0 0 w none (Nat.le_refl _) (Nat.le_refl _) (by omega)).mono λe w' ⟨he,hw⟩=>?_;subst hw;refine⟨λ_=>.slice none 0 0,[.slice none 0 0],he,⟨⟨rfl,rfl⟩,trivial⟩, λr v c h=>?_, λr v c r' v' c' h h' O=>?_, λr v c h b hb=>?_,CZ.rfl'⟩
  ·obtain⟨rfl,rfl,rfl⟩:=only _ _ _ _ _ h;exact .inl ⟨rfl,rfl⟩
  ·exact absurd ((only _ _ _ _ _ h).1.trans (only _ _ _ _ _ h').1.symm) O
  ·obtain⟨rfl,rfl,rfl⟩:=only _ _ _ _ _ h; cases hb
 ·subst k3;simp only[AS,Option.some.injEq] at k1;subst k1;have af:b'<w.heap.size:=(Array.getElem?_eq_some_iff.1 k2).1;have a8:cap<=9223372036854775807:=by unfold maxLen at k5; omega
  rw[hR] at k6 k7;have ab:Calls Tryz.prog 107 #[.slice (some ⟨b',0,none⟩) c0.length cap,.int .i64 i,.int .i64 j] w λe w'=>e=.returned (.slice (some ⟨b',0,none⟩) (i+(c0.length - j)) cap) /\
    ∃ D,w'.heap[b']? = some (.cells D 123 (0,0))/\w.grownBy w' (some b')/\D.size=C.size/\D.toList.take ((i+(c0.length - j)) * 43)=(C.toList.take (c0.length * 43)).take (i * 43)++(C.toList.take (c0.length * 43)).drop (j * 43):=by
   rcases Nat.lt_or_ge i j with h | h
   ·refine(z16r b' c0.length cap i j _ C w h hj k4 a8 k2 k6 rfl (λv hv=>k7.one v hv)).mono λe w' ⟨he,D,hw,hD,hT⟩=>⟨he,D,?_,?_,hD,hT⟩
    ·rw[hw]; exact setRow_heap w.drew b' C D 123 (0,0) k2
    ·rw[hw];refine⟨rfl,rfl,rfl,?_, λk U O=>?_⟩
     ·rw[setRow_size]; exact Nat.le_refl _
     ·rw[setRow_other w.drew b' k D (λe=>O (by rw[e]))]; rfl
   ·have e:j=i:=by omega
    subst e;refine(Ug c0.length cap j w _ hj k4 a8).mono λe w' ⟨he,hw⟩=>⟨by rw[he, show j+(c0.length - j)=c0.length by omega],C, by rw[hw]; exact k2, by rw[hw]; exact⟨rfl,rfl,rfl,Nat.le_refl _, λ_ _ _=>rfl⟩,rfl,?_⟩;rw[show j+(c0.length - j)=c0.length by omega,List.take_append_drop]
  refine ab.mono λe w' ⟨he,D,hD,hg,hs,ht⟩=>?_;have ad:Br (Shr H [(1,some (.slice (some ⟨b',0,none⟩) c0.length cap,.list R 123 c0))] w) (Shr H [(100,some (.slice (some ⟨b',0,none⟩) (i+(c0.length - j)) cap,.list R 123 (c0.take i++c0.drop j)))] w') w w':=λk U=>by
   have O:k≠b':=λe=>U.2.1 1 _ _ rfl (by rw[e]; rfl);refine⟨⟨Nat.lt_of_lt_of_le U.1 hg.size, λr v c h=>?_,U.2.2⟩,hg.block k U.1 (λe=>O (Option.some.inj e))⟩;obtain⟨rfl,rfl,rfl⟩:=only _ _ _ _ _ h;exact λe=>O (Option.some.inj e).symm
  refine⟨λ_=>.slice (some ⟨b',0,none⟩) (i+(c0.length - j)) cap,[.slice (some ⟨b',0,none⟩) (i+(c0.length - j)) cap],he,⟨⟨rfl,rfl⟩,trivial⟩, λr v c h=>?_, λr v c r' v' c' h h' O=>?_, λr v c h b hb=>?_,hg.os,hg.tape,hg.output,hg.size, λk U=>?_⟩
  ·obtain⟨rfl,rfl,rfl⟩:=only _ _ _ _ _ h;refine .inr ⟨b',_,rfl,hD,b',cap,D, by rw[a6],rfl, by rw[a6]; omega,k5, by rw[hs,k6,hR],?_⟩;rw[a6,hR,ht];have x2:=k7.mono ad;have a1:=x2.take i;have a2:=x2.drop j;rw[hR] at a1 a2;exact a1.append a2
  ·exact absurd ((only _ _ _ _ _ h).1.trans (only _ _ _ _ _ h').1.symm) O
  ·obtain⟨rfl,rfl,rfl⟩:=only _ _ _ _ _ h;exact .inr ⟨1,_,_,rfl,hb⟩
  ·refine hg.block k U.1 λe=>U.2 ⟨1,_,_,rfl,?_⟩;rw[Option.some.inj e]; rfl
end
section
section
variable {ρ:Type} {P:Program} {Γ:Ctx} {l:AR} {res:Res} {d:Tmp} {ty:TypeId} {pos:String} {after:Array Edge} {g:Option (Nat × Bool)} {os rest:List Oper} {N:ρ->Exit->Act->World->Prop}
theorem Ks {σ:Type} {x:Operand} {f:FuncId} {F:Func} {b:Code} {bnd:List Value} {args:List Operand} {ats:Array TypeId} {pa pc:List Ent} {rin:Res} {m1:Option σ} {q:σ->(Nat->Value)->Di} {kk:σ->Option ρ} (ns:List Nat) (mp:List (Nat × Nat)) (hg:Grd os l ⟨some d,.call ⟨.value x,args.toArray,ats⟩,ty,pos,after,g⟩ true) (hn:Nat.blt d Γ.n=true)
  (hx:opE l x=some (.val (.func (.func f) bnd.toArray #[]))) (hF:P.funcs[f]? = some F) (hB:F.body=some b) (hnm:(F.name == "runtime.NumGoroutine")=false) (hS:Ah P f (pc++pa) rin m1 q) (hA:Cs l args pa) (hC:EF res bnd pc) (hr:BZ res rin ns)
  (k:∀ s nv,GL P os (Sta Γ ((d,CM (q s nv).ret)::l) (aft ns mp (q s nv).res res)) rest N (kk s)) :
  GL P os (Sta Γ l res) (⟨some d,.call ⟨.value x,args.toArray,ats⟩,ty,pos,after,g⟩::rest) N (m1 >>= kk):=λa w ha r hm=>by
 cases hm1:m1 with
 | none=>rw[hm1] at hm; cases hm
 | some s =>
  rw[hm1] at hm;refine wpList_step λK hK=>?_;rw[if_pos (hg.wanted ha)];have hrun:(execOp a.eval ⟨some d,.call ⟨.value x,args.toArray,ats⟩,ty,pos,after,g⟩).run P w=.ok (.enter f (bnd++args.map a.eval).toArray) w:=by
   simp[execOp,resolve,(ha.vl hx).1,Deferred.ofValue,invoke,FE hF hB hnm,<- Array.append_assoc]
  unfold Oper.wp; rw[hrun];simp only[Oper.upon];have hH:∀ b,(λb=>Γ.H b\/∃ r v c,lr res r=some (v,c)/\ns.contains r=false/\AS v=some b) b↔Γ.H b\/∃ r v c,lr res r=some (v,c)/\ns.contains r=false/\AS v=some b:=λ_=>Iff.rfl;obtain⟨h1,h2⟩:=F7.of ha hr hH;refine(hS s hm1 _ _ w ((EF.get ha hC).mk (Cs.get ha h2 hA)) h1).mono λe w' hR=>?_;obtain⟨nv,vs,rfl,hp⟩:=hR;obtain⟨⟨h3,_⟩,h4,_⟩:=ha.called (mp:=mp) hr hH hp
  exact hK _ _ (k s nv _ _ (h3.put hn h4) r hm)
end
section
variable {P:Program} {Γ:Ctx} {l0:AR} {o:Oper} {S:NV->AR} {N A:NV->Res} {e:SV Ent}
theorem Uh {x:Operand} {S' D t:TypeId} {b:List UInt8} {u:Unit} (ho:o.op=.convert S' D x) (U:∀ O,opE (S O++l0) x=some (.rd BI b)) (hb:chk (b.length<=281474976710656)=some u) (hS:P.underlying S'=some .string) (hD:P.underlying D=some (.slice t)) (ht:P.underlying t=some (.int .u8))
  (hP:∀ O,FO (S O) l0:=by exact λ_=>HL rfl) (hA:∀ O,EqvR (N O) (A O):=by exact λ_=>EqvR.refl):Obl P Γ l0 o [] S N A (some ([], λ_=>.rd (A8 u8R) b)):=λO E a w ha=>by
 obtain⟨w',v,h1,h2,h3,h4⟩:=Su ho ha (U O) hb hS hD ht;unfold Oper.wp;rw[h1];have hq:∀ k,lr (A O++E) k=lr (N O++E) k:=λk=>(hA O E k).symm;exact⟨O,v, λ_ _=>rfl,rfl,⟨(h2.base0 (hP O).keep).lrq hq,h3.rq hq⟩, λx U=>by cases U; exact OV h4 hq⟩
end
end
section
section
variable {C:World->World->Prop} {P:Program} {Γ:Ctx} {l:AR} {res:Res} {d:Tmp} {ty:TypeId} {pos:String} {after:Array Edge} {g:Option (Nat × Bool)}
theorem nckB (r:Nat) {T:TypeId} {x:Operand} {v:Value} {es:List Ent} (hx:opE l x=some (.val (A7 v 0))) (hr:lr res r=some (v,.box T es)):Run C P Γ l res ⟨some d,.nilCheck x,ty,pos,after,g⟩ (.val (A7 v 0)):=λa w O=>by
 have U:=(O.vl hx).1;rcases O.conts r v _ hr with h2 | ⟨b,o,h2,h3,b',vs,rfl,rfl,h4⟩
 ·exact h2.elim
 ·rw[IQ] at U ⊢;exact⟨_, λw' _=>by simp[execOp,U],rfl,rfl⟩
end
end
section
def Kt (a0:V3) (c1_0:List (V3 × Bool)):Option (Bool) :=
 some ((Bv c1_0 a0).getD false)>>=λO =>
 some O
theorem zkg (a0:V3) (p1_0:Value) (q1_0:Value) (c1_0:List (V3 × Bool)):Ah Tryz.prog 106 [.rd aZ a0,.val (A7 p1_0 0)] [(1,some (p1_0,.box 169 [.val q1_0])),(2,some (q1_0,.map aZ Ac c1_0))] (Kt a0 c1_0) (λr nv=>⟨[.rd Ac r],[(1,some (p1_0,.box 169 [.val q1_0])),(2,some (q1_0,.map aZ Ac c1_0))]⟩):=by
 refine Am 7 func106 Z Z Z λH w=>?_;refine A2<|Eb Z (bx 3 Z) λv1=>Zb Z<|A2<|Zq (ldV 1 Z Z .here Lu Z)<|Zq (ld 3 Z Z fH Aw Z)<|Zq (mlk Z (.own 2 Z Z) Z ky71 underlying169 ti4 Zr.bool Z)<|Za Z<|AI 3 Z λy2=>Zn<|A5<|Ze [] [1,2] Z
def Ui (a0:List V3) (c1_0:List (V3 × Bool)) (O:Int):Option (Sum (Sum Int Unit) Int) :=
 if decide (O<(a0.length:Int)) then
  idx a0 O>>=λU =>
  Kt U c1_0>>=λr6 =>
  if r6 then
   some (.inl (.inl O))
  else
   some (.inr (w64 (O+1)))
 else
  some (.inl (.inr ()))
def PM (a0:List V3) (c1_0:List (V3 × Bool)):Option (Int) :=
 Bc (iter (Ui a0 c1_0) 0) λs1 =>
 some (-1)
theorem z7d (a0:List V3) (p1_0:Value) (q1_0:Value) (c1_0:List (V3 × Bool)):Ah Tryz.prog 158 [.rd (A8 aZ) a0,.val (.func (.func 106) #[] #[A7 p1_0 0])] [(1,some (p1_0,.box 169 [.val q1_0])),(2,some (q1_0,.map aZ Ac c1_0))] (PM a0 c1_0) (λr nv=>⟨[.rd A3 r],[(1,some (p1_0,.box 169 [.val q1_0])),(2,some (q1_0,.map aZ Ac c1_0))]⟩):=by
 refine Am 19 func158 Z Z Z λH w=>?_;refine A2<|Zb Z<|BM (λ(s1:Unit) O U=>Sta (ctx 19 H [(1,some (p1_0,.box 169 [.val q1_0])),(2,some (q1_0,.map aZ Ac c1_0))] w) [] [(2,some (q1_0,.map aZ Ac c1_0)),(1,some (p1_0,.box 169 [.val q1_0]))] O U) ?_ (λs1=>?_)
 ·refine A2<|Zm Z<|Zq (Aq Z .rd Z tu28)<|Zm Z<|Zn<|AJ (λ(s2:Int) O U=>Sta (ctx 19 H [(1,some (p1_0,.box 169 [.val q1_0])),(2,some (q1_0,.map aZ Ac c1_0))] w) [(0,.rd (A8 aZ) a0),(1,.val (.func (.func 106) #[] #[A7 p1_0 0])),(7,.rd A3 (a0.length:Int)),(8,.rd A3 s2)] [(2,some (q1_0,.map aZ Ac c1_0)),(1,some (p1_0,.box 169 [.val q1_0]))] O U) (λO U h=>Zu h [2,1]) (λs2=>?_);refine A2<|Zq (I.lss Z Z)<|Zn<|A6<|gIf Z Z (λh3=>?_) (λh3=>?_)
  ·refine Zt<|A6<|AB<|A2<|Zm Z<|Zb Z<|A2<|Zm Z<|Zm Z<|Zm Z<|Al λx4 h5=>Zq (ixR Z Z h5 tu28 Ak Z)<|Zq (ldR Z Aw)<|EO [1,2] [(1,1),(2,2)] (gd0 Z) Z Z func106 Z Z (zkg _ _ _ _) (Y1 Z) (cQ 1 Z<|cN) (Zi Z<|Zi Z<|rN) λr6 n7=>Zj Z (λh8=>?_) (λh8=>?_)
   ·refine A2<|Zm Z<|Zb Z<|A5<|Bh<|An<|BE<|Bk<|Ze [] [1,2] Z
   ·refine AW<|Ap<|Af<|Ai<|Zq (I.add Z Z)<|Zm Z<|Ae<|Au (λO U h=>Zu h [2,1])
  ·refine AC<|AD<|AG<|BA (λO U h=>Zu h [2,1])
 ·refine A2<|Zb Z<|A5<|Ze [] [1,2] Z
def PN (a0:List V3) (c1_0:List (V3 × Bool)):Option (Bool) :=
 PM a0 c1_0>>=λO =>
 some (decide (0<=O))>>=λU =>
 some U
theorem z6p (a0:List V3) (p1_0:Value) (q1_0:Value) (c1_0:List (V3 × Bool)):Ah Tryz.prog 105 [.rd (A8 aZ) a0,.val (.func (.func 106) #[] #[A7 p1_0 0])] [(1,some (p1_0,.box 169 [.val q1_0])),(2,some (q1_0,.map aZ Ac c1_0))] (PN a0 c1_0) (λr nv=>⟨[.rd Ac r],[(1,some (p1_0,.box 169 [.val q1_0])),(2,some (q1_0,.map aZ Ac c1_0))]⟩):=by
 refine Am 9 func105 Z Z Z λH w=>?_;refine A2<|Zb Z<|A2<|Zm Z<|Zm Z<|Zc [1,2] [(1,1),(2,2)] func158 Z (z7d _ _ _ _) λr1 n2=>Zq (I.geq Z Z)<|Za Z<|AI 4 Z λy3=>Zn<|A5<|Ze [] [1,2] Z
def Ii (a0:Bg) (c1_0:List (V3 × Bool)):Option (Bool) :=
 PN a0.o.Preds c1_0>>=λO =>
 some (!O)
theorem zn5 (a0:Bg) (p1_0:Value) (q1_0:Value) (c1_0:List (V3 × Bool)):Ah Tryz.prog 104 [.rd Cg a0,.val (A7 p1_0 0)] [(1,some (p1_0,.box 169 [.val q1_0])),(2,some (q1_0,.map aZ Ac c1_0))] (Ii a0 c1_0) (λr nv=>⟨[.rd Ac r],[(1,some (p1_0,.box 169 [.val q1_0])),(2,some (q1_0,.map aZ Ac c1_0))]⟩):=by
 refine Am 10 func104 Z Z Z λH w=>?_;refine A2<|Eb Z (bx 3 Z) λv1=>Zb Z<|A2<|Zq (faB 3 Z Z underlying123 Z (by exact Ba))<|Zq (faB 3 Z Z underlying60 Z (by exact AU))<|Zq (ld 3 Z Z ((fP (HJ _)).part (Co _)) B0 Z)<|Zq (mkf mp0 (mp1 Z))<|Zc [1,2] [(1,1),(2,2)] func105 Z (z6p _ _ _ _) λr2 n3=>Zq (Cd Z)<|Zb Z<|A5<|Ze [] [1,2] Z
def Uj (a0:List Bg) (c1_0:List (V3 × Bool)) (O:Int):Option (Sum (Sum Int Unit) Int) :=
 if decide (O<(a0.length:Int)) then
  idx a0 O>>=λU =>
  Ii U c1_0>>=λr6 =>
  if r6 then
   some (.inl (.inl O))
  else
   some (.inr (w64 (O+1)))
 else
  some (.inl (.inr ()))
def Nj (a0:List Bg) (c1_0:List (V3 × Bool)):Option (Int) :=
 Bc (iter (Uj a0 c1_0) 0) λs1 =>
 some (-1)
theorem z5o (a0:List Bg) (O:Value) (l0:List Bg) (p1_0:Value) (q1_0:Value) (c1_0:List (V3 × Bool)):Ah Tryz.prog 103 [.vw Cg O l0 a0,.val (.func (.func 104) #[] #[A7 p1_0 0])] [(1,some (O,.list Cg 123 l0)),(2,some (p1_0,.box 169 [.val q1_0])),(3,some (q1_0,.map aZ Ac c1_0))] (Nj a0 c1_0) (λr nv=>⟨[.rd A3 r],[(1,some (O,.list Cg 123 l0)),(2,some (p1_0,.box 169 [.val q1_0])),(3,some (q1_0,.map aZ Ac c1_0))]⟩):=by
 refine Am 19 func103 Z Z Z λH w=>?_;refine A2<|Zb Z<|BM (λ(s1:Unit) U ww=>Sta (ctx 19 H [(1,some (O,.list Cg 123 l0)),(2,some (p1_0,.box 169 [.val q1_0])),(3,some (q1_0,.map aZ Ac c1_0))] w) [] [(1,some (O,.list Cg 123 l0)),(3,some (q1_0,.map aZ Ac c1_0)),(2,some (p1_0,.box 169 [.val q1_0]))] U ww) ?_ (λs1=>?_)
 ·refine A2<|Zm Z<|Zq (Aq Z (.vw 1 Z) Z tu118)<|Zm Z<|Zn<|AJ (λ(s2:Int) U ww=>Sta (ctx 19 H [(1,some (O,.list Cg 123 l0)),(2,some (p1_0,.box 169 [.val q1_0])),(3,some (q1_0,.map aZ Ac c1_0))] w) [(0,.vw Cg O l0 a0),(1,.val (.func (.func 104) #[] #[A7 p1_0 0])),(7,.rd A3 (a0.length:Int)),(8,.rd A3 s2)] [(1,some (O,.list Cg 123 l0)),(3,some (q1_0,.map aZ Ac c1_0)),(2,some (p1_0,.box 169 [.val q1_0]))] U ww) (λU ww h=>Zu h [1,3,2]) (λs2=>?_)
  refine A2<|Zq (I.lss Z Z)<|Zn<|A6<|gIf Z Z (λh3=>?_) (λh3=>?_)
  ·refine Zt<|A6<|AB<|A2<|Zm Z<|Zb Z<|A2<|Zm Z<|Zm Z<|Zm Z<|Al λx4 h5=>Zq (ixQ 1 Z Z Z h5 tu118 DA)<|Zq (ldQ 1 Z Z IX Z)<|EO [2,3] [(1,2),(2,3)] (gd0 Z) Z Z func104 Z Z (zn5 _ _ _ _) (Y1 Z) (cQ 2 Z<|cN) (Zi Z<|Zi Z<|rN) λr6 n7=>Zj Z (λh8=>?_) (λh8=>?_)
   ·refine A2<|Zm Z<|Zb Z<|A5<|Bh<|An<|BE<|Bk<|Ze [] [1,2,3] Z
   ·refine AW<|Ap<|Af<|Ai<|Zq (I.add Z Z)<|Zm Z<|Ae<|Au (λU ww h=>Zu h [1,3,2])
  ·refine AC<|AD<|AG<|BA (λU ww h=>Zu h [1,3,2])
 ·refine A2<|Zb Z<|A5<|Ze [] [1,2,3] Z
def Ku (a0:List Ab) (U:(List Bg) × Int):Option (Sum (Sum ((List Bg) × Int) ((List Bg))) ((List Bg) × Int)) :=
 if decide (U.2<(a0.length:Int)) then
  idx a0 U.2>>=λO =>
  Jf O>>=λr9 =>
  if r9.2 != 0 then
   some (.inl (.inl ([],r9.2)))
  else
   HN O.Preds>>=λa1 =>
   app 144 U.1 [(⟨(⟨O.Author,a1,O.Stamp,O.Act,O.Sig⟩:Ab),r9.1⟩:Bg)]>>=λa2 =>
   some (.inr (a2,w64 (U.2+1)))
 else
  some (.inl (.inr U.1))
def Kv (U:List Bg) (O:(List (V3 × Bool)) × Int):Option (Sum (Sum ((List Bg) × Int) ((List (V3 × Bool)))) ((List (V3 × Bool)) × Int)) :=
 if decide (O.2<(U.length:Int)) then
  idx U O.2>>=λa1 =>
  if (Bv O.1 a1.id).getD false then
   some (.inl (.inl ([],14)))
  else
   some (.inr (D4 O.1 a1.id true,w64 (O.2+1)))
 else
  some (.inl (.inr O.1))
def Ij (O:(List Bg) × (List (V3 × Bool)) × (List Bg)):Option (Sum (Sum ((List Bg) × Int) ((List Bg))) ((List Bg) × (List (V3 × Bool)) × (List Bg))) :=
 if decide (0<(O.1.length:Int)) then
  Nj O.1 O.2.1>>=λU =>
  if decide (U<0) then
   some (.inl (.inl ([],36)))
  else
   idx O.1 U>>=λa1 =>
   app 144 O.2.2 [a1]>>=λa2 =>
   idx O.1 U>>=λa6 =>
   delL O.1 U (w64 (U+1))>>=λa7 =>
   some (.inr (a7,DQ O.2.1 a6.id,a2))
 else
  some (.inl (.inr O.2.2))
def Kw (a0:List Ab):Option ((List Bg) × Int) :=
 if decide (60<(a0.length:Int)) then
  some ([],4)
 else
  Bc (iter (Ku a0) ([],0)) λs2 =>
  Ni s2>>=λO =>
  Bc (iter (Kv O) (([]:List (V3 × Bool)),0)) λU =>
  Bc (iter (Ij) (O,U,[])) λa1 =>
  some (a1,0)
theorem Uk (a0:List Ab):Ah Tryz.prog 58 [.rd (A8 AA) a0] [AE] (Kw a0) (λr nv=>⟨[.val (nv 0),.rd A3 r.2],[(1001,some (.bool true,.glob 1 (Az 64 A9) C6)),(100,some (nv 0,.list Cg 123 r.1))]⟩):=by
 refine Am 86 func58 Z Z Z λH w=>?_;refine A2<|Za Z<|Zb Z<|A6<|A2<|Zm Z<|Zq (Aq Z .rd Z tu31)<|Zq (I.gtr Z Z)<|Zj Z (λh1=>?_) (λh1=>?_)
 ·refine A2<|Za Z<|Zb Z<|A5<|An<|Cl Cg 123 1<|Ze [(.slice none 0 0)] [1001,1] Z
 ·refine Zt<|A2<|Zb Z<|BM (λ(s2:(List Bg)) O U=>∃ nv:Nat->Value,Sta (ctx 86 H [AE] w) [(4,.val (nv 0))] [(6,some ((nv 0),.list Cg 123 s2)),AE] O U) ?_ (λs2=>?_)
  ·refine A2<|Zm Z<|Zq (Aq Z .rd Z tu31)<|Zm Z<|Zn<|Dk Cg 123 1106<|AJ (λ(s3:(List Bg) × Int) O U=>∃ nv:Nat->Value,Sta (ctx 86 H [AE] w) [(4,.val (nv 0)),(17,.rd (A8 AA) a0),(18,.rd A3 (a0.length:Int)),(19,.rd A3 s3.2)] [(1105,some ((nv 0),.list Cg 123 s3.1)),AE] O U) (λO U h=>⟨nvl [(.slice none 0 0)],Zu h [1106,1001]⟩) (λs3=>?_);refine gEx λn4=>A2<|Zq (I.lss Z Z)<|Zn<|A6<|gIf Z Z (λh5=>?_) (λh5=>?_)
   ·refine Zt<|A6<|AB<|A2<|Al λx6 h7=>Zq (ixR Z Z h7 tu31 Ba Z)<|Zq (ldR Z C4)<|Eb Z (AN 1107 Ba (ZrE.rd (R:=A9) (x:=0) (Zr.num Z) (ZrE.nilS (ZrE.rd (R:=Ar) (x:=0) (Zr.num Z) (ZrE.rd (R:=Bw) (x:=(⟨0,[],(⟨0,0,0,[]⟩:Ay)⟩:AX)) DB (ZrE.rd (R:=BJ) (x:=(⟨0,0⟩:AQ)) E9 ZrE.nil Z) Z) Z)) Z)) λv8=>Cy aZ [.rd A9 0,.rd (A8 aZ) [],.rd Ar 0,.rd Bw (⟨0,[],(⟨0,0,0,[]⟩:Ay)⟩:AX),.rd BJ (⟨0,0⟩:AQ)] 1107 [.rd A9 0] [.rd Ar 0,.rd Bw (⟨0,[],(⟨0,0,0,[]⟩:Ay)⟩:AX),.rd BJ (⟨0,0⟩:AQ)] Z Z Z<|Cm (R:=AA) (⟨0,[],0,(⟨0,[],(⟨0,0,0,[]⟩:Ay)⟩:AX),(⟨0,0⟩:AQ)⟩:Ab) 1107 Z (Sp.via (Sp.prod (Sp.prod (Sp.prod (Sp.prod (Sp.prod Sp.unit))))))<|Es (sto 1107 Z Z fH Z Ba)<|Zn<|A2<|Zq (ld 1107 Z Z fH C4 Z)<|Zc [1001] [] func53 Z (T5 _) λr9 az=>Zm Z<|Zq (ext Z Z)<|Zq (ext Z Z)<|Eb Z (AN 1108 Ak (.zr (R:=aZ) (x:=(Vector.replicate 32 0)) BU)) λb0=>Es (sto 1108 Z Z fH Z Ak)<|Zb Z<|A6<|A2<|Zm Z<|Zq (I.neq Z Z)<|Zj Z (λai=>?_) (λai=>?_)
    ·refine A2<|Zm Z<|Za Z<|Zb Z<|A5<|An<|Bh<|An<|BE<|Bk<|Cl Cg 123 1109<|Ze [(.slice none 0 0)] [1001,1109] Z
    ·refine Zt<|A2<|Zq (faB 1107 Z Z underlying60 Z (by exact AU))<|Zq (ld 1107 Z Z (fP (Co _)) B0 Z)<|Zc [] [(100,1110)] func100 Z (SW _) λa6 b1=>Zq (faB 1107 Z Z underlying60 Z (by exact AU))<|lSpl (R:=AA) 1107 Z (Sp.via (Sp.prod (Sp.prod (Sp.prod (Sp.prod (Sp.prod Sp.unit))))))<|Es (DI 1107 Z Z (By.cast (By.next Bj (By.here Bj)) Z) Z Cx BG AU)<|Zn<|Ai<|Zm Z<|lPow [.rd A9 x6.Author,.rd (A8 aZ) a6,.rd Ar x6.Stamp,.rd Bw x6.Act,.rd BJ x6.Sig] 1107 1110 [.rd A9 x6.Author] [.rd Ar x6.Stamp,.rd Bw x6.Act,.rd BJ x6.Sig] Z Z Z Z Z<|Cm (R:=AA) (⟨x6.Author,a6,x6.Stamp,x6.Act,x6.Sig⟩:Ab) 1107 Z (Sp.via (Sp.prod (Sp.prod (Sp.prod (Sp.prod (Sp.prod Sp.unit))))))<|Zq (ld 1107 Z Z fH C4 Z)<|Zq (ld 1108 Z Z fH Aw Z)<|Zq (bld (x':=(⟨(⟨x6.Author,a6,x6.Stamp,x6.Act,x6.Sig⟩:Ab),r9.1⟩:Bg)) [(0,11),(11,32)] underlying123 DA Z IW Z (Bld.cons (HJ _) Z Z<|Bld.cons (IV _) Z Z<|Bld.done Z))<|Ef Z (lit (R:=Cg) ([(⟨(⟨x6.Author,a6,x6.Stamp,x6.Act,x6.Sig⟩:Ab),r9.1⟩:Bg)]:List Bg) 1111 (pP Z Z<|pN) Z tu118 DA Z Z) λb2=>BW 1111 [39] Z (fS Z<|fN)<|Al λb3 aj=>Ef Z (apn 1105 Z Z Z .rd aj tu118 DA Z Z Z) λak=>Za Z<|Ae<|Ap<|Af<|Ai<|Zq (I.add Z Z)<|Zm Z<|Ae<|Au (λO U h=>⟨nvl [ak],Zu h [1105,1001]⟩)
   ·refine AC<|AD<|AG<|BA (λO U h=>⟨nvl [(n4 0)],Zu h [1105,1001]⟩)
  ·refine gEx λa1=>A2<|Zm Z<|Zc [6] [(1,6)] func101 Z (z16v _ _) λa8 b4=>Zn<|A2<|Ef Z (mkm aZ Ac 1112 (Or.inl Z) underlying169) λv22=>Eb Z (AN 1113 SE (.val Z)) λa2=>Es (DI 1113 Z Z (.here BG) Z Cx BG SE)<|Zn<|BM (λ(ad:(List (V3 × Bool))) O U=>Sta (ctx 86 H [AE] w) [(4,.val (a1 0)),(9,.val (A7 a2 0))] [(6,some ((a1 0),.list Cg 123 a8)),(1112,some (v22,.map aZ Ac ad)),(1113,some (a2,.box 169 [.val v22])),AE] O U) ?_ (λad=>?_)
   ·refine A2<|Zm Z<|Zq (Aq Z (.own 6 Z) Z tu118)<|Zm Z<|Zn<|AJ (λ(ab:(List (V3 × Bool)) × Int) O U=>Sta (ctx 86 H [AE] w) [(4,.val (a1 0)),(9,.val (A7 a2 0)),(45,.val (a1 0)),(46,.rd A3 (a8.length:Int)),(47,.rd A3 ab.2)] [(6,some ((a1 0),.list Cg 123 a8)),(1112,some (v22,.map aZ Ac ab.1)),(1113,some (a2,.box 169 [.val v22])),AE] O U) (λO U h=>Zu h [6,1112,1113,1001]) (λab=>?_)
    refine A2<|Zq (I.lss Z Z)<|Zn<|A6<|gIf Z Z (λam=>?_) (λam=>?_)
    ·refine Zt<|A6<|AB<|A2<|Al λb5 ae=>Zq (ixO 6 Z Z Z ae tu118 DA)<|Zq (ld 6 Z Z (Foc.el ae) IX Z)<|Eb Z (AN 1114 DA (.zr (R:=Cg) (x:=(⟨(⟨0,[],0,(⟨0,[],(⟨0,0,0,[]⟩:Ay)⟩:AX),(⟨0,0⟩:AQ)⟩:Ab),(Vector.replicate 32 0)⟩:Bg)) IW)) λb6=>Es (sto 1114 Z Z fH Z DA)<|Zn<|A6<|A2<|Zq (ldV 1113 Z Z .here Lu Z)<|Zq (faB 1114 Z Z underlying123 Z (by exact Ak))<|Zq (ld 1114 Z Z (fP (IV _)) Aw Z)<|Zq (mlk Z (.own 1112 Z Z) Z ky71 underlying169 ti4 Zr.bool Z)<|Zj Z (λao=>?_) (λao=>?_)
     ·refine A2<|Za Z<|Zb Z<|A5<|An<|Bh<|An<|BE<|Bk<|Cl Cg 123 1115<|Ze [(.slice none 0 0)] [1001,1115] Z
     ·refine Zt<|Ai<|Zq (ldV 1113 Z Z .here Lu Z)<|Zq (faB 1114 Z Z underlying123 Z (by exact Ak))<|Zq (ld 1114 Z Z (fP (IV _)) Aw Z)<|Es (mup 1112 Z Z Z Z ky71 underlying169)<|Ae<|Ap<|Af<|Ai<|Zq (I.add Z Z)<|Zm Z<|Ae<|Au (λO U h=>Zu h [6,1112,1113,1001])
    ·refine AC<|AD<|AG<|BA (λO U h=>Zu h [6,1112,1113,1001])
   ·refine A2<|Zb Z<|BM (λ(af:(List Bg)) O U=>∃ nv:Nat->Value,Sta (ctx 86 H [AE] w) [(12,.val (nv 0))] [(1117,some ((nv 0),.list Cg 123 af)),AE] O U) ?_ (λaf=>?_)
    ·refine Dk Cg 123 1121<|AJ (λ(a7:(List Bg) × (List (V3 × Bool)) × (List Bg)) O U=>∃ nv:Nat->Value,Sta (ctx 86 H [AE] w) [(4,.val (nv 0)),(9,.val (A7 a2 0)),(12,.val (nv 1))] [(6,some ((nv 0),.list Cg 123 a7.1)),(1112,some (v22,.map aZ Ac a7.2.1)),(1113,some (a2,.box 169 [.val v22])),(1120,some ((nv 1),.list Cg 123 a7.2.2)),AE] O U) (λO U h=>⟨nvl [(a1 0),(.slice none 0 0)],Zu h [6,1112,1113,1121,1001]⟩) (λa7=>?_)
     refine gEx λap=>A6<|A2<|Zm Z<|Zq (Aq Z (.own 6 Z) Z tu118)<|Zq (I.gtr Z Z)<|Zj Z (λaq=>?_) (λaq=>?_)
     ·refine Zt<|AB<|A2<|Zm Z<|Zq (mkf mp0 (mp1 Z))<|call [6,1113,1112] [(1,6),(2,1113),(3,1112)] Z func103 Z Z (z5o _ _ _ _ _ _) (aW Z<|aQ Z<|aN) (Zi Z<|Zi Z<|Zi Z<|rN) λb7 b8=>Zb Z<|A6<|A2<|Zm Z<|Zq (I.lss Z Z)<|Zj Z (λar=>?_) (λar=>?_)
      ·refine A2<|Za Z<|Zb Z<|A5<|An<|Bh<|BE<|Bk<|Cl Cg 123 1122<|Ze [(.slice none 0 0)] [1001,1122] Z
      ·refine Zt<|A2<|Zm Z<|Zm Z<|Zm Z<|Al λau ah=>Zq (ixO 6 Z Z Z ah tu118 DA)<|Zq (ld 6 Z Z (Foc.el ah) IX Z)<|Ef Z (lit (R:=Cg) ([au]:List Bg) 1123 (pP Z Z<|pN) Z tu118 DA Z Z) λb9=>BW 1123 [72] Z (fS Z<|fN)<|Al λba av=>Ef Z (apn 1120 Z Z Z .rd av tu118 DA Z Z Z) λaw=>Zb Z<|A6<|Bq [1112] mixed Z Z<|A4 0 Z Z (ldV 1113 Z Z .here Lu Z)<|A4 1 Z Z (mv Z)<|A4 2 Z Z (mv Z)<|AZ λbb ac=>A4 3 Z Z (ixO 6 Z Z Z ac tu118 DA)<|A4 4 Z Z (fa 6 Z Z OB (OJ ac) underlying123 Z (by exact Ak))<|A4 5 Z Z (ld 6 Z Z ((Foc.el ac).part (IV _)) Aw Z)<|hDoV 6 Z (by kernel_rfl) (gd0 Z) Z Z Z Z (mdeV 1112 Z Z Z ky71 Z underlying169)<|AV (by kernel_rfl)<|Af<|Ai<|Zm Z<|Zm Z<|Zm Z<|Zq (I.add Z Z)<|call [6] [(100,1148)] Z func107 Z Z (z1a2 (R:=Cg) Z _ _ _ _) (aQ Z<|aQ Z<|aQ Z<|aN) (Y0 Z) λbc ax=>Za Z<|Ae<|Ap<|Au (λO U h=>⟨nvl [(ax 0),aw],Zu h [1148,1112,1113,1120,1001]⟩)
     ·refine AC<|AD<|AG<|BA (λO U h=>⟨nvl [(ap 1)],Zu h [1120,1001]⟩)
    ·refine gEx λay=>A2<|Zm Z<|Za Z<|Zb Z<|A5<|Ze [(ay 0)] [1001,1117] Z
def Nk (U:(List UInt8) × (List (V3 × Int)) × Int) (a2:Bg) (O:(List UInt8) × Int):Option (Sum ((List UInt8)) ((List UInt8) × Int)) :=
 if decide (O.2<(a2.o.Preds.length:Int)) then
  idx a2.o.Preds O.2>>=λa1 =>
  some ((Bv U.2.1 a1).getD 0)>>=λa6 =>
  some ((Bv U.2.1 a1).isSome)>>=λa7 =>
  if a7 then
   Ev (UInt64.ofInt (w64 (U.2.2 - a6)))>>=λa8 =>
   app 1 O.1 a8>>=λaa =>
   some (.inr (aa,w64 (O.2+1)))
  else
   app 1 O.1 [0]>>=λab =>
   app 1 ab a1.toList>>=λac =>
   some (.inr (ac,w64 (O.2+1)))
 else
  some (.inl O.1)
def Nl (r1:(List Bg) × Int) (O:(List UInt8) × (List (V3 × Int)) × Int):Option (Sum (Sum ((List UInt8) × Int) ((List UInt8))) ((List UInt8) × (List (V3 × Int)) × Int)) :=
 if decide (O.2.2<(r1.1.length:Int)) then
  idx r1.1 O.2.2>>=λU =>
  H8 (⟨U.o.Author,[],U.o.Stamp,U.o.Act,U.o.Sig⟩:Ab)>>=λa1 =>
  if a1.2 != 0 then
   some (.inl (.inl ([],a1.2)))
  else
   Gv a1.1>>=λa2 =>
   if a2.2 != 0 then
    some (.inl (.inl ([],a2.2)))
   else
    app 1 O.1 a2.1>>=λa6 =>
    Ev (UInt64.ofInt (U.o.Preds.length:Int))>>=λa7 =>
    app 1 a6 a7>>=λa8 =>
    (iter (Nk O U) (a8,0))>>=λaa =>
    some (.inr (aa,D4 O.2.1 U.id O.2.2,w64 (O.2.2+1)))
 else
  some (.inl (.inr O.1))
def Hu (a0:List Ab):Option ((List UInt8) × Int) :=
 Kw a0>>=λO =>
 if O.2 != 0 then
  some ([],O.2)
 else
  Ev (UInt64.ofInt (O.1.length:Int))>>=λr5 =>
  app 1 [112] r5>>=λx7 =>
  Bc (iter (Nl O) (x7,([]:List (V3 × Int)),0)) λU =>
  some (U,0)
theorem Ul (a0:List Ab):Ah Tryz.prog 27 [.rd (A8 AA) a0] [AE] (Hu a0) (λr nv=>⟨[.val (nv 0),.rd A3 r.2],[(1001,some (.bool true,.glob 1 (Az 64 A9) C6)),(100,some (nv 0,.list u8R 5 r.1))]⟩):=by
 refine Am 103 func27 Z Z Z λH w=>?_;refine A2<|Za Z<|Zb Z<|A2<|Zm Z<|Zc [1001] [(100,1)] func58 Z (Uk _) λr1 n2=>Zm Z<|Zq (ext Z Z)<|Zq (ext Z Z)<|Za Z<|Zb Z<|A6<|A2<|Zm Z<|Zq (I.neq Z Z)<|Zj Z (λh3=>?_) (λh3=>?_)
 ·refine A2<|Zm Z<|Za Z<|Zb Z<|A5<|An<|Cl u8R 5 2<|Ze [(.slice none 0 0)] [1001,2] Z
 ·refine Zt<|A2<|Ef Z (lit (R:=u8R) ([112]:List UInt8) 3 (pP Z Z<|pN) Z tu36 ti5 Z Z) λv4=>Zm Z<|Zq (Aq Z (.own 1 Z) Z tu118)<|Zq (I.toU Z tu3 tu52)<|Zc [] [(100,4)] func22 Z (EX _) λr5 n6=>Al λx7 h8=>Ef Z (apn 3 Z Z Z (.own 4 Z) h8 tu36 ti5 Z Z Z) λv9=>Zb Z<|A2<|Ef Z (mkm aZ A3 5 (Or.inl Z) underlying121) λa1=>Zb Z<|BM (λ(a8:(List UInt8)) aa ww=>∃ nv:Nat->Value,Sta (ctx 103 H [AE] w) [(6,.val (nv 0))] [(3,some ((nv 0),.list u8R 5 a8)),AE] aa ww) ?_ (λa8=>?_)
  ·refine A2<|Zm Z<|Zq (Aq Z (.own 1 Z) Z tu118)<|Zm Z<|Zn<|AJ (λ(U:(List UInt8) × (List (V3 × Int)) × Int) aa ww=>∃ nv:Nat->Value,Sta (ctx 103 H [AE] w) [(6,.val (nv 0)),(7,.val a1),(33,.val (n2 0)),(34,.rd A3 (r1.1.length:Int)),(35,.rd A3 U.2.2)] [(3,some ((nv 0),.list u8R 5 U.1)),(5,some (a1,.map aZ A3 U.2.1)),(1,some ((n2 0),.list Cg 123 r1.1)),AE] aa ww) (λaa ww h=>⟨nvl [v9],Zu h [3,5,1,1001]⟩) (λU=>?_)
   refine gEx λad=>A2<|Zq (I.lss Z Z)<|Zn<|A6<|gIf Z Z (λae=>?_) (λae=>?_)
   ·refine Zt<|A6<|AB<|A2<|Zm Z<|Al λO ab=>Zq (ixO 1 Z Z Z ab tu118 DA)<|Zq (ld 1 Z Z (Foc.el ab) IX Z)<|Eb Z (AN 1100 DA (.zr (R:=Cg) (x:=(⟨(⟨0,[],0,(⟨0,[],(⟨0,0,0,[]⟩:Ay)⟩:AX),(⟨0,0⟩:AQ)⟩:Ab),(Vector.replicate 32 0)⟩:Bg)) IW)) λa2=>Za Z<|Es (sto 1100 Z Z fH Z DA)<|Zn<|A2<|Zq (faB 1100 Z Z underlying123 Z (by exact Ba))<|Zq (ld 1100 Z Z (fP (HJ _)) C4 Z)<|Eb Z (AN 1101 Ba (ZrE.rd (R:=A9) (x:=0) (Zr.num Z) (ZrE.nilS (ZrE.rd (R:=Ar) (x:=0) (Zr.num Z) (ZrE.rd (R:=Bw) (x:=(⟨0,[],(⟨0,0,0,[]⟩:Ay)⟩:AX)) DB (ZrE.rd (R:=BJ) (x:=(⟨0,0⟩:AQ)) E9 ZrE.nil Z) Z) Z)) Z)) λaz=>Cy aZ [.rd A9 0,.rd (A8 aZ) [],.rd Ar 0,.rd Bw (⟨0,[],(⟨0,0,0,[]⟩:Ay)⟩:AX),.rd BJ (⟨0,0⟩:AQ)] 1101 [.rd A9 0] [.rd Ar 0,.rd Bw (⟨0,[],(⟨0,0,0,[]⟩:Ay)⟩:AX),.rd BJ (⟨0,0⟩:AQ)] Z Z Z<|Cm (R:=AA) (⟨0,[],0,(⟨0,[],(⟨0,0,0,[]⟩:Ay)⟩:AX),(⟨0,0⟩:AQ)⟩:Ab) 1101 Z (Sp.via (Sp.prod (Sp.prod (Sp.prod (Sp.prod (Sp.prod Sp.unit))))))<|Es (sto 1101 Z Z fH Z Ba)<|Zn<|A2<|Zq (faB 1101 Z Z underlying60 Z (by exact AU))<|lSpl (R:=AA) 1101 Z (Sp.via (Sp.prod (Sp.prod (Sp.prod (Sp.prod (Sp.prod Sp.unit))))))<|Es (DI 1101 Z Z (By.cast (By.next Bj (By.here Bj)) Z) Z Cx BG AU)<|Zn<|A2<|Cy aZ [.rd A9 O.o.Author,.rd (A8 aZ) [],.rd Ar O.o.Stamp,.rd Bw O.o.Act,.rd BJ O.o.Sig] 1101 [.rd A9 O.o.Author] [.rd Ar O.o.Stamp,.rd Bw O.o.Act,.rd BJ O.o.Sig] Z Z Z<|Cm (R:=AA) (⟨O.o.Author,[],O.o.Stamp,O.o.Act,O.o.Sig⟩:Ab) 1101 Z (Sp.via (Sp.prod (Sp.prod (Sp.prod (Sp.prod (Sp.prod Sp.unit))))))<|Zq (ld 1101 Z Z fH C4 Z)<|Zc [] [(100,1102)] func59 Z (T0 _) λb0 b1=>Zm Z<|Zq (ext Z Z)<|Zq (ext Z Z)<|Za Z<|Zb Z<|A6<|A2<|Zm Z<|Zq (I.neq Z Z)<|Zj Z (λaf=>?_) (λaf=>?_)
    ·refine A2<|Zm Z<|Za Z<|Zb Z<|A5<|An<|Bh<|An<|BE<|Bk<|Cl u8R 5 1103<|Ze [(.slice none 0 0)] [1001,1103] Z
    ·refine Zt<|A2<|Zm Z<|BW 1102 [46,11,52] Z (fS Z<|fS Z<|fS Z<|fN)<|Zc [] [(100,1104)] func42 Z (LU _) λb2 b3=>Zm Z<|Zq (ext Z Z)<|Zq (ext Z Z)<|Za Z<|Zb Z<|A6<|A2<|Zm Z<|Zq (I.neq Z Z)<|Zj Z (λah=>?_) (λah=>?_)
     ·refine A2<|Zm Z<|Za Z<|Zb Z<|A5<|An<|Bh<|An<|BE<|Bk<|Cl u8R 5 1105<|Ze [(.slice none 0 0)] [1001,1105] Z
     ·refine Zt<|A6<|Bq [3,1130] mixed Z Z<|A4 0 Z Z (mv Z)<|A4 1 Z Z (mv Z)<|A4 3 Z Z (faB 1100 Z Z underlying123 Z (by exact Ba))<|A4 4 Z Z (faB 1100 Z Z underlying60 Z (by exact AU))<|A4 5 Z Z (ld 1100 Z Z ((fP (HJ _)).part (Co _)) B0 Z)<|A4 6 Z Z (Aq Z .rd Z tu28)<|A4 7 Z Z (I.toU Z tu3 tu52)<|AZ λb4 ai=>Zo 2 Z Z Z (apn 3 Z Z Z (.own 1104 Z) ai tu36 ti5 Z Z Z) λb5=>Be 8 [] [(100,1130)] Z (by kernel_rfl) Z (gd0 Z) Z func22 Z Z (EX _) (Y1 Z) rN Z (λ_ _=>C1) λb6 b7=>AZ λb8 aj=>Zo 9 Z Z Z (apn 3 Z Z Z (.own 1130 Z) aj tu36 ti5 Z Z Z) λak=>Zf 10 Z Z C1 (asg Z)<|AV (by kernel_rfl)<|Af<|AY (λ(ac:(List UInt8)) aa ww=>∃ nv:Nat->Value,Sta (ctx 103 H [AE] w) [(6,.val (nv 0)),(7,.val a1),(8,.rd A3 U.2.2),(9,.val (A7 a2 0)),(33,.val (n2 0)),(34,.rd A3 (r1.1.length:Int)),(35,.rd A3 U.2.2)] [(3,some ((nv 0),.list u8R 5 ac)),(5,some (a1,.map aZ A3 U.2.1)),(1100,some (a2,.box 123 [.rd Cg O])),(1,some ((n2 0),.list Cg 123 r1.1)),AE] aa ww) ?_ (λac=>?_)
      ·refine A2<|Zq (faB 1100 Z Z underlying123 Z (by exact Ba))<|Zq (faB 1100 Z Z underlying60 Z (by exact AU))<|Zq (ld 1100 Z Z ((fP (HJ _)).part (Co _)) B0 Z)<|Zq (Aq Z .rd Z tu28)<|Zm Z<|Zn<|AJ (λ(a6:(List UInt8) × Int) aa ww=>∃ nv:Nat->Value,Sta (ctx 103 H [AE] w) [(6,.val (nv 0)),(7,.val a1),(8,.rd A3 U.2.2),(9,.val (A7 a2 0)),(33,.val (n2 0)),(34,.rd A3 (r1.1.length:Int)),(35,.rd A3 U.2.2),(71,.rd (A8 aZ) O.o.Preds),(72,.rd A3 (O.o.Preds.length:Int)),(73,.rd A3 a6.2)] [(3,some ((nv 0),.list u8R 5 a6.1)),(5,some (a1,.map aZ A3 U.2.1)),(1100,some (a2,.box 123 [.rd Cg O])),(1,some ((n2 0),.list Cg 123 r1.1)),AE] aa ww) (λaa ww h=>⟨nvl [ak],Zu h [3,5,1100,1,1001]⟩) (λa6=>?_)
       refine gEx λam=>A2<|Zq (I.lss Z Z)<|Zn<|A6<|gIf Z Z (λao=>?_) (λao=>?_)
       ·refine Zt<|A6<|AB<|A2<|Al λb9 ap=>Zq (ixR Z Z ap tu28 Ak Z)<|Zq (ldR Z Aw)<|Eb Z (AN 1142 Ak (.zr (R:=aZ) (x:=(Vector.replicate 32 0)) BU)) λv39=>Es (sto 1142 Z Z fH Z Ak)<|Zn<|A2<|Zm Z<|Zq (ld 1142 Z Z fH Aw Z)<|Zq (mlk2 Z (.own 5 Z Z) Z ky71 underlying121 ti3 (Zr.num Z) Z)<|Zm Z<|Zq (ext Z Z)<|Zq (ext Z Z)<|Za Z<|AI 16 Z λba=>Za Z<|AI 17 Z λbb=>Zn<|A2<|Zm Z<|Zj Z (λa7=>?_) (λa7=>?_)
        ·refine gKn 17 Z a7<|Ai<|Zm Z<|Zm Z<|Zm Z<|Zq (I.sub Z Z)<|Zq (I.toU Z tu3 tu52)<|Zc [] [(100,1143)] func22 Z (EX _) λbc bd=>Al λbe aq=>Ef Z (apn 3 Z Z Z (.own 1143 Z) aq tu36 ti5 Z Z Z) λar=>Za Z<|Ae<|Ap<|Af<|Ai<|Zq (I.add Z Z)<|Zm Z<|Ae<|Au (λaa ww h=>⟨nvl [ar],Zu h [3,5,1100,1,1001]⟩)
        ·refine gKn 17 Z a7<|DO 1142 15 Z Z<|Bq [3,1147] mixed Z Z<|A4 0 Z Z (mv Z)<|A4 3 Z Z (CO Z tu71 ti5 Z Z Z)<|Zo 1 Z Z Z (lit (R:=u8R) ([0]:List UInt8) 1147 (pP Z Z<|pN) Z tu36 ti5 Z Z) λbf=>AZ λbg au=>Zo 2 Z Z Z (apn 3 Z Z Z (.own 1147 Z) au tu36 ti5 Z Z Z) λbh=>AZ λbi av=>Zo 4 Z Z Z (apn 3 Z Z Z .rd av tu36 ti5 Z Z Z) λaw=>Zf 5 Z Z C1 (asg Z)<|AV (by kernel_rfl)<|Ap<|Af<|Ai<|Zq (I.add Z Z)<|Zm Z<|Ae<|Au (λaa ww h=>⟨nvl [aw],Zu h [3,5,1100,1,1001]⟩)
       ·refine AC<|AD<|AG<|Av (λaa ww h=>⟨nvl [(am 0)],Zu h [3,5,1100,1,1001]⟩)
      ·refine gEx λax=>Ai<|Zm Z<|Zq (faB 1100 Z Z underlying123 Z (by exact Ak))<|Zq (ld 1100 Z Z (fP (IV _)) Aw Z)<|Zm Z<|Es (mup 5 Z Z Z Z ky71 underlying121)<|Ae<|Ap<|Af<|Ai<|Zq (I.add Z Z)<|Zm Z<|Ae<|Au (λaa ww h=>⟨nvl [(ax 0)],Zu h [3,5,1,1001]⟩)
   ·refine AC<|AD<|AG<|BA (λaa ww h=>⟨nvl [(ad 0)],Zu h [3,1001]⟩)
  ·refine gEx λay=>A2<|Zm Z<|Za Z<|Zb Z<|A5<|Ze [(ay 0)] [1001,3] Z
def Kx (a0:List V3) (U:V3) (O:Int):Option (Sum (Sum Int Unit) Int) :=
 if decide (O<(a0.length:Int)) then
  idx a0 O>>=λx5 =>
  if decide (U=x5) then
   some (.inl (.inl O))
  else
   some (.inr (w64 (O+1)))
 else
  some (.inl (.inr ()))
def Ik (a0:List V3) (O:V3):Option (Int) :=
 Bc (iter (Kx a0 O) 0) λs2 =>
 some (-1)
theorem Um (a0:List V3) (a1:V3):Ah Tryz.prog 69 [.rd (A8 aZ) a0,.rd aZ a1] [] (Ik a0 a1) (λr nv=>⟨[.rd A3 r],[]⟩):=by
 refine Am 19 func69 Z Z Z λH w=>?_;refine A2<|Eb Z (bx 1 Z) λv1=>Zb Z<|BM (λ(s2:Unit) O U=>Sta (ctx 19 H [] w) [] [] O U) ?_ (λs2=>?_)
 ·refine A2<|Zm Z<|Zq (Aq Z .rd Z tu28)<|Zm Z<|Zn<|AJ (λ(s3:Int) O U=>Sta (ctx 19 H [] w) [(0,.rd (A8 aZ) a0),(3,.val (A7 v1 0)),(7,.rd A3 (a0.length:Int)),(8,.rd A3 s3)] [(1,some (v1,.box 71 [.rd aZ a1]))] O U) (λO U h=>Zu h [1]) (λs3=>?_);refine A2<|Zq (I.lss Z Z)<|Zn<|A6<|gIf Z Z (λh4=>?_) (λh4=>?_)
  ·refine Zt<|A6<|AB<|A2<|Zm Z<|Zb Z<|A6<|Dh mixed (by kernel_rfl)<|Rq Z (ld 1 Z Z fH Aw Z)<|Rq Z (mv Z)<|Rq Z (mv Z)<|C3 λx5 h6=>Rq Z (ixR Z Z h6 tu28 Ak Z)<|Rq Z (ldR Z Aw)<|Rq Z (eqA Z Z eq71 Z Z gq71)<|Dd<|Af<|gIf Z Z (λh7=>?_) (λh7=>?_)
   ·refine A2<|Zm Z<|Zb Z<|A5<|Bh<|An<|BE<|Bk<|Ze [] [] Z
   ·refine AW<|Ap<|Af<|Ai<|Zq (I.add Z Z)<|Zm Z<|Ae<|Au (λO U h=>Zu h [1])
  ·refine AC<|AD<|AG<|BA (λO U h=>Zu h [])
 ·refine A2<|Zb Z<|A5<|Ze [] [] Z
def Nm (a0:List V3) (O:V3):Option (Bool) :=
 Ik a0 O>>=λU =>
 some (decide (0<=U))>>=λy4 =>
 some y4
theorem zdx (a0:List V3) (O:V3):Ah Tryz.prog 73 [.rd (A8 aZ) a0,.rd aZ O] [] (Nm a0 O) (λr nv=>⟨[.rd Ac r],[]⟩):=by
 refine Am 9 func73 Z Z Z λH w=>?_;refine A2<|Eb Z (bx 1 Z) λv1=>Zb Z<|A2<|Zm Z<|Zq (ld 1 Z Z fH Aw Z)<|Zc [] [] func69 Z (Um _ _) λr2 n3=>Zq (I.geq Z Z)<|Za Z<|AI 4 Z λy4=>Zn<|A5<|Ze [] [] Z
def Nn (a0:List Bg) (O:(List Ab) × Int):Option (Sum ((List Ab)) ((List Ab) × Int)) :=
 if decide (O.2<(a0.length:Int)) then
  idx a0 O.2>>=λU =>
  app 112 O.1 [U.o]>>=λx9 =>
  some (.inr (x9,w64 (O.2+1)))
 else
  some (.inl O.1)
def No (a0:List Bg):Option ((List Ab)) :=
 (iter (Nn a0) ([],0))>>=λO =>
 some O
theorem zmg (a0:List Bg):Ah Tryz.prog 126 [.rd (A8 Cg) a0] [] (No a0) (λr O=>⟨[.val (O 0)],[(100,some (O 0,.list AA 60 r))]⟩):=by
 refine Am 19 func126 Z Z Z λH w=>?_;refine A2<|Zb Z<|A2<|Zb Z<|AY (λ(s1:(List Ab)) U ww=>∃ O:Nat->Value,Sta (ctx 19 H [] w) [(3,.val (O 0))] [(3,some ((O 0),.list AA 60 s1))] U ww) ?_ (λs1=>?_)
 ·refine A2<|Zm Z<|Zq (Aq Z .rd Z tu118)<|Zm Z<|Zn<|Dk AA 60 7<|AJ (λ(s2:(List Ab) × Int) U ww=>∃ O:Nat->Value,Sta (ctx 19 H [] w) [(3,.val (O 0)),(6,.rd (A8 Cg) a0),(7,.rd A3 (a0.length:Int)),(8,.rd A3 s2.2)] [(6,some ((O 0),.list AA 60 s2.1))] U ww) (λU ww h=>⟨nvl [(.slice none 0 0)],Zu h [7]⟩) (λs2=>?_);refine gEx λn3=>A2<|Zq (I.lss Z Z)<|Zn<|A6<|gIf Z Z (λh4=>?_) (λh4=>?_)
  ·refine Zt<|A6<|AB<|A2<|Al λx5 h6=>Zq (ixR Z Z h6 tu118 DA Z)<|Zq (ldR Z IX)<|Eb Z (AN 8 DA (.zr (R:=Cg) (x:=(⟨(⟨0,[],0,(⟨0,[],(⟨0,0,0,[]⟩:Ay)⟩:AX),(⟨0,0⟩:AQ)⟩:Ab),(Vector.replicate 32 0)⟩:Bg)) IW)) λv7=>Es (sto 8 Z Z fH Z DA)<|Zn<|Ai<|Zm Z<|Zq (faB 8 Z Z underlying123 Z (by exact Ba))<|Zq (ld 8 Z Z (fP (HJ _)) C4 Z)<|Ef Z (lit (R:=AA) ([x5.o]:List Ab) 9 (pP Z Z<|pN) Z tu31 Ba Z Z) λv8=>BW 9 [15] Z (fS Z<|fN)<|Al λx9 a1=>Ef Z (apn 6 Z Z Z .rd a1 tu31 Ba Z Z Z) λa2=>Za Z<|Ae<|Ap<|Af<|Ai<|Zq (I.add Z Z)<|Zm Z<|Ae<|Au (λU ww h=>⟨nvl [a2],Zu h [6]⟩)
  ·refine AC<|AD<|AG<|Av (λU ww h=>⟨nvl [(n3 0)],Zu h [6]⟩)
 ·refine gEx λa6=>A2<|Zm Z<|Zb Z<|A5<|Ze [(a6 0)] [3] Z
def Np (a0:List Ab):Option ((List Ab) × Int) :=
 Kw a0>>=λO =>
 if O.2 != 0 then
  some ([],O.2)
 else
  No O.1>>=λU =>
  some (U,0)
theorem zvv (a0:List Ab):Ah Tryz.prog 74 [.rd (A8 AA) a0] [AE] (Np a0) (λr O=>⟨[.val (O 0),.rd A3 r.2],[(1001,some (.bool true,.glob 1 (Az 64 A9) C6)),(100,some (O 0,.list AA 60 r.1))]⟩):=by
 refine Am 16 func74 Z Z Z λH w=>?_;refine A2<|Za Z<|Zb Z<|A2<|Zm Z<|Zc [1001] [(100,1)] func58 Z (Uk _) λr1 n2=>Zm Z<|Zq (ext Z Z)<|Zq (ext Z Z)<|Za Z<|Zb Z<|A6<|A2<|Zm Z<|Zq (I.neq Z Z)<|Zj Z (λU=>?_) (λU=>?_)
 ·refine A2<|Zm Z<|Za Z<|Zb Z<|A5<|An<|Cl AA 60 2<|Ze [(.slice none 0 0)] [1001,2] Z
 ·refine Zt<|A2<|Zm Z<|BW 1 [9,4,14] Z (fS Z<|fS Z<|fS Z<|fN)<|Zc [] [(100,3)] func126 Z (zmg _) λr4 n5=>Za Z<|Zb Z<|A5<|Ze [(n5 0)] [1001,3] Z
def Ky (a0:Ao) (a1:List V3) (O:(List Ab) × Int):Option (Sum ((List Ab)) ((List Ab) × Int)) :=
 if decide (O.2<(a0.IDs.length:Int)) then
  idx a0.IDs O.2>>=λU =>
  Nm a1 U>>=λa2 =>
  if !a2 then
   idx a0.Ops O.2>>=λa6 =>
   app 112 O.1 [a6]>>=λa7 =>
   some (.inr (a7,w64 (O.2+1)))
  else
   some (.inr (O.1,w64 (O.2+1)))
 else
  some (.inl O.1)
def Nq (a0:Ao) (U:List V3):Option ((List Ab) × Int) :=
 Dx a0>>=λr2 =>
 if r2 != 0 then
  some ([],r2)
 else
  if decide (60<(U.length:Int)) then
   some ([],4)
  else
   (iter (Ky a0 U) ([],0))>>=λs6 =>
   Np s6>>=λO =>
   some (O.1,O.2)
theorem zq8 (a0:Ao) (a1:List V3):Ah Tryz.prog 34 [.rd AF a0,.rd (A8 aZ) a1] [AE] (Nq a0 a1) (λr O=>⟨[.val (O 0),.rd A3 r.2],[(1001,some (.bool true,.glob 1 (Az 64 A9) C6)),(100,some (O 0,.list AA 60 r.1))]⟩):=by
 refine Am 43 func34 Z Z Z λH w=>?_;refine A2<|Eb Z (bx 1 Z) λv1=>Za Z<|Zb Z<|A6<|A2<|Zq (ld 1 Z Z fH BX Z)<|Zc [1001] [] func25 Z (Hj _) λr2 n3=>Zb Z<|A2<|Zm Z<|Zq (I.neq Z Z)<|Zj Z (λh4=>?_) (λh4=>?_)
 ·refine A2<|Zm Z<|Za Z<|Zb Z<|A5<|An<|Cl AA 60 2<|Ze [(.slice none 0 0)] [1001,2] Z
 ·refine Zt<|A6<|A2<|Zm Z<|Zq (Aq Z .rd Z tu28)<|Zq (I.gtr Z Z)<|Zj Z (λh5=>?_) (λh5=>?_)
  ·refine A2<|Za Z<|Zb Z<|A5<|An<|Cl AA 60 3<|Ze [(.slice none 0 0)] [1001,3] Z
  ·refine Zt<|A2<|Zb Z<|AY (λ(s6:(List Ab)) U ww=>∃ O:Nat->Value,Sta (ctx 43 H [AE] w) [(7,.val (O 0))] [(6,some ((O 0),.list AA 60 s6)),AE] U ww) ?_ (λs6=>?_)
   ·refine A2<|Zq (faB 1 Z Z underlying33 Z (by exact AU))<|Zq (ld 1 Z Z (fP (C7 _)) B0 Z)<|Zq (Aq Z .rd Z tu28)<|Zm Z<|Zn<|Dk AA 60 1103<|AJ (λ(s7:(List Ab) × Int) U ww=>∃ O:Nat->Value,Sta (ctx 43 H [AE] w) [(1,.rd (A8 aZ) a1),(2,.val (A7 v1 0)),(7,.val (O 0)),(19,.rd (A8 aZ) a0.IDs),(20,.rd A3 (a0.IDs.length:Int)),(21,.rd A3 s7.2)] [(1,some (v1,.box 33 [.rd AF a0])),(1102,some ((O 0),.list AA 60 s7.1)),AE] U ww) (λU ww h=>⟨nvl [(.slice none 0 0)],Zu h [1,1103,1001]⟩) (λs7=>?_)
    refine gEx λn8=>A2<|Zq (I.lss Z Z)<|Zn<|A6<|gIf Z Z (λh9=>?_) (λh9=>?_)
    ·refine Zt<|A6<|AB<|A2<|Zm Z<|Al λae a2=>Zq (ixR Z Z a2 tu28 Ak Z)<|Zq (ldR Z Aw)<|Eb Z (AN 1104 Ak (.zr (R:=aZ) (x:=(Vector.replicate 32 0)) BU)) λaf=>Za Z<|Es (sto 1104 Z Z fH Z Ak)<|Zn<|A2<|Zm Z<|Zq (ld 1104 Z Z fH Aw Z)<|Zc [] [] func73 Z (zdx _ _) λah ai=>Zq (Cd Z)<|Zj Z (λa6=>?_) (λa6=>?_)
     ·refine Ai<|Zm Z<|Zq (faB 1 Z Z underlying33 Z (by exact BP))<|Zq (ld 1 Z Z (fP (BQ _)) BR Z)<|Zm Z<|Al λa7 a8=>Zq (ixR Z Z a8 tu31 Ba Z)<|Zq (ldR Z C4)<|Ef Z (lit (R:=AA) ([a7]:List Ab) 1105 (pP Z Z<|pN) Z tu31 Ba Z Z) λaj=>BW 1105 [36] Z (fS Z<|fN)<|Al λak ab=>Ef Z (apn 1102 Z Z Z .rd ab tu31 Ba Z Z Z) λac=>Za Z<|Ae<|Ap<|Af<|Ai<|Zq (I.add Z Z)<|Zm Z<|Ae<|Au (λU ww h=>⟨nvl [ac],Zu h [1,1102,1001]⟩)
     ·refine AW<|Ap<|Af<|Ai<|Zq (I.add Z Z)<|Zm Z<|Ae<|Au (λU ww h=>⟨nvl [(n8 0)],Zu h [1,1102,1001]⟩)
    ·refine AC<|AD<|AG<|Av (λU ww h=>⟨nvl [(n8 0)],Zu h [1102,1001]⟩)
   ·refine gEx λam=>A2<|Zm Z<|BW 6 [7,39] Z (fS Z<|fS Z<|fN)<|Zc [1001] [(100,1106)] func74 Z (zvv _) λao ad=>Zq (ext Z Z)<|Zq (ext Z Z)<|Za Z<|Zb Z<|A5<|Ze [(ad 0)] [1001,1106] Z
def Nr (a0:List Ab) (O:(List V3) × Int):Option (Sum ((List V3)) ((List V3) × Int)) :=
 if decide (O.2<(a0.length:Int)) then
  idx a0 O.2>>=λx5 =>
  Jx x5>>=λr7 =>
  app 32 O.1 [r7]>>=λU =>
  some (w64 (O.2+1))>>=λa1 =>
  some (.inr (U,a1))
 else
  some (.inl O.1)
def Il (a0:List Ab):Option ((List V3)) :=
 (iter (Nr a0) ([],0))>>=λO =>
 some O
theorem PP (a0:List Ab):Ah Tryz.prog 119 [.rd (A8 AA) a0] [] (Il a0) (λr O=>⟨[.val (O 0)],[(100,some (O 0,.list aZ 71 r))]⟩):=by
 refine Am 20 func119 Z Z Z λH w=>?_;refine A2<|Zb Z<|A2<|Zb Z<|AY (λ(s1:(List V3)) U ww=>∃ O:Nat->Value,Sta (ctx 20 H [] w) [(3,.val (O 0))] [(2,some ((O 0),.list aZ 71 s1))] U ww) ?_ (λs1=>?_)
 ·refine A2<|Zb Z<|Dk aZ 71 5<|AJ (λ(s2:(List V3) × Int) U ww=>∃ O:Nat->Value,Sta (ctx 20 H [] w) [(0,.rd (A8 AA) a0),(3,.val (O 0)),(4,.rd A3 s2.2)] [(4,some ((O 0),.list aZ 71 s2.1))] U ww) (λU ww h=>⟨nvl [(.slice none 0 0)],Zu h [5]⟩) (λs2=>?_);refine gEx λn3=>A6<|A2<|Zm Z<|Zm Z<|Zq (Aq Z .rd Z tu31)<|Zq (I.lss Z Z)<|Zj Z (λh4=>?_) (λh4=>?_)
  ·refine Zt<|A6<|AB<|Ai<|Zm Z<|Zm Z<|Zm Z<|Al λx5 h6=>Zq (ixR Z Z h6 tu31 Ba Z)<|Zq (ldR Z C4)<|Zc [] [] func62 Z (Tb _) λr7 n8=>Ef Z (lit (R:=aZ) ([r7]:List V3) 6 (pP Z Z<|pN) Z tu28 Ak Z Z) λv9=>BW 6 [17] Z (fS Z<|fN)<|Al λa7 a1=>Ef Z (apn 4 Z Z Z .rd a1 tu28 Ak Z Z Z) λa2=>Za Z<|Ae<|Ap<|Af<|Ai<|Zm Z<|Zq (I.add Z Z)<|Za Z<|AI 4 Z λa8=>Ae<|Au (λU ww h=>⟨nvl [a2],Zu h [4]⟩)
  ·refine AC<|AD<|AG<|Av (λU ww h=>⟨nvl [(n3 0)],Zu h [4]⟩)
 ·refine gEx λa6=>A2<|Zm Z<|Zb Z<|A5<|Ze [(a6 0)] [2] Z
def Ns (a0:Ab) (U:List V3) (a2:List Bool) (O:Int):Option (Sum (Sum Bool Unit) Int) :=
 if decide (O<(U.length:Int)) then
  idx a2 O>>=λx5 =>
  if x5 then
   idx U O>>=λx8 =>
   EK a0.Preds x8>>=λa6 =>
   if decide (0<=a6) then
    some (.inl (.inl false))
   else
    some (.inr (w64 (O+1)))
  else
   some (.inr (w64 (O+1)))
 else
  some (.inl (.inr ()))
def Nt (a0:Ab) (O:List V3) (U:List Bool):Option (Bool) :=
 Bc (iter (Ns a0 O U) 0) λs2 =>
 some true
theorem ziu (a0:Ab) (a1:List V3) (O:Value) (U:List V3) (a2:List Bool) (q2:Value) (l2:List Bool):Ah Tryz.prog 170 [.rd AA a0,.vw aZ O U a1,.vw Ac q2 l2 a2] [(1,some (O,.list aZ 71 U)),(2,some (q2,.list Ac 4 l2))] (Nt a0 a1 a2) (λr nv=>⟨[.rd Ac r],[(1,some (O,.list aZ 71 U)),(2,some (q2,.list Ac 4 l2))]⟩):=by
 refine Am 28 func170 Z Z Z λH w=>?_;refine A2<|Eb Z (bx 3 Z) λv1=>Zb Z<|BM (λ(s2:Unit) aa ww=>Sta (ctx 28 H [(1,some (O,.list aZ 71 U)),(2,some (q2,.list Ac 4 l2))] w) [] [(1,some (O,.list aZ 71 U)),(2,some (q2,.list Ac 4 l2))] aa ww) ?_ (λs2=>?_)
 ·refine A2<|Zb Z<|AJ (λ(s3:Int) aa ww=>Sta (ctx 28 H [(1,some (O,.list aZ 71 U)),(2,some (q2,.list Ac 4 l2))] w) [(1,.vw aZ O U a1),(2,.vw Ac q2 l2 a2),(3,.val (A7 v1 0)),(7,.rd A3 s3)] [(1,some (O,.list aZ 71 U)),(2,some (q2,.list Ac 4 l2)),(3,some (v1,.box 60 [.rd AA a0]))] aa ww) (λaa ww h=>Zu h [1,2,3]) (λs3=>?_);refine A6<|A2<|Zm Z<|Zm Z<|Zq (Aq Z (.vw 1 Z) Z tu28)<|Zq (I.lss Z Z)<|Zj Z (λh4=>?_) (λh4=>?_)
  ·refine Zt<|A6<|AB<|A6<|Bq [] mixed Z Z<|A4 0 Z Z (mv Z)<|A4 1 Z Z (mv Z)<|AZ λx5 h6=>A4 2 Z Z (ixQ 2 Z Z Z h6 tu215 ti4)<|A4 3 Z Z (ldQ 2 Z Z ty4 Z)<|A4 4 Z Z (mv Z)<|hIf 18 Z Z (λh7=>?_) (λh7=>?_)
   ·refine hKn 17 Z Z h7<|Zg 5 Z Z (faB 3 Z Z underlying60 Z (by exact AU))<|Zg 6 Z Z (ld 3 Z Z (fP (Co _)) B0 Z)<|Zg 7 Z Z (mv Z)<|Zg 8 Z Z (mv Z)<|AZ λx8 h9=>Zg 9 Z Z (ixQ 1 Z Z Z h9 tu28 Ak)<|Zg 10 Z Z (ldQ 1 Z Z Aw Z)<|Be 11 [] [] Z (by kernel_rfl) Z Zx Z func35 Z Z (Hk _ _) (Y2 Z Z) rN Z (λ_ _=>Cb) λa7 a8=>Zg 12 Z Z (I.geq Z Z)<|A4 13 Z Z (pkT Z Z)<|AV (by kernel_rfl)<|Af<|gIf Z Z (λa6=>?_) (λa6=>?_)
    ·refine gKn 26 Z a6<|A2<|Zb Z<|A5<|Bh<|An<|BE<|Bk<|Ze [] [1,2] Z
    ·refine gKn 26 Z a6<|AW<|Ap<|Af<|Ai<|Zm Z<|Zq (I.add Z Z)<|Za Z<|Ae<|Au (λaa ww h=>Zu h [1,2,3])
   ·refine hKn 17 Z Z h7<|hSk 5 Z Z<|hSk 6 Z Z<|hSk 7 Z Z<|hSk 8 Z Z<|hSk 9 Z Z<|hSk 10 Z Z<|hSk 11 Z Z<|hSk 12 Z Z<|A4 13 Z Z (pkF Z Z)<|AV (by kernel_rfl)<|Af<|DX Z<|AW<|Ap<|Af<|Ai<|Zm Z<|Zq (I.add Z Z)<|Za Z<|Ae<|Au (λaa ww h=>Zu h [1,2,3])
  ·refine AC<|AD<|AG<|BA (λaa ww h=>Zu h [1,2])
 ·refine A2<|Zb Z<|A5<|Ze [] [1,2] Z
def Kz (a0:List Ab) (O:(List Bool) × Int):Option (Sum ((List Bool)) ((List Bool) × Int)) :=
 if decide (O.2<(a0.length:Int)) then
  idx O.1 O.2>>=λx9 =>
  some (w64 (O.2+1))>>=λU =>
  some (.inr (O.1.set (O.2:Int).toNat true,U))
 else
  some (.inl O.1)
def Im (a0:List Ab) (r1:(List V3)) (U:(List Bool) × (List Int)) (O:Int × Int):Option (Sum Int (Int × Int)) :=
 if decide (O.2<(a0.length:Int)) then
  (idx U.1 O.2>>=λa1 =>
  if a1 then
   idx a0 O.2>>=λa2 =>
   Nt a2 r1 U.1>>=λa6 =>
   if a6 then
    if decide (O.1<0) then
     some true
    else
     idx r1 O.2>>=λa7 =>
     idx r1 O.1>>=λa8 =>
     Gz a7 a8>>=λaa =>
     some (decide (aa<0))
   else
    some false
  else
   some false)>>=λab =>
  if ab then
   some (w64 (O.2+1))>>=λac =>
   some (.inr (O.2,ac))
  else
   some (w64 (O.2+1))>>=λad =>
   some (.inr (O.1,ad))
 else
  some (.inl O.1)
def In (a0:List Ab) (r1:(List V3)) (O:(List Bool) × (List Int)):Option (Sum ((List Int)) ((List Bool) × (List Int))) :=
 (iter (Im a0 r1 O) ((-1),0))>>=λU =>
 if decide (U<0) then
  some (.inl O.2)
 else
  app 8 O.2 [U]>>=λa1 =>
  idx O.1 U>>=λa2 =>
  some (.inr (O.1.set (U:Int).toNat false,a1))
def KA (a0:List Ab):Option ((List Int)) :=
 Il a0>>=λO =>
 mkn 1 false (a0.length:Int)>>=λU =>
 (iter (Kz a0) (U,0))>>=λs6 =>
 iter (In a0 O) (s6,[])
theorem Un (a0:List Ab):Ah Tryz.prog 120 [.rd (A8 AA) a0] [] (KA a0) (λr nv=>⟨[.val (nv 0)],[(100,some (nv 0,.list A3 3 r))]⟩):=by
 refine Am 69 func120 Z Z Z λH w=>?_;refine A2<|Zb Z<|A2<|Zm Z<|Zc [] [(100,1)] func119 Z (PP _) λr1 n2=>Zb Z<|A2<|Zm Z<|Zq (Aq Z .rd Z tu31)<|Al λx3 h4=>Ef Z (mks (R:=Ac) 2 Z Z h4 tu215 ti4 Zr.bool Z) λv5=>Zb Z<|AY (λ(s6:(List Bool)) O U=>Sta (ctx 69 H [] w) [(0,.rd (A8 AA) a0),(3,.val (n2 0)),(4,.val v5)] [(1,some ((n2 0),.list aZ 71 r1)),(2,some (v5,.list Ac 4 s6))] O U) ?_ (λs6=>?_)
 ·refine A2<|Zb Z<|AJ (λ(s7:(List Bool) × Int) O U=>Sta (ctx 69 H [] w) [(0,.rd (A8 AA) a0),(3,.val (n2 0)),(4,.val v5),(5,.rd A3 s7.2)] [(1,some ((n2 0),.list aZ 71 r1)),(2,some (v5,.list Ac 4 s7.1))] O U) (λO U h=>Zu h [1,2]) (λs7=>?_);refine A6<|A2<|Zm Z<|Zm Z<|Zq (Aq Z .rd Z tu31)<|Zq (I.lss Z Z)<|Zj Z (λh8=>?_) (λh8=>?_)
  ·refine Zt<|A6<|AB<|Ai<|Zm Z<|Zm Z<|Al λx9 af=>Zq (ixO 2 Z Z Z af tu215 ti4)<|Es (sto 2 Z Z (Foc.el af) Z ti4)<|Ae<|Ap<|Af<|Ai<|Zm Z<|Zq (I.add Z Z)<|Za Z<|AI 5 Z λau=>Ae<|Au (λO U h=>Zu h [1,2])
  ·refine AC<|AD<|AG<|Av (λO U h=>Zu h [1,2])
 ·refine A2<|Zb Z<|Dk A3 3 96<|AJ (λ(a1:(List Bool) × (List Int)) O U=>∃ nv:Nat->Value,Sta (ctx 69 H [] w) [(0,.rd (A8 AA) a0),(3,.val (n2 0)),(4,.val v5),(6,.val (nv 0))] [(1,some ((n2 0),.list aZ 71 r1)),(2,some (v5,.list Ac 4 a1.1)),(95,some ((nv 0),.list A3 3 a1.2))] O U) (λO U h=>⟨nvl [(.slice none 0 0)],Zu h [1,2,96]⟩) (λa1=>?_);refine gEx λa2=>AB<|A2<|Zb Z<|AY (λ(a8:Int) O U=>Sta (ctx 69 H [] w) [(0,.rd (A8 AA) a0),(3,.val (n2 0)),(4,.val v5),(6,.val (a2 0)),(7,.rd A3 a8)] [(1,some ((n2 0),.list aZ 71 r1)),(2,some (v5,.list Ac 4 a1.1)),(95,some ((a2 0),.list A3 3 a1.2))] O U) ?_ (λa8=>?_)
  ·refine A2<|Zb Z<|AJ (λ(a6:Int × Int) O U=>Sta (ctx 69 H [] w) [(0,.rd (A8 AA) a0),(3,.val (n2 0)),(4,.val v5),(6,.val (a2 0)),(7,.rd A3 a6.1),(8,.rd A3 a6.2)] [(1,some ((n2 0),.list aZ 71 r1)),(2,some (v5,.list Ac 4 a1.1)),(95,some ((a2 0),.list A3 3 a1.2))] O U) (λO U h=>Zu h [1,2,95]) (λa6=>?_);refine A6<|A2<|Zm Z<|Zm Z<|Zq (Aq Z .rd Z tu31)<|Zq (I.lss Z Z)<|Zj Z (λak=>?_) (λak=>?_)
   ·refine Zt<|A6<|AB<|AY (λ(ah:Bool) O U=>Sta (ctx 69 H [] w) [(0,.rd (A8 AA) a0),(3,.val (n2 0)),(4,.val v5),(6,.val (a2 0)),(7,.rd A3 a6.1),(8,.rd A3 a6.2),(57,.rd Ac ah)] [(1,some ((n2 0),.list aZ 71 r1)),(2,some (v5,.list Ac 4 a1.1)),(95,some ((a2 0),.list A3 3 a1.2))] O U) ?_ (λah=>?_)
    ·refine Bq [1,2] mixed Z Z<|A4 0 Z Z (mv Z)<|A4 1 Z Z (mv Z)<|AZ λav ai=>A4 2 Z Z (ixO 2 Z Z Z ai tu215 ti4)<|hRun 3 Z (by kernel_rfl) (gd0 Z) Z Z DY (ld 2 Z Z (Foc.el ai) ty4 Z)<|A4 4 Z Z (mv Z)<|hIf 33 Z Z (λab=>?_) (λab=>?_)
     ·refine hKn 32 Z Z ab<|Zg 5 Z Z (mv Z)<|Zg 6 Z Z (mv Z)<|AZ λaw am=>Zg 7 Z Z (ixR Z Z am tu31 Ba Z)<|Zg 8 Z Z (ldR Z C4)<|Zg 9 Z Z (mv Z)<|Zg 10 Z Z (mv Z)<|Be 11 [1,2] [(1,1),(2,2)] Z (by kernel_rfl) Z Zx Z func170 Z Z (ziu _ _ _ _ _ _ _) (aQ Z<|aW Z<|aW Z<|aN) (Zi Z<|Zi Z<|rN) Z (λ_ _=>DY) λax ay=>A4 12 Z Z (pkT Z Z)<|A4 13 Z Z (mv Z)<|hIf 42 Z Z (λa7=>?_) (λa7=>?_)
      ·refine hKn 40 Z Z a7<|hKn 41 Z Z a7<|Zg 14 Z Z (mv Z)<|Zg 15 Z Z (I.lss Z Z)<|Zg 16 Z Z (mv Z)<|hIf 45 Z Z (λac=>?_) (λac=>?_)
       ·refine hKn 44 Z Z ac<|hSk 17 Z Z<|hSk 18 Z Z<|hSk 19 Z Z<|hSk 20 Z Z<|hSk 21 Z Z<|hSk 22 Z Z<|hSk 23 Z Z<|hSk 24 Z Z<|hSk 25 Z Z<|hSk 26 Z Z<|Zg 27 Z Z (pkT Z Z)<|A4 28 Z Z (pkT Z Z)<|AV (by kernel_rfl)<|Av (λO U h=>Zu h [1,2,95])
       ·refine hKn 44 Z Z ac<|Zg 17 Z Z (mv Z)<|Zg 18 Z Z (mv Z)<|AZ λaz ad=>Zg 19 Z Z (ixO 1 Z Z Z ad tu28 Ak)<|Zg 21 Z Z (mv Z)<|Zg 22 Z Z (mv Z)<|AZ λb0 ae=>Zg 23 Z Z (ixO 1 Z Z Z ae tu28 Ak)<|hAlt [20,24] (by kernel_rfl) Z ⟨?_,?_,trivial⟩
        ·refine oRun 20 Z Zx Z Z anyJ (ld 1 Z Z (Foc.el ad) Aw Z)<|hRun 24 Z (by kernel_rfl) Zx Z Z anyJ (ld 1 Z Z (Foc.el ae) Aw Z)<|Be 25 [] [] Z (by kernel_rfl) Z Zx Z func86 Z Z (Jz _ _) (Y2 Z Z) rN Z (λ_ _=>Cb) λb1 b2=>Zg 26 Z Z (I.lss Z Z)<|Zg 27 Z Z (pkF Z Z)<|A4 28 Z Z (pkT Z Z)<|AV (by kernel_rfl)<|Av (λO U h=>Zu h [1,2,95])
        ·refine oRun 24 Z Zx Z Z anyJ (ld 1 Z Z (Foc.el ae) Aw Z)<|hRun 20 Z (by kernel_rfl) Zx Z Z anyJ (ld 1 Z Z (Foc.el ad) Aw Z)<|Be 25 [] [] Z (by kernel_rfl) Z Zx Z func86 Z Z (Jz _ _) (Y2 Z Z) rN Z (λ_ _=>Cb) λb3 b4=>Zg 26 Z Z (I.lss Z Z)<|Zg 27 Z Z (pkF Z Z)<|A4 28 Z Z (pkT Z Z)<|AV (by kernel_rfl)<|Av (λO U h=>Zu h [1,2,95])
      ·refine hKn 40 Z Z a7<|hKn 41 Z Z a7<|hSk 14 Z Z<|hSk 15 Z Z<|hSk 16 Z Z<|AM 17 Z (by kernel_rfl) (by kernel_rfl) (by kernel_rfl) (gdU Z Z Z) Z Z<|AM 18 Z (by kernel_rfl) (by kernel_rfl) (by kernel_rfl) (gdU Z Z Z) Z Z<|AM 19 Z (by kernel_rfl) (by kernel_rfl) (by kernel_rfl) (gdU Z Z Z) Z Z<|AM 20 Z (by kernel_rfl) (by kernel_rfl) (by kernel_rfl) (gdU Z Z Z) Z Z<|AM 21 Z (by kernel_rfl) (by kernel_rfl) (by kernel_rfl) (gdU Z Z Z) Z Z<|AM 22 Z (by kernel_rfl) (by kernel_rfl) (by kernel_rfl) (gdU Z Z Z) Z Z<|AM 23 Z (by kernel_rfl) (by kernel_rfl) (by kernel_rfl) (gdU Z Z Z) Z Z<|AM 24 Z (by kernel_rfl) (by kernel_rfl) (by kernel_rfl) (gdU Z Z Z) Z Z<|AM 25 Z (by kernel_rfl) (by kernel_rfl) (by kernel_rfl) (gdU Z Z Z) Z Z<|AM 26 Z (by kernel_rfl) (by kernel_rfl) (by kernel_rfl) (gdU Z Z Z) Z Z<|hSk 27 Z Z<|A4 28 Z Z (pkF Z Z)<|AV (by kernel_rfl)<|Av (λO U h=>Zu h [1,2,95])
     ·refine hKn 32 Z Z ab<|hSk 5 Z Z<|hSk 6 Z Z<|hSk 7 Z Z<|hSk 8 Z Z<|hSk 9 Z Z<|hSk 10 Z Z<|hSk 11 Z Z<|A4 12 Z Z (pkF Z Z)<|A4 13 Z Z (mv Z)<|hSk 14 Z Z<|hSk 15 Z Z<|hSk 16 Z Z<|AM 17 Z (by kernel_rfl) (by kernel_rfl) (by kernel_rfl) (gdU Z Z Z) Z Z<|AM 18 Z (by kernel_rfl) (by kernel_rfl) (by kernel_rfl) (gdU Z Z Z) Z Z<|AM 19 Z (by kernel_rfl) (by kernel_rfl) (by kernel_rfl) (gdU Z Z Z) Z Z<|AM 20 Z (by kernel_rfl) (by kernel_rfl) (by kernel_rfl) (gdU Z Z Z) Z Z<|AM 21 Z (by kernel_rfl) (by kernel_rfl) (by kernel_rfl) (gdU Z Z Z) Z Z<|AM 22 Z (by kernel_rfl) (by kernel_rfl) (by kernel_rfl) (gdU Z Z Z) Z Z<|AM 23 Z (by kernel_rfl) (by kernel_rfl) (by kernel_rfl) (gdU Z Z Z) Z Z<|AM 24 Z (by kernel_rfl) (by kernel_rfl) (by kernel_rfl) (gdU Z Z Z) Z Z<|AM 25 Z (by kernel_rfl) (by kernel_rfl) (by kernel_rfl) (gdU Z Z Z) Z Z<|AM 26 Z (by kernel_rfl) (by kernel_rfl) (by kernel_rfl) (gdU Z Z Z) Z Z<|hSk 27 Z Z<|A4 28 Z Z (pkF Z Z)<|AV (by kernel_rfl)<|Av (λO U h=>Zu h [1,2,95])
    ·refine gIf Z Z (λao=>?_) (λao=>?_)
     ·refine Ai<|Zm Z<|Za Z<|Ae<|Ap<|Af<|Ai<|Zm Z<|Zq (I.add Z Z)<|Za Z<|AI 8 Z λb5=>Ae<|Au (λO U h=>Zu h [1,2,95])
     ·refine AW<|Ap<|Af<|Ai<|Zm Z<|Zq (I.add Z Z)<|Za Z<|AI 8 Z λb6=>Ae<|Au (λO U h=>Zu h [1,2,95])
   ·refine AC<|AD<|AG<|Av (λO U h=>Zu h [1,2,95])
  ·refine A6<|A2<|Zm Z<|Zq (I.lss Z Z)<|Zj Z (λap=>?_) (λap=>?_)
   ·refine A2<|Zm Z<|Zb Z<|A5<|An<|Bh<|BE<|Ze [(a2 0)] [95] Z
   ·refine Zt<|A2<|Zm Z<|Zm Z<|Ef Z (lit (R:=A3) ([a8]:List Int) 187 (pP Z Z<|pN) Z tu156 ti3 Z Z) λv39=>Al λb7 aq=>Ef Z (apn 95 Z Z Z (.own 187 Z) aq tu156 ti3 Z Z Z) λar=>Zb Z<|Ai<|Zm Z<|Zm Z<|Al λb8 aj=>Zq (ixO 2 Z Z Z aj tu215 ti4)<|Es (sto 2 Z Z (Foc.el aj) Z ti4)<|Ae<|Ap<|Au (λO U h=>⟨nvl [ar],Zu h [1,2,95]⟩)
def KB (a0:List Ab) (O:Int):Option (Sum (Sum Int Unit) Int) :=
 if decide (O<(a0.length:Int)) then
  idx a0 O>>=λx5 =>
  HZ x5>>=λU =>
  if U != 0 then
   some (.inl (.inl U))
  else
   some (.inr (w64 (O+1)))
 else
  some (.inl (.inr ()))
def Io (O:(List V3) × Int):Option (Sum (Sum Int Unit) ((List V3) × Int)) :=
 if decide (O.2<(O.1.length:Int)) then
  idx O.1 O.2>>=λU =>
  EK O.1 U>>=λa1 =>
  if decide (a1<O.2) then
   some (.inl (.inl 14))
  else
   some (w64 (O.2+1))>>=λa2 =>
   some (.inr (O.1,a2))
 else
  some (.inl (.inr ()))
def Nu (a0:List Ab):Option (Int) :=
 if decide (60<(a0.length:Int)) then
  some 4
 else
  Bc (iter (KB a0) 0) λs2 =>
  Il a0>>=λO =>
  Bc (iter (Io) (O,0)) λa1 =>
  KA a0>>=λU =>
  if decide ((U.length:Int)<(a0.length:Int)) then
   some 36
  else
   some 0
end
end Go.Proofs.YtdeegahcaekfaaaGreatDoor
