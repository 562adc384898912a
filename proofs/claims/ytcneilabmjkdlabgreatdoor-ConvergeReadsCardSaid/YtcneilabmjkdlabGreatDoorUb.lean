import Derived.Test.YtcneilabmjkdlabGreatDoorUa
set_option linter.unusedSimpArgs false
set_option linter.unusedVariables false
namespace Go.Proofs.YtcneilabmjkdlabGreatDoor
section
open Go Go.RowKit
variable {ro:Option Nat}
def z4l.glob {α:Type} (g:Nat) (R:Rep α) (x:α):z4l where
 nil S w v:=v=.bool true∧(Ent.rp R x).holds S w (.pointer (some ⟨g,0,none⟩))
 nilm k h:=⟨h.1,(Ent.rp R x).mono k h.2⟩
 nilb h:=by rw [h.1]; rfl
 rel _ _ _ _:=False
 mono _ h:=h
section
variable {C:World→World→Prop} {P:Program} {Γ:Ctx} {l:z1p} {res:Res} {d:Tmp} {ty:TypeId} {pos:String} {after:Array Edge} {g:Option (Nat × Bool)}
theorem z14j {α:Type} {gl:Nat} {R:Rep α} {x:α} {v:Value} {a:Act} {w:World} (ha:Sta Γ l res a w) (r:Nat) (hr:lr res r=some (v,.glob gl R x)):(Ent.rp R x).holds (Shr Γ.H res w) w (.pointer (some ⟨gl,0,none⟩)):=by
 rcases ha.conts r v _ hr with h | ⟨b,o,_,_,h⟩
 ·exact h.2
 ·exact h.elim
theorem ixG {α β:Type} {n:Nat} {R:Rep α} {b:Vector α n} {y:α} {k:IntKind} {f:β→Int} {j:β} {z':Operand} {T e:TypeId} {z v:Value} {by_ gl:Nat} (r:Nat) (hr:lr res r=some (v,.glob gl (z3m n R) b)) (hj:opE l z'=some (.rd (z9b k f) j)) (hy:z7m b (f j)=some y) (hT:P.underlying T=some (.array n e)) (hE:TI P e z R.sz by_) :
  Run C P Γ l res ⟨some d,.indexAddr T (.global gl) z',ty,pos,after,g⟩ (.rp R y):=fun a w ha=>by
 obtain ⟨b',o,h1,h2⟩:=(z4d.el hy).ptr (z14j ha r hr);obtain ⟨k1,k3⟩:=zp5 hy;have hj':a.eval z'=.int k ((f j).toNat:Int):=by rw [z4q (ha.vl hj)]; congr 1; omega
 have hx:a.eval (.global gl)=.pointer (some ⟨gl,0,none⟩):=rfl;exact ⟨_, fun w' _=>zf7 hT hE (hx.trans h1) hj' rfl k3 rfl,h2⟩
end
theorem z18z {ρ:Type} {P:Program} {A:Asn} {c:Code} {Q:ρ→Exit→Act→World→Prop}:G ro P A c Q none:=fun a w ha r hr=>by cases hr
section
variable {ρ:Type} {P:Program} {Γ:Ctx} {l l0:z1p} {res res0:Res} {ws:List Nat} {m m1 m2:Option ρ} {os:List Oper} {N:ρ→Exit→Act→World→Prop}
 {d:Tmp} {op:Op} {ty:TypeId} {pos:String} {after:Array Edge} {g:Option (Nat × Bool)} {fuel i:Nat} {listed listed':Array Bool} {rest:List Oper}
theorem z17a {σ:Type} {f:FuncId} {F:Func} {b:Code} {args:List Operand} {ats:Array TypeId} {x:Operand} {cap:List Value} {pin pa pc:List Ent} {rin:Res} {m1:Option σ} {q:σ→(Nat→Value)→zn0} {kk:σ→Option ρ} (i:Nat) (ns:List Nat) (mp:List (Nat × Nat)) (e0:σ→(Nat→Value)→Ent)
  (hi:os.toArray[i]? = some ⟨some d,.call ⟨.value x,args.toArray,ats⟩,ty,pos,after,g⟩) (hrd:Region.ready .any os.toArray listed=[i]) (hl:listed.setIfInBounds i true=listed') (hg:Grd os l ⟨some d,.call ⟨.value x,args.toArray,ats⟩,ty,pos,after,g⟩ true) (hn:Nat.blt d Γ.n=true)
  (hF:P.funcs[f]? = some F) (hB:F.body=some b) (hnm:(F.name == "runtime.NumGoroutine")=false) (hx:opE l x=some (.val (.func (.func f) #[] cap.toArray))) (hS:z1u P f pin rin m1 q) (hA:z9j l args pa) (hC:zwr res cap pc) (hpp:pin=pa++pc) (hr:zby res rin ns) (hw:ns.all (fun n=>ws.contains n)=true)
  (he0:∀ s nv v S w S' w',(zks (q s nv).ret).holds S w v→(e0 s nv).holds S' w' v)
  (k:∀ s nv,GH P os Γ ((d,e0 s nv)::l0) res0 ws ((d,zks (q s nv).ret)::l) (aft ns mp (q s nv).res res) N fuel listed' (kk s)) :
  GH P os Γ l0 res0 ws l res N (fuel+1) listed (m1 >>= kk):=fun a w0 w ha r hm=>by
 subst hpp
 cases hm1:m1 with
 | none=>rw [hm1] at hm; cases hm
 | some s =>
  rw [hm1] at hm;refine wpAnyH_all hrd (by simp) (fun j hj=>?_);simp only [List.mem_singleton] at hj;subst hj;have hgw:=hg.wanted ha.s;unfold wpOp;simp only [hi,hgw,if_true];refine .inl ?_;have hrun:(execOp a.eval ⟨some d,.call ⟨.value x,args.toArray,ats⟩,ty,pos,after,g⟩).run P w=.ok (.enter f (args.map a.eval++cap).toArray) w:=by
   simp [execOp,resolve,(ha.s.vl hx).1,Deferred.ofValue,invoke,zd7 hF hB hnm,← Array.append_assoc]
  unfold Oper.wp; rw [hrun];simp only [Oper.upon];have hH:∀ b,(fun b=>Γ.H b∨∃ r v c,lr res r=some (v,c)∧ns.contains r=false∧z58 v=some b) b↔Γ.H b∨∃ r v c,lr res r=some (v,c)∧ns.contains r=false∧z58 v=some b:=fun _=>Iff.rfl;obtain ⟨h1,h2⟩:=znk.of ha.s hr hH;refine (hS s hm1 _ _ w ((z9j.get ha.s h2 hA).mk (zwr.get ha.s hC)) h1).mono fun e w' hR=>?_;obtain ⟨nv,vs,rfl,hp⟩:=hR;obtain ⟨⟨h3,h5⟩,h4,h6⟩:=ha.s.called (mp:=mp) hr hH hp
  have hlent:∀ b,Bof rin b→(∃ r0 v0 c0,ws.contains r0=true∧lr res0 r0=some (v0,c0)∧z58 v0=some b)∨w0.heap.size≤b:=fun b ⟨r',v,c,q1,q2⟩=>by
   obtain ⟨n,q3,q4⟩:=hr.get q1;have hn':ws.contains n=true:=by simpa using (List.all_eq_true.1 hw) n q3
   exact ha.wsp n v c b hn' q4 q2
  have hcw:CW res0 ws w0 w':=by
   refine zl0.tr ha.cw hp.keep (fun b hb=>⟨Nat.lt_of_lt_of_le hb.1 ha.cw.size, fun hB=>?_⟩);rcases hlent b hB with ⟨r0,v0,c0,q1,q2,q3⟩ | q1
   ·exact hb.2 r0 v0 c0 q1 q2 q3
   ·have:=hb.1; omega
  refine ⟨hcw,?_⟩;rw [hl];refine k s nv _ w0 w' (SH.put ⟨ha.s0,h3,hcw,ha.st.tr h5, fun r2 v2 c2 b2 k1 k2 k3=>?_⟩ hn (he0 s nv _ _ _ _ _ h4) h4) r hm;rcases zj6 k2 with ⟨k',q1,q2⟩ | ⟨q1,q2⟩
  ·rcases hp.own k' v2 c2 q2 b2 k3 with q3 | q3
   ·exact .inr (Nat.le_trans ha.cw.size q3)
   ·exact hlent b2 q3
  ·exact ha.wsp r2 v2 c2 b2 k1 q2 k3
theorem ztg {σ:Type} {f:FuncId} {F:Func} {b:Code} {args:List Operand} {ats:Array TypeId} {x:Operand} {cap:List Value} {pin pa pc:List Ent} {rin:Res} {m1:Option σ} {q:σ→(Nat→Value)→zn0} {kk:σ→Option ρ} (i:Nat) (ns:List Nat) (mp:List (Nat × Nat))
  (hi:os.toArray[i]? = some ⟨some d,.call ⟨.value x,args.toArray,ats⟩,ty,pos,after,g⟩) (hrd:Region.ready .any os.toArray listed=[i]) (hl:listed.setIfInBounds i true=listed') (hg:Grd os l ⟨some d,.call ⟨.value x,args.toArray,ats⟩,ty,pos,after,g⟩ true) (hn:Nat.blt d Γ.n=true)
  (hF:P.funcs[f]? = some F) (hB:F.body=some b) (hnm:(F.name == "runtime.NumGoroutine")=false) (hx:opE l x=some (.val (.func (.func f) #[] cap.toArray))) (hS:z1u P f pin rin m1 q) (hA:z9j l args pa) (hC:zwr res cap pc) (hpp:pin=pa++pc) (hr:zby res rin ns) (hw:ns.all (fun n=>ws.contains n)=true)
  (hfl:∀ s nv,(zks (q s nv).ret).flat) (k:∀ s nv,GH P os Γ ((d,zks (q s nv).ret)::l0) res0 ws ((d,zks (q s nv).ret)::l) (aft ns mp (q s nv).res res) N fuel listed' (kk s)) :
  GH P os Γ l0 res0 ws l res N (fuel+1) listed (m1 >>= kk):=z17a i ns mp (fun s nv=>zks (q s nv).ret) hi hrd hl hg hn hF hB hnm hx hS hA hC hpp hr hw (fun s nv v S w S' w' h=>hfl s nv S w S' w' v h) k
end
end
section
open Go Go.RowKit Go.ChangeShapes
section
variable {P:Program} {w:World} {H:Type} {enc:TypeId × Value→H}
theorem z12r {base:Nat} {spare:Nat→Bool} {held:Bool} {fuel:Nat} {T e:TypeId} {n:Nat} {k:IntKind} {cs:List Value} {ds:List Int} {p:List MemPlace} (hT:P.underlying T=some (.array n e)) (he:P.underlying e=some (.int k)) (hc:P.cellsOf e=1) (hl:P.cellsOf T=n)
  (h:DataW.trod enc P w base spare held fuel T cs=some (.agg (ds.map fun i=>.lit (.int k i)),p)):cs=ds.map (fun i=>Value.int k i):=by
 obtain ⟨xs,m,-,hx,hlen,hxl,hi⟩:=DataW.trod_array hT h;simp only [Prod.mk.injEq,DataW.agg.injEq] at hx;have hx:=hx.1;have hlen2:ds.length=n:=by have:=congrArg List.length hx; simpa [hxl] using this
 rw [hc] at hi
 apply List.ext_getElem
 ·rw [hlen,hl]; simp [hlen2]
 ·intro i h1 h2;have hin:i<n:=by rw [hlen,hl] at h1; exact h1
  have h3:=hi i hin;rw [List.getElem?_eq_getElem (by omega)] at h3;obtain ⟨v,e1,e2,-⟩:=DataW.trod_int he h3;have e3:(cs.drop (i * 1)).take 1=[cs[i]]:=by rw [Nat.mul_one,List.drop_eq_getElem_cons h1]; rfl
  rw [e3] at e1;have e4:cs[i]=.int k v:=by simpa using e1
  have e5:(xs.map (·.1))[i]'(by simp; omega)=.lit (.int k v):=by simp [e2]
  have e6:(xs.map (·.1))[i]'(by simp; omega)=.lit (.int k (ds[i]'(by omega))):=by simp [← hx]
  rw [e5] at e6;have e7:v=ds[i]'(by omega):=by simpa using e6
  rw [e4,e7]; simp
theorem zpw {α:Type} {k:IntKind} {f:α→Int} {S:Blk}:∀ l:List α,z5r (z9b k f) S w (l.map fun x=>Value.int k (f x)) l
 | []=>rfl
 | x::l=>⟨[.int k (f x)],_,rfl,rfl,zpw l⟩
theorem z10h {nm:String} {d:DataW Unit} {g:Nat} {T e:TypeId} {n:Nat} {k:IntKind} {α:Type} {f:α→Int} {x:Vector α n} (h:laidMetH P [(nm,d)] w) (hp:([(nm,d)].all fun x=>x.2.handleName?.isNone)=true) (hg:P.globalNamed nm=some g) (ht:(P.globals[g]?).map (·.type)=some T)
  (hT:P.underlying T=some (.array n e)) (he:P.underlying e=some (.int k)) (hc:P.cellsOf e=1) (hl:P.cellsOf T=n) (hn:0<n) (hd:d=.agg ((x.toList.map f).map fun i=>.lit (.int k i))):(Ent.rp (z3m n (z9b k f)) x).holds (zue w) w (.pointer (some ⟨g,0,none⟩)):=by
 rw [MakeChecks.laidMetH_plain _ _ _ hp] at h;obtain ⟨ps,⟨g0,t0,cs0,f0,p0,q0,hg0,ht0,hv0,hd0,_,_⟩,_,_⟩:=h;obtain rfl:=Option.some.inj (hg.symm.trans hg0);obtain rfl:=Option.some.inj (ht.symm.trans ht0);rw [hd] at hd0;have hcs:=z12r hT he hc hl hd0;have hcell:∀ (j:Nat) (u:Value),cs0.toList[j]? = some u→w.cell? ⟨g,0+j,none⟩=some u:=fun j u hu=>by
  rw [Nat.zero_add,World.var?_cell hg hv0 j]; simpa using hu
 refine ⟨g,0,cs0.toList,rfl,?_,?_,hcell⟩
 ·have hz:cs0.toList.length=n:=by rw [hcs]; simp
  have h0:cs0.toList[0]? = some (cs0.toList[0]'(by omega)):=List.getElem?_eq_getElem (by omega);exact ⟨World.block_lt_of_cell? w ⟨g,0+0,none⟩ (hcell 0 _ h0), fun r v c h=>by simp [lr,lk] at h, fun h=>h⟩
 ·show z5r (z9b k f) (zue w) w cs0.toList x.toList;rw [hcs,List.map_map];exact zpw x.toList
theorem z1u.lawG {f:FuncId} {pin:List Ent} {rin:Res} {m:Option Bool} {vs:List Value} {W:World} (hS:z1u P f pin rin m (fun r nv=>⟨[.rd z09 r],rin⟩)) (hm:m=some true) (hv:z3i (zue W) W pin vs)
  (hb:∀ r v c,lr rin r=some (v,c)→z58 v=none) (hc:∀ r v c,lr rin r=some (v,c)→c.holds (zue W) W v) :
  Calls P f vs.toArray W (fun e W'=>e=.returned (.bool true)∧Ext W W'):=by
 have hno:∀ b,¬ Bof rin b:=fun b ⟨r,v,c,h,h2⟩=>by rw [hb r v c h] at h2; cases h2
 have hst:z9q (zue W) (Shr (fun _=>False) rin W) W W:=fun b hb'=>⟨⟨hb'.1, fun r v c h e=>(by rw [hb r v c h] at e; cases e), fun h=>h⟩,rfl⟩
 refine (hS true hm (fun _=>False) vs W (hv.mono hst) ⟨fun r v c h=>(hc r v c h).mono hst (fun _ _=>rfl), fun r v c r' v' c' h _ _ b h2=>(by rw [hb r v c h] at h2; cases h2), fun b h=>h.elim⟩).mono fun e W' h=>?_
 obtain ⟨nv,us,rfl,hp⟩:=h
 match us,hp.ret with
 | [u],⟨h1,_⟩ =>
  obtain ⟨cs,h2,h3⟩:=h1;have h2:cs=[.bool true]:=h2;subst h2;refine ⟨?_,hp.keep.os,hp.keep.tape,hp.keep.output,hp.keep.size, fun b hb=>hp.keep.block b ⟨hb,hno b⟩⟩;show Ending.returned u=_;rw [h3]; rfl
end
end
section
open Go Go.RowKit
section
variable {P:Program}
def EqR {α:Type} [DecidableEq α] (P:Program) (T:TypeId) (R:Rep α) (k:Nat):Prop :=
 ∀ (d:Nat),k≤d→∀ (S:Blk) (w:World) (c c':List Value) (x y:α),R.rel S w c x→R.rel S w c' y→∀ w',(Op.equalIn d T (R.val c) (R.val c')).run P w'=.ok (decide (x=y)) w'
theorem EqR.num {α:Type} [DecidableEq α] {T:TypeId} {k:IntKind} {f:α→Int} (hT:P.underlying T=some (.int k)) (hf:∀ x y,f x=f y→x=y):EqR P T (z9b k f) 1:=fun d hd S w c c' x y h h' w'=>by
 have h:c=[.int k (f x)]:=h;have h':c'=[.int k (f y)]:=h';subst h; subst h';obtain ⟨n,rfl⟩:∃ n,d=n+1:=⟨d - 1, by omega⟩
 show (Op.equalIn (n+1) T (.int k (f x)) (.int k (f y))).run P w'=_;rw [Go.run_equalIn_int w' n T k k _ _ hT]
 congr 1
 by_cases e:x=y
 ·subst e; simp
 ·rw [decide_eq_false e]; exact beq_false_of_ne (fun h=>e (hf _ _ h))
theorem EqR.i64 {T:TypeId} (hT:P.underlying T=some (.int .i64)):EqR P T z08 1:=EqR.num hT (fun _ _ h=>h)
theorem EqR.u8 {T:TypeId} (hT:P.underlying T=some (.int .u8)):EqR P T u8R 1:=EqR.num hT (fun _ _ h=>UInt8.toNat_inj.1 (Int.ofNat.inj h))
theorem EqR.u64 {T:TypeId} (hT:P.underlying T=some (.int .u64)):EqR P T z2x 1:=EqR.num hT (fun _ _ h=>UInt64.toNat_inj.1 (Int.ofNat.inj h))
theorem EqR.str {T:TypeId} (hT:P.underlying T=some .string):EqR P T z3q 1:=fun d hd S w c c' x y h h' w'=>by
 obtain ⟨s,rfl,rfl⟩:=h;obtain ⟨t,rfl,rfl⟩:=h';obtain ⟨n,rfl⟩:∃ n,d=n+1:=⟨d - 1, by omega⟩
 show (Op.equalIn (n+1) T (.string s) (.string t)).run P w'=_;rw [Go.run_equalIn_string w' n T _ _ hT,z3c,z3c]
 congr 1
 rw [Bool.eq_iff_iff]; simp
theorem zdl {α:Type} {R:Rep α} {S:Blk} {w:World} {T:TypeId} {x:α} {a c d:List Value} {xs:Array Value} (hx:xs.toList=a++c++d) (hr:R.rel S w c x) (hT:zbt P T R.agg R.sz) (w':World):(part T xs a.length).run P w'=.ok (R.val c) w':=by
 have hlen:=R.len hr;unfold part;unfold zbt at hT;unfold Rep.val
 cases ha:R.agg with
 | true =>
  rw [ha,if_pos rfl] at hT;obtain ⟨⟨ds,h1,h2⟩,z,by_,h3⟩:=hT;have hag:(isAgg T).run P w'=.ok true w':=by
   cases ds <;> simp only at h2 <;> simp [isAgg,run_underlying h1]
  have he:xs.extract a.length (a.length+R.sz)=c.toArray:=by
   apply Array.toList_inj.1
   rw [Array.toList_extract,hx,List.extract_eq_take_drop,List.append_assoc,List.drop_left',← hlen]
   ·simp
   ·rfl
  simp only [Sem.run_bind,hag,Result.andThen,if_true,z3a h3,Sem.run_pure,he];rfl
 | false =>
  rw [ha,if_neg (by simp)] at hT;obtain ⟨ds,h1,h2⟩:=hT;have hag:(isAgg T).run P w'=.ok false w':=by
   cases ds <;> simp only at h2 <;> simp [isAgg,run_underlying h1]
  rw [R.scal ha] at hlen
  match c,hlen with
  | [u],_ =>
   have he:xs[a.length]? = some u:=by rw [← Array.getElem?_toList,hx]; simp
   simp only [Sem.run_bind,hag,Result.andThen,Bool.false_eq_true,if_false,he,Sem.run_pure];rfl
theorem EqR.items {α:Type} [DecidableEq α] {R:Rep α} {e:TypeId} {k d:Nat} (hE:EqR P e R k) (hk:k≤d) (hT:zbt P e R.agg R.sz) {S:Blk} {w:World} {xs ys:Array Value} {l m:List α} (hx:z5r R S w xs.toList l) (hy:z5r R S w ys.toList m) (w':World):∀ (is:List Nat),(∀ i∈is,i<l.length∧i<m.length) →
  (Op.eqItems d e R.sz xs ys is).run P w'=.ok (is.all fun i=>decide (l[i]? = m[i]?)) w'
 | [],_=>rfl
 | i::is,h=>by
  obtain ⟨h1,h2⟩:=h i (by simp);obtain ⟨a,c,dd,e1,e2,e3,-⟩:=hx.split (List.getElem?_eq_getElem h1);obtain ⟨a',c',dd',f1,f2,f3,-⟩:=hy.split (List.getElem?_eq_getElem h2);have ih:=EqR.items hE hk hT hx hy w' is (fun j hj=>h j (by simp [hj]));have p1:=zdl (P:=P) e1 e3 hT w';have p2:=zdl (P:=P) f1 f3 hT w';rw [e2] at p1;rw [f2] at p2;have p3:=hE d hk S w c c' _ _ e3 f3 w';simp only [Op.eqItems,Sem.run_bind,p1,p2,p3,Result.andThen]
  rw [List.all_cons,List.getElem?_eq_getElem h1,List.getElem?_eq_getElem h2];by_cases hc:l[i]=m[i]
  ·simp [hc,ih]
  ·simp [hc,Sem.run_pure]
theorem EqR.arr {α:Type} [DecidableEq α] {R:Rep α} {T e:TypeId} {n k:Nat} {z:Value} {by_:Nat} (hE:EqR P e R k) (hT:P.underlying T=some (.array n e)) (hI:TI P e z R.sz by_) (hTy:zbt P e R.agg R.sz):EqR P T (z3m n R) (k+1):=fun d hd S w c c' x y h h' w'=>by
 obtain ⟨d',rfl⟩:∃ d',d=d'+1:=⟨d - 1, by omega⟩
 obtain ⟨i,hi,-,hs,-⟩:=hI;have hc:P.cellsOf e=R.sz:=by unfold Program.cellsOf; rw [hi]; simpa using hs
 show (Op.equalIn (d'+1) T (.agg c.toArray) (.agg c'.toArray)).run P w'=_;rw [Go.run_equalIn_array w' d' c.toArray c'.toArray hT hi,hc,EqR.items hE (by omega) hTy (l:=x.toList) (m:=y.toList) h h' w' (List.range n) (fun i hi=>by simpa using hi)]
 congr 1
 by_cases hxy:x=y
 ·subst hxy; simp
 ·rw [decide_eq_false hxy];refine Bool.eq_false_iff.2 fun h2=>hxy ?_
  apply Vector.toList_inj.1
  apply List.ext_getElem?
  intro i;by_cases hi:i<n
  ·have:=List.all_eq_true.1 h2 i (by simpa using hi)
   exact of_decide_eq_true this
  ·rw [List.getElem?_eq_none (by simp; omega),List.getElem?_eq_none (by simp; omega)]
def EqF {γ:Type} [DecidableEq γ] (P:Program) (fs:List Field) (o:Nat) (R:Rep γ) (k:Nat):Prop :=
 ∀ (d:Nat),k≤d→∀ (S:Blk) (w:World) (xs ys:Array Value) (x y:γ) (a a':List Value),xs.toList=a++xs.toList.drop o→ys.toList=a'++ys.toList.drop o→a.length=o→a'.length=o→R.rel S w (xs.toList.drop o) x→R.rel S w (ys.toList.drop o) y→∀ w',(Op.eqFields d xs ys fs).run P w'=.ok (decide (x=y)) w'
theorem EqF.nil {o:Nat}:EqF P [] o zdb 0:=fun d hd S w xs ys x y a a' _ _ _ _ h h' w'=>by simp [Op.eqFields,Sem.run_pure]
theorem EqF.cons {α β:Type} [DecidableEq α] [DecidableEq β] {R:Rep α} {R2:Rep β} {f:Field} {fs:List Field} {o k k2:Nat} (h1:EqR P f.type R k) (hT:zbt P f.type R.agg R.sz) (ho:f.offset=o) (hn:(f.name == "_")=false) (h2:EqF P fs (o+R.sz) R2 k2):EqF P (f::fs) o (z4y R R2) (max k k2):=fun d hd S w xs ys x y a a' hx hy ha ha' h h' w'=>by
 obtain ⟨c,r,e1,e2,e3⟩:=h;obtain ⟨c',r',f1,f2,f3⟩:=h';have hlc:=R.len e2;have hlc':=R.len f2;have hdx:xs.toList.drop (o+R.sz)=r:=by rw [← List.drop_drop,e1,← hlc]; simp
 have hdy:ys.toList.drop (o+R.sz)=r':=by rw [← List.drop_drop,f1,← hlc']; simp
 have p1:=zdl (P:=P) (xs:=xs) (a:=a) (c:=c) (d:=r) (by rw [List.append_assoc,← e1]; exact hx) e2 hT w';have p2:=zdl (P:=P) (xs:=ys) (a:=a') (c:=c') (d:=r') (by rw [List.append_assoc,← f1]; exact hy) f2 hT w';rw [ha] at p1;rw [ha'] at p2;have p3:=h1 d (by omega) S w c c' x.1 y.1 e2 f2 w';have ih:=h2 d (by omega) S w xs ys x.2 y.2 (a++c) (a'++c') (by rw [hdx,List.append_assoc,← e1]; exact hx) (by rw [hdy,List.append_assoc,← f1]; exact hy) (by simp [ha,hlc]) (by simp [ha',hlc']) (by rw [hdx]; exact e3) (by rw [hdy]; exact f3) w'
 have hne:f.name ≠ "_" := by simpa using hn
 simp only [Op.eqFields,if_pos hne,Sem.run_bind,ho,p1,p2,p3,Result.andThen];by_cases hc:x.1=y.1
 ·simp only [hc,decide_true,Bool.not_true,Bool.false_eq_true,if_false,ih]
  congr 1
  rw [decide_eq_decide];exact ⟨fun h=>Prod.ext hc h, fun h=>by rw [h]⟩
 ·have hxy:x≠y:=fun h=>hc (by rw [h]);simp [hc,hxy,Sem.run_pure]
theorem EqR.struct {β γ:Type} [DecidableEq β] [DecidableEq γ] {R:Rep γ} {g:β→γ} {T:TypeId} {fs:Array Field} {k:Nat} (hF:EqF P fs.toList 0 R k) (hT:P.underlying T=some (.struct fs)) (hp:P.stoodInHeld T=false) (hg:∀ x y,g x=g y→x=y) (hag:R.agg=true):EqR P T (zjw g R) (k+1):=fun d hd S w c c' x y h h' w'=>by
 obtain ⟨d',rfl⟩:∃ d',d=d'+1:=⟨d - 1, by omega⟩
 have hfs:P.fieldsOf T=fs:=by simp [Program.fieldsOf,hT]
 have e1:(zjw g R).val c=.agg c.toArray:=by simp [Rep.val,zjw,hag]
 have e2:(zjw g R).val c'=.agg c'.toArray:=by simp [Rep.val,zjw,hag]
 rw [e1,e2,Go.run_equalIn_struct w' d' T _ _ (by rw [hfs]; exact hT) hp,hfs];rw [hF d' (by omega) S w c.toArray c'.toArray (g x) (g y) [] [] (by simp) (by simp) rfl rfl (by simpa using (show R.rel S w c (g x) from h)) (by simpa using (show R.rel S w c' (g y) from h')) w']
 congr 1
 rw [decide_eq_decide];exact ⟨fun h=>hg _ _ h, fun h=>by rw [h]⟩
end
section
variable {C:World→World→Prop} {P:Program} {Γ:Ctx} {l:z1p} {res:Res} {d:Tmp} {ty:TypeId} {pos:String} {after:Array Edge} {g:Option (Nat × Bool)}
theorem eqA {α:Type} [DecidableEq α] {R:Rep α} {T T':TypeId} {x y:Operand} {a b:α} {k:Nat} (hx:opE l x=some (.rd R a)) (hy:opE l y=some (.rd R b)) (hE:EqR P T R k) (hk:Nat.ble k 10000=true) (hag:R.agg=true) (hg:P.eqGuardType P.depth T=false):Run C P Γ l res ⟨some d,.binOp .eql T x y T',ty,pos,after,g⟩ (.rd z09 (decide (a=b))):=fun f w ha=>by
 obtain ⟨c,h1,h2⟩:=ha.vl hx;obtain ⟨c',h3,h4⟩:=ha.vl hy;have e1:f.eval x=.agg c.toArray:=by rw [h2]; simp [Rep.val,hag]
 have e2:f.eval y=.agg c'.toArray:=by rw [h4]; simp [Rep.val,hag]
 refine ⟨_, fun w' _=>zaf (v:=.bool (decide (a=b))) ?_ ?_,z8e⟩
 ·rw [e1,e2]; exact Go.run_eqGuard_agg w' .eql T x y _ _ hg
 ·have:=hE 10000 (Nat.le_of_ble_eq_true hk) _ w c c' a b h1 h3 w'
  rw [show R.val c=.agg c.toArray by simp [Rep.val,hag], show R.val c'=.agg c'.toArray by simp [Rep.val,hag]] at this;rw [e1,e2,Go.run_eql_struct,this]; rfl
theorem neA {α:Type} [DecidableEq α] {R:Rep α} {T T':TypeId} {x y:Operand} {a b:α} {k:Nat} (hx:opE l x=some (.rd R a)) (hy:opE l y=some (.rd R b)) (hE:EqR P T R k) (hk:Nat.ble k 10000=true) (hag:R.agg=true) (hg:P.eqGuardType P.depth T=false):Run C P Γ l res ⟨some d,.binOp .neq T x y T',ty,pos,after,g⟩ (.rd z09 (!decide (a=b))):=fun f w ha=>by
 obtain ⟨c,h1,h2⟩:=ha.vl hx;obtain ⟨c',h3,h4⟩:=ha.vl hy;have e1:f.eval x=.agg c.toArray:=by rw [h2]; simp [Rep.val,hag]
 have e2:f.eval y=.agg c'.toArray:=by rw [h4]; simp [Rep.val,hag]
 refine ⟨_, fun w' _=>zaf (v:=.bool (!decide (a=b))) ?_ ?_,z8e⟩
 ·rw [e1,e2]; exact Go.run_eqGuard_agg w' .neq T x y _ _ hg
 ·have:=hE 10000 (Nat.le_of_ble_eq_true hk) _ w c c' a b h1 h3 w'
  rw [show R.val c=.agg c.toArray by simp [Rep.val,hag], show R.val c'=.agg c'.toArray by simp [Rep.val,hag]] at this;rw [e1,e2,Go.run_neq_struct,this]; rfl
end
end
section
open Go Go.RowKit
section
variable {κ β:Type} [DecidableEq κ]
def zax:List (κ × β)→κ→Option β
 | [],_=>none
 | p::m,k=>if k=p.1 then some p.2 else zax m k
def zmz:List (κ × β)→κ→β→List (κ × β)
 | [],k,v=>[(k,v)]
 | p::m,k,v=>if k=p.1 then (p.1,v)::m else p::zmz m k v
def mdel:List (κ × β)→κ→List (κ × β)
 | [],_=>[]
 | p::m,k=>if k=p.1 then m else p::mdel m k
end
structure zjr {κ:Type} [DecidableEq κ] (P:Program) (T:TypeId) (R:Rep κ) (k:Nat):Prop where
 one:∀ {S w S' w' cs cs' x},R.rel S w cs x→R.rel S' w' cs' x→cs=cs'
 chk:∀ {S w cs x},R.rel S w cs x→∀ d,k≤d→∀ e w',(Instr.checkKey e d T (R.val cs)).run P w'=.ok () w'
 bits:∀ {S w cs x},R.rel S w cs x→∀ d,k≤d→Instr.sameBits d (R.val cs) (R.val cs)=true
 eq:EqR P T R k
 deep:Nat.ble k 10000=true
 find:∃ de,P.underlying T=some de∧((∀ v v',Instr.sameNow de v v'=none)∨∀ {S w cs cs' x y},R.rel S w cs x→R.rel S w cs' y→Instr.sameNow de (R.val cs) (R.val cs')=some (decide (x=y)))
section
variable {P:Program}
theorem zjr.num {α:Type} [DecidableEq α] {T:TypeId} {k:IntKind} {f:α→Int} (hT:P.underlying T=some (.int k)) (hf:∀ x y,f x=f y→x=y):zjr P T (z9b k f) 1 where
 one h h':=by
  have h:_=[Value.int k _]:=h;have h':_=[Value.int k _]:=h';rw [h,h']
 chk h d hd e w':=by
  have h:_=[Value.int k _]:=h;subst h;obtain ⟨n,rfl⟩:∃ n,d=n+1:=⟨d - 1, by omega⟩
  show (Instr.checkKey e (n+1) T (.int k _)).run P w'=_;simp [Instr.checkKey,run_underlying hT]
 bits h d hd:=by
  have h:_=[Value.int k _]:=h;subst h;show Instr.sameBits d (.int k _) (.int k _)=true
  cases d <;> simp [Instr.sameBits]
 eq:=EqR.num hT hf
 deep:=rfl
 find:=⟨_,hT,.inr fun {S w cs cs' x y} h h'=>by
  have h:_=[Value.int k _]:=h;have h':_=[Value.int k _]:=h';subst h; subst h';show Instr.sameNow (.int k) (.int k (f x)) (.int k (f y))=_;simp only [Instr.sameNow,if_true,Option.some.injEq];by_cases e:x=y
  ·subst e; simp
  ·rw [decide_eq_false e]; exact beq_false_of_ne (fun h=>e (hf _ _ h))⟩
theorem zjr.u8 {T:TypeId} (hT:P.underlying T=some (.int .u8)):zjr P T u8R 1:=zjr.num hT (fun _ _ h=>UInt8.toNat_inj.1 (Int.ofNat.inj h))
theorem z14i {s t:ByteArray} (h:s.data.toList=t.data.toList):s=t:=by
 cases s; cases t; simp only [ByteArray.mk.injEq]; exact Array.toList_inj.1 h
theorem zjr.str {T:TypeId} (hT:P.underlying T=some .string):zjr P T z3q 1 where
 one h h':=by
  obtain ⟨s,rfl,rfl⟩:=h;obtain ⟨t,rfl,h2⟩:=h';rw [z14i h2]
 chk h d hd e w':=by
  obtain ⟨s,rfl,rfl⟩:=h;obtain ⟨n,rfl⟩:∃ n,d=n+1:=⟨d - 1, by omega⟩
  show (Instr.checkKey e (n+1) T (.string s)).run P w'=_;simp [Instr.checkKey,run_underlying hT]
 bits h d hd:=by
  obtain ⟨s,rfl,rfl⟩:=h;show Instr.sameBits d (.string s) (.string s)=true;have h:(s==s)=true:=by show (s.data==s.data)=true; simp
  cases d <;> simp only [Instr.sameBits,h]
 eq:=EqR.str hT
 deep:=rfl
 find:=⟨_,hT,.inr fun {S w cs cs' x y} h h'=>by
  obtain ⟨s,rfl,rfl⟩:=h;obtain ⟨t,rfl,rfl⟩:=h';show Instr.sameNow .string (.string s) (.string t)=_;simp only [Instr.sameNow,Option.some.injEq];show (s.data==t.data)=_;rw [Bool.eq_iff_iff,decide_eq_true_iff,beq_iff_eq]
  exact ⟨fun h=>by rw [h], fun h=>Array.toList_inj.1 h⟩⟩
theorem z5r.one' {α:Type} {R:Rep α} (h1:∀ {S w S' w' cs cs' x},R.rel S w cs x→R.rel S' w' cs' x→cs=cs') {S w S' w'}:∀ {l:List α} {cs cs'},z5r R S w cs l→z5r R S' w' cs' l→cs=cs'
 | [],cs,cs',h,h'=>by simp only [z5r] at h h'; rw [h,h']
 | x::l,cs,cs',h,h'=>by
  obtain ⟨c,d,rfl,h2,h3⟩:=h;obtain ⟨c',d',rfl,h2',h3'⟩:=h';rw [h1 h2 h2',z5r.one' h1 h3 h3']
theorem z5r.bits {α:Type} [DecidableEq α] {R:Rep α} {T:TypeId} (hK:zjr P T R 1) (hag:R.agg=false) {S w}:∀ {l:List α} {cs},z5r R S w cs l→∀ u∈cs,∀ d,1≤d→Instr.sameBits d u u=true
 | [],cs,h,u,hu=>by simp only [z5r] at h; subst h; simp at hu
 | x::l,cs,h,u,hu=>by
  obtain ⟨c,d,rfl,h2,h3⟩:=h;rcases List.mem_append.1 hu with hu | hu
  ·have hl:=R.len h2;rw [R.scal hag] at hl
   match c,hl with
   | [v],_ =>
    simp only [List.mem_singleton] at hu;subst hu;intro d hd
    have:=hK.bits h2 d hd
    simpa [Rep.val,hag] using this
  ·exact z5r.bits hK hag h3 u hu
theorem zjr.arr {α:Type} [DecidableEq α] {R:Rep α} {T e:TypeId} {n:Nat} {z:Value} {by_:Nat} (hK:zjr P e R 1) (hT:P.underlying T=some (.array n e)) (hI:TI P e z R.sz by_) (hTy:zbt P e R.agg R.sz) (hag:R.agg=false):zjr P T (z3m n R) 2 where
 one h h':=z5r.one' hK.one h h'
 chk {S w cs x} h d hd em w':=by
  obtain ⟨d',rfl⟩:∃ d',d=d'+1:=⟨d - 1, by omega⟩
  show (Instr.checkKey em (d'+1) T (.agg cs.toArray)).run P w'=_;rw [Instr.checkKey];simp only [Sem.run_bind,run_underlying hT,Result.andThen_ok];simp only [Std.Legacy.Range.forIn_eq_forIn_range',Std.Legacy.Range.size,Nat.sub_zero,Nat.add_one_sub_one,Nat.div_one];have each:∀ i∈List.range' 0 n,i<x.toList.length:=fun i hi=>by simpa using hi
  generalize List.range' 0 n=is at each
  induction is with
  | nil=>simp
  | cons j is ih =>
   have hj:=each j (by simp);obtain ⟨a,c,dd,e1,e2,e3,-⟩:=z5r.split h (List.getElem?_eq_getElem hj);have p1:=zdl (P:=P) (xs:=cs.toArray) (by simpa using e1) e3 hTy w';rw [e2] at p1;have p2:=hK.chk e3 d' (by omega) em w';simp only [List.forIn_cons,Sem.run_bind,z3a hI,Result.andThen_ok,p1,p2,Sem.run_pure];exact ih (fun y hy=>each y (by simp [hy]))
 bits {S w cs x} h d hd:=by
  obtain ⟨d',rfl⟩:∃ d',d=d'+1:=⟨d - 1, by omega⟩
  show Instr.sameBits (d'+1) (.agg cs.toArray) (.agg cs.toArray)=true;have hb:=z5r.bits hK hag h;simp only [Instr.sameBits,beq_self_eq_true,Bool.true_and,List.all_eq_true];intro p hp;obtain ⟨u,v⟩:=p;have huv:u=v∧u∈cs:=by
   have:∀ (l:List Value) (u v:Value),(u,v)∈l.zip l→u=v∧u∈l:=by
    intro l
    induction l with
    | nil=>intro u v h; simp at h
    | cons y l ih =>
     intro u v h;simp only [List.zip_cons_cons,List.mem_cons,Prod.mk.injEq] at h;rcases h with ⟨rfl,rfl⟩ | h
     ·simp
     ·obtain ⟨h1,h2⟩:=ih u v h;exact ⟨h1, by simp [h2]⟩
   exact this _ _ _ (by simpa using hp)
  obtain ⟨rfl,hu⟩:=huv;exact hb u hu d' (by omega)
 eq:=EqR.arr hK.eq hT hI hTy
 deep:=rfl
 find:=⟨_,hT,.inl fun v v'=>by cases v <;> cases v' <;> rfl⟩
end
def ziv {κ β:Type} (RK:Rep κ) (RV:Rep β) (S:Blk) (w:World):List MapEntry→List (κ × β)→Prop
 | [],[]=>True
 | e::es,p::l=>(RK.vrel S w e.key p.1∧RV.vrel S w e.val p.2)∧ziv RK RV S w es l
 | _,_=>False
theorem ziv.mono {κ β:Type} {RK:Rep κ} {RV:Rep β} {S S' w w'} (k:z9q S S' w w'):∀ {es l},ziv RK RV S w es l→ziv RK RV S' w' es l
 | [],[],_=>trivial
 | e::es,p::l,h=>⟨⟨h.1.1.mono k,h.1.2.mono k⟩,ziv.mono k h.2⟩
 | [],_::_,h=>h.elim
 | _::_,[],h=>h.elim
theorem ziv.push {κ β:Type} {RK:Rep κ} {RV:Rep β} {S w}:∀ {es:List MapEntry} {m:List (κ × β)} {e:MapEntry} {k:κ} {x:β},ziv RK RV S w es m→RK.vrel S w e.key k→RV.vrel S w e.val x→ziv RK RV S w (es++[e]) (m++[(k,x)])
 | [],[],e,k,x,_,h1,h2=>⟨⟨h1,h2⟩,trivial⟩
 | e'::es,p::m,e,k,x,h,h1,h2=>⟨h.1,ziv.push h.2 h1 h2⟩
 | [],_::_,_,_,_,h,_,_=>h.elim
 | _::_,[],_,_,_,h,_,_=>h.elim
theorem ziv.size {κ β:Type} {RK:Rep κ} {RV:Rep β} {S w}:∀ {es:List MapEntry} {m:List (κ × β)},ziv RK RV S w es m→es.length=m.length
 | [],[],_=>rfl
 | _::_,_::_,h=>by simp [h.2.size]
 | [],_::_,h=>h.elim
 | _::_,[],h=>h.elim
def zwk (es:List MapEntry) (clock:Nat):Prop:=(es.map (·.born)).Nodup∧∀ e∈es,e.born<clock
theorem zwk.push {es:List MapEntry} {c:Nat} {e:MapEntry} (h:zwk es c) (he:e.born=c):zwk (es++[e]) (c+1):=by
 refine ⟨?_, fun x hx=>?_⟩
 ·rw [List.map_append,List.nodup_append];refine ⟨h.1, by simp, fun a ha b hb=>?_⟩;simp only [List.mem_map] at ha;obtain ⟨x,hx,rfl⟩:=ha;simp only [List.map_cons,List.map_nil,List.mem_singleton] at hb
  have:=h.2 x hx
  omega
 ·rcases List.mem_append.1 hx with hx | hx
  ·have:=h.2 x hx; omega
  ·simp only [List.mem_singleton] at hx; subst hx; omega
theorem zwk.modify {es:List MapEntry} {c j:Nat} {f:MapEntry→MapEntry} (h:zwk es c) (hf:∀ e,(f e).born=e.born):zwk (es.modify j f) c:=by
 have e1:(es.modify j f).map (·.born)=es.map (·.born):=by
  apply List.ext_getElem?
  intro i;simp only [List.getElem?_map,List.getElem?_modify]
  cases es[i]? with
  | none=>rfl
  | some x=>by_cases h:j=i <;> simp [h,hf]
 refine ⟨by rw [e1]; exact h.1, fun x hx=>?_⟩
 have:x.born∈(es.modify j f).map (·.born):=List.mem_map.2 ⟨x,hx,rfl⟩
 rw [e1] at this;obtain ⟨y,hy,e2⟩:=List.mem_map.1 this
 have:=h.2 y hy
 omega
def mapR {κ β:Type} (RK:Rep κ) (RV:Rep β):Rep (List (κ × β)) where
 sz:=1
 agg:=false
 rel S w cs m:=∃ b es clock,cs=[.map (some b)]∧S b∧w.heap[b]? = some (.map es clock)∧ziv RK RV S w es.toList m∧zwk es.toList clock
 len h:=by obtain ⟨b,es,clock,rfl,_⟩:=h; rfl
 one h:=by obtain ⟨b,es,clock,rfl,_⟩:=h; intro u hu; simp at hu; subst hu; rfl
 scal _:=rfl
 mono k h:=by
  obtain ⟨b,es,clock,h1,h2,h3,h4,h5⟩:=h;exact ⟨b,es,clock,h1,(k b h2).1,(k b h2).2.trans h3,h4.mono k,h5⟩
def z4l.map {κ β:Type} (RK:Rep κ) (RV:Rep β) (m:List (κ × β)):z4l where
 nil _ _ _:=False
 nilm _ h:=h
 nilb h:=h.elim
 rel S w v o:=∃ b es clock,v=.map (some b)∧o=.map es clock∧ziv RK RV S w es.toList m∧zwk es.toList clock
 mono k h:=by obtain ⟨b,es,clock,h1,h2,h3,h4⟩:=h; exact ⟨b,es,clock,h1,h2,h3.mono k,h4⟩
theorem zpo {κ β:Type} {RK:Rep κ} {RV:Rep β} {m S w v} (h:(z4l.map RK RV m).holds S w v):∃ b es clock,v=.map (some b)∧w.heap[b]? = some (.map es clock)∧ziv RK RV S w es.toList m∧zwk es.toList clock:=by
 rcases h with h | ⟨b,o,h1,h2,b',es,clock,rfl,rfl,h3,h4⟩
 ·exact h.elim
 ·simp only [z58,Option.some.injEq] at h1;subst h1;exact ⟨_,es,clock,rfl,h2,h3,h4⟩
theorem zlc {κ β:Type} {RK:Rep κ} {RV:Rep β} {m S w} {b:Nat} {es:Array MapEntry} {clock:Nat} (h1:w.heap[b]? = some (.map es clock)) (h2:ziv RK RV S w es.toList m) (h3:zwk es.toList clock):(z4l.map RK RV m).holds S w (.map (some b)) :=
 .inr ⟨b,_,rfl,h1,b,es,clock,rfl,rfl,h2,h3⟩
section
variable {P:Program} {κ β:Type} [DecidableEq κ] {RK:Rep κ} {RV:Rep β} {K:TypeId} {n:Nat}
def fnd (k:κ):List MapEntry→List (κ × β)→Nat→Option (Nat × Value)
 | e::es,p::m,i=>if k=p.1 then some (i,e.val) else fnd k es m (i+1)
 | _,_,_=>none
theorem zo4 (hK:zjr P K RK n) {S:Blk} {w:World} {k:κ} {v:Value} (hv:RK.vrel S w v k) (w':World):∀ {es:List MapEntry} {m:List (κ × β)} (i:Nat),ziv RK RV S w es m→(Instr.findAsking K v es i).run P w'=.ok (fnd k es m i) w'
 | [],[],i,_=>by simp [Instr.findAsking,fnd]
 | e::es,p::m,i,h=>by
  obtain ⟨cs,h1,rfl⟩:=hv;obtain ⟨cs',h2,h3⟩:=h.1.1;have hq:=hK.eq 10000 (Nat.le_of_ble_eq_true hK.deep) S w cs cs' k p.1 h1 h2 w';have hq:(Op.equal K (RK.val cs) e.key).run P w'=.ok (decide (k=p.1)) w':=by rw [h3]; exact hq
  simp only [Instr.findAsking,Sem.run_bind,hq,Result.andThen,fnd];by_cases hk:k=p.1
  ·simp [hk]
  ·simp [hk,zo4 hK ⟨cs,h1,rfl⟩ w' (i+1) h.2]
 | [],_::_,i,h=>h.elim
 | _::_,[],i,h=>h.elim
theorem zu3 {de:TypeDesc} {S:Blk} {w:World} (hs:∀ {S w cs cs' x y},RK.rel S w cs x→RK.rel S w cs' y→Instr.sameNow de (RK.val cs) (RK.val cs')=some (decide (x=y))) {k:κ} {v:Value} (hv:RK.vrel S w v k):∀ {es:List MapEntry} {m:List (κ × β)} (i:Nat),ziv RK RV S w es m→Instr.findNow de v es i=some (fnd k es m i)
 | [],[],i,_=>by simp [Instr.findNow,fnd]
 | e::es,p::m,i,h=>by
  obtain ⟨cs,h1,rfl⟩:=hv;obtain ⟨cs',h2,h3⟩:=h.1.1;have hq:=hs h1 h2;rw [← h3] at hq;simp only [Instr.findNow,hq,fnd];by_cases hk:k=p.1
  ·simp [hk]
  ·simp [hk,zu3 hs ⟨cs,h1,rfl⟩ (i+1) h.2]
 | [],_::_,i,h=>h.elim
 | _::_,[],i,h=>h.elim
theorem zuv (hK:zjr P K RK n) {S:Blk} {w:World} {k:κ} {v:Value} (hv:RK.vrel S w v k) (w':World) {es:List MapEntry} {m:List (κ × β)} (h:ziv RK RV S w es m):(Instr.findKey K v es).run P w'=.ok (fnd k es m 0) w':=by
 obtain ⟨de,h1,h2⟩:=hK.find;unfold Instr.findKey;simp only [Sem.run_bind,run_underlying h1,Result.andThen];rcases h2 with h2 | h2
 ·match es,m,h with
  | [],[],_=>simp [Instr.findNow,fnd]
  | e::es,p::m,h =>
   have:Instr.findNow de v (e::es) 0=none:=by simp [Instr.findNow,h2]
   simp only [this];exact zo4 hK hv w' 0 h
 ·rw [zu3 h2 hv 0 h]; rfl
theorem zpm {k:κ}:∀ {es:List MapEntry} {m:List (κ × β)} {i:Nat} {S w},ziv RK RV S w es m→fnd k es m i=none→zax m k=none∧(∀ x,zmz m k x=m++[(k,x)])∧mdel m k=m
 | [],[],i,S,w,_,_=>⟨rfl, fun _=>rfl,rfl⟩
 | e::es,p::m,i,S,w,h,h0=>by
  simp only [fnd] at h0
  split at h0
  ·cases h0
  ·rename_i hk;obtain ⟨h1,h2,h3⟩:=zpm h.2 h0;refine ⟨by simp [zax,hk,h1], fun x=>by simp [zmz,hk,h2], by simp [mdel,hk,h3]⟩
 | [],_::_,i,_,_,h,_=>h.elim
 | _::_,[],i,_,_,h,_=>h.elim
theorem zoh {k:κ}:∀ {es:List MapEntry} {m:List (κ × β)} {i j:Nat} {u:Value} {S w},ziv RK RV S w es m→fnd k es m i=some (j,u) →
  i≤j∧∃ e x,es[j - i]? = some e∧e.val=u∧zax m k=some x∧RV.vrel S w e.val x∧RK.vrel S w e.key k ∧
   (∀ S' w' v y,z9q S S' w w'→RV.vrel S' w' v y→ziv RK RV S' w' (es.modify (j - i) fun e=>{ e with val:=v }) (zmz m k y)) ∧
   ziv RK RV S w (es.eraseIdx (j - i)) (mdel m k)
 | e::es,p::m,i,j,u,S,w,h,h0=>by
  simp only [fnd] at h0
  split at h0
  ·rename_i hk;simp only [Option.some.injEq,Prod.mk.injEq] at h0;obtain ⟨rfl,rfl⟩:=h0;refine ⟨Nat.le_refl _,e,p.2, by simp,rfl, by simp [zax,hk],h.1.2, by rw [hk]; exact h.1.1, fun S' w' v y st hv=>?_,?_⟩
   ·simp only [Nat.sub_self,List.modify_zero_cons,zmz,hk,if_true];exact ⟨⟨h.1.1.mono st,hv⟩,h.2.mono st⟩
   ·simp only [Nat.sub_self,List.eraseIdx_cons_zero,mdel,hk,if_true];exact h.2
  ·rename_i hk;obtain ⟨h1,e',x,h2,h3,h4,h5,h6,h7,h8⟩:=zoh h.2 h0;have hj:j - i=(j - (i+1))+1:=by omega
   refine ⟨by omega,e',x, by rw [hj]; simpa using h2,h3, by simp [zax,hk,h4],h5,h6, fun S' w' v y st hv=>?_,?_⟩
   ·rw [hj,List.modify_succ_cons];simp only [zmz,hk,if_false];exact ⟨⟨h.1.1.mono st,h.1.2.mono st⟩,h7 S' w' v y st hv⟩
   ·rw [hj,List.eraseIdx_cons_succ];simp only [mdel,hk,if_false];exact ⟨h.1,h8⟩
 | [],[],i,j,u,_,_,_,h0=>by cases h0
 | [],_::_,i,j,u,_,_,h,_=>h.elim
 | _::_,[],i,j,u,_,_,h,_=>h.elim
end
section
variable {C:World→World→Prop} {ρ:Type} {P:Program} {Γ:Ctx} {l:z1p} {res:Res} {m:Option ρ} {os rest:List Oper} {N:ρ→Exit→Act→World→Prop}
 {d:Tmp} {ty:TypeId} {pos:String} {after:Array Edge} {g:Option (Nat × Bool)} {κ β:Type}
theorem zin {w:World} {b:Nat} {o:Obj}:w.grownBy { w with heap:=w.heap.setIfInBounds b o } (some b):=by
 refine ⟨rfl,rfl,rfl, by simp, fun k hk hne=>?_⟩;have hne:k≠b:=fun e=>hne (by rw [e]);simp only [];rw [Array.getElem?_setIfInBounds_ne (fun e=>hne e.symm)]
theorem mkm (RK:Rep κ) (RV:Rep β) (r:Nat) {hint:Option Operand} {T K V:TypeId} (hh:hint=none∨∃ y n,hint=some y∧opE l y=some (.rd z08 n)) (hT:P.underlying T=some (.map K V)):Eff P Γ l res ⟨some d,.makeMap T hint,ty,pos,after,g⟩ r (fun v=>(v,.map RK RV [])):=fun a w ha=>by
 have hrun:(execOp a.eval ⟨some d,.makeMap T hint,ty,pos,after,g⟩).run P w=.ok (.value (.map (some w.heap.size))) (w.alloc (.map #[] 0)):=by
  rcases hh with rfl | ⟨y,n,rfl,hy⟩
  ·rfl
  ·have e1:=z4q (ha.vl hy);have e2:(Instr.makeMap T (some (a.eval y))).run P w=.ok (.map (some w.heap.size)) (w.alloc (.map #[] 0)):=by
    rw [e1];unfold Instr.makeMap;simp only [Sem.run_bind,run_underlying hT,Result.andThen];rfl
   simp [execOp,e2]
 exact ⟨_,_,hrun,ha.upd r (c:=.map RK RV []) (v:=.map (some w.heap.size)) (zg0 w _) (by simp) (fun bb hbb=>.inr (by simp [z58] at hbb; omega)) (fun S' k'=>zlc (es:=#[]) (clock:=0) (heap_alloc_new _ _) trivial ⟨by simp, by simp⟩),rfl,none,zg0 w _, by simp⟩
inductive Mp {κ β:Type} (RK:Rep κ) (RV:Rep β) (res:Res) (ws:List Nat):Ent→List (κ × β)→Prop
 | rd {m:List (κ × β)}:Mp RK RV res ws (.rd (mapR RK RV) m) m
 | own {v:Value} {m:List (κ × β)} (r:Nat) (h:lr res r=some (v,.map RK RV m)) (hw:ws.contains r=false):Mp RK RV res ws (.val v) m
theorem Mp.get {ws:List Nat} [LC C res ws] {RK:Rep κ} {RV:Rep β} {E:Ent} {mm:List (κ × β)} (h:Mp RK RV res ws E mm) {a:Act} {w:World} (ha:Sta Γ l res a w) {v:Value} (hv:E.holds (Shr Γ.H res w) w v) :
  ∃ b es clock,v=.map (some b)∧ziv RK RV (Shr Γ.H res w) w es.toList mm∧∀ w',C w w'→w'.heap[b]? = some (.map es clock):=by
 cases h with
 | rd =>
  obtain ⟨cs,⟨b,es,clock,h1,h2,h3,h4,h5⟩,h6⟩:=hv;subst h1;exact ⟨b,es,clock,h6,h4, fun w' hw'=>(CW.shr hw' h2).trans h3⟩
 | own r h hw =>
  obtain ⟨rfl,-⟩:=hv;obtain ⟨b,es,clock,rfl,h1,h2,h3⟩:=zpo (ha.conts r _ _ h);exact ⟨b,es,clock,rfl,h2, fun w' hw'=>(CW.at hw' ha h rfl hw).trans h1⟩
variable {ro:Option Nat} {A:Asn} {Q:ρ→Exit→Act→World→Prop} {c:Code} {e:Exit} {l0:z1p} {res0:Res} {ws:List Nat} {fuel:Nat} {listed:Array Bool}
theorem EsV {r:Nat} {op:Op} {x:Value × z4l} (he:∀ a w,Sta Γ l res a w→∃ w' u,(execOp a.eval ⟨none,op,ty,pos,after,none⟩).run P w=.ok (.value u) w'∧Sta Γ l ((r,some x)::res) a w')
  (k:GL P os (Sta Γ l ((r,some x)::res)) rest N m):GL P os (Sta Γ l res) (⟨none,op,ty,pos,after,none⟩::rest) N m:=fun a w ha ρ hm=>by
 obtain ⟨w',u,h1,h2⟩:=he a w ha;exact st (zcn rfl) h1 (k _ w' h2 ρ hm)
variable [DecidableEq κ]
theorem mup' {RK:Rep κ} {RV:Rep β} {mm:List (κ × β)} {x y z:Operand} {v:Value} {k:κ} {b:β} {T K V:TypeId} {n:Nat} {a:Act} {w:World} (ha:Sta Γ l res a w) (r:Nat) (hx:opE l x=some (.val v)) (hr:lr res r=some (v,.map RK RV mm)) (hy:opE l y=some (.rd RK k)) (hz:opE l z=some (.rd RV b)) (hK:zjr P K RK n) (hT:P.underlying T=some (.map K V)) :
  ∃ w',(Instr.mapUpdate T (a.eval x) (a.eval y) (a.eval z)).run P w=.ok () w'∧(Sta Γ l ((r,some (v,.map RK RV (zmz mm k b)))::res) a w'∧z9q (Shr Γ.H res w) (Shr Γ.H ((r,some (v,.map RK RV (zmz mm k b)))::res) w') w w')∧Grew res r w w':=by
 have e1:=(ha.vl hx).1;obtain ⟨bk,es,clock,rfl,h1,h2,h3⟩:=zpo (ha.conts r v _ hr);have hy1:=ha.vl hy;have hz1:=ha.vl hz;obtain ⟨cs,hk1,hk2⟩:=hy1;have hck:=hK.chk hk1 10000 (Nat.le_of_ble_eq_true hK.deep) false w;rw [← hk2] at hck;have hf:=zuv hK ⟨cs,hk1,hk2⟩ w h2;have hbi:=hK.bits hk1 10000 (Nat.le_of_ble_eq_true hK.deep);rw [← hk2] at hbi;have hlt:bk<w.heap.size:=(Array.getElem?_eq_some_iff.1 h1).1
 cases hq:fnd k es.toList mm 0 with
 | none =>
  obtain ⟨-,q2,-⟩:=zpm h2 hq;refine ⟨{ w with heap:=w.heap.setIfInBounds bk (.map (es.push { key:=a.eval y,val:=a.eval z,born:=clock }) (clock+1)) },?_,?_,some bk,zin, fun bb hbb=>⟨_,_,hr, by cases hbb; rfl⟩⟩
  ·rw [e1];unfold Instr.mapUpdate;simp only [Sem.run_bind,run_underlying hT,Result.andThen,MapKept.run_getObj_map h1,hck,hf,hq,MapKept.run_setObj_map _ h1]
  ·refine ha.upd r (v:=.map (some bk)) zin (fun bb hbb=>⟨_,_,hr, by cases hbb; rfl⟩) (fun bb hbb=>.inl ⟨_,_,hr,hbb⟩) (fun S' k'=>zlc (es:=es.push { key:=a.eval y,val:=a.eval z,born:=clock }) (clock:=clock+1) (by simp [hlt]) ?_ ?_)
   ·rw [q2 b,Array.toList_push];exact (h2.mono k').push (Rep.vrel.mono ⟨cs,hk1,hk2⟩ k') (Rep.vrel.mono hz1 k')
   ·rw [Array.toList_push]; exact h3.push rfl
 | some ju =>
  obtain ⟨j,u⟩:=ju;obtain ⟨-,e,x0,q1,q2,q3,q4,q5,q6,q7⟩:=zoh h2 hq;simp only [Nat.sub_zero] at q1 q6;have hj:es[j]? = some e:=by rw [← Array.getElem?_toList]; exact q1
  have hkey:e.key=a.eval y:=by
   obtain ⟨cs',h4,h5⟩:=q5;rw [h5,hk2,hK.one h4 hk1]
  have hsame:Instr.sameBits 10000 e.key (a.eval y)=true:=by rw [hkey]; exact hbi
  have hmod:es.modify j (fun e=>{ e with key:=a.eval y,val:=a.eval z })=es.modify j (fun e=>{ e with val:=a.eval z }):=by
   apply Array.toList_inj.1
   rw [Array.toList_modify,Array.toList_modify]
   apply List.ext_getElem?
   intro i;simp only [List.getElem?_modify];by_cases hi:j=i
   ·subst hi;rw [q1]; simp [hkey]
   ·simp [hi]
  refine ⟨{ w with heap:=w.heap.setIfInBounds bk (.map (es.modify j fun e=>{ e with val:=a.eval z }) clock) },?_,?_,some bk,zin, fun bb hbb=>⟨_,_,hr, by cases hbb; rfl⟩⟩
  ·rw [e1];unfold Instr.mapUpdate;simp only [Sem.run_bind,run_underlying hT,Result.andThen,MapKept.run_getObj_map h1,hck,hf,hq,hj,Option.map_some,Option.getD_some,Instr.keyThatStays,hsame,if_true,Sem.run_pure];rw [hmod,MapKept.run_setObj_map _ h1]
  ·refine ha.upd r (v:=.map (some bk)) zin (fun bb hbb=>⟨_,_,hr, by cases hbb; rfl⟩) (fun bb hbb=>.inl ⟨_,_,hr,hbb⟩) (fun S' k'=>zlc (es:=es.modify j fun e=>{ e with val:=a.eval z }) (clock:=clock) (by simp [hlt]) ?_ ?_)
   ·rw [Array.toList_modify];exact q6 S' _ _ b k' (Rep.vrel.mono hz1 k')
   ·rw [Array.toList_modify]; exact h3.modify (fun _=>rfl)
theorem mup {RK:Rep κ} {RV:Rep β} {mm:List (κ × β)} {x y z:Operand} {v:Value} {k:κ} {b:β} {T K V:TypeId} {n:Nat} (r:Nat) (hx:opE l x=some (.val v)) (hr:lr res r=some (v,.map RK RV mm)) (hy:opE l y=some (.rd RK k)) (hz:opE l z=some (.rd RV b)) (hK:zjr P K RK n) (hT:P.underlying T=some (.map K V)) :
  EffS P Γ l res ⟨none,.mapUpdate T x y z,ty,pos,after,g⟩ r (v,.map RK RV (zmz mm k b)):=fun a w ha=>by
 obtain ⟨w',h1,h2,h3⟩:=mup' ha r hx hr hy hz hK hT;exact ⟨w', by simp [execOp,h1],h2,h3⟩
theorem z19r {ws:List Nat} [LC C res ws] {RK:Rep κ} {RV:Rep β} {E:Ent} {mm:List (κ × β)} {x y:Operand} {k:κ} {x0:β} {T K V:TypeId} {n by_:Nat} {z:Value} (hx:opE l x=some E) (hm:Mp RK RV res ws E mm) (hy:opE l y=some (.rd RK k)) (hK:zjr P K RK n) (hT:P.underlying T=some (.map K V)) (hV:TI P V z RV.sz by_) (hz:Zr RV z.cells.toList x0) (hzv:z=RV.val z.cells.toList) {a:Act} {w:World} (ha:Sta Γ l res a w) :
  ∃ v,RV.vrel (Shr Γ.H res w) w v ((zax mm k).getD x0)∧∀ c w',C w w'→(Instr.lookup T (a.eval x) (a.eval y) c).run P w'=.ok (if c then .tuple #[v,.bool (zax mm k).isSome] else v) w':=by
 obtain ⟨b,es,clock,h1,h2,h3⟩:=hm.get (C:=C) ha (ha.vl hx);obtain ⟨cs,hk1,hk2⟩:=ha.vl hy;have hck:=fun em w'=>hK.chk hk1 10000 (Nat.le_of_ble_eq_true hK.deep) em w';rw [← hk2] at hck;have hf:=fun w'=>zuv hK ⟨cs,hk1,hk2⟩ w' h2
 cases hq:fnd k es.toList mm 0 with
 | none =>
  obtain ⟨q1,-,-⟩:=zpm h2 hq;refine ⟨z,⟨_, by rw [q1]; exact hz _ _,hzv⟩, fun c w' hw'=>?_⟩;rw [h1,q1];unfold Instr.lookup;simp only [Sem.run_bind,run_underlying hT,Result.andThen,MapKept.run_getObj_map (h3 w' hw'),Sem.run_pure,hck,hf,hq,zdr hV];rfl
 | some ju =>
  obtain ⟨j,u⟩:=ju;obtain ⟨-,e,x1,q1,q2,q3,q4,q5,q6,q7⟩:=zoh h2 hq;refine ⟨u, by rw [q3,← q2]; exact q4, fun c w' hw'=>?_⟩;rw [h1,q3];unfold Instr.lookup;simp only [Sem.run_bind,run_underlying hT,Result.andThen,MapKept.run_getObj_map (h3 w' hw'),Sem.run_pure,hck,hf,hq];rfl
theorem mlk {ws:List Nat} [LC C res ws] {RK:Rep κ} {RV:Rep β} {E:Ent} {mm:List (κ × β)} {x y:Operand} {k:κ} {x0:β} {T K V:TypeId} {n by_:Nat} {z:Value} (hx:opE l x=some E) (hm:Mp RK RV res ws E mm) (hy:opE l y=some (.rd RK k)) (hK:zjr P K RK n) (hT:P.underlying T=some (.map K V)) (hV:TI P V z RV.sz by_) (hz:Zr RV z.cells.toList x0) (hzv:z=RV.val z.cells.toList) :
  Run C P Γ l res ⟨some d,.lookup T x y false,ty,pos,after,g⟩ (.rd RV ((zax mm k).getD x0)):=fun a w ha=>by
 obtain ⟨v,h1,h2⟩:=z19r (C:=C) hx hm hy hK hT hV hz hzv ha;exact ⟨v, fun w' hw'=>by simp [execOp,h2 false w' hw'],h1⟩
end
end
section
open Go Go.RowKit
def z15u (em:Bool) (d:Nat) (xs:Array Value) (f:Field) (_:PUnit):Sem (ForInStep PUnit):=if f.name ≠ "_" then do
  let v ← part f.type xs f.offset
  Instr.checkKey em d f.type v
  pure (ForInStep.yield PUnit.unit)
 else pure (ForInStep.yield PUnit.unit)
structure KeyF {γ:Type} (P:Program) (fs:List Field) (o:Nat) (R:Rep γ) (k:Nat):Prop where
 one:∀ {S w S' w' cs cs' x},R.rel S w cs x→R.rel S' w' cs' x→cs=cs'
 chk:∀ {S w x} {a cs:List Value},a.length=o→R.rel S w cs x→∀ d,k≤d→∀ em w',(forIn fs PUnit.unit (z15u em d (a++cs).toArray)).run P w'=.ok PUnit.unit w'
 bits:∀ {S w cs x},R.rel S w cs x→∀ u∈cs,∀ d,k≤d→Instr.sameBits d u u=true
theorem KeyF.nil {P:Program} {o:Nat}:KeyF P [] o zdb 0 where
 one h h':=by
  have h:_=[]:=h;have h':_=[]:=h';rw [h,h']
 chk ho h d hd em w':=by simp [Sem.run_pure]
 bits h u hu:=by
  have h:_=[]:=h;subst h; simp at hu
theorem zui:∀ (l:List Value) (u:Value),u∈l→(u,u)∈l.zip l
 | y::l,u,h=>by
  simp only [List.zip_cons_cons,List.mem_cons,Prod.mk.injEq] at h ⊢;rcases h with rfl | h
  ·exact .inl ⟨rfl,rfl⟩
  ·exact .inr (zui l u h)
theorem zjr.cells {κ:Type} [DecidableEq κ] {P:Program} {T:TypeId} {R:Rep κ} {k:Nat} (h:zjr P T R k) {S w cs x} (hr:R.rel S w cs x):∀ u∈cs,∀ d,k≤d→Instr.sameBits d u u=true:=fun u hu d hd=>by
 have hb:=h.bits hr (d+1) (by omega);by_cases ha:R.agg=true
 ·have e:R.val cs=.agg cs.toArray:=by simp [Rep.val,ha]
  rw [e] at hb;simp only [Instr.sameBits,beq_self_eq_true,Bool.true_and,List.all_eq_true] at hb;exact hb (u,u) (zui _ _ hu)
 ·have ha:R.agg=false:=by simpa using ha
  have hl:=R.len hr;rw [R.scal ha] at hl
  match cs,hl with
  | [v],_ =>
   simp only [List.mem_singleton] at hu;subst hu
   have:=h.bits hr d hd
   simpa [Rep.val,ha] using this
theorem KeyF.cons {α β:Type} [DecidableEq α] {P:Program} {R:Rep α} {R2:Rep β} {f:Field} {fs:List Field} {o k k2:Nat} (h1:zjr P f.type R k) (hT:zbt P f.type R.agg R.sz) (ho:f.offset=o) (hn:(f.name == "_")=false) (h2:KeyF P fs (o+R.sz) R2 k2):KeyF P (f::fs) o (z4y R R2) (max k k2) where
 one h h':=by
  obtain ⟨c,r,rfl,e2,e3⟩:=h;obtain ⟨c',r',rfl,f2,f3⟩:=h';rw [h1.one e2 f2,h2.one e3 f3]
 chk {S w x a cs} hao h d hd em w':=by
  obtain ⟨c,r,rfl,e2,e3⟩:=h;have hlc:=R.len e2;have p1:=zdl (P:=P) (xs:=(a++(c++r)).toArray) (a:=a) (c:=c) (d:=r) (by simp) e2 hT w';rw [hao] at p1;have p2:=h1.chk e2 d (by omega) em w';have ih:=h2.chk (a:=a++c) (cs:=r) (by simp [hao,hlc]) e3 d (by omega) em w';rw [List.append_assoc] at ih;have hne:f.name ≠ "_" := by simpa using hn
  simp only [List.forIn_cons,Sem.run_bind];unfold z15u;simp only [if_pos hne,Sem.run_bind,ho,p1,p2,Result.andThen_ok,Sem.run_pure];exact ih
 bits h u hu d hd:=by
  obtain ⟨c,r,rfl,e2,e3⟩:=h;rcases List.mem_append.1 hu with hu | hu
  ·exact h1.cells e2 u hu d (by omega)
  ·exact h2.bits e3 u hu d (by omega)
theorem zjr.struct {β γ:Type} [DecidableEq β] {P:Program} {R:Rep γ} {g:β→γ} {T:TypeId} {fs:Array Field} {k k2:Nat} (hF:KeyF P fs.toList 0 R k) (hT:P.underlying T=some (.struct fs)) (hag:R.agg=true) (hE:EqR P T (zjw g R) k2) (hk:Nat.ble k2 (k+1)=true) (hd:Nat.ble (k+1) 10000=true):zjr P T (zjw g R) (k+1) where
 one h h':=hF.one h h'
 chk {S w cs x} h d hd em w':=by
  obtain ⟨d',rfl⟩:∃ d',d=d'+1:=⟨d - 1, by omega⟩
  have e1:(zjw g R).val cs=.agg cs.toArray:=by simp [Rep.val,zjw,hag]
  rw [e1,Instr.checkKey];simp only [Sem.run_bind,run_underlying hT,Result.andThen_ok];rw [← Array.forIn_toList]
  have:=hF.chk (a:=[]) (cs:=cs) rfl h d' (by omega) em w'
  rw [List.nil_append] at this;unfold z15u at this;rw [this];rfl
 bits {S w cs x} h d hd:=by
  obtain ⟨d',rfl⟩:∃ d',d=d'+1:=⟨d - 1, by omega⟩
  have e1:(zjw g R).val cs=.agg cs.toArray:=by simp [Rep.val,zjw,hag]
  rw [e1];have hb:=hF.bits h;simp only [Instr.sameBits,beq_self_eq_true,Bool.true_and,List.all_eq_true];intro p hp;obtain ⟨u,v⟩:=p;have huv:u=v∧u∈cs:=by
   have:∀ (l:List Value) (u v:Value),(u,v)∈l.zip l→u=v∧u∈l:=by
    intro l
    induction l with
    | nil=>intro u v h; simp at h
    | cons y l ih =>
     intro u v h;simp only [List.zip_cons_cons,List.mem_cons,Prod.mk.injEq] at h;rcases h with ⟨rfl,rfl⟩ | h
     ·simp
     ·obtain ⟨h1,h2⟩:=ih u v h;exact ⟨h1, by simp [h2]⟩
   exact this _ _ _ (by simpa using hp)
  obtain ⟨rfl,hu⟩:=huv;exact hb u hu d' (by omega)
 eq:=fun d hd=>hE d (by have:=Nat.le_of_ble_eq_true hk; omega)
 deep:=hd
 find:=⟨_,hT,.inl fun v v'=>by cases v <;> cases v' <;> rfl⟩
end
section
open Go Go.RowKit
theorem mixed:Tryz.prog.follows .mixedOrders=true:=by kernel_rfl
theorem sc2:Sc Tryz.prog 2:=⟨_,Tryz.underlying2,trivial⟩
theorem ti2:TI Tryz.prog 2 (.int .i64 (0)) 1 8:=TI.mk' (by kernel_rfl)
theorem sc3:Sc Tryz.prog 3:=⟨_,Tryz.underlying3,trivial⟩
theorem ti3:TI Tryz.prog 3 (.int .i64 (0)) 1 8:=TI.mk' (by kernel_rfl)
theorem sc4:Sc Tryz.prog 4:=⟨_,Tryz.underlying4,trivial⟩
theorem ti4:TI Tryz.prog 4 (.bool false) 1 1:=TI.mk' (by kernel_rfl)
theorem sc5:Sc Tryz.prog 5:=⟨_,Tryz.underlying5,trivial⟩
theorem ti5:TI Tryz.prog 5 (.int .u8 (0)) 1 1:=TI.mk' (by kernel_rfl)
theorem sc9:Sc Tryz.prog 9:=⟨_,Tryz.underlying9,trivial⟩
theorem ti9:TI Tryz.prog 9 (.string ByteArray.empty) 1 16:=TI.mk' (by kernel_rfl)
theorem sc22:Sc Tryz.prog 22:=⟨_,Tryz.underlying22,trivial⟩
theorem zb4:TI Tryz.prog 22 (.slice none 0 0) 1 24:=TI.mk' (by kernel_rfl)
theorem sc23:Sc Tryz.prog 23:=⟨_,Tryz.underlying23,trivial⟩
theorem zcg:TI Tryz.prog 23 (.slice none 0 0) 1 24:=TI.mk' (by kernel_rfl)
theorem ag25:Ag Tryz.prog 25:=⟨_,Tryz.underlying25,trivial⟩
theorem zfh:TI Tryz.prog 25 (.agg #[.slice none 0 0,.slice none 0 0]) 2 48:=TI.mk' (by kernel_rfl)
theorem sc30:Sc Tryz.prog 30:=⟨_,Tryz.underlying30,trivial⟩
theorem ti30:TI Tryz.prog 30 (.slice none 0 0) 1 24:=TI.mk' (by kernel_rfl)
theorem ag32:Ag Tryz.prog 32:=⟨_,Tryz.underlying32,trivial⟩
theorem zxk:TI Tryz.prog 32 (.agg #[.slice none 0 0]) 1 24:=TI.mk' (by kernel_rfl)
theorem sc33:Sc Tryz.prog 33:=⟨_,Tryz.underlying33,trivial⟩
theorem ti33:TI Tryz.prog 33 (.slice none 0 0) 1 24:=TI.mk' (by kernel_rfl)
theorem ag35:Ag Tryz.prog 35:=⟨_,Tryz.underlying35,trivial⟩
theorem zzs:TI Tryz.prog 35 (.agg #[.slice none 0 0]) 1 24:=TI.mk' (by kernel_rfl)
theorem ag37:Ag Tryz.prog 37:=⟨_,Tryz.underlying37,trivial⟩
theorem ti37:TI Tryz.prog 37 (.agg #[.int .i64 (0),.slice none 0 0,.slice none 0 0,.slice none 0 0]) 4 80:=TI.mk' (by kernel_rfl)
theorem sc44:Sc Tryz.prog 44:=⟨_,Tryz.underlying44,trivial⟩
theorem zp4:TI Tryz.prog 44 (.int .u64 (0)) 1 8:=TI.mk' (by kernel_rfl)
theorem ag46:Ag Tryz.prog 46:=⟨_,Tryz.underlying46,trivial⟩
theorem zad:TI Tryz.prog 46 (.agg #[.int .u8 (0),.int .i64 (0),.int .u64 (0),.string ByteArray.empty]) 4 40:=TI.mk' (by kernel_rfl)
theorem ag52:Ag Tryz.prog 52:=⟨_,Tryz.underlying52,trivial⟩
theorem ze9:TI Tryz.prog 52 (.agg #[.int .u8 (0),.string ByteArray.empty,.int .u8 (0),.int .i64 (0),.int .u64 (0),.string ByteArray.empty]) 6 64:=TI.mk' (by kernel_rfl)
theorem ag54:Ag Tryz.prog 54:=⟨_,Tryz.underlying54,trivial⟩
theorem z3v:TI Tryz.prog 54 (.agg #[.int .u8 (0),.int .u8 (0),.int .u8 (0),.int .u8 (0),.int .u8 (0),.int .u8 (0),.int .u8 (0),.int .u8 (0),.int .u8 (0),.int .u8 (0),.int .u8 (0),.int .u8 (0),.int .u8 (0),.int .u8 (0),.int .u8 (0),.int .u8 (0),.int .u8 (0),.int .u8 (0),.int .u8 (0),.int .u8 (0),.int .u8 (0),.int .u8 (0),.int .u8 (0),.int .u8 (0),.int .u8 (0),.int .u8 (0),.int .u8 (0),.int .u8 (0),.int .u8 (0),.int .u8 (0),.int .u8 (0),.int .u8 (0)]) 32 32:=TI.mk' (by kernel_rfl)
theorem sc63:Sc Tryz.prog 63:=⟨_,Tryz.underlying63,trivial⟩
theorem z60:TI Tryz.prog 63 (.int .u32 (0)) 1 4:=TI.mk' (by kernel_rfl)
theorem ag65:Ag Tryz.prog 65:=⟨_,Tryz.underlying65,trivial⟩
theorem znj:TI Tryz.prog 65 (.agg #[.int .u32 (0),.int .u32 (0)]) 2 8:=TI.mk' (by kernel_rfl)
theorem ag67:Ag Tryz.prog 67:=⟨_,Tryz.underlying67,trivial⟩
theorem zb1:TI Tryz.prog 67 (.agg #[.int .u32 (0),.slice none 0 0,.int .u64 (0),.int .u8 (0),.string ByteArray.empty,.int .u8 (0),.int .i64 (0),.int .u64 (0),.string ByteArray.empty,.int .u32 (0),.int .u32 (0)]) 11 112:=TI.mk' (by kernel_rfl)
theorem ag79:Ag Tryz.prog 79:=⟨_,Tryz.underlying79,trivial⟩
theorem ti79:TI Tryz.prog 79 (.agg #[.bool false,.int .u8 (0),.int .i64 (0),.int .u64 (0),.string ByteArray.empty]) 5 48:=TI.mk' (by kernel_rfl)
theorem sc94:Sc Tryz.prog 94:=⟨_,Tryz.underlying94,trivial⟩
theorem zuf:TI Tryz.prog 94 (.slice none 0 0) 1 24:=TI.mk' (by kernel_rfl)
theorem sc98:Sc Tryz.prog 98:=⟨_,Tryz.underlying98,trivial⟩
theorem ti98:TI Tryz.prog 98 (.slice none 0 0) 1 24:=TI.mk' (by kernel_rfl)
theorem z193:Ag Tryz.prog 103:=⟨_,Tryz.underlying103,trivial⟩
theorem zjg:TI Tryz.prog 103 (.agg #[.string ByteArray.empty,.int .u8 (0),.int .u8 (0),.int .u8 (0),.int .u8 (0),.int .u8 (0),.int .u8 (0),.int .u8 (0),.int .u8 (0),.int .u8 (0),.int .u8 (0),.int .u8 (0),.int .u8 (0),.int .u8 (0),.int .u8 (0),.int .u8 (0),.int .u8 (0),.int .u8 (0),.int .u8 (0),.int .u8 (0),.int .u8 (0),.int .u8 (0),.int .u8 (0),.int .u8 (0),.int .u8 (0),.int .u8 (0),.int .u8 (0),.int .u8 (0),.int .u8 (0),.int .u8 (0),.int .u8 (0),.int .u8 (0),.int .u8 (0)]) 33 48:=TI.mk' (by kernel_rfl)
theorem z198:Sc Tryz.prog 107:=⟨_,Tryz.underlying107,trivial⟩
theorem z186:TI Tryz.prog 107 (.map none) 1 8:=TI.mk' (by kernel_rfl)
theorem z15z:Sc Tryz.prog 109:=⟨_,Tryz.underlying109,trivial⟩
theorem z16v:TI Tryz.prog 109 (.slice none 0 0) 1 24:=TI.mk' (by kernel_rfl)
theorem z19g:Ag Tryz.prog 125:=⟨_,Tryz.underlying125,trivial⟩
theorem zfp:TI Tryz.prog 125 (.agg #[.string ByteArray.empty,.int .u8 (0),.int .i64 (0),.int .u64 (0),.string ByteArray.empty,.int .u64 (0),.int .u8 (0),.int .u8 (0),.int .u8 (0),.int .u8 (0),.int .u8 (0),.int .u8 (0),.int .u8 (0),.int .u8 (0),.int .u8 (0),.int .u8 (0),.int .u8 (0),.int .u8 (0),.int .u8 (0),.int .u8 (0),.int .u8 (0),.int .u8 (0),.int .u8 (0),.int .u8 (0),.int .u8 (0),.int .u8 (0),.int .u8 (0),.int .u8 (0),.int .u8 (0),.int .u8 (0),.int .u8 (0),.int .u8 (0),.int .u8 (0),.int .u8 (0),.int .u8 (0),.int .u8 (0),.int .u8 (0),.int .u8 (0)]) 38 96:=TI.mk' (by kernel_rfl)
theorem z1a2:Ag Tryz.prog 143:=⟨_,Tryz.underlying143,trivial⟩
theorem zhd:TI Tryz.prog 143 (.agg #[.int .u32 (0),.int .u32 (0),.int .u32 (0),.int .u32 (0),.int .u32 (0),.int .u32 (0),.int .u32 (0),.int .u32 (0)]) 8 32:=TI.mk' (by kernel_rfl)
theorem z16w:TI Tryz.prog 202 (.nilFunc) 1 8:=TI.mk' (by kernel_rfl)
theorem z194:Ag Tryz.prog 241:=⟨_,Tryz.underlying241,trivial⟩
theorem znd:TI Tryz.prog 241 (.agg #[.int .u32 (0),.int .u32 (0),.int .u32 (0),.int .u32 (0),.int .u32 (0),.int .u32 (0),.int .u32 (0),.int .u32 (0),.slice none 0 0,.int .i64 (0)]) 10 64:=TI.mk' (by kernel_rfl)
theorem z19c:Ag Tryz.prog 259:=⟨_,Tryz.underlying259,trivial⟩
theorem zxl:TI Tryz.prog 259 (.agg #[.int .u32 (0),.int .u32 (0),.int .u32 (0),.int .u32 (0),.int .u32 (0),.int .u32 (0),.int .u32 (0),.int .u32 (0),.int .u32 (0),.int .u32 (0),.int .u32 (0),.int .u32 (0),.int .u32 (0),.int .u32 (0),.int .u32 (0),.int .u32 (0),.int .u32 (0),.int .u32 (0),.int .u32 (0),.int .u32 (0),.int .u32 (0),.int .u32 (0),.int .u32 (0),.int .u32 (0),.int .u32 (0),.int .u32 (0),.int .u32 (0),.int .u32 (0),.int .u32 (0),.int .u32 (0),.int .u32 (0),.int .u32 (0),.int .u32 (0),.int .u32 (0),.int .u32 (0),.int .u32 (0),.int .u32 (0),.int .u32 (0),.int .u32 (0),.int .u32 (0),.int .u32 (0),.int .u32 (0),.int .u32 (0),.int .u32 (0),.int .u32 (0),.int .u32 (0),.int .u32 (0),.int .u32 (0),.int .u32 (0),.int .u32 (0),.int .u32 (0),.int .u32 (0),.int .u32 (0),.int .u32 (0),.int .u32 (0),.int .u32 (0),.int .u32 (0),.int .u32 (0),.int .u32 (0),.int .u32 (0),.int .u32 (0),.int .u32 (0),.int .u32 (0),.int .u32 (0)]) 64 256:=TI.mk' (by kernel_rfl)
theorem tu3:Tryz.prog.underlying 3=some (.int .i64):=Tryz.underlying3
theorem tu5:Tryz.prog.underlying 5=some (.int .u8):=Tryz.underlying5
theorem tu9:Tryz.prog.underlying 9=some (.string):=Tryz.underlying9
theorem tu22:Tryz.prog.underlying 22=some (.slice 54):=Tryz.underlying22
theorem tu23:Tryz.prog.underlying 23=some (.slice 67):=Tryz.underlying23
theorem tu33:Tryz.prog.underlying 33=some (.slice 125):=Tryz.underlying33
theorem tu41:Tryz.prog.underlying 41=some (.slice 9):=Tryz.underlying41
theorem tu44:Tryz.prog.underlying 44=some (.int .u64):=Tryz.underlying44
theorem tu54:Tryz.prog.underlying 54=some (.array 32 5):=Tryz.underlying54
theorem tu63:Tryz.prog.underlying 63=some (.int .u32):=Tryz.underlying63
theorem tu94:Tryz.prog.underlying 94=some (.slice 5):=Tryz.underlying94
theorem tu98:Tryz.prog.underlying 98=some (.slice 3):=Tryz.underlying98
theorem tu143:Tryz.prog.underlying 143=some (.array 8 63):=Tryz.underlying143
theorem tu212:Tryz.prog.underlying 212=some (.slice 94):=Tryz.underlying212
theorem tu232:Tryz.prog.underlying 232=some (.slice 63):=Tryz.underlying232
end
section
open Go Go.RowKit
structure z02 where
 Kind:UInt8
 Num:Int
 Bits:UInt64
 Text:List UInt8
 deriving DecidableEq,Inhabited
def z0d:Rep z02:=zjw (fun x=>(x.Kind,x.Num,x.Bits,x.Text,())) (z4y u8R (z4y z08 (z4y z2x (z4y z3q zdb))))
theorem z2m (x:z02):z4d z0d x 0 u8R x.Kind (fun y=>{ x with Kind:=y }):=(z4d.fst).via (fun _=>rfl)
theorem z57 (x:z02):z4d z0d x 1 z08 x.Num (fun y=>{ x with Num:=y }):=(z4d.snd z4d.fst).via (fun _=>rfl)
theorem z44 (x:z02):z4d z0d x 2 z2x x.Bits (fun y=>{ x with Bits:=y }):=(z4d.snd (z4d.snd z4d.fst)).via (fun _=>rfl)
theorem z3o (x:z02):z4d z0d x 3 z3q x.Text (fun y=>{ x with Text:=y }):=(z4d.snd (z4d.snd (z4d.snd z4d.fst))).via (fun _=>rfl)
structure z07 where
 Kind:UInt8
 Key:List UInt8
 Value:z02
 deriving DecidableEq,Inhabited
def z0i:Rep z07:=zjw (fun x=>(x.Kind,x.Key,x.Value,())) (z4y u8R (z4y z3q (z4y z0d zdb)))
theorem z15 (x:z07):z4d z0i x 0 u8R x.Kind (fun y=>{ x with Kind:=y }):=(z4d.fst).via (fun _=>rfl)
theorem z1i (x:z07):z4d z0i x 1 z3q x.Key (fun y=>{ x with Key:=y }):=(z4d.snd z4d.fst).via (fun _=>rfl)
theorem z33 (x:z07):z4d z0i x 2 z0d x.Value (fun y=>{ x with Value:=y }):=(z4d.snd (z4d.snd z4d.fst)).via (fun _=>rfl)
structure z0c where
 E:UInt32
 S:UInt32
 deriving DecidableEq,Inhabited
def z0r:Rep z0c:=zjw (fun x=>(x.E,x.S,())) (z4y z0p (z4y z0p zdb))
theorem z4v (x:z0c):z4d z0r x 0 z0p x.E (fun y=>{ x with E:=y }):=(z4d.fst).via (fun _=>rfl)
theorem z6c (x:z0c):z4d z0r x 1 z0p x.S (fun y=>{ x with S:=y }):=(z4d.snd z4d.fst).via (fun _=>rfl)
structure z0a where
 Author:UInt32
 Preds:List V3
 Stamp:UInt64
 Act:z07
 Sig:z0c
 deriving DecidableEq,Inhabited
def z04:Rep z0a:=zjw (fun x=>(x.Author,x.Preds,x.Stamp,x.Act,x.Sig,())) (z4y z0p (z4y (z03 (z3m 32 u8R)) (z4y z2x (z4y z0i (z4y z0r zdb)))))
theorem z56 (x:z0a):z4d z04 x 0 z0p x.Author (fun y=>{ x with Author:=y }):=(z4d.fst).via (fun _=>rfl)
theorem z1b (x:z0a):z4d z04 x 1 (z03 (z3m 32 u8R)) x.Preds (fun y=>{ x with Preds:=y }):=(z4d.snd z4d.fst).via (fun _=>rfl)
theorem z3u (x:z0a):z4d z04 x 2 z2x x.Stamp (fun y=>{ x with Stamp:=y }):=(z4d.snd (z4d.snd z4d.fst)).via (fun _=>rfl)
theorem z0w (x:z0a):z4d z04 x 3 z0i x.Act (fun y=>{ x with Act:=y }):=(z4d.snd (z4d.snd (z4d.snd z4d.fst))).via (fun _=>rfl)
theorem z3z (x:z0a):z4d z04 x 9 z0r x.Sig (fun y=>{ x with Sig:=y }):=(z4d.snd (z4d.snd (z4d.snd (z4d.snd z4d.fst)))).via (fun _=>rfl)
structure z00 where
 IDs:List V3
 Ops:List z0a
 deriving DecidableEq,Inhabited
def z01:Rep z00:=zjw (fun x=>(x.IDs,x.Ops,())) (z4y (z03 (z3m 32 u8R)) (z4y (z03 z04) zdb))
theorem z0n (x:z00):z4d z01 x 0 (z03 (z3m 32 u8R)) x.IDs (fun y=>{ x with IDs:=y }):=(z4d.fst).via (fun _=>rfl)
theorem z06 (x:z00):z4d z01 x 1 (z03 z04) x.Ops (fun y=>{ x with Ops:=y }):=(z4d.snd z4d.fst).via (fun _=>rfl)
structure z11 where
 Key:List UInt8
 ID:V3
 deriving DecidableEq,Inhabited
def z1h:Rep z11:=zjw (fun x=>(x.Key,x.ID,())) (z4y z3q (z4y (z3m 32 u8R) zdb))
theorem z89 (x:z11):z4d z1h x 0 z3q x.Key (fun y=>{ x with Key:=y }):=(z4d.fst).via (fun _=>rfl)
theorem zcd (x:z11):z4d z1h x 1 (z3m 32 u8R) x.ID (fun y=>{ x with ID:=y }):=(z4d.snd z4d.fst).via (fun _=>rfl)
structure z2h where
 List:List z11
 deriving DecidableEq,Inhabited
def z1w:Rep z2h:=zjw (fun x=>(x.List,())) (z4y (z03 z1h) zdb)
theorem za1 (x:z2h):z4d z1w x 0 (z03 z1h) x.List (fun y=>{ x with List:=y }):=(z4d.fst).via (fun _=>rfl)
structure z16 where
 Key:List UInt8
 Value:z02
 Stamp:UInt64
 ID:V3
 deriving DecidableEq,Inhabited
def z13:Rep z16:=zjw (fun x=>(x.Key,x.Value,x.Stamp,x.ID,())) (z4y z3q (z4y z0d (z4y z2x (z4y (z3m 32 u8R) zdb))))
theorem z88 (x:z16):z4d z13 x 0 z3q x.Key (fun y=>{ x with Key:=y }):=(z4d.fst).via (fun _=>rfl)
theorem zbw (x:z16):z4d z13 x 1 z0d x.Value (fun y=>{ x with Value:=y }):=(z4d.snd z4d.fst).via (fun _=>rfl)
theorem za4 (x:z16):z4d z13 x 5 z2x x.Stamp (fun y=>{ x with Stamp:=y }):=(z4d.snd (z4d.snd z4d.fst)).via (fun _=>rfl)
theorem zer (x:z16):z4d z13 x 6 (z3m 32 u8R) x.ID (fun y=>{ x with ID:=y }):=(z4d.snd (z4d.snd (z4d.snd z4d.fst))).via (fun _=>rfl)
structure z35 where
 List:List z16
 deriving DecidableEq,Inhabited
def z2b:Rep z35:=zjw (fun x=>(x.List,())) (z4y (z03 z13) zdb)
theorem z82 (x:z35):z4d z2b x 0 (z03 z13) x.List (fun y=>{ x with List:=y }):=(z4d.fst).via (fun _=>rfl)
structure z3n where
 Version:Int
 Set:z2h
 Regs:z35
 Heads:List V3
 deriving DecidableEq,Inhabited
def z2r:Rep z3n:=zjw (fun x=>(x.Version,x.Set,x.Regs,x.Heads,())) (z4y z08 (z4y z1w (z4y z2b (z4y (z03 (z3m 32 u8R)) zdb))))
theorem z75 (x:z3n):z4d z2r x 0 z08 x.Version (fun y=>{ x with Version:=y }):=(z4d.fst).via (fun _=>rfl)
theorem zc3 (x:z3n):z4d z2r x 1 z1w x.Set (fun y=>{ x with Set:=y }):=(z4d.snd z4d.fst).via (fun _=>rfl)
theorem zbd (x:z3n):z4d z2r x 2 z2b x.Regs (fun y=>{ x with Regs:=y }):=(z4d.snd (z4d.snd z4d.fst)).via (fun _=>rfl)
theorem zam (x:z3n):z4d z2r x 3 (z03 (z3m 32 u8R)) x.Heads (fun y=>{ x with Heads:=y }):=(z4d.snd (z4d.snd (z4d.snd z4d.fst))).via (fun _=>rfl)
structure z0j where
 in_:Bool
 v:z02
 deriving DecidableEq,Inhabited
def z0s:Rep z0j:=zjw (fun x=>(x.in_,x.v,())) (z4y z09 (z4y z0d zdb))
theorem zb3 (x:z0j):z4d z0s x 0 z09 x.in_ (fun y=>{ x with in_:=y }):=(z4d.fst).via (fun _=>rfl)
theorem zcb (x:z0j):z4d z0s x 1 z0d x.v (fun y=>{ x with v:=y }):=(z4d.snd z4d.fst).via (fun _=>rfl)
structure z2k where
 Words:Vector UInt32 8
 Rest:List UInt8
 N:Int
 deriving DecidableEq,Inhabited
def z2z:Rep z2k:=zjw (fun x=>(x.Words,x.Rest,x.N,())) (z4y (z3m 8 z0p) (z4y (z03 u8R) (z4y z08 zdb)))
theorem zem (x:z2k):z4d z2z x 0 (z3m 8 z0p) x.Words (fun y=>{ x with Words:=y }):=(z4d.fst).via (fun _=>rfl)
theorem zl4 (x:z2k):z4d z2z x 8 (z03 u8R) x.Rest (fun y=>{ x with Rest:=y }):=(z4d.snd z4d.fst).via (fun _=>rfl)
theorem z97 (x:z2k):z4d z2z x 9 z08 x.N (fun y=>{ x with N:=y }):=(z4d.snd (z4d.snd z4d.fst)).via (fun _=>rfl)
theorem zfn:Zr (z3m 32 u8R) (Value.cells (.agg #[.int .u8 (0),.int .u8 (0),.int .u8 (0),.int .u8 (0),.int .u8 (0),.int .u8 (0),.int .u8 (0),.int .u8 (0),.int .u8 (0),.int .u8 (0),.int .u8 (0),.int .u8 (0),.int .u8 (0),.int .u8 (0),.int .u8 (0),.int .u8 (0),.int .u8 (0),.int .u8 (0),.int .u8 (0),.int .u8 (0),.int .u8 (0),.int .u8 (0),.int .u8 (0),.int .u8 (0),.int .u8 (0),.int .u8 (0),.int .u8 (0),.int .u8 (0),.int .u8 (0),.int .u8 (0),.int .u8 (0),.int .u8 (0)])).toList (Vector.replicate 32 0):=Zr.arr (c:=(Value.cells (.int .u8 (0))).toList) (Zr.num rfl) rfl
theorem zs5:Zr (z3m 8 z0p) (Value.cells (.agg #[.int .u32 (0),.int .u32 (0),.int .u32 (0),.int .u32 (0),.int .u32 (0),.int .u32 (0),.int .u32 (0),.int .u32 (0)])).toList (Vector.replicate 8 0):=Zr.arr (c:=(Value.cells (.int .u32 (0))).toList) (Zr.num rfl) rfl
theorem z18q:Zr (z3m 64 z0p) (Value.cells (.agg #[.int .u32 (0),.int .u32 (0),.int .u32 (0),.int .u32 (0),.int .u32 (0),.int .u32 (0),.int .u32 (0),.int .u32 (0),.int .u32 (0),.int .u32 (0),.int .u32 (0),.int .u32 (0),.int .u32 (0),.int .u32 (0),.int .u32 (0),.int .u32 (0),.int .u32 (0),.int .u32 (0),.int .u32 (0),.int .u32 (0),.int .u32 (0),.int .u32 (0),.int .u32 (0),.int .u32 (0),.int .u32 (0),.int .u32 (0),.int .u32 (0),.int .u32 (0),.int .u32 (0),.int .u32 (0),.int .u32 (0),.int .u32 (0),.int .u32 (0),.int .u32 (0),.int .u32 (0),.int .u32 (0),.int .u32 (0),.int .u32 (0),.int .u32 (0),.int .u32 (0),.int .u32 (0),.int .u32 (0),.int .u32 (0),.int .u32 (0),.int .u32 (0),.int .u32 (0),.int .u32 (0),.int .u32 (0),.int .u32 (0),.int .u32 (0),.int .u32 (0),.int .u32 (0),.int .u32 (0),.int .u32 (0),.int .u32 (0),.int .u32 (0),.int .u32 (0),.int .u32 (0),.int .u32 (0),.int .u32 (0),.int .u32 (0),.int .u32 (0),.int .u32 (0),.int .u32 (0)])).toList (Vector.replicate 64 0):=Zr.arr (c:=(Value.cells (.int .u32 (0))).toList) (Zr.num rfl) rfl
theorem zjt:Zr z0d (Value.cells (.agg #[.int .u8 (0),.int .i64 (0),.int .u64 (0),.string ByteArray.empty])).toList (⟨0,0,0,[]⟩:z02):=Zr.via (Zr.prod (Zr.num rfl) (Zr.prod (Zr.num rfl) (Zr.prod (Zr.num rfl) (Zr.prod Zr.str Zr.unit rfl) rfl) rfl) rfl)
theorem zla:Zr z0i (Value.cells (.agg #[.int .u8 (0),.string ByteArray.empty,.int .u8 (0),.int .i64 (0),.int .u64 (0),.string ByteArray.empty])).toList (⟨0,[],(⟨0,0,0,[]⟩:z02)⟩:z07):=Zr.via (Zr.prod (Zr.num rfl) (Zr.prod Zr.str (Zr.prod zjt Zr.unit rfl) rfl) rfl)
theorem zoe:Zr z0r (Value.cells (.agg #[.int .u32 (0),.int .u32 (0)])).toList (⟨0,0⟩:z0c):=Zr.via (Zr.prod (Zr.num rfl) (Zr.prod (Zr.num rfl) Zr.unit rfl) rfl)
theorem zr67:Zr z04 (Value.cells (.agg #[.int .u32 (0),.slice none 0 0,.int .u64 (0),.int .u8 (0),.string ByteArray.empty,.int .u8 (0),.int .i64 (0),.int .u64 (0),.string ByteArray.empty,.int .u32 (0),.int .u32 (0)])).toList (⟨0,[],0,(⟨0,[],(⟨0,0,0,[]⟩:z02)⟩:z07),(⟨0,0⟩:z0c)⟩:z0a):=Zr.via (Zr.prod (Zr.num rfl) (Zr.prod Zr.slice (Zr.prod (Zr.num rfl) (Zr.prod zla (Zr.prod zoe Zr.unit rfl) rfl) rfl) rfl) rfl)
theorem zr25:Zr z01 (Value.cells (.agg #[.slice none 0 0,.slice none 0 0])).toList (⟨[],[]⟩:z00):=Zr.via (Zr.prod Zr.slice (Zr.prod Zr.slice Zr.unit rfl) rfl)
theorem zvn:Zr z1h (Value.cells (.agg #[.string ByteArray.empty,.int .u8 (0),.int .u8 (0),.int .u8 (0),.int .u8 (0),.int .u8 (0),.int .u8 (0),.int .u8 (0),.int .u8 (0),.int .u8 (0),.int .u8 (0),.int .u8 (0),.int .u8 (0),.int .u8 (0),.int .u8 (0),.int .u8 (0),.int .u8 (0),.int .u8 (0),.int .u8 (0),.int .u8 (0),.int .u8 (0),.int .u8 (0),.int .u8 (0),.int .u8 (0),.int .u8 (0),.int .u8 (0),.int .u8 (0),.int .u8 (0),.int .u8 (0),.int .u8 (0),.int .u8 (0),.int .u8 (0),.int .u8 (0)])).toList (⟨[],(Vector.replicate 32 0)⟩:z11):=Zr.via (Zr.prod Zr.str (Zr.prod zfn Zr.unit rfl) rfl)
theorem zr32:Zr z1w (Value.cells (.agg #[.slice none 0 0])).toList (⟨[]⟩:z2h):=Zr.via (Zr.prod Zr.slice Zr.unit rfl)
theorem z16j:Zr z13 (Value.cells (.agg #[.string ByteArray.empty,.int .u8 (0),.int .i64 (0),.int .u64 (0),.string ByteArray.empty,.int .u64 (0),.int .u8 (0),.int .u8 (0),.int .u8 (0),.int .u8 (0),.int .u8 (0),.int .u8 (0),.int .u8 (0),.int .u8 (0),.int .u8 (0),.int .u8 (0),.int .u8 (0),.int .u8 (0),.int .u8 (0),.int .u8 (0),.int .u8 (0),.int .u8 (0),.int .u8 (0),.int .u8 (0),.int .u8 (0),.int .u8 (0),.int .u8 (0),.int .u8 (0),.int .u8 (0),.int .u8 (0),.int .u8 (0),.int .u8 (0),.int .u8 (0),.int .u8 (0),.int .u8 (0),.int .u8 (0),.int .u8 (0),.int .u8 (0)])).toList (⟨[],(⟨0,0,0,[]⟩:z02),0,(Vector.replicate 32 0)⟩:z16):=Zr.via (Zr.prod Zr.str (Zr.prod zjt (Zr.prod (Zr.num rfl) (Zr.prod zfn Zr.unit rfl) rfl) rfl) rfl)
theorem zr35:Zr z2b (Value.cells (.agg #[.slice none 0 0])).toList (⟨[]⟩:z35):=Zr.via (Zr.prod Zr.slice Zr.unit rfl)
theorem zr79:Zr z0s (Value.cells (.agg #[.bool false,.int .u8 (0),.int .i64 (0),.int .u64 (0),.string ByteArray.empty])).toList (⟨false,(⟨0,0,0,[]⟩:z02)⟩:z0j):=Zr.via (Zr.prod Zr.bool (Zr.prod zjt Zr.unit rfl) rfl)
theorem sc1:Sc Tryz.prog 1:=⟨_,Tryz.underlying1,trivial⟩
theorem ty1:zbt Tryz.prog 1 false 1:=.sc sc1
theorem ty2:zbt Tryz.prog 2 false 1:=.sc sc2
theorem ty3:zbt Tryz.prog 3 false 1:=.sc sc3
theorem ty4:zbt Tryz.prog 4 false 1:=.sc sc4
theorem ty5:zbt Tryz.prog 5 false 1:=.sc sc5
theorem ty9:zbt Tryz.prog 9 false 1:=.sc sc9
theorem zbp:zbt Tryz.prog 22 false 1:=.sc sc22
theorem zep:zbt Tryz.prog 23 false 1:=.sc sc23
theorem zb9:zbt Tryz.prog 25 true 2:=.ag ag25 zfh
theorem ty30:zbt Tryz.prog 30 false 1:=.sc sc30
theorem ty32:zbt Tryz.prog 32 true 1:=.ag ag32 zxk
theorem ty33:zbt Tryz.prog 33 false 1:=.sc sc33
theorem ty35:zbt Tryz.prog 35 true 1:=.ag ag35 zzs
theorem ty37:zbt Tryz.prog 37 true 4:=.ag ag37 ti37
theorem znt:zbt Tryz.prog 44 false 1:=.sc sc44
theorem zh5:zbt Tryz.prog 46 true 4:=.ag ag46 zad
theorem ty52:zbt Tryz.prog 52 true 6:=.ag ag52 ze9
theorem z6a:zbt Tryz.prog 54 true 32:=.ag ag54 z3v
theorem z9i:zbt Tryz.prog 63 false 1:=.sc sc63
theorem ty65:zbt Tryz.prog 65 true 2:=.ag ag65 znj
theorem zeb:zbt Tryz.prog 67 true 11:=.ag ag67 zb1
theorem ty79:zbt Tryz.prog 79 true 5:=.ag ag79 ti79
theorem ty94:zbt Tryz.prog 94 false 1:=.sc sc94
theorem ty98:zbt Tryz.prog 98 false 1:=.sc sc98
theorem zvt:zbt Tryz.prog 103 true 33:=.ag z193 zjg
theorem zn4:zbt Tryz.prog 125 true 38:=.ag z19g zfp
theorem z190:Sc Tryz.prog 126:=⟨_,Tryz.underlying126,trivial⟩
theorem zrq:zbt Tryz.prog 143 true 8:=.ag z1a2 zhd
theorem z18w:Sc Tryz.prog 202:=⟨_,Tryz.underlying202,trivial⟩
theorem zr4:zbt Tryz.prog 241 true 10:=.ag z194 znd
theorem z18i:zbt Tryz.prog 259 true 64:=.ag z19c zxl
def z5i:Vector UInt32 64:=#v[1116352408,1899447441,3049323471,3921009573,961987163,1508970993,2453635748,2870763221,3624381080,310598401,607225278,1426881987,1925078388,2162078206,2614888103,3248222580,3835390401,4022224774,264347078,604807628,770255983,1249150122,1555081692,1996064986,2554220882,2821834349,2952996808,3210313671,3336571891,3584528711,113926993,338241895,666307205,773529912,1294757372,1396182291,1695183700,1986661051,2177026350,2456956037,2730485921,2820302411,3259730800,3345764771,3516065817,3600352804,4094571909,275423344,430227734,506948616,659060556,883997877,958139571,1322822218,1537002063,1747873779,1955562222,2024104815,2227730452,2361852424,2428436474,2756734187,3204031479,3329325298]
abbrev zG1:Nat × Option (Value × z4l):=(1001,some ((.bool true),.glob 1 (z3m 64 z0p) z5i))
end
section
open Go Go.RowKit
set_option maxRecDepth 100000 in
theorem eq46:EqR Tryz.prog 46 z0d ((max 1 (max 1 (max 1 (max 1 0))))+1):=EqR.struct (R:=(z4y u8R (z4y z08 (z4y z2x (z4y z3q zdb))))) (g:=fun x:z02=>(x.Kind,x.Num,x.Bits,x.Text,())) (EqF.cons (EqR.u8 Tryz.underlying5) ty5 rfl (by decide) (EqF.cons (EqR.i64 Tryz.underlying2) ty2 rfl (by decide) (EqF.cons (EqR.u64 Tryz.underlying44) znt rfl (by decide) (EqF.cons (EqR.str Tryz.underlying9) ty9 rfl (by decide) EqF.nil)))) Tryz.underlying46 (by kernel_rfl) (fun x y h=>by cases x; cases y; simpa using h) rfl
set_option maxRecDepth 100000 in
theorem gq46:Tryz.prog.eqGuardType Tryz.prog.depth 46=false:=by kernel_rfl
set_option maxRecDepth 100000 in
theorem eq52:EqR Tryz.prog 52 z0i ((max 1 (max 1 (max 2 0)))+1):=EqR.struct (R:=(z4y u8R (z4y z3q (z4y z0d zdb)))) (g:=fun x:z07=>(x.Kind,x.Key,x.Value,())) (EqF.cons (EqR.u8 Tryz.underlying5) ty5 rfl (by decide) (EqF.cons (EqR.str Tryz.underlying9) ty9 rfl (by decide) (EqF.cons eq46 zh5 rfl (by decide) EqF.nil))) Tryz.underlying52 (by kernel_rfl) (fun x y h=>by cases x; cases y; simpa using h) rfl
set_option maxRecDepth 100000 in
theorem gq52:Tryz.prog.eqGuardType Tryz.prog.depth 52=false:=by kernel_rfl
set_option maxRecDepth 100000 in
theorem eq54:EqR Tryz.prog 54 (z3m 32 u8R) 2:=EqR.arr (EqR.u8 Tryz.underlying5) Tryz.underlying54 ti5 ty5
set_option maxRecDepth 100000 in
theorem gq54:Tryz.prog.eqGuardType Tryz.prog.depth 54=false:=by kernel_rfl
set_option maxRecDepth 100000 in
theorem z19n:EqR Tryz.prog 103 z1h ((max 1 (max 2 0))+1):=EqR.struct (R:=(z4y z3q (z4y (z3m 32 u8R) zdb))) (g:=fun x:z11=>(x.Key,x.ID,())) (EqF.cons (EqR.str Tryz.underlying9) ty9 rfl (by decide) (EqF.cons eq54 z6a rfl (by decide) EqF.nil)) Tryz.underlying103 (by kernel_rfl) (fun x y h=>by cases x; cases y; simpa using h) rfl
theorem ky54:zjr Tryz.prog 54 (z3m 32 u8R) 2:=zjr.arr (zjr.u8 Tryz.underlying5) Tryz.underlying54 ti5 ty5 rfl
set_option maxRecDepth 100000 in
theorem z17v:zjr Tryz.prog 103 z1h ((max 1 (max 2 0))+1):=zjr.struct (R:=(z4y z3q (z4y (z3m 32 u8R) zdb))) (g:=fun x:z11=>(x.Key,x.ID,())) (KeyF.cons (zjr.str Tryz.underlying9) ty9 rfl (by decide) (KeyF.cons ky54 z6a rfl (by decide) KeyF.nil)) Tryz.underlying103 rfl z19n (by decide) (by decide)
end
section
open Go Go.RowKit
variable {ro:Option Nat}
section
variable {α:Type} {C:World→World→Prop} {P:Program} {Γ:Ctx} {l:z1p} {res:Res} {d:Tmp} {ty:TypeId} {pos:String} {after:Array Edge} {g:Option (Nat × Bool)} {R:Rep α}
def VwE (R:Rep α) (v:Value) (L x:List α) (E:Ent):Prop:=∀ S w u,E.holds S w u→(Ent.vw R v L x).holds S w u
theorem vwW {v:Value} {L:List α}:VwE R v L L (.val v):=fun _ _ _ h=>.inl ⟨h.1,rfl, by rw [h.1]; exact h.2⟩
theorem aW {os:List Operand} {ps:List Ent} {o:Operand} {v:Value} {L:List α} (h:opE l o=some (.val v)) (k:z9j l os ps):z9j l (o::os) (.vw R v L L::ps):=⟨⟨_,h,vwW⟩,k⟩
theorem z14n {S:Blk} {w:World} {u v:Value} {T:TypeId} {L x:List α} (h:(Ent.vw R v L x).holds S w u) (hc:(z4l.list R T L).holds S w v) :
  (u=.slice none 0 0∧x=[])∨∃ k o sp cap i,u=.slice (some ⟨k,o,sp⟩) x.length cap∧z58 v=some k∧x.length≤cap∧cap≤maxLen∧(x≠[]→sp=none∧o=i * R.sz)∧(L.drop i).take x.length=x:=by
 rcases h with ⟨rfl,rfl,-⟩ | h | h
 ·rcases hc with ⟨rfl,rfl⟩ | ⟨b',ob,g1,g2,bb,cp,Cc,rfl,rfl,g3,g4,g5,g6⟩
  ·exact .inl ⟨rfl,rfl⟩
  ·exact .inr ⟨bb,0,none,cp,0,rfl,rfl,g3,g4, fun _=>⟨rfl, by simp⟩, by simp⟩
 ·exact .inl h
 ·exact .inr h
theorem ixQ {β:Type} {b L:List α} {y:α} {k:IntKind} {f:β→Int} {j:β} {x z':Operand} {T e E:TypeId} {z v:Value} {by_:Nat} (r:Nat) (hx:opE l x=some (.vw R v L b)) (hr:lr res r=some (v,.list R E L)) (hj:opE l z'=some (.rd (z9b k f) j)) (hy:idx b (f j)=some y) (hT:P.underlying T=some (.slice e)) (hE:TI P e z R.sz by_) :
  Run C P Γ l res ⟨some d,.indexAddr T x z',ty,pos,after,g⟩ (.vp R v L y):=fun a w ha=>by
 obtain ⟨k1,k2,k3⟩:=z5x hy;have hj':a.eval z'=.int k ((f j).toNat:Int):=by rw [z4q (ha.vl hj)]; congr 1; omega
 rcases z14n (ha.vl hx) (ha.conts r v _ hr) with ⟨k5,rfl⟩ | ⟨bk,o,sp,cap,n,h5,q1,q2,q3,q4,q5⟩
 ·simp at k3
 ·have hne:b≠[]:=fun e=>by rw [e] at k3; simp at k3
  obtain ⟨rfl,rfl⟩:=q4 hne;refine ⟨.pointer (some ⟨bk,n * R.sz+(f j).toNat * R.sz,none⟩), fun w' _=>?_,bk,n+(f j).toNat, by rw [Nat.add_mul],q1,?_⟩
  ·generalize (f j).toNat=jn at *;simp [execOp,h5,hj',Instr.indexAt,asIntOf,run_underlying hT,k3,z3a hE,z5y]
  ·rw [← q5,List.getElem?_take,if_pos k3,List.getElem?_drop] at k2;exact k2
theorem ldQ {ws:List Nat} [LC C res ws] {L:List α} {y:α} {t E:TypeId} {x:Operand} {v:Value} (r:Nat) (hx:opE l x=some (.vp R v L y)) (hr:lr res r=some (v,.list R E L)) (hT:zbt P t R.agg R.sz) (hw:ws.contains r=false) :
  Run C P Γ l res ⟨some d,.load t x,ty,pos,after,g⟩ (.rd R y):=fun a w ha=>by
 obtain ⟨k,n,h1,hk,hy⟩:=ha.vl hx;have hidx:idx L (n:Int)=some y:=by unfold idx; rw [if_pos (by omega)]; simpa using hy
 have hf:Foc (.list R E L) (n * R.sz) R y (fun y=>.list R E (L.set n y)):=by
  have:=Foc.el (R:=R) (T:=E) hidx
  simpa using this
 rcases ha.conts r v _ hr with ⟨q1,-⟩ | ⟨b,o,h2,h3,h4⟩
 ·rw [q1] at hk; cases hk
 ·obtain ⟨b',Cc,T,a',cs,dd,k1,rfl,k3,k4,k5,-⟩:=hf.2 _ w v o h4;have e:b=b':=by have:=zio k1; rw [h2] at this; cases this; rfl
  subst e;have hk:some b=some k:=by rw [← h2,hk]
  cases hk
  refine ⟨R.val cs, fun w' hw'=>?_,cs,k5,rfl⟩;have hb':w'.heap[k]? = some (.cells Cc T (0,0)):=(CW.at hw' ha hr h2 hw).trans h3
  have:=Bx.load (P:=P) hb' k3 (R.mono (CW.stay hw') k5) hT
  rw [k4] at this;simp [execOp,h1,Instr.loadAt,Instr.sureAddr,this]
end
section
variable {ρ α:Type} {P:Program} {Γ:Ctx} {l:z1p} {res:Res} {m:Option ρ} {os rest:List Oper} {N Q:ρ→Exit→Act→World→Prop} {c:Code} {e:Exit}
end
end
section
open Go Go.RowKit
def z19b (V:Blk) (W W':World):Blk:=fun b=>V b∨(W.heap.size≤b∧b<W'.heap.size)
section
variable {ρ α σ β τ:Type} {P:Program} {Γ:Ctx} {l L:z1p} {res:Res} {A:Asn} {Q:ρ→Exit→Act→World→Prop}
end
end
section
open Go Go.RowKit
section
variable {P:Program} {ops:Array Oper} {Q:Exit→Act→World→Prop}
end
structure IEnv (P:Program) {α:Type} (R:Rep α) (σ:Type) where
 Y:α→σ→Option σ
 go:σ→Bool
 J:Blk→σ→World→Prop
 l:Nat
 hV:∀ V s W,J V s W→∀ b,V b→b<W.heap.size
 hext:∀ V s W W',J V s W→Ext W W'→J (z19b V W W') s W'
 round:∀ V s s' x u W,Y x s=some s'→go s=true→J V s W→(Ent.rd R x).holds V W u→YieldAt Fence.wide 0 P l #[u] W fun e W'=>e=.returned (.bool (go s'))∧J V s' W'∧zl0 V W W'
section
variable {P:Program} {α σ ρ:Type} {R:Rep α}
variable {E:IEnv P R σ} {V:Blk} {W:World} {l:z1p} {res:Res} {n:Nat} {s:σ}
variable {Q:ρ→Exit→Act→World→Prop}
end
section
variable {C:World→World→Prop} {P:Program} {Γ:Ctx} {l:z1p} {res:Res} {d:Tmp} {ty:TypeId} {pos:String} {after:Array Edge} {g:Option (Nat × Bool)}
theorem z19i {ρ τ:Type} {ro:Option Nat} {A:Asn} {x:Code} {Q:ρ→Exit→Act→World→Prop} {Bs:τ→Asn} {m:Option τ} {k:τ→Option ρ} (hx:G ro P A x (midQ Bs) m) (hy:∀ t,GE (Bs t) .normal Q (k t)):G ro P A x Q (m >>= k):=fun a w ha r hr=>by
 cases hm:m with
 | none=>rw [hm] at hr; cases hr
 | some t =>
  rw [hm] at hr;refine zlg (fun e a w h=>?_) (hx a w ha t hm);obtain ⟨rfl,h⟩:=h;exact hy t a w h r hr
end
end
section
open Go Go.RowKit
def zhg:Rep Value where
 sz:=1
 agg:=false
 rel _ _ cs x:=cs=[x]∧x.oneCell'=true
 len h:=by rw [h.1]; rfl
 one h:=by rw [h.1]; intro u hu; simp only [List.mem_singleton] at hu; subst hu; exact h.2
 scal _:=rfl
 mono _ h:=h
def zaw {α:Type} (vs:Nat→Value) (ls:List (List α)):List Value:=(List.range ls.length).map vs
def zps {α:Type} (base:Nat) (R:Rep α) (T:TypeId) (vs:Nat→Value):List (List α)→Nat→Res
 | [],_=>[]
 | x::ls,j=>(base+j,some (vs j,.list R T x))::zps base R T vs ls (j+1)
def updF (vs:Nat→Value) (j:Nat) (u:Value):Nat→Value:=fun i=>if i=j then u else vs i
def nvlF:List Value→(Nat→Value)→Nat→Value
 | [],vs=>vs
 | a::l,vs=>fun
  | 0=>a
  | n+1=>nvlF l vs n
section
variable {α:Type} {base:Nat} {R:Rep α} {T:TypeId} {vs:Nat→Value}
theorem z10q:∀ {ls:List (List α)} {i j:Nat},lr (zps base R T vs ls i) (base+(i+j))=ls[j]?.map fun x=>(vs (i+j),.list R T x)
 | [],i,j=>rfl
 | x::ls,i,0=>by
  rw [zps,z1a,if_pos (by omega)]; rfl
 | x::ls,i,j+1=>by
  rw [zps,z1a,if_neg (by omega)]
  have:=@z10q ls (i+1) j
  rw [show i+(j+1)=i+1+j by omega,this]; simp
theorem zgd:∀ {ls:List (List α)} {i k:Nat} {x:Value × z4l},lr (zps base R T vs ls i) k=some x→∃ j y,k=base+(i+j)∧ls[j]? = some y∧x=(vs (i+j),.list R T y)
 | [],i,k,x,h=>by cases h
 | y::ls,i,k,x,h=>by
  rw [zps,z1a] at h
  split at h
  ·rename_i hk; cases h; exact ⟨0,y, by omega,rfl,rfl⟩
  ·obtain ⟨j,z,h1,h2,h3⟩:=zgd h;exact ⟨j+1,z, by omega, by simpa using h2, by rw [h3, show i+1+j=i+(j+1) by omega]⟩
theorem zmo {pre f:Res} {k:Nat} {x:Value × z4l} (h:lr (pre++f) k=some x) (hp:∀ p∈pre,p.2≠none):lr pre k=some x∨((∀ p∈pre,p.1≠k)∧lr f k=some x):=by
 induction pre with
 | nil=>exact .inr ⟨by simp,h⟩
 | cons p pre ih =>
  obtain ⟨q,y⟩:=p;rw [List.cons_append,z1a] at h;rw [z1a]
  split at h
  ·rename_i hq; rw [if_pos hq]; exact .inl h
  ·rename_i hq;rw [if_neg hq];rcases ih h (fun p hp'=>hp p (by simp [hp'])) with h1 | ⟨h1,h2⟩
   ·exact .inl h1
   ·refine .inr ⟨fun p hp'=>?_,h2⟩;rcases List.mem_cons.1 hp' with rfl | h3
    ·exact hq
    ·exact h1 p h3
def z6w (res:Res) (base:Nat) (R:Rep α) (T:TypeId) (vs:Nat→Value) (ls:List (List α)):Prop:=∀ j y,ls[j]? = some y→lr res (base+j)=some (vs j,.list R T y)
theorem z6w.tail {ls:List (List α)}:z6w (zps base R T vs ls 0) base R T vs ls:=fun j y h=>by
 have:=z10q (base:=base) (R:=R) (T:=T) (vs:=vs) (ls:=ls) (i:=0) (j:=j)
 rw [Nat.zero_add] at this;rw [this,h]; rfl
theorem z6w.cons {res:Res} {k:Nat} {x:Option (Value × z4l)} {ls:List (List α)} (hk:Nat.blt k base=true) (h:z6w res base R T vs ls):z6w ((k,x)::res) base R T vs ls:=fun j y hj=>by
 have hk:k<base:=Eq.mp Nat.blt_eq hk;rw [z1a,if_neg (by omega)]; exact h j y hj
theorem zpj {ls:List (List α)} {i:Int} {y:List α} (h:idx ls i=some y):idx (zaw vs ls) i=some (vs i.toNat):=by
 obtain ⟨h0,h2,hlt⟩:=z5x h;have h0':(0:Int)≤i:=h0;unfold idx;rw [if_pos h0'];unfold zaw;rw [List.getElem?_map,List.getElem?_range hlt]; rfl
theorem z10g {ls:List (List α)} {j:Nat} {u:Value} {z:List α}:(zaw vs ls).set j u=zaw (updF vs j u) (ls.set j z):=by
 unfold zaw updF
 apply List.ext_getElem?
 intro i;rw [List.getElem?_set,List.getElem?_map,List.length_map,List.length_range,List.length_set];by_cases hi:i<ls.length
 ·rw [List.getElem?_map,List.getElem?_range hi];by_cases h:j=i
  ·subst h; simp [hi]
  ·simp [h,Ne.symm h]
 ·have h1:¬ i<(List.range ls.length).length:=by simpa using hi
  rw [List.getElem?_map,List.getElem?_eq_none (by omega)]
  split
  ·rename_i h; subst h; rw [if_neg hi]; rfl
  ·rfl
theorem z16c {by_:Nat} {n:Int} {ls:List (List α)} (h:mkn by_ ([]:List α) n=some ls):∀ x∈ls,x=[]:=fun x hx=>by
 obtain ⟨-,-,-,rfl⟩:=zlk h;exact (List.mem_replicate.1 hx).2
end
section
variable {P:Program} {Γ:Ctx} {l l':z1p} {res res' lits:Res} {a:Act} {w:World} {α:Type} {base:Nat} {R:Rep α} {T T':TypeId} {vs:Nat→Value} {ls:List (List α)}
theorem Sta.subG (ha:Sta Γ l res a w) (h1:∀ r x,lr res' r=some x→∃ n,lr res n=some x) (h2:∀ r r2 x x2,lr res' r=some x→lr res' r2=some x2→r≠r2→∃ n n2,n≠n2∧lr res n=some x∧lr res n2=some x2) (hs:∀ t e,lk l' t=some e→lk l t=some e):Sta Γ l' res' a w:=by
 have hst:z9q (Shr Γ.H res w) (Shr Γ.H res' w) w w:=fun b hb=>⟨⟨hb.1, fun r v c hr=>by obtain ⟨n,h⟩:=h1 _ _ hr; exact hb.2.1 n v c h,hb.2.2⟩,rfl⟩
 exact {
  size:=ha.size
  defers:=ha.defers
  slots:=fun t e ht=>by obtain ⟨v,k1,k2⟩:=ha.slots t e (hs t e ht); exact ⟨v,k1,e.mono hst k2⟩
  conts:=fun r v c h=>by obtain ⟨n,k1⟩:=h1 _ _ h; exact (ha.conts n v c k1).mono hst (fun _ _=>rfl)
  excl:=fun r v c r' v' c' h h' hne=>by obtain ⟨n,n2,k1,k2,k3⟩:=h2 _ _ _ _ h h' hne; exact ha.excl n v c n2 v' c' k2 k3 k1
  own:=fun r v c h=>by obtain ⟨n,k1⟩:=h1 _ _ h; exact ha.own n v c k1
  keep:=ha.keep
  old:=ha.old
  hid:=ha.hid }
theorem zby.get3 {res:Res}:∀ {res':Res} {ns:List Nat} {r r2:Nat} {x x2:Value × z4l},zby res res' ns→lr res' r=some x→lr res' r2=some x2→r≠r2→∃ n n2,n∈ns∧n2∈ns∧n≠n2∧lr res n=some x∧lr res n2=some x2
 | [],[],_,_,_,_,_,h,_,_=>by cases h
 | (r',y)::res',n::ns,r,r2,x,x2,hs,h,h',hne=>by
  rw [z1a] at h h';obtain ⟨⟨y,rfl,h1⟩,h2,h3⟩:=hs;have hn:∀ n',n'∈ns→n≠n':=fun n' hn' e=>by subst e; simp at h2; exact h2 hn'
  split at h
  ·rename_i e1; subst e1; cases h
   rw [if_neg hne] at h';obtain ⟨v2,c2⟩:=x2;obtain ⟨n',h4,h5⟩:=zby.get h3 h';exact ⟨n,n', by simp, by simp [h4],hn n' h4,h1,h5⟩
  ·split at h'
   ·cases h'
    obtain ⟨v,c⟩:=x;obtain ⟨n',h4,h5⟩:=zby.get h3 h;exact ⟨n',n, by simp [h4], by simp, fun e=>hn n' h4 e.symm,h5,h1⟩
   ·obtain ⟨n1,n2,i1,i2,k1,k2,k3⟩:=zby.get3 h3 h h' hne;exact ⟨n1,n2, by simp [i1], by simp [i2],k1,k2,k3⟩
 | [],_::_,_,_,_,_,hs,_,_,_=>hs.elim
 | _::_,[],_,_,_,_,hs,_,_,_=>hs.elim
theorem zby.somes:∀ {res':Res} {ns:List Nat},zby res res' ns→∀ p∈res',p.2≠none
 | [],[],_,p,hp=>by simp at hp
 | (r,x)::res',n::ns,h,p,hp=>by
  rcases List.mem_cons.1 hp with rfl | hp
  ·obtain ⟨⟨y,rfl,_⟩,_⟩:=h; simp
  ·exact zby.somes h.2.2 p hp
 | [],_::_,h,_,_=>h.elim
 | _::_,[],h,_,_=>h.elim
theorem Sta.subF (ha:Sta Γ l res a w) (hf:z6w res base R T vs ls) (ns:List Nat) (hs:ztl l l') (hr:zby res lits ns) (hn:(ns.all fun n=>Nat.blt n base)=true):Sta Γ l' (lits++zps base R T vs ls 0) a w:=by
 have hb:∀ n∈ns,n<base:=fun n h=>Eq.mp Nat.blt_eq (List.all_eq_true.1 hn n h);have inv:∀ r x,lr (lits++zps base R T vs ls 0) r=some x→lr lits r=some x∨∃ j,r=base+j∧lr res (base+j)=some x:=fun r x h=>by
  rcases zmo h hr.somes with h | ⟨-,h⟩
  ·exact .inl h
  ·obtain ⟨j,y,h3,h4,h5⟩:=zgd h;rw [Nat.zero_add] at h3 h5;exact .inr ⟨j,h3, by rw [h5]; exact hf j y h4⟩
 refine ha.subG (fun r x h=>?_) (fun r r2 x x2 h h2 hne=>?_) (fun t e h=>hs.get h)
 ·rcases inv r x h with h | ⟨j,h3,h4⟩
  ·obtain ⟨v,c⟩:=x;obtain ⟨n,-,h1⟩:=hr.get h; exact ⟨n,h1⟩
  ·exact ⟨_,h4⟩
 ·obtain ⟨v,c⟩:=x;obtain ⟨v2,c2⟩:=x2;rcases inv r _ h with h | ⟨j,h3,h4⟩ <;> rcases inv r2 _ h2 with h2 | ⟨j2,h5,h6⟩
  ·exact hr.get2 h h2 hne
  ·obtain ⟨n,h7,h8⟩:=hr.get h;exact ⟨n,_, by have:=hb n h7; omega,h8,h6⟩
  ·obtain ⟨n,h7,h8⟩:=hr.get h2;exact ⟨_,n, by have:=hb n h7; omega,h4,h8⟩
  ·exact ⟨_,_, by omega,h4,h6⟩
theorem Sta.newF (ha:Sta Γ l res a w) (R:Rep α) (T:TypeId) (ns:List Nat) (hl:∀ x∈ls,x=[]) (hr:zby res lits ns):Sta Γ l (lits++zps base R T (fun _=>.slice none 0 0) ls 0) a w:=by
 have ha':Sta Γ l lits a w:=ha.subG (fun r x h=>by obtain ⟨v,c⟩:=x; obtain ⟨n,-,h1⟩:=hr.get h; exact ⟨n,h1⟩) (fun r r2 x x2 h h2 hne=>hr.get2 h h2 hne) (fun _ _ h=>h)
 have hst:z9q (Shr Γ.H lits w) (Shr Γ.H (lits++zps base R T (fun _=>.slice none 0 0) ls 0) w) w w:=fun b hb=>⟨⟨hb.1, fun r v c h=>by
  rcases zmo h hr.somes with h | ⟨-,h⟩
  ·exact hb.2.1 r v c h
  ·obtain ⟨j,y,-,-,h5⟩:=zgd h;simp only [Prod.mk.injEq] at h5
   rw [h5.1]; simp [z58],hb.2.2⟩,rfl⟩
 exact {
  size:=ha.size
  defers:=ha.defers
  slots:=fun t e ht=>by obtain ⟨v,k1,k2⟩:=ha'.slots t e ht; exact ⟨v,k1,e.mono hst k2⟩
  conts:=fun r v c h=>by
   rcases zmo h hr.somes with h | ⟨-,h⟩
   ·exact (ha'.conts r v c h).mono hst (fun _ _=>rfl)
   ·obtain ⟨j,y,-,h4,h5⟩:=zgd h;simp only [Prod.mk.injEq] at h5;rw [h5.1,h5.2];exact .inl ⟨rfl,hl y (List.mem_of_getElem? h4)⟩
  excl:=fun r v c r' v' c' h h' hne b hb=>by
   rcases zmo h hr.somes with h | ⟨-,h⟩
   ·rcases zmo h' hr.somes with h' | ⟨-,h'⟩
    ·exact ha'.excl r v c r' v' c' h h' hne b hb
    ·obtain ⟨j,y,-,-,h5⟩:=zgd h';simp only [Prod.mk.injEq] at h5;rw [h5.1]; simp [z58]
   ·obtain ⟨j,y,-,-,h5⟩:=zgd h;simp only [Prod.mk.injEq] at h5;rw [h5.1] at hb; simp [z58] at hb
  own:=fun r v c h b hb=>by
   rcases zmo h hr.somes with h | ⟨-,h⟩
   ·exact ha'.own r v c h b hb
   ·obtain ⟨j,y,-,-,h5⟩:=zgd h;simp only [Prod.mk.injEq] at h5;rw [h5.1] at hb; simp [z58] at hb
  keep:=ha.keep
  old:=ha.old
  hid:=ha.hid }
theorem Sta.frzFam (ha:Sta Γ l res a w) (hf:z6w res base R T vs ls) {v:Value} (r:Nat) (hr:lr res r=some (v,.list zhg T' (zaw vs ls))) (ns:List Nat) (hs:zby res lits ns) (hn:(ns.all fun n=>Nat.blt n base&&!Nat.beq n r)=true) (hrb:Nat.blt r base=true):Sta Γ l ((r,some (v,.list (z03 R) T' ls))::lits) a w:=by
 have hb:∀ n∈ns,n<base∧n≠r:=fun n h=>by
  have:=List.all_eq_true.1 hn n h
  simp only [Bool.and_eq_true,Bool.not_eq_true'] at this;exact ⟨Eq.mp Nat.blt_eq this.1,Nat.ne_of_beq_eq_false this.2⟩
 have hrb:r<base:=Eq.mp Nat.blt_eq hrb
 have hst:z9q (Shr Γ.H res w) (Shr Γ.H ((r,some (v,.list (z03 R) T' ls))::lits) w) w w:=fun b hb'=>⟨⟨hb'.1, fun r' v' c' h=>by
  rw [z1a] at h
  split at h
  ·cases h; exact hb'.2.1 r v _ hr
  ·obtain ⟨n,-,h1⟩:=hs.get h; exact hb'.2.1 n v' c' h1,hb'.2.2⟩,rfl⟩
 have hin:∀ j y,ls[j]? = some y→∀ b,z58 (vs j)=some b→Shr Γ.H ((r,some (v,.list (z03 R) T' ls))::lits) w b:=fun j y hy b hbb=>by
  have h1:=hf j y hy;refine ⟨(ha.conts _ _ _ h1).lt hbb, fun r' v' c' h=>?_, fun hH=>ha.own _ _ _ h1 b hbb (ha.hid b hH)⟩;rw [z1a] at h
  split at h
  ·cases h; exact ha.excl _ _ _ r v _ h1 hr (by omega) b hbb
  ·obtain ⟨n,h2,h3⟩:=hs.get h; exact ha.excl _ _ _ n v' c' h1 h3 (by have:=hb n h2; omega) b hbb
 have hrel:∀ (ls2:List (List α)) (k:Nat) (cs:List Value),(∀ j y,ls2[j]? = some y→ls[k+j]? = some y)→z5r zhg (Shr Γ.H res w) w cs ((List.range' k ls2.length).map vs)→z5r (z03 R) (Shr Γ.H ((r,some (v,.list (z03 R) T' ls))::lits) w) w cs ls2:=by
  intro ls2
  induction ls2 with
  | nil=>intro k cs _ h; exact h
  | cons y ls2 ih =>
   intro k cs hk h;rw [List.length_cons,List.range'_succ,List.map_cons] at h;obtain ⟨c,d,rfl,⟨rfl,-⟩,h2⟩:=h;have hy:=hk 0 y rfl;rw [Nat.add_zero] at hy;refine ⟨[vs k],d,rfl,?_,ih (k+1) d (fun j z hz=>?_) h2⟩
   ·obtain ⟨xs,k1,k2⟩:=z7c (ha.conts _ _ _ (hf k y hy));obtain ⟨p,c,hp⟩:=z2l k1;rw [hp] at k1;refine ⟨p,c,xs, by rw [hp],Rd.of_own k1,k2.mono hst, fun hne bb hbb=>?_⟩;refine hin k y hy bb ?_;rw [hp,z5v,zgy]; exact hbb
   ·have:=hk (j+1) z (by simpa using hz)
    rwa [show k+(j+1)=k+1+j by omega] at this
 exact {
  size:=ha.size
  defers:=ha.defers
  slots:=fun t e ht=>by obtain ⟨u,k1,k2⟩:=ha.slots t e ht; exact ⟨u,k1,e.mono hst k2⟩
  conts:=fun r' v' c' h=>by
   rw [z1a] at h
   split at h
   ·cases h
    rcases ha.conts r v _ hr with ⟨h1,h2⟩ | ⟨b,o,h1,h2,b',cap,C,rfl,rfl,h3,h4,h5,h6⟩
    ·exact .inl ⟨h1, by
      have:(zaw vs ls).length=0:=by rw [h2]; rfl
      unfold zaw at this
      simpa using this⟩
    ·have hl:(zaw vs ls).length=ls.length:=by simp [zaw]
     refine .inr ⟨b,_,h1,h2,b',cap,C, by rw [hl],rfl, by rw [← hl]; exact h3,h4,h5,?_⟩;rw [hl] at h6;refine hrel ls 0 _ (fun j y hy=>by rw [Nat.zero_add]; exact hy) ?_;rw [← List.range_eq_range'];exact h6
   ·obtain ⟨n,-,h1⟩:=hs.get h;exact (ha.conts n v' c' h1).mono hst (fun _ _=>rfl)
  excl:=fun r1 v1 c1 r2 v2 c2 h1 h2 hne b hbb=>by
   rw [z1a] at h1 h2
   split at h1
   ·rename_i e1; cases h1
    rw [if_neg (by rw [e1]; exact hne)] at h2;obtain ⟨n,h3,h4⟩:=hs.get h2;exact ha.excl r v _ n v2 c2 hr h4 (fun e=>(hb n h3).2 e.symm) b hbb
   ·split at h2
    ·cases h2
     obtain ⟨n,h3,h4⟩:=hs.get h1;exact ha.excl n v1 c1 r v _ h4 hr (hb n h3).2 b hbb
    ·obtain ⟨n,n2,h3,h4,h5⟩:=hs.get2 h1 h2 hne;exact ha.excl n v1 c1 n2 v2 c2 h4 h5 h3 b hbb
  own:=fun r' v' c' h=>by
   rw [z1a] at h
   split at h
   ·cases h; exact ha.own r v _ hr
   ·obtain ⟨n,-,h1⟩:=hs.get h; exact ha.own n v' c' h1
  keep:=ha.keep
  old:=ha.old
  hid:=ha.hid }
end
section
variable {C:World→World→Prop} {ρ:Type} {P:Program} {Γ:Ctx} {l:z1p} {res lits:Res} {m:Option ρ} {os rest:List Oper} {N:ρ→Exit→Act→World→Prop} {ro:Option Nat} {Q:ρ→Exit→Act→World→Prop} {c:Code} {ex:Exit}
 {d:Tmp} {ty:TypeId} {pos:String} {after:Array Edge} {g:Option (Nat × Bool)} {α:Type} {base:Nat} {R:Rep α} {T T':TypeId} {vs:Nat→Value} {ls:List (List α)}
theorem mksF {b:List (List α)} {x y:Operand} {z:Value} {e:TypeId} {by_:Nat} {n:Int} (r:Nat) (hx:opE l x=some (.rd z08 n)) (hy:opE l y=some (.rd z08 n)) (hb:mkn by_ ([]:List α) n=some b)
  (hT:P.underlying T=some (.slice e)) (hE:TI P e z 1 by_) (hz:z.cells.toList=[.slice none 0 0]) :
  Eff P Γ l res ⟨some d,.makeSlice T x y,ty,pos,after,g⟩ r (fun u=>(u,.list zhg e (zaw (fun _=>.slice none 0 0) b))):=by
 obtain ⟨h1,h2,h3,rfl⟩:=zlk hb;have e1:zaw (fun _=>Value.slice none 0 0) (List.replicate n.toNat ([]:List α))=List.replicate n.toNat (Value.slice none 0 0):=by
  unfold zaw;rw [List.length_replicate]
  apply List.ext_getElem?
  intro i;rw [List.getElem?_map];by_cases hi:i<n.toNat
  ·rw [List.getElem?_range hi]; simp [hi]
  ·rw [List.getElem?_eq_none (by simpa using hi),List.getElem?_eq_none (by simpa using hi)]; rfl
 rw [e1];refine mks (R:=zhg) (x0:=.slice none 0 0) (z:=z) r hx hy ?_ hT hE (fun S w=>⟨hz,rfl⟩) rfl;unfold mkn; rw [if_pos ⟨h1,h2, by omega⟩]
theorem z19j (R:Rep α) (T:TypeId) (ns:List Nat) (hl:∀ x∈ls,x=[]) (hr:zby res lits ns) (k:GL P os (Sta Γ l (lits++zps base R T (fun _=>.slice none 0 0) ls 0)) rest N m):GL P os (Sta Γ l res) rest N m:=fun a w ha=>k a w (ha.newF R T ns hl hr)
theorem ldF {ws:List Nat} [LC C res ws] {y:List α} {i:Int} {t:TypeId} {x:Operand} {v:Value} (r:Nat) (hx:opE l x=some (.val (z05 v (i.toNat * 1)))) (hr:lr res r=some (v,.list zhg T' (zaw vs ls))) (hi:idx ls i=some y) (hT:zbt P t false 1) (hw:ws.contains r=false) :
  Run C P Γ l res ⟨some d,.load t x,ty,pos,after,g⟩ (.val (vs i.toNat)):=fun a w ha=>by
 obtain ⟨u,h1,cs,⟨rfl,h2⟩,h3⟩:=ld (C:=C) (P:=P) (d:=d) (ty:=ty) (pos:=pos) (after:=after) (g:=g) (R:=zhg) (t:=t) r hx hr (Foc.el (zpj hi)) hT hw a w ha;exact ⟨u,h1,h3,h2⟩
theorem lApF {d1 d2:Tmp} {ty1 ty2 ty3:TypeId} {pos1 pos2 pos3:String} {af1 af2 af3:Array Edge} {x y b i:Operand} {v:Value} {E:Ent} {TT e:TypeId} {by_ by2:Nat} {je:Int} {yl b2 z:List α} {kk:IntKind} {γ:Type} {f:γ→Int} {jj:γ} {zv zv2:Value} (r:Nat) (ns:List Nat)
  (hf:z6w res base R e vs ls) (hx:opE l x=some (.val (vs je.toNat))) (hr:lr res r=some (v,.list zhg T (zaw vs ls))) (hrb:Nat.blt r base=true) (hi:idx ls je=some yl) (hb:opE l b=some (.val v)) (hii:opE l i=some (.rd (z9b kk f) jj)) (hje:f jj=je) (hy:opE l y=some E) (hv:Vw R res E b2) (hz:app by_ yl b2=some z)
  (hdd:Nat.beq d1 d2=false) (hbt:∀ t,b=.tmp t→Nat.beq d1 t=false) (hit:∀ t,i=.tmp t→Nat.beq d1 t=false) (h1n:Nat.blt d1 Γ.n=true) (h2n:Nat.blt d2 Γ.n=true)
  (hT:P.underlying T=some (.slice e)) (hE:TI P e zv R.sz by_) (hzs:zv.cells.size=R.sz) (h0:Nat.blt 0 R.sz=true) (h1:Nat.blt 0 by_=true) (hTT:P.underlying TT=some (.slice T)) (hET:TI P T zv2 1 by2) (hTy:zbt P T false 1)
  (hs:zby res lits ns) (hn:(ns.all fun n=>Nat.blt n base&&!Nat.beq n r)=true)
  (k:∀ u,GL P os (Sta Γ ((d1,.junk)::(d2,.junk)::l) (((r,some (v,.list zhg T (zaw (updF vs je.toNat u) (ls.set je.toNat z))))::lits)++zps base R e (updF vs je.toNat u) (ls.set je.toNat z) 0)) rest N m) :
  GL P os (Sta Γ l res) (⟨some d1,.call ⟨.builtin .append,#[x,y],#[T,T]⟩,ty1,pos1,af1,none⟩::⟨some d2,.indexAddr TT b i,ty2,pos2,af2,none⟩::⟨none,.store T (.tmp d2) (.tmp d1),ty3,pos3,af3,none⟩::rest) N m:=fun a w ha ρ' hm=>by
 have hrb:r<base:=Eq.mp Nat.blt_eq hrb;obtain ⟨i0,hyl,hlt⟩:=z5x hi;have hfj:=hf je.toNat yl hyl;obtain ⟨w1,u,e1,⟨s1,-⟩,o1,-⟩:=app0 (d:=d1) (ty:=ty1) (pos:=pos1) (after:=af1) (g:=none) ha (base+je.toNat) hx hfj hy hv hz hT hE hzs h0 h1;refine st (zcn rfl) e1 ?_;have s1':=s1.put h1n (show (Ent.val u).holds _ w1 u from ⟨rfl,o1⟩);have hr1:lr ((base+je.toNat,some (u,z4l.list R e z))::res) r=some (v,.list zhg T (zaw vs ls)):=by rw [z1a,if_neg (by omega)]; exact hr
 have hb1:opE ((d1,.val u)::l) b=some (.val v):=by
  cases b with
  | tmp t=>show lk _ t=_; rw [z2j,if_neg (Nat.ne_of_beq_eq_false (hbt t rfl))]; exact hb
  | const c=>exact hb
  | global c=>exact hb
  | func c=>exact hb
 have hi1:opE ((d1,.val u)::l) i=some (.rd (z9b kk f) jj):=by
  cases i with
  | tmp t=>show lk _ t=_; rw [z2j,if_neg (Nat.ne_of_beq_eq_false (hit t rfl))]; exact hii
  | const c=>exact hii
  | global c=>exact hii
  | func c=>exact hii
 obtain ⟨p2,e2,k2⟩:=ixO (C:=Eq) (P:=P) (d:=d2) (ty:=ty2) (pos:=pos2) (after:=af2) (g:=none) (R:=zhg) (y:=vs je.toNat) r hb1 hr1 hi1 (by rw [hje]; exact zpj hi) hTT hET _ w1 s1';refine st (zcn rfl) (e2 w1 rfl) ?_;have s2:=s1'.put h2n k2;rw [hje] at s2;have hx2:opE ((d2,.val (z05 v (je.toNat * zhg.sz)))::(d1,.val u)::l) (.tmp d2)=some (.val (z05 v (je.toNat * zhg.sz))):=by show lk _ d2=_; rw [z2j,if_pos rfl]
 have s3:Sta Γ ((d1,.rd zhg u)::(d2,.val (z05 v (je.toNat * zhg.sz)))::(d1,.val u)::l) ((base+je.toNat,some (u,z4l.list R e z))::res) ((a.put (some d1) u).put (some d2) p2) w1:=by
  refine { s2 with slots:=fun t' e' ht'=>?_ };rw [z2j] at ht'
  split at ht'
  ·rename_i hh; subst hh; cases ht'
   obtain ⟨u',h3,rfl,h5⟩:=s2.slots d1 (.val u) (by rw [z2j,if_neg (fun e=>Nat.ne_of_beq_eq_false hdd e.symm),z2j,if_pos rfl]);exact ⟨_,h3,[u'],⟨rfl,o1⟩,rfl⟩
  ·exact s2.slots t' e' ht'
 have hx3:opE ((d1,.rd zhg u)::(d2,.val (z05 v (je.toNat * zhg.sz)))::(d1,.val u)::l) (.tmp d2)=some (.val (z05 v (je.toNat * zhg.sz))):=by show lk _ d2=_; rw [z2j,if_neg (Nat.ne_of_beq_eq_false hdd)]; exact hx2
 have hy3:opE ((d1,.rd zhg u)::(d2,.val (z05 v (je.toNat * zhg.sz)))::(d1,.val u)::l) (.tmp d1)=some (.rd zhg u):=by show lk _ d1=_; rw [z2j,if_pos rfl]
 obtain ⟨w4,e4,⟨s4,-⟩,-⟩:=sto' (ty:=ty3) (pos:=pos3) (after:=af3) (g:=none) (t:=T) s3 r hx3 hr1 (Foc.el (zpj hi)) hy3 hET;refine st0 (zcn rfl) e4 rfl ?_;refine k u _ w4 ?_ ρ' hm;have hb':∀ n∈ns,n<base∧n≠r:=fun n h=>by
  have:=List.all_eq_true.1 hn n h
  simp only [Bool.and_eq_true,Bool.not_eq_true'] at this;exact ⟨Eq.mp Nat.blt_eq this.1,Nat.ne_of_beq_eq_false this.2⟩
 have get:∀ r' x',lr (((r,some (v,.list zhg T (zaw (updF vs je.toNat u) (ls.set je.toNat z))))::lits)++zps base R e (updF vs je.toNat u) (ls.set je.toNat z) 0) r'=some x'→∃ n,lr ((r,some (v,z4l.list zhg T ((zaw vs ls).set je.toNat u)))::(base+je.toNat,some (u,z4l.list R e z))::res) n=some x'∧((r'=r∧n=r)∨(r'≠r∧lr lits r'=some x'∧n∈ns)∨(r'=n∧base≤n)):=fun r' x' h=>by
  have hsm:∀ p∈((r,some (v,z4l.list zhg T (zaw (updF vs je.toNat u) (ls.set je.toNat z))))::lits:Res),p.2≠none:=fun p hp=>by
   rcases List.mem_cons.1 hp with rfl | hp
   ·simp
   ·exact hs.somes p hp
  rcases zmo h hsm with h | ⟨-,h⟩
  ·rw [z1a] at h
   split at h
   ·rename_i e';refine ⟨r,?_,.inl ⟨e'.symm,rfl⟩⟩;rw [z1a,if_pos rfl,← h,z10g (z:=z)]
   ·rename_i e';obtain ⟨v',c'⟩:=x';obtain ⟨n,h5,h6⟩:=hs.get h;have h7:=hb' n h5;refine ⟨n,?_,.inr (.inl ⟨fun e=>e' e.symm,h,h5⟩)⟩;rw [z1a,if_neg (fun e=>h7.2 e.symm),z1a,if_neg (by omega)]; exact h6
  ·obtain ⟨j,q,h5,h6,h7⟩:=zgd h;rw [Nat.zero_add] at h5 h7;refine ⟨base+j,?_,.inr (.inr ⟨h5, by omega⟩)⟩;rw [z1a,if_neg (by omega),z1a,h7];by_cases hj:je.toNat=j
   ·subst hj;rw [if_pos rfl];rw [List.getElem?_set_self hlt] at h6
    cases h6
    simp [updF]
   ·rw [if_neg (by omega)];rw [List.getElem?_set_ne hj] at h6;rw [hf j q h6];simp [updF,Ne.symm hj]
 have s5:Sta Γ ((d1,.junk)::(d2,.junk)::l) ((r,some (v,z4l.list zhg T ((zaw vs ls).set je.toNat u)))::(base+je.toNat,some (u,z4l.list R e z))::res) ((a.put (some d1) u).put (some d2) p2) w4:=by
  refine { s4 with slots:=fun t' e' ht'=>?_ };rw [z2j] at ht'
  split at ht'
  ·rename_i hh; subst hh; cases ht'
   obtain ⟨u',h3,_⟩:=s4.slots d1 _ hy3;exact ⟨_,h3,trivial⟩
  ·rename_i hh;rw [z2j] at ht'
   split at ht'
   ·rename_i hh2; subst hh2; cases ht'
    obtain ⟨u',h3,_⟩:=s4.slots d2 _ hx3;exact ⟨_,h3,trivial⟩
   ·rename_i hh2;refine s4.slots t' e' ?_;rw [z2j,if_neg hh,z2j,if_neg hh2,z2j,if_neg hh]; exact ht'
 refine s5.subG (fun r' x' h=>?_) (fun r1 r2 x1 x2 h1' h2' hne=>?_) (fun _ _ h=>h)
 ·obtain ⟨n,h,-⟩:=get r' x' h; exact ⟨n,h⟩
 ·obtain ⟨n1,k1,q1⟩:=get r1 x1 h1';obtain ⟨n2,k2,q2⟩:=get r2 x2 h2';rcases q1 with ⟨a1,a2⟩ | ⟨a1,a2,a3⟩ | ⟨a1,a2⟩ <;> rcases q2 with ⟨b1,b2'⟩ | ⟨b1,b2',b3⟩ | ⟨b1,b2'⟩
  ·exact absurd (a1.trans b1.symm) hne
  ·exact ⟨n1,n2, by rw [a2]; exact fun e=>(hb' n2 b3).2 e.symm,k1,k2⟩
  ·exact ⟨n1,n2, by omega,k1,k2⟩
  ·exact ⟨n1,n2, by rw [b2']; exact (hb' n1 a3).2,k1,k2⟩
  ·obtain ⟨v1,c1⟩:=x1;obtain ⟨v2,c2⟩:=x2;obtain ⟨m1,m2,g1,g2,g3⟩:=hs.get2 a2 b2' hne;have fix:∀ n x,lr res n=some x→(∃ n',n'∈ns∧n=n')→lr ((r,some (v,z4l.list zhg T ((zaw vs ls).set je.toNat u)))::(base+je.toNat,some (u,z4l.list R e z))::res) n=some x:=fun n x hx ⟨n',h',e'⟩=>by
    subst e';rw [z1a,if_neg (fun e=>(hb' n h').2 e.symm),z1a,if_neg (by have:=(hb' n h').1; omega)]; exact hx
   obtain ⟨m1,m2,i1,i2,g1,g2,g3⟩:=hs.get3 a2 b2' hne;exact ⟨m1,m2,g1,fix m1 _ g2 ⟨m1,i1,rfl⟩,fix m2 _ g3 ⟨m2,i2,rfl⟩⟩
  ·exact ⟨n1,n2, by have:=(hb' n1 a3).1; omega,k1,k2⟩
  ·exact ⟨n1,n2, by omega,k1,k2⟩
  ·exact ⟨n1,n2, by have:=(hb' n2 b3).1; omega,k1,k2⟩
  ·exact ⟨n1,n2, by omega,k1,k2⟩
theorem z19a {X:ρ→Act→World→Prop} {v:Value} (hf:z6w res base R T vs ls) (r:Nat) (hr:lr res r=some (v,.list zhg T' (zaw vs ls))) (ns:List Nat) (hs:zby res lits ns) (hn:(ns.all fun n=>Nat.blt n base&&!Nat.beq n r)=true) (hrb:Nat.blt r base=true) (k:GX X (Sta Γ l ((r,some (v,.list (z03 R) T' ls))::lits)) m):GX X (Sta Γ l res) m:=fun a w ha=>k a w (ha.frzFam hf r hr ns hs hn hrb)
theorem z199 {v:Value} (hf:z6w res base R T vs ls) (r:Nat) (hr:lr res r=some (v,.list zhg T' (zaw vs ls))) (ns:List Nat) (hs:zby res lits ns) (hn:(ns.all fun n=>Nat.blt n base&&!Nat.beq n r)=true) (hrb:Nat.blt r base=true) (k:G ro P (Sta Γ l ((r,some (v,.list (z03 R) T' ls))::lits)) c Q m):G ro P (Sta Γ l res) c Q m:=z19a hf r hr ns hs hn hrb k
end
end
section
open Go Go.RowKit
section
variable {P:Program} {T I e ty:TypeId} {ti:TypeInfo} {z:Value} {w:World} {n' sLen sCap:Nat} {base:Option Addr} {olds:Array Value}
theorem zfx (hT:P.underlying T=some (.slice e)) (hI:P.underlying I=some (.int .i64)) (t1:P.info? e=some ti) (t2:ti.zero=some z) (hw:IntKind.i64.wrap (n':Int)=(n':Int)) (hbs:n' * ti.bytes≤281474976710656) (hn:sCap<sLen+n') (h63:sLen+n'≤9223372036854775807) (hfit:Builtin.nextslicecap (sLen+n') sCap * ti.bytes≤281474976710656) (hns:¬ (n' * ti.size=0))
 (ho:∀ w',w'=w.drew→(Builtin.firstCells ti.size sLen (.slice base sLen sCap)).run P w'=.ok olds w') :
 (Builtin.append_ #[T,I] ty #[.slice base sLen sCap,.int .i64 (n':Int)]).run P w=.ok (.slice (some ⟨w.heap.size,0,none⟩) (sLen+n') (grownCap w (sLen+n') sCap e)) (w.drew.alloc (.cells (olds++Builtin.zeroCells z.cells n'++Builtin.zeroCells z.cells (grownCap w (sLen+n') sCap e - (sLen+n'))) e)):=by
 have hti:∀ w',(typeInfo e).run P w'=.ok ti w':=fun w'=>by simp [typeInfo,t1]
 have hzv:∀ w',(zeroValue e).run P w'=.ok z w':=fun w'=>by simp [zeroValue,typeInfo,t1,t2]
 have hsz:∀ w',(sizeOf e).run P w'=.ok ti.size w':=fun w'=>by simp [sizeOf,typeInfo,t1]
 have hai:∀ w',(asInt (.int .i64 (n':Int))).run P w'=.ok (n':Int) w':=fun w'=>rfl;have hneg:¬ ((n':Int)<0):=by omega
 have h1:¬ ((n':Int) * (ti.bytes:Int) > 2 ^ 48):=by
  have:((n' * ti.bytes:Nat):Int)≤281474976710656:=by have:=Int.ofNat_le.2 hbs; omega
  rw [Int.natCast_mul] at this;simp only [Int.not_lt,gt_iff_lt]; exact this
 have h2:¬ (sLen+n'≤sCap):=by omega
 have h3:¬ (((sLen+n':Nat):Int) > IntKind.i64.max∧(True∨ti.bytes=0)):=by
  intro h; have:=h.1; simp [IntKind.max,IntKind.bits,IntKind.signed] at this; omega
 have h4:¬ (Builtin.nextslicecap (sLen+n') sCap * ti.bytes > 2 ^ 48):=by
  simp only [gt_iff_lt,Nat.not_lt]; exact hfit
 simp only [Builtin.append_,List.getElem?_toArray,List.getElem?_cons_zero,List.getElem?_cons_succ,Sem.run_bind,run_underlying hT,run_underlying hI,Result.andThen,Sem.run_pure,hsz];simp only [if_true,Sem.run_bind,hai,Result.andThen,hw];rw [if_neg hneg];simp only [Sem.run_bind,hti,Result.andThen];rw [if_neg h1];simp only [Sem.run_bind,Sem.run_pure,Result.andThen,Int.toNat_natCast];rw [if_neg h2];simp only [Sem.run_bind,hti,Result.andThen]
 rw [if_neg h3];simp only [Sem.run_bind,hti,Result.andThen];rw [if_neg h4];have ho':=ho w.drew rfl;simp [Question.forced,ho',hti,hns,hzv,newRow,grownCap,askRoom,Result.andThen]
theorem zrx (hT:P.underlying T=some (.slice e)) (hI:P.underlying I=some (.int .i64)) (t1:P.info? e=some ti) (t2:ti.zero=some z) (hw:IntKind.i64.wrap (n':Int)=(n':Int)) (hbs:n' * ti.bytes≤281474976710656) (hn:sLen+n'≤sCap) {w':World} {a:Addr}
 (hst:(storeCells (a.add (sLen * ti.size)) (if n' * ti.size=0 then [] else (Builtin.zeroCells z.cells n').toList)).run P w=.ok () w') :
 (Builtin.append_ #[T,I] ty #[.slice (some a) sLen sCap,.int .i64 (n':Int)]).run P w=.ok (.slice (some a) (sLen+n') sCap) w':=by
 have hti:∀ w',(typeInfo e).run P w'=.ok ti w':=fun w'=>by simp [typeInfo,t1]
 have hzv:∀ w',(zeroValue e).run P w'=.ok z w':=fun w'=>by simp [zeroValue,typeInfo,t1,t2]
 have hsz:∀ w',(sizeOf e).run P w'=.ok ti.size w':=fun w'=>by simp [sizeOf,typeInfo,t1]
 have hai:∀ w',(asInt (.int .i64 (n':Int))).run P w'=.ok (n':Int) w':=fun w'=>rfl;have hneg:¬ ((n':Int)<0):=by omega
 have h1:¬ ((n':Int) * (ti.bytes:Int) > 2 ^ 48):=by
  have:((n' * ti.bytes:Nat):Int)≤281474976710656:=by have:=Int.ofNat_le.2 hbs; omega
  rw [Int.natCast_mul] at this;simp only [Int.not_lt,gt_iff_lt]; exact this
 simp only [Builtin.append_,List.getElem?_toArray,List.getElem?_cons_zero,List.getElem?_cons_succ,Sem.run_bind,run_underlying hT,run_underlying hI,Result.andThen,Sem.run_pure,hsz];simp only [if_true,Sem.run_bind,hai,Result.andThen,hw];rw [if_neg hneg];simp only [Sem.run_bind,hti,Result.andThen];rw [if_neg h1];simp only [Sem.run_bind,Sem.run_pure,Result.andThen,Int.toNat_natCast];rw [if_pos hn];by_cases hns:n' * ti.size=0
 ·rw [if_pos hns] at hst;simp [hns,hst]
 ·rw [if_neg hns] at hst;simp [hns,hzv,hst]
end
section
variable {C:World→World→Prop} {ρ:Type} {P:Program} {Γ:Ctx} {l:z1p} {res:Res} {m:Option ρ} {os rest:List Oper} {N:ρ→Exit→Act→World→Prop} {ro:Option Nat} {Q:ρ→Exit→Act→World→Prop} {c:Code} {ex:Exit}
 {d:Tmp} {ty:TypeId} {pos:String} {after:Array Edge} {g:Option (Nat × Bool)} {α:Type}
theorem zlp {R:Rep α} {e:TypeId} {bl:List α} {S:Blk} {w:World} {C':Array Value} {cp n:Nat} (hn:n=bl.length) (h1:bl.length≤cp) (h2:cp≤maxLen) (h3:C'.size=cp * R.sz) (h4:z5r R S (w.drew.alloc (.cells C' e)) (C'.toList.take (bl.length * R.sz)) bl):(z4l.list R e bl).holds S (w.drew.alloc (.cells C' e)) (.slice (some ⟨w.heap.size,0,none⟩) n cp):=by
 subst hn;exact .inr ⟨w.heap.size,_,rfl,heap_alloc_new w.drew _,w.heap.size,cp,C',rfl,rfl,h1,h2,h3,h4⟩
theorem znz (w:World) (o:Obj):w.grownBy (w.drew.alloc o) none:=((Ext.rfl' (w:=w)).dr.tr (Ext.al _ _)).gb
def Ent.sub (sz:Nat) (v:Value) (k n:Nat):Ent:=⟨fun _ _ u=>∃ p cap,u=.slice p n cap∧n≤cap∧(n≠0→∃ b,p=some ⟨b,k * sz,none⟩∧z58 v=some b), fun _ h=>h⟩
theorem z12y {R:Rep α} {b:List α} {x:Operand} {lo hi:Option Operand} {i j:Int} {T e:TypeId} {z v:Value} {by_:Nat} (r:Nat) (hx:opE l x=some (.val v)) (hr:lr res r=some (v,.list R e b)) (hlo:Bnd l 0 lo i) (hhi:Bnd l (b.length:Int) hi j) (hb:0≤i∧i≤j∧j≤(b.length:Int))
  (hT:P.underlying T=some (.slice e)) (hE:TI P e z R.sz by_):Run C P Γ l res ⟨some d,.slice T x lo hi none,ty,pos,after,g⟩ (.sub R.sz v i.toNat (j.toNat - i.toNat)):=fun a w ha=>by
 obtain ⟨h1,h2,h3⟩:=hb;have k5:=(ha.vl hx).1;obtain ⟨xs,o1,o2⟩:=z7c (ha.conts r v _ hr);obtain ⟨p,c,rfl⟩:=z2l o1;have hcap:b.length≤c:=by
  rcases o1.2 with ⟨hv,h0⟩ | ⟨g',cap',cur,hv,hbg,hg',hnc,hcm,hcs,htake⟩
  ·omega
  ·simp only [Value.slice.injEq,true_and] at hv; omega
 refine ⟨.slice (if c=i.toNat then p else p.map (·.add (i.toNat * R.sz))) (j.toNat - i.toNat) (c - i.toNat), fun w' _=>?_,_,_,rfl, by omega, fun hn=>?_⟩
 ·have hb:=zcm (P:=P) (isS:=true) hlo hhi ha h1 h2 h3 hcap w';simp only [execOp,Instr.sliceAt,k5,Sem.run_bind,run_underlying hT,Result.andThen,Instr.slice,hb,z3a hE,Sem.run_pure,Option.map_none]
 ·rw [if_neg (by omega)];rcases o1.2 with ⟨hv,h0⟩ | ⟨g',cap',cur,hv,hbg,hg',hnc,hcm,hcs,htake⟩
  ·omega
  ·simp only [Value.slice.injEq,true_and] at hv;rw [hv.1];exact ⟨g', by simp [z5y],rfl⟩
theorem z175 {x:Operand} {T e:TypeId} {at_:Array TypeId} {sz:Nat} {v:Value} {k n:Nat} (hx:opE l x=some (.sub sz v k n)) (hat:at_[0]? = some T) (hT:P.underlying T=some (.slice e)) :
  Run C P Γ l res ⟨some d,.call ⟨.builtin .len,#[x],at_⟩,ty,pos,after,g⟩ (.rd z08 (n:Int)):=fun a w ha=>by
 obtain ⟨p,cap,h1,h2,h3⟩:=ha.vl hx;exact ⟨_, fun w' _=>zz8 hat hT h1,z8b⟩
def subi (k n:Nat) (j:Int):Option Nat:=if 0≤j∧j<(n:Int) then some (k+j.toNat) else none
theorem ixSu {β:Type} {R:Rep α} {b:List α} {k:IntKind} {f:β→Int} {j:β} {x z':Operand} {T e E:TypeId} {z v:Value} {by_ kk n q:Nat} (r:Nat) (hx:opE l x=some (.sub R.sz v kk n)) (hr:lr res r=some (v,.list R E b)) (hj:opE l z'=some (.rd (z9b k f) j)) (hq:subi kk n (f j)=some q) (hT:P.underlying T=some (.slice e)) (hE:TI P e z R.sz by_) :
  Run C P Γ l res ⟨some d,.indexAddr T x z',ty,pos,after,g⟩ (.val (z05 v ((q:Int).toNat * R.sz))):=fun a w ha=>by
 unfold subi at hq
 split at hq
 ·rename_i hh
  cases hq
  obtain ⟨p,cap,h1,h2,h3⟩:=ha.vl hx;obtain ⟨bb,rfl,hb⟩:=h3 (by omega);have hj':a.eval z'=.int k ((f j).toNat:Int):=by rw [z4q (ha.vl hj)]; congr 1; omega
  have hpt:z05 v (((kk+(f j).toNat:Nat):Int).toNat * R.sz)=.pointer (some ⟨bb,(kk+(f j).toNat) * R.sz,none⟩):=by unfold z05; rw [hb,Int.toNat_natCast]
  refine ⟨.pointer (some ⟨bb,(kk+(f j).toNat) * R.sz,none⟩), fun w' _=>?_,hpt.symm, by rw [hpt]; rfl⟩;have hlt:(f j).toNat<n:=by omega
  rw [Nat.add_mul];generalize (f j).toNat=jn at *;simp [execOp,h1,hj',Instr.indexAt,asIntOf,run_underlying hT,hlt,z3a hE,z5y]
 ·cases hq
def clr {α:Type} (b:List α) (k n:Nat) (x0:α):List α:=b.take k++(List.replicate n x0++b.drop (k+n))
theorem ziq {z:Array Value} {n:Nat} (h0:0<z.size):(Builtin.zeroCells z n).toList=(List.replicate n z.toList).flatten:=by
 rw [← zq2 rfl h0]; rfl
theorem clrS {R:Rep α} {b:List α} {x0:α} {x:Operand} {T e:TypeId} {at_:Array TypeId} {z v:Value} {by_ k n:Nat} (r:Nat) (hx:opE l x=some (.sub R.sz v k n)) (hr:lr res r=some (v,.list R e b)) (hc:k+n≤b.length) (hat:at_[0]? = some T) (hT:P.underlying T=some (.slice e)) (hE:TI P e z R.sz by_) (hz:Zr R z.cells.toList x0) (h0:Nat.blt 0 R.sz=true) :
  ∀ a w,Sta Γ l res a w→∃ w' u,(execOp a.eval ⟨none,.call ⟨.builtin .clear,#[x],at_⟩,ty,pos,after,none⟩).run P w=.ok (.value u) w'∧Sta Γ l ((r,some (v,.list R e (clr b k n x0)))::res) a w':=fun a w ha=>by
 have h0:0<R.sz:=Eq.mp Nat.blt_eq h0;obtain ⟨p,cap,h1,h2,h3⟩:=ha.vl hx;have hzl:z.cells.size=R.sz:=by rw [← Array.length_toList]; exact R.len (hz (fun _=>True) w)
 by_cases hn:n=0
 ·subst hn;have hrun:(Builtin.clear_ at_ ty #[.slice p 0 cap]).run P w=.ok (.tuple #[]) w:=by
   cases p <;> simp [Builtin.clear_,hat,run_underlying hT]
  refine ⟨w,.tuple #[], by simp [execOp,resolve,invoke,builtin,h1,hrun],?_⟩;have e:clr b k 0 x0=b:=by simp [clr]
  rw [e];exact ha.recont r hr id
 ·obtain ⟨bb,rfl,hb⟩:=h3 hn;rcases ha.conts r v _ hr with ⟨rfl,_⟩ | ⟨b',o,g1,g2,b2,cp,C,rfl,rfl,g3,g4,g5,g6⟩
  ·cases hb
  ·simp only [z58,Option.some.injEq] at g1 hb;subst g1; subst hb;have hfl:=ziq (n:=n) (z:=z.cells) (by omega);have hll:((List.replicate n z.cells.toList).flatten).length=n * R.sz:=by simp [hzl]
   have hfit:k * R.sz+(Builtin.zeroCells z.cells n).toList.length≤C.size:=by
    rw [hfl,hll,g5,← Nat.add_mul];exact Nat.mul_le_mul_right _ (by omega)
   have hone:∀ u∈(Builtin.zeroCells z.cells n).toList,u.oneCell'=true:=fun u hu=>by
    rw [hfl] at hu;simp only [List.mem_flatten,List.mem_replicate] at hu;obtain ⟨q,⟨-,rfl⟩,hu⟩:=hu;exact R.one (hz (fun _=>True) w) u hu
   have hst:=run_storeCells_at P b2 (k * R.sz) e (Builtin.zeroCells z.cells n).toList 0 C w g2 (by simpa using hfit) hone;simp only [Nat.add_zero] at hst;obtain ⟨C',hC',hrun⟩:∃ C':Array Value,C'.toList=C.toList.take (k * R.sz)++(List.replicate n z.cells.toList).flatten++C.toList.drop (k * R.sz+n * R.sz)∧(Builtin.clear_ at_ ty #[.slice (some ⟨b2,k * R.sz,none⟩) n cap]).run P w=.ok (.tuple #[]) (w.setRow b2 C'):=by
    refine ⟨(C.toList.take (k * R.sz)++(Builtin.zeroCells z.cells n).toList++C.toList.drop (k * R.sz+(Builtin.zeroCells z.cells n).toList.length)).toArray,?_,?_⟩
    rotate_left
    ·obtain ⟨n',rfl⟩:∃ n',n=n'+1:=⟨n - 1, by omega⟩
     simp only [Builtin.clear_,hat,Sem.run_bind,run_underlying hT,Result.andThen,zdr hE,hst,Sem.run_pure,List.getElem?_toArray,List.getElem?_cons_zero]
    ·simp only [hfl,hll]
   refine ⟨w.setRow b2 C',.tuple #[], by simp [execOp,resolve,invoke,builtin,h1,hrun],?_⟩;refine (ha.upd r (zat b2 C') (fun q hq=>⟨_,_,hr, by cases hq; rfl⟩) (fun q hq=>.inl ⟨_,_,hr,hq⟩) (fun S' k'=>?_)).1;have hrel:=(g6.mono k')
   have hcl:(clr b k n x0).length=b.length:=by simp [clr]; omega
   have hbl:(k+n) * R.sz≤b.length * R.sz:=Nat.mul_le_mul_right _ hc;have hCl:C.toList.length=cp * R.sz:=by simpa using g5
   have hcp:b.length * R.sz≤cp * R.sz:=Nat.mul_le_mul_right _ g3;rw [Nat.add_mul] at hbl;refine .inr ⟨b2,_,rfl,setRow_heap w b2 C C' e _ g2,b2,cp,C', by rw [hcl],rfl, by rw [hcl]; exact g3,g4,?_,?_⟩
   ·rw [← Array.length_toList,hC'];simp only [List.length_append,List.length_take,List.length_drop,hCl,hll];omega
   ·rw [hcl,hC'];have e1:(C.toList.take (k * R.sz)++(List.replicate n z.cells.toList).flatten++C.toList.drop (k * R.sz+n * R.sz)).take (b.length * R.sz)
      = (C.toList.take (b.length * R.sz)).take (k * R.sz)++((List.replicate n z.cells.toList).flatten++(C.toList.take (b.length * R.sz)).drop ((k+n) * R.sz)):=by
     have l1:(C.toList.take (k * R.sz)).length=k * R.sz:=by rw [List.length_take]; omega
     rw [List.take_take,Nat.min_eq_left (by omega),List.append_assoc,List.take_append,List.take_append,List.take_take,hll,l1];rw [Nat.min_eq_right (by omega),List.take_of_length_le (l:=(List.replicate n z.cells.toList).flatten) (by rw [hll]; omega),List.drop_take,Nat.add_mul]
     congr 3
     omega
    rw [e1];refine (hrel.take k).append ((hz.rep S' _ n).append ?_);exact hrel.drop (k+n)
theorem cutO {R:Rep α} {b b':List α} {x:Operand} {hi:Operand} {kk:IntKind} {γ:Type} {f:γ→Int} {jj:γ} {T e:TypeId} {z v:Value} {by_:Nat} (r:Nat) (hx:opE l x=some (.val v)) (hr:lr res r=some (v,.list R e b)) (hhi:opE l hi=some (.rd (z9b kk f) jj)) (hb:cut b 0 (f jj)=some b')
  (hT:P.underlying T=some (.slice e)) (hE:TI P e z R.sz by_):Eff P Γ l res ⟨some d,.slice T x none (some hi) none,ty,pos,after,g⟩ r (fun u=>(u,.list R e b')):=fun a w ha=>by
 obtain ⟨h1,h2,h3,rfl⟩:=zu7 hb;have k5:=(ha.vl hx).1;have e0:((b.drop (0:Int).toNat).take ((f jj).toNat - (0:Int).toNat))=b.take (f jj).toNat:=by simp
 rw [e0];have hl2:(b.take (f jj).toNat).length=(f jj).toNat:=by simp; omega
 rcases ha.conts r v _ hr with ⟨rfl,rfl⟩ | ⟨b',ob,g1,g2,bb,cap,C,rfl,rfl,g3,g4,g5,g6⟩
 ·have hj:(f jj).toNat=0:=by simp at h3; omega
  refine ⟨w,.slice none 0 0,?_,?_,rfl,none,Ext.rfl'.gb, by simp⟩
  ·have hb:=zcm (P:=P) (isS:=true) (n:=0) (cp:=0) Bnd.no (Bnd.to hhi) ha (Int.le_refl _) h2 (by simpa using h3) (Nat.le_refl _) w;simp only [hj] at hb;simp only [execOp,Instr.sliceAt,k5,Sem.run_bind,run_underlying hT,Result.andThen,Instr.slice,Option.map_none] at hb ⊢;simp only [hb,z3a hE,Sem.run_pure,Result.andThen];rfl
  ·exact ha.upd r (v:=.slice none 0 0) (wr:=none) Ext.rfl'.gb (by simp) (by simp [z58]) (fun S' k'=>.inl ⟨rfl, by simp⟩)
 ·simp only [z58,Option.some.injEq] at g1;subst g1;refine ⟨w,.slice (some ⟨bb,0,none⟩) (f jj).toNat cap,?_,?_,rfl,none,Ext.rfl'.gb, by simp⟩
  ·have hb:=zcm (P:=P) (isS:=true) (n:=b.length) (cp:=cap) Bnd.no (Bnd.to hhi) ha (Int.le_refl _) h2 h3 g3 w;simp only [Option.map_none,Option.map_some] at hb;simp only [execOp,Instr.sliceAt,k5,Sem.run_bind,run_underlying hT,Result.andThen,Instr.slice,hb,z3a hE,Sem.run_pure,Option.map_none,Option.map_some];simp [z5y]
  ·refine ha.upd r (wr:=none) Ext.rfl'.gb (by simp) (fun q hq=>.inl ⟨_,_,hr,hq⟩) (fun S' k'=>?_);refine .inr ⟨bb,_,rfl,g2,bb,cap,C, by rw [hl2],rfl, by rw [hl2]; omega,g4,g5,?_⟩;have g7:=(g6.mono k').take (f jj).toNat;rw [List.take_take,Nat.min_eq_left (Nat.mul_le_mul_right _ (by omega))] at g7;rw [hl2]; exact g7
theorem capN {x:Operand} {T e:TypeId} {at_:Array TypeId} (hx:opE l x=some (.val (.slice none 0 0))) (hat:at_[0]? = some T) (hT:P.underlying T=some (.slice e)) :
  Run C P Γ l res ⟨some d,.call ⟨.builtin .cap,#[x],at_⟩,ty,pos,after,g⟩ (.rd z08 0):=fun a w ha=>by
 have h1:=(ha.vl hx).1;refine ⟨.int .i64 0, fun w' _=>?_,z8b⟩;simp [execOp,resolve,invoke,builtin,Builtin.cap_,h1,hat,run_underlying hT,goInt]
theorem cutN {x hi:Operand} {T e:TypeId} {z:Value} {sz by_:Nat} (hx:opE l x=some (.val (.slice none 0 0))) (hhi:opE l hi=some (.rd z08 0)) (hT:P.underlying T=some (.slice e)) (hE:TI P e z sz by_) :
  Run C P Γ l res ⟨some d,.slice T x none (some hi) none,ty,pos,after,g⟩ (.val (.slice none 0 0)):=fun a w ha=>by
 have h1:=(ha.vl hx).1;refine ⟨.slice none 0 0, fun w' _=>?_,rfl,rfl⟩;have hb:=zcm (P:=P) (isS:=true) (n:=0) (cp:=0) Bnd.no (Bnd.to (k:=.i64) (f:=id) hhi) ha (Int.le_refl _) (Int.le_refl _) (Int.le_refl _) (Nat.le_refl _) w';simp only [execOp,Instr.sliceAt,h1,Sem.run_bind,run_underlying hT,Result.andThen,Instr.slice,Option.map_none] at hb ⊢;simp only [hb,z3a hE,Sem.run_pure,Result.andThen];rfl
theorem apZ {R:Rep α} {x0:α} {b:List α} {x y:Operand} {z:Value} {T I e:TypeId} {by_:Nat} {n:Int} (r:Nat) (hx:opE l x=some (.val (.slice none 0 0))) (hy:opE l y=some (.rd z08 n)) (hb:mkn (2 * by_) x0 n=some b)
  (hT:P.underlying T=some (.slice e)) (hI:P.underlying I=some (.int .i64)) (hE:TI P e z R.sz by_) (hz:Zr R z.cells.toList x0) (h0:Nat.blt 0 R.sz=true) :
  Eff P Γ l res ⟨some d,.call ⟨.builtin .append,#[x,y],#[T,I]⟩,ty,pos,after,g⟩ r (fun u=>(u,.list R e b)):=fun a w ha=>by
 have h0:0<R.sz:=Eq.mp Nat.blt_eq h0;obtain ⟨h1,h2,h3,rfl⟩:=zlk hb;obtain ⟨n',rfl⟩:∃ n':Nat,n=(n':Int):=⟨n.toNat, by omega⟩
 simp only [Int.toNat_natCast] at h2 h3 ⊢;have e1:=(ha.vl hx).1;have e2:=z4q (ha.vl hy);simp only [id] at e2;obtain ⟨ti,g1,g2,g3,g4⟩:=hE;have hzs:z.cells.size=R.sz:=by rw [← Array.length_toList]; exact R.len (hz (fun _=>True) w)
 have hw:IntKind.i64.wrap (n':Int)=(n':Int):=zfz (by omega) (by omega);by_cases hn:n'=0
 ·subst hn;have hrun:(Builtin.append_ #[T,I] ty #[.slice none 0 0,.int .i64 0]).run P w=.ok (.slice none 0 0) w:=by
   have hw0:IntKind.i64.wrap 0=0:=by decide
   simp [Builtin.append_,run_underlying hT,run_underlying hI,sizeOf,typeInfo,g1,asInt,asIntOf,hw0,storeCells]
  refine ⟨w,.slice none 0 0,?_,?_,rfl,none,Ext.rfl'.gb, by simp⟩
  ·simp [execOp,resolve,invoke,builtin,e1,e2,hrun]
  ·exact ha.upd r (v:=.slice none 0 0) (wr:=none) Ext.rfl'.gb (by simp) (by simp [z58]) (fun S' k'=>.inl ⟨rfl,rfl⟩)
 ·have hbs:n' * ti.bytes≤281474976710656:=by
   rw [g4,Nat.mul_comm]; rw [Nat.mul_assoc] at h2; omega
  have hfit:Builtin.nextslicecap n' 0 * ti.bytes≤281474976710656:=by
   rw [nextslicecap_zero (by omega),g4];rw [Nat.mul_assoc,Nat.mul_comm by_] at h2; omega
  have hge:=grownCap_ge w n' 0 e;have hle:=grownCap_le_maxLen w n' 0 e (by unfold maxLen; omega);have hfit':¬ (281474976710656<Builtin.nextslicecap n' 0 * ti.bytes):=by omega
  have hns:¬ (n' * ti.size=0):=by
   rw [g3]; intro hh; rcases Nat.mul_eq_zero.1 hh with h | h <;> omega
  obtain ⟨C',hC',hrun⟩:∃ C':Array Value,C'.toList=(Builtin.zeroCells z.cells n').toList++(Builtin.zeroCells z.cells (grownCap w n' 0 e - n')).toList∧(Builtin.append_ #[T,I] ty #[.slice none 0 0,.int .i64 (n':Int)]).run P w=.ok (.slice (some ⟨w.heap.size,0,none⟩) n' (grownCap w n' 0 e)) (w.drew.alloc (.cells C' e)):=by
   refine ⟨Builtin.zeroCells z.cells n'++Builtin.zeroCells z.cells (grownCap w n' 0 e - n'), by simp,?_⟩
   have:=zfx (w:=w) (ty:=ty) (sLen:=0) (sCap:=0) (base:=none) (olds:=#[]) hT hI g1 g2 hw (by have:=hbs; omega) (by omega) (by omega) (by rw [Nat.zero_add]; omega) hns (fun w' _=>run_firstCells_none w' _ 0 0 0)
   simpa using this
  refine ⟨w.drew.alloc (.cells C' e),.slice (some ⟨w.heap.size,0,none⟩) n' (grownCap w n' 0 e),?_,?_,rfl,none,znz w _, by simp⟩
  ·simp only [execOp,resolve,invoke,builtin,Sem.run_bind];simp [e1,e2,hrun]
  ·refine ha.upd r (wr:=none) (znz w _) (by simp) (fun q hq=>.inr (by simp [z58] at hq; omega)) (fun S' k'=>zlp (by simp) (by simp; exact hge) hle ?_ ?_)
   ·rw [← Array.length_toList,hC'];simp only [List.length_append,Array.length_toList,size_zeroCells,hzs];rw [← Nat.add_mul]; congr 1; omega
   ·simp only [List.nil_append,List.length_replicate];rw [hC',ziq (by omega),List.take_left' (by simp [hzs])];exact hz.rep _ _ _
theorem idxV {β:Type} {n:Nat} {R:Rep α} {b:Vector α n} {y:α} {k:IntKind} {f:β→Int} {j:β} {x z':Operand} {T e:TypeId} {z:Value} {by_:Nat} (hx:opE l x=some (.rd (z3m n R) b)) (hj:opE l z'=some (.rd (z9b k f) j)) (hy:z7m b (f j)=some y) (hT:P.underlying T=some (.array n e)) (hE:TI P e z R.sz by_) (hTy:zbt P e R.agg R.sz) :
  Run C P Γ l res ⟨some d,.index T x z',ty,pos,after,g⟩ (.rd R y):=fun a w ha=>by
 obtain ⟨cs,h1,h2⟩:=ha.vl hx;obtain ⟨k1,k3⟩:=zp5 hy;have hj':a.eval z'=.int k ((f j).toNat:Int):=by rw [z4q (ha.vl hj)]; congr 1; omega
 have hy':b.toList[(f j).toNat]? = some y:=by
  have:=hy
  unfold z7m idx at this;rw [if_pos k1] at this
  simpa using this
 obtain ⟨aa,c,dd,e1,e2,e3,-⟩:=z5r.split h1 hy';refine ⟨R.val c, fun w' _=>?_,c,e3,rfl⟩;have p1:=zdl (P:=P) (xs:=cs.toArray) (by simpa using e1) e3 hTy w';rw [e2] at p1;have h2':a.eval x=.agg cs.toArray:=h2;generalize (f j).toNat=jn at *;simp [execOp,Instr.index,h2',hj',asIntOf,run_underlying hT,k3,z3a hE,p1]
theorem ixH {β:Type} {n:Nat} {R:Rep α} {b:Vector α n} {y:α} {k:IntKind} {f:β→Int} {j:β} {x z':Operand} {T e:TypeId} {z v:Value} {by_ q:Nat} {c:z4l} {upd:Vector α n→z4l} (r:Nat) (hx:opE l x=some (.val (z05 v q))) (hr:lr res r=some (v,c)) (hf:Foc c q (z3m n R) b upd) (hj:opE l z'=some (.rd (z9b k f) j)) (hy:z7m b (f j)=some y) (hT:P.underlying T=some (.array n e)) (hE:TI P e z R.sz by_) :
  Run C P Γ l res ⟨some d,.indexAddr T x z',ty,pos,after,g⟩ (.val (z05 v (q+(f j).toNat * R.sz))):=fun a w ha=>by
 have h1:=(ha.vl hx).1;obtain ⟨k1,k3⟩:=zp5 hy;have hj':a.eval z'=.int k ((f j).toNat:Int):=by rw [z4q (ha.vl hj)]; congr 1; omega
 rcases ha.conts r v c hr with h2 | ⟨b',o,h2,h3,h4⟩
 ·exact (hf.1 _ _ v h2).elim
 ·obtain ⟨bb,C',T',a',cs,dd,q1,-⟩:=hf.2 _ w v o h4;rw [zea q1] at h1 ⊢;exact ⟨_, fun w' _=>zf7 hT hE h1 hj' rfl k3 rfl,rfl,rfl⟩
theorem z19l {R:Rep α} {n i j:Nat} {v:Vector α n} {x:Operand} {lo hi:Option Operand} {T e:TypeId} {z:Value} {by_:Nat} (hx:opE l x=some (.rp (z3m n R) v)) (hlo:Bnd l 0 lo (i:Int)) (hhi:Bnd l (n:Int) hi (j:Int)) (hT:P.underlying T=some (.array n e)) (hE:TI P e z R.sz by_) (hij:i≤j∧j≤n) (hn:Nat.blt i n=true) (hm:Nat.ble n 281474976710656=true) (h0:Nat.blt 0 R.sz=true) :
  Run C P Γ l res ⟨some d,.slice T x lo hi none,ty,pos,after,g⟩ (.rd (z03 R) ((v.toList.drop i).take (j - i))):=fun a w ha=>by
 have hn:i<n:=Eq.mp Nat.blt_eq hn;have hm:n≤281474976710656:=Nat.le_of_ble_eq_true hm;obtain ⟨b,o,cs,h1,h2,h3,h4⟩:=ha.vl hx;have hlen:((v.toList.drop i).take (j - i)).length=j - i:=by simp; omega
 have hrel:z5r R (Shr Γ.H res w) w ((cs.drop (i * R.sz)).take ((j - i) * R.sz)) ((v.toList.drop i).take (j - i)):=(z5r.drop i (show z5r R _ w cs v.toList from h3)).take (j - i);refine ⟨.slice (some ⟨b,o+i * R.sz,none⟩) ((v.toList.drop i).take (j - i)).length (n - i), fun w' _=>?_,_,⟨some ⟨b,o+i * R.sz,none⟩,n - i,_,rfl,⟨hrel.len,.inr ⟨b,o+i * R.sz,none,n - i,rfl, by omega, by unfold maxLen; omega,.inr rfl, fun q u hu=>?_⟩⟩,hrel, fun _ bb hbb=>by cases hbb; exact h2⟩,rfl⟩
 ·rw [hlen];have hb:=zcm (P:=P) (isS:=false) (n:=n) (cp:=n) hlo hhi ha (by omega) (by omega) (by omega) (Nat.le_refl _) w';simp only [Int.toNat_natCast] at hb;have hne:¬ n=i:=by omega
  simp [execOp,h1,Instr.sliceAt,run_underlying hT,hb,Instr.sureAddr,z3a hE,Sem.run_pure,z5y,hne]
 ·rw [List.getElem?_take] at hu
  split at hu
  ·rw [List.getElem?_drop] at hu
   have:=h4 _ u hu
   rw [show o+i * R.sz+q=o+(i * R.sz+q) by omega]; exact this
  ·cases hu
theorem fldV {β:Type} {R:Rep α} {R2:Rep β} {b:α} {y:β} {off i:Nat} {set:β→α} {x:Operand} {T ft:TypeId} {fs:Array Field} (hx:opE l x=some (.rd R b)) (hp:z4d R b off R2 y set) (hag:R.agg=true) (hT:P.underlying T=some (.struct fs)) (hf:(fs[i]?).map (fun f=>(f.type,f.offset))=some (ft,off)) (hTy:zbt P ft R2.agg R2.sz) :
  Run C P Γ l res ⟨some d,.field T x i,ty,pos,after,g⟩ (.rd R2 y):=fun a w ha=>by
 obtain ⟨cs,h1,h2⟩:=ha.vl hx;obtain ⟨aa,c,dd,e1,e2,e3,-⟩:=hp _ _ _ h1;have h2':a.eval x=.agg cs.toArray:=by rw [h2]; simp [Rep.val,hag]
 obtain ⟨f,hf1,hf2⟩:=Option.map_eq_some_iff.1 hf;simp only [Prod.mk.injEq] at hf2;obtain ⟨rfl,rfl⟩:=hf2;refine ⟨R2.val c, fun w' _=>?_,c,e3,rfl⟩;have p1:=zdl (P:=P) (xs:=cs.toArray) (by simpa using e1) e3 hTy w';rw [e2] at p1;simp [execOp,Instr.field,h2',run_underlying hT,hf1,asAgg,p1]
theorem nckP {β:Type} {R:Rep β} {y:β} {upd:β→z4l} {x:Operand} {v:Value} {k:Nat} {c:z4l} (r:Nat) (hx:opE l x=some (.val (z05 v k))) (hr:lr res r=some (v,c)) (hf:Foc c k R y upd):Run C P Γ l res ⟨some d,.nilCheck x,ty,pos,after,g⟩ (.val (z05 v k)):=fun a w ha=>by
 have h1:=(ha.vl hx).1;rcases ha.conts r v c hr with h2 | ⟨b,o,h2,h3,h4⟩
 ·exact (hf.1 _ _ v h2).elim
 ·obtain ⟨b',C',T,a',cs,dd,k1,-⟩:=hf.2 _ w v o h4;rw [zea k1] at h1 ⊢;exact ⟨_, fun w' _=>by simp [execOp,h1],rfl,rfl⟩
def appz {α:Type} (by_:Nat) (b:List α) (x:α) (n:Int):Option (List α):=if 0≤n∧(b.length+n.toNat) * by_≤140737488355328 then some (b++List.replicate n.toNat x) else none
theorem zyj {by_:Nat} {b d:List α} {x:α} {n:Int} (h:appz by_ b x n=some d):0≤n∧(b.length+n.toNat) * by_≤140737488355328∧b++List.replicate n.toNat x=d:=by
 unfold appz at h; split at h
 ·rename_i hh; cases h; exact ⟨hh.1,hh.2,rfl⟩
 ·cases h
theorem apZO {R:Rep α} {x0:α} {b b3:List α} {x y:Operand} {v z:Value} {T I e:TypeId} {by_:Nat} {n:Int} (r:Nat) (hx:opE l x=some (.val v)) (hr:lr res r=some (v,.list R e b)) (hy:opE l y=some (.rd z08 n)) (hb:appz by_ b x0 n=some b3)
  (hT:P.underlying T=some (.slice e)) (hI:P.underlying I=some (.int .i64)) (hE:TI P e z R.sz by_) (hz:Zr R z.cells.toList x0) (h0:Nat.blt 0 R.sz=true) (h1:Nat.blt 0 by_=true:=by rfl) :
  Eff P Γ l res ⟨some d,.call ⟨.builtin .append,#[x,y],#[T,I]⟩,ty,pos,after,g⟩ r (fun u=>(u,.list R e b3)):=fun a w ha=>by
 have h0:0<R.sz:=Eq.mp Nat.blt_eq h0;have h1:0<by_:=Eq.mp Nat.blt_eq h1;obtain ⟨hn0,hby,rfl⟩:=zyj hb;obtain ⟨n',rfl⟩:∃ n':Nat,n=(n':Int):=⟨n.toNat, by omega⟩
 simp only [Int.toNat_natCast] at hby ⊢;have e1:=(ha.vl hx).1;have e2:=z4q (ha.vl hy);simp only [id] at e2;obtain ⟨ti,t1,t2,t3,t4⟩:=hE;have hzs:z.cells.size=R.sz:=by rw [← Array.length_toList]; exact R.len (hz (fun _=>True) w)
 have hlen:b.length+n'≤140737488355328:=Nat.le_trans (Nat.le_mul_of_pos_right _ h1) hby;have hml:maxLen=9223372036854775807:=rfl;have hw:IntKind.i64.wrap (n':Int)=(n':Int):=zfz (by omega) (by omega);have hbn':n' * ti.bytes≤281474976710656:=by
  rw [t4]
  have:n' * by_≤140737488355328:=Nat.le_trans (Nat.mul_le_mul_right _ (by omega)) hby
  omega
 have hfl:=ziq (n:=n') (z:=z.cells) (by omega);have hll:((List.replicate n' z.cells.toList).flatten).length=n' * R.sz:=by simp [hzs]
 have hone:∀ u∈(Builtin.zeroCells z.cells n').toList,u.oneCell'=true:=fun u hu=>by
  rw [hfl] at hu;simp only [List.mem_flatten,List.mem_replicate] at hu;obtain ⟨q,⟨-,rfl⟩,hu⟩:=hu;exact R.one (hz (fun _=>True) w) u hu
 obtain ⟨xs,o1,o2⟩:=z7c (ha.conts r v _ hr);rcases o1.2 with ⟨rfl,hb0⟩ | ⟨g',cap,cur,rfl,hbg,hg',hnc,hcm,hcs,htake⟩
 ·have hbn:b=[]:=List.eq_nil_of_length_eq_zero hb0;subst hbn;by_cases hn:n'=0
  ·subst hn;have hrun:(Builtin.append_ #[T,I] ty #[.slice none 0 0,.int .i64 0]).run P w=.ok (.slice none 0 0) w:=by
    have hw0:IntKind.i64.wrap 0=0:=by decide
    simp [Builtin.append_,run_underlying hT,run_underlying hI,sizeOf,typeInfo,t1,asInt,asIntOf,hw0,storeCells]
   refine ⟨w,.slice none 0 0,?_,?_,rfl,none,Ext.rfl'.gb, by simp⟩
   ·simp [execOp,resolve,invoke,builtin,e1,e2,hrun]
   ·exact ha.upd r (v:=.slice none 0 0) (wr:=none) Ext.rfl'.gb (by simp) (by simp [z58]) (fun S' k'=>.inl ⟨rfl,rfl⟩)
  ·have hge:=grownCap_ge w n' 0 e;have hle:=grownCap_le_maxLen w n' 0 e (by omega);have hfit':¬ (281474976710656<Builtin.nextslicecap n' 0 * ti.bytes):=by
    rw [nextslicecap_zero (by omega),t4];simp only [List.length_nil,Nat.zero_add] at hby; omega
   have h63:¬ ((9223372036854775807:Int)<(n':Int)):=by omega
   have hns:¬ (n' * ti.size=0):=by
    rw [t3]; intro hh; rcases Nat.mul_eq_zero.1 hh with h | h <;> omega
   obtain ⟨C',hC',hrun⟩:∃ C':Array Value,C'.toList=(Builtin.zeroCells z.cells n').toList++(Builtin.zeroCells z.cells (grownCap w n' 0 e - n')).toList∧(Builtin.append_ #[T,I] ty #[.slice none 0 0,.int .i64 (n':Int)]).run P w=.ok (.slice (some ⟨w.heap.size,0,none⟩) n' (grownCap w n' 0 e)) (w.drew.alloc (.cells C' e)):=by
    refine ⟨Builtin.zeroCells z.cells n'++Builtin.zeroCells z.cells (grownCap w n' 0 e - n'), by simp,?_⟩
    have:=zfx (w:=w) (ty:=ty) (sLen:=0) (sCap:=0) (base:=none) (olds:=#[]) hT hI t1 t2 hw hbn' (by omega) (by omega) (by rw [Nat.zero_add]; omega) hns (fun w' _=>run_firstCells_none w' _ 0 0 0)
    simpa using this
   refine ⟨w.drew.alloc (.cells C' e),.slice (some ⟨w.heap.size,0,none⟩) n' (grownCap w n' 0 e),?_,?_,rfl,none,znz w _, by simp⟩
   ·simp only [execOp,resolve,invoke,builtin,Sem.run_bind];simp [e1,e2,hrun]
   ·refine ha.upd r (wr:=none) (znz w _) (by simp) (fun q hq=>.inr (by simp [z58] at hq; omega)) (fun S' k'=>zlp (by simp) (by simp; exact hge) hle ?_ ?_)
    ·rw [← Array.length_toList,hC'];simp only [List.length_append,Array.length_toList,size_zeroCells,hzs];rw [← Nat.add_mul]; congr 1; omega
    ·simp only [List.nil_append,List.length_replicate];rw [hC',ziq (by omega),List.take_left' (by simp [hzs])];exact hz.rep _ _ _
 ·have hrow:Bx w g' cur e:=hg';have hxl:=o1.1;have hread:∀ j u,xs[j]? = some u→w.cell? ((⟨g',0,none⟩:Addr).add j)=some u:=fun j u hu=>o1.cells (g:=g') rfl j u hu;by_cases hroom:b.length+n'≤cap
  ·have hfit:b.length * R.sz+(Builtin.zeroCells z.cells n').toList.length≤cur.size:=by
    rw [hfl,hll,hcs,← Nat.add_mul]; exact Nat.mul_le_mul_right _ hroom
   have hst:=run_storeCells_at P g' (b.length * R.sz) e (Builtin.zeroCells z.cells n').toList 0 cur w hg' (by simpa using hfit) hone;simp only [Nat.add_zero] at hst;obtain ⟨C',hC',hrun⟩:∃ C':Array Value,C'.toList=cur.toList.take (b.length * R.sz)++(Builtin.zeroCells z.cells n').toList++cur.toList.drop (b.length * R.sz+(Builtin.zeroCells z.cells n').toList.length)∧(Builtin.append_ #[T,I] ty #[.slice (some ⟨g',0,none⟩) b.length cap,.int .i64 (n':Int)]).run P w=.ok (.slice (some ⟨g',0,none⟩) (b.length+n') cap) (w.setRow g' C'):=by
    refine ⟨(cur.toList.take (b.length * R.sz)++(Builtin.zeroCells z.cells n').toList++cur.toList.drop (b.length * R.sz+(Builtin.zeroCells z.cells n').toList.length)).toArray,rfl,?_⟩;have hst':(storeCells ((⟨g',0,none⟩:Addr).add (b.length * ti.size)) (if n' * ti.size=0 then [] else (Builtin.zeroCells z.cells n').toList)).run P w=.ok () (w.setRow g' (cur.toList.take (b.length * R.sz)++(Builtin.zeroCells z.cells n').toList++cur.toList.drop (b.length * R.sz+(Builtin.zeroCells z.cells n').toList.length)).toArray):=by
     have e9:(if n' * ti.size=0 then [] else (Builtin.zeroCells z.cells n').toList)=(Builtin.zeroCells z.cells n').toList:=by
      split
      ·rename_i h;rw [hfl];rw [t3] at h;rcases Nat.mul_eq_zero.1 h with h | h
       ·rw [h]; rfl
       ·omega
      ·rfl
     rw [e9,t3,z5y,Nat.zero_add];exact hst
    exact zrx hT hI t1 t2 hw hbn' hroom hst'
   have hCl:cur.toList.length=cur.size:=by simp
   refine ⟨w.setRow g' C',.slice (some ⟨g',0,none⟩) (b.length+n') cap,?_,?_,rfl,some g',zat g' C', fun q hq=>⟨_,_,hr, by cases hq; rfl⟩⟩
   ·simp only [execOp,resolve,invoke,builtin,Sem.run_bind];simp [e1,e2,hrun]
   ·refine ha.upd r (zat g' C') (fun q hq=>⟨_,_,hr, by cases hq; rfl⟩) (fun q hq=>.inl ⟨_,_,hr,hq⟩) (fun S' k'=>.inr ⟨g',_,rfl,setRow_heap w g' cur C' e _ hg',g',cap,C', by rw [List.length_append,List.length_replicate],rfl, by rw [List.length_append,List.length_replicate]; exact hroom,hcm,?_,?_⟩)
    ·rw [← hcs,← Array.length_toList (xs:=C'),hC'];simp only [List.length_append,List.length_take,List.length_drop,hCl];omega
    ·rw [List.length_append,List.length_replicate,hC',htake,hfl,List.take_left' (by rw [List.length_append,hxl,hll,Nat.add_mul])];exact (o2.mono k').append (hz.rep _ _ _)
  ·have hfit2:¬ (281474976710656<Builtin.nextslicecap (b.length+n') cap * ti.bytes):=by
    rw [t4]; have:=growslice_fits (old:=cap) (need:=b.length+n') (bytes:=by_) (by omega) (by omega); omega
   have h63:¬ ((9223372036854775807:Int)<((b.length+n':Nat):Int)):=by omega
   have hge:=grownCap_ge w (b.length+n') cap e;have hle:=grownCap_le_maxLen w (b.length+n') cap e (by omega);have hfo:=run_firstCells_some (P:=P) w.drew ti.size b.length ⟨g',0,none⟩ b.length cap xs (by rw [t3]; exact hxl) (by simpa using hread);obtain ⟨C',hC',hrun⟩:∃ C':Array Value,C'.toList=(xs++(Builtin.zeroCells z.cells n').toList)++(Builtin.zeroCells z.cells (grownCap w (b.length+n') cap e - (b.length+n'))).toList∧(Builtin.append_ #[T,I] ty #[.slice (some ⟨g',0,none⟩) b.length cap,.int .i64 (n':Int)]).run P w=.ok (.slice (some ⟨w.heap.size,0,none⟩) (b.length+n') (grownCap w (b.length+n') cap e)) (w.drew.alloc (.cells C' e)):=by
    refine ⟨xs.toArray++Builtin.zeroCells z.cells n'++Builtin.zeroCells z.cells (grownCap w (b.length+n') cap e - (b.length+n')), by simp,?_⟩;have hns:¬ (n' * ti.size=0):=by
     rw [t3]; intro hh; rcases Nat.mul_eq_zero.1 hh with h | h <;> omega
    exact zfx hT hI t1 t2 hw hbn' (by omega) (by omega) (by omega) hns (fun w' hw'=>by subst hw'; exact hfo)
   refine ⟨w.drew.alloc (.cells C' e),.slice (some ⟨w.heap.size,0,none⟩) (b.length+n') (grownCap w (b.length+n') cap e),?_,?_,rfl,none,znz w _, by simp⟩
   ·simp only [execOp,resolve,invoke,builtin,Sem.run_bind];simp [e1,e2,hrun]
   ·refine ha.upd r (wr:=none) (znz w _) (by simp) (fun q hq=>.inr (by simp [z58] at hq; omega)) (fun S' k'=>zlp (by simp) (by simp; exact hge) hle ?_ ?_)
    ·rw [← Array.length_toList,hC'];simp only [List.length_append,Array.length_toList,size_zeroCells,hxl,hzs]
     have:grownCap w (b.length+n') cap e * R.sz=(b.length+n') * R.sz+(grownCap w (b.length+n') cap e - (b.length+n')) * R.sz:=by rw [← Nat.add_mul]; congr 1; omega
     rw [Nat.add_mul] at this; omega
    ·rw [List.length_append,List.length_replicate,hC',hfl,List.take_left' (by rw [List.length_append,hll,hxl,Nat.add_mul])];exact (o2.mono k').append (hz.rep _ _ _)
end
end
section
open Go Go.RowKit
theorem z151 {α:Type} {R:Rep α} {T:TypeId} {b:List α} {S S':Blk} {w:World} {v:Value} (h:(z4l.list R T b).holds S w v) (hst:z9q S S' w w) (hb:∀ bb,z58 v=some bb→S' bb):(Ent.rd (z03 R) b).holds S' w v:=by
 obtain ⟨xs,k3,k4⟩:=z7c h;obtain ⟨p,c,rfl⟩:=z2l k3;exact ⟨_,⟨p,c,xs,rfl,Rd.of_own k3,k4.mono hst, fun _ bb hbb=>hb bb (by rw [z5v,zgy]; exact hbb)⟩,rfl⟩
section
variable {P:Program} {Γ:Ctx} {l:z1p} {res:Res} {o:Oper}
theorem z17y {a:Act} {w:World} {K K':Act→World→Prop} {Q:Exit→Act→World→Prop} (h:o.wp P a w K (fun _ _ _=>False)) (hk:∀ a w,K a w→K' a w):o.wp P a w K' Q:=by
 unfold Oper.wp at h ⊢;generalize (execOp a.eval o).run P w=r at h ⊢
 cases r with
 | ok x w' =>
  cases x <;> simp only [Oper.upon] at h ⊢ <;>
   first
    | exact hk _ _ h
    | exact Calls.mono h (fun e w'' he=>by
      cases e with
      | returned v=>exact hk _ _ he
      | panicked ch=>exact he.elim
      | outgrown=>obtain ⟨_,_,h1⟩:=he; exact h1.elim)
    | exact Rows.mono h (fun _ _ he=>hk _ _ he)
    | exact h
 | halt x w'=>cases x <;> simp only [Oper.upon] at h ⊢ <;> first | exact h.elim | exact h
end
def z9n:List Nat→Bool
 | []=>true
 | x::l=>!l.contains x&&z9n l
theorem zo9:∀ {l:List Nat} {i j x:Nat},z9n l=true→l[i]? = some x→l[j]? = some x→i=j
 | [],i,_,_,_,h,_=>by simp at h
 | y::l,0,0,_,_,_,_=>rfl
 | y::l,0,j+1,x,h,h1,h2=>by
  simp only [List.getElem?_cons_zero,Option.some.injEq,List.getElem?_cons_succ] at h1 h2;subst h1
  have:=List.mem_of_getElem? h2
  simp only [z9n,Bool.and_eq_true,Bool.not_eq_true',List.contains_eq_mem,decide_eq_false_iff_not] at h;exact absurd this h.1
 | y::l,i+1,0,x,h,h1,h2=>by
  simp only [List.getElem?_cons_zero,Option.some.injEq,List.getElem?_cons_succ] at h1 h2;subst h2
  have:=List.mem_of_getElem? h1
  simp only [z9n,Bool.and_eq_true,Bool.not_eq_true',List.contains_eq_mem,decide_eq_false_iff_not] at h;exact absurd this h.1
 | y::l,i+1,j+1,x,h,h1,h2=>by
  simp only [List.getElem?_cons_succ] at h1 h2;simp only [z9n,Bool.and_eq_true] at h;rw [zo9 h.2 h1 h2]
theorem zxr {l l':z1p} {t:Nat} {e:Ent} (h:lk (l++l') t=some e):lk l t=some e∨lk l' t=some e:=by
 induction l with
 | nil=>exact .inr h
 | cons x l ih =>
  obtain ⟨k,u⟩:=x;rw [List.cons_append,z2j] at h;rw [z2j]
  split
  ·rename_i hh; rw [if_pos hh] at h; exact .inl h
  ·rename_i hh; rw [if_neg hh] at h; exact ih h
theorem zum {p q:Nat→Bool}:∀ {l:List Nat} {x:Nat},x∈l→p x=true→q x=false→(∀ y,q y=true→p y=true)→(l.filter q).length<(l.filter p).length
 | [],_,h,_,_,_=>by simp at h
 | y::l,x,h,hp,hq,hm=>by
  have hle:∀ l:List Nat,(l.filter q).length≤(l.filter p).length:=fun l=>by
   induction l with
   | nil=>simp
   | cons z l ih =>
    simp only [List.filter_cons]
    cases hqz:q z with
    | true=>simp [hm z hqz]; exact ih
    | false=>cases p z <;> simp <;> omega
  simp only [List.filter_cons];rcases List.mem_cons.1 h with rfl | h
  ·simp only [hp,hq,if_true,Bool.false_eq_true,if_false,List.length_cons]
   have:=hle l; omega
  ·have ih:=zum h hp hq hm
   cases hqy:q y with
   | true=>simp [hm y hqy]; exact ih
   | false=>cases p y <;> simp <;> omega
section
variable {ρ:Type} {ro:Option Nat} {P:Program} {n:Nat} {K H:Blk} {w0:World} {dsd:List Deferred} {l0:z1p} {res:Res} {Q:ρ→Exit→Act→World→Prop} {m:Option ρ}
theorem zye {Γ:Ctx} {l:z1p} {c:Code} (L':z1p) (res':Res) (ns:List Nat) (h1:ztl l L') (h2:zby res res' ns) (k:G ro P (Sta Γ L' res') c Q m):G ro P (Sta Γ l res) c Q m:=fun a w ha=>k a w (ha.sub ns h1 h2)
end
end
section
open Go Go.RowKit
abbrev NV:=Nat→Value
abbrev SV (α:Type):=List Nat × (NV→α)
def sv {α:Type} (x:SV α) (nv:NV):α:=x.2 fun k=>bif x.1.contains k then nv k else undef
theorem z15y {α:Type} {x:SV α} {nv nv':NV} (h:∀ k,x.1.contains k=true→nv k=nv' k):sv x nv=sv x nv':=by
 unfold sv;refine congrArg x.2 (funext fun k=>?_)
 cases hk:x.1.contains k with
 | true=>simp only [cond_true]; exact h k hk
 | false=>rfl
abbrev SC:=Option (SV (Value × z4l))
structure VE where
 key:Nat
 base:SC
 vers:List (Nat × SC)
structure PO where
 dst:Option (Nat × SV Ent)
 ks:List (Nat × Nat × Bool)
 new:List Nat
 bs:List Nat:=[]
abbrev BS:=List (Nat × Ent × Nat)
def zn1 (L:Nat→Bool):SC→List (Nat × SC)→SC
 | c,[]=>c
 | c,(p,c')::r=>bif L p then zn1 L c' r else c
def ver:SC→List (Nat × SC)→Nat→SC
 | c,_,0=>c
 | _,[],_+1=>none
 | _,(_,c')::r,q+1=>ver c' r q
theorem zpa {L:Nat→Bool}:∀ {vs:List (Nat × SC)} {c:SC} {q:Nat},q≤vs.length→(∀ (j:Nat) (x:Nat × SC),j<q→vs[j]? = some x→L x.1=true)→(∀ x,vs[q]? = some x→L x.1=false)→zn1 L c vs=ver c vs q
 | [],c,0,_,_,_=>rfl
 | [],c,q+1,h,_,_=>by simp at h
 | (p,c')::r,c,0,_,_,h=>by
  have:=h (p,c') (by simp)
  show (bif L p then _ else c)=c;rw [this]; rfl
 | (p,c')::r,c,q+1,hq,h1,h2=>by
  have:=h1 0 (p,c') (by omega) (by simp)
  show (bif L p then zn1 L c' r else c)=ver c' r q;rw [this];exact zpa (by simpa using hq) (fun j x hj hx=>h1 (j+1) x (by omega) (by simpa using hx)) (fun x hx=>h2 x (by simpa using hx))
theorem zrf {L L':Nat→Bool}:∀ {vs:List (Nat × SC)} {c:SC},(∀ x∈vs,L x.1=L' x.1)→zn1 L c vs=zn1 L' c vs
 | [],c,_=>rfl
 | (p,c')::r,c,h=>by
  show (bif L p then zn1 L c' r else c)=(bif L' p then zn1 L' c' r else c);rw [h (p,c') (by simp),zrf fun x hx=>h x (by simp [hx])]
theorem zub {L:Nat→Bool}:∀ {vs:List (Nat × SC)} {c:SC},zn1 L c vs=c∨∃ x∈vs,L x.1=true∧zn1 L c vs=x.2
 | [],c=>.inl rfl
 | (p,c')::r,c=>by
  cases hp:L p with
  | false=>refine .inl ?_; show (bif L p then zn1 L c' r else c)=c; rw [hp]; rfl
  | true =>
   have e:zn1 L c ((p,c')::r)=zn1 L c' r:=by show (bif L p then zn1 L c' r else c)=_; rw [hp]; rfl
   rcases zub (L:=L) (vs:=r) (c:=c') with h | ⟨x,h1,h2,h3⟩
   ·exact .inr ⟨(p,c'), by simp,hp,e.trans h⟩
   ·exact .inr ⟨x, by simp [h1],h2,e.trans h3⟩
def Rof (V:List VE) (L:Nat→Bool) (nv:NV):Res:=V.map fun v=>(v.key,(zn1 L v.base v.vers).map (sv · nv))
def zst (V:List VE) (ks:List (Nat × Nat × Bool)) (nv:NV):Res:=ks.filterMap fun x=>V[x.1]?.map fun v=>(v.key,(ver v.base v.vers x.2.1).map (sv · nv))
def aftR (V:List VE) (ks:List (Nat × Nat × Bool)) (nv:NV):Res:=ks.filterMap fun x=>V[x.1]?.map fun v=>(v.key,(ver v.base v.vers (bif x.2.2 then x.2.1+1 else x.2.1)).map (sv · nv))
def dirs (o:Oper):List Nat:=o.after.toList.filterMap fun e=>bif Region.binds .any e then some e.on else none
def z125 (B:BS) (D:List PO) (o:Oper) (bs:List Nat) (nv:NV):z1p:=(bs.filterMap fun b=>B[b]?.map fun x=>(x.1,x.2.1))++(dirs o).filterMap fun j=>(D[j]?.bind (·.dst)).map fun x=>(x.1,sv x.2 nv)
def finS (D:List PO) (nv:NV):z1p:=D.filterMap fun p=>p.dst.map fun x=>(x.1,sv x.2 nv)
def finR (V:List VE) (nv:NV):Res:=V.map fun v=>(v.key,(ver v.base v.vers v.vers.length).map (sv · nv))
def Obl (P:Program) (Γ:Ctx) (l0:z1p) (o:Oper) (new:List Nat) (S:NV→z1p) (N A:NV→Res) (e:Option (SV Ent)):Prop :=
 ∀ nv E a w,Sta Γ (S nv++l0) (N nv++E) a w→o.wp P a w (fun a' w'=>∃ nv' u,(∀ k,new.contains k=false→nv' k=nv k)∧a'=a.put o.dst u∧(Sta Γ l0 (A nv'++E) a w'∧z9q (Shr Γ.H (N nv++E) w) (Shr Γ.H (A nv'++E) w') w w') ∧
  ∀ x,e=some x→(sv x nv').holds (Shr Γ.H (A nv'++E) w') w' u) (fun _ _ _=>False)
def zj0 (P:Program) (Γ:Ctx) (l0:z1p) (B:BS) (V:List VE) (D:List PO):List Oper→List PO→Prop
 | o::os,p::ps=>Obl P Γ l0 o p.new (z125 B D o p.bs) (zst V p.ks) (aftR V p.ks) (p.dst.map (·.2))∧zj0 P Γ l0 B V D os ps
 | _,_=>True
theorem zj0.get {P:Program} {Γ:Ctx} {l0:z1p} {B:BS} {V:List VE} {D:List PO}:∀ {os:List Oper} {ps:List PO} {i:Nat} {o:Oper} {p:PO},zj0 P Γ l0 B V D os ps→os[i]? = some o→ps[i]? = some p→Obl P Γ l0 o p.new (z125 B D o p.bs) (zst V p.ks) (aftR V p.ks) (p.dst.map (·.2))
 | [],_,i,_,_,_,h,_=>by simp at h
 | _::_,[],i,_,_,_,_,h=>by simp at h
 | o::os,p::ps,0,_,_,h,h1,h2=>by
  simp only [List.getElem?_cons_zero,Option.some.injEq] at h1 h2;subst h1 h2; exact h.1
 | o::os,p::ps,i+1,_,_,h,h1,h2=>zj0.get h.2 (by simpa using h1) (by simpa using h2)
def ancs (os:List Oper):List (List Nat):=os.foldl (fun acc o=>acc++[((dirs o)++(dirs o).flatMap fun j=>(acc[j]?).getD []).eraseDups]) []
def okId (D:List PO) (an:List Nat) (i id:Nat):Bool:=D.zipIdx.all fun x=>!x.1.new.contains id || Nat.beq x.2 i || an.contains x.2
def zud (os:List Oper) (B:BS) (V:List VE) (D:List PO) (an:List (List Nat)) (ks:List Nat) (n:Nat):Bool :=
 (z9n (B.map (·.1))&&B.all fun x=>match D[x.2.2]? with | some p=>(match p.dst with | some y=>Nat.beq y.1 x.1 | none=>false) | none=>false) &&
 (D.zipIdx.all fun p=>p.1.bs.all fun b=>match B[b]? with | some x=>((an[x.2.2]?).getD []).contains p.2 | none=>false) &&
 Nat.beq os.length D.length&&Nat.beq an.length D.length&&z9n (D.filterMap (fun p=>p.dst.map (·.1))++ks)&&z9n (V.map (·.key)) &&
 ((os.zip (D.zip an)).zipIdx.all fun x=>(match x.1.1.dst,x.1.1.guard,x.1.2.1.dst with
   | some d,none,some y=>Nat.beq d y.1&&Nat.blt d n&&y.2.1.all (okId D x.1.2.2 x.2)
   | none,none,none=>true
   | _,_,_=>false)&&x.1.1.after.all (fun e=>!Region.binds .any e || Nat.blt e.on x.2) &&
  x.1.2.2.all (fun y=>(dirs x.1.1).contains y || (dirs x.1.1).any fun j=>((an[j]?).getD []).contains y) &&
  x.1.2.1.ks.all fun y=>match V[y.1]? with
   | none=>false
   | some v=>Nat.ble y.2.1 v.vers.length&&(Nat.beq y.2.1 0 || (v.vers[y.2.1 - 1]?).any fun z=>x.1.2.2.contains z.1) &&
    match v.vers[y.2.1]? with
     | none=>!y.2.2
     | some z=>bif y.2.2 then Nat.beq z.1 x.2 else ((an[z.1]?).getD []).contains x.2) &&
 V.zipIdx.all fun v=>(match v.1.base with | none=>true | some c=>c.1.all fun id=>D.all fun p=>!p.new.contains id) &&
  v.1.vers.zipIdx.all fun z=>(match D[z.1.1]? with | none=>false | some p=>p.ks.contains (v.2,z.2,true))&&(match z.1.2 with | none=>true | some c=>c.1.all (okId D ((an[z.1.1]?).getD []) z.1.1))
theorem z108 {α β:Type} {k:Nat} {f:α→Nat × β}:∀ {V:List α} {i:Nat} {v:α},z9n (V.map fun v=>(f v).1)=true→V[i]? = some v→(f v).1=k→lk (V.map f) k=some (f v).2
 | [],i,_,_,h,_=>by simp at h
 | u::V,0,v,_,h,hk=>by
  simp only [List.getElem?_cons_zero,Option.some.injEq] at h;subst h;rw [List.map_cons, show f u=((f u).1,(f u).2) from rfl,z2j,if_pos hk]
 | u::V,i+1,v,hn,h,hk=>by
  simp only [List.getElem?_cons_succ] at h;rw [List.map_cons, show f u=((f u).1,(f u).2) from rfl,z2j,if_neg]
  ·simp only [List.map_cons,z9n,Bool.and_eq_true] at hn;exact z108 hn.2 h hk
  ·intro e
   have:=zo9 hn (i:=0) (j:=i+1) (x:=(f u).1) (by simp) (by simp [h,hk,e])
   omega
theorem zhh {α:Type}:∀ {l:List (Nat × α)} {k:Nat} {y:α},lk l k=some y→(k,y)∈l
 | [],_,_,h=>by cases h
 | (k',v)::l,k,y,h=>by
  rw [z2j] at h
  split at h
  ·rename_i e; subst e; cases h; simp
  ·simp [zhh h]
theorem z143 {α:Type}:∀ {l:List (Nat × α)} {k:Nat},lk l k=none→∀ y,(k,y)∉l
 | [],_,_,_=>by simp
 | (k',v)::l,k,h,y=>by
  rw [z2j] at h
  split at h
  ·cases h
  ·rename_i e;intro hm;rcases List.mem_cons.1 hm with hm | hm
   ·cases hm; exact e rfl
   ·exact z143 h y hm
theorem Sta.lrq {Γ:Ctx} {l:z1p} {r1 r2:Res} {a:Act} {w:World} (h:Sta Γ l r1 a w) (e:∀ k,lr r2 k=lr r1 k):Sta Γ l r2 a w:=by
 have hs:z9q (Shr Γ.H r1 w) (Shr Γ.H r2 w) w w:=fun b hb=>⟨⟨hb.1, fun r v c hr=>hb.2.1 r v c (by rw [← e]; exact hr),hb.2.2⟩,rfl⟩
 exact ⟨h.size,h.defers, fun t x ht=>by obtain ⟨v,h1,h2⟩:=h.slots t x ht; exact ⟨v,h1,x.mono hs h2⟩, fun r v c hr=>(h.conts r v c (by rw [← e]; exact hr)).mono hs (fun _ _=>rfl),
  fun r v c r' v' c' h1 h2=>h.excl r v c r' v' c' (by rw [← e]; exact h1) (by rw [← e]; exact h2), fun r v c hr=>h.own r v c (by rw [← e]; exact hr),h.keep,h.old,h.hid⟩
theorem Shr.lrq {H:Blk} {r1 r2:Res} {w:World} (e:∀ k,lr r2 k=lr r1 k):z9q (Shr H r1 w) (Shr H r2 w) w w:=fun b hb=>⟨⟨hb.1, fun r v c hr=>hb.2.1 r v c (by rw [← e]; exact hr),hb.2.2⟩,rfl⟩
section
variable {ρ:Type} {ro:Option Nat} {P:Program} {n:Nat} {K H:Blk} {w0:World} {dsd:List Deferred} {l0:z1p} {res:Res} {Q:ρ→Exit→Act→World→Prop} {m:Option ρ}
structure znf (os:List Oper) (B:BS) (V:List VE) (D:List PO) (an:List (List Nat)) (ks:List Nat) (n:Nat):Prop where
 bnd:z9n (B.map (·.1))=true
 bop:∀ x∈B,∃ p y,D[x.2.2]? = some p∧p.dst=some y∧y.1=x.1
 bbs:∀ (i:Nat) (p:PO),D[i]? = some p→∀ b∈p.bs,∃ x A,B[b]? = some x∧an[x.2.2]? = some A∧i∈A
 len:os.length=D.length
 nd:z9n (D.filterMap (fun p=>p.dst.map (·.1))++ks)=true
 ndv:z9n (V.map (·.key))=true
 op:∀ (i:Nat) (o:Oper) (p:PO),os[i]? = some o→D[i]? = some p→∃ A:List Nat,an[i]? = some A∧o.guard=none∧o.dst=p.dst.map (·.1)∧(∀ x,p.dst=some x→x.1<n∧∀ id∈x.2.1,okId D A i id=true)∧(∀ e∈o.after,Region.binds .any e=true→e.on<i) ∧
  (∀ y∈A,y∈dirs o∨∃ j∈dirs o,∃ B,an[j]? = some B∧y∈B) ∧
  ∀ k q b,(k,q,b)∈p.ks→∃ v,V[k]? = some v∧q≤v.vers.length∧(q=0∨∃ z,v.vers[q - 1]? = some z∧z.1∈A)∧(b=true→∃ z,v.vers[q]? = some z∧z.1=i)∧(b=false→∀ z,v.vers[q]? = some z→∃ B,an[z.1]? = some B∧i∈B)
 ve:∀ (k:Nat) (v:VE),V[k]? = some v→(∀ c,v.base=some c→∀ id∈c.1,∀ p∈D,p.new.contains id=false) ∧
  ∀ (q:Nat) (z:Nat × SC),v.vers[q]? = some z→(∃ p,D[z.1]? = some p∧(k,q,true)∈p.ks)∧∀ c,z.2=some c→∀ id∈c.1,okId D ((an[z.1]?).getD []) z.1 id=true
theorem z19e {os:List Oper} {B:BS} {V:List VE} {D:List PO} {an:List (List Nat)} {ks:List Nat} {n:Nat} (h:zud os B V D an ks n=true):znf os B V D an ks n:=by
 unfold zud at h;simp only [Bool.and_eq_true] at h;obtain ⟨⟨⟨⟨⟨⟨⟨⟨b1,b2⟩,b3⟩,c1⟩,c2⟩,c3⟩,c4⟩,c5⟩,c6⟩:=h;have c1:os.length=D.length:=Nat.eq_of_beq_eq_true c1;have c2:an.length=D.length:=Nat.eq_of_beq_eq_true c2;have q2:∀ x∈B,∃ p y,D[x.2.2]? = some p∧p.dst=some y∧y.1=x.1:=fun x hx=>by
  have:=List.all_eq_true.1 b2 x hx
  cases hp:D[x.2.2]? with
  | none=>rw [hp] at this; cases this
  | some p =>
   rw [hp] at this;simp only at this
   cases hd:p.dst with
   | none=>rw [hd] at this; cases this
   | some y=>rw [hd] at this; exact ⟨p,y,rfl,hd,Nat.eq_of_beq_eq_true this⟩
 have q3:∀ (i:Nat) (p:PO),D[i]? = some p→∀ b∈p.bs,∃ x A,B[b]? = some x∧an[x.2.2]? = some A∧i∈A:=fun i p hp b hb=>by
  have hz:(D.zipIdx)[i]? = some (p,i):=by rw [List.getElem?_zipIdx]; simp [hp]
  have:=List.all_eq_true.1 (List.all_eq_true.1 b3 _ (List.mem_of_getElem? hz)) b hb
  cases hx:B[b]? with
  | none=>rw [hx] at this; cases this
  | some x =>
   rw [hx] at this;simp only at this
   cases hA:an[x.2.2]? with
   | none=>rw [hA] at this; simp at this
   | some A=>rw [hA] at this; exact ⟨x,A,rfl,hA, by simpa using this⟩
 refine ⟨b1,q2,q3,c1,c3,c4, fun i o p h1 h2=>?_, fun k v hv=>?_⟩
 ·have hi:i<D.length:=(List.getElem?_eq_some_iff.1 h2).1;obtain ⟨A,hA⟩:∃ A,an[i]? = some A:=⟨_,List.getElem?_eq_getElem (by omega)⟩
  have hz:((os.zip (D.zip an)).zipIdx)[i]? = some ((o,p,A),i):=by
   rw [List.getElem?_zipIdx];simp [List.getElem?_zip_eq_some,h1,h2,hA]
  have:=List.all_eq_true.1 c5 _ (List.mem_of_getElem? hz)
  simp only [Bool.and_eq_true] at this;obtain ⟨⟨⟨t1,t2⟩,t3⟩,t4⟩:=this;have hd:o.guard=none∧o.dst=p.dst.map (·.1)∧∀ x,p.dst=some x→x.1<n∧∀ id∈x.2.1,okId D A i id=true:=by
   cases hd:o.dst <;> cases hg:o.guard <;> cases hp:p.dst <;> rw [hd,hg,hp] at t1 <;> first | (cases t1; done) | skip
   ·exact ⟨rfl,rfl, fun x hx=>by cases hx⟩
   ·simp only [Bool.and_eq_true] at t1;refine ⟨rfl, by rw [Nat.eq_of_beq_eq_true t1.1.1]; rfl, fun x hx=>?_⟩
    cases hx
    exact ⟨by rw [← Nat.eq_of_beq_eq_true t1.1.1]; exact Eq.mp Nat.blt_eq t1.1.2, fun id hid=>List.all_eq_true.1 t1.2 id hid⟩
  refine ⟨A,hA,hd.1,hd.2.1,hd.2.2, fun e he hb=>(by
   have:=Array.all_eq_true_iff_forall_mem.1 t2 e he
   rw [hb] at this
   exact Eq.mp Nat.blt_eq (by simpa using this)), fun y hy=>?_, fun k q b hk=>?_⟩
  ·have:=List.all_eq_true.1 t3 y hy
   rw [Bool.or_eq_true] at this;rcases this with h | h
   ·exact .inl (by simpa using h)
   ·obtain ⟨j,hj,hh⟩:=List.any_eq_true.1 h
    cases hB:an[j]? with
    | none=>rw [hB] at hh; simp at hh
    | some B=>rw [hB] at hh; exact .inr ⟨j,hj,B,hB, by simpa using hh⟩
  ·have:=List.all_eq_true.1 t4 _ hk
   simp only at this
   cases hv:V[k]? with
   | none=>rw [hv] at this; cases this
   | some v =>
    rw [hv] at this;simp only [Bool.and_eq_true,Bool.or_eq_true] at this;obtain ⟨⟨u1,u2⟩,u3⟩:=this;refine ⟨v,rfl,Nat.le_of_ble_eq_true u1,?_, fun hb=>?_, fun hb z hz=>?_⟩
    ·rcases u2 with h | h
     ·exact .inl (Nat.eq_of_beq_eq_true h)
     ·cases hz:v.vers[q - 1]? with
      | none=>rw [hz] at h; cases h
      | some z=>rw [hz] at h; exact .inr ⟨z,rfl, by simpa using h⟩
    ·subst hb
     cases hz:v.vers[q]? with
     | none=>rw [hz] at u3; cases u3
     | some z=>rw [hz] at u3; exact ⟨z,rfl,Nat.eq_of_beq_eq_true u3⟩
    ·subst hb;rw [hz] at u3;simp only [cond_false] at u3
     cases hB:an[z.1]? with
     | none=>rw [hB] at u3; simp at u3
     | some B=>rw [hB] at u3; exact ⟨B,rfl, by simpa using u3⟩
 ·have hz:(V.zipIdx)[k]? = some (v,k):=by rw [List.getElem?_zipIdx]; simp [hv]
  have:=List.all_eq_true.1 c6 _ (List.mem_of_getElem? hz)
  simp only [Bool.and_eq_true] at this;obtain ⟨t1,t2⟩:=this;refine ⟨fun c hc id hid p hp=>?_, fun q z hq=>?_⟩
  ·rw [hc] at t1
   have:=List.all_eq_true.1 (List.all_eq_true.1 t1 id hid) p hp
   simpa using this
  ·have hz2:(v.vers.zipIdx)[q]? = some (z,q):=by rw [List.getElem?_zipIdx]; simp [hq]
   have:=List.all_eq_true.1 t2 _ (List.mem_of_getElem? hz2)
   simp only [Bool.and_eq_true] at this;obtain ⟨s1,s2⟩:=this;refine ⟨?_, fun c hc id hid=>?_⟩
   ·cases hp:D[z.1]? with
    | none=>rw [hp] at s1; cases s1
    | some p=>rw [hp] at s1; exact ⟨p,rfl, by simpa using s1⟩
   ·rw [hc] at s2;exact List.all_eq_true.1 s2 id hid
theorem zty {D:List PO} {an:List Nat} {i id j:Nat} {p:PO} (h:okId D an i id=true) (hj:D[j]? = some p) (hn:p.new.contains id=true):j=i∨j∈an:=by
 have hz:(D.zipIdx)[j]? = some (p,j):=by rw [List.getElem?_zipIdx]; simp [hj]
 have:=List.all_eq_true.1 h _ (List.mem_of_getElem? hz)
 simp only [hn,Bool.not_true,Bool.false_or,Bool.or_eq_true] at this;rcases this with h | h
 ·exact .inl (Nat.eq_of_beq_eq_true h)
 ·exact .inr (by simpa using h)
def zm7 (an:List (List Nat)) (L:Nat→Bool):Prop:=∀ i A,an[i]? = some A→L i=true→∀ y∈A,L y=true
section
variable {os:List Oper} {B:BS} {V:List VE} {D:List PO} {an:List (List Nat)} {ks:List Nat} {L L':Nat→Bool}
theorem znf.prev (ok:znf os B V D an ks n) {k:Nat} {v:VE} (hv:V[k]? = some v) {j:Nat} {x:Nat × SC} (hx:v.vers[j+1]? = some x):∃ z A,v.vers[j]? = some z∧an[x.1]? = some A∧z.1∈A:=by
 obtain ⟨⟨p,hp,hk⟩,-⟩:=(ok.ve k v hv).2 (j+1) x hx;obtain ⟨o,ho⟩:∃ o,os[x.1]? = some o:=⟨_,List.getElem?_eq_getElem (by rw [ok.len]; exact (List.getElem?_eq_some_iff.1 hp).1)⟩
 obtain ⟨A,hA,-,-,-,-,-,h7⟩:=ok.op x.1 o p ho hp;obtain ⟨v',hv',-,h8,-,-⟩:=h7 k (j+1) true hk;rw [hv] at hv'; cases hv'
 rcases h8 with h8 | ⟨z,hz,hzA⟩
 ·omega
 ·exact ⟨z,A, by simpa using hz,hA,hzA⟩
theorem znf.below (ok:znf os B V D an ks n) (hc:zm7 an L) {k:Nat} {v:VE} (hv:V[k]? = some v):∀ (j:Nat) (x:Nat × SC),v.vers[j]? = some x→L x.1=true→∀ j' x',j'≤j→v.vers[j']? = some x'→L x'.1=true
 | 0,x,hx,hl,j',x',h,h'=>by
  have:j'=0:=by omega
  subst this; rw [hx] at h'; cases h'; exact hl
 | j+1,x,hx,hl,j',x',h,h'=>by
  by_cases e:j'=j+1
  ·subst e; rw [hx] at h'; cases h'; exact hl
  ·obtain ⟨z,A,hz,hA,hzA⟩:=ok.prev hv hx;exact ok.below hc hv j z hz (hc _ A hA hl _ hzA) j' x' (by omega) h'
theorem znf.cur (ok:znf os B V D an ks n) (hc:zm7 an L) {k:Nat} {v:VE} (hv:V[k]? = some v) {q:Nat} (hq:q≤v.vers.length) (h1:q=0∨∃ z,v.vers[q - 1]? = some z∧L z.1=true) (h2:∀ z,v.vers[q]? = some z→L z.1=false):zn1 L v.base v.vers=ver v.base v.vers q:=by
 refine zpa hq (fun j x hj hx=>?_) h2;rcases h1 with h1 | ⟨z,hz,hl⟩
 ·omega
 ·exact ok.below hc hv (q - 1) z hz hl j x (by omega) hx
theorem zua (ok:znf os B V D an ks n) {k:Nat} {v:VE} (hv:V[k]? = some v) (L:Nat→Bool) (nv:NV):lk (Rof V L nv) v.key=some ((zn1 L v.base v.vers).map (sv · nv)):=by
 unfold Rof;exact z108 (f:=fun v:VE=>(v.key,(zn1 L v.base v.vers).map (sv · nv))) ok.ndv hv rfl
theorem zz9 {k:Nat} {y:Option (Value × z4l)} {nv:NV} (h:lk (Rof V L nv) k=some y):∃ (i:Nat) (v:VE),V[i]? = some v∧v.key=k∧y=(zn1 L v.base v.vers).map (sv · nv):=by
 have:=zhh h
 obtain ⟨v,hv,e⟩:=List.mem_map.1 this;obtain ⟨i,hi,rfl⟩:=List.getElem_of_mem hv
 cases e
 exact ⟨i,_,List.getElem?_eq_getElem hi,rfl,rfl⟩
theorem z163 (ok:znf os B V D an ks n) (hc:zm7 an L) {i:Nat} {o:Oper} {p:PO} {A:List Nat} (ho:os[i]? = some o) (hp:D[i]? = some p) (hA:an[i]? = some A) (hdep:∀ y∈A,L y=true) (hi:L i=false) (nv:NV) (E:Res) :
  ∀ k,lr (zst V p.ks nv++(Rof V L nv++E)) k=lr (Rof V L nv++E) k:=by
 intro k;unfold lr;rw [zdq]
 cases hl:lk (zst V p.ks nv) k with
 | none=>rfl
 | some y =>
  obtain ⟨⟨kp,q,b⟩,hk,he⟩:=List.mem_filterMap.1 (zhh hl);obtain ⟨A',hA',-,-,-,-,-,h7⟩:=ok.op i o p ho hp;rw [hA] at hA'; cases hA'
  obtain ⟨v,hv,hq,h8,h9,h10⟩:=h7 kp q b hk;simp only [hv,Option.map_some,Option.some.injEq,Prod.mk.injEq] at he;obtain ⟨rfl,rfl⟩:=he
  have hcur:=ok.cur hc hv hq (h8.imp id fun ⟨z,hz,hzA⟩=>⟨z,hz,hdep _ hzA⟩) (fun z hz=>by
   cases b with
   | true=>obtain ⟨z',hz',e⟩:=h9 rfl; rw [hz] at hz'; cases hz'; rw [e]; exact hi
   | false =>
    obtain ⟨B,hB,hiB⟩:=h10 rfl z hz;refine Classical.byContradiction fun hno=>?_
    have:=hc _ B hB (by simpa using hno) _ hiB
    rw [hi] at this; cases this)
  rw [zdq,zua ok hv,hcur];rfl
theorem z179 (ok:znf os B V D an ks n) (hc:zm7 an L) {i:Nat} {o:Oper} {p:PO} {A:List Nat} (ho:os[i]? = some o) (hp:D[i]? = some p) (hA:an[i]? = some A) (hdep:∀ y∈A,L y=true) (hi:L i=false)
  (hL:∀ j,L' j=(L j || Nat.beq j i)) {nv nv':NV} (hnv:∀ k,p.new.contains k=false→nv' k=nv k) (E:Res):∀ k,lr (Rof V L' nv'++E) k=lr (aftR V p.ks nv'++(Rof V L nv++E)) k:=by
 have hLi:L' i=true:=by rw [hL]; simp
 have hLm:∀ j,L j=true→L' j=true:=fun j h=>by rw [hL,h]; rfl
 have hLn:∀ j,L' j=true→L j=true∨j=i:=fun j h=>by
  rw [hL,Bool.or_eq_true] at h;exact h.imp id Nat.eq_of_beq_eq_true
 have hAi:i∉A:=fun h=>by have:=hdep i h; rw [hi] at this; cases this
 have hc':zm7 an L':=fun j B hB hj y hy=>by
  rcases hLn j hj with h | rfl
  ·exact hLm _ (hc j B hB h y hy)
  ·rw [hA] at hB; cases hB; exact hLm _ (hdep y hy)
 have hno:∀ j B,an[j]? = some B→i∈B→L' j=false:=fun j B hB hiB=>by
  refine Classical.byContradiction fun h=>?_;rcases hLn j (by simpa using h) with h | rfl
  ·have:=hc j B hB h i hiB; rw [hi] at this; cases this
  ·rw [hA] at hB; cases hB; exact hAi hiB
 obtain ⟨A',hA',-,-,-,-,-,h7⟩:=ok.op i o p ho hp;rw [hA] at hA'; cases hA'
 intro k;unfold lr;rw [zdq,zdq]
 cases hl:lk (aftR V p.ks nv') k with
 | some y =>
  obtain ⟨⟨kp,q,b⟩,hk,he⟩:=List.mem_filterMap.1 (zhh hl);obtain ⟨v,hv,hq,h8,h9,h10⟩:=h7 kp q b hk;simp only [hv,Option.map_some,Option.some.injEq,Prod.mk.injEq] at he;obtain ⟨rfl,rfl⟩:=he;rw [zua ok hv]
  have:zn1 L' v.base v.vers=ver v.base v.vers (bif b then q+1 else q):=by
   cases b with
   | true =>
    obtain ⟨z,hz,e⟩:=h9 rfl;refine ok.cur hc' hv (q:=q+1) (by have:=(List.getElem?_eq_some_iff.1 hz).1; omega) (.inr ⟨z, by simpa using hz, by rw [e]; exact hLi⟩) (fun z' hz'=>?_);obtain ⟨z2,B,hz2,hB,hzB⟩:=ok.prev hv hz';rw [hz] at hz2; cases hz2
    exact hno _ B hB (by rw [← e]; exact hzB)
   | false =>
    refine ok.cur hc' hv (q:=q) hq (h8.imp id fun ⟨z,hz,hzA⟩=>⟨z,hz,hLm _ (hdep _ hzA)⟩) (fun z hz=>?_);obtain ⟨B,hB,hiB⟩:=h10 rfl z hz;exact hno _ B hB hiB
  rw [this]; rfl
 | none =>
  rw [Option.none_or,zdq]
  cases hr:lk (Rof V L' nv') k with
  | none =>
   cases hr2:lk (Rof V L nv) k with
   | none=>rfl
   | some y =>
    obtain ⟨j,v,hv,rfl,-⟩:=zz9 hr2;rw [zua ok hv] at hr; cases hr
  | some y =>
   obtain ⟨j,v,hv,rfl,rfl⟩:=zz9 hr;rw [zua ok hv];have hnoi:∀ x∈v.vers,x.1≠i:=fun x hx e=>by
    obtain ⟨q,hq,rfl⟩:=List.getElem_of_mem hx;obtain ⟨⟨p',hp',hk'⟩,-⟩:=(ok.ve j v hv).2 q _ (List.getElem?_eq_getElem hq);rw [e,hp] at hp'; cases hp'
    exact z143 hl _ (List.mem_filterMap.2 ⟨(j,q,true),hk', by rw [hv]; rfl⟩)
   have hsame:zn1 L' v.base v.vers=zn1 L v.base v.vers:=zrf fun x hx=>by
    rw [hL]
    have:Nat.beq x.1 i=false:=by
     cases hb:Nat.beq x.1 i with
     | false=>rfl
     | true=>exact absurd (Nat.eq_of_beq_eq_true hb) (hnoi x hx)
    rw [this,Bool.or_false]
   rw [hsame];simp only [Option.some_or,Option.getD_some];rcases zub (L:=L) (vs:=v.vers) (c:=v.base) with hb | ⟨x,hx,hxl,hb⟩ <;> rw [hb]
   ·cases hcb:v.base with
    | none=>rfl
    | some c =>
     refine congrArg some (z15y fun id hid=>hnv id ?_);exact (ok.ve j v hv).1 c hcb id (by simpa using hid) p (List.mem_of_getElem? hp)
   ·cases hcb:x.2 with
    | none=>rfl
    | some c =>
     refine congrArg some (z15y fun id hid=>hnv id ?_);obtain ⟨q,hq,rfl⟩:=List.getElem_of_mem hx;have hid:=((ok.ve j v hv).2 q _ (List.getElem?_eq_getElem hq)).2 c hcb id (by simpa using hid)
     cases hn:p.new.contains id with
     | false=>rfl
     | true =>
      rcases zty hid hp hn with h | h
      ·exact absurd h.symm (hnoi _ hx)
      ·cases hB:an[(v.vers[q]).1]? with
       | none=>rw [hB] at h; simp at h
       | some B =>
        rw [hB] at h
        have:=hc _ B hB hxl i h
        rw [hi] at this; cases this
end
theorem zzu {listed:Array Bool} {i:Nat} (h:i<listed.size):∀ j,(listed.setIfInBounds i true).getD j false=(listed.getD j false || Nat.beq j i):=fun j=>by
 by_cases e:i=j
 ·subst e; simp [h]
 ·rw [getD_set_ne false e]
  have:Nat.beq j i=false:=by
   cases hb:Nat.beq j i with
   | false=>rfl
   | true=>exact absurd (Nat.eq_of_beq_eq_true hb).symm e
  rw [this,Bool.or_false]
set_option maxHeartbeats 1000000 in
theorem gOrd {id:Nat} {os:List Oper} (B:BS) (V:List VE) (D:List PO) (hm:P.follows .mixedOrders=true) (hc:zud os B V D (ancs os) (l0.map Prod.fst) n=true)
  (h0:∀ k,lr (Rof V (fun _=>false) (fun _=>undef)++res) k=lr res k) (h:zj0 P ⟨n,K,H,w0,dsd⟩ l0 B V D os D)
  (k:∀ nv,GE (Sta ⟨n,K,H,w0,dsd⟩ (finS D nv++l0) (finR V nv++res)) .normal Q m) (hd:zc0 os=true:=by rfl):G ro P (Sta ⟨n,K,H,w0,dsd⟩ ((B.map fun x=>(x.1,x.2.1))++l0) res) (.region id os.toArray true) Q m:=fun a w ha r hr=>by
 obtain ⟨Γ,hΓ⟩:∃ Γ:Ctx,Γ=⟨n,K,H,w0,dsd⟩:=⟨_,rfl⟩
 rw [← hΓ] at h k ha;have hn:Γ.n=n:=by rw [hΓ]
 have ok:=z19e hc;generalize ancs os=an at hc ok;have c1:=ok.len;have hsz:os.toArray.size=D.length:=by simp [c1]
 let Inv:Array Bool→Act→World→Prop:=fun listed a w=>listed.size=D.length∧zm7 an (fun j=>listed.getD j false)∧∃ nv,Sta Γ l0 (Rof V (fun j=>listed.getD j false) nv++res) a w ∧
  (∀ (j:Nat) (p:PO) (x:Nat × SV Ent),D[j]? = some p→p.dst=some x→listed.getD j false=true→(∃ u,a.tmps[x.1]? = some u∧(sv x.2 nv).holds (Shr Γ.H (Rof V (fun j=>listed.getD j false) nv++res) w) w u)) ∧
  ∀ x∈B,listed.getD x.2.2 false=false→∃ u,a.tmps[x.1]? = some u∧x.2.1.holds (Shr Γ.H (Rof V (fun j=>listed.getD j false) nv++res) w) w u
 have tf:∀ {listed:Array Bool} {j:Nat},j<listed.size→listed.getD j true=listed.getD j false:=fun {listed j} hj=>by
  simp only [Array.getD_eq_getD_getElem?]; rw [Array.getElem?_eq_getElem hj]; rfl
 have hall:∀ listed:Array Bool,listed.size=D.length→Region.ready .any os.toArray listed=[]→∀ j,j<D.length→listed.getD j false=true:=by
  intro listed hls hre j
  induction j using Nat.strongRecOn with
  | _ j ih =>
   intro hj;refine Classical.byContradiction fun hno=>?_;have hno:listed.getD j true=false:=by rw [tf (by omega)]; simpa using hno
   obtain ⟨o,ho⟩:∃ o,os[j]? = some o:=⟨_,List.getElem?_eq_getElem (by omega)⟩
   obtain ⟨p,hp⟩:∃ o,D[j]? = some o:=⟨_,List.getElem?_eq_getElem hj⟩
   obtain ⟨A,-,-,-,-,h5,-⟩:=ok.op j o p ho hp
   have:j∈Region.ready .any os.toArray listed:=mem_ready.2 ⟨hno,o, by simpa using ho, fun e he hb=>by
    have hlt:=h5 e he hb
    have:=ih e.on hlt (by omega)
    simp only [Array.getD_eq_getD_getElem?] at this ⊢;rw [Array.getElem?_eq_getElem (by omega)] at this ⊢
    exact this⟩
   rw [hre] at this; cases this
 have hfin:∀ listed a w,Inv listed a w→Region.ready .any os.toArray listed=[]→Q r .normal a w:=by
  rintro listed a w ⟨h1,hcl,nv,h2,h3,-⟩ hre
  have hl:=hall listed h1 hre;have hR:Rof V (fun j=>listed.getD j false) nv=finR V nv:=by
   unfold Rof finR;refine List.map_congr_left fun v hv=>?_;obtain ⟨kp,hk,rfl⟩:=List.getElem_of_mem hv;have hvk:V[kp]? = some V[kp]:=List.getElem?_eq_getElem hk
   have:zn1 (fun j=>listed.getD j false) (V[kp]).base (V[kp]).vers=ver (V[kp]).base (V[kp]).vers (V[kp]).vers.length:=by
    refine zpa (Nat.le_refl _) (fun j x _ hx=>?_) (fun x hx=>?_)
    ·obtain ⟨⟨p,hp,_⟩,-⟩:=(ok.ve kp _ hvk).2 j x hx;exact hl _ (List.getElem?_eq_some_iff.1 hp).1
    ·simp at hx
   rw [this]
  rw [hR] at h2 h3;refine k nv a w ⟨h2.size,h2.defers, fun t e ht=>?_,h2.conts,h2.excl,h2.own,h2.keep,h2.old,h2.hid⟩ r hr;rcases zxr ht with ht | ht
  ·obtain ⟨p,hp,he⟩:=List.mem_filterMap.1 (zhh ht);obtain ⟨x,hx,he⟩:=Option.map_eq_some_iff.1 he
   cases he
   obtain ⟨i,hi,rfl⟩:=List.getElem_of_mem hp;exact h3 i _ x (List.getElem?_eq_getElem hi) hx (hl i hi)
  ·exact h2.slots t e ht
 have main:∀ (fuel:Nat) (listed:Array Bool) (a:Act) (w:World),Inv listed a w→((List.range D.length).filter fun j=>!listed.getD j true).length≤fuel→wpAny P .any os.toArray (Q r) fuel listed a w:=by
  intro fuel
  induction fuel with
  | zero =>
   intro listed a w hI hc0;have hre:Region.ready .any os.toArray listed=[]:=by
    refine List.eq_nil_iff_forall_not_mem.2 fun j hj=>?_;obtain ⟨h1,o,ho,_⟩:=mem_ready.1 hj;have hjl:j<D.length:=by have:=(Array.getElem?_eq_some_iff.1 ho).1; omega
    have hmem:j∈(List.range D.length).filter fun j=>!listed.getD j true:=by simp only [List.mem_filter,List.mem_range,h1]; exact ⟨hjl,rfl⟩
    have:=List.length_pos_of_mem hmem
    omega
   exact ⟨hre,hfin _ _ _ hI hre⟩
  | succ fuel ih =>
   intro listed a w hI hc0;refine ⟨hfin _ _ _ hI, fun i hi=>?_⟩;obtain ⟨h1,o,ho,hdeps⟩:=mem_ready.1 hi;have hil:i<D.length:=by have:=(Array.getElem?_eq_some_iff.1 ho).1; omega
   have ho':os[i]? = some o:=by simpa using ho
   obtain ⟨p,hp⟩:∃ o,D[i]? = some o:=⟨_,List.getElem?_eq_getElem hil⟩
   obtain ⟨A,hA,f2,f1,f3,f4,f5,f6⟩:=ok.op i o p ho' hp;obtain ⟨hls,hcl,nv,hS,hD,hBs⟩:=hI;have hLi:(fun j=>listed.getD j false) i=false:=by show listed.getD i false=false; rw [← tf (by omega)]; exact h1
   have hdir:∀ j∈dirs o,listed.getD j false=true:=fun j hj=>by
    obtain ⟨e,he,hb⟩:=List.mem_filterMap.1 hj;have he:=Array.mem_toList_iff.1 he
    cases hbi:Region.binds .any e with
    | false=>rw [hbi] at hb; cases hb
    | true =>
     rw [hbi] at hb; simp only [cond_true,Option.some.injEq] at hb;subst hb;have hl:=hdeps e he hbi;have hlt:e.on<listed.size:=by have:=f4 e he hbi; omega
     rw [← tf hlt];simp only [Array.getD_eq_getD_getElem?] at hl ⊢;rw [Array.getElem?_eq_getElem hlt] at hl ⊢;exact hl
   have hdep:∀ y∈A,(fun j=>listed.getD j false) y=true:=fun y hy=>by
    rcases f5 y hy with h | ⟨j,hj,B,hB,hyB⟩
    ·exact hdir y h
    ·exact hcl j B hB (hdir j hj) y hyB
   have hobl:=h.get ho' hp;have hneed:=z163 ok hcl ho' hp hA hdep hLi nv res;have hS':Sta Γ l0 (zst V p.ks nv++(Rof V (fun j=>listed.getD j false) nv++res)) a w:=hS.lrq hneed;have hpre:Sta Γ (z125 B D o p.bs nv++l0) (zst V p.ks nv++(Rof V (fun j=>listed.getD j false) nv++res)) a w:=by
    refine ⟨hS'.size,hS'.defers, fun t e ht=>?_,hS'.conts,hS'.excl,hS'.own,hS'.keep,hS'.old,hS'.hid⟩;rcases zxr ht with ht | ht
    ·rcases List.mem_append.1 (zhh ht) with hm | hm
     ·obtain ⟨b,hb,he⟩:=List.mem_filterMap.1 hm;obtain ⟨x,hx,he⟩:=Option.map_eq_some_iff.1 he
      cases he
      obtain ⟨x',A',hx',hA',hiA'⟩:=ok.bbs i p hp b hb;rw [hx] at hx'; cases hx'
      obtain ⟨u,g1,g2⟩:=hBs x (List.mem_of_getElem? hx) (by
       refine Classical.byContradiction fun hno=>?_
       have:=hcl _ A' hA' (by simpa using hno) i hiA'
       rw [hLi] at this; cases this)
      exact ⟨u,g1,Ent.mono _ (Shr.lrq hneed) g2⟩
     obtain ⟨j,hj,he⟩:=List.mem_filterMap.1 hm;obtain ⟨x,hx,he⟩:=Option.map_eq_some_iff.1 he
     cases he
     obtain ⟨pj,hpj,hx⟩:=Option.bind_eq_some_iff.1 hx;obtain ⟨u,g1,g2⟩:=hD j pj x hpj hx (hdir j hj);exact ⟨u,g1,Ent.mono _ (Shr.lrq hneed) g2⟩
    ·exact hS'.slots t e ht
   unfold wpOp;rw [ho];have hw:Region.wanted o (yielded os.toArray a.tmps)=true:=by unfold Region.wanted; rw [f2]
   simp only [hw,if_true];refine .inl (z17y (hobl nv _ a w hpre) ?_)
   rintro a' w' ⟨nv',u,hnv,rfl,⟨hS2,hst⟩,hres⟩
   rw [f1];have hLL:=zzu (listed:=listed) (i:=i) (by omega);have haft:=z179 (L:=fun j=>listed.getD j false) (L':=fun j=>(listed.setIfInBounds i true).getD j false) ok hcl ho' hp hA hdep hLi hLL hnv res;have hS3:=hS2.lrq haft;have hst3:z9q (Shr Γ.H (Rof V (fun j=>listed.getD j false) nv++res) w) (Shr Γ.H (Rof V (fun j=>(listed.setIfInBounds i true).getD j false) nv'++res) w') w w':=((Shr.lrq hneed).tr hst).tr (Shr.lrq haft)
   have hcl':zm7 an (fun j=>(listed.setIfInBounds i true).getD j false):=fun j B hB hj y hy=>by
    have hj:(listed.setIfInBounds i true).getD j false=true:=hj;show (listed.setIfInBounds i true).getD y false=true;rw [hLL,Bool.or_eq_true] at hj;rw [hLL];rcases hj with h | h
    ·rw [show listed.getD y false=true from hcl j B hB h y hy]; rfl
    ·have:=Nat.eq_of_beq_eq_true h; subst this;rw [hA] at hB; cases hB
     have:=hdep y hy
     rw [show listed.getD y false=true from this]; rfl
   have hsame:∀ (j:Nat) (pj:PO) (x:Nat × SV Ent),D[j]? = some pj→pj.dst=some x→listed.getD j false=true→sv x.2 nv=sv x.2 nv':=fun j pj x hj hx hlj=>by
    refine z15y fun id hid=>(hnv id ?_).symm
    cases hnw:p.new.contains id with
    | false=>rfl
    | true =>
     obtain ⟨oj,hoj⟩:∃ o,os[j]? = some o:=⟨_,List.getElem?_eq_getElem (by rw [c1]; exact (List.getElem?_eq_some_iff.1 hj).1)⟩
     obtain ⟨B,hB,-,-,g3,-⟩:=ok.op j oj pj hoj hj;rcases zty ((g3 x hx).2 id (by simpa using hid)) hp hnw with e | e
     ·subst e; rw [show listed.getD i false=false from hLi] at hlj; cases hlj
     ·have:=hcl j B hB hlj i e; rw [hLi] at this; cases this
   have key:Sta Γ l0 (Rof V (fun j=>(listed.setIfInBounds i true).getD j false) nv'++res) (a.put (p.dst.map (·.1)) u) w'∧(∀ (j:Nat) (pj:PO) (x:Nat × SV Ent),D[j]? = some pj→pj.dst=some x→(listed.setIfInBounds i true).getD j false=true →
     ∃ v,(a.put (p.dst.map (·.1)) u).tmps[x.1]? = some v∧(sv x.2 nv').holds (Shr Γ.H (Rof V (fun j=>(listed.setIfInBounds i true).getD j false) nv'++res) w') w' v) ∧
     ∀ x∈B,(listed.setIfInBounds i true).getD x.2.2 false=false→∃ v,(a.put (p.dst.map (·.1)) u).tmps[x.1]? = some v∧x.2.1.holds (Shr Γ.H (Rof V (fun j=>(listed.setIfInBounds i true).getD j false) nv'++res) w') w' v:=by
    have hBo:∀ x∈B,(listed.setIfInBounds i true).getD x.2.2 false=false→listed.getD x.2.2 false=false∧x.2.2≠i:=fun x _ hx=>by
     rw [hLL,Bool.or_eq_false_iff] at hx;exact ⟨hx.1, fun e=>by rw [e] at hx; simp at hx⟩
    cases hpd:p.dst with
    | none =>
     refine ⟨hS3, fun j pj x hj hx hlj=>?_, fun x hx hxl=>by obtain ⟨v,g1,g2⟩:=hBs x hx (hBo x hx hxl).1; exact ⟨v,g1,Ent.mono _ hst3 g2⟩⟩;rw [hLL,Bool.or_eq_true] at hlj;rcases hlj with hlj | hlj
     ·obtain ⟨v,g1,g2⟩:=hD j pj x hj hx hlj;rw [hsame j pj x hj hx hlj] at g2;exact ⟨v,g1,Ent.mono _ hst3 g2⟩
     ·have:=Nat.eq_of_beq_eq_true hlj; subst this;rw [hp] at hj; cases hj; rw [hpd] at hx; cases hx
    | some y =>
     have hdn:y.1<Γ.n:=by rw [hn]; exact (f3 y hpd).1
     have hput:(a.put (some y.1) u).tmps[y.1]? = some u:=by simp [Act.put,hS.size,hdn]
     have hoth:∀ t,t≠y.1→(a.put (some y.1) u).tmps[t]? = a.tmps[t]? := fun t ht=>by simp [Act.put,Array.getElem?_setIfInBounds_ne (Ne.symm ht)]
     have hpos:∀ (j:Nat) (pj:PO) (x:Nat × SV Ent),D[j]? = some pj→pj.dst=some x→j≠i→x.1≠y.1:=fun j pj x hj hx hne e=>by
      have hnd:=ok.nd;have aux:∀ {D:List PO} {i j:Nat} {p q:PO} {x y:Nat × SV Ent} {m:List Nat},z9n (D.filterMap (fun p=>p.dst.map (·.1))++m)=true→D[i]? = some p→D[j]? = some q→p.dst=some x→q.dst=some y→x.1=y.1→i=j:=by
       intro D
       induction D with
       | nil=>intro i j p q x y m _ h; simp at h
       | cons d D ih =>
        intro i j p q x y m hnd h1 h2 h3 h4 e;have tail:z9n (D.filterMap (fun p=>p.dst.map (·.1))++m)=true:=by
         rw [List.filterMap_cons] at hnd
         cases hd:d.dst with
         | none=>simpa [hd] using hnd
         | some z=>rw [hd] at hnd; simp only [Option.map_some,List.cons_append,z9n,Bool.and_eq_true] at hnd; exact hnd.2
        have zpq:∀ {q:PO} {y z:Nat × SV Ent} {j:Nat},d.dst=some z→D[j]? = some q→q.dst=some y→z.1=y.1→False:=fun {q y z j} hz hj hy e=>by
         rw [List.filterMap_cons,hz] at hnd;simp only [Option.map_some,List.cons_append,z9n,Bool.and_eq_true,Bool.not_eq_true',List.contains_eq_mem,decide_eq_false_iff_not] at hnd;exact hnd.1 (List.mem_append_left _ (List.mem_filterMap.2 ⟨q,List.mem_of_getElem? hj, by rw [hy]; exact congrArg some e.symm⟩))
        cases i with
        | zero =>
         cases j with
         | zero=>rfl
         | succ j=>simp only [List.getElem?_cons_zero,Option.some.injEq,List.getElem?_cons_succ] at h1 h2; subst h1; exact (zpq h3 h2 h4 e).elim
        | succ i =>
         cases j with
         | zero=>simp only [List.getElem?_cons_zero,Option.some.injEq,List.getElem?_cons_succ] at h1 h2; subst h2; exact (zpq h4 h1 h3 e.symm).elim
         | succ j=>simp only [List.getElem?_cons_succ] at h1 h2; rw [ih tail h1 h2 h3 h4 e]
      exact hne (aux hnd hj hp hx hpd e)
     have hbase:∀ t e,lk l0 t=some e→t≠y.1:=fun t e ht hte=>by
      have aux:∀ {l m:List Nat} {x:Nat},z9n (l++m)=true→x∈l→x∈m→False:=by
       intro l m x hnd h1 h2
       induction l with
       | nil=>cases h1
       | cons z l ih =>
        simp only [List.cons_append,z9n,Bool.and_eq_true,Bool.not_eq_true',List.contains_eq_mem,decide_eq_false_iff_not] at hnd;rcases List.mem_cons.1 h1 with rfl | h1
        ·exact hnd.1 (List.mem_append_right _ h2)
        ·exact ih hnd.2 h1
      exact aux ok.nd (List.mem_filterMap.2 ⟨p,List.mem_of_getElem? hp, by rw [hpd]; rfl⟩) (List.mem_map.2 ⟨(t,e),zhh ht,hte⟩)
     refine ⟨⟨by simp [Act.put,hS3.size], by simp [Act.put,hS3.defers], fun t e ht=>?_,hS3.conts,hS3.excl,hS3.own,hS3.keep,hS3.old,hS3.hid⟩, fun j pj x hj hx hlj=>?_, fun x hx hxl=>?_⟩
     ·obtain ⟨v,g1,g2⟩:=hS3.slots t e ht;exact ⟨v, by rw [Option.map_some,hoth t (hbase t e ht)]; exact g1,g2⟩
     ·rw [Option.map_some];by_cases hji:j=i
      ·subst hji;rw [hp] at hj; cases hj; rw [hpd] at hx; cases hx
       exact ⟨u,hput,Ent.mono _ (Shr.lrq haft) (hres y.2 (by rw [hpd]; rfl))⟩
      ·rw [hLL,Bool.or_eq_true] at hlj;have hlj:listed.getD j false=true:=by
        rcases hlj with hlj | hlj
        ·exact hlj
        ·exact absurd (Nat.eq_of_beq_eq_true hlj) hji
       obtain ⟨v,g1,g2⟩:=hD j pj x hj hx hlj;rw [hsame j pj x hj hx hlj] at g2;exact ⟨v, by rw [hoth x.1 (hpos j pj x hj hx hji)]; exact g1,Ent.mono _ hst3 g2⟩
     ·obtain ⟨hx1,hx2⟩:=hBo x hx hxl;obtain ⟨v,g1,g2⟩:=hBs x hx hx1;obtain ⟨pj,z,hj,hz,e⟩:=ok.bop x hx;exact ⟨v, by rw [Option.map_some,hoth x.1 (by rw [← e]; exact hpos _ pj z hj hz hx2)]; exact g1,Ent.mono _ hst3 g2⟩
   refine ih _ _ _ ⟨by simp [hls],hcl',nv',key.1,key.2.1,key.2.2⟩ ?_
   have:=zum (p:=fun j=>!listed.getD j true) (q:=fun j=>!(listed.setIfInBounds i true).getD j true) (l:=List.range D.length) (List.mem_range.2 hil) (by simp only [h1]; rfl) (by simp [hls,hil]) (fun y hy=>by
    by_cases hiy:i=y
    ·subst hiy; simp only [h1]; rfl
    ·simp only [getD_set_ne true hiy] at hy; exact hy)
   omega
 have hE:Ext w { w with drawn:=w.drawn+1 }:=Ext.rfl'.dr;have hf:(fun j=>(Array.replicate os.toArray.size false).getD j false)=fun _=>false:=by
  funext j
  simp only [Array.getD_eq_getD_getElem?,Array.getElem?_replicate]
  split <;> rfl
 have ha1:=ha.ext hE;have ha0:Sta Γ l0 res a { w with drawn:=w.drawn+1 }:=by
  refine ⟨ha1.size,ha1.defers, fun t e ht=>ha1.slots t e ?_,ha1.conts,ha1.excl,ha1.own,ha1.keep,ha1.old,ha1.hid⟩;rw [zdq]
  cases hB:lk (B.map fun x=>(x.1,x.2.1)) t with
  | none=>rw [ht]; rfl
  | some y =>
   obtain ⟨x,hx,he⟩:=List.mem_map.1 (zhh hB)
   cases he
   obtain ⟨pj,z,hj,hz,e⟩:=ok.bop x hx;have aux:∀ {l m:List Nat} {x:Nat},z9n (l++m)=true→x∈l→x∈m→False:=by
    intro l m x hnd h1 h2
    induction l with
    | nil=>cases h1
    | cons z l ih =>
     simp only [List.cons_append,z9n,Bool.and_eq_true,Bool.not_eq_true',List.contains_eq_mem,decide_eq_false_iff_not] at hnd;rcases List.mem_cons.1 h1 with rfl | h1
     ·exact hnd.1 (List.mem_append_right _ h2)
     ·exact ih hnd.2 h1
   exact (aux ok.nd (List.mem_filterMap.2 ⟨pj,List.mem_of_getElem? hj, by rw [hz]; exact congrArg some e⟩) (List.mem_map.2 ⟨(x.1,_),zhh ht,rfl⟩)).elim
 refine zsi hm (by simpa using hd) (main _ _ _ _ ⟨by simp [hsz], fun j A _ hj=>?_, fun _=>undef,?_, fun j p x _ _ hl=>?_, fun x hx _=>?_⟩ ?_)
 ·rw [show (fun j=>(Array.replicate os.toArray.size false).getD j false) j=false from congrFun hf j] at hj; cases hj
 ·rw [hf]; exact ha0.lrq h0
 ·rw [show (Array.replicate os.toArray.size false).getD j false=false from congrFun hf j] at hl; cases hl
 ·rw [hf];have hlk:lk (B.map fun x=>(x.1,x.2.1)) x.1=some x.2.1:=by
   obtain ⟨b,hb,rfl⟩:=List.getElem_of_mem hx;exact z108 (f:=fun x:Nat × Ent × Nat=>(x.1,x.2.1)) ok.bnd (List.getElem?_eq_getElem hb) rfl
  obtain ⟨u,g1,g2⟩:=ha1.slots x.1 x.2.1 (by rw [zdq,hlk]; rfl);exact ⟨u,g1,Ent.mono _ (Shr.lrq h0) g2⟩
 ·have:=List.length_filter_le (fun j=>!(Array.replicate os.toArray.size false).getD j true) (List.range D.length)
  simp only [List.length_range] at this;omega
end
end
section
open Go Go.RowKit
abbrev pd (t:Nat) (e:Ent):PO:=⟨some (t,[], fun _=>e),[],[],[]⟩
abbrev pk (t:Nat) (e:Ent) (ks:List (Nat × Nat × Bool)):PO:=⟨some (t,[], fun _=>e),ks,[],[]⟩
def zzb (X Y:Res):Prop:=∀ E j,lr (X++E) j=lr (Y++E) j
inductive PwL (X Y:Res):List Nat→Prop
 | nil:PwL X Y []
 | cons {k:Nat} {ks:List Nat}:lk X k=lk Y k→PwL X Y ks→PwL X Y (k::ks)
theorem PwL.get {X Y:Res}:∀ {ks:List Nat} {k:Nat},PwL X Y ks→k∈ks→lk X k=lk Y k
 | _,k,.cons h t,hm=>by
  rcases List.mem_cons.1 hm with rfl | hm
  ·exact h
  ·exact t.get hm
theorem ztt {α:Type}:∀ {l:List (Nat × α)} {k:Nat},k∉l.map (·.1)→lk l k=none
 | [],_,_=>rfl
 | (k',v)::l,k,h=>by
  simp only [List.map_cons,List.mem_cons,not_or] at h;rw [z2j,if_neg fun e=>h.1 e.symm,ztt h.2]
theorem eqvR {X Y:Res} (h1:(Y.map (·.1)).all (fun k=>(X.map (·.1)).contains k)=true) (h2:PwL X Y (X.map (·.1))):zzb X Y:=fun E j=>by
 unfold lr;rw [zdq,zdq];by_cases hj:j∈X.map (·.1)
 ·rw [h2.get hj]
 ·have hy:j∉Y.map (·.1):=fun h=>hj (by simpa using List.all_eq_true.1 h1 j h);rw [ztt hj,ztt hy]
theorem zzb.refl {X:Res}:zzb X X:=fun _ _=>rfl
theorem z9q.rq {H:Blk} {X r1 r2:Res} {w w':World} (e:∀ k,lr r2 k=lr r1 k) (h:z9q (Shr H X w) (Shr H r1 w') w w'):z9q (Shr H X w) (Shr H r2 w') w w':=h.tr (Shr.lrq e)
theorem zuu {X Y E:Res} {r:Nat} {x:Option (Value × z4l)} (h:zzb ((r,x)::X) Y):∀ k,lr (Y++E) k=lr ((r,x)::(X++E)) k:=fun k=>(h E k).symm
def upd1 (nv:NV) (k:Nat) (u:Value):NV:=fun j=>bif Nat.beq j k then u else nv j
def updL (nv:NV):List Nat→(Nat→Value)→NV
 | [],_=>nv
 | k::ks,pv=>fun j=>bif Nat.beq j k then pv 0 else updL nv ks (fun i=>pv (i+1)) j
theorem z12j {ks:List Nat}:∀ {nv:NV} {pv:Nat→Value} {j:Nat},ks.contains j=false→updL nv ks pv j=nv j:=by
 induction ks with
 | nil=>intros; rfl
 | cons k ks ih =>
  intro nv pv j h;simp only [List.contains_cons,Bool.or_eq_false_iff] at h;have hb:Nat.beq j k=false:=by
   cases hb:Nat.beq j k with
   | false=>rfl
   | true=>have:=Nat.eq_of_beq_eq_true hb; subst this; simp at h
  show (bif Nat.beq j k then pv 0 else updL nv ks (fun i=>pv (i+1)) j)=nv j;rw [hb]; exact ih h.2
theorem z13d {e:Ent} {H:Blk} {r1 r2:Res} {w:World} {u:Value} (h:e.holds (Shr H r1 w) w u) (q:∀ k,lr r2 k=lr r1 k):e.holds (Shr H r2 w) w u:=e.mono (Shr.lrq q) h
section
variable {P:Program} {Γ:Ctx} {l0:z1p} {o:Oper} {S:NV→z1p} {N A:NV→Res} {e:SV Ent}
theorem Sta.base0 {Γ:Ctx} {S l0:z1p} {res:Res} {a:Act} {w:World} (h:Sta Γ (S++l0) res a w) (h0:∀ t e,lk l0 t=some e→lk (S++l0) t=some e):Sta Γ l0 res a w :=
 ⟨h.size,h.defers, fun t e ht=>h.slots t e (h0 t e ht),h.conts,h.excl,h.own,h.keep,h.old,h.hid⟩
def zq7 (S l0:z1p):Prop:=∀ t,(lk l0 t).isSome=true→lk S t=none
theorem zym {S l0:z1p} (h:(S.map (·.1)).all (fun t=>!(l0.map (·.1)).contains t)=true):zq7 S l0:=fun t ht=>by
 refine ztt fun hm=>?_
 have:=List.all_eq_true.1 h t hm
 cases hl:lk l0 t with
 | none=>rw [hl] at ht; cases ht
 | some e =>
  have hm2:t∈l0.map (·.1):=List.mem_map.2 ⟨(t,e),zhh hl,rfl⟩;simp only [Bool.not_eq_true',List.contains_eq_mem,decide_eq_false_iff_not] at this;exact this hm2
theorem zq7.keep {S l0:z1p} (h:zq7 S l0):∀ t e,lk l0 t=some e→lk (S++l0) t=some e:=fun t e ht=>by
 rw [zdq,h t (by rw [ht]; rfl),ht]; rfl
theorem oRn {e0:NV→Ent} (h:∀ nv E,Run Ext P Γ (S nv++l0) (N nv++E) o (e0 nv)) (he:∀ nv,e0 nv=sv e nv:=by exact fun _=>rfl) (hP:∀ nv,zq7 (S nv) l0:=by exact fun _=>zym rfl) (hA:∀ nv,zzb (N nv) (A nv):=by exact fun _=>zzb.refl):Obl P Γ l0 o [] S N A (some e):=fun nv E a w ha=>by
 obtain ⟨v,h1,h2⟩:=h nv E a w ha;unfold Oper.wp;rw [h1 w Ext.rfl'];have hq:∀ k,lr (A nv++E) k=lr (N nv++E) k:=fun k=>(hA nv E k).symm;exact ⟨nv,v, fun _ _=>rfl,rfl,⟨(ha.base0 (hP nv).keep).lrq hq,Shr.lrq hq⟩, fun x hx=>by cases hx; rw [← he]; exact z13d h2 hq⟩
theorem oEf {x:NV→Value→Value × z4l} (r k:Nat) (h:∀ nv E,Eff P Γ (S nv++l0) (N nv++E) o r (x nv)) (hE:∀ nv u,sv e (upd1 nv k u)=.val u:=by exact fun _ _=>rfl)
  (hR:∀ nv u,zzb ((r,some (x nv u))::N nv) (A (upd1 nv k u)):=by exact fun _ _=>eqvR rfl (by repeat (first | exact .nil | refine .cons rfl ?_)))
  (hP:∀ nv,zq7 (S nv) l0:=by exact fun _=>zym rfl):Obl P Γ l0 o [k] S N A (some e):=fun nv E a w ha=>by
 obtain ⟨w',u,h1,⟨h2,h3⟩,h4,-⟩:=h nv E a w ha;unfold Oper.wp;rw [h1];have hq:=zuu (E:=E) (hR nv u);refine ⟨upd1 nv k u,u, fun j hj=>?_,rfl,⟨(h2.base0 (hP nv).keep).lrq hq,h3.rq hq⟩, fun x hx=>by cases hx; rw [hE]; exact ⟨rfl,h4⟩⟩;unfold upd1
 cases hb:Nat.beq j k with
 | false=>rfl
 | true=>have:=Nat.eq_of_beq_eq_true hb; subst this; simp at hj
theorem oEb {T:NV→TypeId} {es:NV→List Ent} (r k:Nat) (h:∀ nv E,Eff P Γ (S nv++l0) (N nv++E) o r (fun v=>(v,.box (T nv) (es nv)))) (hE:∀ nv u,sv e (upd1 nv k u)=.val (z05 u 0):=by exact fun _ _=>rfl)
  (hR:∀ nv u,zzb ((r,some (u,.box (T nv) (es nv)))::N nv) (A (upd1 nv k u)):=by exact fun _ _=>eqvR rfl (by repeat (first | exact .nil | refine .cons rfl ?_)))
  (hP:∀ nv,zq7 (S nv) l0:=by exact fun _=>zym rfl):Obl P Γ l0 o [k] S N A (some e):=fun nv E a w ha=>by
 obtain ⟨w',u,h1,⟨h2,h3⟩,h4,-⟩:=h nv E a w ha;unfold Oper.wp;rw [h1];have hb:=zlf (h2.conts r _ _ (z1a.trans (if_pos rfl)));have hq:=zuu (E:=E) (hR nv u);refine ⟨upd1 nv k u,u, fun j hj=>?_,rfl,⟨(h2.base0 (hP nv).keep).lrq hq,h3.rq hq⟩, fun x hx=>by cases hx; rw [hE]; exact ⟨by rw [hb], by rw [hb]; exact h4⟩⟩;unfold upd1
 cases hb:Nat.beq j k with
 | false=>rfl
 | true=>have:=Nat.eq_of_beq_eq_true hb; subst this; simp at hj
theorem oEs {x:NV→Value × z4l} (r:Nat) (h:∀ nv E,EffS P Γ (S nv++l0) (N nv++E) o r (x nv)) (hd:o.dst=none:=by rfl)
  (hR:∀ nv,zzb ((r,some (x nv))::N nv) (A nv):=by exact fun _=>eqvR rfl (by repeat (first | exact .nil | refine .cons rfl ?_)))
  (hP:∀ nv,zq7 (S nv) l0:=by exact fun _=>zym rfl):Obl P Γ l0 o [] S N A none:=fun nv E a w ha=>by
 obtain ⟨w',h1,⟨h2,h3⟩,-⟩:=h nv E a w ha;unfold Oper.wp;rw [h1];have hq:=zuu (E:=E) (hR nv);exact ⟨nv,undef, fun _ _=>rfl, by rw [hd],⟨(h2.base0 (hP nv).keep).lrq hq,h3.rq hq⟩, fun x hx=>by cases hx⟩
theorem oFz {α:Type} {R:Rep α} {T:TypeId} {b:List α} {new:List Nat} {A1:NV→Res} (r k:Nat) (h:Obl P Γ l0 o new S N A1 (some ([k], fun nv=>.val (nv k)))) (h1:∀ nv E,lr (A1 nv++E) r=some (nv k,.list R T b):=by exact fun _ _=>rfl)
  (h2:∀ nv,zzb ((r,none)::A1 nv) (A nv):=by exact fun _=>eqvR rfl (by repeat (first | exact .nil | refine .cons rfl ?_))):Obl P Γ l0 o new S N A (some ([], fun _=>.rd (z03 R) b)):=fun nv E a w ha=>by
 refine z17y (h nv E a w ha) ?_
 rintro a' w' ⟨nv',u,hn,rfl,⟨hS,hst⟩,hx⟩
 have hu:(Ent.val (nv' k)).holds (Shr Γ.H (A1 nv'++E) w') w' u:=by
  have:=hx _ rfl
  simpa [sv] using this
 have hq:∀ j,lr (A nv'++E) j=lr ((r,none)::(A1 nv'++E)) j:=zuu (h2 nv');have hsub:∀ j v c,lr (A nv'++E) j=some (v,c)→j≠r∧lr (A1 nv'++E) j=some (v,c):=fun j v c hj=>by
  rw [hq,z1a] at hj
  split at hj
  ·cases hj
  ·rename_i hne; exact ⟨fun e=>hne e.symm,hj⟩
 have hr:=h1 nv' E;have hmono:z9q (Shr Γ.H (A1 nv'++E) w') (Shr Γ.H (A nv'++E) w') w' w':=fun bb hb=>⟨⟨hb.1, fun j v c hj=>hb.2.1 j v c (hsub j v c hj).2,hb.2.2⟩,rfl⟩;refine ⟨nv',u,hn,rfl,⟨⟨hS.size,hS.defers, fun t x ht=>?_, fun j v c hj=>(hS.conts j v c (hsub j v c hj).2).mono hmono (fun _ _=>rfl), fun j v c j' v' c' hj hj'=>hS.excl j v c j' v' c' (hsub j v c hj).2 (hsub j' v' c' hj').2, fun j v c hj=>hS.own j v c (hsub j v c hj).2,hS.keep,hS.old,hS.hid⟩,hst.tr hmono⟩, fun x hx=>?_⟩
 ·obtain ⟨v,g1,g2⟩:=hS.slots t x ht; exact ⟨v,g1,x.mono hmono g2⟩
 ·cases hx
  show (Ent.rd (z03 R) b).holds _ _ u;rw [hu.1];refine z151 (hS.conts r _ _ hr) hmono fun bb hbb=>⟨(hS.conts r _ _ hr).lt hbb, fun j v c hj=>?_, fun hh=>hS.own r _ _ hr bb hbb (hS.hid bb hh)⟩;obtain ⟨hne,hj⟩:=hsub j v c hj;exact hS.excl r _ _ j v c hr hj (fun e=>hne e.symm) bb hbb
theorem oCl {σ:Type} {d:Tmp} {f:FuncId} {F:Func} {b:Code} {args:List Operand} {ats:Array TypeId} {ty:TypeId} {pos:String} {after:Array Edge} {pin:NV→List Ent} {rin:NV→Res} {m1:Option σ} {s:σ} {q:NV→σ→(Nat→Value)→zn0} (ids:List Nat) (ns:List Nat) (mp:List (Nat × Nat)) (hm:m1=some s)
  (hF:P.funcs[f]? = some F) (hB:F.body=some b) (hS:∀ nv,z1u P f (pin nv) (rin nv) m1 (q nv)) (hA:∀ nv,z9j (S nv++l0) args (pin nv)) (hr:∀ nv E,zby (N nv++E) (rin nv) ns)
  (hE:∀ nv pv,sv e (updL nv ids pv)=zks (q nv s pv).ret:=by exact fun _ _=>rfl)
  (hR:∀ nv pv,zzb (aft ns mp (q nv s pv).res (N nv)) (A (updL nv ids pv)):=by exact fun _ _=>eqvR rfl (by repeat (first | exact .nil | refine .cons rfl ?_)))
  (hnm:(F.name == "runtime.NumGoroutine")=false:=by rfl) (hP:∀ nv,zq7 (S nv) l0:=by exact fun _=>zym rfl) :
  Obl P Γ l0 ⟨some d,.call ⟨.value (.func f),args.toArray,ats⟩,ty,pos,after,none⟩ ids S N A (some e):=fun nv E a w ha=>by
 have hrun:(execOp a.eval ⟨some d,.call ⟨.value (.func f),args.toArray,ats⟩,ty,pos,after,none⟩).run P w=.ok (.enter f (args.map a.eval).toArray) w:=by
  have e0:a.eval (.func f)=.func (.func f) #[] #[]:=rfl;simp [execOp,resolve,e0,Deferred.ofValue,invoke,zd7 hF hB hnm]
 unfold Oper.wp; rw [hrun];simp only [Oper.upon];have hH:∀ b,(fun b=>Γ.H b∨∃ r v c,lr (N nv++E) r=some (v,c)∧ns.contains r=false∧z58 v=some b) b↔Γ.H b∨∃ r v c,lr (N nv++E) r=some (v,c)∧ns.contains r=false∧z58 v=some b:=fun _=>Iff.rfl;obtain ⟨h1,h2⟩:=znk.of ha (hr nv E) hH;refine (hS nv s hm _ _ w (z9j.get ha h2 (hA nv)) h1).mono fun e' w' hR'=>?_;obtain ⟨pv,vs,rfl,hp⟩:=hR';obtain ⟨⟨h3,h4⟩,h5,-⟩:=ha.called (mp:=mp) (hr nv E) hH hp
 have hq:∀ j,lr (A (updL nv ids pv)++E) j=lr (aft ns mp (q nv s pv).res (N nv++E)) j:=fun j=>by
  rw [← hR nv pv E j];unfold aft;rw [List.append_assoc]
 exact ⟨updL nv ids pv,_, fun j hj=>z12j hj,rfl,⟨(h3.base0 (hP nv).keep).lrq hq,h4.rq hq⟩, fun x hx=>by cases hx; rw [hE]; exact z13d h5 hq⟩
theorem oN {B:BS} {V:List VE} {D:List PO} {os:List Oper}:zj0 P Γ l0 B V D os []:=by cases os <;> trivial
theorem oC {B:BS} {V:List VE} {D:List PO} {os:List Oper} {p:PO} {ps:List PO} (h:Obl P Γ l0 o p.new (z125 B D o p.bs) (zst V p.ks) (aftR V p.ks) (p.dst.map (·.2))) (t:zj0 P Γ l0 B V D os ps):zj0 P Γ l0 B V D (o::os) (p::ps):=⟨h,t⟩
theorem base0 {res:Res}:∀ {X:Res},(∀ k y,lk X k=some y→lr res k=y)→∀ k,lr (X++res) k=lr res k:=fun {X} h k=>by
 unfold lr;rw [zdq]
 cases hl:lk X k with
 | none=>rfl
 | some y=>have:=h k y hl; rw [← this]; rfl
inductive BasL (res:Res):Res→Prop
 | nil:BasL res []
 | cons {k:Nat} {y:Option (Value × z4l)} {X:Res}:lr res k=y→BasL res X→BasL res ((k,y)::X)
theorem BasL.get {res:Res}:∀ {X:Res},BasL res X→∀ k y,lk X k=some y→lr res k=y
 | _,.nil,_,_,h=>by cases h
 | _,.cons h t,k,y,hk=>by
  rw [z2j] at hk
  split at hk
  ·rename_i e; subst e; cases hk; exact h
  ·exact t.get k y hk
end
section
variable {ρ:Type} {ro:Option Nat} {P:Program} {n:Nat} {K H:Blk} {w0:World} {dsd:List Deferred} {l0:z1p} {res:Res} {Q:ρ→Exit→Act→World→Prop} {m:Option ρ}
theorem gOr {id:Nat} {os:List Oper} (B:BS) (V:List VE) (D:List PO) (hm:P.follows .mixedOrders=true) (h:zj0 P ⟨n,K,H,w0,dsd⟩ l0 B V D os D)
  (k:∀ nv,GE (Sta ⟨n,K,H,w0,dsd⟩ (finS D nv++l0) (finR V nv++res)) .normal Q m) (hc:zud os B V D (ancs os) (l0.map Prod.fst) n=true:=by kernel_rfl) (hd:zc0 os=true:=by rfl)
  (h0:BasL res (Rof V (fun _=>false) (fun _=>undef)):=by repeat (first | exact .nil | refine .cons rfl ?_)):G ro P (Sta ⟨n,K,H,w0,dsd⟩ ((B.map fun x=>(x.1,x.2.1))++l0) res) (.region id os.toArray true) Q m :=
 gOrd B V D hm hc (base0 h0.get) h k hd
end
end
section
open Go Go.RowKit
set_option maxRecDepth 100000
theorem Z {α:Sort _} {a:α}:a=a:=rfl
abbrev aZ:=z3m 32 u8R
theorem Zb {ρ:Type} {P:Program} {Γ:Ctx} {l:z1p} {res:Res} {m:Option ρ} {os:List Oper} {ro:Option Nat} {Q:ρ→Exit→Act→World→Prop} {y:Code} {d:Nat} {ty:TypeId} {pos:String} {after:Array Edge} {e:Ent} {x:Operand} (hx:opE l x=some e) (h:G ro P (Sta Γ ((d,e)::l) res) y Q m) (hn:Nat.blt d Γ.n=true:=by rfl):GL P os (Sta Γ l res) [⟨some d,.assign x,ty,pos,after,none⟩] (zn3 ro P y Q) m:=Za hx (Zn h) hn
theorem Zj {ρ:Type} {P:Program} {Γ:Ctx} {l:z1p} {res:Res} {m1 m2:Option ρ} {os:List Oper} {ro:Option Nat} {Q:ρ→Exit→Act→World→Prop} {t:Nat} {x y:Code} {b:Bool} (hb:lk l t=some (.rd z09 b)) (ht:b=true→G ro P (Sta Γ ((t,.rd z09 true)::l) res) x Q m1) (hf:b=false→G ro P (Sta Γ ((t,.rd z09 false)::l) res) y Q m2):GL P os (Sta Γ l res) [] (zn3 ro P (.cond (.tmp t) x y) Q) (if b then m1 else m2):=Zn (gIf rfl hb ht hf)
theorem fH {α:Type} {R:Rep α} {T:TypeId} {x:α} {es:List Ent}:Foc (.box T (.rd R x::es)) 0 R x (fun y=>.box T (.rd R y::es)):=Foc.here
theorem fP {α β:Type} {R:Rep α} {U:TypeId} {x:α} {es:List Ent} {T:Rep β} {y:β} {off:Nat} {set:β→α} (p:z4d R x off T y set):Foc (.box U (.rd R x::es)) (0+off) T y (fun y=>.box U (.rd R (set y)::es)):=Foc.here.part p
end
section
open Go Go.RowKit
set_option maxRecDepth 100000
def z6p (a0:List UInt8) (a1:List UInt8):Option (Int) :=
 some (Lib.compareBytes a0 a1) >>= fun y1 =>
 some y1
theorem z9x (a0:List UInt8) (a1:List UInt8):z1u Tryz.prog 83 [.rd (z03 u8R) a0,.rd (z03 u8R) a1] [] (z6p a0 a1) (fun r nv=>⟨[.rd z08 r],[]⟩):=by
 refine z2f 8 Tryz.func83 Z Z Z fun H w=>?_;refine gSR<|Zb Z<|gSR<|Zm Z<|Zm Z<|Zq (cmpB Z Z Tryz.func144 Z Z (by kernel_rfl) (by kernel_rfl))<|Za Z<|z27 4 Z fun y1=>Zn<|z0k<|Ze [] [] Z
def z87 (a0:V3) (a1:V3):Option (Int) :=
 z6p a0.toList a1.toList >>= fun r3 =>
 some r3
theorem z92 (a0:V3) (a1:V3):z1u Tryz.prog 51 [.rd aZ a0,.rd aZ a1] [] (z87 a0 a1) (fun r nv=>⟨[.rd z08 r],[]⟩):=by
 refine z2f 8 Tryz.func51 Z Z Z fun H w=>?_;refine gSR<|Eb Z (bx 1 Z) fun v1=>Eb Z (bx 2 Z) fun v2=>Zb Z<|z0q<|zqe 1 2 Z Z<|zqe 2 3 Z Z<|z6l [] mixed Z Z<|hTk 0 Z Z (cutV Z tu54 ti5 Z Z Z)<|hTk 1 Z Z (cutV Z tu54 ti5 Z Z Z)<|z2v 2 [] [] Z (by kernel_rfl) Z (gd0 Z) Z Tryz.func83 Z Z (z9x _ _) (Y2 Z Z) rN Z (fun _ _=>z1x) fun r3 n4=>hTk 3 Z Z (asg Z)<|z3e (by kernel_rfl)<|z0m<|z0k<|Ze [] [] Z
def z18 (a0:List V3):Option ((List V3)) :=
 app 32 ([]:List V3) a0 >>= fun x3 =>
 some x3
theorem z3w (a0:List V3):z1u Tryz.prog 60 [.rd (z03 aZ) a0] [] (z18 a0) (fun r nv=>⟨[.val (nv 0)],[(100,some (nv 0,.list aZ 54 r))]⟩):=by
 refine z2f 8 Tryz.func60 Z Z Z fun H w=>?_;refine gSR<|Zb Z<|z0q<|gSR<|Zm Z<|z16q Z Z .rd Z tu22 (fun h1=>?_) ?_
 ·subst h1;refine Zn<|zdc Z<|gSR<|Zb Z<|z0k<|z0v<|zwd aZ 54 1<|Ze [(.slice none 0 0)] [1] Z
 ·refine Zn<|zfk Z<|Zt<|gSR<|Ef Z (lit (R:=aZ) (([]:List V3):List V3) 2 (pN) Z tu22 z3v Z Z) fun v2=>Zm Z<|z0t fun x3 h4=>Ef Z (apn 2 Z Z Z .rd h4 tu22 z3v Z Z Z) fun v5=>Zb Z<|z0k<|Ze [v5] [2] Z
def z49 (a0:UInt64) (a1:List UInt32) (s2:UInt64 × Int):Option (Sum UInt64 (UInt64 × Int)) :=
 if decide (s2.2<(a1.length:Int)) then
  idx a1 s2.2 >>= fun x4 =>
  chk (a0≠0) >>= fun u6 =>
  some ((s2.1 * x4.toUInt64) % a0) >>= fun y8 =>
  some (.inr (y8,w64 (s2.2+1)))
 else
  some (.inl s2.1)
def zah (a0:UInt64) (a1:List UInt32):Option (UInt32) :=
 (iter (z49 a0 a1) (1,0)) >>= fun s1 =>
 some s1.toUInt32
theorem zdg (a0:UInt64) (a1:List UInt32):z1u Tryz.prog 168 [.rd z2x a0,.rd (z03 z0p) a1] [] (zah a0 a1) (fun r nv=>⟨[.rd z0p r],[]⟩):=by
 refine z2f 23 Tryz.func168 Z Z Z fun H w=>?_;refine gSR<|Zb Z<|gSR<|Zb Z<|z7r (fun (s1:UInt64) aa ww=>Sta (ctx 23 H [] w) [(5,.rd z2x s1)] [] aa ww) ?_ (fun s1=>?_)
 ·refine gSR<|Zm Z<|Zq (z4f Z .rd Z tu232)<|Zm Z<|Zn<|z29 (fun (s2:UInt64 × Int) aa ww=>Sta (ctx 23 H [] w) [(0,.rd z2x a0),(5,.rd z2x s2.1),(8,.rd (z03 z0p) a1),(9,.rd z08 (a1.length:Int)),(10,.rd z08 s2.2)] [] aa ww) (fun aa ww h=>Zu h []) (fun s2=>?_);refine gSR<|Zq (I.lss Z Z)<|Zn<|z0q<|gIf Z Z (fun h3=>?_) (fun h3=>?_)
  ·refine Zt<|z0q<|z5f<|gSR<|z0t fun x4 h5=>Zq (ixR Z Z h5 tu232 z60 Z)<|Zq (ldR Z z9i)<|Zb Z<|z2g<|Zm Z<|Zm Z<|Zq (W.toU Z tu63 tu44)<|Zq (U.mul Z Z)<|Zm Z<|z0t fun u6 h7=>Zq (U.rem Z Z (z5h h7))<|Za Z<|z27 5 Z fun y8=>z21<|z3l<|z0m<|z2g<|Zq (I.add Z Z)<|Zm Z<|z21<|z1m (fun aa ww h=>Zu h [])
  ·refine z1z<|z10<|z14<|z3p (fun aa ww h=>Zu h [])
 ·refine gSR<|Zm Z<|Zq (U.toW Z tu44 tu63)<|Zb Z<|z0k<|Ze [] [] Z
def zi8 (c0_0:UInt32):Option (UInt32) :=
 zah 1000000007 [c0_0,c0_0] >>= fun r2 =>
 some r2
theorem znb (p0_0:Value) (c0_0:UInt32):z1u Tryz.prog 195 [.val (z05 p0_0 0)] [(1,some (p0_0,.box 63 [.rd z0p c0_0]))] (zi8 c0_0) (fun r nv=>⟨[],[(1,some (p0_0,.box 63 [.rd z0p r]))]⟩):=by
 refine z2f 5 Tryz.func195 Z Z Z fun H w=>?_;refine z2g<|Zq (ld 1 Z Z fH z9i Z)<|Zq (ld 1 Z Z fH z9i Z)<|Ef Z (lit (R:=z0p) ([c0_0,c0_0]:List UInt32) 2 (pP Z Z<|pP Z Z<|pN) Z tu232 z60 Z Z) fun v1=>zl7 2 [3] Z (fS Z<|fN)<|Zc [] [] Tryz.func168 Z (zdg _ _) fun r2 n3=>Es (sto 1 Z Z fH Z z60)<|z21<|Ze [] [1] Z
def zbq (a0:UInt32) (a1:UInt64) (s3:UInt32 × Int):Option (Sum UInt32 (UInt32 × Int)) :=
 if decide (s3.2<64) then
  zi8 s3.1 >>= fun r5 =>
  chk (0≤w64 (63 - s3.2)) >>= fun u7 =>
  if ((z71 a1 ((w64 (63 - s3.2):Int).toNat)) &&& 1)==1 then
   zah 1000000007 [r5,a0] >>= fun r11 =>
   some (.inr (r11,w64 (s3.2+1)))
  else
   some (.inr (r5,w64 (s3.2+1)))
 else
  some (.inl s3.1)
def zej (a0:UInt32) (a1:UInt64):Option (UInt32) :=
 (iter (zbq a0 a1) (1,0)) >>= fun s2 =>
 some s2
theorem zg3 (a0:UInt32) (a1:UInt64):z1u Tryz.prog 163 [.rd z0p a0,.rd z2x a1] [] (zej a0 a1) (fun r nv=>⟨[.rd z0p r],[]⟩):=by
 refine z2f 26 Tryz.func163 Z Z Z fun H w=>?_;refine gSR<|Zb Z<|gSR<|Eb Z (z5l 1 z60 (.zr (R:=z0p) (x:=0) (Zr.num Z))) fun v1=>Es (sto 1 Z Z fH Z z60)<|Zn<|gSR<|Zq (mkf mp0 (mp1 Z))<|Zb Z<|z7r (fun (s2:UInt32) aa ww=>Sta (ctx 26 H [] w) [(5,.val (z05 v1 0))] [(1,some (v1,.box 63 [.rd z0p s2]))] aa ww) ?_ (fun s2=>?_)
 ·refine gSR<|Zm Z<|Zn<|z29 (fun (s3:UInt32 × Int) aa ww=>Sta (ctx 26 H [] w) [(0,.rd z0p a0),(1,.rd z2x a1),(5,.val (z05 v1 0)),(6,.val (.func (.func 195) #[] #[z05 v1 0])),(9,.rd z08 s3.2)] [(1,some (v1,.box 63 [.rd z0p s3.1]))] aa ww) (fun aa ww h=>Zu h [1]) (fun s3=>?_);refine gSR<|Zq (I.lss Z Z)<|Zn<|z0q<|gIf Z Z (fun h4=>?_) (fun h4=>?_)
  ·refine Zt<|z0q<|z5f<|gSR<|Zm Z<|Zb Z<|gSR<|Zm Z<|zk9 [1] [(1,1)] (gd0 Z) Z Z Tryz.func195 Z Z (znb _ _) (aN) (cQ 1 Z<|cN) (Y0 Z) fun r5 n6=>Zn<|gSR<|Zm Z<|Zm Z<|Zq (I.sub Z Z)<|z0t fun u7 h8=>Zq (U.shr Z Z (z5h h8))<|Zq (U.and Z Z)<|Zq (U.eql Z Z)<|Zj Z (fun h9=>?_) (fun h9=>?_)
   ·refine z2g<|Zq (ld 1 Z Z fH z9i Z)<|Zm Z<|Ef Z (lit (R:=z0p) ([r5,a0]:List UInt32) 2 (pP Z Z<|pP Z Z<|pN) Z tu232 z60 Z Z) fun v10=>zl7 2 [22] Z (fS Z<|fN)<|Zc [] [] Tryz.func168 Z (zdg _ _) fun r11 n12=>Es (sto 1 Z Z fH Z z60)<|z21<|z3l<|z0m<|z2g<|Zq (I.add Z Z)<|Zm Z<|z21<|z1m (fun aa ww h=>Zu h [1])
   ·refine z38<|z3l<|z0m<|z2g<|Zq (I.add Z Z)<|Zm Z<|z21<|z1m (fun aa ww h=>Zu h [1])
  ·refine z1z<|z10<|z14<|z3p (fun aa ww h=>Zu h [1])
 ·refine gSR<|Zq (ld 1 Z Z fH z9i Z)<|Zb Z<|z0k<|Ze [] [] Z
def zgq (a0:UInt32):Option (Bool) :=
 if decide (0<a0) then
  if decide (a0<1000000007) then
   zej a0 500000003 >>= fun r3 =>
   some (r3==1)
  else
   some false
 else
  some false
theorem zid (a0:UInt32):z1u Tryz.prog 151 [.rd z0p a0] [] (zgq a0) (fun r nv=>⟨[.rd z09 r],[]⟩):=by
 refine z2f 14 Tryz.func151 Z Z Z fun H w=>?_;refine gSR<|Zb Z<|gSR<|Zm Z<|Zq (W.gtr Z Z)<|Zm Z<|z28 5 Z (fun h1=>?_) (fun h1=>?_)
 ·refine lKn 4 Z h1<|z1l Zx Z Z (mv Z)<|z1l Zx Z Z (W.lss Z Z)<|Zq (pkT Z Z)<|Zm Z<|z28 9 Z (fun h2=>?_) (fun h2=>?_)
  ·refine lKn 7 Z h2<|lKn 8 Z h2<|z1l Zx Z Z (mv Z)<|zfv [] [] Zx Z Tryz.func163 Z Z (zg3 _ _) (Y2 Z Z) rN fun r3 n4=>z1l Zx Z Z (W.eql Z Z)<|Zq (pkT Z Z)<|Zb Z<|z0k<|Ze [] [] Z
  ·refine lKn 7 Z h2<|lKn 8 Z h2<|Zk Z<|Zk Z<|Zk Z<|Zq (pkF Z Z)<|Zb Z<|z0k<|Ze [] [] Z
 ·refine lKn 4 Z h1<|Zk Z<|Zk Z<|Zq (pkF Z Z)<|Zm Z<|Zk Z<|Zk Z<|Zk Z<|Zq (pkF Z Z)<|Zb Z<|z0k<|Ze [] [] Z
def zl9 (a0:Int):Option (Bool) :=
 if decide (a0<33) then
  some true
 else
  some (decide (126<a0)) >>= fun y2 =>
  some y2
theorem zth (a0:Int):z1u Tryz.prog 192 [.rd i32R a0] [] (zl9 a0) (fun r nv=>⟨[.rd z09 r],[]⟩):=by
 refine z2f 9 Tryz.func192 Z Z Z fun H w=>?_;refine gSR<|Zb Z<|gSR<|Zm Z<|Zq (J.lss Z Z)<|Zm Z<|z28 5 Z (fun h1=>?_) (fun h1=>?_)
 ·refine lKn 4 Z h1<|Zk Z<|Zk Z<|Zq (pkT Z Z)<|Zb Z<|z0k<|Ze [] [] Z
 ·refine lKn 4 Z h1<|z1l Zx Z Z (mv Z)<|z1l Zx Z Z (J.gtr Z Z)<|Zq (pkF Z Z)<|Za Z<|z27 2 Z fun y2=>Zn<|z0k<|Ze [] [] Z
def z2a (a0:List UInt8) (a2:Bool) (s3:Nat):Option (Sum (Sum Int Unit) Nat) :=
 if s3<(a0).length then
  some ((z9a a0 s3).1:Int) >>= fun y5 =>
  zl9 y5 >>= fun r6 =>
  if r6==a2 then
   some (.inl (.inl (s3:Int)))
  else
   some (.inr (s3+(z9a a0 s3).2))
 else
  some (.inl (.inr ()))
def z65 (a0:List UInt8) (a2:Bool):Option (Int) :=
 z67 (iter (z2a a0 a2) 0) fun s1 =>
 some (-1)
theorem zbz (a0:List UInt8) (a2:Bool):z1u Tryz.prog 204 [.rd z3q a0,.val (.func (.func 192) #[] #[]),.rd z09 a2] [] (z65 a0 a2) (fun r nv=>⟨[.rd z08 r],[]⟩):=by
 refine z2f 21 Tryz.func204 Z Z Z fun H w=>?_;refine gSR<|Zb Z<|z8i (fun (s1:Unit) aa ww=>Sta (ctx 21 H [] w) [] [] aa ww) ?_ (fun s1=>?_)
 ·refine gSR<|Zm Z<|Ef Z (rng 1 Z tu9) fun v2=>Zn<|z29 (fun (s3:Nat) aa ww=>Sta (ctx 21 H [] w) [(1,.val (.func (.func 192) #[] #[])),(2,.rd z09 a2),(10,.val v2)] [(1,some (v2,.iter a0 s3))] aa ww) (fun aa ww h=>Zu h [1]) (fun s3=>?_);refine gSR<|z18f 1 Z Z Z (fun h4=>?_) (fun h4=>?_)
  ·refine Zq (ext Z Z)<|Zn<|z0q<|zdc Z<|Zt<|z5f<|gSR<|Zq (ext Z Z)<|Zq (ext Z Z)<|Za Z<|Za Z<|z27 8 Z fun y5=>Zn<|gSR<|Zm Z<|Zm Z<|zk9 [] [] (gd0 Z) Z Z Tryz.func192 Z Z (zth _) (Y1 Z) (cN) rN fun r6 n7=>Zm Z<|Zq (eqB Tryz.underlying4 Z Z)<|Zj Z (fun h8=>?_) (fun h8=>?_)
   ·refine gSR<|Zm Z<|Zb Z<|z0k<|z4p<|z8c<|z5n<|Ze [] [] Z
   ·refine z38<|z3l<|z1m (fun aa ww h=>Zu h [1])
  ·refine Zq (ext Z Z)<|Zn<|z0q<|zfk Z<|z1z<|z10<|z14<|z6x (fun aa ww h=>Zu h [])
 ·refine gSR<|Zb Z<|z0k<|Ze [] [] Z
def z63 (a0:List UInt8):Option (Int) :=
 z65 a0 true >>= fun r1 =>
 some r1
theorem zc2 (a0:List UInt8):z1u Tryz.prog 191 [.rd z3q a0,.val (.func (.func 192) #[] #[])] [] (z63 a0) (fun r nv=>⟨[.rd z08 r],[]⟩):=by
 refine z2f 8 Tryz.func191 Z Z Z fun H w=>?_;refine gSR<|Zb Z<|gSR<|Zm Z<|Zm Z<|Zc [] [] Tryz.func204 Z (zbz _ _) fun r1 n2=>Zb Z<|z0k<|Ze [] [] Z
def zrz (a0:List UInt8):Option (Bool) :=
 if decide (1≤(a0.length:Int)) then
  if decide ((a0.length:Int)≤20) then
   z63 a0 >>= fun r3 =>
   some (decide (r3<0)) >>= fun y5 =>
   some y5
  else
   some false
 else
  some false
theorem zr7 (a0:List UInt8):z1u Tryz.prog 159 [.rd z3q a0] [] (zrz a0) (fun r nv=>⟨[.rd z09 r],[]⟩):=by
 refine z2f 16 Tryz.func159 Z Z Z fun H w=>?_;refine gSR<|Zb Z<|gSR<|Zm Z<|Zq (zy8 Z Z tu9)<|Zq (I.geq Z Z)<|Zm Z<|z28 6 Z (fun h1=>?_) (fun h1=>?_)
 ·refine lKn 5 Z h1<|z1l Zx Z Z (mv Z)<|z1l Zx Z Z (zy8 Z Z tu9)<|z1l Zx Z Z (I.leq Z Z)<|Zq (pkT Z Z)<|Zm Z<|z28 11 Z (fun h2=>?_) (fun h2=>?_)
  ·refine lKn 9 Z h2<|lKn 10 Z h2<|z1l Zx Z Z (mv Z)<|zfv [] [] Zx Z Tryz.func191 Z Z (zc2 _) (Y2 Z Z) rN fun r3 n4=>z1l Zx Z Z (I.lss Z Z)<|Zq (pkT Z Z)<|Za Z<|z27 2 Z fun y5=>Zn<|z0k<|Ze [] [] Z
  ·refine lKn 9 Z h2<|lKn 10 Z h2<|Zk Z<|Zk Z<|Zk Z<|Zq (pkF Z Z)<|Zb Z<|z0k<|Ze [] [] Z
 ·refine lKn 5 Z h1<|Zk Z<|Zk Z<|Zk Z<|Zq (pkF Z Z)<|Zm Z<|Zk Z<|Zk Z<|Zk Z<|Zq (pkF Z Z)<|Zb Z<|z0k<|Ze [] [] Z
def zgh (a0:Int):Option (z02) :=
 some (⟨1,a0,0,[]⟩:z02)
theorem zmr (a0:Int):z1u Tryz.prog 160 [.rd z08 a0] [] (zgh a0) (fun r nv=>⟨[.rd z0d r],[]⟩):=by
 refine z2f 5 Tryz.func160 Z Z Z fun H w=>?_;refine gSR<|Eb Z (z5l 1 zad (.zr (R:=z0d) (x:=(⟨0,0,0,[]⟩:z02)) zjt)) fun v1=>Zn<|gSR<|Zm Z<|Zq (bld (x':=(⟨1,a0,0,[]⟩:z02)) [(0,1),(1,1),(2,1),(3,1)] Tryz.underlying46 zad Z zjt Z (Bld.cons (z2m _) Z Z<|Bld.cons (z57 _) Z Z<|Bld.done Z))<|Es (sto 1 Z Z fH Z zad)<|Zn<|z0k<|zaz [] [] Z (eC 1 Z Z zh5<|eN) (rN)
def zf6 (a0:UInt64):Option (Int × UInt64) :=
 some (andI (w64 ((z71 a0 52).toNat:Int)) 2047) >>= fun y1 =>
 some (a0 &&& 4503599627370495) >>= fun y2 =>
 some (y1,y2)
theorem zn7 (a0:UInt64):z1u Tryz.prog 211 [.rd z2x a0] [] (zf6 a0) (fun r nv=>⟨[.rd z08 r.1,.rd z2x r.2],[]⟩):=by
 refine z2f 10 Tryz.func211 Z Z Z fun H w=>?_;refine gSR<|Za Z<|Zb Z<|gSR<|Zm Z<|Zq (U.shr Z Z (Int.natCast_nonneg _))<|Zq (U.toI Z tu44 tu3)<|Zq (I.and Z Z)<|Zm Z<|Zq (U.and Z Z)<|Za Z<|z27 2 Z fun y1=>Za Z<|z27 3 Z fun y2=>Zn<|z0k<|Ze [] [] Z
def zf9 (a0:UInt64):Option (UInt8) :=
 zf6 a0 >>= fun r1 =>
 (if r1.1==2047 then
  some (r1.2 != 0)
 else
  some false) >>= fun s3 =>
 if s3 then
  some 5
 else
  if r1.1==2047 then
   some 4
  else
   if r1.1 != 0 then
    some 3
   else
    if r1.2 != 0 then
     some 2
    else
     some 1
theorem zn2 (a0:UInt64):z1u Tryz.prog 205 [.rd z2x a0] [] (zf9 a0) (fun r nv=>⟨[.rd u8R r],[]⟩):=by
 refine z2f 26 Tryz.func205 Z Z Z fun H w=>?_;refine gSR<|Zb Z<|gSR<|Zm Z<|Zc [] [] Tryz.func211 Z (zn7 _) fun r1 n2=>Zm Z<|Zq (ext Z Z)<|Zq (ext Z Z)<|Za Z<|Zb Z<|z0q<|z5f<|z7r (fun (s3:Bool) aa ww=>Sta (ctx 26 H [] w) [(3,.rd z08 r1.1),(4,.rd z2x r1.2),(10,.rd z09 s3)] [] aa ww) ?_ (fun s3=>?_)
 ·refine z2g<|Zm Z<|Zq (I.eql Z Z)<|Zm Z<|z28 13 Z (fun h4=>?_) (fun h4=>?_)
  ·refine lKn 12 Z h4<|z1l Zx Z Z (mv Z)<|z1l Zx Z Z (U.neq Z Z)<|Zq (pkT Z Z)<|Za Z<|z21<|z3p (fun aa ww h=>Zu h [])
  ·refine lKn 12 Z h4<|Zk Z<|Zk Z<|Zq (pkF Z Z)<|Za Z<|z21<|z3p (fun aa ww h=>Zu h [])
 ·refine gIf Z Z (fun h5=>?_) (fun h5=>?_)
  ·refine gSR<|Zb Z<|z0k<|z4p<|z0v<|Ze [] [] Z
  ·refine gSR<|Zm Z<|Zq (I.eql Z Z)<|Zb Z<|gIf Z Z (fun h6=>?_) (fun h6=>?_)
   ·refine gKn 19 Z h6<|gSR<|Zb Z<|z0k<|z4p<|z0v<|Ze [] [] Z
   ·refine gKn 19 Z h6<|gSR<|Zm Z<|Zq (I.neq Z Z)<|Zb Z<|gIf Z Z (fun h7=>?_) (fun h7=>?_)
    ·refine gKn 22 Z h7<|gSR<|Zb Z<|z0k<|z4p<|z0v<|Ze [] [] Z
    ·refine gKn 22 Z h7<|gSR<|Zm Z<|Zq (U.neq Z Z)<|Zb Z<|gIf Z Z (fun h8=>?_) (fun h8=>?_)
     ·refine gKn 25 Z h8<|gSR<|Zb Z<|z0k<|z4p<|z0v<|Ze [] [] Z
     ·refine gKn 25 Z h8<|z38<|z3l<|z0m<|gSR<|Zb Z<|z0k<|Ze [] [] Z
def zfd (a0:UInt64):Option (UInt64) :=
 zf9 a0 >>= fun r1 =>
 if r1==5 then
  some 9221120237041090560
 else
  some a0
theorem zna (a0:UInt64):z1u Tryz.prog 193 [.rd z2x a0] [] (zfd a0) (fun r nv=>⟨[.rd z2x r],[]⟩):=by
 refine z2f 7 Tryz.func193 Z Z Z fun H w=>?_;refine gSR<|Zb Z<|z0q<|gSR<|Zm Z<|Zc [] [] Tryz.func205 Z (zn2 _) fun r1 n2=>Zq (B.eql Z Z)<|Zj Z (fun h3=>?_) (fun h3=>?_)
 ·refine gSR<|Zb Z<|z0k<|z0v<|Ze [] [] Z
 ·refine Zt<|gSR<|Zm Z<|Zb Z<|z0k<|Ze [] [] Z
def zex (a0:UInt64):Option (z02) :=
 zfd a0 >>= fun r2 =>
 some (⟨2,0,r2,[]⟩:z02)
theorem zn6 (a0:UInt64):z1u Tryz.prog 161 [.rd z2x a0] [] (zex a0) (fun r nv=>⟨[.rd z0d r],[]⟩):=by
 refine z2f 6 Tryz.func161 Z Z Z fun H w=>?_;refine gSR<|Eb Z (z5l 1 zad (.zr (R:=z0d) (x:=(⟨0,0,0,[]⟩:z02)) zjt)) fun v1=>Zn<|gSR<|Zm Z<|Zc [] [] Tryz.func193 Z (zna _) fun r2 n3=>Zq (bld (x':=(⟨2,0,r2,[]⟩:z02)) [(0,1),(1,1),(2,1),(3,1)] Tryz.underlying46 zad Z zjt Z (Bld.cons (z2m _) Z Z<|Bld.cons (z44 _) Z Z<|Bld.done Z))<|Es (sto 1 Z Z fH Z zad)<|Zn<|z0k<|zaz [] [] Z (eC 1 Z Z zh5<|eN) (rN)
def zdn (a0:Int):Option (Bool) :=
 if decide (a0<32) then
  some true
 else
  some (decide (126<a0)) >>= fun y2 =>
  some y2
theorem zmg (a0:Int):z1u Tryz.prog 194 [.rd i32R a0] [] (zdn a0) (fun r nv=>⟨[.rd z09 r],[]⟩):=by
 refine z2f 9 Tryz.func194 Z Z Z fun H w=>?_;refine gSR<|Zb Z<|gSR<|Zm Z<|Zq (J.lss Z Z)<|Zm Z<|z28 5 Z (fun h1=>?_) (fun h1=>?_)
 ·refine lKn 4 Z h1<|Zk Z<|Zk Z<|Zq (pkT Z Z)<|Zb Z<|z0k<|Ze [] [] Z
 ·refine lKn 4 Z h1<|z1l Zx Z Z (mv Z)<|z1l Zx Z Z (J.gtr Z Z)<|Zq (pkF Z Z)<|Za Z<|z27 2 Z fun y2=>Zn<|z0k<|Ze [] [] Z
def z1o (a0:List UInt8) (a2:Bool) (s3:Nat):Option (Sum (Sum Int Unit) Nat) :=
 if s3<(a0).length then
  some ((z9a a0 s3).1:Int) >>= fun y5 =>
  zdn y5 >>= fun r6 =>
  if r6==a2 then
   some (.inl (.inl (s3:Int)))
  else
   some (.inr (s3+(z9a a0 s3).2))
 else
  some (.inl (.inr ()))
def z4u (a0:List UInt8) (a2:Bool):Option (Int) :=
 z67 (iter (z1o a0 a2) 0) fun s1 =>
 some (-1)
theorem zaj (a0:List UInt8) (a2:Bool):z1u Tryz.prog 204 [.rd z3q a0,.val (.func (.func 194) #[] #[]),.rd z09 a2] [] (z4u a0 a2) (fun r nv=>⟨[.rd z08 r],[]⟩):=by
 refine z2f 21 Tryz.func204 Z Z Z fun H w=>?_;refine gSR<|Zb Z<|z8i (fun (s1:Unit) aa ww=>Sta (ctx 21 H [] w) [] [] aa ww) ?_ (fun s1=>?_)
 ·refine gSR<|Zm Z<|Ef Z (rng 1 Z tu9) fun v2=>Zn<|z29 (fun (s3:Nat) aa ww=>Sta (ctx 21 H [] w) [(1,.val (.func (.func 194) #[] #[])),(2,.rd z09 a2),(10,.val v2)] [(1,some (v2,.iter a0 s3))] aa ww) (fun aa ww h=>Zu h [1]) (fun s3=>?_);refine gSR<|z18f 1 Z Z Z (fun h4=>?_) (fun h4=>?_)
  ·refine Zq (ext Z Z)<|Zn<|z0q<|zdc Z<|Zt<|z5f<|gSR<|Zq (ext Z Z)<|Zq (ext Z Z)<|Za Z<|Za Z<|z27 8 Z fun y5=>Zn<|gSR<|Zm Z<|Zm Z<|zk9 [] [] (gd0 Z) Z Z Tryz.func194 Z Z (zmg _) (Y1 Z) (cN) rN fun r6 n7=>Zm Z<|Zq (eqB Tryz.underlying4 Z Z)<|Zj Z (fun h8=>?_) (fun h8=>?_)
   ·refine gSR<|Zm Z<|Zb Z<|z0k<|z4p<|z8c<|z5n<|Ze [] [] Z
   ·refine z38<|z3l<|z1m (fun aa ww h=>Zu h [1])
  ·refine Zq (ext Z Z)<|Zn<|z0q<|zfk Z<|z1z<|z10<|z14<|z6x (fun aa ww h=>Zu h [])
 ·refine gSR<|Zb Z<|z0k<|Ze [] [] Z
def z4t (a0:List UInt8):Option (Int) :=
 z4u a0 true >>= fun r1 =>
 some r1
theorem zao (a0:List UInt8):z1u Tryz.prog 191 [.rd z3q a0,.val (.func (.func 194) #[] #[])] [] (z4t a0) (fun r nv=>⟨[.rd z08 r],[]⟩):=by
 refine z2f 8 Tryz.func191 Z Z Z fun H w=>?_;refine gSR<|Zb Z<|gSR<|Zm Z<|Zm Z<|Zc [] [] Tryz.func204 Z (zaj _ _) fun r1 n2=>Zb Z<|z0k<|Ze [] [] Z
def zgr (a0:List UInt8):Option (z02 × Int) :=
 if decide (30<(a0.length:Int)) then
  some ((⟨0,0,0,[]⟩:z02),4)
 else
  z4t a0 >>= fun r3 =>
  if decide (0≤r3) then
   some ((⟨0,0,0,[]⟩:z02),8)
  else
   some ((⟨3,0,0,a0⟩:z02),0)
theorem zob (a0:List UInt8):z1u Tryz.prog 162 [.rd z3q a0] [] (zgr a0) (fun r nv=>⟨[.rd z0d r.1,.rd z08 r.2],[]⟩):=by
 refine z2f 14 Tryz.func162 Z Z Z fun H w=>?_;refine gSR<|Eb Z (z5l 1 zad (.zr (R:=z0d) (x:=(⟨0,0,0,[]⟩:z02)) zjt)) fun v1=>Zb Z<|z0q<|gSR<|Zm Z<|Zq (zy8 Z Z tu9)<|Zq (I.gtr Z Z)<|Zj Z (fun h2=>?_) (fun h2=>?_)
 ·refine gSR<|Zq (bld (x':=(⟨0,0,0,[]⟩:z02)) [(0,1),(1,1),(2,1),(3,1)] Tryz.underlying46 zad Z zjt Z (Bld.done Z))<|Es (sto 1 Z Z fH Z zad)<|Zb Z<|z0k<|z0v<|zaz [] [] Z (eC 1 Z Z zh5<|eE Z<|eN) (rN)
 ·refine Zt<|z0q<|gSR<|Zm Z<|Zc [] [] Tryz.func191 Z (zao _) fun r3 n4=>Zq (I.geq Z Z)<|Zj Z (fun h5=>?_) (fun h5=>?_)
  ·refine gSR<|Zq (bld (x':=(⟨0,0,0,[]⟩:z02)) [(0,1),(1,1),(2,1),(3,1)] Tryz.underlying46 zad Z zjt Z (Bld.done Z))<|Es (sto 1 Z Z fH Z zad)<|Zb Z<|z0k<|z0v<|zaz [] [] Z (eC 1 Z Z zh5<|eE Z<|eN) (rN)
  ·refine Zt<|gSR<|Zm Z<|Zq (bld (x':=(⟨3,0,0,a0⟩:z02)) [(0,1),(1,1),(2,1),(3,1)] Tryz.underlying46 zad Z zjt Z (Bld.cons (z2m _) Z Z<|Bld.cons (z3o _) Z Z<|Bld.done Z))<|Es (sto 1 Z Z fH Z zad)<|Zb Z<|z0k<|zaz [] [] Z (eC 1 Z Z zh5<|eE Z<|eN) (rN)
def zbg (a0:z02):Option (Int) :=
 (if a0.Kind==1 then
  zgh a0.Num >>= fun r5 =>
  some r5
 else
  if a0.Kind==2 then
   zex a0.Bits >>= fun r8 =>
   some r8
  else
   if a0.Kind==3 then
    zgr a0.Text >>= fun r11 =>
    some r11.1
   else
    some (⟨0,0,0,[]⟩:z02)) >>= fun s3 =>
 if !decide (a0=s3) then
  some 8
 else
  if a0.Kind==0 then
   some 8
  else
   some 0
theorem ze2 (a0:z02):z1u Tryz.prog 102 [.rd z0d a0] [] (zbg a0) (fun r nv=>⟨[.rd z08 r],[]⟩):=by
 refine z2f 32 Tryz.func102 Z Z Z fun H w=>?_;refine gSR<|Eb Z (bx 1 Z) fun v1=>Zb Z<|gSR<|Eb Z (z5l 2 zad (.zr (R:=z0d) (x:=(⟨0,0,0,[]⟩:z02)) zjt)) fun v2=>Zn<|z7r (fun (s3:z02) aa ww=>Sta (ctx 32 H [] w) [(1,.val (z05 v1 0)),(3,.val (z05 v2 0))] [(1,some (v1,.box 46 [.rd z0d a0])),(2,some (v2,.box 46 [.rd z0d s3]))] aa ww) ?_ (fun s3=>?_)
 ·refine gSR<|Zq (faB 1 Z Z Tryz.underlying46 Z (by exact ti5))<|Zq (ld 1 Z Z (fP (z2m _)) ty5 Z)<|Zn<|z5f<|gSR<|Zq (B.eql Z Z)<|Zb Z<|gIf Z Z (fun h4=>?_) (fun h4=>?_)
  ·refine gKn 7 Z h4<|z2g<|Zq (faB 1 Z Z Tryz.underlying46 Z (by exact ti2))<|Zq (ld 1 Z Z (fP (z57 _)) ty2 Z)<|Zc [] [] Tryz.func160 Z (zmr _) fun r5 n6=>Es (sto 2 Z Z fH Z zad)<|z21<|z3l<|z3p (fun aa ww h=>Zu h [1,2])
  ·refine gKn 7 Z h4<|gSR<|Zq (B.eql Z Z)<|Zb Z<|gIf Z Z (fun h7=>?_) (fun h7=>?_)
   ·refine gKn 12 Z h7<|z2g<|Zq (faB 1 Z Z Tryz.underlying46 Z (by exact zp4))<|Zq (ld 1 Z Z (fP (z44 _)) znt Z)<|Zc [] [] Tryz.func161 Z (zn6 _) fun r8 n9=>Es (sto 2 Z Z fH Z zad)<|z21<|z3l<|z3p (fun aa ww h=>Zu h [1,2])
   ·refine gKn 12 Z h7<|gSR<|Zq (B.eql Z Z)<|Zb Z<|gIf Z Z (fun h10=>?_) (fun h10=>?_)
    ·refine gKn 17 Z h10<|z2g<|Zq (faB 1 Z Z Tryz.underlying46 Z (by exact ti9))<|Zq (ld 1 Z Z (fP (z3o _)) ty9 Z)<|Zc [] [] Tryz.func162 Z (zob _) fun r11 n12=>Zm Z<|Zq (ext Z Z)<|Zq (ext Z Z)<|Es (sto 2 Z Z fH Z zad)<|z21<|z3l<|z3p (fun aa ww h=>Zu h [1,2])
    ·refine gKn 17 Z h10<|z38<|z3l<|z3p (fun aa ww h=>Zu h [1,2])
 ·refine z0q<|gSR<|Zq (ld 1 Z Z fH zh5 Z)<|Zq (ld 2 Z Z fH zh5 Z)<|Zq (neA Z Z eq46 Z Z gq46)<|Zm Z<|z28 27 Z (fun h13=>?_) (fun h13=>?_)
  ·refine lKn 26 Z h13<|Zk Z<|Zk Z<|Zk Z<|Zq (pkT Z Z)<|Zn<|zdc Z<|gSR<|Zb Z<|z0k<|z0v<|Ze [] [] Z
  ·refine lKn 26 Z h13<|z1l Zx Z Z (faB 1 Z Z Tryz.underlying46 Z (by exact ti5))<|z1l Zx Z Z (ld 1 Z Z (fP (z2m _)) ty5 Z)<|z1l Zx Z Z (B.eql Z Z)<|Zq (pkF Z Z)<|Zj Z (fun h14=>?_) (fun h14=>?_)
   ·refine gKn 30 Z h14<|gSR<|Zb Z<|z0k<|z0v<|Ze [] [] Z
   ·refine gKn 30 Z h14<|Zt<|gSR<|Zb Z<|z0k<|Ze [] [] Z
def za6 (a0:z07):Option (Int) :=
 if a0.Kind==1 then
  some (decide (a0=(⟨1,[],(⟨0,0,0,[]⟩:z02)⟩:z07))) >>= fun y3 =>
  if !y3 then
   some 8
  else
   some 0
 else
  (if a0.Kind==2 then
   some true
  else
   some (a0.Kind==3)) >>= fun s5 =>
  if s5 then
   zrz a0.Key >>= fun r8 =>
   if r8 then
    some (decide (a0.Value=(⟨0,0,0,[]⟩:z02))) >>= fun y11 =>
    if !y11 then
     some 8
    else
     some 0
   else
    some 8
  else
   if a0.Kind==4 then
    zrz a0.Key >>= fun r14 =>
    if r14 then
     zbg a0.Value >>= fun r17 =>
     if !(r17==0) then
      some 8
     else
      some 0
    else
     some 8
   else
    some 8
theorem ze0 (a0:z07):z1u Tryz.prog 101 [.rd z0i a0] [] (za6 a0) (fun r nv=>⟨[.rd z08 r],[]⟩):=by
 refine z2f 36 Tryz.func101 Z Z Z fun H w=>?_;refine gSR<|Eb Z (bx 1 Z) fun v1=>Zb Z<|gSR<|Zb Z<|z0q<|gSR<|Zq (faB 1 Z Z Tryz.underlying52 Z (by exact ti5))<|Zq (ld 1 Z Z (fP (z15 _)) ty5 Z)<|Zn<|z5f<|gSR<|Zq (B.eql Z Z)<|Zb Z<|gIf Z Z (fun h2=>?_) (fun h2=>?_)
 ·refine gKn 7 Z h2<|z2g<|Zq (ld 1 Z Z fH ty52 Z)<|Zq (bld (x':=(⟨1,[],(⟨0,0,0,[]⟩:z02)⟩:z07)) [(0,1),(1,1),(2,4)] Tryz.underlying52 ze9 Z zla Z (Bld.cons (z15 _) Z Z<|Bld.done Z))<|Zq (eqA Z Z eq52 Z Z gq52)<|Za Z<|z27 3 Z fun y3=>z21<|z3l<|z0m<|z0q<|gSR<|Zm Z<|Zq (zgu Z)<|Zj Z (fun h4=>?_) (fun h4=>?_)
  ·refine gSR<|Zb Z<|z0k<|z0v<|Ze [] [] Z
  ·refine Zt<|gSR<|Zb Z<|z0k<|Ze [] [] Z
 ·refine gKn 7 Z h2<|z7r (fun (s5:Bool) aa ww=>Sta (ctx 36 H [] w) [(1,.val (z05 v1 0)),(3,.rd z09 false),(5,.rd u8R a0.Kind),(11,.rd z09 s5)] [(1,some (v1,.box 52 [.rd z0i a0]))] aa ww) ?_ (fun s5=>?_)
  ·refine gSR<|Zq (B.eql Z Z)<|Zb Z<|gIf Z Z (fun h6=>?_) (fun h6=>?_)
   ·refine gKn 12 Z h6<|z38<|z3p (fun aa ww h=>Zu h [1])
   ·refine gKn 12 Z h6<|z2g<|Zq (B.eql Z Z)<|Za Z<|z21<|z3p (fun aa ww h=>Zu h [1])
  ·refine gIf Z Z (fun h7=>?_) (fun h7=>?_)
   ·refine z2g<|Zq (faB 1 Z Z Tryz.underlying52 Z (by exact ti9))<|Zq (ld 1 Z Z (fP (z1i _)) ty9 Z)<|Zc [] [] Tryz.func159 Z (zr7 _) fun r8 n9=>Zm Z<|z28 17 Z (fun h10=>?_) (fun h10=>?_)
    ·refine lKn 16 Z h10<|z1l Zx Z Z (faB 1 Z Z Tryz.underlying52 Z (by exact zad))<|z1l Zx Z Z (ld 1 Z Z (fP (z33 _)) zh5 Z)<|z1l Zx Z Z (bld (x':=(⟨0,0,0,[]⟩:z02)) [(0,1),(1,1),(2,1),(3,1)] Tryz.underlying46 zad Z zjt Z (Bld.done Z))<|z1l Zx Z Z (eqA Z Z eq46 Z Z gq46)<|Zq (pkT Z Z)<|Za Z<|z27 3 Z fun y11=>z21<|z3l<|z0m<|z0q<|gSR<|Zm Z<|Zq (zgu Z)<|Zj Z (fun h12=>?_) (fun h12=>?_)
     ·refine gSR<|Zb Z<|z0k<|z0v<|Ze [] [] Z
     ·refine Zt<|gSR<|Zb Z<|z0k<|Ze [] [] Z
    ·refine lKn 16 Z h10<|Zk Z<|Zk Z<|Zk Z<|Zk Z<|Zq (pkF Z Z)<|Za Z<|z21<|z3l<|z0m<|z0q<|gSR<|Zm Z<|Zq (zgu Z)<|Zn<|zdc Z<|gSR<|Zb Z<|z0k<|z0v<|Ze [] [] Z
   ·refine gSR<|Zq (B.eql Z Z)<|Zb Z<|gIf Z Z (fun h13=>?_) (fun h13=>?_)
    ·refine gKn 24 Z h13<|z2g<|Zq (faB 1 Z Z Tryz.underlying52 Z (by exact ti9))<|Zq (ld 1 Z Z (fP (z1i _)) ty9 Z)<|Zc [] [] Tryz.func159 Z (zr7 _) fun r14 n15=>Zm Z<|z28 28 Z (fun h16=>?_) (fun h16=>?_)
     ·refine lKn 27 Z h16<|z1l Zx Z Z (faB 1 Z Z Tryz.underlying52 Z (by exact zad))<|z1l Zx Z Z (ld 1 Z Z (fP (z33 _)) zh5 Z)<|zfv [] [] Zx Z Tryz.func102 Z Z (ze2 _) (Y1 Z) rN fun r17 n18=>z1l Zx Z Z (I.eql Z Z)<|Zq (pkT Z Z)<|Za Z<|z21<|z3l<|z0m<|z0q<|gSR<|Zm Z<|Zq (zgu Z)<|Zj Z (fun h19=>?_) (fun h19=>?_)
      ·refine gSR<|Zb Z<|z0k<|z0v<|Ze [] [] Z
      ·refine Zt<|gSR<|Zb Z<|z0k<|Ze [] [] Z
     ·refine lKn 27 Z h16<|Zk Z<|Zk Z<|Zk Z<|Zk Z<|Zq (pkF Z Z)<|Za Z<|z21<|z3l<|z0m<|z0q<|gSR<|Zm Z<|Zq (zgu Z)<|Zn<|zdc Z<|gSR<|Zb Z<|z0k<|z0v<|Ze [] [] Z
    ·refine gKn 24 Z h13<|z38<|z3l<|z0m<|z0q<|gSR<|Zm Z<|Zq (zgu Z)<|Zn<|zdc Z<|gSR<|Zb Z<|z0k<|z0v<|Ze [] [] Z
def z0x (a0:List V3) (s3:Int):Option (Sum (Sum Bool Unit) Int) :=
 if decide (0<s3) then
  idx a0 s3 >>= fun x5 =>
  idx a0 (w64 (s3 - 1)) >>= fun x7 =>
  z87 x5 x7 >>= fun r9 =>
  if decide (r9<0) then
   some (.inl (.inl false))
  else
   some (.inr (w64 (s3 - 1)))
 else
  some (.inl (.inr ()))
def z1d (a0:List V3):Option (Bool) :=
 z67 (some (w64 ((a0.length:Int) - 1)) >>= fun y2 =>
 iter (z0x a0) y2) fun s1 =>
 some true
theorem z6r (a0:List V3):z1u Tryz.prog 149 [.rd (z03 aZ) a0,.val (.func (.func 51) #[] #[])] [] (z1d a0) (fun r nv=>⟨[.rd z09 r],[]⟩):=by
 refine z2f 25 Tryz.func149 Z Z Z fun H w=>?_;refine gSR<|Zb Z<|z8i (fun (s1:Unit) aa ww=>Sta (ctx 25 H [] w) [] [] aa ww) ?_ (fun s1=>?_)
 ·refine gSR<|Zm Z<|Zq (z4f Z .rd Z tu22)<|Zq (I.sub Z Z)<|Za Z<|z27 5 Z fun y2=>Zn<|z29 (fun (s3:Int) aa ww=>Sta (ctx 25 H [] w) [(0,.rd (z03 aZ) a0),(1,.val (.func (.func 51) #[] #[])),(5,.rd z08 s3)] [] aa ww) (fun aa ww h=>Zu h []) (fun s3=>?_);refine z0q<|gSR<|Zm Z<|Zq (I.gtr Z Z)<|Zj Z (fun h4=>?_) (fun h4=>?_)
  ·refine Zt<|z0q<|z5f<|z0q<|z6l [] mixed Z Z<|hTk 0 Z Z (mv Z)<|hTk 1 Z Z (mv Z)<|hTk 2 Z Z (mv Z)<|z5g fun x5 h6=>hTk 3 Z Z (ixR Z Z h6 tu22 z3v Z)<|hTk 4 Z Z (ldR Z z6a)<|hTk 5 Z Z (mv Z)<|hTk 6 Z Z (mv Z)<|hTk 7 Z Z (I.sub Z Z)<|z5g fun x7 h8=>hTk 8 Z Z (ixR Z Z h8 tu22 z3v Z)<|hTk 9 Z Z (ldR Z z6a)<|ztg 10 [] [] Z (by kernel_rfl) Z (gd0 Z) Z Tryz.func51 Z Z Z (z92 _ _) (Y2 Z Z) (cN) Z rN Z (fun _ _=>z1x) fun r9 n10=>hTk 11 Z Z (I.lss Z Z)<|z3e (by kernel_rfl)<|z0m<|gIf Z Z (fun h11=>?_) (fun h11=>?_)
   ·refine gSR<|Zb Z<|z0k<|z4p<|z0v<|z8c<|z5n<|Ze [] [] Z
   ·refine z38<|z3l<|z0m<|z2g<|Zm Z<|Zq (I.sub Z Z)<|Za Z<|z21<|z1m (fun aa ww h=>Zu h [])
  ·refine z1z<|z10<|z14<|z6x (fun aa ww h=>Zu h [])
 ·refine gSR<|Zb Z<|z0k<|Ze [] [] Z
def z2o (c0:List V3) (s3:Int) (s13:(List V3) × Int × Int):Option (Sum ((List V3) × Int) ((List V3) × Int × Int)) :=
 if decide (s13.2.2<((((c0.length:Int):Int).toNat - (s3:Int).toNat:Nat):Int)) then
  subi ((s3:Int).toNat) (((c0.length:Int):Int).toNat - (s3:Int).toNat) s13.2.2 >>= fun q15 =>
  idx s13.1 (q15:Int) >>= fun x17 =>
  subi ((s3:Int).toNat) (((c0.length:Int):Int).toNat - (s3:Int).toNat) (w64 (s13.2.2 - 1)) >>= fun q19 =>
  idx s13.1 (q19:Int) >>= fun x21 =>
  if !decide (x17=x21) then
   subi ((s3:Int).toNat) (((c0.length:Int):Int).toNat - (s3:Int).toNat) s13.2.2 >>= fun q24 =>
   idx s13.1 (q24:Int) >>= fun x26 =>
   idx s13.1 s13.2.1 >>= fun x28 =>
   some (w64 (s13.2.1+1)) >>= fun y30 =>
   some (w64 (s13.2.2+1)) >>= fun y31 =>
   some (.inr (s13.1.set (s13.2.1:Int).toNat x26,y30,y31))
  else
   some (w64 (s13.2.2+1)) >>= fun y32 =>
   some (.inr (s13.1,s13.2.1,y32))
 else
  some (.inl (s13.1,s13.2.1))
def z1j (c0:List V3) (s3:Int):Option (Sum (Sum ((List V3)) Unit) Int) :=
 if decide (s3<(c0.length:Int)) then
  idx c0 s3 >>= fun x5 =>
  idx c0 (w64 (s3 - 1)) >>= fun x7 =>
  if decide (x5=x7) then
   chk (0≤s3∧s3≤(c0.length:Int)∧(c0.length:Int)≤(c0.length:Int)) >>= fun u10 =>
   (iter (z2o c0 s3) (c0,s3,1)) >>= fun s12 =>
   chk (0≤s12.2∧s12.2≤(s12.1.length:Int)∧(s12.1.length:Int)≤(s12.1.length:Int)) >>= fun u33 =>
   chk ((s12.2:Int).toNat+(((s12.1.length:Int):Int).toNat - (s12.2:Int).toNat)≤s12.1.length) >>= fun u35 =>
   cut (clr s12.1 ((s12.2:Int).toNat) (((s12.1.length:Int):Int).toNat - (s12.2:Int).toNat) (Vector.replicate 32 0)) 0 s12.2 >>= fun x37 =>
   some (.inl (.inl x37))
  else
   some (.inr (w64 (s3+1)))
 else
  some (.inl (.inr ()))
def z3d (c0:List V3):Option ((List V3)) :=
 if decide ((c0.length:Int)<2) then
  some c0
 else
  z67 (iter (z1j c0) 1) fun s2 =>
  some c0
theorem zb8 (p0:Value) (c0:List V3):z1u Tryz.prog 150 [.val p0] [(1,some (p0,.list aZ 54 c0))] (z3d c0) (fun r nv=>⟨[.val (nv 0)],[(100,some (nv 0,.list aZ 54 r))]⟩):=by
 refine z2f 61 Tryz.func150 Z Z Z fun H w=>?_;refine gSR<|Zb Z<|z0q<|gSR<|Zm Z<|Zq (z4f Z (.own 1 Z) Z tu22)<|Zq (I.lss Z Z)<|Zj Z (fun h1=>?_) (fun h1=>?_)
 ·refine gSR<|Zm Z<|Zb Z<|z0k<|z0v<|Ze [p0] [1] Z
 ·refine Zt<|z8i (fun (s2:Unit) aa ww=>Sta (ctx 61 H [(1,some (p0,.list aZ 54 c0))] w) [(0,.val p0)] [(1,some (p0,.list aZ 54 c0))] aa ww) ?_ (fun s2=>?_)
  ·refine gSR<|Zb Z<|z29 (fun (s3:Int) aa ww=>Sta (ctx 61 H [(1,some (p0,.list aZ 54 c0))] w) [(0,.val p0),(3,.rd z08 s3)] [(1,some (p0,.list aZ 54 c0))] aa ww) (fun aa ww h=>Zu h [1]) (fun s3=>?_);refine z0q<|gSR<|Zm Z<|Zm Z<|Zq (z4f Z (.own 1 Z) Z tu22)<|Zq (I.lss Z Z)<|Zj Z (fun h4=>?_) (fun h4=>?_)
   ·refine Zt<|z0q<|z5f<|z0q<|zhp mixed (by kernel_rfl)<|Rq Z (mv Z)<|Rq Z (mv Z)<|z6z fun x5 h6=>Rq Z (ixO 1 Z Z Z h6 tu22 z3v)<|Rq Z (ld 1 Z Z (Foc.el h6) z6a Z)<|Rq Z (mv Z)<|Rq Z (mv Z)<|Rq Z (I.sub Z Z)<|z6z fun x7 h8=>Rq Z (ixO 1 Z Z Z h8 tu22 z3v)<|Rq Z (ld 1 Z Z (Foc.el h8) z6a Z)<|Rq Z (eqA Z Z eq54 Z Z gq54)<|zng<|z0m<|gIf Z Z (fun h9=>?_) (fun h9=>?_)
    ·refine gSR<|Zm Z<|Zm Z<|z0t fun u10 h11=>Zq (z12y 1 Z Z (.to Z) .no (z5h h11) tu22 z3v)<|Zb Z<|z7r (fun (s12:(List V3) × Int) aa ww=>Sta (ctx 61 H [(1,some (p0,.list aZ 54 c0))] w) [(0,.val p0),(3,.rd z08 s12.2)] [(1,some (p0,.list aZ 54 s12.1))] aa ww) ?_ (fun s12=>?_)
     ·refine gSR<|Zb Z<|z29 (fun (s13:(List V3) × Int × Int) aa ww=>Sta (ctx 61 H [(1,some (p0,.list aZ 54 c0))] w) [(0,.val p0),(3,.rd z08 s13.2.1),(4,.sub aZ.sz p0 ((s3:Int).toNat) (((c0.length:Int):Int).toNat - (s3:Int).toNat)),(5,.rd z08 s13.2.2)] [(1,some (p0,.list aZ 54 s13.1))] aa ww) (fun aa ww h=>Zu h [1]) (fun s13=>?_);refine z0q<|gSR<|Zm Z<|Zm Z<|Zq (z175 Z Z tu22)<|Zq (I.lss Z Z)<|Zj Z (fun h14=>?_) (fun h14=>?_)
      ·refine Zt<|z0q<|z5f<|z0q<|zhp mixed (by kernel_rfl)<|Rq Z (mv Z)<|Rq Z (mv Z)<|z6z fun q15 h16=>z6z fun x17 h18=>Rq Z (ixSu 1 Z Z Z h16 tu22 z3v)<|Rq Z (ld 1 Z Z (Foc.el h18) z6a Z)<|Rq Z (mv Z)<|Rq Z (mv Z)<|Rq Z (I.sub Z Z)<|z6z fun q19 h20=>z6z fun x21 h22=>Rq Z (ixSu 1 Z Z Z h20 tu22 z3v)<|Rq Z (ld 1 Z Z (Foc.el h22) z6a Z)<|Rq Z (neA Z Z eq54 Z Z gq54)<|zng<|z0m<|gIf Z Z (fun h23=>?_) (fun h23=>?_)
       ·refine gSR<|Zm Z<|Zm Z<|Zm Z<|Zm Z<|z0t fun q24 h25=>z0t fun x26 h27=>Zq (ixSu 1 Z Z Z h25 tu22 z3v)<|Zq (ld 1 Z Z (Foc.el h27) z6a Z)<|z0t fun x28 h29=>Zq (ixO 1 Z Z Z h29 tu22 z3v)<|Es (sto 1 Z Z (Foc.el h29) Z z3v)<|Zn<|z2g<|Zm Z<|Zq (I.add Z Z)<|Za Z<|z27 3 Z fun y30=>z21<|z3l<|z0m<|z2g<|Zm Z<|Zq (I.add Z Z)<|Za Z<|z27 5 Z fun y31=>z21<|z1m (fun aa ww h=>Zu h [1])
       ·refine z38<|z3l<|z0m<|z2g<|Zm Z<|Zq (I.add Z Z)<|Za Z<|z27 5 Z fun y32=>z21<|z1m (fun aa ww h=>Zu h [1])
      ·refine z1z<|z10<|z14<|z3p (fun aa ww h=>Zu h [1])
     ·refine gSR<|Zm Z<|Zm Z<|z0t fun u33 h34=>Zq (z12y 1 Z Z (.to Z) .no (z5h h34) tu22 z3v)<|z0t fun u35 h36=>EsV (clrS 1 Z Z (z5h h36) Z tu22 z3v zfn Z)<|Zn<|gSR<|Zm Z<|Zm Z<|z0t fun x37 h38=>Ef Z (cutO 1 Z Z Z h38 tu22 z3v) fun v39=>Zb Z<|z0k<|z4p<|z0v<|z8c<|z5n<|Ze [v39] [1] Z
    ·refine z38<|z3l<|z0m<|z2g<|Zm Z<|Zq (I.add Z Z)<|Za Z<|z21<|z1m (fun aa ww h=>Zu h [1])
   ·refine z1z<|z10<|z14<|z6x (fun aa ww h=>Zu h [1])
  ·refine gSR<|Zm Z<|Zb Z<|z0k<|Ze [p0] [1] Z
def zfc (a0:z0a):Option (Int) :=
 some (decide (4<(a0.Preds.length:Int))) >>= fun y2 =>
 if y2 then
  some 4
 else
  (z1d a0.Preds >>= fun r5 =>
  if !r5 then
   some true
  else
   z18 a0.Preds >>= fun r8 =>
   z3d r8 >>= fun r10 =>
   some ((r10.length:Int) != (a0.Preds.length:Int)) >>= fun y12 =>
   some y12) >>= fun s4 =>
  if s4 then
   some 32
  else
   (zgq a0.Author >>= fun r15 =>
   if !r15 then
    some true
   else
    if decide (1000000000000<a0.Stamp) then
     some true
    else
     some (decide (500000003≤(max a0.Sig.E a0.Sig.S))) >>= fun y19 =>
     some y19) >>= fun s14 =>
   if s14 then
    some 8
   else
    za6 a0.Act >>= fun r21 =>
    some r21
theorem zi9 (a0:z0a):z1u Tryz.prog 88 [.rd z04 a0] [] (zfc a0) (fun r nv=>⟨[.rd z08 r],[]⟩):=by
 refine z2f 47 Tryz.func88 Z Z Z fun H w=>?_;refine gSR<|Eb Z (bx 1 Z) fun v1=>Zb Z<|z0q<|z5f<|gSR<|Zq (faB 1 Z Z Tryz.underlying67 Z (by exact zb4))<|Zq (ld 1 Z Z (fP (z1b _)) zbp Z)<|Zq (z4f Z .rd Z tu22)<|Zq (I.gtr Z Z)<|Za Z<|z27 3 Z fun y2=>Zj Z (fun h3=>?_) (fun h3=>?_)
 ·refine gSR<|Zb Z<|z0k<|z4p<|z0v<|Ze [] [] Z
 ·refine z7r (fun (s4:Bool) aa ww=>Sta (ctx 47 H [] w) [(1,.val (z05 v1 0)),(8,.rd z09 s4)] [(1,some (v1,.box 67 [.rd z04 a0]))] aa ww) ?_ (fun s4=>?_)
  ·refine z6l [23,26] mixed Z Z<|hTk 0 Z Z (faB 1 Z Z Tryz.underlying67 Z (by exact zb4))<|hTk 1 Z Z (ld 1 Z Z (fP (z1b _)) zbp Z)<|z2v 2 [] [] Z (by kernel_rfl) Z (gd0 Z) Z Tryz.func149 Z Z (z6r _) (Y2 Z Z) rN Z (fun _ _=>z9l) fun r5 n6=>hTk 3 Z Z (zgu Z)<|hTk 4 Z Z (mv Z)<|hIf 13 Z Z (fun h7=>?_) (fun h7=>?_)
   ·refine hKn 12 Z Z h7<|hSk 5 Z Z<|hSk 6 Z Z<|hSk 7 Z Z<|hSk 8 Z Z<|hSk 9 Z Z<|hSk 10 Z Z<|hSk 11 Z Z<|hSk 12 Z Z<|hSk 13 Z Z<|hTk 14 Z Z (pkT Z Z)<|hTk 15 Z Z (asg Z)<|z3e (by kernel_rfl)<|z3p (fun aa ww h=>Zu h [1])
   ·refine hKn 12 Z Z h7<|Zg 5 Z Z (faB 1 Z Z Tryz.underlying67 Z (by exact zb4))<|Zg 6 Z Z (ld 1 Z Z (fP (z1b _)) zbp Z)<|Zg 10 Z Z (faB 1 Z Z Tryz.underlying67 Z (by exact zb4))<|Zg 11 Z Z (ld 1 Z Z (fP (z1b _)) zbp Z)<|Zg 12 Z Z (z4f Z .rd Z tu22)<|z2v 7 [] [(100,23)] Z (by kernel_rfl) Z Zx Z Tryz.func60 Z Z (z3w _) (Y1 Z) rN Z (fun _ _=>z37) fun r8 n9=>z2v 8 [23] [(100,26)] Z (by kernel_rfl) Z Zx Z Tryz.func150 Z Z (zb8 _ _) (Y1 Z) (Y0 Z) Z (fun _ _=>z37) fun r10 n11=>z10i 9 Z (by kernel_rfl) (by kernel_rfl) (by kernel_rfl) Zx Z Z z1x (z4f Z (.own 26 Z) Z tu22)<|Zg 13 Z Z (I.neq Z Z)<|hTk 14 Z Z (pkF Z Z)<|hTk 15 Z Z (asg Z)<|zvq 8 Z Z fun y12=>z3e (by kernel_rfl)<|z3p (fun aa ww h=>Zu h [1])
  ·refine gIf Z Z (fun h13=>?_) (fun h13=>?_)
   ·refine gSR<|Zb Z<|z0k<|z4p<|z0v<|Ze [] [] Z
   ·refine z7r (fun (s14:Bool) aa ww=>Sta (ctx 47 H [] w) [(1,.val (z05 v1 0)),(24,.rd z09 s14)] [(1,some (v1,.box 67 [.rd z04 a0]))] aa ww) ?_ (fun s14=>?_)
    ·refine z2g<|Zq (faB 1 Z Z Tryz.underlying67 Z (by exact z60))<|Zq (ld 1 Z Z (fP (z56 _)) z9i Z)<|Zc [] [] Tryz.func151 Z (zid _) fun r15 n16=>Zq (zgu Z)<|Zm Z<|z28 29 Z (fun h17=>?_) (fun h17=>?_)
     ·refine lKn 28 Z h17<|Zk Z<|Zk Z<|Zk Z<|Zq (pkT Z Z)<|Zm Z<|Zk Z<|Zk Z<|Zk Z<|Zk Z<|Zk Z<|Zk Z<|Zk Z<|Zk Z<|Zq (pkT Z Z)<|Za Z<|z21<|z3p (fun aa ww h=>Zu h [1])
     ·refine lKn 28 Z h17<|z1l Zx Z Z (faB 1 Z Z Tryz.underlying67 Z (by exact zp4))<|z1l Zx Z Z (ld 1 Z Z (fP (z3u _)) znt Z)<|z1l Zx Z Z (U.gtr Z Z)<|Zq (pkF Z Z)<|Zm Z<|z28 34 Z (fun h18=>?_) (fun h18=>?_)
      ·refine lKn 32 Z h18<|lKn 33 Z h18<|Zk Z<|Zk Z<|Zk Z<|Zk Z<|Zk Z<|Zk Z<|Zk Z<|Zk Z<|Zq (pkT Z Z)<|Za Z<|z21<|z3p (fun aa ww h=>Zu h [1])
      ·refine lKn 32 Z h18<|lKn 33 Z h18<|z1l Zx Z Z (faB 1 Z Z Tryz.underlying67 Z (by exact znj))<|z1l Zx Z Z (faB 1 Z Z Tryz.underlying65 Z (by exact z60))<|z1l Zx Z Z (ld 1 Z Z ((fP (z3z _)).part (z4v _)) z9i Z)<|z1l Zx Z Z (faB 1 Z Z Tryz.underlying67 Z (by exact znj))<|z1l Zx Z Z (faB 1 Z Z Tryz.underlying65 Z (by exact z60))<|z1l Zx Z Z (ld 1 Z Z ((fP (z3z _)).part (z6c _)) z9i Z)<|z1l Zx Z Z (W.max Z Z)<|z1l Zx Z Z (W.geq Z Z)<|Zq (pkF Z Z)<|Za Z<|z27 24 Z fun y19=>z21<|z3p (fun aa ww h=>Zu h [1])
    ·refine gIf Z Z (fun h20=>?_) (fun h20=>?_)
     ·refine gSR<|Zb Z<|z0k<|z4p<|z0v<|Ze [] [] Z
     ·refine z38<|z3l<|z0m<|gSR<|Zq (faB 1 Z Z Tryz.underlying67 Z (by exact ze9))<|Zq (ld 1 Z Z (fP (z0w _)) ty52 Z)<|Zc [] [] Tryz.func101 Z (ze0 _) fun r21 n22=>Zb Z<|z0k<|Ze [] [] Z
def zcc (a0:V3) (c1_0:Int) (c2_0:List V3):Option (Bool × Int) :=
 if decide ((w64 (c1_0+1))<(c2_0.length:Int)) then
  idx c2_0 (w64 ((w64 (c1_0+1)) - 1)) >>= fun x3 =>
  idx c2_0 (w64 (c1_0+1)) >>= fun x5 =>
  z87 x3 x5 >>= fun r7 =>
  some (decide (0≤r7)) >>= fun y9 =>
  some (y9,w64 (c1_0+1))
 else
  some (false,w64 (c1_0+1))
theorem zl1 (a0:V3) (p1_0:Value) (c1_0:Int) (p2_0:Value) (c2_0:List V3):z1u Tryz.prog 196 [.rd aZ a0,.val (z05 p1_0 0),.val (z05 p2_0 0)] [(1,some (p1_0,.box 3 [.rd z08 c1_0])),(2,some (p2_0,.box 22 [.rd (z03 aZ) c2_0]))] (zcc a0 c1_0 c2_0) (fun r nv=>⟨[.rd z09 r.1],[(1,some (p1_0,.box 3 [.rd z08 r.2])),(2,some (p2_0,.box 22 [.rd (z03 aZ) c2_0]))]⟩):=by
 refine z2f 24 Tryz.func196 Z Z Z fun H w=>?_;refine gSR<|Eb Z (bx 3 Z) fun v1=>Zb Z<|gSR<|Zq (ld 1 Z Z fH ty3 Z)<|Zq (I.add Z Z)<|Es (sto 1 Z Z fH Z ti3)<|Zn<|z0q<|z6l [] mixed Z Z<|hTk 0 Z Z (ld 1 Z Z fH ty3 Z)<|hTk 1 Z Z (ld 2 Z Z fH zbp Z)<|hTk 2 Z Z (z4f Z .rd Z tu22)<|hTk 3 Z Z (I.lss Z Z)<|hTk 4 Z Z (mv Z)<|hIf 11 Z Z (fun h2=>?_) (fun h2=>?_)
 ·refine hKn 10 Z Z h2<|Zg 5 Z Z (ld 2 Z Z fH zbp Z)<|Zg 6 Z Z (ld 1 Z Z fH ty3 Z)<|Zg 7 Z Z (I.sub Z Z)<|z5g fun x3 h4=>Zg 8 Z Z (ixR Z Z h4 tu22 z3v Z)<|Zg 9 Z Z (ldR Z z6a)<|Zg 10 Z Z (ld 2 Z Z fH zbp Z)<|Zg 11 Z Z (ld 1 Z Z fH ty3 Z)<|z5g fun x5 h6=>Zg 12 Z Z (ixR Z Z h6 tu22 z3v Z)<|Zg 13 Z Z (ldR Z z6a)<|z2v 14 [] [] Z (by kernel_rfl) Z Zx Z Tryz.func51 Z Z (z92 _ _) (Y2 Z Z) rN Z (fun _ _=>z1x) fun r7 n8=>Zg 15 Z Z (I.geq Z Z)<|hTk 16 Z Z (pkT Z Z)<|hTk 17 Z Z (asg Z)<|zvq 4 Z Z fun y9=>z3e (by kernel_rfl)<|z0m<|z0k<|Ze [] [1,2] Z
 ·refine hKn 10 Z Z h2<|hSk 5 Z Z<|hSk 6 Z Z<|hSk 7 Z Z<|hSk 8 Z Z<|hSk 9 Z Z<|hSk 10 Z Z<|hSk 11 Z Z<|hSk 12 Z Z<|hSk 13 Z Z<|hSk 14 Z Z<|hSk 15 Z Z<|hTk 16 Z Z (pkF Z Z)<|hTk 17 Z Z (asg Z)<|z3e (by kernel_rfl)<|z0m<|z0k<|Ze [] [1,2] Z
def z0o (a0:List V3) (c1_1:List V3) (s2:Int × Int):Option (Sum (Sum (Int × Int) Int) (Int × Int)) :=
 if decide (s2.2<(a0.length:Int)) then
  idx a0 s2.2 >>= fun x4 =>
  zcc x4 s2.1 c1_1 >>= fun r6 =>
  if r6.1 then
   some (.inl (.inl (s2.2,r6.2)))
  else
   some (.inr (r6.2,w64 (s2.2+1)))
 else
  some (.inl (.inr s2.1))
def z2w (a0:List V3) (c1_0:Int) (c1_1:List V3):Option (Int × Int) :=
 z67 (iter (z0o a0 c1_1) (c1_0,0)) fun s1 =>
 some ((-1),s1)
theorem z6u (a0:List V3) (p1_0:Value) (c1_0:Int) (p1_1:Value) (c1_1:List V3):z1u Tryz.prog 120 [.rd (z03 aZ) a0,.val (.func (.func 196) #[] #[z05 p1_0 0,z05 p1_1 0])] [(1,some (p1_0,.box 3 [.rd z08 c1_0])),(2,some (p1_1,.box 22 [.rd (z03 aZ) c1_1]))] (z2w a0 c1_0 c1_1) (fun r nv=>⟨[.rd z08 r.1],[(1,some (p1_0,.box 3 [.rd z08 r.2])),(2,some (p1_1,.box 22 [.rd (z03 aZ) c1_1]))]⟩):=by
 refine z2f 19 Tryz.func120 Z Z Z fun H w=>?_;refine gSR<|Zb Z<|z8i (fun (s1:Int) aa ww=>Sta (ctx 19 H [(1,some (p1_0,.box 3 [.rd z08 c1_0])),(2,some (p1_1,.box 22 [.rd (z03 aZ) c1_1]))] w) [] [(1,some (p1_0,.box 3 [.rd z08 s1])),(2,some (p1_1,.box 22 [.rd (z03 aZ) c1_1]))] aa ww) ?_ (fun s1=>?_)
 ·refine gSR<|Zm Z<|Zq (z4f Z .rd Z tu22)<|Zm Z<|Zn<|z29 (fun (s2:Int × Int) aa ww=>Sta (ctx 19 H [(1,some (p1_0,.box 3 [.rd z08 c1_0])),(2,some (p1_1,.box 22 [.rd (z03 aZ) c1_1]))] w) [(0,.rd (z03 aZ) a0),(1,.val (.func (.func 196) #[] #[z05 p1_0 0,z05 p1_1 0])),(7,.rd z08 (a0.length:Int)),(8,.rd z08 s2.2)] [(1,some (p1_0,.box 3 [.rd z08 s2.1])),(2,some (p1_1,.box 22 [.rd (z03 aZ) c1_1]))] aa ww) (fun aa ww h=>Zu h [1,2]) (fun s2=>?_)
  refine gSR<|Zq (I.lss Z Z)<|Zn<|z0q<|gIf Z Z (fun h3=>?_) (fun h3=>?_)
  ·refine Zt<|z0q<|z5f<|gSR<|Zm Z<|Zb Z<|gSR<|Zm Z<|Zm Z<|Zm Z<|z0t fun x4 h5=>Zq (ixR Z Z h5 tu22 z3v Z)<|Zq (ldR Z z6a)<|zk9 [1,2] [(1,1),(2,2)] (gd0 Z) Z Z Tryz.func196 Z Z (zl1 _ _ _ _ _) (Y1 Z) (cQ 1 Z<|cQ 2 Z<|cN) (Zi Z<|Zi Z<|rN) fun r6 n7=>Zj Z (fun h8=>?_) (fun h8=>?_)
   ·refine gSR<|Zm Z<|Zb Z<|z0k<|z4p<|z0v<|z8c<|z5n<|Ze [] [1,2] Z
   ·refine z38<|z3l<|z0m<|z2g<|Zq (I.add Z Z)<|Zm Z<|z21<|z1m (fun aa ww h=>Zu h [1,2])
  ·refine z1z<|z10<|z14<|z6x (fun aa ww h=>Zu h [1,2])
 ·refine gSR<|Zb Z<|z0k<|Ze [] [1,2] Z
def z2e (a0:List V3) (c1_0:Int) (c1_1:List V3):Option (Bool × Int) :=
 z2w a0 c1_0 c1_1 >>= fun r1 =>
 some (decide (0≤r1.1)) >>= fun y3 =>
 some (y3,r1.2)
theorem z5z (a0:List V3) (p1_0:Value) (c1_0:Int) (p1_1:Value) (c1_1:List V3):z1u Tryz.prog 64 [.rd (z03 aZ) a0,.val (.func (.func 196) #[] #[z05 p1_0 0,z05 p1_1 0])] [(1,some (p1_0,.box 3 [.rd z08 c1_0])),(2,some (p1_1,.box 22 [.rd (z03 aZ) c1_1]))] (z2e a0 c1_0 c1_1) (fun r nv=>⟨[.rd z09 r.1],[(1,some (p1_0,.box 3 [.rd z08 r.2])),(2,some (p1_1,.box 22 [.rd (z03 aZ) c1_1]))]⟩):=by
 refine z2f 9 Tryz.func64 Z Z Z fun H w=>?_;refine gSR<|Zb Z<|gSR<|Zm Z<|Zm Z<|Zc [1,2] [(1,1),(2,2)] Tryz.func120 Z (z6u _ _ _ _ _) fun r1 n2=>Zq (I.geq Z Z)<|Za Z<|z27 4 Z fun y3=>Zn<|z0k<|Ze [] [1,2] Z
def zez (a0:List V3):Option (Bool) :=
 z2e a0 0 a0 >>= fun r3 =>
 some (!r3.1)
theorem zn8 (a0:List V3):z1u Tryz.prog 164 [.rd (z03 aZ) a0] [] (zez a0) (fun r nv=>⟨[.rd z09 r],[]⟩):=by
 refine z2f 8 Tryz.func164 Z Z Z fun H w=>?_;refine gSR<|Eb Z (bx 1 Z) fun v1=>Zb Z<|gSR<|Eb Z (z5l 2 ti3 (.zr (R:=z08) (x:=0) (Zr.num Z))) fun v2=>Es (sto 2 Z Z fH Z ti3)<|Zn<|gSR<|Zq (ld 1 Z Z fH zbp Z)<|Zq (mkf mp0 (mp2 Z Z))<|Zc [2,1] [(1,2),(2,1)] Tryz.func64 Z (z5z _ _ _ _ _) fun r3 n4=>Zq (zgu Z)<|Zb Z<|z0k<|Ze [] [] Z
def zar (a0:UInt64):Option (Int) :=
 (if decide (4294967296≤a0) then
  some (z71 a0 32,32)
 else
  some (a0,0)) >>= fun s1 =>
 (if decide (65536≤s1.1) then
  some (z71 s1.1 16) >>= fun y5 =>
  some (w64 (s1.2+16)) >>= fun y6 =>
  some (y5,y6)
 else
  some (s1.1,s1.2)) >>= fun s3 =>
 (if decide (256≤s3.1) then
  some (w64 (s3.2+8)) >>= fun y9 =>
  some (z71 s3.1 8,y9)
 else
  some (s3.1,s3.2)) >>= fun s7 =>
 idx ([0,1,2,2,3,3,3,3,4,4,4,4,4,4,4,4,5,5,5,5,5,5,5,5,5,5,5,5,5,5,5,5,6,6,6,6,6,6,6,6,6,6,6,6,6,6,6,6,6,6,6,6,6,6,6,6,6,6,6,6,6,6,6,6,7,7,7,7,7,7,7,7,7,7,7,7,7,7,7,7,7,7,7,7,7,7,7,7,7,7,7,7,7,7,7,7,7,7,7,7,7,7,7,7,7,7,7,7,7,7,7,7,7,7,7,7,7,7,7,7,7,7,7,7,7,7,7,7,8,8,8,8,8,8,8,8,8,8,8,8,8,8,8,8,8,8,8,8,8,8,8,8,8,8,8,8,8,8,8,8,8,8,8,8,8,8,8,8,8,8,8,8,8,8,8,8,8,8,8,8,8,8,8,8,8,8,8,8,8,8,8,8,8,8,8,8,8,8,8,8,8,8,8,8,8,8,8,8,8,8,8,8,8,8,8,8,8,8,8,8,8,8,8,8,8,8,8,8,8,8,8,8,8,8,8,8,8,8,8,8,8,8,8,8,8,8,8,8,8,8,8,8,8,8,8,8]:List UInt8) (s7.1.toUInt8.toNat:Int) >>= fun x10 =>
 some (w64 (s7.2+(x10.toNat:Int))) >>= fun y12 =>
 some y12
theorem ziz (a0:UInt64):z1u Tryz.prog 100 [.rd z2x a0] [] (zar a0) (fun r nv=>⟨[.rd z08 r],[]⟩):=by
 refine z2f 25 Tryz.func100 Z Z Z fun H w=>?_;refine gSR<|Zb Z<|z7r (fun (s1:UInt64 × Int) aa ww=>Sta (ctx 25 H [] w) [(0,.rd z2x s1.1),(2,.rd z08 s1.2)] [] aa ww) ?_ (fun s1=>?_)
 ·refine gSR<|Zm Z<|Zq (U.geq Z Z)<|Zj Z (fun h2=>?_) (fun h2=>?_)
  ·refine gSR<|Zm Z<|Zq (U.shr Z Z (Int.natCast_nonneg _))<|Zb Z<|z2g<|Za Z<|z21<|z3p (fun aa ww h=>Zu h [])
  ·refine z38<|z3p (fun aa ww h=>Zu h [])
 ·refine z7r (fun (s3:UInt64 × Int) aa ww=>Sta (ctx 25 H [] w) [(0,.rd z2x s3.1),(2,.rd z08 s3.2)] [] aa ww) ?_ (fun s3=>?_)
  ·refine gSR<|Zm Z<|Zq (U.geq Z Z)<|Zj Z (fun h4=>?_) (fun h4=>?_)
   ·refine gSR<|Zm Z<|Zq (U.shr Z Z (Int.natCast_nonneg _))<|Za Z<|z27 0 Z fun y5=>Zn<|z2g<|Zm Z<|Zq (I.add Z Z)<|Za Z<|z27 2 Z fun y6=>z21<|z3p (fun aa ww h=>Zu h [])
   ·refine z38<|z3p (fun aa ww h=>Zu h [])
  ·refine z7r (fun (s7:UInt64 × Int) aa ww=>Sta (ctx 25 H [] w) [(0,.rd z2x s7.1),(2,.rd z08 s7.2)] [] aa ww) ?_ (fun s7=>?_)
   ·refine gSR<|Zm Z<|Zq (U.geq Z Z)<|Zj Z (fun h8=>?_) (fun h8=>?_)
    ·refine gSR<|Zm Z<|Zq (U.shr Z Z (Int.natCast_nonneg _))<|Zb Z<|z2g<|Zm Z<|Zq (I.add Z Z)<|Za Z<|z27 2 Z fun y9=>z21<|z3p (fun aa ww h=>Zu h [])
    ·refine z38<|z3p (fun aa ww h=>Zu h [])
   ·refine gSR<|Zm Z<|Zm Z<|Zq (U.toB Z tu44 tu5)<|z0t fun x10 h11=>Zq (idxT Z Z tu9 (z5x h11).1 (z5x h11).2.1)<|Zq (B.toI Z tu5 tu3)<|Zq (I.add Z Z)<|Za Z<|z27 2 Z fun y12=>Zn<|z0k<|Ze [] [] Z
def zbi (a0:UInt64) (y5:Int) (s12:(List UInt8) × Int):Option (Sum ((List UInt8)) ((List UInt8) × Int)) :=
 if decide (s12.2<y5) then
  chk (0≤w64 (8 * s12.2)) >>= fun u14 =>
  idx s12.1 (w64 (y5 - s12.2)) >>= fun x16 =>
  some (.inr (s12.1.set (w64 (y5 - s12.2):Int).toNat ((z71 a0 ((w64 (8 * s12.2):Int).toNat)).toUInt8),w64 (s12.2+1)))
 else
  some (.inl s12.1)
def z6v (a0:UInt64):Option ((List UInt8)) :=
 if decide (a0≤247) then
  some [a0.toUInt8]
 else
  zar a0 >>= fun r3 =>
  some (w64 (Int.tdiv (w64 (r3+7)) 8)) >>= fun y5 =>
  mkn 1 0 (w64 (y5+1)) >>= fun x6 =>
  idx x6 0 >>= fun x9 =>
  (iter (zbi a0 y5) (x6.set (0:Int).toNat (UInt8.ofInt (w64 (247+y5))),0)) >>= fun s11 =>
  some s11
theorem z6s (a0:UInt64):z1u Tryz.prog 111 [.rd z2x a0] [] (z6v a0) (fun r nv=>⟨[.val (nv 0)],[(100,some (nv 0,.list u8R 5 r))]⟩):=by
 refine z2f 39 Tryz.func111 Z Z Z fun H w=>?_;refine gSR<|Zb Z<|z0q<|gSR<|Zm Z<|Zq (U.leq Z Z)<|Zj Z (fun h1=>?_) (fun h1=>?_)
 ·refine gSR<|Zm Z<|Zq (U.toB Z tu44 tu5)<|Ef Z (lit (R:=u8R) ([a0.toUInt8]:List UInt8) 1 (pP Z Z<|pN) Z tu94 ti5 Z Z) fun v2=>Zb Z<|z0k<|z0v<|Ze [v2] [1] Z
 ·refine Zt<|gSR<|Zm Z<|Zc [] [] Tryz.func100 Z (ziz _) fun r3 n4=>Zq (I.add Z Z)<|Zq (I.quo Z Z (by decide))<|Za Z<|z27 3 Z fun y5=>Zn<|gSR<|Zm Z<|Zq (I.add Z Z)<|z0t fun x6 h7=>Ef Z (mks (R:=u8R) 2 Z Z h7 tu94 ti5 (Zr.num Z) Z) fun v8=>Zb Z<|gSR<|Zm Z<|Zm Z<|Zq (I.add Z Z)<|Zq (I.toB Z tu3 tu5)<|z0t fun x9 h10=>Zq (ixO 2 Z Z Z h10 tu94 ti5)<|Es (sto 2 Z Z (Foc.el h10) Z ti5)<|Zn<|z7r (fun (s11:(List UInt8)) aa ww=>Sta (ctx 39 H [] w) [(4,.val v8)] [(2,some (v8,.list u8R 5 s11))] aa ww) ?_ (fun s11=>?_)
  ·refine gSR<|Zm Z<|Zm Z<|Zn<|z29 (fun (s12:(List UInt8) × Int) aa ww=>Sta (ctx 39 H [] w) [(0,.rd z2x a0),(3,.rd z08 y5),(4,.val v8),(23,.rd z08 y5),(24,.rd z08 s12.2)] [(2,some (v8,.list u8R 5 s12.1))] aa ww) (fun aa ww h=>Zu h [2]) (fun s12=>?_);refine gSR<|Zq (I.lss Z Z)<|Zn<|z0q<|gIf Z Z (fun h13=>?_) (fun h13=>?_)
   ·refine Zt<|z0q<|z5f<|gSR<|Zm Z<|Zb Z<|z2g<|Zm Z<|Zm Z<|Zm Z<|Zq (I.sub Z Z)<|Zm Z<|Zm Z<|Zq (I.mul Z Z)<|z0t fun u14 h15=>Zq (U.shr Z Z (z5h h15))<|Zq (U.toB Z tu44 tu5)<|z0t fun x16 h17=>Zq (ixO 2 Z Z Z h17 tu94 ti5)<|Es (sto 2 Z Z (Foc.el h17) Z ti5)<|z21<|z3l<|z0m<|z2g<|Zq (I.add Z Z)<|Zm Z<|z21<|z1m (fun aa ww h=>Zu h [2])
   ·refine z1z<|z10<|z14<|z3p (fun aa ww h=>Zu h [2])
  ·refine gSR<|Zm Z<|Zb Z<|z0k<|Ze [v8] [2] Z
def zd4 (a0:List V3) (s8:(List UInt8) × Int):Option (Sum ((List UInt8)) ((List UInt8) × Int)) :=
 if decide (s8.2<(a0.length:Int)) then
  idx a0 s8.2 >>= fun x11 =>
  app 1 s8.1 x11.toList >>= fun x14 =>
  some (.inr (x14,w64 (s8.2+1)))
 else
  some (.inl s8.1)
def zlb (a0:List V3):Option ((List UInt8) × Int) :=
 if decide (60<(a0.length:Int)) then
  some ([],4)
 else
  zez a0 >>= fun r2 =>
  if !r2 then
   some ([],32)
  else
   z6v (UInt64.ofInt (a0.length:Int)) >>= fun r5 =>
   (iter (zd4 a0) (r5,0)) >>= fun s7 =>
   some (s7,0)
theorem zt5 (a0:List V3):z1u Tryz.prog 109 [.rd (z03 aZ) a0] [] (zlb a0) (fun r nv=>⟨[.val (nv 0),.rd z08 r.2],[(100,some (nv 0,.list u8R 5 r.1))]⟩):=by
 refine z2f 28 Tryz.func109 Z Z Z fun H w=>?_;refine gSR<|Za Z<|Zb Z<|z0q<|gSR<|Zm Z<|Zq (z4f Z .rd Z tu22)<|Zq (I.gtr Z Z)<|Zj Z (fun h1=>?_) (fun h1=>?_)
 ·refine gSR<|Za Z<|Zb Z<|z0k<|z0v<|zwd u8R 5 1<|Ze [(.slice none 0 0)] [1] Z
 ·refine Zt<|z0q<|gSR<|Zm Z<|Zc [] [] Tryz.func164 Z (zn8 _) fun r2 n3=>Zq (zgu Z)<|Zj Z (fun h4=>?_) (fun h4=>?_)
  ·refine gSR<|Za Z<|Zb Z<|z0k<|z0v<|zwd u8R 5 2<|Ze [(.slice none 0 0)] [2] Z
  ·refine Zt<|gSR<|Zm Z<|Zq (z4f Z .rd Z tu22)<|Zq (I.toU Z tu3 tu44)<|Zc [] [(100,3)] Tryz.func111 Z (z6s _) fun r5 n6=>Zb Z<|z7r (fun (s7:(List UInt8)) aa ww=>∃ nv:Nat→Value,Sta (ctx 28 H [] w) [(4,.val (nv 0))] [(3,some ((nv 0),.list u8R 5 s7))] aa ww) ?_ (fun s7=>?_)
   ·refine gSR<|Zm Z<|Zq (z4f Z .rd Z tu22)<|Zm Z<|Zn<|z29 (fun (s8:(List UInt8) × Int) aa ww=>∃ nv:Nat→Value,Sta (ctx 28 H [] w) [(4,.val (nv 0)),(17,.rd (z03 aZ) a0),(18,.rd z08 (a0.length:Int)),(19,.rd z08 s8.2)] [(3,some ((nv 0),.list u8R 5 s8.1))] aa ww) (fun aa ww h=>⟨nvl [(n6 0)],Zu h [3]⟩) (fun s8=>?_);refine gEx fun n9=>gSR<|Zq (I.lss Z Z)<|Zn<|z0q<|gIf Z Z (fun h10=>?_) (fun h10=>?_)
    ·refine Zt<|z0q<|z5f<|gSR<|z0t fun x11 h12=>Zq (ixR Z Z h12 tu22 z3v Z)<|Zq (ldR Z z6a)<|Eb Z (z5l 4 z3v (.zr (R:=aZ) (x:=(Vector.replicate 32 0)) zfn)) fun v13=>Es (sto 4 Z Z fH Z z3v)<|Zn<|z2g<|Zm Z<|z16r 4 6 Z Z<|Zq (cutV Z tu54 ti5 Z Z Z)<|z0t fun x14 h15=>Ef Z (apn 3 Z Z Z .rd h15 tu94 ti5 Z Z Z) fun v16=>Za Z<|z21<|z3l<|z0m<|z2g<|Zq (I.add Z Z)<|Zm Z<|z21<|z1m (fun aa ww h=>⟨nvl [v16],Zu h [3]⟩)
    ·refine z1z<|z10<|z14<|z3p (fun aa ww h=>⟨nvl [(n9 0)],Zu h [3]⟩)
   ·refine gEx fun n17=>gSR<|Zm Z<|Za Z<|Zb Z<|z0k<|Ze [(n17 0)] [3] Z
def z48 (a1:Int):Option ((List UInt8)) :=
 if decide (a1<0) then
  none
 else
  some (w64 (a1 - (w64 (0 - (([]:List UInt8).length:Int))))) >>= fun y2 =>
  if decide (0<y2) then
   mkn 2 0 y2 >>= fun x4 =>
   cut x4 0 (([]:List UInt8).length:Int) >>= fun x7 =>
   some x7
  else
   some []
end
end Go.Proofs.YtcneilabmjkdlabGreatDoor
