import Derived.Test.YtdeegahcaekfaaaGreatDoorVa
set_option linter.unusedSimpArgs false
set_option linter.unusedVariables false
namespace Go.Proofs.YtdeegahcaekfaaaGreatDoor
set_option maxRecDepth 100000
set_option maxHeartbeats 4000000
open Go Go.RowKit _root_.Go.Proofs.Tryz
section
section
variable {S:Blk} {w:World} {v:Value} {T:TypeId}
theorem XV {α:Type} {R:Rep α} {x:α} {es:List Ent} (U:Sp R x es) (h:(AO.box T [.rd R x]).holds S w v):(AO.box T es).holds S w v:=by
 rcases h with h | ⟨b,o,h1,h2,b',vs,rfl,rfl,h3⟩
 ·exact h.elim
 ·match vs,h3 with
  | [u],⟨⟨cs,O,k2⟩,_⟩ =>
   subst k2;obtain⟨vs',k3,k4⟩:=(U.2 _ w cs).1 O;exact .inr ⟨b,_,h1,h2,b',vs',rfl, by rw[k4]; simp[Bo,Rep.val_cells O],k3⟩
theorem XW {α:Type} {R:Rep α} {x:α} {es:List Ent} (U:Sp R x es) (h:(AO.box T es).holds S w v):(AO.box T [.rd R x]).holds S w v:=by
 rcases h with h | ⟨b,o,h1,h2,b',vs,rfl,rfl,h3⟩
 ·exact h.elim
 ·have O:=(U.2 _ w (Bo vs)).2 ⟨vs,h3,rfl⟩;exact .inr ⟨b,_,h1,h2,b',[R.val (Bo vs)],rfl, by rw[show Bo [R.val (Bo vs)]=Bo vs by rw[DH,Rep.val_cells O]; simp[Bo]],⟨_,O,rfl⟩,trivial⟩
theorem XX {α:Type} (R:Rep α) {es es' pre post:List Ent} (O:es=pre++.val (.slice none 0 0)::post) (U:es'=pre++.rd (A8 R) []::post) (h:(AO.box T es).holds S w v):(AO.box T es').holds S w v:=by
 rcases h with h | ⟨b,o,k1,k2,b',vs,rfl,rfl,k3⟩
 ·exact h.elim
 ·exact .inr ⟨b,_,k1,k2,b',vs,rfl,rfl,By.holds O U (λv hv=>Sv R hv) k3⟩
end
section
variable {ρ:Type} {P:Program} {Γ:Ctx} {l l0:AR} {res res0:Res} {ws:List Nat} {m:Option ρ} {os:List Oper} {N:ρ->Exit->Act->World->Prop} {fuel i:Nat} {listed:Array Bool} {a:Act} {w0 w:World}
theorem SH.recont (h:SH Γ l0 res0 ws l res a w0 w) (r:Nat) {v:Value} {c c':AO} (U:lr res r=some (v,c)) (hc:c'.holds (Shr Γ.H res w) w v):SH Γ l0 res0 ws l ((r,some (v,c'))::res) a w0 w:=by
 have hu:=h.s.upd r (v:=v) (c:=c') (wr:=none) Ext.rfl'.gb (by simp) (λb hb=>.inl ⟨v,c,U,hb⟩) (λS' k'=>hc.mono k' (λb hb=>rfl));refine⟨h.s0,hu.1,h.cw,h.st.tr hu.2, λr2 v2 c2 b2 h1 O h3=>?_⟩;rw[C0] at O
 split at O
 ·rename_i e; subst e; cases O; exact h.wsp _ v c b2 h1 U h3
 ·exact h.wsp r2 v2 c2 b2 h1 O h3
theorem OJ {α:Type} {R:Rep α} {T:TypeId} {l:List α} {i:Int} {x:α} (h:idx l i=some x):∀ S w v,¬ (AO.list R T l).nil S w v:=λS w v O=>by rw[O.2] at h; simp[idx] at h
theorem hSpl {α:Type} {R:Rep α} {x:α} {es:List Ent} {T:TypeId} {v:Value} (r:Nat) (O:lr res r=some (v,.box T [.rd R x])) (hs:Sp R x es) (k:GH P os Γ l0 res0 ws l ((r,some (v,.box T es))::res) N fuel listed m):GH P os Γ l0 res0 ws l res N fuel listed m:=λa w0 w U=>k a w0 w (U.recont r O (XV hs (U.s.conts r v _ O)))
theorem hJoi {α:Type} {R:Rep α} (x:α) {es:List Ent} {T:TypeId} {v:Value} (r:Nat) (O:lr res r=some (v,.box T es)) (hs:Sp R x es) (k:GH P os Γ l0 res0 ws l ((r,some (v,.box T [.rd R x]))::res) N fuel listed m):GH P os Γ l0 res0 ws l res N fuel listed m:=λa w0 w U=>k a w0 w (U.recont r O (XW hs (U.s.conts r v _ O)))
theorem hPnl {α:Type} (R:Rep α) {es:List Ent} (es':List Ent) {T:TypeId} {v:Value} (r:Nat) (pre post:List Ent) (O:lr res r=some (v,.box T es)) (h1:es=pre++.val (.slice none 0 0)::post) (h2:es'=pre++.rd (A8 R) []::post) (k:GH P os Γ l0 res0 ws l ((r,some (v,.box T es'))::res) N fuel listed m):GH P os Γ l0 res0 ws l res N fuel listed m:=λa w0 w U=>k a w0 w (U.recont r O (XX R h1 h2 (U.s.conts r v _ O)))
end
end
section
variable {ro:Option Nat}
def AO.glob {α:Type} (g:Nat) (R:Rep α) (x:α):AO where
 nil S w v:=v=.bool true/\(Ent.rp R x).holds S w (.pointer (some ⟨g,0,none⟩))
 nilm k h:=⟨h.1,(Ent.rp R x).mono k h.2⟩
 nilb h:=by rw[h.1]; rfl
 rel _ _ _ _:=False
 mono _ h:=h
section
variable {C:World->World->Prop} {P:Program} {Γ:Ctx} {l:AR} {res:Res} {d:Tmp} {ty:TypeId} {pos:String} {after:Array Edge} {g:Option (Nat × Bool)}
theorem XY {α:Type} {gl:Nat} {R:Rep α} {x:α} {v:Value} {a:Act} {w:World} (O:Sta Γ l res a w) (r:Nat) (U:lr res r=some (v,.glob gl R x)):(Ent.rp R x).holds (Shr Γ.H res w) w (.pointer (some ⟨gl,0,none⟩)):=by
 rcases O.conts r v _ U with h | ⟨b,o,_,_,h⟩
 ·exact h.2
 ·exact h.elim
theorem ixG {α β:Type} {n:Nat} {R:Rep α} {b:Vector α n} {y:α} {k:IntKind} {f:β->Int} {j:β} {z':Operand} {T e:TypeId} {z v:Value} {by_ gl:Nat} (r:Nat) (hr:lr res r=some (v,.glob gl (Az n R) b)) (hj:opE l z'=some (.rd (Bn k f) j)) (O:B8 b (f j)=some y) (hT:P.underlying T=some (.array n e)) (hE:TI P e z R.sz by_) :
  Run C P Γ l res ⟨some d,.indexAddr T (.global gl) z',ty,pos,after,g⟩ (.rp R y):=λa w U=>by
 obtain⟨b',o,h1,h2⟩:=(AK.el O).ptr (XY U r hr);obtain⟨k1,k3⟩:=Lk O;have a1:a.eval z'=.int k ((f j).toNat:Int):=by rw[Ci (U.vl hj)]; congr 1; omega
 have hx:a.eval (.global gl)=.pointer (some ⟨gl,0,none⟩):=rfl;exact⟨_, λw' _=>Oz hT hE (hx.trans h1) a1 rfl k3 rfl,h2⟩
end
theorem Sw {ρ:Type} {P:Program} {A:Asn} {c:Code} {Q:ρ->Exit->Act->World->Prop}:G ro P A c Q none:=λa w ha r O=>by cases O
section
variable {ρ:Type} {P:Program} {Γ:Ctx} {l l0:AR} {res res0:Res} {ws:List Nat} {m m1 m2:Option ρ} {os:List Oper} {N:ρ->Exit->Act->World->Prop}
 {d:Tmp} {op:Op} {ty:TypeId} {pos:String} {after:Array Edge} {g:Option (Nat × Bool)} {fuel i:Nat} {listed listed':Array Bool} {rest:List Oper}
theorem XZ {σ:Type} {f:FuncId} {F:Func} {b:Code} {args:List Operand} {ats:Array TypeId} {x:Operand} {cap:List Value} {pin pa pc:List Ent} {rin:Res} {m1:Option σ} {q:σ->(Nat->Value)->Di} {kk:σ->Option ρ} (i:Nat) (ns:List Nat) (mp:List (Nat × Nat)) (e0:σ->(Nat->Value)->Ent)
  (hi:os.toArray[i]? = some ⟨some d,.call ⟨.value x,args.toArray,ats⟩,ty,pos,after,g⟩) (hrd:Region.ready .any os.toArray listed=[i]) (hl:listed.setIfInBounds i true=listed') (hg:Grd os l ⟨some d,.call ⟨.value x,args.toArray,ats⟩,ty,pos,after,g⟩ true) (hn:Nat.blt d Γ.n=true)
  (hF:P.funcs[f]? = some F) (hB:F.body=some b) (hnm:(F.name == "runtime.NumGoroutine")=false) (hx:opE l x=some (.val (.func (.func f) #[] cap.toArray))) (hS:Ah P f pin rin m1 q) (hA:Cs l args pa) (hC:EF res cap pc) (hpp:pin=pa++pc) (hr:BZ res rin ns) (hw:ns.all (λn=>ws.contains n)=true)
  (he0:∀ s nv v S w S' w',(CM (q s nv).ret).holds S w v->(e0 s nv).holds S' w' v)
  (k:∀ s nv,GH P os Γ ((d,e0 s nv)::l0) res0 ws ((d,CM (q s nv).ret)::l) (aft ns mp (q s nv).res res) N fuel listed' (kk s)) :
  GH P os Γ l0 res0 ws l res N (fuel+1) listed (m1 >>= kk):=λa w0 w ha r hm=>by
 subst hpp
 cases hm1:m1 with
 | none=>rw[hm1] at hm; cases hm
 | some s =>
  rw[hm1] at hm;refine wpAnyH_all hrd (by simp) (λj hj=>?_);simp only[List.mem_singleton] at hj;subst hj;have hgw:=hg.wanted ha.s;unfold wpOp;simp only[hi,hgw,if_true];refine .inl ?_;have hrun:(execOp a.eval ⟨some d,.call ⟨.value x,args.toArray,ats⟩,ty,pos,after,g⟩).run P w=.ok (.enter f (args.map a.eval++cap).toArray) w:=by
   simp[execOp,resolve,(ha.s.vl hx).1,Deferred.ofValue,invoke,FE hF hB hnm,<- Array.append_assoc]
  unfold Oper.wp; rw[hrun];simp only[Oper.upon];have hH:∀ b,(λb=>Γ.H b\/∃ r v c,lr res r=some (v,c)/\ns.contains r=false/\AS v=some b) b↔Γ.H b\/∃ r v c,lr res r=some (v,c)/\ns.contains r=false/\AS v=some b:=λ_=>Iff.rfl;obtain⟨h1,h2⟩:=F7.of ha.s hr hH;refine(hS s hm1 _ _ w ((Cs.get ha.s h2 hA).mk (EF.get ha.s hC)) h1).mono λe w' hR=>?_;obtain⟨nv,vs,rfl,hp⟩:=hR;obtain⟨⟨h3,h5⟩,h4,h6⟩:=ha.s.called (mp:=mp) hr hH hp
  have hlent:∀ b,Bof rin b->(∃ r0 v0 c0,ws.contains r0=true/\lr res0 r0=some (v0,c0)/\AS v0=some b)\/w0.heap.size<=b:=λb ⟨r',v,c,q1,q2⟩=>by
   obtain⟨n,q3,q4⟩:=hr.get q1;have hn':ws.contains n=true:=by simpa using (List.all_eq_true.1 hw) n q3
   exact ha.wsp n v c b hn' q4 q2
  have hcw:CW res0 ws w0 w':=by
   refine CZ.tr ha.cw hp.keep (λb hb=>⟨Nat.lt_of_lt_of_le hb.1 ha.cw.size, λhB=>?_⟩);rcases hlent b hB with ⟨r0,v0,c0,q1,q2,q3⟩ | q1
   ·exact hb.2 r0 v0 c0 q1 q2 q3
   ·have:=hb.1; omega
  refine⟨hcw,?_⟩;rw[hl];refine k s nv _ w0 w' (SH.put ⟨ha.s0,h3,hcw,ha.st.tr h5, λr2 v2 c2 b2 k1 k2 k3=>?_⟩ hn (he0 s nv _ _ _ _ _ h4) h4) r hm;rcases FK k2 with ⟨k',q1,q2⟩ | ⟨q1,q2⟩
  ·rcases hp.own k' v2 c2 q2 b2 k3 with q3 | q3
   ·exact .inr (Nat.le_trans ha.cw.size q3)
   ·exact hlent b2 q3
  ·exact ha.wsp r2 v2 c2 b2 k1 q2 k3
theorem OK {σ:Type} {f:FuncId} {F:Func} {b:Code} {args:List Operand} {ats:Array TypeId} {x:Operand} {cap:List Value} {pin pa pc:List Ent} {rin:Res} {m1:Option σ} {q:σ->(Nat->Value)->Di} {kk:σ->Option ρ} (i:Nat) (ns:List Nat) (mp:List (Nat × Nat))
  (hi:os.toArray[i]? = some ⟨some d,.call ⟨.value x,args.toArray,ats⟩,ty,pos,after,g⟩) (hrd:Region.ready .any os.toArray listed=[i]) (hl:listed.setIfInBounds i true=listed') (hg:Grd os l ⟨some d,.call ⟨.value x,args.toArray,ats⟩,ty,pos,after,g⟩ true) (hn:Nat.blt d Γ.n=true)
  (hF:P.funcs[f]? = some F) (hB:F.body=some b) (hnm:(F.name == "runtime.NumGoroutine")=false) (hx:opE l x=some (.val (.func (.func f) #[] cap.toArray))) (hS:Ah P f pin rin m1 q) (hA:Cs l args pa) (hC:EF res cap pc) (hpp:pin=pa++pc) (hr:BZ res rin ns) (hw:ns.all (λn=>ws.contains n)=true)
  (hfl:∀ s nv,(CM (q s nv).ret).flat) (k:∀ s nv,GH P os Γ ((d,CM (q s nv).ret)::l0) res0 ws ((d,CM (q s nv).ret)::l) (aft ns mp (q s nv).res res) N fuel listed' (kk s)) :
  GH P os Γ l0 res0 ws l res N (fuel+1) listed (m1 >>= kk):=XZ i ns mp (λs nv=>CM (q s nv).ret) hi hrd hl hg hn hF hB hnm hx hS hA hC hpp hr hw (λs nv v S w S' w' h=>hfl s nv S w S' w' v h) k
end
end
section
open Go Go.RowKit Go.ChangeShapes
section
variable {P:Program} {w:World} {H:Type} {enc:TypeId × Value->H}
theorem Y3 {base:Nat} {spare:Nat->Bool} {held:Bool} {fuel:Nat} {T e:TypeId} {n:Nat} {k:IntKind} {cs:List Value} {ds:List Int} {p:List MemPlace} (hT:P.underlying T=some (.array n e)) (he:P.underlying e=some (.int k)) (hc:P.cellsOf e=1) (hl:P.cellsOf T=n)
  (h:DataW.trod enc P w base spare held fuel T cs=some (.agg (ds.map λi=>.lit (.int k i)),p)):cs=ds.map (λi=>Value.int k i):=by
 obtain⟨xs,m,-,O,U,a1,hi⟩:=DataW.trod_array hT h;simp only[Prod.mk.injEq,DataW.agg.injEq] at O;have O:=O.1;have hlen2:ds.length=n:=by have:=congrArg List.length O; simpa [a1] using this
 rw[hc] at hi
 apply List.ext_getElem
 ·rw[U,hl]; simp[hlen2]
 ·intro i h1 h2;have a2:i<n:=by rw[U,hl] at h1; exact h1
  have h3:=hi i a2;rw[List.getElem?_eq_getElem (by omega)] at h3;obtain⟨v,e1,e2,-⟩:=DataW.trod_int he h3;have e3:(cs.drop (i * 1)).take 1=[cs[i]]:=by rw[Nat.mul_one,List.drop_eq_getElem_cons h1]; rfl
  rw[e3] at e1;have e4:cs[i]=.int k v:=by simpa using e1
  have e5:(xs.map (·.1))[i]'(by simp; omega)=.lit (.int k v):=by simp[e2]
  have e6:(xs.map (·.1))[i]'(by simp; omega)=.lit (.int k (ds[i]'(by omega))):=by simp[<- O]
  rw[e5] at e6;have e7:v=ds[i]'(by omega):=by simpa using e6
  rw[e4,e7]; simp
theorem Sx {α:Type} {k:IntKind} {f:α->Int} {S:Blk}:∀ l:List α,B5 (Bn k f) S w (l.map λx=>Value.int k (f x)) l
 | []=>rfl
 | x::l=>⟨[.int k (f x)],_,rfl,rfl,Sx l⟩
theorem Y4 {nm:String} {d:DataW Unit} {g:Nat} {T e:TypeId} {n:Nat} {k:IntKind} {α:Type} {f:α->Int} {x:Vector α n} (h:laidMetH P [(nm,d)] w) (hp:([(nm,d)].all λx=>x.2.handleName?.isNone)=true) (hg:P.globalNamed nm=some g) (ht:(P.globals[g]?).map (·.type)=some T)
  (hT:P.underlying T=some (.array n e)) (he:P.underlying e=some (.int k)) (hc:P.cellsOf e=1) (hl:P.cellsOf T=n) (hn:0<n) (hd:d=.agg ((x.toList.map f).map λi=>.lit (.int k i))):(Ent.rp (Az n (Bn k f)) x).holds (EG w) w (.pointer (some ⟨g,0,none⟩)):=by
 rw[MakeChecks.laidMetH_plain _ _ _ hp] at h;obtain⟨ps,⟨g0,t0,O,f0,p0,q0,a6,a7,a8,a1,_,_⟩,_,_⟩:=h;obtain rfl:=Option.some.inj (hg.symm.trans a6);obtain rfl:=Option.some.inj (ht.symm.trans a7);rw[hd] at a1;have a2:=Y3 hT he hc hl a1;have U:∀ (j:Nat) (u:Value),O.toList[j]? = some u->w.cell? ⟨g,0+j,none⟩=some u:=λj u hu=>by
  rw[Nat.zero_add,World.var?_cell hg a8 j]; simpa using hu
 refine⟨g,0,O.toList,rfl,?_,?_,U⟩
 ·have hz:O.toList.length=n:=by rw[a2]; simp
  have h0:O.toList[0]? = some (O.toList[0]'(by omega)):=List.getElem?_eq_getElem (by omega);exact⟨World.block_lt_of_cell? w ⟨g,0+0,none⟩ (U 0 _ h0), λr v c h=>by simp[lr,lk] at h, λh=>h⟩
 ·show B5 (Bn k f) (EG w) w O.toList x.toList;rw[a2,List.map_map];exact Sx x.toList
theorem Ah.lawG {f:FuncId} {pin:List Ent} {rin:Res} {m:Option Bool} {vs:List Value} {W:World} (hS:Ah P f pin rin m (λr nv=>⟨[.rd Ac r],rin⟩)) (hm:m=some true) (hv:C5 (EG W) W pin vs)
  (hb:∀ r v c,lr rin r=some (v,c)->AS v=none) (hc:∀ r v c,lr rin r=some (v,c)->c.holds (EG W) W v) :
  Calls P f vs.toArray W (λe W'=>e=.returned (.bool true)/\Ext W W'):=by
 have a2:∀ b,¬ Bof rin b:=λb ⟨r,v,c,h,O⟩=>by rw[hb r v c h] at O; cases O
 have a1:Br (EG W) (Shr (λ_=>False) rin W) W W:=λb a6=>⟨⟨a6.1, λr v c h e=>(by rw[hb r v c h] at e; cases e), λh=>h⟩,rfl⟩
 refine(hS true hm (λ_=>False) vs W (hv.mono a1) ⟨λr v c h=>(hc r v c h).mono a1 (λ_ _=>rfl), λr v c r' v' c' h _ _ b O=>(by rw[hb r v c h] at O; cases O), λb h=>h.elim⟩).mono λe W' h=>?_
 obtain⟨nv,us,rfl,U⟩:=h
 match us,U.ret with
 | [u],⟨h1,_⟩ =>
  obtain⟨cs,O,h3⟩:=h1;have O:cs=[.bool true]:=O;subst O;refine⟨?_,U.keep.os,U.keep.tape,U.keep.output,U.keep.size, λb hb=>U.keep.block b ⟨hb,a2 b⟩⟩;show Ending.returned u=_;rw[h3]; rfl
end
end
section
section
variable {P:Program}
def EqR {α:Type} [DecidableEq α] (P:Program) (T:TypeId) (R:Rep α) (k:Nat):Prop :=
 ∀ (d:Nat),k<=d->∀ (S:Blk) (w:World) (c c':List Value) (x y:α),R.rel S w c x->R.rel S w c' y->∀ w',(Op.equalIn d T (R.val c) (R.val c')).run P w'=.ok (decide (x=y)) w'
theorem EqR.num {α:Type} [DecidableEq α] {T:TypeId} {k:IntKind} {f:α->Int} (hT:P.underlying T=some (.int k)) (O:∀ x y,f x=f y->x=y):EqR P T (Bn k f) 1:=λd hd S w c c' x y h h' w'=>by
 have h:c=[.int k (f x)]:=h;have h':c'=[.int k (f y)]:=h';subst h; subst h';obtain⟨n,rfl⟩:∃ n,d=n+1:=⟨d - 1, by omega⟩
 show (Op.equalIn (n+1) T (.int k (f x)) (.int k (f y))).run P w'=_;rw[Go.run_equalIn_int w' n T k k _ _ hT]
 congr 1
 by_cases e:x=y
 ·subst e; simp
 ·rw[decide_eq_false e]; exact beq_false_of_ne (λh=>e (O _ _ h))
theorem EqR.i64 {T:TypeId} (hT:P.underlying T=some (.int .i64)):EqR P T A3 1:=EqR.num hT (λ_ _ h=>h)
theorem EqR.u8 {T:TypeId} (hT:P.underlying T=some (.int .u8)):EqR P T u8R 1:=EqR.num hT (λ_ _ h=>UInt8.toNat_inj.1 (Int.ofNat.inj h))
theorem EqR.u32 {T:TypeId} (hT:P.underlying T=some (.int .u32)):EqR P T A9 1:=EqR.num hT (λ_ _ h=>UInt32.toNat_inj.1 (Int.ofNat.inj h))
theorem EqR.u64 {T:TypeId} (hT:P.underlying T=some (.int .u64)):EqR P T Ar 1:=EqR.num hT (λ_ _ h=>UInt64.toNat_inj.1 (Int.ofNat.inj h))
theorem EqR.str {T:TypeId} (hT:P.underlying T=some .string):EqR P T BI 1:=λd hd S w c c' x y h h' w'=>by
 obtain⟨s,rfl,rfl⟩:=h;obtain⟨t,rfl,rfl⟩:=h';obtain⟨n,rfl⟩:∃ n,d=n+1:=⟨d - 1, by omega⟩
 show (Op.equalIn (n+1) T (.string s) (.string t)).run P w'=_;rw[Go.run_equalIn_string w' n T _ _ hT,E4,E4]
 congr 1
 rw[Bool.eq_iff_iff]; simp
theorem Gh {α:Type} {R:Rep α} {S:Blk} {w:World} {T:TypeId} {x:α} {a c d:List Value} {xs:Array Value} (hx:xs.toList=a++c++d) (hr:R.rel S w c x) (hT:BN P T R.agg R.sz) (w':World):(part T xs a.length).run P w'=.ok (R.val c) w':=by
 have O:=R.len hr;unfold part;unfold BN at hT;unfold Rep.val
 cases ha:R.agg with
 | true =>
  rw[ha,if_pos rfl] at hT;obtain⟨⟨ds,h1,h2⟩,z,by_,h3⟩:=hT;have U:(isAgg T).run P w'=.ok true w':=by
   cases ds <;> simp only at h2 <;> simp[isAgg,run_underlying h1]
  have he:xs.extract a.length (a.length+R.sz)=c.toArray:=by
   apply Array.toList_inj.1
   rw[Array.toList_extract,hx,List.extract_eq_take_drop,List.append_assoc,List.drop_left',<- O]
   ·simp
   ·rfl
  simp only[Sem.run_bind,U,Result.andThen,if_true,CY h3,Sem.run_pure,he];rfl
 | false =>
  rw[ha,if_neg (by simp)] at hT;obtain⟨ds,h1,h2⟩:=hT;have U:(isAgg T).run P w'=.ok false w':=by
   cases ds <;> simp only at h2 <;> simp[isAgg,run_underlying h1]
  rw[R.scal ha] at O
  match c,O with
  | [u],_ =>
   have he:xs[a.length]? = some u:=by rw[<- Array.getElem?_toList,hx]; simp
   simp only[Sem.run_bind,U,Result.andThen,Bool.false_eq_true,if_false,he,Sem.run_pure];rfl
theorem EqR.items {α:Type} [DecidableEq α] {R:Rep α} {e:TypeId} {k d:Nat} (hE:EqR P e R k) (O:k<=d) (hT:BN P e R.agg R.sz) {S:Blk} {w:World} {xs ys:Array Value} {l m:List α} (U:B5 R S w xs.toList l) (hy:B5 R S w ys.toList m) (w':World):∀ (is:List Nat),(∀ i∈is,i<l.length/\i<m.length) ->
  (Op.eqItems d e R.sz xs ys is).run P w'=.ok (is.all λi=>decide (l[i]? = m[i]?)) w'
 | [],_=>rfl
 | i::is,h=>by
  obtain⟨h1,h2⟩:=h i (by simp);obtain⟨a,c,dd,e1,e2,e3,-⟩:=U.split (List.getElem?_eq_getElem h1);obtain⟨a',c',dd',f1,f2,f3,-⟩:=hy.split (List.getElem?_eq_getElem h2);have ih:=EqR.items hE O hT U hy w' is (λj hj=>h j (by simp[hj]));have p1:=Gh (P:=P) e1 e3 hT w';have p2:=Gh (P:=P) f1 f3 hT w';rw[e2] at p1;rw[f2] at p2;have p3:=hE d O S w c c' _ _ e3 f3 w';simp only[Op.eqItems,Sem.run_bind,p1,p2,p3,Result.andThen]
  rw[List.all_cons,List.getElem?_eq_getElem h1,List.getElem?_eq_getElem h2];by_cases hc:l[i]=m[i]
  ·simp[hc,ih]
  ·simp[hc,Sem.run_pure]
theorem EqR.arr {α:Type} [DecidableEq α] {R:Rep α} {T e:TypeId} {n k:Nat} {z:Value} {by_:Nat} (hE:EqR P e R k) (hT:P.underlying T=some (.array n e)) (hI:TI P e z R.sz by_) (hTy:BN P e R.agg R.sz):EqR P T (Az n R) (k+1):=λd hd S w c c' x y h h' w'=>by
 obtain⟨d',rfl⟩:∃ d',d=d'+1:=⟨d - 1, by omega⟩
 obtain⟨i,hi,-,U,-⟩:=hI;have hc:P.cellsOf e=R.sz:=by unfold Program.cellsOf; rw[hi]; simpa using U
 show (Op.equalIn (d'+1) T (.agg c.toArray) (.agg c'.toArray)).run P w'=_;rw[Go.run_equalIn_array w' d' c.toArray c'.toArray hT hi,hc,EqR.items hE (by omega) hTy (l:=x.toList) (m:=y.toList) h h' w' (List.range n) (λi hi=>by simpa using hi)]
 congr 1
 by_cases O:x=y
 ·subst O; simp
 ·rw[decide_eq_false O];refine Bool.eq_false_iff.2 λh2=>O ?_
  apply Vector.toList_inj.1
  apply List.ext_getElem?
  intro i;by_cases hi:i<n
  ·have:=List.all_eq_true.1 h2 i (by simpa using hi)
   exact of_decide_eq_true this
  ·rw[List.getElem?_eq_none (by simp; omega),List.getElem?_eq_none (by simp; omega)]
def EqF {γ:Type} [DecidableEq γ] (P:Program) (fs:List Field) (o:Nat) (R:Rep γ) (k:Nat):Prop :=
 ∀ (d:Nat),k<=d->∀ (S:Blk) (w:World) (xs ys:Array Value) (x y:γ) (a a':List Value),xs.toList=a++xs.toList.drop o->ys.toList=a'++ys.toList.drop o->a.length=o->a'.length=o->R.rel S w (xs.toList.drop o) x->R.rel S w (ys.toList.drop o) y->∀ w',(Op.eqFields d xs ys fs).run P w'=.ok (decide (x=y)) w'
theorem EqF.nil {o:Nat}:EqF P [] o Dc 0:=λd hd S w xs ys x y a a' _ _ _ _ h h' w'=>by simp[Op.eqFields,Sem.run_pure]
theorem EqF.cons {α β:Type} [DecidableEq α] [DecidableEq β] {R:Rep α} {R2:Rep β} {f:Field} {fs:List Field} {o k k2:Nat} (h1:EqR P f.type R k) (hT:BN P f.type R.agg R.sz) (ho:f.offset=o) (hn:(f.name == "_")=false) (h2:EqF P fs (o+R.sz) R2 k2):EqF P (f::fs) o (BT R R2) (max k k2):=λd hd S w xs ys x y a a' hx hy ha ha' h h' w'=>by
 obtain⟨c,r,e1,e2,e3⟩:=h;obtain⟨c',r',f1,f2,f3⟩:=h';have hlc:=R.len e2;have hlc':=R.len f2;have hdx:xs.toList.drop (o+R.sz)=r:=by rw[<- List.drop_drop,e1,<- hlc]; simp
 have hdy:ys.toList.drop (o+R.sz)=r':=by rw[<- List.drop_drop,f1,<- hlc']; simp
 have p1:=Gh (P:=P) (xs:=xs) (a:=a) (c:=c) (d:=r) (by rw[List.append_assoc,<- e1]; exact hx) e2 hT w';have p2:=Gh (P:=P) (xs:=ys) (a:=a') (c:=c') (d:=r') (by rw[List.append_assoc,<- f1]; exact hy) f2 hT w';rw[ha] at p1;rw[ha'] at p2;have p3:=h1 d (by omega) S w c c' x.1 y.1 e2 f2 w';have ih:=h2 d (by omega) S w xs ys x.2 y.2 (a++c) (a'++c') (by rw[hdx,List.append_assoc,<- e1]; exact hx) (by rw[hdy,List.append_assoc,<- f1]; exact hy) (by simp[ha,hlc]) (by simp[ha',hlc']) (by rw[hdx]; exact e3) (by rw[hdy]; exact f3) w'
 have hne:f.name ≠ "_" := by simpa using hn
 simp only[Op.eqFields,if_pos hne,Sem.run_bind,ho,p1,p2,p3,Result.andThen];by_cases hc:x.1=y.1
 ·simp only[hc,decide_true,Bool.not_true,Bool.false_eq_true,if_false,ih]
  congr 1
  rw[decide_eq_decide];exact⟨λh=>Prod.ext hc h, λh=>by rw[h]⟩
 ·have hxy:x≠y:=λh=>hc (by rw[h]);simp[hc,hxy,Sem.run_pure]
theorem EqR.struct {β γ:Type} [DecidableEq β] [DecidableEq γ] {R:Rep γ} {g:β->γ} {T:TypeId} {fs:Array Field} {k:Nat} (hF:EqF P fs.toList 0 R k) (hT:P.underlying T=some (.struct fs)) (hp:P.stoodInHeld T=false) (hg:∀ x y,g x=g y->x=y) (O:R.agg=true):EqR P T (CH g R) (k+1):=λd hd S w c c' x y h h' w'=>by
 obtain⟨d',rfl⟩:∃ d',d=d'+1:=⟨d - 1, by omega⟩
 have U:P.fieldsOf T=fs:=by simp[Program.fieldsOf,hT]
 have e1:(CH g R).val c=.agg c.toArray:=by simp[Rep.val,CH,O]
 have e2:(CH g R).val c'=.agg c'.toArray:=by simp[Rep.val,CH,O]
 rw[e1,e2,Go.run_equalIn_struct w' d' T _ _ (by rw[U]; exact hT) hp,U];rw[hF d' (by omega) S w c.toArray c'.toArray (g x) (g y) [] [] (by simp) (by simp) rfl rfl (by simpa using (show R.rel S w c (g x) from h)) (by simpa using (show R.rel S w c' (g y) from h')) w']
 congr 1
 rw[decide_eq_decide];exact⟨λh=>hg _ _ h, λh=>by rw[h]⟩
end
section
variable {C:World->World->Prop} {P:Program} {Γ:Ctx} {l:AR} {res:Res} {d:Tmp} {ty:TypeId} {pos:String} {after:Array Edge} {g:Option (Nat × Bool)}
theorem eqA {α:Type} [DecidableEq α] {R:Rep α} {T T':TypeId} {x y:Operand} {a b:α} {k:Nat} (hx:opE l x=some (.rd R a)) (hy:opE l y=some (.rd R b)) (hE:EqR P T R k) (hk:Nat.ble k 10000=true) (O:R.agg=true) (hg:P.eqGuardType P.depth T=false):Run C P Γ l res ⟨some d,.binOp .eql T x y T',ty,pos,after,g⟩ (.rd Ac (decide (a=b))):=λf w U=>by
 obtain⟨c,h1,h2⟩:=U.vl hx;obtain⟨c',h3,h4⟩:=U.vl hy;have e1:f.eval x=.agg c.toArray:=by rw[h2]; simp[Rep.val,O]
 have e2:f.eval y=.agg c'.toArray:=by rw[h4]; simp[Rep.val,O]
 refine⟨_, λw' _=>Fj (v:=.bool (decide (a=b))) ?_ ?_,EB⟩
 ·rw[e1,e2]; exact Go.run_eqGuard_agg w' .eql T x y _ _ hg
 ·have:=hE 10000 (Nat.le_of_ble_eq_true hk) _ w c c' a b h1 h3 w'
  rw[show R.val c=.agg c.toArray by simp[Rep.val,O], show R.val c'=.agg c'.toArray by simp[Rep.val,O]] at this;rw[e1,e2,Go.run_eql_struct,this]; rfl
theorem neA {α:Type} [DecidableEq α] {R:Rep α} {T T':TypeId} {x y:Operand} {a b:α} {k:Nat} (hx:opE l x=some (.rd R a)) (hy:opE l y=some (.rd R b)) (hE:EqR P T R k) (hk:Nat.ble k 10000=true) (O:R.agg=true) (hg:P.eqGuardType P.depth T=false):Run C P Γ l res ⟨some d,.binOp .neq T x y T',ty,pos,after,g⟩ (.rd Ac (!decide (a=b))):=λf w U=>by
 obtain⟨c,h1,h2⟩:=U.vl hx;obtain⟨c',h3,h4⟩:=U.vl hy;have e1:f.eval x=.agg c.toArray:=by rw[h2]; simp[Rep.val,O]
 have e2:f.eval y=.agg c'.toArray:=by rw[h4]; simp[Rep.val,O]
 refine⟨_, λw' _=>Fj (v:=.bool (!decide (a=b))) ?_ ?_,EB⟩
 ·rw[e1,e2]; exact Go.run_eqGuard_agg w' .neq T x y _ _ hg
 ·have:=hE 10000 (Nat.le_of_ble_eq_true hk) _ w c c' a b h1 h3 w'
  rw[show R.val c=.agg c.toArray by simp[Rep.val,O], show R.val c'=.agg c'.toArray by simp[Rep.val,O]] at this;rw[e1,e2,Go.run_neq_struct,this]; rfl
end
end
section
section
variable {κ β:Type} [DecidableEq κ]
def Bv:List (κ × β)->κ->Option β
 | [],_=>none
 | p::m,k=>if k=p.1 then some p.2 else Bv m k
def D4:List (κ × β)->κ->β->List (κ × β)
 | [],k,v=>[(k,v)]
 | p::m,k,v=>if k=p.1 then (p.1,v)::m else p::D4 m k v
def DQ:List (κ × β)->κ->List (κ × β)
 | [],_=>[]
 | p::m,k=>if k=p.1 then m else p::DQ m k
end
structure CC {κ:Type} [DecidableEq κ] (P:Program) (T:TypeId) (R:Rep κ) (k:Nat):Prop where
 one:∀ {S w S' w' cs cs' x},R.rel S w cs x->R.rel S' w' cs' x->cs=cs'
 chk:∀ {S w cs x},R.rel S w cs x->∀ d,k<=d->∀ e w',(Instr.checkKey e d T (R.val cs)).run P w'=.ok () w'
 bits:∀ {S w cs x},R.rel S w cs x->∀ d,k<=d->Instr.sameBits d (R.val cs) (R.val cs)=true
 eq:EqR P T R k
 deep:Nat.ble k 10000=true
 find:∃ de,P.underlying T=some de/\((∀ v v',Instr.sameNow de v v'=none)\/∀ {S w cs cs' x y},R.rel S w cs x->R.rel S w cs' y->Instr.sameNow de (R.val cs) (R.val cs')=some (decide (x=y)))
section
variable {P:Program}
theorem CC.num {α:Type} [DecidableEq α] {T:TypeId} {k:IntKind} {f:α->Int} (hT:P.underlying T=some (.int k)) (O:∀ x y,f x=f y->x=y):CC P T (Bn k f) 1 where
 one h h':=by
  have h:_=[Value.int k _]:=h;have h':_=[Value.int k _]:=h';rw[h,h']
 chk h d hd e w':=by
  have h:_=[Value.int k _]:=h;subst h;obtain⟨n,rfl⟩:∃ n,d=n+1:=⟨d - 1, by omega⟩
  show (Instr.checkKey e (n+1) T (.int k _)).run P w'=_;simp[Instr.checkKey,run_underlying hT]
 bits h d hd:=by
  have h:_=[Value.int k _]:=h;subst h;show Instr.sameBits d (.int k _) (.int k _)=true
  cases d <;> simp[Instr.sameBits]
 eq:=EqR.num hT O
 deep:=rfl
 find:=⟨_,hT,.inr λ{S w cs cs' x y} h h'=>by
  have h:_=[Value.int k _]:=h;have h':_=[Value.int k _]:=h';subst h; subst h';show Instr.sameNow (.int k) (.int k (f x)) (.int k (f y))=_;simp only[Instr.sameNow,if_true,Option.some.injEq];by_cases e:x=y
  ·subst e; simp
  ·rw[decide_eq_false e]; exact beq_false_of_ne (λh=>e (O _ _ h))⟩
theorem CC.u8 {T:TypeId} (hT:P.underlying T=some (.int .u8)):CC P T u8R 1:=CC.num hT (λ_ _ h=>UInt8.toNat_inj.1 (Int.ofNat.inj h))
theorem Y5 {s t:ByteArray} (h:s.data.toList=t.data.toList):s=t:=by
 cases s; cases t; simp only[ByteArray.mk.injEq]; exact Array.toList_inj.1 h
theorem CC.str {T:TypeId} (hT:P.underlying T=some .string):CC P T BI 1 where
 one h h':=by
  obtain⟨s,rfl,rfl⟩:=h;obtain⟨t,rfl,O⟩:=h';rw[Y5 O]
 chk h d hd e w':=by
  obtain⟨s,rfl,rfl⟩:=h;obtain⟨n,rfl⟩:∃ n,d=n+1:=⟨d - 1, by omega⟩
  show (Instr.checkKey e (n+1) T (.string s)).run P w'=_;simp[Instr.checkKey,run_underlying hT]
 bits h d hd:=by
  obtain⟨s,rfl,rfl⟩:=h;show Instr.sameBits d (.string s) (.string s)=true;have h:(s==s)=true:=by show (s.data==s.data)=true; simp
  cases d <;> simp only[Instr.sameBits,h]
 eq:=EqR.str hT
 deep:=rfl
 find:=⟨_,hT,.inr λ{S w cs cs' x y} h h'=>by
  obtain⟨s,rfl,rfl⟩:=h;obtain⟨t,rfl,rfl⟩:=h';show Instr.sameNow .string (.string s) (.string t)=_;simp only[Instr.sameNow,Option.some.injEq];show (s.data==t.data)=_;rw[Bool.eq_iff_iff,decide_eq_true_iff,beq_iff_eq]
  exact⟨λh=>by rw[h], λh=>Array.toList_inj.1 h⟩⟩
theorem B5.one' {α:Type} {R:Rep α} (O:∀ {S w S' w' cs cs' x},R.rel S w cs x->R.rel S' w' cs' x->cs=cs') {S w S' w'}:∀ {l:List α} {cs cs'},B5 R S w cs l->B5 R S' w' cs' l->cs=cs'
 | [],cs,cs',h,h'=>by simp only[B5] at h h'; rw[h,h']
 | x::l,cs,cs',h,h'=>by
  obtain⟨c,d,rfl,h2,h3⟩:=h;obtain⟨c',d',rfl,U,a1⟩:=h';rw[O h2 U,B5.one' O h3 a1]
theorem B5.bits {α:Type} [DecidableEq α] {R:Rep α} {T:TypeId} (hK:CC P T R 1) (U:R.agg=false) {S w}:∀ {l:List α} {cs},B5 R S w cs l->∀ u∈cs,∀ d,1<=d->Instr.sameBits d u u=true
 | [],cs,h,u,O=>by simp only[B5] at h; subst h; simp at O
 | x::l,cs,h,u,O=>by
  obtain⟨c,d,rfl,h2,h3⟩:=h;rcases List.mem_append.1 O with O | O
  ·have hl:=R.len h2;rw[R.scal U] at hl
   match c,hl with
   | [v],_ =>
    simp only[List.mem_singleton] at O;subst O;intro d hd
    have:=hK.bits h2 d hd
    simpa [Rep.val,U] using this
  ·exact B5.bits hK U h3 u O
theorem CC.arr {α:Type} [DecidableEq α] {R:Rep α} {T e:TypeId} {n:Nat} {z:Value} {by_:Nat} (hK:CC P e R 1) (hT:P.underlying T=some (.array n e)) (hI:TI P e z R.sz by_) (hTy:BN P e R.agg R.sz) (U:R.agg=false):CC P T (Az n R) 2 where
 one h h':=B5.one' hK.one h h'
 chk {S w cs x} h d hd em w':=by
  obtain⟨d',rfl⟩:∃ d',d=d'+1:=⟨d - 1, by omega⟩
  show (Instr.checkKey em (d'+1) T (.agg cs.toArray)).run P w'=_;rw[Instr.checkKey];simp only[Sem.run_bind,run_underlying hT,Result.andThen_ok];simp only[Std.Legacy.Range.forIn_eq_forIn_range',Std.Legacy.Range.size,Nat.sub_zero,Nat.add_one_sub_one,Nat.div_one];have each:∀ i∈List.range' 0 n,i<x.toList.length:=λi hi=>by simpa using hi
  generalize List.range' 0 n=is at each
  induction is with
  | nil=>simp
  | cons j is O =>
   have hj:=each j (by simp);obtain⟨a,c,dd,e1,e2,e3,-⟩:=B5.split h (List.getElem?_eq_getElem hj);have p1:=Gh (P:=P) (xs:=cs.toArray) (by simpa using e1) e3 hTy w';rw[e2] at p1;have p2:=hK.chk e3 d' (by omega) em w';simp only[List.forIn_cons,Sem.run_bind,CY hI,Result.andThen_ok,p1,p2,Sem.run_pure];exact O (λy hy=>each y (by simp[hy]))
 bits {S w cs x} h d hd:=by
  obtain⟨d',rfl⟩:∃ d',d=d'+1:=⟨d - 1, by omega⟩
  show Instr.sameBits (d'+1) (.agg cs.toArray) (.agg cs.toArray)=true;have hb:=B5.bits hK U h;simp only[Instr.sameBits,beq_self_eq_true,Bool.true_and,List.all_eq_true];intro p hp;obtain⟨u,v⟩:=p;have a1:u=v/\u∈cs:=by
   have:∀ (l:List Value) (u v:Value),(u,v)∈l.zip l->u=v/\u∈l:=by
    intro l
    induction l with
    | nil=>intro u v h; simp at h
    | cons y l O =>
     intro u v h;simp only[List.zip_cons_cons,List.mem_cons,Prod.mk.injEq] at h;rcases h with ⟨rfl,rfl⟩ | h
     ·simp
     ·obtain⟨h1,h2⟩:=O u v h;exact⟨h1, by simp[h2]⟩
   exact this _ _ _ (by simpa using hp)
  obtain⟨rfl,hu⟩:=a1;exact hb u hu d' (by omega)
 eq:=EqR.arr hK.eq hT hI hTy
 deep:=rfl
 find:=⟨_,hT,.inl λv v'=>by cases v <;> cases v' <;> rfl⟩
end
def Du {κ β:Type} (RK:Rep κ) (RV:Rep β) (S:Blk) (w:World):List MapEntry->List (κ × β)->Prop
 | [],[]=>True
 | e::es,p::l=>(RK.vrel S w e.key p.1/\RV.vrel S w e.val p.2)/\Du RK RV S w es l
 | _,_=>False
theorem Du.mono {κ β:Type} {RK:Rep κ} {RV:Rep β} {S S' w w'} (k:Br S S' w w'):∀ {es l},Du RK RV S w es l->Du RK RV S' w' es l
 | [],[],_=>trivial
 | e::es,p::l,h=>⟨⟨h.1.1.mono k,h.1.2.mono k⟩,Du.mono k h.2⟩
 | [],_::_,h=>h.elim
 | _::_,[],h=>h.elim
theorem Du.push {κ β:Type} {RK:Rep κ} {RV:Rep β} {S w}:∀ {es:List MapEntry} {m:List (κ × β)} {e:MapEntry} {k:κ} {x:β},Du RK RV S w es m->RK.vrel S w e.key k->RV.vrel S w e.val x->Du RK RV S w (es++[e]) (m++[(k,x)])
 | [],[],e,k,x,_,O,U=>⟨⟨O,U⟩,trivial⟩
 | e'::es,p::m,e,k,x,h,O,U=>⟨h.1,Du.push h.2 O U⟩
 | [],_::_,_,_,_,h,_,_=>h.elim
 | _::_,[],_,_,_,h,_,_=>h.elim
def Born (es:List MapEntry) (clock:Nat):Prop:=(es.map (·.born)).Nodup/\∀ e∈es,e.born<clock
theorem Born.push {es:List MapEntry} {c:Nat} {e:MapEntry} (h:Born es c) (he:e.born=c):Born (es++[e]) (c+1):=by
 refine⟨?_, λx O=>?_⟩
 ·rw[List.map_append,List.nodup_append];refine⟨h.1, by simp, λa U b hb=>?_⟩;simp only[List.mem_map] at U;obtain⟨x,O,rfl⟩:=U;simp only[List.map_cons,List.map_nil,List.mem_singleton] at hb
  have:=h.2 x O
  omega
 ·rcases List.mem_append.1 O with O | O
  ·have:=h.2 x O; omega
  ·simp only[List.mem_singleton] at O; subst O; omega
theorem Born.modify {es:List MapEntry} {c j:Nat} {f:MapEntry->MapEntry} (h:Born es c) (U:∀ e,(f e).born=e.born):Born (es.modify j f) c:=by
 have O:(es.modify j f).map (·.born)=es.map (·.born):=by
  apply List.ext_getElem?
  intro i;simp only[List.getElem?_map,List.getElem?_modify]
  cases es[i]? with
  | none=>rfl
  | some x=>by_cases h:j=i <;> simp[h,U]
 refine⟨by rw[O]; exact h.1, λx hx=>?_⟩
 have:x.born∈(es.modify j f).map (·.born):=List.mem_map.2 ⟨x,hx,rfl⟩
 rw[O] at this;obtain⟨y,hy,e2⟩:=List.mem_map.1 this
 have:=h.2 y hy
 omega
theorem Born.erase {es:List MapEntry} {c j:Nat} (h:Born es c):Born (es.eraseIdx j) c:=by
 have O:(es.eraseIdx j).Sublist es:=List.eraseIdx_sublist _ _;exact⟨h.1.sublist (O.map _), λx U=>h.2 x (O.subset U)⟩
def mapR {κ β:Type} (RK:Rep κ) (RV:Rep β):Rep (List (κ × β)) where
 sz:=1
 agg:=false
 rel S w cs m:=∃ b es clock,cs=[.map (some b)]/\S b/\w.heap[b]? = some (.map es clock)/\Du RK RV S w es.toList m/\Born es.toList clock
 len h:=by obtain⟨b,es,clock,rfl,_⟩:=h; rfl
 one h:=by obtain⟨b,es,clock,rfl,_⟩:=h; intro u O; simp at O; subst O; rfl
 scal _:=rfl
 mono k h:=by
  obtain⟨b,es,clock,h1,U,h3,h4,h5⟩:=h;exact⟨b,es,clock,h1,(k b U).1,(k b U).2.trans h3,h4.mono k,h5⟩
def AO.map {κ β:Type} (RK:Rep κ) (RV:Rep β) (m:List (κ × β)):AO where
 nil _ _ _:=False
 nilm _ h:=h
 nilb h:=h.elim
 rel S w v o:=∃ b es clock,v=.map (some b)/\o=.map es clock/\Du RK RV S w es.toList m/\Born es.toList clock
 mono k h:=by obtain⟨b,es,clock,O,U,h3,h4⟩:=h; exact⟨b,es,clock,O,U,h3.mono k,h4⟩
theorem OL {κ β:Type} {RK:Rep κ} {RV:Rep β} {m S w v} (h:(AO.map RK RV m).holds S w v):∃ b es clock,v=.map (some b)/\w.heap[b]? = some (.map es clock)/\Du RK RV S w es.toList m/\Born es.toList clock:=by
 rcases h with h | ⟨b,o,O,U,b',es,clock,rfl,rfl,h3,h4⟩
 ·exact h.elim
 ·simp only[AS,Option.some.injEq] at O;subst O;exact⟨_,es,clock,rfl,U,h3,h4⟩
theorem IT {κ β:Type} {RK:Rep κ} {RV:Rep β} {m S w} {b:Nat} {es:Array MapEntry} {clock:Nat} (O:w.heap[b]? = some (.map es clock)) (U:Du RK RV S w es.toList m) (h3:Born es.toList clock):(AO.map RK RV m).holds S w (.map (some b)) :=
 .inr ⟨b,_,rfl,O,b,es,clock,rfl,rfl,U,h3⟩
section
variable {P:Program} {κ β:Type} [DecidableEq κ] {RK:Rep κ} {RV:Rep β} {K:TypeId} {n:Nat}
def fnd (k:κ):List MapEntry->List (κ × β)->Nat->Option (Nat × Value)
 | e::es,p::m,i=>if k=p.1 then some (i,e.val) else fnd k es m (i+1)
 | _,_,_=>none
theorem Sy (hK:CC P K RK n) {S:Blk} {w:World} {k:κ} {v:Value} (hv:RK.vrel S w v k) (w':World):∀ {es:List MapEntry} {m:List (κ × β)} (i:Nat),Du RK RV S w es m->(Instr.findAsking K v es i).run P w'=.ok (fnd k es m i) w'
 | [],[],i,_=>by simp[Instr.findAsking,fnd]
 | e::es,p::m,i,h=>by
  obtain⟨cs,U,rfl⟩:=hv;obtain⟨cs',h2,h3⟩:=h.1.1;have O:=hK.eq 10000 (Nat.le_of_ble_eq_true hK.deep) S w cs cs' k p.1 U h2 w';have O:(Op.equal K (RK.val cs) e.key).run P w'=.ok (decide (k=p.1)) w':=by rw[h3]; exact O
  simp only[Instr.findAsking,Sem.run_bind,O,Result.andThen,fnd];by_cases hk:k=p.1
  ·simp[hk]
  ·simp[hk,Sy hK ⟨cs,U,rfl⟩ w' (i+1) h.2]
 | [],_::_,i,h=>h.elim
 | _::_,[],i,h=>h.elim
theorem Sz {de:TypeDesc} {S:Blk} {w:World} (O:∀ {S w cs cs' x y},RK.rel S w cs x->RK.rel S w cs' y->Instr.sameNow de (RK.val cs) (RK.val cs')=some (decide (x=y))) {k:κ} {v:Value} (hv:RK.vrel S w v k):∀ {es:List MapEntry} {m:List (κ × β)} (i:Nat),Du RK RV S w es m->Instr.findNow de v es i=some (fnd k es m i)
 | [],[],i,_=>by simp[Instr.findNow,fnd]
 | e::es,p::m,i,h=>by
  obtain⟨cs,U,rfl⟩:=hv;obtain⟨cs',h2,h3⟩:=h.1.1;have hq:=O U h2;rw[<- h3] at hq;simp only[Instr.findNow,hq,fnd];by_cases hk:k=p.1
  ·simp[hk]
  ·simp[hk,Sz O ⟨cs,U,rfl⟩ (i+1) h.2]
 | [],_::_,i,h=>h.elim
 | _::_,[],i,h=>h.elim
theorem OM (hK:CC P K RK n) {S:Blk} {w:World} {k:κ} {v:Value} (U:RK.vrel S w v k) (w':World) {es:List MapEntry} {m:List (κ × β)} (h:Du RK RV S w es m):(Instr.findKey K v es).run P w'=.ok (fnd k es m 0) w':=by
 obtain⟨de,h1,O⟩:=hK.find;unfold Instr.findKey;simp only[Sem.run_bind,run_underlying h1,Result.andThen];rcases O with O | O
 ·match es,m,h with
  | [],[],_=>simp[Instr.findNow,fnd]
  | e::es,p::m,h =>
   have:Instr.findNow de v (e::es) 0=none:=by simp[Instr.findNow,O]
   simp only[this];exact Sy hK U w' 0 h
 ·rw[Sz O U 0 h]; rfl
theorem Lr {k:κ}:∀ {es:List MapEntry} {m:List (κ × β)} {i:Nat} {S w},Du RK RV S w es m->fnd k es m i=none->Bv m k=none/\(∀ x,D4 m k x=m++[(k,x)])/\DQ m k=m
 | [],[],i,S,w,_,_=>⟨rfl, λ_=>rfl,rfl⟩
 | e::es,p::m,i,S,w,h,O=>by
  simp only[fnd] at O
  split at O
  ·cases O
  ·rename_i U;obtain⟨h1,h2,h3⟩:=Lr h.2 O;refine⟨by simp[Bv,U,h1], λx=>by simp[D4,U,h2], by simp[DQ,U,h3]⟩
 | [],_::_,i,_,_,h,_=>h.elim
 | _::_,[],i,_,_,h,_=>h.elim
theorem Ls {k:κ}:∀ {es:List MapEntry} {m:List (κ × β)} {i j:Nat} {u:Value} {S w},Du RK RV S w es m->fnd k es m i=some (j,u) ->
  i<=j/\∃ e x,es[j - i]? = some e/\e.val=u/\Bv m k=some x/\RV.vrel S w e.val x/\RK.vrel S w e.key k /\
   (∀ S' w' v y,Br S S' w w'->RV.vrel S' w' v y->Du RK RV S' w' (es.modify (j - i) λe=>{ e with val:=v }) (D4 m k y)) /\
   Du RK RV S w (es.eraseIdx (j - i)) (DQ m k)
 | e::es,p::m,i,j,u,S,w,h,U=>by
  simp only[fnd] at U
  split at U
  ·rename_i O;simp only[Option.some.injEq,Prod.mk.injEq] at U;obtain⟨rfl,rfl⟩:=U;refine⟨Nat.le_refl _,e,p.2, by simp,rfl, by simp[Bv,O],h.1.2, by rw[O]; exact h.1.1, λS' w' v y st hv=>?_,?_⟩
   ·simp only[Nat.sub_self,List.modify_zero_cons,D4,O,if_true];exact⟨⟨h.1.1.mono st,hv⟩,h.2.mono st⟩
   ·simp only[Nat.sub_self,List.eraseIdx_cons_zero,DQ,O,if_true];exact h.2
  ·rename_i O;obtain⟨h1,e',x,h2,h3,h4,h5,h6,h7,h8⟩:=Ls h.2 U;have hj:j - i=(j - (i+1))+1:=by omega
   refine⟨by omega,e',x, by rw[hj]; simpa using h2,h3, by simp[Bv,O,h4],h5,h6, λS' w' v y st hv=>?_,?_⟩
   ·rw[hj,List.modify_succ_cons];simp only[D4,O,if_false];exact⟨⟨h.1.1.mono st,h.1.2.mono st⟩,h7 S' w' v y st hv⟩
   ·rw[hj,List.eraseIdx_cons_succ];simp only[DQ,O,if_false];exact⟨h.1,h8⟩
 | [],[],i,j,u,_,_,_,U=>by cases U
 | [],_::_,i,j,u,_,_,h,_=>h.elim
 | _::_,[],i,j,u,_,_,h,_=>h.elim
end
section
variable {C:World->World->Prop} {ρ:Type} {P:Program} {Γ:Ctx} {l:AR} {res:Res} {m:Option ρ} {os rest:List Oper} {N:ρ->Exit->Act->World->Prop}
 {d:Tmp} {ty:TypeId} {pos:String} {after:Array Edge} {g:Option (Nat × Bool)} {κ β:Type}
theorem Gi {w:World} {b:Nat} {o:Obj}:w.grownBy { w with heap:=w.heap.setIfInBounds b o } (some b):=by
 refine⟨rfl,rfl,rfl, by simp, λk hk O=>?_⟩;have O:k≠b:=λe=>O (by rw[e]);simp only[];rw[Array.getElem?_setIfInBounds_ne (λe=>O e.symm)]
theorem mkm (RK:Rep κ) (RV:Rep β) (r:Nat) {hint:Option Operand} {T K V:TypeId} (hh:hint=none\/∃ y n,hint=some y/\opE l y=some (.rd A3 n)) (hT:P.underlying T=some (.map K V)):Eff P Γ l res ⟨some d,.makeMap T hint,ty,pos,after,g⟩ r (λv=>(v,.map RK RV [])):=λa w U=>by
 have O:(execOp a.eval ⟨some d,.makeMap T hint,ty,pos,after,g⟩).run P w=.ok (.value (.map (some w.heap.size))) (w.alloc (.map #[] 0)):=by
  rcases hh with rfl | ⟨y,n,rfl,hy⟩
  ·rfl
  ·have e1:=Ci (U.vl hy);have e2:(Instr.makeMap T (some (a.eval y))).run P w=.ok (.map (some w.heap.size)) (w.alloc (.map #[] 0)):=by
    rw[e1];unfold Instr.makeMap;simp only[Sem.run_bind,run_underlying hT,Result.andThen];rfl
   simp[execOp,e2]
 exact⟨_,_,O,U.upd r (c:=.map RK RV []) (v:=.map (some w.heap.size)) (Fm w _) (by simp) (λbb a1=>.inr (by simp[AS] at a1; omega)) (λS' k'=>IT (es:=#[]) (clock:=0) (heap_alloc_new _ _) trivial ⟨by simp, by simp⟩),rfl,none,Fm w _, by simp⟩
inductive Mp {κ β:Type} (RK:Rep κ) (RV:Rep β) (res:Res) (ws:List Nat):Ent->List (κ × β)->Prop
 | rd {m:List (κ × β)}:Mp RK RV res ws (.rd (mapR RK RV) m) m
 | own {v:Value} {m:List (κ × β)} (r:Nat) (h:lr res r=some (v,.map RK RV m)) (hw:ws.contains r=false):Mp RK RV res ws (.val v) m
theorem Mp.get {ws:List Nat} [LC C res ws] {RK:Rep κ} {RV:Rep β} {E:Ent} {mm:List (κ × β)} (h:Mp RK RV res ws E mm) {a:Act} {w:World} (ha:Sta Γ l res a w) {v:Value} (hv:E.holds (Shr Γ.H res w) w v) :
  ∃ b es clock,v=.map (some b)/\Du RK RV (Shr Γ.H res w) w es.toList mm/\∀ w',C w w'->w'.heap[b]? = some (.map es clock):=by
 cases h with
 | rd =>
  obtain⟨cs,⟨b,es,clock,U,h2,h3,h4,h5⟩,h6⟩:=hv;subst U;exact⟨b,es,clock,h6,h4, λw' O=>(CW.shr O h2).trans h3⟩
 | own r h hw =>
  obtain⟨rfl,-⟩:=hv;obtain⟨b,es,clock,rfl,U,h2,h3⟩:=OL (ha.conts r _ _ h);exact⟨b,es,clock,rfl,h2, λw' O=>(CW.at O ha h rfl hw).trans U⟩
variable {ro:Option Nat} {A:Asn} {Q:ρ->Exit->Act->World->Prop} {c:Code} {e:Exit} {l0:AR} {res0:Res} {ws:List Nat} {fuel:Nat} {listed:Array Bool}
theorem EsV {r:Nat} {op:Op} {x:Value × AO} (O:∀ a w,Sta Γ l res a w->∃ w' u,(execOp a.eval ⟨none,op,ty,pos,after,none⟩).run P w=.ok (.value u) w'/\Sta Γ l ((r,some x)::res) a w')
  (k:GL P os (Sta Γ l ((r,some x)::res)) rest N m):GL P os (Sta Γ l res) (⟨none,op,ty,pos,after,none⟩::rest) N m:=λa w U ρ hm=>by
 obtain⟨w',u,h1,h2⟩:=O a w U;exact st (Ds rfl) h1 (k _ w' h2 ρ hm)
variable [DecidableEq κ]
theorem mup' {RK:Rep κ} {RV:Rep β} {mm:List (κ × β)} {x y z:Operand} {v:Value} {k:κ} {b:β} {T K V:TypeId} {n:Nat} {a:Act} {w:World} (ha:Sta Γ l res a w) (r:Nat) (hx:opE l x=some (.val v)) (hr:lr res r=some (v,.map RK RV mm)) (hy:opE l y=some (.rd RK k)) (hz:opE l z=some (.rd RV b)) (hK:CC P K RK n) (hT:P.underlying T=some (.map K V)) :
  ∃ w',(Instr.mapUpdate T (a.eval x) (a.eval y) (a.eval z)).run P w=.ok () w'/\(Sta Γ l ((r,some (v,.map RK RV (D4 mm k b)))::res) a w'/\Br (Shr Γ.H res w) (Shr Γ.H ((r,some (v,.map RK RV (D4 mm k b)))::res) w') w w')/\Grew res r w w':=by
 have e1:=(ha.vl hx).1;obtain⟨bk,es,clock,rfl,h1,h2,h3⟩:=OL (ha.conts r v _ hr);have ad:=ha.vl hy;have a8:=ha.vl hz;obtain⟨cs,U,a1⟩:=ad;have a2:=hK.chk U 10000 (Nat.le_of_ble_eq_true hK.deep) false w;rw[<- a1] at a2;have hf:=OM hK ⟨cs,U,a1⟩ w h2;have aa:=hK.bits U 10000 (Nat.le_of_ble_eq_true hK.deep);rw[<- a1] at aa;have ab:bk<w.heap.size:=(Array.getElem?_eq_some_iff.1 h1).1
 cases hq:fnd k es.toList mm 0 with
 | none =>
  obtain⟨-,q2,-⟩:=Lr h2 hq;refine⟨{ w with heap:=w.heap.setIfInBounds bk (.map (es.push { key:=a.eval y,val:=a.eval z,born:=clock }) (clock+1)) },?_,?_,some bk,Gi, λbb O=>⟨_,_,hr, by cases O; rfl⟩⟩
  ·rw[e1];unfold Instr.mapUpdate;simp only[Sem.run_bind,run_underlying hT,Result.andThen,MapKept.run_getObj_map h1,a2,hf,hq,MapKept.run_setObj_map _ h1]
  ·refine ha.upd r (v:=.map (some bk)) Gi (λbb O=>⟨_,_,hr, by cases O; rfl⟩) (λbb O=>.inl ⟨_,_,hr,O⟩) (λS' k'=>IT (es:=es.push { key:=a.eval y,val:=a.eval z,born:=clock }) (clock:=clock+1) (by simp[ab]) ?_ ?_)
   ·rw[q2 b,Array.toList_push];exact(h2.mono k').push (Rep.vrel.mono ⟨cs,U,a1⟩ k') (Rep.vrel.mono a8 k')
   ·rw[Array.toList_push]; exact h3.push rfl
 | some ju =>
  obtain⟨j,u⟩:=ju;obtain⟨-,e,x0,q1,q2,q3,q4,q5,q6,q7⟩:=Ls h2 hq;simp only[Nat.sub_zero] at q1 q6;have hj:es[j]? = some e:=by rw[<- Array.getElem?_toList]; exact q1
  have a6:e.key=a.eval y:=by
   obtain⟨cs',h4,h5⟩:=q5;rw[h5,a1,hK.one h4 U]
  have a7:Instr.sameBits 10000 e.key (a.eval y)=true:=by rw[a6]; exact aa
  have ac:es.modify j (λe=>{ e with key:=a.eval y,val:=a.eval z })=es.modify j (λe=>{ e with val:=a.eval z }):=by
   apply Array.toList_inj.1
   rw[Array.toList_modify,Array.toList_modify]
   apply List.ext_getElem?
   intro i;simp only[List.getElem?_modify];by_cases hi:j=i
   ·subst hi;rw[q1]; simp[a6]
   ·simp[hi]
  refine⟨{ w with heap:=w.heap.setIfInBounds bk (.map (es.modify j λe=>{ e with val:=a.eval z }) clock) },?_,?_,some bk,Gi, λbb O=>⟨_,_,hr, by cases O; rfl⟩⟩
  ·rw[e1];unfold Instr.mapUpdate;simp only[Sem.run_bind,run_underlying hT,Result.andThen,MapKept.run_getObj_map h1,a2,hf,hq,hj,Option.map_some,Option.getD_some,Instr.keyThatStays,a7,if_true,Sem.run_pure];rw[ac,MapKept.run_setObj_map _ h1]
  ·refine ha.upd r (v:=.map (some bk)) Gi (λbb O=>⟨_,_,hr, by cases O; rfl⟩) (λbb O=>.inl ⟨_,_,hr,O⟩) (λS' k'=>IT (es:=es.modify j λe=>{ e with val:=a.eval z }) (clock:=clock) (by simp[ab]) ?_ ?_)
   ·rw[Array.toList_modify];exact q6 S' _ _ b k' (Rep.vrel.mono a8 k')
   ·rw[Array.toList_modify]; exact h3.modify (λ_=>rfl)
theorem mup {RK:Rep κ} {RV:Rep β} {mm:List (κ × β)} {x y z:Operand} {v:Value} {k:κ} {b:β} {T K V:TypeId} {n:Nat} (r:Nat) (O:opE l x=some (.val v)) (U:lr res r=some (v,.map RK RV mm)) (hy:opE l y=some (.rd RK k)) (hz:opE l z=some (.rd RV b)) (hK:CC P K RK n) (hT:P.underlying T=some (.map K V)) :
  EffS P Γ l res ⟨none,.mapUpdate T x y z,ty,pos,after,g⟩ r (v,.map RK RV (D4 mm k b)):=λa w ha=>by
 obtain⟨w',h1,h2,h3⟩:=mup' ha r O U hy hz hK hT;exact⟨w', by simp[execOp,h1],h2,h3⟩
theorem mdeV {RK:Rep κ} {RV:Rep β} {mm:List (κ × β)} {x y:Operand} {v:Value} {k:κ} {T K V:TypeId} {n:Nat} {at_:Array TypeId} (r:Nat) (hx:opE l x=some (.val v)) (U:lr res r=some (v,.map RK RV mm)) (hy:opE l y=some (.rd RK k)) (hK:CC P K RK n) (a2:at_[0]? = some T) (hT:P.underlying T=some (.map K V)) :
  ∀ a w,Sta Γ l res a w->∃ w' u,(execOp a.eval ⟨none,.call ⟨.builtin .delete,#[x,y],at_⟩,ty,pos,after,none⟩).run P w=.ok (.value u) w'/\(Sta Γ l ((r,some (v,.map RK RV (DQ mm k)))::res) a w'/\Br (Shr Γ.H res w) (Shr Γ.H ((r,some (v,.map RK RV (DQ mm k)))::res) w') w w')/\Grew res r w w':=λa w ha=>by
 have e1:=(ha.vl hx).1;obtain⟨bk,es,clock,rfl,h1,h2,h3⟩:=OL (ha.conts r v _ U);have aa:=ha.vl hy;obtain⟨cs,a6,a7⟩:=aa;have a1:=λem=>hK.chk a6 10000 (Nat.le_of_ble_eq_true hK.deep) em w;rw[<- a7] at a1;have hf:=OM hK ⟨cs,a6,a7⟩ w h2;have a8:bk<w.heap.size:=(Array.getElem?_eq_some_iff.1 h1).1
 cases hq:fnd k es.toList mm 0 with
 | none =>
  obtain⟨-,-,q2⟩:=Lr h2 hq;refine⟨{ w with heap:=w.heap.setIfInBounds bk (.map es clock) },.tuple #[],?_,?_,some bk,Gi, λbb O=>⟨_,_,U, by cases O; rfl⟩⟩
  ·simp[execOp,resolve,invoke,builtin,Builtin.delete_,e1,a2,run_underlying hT,MapKept.run_getObj_map h1,a1,hf,hq,MapKept.run_setObj_map _ h1,Result.andThen]
  ·refine ha.upd r (v:=.map (some bk)) Gi (λbb O=>⟨_,_,U, by cases O; rfl⟩) (λbb O=>.inl ⟨_,_,U,O⟩) (λS' k'=>IT (es:=es) (clock:=clock) (by simp[a8]) ?_ h3);rw[q2]; exact h2.mono k'
 | some ju =>
  obtain⟨j,u⟩:=ju;obtain⟨-,e,x0,q1,q2,q3,q4,q5,q6,q7⟩:=Ls h2 hq;simp only[Nat.sub_zero] at q1 q7;refine⟨{ w with heap:=w.heap.setIfInBounds bk (.map (es.eraseIdxIfInBounds j) clock) },.tuple #[],?_,?_,some bk,Gi, λbb O=>⟨_,_,U, by cases O; rfl⟩⟩
  ·simp[execOp,resolve,invoke,builtin,Builtin.delete_,e1,a2,run_underlying hT,MapKept.run_getObj_map h1,a1,hf,hq,MapKept.run_setObj_map _ h1,Result.andThen]
  ·have hj:j<es.size:=by
    have:=(List.getElem?_eq_some_iff.1 q1).1
    simpa using this
   refine ha.upd r (v:=.map (some bk)) Gi (λbb O=>⟨_,_,U, by cases O; rfl⟩) (λbb O=>.inl ⟨_,_,U,O⟩) (λS' k'=>IT (es:=es.eraseIdxIfInBounds j) (clock:=clock) (by simp[a8]) ?_ ?_)
   ·have e9:(es.eraseIdxIfInBounds j).toList=es.toList.eraseIdx j:=by rw[Array.eraseIdxIfInBounds_eq,dif_pos hj,Array.toList_eraseIdx]
    rw[e9]; exact q7.mono k'
   ·have e9:(es.eraseIdxIfInBounds j).toList=es.toList.eraseIdx j:=by rw[Array.eraseIdxIfInBounds_eq,dif_pos hj,Array.toList_eraseIdx]
    rw[e9]; exact h3.erase
theorem SA {ws:List Nat} [LC C res ws] {RK:Rep κ} {RV:Rep β} {E:Ent} {mm:List (κ × β)} {x y:Operand} {k:κ} {x0:β} {T K V:TypeId} {n by_:Nat} {z:Value} (hx:opE l x=some E) (hm:Mp RK RV res ws E mm) (hy:opE l y=some (.rd RK k)) (hK:CC P K RK n) (hT:P.underlying T=some (.map K V)) (hV:TI P V z RV.sz by_) (hz:Zr RV z.cells.toList x0) (a6:z=RV.val z.cells.toList) {a:Act} {w:World} (ha:Sta Γ l res a w) :
  ∃ v,RV.vrel (Shr Γ.H res w) w v ((Bv mm k).getD x0)/\∀ c w',C w w'->(Instr.lookup T (a.eval x) (a.eval y) c).run P w'=.ok (if c then .tuple #[v,.bool (Bv mm k).isSome] else v) w':=by
 obtain⟨b,es,clock,h1,h2,h3⟩:=hm.get (C:=C) ha (ha.vl hx);obtain⟨cs,a1,a2⟩:=ha.vl hy;have O:=λem w'=>hK.chk a1 10000 (Nat.le_of_ble_eq_true hK.deep) em w';rw[<- a2] at O;have hf:=λw'=>OM hK ⟨cs,a1,a2⟩ w' h2
 cases hq:fnd k es.toList mm 0 with
 | none =>
  obtain⟨q1,-,-⟩:=Lr h2 hq;refine⟨z,⟨_, by rw[q1]; exact hz _ _,a6⟩, λc w' U=>?_⟩;rw[h1,q1];unfold Instr.lookup;simp only[Sem.run_bind,run_underlying hT,Result.andThen,MapKept.run_getObj_map (h3 w' U),Sem.run_pure,O,hf,hq,FF hV];rfl
 | some ju =>
  obtain⟨j,u⟩:=ju;obtain⟨-,e,x1,q1,q2,q3,q4,q5,q6,q7⟩:=Ls h2 hq;refine⟨u, by rw[q3,<- q2]; exact q4, λc w' U=>?_⟩;rw[h1,q3];unfold Instr.lookup;simp only[Sem.run_bind,run_underlying hT,Result.andThen,MapKept.run_getObj_map (h3 w' U),Sem.run_pure,O,hf,hq];rfl
theorem mlk {ws:List Nat} [LC C res ws] {RK:Rep κ} {RV:Rep β} {E:Ent} {mm:List (κ × β)} {x y:Operand} {k:κ} {x0:β} {T K V:TypeId} {n by_:Nat} {z:Value} (hx:opE l x=some E) (hm:Mp RK RV res ws E mm) (hy:opE l y=some (.rd RK k)) (hK:CC P K RK n) (hT:P.underlying T=some (.map K V)) (hV:TI P V z RV.sz by_) (hz:Zr RV z.cells.toList x0) (O:z=RV.val z.cells.toList) :
  Run C P Γ l res ⟨some d,.lookup T x y false,ty,pos,after,g⟩ (.rd RV ((Bv mm k).getD x0)):=λa w ha=>by
 obtain⟨v,h1,h2⟩:=SA (C:=C) hx hm hy hK hT hV hz O ha;exact⟨v, λw' U=>by simp[execOp,h2 false w' U],h1⟩
theorem mlk2 {ws:List Nat} [LC C res ws] {RK:Rep κ} {RV:Rep β} {E:Ent} {mm:List (κ × β)} {x y:Operand} {k:κ} {x0:β} {T K V:TypeId} {n by_:Nat} {z:Value} (hx:opE l x=some E) (hm:Mp RK RV res ws E mm) (hy:opE l y=some (.rd RK k)) (hK:CC P K RK n) (hT:P.underlying T=some (.map K V)) (hV:TI P V z RV.sz by_) (hz:Zr RV z.cells.toList x0) (O:z=RV.val z.cells.toList) :
  Run C P Γ l res ⟨some d,.lookup T x y true,ty,pos,after,g⟩ (.tup [.rd RV ((Bv mm k).getD x0),.rd Ac (Bv mm k).isSome]):=λa w ha=>by
 obtain⟨v,h1,h2⟩:=SA (C:=C) hx hm hy hK hT hV hz O ha;exact⟨_, λw' U=>by simp[execOp,h2 true w' U],[v,.bool (Bv mm k).isSome],⟨h1,EB,trivial⟩,rfl⟩
end
end
section
def ON (em:Bool) (d:Nat) (xs:Array Value) (f:Field) (_:PUnit):Sem (ForInStep PUnit):=if f.name ≠ "_" then do
  let v <- part f.type xs f.offset
  Instr.checkKey em d f.type v
  pure (ForInStep.yield PUnit.unit)
 else pure (ForInStep.yield PUnit.unit)
structure KeyF {γ:Type} (P:Program) (fs:List Field) (o:Nat) (R:Rep γ) (k:Nat):Prop where
 one:∀ {S w S' w' cs cs' x},R.rel S w cs x->R.rel S' w' cs' x->cs=cs'
 chk:∀ {S w x} {a cs:List Value},a.length=o->R.rel S w cs x->∀ d,k<=d->∀ em w',(forIn fs PUnit.unit (ON em d (a++cs).toArray)).run P w'=.ok PUnit.unit w'
 bits:∀ {S w cs x},R.rel S w cs x->∀ u∈cs,∀ d,k<=d->Instr.sameBits d u u=true
theorem KeyF.nil {P:Program} {o:Nat}:KeyF P [] o Dc 0 where
 one h h':=by
  have h:_=[]:=h;have h':_=[]:=h';rw[h,h']
 chk ho h d hd em w':=by simp[Sem.run_pure]
 bits h u O:=by
  have h:_=[]:=h;subst h; simp at O
theorem SB:∀ (l:List Value) (u:Value),u∈l->(u,u)∈l.zip l
 | y::l,u,h=>by
  simp only[List.zip_cons_cons,List.mem_cons,Prod.mk.injEq] at h ⊢;rcases h with rfl | h
  ·exact .inl ⟨rfl,rfl⟩
  ·exact .inr (SB l u h)
theorem CC.cells {κ:Type} [DecidableEq κ] {P:Program} {T:TypeId} {R:Rep κ} {k:Nat} (h:CC P T R k) {S w cs x} (U:R.rel S w cs x):∀ u∈cs,∀ d,k<=d->Instr.sameBits d u u=true:=λu hu d hd=>by
 have hb:=h.bits U (d+1) (by omega);by_cases O:R.agg=true
 ·have e:R.val cs=.agg cs.toArray:=by simp[Rep.val,O]
  rw[e] at hb;simp only[Instr.sameBits,beq_self_eq_true,Bool.true_and,List.all_eq_true] at hb;exact hb (u,u) (SB _ _ hu)
 ·have O:R.agg=false:=by simpa using O
  have hl:=R.len U;rw[R.scal O] at hl
  match cs,hl with
  | [v],_ =>
   simp only[List.mem_singleton] at hu;subst hu
   have:=h.bits U d hd
   simpa [Rep.val,O] using this
theorem KeyF.cons {α β:Type} [DecidableEq α] {P:Program} {R:Rep α} {R2:Rep β} {f:Field} {fs:List Field} {o k k2:Nat} (h1:CC P f.type R k) (hT:BN P f.type R.agg R.sz) (ho:f.offset=o) (hn:(f.name == "_")=false) (h2:KeyF P fs (o+R.sz) R2 k2):KeyF P (f::fs) o (BT R R2) (max k k2) where
 one h h':=by
  obtain⟨c,r,rfl,e2,e3⟩:=h;obtain⟨c',r',rfl,f2,f3⟩:=h';rw[h1.one e2 f2,h2.one e3 f3]
 chk {S w x a cs} hao h d hd em w':=by
  obtain⟨c,r,rfl,e2,e3⟩:=h;have hlc:=R.len e2;have p1:=Gh (P:=P) (xs:=(a++(c++r)).toArray) (a:=a) (c:=c) (d:=r) (by simp) e2 hT w';rw[hao] at p1;have p2:=h1.chk e2 d (by omega) em w';have ih:=h2.chk (a:=a++c) (cs:=r) (by simp[hao,hlc]) e3 d (by omega) em w';rw[List.append_assoc] at ih;have hne:f.name ≠ "_" := by simpa using hn
  simp only[List.forIn_cons,Sem.run_bind];unfold ON;simp only[if_pos hne,Sem.run_bind,ho,p1,p2,Result.andThen_ok,Sem.run_pure];exact ih
 bits h u hu d hd:=by
  obtain⟨c,r,rfl,e2,e3⟩:=h;rcases List.mem_append.1 hu with hu | hu
  ·exact h1.cells e2 u hu d (by omega)
  ·exact h2.bits e3 u hu d (by omega)
theorem CC.struct {β γ:Type} [DecidableEq β] {P:Program} {R:Rep γ} {g:β->γ} {T:TypeId} {fs:Array Field} {k k2:Nat} (hF:KeyF P fs.toList 0 R k) (hT:P.underlying T=some (.struct fs)) (O:R.agg=true) (hE:EqR P T (CH g R) k2) (hk:Nat.ble k2 (k+1)=true) (hd:Nat.ble (k+1) 10000=true):CC P T (CH g R) (k+1) where
 one h h':=hF.one h h'
 chk {S w cs x} h d hd em w':=by
  obtain⟨d',rfl⟩:∃ d',d=d'+1:=⟨d - 1, by omega⟩
  have U:(CH g R).val cs=.agg cs.toArray:=by simp[Rep.val,CH,O]
  rw[U,Instr.checkKey];simp only[Sem.run_bind,run_underlying hT,Result.andThen_ok];rw[<- Array.forIn_toList]
  have:=hF.chk (a:=[]) (cs:=cs) rfl h d' (by omega) em w'
  rw[List.nil_append] at this;unfold ON at this;rw[this];rfl
 bits {S w cs x} h d hd:=by
  obtain⟨d',rfl⟩:∃ d',d=d'+1:=⟨d - 1, by omega⟩
  have U:(CH g R).val cs=.agg cs.toArray:=by simp[Rep.val,CH,O]
  rw[U];have hb:=hF.bits h;simp only[Instr.sameBits,beq_self_eq_true,Bool.true_and,List.all_eq_true];intro p hp;obtain⟨u,v⟩:=p;have a1:u=v/\u∈cs:=by
   have:∀ (l:List Value) (u v:Value),(u,v)∈l.zip l->u=v/\u∈l:=by
    intro l
    induction l with
    | nil=>intro u v h; simp at h
    | cons y l ih =>
     intro u v h;simp only[List.zip_cons_cons,List.mem_cons,Prod.mk.injEq] at h;rcases h with ⟨rfl,rfl⟩ | h
     ·simp
     ·obtain⟨h1,h2⟩:=ih u v h;exact⟨h1, by simp[h2]⟩
   exact this _ _ _ (by simpa using hp)
  obtain⟨rfl,hu⟩:=a1;exact hb u hu d' (by omega)
 eq:=λd hd=>hE d (by have:=Nat.le_of_ble_eq_true hk; omega)
 deep:=hd
 find:=⟨_,hT,.inl λv v'=>by cases v <;> cases v' <;> rfl⟩
end
section
theorem mixed:Tryz.prog.follows .mixedOrders=true:=by kernel_rfl
theorem sc2:Sc Tryz.prog 2:=⟨_,underlying2,trivial⟩
theorem ti2:TI Tryz.prog 2 (.int .i64 (0)) 1 8:=TI.mk' (by kernel_rfl)
theorem sc3:Sc Tryz.prog 3:=⟨_,underlying3,trivial⟩
theorem ti3:TI Tryz.prog 3 (.int .i64 (0)) 1 8:=TI.mk' (by kernel_rfl)
theorem sc4:Sc Tryz.prog 4:=⟨_,underlying4,trivial⟩
theorem ti4:TI Tryz.prog 4 (.bool false) 1 1:=TI.mk' (by kernel_rfl)
theorem sc5:Sc Tryz.prog 5:=⟨_,underlying5,trivial⟩
theorem ti5:TI Tryz.prog 5 (.int .u8 (0)) 1 1:=TI.mk' (by kernel_rfl)
theorem sc9:Sc Tryz.prog 9:=⟨_,underlying9,trivial⟩
theorem ti9:TI Tryz.prog 9 (.string ByteArray.empty) 1 16:=TI.mk' (by kernel_rfl)
theorem sc22:Sc Tryz.prog 22:=⟨_,underlying22,trivial⟩
theorem Df:TI Tryz.prog 22 (.slice none 0 0) 1 24:=TI.mk' (by kernel_rfl)
theorem ag24:Ag Tryz.prog 24:=⟨_,underlying24,trivial⟩
theorem D7:TI Tryz.prog 24 (.agg #[.slice none 0 0]) 1 24:=TI.mk' (by kernel_rfl)
theorem sc25:Sc Tryz.prog 25:=⟨_,underlying25,trivial⟩
theorem Dm:TI Tryz.prog 25 (.slice none 0 0) 1 24:=TI.mk' (by kernel_rfl)
theorem ag27:Ag Tryz.prog 27:=⟨_,underlying27,trivial⟩
theorem D8:TI Tryz.prog 27 (.agg #[.slice none 0 0]) 1 24:=TI.mk' (by kernel_rfl)
theorem sc28:Sc Tryz.prog 28:=⟨_,underlying28,trivial⟩
theorem AU:TI Tryz.prog 28 (.slice none 0 0) 1 24:=TI.mk' (by kernel_rfl)
theorem ag30:Ag Tryz.prog 30:=⟨_,underlying30,trivial⟩
theorem CE:TI Tryz.prog 30 (.agg #[.int .i64 (0),.slice none 0 0,.slice none 0 0,.slice none 0 0]) 4 80:=TI.mk' (by kernel_rfl)
theorem sc31:Sc Tryz.prog 31:=⟨_,underlying31,trivial⟩
theorem BP:TI Tryz.prog 31 (.slice none 0 0) 1 24:=TI.mk' (by kernel_rfl)
theorem ag33:Ag Tryz.prog 33:=⟨_,underlying33,trivial⟩
theorem ti33:TI Tryz.prog 33 (.agg #[.slice none 0 0,.slice none 0 0]) 2 48:=TI.mk' (by kernel_rfl)
theorem sc36:Sc Tryz.prog 36:=⟨_,underlying36,trivial⟩
theorem CD:TI Tryz.prog 36 (.slice none 0 0) 1 24:=TI.mk' (by kernel_rfl)
theorem sc37:Sc Tryz.prog 37:=⟨_,underlying37,trivial⟩
theorem ti37:TI Tryz.prog 37 (.int .i64 (0)) 1 8:=TI.mk' (by kernel_rfl)
theorem sc51:Sc Tryz.prog 51:=⟨_,underlying51,trivial⟩
theorem B4:TI Tryz.prog 51 (.int .u32 (0)) 1 4:=TI.mk' (by kernel_rfl)
theorem sc52:Sc Tryz.prog 52:=⟨_,underlying52,trivial⟩
theorem CV:TI Tryz.prog 52 (.int .u64 (0)) 1 8:=TI.mk' (by kernel_rfl)
theorem ag54:Ag Tryz.prog 54:=⟨_,underlying54,trivial⟩
theorem Cp:TI Tryz.prog 54 (.agg #[.int .u8 (0),.int .i64 (0),.int .u64 (0),.string ByteArray.empty]) 4 40:=TI.mk' (by kernel_rfl)
theorem ag56:Ag Tryz.prog 56:=⟨_,underlying56,trivial⟩
theorem Cj:TI Tryz.prog 56 (.agg #[.int .u8 (0),.string ByteArray.empty,.int .u8 (0),.int .i64 (0),.int .u64 (0),.string ByteArray.empty]) 6 64:=TI.mk' (by kernel_rfl)
theorem ag58:Ag Tryz.prog 58:=⟨_,underlying58,trivial⟩
theorem DR:TI Tryz.prog 58 (.agg #[.int .u32 (0),.int .u32 (0)]) 2 8:=TI.mk' (by kernel_rfl)
theorem ag60:Ag Tryz.prog 60:=⟨_,underlying60,trivial⟩
theorem Ba:TI Tryz.prog 60 (.agg #[.int .u32 (0),.slice none 0 0,.int .u64 (0),.int .u8 (0),.string ByteArray.empty,.int .u8 (0),.int .i64 (0),.int .u64 (0),.string ByteArray.empty,.int .u32 (0),.int .u32 (0)]) 11 112:=TI.mk' (by kernel_rfl)
theorem ti63:TI Tryz.prog 63 (.agg #[.slice none 0 0]) 1 24:=TI.mk' (by kernel_rfl)
theorem ti65:TI Tryz.prog 65 (.agg #[.slice none 0 0,.int .i64 (0)]) 2 32:=TI.mk' (by kernel_rfl)
theorem ti69:TI Tryz.prog 69 (.nilFunc) 1 8:=TI.mk' (by kernel_rfl)
theorem ag71:Ag Tryz.prog 71:=⟨_,underlying71,trivial⟩
theorem Ak:TI Tryz.prog 71 (.agg #[.int .u8 (0),.int .u8 (0),.int .u8 (0),.int .u8 (0),.int .u8 (0),.int .u8 (0),.int .u8 (0),.int .u8 (0),.int .u8 (0),.int .u8 (0),.int .u8 (0),.int .u8 (0),.int .u8 (0),.int .u8 (0),.int .u8 (0),.int .u8 (0),.int .u8 (0),.int .u8 (0),.int .u8 (0),.int .u8 (0),.int .u8 (0),.int .u8 (0),.int .u8 (0),.int .u8 (0),.int .u8 (0),.int .u8 (0),.int .u8 (0),.int .u8 (0),.int .u8 (0),.int .u8 (0),.int .u8 (0),.int .u8 (0)]) 32 32:=TI.mk' (by kernel_rfl)
theorem ag73:Ag Tryz.prog 73:=⟨_,underlying73,trivial⟩
theorem Cq:TI Tryz.prog 73 (.agg #[.string ByteArray.empty,.int .u8 (0),.int .u8 (0),.int .u8 (0),.int .u8 (0),.int .u8 (0),.int .u8 (0),.int .u8 (0),.int .u8 (0),.int .u8 (0),.int .u8 (0),.int .u8 (0),.int .u8 (0),.int .u8 (0),.int .u8 (0),.int .u8 (0),.int .u8 (0),.int .u8 (0),.int .u8 (0),.int .u8 (0),.int .u8 (0),.int .u8 (0),.int .u8 (0),.int .u8 (0),.int .u8 (0),.int .u8 (0),.int .u8 (0),.int .u8 (0),.int .u8 (0),.int .u8 (0),.int .u8 (0),.int .u8 (0),.int .u8 (0)]) 33 48:=TI.mk' (by kernel_rfl)
theorem ag75:Ag Tryz.prog 75:=⟨_,underlying75,trivial⟩
theorem Cf:TI Tryz.prog 75 (.agg #[.string ByteArray.empty,.int .u8 (0),.int .i64 (0),.int .u64 (0),.string ByteArray.empty,.int .u64 (0),.int .u8 (0),.int .u8 (0),.int .u8 (0),.int .u8 (0),.int .u8 (0),.int .u8 (0),.int .u8 (0),.int .u8 (0),.int .u8 (0),.int .u8 (0),.int .u8 (0),.int .u8 (0),.int .u8 (0),.int .u8 (0),.int .u8 (0),.int .u8 (0),.int .u8 (0),.int .u8 (0),.int .u8 (0),.int .u8 (0),.int .u8 (0),.int .u8 (0),.int .u8 (0),.int .u8 (0),.int .u8 (0),.int .u8 (0),.int .u8 (0),.int .u8 (0),.int .u8 (0),.int .u8 (0),.int .u8 (0),.int .u8 (0)]) 38 96:=TI.mk' (by kernel_rfl)
theorem Y6:Sc Tryz.prog 121:=⟨_,underlying121,trivial⟩
theorem SD:TI Tryz.prog 121 (.map none) 1 8:=TI.mk' (by kernel_rfl)
theorem Y7:Ag Tryz.prog 123:=⟨_,underlying123,trivial⟩
theorem DA:TI Tryz.prog 123 (.agg #[.int .u32 (0),.slice none 0 0,.int .u64 (0),.int .u8 (0),.string ByteArray.empty,.int .u8 (0),.int .i64 (0),.int .u64 (0),.string ByteArray.empty,.int .u32 (0),.int .u32 (0),.int .u8 (0),.int .u8 (0),.int .u8 (0),.int .u8 (0),.int .u8 (0),.int .u8 (0),.int .u8 (0),.int .u8 (0),.int .u8 (0),.int .u8 (0),.int .u8 (0),.int .u8 (0),.int .u8 (0),.int .u8 (0),.int .u8 (0),.int .u8 (0),.int .u8 (0),.int .u8 (0),.int .u8 (0),.int .u8 (0),.int .u8 (0),.int .u8 (0),.int .u8 (0),.int .u8 (0),.int .u8 (0),.int .u8 (0),.int .u8 (0),.int .u8 (0),.int .u8 (0),.int .u8 (0),.int .u8 (0),.int .u8 (0)]) 43 144:=TI.mk' (by kernel_rfl)
theorem Y8:Sc Tryz.prog 156:=⟨_,underlying156,trivial⟩
theorem Lt:TI Tryz.prog 156 (.slice none 0 0) 1 24:=TI.mk' (by kernel_rfl)
theorem Lu:Sc Tryz.prog 169:=⟨_,underlying169,trivial⟩
theorem SE:TI Tryz.prog 169 (.map none) 1 8:=TI.mk' (by kernel_rfl)
theorem Y9:Ag Tryz.prog 183:=⟨_,underlying183,trivial⟩
theorem E5:TI Tryz.prog 183 (.agg #[.int .u32 (0),.int .u32 (0),.int .u32 (0),.int .u32 (0),.int .u32 (0),.int .u32 (0),.int .u32 (0),.int .u32 (0)]) 8 32:=TI.mk' (by kernel_rfl)
theorem OO:Sc Tryz.prog 215:=⟨_,underlying215,trivial⟩
theorem SF:TI Tryz.prog 215 (.slice none 0 0) 1 24:=TI.mk' (by kernel_rfl)
theorem Ya:Ag Tryz.prog 220:=⟨_,underlying220,trivial⟩
theorem Fo:TI Tryz.prog 220 (.agg #[.int .u32 (0),.int .u32 (0),.int .u32 (0),.int .u32 (0),.int .u32 (0),.int .u32 (0),.int .u32 (0),.int .u32 (0),.slice none 0 0,.int .i64 (0)]) 10 64:=TI.mk' (by kernel_rfl)
theorem Yb:Ag Tryz.prog 284:=⟨_,underlying284,trivial⟩
theorem IU:TI Tryz.prog 284 (.agg #[.int .u32 (0),.int .u32 (0),.int .u32 (0),.int .u32 (0),.int .u32 (0),.int .u32 (0),.int .u32 (0),.int .u32 (0),.int .u32 (0),.int .u32 (0),.int .u32 (0),.int .u32 (0),.int .u32 (0),.int .u32 (0),.int .u32 (0),.int .u32 (0),.int .u32 (0),.int .u32 (0),.int .u32 (0),.int .u32 (0),.int .u32 (0),.int .u32 (0),.int .u32 (0),.int .u32 (0),.int .u32 (0),.int .u32 (0),.int .u32 (0),.int .u32 (0),.int .u32 (0),.int .u32 (0),.int .u32 (0),.int .u32 (0),.int .u32 (0),.int .u32 (0),.int .u32 (0),.int .u32 (0),.int .u32 (0),.int .u32 (0),.int .u32 (0),.int .u32 (0),.int .u32 (0),.int .u32 (0),.int .u32 (0),.int .u32 (0),.int .u32 (0),.int .u32 (0),.int .u32 (0),.int .u32 (0),.int .u32 (0),.int .u32 (0),.int .u32 (0),.int .u32 (0),.int .u32 (0),.int .u32 (0),.int .u32 (0),.int .u32 (0),.int .u32 (0),.int .u32 (0),.int .u32 (0),.int .u32 (0),.int .u32 (0),.int .u32 (0),.int .u32 (0),.int .u32 (0)]) 64 256:=TI.mk' (by kernel_rfl)
theorem tu3:Tryz.prog.underlying 3=some (.int .i64):=underlying3
theorem tu5:Tryz.prog.underlying 5=some (.int .u8):=underlying5
theorem tu9:Tryz.prog.underlying 9=some (.string):=underlying9
theorem tu22:Tryz.prog.underlying 22=some (.slice 73):=underlying22
theorem tu25:Tryz.prog.underlying 25=some (.slice 75):=underlying25
theorem tu28:Tryz.prog.underlying 28=some (.slice 71):=underlying28
theorem tu31:Tryz.prog.underlying 31=some (.slice 60):=underlying31
theorem tu36:Tryz.prog.underlying 36=some (.slice 5):=underlying36
theorem tu51:Tryz.prog.underlying 51=some (.int .u32):=underlying51
theorem tu52:Tryz.prog.underlying 52=some (.int .u64):=underlying52
theorem tu71:Tryz.prog.underlying 71=some (.array 32 5):=underlying71
theorem tu118:Tryz.prog.underlying 118=some (.slice 123):=underlying118
theorem tu126:Tryz.prog.underlying 126=some (.slice 36):=underlying126
theorem tu156:Tryz.prog.underlying 156=some (.slice 3):=underlying156
theorem tu183:Tryz.prog.underlying 183=some (.array 8 51):=underlying183
theorem tu215:Tryz.prog.underlying 215=some (.slice 4):=underlying215
theorem tu269:Tryz.prog.underlying 269=some (.slice 51):=underlying269
end
section
structure AT where
 Key:List UInt8
 ID:V3
 deriving DecidableEq,Inhabited
def Bi:Rep AT:=CH (λx=>(x.Key,x.ID,())) (BT BI (BT (Az 32 u8R) Dc))
theorem EH (x:AT):AK Bi x 0 BI x.Key (λy=>{ x with Key:=y }):=(AK.fst).via (λ_=>rfl)
theorem FL (x:AT):AK Bi x 1 (Az 32 u8R) x.ID (λy=>{ x with ID:=y }):=(AK.snd AK.fst).via (λ_=>rfl)
structure Bb where
 List:List AT
 deriving DecidableEq,Inhabited
def Bz:Rep Bb:=CH (λx=>(x.List,())) (BT (A8 Bi) Dc)
theorem E6 (x:Bb):AK Bz x 0 (A8 Bi) x.List (λy=>{ x with List:=y }):=(AK.fst).via (λ_=>rfl)
structure Ay where
 Kind:UInt8
 Num:Int
 Bits:UInt64
 Text:List UInt8
 deriving DecidableEq,Inhabited
def CP:Rep Ay:=CH (λx=>(x.Kind,x.Num,x.Bits,x.Text,())) (BT u8R (BT A3 (BT Ar (BT BI Dc))))
theorem Fp (x:Ay):AK CP x 0 u8R x.Kind (λy=>{ x with Kind:=y }):=(AK.fst).via (λ_=>rfl)
theorem HI (x:Ay):AK CP x 1 A3 x.Num (λy=>{ x with Num:=y }):=(AK.snd AK.fst).via (λ_=>rfl)
theorem Gj (x:Ay):AK CP x 2 Ar x.Bits (λy=>{ x with Bits:=y }):=(AK.snd (AK.snd AK.fst)).via (λ_=>rfl)
theorem Fq (x:Ay):AK CP x 3 BI x.Text (λy=>{ x with Text:=y }):=(AK.snd (AK.snd (AK.snd AK.fst))).via (λ_=>rfl)
structure AP where
 Key:List UInt8
 Value:Ay
 Stamp:UInt64
 ID:V3
 deriving DecidableEq,Inhabited
def B7:Rep AP:=CH (λx=>(x.Key,x.Value,x.Stamp,x.ID,())) (BT BI (BT CP (BT Ar (BT (Az 32 u8R) Dc))))
theorem E7 (x:AP):AK B7 x 0 BI x.Key (λy=>{ x with Key:=y }):=(AK.fst).via (λ_=>rfl)
theorem GY (x:AP):AK B7 x 1 CP x.Value (λy=>{ x with Value:=y }):=(AK.snd AK.fst).via (λ_=>rfl)
theorem Fr (x:AP):AK B7 x 5 Ar x.Stamp (λy=>{ x with Stamp:=y }):=(AK.snd (AK.snd AK.fst)).via (λ_=>rfl)
theorem GZ (x:AP):AK B7 x 6 (Az 32 u8R) x.ID (λy=>{ x with ID:=y }):=(AK.snd (AK.snd (AK.snd AK.fst))).via (λ_=>rfl)
structure Bd where
 List:List AP
 deriving DecidableEq,Inhabited
def BB:Rep Bd:=CH (λx=>(x.List,())) (BT (A8 B7) Dc)
theorem E8 (x:Bd):AK BB x 0 (A8 B7) x.List (λy=>{ x with List:=y }):=(AK.fst).via (λ_=>rfl)
structure Bt where
 Version:Int
 Set:Bb
 Regs:Bd
 Heads:List V3
 deriving DecidableEq,Inhabited
def Ch:Rep Bt:=CH (λx=>(x.Version,x.Set,x.Regs,x.Heads,())) (BT A3 (BT Bz (BT BB (BT (A8 (Az 32 u8R)) Dc))))
theorem F8 (x:Bt):AK Ch x 0 A3 x.Version (λy=>{ x with Version:=y }):=(AK.fst).via (λ_=>rfl)
theorem Fs (x:Bt):AK Ch x 1 Bz x.Set (λy=>{ x with Set:=y }):=(AK.snd AK.fst).via (λ_=>rfl)
theorem Ft (x:Bt):AK Ch x 2 BB x.Regs (λy=>{ x with Regs:=y }):=(AK.snd (AK.snd AK.fst)).via (λ_=>rfl)
theorem F9 (x:Bt):AK Ch x 3 (A8 (Az 32 u8R)) x.Heads (λy=>{ x with Heads:=y }):=(AK.snd (AK.snd (AK.snd AK.fst))).via (λ_=>rfl)
structure AX where
 Kind:UInt8
 Key:List UInt8
 Value:Ay
 deriving DecidableEq,Inhabited
def Bw:Rep AX:=CH (λx=>(x.Kind,x.Key,x.Value,())) (BT u8R (BT BI (BT CP Dc)))
theorem DS (x:AX):AK Bw x 0 u8R x.Kind (λy=>{ x with Kind:=y }):=(AK.fst).via (λ_=>rfl)
theorem DT (x:AX):AK Bw x 1 BI x.Key (λy=>{ x with Key:=y }):=(AK.snd AK.fst).via (λ_=>rfl)
theorem FM (x:AX):AK Bw x 2 CP x.Value (λy=>{ x with Value:=y }):=(AK.snd (AK.snd AK.fst)).via (λ_=>rfl)
structure AQ where
 E:UInt32
 S:UInt32
 deriving DecidableEq,Inhabited
def BJ:Rep AQ:=CH (λx=>(x.E,x.S,())) (BT A9 (BT A9 Dc))
theorem Fu (x:AQ):AK BJ x 0 A9 x.E (λy=>{ x with E:=y }):=(AK.fst).via (λ_=>rfl)
theorem Gk (x:AQ):AK BJ x 1 A9 x.S (λy=>{ x with S:=y }):=(AK.snd AK.fst).via (λ_=>rfl)
structure Ab where
 Author:UInt32
 Preds:List V3
 Stamp:UInt64
 Act:AX
 Sig:AQ
 deriving DecidableEq,Inhabited
def AA:Rep Ab:=CH (λx=>(x.Author,x.Preds,x.Stamp,x.Act,x.Sig,())) (BT A9 (BT (A8 (Az 32 u8R)) (BT Ar (BT Bw (BT BJ Dc)))))
theorem Fv (x:Ab):AK AA x 0 A9 x.Author (λy=>{ x with Author:=y }):=(AK.fst).via (λ_=>rfl)
theorem Co (x:Ab):AK AA x 1 (A8 (Az 32 u8R)) x.Preds (λy=>{ x with Preds:=y }):=(AK.snd AK.fst).via (λ_=>rfl)
theorem Fc (x:Ab):AK AA x 2 Ar x.Stamp (λy=>{ x with Stamp:=y }):=(AK.snd (AK.snd AK.fst)).via (λ_=>rfl)
theorem Ct (x:Ab):AK AA x 3 Bw x.Act (λy=>{ x with Act:=y }):=(AK.snd (AK.snd (AK.snd AK.fst))).via (λ_=>rfl)
theorem Er (x:Ab):AK AA x 9 BJ x.Sig (λy=>{ x with Sig:=y }):=(AK.snd (AK.snd (AK.snd (AK.snd AK.fst)))).via (λ_=>rfl)
structure Ao where
 IDs:List V3
 Ops:List Ab
 deriving DecidableEq,Inhabited
def AF:Rep Ao:=CH (λx=>(x.IDs,x.Ops,())) (BT (A8 (Az 32 u8R)) (BT (A8 AA) Dc))
theorem C7 (x:Ao):AK AF x 0 (A8 (Az 32 u8R)) x.IDs (λy=>{ x with IDs:=y }):=(AK.fst).via (λ_=>rfl)
theorem BQ (x:Ao):AK AF x 1 (A8 AA) x.Ops (λy=>{ x with Ops:=y }):=(AK.snd AK.fst).via (λ_=>rfl)
structure Yc where
 b:List UInt8
 deriving DecidableEq,Inhabited
structure CQ where
 bytes:Yc
 bad:Int
 deriving DecidableEq,Inhabited
structure Bg where
 o:Ab
 id:V3
 deriving DecidableEq,Inhabited
def Cg:Rep Bg:=CH (λx=>(x.o,x.id,())) (BT AA (BT (Az 32 u8R) Dc))
theorem HJ (x:Bg):AK Cg x 0 AA x.o (λy=>{ x with o:=y }):=(AK.fst).via (λ_=>rfl)
theorem IV (x:Bg):AK Cg x 11 (Az 32 u8R) x.id (λy=>{ x with id:=y }):=(AK.snd AK.fst).via (λ_=>rfl)
structure Cr where
 Words:Vector UInt32 8
 Rest:List UInt8
 N:Int
 deriving DecidableEq,Inhabited
def Dn:Rep Cr:=CH (λx=>(x.Words,x.Rest,x.N,())) (BT (Az 8 A9) (BT (A8 u8R) (BT A3 Dc)))
theorem SG (x:Cr):AK Dn x 0 (Az 8 A9) x.Words (λy=>{ x with Words:=y }):=(AK.fst).via (λ_=>rfl)
theorem Yd (x:Cr):AK Dn x 8 (A8 u8R) x.Rest (λy=>{ x with Rest:=y }):=(AK.snd AK.fst).via (λ_=>rfl)
theorem HK (x:Cr):AK Dn x 9 A3 x.N (λy=>{ x with N:=y }):=(AK.snd (AK.snd AK.fst)).via (λ_=>rfl)
theorem BU:Zr (Az 32 u8R) (Value.cells (.agg #[.int .u8 (0),.int .u8 (0),.int .u8 (0),.int .u8 (0),.int .u8 (0),.int .u8 (0),.int .u8 (0),.int .u8 (0),.int .u8 (0),.int .u8 (0),.int .u8 (0),.int .u8 (0),.int .u8 (0),.int .u8 (0),.int .u8 (0),.int .u8 (0),.int .u8 (0),.int .u8 (0),.int .u8 (0),.int .u8 (0),.int .u8 (0),.int .u8 (0),.int .u8 (0),.int .u8 (0),.int .u8 (0),.int .u8 (0),.int .u8 (0),.int .u8 (0),.int .u8 (0),.int .u8 (0),.int .u8 (0),.int .u8 (0)])).toList (Vector.replicate 32 0):=Zr.arr (c:=(Value.cells (.int .u8 (0))).toList) (Zr.num rfl) rfl
theorem Gl:Zr (Az 8 A9) (Value.cells (.agg #[.int .u32 (0),.int .u32 (0),.int .u32 (0),.int .u32 (0),.int .u32 (0),.int .u32 (0),.int .u32 (0),.int .u32 (0)])).toList (Vector.replicate 8 0):=Zr.arr (c:=(Value.cells (.int .u32 (0))).toList) (Zr.num rfl) rfl
theorem SI:Zr (Az 64 A9) (Value.cells (.agg #[.int .u32 (0),.int .u32 (0),.int .u32 (0),.int .u32 (0),.int .u32 (0),.int .u32 (0),.int .u32 (0),.int .u32 (0),.int .u32 (0),.int .u32 (0),.int .u32 (0),.int .u32 (0),.int .u32 (0),.int .u32 (0),.int .u32 (0),.int .u32 (0),.int .u32 (0),.int .u32 (0),.int .u32 (0),.int .u32 (0),.int .u32 (0),.int .u32 (0),.int .u32 (0),.int .u32 (0),.int .u32 (0),.int .u32 (0),.int .u32 (0),.int .u32 (0),.int .u32 (0),.int .u32 (0),.int .u32 (0),.int .u32 (0),.int .u32 (0),.int .u32 (0),.int .u32 (0),.int .u32 (0),.int .u32 (0),.int .u32 (0),.int .u32 (0),.int .u32 (0),.int .u32 (0),.int .u32 (0),.int .u32 (0),.int .u32 (0),.int .u32 (0),.int .u32 (0),.int .u32 (0),.int .u32 (0),.int .u32 (0),.int .u32 (0),.int .u32 (0),.int .u32 (0),.int .u32 (0),.int .u32 (0),.int .u32 (0),.int .u32 (0),.int .u32 (0),.int .u32 (0),.int .u32 (0),.int .u32 (0),.int .u32 (0),.int .u32 (0),.int .u32 (0),.int .u32 (0)])).toList (Vector.replicate 64 0):=Zr.arr (c:=(Value.cells (.int .u32 (0))).toList) (Zr.num rfl) rfl
theorem Gm:Zr Bi (Value.cells (.agg #[.string ByteArray.empty,.int .u8 (0),.int .u8 (0),.int .u8 (0),.int .u8 (0),.int .u8 (0),.int .u8 (0),.int .u8 (0),.int .u8 (0),.int .u8 (0),.int .u8 (0),.int .u8 (0),.int .u8 (0),.int .u8 (0),.int .u8 (0),.int .u8 (0),.int .u8 (0),.int .u8 (0),.int .u8 (0),.int .u8 (0),.int .u8 (0),.int .u8 (0),.int .u8 (0),.int .u8 (0),.int .u8 (0),.int .u8 (0),.int .u8 (0),.int .u8 (0),.int .u8 (0),.int .u8 (0),.int .u8 (0),.int .u8 (0),.int .u8 (0)])).toList (⟨[],(Vector.replicate 32 0)⟩:AT):=Zr.via (Zr.prod Zr.str (Zr.prod BU Zr.unit rfl) rfl)
theorem Et:Zr Bz (Value.cells (.agg #[.slice none 0 0])).toList (⟨[]⟩:Bb):=Zr.via (Zr.prod Zr.slice Zr.unit rfl)
theorem EP:Zr CP (Value.cells (.agg #[.int .u8 (0),.int .i64 (0),.int .u64 (0),.string ByteArray.empty])).toList (⟨0,0,0,[]⟩:Ay):=Zr.via (Zr.prod (Zr.num rfl) (Zr.prod (Zr.num rfl) (Zr.prod (Zr.num rfl) (Zr.prod Zr.str Zr.unit rfl) rfl) rfl) rfl)
theorem Gn:Zr B7 (Value.cells (.agg #[.string ByteArray.empty,.int .u8 (0),.int .i64 (0),.int .u64 (0),.string ByteArray.empty,.int .u64 (0),.int .u8 (0),.int .u8 (0),.int .u8 (0),.int .u8 (0),.int .u8 (0),.int .u8 (0),.int .u8 (0),.int .u8 (0),.int .u8 (0),.int .u8 (0),.int .u8 (0),.int .u8 (0),.int .u8 (0),.int .u8 (0),.int .u8 (0),.int .u8 (0),.int .u8 (0),.int .u8 (0),.int .u8 (0),.int .u8 (0),.int .u8 (0),.int .u8 (0),.int .u8 (0),.int .u8 (0),.int .u8 (0),.int .u8 (0),.int .u8 (0),.int .u8 (0),.int .u8 (0),.int .u8 (0),.int .u8 (0),.int .u8 (0)])).toList (⟨[],(⟨0,0,0,[]⟩:Ay),0,(Vector.replicate 32 0)⟩:AP):=Zr.via (Zr.prod Zr.str (Zr.prod EP (Zr.prod (Zr.num rfl) (Zr.prod BU Zr.unit rfl) rfl) rfl) rfl)
theorem Eu:Zr BB (Value.cells (.agg #[.slice none 0 0])).toList (⟨[]⟩:Bd):=Zr.via (Zr.prod Zr.slice Zr.unit rfl)
theorem Ye:Zr Ch (Value.cells (.agg #[.int .i64 (0),.slice none 0 0,.slice none 0 0,.slice none 0 0])).toList (⟨0,(⟨[]⟩:Bb),(⟨[]⟩:Bd),[]⟩:Bt):=Zr.via (Zr.prod (Zr.num rfl) (Zr.prod Et (Zr.prod Eu (Zr.prod Zr.slice Zr.unit rfl) rfl) rfl) rfl)
theorem DB:Zr Bw (Value.cells (.agg #[.int .u8 (0),.string ByteArray.empty,.int .u8 (0),.int .i64 (0),.int .u64 (0),.string ByteArray.empty])).toList (⟨0,[],(⟨0,0,0,[]⟩:Ay)⟩:AX):=Zr.via (Zr.prod (Zr.num rfl) (Zr.prod Zr.str (Zr.prod EP Zr.unit rfl) rfl) rfl)
theorem E9:Zr BJ (Value.cells (.agg #[.int .u32 (0),.int .u32 (0)])).toList (⟨0,0⟩:AQ):=Zr.via (Zr.prod (Zr.num rfl) (Zr.prod (Zr.num rfl) Zr.unit rfl) rfl)
theorem Lv:Zr AA (Value.cells (.agg #[.int .u32 (0),.slice none 0 0,.int .u64 (0),.int .u8 (0),.string ByteArray.empty,.int .u8 (0),.int .i64 (0),.int .u64 (0),.string ByteArray.empty,.int .u32 (0),.int .u32 (0)])).toList (⟨0,[],0,(⟨0,[],(⟨0,0,0,[]⟩:Ay)⟩:AX),(⟨0,0⟩:AQ)⟩:Ab):=Zr.via (Zr.prod (Zr.num rfl) (Zr.prod Zr.slice (Zr.prod (Zr.num rfl) (Zr.prod DB (Zr.prod E9 Zr.unit rfl) rfl) rfl) rfl) rfl)
theorem IW:Zr Cg (Value.cells (.agg #[.int .u32 (0),.slice none 0 0,.int .u64 (0),.int .u8 (0),.string ByteArray.empty,.int .u8 (0),.int .i64 (0),.int .u64 (0),.string ByteArray.empty,.int .u32 (0),.int .u32 (0),.int .u8 (0),.int .u8 (0),.int .u8 (0),.int .u8 (0),.int .u8 (0),.int .u8 (0),.int .u8 (0),.int .u8 (0),.int .u8 (0),.int .u8 (0),.int .u8 (0),.int .u8 (0),.int .u8 (0),.int .u8 (0),.int .u8 (0),.int .u8 (0),.int .u8 (0),.int .u8 (0),.int .u8 (0),.int .u8 (0),.int .u8 (0),.int .u8 (0),.int .u8 (0),.int .u8 (0),.int .u8 (0),.int .u8 (0),.int .u8 (0),.int .u8 (0),.int .u8 (0),.int .u8 (0),.int .u8 (0),.int .u8 (0)])).toList (⟨(⟨0,[],0,(⟨0,[],(⟨0,0,0,[]⟩:Ay)⟩:AX),(⟨0,0⟩:AQ)⟩:Ab),(Vector.replicate 32 0)⟩:Bg):=Zr.via (Zr.prod Lv (Zr.prod BU Zr.unit rfl) rfl)
theorem sc1:Sc Tryz.prog 1:=⟨_,underlying1,trivial⟩
theorem ty1:BN Tryz.prog 1 false 1:=.sc sc1
theorem ty2:BN Tryz.prog 2 false 1:=.sc sc2
theorem ty3:BN Tryz.prog 3 false 1:=.sc sc3
theorem ty4:BN Tryz.prog 4 false 1:=.sc sc4
theorem ty5:BN Tryz.prog 5 false 1:=.sc sc5
theorem ty9:BN Tryz.prog 9 false 1:=.sc sc9
theorem Ea:BN Tryz.prog 22 false 1:=.sc sc22
theorem ty24:BN Tryz.prog 24 true 1:=.ag ag24 D7
theorem Ec:BN Tryz.prog 25 false 1:=.sc sc25
theorem ty27:BN Tryz.prog 27 true 1:=.ag ag27 D8
theorem B0:BN Tryz.prog 28 false 1:=.sc sc28
theorem DK:BN Tryz.prog 30 true 4:=.ag ag30 CE
theorem BR:BN Tryz.prog 31 false 1:=.sc sc31
theorem BX:BN Tryz.prog 33 true 2:=.ag ag33 ti33
theorem ty36:BN Tryz.prog 36 false 1:=.sc sc36
theorem ty37:BN Tryz.prog 37 false 1:=.sc sc37
theorem Bm:BN Tryz.prog 51 false 1:=.sc sc51
theorem CR:BN Tryz.prog 52 false 1:=.sc sc52
theorem Dv:BN Tryz.prog 54 true 4:=.ag ag54 Cp
theorem ty56:BN Tryz.prog 56 true 6:=.ag ag56 Cj
theorem ty58:BN Tryz.prog 58 true 2:=.ag ag58 DR
theorem C4:BN Tryz.prog 60 true 11:=.ag ag60 Ba
theorem sc69:Sc Tryz.prog 69:=⟨_,underlying69,trivial⟩
theorem Aw:BN Tryz.prog 71 true 32:=.ag ag71 Ak
theorem EI:BN Tryz.prog 73 true 33:=.ag ag73 Cq
theorem Ed:BN Tryz.prog 75 true 38:=.ag ag75 Cf
theorem IX:BN Tryz.prog 123 true 43:=.ag Y7 DA
theorem OP:BN Tryz.prog 156 false 1:=.sc Y8
theorem Gp:BN Tryz.prog 183 true 8:=.ag Y9 E5
theorem Gq:BN Tryz.prog 220 true 10:=.ag Ya Fo
theorem Yf:Sc Tryz.prog 248:=⟨_,underlying248,trivial⟩
theorem SJ:BN Tryz.prog 284 true 64:=.ag Yb IU
def C6:Vector UInt32 64:=#v[1116352408,1899447441,3049323471,3921009573,961987163,1508970993,2453635748,2870763221,3624381080,310598401,607225278,1426881987,1925078388,2162078206,2614888103,3248222580,3835390401,4022224774,264347078,604807628,770255983,1249150122,1555081692,1996064986,2554220882,2821834349,2952996808,3210313671,3336571891,3584528711,113926993,338241895,666307205,773529912,1294757372,1396182291,1695183700,1986661051,2177026350,2456956037,2730485921,2820302411,3259730800,3345764771,3516065817,3600352804,4094571909,275423344,430227734,506948616,659060556,883997877,958139571,1322822218,1537002063,1747873779,1955562222,2024104815,2227730452,2361852424,2428436474,2756734187,3204031479,3329325298]
abbrev AE:Nat × Option (Value × AO):=(1001,some ((.bool true),.glob 1 (Az 64 A9) C6))
end
section
theorem eq54:EqR Tryz.prog 54 CP ((max 1 (max 1 (max 1 (max 1 0))))+1):=EqR.struct (R:=(BT u8R (BT A3 (BT Ar (BT BI Dc))))) (g:=λx:Ay=>(x.Kind,x.Num,x.Bits,x.Text,())) (EqF.cons (EqR.u8 underlying5) ty5 rfl (by decide) (EqF.cons (EqR.i64 underlying2) ty2 rfl (by decide) (EqF.cons (EqR.u64 underlying52) CR rfl (by decide) (EqF.cons (EqR.str underlying9) ty9 rfl (by decide) EqF.nil)))) underlying54 (by kernel_rfl) (λx y h=>by cases x; cases y; simpa using h) rfl
theorem gq54:Tryz.prog.eqGuardType Tryz.prog.depth 54=false:=by kernel_rfl
theorem eq56:EqR Tryz.prog 56 Bw ((max 1 (max 1 (max 2 0)))+1):=EqR.struct (R:=(BT u8R (BT BI (BT CP Dc)))) (g:=λx:AX=>(x.Kind,x.Key,x.Value,())) (EqF.cons (EqR.u8 underlying5) ty5 rfl (by decide) (EqF.cons (EqR.str underlying9) ty9 rfl (by decide) (EqF.cons eq54 Dv rfl (by decide) EqF.nil))) underlying56 (by kernel_rfl) (λx y h=>by cases x; cases y; simpa using h) rfl
theorem gq56:Tryz.prog.eqGuardType Tryz.prog.depth 56=false:=by kernel_rfl
theorem eq58:EqR Tryz.prog 58 BJ ((max 1 (max 1 0))+1):=EqR.struct (R:=(BT A9 (BT A9 Dc))) (g:=λx:AQ=>(x.E,x.S,())) (EqF.cons (EqR.u32 underlying51) Bm rfl (by decide) (EqF.cons (EqR.u32 underlying51) Bm rfl (by decide) EqF.nil)) underlying58 (by kernel_rfl) (λx y h=>by cases x; cases y; simpa using h) rfl
theorem gq58:Tryz.prog.eqGuardType Tryz.prog.depth 58=false:=by kernel_rfl
theorem eq71:EqR Tryz.prog 71 (Az 32 u8R) 2:=EqR.arr (EqR.u8 underlying5) underlying71 ti5 ty5
theorem gq71:Tryz.prog.eqGuardType Tryz.prog.depth 71=false:=by kernel_rfl
theorem eq73:EqR Tryz.prog 73 Bi ((max 1 (max 2 0))+1):=EqR.struct (R:=(BT BI (BT (Az 32 u8R) Dc))) (g:=λx:AT=>(x.Key,x.ID,())) (EqF.cons (EqR.str underlying9) ty9 rfl (by decide) (EqF.cons eq71 Aw rfl (by decide) EqF.nil)) underlying73 (by kernel_rfl) (λx y h=>by cases x; cases y; simpa using h) rfl
theorem ky71:CC Tryz.prog 71 (Az 32 u8R) 2:=CC.arr (CC.u8 underlying5) underlying71 ti5 ty5 rfl
theorem ky73:CC Tryz.prog 73 Bi ((max 1 (max 2 0))+1):=CC.struct (R:=(BT BI (BT (Az 32 u8R) Dc))) (g:=λx:AT=>(x.Key,x.ID,())) (KeyF.cons (CC.str underlying9) ty9 rfl (by decide) (KeyF.cons ky71 Aw rfl (by decide) KeyF.nil)) underlying73 rfl eq73 (by decide) (by decide)
end
section
variable {ro:Option Nat}
section
variable {α:Type} {C:World->World->Prop} {P:Program} {Γ:Ctx} {l:AR} {res:Res} {d:Tmp} {ty:TypeId} {pos:String} {after:Array Edge} {g:Option (Nat × Bool)} {R:Rep α}
def VwE (R:Rep α) (v:Value) (L x:List α) (E:Ent):Prop:=∀ S w u,E.holds S w u->(Ent.vw R v L x).holds S w u
theorem vwW {v:Value} {L:List α}:VwE R v L L (.val v):=λ_ _ _ h=>.inl ⟨h.1,rfl, by rw[h.1]; exact h.2⟩
theorem aW {os:List Operand} {ps:List Ent} {o:Operand} {v:Value} {L:List α} (h:opE l o=some (.val v)) (k:Cs l os ps):Cs l (o::os) (.vw R v L L::ps):=⟨⟨_,h,vwW⟩,k⟩
theorem Yg {S:Blk} {w:World} {u v:Value} {T:TypeId} {L x:List α} (h:(Ent.vw R v L x).holds S w u) (O:(AO.list R T L).holds S w v) :
  (u=.slice none 0 0/\x=[])\/∃ k o sp cap i,u=.slice (some ⟨k,o,sp⟩) x.length cap/\AS v=some k/\x.length<=cap/\cap<=maxLen/\(x≠[]->sp=none/\o=i * R.sz)/\(L.drop i).take x.length=x:=by
 rcases h with ⟨rfl,rfl,-⟩ | h | h
 ·rcases O with ⟨rfl,rfl⟩ | ⟨b',ob,g1,g2,bb,cp,Cc,rfl,rfl,U,g4,g5,g6⟩
  ·exact .inl ⟨rfl,rfl⟩
  ·exact .inr ⟨bb,0,none,cp,0,rfl,rfl,U,g4, λ_=>⟨rfl, by simp⟩, by simp⟩
 ·exact .inl h
 ·exact .inr h
theorem ixQ {β:Type} {b L:List α} {y:α} {k:IntKind} {f:β->Int} {j:β} {x z':Operand} {T e E:TypeId} {z v:Value} {by_:Nat} (r:Nat) (hx:opE l x=some (.vw R v L b)) (hr:lr res r=some (v,.list R E L)) (hj:opE l z'=some (.rd (Bn k f) j)) (hy:idx b (f j)=some y) (hT:P.underlying T=some (.slice e)) (hE:TI P e z R.sz by_) :
  Run C P Γ l res ⟨some d,.indexAddr T x z',ty,pos,after,g⟩ (.vp R v L y):=λa w U=>by
 obtain⟨k1,k2,O⟩:=Dt hy;have a1:a.eval z'=.int k ((f j).toNat:Int):=by rw[Ci (U.vl hj)]; congr 1; omega
 rcases Yg (U.vl hx) (U.conts r v _ hr) with ⟨k5,rfl⟩ | ⟨bk,o,sp,cap,n,h5,q1,q2,q3,q4,q5⟩
 ·simp at O
 ·have a2:b≠[]:=λe=>by rw[e] at O; simp at O
  obtain⟨rfl,rfl⟩:=q4 a2;refine⟨.pointer (some ⟨bk,n * R.sz+(f j).toNat * R.sz,none⟩), λw' _=>?_,bk,n+(f j).toNat, by rw[Nat.add_mul],q1,?_⟩
  ·generalize (f j).toNat=jn at *;simp[execOp,h5,a1,Instr.indexAt,asIntOf,run_underlying hT,O,CY hE,CX]
  ·rw[<- q5,List.getElem?_take,if_pos O,List.getElem?_drop] at k2;exact k2
theorem ldQ {ws:List Nat} [LC C res ws] {L:List α} {y:α} {t E:TypeId} {x:Operand} {v:Value} (r:Nat) (hx:opE l x=some (.vp R v L y)) (hr:lr res r=some (v,.list R E L)) (hT:BN P t R.agg R.sz) (hw:ws.contains r=false) :
  Run C P Γ l res ⟨some d,.load t x,ty,pos,after,g⟩ (.rd R y):=λa w ha=>by
 obtain⟨k,n,h1,O,hy⟩:=ha.vl hx;have a1:idx L (n:Int)=some y:=by unfold idx; rw[if_pos (by omega)]; simpa using hy
 have hf:Foc (.list R E L) (n * R.sz) R y (λy=>.list R E (L.set n y)):=by
  have:=Foc.el (R:=R) (T:=E) a1
  simpa using this
 rcases ha.conts r v _ hr with ⟨q1,-⟩ | ⟨b,o,h2,h3,h4⟩
 ·rw[q1] at O; cases O
 ·obtain⟨b',Cc,T,a',cs,dd,k1,rfl,k3,k4,k5,-⟩:=hf.2 _ w v o h4;have e:b=b':=by have:=Ll k1; rw[h2] at this; cases this; rfl
  subst e;have O:some b=some k:=by rw[<- h2,O]
  cases O
  refine⟨R.val cs, λw' U=>?_,cs,k5,rfl⟩;have a2:w'.heap[k]? = some (.cells Cc T (0,0)):=(CW.at U ha hr h2 hw).trans h3
  have:=Bx.load (P:=P) a2 k3 (R.mono (CW.stay U) k5) hT
  rw[k4] at this;simp[execOp,h1,Instr.loadAt,Instr.sureAddr,this]
end
section
variable {ρ α:Type} {P:Program} {Γ:Ctx} {l:AR} {res:Res} {m:Option ρ} {os rest:List Oper} {N Q:ρ->Exit->Act->World->Prop} {c:Code} {e:Exit}
end
end
section
def Yh (V:Blk) (W W':World):Blk:=λb=>V b\/(W.heap.size<=b/\b<W'.heap.size)
section
variable {ρ α σ β τ:Type} {P:Program} {Γ:Ctx} {l L:AR} {res:Res} {A:Asn} {Q:ρ->Exit->Act->World->Prop}
end
end
section
section
variable {P:Program} {ops:Array Oper} {Q:Exit->Act->World->Prop}
end
structure IEnv (P:Program) {α:Type} (R:Rep α) (σ:Type) where
 Y:α->σ->Option σ
 go:σ->Bool
 J:Blk->σ->World->Prop
 l:Nat
 hV:∀ V s W,J V s W->∀ b,V b->b<W.heap.size
 hext:∀ V s W W',J V s W->Ext W W'->J (Yh V W W') s W'
 round:∀ V s s' x u W,Y x s=some s'->go s=true->J V s W->(Ent.rd R x).holds V W u->YieldAt Fence.wide 0 P l #[u] W λe W'=>e=.returned (.bool (go s'))/\J V s' W'/\CZ V W W'
section
variable {P:Program} {α σ ρ:Type} {R:Rep α}
variable {E:IEnv P R σ} {V:Blk} {W:World} {l:AR} {res:Res} {n:Nat} {s:σ}
variable {Q:ρ->Exit->Act->World->Prop}
end
theorem Rd.top {w:World} {p:Option Addr} {m c sz j:Nat} {xs:List Value} (h:Rd w (.slice p m c) m sz xs) (hj:j<=m):Rd w (.slice p j j) j sz (xs.take (j * sz)):=by
 have hl:=h.1
 have:j * sz<=m * sz:=Nat.mul_le_mul_right _ hj
 refine⟨by rw[List.length_take,hl]; exact Nat.min_eq_left this,?_⟩;rcases h.2 with ⟨O,rfl⟩ | ⟨b,o,sp,cap,O,h2,h3,a1,h4⟩
 ·simp only[Value.slice.injEq] at O
  have:j=0:=by omega
  subst j;exact .inl ⟨by rw[O.1],rfl⟩
 ·simp only[Value.slice.injEq,true_and] at O;obtain⟨rfl,rfl⟩:=O;refine .inr ⟨b,o,sp,j,rfl,Nat.le_refl _, by omega,a1.imp (λe=>by simp[e]) id, λq u U=>h4 q u ?_⟩;rw[List.getElem?_take] at U
  split at U
  ·exact U
  ·cases U
section
variable {C:World->World->Prop} {P:Program} {Γ:Ctx} {l:AR} {res:Res} {d:Tmp} {ty:TypeId} {pos:String} {after:Array Edge} {g:Option (Nat × Bool)}
theorem cut3 {α:Type} {R:Rep α} {b b':List α} {x hi mx:Operand} {lo:Option Operand} {i j:Int} {T e:TypeId} {z:Value} {by_:Nat} (hx:opE l x=some (.rd (A8 R) b)) (a7:Bnd l 0 lo i) (a8:opE l hi=some (.rd A3 j)) (aa:opE l mx=some (.rd A3 j)) (hb:cut b i j=some b')
  (hT:P.underlying T=some (.slice e)) (hE:TI P e z R.sz by_):Run C P Γ l res ⟨some d,.slice T x lo (some hi) (some mx),ty,pos,after,g⟩ (.rd (A8 R) b'):=λa w U=>by
 obtain⟨h1,h2,h3,rfl⟩:=Lo hb;obtain⟨cs,⟨p,c,xs,k1,k2,k3,k4⟩,k5⟩:=U.vl hx;subst k1;have k5:a.eval x=.slice p b.length c:=k5;have ad:b.length<=c:=by
  rcases k2.2 with ⟨hv,h0⟩ | ⟨_,o,sp,cap,hv,g1,_⟩
  ·omega
  ·simp only[Value.slice.injEq,true_and] at hv; omega
 have O:((b.drop i.toNat).take (j.toNat - i.toNat)).length=j.toNat - i.toNat:=by simp; omega
 have a1:=k2.top (j:=j.toNat) (by omega);have a2:=a1.sub rfl (i:=i.toNat) (j:=j.toNat) (by omega) (Nat.le_refl _);have a6:(b.drop i.toNat).take (j.toNat - i.toNat)=((b.take j.toNat).drop i.toNat).take (j.toNat - i.toNat):=by
  rw[List.drop_take,List.take_take]; simp
 have ehi:a.eval hi=.int .i64 j:=Ci (U.vl a8);have emx:a.eval mx=.int .i64 j:=Ci (U.vl aa);refine⟨.slice (if j.toNat=i.toNat then p else p.map (·.add (i.toNat * R.sz))) ((b.drop i.toNat).take (j.toNat - i.toNat)).length (j.toNat - i.toNat), λw' _=>?_,_,⟨_,_,_,rfl, by rw[O]; exact a2,?_, λab bb ac=>?_⟩,rfl⟩
 ·obtain⟨i',rfl⟩:∃ i':Nat,i=(i':Int):=⟨i.toNat, by omega⟩
  obtain⟨j',rfl⟩:∃ j':Nat,j=(j':Int):=⟨j.toNat, by omega⟩
  have e2:i'<=j':=by omega
  have e3:j'<=c:=by omega
  rw[O];have hb:(Instr.sliceBounds true b.length c (lo.map a.eval) (some (a.eval hi)) (some (a.eval mx))).run P w'=.ok (i',j',j') w':=by
   rcases a7.get U with ⟨rfl,e0⟩ | ⟨y,k,rfl,e0⟩
   ·obtain rfl:i'=0:=by omega
    simp[Instr.sliceBounds,ehi,emx,Instr.sliceBound,asIntOf,e3]
   ·simp[Instr.sliceBounds,e0,ehi,emx,Instr.sliceBound,asIntOf,e2,e3]
  simp only[execOp,Instr.sliceAt,k5,Sem.run_bind,run_underlying hT,Result.andThen,Instr.slice,Option.map_some,hb,CY hE,Sem.run_pure,Int.toNat_natCast]
 ·rw[a6];exact((k3.take j.toNat).drop i.toNat).take (j.toNat - i.toNat)
 ·refine k4 (λe0=>ab (by rw[e0]; simp)) bb ?_
  have h7:=QT (p:=p) (m:=j.toNat) (cp:=j.toNat) (i:=i.toNat) (j:=j.toNat - i.toNat) (k:=j.toNat - i.toNat) (sz:=R.sz);rw[Gc,Gc] at h7;rw[<- h7]; exact ac
end
end
section
def Cu:Rep Value where
 sz:=1
 agg:=false
 rel _ _ cs x:=cs=[x]/\x.oneCell'=true
 len h:=by rw[h.1]; rfl
 one h:=by rw[h.1]; intro u O; simp only[List.mem_singleton] at O; subst O; exact h.2
 scal _:=rfl
 mono _ h:=h
def CF {α:Type} (vs:Nat->Value) (ls:List (List α)):List Value:=(List.range ls.length).map vs
def DU {α:Type} (base:Nat) (R:Rep α) (T:TypeId) (vs:Nat->Value):List (List α)->Nat->Res
 | [],_=>[]
 | x::ls,j=>(base+j,some (vs j,.list R T x))::DU base R T vs ls (j+1)
def updF (vs:Nat->Value) (j:Nat) (u:Value):Nat->Value:=λi=>if i=j then u else vs i
def nvlF:List Value->(Nat->Value)->Nat->Value
 | [],vs=>vs
 | a::l,vs=>fun
  | 0=>a
  | n+1=>nvlF l vs n
section
variable {α:Type} {base:Nat} {R:Rep α} {T:TypeId} {vs:Nat->Value}
theorem SK:∀ {ls:List (List α)} {i j:Nat},lr (DU base R T vs ls i) (base+(i+j))=ls[j]?.map λx=>(vs (i+j),.list R T x)
 | [],i,j=>rfl
 | x::ls,i,0=>by
  rw[DU,C0,if_pos (by omega)]; rfl
 | x::ls,i,j+1=>by
  rw[DU,C0,if_neg (by omega)]
  have:=@SK ls (i+1) j
  rw[show i+(j+1)=i+1+j by omega,this]; simp
theorem Gr:∀ {ls:List (List α)} {i k:Nat} {x:Value × AO},lr (DU base R T vs ls i) k=some x->∃ j y,k=base+(i+j)/\ls[j]? = some y/\x=(vs (i+j),.list R T y)
 | [],i,k,x,h=>by cases h
 | y::ls,i,k,x,h=>by
  rw[DU,C0] at h
  split at h
  ·rename_i hk; cases h; exact⟨0,y, by omega,rfl,rfl⟩
  ·obtain⟨j,z,h1,O,U⟩:=Gr h;exact⟨j+1,z, by omega, by simpa using O, by rw[U, show i+1+j=i+(j+1) by omega]⟩
theorem H1 {pre f:Res} {k:Nat} {x:Value × AO} (h:lr (pre++f) k=some x) (hp:∀ p∈pre,p.2≠none):lr pre k=some x\/((∀ p∈pre,p.1≠k)/\lr f k=some x):=by
 induction pre with
 | nil=>exact .inr ⟨by simp,h⟩
 | cons p pre ih =>
  obtain⟨q,y⟩:=p;rw[List.cons_append,C0] at h;rw[C0]
  split at h
  ·rename_i U; rw[if_pos U]; exact .inl h
  ·rename_i U;rw[if_neg U];rcases ih h (λp O=>hp p (by simp[O])) with h1 | ⟨h1,h2⟩
   ·exact .inl h1
   ·refine .inr ⟨λp O=>?_,h2⟩;rcases List.mem_cons.1 O with rfl | h3
    ·exact U
    ·exact h1 p h3
def CI (res:Res) (base:Nat) (R:Rep α) (T:TypeId) (vs:Nat->Value) (ls:List (List α)):Prop:=∀ j y,ls[j]? = some y->lr res (base+j)=some (vs j,.list R T y)
theorem CI.tail {ls:List (List α)}:CI (DU base R T vs ls 0) base R T vs ls:=λj y h=>by
 have:=SK (base:=base) (R:=R) (T:=T) (vs:=vs) (ls:=ls) (i:=0) (j:=j)
 rw[Nat.zero_add] at this;rw[this,h]; rfl
theorem CI.cons {res:Res} {k:Nat} {x:Option (Value × AO)} {ls:List (List α)} (O:Nat.blt k base=true) (h:CI res base R T vs ls):CI ((k,x)::res) base R T vs ls:=λj y U=>by
 have O:k<base:=Eq.mp Nat.blt_eq O;rw[C0,if_neg (by omega)]; exact h j y U
theorem Lw {ls:List (List α)} {i:Int} {y:List α} (h:idx ls i=some y):idx (CF vs ls) i=some (vs i.toNat):=by
 obtain⟨h0,h2,O⟩:=Dt h;have U:(0:Int)<=i:=h0;unfold idx;rw[if_pos U];unfold CF;rw[List.getElem?_map,List.getElem?_range O]; rfl
theorem Yi {ls:List (List α)} {j:Nat} {u:Value} {z:List α}:(CF vs ls).set j u=CF (updF vs j u) (ls.set j z):=by
 unfold CF updF
 apply List.ext_getElem?
 intro i;rw[List.getElem?_set,List.getElem?_map,List.length_map,List.length_range,List.length_set];by_cases hi:i<ls.length
 ·rw[List.getElem?_map,List.getElem?_range hi];by_cases h:j=i
  ·subst h; simp[hi]
  ·simp[h,Ne.symm h]
 ·have h1:¬ i<(List.range ls.length).length:=by simpa using hi
  rw[List.getElem?_map,List.getElem?_eq_none (by omega)]
  split
  ·rename_i h; subst h; rw[if_neg hi]; rfl
  ·rfl
theorem Yj {by_:Nat} {n:Int} {ls:List (List α)} (h:mkn by_ ([]:List α) n=some ls):∀ x∈ls,x=[]:=λx O=>by
 obtain⟨-,-,-,rfl⟩:=Lp h;exact(List.mem_replicate.1 O).2
end
section
variable {P:Program} {Γ:Ctx} {l l':AR} {res res' lits:Res} {a:Act} {w:World} {α:Type} {base:Nat} {R:Rep α} {T T':TypeId} {vs:Nat->Value} {ls:List (List α)}
theorem Sta.subG (O:Sta Γ l res a w) (h1:∀ r x,lr res' r=some x->∃ n,lr res n=some x) (h2:∀ r r2 x x2,lr res' r=some x->lr res' r2=some x2->r≠r2->∃ n n2,n≠n2/\lr res n=some x/\lr res n2=some x2) (hs:∀ t e,lk l' t=some e->lk l t=some e):Sta Γ l' res' a w:=by
 have a1:Br (Shr Γ.H res w) (Shr Γ.H res' w) w w:=λb hb=>⟨⟨hb.1, λr v c hr=>by obtain⟨n,h⟩:=h1 _ _ hr; exact hb.2.1 n v c h,hb.2.2⟩,rfl⟩
 exact {
  size:=O.size
  defers:=O.defers
  slots:=λt e ht=>by obtain⟨v,U,k2⟩:=O.slots t e (hs t e ht); exact⟨v,U,e.mono a1 k2⟩
  conts:=λr v c h=>by obtain⟨n,U⟩:=h1 _ _ h; exact(O.conts n v c U).mono a1 (λ_ _=>rfl)
  excl:=λr v c r' v' c' h h' a2=>by obtain⟨n,n2,U,k2,k3⟩:=h2 _ _ _ _ h h' a2; exact O.excl n v c n2 v' c' k2 k3 U
  own:=λr v c h=>by obtain⟨n,U⟩:=h1 _ _ h; exact O.own n v c U
  keep:=O.keep
  old:=O.old
  hid:=O.hid }
theorem BZ.get3 {res:Res}:∀ {res':Res} {ns:List Nat} {r r2:Nat} {x x2:Value × AO},BZ res res' ns->lr res' r=some x->lr res' r2=some x2->r≠r2->∃ n O,n∈ns/\O∈ns/\n≠O/\lr res n=some x/\lr res O=some x2
 | [],[],_,_,_,_,_,h,_,_=>by cases h
 | (r',y)::res',n::ns,r,r2,x,x2,U,h,h',a1=>by
  rw[C0] at h h';obtain⟨⟨y,rfl,h1⟩,h2,h3⟩:=U;have hn:∀ n',n'∈ns->n≠n':=λn' a2 e=>by subst e; simp at h2; exact h2 a2
  split at h
  ·rename_i e1; subst e1; cases h
   rw[if_neg a1] at h';obtain⟨v2,c2⟩:=x2;obtain⟨n',h4,h5⟩:=BZ.get h3 h';exact⟨n,n', by simp, by simp[h4],hn n' h4,h1,h5⟩
  ·split at h'
   ·cases h'
    obtain⟨v,c⟩:=x;obtain⟨n',h4,h5⟩:=BZ.get h3 h;exact⟨n',n, by simp[h4], by simp, λe=>hn n' h4 e.symm,h5,h1⟩
   ·obtain⟨n1,O,i1,i2,k1,k2,k3⟩:=BZ.get3 h3 h h' a1;exact⟨n1,O, by simp[i1], by simp[i2],k1,k2,k3⟩
 | [],_::_,_,_,_,_,U,_,_,_=>U.elim
 | _::_,[],_,_,_,_,U,_,_,_=>U.elim
theorem BZ.somes:∀ {res':Res} {ns:List Nat},BZ res res' ns->∀ p∈res',p.2≠none
 | [],[],_,p,O=>by simp at O
 | (r,x)::res',n::ns,h,p,O=>by
  rcases List.mem_cons.1 O with rfl | O
  ·obtain⟨⟨y,rfl,_⟩,_⟩:=h; simp
  ·exact BZ.somes h.2.2 p O
 | [],_::_,h,_,_=>h.elim
 | _::_,[],h,_,_=>h.elim
theorem Sta.subF (ha:Sta Γ l res a w) (hf:CI res base R T vs ls) (ns:List Nat) (hs:SubS l l') (U:BZ res lits ns) (hn:(ns.all λn=>Nat.blt n base)=true):Sta Γ l' (lits++DU base R T vs ls 0) a w:=by
 have hb:∀ n∈ns,n<base:=λn h=>Eq.mp Nat.blt_eq (List.all_eq_true.1 hn n h);have inv:∀ r x,lr (lits++DU base R T vs ls 0) r=some x->lr lits r=some x\/∃ j,r=base+j/\lr res (base+j)=some x:=λr x h=>by
  rcases H1 h U.somes with h | ⟨-,h⟩
  ·exact .inl h
  ·obtain⟨j,y,h3,O,h5⟩:=Gr h;rw[Nat.zero_add] at h3 h5;exact .inr ⟨j,h3, by rw[h5]; exact hf j y O⟩
 refine ha.subG (λr x h=>?_) (λr r2 x x2 h h2 a1=>?_) (λt e h=>hs.get h)
 ·rcases inv r x h with h | ⟨j,h3,O⟩
  ·obtain⟨v,c⟩:=x;obtain⟨n,-,h1⟩:=U.get h; exact⟨n,h1⟩
  ·exact⟨_,O⟩
 ·obtain⟨v,c⟩:=x;obtain⟨v2,c2⟩:=x2;rcases inv r _ h with h | ⟨j,h3,O⟩ <;> rcases inv r2 _ h2 with h2 | ⟨j2,h5,h6⟩
  ·exact U.get2 h h2 a1
  ·obtain⟨n,h7,h8⟩:=U.get h;exact⟨n,_, by have:=hb n h7; omega,h8,h6⟩
  ·obtain⟨n,h7,h8⟩:=U.get h2;exact⟨_,n, by have:=hb n h7; omega,O,h8⟩
  ·exact⟨_,_, by omega,O,h6⟩
theorem Sta.newF (ha:Sta Γ l res a w) (R:Rep α) (T:TypeId) (ns:List Nat) (hl:∀ x∈ls,x=[]) (hr:BZ res lits ns):Sta Γ l (lits++DU base R T (λ_=>.slice none 0 0) ls 0) a w:=by
 have a1:Sta Γ l lits a w:=ha.subG (λr x h=>by obtain⟨v,c⟩:=x; obtain⟨n,-,h1⟩:=hr.get h; exact⟨n,h1⟩) (λr r2 x x2 h h2 a2=>hr.get2 h h2 a2) (λ_ _ h=>h)
 have a6:Br (Shr Γ.H lits w) (Shr Γ.H (lits++DU base R T (λ_=>.slice none 0 0) ls 0) w) w w:=λb U=>⟨⟨U.1, λr v c h=>by
  rcases H1 h hr.somes with h | ⟨-,h⟩
  ·exact U.2.1 r v c h
  ·obtain⟨j,y,-,-,O⟩:=Gr h;simp only[Prod.mk.injEq] at O
   rw[O.1]; simp[AS],U.2.2⟩,rfl⟩
 exact {
  size:=ha.size
  defers:=ha.defers
  slots:=λt e ht=>by obtain⟨v,k1,k2⟩:=a1.slots t e ht; exact⟨v,k1,e.mono a6 k2⟩
  conts:=λr v c h=>by
   rcases H1 h hr.somes with h | ⟨-,h⟩
   ·exact(a1.conts r v c h).mono a6 (λ_ _=>rfl)
   ·obtain⟨j,y,-,h4,O⟩:=Gr h;simp only[Prod.mk.injEq] at O;rw[O.1,O.2];exact .inl ⟨rfl,hl y (List.mem_of_getElem? h4)⟩
  excl:=λr v c r' v' c' h h' a2 b U=>by
   rcases H1 h hr.somes with h | ⟨-,h⟩
   ·rcases H1 h' hr.somes with h' | ⟨-,h'⟩
    ·exact a1.excl r v c r' v' c' h h' a2 b U
    ·obtain⟨j,y,-,-,O⟩:=Gr h';simp only[Prod.mk.injEq] at O;rw[O.1]; simp[AS]
   ·obtain⟨j,y,-,-,O⟩:=Gr h;simp only[Prod.mk.injEq] at O;rw[O.1] at U; simp[AS] at U
  own:=λr v c h b U=>by
   rcases H1 h hr.somes with h | ⟨-,h⟩
   ·exact a1.own r v c h b U
   ·obtain⟨j,y,-,-,O⟩:=Gr h;simp only[Prod.mk.injEq] at O;rw[O.1] at U; simp[AS] at U
  keep:=ha.keep
  old:=ha.old
  hid:=ha.hid }
theorem Sta.frzFam (U:Sta Γ l res a w) (hf:CI res base R T vs ls) {v:Value} (r:Nat) (hr:lr res r=some (v,.list Cu T' (CF vs ls))) (ns:List Nat) (hs:BZ res lits ns) (hn:(ns.all λn=>Nat.blt n base&&!Nat.beq n r)=true) (aa:Nat.blt r base=true):Sta Γ l ((r,some (v,.list (A8 R) T' ls))::lits) a w:=by
 have hb:∀ n∈ns,n<base/\n≠r:=λn h=>by
  have:=List.all_eq_true.1 hn n h
  simp only[Bool.and_eq_true,Bool.not_eq_true'] at this;exact⟨Eq.mp Nat.blt_eq this.1,Nat.ne_of_beq_eq_false this.2⟩
 have aa:r<base:=Eq.mp Nat.blt_eq aa
 have a7:Br (Shr Γ.H res w) (Shr Γ.H ((r,some (v,.list (A8 R) T' ls))::lits) w) w w:=λb a6=>⟨⟨a6.1, λr' v' c' h=>by
  rw[C0] at h
  split at h
  ·cases h; exact a6.2.1 r v _ hr
  ·obtain⟨n,-,O⟩:=hs.get h; exact a6.2.1 n v' c' O,a6.2.2⟩,rfl⟩
 have ab:∀ j y,ls[j]? = some y->∀ b,AS (vs j)=some b->Shr Γ.H ((r,some (v,.list (A8 R) T' ls))::lits) w b:=λj y hy b a1=>by
  have O:=hf j y hy;refine⟨(U.conts _ _ _ O).lt a1, λr' v' c' h=>?_, λhH=>U.own _ _ _ O b a1 (U.hid b hH)⟩;rw[C0] at h
  split at h
  ·cases h; exact U.excl _ _ _ r v _ O hr (by omega) b a1
  ·obtain⟨n,h2,h3⟩:=hs.get h; exact U.excl _ _ _ n v' c' O h3 (by have:=hb n h2; omega) b a1
 have hrel:∀ (a2:List (List α)) (k:Nat) (cs:List Value),(∀ j y,a2[j]? = some y->ls[k+j]? = some y)->B5 Cu (Shr Γ.H res w) w cs ((List.range' k a2.length).map vs)->B5 (A8 R) (Shr Γ.H ((r,some (v,.list (A8 R) T' ls))::lits) w) w cs a2:=by
  intro a2
  induction a2 with
  | nil=>intro k cs _ h; exact h
  | cons y a2 ih =>
   intro k cs hk h;rw[List.length_cons,List.range'_succ,List.map_cons] at h;obtain⟨c,d,rfl,⟨rfl,-⟩,h2⟩:=h;have hy:=hk 0 y rfl;rw[Nat.add_zero] at hy;refine⟨[vs k],d,rfl,?_,ih (k+1) d (λj z hz=>?_) h2⟩
   ·obtain⟨xs,k1,k2⟩:=F6 (U.conts _ _ _ (hf k y hy));obtain⟨p,c,hp⟩:=E3 k1;rw[hp] at k1;refine⟨p,c,xs, by rw[hp],Rd.of_own k1,k2.mono a7, λa8 bb a1=>?_⟩;refine ab k y hy bb ?_;rw[hp,ED,Gc]; exact a1
   ·have:=hk (j+1) z (by simpa using hz)
    rwa [show k+(j+1)=k+1+j by omega] at this
 exact {
  size:=U.size
  defers:=U.defers
  slots:=λt e ht=>by obtain⟨u,k1,k2⟩:=U.slots t e ht; exact⟨u,k1,e.mono a7 k2⟩
  conts:=λr' v' c' h=>by
   rw[C0] at h
   split at h
   ·cases h
    rcases U.conts r v _ hr with ⟨O,h2⟩ | ⟨b,o,O,h2,b',cap,C,rfl,rfl,h3,h4,h5,h6⟩
    ·exact .inl ⟨O, by
      have:(CF vs ls).length=0:=by rw[h2]; rfl
      unfold CF at this
      simpa using this⟩
    ·have hl:(CF vs ls).length=ls.length:=by simp[CF]
     refine .inr ⟨b,_,O,h2,b',cap,C, by rw[hl],rfl, by rw[<- hl]; exact h3,h4,h5,?_⟩;rw[hl] at h6;refine hrel ls 0 _ (λj y hy=>by rw[Nat.zero_add]; exact hy) ?_;rw[<- List.range_eq_range'];exact h6
   ·obtain⟨n,-,O⟩:=hs.get h;exact(U.conts n v' c' O).mono a7 (λ_ _=>rfl)
  excl:=λr1 v1 c1 r2 v2 c2 O h2 a8 b a1=>by
   rw[C0] at O h2
   split at O
   ·rename_i e1; cases O
    rw[if_neg (by rw[e1]; exact a8)] at h2;obtain⟨n,h3,h4⟩:=hs.get h2;exact U.excl r v _ n v2 c2 hr h4 (λe=>(hb n h3).2 e.symm) b a1
   ·split at h2
    ·cases h2
     obtain⟨n,h3,h4⟩:=hs.get O;exact U.excl n v1 c1 r v _ h4 hr (hb n h3).2 b a1
    ·obtain⟨n,n2,h3,h4,h5⟩:=hs.get2 O h2 a8;exact U.excl n v1 c1 n2 v2 c2 h4 h5 h3 b a1
  own:=λr' v' c' h=>by
   rw[C0] at h
   split at h
   ·cases h; exact U.own r v _ hr
   ·obtain⟨n,-,O⟩:=hs.get h; exact U.own n v' c' O
  keep:=U.keep
  old:=U.old
  hid:=U.hid }
end
section
variable {C:World->World->Prop} {ρ:Type} {P:Program} {Γ:Ctx} {l:AR} {res lits:Res} {m:Option ρ} {os rest:List Oper} {N:ρ->Exit->Act->World->Prop} {ro:Option Nat} {Q:ρ->Exit->Act->World->Prop} {c:Code} {ex:Exit}
 {d:Tmp} {ty:TypeId} {pos:String} {after:Array Edge} {g:Option (Nat × Bool)} {α:Type} {base:Nat} {R:Rep α} {T T':TypeId} {vs:Nat->Value} {ls:List (List α)}
theorem mksF {b:List (List α)} {x y:Operand} {z:Value} {e:TypeId} {by_:Nat} {n:Int} (r:Nat) (O:opE l x=some (.rd A3 n)) (U:opE l y=some (.rd A3 n)) (hb:mkn by_ ([]:List α) n=some b)
  (hT:P.underlying T=some (.slice e)) (hE:TI P e z 1 by_) (hz:z.cells.toList=[.slice none 0 0]) :
  Eff P Γ l res ⟨some d,.makeSlice T x y,ty,pos,after,g⟩ r (λu=>(u,.list Cu e (CF (λ_=>.slice none 0 0) b))):=by
 obtain⟨h1,h2,h3,rfl⟩:=Lp hb;have e1:CF (λ_=>Value.slice none 0 0) (List.replicate n.toNat ([]:List α))=List.replicate n.toNat (Value.slice none 0 0):=by
  unfold CF;rw[List.length_replicate]
  apply List.ext_getElem?
  intro i;rw[List.getElem?_map];by_cases hi:i<n.toNat
  ·rw[List.getElem?_range hi]; simp[hi]
  ·rw[List.getElem?_eq_none (by simpa using hi),List.getElem?_eq_none (by simpa using hi)]; rfl
 rw[e1];refine mks (R:=Cu) (x0:=.slice none 0 0) (z:=z) r O U ?_ hT hE (λS w=>⟨hz,rfl⟩) rfl;unfold mkn; rw[if_pos ⟨h1,h2, by omega⟩]
theorem Yk (R:Rep α) (T:TypeId) (ns:List Nat) (O:∀ x∈ls,x=[]) (U:BZ res lits ns) (k:GL P os (Sta Γ l (lits++DU base R T (λ_=>.slice none 0 0) ls 0)) rest N m):GL P os (Sta Γ l res) rest N m:=λa w ha=>k a w (ha.newF R T ns O U)
theorem ldF {ws:List Nat} [LC C res ws] {y:List α} {i:Int} {t:TypeId} {x:Operand} {v:Value} (r:Nat) (O:opE l x=some (.val (A7 v (i.toNat * 1)))) (U:lr res r=some (v,.list Cu T' (CF vs ls))) (hi:idx ls i=some y) (hT:BN P t false 1) (hw:ws.contains r=false) :
  Run C P Γ l res ⟨some d,.load t x,ty,pos,after,g⟩ (.val (vs i.toNat)):=λa w ha=>by
 obtain⟨u,h1,cs,⟨rfl,h2⟩,h3⟩:=ld (C:=C) (P:=P) (d:=d) (ty:=ty) (pos:=pos) (after:=after) (g:=g) (R:=Cu) (t:=t) r O U (Foc.el (Lw hi)) hT hw a w ha;exact⟨u,h1,h3,h2⟩
theorem lApF {O d2:Tmp} {ty1 ty2 ty3:TypeId} {pos1 pos2 pos3:String} {ab ac ad:Array Edge} {x y b i:Operand} {v:Value} {E:Ent} {TT e:TypeId} {by_ am:Nat} {je:Int} {yl b2 z:List α} {kk:IntKind} {γ:Type} {f:γ->Int} {jj:γ} {zv ao:Value} (r:Nat) (ns:List Nat)
  (hf:CI res base R e vs ls) (hx:opE l x=some (.val (vs je.toNat))) (hr:lr res r=some (v,.list Cu T (CF vs ls))) (ae:Nat.blt r base=true) (hi:idx ls je=some yl) (hb:opE l b=some (.val v)) (a7:opE l i=some (.rd (Bn kk f) jj)) (af:f jj=je) (hy:opE l y=some E) (hv:Vw R res E b2) (hz:app by_ yl b2=some z)
  (ah:Nat.beq O d2=false) (ap:∀ t,b=.tmp t->Nat.beq O t=false) (aq:∀ t,i=.tmp t->Nat.beq O t=false) (h1n:Nat.blt O Γ.n=true) (h2n:Nat.blt d2 Γ.n=true)
  (hT:P.underlying T=some (.slice e)) (hE:TI P e zv R.sz by_) (ar:zv.cells.size=R.sz) (h0:Nat.blt 0 R.sz=true) (h1:Nat.blt 0 by_=true) (hTT:P.underlying TT=some (.slice T)) (hET:TI P T ao 1 am) (hTy:BN P T false 1)
  (hs:BZ res lits ns) (hn:(ns.all λn=>Nat.blt n base&&!Nat.beq n r)=true)
  (k:∀ u,GL P os (Sta Γ ((O,.junk)::(d2,.junk)::l) (((r,some (v,.list Cu T (CF (updF vs je.toNat u) (ls.set je.toNat z))))::lits)++DU base R e (updF vs je.toNat u) (ls.set je.toNat z) 0)) rest N m) :
  GL P os (Sta Γ l res) (⟨some O,.call ⟨.builtin .append,#[x,y],#[T,T]⟩,ty1,pos1,ab,none⟩::⟨some d2,.indexAddr TT b i,ty2,pos2,ac,none⟩::⟨none,.store T (.tmp d2) (.tmp O),ty3,pos3,ad,none⟩::rest) N m:=λa w ha ρ' hm=>by
 have ae:r<base:=Eq.mp Nat.blt_eq ae;obtain⟨i0,au,av⟩:=Dt hi;have aw:=hf je.toNat yl au;obtain⟨w1,u,e1,⟨s1,-⟩,o1,-⟩:=app0 (d:=O) (ty:=ty1) (pos:=pos1) (after:=ab) (g:=none) ha (base+je.toNat) hx aw hy hv hz hT hE ar h0 h1;refine st (Ds rfl) e1 ?_;have s1':=s1.put h1n (show (Ent.val u).holds _ w1 u from ⟨rfl,o1⟩);have ai:lr ((base+je.toNat,some (u,AO.list R e z))::res) r=some (v,.list Cu T (CF vs ls)):=by rw[C0,if_neg (by omega)]; exact hr
 have ax:opE ((O,.val u)::l) b=some (.val v):=by
  cases b with
  | tmp t=>show lk _ t=_; rw[Cn,if_neg (Nat.ne_of_beq_eq_false (ap t rfl))]; exact hb
  | const c=>exact hb
  | global c=>exact hb
  | func c=>exact hb
 have ay:opE ((O,.val u)::l) i=some (.rd (Bn kk f) jj):=by
  cases i with
  | tmp t=>show lk _ t=_; rw[Cn,if_neg (Nat.ne_of_beq_eq_false (aq t rfl))]; exact a7
  | const c=>exact a7
  | global c=>exact a7
  | func c=>exact a7
 obtain⟨p2,e2,k2⟩:=ixO (C:=Eq) (P:=P) (d:=d2) (ty:=ty2) (pos:=pos2) (after:=ac) (g:=none) (R:=Cu) (y:=vs je.toNat) r ax ai ay (by rw[af]; exact Lw hi) hTT hET _ w1 s1';refine st (Ds rfl) (e2 w1 rfl) ?_;have s2:=s1'.put h2n k2;rw[af] at s2;have az:opE ((d2,.val (A7 v (je.toNat * Cu.sz)))::(O,.val u)::l) (.tmp d2)=some (.val (A7 v (je.toNat * Cu.sz))):=by show lk _ d2=_; rw[Cn,if_pos rfl]
 have s3:Sta Γ ((O,.rd Cu u)::(d2,.val (A7 v (je.toNat * Cu.sz)))::(O,.val u)::l) ((base+je.toNat,some (u,AO.list R e z))::res) ((a.put (some O) u).put (some d2) p2) w1:=by
  refine { s2 with slots:=λt' e' U=>?_ };rw[Cn] at U
  split at U
  ·rename_i hh; subst hh; cases U
   obtain⟨u',h3,rfl,h5⟩:=s2.slots O (.val u) (by rw[Cn,if_neg (λe=>Nat.ne_of_beq_eq_false ah e.symm),Cn,if_pos rfl]);exact⟨_,h3,[u'],⟨rfl,o1⟩,rfl⟩
  ·exact s2.slots t' e' U
 have aj:opE ((O,.rd Cu u)::(d2,.val (A7 v (je.toNat * Cu.sz)))::(O,.val u)::l) (.tmp d2)=some (.val (A7 v (je.toNat * Cu.sz))):=by show lk _ d2=_; rw[Cn,if_neg (Nat.ne_of_beq_eq_false ah)]; exact az
 have ak:opE ((O,.rd Cu u)::(d2,.val (A7 v (je.toNat * Cu.sz)))::(O,.val u)::l) (.tmp O)=some (.rd Cu u):=by show lk _ O=_; rw[Cn,if_pos rfl]
 obtain⟨w4,e4,⟨s4,-⟩,-⟩:=sto' (ty:=ty3) (pos:=pos3) (after:=ad) (g:=none) (t:=T) s3 r aj ai (Foc.el (Lw hi)) ak hET;refine st0 (Ds rfl) e4 rfl ?_;refine k u _ w4 ?_ ρ' hm;have a6:∀ n∈ns,n<base/\n≠r:=λn h=>by
  have:=List.all_eq_true.1 hn n h
  simp only[Bool.and_eq_true,Bool.not_eq_true'] at this;exact⟨Eq.mp Nat.blt_eq this.1,Nat.ne_of_beq_eq_false this.2⟩
 have get:∀ r' x',lr (((r,some (v,.list Cu T (CF (updF vs je.toNat u) (ls.set je.toNat z))))::lits)++DU base R e (updF vs je.toNat u) (ls.set je.toNat z) 0) r'=some x'->∃ n,lr ((r,some (v,AO.list Cu T ((CF vs ls).set je.toNat u)))::(base+je.toNat,some (u,AO.list R e z))::res) n=some x'/\((r'=r/\n=r)\/(r'≠r/\lr lits r'=some x'/\n∈ns)\/(r'=n/\base<=n)):=λr' x' h=>by
  have b0:∀ p∈((r,some (v,AO.list Cu T (CF (updF vs je.toNat u) (ls.set je.toNat z))))::lits:Res),p.2≠none:=λp hp=>by
   rcases List.mem_cons.1 hp with rfl | hp
   ·simp
   ·exact hs.somes p hp
  rcases H1 h b0 with h | ⟨-,h⟩
  ·rw[C0] at h
   split at h
   ·rename_i e';refine⟨r,?_,.inl ⟨e'.symm,rfl⟩⟩;rw[C0,if_pos rfl,<- h,Yi (z:=z)]
   ·rename_i e';obtain⟨v',c'⟩:=x';obtain⟨n,h5,h6⟩:=hs.get h;have h7:=a6 n h5;refine⟨n,?_,.inr (.inl ⟨λe=>e' e.symm,h,h5⟩)⟩;rw[C0,if_neg (λe=>h7.2 e.symm),C0,if_neg (by omega)]; exact h6
  ·obtain⟨j,q,h5,h6,h7⟩:=Gr h;rw[Nat.zero_add] at h5 h7;refine⟨base+j,?_,.inr (.inr ⟨h5, by omega⟩)⟩;rw[C0,if_neg (by omega),C0,h7];by_cases hj:je.toNat=j
   ·subst hj;rw[if_pos rfl];rw[List.getElem?_set_self av] at h6
    cases h6
    simp[updF]
   ·rw[if_neg (by omega)];rw[List.getElem?_set_ne hj] at h6;rw[hf j q h6];simp[updF,Ne.symm hj]
 have s5:Sta Γ ((O,.junk)::(d2,.junk)::l) ((r,some (v,AO.list Cu T ((CF vs ls).set je.toNat u)))::(base+je.toNat,some (u,AO.list R e z))::res) ((a.put (some O) u).put (some d2) p2) w4:=by
  refine { s4 with slots:=λt' e' U=>?_ };rw[Cn] at U
  split at U
  ·rename_i hh; subst hh; cases U
   obtain⟨u',h3,_⟩:=s4.slots O _ ak;exact⟨_,h3,trivial⟩
  ·rename_i hh;rw[Cn] at U
   split at U
   ·rename_i a8; subst a8; cases U
    obtain⟨u',h3,_⟩:=s4.slots d2 _ aj;exact⟨_,h3,trivial⟩
   ·rename_i a8;refine s4.slots t' e' ?_;rw[Cn,if_neg hh,Cn,if_neg a8,Cn,if_neg hh]; exact U
 refine s5.subG (λr' x' h=>?_) (λr1 r2 x1 x2 b4 b5 aa=>?_) (λ_ _ h=>h)
 ·obtain⟨n,h,-⟩:=get r' x' h; exact⟨n,h⟩
 ·obtain⟨n1,k1,q1⟩:=get r1 x1 b4;obtain⟨n2,k2,q2⟩:=get r2 x2 b5;rcases q1 with ⟨a1,a2⟩ | ⟨a1,a2,a3⟩ | ⟨a1,a2⟩ <;> rcases q2 with ⟨b1,b2'⟩ | ⟨b1,b2',b3⟩ | ⟨b1,b2'⟩
  ·exact absurd (a1.trans b1.symm) aa
  ·exact⟨n1,n2, by rw[a2]; exact λe=>(a6 n2 b3).2 e.symm,k1,k2⟩
  ·exact⟨n1,n2, by omega,k1,k2⟩
  ·exact⟨n1,n2, by rw[b2']; exact(a6 n1 a3).2,k1,k2⟩
  ·obtain⟨v1,c1⟩:=x1;obtain⟨v2,c2⟩:=x2;obtain⟨m1,m2,g1,g2,g3⟩:=hs.get2 a2 b2' aa;have fix:∀ n x,lr res n=some x->(∃ n',n'∈ns/\n=n')->lr ((r,some (v,AO.list Cu T ((CF vs ls).set je.toNat u)))::(base+je.toNat,some (u,AO.list R e z))::res) n=some x:=λn x hx ⟨n',h',e'⟩=>by
    subst e';rw[C0,if_neg (λe=>(a6 n h').2 e.symm),C0,if_neg (by have:=(a6 n h').1; omega)]; exact hx
   obtain⟨m1,m2,i1,i2,g1,g2,g3⟩:=hs.get3 a2 b2' aa;exact⟨m1,m2,g1,fix m1 _ g2 ⟨m1,i1,rfl⟩,fix m2 _ g3 ⟨m2,i2,rfl⟩⟩
  ·exact⟨n1,n2, by have:=(a6 n1 a3).1; omega,k1,k2⟩
  ·exact⟨n1,n2, by omega,k1,k2⟩
  ·exact⟨n1,n2, by have:=(a6 n2 b3).1; omega,k1,k2⟩
  ·exact⟨n1,n2, by omega,k1,k2⟩
theorem Yl {X:ρ->Act->World->Prop} {v:Value} (U:CI res base R T vs ls) (r:Nat) (hr:lr res r=some (v,.list Cu T' (CF vs ls))) (ns:List Nat) (hs:BZ res lits ns) (hn:(ns.all λn=>Nat.blt n base&&!Nat.beq n r)=true) (O:Nat.blt r base=true) (k:GX X (Sta Γ l ((r,some (v,.list (A8 R) T' ls))::lits)) m):GX X (Sta Γ l res) m:=λa w ha=>k a w (ha.frzFam U r hr ns hs hn O)
theorem Ym {v:Value} (U:CI res base R T vs ls) (r:Nat) (hr:lr res r=some (v,.list Cu T' (CF vs ls))) (ns:List Nat) (hs:BZ res lits ns) (hn:(ns.all λn=>Nat.blt n base&&!Nat.beq n r)=true) (O:Nat.blt r base=true) (k:G ro P (Sta Γ l ((r,some (v,.list (A8 R) T' ls))::lits)) c Q m):G ro P (Sta Γ l res) c Q m:=Yl U r hr ns hs hn O k
end
end
section
section
variable {P:Program} {T I e ty:TypeId} {ti:TypeInfo} {z:Value} {w:World} {n' sLen sCap:Nat} {base:Option Addr} {olds:Array Value}
theorem OQ (hT:P.underlying T=some (.slice e)) (hI:P.underlying I=some (.int .i64)) (U:P.info? e=some ti) (t2:ti.zero=some z) (hw:IntKind.i64.wrap (n':Int)=(n':Int)) (a6:n' * ti.bytes<=281474976710656) (hn:sCap<sLen+n') (ad:sLen+n'<=9223372036854775807) (a1:Builtin.nextslicecap (sLen+n') sCap * ti.bytes<=281474976710656) (a7:¬ (n' * ti.size=0))
 (ho:∀ w',w'=w.drew->(Builtin.firstCells ti.size sLen (.slice base sLen sCap)).run P w'=.ok olds w') :
 (Builtin.append_ #[T,I] ty #[.slice base sLen sCap,.int .i64 (n':Int)]).run P w=.ok (.slice (some ⟨w.heap.size,0,none⟩) (sLen+n') (grownCap w (sLen+n') sCap e)) (w.drew.alloc (.cells (olds++Builtin.zeroCells z.cells n'++Builtin.zeroCells z.cells (grownCap w (sLen+n') sCap e - (sLen+n'))) e)):=by
 have O:∀ w',(typeInfo e).run P w'=.ok ti w':=λw'=>by simp[typeInfo,U]
 have a8:∀ w',(zeroValue e).run P w'=.ok z w':=λw'=>by simp[zeroValue,typeInfo,U,t2]
 have aa:∀ w',(sizeOf e).run P w'=.ok ti.size w':=λw'=>by simp[sizeOf,typeInfo,U]
 have ab:∀ w',(asInt (.int .i64 (n':Int))).run P w'=.ok (n':Int) w':=λw'=>rfl;have a2:¬ ((n':Int)<0):=by omega
 have h1:¬ ((n':Int) * (ti.bytes:Int) > 2 ^ 48):=by
  have:((n' * ti.bytes:Nat):Int)<=281474976710656:=by have:=Int.ofNat_le.2 a6; omega
  rw[Int.natCast_mul] at this;simp only[Int.not_lt,gt_iff_lt]; exact this
 have h2:¬ (sLen+n'<=sCap):=by omega
 have h3:¬ (((sLen+n':Nat):Int) > IntKind.i64.max/\(True\/ti.bytes=0)):=by
  intro h; have:=h.1; simp[IntKind.max,IntKind.bits,IntKind.signed] at this; omega
 have h4:¬ (Builtin.nextslicecap (sLen+n') sCap * ti.bytes > 2 ^ 48):=by
  simp only[gt_iff_lt,Nat.not_lt]; exact a1
 simp only[Builtin.append_,List.getElem?_toArray,List.getElem?_cons_zero,List.getElem?_cons_succ,Sem.run_bind,run_underlying hT,run_underlying hI,Result.andThen,Sem.run_pure,aa];simp only[if_true,Sem.run_bind,ab,Result.andThen,hw];rw[if_neg a2];simp only[Sem.run_bind,O,Result.andThen];rw[if_neg h1];simp only[Sem.run_bind,Sem.run_pure,Result.andThen,Int.toNat_natCast];rw[if_neg h2];simp only[Sem.run_bind,O,Result.andThen]
 rw[if_neg h3];simp only[Sem.run_bind,O,Result.andThen];rw[if_neg h4];have ac:=ho w.drew rfl;simp[Question.forced,ac,O,a7,a8,newRow,grownCap,askRoom,Result.andThen]
theorem Yn (hT:P.underlying T=some (.slice e)) (hI:P.underlying I=some (.int .i64)) (t1:P.info? e=some ti) (t2:ti.zero=some z) (hw:IntKind.i64.wrap (n':Int)=(n':Int)) (a2:n' * ti.bytes<=281474976710656) (hn:sLen+n'<=sCap) {w':World} {a:Addr}
 (O:(storeCells (a.add (sLen * ti.size)) (if n' * ti.size=0 then [] else (Builtin.zeroCells z.cells n').toList)).run P w=.ok () w') :
 (Builtin.append_ #[T,I] ty #[.slice (some a) sLen sCap,.int .i64 (n':Int)]).run P w=.ok (.slice (some a) (sLen+n') sCap) w':=by
 have a6:∀ w',(typeInfo e).run P w'=.ok ti w':=λw'=>by simp[typeInfo,t1]
 have a7:∀ w',(zeroValue e).run P w'=.ok z w':=λw'=>by simp[zeroValue,typeInfo,t1,t2]
 have a8:∀ w',(sizeOf e).run P w'=.ok ti.size w':=λw'=>by simp[sizeOf,typeInfo,t1]
 have aa:∀ w',(asInt (.int .i64 (n':Int))).run P w'=.ok (n':Int) w':=λw'=>rfl;have a1:¬ ((n':Int)<0):=by omega
 have h1:¬ ((n':Int) * (ti.bytes:Int) > 2 ^ 48):=by
  have:((n' * ti.bytes:Nat):Int)<=281474976710656:=by have:=Int.ofNat_le.2 a2; omega
  rw[Int.natCast_mul] at this;simp only[Int.not_lt,gt_iff_lt]; exact this
 simp only[Builtin.append_,List.getElem?_toArray,List.getElem?_cons_zero,List.getElem?_cons_succ,Sem.run_bind,run_underlying hT,run_underlying hI,Result.andThen,Sem.run_pure,a8];simp only[if_true,Sem.run_bind,aa,Result.andThen,hw];rw[if_neg a1];simp only[Sem.run_bind,a6,Result.andThen];rw[if_neg h1];simp only[Sem.run_bind,Sem.run_pure,Result.andThen,Int.toNat_natCast];rw[if_pos hn];by_cases U:n' * ti.size=0
 ·rw[if_pos U] at O;simp[U,O]
 ·rw[if_neg U] at O;simp[U,a7,O]
end
section
variable {C:World->World->Prop} {ρ:Type} {P:Program} {Γ:Ctx} {l:AR} {res:Res} {m:Option ρ} {os rest:List Oper} {N:ρ->Exit->Act->World->Prop} {ro:Option Nat} {Q:ρ->Exit->Act->World->Prop} {c:Code} {ex:Exit}
 {d:Tmp} {ty:TypeId} {pos:String} {after:Array Edge} {g:Option (Nat × Bool)} {α:Type}
theorem OR {R:Rep α} {T:TypeId} {b:List α} {S:Blk} {w:World} {v:Value} (h:(AO.list R T b).holds S w v):(AO.seg R T b).holds S w v:=by
 rcases h with h | ⟨k,o,O,U,b',cap,C,rfl,rfl,h3,h4,h5,h6⟩
 ·exact .inl h
 ·exact .inr ⟨k,_,O,U,b',0,cap,C,rfl,rfl,h3,h4,.inr (by omega), by simpa using h6⟩
theorem xSeg {X:ρ->Act->World->Prop} {R:Rep α} {T:TypeId} {b:List α} {v:Value} (r:Nat) (O:lr res r=some (v,.list R T b)) (k:GX X (Sta Γ l ((r,some (v,.seg R T b))::res)) m):GX X (Sta Γ l res) m:=λa w U=>k a w (U.recont r O OR)
theorem gSeg {R:Rep α} {T:TypeId} {b:List α} {v:Value} (r:Nat) (O:lr res r=some (v,.list R T b)) (k:G ro P (Sta Γ l ((r,some (v,.seg R T b))::res)) c Q m):G ro P (Sta Γ l res) c Q m:=xSeg r O k
theorem cutS {R:Rep α} {b b':List α} {x:Operand} {lo:Operand} {kk:IntKind} {γ:Type} {f:γ->Int} {jj:γ} {T e:TypeId} {z v:Value} {by_:Nat} (r:Nat) (hx:opE l x=some (.val v)) (hr:lr res r=some (v,.seg R e b)) (a1:opE l lo=some (.rd (Bn kk f) jj)) (U:cut b (f jj) (b.length:Int)=some b')
  (hT:P.underlying T=some (.slice e)) (hE:TI P e z R.sz by_):Eff P Γ l res ⟨some d,.slice T x (some lo) none none,ty,pos,after,g⟩ r (λu=>(u,.seg R e b')):=λa w ha=>by
 obtain⟨h1,h2,h3,rfl⟩:=Lo U;have k5:=(ha.vl hx).1;have a2:((b.drop (f jj).toNat).take ((b.length:Int).toNat - (f jj).toNat))=b.drop (f jj).toNat:=List.take_of_length_le (by simp);rw[a2];have O:(b.drop (f jj).toNat).length=b.length - (f jj).toNat:=by simp
 rcases ha.conts r v _ hr with ⟨rfl,rfl⟩ | ⟨b',ob,g1,g2,bb,off,cap,C,rfl,rfl,g3,g4,g5,g6⟩
 ·have hj:(f jj).toNat=0:=by simp at h2; omega
  refine⟨w,.slice none 0 0,?_,?_,rfl,none,Ext.rfl'.gb, by simp⟩
  ·have U:=Ge (P:=P) (isS:=true) (n:=0) (cp:=0) (Bnd.to a1) Bnd.no ha h1 (by simpa using h2) (by simp) (Nat.le_refl _) w;simp only[hj] at U;simp only[execOp,Instr.sliceAt,k5,Sem.run_bind,run_underlying hT,Result.andThen,Instr.slice,Option.map_none] at U ⊢;simp only[U,CY hE,Sem.run_pure,Result.andThen];rfl
  ·exact ha.upd r (v:=.slice none 0 0) (wr:=none) Ext.rfl'.gb (by simp) (by simp[AS]) (λS' k'=>.inl ⟨rfl, by simp⟩)
 ·simp only[AS,Option.some.injEq] at g1;subst g1;have hi:(f jj).toNat<=b.length:=by omega
  refine⟨w,.slice (if cap=(f jj).toNat then some ⟨bb,off,none⟩ else (some (⟨bb,off,none⟩:Addr)).map (·.add ((f jj).toNat * R.sz))) (b.length - (f jj).toNat) (cap - (f jj).toNat),?_,?_,rfl,none,Ext.rfl'.gb, by simp⟩
  ·have U:=Ge (P:=P) (isS:=true) (n:=b.length) (cp:=cap) (Bnd.to a1) Bnd.no ha h1 (by omega) (by omega) g3 w;simp only[Option.map_none,Option.map_some] at U;simp only[execOp,Instr.sliceAt,k5,Sem.run_bind,run_underlying hT,Result.andThen,Instr.slice,U,CY hE,Sem.run_pure,Option.map_none,Option.map_some];simp only[Int.toNat_natCast]
  ·have a6:∀ q,AS (.slice (if cap=(f jj).toNat then some ⟨bb,off,none⟩ else (some (⟨bb,off,none⟩:Addr)).map (·.add ((f jj).toNat * R.sz))) (b.length - (f jj).toNat) (cap - (f jj).toNat))=some q->q=bb:=λq hq=>by
    split at hq
    ·simp only[AS,Option.some.injEq] at hq; exact hq.symm
    ·simp only[Option.map_some,CX,AS,Option.some.injEq] at hq; exact hq.symm
   refine ha.upd r (wr:=none) Ext.rfl'.gb (by simp) (λq hq=>.inl ⟨_,_,hr, by rw[a6 q hq]; rfl⟩) (λS' k'=>?_);have g7:=(g6.drop (f jj).toNat).mono k';by_cases hc:cap=(f jj).toNat
   ·have h0:b.length - (f jj).toNat=0:=by omega
    rw[if_pos hc];refine .inr ⟨bb,_,rfl,g2,bb,off,cap - (f jj).toNat,C, by rw[O],rfl, by rw[O]; omega, by omega,.inl (by omega),?_⟩;rw[O,h0]
    have:b.drop (f jj).toNat=[]:=List.drop_eq_nil_of_le (by omega)
    rw[this]; simp[B5]
   ·rw[if_neg hc];simp only[Option.map_some,CX];refine .inr ⟨bb,_,rfl,g2,bb,off+(f jj).toNat * R.sz,cap - (f jj).toNat,C, by rw[O],rfl, by rw[O]; omega, by omega,?_,?_⟩
    ·rcases g5 with g5 | g5
     ·exact .inl (by omega)
     ·refine .inr ?_
      have:cap * R.sz=(f jj).toNat * R.sz+(cap - (f jj).toNat) * R.sz:=by rw[<- Nat.add_mul]; congr 1; omega
      omega
    ·rw[O];have e1:List.drop ((f jj).toNat * R.sz) ((C.toList.drop off).take (b.length * R.sz))=((C.toList.drop (off+(f jj).toNat * R.sz)).take ((b.length - (f jj).toNat) * R.sz)):=by
      rw[List.drop_take,List.drop_drop,Nat.sub_mul]
     rw[<- e1]; exact g7
theorem Lx {R:Rep α} {e:TypeId} {bl:List α} {S:Blk} {w:World} {C':Array Value} {cp n:Nat} (O:n=bl.length) (U:bl.length<=cp) (h2:cp<=maxLen) (h3:C'.size=cp * R.sz) (h4:B5 R S (w.drew.alloc (.cells C' e)) (C'.toList.take (bl.length * R.sz)) bl):(AO.list R e bl).holds S (w.drew.alloc (.cells C' e)) (.slice (some ⟨w.heap.size,0,none⟩) n cp):=by
 subst O;exact .inr ⟨w.heap.size,_,rfl,heap_alloc_new w.drew _,w.heap.size,cp,C',rfl,rfl,U,h2,h3,h4⟩
theorem Gs (w:World) (o:Obj):w.grownBy (w.drew.alloc o) none:=((Ext.rfl' (w:=w)).dr.tr (Ext.al _ _)).gb
theorem apS {R:Rep α} {b O b3:List α} {x y:Operand} {v z:Value} {E:Ent} {T e:TypeId} {by_:Nat} (r:Nat) (hx:opE l x=some (.val v)) (hr:lr res r=some (v,.seg R e b)) (hy:opE l y=some E) (hv:Vw R res E O) (hb:app by_ b O=some b3)
  (hT:P.underlying T=some (.slice e)) (hE:TI P e z R.sz by_) (hz:z.cells.size=R.sz) (h0:Nat.blt 0 R.sz=true) (h1:Nat.blt 0 by_=true) :
  Eff P Γ l res ⟨some d,.call ⟨.builtin .append,#[x,y],#[T,T]⟩,ty,pos,after,g⟩ r (λu=>(u,.seg R e b3)):=λa w ha=>by
 have h0:0<R.sz:=Eq.mp Nat.blt_eq h0;have h1:0<by_:=Eq.mp Nat.blt_eq h1;obtain⟨ab,rfl⟩:=Sa hb;have e1:=(ha.vl hx).1;obtain⟨q,c2,news,e2,k1,k2⟩:=hv.get ha (ha.vl hy);have ae:b.length+O.length<=140737488355328:=Nat.le_trans (Nat.le_mul_of_pos_right _ h1) ab;have ap:maxLen=9223372036854775807:=rfl;rcases ha.conts r v _ hr with ⟨rfl,rfl⟩ | ⟨b',ob,g1,g2,bb,off,cap,C,rfl,rfl,g3,g4,g5,g6⟩
 ·have ho:w.ownsRow 0 e R.sz (.slice none 0 0) 0 []:=⟨by simp,.inl ⟨rfl,rfl⟩⟩
  obtain⟨p',c',w',q1,q2,q3,q4⟩:=Ou (rt:=ty) hT hE hz h0 ho k1 k2.one (by simp at ae; omega) (by simpa using ab) (Nat.zero_le _);simp only[Nat.zero_add,List.nil_append] at q1 q2 q4;refine⟨w',.slice p' O.length c',?_,?_,rfl,_,q3, by simp[Value.ownBlock]⟩
  ·simp[execOp,resolve,invoke,builtin,e1,e2,q1]
  ·refine ha.upd r q3 (by simp[Value.ownBlock]) (λbb ac=>?_) (λS' k'=>OR (Le (B:=0) (xs:=news) (by simpa using q2) (by simpa using k2.mono k')));rw[ED] at ac;rcases q4 bb ac with h | h
   ·simp[Value.ownBlock] at h
   ·exact .inr h
 ·simp only[AS,Option.some.injEq] at g1;subst g1;obtain⟨ti,t1,t2,t3,t4⟩:=hE;have a2:=k1.1;have aq:(Value.slice (some ⟨bb,off,none⟩) b.length cap).ownBlock=some bb:=rfl;have a7:=g6.len;have aa:∀ j u,((C.toList.drop off).take (b.length * R.sz))[j]? = some u->w.cell? ((⟨bb,off,none⟩:Addr).add j)=some u:=λj u hu=>by
   rw[CX];rw[List.getElem?_take] at hu
   split at hu
   ·unfold World.cell?;rw[g2];rw[List.getElem?_drop] at hu
    simpa using hu
   ·cases hu
  rcases k1.2 with ⟨U,ah⟩ | ⟨qb,qo,qs,qc,U,q1,q2,q3,q4⟩
  ·have a8:O=[]:=List.eq_nil_of_length_eq_zero ah;subst a8;simp only[Value.slice.injEq] at U;obtain⟨rfl,-,rfl⟩:=U;have a1:(Builtin.append_ #[T,T] ty #[.slice (some ⟨bb,off,none⟩) b.length cap,.slice none 0 0]).run P w=.ok (.slice (some ⟨bb,off,none⟩) b.length cap) w:=by
    simp[Builtin.append_,run_underlying hT,sizeOf,typeInfo,t1,Builtin.lenOf,Builtin.firstCells,g3,storeCells]
   refine⟨w,.slice (some ⟨bb,off,none⟩) b.length cap,?_,?_,rfl,none,Ext.rfl'.gb, by simp⟩
   ·have e2':a.eval y=.slice none 0 0:=e2;simp[execOp,resolve,invoke,builtin,e1,e2',a1]
   ·rw[List.append_nil];exact ha.upd r (wr:=none) Ext.rfl'.gb (by simp) (λq U=>.inl ⟨_,_,hr,U⟩) (λS' k'=>.inr ⟨bb,_,rfl,g2,bb,off,cap,C,rfl,rfl,g3,g4,g5,g6.mono k'⟩)
  ·simp only[Value.slice.injEq,true_and] at U;obtain⟨rfl,rfl⟩:=U;have hn:∀ j u,news[j]? = some u->w.cell? ((⟨qb,qo,qs⟩:Addr).add j)=some u:=λj u hu=>by
    rcases q3 with h | rfl
    ·rw[h] at hu; simp at hu
    ·rw[CX]; exact q4 j u hu
   by_cases a6:b.length+O.length<=cap
   ·by_cases ai:cap=0
    ·have aj:O.length=0:=by omega
     have a8:O=[]:=List.eq_nil_of_length_eq_zero aj;subst a8;have ak:news=[]:=List.eq_nil_of_length_eq_zero (by rw[a2]; simp)
     subst ak;have hf:=run_firstCells_some (P:=P) w ti.size 0 ⟨qb,qo,qs⟩ 0 c2 [] (by simp) (by simp);have a1:(Builtin.append_ #[T,T] ty #[.slice (some ⟨bb,off,none⟩) b.length cap,.slice (some ⟨qb,qo,qs⟩) 0 c2]).run P w=.ok (.slice (some ⟨bb,off,none⟩) b.length cap) w:=by
      simp[Builtin.append_,run_underlying hT,sizeOf,typeInfo,t1,Builtin.lenOf,hf,g3,storeCells]
     refine⟨w,.slice (some ⟨bb,off,none⟩) b.length cap,?_,?_,rfl,none,Ext.rfl'.gb, by simp⟩
     ·have e2':a.eval y=.slice (some ⟨qb,qo,qs⟩) 0 c2:=e2;simp[execOp,resolve,invoke,builtin,e1,e2',a1]
     ·rw[List.append_nil];exact ha.upd r (wr:=none) Ext.rfl'.gb (by simp) (λq U=>.inl ⟨_,_,hr,U⟩) (λS' k'=>.inr ⟨bb,_,rfl,g2,bb,off,cap,C,rfl,rfl,g3,g4,g5,g6.mono k'⟩)
    ·have hC:off+cap * R.sz=C.size:=by rcases g5 with h | h; exact absurd h ai; exact h
     have af:off+b.length * R.sz+news.length<=C.size:=by
      rw[a2,<- hC]
      have:(b.length+O.length) * R.sz<=cap * R.sz:=Nat.mul_le_mul_right _ a6
      rw[Nat.add_mul] at this; omega
     have hf:=run_firstCells_some (P:=P) w ti.size O.length ⟨qb,qo,qs⟩ O.length c2 news (by rw[t3]; exact a2) hn;have ad:=run_storeCells_at P bb (off+b.length * R.sz) e news 0 C w g2 (by simpa using af) k2.one;simp only[Nat.add_zero] at ad;obtain⟨C',hC',a1⟩:∃ C':Array Value,C'.toList=C.toList.take (off+b.length * R.sz)++news++C.toList.drop (off+b.length * R.sz+news.length)/\(Builtin.append_ #[T,T] ty #[.slice (some ⟨bb,off,none⟩) b.length cap,.slice (some ⟨qb,qo,qs⟩) O.length c2]).run P w=.ok (.slice (some ⟨bb,off,none⟩) (b.length+O.length) cap) (w.setRow bb C'):=by
      refine⟨(C.toList.take (off+b.length * R.sz)++news++C.toList.drop (off+b.length * R.sz+news.length)).toArray,rfl,?_⟩;rw[t3] at hf;simp[Builtin.append_,run_underlying hT,sizeOf,typeInfo,t1,t3,Builtin.lenOf,a6,hf,CX,ad]
     refine⟨w.setRow bb C',.slice (some ⟨bb,off,none⟩) (b.length+O.length) cap,?_,?_,rfl,some bb,F5 bb C', λq U=>⟨_,_,hr, by cases U; rfl⟩⟩
     ·simp only[execOp,resolve,invoke,builtin,Sem.run_bind];simp[e1,e2,a1]
     ·have hCl:C.toList.length=C.size:=by simp
      refine ha.upd r (F5 bb C') (λq U=>⟨_,_,hr, by cases U; rfl⟩) (λq U=>.inl ⟨_,_,hr,U⟩) (λS' k'=>.inr ⟨bb,_,rfl,setRow_heap w bb C C' e _ g2,bb,off,cap,C', by rw[List.length_append],rfl, by rw[List.length_append]; exact a6,g4,.inr ?_,?_⟩)
      ·rw[hC,<- Array.length_toList (xs:=C'),hC'];simp only[List.length_append,List.length_take,List.length_drop,hCl];omega
      ·rw[List.length_append,hC'];have e3:((C.toList.take (off+b.length * R.sz)++news++C.toList.drop (off+b.length * R.sz+news.length)).drop off).take ((b.length+O.length) * R.sz)=(C.toList.drop off).take (b.length * R.sz)++news:=by
        have:C.toList.take (off+b.length * R.sz)=C.toList.take off++(C.toList.drop off).take (b.length * R.sz):=by rw[List.take_add]
        rw[this,List.append_assoc,List.append_assoc,List.drop_left' (by simp; omega),Nat.add_mul,<- a2];rw[<- List.append_assoc];rw[List.take_left'];simp only[List.length_append,List.length_take,List.length_drop,hCl];omega
       rw[e3];exact(g6.mono k').append (k2.mono k')
   ·have hfit2:Builtin.nextslicecap (b.length+O.length) cap * ti.bytes<=281474976710656:=by
     rw[t4]; exact growslice_fits (by omega) (by omega)
    have am:=grownCap_ge w (b.length+O.length) cap e;have ao:=grownCap_le_maxLen w (b.length+O.length) cap e (by omega);obtain⟨C',hC',a1⟩:∃ C':Array Value,C'.toList=((C.toList.drop off).take (b.length * R.sz)++news)++(Builtin.zeroCells z.cells (grownCap w (b.length+O.length) cap e - (b.length+O.length))).toList/\(Builtin.append_ #[T,T] ty #[.slice (some ⟨bb,off,none⟩) b.length cap,.slice (some ⟨qb,qo,qs⟩) O.length c2]).run P w=.ok (.slice (some ⟨w.heap.size,0,none⟩) (b.length+O.length) (grownCap w (b.length+O.length) cap e)) (w.drew.alloc (.cells C' e)) :=
     ⟨_, by simp,run_append_grow (P:=P) w T ty e ti z hT t1 t2 ⟨bb,off,none⟩ b.length cap _ (by rw[t3]; exact a7) aa ⟨qb,qo,qs⟩ O.length c2 news (by rw[t3]; exact a2) hn (by omega) (by omega) hfit2⟩
    refine⟨w.drew.alloc (.cells C' e),.slice (some ⟨w.heap.size,0,none⟩) (b.length+O.length) (grownCap w (b.length+O.length) cap e),?_,?_,rfl,none,Gs w _, by simp⟩
    ·simp only[execOp,resolve,invoke,builtin,Sem.run_bind];simp[e1,e2,a1]
    ·refine ha.upd r (wr:=none) (Gs w _) (by simp) (λq U=>.inr (by simp[AS] at U; omega)) (λS' k'=>OR (Lx (by simp) (by rw[List.length_append]; exact am) ao ?_ ?_))
     ·rw[<- Array.length_toList,hC'];simp only[List.length_append,Array.length_toList,size_zeroCells,a7,a2,hz]
      have:grownCap w (b.length+O.length) cap e * R.sz=(b.length+O.length) * R.sz+(grownCap w (b.length+O.length) cap e - (b.length+O.length)) * R.sz:=by rw[<- Nat.add_mul]; congr 1; omega
      rw[Nat.add_mul] at this;omega
     ·rw[List.length_append,hC',List.take_left' (by simp only[List.length_append,a7,a2,Nat.add_mul])];exact(g6.mono k').append (k2.mono k')
def Ent.sp {α:Type} (R:Rep α) (v:Value) (b:List α) (y:α):Ent:=⟨λ_ _ u=>∃ k off n cap i,v=.slice (some ⟨k,off,none⟩) n cap/\u=.pointer (some ⟨k,off+i * R.sz,none⟩)/\b[i]? = some y, λ_ h=>h⟩
theorem ixSg {β:Type} {R:Rep α} {b:List α} {y:α} {k:IntKind} {f:β->Int} {j:β} {x z':Operand} {T e E:TypeId} {z v:Value} {by_:Nat} (r:Nat) (hx:opE l x=some (.val v)) (hr:lr res r=some (v,.seg R E b)) (hj:opE l z'=some (.rd (Bn k f) j)) (hy:idx b (f j)=some y) (hT:P.underlying T=some (.slice e)) (hE:TI P e z R.sz by_) :
  Run C P Γ l res ⟨some d,.indexAddr T x z',ty,pos,after,g⟩ (.sp R v b y):=λa w O=>by
 have h1:=(O.vl hx).1;obtain⟨k1,k2,U⟩:=Dt hy;have a1:a.eval z'=.int k ((f j).toNat:Int):=by rw[Ci (O.vl hj)]; congr 1; omega
 rcases O.conts r v _ hr with ⟨_,h2⟩ | ⟨b',o,h2,h3,bb,off,cap,C',rfl,rfl,_⟩
 ·rw[h2] at U; simp at U
 ·refine⟨.pointer (some ⟨bb,off+(f j).toNat * R.sz,none⟩), λw' _=>?_,bb,off,b.length,cap,(f j).toNat,rfl,rfl,k2⟩;generalize (f j).toNat=jn at *;simp[execOp,h1,a1,Instr.indexAt,asIntOf,run_underlying hT,U,CY hE,CX]
theorem ldSg {ws:List Nat} [LC C res ws] {R:Rep α} {b:List α} {y:α} {t T:TypeId} {x:Operand} {v:Value} (r:Nat) (hx:opE l x=some (.sp R v b y)) (hr:lr res r=some (v,.seg R T b)) (hT:BN P t R.agg R.sz) (hw:ws.contains r=false) :
  Run C P Γ l res ⟨some d,.load t x,ty,pos,after,g⟩ (.rd R y):=λa w U=>by
 obtain⟨k,off,n,cap,i,hv,hu,hi⟩:=U.vl hx;rcases U.conts r v _ hr with ⟨rfl,rfl⟩ | ⟨b',o,h2,h3,bb,off',cap',Cc,rfl,rfl,g3,g4,g5,g6⟩
 ·simp at hi
 ·simp only[Value.slice.injEq,Option.some.injEq,Addr.mk.injEq] at hv;obtain⟨⟨rfl,rfl,-⟩,rfl,rfl⟩:=hv;obtain⟨aa,cs,dd,e1,e2,e3,-⟩:=g6.split hi;have hsplit:Cc.toList=(Cc.toList.take off'++aa)++cs++(dd++(Cc.toList.drop off').drop (b.length * R.sz)):=by
   have h1:Cc.toList=Cc.toList.take off'++((Cc.toList.drop off').take (b.length * R.sz)++(Cc.toList.drop off').drop (b.length * R.sz)):=by rw[List.take_append_drop,List.take_append_drop]
   rw[e1] at h1
   simpa using h1
  have a1:(Cc.toList.take off'++aa).length=off'+i * R.sz:=by
   have a6:i<b.length:=(List.getElem?_eq_some_iff.1 hi).1
   have:off'<=Cc.toList.length:=by
    rcases g5 with h | h
    ·omega
    ·rw[Array.length_toList]; omega
   simp[e2]; omega
  simp only[AS,Option.some.injEq] at h2;subst h2;refine⟨R.val cs, λw' O=>?_,cs,e3,rfl⟩;have a2:w'.heap[bb]? = some (.cells Cc T (0,0)):=(CW.at O U hr rfl hw).trans h3
  have:=Bx.load (P:=P) a2 hsplit (R.mono (CW.stay O) e3) hT
  rw[a1] at this;simp[execOp,hu,Instr.loadAt,Instr.sureAddr,this]
def Ent.sub (sz:Nat) (v:Value) (k n:Nat):Ent:=⟨λ_ _ u=>∃ p cap,u=.slice p n cap/\n<=cap/\(n≠0->∃ b,p=some ⟨b,k * sz,none⟩/\AS v=some b), λ_ h=>h⟩
theorem SL {R:Rep α} {b:List α} {x:Operand} {lo hi:Option Operand} {i j:Int} {T e:TypeId} {z v:Value} {by_:Nat} (r:Nat) (hx:opE l x=some (.val v)) (hr:lr res r=some (v,.list R e b)) (a2:Bnd l 0 lo i) (a6:Bnd l (b.length:Int) hi j) (hb:0<=i/\i<=j/\j<=(b.length:Int))
  (hT:P.underlying T=some (.slice e)) (hE:TI P e z R.sz by_):Run C P Γ l res ⟨some d,.slice T x lo hi none,ty,pos,after,g⟩ (.sub R.sz v i.toNat (j.toNat - i.toNat)):=λa w ha=>by
 obtain⟨h1,h2,h3⟩:=hb;have k5:=(ha.vl hx).1;obtain⟨xs,o1,o2⟩:=F6 (ha.conts r v _ hr);obtain⟨p,c,rfl⟩:=E3 o1;have a1:b.length<=c:=by
  rcases o1.2 with ⟨O,h0⟩ | ⟨g',cap',cur,O,a7,a8,aa,ab,ac,U⟩
  ·omega
  ·simp only[Value.slice.injEq,true_and] at O; omega
 refine⟨.slice (if c=i.toNat then p else p.map (·.add (i.toNat * R.sz))) (j.toNat - i.toNat) (c - i.toNat), λw' _=>?_,_,_,rfl, by omega, λhn=>?_⟩
 ·have hb:=Ge (P:=P) (isS:=true) a2 a6 ha h1 h2 h3 a1 w';simp only[execOp,Instr.sliceAt,k5,Sem.run_bind,run_underlying hT,Result.andThen,Instr.slice,hb,CY hE,Sem.run_pure,Option.map_none]
 ·rw[if_neg (by omega)];rcases o1.2 with ⟨O,h0⟩ | ⟨g',cap',cur,O,a7,a8,aa,ab,ac,U⟩
  ·omega
  ·simp only[Value.slice.injEq,true_and] at O;rw[O.1];exact⟨g', by simp[CX],rfl⟩
theorem Yo {x:Operand} {T e:TypeId} {at_:Array TypeId} {sz:Nat} {v:Value} {k n:Nat} (U:opE l x=some (.sub sz v k n)) (O:at_[0]? = some T) (hT:P.underlying T=some (.slice e)) :
  Run C P Γ l res ⟨some d,.call ⟨.builtin .len,#[x],at_⟩,ty,pos,after,g⟩ (.rd A3 (n:Int)):=λa w ha=>by
 obtain⟨p,cap,h1,h2,h3⟩:=ha.vl U;exact⟨_, λw' _=>S3 O hT h1,DN⟩
def subi (k n:Nat) (j:Int):Option Nat:=if 0<=j/\j<(n:Int) then some (k+j.toNat) else none
theorem ixSu {β:Type} {R:Rep α} {b:List α} {k:IntKind} {f:β->Int} {j:β} {x z':Operand} {T e E:TypeId} {z v:Value} {by_ kk n q:Nat} (r:Nat) (hx:opE l x=some (.sub R.sz v kk n)) (hr:lr res r=some (v,.list R E b)) (hj:opE l z'=some (.rd (Bn k f) j)) (O:subi kk n (f j)=some q) (hT:P.underlying T=some (.slice e)) (hE:TI P e z R.sz by_) :
  Run C P Γ l res ⟨some d,.indexAddr T x z',ty,pos,after,g⟩ (.val (A7 v ((q:Int).toNat * R.sz))):=λa w ha=>by
 unfold subi at O
 split at O
 ·rename_i hh
  cases O
  obtain⟨p,cap,h1,h2,h3⟩:=ha.vl hx;obtain⟨bb,rfl,hb⟩:=h3 (by omega);have a1:a.eval z'=.int k ((f j).toNat:Int):=by rw[Ci (ha.vl hj)]; congr 1; omega
  have U:A7 v (((kk+(f j).toNat:Nat):Int).toNat * R.sz)=.pointer (some ⟨bb,(kk+(f j).toNat) * R.sz,none⟩):=by unfold A7; rw[hb,Int.toNat_natCast]
  refine⟨.pointer (some ⟨bb,(kk+(f j).toNat) * R.sz,none⟩), λw' _=>?_,U.symm, by rw[U]; rfl⟩;have a2:(f j).toNat<n:=by omega
  rw[Nat.add_mul];generalize (f j).toNat=jn at *;simp[execOp,h1,a1,Instr.indexAt,asIntOf,run_underlying hT,a2,CY hE,CX]
 ·cases O
def clr {α:Type} (b:List α) (k n:Nat) (x0:α):List α:=b.take k++(List.replicate n x0++b.drop (k+n))
theorem IY {z:Array Value} {n:Nat} (O:0<z.size):(Builtin.zeroCells z n).toList=(List.replicate n z.toList).flatten:=by
 rw[<- Sb rfl O]; rfl
theorem clrS {R:Rep α} {b:List α} {x0:α} {x:Operand} {T e:TypeId} {at_:Array TypeId} {z v:Value} {by_ k n:Nat} (r:Nat) (hx:opE l x=some (.sub R.sz v k n)) (hr:lr res r=some (v,.list R e b)) (hc:k+n<=b.length) (a7:at_[0]? = some T) (hT:P.underlying T=some (.slice e)) (hE:TI P e z R.sz by_) (hz:Zr R z.cells.toList x0) (h0:Nat.blt 0 R.sz=true) :
  ∀ a w,Sta Γ l res a w->∃ w' u,(execOp a.eval ⟨none,.call ⟨.builtin .clear,#[x],at_⟩,ty,pos,after,none⟩).run P w=.ok (.value u) w'/\Sta Γ l ((r,some (v,.list R e (clr b k n x0)))::res) a w':=λa w ha=>by
 have h0:0<R.sz:=Eq.mp Nat.blt_eq h0;obtain⟨p,cap,h1,h2,h3⟩:=ha.vl hx;have ac:z.cells.size=R.sz:=by rw[<- Array.length_toList]; exact R.len (hz (λ_=>True) w)
 by_cases hn:n=0
 ·subst hn;have a1:(Builtin.clear_ at_ ty #[.slice p 0 cap]).run P w=.ok (.tuple #[]) w:=by
   cases p <;> simp[Builtin.clear_,a7,run_underlying hT]
  refine⟨w,.tuple #[], by simp[execOp,resolve,invoke,builtin,h1,a1],?_⟩;have e:clr b k 0 x0=b:=by simp[clr]
  rw[e];exact ha.recont r hr id
 ·obtain⟨bb,rfl,hb⟩:=h3 hn;rcases ha.conts r v _ hr with ⟨rfl,_⟩ | ⟨b',o,g1,g2,O,cp,C,rfl,rfl,g3,g4,g5,g6⟩
  ·cases hb
  ·simp only[AS,Option.some.injEq] at g1 hb;subst g1; subst hb;have a2:=IY (n:=n) (z:=z.cells) (by omega);have U:((List.replicate n z.cells.toList).flatten).length=n * R.sz:=by simp[ac]
   have aa:k * R.sz+(Builtin.zeroCells z.cells n).toList.length<=C.size:=by
    rw[a2,U,g5,<- Nat.add_mul];exact Nat.mul_le_mul_right _ (by omega)
   have ab:∀ u∈(Builtin.zeroCells z.cells n).toList,u.oneCell'=true:=λu hu=>by
    rw[a2] at hu;simp only[List.mem_flatten,List.mem_replicate] at hu;obtain⟨q,⟨-,rfl⟩,hu⟩:=hu;exact R.one (hz (λ_=>True) w) u hu
   have a8:=run_storeCells_at P O (k * R.sz) e (Builtin.zeroCells z.cells n).toList 0 C w g2 (by simpa using aa) ab;simp only[Nat.add_zero] at a8;obtain⟨C',hC',a1⟩:∃ C':Array Value,C'.toList=C.toList.take (k * R.sz)++(List.replicate n z.cells.toList).flatten++C.toList.drop (k * R.sz+n * R.sz)/\(Builtin.clear_ at_ ty #[.slice (some ⟨O,k * R.sz,none⟩) n cap]).run P w=.ok (.tuple #[]) (w.setRow O C'):=by
    refine⟨(C.toList.take (k * R.sz)++(Builtin.zeroCells z.cells n).toList++C.toList.drop (k * R.sz+(Builtin.zeroCells z.cells n).toList.length)).toArray,?_,?_⟩
    rotate_left
    ·obtain⟨n',rfl⟩:∃ n',n=n'+1:=⟨n - 1, by omega⟩
     simp only[Builtin.clear_,a7,Sem.run_bind,run_underlying hT,Result.andThen,FF hE,a8,Sem.run_pure,List.getElem?_toArray,List.getElem?_cons_zero]
    ·simp only[a2,U]
   refine⟨w.setRow O C',.tuple #[], by simp[execOp,resolve,invoke,builtin,h1,a1],?_⟩;refine(ha.upd r (F5 O C') (λq hq=>⟨_,_,hr, by cases hq; rfl⟩) (λq hq=>.inl ⟨_,_,hr,hq⟩) (λS' k'=>?_)).1;have hrel:=(g6.mono k')
   have a6:(clr b k n x0).length=b.length:=by simp[clr]; omega
   have ad:(k+n) * R.sz<=b.length * R.sz:=Nat.mul_le_mul_right _ hc;have hCl:C.toList.length=cp * R.sz:=by simpa using g5
   have ae:b.length * R.sz<=cp * R.sz:=Nat.mul_le_mul_right _ g3;rw[Nat.add_mul] at ad;refine .inr ⟨O,_,rfl,setRow_heap w O C C' e _ g2,O,cp,C', by rw[a6],rfl, by rw[a6]; exact g3,g4,?_,?_⟩
   ·rw[<- Array.length_toList,hC'];simp only[List.length_append,List.length_take,List.length_drop,hCl,U];omega
   ·rw[a6,hC'];have e1:(C.toList.take (k * R.sz)++(List.replicate n z.cells.toList).flatten++C.toList.drop (k * R.sz+n * R.sz)).take (b.length * R.sz)
      = (C.toList.take (b.length * R.sz)).take (k * R.sz)++((List.replicate n z.cells.toList).flatten++(C.toList.take (b.length * R.sz)).drop ((k+n) * R.sz)):=by
     have l1:(C.toList.take (k * R.sz)).length=k * R.sz:=by rw[List.length_take]; omega
     rw[List.take_take,Nat.min_eq_left (by omega),List.append_assoc,List.take_append,List.take_append,List.take_take,U,l1];rw[Nat.min_eq_right (by omega),List.take_of_length_le (l:=(List.replicate n z.cells.toList).flatten) (by rw[U]; omega),List.drop_take,Nat.add_mul]
     congr 3
     omega
    rw[e1];refine(hrel.take k).append ((hz.rep S' _ n).append ?_);exact hrel.drop (k+n)
theorem cutO {R:Rep α} {b b':List α} {x:Operand} {hi:Operand} {kk:IntKind} {γ:Type} {f:γ->Int} {jj:γ} {T e:TypeId} {z v:Value} {by_:Nat} (r:Nat) (hx:opE l x=some (.val v)) (hr:lr res r=some (v,.list R e b)) (a2:opE l hi=some (.rd (Bn kk f) jj)) (O:cut b 0 (f jj)=some b')
  (hT:P.underlying T=some (.slice e)) (hE:TI P e z R.sz by_):Eff P Γ l res ⟨some d,.slice T x none (some hi) none,ty,pos,after,g⟩ r (λu=>(u,.list R e b')):=λa w U=>by
 obtain⟨h1,h2,h3,rfl⟩:=Lo O;have k5:=(U.vl hx).1;have e0:((b.drop (0:Int).toNat).take ((f jj).toNat - (0:Int).toNat))=b.take (f jj).toNat:=by simp
 rw[e0];have a1:(b.take (f jj).toNat).length=(f jj).toNat:=by simp; omega
 rcases U.conts r v _ hr with ⟨rfl,rfl⟩ | ⟨b',ob,g1,g2,bb,cap,C,rfl,rfl,g3,g4,g5,g6⟩
 ·have hj:(f jj).toNat=0:=by simp at h3; omega
  refine⟨w,.slice none 0 0,?_,?_,rfl,none,Ext.rfl'.gb, by simp⟩
  ·have O:=Ge (P:=P) (isS:=true) (n:=0) (cp:=0) Bnd.no (Bnd.to a2) U (Int.le_refl _) h2 (by simpa using h3) (Nat.le_refl _) w;simp only[hj] at O;simp only[execOp,Instr.sliceAt,k5,Sem.run_bind,run_underlying hT,Result.andThen,Instr.slice,Option.map_none] at O ⊢;simp only[O,CY hE,Sem.run_pure,Result.andThen];rfl
  ·exact U.upd r (v:=.slice none 0 0) (wr:=none) Ext.rfl'.gb (by simp) (by simp[AS]) (λS' k'=>.inl ⟨rfl, by simp⟩)
 ·simp only[AS,Option.some.injEq] at g1;subst g1;refine⟨w,.slice (some ⟨bb,0,none⟩) (f jj).toNat cap,?_,?_,rfl,none,Ext.rfl'.gb, by simp⟩
  ·have O:=Ge (P:=P) (isS:=true) (n:=b.length) (cp:=cap) Bnd.no (Bnd.to a2) U (Int.le_refl _) h2 h3 g3 w;simp only[Option.map_none,Option.map_some] at O;simp only[execOp,Instr.sliceAt,k5,Sem.run_bind,run_underlying hT,Result.andThen,Instr.slice,O,CY hE,Sem.run_pure,Option.map_none,Option.map_some];simp[CX]
  ·refine U.upd r (wr:=none) Ext.rfl'.gb (by simp) (λq hq=>.inl ⟨_,_,hr,hq⟩) (λS' k'=>?_);refine .inr ⟨bb,_,rfl,g2,bb,cap,C, by rw[a1],rfl, by rw[a1]; omega,g4,g5,?_⟩;have g7:=(g6.mono k').take (f jj).toNat;rw[List.take_take,Nat.min_eq_left (Nat.mul_le_mul_right _ (by omega))] at g7;rw[a1]; exact g7
theorem capN {x:Operand} {T e:TypeId} {at_:Array TypeId} (U:opE l x=some (.val (.slice none 0 0))) (O:at_[0]? = some T) (hT:P.underlying T=some (.slice e)) :
  Run C P Γ l res ⟨some d,.call ⟨.builtin .cap,#[x],at_⟩,ty,pos,after,g⟩ (.rd A3 0):=λa w ha=>by
 have h1:=(ha.vl U).1;refine⟨.int .i64 0, λw' _=>?_,DN⟩;simp[execOp,resolve,invoke,builtin,Builtin.cap_,h1,O,run_underlying hT,goInt]
theorem cutN {x hi:Operand} {T e:TypeId} {z:Value} {sz by_:Nat} (hx:opE l x=some (.val (.slice none 0 0))) (O:opE l hi=some (.rd A3 0)) (hT:P.underlying T=some (.slice e)) (hE:TI P e z sz by_) :
  Run C P Γ l res ⟨some d,.slice T x none (some hi) none,ty,pos,after,g⟩ (.val (.slice none 0 0)):=λa w U=>by
 have h1:=(U.vl hx).1;refine⟨.slice none 0 0, λw' _=>?_,rfl,rfl⟩;have hb:=Ge (P:=P) (isS:=true) (n:=0) (cp:=0) Bnd.no (Bnd.to (k:=.i64) (f:=id) O) U (Int.le_refl _) (Int.le_refl _) (Int.le_refl _) (Nat.le_refl _) w';simp only[execOp,Instr.sliceAt,h1,Sem.run_bind,run_underlying hT,Result.andThen,Instr.slice,Option.map_none] at hb ⊢;simp only[hb,CY hE,Sem.run_pure,Result.andThen];rfl
theorem apZ {R:Rep α} {x0:α} {b:List α} {x y:Operand} {z:Value} {T I e:TypeId} {by_:Nat} {n:Int} (r:Nat) (hx:opE l x=some (.val (.slice none 0 0))) (hy:opE l y=some (.rd A3 n)) (hb:mkn (2 * by_) x0 n=some b)
  (hT:P.underlying T=some (.slice e)) (hI:P.underlying I=some (.int .i64)) (hE:TI P e z R.sz by_) (hz:Zr R z.cells.toList x0) (h0:Nat.blt 0 R.sz=true) :
  Eff P Γ l res ⟨some d,.call ⟨.builtin .append,#[x,y],#[T,I]⟩,ty,pos,after,g⟩ r (λu=>(u,.list R e b)):=λa w U=>by
 have h0:0<R.sz:=Eq.mp Nat.blt_eq h0;obtain⟨h1,h2,h3,rfl⟩:=Lp hb;obtain⟨n',rfl⟩:∃ n':Nat,n=(n':Int):=⟨n.toNat, by omega⟩
 simp only[Int.toNat_natCast] at h2 h3 ⊢;have e1:=(U.vl hx).1;have e2:=Ci (U.vl hy);simp only[id] at e2;obtain⟨ti,g1,g2,g3,g4⟩:=hE;have a1:z.cells.size=R.sz:=by rw[<- Array.length_toList]; exact R.len (hz (λ_=>True) w)
 have hw:IntKind.i64.wrap (n':Int)=(n':Int):=IN (by omega) (by omega);by_cases hn:n'=0
 ·subst hn;have O:(Builtin.append_ #[T,I] ty #[.slice none 0 0,.int .i64 0]).run P w=.ok (.slice none 0 0) w:=by
   have a2:IntKind.i64.wrap 0=0:=by decide
   simp[Builtin.append_,run_underlying hT,run_underlying hI,sizeOf,typeInfo,g1,asInt,asIntOf,a2,storeCells]
  refine⟨w,.slice none 0 0,?_,?_,rfl,none,Ext.rfl'.gb, by simp⟩
  ·simp[execOp,resolve,invoke,builtin,e1,e2,O]
  ·exact U.upd r (v:=.slice none 0 0) (wr:=none) Ext.rfl'.gb (by simp) (by simp[AS]) (λS' k'=>.inl ⟨rfl,rfl⟩)
 ·have a6:n' * ti.bytes<=281474976710656:=by
   rw[g4,Nat.mul_comm]; rw[Nat.mul_assoc] at h2; omega
  have ac:Builtin.nextslicecap n' 0 * ti.bytes<=281474976710656:=by
   rw[nextslicecap_zero (by omega),g4];rw[Nat.mul_assoc,Nat.mul_comm by_] at h2; omega
  have a7:=grownCap_ge w n' 0 e;have a8:=grownCap_le_maxLen w n' 0 e (by unfold maxLen; omega);have ab:¬ (281474976710656<Builtin.nextslicecap n' 0 * ti.bytes):=by omega
  have aa:¬ (n' * ti.size=0):=by
   rw[g3]; intro hh; rcases Nat.mul_eq_zero.1 hh with h | h <;> omega
  obtain⟨C',hC',O⟩:∃ C':Array Value,C'.toList=(Builtin.zeroCells z.cells n').toList++(Builtin.zeroCells z.cells (grownCap w n' 0 e - n')).toList/\(Builtin.append_ #[T,I] ty #[.slice none 0 0,.int .i64 (n':Int)]).run P w=.ok (.slice (some ⟨w.heap.size,0,none⟩) n' (grownCap w n' 0 e)) (w.drew.alloc (.cells C' e)):=by
   refine⟨Builtin.zeroCells z.cells n'++Builtin.zeroCells z.cells (grownCap w n' 0 e - n'), by simp,?_⟩
   have:=OQ (w:=w) (ty:=ty) (sLen:=0) (sCap:=0) (base:=none) (olds:=#[]) hT hI g1 g2 hw (by have:=a6; omega) (by omega) (by omega) (by rw[Nat.zero_add]; omega) aa (λw' _=>run_firstCells_none w' _ 0 0 0)
   simpa using this
  refine⟨w.drew.alloc (.cells C' e),.slice (some ⟨w.heap.size,0,none⟩) n' (grownCap w n' 0 e),?_,?_,rfl,none,Gs w _, by simp⟩
  ·simp only[execOp,resolve,invoke,builtin,Sem.run_bind];simp[e1,e2,O]
  ·refine U.upd r (wr:=none) (Gs w _) (by simp) (λq hq=>.inr (by simp[AS] at hq; omega)) (λS' k'=>Lx (by simp) (by simp; exact a7) a8 ?_ ?_)
   ·rw[<- Array.length_toList,hC'];simp only[List.length_append,Array.length_toList,size_zeroCells,a1];rw[<- Nat.add_mul]; congr 1; omega
   ·simp only[List.nil_append,List.length_replicate];rw[hC',IY (by omega),List.take_left' (by simp[a1])];exact hz.rep _ _ _
theorem idxV {β:Type} {n:Nat} {R:Rep α} {b:Vector α n} {y:α} {k:IntKind} {f:β->Int} {j:β} {x z':Operand} {T e:TypeId} {z:Value} {by_:Nat} (hx:opE l x=some (.rd (Az n R) b)) (hj:opE l z'=some (.rd (Bn k f) j)) (O:B8 b (f j)=some y) (hT:P.underlying T=some (.array n e)) (hE:TI P e z R.sz by_) (hTy:BN P e R.agg R.sz) :
  Run C P Γ l res ⟨some d,.index T x z',ty,pos,after,g⟩ (.rd R y):=λa w U=>by
 obtain⟨cs,h1,h2⟩:=U.vl hx;obtain⟨k1,k3⟩:=Lk O;have a1:a.eval z'=.int k ((f j).toNat:Int):=by rw[Ci (U.vl hj)]; congr 1; omega
 have a2:b.toList[(f j).toNat]? = some y:=by
  have:=O
  unfold B8 idx at this;rw[if_pos k1] at this
  simpa using this
 obtain⟨aa,c,dd,e1,e2,e3,-⟩:=B5.split h1 a2;refine⟨R.val c, λw' _=>?_,c,e3,rfl⟩;have p1:=Gh (P:=P) (xs:=cs.toArray) (by simpa using e1) e3 hTy w';rw[e2] at p1;have a6:a.eval x=.agg cs.toArray:=h2;generalize (f j).toNat=jn at *;simp[execOp,Instr.index,a6,a1,asIntOf,run_underlying hT,k3,CY hE,p1]
theorem ixH {β:Type} {n:Nat} {R:Rep α} {b:Vector α n} {y:α} {k:IntKind} {f:β->Int} {j:β} {x z':Operand} {T e:TypeId} {z v:Value} {by_ q:Nat} {c:AO} {upd:Vector α n->AO} (r:Nat) (hx:opE l x=some (.val (A7 v q))) (hr:lr res r=some (v,c)) (U:Foc c q (Az n R) b upd) (hj:opE l z'=some (.rd (Bn k f) j)) (hy:B8 b (f j)=some y) (hT:P.underlying T=some (.array n e)) (hE:TI P e z R.sz by_) :
  Run C P Γ l res ⟨some d,.indexAddr T x z',ty,pos,after,g⟩ (.val (A7 v (q+(f j).toNat * R.sz))):=λa w O=>by
 have h1:=(O.vl hx).1;obtain⟨k1,k3⟩:=Lk hy;have a1:a.eval z'=.int k ((f j).toNat:Int):=by rw[Ci (O.vl hj)]; congr 1; omega
 rcases O.conts r v c hr with h2 | ⟨b',o,h2,h3,h4⟩
 ·exact(U.1 _ _ v h2).elim
 ·obtain⟨bb,C',T',a',cs,dd,q1,-⟩:=U.2 _ w v o h4;rw[IP q1] at h1 ⊢;exact⟨_, λw' _=>Oz hT hE h1 a1 rfl k3 rfl,rfl,rfl⟩
theorem Yp {R:Rep α} {n i j:Nat} {v:Vector α n} {x:Operand} {lo hi:Option Operand} {T e:TypeId} {z:Value} {by_:Nat} (hx:opE l x=some (.rp (Az n R) v)) (a1:Bnd l 0 lo (i:Int)) (a2:Bnd l (n:Int) hi (j:Int)) (hT:P.underlying T=some (.array n e)) (hE:TI P e z R.sz by_) (a8:i<=j/\j<=n) (hn:Nat.blt i n=true) (hm:Nat.ble n 281474976710656=true) (h0:Nat.blt 0 R.sz=true) :
  Run C P Γ l res ⟨some d,.slice T x lo hi none,ty,pos,after,g⟩ (.rd (A8 R) ((v.toList.drop i).take (j - i))):=λa w ha=>by
 have hn:i<n:=Eq.mp Nat.blt_eq hn;have hm:n<=281474976710656:=Nat.le_of_ble_eq_true hm;obtain⟨b,o,cs,h1,h2,h3,h4⟩:=ha.vl hx;have U:((v.toList.drop i).take (j - i)).length=j - i:=by simp; omega
 have hrel:B5 R (Shr Γ.H res w) w ((cs.drop (i * R.sz)).take ((j - i) * R.sz)) ((v.toList.drop i).take (j - i)):=(B5.drop i (show B5 R _ w cs v.toList from h3)).take (j - i);refine⟨.slice (some ⟨b,o+i * R.sz,none⟩) ((v.toList.drop i).take (j - i)).length (n - i), λw' _=>?_,_,⟨some ⟨b,o+i * R.sz,none⟩,n - i,_,rfl,⟨hrel.len,.inr ⟨b,o+i * R.sz,none,n - i,rfl, by omega, by unfold maxLen; omega,.inr rfl, λq u O=>?_⟩⟩,hrel, λ_ bb a6=>by cases a6; exact h2⟩,rfl⟩
 ·rw[U];have hb:=Ge (P:=P) (isS:=false) (n:=n) (cp:=n) a1 a2 ha (by omega) (by omega) (by omega) (Nat.le_refl _) w';simp only[Int.toNat_natCast] at hb;have a7:¬ n=i:=by omega
  simp[execOp,h1,Instr.sliceAt,run_underlying hT,hb,Instr.sureAddr,CY hE,Sem.run_pure,CX,a7]
 ·rw[List.getElem?_take] at O
  split at O
  ·rw[List.getElem?_drop] at O
   have:=h4 _ u O
   rw[show o+i * R.sz+q=o+(i * R.sz+q) by omega]; exact this
  ·cases O
theorem fldV {β:Type} {R:Rep α} {R2:Rep β} {b:α} {y:β} {off i:Nat} {set:β->α} {x:Operand} {T ft:TypeId} {fs:Array Field} (hx:opE l x=some (.rd R b)) (hp:AK R b off R2 y set) (U:R.agg=true) (hT:P.underlying T=some (.struct fs)) (hf:(fs[i]?).map (λf=>(f.type,f.offset))=some (ft,off)) (hTy:BN P ft R2.agg R2.sz) :
  Run C P Γ l res ⟨some d,.field T x i,ty,pos,after,g⟩ (.rd R2 y):=λa w ha=>by
 obtain⟨cs,h1,h2⟩:=ha.vl hx;obtain⟨aa,c,dd,e1,e2,e3,-⟩:=hp _ _ _ h1;have a1:a.eval x=.agg cs.toArray:=by rw[h2]; simp[Rep.val,U]
 obtain⟨f,a2,O⟩:=Option.map_eq_some_iff.1 hf;simp only[Prod.mk.injEq] at O;obtain⟨rfl,rfl⟩:=O;refine⟨R2.val c, λw' _=>?_,c,e3,rfl⟩;have p1:=Gh (P:=P) (xs:=cs.toArray) (by simpa using e1) e3 hTy w';rw[e2] at p1;simp[execOp,Instr.field,a1,run_underlying hT,a2,asAgg,p1]
theorem nckP {β:Type} {R:Rep β} {y:β} {upd:β->AO} {x:Operand} {v:Value} {k:Nat} {c:AO} (r:Nat) (hx:opE l x=some (.val (A7 v k))) (hr:lr res r=some (v,c)) (O:Foc c k R y upd):Run C P Γ l res ⟨some d,.nilCheck x,ty,pos,after,g⟩ (.val (A7 v k)):=λa w U=>by
 have h1:=(U.vl hx).1;rcases U.conts r v c hr with h2 | ⟨b,o,h2,h3,h4⟩
 ·exact(O.1 _ _ v h2).elim
 ·obtain⟨b',C',T,a',cs,dd,k1,-⟩:=O.2 _ w v o h4;rw[IP k1] at h1 ⊢;exact⟨_, λw' _=>by simp[execOp,h1],rfl,rfl⟩
def appz {α:Type} (by_:Nat) (b:List α) (x:α) (n:Int):Option (List α):=if 0<=n/\(b.length+n.toNat) * by_<=140737488355328 then some (b++List.replicate n.toNat x) else none
theorem Yq {by_:Nat} {b d:List α} {x:α} {n:Int} (h:appz by_ b x n=some d):0<=n/\(b.length+n.toNat) * by_<=140737488355328/\b++List.replicate n.toNat x=d:=by
 unfold appz at h; split at h
 ·rename_i hh; cases h; exact⟨hh.1,hh.2,rfl⟩
 ·cases h
theorem apZO {R:Rep α} {x0:α} {b b3:List α} {x y:Operand} {v z:Value} {T I e:TypeId} {by_:Nat} {n:Int} (r:Nat) (hx:opE l x=some (.val v)) (hr:lr res r=some (v,.list R e b)) (hy:opE l y=some (.rd A3 n)) (hb:appz by_ b x0 n=some b3)
  (hT:P.underlying T=some (.slice e)) (hI:P.underlying I=some (.int .i64)) (hE:TI P e z R.sz by_) (hz:Zr R z.cells.toList x0) (h0:Nat.blt 0 R.sz=true) (h1:Nat.blt 0 by_=true:=by rfl) :
  Eff P Γ l res ⟨some d,.call ⟨.builtin .append,#[x,y],#[T,I]⟩,ty,pos,after,g⟩ r (λu=>(u,.list R e b3)):=λa w ha=>by
 have h0:0<R.sz:=Eq.mp Nat.blt_eq h0;have h1:0<by_:=Eq.mp Nat.blt_eq h1;obtain⟨b2,a7,rfl⟩:=Yq hb;obtain⟨n',rfl⟩:∃ n':Nat,n=(n':Int):=⟨n.toNat, by omega⟩
 simp only[Int.toNat_natCast] at a7 ⊢;have e1:=(ha.vl hx).1;have e2:=Ci (ha.vl hy);simp only[id] at e2;obtain⟨ti,t1,t2,t3,t4⟩:=hE;have a8:z.cells.size=R.sz:=by rw[<- Array.length_toList]; exact R.len (hz (λ_=>True) w)
 have b0:b.length+n'<=140737488355328:=Nat.le_trans (Nat.le_mul_of_pos_right _ h1) a7;have b4:maxLen=9223372036854775807:=rfl;have hw:IntKind.i64.wrap (n':Int)=(n':Int):=IN (by omega) (by omega);have a6:n' * ti.bytes<=281474976710656:=by
  rw[t4]
  have:n' * by_<=140737488355328:=Nat.le_trans (Nat.mul_le_mul_right _ (by omega)) a7
  omega
 have a2:=IY (n:=n') (z:=z.cells) (by omega);have ab:((List.replicate n' z.cells.toList).flatten).length=n' * R.sz:=by simp[a8]
 have am:∀ u∈(Builtin.zeroCells z.cells n').toList,u.oneCell'=true:=λu hu=>by
  rw[a2] at hu;simp only[List.mem_flatten,List.mem_replicate] at hu;obtain⟨q,⟨-,rfl⟩,hu⟩:=hu;exact R.one (hz (λ_=>True) w) u hu
 obtain⟨xs,o1,o2⟩:=F6 (ha.conts r v _ hr);rcases o1.2 with ⟨rfl,aq⟩ | ⟨g',cap,cur,rfl,b5,ac,b6,ar,aj,ah⟩
 ·have au:b=[]:=List.eq_nil_of_length_eq_zero aq;subst au;by_cases hn:n'=0
  ·subst hn;have O:(Builtin.append_ #[T,I] ty #[.slice none 0 0,.int .i64 0]).run P w=.ok (.slice none 0 0) w:=by
    have av:IntKind.i64.wrap 0=0:=by decide
    simp[Builtin.append_,run_underlying hT,run_underlying hI,sizeOf,typeInfo,t1,asInt,asIntOf,av,storeCells]
   refine⟨w,.slice none 0 0,?_,?_,rfl,none,Ext.rfl'.gb, by simp⟩
   ·simp[execOp,resolve,invoke,builtin,e1,e2,O]
   ·exact ha.upd r (v:=.slice none 0 0) (wr:=none) Ext.rfl'.gb (by simp) (by simp[AS]) (λS' k'=>.inl ⟨rfl,rfl⟩)
  ·have ad:=grownCap_ge w n' 0 e;have ae:=grownCap_le_maxLen w n' 0 e (by omega);have az:¬ (281474976710656<Builtin.nextslicecap n' 0 * ti.bytes):=by
    rw[nextslicecap_zero (by omega),t4];simp only[List.length_nil,Nat.zero_add] at a7; omega
   have aw:¬ ((9223372036854775807:Int)<(n':Int)):=by omega
   have af:¬ (n' * ti.size=0):=by
    rw[t3]; intro hh; rcases Nat.mul_eq_zero.1 hh with h | h <;> omega
   obtain⟨C',hC',O⟩:∃ C':Array Value,C'.toList=(Builtin.zeroCells z.cells n').toList++(Builtin.zeroCells z.cells (grownCap w n' 0 e - n')).toList/\(Builtin.append_ #[T,I] ty #[.slice none 0 0,.int .i64 (n':Int)]).run P w=.ok (.slice (some ⟨w.heap.size,0,none⟩) n' (grownCap w n' 0 e)) (w.drew.alloc (.cells C' e)):=by
    refine⟨Builtin.zeroCells z.cells n'++Builtin.zeroCells z.cells (grownCap w n' 0 e - n'), by simp,?_⟩
    have:=OQ (w:=w) (ty:=ty) (sLen:=0) (sCap:=0) (base:=none) (olds:=#[]) hT hI t1 t2 hw a6 (by omega) (by omega) (by rw[Nat.zero_add]; omega) af (λw' _=>run_firstCells_none w' _ 0 0 0)
    simpa using this
   refine⟨w.drew.alloc (.cells C' e),.slice (some ⟨w.heap.size,0,none⟩) n' (grownCap w n' 0 e),?_,?_,rfl,none,Gs w _, by simp⟩
   ·simp only[execOp,resolve,invoke,builtin,Sem.run_bind];simp[e1,e2,O]
   ·refine ha.upd r (wr:=none) (Gs w _) (by simp) (λq U=>.inr (by simp[AS] at U; omega)) (λS' k'=>Lx (by simp) (by simp; exact ad) ae ?_ ?_)
    ·rw[<- Array.length_toList,hC'];simp only[List.length_append,Array.length_toList,size_zeroCells,a8];rw[<- Nat.add_mul]; congr 1; omega
    ·simp only[List.nil_append,List.length_replicate];rw[hC',IY (by omega),List.take_left' (by simp[a8])];exact hz.rep _ _ _
 ·have b1:Bx w g' cur e:=ac;have aa:=o1.1;have ai:∀ j u,xs[j]? = some u->w.cell? ((⟨g',0,none⟩:Addr).add j)=some u:=λj u hu=>o1.cells (g:=g') rfl j u hu;by_cases a1:b.length+n'<=cap
  ·have ao:b.length * R.sz+(Builtin.zeroCells z.cells n').toList.length<=cur.size:=by
    rw[a2,ab,aj,<- Nat.add_mul]; exact Nat.mul_le_mul_right _ a1
   have ak:=run_storeCells_at P g' (b.length * R.sz) e (Builtin.zeroCells z.cells n').toList 0 cur w ac (by simpa using ao) am;simp only[Nat.add_zero] at ak;obtain⟨C',hC',O⟩:∃ C':Array Value,C'.toList=cur.toList.take (b.length * R.sz)++(Builtin.zeroCells z.cells n').toList++cur.toList.drop (b.length * R.sz+(Builtin.zeroCells z.cells n').toList.length)/\(Builtin.append_ #[T,I] ty #[.slice (some ⟨g',0,none⟩) b.length cap,.int .i64 (n':Int)]).run P w=.ok (.slice (some ⟨g',0,none⟩) (b.length+n') cap) (w.setRow g' C'):=by
    refine⟨(cur.toList.take (b.length * R.sz)++(Builtin.zeroCells z.cells n').toList++cur.toList.drop (b.length * R.sz+(Builtin.zeroCells z.cells n').toList.length)).toArray,rfl,?_⟩;have ap:(storeCells ((⟨g',0,none⟩:Addr).add (b.length * ti.size)) (if n' * ti.size=0 then [] else (Builtin.zeroCells z.cells n').toList)).run P w=.ok () (w.setRow g' (cur.toList.take (b.length * R.sz)++(Builtin.zeroCells z.cells n').toList++cur.toList.drop (b.length * R.sz+(Builtin.zeroCells z.cells n').toList.length)).toArray):=by
     have e9:(if n' * ti.size=0 then [] else (Builtin.zeroCells z.cells n').toList)=(Builtin.zeroCells z.cells n').toList:=by
      split
      ·rename_i h;rw[a2];rw[t3] at h;rcases Nat.mul_eq_zero.1 h with h | h
       ·rw[h]; rfl
       ·omega
      ·rfl
     rw[e9,t3,CX,Nat.zero_add];exact ak
    exact Yn hT hI t1 t2 hw a6 a1 ap
   have hCl:cur.toList.length=cur.size:=by simp
   refine⟨w.setRow g' C',.slice (some ⟨g',0,none⟩) (b.length+n') cap,?_,?_,rfl,some g',F5 g' C', λq U=>⟨_,_,hr, by cases U; rfl⟩⟩
   ·simp only[execOp,resolve,invoke,builtin,Sem.run_bind];simp[e1,e2,O]
   ·refine ha.upd r (F5 g' C') (λq U=>⟨_,_,hr, by cases U; rfl⟩) (λq U=>.inl ⟨_,_,hr,U⟩) (λS' k'=>.inr ⟨g',_,rfl,setRow_heap w g' cur C' e _ ac,g',cap,C', by rw[List.length_append,List.length_replicate],rfl, by rw[List.length_append,List.length_replicate]; exact a1,ar,?_,?_⟩)
    ·rw[<- aj,<- Array.length_toList (xs:=C'),hC'];simp only[List.length_append,List.length_take,List.length_drop,hCl];omega
    ·rw[List.length_append,List.length_replicate,hC',ah,a2,List.take_left' (by rw[List.length_append,aa,ab,Nat.add_mul])];exact(o2.mono k').append (hz.rep _ _ _)
  ·have hfit2:¬ (281474976710656<Builtin.nextslicecap (b.length+n') cap * ti.bytes):=by
    rw[t4]; have:=growslice_fits (old:=cap) (need:=b.length+n') (bytes:=by_) (by omega) (by omega); omega
   have aw:¬ ((9223372036854775807:Int)<((b.length+n':Nat):Int)):=by omega
   have ad:=grownCap_ge w (b.length+n') cap e;have ae:=grownCap_le_maxLen w (b.length+n') cap e (by omega);have ax:=run_firstCells_some (P:=P) w.drew ti.size b.length ⟨g',0,none⟩ b.length cap xs (by rw[t3]; exact aa) (by simpa using ai);obtain⟨C',hC',O⟩:∃ C':Array Value,C'.toList=(xs++(Builtin.zeroCells z.cells n').toList)++(Builtin.zeroCells z.cells (grownCap w (b.length+n') cap e - (b.length+n'))).toList/\(Builtin.append_ #[T,I] ty #[.slice (some ⟨g',0,none⟩) b.length cap,.int .i64 (n':Int)]).run P w=.ok (.slice (some ⟨w.heap.size,0,none⟩) (b.length+n') (grownCap w (b.length+n') cap e)) (w.drew.alloc (.cells C' e)):=by
    refine⟨xs.toArray++Builtin.zeroCells z.cells n'++Builtin.zeroCells z.cells (grownCap w (b.length+n') cap e - (b.length+n')), by simp,?_⟩;have af:¬ (n' * ti.size=0):=by
     rw[t3]; intro hh; rcases Nat.mul_eq_zero.1 hh with h | h <;> omega
    exact OQ hT hI t1 t2 hw a6 (by omega) (by omega) (by omega) af (λw' ay=>by subst ay; exact ax)
   refine⟨w.drew.alloc (.cells C' e),.slice (some ⟨w.heap.size,0,none⟩) (b.length+n') (grownCap w (b.length+n') cap e),?_,?_,rfl,none,Gs w _, by simp⟩
   ·simp only[execOp,resolve,invoke,builtin,Sem.run_bind];simp[e1,e2,O]
   ·refine ha.upd r (wr:=none) (Gs w _) (by simp) (λq U=>.inr (by simp[AS] at U; omega)) (λS' k'=>Lx (by simp) (by simp; exact ad) ae ?_ ?_)
    ·rw[<- Array.length_toList,hC'];simp only[List.length_append,Array.length_toList,size_zeroCells,aa,a8]
     have:grownCap w (b.length+n') cap e * R.sz=(b.length+n') * R.sz+(grownCap w (b.length+n') cap e - (b.length+n')) * R.sz:=by rw[<- Nat.add_mul]; congr 1; omega
     rw[Nat.add_mul] at this; omega
    ·rw[List.length_append,List.length_replicate,hC',a2,List.take_left' (by rw[List.length_append,ab,aa,Nat.add_mul])];exact(o2.mono k').append (hz.rep _ _ _)
end
end
section
theorem Yr {α:Type} {R:Rep α} {T:TypeId} {b:List α} {S S':Blk} {w:World} {v:Value} (h:(AO.list R T b).holds S w v) (O:Br S S' w w) (hb:∀ bb,AS v=some bb->S' bb):(Ent.rd (A8 R) b).holds S' w v:=by
 obtain⟨xs,U,k4⟩:=F6 h;obtain⟨p,c,rfl⟩:=E3 U;exact⟨_,⟨p,c,xs,rfl,Rd.of_own U,k4.mono O, λ_ bb a1=>hb bb (by rw[ED,Gc]; exact a1)⟩,rfl⟩
section
variable {P:Program} {Γ:Ctx} {l:AR} {res:Res} {o:Oper}
theorem SM {a:Act} {w:World} {K K':Act->World->Prop} {Q:Exit->Act->World->Prop} (h:o.wp P a w K (λ_ _ _=>False)) (U:∀ a w,K a w->K' a w):o.wp P a w K' Q:=by
 unfold Oper.wp at h ⊢;generalize (execOp a.eval o).run P w=r at h ⊢
 cases r with
 | ok x w' =>
  cases x <;> simp only[Oper.upon] at h ⊢ <;>
   first
    | exact U _ _ h
    | exact Calls.mono h (λe w'' O=>by
      cases e with
      | returned v=>exact U _ _ O
      | panicked ch=>exact O.elim
      | outgrown=>obtain⟨_,_,h1⟩:=O; exact h1.elim)
    | exact Rows.mono h (λ_ _ O=>U _ _ O)
    | exact h
 | halt x w'=>cases x <;> simp only[Oper.upon] at h ⊢ <;> first | exact h.elim | exact h
end
def Dw:List Nat->Bool
 | []=>true
 | x::l=>!l.contains x&&Dw l
theorem SN:∀ {l:List Nat} {i j x:Nat},Dw l=true->l[i]? = some x->l[j]? = some x->i=j
 | [],i,_,_,_,h,_=>by simp at h
 | y::l,0,0,_,_,_,_=>rfl
 | y::l,0,j+1,x,h,O,U=>by
  simp only[List.getElem?_cons_zero,Option.some.injEq,List.getElem?_cons_succ] at O U;subst O
  have:=List.mem_of_getElem? U
  simp only[Dw,Bool.and_eq_true,Bool.not_eq_true',List.contains_eq_mem,decide_eq_false_iff_not] at h;exact absurd this h.1
 | y::l,i+1,0,x,h,O,U=>by
  simp only[List.getElem?_cons_zero,Option.some.injEq,List.getElem?_cons_succ] at O U;subst U
  have:=List.mem_of_getElem? O
  simp only[Dw,Bool.and_eq_true,Bool.not_eq_true',List.contains_eq_mem,decide_eq_false_iff_not] at h;exact absurd this h.1
 | y::l,i+1,j+1,x,h,O,U=>by
  simp only[List.getElem?_cons_succ] at O U;simp only[Dw,Bool.and_eq_true] at h;rw[SN h.2 O U]
theorem SO {l l':AR} {t:Nat} {e:Ent} (h:lk (l++l') t=some e):lk l t=some e\/lk l' t=some e:=by
 induction l with
 | nil=>exact .inr h
 | cons x l O =>
  obtain⟨k,u⟩:=x;rw[List.cons_append,Cn] at h;rw[Cn]
  split
  ·rename_i hh; rw[if_pos hh] at h; exact .inl h
  ·rename_i hh; rw[if_neg hh] at h; exact O h
theorem SP {p q:Nat->Bool}:∀ {l:List Nat} {x:Nat},x∈l->p x=true->q x=false->(∀ y,q y=true->p y=true)->(l.filter q).length<(l.filter p).length
 | [],_,h,_,_,_=>by simp at h
 | y::l,x,h,hp,hq,O=>by
  have a1:∀ l:List Nat,(l.filter q).length<=(l.filter p).length:=λl=>by
   induction l with
   | nil=>simp
   | cons z l U =>
    simp only[List.filter_cons]
    cases a2:q z with
    | true=>simp[O z a2]; exact U
    | false=>cases p z <;> simp <;> omega
  simp only[List.filter_cons];rcases List.mem_cons.1 h with rfl | h
  ·simp only[hp,hq,if_true,Bool.false_eq_true,if_false,List.length_cons]
   have:=a1 l; omega
  ·have U:=SP h hp hq O
   cases a6:q y with
   | true=>simp[O y a6]; exact U
   | false=>cases p y <;> simp <;> omega
section
variable {ρ:Type} {ro:Option Nat} {P:Program} {n:Nat} {K H:Blk} {w0:World} {dsd:List Deferred} {l0:AR} {res:Res} {Q:ρ->Exit->Act->World->Prop} {m:Option ρ}
theorem EJ {Γ:Ctx} {l:AR} {c:Code} (L':AR) (res':Res) (ns:List Nat) (O:SubS l L') (U:BZ res res' ns) (k:G ro P (Sta Γ L' res') c Q m):G ro P (Sta Γ l res) c Q m:=λa w ha=>k a w (ha.sub ns O U)
end
end
section
abbrev NV:=Nat->Value
abbrev SV (α:Type):=List Nat × (NV->α)
def sv {α:Type} (x:SV α) (O:NV):α:=x.2 λk=>bif x.1.contains k then O k else undef
theorem OS {α:Type} {x:SV α} {O nv':NV} (h:∀ k,x.1.contains k=true->O k=nv' k):sv x O=sv x nv':=by
 unfold sv;refine congrArg x.2 (funext λk=>?_)
 cases U:x.1.contains k with
 | true=>simp only[cond_true]; exact h k U
 | false=>rfl
abbrev SC:=Option (SV (Value × AO))
structure VE where
 key:Nat
 base:SC
 vers:List (Nat × SC)
structure PO where
 dst:Option (Nat × SV Ent)
 ks:List (Nat × Nat × Bool)
 new:List Nat
 bs:List Nat:=[]
abbrev BS:=List (Nat × Ent × Nat)
def Do (L:Nat->Bool):SC->List (Nat × SC)->SC
 | c,[]=>c
 | c,(p,c')::r=>bif L p then Do L c' r else c
def ver:SC->List (Nat × SC)->Nat->SC
 | c,_,0=>c
 | _,[],_+1=>none
 | _,(_,c')::r,q+1=>ver c' r q
theorem OT {L:Nat->Bool}:∀ {vs:List (Nat × SC)} {c:SC} {q:Nat},q<=vs.length->(∀ (j:Nat) (x:Nat × SC),j<q->vs[j]? = some x->L x.1=true)->(∀ x,vs[q]? = some x->L x.1=false)->Do L c vs=ver c vs q
 | [],c,0,_,_,_=>rfl
 | [],c,q+1,h,_,_=>by simp at h
 | (p,c')::r,c,0,_,_,h=>by
  have:=h (p,c') (by simp)
  show (bif L p then _ else c)=c;rw[this]; rfl
 | (p,c')::r,c,q+1,hq,U,h2=>by
  have:=U 0 (p,c') (by omega) (by simp)
  show (bif L p then Do L c' r else c)=ver c' r q;rw[this];exact OT (by simpa using hq) (λj x hj O=>U (j+1) x (by omega) (by simpa using O)) (λx O=>h2 x (by simpa using O))
theorem SQ {L L':Nat->Bool}:∀ {vs:List (Nat × SC)} {c:SC},(∀ x∈vs,L x.1=L' x.1)->Do L c vs=Do L' c vs
 | [],c,_=>rfl
 | (p,c')::r,c,h=>by
  show (bif L p then Do L c' r else c)=(bif L' p then Do L' c' r else c);rw[h (p,c') (by simp),SQ λx O=>h x (by simp[O])]
theorem SR {L:Nat->Bool}:∀ {vs:List (Nat × SC)} {c:SC},Do L c vs=c\/∃ x∈vs,L x.1=true/\Do L c vs=x.2
 | [],c=>.inl rfl
 | (p,c')::r,c=>by
  cases O:L p with
  | false=>refine .inl ?_; show (bif L p then Do L c' r else c)=c; rw[O]; rfl
  | true =>
   have e:Do L c ((p,c')::r)=Do L c' r:=by show (bif L p then Do L c' r else c)=_; rw[O]; rfl
   rcases SR (L:=L) (vs:=r) (c:=c') with h | ⟨x,U,h2,h3⟩
   ·exact .inr ⟨(p,c'), by simp,O,e.trans h⟩
   ·exact .inr ⟨x, by simp[U],h2,e.trans h3⟩
def Rof (V:List VE) (L:Nat->Bool) (O:NV):Res:=V.map λv=>(v.key,(Do L v.base v.vers).map (sv · O))
def H2 (V:List VE) (ks:List (Nat × Nat × Bool)) (O:NV):Res:=ks.filterMap λx=>V[x.1]?.map λv=>(v.key,(ver v.base v.vers x.2.1).map (sv · O))
def aftR (V:List VE) (ks:List (Nat × Nat × Bool)) (O:NV):Res:=ks.filterMap λx=>V[x.1]?.map λv=>(v.key,(ver v.base v.vers (bif x.2.2 then x.2.1+1 else x.2.1)).map (sv · O))
def dirs (o:Oper):List Nat:=o.after.toList.filterMap λe=>bif Region.binds .any e then some e.on else none
def Ly (B:BS) (D:List PO) (o:Oper) (bs:List Nat) (O:NV):AR:=(bs.filterMap λb=>B[b]?.map λx=>(x.1,x.2.1))++(dirs o).filterMap λj=>(D[j]?.bind (·.dst)).map λx=>(x.1,sv x.2 O)
def finS (D:List PO) (O:NV):AR:=D.filterMap λp=>p.dst.map λx=>(x.1,sv x.2 O)
def finR (V:List VE) (O:NV):Res:=V.map λv=>(v.key,(ver v.base v.vers v.vers.length).map (sv · O))
def Obl (P:Program) (Γ:Ctx) (l0:AR) (o:Oper) (new:List Nat) (S:NV->AR) (N A:NV->Res) (e:Option (SV Ent)):Prop :=
 ∀ O E a w,Sta Γ (S O++l0) (N O++E) a w->o.wp P a w (λa' w'=>∃ nv' u,(∀ k,new.contains k=false->nv' k=O k)/\a'=a.put o.dst u/\(Sta Γ l0 (A nv'++E) a w'/\Br (Shr Γ.H (N O++E) w) (Shr Γ.H (A nv'++E) w') w w') /\
  ∀ x,e=some x->(sv x nv').holds (Shr Γ.H (A nv'++E) w') w' u) (λ_ _ _=>False)
def FN (P:Program) (Γ:Ctx) (l0:AR) (B:BS) (V:List VE) (D:List PO):List Oper->List PO->Prop
 | o::os,p::ps=>Obl P Γ l0 o p.new (Ly B D o p.bs) (H2 V p.ks) (aftR V p.ks) (p.dst.map (·.2))/\FN P Γ l0 B V D os ps
 | _,_=>True
theorem FN.get {P:Program} {Γ:Ctx} {l0:AR} {B:BS} {V:List VE} {D:List PO}:∀ {os:List Oper} {ps:List PO} {i:Nat} {o:Oper} {p:PO},FN P Γ l0 B V D os ps->os[i]? = some o->ps[i]? = some p->Obl P Γ l0 o p.new (Ly B D o p.bs) (H2 V p.ks) (aftR V p.ks) (p.dst.map (·.2))
 | [],_,i,_,_,_,h,_=>by simp at h
 | _::_,[],i,_,_,_,_,h=>by simp at h
 | o::os,p::ps,0,_,_,h,O,U=>by
  simp only[List.getElem?_cons_zero,Option.some.injEq] at O U;subst O U; exact h.1
 | o::os,p::ps,i+1,_,_,h,O,U=>FN.get h.2 (by simpa using O) (by simpa using U)
def ancs (os:List Oper):List (List Nat):=os.foldl (λacc o=>acc++[((dirs o)++(dirs o).flatMap λj=>(acc[j]?).getD []).eraseDups]) []
def okId (D:List PO) (an:List Nat) (i id:Nat):Bool:=D.zipIdx.all λx=>!x.1.new.contains id || Nat.beq x.2 i || an.contains x.2
def Lz (os:List Oper) (B:BS) (V:List VE) (D:List PO) (an:List (List Nat)) (ks:List Nat) (n:Nat):Bool :=
 (Dw (B.map (·.1))&&B.all λx=>match D[x.2.2]? with | some p=>(match p.dst with | some y=>Nat.beq y.1 x.1 | none=>false) | none=>false) &&
 (D.zipIdx.all λp=>p.1.bs.all λb=>match B[b]? with | some x=>((an[x.2.2]?).getD []).contains p.2 | none=>false) &&
 Nat.beq os.length D.length&&Nat.beq an.length D.length&&Dw (D.filterMap (λp=>p.dst.map (·.1))++ks)&&Dw (V.map (·.key)) &&
 ((os.zip (D.zip an)).zipIdx.all λx=>(match x.1.1.dst,x.1.1.guard,x.1.2.1.dst with
   | some d,none,some y=>Nat.beq d y.1&&Nat.blt d n&&y.2.1.all (okId D x.1.2.2 x.2)
   | none,none,none=>true
   | _,_,_=>false)&&x.1.1.after.all (λe=>!Region.binds .any e || Nat.blt e.on x.2) &&
  x.1.2.2.all (λy=>(dirs x.1.1).contains y || (dirs x.1.1).any λj=>((an[j]?).getD []).contains y) &&
  x.1.2.1.ks.all λy=>match V[y.1]? with
   | none=>false
   | some v=>Nat.ble y.2.1 v.vers.length&&(Nat.beq y.2.1 0 || (v.vers[y.2.1 - 1]?).any λz=>x.1.2.2.contains z.1) &&
    match v.vers[y.2.1]? with
     | none=>!y.2.2
     | some z=>bif y.2.2 then Nat.beq z.1 x.2 else ((an[z.1]?).getD []).contains x.2) &&
 V.zipIdx.all λv=>(match v.1.base with | none=>true | some c=>c.1.all λid=>D.all λp=>!p.new.contains id) &&
  v.1.vers.zipIdx.all λz=>(match D[z.1.1]? with | none=>false | some p=>p.ks.contains (v.2,z.2,true))&&(match z.1.2 with | none=>true | some c=>c.1.all (okId D ((an[z.1.1]?).getD []) z.1.1))
theorem OU {α β:Type} {k:Nat} {f:α->Nat × β}:∀ {V:List α} {i:Nat} {v:α},Dw (V.map λv=>(f v).1)=true->V[i]? = some v->(f v).1=k->lk (V.map f) k=some (f v).2
 | [],i,_,_,h,_=>by simp at h
 | u::V,0,v,_,h,O=>by
  simp only[List.getElem?_cons_zero,Option.some.injEq] at h;subst h;rw[List.map_cons, show f u=((f u).1,(f u).2) from rfl,Cn,if_pos O]
 | u::V,i+1,v,U,h,O=>by
  simp only[List.getElem?_cons_succ] at h;rw[List.map_cons, show f u=((f u).1,(f u).2) from rfl,Cn,if_neg]
  ·simp only[List.map_cons,Dw,Bool.and_eq_true] at U;exact OU U.2 h O
  ·intro e
   have:=SN U (i:=0) (j:=i+1) (x:=(f u).1) (by simp) (by simp[h,O,e])
   omega
theorem Fw {α:Type}:∀ {l:List (Nat × α)} {k:Nat} {y:α},lk l k=some y->(k,y)∈l
 | [],_,_,h=>by cases h
 | (k',v)::l,k,y,h=>by
  rw[Cn] at h
  split at h
  ·rename_i e; subst e; cases h; simp
  ·simp[Fw h]
theorem SS {α:Type}:∀ {l:List (Nat × α)} {k:Nat},lk l k=none->∀ y,(k,y)∉l
 | [],_,_,_=>by simp
 | (k',v)::l,k,h,y=>by
  rw[Cn] at h
  split at h
  ·cases h
  ·rename_i e;intro O;rcases List.mem_cons.1 O with O | O
   ·cases O; exact e rfl
   ·exact SS h y O
theorem Sta.lrq {Γ:Ctx} {l:AR} {U r2:Res} {a:Act} {w:World} (h:Sta Γ l U a w) (e:∀ k,lr r2 k=lr U k):Sta Γ l r2 a w:=by
 have hs:Br (Shr Γ.H U w) (Shr Γ.H r2 w) w w:=λb hb=>⟨⟨hb.1, λr v c O=>hb.2.1 r v c (by rw[<- e]; exact O),hb.2.2⟩,rfl⟩
 exact⟨h.size,h.defers, λt x ht=>by obtain⟨v,h1,h2⟩:=h.slots t x ht; exact⟨v,h1,x.mono hs h2⟩, λr v c O=>(h.conts r v c (by rw[<- e]; exact O)).mono hs (λ_ _=>rfl),
  λr v c r' v' c' h1 h2=>h.excl r v c r' v' c' (by rw[<- e]; exact h1) (by rw[<- e]; exact h2), λr v c O=>h.own r v c (by rw[<- e]; exact O),h.keep,h.old,h.hid⟩
theorem Shr.lrq {H:Blk} {U r2:Res} {w:World} (e:∀ k,lr r2 k=lr U k):Br (Shr H U w) (Shr H r2 w) w w:=λb O=>⟨⟨O.1, λr v c hr=>O.2.1 r v c (by rw[<- e]; exact hr),O.2.2⟩,rfl⟩
section
variable {ρ:Type} {ro:Option Nat} {P:Program} {n:Nat} {K H:Blk} {w0:World} {dsd:List Deferred} {l0:AR} {res:Res} {Q:ρ->Exit->Act->World->Prop} {m:Option ρ}
structure Fx (os:List Oper) (B:BS) (V:List VE) (D:List PO) (an:List (List Nat)) (ks:List Nat) (n:Nat):Prop where
 bnd:Dw (B.map (·.1))=true
 bop:∀ x∈B,∃ p y,D[x.2.2]? = some p/\p.dst=some y/\y.1=x.1
 bbs:∀ (i:Nat) (p:PO),D[i]? = some p->∀ b∈p.bs,∃ x A,B[b]? = some x/\an[x.2.2]? = some A/\i∈A
 len:os.length=D.length
 nd:Dw (D.filterMap (λp=>p.dst.map (·.1))++ks)=true
 ndv:Dw (V.map (·.key))=true
 op:∀ (i:Nat) (o:Oper) (p:PO),os[i]? = some o->D[i]? = some p->∃ A:List Nat,an[i]? = some A/\o.guard=none/\o.dst=p.dst.map (·.1)/\(∀ x,p.dst=some x->x.1<n/\∀ id∈x.2.1,okId D A i id=true)/\(∀ e∈o.after,Region.binds .any e=true->e.on<i) /\
  (∀ y∈A,y∈dirs o\/∃ j∈dirs o,∃ B,an[j]? = some B/\y∈B) /\
  ∀ k q b,(k,q,b)∈p.ks->∃ v,V[k]? = some v/\q<=v.vers.length/\(q=0\/∃ z,v.vers[q - 1]? = some z/\z.1∈A)/\(b=true->∃ z,v.vers[q]? = some z/\z.1=i)/\(b=false->∀ z,v.vers[q]? = some z->∃ B,an[z.1]? = some B/\i∈B)
 ve:∀ (k:Nat) (v:VE),V[k]? = some v->(∀ c,v.base=some c->∀ id∈c.1,∀ p∈D,p.new.contains id=false) /\
  ∀ (q:Nat) (z:Nat × SC),v.vers[q]? = some z->(∃ p,D[z.1]? = some p/\(k,q,true)∈p.ks)/\∀ c,z.2=some c->∀ id∈c.1,okId D ((an[z.1]?).getD []) z.1 id=true
theorem Ys {os:List Oper} {B:BS} {V:List VE} {D:List PO} {an:List (List Nat)} {ks:List Nat} {n:Nat} (h:Lz os B V D an ks n=true):Fx os B V D an ks n:=by
 unfold Lz at h;simp only[Bool.and_eq_true] at h;obtain⟨⟨⟨⟨⟨⟨⟨⟨b1,b2⟩,b3⟩,c1⟩,c2⟩,c3⟩,c4⟩,c5⟩,c6⟩:=h;have c1:os.length=D.length:=Nat.eq_of_beq_eq_true c1;have c2:an.length=D.length:=Nat.eq_of_beq_eq_true c2;have q2:∀ x∈B,∃ p y,D[x.2.2]? = some p/\p.dst=some y/\y.1=x.1:=λx hx=>by
  have:=List.all_eq_true.1 b2 x hx
  cases U:D[x.2.2]? with
  | none=>rw[U] at this; cases this
  | some p =>
   rw[U] at this;simp only at this
   cases hd:p.dst with
   | none=>rw[hd] at this; cases this
   | some y=>rw[hd] at this; exact⟨p,y,rfl,hd,Nat.eq_of_beq_eq_true this⟩
 have q3:∀ (i:Nat) (p:PO),D[i]? = some p->∀ b∈p.bs,∃ x A,B[b]? = some x/\an[x.2.2]? = some A/\i∈A:=λi p U b hb=>by
  have O:(D.zipIdx)[i]? = some (p,i):=by rw[List.getElem?_zipIdx]; simp[U]
  have:=List.all_eq_true.1 (List.all_eq_true.1 b3 _ (List.mem_of_getElem? O)) b hb
  cases hx:B[b]? with
  | none=>rw[hx] at this; cases this
  | some x =>
   rw[hx] at this;simp only at this
   cases hA:an[x.2.2]? with
   | none=>rw[hA] at this; simp at this
   | some A=>rw[hA] at this; exact⟨x,A,rfl,hA, by simpa using this⟩
 refine⟨b1,q2,q3,c1,c3,c4, λi o p h1 h2=>?_, λk v hv=>?_⟩
 ·have hi:i<D.length:=(List.getElem?_eq_some_iff.1 h2).1;obtain⟨A,hA⟩:∃ A,an[i]? = some A:=⟨_,List.getElem?_eq_getElem (by omega)⟩
  have O:((os.zip (D.zip an)).zipIdx)[i]? = some ((o,p,A),i):=by
   rw[List.getElem?_zipIdx];simp[List.getElem?_zip_eq_some,h1,h2,hA]
  have:=List.all_eq_true.1 c5 _ (List.mem_of_getElem? O)
  simp only[Bool.and_eq_true] at this;obtain⟨⟨⟨t1,t2⟩,t3⟩,t4⟩:=this;have hd:o.guard=none/\o.dst=p.dst.map (·.1)/\∀ x,p.dst=some x->x.1<n/\∀ id∈x.2.1,okId D A i id=true:=by
   cases hd:o.dst <;> cases hg:o.guard <;> cases U:p.dst <;> rw[hd,hg,U] at t1 <;> first | (cases t1; done) | skip
   ·exact⟨rfl,rfl, λx hx=>by cases hx⟩
   ·simp only[Bool.and_eq_true] at t1;refine⟨rfl, by rw[Nat.eq_of_beq_eq_true t1.1.1]; rfl, λx hx=>?_⟩
    cases hx
    exact⟨by rw[<- Nat.eq_of_beq_eq_true t1.1.1]; exact Eq.mp Nat.blt_eq t1.1.2, λid hid=>List.all_eq_true.1 t1.2 id hid⟩
  refine⟨A,hA,hd.1,hd.2.1,hd.2.2, λe he hb=>(by
   have:=Array.all_eq_true_iff_forall_mem.1 t2 e he
   rw[hb] at this
   exact Eq.mp Nat.blt_eq (by simpa using this)), λy hy=>?_, λk q b hk=>?_⟩
  ·have:=List.all_eq_true.1 t3 y hy
   rw[Bool.or_eq_true] at this;rcases this with h | h
   ·exact .inl (by simpa using h)
   ·obtain⟨j,hj,hh⟩:=List.any_eq_true.1 h
    cases hB:an[j]? with
    | none=>rw[hB] at hh; simp at hh
    | some B=>rw[hB] at hh; exact .inr ⟨j,hj,B,hB, by simpa using hh⟩
  ·have:=List.all_eq_true.1 t4 _ hk
   simp only at this
   cases hv:V[k]? with
   | none=>rw[hv] at this; cases this
   | some v =>
    rw[hv] at this;simp only[Bool.and_eq_true,Bool.or_eq_true] at this;obtain⟨⟨u1,u2⟩,u3⟩:=this;refine⟨v,rfl,Nat.le_of_ble_eq_true u1,?_, λhb=>?_, λhb z O=>?_⟩
    ·rcases u2 with h | h
     ·exact .inl (Nat.eq_of_beq_eq_true h)
     ·cases O:v.vers[q - 1]? with
      | none=>rw[O] at h; cases h
      | some z=>rw[O] at h; exact .inr ⟨z,rfl, by simpa using h⟩
    ·subst hb
     cases O:v.vers[q]? with
     | none=>rw[O] at u3; cases u3
     | some z=>rw[O] at u3; exact⟨z,rfl,Nat.eq_of_beq_eq_true u3⟩
    ·subst hb;rw[O] at u3;simp only[cond_false] at u3
     cases hB:an[z.1]? with
     | none=>rw[hB] at u3; simp at u3
     | some B=>rw[hB] at u3; exact⟨B,rfl, by simpa using u3⟩
 ·have O:(V.zipIdx)[k]? = some (v,k):=by rw[List.getElem?_zipIdx]; simp[hv]
  have:=List.all_eq_true.1 c6 _ (List.mem_of_getElem? O)
  simp only[Bool.and_eq_true] at this;obtain⟨t1,t2⟩:=this;refine⟨λc hc id hid p U=>?_, λq z hq=>?_⟩
  ·rw[hc] at t1
   have:=List.all_eq_true.1 (List.all_eq_true.1 t1 id hid) p U
   simpa using this
  ·have a1:(v.vers.zipIdx)[q]? = some (z,q):=by rw[List.getElem?_zipIdx]; simp[hq]
   have:=List.all_eq_true.1 t2 _ (List.mem_of_getElem? a1)
   simp only[Bool.and_eq_true] at this;obtain⟨s1,s2⟩:=this;refine⟨?_, λc hc id hid=>?_⟩
   ·cases U:D[z.1]? with
    | none=>rw[U] at s1; cases s1
    | some p=>rw[U] at s1; exact⟨p,rfl, by simpa using s1⟩
   ·rw[hc] at s2;exact List.all_eq_true.1 s2 id hid
theorem ST {D:List PO} {an:List Nat} {i id j:Nat} {p:PO} (h:okId D an i id=true) (O:D[j]? = some p) (U:p.new.contains id=true):j=i\/j∈an:=by
 have hz:(D.zipIdx)[j]? = some (p,j):=by rw[List.getElem?_zipIdx]; simp[O]
 have:=List.all_eq_true.1 h _ (List.mem_of_getElem? hz)
 simp only[U,Bool.not_true,Bool.false_or,Bool.or_eq_true] at this;rcases this with h | h
 ·exact .inl (Nat.eq_of_beq_eq_true h)
 ·exact .inr (by simpa using h)
def H3 (an:List (List Nat)) (L:Nat->Bool):Prop:=∀ i A,an[i]? = some A->L i=true->∀ y∈A,L y=true
section
variable {os:List Oper} {B:BS} {V:List VE} {D:List PO} {an:List (List Nat)} {ks:List Nat} {L L':Nat->Bool}
theorem Fx.prev (ok:Fx os B V D an ks n) {k:Nat} {v:VE} (U:V[k]? = some v) {j:Nat} {x:Nat × SC} (hx:v.vers[j+1]? = some x):∃ z A,v.vers[j]? = some z/\an[x.1]? = some A/\z.1∈A:=by
 obtain⟨⟨p,hp,hk⟩,-⟩:=(ok.ve k v U).2 (j+1) x hx;obtain⟨o,ho⟩:∃ o,os[x.1]? = some o:=⟨_,List.getElem?_eq_getElem (by rw[ok.len]; exact(List.getElem?_eq_some_iff.1 hp).1)⟩
 obtain⟨A,hA,-,-,-,-,-,h7⟩:=ok.op x.1 o p ho hp;obtain⟨v',O,-,h8,-,-⟩:=h7 k (j+1) true hk;rw[U] at O; cases O
 rcases h8 with h8 | ⟨z,hz,hzA⟩
 ·omega
 ·exact⟨z,A, by simpa using hz,hA,hzA⟩
theorem Fx.below (ok:Fx os B V D an ks n) (hc:H3 an L) {k:Nat} {v:VE} (hv:V[k]? = some v):∀ (j:Nat) (x:Nat × SC),v.vers[j]? = some x->L x.1=true->∀ j' x',j'<=j->v.vers[j']? = some x'->L x'.1=true
 | 0,x,O,U,j',x',h,h'=>by
  have:j'=0:=by omega
  subst this; rw[O] at h'; cases h'; exact U
 | j+1,x,O,U,j',x',h,h'=>by
  by_cases e:j'=j+1
  ·subst e; rw[O] at h'; cases h'; exact U
  ·obtain⟨z,A,hz,hA,hzA⟩:=ok.prev hv O;exact ok.below hc hv j z hz (hc _ A hA U _ hzA) j' x' (by omega) h'
theorem Fx.cur (ok:Fx os B V D an ks n) (U:H3 an L) {k:Nat} {v:VE} (hv:V[k]? = some v) {q:Nat} (hq:q<=v.vers.length) (O:q=0\/∃ z,v.vers[q - 1]? = some z/\L z.1=true) (h2:∀ z,v.vers[q]? = some z->L z.1=false):Do L v.base v.vers=ver v.base v.vers q:=by
 refine OT hq (λj x hj hx=>?_) h2;rcases O with O | ⟨z,hz,hl⟩
 ·omega
 ·exact ok.below U hv (q - 1) z hz hl j x (by omega) hx
theorem LA (ok:Fx os B V D an ks n) {k:Nat} {v:VE} (U:V[k]? = some v) (L:Nat->Bool) (O:NV):lk (Rof V L O) v.key=some ((Do L v.base v.vers).map (sv · O)):=by
 unfold Rof;exact OU (f:=λv:VE=>(v.key,(Do L v.base v.vers).map (sv · O))) ok.ndv U rfl
theorem SU {k:Nat} {y:Option (Value × AO)} {O:NV} (h:lk (Rof V L O) k=some y):∃ (i:Nat) (v:VE),V[i]? = some v/\v.key=k/\y=(Do L v.base v.vers).map (sv · O):=by
 have:=Fw h
 obtain⟨v,U,e⟩:=List.mem_map.1 this;obtain⟨i,hi,rfl⟩:=List.getElem_of_mem U
 cases e
 exact⟨i,_,List.getElem?_eq_getElem hi,rfl,rfl⟩
theorem Yt (ok:Fx os B V D an ks n) (hc:H3 an L) {i:Nat} {o:Oper} {p:PO} {A:List Nat} (ho:os[i]? = some o) (hp:D[i]? = some p) (hA:an[i]? = some A) (a2:∀ y∈A,L y=true) (hi:L i=false) (O:NV) (E:Res) :
  ∀ k,lr (H2 V p.ks O++(Rof V L O++E)) k=lr (Rof V L O++E) k:=by
 intro k;unfold lr;rw[EE]
 cases hl:lk (H2 V p.ks O) k with
 | none=>rfl
 | some y =>
  obtain⟨⟨kp,q,b⟩,hk,he⟩:=List.mem_filterMap.1 (Fw hl);obtain⟨A',hA',-,-,-,-,-,h7⟩:=ok.op i o p ho hp;rw[hA] at hA'; cases hA'
  obtain⟨v,hv,hq,h8,h9,a7⟩:=h7 kp q b hk;simp only[hv,Option.map_some,Option.some.injEq,Prod.mk.injEq] at he;obtain⟨rfl,rfl⟩:=he
  have a6:=ok.cur hc hv hq (h8.imp id λ⟨z,U,hzA⟩=>⟨z,U,a2 _ hzA⟩) (λz U=>by
   cases b with
   | true=>obtain⟨z',a1,e⟩:=h9 rfl; rw[U] at a1; cases a1; rw[e]; exact hi
   | false =>
    obtain⟨B,hB,hiB⟩:=a7 rfl z U;refine Classical.byContradiction λa8=>?_
    have:=hc _ B hB (by simpa using a8) _ hiB
    rw[hi] at this; cases this)
  rw[EE,LA ok hv,a6];rfl
theorem Yu (ok:Fx os B V D an ks n) (hc:H3 an L) {i:Nat} {o:Oper} {p:PO} {A:List Nat} (ho:os[i]? = some o) (hp:D[i]? = some p) (hA:an[i]? = some A) (U:∀ y∈A,L y=true) (hi:L i=false)
  (hL:∀ j,L' j=(L j || Nat.beq j i)) {nv nv':NV} (a7:∀ k,p.new.contains k=false->nv' k=nv k) (E:Res):∀ k,lr (Rof V L' nv'++E) k=lr (aftR V p.ks nv'++(Rof V L nv++E)) k:=by
 have hLi:L' i=true:=by rw[hL]; simp
 have hLm:∀ j,L j=true->L' j=true:=λj h=>by rw[hL,h]; rfl
 have hLn:∀ j,L' j=true->L j=true\/j=i:=λj h=>by
  rw[hL,Bool.or_eq_true] at h;exact h.imp id Nat.eq_of_beq_eq_true
 have hAi:i∉A:=λh=>by have:=U i h; rw[hi] at this; cases this
 have a8:H3 an L':=λj B hB hj y hy=>by
  rcases hLn j hj with h | rfl
  ·exact hLm _ (hc j B hB h y hy)
  ·rw[hA] at hB; cases hB; exact hLm _ (U y hy)
 have aa:∀ j B,an[j]? = some B->i∈B->L' j=false:=λj B hB hiB=>by
  refine Classical.byContradiction λh=>?_;rcases hLn j (by simpa using h) with h | rfl
  ·have:=hc j B hB h i hiB; rw[hi] at this; cases this
  ·rw[hA] at hB; cases hB; exact hAi hiB
 obtain⟨A',hA',-,-,-,-,-,h7⟩:=ok.op i o p ho hp;rw[hA] at hA'; cases hA'
 intro k;unfold lr;rw[EE,EE]
 cases hl:lk (aftR V p.ks nv') k with
 | some y =>
  obtain⟨⟨kp,q,b⟩,hk,he⟩:=List.mem_filterMap.1 (Fw hl);obtain⟨v,O,hq,h8,h9,ad⟩:=h7 kp q b hk;simp only[O,Option.map_some,Option.some.injEq,Prod.mk.injEq] at he;obtain⟨rfl,rfl⟩:=he;rw[LA ok O]
  have:Do L' v.base v.vers=ver v.base v.vers (bif b then q+1 else q):=by
   cases b with
   | true =>
    obtain⟨z,hz,e⟩:=h9 rfl;refine ok.cur a8 O (q:=q+1) (by have:=(List.getElem?_eq_some_iff.1 hz).1; omega) (.inr ⟨z, by simpa using hz, by rw[e]; exact hLi⟩) (λz' ae=>?_);obtain⟨z2,B,ab,hB,hzB⟩:=ok.prev O ae;rw[hz] at ab; cases ab
    exact aa _ B hB (by rw[<- e]; exact hzB)
   | false =>
    refine ok.cur a8 O (q:=q) hq (h8.imp id λ⟨z,hz,hzA⟩=>⟨z,hz,hLm _ (U _ hzA)⟩) (λz hz=>?_);obtain⟨B,hB,hiB⟩:=ad rfl z hz;exact aa _ B hB hiB
  rw[this]; rfl
 | none =>
  rw[Option.none_or,EE]
  cases hr:lk (Rof V L' nv') k with
  | none =>
   cases af:lk (Rof V L nv) k with
   | none=>rfl
   | some y =>
    obtain⟨j,v,O,rfl,-⟩:=SU af;rw[LA ok O] at hr; cases hr
  | some y =>
   obtain⟨j,v,O,rfl,rfl⟩:=SU hr;rw[LA ok O];have a1:∀ x∈v.vers,x.1≠i:=λx hx e=>by
    obtain⟨q,hq,rfl⟩:=List.getElem_of_mem hx;obtain⟨⟨p',ac,ah⟩,-⟩:=(ok.ve j v O).2 q _ (List.getElem?_eq_getElem hq);rw[e,hp] at ac; cases ac
    exact SS hl _ (List.mem_filterMap.2 ⟨(j,q,true),ah, by rw[O]; rfl⟩)
   have a6:Do L' v.base v.vers=Do L v.base v.vers:=SQ λx hx=>by
    rw[hL]
    have:Nat.beq x.1 i=false:=by
     cases hb:Nat.beq x.1 i with
     | false=>rfl
     | true=>exact absurd (Nat.eq_of_beq_eq_true hb) (a1 x hx)
    rw[this,Bool.or_false]
   rw[a6];simp only[Option.some_or,Option.getD_some];rcases SR (L:=L) (vs:=v.vers) (c:=v.base) with hb | ⟨x,hx,ai,hb⟩ <;> rw[hb]
   ·cases a2:v.base with
    | none=>rfl
    | some c =>
     refine congrArg some (OS λid hid=>a7 id ?_);exact(ok.ve j v O).1 c a2 id (by simpa using hid) p (List.mem_of_getElem? hp)
   ·cases a2:x.2 with
    | none=>rfl
    | some c =>
     refine congrArg some (OS λid hid=>a7 id ?_);obtain⟨q,hq,rfl⟩:=List.getElem_of_mem hx;have hid:=((ok.ve j v O).2 q _ (List.getElem?_eq_getElem hq)).2 c a2 id (by simpa using hid)
     cases hn:p.new.contains id with
     | false=>rfl
     | true =>
      rcases ST hid hp hn with h | h
      ·exact absurd h.symm (a1 _ hx)
      ·cases hB:an[(v.vers[q]).1]? with
       | none=>rw[hB] at h; simp at h
       | some B =>
        rw[hB] at h
        have:=hc _ B hB ai i h
        rw[hi] at this; cases this
end
theorem Yv {listed:Array Bool} {i:Nat} (h:i<listed.size):∀ j,(listed.setIfInBounds i true).getD j false=(listed.getD j false || Nat.beq j i):=λj=>by
 by_cases e:i=j
 ·subst e; simp[h]
 ·rw[getD_set_ne false e]
  have:Nat.beq j i=false:=by
   cases O:Nat.beq j i with
   | false=>rfl
   | true=>exact absurd (Nat.eq_of_beq_eq_true O).symm e
  rw[this,Bool.or_false]
set_option maxHeartbeats 1000000 in
theorem gOrd {id:Nat} {os:List Oper} (B:BS) (V:List VE) (D:List PO) (hm:P.follows .mixedOrders=true) (hc:Lz os B V D (ancs os) (l0.map Prod.fst) n=true)
  (h0:∀ k,lr (Rof V (λ_=>false) (λ_=>undef)++res) k=lr res k) (h:FN P ⟨n,K,H,w0,dsd⟩ l0 B V D os D)
  (k:∀ nv,GE (Sta ⟨n,K,H,w0,dsd⟩ (finS D nv++l0) (finR V nv++res)) .normal Q m) (hd:EV os=true:=by rfl):G ro P (Sta ⟨n,K,H,w0,dsd⟩ ((B.map λx=>(x.1,x.2.1))++l0) res) (.region id os.toArray true) Q m:=λa w ha r hr=>by
 obtain⟨Γ,hΓ⟩:∃ Γ:Ctx,Γ=⟨n,K,H,w0,dsd⟩:=⟨_,rfl⟩
 rw[<- hΓ] at h k ha;have hn:Γ.n=n:=by rw[hΓ]
 have ok:=Ys hc;generalize ancs os=an at hc ok;have c1:=ok.len;have b9:os.toArray.size=D.length:=by simp[c1]
 let Inv:Array Bool->Act->World->Prop:=λlisted a w=>listed.size=D.length/\H3 an (λj=>listed.getD j false)/\∃ nv,Sta Γ l0 (Rof V (λj=>listed.getD j false) nv++res) a w /\
  (∀ (j:Nat) (p:PO) (x:Nat × SV Ent),D[j]? = some p->p.dst=some x->listed.getD j false=true->(∃ u,a.tmps[x.1]? = some u/\(sv x.2 nv).holds (Shr Γ.H (Rof V (λj=>listed.getD j false) nv++res) w) w u)) /\
  ∀ x∈B,listed.getD x.2.2 false=false->∃ u,a.tmps[x.1]? = some u/\x.2.1.holds (Shr Γ.H (Rof V (λj=>listed.getD j false) nv++res) w) w u
 have tf:∀ {listed:Array Bool} {j:Nat},j<listed.size->listed.getD j true=listed.getD j false:=λ{listed j} U=>by
  simp only[Array.getD_eq_getD_getElem?]; rw[Array.getElem?_eq_getElem U]; rfl
 have b1:∀ listed:Array Bool,listed.size=D.length->Region.ready .any os.toArray listed=[]->∀ j,j<D.length->listed.getD j false=true:=by
  intro listed ao aa j
  induction j using Nat.strongRecOn with
  | _ j ih =>
   intro U;refine Classical.byContradiction λac=>?_;have ac:listed.getD j true=false:=by rw[tf (by omega)]; simpa using ac
   obtain⟨o,ho⟩:∃ o,os[j]? = some o:=⟨_,List.getElem?_eq_getElem (by omega)⟩
   obtain⟨p,hp⟩:∃ o,D[j]? = some o:=⟨_,List.getElem?_eq_getElem U⟩
   obtain⟨A,-,-,-,-,h5,-⟩:=ok.op j o p ho hp
   have:j∈Region.ready .any os.toArray listed:=mem_ready.2 ⟨ac,o, by simpa using ho, λe he hb=>by
    have ai:=h5 e he hb
    have:=ih e.on ai (by omega)
    simp only[Array.getD_eq_getD_getElem?] at this ⊢;rw[Array.getElem?_eq_getElem (by omega)] at this ⊢
    exact this⟩
   rw[aa] at this; cases this
 have ap:∀ listed a w,Inv listed a w->Region.ready .any os.toArray listed=[]->Q r .normal a w:=by
  rintro listed a w ⟨h1,a8,nv,h2,h3,-⟩ aa
  have hl:=b1 listed h1 aa;have hR:Rof V (λj=>listed.getD j false) nv=finR V nv:=by
   unfold Rof finR;refine List.map_congr_left λv hv=>?_;obtain⟨kp,hk,rfl⟩:=List.getElem_of_mem hv;have ba:V[kp]? = some V[kp]:=List.getElem?_eq_getElem hk
   have:Do (λj=>listed.getD j false) (V[kp]).base (V[kp]).vers=ver (V[kp]).base (V[kp]).vers (V[kp]).vers.length:=by
    refine OT (Nat.le_refl _) (λj x _ O=>?_) (λx O=>?_)
    ·obtain⟨⟨p,hp,_⟩,-⟩:=(ok.ve kp _ ba).2 j x O;exact hl _ (List.getElem?_eq_some_iff.1 hp).1
    ·simp at O
   rw[this]
  rw[hR] at h2 h3;refine k nv a w ⟨h2.size,h2.defers, λt e ht=>?_,h2.conts,h2.excl,h2.own,h2.keep,h2.old,h2.hid⟩ r hr;rcases SO ht with ht | ht
  ·obtain⟨p,hp,he⟩:=List.mem_filterMap.1 (Fw ht);obtain⟨x,O,he⟩:=Option.map_eq_some_iff.1 he
   cases he
   obtain⟨i,hi,rfl⟩:=List.getElem_of_mem hp;exact h3 i _ x (List.getElem?_eq_getElem hi) O (hl i hi)
  ·exact h2.slots t e ht
 have b2:∀ (fuel:Nat) (listed:Array Bool) (a:Act) (w:World),Inv listed a w->((List.range D.length).filter λj=>!listed.getD j true).length<=fuel->wpAny P .any os.toArray (Q r) fuel listed a w:=by
  intro fuel
  induction fuel with
  | zero =>
   intro listed a w hI bb;have aa:Region.ready .any os.toArray listed=[]:=by
    refine List.eq_nil_iff_forall_not_mem.2 λj U=>?_;obtain⟨h1,o,ho,_⟩:=mem_ready.1 U;have bc:j<D.length:=by have:=(Array.getElem?_eq_some_iff.1 ho).1; omega
    have b3:j∈(List.range D.length).filter λj=>!listed.getD j true:=by simp only[List.mem_filter,List.mem_range,h1]; exact⟨bc,rfl⟩
    have:=List.length_pos_of_mem b3
    omega
   exact⟨aa,ap _ _ _ hI aa⟩
  | succ fuel ih =>
   intro listed a w hI bb;refine⟨ap _ _ _ hI, λi hi=>?_⟩;obtain⟨h1,o,ho,aw⟩:=mem_ready.1 hi;have aq:i<D.length:=by have:=(Array.getElem?_eq_some_iff.1 ho).1; omega
   have aj:os[i]? = some o:=by simpa using ho
   obtain⟨p,hp⟩:∃ o,D[i]? = some o:=⟨_,List.getElem?_eq_getElem aq⟩
   obtain⟨A,hA,f2,f1,f3,f4,f5,f6⟩:=ok.op i o p aj hp;obtain⟨ao,a8,nv,hS,hD,hBs⟩:=hI;have hLi:(λj=>listed.getD j false) i=false:=by show listed.getD i false=false; rw[<- tf (by omega)]; exact h1
   have ad:∀ j∈dirs o,listed.getD j false=true:=λj U=>by
    obtain⟨e,he,hb⟩:=List.mem_filterMap.1 U;have he:=Array.mem_toList_iff.1 he
    cases ak:Region.binds .any e with
    | false=>rw[ak] at hb; cases hb
    | true =>
     rw[ak] at hb; simp only[cond_true,Option.some.injEq] at hb;subst hb;have hl:=aw e he ak;have ai:e.on<listed.size:=by have:=f4 e he ak; omega
     rw[<- tf ai];simp only[Array.getD_eq_getD_getElem?] at hl ⊢;rw[Array.getElem?_eq_getElem ai] at hl ⊢;exact hl
   have ae:∀ y∈A,(λj=>listed.getD j false) y=true:=λy hy=>by
    rcases f5 y hy with h | ⟨j,U,B,hB,hyB⟩
    ·exact ad y h
    ·exact a8 j B hB (ad j U) y hyB
   have b4:=h.get aj hp;have a7:=Yt ok a8 aj hp hA ae hLi nv res;have hS':Sta Γ l0 (H2 V p.ks nv++(Rof V (λj=>listed.getD j false) nv++res)) a w:=hS.lrq a7;have b5:Sta Γ (Ly B D o p.bs nv++l0) (H2 V p.ks nv++(Rof V (λj=>listed.getD j false) nv++res)) a w:=by
    refine⟨hS'.size,hS'.defers, λt e ht=>?_,hS'.conts,hS'.excl,hS'.own,hS'.keep,hS'.old,hS'.hid⟩;rcases SO ht with ht | ht
    ·rcases List.mem_append.1 (Fw ht) with hm | hm
     ·obtain⟨b,hb,he⟩:=List.mem_filterMap.1 hm;obtain⟨x,O,he⟩:=Option.map_eq_some_iff.1 he
      cases he
      obtain⟨x',A',ay,hA',hiA'⟩:=ok.bbs i p hp b hb;rw[O] at ay; cases ay
      obtain⟨u,g1,g2⟩:=hBs x (List.mem_of_getElem? O) (by
       refine Classical.byContradiction λac=>?_
       have:=a8 _ A' hA' (by simpa using ac) i hiA'
       rw[hLi] at this; cases this)
      exact⟨u,g1,Ent.mono _ (Shr.lrq a7) g2⟩
     obtain⟨j,U,he⟩:=List.mem_filterMap.1 hm;obtain⟨x,O,he⟩:=Option.map_eq_some_iff.1 he
     cases he
     obtain⟨pj,bd,O⟩:=Option.bind_eq_some_iff.1 O;obtain⟨u,g1,g2⟩:=hD j pj x bd O (ad j U);exact⟨u,g1,Ent.mono _ (Shr.lrq a7) g2⟩
    ·exact hS'.slots t e ht
   unfold wpOp;rw[ho];have hw:Region.wanted o (yielded os.toArray a.tmps)=true:=by unfold Region.wanted; rw[f2]
   simp only[hw,if_true];refine .inl (SM (b4 nv _ a w b5) ?_)
   rintro a' w' ⟨nv',u,az,rfl,⟨hS2,be⟩,b6⟩
   rw[f1];have hLL:=Yv (listed:=listed) (i:=i) (by omega);have af:=Yu (L:=λj=>listed.getD j false) (L':=λj=>(listed.setIfInBounds i true).getD j false) ok a8 aj hp hA ae hLi hLL az res;have hS3:=hS2.lrq af;have hst3:Br (Shr Γ.H (Rof V (λj=>listed.getD j false) nv++res) w) (Shr Γ.H (Rof V (λj=>(listed.setIfInBounds i true).getD j false) nv'++res) w') w w':=((Shr.lrq a7).tr be).tr (Shr.lrq af)
   have b7:H3 an (λj=>(listed.setIfInBounds i true).getD j false):=λj B hB U y hy=>by
    have U:(listed.setIfInBounds i true).getD j false=true:=U;show (listed.setIfInBounds i true).getD y false=true;rw[hLL,Bool.or_eq_true] at U;rw[hLL];rcases U with h | h
    ·rw[show listed.getD y false=true from a8 j B hB h y hy]; rfl
    ·have:=Nat.eq_of_beq_eq_true h; subst this;rw[hA] at hB; cases hB
     have:=ae y hy
     rw[show listed.getD y false=true from this]; rfl
   have am:∀ (j:Nat) (pj:PO) (x:Nat × SV Ent),D[j]? = some pj->pj.dst=some x->listed.getD j false=true->sv x.2 nv=sv x.2 nv':=λj pj x U O a1=>by
    refine OS λid hid=>(az id ?_).symm
    cases bf:p.new.contains id with
    | false=>rfl
    | true =>
     obtain⟨oj,bg⟩:∃ o,os[j]? = some o:=⟨_,List.getElem?_eq_getElem (by rw[c1]; exact(List.getElem?_eq_some_iff.1 U).1)⟩
     obtain⟨B,hB,-,-,g3,-⟩:=ok.op j oj pj bg U;rcases ST ((g3 x O).2 id (by simpa using hid)) hp bf with e | e
     ·subst e; rw[show listed.getD i false=false from hLi] at a1; cases a1
     ·have:=a8 j B hB a1 i e; rw[hLi] at this; cases this
   have key:Sta Γ l0 (Rof V (λj=>(listed.setIfInBounds i true).getD j false) nv'++res) (a.put (p.dst.map (·.1)) u) w'/\(∀ (j:Nat) (pj:PO) (x:Nat × SV Ent),D[j]? = some pj->pj.dst=some x->(listed.setIfInBounds i true).getD j false=true ->
     ∃ v,(a.put (p.dst.map (·.1)) u).tmps[x.1]? = some v/\(sv x.2 nv').holds (Shr Γ.H (Rof V (λj=>(listed.setIfInBounds i true).getD j false) nv'++res) w') w' v) /\
     ∀ x∈B,(listed.setIfInBounds i true).getD x.2.2 false=false->∃ v,(a.put (p.dst.map (·.1)) u).tmps[x.1]? = some v/\x.2.1.holds (Shr Γ.H (Rof V (λj=>(listed.setIfInBounds i true).getD j false) nv'++res) w') w' v:=by
    have hBo:∀ x∈B,(listed.setIfInBounds i true).getD x.2.2 false=false->listed.getD x.2.2 false=false/\x.2.2≠i:=λx _ O=>by
     rw[hLL,Bool.or_eq_false_iff] at O;exact⟨O.1, λe=>by rw[e] at O; simp at O⟩
    cases ab:p.dst with
    | none =>
     refine⟨hS3, λj pj x U O a1=>?_, λx O ar=>by obtain⟨v,g1,g2⟩:=hBs x O (hBo x O ar).1; exact⟨v,g1,Ent.mono _ hst3 g2⟩⟩;rw[hLL,Bool.or_eq_true] at a1;rcases a1 with a1 | a1
     ·obtain⟨v,g1,g2⟩:=hD j pj x U O a1;rw[am j pj x U O a1] at g2;exact⟨v,g1,Ent.mono _ hst3 g2⟩
     ·have:=Nat.eq_of_beq_eq_true a1; subst this;rw[hp] at U; cases U; rw[ab] at O; cases O
    | some y =>
     have bh:y.1<Γ.n:=by rw[hn]; exact(f3 y ab).1
     have b8:(a.put (some y.1) u).tmps[y.1]? = some u:=by simp[Act.put,hS.size,bh]
     have ah:∀ t,t≠y.1->(a.put (some y.1) u).tmps[t]? = a.tmps[t]? := λt ht=>by simp[Act.put,Array.getElem?_setIfInBounds_ne (Ne.symm ht)]
     have au:∀ (j:Nat) (pj:PO) (x:Nat × SV Ent),D[j]? = some pj->pj.dst=some x->j≠i->x.1≠y.1:=λj pj x U O bi e=>by
      have a2:=ok.nd;have aux:∀ {D:List PO} {i j:Nat} {p q:PO} {x y:Nat × SV Ent} {m:List Nat},Dw (D.filterMap (λp=>p.dst.map (·.1))++m)=true->D[i]? = some p->D[j]? = some q->p.dst=some x->q.dst=some y->x.1=y.1->i=j:=by
       intro D
       induction D with
       | nil=>intro i j p q x y m _ h; simp at h
       | cons d D ih =>
        intro i j p q x y m a2 h1 h2 h3 h4 e;have tail:Dw (D.filterMap (λp=>p.dst.map (·.1))++m)=true:=by
         rw[List.filterMap_cons] at a2
         cases hd:d.dst with
         | none=>simpa [hd] using a2
         | some z=>rw[hd] at a2; simp only[Option.map_some,List.cons_append,Dw,Bool.and_eq_true] at a2; exact a2.2
        have head:∀ {q:PO} {y z:Nat × SV Ent} {j:Nat},d.dst=some z->D[j]? = some q->q.dst=some y->z.1=y.1->False:=λ{q y z j} hz U hy e=>by
         rw[List.filterMap_cons,hz] at a2;simp only[Option.map_some,List.cons_append,Dw,Bool.and_eq_true,Bool.not_eq_true',List.contains_eq_mem,decide_eq_false_iff_not] at a2;exact a2.1 (List.mem_append_left _ (List.mem_filterMap.2 ⟨q,List.mem_of_getElem? U, by rw[hy]; exact congrArg some e.symm⟩))
        cases i with
        | zero =>
         cases j with
         | zero=>rfl
         | succ j=>simp only[List.getElem?_cons_zero,Option.some.injEq,List.getElem?_cons_succ] at h1 h2; subst h1; exact(head h3 h2 h4 e).elim
        | succ i =>
         cases j with
         | zero=>simp only[List.getElem?_cons_zero,Option.some.injEq,List.getElem?_cons_succ] at h1 h2; subst h2; exact(head h4 h1 h3 e.symm).elim
         | succ j=>simp only[List.getElem?_cons_succ] at h1 h2; rw[ih tail h1 h2 h3 h4 e]
      exact bi (aux a2 U hp O ab e)
     have ax:∀ t e,lk l0 t=some e->t≠y.1:=λt e ht bj=>by
      have aux:∀ {l m:List Nat} {x:Nat},Dw (l++m)=true->x∈l->x∈m->False:=by
       intro l m x a2 h1 h2
       induction l with
       | nil=>cases h1
       | cons z l ih =>
        simp only[List.cons_append,Dw,Bool.and_eq_true,Bool.not_eq_true',List.contains_eq_mem,decide_eq_false_iff_not] at a2;rcases List.mem_cons.1 h1 with rfl | h1
        ·exact a2.1 (List.mem_append_right _ h2)
        ·exact ih a2.2 h1
      exact aux ok.nd (List.mem_filterMap.2 ⟨p,List.mem_of_getElem? hp, by rw[ab]; rfl⟩) (List.mem_map.2 ⟨(t,e),Fw ht,bj⟩)
     refine⟨⟨by simp[Act.put,hS3.size], by simp[Act.put,hS3.defers], λt e ht=>?_,hS3.conts,hS3.excl,hS3.own,hS3.keep,hS3.old,hS3.hid⟩, λj pj x U O a1=>?_, λx O ar=>?_⟩
     ·obtain⟨v,g1,g2⟩:=hS3.slots t e ht;exact⟨v, by rw[Option.map_some,ah t (ax t e ht)]; exact g1,g2⟩
     ·rw[Option.map_some];by_cases av:j=i
      ·subst av;rw[hp] at U; cases U; rw[ab] at O; cases O
       exact⟨u,b8,Ent.mono _ (Shr.lrq af) (b6 y.2 (by rw[ab]; rfl))⟩
      ·rw[hLL,Bool.or_eq_true] at a1;have a1:listed.getD j false=true:=by
        rcases a1 with a1 | a1
        ·exact a1
        ·exact absurd (Nat.eq_of_beq_eq_true a1) av
       obtain⟨v,g1,g2⟩:=hD j pj x U O a1;rw[am j pj x U O a1] at g2;exact⟨v, by rw[ah x.1 (au j pj x U O av)]; exact g1,Ent.mono _ hst3 g2⟩
     ·obtain⟨bk,bl⟩:=hBo x O ar;obtain⟨v,g1,g2⟩:=hBs x O bk;obtain⟨pj,z,U,hz,e⟩:=ok.bop x O;exact⟨v, by rw[Option.map_some,ah x.1 (by rw[<- e]; exact au _ pj z U hz bl)]; exact g1,Ent.mono _ hst3 g2⟩
   refine ih _ _ _ ⟨by simp[ao],b7,nv',key.1,key.2.1,key.2.2⟩ ?_
   have:=SP (p:=λj=>!listed.getD j true) (q:=λj=>!(listed.setIfInBounds i true).getD j true) (l:=List.range D.length) (List.mem_range.2 aq) (by simp only[h1]; rfl) (by simp[ao,aq]) (λy hy=>by
    by_cases b0:i=y
    ·subst b0; simp only[h1]; rfl
    ·simp only[getD_set_ne true b0] at hy; exact hy)
   omega
 have hE:Ext w { w with drawn:=w.drawn+1 }:=Ext.rfl'.dr;have hf:(λj=>(Array.replicate os.toArray.size false).getD j false)=λ_=>false:=by
  funext j
  simp only[Array.getD_eq_getD_getElem?,Array.getElem?_replicate]
  split <;> rfl
 have a6:=ha.ext hE;have bm:Sta Γ l0 res a { w with drawn:=w.drawn+1 }:=by
  refine⟨a6.size,a6.defers, λt e ht=>a6.slots t e ?_,a6.conts,a6.excl,a6.own,a6.keep,a6.old,a6.hid⟩;rw[EE]
  cases hB:lk (B.map λx=>(x.1,x.2.1)) t with
  | none=>rw[ht]; rfl
  | some y =>
   obtain⟨x,O,he⟩:=List.mem_map.1 (Fw hB)
   cases he
   obtain⟨pj,z,U,hz,e⟩:=ok.bop x O;have aux:∀ {l m:List Nat} {x:Nat},Dw (l++m)=true->x∈l->x∈m->False:=by
    intro l m x a2 h1 h2
    induction l with
    | nil=>cases h1
    | cons z l ih =>
     simp only[List.cons_append,Dw,Bool.and_eq_true,Bool.not_eq_true',List.contains_eq_mem,decide_eq_false_iff_not] at a2;rcases List.mem_cons.1 h1 with rfl | h1
     ·exact a2.1 (List.mem_append_right _ h2)
     ·exact ih a2.2 h1
   exact(aux ok.nd (List.mem_filterMap.2 ⟨pj,List.mem_of_getElem? U, by rw[hz]; exact congrArg some e⟩) (List.mem_map.2 ⟨(x.1,_),Fw ht,rfl⟩)).elim
 refine Ox hm (by simpa using hd) (b2 _ _ _ _ ⟨by simp[b9], λj A _ U=>?_, λ_=>undef,?_, λj p x _ _ hl=>?_, λx O _=>?_⟩ ?_)
 ·rw[show (λj=>(Array.replicate os.toArray.size false).getD j false) j=false from congrFun hf j] at U; cases U
 ·rw[hf]; exact bm.lrq h0
 ·rw[show (Array.replicate os.toArray.size false).getD j false=false from congrFun hf j] at hl; cases hl
 ·rw[hf];have bn:lk (B.map λx=>(x.1,x.2.1)) x.1=some x.2.1:=by
   obtain⟨b,hb,rfl⟩:=List.getElem_of_mem O;exact OU (f:=λx:Nat × Ent × Nat=>(x.1,x.2.1)) ok.bnd (List.getElem?_eq_getElem hb) rfl
  obtain⟨u,g1,g2⟩:=a6.slots x.1 x.2.1 (by rw[EE,bn]; rfl);exact⟨u,g1,Ent.mono _ (Shr.lrq h0) g2⟩
 ·have:=List.length_filter_le (λj=>!(Array.replicate os.toArray.size false).getD j true) (List.range D.length)
  simp only[List.length_range] at this;omega
end
end
section
abbrev pd (t:Nat) (e:Ent):PO:=⟨some (t,[], λ_=>e),[],[],[]⟩
abbrev pk (t:Nat) (e:Ent) (ks:List (Nat × Nat × Bool)):PO:=⟨some (t,[], λ_=>e),ks,[],[]⟩
def EqvR (X Y:Res):Prop:=∀ E j,lr (X++E) j=lr (Y++E) j
inductive PwL (X Y:Res):List Nat->Prop
 | nil:PwL X Y []
 | cons {k:Nat} {ks:List Nat}:lk X k=lk Y k->PwL X Y ks->PwL X Y (k::ks)
theorem PwL.get {X Y:Res}:∀ {ks:List Nat} {k:Nat},PwL X Y ks->k∈ks->lk X k=lk Y k
 | _,k,.cons h t,O=>by
  rcases List.mem_cons.1 O with rfl | O
  ·exact h
  ·exact t.get O
theorem LB {α:Type}:∀ {l:List (Nat × α)} {k:Nat},k∉l.map (·.1)->lk l k=none
 | [],_,_=>rfl
 | (k',v)::l,k,h=>by
  simp only[List.map_cons,List.mem_cons,not_or] at h;rw[Cn,if_neg λe=>h.1 e.symm,LB h.2]
theorem eqvR {X Y:Res} (U:(Y.map (·.1)).all (λk=>(X.map (·.1)).contains k)=true) (h2:PwL X Y (X.map (·.1))):EqvR X Y:=λE j=>by
 unfold lr;rw[EE,EE];by_cases O:j∈X.map (·.1)
 ·rw[h2.get O]
 ·have hy:j∉Y.map (·.1):=λh=>O (by simpa using List.all_eq_true.1 U j h);rw[LB O,LB hy]
theorem EqvR.refl {X:Res}:EqvR X X:=λ_ _=>rfl
theorem Br.rq {H:Blk} {X O U:Res} {w w':World} (e:∀ k,lr U k=lr O k) (h:Br (Shr H X w) (Shr H O w') w w'):Br (Shr H X w) (Shr H U w') w w':=h.tr (Shr.lrq e)
theorem LD {X Y E:Res} {r:Nat} {x:Option (Value × AO)} (h:EqvR ((r,x)::X) Y):∀ k,lr (Y++E) k=lr ((r,x)::(X++E)) k:=λk=>(h E k).symm
def upd1 (O:NV) (k:Nat) (u:Value):NV:=λj=>bif Nat.beq j k then u else O j
def updL (O:NV):List Nat->(Nat->Value)->NV
 | [],_=>O
 | k::ks,pv=>λj=>bif Nat.beq j k then pv 0 else updL O ks (λi=>pv (i+1)) j
theorem Yw {ks:List Nat}:∀ {O:NV} {pv:Nat->Value} {j:Nat},ks.contains j=false->updL O ks pv j=O j:=by
 induction ks with
 | nil=>intros; rfl
 | cons k ks ih =>
  intro O pv j h;simp only[List.contains_cons,Bool.or_eq_false_iff] at h;have U:Nat.beq j k=false:=by
   cases U:Nat.beq j k with
   | false=>rfl
   | true=>have:=Nat.eq_of_beq_eq_true U; subst this; simp at h
  show (bif Nat.beq j k then pv 0 else updL O ks (λi=>pv (i+1)) j)=O j;rw[U]; exact ih h.2
theorem OV {e:Ent} {H:Blk} {O U:Res} {w:World} {u:Value} (h:e.holds (Shr H O w) w u) (q:∀ k,lr U k=lr O k):e.holds (Shr H U w) w u:=e.mono (Shr.lrq q) h
section
variable {P:Program} {Γ:Ctx} {l0:AR} {o:Oper} {S:NV->AR} {N A:NV->Res} {e:SV Ent}
theorem Sta.base0 {Γ:Ctx} {S l0:AR} {res:Res} {a:Act} {w:World} (h:Sta Γ (S++l0) res a w) (O:∀ t e,lk l0 t=some e->lk (S++l0) t=some e):Sta Γ l0 res a w :=
 ⟨h.size,h.defers, λt e U=>h.slots t e (O t e U),h.conts,h.excl,h.own,h.keep,h.old,h.hid⟩
def FO (S l0:AR):Prop:=∀ t,(lk l0 t).isSome=true->lk S t=none
theorem HL {S l0:AR} (h:(S.map (·.1)).all (λt=>!(l0.map (·.1)).contains t)=true):FO S l0:=λt O=>by
 refine LB λhm=>?_
 have:=List.all_eq_true.1 h t hm
 cases U:lk l0 t with
 | none=>rw[U] at O; cases O
 | some e =>
  have a1:t∈l0.map (·.1):=List.mem_map.2 ⟨(t,e),Fw U,rfl⟩;simp only[Bool.not_eq_true',List.contains_eq_mem,decide_eq_false_iff_not] at this;exact this a1
theorem FO.keep {S l0:AR} (h:FO S l0):∀ t e,lk l0 t=some e->lk (S++l0) t=some e:=λt e O=>by
 rw[EE,h t (by rw[O]; rfl),O]; rfl
theorem oRn {e0:NV->Ent} (h:∀ O E,Run Ext P Γ (S O++l0) (N O++E) o (e0 O)) (he:∀ O,e0 O=sv e O:=by exact λ_=>rfl) (hP:∀ O,FO (S O) l0:=by exact λ_=>HL rfl) (hA:∀ O,EqvR (N O) (A O):=by exact λ_=>EqvR.refl):Obl P Γ l0 o [] S N A (some e):=λO E a w ha=>by
 obtain⟨v,h1,h2⟩:=h O E a w ha;unfold Oper.wp;rw[h1 w Ext.rfl'];have U:∀ k,lr (A O++E) k=lr (N O++E) k:=λk=>(hA O E k).symm;exact⟨O,v, λ_ _=>rfl,rfl,⟨(ha.base0 (hP O).keep).lrq U,Shr.lrq U⟩, λx hx=>by cases hx; rw[<- he]; exact OV h2 U⟩
theorem oEf {x:NV->Value->Value × AO} (r k:Nat) (h:∀ O E,Eff P Γ (S O++l0) (N O++E) o r (x O)) (hE:∀ O u,sv e (upd1 O k u)=.val u:=by exact λ_ _=>rfl)
  (hR:∀ O u,EqvR ((r,some (x O u))::N O) (A (upd1 O k u)):=by exact λ_ _=>eqvR rfl (by repeat (first | exact .nil | refine .cons rfl ?_)))
  (hP:∀ O,FO (S O) l0:=by exact λ_=>HL rfl):Obl P Γ l0 o [k] S N A (some e):=λO E a w ha=>by
 obtain⟨w',u,h1,⟨h2,h3⟩,h4,-⟩:=h O E a w ha;unfold Oper.wp;rw[h1];have U:=LD (E:=E) (hR O u);refine⟨upd1 O k u,u, λj hj=>?_,rfl,⟨(h2.base0 (hP O).keep).lrq U,h3.rq U⟩, λx hx=>by cases hx; rw[hE]; exact⟨rfl,h4⟩⟩;unfold upd1
 cases hb:Nat.beq j k with
 | false=>rfl
 | true=>have:=Nat.eq_of_beq_eq_true hb; subst this; simp at hj
theorem oEb {T:NV->TypeId} {es:NV->List Ent} (r k:Nat) (h:∀ O E,Eff P Γ (S O++l0) (N O++E) o r (λv=>(v,.box (T O) (es O)))) (hE:∀ O u,sv e (upd1 O k u)=.val (A7 u 0):=by exact λ_ _=>rfl)
  (hR:∀ O u,EqvR ((r,some (u,.box (T O) (es O)))::N O) (A (upd1 O k u)):=by exact λ_ _=>eqvR rfl (by repeat (first | exact .nil | refine .cons rfl ?_)))
  (hP:∀ O,FO (S O) l0:=by exact λ_=>HL rfl):Obl P Γ l0 o [k] S N A (some e):=λO E a w ha=>by
 obtain⟨w',u,h1,⟨h2,h3⟩,h4,-⟩:=h O E a w ha;unfold Oper.wp;rw[h1];have U:=Lm (h2.conts r _ _ (C0.trans (if_pos rfl)));have hq:=LD (E:=E) (hR O u);refine⟨upd1 O k u,u, λj hj=>?_,rfl,⟨(h2.base0 (hP O).keep).lrq hq,h3.rq hq⟩, λx hx=>by cases hx; rw[hE]; exact⟨by rw[U], by rw[U]; exact h4⟩⟩;unfold upd1
 cases U:Nat.beq j k with
 | false=>rfl
 | true=>have:=Nat.eq_of_beq_eq_true U; subst this; simp at hj
theorem oEs {x:NV->Value × AO} (r:Nat) (h:∀ O E,EffS P Γ (S O++l0) (N O++E) o r (x O)) (hd:o.dst=none:=by rfl)
  (hR:∀ O,EqvR ((r,some (x O))::N O) (A O):=by exact λ_=>eqvR rfl (by repeat (first | exact .nil | refine .cons rfl ?_)))
  (hP:∀ O,FO (S O) l0:=by exact λ_=>HL rfl):Obl P Γ l0 o [] S N A none:=λO E a w ha=>by
 obtain⟨w',h1,⟨h2,h3⟩,-⟩:=h O E a w ha;unfold Oper.wp;rw[h1];have U:=LD (E:=E) (hR O);exact⟨O,undef, λ_ _=>rfl, by rw[hd],⟨(h2.base0 (hP O).keep).lrq U,h3.rq U⟩, λx hx=>by cases hx⟩
theorem oFz {α:Type} {R:Rep α} {T:TypeId} {b:List α} {new:List Nat} {A1:NV->Res} (r k:Nat) (h:Obl P Γ l0 o new S N A1 (some ([k], λnv=>.val (nv k)))) (h1:∀ nv E,lr (A1 nv++E) r=some (nv k,.list R T b):=by exact λ_ _=>rfl)
  (h2:∀ nv,EqvR ((r,none)::A1 nv) (A nv):=by exact λ_=>eqvR rfl (by repeat (first | exact .nil | refine .cons rfl ?_))):Obl P Γ l0 o new S N A (some ([], λ_=>.rd (A8 R) b)):=λnv E a w ha=>by
 refine SM (h nv E a w ha) ?_
 rintro a' w' ⟨nv',u,hn,rfl,⟨hS,a7⟩,hx⟩
 have hu:(Ent.val (nv' k)).holds (Shr Γ.H (A1 nv'++E) w') w' u:=by
  have:=hx _ rfl
  simpa [sv] using this
 have hq:∀ j,lr (A nv'++E) j=lr ((r,none)::(A1 nv'++E)) j:=LD (h2 nv');have U:∀ j v c,lr (A nv'++E) j=some (v,c)->j≠r/\lr (A1 nv'++E) j=some (v,c):=λj v c O=>by
  rw[hq,C0] at O
  split at O
  ·cases O
  ·rename_i a2; exact⟨λe=>a2 e.symm,O⟩
 have hr:=h1 nv' E;have a1:Br (Shr Γ.H (A1 nv'++E) w') (Shr Γ.H (A nv'++E) w') w' w':=λbb hb=>⟨⟨hb.1, λj v c O=>hb.2.1 j v c (U j v c O).2,hb.2.2⟩,rfl⟩;refine⟨nv',u,hn,rfl,⟨⟨hS.size,hS.defers, λt x ht=>?_, λj v c O=>(hS.conts j v c (U j v c O).2).mono a1 (λ_ _=>rfl), λj v c j' v' c' O a8=>hS.excl j v c j' v' c' (U j v c O).2 (U j' v' c' a8).2, λj v c O=>hS.own j v c (U j v c O).2,hS.keep,hS.old,hS.hid⟩,a7.tr a1⟩, λx hx=>?_⟩
 ·obtain⟨v,g1,g2⟩:=hS.slots t x ht; exact⟨v,g1,x.mono a1 g2⟩
 ·cases hx
  show (Ent.rd (A8 R) b).holds _ _ u;rw[hu.1];refine Yr (hS.conts r _ _ hr) a1 λbb a6=>⟨(hS.conts r _ _ hr).lt a6, λj v c O=>?_, λhh=>hS.own r _ _ hr bb a6 (hS.hid bb hh)⟩;obtain⟨a2,O⟩:=U j v c O;exact hS.excl r _ _ j v c hr O (λe=>a2 e.symm) bb a6
theorem oCl {σ:Type} {d:Tmp} {f:FuncId} {F:Func} {b:Code} {args:List Operand} {ats:Array TypeId} {ty:TypeId} {pos:String} {after:Array Edge} {pin:NV->List Ent} {rin:NV->Res} {m1:Option σ} {s:σ} {q:NV->σ->(Nat->Value)->Di} (ids:List Nat) (ns:List Nat) (mp:List (Nat × Nat)) (hm:m1=some s)
  (hF:P.funcs[f]? = some F) (hB:F.body=some b) (hS:∀ nv,Ah P f (pin nv) (rin nv) m1 (q nv)) (hA:∀ nv,Cs (S nv++l0) args (pin nv)) (hr:∀ nv E,BZ (N nv++E) (rin nv) ns)
  (hE:∀ nv pv,sv e (updL nv ids pv)=CM (q nv s pv).ret:=by exact λ_ _=>rfl)
  (hR:∀ nv pv,EqvR (aft ns mp (q nv s pv).res (N nv)) (A (updL nv ids pv)):=by exact λ_ _=>eqvR rfl (by repeat (first | exact .nil | refine .cons rfl ?_)))
  (hnm:(F.name == "runtime.NumGoroutine")=false:=by rfl) (hP:∀ nv,FO (S nv) l0:=by exact λ_=>HL rfl) :
  Obl P Γ l0 ⟨some d,.call ⟨.value (.func f),args.toArray,ats⟩,ty,pos,after,none⟩ ids S N A (some e):=λnv E a w ha=>by
 have hrun:(execOp a.eval ⟨some d,.call ⟨.value (.func f),args.toArray,ats⟩,ty,pos,after,none⟩).run P w=.ok (.enter f (args.map a.eval).toArray) w:=by
  have e0:a.eval (.func f)=.func (.func f) #[] #[]:=rfl;simp[execOp,resolve,e0,Deferred.ofValue,invoke,FE hF hB hnm]
 unfold Oper.wp; rw[hrun];simp only[Oper.upon];have hH:∀ b,(λb=>Γ.H b\/∃ r v c,lr (N nv++E) r=some (v,c)/\ns.contains r=false/\AS v=some b) b↔Γ.H b\/∃ r v c,lr (N nv++E) r=some (v,c)/\ns.contains r=false/\AS v=some b:=λ_=>Iff.rfl;obtain⟨h1,h2⟩:=F7.of ha (hr nv E) hH;refine(hS nv s hm _ _ w (Cs.get ha h2 (hA nv)) h1).mono λe' w' hR'=>?_;obtain⟨pv,vs,rfl,hp⟩:=hR';obtain⟨⟨h3,h4⟩,h5,-⟩:=ha.called (mp:=mp) (hr nv E) hH hp
 have hq:∀ j,lr (A (updL nv ids pv)++E) j=lr (aft ns mp (q nv s pv).res (N nv++E)) j:=λj=>by
  rw[<- hR nv pv E j];unfold aft;rw[List.append_assoc]
 exact⟨updL nv ids pv,_, λj hj=>Yw hj,rfl,⟨(h3.base0 (hP nv).keep).lrq hq,h4.rq hq⟩, λx hx=>by cases hx; rw[hE]; exact OV h5 hq⟩
theorem oN {B:BS} {V:List VE} {D:List PO} {os:List Oper}:FN P Γ l0 B V D os []:=by cases os <;> trivial
theorem oC {B:BS} {V:List VE} {D:List PO} {os:List Oper} {p:PO} {ps:List PO} (h:Obl P Γ l0 o p.new (Ly B D o p.bs) (H2 V p.ks) (aftR V p.ks) (p.dst.map (·.2))) (t:FN P Γ l0 B V D os ps):FN P Γ l0 B V D (o::os) (p::ps):=⟨h,t⟩
theorem base0 {res:Res}:∀ {X:Res},(∀ k y,lk X k=some y->lr res k=y)->∀ k,lr (X++res) k=lr res k:=λ{X} h k=>by
 unfold lr;rw[EE]
 cases O:lk X k with
 | none=>rfl
 | some y=>have:=h k y O; rw[<- this]; rfl
inductive BasL (res:Res):Res->Prop
 | nil:BasL res []
 | cons {k:Nat} {y:Option (Value × AO)} {X:Res}:lr res k=y->BasL res X->BasL res ((k,y)::X)
theorem BasL.get {res:Res}:∀ {X:Res},BasL res X->∀ k y,lk X k=some y->lr res k=y
 | _,.nil,_,_,h=>by cases h
 | _,.cons h t,k,y,O=>by
  rw[Cn] at O
  split at O
  ·rename_i e; subst e; cases O; exact h
  ·exact t.get k y O
end
section
variable {ρ:Type} {ro:Option Nat} {P:Program} {n:Nat} {K H:Blk} {w0:World} {dsd:List Deferred} {l0:AR} {res:Res} {Q:ρ->Exit->Act->World->Prop} {m:Option ρ}
theorem gOr {id:Nat} {os:List Oper} (B:BS) (V:List VE) (D:List PO) (U:P.follows .mixedOrders=true) (h:FN P ⟨n,K,H,w0,dsd⟩ l0 B V D os D)
  (k:∀ O,GE (Sta ⟨n,K,H,w0,dsd⟩ (finS D O++l0) (finR V O++res)) .normal Q m) (hc:Lz os B V D (ancs os) (l0.map Prod.fst) n=true:=by kernel_rfl) (hd:EV os=true:=by rfl)
  (h0:BasL res (Rof V (λ_=>false) (λ_=>undef)):=by repeat (first | exact .nil | refine .cons rfl ?_)):G ro P (Sta ⟨n,K,H,w0,dsd⟩ ((B.map λx=>(x.1,x.2.1))++l0) res) (.region id os.toArray true) Q m :=
 gOrd B V D U hc (base0 h0.get) h k hd
end
end
section
variable {ro:Option Nat}
section
variable {C:World->World->Prop} {P:Program} {Γ:Ctx} {l:AR} {res:Res} {d:Tmp} {ty:TypeId} {pos:String} {after:Array Edge} {g:Option (Nat × Bool)}
end
section
variable {ρ:Type} {P:Program} {Γ:Ctx} {l0 l:AR} {res0 res:Res} {ws:List Nat} {N:ρ->Exit->Act->World->Prop} {fuel:Nat} {listed listed':Array Bool} {m:Option ρ} {os:List Oper} {op:Op} {ty:TypeId} {pos:String} {after:Array Edge} {g:Option (Nat × Bool)}
theorem hDoV {r:Nat} {x:Value × AO} {v0:Value} {c0:AO} (i:Nat) (hi:os.toArray[i]? = some ⟨none,op,ty,pos,after,g⟩) (hr:Region.ready .any os.toArray listed=[i]) (hg:Grd os l ⟨none,op,ty,pos,after,g⟩ true) (hl:listed.setIfInBounds i true=listed') (hw:ws.contains r=true) (hv:lr res r=some (v0,c0)) (hx:x.1=v0)
  (he:∀ a w,Sta Γ l res a w->∃ w' u,(execOp a.eval ⟨none,op,ty,pos,after,g⟩).run P w=.ok (.value u) w'/\(Sta Γ l ((r,some x)::res) a w'/\Br (Shr Γ.H res w) (Shr Γ.H ((r,some x)::res) w') w w')/\Grew res r w w')
  (k:GH P os Γ l0 res0 ws l ((r,some x)::res) N fuel listed' m):GH P os Γ l0 res0 ws l res N (fuel+1) listed m:=λa w0 w O ρ' hm=>by
 obtain⟨w',u,h1,h2,h4⟩:=he a w O.s;refine wpAnyH_all hr (by simp) (λj U=>?_);simp only[List.mem_singleton] at U;subst U;have a1:=hg.wanted O.s;unfold wpOp;simp only[hi,a1,if_true];refine .inl ?_;unfold Oper.wp; rw[h1];have hS:=O.grew hw h2 h4 (λb hb=>.inl ⟨v0,c0,hv, by rw[<- hx]; exact hb⟩);refine⟨hS.cw,?_⟩;rw[hl];exact k a w0 w' hS ρ' hm
end
section
variable {ρ:Type} {P:Program} {Γ:Ctx} {l:AR} {res:Res} {m:Option ρ} {Q:ρ->Exit->Act->World->Prop} {e:Exit}
end
section
variable {ρ:Type} {P:Program} {Γ:Ctx} {l0 l:AR} {res0 res:Res} {ws:List Nat} {N:ρ->Exit->Act->World->Prop} {fuel:Nat} {listed listed':Array Bool} {m:Option ρ} {os:List Oper} {op:Op} {d:Tmp} {ty:TypeId} {pos:String} {after:Array Edge} {g:Option (Nat × Bool)}
end
section
variable {ρ:Type} {P:Program} {Γ:Ctx} {l:AR} {res:Res} {m:Option ρ} {os rest:List Oper} {N:ρ->Exit->Act->World->Prop} {d:Tmp} {ty:TypeId} {pos:String} {after:Array Edge} {g:Option (Nat × Bool)}
end
end
section
theorem Z {α:Sort _} {a:α}:a=a:=rfl
abbrev aZ:=Az 32 u8R
theorem Zb {ρ:Type} {P:Program} {Γ:Ctx} {l:AR} {res:Res} {m:Option ρ} {os:List Oper} {ro:Option Nat} {Q:ρ->Exit->Act->World->Prop} {y:Code} {d:Nat} {ty:TypeId} {pos:String} {after:Array Edge} {e:Ent} {x:Operand} (O:opE l x=some e) (h:G ro P (Sta Γ ((d,e)::l) res) y Q m) (U:Nat.blt d Γ.n=true:=by rfl):GL P os (Sta Γ l res) [⟨some d,.assign x,ty,pos,after,none⟩] (Fk ro P y Q) m:=Za O (Zn h) U
theorem Zj {ρ:Type} {P:Program} {Γ:Ctx} {l:AR} {res:Res} {m1 m2:Option ρ} {os:List Oper} {ro:Option Nat} {Q:ρ->Exit->Act->World->Prop} {t:Nat} {x y:Code} {b:Bool} (O:lk l t=some (.rd Ac b)) (U:b=true->G ro P (Sta Γ ((t,.rd Ac true)::l) res) x Q m1) (hf:b=false->G ro P (Sta Γ ((t,.rd Ac false)::l) res) y Q m2):GL P os (Sta Γ l res) [] (Fk ro P (.cond (.tmp t) x y) Q) (if b then m1 else m2):=Zn (gIf rfl O U hf)
theorem fH {α:Type} {R:Rep α} {T:TypeId} {x:α} {es:List Ent}:Foc (.box T (.rd R x::es)) 0 R x (λy=>.box T (.rd R y::es)):=Foc.here
theorem fP {α β:Type} {R:Rep α} {U:TypeId} {x:α} {es:List Ent} {T:Rep β} {y:β} {off:Nat} {set:β->α} (p:AK R x off T y set):Foc (.box U (.rd R x::es)) (0+off) T y (λy=>.box U (.rd R (set y)::es)):=Foc.here.part p
end
section
def Gt (a0:List UInt8) (O:List UInt8):Option (Int) :=
 some (Lib.compareBytes a0 O)>>=λU =>
 some U
theorem LE (a0:List UInt8) (O:List UInt8):Ah Tryz.prog 82 [.rd (A8 u8R) a0,.rd (A8 u8R) O] [] (Gt a0 O) (λr nv=>⟨[.rd A3 r],[]⟩):=by
 refine Am 8 func82 Z Z Z λH w=>?_;refine A2<|Zb Z<|A2<|Zm Z<|Zm Z<|Zq (cmpB Z Z func131 Z Z (by kernel_rfl) (by kernel_rfl))<|Za Z<|AI 4 Z λy1=>Zn<|A5<|Ze [] [] Z
def Fy (a0:V3) (O:V3):Option (Int) :=
 Gt a0.toList O.toList>>=λU =>
 some U
theorem HM (a0:V3) (O:V3):Ah Tryz.prog 94 [.rd aZ a0,.rd aZ O] [] (Fy a0 O) (λr nv=>⟨[.rd A3 r],[]⟩):=by
 refine Am 8 func94 Z Z Z λH w=>?_;refine A2<|Eb Z (bx 1 Z) λv1=>Eb Z (bx 2 Z) λv2=>Zb Z<|A6<|DO 1 2 Z Z<|DO 2 3 Z Z<|Bq [] mixed Z Z<|A4 0 Z Z (CO Z tu71 ti5 Z Z Z)<|A4 1 Z Z (CO Z tu71 ti5 Z Z Z)<|Be 2 [] [] Z (by kernel_rfl) Z (gd0 Z) Z func82 Z Z (LE _ _) (Y2 Z Z) rN Z (λ_ _=>Cb) λr3 n4=>A4 3 Z Z (asg Z)<|AV (by kernel_rfl)<|Af<|A5<|Ze [] [] Z
def HN (a0:List V3):Option ((List V3)) :=
 app 32 ([]:List V3) a0>>=λO =>
 some O
theorem SW (a0:List V3):Ah Tryz.prog 100 [.rd (A8 aZ) a0] [] (HN a0) (λr O=>⟨[.val (O 0)],[(100,some (O 0,.list aZ 71 r))]⟩):=by
 refine Am 8 func100 Z Z Z λH w=>?_;refine A2<|Zb Z<|A6<|A2<|Zm Z<|Sm Z Z .rd Z tu28 (λU=>?_) ?_
 ·subst U;refine Zn<|CL Z<|A2<|Zb Z<|A5<|An<|Cl aZ 71 1<|Ze [(.slice none 0 0)] [1] Z
 ·refine Zn<|DX Z<|Zt<|A2<|Ef Z (lit (R:=aZ) (([]:List V3):List V3) 2 (pN) Z tu28 Ak Z Z) λv2=>Zm Z<|Al λx3 h4=>Ef Z (apn 2 Z Z Z .rd h4 tu28 Ak Z Z Z) λv5=>Zb Z<|A5<|Ze [v5] [2] Z
def H4 (a0:UInt64) (U:List UInt32) (O:UInt64 × Int):Option (Sum UInt64 (UInt64 × Int)) :=
 if decide (O.2<(U.length:Int)) then
  idx U O.2>>=λx4 =>
  chk (a0≠0)>>=λu6 =>
  some ((O.1 * x4.toUInt64) % a0)>>=λy8 =>
  some (.inr (y8,w64 (O.2+1)))
 else
  some (.inl O.1)
def HO (a0:UInt64) (O:List UInt32):Option (UInt32) :=
 (iter (H4 a0 O) (1,0))>>=λU =>
 some U.toUInt32
theorem OW (a0:UInt64) (a1:List UInt32):Ah Tryz.prog 182 [.rd Ar a0,.rd (A8 A9) a1] [] (HO a0 a1) (λr nv=>⟨[.rd A9 r],[]⟩):=by
 refine Am 23 func182 Z Z Z λH w=>?_;refine A2<|Zb Z<|A2<|Zb Z<|AY (λ(s1:UInt64) O ww=>Sta (ctx 23 H [] w) [(5,.rd Ar s1)] [] O ww) ?_ (λs1=>?_)
 ·refine A2<|Zm Z<|Zq (Aq Z .rd Z tu269)<|Zm Z<|Zn<|AJ (λ(s2:UInt64 × Int) O ww=>Sta (ctx 23 H [] w) [(0,.rd Ar a0),(5,.rd Ar s2.1),(8,.rd (A8 A9) a1),(9,.rd A3 (a1.length:Int)),(10,.rd A3 s2.2)] [] O ww) (λO ww h=>Zu h []) (λs2=>?_);refine A2<|Zq (I.lss Z Z)<|Zn<|A6<|gIf Z Z (λh3=>?_) (λh3=>?_)
  ·refine Zt<|A6<|AB<|A2<|Al λx4 h5=>Zq (ixR Z Z h5 tu269 B4 Z)<|Zq (ldR Z Bm)<|Zb Z<|Ai<|Zm Z<|Zm Z<|Zq (W.toU Z tu51 tu52)<|Zq (U.mul Z Z)<|Zm Z<|Al λu6 h7=>Zq (U.rem Z Z (DP h7))<|Za Z<|AI 5 Z λy8=>Ae<|Ap<|Af<|Ai<|Zq (I.add Z Z)<|Zm Z<|Ae<|Au (λO ww h=>Zu h [])
  ·refine AC<|AD<|AG<|Av (λO ww h=>Zu h [])
 ·refine A2<|Zm Z<|Zq (U.toW Z tu52 tu51)<|Zb Z<|A5<|Ze [] [] Z
def OX (c0_0:UInt32):Option (UInt32) :=
 HO 1000000007 [c0_0,c0_0]>>=λO =>
 some O
theorem Yx (p0_0:Value) (c0_0:UInt32):Ah Tryz.prog 216 [.val (A7 p0_0 0)] [(1,some (p0_0,.box 51 [.rd A9 c0_0]))] (OX c0_0) (λr nv=>⟨[],[(1,some (p0_0,.box 51 [.rd A9 r]))]⟩):=by
 refine Am 5 func216 Z Z Z λH w=>?_;refine Ai<|Zq (ld 1 Z Z fH Bm Z)<|Zq (ld 1 Z Z fH Bm Z)<|Ef Z (lit (R:=A9) ([c0_0,c0_0]:List UInt32) 2 (pP Z Z<|pP Z Z<|pN) Z tu269 B4 Z Z) λv1=>BW 2 [3] Z (fS Z<|fN)<|Zc [] [] func182 Z (OW _ _) λr2 n3=>Es (sto 1 Z Z fH Z B4)<|Ae<|Ze [] [1] Z
def IZ (a0:UInt32) (a1:UInt64) (O:UInt32 × Int):Option (Sum UInt32 (UInt32 × Int)) :=
 if decide (O.2<64) then
  OX O.1>>=λU =>
  chk (0<=w64 (63 - O.2))>>=λu7 =>
  if ((Ce a1 ((w64 (63 - O.2):Int).toNat)) &&& 1)==1 then
   HO 1000000007 [U,a0]>>=λa2 =>
   some (.inr (a2,w64 (O.2+1)))
  else
   some (.inr (U,w64 (O.2+1)))
 else
  some (.inl O.1)
def HP (a0:UInt32) (O:UInt64):Option (UInt32) :=
 (iter (IZ a0 O) (1,0))>>=λU =>
 some U
theorem OY (a0:UInt32) (a1:UInt64):Ah Tryz.prog 179 [.rd A9 a0,.rd Ar a1] [] (HP a0 a1) (λr nv=>⟨[.rd A9 r],[]⟩):=by
 refine Am 26 func179 Z Z Z λH w=>?_;refine A2<|Zb Z<|A2<|Eb Z (AN 1 B4 (.zr (R:=A9) (x:=0) (Zr.num Z))) λv1=>Es (sto 1 Z Z fH Z B4)<|Zn<|A2<|Zq (mkf mp0 (mp1 Z))<|Zb Z<|AY (λ(s2:UInt32) O ww=>Sta (ctx 26 H [] w) [(5,.val (A7 v1 0))] [(1,some (v1,.box 51 [.rd A9 s2]))] O ww) ?_ (λs2=>?_)
 ·refine A2<|Zm Z<|Zn<|AJ (λ(s3:UInt32 × Int) O ww=>Sta (ctx 26 H [] w) [(0,.rd A9 a0),(1,.rd Ar a1),(5,.val (A7 v1 0)),(6,.val (.func (.func 216) #[] #[A7 v1 0])),(9,.rd A3 s3.2)] [(1,some (v1,.box 51 [.rd A9 s3.1]))] O ww) (λO ww h=>Zu h [1]) (λs3=>?_);refine A2<|Zq (I.lss Z Z)<|Zn<|A6<|gIf Z Z (λh4=>?_) (λh4=>?_)
  ·refine Zt<|A6<|AB<|A2<|Zm Z<|Zb Z<|A2<|Zm Z<|EO [1] [(1,1)] (gd0 Z) Z Z func216 Z Z (Yx _ _) (aN) (cQ 1 Z<|cN) (Y0 Z) λr5 n6=>Zn<|A2<|Zm Z<|Zm Z<|Zq (I.sub Z Z)<|Al λu7 h8=>Zq (U.shr Z Z (DP h8))<|Zq (U.and Z Z)<|Zq (U.eql Z Z)<|Zj Z (λh9=>?_) (λh9=>?_)
   ·refine Ai<|Zq (ld 1 Z Z fH Bm Z)<|Zm Z<|Ef Z (lit (R:=A9) ([r5,a0]:List UInt32) 2 (pP Z Z<|pP Z Z<|pN) Z tu269 B4 Z Z) λa2=>BW 2 [22] Z (fS Z<|fN)<|Zc [] [] func182 Z (OW _ _) λa6 a7=>Es (sto 1 Z Z fH Z B4)<|Ae<|Ap<|Af<|Ai<|Zq (I.add Z Z)<|Zm Z<|Ae<|Au (λO ww h=>Zu h [1])
   ·refine AW<|Ap<|Af<|Ai<|Zq (I.add Z Z)<|Zm Z<|Ae<|Au (λO ww h=>Zu h [1])
  ·refine AC<|AD<|AG<|Av (λO ww h=>Zu h [1])
 ·refine A2<|Zq (ld 1 Z Z fH Bm Z)<|Zb Z<|A5<|Ze [] [] Z
def HQ (a0:UInt32):Option (Bool) :=
 if decide (0<a0) then
  if decide (a0<1000000007) then
   HP a0 500000003>>=λO =>
   some (O==1)
  else
   some false
 else
  some false
theorem OZ (a0:UInt32):Ah Tryz.prog 139 [.rd A9 a0] [] (HQ a0) (λr nv=>⟨[.rd Ac r],[]⟩):=by
 refine Am 14 func139 Z Z Z λH w=>?_;refine A2<|Zb Z<|A2<|Zm Z<|Zq (W.gtr Z Z)<|Zm Z<|Bf 5 Z (λU=>?_) (λU=>?_)
 ·refine Aj 4 Z U<|Aa Zx Z Z (mv Z)<|Aa Zx Z Z (W.lss Z Z)<|Zq (pkT Z Z)<|Zm Z<|Bf 9 Z (λO=>?_) (λO=>?_)
  ·refine Aj 7 Z O<|Aj 8 Z O<|Aa Zx Z Z (mv Z)<|CN [] [] Zx Z func179 Z Z (OY _ _) (Y2 Z Z) rN λr3 n4=>Aa Zx Z Z (W.eql Z Z)<|Zq (pkT Z Z)<|Zb Z<|A5<|Ze [] [] Z
  ·refine Aj 7 Z O<|Aj 8 Z O<|Zk Z<|Zk Z<|Zk Z<|Zq (pkF Z Z)<|Zb Z<|A5<|Ze [] [] Z
 ·refine Aj 4 Z U<|Zk Z<|Zk Z<|Zq (pkF Z Z)<|Zm Z<|Zk Z<|Zk Z<|Zk Z<|Zq (pkF Z Z)<|Zb Z<|A5<|Ze [] [] Z
def LF (a0:Int):Option (Bool) :=
 if decide (a0<33) then
  some true
 else
  some (decide (126<a0))>>=λO =>
  some O
theorem Yy (a0:Int):Ah Tryz.prog 174 [.rd i32R a0] [] (LF a0) (λr nv=>⟨[.rd Ac r],[]⟩):=by
 refine Am 9 func174 Z Z Z λH w=>?_;refine A2<|Zb Z<|A2<|Zm Z<|Zq (J.lss Z Z)<|Zm Z<|Bf 5 Z (λO=>?_) (λO=>?_)
 ·refine Aj 4 Z O<|Zk Z<|Zk Z<|Zq (pkT Z Z)<|Zb Z<|A5<|Ze [] [] Z
 ·refine Aj 4 Z O<|Aa Zx Z Z (mv Z)<|Aa Zx Z Z (J.gtr Z Z)<|Zq (pkF Z Z)<|Za Z<|AI 2 Z λy2=>Zn<|A5<|Ze [] [] Z
def HR (a0:List UInt8) (U:Bool) (O:Nat):Option (Sum (Sum Int Unit) Nat) :=
 if O<(a0).length then
  some ((Dl a0 O).1:Int)>>=λy5 =>
  LF y5>>=λr6 =>
  if r6==U then
   some (.inl (.inl (O:Int)))
  else
   some (.inr (O+(Dl a0 O).2))
 else
  some (.inl (.inr ()))
def P0 (a0:List UInt8) (O:Bool):Option (Int) :=
 Bc (iter (HR a0 O) 0) λs1 =>
 some (-1)
theorem Yz (a0:List UInt8) (a2:Bool):Ah Tryz.prog 177 [.rd BI a0,.val (.func (.func 174) #[] #[]),.rd Ac a2] [] (P0 a0 a2) (λr nv=>⟨[.rd A3 r],[]⟩):=by
 refine Am 21 func177 Z Z Z λH w=>?_;refine A2<|Zb Z<|BM (λ(s1:Unit) O U=>Sta (ctx 21 H [] w) [] [] O U) ?_ (λs1=>?_)
 ·refine A2<|Zm Z<|Ef Z (rng 1 Z tu9) λv2=>Zn<|AJ (λ(s3:Nat) O U=>Sta (ctx 21 H [] w) [(1,.val (.func (.func 174) #[] #[])),(2,.rd Ac a2),(10,.val v2)] [(1,some (v2,.iter a0 s3))] O U) (λO U h=>Zu h [1]) (λs3=>?_);refine A2<|Sr 1 Z Z Z (λh4=>?_) (λh4=>?_)
  ·refine Zq (ext Z Z)<|Zn<|A6<|CL Z<|Zt<|AB<|A2<|Zq (ext Z Z)<|Zq (ext Z Z)<|Za Z<|Za Z<|AI 8 Z λy5=>Zn<|A2<|Zm Z<|Zm Z<|EO [] [] (gd0 Z) Z Z func174 Z Z (Yy _) (Y1 Z) (cN) rN λr6 n7=>Zm Z<|Zq (eqB underlying4 Z Z)<|Zj Z (λh8=>?_) (λh8=>?_)
   ·refine A2<|Zm Z<|Zb Z<|A5<|Bh<|BE<|Bk<|Ze [] [] Z
   ·refine AW<|Ap<|Au (λO U h=>Zu h [1])
  ·refine Zq (ext Z Z)<|Zn<|A6<|DX Z<|AC<|AD<|AG<|BA (λO U h=>Zu h [])
 ·refine A2<|Zb Z<|A5<|Ze [] [] Z
def P1 (a0:List UInt8):Option (Int) :=
 P0 a0 true>>=λO =>
 some O
theorem YA (a0:List UInt8):Ah Tryz.prog 133 [.rd BI a0,.val (.func (.func 174) #[] #[])] [] (P1 a0) (λr nv=>⟨[.rd A3 r],[]⟩):=by
 refine Am 8 func133 Z Z Z λH w=>?_;refine A2<|Zb Z<|A2<|Zm Z<|Zm Z<|Zc [] [] func177 Z (Yz _ _) λr1 n2=>Zb Z<|A5<|Ze [] [] Z
def J0 (a0:List UInt8):Option (Bool) :=
 if decide (1<=(a0.length:Int)) then
  if decide ((a0.length:Int)<=20) then
   P1 a0>>=λO =>
   some (decide (O<0))>>=λU =>
   some U
  else
   some false
 else
  some false
theorem SX (a0:List UInt8):Ah Tryz.prog 128 [.rd BI a0] [] (J0 a0) (λr nv=>⟨[.rd Ac r],[]⟩):=by
 refine Am 16 func128 Z Z Z λH w=>?_;refine A2<|Zb Z<|A2<|Zm Z<|Zq (lenT Z Z tu9)<|Zq (I.geq Z Z)<|Zm Z<|Bf 6 Z (λU=>?_) (λU=>?_)
 ·refine Aj 5 Z U<|Aa Zx Z Z (mv Z)<|Aa Zx Z Z (lenT Z Z tu9)<|Aa Zx Z Z (I.leq Z Z)<|Zq (pkT Z Z)<|Zm Z<|Bf 11 Z (λO=>?_) (λO=>?_)
  ·refine Aj 9 Z O<|Aj 10 Z O<|Aa Zx Z Z (mv Z)<|CN [] [] Zx Z func133 Z Z (YA _) (Y2 Z Z) rN λr3 n4=>Aa Zx Z Z (I.lss Z Z)<|Zq (pkT Z Z)<|Za Z<|AI 2 Z λy5=>Zn<|A5<|Ze [] [] Z
  ·refine Aj 9 Z O<|Aj 10 Z O<|Zk Z<|Zk Z<|Zk Z<|Zq (pkF Z Z)<|Zb Z<|A5<|Ze [] [] Z
 ·refine Aj 5 Z U<|Zk Z<|Zk Z<|Zk Z<|Zq (pkF Z Z)<|Zm Z<|Zk Z<|Zk Z<|Zk Z<|Zq (pkF Z Z)<|Zb Z<|A5<|Ze [] [] Z
def P2 (a0:Int):Option (Ay) :=
 some (⟨1,a0,0,[]⟩:Ay)
theorem YB (a0:Int):Ah Tryz.prog 83 [.rd A3 a0] [] (P2 a0) (λr nv=>⟨[.rd CP r],[]⟩):=by
 refine Am 5 func83 Z Z Z λH w=>?_;refine A2<|Eb Z (AN 1 Cp (.zr (R:=CP) (x:=(⟨0,0,0,[]⟩:Ay)) EP)) λv1=>Zn<|A2<|Zm Z<|Zq (bld (x':=(⟨1,a0,0,[]⟩:Ay)) [(0,1),(1,1),(2,1),(3,1)] underlying54 Cp Z EP Z (Bld.cons (Fp _) Z Z<|Bld.cons (HI _) Z Z<|Bld.done Z))<|Es (sto 1 Z Z fH Z Cp)<|Zn<|A5<|BF [] [] Z (eC 1 Z Z Dv<|eN) (rN)
def LG (a0:UInt64):Option (Int × UInt64) :=
 some (andI (w64 ((Ce a0 52).toNat:Int)) 2047)>>=λO =>
 some (a0 &&& 4503599627370495)>>=λU =>
 some (O,U)
theorem YC (a0:UInt64):Ah Tryz.prog 213 [.rd Ar a0] [] (LG a0) (λr nv=>⟨[.rd A3 r.1,.rd Ar r.2],[]⟩):=by
 refine Am 10 func213 Z Z Z λH w=>?_;refine A2<|Za Z<|Zb Z<|A2<|Zm Z<|Zq (U.shr Z Z (Int.natCast_nonneg _))<|Zq (U.toI Z tu52 tu3)<|Zq (I.and Z Z)<|Zm Z<|Zq (U.and Z Z)<|Za Z<|AI 2 Z λy1=>Za Z<|AI 3 Z λy2=>Zn<|A5<|Ze [] [] Z
def LH (a0:UInt64):Option (UInt8) :=
 LG a0>>=λO =>
 (if O.1==2047 then
  some (O.2 != 0)
 else
  some false)>>=λU =>
 if U then
  some 5
 else
  if O.1==2047 then
   some 4
  else
   if O.1 != 0 then
    some 3
   else
    if O.2 != 0 then
     some 2
    else
     some 1
theorem YD (a0:UInt64):Ah Tryz.prog 176 [.rd Ar a0] [] (LH a0) (λr nv=>⟨[.rd u8R r],[]⟩):=by
 refine Am 26 func176 Z Z Z λH w=>?_;refine A2<|Zb Z<|A2<|Zm Z<|Zc [] [] func213 Z (YC _) λr1 n2=>Zm Z<|Zq (ext Z Z)<|Zq (ext Z Z)<|Za Z<|Zb Z<|A6<|AB<|AY (λ(s3:Bool) O ww=>Sta (ctx 26 H [] w) [(3,.rd A3 r1.1),(4,.rd Ar r1.2),(10,.rd Ac s3)] [] O ww) ?_ (λs3=>?_)
 ·refine Ai<|Zm Z<|Zq (I.eql Z Z)<|Zm Z<|Bf 13 Z (λh4=>?_) (λh4=>?_)
  ·refine Aj 12 Z h4<|Aa Zx Z Z (mv Z)<|Aa Zx Z Z (U.neq Z Z)<|Zq (pkT Z Z)<|Za Z<|Ae<|Av (λO ww h=>Zu h [])
  ·refine Aj 12 Z h4<|Zk Z<|Zk Z<|Zq (pkF Z Z)<|Za Z<|Ae<|Av (λO ww h=>Zu h [])
 ·refine gIf Z Z (λh5=>?_) (λh5=>?_)
  ·refine A2<|Zb Z<|A5<|Bh<|An<|Ze [] [] Z
  ·refine A2<|Zm Z<|Zq (I.eql Z Z)<|Zb Z<|gIf Z Z (λh6=>?_) (λh6=>?_)
   ·refine gKn 19 Z h6<|A2<|Zb Z<|A5<|Bh<|An<|Ze [] [] Z
   ·refine gKn 19 Z h6<|A2<|Zm Z<|Zq (I.neq Z Z)<|Zb Z<|gIf Z Z (λh7=>?_) (λh7=>?_)
    ·refine gKn 22 Z h7<|A2<|Zb Z<|A5<|Bh<|An<|Ze [] [] Z
    ·refine gKn 22 Z h7<|A2<|Zm Z<|Zq (U.neq Z Z)<|Zb Z<|gIf Z Z (λh8=>?_) (λh8=>?_)
     ·refine gKn 25 Z h8<|A2<|Zb Z<|A5<|Bh<|An<|Ze [] [] Z
     ·refine gKn 25 Z h8<|AW<|Ap<|Af<|A2<|Zb Z<|A5<|Ze [] [] Z
def LI (a0:UInt64):Option (UInt64) :=
 LH a0>>=λO =>
 if O==5 then
  some 9221120237041090560
 else
  some a0
theorem YE (a0:UInt64):Ah Tryz.prog 132 [.rd Ar a0] [] (LI a0) (λr nv=>⟨[.rd Ar r],[]⟩):=by
 refine Am 7 func132 Z Z Z λH w=>?_;refine A2<|Zb Z<|A6<|A2<|Zm Z<|Zc [] [] func176 Z (YD _) λr1 n2=>Zq (B.eql Z Z)<|Zj Z (λO=>?_) (λO=>?_)
 ·refine A2<|Zb Z<|A5<|An<|Ze [] [] Z
 ·refine Zt<|A2<|Zm Z<|Zb Z<|A5<|Ze [] [] Z
def LJ (a0:UInt64):Option (Ay) :=
 LI a0>>=λO =>
 some (⟨2,0,O,[]⟩:Ay)
theorem YF (a0:UInt64):Ah Tryz.prog 84 [.rd Ar a0] [] (LJ a0) (λr nv=>⟨[.rd CP r],[]⟩):=by
 refine Am 6 func84 Z Z Z λH w=>?_;refine A2<|Eb Z (AN 1 Cp (.zr (R:=CP) (x:=(⟨0,0,0,[]⟩:Ay)) EP)) λv1=>Zn<|A2<|Zm Z<|Zc [] [] func132 Z (YE _) λO n3=>Zq (bld (x':=(⟨2,0,O,[]⟩:Ay)) [(0,1),(1,1),(2,1),(3,1)] underlying54 Cp Z EP Z (Bld.cons (Fp _) Z Z<|Bld.cons (Gj _) Z Z<|Bld.done Z))<|Es (sto 1 Z Z fH Z Cp)<|Zn<|A5<|BF [] [] Z (eC 1 Z Z Dv<|eN) (rN)
def LK (a0:Int):Option (Bool) :=
 if decide (a0<32) then
  some true
 else
  some (decide (126<a0))>>=λO =>
  some O
theorem YG (a0:Int):Ah Tryz.prog 134 [.rd i32R a0] [] (LK a0) (λr nv=>⟨[.rd Ac r],[]⟩):=by
 refine Am 9 func134 Z Z Z λH w=>?_;refine A2<|Zb Z<|A2<|Zm Z<|Zq (J.lss Z Z)<|Zm Z<|Bf 5 Z (λO=>?_) (λO=>?_)
 ·refine Aj 4 Z O<|Zk Z<|Zk Z<|Zq (pkT Z Z)<|Zb Z<|A5<|Ze [] [] Z
 ·refine Aj 4 Z O<|Aa Zx Z Z (mv Z)<|Aa Zx Z Z (J.gtr Z Z)<|Zq (pkF Z Z)<|Za Z<|AI 2 Z λy2=>Zn<|A5<|Ze [] [] Z
def HS (a0:List UInt8) (U:Bool) (O:Nat):Option (Sum (Sum Int Unit) Nat) :=
 if O<(a0).length then
  some ((Dl a0 O).1:Int)>>=λy5 =>
  LK y5>>=λr6 =>
  if r6==U then
   some (.inl (.inl (O:Int)))
  else
   some (.inr (O+(Dl a0 O).2))
 else
  some (.inl (.inr ()))
def P3 (a0:List UInt8) (O:Bool):Option (Int) :=
 Bc (iter (HS a0 O) 0) λs1 =>
 some (-1)
theorem YH (a0:List UInt8) (a2:Bool):Ah Tryz.prog 177 [.rd BI a0,.val (.func (.func 134) #[] #[]),.rd Ac a2] [] (P3 a0 a2) (λr nv=>⟨[.rd A3 r],[]⟩):=by
 refine Am 21 func177 Z Z Z λH w=>?_;refine A2<|Zb Z<|BM (λ(s1:Unit) O U=>Sta (ctx 21 H [] w) [] [] O U) ?_ (λs1=>?_)
 ·refine A2<|Zm Z<|Ef Z (rng 1 Z tu9) λv2=>Zn<|AJ (λ(s3:Nat) O U=>Sta (ctx 21 H [] w) [(1,.val (.func (.func 134) #[] #[])),(2,.rd Ac a2),(10,.val v2)] [(1,some (v2,.iter a0 s3))] O U) (λO U h=>Zu h [1]) (λs3=>?_);refine A2<|Sr 1 Z Z Z (λh4=>?_) (λh4=>?_)
  ·refine Zq (ext Z Z)<|Zn<|A6<|CL Z<|Zt<|AB<|A2<|Zq (ext Z Z)<|Zq (ext Z Z)<|Za Z<|Za Z<|AI 8 Z λy5=>Zn<|A2<|Zm Z<|Zm Z<|EO [] [] (gd0 Z) Z Z func134 Z Z (YG _) (Y1 Z) (cN) rN λr6 n7=>Zm Z<|Zq (eqB underlying4 Z Z)<|Zj Z (λh8=>?_) (λh8=>?_)
   ·refine A2<|Zm Z<|Zb Z<|A5<|Bh<|BE<|Bk<|Ze [] [] Z
   ·refine AW<|Ap<|Au (λO U h=>Zu h [1])
  ·refine Zq (ext Z Z)<|Zn<|A6<|DX Z<|AC<|AD<|AG<|BA (λO U h=>Zu h [])
 ·refine A2<|Zb Z<|A5<|Ze [] [] Z
def P4 (a0:List UInt8):Option (Int) :=
 P3 a0 true>>=λO =>
 some O
theorem YI (a0:List UInt8):Ah Tryz.prog 133 [.rd BI a0,.val (.func (.func 134) #[] #[])] [] (P4 a0) (λr nv=>⟨[.rd A3 r],[]⟩):=by
 refine Am 8 func133 Z Z Z λH w=>?_;refine A2<|Zb Z<|A2<|Zm Z<|Zm Z<|Zc [] [] func177 Z (YH _ _) λr1 n2=>Zb Z<|A5<|Ze [] [] Z
def LL (a0:List UInt8):Option (Ay × Int) :=
 if decide (30<(a0.length:Int)) then
  some ((⟨0,0,0,[]⟩:Ay),4)
 else
  P4 a0>>=λO =>
  if decide (0<=O) then
   some ((⟨0,0,0,[]⟩:Ay),8)
  else
   some ((⟨3,0,0,a0⟩:Ay),0)
theorem YJ (a0:List UInt8):Ah Tryz.prog 85 [.rd BI a0] [] (LL a0) (λr nv=>⟨[.rd CP r.1,.rd A3 r.2],[]⟩):=by
 refine Am 14 func85 Z Z Z λH w=>?_;refine A2<|Eb Z (AN 1 Cp (.zr (R:=CP) (x:=(⟨0,0,0,[]⟩:Ay)) EP)) λv1=>Zb Z<|A6<|A2<|Zm Z<|Zq (lenT Z Z tu9)<|Zq (I.gtr Z Z)<|Zj Z (λO=>?_) (λO=>?_)
 ·refine A2<|Zq (bld (x':=(⟨0,0,0,[]⟩:Ay)) [(0,1),(1,1),(2,1),(3,1)] underlying54 Cp Z EP Z (Bld.done Z))<|Es (sto 1 Z Z fH Z Cp)<|Zb Z<|A5<|An<|BF [] [] Z (eC 1 Z Z Dv<|eE Z<|eN) (rN)
 ·refine Zt<|A6<|A2<|Zm Z<|Zc [] [] func133 Z (YI _) λr3 n4=>Zq (I.geq Z Z)<|Zj Z (λU=>?_) (λU=>?_)
  ·refine A2<|Zq (bld (x':=(⟨0,0,0,[]⟩:Ay)) [(0,1),(1,1),(2,1),(3,1)] underlying54 Cp Z EP Z (Bld.done Z))<|Es (sto 1 Z Z fH Z Cp)<|Zb Z<|A5<|An<|BF [] [] Z (eC 1 Z Z Dv<|eE Z<|eN) (rN)
  ·refine Zt<|A2<|Zm Z<|Zq (bld (x':=(⟨3,0,0,a0⟩:Ay)) [(0,1),(1,1),(2,1),(3,1)] underlying54 Cp Z EP Z (Bld.cons (Fp _) Z Z<|Bld.cons (Fq _) Z Z<|Bld.done Z))<|Es (sto 1 Z Z fH Z Cp)<|Zb Z<|A5<|BF [] [] Z (eC 1 Z Z Dv<|eE Z<|eN) (rN)
def HT (a0:Ay):Option (Int) :=
 (if a0.Kind==1 then
  P2 a0.Num>>=λU =>
  some U
 else
  if a0.Kind==2 then
   LJ a0.Bits>>=λr8 =>
   some r8
  else
   if a0.Kind==3 then
    LL a0.Text>>=λO =>
    some O.1
   else
    some (⟨0,0,0,[]⟩:Ay))>>=λs3 =>
 if !decide (a0=s3) then
  some 8
 else
  if a0.Kind==0 then
   some 8
  else
   some 0
theorem P5 (a0:Ay):Ah Tryz.prog 43 [.rd CP a0] [] (HT a0) (λr nv=>⟨[.rd A3 r],[]⟩):=by
 refine Am 32 func43 Z Z Z λH w=>?_;refine A2<|Eb Z (bx 1 Z) λv1=>Zb Z<|A2<|Eb Z (AN 2 Cp (.zr (R:=CP) (x:=(⟨0,0,0,[]⟩:Ay)) EP)) λv2=>Zn<|AY (λ(s3:Ay) O U=>Sta (ctx 32 H [] w) [(1,.val (A7 v1 0)),(3,.val (A7 v2 0))] [(1,some (v1,.box 54 [.rd CP a0])),(2,some (v2,.box 54 [.rd CP s3]))] O U) ?_ (λs3=>?_)
 ·refine A2<|Zq (faB 1 Z Z underlying54 Z (by exact ti5))<|Zq (ld 1 Z Z (fP (Fp _)) ty5 Z)<|Zn<|AB<|A2<|Zq (B.eql Z Z)<|Zb Z<|gIf Z Z (λh4=>?_) (λh4=>?_)
  ·refine gKn 7 Z h4<|Ai<|Zq (faB 1 Z Z underlying54 Z (by exact ti2))<|Zq (ld 1 Z Z (fP (HI _)) ty2 Z)<|Zc [] [] func83 Z (YB _) λr5 n6=>Es (sto 2 Z Z fH Z Cp)<|Ae<|Ap<|Av (λO U h=>Zu h [1,2])
  ·refine gKn 7 Z h4<|A2<|Zq (B.eql Z Z)<|Zb Z<|gIf Z Z (λh7=>?_) (λh7=>?_)
   ·refine gKn 12 Z h7<|Ai<|Zq (faB 1 Z Z underlying54 Z (by exact CV))<|Zq (ld 1 Z Z (fP (Gj _)) CR Z)<|Zc [] [] func84 Z (YF _) λr8 n9=>Es (sto 2 Z Z fH Z Cp)<|Ae<|Ap<|Av (λO U h=>Zu h [1,2])
   ·refine gKn 12 Z h7<|A2<|Zq (B.eql Z Z)<|Zb Z<|gIf Z Z (λa1=>?_) (λa1=>?_)
    ·refine gKn 17 Z a1<|Ai<|Zq (faB 1 Z Z underlying54 Z (by exact ti9))<|Zq (ld 1 Z Z (fP (Fq _)) ty9 Z)<|Zc [] [] func85 Z (YJ _) λa7 a8=>Zm Z<|Zq (ext Z Z)<|Zq (ext Z Z)<|Es (sto 2 Z Z fH Z Cp)<|Ae<|Ap<|Av (λO U h=>Zu h [1,2])
    ·refine gKn 17 Z a1<|AW<|Ap<|Av (λO U h=>Zu h [1,2])
 ·refine A6<|A2<|Zq (ld 1 Z Z fH Dv Z)<|Zq (ld 2 Z Z fH Dv Z)<|Zq (neA Z Z eq54 Z Z gq54)<|Zm Z<|Bf 27 Z (λa2=>?_) (λa2=>?_)
  ·refine Aj 26 Z a2<|Zk Z<|Zk Z<|Zk Z<|Zq (pkT Z Z)<|Zn<|CL Z<|A2<|Zb Z<|A5<|An<|Ze [] [] Z
  ·refine Aj 26 Z a2<|Aa Zx Z Z (faB 1 Z Z underlying54 Z (by exact ti5))<|Aa Zx Z Z (ld 1 Z Z (fP (Fp _)) ty5 Z)<|Aa Zx Z Z (B.eql Z Z)<|Zq (pkF Z Z)<|Zj Z (λa6=>?_) (λa6=>?_)
   ·refine gKn 30 Z a6<|A2<|Zb Z<|A5<|An<|Ze [] [] Z
   ·refine gKn 30 Z a6<|Zt<|A2<|Zb Z<|A5<|Ze [] [] Z
def Gu (a0:AX):Option (Int) :=
 if a0.Kind==1 then
  some (decide (a0=(⟨1,[],(⟨0,0,0,[]⟩:Ay)⟩:AX)))>>=λy3 =>
  if !y3 then
   some 8
  else
   some 0
 else
  (if a0.Kind==2 then
   some true
  else
   some (a0.Kind==3))>>=λs5 =>
  if s5 then
   J0 a0.Key>>=λr8 =>
   if r8 then
    some (decide (a0.Value=(⟨0,0,0,[]⟩:Ay)))>>=λO =>
    if !O then
     some 8
    else
     some 0
   else
    some 8
  else
   if a0.Kind==4 then
    J0 a0.Key>>=λU =>
    if U then
     HT a0.Value>>=λa1 =>
     if !(a1==0) then
      some 8
     else
      some 0
    else
     some 8
   else
    some 8
theorem P6 (a0:AX):Ah Tryz.prog 80 [.rd Bw a0] [] (Gu a0) (λr nv=>⟨[.rd A3 r],[]⟩):=by
 refine Am 36 func80 Z Z Z λH w=>?_;refine A2<|Eb Z (bx 1 Z) λv1=>Zb Z<|A2<|Zb Z<|A6<|A2<|Zq (faB 1 Z Z underlying56 Z (by exact ti5))<|Zq (ld 1 Z Z (fP (DS _)) ty5 Z)<|Zn<|AB<|A2<|Zq (B.eql Z Z)<|Zb Z<|gIf Z Z (λh2=>?_) (λh2=>?_)
 ·refine gKn 7 Z h2<|Ai<|Zq (ld 1 Z Z fH ty56 Z)<|Zq (bld (x':=(⟨1,[],(⟨0,0,0,[]⟩:Ay)⟩:AX)) [(0,1),(1,1),(2,4)] underlying56 Cj Z DB Z (Bld.cons (DS _) Z Z<|Bld.done Z))<|Zq (eqA Z Z eq56 Z Z gq56)<|Za Z<|AI 3 Z λy3=>Ae<|Ap<|Af<|A6<|A2<|Zm Z<|Zq (Cd Z)<|Zj Z (λh4=>?_) (λh4=>?_)
  ·refine A2<|Zb Z<|A5<|An<|Ze [] [] Z
  ·refine Zt<|A2<|Zb Z<|A5<|Ze [] [] Z
 ·refine gKn 7 Z h2<|AY (λ(s5:Bool) aa ww=>Sta (ctx 36 H [] w) [(1,.val (A7 v1 0)),(3,.rd Ac false),(5,.rd u8R a0.Kind),(11,.rd Ac s5)] [(1,some (v1,.box 56 [.rd Bw a0]))] aa ww) ?_ (λs5=>?_)
  ·refine A2<|Zq (B.eql Z Z)<|Zb Z<|gIf Z Z (λh6=>?_) (λh6=>?_)
   ·refine gKn 12 Z h6<|AW<|Av (λaa ww h=>Zu h [1])
   ·refine gKn 12 Z h6<|Ai<|Zq (B.eql Z Z)<|Za Z<|Ae<|Av (λaa ww h=>Zu h [1])
  ·refine gIf Z Z (λh7=>?_) (λh7=>?_)
   ·refine Ai<|Zq (faB 1 Z Z underlying56 Z (by exact ti9))<|Zq (ld 1 Z Z (fP (DT _)) ty9 Z)<|Zc [] [] func128 Z (SX _) λr8 n9=>Zm Z<|Bf 17 Z (λO=>?_) (λO=>?_)
    ·refine Aj 16 Z O<|Aa Zx Z Z (faB 1 Z Z underlying56 Z (by exact Cp))<|Aa Zx Z Z (ld 1 Z Z (fP (FM _)) Dv Z)<|Aa Zx Z Z (bld (x':=(⟨0,0,0,[]⟩:Ay)) [(0,1),(1,1),(2,1),(3,1)] underlying54 Cp Z EP Z (Bld.done Z))<|Aa Zx Z Z (eqA Z Z eq54 Z Z gq54)<|Zq (pkT Z Z)<|Za Z<|AI 3 Z λa7=>Ae<|Ap<|Af<|A6<|A2<|Zm Z<|Zq (Cd Z)<|Zj Z (λa2=>?_) (λa2=>?_)
     ·refine A2<|Zb Z<|A5<|An<|Ze [] [] Z
     ·refine Zt<|A2<|Zb Z<|A5<|Ze [] [] Z
    ·refine Aj 16 Z O<|Zk Z<|Zk Z<|Zk Z<|Zk Z<|Zq (pkF Z Z)<|Za Z<|Ae<|Ap<|Af<|A6<|A2<|Zm Z<|Zq (Cd Z)<|Zn<|CL Z<|A2<|Zb Z<|A5<|An<|Ze [] [] Z
   ·refine A2<|Zq (B.eql Z Z)<|Zb Z<|gIf Z Z (λU=>?_) (λU=>?_)
    ·refine gKn 24 Z U<|Ai<|Zq (faB 1 Z Z underlying56 Z (by exact ti9))<|Zq (ld 1 Z Z (fP (DT _)) ty9 Z)<|Zc [] [] func128 Z (SX _) λa8 ab=>Zm Z<|Bf 28 Z (λa1=>?_) (λa1=>?_)
     ·refine Aj 27 Z a1<|Aa Zx Z Z (faB 1 Z Z underlying56 Z (by exact Cp))<|Aa Zx Z Z (ld 1 Z Z (fP (FM _)) Dv Z)<|CN [] [] Zx Z func43 Z Z (P5 _) (Y1 Z) rN λac ad=>Aa Zx Z Z (I.eql Z Z)<|Zq (pkT Z Z)<|Za Z<|Ae<|Ap<|Af<|A6<|A2<|Zm Z<|Zq (Cd Z)<|Zj Z (λa6=>?_) (λa6=>?_)
      ·refine A2<|Zb Z<|A5<|An<|Ze [] [] Z
      ·refine Zt<|A2<|Zb Z<|A5<|Ze [] [] Z
     ·refine Aj 27 Z a1<|Zk Z<|Zk Z<|Zk Z<|Zk Z<|Zq (pkF Z Z)<|Za Z<|Ae<|Ap<|Af<|A6<|A2<|Zm Z<|Zq (Cd Z)<|Zn<|CL Z<|A2<|Zb Z<|A5<|An<|Ze [] [] Z
    ·refine gKn 24 Z U<|AW<|Ap<|Af<|A6<|A2<|Zm Z<|Zq (Cd Z)<|Zn<|CL Z<|A2<|Zb Z<|A5<|An<|Ze [] [] Z
def HU (a0:List V3) (O:Int):Option (Sum (Sum Bool Unit) Int) :=
 if decide (0<O) then
  idx a0 O>>=λU =>
  idx a0 (w64 (O - 1))>>=λx7 =>
  Fy U x7>>=λr9 =>
  if decide (r9<0) then
   some (.inl (.inl false))
  else
   some (.inr (w64 (O - 1)))
 else
  some (.inl (.inr ()))
def J1 (a0:List V3):Option (Bool) :=
 Bc (some (w64 ((a0.length:Int) - 1))>>=λO =>
 iter (HU a0) O) λs1 =>
 some true
theorem YK (a0:List V3):Ah Tryz.prog 137 [.rd (A8 aZ) a0,.val (.func (.func 94) #[] #[])] [] (J1 a0) (λr nv=>⟨[.rd Ac r],[]⟩):=by
 refine Am 25 func137 Z Z Z λH w=>?_;refine A2<|Zb Z<|BM (λ(s1:Unit) O U=>Sta (ctx 25 H [] w) [] [] O U) ?_ (λs1=>?_)
 ·refine A2<|Zm Z<|Zq (Aq Z .rd Z tu28)<|Zq (I.sub Z Z)<|Za Z<|AI 5 Z λy2=>Zn<|AJ (λ(s3:Int) O U=>Sta (ctx 25 H [] w) [(0,.rd (A8 aZ) a0),(1,.val (.func (.func 94) #[] #[])),(5,.rd A3 s3)] [] O U) (λO U h=>Zu h []) (λs3=>?_);refine A6<|A2<|Zm Z<|Zq (I.gtr Z Z)<|Zj Z (λh4=>?_) (λh4=>?_)
  ·refine Zt<|A6<|AB<|A6<|Bq [] mixed Z Z<|A4 0 Z Z (mv Z)<|A4 1 Z Z (mv Z)<|A4 2 Z Z (mv Z)<|AZ λx5 h6=>A4 3 Z Z (ixR Z Z h6 tu28 Ak Z)<|A4 4 Z Z (ldR Z Aw)<|A4 5 Z Z (mv Z)<|A4 6 Z Z (mv Z)<|A4 7 Z Z (I.sub Z Z)<|AZ λx7 h8=>A4 8 Z Z (ixR Z Z h8 tu28 Ak Z)<|A4 9 Z Z (ldR Z Aw)<|OK 10 [] [] Z (by kernel_rfl) Z (gd0 Z) Z func94 Z Z Z (HM _ _) (Y2 Z Z) (cN) Z rN Z (λ_ _=>Cb) λr9 a2=>A4 11 Z Z (I.lss Z Z)<|AV (by kernel_rfl)<|Af<|gIf Z Z (λa1=>?_) (λa1=>?_)
   ·refine A2<|Zb Z<|A5<|Bh<|An<|BE<|Bk<|Ze [] [] Z
   ·refine AW<|Ap<|Af<|Ai<|Zm Z<|Zq (I.sub Z Z)<|Za Z<|Ae<|Au (λO U h=>Zu h [])
  ·refine AC<|AD<|AG<|BA (λO U h=>Zu h [])
 ·refine A2<|Zb Z<|A5<|Ze [] [] Z
def J2 (c0:List V3) (U:Int) (O:(List V3) × Int × Int):Option (Sum ((List V3) × Int) ((List V3) × Int × Int)) :=
 if decide (O.2.2<((((c0.length:Int):Int).toNat - (U:Int).toNat:Nat):Int)) then
  subi ((U:Int).toNat) (((c0.length:Int):Int).toNat - (U:Int).toNat) O.2.2>>=λa1 =>
  idx O.1 (a1:Int)>>=λa2 =>
  subi ((U:Int).toNat) (((c0.length:Int):Int).toNat - (U:Int).toNat) (w64 (O.2.2 - 1))>>=λa6 =>
  idx O.1 (a6:Int)>>=λa7 =>
  if !decide (a2=a7) then
   subi ((U:Int).toNat) (((c0.length:Int):Int).toNat - (U:Int).toNat) O.2.2>>=λa8 =>
   idx O.1 (a8:Int)>>=λaa =>
   idx O.1 O.2.1>>=λae =>
   some (w64 (O.2.1+1))>>=λab =>
   some (w64 (O.2.2+1))>>=λac =>
   some (.inr (O.1.set (O.2.1:Int).toNat aa,ab,ac))
  else
   some (w64 (O.2.2+1))>>=λad =>
   some (.inr (O.1,O.2.1,ad))
 else
  some (.inl (O.1,O.2.1))
def H5 (c0:List V3) (U:Int):Option (Sum (Sum ((List V3)) Unit) Int) :=
 if decide (U<(c0.length:Int)) then
  idx c0 U>>=λx5 =>
  idx c0 (w64 (U - 1))>>=λx7 =>
  if decide (x5=x7) then
   chk (0<=U/\U<=(c0.length:Int)/\(c0.length:Int)<=(c0.length:Int))>>=λa2 =>
   (iter (J2 c0 U) (c0,U,1))>>=λO =>
   chk (0<=O.2/\O.2<=(O.1.length:Int)/\(O.1.length:Int)<=(O.1.length:Int))>>=λa6 =>
   chk ((O.2:Int).toNat+(((O.1.length:Int):Int).toNat - (O.2:Int).toNat)<=O.1.length)>>=λa7 =>
   cut (clr O.1 ((O.2:Int).toNat) (((O.1.length:Int):Int).toNat - (O.2:Int).toNat) (Vector.replicate 32 0)) 0 O.2>>=λa1 =>
   some (.inl (.inl a1))
  else
   some (.inr (w64 (U+1)))
 else
  some (.inl (.inr ()))
def J3 (c0:List V3):Option ((List V3)) :=
 if decide ((c0.length:Int)<2) then
  some c0
 else
  Bc (iter (H5 c0) 1) λs2 =>
  some c0
theorem YL (O:Value) (c0:List V3):Ah Tryz.prog 138 [.val O] [(1,some (O,.list aZ 71 c0))] (J3 c0) (λr nv=>⟨[.val (nv 0)],[(100,some (nv 0,.list aZ 71 r))]⟩):=by
 refine Am 61 func138 Z Z Z λH w=>?_;refine A2<|Zb Z<|A6<|A2<|Zm Z<|Zq (Aq Z (.own 1 Z) Z tu28)<|Zq (I.lss Z Z)<|Zj Z (λh1=>?_) (λh1=>?_)
 ·refine A2<|Zm Z<|Zb Z<|A5<|An<|Ze [O] [1] Z
 ·refine Zt<|BM (λ(s2:Unit) U ww=>Sta (ctx 61 H [(1,some (O,.list aZ 71 c0))] w) [(0,.val O)] [(1,some (O,.list aZ 71 c0))] U ww) ?_ (λs2=>?_)
  ·refine A2<|Zb Z<|AJ (λ(s3:Int) U ww=>Sta (ctx 61 H [(1,some (O,.list aZ 71 c0))] w) [(0,.val O),(3,.rd A3 s3)] [(1,some (O,.list aZ 71 c0))] U ww) (λU ww h=>Zu h [1]) (λs3=>?_);refine A6<|A2<|Zm Z<|Zm Z<|Zq (Aq Z (.own 1 Z) Z tu28)<|Zq (I.lss Z Z)<|Zj Z (λh4=>?_) (λh4=>?_)
   ·refine Zt<|A6<|AB<|A6<|Dh mixed (by kernel_rfl)<|Rq Z (mv Z)<|Rq Z (mv Z)<|C3 λx5 h6=>Rq Z (ixO 1 Z Z Z h6 tu28 Ak)<|Rq Z (ld 1 Z Z (Foc.el h6) Aw Z)<|Rq Z (mv Z)<|Rq Z (mv Z)<|Rq Z (I.sub Z Z)<|C3 λx7 h8=>Rq Z (ixO 1 Z Z Z h8 tu28 Ak)<|Rq Z (ld 1 Z Z (Foc.el h8) Aw Z)<|Rq Z (eqA Z Z eq71 Z Z gq71)<|Dd<|Af<|gIf Z Z (λh9=>?_) (λh9=>?_)
    ·refine A2<|Zm Z<|Zm Z<|Al λao a7=>Zq (SL 1 Z Z (.to Z) .no (DP a7) tu28 Ak)<|Zb Z<|AY (λ(a2:(List V3) × Int) U ww=>Sta (ctx 61 H [(1,some (O,.list aZ 71 c0))] w) [(0,.val O),(3,.rd A3 a2.2)] [(1,some (O,.list aZ 71 a2.1))] U ww) ?_ (λa2=>?_)
     ·refine A2<|Zb Z<|AJ (λ(a1:(List V3) × Int × Int) U ww=>Sta (ctx 61 H [(1,some (O,.list aZ 71 c0))] w) [(0,.val O),(3,.rd A3 a1.2.1),(4,.sub aZ.sz O ((s3:Int).toNat) (((c0.length:Int):Int).toNat - (s3:Int).toNat)),(5,.rd A3 a1.2.2)] [(1,some (O,.list aZ 71 a1.1))] U ww) (λU ww h=>Zu h [1]) (λa1=>?_);refine A6<|A2<|Zm Z<|Zm Z<|Zq (Yo Z Z tu28)<|Zq (I.lss Z Z)<|Zj Z (λa8=>?_) (λa8=>?_)
      ·refine Zt<|A6<|AB<|A6<|Dh mixed (by kernel_rfl)<|Rq Z (mv Z)<|Rq Z (mv Z)<|C3 λap ab=>C3 λaq ac=>Rq Z (ixSu 1 Z Z Z ab tu28 Ak)<|Rq Z (ld 1 Z Z (Foc.el ac) Aw Z)<|Rq Z (mv Z)<|Rq Z (mv Z)<|Rq Z (I.sub Z Z)<|C3 λar ad=>C3 λau ae=>Rq Z (ixSu 1 Z Z Z ad tu28 Ak)<|Rq Z (ld 1 Z Z (Foc.el ae) Aw Z)<|Rq Z (neA Z Z eq71 Z Z gq71)<|Dd<|Af<|gIf Z Z (λaf=>?_) (λaf=>?_)
       ·refine A2<|Zm Z<|Zm Z<|Zm Z<|Zm Z<|Al λav ah=>Al λaw ai=>Zq (ixSu 1 Z Z Z ah tu28 Ak)<|Zq (ld 1 Z Z (Foc.el ai) Aw Z)<|Al λax a6=>Zq (ixO 1 Z Z Z a6 tu28 Ak)<|Es (sto 1 Z Z (Foc.el a6) Z Ak)<|Zn<|Ai<|Zm Z<|Zq (I.add Z Z)<|Za Z<|AI 3 Z λay=>Ae<|Ap<|Af<|Ai<|Zm Z<|Zq (I.add Z Z)<|Za Z<|AI 5 Z λaz=>Ae<|Au (λU ww h=>Zu h [1])
       ·refine AW<|Ap<|Af<|Ai<|Zm Z<|Zq (I.add Z Z)<|Za Z<|AI 5 Z λb0=>Ae<|Au (λU ww h=>Zu h [1])
      ·refine AC<|AD<|AG<|Av (λU ww h=>Zu h [1])
     ·refine A2<|Zm Z<|Zm Z<|Al λb1 aj=>Zq (SL 1 Z Z (.to Z) .no (DP aj) tu28 Ak)<|Al λb2 ak=>EsV (clrS 1 Z Z (DP ak) Z tu28 Ak BU Z)<|Zn<|A2<|Zm Z<|Zm Z<|Al λb3 am=>Ef Z (cutO 1 Z Z Z am tu28 Ak) λv39=>Zb Z<|A5<|Bh<|An<|BE<|Bk<|Ze [v39] [1] Z
    ·refine AW<|Ap<|Af<|Ai<|Zm Z<|Zq (I.add Z Z)<|Za Z<|Ae<|Au (λU ww h=>Zu h [1])
   ·refine AC<|AD<|AG<|BA (λU ww h=>Zu h [1])
  ·refine A2<|Zm Z<|Zb Z<|A5<|Ze [O] [1] Z
def H6 (a0:Ab):Option (Int) :=
 some (decide (4<(a0.Preds.length:Int)))>>=λy2 =>
 if y2 then
  some 4
 else
  (J1 a0.Preds>>=λr5 =>
  if !r5 then
   some true
  else
   HN a0.Preds>>=λr8 =>
   J3 r8>>=λO =>
   some ((O.length:Int) != (a0.Preds.length:Int))>>=λU =>
   some U)>>=λs4 =>
  if s4 then
   some 32
  else
   (HQ a0.Author>>=λa1 =>
   if !a1 then
    some true
   else
    if decide (1000000000000<a0.Stamp) then
     some true
    else
     some (decide (500000003<=(max a0.Sig.E a0.Sig.S)))>>=λa2 =>
     some a2)>>=λa6 =>
   if a6 then
    some 8
   else
    Gu a0.Act>>=λa7 =>
    some a7
theorem P7 (a0:Ab):Ah Tryz.prog 91 [.rd AA a0] [] (H6 a0) (λr nv=>⟨[.rd A3 r],[]⟩):=by
 refine Am 47 func91 Z Z Z λH w=>?_;refine A2<|Eb Z (bx 1 Z) λv1=>Zb Z<|A6<|AB<|A2<|Zq (faB 1 Z Z underlying60 Z (by exact AU))<|Zq (ld 1 Z Z (fP (Co _)) B0 Z)<|Zq (Aq Z .rd Z tu28)<|Zq (I.gtr Z Z)<|Za Z<|AI 3 Z λy2=>Zj Z (λh3=>?_) (λh3=>?_)
 ·refine A2<|Zb Z<|A5<|Bh<|An<|Ze [] [] Z
 ·refine AY (λ(s4:Bool) O ww=>Sta (ctx 47 H [] w) [(1,.val (A7 v1 0)),(8,.rd Ac s4)] [(1,some (v1,.box 60 [.rd AA a0]))] O ww) ?_ (λs4=>?_)
  ·refine Bq [23,26] mixed Z Z<|A4 0 Z Z (faB 1 Z Z underlying60 Z (by exact AU))<|A4 1 Z Z (ld 1 Z Z (fP (Co _)) B0 Z)<|Be 2 [] [] Z (by kernel_rfl) Z (gd0 Z) Z func137 Z Z (YK _) (Y2 Z Z) rN Z (λ_ _=>DY) λr5 n6=>A4 3 Z Z (Cd Z)<|A4 4 Z Z (mv Z)<|hIf 13 Z Z (λh7=>?_) (λh7=>?_)
   ·refine hKn 12 Z Z h7<|hSk 5 Z Z<|hSk 6 Z Z<|hSk 7 Z Z<|hSk 8 Z Z<|hSk 9 Z Z<|hSk 10 Z Z<|hSk 11 Z Z<|hSk 12 Z Z<|hSk 13 Z Z<|A4 14 Z Z (pkT Z Z)<|A4 15 Z Z (asg Z)<|AV (by kernel_rfl)<|Av (λO ww h=>Zu h [1])
   ·refine hKn 12 Z Z h7<|Zg 5 Z Z (faB 1 Z Z underlying60 Z (by exact AU))<|Zg 6 Z Z (ld 1 Z Z (fP (Co _)) B0 Z)<|Zg 10 Z Z (faB 1 Z Z underlying60 Z (by exact AU))<|Zg 11 Z Z (ld 1 Z Z (fP (Co _)) B0 Z)<|Zg 12 Z Z (Aq Z .rd Z tu28)<|Be 7 [] [(100,23)] Z (by kernel_rfl) Z Zx Z func100 Z Z (SW _) (Y1 Z) rN Z (λ_ _=>C1) λr8 n9=>Be 8 [23] [(100,26)] Z (by kernel_rfl) Z Zx Z func138 Z Z (YL _ _) (Y1 Z) (Y0 Z) Z (λ_ _=>C1) λab ac=>OH 9 Z (by kernel_rfl) (by kernel_rfl) (by kernel_rfl) Zx Z Z Cb (Aq Z (.own 26 Z) Z tu28)<|Zg 13 Z Z (I.neq Z Z)<|A4 14 Z Z (pkF Z Z)<|A4 15 Z Z (asg Z)<|HH 8 Z Z λad=>AV (by kernel_rfl)<|Av (λO ww h=>Zu h [1])
  ·refine gIf Z Z (λa7=>?_) (λa7=>?_)
   ·refine A2<|Zb Z<|A5<|Bh<|An<|Ze [] [] Z
   ·refine AY (λ(a6:Bool) O ww=>Sta (ctx 47 H [] w) [(1,.val (A7 v1 0)),(24,.rd Ac a6)] [(1,some (v1,.box 60 [.rd AA a0]))] O ww) ?_ (λa6=>?_)
    ·refine Ai<|Zq (faB 1 Z Z underlying60 Z (by exact B4))<|Zq (ld 1 Z Z (fP (Fv _)) Bm Z)<|Zc [] [] func139 Z (OZ _) λae af=>Zq (Cd Z)<|Zm Z<|Bf 29 Z (λa2=>?_) (λa2=>?_)
     ·refine Aj 28 Z a2<|Zk Z<|Zk Z<|Zk Z<|Zq (pkT Z Z)<|Zm Z<|Zk Z<|Zk Z<|Zk Z<|Zk Z<|Zk Z<|Zk Z<|Zk Z<|Zk Z<|Zq (pkT Z Z)<|Za Z<|Ae<|Av (λO ww h=>Zu h [1])
     ·refine Aj 28 Z a2<|Aa Zx Z Z (faB 1 Z Z underlying60 Z (by exact CV))<|Aa Zx Z Z (ld 1 Z Z (fP (Fc _)) CR Z)<|Aa Zx Z Z (U.gtr Z Z)<|Zq (pkF Z Z)<|Zm Z<|Bf 34 Z (λa1=>?_) (λa1=>?_)
      ·refine Aj 32 Z a1<|Aj 33 Z a1<|Zk Z<|Zk Z<|Zk Z<|Zk Z<|Zk Z<|Zk Z<|Zk Z<|Zk Z<|Zq (pkT Z Z)<|Za Z<|Ae<|Av (λO ww h=>Zu h [1])
      ·refine Aj 32 Z a1<|Aj 33 Z a1<|Aa Zx Z Z (faB 1 Z Z underlying60 Z (by exact DR))<|Aa Zx Z Z (faB 1 Z Z underlying58 Z (by exact B4))<|Aa Zx Z Z (ld 1 Z Z ((fP (Er _)).part (Fu _)) Bm Z)<|Aa Zx Z Z (faB 1 Z Z underlying60 Z (by exact DR))<|Aa Zx Z Z (faB 1 Z Z underlying58 Z (by exact B4))<|Aa Zx Z Z (ld 1 Z Z ((fP (Er _)).part (Gk _)) Bm Z)<|Aa Zx Z Z (W.max Z Z)<|Aa Zx Z Z (W.geq Z Z)<|Zq (pkF Z Z)<|Za Z<|AI 24 Z λah=>Ae<|Av (λO ww h=>Zu h [1])
    ·refine gIf Z Z (λa8=>?_) (λa8=>?_)
     ·refine A2<|Zb Z<|A5<|Bh<|An<|Ze [] [] Z
     ·refine AW<|Ap<|Af<|A2<|Zq (faB 1 Z Z underlying60 Z (by exact Cj))<|Zq (ld 1 Z Z (fP (Ct _)) ty56 Z)<|Zc [] [] func80 Z (P6 _) λai aj=>Zb Z<|A5<|Ze [] [] Z
def LM (a0:V3) (c1_0:Int) (c2_0:List V3):Option (Bool × Int) :=
 if decide ((w64 (c1_0+1))<(c2_0.length:Int)) then
  idx c2_0 (w64 ((w64 (c1_0+1)) - 1))>>=λO =>
  idx c2_0 (w64 (c1_0+1))>>=λU =>
  Fy O U>>=λr7 =>
  some (decide (0<=r7))>>=λy9 =>
  some (y9,w64 (c1_0+1))
 else
  some (false,w64 (c1_0+1))
theorem YM (a0:V3) (p1_0:Value) (c1_0:Int) (p2_0:Value) (c2_0:List V3):Ah Tryz.prog 217 [.rd aZ a0,.val (A7 p1_0 0),.val (A7 p2_0 0)] [(1,some (p1_0,.box 3 [.rd A3 c1_0])),(2,some (p2_0,.box 28 [.rd (A8 aZ) c2_0]))] (LM a0 c1_0 c2_0) (λr nv=>⟨[.rd Ac r.1],[(1,some (p1_0,.box 3 [.rd A3 r.2])),(2,some (p2_0,.box 28 [.rd (A8 aZ) c2_0]))]⟩):=by
 refine Am 24 func217 Z Z Z λH w=>?_;refine A2<|Eb Z (bx 3 Z) λv1=>Zb Z<|A2<|Zq (ld 1 Z Z fH ty3 Z)<|Zq (I.add Z Z)<|Es (sto 1 Z Z fH Z ti3)<|Zn<|A6<|Bq [] mixed Z Z<|A4 0 Z Z (ld 1 Z Z fH ty3 Z)<|A4 1 Z Z (ld 2 Z Z fH B0 Z)<|A4 2 Z Z (Aq Z .rd Z tu28)<|A4 3 Z Z (I.lss Z Z)<|A4 4 Z Z (mv Z)<|hIf 11 Z Z (λO=>?_) (λO=>?_)
 ·refine hKn 10 Z Z O<|Zg 5 Z Z (ld 2 Z Z fH B0 Z)<|Zg 6 Z Z (ld 1 Z Z fH ty3 Z)<|Zg 7 Z Z (I.sub Z Z)<|AZ λx3 U=>Zg 8 Z Z (ixR Z Z U tu28 Ak Z)<|Zg 9 Z Z (ldR Z Aw)<|Zg 10 Z Z (ld 2 Z Z fH B0 Z)<|Zg 11 Z Z (ld 1 Z Z fH ty3 Z)<|AZ λx5 h6=>Zg 12 Z Z (ixR Z Z h6 tu28 Ak Z)<|Zg 13 Z Z (ldR Z Aw)<|Be 14 [] [] Z (by kernel_rfl) Z Zx Z func94 Z Z (HM _ _) (Y2 Z Z) rN Z (λ_ _=>Cb) λr7 n8=>Zg 15 Z Z (I.geq Z Z)<|A4 16 Z Z (pkT Z Z)<|A4 17 Z Z (asg Z)<|HH 4 Z Z λy9=>AV (by kernel_rfl)<|Af<|A5<|Ze [] [1,2] Z
 ·refine hKn 10 Z Z O<|hSk 5 Z Z<|hSk 6 Z Z<|hSk 7 Z Z<|hSk 8 Z Z<|hSk 9 Z Z<|hSk 10 Z Z<|hSk 11 Z Z<|hSk 12 Z Z<|hSk 13 Z Z<|hSk 14 Z Z<|hSk 15 Z Z<|A4 16 Z Z (pkF Z Z)<|A4 17 Z Z (asg Z)<|AV (by kernel_rfl)<|Af<|A5<|Ze [] [1,2] Z
def H7 (a0:List V3) (c1_1:List V3) (O:Int × Int):Option (Sum (Sum (Int × Int) Int) (Int × Int)) :=
 if decide (O.2<(a0.length:Int)) then
  idx a0 O.2>>=λx4 =>
  LM x4 O.1 c1_1>>=λU =>
  if U.1 then
   some (.inl (.inl (O.2,U.2)))
  else
   some (.inr (U.2,w64 (O.2+1)))
 else
  some (.inl (.inr O.1))
def P8 (a0:List V3) (c1_0:Int) (c1_1:List V3):Option (Int × Int) :=
 Bc (iter (H7 a0 c1_1) (c1_0,0)) λO =>
 some ((-1),O)
theorem YN (a0:List V3) (p1_0:Value) (c1_0:Int) (p1_1:Value) (c1_1:List V3):Ah Tryz.prog 158 [.rd (A8 aZ) a0,.val (.func (.func 217) #[] #[A7 p1_0 0,A7 p1_1 0])] [(1,some (p1_0,.box 3 [.rd A3 c1_0])),(2,some (p1_1,.box 28 [.rd (A8 aZ) c1_1]))] (P8 a0 c1_0 c1_1) (λr nv=>⟨[.rd A3 r.1],[(1,some (p1_0,.box 3 [.rd A3 r.2])),(2,some (p1_1,.box 28 [.rd (A8 aZ) c1_1]))]⟩):=by
 refine Am 19 func158 Z Z Z λH w=>?_;refine A2<|Zb Z<|BM (λ(s1:Int) O U=>Sta (ctx 19 H [(1,some (p1_0,.box 3 [.rd A3 c1_0])),(2,some (p1_1,.box 28 [.rd (A8 aZ) c1_1]))] w) [] [(1,some (p1_0,.box 3 [.rd A3 s1])),(2,some (p1_1,.box 28 [.rd (A8 aZ) c1_1]))] O U) ?_ (λs1=>?_)
 ·refine A2<|Zm Z<|Zq (Aq Z .rd Z tu28)<|Zm Z<|Zn<|AJ (λ(s2:Int × Int) O U=>Sta (ctx 19 H [(1,some (p1_0,.box 3 [.rd A3 c1_0])),(2,some (p1_1,.box 28 [.rd (A8 aZ) c1_1]))] w) [(0,.rd (A8 aZ) a0),(1,.val (.func (.func 217) #[] #[A7 p1_0 0,A7 p1_1 0])),(7,.rd A3 (a0.length:Int)),(8,.rd A3 s2.2)] [(1,some (p1_0,.box 3 [.rd A3 s2.1])),(2,some (p1_1,.box 28 [.rd (A8 aZ) c1_1]))] O U) (λO U h=>Zu h [1,2]) (λs2=>?_)
  refine A2<|Zq (I.lss Z Z)<|Zn<|A6<|gIf Z Z (λh3=>?_) (λh3=>?_)
  ·refine Zt<|A6<|AB<|A2<|Zm Z<|Zb Z<|A2<|Zm Z<|Zm Z<|Zm Z<|Al λx4 h5=>Zq (ixR Z Z h5 tu28 Ak Z)<|Zq (ldR Z Aw)<|EO [1,2] [(1,1),(2,2)] (gd0 Z) Z Z func217 Z Z (YM _ _ _ _ _) (Y1 Z) (cQ 1 Z<|cQ 2 Z<|cN) (Zi Z<|Zi Z<|rN) λr6 n7=>Zj Z (λh8=>?_) (λh8=>?_)
   ·refine A2<|Zm Z<|Zb Z<|A5<|Bh<|An<|BE<|Bk<|Ze [] [1,2] Z
   ·refine AW<|Ap<|Af<|Ai<|Zq (I.add Z Z)<|Zm Z<|Ae<|Au (λO U h=>Zu h [1,2])
  ·refine AC<|AD<|AG<|BA (λO U h=>Zu h [1,2])
 ·refine A2<|Zb Z<|A5<|Ze [] [1,2] Z
def P9 (a0:List V3) (c1_0:Int) (c1_1:List V3):Option (Bool × Int) :=
 P8 a0 c1_0 c1_1>>=λO =>
 some (decide (0<=O.1))>>=λU =>
 some (U,O.2)
theorem YO (a0:List V3) (p1_0:Value) (c1_0:Int) (p1_1:Value) (c1_1:List V3):Ah Tryz.prog 105 [.rd (A8 aZ) a0,.val (.func (.func 217) #[] #[A7 p1_0 0,A7 p1_1 0])] [(1,some (p1_0,.box 3 [.rd A3 c1_0])),(2,some (p1_1,.box 28 [.rd (A8 aZ) c1_1]))] (P9 a0 c1_0 c1_1) (λr nv=>⟨[.rd Ac r.1],[(1,some (p1_0,.box 3 [.rd A3 r.2])),(2,some (p1_1,.box 28 [.rd (A8 aZ) c1_1]))]⟩):=by
 refine Am 9 func105 Z Z Z λH w=>?_;refine A2<|Zb Z<|A2<|Zm Z<|Zm Z<|Zc [1,2] [(1,1),(2,2)] func158 Z (YN _ _ _ _ _) λr1 n2=>Zq (I.geq Z Z)<|Za Z<|AI 4 Z λy3=>Zn<|A5<|Ze [] [1,2] Z
def LN (a0:List V3):Option (Bool) :=
 P9 a0 0 a0>>=λO =>
 some (!O.1)
theorem YP (a0:List V3):Ah Tryz.prog 180 [.rd (A8 aZ) a0] [] (LN a0) (λr nv=>⟨[.rd Ac r],[]⟩):=by
 refine Am 8 func180 Z Z Z λH w=>?_;refine A2<|Eb Z (bx 1 Z) λv1=>Zb Z<|A2<|Eb Z (AN 2 ti3 (.zr (R:=A3) (x:=0) (Zr.num Z))) λv2=>Es (sto 2 Z Z fH Z ti3)<|Zn<|A2<|Zq (ld 1 Z Z fH B0 Z)<|Zq (mkf mp0 (mp2 Z Z))<|Zc [2,1] [(1,2),(2,1)] func105 Z (YO _ _ _ _ _) λr3 n4=>Zq (Cd Z)<|Zb Z<|A5<|Ze [] [] Z
def LO (a0:UInt64):Option (Int) :=
 (if decide (4294967296<=a0) then
  some (Ce a0 32,32)
 else
  some (a0,0))>>=λO =>
 (if decide (65536<=O.1) then
  some (Ce O.1 16)>>=λy5 =>
  some (w64 (O.2+16))>>=λy6 =>
  some (y5,y6)
 else
  some (O.1,O.2))>>=λU =>
 (if decide (256<=U.1) then
  some (w64 (U.2+8))>>=λy9 =>
  some (Ce U.1 8,y9)
 else
  some (U.1,U.2))>>=λs7 =>
 idx ([0,1,2,2,3,3,3,3,4,4,4,4,4,4,4,4,5,5,5,5,5,5,5,5,5,5,5,5,5,5,5,5,6,6,6,6,6,6,6,6,6,6,6,6,6,6,6,6,6,6,6,6,6,6,6,6,6,6,6,6,6,6,6,6,7,7,7,7,7,7,7,7,7,7,7,7,7,7,7,7,7,7,7,7,7,7,7,7,7,7,7,7,7,7,7,7,7,7,7,7,7,7,7,7,7,7,7,7,7,7,7,7,7,7,7,7,7,7,7,7,7,7,7,7,7,7,7,7,8,8,8,8,8,8,8,8,8,8,8,8,8,8,8,8,8,8,8,8,8,8,8,8,8,8,8,8,8,8,8,8,8,8,8,8,8,8,8,8,8,8,8,8,8,8,8,8,8,8,8,8,8,8,8,8,8,8,8,8,8,8,8,8,8,8,8,8,8,8,8,8,8,8,8,8,8,8,8,8,8,8,8,8,8,8,8,8,8,8,8,8,8,8,8,8,8,8,8,8,8,8,8,8,8,8,8,8,8,8,8,8,8,8,8,8,8,8,8,8,8,8,8,8,8,8,8,8]:List UInt8) (s7.1.toUInt8.toNat:Int)>>=λa1 =>
 some (w64 (s7.2+(a1.toNat:Int)))>>=λa2 =>
 some a2
theorem YQ (a0:UInt64):Ah Tryz.prog 45 [.rd Ar a0] [] (LO a0) (λr nv=>⟨[.rd A3 r],[]⟩):=by
 refine Am 25 func45 Z Z Z λH w=>?_;refine A2<|Zb Z<|AY (λ(s1:UInt64 × Int) O ww=>Sta (ctx 25 H [] w) [(0,.rd Ar s1.1),(2,.rd A3 s1.2)] [] O ww) ?_ (λs1=>?_)
 ·refine A2<|Zm Z<|Zq (U.geq Z Z)<|Zj Z (λh2=>?_) (λh2=>?_)
  ·refine A2<|Zm Z<|Zq (U.shr Z Z (Int.natCast_nonneg _))<|Zb Z<|Ai<|Za Z<|Ae<|Av (λO ww h=>Zu h [])
  ·refine AW<|Av (λO ww h=>Zu h [])
 ·refine AY (λ(s3:UInt64 × Int) O ww=>Sta (ctx 25 H [] w) [(0,.rd Ar s3.1),(2,.rd A3 s3.2)] [] O ww) ?_ (λs3=>?_)
  ·refine A2<|Zm Z<|Zq (U.geq Z Z)<|Zj Z (λh4=>?_) (λh4=>?_)
   ·refine A2<|Zm Z<|Zq (U.shr Z Z (Int.natCast_nonneg _))<|Za Z<|AI 0 Z λy5=>Zn<|Ai<|Zm Z<|Zq (I.add Z Z)<|Za Z<|AI 2 Z λy6=>Ae<|Av (λO ww h=>Zu h [])
   ·refine AW<|Av (λO ww h=>Zu h [])
  ·refine AY (λ(s7:UInt64 × Int) O ww=>Sta (ctx 25 H [] w) [(0,.rd Ar s7.1),(2,.rd A3 s7.2)] [] O ww) ?_ (λs7=>?_)
   ·refine A2<|Zm Z<|Zq (U.geq Z Z)<|Zj Z (λh8=>?_) (λh8=>?_)
    ·refine A2<|Zm Z<|Zq (U.shr Z Z (Int.natCast_nonneg _))<|Zb Z<|Ai<|Zm Z<|Zq (I.add Z Z)<|Za Z<|AI 2 Z λy9=>Ae<|Av (λO ww h=>Zu h [])
    ·refine AW<|Av (λO ww h=>Zu h [])
   ·refine A2<|Zm Z<|Zm Z<|Zq (U.toB Z tu52 tu5)<|Al λa2 a1=>Zq (idxT Z Z tu9 (Dt a1).1 (Dt a1).2.1)<|Zq (B.toI Z tu5 tu3)<|Zq (I.add Z Z)<|Za Z<|AI 2 Z λa6=>Zn<|A5<|Ze [] [] Z
def LP (a0:UInt64) (U:Int) (O:(List UInt8) × Int):Option (Sum ((List UInt8)) ((List UInt8) × Int)) :=
 if decide (O.2<U) then
  chk (0<=w64 (8 * O.2))>>=λa1 =>
  idx O.1 (w64 (U - O.2))>>=λa2 =>
  some (.inr (O.1.set (w64 (U - O.2):Int).toNat ((Ce a0 ((w64 (8 * O.2):Int).toNat)).toUInt8),w64 (O.2+1)))
 else
  some (.inl O.1)
def Ev (a0:UInt64):Option ((List UInt8)) :=
 if decide (a0<=247) then
  some [a0.toUInt8]
 else
  LO a0>>=λr3 =>
  some (w64 (Int.tdiv (w64 (r3+7)) 8))>>=λO =>
  mkn 1 0 (w64 (O+1))>>=λU =>
  idx U 0>>=λx9 =>
  (iter (LP a0 O) (U.set (0:Int).toNat (UInt8.ofInt (w64 (247+O))),0))>>=λa1 =>
  some a1
theorem EX (a0:UInt64):Ah Tryz.prog 22 [.rd Ar a0] [] (Ev a0) (λr nv=>⟨[.val (nv 0)],[(100,some (nv 0,.list u8R 5 r))]⟩):=by
 refine Am 39 func22 Z Z Z λH w=>?_;refine A2<|Zb Z<|A6<|A2<|Zm Z<|Zq (U.leq Z Z)<|Zj Z (λh1=>?_) (λh1=>?_)
 ·refine A2<|Zm Z<|Zq (U.toB Z tu52 tu5)<|Ef Z (lit (R:=u8R) ([a0.toUInt8]:List UInt8) 1 (pP Z Z<|pN) Z tu36 ti5 Z Z) λv2=>Zb Z<|A5<|An<|Ze [v2] [1] Z
 ·refine Zt<|A2<|Zm Z<|Zc [] [] func45 Z (YQ _) λr3 n4=>Zq (I.add Z Z)<|Zq (I.quo Z Z (by decide))<|Za Z<|AI 3 Z λy5=>Zn<|A2<|Zm Z<|Zq (I.add Z Z)<|Al λx6 h7=>Ef Z (mks (R:=u8R) 2 Z Z h7 tu36 ti5 (Zr.num Z) Z) λv8=>Zb Z<|A2<|Zm Z<|Zm Z<|Zq (I.add Z Z)<|Zq (I.toB Z tu3 tu5)<|Al λx9 a2=>Zq (ixO 2 Z Z Z a2 tu36 ti5)<|Es (sto 2 Z Z (Foc.el a2) Z ti5)<|Zn<|AY (λ(a6:(List UInt8)) O ww=>Sta (ctx 39 H [] w) [(4,.val v8)] [(2,some (v8,.list u8R 5 a6))] O ww) ?_ (λa6=>?_)
  ·refine A2<|Zm Z<|Zm Z<|Zn<|AJ (λ(a1:(List UInt8) × Int) O ww=>Sta (ctx 39 H [] w) [(0,.rd Ar a0),(3,.rd A3 y5),(4,.val v8),(23,.rd A3 y5),(24,.rd A3 a1.2)] [(2,some (v8,.list u8R 5 a1.1))] O ww) (λO ww h=>Zu h [2]) (λa1=>?_);refine A2<|Zq (I.lss Z Z)<|Zn<|A6<|gIf Z Z (λa8=>?_) (λa8=>?_)
   ·refine Zt<|A6<|AB<|A2<|Zm Z<|Zb Z<|Ai<|Zm Z<|Zm Z<|Zm Z<|Zq (I.sub Z Z)<|Zm Z<|Zm Z<|Zq (I.mul Z Z)<|Al λac ab=>Zq (U.shr Z Z (DP ab))<|Zq (U.toB Z tu52 tu5)<|Al λad a7=>Zq (ixO 2 Z Z Z a7 tu36 ti5)<|Es (sto 2 Z Z (Foc.el a7) Z ti5)<|Ae<|Ap<|Af<|Ai<|Zq (I.add Z Z)<|Zm Z<|Ae<|Au (λO ww h=>Zu h [2])
   ·refine AC<|AD<|AG<|Av (λO ww h=>Zu h [2])
  ·refine A2<|Zm Z<|Zb Z<|A5<|Ze [v8] [2] Z
def J4 (a0:List V3) (O:(List UInt8) × Int):Option (Sum ((List UInt8)) ((List UInt8) × Int)) :=
 if decide (O.2<(a0.length:Int)) then
  idx a0 O.2>>=λU =>
  app 1 O.1 U.toList>>=λa1 =>
  some (.inr (a1,w64 (O.2+1)))
 else
  some (.inl O.1)
def LQ (a0:List V3):Option ((List UInt8) × Int) :=
 if decide (60<(a0.length:Int)) then
  some ([],4)
 else
  LN a0>>=λO =>
  if !O then
   some ([],32)
  else
   Ev (UInt64.ofInt (a0.length:Int))>>=λU =>
   (iter (J4 a0) (U,0))>>=λs7 =>
   some (s7,0)
theorem YR (a0:List V3):Ah Tryz.prog 140 [.rd (A8 aZ) a0] [] (LQ a0) (λr O=>⟨[.val (O 0),.rd A3 r.2],[(100,some (O 0,.list u8R 5 r.1))]⟩):=by
 refine Am 28 func140 Z Z Z λH w=>?_;refine A2<|Za Z<|Zb Z<|A6<|A2<|Zm Z<|Zq (Aq Z .rd Z tu28)<|Zq (I.gtr Z Z)<|Zj Z (λh1=>?_) (λh1=>?_)
 ·refine A2<|Za Z<|Zb Z<|A5<|An<|Cl u8R 5 1<|Ze [(.slice none 0 0)] [1] Z
 ·refine Zt<|A6<|A2<|Zm Z<|Zc [] [] func180 Z (YP _) λr2 n3=>Zq (Cd Z)<|Zj Z (λh4=>?_) (λh4=>?_)
  ·refine A2<|Za Z<|Zb Z<|A5<|An<|Cl u8R 5 2<|Ze [(.slice none 0 0)] [2] Z
  ·refine Zt<|A2<|Zm Z<|Zq (Aq Z .rd Z tu28)<|Zq (I.toU Z tu3 tu52)<|Zc [] [(100,3)] func22 Z (EX _) λr5 n6=>Zb Z<|AY (λ(s7:(List UInt8)) U ww=>∃ O:Nat->Value,Sta (ctx 28 H [] w) [(4,.val (O 0))] [(3,some ((O 0),.list u8R 5 s7))] U ww) ?_ (λs7=>?_)
   ·refine A2<|Zm Z<|Zq (Aq Z .rd Z tu28)<|Zm Z<|Zn<|AJ (λ(s8:(List UInt8) × Int) U ww=>∃ O:Nat->Value,Sta (ctx 28 H [] w) [(4,.val (O 0)),(17,.rd (A8 aZ) a0),(18,.rd A3 (a0.length:Int)),(19,.rd A3 s8.2)] [(3,some ((O 0),.list u8R 5 s8.1))] U ww) (λU ww h=>⟨nvl [(n6 0)],Zu h [3]⟩) (λs8=>?_);refine gEx λn9=>A2<|Zq (I.lss Z Z)<|Zn<|A6<|gIf Z Z (λa1=>?_) (λa1=>?_)
    ·refine Zt<|A6<|AB<|A2<|Al λab a2=>Zq (ixR Z Z a2 tu28 Ak Z)<|Zq (ldR Z Aw)<|Eb Z (AN 4 Ak (.zr (R:=aZ) (x:=(Vector.replicate 32 0)) BU)) λac=>Es (sto 4 Z Z fH Z Ak)<|Zn<|Ai<|Zm Z<|Gg 4 6 Z Z<|Zq (CO Z tu71 ti5 Z Z Z)<|Al λad a6=>Ef Z (apn 3 Z Z Z .rd a6 tu36 ti5 Z Z Z) λa7=>Za Z<|Ae<|Ap<|Af<|Ai<|Zq (I.add Z Z)<|Zm Z<|Ae<|Au (λU ww h=>⟨nvl [a7],Zu h [3]⟩)
    ·refine AC<|AD<|AG<|Av (λU ww h=>⟨nvl [(n9 0)],Zu h [3]⟩)
   ·refine gEx λa8=>A2<|Zm Z<|Za Z<|Zb Z<|A5<|Ze [(a8 0)] [3] Z
def LR (O:Int):Option ((List UInt8)) :=
 if decide (O<0) then
  none
 else
  some (w64 (O - (w64 (0 - (([]:List UInt8).length:Int)))))>>=λU =>
  if decide (0<U) then
   mkn 2 0 U>>=λx4 =>
   cut x4 0 (([]:List UInt8).length:Int)>>=λx7 =>
   some x7
  else
   some []
end
end Go.Proofs.YtdeegahcaekfaaaGreatDoor
