import Derived.Test.YtefkialcgmohkaaGreatDoorGa
set_option linter.unusedSimpArgs false
set_option linter.unusedVariables false
namespace Go.Proofs.YtefkialcgmohkaaGreatDoor
section
open Go Go.RowKit
variable {ro:Option Nat}
def Sp {α:Type} (R:Rep α) (x:α) (es:List Ent):Prop:=R.agg=true∧∀ S w cs,R.rel S w cs x↔∃ vs,z3j S w es vs∧za4 vs=cs
theorem Sp.unit:Sp zjq () []:=⟨rfl, fun S w cs=>⟨fun h=>⟨[],trivial,(show cs=[] from h).symm⟩, fun ⟨vs,h1,h2⟩=>by
 match vs,h1 with
 | [],_=>exact h2.symm⟩⟩
theorem Sp.prod {α β:Type} {R:Rep α} {T:Rep β} {x:α} {y:β} {es:List Ent} (h:Sp T y es):Sp (z8t R T) (x,y) (.rd R x::es):=⟨rfl, fun S w cs=>⟨fun ⟨c,d,h1,h2,h3⟩=>by
  obtain ⟨vs,k1,k2⟩:=(h.2 S w d).1 h3
  exact ⟨R.val c::vs,⟨⟨c,h2,rfl⟩,k1⟩, by rw [z41,Rep.val_cells h2,k2,h1]⟩, fun ⟨vs,h1,h2⟩=>by
  match vs,h1 with
  | v::vs,⟨⟨c,k1,k2⟩,k3⟩ =>
   subst k2
   rw [z41,Rep.val_cells k1] at h2
   exact ⟨c,_,h2.symm,k1,(h.2 S w _).2 ⟨vs,k3,rfl⟩⟩⟩⟩
theorem Sp.via {α β:Type} {g:β→α} {R:Rep α} {x:β} {es:List Ent} (h:Sp R (g x) es):Sp (zqu g R) x es:=⟨h.1,h.2⟩
section
variable {ρ:Type} {P:Program} {Γ:Ctx} {l:z3a} {res:Res} {m:Option ρ} {a:Act} {w:World}
theorem Sta.recont (ha:Sta Γ l res a w) (r:Nat) {v:Value} {c c':z5w} (hr:lr res r=some (v,c)) (h:c.holds (Shr Γ.H res w) w v→c'.holds (Shr Γ.H res w) w v):Sta Γ l ((r,some (v,c'))::res) a w :=
 (ha.upd r (v:=v) (c:=c') (wr:=none) Ext.rfl'.gb (by simp) (fun b hb=>.inl ⟨v,c,hr,hb⟩) (fun S' k'=>(h (ha.conts r v c hr)).mono k' (fun b hb=>rfl))).1
theorem Sta.split {α:Type} {R:Rep α} {x:α} {es:List Ent} {T:TypeId} {v:Value} (ha:Sta Γ l res a w) (r:Nat) (hr:lr res r=some (v,.box T [.rd R x])) (hs:Sp R x es):Sta Γ l ((r,some (v,.box T es))::res) a w :=
 ha.recont r hr (fun h=>by
  rcases h with h | ⟨b,o,h1,h2,b',vs,rfl,rfl,h3⟩
  ·
   exact h.elim
  ·
   match vs,h3 with
   | [u],⟨⟨cs,k1,k2⟩,_⟩ =>
    subst k2
    obtain ⟨vs',k3,k4⟩:=(hs.2 _ w cs).1 k1
    exact .inr ⟨b,_,h1,h2,b',vs',rfl, by rw [k4]; simp [za4,Rep.val_cells k1],k3⟩)
theorem Sta.join {α:Type} {R:Rep α} {x:α} {es:List Ent} {T:TypeId} {v:Value} (ha:Sta Γ l res a w) (r:Nat) (hr:lr res r=some (v,.box T es)) (hs:Sp R x es):Sta Γ l ((r,some (v,.box T [.rd R x]))::res) a w :=
 ha.recont r hr (fun h=>by
  rcases h with h | ⟨b,o,h1,h2,b',vs,rfl,rfl,h3⟩
  ·
   exact h.elim
  ·
   have k1:=(hs.2 _ w (za4 vs)).2 ⟨vs,h3,rfl⟩
   exact .inr ⟨b,_,h1,h2,b',[R.val (za4 vs)],rfl, by rw [show za4 [R.val (za4 vs)]=za4 vs by rw [z41,Rep.val_cells k1]; simp [za4]],⟨_,k1,rfl⟩,trivial⟩)
theorem zkg {α:Type} (R:Rep α) {S:Blk} {w:World} {v:Value} (h:(Ent.val (.slice none 0 0)).holds S w v):(Ent.rd (z02 R) []).holds S w v:=by
 obtain ⟨rfl,-⟩:=h
 exact ⟨_,⟨none,0,[],rfl,Rd.nil _ _,rfl, by simp⟩,rfl⟩
theorem z18.holds {es es':List Ent} {S:Blk} {w:World} {e e0:Ent} {pre post:List Ent} (h1:es=pre++e0::post) (h2:es'=pre++e::post) (he:∀ v,e0.holds S w v→e.holds S w v):∀ {vs:List Value},z3j S w es vs→z3j S w es' vs:=by
 subst h1; subst h2
 induction pre with
 | nil=>intro vs h; match vs,h with | v::vs,⟨k1,k2⟩=>exact ⟨he v k1,k2⟩
 | cons p pre ih=>intro vs h; match vs,h with | v::vs,⟨k1,k2⟩=>exact ⟨k1,ih k2⟩
theorem Sta.partNil {α:Type} (R:Rep α) {es es':List Ent} {T:TypeId} {v:Value} (ha:Sta Γ l res a w) (r:Nat) (pre post:List Ent) (hr:lr res r=some (v,.box T es)) (h1:es=pre++.val (.slice none 0 0)::post) (h2:es'=pre++.rd (z02 R) []::post):Sta Γ l ((r,some (v,.box T es'))::res) a w :=
 ha.recont r hr (fun h=>by
  rcases h with h | ⟨b,o,k1,k2,b',vs,rfl,rfl,k3⟩
  ·
   exact h.elim
  ·
   exact .inr ⟨b,_,k1,k2,b',vs,rfl,rfl,z18.holds h1 h2 (fun v hv=>zkg R hv) k3⟩)
theorem Sta.partOwn {α:Type} {R:Rep α} {b:List α} {es es':List Ent} {T E:TypeId} {v u:Value} (ha:Sta Γ l res a w) (r q:Nat) (pre post:List Ent) (hne:r≠q) (hr:lr res r=some (v,.box T es)) (hq:lr res q=some (u,.list R E b)) (h1:es=pre++.val u::post) (h2:es'=pre++.rd (z02 R) b::post):Sta Γ l ((r,some (v,.box T es'))::(q,none)::res) a w:=by
 have hbox:=ha.conts r v _ hr
 have hlist:=ha.conts q u _ hq
 have hst:zch (Shr Γ.H res w) (Shr Γ.H ((q,none)::res) w) w w:=fun bb hb=>⟨⟨hb.1, fun r' v' c' hr'=>by
  rw [z1x] at hr'
  split at hr'
  ·
   cases hr'
  ·
   exact hb.2.1 r' v' c' hr',hb.2.2⟩,rfl⟩
 have ha':Sta Γ l ((q,none)::res) a w:=by simpa using ha.frz (R:=R) (T:=E) (b:=b) q [] hq trivial
 have hr':lr ((q,none)::res) r=some (v,.box T es):=(z1x.trans (if_neg (fun e=>hne e.symm))).trans hr
 refine ha'.recont r hr' (fun _=>?_)
 rcases hbox with h | ⟨b0,o,k1,k2,b',vs,rfl,rfl,k3⟩
 ·
  exact h.elim
 ·
  refine .inr ⟨b0,_,k1,k2,b',vs,rfl,rfl,z18.holds h1 h2 (fun v' hv=>?_) (k3.mono hst)⟩
  obtain ⟨rfl,-⟩:=hv
  obtain ⟨xs,h3,h4⟩:=zci hlist
  obtain ⟨p,c,rfl⟩:=zb5 h3
  refine ⟨_,⟨p,c,xs,rfl,Rd.of_own h3,h4.mono hst, fun hne' bb hbb=>?_⟩,rfl⟩
  have hbb:z5c (.slice p b.length c)=some bb:=by rw [ze6,zj0]; exact hbb
  refine ⟨(ha.conts q _ _ hq).lt hbb, fun r' v' c' hr2 e=>?_, fun hH=>ha.own q _ _ hq bb hbb (ha.hid bb hH)⟩
  rw [z1x] at hr2
  split at hr2
  ·
   cases hr2
  ·
   rename_i hqr
   exact ha.excl q _ _ r' v' c' hq hr2 hqr bb hbb e
variable {os rest:List Oper} {N Q:ρ→Exit→Act→World→Prop} {c:Code} {e:Exit}
theorem lSpl {α:Type} {R:Rep α} {x:α} {es:List Ent} {T:TypeId} {v:Value} (r:Nat) (hr:lr res r=some (v,.box T [.rd R x])) (hs:Sp R x es) (k:GL P os (Sta Γ l ((r,some (v,.box T es))::res)) rest N m):GL P os (Sta Γ l res) rest N m:=fun a w ha=>k a w (ha.split r hr hs)
theorem zks {α:Type} {R:Rep α} (x:α) {es:List Ent} {T:TypeId} {v:Value} (r:Nat) (hr:lr res r=some (v,.box T es)) (hs:Sp R x es) (k:GL P os (Sta Γ l ((r,some (v,.box T [.rd R x]))::res)) rest N m):GL P os (Sta Γ l res) rest N m:=fun a w ha=>k a w (ha.join r hr hs)
theorem znn {α:Type} (R:Rep α) {es:List Ent} (es':List Ent) {T:TypeId} {v:Value} (r:Nat) (pre post:List Ent) (hr:lr res r=some (v,.box T es)) (h1:es=pre++.val (.slice none 0 0)::post) (h2:es'=pre++.rd (z02 R) []::post) (k:GL P os (Sta Γ l ((r,some (v,.box T es'))::res)) rest N m):GL P os (Sta Γ l res) rest N m:=fun a w ha=>k a w (ha.partNil R r pre post hr h1 h2)
theorem zuy {α:Type} {R:Rep α} {b:List α} {es:List Ent} (es':List Ent) {T E:TypeId} {v u:Value} (r q:Nat) (pre post:List Ent) (hne:(r==q)=false) (hr:lr res r=some (v,.box T es)) (hq:lr res q=some (u,.list R E b)) (h1:es=pre++.val u::post) (h2:es'=pre++.rd (z02 R) b::post) (k:GL P os (Sta Γ l ((r,some (v,.box T es'))::(q,none)::res)) rest N m):GL P os (Sta Γ l res) rest N m:=fun a w ha=>k a w (ha.partOwn r q pre post (by simpa using hne) hr hq h1 h2)
theorem gJoi {α:Type} {R:Rep α} (x:α) {es:List Ent} {T:TypeId} {v:Value} (r:Nat) (hr:lr res r=some (v,.box T es)) (hs:Sp R x es) (k:G ro P (Sta Γ l ((r,some (v,.box T [.rd R x]))::res)) c Q m):G ro P (Sta Γ l res) c Q m:=fun a w ha=>k a w (ha.join r hr hs)
theorem gPnl {α:Type} (R:Rep α) {es:List Ent} (es':List Ent) {T:TypeId} {v:Value} (r:Nat) (pre post:List Ent) (hr:lr res r=some (v,.box T es)) (h1:es=pre++.val (.slice none 0 0)::post) (h2:es'=pre++.rd (z02 R) []::post) (k:G ro P (Sta Γ l ((r,some (v,.box T es'))::res)) c Q m):G ro P (Sta Γ l res) c Q m:=fun a w ha=>k a w (ha.partNil R r pre post hr h1 h2)
theorem gPow {α:Type} {R:Rep α} {b:List α} {es:List Ent} (es':List Ent) {T E:TypeId} {v u:Value} (r q:Nat) (pre post:List Ent) (hne:(r==q)=false) (hr:lr res r=some (v,.box T es)) (hq:lr res q=some (u,.list R E b)) (h1:es=pre++.val u::post) (h2:es'=pre++.rd (z02 R) b::post) (k:G ro P (Sta Γ l ((r,some (v,.box T es'))::(q,none)::res)) c Q m):G ro P (Sta Γ l res) c Q m:=fun a w ha=>k a w (ha.partOwn r q pre post (by simpa using hne) hr hq h1 h2)
theorem eSpl {α:Type} {R:Rep α} {x:α} {es:List Ent} {T:TypeId} {v:Value} (r:Nat) (hr:lr res r=some (v,.box T [.rd R x])) (hs:Sp R x es) (k:GE (Sta Γ l ((r,some (v,.box T es))::res)) e Q m):GE (Sta Γ l res) e Q m:=fun a w ha=>k a w (ha.split r hr hs)
theorem eJoi {α:Type} {R:Rep α} (x:α) {es:List Ent} {T:TypeId} {v:Value} (r:Nat) (hr:lr res r=some (v,.box T es)) (hs:Sp R x es) (k:GE (Sta Γ l ((r,some (v,.box T [.rd R x]))::res)) e Q m):GE (Sta Γ l res) e Q m:=fun a w ha=>k a w (ha.join r hr hs)
theorem ePnl {α:Type} (R:Rep α) {es:List Ent} (es':List Ent) {T:TypeId} {v:Value} (r:Nat) (pre post:List Ent) (hr:lr res r=some (v,.box T es)) (h1:es=pre++.val (.slice none 0 0)::post) (h2:es'=pre++.rd (z02 R) []::post) (k:GE (Sta Γ l ((r,some (v,.box T es'))::res)) e Q m):GE (Sta Γ l res) e Q m:=fun a w ha=>k a w (ha.partNil R r pre post hr h1 h2)
end
def zef (l:z3a) (place:Nat→Option (Nat × Nat)):List (Nat × Operand)→List Ent→List Ent→Prop
 | [],es,es'=>es=es'
 | (i,o)::ps,es,es'=>∃ (e:Ent) (off n:Nat) (es1:List Ent),opE l o=some e∧place i=some (off,n)∧e.fills n∧z18 es off n e es1∧zef l place ps es1 es'
theorem zef.done {l:z3a} {place:Nat→Option (Nat × Nat)} {es es':List Ent} (h:es=es'):zef l place [] es es':=h
theorem zef.cons {l:z3a} {place:Nat→Option (Nat × Nat)} {i:Nat} {o:Operand} {ps:List (Nat × Operand)} {e:Ent} {off n:Nat} {es es1 es':List Ent} (h:opE l o=some e) (hp:place i=some (off,n)) (hf:e.fills n) (hs:z18 es off n e es1) (k:zef l place ps es1 es'):zef l place ((i,o)::ps) es es':=⟨e,off,n,es1,h,hp,hf,hs,k⟩
theorem z18.put {es es':List Ent} {k n:Nat} {e:Ent} {S:Blk} {w:World} (h:z18 es k n e es') {vs:List Value} {v:Value} (hv:e.holds S w v) (hn:v.cells.size=n) (hvs:z3j S w es vs):∃ vs',z3j S w es' vs'∧(za4 vs').toArray=spl (za4 vs).toArray k v.cells.toList∧k+n≤(za4 vs).length:=by
 obtain ⟨pre,post,e0,rfl,rfl,hn0,hk⟩:=h
 obtain ⟨us,ts,rfl,h5,h6⟩:=hvs.app
 match ts,h6 with
 | y0::ts,⟨h7,h8⟩ =>
  have hl:=hk _ _ _ h5
  have hy0:y0.cells.toList.length=n:=by have:=hn0 _ _ _ h7; simpa using this
  refine ⟨us++v::ts,h5.mk ⟨hv,h8⟩,?_, by simp only [zl7,z41,List.length_append]; omega⟩
  subst hl
  unfold spl; congr 1
  have:v.cells.toList.length=n:=by simpa using hn
  simp only [zl7,z41,this]
  rw [show ∀ A B Cc:List Value,A.length+n=(A++B).length→List.drop (A.length+n) (A++(B++Cc))=Cc by
   intro A B Cc h; rw [h,← List.append_assoc,List.drop_left']; rfl]
  ·
   simp
  ·
   simp [hy0]
theorem zef.get {Γ:Ctx} {l:z3a} {res:Res} {a:Act} {w:World} (ha:Sta Γ l res a w) {place:Nat→Option (Nat × Nat)}:∀ {ps:List (Nat × Operand)} {es es':List Ent} {vs:List Value},zef l place ps es es'→z3j (Shr Γ.H res w) w es vs →
  ∃ vs',Instr.fill place (za4 vs).toArray (ps.map fun p=>(p.1,a.eval p.2))=some (za4 vs').toArray∧z3j (Shr Γ.H res w) w es' vs'
 | [],es,es',vs,h,hv=>by have h:es=es':=h; subst h; exact ⟨vs,rfl,hv⟩
 | (i,o)::ps,es,es',vs,h,hv=>by
  obtain ⟨e,off,n,es1,h1,h2,h3,h4,h5⟩:=h
  have hy:=ha.vl h1
  have hyn:(a.eval o).cells.size=n:=h3 _ _ _ hy
  obtain ⟨vs1,k1,k2,k3⟩:=h4.put hy hyn hv
  obtain ⟨vs',q1,q2⟩:=zef.get ha h5 k1
  refine ⟨vs',?_,q2⟩
  simp only [List.map_cons]
  rw [zlu h2 hyn (by simpa using k3),← k2]; exact q1
def z0e (es:List Ent) (n:Nat):Prop:=∀ S w vs,z3j S w es vs→(za4 vs).length=n
theorem z0e.nil:z0e [] 0:=fun S w vs h=>by match vs,h with | [],_=>rfl
theorem z0e.cons {e:Ent} {es:List Ent} {n k:Nat} (h:e.fills n) (p:z0e es k):z0e (e::es) (n+k):=fun S w vs hh=>by
 match vs,hh with
 | v::vs,⟨h1,h2⟩=>rw [z41,List.length_append,p S w vs h2]; have:=h S w v h1; simp [this]
def z3l (es:List Ent):Prop:=∀ S w vs,z3j S w es vs→∀ u∈za4 vs,u.oneCell'=true
theorem z3l.nil:z3l []:=fun S w vs h u hu=>by match vs,h with | [],_=>simp [za4] at hu
theorem z3l.cons {e:Ent} {es:List Ent} (h:e.ones) (p:z3l es):z3l (e::es):=fun S w vs hh u hu=>by
 match vs,hh with
 | v::vs,⟨h1,h2⟩ =>
  rw [z41] at hu
  rcases List.mem_append.1 hu with k | k
  ·
   exact h S w v h1 u k
  ·
   exact p S w vs h2 u k
section
variable {C:World→World→Prop} {P:Program} {Γ:Ctx} {l:z3a} {res:Res} {d:Tmp} {ty:TypeId} {pos:String} {after:Array Edge} {g:Option (Nat × Bool)}
theorem zsp {es0 es':List Ent} {T:TypeId} {z:Value} {sz by_:Nat} {parts:Array (Nat × Operand)} {fs:Array Field} (pl:List (Nat × Nat)) (hT:P.underlying T=some (.struct fs)) (hI:TI P T z sz by_) (hz:zjk z es0)
  (hp:fs.toList.map (fun f=>(f.offset,(P.info? f.type).map (·.size)))=pl.map (fun p=>(p.1,some p.2))) (h:zef l (fun i:Nat=>pl[i]?) parts.toList es0 es'):Run C P Γ l res ⟨some d,.build T parts,ty,pos,after,g⟩ (.agg es'):=fun a w ha=>by
 obtain ⟨vs,hv1,hv2⟩:=hz (Shr Γ.H res w) w
 obtain ⟨vs',h1,h2⟩:=h.get ha hv2
 rw [hv1,Array.toArray_toList] at h1
 refine ⟨.agg (za4 vs').toArray, fun w' _=>zl9 rfl ?_,vs',h2,rfl⟩
 have e1:(fs.mapM (m:=Sem) fun f=>do pure (f.offset,← sizeOf f.type)).run P w'=.ok pl.toArray w':=by
  rw [← Array.toArray_toList (xs:=fs),List.mapM_toArray]
  simp only [map_eq_pure_bind,Sem.run_bind,zki fs.toList pl hp,Result.andThen,Sem.run_pure]
 have e2:(parts.map fun (i,x)=>(i,a.eval x)).toList=parts.toList.map fun p=>(p.1,a.eval p.2):=by simp
 unfold Instr.build
 simp only [Sem.run_bind,ze3 hI,Result.andThen,run_underlying hT,e1,e2]
 have e3:(fun i:Nat=>pl.toArray[i]?)=fun i:Nat=>pl[i]? := by funext i; simp
 rw [e3,h1]; rfl
theorem zsq {t T:TypeId} {x y:Operand} {v z:Value} {by_ n:Nat} {es es':List Ent} (r:Nat) (hx:opE l x=some (.val (z09 v 0))) (hr:lr res r=some (v,.box T es)) (h0:z0e es n)
  (hy:opE l y=some (.agg es')) (h1e:z3l es') (hn:z0e es' n) (hS:TI P t z n by_):EffS P Γ l res ⟨none,.store t x y,ty,pos,after,g⟩ r (v,.box T es'):=fun a w ha=>by
 have h1:=(ha.vl hx).1
 obtain ⟨ys,hy1,hy2⟩:=ha.vl hy
 rcases ha.conts r v _ hr with h2 | ⟨b,o,h2,h3,b',vs,rfl,rfl,h4⟩
 ·
  exact h2.elim
 ·
  simp only [z5c,Option.some.injEq] at h2
  subst h2
  rw [zin] at h1
  have hB:Bx w b' (za4 vs).toArray T:=h3
  have hyc:(a.eval y).cells=(za4 ys).toArray:=by rw [hy2]; rfl
  have hyn:(a.eval y).cells.size=n:=by rw [hyc]; simp [hn _ _ _ hy1]
  have hl:=h0 _ _ _ h4
  have hrun:=zk2 (P:=P) (w:=w) (b:=b') (o:=0) (v:=a.eval y) hS hyn (by rw [hyc]; simpa using h1e _ _ _ hy1) hB (by simp [hl])
  have hsp:spl (za4 vs).toArray 0 (a.eval y).cells.toList=(za4 ys).toArray:=by
   rw [hyc]
   have:=hn _ _ _ hy1
   unfold spl; simp [this,hl]
  rw [hsp] at hrun
  refine ⟨w.setRow b' (za4 ys).toArray,?_,?_,some b',z9j b' _, fun b hb=>⟨_,_,hr, by cases hb; rfl⟩⟩
  ·
   simp [execOp,h1,Instr.storeAt,Instr.sureAddr,hrun]
  ·
   exact ha.upd r (z9j b' _) (fun b hb=>⟨_,_,hr, by cases hb; rfl⟩) (fun b hb=>.inl ⟨_,_,hr,hb⟩) (fun S' k'=>.inr ⟨b',_,rfl,setRow_heap w b' _ _ T _ hB,b',ys,rfl,rfl,hy1.mono k'⟩)
def ZrE (cs:List Value) (es:List Ent):Prop:=∀ S w,∃ vs,za4 vs=cs∧z3j S w es vs
theorem ZrE.nil:ZrE [] []:=fun S w=>⟨[],rfl,trivial⟩
theorem ZrE.rd {α:Type} {R:Rep α} {x:α} {c d cs:List Value} {es:List Ent} (h:Zr R c x) (k:ZrE d es) (e:c++d=cs):ZrE cs (.rd R x::es):=fun S w=>by
 obtain ⟨vs,h1,h2⟩:=k S w
 exact ⟨R.val c::vs, by rw [z41,Rep.val_cells (h S w),h1,e],⟨c,h S w,rfl⟩,h2⟩
theorem ZrE.nilS {d:List Value} {es:List Ent} (k:ZrE d es):ZrE (.slice none 0 0::d) (.val (.slice none 0 0)::es):=fun S w=>by
 obtain ⟨vs,h1,h2⟩:=k S w
 exact ⟨.slice none 0 0::vs, by rw [z41,h1]; rfl,⟨rfl,rfl⟩,h2⟩
theorem Foc.cast {α:Type} {c:z5w} {k k':Nat} {R:Rep α} {x:α} {upd:α→z5w} (f:Foc c k' R x upd) (h:k'=k):Foc c k R x upd:=h ▸ f
theorem At.cast {es:List Ent} {k k':Nat} {e:Ent} (f:At es k' e) (h:k'=k):At es k e:=h ▸ f
theorem z18.cast {es es':List Ent} {k k' n:Nat} {e:Ent} (f:z18 es k' n e es') (h:k'=k):z18 es k n e es':=h ▸ f
theorem z0e.cast {es:List Ent} {n n':Nat} (f:z0e es n') (h:n'=n):z0e es n:=h ▸ f
end
end
section
open Go Go.RowKit
section
variable {S:Blk} {w:World} {v:Value} {T:TypeId}
theorem zud {α:Type} {R:Rep α} {x:α} {es:List Ent} (hs:Sp R x es) (h:(z5w.box T [.rd R x]).holds S w v):(z5w.box T es).holds S w v:=by
 rcases h with h | ⟨b,o,h1,h2,b',vs,rfl,rfl,h3⟩
 ·
  exact h.elim
 ·
  match vs,h3 with
  | [u],⟨⟨cs,k1,k2⟩,_⟩ =>
   subst k2
   obtain ⟨vs',k3,k4⟩:=(hs.2 _ w cs).1 k1
   exact .inr ⟨b,_,h1,h2,b',vs',rfl, by rw [k4]; simp [za4,Rep.val_cells k1],k3⟩
theorem zy8 {α:Type} {R:Rep α} {x:α} {es:List Ent} (hs:Sp R x es) (h:(z5w.box T es).holds S w v):(z5w.box T [.rd R x]).holds S w v:=by
 rcases h with h | ⟨b,o,h1,h2,b',vs,rfl,rfl,h3⟩
 ·
  exact h.elim
 ·
  have k1:=(hs.2 _ w (za4 vs)).2 ⟨vs,h3,rfl⟩
  exact .inr ⟨b,_,h1,h2,b',[R.val (za4 vs)],rfl, by rw [show za4 [R.val (za4 vs)]=za4 vs by rw [z41,Rep.val_cells k1]; simp [za4]],⟨_,k1,rfl⟩,trivial⟩
theorem z106 {α:Type} (R:Rep α) {es es' pre post:List Ent} (h1:es=pre++.val (.slice none 0 0)::post) (h2:es'=pre++.rd (z02 R) []::post) (h:(z5w.box T es).holds S w v):(z5w.box T es').holds S w v:=by
 rcases h with h | ⟨b,o,k1,k2,b',vs,rfl,rfl,k3⟩
 ·
  exact h.elim
 ·
  exact .inr ⟨b,_,k1,k2,b',vs,rfl,rfl,z18.holds h1 h2 (fun v hv=>zkg R hv) k3⟩
end
section
variable {ρ:Type} {P:Program} {Γ:Ctx} {l l0:z3a} {res res0:Res} {ws:List Nat} {m:Option ρ} {os:List Oper} {N:ρ→Exit→Act→World→Prop} {fuel i:Nat} {listed:Array Bool} {a:Act} {w0 w:World}
theorem SH.recont (h:SH Γ l0 res0 ws l res a w0 w) (r:Nat) {v:Value} {c c':z5w} (hr:lr res r=some (v,c)) (hc:c'.holds (Shr Γ.H res w) w v):SH Γ l0 res0 ws l ((r,some (v,c'))::res) a w0 w:=by
 have hu:=h.s.upd r (v:=v) (c:=c') (wr:=none) Ext.rfl'.gb (by simp) (fun b hb=>.inl ⟨v,c,hr,hb⟩) (fun S' k'=>hc.mono k' (fun b hb=>rfl))
 refine ⟨h.s0,hu.1,h.cw,h.st.tr hu.2, fun r2 v2 c2 b2 h1 h2 h3=>?_⟩
 rw [z1x] at h2
 split at h2
 ·
  rename_i e; subst e; cases h2; exact h.wsp _ v c b2 h1 hr h3
 ·
  exact h.wsp r2 v2 c2 b2 h1 h2 h3
theorem aNil {α:Type} {R:Rep α} {l:z3a} {o:Operand} {os:List Operand} {ps:List Ent} (h:opE l o=some (.val (.slice none 0 0))) (k:zax l os ps):zax l (o::os) (.rd (z02 R) []::ps):=⟨⟨_,h, fun _ _ _ h=>zkg R h⟩,k⟩
theorem hSpl {α:Type} {R:Rep α} {x:α} {es:List Ent} {T:TypeId} {v:Value} (r:Nat) (hr:lr res r=some (v,.box T [.rd R x])) (hs:Sp R x es) (k:GH P os Γ l0 res0 ws l ((r,some (v,.box T es))::res) N fuel listed m):GH P os Γ l0 res0 ws l res N fuel listed m:=fun a w0 w ha=>k a w0 w (ha.recont r hr (zud hs (ha.s.conts r v _ hr)))
theorem hJoi {α:Type} {R:Rep α} (x:α) {es:List Ent} {T:TypeId} {v:Value} (r:Nat) (hr:lr res r=some (v,.box T es)) (hs:Sp R x es) (k:GH P os Γ l0 res0 ws l ((r,some (v,.box T [.rd R x]))::res) N fuel listed m):GH P os Γ l0 res0 ws l res N fuel listed m:=fun a w0 w ha=>k a w0 w (ha.recont r hr (zy8 hs (ha.s.conts r v _ hr)))
theorem hPnl {α:Type} (R:Rep α) {es:List Ent} (es':List Ent) {T:TypeId} {v:Value} (r:Nat) (pre post:List Ent) (hr:lr res r=some (v,.box T es)) (h1:es=pre++.val (.slice none 0 0)::post) (h2:es'=pre++.rd (z02 R) []::post) (k:GH P os Γ l0 res0 ws l ((r,some (v,.box T es'))::res) N fuel listed m):GH P os Γ l0 res0 ws l res N fuel listed m:=fun a w0 w ha=>k a w0 w (ha.recont r hr (z106 R h1 h2 (ha.s.conts r v _ hr)))
end
end
section
open Go Go.RowKit
variable {ro:Option Nat}
def z5w.glob {α:Type} (g:Nat) (R:Rep α) (x:α):z5w where
 nil S w v:=v=.bool true∧(Ent.rp R x).holds S w (.pointer (some ⟨g,0,none⟩))
 nilm k h:=⟨h.1,(Ent.rp R x).mono k h.2⟩
 nilb h:=by rw [h.1]; rfl
 rel _ _ _ _:=False
 mono _ h:=h
section
variable {C:World→World→Prop} {P:Program} {Γ:Ctx} {l:z3a} {res:Res} {d:Tmp} {ty:TypeId} {pos:String} {after:Array Edge} {g:Option (Nat × Bool)}
theorem z117 {α:Type} {gl:Nat} {R:Rep α} {x:α} {v:Value} {a:Act} {w:World} (ha:Sta Γ l res a w) (r:Nat) (hr:lr res r=some (v,.glob gl R x)):(Ent.rp R x).holds (Shr Γ.H res w) w (.pointer (some ⟨gl,0,none⟩)):=by
 rcases ha.conts r v _ hr with h | ⟨b,o,_,_,h⟩
 ·
  exact h.2
 ·
  exact h.elim
theorem ixG {α β:Type} {n:Nat} {R:Rep α} {b:Vector α n} {y:α} {k:IntKind} {f:β→Int} {j:β} {z':Operand} {T e:TypeId} {z v:Value} {by_ gl:Nat} (r:Nat) (hr:lr res r=some (v,.glob gl (z06 n R) b)) (hj:opE l z'=some (.rd (za8 k f) j)) (hy:z86 b (f j)=some y) (hT:P.underlying T=some (.array n e)) (hE:TI P e z R.sz by_) :
  Run C P Γ l res ⟨some d,.indexAddr T (.global gl) z',ty,pos,after,g⟩ (.rp R y):=fun a w ha=>by
 obtain ⟨b',o,h1,h2⟩:=(z6d.el hy).ptr (z117 ha r hr)
 obtain ⟨k1,k3⟩:=zny hy
 have hj':a.eval z'=.int k ((f j).toNat:Int):=by rw [z4x (ha.vl hj)]; congr 1; omega
 have hx:a.eval (.global gl)=.pointer (some ⟨gl,0,none⟩):=rfl
 exact ⟨_, fun w' _=>zfn hT hE (hx.trans h1) hj' rfl k3 rfl,h2⟩
end
theorem z12j {ρ:Type} {P:Program} {A:Asn} {c:Code} {Q:ρ→Exit→Act→World→Prop}:G ro P A c Q none:=fun a w ha r hr=>by cases hr
section
variable {ρ:Type} {P:Program} {Γ:Ctx} {l l0:z3a} {res res0:Res} {ws:List Nat} {m m1 m2:Option ρ} {os:List Oper} {N:ρ→Exit→Act→World→Prop}
 {d:Tmp} {op:Op} {ty:TypeId} {pos:String} {after:Array Edge} {g:Option (Nat × Bool)} {fuel i:Nat} {listed listed':Array Bool} {rest:List Oper}
theorem z125 {σ:Type} {f:FuncId} {F:Func} {b:Code} {args:List Operand} {ats:Array TypeId} {x:Operand} {cap:List Value} {pin pa pc:List Ent} {rin:Res} {m1:Option σ} {q:σ→(Nat→Value)→zmu} {kk:σ→Option ρ} (i:Nat) (ns:List Nat) (mp:List (Nat × Nat)) (e0:σ→(Nat→Value)→Ent)
  (hi:os.toArray[i]? = some ⟨some d,.call ⟨.value x,args.toArray,ats⟩,ty,pos,after,g⟩) (hrd:Region.ready .any os.toArray listed=[i]) (hl:listed.setIfInBounds i true=listed') (hg:Grd os l ⟨some d,.call ⟨.value x,args.toArray,ats⟩,ty,pos,after,g⟩ true) (hn:Nat.blt d Γ.n=true)
  (hF:P.funcs[f]? = some F) (hB:F.body=some b) (hnm:(F.name == "runtime.NumGoroutine")=false) (hx:opE l x=some (.val (.func (.func f) #[] cap.toArray))) (hS:z27 P f pin rin m1 q) (hA:zax l args pa) (hC:zu1 res cap pc) (hpp:pin=pa++pc) (hr:zct res rin ns) (hw:ns.all (fun n=>ws.contains n)=true)
  (he0:∀ s nv v S w S' w',(zkx (q s nv).ret).holds S w v→(e0 s nv).holds S' w' v)
  (k:∀ s nv,GH P os Γ ((d,e0 s nv)::l0) res0 ws ((d,zkx (q s nv).ret)::l) (aft ns mp (q s nv).res res) N fuel listed' (kk s)) :
  GH P os Γ l0 res0 ws l res N (fuel+1) listed (m1 >>= kk):=fun a w0 w ha r hm=>by
 subst hpp
 cases hm1:m1 with
 | none=>rw [hm1] at hm; cases hm
 | some s =>
  rw [hm1] at hm
  refine wpAnyH_all hrd (by simp) (fun j hj=>?_)
  simp only [List.mem_singleton] at hj
  subst hj
  have hgw:=hg.wanted ha.s
  unfold wpOp
  simp only [hi,hgw,if_true]
  refine .inl ?_
  have hrun:(execOp a.eval ⟨some d,.call ⟨.value x,args.toArray,ats⟩,ty,pos,after,g⟩).run P w=.ok (.enter f (args.map a.eval++cap).toArray) w:=by
   simp [execOp,resolve,(ha.s.vl hx).1,Deferred.ofValue,invoke,zen hF hB hnm,← Array.append_assoc]
  unfold Oper.wp; rw [hrun]
  simp only [Oper.upon]
  have hH:∀ b,(fun b=>Γ.H b∨∃ r v c,lr res r=some (v,c)∧ns.contains r=false∧z5c v=some b) b↔Γ.H b∨∃ r v c,lr res r=some (v,c)∧ns.contains r=false∧z5c v=some b:=fun _=>Iff.rfl
  obtain ⟨h1,h2⟩:=zoe.of ha.s hr hH
  refine (hS s hm1 _ _ w ((zax.get ha.s h2 hA).mk (zu1.get ha.s hC)) h1).mono fun e w' hR=>?_
  obtain ⟨nv,vs,rfl,hp⟩:=hR
  obtain ⟨⟨h3,h5⟩,h4,h6⟩:=ha.s.called (mp:=mp) hr hH hp
  have hlent:∀ b,Bof rin b→(∃ r0 v0 c0,ws.contains r0=true∧lr res0 r0=some (v0,c0)∧z5c v0=some b)∨w0.heap.size≤b:=fun b ⟨r',v,c,q1,q2⟩=>by
   obtain ⟨n,q3,q4⟩:=hr.get q1
   have hn':ws.contains n=true:=by simpa using (List.all_eq_true.1 hw) n q3
   exact ha.wsp n v c b hn' q4 q2
  have hcw:CW res0 ws w0 w':=by
   refine zld.tr ha.cw hp.keep (fun b hb=>⟨Nat.lt_of_lt_of_le hb.1 ha.cw.size, fun hB=>?_⟩)
   rcases hlent b hB with ⟨r0,v0,c0,q1,q2,q3⟩ | q1
   ·
    exact hb.2 r0 v0 c0 q1 q2 q3
   ·
    have:=hb.1; omega
  refine ⟨hcw,?_⟩
  rw [hl]
  refine k s nv _ w0 w' (SH.put ⟨ha.s0,h3,hcw,ha.st.tr h5, fun r2 v2 c2 b2 k1 k2 k3=>?_⟩ hn (he0 s nv _ _ _ _ _ h4) h4) r hm
  rcases zjb k2 with ⟨k',q1,q2⟩ | ⟨q1,q2⟩
  ·
   rcases hp.own k' v2 c2 q2 b2 k3 with q3 | q3
   ·
    exact .inr (Nat.le_trans ha.cw.size q3)
   ·
    exact hlent b2 q3
  ·
   exact ha.wsp r2 v2 c2 b2 k1 q2 k3
theorem zrw {σ:Type} {f:FuncId} {F:Func} {b:Code} {args:List Operand} {ats:Array TypeId} {x:Operand} {cap:List Value} {pin pa pc:List Ent} {rin:Res} {m1:Option σ} {q:σ→(Nat→Value)→zmu} {kk:σ→Option ρ} (i:Nat) (ns:List Nat) (mp:List (Nat × Nat))
  (hi:os.toArray[i]? = some ⟨some d,.call ⟨.value x,args.toArray,ats⟩,ty,pos,after,g⟩) (hrd:Region.ready .any os.toArray listed=[i]) (hl:listed.setIfInBounds i true=listed') (hg:Grd os l ⟨some d,.call ⟨.value x,args.toArray,ats⟩,ty,pos,after,g⟩ true) (hn:Nat.blt d Γ.n=true)
  (hF:P.funcs[f]? = some F) (hB:F.body=some b) (hnm:(F.name == "runtime.NumGoroutine")=false) (hx:opE l x=some (.val (.func (.func f) #[] cap.toArray))) (hS:z27 P f pin rin m1 q) (hA:zax l args pa) (hC:zu1 res cap pc) (hpp:pin=pa++pc) (hr:zct res rin ns) (hw:ns.all (fun n=>ws.contains n)=true)
  (hfl:∀ s nv,(zkx (q s nv).ret).flat) (k:∀ s nv,GH P os Γ ((d,zkx (q s nv).ret)::l0) res0 ws ((d,zkx (q s nv).ret)::l) (aft ns mp (q s nv).res res) N fuel listed' (kk s)) :
  GH P os Γ l0 res0 ws l res N (fuel+1) listed (m1 >>= kk):=z125 i ns mp (fun s nv=>zkx (q s nv).ret) hi hrd hl hg hn hF hB hnm hx hS hA hC hpp hr hw (fun s nv v S w S' w' h=>hfl s nv S w S' w' v h) k
end
end
section
open Go Go.RowKit Go.ChangeShapes
section
variable {P:Program} {w:World} {H:Type} {enc:TypeId × Value→H}
theorem zyl {base:Nat} {spare:Nat→Bool} {held:Bool} {fuel:Nat} {T e:TypeId} {n:Nat} {k:IntKind} {cs:List Value} {ds:List Int} {p:List MemPlace} (hT:P.underlying T=some (.array n e)) (he:P.underlying e=some (.int k)) (hc:P.cellsOf e=1) (hl:P.cellsOf T=n)
  (h:DataW.trod enc P w base spare held fuel T cs=some (.agg (ds.map fun i=>.lit (.int k i)),p)):cs=ds.map (fun i=>Value.int k i):=by
 obtain ⟨xs,m,-,hx,hlen,hxl,hi⟩:=DataW.trod_array hT h
 simp only [Prod.mk.injEq,DataW.agg.injEq] at hx
 have hx:=hx.1
 have hlen2:ds.length=n:=by have:=congrArg List.length hx; simpa [hxl] using this
 rw [hc] at hi
 apply List.ext_getElem
 ·
  rw [hlen,hl]; simp [hlen2]
 ·
  intro i h1 h2
  have hin:i<n:=by rw [hlen,hl] at h1; exact h1
  have h3:=hi i hin
  rw [List.getElem?_eq_getElem (by omega)] at h3
  obtain ⟨v,e1,e2,-⟩:=DataW.trod_int he h3
  have e3:(cs.drop (i * 1)).take 1=[cs[i]]:=by rw [Nat.mul_one,List.drop_eq_getElem_cons h1]; rfl
  rw [e3] at e1
  have e4:cs[i]=.int k v:=by simpa using e1
  have e5:(xs.map (·.1))[i]'(by simp; omega)=.lit (.int k v):=by simp [e2]
  have e6:(xs.map (·.1))[i]'(by simp; omega)=.lit (.int k (ds[i]'(by omega))):=by simp [← hx]
  rw [e5] at e6
  have e7:v=ds[i]'(by omega):=by simpa using e6
  rw [e4,e7]; simp
theorem zmg {α:Type} {k:IntKind} {f:α→Int} {S:Blk}:∀ l:List α,z7o (za8 k f) S w (l.map fun x=>Value.int k (f x)) l
 | []=>rfl
 | x::l=>⟨[.int k (f x)],_,rfl,rfl,zmg l⟩
theorem zw2 {nm:String} {d:DataW Unit} {g:Nat} {T e:TypeId} {n:Nat} {k:IntKind} {α:Type} {f:α→Int} {x:Vector α n} (h:laidMetH P [(nm,d)] w) (hp:([(nm,d)].all fun x=>x.2.handleName?.isNone)=true) (hg:P.globalNamed nm=some g) (ht:(P.globals[g]?).map (·.type)=some T)
  (hT:P.underlying T=some (.array n e)) (he:P.underlying e=some (.int k)) (hc:P.cellsOf e=1) (hl:P.cellsOf T=n) (hn:0<n) (hd:d=.agg ((x.toList.map f).map fun i=>.lit (.int k i))):(Ent.rp (z06 n (za8 k f)) x).holds (zs7 w) w (.pointer (some ⟨g,0,none⟩)):=by
 rw [MakeChecks.laidMetH_plain _ _ _ hp] at h
 obtain ⟨ps,⟨g0,t0,cs0,f0,p0,q0,hg0,ht0,hv0,hd0,_,_⟩,_,_⟩:=h
 obtain rfl:=Option.some.inj (hg.symm.trans hg0)
 obtain rfl:=Option.some.inj (ht.symm.trans ht0)
 rw [hd] at hd0
 have hcs:=zyl hT he hc hl hd0
 have hcell:∀ (j:Nat) (u:Value),cs0.toList[j]? = some u→w.cell? ⟨g,0+j,none⟩=some u:=fun j u hu=>by
  rw [Nat.zero_add,World.var?_cell hg hv0 j]; simpa using hu
 refine ⟨g,0,cs0.toList,rfl,?_,?_,hcell⟩
 ·
  have hz:cs0.toList.length=n:=by rw [hcs]; simp
  have h0:cs0.toList[0]? = some (cs0.toList[0]'(by omega)):=List.getElem?_eq_getElem (by omega)
  exact ⟨World.block_lt_of_cell? w ⟨g,0+0,none⟩ (hcell 0 _ h0), fun r v c h=>by simp [lr,lk] at h, fun h=>h⟩
 ·
  show z7o (za8 k f) (zs7 w) w cs0.toList x.toList
  rw [hcs,List.map_map]
  exact zmg x.toList
theorem z27.lawG {f:FuncId} {pin:List Ent} {rin:Res} {m:Option Bool} {vs:List Value} {W:World} (hS:z27 P f pin rin m (fun r nv=>⟨[.rd z0n r],rin⟩)) (hm:m=some true) (hv:z3j (zs7 W) W pin vs)
  (hb:∀ r v c,lr rin r=some (v,c)→z5c v=none) (hc:∀ r v c,lr rin r=some (v,c)→c.holds (zs7 W) W v) :
  Calls P f vs.toArray W (fun e W'=>e=.returned (.bool true)∧Ext W W'):=by
 have hno:∀ b,¬ Bof rin b:=fun b ⟨r,v,c,h,h2⟩=>by rw [hb r v c h] at h2; cases h2
 have hst:zch (zs7 W) (Shr (fun _=>False) rin W) W W:=fun b hb'=>⟨⟨hb'.1, fun r v c h e=>(by rw [hb r v c h] at e; cases e), fun h=>h⟩,rfl⟩
 refine (hS true hm (fun _=>False) vs W (hv.mono hst) ⟨fun r v c h=>(hc r v c h).mono hst (fun _ _=>rfl), fun r v c r' v' c' h _ _ b h2=>(by rw [hb r v c h] at h2; cases h2), fun b h=>h.elim⟩).mono fun e W' h=>?_
 obtain ⟨nv,us,rfl,hp⟩:=h
 match us,hp.ret with
 | [u],⟨h1,_⟩ =>
  obtain ⟨cs,h2,h3⟩:=h1
  have h2:cs=[.bool true]:=h2
  subst h2
  refine ⟨?_,hp.keep.os,hp.keep.tape,hp.keep.output,hp.keep.size, fun b hb=>hp.keep.block b ⟨hb,hno b⟩⟩
  show Ending.returned u=_
  rw [h3]; rfl
end
end
section
open Go Go.RowKit
section
variable {P:Program}
def EqR {α:Type} [DecidableEq α] (P:Program) (T:TypeId) (R:Rep α) (k:Nat):Prop :=
 ∀ (d:Nat),k≤d→∀ (S:Blk) (w:World) (c c':List Value) (x y:α),R.rel S w c x→R.rel S w c' y→∀ w',(Op.equalIn d T (R.val c) (R.val c')).run P w'=.ok (decide (x=y)) w'
theorem EqR.num {α:Type} [DecidableEq α] {T:TypeId} {k:IntKind} {f:α→Int} (hT:P.underlying T=some (.int k)) (hf:∀ x y,f x=f y→x=y):EqR P T (za8 k f) 1:=fun d hd S w c c' x y h h' w'=>by
 have h:c=[.int k (f x)]:=h
 have h':c'=[.int k (f y)]:=h'
 subst h; subst h'
 obtain ⟨n,rfl⟩:∃ n,d=n+1:=⟨d - 1, by omega⟩
 show (Op.equalIn (n+1) T (.int k (f x)) (.int k (f y))).run P w'=_
 rw [Go.run_equalIn_int w' n T k k _ _ hT]
 congr 1
 by_cases e:x=y
 ·
  subst e; simp
 ·
  rw [decide_eq_false e]; exact beq_false_of_ne (fun h=>e (hf _ _ h))
theorem EqR.i64 {T:TypeId} (hT:P.underlying T=some (.int .i64)):EqR P T z0k 1:=EqR.num hT (fun _ _ h=>h)
theorem EqR.u8 {T:TypeId} (hT:P.underlying T=some (.int .u8)):EqR P T u8R 1:=EqR.num hT (fun _ _ h=>UInt8.toNat_inj.1 (Int.ofNat.inj h))
theorem EqR.u32 {T:TypeId} (hT:P.underlying T=some (.int .u32)):EqR P T z1c 1:=EqR.num hT (fun _ _ h=>UInt32.toNat_inj.1 (Int.ofNat.inj h))
theorem EqR.u64 {T:TypeId} (hT:P.underlying T=some (.int .u64)):EqR P T z2r 1:=EqR.num hT (fun _ _ h=>UInt64.toNat_inj.1 (Int.ofNat.inj h))
theorem EqR.str {T:TypeId} (hT:P.underlying T=some .string):EqR P T zhp 1:=fun d hd S w c c' x y h h' w'=>by
 obtain ⟨s,rfl,rfl⟩:=h
 obtain ⟨t,rfl,rfl⟩:=h'
 obtain ⟨n,rfl⟩:∃ n,d=n+1:=⟨d - 1, by omega⟩
 show (Op.equalIn (n+1) T (.string s) (.string t)).run P w'=_
 rw [Go.run_equalIn_string w' n T _ _ hT,z9e,z9e]
 congr 1
 rw [Bool.eq_iff_iff]; simp
theorem zfu {α:Type} {R:Rep α} {S:Blk} {w:World} {T:TypeId} {x:α} {a c d:List Value} {xs:Array Value} (hx:xs.toList=a++c++d) (hr:R.rel S w c x) (hT:zdm P T R.agg R.sz) (w':World):(part T xs a.length).run P w'=.ok (R.val c) w':=by
 have hlen:=R.len hr
 unfold part
 unfold zdm at hT
 unfold Rep.val
 cases ha:R.agg with
 | true =>
  rw [ha,if_pos rfl] at hT
  obtain ⟨⟨ds,h1,h2⟩,z,by_,h3⟩:=hT
  have hag:(isAgg T).run P w'=.ok true w':=by
   cases ds <;> simp only at h2 <;> simp [isAgg,run_underlying h1]
  have he:xs.extract a.length (a.length+R.sz)=c.toArray:=by
   apply Array.toList_inj.1
   rw [Array.toList_extract,hx,List.extract_eq_take_drop,List.append_assoc,List.drop_left',← hlen]
   ·
    simp
   ·
    rfl
  simp only [Sem.run_bind,hag,Result.andThen,if_true,z2w h3,Sem.run_pure,he]
  rfl
 | false =>
  rw [ha,if_neg (by simp)] at hT
  obtain ⟨ds,h1,h2⟩:=hT
  have hag:(isAgg T).run P w'=.ok false w':=by
   cases ds <;> simp only at h2 <;> simp [isAgg,run_underlying h1]
  rw [R.scal ha] at hlen
  match c,hlen with
  | [u],_ =>
   have he:xs[a.length]? = some u:=by rw [← Array.getElem?_toList,hx]; simp
   simp only [Sem.run_bind,hag,Result.andThen,Bool.false_eq_true,if_false,he,Sem.run_pure]
   rfl
theorem EqR.items {α:Type} [DecidableEq α] {R:Rep α} {e:TypeId} {k d:Nat} (hE:EqR P e R k) (hk:k≤d) (hT:zdm P e R.agg R.sz) {S:Blk} {w:World} {xs ys:Array Value} {l m:List α} (hx:z7o R S w xs.toList l) (hy:z7o R S w ys.toList m) (w':World):∀ (is:List Nat),(∀ i∈is,i<l.length∧i<m.length) →
  (Op.eqItems d e R.sz xs ys is).run P w'=.ok (is.all fun i=>decide (l[i]? = m[i]?)) w'
 | [],_=>rfl
 | i::is,h=>by
  obtain ⟨h1,h2⟩:=h i (by simp)
  obtain ⟨a,c,dd,e1,e2,e3,-⟩:=hx.split (List.getElem?_eq_getElem h1)
  obtain ⟨a',c',dd',f1,f2,f3,-⟩:=hy.split (List.getElem?_eq_getElem h2)
  have ih:=EqR.items hE hk hT hx hy w' is (fun j hj=>h j (by simp [hj]))
  have p1:=zfu (P:=P) e1 e3 hT w'
  have p2:=zfu (P:=P) f1 f3 hT w'
  rw [e2] at p1
  rw [f2] at p2
  have p3:=hE d hk S w c c' _ _ e3 f3 w'
  simp only [Op.eqItems,Sem.run_bind,p1,p2,p3,Result.andThen]
  rw [List.all_cons,List.getElem?_eq_getElem h1,List.getElem?_eq_getElem h2]
  by_cases hc:l[i]=m[i]
  ·
   simp [hc,ih]
  ·
   simp [hc,Sem.run_pure]
theorem EqR.arr {α:Type} [DecidableEq α] {R:Rep α} {T e:TypeId} {n k:Nat} {z:Value} {by_:Nat} (hE:EqR P e R k) (hT:P.underlying T=some (.array n e)) (hI:TI P e z R.sz by_) (hTy:zdm P e R.agg R.sz):EqR P T (z06 n R) (k+1):=fun d hd S w c c' x y h h' w'=>by
 obtain ⟨d',rfl⟩:∃ d',d=d'+1:=⟨d - 1, by omega⟩
 obtain ⟨i,hi,-,hs,-⟩:=hI
 have hc:P.cellsOf e=R.sz:=by unfold Program.cellsOf; rw [hi]; simpa using hs
 show (Op.equalIn (d'+1) T (.agg c.toArray) (.agg c'.toArray)).run P w'=_
 rw [Go.run_equalIn_array w' d' c.toArray c'.toArray hT hi,hc,EqR.items hE (by omega) hTy (l:=x.toList) (m:=y.toList) h h' w' (List.range n) (fun i hi=>by simpa using hi)]
 congr 1
 by_cases hxy:x=y
 ·
  subst hxy; simp
 ·
  rw [decide_eq_false hxy]
  refine Bool.eq_false_iff.2 fun h2=>hxy ?_
  apply Vector.toList_inj.1
  apply List.ext_getElem?
  intro i
  by_cases hi:i<n
  ·
   have:=List.all_eq_true.1 h2 i (by simpa using hi)
   exact of_decide_eq_true this
  ·
   rw [List.getElem?_eq_none (by simp; omega),List.getElem?_eq_none (by simp; omega)]
def EqF {γ:Type} [DecidableEq γ] (P:Program) (fs:List Field) (o:Nat) (R:Rep γ) (k:Nat):Prop :=
 ∀ (d:Nat),k≤d→∀ (S:Blk) (w:World) (xs ys:Array Value) (x y:γ) (a a':List Value),xs.toList=a++xs.toList.drop o→ys.toList=a'++ys.toList.drop o→a.length=o→a'.length=o→R.rel S w (xs.toList.drop o) x→R.rel S w (ys.toList.drop o) y→∀ w',(Op.eqFields d xs ys fs).run P w'=.ok (decide (x=y)) w'
theorem EqF.nil {o:Nat}:EqF P [] o zjq 0:=fun d hd S w xs ys x y a a' _ _ _ _ h h' w'=>by simp [Op.eqFields,Sem.run_pure]
theorem EqF.cons {α β:Type} [DecidableEq α] [DecidableEq β] {R:Rep α} {R2:Rep β} {f:Field} {fs:List Field} {o k k2:Nat} (h1:EqR P f.type R k) (hT:zdm P f.type R.agg R.sz) (ho:f.offset=o) (hn:(f.name == "_")=false) (h2:EqF P fs (o+R.sz) R2 k2):EqF P (f::fs) o (z8t R R2) (max k k2):=fun d hd S w xs ys x y a a' hx hy ha ha' h h' w'=>by
 obtain ⟨c,r,e1,e2,e3⟩:=h
 obtain ⟨c',r',f1,f2,f3⟩:=h'
 have hlc:=R.len e2
 have hlc':=R.len f2
 have hdx:xs.toList.drop (o+R.sz)=r:=by rw [← List.drop_drop,e1,← hlc]; simp
 have hdy:ys.toList.drop (o+R.sz)=r':=by rw [← List.drop_drop,f1,← hlc']; simp
 have p1:=zfu (P:=P) (xs:=xs) (a:=a) (c:=c) (d:=r) (by rw [List.append_assoc,← e1]; exact hx) e2 hT w'
 have p2:=zfu (P:=P) (xs:=ys) (a:=a') (c:=c') (d:=r') (by rw [List.append_assoc,← f1]; exact hy) f2 hT w'
 rw [ha] at p1
 rw [ha'] at p2
 have p3:=h1 d (by omega) S w c c' x.1 y.1 e2 f2 w'
 have ih:=h2 d (by omega) S w xs ys x.2 y.2 (a++c) (a'++c') (by rw [hdx,List.append_assoc,← e1]; exact hx) (by rw [hdy,List.append_assoc,← f1]; exact hy) (by simp [ha,hlc]) (by simp [ha',hlc']) (by rw [hdx]; exact e3) (by rw [hdy]; exact f3) w'
 have hne:f.name ≠ "_" := by simpa using hn
 simp only [Op.eqFields,if_pos hne,Sem.run_bind,ho,p1,p2,p3,Result.andThen]
 by_cases hc:x.1=y.1
 ·
  simp only [hc,decide_true,Bool.not_true,Bool.false_eq_true,if_false,ih]
  congr 1
  rw [decide_eq_decide]
  exact ⟨fun h=>Prod.ext hc h, fun h=>by rw [h]⟩
 ·
  have hxy:x≠y:=fun h=>hc (by rw [h])
  simp [hc,hxy,Sem.run_pure]
theorem EqR.struct {β γ:Type} [DecidableEq β] [DecidableEq γ] {R:Rep γ} {g:β→γ} {T:TypeId} {fs:Array Field} {k:Nat} (hF:EqF P fs.toList 0 R k) (hT:P.underlying T=some (.struct fs)) (hp:P.stoodInHeld T=false) (hg:∀ x y,g x=g y→x=y) (hag:R.agg=true):EqR P T (zqu g R) (k+1):=fun d hd S w c c' x y h h' w'=>by
 obtain ⟨d',rfl⟩:∃ d',d=d'+1:=⟨d - 1, by omega⟩
 have hfs:P.fieldsOf T=fs:=by simp [Program.fieldsOf,hT]
 have e1:(zqu g R).val c=.agg c.toArray:=by simp [Rep.val,zqu,hag]
 have e2:(zqu g R).val c'=.agg c'.toArray:=by simp [Rep.val,zqu,hag]
 rw [e1,e2,Go.run_equalIn_struct w' d' T _ _ (by rw [hfs]; exact hT) hp,hfs]
 rw [hF d' (by omega) S w c.toArray c'.toArray (g x) (g y) [] [] (by simp) (by simp) rfl rfl (by simpa using (show R.rel S w c (g x) from h)) (by simpa using (show R.rel S w c' (g y) from h')) w']
 congr 1
 rw [decide_eq_decide]
 exact ⟨fun h=>hg _ _ h, fun h=>by rw [h]⟩
end
section
variable {C:World→World→Prop} {P:Program} {Γ:Ctx} {l:z3a} {res:Res} {d:Tmp} {ty:TypeId} {pos:String} {after:Array Edge} {g:Option (Nat × Bool)}
theorem eqA {α:Type} [DecidableEq α] {R:Rep α} {T T':TypeId} {x y:Operand} {a b:α} {k:Nat} (hx:opE l x=some (.rd R a)) (hy:opE l y=some (.rd R b)) (hE:EqR P T R k) (hk:Nat.ble k 10000=true) (hag:R.agg=true) (hg:P.eqGuardType P.depth T=false):Run C P Γ l res ⟨some d,.binOp .eql T x y T',ty,pos,after,g⟩ (.rd z0n (decide (a=b))):=fun f w ha=>by
 obtain ⟨c,h1,h2⟩:=ha.vl hx
 obtain ⟨c',h3,h4⟩:=ha.vl hy
 have e1:f.eval x=.agg c.toArray:=by rw [h2]; simp [Rep.val,hag]
 have e2:f.eval y=.agg c'.toArray:=by rw [h4]; simp [Rep.val,hag]
 refine ⟨_, fun w' _=>zfr (v:=.bool (decide (a=b))) ?_ ?_,zbb⟩
 ·
  rw [e1,e2]; exact Go.run_eqGuard_agg w' .eql T x y _ _ hg
 ·
  have:=hE 10000 (Nat.le_of_ble_eq_true hk) _ w c c' a b h1 h3 w'
  rw [show R.val c=.agg c.toArray by simp [Rep.val,hag], show R.val c'=.agg c'.toArray by simp [Rep.val,hag]] at this
  rw [e1,e2,Go.run_eql_struct,this]; rfl
theorem neA {α:Type} [DecidableEq α] {R:Rep α} {T T':TypeId} {x y:Operand} {a b:α} {k:Nat} (hx:opE l x=some (.rd R a)) (hy:opE l y=some (.rd R b)) (hE:EqR P T R k) (hk:Nat.ble k 10000=true) (hag:R.agg=true) (hg:P.eqGuardType P.depth T=false):Run C P Γ l res ⟨some d,.binOp .neq T x y T',ty,pos,after,g⟩ (.rd z0n (!decide (a=b))):=fun f w ha=>by
 obtain ⟨c,h1,h2⟩:=ha.vl hx
 obtain ⟨c',h3,h4⟩:=ha.vl hy
 have e1:f.eval x=.agg c.toArray:=by rw [h2]; simp [Rep.val,hag]
 have e2:f.eval y=.agg c'.toArray:=by rw [h4]; simp [Rep.val,hag]
 refine ⟨_, fun w' _=>zfr (v:=.bool (!decide (a=b))) ?_ ?_,zbb⟩
 ·
  rw [e1,e2]; exact Go.run_eqGuard_agg w' .neq T x y _ _ hg
 ·
  have:=hE 10000 (Nat.le_of_ble_eq_true hk) _ w c c' a b h1 h3 w'
  rw [show R.val c=.agg c.toArray by simp [Rep.val,hag], show R.val c'=.agg c'.toArray by simp [Rep.val,hag]] at this
  rw [e1,e2,Go.run_neq_struct,this]; rfl
end
end
section
open Go Go.RowKit
section
variable {κ β:Type} [DecidableEq κ]
def zj8:List (κ × β)→κ→Option β
 | [],_=>none
 | p::m,k=>if k=p.1 then some p.2 else zj8 m k
def zqw:List (κ × β)→κ→β→List (κ × β)
 | [],k,v=>[(k,v)]
 | p::m,k,v=>if k=p.1 then (p.1,v)::m else p::zqw m k v
def mdel:List (κ × β)→κ→List (κ × β)
 | [],_=>[]
 | p::m,k=>if k=p.1 then m else p::mdel m k
end
structure zoa {κ:Type} [DecidableEq κ] (P:Program) (T:TypeId) (R:Rep κ) (k:Nat):Prop where
 one:∀ {S w S' w' cs cs' x},R.rel S w cs x→R.rel S' w' cs' x→cs=cs'
 chk:∀ {S w cs x},R.rel S w cs x→∀ d,k≤d→∀ e w',(Instr.checkKey e d T (R.val cs)).run P w'=.ok () w'
 bits:∀ {S w cs x},R.rel S w cs x→∀ d,k≤d→Instr.sameBits d (R.val cs) (R.val cs)=true
 eq:EqR P T R k
 deep:Nat.ble k 10000=true
 find:∃ de,P.underlying T=some de∧((∀ v v',Instr.sameNow de v v'=none)∨∀ {S w cs cs' x y},R.rel S w cs x→R.rel S w cs' y→Instr.sameNow de (R.val cs) (R.val cs')=some (decide (x=y)))
section
variable {P:Program}
theorem zoa.num {α:Type} [DecidableEq α] {T:TypeId} {k:IntKind} {f:α→Int} (hT:P.underlying T=some (.int k)) (hf:∀ x y,f x=f y→x=y):zoa P T (za8 k f) 1 where
 one h h':=by
  have h:_=[Value.int k _]:=h
  have h':_=[Value.int k _]:=h'
  rw [h,h']
 chk h d hd e w':=by
  have h:_=[Value.int k _]:=h
  subst h
  obtain ⟨n,rfl⟩:∃ n,d=n+1:=⟨d - 1, by omega⟩
  show (Instr.checkKey e (n+1) T (.int k _)).run P w'=_
  simp [Instr.checkKey,run_underlying hT]
 bits h d hd:=by
  have h:_=[Value.int k _]:=h
  subst h
  show Instr.sameBits d (.int k _) (.int k _)=true
  cases d <;> simp [Instr.sameBits]
 eq:=EqR.num hT hf
 deep:=rfl
 find:=⟨_,hT,.inr fun {S w cs cs' x y} h h'=>by
  have h:_=[Value.int k _]:=h
  have h':_=[Value.int k _]:=h'
  subst h; subst h'
  show Instr.sameNow (.int k) (.int k (f x)) (.int k (f y))=_
  simp only [Instr.sameNow,if_true,Option.some.injEq]
  by_cases e:x=y
  ·
   subst e; simp
  ·
   rw [decide_eq_false e]; exact beq_false_of_ne (fun h=>e (hf _ _ h))⟩
theorem zoa.u8 {T:TypeId} (hT:P.underlying T=some (.int .u8)):zoa P T u8R 1:=zoa.num hT (fun _ _ h=>UInt8.toNat_inj.1 (Int.ofNat.inj h))
theorem z7o.one' {α:Type} {R:Rep α} (h1:∀ {S w S' w' cs cs' x},R.rel S w cs x→R.rel S' w' cs' x→cs=cs') {S w S' w'}:∀ {l:List α} {cs cs'},z7o R S w cs l→z7o R S' w' cs' l→cs=cs'
 | [],cs,cs',h,h'=>by simp only [z7o] at h h'; rw [h,h']
 | x::l,cs,cs',h,h'=>by
  obtain ⟨c,d,rfl,h2,h3⟩:=h
  obtain ⟨c',d',rfl,h2',h3'⟩:=h'
  rw [h1 h2 h2',z7o.one' h1 h3 h3']
theorem z7o.bits {α:Type} [DecidableEq α] {R:Rep α} {T:TypeId} (hK:zoa P T R 1) (hag:R.agg=false) {S w}:∀ {l:List α} {cs},z7o R S w cs l→∀ u∈cs,∀ d,1≤d→Instr.sameBits d u u=true
 | [],cs,h,u,hu=>by simp only [z7o] at h; subst h; simp at hu
 | x::l,cs,h,u,hu=>by
  obtain ⟨c,d,rfl,h2,h3⟩:=h
  rcases List.mem_append.1 hu with hu | hu
  ·
   have hl:=R.len h2
   rw [R.scal hag] at hl
   match c,hl with
   | [v],_ =>
    simp only [List.mem_singleton] at hu
    subst hu
    intro d hd
    have:=hK.bits h2 d hd
    simpa [Rep.val,hag] using this
  ·
   exact z7o.bits hK hag h3 u hu
theorem zoa.arr {α:Type} [DecidableEq α] {R:Rep α} {T e:TypeId} {n:Nat} {z:Value} {by_:Nat} (hK:zoa P e R 1) (hT:P.underlying T=some (.array n e)) (hI:TI P e z R.sz by_) (hTy:zdm P e R.agg R.sz) (hag:R.agg=false):zoa P T (z06 n R) 2 where
 one h h':=z7o.one' hK.one h h'
 chk {S w cs x} h d hd em w':=by
  obtain ⟨d',rfl⟩:∃ d',d=d'+1:=⟨d - 1, by omega⟩
  show (Instr.checkKey em (d'+1) T (.agg cs.toArray)).run P w'=_
  rw [Instr.checkKey]
  simp only [Sem.run_bind,run_underlying hT,Result.andThen_ok]
  simp only [Std.Legacy.Range.forIn_eq_forIn_range',Std.Legacy.Range.size,Nat.sub_zero,Nat.add_one_sub_one,Nat.div_one]
  have each:∀ i∈List.range' 0 n,i<x.toList.length:=fun i hi=>by simpa using hi
  generalize List.range' 0 n=is at each
  induction is with
  | nil=>simp
  | cons j is ih =>
   have hj:=each j (by simp)
   obtain ⟨a,c,dd,e1,e2,e3,-⟩:=z7o.split h (List.getElem?_eq_getElem hj)
   have p1:=zfu (P:=P) (xs:=cs.toArray) (by simpa using e1) e3 hTy w'
   rw [e2] at p1
   have p2:=hK.chk e3 d' (by omega) em w'
   simp only [List.forIn_cons,Sem.run_bind,z2w hI,Result.andThen_ok,p1,p2,Sem.run_pure]
   exact ih (fun y hy=>each y (by simp [hy]))
 bits {S w cs x} h d hd:=by
  obtain ⟨d',rfl⟩:∃ d',d=d'+1:=⟨d - 1, by omega⟩
  show Instr.sameBits (d'+1) (.agg cs.toArray) (.agg cs.toArray)=true
  have hb:=z7o.bits hK hag h
  simp only [Instr.sameBits,beq_self_eq_true,Bool.true_and,List.all_eq_true]
  intro p hp
  obtain ⟨u,v⟩:=p
  have huv:u=v∧u∈cs:=by
   have:∀ (l:List Value) (u v:Value),(u,v)∈l.zip l→u=v∧u∈l:=by
    intro l
    induction l with
    | nil=>intro u v h; simp at h
    | cons y l ih =>
     intro u v h
     simp only [List.zip_cons_cons,List.mem_cons,Prod.mk.injEq] at h
     rcases h with ⟨rfl,rfl⟩ | h
     ·
      simp
     ·
      obtain ⟨h1,h2⟩:=ih u v h
      exact ⟨h1, by simp [h2]⟩
   exact this _ _ _ (by simpa using hp)
  obtain ⟨rfl,hu⟩:=huv
  exact hb u hu d' (by omega)
 eq:=EqR.arr hK.eq hT hI hTy
 deep:=rfl
 find:=⟨_,hT,.inl fun v v'=>by cases v <;> cases v' <;> rfl⟩
end
def zmw {κ β:Type} (RK:Rep κ) (RV:Rep β) (S:Blk) (w:World):List MapEntry→List (κ × β)→Prop
 | [],[]=>True
 | e::es,p::l=>(RK.vrel S w e.key p.1∧RV.vrel S w e.val p.2)∧zmw RK RV S w es l
 | _,_=>False
theorem zmw.mono {κ β:Type} {RK:Rep κ} {RV:Rep β} {S S' w w'} (k:zch S S' w w'):∀ {es l},zmw RK RV S w es l→zmw RK RV S' w' es l
 | [],[],_=>trivial
 | e::es,p::l,h=>⟨⟨h.1.1.mono k,h.1.2.mono k⟩,zmw.mono k h.2⟩
 | [],_::_,h=>h.elim
 | _::_,[],h=>h.elim
theorem zmw.push {κ β:Type} {RK:Rep κ} {RV:Rep β} {S w}:∀ {es:List MapEntry} {m:List (κ × β)} {e:MapEntry} {k:κ} {x:β},zmw RK RV S w es m→RK.vrel S w e.key k→RV.vrel S w e.val x→zmw RK RV S w (es++[e]) (m++[(k,x)])
 | [],[],e,k,x,_,h1,h2=>⟨⟨h1,h2⟩,trivial⟩
 | e'::es,p::m,e,k,x,h,h1,h2=>⟨h.1,zmw.push h.2 h1 h2⟩
 | [],_::_,_,_,_,h,_,_=>h.elim
 | _::_,[],_,_,_,h,_,_=>h.elim
def zx7 (es:List MapEntry) (clock:Nat):Prop:=(es.map (·.born)).Nodup∧∀ e∈es,e.born<clock
theorem zx7.push {es:List MapEntry} {c:Nat} {e:MapEntry} (h:zx7 es c) (he:e.born=c):zx7 (es++[e]) (c+1):=by
 refine ⟨?_, fun x hx=>?_⟩
 ·
  rw [List.map_append,List.nodup_append]
  refine ⟨h.1, by simp, fun a ha b hb=>?_⟩
  simp only [List.mem_map] at ha
  obtain ⟨x,hx,rfl⟩:=ha
  simp only [List.map_cons,List.map_nil,List.mem_singleton] at hb
  have:=h.2 x hx
  omega
 ·
  rcases List.mem_append.1 hx with hx | hx
  ·
   have:=h.2 x hx; omega
  ·
   simp only [List.mem_singleton] at hx; subst hx; omega
theorem zx7.modify {es:List MapEntry} {c j:Nat} {f:MapEntry→MapEntry} (h:zx7 es c) (hf:∀ e,(f e).born=e.born):zx7 (es.modify j f) c:=by
 have e1:(es.modify j f).map (·.born)=es.map (·.born):=by
  apply List.ext_getElem?
  intro i
  simp only [List.getElem?_map,List.getElem?_modify]
  cases es[i]? with
  | none=>rfl
  | some x=>by_cases h:j=i <;> simp [h,hf]
 refine ⟨by rw [e1]; exact h.1, fun x hx=>?_⟩
 have:x.born∈(es.modify j f).map (·.born):=List.mem_map.2 ⟨x,hx,rfl⟩
 rw [e1] at this
 obtain ⟨y,hy,e2⟩:=List.mem_map.1 this
 have:=h.2 y hy
 omega
def mapR {κ β:Type} (RK:Rep κ) (RV:Rep β):Rep (List (κ × β)) where
 sz:=1
 agg:=false
 rel S w cs m:=∃ b es clock,cs=[.map (some b)]∧S b∧w.heap[b]? = some (.map es clock)∧zmw RK RV S w es.toList m∧zx7 es.toList clock
 len h:=by obtain ⟨b,es,clock,rfl,_⟩:=h; rfl
 one h:=by obtain ⟨b,es,clock,rfl,_⟩:=h; intro u hu; simp at hu; subst hu; rfl
 scal _:=rfl
 mono k h:=by
  obtain ⟨b,es,clock,h1,h2,h3,h4,h5⟩:=h
  exact ⟨b,es,clock,h1,(k b h2).1,(k b h2).2.trans h3,h4.mono k,h5⟩
def z5w.map {κ β:Type} (RK:Rep κ) (RV:Rep β) (m:List (κ × β)):z5w where
 nil _ _ _:=False
 nilm _ h:=h
 nilb h:=h.elim
 rel S w v o:=∃ b es clock,v=.map (some b)∧o=.map es clock∧zmw RK RV S w es.toList m∧zx7 es.toList clock
 mono k h:=by obtain ⟨b,es,clock,h1,h2,h3,h4⟩:=h; exact ⟨b,es,clock,h1,h2,h3.mono k,h4⟩
theorem zs9 {κ β:Type} {RK:Rep κ} {RV:Rep β} {m S w v} (h:(z5w.map RK RV m).holds S w v):∃ b es clock,v=.map (some b)∧w.heap[b]? = some (.map es clock)∧zmw RK RV S w es.toList m∧zx7 es.toList clock:=by
 rcases h with h | ⟨b,o,h1,h2,b',es,clock,rfl,rfl,h3,h4⟩
 ·
  exact h.elim
 ·
  simp only [z5c,Option.some.injEq] at h1
  subst h1
  exact ⟨_,es,clock,rfl,h2,h3,h4⟩
theorem znx {κ β:Type} {RK:Rep κ} {RV:Rep β} {m S w} {b:Nat} {es:Array MapEntry} {clock:Nat} (h1:w.heap[b]? = some (.map es clock)) (h2:zmw RK RV S w es.toList m) (h3:zx7 es.toList clock):(z5w.map RK RV m).holds S w (.map (some b)) :=
 .inr ⟨b,_,rfl,h1,b,es,clock,rfl,rfl,h2,h3⟩
section
variable {P:Program} {κ β:Type} [DecidableEq κ] {RK:Rep κ} {RV:Rep β} {K:TypeId} {n:Nat}
def fnd (k:κ):List MapEntry→List (κ × β)→Nat→Option (Nat × Value)
 | e::es,p::m,i=>if k=p.1 then some (i,e.val) else fnd k es m (i+1)
 | _,_,_=>none
theorem znd (hK:zoa P K RK n) {S:Blk} {w:World} {k:κ} {v:Value} (hv:RK.vrel S w v k) (w':World):∀ {es:List MapEntry} {m:List (κ × β)} (i:Nat),zmw RK RV S w es m→(Instr.findAsking K v es i).run P w'=.ok (fnd k es m i) w'
 | [],[],i,_=>by simp [Instr.findAsking,fnd]
 | e::es,p::m,i,h=>by
  obtain ⟨cs,h1,rfl⟩:=hv
  obtain ⟨cs',h2,h3⟩:=h.1.1
  have hq:=hK.eq 10000 (Nat.le_of_ble_eq_true hK.deep) S w cs cs' k p.1 h1 h2 w'
  have hq:(Op.equal K (RK.val cs) e.key).run P w'=.ok (decide (k=p.1)) w':=by rw [h3]; exact hq
  simp only [Instr.findAsking,Sem.run_bind,hq,Result.andThen,fnd]
  by_cases hk:k=p.1
  ·
   simp [hk]
  ·
   simp [hk,znd hK ⟨cs,h1,rfl⟩ w' (i+1) h.2]
 | [],_::_,i,h=>h.elim
 | _::_,[],i,h=>h.elim
theorem zs4 {de:TypeDesc} {S:Blk} {w:World} (hs:∀ {S w cs cs' x y},RK.rel S w cs x→RK.rel S w cs' y→Instr.sameNow de (RK.val cs) (RK.val cs')=some (decide (x=y))) {k:κ} {v:Value} (hv:RK.vrel S w v k):∀ {es:List MapEntry} {m:List (κ × β)} (i:Nat),zmw RK RV S w es m→Instr.findNow de v es i=some (fnd k es m i)
 | [],[],i,_=>by simp [Instr.findNow,fnd]
 | e::es,p::m,i,h=>by
  obtain ⟨cs,h1,rfl⟩:=hv
  obtain ⟨cs',h2,h3⟩:=h.1.1
  have hq:=hs h1 h2
  rw [← h3] at hq
  simp only [Instr.findNow,hq,fnd]
  by_cases hk:k=p.1
  ·
   simp [hk]
  ·
   simp [hk,zs4 hs ⟨cs,h1,rfl⟩ (i+1) h.2]
 | [],_::_,i,h=>h.elim
 | _::_,[],i,h=>h.elim
theorem zsl (hK:zoa P K RK n) {S:Blk} {w:World} {k:κ} {v:Value} (hv:RK.vrel S w v k) (w':World) {es:List MapEntry} {m:List (κ × β)} (h:zmw RK RV S w es m):(Instr.findKey K v es).run P w'=.ok (fnd k es m 0) w':=by
 obtain ⟨de,h1,h2⟩:=hK.find
 unfold Instr.findKey
 simp only [Sem.run_bind,run_underlying h1,Result.andThen]
 rcases h2 with h2 | h2
 ·
  match es,m,h with
  | [],[],_=>simp [Instr.findNow,fnd]
  | e::es,p::m,h =>
   have:Instr.findNow de v (e::es) 0=none:=by simp [Instr.findNow,h2]
   simp only [this]
   exact znd hK hv w' 0 h
 ·
  rw [zs4 h2 hv 0 h]; rfl
theorem zo6 {k:κ}:∀ {es:List MapEntry} {m:List (κ × β)} {i:Nat} {S w},zmw RK RV S w es m→fnd k es m i=none→zj8 m k=none∧(∀ x,zqw m k x=m++[(k,x)])∧mdel m k=m
 | [],[],i,S,w,_,_=>⟨rfl, fun _=>rfl,rfl⟩
 | e::es,p::m,i,S,w,h,h0=>by
  simp only [fnd] at h0
  split at h0
  ·
   cases h0
  ·
   rename_i hk
   obtain ⟨h1,h2,h3⟩:=zo6 h.2 h0
   refine ⟨by simp [zj8,hk,h1], fun x=>by simp [zqw,hk,h2], by simp [mdel,hk,h3]⟩
 | [],_::_,i,_,_,h,_=>h.elim
 | _::_,[],i,_,_,h,_=>h.elim
theorem zo8 {k:κ}:∀ {es:List MapEntry} {m:List (κ × β)} {i j:Nat} {u:Value} {S w},zmw RK RV S w es m→fnd k es m i=some (j,u) →
  i≤j∧∃ e x,es[j - i]? = some e∧e.val=u∧zj8 m k=some x∧RV.vrel S w e.val x∧RK.vrel S w e.key k ∧
   (∀ S' w' v y,zch S S' w w'→RV.vrel S' w' v y→zmw RK RV S' w' (es.modify (j - i) fun e=>{ e with val:=v }) (zqw m k y)) ∧
   zmw RK RV S w (es.eraseIdx (j - i)) (mdel m k)
 | e::es,p::m,i,j,u,S,w,h,h0=>by
  simp only [fnd] at h0
  split at h0
  ·
   rename_i hk
   simp only [Option.some.injEq,Prod.mk.injEq] at h0
   obtain ⟨rfl,rfl⟩:=h0
   refine ⟨Nat.le_refl _,e,p.2, by simp,rfl, by simp [zj8,hk],h.1.2, by rw [hk]; exact h.1.1, fun S' w' v y st hv=>?_,?_⟩
   ·
    simp only [Nat.sub_self,List.modify_zero_cons,zqw,hk,if_true]
    exact ⟨⟨h.1.1.mono st,hv⟩,h.2.mono st⟩
   ·
    simp only [Nat.sub_self,List.eraseIdx_cons_zero,mdel,hk,if_true]
    exact h.2
  ·
   rename_i hk
   obtain ⟨h1,e',x,h2,h3,h4,h5,h6,h7,h8⟩:=zo8 h.2 h0
   have hj:j - i=(j - (i+1))+1:=by omega
   refine ⟨by omega,e',x, by rw [hj]; simpa using h2,h3, by simp [zj8,hk,h4],h5,h6, fun S' w' v y st hv=>?_,?_⟩
   ·
    rw [hj,List.modify_succ_cons]
    simp only [zqw,hk,if_false]
    exact ⟨⟨h.1.1.mono st,h.1.2.mono st⟩,h7 S' w' v y st hv⟩
   ·
    rw [hj,List.eraseIdx_cons_succ]
    simp only [mdel,hk,if_false]
    exact ⟨h.1,h8⟩
 | [],[],i,j,u,_,_,_,h0=>by cases h0
 | [],_::_,i,j,u,_,_,h,_=>h.elim
 | _::_,[],i,j,u,_,_,h,_=>h.elim
end
section
variable {C:World→World→Prop} {ρ:Type} {P:Program} {Γ:Ctx} {l:z3a} {res:Res} {m:Option ρ} {os rest:List Oper} {N:ρ→Exit→Act→World→Prop}
 {d:Tmp} {ty:TypeId} {pos:String} {after:Array Edge} {g:Option (Nat × Bool)} {κ β:Type}
theorem zjp {w:World} {b:Nat} {o:Obj}:w.grownBy { w with heap:=w.heap.setIfInBounds b o } (some b):=by
 refine ⟨rfl,rfl,rfl, by simp, fun k hk hne=>?_⟩
 have hne:k≠b:=fun e=>hne (by rw [e])
 simp only []
 rw [Array.getElem?_setIfInBounds_ne (fun e=>hne e.symm)]
theorem mkm (RK:Rep κ) (RV:Rep β) (r:Nat) {hint:Option Operand} {T K V:TypeId} (hh:hint=none∨∃ y n,hint=some y∧opE l y=some (.rd z0k n)) (hT:P.underlying T=some (.map K V)):Eff P Γ l res ⟨some d,.makeMap T hint,ty,pos,after,g⟩ r (fun v=>(v,.map RK RV [])):=fun a w ha=>by
 have hrun:(execOp a.eval ⟨some d,.makeMap T hint,ty,pos,after,g⟩).run P w=.ok (.value (.map (some w.heap.size))) (w.alloc (.map #[] 0)):=by
  rcases hh with rfl | ⟨y,n,rfl,hy⟩
  ·
   rfl
  ·
   have e1:=z4x (ha.vl hy)
   have e2:(Instr.makeMap T (some (a.eval y))).run P w=.ok (.map (some w.heap.size)) (w.alloc (.map #[] 0)):=by
    rw [e1]
    unfold Instr.makeMap
    simp only [Sem.run_bind,run_underlying hT,Result.andThen]
    rfl
   simp [execOp,e2]
 exact ⟨_,_,hrun,ha.upd r (c:=.map RK RV []) (v:=.map (some w.heap.size)) (zhq w _) (by simp) (fun bb hbb=>.inr (by simp [z5c] at hbb; omega)) (fun S' k'=>znx (es:=#[]) (clock:=0) (heap_alloc_new _ _) trivial ⟨by simp, by simp⟩),rfl,none,zhq w _, by simp⟩
inductive Mp {κ β:Type} (RK:Rep κ) (RV:Rep β) (res:Res) (ws:List Nat):Ent→List (κ × β)→Prop
 | rd {m:List (κ × β)}:Mp RK RV res ws (.rd (mapR RK RV) m) m
 | own {v:Value} {m:List (κ × β)} (r:Nat) (h:lr res r=some (v,.map RK RV m)) (hw:ws.contains r=false):Mp RK RV res ws (.val v) m
theorem Mp.get {ws:List Nat} [LC C res ws] {RK:Rep κ} {RV:Rep β} {E:Ent} {mm:List (κ × β)} (h:Mp RK RV res ws E mm) {a:Act} {w:World} (ha:Sta Γ l res a w) {v:Value} (hv:E.holds (Shr Γ.H res w) w v) :
  ∃ b es clock,v=.map (some b)∧zmw RK RV (Shr Γ.H res w) w es.toList mm∧∀ w',C w w'→w'.heap[b]? = some (.map es clock):=by
 cases h with
 | rd =>
  obtain ⟨cs,⟨b,es,clock,h1,h2,h3,h4,h5⟩,h6⟩:=hv
  subst h1
  exact ⟨b,es,clock,h6,h4, fun w' hw'=>(CW.shr hw' h2).trans h3⟩
 | own r h hw =>
  obtain ⟨rfl,-⟩:=hv
  obtain ⟨b,es,clock,rfl,h1,h2,h3⟩:=zs9 (ha.conts r _ _ h)
  exact ⟨b,es,clock,rfl,h2, fun w' hw'=>(CW.at hw' ha h rfl hw).trans h1⟩
variable {ro:Option Nat} {A:Asn} {Q:ρ→Exit→Act→World→Prop} {c:Code} {e:Exit} {l0:z3a} {res0:Res} {ws:List Nat} {fuel:Nat} {listed:Array Bool}
theorem EsV {r:Nat} {op:Op} {x:Value × z5w} (he:∀ a w,Sta Γ l res a w→∃ w' u,(execOp a.eval ⟨none,op,ty,pos,after,none⟩).run P w=.ok (.value u) w'∧Sta Γ l ((r,some x)::res) a w')
  (k:GL P os (Sta Γ l ((r,some x)::res)) rest N m):GL P os (Sta Γ l res) (⟨none,op,ty,pos,after,none⟩::rest) N m:=fun a w ha ρ hm=>by
 obtain ⟨w',u,h1,h2⟩:=he a w ha
 exact st (zfy rfl) h1 (k _ w' h2 ρ hm)
variable [DecidableEq κ]
theorem mup' {RK:Rep κ} {RV:Rep β} {mm:List (κ × β)} {x y z:Operand} {v:Value} {k:κ} {b:β} {T K V:TypeId} {n:Nat} {a:Act} {w:World} (ha:Sta Γ l res a w) (r:Nat) (hx:opE l x=some (.val v)) (hr:lr res r=some (v,.map RK RV mm)) (hy:opE l y=some (.rd RK k)) (hz:opE l z=some (.rd RV b)) (hK:zoa P K RK n) (hT:P.underlying T=some (.map K V)) :
  ∃ w',(Instr.mapUpdate T (a.eval x) (a.eval y) (a.eval z)).run P w=.ok () w'∧(Sta Γ l ((r,some (v,.map RK RV (zqw mm k b)))::res) a w'∧zch (Shr Γ.H res w) (Shr Γ.H ((r,some (v,.map RK RV (zqw mm k b)))::res) w') w w')∧zys res r w w':=by
 have e1:=(ha.vl hx).1
 obtain ⟨bk,es,clock,rfl,h1,h2,h3⟩:=zs9 (ha.conts r v _ hr)
 have hy1:=ha.vl hy
 have hz1:=ha.vl hz
 obtain ⟨cs,hk1,hk2⟩:=hy1
 have hck:=hK.chk hk1 10000 (Nat.le_of_ble_eq_true hK.deep) false w
 rw [← hk2] at hck
 have hf:=zsl hK ⟨cs,hk1,hk2⟩ w h2
 have hbi:=hK.bits hk1 10000 (Nat.le_of_ble_eq_true hK.deep)
 rw [← hk2] at hbi
 have hlt:bk<w.heap.size:=(Array.getElem?_eq_some_iff.1 h1).1
 cases hq:fnd k es.toList mm 0 with
 | none =>
  obtain ⟨-,q2,-⟩:=zo6 h2 hq
  refine ⟨{ w with heap:=w.heap.setIfInBounds bk (.map (es.push { key:=a.eval y,val:=a.eval z,born:=clock }) (clock+1)) },?_,?_,some bk,zjp, fun bb hbb=>⟨_,_,hr, by cases hbb; rfl⟩⟩
  ·
   rw [e1]
   unfold Instr.mapUpdate
   simp only [Sem.run_bind,run_underlying hT,Result.andThen,MapKept.run_getObj_map h1,hck,hf,hq,MapKept.run_setObj_map _ h1]
  ·
   refine ha.upd r (v:=.map (some bk)) zjp (fun bb hbb=>⟨_,_,hr, by cases hbb; rfl⟩) (fun bb hbb=>.inl ⟨_,_,hr,hbb⟩) (fun S' k'=>znx (es:=es.push { key:=a.eval y,val:=a.eval z,born:=clock }) (clock:=clock+1) (by simp [hlt]) ?_ ?_)
   ·
    rw [q2 b,Array.toList_push]
    exact (h2.mono k').push (Rep.vrel.mono ⟨cs,hk1,hk2⟩ k') (Rep.vrel.mono hz1 k')
   ·
    rw [Array.toList_push]; exact h3.push rfl
 | some ju =>
  obtain ⟨j,u⟩:=ju
  obtain ⟨-,e,x0,q1,q2,q3,q4,q5,q6,q7⟩:=zo8 h2 hq
  simp only [Nat.sub_zero] at q1 q6
  have hj:es[j]? = some e:=by rw [← Array.getElem?_toList]; exact q1
  have hkey:e.key=a.eval y:=by
   obtain ⟨cs',h4,h5⟩:=q5
   rw [h5,hk2,hK.one h4 hk1]
  have hsame:Instr.sameBits 10000 e.key (a.eval y)=true:=by rw [hkey]; exact hbi
  have hmod:es.modify j (fun e=>{ e with key:=a.eval y,val:=a.eval z })=es.modify j (fun e=>{ e with val:=a.eval z }):=by
   apply Array.toList_inj.1
   rw [Array.toList_modify,Array.toList_modify]
   apply List.ext_getElem?
   intro i
   simp only [List.getElem?_modify]
   by_cases hi:j=i
   ·
    subst hi
    rw [q1]; simp [hkey]
   ·
    simp [hi]
  refine ⟨{ w with heap:=w.heap.setIfInBounds bk (.map (es.modify j fun e=>{ e with val:=a.eval z }) clock) },?_,?_,some bk,zjp, fun bb hbb=>⟨_,_,hr, by cases hbb; rfl⟩⟩
  ·
   rw [e1]
   unfold Instr.mapUpdate
   simp only [Sem.run_bind,run_underlying hT,Result.andThen,MapKept.run_getObj_map h1,hck,hf,hq,hj,Option.map_some,Option.getD_some,Instr.keyThatStays,hsame,if_true,Sem.run_pure]
   rw [hmod,MapKept.run_setObj_map _ h1]
  ·
   refine ha.upd r (v:=.map (some bk)) zjp (fun bb hbb=>⟨_,_,hr, by cases hbb; rfl⟩) (fun bb hbb=>.inl ⟨_,_,hr,hbb⟩) (fun S' k'=>znx (es:=es.modify j fun e=>{ e with val:=a.eval z }) (clock:=clock) (by simp [hlt]) ?_ ?_)
   ·
    rw [Array.toList_modify]
    exact q6 S' _ _ b k' (Rep.vrel.mono hz1 k')
   ·
    rw [Array.toList_modify]; exact h3.modify (fun _=>rfl)
theorem mup {RK:Rep κ} {RV:Rep β} {mm:List (κ × β)} {x y z:Operand} {v:Value} {k:κ} {b:β} {T K V:TypeId} {n:Nat} (r:Nat) (hx:opE l x=some (.val v)) (hr:lr res r=some (v,.map RK RV mm)) (hy:opE l y=some (.rd RK k)) (hz:opE l z=some (.rd RV b)) (hK:zoa P K RK n) (hT:P.underlying T=some (.map K V)) :
  EffS P Γ l res ⟨none,.mapUpdate T x y z,ty,pos,after,g⟩ r (v,.map RK RV (zqw mm k b)):=fun a w ha=>by
 obtain ⟨w',h1,h2,h3⟩:=mup' ha r hx hr hy hz hK hT
 exact ⟨w', by simp [execOp,h1],h2,h3⟩
theorem z12s {ws:List Nat} [LC C res ws] {RK:Rep κ} {RV:Rep β} {E:Ent} {mm:List (κ × β)} {x y:Operand} {k:κ} {x0:β} {T K V:TypeId} {n by_:Nat} {z:Value} (hx:opE l x=some E) (hm:Mp RK RV res ws E mm) (hy:opE l y=some (.rd RK k)) (hK:zoa P K RK n) (hT:P.underlying T=some (.map K V)) (hV:TI P V z RV.sz by_) (hz:Zr RV z.cells.toList x0) (hzv:z=RV.val z.cells.toList) {a:Act} {w:World} (ha:Sta Γ l res a w) :
  ∃ v,RV.vrel (Shr Γ.H res w) w v ((zj8 mm k).getD x0)∧∀ c w',C w w'→(Instr.lookup T (a.eval x) (a.eval y) c).run P w'=.ok (if c then .tuple #[v,.bool (zj8 mm k).isSome] else v) w':=by
 obtain ⟨b,es,clock,h1,h2,h3⟩:=hm.get (C:=C) ha (ha.vl hx)
 obtain ⟨cs,hk1,hk2⟩:=ha.vl hy
 have hck:=fun em w'=>hK.chk hk1 10000 (Nat.le_of_ble_eq_true hK.deep) em w'
 rw [← hk2] at hck
 have hf:=fun w'=>zsl hK ⟨cs,hk1,hk2⟩ w' h2
 cases hq:fnd k es.toList mm 0 with
 | none =>
  obtain ⟨q1,-,-⟩:=zo6 h2 hq
  refine ⟨z,⟨_, by rw [q1]; exact hz _ _,hzv⟩, fun c w' hw'=>?_⟩
  rw [h1,q1]
  unfold Instr.lookup
  simp only [Sem.run_bind,run_underlying hT,Result.andThen,MapKept.run_getObj_map (h3 w' hw'),Sem.run_pure,hck,hf,hq,ze3 hV]
  rfl
 | some ju =>
  obtain ⟨j,u⟩:=ju
  obtain ⟨-,e,x1,q1,q2,q3,q4,q5,q6,q7⟩:=zo8 h2 hq
  refine ⟨u, by rw [q3,← q2]; exact q4, fun c w' hw'=>?_⟩
  rw [h1,q3]
  unfold Instr.lookup
  simp only [Sem.run_bind,run_underlying hT,Result.andThen,MapKept.run_getObj_map (h3 w' hw'),Sem.run_pure,hck,hf,hq]
  rfl
theorem mlk {ws:List Nat} [LC C res ws] {RK:Rep κ} {RV:Rep β} {E:Ent} {mm:List (κ × β)} {x y:Operand} {k:κ} {x0:β} {T K V:TypeId} {n by_:Nat} {z:Value} (hx:opE l x=some E) (hm:Mp RK RV res ws E mm) (hy:opE l y=some (.rd RK k)) (hK:zoa P K RK n) (hT:P.underlying T=some (.map K V)) (hV:TI P V z RV.sz by_) (hz:Zr RV z.cells.toList x0) (hzv:z=RV.val z.cells.toList) :
  Run C P Γ l res ⟨some d,.lookup T x y false,ty,pos,after,g⟩ (.rd RV ((zj8 mm k).getD x0)):=fun a w ha=>by
 obtain ⟨v,h1,h2⟩:=z12s (C:=C) hx hm hy hK hT hV hz hzv ha
 exact ⟨v, fun w' hw'=>by simp [execOp,h2 false w' hw'],h1⟩
theorem mlk2 {ws:List Nat} [LC C res ws] {RK:Rep κ} {RV:Rep β} {E:Ent} {mm:List (κ × β)} {x y:Operand} {k:κ} {x0:β} {T K V:TypeId} {n by_:Nat} {z:Value} (hx:opE l x=some E) (hm:Mp RK RV res ws E mm) (hy:opE l y=some (.rd RK k)) (hK:zoa P K RK n) (hT:P.underlying T=some (.map K V)) (hV:TI P V z RV.sz by_) (hz:Zr RV z.cells.toList x0) (hzv:z=RV.val z.cells.toList) :
  Run C P Γ l res ⟨some d,.lookup T x y true,ty,pos,after,g⟩ (.tup [.rd RV ((zj8 mm k).getD x0),.rd z0n (zj8 mm k).isSome]):=fun a w ha=>by
 obtain ⟨v,h1,h2⟩:=z12s (C:=C) hx hm hy hK hT hV hz hzv ha
 exact ⟨_, fun w' hw'=>by simp [execOp,h2 true w' hw'],[v,.bool (zj8 mm k).isSome],⟨h1,zbb,trivial⟩,rfl⟩
end
end
section
open Go Go.RowKit
theorem mixed:Tryz.prog.follows .mixedOrders=true:=by kernel_rfl
theorem sc2:Sc Tryz.prog 2:=⟨_,Tryz.underlying2,trivial⟩
theorem ti2:TI Tryz.prog 2 (.int .i64 (0)) 1 8:=TI.mk' (by kernel_rfl)
theorem sc3:Sc Tryz.prog 3:=⟨_,Tryz.underlying3,trivial⟩
theorem ti3:TI Tryz.prog 3 (.int .i64 (0)) 1 8:=TI.mk' (by kernel_rfl)
theorem sc4:Sc Tryz.prog 4:=⟨_,Tryz.underlying4,trivial⟩
theorem ti4:TI Tryz.prog 4 (.bool false) 1 1:=TI.mk' (by kernel_rfl)
theorem sc5:Sc Tryz.prog 5:=⟨_,Tryz.underlying5,trivial⟩
theorem ti5:TI Tryz.prog 5 (.int .u8 (0)) 1 1:=TI.mk' (by kernel_rfl)
theorem sc9:Sc Tryz.prog 9:=⟨_,Tryz.underlying9,trivial⟩
theorem ti9:TI Tryz.prog 9 (.string ByteArray.empty) 1 16:=TI.mk' (by kernel_rfl)
theorem zqo:Sc Tryz.prog 22:=⟨_,Tryz.underlying22,trivial⟩
theorem z2d:TI Tryz.prog 22 (.slice none 0 0) 1 24:=TI.mk' (by kernel_rfl)
theorem zil:Sc Tryz.prog 23:=⟨_,Tryz.underlying23,trivial⟩
theorem z40:TI Tryz.prog 23 (.slice none 0 0) 1 24:=TI.mk' (by kernel_rfl)
theorem ag25:Ag Tryz.prog 25:=⟨_,Tryz.underlying25,trivial⟩
theorem zn7:TI Tryz.prog 25 (.agg #[.slice none 0 0,.slice none 0 0]) 2 48:=TI.mk' (by kernel_rfl)
theorem sc41:Sc Tryz.prog 41:=⟨_,Tryz.underlying41,trivial⟩
theorem znl:TI Tryz.prog 41 (.int .u64 (0)) 1 8:=TI.mk' (by kernel_rfl)
theorem sc42:Sc Tryz.prog 42:=⟨_,Tryz.underlying42,trivial⟩
theorem zk1:TI Tryz.prog 42 (.slice none 0 0) 1 24:=TI.mk' (by kernel_rfl)
theorem ag44:Ag Tryz.prog 44:=⟨_,Tryz.underlying44,trivial⟩
theorem zew:TI Tryz.prog 44 (.agg #[.int .u8 (0),.int .u64 (0),.slice none 0 0,.slice none 0 0]) 4 64:=TI.mk' (by kernel_rfl)
theorem ag62:Ag Tryz.prog 62:=⟨_,Tryz.underlying62,trivial⟩
theorem z1p:TI Tryz.prog 62 (.agg #[.int .u8 (0),.int .u8 (0),.int .u8 (0),.int .u8 (0),.int .u8 (0),.int .u8 (0),.int .u8 (0),.int .u8 (0),.int .u8 (0),.int .u8 (0),.int .u8 (0),.int .u8 (0),.int .u8 (0),.int .u8 (0),.int .u8 (0),.int .u8 (0),.int .u8 (0),.int .u8 (0),.int .u8 (0),.int .u8 (0),.int .u8 (0),.int .u8 (0),.int .u8 (0),.int .u8 (0),.int .u8 (0),.int .u8 (0),.int .u8 (0),.int .u8 (0),.int .u8 (0),.int .u8 (0),.int .u8 (0),.int .u8 (0)]) 32 32:=TI.mk' (by kernel_rfl)
theorem sc65:Sc Tryz.prog 65:=⟨_,Tryz.underlying65,trivial⟩
theorem z3h:TI Tryz.prog 65 (.int .u32 (0)) 1 4:=TI.mk' (by kernel_rfl)
theorem ag67:Ag Tryz.prog 67:=⟨_,Tryz.underlying67,trivial⟩
theorem zkj:TI Tryz.prog 67 (.agg #[.int .u8 (0),.int .i64 (0),.int .u64 (0),.string ByteArray.empty]) 4 40:=TI.mk' (by kernel_rfl)
theorem ag69:Ag Tryz.prog 69:=⟨_,Tryz.underlying69,trivial⟩
theorem zor:TI Tryz.prog 69 (.agg #[.int .u8 (0),.string ByteArray.empty,.int .u8 (0),.int .i64 (0),.int .u64 (0),.string ByteArray.empty]) 6 64:=TI.mk' (by kernel_rfl)
theorem ag71:Ag Tryz.prog 71:=⟨_,Tryz.underlying71,trivial⟩
theorem zqv:TI Tryz.prog 71 (.agg #[.int .u32 (0),.int .u32 (0)]) 2 8:=TI.mk' (by kernel_rfl)
theorem ag73:Ag Tryz.prog 73:=⟨_,Tryz.underlying73,trivial⟩
theorem z4w:TI Tryz.prog 73 (.agg #[.int .u32 (0),.slice none 0 0,.int .u64 (0),.int .u8 (0),.string ByteArray.empty,.int .u8 (0),.int .i64 (0),.int .u64 (0),.string ByteArray.empty,.int .u32 (0),.int .u32 (0)]) 11 112:=TI.mk' (by kernel_rfl)
theorem sc75:Sc Tryz.prog 75:=⟨_,Tryz.underlying75,trivial⟩
theorem zcm:TI Tryz.prog 75 (.slice none 0 0) 1 24:=TI.mk' (by kernel_rfl)
theorem z13d:Sc Tryz.prog 142:=⟨_,Tryz.underlying142,trivial⟩
theorem zz0:TI Tryz.prog 142 (.slice none 0 0) 1 24:=TI.mk' (by kernel_rfl)
theorem zt2:Sc Tryz.prog 152:=⟨_,Tryz.underlying152,trivial⟩
theorem zyp:TI Tryz.prog 152 (.slice none 0 0) 1 24:=TI.mk' (by kernel_rfl)
theorem z11l:Sc Tryz.prog 156:=⟨_,Tryz.underlying156,trivial⟩
theorem zta:TI Tryz.prog 156 (.map none) 1 8:=TI.mk' (by kernel_rfl)
theorem z13b:Ag Tryz.prog 164:=⟨_,Tryz.underlying164,trivial⟩
theorem zhb:TI Tryz.prog 164 (.agg #[.int .u32 (0),.int .u32 (0),.int .u32 (0),.int .u32 (0),.int .u32 (0),.int .u32 (0),.int .u32 (0),.int .u32 (0)]) 8 32:=TI.mk' (by kernel_rfl)
theorem z11v:TI Tryz.prog 186 (.nilFunc) 1 8:=TI.mk' (by kernel_rfl)
theorem z138:Ag Tryz.prog 227:=⟨_,Tryz.underlying227,trivial⟩
theorem zn2:TI Tryz.prog 227 (.agg #[.int .u32 (0),.int .u32 (0),.int .u32 (0),.int .u32 (0),.int .u32 (0),.int .u32 (0),.int .u32 (0),.int .u32 (0),.slice none 0 0,.int .i64 (0)]) 10 64:=TI.mk' (by kernel_rfl)
theorem z13c:Ag Tryz.prog 249:=⟨_,Tryz.underlying249,trivial⟩
theorem zwd:TI Tryz.prog 249 (.agg #[.int .u32 (0),.int .u32 (0),.int .u32 (0),.int .u32 (0),.int .u32 (0),.int .u32 (0),.int .u32 (0),.int .u32 (0),.int .u32 (0),.int .u32 (0),.int .u32 (0),.int .u32 (0),.int .u32 (0),.int .u32 (0),.int .u32 (0),.int .u32 (0),.int .u32 (0),.int .u32 (0),.int .u32 (0),.int .u32 (0),.int .u32 (0),.int .u32 (0),.int .u32 (0),.int .u32 (0),.int .u32 (0),.int .u32 (0),.int .u32 (0),.int .u32 (0),.int .u32 (0),.int .u32 (0),.int .u32 (0),.int .u32 (0),.int .u32 (0),.int .u32 (0),.int .u32 (0),.int .u32 (0),.int .u32 (0),.int .u32 (0),.int .u32 (0),.int .u32 (0),.int .u32 (0),.int .u32 (0),.int .u32 (0),.int .u32 (0),.int .u32 (0),.int .u32 (0),.int .u32 (0),.int .u32 (0),.int .u32 (0),.int .u32 (0),.int .u32 (0),.int .u32 (0),.int .u32 (0),.int .u32 (0),.int .u32 (0),.int .u32 (0),.int .u32 (0),.int .u32 (0),.int .u32 (0),.int .u32 (0),.int .u32 (0),.int .u32 (0),.int .u32 (0),.int .u32 (0)]) 64 256:=TI.mk' (by kernel_rfl)
theorem tu3:Tryz.prog.underlying 3=some (.int .i64):=Tryz.underlying3
theorem tu5:Tryz.prog.underlying 5=some (.int .u8):=Tryz.underlying5
theorem tu9:Tryz.prog.underlying 9=some (.string):=Tryz.underlying9
theorem tu22:Tryz.prog.underlying 22=some (.slice 62):=Tryz.underlying22
theorem tu23:Tryz.prog.underlying 23=some (.slice 73):=Tryz.underlying23
theorem tu35:Tryz.prog.underlying 35=some (.slice 44):=Tryz.underlying35
theorem tu41:Tryz.prog.underlying 41=some (.int .u64):=Tryz.underlying41
theorem tu42:Tryz.prog.underlying 42=some (.slice 75):=Tryz.underlying42
theorem tu62:Tryz.prog.underlying 62=some (.array 32 5):=Tryz.underlying62
theorem tu65:Tryz.prog.underlying 65=some (.int .u32):=Tryz.underlying65
theorem tu75:Tryz.prog.underlying 75=some (.slice 5):=Tryz.underlying75
theorem tu142:Tryz.prog.underlying 142=some (.slice 3):=Tryz.underlying142
theorem tu152:Tryz.prog.underlying 152=some (.slice 4):=Tryz.underlying152
theorem tu164:Tryz.prog.underlying 164=some (.array 8 65):=Tryz.underlying164
theorem tu217:Tryz.prog.underlying 217=some (.slice 65):=Tryz.underlying217
end
section
open Go Go.RowKit
structure z0b where
 Kind:UInt8
 Num:Int
 Bits:UInt64
 Text:List UInt8
 deriving DecidableEq,Inhabited
def z2i:Rep z0b:=zqu (fun x=>(x.Kind,x.Num,x.Bits,x.Text,())) (z8t u8R (z8t z0k (z8t z2r (z8t zhp zjq))))
theorem z3e (x:z0b):z6d z2i x 0 u8R x.Kind (fun y=>{ x with Kind:=y }):=(z6d.fst).via (fun _=>rfl)
theorem z6r (x:z0b):z6d z2i x 1 z0k x.Num (fun y=>{ x with Num:=y }):=(z6d.snd z6d.fst).via (fun _=>rfl)
theorem z42 (x:z0b):z6d z2i x 2 z2r x.Bits (fun y=>{ x with Bits:=y }):=(z6d.snd (z6d.snd z6d.fst)).via (fun _=>rfl)
theorem z3n (x:z0b):z6d z2i x 3 zhp x.Text (fun y=>{ x with Text:=y }):=(z6d.snd (z6d.snd (z6d.snd z6d.fst))).via (fun _=>rfl)
structure z1u where
 Kind:UInt8
 Key:List UInt8
 Value:z0b
 deriving DecidableEq,Inhabited
def z1i:Rep z1u:=zqu (fun x=>(x.Kind,x.Key,x.Value,())) (z8t u8R (z8t zhp (z8t z2i zjq)))
theorem z4c (x:z1u):z6d z1i x 0 u8R x.Kind (fun y=>{ x with Kind:=y }):=(z6d.fst).via (fun _=>rfl)
theorem z5v (x:z1u):z6d z1i x 1 zhp x.Key (fun y=>{ x with Key:=y }):=(z6d.snd z6d.fst).via (fun _=>rfl)
theorem z5a (x:z1u):z6d z1i x 2 z2i x.Value (fun y=>{ x with Value:=y }):=(z6d.snd (z6d.snd z6d.fst)).via (fun _=>rfl)
structure z0u where
 E:UInt32
 S:UInt32
 deriving DecidableEq,Inhabited
def z1q:Rep z0u:=zqu (fun x=>(x.E,x.S,())) (z8t z1c (z8t z1c zjq))
theorem z5u (x:z0u):z6d z1q x 0 z1c x.E (fun y=>{ x with E:=y }):=(z6d.fst).via (fun _=>rfl)
theorem z88 (x:z0u):z6d z1q x 1 z1c x.S (fun y=>{ x with S:=y }):=(z6d.snd z6d.fst).via (fun _=>rfl)
structure z0g where
 Author:UInt32
 Preds:List (Vector UInt8 32)
 Stamp:UInt64
 Act:z1u
 Sig:z0u
 deriving DecidableEq,Inhabited
def z0c:Rep z0g:=zqu (fun x=>(x.Author,x.Preds,x.Stamp,x.Act,x.Sig,())) (z8t z1c (z8t (z02 (z06 32 u8R)) (z8t z2r (z8t z1i (z8t z1q zjq)))))
theorem z4j (x:z0g):z6d z0c x 0 z1c x.Author (fun y=>{ x with Author:=y }):=(z6d.fst).via (fun _=>rfl)
theorem z1l (x:z0g):z6d z0c x 1 (z02 (z06 32 u8R)) x.Preds (fun y=>{ x with Preds:=y }):=(z6d.snd z6d.fst).via (fun _=>rfl)
theorem z7x (x:z0g):z6d z0c x 2 z2r x.Stamp (fun y=>{ x with Stamp:=y }):=(z6d.snd (z6d.snd z6d.fst)).via (fun _=>rfl)
theorem z30 (x:z0g):z6d z0c x 3 z1i x.Act (fun y=>{ x with Act:=y }):=(z6d.snd (z6d.snd (z6d.snd z6d.fst))).via (fun _=>rfl)
theorem z3o (x:z0g):z6d z0c x 9 z1q x.Sig (fun y=>{ x with Sig:=y }):=(z6d.snd (z6d.snd (z6d.snd (z6d.snd z6d.fst)))).via (fun _=>rfl)
structure z01 where
 IDs:List (Vector UInt8 32)
 Ops:List z0g
 deriving DecidableEq,Inhabited
def z03:Rep z01:=zqu (fun x=>(x.IDs,x.Ops,())) (z8t (z02 (z06 32 u8R)) (z8t (z02 z0c) zjq))
theorem z0j (x:z01):z6d z03 x 0 (z02 (z06 32 u8R)) x.IDs (fun y=>{ x with IDs:=y }):=(z6d.fst).via (fun _=>rfl)
theorem z0f (x:z01):z6d z03 x 1 (z02 z0c) x.Ops (fun y=>{ x with Ops:=y }):=(z6d.snd z6d.fst).via (fun _=>rfl)
structure z0i where
 Kind:UInt8
 N:UInt64
 IDs:List (Vector UInt8 32)
 Ops:List (List UInt8)
 deriving DecidableEq,Inhabited
def z0h:Rep z0i:=zqu (fun x=>(x.Kind,x.N,x.IDs,x.Ops,())) (z8t u8R (z8t z2r (z8t (z02 (z06 32 u8R)) (z8t (z02 (z02 u8R)) zjq))))
theorem z15 (x:z0i):z6d z0h x 0 u8R x.Kind (fun y=>{ x with Kind:=y }):=(z6d.fst).via (fun _=>rfl)
theorem z7l (x:z0i):z6d z0h x 1 z2r x.N (fun y=>{ x with N:=y }):=(z6d.snd z6d.fst).via (fun _=>rfl)
theorem z29 (x:z0i):z6d z0h x 2 (z02 (z06 32 u8R)) x.IDs (fun y=>{ x with IDs:=y }):=(z6d.snd (z6d.snd z6d.fst)).via (fun _=>rfl)
theorem z11 (x:z0i):z6d z0h x 3 (z02 (z02 u8R)) x.Ops (fun y=>{ x with Ops:=y }):=(z6d.snd (z6d.snd (z6d.snd z6d.fst))).via (fun _=>rfl)
structure z2y where
 Words:Vector UInt32 8
 Rest:List UInt8
 N:Int
 deriving DecidableEq,Inhabited
def z38:Rep z2y:=zqu (fun x=>(x.Words,x.Rest,x.N,())) (z8t (z06 8 z1c) (z8t (z02 u8R) (z8t z0k zjq)))
theorem zeu (x:z2y):z6d z38 x 0 (z06 8 z1c) x.Words (fun y=>{ x with Words:=y }):=(z6d.fst).via (fun _=>rfl)
theorem zl5 (x:z2y):z6d z38 x 8 (z02 u8R) x.Rest (fun y=>{ x with Rest:=y }):=(z6d.snd z6d.fst).via (fun _=>rfl)
theorem z9r (x:z2y):z6d z38 x 9 z0k x.N (fun y=>{ x with N:=y }):=(z6d.snd (z6d.snd z6d.fst)).via (fun _=>rfl)
theorem zj3:Zr (z06 32 u8R) (Value.cells (.agg #[.int .u8 (0),.int .u8 (0),.int .u8 (0),.int .u8 (0),.int .u8 (0),.int .u8 (0),.int .u8 (0),.int .u8 (0),.int .u8 (0),.int .u8 (0),.int .u8 (0),.int .u8 (0),.int .u8 (0),.int .u8 (0),.int .u8 (0),.int .u8 (0),.int .u8 (0),.int .u8 (0),.int .u8 (0),.int .u8 (0),.int .u8 (0),.int .u8 (0),.int .u8 (0),.int .u8 (0),.int .u8 (0),.int .u8 (0),.int .u8 (0),.int .u8 (0),.int .u8 (0),.int .u8 (0),.int .u8 (0),.int .u8 (0)])).toList (Vector.replicate 32 0):=Zr.arr (c:=(Value.cells (.int .u8 (0))).toList) (Zr.num rfl) rfl
theorem zou:Zr (z06 8 z1c) (Value.cells (.agg #[.int .u32 (0),.int .u32 (0),.int .u32 (0),.int .u32 (0),.int .u32 (0),.int .u32 (0),.int .u32 (0),.int .u32 (0)])).toList (Vector.replicate 8 0):=Zr.arr (c:=(Value.cells (.int .u32 (0))).toList) (Zr.num rfl) rfl
theorem z11n:Zr (z06 64 z1c) (Value.cells (.agg #[.int .u32 (0),.int .u32 (0),.int .u32 (0),.int .u32 (0),.int .u32 (0),.int .u32 (0),.int .u32 (0),.int .u32 (0),.int .u32 (0),.int .u32 (0),.int .u32 (0),.int .u32 (0),.int .u32 (0),.int .u32 (0),.int .u32 (0),.int .u32 (0),.int .u32 (0),.int .u32 (0),.int .u32 (0),.int .u32 (0),.int .u32 (0),.int .u32 (0),.int .u32 (0),.int .u32 (0),.int .u32 (0),.int .u32 (0),.int .u32 (0),.int .u32 (0),.int .u32 (0),.int .u32 (0),.int .u32 (0),.int .u32 (0),.int .u32 (0),.int .u32 (0),.int .u32 (0),.int .u32 (0),.int .u32 (0),.int .u32 (0),.int .u32 (0),.int .u32 (0),.int .u32 (0),.int .u32 (0),.int .u32 (0),.int .u32 (0),.int .u32 (0),.int .u32 (0),.int .u32 (0),.int .u32 (0),.int .u32 (0),.int .u32 (0),.int .u32 (0),.int .u32 (0),.int .u32 (0),.int .u32 (0),.int .u32 (0),.int .u32 (0),.int .u32 (0),.int .u32 (0),.int .u32 (0),.int .u32 (0),.int .u32 (0),.int .u32 (0),.int .u32 (0),.int .u32 (0)])).toList (Vector.replicate 64 0):=Zr.arr (c:=(Value.cells (.int .u32 (0))).toList) (Zr.num rfl) rfl
theorem zu0:Zr z2i (Value.cells (.agg #[.int .u8 (0),.int .i64 (0),.int .u64 (0),.string ByteArray.empty])).toList (⟨0,0,0,[]⟩:z0b):=Zr.via (Zr.prod (Zr.num rfl) (Zr.prod (Zr.num rfl) (Zr.prod (Zr.num rfl) (Zr.prod Zr.str Zr.unit rfl) rfl) rfl) rfl)
theorem zx2:Zr z1i (Value.cells (.agg #[.int .u8 (0),.string ByteArray.empty,.int .u8 (0),.int .i64 (0),.int .u64 (0),.string ByteArray.empty])).toList (⟨0,[],(⟨0,0,0,[]⟩:z0b)⟩:z1u):=Zr.via (Zr.prod (Zr.num rfl) (Zr.prod Zr.str (Zr.prod zu0 Zr.unit rfl) rfl) rfl)
theorem zx9:Zr z1q (Value.cells (.agg #[.int .u32 (0),.int .u32 (0)])).toList (⟨0,0⟩:z0u):=Zr.via (Zr.prod (Zr.num rfl) (Zr.prod (Zr.num rfl) Zr.unit rfl) rfl)
theorem zr44:Zr z0h (Value.cells (.agg #[.int .u8 (0),.int .u64 (0),.slice none 0 0,.slice none 0 0])).toList (⟨0,0,[],[]⟩:z0i):=Zr.via (Zr.prod (Zr.num rfl) (Zr.prod (Zr.num rfl) (Zr.prod Zr.slice (Zr.prod Zr.slice Zr.unit rfl) rfl) rfl) rfl)
theorem sc1:Sc Tryz.prog 1:=⟨_,Tryz.underlying1,trivial⟩
theorem ty1:zdm Tryz.prog 1 false 1:=.sc sc1
theorem ty2:zdm Tryz.prog 2 false 1:=.sc sc2
theorem ty3:zdm Tryz.prog 3 false 1:=.sc sc3
theorem ty4:zdm Tryz.prog 4 false 1:=.sc sc4
theorem ty5:zdm Tryz.prog 5 false 1:=.sc sc5
theorem ty9:zdm Tryz.prog 9 false 1:=.sc sc9
theorem z8l:zdm Tryz.prog 22 false 1:=.sc zqo
theorem zg6:zdm Tryz.prog 23 false 1:=.sc zil
theorem z99:zdm Tryz.prog 25 true 2:=.ag ag25 zn7
theorem zmo:zdm Tryz.prog 41 false 1:=.sc sc41
theorem zl2:zdm Tryz.prog 42 false 1:=.sc sc42
theorem zu2:zdm Tryz.prog 44 true 4:=.ag ag44 zew
theorem z49:zdm Tryz.prog 62 true 32:=.ag ag62 z1p
theorem z4p:zdm Tryz.prog 65 false 1:=.sc sc65
theorem zr1:zdm Tryz.prog 67 true 4:=.ag ag67 zkj
theorem ty69:zdm Tryz.prog 69 true 6:=.ag ag69 zor
theorem ty71:zdm Tryz.prog 71 true 2:=.ag ag71 zqv
theorem zg5:zdm Tryz.prog 73 true 11:=.ag ag73 z4w
theorem zuu:zdm Tryz.prog 75 false 1:=.sc sc75
theorem z10s:zdm Tryz.prog 142 false 1:=.sc z13d
theorem zp1:zdm Tryz.prog 164 true 8:=.ag z13b zhb
theorem z131:Sc Tryz.prog 186:=⟨_,Tryz.underlying186,trivial⟩
theorem zpm:zdm Tryz.prog 227 true 10:=.ag z138 zn2
theorem z128:zdm Tryz.prog 249 true 64:=.ag z13c zwd
def z8f:Vector UInt32 64:=#v[1116352408,1899447441,3049323471,3921009573,961987163,1508970993,2453635748,2870763221,3624381080,310598401,607225278,1426881987,1925078388,2162078206,2614888103,3248222580,3835390401,4022224774,264347078,604807628,770255983,1249150122,1555081692,1996064986,2554220882,2821834349,2952996808,3210313671,3336571891,3584528711,113926993,338241895,666307205,773529912,1294757372,1396182291,1695183700,1986661051,2177026350,2456956037,2730485921,2820302411,3259730800,3345764771,3516065817,3600352804,4094571909,275423344,430227734,506948616,659060556,883997877,958139571,1322822218,1537002063,1747873779,1955562222,2024104815,2227730452,2361852424,2428436474,2756734187,3204031479,3329325298]
abbrev zG1:Nat × Option (Value × z5w):=(1001,some ((.bool true),.glob 1 (z06 64 z1c) z8f))
end
section
open Go Go.RowKit
set_option maxRecDepth 100000 in
theorem zsh:EqR Tryz.prog 62 (z06 32 u8R) 2:=EqR.arr (EqR.u8 Tryz.underlying5) Tryz.underlying62 ti5 ty5
set_option maxRecDepth 100000 in
theorem zsu:Tryz.prog.eqGuardType Tryz.prog.depth 62=false:=by kernel_rfl
set_option maxRecDepth 100000 in
theorem eq67:EqR Tryz.prog 67 z2i ((max 1 (max 1 (max 1 (max 1 0))))+1):=EqR.struct (R:=(z8t u8R (z8t z0k (z8t z2r (z8t zhp zjq))))) (g:=fun x:z0b=>(x.Kind,x.Num,x.Bits,x.Text,())) (EqF.cons (EqR.u8 Tryz.underlying5) ty5 rfl (by decide) (EqF.cons (EqR.i64 Tryz.underlying2) ty2 rfl (by decide) (EqF.cons (EqR.u64 Tryz.underlying41) zmo rfl (by decide) (EqF.cons (EqR.str Tryz.underlying9) ty9 rfl (by decide) EqF.nil)))) Tryz.underlying67 (by kernel_rfl) (fun x y h=>by cases x; cases y; simpa using h) rfl
set_option maxRecDepth 100000 in
theorem gq67:Tryz.prog.eqGuardType Tryz.prog.depth 67=false:=by kernel_rfl
set_option maxRecDepth 100000 in
theorem eq69:EqR Tryz.prog 69 z1i ((max 1 (max 1 (max 2 0)))+1):=EqR.struct (R:=(z8t u8R (z8t zhp (z8t z2i zjq)))) (g:=fun x:z1u=>(x.Kind,x.Key,x.Value,())) (EqF.cons (EqR.u8 Tryz.underlying5) ty5 rfl (by decide) (EqF.cons (EqR.str Tryz.underlying9) ty9 rfl (by decide) (EqF.cons eq67 zr1 rfl (by decide) EqF.nil))) Tryz.underlying69 (by kernel_rfl) (fun x y h=>by cases x; cases y; simpa using h) rfl
set_option maxRecDepth 100000 in
theorem gq69:Tryz.prog.eqGuardType Tryz.prog.depth 69=false:=by kernel_rfl
set_option maxRecDepth 100000 in
theorem eq71:EqR Tryz.prog 71 z1q ((max 1 (max 1 0))+1):=EqR.struct (R:=(z8t z1c (z8t z1c zjq))) (g:=fun x:z0u=>(x.E,x.S,())) (EqF.cons (EqR.u32 Tryz.underlying65) z4p rfl (by decide) (EqF.cons (EqR.u32 Tryz.underlying65) z4p rfl (by decide) EqF.nil)) Tryz.underlying71 (by kernel_rfl) (fun x y h=>by cases x; cases y; simpa using h) rfl
set_option maxRecDepth 100000 in
theorem gq71:Tryz.prog.eqGuardType Tryz.prog.depth 71=false:=by kernel_rfl
theorem ky62:zoa Tryz.prog 62 (z06 32 u8R) 2:=zoa.arr (zoa.u8 Tryz.underlying5) Tryz.underlying62 ti5 ty5 rfl
end
section
open Go Go.RowKit
variable {ro:Option Nat}
section
variable {α:Type} {C:World→World→Prop} {P:Program} {Γ:Ctx} {l:z3a} {res:Res} {d:Tmp} {ty:TypeId} {pos:String} {after:Array Edge} {g:Option (Nat × Bool)} {R:Rep α}
def VwE (R:Rep α) (v:Value) (L x:List α) (E:Ent):Prop:=∀ S w u,E.holds S w u→(Ent.vw R v L x).holds S w u
theorem vwW {v:Value} {L:List α}:VwE R v L L (.val v):=fun _ _ _ h=>.inl ⟨h.1,rfl, by rw [h.1]; exact h.2⟩
theorem aW {os:List Operand} {ps:List Ent} {o:Operand} {v:Value} {L:List α} (h:opE l o=some (.val v)) (k:zax l os ps):zax l (o::os) (.vw R v L L::ps):=⟨⟨_,h,vwW⟩,k⟩
theorem z116 {S:Blk} {w:World} {u v:Value} {T:TypeId} {L x:List α} (h:(Ent.vw R v L x).holds S w u) (hc:(z5w.list R T L).holds S w v) :
  (u=.slice none 0 0∧x=[])∨∃ k o sp cap i,u=.slice (some ⟨k,o,sp⟩) x.length cap∧z5c v=some k∧x.length≤cap∧cap≤maxLen∧(x≠[]→sp=none∧o=i * R.sz)∧(L.drop i).take x.length=x:=by
 rcases h with ⟨rfl,rfl,-⟩ | h | h
 ·
  rcases hc with ⟨rfl,rfl⟩ | ⟨b',ob,g1,g2,bb,cp,Cc,rfl,rfl,g3,g4,g5,g6⟩
  ·
   exact .inl ⟨rfl,rfl⟩
  ·
   exact .inr ⟨bb,0,none,cp,0,rfl,rfl,g3,g4, fun _=>⟨rfl, by simp⟩, by simp⟩
 ·
  exact .inl h
 ·
  exact .inr h
theorem ixQ {β:Type} {b L:List α} {y:α} {k:IntKind} {f:β→Int} {j:β} {x z':Operand} {T e E:TypeId} {z v:Value} {by_:Nat} (r:Nat) (hx:opE l x=some (.vw R v L b)) (hr:lr res r=some (v,.list R E L)) (hj:opE l z'=some (.rd (za8 k f) j)) (hy:idx b (f j)=some y) (hT:P.underlying T=some (.slice e)) (hE:TI P e z R.sz by_) :
  Run C P Γ l res ⟨some d,.indexAddr T x z',ty,pos,after,g⟩ (.vp R v L y):=fun a w ha=>by
 obtain ⟨k1,k2,k3⟩:=z5r hy
 have hj':a.eval z'=.int k ((f j).toNat:Int):=by rw [z4x (ha.vl hj)]; congr 1; omega
 rcases z116 (ha.vl hx) (ha.conts r v _ hr) with ⟨k5,rfl⟩ | ⟨bk,o,sp,cap,n,h5,q1,q2,q3,q4,q5⟩
 ·
  simp at k3
 ·
  have hne:b≠[]:=fun e=>by rw [e] at k3; simp at k3
  obtain ⟨rfl,rfl⟩:=q4 hne
  refine ⟨.pointer (some ⟨bk,n * R.sz+(f j).toNat * R.sz,none⟩), fun w' _=>?_,bk,n+(f j).toNat, by rw [Nat.add_mul],q1,?_⟩
  ·
   generalize (f j).toNat=jn at *
   simp [execOp,h5,hj',Instr.indexAt,asIntOf,run_underlying hT,k3,z2w hE,z47]
  ·
   rw [← q5,List.getElem?_take,if_pos k3,List.getElem?_drop] at k2
   exact k2
theorem ldQ {ws:List Nat} [LC C res ws] {L:List α} {y:α} {t E:TypeId} {x:Operand} {v:Value} (r:Nat) (hx:opE l x=some (.vp R v L y)) (hr:lr res r=some (v,.list R E L)) (hT:zdm P t R.agg R.sz) (hw:ws.contains r=false) :
  Run C P Γ l res ⟨some d,.load t x,ty,pos,after,g⟩ (.rd R y):=fun a w ha=>by
 obtain ⟨k,n,h1,hk,hy⟩:=ha.vl hx
 have hidx:idx L (n:Int)=some y:=by unfold idx; rw [if_pos (by omega)]; simpa using hy
 have hf:Foc (.list R E L) (n * R.sz) R y (fun y=>.list R E (L.set n y)):=by
  have:=Foc.el (R:=R) (T:=E) hidx
  simpa using this
 rcases ha.conts r v _ hr with ⟨q1,-⟩ | ⟨b,o,h2,h3,h4⟩
 ·
  rw [q1] at hk; cases hk
 ·
  obtain ⟨b',Cc,T,a',cs,dd,k1,rfl,k3,k4,k5,-⟩:=hf.2 _ w v o h4
  have e:b=b':=by have:=zj7 k1; rw [h2] at this; cases this; rfl
  subst e
  have hk:some b=some k:=by rw [← h2,hk]
  cases hk
  refine ⟨R.val cs, fun w' hw'=>?_,cs,k5,rfl⟩
  have hb':w'.heap[k]? = some (.cells Cc T (0,0)):=(CW.at hw' ha hr h2 hw).trans h3
  have:=Bx.load (P:=P) hb' k3 (R.mono (CW.stay hw') k5) hT
  rw [k4] at this
  simp [execOp,h1,Instr.loadAt,Instr.sureAddr,this]
end
section
variable {ρ α:Type} {P:Program} {Γ:Ctx} {l:z3a} {res:Res} {m:Option ρ} {os rest:List Oper} {N Q:ρ→Exit→Act→World→Prop} {c:Code} {e:Exit}
end
end
section
open Go Go.RowKit
def z13e (V:Blk) (W W':World):Blk:=fun b=>V b∨(W.heap.size≤b∧b<W'.heap.size)
section
variable {ρ α σ:Type} {P:Program} {Γ:Ctx} {l L:z3a} {res:Res} {A:Asn} {Q:ρ→Exit→Act→World→Prop}
end
end
section
open Go Go.RowKit
section
variable {P:Program} {ops:Array Oper} {Q:Exit→Act→World→Prop}
end
structure IEnv (P:Program) {α:Type} (R:Rep α) (σ:Type) where
 Y:α→σ→Option σ
 J:Blk→σ→World→Prop
 l:Nat
 hV:∀ V s W,J V s W→∀ b,V b→b<W.heap.size
 hext:∀ V s W W',J V s W→Ext W W'→J (z13e V W W') s W'
 round:∀ V s s' x u W,Y x s=some s'→J V s W→(Ent.rd R x).holds V W u→YieldAt Fence.wide 0 P l #[u] W fun e W'=>e=.returned (.bool true)∧J V s' W'∧zld V W W'
section
variable {P:Program} {α σ ρ:Type} {R:Rep α}
variable {E:IEnv P R σ} {V:Blk} {W:World} {l:z3a} {res:Res} {n:Nat} {s:σ}
variable {Q:ρ→Exit→Act→World→Prop}
end
section
variable {C:World→World→Prop} {P:Program} {Γ:Ctx} {l:z3a} {res:Res} {d:Tmp} {ty:TypeId} {pos:String} {after:Array Edge} {g:Option (Nat × Bool)}
end
end
section
open Go Go.RowKit
def zhj:Rep Value where
 sz:=1
 agg:=false
 rel _ _ cs x:=cs=[x]∧x.oneCell'=true
 len h:=by rw [h.1]; rfl
 one h:=by rw [h.1]; intro u hu; simp only [List.mem_singleton] at hu; subst hu; exact h.2
 scal _:=rfl
 mono _ h:=h
def zbr {α:Type} (vs:Nat→Value) (ls:List (List α)):List Value:=(List.range ls.length).map vs
def zoo {α:Type} (base:Nat) (R:Rep α) (T:TypeId) (vs:Nat→Value):List (List α)→Nat→Res
 | [],_=>[]
 | x::ls,j=>(base+j,some (vs j,.list R T x))::zoo base R T vs ls (j+1)
def zx8 (vs:Nat→Value) (j:Nat) (u:Value):Nat→Value:=fun i=>if i=j then u else vs i
def zz8:List Value→(Nat→Value)→Nat→Value
 | [],vs=>vs
 | a::l,vs=>fun
  | 0=>a
  | n+1=>zz8 l vs n
section
variable {α:Type} {base:Nat} {R:Rep α} {T:TypeId} {vs:Nat→Value}
theorem zvn:∀ {ls:List (List α)} {i j:Nat},lr (zoo base R T vs ls i) (base+(i+j))=ls[j]?.map fun x=>(vs (i+j),.list R T x)
 | [],i,j=>rfl
 | x::ls,i,0=>by
  rw [zoo,z1x,if_pos (by omega)]; rfl
 | x::ls,i,j+1=>by
  rw [zoo,z1x,if_neg (by omega)]
  have:=@zvn ls (i+1) j
  rw [show i+(j+1)=i+1+j by omega,this]; simp
theorem zgr:∀ {ls:List (List α)} {i k:Nat} {x:Value × z5w},lr (zoo base R T vs ls i) k=some x→∃ j y,k=base+(i+j)∧ls[j]? = some y∧x=(vs (i+j),.list R T y)
 | [],i,k,x,h=>by cases h
 | y::ls,i,k,x,h=>by
  rw [zoo,z1x] at h
  split at h
  ·
   rename_i hk; cases h; exact ⟨0,y, by omega,rfl,rfl⟩
  ·
   obtain ⟨j,z,h1,h2,h3⟩:=zgr h
   exact ⟨j+1,z, by omega, by simpa using h2, by rw [h3, show i+1+j=i+(j+1) by omega]⟩
theorem zm1 {pre f:Res} {k:Nat} {x:Value × z5w} (h:lr (pre++f) k=some x) (hp:∀ p∈pre,p.2≠none):lr pre k=some x∨((∀ p∈pre,p.1≠k)∧lr f k=some x):=by
 induction pre with
 | nil=>exact .inr ⟨by simp,h⟩
 | cons p pre ih =>
  obtain ⟨q,y⟩:=p
  rw [List.cons_append,z1x] at h
  rw [z1x]
  split at h
  ·
   rename_i hq; rw [if_pos hq]; exact .inl h
  ·
   rename_i hq
   rw [if_neg hq]
   rcases ih h (fun p hp'=>hp p (by simp [hp'])) with h1 | ⟨h1,h2⟩
   ·
    exact .inl h1
   ·
    refine .inr ⟨fun p hp'=>?_,h2⟩
    rcases List.mem_cons.1 hp' with rfl | h3
    ·
     exact hq
    ·
     exact h1 p h3
def z7q (res:Res) (base:Nat) (R:Rep α) (T:TypeId) (vs:Nat→Value) (ls:List (List α)):Prop:=∀ j y,ls[j]? = some y→lr res (base+j)=some (vs j,.list R T y)
theorem z7q.tail {ls:List (List α)}:z7q (zoo base R T vs ls 0) base R T vs ls:=fun j y h=>by
 have:=zvn (base:=base) (R:=R) (T:=T) (vs:=vs) (ls:=ls) (i:=0) (j:=j)
 rw [Nat.zero_add] at this
 rw [this,h]; rfl
theorem z7q.cons {res:Res} {k:Nat} {x:Option (Value × z5w)} {ls:List (List α)} (hk:Nat.blt k base=true) (h:z7q res base R T vs ls):z7q ((k,x)::res) base R T vs ls:=fun j y hj=>by
 have hk:k<base:=Eq.mp Nat.blt_eq hk
 rw [z1x,if_neg (by omega)]; exact h j y hj
theorem zoc {ls:List (List α)} {i:Int} {y:List α} (h:idx ls i=some y):idx (zbr vs ls) i=some (vs i.toNat):=by
 obtain ⟨h0,h2,hlt⟩:=z5r h
 have h0':(0:Int)≤i:=h0
 unfold idx
 rw [if_pos h0']
 unfold zbr
 rw [List.getElem?_map,List.getElem?_range hlt]; rfl
theorem zwf {ls:List (List α)} {j:Nat} {u:Value} {z:List α}:(zbr vs ls).set j u=zbr (zx8 vs j u) (ls.set j z):=by
 unfold zbr zx8
 apply List.ext_getElem?
 intro i
 rw [List.getElem?_set,List.getElem?_map,List.length_map,List.length_range,List.length_set]
 by_cases hi:i<ls.length
 ·
  rw [List.getElem?_map,List.getElem?_range hi]
  by_cases h:j=i
  ·
   subst h; simp [hi]
  ·
   simp [h,Ne.symm h]
 ·
  have h1:¬ i<(List.range ls.length).length:=by simpa using hi
  rw [List.getElem?_map,List.getElem?_eq_none (by omega)]
  split
  ·
   rename_i h; subst h; rw [if_neg hi]; rfl
  ·
   rfl
theorem z114 {by_:Nat} {n:Int} {ls:List (List α)} (h:mkn by_ ([]:List α) n=some ls):∀ x∈ls,x=[]:=fun x hx=>by
 obtain ⟨-,-,-,rfl⟩:=zla h
 exact (List.mem_replicate.1 hx).2
end
section
variable {P:Program} {Γ:Ctx} {l l':z3a} {res res' lits:Res} {a:Act} {w:World} {α:Type} {base:Nat} {R:Rep α} {T T':TypeId} {vs:Nat→Value} {ls:List (List α)}
theorem Sta.subG (ha:Sta Γ l res a w) (h1:∀ r x,lr res' r=some x→∃ n,lr res n=some x) (h2:∀ r r2 x x2,lr res' r=some x→lr res' r2=some x2→r≠r2→∃ n n2,n≠n2∧lr res n=some x∧lr res n2=some x2) (hs:∀ t e,lk l' t=some e→lk l t=some e):Sta Γ l' res' a w:=by
 have hst:zch (Shr Γ.H res w) (Shr Γ.H res' w) w w:=fun b hb=>⟨⟨hb.1, fun r v c hr=>by obtain ⟨n,h⟩:=h1 _ _ hr; exact hb.2.1 n v c h,hb.2.2⟩,rfl⟩
 exact {
  size:=ha.size
  defers:=ha.defers
  slots:=fun t e ht=>by obtain ⟨v,k1,k2⟩:=ha.slots t e (hs t e ht); exact ⟨v,k1,e.mono hst k2⟩
  conts:=fun r v c h=>by obtain ⟨n,k1⟩:=h1 _ _ h; exact (ha.conts n v c k1).mono hst (fun _ _=>rfl)
  excl:=fun r v c r' v' c' h h' hne=>by obtain ⟨n,n2,k1,k2,k3⟩:=h2 _ _ _ _ h h' hne; exact ha.excl n v c n2 v' c' k2 k3 k1
  own:=fun r v c h=>by obtain ⟨n,k1⟩:=h1 _ _ h; exact ha.own n v c k1
  keep:=ha.keep
  old:=ha.old
  hid:=ha.hid }
theorem zct.get3 {res:Res}:∀ {res':Res} {ns:List Nat} {r r2:Nat} {x x2:Value × z5w},zct res res' ns→lr res' r=some x→lr res' r2=some x2→r≠r2→∃ n n2,n∈ns∧n2∈ns∧n≠n2∧lr res n=some x∧lr res n2=some x2
 | [],[],_,_,_,_,_,h,_,_=>by cases h
 | (r',y)::res',n::ns,r,r2,x,x2,hs,h,h',hne=>by
  rw [z1x] at h h'
  obtain ⟨⟨y,rfl,h1⟩,h2,h3⟩:=hs
  have hn:∀ n',n'∈ns→n≠n':=fun n' hn' e=>by subst e; simp at h2; exact h2 hn'
  split at h
  ·
   rename_i e1; subst e1; cases h
   rw [if_neg hne] at h'
   obtain ⟨v2,c2⟩:=x2
   obtain ⟨n',h4,h5⟩:=zct.get h3 h'
   exact ⟨n,n', by simp, by simp [h4],hn n' h4,h1,h5⟩
  ·
   split at h'
   ·
    cases h'
    obtain ⟨v,c⟩:=x
    obtain ⟨n',h4,h5⟩:=zct.get h3 h
    exact ⟨n',n, by simp [h4], by simp, fun e=>hn n' h4 e.symm,h5,h1⟩
   ·
    obtain ⟨n1,n2,i1,i2,k1,k2,k3⟩:=zct.get3 h3 h h' hne
    exact ⟨n1,n2, by simp [i1], by simp [i2],k1,k2,k3⟩
 | [],_::_,_,_,_,_,hs,_,_,_=>hs.elim
 | _::_,[],_,_,_,_,hs,_,_,_=>hs.elim
theorem zct.somes:∀ {res':Res} {ns:List Nat},zct res res' ns→∀ p∈res',p.2≠none
 | [],[],_,p,hp=>by simp at hp
 | (r,x)::res',n::ns,h,p,hp=>by
  rcases List.mem_cons.1 hp with rfl | hp
  ·
   obtain ⟨⟨y,rfl,_⟩,_⟩:=h; simp
  ·
   exact zct.somes h.2.2 p hp
 | [],_::_,h,_,_=>h.elim
 | _::_,[],h,_,_=>h.elim
theorem Sta.subF (ha:Sta Γ l res a w) (hf:z7q res base R T vs ls) (ns:List Nat) (hs:zu5 l l') (hr:zct res lits ns) (hn:(ns.all fun n=>Nat.blt n base)=true):Sta Γ l' (lits++zoo base R T vs ls 0) a w:=by
 have hb:∀ n∈ns,n<base:=fun n h=>Eq.mp Nat.blt_eq (List.all_eq_true.1 hn n h)
 have inv:∀ r x,lr (lits++zoo base R T vs ls 0) r=some x→lr lits r=some x∨∃ j,r=base+j∧lr res (base+j)=some x:=fun r x h=>by
  rcases zm1 h hr.somes with h | ⟨-,h⟩
  ·
   exact .inl h
  ·
   obtain ⟨j,y,h3,h4,h5⟩:=zgr h
   rw [Nat.zero_add] at h3 h5
   exact .inr ⟨j,h3, by rw [h5]; exact hf j y h4⟩
 refine ha.subG (fun r x h=>?_) (fun r r2 x x2 h h2 hne=>?_) (fun t e h=>hs.get h)
 ·
  rcases inv r x h with h | ⟨j,h3,h4⟩
  ·
   obtain ⟨v,c⟩:=x
   obtain ⟨n,-,h1⟩:=hr.get h; exact ⟨n,h1⟩
  ·
   exact ⟨_,h4⟩
 ·
  obtain ⟨v,c⟩:=x
  obtain ⟨v2,c2⟩:=x2
  rcases inv r _ h with h | ⟨j,h3,h4⟩ <;> rcases inv r2 _ h2 with h2 | ⟨j2,h5,h6⟩
  ·
   exact hr.get2 h h2 hne
  ·
   obtain ⟨n,h7,h8⟩:=hr.get h
   exact ⟨n,_, by have:=hb n h7; omega,h8,h6⟩
  ·
   obtain ⟨n,h7,h8⟩:=hr.get h2
   exact ⟨_,n, by have:=hb n h7; omega,h4,h8⟩
  ·
   exact ⟨_,_, by omega,h4,h6⟩
theorem Sta.newF (ha:Sta Γ l res a w) (R:Rep α) (T:TypeId) (ns:List Nat) (hl:∀ x∈ls,x=[]) (hr:zct res lits ns):Sta Γ l (lits++zoo base R T (fun _=>.slice none 0 0) ls 0) a w:=by
 have ha':Sta Γ l lits a w:=ha.subG (fun r x h=>by obtain ⟨v,c⟩:=x; obtain ⟨n,-,h1⟩:=hr.get h; exact ⟨n,h1⟩) (fun r r2 x x2 h h2 hne=>hr.get2 h h2 hne) (fun _ _ h=>h)
 have hst:zch (Shr Γ.H lits w) (Shr Γ.H (lits++zoo base R T (fun _=>.slice none 0 0) ls 0) w) w w:=fun b hb=>⟨⟨hb.1, fun r v c h=>by
  rcases zm1 h hr.somes with h | ⟨-,h⟩
  ·
   exact hb.2.1 r v c h
  ·
   obtain ⟨j,y,-,-,h5⟩:=zgr h
   simp only [Prod.mk.injEq] at h5
   rw [h5.1]; simp [z5c],hb.2.2⟩,rfl⟩
 exact {
  size:=ha.size
  defers:=ha.defers
  slots:=fun t e ht=>by obtain ⟨v,k1,k2⟩:=ha'.slots t e ht; exact ⟨v,k1,e.mono hst k2⟩
  conts:=fun r v c h=>by
   rcases zm1 h hr.somes with h | ⟨-,h⟩
   ·
    exact (ha'.conts r v c h).mono hst (fun _ _=>rfl)
   ·
    obtain ⟨j,y,-,h4,h5⟩:=zgr h
    simp only [Prod.mk.injEq] at h5
    rw [h5.1,h5.2]
    exact .inl ⟨rfl,hl y (List.mem_of_getElem? h4)⟩
  excl:=fun r v c r' v' c' h h' hne b hb=>by
   rcases zm1 h hr.somes with h | ⟨-,h⟩
   ·
    rcases zm1 h' hr.somes with h' | ⟨-,h'⟩
    ·
     exact ha'.excl r v c r' v' c' h h' hne b hb
    ·
     obtain ⟨j,y,-,-,h5⟩:=zgr h'
     simp only [Prod.mk.injEq] at h5
     rw [h5.1]; simp [z5c]
   ·
    obtain ⟨j,y,-,-,h5⟩:=zgr h
    simp only [Prod.mk.injEq] at h5
    rw [h5.1] at hb; simp [z5c] at hb
  own:=fun r v c h b hb=>by
   rcases zm1 h hr.somes with h | ⟨-,h⟩
   ·
    exact ha'.own r v c h b hb
   ·
    obtain ⟨j,y,-,-,h5⟩:=zgr h
    simp only [Prod.mk.injEq] at h5
    rw [h5.1] at hb; simp [z5c] at hb
  keep:=ha.keep
  old:=ha.old
  hid:=ha.hid }
theorem Sta.frzFam (ha:Sta Γ l res a w) (hf:z7q res base R T vs ls) {v:Value} (r:Nat) (hr:lr res r=some (v,.list zhj T' (zbr vs ls))) (ns:List Nat) (hs:zct res lits ns) (hn:(ns.all fun n=>Nat.blt n base&&!Nat.beq n r)=true) (hrb:Nat.blt r base=true):Sta Γ l ((r,some (v,.list (z02 R) T' ls))::lits) a w:=by
 have hb:∀ n∈ns,n<base∧n≠r:=fun n h=>by
  have:=List.all_eq_true.1 hn n h
  simp only [Bool.and_eq_true,Bool.not_eq_true'] at this
  exact ⟨Eq.mp Nat.blt_eq this.1,Nat.ne_of_beq_eq_false this.2⟩
 have hrb:r<base:=Eq.mp Nat.blt_eq hrb
 have hst:zch (Shr Γ.H res w) (Shr Γ.H ((r,some (v,.list (z02 R) T' ls))::lits) w) w w:=fun b hb'=>⟨⟨hb'.1, fun r' v' c' h=>by
  rw [z1x] at h
  split at h
  ·
   cases h; exact hb'.2.1 r v _ hr
  ·
   obtain ⟨n,-,h1⟩:=hs.get h; exact hb'.2.1 n v' c' h1,hb'.2.2⟩,rfl⟩
 have hin:∀ j y,ls[j]? = some y→∀ b,z5c (vs j)=some b→Shr Γ.H ((r,some (v,.list (z02 R) T' ls))::lits) w b:=fun j y hy b hbb=>by
  have h1:=hf j y hy
  refine ⟨(ha.conts _ _ _ h1).lt hbb, fun r' v' c' h=>?_, fun hH=>ha.own _ _ _ h1 b hbb (ha.hid b hH)⟩
  rw [z1x] at h
  split at h
  ·
   cases h; exact ha.excl _ _ _ r v _ h1 hr (by omega) b hbb
  ·
   obtain ⟨n,h2,h3⟩:=hs.get h; exact ha.excl _ _ _ n v' c' h1 h3 (by have:=hb n h2; omega) b hbb
 have hrel:∀ (ls2:List (List α)) (k:Nat) (cs:List Value),(∀ j y,ls2[j]? = some y→ls[k+j]? = some y)→z7o zhj (Shr Γ.H res w) w cs ((List.range' k ls2.length).map vs)→z7o (z02 R) (Shr Γ.H ((r,some (v,.list (z02 R) T' ls))::lits) w) w cs ls2:=by
  intro ls2
  induction ls2 with
  | nil=>intro k cs _ h; exact h
  | cons y ls2 ih =>
   intro k cs hk h
   rw [List.length_cons,List.range'_succ,List.map_cons] at h
   obtain ⟨c,d,rfl,⟨rfl,-⟩,h2⟩:=h
   have hy:=hk 0 y rfl
   rw [Nat.add_zero] at hy
   refine ⟨[vs k],d,rfl,?_,ih (k+1) d (fun j z hz=>?_) h2⟩
   ·
    obtain ⟨xs,k1,k2⟩:=zci (ha.conts _ _ _ (hf k y hy))
    obtain ⟨p,c,hp⟩:=zb5 k1
    rw [hp] at k1
    refine ⟨p,c,xs, by rw [hp],Rd.of_own k1,k2.mono hst, fun hne bb hbb=>?_⟩
    refine hin k y hy bb ?_
    rw [hp,ze6,zj0]; exact hbb
   ·
    have:=hk (j+1) z (by simpa using hz)
    rwa [show k+(j+1)=k+1+j by omega] at this
 exact {
  size:=ha.size
  defers:=ha.defers
  slots:=fun t e ht=>by obtain ⟨u,k1,k2⟩:=ha.slots t e ht; exact ⟨u,k1,e.mono hst k2⟩
  conts:=fun r' v' c' h=>by
   rw [z1x] at h
   split at h
   ·
    cases h
    rcases ha.conts r v _ hr with ⟨h1,h2⟩ | ⟨b,o,h1,h2,b',cap,C,rfl,rfl,h3,h4,h5,h6⟩
    ·
     exact .inl ⟨h1, by
      have:(zbr vs ls).length=0:=by rw [h2]; rfl
      unfold zbr at this
      simpa using this⟩
    ·
     have hl:(zbr vs ls).length=ls.length:=by simp [zbr]
     refine .inr ⟨b,_,h1,h2,b',cap,C, by rw [hl],rfl, by rw [← hl]; exact h3,h4,h5,?_⟩
     rw [hl] at h6
     refine hrel ls 0 _ (fun j y hy=>by rw [Nat.zero_add]; exact hy) ?_
     rw [← List.range_eq_range']
     exact h6
   ·
    obtain ⟨n,-,h1⟩:=hs.get h
    exact (ha.conts n v' c' h1).mono hst (fun _ _=>rfl)
  excl:=fun r1 v1 c1 r2 v2 c2 h1 h2 hne b hbb=>by
   rw [z1x] at h1 h2
   split at h1
   ·
    rename_i e1; cases h1
    rw [if_neg (by rw [e1]; exact hne)] at h2
    obtain ⟨n,h3,h4⟩:=hs.get h2
    exact ha.excl r v _ n v2 c2 hr h4 (fun e=>(hb n h3).2 e.symm) b hbb
   ·
    split at h2
    ·
     cases h2
     obtain ⟨n,h3,h4⟩:=hs.get h1
     exact ha.excl n v1 c1 r v _ h4 hr (hb n h3).2 b hbb
    ·
     obtain ⟨n,n2,h3,h4,h5⟩:=hs.get2 h1 h2 hne
     exact ha.excl n v1 c1 n2 v2 c2 h4 h5 h3 b hbb
  own:=fun r' v' c' h=>by
   rw [z1x] at h
   split at h
   ·
    cases h; exact ha.own r v _ hr
   ·
    obtain ⟨n,-,h1⟩:=hs.get h; exact ha.own n v' c' h1
  keep:=ha.keep
  old:=ha.old
  hid:=ha.hid }
end
section
variable {C:World→World→Prop} {ρ:Type} {P:Program} {Γ:Ctx} {l:z3a} {res lits:Res} {m:Option ρ} {os rest:List Oper} {N:ρ→Exit→Act→World→Prop} {ro:Option Nat} {Q:ρ→Exit→Act→World→Prop} {c:Code} {ex:Exit}
 {d:Tmp} {ty:TypeId} {pos:String} {after:Array Edge} {g:Option (Nat × Bool)} {α:Type} {base:Nat} {R:Rep α} {T T':TypeId} {vs:Nat→Value} {ls:List (List α)}
theorem mksF {b:List (List α)} {x y:Operand} {z:Value} {e:TypeId} {by_:Nat} {n:Int} (r:Nat) (hx:opE l x=some (.rd z0k n)) (hy:opE l y=some (.rd z0k n)) (hb:mkn by_ ([]:List α) n=some b)
  (hT:P.underlying T=some (.slice e)) (hE:TI P e z 1 by_) (hz:z.cells.toList=[.slice none 0 0]) :
  Eff P Γ l res ⟨some d,.makeSlice T x y,ty,pos,after,g⟩ r (fun u=>(u,.list zhj e (zbr (fun _=>.slice none 0 0) b))):=by
 obtain ⟨h1,h2,h3,rfl⟩:=zla hb
 have e1:zbr (fun _=>Value.slice none 0 0) (List.replicate n.toNat ([]:List α))=List.replicate n.toNat (Value.slice none 0 0):=by
  unfold zbr
  rw [List.length_replicate]
  apply List.ext_getElem?
  intro i
  rw [List.getElem?_map]
  by_cases hi:i<n.toNat
  ·
   rw [List.getElem?_range hi]; simp [hi]
  ·
   rw [List.getElem?_eq_none (by simpa using hi),List.getElem?_eq_none (by simpa using hi)]; rfl
 rw [e1]
 refine mks (R:=zhj) (x0:=.slice none 0 0) (z:=z) r hx hy ?_ hT hE (fun S w=>⟨hz,rfl⟩) rfl
 unfold mkn; rw [if_pos ⟨h1,h2, by omega⟩]
theorem z13g (R:Rep α) (T:TypeId) (ns:List Nat) (hl:∀ x∈ls,x=[]) (hr:zct res lits ns) (k:GL P os (Sta Γ l (lits++zoo base R T (fun _=>.slice none 0 0) ls 0)) rest N m):GL P os (Sta Γ l res) rest N m:=fun a w ha=>k a w (ha.newF R T ns hl hr)
theorem ldF {ws:List Nat} [LC C res ws] {y:List α} {i:Int} {t:TypeId} {x:Operand} {v:Value} (r:Nat) (hx:opE l x=some (.val (z09 v (i.toNat * 1)))) (hr:lr res r=some (v,.list zhj T' (zbr vs ls))) (hi:idx ls i=some y) (hT:zdm P t false 1) (hw:ws.contains r=false) :
  Run C P Γ l res ⟨some d,.load t x,ty,pos,after,g⟩ (.val (vs i.toNat)):=fun a w ha=>by
 obtain ⟨u,h1,cs,⟨rfl,h2⟩,h3⟩:=ld (C:=C) (P:=P) (d:=d) (ty:=ty) (pos:=pos) (after:=after) (g:=g) (R:=zhj) (t:=t) r hx hr (Foc.el (zoc hi)) hT hw a w ha
 exact ⟨u,h1,h3,h2⟩
theorem lApF {d1 d2:Tmp} {ty1 ty2 ty3:TypeId} {pos1 pos2 pos3:String} {af1 af2 af3:Array Edge} {x y b i:Operand} {v:Value} {E:Ent} {TT e:TypeId} {by_ by2:Nat} {je:Int} {yl b2 z:List α} {kk:IntKind} {γ:Type} {f:γ→Int} {jj:γ} {zv zv2:Value} (r:Nat) (ns:List Nat)
  (hf:z7q res base R e vs ls) (hx:opE l x=some (.val (vs je.toNat))) (hr:lr res r=some (v,.list zhj T (zbr vs ls))) (hrb:Nat.blt r base=true) (hi:idx ls je=some yl) (hb:opE l b=some (.val v)) (hii:opE l i=some (.rd (za8 kk f) jj)) (hje:f jj=je) (hy:opE l y=some E) (hv:Vw R res E b2) (hz:app by_ yl b2=some z)
  (hdd:Nat.beq d1 d2=false) (hbt:∀ t,b=.tmp t→Nat.beq d1 t=false) (hit:∀ t,i=.tmp t→Nat.beq d1 t=false) (h1n:Nat.blt d1 Γ.n=true) (h2n:Nat.blt d2 Γ.n=true)
  (hT:P.underlying T=some (.slice e)) (hE:TI P e zv R.sz by_) (hzs:zv.cells.size=R.sz) (h0:Nat.blt 0 R.sz=true) (h1:Nat.blt 0 by_=true) (hTT:P.underlying TT=some (.slice T)) (hET:TI P T zv2 1 by2) (hTy:zdm P T false 1)
  (hs:zct res lits ns) (hn:(ns.all fun n=>Nat.blt n base&&!Nat.beq n r)=true)
  (k:∀ u,GL P os (Sta Γ ((d1,.junk)::(d2,.junk)::l) (((r,some (v,.list zhj T (zbr (zx8 vs je.toNat u) (ls.set je.toNat z))))::lits)++zoo base R e (zx8 vs je.toNat u) (ls.set je.toNat z) 0)) rest N m) :
  GL P os (Sta Γ l res) (⟨some d1,.call ⟨.builtin .append,#[x,y],#[T,T]⟩,ty1,pos1,af1,none⟩::⟨some d2,.indexAddr TT b i,ty2,pos2,af2,none⟩::⟨none,.store T (.tmp d2) (.tmp d1),ty3,pos3,af3,none⟩::rest) N m:=fun a w ha ρ' hm=>by
 have hrb:r<base:=Eq.mp Nat.blt_eq hrb
 obtain ⟨i0,hyl,hlt⟩:=z5r hi
 have hfj:=hf je.toNat yl hyl
 obtain ⟨w1,u,e1,⟨s1,-⟩,o1,-⟩:=app0 (d:=d1) (ty:=ty1) (pos:=pos1) (after:=af1) (g:=none) ha (base+je.toNat) hx hfj hy hv hz hT hE hzs h0 h1
 refine st (zfy rfl) e1 ?_
 have s1':=s1.put h1n (show (Ent.val u).holds _ w1 u from ⟨rfl,o1⟩)
 have hr1:lr ((base+je.toNat,some (u,z5w.list R e z))::res) r=some (v,.list zhj T (zbr vs ls)):=by rw [z1x,if_neg (by omega)]; exact hr
 have hb1:opE ((d1,.val u)::l) b=some (.val v):=by
  cases b with
  | tmp t=>show lk _ t=_; rw [z48,if_neg (Nat.ne_of_beq_eq_false (hbt t rfl))]; exact hb
  | const c=>exact hb
  | global c=>exact hb
  | func c=>exact hb
 have hi1:opE ((d1,.val u)::l) i=some (.rd (za8 kk f) jj):=by
  cases i with
  | tmp t=>show lk _ t=_; rw [z48,if_neg (Nat.ne_of_beq_eq_false (hit t rfl))]; exact hii
  | const c=>exact hii
  | global c=>exact hii
  | func c=>exact hii
 obtain ⟨p2,e2,k2⟩:=ixO (C:=Eq) (P:=P) (d:=d2) (ty:=ty2) (pos:=pos2) (after:=af2) (g:=none) (R:=zhj) (y:=vs je.toNat) r hb1 hr1 hi1 (by rw [hje]; exact zoc hi) hTT hET _ w1 s1'
 refine st (zfy rfl) (e2 w1 rfl) ?_
 have s2:=s1'.put h2n k2
 rw [hje] at s2
 have hx2:opE ((d2,.val (z09 v (je.toNat * zhj.sz)))::(d1,.val u)::l) (.tmp d2)=some (.val (z09 v (je.toNat * zhj.sz))):=by show lk _ d2=_; rw [z48,if_pos rfl]
 have s3:Sta Γ ((d1,.rd zhj u)::(d2,.val (z09 v (je.toNat * zhj.sz)))::(d1,.val u)::l) ((base+je.toNat,some (u,z5w.list R e z))::res) ((a.put (some d1) u).put (some d2) p2) w1:=by
  refine { s2 with slots:=fun t' e' ht'=>?_ }
  rw [z48] at ht'
  split at ht'
  ·
   rename_i hh; subst hh; cases ht'
   obtain ⟨u',h3,rfl,h5⟩:=s2.slots d1 (.val u) (by rw [z48,if_neg (fun e=>Nat.ne_of_beq_eq_false hdd e.symm),z48,if_pos rfl])
   exact ⟨_,h3,[u'],⟨rfl,o1⟩,rfl⟩
  ·
   exact s2.slots t' e' ht'
 have hx3:opE ((d1,.rd zhj u)::(d2,.val (z09 v (je.toNat * zhj.sz)))::(d1,.val u)::l) (.tmp d2)=some (.val (z09 v (je.toNat * zhj.sz))):=by show lk _ d2=_; rw [z48,if_neg (Nat.ne_of_beq_eq_false hdd)]; exact hx2
 have hy3:opE ((d1,.rd zhj u)::(d2,.val (z09 v (je.toNat * zhj.sz)))::(d1,.val u)::l) (.tmp d1)=some (.rd zhj u):=by show lk _ d1=_; rw [z48,if_pos rfl]
 obtain ⟨w4,e4,⟨s4,-⟩,-⟩:=sto' (ty:=ty3) (pos:=pos3) (after:=af3) (g:=none) (t:=T) s3 r hx3 hr1 (Foc.el (zoc hi)) hy3 hET
 refine st0 (zfy rfl) e4 rfl ?_
 refine k u _ w4 ?_ ρ' hm
 have hb':∀ n∈ns,n<base∧n≠r:=fun n h=>by
  have:=List.all_eq_true.1 hn n h
  simp only [Bool.and_eq_true,Bool.not_eq_true'] at this
  exact ⟨Eq.mp Nat.blt_eq this.1,Nat.ne_of_beq_eq_false this.2⟩
 have get:∀ r' x',lr (((r,some (v,.list zhj T (zbr (zx8 vs je.toNat u) (ls.set je.toNat z))))::lits)++zoo base R e (zx8 vs je.toNat u) (ls.set je.toNat z) 0) r'=some x'→∃ n,lr ((r,some (v,z5w.list zhj T ((zbr vs ls).set je.toNat u)))::(base+je.toNat,some (u,z5w.list R e z))::res) n=some x'∧((r'=r∧n=r)∨(r'≠r∧lr lits r'=some x'∧n∈ns)∨(r'=n∧base≤n)):=fun r' x' h=>by
  have hsm:∀ p∈((r,some (v,z5w.list zhj T (zbr (zx8 vs je.toNat u) (ls.set je.toNat z))))::lits:Res),p.2≠none:=fun p hp=>by
   rcases List.mem_cons.1 hp with rfl | hp
   ·
    simp
   ·
    exact hs.somes p hp
  rcases zm1 h hsm with h | ⟨-,h⟩
  ·
   rw [z1x] at h
   split at h
   ·
    rename_i e'
    refine ⟨r,?_,.inl ⟨e'.symm,rfl⟩⟩
    rw [z1x,if_pos rfl,← h,zwf (z:=z)]
   ·
    rename_i e'
    obtain ⟨v',c'⟩:=x'
    obtain ⟨n,h5,h6⟩:=hs.get h
    have h7:=hb' n h5
    refine ⟨n,?_,.inr (.inl ⟨fun e=>e' e.symm,h,h5⟩)⟩
    rw [z1x,if_neg (fun e=>h7.2 e.symm),z1x,if_neg (by omega)]; exact h6
  ·
   obtain ⟨j,q,h5,h6,h7⟩:=zgr h
   rw [Nat.zero_add] at h5 h7
   refine ⟨base+j,?_,.inr (.inr ⟨h5, by omega⟩)⟩
   rw [z1x,if_neg (by omega),z1x,h7]
   by_cases hj:je.toNat=j
   ·
    subst hj
    rw [if_pos rfl]
    rw [List.getElem?_set_self hlt] at h6
    cases h6
    simp [zx8]
   ·
    rw [if_neg (by omega)]
    rw [List.getElem?_set_ne hj] at h6
    rw [hf j q h6]
    simp [zx8,Ne.symm hj]
 have s5:Sta Γ ((d1,.junk)::(d2,.junk)::l) ((r,some (v,z5w.list zhj T ((zbr vs ls).set je.toNat u)))::(base+je.toNat,some (u,z5w.list R e z))::res) ((a.put (some d1) u).put (some d2) p2) w4:=by
  refine { s4 with slots:=fun t' e' ht'=>?_ }
  rw [z48] at ht'
  split at ht'
  ·
   rename_i hh; subst hh; cases ht'
   obtain ⟨u',h3,_⟩:=s4.slots d1 _ hy3
   exact ⟨_,h3,trivial⟩
  ·
   rename_i hh
   rw [z48] at ht'
   split at ht'
   ·
    rename_i hh2; subst hh2; cases ht'
    obtain ⟨u',h3,_⟩:=s4.slots d2 _ hx3
    exact ⟨_,h3,trivial⟩
   ·
    rename_i hh2
    refine s4.slots t' e' ?_
    rw [z48,if_neg hh,z48,if_neg hh2,z48,if_neg hh]; exact ht'
 refine s5.subG (fun r' x' h=>?_) (fun r1 r2 x1 x2 h1' h2' hne=>?_) (fun _ _ h=>h)
 ·
  obtain ⟨n,h,-⟩:=get r' x' h; exact ⟨n,h⟩
 ·
  obtain ⟨n1,k1,q1⟩:=get r1 x1 h1'
  obtain ⟨n2,k2,q2⟩:=get r2 x2 h2'
  rcases q1 with ⟨a1,a2⟩ | ⟨a1,a2,a3⟩ | ⟨a1,a2⟩ <;> rcases q2 with ⟨b1,b2'⟩ | ⟨b1,b2',b3⟩ | ⟨b1,b2'⟩
  ·
   exact absurd (a1.trans b1.symm) hne
  ·
   exact ⟨n1,n2, by rw [a2]; exact fun e=>(hb' n2 b3).2 e.symm,k1,k2⟩
  ·
   exact ⟨n1,n2, by omega,k1,k2⟩
  ·
   exact ⟨n1,n2, by rw [b2']; exact (hb' n1 a3).2,k1,k2⟩
  ·
   obtain ⟨v1,c1⟩:=x1
   obtain ⟨v2,c2⟩:=x2
   obtain ⟨m1,m2,g1,g2,g3⟩:=hs.get2 a2 b2' hne
   have fix:∀ n x,lr res n=some x→(∃ n',n'∈ns∧n=n')→lr ((r,some (v,z5w.list zhj T ((zbr vs ls).set je.toNat u)))::(base+je.toNat,some (u,z5w.list R e z))::res) n=some x:=fun n x hx ⟨n',h',e'⟩=>by
    subst e'
    rw [z1x,if_neg (fun e=>(hb' n h').2 e.symm),z1x,if_neg (by have:=(hb' n h').1; omega)]; exact hx
   obtain ⟨m1,m2,i1,i2,g1,g2,g3⟩:=hs.get3 a2 b2' hne
   exact ⟨m1,m2,g1,fix m1 _ g2 ⟨m1,i1,rfl⟩,fix m2 _ g3 ⟨m2,i2,rfl⟩⟩
  ·
   exact ⟨n1,n2, by have:=(hb' n1 a3).1; omega,k1,k2⟩
  ·
   exact ⟨n1,n2, by omega,k1,k2⟩
  ·
   exact ⟨n1,n2, by have:=(hb' n2 b3).1; omega,k1,k2⟩
  ·
   exact ⟨n1,n2, by omega,k1,k2⟩
theorem z139 {X:ρ→Act→World→Prop} {v:Value} (hf:z7q res base R T vs ls) (r:Nat) (hr:lr res r=some (v,.list zhj T' (zbr vs ls))) (ns:List Nat) (hs:zct res lits ns) (hn:(ns.all fun n=>Nat.blt n base&&!Nat.beq n r)=true) (hrb:Nat.blt r base=true) (k:GX X (Sta Γ l ((r,some (v,.list (z02 R) T' ls))::lits)) m):GX X (Sta Γ l res) m:=fun a w ha=>k a w (ha.frzFam hf r hr ns hs hn hrb)
theorem z13j {v:Value} (hf:z7q res base R T vs ls) (r:Nat) (hr:lr res r=some (v,.list zhj T' (zbr vs ls))) (ns:List Nat) (hs:zct res lits ns) (hn:(ns.all fun n=>Nat.blt n base&&!Nat.beq n r)=true) (hrb:Nat.blt r base=true) (k:G ro P (Sta Γ l ((r,some (v,.list (z02 R) T' ls))::lits)) c Q m):G ro P (Sta Γ l res) c Q m:=z139 hf r hr ns hs hn hrb k
end
end
section
open Go Go.RowKit
section
variable {P:Program} {T I e ty:TypeId} {ti:TypeInfo} {z:Value} {w:World} {n' sLen sCap:Nat} {base:Option Addr} {olds:Array Value}
theorem zgd (hT:P.underlying T=some (.slice e)) (hI:P.underlying I=some (.int .i64)) (t1:P.info? e=some ti) (t2:ti.zero=some z) (hw:IntKind.i64.wrap (n':Int)=(n':Int)) (hbs:n' * ti.bytes≤281474976710656) (hn:sCap<sLen+n') (h63:sLen+n'≤9223372036854775807) (hfit:Builtin.nextslicecap (sLen+n') sCap * ti.bytes≤281474976710656) (hns:¬ (n' * ti.size=0))
 (ho:∀ w',w'=w.drew→(Builtin.firstCells ti.size sLen (.slice base sLen sCap)).run P w'=.ok olds w') :
 (Builtin.append_ #[T,I] ty #[.slice base sLen sCap,.int .i64 (n':Int)]).run P w=.ok (.slice (some ⟨w.heap.size,0,none⟩) (sLen+n') (grownCap w (sLen+n') sCap e)) (w.drew.alloc (.cells (olds++Builtin.zeroCells z.cells n'++Builtin.zeroCells z.cells (grownCap w (sLen+n') sCap e - (sLen+n'))) e)):=by
 have hti:∀ w',(typeInfo e).run P w'=.ok ti w':=fun w'=>by simp [typeInfo,t1]
 have hzv:∀ w',(zeroValue e).run P w'=.ok z w':=fun w'=>by simp [zeroValue,typeInfo,t1,t2]
 have hsz:∀ w',(sizeOf e).run P w'=.ok ti.size w':=fun w'=>by simp [sizeOf,typeInfo,t1]
 have hai:∀ w',(asInt (.int .i64 (n':Int))).run P w'=.ok (n':Int) w':=fun w'=>rfl
 have hneg:¬ ((n':Int)<0):=by omega
 have h1:¬ ((n':Int) * (ti.bytes:Int) > 2 ^ 48):=by
  have:((n' * ti.bytes:Nat):Int)≤281474976710656:=by have:=Int.ofNat_le.2 hbs; omega
  rw [Int.natCast_mul] at this
  simp only [Int.not_lt,gt_iff_lt]; exact this
 have h2:¬ (sLen+n'≤sCap):=by omega
 have h3:¬ (((sLen+n':Nat):Int) > IntKind.i64.max∧(True∨ti.bytes=0)):=by
  intro h; have:=h.1; simp [IntKind.max,IntKind.bits,IntKind.signed] at this; omega
 have h4:¬ (Builtin.nextslicecap (sLen+n') sCap * ti.bytes > 2 ^ 48):=by
  simp only [gt_iff_lt,Nat.not_lt]; exact hfit
 simp only [Builtin.append_,List.getElem?_toArray,List.getElem?_cons_zero,List.getElem?_cons_succ,Sem.run_bind,run_underlying hT,run_underlying hI,Result.andThen,Sem.run_pure,hsz]
 simp only [if_true,Sem.run_bind,hai,Result.andThen,hw]
 rw [if_neg hneg]
 simp only [Sem.run_bind,hti,Result.andThen]
 rw [if_neg h1]
 simp only [Sem.run_bind,Sem.run_pure,Result.andThen,Int.toNat_natCast]
 rw [if_neg h2]
 simp only [Sem.run_bind,hti,Result.andThen]
 rw [if_neg h3]
 simp only [Sem.run_bind,hti,Result.andThen]
 rw [if_neg h4]
 have ho':=ho w.drew rfl
 simp [Question.forced,ho',hti,hns,hzv,newRow,grownCap,askRoom,Result.andThen]
theorem zpj (hT:P.underlying T=some (.slice e)) (hI:P.underlying I=some (.int .i64)) (t1:P.info? e=some ti) (t2:ti.zero=some z) (hw:IntKind.i64.wrap (n':Int)=(n':Int)) (hbs:n' * ti.bytes≤281474976710656) (hn:sLen+n'≤sCap) {w':World} {a:Addr}
 (hst:(storeCells (a.add (sLen * ti.size)) (if n' * ti.size=0 then [] else (Builtin.zeroCells z.cells n').toList)).run P w=.ok () w') :
 (Builtin.append_ #[T,I] ty #[.slice (some a) sLen sCap,.int .i64 (n':Int)]).run P w=.ok (.slice (some a) (sLen+n') sCap) w':=by
 have hti:∀ w',(typeInfo e).run P w'=.ok ti w':=fun w'=>by simp [typeInfo,t1]
 have hzv:∀ w',(zeroValue e).run P w'=.ok z w':=fun w'=>by simp [zeroValue,typeInfo,t1,t2]
 have hsz:∀ w',(sizeOf e).run P w'=.ok ti.size w':=fun w'=>by simp [sizeOf,typeInfo,t1]
 have hai:∀ w',(asInt (.int .i64 (n':Int))).run P w'=.ok (n':Int) w':=fun w'=>rfl
 have hneg:¬ ((n':Int)<0):=by omega
 have h1:¬ ((n':Int) * (ti.bytes:Int) > 2 ^ 48):=by
  have:((n' * ti.bytes:Nat):Int)≤281474976710656:=by have:=Int.ofNat_le.2 hbs; omega
  rw [Int.natCast_mul] at this
  simp only [Int.not_lt,gt_iff_lt]; exact this
 simp only [Builtin.append_,List.getElem?_toArray,List.getElem?_cons_zero,List.getElem?_cons_succ,Sem.run_bind,run_underlying hT,run_underlying hI,Result.andThen,Sem.run_pure,hsz]
 simp only [if_true,Sem.run_bind,hai,Result.andThen,hw]
 rw [if_neg hneg]
 simp only [Sem.run_bind,hti,Result.andThen]
 rw [if_neg h1]
 simp only [Sem.run_bind,Sem.run_pure,Result.andThen,Int.toNat_natCast]
 rw [if_pos hn]
 by_cases hns:n' * ti.size=0
 ·
  rw [if_pos hns] at hst
  simp [hns,hst]
 ·
  rw [if_neg hns] at hst
  simp [hns,hzv,hst]
end
section
variable {C:World→World→Prop} {ρ:Type} {P:Program} {Γ:Ctx} {l:z3a} {res:Res} {m:Option ρ} {os rest:List Oper} {N:ρ→Exit→Act→World→Prop} {ro:Option Nat} {Q:ρ→Exit→Act→World→Prop} {c:Code} {ex:Exit}
 {d:Tmp} {ty:TypeId} {pos:String} {after:Array Edge} {g:Option (Nat × Bool)} {α:Type}
theorem zi4 {R:Rep α} {T:TypeId} {b:List α} {S:Blk} {w:World} {v:Value} (h:(z5w.list R T b).holds S w v):(z5w.seg R T b).holds S w v:=by
 rcases h with h | ⟨k,o,h1,h2,b',cap,C,rfl,rfl,h3,h4,h5,h6⟩
 ·
  exact .inl h
 ·
  exact .inr ⟨k,_,h1,h2,b',0,cap,C,rfl,rfl,h3,h4,.inr (by omega), by simpa using h6⟩
theorem xSeg {X:ρ→Act→World→Prop} {R:Rep α} {T:TypeId} {b:List α} {v:Value} (r:Nat) (hr:lr res r=some (v,.list R T b)) (k:GX X (Sta Γ l ((r,some (v,.seg R T b))::res)) m):GX X (Sta Γ l res) m:=fun a w ha=>k a w (ha.recont r hr zi4)
theorem gSeg {R:Rep α} {T:TypeId} {b:List α} {v:Value} (r:Nat) (hr:lr res r=some (v,.list R T b)) (k:G ro P (Sta Γ l ((r,some (v,.seg R T b))::res)) c Q m):G ro P (Sta Γ l res) c Q m:=xSeg r hr k
theorem cutS {R:Rep α} {b b':List α} {x:Operand} {lo:Operand} {kk:IntKind} {γ:Type} {f:γ→Int} {jj:γ} {T e:TypeId} {z v:Value} {by_:Nat} (r:Nat) (hx:opE l x=some (.val v)) (hr:lr res r=some (v,.seg R e b)) (hlo:opE l lo=some (.rd (za8 kk f) jj)) (hb:cut b (f jj) (b.length:Int)=some b')
  (hT:P.underlying T=some (.slice e)) (hE:TI P e z R.sz by_):Eff P Γ l res ⟨some d,.slice T x (some lo) none none,ty,pos,after,g⟩ r (fun u=>(u,.seg R e b')):=fun a w ha=>by
 obtain ⟨h1,h2,h3,rfl⟩:=zns hb
 have k5:=(ha.vl hx).1
 have hlen:((b.drop (f jj).toNat).take ((b.length:Int).toNat - (f jj).toNat))=b.drop (f jj).toNat:=List.take_of_length_le (by simp)
 rw [hlen]
 have hl2:(b.drop (f jj).toNat).length=b.length - (f jj).toNat:=by simp
 rcases ha.conts r v _ hr with ⟨rfl,rfl⟩ | ⟨b',ob,g1,g2,bb,off,cap,C,rfl,rfl,g3,g4,g5,g6⟩
 ·
  have hj:(f jj).toNat=0:=by simp at h2; omega
  refine ⟨w,.slice none 0 0,?_,?_,rfl,none,Ext.rfl'.gb, by simp⟩
  ·
   have hb:=zb4 (P:=P) (isS:=true) (n:=0) (cp:=0) (Bnd.to hlo) Bnd.no ha h1 (by simpa using h2) (by simp) (Nat.le_refl _) w
   simp only [hj] at hb
   simp only [execOp,Instr.sliceAt,k5,Sem.run_bind,run_underlying hT,Result.andThen,Instr.slice,Option.map_none] at hb ⊢
   simp only [hb,z2w hE,Sem.run_pure,Result.andThen]
   rfl
  ·
   exact ha.upd r (v:=.slice none 0 0) (wr:=none) Ext.rfl'.gb (by simp) (by simp [z5c]) (fun S' k'=>.inl ⟨rfl, by simp⟩)
 ·
  simp only [z5c,Option.some.injEq] at g1
  subst g1
  have hi:(f jj).toNat≤b.length:=by omega
  refine ⟨w,.slice (if cap=(f jj).toNat then some ⟨bb,off,none⟩ else (some (⟨bb,off,none⟩:Addr)).map (·.add ((f jj).toNat * R.sz))) (b.length - (f jj).toNat) (cap - (f jj).toNat),?_,?_,rfl,none,Ext.rfl'.gb, by simp⟩
  ·
   have hb:=zb4 (P:=P) (isS:=true) (n:=b.length) (cp:=cap) (Bnd.to hlo) Bnd.no ha h1 (by omega) (by omega) g3 w
   simp only [Option.map_none,Option.map_some] at hb
   simp only [execOp,Instr.sliceAt,k5,Sem.run_bind,run_underlying hT,Result.andThen,Instr.slice,hb,z2w hE,Sem.run_pure,Option.map_none,Option.map_some]
   simp only [Int.toNat_natCast]
  ·
   have hrb:∀ q,z5c (.slice (if cap=(f jj).toNat then some ⟨bb,off,none⟩ else (some (⟨bb,off,none⟩:Addr)).map (·.add ((f jj).toNat * R.sz))) (b.length - (f jj).toNat) (cap - (f jj).toNat))=some q→q=bb:=fun q hq=>by
    split at hq
    ·
     simp only [z5c,Option.some.injEq] at hq; exact hq.symm
    ·
     simp only [Option.map_some,z47,z5c,Option.some.injEq] at hq; exact hq.symm
   refine ha.upd r (wr:=none) Ext.rfl'.gb (by simp) (fun q hq=>.inl ⟨_,_,hr, by rw [hrb q hq]; rfl⟩) (fun S' k'=>?_)
   have g7:=(g6.drop (f jj).toNat).mono k'
   by_cases hc:cap=(f jj).toNat
   ·
    have h0:b.length - (f jj).toNat=0:=by omega
    rw [if_pos hc]
    refine .inr ⟨bb,_,rfl,g2,bb,off,cap - (f jj).toNat,C, by rw [hl2],rfl, by rw [hl2]; omega, by omega,.inl (by omega),?_⟩
    rw [hl2,h0]
    have:b.drop (f jj).toNat=[]:=List.drop_eq_nil_of_le (by omega)
    rw [this]; simp [z7o]
   ·
    rw [if_neg hc]
    simp only [Option.map_some,z47]
    refine .inr ⟨bb,_,rfl,g2,bb,off+(f jj).toNat * R.sz,cap - (f jj).toNat,C, by rw [hl2],rfl, by rw [hl2]; omega, by omega,?_,?_⟩
    ·
     rcases g5 with g5 | g5
     ·
      exact .inl (by omega)
     ·
      refine .inr ?_
      have:cap * R.sz=(f jj).toNat * R.sz+(cap - (f jj).toNat) * R.sz:=by rw [← Nat.add_mul]; congr 1; omega
      omega
    ·
     rw [hl2]
     have e1:List.drop ((f jj).toNat * R.sz) ((C.toList.drop off).take (b.length * R.sz))=((C.toList.drop (off+(f jj).toNat * R.sz)).take ((b.length - (f jj).toNat) * R.sz)):=by
      rw [List.drop_take,List.drop_drop,Nat.sub_mul]
     rw [← e1]; exact g7
theorem zj6 {R:Rep α} {e:TypeId} {bl:List α} {S:Blk} {w:World} {C':Array Value} {cp n:Nat} (hn:n=bl.length) (h1:bl.length≤cp) (h2:cp≤maxLen) (h3:C'.size=cp * R.sz) (h4:z7o R S (w.drew.alloc (.cells C' e)) (C'.toList.take (bl.length * R.sz)) bl):(z5w.list R e bl).holds S (w.drew.alloc (.cells C' e)) (.slice (some ⟨w.heap.size,0,none⟩) n cp):=by
 subst hn
 exact .inr ⟨w.heap.size,_,rfl,heap_alloc_new w.drew _,w.heap.size,cp,C',rfl,rfl,h1,h2,h3,h4⟩
theorem zkl (w:World) (o:Obj):w.grownBy (w.drew.alloc o) none:=((Ext.rfl' (w:=w)).dr.tr (Ext.al _ _)).gb
theorem apS {R:Rep α} {b b2 b3:List α} {x y:Operand} {v z:Value} {E:Ent} {T e:TypeId} {by_:Nat} (r:Nat) (hx:opE l x=some (.val v)) (hr:lr res r=some (v,.seg R e b)) (hy:opE l y=some E) (hv:Vw R res E b2) (hb:app by_ b b2=some b3)
  (hT:P.underlying T=some (.slice e)) (hE:TI P e z R.sz by_) (hz:z.cells.size=R.sz) (h0:Nat.blt 0 R.sz=true) (h1:Nat.blt 0 by_=true) :
  Eff P Γ l res ⟨some d,.call ⟨.builtin .append,#[x,y],#[T,T]⟩,ty,pos,after,g⟩ r (fun u=>(u,.seg R e b3)):=fun a w ha=>by
 have h0:0<R.sz:=Eq.mp Nat.blt_eq h0
 have h1:0<by_:=Eq.mp Nat.blt_eq h1
 obtain ⟨hby,rfl⟩:=zs1 hb
 have e1:=(ha.vl hx).1
 obtain ⟨q,c2,news,e2,k1,k2⟩:=hv.get ha (ha.vl hy)
 have hlen:b.length+b2.length≤140737488355328:=Nat.le_trans (Nat.le_mul_of_pos_right _ h1) hby
 have hml:maxLen=9223372036854775807:=rfl
 rcases ha.conts r v _ hr with ⟨rfl,rfl⟩ | ⟨b',ob,g1,g2,bb,off,cap,C,rfl,rfl,g3,g4,g5,g6⟩
 ·
  have ho:w.ownsRow 0 e R.sz (.slice none 0 0) 0 []:=⟨by simp,.inl ⟨rfl,rfl⟩⟩
  obtain ⟨p',c',w',q1,q2,q3,q4⟩:=zjo (rt:=ty) hT hE hz h0 ho k1 k2.one (by simp at hlen; omega) (by simpa using hby) (Nat.zero_le _)
  simp only [Nat.zero_add,List.nil_append] at q1 q2 q4
  refine ⟨w',.slice p' b2.length c',?_,?_,rfl,_,q3, by simp [Value.ownBlock]⟩
  ·
   simp [execOp,resolve,invoke,builtin,e1,e2,q1]
  ·
   refine ha.upd r q3 (by simp [Value.ownBlock]) (fun bb hbb=>?_) (fun S' k'=>zi4 (zlq (B:=0) (xs:=news) (by simpa using q2) (by simpa using k2.mono k')))
   rw [ze6] at hbb
   rcases q4 bb hbb with h | h
   ·
    simp [Value.ownBlock] at h
   ·
    exact .inr h
 ·
  simp only [z5c,Option.some.injEq] at g1
  subst g1
  obtain ⟨ti,t1,t2,t3,t4⟩:=hE
  have hnl:=k1.1
  have hsl:(Value.slice (some ⟨bb,off,none⟩) b.length cap).ownBlock=some bb:=rfl
  have hol:=g6.len
  have hread:∀ j u,((C.toList.drop off).take (b.length * R.sz))[j]? = some u→w.cell? ((⟨bb,off,none⟩:Addr).add j)=some u:=fun j u hu=>by
   rw [z47]
   rw [List.getElem?_take] at hu
   split at hu
   ·
    unfold World.cell?
    rw [g2]
    rw [List.getElem?_drop] at hu
    simpa using hu
   ·
    cases hu
  rcases k1.2 with ⟨hq,hb0⟩ | ⟨qb,qo,qs,qc,hq,q1,q2,q3,q4⟩
  ·
   have hn0:b2=[]:=List.eq_nil_of_length_eq_zero hb0
   subst hn0
   simp only [Value.slice.injEq] at hq
   obtain ⟨rfl,-,rfl⟩:=hq
   have hrun:(Builtin.append_ #[T,T] ty #[.slice (some ⟨bb,off,none⟩) b.length cap,.slice none 0 0]).run P w=.ok (.slice (some ⟨bb,off,none⟩) b.length cap) w:=by
    simp [Builtin.append_,run_underlying hT,sizeOf,typeInfo,t1,Builtin.lenOf,Builtin.firstCells,g3,storeCells]
   refine ⟨w,.slice (some ⟨bb,off,none⟩) b.length cap,?_,?_,rfl,none,Ext.rfl'.gb, by simp⟩
   ·
    have e2':a.eval y=.slice none 0 0:=e2
    simp [execOp,resolve,invoke,builtin,e1,e2',hrun]
   ·
    rw [List.append_nil]
    exact ha.upd r (wr:=none) Ext.rfl'.gb (by simp) (fun q hq=>.inl ⟨_,_,hr,hq⟩) (fun S' k'=>.inr ⟨bb,_,rfl,g2,bb,off,cap,C,rfl,rfl,g3,g4,g5,g6.mono k'⟩)
  ·
   simp only [Value.slice.injEq,true_and] at hq
   obtain ⟨rfl,rfl⟩:=hq
   have hn:∀ j u,news[j]? = some u→w.cell? ((⟨qb,qo,qs⟩:Addr).add j)=some u:=fun j u hu=>by
    rcases q3 with h | rfl
    ·
     rw [h] at hu; simp at hu
    ·
     rw [z47]; exact q4 j u hu
   by_cases hroom:b.length+b2.length≤cap
   ·
    by_cases hc0:cap=0
    ·
     have hb2:b2.length=0:=by omega
     have hn0:b2=[]:=List.eq_nil_of_length_eq_zero hb2
     subst hn0
     have hnn:news=[]:=List.eq_nil_of_length_eq_zero (by rw [hnl]; simp)
     subst hnn
     have hf:=run_firstCells_some (P:=P) w ti.size 0 ⟨qb,qo,qs⟩ 0 c2 [] (by simp) (by simp)
     have hrun:(Builtin.append_ #[T,T] ty #[.slice (some ⟨bb,off,none⟩) b.length cap,.slice (some ⟨qb,qo,qs⟩) 0 c2]).run P w=.ok (.slice (some ⟨bb,off,none⟩) b.length cap) w:=by
      simp [Builtin.append_,run_underlying hT,sizeOf,typeInfo,t1,Builtin.lenOf,hf,g3,storeCells]
     refine ⟨w,.slice (some ⟨bb,off,none⟩) b.length cap,?_,?_,rfl,none,Ext.rfl'.gb, by simp⟩
     ·
      have e2':a.eval y=.slice (some ⟨qb,qo,qs⟩) 0 c2:=e2
      simp [execOp,resolve,invoke,builtin,e1,e2',hrun]
     ·
      rw [List.append_nil]
      exact ha.upd r (wr:=none) Ext.rfl'.gb (by simp) (fun q hq=>.inl ⟨_,_,hr,hq⟩) (fun S' k'=>.inr ⟨bb,_,rfl,g2,bb,off,cap,C,rfl,rfl,g3,g4,g5,g6.mono k'⟩)
    ·
     have hC:off+cap * R.sz=C.size:=by rcases g5 with h | h; exact absurd h hc0; exact h
     have hfit:off+b.length * R.sz+news.length≤C.size:=by
      rw [hnl,← hC]
      have:(b.length+b2.length) * R.sz≤cap * R.sz:=Nat.mul_le_mul_right _ hroom
      rw [Nat.add_mul] at this; omega
     have hf:=run_firstCells_some (P:=P) w ti.size b2.length ⟨qb,qo,qs⟩ b2.length c2 news (by rw [t3]; exact hnl) hn
     have hst:=run_storeCells_at P bb (off+b.length * R.sz) e news 0 C w g2 (by simpa using hfit) k2.one
     simp only [Nat.add_zero] at hst
     obtain ⟨C',hC',hrun⟩:∃ C':Array Value,C'.toList=C.toList.take (off+b.length * R.sz)++news++C.toList.drop (off+b.length * R.sz+news.length)∧(Builtin.append_ #[T,T] ty #[.slice (some ⟨bb,off,none⟩) b.length cap,.slice (some ⟨qb,qo,qs⟩) b2.length c2]).run P w=.ok (.slice (some ⟨bb,off,none⟩) (b.length+b2.length) cap) (w.setRow bb C'):=by
      refine ⟨(C.toList.take (off+b.length * R.sz)++news++C.toList.drop (off+b.length * R.sz+news.length)).toArray,rfl,?_⟩
      rw [t3] at hf
      simp [Builtin.append_,run_underlying hT,sizeOf,typeInfo,t1,t3,Builtin.lenOf,hroom,hf,z47,hst]
     refine ⟨w.setRow bb C',.slice (some ⟨bb,off,none⟩) (b.length+b2.length) cap,?_,?_,rfl,some bb,z9j bb C', fun q hq=>⟨_,_,hr, by cases hq; rfl⟩⟩
     ·
      simp only [execOp,resolve,invoke,builtin,Sem.run_bind]
      simp [e1,e2,hrun]
     ·
      have hCl:C.toList.length=C.size:=by simp
      refine ha.upd r (z9j bb C') (fun q hq=>⟨_,_,hr, by cases hq; rfl⟩) (fun q hq=>.inl ⟨_,_,hr,hq⟩) (fun S' k'=>.inr ⟨bb,_,rfl,setRow_heap w bb C C' e _ g2,bb,off,cap,C', by rw [List.length_append],rfl, by rw [List.length_append]; exact hroom,g4,.inr ?_,?_⟩)
      ·
       rw [hC,← Array.length_toList (xs:=C'),hC']
       simp only [List.length_append,List.length_take,List.length_drop,hCl]
       omega
      ·
       rw [List.length_append,hC']
       have e3:((C.toList.take (off+b.length * R.sz)++news++C.toList.drop (off+b.length * R.sz+news.length)).drop off).take ((b.length+b2.length) * R.sz)=(C.toList.drop off).take (b.length * R.sz)++news:=by
        have:C.toList.take (off+b.length * R.sz)=C.toList.take off++(C.toList.drop off).take (b.length * R.sz):=by rw [List.take_add]
        rw [this,List.append_assoc,List.append_assoc,List.drop_left' (by simp; omega),Nat.add_mul,← hnl]
        rw [← List.append_assoc]
        rw [List.take_left']
        simp only [List.length_append,List.length_take,List.length_drop,hCl]
        omega
       rw [e3]
       exact (g6.mono k').append (k2.mono k')
   ·
    have hfit2:Builtin.nextslicecap (b.length+b2.length) cap * ti.bytes≤281474976710656:=by
     rw [t4]; exact growslice_fits (by omega) (by omega)
    have hge:=grownCap_ge w (b.length+b2.length) cap e
    have hle:=grownCap_le_maxLen w (b.length+b2.length) cap e (by omega)
    obtain ⟨C',hC',hrun⟩:∃ C':Array Value,C'.toList=((C.toList.drop off).take (b.length * R.sz)++news)++(Builtin.zeroCells z.cells (grownCap w (b.length+b2.length) cap e - (b.length+b2.length))).toList∧(Builtin.append_ #[T,T] ty #[.slice (some ⟨bb,off,none⟩) b.length cap,.slice (some ⟨qb,qo,qs⟩) b2.length c2]).run P w=.ok (.slice (some ⟨w.heap.size,0,none⟩) (b.length+b2.length) (grownCap w (b.length+b2.length) cap e)) (w.drew.alloc (.cells C' e)) :=
     ⟨_, by simp,run_append_grow (P:=P) w T ty e ti z hT t1 t2 ⟨bb,off,none⟩ b.length cap _ (by rw [t3]; exact hol) hread ⟨qb,qo,qs⟩ b2.length c2 news (by rw [t3]; exact hnl) hn (by omega) (by omega) hfit2⟩
    refine ⟨w.drew.alloc (.cells C' e),.slice (some ⟨w.heap.size,0,none⟩) (b.length+b2.length) (grownCap w (b.length+b2.length) cap e),?_,?_,rfl,none,zkl w _, by simp⟩
    ·
     simp only [execOp,resolve,invoke,builtin,Sem.run_bind]
     simp [e1,e2,hrun]
    ·
     refine ha.upd r (wr:=none) (zkl w _) (by simp) (fun q hq=>.inr (by simp [z5c] at hq; omega)) (fun S' k'=>zi4 (zj6 (by simp) (by rw [List.length_append]; exact hge) hle ?_ ?_))
     ·
      rw [← Array.length_toList,hC']
      simp only [List.length_append,Array.length_toList,size_zeroCells,hol,hnl,hz]
      have:grownCap w (b.length+b2.length) cap e * R.sz=(b.length+b2.length) * R.sz+(grownCap w (b.length+b2.length) cap e - (b.length+b2.length)) * R.sz:=by rw [← Nat.add_mul]; congr 1; omega
      rw [Nat.add_mul] at this
      omega
     ·
      rw [List.length_append,hC',List.take_left' (by simp only [List.length_append,hol,hnl,Nat.add_mul])]
      exact (g6.mono k').append (k2.mono k')
def Ent.sp {α:Type} (R:Rep α) (v:Value) (b:List α) (y:α):Ent:=⟨fun _ _ u=>∃ k off n cap i,v=.slice (some ⟨k,off,none⟩) n cap∧u=.pointer (some ⟨k,off+i * R.sz,none⟩)∧b[i]? = some y, fun _ h=>h⟩
theorem ixSg {β:Type} {R:Rep α} {b:List α} {y:α} {k:IntKind} {f:β→Int} {j:β} {x z':Operand} {T e E:TypeId} {z v:Value} {by_:Nat} (r:Nat) (hx:opE l x=some (.val v)) (hr:lr res r=some (v,.seg R E b)) (hj:opE l z'=some (.rd (za8 k f) j)) (hy:idx b (f j)=some y) (hT:P.underlying T=some (.slice e)) (hE:TI P e z R.sz by_) :
  Run C P Γ l res ⟨some d,.indexAddr T x z',ty,pos,after,g⟩ (.sp R v b y):=fun a w ha=>by
 have h1:=(ha.vl hx).1
 obtain ⟨k1,k2,k3⟩:=z5r hy
 have hj':a.eval z'=.int k ((f j).toNat:Int):=by rw [z4x (ha.vl hj)]; congr 1; omega
 rcases ha.conts r v _ hr with ⟨_,h2⟩ | ⟨b',o,h2,h3,bb,off,cap,C',rfl,rfl,_⟩
 ·
  rw [h2] at k3; simp at k3
 ·
  refine ⟨.pointer (some ⟨bb,off+(f j).toNat * R.sz,none⟩), fun w' _=>?_,bb,off,b.length,cap,(f j).toNat,rfl,rfl,k2⟩
  generalize (f j).toNat=jn at *
  simp [execOp,h1,hj',Instr.indexAt,asIntOf,run_underlying hT,k3,z2w hE,z47]
theorem ldSg {ws:List Nat} [LC C res ws] {R:Rep α} {b:List α} {y:α} {t T:TypeId} {x:Operand} {v:Value} (r:Nat) (hx:opE l x=some (.sp R v b y)) (hr:lr res r=some (v,.seg R T b)) (hT:zdm P t R.agg R.sz) (hw:ws.contains r=false) :
  Run C P Γ l res ⟨some d,.load t x,ty,pos,after,g⟩ (.rd R y):=fun a w ha=>by
 obtain ⟨k,off,n,cap,i,hv,hu,hi⟩:=ha.vl hx
 rcases ha.conts r v _ hr with ⟨rfl,rfl⟩ | ⟨b',o,h2,h3,bb,off',cap',Cc,rfl,rfl,g3,g4,g5,g6⟩
 ·
  simp at hi
 ·
  simp only [Value.slice.injEq,Option.some.injEq,Addr.mk.injEq] at hv
  obtain ⟨⟨rfl,rfl,-⟩,rfl,rfl⟩:=hv
  obtain ⟨aa,cs,dd,e1,e2,e3,-⟩:=g6.split hi
  have hsplit:Cc.toList=(Cc.toList.take off'++aa)++cs++(dd++(Cc.toList.drop off').drop (b.length * R.sz)):=by
   have h1:Cc.toList=Cc.toList.take off'++((Cc.toList.drop off').take (b.length * R.sz)++(Cc.toList.drop off').drop (b.length * R.sz)):=by rw [List.take_append_drop,List.take_append_drop]
   rw [e1] at h1
   simpa using h1
  have hoff:(Cc.toList.take off'++aa).length=off'+i * R.sz:=by
   have hb0:i<b.length:=(List.getElem?_eq_some_iff.1 hi).1
   have:off'≤Cc.toList.length:=by
    rcases g5 with h | h
    ·
     omega
    ·
     rw [Array.length_toList]; omega
   simp [e2]; omega
  simp only [z5c,Option.some.injEq] at h2
  subst h2
  refine ⟨R.val cs, fun w' hw'=>?_,cs,e3,rfl⟩
  have hb':w'.heap[bb]? = some (.cells Cc T (0,0)):=(CW.at hw' ha hr rfl hw).trans h3
  have:=Bx.load (P:=P) hb' hsplit (R.mono (CW.stay hw') e3) hT
  rw [hoff] at this
  simp [execOp,hu,Instr.loadAt,Instr.sureAddr,this]
def Ent.sub (sz:Nat) (v:Value) (k n:Nat):Ent:=⟨fun _ _ u=>∃ p cap,u=.slice p n cap∧n≤cap∧(n≠0→∃ b,p=some ⟨b,k * sz,none⟩∧z5c v=some b), fun _ h=>h⟩
theorem zt1 {R:Rep α} {b:List α} {x:Operand} {lo hi:Option Operand} {i j:Int} {T e:TypeId} {z v:Value} {by_:Nat} (r:Nat) (hx:opE l x=some (.val v)) (hr:lr res r=some (v,.list R e b)) (hlo:Bnd l 0 lo i) (hhi:Bnd l (b.length:Int) hi j) (hb:0≤i∧i≤j∧j≤(b.length:Int))
  (hT:P.underlying T=some (.slice e)) (hE:TI P e z R.sz by_):Run C P Γ l res ⟨some d,.slice T x lo hi none,ty,pos,after,g⟩ (.sub R.sz v i.toNat (j.toNat - i.toNat)):=fun a w ha=>by
 obtain ⟨h1,h2,h3⟩:=hb
 have k5:=(ha.vl hx).1
 obtain ⟨xs,o1,o2⟩:=zci (ha.conts r v _ hr)
 obtain ⟨p,c,rfl⟩:=zb5 o1
 have hcap:b.length≤c:=by
  rcases o1.2 with ⟨hv,h0⟩ | ⟨g',cap',cur,hv,hbg,hg',hnc,hcm,hcs,htake⟩
  ·
   omega
  ·
   simp only [Value.slice.injEq,true_and] at hv; omega
 refine ⟨.slice (if c=i.toNat then p else p.map (·.add (i.toNat * R.sz))) (j.toNat - i.toNat) (c - i.toNat), fun w' _=>?_,_,_,rfl, by omega, fun hn=>?_⟩
 ·
  have hb:=zb4 (P:=P) (isS:=true) hlo hhi ha h1 h2 h3 hcap w'
  simp only [execOp,Instr.sliceAt,k5,Sem.run_bind,run_underlying hT,Result.andThen,Instr.slice,hb,z2w hE,Sem.run_pure,Option.map_none]
 ·
  rw [if_neg (by omega)]
  rcases o1.2 with ⟨hv,h0⟩ | ⟨g',cap',cur,hv,hbg,hg',hnc,hcm,hcs,htake⟩
  ·
   omega
  ·
   simp only [Value.slice.injEq,true_and] at hv
   rw [hv.1]
   exact ⟨g', by simp [z47],rfl⟩
theorem z13a {x:Operand} {T e:TypeId} {at_:Array TypeId} {sz:Nat} {v:Value} {k n:Nat} (hx:opE l x=some (.sub sz v k n)) (hat:at_[0]? = some T) (hT:P.underlying T=some (.slice e)) :
  Run C P Γ l res ⟨some d,.call ⟨.builtin .len,#[x],at_⟩,ty,pos,after,g⟩ (.rd z0k (n:Int)):=fun a w ha=>by
 obtain ⟨p,cap,h1,h2,h3⟩:=ha.vl hx
 exact ⟨_, fun w' _=>zvo hat hT h1,z92⟩
def subi (k n:Nat) (j:Int):Option Nat:=if 0≤j∧j<(n:Int) then some (k+j.toNat) else none
theorem ixSu {β:Type} {R:Rep α} {b:List α} {k:IntKind} {f:β→Int} {j:β} {x z':Operand} {T e E:TypeId} {z v:Value} {by_ kk n q:Nat} (r:Nat) (hx:opE l x=some (.sub R.sz v kk n)) (hr:lr res r=some (v,.list R E b)) (hj:opE l z'=some (.rd (za8 k f) j)) (hq:subi kk n (f j)=some q) (hT:P.underlying T=some (.slice e)) (hE:TI P e z R.sz by_) :
  Run C P Γ l res ⟨some d,.indexAddr T x z',ty,pos,after,g⟩ (.val (z09 v ((q:Int).toNat * R.sz))):=fun a w ha=>by
 unfold subi at hq
 split at hq
 ·
  rename_i hh
  cases hq
  obtain ⟨p,cap,h1,h2,h3⟩:=ha.vl hx
  obtain ⟨bb,rfl,hb⟩:=h3 (by omega)
  have hj':a.eval z'=.int k ((f j).toNat:Int):=by rw [z4x (ha.vl hj)]; congr 1; omega
  have hpt:z09 v (((kk+(f j).toNat:Nat):Int).toNat * R.sz)=.pointer (some ⟨bb,(kk+(f j).toNat) * R.sz,none⟩):=by unfold z09; rw [hb,Int.toNat_natCast]
  refine ⟨.pointer (some ⟨bb,(kk+(f j).toNat) * R.sz,none⟩), fun w' _=>?_,hpt.symm, by rw [hpt]; rfl⟩
  have hlt:(f j).toNat<n:=by omega
  rw [Nat.add_mul]
  generalize (f j).toNat=jn at *
  simp [execOp,h1,hj',Instr.indexAt,asIntOf,run_underlying hT,hlt,z2w hE,z47]
 ·
  cases hq
def clr {α:Type} (b:List α) (k n:Nat) (x0:α):List α:=b.take k++(List.replicate n x0++b.drop (k+n))
theorem zjr {z:Array Value} {n:Nat} (h0:0<z.size):(Builtin.zeroCells z n).toList=(List.replicate n z.toList).flatten:=by
 rw [← zp4 rfl h0]; rfl
theorem clrS {R:Rep α} {b:List α} {x0:α} {x:Operand} {T e:TypeId} {at_:Array TypeId} {z v:Value} {by_ k n:Nat} (r:Nat) (hx:opE l x=some (.sub R.sz v k n)) (hr:lr res r=some (v,.list R e b)) (hc:k+n≤b.length) (hat:at_[0]? = some T) (hT:P.underlying T=some (.slice e)) (hE:TI P e z R.sz by_) (hz:Zr R z.cells.toList x0) (h0:Nat.blt 0 R.sz=true) :
  ∀ a w,Sta Γ l res a w→∃ w' u,(execOp a.eval ⟨none,.call ⟨.builtin .clear,#[x],at_⟩,ty,pos,after,none⟩).run P w=.ok (.value u) w'∧Sta Γ l ((r,some (v,.list R e (clr b k n x0)))::res) a w':=fun a w ha=>by
 have h0:0<R.sz:=Eq.mp Nat.blt_eq h0
 obtain ⟨p,cap,h1,h2,h3⟩:=ha.vl hx
 have hzl:z.cells.size=R.sz:=by rw [← Array.length_toList]; exact R.len (hz (fun _=>True) w)
 by_cases hn:n=0
 ·
  subst hn
  have hrun:(Builtin.clear_ at_ ty #[.slice p 0 cap]).run P w=.ok (.tuple #[]) w:=by
   cases p <;> simp [Builtin.clear_,hat,run_underlying hT]
  refine ⟨w,.tuple #[], by simp [execOp,resolve,invoke,builtin,h1,hrun],?_⟩
  have e:clr b k 0 x0=b:=by simp [clr]
  rw [e]
  exact ha.recont r hr id
 ·
  obtain ⟨bb,rfl,hb⟩:=h3 hn
  rcases ha.conts r v _ hr with ⟨rfl,_⟩ | ⟨b',o,g1,g2,b2,cp,C,rfl,rfl,g3,g4,g5,g6⟩
  ·
   cases hb
  ·
   simp only [z5c,Option.some.injEq] at g1 hb
   subst g1; subst hb
   have hfl:=zjr (n:=n) (z:=z.cells) (by omega)
   have hll:((List.replicate n z.cells.toList).flatten).length=n * R.sz:=by simp [hzl]
   have hfit:k * R.sz+(Builtin.zeroCells z.cells n).toList.length≤C.size:=by
    rw [hfl,hll,g5,← Nat.add_mul]
    exact Nat.mul_le_mul_right _ (by omega)
   have hone:∀ u∈(Builtin.zeroCells z.cells n).toList,u.oneCell'=true:=fun u hu=>by
    rw [hfl] at hu
    simp only [List.mem_flatten,List.mem_replicate] at hu
    obtain ⟨q,⟨-,rfl⟩,hu⟩:=hu
    exact R.one (hz (fun _=>True) w) u hu
   have hst:=run_storeCells_at P b2 (k * R.sz) e (Builtin.zeroCells z.cells n).toList 0 C w g2 (by simpa using hfit) hone
   simp only [Nat.add_zero] at hst
   obtain ⟨C',hC',hrun⟩:∃ C':Array Value,C'.toList=C.toList.take (k * R.sz)++(List.replicate n z.cells.toList).flatten++C.toList.drop (k * R.sz+n * R.sz)∧(Builtin.clear_ at_ ty #[.slice (some ⟨b2,k * R.sz,none⟩) n cap]).run P w=.ok (.tuple #[]) (w.setRow b2 C'):=by
    refine ⟨(C.toList.take (k * R.sz)++(Builtin.zeroCells z.cells n).toList++C.toList.drop (k * R.sz+(Builtin.zeroCells z.cells n).toList.length)).toArray,?_,?_⟩
    rotate_left
    ·
     obtain ⟨n',rfl⟩:∃ n',n=n'+1:=⟨n - 1, by omega⟩
     simp only [Builtin.clear_,hat,Sem.run_bind,run_underlying hT,Result.andThen,ze3 hE,hst,Sem.run_pure,List.getElem?_toArray,List.getElem?_cons_zero]
    ·
     simp only [hfl,hll]
   refine ⟨w.setRow b2 C',.tuple #[], by simp [execOp,resolve,invoke,builtin,h1,hrun],?_⟩
   refine (ha.upd r (z9j b2 C') (fun q hq=>⟨_,_,hr, by cases hq; rfl⟩) (fun q hq=>.inl ⟨_,_,hr,hq⟩) (fun S' k'=>?_)).1
   have hrel:=(g6.mono k')
   have hcl:(clr b k n x0).length=b.length:=by simp [clr]; omega
   have hbl:(k+n) * R.sz≤b.length * R.sz:=Nat.mul_le_mul_right _ hc
   have hCl:C.toList.length=cp * R.sz:=by simpa using g5
   have hcp:b.length * R.sz≤cp * R.sz:=Nat.mul_le_mul_right _ g3
   rw [Nat.add_mul] at hbl
   refine .inr ⟨b2,_,rfl,setRow_heap w b2 C C' e _ g2,b2,cp,C', by rw [hcl],rfl, by rw [hcl]; exact g3,g4,?_,?_⟩
   ·
    rw [← Array.length_toList,hC']
    simp only [List.length_append,List.length_take,List.length_drop,hCl,hll]
    omega
   ·
    rw [hcl,hC']
    have e1:(C.toList.take (k * R.sz)++(List.replicate n z.cells.toList).flatten++C.toList.drop (k * R.sz+n * R.sz)).take (b.length * R.sz)
      = (C.toList.take (b.length * R.sz)).take (k * R.sz)++((List.replicate n z.cells.toList).flatten++(C.toList.take (b.length * R.sz)).drop ((k+n) * R.sz)):=by
     have l1:(C.toList.take (k * R.sz)).length=k * R.sz:=by rw [List.length_take]; omega
     rw [List.take_take,Nat.min_eq_left (by omega),List.append_assoc,List.take_append,List.take_append,List.take_take,hll,l1]
     rw [Nat.min_eq_right (by omega),List.take_of_length_le (l:=(List.replicate n z.cells.toList).flatten) (by rw [hll]; omega),List.drop_take,Nat.add_mul]
     congr 3
     omega
    rw [e1]
    refine (hrel.take k).append ((hz.rep S' _ n).append ?_)
    exact hrel.drop (k+n)
theorem cutO {R:Rep α} {b b':List α} {x:Operand} {hi:Operand} {kk:IntKind} {γ:Type} {f:γ→Int} {jj:γ} {T e:TypeId} {z v:Value} {by_:Nat} (r:Nat) (hx:opE l x=some (.val v)) (hr:lr res r=some (v,.list R e b)) (hhi:opE l hi=some (.rd (za8 kk f) jj)) (hb:cut b 0 (f jj)=some b')
  (hT:P.underlying T=some (.slice e)) (hE:TI P e z R.sz by_):Eff P Γ l res ⟨some d,.slice T x none (some hi) none,ty,pos,after,g⟩ r (fun u=>(u,.list R e b')):=fun a w ha=>by
 obtain ⟨h1,h2,h3,rfl⟩:=zns hb
 have k5:=(ha.vl hx).1
 have e0:((b.drop (0:Int).toNat).take ((f jj).toNat - (0:Int).toNat))=b.take (f jj).toNat:=by simp
 rw [e0]
 have hl2:(b.take (f jj).toNat).length=(f jj).toNat:=by simp; omega
 rcases ha.conts r v _ hr with ⟨rfl,rfl⟩ | ⟨b',ob,g1,g2,bb,cap,C,rfl,rfl,g3,g4,g5,g6⟩
 ·
  have hj:(f jj).toNat=0:=by simp at h3; omega
  refine ⟨w,.slice none 0 0,?_,?_,rfl,none,Ext.rfl'.gb, by simp⟩
  ·
   have hb:=zb4 (P:=P) (isS:=true) (n:=0) (cp:=0) Bnd.no (Bnd.to hhi) ha (Int.le_refl _) h2 (by simpa using h3) (Nat.le_refl _) w
   simp only [hj] at hb
   simp only [execOp,Instr.sliceAt,k5,Sem.run_bind,run_underlying hT,Result.andThen,Instr.slice,Option.map_none] at hb ⊢
   simp only [hb,z2w hE,Sem.run_pure,Result.andThen]
   rfl
  ·
   exact ha.upd r (v:=.slice none 0 0) (wr:=none) Ext.rfl'.gb (by simp) (by simp [z5c]) (fun S' k'=>.inl ⟨rfl, by simp⟩)
 ·
  simp only [z5c,Option.some.injEq] at g1
  subst g1
  refine ⟨w,.slice (some ⟨bb,0,none⟩) (f jj).toNat cap,?_,?_,rfl,none,Ext.rfl'.gb, by simp⟩
  ·
   have hb:=zb4 (P:=P) (isS:=true) (n:=b.length) (cp:=cap) Bnd.no (Bnd.to hhi) ha (Int.le_refl _) h2 h3 g3 w
   simp only [Option.map_none,Option.map_some] at hb
   simp only [execOp,Instr.sliceAt,k5,Sem.run_bind,run_underlying hT,Result.andThen,Instr.slice,hb,z2w hE,Sem.run_pure,Option.map_none,Option.map_some]
   simp [z47]
  ·
   refine ha.upd r (wr:=none) Ext.rfl'.gb (by simp) (fun q hq=>.inl ⟨_,_,hr,hq⟩) (fun S' k'=>?_)
   refine .inr ⟨bb,_,rfl,g2,bb,cap,C, by rw [hl2],rfl, by rw [hl2]; omega,g4,g5,?_⟩
   have g7:=(g6.mono k').take (f jj).toNat
   rw [List.take_take,Nat.min_eq_left (Nat.mul_le_mul_right _ (by omega))] at g7
   rw [hl2]; exact g7
theorem capN {x:Operand} {T e:TypeId} {at_:Array TypeId} (hx:opE l x=some (.val (.slice none 0 0))) (hat:at_[0]? = some T) (hT:P.underlying T=some (.slice e)) :
  Run C P Γ l res ⟨some d,.call ⟨.builtin .cap,#[x],at_⟩,ty,pos,after,g⟩ (.rd z0k 0):=fun a w ha=>by
 have h1:=(ha.vl hx).1
 refine ⟨.int .i64 0, fun w' _=>?_,z92⟩
 simp [execOp,resolve,invoke,builtin,Builtin.cap_,h1,hat,run_underlying hT,goInt]
theorem cutN {x hi:Operand} {T e:TypeId} {z:Value} {sz by_:Nat} (hx:opE l x=some (.val (.slice none 0 0))) (hhi:opE l hi=some (.rd z0k 0)) (hT:P.underlying T=some (.slice e)) (hE:TI P e z sz by_) :
  Run C P Γ l res ⟨some d,.slice T x none (some hi) none,ty,pos,after,g⟩ (.val (.slice none 0 0)):=fun a w ha=>by
 have h1:=(ha.vl hx).1
 refine ⟨.slice none 0 0, fun w' _=>?_,rfl,rfl⟩
 have hb:=zb4 (P:=P) (isS:=true) (n:=0) (cp:=0) Bnd.no (Bnd.to (k:=.i64) (f:=id) hhi) ha (Int.le_refl _) (Int.le_refl _) (Int.le_refl _) (Nat.le_refl _) w'
 simp only [execOp,Instr.sliceAt,h1,Sem.run_bind,run_underlying hT,Result.andThen,Instr.slice,Option.map_none] at hb ⊢
 simp only [hb,z2w hE,Sem.run_pure,Result.andThen]
 rfl
theorem apZ {R:Rep α} {x0:α} {b:List α} {x y:Operand} {z:Value} {T I e:TypeId} {by_:Nat} {n:Int} (r:Nat) (hx:opE l x=some (.val (.slice none 0 0))) (hy:opE l y=some (.rd z0k n)) (hb:mkn (2 * by_) x0 n=some b)
  (hT:P.underlying T=some (.slice e)) (hI:P.underlying I=some (.int .i64)) (hE:TI P e z R.sz by_) (hz:Zr R z.cells.toList x0) (h0:Nat.blt 0 R.sz=true) :
  Eff P Γ l res ⟨some d,.call ⟨.builtin .append,#[x,y],#[T,I]⟩,ty,pos,after,g⟩ r (fun u=>(u,.list R e b)):=fun a w ha=>by
 have h0:0<R.sz:=Eq.mp Nat.blt_eq h0
 obtain ⟨h1,h2,h3,rfl⟩:=zla hb
 obtain ⟨n',rfl⟩:∃ n':Nat,n=(n':Int):=⟨n.toNat, by omega⟩
 simp only [Int.toNat_natCast] at h2 h3 ⊢
 have e1:=(ha.vl hx).1
 have e2:=z4x (ha.vl hy)
 simp only [id] at e2
 obtain ⟨ti,g1,g2,g3,g4⟩:=hE
 have hzs:z.cells.size=R.sz:=by rw [← Array.length_toList]; exact R.len (hz (fun _=>True) w)
 have hw:IntKind.i64.wrap (n':Int)=(n':Int):=zgk (by omega) (by omega)
 by_cases hn:n'=0
 ·
  subst hn
  have hrun:(Builtin.append_ #[T,I] ty #[.slice none 0 0,.int .i64 0]).run P w=.ok (.slice none 0 0) w:=by
   have hw0:IntKind.i64.wrap 0=0:=by decide
   simp [Builtin.append_,run_underlying hT,run_underlying hI,sizeOf,typeInfo,g1,asInt,asIntOf,hw0,storeCells]
  refine ⟨w,.slice none 0 0,?_,?_,rfl,none,Ext.rfl'.gb, by simp⟩
  ·
   simp [execOp,resolve,invoke,builtin,e1,e2,hrun]
  ·
   exact ha.upd r (v:=.slice none 0 0) (wr:=none) Ext.rfl'.gb (by simp) (by simp [z5c]) (fun S' k'=>.inl ⟨rfl,rfl⟩)
 ·
  have hbs:n' * ti.bytes≤281474976710656:=by
   rw [g4,Nat.mul_comm]; rw [Nat.mul_assoc] at h2; omega
  have hfit:Builtin.nextslicecap n' 0 * ti.bytes≤281474976710656:=by
   rw [nextslicecap_zero (by omega),g4]
   rw [Nat.mul_assoc,Nat.mul_comm by_] at h2; omega
  have hge:=grownCap_ge w n' 0 e
  have hle:=grownCap_le_maxLen w n' 0 e (by unfold maxLen; omega)
  have hfit':¬ (281474976710656<Builtin.nextslicecap n' 0 * ti.bytes):=by omega
  have hns:¬ (n' * ti.size=0):=by
   rw [g3]; intro hh; rcases Nat.mul_eq_zero.1 hh with h | h <;> omega
  obtain ⟨C',hC',hrun⟩:∃ C':Array Value,C'.toList=(Builtin.zeroCells z.cells n').toList++(Builtin.zeroCells z.cells (grownCap w n' 0 e - n')).toList∧(Builtin.append_ #[T,I] ty #[.slice none 0 0,.int .i64 (n':Int)]).run P w=.ok (.slice (some ⟨w.heap.size,0,none⟩) n' (grownCap w n' 0 e)) (w.drew.alloc (.cells C' e)):=by
   refine ⟨Builtin.zeroCells z.cells n'++Builtin.zeroCells z.cells (grownCap w n' 0 e - n'), by simp,?_⟩
   have:=zgd (w:=w) (ty:=ty) (sLen:=0) (sCap:=0) (base:=none) (olds:=#[]) hT hI g1 g2 hw (by have:=hbs; omega) (by omega) (by omega) (by rw [Nat.zero_add]; omega) hns (fun w' _=>run_firstCells_none w' _ 0 0 0)
   simpa using this
  refine ⟨w.drew.alloc (.cells C' e),.slice (some ⟨w.heap.size,0,none⟩) n' (grownCap w n' 0 e),?_,?_,rfl,none,zkl w _, by simp⟩
  ·
   simp only [execOp,resolve,invoke,builtin,Sem.run_bind]
   simp [e1,e2,hrun]
  ·
   refine ha.upd r (wr:=none) (zkl w _) (by simp) (fun q hq=>.inr (by simp [z5c] at hq; omega)) (fun S' k'=>zj6 (by simp) (by simp; exact hge) hle ?_ ?_)
   ·
    rw [← Array.length_toList,hC']
    simp only [List.length_append,Array.length_toList,size_zeroCells,hzs]
    rw [← Nat.add_mul]; congr 1; omega
   ·
    simp only [List.nil_append,List.length_replicate]
    rw [hC',zjr (by omega),List.take_left' (by simp [hzs])]
    exact hz.rep _ _ _
theorem idxV {β:Type} {n:Nat} {R:Rep α} {b:Vector α n} {y:α} {k:IntKind} {f:β→Int} {j:β} {x z':Operand} {T e:TypeId} {z:Value} {by_:Nat} (hx:opE l x=some (.rd (z06 n R) b)) (hj:opE l z'=some (.rd (za8 k f) j)) (hy:z86 b (f j)=some y) (hT:P.underlying T=some (.array n e)) (hE:TI P e z R.sz by_) (hTy:zdm P e R.agg R.sz) :
  Run C P Γ l res ⟨some d,.index T x z',ty,pos,after,g⟩ (.rd R y):=fun a w ha=>by
 obtain ⟨cs,h1,h2⟩:=ha.vl hx
 obtain ⟨k1,k3⟩:=zny hy
 have hj':a.eval z'=.int k ((f j).toNat:Int):=by rw [z4x (ha.vl hj)]; congr 1; omega
 have hy':b.toList[(f j).toNat]? = some y:=by
  have:=hy
  unfold z86 idx at this
  rw [if_pos k1] at this
  simpa using this
 obtain ⟨aa,c,dd,e1,e2,e3,-⟩:=z7o.split h1 hy'
 refine ⟨R.val c, fun w' _=>?_,c,e3,rfl⟩
 have p1:=zfu (P:=P) (xs:=cs.toArray) (by simpa using e1) e3 hTy w'
 rw [e2] at p1
 have h2':a.eval x=.agg cs.toArray:=h2
 generalize (f j).toNat=jn at *
 simp [execOp,Instr.index,h2',hj',asIntOf,run_underlying hT,k3,z2w hE,p1]
theorem ixH {β:Type} {n:Nat} {R:Rep α} {b:Vector α n} {y:α} {k:IntKind} {f:β→Int} {j:β} {x z':Operand} {T e:TypeId} {z v:Value} {by_ q:Nat} {c:z5w} {upd:Vector α n→z5w} (r:Nat) (hx:opE l x=some (.val (z09 v q))) (hr:lr res r=some (v,c)) (hf:Foc c q (z06 n R) b upd) (hj:opE l z'=some (.rd (za8 k f) j)) (hy:z86 b (f j)=some y) (hT:P.underlying T=some (.array n e)) (hE:TI P e z R.sz by_) :
  Run C P Γ l res ⟨some d,.indexAddr T x z',ty,pos,after,g⟩ (.val (z09 v (q+(f j).toNat * R.sz))):=fun a w ha=>by
 have h1:=(ha.vl hx).1
 obtain ⟨k1,k3⟩:=zny hy
 have hj':a.eval z'=.int k ((f j).toNat:Int):=by rw [z4x (ha.vl hj)]; congr 1; omega
 rcases ha.conts r v c hr with h2 | ⟨b',o,h2,h3,h4⟩
 ·
  exact (hf.1 _ _ v h2).elim
 ·
  obtain ⟨bb,C',T',a',cs,dd,q1,-⟩:=hf.2 _ w v o h4
  rw [zei q1] at h1 ⊢
  exact ⟨_, fun w' _=>zfn hT hE h1 hj' rfl k3 rfl,rfl,rfl⟩
theorem z13i {R:Rep α} {n i j:Nat} {v:Vector α n} {x:Operand} {lo hi:Option Operand} {T e:TypeId} {z:Value} {by_:Nat} (hx:opE l x=some (.rp (z06 n R) v)) (hlo:Bnd l 0 lo (i:Int)) (hhi:Bnd l (n:Int) hi (j:Int)) (hT:P.underlying T=some (.array n e)) (hE:TI P e z R.sz by_) (hij:i≤j∧j≤n) (hn:Nat.blt i n=true) (hm:Nat.ble n 281474976710656=true) (h0:Nat.blt 0 R.sz=true) :
  Run C P Γ l res ⟨some d,.slice T x lo hi none,ty,pos,after,g⟩ (.rd (z02 R) ((v.toList.drop i).take (j - i))):=fun a w ha=>by
 have hn:i<n:=Eq.mp Nat.blt_eq hn
 have hm:n≤281474976710656:=Nat.le_of_ble_eq_true hm
 obtain ⟨b,o,cs,h1,h2,h3,h4⟩:=ha.vl hx
 have hlen:((v.toList.drop i).take (j - i)).length=j - i:=by simp; omega
 have hrel:z7o R (Shr Γ.H res w) w ((cs.drop (i * R.sz)).take ((j - i) * R.sz)) ((v.toList.drop i).take (j - i)):=(z7o.drop i (show z7o R _ w cs v.toList from h3)).take (j - i)
 refine ⟨.slice (some ⟨b,o+i * R.sz,none⟩) ((v.toList.drop i).take (j - i)).length (n - i), fun w' _=>?_,_,⟨some ⟨b,o+i * R.sz,none⟩,n - i,_,rfl,⟨hrel.len,.inr ⟨b,o+i * R.sz,none,n - i,rfl, by omega, by unfold maxLen; omega,.inr rfl, fun q u hu=>?_⟩⟩,hrel, fun _ bb hbb=>by cases hbb; exact h2⟩,rfl⟩
 ·
  rw [hlen]
  have hb:=zb4 (P:=P) (isS:=false) (n:=n) (cp:=n) hlo hhi ha (by omega) (by omega) (by omega) (Nat.le_refl _) w'
  simp only [Int.toNat_natCast] at hb
  have hne:¬ n=i:=by omega
  simp [execOp,h1,Instr.sliceAt,run_underlying hT,hb,Instr.sureAddr,z2w hE,Sem.run_pure,z47,hne]
 ·
  rw [List.getElem?_take] at hu
  split at hu
  ·
   rw [List.getElem?_drop] at hu
   have:=h4 _ u hu
   rw [show o+i * R.sz+q=o+(i * R.sz+q) by omega]; exact this
  ·
   cases hu
theorem fldV {β:Type} {R:Rep α} {R2:Rep β} {b:α} {y:β} {off i:Nat} {set:β→α} {x:Operand} {T ft:TypeId} {fs:Array Field} (hx:opE l x=some (.rd R b)) (hp:z6d R b off R2 y set) (hag:R.agg=true) (hT:P.underlying T=some (.struct fs)) (hf:(fs[i]?).map (fun f=>(f.type,f.offset))=some (ft,off)) (hTy:zdm P ft R2.agg R2.sz) :
  Run C P Γ l res ⟨some d,.field T x i,ty,pos,after,g⟩ (.rd R2 y):=fun a w ha=>by
 obtain ⟨cs,h1,h2⟩:=ha.vl hx
 obtain ⟨aa,c,dd,e1,e2,e3,-⟩:=hp _ _ _ h1
 have h2':a.eval x=.agg cs.toArray:=by rw [h2]; simp [Rep.val,hag]
 obtain ⟨f,hf1,hf2⟩:=Option.map_eq_some_iff.1 hf
 simp only [Prod.mk.injEq] at hf2
 obtain ⟨rfl,rfl⟩:=hf2
 refine ⟨R2.val c, fun w' _=>?_,c,e3,rfl⟩
 have p1:=zfu (P:=P) (xs:=cs.toArray) (by simpa using e1) e3 hTy w'
 rw [e2] at p1
 simp [execOp,Instr.field,h2',run_underlying hT,hf1,asAgg,p1]
theorem zx6 {β:Type} {R:Rep β} {y:β} {upd:β→z5w} {x:Operand} {v:Value} {k:Nat} {c:z5w} (r:Nat) (hx:opE l x=some (.val (z09 v k))) (hr:lr res r=some (v,c)) (hf:Foc c k R y upd):Run C P Γ l res ⟨some d,.nilCheck x,ty,pos,after,g⟩ (.val (z09 v k)):=fun a w ha=>by
 have h1:=(ha.vl hx).1
 rcases ha.conts r v c hr with h2 | ⟨b,o,h2,h3,h4⟩
 ·
  exact (hf.1 _ _ v h2).elim
 ·
  obtain ⟨b',C',T,a',cs,dd,k1,-⟩:=hf.2 _ w v o h4
  rw [zei k1] at h1 ⊢
  exact ⟨_, fun w' _=>by simp [execOp,h1],rfl,rfl⟩
def appz {α:Type} (by_:Nat) (b:List α) (x:α) (n:Int):Option (List α):=if 0≤n∧(b.length+n.toNat) * by_≤140737488355328 then some (b++List.replicate n.toNat x) else none
theorem zv3 {by_:Nat} {b d:List α} {x:α} {n:Int} (h:appz by_ b x n=some d):0≤n∧(b.length+n.toNat) * by_≤140737488355328∧b++List.replicate n.toNat x=d:=by
 unfold appz at h; split at h
 ·
  rename_i hh; cases h; exact ⟨hh.1,hh.2,rfl⟩
 ·
  cases h
theorem apZO {R:Rep α} {x0:α} {b b3:List α} {x y:Operand} {v z:Value} {T I e:TypeId} {by_:Nat} {n:Int} (r:Nat) (hx:opE l x=some (.val v)) (hr:lr res r=some (v,.list R e b)) (hy:opE l y=some (.rd z0k n)) (hb:appz by_ b x0 n=some b3)
  (hT:P.underlying T=some (.slice e)) (hI:P.underlying I=some (.int .i64)) (hE:TI P e z R.sz by_) (hz:Zr R z.cells.toList x0) (h0:Nat.blt 0 R.sz=true) (h1:Nat.blt 0 by_=true:=by rfl) :
  Eff P Γ l res ⟨some d,.call ⟨.builtin .append,#[x,y],#[T,I]⟩,ty,pos,after,g⟩ r (fun u=>(u,.list R e b3)):=fun a w ha=>by
 have h0:0<R.sz:=Eq.mp Nat.blt_eq h0
 have h1:0<by_:=Eq.mp Nat.blt_eq h1
 obtain ⟨hn0,hby,rfl⟩:=zv3 hb
 obtain ⟨n',rfl⟩:∃ n':Nat,n=(n':Int):=⟨n.toNat, by omega⟩
 simp only [Int.toNat_natCast] at hby ⊢
 have e1:=(ha.vl hx).1
 have e2:=z4x (ha.vl hy)
 simp only [id] at e2
 obtain ⟨ti,t1,t2,t3,t4⟩:=hE
 have hzs:z.cells.size=R.sz:=by rw [← Array.length_toList]; exact R.len (hz (fun _=>True) w)
 have hlen:b.length+n'≤140737488355328:=Nat.le_trans (Nat.le_mul_of_pos_right _ h1) hby
 have hml:maxLen=9223372036854775807:=rfl
 have hw:IntKind.i64.wrap (n':Int)=(n':Int):=zgk (by omega) (by omega)
 have hbn':n' * ti.bytes≤281474976710656:=by
  rw [t4]
  have:n' * by_≤140737488355328:=Nat.le_trans (Nat.mul_le_mul_right _ (by omega)) hby
  omega
 have hfl:=zjr (n:=n') (z:=z.cells) (by omega)
 have hll:((List.replicate n' z.cells.toList).flatten).length=n' * R.sz:=by simp [hzs]
 have hone:∀ u∈(Builtin.zeroCells z.cells n').toList,u.oneCell'=true:=fun u hu=>by
  rw [hfl] at hu
  simp only [List.mem_flatten,List.mem_replicate] at hu
  obtain ⟨q,⟨-,rfl⟩,hu⟩:=hu
  exact R.one (hz (fun _=>True) w) u hu
 obtain ⟨xs,o1,o2⟩:=zci (ha.conts r v _ hr)
 rcases o1.2 with ⟨rfl,hb0⟩ | ⟨g',cap,cur,rfl,hbg,hg',hnc,hcm,hcs,htake⟩
 ·
  have hbn:b=[]:=List.eq_nil_of_length_eq_zero hb0
  subst hbn
  by_cases hn:n'=0
  ·
   subst hn
   have hrun:(Builtin.append_ #[T,I] ty #[.slice none 0 0,.int .i64 0]).run P w=.ok (.slice none 0 0) w:=by
    have hw0:IntKind.i64.wrap 0=0:=by decide
    simp [Builtin.append_,run_underlying hT,run_underlying hI,sizeOf,typeInfo,t1,asInt,asIntOf,hw0,storeCells]
   refine ⟨w,.slice none 0 0,?_,?_,rfl,none,Ext.rfl'.gb, by simp⟩
   ·
    simp [execOp,resolve,invoke,builtin,e1,e2,hrun]
   ·
    exact ha.upd r (v:=.slice none 0 0) (wr:=none) Ext.rfl'.gb (by simp) (by simp [z5c]) (fun S' k'=>.inl ⟨rfl,rfl⟩)
  ·
   have hge:=grownCap_ge w n' 0 e
   have hle:=grownCap_le_maxLen w n' 0 e (by omega)
   have hfit':¬ (281474976710656<Builtin.nextslicecap n' 0 * ti.bytes):=by
    rw [nextslicecap_zero (by omega),t4]
    simp only [List.length_nil,Nat.zero_add] at hby; omega
   have h63:¬ ((9223372036854775807:Int)<(n':Int)):=by omega
   have hns:¬ (n' * ti.size=0):=by
    rw [t3]; intro hh; rcases Nat.mul_eq_zero.1 hh with h | h <;> omega
   obtain ⟨C',hC',hrun⟩:∃ C':Array Value,C'.toList=(Builtin.zeroCells z.cells n').toList++(Builtin.zeroCells z.cells (grownCap w n' 0 e - n')).toList∧(Builtin.append_ #[T,I] ty #[.slice none 0 0,.int .i64 (n':Int)]).run P w=.ok (.slice (some ⟨w.heap.size,0,none⟩) n' (grownCap w n' 0 e)) (w.drew.alloc (.cells C' e)):=by
    refine ⟨Builtin.zeroCells z.cells n'++Builtin.zeroCells z.cells (grownCap w n' 0 e - n'), by simp,?_⟩
    have:=zgd (w:=w) (ty:=ty) (sLen:=0) (sCap:=0) (base:=none) (olds:=#[]) hT hI t1 t2 hw hbn' (by omega) (by omega) (by rw [Nat.zero_add]; omega) hns (fun w' _=>run_firstCells_none w' _ 0 0 0)
    simpa using this
   refine ⟨w.drew.alloc (.cells C' e),.slice (some ⟨w.heap.size,0,none⟩) n' (grownCap w n' 0 e),?_,?_,rfl,none,zkl w _, by simp⟩
   ·
    simp only [execOp,resolve,invoke,builtin,Sem.run_bind]
    simp [e1,e2,hrun]
   ·
    refine ha.upd r (wr:=none) (zkl w _) (by simp) (fun q hq=>.inr (by simp [z5c] at hq; omega)) (fun S' k'=>zj6 (by simp) (by simp; exact hge) hle ?_ ?_)
    ·
     rw [← Array.length_toList,hC']
     simp only [List.length_append,Array.length_toList,size_zeroCells,hzs]
     rw [← Nat.add_mul]; congr 1; omega
    ·
     simp only [List.nil_append,List.length_replicate]
     rw [hC',zjr (by omega),List.take_left' (by simp [hzs])]
     exact hz.rep _ _ _
 ·
  have hrow:Bx w g' cur e:=hg'
  have hxl:=o1.1
  have hread:∀ j u,xs[j]? = some u→w.cell? ((⟨g',0,none⟩:Addr).add j)=some u:=fun j u hu=>o1.cells (g:=g') rfl j u hu
  by_cases hroom:b.length+n'≤cap
  ·
   have hfit:b.length * R.sz+(Builtin.zeroCells z.cells n').toList.length≤cur.size:=by
    rw [hfl,hll,hcs,← Nat.add_mul]; exact Nat.mul_le_mul_right _ hroom
   have hst:=run_storeCells_at P g' (b.length * R.sz) e (Builtin.zeroCells z.cells n').toList 0 cur w hg' (by simpa using hfit) hone
   simp only [Nat.add_zero] at hst
   obtain ⟨C',hC',hrun⟩:∃ C':Array Value,C'.toList=cur.toList.take (b.length * R.sz)++(Builtin.zeroCells z.cells n').toList++cur.toList.drop (b.length * R.sz+(Builtin.zeroCells z.cells n').toList.length)∧(Builtin.append_ #[T,I] ty #[.slice (some ⟨g',0,none⟩) b.length cap,.int .i64 (n':Int)]).run P w=.ok (.slice (some ⟨g',0,none⟩) (b.length+n') cap) (w.setRow g' C'):=by
    refine ⟨(cur.toList.take (b.length * R.sz)++(Builtin.zeroCells z.cells n').toList++cur.toList.drop (b.length * R.sz+(Builtin.zeroCells z.cells n').toList.length)).toArray,rfl,?_⟩
    have hst':(storeCells ((⟨g',0,none⟩:Addr).add (b.length * ti.size)) (if n' * ti.size=0 then [] else (Builtin.zeroCells z.cells n').toList)).run P w=.ok () (w.setRow g' (cur.toList.take (b.length * R.sz)++(Builtin.zeroCells z.cells n').toList++cur.toList.drop (b.length * R.sz+(Builtin.zeroCells z.cells n').toList.length)).toArray):=by
     have e9:(if n' * ti.size=0 then [] else (Builtin.zeroCells z.cells n').toList)=(Builtin.zeroCells z.cells n').toList:=by
      split
      ·
       rename_i h
       rw [hfl]
       rw [t3] at h
       rcases Nat.mul_eq_zero.1 h with h | h
       ·
        rw [h]; rfl
       ·
        omega
      ·
       rfl
     rw [e9,t3,z47,Nat.zero_add]
     exact hst
    exact zpj hT hI t1 t2 hw hbn' hroom hst'
   have hCl:cur.toList.length=cur.size:=by simp
   refine ⟨w.setRow g' C',.slice (some ⟨g',0,none⟩) (b.length+n') cap,?_,?_,rfl,some g',z9j g' C', fun q hq=>⟨_,_,hr, by cases hq; rfl⟩⟩
   ·
    simp only [execOp,resolve,invoke,builtin,Sem.run_bind]
    simp [e1,e2,hrun]
   ·
    refine ha.upd r (z9j g' C') (fun q hq=>⟨_,_,hr, by cases hq; rfl⟩) (fun q hq=>.inl ⟨_,_,hr,hq⟩) (fun S' k'=>.inr ⟨g',_,rfl,setRow_heap w g' cur C' e _ hg',g',cap,C', by rw [List.length_append,List.length_replicate],rfl, by rw [List.length_append,List.length_replicate]; exact hroom,hcm,?_,?_⟩)
    ·
     rw [← hcs,← Array.length_toList (xs:=C'),hC']
     simp only [List.length_append,List.length_take,List.length_drop,hCl]
     omega
    ·
     rw [List.length_append,List.length_replicate,hC',htake,hfl,List.take_left' (by rw [List.length_append,hxl,hll,Nat.add_mul])]
     exact (o2.mono k').append (hz.rep _ _ _)
  ·
   have hfit2:¬ (281474976710656<Builtin.nextslicecap (b.length+n') cap * ti.bytes):=by
    rw [t4]; have:=growslice_fits (old:=cap) (need:=b.length+n') (bytes:=by_) (by omega) (by omega); omega
   have h63:¬ ((9223372036854775807:Int)<((b.length+n':Nat):Int)):=by omega
   have hge:=grownCap_ge w (b.length+n') cap e
   have hle:=grownCap_le_maxLen w (b.length+n') cap e (by omega)
   have hfo:=run_firstCells_some (P:=P) w.drew ti.size b.length ⟨g',0,none⟩ b.length cap xs (by rw [t3]; exact hxl) (by simpa using hread)
   obtain ⟨C',hC',hrun⟩:∃ C':Array Value,C'.toList=(xs++(Builtin.zeroCells z.cells n').toList)++(Builtin.zeroCells z.cells (grownCap w (b.length+n') cap e - (b.length+n'))).toList∧(Builtin.append_ #[T,I] ty #[.slice (some ⟨g',0,none⟩) b.length cap,.int .i64 (n':Int)]).run P w=.ok (.slice (some ⟨w.heap.size,0,none⟩) (b.length+n') (grownCap w (b.length+n') cap e)) (w.drew.alloc (.cells C' e)):=by
    refine ⟨xs.toArray++Builtin.zeroCells z.cells n'++Builtin.zeroCells z.cells (grownCap w (b.length+n') cap e - (b.length+n')), by simp,?_⟩
    have hns:¬ (n' * ti.size=0):=by
     rw [t3]; intro hh; rcases Nat.mul_eq_zero.1 hh with h | h <;> omega
    exact zgd hT hI t1 t2 hw hbn' (by omega) (by omega) (by omega) hns (fun w' hw'=>by subst hw'; exact hfo)
   refine ⟨w.drew.alloc (.cells C' e),.slice (some ⟨w.heap.size,0,none⟩) (b.length+n') (grownCap w (b.length+n') cap e),?_,?_,rfl,none,zkl w _, by simp⟩
   ·
    simp only [execOp,resolve,invoke,builtin,Sem.run_bind]
    simp [e1,e2,hrun]
   ·
    refine ha.upd r (wr:=none) (zkl w _) (by simp) (fun q hq=>.inr (by simp [z5c] at hq; omega)) (fun S' k'=>zj6 (by simp) (by simp; exact hge) hle ?_ ?_)
    ·
     rw [← Array.length_toList,hC']
     simp only [List.length_append,Array.length_toList,size_zeroCells,hxl,hzs]
     have:grownCap w (b.length+n') cap e * R.sz=(b.length+n') * R.sz+(grownCap w (b.length+n') cap e - (b.length+n')) * R.sz:=by rw [← Nat.add_mul]; congr 1; omega
     rw [Nat.add_mul] at this; omega
    ·
     rw [List.length_append,List.length_replicate,hC',hfl,List.take_left' (by rw [List.length_append,hll,hxl,Nat.add_mul])]
     exact (o2.mono k').append (hz.rep _ _ _)
end
end
section
open Go Go.RowKit
set_option maxRecDepth 100000
def zf0 (a0:List UInt8) (a1:List UInt8):Option (Int) :=
 some (Lib.compareBytes a0 a1) >>= fun y1 =>
 some y1
theorem zl1 (a0:List UInt8) (a1:List UInt8):z27 Tryz.prog 118 [.rd (z02 u8R) a0,.rd (z02 u8R) a1] [] (zf0 a0 a1) (fun r nv=>⟨[.rd z0k r],[]⟩):=by
 refine z2n 8 Tryz.func118 rfl rfl rfl fun H w=>?_
 refine gSR<|Za rfl<|Zn<|gSR<|Zm rfl<|Zm rfl<|Zq (cmpB rfl rfl Tryz.func164 rfl rfl (by kernel_rfl) (by kernel_rfl))<|Za rfl<|z1e 4 rfl fun y1=>Zn<|z0m<|Ze [] [] rfl
def z91 (a0:Vector UInt8 32) (a1:Vector UInt8 32):Option (Int) :=
 zf0 a0.toList a1.toList >>= fun r3 =>
 some r3
theorem za2 (a0:Vector UInt8 32) (a1:Vector UInt8 32):z27 Tryz.prog 105 [.rd (z06 32 u8R) a0,.rd (z06 32 u8R) a1] [] (z91 a0 a1) (fun r nv=>⟨[.rd z0k r],[]⟩):=by
 refine z2n 8 Tryz.func105 rfl rfl rfl fun H w=>?_
 refine gSR<|Eb rfl (bx 1 rfl) fun v1=>Eb rfl (bx 2 rfl) fun v2=>Za rfl<|Zn<|z0w<|zy0 1 2 rfl rfl<|zy0 2 3 rfl rfl<|z5m [] mixed rfl rfl<|hTk 0 rfl rfl (cutV rfl tu62 ti5 rfl rfl rfl)<|hTk 1 rfl rfl (cutV rfl tu62 ti5 rfl rfl rfl)<|z10 2 [] [] rfl (by kernel_rfl) rfl (gd0 rfl) rfl Tryz.func118 rfl rfl (zl1 _ _) (Y2 rfl rfl) rN rfl (fun _ _=>z07) fun r3 n4=>hTk 3 rfl rfl (asg rfl)<|z0y (by kernel_rfl)<|z0d<|z0m<|Ze [] [] rfl
def z1h (a0:List (Vector UInt8 32)):Option ((List (Vector UInt8 32))) :=
 app 32 ([]:List (Vector UInt8 32)) a0 >>= fun x3 =>
 some x3
theorem z2a (a0:List (Vector UInt8 32)):z27 Tryz.prog 46 [.rd (z02 (z06 32 u8R)) a0] [] (z1h a0) (fun r nv=>⟨[.val (nv 0)],[(100,some (nv 0,.list (z06 32 u8R) 62 r))]⟩):=by
 refine z2n 8 Tryz.func46 rfl rfl rfl fun H w=>?_
 refine gSR<|Za rfl<|Zn<|z0w<|gSR<|Zm rfl<|z10l rfl rfl .rd rfl tu22 (fun h1=>?_) ?_
 ·
  subst h1
  refine Zn<|zdg rfl<|gSR<|Za rfl<|Zn<|z0m<|z12<|zm0 (z06 32 u8R) 62 1<|Ze [(.slice none 0 0)] [1] rfl
 ·
  refine Zn<|zbl rfl<|Zt<|gSR<|Ef rfl (lit (R:=(z06 32 u8R)) (([]:List (Vector UInt8 32)):List (Vector UInt8 32)) 2 (pN) rfl tu22 z1p rfl rfl) fun v2=>Zm rfl<|z0s fun x3 h4=>Ef rfl (apn 2 rfl rfl rfl .rd h4 tu22 z1p rfl rfl rfl) fun v5=>Za rfl<|Zn<|z0m<|Ze [v5] [2] rfl
def z9b (a0:UInt64) (a1:List UInt32) (s2:UInt64 × Int):Option (Sum UInt64 (UInt64 × Int)) :=
 if decide (s2.2<(a1.length:Int)) then
  idx a1 s2.2 >>= fun x4 =>
  chk (a0≠0) >>= fun u6 =>
  some ((s2.1 * x4.toUInt64) % a0) >>= fun y8 =>
  some (.inr (y8,w64 (s2.2+1)))
 else
  some (.inl s2.1)
def zek (a0:UInt64) (a1:List UInt32):Option (UInt32) :=
 (iter (z9b a0 a1) (1,0)) >>= fun s1 =>
 some s1.toUInt32
theorem zga (a0:UInt64) (a1:List UInt32):z27 Tryz.prog 219 [.rd z2r a0,.rd (z02 z1c) a1] [] (zek a0 a1) (fun r nv=>⟨[.rd z1c r],[]⟩):=by
 refine z2n 23 Tryz.func219 rfl rfl rfl fun H w=>?_
 refine gSR<|Za rfl<|Zn<|gSR<|Za rfl<|Zn<|z7f (fun (s1:UInt64) aa ww=>Sta (ctx 23 H [] w) [(5,.rd z2r s1)] [] aa ww) ?_ (fun s1=>?_)
 ·
  refine gSR<|Zm rfl<|Zq (z37 rfl .rd rfl tu217)<|Zm rfl<|Zn<|z2h (fun (s2:UInt64 × Int) aa ww=>Sta (ctx 23 H [] w) [(0,.rd z2r a0),(5,.rd z2r s2.1),(8,.rd (z02 z1c) a1),(9,.rd z0k (a1.length:Int)),(10,.rd z0k s2.2)] [] aa ww) (fun aa ww h=>Zu h []) (fun s2=>?_)
  refine gSR<|Zq (I.lss rfl rfl)<|Zn<|z0w<|gIf rfl rfl (fun h3=>?_) (fun h3=>?_)
  ·
   refine Zt<|z0w<|z4q<|gSR<|z0s fun x4 h5=>Zq (ixR rfl rfl h5 tu217 z3h rfl)<|Zq (ldR rfl z4p)<|Za rfl<|Zn<|z1m<|Zm rfl<|Zm rfl<|Zq (W.toU rfl tu65 tu41)<|Zq (U.mul rfl rfl)<|Zm rfl<|z0s fun u6 h7=>Zq (U.rem rfl rfl (z44 h7))<|Za rfl<|z1e 5 rfl fun y8=>z1f<|z1w<|z0d<|z1m<|Zq (I.add rfl rfl)<|Zm rfl<|z1f<|z0r (fun aa ww h=>Zu h [])
  ·
   refine z1z<|z13<|z14<|z2x (fun aa ww h=>Zu h [])
 ·
  refine gSR<|Zm rfl<|Zq (U.toW rfl tu41 tu65)<|Za rfl<|Zn<|z0m<|Ze [] [] rfl
def zia (c0_0:UInt32):Option (UInt32) :=
 zek 1000000007 [c0_0,c0_0] >>= fun r2 =>
 some r2
theorem zna (p0_0:Value) (c0_0:UInt32):z27 Tryz.prog 222 [.val (z09 p0_0 0)] [(1,some (p0_0,.box 65 [.rd z1c c0_0]))] (zia c0_0) (fun r nv=>⟨[],[(1,some (p0_0,.box 65 [.rd z1c r]))]⟩):=by
 refine z2n 5 Tryz.func222 rfl rfl rfl fun H w=>?_
 refine z1m<|Zq (ld 1 rfl rfl Foc.here z4p rfl)<|Zq (ld 1 rfl rfl Foc.here z4p rfl)<|Ef rfl (lit (R:=z1c) ([c0_0,c0_0]:List UInt32) 2 (pP rfl rfl<|pP rfl rfl<|pN) rfl tu217 z3h rfl rfl) fun v1=>zgv 2 [3] rfl (fS rfl<|fN)<|Zc [] [] Tryz.func219 rfl (zga _ _) fun r2 n3=>Es (sto 1 rfl rfl Foc.here rfl z3h)<|z1f<|Ze [] [1] rfl
def zcf (a0:UInt32) (a1:UInt64) (s3:UInt32 × Int):Option (Sum UInt32 (UInt32 × Int)) :=
 if decide (s3.2<64) then
  zia s3.1 >>= fun r5 =>
  chk (0≤w64 (63 - s3.2)) >>= fun u7 =>
  if ((z85 a1 ((w64 (63 - s3.2):Int).toNat)) &&& 1)==1 then
   zek 1000000007 [r5,a0] >>= fun r11 =>
   some (.inr (r11,w64 (s3.2+1)))
  else
   some (.inr (r5,w64 (s3.2+1)))
 else
  some (.inl s3.1)
def zel (a0:UInt32) (a1:UInt64):Option (UInt32) :=
 (iter (zcf a0 a1) (1,0)) >>= fun s2 =>
 some s2
theorem zgn (a0:UInt32) (a1:UInt64):z27 Tryz.prog 201 [.rd z1c a0,.rd z2r a1] [] (zel a0 a1) (fun r nv=>⟨[.rd z1c r],[]⟩):=by
 refine z2n 26 Tryz.func201 rfl rfl rfl fun H w=>?_
 refine gSR<|Za rfl<|Zn<|gSR<|Eb rfl (z7s 1 z3h (.zr (R:=z1c) (x:=0) (Zr.num rfl))) fun v1=>Es (sto 1 rfl rfl Foc.here rfl z3h)<|Zn<|gSR<|Zq (mkf mp0 (mp1 rfl))<|Za rfl<|Zn<|z7f (fun (s2:UInt32) aa ww=>Sta (ctx 26 H [] w) [(5,.val (z09 v1 0))] [(1,some (v1,.box 65 [.rd z1c s2]))] aa ww) ?_ (fun s2=>?_)
 ·
  refine gSR<|Zm rfl<|Zn<|z2h (fun (s3:UInt32 × Int) aa ww=>Sta (ctx 26 H [] w) [(0,.rd z1c a0),(1,.rd z2r a1),(5,.val (z09 v1 0)),(6,.val (.func (.func 222) #[] #[z09 v1 0])),(9,.rd z0k s3.2)] [(1,some (v1,.box 65 [.rd z1c s3.1]))] aa ww) (fun aa ww h=>Zu h [1]) (fun s3=>?_)
  refine gSR<|Zq (I.lss rfl rfl)<|Zn<|z0w<|gIf rfl rfl (fun h4=>?_) (fun h4=>?_)
  ·
   refine Zt<|z0w<|z4q<|gSR<|Zm rfl<|Za rfl<|Zn<|gSR<|Zm rfl<|zgf [1] [(1,1)] (gd0 rfl) rfl rfl Tryz.func222 rfl rfl (zna _ _) (aN) (cQ 1 rfl<|cN) (y1 rfl) fun r5 n6=>Zn<|gSR<|Zm rfl<|Zm rfl<|Zq (I.sub rfl rfl)<|z0s fun u7 h8=>Zq (U.shr rfl rfl (z44 h8))<|Zq (U.and rfl rfl)<|Zq (U.eql rfl rfl)<|Zn<|gIf rfl rfl (fun h9=>?_) (fun h9=>?_)
   ·
    refine z1m<|Zq (ld 1 rfl rfl Foc.here z4p rfl)<|Zm rfl<|Ef rfl (lit (R:=z1c) ([r5,a0]:List UInt32) 2 (pP rfl rfl<|pP rfl rfl<|pN) rfl tu217 z3h rfl rfl) fun v10=>zgv 2 [22] rfl (fS rfl<|fN)<|Zc [] [] Tryz.func219 rfl (zga _ _) fun r11 n12=>Es (sto 1 rfl rfl Foc.here rfl z3h)<|z1f<|z1w<|z0d<|z1m<|Zq (I.add rfl rfl)<|Zm rfl<|z1f<|z0r (fun aa ww h=>Zu h [1])
   ·
    refine z2l<|z1w<|z0d<|z1m<|Zq (I.add rfl rfl)<|Zm rfl<|z1f<|z0r (fun aa ww h=>Zu h [1])
  ·
   refine z1z<|z13<|z14<|z2x (fun aa ww h=>Zu h [1])
 ·
  refine gSR<|Zq (ld 1 rfl rfl Foc.here z4p rfl)<|Za rfl<|Zn<|z0m<|Ze [] [] rfl
def zh1 (a0:UInt32):Option (Bool) :=
 if decide (0<a0) then
  if decide (a0<1000000007) then
   zel a0 500000003 >>= fun r3 =>
   some (r3==1)
  else
   some false
 else
  some false
theorem zi3 (a0:UInt32):z27 Tryz.prog 170 [.rd z1c a0] [] (zh1 a0) (fun r nv=>⟨[.rd z0n r],[]⟩):=by
 refine z2n 14 Tryz.func170 rfl rfl rfl fun H w=>?_
 refine gSR<|Za rfl<|Zn<|gSR<|Zm rfl<|Zq (W.gtr rfl rfl)<|Zm rfl<|z1n 5 rfl (fun h1=>?_) (fun h1=>?_)
 ·
  refine lKn 4 rfl h1<|z0z Zx rfl rfl (mv rfl)<|z0z Zx rfl rfl (W.lss rfl rfl)<|Zq (pkT rfl rfl)<|Zm rfl<|z1n 9 rfl (fun h2=>?_) (fun h2=>?_)
  ·
   refine lKn 7 rfl h2<|lKn 8 rfl h2<|z0z Zx rfl rfl (mv rfl)<|zcw [] [] Zx rfl Tryz.func201 rfl rfl (zgn _ _) (Y2 rfl rfl) rN fun r3 n4=>z0z Zx rfl rfl (W.eql rfl rfl)<|Zq (pkT rfl rfl)<|Za rfl<|Zn<|z0m<|Ze [] [] rfl
  ·
   refine lKn 7 rfl h2<|lKn 8 rfl h2<|Zk rfl<|Zk rfl<|Zk rfl<|Zq (pkF rfl rfl)<|Za rfl<|Zn<|z0m<|Ze [] [] rfl
 ·
  refine lKn 4 rfl h1<|Zk rfl<|Zk rfl<|Zq (pkF rfl rfl)<|Zm rfl<|Zk rfl<|Zk rfl<|Zk rfl<|Zq (pkF rfl rfl)<|Za rfl<|Zn<|z0m<|Ze [] [] rfl
def zlb (a0:Int):Option (Bool) :=
 if decide (a0<33) then
  some true
 else
  some (decide (126<a0)) >>= fun y2 =>
  some y2
theorem zrn (a0:Int):z27 Tryz.prog 224 [.rd zzp a0] [] (zlb a0) (fun r nv=>⟨[.rd z0n r],[]⟩):=by
 refine z2n 9 Tryz.func224 rfl rfl rfl fun H w=>?_
 refine gSR<|Za rfl<|Zn<|gSR<|Zm rfl<|Zq (J.lss rfl rfl)<|Zm rfl<|z1n 5 rfl (fun h1=>?_) (fun h1=>?_)
 ·
  refine lKn 4 rfl h1<|Zk rfl<|Zk rfl<|Zq (pkT rfl rfl)<|Za rfl<|Zn<|z0m<|Ze [] [] rfl
 ·
  refine lKn 4 rfl h1<|z0z Zx rfl rfl (mv rfl)<|z0z Zx rfl rfl (J.gtr rfl rfl)<|Zq (pkF rfl rfl)<|Za rfl<|z1e 2 rfl fun y2=>Zn<|z0m<|Ze [] [] rfl
def z2q (a0:List UInt8) (a2:Bool) (s3:Nat):Option (Sum (Sum Int Unit) Nat) :=
 if s3<(a0).length then
  some ((za7 a0 s3).1:Int) >>= fun y5 =>
  zlb y5 >>= fun r6 =>
  if r6==a2 then
   some (.inl (.inl (s3:Int)))
  else
   some (.inr (s3+(za7 a0 s3).2))
 else
  some (.inl (.inr ()))
def z6m (a0:List UInt8) (a2:Bool):Option (Int) :=
 z5p (iter (z2q a0 a2) 0) fun s1 =>
 some (-1)
theorem zcs (a0:List UInt8) (a2:Bool):z27 Tryz.prog 232 [.rd zhp a0,.val (.func (.func 224) #[] #[]),.rd z0n a2] [] (z6m a0 a2) (fun r nv=>⟨[.rd z0k r],[]⟩):=by
 refine z2n 21 Tryz.func232 rfl rfl rfl fun H w=>?_
 refine gSR<|Za rfl<|Zn<|z7k (fun (s1:Unit) aa ww=>Sta (ctx 21 H [] w) [] [] aa ww) ?_ (fun s1=>?_)
 ·
  refine gSR<|Zm rfl<|Ef rfl (rng 1 rfl tu9) fun v2=>Zn<|z2h (fun (s3:Nat) aa ww=>Sta (ctx 21 H [] w) [(1,.val (.func (.func 224) #[] #[])),(2,.rd z0n a2),(10,.val v2)] [(1,some (v2,.iter a0 s3))] aa ww) (fun aa ww h=>Zu h [1]) (fun s3=>?_)
  refine gSR<|z11p 1 rfl rfl rfl (fun h4=>?_) (fun h4=>?_)
  ·
   refine Zq (ext rfl rfl)<|Zn<|z0w<|zdg rfl<|Zt<|z4q<|gSR<|Zq (ext rfl rfl)<|Zq (ext rfl rfl)<|Za rfl<|Za rfl<|z1e 8 rfl fun y5=>Zn<|gSR<|Zm rfl<|Zm rfl<|zgf [] [] (gd0 rfl) rfl rfl Tryz.func224 rfl rfl (zrn _) (Y1 rfl) (cN) rN fun r6 n7=>Zm rfl<|Zq (eqB Tryz.underlying4 rfl rfl)<|Zn<|gIf rfl rfl (fun h8=>?_) (fun h8=>?_)
   ·
    refine gSR<|Zm rfl<|Za rfl<|Zn<|z0m<|z4a<|z7g<|z54<|Ze [] [] rfl
   ·
    refine z2l<|z1w<|z0r (fun aa ww h=>Zu h [1])
  ·
   refine Zq (ext rfl rfl)<|Zn<|z0w<|zbl rfl<|z1z<|z13<|z14<|z4s (fun aa ww h=>Zu h [])
 ·
  refine gSR<|Za rfl<|Zn<|z0m<|Ze [] [] rfl
def z6q (a0:List UInt8):Option (Int) :=
 z6m a0 true >>= fun r1 =>
 some r1
theorem zcp (a0:List UInt8):z27 Tryz.prog 223 [.rd zhp a0,.val (.func (.func 224) #[] #[])] [] (z6q a0) (fun r nv=>⟨[.rd z0k r],[]⟩):=by
 refine z2n 8 Tryz.func223 rfl rfl rfl fun H w=>?_
 refine gSR<|Za rfl<|Zn<|gSR<|Zm rfl<|Zm rfl<|Zc [] [] Tryz.func232 rfl (zcs _ _) fun r1 n2=>Za rfl<|Zn<|z0m<|Ze [] [] rfl
def zqg (a0:List UInt8):Option (Bool) :=
 if decide (1≤(a0.length:Int)) then
  if decide ((a0.length:Int)≤20) then
   z6q a0 >>= fun r3 =>
   some (decide (r3<0)) >>= fun y5 =>
   some y5
  else
   some false
 else
  some false
theorem zpe (a0:List UInt8):z27 Tryz.prog 202 [.rd zhp a0] [] (zqg a0) (fun r nv=>⟨[.rd z0n r],[]⟩):=by
 refine z2n 16 Tryz.func202 rfl rfl rfl fun H w=>?_
 refine gSR<|Za rfl<|Zn<|gSR<|Zm rfl<|Zq (zx4 rfl rfl tu9)<|Zq (I.geq rfl rfl)<|Zm rfl<|z1n 6 rfl (fun h1=>?_) (fun h1=>?_)
 ·
  refine lKn 5 rfl h1<|z0z Zx rfl rfl (mv rfl)<|z0z Zx rfl rfl (zx4 rfl rfl tu9)<|z0z Zx rfl rfl (I.leq rfl rfl)<|Zq (pkT rfl rfl)<|Zm rfl<|z1n 11 rfl (fun h2=>?_) (fun h2=>?_)
  ·
   refine lKn 9 rfl h2<|lKn 10 rfl h2<|z0z Zx rfl rfl (mv rfl)<|zcw [] [] Zx rfl Tryz.func223 rfl rfl (zcp _) (Y2 rfl rfl) rN fun r3 n4=>z0z Zx rfl rfl (I.lss rfl rfl)<|Zq (pkT rfl rfl)<|Za rfl<|z1e 2 rfl fun y5=>Zn<|z0m<|Ze [] [] rfl
  ·
   refine lKn 9 rfl h2<|lKn 10 rfl h2<|Zk rfl<|Zk rfl<|Zk rfl<|Zq (pkF rfl rfl)<|Za rfl<|Zn<|z0m<|Ze [] [] rfl
 ·
  refine lKn 5 rfl h1<|Zk rfl<|Zk rfl<|Zk rfl<|Zq (pkF rfl rfl)<|Zm rfl<|Zk rfl<|Zk rfl<|Zk rfl<|Zq (pkF rfl rfl)<|Za rfl<|Zn<|z0m<|Ze [] [] rfl
def zgl (a0:Int):Option (z0b) :=
 some (⟨1,a0,0,[]⟩:z0b)
theorem zlh (a0:Int):z27 Tryz.prog 225 [.rd z0k a0] [] (zgl a0) (fun r nv=>⟨[.rd z2i r],[]⟩):=by
 refine z2n 5 Tryz.func225 rfl rfl rfl fun H w=>?_
 refine gSR<|Eb rfl (z7s 1 zkj (.zr (R:=z2i) (x:=(⟨0,0,0,[]⟩:z0b)) zu0)) fun v1=>Zn<|gSR<|Zm rfl<|Zq (bld (x':=(⟨1,a0,0,[]⟩:z0b)) [(0,1),(1,1),(2,1),(3,1)] Tryz.underlying67 zkj rfl zu0 rfl (Bld.cons (z3e _) rfl rfl<|Bld.cons (z6r _) rfl rfl<|Bld.done rfl))<|Es (sto 1 rfl rfl Foc.here rfl zkj)<|Zn<|z0m<|zge [] [] rfl (eC 1 rfl rfl zr1<|eN) (rN)
def zey (a0:UInt64):Option (Int × UInt64) :=
 some (andI (w64 ((z85 a0 52).toNat:Int)) 2047) >>= fun y1 =>
 some (a0 &&& 4503599627370495) >>= fun y2 =>
 some (y1,y2)
theorem zn1 (a0:UInt64):z27 Tryz.prog 241 [.rd z2r a0] [] (zey a0) (fun r nv=>⟨[.rd z0k r.1,.rd z2r r.2],[]⟩):=by
 refine z2n 10 Tryz.func241 rfl rfl rfl fun H w=>?_
 refine gSR<|Za rfl<|Za rfl<|Zn<|gSR<|Zm rfl<|Zq (U.shr rfl rfl (Int.natCast_nonneg _))<|Zq (U.toI rfl tu41 tu3)<|Zq (I.and rfl rfl)<|Zm rfl<|Zq (U.and rfl rfl)<|Za rfl<|z1e 2 rfl fun y1=>Za rfl<|z1e 3 rfl fun y2=>Zn<|z0m<|Ze [] [] rfl
def zfo (a0:UInt64):Option (UInt8) :=
 zey a0 >>= fun r1 =>
 (if r1.1==2047 then
  some (r1.2 != 0)
 else
  some false) >>= fun s3 =>
 if s3 then
  some 5
 else
  if r1.1==2047 then
   some 4
  else
   if r1.1 != 0 then
    some 3
   else
    if r1.2 != 0 then
     some 2
    else
     some 1
theorem zms (a0:UInt64):z27 Tryz.prog 239 [.rd z2r a0] [] (zfo a0) (fun r nv=>⟨[.rd u8R r],[]⟩):=by
 refine z2n 26 Tryz.func239 rfl rfl rfl fun H w=>?_
 refine gSR<|Za rfl<|Zn<|gSR<|Zm rfl<|Zc [] [] Tryz.func241 rfl (zn1 _) fun r1 n2=>Zm rfl<|Zq (ext rfl rfl)<|Zq (ext rfl rfl)<|Za rfl<|Za rfl<|Zn<|z0w<|z4q<|z7f (fun (s3:Bool) aa ww=>Sta (ctx 26 H [] w) [(3,.rd z0k r1.1),(4,.rd z2r r1.2),(10,.rd z0n s3)] [] aa ww) ?_ (fun s3=>?_)
 ·
  refine z1m<|Zm rfl<|Zq (I.eql rfl rfl)<|Zm rfl<|z1n 13 rfl (fun h4=>?_) (fun h4=>?_)
  ·
   refine lKn 12 rfl h4<|z0z Zx rfl rfl (mv rfl)<|z0z Zx rfl rfl (U.neq rfl rfl)<|Zq (pkT rfl rfl)<|Za rfl<|z1f<|z2x (fun aa ww h=>Zu h [])
  ·
   refine lKn 12 rfl h4<|Zk rfl<|Zk rfl<|Zq (pkF rfl rfl)<|Za rfl<|z1f<|z2x (fun aa ww h=>Zu h [])
 ·
  refine gIf rfl rfl (fun h5=>?_) (fun h5=>?_)
  ·
   refine gSR<|Za rfl<|Zn<|z0m<|z4a<|z12<|Ze [] [] rfl
  ·
   refine gSR<|Zm rfl<|Zq (I.eql rfl rfl)<|Za rfl<|Zn<|gIf rfl rfl (fun h6=>?_) (fun h6=>?_)
   ·
    refine gKn 19 rfl h6<|gSR<|Za rfl<|Zn<|z0m<|z4a<|z12<|Ze [] [] rfl
   ·
    refine gKn 19 rfl h6<|gSR<|Zm rfl<|Zq (I.neq rfl rfl)<|Za rfl<|Zn<|gIf rfl rfl (fun h7=>?_) (fun h7=>?_)
    ·
     refine gKn 22 rfl h7<|gSR<|Za rfl<|Zn<|z0m<|z4a<|z12<|Ze [] [] rfl
    ·
     refine gKn 22 rfl h7<|gSR<|Zm rfl<|Zq (U.neq rfl rfl)<|Za rfl<|Zn<|gIf rfl rfl (fun h8=>?_) (fun h8=>?_)
     ·
      refine gKn 25 rfl h8<|gSR<|Za rfl<|Zn<|z0m<|z4a<|z12<|Ze [] [] rfl
     ·
      refine gKn 25 rfl h8<|z2l<|z1w<|z0d<|gSR<|Za rfl<|Zn<|z0m<|Ze [] [] rfl
def zff (a0:UInt64):Option (UInt64) :=
 zfo a0 >>= fun r1 =>
 if r1==5 then
  some 9221120237041090560
 else
  some a0
theorem zmx (a0:UInt64):z27 Tryz.prog 233 [.rd z2r a0] [] (zff a0) (fun r nv=>⟨[.rd z2r r],[]⟩):=by
 refine z2n 7 Tryz.func233 rfl rfl rfl fun H w=>?_
 refine gSR<|Za rfl<|Zn<|z0w<|gSR<|Zm rfl<|Zc [] [] Tryz.func239 rfl (zms _) fun r1 n2=>Zq (B.eql rfl rfl)<|Zn<|gIf rfl rfl (fun h3=>?_) (fun h3=>?_)
 ·
  refine gSR<|Za rfl<|Zn<|z0m<|z12<|Ze [] [] rfl
 ·
  refine Zt<|gSR<|Zm rfl<|Za rfl<|Zn<|z0m<|Ze [] [] rfl
def zf5 (a0:UInt64):Option (z0b) :=
 zff a0 >>= fun r2 =>
 some (⟨2,0,r2,[]⟩:z0b)
theorem zn9 (a0:UInt64):z27 Tryz.prog 226 [.rd z2r a0] [] (zf5 a0) (fun r nv=>⟨[.rd z2i r],[]⟩):=by
 refine z2n 6 Tryz.func226 rfl rfl rfl fun H w=>?_
 refine gSR<|Eb rfl (z7s 1 zkj (.zr (R:=z2i) (x:=(⟨0,0,0,[]⟩:z0b)) zu0)) fun v1=>Zn<|gSR<|Zm rfl<|Zc [] [] Tryz.func233 rfl (zmx _) fun r2 n3=>Zq (bld (x':=(⟨2,0,r2,[]⟩:z0b)) [(0,1),(1,1),(2,1),(3,1)] Tryz.underlying67 zkj rfl zu0 rfl (Bld.cons (z3e _) rfl rfl<|Bld.cons (z42 _) rfl rfl<|Bld.done rfl))<|Es (sto 1 rfl rfl Foc.here rfl zkj)<|Zn<|z0m<|zge [] [] rfl (eC 1 rfl rfl zr1<|eN) (rN)
def ze2 (a0:Int):Option (Bool) :=
 if decide (a0<32) then
  some true
 else
  some (decide (126<a0)) >>= fun y2 =>
  some y2
theorem zlo (a0:Int):z27 Tryz.prog 234 [.rd zzp a0] [] (ze2 a0) (fun r nv=>⟨[.rd z0n r],[]⟩):=by
 refine z2n 9 Tryz.func234 rfl rfl rfl fun H w=>?_
 refine gSR<|Za rfl<|Zn<|gSR<|Zm rfl<|Zq (J.lss rfl rfl)<|Zm rfl<|z1n 5 rfl (fun h1=>?_) (fun h1=>?_)
 ·
  refine lKn 4 rfl h1<|Zk rfl<|Zk rfl<|Zq (pkT rfl rfl)<|Za rfl<|Zn<|z0m<|Ze [] [] rfl
 ·
  refine lKn 4 rfl h1<|z0z Zx rfl rfl (mv rfl)<|z0z Zx rfl rfl (J.gtr rfl rfl)<|Zq (pkF rfl rfl)<|Za rfl<|z1e 2 rfl fun y2=>Zn<|z0m<|Ze [] [] rfl
def z20 (a0:List UInt8) (a2:Bool) (s3:Nat):Option (Sum (Sum Int Unit) Nat) :=
 if s3<(a0).length then
  some ((za7 a0 s3).1:Int) >>= fun y5 =>
  ze2 y5 >>= fun r6 =>
  if r6==a2 then
   some (.inl (.inl (s3:Int)))
  else
   some (.inr (s3+(za7 a0 s3).2))
 else
  some (.inl (.inr ()))
def z4t (a0:List UInt8) (a2:Bool):Option (Int) :=
 z5p (iter (z20 a0 a2) 0) fun s1 =>
 some (-1)
theorem zbc (a0:List UInt8) (a2:Bool):z27 Tryz.prog 232 [.rd zhp a0,.val (.func (.func 234) #[] #[]),.rd z0n a2] [] (z4t a0 a2) (fun r nv=>⟨[.rd z0k r],[]⟩):=by
 refine z2n 21 Tryz.func232 rfl rfl rfl fun H w=>?_
 refine gSR<|Za rfl<|Zn<|z7k (fun (s1:Unit) aa ww=>Sta (ctx 21 H [] w) [] [] aa ww) ?_ (fun s1=>?_)
 ·
  refine gSR<|Zm rfl<|Ef rfl (rng 1 rfl tu9) fun v2=>Zn<|z2h (fun (s3:Nat) aa ww=>Sta (ctx 21 H [] w) [(1,.val (.func (.func 234) #[] #[])),(2,.rd z0n a2),(10,.val v2)] [(1,some (v2,.iter a0 s3))] aa ww) (fun aa ww h=>Zu h [1]) (fun s3=>?_)
  refine gSR<|z11p 1 rfl rfl rfl (fun h4=>?_) (fun h4=>?_)
  ·
   refine Zq (ext rfl rfl)<|Zn<|z0w<|zdg rfl<|Zt<|z4q<|gSR<|Zq (ext rfl rfl)<|Zq (ext rfl rfl)<|Za rfl<|Za rfl<|z1e 8 rfl fun y5=>Zn<|gSR<|Zm rfl<|Zm rfl<|zgf [] [] (gd0 rfl) rfl rfl Tryz.func234 rfl rfl (zlo _) (Y1 rfl) (cN) rN fun r6 n7=>Zm rfl<|Zq (eqB Tryz.underlying4 rfl rfl)<|Zn<|gIf rfl rfl (fun h8=>?_) (fun h8=>?_)
   ·
    refine gSR<|Zm rfl<|Za rfl<|Zn<|z0m<|z4a<|z7g<|z54<|Ze [] [] rfl
   ·
    refine z2l<|z1w<|z0r (fun aa ww h=>Zu h [1])
  ·
   refine Zq (ext rfl rfl)<|Zn<|z0w<|zbl rfl<|z1z<|z13<|z14<|z4s (fun aa ww h=>Zu h [])
 ·
  refine gSR<|Za rfl<|Zn<|z0m<|Ze [] [] rfl
def z4v (a0:List UInt8):Option (Int) :=
 z4t a0 true >>= fun r1 =>
 some r1
theorem zbo (a0:List UInt8):z27 Tryz.prog 223 [.rd zhp a0,.val (.func (.func 234) #[] #[])] [] (z4v a0) (fun r nv=>⟨[.rd z0k r],[]⟩):=by
 refine z2n 8 Tryz.func223 rfl rfl rfl fun H w=>?_
 refine gSR<|Za rfl<|Zn<|gSR<|Zm rfl<|Zm rfl<|Zc [] [] Tryz.func232 rfl (zbc _ _) fun r1 n2=>Za rfl<|Zn<|z0m<|Ze [] [] rfl
def zgt (a0:List UInt8):Option (z0b × Int) :=
 if decide (30<(a0.length:Int)) then
  some ((⟨0,0,0,[]⟩:z0b),4)
 else
  z4v a0 >>= fun r3 =>
  if decide (0≤r3) then
   some ((⟨0,0,0,[]⟩:z0b),8)
  else
   some ((⟨3,0,0,a0⟩:z0b),0)
theorem zo9 (a0:List UInt8):z27 Tryz.prog 227 [.rd zhp a0] [] (zgt a0) (fun r nv=>⟨[.rd z2i r.1,.rd z0k r.2],[]⟩):=by
 refine z2n 14 Tryz.func227 rfl rfl rfl fun H w=>?_
 refine gSR<|Eb rfl (z7s 1 zkj (.zr (R:=z2i) (x:=(⟨0,0,0,[]⟩:z0b)) zu0)) fun v1=>Za rfl<|Zn<|z0w<|gSR<|Zm rfl<|Zq (zx4 rfl rfl tu9)<|Zq (I.gtr rfl rfl)<|Zn<|gIf rfl rfl (fun h2=>?_) (fun h2=>?_)
 ·
  refine gSR<|Zq (bld (x':=(⟨0,0,0,[]⟩:z0b)) [(0,1),(1,1),(2,1),(3,1)] Tryz.underlying67 zkj rfl zu0 rfl (Bld.done rfl))<|Es (sto 1 rfl rfl Foc.here rfl zkj)<|Za rfl<|Zn<|z0m<|z12<|zge [] [] rfl (eC 1 rfl rfl zr1<|eE rfl<|eN) (rN)
 ·
  refine Zt<|z0w<|gSR<|Zm rfl<|Zc [] [] Tryz.func223 rfl (zbo _) fun r3 n4=>Zq (I.geq rfl rfl)<|Zn<|gIf rfl rfl (fun h5=>?_) (fun h5=>?_)
  ·
   refine gSR<|Zq (bld (x':=(⟨0,0,0,[]⟩:z0b)) [(0,1),(1,1),(2,1),(3,1)] Tryz.underlying67 zkj rfl zu0 rfl (Bld.done rfl))<|Es (sto 1 rfl rfl Foc.here rfl zkj)<|Za rfl<|Zn<|z0m<|z12<|zge [] [] rfl (eC 1 rfl rfl zr1<|eE rfl<|eN) (rN)
  ·
   refine Zt<|gSR<|Zm rfl<|Zq (bld (x':=(⟨3,0,0,a0⟩:z0b)) [(0,1),(1,1),(2,1),(3,1)] Tryz.underlying67 zkj rfl zu0 rfl (Bld.cons (z3e _) rfl rfl<|Bld.cons (z3n _) rfl rfl<|Bld.done rfl))<|Es (sto 1 rfl rfl Foc.here rfl zkj)<|Za rfl<|Zn<|z0m<|zge [] [] rfl (eC 1 rfl rfl zr1<|eE rfl<|eN) (rN)
def zdi (a0:z0b):Option (Int) :=
 (if a0.Kind==1 then
  zgl a0.Num >>= fun r5 =>
  some r5
 else
  if a0.Kind==2 then
   zf5 a0.Bits >>= fun r8 =>
   some r8
  else
   if a0.Kind==3 then
    zgt a0.Text >>= fun r11 =>
    some r11.1
   else
    some (⟨0,0,0,[]⟩:z0b)) >>= fun s3 =>
 if !decide (a0=s3) then
  some 8
 else
  if a0.Kind==0 then
   some 8
  else
   some 0
theorem zhk (a0:z0b):z27 Tryz.prog 203 [.rd z2i a0] [] (zdi a0) (fun r nv=>⟨[.rd z0k r],[]⟩):=by
 refine z2n 32 Tryz.func203 rfl rfl rfl fun H w=>?_
 refine gSR<|Eb rfl (bx 1 rfl) fun v1=>Za rfl<|Zn<|gSR<|Eb rfl (z7s 2 zkj (.zr (R:=z2i) (x:=(⟨0,0,0,[]⟩:z0b)) zu0)) fun v2=>Zn<|z7f (fun (s3:z0b) aa ww=>Sta (ctx 32 H [] w) [(1,.val (z09 v1 0)),(3,.val (z09 v2 0))] [(1,some (v1,.box 67 [.rd z2i a0])),(2,some (v2,.box 67 [.rd z2i s3]))] aa ww) ?_ (fun s3=>?_)
 ·
  refine gSR<|Zq (faB 1 rfl rfl Tryz.underlying67 rfl (by exact ti5))<|Zq (ld 1 rfl rfl ((Foc.here).part (z3e _)) ty5 rfl)<|Zn<|z4q<|gSR<|Zq (B.eql rfl rfl)<|Za rfl<|Zn<|gIf rfl rfl (fun h4=>?_) (fun h4=>?_)
  ·
   refine gKn 7 rfl h4<|z1m<|Zq (faB 1 rfl rfl Tryz.underlying67 rfl (by exact ti2))<|Zq (ld 1 rfl rfl ((Foc.here).part (z6r _)) ty2 rfl)<|Zc [] [] Tryz.func225 rfl (zlh _) fun r5 n6=>Es (sto 2 rfl rfl Foc.here rfl zkj)<|z1f<|z1w<|z2x (fun aa ww h=>Zu h [1,2])
  ·
   refine gKn 7 rfl h4<|gSR<|Zq (B.eql rfl rfl)<|Za rfl<|Zn<|gIf rfl rfl (fun h7=>?_) (fun h7=>?_)
   ·
    refine gKn 12 rfl h7<|z1m<|Zq (faB 1 rfl rfl Tryz.underlying67 rfl (by exact znl))<|Zq (ld 1 rfl rfl ((Foc.here).part (z42 _)) zmo rfl)<|Zc [] [] Tryz.func226 rfl (zn9 _) fun r8 n9=>Es (sto 2 rfl rfl Foc.here rfl zkj)<|z1f<|z1w<|z2x (fun aa ww h=>Zu h [1,2])
   ·
    refine gKn 12 rfl h7<|gSR<|Zq (B.eql rfl rfl)<|Za rfl<|Zn<|gIf rfl rfl (fun h10=>?_) (fun h10=>?_)
    ·
     refine gKn 17 rfl h10<|z1m<|Zq (faB 1 rfl rfl Tryz.underlying67 rfl (by exact ti9))<|Zq (ld 1 rfl rfl ((Foc.here).part (z3n _)) ty9 rfl)<|Zc [] [] Tryz.func227 rfl (zo9 _) fun r11 n12=>Zm rfl<|Zq (ext rfl rfl)<|Zq (ext rfl rfl)<|Es (sto 2 rfl rfl Foc.here rfl zkj)<|z1f<|z1w<|z2x (fun aa ww h=>Zu h [1,2])
    ·
     refine gKn 17 rfl h10<|z2l<|z1w<|z2x (fun aa ww h=>Zu h [1,2])
 ·
  refine z0w<|gSR<|Zq (ld 1 rfl rfl Foc.here zr1 rfl)<|Zq (ld 2 rfl rfl Foc.here zr1 rfl)<|Zq (neA rfl rfl eq67 rfl rfl gq67)<|Zm rfl<|z1n 27 rfl (fun h13=>?_) (fun h13=>?_)
  ·
   refine lKn 26 rfl h13<|Zk rfl<|Zk rfl<|Zk rfl<|Zq (pkT rfl rfl)<|Zn<|zdg rfl<|gSR<|Za rfl<|Zn<|z0m<|z12<|Ze [] [] rfl
  ·
   refine lKn 26 rfl h13<|z0z Zx rfl rfl (faB 1 rfl rfl Tryz.underlying67 rfl (by exact ti5))<|z0z Zx rfl rfl (ld 1 rfl rfl ((Foc.here).part (z3e _)) ty5 rfl)<|z0z Zx rfl rfl (B.eql rfl rfl)<|Zq (pkF rfl rfl)<|Zn<|gIf rfl rfl (fun h14=>?_) (fun h14=>?_)
   ·
    refine gKn 30 rfl h14<|gSR<|Za rfl<|Zn<|z0m<|z12<|Ze [] [] rfl
   ·
    refine gKn 30 rfl h14<|Zt<|gSR<|Za rfl<|Zn<|z0m<|Ze [] [] rfl
def zfh (a0:z1u):Option (Int) :=
 if a0.Kind==1 then
  some (decide (a0=(⟨1,[],(⟨0,0,0,[]⟩:z0b)⟩:z1u))) >>= fun y3 =>
  if !y3 then
   some 8
  else
   some 0
 else
  (if a0.Kind==2 then
   some true
  else
   some (a0.Kind==3)) >>= fun s5 =>
  if s5 then
   zqg a0.Key >>= fun r8 =>
   if r8 then
    some (decide (a0.Value=(⟨0,0,0,[]⟩:z0b))) >>= fun y11 =>
    if !y11 then
     some 8
    else
     some 0
   else
    some 8
  else
   if a0.Kind==4 then
    zqg a0.Key >>= fun r14 =>
    if r14 then
     zdi a0.Value >>= fun r17 =>
     if !(r17==0) then
      some 8
     else
      some 0
    else
     some 8
   else
    some 8
theorem zmr (a0:z1u):z27 Tryz.prog 171 [.rd z1i a0] [] (zfh a0) (fun r nv=>⟨[.rd z0k r],[]⟩):=by
 refine z2n 36 Tryz.func171 rfl rfl rfl fun H w=>?_
 refine gSR<|Eb rfl (bx 1 rfl) fun v1=>Za rfl<|Zn<|gSR<|Za rfl<|Zn<|z0w<|gSR<|Zq (faB 1 rfl rfl Tryz.underlying69 rfl (by exact ti5))<|Zq (ld 1 rfl rfl ((Foc.here).part (z4c _)) ty5 rfl)<|Zn<|z4q<|gSR<|Zq (B.eql rfl rfl)<|Za rfl<|Zn<|gIf rfl rfl (fun h2=>?_) (fun h2=>?_)
 ·
  refine gKn 7 rfl h2<|z1m<|Zq (ld 1 rfl rfl Foc.here ty69 rfl)<|Zq (bld (x':=(⟨1,[],(⟨0,0,0,[]⟩:z0b)⟩:z1u)) [(0,1),(1,1),(2,4)] Tryz.underlying69 zor rfl zx2 rfl (Bld.cons (z4c _) rfl rfl<|Bld.done rfl))<|Zq (eqA rfl rfl eq69 rfl rfl gq69)<|Za rfl<|z1e 3 rfl fun y3=>z1f<|z1w<|z0d<|z0w<|gSR<|Zm rfl<|Zq (zcy rfl)<|Zn<|gIf rfl rfl (fun h4=>?_) (fun h4=>?_)
  ·
   refine gSR<|Za rfl<|Zn<|z0m<|z12<|Ze [] [] rfl
  ·
   refine Zt<|gSR<|Za rfl<|Zn<|z0m<|Ze [] [] rfl
 ·
  refine gKn 7 rfl h2<|z7f (fun (s5:Bool) aa ww=>Sta (ctx 36 H [] w) [(1,.val (z09 v1 0)),(3,.rd z0n false),(5,.rd u8R a0.Kind),(11,.rd z0n s5)] [(1,some (v1,.box 69 [.rd z1i a0]))] aa ww) ?_ (fun s5=>?_)
  ·
   refine gSR<|Zq (B.eql rfl rfl)<|Za rfl<|Zn<|gIf rfl rfl (fun h6=>?_) (fun h6=>?_)
   ·
    refine gKn 12 rfl h6<|z2l<|z2x (fun aa ww h=>Zu h [1])
   ·
    refine gKn 12 rfl h6<|z1m<|Zq (B.eql rfl rfl)<|Za rfl<|z1f<|z2x (fun aa ww h=>Zu h [1])
  ·
   refine gIf rfl rfl (fun h7=>?_) (fun h7=>?_)
   ·
    refine z1m<|Zq (faB 1 rfl rfl Tryz.underlying69 rfl (by exact ti9))<|Zq (ld 1 rfl rfl ((Foc.here).part (z5v _)) ty9 rfl)<|Zc [] [] Tryz.func202 rfl (zpe _) fun r8 n9=>Zm rfl<|z1n 17 rfl (fun h10=>?_) (fun h10=>?_)
    ·
     refine lKn 16 rfl h10<|z0z Zx rfl rfl (faB 1 rfl rfl Tryz.underlying69 rfl (by exact zkj))<|z0z Zx rfl rfl (ld 1 rfl rfl ((Foc.here).part (z5a _)) zr1 rfl)<|z0z Zx rfl rfl (bld (x':=(⟨0,0,0,[]⟩:z0b)) [(0,1),(1,1),(2,1),(3,1)] Tryz.underlying67 zkj rfl zu0 rfl (Bld.done rfl))<|z0z Zx rfl rfl (eqA rfl rfl eq67 rfl rfl gq67)<|Zq (pkT rfl rfl)<|Za rfl<|z1e 3 rfl fun y11=>z1f<|z1w<|z0d<|z0w<|gSR<|Zm rfl<|Zq (zcy rfl)<|Zn<|gIf rfl rfl (fun h12=>?_) (fun h12=>?_)
     ·
      refine gSR<|Za rfl<|Zn<|z0m<|z12<|Ze [] [] rfl
     ·
      refine Zt<|gSR<|Za rfl<|Zn<|z0m<|Ze [] [] rfl
    ·
     refine lKn 16 rfl h10<|Zk rfl<|Zk rfl<|Zk rfl<|Zk rfl<|Zq (pkF rfl rfl)<|Za rfl<|z1f<|z1w<|z0d<|z0w<|gSR<|Zm rfl<|Zq (zcy rfl)<|Zn<|zdg rfl<|gSR<|Za rfl<|Zn<|z0m<|z12<|Ze [] [] rfl
   ·
    refine gSR<|Zq (B.eql rfl rfl)<|Za rfl<|Zn<|gIf rfl rfl (fun h13=>?_) (fun h13=>?_)
    ·
     refine gKn 24 rfl h13<|z1m<|Zq (faB 1 rfl rfl Tryz.underlying69 rfl (by exact ti9))<|Zq (ld 1 rfl rfl ((Foc.here).part (z5v _)) ty9 rfl)<|Zc [] [] Tryz.func202 rfl (zpe _) fun r14 n15=>Zm rfl<|z1n 28 rfl (fun h16=>?_) (fun h16=>?_)
     ·
      refine lKn 27 rfl h16<|z0z Zx rfl rfl (faB 1 rfl rfl Tryz.underlying69 rfl (by exact zkj))<|z0z Zx rfl rfl (ld 1 rfl rfl ((Foc.here).part (z5a _)) zr1 rfl)<|zcw [] [] Zx rfl Tryz.func203 rfl rfl (zhk _) (Y1 rfl) rN fun r17 n18=>z0z Zx rfl rfl (I.eql rfl rfl)<|Zq (pkT rfl rfl)<|Za rfl<|z1f<|z1w<|z0d<|z0w<|gSR<|Zm rfl<|Zq (zcy rfl)<|Zn<|gIf rfl rfl (fun h19=>?_) (fun h19=>?_)
      ·
       refine gSR<|Za rfl<|Zn<|z0m<|z12<|Ze [] [] rfl
      ·
       refine Zt<|gSR<|Za rfl<|Zn<|z0m<|Ze [] [] rfl
     ·
      refine lKn 27 rfl h16<|Zk rfl<|Zk rfl<|Zk rfl<|Zk rfl<|Zq (pkF rfl rfl)<|Za rfl<|z1f<|z1w<|z0d<|z0w<|gSR<|Zm rfl<|Zq (zcy rfl)<|Zn<|zdg rfl<|gSR<|Za rfl<|Zn<|z0m<|z12<|Ze [] [] rfl
    ·
     refine gKn 24 rfl h13<|z2l<|z1w<|z0d<|z0w<|gSR<|Zm rfl<|Zq (zcy rfl)<|Zn<|zdg rfl<|gSR<|Za rfl<|Zn<|z0m<|z12<|Ze [] [] rfl
def z16 (a0:List (Vector UInt8 32)) (s3:Int):Option (Sum (Sum Bool Unit) Int) :=
 if decide (0<s3) then
  idx a0 s3 >>= fun x5 =>
  idx a0 (w64 (s3 - 1)) >>= fun x7 =>
  z91 x5 x7 >>= fun r9 =>
  if decide (r9<0) then
   some (.inl (.inl false))
  else
   some (.inr (w64 (s3 - 1)))
 else
  some (.inl (.inr ()))
def z1s (a0:List (Vector UInt8 32)):Option (Bool) :=
 z5p (some (w64 ((a0.length:Int) - 1)) >>= fun y2 =>
 iter (z16 a0) y2) fun s1 =>
 some true
theorem z7j (a0:List (Vector UInt8 32)):z27 Tryz.prog 169 [.rd (z02 (z06 32 u8R)) a0,.val (.func (.func 105) #[] #[])] [] (z1s a0) (fun r nv=>⟨[.rd z0n r],[]⟩):=by
 refine z2n 25 Tryz.func169 rfl rfl rfl fun H w=>?_
 refine gSR<|Za rfl<|Zn<|z7k (fun (s1:Unit) aa ww=>Sta (ctx 25 H [] w) [] [] aa ww) ?_ (fun s1=>?_)
 ·
  refine gSR<|Zm rfl<|Zq (z37 rfl .rd rfl tu22)<|Zq (I.sub rfl rfl)<|Za rfl<|z1e 5 rfl fun y2=>Zn<|z2h (fun (s3:Int) aa ww=>Sta (ctx 25 H [] w) [(0,.rd (z02 (z06 32 u8R)) a0),(1,.val (.func (.func 105) #[] #[])),(5,.rd z0k s3)] [] aa ww) (fun aa ww h=>Zu h []) (fun s3=>?_)
  refine z0w<|gSR<|Zm rfl<|Zq (I.gtr rfl rfl)<|Zn<|gIf rfl rfl (fun h4=>?_) (fun h4=>?_)
  ·
   refine Zt<|z0w<|z4q<|z0w<|z5m [] mixed rfl rfl<|hTk 0 rfl rfl (mv rfl)<|hTk 1 rfl rfl (mv rfl)<|hTk 2 rfl rfl (mv rfl)<|z0o fun x5 h6=>hTk 3 rfl rfl (ixR rfl rfl h6 tu22 z1p rfl)<|hTk 4 rfl rfl (ldR rfl z49)<|hTk 5 rfl rfl (mv rfl)<|hTk 6 rfl rfl (mv rfl)<|hTk 7 rfl rfl (I.sub rfl rfl)<|z0o fun x7 h8=>hTk 8 rfl rfl (ixR rfl rfl h8 tu22 z1p rfl)<|hTk 9 rfl rfl (ldR rfl z49)<|zrw 10 [] [] rfl (by kernel_rfl) rfl (gd0 rfl) rfl Tryz.func105 rfl rfl rfl (za2 _ _) (Y2 rfl rfl) (cN) rfl rN rfl (fun _ _=>z07) fun r9 n10=>hTk 11 rfl rfl (I.lss rfl rfl)<|z0y (by kernel_rfl)<|z0d<|gIf rfl rfl (fun h11=>?_) (fun h11=>?_)
   ·
    refine gSR<|Za rfl<|Zn<|z0m<|z4a<|z12<|z7g<|z54<|Ze [] [] rfl
   ·
    refine z2l<|z1w<|z0d<|z1m<|Zm rfl<|Zq (I.sub rfl rfl)<|Za rfl<|z1f<|z0r (fun aa ww h=>Zu h [])
  ·
   refine z1z<|z13<|z14<|z4s (fun aa ww h=>Zu h [])
 ·
  refine gSR<|Za rfl<|Zn<|z0m<|Ze [] [] rfl
def z1g (c0:List (Vector UInt8 32)) (s3:Int) (s13:(List (Vector UInt8 32)) × Int × Int):Option (Sum ((List (Vector UInt8 32)) × Int) ((List (Vector UInt8 32)) × Int × Int)) :=
 if decide (s13.2.2<((((c0.length:Int):Int).toNat - (s3:Int).toNat:Nat):Int)) then
  subi ((s3:Int).toNat) (((c0.length:Int):Int).toNat - (s3:Int).toNat) s13.2.2 >>= fun q15 =>
  idx s13.1 (q15:Int) >>= fun x17 =>
  subi ((s3:Int).toNat) (((c0.length:Int):Int).toNat - (s3:Int).toNat) (w64 (s13.2.2 - 1)) >>= fun q19 =>
  idx s13.1 (q19:Int) >>= fun x21 =>
  if !decide (x17=x21) then
   subi ((s3:Int).toNat) (((c0.length:Int):Int).toNat - (s3:Int).toNat) s13.2.2 >>= fun q24 =>
   idx s13.1 (q24:Int) >>= fun x26 =>
   idx s13.1 s13.2.1 >>= fun x28 =>
   some (w64 (s13.2.1+1)) >>= fun y30 =>
   some (w64 (s13.2.2+1)) >>= fun y31 =>
   some (.inr (s13.1.set (s13.2.1:Int).toNat x26,y30,y31))
  else
   some (w64 (s13.2.2+1)) >>= fun y32 =>
   some (.inr (s13.1,s13.2.1,y32))
 else
  some (.inl (s13.1,s13.2.1))
def z0p (c0:List (Vector UInt8 32)) (s3:Int):Option (Sum (Sum ((List (Vector UInt8 32))) Unit) Int) :=
 if decide (s3<(c0.length:Int)) then
  idx c0 s3 >>= fun x5 =>
  idx c0 (w64 (s3 - 1)) >>= fun x7 =>
  if decide (x5=x7) then
   chk (0≤s3∧s3≤(c0.length:Int)∧(c0.length:Int)≤(c0.length:Int)) >>= fun u10 =>
   (iter (z1g c0 s3) (c0,s3,1)) >>= fun s12 =>
   chk (0≤s12.2∧s12.2≤(s12.1.length:Int)∧(s12.1.length:Int)≤(s12.1.length:Int)) >>= fun u33 =>
   chk ((s12.2:Int).toNat+(((s12.1.length:Int):Int).toNat - (s12.2:Int).toNat)≤s12.1.length) >>= fun u35 =>
   cut (clr s12.1 ((s12.2:Int).toNat) (((s12.1.length:Int):Int).toNat - (s12.2:Int).toNat) (Vector.replicate 32 0)) 0 s12.2 >>= fun x37 =>
   some (.inl (.inl x37))
  else
   some (.inr (w64 (s3+1)))
 else
  some (.inl (.inr ()))
def z19 (c0:List (Vector UInt8 32)):Option ((List (Vector UInt8 32))) :=
 if decide ((c0.length:Int)<2) then
  some c0
 else
  z5p (iter (z0p c0) 1) fun s2 =>
  some c0
theorem z31 (p0:Value) (c0:List (Vector UInt8 32)):z27 Tryz.prog 80 [.val p0] [(1,some (p0,.list (z06 32 u8R) 62 c0))] (z19 c0) (fun r nv=>⟨[.val (nv 0)],[(100,some (nv 0,.list (z06 32 u8R) 62 r))]⟩):=by
 refine z2n 61 Tryz.func80 rfl rfl rfl fun H w=>?_
 refine gSR<|Za rfl<|Zn<|z0w<|gSR<|Zm rfl<|Zq (z37 rfl (.own 1 rfl) rfl tu22)<|Zq (I.lss rfl rfl)<|Zn<|gIf rfl rfl (fun h1=>?_) (fun h1=>?_)
 ·
  refine gSR<|Zm rfl<|Za rfl<|Zn<|z0m<|z12<|Ze [p0] [1] rfl
 ·
  refine Zt<|z7k (fun (s2:Unit) aa ww=>Sta (ctx 61 H [(1,some (p0,.list (z06 32 u8R) 62 c0))] w) [(0,.val p0)] [(1,some (p0,.list (z06 32 u8R) 62 c0))] aa ww) ?_ (fun s2=>?_)
  ·
   refine gSR<|Za rfl<|Zn<|z2h (fun (s3:Int) aa ww=>Sta (ctx 61 H [(1,some (p0,.list (z06 32 u8R) 62 c0))] w) [(0,.val p0),(3,.rd z0k s3)] [(1,some (p0,.list (z06 32 u8R) 62 c0))] aa ww) (fun aa ww h=>Zu h [1]) (fun s3=>?_)
   refine z0w<|gSR<|Zm rfl<|Zm rfl<|Zq (z37 rfl (.own 1 rfl) rfl tu22)<|Zq (I.lss rfl rfl)<|Zn<|gIf rfl rfl (fun h4=>?_) (fun h4=>?_)
   ·
    refine Zt<|z0w<|z4q<|z0w<|zdn mixed (by kernel_rfl)<|Rq rfl (mv rfl)<|Rq rfl (mv rfl)<|z6a fun x5 h6=>Rq rfl (ixO 1 rfl rfl rfl h6 tu22 z1p)<|Rq rfl (ld 1 rfl rfl (Foc.el h6) z49 rfl)<|Rq rfl (mv rfl)<|Rq rfl (mv rfl)<|Rq rfl (I.sub rfl rfl)<|z6a fun x7 h8=>Rq rfl (ixO 1 rfl rfl rfl h8 tu22 z1p)<|Rq rfl (ld 1 rfl rfl (Foc.el h8) z49 rfl)<|Rq rfl (eqA rfl rfl zsh rfl rfl zsu)<|zl6<|z0d<|gIf rfl rfl (fun h9=>?_) (fun h9=>?_)
    ·
     refine gSR<|Zm rfl<|Zm rfl<|z0s fun u10 h11=>Zq (zt1 1 rfl rfl (.to rfl) .no (z44 h11) tu22 z1p)<|Za rfl<|Zn<|z7f (fun (s12:(List (Vector UInt8 32)) × Int) aa ww=>Sta (ctx 61 H [(1,some (p0,.list (z06 32 u8R) 62 c0))] w) [(0,.val p0),(3,.rd z0k s12.2)] [(1,some (p0,.list (z06 32 u8R) 62 s12.1))] aa ww) ?_ (fun s12=>?_)
     ·
      refine gSR<|Za rfl<|Zn<|z2h (fun (s13:(List (Vector UInt8 32)) × Int × Int) aa ww=>Sta (ctx 61 H [(1,some (p0,.list (z06 32 u8R) 62 c0))] w) [(0,.val p0),(3,.rd z0k s13.2.1),(4,.sub (z06 32 u8R).sz p0 ((s3:Int).toNat) (((c0.length:Int):Int).toNat - (s3:Int).toNat)),(5,.rd z0k s13.2.2)] [(1,some (p0,.list (z06 32 u8R) 62 s13.1))] aa ww) (fun aa ww h=>Zu h [1]) (fun s13=>?_)
      refine z0w<|gSR<|Zm rfl<|Zm rfl<|Zq (z13a rfl rfl tu22)<|Zq (I.lss rfl rfl)<|Zn<|gIf rfl rfl (fun h14=>?_) (fun h14=>?_)
      ·
       refine Zt<|z0w<|z4q<|z0w<|zdn mixed (by kernel_rfl)<|Rq rfl (mv rfl)<|Rq rfl (mv rfl)<|z6a fun q15 h16=>z6a fun x17 h18=>Rq rfl (ixSu 1 rfl rfl rfl h16 tu22 z1p)<|Rq rfl (ld 1 rfl rfl (Foc.el h18) z49 rfl)<|Rq rfl (mv rfl)<|Rq rfl (mv rfl)<|Rq rfl (I.sub rfl rfl)<|z6a fun q19 h20=>z6a fun x21 h22=>Rq rfl (ixSu 1 rfl rfl rfl h20 tu22 z1p)<|Rq rfl (ld 1 rfl rfl (Foc.el h22) z49 rfl)<|Rq rfl (neA rfl rfl zsh rfl rfl zsu)<|zl6<|z0d<|gIf rfl rfl (fun h23=>?_) (fun h23=>?_)
       ·
        refine gSR<|Zm rfl<|Zm rfl<|Zm rfl<|Zm rfl<|z0s fun q24 h25=>z0s fun x26 h27=>Zq (ixSu 1 rfl rfl rfl h25 tu22 z1p)<|Zq (ld 1 rfl rfl (Foc.el h27) z49 rfl)<|z0s fun x28 h29=>Zq (ixO 1 rfl rfl rfl h29 tu22 z1p)<|Es (sto 1 rfl rfl (Foc.el h29) rfl z1p)<|Zn<|z1m<|Zm rfl<|Zq (I.add rfl rfl)<|Za rfl<|z1e 3 rfl fun y30=>z1f<|z1w<|z0d<|z1m<|Zm rfl<|Zq (I.add rfl rfl)<|Za rfl<|z1e 5 rfl fun y31=>z1f<|z0r (fun aa ww h=>Zu h [1])
       ·
        refine z2l<|z1w<|z0d<|z1m<|Zm rfl<|Zq (I.add rfl rfl)<|Za rfl<|z1e 5 rfl fun y32=>z1f<|z0r (fun aa ww h=>Zu h [1])
      ·
       refine z1z<|z13<|z14<|z2x (fun aa ww h=>Zu h [1])
     ·
      refine gSR<|Zm rfl<|Zm rfl<|z0s fun u33 h34=>Zq (zt1 1 rfl rfl (.to rfl) .no (z44 h34) tu22 z1p)<|z0s fun u35 h36=>EsV (clrS 1 rfl rfl (z44 h36) rfl tu22 z1p zj3 rfl)<|Zn<|gSR<|Zm rfl<|Zm rfl<|z0s fun x37 h38=>Ef rfl (cutO 1 rfl rfl rfl h38 tu22 z1p) fun v39=>Za rfl<|Zn<|z0m<|z4a<|z12<|z7g<|z54<|Ze [v39] [1] rfl
    ·
     refine z2l<|z1w<|z0d<|z1m<|Zm rfl<|Zq (I.add rfl rfl)<|Za rfl<|z1f<|z0r (fun aa ww h=>Zu h [1])
   ·
    refine z1z<|z13<|z14<|z4s (fun aa ww h=>Zu h [1])
  ·
   refine gSR<|Zm rfl<|Za rfl<|Zn<|z0m<|Ze [p0] [1] rfl
def zfk (a0:z0g):Option (Int) :=
 some (decide (4<(a0.Preds.length:Int))) >>= fun y2 =>
 if y2 then
  some 4
 else
  (z1s a0.Preds >>= fun r5 =>
  if !r5 then
   some true
  else
   z1h a0.Preds >>= fun r8 =>
   z19 r8 >>= fun r10 =>
   some ((r10.length:Int) != (a0.Preds.length:Int)) >>= fun y12 =>
   some y12) >>= fun s4 =>
  if s4 then
   some 32
  else
   (zh1 a0.Author >>= fun r15 =>
   if !r15 then
    some true
   else
    if decide (1000000000000<a0.Stamp) then
     some true
    else
     some (decide (500000003≤(max a0.Sig.E a0.Sig.S))) >>= fun y19 =>
     some y19) >>= fun s14 =>
   if s14 then
    some 8
   else
    zfh a0.Act >>= fun r21 =>
    some r21
theorem zi0 (a0:z0g):z27 Tryz.prog 128 [.rd z0c a0] [] (zfk a0) (fun r nv=>⟨[.rd z0k r],[]⟩):=by
 refine z2n 47 Tryz.func128 rfl rfl rfl fun H w=>?_
 refine gSR<|Eb rfl (bx 1 rfl) fun v1=>Za rfl<|Zn<|z0w<|z4q<|gSR<|Zq (faB 1 rfl rfl Tryz.underlying73 rfl (by exact z2d))<|Zq (ld 1 rfl rfl ((Foc.here).part (z1l _)) z8l rfl)<|Zq (z37 rfl .rd rfl tu22)<|Zq (I.gtr rfl rfl)<|Za rfl<|z1e 3 rfl fun y2=>Zn<|gIf rfl rfl (fun h3=>?_) (fun h3=>?_)
 ·
  refine gSR<|Za rfl<|Zn<|z0m<|z4a<|z12<|Ze [] [] rfl
 ·
  refine z7f (fun (s4:Bool) aa ww=>Sta (ctx 47 H [] w) [(1,.val (z09 v1 0)),(8,.rd z0n s4)] [(1,some (v1,.box 73 [.rd z0c a0]))] aa ww) ?_ (fun s4=>?_)
  ·
   refine z5m [23,26] mixed rfl rfl<|hTk 0 rfl rfl (faB 1 rfl rfl Tryz.underlying73 rfl (by exact z2d))<|hTk 1 rfl rfl (ld 1 rfl rfl ((Foc.here).part (z1l _)) z8l rfl)<|z10 2 [] [] rfl (by kernel_rfl) rfl (gd0 rfl) rfl Tryz.func169 rfl rfl (z7j _) (Y2 rfl rfl) rN rfl (fun _ _=>zbv) fun r5 n6=>hTk 3 rfl rfl (zcy rfl)<|hTk 4 rfl rfl (mv rfl)<|hIf 13 rfl rfl (fun h7=>?_) (fun h7=>?_)
   ·
    refine hKn 12 rfl rfl h7<|hSk 5 rfl rfl<|hSk 6 rfl rfl<|hSk 7 rfl rfl<|hSk 8 rfl rfl<|hSk 9 rfl rfl<|hSk 10 rfl rfl<|hSk 11 rfl rfl<|hSk 12 rfl rfl<|hSk 13 rfl rfl<|hTk 14 rfl rfl (pkT rfl rfl)<|hTk 15 rfl rfl (asg rfl)<|z0y (by kernel_rfl)<|z2x (fun aa ww h=>Zu h [1])
   ·
    refine hKn 12 rfl rfl h7<|Zg 5 rfl rfl (faB 1 rfl rfl Tryz.underlying73 rfl (by exact z2d))<|Zg 6 rfl rfl (ld 1 rfl rfl ((Foc.here).part (z1l _)) z8l rfl)<|Zg 10 rfl rfl (faB 1 rfl rfl Tryz.underlying73 rfl (by exact z2d))<|Zg 11 rfl rfl (ld 1 rfl rfl ((Foc.here).part (z1l _)) z8l rfl)<|Zg 12 rfl rfl (z37 rfl .rd rfl tu22)<|z10 7 [] [(100,23)] rfl (by kernel_rfl) rfl Zx rfl Tryz.func46 rfl rfl (z2a _) (Y1 rfl) rN rfl (fun _ _=>z05) fun r8 n9=>z10 8 [23] [(100,26)] rfl (by kernel_rfl) rfl Zx rfl Tryz.func80 rfl rfl (z31 _ _) (Y1 rfl) (y1 rfl) rfl (fun _ _=>z05) fun r10 n11=>zuw 9 rfl (by kernel_rfl) (by kernel_rfl) (by kernel_rfl) Zx rfl rfl z07 (z37 rfl (.own 26 rfl) rfl tu22)<|Zg 13 rfl rfl (I.neq rfl rfl)<|hTk 14 rfl rfl (pkF rfl rfl)<|hTk 15 rfl rfl (asg rfl)<|zxz 8 rfl rfl fun y12=>z0y (by kernel_rfl)<|z2x (fun aa ww h=>Zu h [1])
  ·
   refine gIf rfl rfl (fun h13=>?_) (fun h13=>?_)
   ·
    refine gSR<|Za rfl<|Zn<|z0m<|z4a<|z12<|Ze [] [] rfl
   ·
    refine z7f (fun (s14:Bool) aa ww=>Sta (ctx 47 H [] w) [(1,.val (z09 v1 0)),(24,.rd z0n s14)] [(1,some (v1,.box 73 [.rd z0c a0]))] aa ww) ?_ (fun s14=>?_)
    ·
     refine z1m<|Zq (faB 1 rfl rfl Tryz.underlying73 rfl (by exact z3h))<|Zq (ld 1 rfl rfl ((Foc.here).part (z4j _)) z4p rfl)<|Zc [] [] Tryz.func170 rfl (zi3 _) fun r15 n16=>Zq (zcy rfl)<|Zm rfl<|z1n 29 rfl (fun h17=>?_) (fun h17=>?_)
     ·
      refine lKn 28 rfl h17<|Zk rfl<|Zk rfl<|Zk rfl<|Zq (pkT rfl rfl)<|Zm rfl<|Zk rfl<|Zk rfl<|Zk rfl<|Zk rfl<|Zk rfl<|Zk rfl<|Zk rfl<|Zk rfl<|Zq (pkT rfl rfl)<|Za rfl<|z1f<|z2x (fun aa ww h=>Zu h [1])
     ·
      refine lKn 28 rfl h17<|z0z Zx rfl rfl (faB 1 rfl rfl Tryz.underlying73 rfl (by exact znl))<|z0z Zx rfl rfl (ld 1 rfl rfl ((Foc.here).part (z7x _)) zmo rfl)<|z0z Zx rfl rfl (U.gtr rfl rfl)<|Zq (pkF rfl rfl)<|Zm rfl<|z1n 34 rfl (fun h18=>?_) (fun h18=>?_)
      ·
       refine lKn 32 rfl h18<|lKn 33 rfl h18<|Zk rfl<|Zk rfl<|Zk rfl<|Zk rfl<|Zk rfl<|Zk rfl<|Zk rfl<|Zk rfl<|Zq (pkT rfl rfl)<|Za rfl<|z1f<|z2x (fun aa ww h=>Zu h [1])
      ·
       refine lKn 32 rfl h18<|lKn 33 rfl h18<|z0z Zx rfl rfl (faB 1 rfl rfl Tryz.underlying73 rfl (by exact zqv))<|z0z Zx rfl rfl (faB 1 rfl rfl Tryz.underlying71 rfl (by exact z3h))<|z0z Zx rfl rfl (ld 1 rfl rfl (((Foc.here).part (z3o _)).part (z5u _)) z4p rfl)<|z0z Zx rfl rfl (faB 1 rfl rfl Tryz.underlying73 rfl (by exact zqv))<|z0z Zx rfl rfl (faB 1 rfl rfl Tryz.underlying71 rfl (by exact z3h))<|z0z Zx rfl rfl (ld 1 rfl rfl (((Foc.here).part (z3o _)).part (z88 _)) z4p rfl)<|z0z Zx rfl rfl (W.max rfl rfl)<|z0z Zx rfl rfl (W.geq rfl rfl)<|Zq (pkF rfl rfl)<|Za rfl<|z1e 24 rfl fun y19=>z1f<|z2x (fun aa ww h=>Zu h [1])
    ·
     refine gIf rfl rfl (fun h20=>?_) (fun h20=>?_)
     ·
      refine gSR<|Za rfl<|Zn<|z0m<|z4a<|z12<|Ze [] [] rfl
     ·
      refine z2l<|z1w<|z0d<|gSR<|Zq (faB 1 rfl rfl Tryz.underlying73 rfl (by exact zor))<|Zq (ld 1 rfl rfl ((Foc.here).part (z30 _)) ty69 rfl)<|Zc [] [] Tryz.func171 rfl (zmr _) fun r21 n22=>Za rfl<|Zn<|z0m<|Ze [] [] rfl
def zcx (a0:Vector UInt8 32) (c1_0:Int) (c2_0:List (Vector UInt8 32)):Option (Bool × Int) :=
 if decide ((w64 (c1_0+1))<(c2_0.length:Int)) then
  idx c2_0 (w64 ((w64 (c1_0+1)) - 1)) >>= fun x3 =>
  idx c2_0 (w64 (c1_0+1)) >>= fun x5 =>
  z91 x3 x5 >>= fun r7 =>
  some (decide (0≤r7)) >>= fun y9 =>
  some (y9,w64 (c1_0+1))
 else
  some (false,w64 (c1_0+1))
theorem zl3 (a0:Vector UInt8 32) (p1_0:Value) (c1_0:Int) (p2_0:Value) (c2_0:List (Vector UInt8 32)):z27 Tryz.prog 183 [.rd (z06 32 u8R) a0,.val (z09 p1_0 0),.val (z09 p2_0 0)] [(1,some (p1_0,.box 3 [.rd z0k c1_0])),(2,some (p2_0,.box 22 [.rd (z02 (z06 32 u8R)) c2_0]))] (zcx a0 c1_0 c2_0) (fun r nv=>⟨[.rd z0n r.1],[(1,some (p1_0,.box 3 [.rd z0k r.2])),(2,some (p2_0,.box 22 [.rd (z02 (z06 32 u8R)) c2_0]))]⟩):=by
 refine z2n 24 Tryz.func183 rfl rfl rfl fun H w=>?_
 refine gSR<|Eb rfl (bx 3 rfl) fun v1=>Za rfl<|Zn<|gSR<|Zq (ld 1 rfl rfl Foc.here ty3 rfl)<|Zq (I.add rfl rfl)<|Es (sto 1 rfl rfl Foc.here rfl ti3)<|Zn<|z0w<|z5m [] mixed rfl rfl<|hTk 0 rfl rfl (ld 1 rfl rfl Foc.here ty3 rfl)<|hTk 1 rfl rfl (ld 2 rfl rfl Foc.here z8l rfl)<|hTk 2 rfl rfl (z37 rfl .rd rfl tu22)<|hTk 3 rfl rfl (I.lss rfl rfl)<|hTk 4 rfl rfl (mv rfl)<|hIf 11 rfl rfl (fun h2=>?_) (fun h2=>?_)
 ·
  refine hKn 10 rfl rfl h2<|Zg 5 rfl rfl (ld 2 rfl rfl Foc.here z8l rfl)<|Zg 6 rfl rfl (ld 1 rfl rfl Foc.here ty3 rfl)<|Zg 7 rfl rfl (I.sub rfl rfl)<|z0o fun x3 h4=>Zg 8 rfl rfl (ixR rfl rfl h4 tu22 z1p rfl)<|Zg 9 rfl rfl (ldR rfl z49)<|Zg 10 rfl rfl (ld 2 rfl rfl Foc.here z8l rfl)<|Zg 11 rfl rfl (ld 1 rfl rfl Foc.here ty3 rfl)<|z0o fun x5 h6=>Zg 12 rfl rfl (ixR rfl rfl h6 tu22 z1p rfl)<|Zg 13 rfl rfl (ldR rfl z49)<|z10 14 [] [] rfl (by kernel_rfl) rfl Zx rfl Tryz.func105 rfl rfl (za2 _ _) (Y2 rfl rfl) rN rfl (fun _ _=>z07) fun r7 n8=>Zg 15 rfl rfl (I.geq rfl rfl)<|hTk 16 rfl rfl (pkT rfl rfl)<|hTk 17 rfl rfl (asg rfl)<|zxz 4 rfl rfl fun y9=>z0y (by kernel_rfl)<|z0d<|z0m<|Ze [] [1,2] rfl
 ·
  refine hKn 10 rfl rfl h2<|hSk 5 rfl rfl<|hSk 6 rfl rfl<|hSk 7 rfl rfl<|hSk 8 rfl rfl<|hSk 9 rfl rfl<|hSk 10 rfl rfl<|hSk 11 rfl rfl<|hSk 12 rfl rfl<|hSk 13 rfl rfl<|hSk 14 rfl rfl<|hSk 15 rfl rfl<|hTk 16 rfl rfl (pkF rfl rfl)<|hTk 17 rfl rfl (asg rfl)<|z0y (by kernel_rfl)<|z0d<|z0m<|Ze [] [1,2] rfl
def z0v (a0:List (Vector UInt8 32)) (c1_1:List (Vector UInt8 32)) (s2:Int × Int):Option (Sum (Sum (Int × Int) Int) (Int × Int)) :=
 if decide (s2.2<(a0.length:Int)) then
  idx a0 s2.2 >>= fun x4 =>
  zcx x4 s2.1 c1_1 >>= fun r6 =>
  if r6.1 then
   some (.inl (.inl (s2.2,r6.2)))
  else
   some (.inr (r6.2,w64 (s2.2+1)))
 else
  some (.inl (.inr s2.1))
def z36 (a0:List (Vector UInt8 32)) (c1_0:Int) (c1_1:List (Vector UInt8 32)):Option (Int × Int) :=
 z5p (iter (z0v a0 c1_1) (c1_0,0)) fun s1 =>
 some ((-1),s1)
theorem z7h (a0:List (Vector UInt8 32)) (p1_0:Value) (c1_0:Int) (p1_1:Value) (c1_1:List (Vector UInt8 32)):z27 Tryz.prog 114 [.rd (z02 (z06 32 u8R)) a0,.val (.func (.func 183) #[] #[z09 p1_0 0,z09 p1_1 0])] [(1,some (p1_0,.box 3 [.rd z0k c1_0])),(2,some (p1_1,.box 22 [.rd (z02 (z06 32 u8R)) c1_1]))] (z36 a0 c1_0 c1_1) (fun r nv=>⟨[.rd z0k r.1],[(1,some (p1_0,.box 3 [.rd z0k r.2])),(2,some (p1_1,.box 22 [.rd (z02 (z06 32 u8R)) c1_1]))]⟩):=by
 refine z2n 19 Tryz.func114 rfl rfl rfl fun H w=>?_
 refine gSR<|Za rfl<|Zn<|z7k (fun (s1:Int) aa ww=>Sta (ctx 19 H [(1,some (p1_0,.box 3 [.rd z0k c1_0])),(2,some (p1_1,.box 22 [.rd (z02 (z06 32 u8R)) c1_1]))] w) [] [(1,some (p1_0,.box 3 [.rd z0k s1])),(2,some (p1_1,.box 22 [.rd (z02 (z06 32 u8R)) c1_1]))] aa ww) ?_ (fun s1=>?_)
 ·
  refine gSR<|Zm rfl<|Zq (z37 rfl .rd rfl tu22)<|Zm rfl<|Zn<|z2h (fun (s2:Int × Int) aa ww=>Sta (ctx 19 H [(1,some (p1_0,.box 3 [.rd z0k c1_0])),(2,some (p1_1,.box 22 [.rd (z02 (z06 32 u8R)) c1_1]))] w) [(0,.rd (z02 (z06 32 u8R)) a0),(1,.val (.func (.func 183) #[] #[z09 p1_0 0,z09 p1_1 0])),(7,.rd z0k (a0.length:Int)),(8,.rd z0k s2.2)] [(1,some (p1_0,.box 3 [.rd z0k s2.1])),(2,some (p1_1,.box 22 [.rd (z02 (z06 32 u8R)) c1_1]))] aa ww) (fun aa ww h=>Zu h [1,2]) (fun s2=>?_)
  refine gSR<|Zq (I.lss rfl rfl)<|Zn<|z0w<|gIf rfl rfl (fun h3=>?_) (fun h3=>?_)
  ·
   refine Zt<|z0w<|z4q<|gSR<|Zm rfl<|Za rfl<|Zn<|gSR<|Zm rfl<|Zm rfl<|Zm rfl<|z0s fun x4 h5=>Zq (ixR rfl rfl h5 tu22 z1p rfl)<|Zq (ldR rfl z49)<|zgf [1,2] [(1,1),(2,2)] (gd0 rfl) rfl rfl Tryz.func183 rfl rfl (zl3 _ _ _ _ _) (Y1 rfl) (cQ 1 rfl<|cQ 2 rfl<|cN) (Zi rfl<|Zi rfl<|rN) fun r6 n7=>Zn<|gIf rfl rfl (fun h8=>?_) (fun h8=>?_)
   ·
    refine gSR<|Zm rfl<|Za rfl<|Zn<|z0m<|z4a<|z12<|z7g<|z54<|Ze [] [1,2] rfl
   ·
    refine z2l<|z1w<|z0d<|z1m<|Zq (I.add rfl rfl)<|Zm rfl<|z1f<|z0r (fun aa ww h=>Zu h [1,2])
  ·
   refine z1z<|z13<|z14<|z4s (fun aa ww h=>Zu h [1,2])
 ·
  refine gSR<|Za rfl<|Zn<|z0m<|Ze [] [1,2] rfl
def z2v (a0:List (Vector UInt8 32)) (c1_0:Int) (c1_1:List (Vector UInt8 32)):Option (Bool × Int) :=
 z36 a0 c1_0 c1_1 >>= fun r1 =>
 some (decide (0≤r1.1)) >>= fun y3 =>
 some (y3,r1.2)
theorem z6h (a0:List (Vector UInt8 32)) (p1_0:Value) (c1_0:Int) (p1_1:Value) (c1_1:List (Vector UInt8 32)):z27 Tryz.prog 125 [.rd (z02 (z06 32 u8R)) a0,.val (.func (.func 183) #[] #[z09 p1_0 0,z09 p1_1 0])] [(1,some (p1_0,.box 3 [.rd z0k c1_0])),(2,some (p1_1,.box 22 [.rd (z02 (z06 32 u8R)) c1_1]))] (z2v a0 c1_0 c1_1) (fun r nv=>⟨[.rd z0n r.1],[(1,some (p1_0,.box 3 [.rd z0k r.2])),(2,some (p1_1,.box 22 [.rd (z02 (z06 32 u8R)) c1_1]))]⟩):=by
 refine z2n 9 Tryz.func125 rfl rfl rfl fun H w=>?_
 refine gSR<|Za rfl<|Zn<|gSR<|Zm rfl<|Zm rfl<|Zc [1,2] [(1,1),(2,2)] Tryz.func114 rfl (z7h _ _ _ _ _) fun r1 n2=>Zq (I.geq rfl rfl)<|Za rfl<|z1e 4 rfl fun y3=>Zn<|z0m<|Ze [] [1,2] rfl
def zex (a0:List (Vector UInt8 32)):Option (Bool) :=
 z2v a0 0 a0 >>= fun r3 =>
 some (!r3.1)
theorem zn8 (a0:List (Vector UInt8 32)):z27 Tryz.prog 145 [.rd (z02 (z06 32 u8R)) a0] [] (zex a0) (fun r nv=>⟨[.rd z0n r],[]⟩):=by
 refine z2n 8 Tryz.func145 rfl rfl rfl fun H w=>?_
 refine gSR<|Eb rfl (bx 1 rfl) fun v1=>Za rfl<|Zn<|gSR<|Eb rfl (z7s 2 ti3 (.zr (R:=z0k) (x:=0) (Zr.num rfl))) fun v2=>Es (sto 2 rfl rfl Foc.here rfl ti3)<|Zn<|gSR<|Zq (ld 1 rfl rfl Foc.here z8l rfl)<|Zq (mkf mp0 (mp2 rfl rfl))<|Zc [2,1] [(1,2),(2,1)] Tryz.func125 rfl (z6h _ _ _ _ _) fun r3 n4=>Zq (zcy rfl)<|Za rfl<|Zn<|z0m<|Ze [] [] rfl
def zbi (a0:UInt64):Option (Int) :=
 (if decide (4294967296≤a0) then
  some (z85 a0 32,32)
 else
  some (a0,0)) >>= fun s1 =>
 (if decide (65536≤s1.1) then
  some (z85 s1.1 16) >>= fun y5 =>
  some (w64 (s1.2+16)) >>= fun y6 =>
  some (y5,y6)
 else
  some (s1.1,s1.2)) >>= fun s3 =>
 (if decide (256≤s3.1) then
  some (w64 (s3.2+8)) >>= fun y9 =>
  some (z85 s3.1 8,y9)
 else
  some (s3.1,s3.2)) >>= fun s7 =>
 idx ([0,1,2,2,3,3,3,3,4,4,4,4,4,4,4,4,5,5,5,5,5,5,5,5,5,5,5,5,5,5,5,5,6,6,6,6,6,6,6,6,6,6,6,6,6,6,6,6,6,6,6,6,6,6,6,6,6,6,6,6,6,6,6,6,7,7,7,7,7,7,7,7,7,7,7,7,7,7,7,7,7,7,7,7,7,7,7,7,7,7,7,7,7,7,7,7,7,7,7,7,7,7,7,7,7,7,7,7,7,7,7,7,7,7,7,7,7,7,7,7,7,7,7,7,7,7,7,7,8,8,8,8,8,8,8,8,8,8,8,8,8,8,8,8,8,8,8,8,8,8,8,8,8,8,8,8,8,8,8,8,8,8,8,8,8,8,8,8,8,8,8,8,8,8,8,8,8,8,8,8,8,8,8,8,8,8,8,8,8,8,8,8,8,8,8,8,8,8,8,8,8,8,8,8,8,8,8,8,8,8,8,8,8,8,8,8,8,8,8,8,8,8,8,8,8,8,8,8,8,8,8,8,8,8,8,8,8,8,8,8,8,8,8,8,8,8,8,8,8,8,8,8,8,8,8,8]:List UInt8) (s7.1.toUInt8.toNat:Int) >>= fun x10 =>
 some (w64 (s7.2+(x10.toNat:Int))) >>= fun y12 =>
 some y12
theorem zjj (a0:UInt64):z27 Tryz.prog 146 [.rd z2r a0] [] (zbi a0) (fun r nv=>⟨[.rd z0k r],[]⟩):=by
 refine z2n 25 Tryz.func146 rfl rfl rfl fun H w=>?_
 refine gSR<|Za rfl<|Zn<|z7f (fun (s1:UInt64 × Int) aa ww=>Sta (ctx 25 H [] w) [(0,.rd z2r s1.1),(2,.rd z0k s1.2)] [] aa ww) ?_ (fun s1=>?_)
 ·
  refine gSR<|Zm rfl<|Zq (U.geq rfl rfl)<|Zn<|gIf rfl rfl (fun h2=>?_) (fun h2=>?_)
  ·
   refine gSR<|Zm rfl<|Zq (U.shr rfl rfl (Int.natCast_nonneg _))<|Za rfl<|Zn<|z1m<|Za rfl<|z1f<|z2x (fun aa ww h=>Zu h [])
  ·
   refine z2l<|z2x (fun aa ww h=>Zu h [])
 ·
  refine z7f (fun (s3:UInt64 × Int) aa ww=>Sta (ctx 25 H [] w) [(0,.rd z2r s3.1),(2,.rd z0k s3.2)] [] aa ww) ?_ (fun s3=>?_)
  ·
   refine gSR<|Zm rfl<|Zq (U.geq rfl rfl)<|Zn<|gIf rfl rfl (fun h4=>?_) (fun h4=>?_)
   ·
    refine gSR<|Zm rfl<|Zq (U.shr rfl rfl (Int.natCast_nonneg _))<|Za rfl<|z1e 0 rfl fun y5=>Zn<|z1m<|Zm rfl<|Zq (I.add rfl rfl)<|Za rfl<|z1e 2 rfl fun y6=>z1f<|z2x (fun aa ww h=>Zu h [])
   ·
    refine z2l<|z2x (fun aa ww h=>Zu h [])
  ·
   refine z7f (fun (s7:UInt64 × Int) aa ww=>Sta (ctx 25 H [] w) [(0,.rd z2r s7.1),(2,.rd z0k s7.2)] [] aa ww) ?_ (fun s7=>?_)
   ·
    refine gSR<|Zm rfl<|Zq (U.geq rfl rfl)<|Zn<|gIf rfl rfl (fun h8=>?_) (fun h8=>?_)
    ·
     refine gSR<|Zm rfl<|Zq (U.shr rfl rfl (Int.natCast_nonneg _))<|Za rfl<|Zn<|z1m<|Zm rfl<|Zq (I.add rfl rfl)<|Za rfl<|z1e 2 rfl fun y9=>z1f<|z2x (fun aa ww h=>Zu h [])
    ·
     refine z2l<|z2x (fun aa ww h=>Zu h [])
   ·
    refine gSR<|Zm rfl<|Zm rfl<|Zq (U.toB rfl tu41 tu5)<|z0s fun x10 h11=>Zq (idxT rfl rfl tu9 (z5r h11).1 (z5r h11).2.1)<|Zq (B.toI rfl tu5 tu3)<|Zq (I.add rfl rfl)<|Za rfl<|z1e 2 rfl fun y12=>Zn<|z0m<|Ze [] [] rfl
def zc9 (a0:UInt64) (y5:Int) (s12:(List UInt8) × Int):Option (Sum ((List UInt8)) ((List UInt8) × Int)) :=
 if decide (s12.2<y5) then
  chk (0≤w64 (8 * s12.2)) >>= fun u14 =>
  idx s12.1 (w64 (y5 - s12.2)) >>= fun x16 =>
  some (.inr (s12.1.set (w64 (y5 - s12.2):Int).toNat ((z85 a0 ((w64 (8 * s12.2):Int).toNat)).toUInt8),w64 (s12.2+1)))
 else
  some (.inl s12.1)
def z4o (a0:UInt64):Option ((List UInt8)) :=
 if decide (a0≤247) then
  some [a0.toUInt8]
 else
  zbi a0 >>= fun r3 =>
  some (w64 (Int.tdiv (w64 (r3+7)) 8)) >>= fun y5 =>
  mkn 1 0 (w64 (y5+1)) >>= fun x6 =>
  idx x6 0 >>= fun x9 =>
  (iter (zc9 a0 y5) (x6.set (0:Int).toNat (UInt8.ofInt (w64 (247+y5))),0)) >>= fun s11 =>
  some s11
theorem z1k (a0:UInt64):z27 Tryz.prog 101 [.rd z2r a0] [] (z4o a0) (fun r nv=>⟨[.val (nv 0)],[(100,some (nv 0,.list u8R 5 r))]⟩):=by
 refine z2n 39 Tryz.func101 rfl rfl rfl fun H w=>?_
 refine gSR<|Za rfl<|Zn<|z0w<|gSR<|Zm rfl<|Zq (U.leq rfl rfl)<|Zn<|gIf rfl rfl (fun h1=>?_) (fun h1=>?_)
 ·
  refine gSR<|Zm rfl<|Zq (U.toB rfl tu41 tu5)<|Ef rfl (lit (R:=u8R) ([a0.toUInt8]:List UInt8) 1 (pP rfl rfl<|pN) rfl tu75 ti5 rfl rfl) fun v2=>Za rfl<|Zn<|z0m<|z12<|Ze [v2] [1] rfl
 ·
  refine Zt<|gSR<|Zm rfl<|Zc [] [] Tryz.func146 rfl (zjj _) fun r3 n4=>Zq (I.add rfl rfl)<|Zq (I.quo rfl rfl (by decide))<|Za rfl<|z1e 3 rfl fun y5=>Zn<|gSR<|Zm rfl<|Zq (I.add rfl rfl)<|z0s fun x6 h7=>Ef rfl (mks (R:=u8R) 2 rfl rfl h7 tu75 ti5 (Zr.num rfl) rfl) fun v8=>Za rfl<|Zn<|gSR<|Zm rfl<|Zm rfl<|Zq (I.add rfl rfl)<|Zq (I.toB rfl tu3 tu5)<|z0s fun x9 h10=>Zq (ixO 2 rfl rfl rfl h10 tu75 ti5)<|Es (sto 2 rfl rfl (Foc.el h10) rfl ti5)<|Zn<|z7f (fun (s11:(List UInt8)) aa ww=>Sta (ctx 39 H [] w) [(4,.val v8)] [(2,some (v8,.list u8R 5 s11))] aa ww) ?_ (fun s11=>?_)
  ·
   refine gSR<|Zm rfl<|Zm rfl<|Zn<|z2h (fun (s12:(List UInt8) × Int) aa ww=>Sta (ctx 39 H [] w) [(0,.rd z2r a0),(3,.rd z0k y5),(4,.val v8),(23,.rd z0k y5),(24,.rd z0k s12.2)] [(2,some (v8,.list u8R 5 s12.1))] aa ww) (fun aa ww h=>Zu h [2]) (fun s12=>?_)
   refine gSR<|Zq (I.lss rfl rfl)<|Zn<|z0w<|gIf rfl rfl (fun h13=>?_) (fun h13=>?_)
   ·
    refine Zt<|z0w<|z4q<|gSR<|Zm rfl<|Za rfl<|Zn<|z1m<|Zm rfl<|Zm rfl<|Zm rfl<|Zq (I.sub rfl rfl)<|Zm rfl<|Zm rfl<|Zq (I.mul rfl rfl)<|z0s fun u14 h15=>Zq (U.shr rfl rfl (z44 h15))<|Zq (U.toB rfl tu41 tu5)<|z0s fun x16 h17=>Zq (ixO 2 rfl rfl rfl h17 tu75 ti5)<|Es (sto 2 rfl rfl (Foc.el h17) rfl ti5)<|z1f<|z1w<|z0d<|z1m<|Zq (I.add rfl rfl)<|Zm rfl<|z1f<|z0r (fun aa ww h=>Zu h [2])
   ·
    refine z1z<|z13<|z14<|z2x (fun aa ww h=>Zu h [2])
  ·
   refine gSR<|Zm rfl<|Za rfl<|Zn<|z0m<|Ze [v8] [2] rfl
def zd2 (a0:List (Vector UInt8 32)) (s8:(List UInt8) × Int):Option (Sum ((List UInt8)) ((List UInt8) × Int)) :=
 if decide (s8.2<(a0.length:Int)) then
  idx a0 s8.2 >>= fun x11 =>
  app 1 s8.1 x11.toList >>= fun x14 =>
  some (.inr (x14,w64 (s8.2+1)))
 else
  some (.inl s8.1)
def zj1 (a0:List (Vector UInt8 32)):Option ((List UInt8) × Int) :=
 if decide (60<(a0.length:Int)) then
  some ([],4)
 else
  zex a0 >>= fun r2 =>
  if !r2 then
   some ([],32)
  else
   z4o (UInt64.ofInt (a0.length:Int)) >>= fun r5 =>
   (iter (zd2 a0) (r5,0)) >>= fun s7 =>
   some (s7,0)
theorem zmc (a0:List (Vector UInt8 32)):z27 Tryz.prog 100 [.rd (z02 (z06 32 u8R)) a0] [] (zj1 a0) (fun r nv=>⟨[.val (nv 0),.rd z0k r.2],[(100,some (nv 0,.list u8R 5 r.1))]⟩):=by
 refine z2n 28 Tryz.func100 rfl rfl rfl fun H w=>?_
 refine gSR<|Za rfl<|Za rfl<|Zn<|z0w<|gSR<|Zm rfl<|Zq (z37 rfl .rd rfl tu22)<|Zq (I.gtr rfl rfl)<|Zn<|gIf rfl rfl (fun h1=>?_) (fun h1=>?_)
 ·
  refine gSR<|Za rfl<|Za rfl<|Zn<|z0m<|z12<|zm0 u8R 5 1<|Ze [(.slice none 0 0)] [1] rfl
 ·
  refine Zt<|z0w<|gSR<|Zm rfl<|Zc [] [] Tryz.func145 rfl (zn8 _) fun r2 n3=>Zq (zcy rfl)<|Zn<|gIf rfl rfl (fun h4=>?_) (fun h4=>?_)
  ·
   refine gSR<|Za rfl<|Za rfl<|Zn<|z0m<|z12<|zm0 u8R 5 2<|Ze [(.slice none 0 0)] [2] rfl
  ·
   refine Zt<|gSR<|Zm rfl<|Zq (z37 rfl .rd rfl tu22)<|Zq (I.toU rfl tu3 tu41)<|Zc [] [(100,3)] Tryz.func101 rfl (z1k _) fun r5 n6=>Za rfl<|Zn<|z7f (fun (s7:(List UInt8)) aa ww=>∃ nv:Nat→Value,Sta (ctx 28 H [] w) [(4,.val (nv 0))] [(3,some ((nv 0),.list u8R 5 s7))] aa ww) ?_ (fun s7=>?_)
   ·
    refine gSR<|Zm rfl<|Zq (z37 rfl .rd rfl tu22)<|Zm rfl<|Zn<|z2h (fun (s8:(List UInt8) × Int) aa ww=>∃ nv:Nat→Value,Sta (ctx 28 H [] w) [(4,.val (nv 0)),(17,.rd (z02 (z06 32 u8R)) a0),(18,.rd z0k (a0.length:Int)),(19,.rd z0k s8.2)] [(3,some ((nv 0),.list u8R 5 s8.1))] aa ww) (fun aa ww h=>⟨nvl [(n6 0)],Zu h [3]⟩) (fun s8=>?_)
    refine gEx fun n9=>gSR<|Zq (I.lss rfl rfl)<|Zn<|z0w<|gIf rfl rfl (fun h10=>?_) (fun h10=>?_)
    ·
     refine Zt<|z0w<|z4q<|gSR<|z0s fun x11 h12=>Zq (ixR rfl rfl h12 tu22 z1p rfl)<|Zq (ldR rfl z49)<|Eb rfl (z7s 4 z1p (.zr (R:=(z06 32 u8R)) (x:=(Vector.replicate 32 0)) zj3)) fun v13=>Es (sto 4 rfl rfl Foc.here rfl z1p)<|Zn<|z1m<|Zm rfl<|z11w 4 6 rfl rfl<|Zq (cutV rfl tu62 ti5 rfl rfl rfl)<|z0s fun x14 h15=>Ef rfl (apn 3 rfl rfl rfl .rd h15 tu75 ti5 rfl rfl rfl) fun v16=>Za rfl<|z1f<|z1w<|z0d<|z1m<|Zq (I.add rfl rfl)<|Zm rfl<|z1f<|z0r (fun aa ww h=>⟨nvl [v16],Zu h [3]⟩)
    ·
     refine z1z<|z13<|z14<|z2x (fun aa ww h=>⟨nvl [(n9 0)],Zu h [3]⟩)
   ·
    refine gEx fun n17=>gSR<|Zm rfl<|Za rfl<|Za rfl<|Zn<|z0m<|Ze [(n17 0)] [3] rfl
def z43 (a1:Int):Option ((List UInt8)) :=
 if decide (a1<0) then
  none
 else
  some (w64 (a1 - (w64 (0 - (([]:List UInt8).length:Int))))) >>= fun y2 =>
  if decide (0<y2) then
   mkn 2 0 y2 >>= fun x4 =>
   cut x4 0 (([]:List UInt8).length:Int) >>= fun x7 =>
   some x7
  else
   some []
end
section
open Go Go.RowKit
set_option maxRecDepth 100000
theorem zej (a1:Int):z27 Tryz.prog 173 [.val (.slice none 0 0),.rd z0k a1] [] (z43 a1) (fun r nv=>⟨[.val (nv 0)],[(100,some (nv 0,.list u8R 5 r))]⟩):=by
 refine z2n 27 Tryz.func173 rfl rfl rfl fun H w=>?_
 refine gSR<|Za rfl<|Zn<|z0w<|gSR<|Zm rfl<|Zq (I.lss rfl rfl)<|Zn<|gIf rfl rfl (fun h1=>?_) (fun h1=>?_)
 ·
  refine z12j
 ·
  refine Zt<|z0w<|gSR<|Zm rfl<|Zm rfl<|Zq (capN rfl rfl tu75)<|Zm rfl<|zzx u8R 11 rfl<|Zq (z37 rfl .rd rfl tu75)<|Zq (I.sub rfl rfl)<|Zq (I.sub rfl rfl)<|Za rfl<|z1e 1 rfl fun y2=>Zn<|gSR<|Zm rfl<|Zq (I.gtr rfl rfl)<|Zn<|gIf rfl rfl (fun h3=>?_) (fun h3=>?_)
  ·
   refine z1m<|Zm rfl<|Zm rfl<|Zq (capN rfl rfl tu75)<|Zq (cutN rfl rfl tu75 ti5)<|Zm rfl<|z0s fun x4 h5=>Ef rfl (apZ 1 rfl rfl h5 tu75 tu3 ti5 (Zr.num rfl) rfl) fun v6=>Zm rfl<|zzx u8R 23 rfl<|Zq (z37 rfl .rd rfl tu75)<|z0s fun x7 h8=>Ef rfl (cutO 1 rfl rfl rfl h8 tu75 ti5) fun v9=>Za rfl<|Zn<|gSR<|Zm rfl<|Za rfl<|Zn<|z0m<|Ze [v9] [1] rfl
  ·
   refine Zt<|gSR<|Zm rfl<|Za rfl<|Zn<|z0m<|zm0 u8R 5 2<|Ze [(.slice none 0 0)] [2] rfl
def z1b (a0:List (List UInt8)) (s2:Int × Int):Option (Sum Int (Int × Int)) :=
 if decide (s2.2<(a0.length:Int)) then
  idx a0 s2.2 >>= fun x4 =>
  some (w64 (s2.1+(x4.length:Int))) >>= fun y6 =>
  if decide (y6<0) then
   none
  else
   some (.inr (y6,w64 (s2.2+1)))
 else
  some (.inl s2.1)
def z1a (a0:List (List UInt8)) (s11:(List UInt8) × Int):Option (Sum ((List UInt8)) ((List UInt8) × Int)) :=
 if decide (s11.2<(a0.length:Int)) then
  idx a0 s11.2 >>= fun x14 =>
  app 1 s11.1 x14 >>= fun x16 =>
  some (.inr (x16,w64 (s11.2+1)))
 else
  some (.inl s11.1)
def z2s (a0:List (List UInt8)):Option ((List UInt8)) :=
 (iter (z1b a0) (0,0)) >>= fun s1 =>
 z43 s1 >>= fun r8 =>
 (iter (z1a a0) (r8,0)) >>= fun s10 =>
 some s10
theorem z0x (a0:List (List UInt8)):z27 Tryz.prog 130 [.rd (z02 (z02 u8R)) a0] [] (z2s a0) (fun r nv=>⟨[.val (nv 0)],[(100,some (nv 0,.list u8R 5 r))]⟩):=by
 refine z2n 36 Tryz.func130 rfl rfl rfl fun H w=>?_
 refine gSR<|Za rfl<|Zn<|gSR<|Za rfl<|Zn<|z7f (fun (s1:Int) aa ww=>Sta (ctx 36 H [] w) [(0,.rd (z02 (z02 u8R)) a0),(3,.rd z0k s1)] [] aa ww) ?_ (fun s1=>?_)
 ·
  refine gSR<|Zm rfl<|Zq (z37 rfl .rd rfl tu42)<|Zm rfl<|Zn<|z2h (fun (s2:Int × Int) aa ww=>Sta (ctx 36 H [] w) [(0,.rd (z02 (z02 u8R)) a0),(3,.rd z0k s2.1),(9,.rd (z02 (z02 u8R)) a0),(10,.rd z0k (a0.length:Int)),(11,.rd z0k s2.2)] [] aa ww) (fun aa ww h=>Zu h []) (fun s2=>?_)
  refine gSR<|Zq (I.lss rfl rfl)<|Zn<|z0w<|gIf rfl rfl (fun h3=>?_) (fun h3=>?_)
  ·
   refine Zt<|z0w<|z4q<|gSR<|z0s fun x4 h5=>Zq (ixR rfl rfl h5 tu42 zcm rfl)<|Zq (ldR rfl zuu)<|Za rfl<|Zn<|gSR<|Zm rfl<|Zm rfl<|Zq (z37 rfl .rd rfl tu75)<|Zq (I.add rfl rfl)<|Za rfl<|z1e 3 rfl fun y6=>Zn<|gSR<|Zm rfl<|Zq (I.lss rfl rfl)<|Zn<|gIf rfl rfl (fun h7=>?_) (fun h7=>?_)
   ·
    refine z12j
   ·
    refine z2l<|z1w<|z0d<|z1m<|Zq (I.add rfl rfl)<|Zm rfl<|z1f<|z0r (fun aa ww h=>Zu h [])
  ·
   refine z1z<|z13<|z14<|z2x (fun aa ww h=>Zu h [])
 ·
  refine gSR<|Zm rfl<|Zc [] [(100,1)] Tryz.func173 rfl (zej _) fun r8 n9=>Za rfl<|Zn<|z7f (fun (s10:(List UInt8)) aa ww=>∃ nv:Nat→Value,Sta (ctx 36 H [] w) [(6,.val (nv 0))] [(1,some ((nv 0),.list u8R 5 s10))] aa ww) ?_ (fun s10=>?_)
  ·
   refine gSR<|Zm rfl<|Zq (z37 rfl .rd rfl tu42)<|Zm rfl<|Zn<|z2h (fun (s11:(List UInt8) × Int) aa ww=>∃ nv:Nat→Value,Sta (ctx 36 H [] w) [(6,.val (nv 0)),(25,.rd (z02 (z02 u8R)) a0),(26,.rd z0k (a0.length:Int)),(27,.rd z0k s11.2)] [(1,some ((nv 0),.list u8R 5 s11.1))] aa ww) (fun aa ww h=>⟨nvl [(n9 0)],Zu h [1]⟩) (fun s11=>?_)
   refine gEx fun n12=>gSR<|Zq (I.lss rfl rfl)<|Zn<|z0w<|gIf rfl rfl (fun h13=>?_) (fun h13=>?_)
   ·
    refine Zt<|z0w<|z4q<|gSR<|z0s fun x14 h15=>Zq (ixR rfl rfl h15 tu42 zcm rfl)<|Zq (ldR rfl zuu)<|Za rfl<|Zn<|z1m<|Zm rfl<|Zm rfl<|z0s fun x16 h17=>Ef rfl (apn 1 rfl rfl rfl .rd h17 tu75 ti5 rfl rfl rfl) fun v18=>Za rfl<|z1f<|z1w<|z0d<|z1m<|Zq (I.add rfl rfl)<|Zm rfl<|z1f<|z0r (fun aa ww h=>⟨nvl [v18],Zu h [1]⟩)
   ·
    refine z1z<|z13<|z14<|z2x (fun aa ww h=>⟨nvl [(n12 0)],Zu h [1]⟩)
  ·
   refine gEx fun n19=>gSR<|Zm rfl<|Za rfl<|Zn<|z0m<|Ze [(n19 0)] [1] rfl
def zc2 (a0:List UInt8):Option ((List UInt8) × Int) :=
 if decide (10000<(a0.length:Int)) then
  some ([],4)
 else
  z4o (UInt64.ofInt (a0.length:Int)) >>= fun r2 =>
  app 1 r2 a0 >>= fun x4 =>
  some (x4,0)
theorem zf1 (a0:List UInt8):z27 Tryz.prog 102 [.rd (z02 u8R) a0] [] (zc2 a0) (fun r nv=>⟨[.val (nv 0),.rd z0k r.2],[(100,some (nv 0,.list u8R 5 r.1))]⟩):=by
 refine z2n 13 Tryz.func102 rfl rfl rfl fun H w=>?_
 refine gSR<|Za rfl<|Za rfl<|Zn<|z0w<|gSR<|Zm rfl<|Zq (z37 rfl .rd rfl tu75)<|Zq (I.gtr rfl rfl)<|Zn<|gIf rfl rfl (fun h1=>?_) (fun h1=>?_)
 ·
  refine gSR<|Za rfl<|Za rfl<|Zn<|z0m<|z12<|zm0 u8R 5 1<|Ze [(.slice none 0 0)] [1] rfl
 ·
  refine Zt<|gSR<|Zm rfl<|Zq (z37 rfl .rd rfl tu75)<|Zq (I.toU rfl tu3 tu41)<|Zc [] [(100,2)] Tryz.func101 rfl (z1k _) fun r2 n3=>Zm rfl<|z0s fun x4 h5=>Ef rfl (apn 2 rfl rfl rfl .rd h5 tu75 ti5 rfl rfl rfl) fun v6=>Za rfl<|Za rfl<|Zn<|z0m<|Ze [v6] [2] rfl
def zf7 (a0:Int):Option ((List UInt8)) :=
 z4o ((zom (UInt64.ofInt a0) 1) ^^^ (UInt64.ofInt (shrI a0 63))) >>= fun r1 =>
 some r1
theorem zmv (a0:Int):z27 Tryz.prog 204 [.rd z0k a0] [] (zf7 a0) (fun r nv=>⟨[.val (nv 0)],[(100,some (nv 0,.list u8R 5 r))]⟩):=by
 refine z2n 11 Tryz.func204 rfl rfl rfl fun H w=>?_
 refine gSR<|Za rfl<|Zn<|gSR<|Zm rfl<|Zq (I.toU rfl Tryz.underlying2 tu41)<|Zq (U.shl rfl rfl (Int.natCast_nonneg _))<|Zm rfl<|Zq (I.shr rfl rfl (Int.natCast_nonneg _))<|Zq (I.toU rfl Tryz.underlying2 tu41)<|Zq (U.xor rfl rfl)<|Zc [] [(100,1)] Tryz.func101 rfl (z1k _) fun r1 n2=>Za rfl<|Zn<|z0m<|Ze [(n2 0)] [1] rfl
def z9d (a0:z0b) (s14:(List UInt8) × Int):Option (Sum ((List UInt8)) ((List UInt8) × Int)) :=
 if decide (0≤s14.2) then
  chk (0≤s14.2) >>= fun u17 =>
  app 1 s14.1 [(z85 a0.Bits ((s14.2:Int).toNat)).toUInt8] >>= fun x20 =>
  some (w64 (s14.2 - 8)) >>= fun y23 =>
  some (.inr (x20,y23))
 else
  some (.inl s14.1)
def ze8 (a0:z0b):Option ((List UInt8) × Int) :=
 zdi a0 >>= fun r2 =>
 if r2 != 0 then
  some ([],r2)
 else
  (if a0.Kind==1 then
   zf7 a0.Num >>= fun r8 =>
   app 1 [a0.Kind] r8 >>= fun x10 =>
   some x10
  else
   if a0.Kind==2 then
    iter (z9d a0) ([a0.Kind],56)
   else
    if a0.Kind==3 then
     chk (a0.Text.length≤281474976710656) >>= fun u25 =>
     zc2 a0.Text >>= fun r27 =>
     app 1 [a0.Kind] r27.1 >>= fun x29 =>
     some x29
    else
     some [a0.Kind]) >>= fun s6 =>
  some (s6,0)
theorem zlz (a0:z0b):z27 Tryz.prog 172 [.rd z2i a0] [] (ze8 a0) (fun r nv=>⟨[.val (nv 0),.rd z0k r.2],[(100,some (nv 0,.list u8R 5 r.1))]⟩):=by
 refine z2n 53 Tryz.func172 rfl rfl rfl fun H w=>?_
 refine gSR<|Eb rfl (bx 1 rfl) fun v1=>Za rfl<|Za rfl<|Zn<|z0w<|gSR<|Zq (ld 1 rfl rfl Foc.here zr1 rfl)<|Zc [] [] Tryz.func203 rfl (zhk _) fun r2 n3=>Za rfl<|Zn<|gSR<|Zm rfl<|Zq (I.neq rfl rfl)<|Zn<|gIf rfl rfl (fun h4=>?_) (fun h4=>?_)
 ·
  refine gSR<|Zm rfl<|Za rfl<|Za rfl<|Zn<|z0m<|z12<|zm0 u8R 5 2<|Ze [(.slice none 0 0)] [2] rfl
 ·
  refine Zt<|gSR<|Zq (faB 1 rfl rfl Tryz.underlying67 rfl (by exact ti5))<|Zq (ld 1 rfl rfl ((Foc.here).part (z3e _)) ty5 rfl)<|Ef rfl (lit (R:=u8R) ([a0.Kind]:List UInt8) 3 (pP rfl rfl<|pN) rfl tu75 ti5 rfl rfl) fun v5=>Za rfl<|Zn<|z7f (fun (s6:(List UInt8)) aa ww=>∃ nv:Nat→Value,Sta (ctx 53 H [] w) [(5,.val (nv 0))] [(3,some ((nv 0),.list u8R 5 s6))] aa ww) ?_ (fun s6=>?_)
  ·
   refine gSR<|Zq (faB 1 rfl rfl Tryz.underlying67 rfl (by exact ti5))<|Zq (ld 1 rfl rfl ((Foc.here).part (z3e _)) ty5 rfl)<|Zn<|z4q<|gSR<|Zq (B.eql rfl rfl)<|Za rfl<|Zn<|gIf rfl rfl (fun h7=>?_) (fun h7=>?_)
   ·
    refine gKn 20 rfl h7<|z1m<|Zm rfl<|Zq (faB 1 rfl rfl Tryz.underlying67 rfl (by exact ti2))<|Zq (ld 1 rfl rfl ((Foc.here).part (z6r _)) ty2 rfl)<|Zc [] [(100,4)] Tryz.func204 rfl (zmv _) fun r8 n9=>z0s fun x10 h11=>Ef rfl (apn 3 rfl rfl rfl (.own 4 rfl) h11 tu75 ti5 rfl rfl rfl) fun v12=>Za rfl<|z1f<|z1w<|z2x (fun aa ww h=>⟨nvl [v12],Zu h [3]⟩)
   ·
    refine gKn 20 rfl h7<|gSR<|Zq (B.eql rfl rfl)<|Za rfl<|Zn<|gIf rfl rfl (fun h13=>?_) (fun h13=>?_)
    ·
     refine gKn 27 rfl h13<|gSR<|Za rfl<|Zn<|z2h (fun (s14:(List UInt8) × Int) aa ww=>∃ nv:Nat→Value,Sta (ctx 53 H [] w) [(1,.val (z09 v1 0)),(5,.val (nv 0)),(6,.rd z0k s14.2)] [(1,some (v1,.box 67 [.rd z2i a0])),(3,some ((nv 0),.list u8R 5 s14.1))] aa ww) (fun aa ww h=>⟨nvl [v5],Zu h [1,3]⟩) (fun s14=>?_)
     refine gEx fun n15=>z0w<|gSR<|Zm rfl<|Zq (I.geq rfl rfl)<|Zn<|gIf rfl rfl (fun h16=>?_) (fun h16=>?_)
     ·
      refine Zt<|z0w<|z4q<|z1m<|Zm rfl<|Zq (faB 1 rfl rfl Tryz.underlying67 rfl (by exact znl))<|Zq (ld 1 rfl rfl ((Foc.here).part (z42 _)) zmo rfl)<|Zm rfl<|z0s fun u17 h18=>Zq (U.shr rfl rfl (z44 h18))<|Zq (U.toB rfl tu41 tu5)<|Ef rfl (lit (R:=u8R) ([(z85 a0.Bits ((s14.2:Int).toNat)).toUInt8]:List UInt8) 5 (pP rfl rfl<|pN) rfl tu75 ti5 rfl rfl) fun v19=>z0s fun x20 h21=>Ef rfl (apn 3 rfl rfl rfl (.own 5 rfl) h21 tu75 ti5 rfl rfl rfl) fun v22=>Za rfl<|z1f<|z1w<|z0d<|z1m<|Zm rfl<|Zq (I.sub rfl rfl)<|Za rfl<|z1e 6 rfl fun y23=>z1f<|z0r (fun aa ww h=>⟨nvl [v22],Zu h [1,3]⟩)
     ·
      refine z1z<|z13<|z14<|z1w<|z2x (fun aa ww h=>⟨nvl [(n15 0)],Zu h [3]⟩)
    ·
     refine gKn 27 rfl h13<|gSR<|Zq (B.eql rfl rfl)<|Za rfl<|Zn<|gIf rfl rfl (fun h24=>?_) (fun h24=>?_)
     ·
      refine gKn 41 rfl h24<|gSR<|Zq (faB 1 rfl rfl Tryz.underlying67 rfl (by exact ti9))<|Zq (ld 1 rfl rfl ((Foc.here).part (z3n _)) ty9 rfl)<|z0s fun u25 h26=>zyk rfl rfl h26 tu9 tu75 tu5<|Zc [] [(100,6)] Tryz.func102 rfl (zf1 _) fun r27 n28=>Zm rfl<|Zq (ext rfl rfl)<|Zq (ext rfl rfl)<|Za rfl<|Za rfl<|Zn<|z1m<|Zm rfl<|Zm rfl<|z0s fun x29 h30=>Ef rfl (apn 3 rfl rfl rfl (.own 6 rfl) h30 tu75 ti5 rfl rfl rfl) fun v31=>Za rfl<|z1f<|z1w<|z2x (fun aa ww h=>⟨nvl [v31],Zu h [3]⟩)
     ·
      refine gKn 41 rfl h24<|z2l<|z1w<|z2x (fun aa ww h=>⟨nvl [v5],Zu h [3]⟩)
  ·
   refine gEx fun n32=>gSR<|Zm rfl<|Za rfl<|Za rfl<|Zn<|z0m<|Ze [(n32 0)] [3] rfl
def zet (a0:z0g):Option ((List UInt8) × Int) :=
 zfk ({ a0 with Sig:=(⟨0,0⟩:z0u) }) >>= fun r2 =>
 if r2 != 0 then
  some ([],r2)
 else
  zj1 (({ a0 with Sig:=(⟨0,0⟩:z0u) }).Preds) >>= fun r5 =>
  (z4o ((({ a0 with Sig:=(⟨0,0⟩:z0u) }).Author).toUInt64) >>= fun r9 =>
  z4o (({ a0 with Sig:=(⟨0,0⟩:z0u) }).Stamp) >>= fun r11 =>
  z2s [[111],r9,r5.1,r11,[(({ a0 with Sig:=(⟨0,0⟩:z0u) }).Act).Kind]] >>= fun r15 =>
  some r15) >>= fun s7 =>
  if ((({ a0 with Sig:=(⟨0,0⟩:z0u) }).Act).Kind)==1 then
   some (s7,0)
  else
   chk (((({ a0 with Sig:=(⟨0,0⟩:z0u) }).Act).Key).length≤281474976710656) >>= fun u96 =>
   zc2 ((({ a0 with Sig:=(⟨0,0⟩:z0u) }).Act).Key) >>= fun r98 =>
   app 1 s7 r98.1 >>= fun x100 =>
   if ((({ a0 with Sig:=(⟨0,0⟩:z0u) }).Act).Kind)==4 then
    ze8 ((({ a0 with Sig:=(⟨0,0⟩:z0u) }).Act).Value) >>= fun r104 =>
    app 1 x100 r104.1 >>= fun x106 =>
    some (x106,0)
   else
    some (x100,0)
theorem zjw (a0:z0g):z27 Tryz.prog 129 [.rd z0c a0] [] (zet a0) (fun r nv=>⟨[.val (nv 0),.rd z0k r.2],[(100,some (nv 0,.list u8R 5 r.1))]⟩):=by
 refine z2n 71 Tryz.func129 rfl rfl rfl fun H w=>?_
 refine gSR<|Eb rfl (bx 1 rfl) fun v1=>Za rfl<|Za rfl<|Zn<|gSR<|Zq (bld (x':=(⟨0,0⟩:z0u)) [(0,1),(1,1)] Tryz.underlying71 zqv rfl zx9 rfl (Bld.done rfl))<|Zq (faB 1 rfl rfl Tryz.underlying73 rfl (by exact zqv))<|Es (sto 1 rfl rfl ((Foc.here).part (z3o _)) rfl zqv)<|Zn<|z0w<|gSR<|Zq (ld 1 rfl rfl Foc.here zg5 rfl)<|Zc [] [] Tryz.func128 rfl (zi0 _) fun r2 n3=>Za rfl<|Zn<|gSR<|Zm rfl<|Zq (I.neq rfl rfl)<|Zn<|gIf rfl rfl (fun h4=>?_) (fun h4=>?_)
 ·
  refine gSR<|Zm rfl<|Za rfl<|Za rfl<|Zn<|z0m<|z12<|zm0 u8R 5 2<|Ze [(.slice none 0 0)] [2] rfl
 ·
  refine Zt<|gSR<|Zq (faB 1 rfl rfl Tryz.underlying73 rfl (by exact z2d))<|Zq (ld 1 rfl rfl ((Foc.here).part (z1l _)) z8l rfl)<|Zc [] [(100,3)] Tryz.func100 rfl (zmc _) fun r5 n6=>Zm rfl<|Zq (ext rfl rfl)<|Zq (ext rfl rfl)<|Za rfl<|Za rfl<|Zn<|z7f (fun (s7:(List UInt8)) aa ww=>∃ nv:Nat→Value,Sta (ctx 71 H [] w) [(1,.val (z09 v1 0)),(7,.val (nv 0))] [(1,some (v1,.box 73 [.rd z0c ({ a0 with Sig:=(⟨0,0⟩:z0u) })])),(46,some ((nv 0),.list u8R 5 s7))] aa ww) ?_ (fun s7=>?_)
  ·
   refine z5m [47,59,71,83,86,89] mixed rfl rfl<|hTk 1 rfl rfl (faB 1 rfl rfl Tryz.underlying73 rfl (by exact z3h))<|hTk 2 rfl rfl (ld 1 rfl rfl ((Foc.here).part (z4j _)) z4p rfl)<|hTk 3 rfl rfl (W.toU rfl tu65 tu41)<|hTk 5 rfl rfl (mv rfl)<|hTk 6 rfl rfl (faB 1 rfl rfl Tryz.underlying73 rfl (by exact znl))<|hTk 7 rfl rfl (ld 1 rfl rfl ((Foc.here).part (z7x _)) zmo rfl)<|hTk 9 rfl rfl (faB 1 rfl rfl Tryz.underlying73 rfl (by exact zor))<|hTk 10 rfl rfl (faB 1 rfl rfl Tryz.underlying69 rfl (by exact ti5))<|hTk 11 rfl rfl (ld 1 rfl rfl (((Foc.here).part (z30 _)).part (z4c _)) ty5 rfl)<|z6o [0,4,12] (by kernel_rfl) rfl ⟨?_,?_,?_,trivial⟩
   ·
    refine oDo 0 rfl (gd0 rfl) rfl rfl rfl (lit (R:=u8R) ([111]:List UInt8) 47 (pP rfl rfl<|pN) rfl tu75 ti5 rfl rfl) (fun _=>rfl) fun v8=>z6o [4,12] (by kernel_rfl) rfl ⟨?_,?_,trivial⟩
    ·
     refine z4z 4 [] [(100,59)] rfl rfl (gd0 rfl) rfl Tryz.func101 rfl rfl (z1k _) (Y1 rfl) rN rfl (fun _ _=>z05) fun r9 n10=>z6o [8,12] (by kernel_rfl) rfl ⟨?_,?_,trivial⟩
     ·
      refine z4z 8 [] [(100,71)] rfl rfl (gd0 rfl) rfl Tryz.func101 rfl rfl (z1k _) (Y1 rfl) rN rfl (fun _ _=>z05) fun r11 n12=>Zo 12 rfl rfl rfl (lit (R:=u8R) ([(({ a0 with Sig:=(⟨0,0⟩:z0u) }).Act).Kind]:List UInt8) 83 (pP rfl rfl<|pN) rfl tu75 ti5 rfl rfl) fun v13=>z2z 47 [25] rfl (fS rfl<|fN)<|z2z 59 [29] rfl (fS rfl<|fN)<|z2z 3 [23,5,30] rfl (fS rfl<|fS rfl<|fS rfl<|fN)<|z2z 71 [33] rfl (fS rfl<|fN)<|z2z 83 [37] rfl (fS rfl<|fN)<|Zo 13 rfl rfl rfl (lit (R:=(z02 u8R)) ([[111],r9,r5.1,r11,[(({ a0 with Sig:=(⟨0,0⟩:z0u) }).Act).Kind]]:List (List UInt8)) 86 (pP rfl rfl<|pP rfl rfl<|pP rfl rfl<|pP rfl rfl<|pP rfl rfl<|pN) rfl tu42 zcm rfl rfl) fun v14=>z2z 86 [38] rfl (fS rfl<|fN)<|z10 14 [] [(100,89)] rfl (by kernel_rfl) rfl (gd0 rfl) rfl Tryz.func130 rfl rfl (z0x _) (Y1 rfl) rN rfl (fun _ _=>z05) fun r15 n16=>Zf 15 rfl rfl z05 (asg rfl)<|z0y (by kernel_rfl)<|z2x (fun aa ww h=>⟨nvl [(n16 0)],Zu h [1,89]⟩)
     ·
      refine oDo 12 rfl (gd0 rfl) rfl rfl rfl (lit (R:=u8R) ([(({ a0 with Sig:=(⟨0,0⟩:z0u) }).Act).Kind]:List UInt8) 83 (pP rfl rfl<|pN) rfl tu75 ti5 rfl rfl) (fun _=>rfl) fun v17=>z10 8 [] [(100,71)] rfl (by kernel_rfl) rfl (gd0 rfl) rfl Tryz.func101 rfl rfl (z1k _) (Y1 rfl) rN rfl (fun _ _=>z05) fun r18 n19=>z2z 47 [25] rfl (fS rfl<|fN)<|z2z 59 [29] rfl (fS rfl<|fN)<|z2z 3 [23,5,30] rfl (fS rfl<|fS rfl<|fS rfl<|fN)<|z2z 71 [33] rfl (fS rfl<|fN)<|z2z 83 [37] rfl (fS rfl<|fN)<|Zo 13 rfl rfl rfl (lit (R:=(z02 u8R)) ([[111],r9,r5.1,r18,[(({ a0 with Sig:=(⟨0,0⟩:z0u) }).Act).Kind]]:List (List UInt8)) 86 (pP rfl rfl<|pP rfl rfl<|pP rfl rfl<|pP rfl rfl<|pP rfl rfl<|pN) rfl tu42 zcm rfl rfl) fun v20=>z2z 86 [38] rfl (fS rfl<|fN)<|z10 14 [] [(100,89)] rfl (by kernel_rfl) rfl (gd0 rfl) rfl Tryz.func130 rfl rfl (z0x _) (Y1 rfl) rN rfl (fun _ _=>z05) fun r21 n22=>Zf 15 rfl rfl z05 (asg rfl)<|z0y (by kernel_rfl)<|z2x (fun aa ww h=>⟨nvl [(n22 0)],Zu h [1,89]⟩)
    ·
     refine oDo 12 rfl (gd0 rfl) rfl rfl rfl (lit (R:=u8R) ([(({ a0 with Sig:=(⟨0,0⟩:z0u) }).Act).Kind]:List UInt8) 83 (pP rfl rfl<|pN) rfl tu75 ti5 rfl rfl) (fun _=>rfl) fun v23=>z10 4 [] [(100,59)] rfl (by kernel_rfl) rfl (gd0 rfl) rfl Tryz.func101 rfl rfl (z1k _) (Y1 rfl) rN rfl (fun _ _=>z05) fun r24 n25=>z10 8 [] [(100,71)] rfl (by kernel_rfl) rfl (gd0 rfl) rfl Tryz.func101 rfl rfl (z1k _) (Y1 rfl) rN rfl (fun _ _=>z05) fun r26 n27=>z2z 47 [25] rfl (fS rfl<|fN)<|z2z 59 [29] rfl (fS rfl<|fN)<|z2z 3 [23,5,30] rfl (fS rfl<|fS rfl<|fS rfl<|fN)<|z2z 71 [33] rfl (fS rfl<|fN)<|z2z 83 [37] rfl (fS rfl<|fN)<|Zo 13 rfl rfl rfl (lit (R:=(z02 u8R)) ([[111],r24,r5.1,r26,[(({ a0 with Sig:=(⟨0,0⟩:z0u) }).Act).Kind]]:List (List UInt8)) 86 (pP rfl rfl<|pP rfl rfl<|pP rfl rfl<|pP rfl rfl<|pP rfl rfl<|pN) rfl tu42 zcm rfl rfl) fun v28=>z2z 86 [38] rfl (fS rfl<|fN)<|z10 14 [] [(100,89)] rfl (by kernel_rfl) rfl (gd0 rfl) rfl Tryz.func130 rfl rfl (z0x _) (Y1 rfl) rN rfl (fun _ _=>z05) fun r29 n30=>Zf 15 rfl rfl z05 (asg rfl)<|z0y (by kernel_rfl)<|z2x (fun aa ww h=>⟨nvl [(n30 0)],Zu h [1,89]⟩)
   ·
    refine z4z 4 [] [(100,59)] rfl rfl (gd0 rfl) rfl Tryz.func101 rfl rfl (z1k _) (Y1 rfl) rN rfl (fun _ _=>z05) fun r31 n32=>z6o [0,8,12] (by kernel_rfl) rfl ⟨?_,?_,?_,trivial⟩
    ·
     refine oDo 0 rfl (gd0 rfl) rfl rfl rfl (lit (R:=u8R) ([111]:List UInt8) 47 (pP rfl rfl<|pN) rfl tu75 ti5 rfl rfl) (fun _=>rfl) fun v33=>z6o [8,12] (by kernel_rfl) rfl ⟨?_,?_,trivial⟩
     ·
      refine z4z 8 [] [(100,71)] rfl rfl (gd0 rfl) rfl Tryz.func101 rfl rfl (z1k _) (Y1 rfl) rN rfl (fun _ _=>z05) fun r34 n35=>Zo 12 rfl rfl rfl (lit (R:=u8R) ([(({ a0 with Sig:=(⟨0,0⟩:z0u) }).Act).Kind]:List UInt8) 83 (pP rfl rfl<|pN) rfl tu75 ti5 rfl rfl) fun v36=>z2z 47 [25] rfl (fS rfl<|fN)<|z2z 59 [29] rfl (fS rfl<|fN)<|z2z 3 [23,5,30] rfl (fS rfl<|fS rfl<|fS rfl<|fN)<|z2z 71 [33] rfl (fS rfl<|fN)<|z2z 83 [37] rfl (fS rfl<|fN)<|Zo 13 rfl rfl rfl (lit (R:=(z02 u8R)) ([[111],r31,r5.1,r34,[(({ a0 with Sig:=(⟨0,0⟩:z0u) }).Act).Kind]]:List (List UInt8)) 86 (pP rfl rfl<|pP rfl rfl<|pP rfl rfl<|pP rfl rfl<|pP rfl rfl<|pN) rfl tu42 zcm rfl rfl) fun v37=>z2z 86 [38] rfl (fS rfl<|fN)<|z10 14 [] [(100,89)] rfl (by kernel_rfl) rfl (gd0 rfl) rfl Tryz.func130 rfl rfl (z0x _) (Y1 rfl) rN rfl (fun _ _=>z05) fun r38 n39=>Zf 15 rfl rfl z05 (asg rfl)<|z0y (by kernel_rfl)<|z2x (fun aa ww h=>⟨nvl [(n39 0)],Zu h [1,89]⟩)
     ·
      refine oDo 12 rfl (gd0 rfl) rfl rfl rfl (lit (R:=u8R) ([(({ a0 with Sig:=(⟨0,0⟩:z0u) }).Act).Kind]:List UInt8) 83 (pP rfl rfl<|pN) rfl tu75 ti5 rfl rfl) (fun _=>rfl) fun v40=>z10 8 [] [(100,71)] rfl (by kernel_rfl) rfl (gd0 rfl) rfl Tryz.func101 rfl rfl (z1k _) (Y1 rfl) rN rfl (fun _ _=>z05) fun r41 n42=>z2z 47 [25] rfl (fS rfl<|fN)<|z2z 59 [29] rfl (fS rfl<|fN)<|z2z 3 [23,5,30] rfl (fS rfl<|fS rfl<|fS rfl<|fN)<|z2z 71 [33] rfl (fS rfl<|fN)<|z2z 83 [37] rfl (fS rfl<|fN)<|Zo 13 rfl rfl rfl (lit (R:=(z02 u8R)) ([[111],r31,r5.1,r41,[(({ a0 with Sig:=(⟨0,0⟩:z0u) }).Act).Kind]]:List (List UInt8)) 86 (pP rfl rfl<|pP rfl rfl<|pP rfl rfl<|pP rfl rfl<|pP rfl rfl<|pN) rfl tu42 zcm rfl rfl) fun v43=>z2z 86 [38] rfl (fS rfl<|fN)<|z10 14 [] [(100,89)] rfl (by kernel_rfl) rfl (gd0 rfl) rfl Tryz.func130 rfl rfl (z0x _) (Y1 rfl) rN rfl (fun _ _=>z05) fun r44 n45=>Zf 15 rfl rfl z05 (asg rfl)<|z0y (by kernel_rfl)<|z2x (fun aa ww h=>⟨nvl [(n45 0)],Zu h [1,89]⟩)
    ·
     refine z4z 8 [] [(100,71)] rfl rfl (gd0 rfl) rfl Tryz.func101 rfl rfl (z1k _) (Y1 rfl) rN rfl (fun _ _=>z05) fun r46 n47=>z6o [0,12] (by kernel_rfl) rfl ⟨?_,?_,trivial⟩
     ·
      refine oDo 0 rfl (gd0 rfl) rfl rfl rfl (lit (R:=u8R) ([111]:List UInt8) 47 (pP rfl rfl<|pN) rfl tu75 ti5 rfl rfl) (fun _=>rfl) fun v48=>Zo 12 rfl rfl rfl (lit (R:=u8R) ([(({ a0 with Sig:=(⟨0,0⟩:z0u) }).Act).Kind]:List UInt8) 83 (pP rfl rfl<|pN) rfl tu75 ti5 rfl rfl) fun v49=>z2z 47 [25] rfl (fS rfl<|fN)<|z2z 59 [29] rfl (fS rfl<|fN)<|z2z 3 [23,5,30] rfl (fS rfl<|fS rfl<|fS rfl<|fN)<|z2z 71 [33] rfl (fS rfl<|fN)<|z2z 83 [37] rfl (fS rfl<|fN)<|Zo 13 rfl rfl rfl (lit (R:=(z02 u8R)) ([[111],r31,r5.1,r46,[(({ a0 with Sig:=(⟨0,0⟩:z0u) }).Act).Kind]]:List (List UInt8)) 86 (pP rfl rfl<|pP rfl rfl<|pP rfl rfl<|pP rfl rfl<|pP rfl rfl<|pN) rfl tu42 zcm rfl rfl) fun v50=>z2z 86 [38] rfl (fS rfl<|fN)<|z10 14 [] [(100,89)] rfl (by kernel_rfl) rfl (gd0 rfl) rfl Tryz.func130 rfl rfl (z0x _) (Y1 rfl) rN rfl (fun _ _=>z05) fun r51 n52=>Zf 15 rfl rfl z05 (asg rfl)<|z0y (by kernel_rfl)<|z2x (fun aa ww h=>⟨nvl [(n52 0)],Zu h [1,89]⟩)
     ·
      refine oDo 12 rfl (gd0 rfl) rfl rfl rfl (lit (R:=u8R) ([(({ a0 with Sig:=(⟨0,0⟩:z0u) }).Act).Kind]:List UInt8) 83 (pP rfl rfl<|pN) rfl tu75 ti5 rfl rfl) (fun _=>rfl) fun v53=>Zo 0 rfl rfl rfl (lit (R:=u8R) ([111]:List UInt8) 47 (pP rfl rfl<|pN) rfl tu75 ti5 rfl rfl) fun v54=>z2z 47 [25] rfl (fS rfl<|fN)<|z2z 59 [29] rfl (fS rfl<|fN)<|z2z 3 [23,5,30] rfl (fS rfl<|fS rfl<|fS rfl<|fN)<|z2z 71 [33] rfl (fS rfl<|fN)<|z2z 83 [37] rfl (fS rfl<|fN)<|Zo 13 rfl rfl rfl (lit (R:=(z02 u8R)) ([[111],r31,r5.1,r46,[(({ a0 with Sig:=(⟨0,0⟩:z0u) }).Act).Kind]]:List (List UInt8)) 86 (pP rfl rfl<|pP rfl rfl<|pP rfl rfl<|pP rfl rfl<|pP rfl rfl<|pN) rfl tu42 zcm rfl rfl) fun v55=>z2z 86 [38] rfl (fS rfl<|fN)<|z10 14 [] [(100,89)] rfl (by kernel_rfl) rfl (gd0 rfl) rfl Tryz.func130 rfl rfl (z0x _) (Y1 rfl) rN rfl (fun _ _=>z05) fun r56 n57=>Zf 15 rfl rfl z05 (asg rfl)<|z0y (by kernel_rfl)<|z2x (fun aa ww h=>⟨nvl [(n57 0)],Zu h [1,89]⟩)
    ·
     refine oDo 12 rfl (gd0 rfl) rfl rfl rfl (lit (R:=u8R) ([(({ a0 with Sig:=(⟨0,0⟩:z0u) }).Act).Kind]:List UInt8) 83 (pP rfl rfl<|pN) rfl tu75 ti5 rfl rfl) (fun _=>rfl) fun v58=>z6o [0,8] (by kernel_rfl) rfl ⟨?_,?_,trivial⟩
     ·
      refine oDo 0 rfl (gd0 rfl) rfl rfl rfl (lit (R:=u8R) ([111]:List UInt8) 47 (pP rfl rfl<|pN) rfl tu75 ti5 rfl rfl) (fun _=>rfl) fun v59=>z10 8 [] [(100,71)] rfl (by kernel_rfl) rfl (gd0 rfl) rfl Tryz.func101 rfl rfl (z1k _) (Y1 rfl) rN rfl (fun _ _=>z05) fun r60 n61=>z2z 47 [25] rfl (fS rfl<|fN)<|z2z 59 [29] rfl (fS rfl<|fN)<|z2z 3 [23,5,30] rfl (fS rfl<|fS rfl<|fS rfl<|fN)<|z2z 71 [33] rfl (fS rfl<|fN)<|z2z 83 [37] rfl (fS rfl<|fN)<|Zo 13 rfl rfl rfl (lit (R:=(z02 u8R)) ([[111],r31,r5.1,r60,[(({ a0 with Sig:=(⟨0,0⟩:z0u) }).Act).Kind]]:List (List UInt8)) 86 (pP rfl rfl<|pP rfl rfl<|pP rfl rfl<|pP rfl rfl<|pP rfl rfl<|pN) rfl tu42 zcm rfl rfl) fun v62=>z2z 86 [38] rfl (fS rfl<|fN)<|z10 14 [] [(100,89)] rfl (by kernel_rfl) rfl (gd0 rfl) rfl Tryz.func130 rfl rfl (z0x _) (Y1 rfl) rN rfl (fun _ _=>z05) fun r63 n64=>Zf 15 rfl rfl z05 (asg rfl)<|z0y (by kernel_rfl)<|z2x (fun aa ww h=>⟨nvl [(n64 0)],Zu h [1,89]⟩)
     ·
      refine z4z 8 [] [(100,71)] rfl rfl (gd0 rfl) rfl Tryz.func101 rfl rfl (z1k _) (Y1 rfl) rN rfl (fun _ _=>z05) fun r65 n66=>Zo 0 rfl rfl rfl (lit (R:=u8R) ([111]:List UInt8) 47 (pP rfl rfl<|pN) rfl tu75 ti5 rfl rfl) fun v67=>z2z 47 [25] rfl (fS rfl<|fN)<|z2z 59 [29] rfl (fS rfl<|fN)<|z2z 3 [23,5,30] rfl (fS rfl<|fS rfl<|fS rfl<|fN)<|z2z 71 [33] rfl (fS rfl<|fN)<|z2z 83 [37] rfl (fS rfl<|fN)<|Zo 13 rfl rfl rfl (lit (R:=(z02 u8R)) ([[111],r31,r5.1,r65,[(({ a0 with Sig:=(⟨0,0⟩:z0u) }).Act).Kind]]:List (List UInt8)) 86 (pP rfl rfl<|pP rfl rfl<|pP rfl rfl<|pP rfl rfl<|pP rfl rfl<|pN) rfl tu42 zcm rfl rfl) fun v68=>z2z 86 [38] rfl (fS rfl<|fN)<|z10 14 [] [(100,89)] rfl (by kernel_rfl) rfl (gd0 rfl) rfl Tryz.func130 rfl rfl (z0x _) (Y1 rfl) rN rfl (fun _ _=>z05) fun r69 n70=>Zf 15 rfl rfl z05 (asg rfl)<|z0y (by kernel_rfl)<|z2x (fun aa ww h=>⟨nvl [(n70 0)],Zu h [1,89]⟩)
   ·
    refine oDo 12 rfl (gd0 rfl) rfl rfl rfl (lit (R:=u8R) ([(({ a0 with Sig:=(⟨0,0⟩:z0u) }).Act).Kind]:List UInt8) 83 (pP rfl rfl<|pN) rfl tu75 ti5 rfl rfl) (fun _=>rfl) fun v71=>z6o [0,4] (by kernel_rfl) rfl ⟨?_,?_,trivial⟩
    ·
     refine oDo 0 rfl (gd0 rfl) rfl rfl rfl (lit (R:=u8R) ([111]:List UInt8) 47 (pP rfl rfl<|pN) rfl tu75 ti5 rfl rfl) (fun _=>rfl) fun v72=>z10 4 [] [(100,59)] rfl (by kernel_rfl) rfl (gd0 rfl) rfl Tryz.func101 rfl rfl (z1k _) (Y1 rfl) rN rfl (fun _ _=>z05) fun r73 n74=>z10 8 [] [(100,71)] rfl (by kernel_rfl) rfl (gd0 rfl) rfl Tryz.func101 rfl rfl (z1k _) (Y1 rfl) rN rfl (fun _ _=>z05) fun r75 n76=>z2z 47 [25] rfl (fS rfl<|fN)<|z2z 59 [29] rfl (fS rfl<|fN)<|z2z 3 [23,5,30] rfl (fS rfl<|fS rfl<|fS rfl<|fN)<|z2z 71 [33] rfl (fS rfl<|fN)<|z2z 83 [37] rfl (fS rfl<|fN)<|Zo 13 rfl rfl rfl (lit (R:=(z02 u8R)) ([[111],r73,r5.1,r75,[(({ a0 with Sig:=(⟨0,0⟩:z0u) }).Act).Kind]]:List (List UInt8)) 86 (pP rfl rfl<|pP rfl rfl<|pP rfl rfl<|pP rfl rfl<|pP rfl rfl<|pN) rfl tu42 zcm rfl rfl) fun v77=>z2z 86 [38] rfl (fS rfl<|fN)<|z10 14 [] [(100,89)] rfl (by kernel_rfl) rfl (gd0 rfl) rfl Tryz.func130 rfl rfl (z0x _) (Y1 rfl) rN rfl (fun _ _=>z05) fun r78 n79=>Zf 15 rfl rfl z05 (asg rfl)<|z0y (by kernel_rfl)<|z2x (fun aa ww h=>⟨nvl [(n79 0)],Zu h [1,89]⟩)
    ·
     refine z4z 4 [] [(100,59)] rfl rfl (gd0 rfl) rfl Tryz.func101 rfl rfl (z1k _) (Y1 rfl) rN rfl (fun _ _=>z05) fun r80 n81=>z6o [0,8] (by kernel_rfl) rfl ⟨?_,?_,trivial⟩
     ·
      refine oDo 0 rfl (gd0 rfl) rfl rfl rfl (lit (R:=u8R) ([111]:List UInt8) 47 (pP rfl rfl<|pN) rfl tu75 ti5 rfl rfl) (fun _=>rfl) fun v82=>z10 8 [] [(100,71)] rfl (by kernel_rfl) rfl (gd0 rfl) rfl Tryz.func101 rfl rfl (z1k _) (Y1 rfl) rN rfl (fun _ _=>z05) fun r83 n84=>z2z 47 [25] rfl (fS rfl<|fN)<|z2z 59 [29] rfl (fS rfl<|fN)<|z2z 3 [23,5,30] rfl (fS rfl<|fS rfl<|fS rfl<|fN)<|z2z 71 [33] rfl (fS rfl<|fN)<|z2z 83 [37] rfl (fS rfl<|fN)<|Zo 13 rfl rfl rfl (lit (R:=(z02 u8R)) ([[111],r80,r5.1,r83,[(({ a0 with Sig:=(⟨0,0⟩:z0u) }).Act).Kind]]:List (List UInt8)) 86 (pP rfl rfl<|pP rfl rfl<|pP rfl rfl<|pP rfl rfl<|pP rfl rfl<|pN) rfl tu42 zcm rfl rfl) fun v85=>z2z 86 [38] rfl (fS rfl<|fN)<|z10 14 [] [(100,89)] rfl (by kernel_rfl) rfl (gd0 rfl) rfl Tryz.func130 rfl rfl (z0x _) (Y1 rfl) rN rfl (fun _ _=>z05) fun r86 n87=>Zf 15 rfl rfl z05 (asg rfl)<|z0y (by kernel_rfl)<|z2x (fun aa ww h=>⟨nvl [(n87 0)],Zu h [1,89]⟩)
     ·
      refine z4z 8 [] [(100,71)] rfl rfl (gd0 rfl) rfl Tryz.func101 rfl rfl (z1k _) (Y1 rfl) rN rfl (fun _ _=>z05) fun r88 n89=>Zo 0 rfl rfl rfl (lit (R:=u8R) ([111]:List UInt8) 47 (pP rfl rfl<|pN) rfl tu75 ti5 rfl rfl) fun v90=>z2z 47 [25] rfl (fS rfl<|fN)<|z2z 59 [29] rfl (fS rfl<|fN)<|z2z 3 [23,5,30] rfl (fS rfl<|fS rfl<|fS rfl<|fN)<|z2z 71 [33] rfl (fS rfl<|fN)<|z2z 83 [37] rfl (fS rfl<|fN)<|Zo 13 rfl rfl rfl (lit (R:=(z02 u8R)) ([[111],r80,r5.1,r88,[(({ a0 with Sig:=(⟨0,0⟩:z0u) }).Act).Kind]]:List (List UInt8)) 86 (pP rfl rfl<|pP rfl rfl<|pP rfl rfl<|pP rfl rfl<|pP rfl rfl<|pN) rfl tu42 zcm rfl rfl) fun v91=>z2z 86 [38] rfl (fS rfl<|fN)<|z10 14 [] [(100,89)] rfl (by kernel_rfl) rfl (gd0 rfl) rfl Tryz.func130 rfl rfl (z0x _) (Y1 rfl) rN rfl (fun _ _=>z05) fun r92 n93=>Zf 15 rfl rfl z05 (asg rfl)<|z0y (by kernel_rfl)<|z2x (fun aa ww h=>⟨nvl [(n93 0)],Zu h [1,89]⟩)
  ·
   refine gEx fun n94=>z0w<|gSR<|Zq (faB 1 rfl rfl Tryz.underlying73 rfl (by exact zor))<|Zq (faB 1 rfl rfl Tryz.underlying69 rfl (by exact ti5))<|Zq (ld 1 rfl rfl (((Foc.here).part (z30 _)).part (z4c _)) ty5 rfl)<|Zq (B.eql rfl rfl)<|Zn<|gIf rfl rfl (fun h95=>?_) (fun h95=>?_)
   ·
    refine gSR<|Zm rfl<|Za rfl<|Za rfl<|Zn<|z0m<|z12<|Ze [(n94 0)] [46] rfl
   ·
    refine Zt<|gSR<|Zq (faB 1 rfl rfl Tryz.underlying73 rfl (by exact zor))<|Zq (faB 1 rfl rfl Tryz.underlying69 rfl (by exact ti9))<|Zq (ld 1 rfl rfl (((Foc.here).part (z30 _)).part (z5v _)) ty9 rfl)<|z0s fun u96 h97=>zyk rfl rfl h97 tu9 tu75 tu5<|Zc [] [(100,98)] Tryz.func102 rfl (zf1 _) fun r98 n99=>Zm rfl<|Zq (ext rfl rfl)<|Zq (ext rfl rfl)<|Za rfl<|Za rfl<|Zn<|gSR<|Zm rfl<|Zm rfl<|z0s fun x100 h101=>Ef rfl (apn 46 rfl rfl rfl (.own 98 rfl) h101 tu75 ti5 rfl rfl rfl) fun v102=>Za rfl<|Zn<|z0w<|gSR<|Zq (faB 1 rfl rfl Tryz.underlying73 rfl (by exact zor))<|Zq (faB 1 rfl rfl Tryz.underlying69 rfl (by exact ti5))<|Zq (ld 1 rfl rfl (((Foc.here).part (z30 _)).part (z4c _)) ty5 rfl)<|Zq (B.eql rfl rfl)<|Zn<|gIf rfl rfl (fun h103=>?_) (fun h103=>?_)
    ·
     refine gSR<|Zq (faB 1 rfl rfl Tryz.underlying73 rfl (by exact zor))<|Zq (faB 1 rfl rfl Tryz.underlying69 rfl (by exact zkj))<|Zq (ld 1 rfl rfl (((Foc.here).part (z30 _)).part (z5a _)) zr1 rfl)<|Zc [] [(100,99)] Tryz.func172 rfl (zlz _) fun r104 n105=>Zm rfl<|Zq (ext rfl rfl)<|Zq (ext rfl rfl)<|Za rfl<|Za rfl<|Zn<|z1m<|Zm rfl<|Zm rfl<|z0s fun x106 h107=>Ef rfl (apn 46 rfl rfl rfl (.own 99 rfl) h107 tu75 ti5 rfl rfl rfl) fun v108=>Za rfl<|Zn<|gSR<|Zm rfl<|Za rfl<|Za rfl<|Zn<|z0m<|Ze [v108] [46] rfl
    ·
     refine Zt<|gSR<|Zm rfl<|Za rfl<|Za rfl<|Zn<|z0m<|Ze [v102] [46] rfl
def zcg (a0:z0g):Option ((List UInt8) × Int) :=
 zfk a0 >>= fun r2 =>
 if r2 != 0 then
  some ([],r2)
 else
  zet a0 >>= fun r5 =>
  z4o a0.Sig.E.toUInt64 >>= fun r7 =>
  z4o a0.Sig.S.toUInt64 >>= fun r9 =>
  z2s [r5.1,r7,r9] >>= fun r12 =>
  some (r12,0)
theorem zkv (a0:z0g):z27 Tryz.prog 89 [.rd z0c a0] [] (zcg a0) (fun r nv=>⟨[.val (nv 0),.rd z0k r.2],[(100,some (nv 0,.list u8R 5 r.1))]⟩):=by
 refine z2n 30 Tryz.func89 rfl rfl rfl fun H w=>?_
 refine gSR<|Eb rfl (bx 1 rfl) fun v1=>Za rfl<|Za rfl<|Zn<|z0w<|gSR<|Zq (ld 1 rfl rfl Foc.here zg5 rfl)<|Zc [] [] Tryz.func128 rfl (zi0 _) fun r2 n3=>Za rfl<|Zn<|gSR<|Zm rfl<|Zq (I.neq rfl rfl)<|Zn<|gIf rfl rfl (fun h4=>?_) (fun h4=>?_)
 ·
  refine gSR<|Zm rfl<|Za rfl<|Za rfl<|Zn<|z0m<|z12<|zm0 u8R 5 2<|Ze [(.slice none 0 0)] [2] rfl
 ·
  refine Zt<|gSR<|Zq (ld 1 rfl rfl Foc.here zg5 rfl)<|Zc [] [(100,3)] Tryz.func129 rfl (zjw _) fun r5 n6=>Zm rfl<|Zq (ext rfl rfl)<|Zq (ext rfl rfl)<|Za rfl<|Za rfl<|Zn<|z0w<|z5m [19,34,37,40] mixed rfl rfl<|hTk 0 rfl rfl (mv rfl)<|hTk 1 rfl rfl (faB 1 rfl rfl Tryz.underlying73 rfl (by exact zqv))<|hTk 2 rfl rfl (faB 1 rfl rfl Tryz.underlying71 rfl (by exact z3h))<|hTk 3 rfl rfl (ld 1 rfl rfl (((Foc.here).part (z3o _)).part (z5u _)) z4p rfl)<|hTk 4 rfl rfl (W.toU rfl tu65 tu41)<|hTk 6 rfl rfl (faB 1 rfl rfl Tryz.underlying73 rfl (by exact zqv))<|hTk 7 rfl rfl (faB 1 rfl rfl Tryz.underlying71 rfl (by exact z3h))<|hTk 8 rfl rfl (ld 1 rfl rfl (((Foc.here).part (z3o _)).part (z88 _)) z4p rfl)<|hTk 9 rfl rfl (W.toU rfl tu65 tu41)<|z10 5 [] [(100,19)] rfl (by kernel_rfl) rfl (gd0 rfl) rfl Tryz.func101 rfl rfl (z1k _) (Y1 rfl) rN rfl (fun _ _=>z05) fun r7 n8=>z10 10 [] [(100,34)] rfl (by kernel_rfl) rfl (gd0 rfl) rfl Tryz.func101 rfl rfl (z1k _) (Y1 rfl) rN rfl (fun _ _=>z05) fun r9 n10=>z2z 3 [15,5,17] rfl (fS rfl<|fS rfl<|fS rfl<|fN)<|z2z 19 [22] rfl (fS rfl<|fN)<|z2z 34 [27] rfl (fS rfl<|fN)<|Zo 11 rfl rfl rfl (lit (R:=(z02 u8R)) ([r5.1,r7,r9]:List (List UInt8)) 37 (pP rfl rfl<|pP rfl rfl<|pP rfl rfl<|pN) rfl tu42 zcm rfl rfl) fun v11=>z2z 37 [28] rfl (fS rfl<|fN)<|z10 12 [] [(100,40)] rfl (by kernel_rfl) rfl (gd0 rfl) rfl Tryz.func130 rfl rfl (z0x _) (Y1 rfl) rN rfl (fun _ _=>z05) fun r12 n13=>Zf 13 rfl rfl z05 (asg rfl)<|hTk 14 rfl rfl (asg rfl)<|z0y (by kernel_rfl)<|z0d<|z0m<|Ze [(n13 0)] [40] rfl
def zdk (a0:List UInt8):Option (Bool) :=
 some (decide (10000<(a0.length:Int))) >>= fun y1 =>
 some y1
theorem zju (a0:List UInt8):z27 Tryz.prog 214 [.rd (z02 u8R) a0] [] (zdk a0) (fun r nv=>⟨[.rd z0n r],[]⟩):=by
 refine z2n 6 Tryz.func214 rfl rfl rfl fun H w=>?_
 refine gSR<|Za rfl<|Zn<|gSR<|Zm rfl<|Zq (z37 rfl .rd rfl tu75)<|Zq (I.gtr rfl rfl)<|Za rfl<|z1e 2 rfl fun y1=>Zn<|z0m<|Ze [] [] rfl
def zdr  : Option (z2y) :=
 some (⟨(#v[1779033703,3144134277,1013904242,2773480762,1359893119,2600822924,528734635,1541459225]:Vector UInt32 8),[],0⟩:z2y)
theorem zmb  : z27 Tryz.prog 215 [] [] (zdr) (fun r nv=>⟨[.rd z38 r],[]⟩):=by
 refine z2n 3 Tryz.func215 rfl rfl rfl fun H w=>?_
 refine gSR<|Eb rfl (z7s 1 zn2 (ZrE.rd (R:=(z06 8 z1c)) (x:=(Vector.replicate 8 0)) zou (ZrE.nilS (ZrE.rd (R:=z0k) (x:=0) (Zr.num rfl) ZrE.nil rfl)) rfl)) fun v1=>Zn<|gSR<|Zq (litA (R:=z1c) [1779033703,3144134277,1013904242,2773480762,1359893119,2600822924,528734635,1541459225] (#v[1779033703,3144134277,1013904242,2773480762,1359893119,2600822924,528734635,1541459225]:Vector UInt32 8) (pP rfl rfl<|pP rfl rfl<|pP rfl rfl<|pP rfl rfl<|pP rfl rfl<|pP rfl rfl<|pP rfl rfl<|pP rfl rfl<|pN) rfl tu164 zhb rfl z3h)<|Zq (zsp [(0,8),(8,1),(9,1)] Tryz.underlying227 zn2 (ZrE.rd (R:=(z06 8 z1c)) (x:=(Vector.replicate 8 0)) zou (ZrE.nilS (ZrE.rd (R:=z0k) (x:=0) (Zr.num rfl) ZrE.nil rfl)) rfl) rfl (zef.cons rfl rfl z08 (z18.cast (z18.here z08) rfl)<|zef.done rfl))<|Es (zsq 1 rfl rfl (z0e.cast (z0e.cons z08 (z0e.cons z00 (z0e.cons z08 z0e.nil))) rfl) rfl (z3l.cons z2g (z3l.cons z0a (z3l.cons z2g z3l.nil))) (z0e.cast (z0e.cons z08 (z0e.cons z00 (z0e.cons z08 z0e.nil))) rfl) zn2)<|Zn<|z0m<|ePnl u8R [.rd (z06 8 z1c) (#v[1779033703,3144134277,1013904242,2773480762,1359893119,2600822924,528734635,1541459225]:Vector UInt32 8),.rd (z02 u8R) [],.rd z0k 0] 1 [.rd (z06 8 z1c) (#v[1779033703,3144134277,1013904242,2773480762,1359893119,2600822924,528734635,1541459225]:Vector UInt32 8)] [.rd z0k 0] rfl rfl rfl<|eJoi (R:=z38) (⟨(#v[1779033703,3144134277,1013904242,2773480762,1359893119,2600822924,528734635,1541459225]:Vector UInt32 8),[],0⟩:z2y) 1 rfl (Sp.via (Sp.prod (Sp.prod (Sp.prod Sp.unit))))<|zge [] [] rfl (eC 1 rfl rfl zpm<|eN) (rN)
def z28 (a0:UInt32) (a1:Int):Option (UInt32) :=
 some ((UInt64.ofInt a1) &&& 31) >>= fun y1 =>
 some ((zon a0 y1.toNat) ||| (z2e a0 ((32 - y1).toNat))) >>= fun y2 =>
 some y2
theorem z2u (a0:UInt32) (a1:Int):z27 Tryz.prog 240 [.rd z1c a0,.rd z0k a1] [] (z28 a0 a1) (fun r nv=>⟨[.rd z1c r],[]⟩):=by
 refine z2n 17 Tryz.func240 rfl rfl rfl fun H w=>?_
 refine gSR<|Za rfl<|Zn<|gSR<|Zm rfl<|Zq (I.toU rfl tu3 Tryz.underlying150)<|Zq (U.and rfl rfl)<|Za rfl<|z1e 5 rfl fun y1=>Zn<|gSR<|Zm rfl<|Zm rfl<|Zq (W.shl rfl rfl (Int.natCast_nonneg _))<|Zm rfl<|Zm rfl<|Zq (U.sub rfl rfl)<|Zq (W.shr rfl rfl (Int.natCast_nonneg _))<|Zq (W.or rfl rfl)<|Za rfl<|z1e 4 rfl fun y2=>Zn<|z0m<|Ze [] [] rfl
def z79 (x3:List UInt8) (s5:(Vector UInt32 64) × Int):Option (Sum ((Vector UInt32 64)) ((Vector UInt32 64) × Int)) :=
 if decide (s5.2<(x3.length:Int)) then
  idx x3 s5.2 >>= fun x7 =>
  z86 s5.1 (w64 (Int.tdiv s5.2 4)) >>= fun x9 =>
  z86 s5.1 (w64 (Int.tdiv s5.2 4)) >>= fun x11 =>
  some (.inr (zjn s5.1 (w64 (Int.tdiv s5.2 4)) ((zon x9 8) ||| x7.toUInt32),w64 (s5.2+1)))
 else
  some (.inl s5.1)
def z56 (s14:(Vector UInt32 64) × Int):Option (Sum ((Vector UInt32 64)) ((Vector UInt32 64) × Int)) :=
 if decide (s14.2<64) then
  z86 s14.1 (w64 (s14.2 - 15)) >>= fun x16 =>
  z86 s14.1 (w64 (s14.2 - 2)) >>= fun x18 =>
  z28 x16 (-7) >>= fun r20 =>
  z28 x16 (-18) >>= fun r22 =>
  some ((r20 ^^^ r22) ^^^ (z2e x16 3)) >>= fun y24 =>
  z28 x18 (-17) >>= fun r25 =>
  z28 x18 (-19) >>= fun r27 =>
  some ((r25 ^^^ r27) ^^^ (z2e x18 10)) >>= fun y29 =>
  z86 s14.1 (w64 (s14.2 - 16)) >>= fun x30 =>
  z86 s14.1 (w64 (s14.2 - 7)) >>= fun x32 =>
  z86 s14.1 s14.2 >>= fun x34 =>
  some (w64 (s14.2+1)) >>= fun y36 =>
  some (.inr (zjn s14.1 s14.2 (((x30+x32)+y24)+y29),y36))
 else
  some (.inl s14.1)
def zdf (a0:List UInt8):Option ((Vector UInt32 64)) :=
 (cut a0 0 64 >>= fun x3 =>
 iter (z79 x3) ((Vector.replicate 64 0),0)) >>= fun s2 =>
 (iter (z56) (s2,16)) >>= fun s13 =>
 some s13
theorem zis (a0:List UInt8):z27 Tryz.prog 237 [.rd (z02 u8R) a0] [] (zdf a0) (fun r nv=>⟨[.rd (z06 64 z1c) r],[]⟩):=by
 refine z2n 74 Tryz.func237 rfl rfl rfl fun H w=>?_
 refine gSR<|Eb rfl (z7s 1 zwd (.zr (R:=(z06 64 z1c)) (x:=(Vector.replicate 64 0)) z11n)) fun v1=>Zn<|z7f (fun (s2:(Vector UInt32 64)) aa ww=>Sta (ctx 74 H [] w) [(2,.val (z09 v1 0))] [(1,some (v1,.box 249 [.rd (z06 64 z1c) s2]))] aa ww) ?_ (fun s2=>?_)
 ·
  refine gSR<|Zm rfl<|z0s fun x3 h4=>Zq (cut' rfl .no (.to rfl) h4 tu75 ti5)<|Zq (z37 rfl .rd rfl tu75)<|Zm rfl<|Zn<|z2h (fun (s5:(Vector UInt32 64) × Int) aa ww=>Sta (ctx 74 H [] w) [(2,.val (z09 v1 0)),(11,.rd (z02 u8R) x3),(12,.rd z0k (x3.length:Int)),(13,.rd z0k s5.2)] [(1,some (v1,.box 249 [.rd (z06 64 z1c) s5.1]))] aa ww) (fun aa ww h=>Zu h [1]) (fun s5=>?_)
  refine gSR<|Zq (I.lss rfl rfl)<|Zn<|z0w<|gIf rfl rfl (fun h6=>?_) (fun h6=>?_)
  ·
   refine Zt<|z0w<|z4q<|gSR<|Zm rfl<|z0s fun x7 h8=>Zq (ixR rfl rfl h8 tu75 ti5 rfl)<|Zq (ldR rfl ty5)<|Za rfl<|Za rfl<|Zn<|z1m<|Zm rfl<|Zq (I.quo rfl rfl (by decide))<|Zm rfl<|Zq (I.quo rfl rfl (by decide))<|z0s fun x9 h10=>Zq (ixB 1 rfl rfl rfl h10 Tryz.underlying249 z3h)<|Zq (ld 1 rfl rfl ((Foc.here).part (.el h10)) z4p rfl)<|Zq (W.shl rfl rfl (Int.natCast_nonneg _))<|Zm rfl<|Zq (B.toW rfl tu5 tu65)<|Zq (W.or rfl rfl)<|z0s fun x11 h12=>Zq (ixB 1 rfl rfl rfl h12 Tryz.underlying249 z3h)<|Es (sto 1 rfl rfl ((Foc.here).part (.el h12)) rfl z3h)<|z1f<|z1w<|z0d<|z1m<|Zq (I.add rfl rfl)<|Zm rfl<|z1f<|z0r (fun aa ww h=>Zu h [1])
  ·
   refine z1z<|z13<|z14<|z2x (fun aa ww h=>Zu h [1])
 ·
  refine z7f (fun (s13:(Vector UInt32 64)) aa ww=>Sta (ctx 74 H [] w) [(2,.val (z09 v1 0))] [(1,some (v1,.box 249 [.rd (z06 64 z1c) s13]))] aa ww) ?_ (fun s13=>?_)
  ·
   refine gSR<|Za rfl<|Zn<|z2h (fun (s14:(Vector UInt32 64) × Int) aa ww=>Sta (ctx 74 H [] w) [(2,.val (z09 v1 0)),(5,.rd z0k s14.2)] [(1,some (v1,.box 249 [.rd (z06 64 z1c) s14.1]))] aa ww) (fun aa ww h=>Zu h [1]) (fun s14=>?_)
   refine z0w<|gSR<|Zm rfl<|Zq (I.lss rfl rfl)<|Zn<|gIf rfl rfl (fun h15=>?_) (fun h15=>?_)
   ·
    refine Zt<|z0w<|z4q<|z0w<|zdn mixed (by kernel_rfl)<|Rq rfl (mv rfl)<|Rq rfl (I.sub rfl rfl)<|z6a fun x16 h17=>Rq rfl (ixB 1 rfl rfl rfl h17 Tryz.underlying249 z3h)<|Rq rfl (ld 1 rfl rfl ((Foc.here).part (.el h17)) z4p rfl)<|Rq rfl (mv rfl)<|Rq rfl (I.sub rfl rfl)<|z6a fun x18 h19=>Rq rfl (ixB 1 rfl rfl rfl h19 Tryz.underlying249 z3h)<|Rq rfl (ld 1 rfl rfl ((Foc.here).part (.el h19)) z4p rfl)<|Rq rfl (asg rfl)<|Rq rfl (asg rfl)<|zl6<|z0d<|gSR<|Zm rfl<|Zc [] [] Tryz.func240 rfl (z2u _ _) fun r20 n21=>Zm rfl<|Zc [] [] Tryz.func240 rfl (z2u _ _) fun r22 n23=>Zq (W.xor rfl rfl)<|Zm rfl<|Zq (W.shr rfl rfl (Int.natCast_nonneg _))<|Zq (W.xor rfl rfl)<|Za rfl<|z1e 8 rfl fun y24=>Zn<|gSR<|Zm rfl<|Zc [] [] Tryz.func240 rfl (z2u _ _) fun r25 n26=>Zm rfl<|Zc [] [] Tryz.func240 rfl (z2u _ _) fun r27 n28=>Zq (W.xor rfl rfl)<|Zm rfl<|Zq (W.shr rfl rfl (Int.natCast_nonneg _))<|Zq (W.xor rfl rfl)<|Za rfl<|z1e 9 rfl fun y29=>Zn<|z5m [1] mixed rfl rfl<|hTk 0 rfl rfl (mv rfl)<|hTk 1 rfl rfl (mv rfl)<|hTk 2 rfl rfl (I.sub rfl rfl)<|z0o fun x30 h31=>hTk 3 rfl rfl (ixB 1 rfl rfl rfl h31 Tryz.underlying249 z3h)<|hTk 5 rfl rfl (mv rfl)<|hTk 6 rfl rfl (I.sub rfl rfl)<|z0o fun x32 h33=>hTk 7 rfl rfl (ixB 1 rfl rfl rfl h33 Tryz.underlying249 z3h)<|hTk 10 rfl rfl (mv rfl)<|hTk 12 rfl rfl (mv rfl)<|z6o [4,8] (by kernel_rfl) rfl ⟨?_,?_,trivial⟩
    ·
     refine zaz 4 rfl (gd0 rfl) rfl rfl z07 (ld 1 rfl rfl ((Foc.here).part (.el h31)) z4p rfl)<|zii 8 rfl (by kernel_rfl) (gd0 rfl) rfl rfl z07 (ld 1 rfl rfl ((Foc.here).part (.el h33)) z4p rfl)<|hTk 9 rfl rfl (W.add rfl rfl)<|hTk 11 rfl rfl (W.add rfl rfl)<|hTk 13 rfl rfl (W.add rfl rfl)<|z0o fun x34 h35=>hTk 14 rfl rfl (ixB 1 rfl rfl rfl h35 Tryz.underlying249 z3h)<|Zp 15 rfl rfl rfl rfl rfl (sto 1 rfl rfl ((Foc.here).part (.el h35)) rfl z3h)<|z0y (by kernel_rfl)<|z1w<|z0d<|z1m<|Zm rfl<|Zq (I.add rfl rfl)<|Za rfl<|z1e 5 rfl fun y36=>z1f<|z0r (fun aa ww h=>Zu h [1])
    ·
     refine zaz 8 rfl (gd0 rfl) rfl rfl z07 (ld 1 rfl rfl ((Foc.here).part (.el h33)) z4p rfl)<|zii 4 rfl (by kernel_rfl) (gd0 rfl) rfl rfl z07 (ld 1 rfl rfl ((Foc.here).part (.el h31)) z4p rfl)<|hTk 9 rfl rfl (W.add rfl rfl)<|hTk 11 rfl rfl (W.add rfl rfl)<|hTk 13 rfl rfl (W.add rfl rfl)<|z0o fun x37 h38=>hTk 14 rfl rfl (ixB 1 rfl rfl rfl h38 Tryz.underlying249 z3h)<|Zp 15 rfl rfl rfl rfl rfl (sto 1 rfl rfl ((Foc.here).part (.el h38)) rfl z3h)<|z0y (by kernel_rfl)<|z1w<|z0d<|z1m<|Zm rfl<|Zq (I.add rfl rfl)<|Za rfl<|z1e 5 rfl fun y39=>z1f<|z0r (fun aa ww h=>Zu h [1])
   ·
    refine z1z<|z13<|z14<|z2x (fun aa ww h=>Zu h [1])
  ·
   refine gSR<|Zq (ld 1 rfl rfl Foc.here z128 rfl)<|Es (sto 1 rfl rfl Foc.here rfl zwd)<|Zn<|z0m<|zge [] [] rfl (eC 1 rfl rfl z128<|eN) (rN)
def zeo (a0:UInt32) (a1:Int) (a2:Int) (a3:Int):Option (UInt32) :=
 z28 a0 (w64 (0 - a1)) >>= fun r1 =>
 z28 a0 (w64 (0 - a2)) >>= fun r3 =>
 z28 a0 (w64 (0 - a3)) >>= fun r5 =>
 some ((r1 ^^^ r3) ^^^ r5) >>= fun y7 =>
 some y7
theorem zjd (a0:UInt32) (a1:Int) (a2:Int) (a3:Int):z27 Tryz.prog 238 [.rd z1c a0,.rd z0k a1,.rd z0k a2,.rd z0k a3] [] (zeo a0 a1 a2 a3) (fun r nv=>⟨[.rd z1c r],[]⟩):=by
 refine z2n 23 Tryz.func238 rfl rfl rfl fun H w=>?_
 refine gSR<|Za rfl<|Zn<|gSR<|Zm rfl<|Zm rfl<|Zq (I.neg rfl)<|Zc [] [] Tryz.func240 rfl (z2u _ _) fun r1 n2=>Zm rfl<|Zm rfl<|Zq (I.neg rfl)<|Zc [] [] Tryz.func240 rfl (z2u _ _) fun r3 n4=>Zq (W.xor rfl rfl)<|Zm rfl<|Zm rfl<|Zq (I.neg rfl)<|Zc [] [] Tryz.func240 rfl (z2u _ _) fun r5 n6=>Zq (W.xor rfl rfl)<|Za rfl<|z1e 8 rfl fun y7=>Zn<|z0m<|Ze [] [] rfl
def z93 (a0:List UInt8):Option ((List UInt8)) :=
 app 1 ([]:List UInt8) a0 >>= fun x3 =>
 some x3
theorem zae (a0:List UInt8):z27 Tryz.prog 231 [.rd (z02 u8R) a0] [] (z93 a0) (fun r nv=>⟨[.val (nv 0)],[(100,some (nv 0,.list u8R 5 r))]⟩):=by
 refine z2n 8 Tryz.func231 rfl rfl rfl fun H w=>?_
 refine gSR<|Za rfl<|Zn<|z0w<|gSR<|Zm rfl<|z10l rfl rfl .rd rfl tu75 (fun h1=>?_) ?_
 ·
  subst h1
  refine Zn<|zdg rfl<|gSR<|Za rfl<|Zn<|z0m<|z12<|zm0 u8R 5 1<|Ze [(.slice none 0 0)] [1] rfl
 ·
  refine Zn<|zbl rfl<|Zt<|gSR<|Ef rfl (lit (R:=u8R) (([]:List UInt8):List UInt8) 2 (pN) rfl tu75 ti5 rfl rfl) fun v2=>Zm rfl<|z0s fun x3 h4=>Ef rfl (apn 2 rfl rfl rfl .rd h4 tu75 ti5 rfl rfl rfl) fun v5=>Za rfl<|Zn<|z0m<|Ze [v5] [2] rfl
def z69 (r1:(Vector UInt32 64)) (s21:UInt32 × UInt32 × UInt32 × UInt32 × UInt32 × UInt32 × UInt32 × UInt32 × Int):Option (Sum (UInt32 × UInt32 × UInt32 × UInt32 × UInt32 × UInt32 × UInt32 × UInt32) (UInt32 × UInt32 × UInt32 × UInt32 × UInt32 × UInt32 × UInt32 × UInt32 × Int)) :=
 if decide (s21.2.2.2.2.2.2.2.2<64) then
  z86 z8f s21.2.2.2.2.2.2.2.2 >>= fun x23 =>
  z86 r1 s21.2.2.2.2.2.2.2.2 >>= fun x25 =>
  zeo s21.2.2.2.2.1 6 11 25 >>= fun r27 =>
  some ((((s21.2.2.2.2.2.2.2.1+r27)+((s21.2.2.2.2.1 &&& s21.2.2.2.2.2.1) ^^^ ((~~~s21.2.2.2.2.1) &&& s21.2.2.2.2.2.2.1)))+x23)+x25) >>= fun y29 =>
  zeo s21.1 2 13 22 >>= fun r30 =>
  some (r30+(((s21.1 &&& s21.2.1) ^^^ (s21.1 &&& s21.2.2.1)) ^^^ (s21.2.1 &&& s21.2.2.1))) >>= fun y32 =>
  some (s21.2.2.2.1+y29) >>= fun y33 =>
  some (.inr (y29+y32,s21.1,s21.2.1,s21.2.2.1,y33,s21.2.2.2.2.1,s21.2.2.2.2.2.1,s21.2.2.2.2.2.2.1,w64 (s21.2.2.2.2.2.2.2.2+1)))
 else
  some (.inl (s21.1,s21.2.1,s21.2.2.1,s21.2.2.2.1,s21.2.2.2.2.1,s21.2.2.2.2.2.1,s21.2.2.2.2.2.2.1,s21.2.2.2.2.2.2.2.1))
def zd4 (s20:UInt32 × UInt32 × UInt32 × UInt32 × UInt32 × UInt32 × UInt32 × UInt32) (s34:(Vector UInt32 8) × Int):Option (Sum ((Vector UInt32 8)) ((Vector UInt32 8) × Int)) :=
 if decide (s34.2<8) then
  z86 (#v[s20.1,s20.2.1,s20.2.2.1,s20.2.2.2.1,s20.2.2.2.2.1,s20.2.2.2.2.2.1,s20.2.2.2.2.2.2.1,s20.2.2.2.2.2.2.2]:Vector UInt32 8) s34.2 >>= fun x36 =>
  z86 s34.1 s34.2 >>= fun x38 =>
  z86 s34.1 s34.2 >>= fun x40 =>
  some (.inr (zjn s34.1 s34.2 (x38+x36),w64 (s34.2+1)))
 else
  some (.inl s34.1)
def zdx (c0:Vector UInt32 8) (a1:List UInt8):Option ((Vector UInt32 8)) :=
 zdf a1 >>= fun r1 =>
 z86 c0 0 >>= fun x4 =>
 z86 c0 1 >>= fun x6 =>
 z86 c0 2 >>= fun x8 =>
 z86 c0 3 >>= fun x10 =>
 z86 c0 4 >>= fun x12 =>
 z86 c0 5 >>= fun x14 =>
 z86 c0 6 >>= fun x16 =>
 z86 c0 7 >>= fun x18 =>
 (iter (z69 r1) (x4,x6,x8,x10,x12,x14,x16,x18,0)) >>= fun s20 =>
 iter (zd4 s20) (c0,0)
theorem zm9 (ph0:Value) (kh0:Nat) (uh0:(Vector UInt32 8)→z5w) (hh0:∀ y,Foc (uh0 y) kh0 (z06 8 z1c) y uh0) (c0:Vector UInt32 8) (a1:List UInt8):z27 Tryz.prog 230 [.val (z09 ph0 kh0),.rd (z02 u8R) a1] [(1,some (ph0,uh0 c0)),zG1] (zdx c0 a1) (fun r nv=>⟨[],[(1,some (ph0,uh0 r)),(1001,some (.bool true,.glob 1 (z06 64 z1c) z8f))]⟩):=by
 refine z2n 126 Tryz.func230 rfl rfl rfl fun H w=>?_
 refine gSR<|Zm rfl<|Zc [] [] Tryz.func237 rfl (zis _) fun r1 n2=>Eb rfl (z7s 2 zwd (.zr (R:=(z06 64 z1c)) (x:=(Vector.replicate 64 0)) z11n)) fun v3=>Es (sto 2 rfl rfl Foc.here rfl zwd)<|Zn<|z0w<|zdn mixed (by kernel_rfl)<|Rq rfl (mv rfl)<|Rq rfl (zx6 1 rfl rfl (hh0 _))<|z6a fun x4 h5=>Rq rfl (ixH 1 rfl rfl (hh0 _) rfl h5 tu164 z3h)<|Rq rfl (ld 1 rfl rfl ((hh0 _).part (.el h5)) z4p rfl)<|Rq rfl (mv rfl)<|Rq rfl (zx6 1 rfl rfl (hh0 _))<|z6a fun x6 h7=>Rq rfl (ixH 1 rfl rfl (hh0 _) rfl h7 tu164 z3h)<|Rq rfl (ld 1 rfl rfl ((hh0 _).part (.el h7)) z4p rfl)<|Rq rfl (mv rfl)<|Rq rfl (zx6 1 rfl rfl (hh0 _))<|z6a fun x8 h9=>Rq rfl (ixH 1 rfl rfl (hh0 _) rfl h9 tu164 z3h)<|Rq rfl (ld 1 rfl rfl ((hh0 _).part (.el h9)) z4p rfl)<|Rq rfl (mv rfl)<|Rq rfl (zx6 1 rfl rfl (hh0 _))<|z6a fun x10 h11=>Rq rfl (ixH 1 rfl rfl (hh0 _) rfl h11 tu164 z3h)<|Rq rfl (ld 1 rfl rfl ((hh0 _).part (.el h11)) z4p rfl)<|Rq rfl (mv rfl)<|Rq rfl (zx6 1 rfl rfl (hh0 _))<|z6a fun x12 h13=>Rq rfl (ixH 1 rfl rfl (hh0 _) rfl h13 tu164 z3h)<|Rq rfl (ld 1 rfl rfl ((hh0 _).part (.el h13)) z4p rfl)<|Rq rfl (mv rfl)<|Rq rfl (zx6 1 rfl rfl (hh0 _))<|z6a fun x14 h15=>Rq rfl (ixH 1 rfl rfl (hh0 _) rfl h15 tu164 z3h)<|Rq rfl (ld 1 rfl rfl ((hh0 _).part (.el h15)) z4p rfl)<|Rq rfl (mv rfl)<|Rq rfl (zx6 1 rfl rfl (hh0 _))<|z6a fun x16 h17=>Rq rfl (ixH 1 rfl rfl (hh0 _) rfl h17 tu164 z3h)<|Rq rfl (ld 1 rfl rfl ((hh0 _).part (.el h17)) z4p rfl)<|Rq rfl (mv rfl)<|Rq rfl (zx6 1 rfl rfl (hh0 _))<|z6a fun x18 h19=>Rq rfl (ixH 1 rfl rfl (hh0 _) rfl h19 tu164 z3h)<|Rq rfl (ld 1 rfl rfl ((hh0 _).part (.el h19)) z4p rfl)<|Rq rfl (asg rfl)<|Rq rfl (asg rfl)<|Rq rfl (asg rfl)<|Rq rfl (asg rfl)<|Rq rfl (asg rfl)<|Rq rfl (asg rfl)<|Rq rfl (asg rfl)<|Rq rfl (asg rfl)<|zl6<|z0d<|z7f (fun (s20:UInt32 × UInt32 × UInt32 × UInt32 × UInt32 × UInt32 × UInt32 × UInt32) aa ww=>Sta (ctx 126 H [(1,some (ph0,uh0 c0)),zG1] w) [(0,.val (z09 ph0 kh0)),(5,.rd z1c s20.1),(6,.rd z1c s20.2.1),(7,.rd z1c s20.2.2.1),(8,.rd z1c s20.2.2.2.1),(9,.rd z1c s20.2.2.2.2.1),(10,.rd z1c s20.2.2.2.2.2.1),(11,.rd z1c s20.2.2.2.2.2.2.1),(12,.rd z1c s20.2.2.2.2.2.2.2)] [(1,some (ph0,uh0 c0)),zG1] aa ww) ?_ (fun s20=>?_)
 ·
  refine gSR<|Zm rfl<|Zn<|z2h (fun (s21:UInt32 × UInt32 × UInt32 × UInt32 × UInt32 × UInt32 × UInt32 × UInt32 × Int) aa ww=>Sta (ctx 126 H [(1,some (ph0,uh0 c0)),zG1] w) [(0,.val (z09 ph0 kh0)),(4,.val (z09 v3 0)),(5,.rd z1c s21.1),(6,.rd z1c s21.2.1),(7,.rd z1c s21.2.2.1),(8,.rd z1c s21.2.2.2.1),(9,.rd z1c s21.2.2.2.2.1),(10,.rd z1c s21.2.2.2.2.2.1),(11,.rd z1c s21.2.2.2.2.2.2.1),(12,.rd z1c s21.2.2.2.2.2.2.2.1),(52,.rd z0k s21.2.2.2.2.2.2.2.2)] [(1,some (ph0,uh0 c0)),(2,some (v3,.box 249 [.rd (z06 64 z1c) r1])),zG1] aa ww) (fun aa ww h=>Zu h [1,2,1001]) (fun s21=>?_)
  refine gSR<|Zq (I.lss rfl rfl)<|Zn<|z0w<|gIf rfl rfl (fun h22=>?_) (fun h22=>?_)
  ·
   refine Zt<|z0w<|z4q<|gSR<|Zm rfl<|Za rfl<|Zn<|z0w<|z5m [] mixed rfl rfl<|hTk 0 rfl rfl (mv rfl)<|hTk 1 rfl rfl (mv rfl)<|hTk 4 rfl rfl (mv rfl)<|hTk 5 rfl rfl (mv rfl)<|hTk 6 rfl rfl (W.and rfl rfl)<|hTk 7 rfl rfl (mv rfl)<|hTk 8 rfl rfl (W.cpl rfl)<|hTk 9 rfl rfl (mv rfl)<|hTk 10 rfl rfl (W.and rfl rfl)<|hTk 11 rfl rfl (W.xor rfl rfl)<|hTk 13 rfl rfl (mv rfl)<|z0o fun x23 h24=>hTk 14 rfl rfl (ixG 1001 rfl rfl h24 Tryz.underlying249 z3h)<|hTk 15 rfl rfl (ldR rfl z4p)<|hTk 17 rfl rfl (mv rfl)<|z0o fun x25 h26=>hTk 18 rfl rfl (ixB 2 rfl rfl rfl h26 Tryz.underlying249 z3h)<|hTk 19 rfl rfl (ld 2 rfl rfl ((Foc.here).part (.el h26)) z4p rfl)<|z10 2 [] [] rfl (by kernel_rfl) rfl (gd0 rfl) rfl Tryz.func238 rfl rfl (zjd _ _ _ _) (aQ rfl<|aQ rfl<|aQ rfl<|aQ rfl<|aN) rN rfl (fun _ _=>z07) fun r27 n28=>hTk 3 rfl rfl (W.add rfl rfl)<|hTk 12 rfl rfl (W.add rfl rfl)<|hTk 16 rfl rfl (W.add rfl rfl)<|hTk 20 rfl rfl (W.add rfl rfl)<|hTk 21 rfl rfl (asg rfl)<|zxz 14 rfl rfl fun y29=>z0y (by kernel_rfl)<|z0d<|gSR<|Zm rfl<|Zc [] [] Tryz.func238 rfl (zjd _ _ _ _) fun r30 n31=>Zm rfl<|Zm rfl<|Zq (W.and rfl rfl)<|Zm rfl<|Zm rfl<|Zq (W.and rfl rfl)<|Zq (W.xor rfl rfl)<|Zm rfl<|Zm rfl<|Zq (W.and rfl rfl)<|Zq (W.xor rfl rfl)<|Zq (W.add rfl rfl)<|Za rfl<|z1e 15 rfl fun y32=>Zn<|z1m<|Zm rfl<|Zm rfl<|Zq (W.add rfl rfl)<|Zm rfl<|Zm rfl<|Zm rfl<|Zm rfl<|Zm rfl<|Zq (W.add rfl rfl)<|Zm rfl<|Zm rfl<|Zm rfl<|Za rfl<|Za rfl<|Za rfl<|Za rfl<|Za rfl<|z1e 9 rfl fun y33=>Za rfl<|Za rfl<|Za rfl<|z1f<|z1w<|z0d<|z1m<|Zq (I.add rfl rfl)<|Zm rfl<|z1f<|z0r (fun aa ww h=>Zu h [1,2,1001])
  ·
   refine z1z<|z13<|z14<|z2x (fun aa ww h=>Zu h [1,1001])
 ·
  refine gSR<|Zm rfl<|Zm rfl<|Zm rfl<|Zm rfl<|Zm rfl<|Zm rfl<|Zm rfl<|Zm rfl<|Zq (litA (R:=z1c) [s20.1,s20.2.1,s20.2.2.1,s20.2.2.2.1,s20.2.2.2.2.1,s20.2.2.2.2.2.1,s20.2.2.2.2.2.2.1,s20.2.2.2.2.2.2.2] (#v[s20.1,s20.2.1,s20.2.2.1,s20.2.2.2.1,s20.2.2.2.2.1,s20.2.2.2.2.2.1,s20.2.2.2.2.2.2.1,s20.2.2.2.2.2.2.2]:Vector UInt32 8) (pP rfl rfl<|pP rfl rfl<|pP rfl rfl<|pP rfl rfl<|pP rfl rfl<|pP rfl rfl<|pP rfl rfl<|pP rfl rfl<|pN) rfl tu164 zhb rfl z3h)<|Zm rfl<|Zn<|z2h (fun (s34:(Vector UInt32 8) × Int) aa ww=>Sta (ctx 126 H [(1,some (ph0,uh0 c0)),zG1] w) [(0,.val (z09 ph0 kh0)),(111,.rd (z06 8 z1c) (#v[s20.1,s20.2.1,s20.2.2.1,s20.2.2.2.1,s20.2.2.2.2.1,s20.2.2.2.2.2.1,s20.2.2.2.2.2.2.1,s20.2.2.2.2.2.2.2]:Vector UInt32 8)),(112,.rd z0k s34.2)] [(1,some (ph0,uh0 s34.1)),zG1] aa ww) (fun aa ww h=>Zu h [1,1001]) (fun s34=>?_)
  refine gSR<|Zq (I.lss rfl rfl)<|Zn<|z0w<|gIf rfl rfl (fun h35=>?_) (fun h35=>?_)
  ·
   refine Zt<|z0w<|z4q<|gSR<|Zm rfl<|z0s fun x36 h37=>Zq (idxV rfl rfl h37 tu164 z3h z4p)<|Za rfl<|Za rfl<|Zn<|z5m [1] mixed rfl rfl<|hTk 0 rfl rfl (mv rfl)<|hTk 1 rfl rfl (mv rfl)<|hTk 2 rfl rfl (zx6 1 rfl rfl (hh0 _))<|z0o fun x38 h39=>hTk 3 rfl rfl (ixH 1 rfl rfl (hh0 _) rfl h39 tu164 z3h)<|hTk 5 rfl rfl (mv rfl)<|hTk 7 rfl rfl (zx6 1 rfl rfl (hh0 _))<|zii 4 rfl (by kernel_rfl) (gd0 rfl) rfl rfl z07 (ld 1 rfl rfl ((hh0 _).part (.el h39)) z4p rfl)<|hTk 6 rfl rfl (W.add rfl rfl)<|z0o fun x40 h41=>hTk 8 rfl rfl (ixH 1 rfl rfl (hh0 _) rfl h41 tu164 z3h)<|Zp 9 rfl rfl rfl rfl rfl (sto 1 rfl rfl ((hh0 _).part (.el h41)) rfl z3h)<|z0y (by kernel_rfl)<|z1w<|z0d<|z1m<|Zq (I.add rfl rfl)<|Zm rfl<|z1f<|z0r (fun aa ww h=>Zu h [1,1001])
  ·
   refine z1z<|z13<|z14<|Ze [] [1,1001] rfl
def zad (s7:z2y × (List UInt8)):Option (Sum (z2y × (List UInt8)) (z2y × (List UInt8))) :=
 if decide (64≤(s7.2.length:Int)) then
  zdx s7.1.Words s7.2 >>= fun r10 =>
  cut s7.2 64 (s7.2.length:Int) >>= fun x12 =>
  some (.inr ({ s7.1 with Words:=r10 },x12))
 else
  some (.inl (s7.1,s7.2))
def zby (a0:z2y) (a1:List UInt8):Option (z2y) :=
 z2s [a0.Rest,a1] >>= fun r4 =>
 (iter (zad) (a0,r4)) >>= fun s6 =>
 z93 s6.2 >>= fun r14 =>
 some (⟨({ s6.1 with N:=w64 (s6.1.N+(a1.length:Int)) }).Words,r14,({ s6.1 with N:=w64 (s6.1.N+(a1.length:Int)) }).N⟩:z2y)
theorem zhm (a0:z2y) (a1:List UInt8):z27 Tryz.prog 216 [.rd z38 a0,.rd (z02 u8R) a1] [zG1] (zby a0 a1) (fun r nv=>⟨[.rd z38 r],[(1001,some (.bool true,.glob 1 (z06 64 z1c) z8f))]⟩):=by
 refine z2n 29 Tryz.func216 rfl rfl rfl fun H w=>?_
 refine gSR<|Eb rfl (bx 1 rfl) fun v1=>Eb rfl (z7s 2 zn2 (ZrE.rd (R:=(z06 8 z1c)) (x:=(Vector.replicate 8 0)) zou (ZrE.nilS (ZrE.rd (R:=z0k) (x:=0) (Zr.num rfl) ZrE.nil rfl)) rfl)) fun v2=>Zn<|gSR<|Zq (faB 1 rfl rfl Tryz.underlying227 rfl (by exact zcm))<|Zq (ld 1 rfl rfl ((Foc.here).part (zl5 _)) zuu rfl)<|Zm rfl<|Ef rfl (lit (R:=(z02 u8R)) ([a0.Rest,a1]:List (List UInt8)) 3 (pP rfl rfl<|pP rfl rfl<|pN) rfl tu42 zcm rfl rfl) fun v3=>zgv 3 [9] rfl (fS rfl<|fN)<|Zc [] [(100,4)] Tryz.func130 rfl (z0x _) fun r4 n5=>Za rfl<|Zn<|z7f (fun (s6:z2y × (List UInt8)) aa ww=>Sta (ctx 29 H [zG1] w) [(1,.rd (z02 u8R) a1),(2,.val (z09 v1 0)),(4,.val (z09 v2 0)),(5,.rd (z02 u8R) s6.2)] [(1,some (v1,.box 227 [.rd z38 s6.1])),(2,some (v2,.box 227 [.rd (z06 8 z1c) (Vector.replicate 8 0),.val (.slice none 0 0),.rd z0k 0])),zG1] aa ww) ?_ (fun s6=>?_)
 ·
  refine gFrz 4 [10,5] rfl (fS rfl<|fS rfl<|fN)<|z2h (fun (s7:z2y × (List UInt8)) aa ww=>Sta (ctx 29 H [zG1] w) [(1,.rd (z02 u8R) a1),(2,.val (z09 v1 0)),(4,.val (z09 v2 0)),(5,.rd (z02 u8R) s7.2)] [(1,some (v1,.box 227 [.rd z38 s7.1])),(2,some (v2,.box 227 [.rd (z06 8 z1c) (Vector.replicate 8 0),.val (.slice none 0 0),.rd z0k 0])),zG1] aa ww) (fun aa ww h=>Zu h [1,2,1001]) (fun s7=>?_)
  refine z0w<|gSR<|Zm rfl<|Zq (z37 rfl .rd rfl tu75)<|Zq (I.geq rfl rfl)<|Zn<|gIf rfl rfl (fun h8=>?_) (fun h8=>?_)
  ·
   refine Zt<|z4q<|gSR<|Zq (faB 1 rfl rfl Tryz.underlying227 rfl (by exact zhb))<|Zm rfl<|call [1,1001] [(1,1)] rfl Tryz.func230 rfl rfl (zm9 _ _ (fun y9=>.box 227 [.rd z38 ({ s7.1 with Words:=y9 })]) (fun _=>((Foc.here).part (zeu _))) _ _) (Y2 rfl rfl) (Zi rfl<|Zi rfl<|rN) fun r10 n11=>Zn<|z1m<|Zm rfl<|z0s fun x12 h13=>Zq (cut' rfl (.to rfl) .no h13 tu75 ti5)<|Za rfl<|z1f<|z1w<|z0r (fun aa ww h=>Zu h [1,2,1001])
  ·
   refine z1z<|z13<|z14<|z2x (fun aa ww h=>Zu h [1,2,1001])
 ·
  refine z0w<|z5m [1,1020] mixed rfl rfl<|hTk 0 rfl rfl (faB 1 rfl rfl Tryz.underlying227 rfl (by exact ti3))<|hTk 2 rfl rfl (mv rfl)<|hTk 3 rfl rfl (z37 rfl .rd rfl tu75)<|hTk 5 rfl rfl (mv rfl)<|z6o [1,6] (by kernel_rfl) rfl ⟨?_,?_,trivial⟩
  ·
   refine zaz 1 rfl (gd0 rfl) rfl rfl z07 (ld 1 rfl rfl ((Foc.here).part (z9r _)) ty3 rfl)<|hTk 4 rfl rfl (I.add rfl rfl)<|z10 6 [] [(100,1020)] rfl (by kernel_rfl) rfl (gd0 rfl) rfl Tryz.func231 rfl rfl (zae _) (Y1 rfl) rN rfl (fun _ _=>z05) fun r14 n15=>hTk 7 rfl rfl (faB 1 rfl rfl Tryz.underlying227 rfl (by exact ti3))<|Zp 8 rfl rfl rfl rfl rfl (sto 1 rfl rfl ((Foc.here).part (z9r _)) rfl ti3)<|Zf 9 rfl rfl z05 (faB 1 rfl rfl Tryz.underlying227 rfl (by exact zcm))<|hSpl (R:=z38) 1 rfl (Sp.via (Sp.prod (Sp.prod (Sp.prod Sp.unit))))<|Zp 10 rfl rfl rfl rfl rfl (z4e 1 rfl rfl (z18.cast (z18.next z08 (z18.here z08)) rfl) rfl z0a z00 zcm)<|z0y (by kernel_rfl)<|z0d<|gSR<|zuy [.rd (z06 8 z1c) (({ s6.1 with N:=w64 (s6.1.N+(a1.length:Int)) }).Words),.rd (z02 u8R) r14,.rd z0k (({ s6.1 with N:=w64 (s6.1.N+(a1.length:Int)) }).N)] 1 1020 [.rd (z06 8 z1c) (({ s6.1 with N:=w64 (s6.1.N+(a1.length:Int)) }).Words)] [.rd z0k (({ s6.1 with N:=w64 (s6.1.N+(a1.length:Int)) }).N)] rfl rfl rfl rfl rfl<|zks (R:=z38) (⟨({ s6.1 with N:=w64 (s6.1.N+(a1.length:Int)) }).Words,r14,({ s6.1 with N:=w64 (s6.1.N+(a1.length:Int)) }).N⟩:z2y) 1 rfl (Sp.via (Sp.prod (Sp.prod (Sp.prod Sp.unit))))<|Zq (ld 1 rfl rfl Foc.here zpm rfl)<|znn u8R [.rd (z06 8 z1c) (Vector.replicate 8 0),.rd (z02 u8R) [],.rd z0k 0] 2 [.rd (z06 8 z1c) (Vector.replicate 8 0)] [.rd z0k 0] rfl rfl rfl<|zks (R:=z38) (⟨(Vector.replicate 8 0),[],0⟩:z2y) 2 rfl (Sp.via (Sp.prod (Sp.prod (Sp.prod Sp.unit))))<|Es (sto 2 rfl rfl Foc.here rfl zn2)<|Zn<|z0m<|zge [] [1001] rfl (eC 2 rfl rfl zpm<|eN) (y1 rfl)
  ·
   refine z4z 6 [] [(100,1020)] rfl rfl (gd0 rfl) rfl Tryz.func231 rfl rfl (zae _) (Y1 rfl) rN rfl (fun _ _=>z05) fun r16 n17=>zii 1 rfl (by kernel_rfl) (gd0 rfl) rfl rfl z07 (ld 1 rfl rfl ((Foc.here).part (z9r _)) ty3 rfl)<|hTk 4 rfl rfl (I.add rfl rfl)<|hTk 7 rfl rfl (faB 1 rfl rfl Tryz.underlying227 rfl (by exact ti3))<|Zp 8 rfl rfl rfl rfl rfl (sto 1 rfl rfl ((Foc.here).part (z9r _)) rfl ti3)<|Zf 9 rfl rfl z05 (faB 1 rfl rfl Tryz.underlying227 rfl (by exact zcm))<|hSpl (R:=z38) 1 rfl (Sp.via (Sp.prod (Sp.prod (Sp.prod Sp.unit))))<|Zp 10 rfl rfl rfl rfl rfl (z4e 1 rfl rfl (z18.cast (z18.next z08 (z18.here z08)) rfl) rfl z0a z00 zcm)<|z0y (by kernel_rfl)<|z0d<|gSR<|zuy [.rd (z06 8 z1c) (({ s6.1 with N:=w64 (s6.1.N+(a1.length:Int)) }).Words),.rd (z02 u8R) r16,.rd z0k (({ s6.1 with N:=w64 (s6.1.N+(a1.length:Int)) }).N)] 1 1020 [.rd (z06 8 z1c) (({ s6.1 with N:=w64 (s6.1.N+(a1.length:Int)) }).Words)] [.rd z0k (({ s6.1 with N:=w64 (s6.1.N+(a1.length:Int)) }).N)] rfl rfl rfl rfl rfl<|zks (R:=z38) (⟨({ s6.1 with N:=w64 (s6.1.N+(a1.length:Int)) }).Words,r16,({ s6.1 with N:=w64 (s6.1.N+(a1.length:Int)) }).N⟩:z2y) 1 rfl (Sp.via (Sp.prod (Sp.prod (Sp.prod Sp.unit))))<|Zq (ld 1 rfl rfl Foc.here zpm rfl)<|znn u8R [.rd (z06 8 z1c) (Vector.replicate 8 0),.rd (z02 u8R) [],.rd z0k 0] 2 [.rd (z06 8 z1c) (Vector.replicate 8 0)] [.rd z0k 0] rfl rfl rfl<|zks (R:=z38) (⟨(Vector.replicate 8 0),[],0⟩:z2y) 2 rfl (Sp.via (Sp.prod (Sp.prod (Sp.prod Sp.unit))))<|Es (sto 2 rfl rfl Foc.here rfl zn2)<|Zn<|z0m<|zge [] [1001] rfl (eC 2 rfl rfl zpm<|eN) (y1 rfl)
def zbn (y3:UInt64) (s9:(List UInt8) × Int):Option (Sum ((List UInt8)) ((List UInt8) × Int)) :=
 if decide (0≤s9.2) then
  chk (0≤s9.2) >>= fun u12 =>
  app 1 s9.1 [(z85 y3 ((s9.2:Int).toNat)).toUInt8] >>= fun x15 =>
  some (w64 (s9.2 - 8)) >>= fun y18 =>
  some (.inr (x15,y18))
 else
  some (.inl s9.1)
def z9u (r21:z2y) (s23:(Vector UInt8 32) × Int):Option (Sum ((Vector UInt8 32)) ((Vector UInt8 32) × Int)) :=
 if decide (s23.2<8) then
  z86 r21.Words s23.2 >>= fun x25 =>
  z86 s23.1 (w64 (4 * s23.2)) >>= fun x27 =>
  z86 (zjn s23.1 (w64 (4 * s23.2)) ((z2e x25 24).toUInt8)) (w64 ((w64 (4 * s23.2))+1)) >>= fun x29 =>
  z86 (zjn (zjn s23.1 (w64 (4 * s23.2)) ((z2e x25 24).toUInt8)) (w64 ((w64 (4 * s23.2))+1)) ((z2e x25 16).toUInt8)) (w64 ((w64 (4 * s23.2))+2)) >>= fun x31 =>
  z86 (zjn (zjn (zjn s23.1 (w64 (4 * s23.2)) ((z2e x25 24).toUInt8)) (w64 ((w64 (4 * s23.2))+1)) ((z2e x25 16).toUInt8)) (w64 ((w64 (4 * s23.2))+2)) ((z2e x25 8).toUInt8)) (w64 ((w64 (4 * s23.2))+3)) >>= fun x33 =>
  some (.inr (zjn (zjn (zjn (zjn s23.1 (w64 (4 * s23.2)) ((z2e x25 24).toUInt8)) (w64 ((w64 (4 * s23.2))+1)) ((z2e x25 16).toUInt8)) (w64 ((w64 (4 * s23.2))+2)) ((z2e x25 8).toUInt8)) (w64 ((w64 (4 * s23.2))+3)) x25.toUInt8,w64 (s23.2+1)))
 else
  some (.inl s23.1)
def zgz (a0:z2y):Option ((Vector UInt8 32)) :=
 some ((UInt64.ofInt a0.N) * 8) >>= fun y3 =>
 appz 1 [128] 0 (Int.tmod (w64 (119 - (Int.tmod a0.N 64))) 64) >>= fun x5 =>
 (iter (zbn y3) (x5,56)) >>= fun s8 =>
 (zby a0 s8 >>= fun r21 =>
 iter (z9u r21) ((Vector.replicate 32 0),0)) >>= fun s20 =>
 some s20
end
end Go.Proofs.YtefkialcgmohkaaGreatDoor
