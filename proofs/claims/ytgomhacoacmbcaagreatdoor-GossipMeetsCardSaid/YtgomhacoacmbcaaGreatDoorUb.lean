import Derived.Test.YtgomhacoacmbcaaGreatDoorUa
set_option linter.unusedSimpArgs false
set_option linter.unusedVariables false
namespace Go.Proofs.YtgomhacoacmbcaaGreatDoor
set_option maxRecDepth 100000
set_option maxHeartbeats 4000000
open Go Go.RowKit _root_.Go.Proofs.Tryz
section
variable {ro:Option Nat}
def Sp {α:Type} (R:Rep α) (x:α) (es:List Ent):Prop:=R.agg=true/\∀ S w cs,R.rel S w cs x↔∃ vs,BI S w es vs/\Bd vs=cs
theorem Sp.unit:Sp E3 () []:=⟨rfl, λS w cs=>⟨λh=>⟨[],trivial,(show cs=[] from h).symm⟩, λ⟨vs,h1,h2⟩=>by
 match vs,h1 with
 | [],_=>exact h2.symm⟩⟩
theorem Sp.prod {α β:Type} {R:Rep α} {T:Rep β} {x:α} {y:β} {es:List Ent} (h:Sp T y es):Sp (C3 R T) (x,y) (.rd R x::es):=⟨rfl, λS w cs=>⟨λ⟨c,d,h1,h2,h3⟩=>by
  obtain⟨vs,M,O⟩:=(h.2 S w d).1 h3;exact⟨R.val c::vs,⟨⟨c,h2,rfl⟩,M⟩, by rw[Dn,Rep.val_cells h2,O,h1]⟩, λ⟨vs,h1,h2⟩=>by
  match vs,h1 with
  | v::vs,⟨⟨c,M,O⟩,U⟩ =>
   subst O;rw[Dn,Rep.val_cells M] at h2
   exact⟨c,_,h2.symm,M,(h.2 S w _).2 ⟨vs,U,rfl⟩⟩⟩⟩
theorem Sp.via {α β:Type} {g:β->α} {R:Rep α} {x:β} {es:List Ent} (h:Sp R (g x) es):Sp (DK g R) x es:=⟨h.1,h.2⟩
section
variable {ρ:Type} {P:Program} {Γ:Ctx} {l:AQ} {res:Res} {m:Option ρ} {a:Act} {w:World}
theorem Sta.recont (M:Sta Γ l res a w) (r:Nat) {v:Value} {c c':AK} (O:lr res r=some (v,c)) (h:c.holds (Shr Γ.H res w) w v->c'.holds (Shr Γ.H res w) w v):Sta Γ l ((r,some (v,c'))::res) a w :=
 (M.upd r (v:=v) (c:=c') (wr:=none) Ext.rfl'.gb (by simp) (λb hb=>.inl ⟨v,c,O,hb⟩) (λS' k'=>(h (M.conts r v c O)).mono k' (λb hb=>rfl))).1
theorem Sta.split {α:Type} {R:Rep α} {x:α} {es:List Ent} {T:TypeId} {v:Value} (O:Sta Γ l res a w) (r:Nat) (U:lr res r=some (v,.box T [.rd R x])) (hs:Sp R x es):Sta Γ l ((r,some (v,.box T es))::res) a w :=
 O.recont r U (λh=>by
  rcases h with h | ⟨b,o,h1,h2,b',vs,rfl,rfl,h3⟩
  ·exact h.elim
  ·match vs,h3 with
   | [u],⟨⟨cs,M,k2⟩,_⟩ =>
    subst k2;obtain⟨vs',k3,k4⟩:=(hs.2 _ w cs).1 M
    exact .inr ⟨b,_,h1,h2,b',vs',rfl, by rw[k4]; simp[Bd,Rep.val_cells M],k3⟩)
theorem Sta.join {α:Type} {R:Rep α} {x:α} {es:List Ent} {T:TypeId} {v:Value} (O:Sta Γ l res a w) (r:Nat) (U:lr res r=some (v,.box T es)) (hs:Sp R x es):Sta Γ l ((r,some (v,.box T [.rd R x]))::res) a w :=
 O.recont r U (λh=>by
  rcases h with h | ⟨b,o,h1,h2,b',vs,rfl,rfl,h3⟩
  ·exact h.elim
  ·have M:=(hs.2 _ w (Bd vs)).2 ⟨vs,h3,rfl⟩
   exact .inr ⟨b,_,h1,h2,b',[R.val (Bd vs)],rfl, by rw[show Bd [R.val (Bd vs)]=Bd vs by rw[Dn,Rep.val_cells M]; simp[Bd]],⟨_,M,rfl⟩,trivial⟩)
theorem Sn {α:Type} (R:Rep α) {S:Blk} {w:World} {v:Value} (h:(Ent.val (.slice none 0 0)).holds S w v):(Ent.rd (A3 R) []).holds S w v:=by
 obtain⟨rfl,-⟩:=h;exact⟨_,⟨none,0,[],rfl,Rd.nil _ _,rfl, by simp⟩,rfl⟩
theorem Bb.holds {es es':List Ent} {S:Blk} {w:World} {e e0:Ent} {pre post:List Ent} (h1:es=pre++e0::post) (h2:es'=pre++e::post) (U:∀ v,e0.holds S w v->e.holds S w v):∀ {vs:List Value},BI S w es vs->BI S w es' vs:=by
 subst h1; subst h2
 induction pre with
 | nil=>intro vs h; match vs,h with | v::vs,⟨M,O⟩=>exact⟨U v M,O⟩
 | cons p pre ih=>intro vs h; match vs,h with | v::vs,⟨M,O⟩=>exact⟨M,ih O⟩
theorem Sta.partNil {α:Type} (R:Rep α) {es es':List Ent} {T:TypeId} {v:Value} (M:Sta Γ l res a w) (r:Nat) (pre post:List Ent) (O:lr res r=some (v,.box T es)) (h1:es=pre++.val (.slice none 0 0)::post) (h2:es'=pre++.rd (A3 R) []::post):Sta Γ l ((r,some (v,.box T es'))::res) a w :=
 M.recont r O (λh=>by
  rcases h with h | ⟨b,o,U,k2,b',vs,rfl,rfl,k3⟩
  ·exact h.elim
  ·exact .inr ⟨b,_,U,k2,b',vs,rfl,rfl,Bb.holds h1 h2 (λv hv=>Sn R hv) k3⟩)
theorem Sta.partOwn {α:Type} {R:Rep α} {b:List α} {es es':List Ent} {T E:TypeId} {v u:Value} (U:Sta Γ l res a w) (r q:Nat) (pre post:List Ent) (a8:r≠q) (hr:lr res r=some (v,.box T es)) (hq:lr res q=some (u,.list R E b)) (h1:es=pre++.val u::post) (h2:es'=pre++.rd (A3 R) b::post):Sta Γ l ((r,some (v,.box T es'))::(q,none)::res) a w:=by
 have a7:=U.conts r v _ hr;have a2:=U.conts q u _ hq
 have a6:Bj (Shr Γ.H res w) (Shr Γ.H ((q,none)::res) w) w w:=λbb hb=>⟨⟨hb.1, λr' v' c' M=>by
  rw[BB] at M
  split at M
  ·cases M
  ·exact hb.2.1 r' v' c' M,hb.2.2⟩,rfl⟩
 have aa:Sta Γ l ((q,none)::res) a w:=by simpa using U.frz (R:=R) (T:=E) (b:=b) q [] hq trivial
 have M:lr ((q,none)::res) r=some (v,.box T es):=(BB.trans (if_neg (λe=>a8 e.symm))).trans hr;refine aa.recont r M (λ_=>?_);rcases a7 with h | ⟨b0,o,k1,k2,b',vs,rfl,rfl,k3⟩
 ·exact h.elim
 ·refine .inr ⟨b0,_,k1,k2,b',vs,rfl,rfl,Bb.holds h1 h2 (λv' hv=>?_) (k3.mono a6)⟩;obtain⟨rfl,-⟩:=hv;obtain⟨xs,h3,h4⟩:=EG a2;obtain⟨p,c,rfl⟩:=DT h3;refine⟨_,⟨p,c,xs,rfl,Rd.of_own h3,h4.mono a6, λac bb O=>?_⟩,rfl⟩;have O:AM (.slice p b.length c)=some bb:=by rw[Ew,I0]; exact O
  refine⟨(U.conts q _ _ hq).lt O, λr' v' c' a1 e=>?_, λhH=>U.own q _ _ hq bb O (U.hid bb hH)⟩;rw[BB] at a1
  split at a1
  ·cases a1
  ·rename_i ab;exact U.excl q _ _ r' v' c' hq a1 ab bb O e
variable {os rest:List Oper} {N Q:ρ->Exit->Act->World->Prop} {c:Code} {e:Exit}
theorem lSpl {α:Type} {R:Rep α} {x:α} {es:List Ent} {T:TypeId} {v:Value} (r:Nat) (M:lr res r=some (v,.box T [.rd R x])) (O:Sp R x es) (k:GL P os (Sta Γ l ((r,some (v,.box T es))::res)) rest N m):GL P os (Sta Γ l res) rest N m:=λa w U=>k a w (U.split r M O)
theorem BC {α:Type} {R:Rep α} (x:α) {es:List Ent} {T:TypeId} {v:Value} (r:Nat) (M:lr res r=some (v,.box T es)) (O:Sp R x es) (k:GL P os (Sta Γ l ((r,some (v,.box T [.rd R x]))::res)) rest N m):GL P os (Sta Γ l res) rest N m:=λa w U=>k a w (U.join r M O)
theorem Bh {α:Type} (R:Rep α) {es:List Ent} (es':List Ent) {T:TypeId} {v:Value} (r:Nat) (pre post:List Ent) (M:lr res r=some (v,.box T es)) (h1:es=pre++.val (.slice none 0 0)::post) (h2:es'=pre++.rd (A3 R) []::post) (k:GL P os (Sta Γ l ((r,some (v,.box T es'))::res)) rest N m):GL P os (Sta Γ l res) rest N m:=λa w O=>k a w (O.partNil R r pre post M h1 h2)
theorem lPow {α:Type} {R:Rep α} {b:List α} {es:List Ent} (es':List Ent) {T E:TypeId} {v u:Value} (r q:Nat) (pre post:List Ent) (M:(r==q)=false) (O:lr res r=some (v,.box T es)) (U:lr res q=some (u,.list R E b)) (h1:es=pre++.val u::post) (h2:es'=pre++.rd (A3 R) b::post) (k:GL P os (Sta Γ l ((r,some (v,.box T es'))::(q,none)::res)) rest N m):GL P os (Sta Γ l res) rest N m:=λa w ha=>k a w (ha.partOwn r q pre post (by simpa using M) O U h1 h2)
theorem gJoi {α:Type} {R:Rep α} (x:α) {es:List Ent} {T:TypeId} {v:Value} (r:Nat) (M:lr res r=some (v,.box T es)) (O:Sp R x es) (k:G ro P (Sta Γ l ((r,some (v,.box T [.rd R x]))::res)) c Q m):G ro P (Sta Γ l res) c Q m:=λa w U=>k a w (U.join r M O)
theorem gPnl {α:Type} (R:Rep α) {es:List Ent} (es':List Ent) {T:TypeId} {v:Value} (r:Nat) (pre post:List Ent) (M:lr res r=some (v,.box T es)) (h1:es=pre++.val (.slice none 0 0)::post) (h2:es'=pre++.rd (A3 R) []::post) (k:G ro P (Sta Γ l ((r,some (v,.box T es'))::res)) c Q m):G ro P (Sta Γ l res) c Q m:=λa w O=>k a w (O.partNil R r pre post M h1 h2)
theorem gPow {α:Type} {R:Rep α} {b:List α} {es:List Ent} (es':List Ent) {T E:TypeId} {v u:Value} (r q:Nat) (pre post:List Ent) (M:(r==q)=false) (O:lr res r=some (v,.box T es)) (U:lr res q=some (u,.list R E b)) (h1:es=pre++.val u::post) (h2:es'=pre++.rd (A3 R) b::post) (k:G ro P (Sta Γ l ((r,some (v,.box T es'))::(q,none)::res)) c Q m):G ro P (Sta Γ l res) c Q m:=λa w ha=>k a w (ha.partOwn r q pre post (by simpa using M) O U h1 h2)
theorem eSpl {α:Type} {R:Rep α} {x:α} {es:List Ent} {T:TypeId} {v:Value} (r:Nat) (M:lr res r=some (v,.box T [.rd R x])) (O:Sp R x es) (k:GE (Sta Γ l ((r,some (v,.box T es))::res)) e Q m):GE (Sta Γ l res) e Q m:=λa w U=>k a w (U.split r M O)
theorem D0 {α:Type} {R:Rep α} (x:α) {es:List Ent} {T:TypeId} {v:Value} (r:Nat) (M:lr res r=some (v,.box T es)) (O:Sp R x es) (k:GE (Sta Γ l ((r,some (v,.box T [.rd R x]))::res)) e Q m):GE (Sta Γ l res) e Q m:=λa w U=>k a w (U.join r M O)
theorem C6 {α:Type} (R:Rep α) {es:List Ent} (es':List Ent) {T:TypeId} {v:Value} (r:Nat) (pre post:List Ent) (M:lr res r=some (v,.box T es)) (h1:es=pre++.val (.slice none 0 0)::post) (h2:es'=pre++.rd (A3 R) []::post) (k:GE (Sta Γ l ((r,some (v,.box T es'))::res)) e Q m):GE (Sta Γ l res) e Q m:=λa w O=>k a w (O.partNil R r pre post M h1 h2)
end
def BQ (l:AQ) (place:Nat->Option (Nat × Nat)):List (Nat × Operand)->List Ent->List Ent->Prop
 | [],es,es'=>es=es'
 | (i,o)::ps,es,es'=>∃ (e:Ent) (off n:Nat) (M:List Ent),opE l o=some e/\place i=some (off,n)/\e.fills n/\Bb es off n e M/\BQ l place ps M es'
theorem BQ.done {l:AQ} {place:Nat->Option (Nat × Nat)} {es es':List Ent} (h:es=es'):BQ l place [] es es':=h
theorem BQ.cons {l:AQ} {place:Nat->Option (Nat × Nat)} {i:Nat} {o:Operand} {ps:List (Nat × Operand)} {e:Ent} {off n:Nat} {es M es':List Ent} (h:opE l o=some e) (O:place i=some (off,n)) (U:e.fills n) (hs:Bb es off n e M) (k:BQ l place ps M es'):BQ l place ((i,o)::ps) es es':=⟨e,off,n,M,h,O,U,hs,k⟩
theorem Bb.put {es es':List Ent} {k n:Nat} {e:Ent} {S:Blk} {w:World} (h:Bb es k n e es') {vs:List Value} {v:Value} (hv:e.holds S w v) (hn:v.cells.size=n) (M:BI S w es vs):∃ vs',BI S w es' vs'/\(Bd vs').toArray=spl (Bd vs).toArray k v.cells.toList/\k+n<=(Bd vs).length:=by
 obtain⟨pre,post,e0,rfl,rfl,O,hk⟩:=h;obtain⟨us,ts,rfl,U,h6⟩:=M.app
 match ts,h6 with
 | y0::ts,⟨h7,h8⟩ =>
  have hl:=hk _ _ _ U;have a1:y0.cells.toList.length=n:=by have:=O _ _ _ h7; simpa using this
  refine⟨us++v::ts,U.mk ⟨hv,h8⟩,?_, by simp only[Lm,Dn,List.length_append]; omega⟩;subst hl;unfold spl; congr 1
  have:v.cells.toList.length=n:=by simpa using hn
  simp only[Lm,Dn,this]
  rw[show ∀ A B Cc:List Value,A.length+n=(A++B).length->List.drop (A.length+n) (A++(B++Cc))=Cc by
   intro A B Cc h; rw[h,<- List.append_assoc,List.drop_left']; rfl]
  ·simp
  ·simp[a1]
theorem BQ.get {Γ:Ctx} {l:AQ} {res:Res} {a:Act} {w:World} (U:Sta Γ l res a w) {place:Nat->Option (Nat × Nat)}:∀ {ps:List (Nat × Operand)} {es es':List Ent} {vs:List Value},BQ l place ps es es'->BI (Shr Γ.H res w) w es vs ->
  ∃ vs',Instr.fill place (Bd vs).toArray (ps.map λp=>(p.1,a.eval p.2))=some (Bd vs').toArray/\BI (Shr Γ.H res w) w es' vs'
 | [],es,es',vs,h,O=>by have h:es=es':=h; subst h; exact⟨vs,rfl,O⟩
 | (i,o)::ps,es,es',vs,h,O=>by
  obtain⟨e,off,n,a1,h1,h2,h3,h4,h5⟩:=h;have hy:=U.vl h1;have M:(a.eval o).cells.size=n:=h3 _ _ _ hy;obtain⟨a2,k1,k2,k3⟩:=h4.put hy M O;obtain⟨vs',q1,q2⟩:=BQ.get U h5 k1;refine⟨vs',?_,q2⟩;simp only[List.map_cons];rw[NY h2 M (by simpa using k3),<- k2]; exact q1
def Af (es:List Ent) (n:Nat):Prop:=∀ S w vs,BI S w es vs->(Bd vs).length=n
theorem Af.nil:Af [] 0:=λS w vs h=>by match vs,h with | [],_=>rfl
theorem Af.cons {e:Ent} {es:List Ent} {n k:Nat} (h:e.fills n) (p:Af es k):Af (e::es) (n+k):=λS w vs hh=>by
 match vs,hh with
 | v::vs,⟨h1,h2⟩=>rw[Dn,List.length_append,p S w vs h2]; have:=h S w v h1; simp[this]
def AZ (es:List Ent):Prop:=∀ S w vs,BI S w es vs->∀ u∈Bd vs,u.oneCell'=true
theorem AZ.nil:AZ []:=λS w vs h u M=>by match vs,h with | [],_=>simp[Bd] at M
theorem AZ.cons {e:Ent} {es:List Ent} (h:e.ones) (p:AZ es):AZ (e::es):=λS w vs hh u M=>by
 match vs,hh with
 | v::vs,⟨h1,h2⟩ =>
  rw[Dn] at M;rcases List.mem_append.1 M with k | k
  ·exact h S w v h1 u k
  ·exact p S w vs h2 u k
section
variable {C:World->World->Prop} {P:Program} {Γ:Ctx} {l:AQ} {res:Res} {d:Tmp} {ty:TypeId} {pos:String} {after:Array Edge} {g:Option (Nat × Bool)}
theorem CD {M es':List Ent} {T:TypeId} {z:Value} {sz by_:Nat} {parts:Array (Nat × Operand)} {fs:Array Field} (pl:List (Nat × Nat)) (hT:P.underlying T=some (.struct fs)) (hI:TI P T z sz by_) (hz:FP z M)
  (hp:fs.toList.map (λf=>(f.offset,(P.info? f.type).map (·.size)))=pl.map (λp=>(p.1,some p.2))) (h:BQ l (λi:Nat=>pl[i]?) parts.toList M es'):Run C P Γ l res ⟨some d,.build T parts,ty,pos,after,g⟩ (.agg es'):=λa w ha=>by
 obtain⟨vs,O,U⟩:=hz (Shr Γ.H res w) w;obtain⟨vs',h1,h2⟩:=h.get ha U;rw[O,Array.toArray_toList] at h1;refine⟨.agg (Bd vs').toArray, λw' _=>Lh rfl ?_,vs',h2,rfl⟩;have e1:(fs.mapM (m:=Sem) λf=>do pure (f.offset,<- sizeOf f.type)).run P w'=.ok pl.toArray w':=by
  rw[<- Array.toArray_toList (xs:=fs),List.mapM_toArray];simp only[map_eq_pure_bind,Sem.run_bind,O0 fs.toList pl hp,Result.andThen,Sem.run_pure]
 have e2:(parts.map λ(i,x)=>(i,a.eval x)).toList=parts.toList.map λp=>(p.1,a.eval p.2):=by simp
 unfold Instr.build;simp only[Sem.run_bind,Gn hI,Result.andThen,run_underlying hT,e1,e2];have e3:(λi:Nat=>pl.toArray[i]?)=λi:Nat=>pl[i]? := by funext i; simp
 rw[e3,h1]; rfl
theorem CE {t T:TypeId} {x y:Operand} {v z:Value} {by_ n:Nat} {es es':List Ent} (r:Nat) (hx:opE l x=some (.val (A7 v 0))) (hr:lr res r=some (v,.box T es)) (h0:Af es n)
  (hy:opE l y=some (.agg es')) (h1e:AZ es') (hn:Af es' n) (hS:TI P t z n by_):EffS P Γ l res ⟨none,.store t x y,ty,pos,after,g⟩ r (v,.box T es'):=λa w ha=>by
 have h1:=(ha.vl hx).1;obtain⟨ys,M,a1⟩:=ha.vl hy;rcases ha.conts r v _ hr with h2 | ⟨b,o,h2,h3,b',vs,rfl,rfl,h4⟩
 ·exact h2.elim
 ·simp only[AM,Option.some.injEq] at h2;subst h2;rw[Ll] at h1;have hB:Bx w b' (Bd vs).toArray T:=h3;have O:(a.eval y).cells=(Bd ys).toArray:=by rw[a1]; rfl
  have a2:(a.eval y).cells.size=n:=by rw[O]; simp[hn _ _ _ M]
  have hl:=h0 _ _ _ h4;have U:=NN (P:=P) (w:=w) (b:=b') (o:=0) (v:=a.eval y) hS a2 (by rw[O]; simpa using h1e _ _ _ M) hB (by simp[hl])
  have a6:spl (Bd vs).toArray 0 (a.eval y).cells.toList=(Bd ys).toArray:=by
   rw[O]
   have:=hn _ _ _ M
   unfold spl; simp[this,hl]
  rw[a6] at U;refine⟨w.setRow b' (Bd ys).toArray,?_,?_,some b',FL b' _, λb hb=>⟨_,_,hr, by cases hb; rfl⟩⟩
  ·simp[execOp,h1,Instr.storeAt,Instr.sureAddr,U]
  ·exact ha.upd r (FL b' _) (λb hb=>⟨_,_,hr, by cases hb; rfl⟩) (λb hb=>.inl ⟨_,_,hr,hb⟩) (λS' k'=>.inr ⟨b',_,rfl,setRow_heap w b' _ _ T _ hB,b',ys,rfl,rfl,M.mono k'⟩)
def ZrE (cs:List Value) (es:List Ent):Prop:=∀ S w,∃ vs,Bd vs=cs/\BI S w es vs
theorem ZrE.nil:ZrE [] []:=λS w=>⟨[],rfl,trivial⟩
theorem ZrE.rd {α:Type} {R:Rep α} {x:α} {c d cs:List Value} {es:List Ent} (h:Zr R c x) (k:ZrE d es) (e:c++d=cs):ZrE cs (.rd R x::es):=λS w=>by
 obtain⟨vs,h1,h2⟩:=k S w;exact⟨R.val c::vs, by rw[Dn,Rep.val_cells (h S w),h1,e],⟨c,h S w,rfl⟩,h2⟩
theorem ZrE.nilS {d:List Value} {es:List Ent} (k:ZrE d es):ZrE (.slice none 0 0::d) (.val (.slice none 0 0)::es):=λS w=>by
 obtain⟨vs,h1,h2⟩:=k S w;exact⟨.slice none 0 0::vs, by rw[Dn,h1]; rfl,⟨rfl,rfl⟩,h2⟩
theorem Foc.cast {α:Type} {c:AK} {k k':Nat} {R:Rep α} {x:α} {upd:α->AK} (f:Foc c k' R x upd) (h:k'=k):Foc c k R x upd:=h ▸ f
theorem At.cast {es:List Ent} {k k':Nat} {e:Ent} (f:At es k' e) (h:k'=k):At es k e:=h ▸ f
theorem Bb.cast {es es':List Ent} {k k' n:Nat} {e:Ent} (f:Bb es k' n e es') (h:k'=k):Bb es k n e es':=h ▸ f
theorem Af.cast {es:List Ent} {n n':Nat} (f:Af es n') (h:n'=n):Af es n:=h ▸ f
end
end
section
section
variable {S:Blk} {w:World} {v:Value} {T:TypeId}
theorem XR {α:Type} {R:Rep α} {x:α} {es:List Ent} (O:Sp R x es) (h:(AK.box T [.rd R x]).holds S w v):(AK.box T es).holds S w v:=by
 rcases h with h | ⟨b,o,h1,h2,b',vs,rfl,rfl,h3⟩
 ·exact h.elim
 ·match vs,h3 with
  | [u],⟨⟨cs,M,U⟩,_⟩ =>
   subst U;obtain⟨vs',k3,k4⟩:=(O.2 _ w cs).1 M;exact .inr ⟨b,_,h1,h2,b',vs',rfl, by rw[k4]; simp[Bd,Rep.val_cells M],k3⟩
theorem XS {α:Type} {R:Rep α} {x:α} {es:List Ent} (O:Sp R x es) (h:(AK.box T es).holds S w v):(AK.box T [.rd R x]).holds S w v:=by
 rcases h with h | ⟨b,o,h1,h2,b',vs,rfl,rfl,h3⟩
 ·exact h.elim
 ·have M:=(O.2 _ w (Bd vs)).2 ⟨vs,h3,rfl⟩;exact .inr ⟨b,_,h1,h2,b',[R.val (Bd vs)],rfl, by rw[show Bd [R.val (Bd vs)]=Bd vs by rw[Dn,Rep.val_cells M]; simp[Bd]],⟨_,M,rfl⟩,trivial⟩
theorem XT {α:Type} (R:Rep α) {es es' pre post:List Ent} (h1:es=pre++.val (.slice none 0 0)::post) (h2:es'=pre++.rd (A3 R) []::post) (h:(AK.box T es).holds S w v):(AK.box T es').holds S w v:=by
 rcases h with h | ⟨b,o,M,O,b',vs,rfl,rfl,U⟩
 ·exact h.elim
 ·exact .inr ⟨b,_,M,O,b',vs,rfl,rfl,Bb.holds h1 h2 (λv hv=>Sn R hv) U⟩
end
section
variable {ρ:Type} {P:Program} {Γ:Ctx} {l l0:AQ} {res res0:Res} {ws:List Nat} {m:Option ρ} {os:List Oper} {N:ρ->Exit->Act->World->Prop} {fuel i:Nat} {listed:Array Bool} {a:Act} {w0 w:World}
theorem SH.recont (h:SH Γ l0 res0 ws l res a w0 w) (r:Nat) {v:Value} {c c':AK} (M:lr res r=some (v,c)) (hc:c'.holds (Shr Γ.H res w) w v):SH Γ l0 res0 ws l ((r,some (v,c'))::res) a w0 w:=by
 have O:=h.s.upd r (v:=v) (c:=c') (wr:=none) Ext.rfl'.gb (by simp) (λb hb=>.inl ⟨v,c,M,hb⟩) (λS' k'=>hc.mono k' (λb hb=>rfl));refine⟨h.s0,O.1,h.cw,h.st.tr O.2, λr2 v2 c2 U h1 h2 h3=>?_⟩;rw[BB] at h2
 split at h2
 ·rename_i e; subst e; cases h2; exact h.wsp _ v c U h1 M h3
 ·exact h.wsp r2 v2 c2 U h1 h2 h3
theorem So {α:Type} {R:Rep α} {T:TypeId} {l:List α} {i:Int} {x:α} (h:idx l i=some x):∀ S w v,¬ (AK.list R T l).nil S w v:=λS w v M=>by rw[M.2] at h; simp[idx] at h
theorem hSpl {α:Type} {R:Rep α} {x:α} {es:List Ent} {T:TypeId} {v:Value} (r:Nat) (M:lr res r=some (v,.box T [.rd R x])) (U:Sp R x es) (k:GH P os Γ l0 res0 ws l ((r,some (v,.box T es))::res) N fuel listed m):GH P os Γ l0 res0 ws l res N fuel listed m:=λa w0 w O=>k a w0 w (O.recont r M (XR U (O.s.conts r v _ M)))
theorem hJoi {α:Type} {R:Rep α} (x:α) {es:List Ent} {T:TypeId} {v:Value} (r:Nat) (M:lr res r=some (v,.box T es)) (U:Sp R x es) (k:GH P os Γ l0 res0 ws l ((r,some (v,.box T [.rd R x]))::res) N fuel listed m):GH P os Γ l0 res0 ws l res N fuel listed m:=λa w0 w O=>k a w0 w (O.recont r M (XS U (O.s.conts r v _ M)))
theorem DE {α:Type} (R:Rep α) {es:List Ent} (es':List Ent) {T:TypeId} {v:Value} (r:Nat) (pre post:List Ent) (M:lr res r=some (v,.box T es)) (h1:es=pre++.val (.slice none 0 0)::post) (h2:es'=pre++.rd (A3 R) []::post) (k:GH P os Γ l0 res0 ws l ((r,some (v,.box T es'))::res) N fuel listed m):GH P os Γ l0 res0 ws l res N fuel listed m:=λa w0 w O=>k a w0 w (O.recont r M (XT R h1 h2 (O.s.conts r v _ M)))
end
end
section
variable {ro:Option Nat}
def AK.glob {α:Type} (g:Nat) (R:Rep α) (x:α):AK where
 nil S w v:=v=.bool true/\(Ent.rp R x).holds S w (.pointer (some ⟨g,0,none⟩))
 nilm k h:=⟨h.1,(Ent.rp R x).mono k h.2⟩
 nilb h:=by rw[h.1]; rfl
 rel _ _ _ _:=False
 mono _ h:=h
section
variable {C:World->World->Prop} {P:Program} {Γ:Ctx} {l:AQ} {res:Res} {d:Tmp} {ty:TypeId} {pos:String} {after:Array Edge} {g:Option (Nat × Bool)}
theorem XU {α:Type} {gl:Nat} {R:Rep α} {x:α} {v:Value} {a:Act} {w:World} (M:Sta Γ l res a w) (r:Nat) (O:lr res r=some (v,.glob gl R x)):(Ent.rp R x).holds (Shr Γ.H res w) w (.pointer (some ⟨gl,0,none⟩)):=by
 rcases M.conts r v _ O with h | ⟨b,o,_,_,h⟩
 ·exact h.2
 ·exact h.elim
theorem ixG {α β:Type} {n:Nat} {R:Rep α} {b:Vector α n} {y:α} {k:IntKind} {f:β->Int} {j:β} {z':Operand} {T e:TypeId} {z v:Value} {by_ gl:Nat} (r:Nat) (hr:lr res r=some (v,.glob gl (Av n R) b)) (hj:opE l z'=some (.rd (Bm k f) j)) (M:B3 b (f j)=some y) (hT:P.underlying T=some (.array n e)) (hE:TI P e z R.sz by_) :
  Run C P Γ l res ⟨some d,.indexAddr T (.global gl) z',ty,pos,after,g⟩ (.rp R y):=λa w O=>by
 obtain⟨b',o,h1,h2⟩:=(AV.el M).ptr (XU O r hr);obtain⟨k1,k3⟩:=Lk M;have U:a.eval z'=.int k ((f j).toNat:Int):=by rw[Ca (O.vl hj)]; congr 1; omega
 have hx:a.eval (.global gl)=.pointer (some ⟨gl,0,none⟩):=rfl;exact⟨_, λw' _=>NW hT hE (hx.trans h1) U rfl k3 rfl,h2⟩
end
theorem Sq {ρ:Type} {P:Program} {A:Asn} {c:Code} {Q:ρ->Exit->Act->World->Prop}:G ro P A c Q none:=λa w ha r M=>by cases M
section
variable {ρ:Type} {P:Program} {Γ:Ctx} {l l0:AQ} {res res0:Res} {ws:List Nat} {m m1 m2:Option ρ} {os:List Oper} {N:ρ->Exit->Act->World->Prop}
 {d:Tmp} {op:Op} {ty:TypeId} {pos:String} {after:Array Edge} {g:Option (Nat × Bool)} {fuel i:Nat} {listed listed':Array Bool} {rest:List Oper}
theorem XV {σ:Type} {f:FuncId} {F:Func} {b:Code} {args:List Operand} {ats:Array TypeId} {x:Operand} {cap:List Value} {pin pa pc:List Ent} {rin:Res} {m1:Option σ} {q:σ->(Nat->Value)->CL} {kk:σ->Option ρ} (i:Nat) (ns:List Nat) (mp:List (Nat × Nat)) (e0:σ->(Nat->Value)->Ent)
  (hi:os.toArray[i]? = some ⟨some d,.call ⟨.value x,args.toArray,ats⟩,ty,pos,after,g⟩) (hrd:Region.ready .any os.toArray listed=[i]) (hl:listed.setIfInBounds i true=listed') (hg:Grd os l ⟨some d,.call ⟨.value x,args.toArray,ats⟩,ty,pos,after,g⟩ true) (hn:Nat.blt d Γ.n=true)
  (hF:P.funcs[f]? = some F) (hB:F.body=some b) (hnm:(F.name == "runtime.NumGoroutine")=false) (hx:opE l x=some (.val (.func (.func f) #[] cap.toArray))) (hS:Aj P f pin rin m1 q) (hA:Cm l args pa) (hC:CapQ res cap pc) (hpp:pin=pa++pc) (hr:BE res rin ns) (hw:ns.all (λn=>ws.contains n)=true)
  (he0:∀ s nv v S w S' w',(CC (q s nv).ret).holds S w v->(e0 s nv).holds S' w' v)
  (k:∀ s nv,GH P os Γ ((d,e0 s nv)::l0) res0 ws ((d,CC (q s nv).ret)::l) (aft ns mp (q s nv).res res) N fuel listed' (kk s)) :
  GH P os Γ l0 res0 ws l res N (fuel+1) listed (m1 >>= kk):=λa w0 w ha r hm=>by
 subst hpp
 cases hm1:m1 with
 | none=>rw[hm1] at hm; cases hm
 | some s =>
  rw[hm1] at hm;refine wpAnyH_all hrd (by simp) (λj hj=>?_);simp only[List.mem_singleton] at hj;subst hj;have hgw:=hg.wanted ha.s;unfold wpOp;simp only[hi,hgw,if_true];refine .inl ?_;have hrun:(execOp a.eval ⟨some d,.call ⟨.value x,args.toArray,ats⟩,ty,pos,after,g⟩).run P w=.ok (.enter f (args.map a.eval++cap).toArray) w:=by
   simp[execOp,resolve,(ha.s.vl hx).1,Deferred.ofValue,invoke,Gm hF hB hnm,<- Array.append_assoc]
  unfold Oper.wp; rw[hrun];simp only[Oper.upon];have hH:∀ b,(λb=>Γ.H b\/∃ r v c,lr res r=some (v,c)/\ns.contains r=false/\AM v=some b) b↔Γ.H b\/∃ r v c,lr res r=some (v,c)/\ns.contains r=false/\AM v=some b:=λ_=>Iff.rfl;obtain⟨h1,h2⟩:=Fr.of ha.s hr hH;refine(hS s hm1 _ _ w ((Cm.get ha.s h2 hA).mk (CapQ.get ha.s hC)) h1).mono λe w' hR=>?_;obtain⟨nv,vs,rfl,hp⟩:=hR;obtain⟨⟨h3,h5⟩,h4,h6⟩:=ha.s.called (mp:=mp) hr hH hp
  have hlent:∀ b,Bof rin b->(∃ r0 v0 c0,ws.contains r0=true/\lr res0 r0=some (v0,c0)/\AM v0=some b)\/w0.heap.size<=b:=λb ⟨r',v,c,q1,q2⟩=>by
   obtain⟨n,q3,q4⟩:=hr.get q1;have hn':ws.contains n=true:=by simpa using (List.all_eq_true.1 hw) n q3
   exact ha.wsp n v c b hn' q4 q2
  have hcw:CW res0 ws w0 w':=by
   refine C5.tr ha.cw hp.keep (λb hb=>⟨Nat.lt_of_lt_of_le hb.1 ha.cw.size, λhB=>?_⟩);rcases hlent b hB with ⟨r0,v0,c0,q1,q2,q3⟩ | q1
   ·exact hb.2 r0 v0 c0 q1 q2 q3
   ·have:=hb.1; omega
  refine⟨hcw,?_⟩;rw[hl];refine k s nv _ w0 w' (SH.put ⟨ha.s0,h3,hcw,ha.st.tr h5, λr2 v2 c2 b2 k1 k2 k3=>?_⟩ hn (he0 s nv _ _ _ _ _ h4) h4) r hm;rcases FQ k2 with ⟨k',q1,q2⟩ | ⟨q1,q2⟩
  ·rcases hp.own k' v2 c2 q2 b2 k3 with q3 | q3
   ·exact .inr (Nat.le_trans ha.cw.size q3)
   ·exact hlent b2 q3
  ·exact ha.wsp r2 v2 c2 b2 k1 q2 k3
theorem O2 {σ:Type} {f:FuncId} {F:Func} {b:Code} {args:List Operand} {ats:Array TypeId} {x:Operand} {cap:List Value} {pin pa pc:List Ent} {rin:Res} {m1:Option σ} {q:σ->(Nat->Value)->CL} {kk:σ->Option ρ} (i:Nat) (ns:List Nat) (mp:List (Nat × Nat))
  (hi:os.toArray[i]? = some ⟨some d,.call ⟨.value x,args.toArray,ats⟩,ty,pos,after,g⟩) (hrd:Region.ready .any os.toArray listed=[i]) (hl:listed.setIfInBounds i true=listed') (hg:Grd os l ⟨some d,.call ⟨.value x,args.toArray,ats⟩,ty,pos,after,g⟩ true) (hn:Nat.blt d Γ.n=true)
  (hF:P.funcs[f]? = some F) (hB:F.body=some b) (hnm:(F.name == "runtime.NumGoroutine")=false) (hx:opE l x=some (.val (.func (.func f) #[] cap.toArray))) (hS:Aj P f pin rin m1 q) (hA:Cm l args pa) (hC:CapQ res cap pc) (hpp:pin=pa++pc) (hr:BE res rin ns) (hw:ns.all (λn=>ws.contains n)=true)
  (hfl:∀ s nv,(CC (q s nv).ret).flat) (k:∀ s nv,GH P os Γ ((d,CC (q s nv).ret)::l0) res0 ws ((d,CC (q s nv).ret)::l) (aft ns mp (q s nv).res res) N fuel listed' (kk s)) :
  GH P os Γ l0 res0 ws l res N (fuel+1) listed (m1 >>= kk):=XV i ns mp (λs nv=>CC (q s nv).ret) hi hrd hl hg hn hF hB hnm hx hS hA hC hpp hr hw (λs nv v S w S' w' h=>hfl s nv S w S' w' v h) k
end
end
section
open Go Go.RowKit Go.ChangeShapes
section
variable {P:Program} {w:World} {H:Type} {enc:TypeId × Value->H}
theorem XW {base:Nat} {spare:Nat->Bool} {held:Bool} {fuel:Nat} {T e:TypeId} {n:Nat} {k:IntKind} {cs:List Value} {ds:List Int} {p:List MemPlace} (hT:P.underlying T=some (.array n e)) (he:P.underlying e=some (.int k)) (hc:P.cellsOf e=1) (hl:P.cellsOf T=n)
  (h:DataW.trod enc P w base spare held fuel T cs=some (.agg (ds.map λi=>.lit (.int k i)),p)):cs=ds.map (λi=>Value.int k i):=by
 obtain⟨xs,m,-,M,O,U,hi⟩:=DataW.trod_array hT h;simp only[Prod.mk.injEq,DataW.agg.injEq] at M;have M:=M.1;have hlen2:ds.length=n:=by have:=congrArg List.length M; simpa [U] using this
 rw[hc] at hi
 apply List.ext_getElem
 ·rw[O,hl]; simp[hlen2]
 ·intro i h1 h2;have a1:i<n:=by rw[O,hl] at h1; exact h1
  have h3:=hi i a1;rw[List.getElem?_eq_getElem (by omega)] at h3;obtain⟨v,e1,e2,-⟩:=DataW.trod_int he h3;have e3:(cs.drop (i * 1)).take 1=[cs[i]]:=by rw[Nat.mul_one,List.drop_eq_getElem_cons h1]; rfl
  rw[e3] at e1;have e4:cs[i]=.int k v:=by simpa using e1
  have e5:(xs.map (·.1))[i]'(by simp; omega)=.lit (.int k v):=by simp[e2]
  have e6:(xs.map (·.1))[i]'(by simp; omega)=.lit (.int k (ds[i]'(by omega))):=by simp[<- M]
  rw[e5] at e6;have e7:v=ds[i]'(by omega):=by simpa using e6
  rw[e4,e7]; simp
theorem O3 {α:Type} {k:IntKind} {f:α->Int} {S:Blk}:∀ l:List α,B5 (Bm k f) S w (l.map λx=>Value.int k (f x)) l
 | []=>rfl
 | x::l=>⟨[.int k (f x)],_,rfl,rfl,O3 l⟩
theorem XX {nm:String} {d:DataW Unit} {g:Nat} {T e:TypeId} {n:Nat} {k:IntKind} {α:Type} {f:α->Int} {x:Vector α n} (h:laidMetH P [(nm,d)] w) (hp:([(nm,d)].all λx=>x.2.handleName?.isNone)=true) (hg:P.globalNamed nm=some g) (ht:(P.globals[g]?).map (·.type)=some T)
  (hT:P.underlying T=some (.array n e)) (he:P.underlying e=some (.int k)) (hc:P.cellsOf e=1) (hl:P.cellsOf T=n) (hn:0<n) (hd:d=.agg ((x.toList.map f).map λi=>.lit (.int k i))):(Ent.rp (Av n (Bm k f)) x).holds (En w) w (.pointer (some ⟨g,0,none⟩)):=by
 rw[MakeChecks.laidMetH_plain _ _ _ hp] at h;obtain⟨ps,⟨g0,t0,M,f0,p0,q0,a2,a6,a7,U,_,_⟩,_,_⟩:=h;obtain rfl:=Option.some.inj (hg.symm.trans a2);obtain rfl:=Option.some.inj (ht.symm.trans a6);rw[hd] at U;have a1:=XW hT he hc hl U;have O:∀ (j:Nat) (u:Value),M.toList[j]? = some u->w.cell? ⟨g,0+j,none⟩=some u:=λj u hu=>by
  rw[Nat.zero_add,World.var?_cell hg a7 j]; simpa using hu
 refine⟨g,0,M.toList,rfl,?_,?_,O⟩
 ·have hz:M.toList.length=n:=by rw[a1]; simp
  have h0:M.toList[0]? = some (M.toList[0]'(by omega)):=List.getElem?_eq_getElem (by omega);exact⟨World.block_lt_of_cell? w ⟨g,0+0,none⟩ (O 0 _ h0), λr v c h=>by simp[lr,lk] at h, λh=>h⟩
 ·show B5 (Bm k f) (En w) w M.toList x.toList;rw[a1,List.map_map];exact O3 x.toList
theorem Aj.lawG {f:FuncId} {pin:List Ent} {rin:Res} {m:Option Bool} {vs:List Value} {W:World} (hS:Aj P f pin rin m (λr nv=>⟨[.rd Ai r],rin⟩)) (hm:m=some true) (hv:BI (En W) W pin vs)
  (hb:∀ r v c,lr rin r=some (v,c)->AM v=none) (hc:∀ r v c,lr rin r=some (v,c)->c.holds (En W) W v) :
  Calls P f vs.toArray W (λe W'=>e=.returned (.bool true)/\Ext W W'):=by
 have U:∀ b,¬ Bof rin b:=λb ⟨r,v,c,h,h2⟩=>by rw[hb r v c h] at h2; cases h2
 have O:Bj (En W) (Shr (λ_=>False) rin W) W W:=λb a1=>⟨⟨a1.1, λr v c h e=>(by rw[hb r v c h] at e; cases e), λh=>h⟩,rfl⟩
 refine(hS true hm (λ_=>False) vs W (hv.mono O) ⟨λr v c h=>(hc r v c h).mono O (λ_ _=>rfl), λr v c r' v' c' h _ _ b h2=>(by rw[hb r v c h] at h2; cases h2), λb h=>h.elim⟩).mono λe W' h=>?_
 obtain⟨nv,us,rfl,M⟩:=h
 match us,M.ret with
 | [u],⟨h1,_⟩ =>
  obtain⟨cs,h2,h3⟩:=h1;have h2:cs=[.bool true]:=h2;subst h2;refine⟨?_,M.keep.os,M.keep.tape,M.keep.output,M.keep.size, λb hb=>M.keep.block b ⟨hb,U b⟩⟩;show Ending.returned u=_;rw[h3]; rfl
end
end
section
section
variable {P:Program}
def EqR {α:Type} [DecidableEq α] (P:Program) (T:TypeId) (R:Rep α) (k:Nat):Prop :=
 ∀ (d:Nat),k<=d->∀ (S:Blk) (w:World) (c c':List Value) (x y:α),R.rel S w c x->R.rel S w c' y->∀ w',(Op.equalIn d T (R.val c) (R.val c')).run P w'=.ok (decide (x=y)) w'
theorem EqR.num {α:Type} [DecidableEq α] {T:TypeId} {k:IntKind} {f:α->Int} (hT:P.underlying T=some (.int k)) (M:∀ x y,f x=f y->x=y):EqR P T (Bm k f) 1:=λd hd S w c c' x y h h' w'=>by
 have h:c=[.int k (f x)]:=h;have h':c'=[.int k (f y)]:=h';subst h; subst h';obtain⟨n,rfl⟩:∃ n,d=n+1:=⟨d - 1, by omega⟩
 show (Op.equalIn (n+1) T (.int k (f x)) (.int k (f y))).run P w'=_;rw[Go.run_equalIn_int w' n T k k _ _ hT]
 congr 1
 by_cases e:x=y
 ·subst e; simp
 ·rw[decide_eq_false e]; exact beq_false_of_ne (λh=>e (M _ _ h))
theorem EqR.i64 {T:TypeId} (hT:P.underlying T=some (.int .i64)):EqR P T A2 1:=EqR.num hT (λ_ _ h=>h)
theorem EqR.u8 {T:TypeId} (hT:P.underlying T=some (.int .u8)):EqR P T u8R 1:=EqR.num hT (λ_ _ h=>UInt8.toNat_inj.1 (Int.ofNat.inj h))
theorem EqR.u32 {T:TypeId} (hT:P.underlying T=some (.int .u32)):EqR P T Aa 1:=EqR.num hT (λ_ _ h=>UInt32.toNat_inj.1 (Int.ofNat.inj h))
theorem EqR.u64 {T:TypeId} (hT:P.underlying T=some (.int .u64)):EqR P T Ao 1:=EqR.num hT (λ_ _ h=>UInt64.toNat_inj.1 (Int.ofNat.inj h))
theorem EqR.str {T:TypeId} (hT:P.underlying T=some .string):EqR P T CB 1:=λd hd S w c c' x y h h' w'=>by
 obtain⟨s,rfl,rfl⟩:=h;obtain⟨t,rfl,rfl⟩:=h';obtain⟨n,rfl⟩:∃ n,d=n+1:=⟨d - 1, by omega⟩
 show (Op.equalIn (n+1) T (.string s) (.string t)).run P w'=_;rw[Go.run_equalIn_string w' n T _ _ hT,Lj,Lj]
 congr 1
 rw[Bool.eq_iff_iff]; simp
theorem Hb {α:Type} {R:Rep α} {S:Blk} {w:World} {T:TypeId} {x:α} {a c d:List Value} {xs:Array Value} (hx:xs.toList=a++c++d) (hr:R.rel S w c x) (hT:BJ P T R.agg R.sz) (w':World):(part T xs a.length).run P w'=.ok (R.val c) w':=by
 have M:=R.len hr;unfold part;unfold BJ at hT;unfold Rep.val
 cases U:R.agg with
 | true =>
  rw[U,if_pos rfl] at hT;obtain⟨⟨ds,h1,h2⟩,z,by_,h3⟩:=hT;have O:(isAgg T).run P w'=.ok true w':=by
   cases ds <;> simp only at h2 <;> simp[isAgg,run_underlying h1]
  have he:xs.extract a.length (a.length+R.sz)=c.toArray:=by
   apply Array.toList_inj.1
   rw[Array.toList_extract,hx,List.extract_eq_take_drop,List.append_assoc,List.drop_left',<- M]
   ·simp
   ·rfl
  simp only[Sem.run_bind,O,Result.andThen,if_true,D9 h3,Sem.run_pure,he];rfl
 | false =>
  rw[U,if_neg (by simp)] at hT;obtain⟨ds,h1,h2⟩:=hT;have O:(isAgg T).run P w'=.ok false w':=by
   cases ds <;> simp only at h2 <;> simp[isAgg,run_underlying h1]
  rw[R.scal U] at M
  match c,M with
  | [u],_ =>
   have he:xs[a.length]? = some u:=by rw[<- Array.getElem?_toList,hx]; simp
   simp only[Sem.run_bind,O,Result.andThen,Bool.false_eq_true,if_false,he,Sem.run_pure];rfl
theorem EqR.items {α:Type} [DecidableEq α] {R:Rep α} {e:TypeId} {k d:Nat} (hE:EqR P e R k) (M:k<=d) (hT:BJ P e R.agg R.sz) {S:Blk} {w:World} {xs ys:Array Value} {l m:List α} (O:B5 R S w xs.toList l) (U:B5 R S w ys.toList m) (w':World):∀ (is:List Nat),(∀ i∈is,i<l.length/\i<m.length) ->
  (Op.eqItems d e R.sz xs ys is).run P w'=.ok (is.all λi=>decide (l[i]? = m[i]?)) w'
 | [],_=>rfl
 | i::is,h=>by
  obtain⟨h1,h2⟩:=h i (by simp);obtain⟨a,c,dd,e1,e2,e3,-⟩:=O.split (List.getElem?_eq_getElem h1);obtain⟨a',c',dd',f1,f2,f3,-⟩:=U.split (List.getElem?_eq_getElem h2);have ih:=EqR.items hE M hT O U w' is (λj hj=>h j (by simp[hj]));have p1:=Hb (P:=P) e1 e3 hT w';have p2:=Hb (P:=P) f1 f3 hT w';rw[e2] at p1;rw[f2] at p2;have p3:=hE d M S w c c' _ _ e3 f3 w';simp only[Op.eqItems,Sem.run_bind,p1,p2,p3,Result.andThen]
  rw[List.all_cons,List.getElem?_eq_getElem h1,List.getElem?_eq_getElem h2];by_cases hc:l[i]=m[i]
  ·simp[hc,ih]
  ·simp[hc,Sem.run_pure]
theorem EqR.arr {α:Type} [DecidableEq α] {R:Rep α} {T e:TypeId} {n k:Nat} {z:Value} {by_:Nat} (hE:EqR P e R k) (hT:P.underlying T=some (.array n e)) (hI:TI P e z R.sz by_) (hTy:BJ P e R.agg R.sz):EqR P T (Av n R) (k+1):=λd hd S w c c' x y h h' w'=>by
 obtain⟨d',rfl⟩:∃ d',d=d'+1:=⟨d - 1, by omega⟩
 obtain⟨i,hi,-,O,-⟩:=hI;have U:P.cellsOf e=R.sz:=by unfold Program.cellsOf; rw[hi]; simpa using O
 show (Op.equalIn (d'+1) T (.agg c.toArray) (.agg c'.toArray)).run P w'=_;rw[Go.run_equalIn_array w' d' c.toArray c'.toArray hT hi,U,EqR.items hE (by omega) hTy (l:=x.toList) (m:=y.toList) h h' w' (List.range n) (λi hi=>by simpa using hi)]
 congr 1
 by_cases M:x=y
 ·subst M; simp
 ·rw[decide_eq_false M];refine Bool.eq_false_iff.2 λh2=>M ?_
  apply Vector.toList_inj.1
  apply List.ext_getElem?
  intro i;by_cases hi:i<n
  ·have:=List.all_eq_true.1 h2 i (by simpa using hi)
   exact of_decide_eq_true this
  ·rw[List.getElem?_eq_none (by simp; omega),List.getElem?_eq_none (by simp; omega)]
def EqF {γ:Type} [DecidableEq γ] (P:Program) (fs:List Field) (o:Nat) (R:Rep γ) (k:Nat):Prop :=
 ∀ (d:Nat),k<=d->∀ (S:Blk) (w:World) (xs ys:Array Value) (x y:γ) (a a':List Value),xs.toList=a++xs.toList.drop o->ys.toList=a'++ys.toList.drop o->a.length=o->a'.length=o->R.rel S w (xs.toList.drop o) x->R.rel S w (ys.toList.drop o) y->∀ w',(Op.eqFields d xs ys fs).run P w'=.ok (decide (x=y)) w'
theorem EqF.nil {o:Nat}:EqF P [] o E3 0:=λd hd S w xs ys x y a a' _ _ _ _ h h' w'=>by simp[Op.eqFields,Sem.run_pure]
theorem EqF.cons {α β:Type} [DecidableEq α] [DecidableEq β] {R:Rep α} {R2:Rep β} {f:Field} {fs:List Field} {o k k2:Nat} (h1:EqR P f.type R k) (hT:BJ P f.type R.agg R.sz) (ho:f.offset=o) (hn:(f.name == "_")=false) (h2:EqF P fs (o+R.sz) R2 k2):EqF P (f::fs) o (C3 R R2) (max k k2):=λd hd S w xs ys x y a a' hx hy ha ha' h h' w'=>by
 obtain⟨c,r,e1,e2,e3⟩:=h;obtain⟨c',r',f1,f2,f3⟩:=h';have hlc:=R.len e2;have hlc':=R.len f2;have hdx:xs.toList.drop (o+R.sz)=r:=by rw[<- List.drop_drop,e1,<- hlc]; simp
 have hdy:ys.toList.drop (o+R.sz)=r':=by rw[<- List.drop_drop,f1,<- hlc']; simp
 have p1:=Hb (P:=P) (xs:=xs) (a:=a) (c:=c) (d:=r) (by rw[List.append_assoc,<- e1]; exact hx) e2 hT w';have p2:=Hb (P:=P) (xs:=ys) (a:=a') (c:=c') (d:=r') (by rw[List.append_assoc,<- f1]; exact hy) f2 hT w';rw[ha] at p1;rw[ha'] at p2;have p3:=h1 d (by omega) S w c c' x.1 y.1 e2 f2 w';have ih:=h2 d (by omega) S w xs ys x.2 y.2 (a++c) (a'++c') (by rw[hdx,List.append_assoc,<- e1]; exact hx) (by rw[hdy,List.append_assoc,<- f1]; exact hy) (by simp[ha,hlc]) (by simp[ha',hlc']) (by rw[hdx]; exact e3) (by rw[hdy]; exact f3) w'
 have hne:f.name ≠ "_" := by simpa using hn
 simp only[Op.eqFields,if_pos hne,Sem.run_bind,ho,p1,p2,p3,Result.andThen];by_cases hc:x.1=y.1
 ·simp only[hc,decide_true,Bool.not_true,Bool.false_eq_true,if_false,ih]
  congr 1
  rw[decide_eq_decide];exact⟨λh=>Prod.ext hc h, λh=>by rw[h]⟩
 ·have hxy:x≠y:=λh=>hc (by rw[h]);simp[hc,hxy,Sem.run_pure]
theorem EqR.struct {β γ:Type} [DecidableEq β] [DecidableEq γ] {R:Rep γ} {g:β->γ} {T:TypeId} {fs:Array Field} {k:Nat} (hF:EqF P fs.toList 0 R k) (hT:P.underlying T=some (.struct fs)) (U:P.stoodInHeld T=false) (hg:∀ x y,g x=g y->x=y) (M:R.agg=true):EqR P T (DK g R) (k+1):=λd hd S w c c' x y h h' w'=>by
 obtain⟨d',rfl⟩:∃ d',d=d'+1:=⟨d - 1, by omega⟩
 have O:P.fieldsOf T=fs:=by simp[Program.fieldsOf,hT]
 have e1:(DK g R).val c=.agg c.toArray:=by simp[Rep.val,DK,M]
 have e2:(DK g R).val c'=.agg c'.toArray:=by simp[Rep.val,DK,M]
 rw[e1,e2,Go.run_equalIn_struct w' d' T _ _ (by rw[O]; exact hT) U,O];rw[hF d' (by omega) S w c.toArray c'.toArray (g x) (g y) [] [] (by simp) (by simp) rfl rfl (by simpa using (show R.rel S w c (g x) from h)) (by simpa using (show R.rel S w c' (g y) from h')) w']
 congr 1
 rw[decide_eq_decide];exact⟨λh=>hg _ _ h, λh=>by rw[h]⟩
end
section
variable {C:World->World->Prop} {P:Program} {Γ:Ctx} {l:AQ} {res:Res} {d:Tmp} {ty:TypeId} {pos:String} {after:Array Edge} {g:Option (Nat × Bool)}
theorem eqA {α:Type} [DecidableEq α] {R:Rep α} {T T':TypeId} {x y:Operand} {a b:α} {k:Nat} (U:opE l x=some (.rd R a)) (hy:opE l y=some (.rd R b)) (hE:EqR P T R k) (hk:Nat.ble k 10000=true) (M:R.agg=true) (hg:P.eqGuardType P.depth T=false):Run C P Γ l res ⟨some d,.binOp .eql T x y T',ty,pos,after,g⟩ (.rd Ai (decide (a=b))):=λf w O=>by
 obtain⟨c,h1,h2⟩:=O.vl U;obtain⟨c',h3,h4⟩:=O.vl hy;have e1:f.eval x=.agg c.toArray:=by rw[h2]; simp[Rep.val,M]
 have e2:f.eval y=.agg c'.toArray:=by rw[h4]; simp[Rep.val,M]
 refine⟨_, λw' _=>Je (v:=.bool (decide (a=b))) ?_ ?_,FM⟩
 ·rw[e1,e2]; exact Go.run_eqGuard_agg w' .eql T x y _ _ hg
 ·have:=hE 10000 (Nat.le_of_ble_eq_true hk) _ w c c' a b h1 h3 w'
  rw[show R.val c=.agg c.toArray by simp[Rep.val,M], show R.val c'=.agg c'.toArray by simp[Rep.val,M]] at this;rw[e1,e2,Go.run_eql_struct,this]; rfl
theorem neA {α:Type} [DecidableEq α] {R:Rep α} {T T':TypeId} {x y:Operand} {a b:α} {k:Nat} (U:opE l x=some (.rd R a)) (hy:opE l y=some (.rd R b)) (hE:EqR P T R k) (hk:Nat.ble k 10000=true) (M:R.agg=true) (hg:P.eqGuardType P.depth T=false):Run C P Γ l res ⟨some d,.binOp .neq T x y T',ty,pos,after,g⟩ (.rd Ai (!decide (a=b))):=λf w O=>by
 obtain⟨c,h1,h2⟩:=O.vl U;obtain⟨c',h3,h4⟩:=O.vl hy;have e1:f.eval x=.agg c.toArray:=by rw[h2]; simp[Rep.val,M]
 have e2:f.eval y=.agg c'.toArray:=by rw[h4]; simp[Rep.val,M]
 refine⟨_, λw' _=>Je (v:=.bool (!decide (a=b))) ?_ ?_,FM⟩
 ·rw[e1,e2]; exact Go.run_eqGuard_agg w' .neq T x y _ _ hg
 ·have:=hE 10000 (Nat.le_of_ble_eq_true hk) _ w c c' a b h1 h3 w'
  rw[show R.val c=.agg c.toArray by simp[Rep.val,M], show R.val c'=.agg c'.toArray by simp[Rep.val,M]] at this;rw[e1,e2,Go.run_neq_struct,this]; rfl
end
end
section
section
variable {κ β:Type} [DecidableEq κ]
def C7:List (κ × β)->κ->Option β
 | [],_=>none
 | p::m,k=>if k=p.1 then some p.2 else C7 m k
def Du:List (κ × β)->κ->β->List (κ × β)
 | [],k,v=>[(k,v)]
 | p::m,k,v=>if k=p.1 then (p.1,v)::m else p::Du m k v
def mdel:List (κ × β)->κ->List (κ × β)
 | [],_=>[]
 | p::m,k=>if k=p.1 then m else p::mdel m k
end
structure Dv {κ:Type} [DecidableEq κ] (P:Program) (T:TypeId) (R:Rep κ) (k:Nat):Prop where
 one:∀ {S w S' w' cs cs' x},R.rel S w cs x->R.rel S' w' cs' x->cs=cs'
 chk:∀ {S w cs x},R.rel S w cs x->∀ d,k<=d->∀ e w',(Instr.checkKey e d T (R.val cs)).run P w'=.ok () w'
 bits:∀ {S w cs x},R.rel S w cs x->∀ d,k<=d->Instr.sameBits d (R.val cs) (R.val cs)=true
 eq:EqR P T R k
 deep:Nat.ble k 10000=true
 find:∃ de,P.underlying T=some de/\((∀ v v',Instr.sameNow de v v'=none)\/∀ {S w cs cs' x y},R.rel S w cs x->R.rel S w cs' y->Instr.sameNow de (R.val cs) (R.val cs')=some (decide (x=y)))
section
variable {P:Program}
theorem Dv.num {α:Type} [DecidableEq α] {T:TypeId} {k:IntKind} {f:α->Int} (hT:P.underlying T=some (.int k)) (M:∀ x y,f x=f y->x=y):Dv P T (Bm k f) 1 where
 one h h':=by
  have h:_=[Value.int k _]:=h;have h':_=[Value.int k _]:=h';rw[h,h']
 chk h d hd e w':=by
  have h:_=[Value.int k _]:=h;subst h;obtain⟨n,rfl⟩:∃ n,d=n+1:=⟨d - 1, by omega⟩
  show (Instr.checkKey e (n+1) T (.int k _)).run P w'=_;simp[Instr.checkKey,run_underlying hT]
 bits h d hd:=by
  have h:_=[Value.int k _]:=h;subst h;show Instr.sameBits d (.int k _) (.int k _)=true
  cases d <;> simp[Instr.sameBits]
 eq:=EqR.num hT M
 deep:=rfl
 find:=⟨_,hT,.inr λ{S w cs cs' x y} h h'=>by
  have h:_=[Value.int k _]:=h;have h':_=[Value.int k _]:=h';subst h; subst h';show Instr.sameNow (.int k) (.int k (f x)) (.int k (f y))=_;simp only[Instr.sameNow,if_true,Option.some.injEq];by_cases e:x=y
  ·subst e; simp
  ·rw[decide_eq_false e]; exact beq_false_of_ne (λh=>e (M _ _ h))⟩
theorem Dv.u8 {T:TypeId} (hT:P.underlying T=some (.int .u8)):Dv P T u8R 1:=Dv.num hT (λ_ _ h=>UInt8.toNat_inj.1 (Int.ofNat.inj h))
theorem B5.one' {α:Type} {R:Rep α} (h1:∀ {S w S' w' cs cs' x},R.rel S w cs x->R.rel S' w' cs' x->cs=cs') {S w S' w'}:∀ {l:List α} {cs cs'},B5 R S w cs l->B5 R S' w' cs' l->cs=cs'
 | [],cs,cs',h,h'=>by simp only[B5] at h h'; rw[h,h']
 | x::l,cs,cs',h,h'=>by
  obtain⟨c,d,rfl,h2,h3⟩:=h;obtain⟨c',d',rfl,M,O⟩:=h';rw[h1 h2 M,B5.one' h1 h3 O]
theorem B5.bits {α:Type} [DecidableEq α] {R:Rep α} {T:TypeId} (hK:Dv P T R 1) (O:R.agg=false) {S w}:∀ {l:List α} {cs},B5 R S w cs l->∀ u∈cs,∀ d,1<=d->Instr.sameBits d u u=true
 | [],cs,h,u,M=>by simp only[B5] at h; subst h; simp at M
 | x::l,cs,h,u,M=>by
  obtain⟨c,d,rfl,h2,h3⟩:=h;rcases List.mem_append.1 M with M | M
  ·have hl:=R.len h2;rw[R.scal O] at hl
   match c,hl with
   | [v],_ =>
    simp only[List.mem_singleton] at M;subst M;intro d hd
    have:=hK.bits h2 d hd
    simpa [Rep.val,O] using this
  ·exact B5.bits hK O h3 u M
theorem Dv.arr {α:Type} [DecidableEq α] {R:Rep α} {T e:TypeId} {n:Nat} {z:Value} {by_:Nat} (hK:Dv P e R 1) (hT:P.underlying T=some (.array n e)) (hI:TI P e z R.sz by_) (hTy:BJ P e R.agg R.sz) (O:R.agg=false):Dv P T (Av n R) 2 where
 one h h':=B5.one' hK.one h h'
 chk {S w cs x} h d hd em w':=by
  obtain⟨d',rfl⟩:∃ d',d=d'+1:=⟨d - 1, by omega⟩
  show (Instr.checkKey em (d'+1) T (.agg cs.toArray)).run P w'=_;rw[Instr.checkKey];simp only[Sem.run_bind,run_underlying hT,Result.andThen_ok];simp only[Std.Legacy.Range.forIn_eq_forIn_range',Std.Legacy.Range.size,Nat.sub_zero,Nat.add_one_sub_one,Nat.div_one];have each:∀ i∈List.range' 0 n,i<x.toList.length:=λi hi=>by simpa using hi
  generalize List.range' 0 n=is at each
  induction is with
  | nil=>simp
  | cons j is M =>
   have hj:=each j (by simp);obtain⟨a,c,dd,e1,e2,e3,-⟩:=B5.split h (List.getElem?_eq_getElem hj);have U:=Hb (P:=P) (xs:=cs.toArray) (by simpa using e1) e3 hTy w';rw[e2] at U;have p2:=hK.chk e3 d' (by omega) em w';simp only[List.forIn_cons,Sem.run_bind,D9 hI,Result.andThen_ok,U,p2,Sem.run_pure];exact M (λy hy=>each y (by simp[hy]))
 bits {S w cs x} h d hd:=by
  obtain⟨d',rfl⟩:∃ d',d=d'+1:=⟨d - 1, by omega⟩
  show Instr.sameBits (d'+1) (.agg cs.toArray) (.agg cs.toArray)=true;have hb:=B5.bits hK O h;simp only[Instr.sameBits,beq_self_eq_true,Bool.true_and,List.all_eq_true];intro p hp;obtain⟨u,v⟩:=p;have a1:u=v/\u∈cs:=by
   have:∀ (l:List Value) (u v:Value),(u,v)∈l.zip l->u=v/\u∈l:=by
    intro l
    induction l with
    | nil=>intro u v h; simp at h
    | cons y l M =>
     intro u v h;simp only[List.zip_cons_cons,List.mem_cons,Prod.mk.injEq] at h;rcases h with ⟨rfl,rfl⟩ | h
     ·simp
     ·obtain⟨h1,h2⟩:=M u v h;exact⟨h1, by simp[h2]⟩
   exact this _ _ _ (by simpa using hp)
  obtain⟨rfl,hu⟩:=a1;exact hb u hu d' (by omega)
 eq:=EqR.arr hK.eq hT hI hTy
 deep:=rfl
 find:=⟨_,hT,.inl λv v'=>by cases v <;> cases v' <;> rfl⟩
end
def Da {κ β:Type} (RK:Rep κ) (RV:Rep β) (S:Blk) (w:World):List MapEntry->List (κ × β)->Prop
 | [],[]=>True
 | e::es,p::l=>(RK.vrel S w e.key p.1/\RV.vrel S w e.val p.2)/\Da RK RV S w es l
 | _,_=>False
theorem Da.mono {κ β:Type} {RK:Rep κ} {RV:Rep β} {S S' w w'} (k:Bj S S' w w'):∀ {es l},Da RK RV S w es l->Da RK RV S' w' es l
 | [],[],_=>trivial
 | e::es,p::l,h=>⟨⟨h.1.1.mono k,h.1.2.mono k⟩,Da.mono k h.2⟩
 | [],_::_,h=>h.elim
 | _::_,[],h=>h.elim
theorem Da.push {κ β:Type} {RK:Rep κ} {RV:Rep β} {S w}:∀ {es:List MapEntry} {m:List (κ × β)} {e:MapEntry} {k:κ} {x:β},Da RK RV S w es m->RK.vrel S w e.key k->RV.vrel S w e.val x->Da RK RV S w (es++[e]) (m++[(k,x)])
 | [],[],e,k,x,_,h1,h2=>⟨⟨h1,h2⟩,trivial⟩
 | e'::es,p::m,e,k,x,h,h1,h2=>⟨h.1,Da.push h.2 h1 h2⟩
 | [],_::_,_,_,_,h,_,_=>h.elim
 | _::_,[],_,_,_,h,_,_=>h.elim
def Born (es:List MapEntry) (clock:Nat):Prop:=(es.map (·.born)).Nodup/\∀ e∈es,e.born<clock
theorem Born.push {es:List MapEntry} {c:Nat} {e:MapEntry} (h:Born es c) (he:e.born=c):Born (es++[e]) (c+1):=by
 refine⟨?_, λx M=>?_⟩
 ·rw[List.map_append,List.nodup_append];refine⟨h.1, by simp, λa O b hb=>?_⟩;simp only[List.mem_map] at O;obtain⟨x,M,rfl⟩:=O;simp only[List.map_cons,List.map_nil,List.mem_singleton] at hb
  have:=h.2 x M
  omega
 ·rcases List.mem_append.1 M with M | M
  ·have:=h.2 x M; omega
  ·simp only[List.mem_singleton] at M; subst M; omega
theorem Born.modify {es:List MapEntry} {c j:Nat} {f:MapEntry->MapEntry} (h:Born es c) (M:∀ e,(f e).born=e.born):Born (es.modify j f) c:=by
 have e1:(es.modify j f).map (·.born)=es.map (·.born):=by
  apply List.ext_getElem?
  intro i;simp only[List.getElem?_map,List.getElem?_modify]
  cases es[i]? with
  | none=>rfl
  | some x=>by_cases h:j=i <;> simp[h,M]
 refine⟨by rw[e1]; exact h.1, λx O=>?_⟩
 have:x.born∈(es.modify j f).map (·.born):=List.mem_map.2 ⟨x,O,rfl⟩
 rw[e1] at this;obtain⟨y,U,e2⟩:=List.mem_map.1 this
 have:=h.2 y U
 omega
def mapR {κ β:Type} (RK:Rep κ) (RV:Rep β):Rep (List (κ × β)) where
 sz:=1
 agg:=false
 rel S w cs m:=∃ b es clock,cs=[.map (some b)]/\S b/\w.heap[b]? = some (.map es clock)/\Da RK RV S w es.toList m/\Born es.toList clock
 len h:=by obtain⟨b,es,clock,rfl,_⟩:=h; rfl
 one h:=by obtain⟨b,es,clock,rfl,_⟩:=h; intro u M; simp at M; subst M; rfl
 scal _:=rfl
 mono k h:=by
  obtain⟨b,es,clock,h1,h2,h3,O,U⟩:=h;exact⟨b,es,clock,h1,(k b h2).1,(k b h2).2.trans h3,O.mono k,U⟩
def AK.map {κ β:Type} (RK:Rep κ) (RV:Rep β) (m:List (κ × β)):AK where
 nil _ _ _:=False
 nilm _ h:=h
 nilb h:=h.elim
 rel S w v o:=∃ b es clock,v=.map (some b)/\o=.map es clock/\Da RK RV S w es.toList m/\Born es.toList clock
 mono k h:=by obtain⟨b,es,clock,h1,h2,h3,M⟩:=h; exact⟨b,es,clock,h1,h2,h3.mono k,M⟩
theorem Sr {κ β:Type} {RK:Rep κ} {RV:Rep β} {m S w v} (h:(AK.map RK RV m).holds S w v):∃ b es clock,v=.map (some b)/\w.heap[b]? = some (.map es clock)/\Da RK RV S w es.toList m/\Born es.toList clock:=by
 rcases h with h | ⟨b,o,h1,h2,b',es,clock,rfl,rfl,h3,M⟩
 ·exact h.elim
 ·simp only[AM,Option.some.injEq] at h1;subst h1;exact⟨_,es,clock,rfl,h2,h3,M⟩
theorem O4 {κ β:Type} {RK:Rep κ} {RV:Rep β} {m S w} {b:Nat} {es:Array MapEntry} {clock:Nat} (h1:w.heap[b]? = some (.map es clock)) (h2:Da RK RV S w es.toList m) (h3:Born es.toList clock):(AK.map RK RV m).holds S w (.map (some b)) :=
 .inr ⟨b,_,rfl,h1,b,es,clock,rfl,rfl,h2,h3⟩
section
variable {P:Program} {κ β:Type} [DecidableEq κ] {RK:Rep κ} {RV:Rep β} {K:TypeId} {n:Nat}
def fnd (k:κ):List MapEntry->List (κ × β)->Nat->Option (Nat × Value)
 | e::es,p::m,i=>if k=p.1 then some (i,e.val) else fnd k es m (i+1)
 | _,_,_=>none
theorem Ss (hK:Dv P K RK n) {S:Blk} {w:World} {k:κ} {v:Value} (U:RK.vrel S w v k) (w':World):∀ {es:List MapEntry} {m:List (κ × β)} (i:Nat),Da RK RV S w es m->(Instr.findAsking K v es i).run P w'=.ok (fnd k es m i) w'
 | [],[],i,_=>by simp[Instr.findAsking,fnd]
 | e::es,p::m,i,h=>by
  obtain⟨cs,h1,rfl⟩:=U;obtain⟨cs',h2,h3⟩:=h.1.1;have M:=hK.eq 10000 (Nat.le_of_ble_eq_true hK.deep) S w cs cs' k p.1 h1 h2 w';have M:(Op.equal K (RK.val cs) e.key).run P w'=.ok (decide (k=p.1)) w':=by rw[h3]; exact M
  simp only[Instr.findAsking,Sem.run_bind,M,Result.andThen,fnd];by_cases O:k=p.1
  ·simp[O]
  ·simp[O,Ss hK ⟨cs,h1,rfl⟩ w' (i+1) h.2]
 | [],_::_,i,h=>h.elim
 | _::_,[],i,h=>h.elim
theorem St {de:TypeDesc} {S:Blk} {w:World} (M:∀ {S w cs cs' x y},RK.rel S w cs x->RK.rel S w cs' y->Instr.sameNow de (RK.val cs) (RK.val cs')=some (decide (x=y))) {k:κ} {v:Value} (hv:RK.vrel S w v k):∀ {es:List MapEntry} {m:List (κ × β)} (i:Nat),Da RK RV S w es m->Instr.findNow de v es i=some (fnd k es m i)
 | [],[],i,_=>by simp[Instr.findNow,fnd]
 | e::es,p::m,i,h=>by
  obtain⟨cs,h1,rfl⟩:=hv;obtain⟨cs',h2,h3⟩:=h.1.1;have O:=M h1 h2;rw[<- h3] at O;simp only[Instr.findNow,O,fnd];by_cases U:k=p.1
  ·simp[U]
  ·simp[U,St M ⟨cs,h1,rfl⟩ (i+1) h.2]
 | [],_::_,i,h=>h.elim
 | _::_,[],i,h=>h.elim
theorem Su (hK:Dv P K RK n) {S:Blk} {w:World} {k:κ} {v:Value} (M:RK.vrel S w v k) (w':World) {es:List MapEntry} {m:List (κ × β)} (h:Da RK RV S w es m):(Instr.findKey K v es).run P w'=.ok (fnd k es m 0) w':=by
 obtain⟨de,h1,h2⟩:=hK.find;unfold Instr.findKey;simp only[Sem.run_bind,run_underlying h1,Result.andThen];rcases h2 with h2 | h2
 ·match es,m,h with
  | [],[],_=>simp[Instr.findNow,fnd]
  | e::es,p::m,h =>
   have:Instr.findNow de v (e::es) 0=none:=by simp[Instr.findNow,h2]
   simp only[this];exact Ss hK M w' 0 h
 ·rw[St h2 M 0 h]; rfl
theorem O5 {k:κ}:∀ {es:List MapEntry} {m:List (κ × β)} {i:Nat} {S w},Da RK RV S w es m->fnd k es m i=none->C7 m k=none/\(∀ x,Du m k x=m++[(k,x)])/\mdel m k=m
 | [],[],i,S,w,_,_=>⟨rfl, λ_=>rfl,rfl⟩
 | e::es,p::m,i,S,w,h,M=>by
  simp only[fnd] at M
  split at M
  ·cases M
  ·rename_i O;obtain⟨h1,h2,h3⟩:=O5 h.2 M;refine⟨by simp[C7,O,h1], λx=>by simp[Du,O,h2], by simp[mdel,O,h3]⟩
 | [],_::_,i,_,_,h,_=>h.elim
 | _::_,[],i,_,_,h,_=>h.elim
theorem O6 {k:κ}:∀ {es:List MapEntry} {m:List (κ × β)} {i j:Nat} {u:Value} {S w},Da RK RV S w es m->fnd k es m i=some (j,u) ->
  i<=j/\∃ e x,es[j - i]? = some e/\e.val=u/\C7 m k=some x/\RV.vrel S w e.val x/\RK.vrel S w e.key k /\
   (∀ S' w' v y,Bj S S' w w'->RV.vrel S' w' v y->Da RK RV S' w' (es.modify (j - i) λe=>{ e with val:=v }) (Du m k y)) /\
   Da RK RV S w (es.eraseIdx (j - i)) (mdel m k)
 | e::es,p::m,i,j,u,S,w,h,O=>by
  simp only[fnd] at O
  split at O
  ·rename_i M;simp only[Option.some.injEq,Prod.mk.injEq] at O;obtain⟨rfl,rfl⟩:=O;refine⟨Nat.le_refl _,e,p.2, by simp,rfl, by simp[C7,M],h.1.2, by rw[M]; exact h.1.1, λS' w' v y st U=>?_,?_⟩
   ·simp only[Nat.sub_self,List.modify_zero_cons,Du,M,if_true];exact⟨⟨h.1.1.mono st,U⟩,h.2.mono st⟩
   ·simp only[Nat.sub_self,List.eraseIdx_cons_zero,mdel,M,if_true];exact h.2
  ·rename_i M;obtain⟨h1,e',x,h2,h3,h4,h5,h6,h7,h8⟩:=O6 h.2 O;have hj:j - i=(j - (i+1))+1:=by omega
   refine⟨by omega,e',x, by rw[hj]; simpa using h2,h3, by simp[C7,M,h4],h5,h6, λS' w' v y st U=>?_,?_⟩
   ·rw[hj,List.modify_succ_cons];simp only[Du,M,if_false];exact⟨⟨h.1.1.mono st,h.1.2.mono st⟩,h7 S' w' v y st U⟩
   ·rw[hj,List.eraseIdx_cons_succ];simp only[mdel,M,if_false];exact⟨h.1,h8⟩
 | [],[],i,j,u,_,_,_,O=>by cases O
 | [],_::_,i,j,u,_,_,h,_=>h.elim
 | _::_,[],i,j,u,_,_,h,_=>h.elim
end
section
variable {C:World->World->Prop} {ρ:Type} {P:Program} {Γ:Ctx} {l:AQ} {res:Res} {m:Option ρ} {os rest:List Oper} {N:ρ->Exit->Act->World->Prop}
 {d:Tmp} {ty:TypeId} {pos:String} {after:Array Edge} {g:Option (Nat × Bool)} {κ β:Type}
theorem Lv {w:World} {b:Nat} {o:Obj}:w.grownBy { w with heap:=w.heap.setIfInBounds b o } (some b):=by
 refine⟨rfl,rfl,rfl, by simp, λk hk M=>?_⟩;have M:k≠b:=λe=>M (by rw[e]);simp only[];rw[Array.getElem?_setIfInBounds_ne (λe=>M e.symm)]
theorem mkm (RK:Rep κ) (RV:Rep β) (r:Nat) {hint:Option Operand} {T K V:TypeId} (hh:hint=none\/∃ y n,hint=some y/\opE l y=some (.rd A2 n)) (hT:P.underlying T=some (.map K V)):Eff P Γ l res ⟨some d,.makeMap T hint,ty,pos,after,g⟩ r (λv=>(v,.map RK RV [])):=λa w O=>by
 have M:(execOp a.eval ⟨some d,.makeMap T hint,ty,pos,after,g⟩).run P w=.ok (.value (.map (some w.heap.size))) (w.alloc (.map #[] 0)):=by
  rcases hh with rfl | ⟨y,n,rfl,hy⟩
  ·rfl
  ·have e1:=Ca (O.vl hy);have e2:(Instr.makeMap T (some (a.eval y))).run P w=.ok (.map (some w.heap.size)) (w.alloc (.map #[] 0)):=by
    rw[e1];unfold Instr.makeMap;simp only[Sem.run_bind,run_underlying hT,Result.andThen];rfl
   simp[execOp,e2]
 exact⟨_,_,M,O.upd r (c:=.map RK RV []) (v:=.map (some w.heap.size)) (EJ w _) (by simp) (λbb U=>.inr (by simp[AM] at U; omega)) (λS' k'=>O4 (es:=#[]) (clock:=0) (heap_alloc_new _ _) trivial ⟨by simp, by simp⟩),rfl,none,EJ w _, by simp⟩
inductive Mp {κ β:Type} (RK:Rep κ) (RV:Rep β) (res:Res) (ws:List Nat):Ent->List (κ × β)->Prop
 | rd {m:List (κ × β)}:Mp RK RV res ws (.rd (mapR RK RV) m) m
 | own {v:Value} {m:List (κ × β)} (r:Nat) (h:lr res r=some (v,.map RK RV m)) (hw:ws.contains r=false):Mp RK RV res ws (.val v) m
theorem Mp.get {ws:List Nat} [LC C res ws] {RK:Rep κ} {RV:Rep β} {E:Ent} {mm:List (κ × β)} (h:Mp RK RV res ws E mm) {a:Act} {w:World} (O:Sta Γ l res a w) {v:Value} (U:E.holds (Shr Γ.H res w) w v) :
  ∃ b es clock,v=.map (some b)/\Da RK RV (Shr Γ.H res w) w es.toList mm/\∀ w',C w w'->w'.heap[b]? = some (.map es clock):=by
 cases h with
 | rd =>
  obtain⟨cs,⟨b,es,clock,h1,h2,h3,h4,h5⟩,h6⟩:=U;subst h1;exact⟨b,es,clock,h6,h4, λw' M=>(CW.shr M h2).trans h3⟩
 | own r h hw =>
  obtain⟨rfl,-⟩:=U;obtain⟨b,es,clock,rfl,h1,h2,h3⟩:=Sr (O.conts r _ _ h);exact⟨b,es,clock,rfl,h2, λw' M=>(CW.at M O h rfl hw).trans h1⟩
variable {ro:Option Nat} {A:Asn} {Q:ρ->Exit->Act->World->Prop} {c:Code} {e:Exit} {l0:AQ} {res0:Res} {ws:List Nat} {fuel:Nat} {listed:Array Bool}
theorem EsV {r:Nat} {op:Op} {x:Value × AK} (M:∀ a w,Sta Γ l res a w->∃ w' u,(execOp a.eval ⟨none,op,ty,pos,after,none⟩).run P w=.ok (.value u) w'/\Sta Γ l ((r,some x)::res) a w')
  (k:GL P os (Sta Γ l ((r,some x)::res)) rest N m):GL P os (Sta Γ l res) (⟨none,op,ty,pos,after,none⟩::rest) N m:=λa w O ρ U=>by
 obtain⟨w',u,h1,h2⟩:=M a w O;exact st (EF rfl) h1 (k _ w' h2 ρ U)
variable [DecidableEq κ]
theorem mup' {RK:Rep κ} {RV:Rep β} {mm:List (κ × β)} {x y z:Operand} {v:Value} {k:κ} {b:β} {T K V:TypeId} {n:Nat} {a:Act} {w:World} (ha:Sta Γ l res a w) (r:Nat) (hx:opE l x=some (.val v)) (hr:lr res r=some (v,.map RK RV mm)) (hy:opE l y=some (.rd RK k)) (hz:opE l z=some (.rd RV b)) (hK:Dv P K RK n) (hT:P.underlying T=some (.map K V)) :
  ∃ w',(Instr.mapUpdate T (a.eval x) (a.eval y) (a.eval z)).run P w=.ok () w'/\(Sta Γ l ((r,some (v,.map RK RV (Du mm k b)))::res) a w'/\Bj (Shr Γ.H res w) (Shr Γ.H ((r,some (v,.map RK RV (Du mm k b)))::res) w') w w')/\Grew res r w w':=by
 have e1:=(ha.vl hx).1;obtain⟨bk,es,clock,rfl,h1,h2,h3⟩:=Sr (ha.conts r v _ hr);have ac:=ha.vl hy;have a7:=ha.vl hz;obtain⟨cs,O,U⟩:=ac;have a1:=hK.chk O 10000 (Nat.le_of_ble_eq_true hK.deep) false w;rw[<- U] at a1;have hf:=Su hK ⟨cs,O,U⟩ w h2;have a8:=hK.bits O 10000 (Nat.le_of_ble_eq_true hK.deep);rw[<- U] at a8;have aa:bk<w.heap.size:=(Array.getElem?_eq_some_iff.1 h1).1
 cases hq:fnd k es.toList mm 0 with
 | none =>
  obtain⟨-,q2,-⟩:=O5 h2 hq;refine⟨{ w with heap:=w.heap.setIfInBounds bk (.map (es.push { key:=a.eval y,val:=a.eval z,born:=clock }) (clock+1)) },?_,?_,some bk,Lv, λbb M=>⟨_,_,hr, by cases M; rfl⟩⟩
  ·rw[e1];unfold Instr.mapUpdate;simp only[Sem.run_bind,run_underlying hT,Result.andThen,MapKept.run_getObj_map h1,a1,hf,hq,MapKept.run_setObj_map _ h1]
  ·refine ha.upd r (v:=.map (some bk)) Lv (λbb M=>⟨_,_,hr, by cases M; rfl⟩) (λbb M=>.inl ⟨_,_,hr,M⟩) (λS' k'=>O4 (es:=es.push { key:=a.eval y,val:=a.eval z,born:=clock }) (clock:=clock+1) (by simp[aa]) ?_ ?_)
   ·rw[q2 b,Array.toList_push];exact(h2.mono k').push (Rep.vrel.mono ⟨cs,O,U⟩ k') (Rep.vrel.mono a7 k')
   ·rw[Array.toList_push]; exact h3.push rfl
 | some ju =>
  obtain⟨j,u⟩:=ju;obtain⟨-,e,x0,q1,q2,q3,q4,q5,q6,q7⟩:=O6 h2 hq;simp only[Nat.sub_zero] at q1 q6;have hj:es[j]? = some e:=by rw[<- Array.getElem?_toList]; exact q1
  have a2:e.key=a.eval y:=by
   obtain⟨cs',h4,h5⟩:=q5;rw[h5,U,hK.one h4 O]
  have a6:Instr.sameBits 10000 e.key (a.eval y)=true:=by rw[a2]; exact a8
  have ab:es.modify j (λe=>{ e with key:=a.eval y,val:=a.eval z })=es.modify j (λe=>{ e with val:=a.eval z }):=by
   apply Array.toList_inj.1
   rw[Array.toList_modify,Array.toList_modify]
   apply List.ext_getElem?
   intro i;simp only[List.getElem?_modify];by_cases hi:j=i
   ·subst hi;rw[q1]; simp[a2]
   ·simp[hi]
  refine⟨{ w with heap:=w.heap.setIfInBounds bk (.map (es.modify j λe=>{ e with val:=a.eval z }) clock) },?_,?_,some bk,Lv, λbb M=>⟨_,_,hr, by cases M; rfl⟩⟩
  ·rw[e1];unfold Instr.mapUpdate;simp only[Sem.run_bind,run_underlying hT,Result.andThen,MapKept.run_getObj_map h1,a1,hf,hq,hj,Option.map_some,Option.getD_some,Instr.keyThatStays,a6,if_true,Sem.run_pure];rw[ab,MapKept.run_setObj_map _ h1]
  ·refine ha.upd r (v:=.map (some bk)) Lv (λbb M=>⟨_,_,hr, by cases M; rfl⟩) (λbb M=>.inl ⟨_,_,hr,M⟩) (λS' k'=>O4 (es:=es.modify j λe=>{ e with val:=a.eval z }) (clock:=clock) (by simp[aa]) ?_ ?_)
   ·rw[Array.toList_modify];exact q6 S' _ _ b k' (Rep.vrel.mono a7 k')
   ·rw[Array.toList_modify]; exact h3.modify (λ_=>rfl)
theorem mup {RK:Rep κ} {RV:Rep β} {mm:List (κ × β)} {x y z:Operand} {v:Value} {k:κ} {b:β} {T K V:TypeId} {n:Nat} (r:Nat) (M:opE l x=some (.val v)) (O:lr res r=some (v,.map RK RV mm)) (U:opE l y=some (.rd RK k)) (hz:opE l z=some (.rd RV b)) (hK:Dv P K RK n) (hT:P.underlying T=some (.map K V)) :
  EffS P Γ l res ⟨none,.mapUpdate T x y z,ty,pos,after,g⟩ r (v,.map RK RV (Du mm k b)):=λa w ha=>by
 obtain⟨w',h1,h2,h3⟩:=mup' ha r M O U hz hK hT;exact⟨w', by simp[execOp,h1],h2,h3⟩
theorem Sv {ws:List Nat} [LC C res ws] {RK:Rep κ} {RV:Rep β} {E:Ent} {mm:List (κ × β)} {x y:Operand} {k:κ} {x0:β} {T K V:TypeId} {n by_:Nat} {z:Value} (hx:opE l x=some E) (hm:Mp RK RV res ws E mm) (hy:opE l y=some (.rd RK k)) (hK:Dv P K RK n) (hT:P.underlying T=some (.map K V)) (hV:TI P V z RV.sz by_) (hz:Zr RV z.cells.toList x0) (a6:z=RV.val z.cells.toList) {a:Act} {w:World} (ha:Sta Γ l res a w) :
  ∃ v,RV.vrel (Shr Γ.H res w) w v ((C7 mm k).getD x0)/\∀ c w',C w w'->(Instr.lookup T (a.eval x) (a.eval y) c).run P w'=.ok (if c then .tuple #[v,.bool (C7 mm k).isSome] else v) w':=by
 obtain⟨b,es,clock,h1,h2,h3⟩:=hm.get (C:=C) ha (ha.vl hx);obtain⟨cs,a1,a2⟩:=ha.vl hy;have M:=λem w'=>hK.chk a1 10000 (Nat.le_of_ble_eq_true hK.deep) em w';rw[<- a2] at M;have hf:=λw'=>Su hK ⟨cs,a1,a2⟩ w' h2
 cases U:fnd k es.toList mm 0 with
 | none =>
  obtain⟨q1,-,-⟩:=O5 h2 U;refine⟨z,⟨_, by rw[q1]; exact hz _ _,a6⟩, λc w' O=>?_⟩;rw[h1,q1];unfold Instr.lookup;simp only[Sem.run_bind,run_underlying hT,Result.andThen,MapKept.run_getObj_map (h3 w' O),Sem.run_pure,M,hf,U,Gn hV];rfl
 | some ju =>
  obtain⟨j,u⟩:=ju;obtain⟨-,e,x1,q1,q2,q3,q4,q5,q6,q7⟩:=O6 h2 U;refine⟨u, by rw[q3,<- q2]; exact q4, λc w' O=>?_⟩;rw[h1,q3];unfold Instr.lookup;simp only[Sem.run_bind,run_underlying hT,Result.andThen,MapKept.run_getObj_map (h3 w' O),Sem.run_pure,M,hf,U];rfl
theorem mlk {ws:List Nat} [LC C res ws] {RK:Rep κ} {RV:Rep β} {E:Ent} {mm:List (κ × β)} {x y:Operand} {k:κ} {x0:β} {T K V:TypeId} {n by_:Nat} {z:Value} (U:opE l x=some E) (hm:Mp RK RV res ws E mm) (hy:opE l y=some (.rd RK k)) (hK:Dv P K RK n) (hT:P.underlying T=some (.map K V)) (hV:TI P V z RV.sz by_) (hz:Zr RV z.cells.toList x0) (M:z=RV.val z.cells.toList) :
  Run C P Γ l res ⟨some d,.lookup T x y false,ty,pos,after,g⟩ (.rd RV ((C7 mm k).getD x0)):=λa w ha=>by
 obtain⟨v,h1,h2⟩:=Sv (C:=C) U hm hy hK hT hV hz M ha;exact⟨v, λw' O=>by simp[execOp,h2 false w' O],h1⟩
theorem mlk2 {ws:List Nat} [LC C res ws] {RK:Rep κ} {RV:Rep β} {E:Ent} {mm:List (κ × β)} {x y:Operand} {k:κ} {x0:β} {T K V:TypeId} {n by_:Nat} {z:Value} (U:opE l x=some E) (hm:Mp RK RV res ws E mm) (hy:opE l y=some (.rd RK k)) (hK:Dv P K RK n) (hT:P.underlying T=some (.map K V)) (hV:TI P V z RV.sz by_) (hz:Zr RV z.cells.toList x0) (M:z=RV.val z.cells.toList) :
  Run C P Γ l res ⟨some d,.lookup T x y true,ty,pos,after,g⟩ (.tup [.rd RV ((C7 mm k).getD x0),.rd Ai (C7 mm k).isSome]):=λa w ha=>by
 obtain⟨v,h1,h2⟩:=Sv (C:=C) U hm hy hK hT hV hz M ha;exact⟨_, λw' O=>by simp[execOp,h2 true w' O],[v,.bool (C7 mm k).isSome],⟨h1,FM,trivial⟩,rfl⟩
end
end
section
theorem mixed:Tryz.prog.follows .mixedOrders=true:=by kernel_rfl
theorem sc2:Sc Tryz.prog 2:=⟨_,underlying2,trivial⟩
theorem ti2:TI Tryz.prog 2 (.int .i64 (0)) 1 8:=TI.mk' (by kernel_rfl)
theorem sc3:Sc Tryz.prog 3:=⟨_,underlying3,trivial⟩
theorem ti3:TI Tryz.prog 3 (.int .i64 (0)) 1 8:=TI.mk' (by kernel_rfl)
theorem sc4:Sc Tryz.prog 4:=⟨_,underlying4,trivial⟩
theorem ti4:TI Tryz.prog 4 (.bool false) 1 1:=TI.mk' (by kernel_rfl)
theorem sc5:Sc Tryz.prog 5:=⟨_,underlying5,trivial⟩
theorem ti5:TI Tryz.prog 5 (.int .u8 (0)) 1 1:=TI.mk' (by kernel_rfl)
theorem sc9:Sc Tryz.prog 9:=⟨_,underlying9,trivial⟩
theorem ti9:TI Tryz.prog 9 (.string ByteArray.empty) 1 16:=TI.mk' (by kernel_rfl)
theorem sc22:Sc Tryz.prog 22:=⟨_,underlying22,trivial⟩
theorem ag24:Ag Tryz.prog 24:=⟨_,underlying24,trivial⟩
theorem Db:TI Tryz.prog 24 (.agg #[.int .i64 (0),.int .i64 (0)]) 2 16:=TI.mk' (by kernel_rfl)
theorem sc28:Sc Tryz.prog 28:=⟨_,underlying28,trivial⟩
theorem ti28:TI Tryz.prog 28 (.int .i64 (0)) 1 8:=TI.mk' (by kernel_rfl)
theorem sc31:Sc Tryz.prog 31:=⟨_,underlying31,trivial⟩
theorem B2:TI Tryz.prog 31 (.slice none 0 0) 1 24:=TI.mk' (by kernel_rfl)
theorem sc32:Sc Tryz.prog 32:=⟨_,underlying32,trivial⟩
theorem Bq:TI Tryz.prog 32 (.slice none 0 0) 1 24:=TI.mk' (by kernel_rfl)
theorem ag34:Ag Tryz.prog 34:=⟨_,underlying34,trivial⟩
theorem Aw:TI Tryz.prog 34 (.agg #[.slice none 0 0,.slice none 0 0]) 2 48:=TI.mk' (by kernel_rfl)
theorem sc52:Sc Tryz.prog 52:=⟨_,underlying52,trivial⟩
theorem CJ:TI Tryz.prog 52 (.int .u64 (0)) 1 8:=TI.mk' (by kernel_rfl)
theorem sc57:Sc Tryz.prog 57:=⟨_,underlying57,trivial⟩
theorem ti57:TI Tryz.prog 57 (.slice none 0 0) 1 24:=TI.mk' (by kernel_rfl)
theorem ag61:Ag Tryz.prog 61:=⟨_,underlying61,trivial⟩
theorem Ax:TI Tryz.prog 61 (.agg #[.int .u8 (0),.int .u8 (0),.int .u8 (0),.int .u8 (0),.int .u8 (0),.int .u8 (0),.int .u8 (0),.int .u8 (0),.int .u8 (0),.int .u8 (0),.int .u8 (0),.int .u8 (0),.int .u8 (0),.int .u8 (0),.int .u8 (0),.int .u8 (0),.int .u8 (0),.int .u8 (0),.int .u8 (0),.int .u8 (0),.int .u8 (0),.int .u8 (0),.int .u8 (0),.int .u8 (0),.int .u8 (0),.int .u8 (0),.int .u8 (0),.int .u8 (0),.int .u8 (0),.int .u8 (0),.int .u8 (0),.int .u8 (0)]) 32 32:=TI.mk' (by kernel_rfl)
theorem sc65:Sc Tryz.prog 65:=⟨_,underlying65,trivial⟩
theorem B0:TI Tryz.prog 65 (.int .u32 (0)) 1 4:=TI.mk' (by kernel_rfl)
theorem ag67:Ag Tryz.prog 67:=⟨_,underlying67,trivial⟩
theorem CF:TI Tryz.prog 67 (.agg #[.int .u8 (0),.int .i64 (0),.int .u64 (0),.string ByteArray.empty]) 4 40:=TI.mk' (by kernel_rfl)
theorem ag69:Ag Tryz.prog 69:=⟨_,underlying69,trivial⟩
theorem CP:TI Tryz.prog 69 (.agg #[.int .u8 (0),.string ByteArray.empty,.int .u8 (0),.int .i64 (0),.int .u64 (0),.string ByteArray.empty]) 6 64:=TI.mk' (by kernel_rfl)
theorem ag71:Ag Tryz.prog 71:=⟨_,underlying71,trivial⟩
theorem CG:TI Tryz.prog 71 (.agg #[.int .u32 (0),.int .u32 (0)]) 2 8:=TI.mk' (by kernel_rfl)
theorem ag73:Ag Tryz.prog 73:=⟨_,underlying73,trivial⟩
theorem B4:TI Tryz.prog 73 (.agg #[.int .u32 (0),.slice none 0 0,.int .u64 (0),.int .u8 (0),.string ByteArray.empty,.int .u8 (0),.int .i64 (0),.int .u64 (0),.string ByteArray.empty,.int .u32 (0),.int .u32 (0)]) 11 112:=TI.mk' (by kernel_rfl)
theorem sc83:Sc Tryz.prog 83:=⟨_,underlying83,trivial⟩
theorem ti83:TI Tryz.prog 83 (.int .u64 (0)) 1 8:=TI.mk' (by kernel_rfl)
theorem ti84:TI Tryz.prog 84 (.agg #[.int .u64 (0),.int .u64 (0),.int .u64 (0),.int .u64 (0),.int .u64 (0)]) 5 40:=TI.mk' (by kernel_rfl)
theorem XY:Sc Tryz.prog 114:=⟨_,underlying114,trivial⟩
theorem Dc:TI Tryz.prog 114 (.slice none 0 0) 1 24:=TI.mk' (by kernel_rfl)
theorem O7:Sc Tryz.prog 128:=⟨_,underlying128,trivial⟩
theorem I6:TI Tryz.prog 128 (.map none) 1 8:=TI.mk' (by kernel_rfl)
theorem I7:Sc Tryz.prog 130:=⟨_,underlying130,trivial⟩
theorem Lw:TI Tryz.prog 130 (.slice none 0 0) 1 24:=TI.mk' (by kernel_rfl)
theorem XZ:Sc Tryz.prog 136:=⟨_,underlying136,trivial⟩
theorem Ft:TI Tryz.prog 136 (.slice none 0 0) 1 24:=TI.mk' (by kernel_rfl)
theorem Y0:Ag Tryz.prog 138:=⟨_,underlying138,trivial⟩
theorem FR:TI Tryz.prog 138 (.agg #[.int .u8 (0),.int .u64 (0),.slice none 0 0,.slice none 0 0]) 4 64:=TI.mk' (by kernel_rfl)
theorem Y3:Ag Tryz.prog 182:=⟨_,underlying182,trivial⟩
theorem DU:TI Tryz.prog 182 (.agg #[.int .u32 (0),.int .u32 (0),.int .u32 (0),.int .u32 (0),.int .u32 (0),.int .u32 (0),.int .u32 (0),.int .u32 (0)]) 8 32:=TI.mk' (by kernel_rfl)
theorem Y4:Ag Tryz.prog 208:=⟨_,underlying208,trivial⟩
theorem Fv:TI Tryz.prog 208 (.agg #[.int .u32 (0),.int .u32 (0),.int .u32 (0),.int .u32 (0),.int .u32 (0),.int .u32 (0),.int .u32 (0),.int .u32 (0),.slice none 0 0,.int .i64 (0)]) 10 64:=TI.mk' (by kernel_rfl)
theorem Sw:TI Tryz.prog 222 (.nilFunc) 1 8:=TI.mk' (by kernel_rfl)
theorem Y5:Ag Tryz.prog 244:=⟨_,underlying244,trivial⟩
theorem Jl:TI Tryz.prog 244 (.agg #[.int .u32 (0),.int .u32 (0),.int .u32 (0),.int .u32 (0),.int .u32 (0),.int .u32 (0),.int .u32 (0),.int .u32 (0),.int .u32 (0),.int .u32 (0),.int .u32 (0),.int .u32 (0),.int .u32 (0),.int .u32 (0),.int .u32 (0),.int .u32 (0),.int .u32 (0),.int .u32 (0),.int .u32 (0),.int .u32 (0),.int .u32 (0),.int .u32 (0),.int .u32 (0),.int .u32 (0),.int .u32 (0),.int .u32 (0),.int .u32 (0),.int .u32 (0),.int .u32 (0),.int .u32 (0),.int .u32 (0),.int .u32 (0),.int .u32 (0),.int .u32 (0),.int .u32 (0),.int .u32 (0),.int .u32 (0),.int .u32 (0),.int .u32 (0),.int .u32 (0),.int .u32 (0),.int .u32 (0),.int .u32 (0),.int .u32 (0),.int .u32 (0),.int .u32 (0),.int .u32 (0),.int .u32 (0),.int .u32 (0),.int .u32 (0),.int .u32 (0),.int .u32 (0),.int .u32 (0),.int .u32 (0),.int .u32 (0),.int .u32 (0),.int .u32 (0),.int .u32 (0),.int .u32 (0),.int .u32 (0),.int .u32 (0),.int .u32 (0),.int .u32 (0),.int .u32 (0)]) 64 256:=TI.mk' (by kernel_rfl)
theorem tu3:Tryz.prog.underlying 3=some (.int .i64):=underlying3
theorem tu5:Tryz.prog.underlying 5=some (.int .u8):=underlying5
theorem tu9:Tryz.prog.underlying 9=some (.string):=underlying9
theorem tu22:Tryz.prog.underlying 22=some (.slice 34):=underlying22
theorem tu31:Tryz.prog.underlying 31=some (.slice 61):=underlying31
theorem tu32:Tryz.prog.underlying 32=some (.slice 73):=underlying32
theorem tu42:Tryz.prog.underlying 42=some (.slice 24):=underlying42
theorem tu46:Tryz.prog.underlying 46=some (.slice 57):=underlying46
theorem tu52:Tryz.prog.underlying 52=some (.int .u64):=underlying52
theorem tu57:Tryz.prog.underlying 57=some (.slice 3):=underlying57
theorem tu61:Tryz.prog.underlying 61=some (.array 32 5):=underlying61
theorem tu65:Tryz.prog.underlying 65=some (.int .u32):=underlying65
theorem tu114:Tryz.prog.underlying 114=some (.slice 5):=underlying114
theorem tu130:Tryz.prog.underlying 130=some (.slice 4):=underlying130
theorem tu136:Tryz.prog.underlying 136=some (.slice 114):=underlying136
theorem tu182:Tryz.prog.underlying 182=some (.array 8 65):=underlying182
theorem tu203:Tryz.prog.underlying 203=some (.slice 65):=underlying203
end
section
structure AX where
 A:Int
 B:Int
 deriving DecidableEq,Inhabited
def Bn:Rep AX:=DK (λx=>(x.A,x.B,())) (C3 A2 (C3 A2 E3))
theorem CT (x:AX):AV Bn x 0 A2 x.A (λy=>{ x with A:=y }):=(AV.fst).via (λ_=>rfl)
theorem D3 (x:AX):AV Bn x 1 A2 x.B (λy=>{ x with B:=y }):=(AV.snd AV.fst).via (λ_=>rfl)
structure Az where
 Kind:UInt8
 Num:Int
 Bits:UInt64
 Text:List UInt8
 deriving DecidableEq,Inhabited
def CQ:Rep Az:=DK (λx=>(x.Kind,x.Num,x.Bits,x.Text,())) (C3 u8R (C3 A2 (C3 Ao (C3 CB E3))))
theorem Fw (x:Az):AV CQ x 0 u8R x.Kind (λy=>{ x with Kind:=y }):=(AV.fst).via (λ_=>rfl)
theorem I8 (x:Az):AV CQ x 1 A2 x.Num (λy=>{ x with Num:=y }):=(AV.snd AV.fst).via (λ_=>rfl)
theorem Gq (x:Az):AV CQ x 2 Ao x.Bits (λy=>{ x with Bits:=y }):=(AV.snd (AV.snd AV.fst)).via (λ_=>rfl)
theorem FS (x:Az):AV CQ x 3 CB x.Text (λy=>{ x with Text:=y }):=(AV.snd (AV.snd (AV.snd AV.fst))).via (λ_=>rfl)
structure AP where
 Kind:UInt8
 Key:List UInt8
 Value:Az
 deriving DecidableEq,Inhabited
def Ba:Rep AP:=DK (λx=>(x.Kind,x.Key,x.Value,())) (C3 u8R (C3 CB (C3 CQ E3)))
theorem EX (x:AP):AV Ba x 0 u8R x.Kind (λy=>{ x with Kind:=y }):=(AV.fst).via (λ_=>rfl)
theorem Gr (x:AP):AV Ba x 1 CB x.Key (λy=>{ x with Key:=y }):=(AV.snd AV.fst).via (λ_=>rfl)
theorem Hc (x:AP):AV Ba x 2 CQ x.Value (λy=>{ x with Value:=y }):=(AV.snd (AV.snd AV.fst)).via (λ_=>rfl)
structure AC where
 E:UInt32
 S:UInt32
 deriving DecidableEq,Inhabited
def Bc:Rep AC:=DK (λx=>(x.E,x.S,())) (C3 Aa (C3 Aa E3))
theorem EY (x:AC):AV Bc x 0 Aa x.E (λy=>{ x with E:=y }):=(AV.fst).via (λ_=>rfl)
theorem FT (x:AC):AV Bc x 1 Aa x.S (λy=>{ x with S:=y }):=(AV.snd AV.fst).via (λ_=>rfl)
structure Ae where
 Author:UInt32
 Preds:List V3
 Stamp:UInt64
 Act:AP
 Sig:AC
 deriving DecidableEq,Inhabited
def Ad:Rep Ae:=DK (λx=>(x.Author,x.Preds,x.Stamp,x.Act,x.Sig,())) (C3 Aa (C3 (A3 (Av 32 u8R)) (C3 Ao (C3 Ba (C3 Bc E3)))))
theorem Ex (x:Ae):AV Ad x 0 Aa x.Author (λy=>{ x with Author:=y }):=(AV.fst).via (λ_=>rfl)
theorem Cv (x:Ae):AV Ad x 1 (A3 (Av 32 u8R)) x.Preds (λy=>{ x with Preds:=y }):=(AV.snd AV.fst).via (λ_=>rfl)
theorem EK (x:Ae):AV Ad x 2 Ao x.Stamp (λy=>{ x with Stamp:=y }):=(AV.snd (AV.snd AV.fst)).via (λ_=>rfl)
theorem D4 (x:Ae):AV Ad x 3 Ba x.Act (λy=>{ x with Act:=y }):=(AV.snd (AV.snd (AV.snd AV.fst))).via (λ_=>rfl)
theorem DF (x:Ae):AV Ad x 9 Bc x.Sig (λy=>{ x with Sig:=y }):=(AV.snd (AV.snd (AV.snd (AV.snd AV.fst)))).via (λ_=>rfl)
structure A4 where
 IDs:List V3
 Ops:List Ae
 deriving DecidableEq,Inhabited
def A8:Rep A4:=DK (λx=>(x.IDs,x.Ops,())) (C3 (A3 (Av 32 u8R)) (C3 (A3 Ad) E3))
theorem BT (x:A4):AV A8 x 0 (A3 (Av 32 u8R)) x.IDs (λy=>{ x with IDs:=y }):=(AV.fst).via (λ_=>rfl)
theorem BN (x:A4):AV A8 x 1 (A3 Ad) x.Ops (λy=>{ x with Ops:=y }):=(AV.snd AV.fst).via (λ_=>rfl)
structure Cp where
 Kind:UInt8
 N:UInt64
 IDs:List V3
 Ops:List (List UInt8)
 deriving DecidableEq,Inhabited
def Dd:Rep Cp:=DK (λx=>(x.Kind,x.N,x.IDs,x.Ops,())) (C3 u8R (C3 Ao (C3 (A3 (Av 32 u8R)) (C3 (A3 (A3 u8R)) E3))))
theorem I9 (x:Cp):AV Dd x 0 u8R x.Kind (λy=>{ x with Kind:=y }):=(AV.fst).via (λ_=>rfl)
theorem O9 (x:Cp):AV Dd x 1 Ao x.N (λy=>{ x with N:=y }):=(AV.snd AV.fst).via (λ_=>rfl)
theorem Jm (x:Cp):AV Dd x 2 (A3 (Av 32 u8R)) x.IDs (λy=>{ x with IDs:=y }):=(AV.snd (AV.snd AV.fst)).via (λ_=>rfl)
theorem FU (x:Cp):AV Dd x 3 (A3 (A3 u8R)) x.Ops (λy=>{ x with Ops:=y }):=(AV.snd (AV.snd (AV.snd AV.fst))).via (λ_=>rfl)
structure Cg where
 Words:Vector UInt32 8
 Rest:List UInt8
 N:Int
 deriving DecidableEq,Inhabited
def D5:Rep Cg:=DK (λx=>(x.Words,x.Rest,x.N,())) (C3 (Av 8 Aa) (C3 (A3 u8R) (C3 A2 E3)))
theorem Sx (x:Cg):AV D5 x 0 (Av 8 Aa) x.Words (λy=>{ x with Words:=y }):=(AV.fst).via (λ_=>rfl)
theorem Y6 (x:Cg):AV D5 x 8 (A3 u8R) x.Rest (λy=>{ x with Rest:=y }):=(AV.snd AV.fst).via (λ_=>rfl)
theorem Ia (x:Cg):AV D5 x 9 A2 x.N (λy=>{ x with N:=y }):=(AV.snd (AV.snd AV.fst)).via (λ_=>rfl)
theorem C0:Zr (Av 32 u8R) (Value.cells (.agg #[.int .u8 (0),.int .u8 (0),.int .u8 (0),.int .u8 (0),.int .u8 (0),.int .u8 (0),.int .u8 (0),.int .u8 (0),.int .u8 (0),.int .u8 (0),.int .u8 (0),.int .u8 (0),.int .u8 (0),.int .u8 (0),.int .u8 (0),.int .u8 (0),.int .u8 (0),.int .u8 (0),.int .u8 (0),.int .u8 (0),.int .u8 (0),.int .u8 (0),.int .u8 (0),.int .u8 (0),.int .u8 (0),.int .u8 (0),.int .u8 (0),.int .u8 (0),.int .u8 (0),.int .u8 (0),.int .u8 (0),.int .u8 (0)])).toList (Vector.replicate 32 0):=Zr.arr (c:=(Value.cells (.int .u8 (0))).toList) (Zr.num rfl) rfl
theorem Y7:Zr (Av 5 Ao) (Value.cells (.agg #[.int .u64 (0),.int .u64 (0),.int .u64 (0),.int .u64 (0),.int .u64 (0)])).toList (Vector.replicate 5 0):=Zr.arr (c:=(Value.cells (.int .u64 (0))).toList) (Zr.num rfl) rfl
theorem Gt:Zr (Av 8 Aa) (Value.cells (.agg #[.int .u32 (0),.int .u32 (0),.int .u32 (0),.int .u32 (0),.int .u32 (0),.int .u32 (0),.int .u32 (0),.int .u32 (0)])).toList (Vector.replicate 8 0):=Zr.arr (c:=(Value.cells (.int .u32 (0))).toList) (Zr.num rfl) rfl
theorem Sy:Zr (Av 64 Aa) (Value.cells (.agg #[.int .u32 (0),.int .u32 (0),.int .u32 (0),.int .u32 (0),.int .u32 (0),.int .u32 (0),.int .u32 (0),.int .u32 (0),.int .u32 (0),.int .u32 (0),.int .u32 (0),.int .u32 (0),.int .u32 (0),.int .u32 (0),.int .u32 (0),.int .u32 (0),.int .u32 (0),.int .u32 (0),.int .u32 (0),.int .u32 (0),.int .u32 (0),.int .u32 (0),.int .u32 (0),.int .u32 (0),.int .u32 (0),.int .u32 (0),.int .u32 (0),.int .u32 (0),.int .u32 (0),.int .u32 (0),.int .u32 (0),.int .u32 (0),.int .u32 (0),.int .u32 (0),.int .u32 (0),.int .u32 (0),.int .u32 (0),.int .u32 (0),.int .u32 (0),.int .u32 (0),.int .u32 (0),.int .u32 (0),.int .u32 (0),.int .u32 (0),.int .u32 (0),.int .u32 (0),.int .u32 (0),.int .u32 (0),.int .u32 (0),.int .u32 (0),.int .u32 (0),.int .u32 (0),.int .u32 (0),.int .u32 (0),.int .u32 (0),.int .u32 (0),.int .u32 (0),.int .u32 (0),.int .u32 (0),.int .u32 (0),.int .u32 (0),.int .u32 (0),.int .u32 (0),.int .u32 (0)])).toList (Vector.replicate 64 0):=Zr.arr (c:=(Value.cells (.int .u32 (0))).toList) (Zr.num rfl) rfl
theorem FV:Zr Bn (Value.cells (.agg #[.int .i64 (0),.int .i64 (0)])).toList (⟨0,0⟩:AX):=Zr.via (Zr.prod (Zr.num rfl) (Zr.prod (Zr.num rfl) Zr.unit rfl) rfl)
theorem EL:Zr CQ (Value.cells (.agg #[.int .u8 (0),.int .i64 (0),.int .u64 (0),.string ByteArray.empty])).toList (⟨0,0,0,[]⟩:Az):=Zr.via (Zr.prod (Zr.num rfl) (Zr.prod (Zr.num rfl) (Zr.prod (Zr.num rfl) (Zr.prod Zr.str Zr.unit rfl) rfl) rfl) rfl)
theorem CR:Zr Ba (Value.cells (.agg #[.int .u8 (0),.string ByteArray.empty,.int .u8 (0),.int .i64 (0),.int .u64 (0),.string ByteArray.empty])).toList (⟨0,[],(⟨0,0,0,[]⟩:Az)⟩:AP):=Zr.via (Zr.prod (Zr.num rfl) (Zr.prod Zr.str (Zr.prod EL Zr.unit rfl) rfl) rfl)
theorem CM:Zr Bc (Value.cells (.agg #[.int .u32 (0),.int .u32 (0)])).toList (⟨0,0⟩:AC):=Zr.via (Zr.prod (Zr.num rfl) (Zr.prod (Zr.num rfl) Zr.unit rfl) rfl)
theorem Lx:Zr Ad (Value.cells (.agg #[.int .u32 (0),.slice none 0 0,.int .u64 (0),.int .u8 (0),.string ByteArray.empty,.int .u8 (0),.int .i64 (0),.int .u64 (0),.string ByteArray.empty,.int .u32 (0),.int .u32 (0)])).toList (⟨0,[],0,(⟨0,[],(⟨0,0,0,[]⟩:Az)⟩:AP),(⟨0,0⟩:AC)⟩:Ae):=Zr.via (Zr.prod (Zr.num rfl) (Zr.prod Zr.slice (Zr.prod (Zr.num rfl) (Zr.prod CR (Zr.prod CM Zr.unit rfl) rfl) rfl) rfl) rfl)
theorem Jn:Zr A8 (Value.cells (.agg #[.slice none 0 0,.slice none 0 0])).toList (⟨[],[]⟩:A4):=Zr.via (Zr.prod Zr.slice (Zr.prod Zr.slice Zr.unit rfl) rfl)
theorem Y8:Zr Dd (Value.cells (.agg #[.int .u8 (0),.int .u64 (0),.slice none 0 0,.slice none 0 0])).toList (⟨0,0,[],[]⟩:Cp):=Zr.via (Zr.prod (Zr.num rfl) (Zr.prod (Zr.num rfl) (Zr.prod Zr.slice (Zr.prod Zr.slice Zr.unit rfl) rfl) rfl) rfl)
theorem sc1:Sc Tryz.prog 1:=⟨_,underlying1,trivial⟩
theorem ty1:BJ Tryz.prog 1 false 1:=.sc sc1
theorem ty2:BJ Tryz.prog 2 false 1:=.sc sc2
theorem ty3:BJ Tryz.prog 3 false 1:=.sc sc3
theorem ty4:BJ Tryz.prog 4 false 1:=.sc sc4
theorem ty5:BJ Tryz.prog 5 false 1:=.sc sc5
theorem ty9:BJ Tryz.prog 9 false 1:=.sc sc9
theorem DM:BJ Tryz.prog 24 true 2:=.ag ag24 Db
theorem ty28:BJ Tryz.prog 28 false 1:=.sc sc28
theorem B8:BJ Tryz.prog 31 false 1:=.sc sc31
theorem BL:BJ Tryz.prog 32 false 1:=.sc sc32
theorem AH:BJ Tryz.prog 34 true 2:=.ag ag34 Aw
theorem CU:BJ Tryz.prog 52 false 1:=.sc sc52
theorem ty57:BJ Tryz.prog 57 false 1:=.sc sc57
theorem AN:BJ Tryz.prog 61 true 32:=.ag ag61 Ax
theorem Be:BJ Tryz.prog 65 false 1:=.sc sc65
theorem E5:BJ Tryz.prog 67 true 4:=.ag ag67 CF
theorem ty69:BJ Tryz.prog 69 true 6:=.ag ag69 CP
theorem ty71:BJ Tryz.prog 71 true 2:=.ag ag71 CG
theorem Bz:BJ Tryz.prog 73 true 11:=.ag ag73 B4
theorem ty83:BJ Tryz.prog 83 false 1:=.sc sc83
theorem Hd:BJ Tryz.prog 114 false 1:=.sc XY
theorem Gu:BJ Tryz.prog 136 false 1:=.sc XZ
theorem Ly:BJ Tryz.prog 138 true 4:=.ag Y0 FR
theorem Gv:BJ Tryz.prog 182 true 8:=.ag Y3 DU
theorem Gw:BJ Tryz.prog 208 true 10:=.ag Y4 Fv
theorem Sz:Sc Tryz.prog 222:=⟨_,underlying222,trivial⟩
theorem SA:BJ Tryz.prog 244 true 64:=.ag Y5 Jl
def Bv:Vector UInt32 64:=#v[1116352408,1899447441,3049323471,3921009573,961987163,1508970993,2453635748,2870763221,3624381080,310598401,607225278,1426881987,1925078388,2162078206,2614888103,3248222580,3835390401,4022224774,264347078,604807628,770255983,1249150122,1555081692,1996064986,2554220882,2821834349,2952996808,3210313671,3336571891,3584528711,113926993,338241895,666307205,773529912,1294757372,1396182291,1695183700,1986661051,2177026350,2456956037,2730485921,2820302411,3259730800,3345764771,3516065817,3600352804,4094571909,275423344,430227734,506948616,659060556,883997877,958139571,1322822218,1537002063,1747873779,1955562222,2024104815,2227730452,2361852424,2428436474,2756734187,3204031479,3329325298]
abbrev Am:Nat × Option (Value × AK):=(1001,some ((.bool true),.glob 1 (Av 64 Aa) Bv))
end
section
theorem eq61:EqR Tryz.prog 61 (Av 32 u8R) 2:=EqR.arr (EqR.u8 underlying5) underlying61 ti5 ty5
theorem gq61:Tryz.prog.eqGuardType Tryz.prog.depth 61=false:=by kernel_rfl
theorem eq67:EqR Tryz.prog 67 CQ ((max 1 (max 1 (max 1 (max 1 0))))+1):=EqR.struct (R:=(C3 u8R (C3 A2 (C3 Ao (C3 CB E3))))) (g:=λx:Az=>(x.Kind,x.Num,x.Bits,x.Text,())) (EqF.cons (EqR.u8 underlying5) ty5 rfl (by decide) (EqF.cons (EqR.i64 underlying2) ty2 rfl (by decide) (EqF.cons (EqR.u64 underlying52) CU rfl (by decide) (EqF.cons (EqR.str underlying9) ty9 rfl (by decide) EqF.nil)))) underlying67 (by kernel_rfl) (λx y h=>by cases x; cases y; simpa using h) rfl
theorem gq67:Tryz.prog.eqGuardType Tryz.prog.depth 67=false:=by kernel_rfl
theorem eq69:EqR Tryz.prog 69 Ba ((max 1 (max 1 (max 2 0)))+1):=EqR.struct (R:=(C3 u8R (C3 CB (C3 CQ E3)))) (g:=λx:AP=>(x.Kind,x.Key,x.Value,())) (EqF.cons (EqR.u8 underlying5) ty5 rfl (by decide) (EqF.cons (EqR.str underlying9) ty9 rfl (by decide) (EqF.cons eq67 E5 rfl (by decide) EqF.nil))) underlying69 (by kernel_rfl) (λx y h=>by cases x; cases y; simpa using h) rfl
theorem gq69:Tryz.prog.eqGuardType Tryz.prog.depth 69=false:=by kernel_rfl
theorem eq71:EqR Tryz.prog 71 Bc ((max 1 (max 1 0))+1):=EqR.struct (R:=(C3 Aa (C3 Aa E3))) (g:=λx:AC=>(x.E,x.S,())) (EqF.cons (EqR.u32 underlying65) Be rfl (by decide) (EqF.cons (EqR.u32 underlying65) Be rfl (by decide) EqF.nil)) underlying71 (by kernel_rfl) (λx y h=>by cases x; cases y; simpa using h) rfl
theorem gq71:Tryz.prog.eqGuardType Tryz.prog.depth 71=false:=by kernel_rfl
theorem ky61:Dv Tryz.prog 61 (Av 32 u8R) 2:=Dv.arr (Dv.u8 underlying5) underlying61 ti5 ty5 rfl
end
section
variable {ro:Option Nat}
section
variable {α:Type} {C:World->World->Prop} {P:Program} {Γ:Ctx} {l:AQ} {res:Res} {d:Tmp} {ty:TypeId} {pos:String} {after:Array Edge} {g:Option (Nat × Bool)} {R:Rep α}
def VwE (R:Rep α) (v:Value) (L x:List α) (E:Ent):Prop:=∀ S w u,E.holds S w u->(Ent.vw R v L x).holds S w u
theorem vwW {v:Value} {L:List α}:VwE R v L L (.val v):=λ_ _ _ h=>.inl ⟨h.1,rfl, by rw[h.1]; exact h.2⟩
theorem aW {os:List Operand} {ps:List Ent} {o:Operand} {v:Value} {L:List α} (h:opE l o=some (.val v)) (k:Cm l os ps):Cm l (o::os) (.vw R v L L::ps):=⟨⟨_,h,vwW⟩,k⟩
theorem Y9 {S:Blk} {w:World} {u v:Value} {T:TypeId} {L x:List α} (h:(Ent.vw R v L x).holds S w u) (M:(AK.list R T L).holds S w v) :
  (u=.slice none 0 0/\x=[])\/∃ k o sp cap i,u=.slice (some ⟨k,o,sp⟩) x.length cap/\AM v=some k/\x.length<=cap/\cap<=maxLen/\(x≠[]->sp=none/\o=i * R.sz)/\(L.drop i).take x.length=x:=by
 rcases h with ⟨rfl,rfl,-⟩ | h | h
 ·rcases M with ⟨rfl,rfl⟩ | ⟨b',ob,g1,g2,bb,cp,Cc,rfl,rfl,O,U,g5,g6⟩
  ·exact .inl ⟨rfl,rfl⟩
  ·exact .inr ⟨bb,0,none,cp,0,rfl,rfl,O,U, λ_=>⟨rfl, by simp⟩, by simp⟩
 ·exact .inl h
 ·exact .inr h
theorem ixQ {β:Type} {b L:List α} {y:α} {k:IntKind} {f:β->Int} {j:β} {x z':Operand} {T e E:TypeId} {z v:Value} {by_:Nat} (r:Nat) (hx:opE l x=some (.vw R v L b)) (hr:lr res r=some (v,.list R E L)) (hj:opE l z'=some (.rd (Bm k f) j)) (hy:idx b (f j)=some y) (hT:P.underlying T=some (.slice e)) (hE:TI P e z R.sz by_) :
  Run C P Γ l res ⟨some d,.indexAddr T x z',ty,pos,after,g⟩ (.vp R v L y):=λa w O=>by
 obtain⟨k1,U,M⟩:=DA hy;have a1:a.eval z'=.int k ((f j).toNat:Int):=by rw[Ca (O.vl hj)]; congr 1; omega
 rcases Y9 (O.vl hx) (O.conts r v _ hr) with ⟨k5,rfl⟩ | ⟨bk,o,sp,cap,n,h5,q1,q2,q3,q4,q5⟩
 ·simp at M
 ·have a2:b≠[]:=λe=>by rw[e] at M; simp at M
  obtain⟨rfl,rfl⟩:=q4 a2;refine⟨.pointer (some ⟨bk,n * R.sz+(f j).toNat * R.sz,none⟩), λw' _=>?_,bk,n+(f j).toNat, by rw[Nat.add_mul],q1,?_⟩
  ·generalize (f j).toNat=jn at *;simp[execOp,h5,a1,Instr.indexAt,asIntOf,run_underlying hT,M,D9 hE,D8]
  ·rw[<- q5,List.getElem?_take,if_pos M,List.getElem?_drop] at U;exact U
theorem ldQ {ws:List Nat} [LC C res ws] {L:List α} {y:α} {t E:TypeId} {x:Operand} {v:Value} (r:Nat) (hx:opE l x=some (.vp R v L y)) (hr:lr res r=some (v,.list R E L)) (hT:BJ P t R.agg R.sz) (hw:ws.contains r=false) :
  Run C P Γ l res ⟨some d,.load t x,ty,pos,after,g⟩ (.rd R y):=λa w U=>by
 obtain⟨k,n,h1,M,hy⟩:=U.vl hx;have a1:idx L (n:Int)=some y:=by unfold idx; rw[if_pos (by omega)]; simpa using hy
 have hf:Foc (.list R E L) (n * R.sz) R y (λy=>.list R E (L.set n y)):=by
  have:=Foc.el (R:=R) (T:=E) a1
  simpa using this
 rcases U.conts r v _ hr with ⟨q1,-⟩ | ⟨b,o,h2,h3,h4⟩
 ·rw[q1] at M; cases M
 ·obtain⟨b',Cc,T,a',cs,dd,k1,rfl,k3,k4,k5,-⟩:=hf.2 _ w v o h4;have e:b=b':=by have:=Ji k1; rw[h2] at this; cases this; rfl
  subst e;have M:some b=some k:=by rw[<- h2,M]
  cases M
  refine⟨R.val cs, λw' O=>?_,cs,k5,rfl⟩;have a2:w'.heap[k]? = some (.cells Cc T (0,0)):=(CW.at O U hr h2 hw).trans h3
  have:=Bx.load (P:=P) a2 k3 (R.mono (CW.stay O) k5) hT
  rw[k4] at this;simp[execOp,h1,Instr.loadAt,Instr.sureAddr,this]
def Ent.vf {α β:Type} (R:Rep β) (v:Value) (b:List β) (T:Rep α) (y:α):Ent:=⟨λ_ _ u=>∃ k i off x set,u=.pointer (some ⟨k,i * R.sz+off,none⟩)/\AM v=some k/\b[i]? = some x/\AV R x off T y set, λ_ h=>h⟩
theorem faQ {β:Type} {L:List α} {y:α} {off:Nat} {T:Rep β} {z:β} {set:β->α} {S:TypeId} {x:Operand} {i:Nat} {fs:Array Field} {fd:Field} {u:Value} {sz by_:Nat} {v:Value} (M:opE l x=some (.vp R v L y)) (p:AV R y off T z set)
  (hS:P.underlying S=some (.struct fs)) (hi:fs[i]? = some fd) (O:fd.offset=off) (hF:TI P fd.type u (sz+1) by_) :
  Run C P Γ l res ⟨some d,.fieldAddr S x i,ty,pos,after,g⟩ (.vf R v L T z):=λa w U=>by
 obtain⟨k,n,h1,hk,hy⟩:=U.vl M;exact⟨_, λw' _=>NU hS hi hF h1 (D8 _ _ _),k,n,off,y,set, by rw[O],hk,hy,p⟩
theorem ldVf {β:Type} {ws:List Nat} [LC C res ws] {L:List β} {T:Rep α} {y:α} {R:Rep β} {t E:TypeId} {x:Operand} {v:Value} (r:Nat) (hx:opE l x=some (.vf R v L T y)) (hr:lr res r=some (v,.list R E L)) (hT:BJ P t T.agg T.sz) (hw:ws.contains r=false) :
  Run C P Γ l res ⟨some d,.load t x,ty,pos,after,g⟩ (.rd T y):=λa w U=>by
 obtain⟨k,n,off,x0,set,h1,M,hy,p⟩:=U.vl hx;have a1:idx L (n:Int)=some x0:=by unfold idx; rw[if_pos (by omega)]; simpa using hy
 have a2:Foc (.list R E L) (n * R.sz) R x0 (λy=>.list R E (L.set n y)):=by
  have:=Foc.el (R:=R) (T:=E) a1
  simpa using this
 have hf:=a2.part p;rcases U.conts r v _ hr with ⟨q1,-⟩ | ⟨b,o,h2,h3,h4⟩
 ·rw[q1] at M; cases M
 ·obtain⟨b',Cc,T',a',cs,dd,k1,rfl,k3,k4,k5,-⟩:=hf.2 _ w v o h4;have e:b=b':=by have:=Ji k1; rw[h2] at this; cases this; rfl
  subst e;have M:some b=some k:=by rw[<- h2,M]
  cases M
  refine⟨T.val cs, λw' O=>?_,cs,k5,rfl⟩;have a6:w'.heap[k]? = some (.cells Cc T' (0,0)):=(CW.at O U hr h2 hw).trans h3
  have:=Bx.load (P:=P) a6 k3 (T.mono (CW.stay O) k5) hT
  rw[k4] at this;simp[execOp,h1,Instr.loadAt,Instr.sureAddr,this]
end
section
variable {ρ α:Type} {P:Program} {Γ:Ctx} {l:AQ} {res:Res} {m:Option ρ} {os rest:List Oper} {N Q:ρ->Exit->Act->World->Prop} {c:Code} {e:Exit}
end
end
section
def AK.is (M:Obj):AK where
 nil _ _ _:=False
 nilm _ h:=h
 nilb h:=h.elim
 rel _ _ _ o:=o=M
 mono _ h:=h
def Ent.clo (gf:FuncId) (pin:List Ent):Ent:=⟨λS w v=>∃ vs,BI S w pin vs/\v=.func (.func gf) #[] vs.toArray, λk h=>by obtain⟨vs,h1,h2⟩:=h; exact⟨vs,h1.mono k,h2⟩⟩
def Ib (V:Blk) (W W':World):Blk:=λb=>V b\/(W.heap.size<=b/\b<W'.heap.size)
structure ItC {α:Type} (P:Program) (gf:FuncId) (R:Rep α) (pin:List Ent) (it:∀ {σ:Type},(α->σ->Option σ)->(σ->Bool)->σ->Option σ):Prop where
 run:∀ {σ:Type} (Y:α->σ->Option σ) (go:σ->Bool) (J:Blk->σ->World->Prop) (V:Blk) (l:Nat) (vs:List Value) (w:World) (s s':σ),it Y go s=some s'->go s=true ->
  BI V w pin vs->J V s w->(∀ V s W,J V s W->∀ b,V b->b<W.heap.size)->(∀ V s W W',J V s W->Ext W W'->J (Ib V W W') s W') ->
  (∀ V s s' x u W,Y x s=some s'->go s=true->J V s W->(Ent.rd R x).holds V W u->YieldAt Fence.wide 0 P l #[u] W λe W'=>e=.returned (.bool (go s'))/\J V s' W'/\C5 V W W') ->
  Calls P gf (#[.func (.yield l) #[] #[]]++vs.toArray) w λe W'=>(∃ v,e=.returned v)/\∃ V',J V' s' W'
def FW {α β τ:Type} (Y:α->τ->Option (Sum β τ)) (x:α):Sum β τ->Option (Sum β τ)
 | .inr t=>Y x t
 | .inl _=>none
def EZ {β τ:Type} (rec:Loop):Sum β τ->Loop
 | .inr _=>rec
 | .inl _=>{ rec with state:=.done,pending:=some .ret }
def SB {β τ:Type}:Sum β τ->Option Code
 | .inr _=>none
 | .inl _=>some .ret
def Ya {β τ:Type}:Sum β τ->Exit
 | .inr _=>.normal
 | .inl _=>.ret
def bsOf {β τ:Type} (Br:β->(Nat->Value)->Res) (Bs:τ->(Nat->Value)->Res):Sum β τ->(Nat->Value)->Res
 | .inr t=>Bs t
 | .inl b=>Br b
abbrev E6 (n:Nat) (H:Blk) (rin:Res) (w:World) (ds:List Deferred):Ctx:=⟨n, λb=>b<w.heap.size/\¬ Bof rin b,H,w,ds⟩
section
variable {ρ α σ β τ:Type} {P:Program} {Γ:Ctx} {l L:AQ} {res:Res} {A:Asn} {Q:ρ->Exit->Act->World->Prop}
theorem Sta.react {a a':Act} {w:World} {H:Blk} {n:Nat} {ds ds':List Deferred} (M:Sta (E6 n H res w ds) l res a w) (O:a'.tmps.size=n) (hd:a'.defers=ds') {L:AQ}
  (U:∀ t e,lk L t=some e->∃ v,a'.tmps[t]? = some v/\e.holds (Shr H res w) w v):Sta (E6 n H res w ds') L res a' w :=
 ⟨O,hd,U,M.conts,M.excl,M.own,C5.rfl', λb hb=>hb.1,M.hid⟩
theorem Sta.stayR {a a':Act} {w w':World} {H:Blk} {n:Nat} {ds:List Deferred} {res':Res} {l':AQ} (h:Sta (E6 n H res w ds) l' res' a' w'):Bj (Shr H res w) (Shr H res' w') w w':=λb hb=>by
 have hK:(E6 n H res w ds).K b:=⟨hb.1, λ⟨r,v,c,h1,h2⟩=>hb.2.1 r v c h1 h2⟩
 exact⟨⟨Nat.lt_of_lt_of_le hb.1 h.keep.size, λr v c h1 h2=>h.own r v c h1 b h2 hK,hb.2.2⟩,h.keep.block b hK⟩
structure RngJ (P:Program) (Γ:Ctx) (L:AQ) (a0:Act) (H V:Blk) (lp D:Nat) (rec:Loop) (res:Res) (W:World):Prop where
 st:Sta (E6 Γ.n H res W Γ.ds) L res a0 W
 keep:C5 Γ.K Γ.w0 W
 own:∀ r v c b,lr res r=some (v,c)->AM v=some b->¬ Γ.K b/\¬ V b
 hl:W.heap[lp]? = some (.loop rec)
 hD:W.heap[D]? = some (.deferred (some []))
 vlt:∀ b,V b->b<W.heap.size/\¬ H b
theorem Sta.extR {a:Act} {w w':World} {H:Blk} {n:Nat} {ds:List Deferred} (h:Sta (E6 n H res w ds) l res a w) (k:Ext w w'):Sta (E6 n H res w' ds) l res a w':=by
 have h2:=h.ext k;exact⟨h2.size,h2.defers,h2.slots,h2.conts,h2.excl, λr v c h b hb M=>M.2 ⟨r,v,c,h,hb⟩,C5.rfl', λb hb=>hb.1, λb hb=>⟨Nat.lt_of_lt_of_le (h.hid b hb).1 k.size,(h.hid b hb).2⟩⟩
theorem RngJ.ext {a0:Act} {H V:Blk} {lp D:Nat} {rec:Loop} {W W':World} (h:RngJ P Γ L a0 H V lp D rec res W) (hK:∀ b,Γ.K b->b<Γ.w0.heap.size) (k:Ext W W'):RngJ P Γ L a0 H (Ib V W W') lp D rec res W' :=
 ⟨h.st.extR k,h.keep.ext hK k, λr v c b h1 h2=>⟨(h.own r v c b h1 h2).1, λhb=>by
   rcases hb with hb | hb
   ·exact(h.own r v c b h1 h2).2 hb
   ·have:=(h.st.conts r v c h1).lt h2; omega⟩,(k.block lp (Array.getElem?_eq_some_iff.1 h.hl).1).trans h.hl,(k.block D (Array.getElem?_eq_some_iff.1 h.hD).1).trans h.hD,
  λb hb=>by
   rcases hb with hb | hb
   ·exact⟨Nat.lt_of_lt_of_le (h.vlt b hb).1 k.size,(h.vlt b hb).2⟩
   ·exact⟨hb.2, λhh=>by have:=(h.st.hid b hh).1; omega⟩⟩
def SD (lp:Nat) (P:Program) (body:Code) (Qb:ρ->Exit->Act->World->Prop):ρ->Exit->Act->World->Prop:=λr e a w=>e=.normal/\∃ w₂,(Instr.beginRound lp).run P w=.ok () w₂/\wpM (some lp) P body (Qb r) a w₂
def Oa (n:Nat) (H:Blk) (lp:Nat) (rec:Loop) (W:World) (res0:Res) (res':(Nat->Value)->Res):Asn:=λa w =>
 ∃ (res2:Res) (W2:World),C5 (λb=>b<W.heap.size/\¬ Bof res0 b/\b≠lp) W W2/\(∀ b,b<W.heap.size->¬ Bof res0 b->¬ Bof res2 b)/\W2.heap[lp]? = some (.loop { rec with state:=.busy })/\∃ nv',Sta (ctx n H res2 W2) [] (res' nv') a w
def Lz (n:Nat) (H:Blk) (lp:Nat) (rec:Loop) (W:World) (res0:Res) (Br:β->(Nat->Value)->Res) (Bs:τ->(Nat->Value)->Res):Sum β τ->Exit->Act->World->Prop
 | .inr t,e,a,w=>e=.normal/\Oa n H lp rec W res0 (Bs t) a w
 | .inl b,e,a,w=>e=.ret/\Oa n H lp rec W res0 (Br b) a w
theorem Yb {n:Nat} {H:Blk} {lp:Nat} {rec:Loop} {W:World} {res0:Res} {Br:β->(Nat->Value)->Res} {Bs:τ->(Nat->Value)->Res} (s:Sum β τ) (a:Act) (w:World):¬ Lz n H lp rec W res0 Br Bs s .outgrown a w:=λh=>by
 cases s <;> exact absurd h.1 (by simp)
def SE (P:Program) (n:Nat) (R:Rep α) (p:Tmp) (L:AQ) (assign body:Code) (Br:β->(Nat->Value)->Res) (Bs:τ->(Nat->Value)->Res) (Y:α->τ->Option (Sum β τ)):Prop :=
 ∀ (lp:Nat) (rec:Loop) (H:Blk) (W:World) (M:Nat->Value) (x:α) (s:τ),rec.state=.ready->H lp->W.heap[lp]? = some (.loop rec) ->
  G (some lp) P (Sta (ctx n H (Bs s M) W) ((p,.rd R x)::L) (Bs s M)) assign (SD lp P body (Lz n H lp rec W (Bs s M) Br Bs)) (Y x s)
theorem Sta.turn {a:Act} {w:World} {H:Blk} {n lp:Nat} {ds:List Deferred} {res0:Res} {w0:World} (h:Sta (E6 n H res0 w0 ds) l res a w) (M:H lp) (o:Obj) (hK:∀ b,H b->b<(w.putObj lp o).heap.size/\¬ Bof res b):Sta (E6 n H res (w.putObj lp o) ds) l res a (w.putObj lp o):=by
 have O:Bj (Shr H res w) (Shr H res (w.putObj lp o)) w (w.putObj lp o):=λb hb=>⟨⟨by simpa using hb.1,hb.2⟩,World.putObj_heap_other (λe=>hb.2.2 (e ▸ M))⟩;refine⟨h.size,h.defers, λt e ht=>?_, λr v c U=>(h.conts r v c U).mono O (λb hb=>World.putObj_heap_other (λe=>(hK lp M).2 ⟨r,v,c,U,e ▸ hb⟩)),h.excl, λr v c h b hb hk=>hk.2 ⟨r,v,c,h,hb⟩,C5.rfl', λb hb=>hb.1,hK⟩;obtain⟨u,h1,h2⟩:=h.slots t e ht
 exact⟨u,h1,e.mono O h2⟩
theorem Yc {n lp:Nat} {rec:Loop} {H:Blk} {W:World} {res0 res:Res} {body:Code} {m:Option ρ} (hr:rec.state=.ready) (O:H lp) (hl:W.heap[lp]? = some (.loop rec))
  (h:∀ W2,C5 (λb=>b<W.heap.size/\¬ Bof res0 b/\b≠lp) W W2->(∀ b,b<W.heap.size->¬ Bof res0 b->¬ Bof res b)->W2.heap[lp]? = some (.loop { rec with state:=.busy })->G (some lp) P (Sta (ctx n H res W2) l res) body Q m) :
  GE (Sta (ctx n H res0 W) l res) .normal (SD lp P body Q) m:=λa w M r hm=>by
 have a2:lp<W.heap.size:=(Array.getElem?_eq_some_iff.1 hl).1;have hKl:(ctx n H res0 W).K lp:=M.hid lp O;have U:w.heap[lp]? = some (.loop rec):=(M.keep.block lp hKl).trans hl;have hin2:lp<w.heap.size:=(Array.getElem?_eq_some_iff.1 U).1;have a1:∀ b,H b->b<w.heap.size/\¬ Bof res b:=λb hb=>by
  have hk:=M.hid b hb;exact⟨Nat.lt_of_lt_of_le hk.1 M.keep.size, λ⟨r,v,c,h1,h2⟩=>M.own r v c h1 b h2 hk⟩
 refine⟨rfl,_,run_beginRound U hr,?_⟩;refine h (w.putObj lp (.loop { rec with state:=.busy })) ?_ (λb h1 h2 ⟨r,v,c,h3,h4⟩=>M.own r v c h3 b h4 ⟨h1,h2⟩) (World.putObj_heap_same hin2) a _ ?_ r hm
 ·exact⟨M.keep.os,M.keep.tape,M.keep.output, by simpa using M.keep.size, λb hb=>(World.putObj_heap_other hb.2.2).trans (M.keep.block b ⟨hb.1,hb.2.1⟩)⟩
 ·exact M.turn O _ (λb hb=>by have:=a1 b hb; exact⟨by simpa using this.1,this.2⟩)
theorem RngJ.round {n:Nat} {R:Rep α} {p:Tmp} {assign body:Code} {Br:β->(Nat->Value)->Res} {Bs:τ->(Nat->Value)->Res} {Y:α->τ->Option (Sum β τ)} (ap:SE P n R p L assign body Br Bs Y) (hn:Γ.n=n) (hp:Nat.blt p n=true) {a0:Act} {H V:Blk} {lp D:Nat} {rec:Loop} {W:World} {s:τ} {s':Sum β τ} {x:α} {u:Value} {fn:Nat} {O:Nat->Value}
  (U:rec = { state:=.ready,pending:=none,fn,tmps:=a0.tmps,params:=#[p],assign,body,defers:=D }) (a6:H lp) (hDp:H D) (aq:D≠lp)
  (hK:∀ b,Γ.K b->b≠lp/\b≠D) (ak:∀ b,Γ.K b->b<Γ.w0.heap.size) (hJ:RngJ P Γ L a0 H V lp D rec (Bs s O) W) (hu:(Ent.rd R x).holds (Shr H (Bs s O) W) W u) (hY:Y x s=some s') :
  YieldAt Fence.wide 0 P lp #[u] W λe W'=>e=.returned (.bool s'.isRight)/\(∃ nv',RngJ P Γ L a0 H V lp D (EZ rec s') (bsOf Br Bs s' nv') W')/\C5 V W W':=by
 subst hn;have hy:=run_yield (P:=P) (args:=#[u]) hJ.hl (by rw[U]; rfl);refine⟨_,_,_,_,hy,roundIn_of_wpIn trivial ?_⟩;have ar:(rec.params.zip #[u]).foldl (λtmps (t,a)=>tmps.setIfInBounds t a) rec.tmps=a0.tmps.setIfInBounds p u:=by subst U; simp
 rw[ar, show rec.assign=assign by rw[U], show rec.body=body by rw[U]];have a1:=hJ.st;have av:p<Γ.n:=Eq.mp Nat.blt_eq hp;have hz:a0.tmps.size=Γ.n:=a1.size;have hslots:∀ t e,lk ((p,.rd R x)::L) t=some e->∃ v,(a0.tmps.setIfInBounds p u)[t]? = some v/\e.holds (Shr H (Bs s O) W) W v:=λt e ht=>by
  rw[C4] at ht;by_cases hh:p=t
  ·subst hh;rw[if_pos rfl] at ht; cases ht
   exact⟨u, by rw[Array.getElem?_setIfInBounds,if_pos rfl,if_pos (by rw[hz]; exact av)],hu⟩
  ·rw[if_neg hh] at ht;obtain⟨v,h1,h2⟩:=a1.slots t e ht;exact⟨v, by rw[Array.getElem?_setIfInBounds_ne hh]; exact h1,h2⟩
 have hround:Sta (ctx Γ.n H (Bs s O) W) ((p,.rd R x)::L) (Bs s O) { tmps:=a0.tmps.setIfInBounds p u,defers:=[] } W:=a1.react (ds':=[]) (by simpa using a1.size) rfl hslots;have hready:rec.state=.ready:=by rw[U]
 have hb:=ap lp rec H W O x s hready a6 hJ.hl _ W hround s' hY (λa w h=>absurd h.1 (by simp));refine wpIn_mono hb ?_
 rintro e a₁ wa ⟨rfl,w₂,am,aa⟩
 refine⟨w₂,am,?_⟩;refine wpIn_mono (aa (λa w h=>Yb _ _ _ h)) ?_;intro e a₃ W3 af;obtain⟨he,ao⟩:e=Ya s'/\Oa Γ.n H lp rec W (Bs s O) (bsOf Br Bs s') a₃ W3:=by
  cases s' with
  | inr t=>exact af
  | inl b=>exact af
 obtain⟨res2,W2,a2,ah,aw,nv',hS⟩:=ao;have ax:(ctx Γ.n H res2 W2).K lp:=hS.hid lp a6;have ai:W3.heap[lp]? = some (.loop { rec with state:=.busy }):=(hS.keep.block lp ax).trans aw;obtain⟨jmp,a7⟩:∃ j:Option Code,j=SB s':=⟨_,rfl⟩
 have a8:=run_endRound (P:=P) jmp ai;have ab:(Obj.loop { { rec with state:=.busy } with state:=if jmp.isNone=true then .ready else .done,pending:=jmp })=.loop (EZ rec s'):=by
  rw[a7,U]
  cases s' <;> rfl
 rw[ab] at a8;have hlp3:lp<W3.heap.size:=(Array.getElem?_eq_some_iff.1 ai).1;have M:C5 (λb=>b<W.heap.size/\¬ Bof (Bs s O) b/\b≠lp) W (W3.putObj lp (.loop (EZ rec s'))):=by
  refine⟨hS.keep.os.trans a2.os,hS.keep.tape.trans a2.tape,hS.keep.output.trans a2.output,?_, λb hb=>?_⟩
  ·have:=Nat.le_trans a2.size hS.keep.size; simpa using this
  ·have h1:(ctx Γ.n H res2 W2).K b:=⟨Nat.lt_of_lt_of_le hb.1 a2.size,ah b hb.1 hb.2.1⟩
   exact(World.putObj_heap_other hb.2.2).trans ((hS.keep.block b h1).trans (a2.block b hb))
 have hnB:∀ b,b<W.heap.size->¬ Bof (Bs s O) b->¬ Bof (bsOf Br Bs s' nv') b:=λb h1 h2 ⟨r,v,c,h3,h4⟩=>hS.own r v c h3 b h4 ⟨Nat.lt_of_lt_of_le h1 a2.size,ah b h1 h2⟩;have hKn:∀ b,Γ.K b->b<W.heap.size/\¬ Bof (Bs s O) b:=λb hb=>⟨Nat.lt_of_lt_of_le (ak b hb) hJ.keep.size, λ⟨r,v,c,h1,h2⟩=>(hJ.own r v c b h1 h2).1 hb⟩;have hVn:∀ b,V b->b<W.heap.size/\¬ Bof (Bs s O) b:=λb hb=>⟨(hJ.vlt b hb).1, λ⟨r,v,c,h1,h2⟩=>(hJ.own r v c b h1 h2).2 hb⟩
 have hVl:∀ b,V b->b≠lp:=λb hb e=>(hJ.vlt b hb).2 (e ▸ a6);have hDn:D<W.heap.size/\¬ Bof (Bs s O) D:=a1.hid D hDp
 have ac:=hS.turn a6 (.loop (EZ rec s')) (λb hb=>by
  have hk:=hS.hid b hb
  exact⟨by have:=Nat.lt_of_lt_of_le hk.1 hS.keep.size; simpa using this, λ⟨r,v,c,h1,h2⟩=>hS.own r v c h1 b h2 hk⟩)
 have ad:Bj (Shr H (Bs s O) W) (Shr H (bsOf Br Bs s' nv') (W3.putObj lp (.loop (EZ rec s')))) W (W3.putObj lp (.loop (EZ rec s'))):=λb hb=>by
  have aj:¬ Bof (Bs s O) b:=λ⟨r,v,c,h1,h2⟩=>hb.2.1 r v c h1 h2;have ay:b≠lp:=λe=>hb.2.2 (e ▸ a6);exact⟨⟨Nat.lt_of_lt_of_le hb.1 M.size, λr v c h1 h2=>hnB b hb.1 aj ⟨r,v,c,h1,h2⟩,hb.2.2⟩,M.block b ⟨hb.1,aj,ay⟩⟩
 have ae:∀ (R:Ending->World->Prop),R (.returned (.bool jmp.isNone)) (W3.putObj lp (.loop (EZ rec s')))->roundPost P lp R e a₃ W3:=λR hR=>by
  subst he a7
  cases s' with
  | inr t=>exact⟨_,_,a8,hR⟩
  | inl b=>exact⟨_,_,a8,hR⟩
 refine ae _ ⟨by subst a7; cases s' <;> rfl,⟨nv',?_⟩,?_⟩
 ·refine⟨ac.react a1.size a1.defers (λt e ht=>?_),?_,?_,World.putObj_heap_same hlp3,?_,?_⟩
  ·obtain⟨v,h1,h2⟩:=a1.slots t e ht;exact⟨v,h1,e.mono ad h2⟩
  ·exact hJ.keep.tr M (λb hb=>⟨(hKn b hb).1,(hKn b hb).2,(hK b hb).1⟩)
  ·intro r v c b h1 h2;exact⟨λhb=>hnB b (hKn b hb).1 (hKn b hb).2 ⟨r,v,c,h1,h2⟩, λhb=>hnB b (hVn b hb).1 (hVn b hb).2 ⟨r,v,c,h1,h2⟩⟩
  ·exact(M.block D ⟨hDn.1,hDn.2,aq⟩).trans hJ.hD
  ·exact λb hb=>⟨Nat.lt_of_lt_of_le (hVn b hb).1 M.size,(hJ.vlt b hb).2⟩
 ·exact⟨M.os,M.tape,M.output,M.size, λb hb=>M.block b ⟨(hVn b hb).1,(hVn b hb).2,hVl b hb⟩⟩
theorem Yd {n lp:Nat} {rec:Loop} {H:Blk} {W W2:World} {res0 res2:Res} {Br:β->(Nat->Value)->Res} {Bs:τ->(Nat->Value)->Res} {s':τ} (vs:List Value) (ns:List Nat)
  (M:C5 (λb=>b<W.heap.size/\¬ Bof res0 b/\b≠lp) W W2) (O:∀ b,b<W.heap.size->¬ Bof res0 b->¬ Bof res2 b) (hl:W2.heap[lp]? = some (.loop { rec with state:=.busy })) (U:BE res (Bs s' (nvl vs)) ns) :
  GE (Sta (ctx n H res2 W2) l res) .normal (Lz n H lp rec W res0 Br Bs) (some (.inr s')):=λa w ha r hr=>by
 cases hr
 exact⟨rfl,res2,W2,M,O,hl,nvl vs,ha.sub ns trivial U⟩
theorem Ye {n lp:Nat} {rec:Loop} {H:Blk} {W W2:World} {res0 res2:Res} {Br:β->(Nat->Value)->Res} {Bs:τ->(Nat->Value)->Res} {b:β} (vs:List Value) (ns:List Nat)
  (M:C5 (λb=>b<W.heap.size/\¬ Bof res0 b/\b≠lp) W W2) (O:∀ b,b<W.heap.size->¬ Bof res0 b->¬ Bof res2 b) (hl:W2.heap[lp]? = some (.loop { rec with state:=.busy })) (U:BE res (Br b (nvl vs)) ns) :
  GE (Sta (ctx n H res2 W2) l res) .ret (Lz n H lp rec W res0 Br Bs) (some (.inl b)):=λa w ha r hr=>by
 cases hr
 exact⟨rfl,res2,W2,M,O,hl,nvl vs,ha.sub ns trivial U⟩
theorem Yf {b:Bool} (h:(!b)=false):b=true:=by cases b <;> simp_all
def Gx (v:Value):Deferred:={ target:=.collected ((AM v).getD 0),args:=#[] }
def AK.mark:AK:=.is (.deferred (some []))
def SF (n:Nat) (H:Blk) (rin:Res) (w0:World) (L:AQ) (rm:Nat) (res:(Nat->Value)->Res):Asn:=λa w=>∃ (M:Nat->Value) (d:Value),Sta (E6 n H rin w0 [Gx d]) L ((rm,some (d,.mark))::res M) a w
theorem Yg {n:Nat} {H:Blk} {rin:Res} {w0:World} {ib:Nat} {t p:Tmp} {assign body:Code} {R:Rep α} {gf:FuncId} {pin:List Ent} {it:∀ {σ:Type},(α->σ->Option σ)->(σ->Bool)->σ->Option σ} {Y:α->τ->Option (Sum ρ τ)} {s0:τ}
  (Br:ρ->(Nat->Value)->Res) (Bs:τ->(Nat->Value)->Res) (L:AQ) (rm:Nat) (U:List Value) (ns:List Nat) (hC:ItC P gf R pin it) (ah:∀ args w,(callFunc gf args).run P w=.ok (.enter gf args) w) (ht:lk l t=some (.clo gf pin)) (hL:Ei l L) (hS:BE res (Bs s0 (nvl U)) ns)
  (hp:Nat.blt p n=true) (ai:SE P n R p L assign body Br Bs Y)
  (af:∀ b O d,GE (Sta (E6 n H rin w0 [Gx d]) L ((rm,some (d,.mark))::Br b O)) .ret Q (some b)) :
  G none P (Sta (ctx n H rin w0) l res) (.block ib (.rangeFunc (.tmp t) #[p] assign body)) (midR (λs'=>SF n H rin w0 L rm (Bs s')) Q) (it (FW Y) Sum.isRight (.inr s0)):=by
 refine AD ?_;intro a w ha s' aj;refine(wpIn_wide (n:=0)).1 (wpIn_rangeFunc ?_);intro fn aq;obtain⟨vs,ak,am⟩:=ha.vl (x:=.tmp t) (e:=.clo gf pin) ht;have M:Sta (ctx n H rin w0) L (Bs s0 (nvl U)) a w:=ha.sub ns hL hS;obtain⟨rec,a1⟩:∃ rec:Loop,rec = { state:=.ready,pending:=none,fn,tmps:=a.tmps,params:=#[p],assign,body,defers:=w.heap.size }:=⟨_,rfl⟩
 obtain⟨W1,hW1⟩:∃ W1,(w.alloc (.deferred (some []))).alloc (.loop rec)=W1:=⟨_,rfl⟩
 have hL1:W1.heap[w.heap.size+1]? = some (.loop rec):=by
  rw[<- hW1]; have:=World.alloc_heap_new (w.alloc (.deferred (some []))) (.loop rec); rwa [World.size_alloc] at this
 have hK1:W1.heap[w.heap.size]? = some (.deferred (some [])):=by
  rw[<- hW1]; exact(Below.heap_alloc _ _ _ (by simp)).trans (World.alloc_heap_new w _)
 have hext:Ext w W1:=by
  rw[<- hW1];have h2:=(((Below.refl _ w).alloc (Nat.le_refl _) (.deferred (some []))).alloc (by simp) (.loop rec))
  exact h2
 have ar:W1.heap.size=w.heap.size+2:=by rw[<- hW1]; simp
 obtain⟨H',hH'⟩:∃ H':Blk,H'=λb=>H b\/b=w.heap.size\/b=w.heap.size+1:=⟨_,rfl⟩
 obtain⟨V,hV⟩:∃ V:Blk,V=Shr H (Bs s0 (nvl U)) w:=⟨_,rfl⟩
 have hVlt:∀ b,V b->b<w.heap.size:=λb hb=>by rw[hV] at hb; exact hb.1
 have a2:∀ b,(ctx n H rin w0).K b->b<w.heap.size:=λb hb=>Nat.lt_of_lt_of_le hb.1 ha.keep.size;have ad:Bj (Shr H (Bs s0 (nvl U)) w) (Shr H' (Bs s0 (nvl U)) W1) w W1:=λb hb=>⟨⟨by have:=hb.1; omega,hb.2.1, λhh=>by rw[hH'] at hh; rcases hh with hh | hh | hh; exact hb.2.2 hh; have:=hb.1; omega; have:=hb.1; omega⟩,hext.block b hb.1⟩;have hown1:∀ r v c b,lr (Bs s0 (nvl U)) r=some (v,c)->AM v=some b->b<w.heap.size:=λr v c b h1 h2=>(M.conts r v c h1).lt h2
 have hJ0:RngJ P (ctx n H rin w0) L a H' V (w.heap.size+1) w.heap.size rec (Bs s0 (nvl U)) W1:=by
  refine⟨⟨M.size,M.defers, λt e h=>?_, λr v c h=>?_,M.excl, λr v c h b hb hk=>hk.2 ⟨r,v,c,h,hb⟩,C5.rfl', λb hb=>hb.1, λb hb=>?_⟩,?_,?_,hL1,hK1, λb hb=>⟨by have:=hVlt b hb; omega, λhh=>?_⟩⟩
  ·obtain⟨v,h1,h2⟩:=M.slots t e h; exact⟨v,h1,e.mono ad h2⟩
  ·exact(M.conts r v c h).mono ad (λb hb=>hext.block b (hown1 r v c b h hb))
  ·rw[hH'] at hb;rcases hb with hb | hb | hb
   ·have hk:=M.hid b hb;exact⟨by have:=a2 b hk; omega, λ⟨r,v,c,h1,h2⟩=>M.own r v c h1 b h2 hk⟩
   ·subst hb; exact⟨by omega, λ⟨r,v,c,h1,h2⟩=>by have:=hown1 r v c _ h1 h2; omega⟩
   ·subst hb; exact⟨by omega, λ⟨r,v,c,h1,h2⟩=>by have:=hown1 r v c _ h1 h2; omega⟩
  ·exact M.keep.ext M.old hext
  ·intro r v c b h1 h2;exact⟨M.own r v c h1 b h2, λhb=>by rw[hV] at hb; exact hb.2.1 r v c h1 h2⟩
  ·have a8:=hVlt b hb;rw[hV] at hb;rw[hH'] at hh;rcases hh with hh | hh | hh
   ·exact hb.2.2 hh
   ·omega
   ·omega
 have hpinV:BI V W1 pin vs:=by
  refine ak.mono (λb hb=>⟨?_,hext.block b hb.1⟩);rw[hV]; exact(hS.stay b hb).1
 refine⟨w.heap.size+1,[{ target:=.collected w.heap.size,args:=#[] }],W1,{ target:=.fn (.func gf) vs.toArray,args:=#[.func (.yield (w.heap.size+1)) #[] #[]] },W1,gf,
  #[.func (.yield (w.heap.size+1)) #[] #[]]++vs.toArray,W1,?_,?_, λ_ _=>trivial,?_,(λh=>by cases h),?_⟩
 ·rw[<- hW1,a1]; exact run_enterLoop_outer _ _ _ _ _
 ·simp only[rangeCall,resolve,am];simp[go_sem]
 ·simp[invoke,go_sem,ah]
 ·refine callsIn_wide.2 ?_;refine(hC.run (FW Y) Sum.isRight (λV s W=>∃ O,RngJ P (ctx n H rin w0) L a H' V (w.heap.size+1) w.heap.size (EZ rec s) (bsOf Br Bs s O) W) V (w.heap.size+1) vs W1 (.inr s0) s' aj rfl hpinV ⟨_,hJ0⟩ (λV s W h b hb=>by obtain⟨O,h⟩:=h; exact(h.vlt b hb).1) ?_ ?_).mono ?_
  ·rintro V s W W' ⟨O,h⟩ k
   exact⟨O,h.ext (λb hb=>hb.1) k⟩
  ·rintro V s s2 x u W hY ao ⟨O,h⟩ hu
   obtain⟨s,rfl⟩:∃ t,s=.inr t:=by
    cases s with
    | inr t=>exact⟨t,rfl⟩
    | inl b=>exact absurd ao (by simp)
   have hr:=RngJ.round (Γ:=ctx n H rin w0) (V:=V) ai rfl hp a1 (by rw[hH']; exact .inr (.inr rfl)) (by rw[hH']; exact .inr (.inl rfl)) (by omega) (λb hb=>by have:=a2 b hb; exact⟨by omega, by omega⟩) (λb hb=>hb.1) h
    ((Ent.rd R x).mono (S:=V) (λb hb=>⟨⟨(h.vlt b hb).1, λr v c h1 h2=>(h.own r v c b h1 h2).2 hb,(h.vlt b hb).2⟩,rfl⟩) hu) hY
   exact hr
  ·rintro e W' ⟨⟨v,rfl⟩,V',O,hj⟩
   have a6:=run_endLoop (P:=P) hj.hl (by rw[a1]; cases s' <;> simp[EZ])
   have ap:(EZ rec s').pending=SB s':=by rw[a1]; cases s' <;> rfl
   generalize av:Obj.loop { EZ rec s' with state:=.exhausted }=o at a6;rw[ap] at a6;have ac:Sta (E6 n H rin w0 [Gx (.pointer (some ⟨w.heap.size,0,none⟩))]) L ((rm,some (Value.pointer (some ⟨w.heap.size,0,none⟩),AK.mark))::bsOf Br Bs s' O) { a with defers:=[{ target:=.collected w.heap.size,args:=#[] }]++a.defers } (W'.putObj (w.heap.size+1) o):=?_
   ·cases s' with
    | inr t=>exact⟨none,_,a6,rfl,O,_,ac⟩
    | inl b=>exact⟨some .ret,_,a6,wpIn_ret ⟨by simp,af b O _ _ _ ac b rfl⟩⟩
   have a7:=hj.st.turn (by rw[hH']; exact .inr (.inr rfl)) o (λb hb=>by
    have:=hj.st.hid b hb
    exact⟨by simpa using this.1,this.2⟩)
   have hDn:=hj.st.hid w.heap.size (by rw[hH']; exact .inr (.inl rfl));have aa:∀ r v c,lr ((rm,some (Value.pointer (some ⟨w.heap.size,0,none⟩),AK.mark))::bsOf Br Bs s' O) r=some (v,c)->(r=rm/\v=.pointer (some ⟨w.heap.size,0,none⟩)/\c=.mark)\/(r≠rm/\lr (bsOf Br Bs s' O) r=some (v,c)):=λr v c h=>by
    rw[BB] at h
    split at h
    ·rename_i hh; cases h; exact .inl ⟨hh.symm,rfl,rfl⟩
    ·rename_i hh; exact .inr ⟨λe=>hh e.symm,h⟩
   have ab:Bj (Shr H' (bsOf Br Bs s' O) (W'.putObj (w.heap.size+1) o)) (Shr H ((rm,some (Value.pointer (some ⟨w.heap.size,0,none⟩),AK.mark))::bsOf Br Bs s' O) (W'.putObj (w.heap.size+1) o)) (W'.putObj (w.heap.size+1) o) (W'.putObj (w.heap.size+1) o):=λb hb=>⟨⟨hb.1, λr v c h1 h2=>by
    rcases aa r v c h1 with ⟨_,rfl,_⟩ | ⟨_,h3⟩
    ·simp only[AM,Option.some.injEq] at h2;exact hb.2.2 (by rw[hH']; exact .inr (.inl h2.symm))
    ·exact hb.2.1 r v c h3 h2, λhh=>hb.2.2 (by rw[hH']; exact .inl hh)⟩,rfl⟩
   have hD2:(W'.putObj (w.heap.size+1) o).heap[w.heap.size]? = some (.deferred (some [])):=(World.putObj_heap_other (by omega)).trans hj.hD;refine⟨M.size, by simp[Gx,AM,M.defers], λt e h=>?_, λr v c h=>?_, λr v c r2 v2 c2 h h' ae b hb a8=>?_, λr v c h b hb hk=>?_,?_, λb hb=>hb.1,M.hid⟩
   ·obtain⟨v,h1,h2⟩:=a7.slots t e h; exact⟨v,h1,e.mono ab h2⟩
   ·rcases aa r v c h with ⟨_,rfl,rfl⟩ | ⟨_,h3⟩
    ·exact .inr ⟨w.heap.size,_,rfl,hD2,rfl⟩
    ·exact(a7.conts r v c h3).mono ab (λ_ _=>rfl)
   ·rcases aa r v c h with ⟨e1,rfl,_⟩ | ⟨_,h3⟩ <;> rcases aa r2 v2 c2 h' with ⟨e2,rfl,_⟩ | ⟨_,h4⟩
    ·exact ae (e1.trans e2.symm)
    ·simp only[AM,Option.some.injEq] at hb; subst hb; exact hDn.2 ⟨_,_,_,h4,a8⟩
    ·simp only[AM,Option.some.injEq] at a8; subst a8; exact hDn.2 ⟨_,_,_,h3,hb⟩
    ·exact a7.excl r v c r2 v2 c2 h3 h4 ae b hb a8
   ·rcases aa r v c h with ⟨_,rfl,_⟩ | ⟨_,h3⟩
    ·simp only[AM,Option.some.injEq] at hb; subst hb; have:=a2 _ hk; omega
    ·exact(hj.own r v c b h3 hb).1 hk
   ·exact⟨hj.keep.os,hj.keep.tape,hj.keep.output, by have:=hj.keep.size; simpa using this, λb hb=>(World.putObj_heap_other (by have:=a2 b hb; omega)).trans (hj.keep.block b hb)⟩
def endM {ρ:Type} (P:Program) (fn:Func) (H:Blk) (rin:Res) (q:ρ->(Nat->Value)->CL) (w:World):ρ->Exit->Act->World->Prop:=λr=>bodyPostM Fence.wide 0 P fn (endR H rin (q r) w)
theorem Yh {ρ:Type} {P:Program} {f:FuncId} {fn:Func} {c:Code} {pin:List Ent} {rin:Res} {m:Option ρ} {q:ρ->(Nat->Value)->CL} (n:Nat) (U:P.funcs[f]? = some fn) (hb:fn.body=some c) (hn:fn.ntmps=n) (hl:Nat.ble pin.length n=true)
  (h:∀ H w,G none P (Sta (ctx n H rin w) (argS 0 pin) rin) c (endM P fn H rin q w) m):Aj P f pin rin m q:=by
 intro r hr H vs w M hR;have hl:pin.length<=n:=Nat.le_of_ble_eq_true hl;have a1:=M.length;subst hn;refine(callsIn_wide (n:=0)).1 (callsIn_of_wp_marks U hb trivial (wpIn_wide.2 (h H w _ w ?_ r hr)));refine⟨by simp; omega,rfl, λt e ht=>?_,hR.conts,hR.excl, λr v c h1 b h2 h3=>h3.2 ⟨r,v,c,h1,h2⟩,C5.rfl', λb hb=>hb.1, λb hb=>hR.hid b hb⟩;obtain⟨-,v,h1,h2⟩:=Lq M ht;refine⟨v,?_,h2⟩
 simp only[Nat.sub_zero] at h1;have O:t<vs.length:=(List.getElem?_eq_some_iff.1 h1).1;rw[Array.getElem?_append_left (by simpa using O)]
 simpa using h1
theorem Yi (d:Value):(Gx d).target=.collected ((AM d).getD 0):=rfl
theorem Sta.close {n:Nat} {H:Blk} {rin:Res} {w0:World} {a:Act} {w:World} {d:Value} (rm:Nat) (h:Sta (E6 n H rin w0 [Gx d]) l res a w) (hr:lr res rm=some (d,.mark)):∃ w',(Instr.takeDeferred ((AM d).getD 0)).run P w=.ok [] w'/\Sta (ctx n H rin w0) l ((rm,none)::res) { a with defers:=[] } w':=by
 rcases h.conts rm d _ hr with h0 | ⟨b,o,hb,ho,a2⟩
 ·exact h0.elim
 ·have a2:o=.deferred (some []):=a2;subst a2;refine⟨_, by rw[hb]; exact run_takeDeferred ho,?_⟩;simp only[Option.getD_some];have O:∀ r v c,lr ((rm,none)::res) r=some (v,c)->r≠rm/\lr res r=some (v,c):=λr v c h=>by
   rw[BB] at h
   split at h
   ·cases h
   ·rename_i hh; exact⟨λe=>hh e.symm,h⟩
  have U:∀ c,c≠b->(w.putObj b (.deferred none)).heap[c]? = w.heap[c]? := λc M=>World.putObj_heap_other M;have a1:Bj (Shr H res w) (Shr H ((rm,none)::res) (w.putObj b (.deferred none))) w (w.putObj b (.deferred none)):=λc M=>⟨⟨by simpa using M.1, λr v c' h1=>M.2.1 r v c' (O r v c' h1).2,M.2.2⟩,U c (λe=>M.2.1 rm d _ hr (e ▸ hb))⟩;have hbK:=h.own rm d _ hr b hb;refine⟨h.size,rfl, λt e ht=>?_, λr v c h1=>?_, λr v c r2 v2 c2 h1 h2 a6=>h.excl r v c r2 v2 c2 (O r v c h1).2 (O r2 v2 c2 h2).2 a6, λr v c h1=>h.own r v c (O r v c h1).2,⟨h.keep.os,h.keep.tape,h.keep.output, by simpa using h.keep.size, λc M=>(U c (λe=>hbK (e ▸ M))).trans (h.keep.block c M)⟩,h.old,h.hid⟩
  ·obtain⟨v,h1,h2⟩:=h.slots t e ht; exact⟨v,h1,e.mono a1 h2⟩
  ·obtain⟨a6,h2⟩:=O r v c h1;exact(h.conts r v c h2).mono a1 (λc' a7=>U c' (λe=>h.excl r v c rm d _ h2 hr a6 b (e ▸ a7) hb))
theorem SG {ρ:Type} {P:Program} {fn:Func} {n:Nat} {H:Blk} {rin:Res} {w0:World} {q:ρ->(Nat->Value)->CL} {r:ρ} {l:AQ} {res:Res} {rs:List ResultVar} {d:Value} (rm:Nat) (vs:List Value) (ns:List Nat) (U:lr res rm=some (d,.mark)) (hr:fn.results=rs.toArray) (h:Ej P l ((rm,none)::res) rs (q r (nvl vs)).ret) (hs:BE ((rm,none)::res) (q r (nvl vs)).res ns) :
  GE (Sta (E6 n H rin w0 [Gx d]) l res) .ret (endM P fn H rin q w0) (some r):=λa w M r' O=>by
 obtain⟨w',h1,h2⟩:=M.close (P:=P) rm U;obtain⟨-,h3⟩:=Bu vs ns hr h hs _ w' h2 r' O;show LeavesInM Fence.wide 0 P fn a.tmps _ a.defers .returning w;rw[M.defers];exact⟨by simp,.inl ⟨_,w',Yi d,h1,h3⟩⟩
end
end
section
section
variable {P:Program} {ops:Array Oper} {Q:Exit->Act->World->Prop}
theorem SI {o:Oper} {a:Act} {w:World} {Q0:Exit->Act->World->Prop} {next next':Act->World->Prop} (M:∀ a w,next a w->next' a w) (O:∀ e a w,Q0 e a w->Q e a w) (h:o.wp P a w next Q0):o.wpIn Fence.wide 0 P a w next' Q:=by
 refine⟨λ_ _=>trivial,?_⟩;have e:o.semAt Fence.wide.round a.eval=execOp a.eval o:=rfl;rw[e];unfold Oper.wp at h;generalize (execOp a.eval o).run P w=r at h ⊢
 cases r with
 | ok x w' =>
  cases x with
  | enter f args =>
   refine⟨λhh=>(by cases hh),callsIn_wide.2 ?_⟩;have h:Calls P f args w' _:=h;refine h.mono ?_;intro e w'' U
   cases e with
   | returned v=>exact M _ _ U
   | panicked ch=>exact O _ _ _ U
   | outgrown=>obtain⟨a1,w1,h1⟩:=U; exact⟨a1,w1,O _ _ _ h1⟩
  | row r args=>exact⟨λhh=>(by cases hh), λc cs _=>let ⟨v,w'',r,st⟩:=h c cs; ⟨v,w'',M _ _ r,stepsIn_wide.2 st⟩⟩
  | round l f tmps assign body=>exact False.elim h
  | value v=>exact M _ _ h
  | skip=>exact M _ _ h
  | defer d=>exact M _ _ h
  | _=>exact False.elim h
 | halt x w'=>cases x <;> first | exact O _ _ _ h | exact h
def Jo (P:Program) (ops:Array Oper) (Q:Exit->Act->World->Prop) (os:List Oper) (e:Exit) (a:Act) (w:World):Prop:=e=.normal/\wpListIn Fence.wide 0 P ops Q os a w
theorem Ob {os2:List Oper}:∀ (O:List Oper) (a:Act) (w:World),wpList P ops (Jo P ops Q os2) O a w->wpListIn Fence.wide 0 P ops Q (O++os2) a w
 | [],_,_,h=>h.2
 | o::os,a,w,h=>by
  unfold wpList at h;simp only[List.cons_append];unfold wpListIn;have U:∀ a w,¬ Jo P ops Q os2 .outgrown a w:=λa w hh=>absurd hh.1 (by simp);by_cases hw:Region.wanted o (yielded ops a.tmps)=true
  ·rw[if_pos hw] at h ⊢;rcases h with h | ⟨-,a',w',hh⟩
   ·have h2:o.wpIn Fence.wide 0 P a w (wpListIn Fence.wide 0 P ops Q (os++os2)) (Jo P ops Q os2):=SI (λa w=>Ob os a w) (λ_ _ _ h=>h) h;unfold Oper.wpIn at h2 ⊢;refine⟨h2.1,?_⟩;have h2:=h2.2;generalize (o.semAt Fence.wide.round a.eval).run P w=r at h2 ⊢;have hx:∀ ch,¬ Jo P ops Q os2 (.panic ch) a w:=λch hh=>absurd hh.1 (by simp)
    cases r with
    | ok x w' =>
     cases x with
     | enter f args=>exact⟨h2.1,CallsIn.mono h2.2 (λe w'' M=>by
       cases e with
       | returned v=>exact M
       | panicked ch=>exact absurd M.1 (by simp)
       | outgrown=>obtain⟨a1,w1,h1⟩:=M; exact absurd h1.1 (by simp))⟩
     | row r args=>exact h2
     | round l f tmps assign body=>exact⟨h2.1,RoundIn.mono h2.2 (λe w'' M=>by
       cases e with
       | returned v=>exact M
       | panicked ch=>exact absurd M.1 (by simp)
       | outgrown=>obtain⟨a1,w1,h1⟩:=M; exact absurd h1.1 (by simp))⟩
     | value v=>exact h2
     | skip=>exact h2
     | defer d=>exact h2
     | _=>exact h2
    | halt x w'=>cases x <;> first | exact absurd h2.1 (by simp) | exact h2
   ·exact absurd hh (U _ _)
  ·rw[if_neg hw] at h ⊢;exact⟨λ_ _=>trivial,Ob os _ w h⟩
theorem Oc (M:∀ a w,¬ Q .outgrown a w):∀ (os:List Oper) (a:Act) (w:World),wpList P ops Q os a w->wpListIn Fence.wide 0 P ops Q os a w
 | [],_,_,h=>h
 | o::os,a,w,h=>by
  unfold wpList at h;unfold wpListIn;by_cases hw:Region.wanted o (yielded ops a.tmps)=true
  ·rw[if_pos hw] at h ⊢;rcases h with h | ⟨-,a',w',hh⟩
   ·exact SI (λa w=>Oc M os a w) (λ_ _ _ h=>h) h
   ·exact absurd hh (M _ _)
  ·rw[if_neg hw] at h ⊢;exact⟨λ_ _=>trivial,Oc M os _ w h⟩
end
structure IEnv (P:Program) {α:Type} (R:Rep α) (σ:Type) where
 Y:α->σ->Option σ
 go:σ->Bool
 J:Blk->σ->World->Prop
 l:Nat
 hV:∀ V s W,J V s W->∀ b,V b->b<W.heap.size
 hext:∀ V s W W',J V s W->Ext W W'->J (Ib V W W') s W'
 round:∀ V s s' x u W,Y x s=some s'->go s=true->J V s W->(Ent.rd R x).holds V W u->YieldAt Fence.wide 0 P l #[u] W λe W'=>e=.returned (.bool (go s'))/\J V s' W'/\C5 V W W'
section
variable {P:Program} {α σ ρ:Type} {R:Rep α}
abbrev ctxI (n:Nat) (V:Blk) (W:World):Ctx:=⟨n, λb=>b<W.heap.size, λb=>b<W.heap.size/\¬ V b,W,[]⟩
def endI (P:Program) (fn:Func) (E:IEnv P R σ):σ->Exit->Act->World->Prop:=λs'=>bodyPost P fn (λe W'=>(∃ v,e=.returned v)/\∃ V,E.J V s' W')
def iAs (E:IEnv P R σ) (n:Nat) (l:AQ) (s:σ):Asn:=λa w=>∃ V W,E.J V s W/\E.go s=true/\Sta (ctxI n V W) l [] a w
theorem gExI {E:IEnv P R σ} {n:Nat} {l:AQ} {s:σ} {c:Code} {Q:ρ->Exit->Act->World->Prop} {m:Option ρ} (h:∀ V W,E.J V s W->E.go s=true->G none P (Sta (ctxI n V W) l []) c Q m):G none P (iAs E n l s) c Q m:=λa w ⟨V,W,h1,h2,h3⟩=>h V W h1 h2 a w h3
theorem Od {V:Blk} {W w:World} {n b:Nat} (h:Shr (ctxI n V W).H [] w b):Ib V W w b:=by
 by_cases hb:b<W.heap.size
 ·exact .inl (Classical.byContradiction λM=>h.2.2 ⟨hb,M⟩)
 ·exact .inr ⟨by omega,h.1⟩
theorem Yj {gf:FuncId} {fn:Func} {c:Code} {pin:List Ent} {it:∀ {σ:Type},(α->σ->Option σ)->(σ->Bool)->σ->Option σ} (n:Nat) (hf:P.funcs[gf]? = some fn) (hb:fn.body=some c) (hn:fn.ntmps=n) (hl:Nat.ble (pin.length+1) n=true)
  (h:∀ {σ:Type} (E:IEnv P R σ) (V:Blk) (W:World) (s:σ),E.J V s W->E.go s=true->G none P (Sta (ctxI n V W) (argS 0 (.val (.func (.yield E.l) #[] #[])::pin)) []) c (endI P fn E) (it E.Y E.go s)):ItC P gf R pin it:=by
 refine⟨?_⟩;intro σ Y go J V l vs w s s' a1 a2 U hJ hV hext hround;have hl:pin.length+1<=n:=Nat.le_of_ble_eq_true hl;have a8:=U.length;subst hn;obtain⟨E,hE⟩:∃ E:IEnv P R σ,E=⟨Y,go,J,l,hV,hext,hround⟩:=⟨_,rfl⟩
 have a6:E.J V s w:=by rw[hE]; exact hJ
 have hw:=h E V w s a6 (by rw[hE]; exact a2);have e1:it E.Y E.go s=some s':=by rw[hE]; exact a1
 have O:(#[Value.func (.yield l) #[] #[]]++vs.toArray)=((Value.func (.yield l) #[] #[]::vs).toArray):=by simp
 rw[O];have M:Calls P gf (Value.func (.yield l) #[] #[]::vs).toArray w (λe W'=>(∃ v,e=.returned v)/\∃ V',E.J V' s' W'):=by
  refine calls_of_wp hf hb (hw _ w ?_ s' e1);have hvs2:BI (Shr (ctxI fn.ntmps V w).H [] w) w (.val (.func (.yield E.l) #[] #[])::pin) (Value.func (.yield l) #[] #[]::vs):=by
   refine⟨⟨by rw[hE],rfl⟩,U.mono (λb hb=>⟨⟨hV _ _ _ hJ b hb, λr v c h=>by (cases h), λhh=>hh.2 hb⟩,rfl⟩)⟩
  refine⟨by simp; omega,rfl, λt e ht=>?_, λr v c h=>by (cases h), λr v c r' v' c' h=>by (cases h), λr v c h=>by (cases h),C5.rfl', λb hb=>hb, λb hb=>hb.1⟩;obtain⟨-,v,h1,h2⟩:=Lq hvs2 ht;refine⟨v,?_,h2⟩;simp only[Nat.sub_zero] at h1;have a7:t<(Value.func (.yield l) #[] #[]::vs).length:=(List.getElem?_eq_some_iff.1 h1).1;rw[Array.getElem?_append_left (by simpa using a7)]
  simpa using h1
 have hEJ:E.J=J:=by rw[hE]
 rw[hEJ] at M;exact M
variable {E:IEnv P R σ} {V:Blk} {W:World} {l:AQ} {res:Res} {n:Nat} {s:σ}
theorem Sta.atI {a:Act} {w:World} (h:Sta (ctxI n V W) l res a w):Ext W w:=by
 have k:=h.keep;exact⟨k.os,k.tape,k.output,k.size, λb hb=>k.block b hb⟩
theorem SJ {fn:Func} (M:E.J V s W) (hr:fn.results = #[]):GE (Sta (ctxI n V W) l res) .normal (endI P fn E) (some s):=λa w O r' U=>by
 cases U
 exact bodyPost_end (v:=.tuple #[]) (by rw[results_none hr]) O.defers ⟨⟨_,rfl⟩,_,E.hext _ _ _ _ M O.atI⟩
theorem Yk {fn:Func} (M:E.J V s W) (hr:fn.results = #[]):GE (Sta (ctxI n V W) l res) .ret (endI P fn E) (some s):=λa w O r' U=>by
 cases U
 exact bodyPost_ret (v:=.tuple #[]) (by rw[results_none hr]) O.defers ⟨⟨_,rfl⟩,_,E.hext _ _ _ _ M O.atI⟩
def OutF {ρ:Type} (Q:ρ->Exit->Act->World->Prop):Prop:=∀ r a w,¬ Q r .outgrown a w
variable {Q:ρ->Exit->Act->World->Prop}
theorem Yl {ro:Option Nat} {y:Code} (h:OutF Q):OutF (EH ro P y Q):=h
theorem Ym {i:Nat} (h:OutF Q):OutF (blkQ i Q):=h
theorem Yn {τ:Type} {Bs:τ->Asn} (h:OutF Q):OutF (midR Bs Q):=λr a w hh=>by
 cases r with
 | inl r=>exact h _ _ _ hh.2
 | inr t=>exact absurd hh.1 (by simp)
theorem Yo {β τ:Type} {i:Nat} {As:τ->Asn} {M:β->Exit->Act->World->Prop} (h:OutF M):OutF (Fq i As M):=λr a w hh=>by
 cases r with
 | inl r=>exact h _ _ _ hh.2
 | inr t=>exact absurd hh.1 (by simp)
theorem Yp {fn:Func}:OutF (endI P fn E):=λr a w h=>by
 obtain⟨⟨v,h⟩,-⟩:((∃ v,Ending.outgrown=.returned v)/\∃ V,E.J V r w):=h
 cases h
class OutC {ρ:Type} (Q:ρ->Exit->Act->World->Prop):Prop where
 out:OutF Q
instance z1cf {ro:Option Nat} {y:Code} [h:OutC Q]:OutC (EH ro P y Q):=⟨Yl h.out⟩
instance z1ds {i:Nat} [h:OutC Q]:OutC (blkQ i Q):=⟨Ym h.out⟩
instance z1b0 {τ:Type} {Bs:τ->Asn} [h:OutC Q]:OutC (midR Bs Q):=⟨Yn h.out⟩
instance z1cd {β τ:Type} {i:Nat} {As:τ->Asn} {M:β->Exit->Act->World->Prop} [h:OutC M]:OutC (Fq i As M):=⟨Yo h.out⟩
instance z1ba {fn:Func}:OutC (endI P fn E):=⟨Yp⟩
def SK (P:Program) (ops:List Oper) (os:List Oper) (Q:ρ->Exit->Act->World->Prop):ρ->Exit->Act->World->Prop:=λr=>Jo P ops.toArray (Q r) os
theorem SL {A:Asn} {m:Option ρ} {id:Nat} {os:List Oper} (k:Nat) (h:GL P os A (os.take k) (SK P os (os.drop k) Q) m):G none P A (.region id os.toArray false) Q m:=λa w M r O=>by
 refine(wpIn_wide (n:=0)).1 (wpIn_region_lit ?_)
 have:=Ob (os2:=os.drop k) (os.take k) a w (h a w M r O)
 rwa [List.take_append_drop] at this
theorem SM {κ:σ->Option ρ} {ops rest:List Oper} {d:Tmp} {t xo:Operand} {T ty:TypeId} {pos:String} {after:Array Edge} {x:α} (a2:E.J V s W) (a6:E.go s=true)
  (ht:opE l t=some (.val (.func (.yield E.l) #[] #[]))) (hx:opE l xo=some (.rd R x)) (hd:Nat.blt d n=true)
  (k:∀ s' V' W',E.J V' s' W'->GL P ops (Sta (ctxI n V' W') ((d,.rd Ai (E.go s'))::l) []) rest Q (κ s')) [a7:OutC Q] :
  GE (Sta (ctxI n V W) l []) .normal (SK P ops (⟨some d,.call ⟨.value t,#[xo],#[T]⟩,ty,pos,after,none⟩::rest) Q) (E.Y x s >>= κ):=λa w M r O=>by
 cases U:E.Y x s with
 | none=>rw[U] at O; cases O
 | some s' =>
  rw[U] at O;have O:κ s'=some r:=O;refine⟨rfl,?_⟩;unfold wpListIn;rw[if_pos (by rfl)];refine⟨λ_ _=>trivial,?_⟩;obtain⟨fn,tmps,assign,body,a8,aa⟩:=E.round _ _ _ _ (a.eval xo) _ U a6 (E.hext _ _ _ _ a2 M.atI) ((Ent.rd R x).mono (λb hb=>⟨Od hb,rfl⟩) (M.vl hx));have a1:(execOp a.eval ⟨some d,.call ⟨.value t,#[xo],#[T]⟩,ty,pos,after,none⟩).run P w=.ok (.round E.l fn tmps assign body) w:=by
   have e1:a.eval t=.func (.yield E.l) #[] #[]:=(M.vl ht).1;simp[execOp,resolve,e1,Deferred.ofValue,invoke,a8]
  have e:(Oper.semAt Fence.wide.round a.eval ⟨some d,.call ⟨.value t,#[xo],#[T]⟩,ty,pos,after,none⟩)=execOp a.eval ⟨some d,.call ⟨.value t,#[xo],#[T]⟩,ty,pos,after,none⟩:=rfl;rw[e,a1];refine⟨λhh=>by (cases hh),aa.mono ?_⟩
  rintro e' W' ⟨rfl,hJ',hK⟩
  refine Oc (λa w=>a7.out r a w) _ _ _ (k s' _ _ hJ' _ W' ?_ r O);have ab:Bj (Shr (ctxI n V W).H [] w) (Shr (ctxI n (Ib V W w) W').H [] W') w W':=λb hb=>⟨⟨Nat.lt_of_lt_of_le hb.1 hK.size, λr v c h=>by (cases h), λhh=>hh.2 (Od hb)⟩,hK.block b (Od hb)⟩;have h0:Sta (ctxI n (Ib V W w) W') l [] a W':=⟨M.size,M.defers, λt e h=>by obtain⟨v,h1,h2⟩:=M.slots t e h; exact⟨v,h1,e.mono ab h2⟩, λr v c h=>by (cases h), λr v c r' v' c' h=>by (cases h), λr v c h=>by (cases h),C5.rfl', λb hb=>hb, λb hb=>hb.1⟩
  exact h0.put hd ⟨_,rfl,rfl⟩
end
section
variable {C:World->World->Prop} {P:Program} {Γ:Ctx} {l:AQ} {res:Res} {d:Tmp} {ty:TypeId} {pos:String} {after:Array Edge} {g:Option (Nat × Bool)}
theorem Yq {α:Type} {R:Rep α} {x:α} {T:TypeId} {S S':Blk} {w:World} {v:Value} (h:(AK.box T [.rd R x]).holds S w v) (M:Bj S S' w w) (hS:∀ b,AM v=some b->S' b):(Ent.rp R x).holds S' w (A7 v 0):=by
 rcases h with h2 | ⟨b,o,h2,h3,b',vs,rfl,rfl,h4⟩
 ·exact h2.elim
 ·match vs,h4 with
  | [y],⟨⟨cs,O,h6⟩,_⟩ =>
   simp only[AM,Option.some.injEq] at h2;subst h2;refine⟨b',0,cs,rfl,hS b' rfl,R.mono M O, λj q hq=>?_⟩;have hB:Bx w b' (Bd [y]).toArray T:=h3;have U:Bd [y]=cs:=by rw[h6]; simp[Bd,Rep.val_cells O]
   rw[hB.cell,U]; simpa using hq
theorem Yr {ρ τ:Type} {ro:Option Nat} {A:Asn} {x:Code} {Q:ρ->Exit->Act->World->Prop} {Bs:τ->Asn} {m:Option (Sum ρ τ)} {k:τ->Option ρ} (U:G ro P A x (midR Bs Q) m) (hy:∀ t,GE (Bs t) .normal Q (k t)):G ro P A x Q (Bi m k):=λa w ha r M=>by
 unfold Bi at M
 cases O:m with
 | none=>rw[O] at M; cases M
 | some s =>
  rw[O] at M;refine NO (λe a w h=>?_) (U a w ha s O)
  cases s with
  | inl r' =>
   have e0:r'=r:=by simpa using M
   subst e0;exact h.2
  | inr t =>
   obtain⟨rfl,h⟩:=h;exact hy t a w h r M
theorem Sta.clo1 {α:Type} {R1:Rep α} {x1:α} {T1:TypeId} {v1:Value} {gf:FuncId} {a:Act} {w:World} (O:Sta Γ l res a w) (t r1:Nat) (ht:lk l t=some (.val (.func (.func gf) #[] #[A7 v1 0]))) (h1:lr res r1=some (v1,.box T1 [.rd R1 x1])) :
  Sta Γ ((t,.clo gf [.rp R1 x1])::l) ((r1,none)::res) a w:=by
 have U:∀ r' v' c',lr ((r1,none)::res) r'=some (v',c')->r1≠r'/\lr res r'=some (v',c'):=λr' v' c' M=>by
  rw[BB] at M
  split at M
  ·cases M
  ·rename_i g1; exact⟨g1,M⟩
 have a2:Bj (Shr Γ.H res w) (Shr Γ.H ((r1,none)::res) w) w w:=λbb hb=>⟨⟨hb.1, λr' v' c' M=>hb.2.1 r' v' c' (U _ _ _ M).2,hb.2.2⟩,rfl⟩;have hS:∀ b,AM v1=some b->Shr Γ.H ((r1,none)::res) w b:=λb hb =>
  ⟨(O.conts r1 v1 _ h1).lt hb, λr' v' c' M e=>by
   obtain⟨k1,k3⟩:=U _ _ _ M
   exact O.excl r1 v1 _ r' v' c' h1 k3 k1 b hb e, λhH=>O.own r1 v1 _ h1 b hb (O.hid b hH)⟩
 refine⟨O.size,O.defers, λt' e a1=>?_, λr' v' c' M=>(O.conts r' v' c' (U _ _ _ M).2).mono a2 (λ_ _=>rfl), λr1 v1 c1 r2 v2 c2 h1 h2 a6=>O.excl r1 v1 c1 r2 v2 c2 (U _ _ _ h1).2 (U _ _ _ h2).2 a6, λr' v' c' M=>O.own r' v' c' (U _ _ _ M).2,O.keep,O.old,O.hid⟩;rw[C4] at a1
 split at a1
 ·rename_i hh; subst hh; cases a1
  obtain⟨u,k1,rfl,-⟩:=O.slots t _ ht;exact⟨_,k1,[A7 v1 0],⟨Yq (O.conts _ _ _ h1) a2 hS,trivial⟩,rfl⟩
 ·obtain⟨u,k1,k2⟩:=O.slots t' e a1;exact⟨u,k1,e.mono a2 k2⟩
theorem Ys {ρ α:Type} {R1:Rep α} {O:α} {T1:TypeId} {U:Value} {gf:FuncId} {e:Exit} {Q:ρ->Exit->Act->World->Prop} {m:Option ρ} (t M:Nat) (ht:lk l t=some (.val (.func (.func gf) #[] #[A7 U 0]))) (h1:lr res M=some (U,.box T1 [.rd R1 O]))
  (k:GE (Sta Γ ((t,.clo gf [.rp R1 O])::l) ((M,none)::res)) e Q m):GE (Sta Γ l res) e Q m:=λa w ha=>k a w (ha.clo1 t M ht h1)
theorem eRng {ρ:Type} {n:Nat} {H:Blk} {rin:Res} {w0:World} {L:AQ} {rm:Nat} {rs:(Nat->Value)->Res} {e:Exit} {Q:ρ->Exit->Act->World->Prop} {m:Option ρ} (h:∀ M d,GE (Sta (E6 n H rin w0 [Gx d]) L ((rm,some (d,.mark))::rs M)) e Q m):GE (SF n H rin w0 L rm rs) e Q m:=λa w ⟨M,d,O⟩=>h M d a w O
end
end
section
def Ci:Rep Value where
 sz:=1
 agg:=false
 rel _ _ cs x:=cs=[x]/\x.oneCell'=true
 len h:=by rw[h.1]; rfl
 one h:=by rw[h.1]; intro u M; simp only[List.mem_singleton] at M; subst M; exact h.2
 scal _:=rfl
 mono _ h:=h
def Cs {α:Type} (vs:Nat->Value) (ls:List (List α)):List Value:=(List.range ls.length).map vs
def DG {α:Type} (base:Nat) (R:Rep α) (T:TypeId) (vs:Nat->Value):List (List α)->Nat->Res
 | [],_=>[]
 | x::ls,j=>(base+j,some (vs j,.list R T x))::DG base R T vs ls (j+1)
def updF (vs:Nat->Value) (j:Nat) (u:Value):Nat->Value:=λi=>if i=j then u else vs i
def nvlF:List Value->(Nat->Value)->Nat->Value
 | [],vs=>vs
 | a::l,vs=>fun
  | 0=>a
  | n+1=>nvlF l vs n
section
variable {α:Type} {base:Nat} {R:Rep α} {T:TypeId} {vs:Nat->Value}
theorem SN:∀ {ls:List (List α)} {i j:Nat},lr (DG base R T vs ls i) (base+(i+j))=ls[j]?.map λx=>(vs (i+j),.list R T x)
 | [],i,j=>rfl
 | x::ls,i,0=>by
  rw[DG,BB,if_pos (by omega)]; rfl
 | x::ls,i,j+1=>by
  rw[DG,BB,if_neg (by omega)]
  have:=@SN ls (i+1) j
  rw[show i+(j+1)=i+1+j by omega,this]; simp
theorem Gy:∀ {ls:List (List α)} {i k:Nat} {x:Value × AK},lr (DG base R T vs ls i) k=some x->∃ j y,k=base+(i+j)/\ls[j]? = some y/\x=(vs (i+j),.list R T y)
 | [],i,k,x,h=>by cases h
 | y::ls,i,k,x,h=>by
  rw[DG,BB] at h
  split at h
  ·rename_i hk; cases h; exact⟨0,y, by omega,rfl,rfl⟩
  ·obtain⟨j,z,h1,h2,h3⟩:=Gy h;exact⟨j+1,z, by omega, by simpa using h2, by rw[h3, show i+1+j=i+(j+1) by omega]⟩
theorem He {pre f:Res} {k:Nat} {x:Value × AK} (h:lr (pre++f) k=some x) (U:∀ p∈pre,p.2≠none):lr pre k=some x\/((∀ p∈pre,p.1≠k)/\lr f k=some x):=by
 induction pre with
 | nil=>exact .inr ⟨by simp,h⟩
 | cons p pre ih =>
  obtain⟨q,y⟩:=p;rw[List.cons_append,BB] at h;rw[BB]
  split at h
  ·rename_i O; rw[if_pos O]; exact .inl h
  ·rename_i O;rw[if_neg O];rcases ih h (λp M=>U p (by simp[M])) with h1 | ⟨h1,h2⟩
   ·exact .inl h1
   ·refine .inr ⟨λp M=>?_,h2⟩;rcases List.mem_cons.1 M with rfl | h3
    ·exact O
    ·exact h1 p h3
def Cw (res:Res) (base:Nat) (R:Rep α) (T:TypeId) (vs:Nat->Value) (ls:List (List α)):Prop:=∀ j y,ls[j]? = some y->lr res (base+j)=some (vs j,.list R T y)
theorem Cw.tail {ls:List (List α)}:Cw (DG base R T vs ls 0) base R T vs ls:=λj y h=>by
 have:=SN (base:=base) (R:=R) (T:=T) (vs:=vs) (ls:=ls) (i:=0) (j:=j)
 rw[Nat.zero_add] at this;rw[this,h]; rfl
theorem Cw.cons {res:Res} {k:Nat} {x:Option (Value × AK)} {ls:List (List α)} (M:Nat.blt k base=true) (h:Cw res base R T vs ls):Cw ((k,x)::res) base R T vs ls:=λj y O=>by
 have M:k<base:=Eq.mp Nat.blt_eq M;rw[BB,if_neg (by omega)]; exact h j y O
theorem LA {ls:List (List α)} {i:Int} {y:List α} (h:idx ls i=some y):idx (Cs vs ls) i=some (vs i.toNat):=by
 obtain⟨U,h2,M⟩:=DA h;have O:(0:Int)<=i:=U;unfold idx;rw[if_pos O];unfold Cs;rw[List.getElem?_map,List.getElem?_range M]; rfl
theorem Yt {ls:List (List α)} {j:Nat} {u:Value} {z:List α}:(Cs vs ls).set j u=Cs (updF vs j u) (ls.set j z):=by
 unfold Cs updF
 apply List.ext_getElem?
 intro i;rw[List.getElem?_set,List.getElem?_map,List.length_map,List.length_range,List.length_set];by_cases hi:i<ls.length
 ·rw[List.getElem?_map,List.getElem?_range hi];by_cases h:j=i
  ·subst h; simp[hi]
  ·simp[h,Ne.symm h]
 ·have h1:¬ i<(List.range ls.length).length:=by simpa using hi
  rw[List.getElem?_map,List.getElem?_eq_none (by omega)]
  split
  ·rename_i h; subst h; rw[if_neg hi]; rfl
  ·rfl
theorem Yu {by_:Nat} {n:Int} {ls:List (List α)} (h:mkn by_ ([]:List α) n=some ls):∀ x∈ls,x=[]:=λx M=>by
 obtain⟨-,-,-,rfl⟩:=Ln h;exact(List.mem_replicate.1 M).2
end
section
variable {P:Program} {Γ:Ctx} {l l':AQ} {res res' lits:Res} {a:Act} {w:World} {α:Type} {base:Nat} {R:Rep α} {T T':TypeId} {vs:Nat->Value} {ls:List (List α)}
theorem Sta.subG (M:Sta Γ l res a w) (h1:∀ r x,lr res' r=some x->∃ n,lr res n=some x) (h2:∀ r r2 x x2,lr res' r=some x->lr res' r2=some x2->r≠r2->∃ n U,n≠U/\lr res n=some x/\lr res U=some x2) (hs:∀ t e,lk l' t=some e->lk l t=some e):Sta Γ l' res' a w:=by
 have a1:Bj (Shr Γ.H res w) (Shr Γ.H res' w) w w:=λb hb=>⟨⟨hb.1, λr v c hr=>by obtain⟨n,h⟩:=h1 _ _ hr; exact hb.2.1 n v c h,hb.2.2⟩,rfl⟩
 exact {
  size:=M.size
  defers:=M.defers
  slots:=λt e ht=>by obtain⟨v,O,k2⟩:=M.slots t e (hs t e ht); exact⟨v,O,e.mono a1 k2⟩
  conts:=λr v c h=>by obtain⟨n,O⟩:=h1 _ _ h; exact(M.conts n v c O).mono a1 (λ_ _=>rfl)
  excl:=λr v c r' v' c' h h' a2=>by obtain⟨n,U,O,k2,k3⟩:=h2 _ _ _ _ h h' a2; exact M.excl n v c U v' c' k2 k3 O
  own:=λr v c h=>by obtain⟨n,O⟩:=h1 _ _ h; exact M.own n v c O
  keep:=M.keep
  old:=M.old
  hid:=M.hid }
theorem BE.get3 {res:Res}:∀ {res':Res} {ns:List Nat} {r r2:Nat} {x x2:Value × AK},BE res res' ns->lr res' r=some x->lr res' r2=some x2->r≠r2->∃ n M,n∈ns/\M∈ns/\n≠M/\lr res n=some x/\lr res M=some x2
 | [],[],_,_,_,_,_,h,_,_=>by cases h
 | (r',y)::res',n::ns,r,r2,x,x2,O,h,h',a1=>by
  rw[BB] at h h';obtain⟨⟨y,rfl,h1⟩,h2,h3⟩:=O;have hn:∀ n',n'∈ns->n≠n':=λn' a2 e=>by subst e; simp at h2; exact h2 a2
  split at h
  ·rename_i e1; subst e1; cases h
   rw[if_neg a1] at h';obtain⟨v2,c2⟩:=x2;obtain⟨n',U,h5⟩:=BE.get h3 h';exact⟨n,n', by simp, by simp[U],hn n' U,h1,h5⟩
  ·split at h'
   ·cases h'
    obtain⟨v,c⟩:=x;obtain⟨n',U,h5⟩:=BE.get h3 h;exact⟨n',n, by simp[U], by simp, λe=>hn n' U e.symm,h5,h1⟩
   ·obtain⟨n1,M,i1,i2,k1,k2,k3⟩:=BE.get3 h3 h h' a1;exact⟨n1,M, by simp[i1], by simp[i2],k1,k2,k3⟩
 | [],_::_,_,_,_,_,O,_,_,_=>O.elim
 | _::_,[],_,_,_,_,O,_,_,_=>O.elim
theorem BE.somes:∀ {res':Res} {ns:List Nat},BE res res' ns->∀ p∈res',p.2≠none
 | [],[],_,p,M=>by simp at M
 | (r,x)::res',n::ns,h,p,M=>by
  rcases List.mem_cons.1 M with rfl | M
  ·obtain⟨⟨y,rfl,_⟩,_⟩:=h; simp
  ·exact BE.somes h.2.2 p M
 | [],_::_,h,_,_=>h.elim
 | _::_,[],h,_,_=>h.elim
theorem Sta.subF (ha:Sta Γ l res a w) (hf:Cw res base R T vs ls) (ns:List Nat) (hs:Ei l l') (O:BE res lits ns) (hn:(ns.all λn=>Nat.blt n base)=true):Sta Γ l' (lits++DG base R T vs ls 0) a w:=by
 have hb:∀ n∈ns,n<base:=λn h=>Eq.mp Nat.blt_eq (List.all_eq_true.1 hn n h);have inv:∀ r x,lr (lits++DG base R T vs ls 0) r=some x->lr lits r=some x\/∃ j,r=base+j/\lr res (base+j)=some x:=λr x h=>by
  rcases He h O.somes with h | ⟨-,h⟩
  ·exact .inl h
  ·obtain⟨j,y,h3,M,U⟩:=Gy h;rw[Nat.zero_add] at h3 U;exact .inr ⟨j,h3, by rw[U]; exact hf j y M⟩
 refine ha.subG (λr x h=>?_) (λr r2 x x2 h h2 a1=>?_) (λt e h=>hs.get h)
 ·rcases inv r x h with h | ⟨j,h3,M⟩
  ·obtain⟨v,c⟩:=x;obtain⟨n,-,h1⟩:=O.get h; exact⟨n,h1⟩
  ·exact⟨_,M⟩
 ·obtain⟨v,c⟩:=x;obtain⟨v2,c2⟩:=x2;rcases inv r _ h with h | ⟨j,h3,M⟩ <;> rcases inv r2 _ h2 with h2 | ⟨j2,U,h6⟩
  ·exact O.get2 h h2 a1
  ·obtain⟨n,h7,h8⟩:=O.get h;exact⟨n,_, by have:=hb n h7; omega,h8,h6⟩
  ·obtain⟨n,h7,h8⟩:=O.get h2;exact⟨_,n, by have:=hb n h7; omega,M,h8⟩
  ·exact⟨_,_, by omega,M,h6⟩
theorem Sta.newF (ha:Sta Γ l res a w) (R:Rep α) (T:TypeId) (ns:List Nat) (hl:∀ x∈ls,x=[]) (O:BE res lits ns):Sta Γ l (lits++DG base R T (λ_=>.slice none 0 0) ls 0) a w:=by
 have U:Sta Γ l lits a w:=ha.subG (λr x h=>by obtain⟨v,c⟩:=x; obtain⟨n,-,h1⟩:=O.get h; exact⟨n,h1⟩) (λr r2 x x2 h h2 a1=>O.get2 h h2 a1) (λ_ _ h=>h)
 have a2:Bj (Shr Γ.H lits w) (Shr Γ.H (lits++DG base R T (λ_=>.slice none 0 0) ls 0) w) w w:=λb hb=>⟨⟨hb.1, λr v c h=>by
  rcases He h O.somes with h | ⟨-,h⟩
  ·exact hb.2.1 r v c h
  ·obtain⟨j,y,-,-,M⟩:=Gy h;simp only[Prod.mk.injEq] at M
   rw[M.1]; simp[AM],hb.2.2⟩,rfl⟩
 exact {
  size:=ha.size
  defers:=ha.defers
  slots:=λt e ht=>by obtain⟨v,k1,k2⟩:=U.slots t e ht; exact⟨v,k1,e.mono a2 k2⟩
  conts:=λr v c h=>by
   rcases He h O.somes with h | ⟨-,h⟩
   ·exact(U.conts r v c h).mono a2 (λ_ _=>rfl)
   ·obtain⟨j,y,-,h4,M⟩:=Gy h;simp only[Prod.mk.injEq] at M;rw[M.1,M.2];exact .inl ⟨rfl,hl y (List.mem_of_getElem? h4)⟩
  excl:=λr v c r' v' c' h h' a1 b hb=>by
   rcases He h O.somes with h | ⟨-,h⟩
   ·rcases He h' O.somes with h' | ⟨-,h'⟩
    ·exact U.excl r v c r' v' c' h h' a1 b hb
    ·obtain⟨j,y,-,-,M⟩:=Gy h';simp only[Prod.mk.injEq] at M;rw[M.1]; simp[AM]
   ·obtain⟨j,y,-,-,M⟩:=Gy h;simp only[Prod.mk.injEq] at M;rw[M.1] at hb; simp[AM] at hb
  own:=λr v c h b hb=>by
   rcases He h O.somes with h | ⟨-,h⟩
   ·exact U.own r v c h b hb
   ·obtain⟨j,y,-,-,M⟩:=Gy h;simp only[Prod.mk.injEq] at M;rw[M.1] at hb; simp[AM] at hb
  keep:=ha.keep
  old:=ha.old
  hid:=ha.hid }
theorem Sta.frzFam (M:Sta Γ l res a w) (hf:Cw res base R T vs ls) {v:Value} (r:Nat) (hr:lr res r=some (v,.list Ci T' (Cs vs ls))) (ns:List Nat) (hs:BE res lits ns) (hn:(ns.all λn=>Nat.blt n base&&!Nat.beq n r)=true) (a7:Nat.blt r base=true):Sta Γ l ((r,some (v,.list (A3 R) T' ls))::lits) a w:=by
 have hb:∀ n∈ns,n<base/\n≠r:=λn h=>by
  have:=List.all_eq_true.1 hn n h
  simp only[Bool.and_eq_true,Bool.not_eq_true'] at this;exact⟨Eq.mp Nat.blt_eq this.1,Nat.ne_of_beq_eq_false this.2⟩
 have a7:r<base:=Eq.mp Nat.blt_eq a7
 have a2:Bj (Shr Γ.H res w) (Shr Γ.H ((r,some (v,.list (A3 R) T' ls))::lits) w) w w:=λb a1=>⟨⟨a1.1, λr' v' c' h=>by
  rw[BB] at h
  split at h
  ·cases h; exact a1.2.1 r v _ hr
  ·obtain⟨n,-,h1⟩:=hs.get h; exact a1.2.1 n v' c' h1,a1.2.2⟩,rfl⟩
 have aa:∀ j y,ls[j]? = some y->∀ b,AM (vs j)=some b->Shr Γ.H ((r,some (v,.list (A3 R) T' ls))::lits) w b:=λj y hy b O=>by
  have h1:=hf j y hy;refine⟨(M.conts _ _ _ h1).lt O, λr' v' c' h=>?_, λhH=>M.own _ _ _ h1 b O (M.hid b hH)⟩;rw[BB] at h
  split at h
  ·cases h; exact M.excl _ _ _ r v _ h1 hr (by omega) b O
  ·obtain⟨n,h2,h3⟩:=hs.get h; exact M.excl _ _ _ n v' c' h1 h3 (by have:=hb n h2; omega) b O
 have a8:∀ (U:List (List α)) (k:Nat) (cs:List Value),(∀ j y,U[j]? = some y->ls[k+j]? = some y)->B5 Ci (Shr Γ.H res w) w cs ((List.range' k U.length).map vs)->B5 (A3 R) (Shr Γ.H ((r,some (v,.list (A3 R) T' ls))::lits) w) w cs U:=by
  intro U
  induction U with
  | nil=>intro k cs _ h; exact h
  | cons y U ih =>
   intro k cs hk h;rw[List.length_cons,List.range'_succ,List.map_cons] at h;obtain⟨c,d,rfl,⟨rfl,-⟩,h2⟩:=h;have hy:=hk 0 y rfl;rw[Nat.add_zero] at hy;refine⟨[vs k],d,rfl,?_,ih (k+1) d (λj z hz=>?_) h2⟩
   ·obtain⟨xs,k1,k2⟩:=EG (M.conts _ _ _ (hf k y hy));obtain⟨p,c,hp⟩:=DT k1;rw[hp] at k1;refine⟨p,c,xs, by rw[hp],Rd.of_own k1,k2.mono a2, λa6 bb O=>?_⟩;refine aa k y hy bb ?_;rw[hp,Ew,I0]; exact O
   ·have:=hk (j+1) z (by simpa using hz)
    rwa [show k+(j+1)=k+1+j by omega] at this
 exact {
  size:=M.size
  defers:=M.defers
  slots:=λt e ht=>by obtain⟨u,k1,k2⟩:=M.slots t e ht; exact⟨u,k1,e.mono a2 k2⟩
  conts:=λr' v' c' h=>by
   rw[BB] at h
   split at h
   ·cases h
    rcases M.conts r v _ hr with ⟨h1,h2⟩ | ⟨b,o,h1,h2,b',cap,C,rfl,rfl,h3,h4,h5,h6⟩
    ·exact .inl ⟨h1, by
      have:(Cs vs ls).length=0:=by rw[h2]; rfl
      unfold Cs at this
      simpa using this⟩
    ·have hl:(Cs vs ls).length=ls.length:=by simp[Cs]
     refine .inr ⟨b,_,h1,h2,b',cap,C, by rw[hl],rfl, by rw[<- hl]; exact h3,h4,h5,?_⟩;rw[hl] at h6;refine a8 ls 0 _ (λj y hy=>by rw[Nat.zero_add]; exact hy) ?_;rw[<- List.range_eq_range'];exact h6
   ·obtain⟨n,-,h1⟩:=hs.get h;exact(M.conts n v' c' h1).mono a2 (λ_ _=>rfl)
  excl:=λr1 v1 c1 r2 v2 c2 h1 h2 a6 b O=>by
   rw[BB] at h1 h2
   split at h1
   ·rename_i e1; cases h1
    rw[if_neg (by rw[e1]; exact a6)] at h2;obtain⟨n,h3,h4⟩:=hs.get h2;exact M.excl r v _ n v2 c2 hr h4 (λe=>(hb n h3).2 e.symm) b O
   ·split at h2
    ·cases h2
     obtain⟨n,h3,h4⟩:=hs.get h1;exact M.excl n v1 c1 r v _ h4 hr (hb n h3).2 b O
    ·obtain⟨n,n2,h3,h4,h5⟩:=hs.get2 h1 h2 a6;exact M.excl n v1 c1 n2 v2 c2 h4 h5 h3 b O
  own:=λr' v' c' h=>by
   rw[BB] at h
   split at h
   ·cases h; exact M.own r v _ hr
   ·obtain⟨n,-,h1⟩:=hs.get h; exact M.own n v' c' h1
  keep:=M.keep
  old:=M.old
  hid:=M.hid }
end
section
variable {C:World->World->Prop} {ρ:Type} {P:Program} {Γ:Ctx} {l:AQ} {res lits:Res} {m:Option ρ} {os rest:List Oper} {N:ρ->Exit->Act->World->Prop} {ro:Option Nat} {Q:ρ->Exit->Act->World->Prop} {c:Code} {ex:Exit}
 {d:Tmp} {ty:TypeId} {pos:String} {after:Array Edge} {g:Option (Nat × Bool)} {α:Type} {base:Nat} {R:Rep α} {T T':TypeId} {vs:Nat->Value} {ls:List (List α)}
theorem mksF {b:List (List α)} {x y:Operand} {z:Value} {e:TypeId} {by_:Nat} {n:Int} (r:Nat) (M:opE l x=some (.rd A2 n)) (O:opE l y=some (.rd A2 n)) (hb:mkn by_ ([]:List α) n=some b)
  (hT:P.underlying T=some (.slice e)) (hE:TI P e z 1 by_) (U:z.cells.toList=[.slice none 0 0]) :
  Eff P Γ l res ⟨some d,.makeSlice T x y,ty,pos,after,g⟩ r (λu=>(u,.list Ci e (Cs (λ_=>.slice none 0 0) b))):=by
 obtain⟨h1,h2,h3,rfl⟩:=Ln hb;have e1:Cs (λ_=>Value.slice none 0 0) (List.replicate n.toNat ([]:List α))=List.replicate n.toNat (Value.slice none 0 0):=by
  unfold Cs;rw[List.length_replicate]
  apply List.ext_getElem?
  intro i;rw[List.getElem?_map];by_cases hi:i<n.toNat
  ·rw[List.getElem?_range hi]; simp[hi]
  ·rw[List.getElem?_eq_none (by simpa using hi),List.getElem?_eq_none (by simpa using hi)]; rfl
 rw[e1];refine mks (R:=Ci) (x0:=.slice none 0 0) (z:=z) r M O ?_ hT hE (λS w=>⟨U,rfl⟩) rfl;unfold mkn; rw[if_pos ⟨h1,h2, by omega⟩]
theorem Yv (R:Rep α) (T:TypeId) (ns:List Nat) (hl:∀ x∈ls,x=[]) (M:BE res lits ns) (k:GL P os (Sta Γ l (lits++DG base R T (λ_=>.slice none 0 0) ls 0)) rest N m):GL P os (Sta Γ l res) rest N m:=λa w O=>k a w (O.newF R T ns hl M)
theorem ldF {ws:List Nat} [LC C res ws] {y:List α} {i:Int} {t:TypeId} {x:Operand} {v:Value} (r:Nat) (M:opE l x=some (.val (A7 v (i.toNat * 1)))) (O:lr res r=some (v,.list Ci T' (Cs vs ls))) (hi:idx ls i=some y) (hT:BJ P t false 1) (hw:ws.contains r=false) :
  Run C P Γ l res ⟨some d,.load t x,ty,pos,after,g⟩ (.val (vs i.toNat)):=λa w U=>by
 obtain⟨u,h1,cs,⟨rfl,h2⟩,h3⟩:=ld (C:=C) (P:=P) (d:=d) (ty:=ty) (pos:=pos) (after:=after) (g:=g) (R:=Ci) (t:=t) r M O (Foc.el (LA hi)) hT hw a w U;exact⟨u,h1,h3,h2⟩
theorem lApF {M U:Tmp} {ty1 ty2 ty3:TypeId} {pos1 pos2 pos3:String} {ab ac ad:Array Edge} {x y b i:Operand} {v:Value} {E:Ent} {TT e:TypeId} {by_ am:Nat} {je:Int} {yl b2 z:List α} {kk:IntKind} {γ:Type} {f:γ->Int} {jj:γ} {zv ao:Value} (r:Nat) (ns:List Nat)
  (hf:Cw res base R e vs ls) (hx:opE l x=some (.val (vs je.toNat))) (hr:lr res r=some (v,.list Ci T (Cs vs ls))) (ae:Nat.blt r base=true) (hi:idx ls je=some yl) (hb:opE l b=some (.val v)) (a7:opE l i=some (.rd (Bm kk f) jj)) (af:f jj=je) (hy:opE l y=some E) (hv:Vw R res E b2) (hz:app by_ yl b2=some z)
  (ah:Nat.beq M U=false) (ap:∀ t,b=.tmp t->Nat.beq M t=false) (aq:∀ t,i=.tmp t->Nat.beq M t=false) (h1n:Nat.blt M Γ.n=true) (h2n:Nat.blt U Γ.n=true)
  (hT:P.underlying T=some (.slice e)) (hE:TI P e zv R.sz by_) (ar:zv.cells.size=R.sz) (h0:Nat.blt 0 R.sz=true) (h1:Nat.blt 0 by_=true) (hTT:P.underlying TT=some (.slice T)) (hET:TI P T ao 1 am) (hTy:BJ P T false 1)
  (hs:BE res lits ns) (hn:(ns.all λn=>Nat.blt n base&&!Nat.beq n r)=true)
  (k:∀ u,GL P os (Sta Γ ((M,.junk)::(U,.junk)::l) (((r,some (v,.list Ci T (Cs (updF vs je.toNat u) (ls.set je.toNat z))))::lits)++DG base R e (updF vs je.toNat u) (ls.set je.toNat z) 0)) rest N m) :
  GL P os (Sta Γ l res) (⟨some M,.call ⟨.builtin .append,#[x,y],#[T,T]⟩,ty1,pos1,ab,none⟩::⟨some U,.indexAddr TT b i,ty2,pos2,ac,none⟩::⟨none,.store T (.tmp U) (.tmp M),ty3,pos3,ad,none⟩::rest) N m:=λa w ha ρ' hm=>by
 have ae:r<base:=Eq.mp Nat.blt_eq ae;obtain⟨i0,av,aw⟩:=DA hi;have ax:=hf je.toNat yl av;obtain⟨w1,u,e1,⟨s1,-⟩,o1,-⟩:=app0 (d:=M) (ty:=ty1) (pos:=pos1) (after:=ab) (g:=none) ha (base+je.toNat) hx ax hy hv hz hT hE ar h0 h1;refine st (EF rfl) e1 ?_;have s1':=s1.put h1n (show (Ent.val u).holds _ w1 u from ⟨rfl,o1⟩);have ai:lr ((base+je.toNat,some (u,AK.list R e z))::res) r=some (v,.list Ci T (Cs vs ls)):=by rw[BB,if_neg (by omega)]; exact hr
 have ay:opE ((M,.val u)::l) b=some (.val v):=by
  cases b with
  | tmp t=>show lk _ t=_; rw[C4,if_neg (Nat.ne_of_beq_eq_false (ap t rfl))]; exact hb
  | const c=>exact hb
  | global c=>exact hb
  | func c=>exact hb
 have az:opE ((M,.val u)::l) i=some (.rd (Bm kk f) jj):=by
  cases i with
  | tmp t=>show lk _ t=_; rw[C4,if_neg (Nat.ne_of_beq_eq_false (aq t rfl))]; exact a7
  | const c=>exact a7
  | global c=>exact a7
  | func c=>exact a7
 obtain⟨p2,e2,k2⟩:=ixO (C:=Eq) (P:=P) (d:=U) (ty:=ty2) (pos:=pos2) (after:=ac) (g:=none) (R:=Ci) (y:=vs je.toNat) r ay ai az (by rw[af]; exact LA hi) hTT hET _ w1 s1';refine st (EF rfl) (e2 w1 rfl) ?_;have s2:=s1'.put h2n k2;rw[af] at s2;have b0:opE ((U,.val (A7 v (je.toNat * Ci.sz)))::(M,.val u)::l) (.tmp U)=some (.val (A7 v (je.toNat * Ci.sz))):=by show lk _ U=_; rw[C4,if_pos rfl]
 have s3:Sta Γ ((M,.rd Ci u)::(U,.val (A7 v (je.toNat * Ci.sz)))::(M,.val u)::l) ((base+je.toNat,some (u,AK.list R e z))::res) ((a.put (some M) u).put (some U) p2) w1:=by
  refine { s2 with slots:=λt' e' O=>?_ };rw[C4] at O
  split at O
  ·rename_i hh; subst hh; cases O
   obtain⟨u',h3,rfl,h5⟩:=s2.slots M (.val u) (by rw[C4,if_neg (λe=>Nat.ne_of_beq_eq_false ah e.symm),C4,if_pos rfl]);exact⟨_,h3,[u'],⟨rfl,o1⟩,rfl⟩
  ·exact s2.slots t' e' O
 have aj:opE ((M,.rd Ci u)::(U,.val (A7 v (je.toNat * Ci.sz)))::(M,.val u)::l) (.tmp U)=some (.val (A7 v (je.toNat * Ci.sz))):=by show lk _ U=_; rw[C4,if_neg (Nat.ne_of_beq_eq_false ah)]; exact b0
 have ak:opE ((M,.rd Ci u)::(U,.val (A7 v (je.toNat * Ci.sz)))::(M,.val u)::l) (.tmp M)=some (.rd Ci u):=by show lk _ M=_; rw[C4,if_pos rfl]
 obtain⟨w4,e4,⟨s4,-⟩,-⟩:=sto' (ty:=ty3) (pos:=pos3) (after:=ad) (g:=none) (t:=T) s3 r aj ai (Foc.el (LA hi)) ak hET;refine st0 (EF rfl) e4 rfl ?_;refine k u _ w4 ?_ ρ' hm;have a6:∀ n∈ns,n<base/\n≠r:=λn h=>by
  have:=List.all_eq_true.1 hn n h
  simp only[Bool.and_eq_true,Bool.not_eq_true'] at this;exact⟨Eq.mp Nat.blt_eq this.1,Nat.ne_of_beq_eq_false this.2⟩
 have get:∀ r' x',lr (((r,some (v,.list Ci T (Cs (updF vs je.toNat u) (ls.set je.toNat z))))::lits)++DG base R e (updF vs je.toNat u) (ls.set je.toNat z) 0) r'=some x'->∃ n,lr ((r,some (v,AK.list Ci T ((Cs vs ls).set je.toNat u)))::(base+je.toNat,some (u,AK.list R e z))::res) n=some x'/\((r'=r/\n=r)\/(r'≠r/\lr lits r'=some x'/\n∈ns)\/(r'=n/\base<=n)):=λr' x' h=>by
  have b4:∀ p∈((r,some (v,AK.list Ci T (Cs (updF vs je.toNat u) (ls.set je.toNat z))))::lits:Res),p.2≠none:=λp hp=>by
   rcases List.mem_cons.1 hp with rfl | hp
   ·simp
   ·exact hs.somes p hp
  rcases He h b4 with h | ⟨-,h⟩
  ·rw[BB] at h
   split at h
   ·rename_i e';refine⟨r,?_,.inl ⟨e'.symm,rfl⟩⟩;rw[BB,if_pos rfl,<- h,Yt (z:=z)]
   ·rename_i e';obtain⟨v',c'⟩:=x';obtain⟨n,h5,h6⟩:=hs.get h;have h7:=a6 n h5;refine⟨n,?_,.inr (.inl ⟨λe=>e' e.symm,h,h5⟩)⟩;rw[BB,if_neg (λe=>h7.2 e.symm),BB,if_neg (by omega)]; exact h6
  ·obtain⟨j,q,h5,h6,h7⟩:=Gy h;rw[Nat.zero_add] at h5 h7;refine⟨base+j,?_,.inr (.inr ⟨h5, by omega⟩)⟩;rw[BB,if_neg (by omega),BB,h7];by_cases hj:je.toNat=j
   ·subst hj;rw[if_pos rfl];rw[List.getElem?_set_self aw] at h6
    cases h6
    simp[updF]
   ·rw[if_neg (by omega)];rw[List.getElem?_set_ne hj] at h6;rw[hf j q h6];simp[updF,Ne.symm hj]
 have s5:Sta Γ ((M,.junk)::(U,.junk)::l) ((r,some (v,AK.list Ci T ((Cs vs ls).set je.toNat u)))::(base+je.toNat,some (u,AK.list R e z))::res) ((a.put (some M) u).put (some U) p2) w4:=by
  refine { s4 with slots:=λt' e' O=>?_ };rw[C4] at O
  split at O
  ·rename_i hh; subst hh; cases O
   obtain⟨u',h3,_⟩:=s4.slots M _ ak;exact⟨_,h3,trivial⟩
  ·rename_i hh;rw[C4] at O
   split at O
   ·rename_i a8; subst a8; cases O
    obtain⟨u',h3,_⟩:=s4.slots U _ aj;exact⟨_,h3,trivial⟩
   ·rename_i a8;refine s4.slots t' e' ?_;rw[C4,if_neg hh,C4,if_neg a8,C4,if_neg hh]; exact O
 refine s5.subG (λr' x' h=>?_) (λr1 r2 x1 x2 b5 b6 aa=>?_) (λ_ _ h=>h)
 ·obtain⟨n,h,-⟩:=get r' x' h; exact⟨n,h⟩
 ·obtain⟨n1,k1,q1⟩:=get r1 x1 b5;obtain⟨n2,k2,q2⟩:=get r2 x2 b6;rcases q1 with ⟨a1,a2⟩ | ⟨a1,a2,a3⟩ | ⟨a1,a2⟩ <;> rcases q2 with ⟨b1,b2'⟩ | ⟨b1,b2',b3⟩ | ⟨b1,b2'⟩
  ·exact absurd (a1.trans b1.symm) aa
  ·exact⟨n1,n2, by rw[a2]; exact λe=>(a6 n2 b3).2 e.symm,k1,k2⟩
  ·exact⟨n1,n2, by omega,k1,k2⟩
  ·exact⟨n1,n2, by rw[b2']; exact(a6 n1 a3).2,k1,k2⟩
  ·obtain⟨v1,c1⟩:=x1;obtain⟨v2,c2⟩:=x2;obtain⟨m1,m2,g1,g2,g3⟩:=hs.get2 a2 b2' aa;have fix:∀ n x,lr res n=some x->(∃ n',n'∈ns/\n=n')->lr ((r,some (v,AK.list Ci T ((Cs vs ls).set je.toNat u)))::(base+je.toNat,some (u,AK.list R e z))::res) n=some x:=λn x hx ⟨n',h',e'⟩=>by
    subst e';rw[BB,if_neg (λe=>(a6 n h').2 e.symm),BB,if_neg (by have:=(a6 n h').1; omega)]; exact hx
   obtain⟨m1,m2,i1,i2,g1,g2,g3⟩:=hs.get3 a2 b2' aa;exact⟨m1,m2,g1,fix m1 _ g2 ⟨m1,i1,rfl⟩,fix m2 _ g3 ⟨m2,i2,rfl⟩⟩
  ·exact⟨n1,n2, by have:=(a6 n1 a3).1; omega,k1,k2⟩
  ·exact⟨n1,n2, by omega,k1,k2⟩
  ·exact⟨n1,n2, by have:=(a6 n2 b3).1; omega,k1,k2⟩
  ·exact⟨n1,n2, by omega,k1,k2⟩
theorem Yw {X:ρ->Act->World->Prop} {v:Value} (O:Cw res base R T vs ls) (r:Nat) (U:lr res r=some (v,.list Ci T' (Cs vs ls))) (ns:List Nat) (hs:BE res lits ns) (hn:(ns.all λn=>Nat.blt n base&&!Nat.beq n r)=true) (M:Nat.blt r base=true) (k:GX X (Sta Γ l ((r,some (v,.list (A3 R) T' ls))::lits)) m):GX X (Sta Γ l res) m:=λa w ha=>k a w (ha.frzFam O r U ns hs hn M)
theorem Yx {v:Value} (O:Cw res base R T vs ls) (r:Nat) (U:lr res r=some (v,.list Ci T' (Cs vs ls))) (ns:List Nat) (hs:BE res lits ns) (hn:(ns.all λn=>Nat.blt n base&&!Nat.beq n r)=true) (M:Nat.blt r base=true) (k:G ro P (Sta Γ l ((r,some (v,.list (A3 R) T' ls))::lits)) c Q m):G ro P (Sta Γ l res) c Q m:=Yw O r U ns hs hn M k
end
end
section
section
variable {P:Program} {T I e ty:TypeId} {ti:TypeInfo} {z:Value} {w:World} {n' sLen sCap:Nat} {base:Option Addr} {olds:Array Value}
theorem Oe (hT:P.underlying T=some (.slice e)) (hI:P.underlying I=some (.int .i64)) (O:P.info? e=some ti) (t2:ti.zero=some z) (hw:IntKind.i64.wrap (n':Int)=(n':Int)) (a2:n' * ti.bytes<=281474976710656) (hn:sCap<sLen+n') (ac:sLen+n'<=9223372036854775807) (U:Builtin.nextslicecap (sLen+n') sCap * ti.bytes<=281474976710656) (a6:¬ (n' * ti.size=0))
 (ho:∀ w',w'=w.drew->(Builtin.firstCells ti.size sLen (.slice base sLen sCap)).run P w'=.ok olds w') :
 (Builtin.append_ #[T,I] ty #[.slice base sLen sCap,.int .i64 (n':Int)]).run P w=.ok (.slice (some ⟨w.heap.size,0,none⟩) (sLen+n') (grownCap w (sLen+n') sCap e)) (w.drew.alloc (.cells (olds++Builtin.zeroCells z.cells n'++Builtin.zeroCells z.cells (grownCap w (sLen+n') sCap e - (sLen+n'))) e)):=by
 have M:∀ w',(typeInfo e).run P w'=.ok ti w':=λw'=>by simp[typeInfo,O]
 have a7:∀ w',(zeroValue e).run P w'=.ok z w':=λw'=>by simp[zeroValue,typeInfo,O,t2]
 have a8:∀ w',(sizeOf e).run P w'=.ok ti.size w':=λw'=>by simp[sizeOf,typeInfo,O]
 have aa:∀ w',(asInt (.int .i64 (n':Int))).run P w'=.ok (n':Int) w':=λw'=>rfl;have a1:¬ ((n':Int)<0):=by omega
 have h1:¬ ((n':Int) * (ti.bytes:Int) > 2 ^ 48):=by
  have:((n' * ti.bytes:Nat):Int)<=281474976710656:=by have:=Int.ofNat_le.2 a2; omega
  rw[Int.natCast_mul] at this;simp only[Int.not_lt,gt_iff_lt]; exact this
 have h2:¬ (sLen+n'<=sCap):=by omega
 have h3:¬ (((sLen+n':Nat):Int) > IntKind.i64.max/\(True\/ti.bytes=0)):=by
  intro h; have:=h.1; simp[IntKind.max,IntKind.bits,IntKind.signed] at this; omega
 have h4:¬ (Builtin.nextslicecap (sLen+n') sCap * ti.bytes > 2 ^ 48):=by
  simp only[gt_iff_lt,Nat.not_lt]; exact U
 simp only[Builtin.append_,List.getElem?_toArray,List.getElem?_cons_zero,List.getElem?_cons_succ,Sem.run_bind,run_underlying hT,run_underlying hI,Result.andThen,Sem.run_pure,a8];simp only[if_true,Sem.run_bind,aa,Result.andThen,hw];rw[if_neg a1];simp only[Sem.run_bind,M,Result.andThen];rw[if_neg h1];simp only[Sem.run_bind,Sem.run_pure,Result.andThen,Int.toNat_natCast];rw[if_neg h2];simp only[Sem.run_bind,M,Result.andThen]
 rw[if_neg h3];simp only[Sem.run_bind,M,Result.andThen];rw[if_neg h4];have ab:=ho w.drew rfl;simp[Question.forced,ab,M,a6,a7,newRow,grownCap,askRoom,Result.andThen]
theorem Yy (hT:P.underlying T=some (.slice e)) (hI:P.underlying I=some (.int .i64)) (U:P.info? e=some ti) (t2:ti.zero=some z) (hw:IntKind.i64.wrap (n':Int)=(n':Int)) (a2:n' * ti.bytes<=281474976710656) (hn:sLen+n'<=sCap) {w':World} {a:Addr}
 (M:(storeCells (a.add (sLen * ti.size)) (if n' * ti.size=0 then [] else (Builtin.zeroCells z.cells n').toList)).run P w=.ok () w') :
 (Builtin.append_ #[T,I] ty #[.slice (some a) sLen sCap,.int .i64 (n':Int)]).run P w=.ok (.slice (some a) (sLen+n') sCap) w':=by
 have a6:∀ w',(typeInfo e).run P w'=.ok ti w':=λw'=>by simp[typeInfo,U]
 have a7:∀ w',(zeroValue e).run P w'=.ok z w':=λw'=>by simp[zeroValue,typeInfo,U,t2]
 have a8:∀ w',(sizeOf e).run P w'=.ok ti.size w':=λw'=>by simp[sizeOf,typeInfo,U]
 have aa:∀ w',(asInt (.int .i64 (n':Int))).run P w'=.ok (n':Int) w':=λw'=>rfl;have a1:¬ ((n':Int)<0):=by omega
 have h1:¬ ((n':Int) * (ti.bytes:Int) > 2 ^ 48):=by
  have:((n' * ti.bytes:Nat):Int)<=281474976710656:=by have:=Int.ofNat_le.2 a2; omega
  rw[Int.natCast_mul] at this;simp only[Int.not_lt,gt_iff_lt]; exact this
 simp only[Builtin.append_,List.getElem?_toArray,List.getElem?_cons_zero,List.getElem?_cons_succ,Sem.run_bind,run_underlying hT,run_underlying hI,Result.andThen,Sem.run_pure,a8];simp only[if_true,Sem.run_bind,aa,Result.andThen,hw];rw[if_neg a1];simp only[Sem.run_bind,a6,Result.andThen];rw[if_neg h1];simp only[Sem.run_bind,Sem.run_pure,Result.andThen,Int.toNat_natCast];rw[if_pos hn];by_cases O:n' * ti.size=0
 ·rw[if_pos O] at M;simp[O,M]
 ·rw[if_neg O] at M;simp[O,a7,M]
end
section
variable {C:World->World->Prop} {ρ:Type} {P:Program} {Γ:Ctx} {l:AQ} {res:Res} {m:Option ρ} {os rest:List Oper} {N:ρ->Exit->Act->World->Prop} {ro:Option Nat} {Q:ρ->Exit->Act->World->Prop} {c:Code} {ex:Exit}
 {d:Tmp} {ty:TypeId} {pos:String} {after:Array Edge} {g:Option (Nat × Bool)} {α:Type}
theorem Of {R:Rep α} {e:TypeId} {bl:List α} {S:Blk} {w:World} {C':Array Value} {cp n:Nat} (M:n=bl.length) (h1:bl.length<=cp) (h2:cp<=maxLen) (h3:C'.size=cp * R.sz) (O:B5 R S (w.drew.alloc (.cells C' e)) (C'.toList.take (bl.length * R.sz)) bl):(AK.list R e bl).holds S (w.drew.alloc (.cells C' e)) (.slice (some ⟨w.heap.size,0,none⟩) n cp):=by
 subst M;exact .inr ⟨w.heap.size,_,rfl,heap_alloc_new w.drew _,w.heap.size,cp,C',rfl,rfl,h1,h2,h3,O⟩
theorem Ic (w:World) (o:Obj):w.grownBy (w.drew.alloc o) none:=((Ext.rfl' (w:=w)).dr.tr (Ext.al _ _)).gb
def Ent.sub (sz:Nat) (v:Value) (k n:Nat):Ent:=⟨λ_ _ u=>∃ p cap,u=.slice p n cap/\n<=cap/\(n≠0->∃ b,p=some ⟨b,k * sz,none⟩/\AM v=some b), λ_ h=>h⟩
theorem Ie {R:Rep α} {b:List α} {x:Operand} {lo hi:Option Operand} {i j:Int} {T e:TypeId} {z v:Value} {by_:Nat} (r:Nat) (hx:opE l x=some (.val v)) (hr:lr res r=some (v,.list R e b)) (a2:Bnd l 0 lo i) (a6:Bnd l (b.length:Int) hi j) (hb:0<=i/\i<=j/\j<=(b.length:Int))
  (hT:P.underlying T=some (.slice e)) (hE:TI P e z R.sz by_):Run C P Γ l res ⟨some d,.slice T x lo hi none,ty,pos,after,g⟩ (.sub R.sz v i.toNat (j.toNat - i.toNat)):=λa w U=>by
 obtain⟨h1,h2,h3⟩:=hb;have k5:=(U.vl hx).1;obtain⟨xs,o1,o2⟩:=EG (U.conts r v _ hr);obtain⟨p,c,rfl⟩:=DT o1;have a1:b.length<=c:=by
  rcases o1.2 with ⟨M,h0⟩ | ⟨g',cap',cur,M,a7,a8,aa,ab,ac,O⟩
  ·omega
  ·simp only[Value.slice.injEq,true_and] at M; omega
 refine⟨.slice (if c=i.toNat then p else p.map (·.add (i.toNat * R.sz))) (j.toNat - i.toNat) (c - i.toNat), λw' _=>?_,_,_,rfl, by omega, λhn=>?_⟩
 ·have hb:=I4 (P:=P) (isS:=true) a2 a6 U h1 h2 h3 a1 w';simp only[execOp,Instr.sliceAt,k5,Sem.run_bind,run_underlying hT,Result.andThen,Instr.slice,hb,D9 hE,Sem.run_pure,Option.map_none]
 ·rw[if_neg (by omega)];rcases o1.2 with ⟨M,h0⟩ | ⟨g',cap',cur,M,a7,a8,aa,ab,ac,O⟩
  ·omega
  ·simp only[Value.slice.injEq,true_and] at M;rw[M.1];exact⟨g', by simp[D8],rfl⟩
theorem Yz {x:Operand} {T e:TypeId} {at_:Array TypeId} {sz:Nat} {v:Value} {k n:Nat} (O:opE l x=some (.sub sz v k n)) (M:at_[0]? = some T) (hT:P.underlying T=some (.slice e)) :
  Run C P Γ l res ⟨some d,.call ⟨.builtin .len,#[x],at_⟩,ty,pos,after,g⟩ (.rd A2 (n:Int)):=λa w U=>by
 obtain⟨p,cap,h1,h2,h3⟩:=U.vl O;exact⟨_, λw' _=>QS M hT h1,Dt⟩
def subi (k n:Nat) (j:Int):Option Nat:=if 0<=j/\j<(n:Int) then some (k+j.toNat) else none
theorem ixSu {β:Type} {R:Rep α} {b:List α} {k:IntKind} {f:β->Int} {j:β} {x z':Operand} {T e E:TypeId} {z v:Value} {by_ kk n q:Nat} (r:Nat) (hx:opE l x=some (.sub R.sz v kk n)) (hr:lr res r=some (v,.list R E b)) (hj:opE l z'=some (.rd (Bm k f) j)) (M:subi kk n (f j)=some q) (hT:P.underlying T=some (.slice e)) (hE:TI P e z R.sz by_) :
  Run C P Γ l res ⟨some d,.indexAddr T x z',ty,pos,after,g⟩ (.val (A7 v ((q:Int).toNat * R.sz))):=λa w U=>by
 unfold subi at M
 split at M
 ·rename_i hh
  cases M
  obtain⟨p,cap,h1,h2,h3⟩:=U.vl hx;obtain⟨bb,rfl,hb⟩:=h3 (by omega);have a1:a.eval z'=.int k ((f j).toNat:Int):=by rw[Ca (U.vl hj)]; congr 1; omega
  have O:A7 v (((kk+(f j).toNat:Nat):Int).toNat * R.sz)=.pointer (some ⟨bb,(kk+(f j).toNat) * R.sz,none⟩):=by unfold A7; rw[hb,Int.toNat_natCast]
  refine⟨.pointer (some ⟨bb,(kk+(f j).toNat) * R.sz,none⟩), λw' _=>?_,O.symm, by rw[O]; rfl⟩;have a2:(f j).toNat<n:=by omega
  rw[Nat.add_mul];generalize (f j).toNat=jn at *;simp[execOp,h1,a1,Instr.indexAt,asIntOf,run_underlying hT,a2,D9 hE,D8]
 ·cases M
def clr {α:Type} (b:List α) (k n:Nat) (x0:α):List α:=b.take k++(List.replicate n x0++b.drop (k+n))
theorem LB {z:Array Value} {n:Nat} (M:0<z.size):(Builtin.zeroCells z n).toList=(List.replicate n z.toList).flatten:=by
 rw[<- S0 rfl M]; rfl
theorem clrS {R:Rep α} {b:List α} {x0:α} {x:Operand} {T e:TypeId} {at_:Array TypeId} {z v:Value} {by_ k n:Nat} (r:Nat) (hx:opE l x=some (.sub R.sz v k n)) (hr:lr res r=some (v,.list R e b)) (hc:k+n<=b.length) (a7:at_[0]? = some T) (hT:P.underlying T=some (.slice e)) (hE:TI P e z R.sz by_) (hz:Zr R z.cells.toList x0) (h0:Nat.blt 0 R.sz=true) :
  ∀ a w,Sta Γ l res a w->∃ w' u,(execOp a.eval ⟨none,.call ⟨.builtin .clear,#[x],at_⟩,ty,pos,after,none⟩).run P w=.ok (.value u) w'/\Sta Γ l ((r,some (v,.list R e (clr b k n x0)))::res) a w':=λa w ha=>by
 have h0:0<R.sz:=Eq.mp Nat.blt_eq h0;obtain⟨p,cap,h1,h2,h3⟩:=ha.vl hx;have ac:z.cells.size=R.sz:=by rw[<- Array.length_toList]; exact R.len (hz (λ_=>True) w)
 by_cases hn:n=0
 ·subst hn;have U:(Builtin.clear_ at_ ty #[.slice p 0 cap]).run P w=.ok (.tuple #[]) w:=by
   cases p <;> simp[Builtin.clear_,a7,run_underlying hT]
  refine⟨w,.tuple #[], by simp[execOp,resolve,invoke,builtin,h1,U],?_⟩;have e:clr b k 0 x0=b:=by simp[clr]
  rw[e];exact ha.recont r hr id
 ·obtain⟨bb,rfl,hb⟩:=h3 hn;rcases ha.conts r v _ hr with ⟨rfl,_⟩ | ⟨b',o,g1,g2,M,cp,C,rfl,rfl,g3,g4,g5,g6⟩
  ·cases hb
  ·simp only[AM,Option.some.injEq] at g1 hb;subst g1; subst hb;have a1:=LB (n:=n) (z:=z.cells) (by omega);have O:((List.replicate n z.cells.toList).flatten).length=n * R.sz:=by simp[ac]
   have aa:k * R.sz+(Builtin.zeroCells z.cells n).toList.length<=C.size:=by
    rw[a1,O,g5,<- Nat.add_mul];exact Nat.mul_le_mul_right _ (by omega)
   have ab:∀ u∈(Builtin.zeroCells z.cells n).toList,u.oneCell'=true:=λu hu=>by
    rw[a1] at hu;simp only[List.mem_flatten,List.mem_replicate] at hu;obtain⟨q,⟨-,rfl⟩,hu⟩:=hu;exact R.one (hz (λ_=>True) w) u hu
   have a8:=run_storeCells_at P M (k * R.sz) e (Builtin.zeroCells z.cells n).toList 0 C w g2 (by simpa using aa) ab;simp only[Nat.add_zero] at a8;obtain⟨C',hC',U⟩:∃ C':Array Value,C'.toList=C.toList.take (k * R.sz)++(List.replicate n z.cells.toList).flatten++C.toList.drop (k * R.sz+n * R.sz)/\(Builtin.clear_ at_ ty #[.slice (some ⟨M,k * R.sz,none⟩) n cap]).run P w=.ok (.tuple #[]) (w.setRow M C'):=by
    refine⟨(C.toList.take (k * R.sz)++(Builtin.zeroCells z.cells n).toList++C.toList.drop (k * R.sz+(Builtin.zeroCells z.cells n).toList.length)).toArray,?_,?_⟩
    rotate_left
    ·obtain⟨n',rfl⟩:∃ n',n=n'+1:=⟨n - 1, by omega⟩
     simp only[Builtin.clear_,a7,Sem.run_bind,run_underlying hT,Result.andThen,Gn hE,a8,Sem.run_pure,List.getElem?_toArray,List.getElem?_cons_zero]
    ·simp only[a1,O]
   refine⟨w.setRow M C',.tuple #[], by simp[execOp,resolve,invoke,builtin,h1,U],?_⟩;refine(ha.upd r (FL M C') (λq hq=>⟨_,_,hr, by cases hq; rfl⟩) (λq hq=>.inl ⟨_,_,hr,hq⟩) (λS' k'=>?_)).1;have a2:=(g6.mono k')
   have a6:(clr b k n x0).length=b.length:=by simp[clr]; omega
   have ad:(k+n) * R.sz<=b.length * R.sz:=Nat.mul_le_mul_right _ hc;have hCl:C.toList.length=cp * R.sz:=by simpa using g5
   have ae:b.length * R.sz<=cp * R.sz:=Nat.mul_le_mul_right _ g3;rw[Nat.add_mul] at ad;refine .inr ⟨M,_,rfl,setRow_heap w M C C' e _ g2,M,cp,C', by rw[a6],rfl, by rw[a6]; exact g3,g4,?_,?_⟩
   ·rw[<- Array.length_toList,hC'];simp only[List.length_append,List.length_take,List.length_drop,hCl,O];omega
   ·rw[a6,hC'];have e1:(C.toList.take (k * R.sz)++(List.replicate n z.cells.toList).flatten++C.toList.drop (k * R.sz+n * R.sz)).take (b.length * R.sz)
      = (C.toList.take (b.length * R.sz)).take (k * R.sz)++((List.replicate n z.cells.toList).flatten++(C.toList.take (b.length * R.sz)).drop ((k+n) * R.sz)):=by
     have l1:(C.toList.take (k * R.sz)).length=k * R.sz:=by rw[List.length_take]; omega
     rw[List.take_take,Nat.min_eq_left (by omega),List.append_assoc,List.take_append,List.take_append,List.take_take,O,l1];rw[Nat.min_eq_right (by omega),List.take_of_length_le (l:=(List.replicate n z.cells.toList).flatten) (by rw[O]; omega),List.drop_take,Nat.add_mul]
     congr 3
     omega
    rw[e1];refine(a2.take k).append ((hz.rep S' _ n).append ?_);exact a2.drop (k+n)
theorem cutO {R:Rep α} {b b':List α} {x:Operand} {hi:Operand} {kk:IntKind} {γ:Type} {f:γ->Int} {jj:γ} {T e:TypeId} {z v:Value} {by_:Nat} (r:Nat) (hx:opE l x=some (.val v)) (hr:lr res r=some (v,.list R e b)) (U:opE l hi=some (.rd (Bm kk f) jj)) (hb:cut b 0 (f jj)=some b')
  (hT:P.underlying T=some (.slice e)) (hE:TI P e z R.sz by_):Eff P Γ l res ⟨some d,.slice T x none (some hi) none,ty,pos,after,g⟩ r (λu=>(u,.list R e b')):=λa w M=>by
 obtain⟨h1,h2,h3,rfl⟩:=QY hb;have k5:=(M.vl hx).1;have e0:((b.drop (0:Int).toNat).take ((f jj).toNat - (0:Int).toNat))=b.take (f jj).toNat:=by simp
 rw[e0];have O:(b.take (f jj).toNat).length=(f jj).toNat:=by simp; omega
 rcases M.conts r v _ hr with ⟨rfl,rfl⟩ | ⟨b',ob,g1,g2,bb,cap,C,rfl,rfl,g3,g4,g5,g6⟩
 ·have hj:(f jj).toNat=0:=by simp at h3; omega
  refine⟨w,.slice none 0 0,?_,?_,rfl,none,Ext.rfl'.gb, by simp⟩
  ·have hb:=I4 (P:=P) (isS:=true) (n:=0) (cp:=0) Bnd.no (Bnd.to U) M (Int.le_refl _) h2 (by simpa using h3) (Nat.le_refl _) w;simp only[hj] at hb;simp only[execOp,Instr.sliceAt,k5,Sem.run_bind,run_underlying hT,Result.andThen,Instr.slice,Option.map_none] at hb ⊢;simp only[hb,D9 hE,Sem.run_pure,Result.andThen];rfl
  ·exact M.upd r (v:=.slice none 0 0) (wr:=none) Ext.rfl'.gb (by simp) (by simp[AM]) (λS' k'=>.inl ⟨rfl, by simp⟩)
 ·simp only[AM,Option.some.injEq] at g1;subst g1;refine⟨w,.slice (some ⟨bb,0,none⟩) (f jj).toNat cap,?_,?_,rfl,none,Ext.rfl'.gb, by simp⟩
  ·have hb:=I4 (P:=P) (isS:=true) (n:=b.length) (cp:=cap) Bnd.no (Bnd.to U) M (Int.le_refl _) h2 h3 g3 w;simp only[Option.map_none,Option.map_some] at hb;simp only[execOp,Instr.sliceAt,k5,Sem.run_bind,run_underlying hT,Result.andThen,Instr.slice,hb,D9 hE,Sem.run_pure,Option.map_none,Option.map_some];simp[D8]
  ·refine M.upd r (wr:=none) Ext.rfl'.gb (by simp) (λq hq=>.inl ⟨_,_,hr,hq⟩) (λS' k'=>?_);refine .inr ⟨bb,_,rfl,g2,bb,cap,C, by rw[O],rfl, by rw[O]; omega,g4,g5,?_⟩;have g7:=(g6.mono k').take (f jj).toNat;rw[List.take_take,Nat.min_eq_left (Nat.mul_le_mul_right _ (by omega))] at g7;rw[O]; exact g7
theorem capN {x:Operand} {T e:TypeId} {at_:Array TypeId} (O:opE l x=some (.val (.slice none 0 0))) (M:at_[0]? = some T) (hT:P.underlying T=some (.slice e)) :
  Run C P Γ l res ⟨some d,.call ⟨.builtin .cap,#[x],at_⟩,ty,pos,after,g⟩ (.rd A2 0):=λa w U=>by
 have h1:=(U.vl O).1;refine⟨.int .i64 0, λw' _=>?_,Dt⟩;simp[execOp,resolve,invoke,builtin,Builtin.cap_,h1,M,run_underlying hT,goInt]
theorem cutN {x hi:Operand} {T e:TypeId} {z:Value} {sz by_:Nat} (U:opE l x=some (.val (.slice none 0 0))) (M:opE l hi=some (.rd A2 0)) (hT:P.underlying T=some (.slice e)) (hE:TI P e z sz by_) :
  Run C P Γ l res ⟨some d,.slice T x none (some hi) none,ty,pos,after,g⟩ (.val (.slice none 0 0)):=λa w O=>by
 have h1:=(O.vl U).1;refine⟨.slice none 0 0, λw' _=>?_,rfl,rfl⟩;have hb:=I4 (P:=P) (isS:=true) (n:=0) (cp:=0) Bnd.no (Bnd.to (k:=.i64) (f:=id) M) O (Int.le_refl _) (Int.le_refl _) (Int.le_refl _) (Nat.le_refl _) w';simp only[execOp,Instr.sliceAt,h1,Sem.run_bind,run_underlying hT,Result.andThen,Instr.slice,Option.map_none] at hb ⊢;simp only[hb,D9 hE,Sem.run_pure,Result.andThen];rfl
theorem apZ {R:Rep α} {x0:α} {b:List α} {x y:Operand} {z:Value} {T I e:TypeId} {by_:Nat} {n:Int} (r:Nat) (hx:opE l x=some (.val (.slice none 0 0))) (hy:opE l y=some (.rd A2 n)) (hb:mkn (2 * by_) x0 n=some b)
  (hT:P.underlying T=some (.slice e)) (hI:P.underlying I=some (.int .i64)) (hE:TI P e z R.sz by_) (hz:Zr R z.cells.toList x0) (h0:Nat.blt 0 R.sz=true) :
  Eff P Γ l res ⟨some d,.call ⟨.builtin .append,#[x,y],#[T,I]⟩,ty,pos,after,g⟩ r (λu=>(u,.list R e b)):=λa w O=>by
 have h0:0<R.sz:=Eq.mp Nat.blt_eq h0;obtain⟨h1,h2,h3,rfl⟩:=Ln hb;obtain⟨n',rfl⟩:∃ n':Nat,n=(n':Int):=⟨n.toNat, by omega⟩
 simp only[Int.toNat_natCast] at h2 h3 ⊢;have e1:=(O.vl hx).1;have e2:=Ca (O.vl hy);simp only[id] at e2;obtain⟨ti,g1,g2,g3,g4⟩:=hE;have U:z.cells.size=R.sz:=by rw[<- Array.length_toList]; exact R.len (hz (λ_=>True) w)
 have hw:IntKind.i64.wrap (n':Int)=(n':Int):=Jg (by omega) (by omega);by_cases hn:n'=0
 ·subst hn;have M:(Builtin.append_ #[T,I] ty #[.slice none 0 0,.int .i64 0]).run P w=.ok (.slice none 0 0) w:=by
   have a1:IntKind.i64.wrap 0=0:=by decide
   simp[Builtin.append_,run_underlying hT,run_underlying hI,sizeOf,typeInfo,g1,asInt,asIntOf,a1,storeCells]
  refine⟨w,.slice none 0 0,?_,?_,rfl,none,Ext.rfl'.gb, by simp⟩
  ·simp[execOp,resolve,invoke,builtin,e1,e2,M]
  ·exact O.upd r (v:=.slice none 0 0) (wr:=none) Ext.rfl'.gb (by simp) (by simp[AM]) (λS' k'=>.inl ⟨rfl,rfl⟩)
 ·have a2:n' * ti.bytes<=281474976710656:=by
   rw[g4,Nat.mul_comm]; rw[Nat.mul_assoc] at h2; omega
  have ab:Builtin.nextslicecap n' 0 * ti.bytes<=281474976710656:=by
   rw[nextslicecap_zero (by omega),g4];rw[Nat.mul_assoc,Nat.mul_comm by_] at h2; omega
  have a6:=grownCap_ge w n' 0 e;have a7:=grownCap_le_maxLen w n' 0 e (by unfold maxLen; omega);have aa:¬ (281474976710656<Builtin.nextslicecap n' 0 * ti.bytes):=by omega
  have a8:¬ (n' * ti.size=0):=by
   rw[g3]; intro hh; rcases Nat.mul_eq_zero.1 hh with h | h <;> omega
  obtain⟨C',hC',M⟩:∃ C':Array Value,C'.toList=(Builtin.zeroCells z.cells n').toList++(Builtin.zeroCells z.cells (grownCap w n' 0 e - n')).toList/\(Builtin.append_ #[T,I] ty #[.slice none 0 0,.int .i64 (n':Int)]).run P w=.ok (.slice (some ⟨w.heap.size,0,none⟩) n' (grownCap w n' 0 e)) (w.drew.alloc (.cells C' e)):=by
   refine⟨Builtin.zeroCells z.cells n'++Builtin.zeroCells z.cells (grownCap w n' 0 e - n'), by simp,?_⟩
   have:=Oe (w:=w) (ty:=ty) (sLen:=0) (sCap:=0) (base:=none) (olds:=#[]) hT hI g1 g2 hw (by have:=a2; omega) (by omega) (by omega) (by rw[Nat.zero_add]; omega) a8 (λw' _=>run_firstCells_none w' _ 0 0 0)
   simpa using this
  refine⟨w.drew.alloc (.cells C' e),.slice (some ⟨w.heap.size,0,none⟩) n' (grownCap w n' 0 e),?_,?_,rfl,none,Ic w _, by simp⟩
  ·simp only[execOp,resolve,invoke,builtin,Sem.run_bind];simp[e1,e2,M]
  ·refine O.upd r (wr:=none) (Ic w _) (by simp) (λq hq=>.inr (by simp[AM] at hq; omega)) (λS' k'=>Of (by simp) (by simp; exact a6) a7 ?_ ?_)
   ·rw[<- Array.length_toList,hC'];simp only[List.length_append,Array.length_toList,size_zeroCells,U];rw[<- Nat.add_mul]; congr 1; omega
   ·simp only[List.nil_append,List.length_replicate];rw[hC',LB (by omega),List.take_left' (by simp[U])];exact hz.rep _ _ _
theorem idxV {β:Type} {n:Nat} {R:Rep α} {b:Vector α n} {y:α} {k:IntKind} {f:β->Int} {j:β} {x z':Operand} {T e:TypeId} {z:Value} {by_:Nat} (hx:opE l x=some (.rd (Av n R) b)) (hj:opE l z'=some (.rd (Bm k f) j)) (M:B3 b (f j)=some y) (hT:P.underlying T=some (.array n e)) (hE:TI P e z R.sz by_) (hTy:BJ P e R.agg R.sz) :
  Run C P Γ l res ⟨some d,.index T x z',ty,pos,after,g⟩ (.rd R y):=λa w O=>by
 obtain⟨cs,h1,h2⟩:=O.vl hx;obtain⟨k1,k3⟩:=Lk M;have U:a.eval z'=.int k ((f j).toNat:Int):=by rw[Ca (O.vl hj)]; congr 1; omega
 have a1:b.toList[(f j).toNat]? = some y:=by
  have:=M
  unfold B3 idx at this;rw[if_pos k1] at this
  simpa using this
 obtain⟨aa,c,dd,e1,e2,e3,-⟩:=B5.split h1 a1;refine⟨R.val c, λw' _=>?_,c,e3,rfl⟩;have p1:=Hb (P:=P) (xs:=cs.toArray) (by simpa using e1) e3 hTy w';rw[e2] at p1;have a2:a.eval x=.agg cs.toArray:=h2;generalize (f j).toNat=jn at *;simp[execOp,Instr.index,a2,U,asIntOf,run_underlying hT,k3,D9 hE,p1]
theorem ixH {β:Type} {n:Nat} {R:Rep α} {b:Vector α n} {y:α} {k:IntKind} {f:β->Int} {j:β} {x z':Operand} {T e:TypeId} {z v:Value} {by_ q:Nat} {c:AK} {upd:Vector α n->AK} (r:Nat) (hx:opE l x=some (.val (A7 v q))) (hr:lr res r=some (v,c)) (O:Foc c q (Av n R) b upd) (hj:opE l z'=some (.rd (Bm k f) j)) (hy:B3 b (f j)=some y) (hT:P.underlying T=some (.array n e)) (hE:TI P e z R.sz by_) :
  Run C P Γ l res ⟨some d,.indexAddr T x z',ty,pos,after,g⟩ (.val (A7 v (q+(f j).toNat * R.sz))):=λa w M=>by
 have h1:=(M.vl hx).1;obtain⟨k1,k3⟩:=Lk hy;have U:a.eval z'=.int k ((f j).toNat:Int):=by rw[Ca (M.vl hj)]; congr 1; omega
 rcases M.conts r v c hr with h2 | ⟨b',o,h2,h3,h4⟩
 ·exact(O.1 _ _ v h2).elim
 ·obtain⟨bb,C',T',a',cs,dd,q1,-⟩:=O.2 _ w v o h4;rw[Jj q1] at h1 ⊢;exact⟨_, λw' _=>NW hT hE h1 U rfl k3 rfl,rfl,rfl⟩
theorem YA {R:Rep α} {n i j:Nat} {v:Vector α n} {x:Operand} {lo hi:Option Operand} {T e:TypeId} {z:Value} {by_:Nat} (hx:opE l x=some (.rp (Av n R) v)) (a1:Bnd l 0 lo (i:Int)) (a2:Bnd l (n:Int) hi (j:Int)) (hT:P.underlying T=some (.array n e)) (hE:TI P e z R.sz by_) (a8:i<=j/\j<=n) (hn:Nat.blt i n=true) (hm:Nat.ble n 281474976710656=true) (h0:Nat.blt 0 R.sz=true) :
  Run C P Γ l res ⟨some d,.slice T x lo hi none,ty,pos,after,g⟩ (.rd (A3 R) ((v.toList.drop i).take (j - i))):=λa w ha=>by
 have hn:i<n:=Eq.mp Nat.blt_eq hn;have hm:n<=281474976710656:=Nat.le_of_ble_eq_true hm;obtain⟨b,o,cs,h1,h2,h3,h4⟩:=ha.vl hx;have U:((v.toList.drop i).take (j - i)).length=j - i:=by simp; omega
 have M:B5 R (Shr Γ.H res w) w ((cs.drop (i * R.sz)).take ((j - i) * R.sz)) ((v.toList.drop i).take (j - i)):=(B5.drop i (show B5 R _ w cs v.toList from h3)).take (j - i);refine⟨.slice (some ⟨b,o+i * R.sz,none⟩) ((v.toList.drop i).take (j - i)).length (n - i), λw' _=>?_,_,⟨some ⟨b,o+i * R.sz,none⟩,n - i,_,rfl,⟨M.len,.inr ⟨b,o+i * R.sz,none,n - i,rfl, by omega, by unfold maxLen; omega,.inr rfl, λq u O=>?_⟩⟩,M, λ_ bb a6=>by cases a6; exact h2⟩,rfl⟩
 ·rw[U];have hb:=I4 (P:=P) (isS:=false) (n:=n) (cp:=n) a1 a2 ha (by omega) (by omega) (by omega) (Nat.le_refl _) w';simp only[Int.toNat_natCast] at hb;have a7:¬ n=i:=by omega
  simp[execOp,h1,Instr.sliceAt,run_underlying hT,hb,Instr.sureAddr,D9 hE,Sem.run_pure,D8,a7]
 ·rw[List.getElem?_take] at O
  split at O
  ·rw[List.getElem?_drop] at O
   have:=h4 _ u O
   rw[show o+i * R.sz+q=o+(i * R.sz+q) by omega]; exact this
  ·cases O
theorem fldV {β:Type} {R:Rep α} {R2:Rep β} {b:α} {y:β} {off i:Nat} {set:β->α} {x:Operand} {T ft:TypeId} {fs:Array Field} (hx:opE l x=some (.rd R b)) (hp:AV R b off R2 y set) (O:R.agg=true) (hT:P.underlying T=some (.struct fs)) (hf:(fs[i]?).map (λf=>(f.type,f.offset))=some (ft,off)) (hTy:BJ P ft R2.agg R2.sz) :
  Run C P Γ l res ⟨some d,.field T x i,ty,pos,after,g⟩ (.rd R2 y):=λa w ha=>by
 obtain⟨cs,h1,h2⟩:=ha.vl hx;obtain⟨aa,c,dd,e1,e2,e3,-⟩:=hp _ _ _ h1;have U:a.eval x=.agg cs.toArray:=by rw[h2]; simp[Rep.val,O]
 obtain⟨f,a1,M⟩:=Option.map_eq_some_iff.1 hf;simp only[Prod.mk.injEq] at M;obtain⟨rfl,rfl⟩:=M;refine⟨R2.val c, λw' _=>?_,c,e3,rfl⟩;have p1:=Hb (P:=P) (xs:=cs.toArray) (by simpa using e1) e3 hTy w';rw[e2] at p1;simp[execOp,Instr.field,U,run_underlying hT,a1,asAgg,p1]
theorem nckP {β:Type} {R:Rep β} {y:β} {upd:β->AK} {x:Operand} {v:Value} {k:Nat} {c:AK} (r:Nat) (U:opE l x=some (.val (A7 v k))) (hr:lr res r=some (v,c)) (M:Foc c k R y upd):Run C P Γ l res ⟨some d,.nilCheck x,ty,pos,after,g⟩ (.val (A7 v k)):=λa w O=>by
 have h1:=(O.vl U).1;rcases O.conts r v c hr with h2 | ⟨b,o,h2,h3,h4⟩
 ·exact(M.1 _ _ v h2).elim
 ·obtain⟨b',C',T,a',cs,dd,k1,-⟩:=M.2 _ w v o h4;rw[Jj k1] at h1 ⊢;exact⟨_, λw' _=>by simp[execOp,h1],rfl,rfl⟩
def appz {α:Type} (by_:Nat) (b:List α) (x:α) (n:Int):Option (List α):=if 0<=n/\(b.length+n.toNat) * by_<=140737488355328 then some (b++List.replicate n.toNat x) else none
theorem YB {by_:Nat} {b d:List α} {x:α} {n:Int} (h:appz by_ b x n=some d):0<=n/\(b.length+n.toNat) * by_<=140737488355328/\b++List.replicate n.toNat x=d:=by
 unfold appz at h; split at h
 ·rename_i hh; cases h; exact⟨hh.1,hh.2,rfl⟩
 ·cases h
theorem apZO {R:Rep α} {x0:α} {b b3:List α} {x y:Operand} {v z:Value} {T I e:TypeId} {by_:Nat} {n:Int} (r:Nat) (hx:opE l x=some (.val v)) (hr:lr res r=some (v,.list R e b)) (hy:opE l y=some (.rd A2 n)) (hb:appz by_ b x0 n=some b3)
  (hT:P.underlying T=some (.slice e)) (hI:P.underlying I=some (.int .i64)) (hE:TI P e z R.sz by_) (hz:Zr R z.cells.toList x0) (h0:Nat.blt 0 R.sz=true) (h1:Nat.blt 0 by_=true:=by rfl) :
  Eff P Γ l res ⟨some d,.call ⟨.builtin .append,#[x,y],#[T,I]⟩,ty,pos,after,g⟩ r (λu=>(u,.list R e b3)):=λa w ha=>by
 have h0:0<R.sz:=Eq.mp Nat.blt_eq h0;have h1:0<by_:=Eq.mp Nat.blt_eq h1;obtain⟨b2,a6,rfl⟩:=YB hb;obtain⟨n',rfl⟩:∃ n':Nat,n=(n':Int):=⟨n.toNat, by omega⟩
 simp only[Int.toNat_natCast] at a6 ⊢;have e1:=(ha.vl hx).1;have e2:=Ca (ha.vl hy);simp only[id] at e2;obtain⟨ti,t1,t2,t3,t4⟩:=hE;have a7:z.cells.size=R.sz:=by rw[<- Array.length_toList]; exact R.len (hz (λ_=>True) w)
 have b0:b.length+n'<=140737488355328:=Nat.le_trans (Nat.le_mul_of_pos_right _ h1) a6;have b4:maxLen=9223372036854775807:=rfl;have hw:IntKind.i64.wrap (n':Int)=(n':Int):=Jg (by omega) (by omega);have a2:n' * ti.bytes<=281474976710656:=by
  rw[t4]
  have:n' * by_<=140737488355328:=Nat.le_trans (Nat.mul_le_mul_right _ (by omega)) a6
  omega
 have a1:=LB (n:=n') (z:=z.cells) (by omega);have aa:((List.replicate n' z.cells.toList).flatten).length=n' * R.sz:=by simp[a7]
 have ak:∀ u∈(Builtin.zeroCells z.cells n').toList,u.oneCell'=true:=λu hu=>by
  rw[a1] at hu;simp only[List.mem_flatten,List.mem_replicate] at hu;obtain⟨q,⟨-,rfl⟩,hu⟩:=hu;exact R.one (hz (λ_=>True) w) u hu
 obtain⟨xs,o1,o2⟩:=EG (ha.conts r v _ hr);rcases o1.2 with ⟨rfl,ap⟩ | ⟨g',cap,cur,rfl,b5,ab,b6,aq,ai,af⟩
 ·have ar:b=[]:=List.eq_nil_of_length_eq_zero ap;subst ar;by_cases hn:n'=0
  ·subst hn;have M:(Builtin.append_ #[T,I] ty #[.slice none 0 0,.int .i64 0]).run P w=.ok (.slice none 0 0) w:=by
    have av:IntKind.i64.wrap 0=0:=by decide
    simp[Builtin.append_,run_underlying hT,run_underlying hI,sizeOf,typeInfo,t1,asInt,asIntOf,av,storeCells]
   refine⟨w,.slice none 0 0,?_,?_,rfl,none,Ext.rfl'.gb, by simp⟩
   ·simp[execOp,resolve,invoke,builtin,e1,e2,M]
   ·exact ha.upd r (v:=.slice none 0 0) (wr:=none) Ext.rfl'.gb (by simp) (by simp[AM]) (λS' k'=>.inl ⟨rfl,rfl⟩)
  ·have ac:=grownCap_ge w n' 0 e;have ad:=grownCap_le_maxLen w n' 0 e (by omega);have az:¬ (281474976710656<Builtin.nextslicecap n' 0 * ti.bytes):=by
    rw[nextslicecap_zero (by omega),t4];simp only[List.length_nil,Nat.zero_add] at a6; omega
   have aw:¬ ((9223372036854775807:Int)<(n':Int)):=by omega
   have ae:¬ (n' * ti.size=0):=by
    rw[t3]; intro hh; rcases Nat.mul_eq_zero.1 hh with h | h <;> omega
   obtain⟨C',hC',M⟩:∃ C':Array Value,C'.toList=(Builtin.zeroCells z.cells n').toList++(Builtin.zeroCells z.cells (grownCap w n' 0 e - n')).toList/\(Builtin.append_ #[T,I] ty #[.slice none 0 0,.int .i64 (n':Int)]).run P w=.ok (.slice (some ⟨w.heap.size,0,none⟩) n' (grownCap w n' 0 e)) (w.drew.alloc (.cells C' e)):=by
    refine⟨Builtin.zeroCells z.cells n'++Builtin.zeroCells z.cells (grownCap w n' 0 e - n'), by simp,?_⟩
    have:=Oe (w:=w) (ty:=ty) (sLen:=0) (sCap:=0) (base:=none) (olds:=#[]) hT hI t1 t2 hw a2 (by omega) (by omega) (by rw[Nat.zero_add]; omega) ae (λw' _=>run_firstCells_none w' _ 0 0 0)
    simpa using this
   refine⟨w.drew.alloc (.cells C' e),.slice (some ⟨w.heap.size,0,none⟩) n' (grownCap w n' 0 e),?_,?_,rfl,none,Ic w _, by simp⟩
   ·simp only[execOp,resolve,invoke,builtin,Sem.run_bind];simp[e1,e2,M]
   ·refine ha.upd r (wr:=none) (Ic w _) (by simp) (λq O=>.inr (by simp[AM] at O; omega)) (λS' k'=>Of (by simp) (by simp; exact ac) ad ?_ ?_)
    ·rw[<- Array.length_toList,hC'];simp only[List.length_append,Array.length_toList,size_zeroCells,a7];rw[<- Nat.add_mul]; congr 1; omega
    ·simp only[List.nil_append,List.length_replicate];rw[hC',LB (by omega),List.take_left' (by simp[a7])];exact hz.rep _ _ _
 ·have b1:Bx w g' cur e:=ab;have a8:=o1.1;have ah:∀ j u,xs[j]? = some u->w.cell? ((⟨g',0,none⟩:Addr).add j)=some u:=λj u hu=>o1.cells (g:=g') rfl j u hu;by_cases U:b.length+n'<=cap
  ·have am:b.length * R.sz+(Builtin.zeroCells z.cells n').toList.length<=cur.size:=by
    rw[a1,aa,ai,<- Nat.add_mul]; exact Nat.mul_le_mul_right _ U
   have aj:=run_storeCells_at P g' (b.length * R.sz) e (Builtin.zeroCells z.cells n').toList 0 cur w ab (by simpa using am) ak;simp only[Nat.add_zero] at aj;obtain⟨C',hC',M⟩:∃ C':Array Value,C'.toList=cur.toList.take (b.length * R.sz)++(Builtin.zeroCells z.cells n').toList++cur.toList.drop (b.length * R.sz+(Builtin.zeroCells z.cells n').toList.length)/\(Builtin.append_ #[T,I] ty #[.slice (some ⟨g',0,none⟩) b.length cap,.int .i64 (n':Int)]).run P w=.ok (.slice (some ⟨g',0,none⟩) (b.length+n') cap) (w.setRow g' C'):=by
    refine⟨(cur.toList.take (b.length * R.sz)++(Builtin.zeroCells z.cells n').toList++cur.toList.drop (b.length * R.sz+(Builtin.zeroCells z.cells n').toList.length)).toArray,rfl,?_⟩;have ao:(storeCells ((⟨g',0,none⟩:Addr).add (b.length * ti.size)) (if n' * ti.size=0 then [] else (Builtin.zeroCells z.cells n').toList)).run P w=.ok () (w.setRow g' (cur.toList.take (b.length * R.sz)++(Builtin.zeroCells z.cells n').toList++cur.toList.drop (b.length * R.sz+(Builtin.zeroCells z.cells n').toList.length)).toArray):=by
     have e9:(if n' * ti.size=0 then [] else (Builtin.zeroCells z.cells n').toList)=(Builtin.zeroCells z.cells n').toList:=by
      split
      ·rename_i h;rw[a1];rw[t3] at h;rcases Nat.mul_eq_zero.1 h with h | h
       ·rw[h]; rfl
       ·omega
      ·rfl
     rw[e9,t3,D8,Nat.zero_add];exact aj
    exact Yy hT hI t1 t2 hw a2 U ao
   have hCl:cur.toList.length=cur.size:=by simp
   refine⟨w.setRow g' C',.slice (some ⟨g',0,none⟩) (b.length+n') cap,?_,?_,rfl,some g',FL g' C', λq O=>⟨_,_,hr, by cases O; rfl⟩⟩
   ·simp only[execOp,resolve,invoke,builtin,Sem.run_bind];simp[e1,e2,M]
   ·refine ha.upd r (FL g' C') (λq O=>⟨_,_,hr, by cases O; rfl⟩) (λq O=>.inl ⟨_,_,hr,O⟩) (λS' k'=>.inr ⟨g',_,rfl,setRow_heap w g' cur C' e _ ab,g',cap,C', by rw[List.length_append,List.length_replicate],rfl, by rw[List.length_append,List.length_replicate]; exact U,aq,?_,?_⟩)
    ·rw[<- ai,<- Array.length_toList (xs:=C'),hC'];simp only[List.length_append,List.length_take,List.length_drop,hCl];omega
    ·rw[List.length_append,List.length_replicate,hC',af,a1,List.take_left' (by rw[List.length_append,a8,aa,Nat.add_mul])];exact(o2.mono k').append (hz.rep _ _ _)
  ·have hfit2:¬ (281474976710656<Builtin.nextslicecap (b.length+n') cap * ti.bytes):=by
    rw[t4]; have:=growslice_fits (old:=cap) (need:=b.length+n') (bytes:=by_) (by omega) (by omega); omega
   have aw:¬ ((9223372036854775807:Int)<((b.length+n':Nat):Int)):=by omega
   have ac:=grownCap_ge w (b.length+n') cap e;have ad:=grownCap_le_maxLen w (b.length+n') cap e (by omega);have ax:=run_firstCells_some (P:=P) w.drew ti.size b.length ⟨g',0,none⟩ b.length cap xs (by rw[t3]; exact a8) (by simpa using ah);obtain⟨C',hC',M⟩:∃ C':Array Value,C'.toList=(xs++(Builtin.zeroCells z.cells n').toList)++(Builtin.zeroCells z.cells (grownCap w (b.length+n') cap e - (b.length+n'))).toList/\(Builtin.append_ #[T,I] ty #[.slice (some ⟨g',0,none⟩) b.length cap,.int .i64 (n':Int)]).run P w=.ok (.slice (some ⟨w.heap.size,0,none⟩) (b.length+n') (grownCap w (b.length+n') cap e)) (w.drew.alloc (.cells C' e)):=by
    refine⟨xs.toArray++Builtin.zeroCells z.cells n'++Builtin.zeroCells z.cells (grownCap w (b.length+n') cap e - (b.length+n')), by simp,?_⟩;have ae:¬ (n' * ti.size=0):=by
     rw[t3]; intro hh; rcases Nat.mul_eq_zero.1 hh with h | h <;> omega
    exact Oe hT hI t1 t2 hw a2 (by omega) (by omega) (by omega) ae (λw' ay=>by subst ay; exact ax)
   refine⟨w.drew.alloc (.cells C' e),.slice (some ⟨w.heap.size,0,none⟩) (b.length+n') (grownCap w (b.length+n') cap e),?_,?_,rfl,none,Ic w _, by simp⟩
   ·simp only[execOp,resolve,invoke,builtin,Sem.run_bind];simp[e1,e2,M]
   ·refine ha.upd r (wr:=none) (Ic w _) (by simp) (λq O=>.inr (by simp[AM] at O; omega)) (λS' k'=>Of (by simp) (by simp; exact ac) ad ?_ ?_)
    ·rw[<- Array.length_toList,hC'];simp only[List.length_append,Array.length_toList,size_zeroCells,a8,a7]
     have:grownCap w (b.length+n') cap e * R.sz=(b.length+n') * R.sz+(grownCap w (b.length+n') cap e - (b.length+n')) * R.sz:=by rw[<- Nat.add_mul]; congr 1; omega
     rw[Nat.add_mul] at this; omega
    ·rw[List.length_append,List.length_replicate,hC',a1,List.take_left' (by rw[List.length_append,aa,a8,Nat.add_mul])];exact(o2.mono k').append (hz.rep _ _ _)
end
end
section
theorem YC {α:Type} {R:Rep α} {T:TypeId} {b:List α} {S S':Blk} {w:World} {v:Value} (h:(AK.list R T b).holds S w v) (M:Bj S S' w w) (hb:∀ bb,AM v=some bb->S' bb):(Ent.rd (A3 R) b).holds S' w v:=by
 obtain⟨xs,O,k4⟩:=EG h;obtain⟨p,c,rfl⟩:=DT O;exact⟨_,⟨p,c,xs,rfl,Rd.of_own O,k4.mono M, λ_ bb U=>hb bb (by rw[Ew,I0]; exact U)⟩,rfl⟩
section
variable {P:Program} {Γ:Ctx} {l:AQ} {res:Res} {o:Oper}
theorem SO {a:Act} {w:World} {K K':Act->World->Prop} {Q:Exit->Act->World->Prop} (h:o.wp P a w K (λ_ _ _=>False)) (O:∀ a w,K a w->K' a w):o.wp P a w K' Q:=by
 unfold Oper.wp at h ⊢;generalize (execOp a.eval o).run P w=r at h ⊢
 cases r with
 | ok x w' =>
  cases x <;> simp only[Oper.upon] at h ⊢ <;>
   first
    | exact O _ _ h
    | exact Calls.mono h (λe w'' M=>by
      cases e with
      | returned v=>exact O _ _ M
      | panicked ch=>exact M.elim
      | outgrown=>obtain⟨_,_,h1⟩:=M; exact h1.elim)
    | exact Rows.mono h (λ_ _ M=>O _ _ M)
    | exact h
 | halt x w'=>cases x <;> simp only[Oper.upon] at h ⊢ <;> first | exact h.elim | exact h
end
def De:List Nat->Bool
 | []=>true
 | x::l=>!l.contains x&&De l
theorem SP:∀ {l:List Nat} {i j x:Nat},De l=true->l[i]? = some x->l[j]? = some x->i=j
 | [],i,_,_,_,h,_=>by simp at h
 | y::l,0,0,_,_,_,_=>rfl
 | y::l,0,j+1,x,h,h1,h2=>by
  simp only[List.getElem?_cons_zero,Option.some.injEq,List.getElem?_cons_succ] at h1 h2;subst h1
  have:=List.mem_of_getElem? h2
  simp only[De,Bool.and_eq_true,Bool.not_eq_true',List.contains_eq_mem,decide_eq_false_iff_not] at h;exact absurd this h.1
 | y::l,i+1,0,x,h,h1,h2=>by
  simp only[List.getElem?_cons_zero,Option.some.injEq,List.getElem?_cons_succ] at h1 h2;subst h2
  have:=List.mem_of_getElem? h1
  simp only[De,Bool.and_eq_true,Bool.not_eq_true',List.contains_eq_mem,decide_eq_false_iff_not] at h;exact absurd this h.1
 | y::l,i+1,j+1,x,h,h1,h2=>by
  simp only[List.getElem?_cons_succ] at h1 h2;simp only[De,Bool.and_eq_true] at h;rw[SP h.2 h1 h2]
theorem SQ {l l':AQ} {t:Nat} {e:Ent} (h:lk (l++l') t=some e):lk l t=some e\/lk l' t=some e:=by
 induction l with
 | nil=>exact .inr h
 | cons x l M =>
  obtain⟨k,u⟩:=x;rw[List.cons_append,C4] at h;rw[C4]
  split
  ·rename_i hh; rw[if_pos hh] at h; exact .inl h
  ·rename_i hh; rw[if_neg hh] at h; exact M h
theorem SR {p q:Nat->Bool}:∀ {l:List Nat} {x:Nat},x∈l->p x=true->q x=false->(∀ y,q y=true->p y=true)->(l.filter q).length<(l.filter p).length
 | [],_,h,_,_,_=>by simp at h
 | y::l,x,h,U,hq,M=>by
  have a1:∀ l:List Nat,(l.filter q).length<=(l.filter p).length:=λl=>by
   induction l with
   | nil=>simp
   | cons z l O =>
    simp only[List.filter_cons]
    cases a2:q z with
    | true=>simp[M z a2]; exact O
    | false=>cases p z <;> simp <;> omega
  simp only[List.filter_cons];rcases List.mem_cons.1 h with rfl | h
  ·simp only[U,hq,if_true,Bool.false_eq_true,if_false,List.length_cons]
   have:=a1 l; omega
  ·have O:=SR h U hq M
   cases a6:q y with
   | true=>simp[M y a6]; exact O
   | false=>cases p y <;> simp <;> omega
section
variable {ρ:Type} {ro:Option Nat} {P:Program} {n:Nat} {K H:Blk} {w0:World} {dsd:List Deferred} {l0:AQ} {res:Res} {Q:ρ->Exit->Act->World->Prop} {m:Option ρ}
theorem E7 {Γ:Ctx} {l:AQ} {c:Code} (L':AQ) (res':Res) (ns:List Nat) (h1:Ei l L') (h2:BE res res' ns) (k:G ro P (Sta Γ L' res') c Q m):G ro P (Sta Γ l res) c Q m:=λa w M=>k a w (M.sub ns h1 h2)
end
end
section
abbrev NV:=Nat->Value
abbrev SV (α:Type):=List Nat × (NV->α)
def sv {α:Type} (x:SV α) (M:NV):α:=x.2 λk=>bif x.1.contains k then M k else undef
theorem Og {α:Type} {x:SV α} {M nv':NV} (h:∀ k,x.1.contains k=true->M k=nv' k):sv x M=sv x nv':=by
 unfold sv;refine congrArg x.2 (funext λk=>?_)
 cases O:x.1.contains k with
 | true=>simp only[cond_true]; exact h k O
 | false=>rfl
abbrev SC:=Option (SV (Value × AK))
structure VE where
 key:Nat
 base:SC
 vers:List (Nat × SC)
structure PO where
 dst:Option (Nat × SV Ent)
 ks:List (Nat × Nat × Bool)
 new:List Nat
 bs:List Nat:=[]
abbrev BS:=List (Nat × Ent × Nat)
def D6 (L:Nat->Bool):SC->List (Nat × SC)->SC
 | c,[]=>c
 | c,(p,c')::r=>bif L p then D6 L c' r else c
def ver:SC->List (Nat × SC)->Nat->SC
 | c,_,0=>c
 | _,[],_+1=>none
 | _,(_,c')::r,q+1=>ver c' r q
theorem Oh {L:Nat->Bool}:∀ {vs:List (Nat × SC)} {c:SC} {q:Nat},q<=vs.length->(∀ (j:Nat) (x:Nat × SC),j<q->vs[j]? = some x->L x.1=true)->(∀ x,vs[q]? = some x->L x.1=false)->D6 L c vs=ver c vs q
 | [],c,0,_,_,_=>rfl
 | [],c,q+1,h,_,_=>by simp at h
 | (p,c')::r,c,0,_,_,h=>by
  have:=h (p,c') (by simp)
  show (bif L p then _ else c)=c;rw[this]; rfl
 | (p,c')::r,c,q+1,O,h1,h2=>by
  have:=h1 0 (p,c') (by omega) (by simp)
  show (bif L p then D6 L c' r else c)=ver c' r q;rw[this];exact Oh (by simpa using O) (λj x hj M=>h1 (j+1) x (by omega) (by simpa using M)) (λx M=>h2 x (by simpa using M))
theorem SS {L L':Nat->Bool}:∀ {vs:List (Nat × SC)} {c:SC},(∀ x∈vs,L x.1=L' x.1)->D6 L c vs=D6 L' c vs
 | [],c,_=>rfl
 | (p,c')::r,c,h=>by
  show (bif L p then D6 L c' r else c)=(bif L' p then D6 L' c' r else c);rw[h (p,c') (by simp),SS λx M=>h x (by simp[M])]
theorem ST {L:Nat->Bool}:∀ {vs:List (Nat × SC)} {c:SC},D6 L c vs=c\/∃ x∈vs,L x.1=true/\D6 L c vs=x.2
 | [],c=>.inl rfl
 | (p,c')::r,c=>by
  cases M:L p with
  | false=>refine .inl ?_; show (bif L p then D6 L c' r else c)=c; rw[M]; rfl
  | true =>
   have e:D6 L c ((p,c')::r)=D6 L c' r:=by show (bif L p then D6 L c' r else c)=_; rw[M]; rfl
   rcases ST (L:=L) (vs:=r) (c:=c') with h | ⟨x,h1,h2,h3⟩
   ·exact .inr ⟨(p,c'), by simp,M,e.trans h⟩
   ·exact .inr ⟨x, by simp[h1],h2,e.trans h3⟩
def Rof (V:List VE) (L:Nat->Bool) (M:NV):Res:=V.map λv=>(v.key,(D6 L v.base v.vers).map (sv · M))
def Hf (V:List VE) (ks:List (Nat × Nat × Bool)) (M:NV):Res:=ks.filterMap λx=>V[x.1]?.map λv=>(v.key,(ver v.base v.vers x.2.1).map (sv · M))
def aftR (V:List VE) (ks:List (Nat × Nat × Bool)) (M:NV):Res:=ks.filterMap λx=>V[x.1]?.map λv=>(v.key,(ver v.base v.vers (bif x.2.2 then x.2.1+1 else x.2.1)).map (sv · M))
def dirs (o:Oper):List Nat:=o.after.toList.filterMap λe=>bif Region.binds .any e then some e.on else none
def LD (B:BS) (D:List PO) (o:Oper) (bs:List Nat) (M:NV):AQ:=(bs.filterMap λb=>B[b]?.map λx=>(x.1,x.2.1))++(dirs o).filterMap λj=>(D[j]?.bind (·.dst)).map λx=>(x.1,sv x.2 M)
def finS (D:List PO) (M:NV):AQ:=D.filterMap λp=>p.dst.map λx=>(x.1,sv x.2 M)
def finR (V:List VE) (M:NV):Res:=V.map λv=>(v.key,(ver v.base v.vers v.vers.length).map (sv · M))
def Obl (P:Program) (Γ:Ctx) (l0:AQ) (o:Oper) (new:List Nat) (S:NV->AQ) (N A:NV->Res) (e:Option (SV Ent)):Prop :=
 ∀ M E a w,Sta Γ (S M++l0) (N M++E) a w->o.wp P a w (λa' w'=>∃ nv' u,(∀ k,new.contains k=false->nv' k=M k)/\a'=a.put o.dst u/\(Sta Γ l0 (A nv'++E) a w'/\Bj (Shr Γ.H (N M++E) w) (Shr Γ.H (A nv'++E) w') w w') /\
  ∀ x,e=some x->(sv x nv').holds (Shr Γ.H (A nv'++E) w') w' u) (λ_ _ _=>False)
def FX (P:Program) (Γ:Ctx) (l0:AQ) (B:BS) (V:List VE) (D:List PO):List Oper->List PO->Prop
 | o::os,p::ps=>Obl P Γ l0 o p.new (LD B D o p.bs) (Hf V p.ks) (aftR V p.ks) (p.dst.map (·.2))/\FX P Γ l0 B V D os ps
 | _,_=>True
theorem FX.get {P:Program} {Γ:Ctx} {l0:AQ} {B:BS} {V:List VE} {D:List PO}:∀ {os:List Oper} {ps:List PO} {i:Nat} {o:Oper} {p:PO},FX P Γ l0 B V D os ps->os[i]? = some o->ps[i]? = some p->Obl P Γ l0 o p.new (LD B D o p.bs) (Hf V p.ks) (aftR V p.ks) (p.dst.map (·.2))
 | [],_,i,_,_,_,h,_=>by simp at h
 | _::_,[],i,_,_,_,_,h=>by simp at h
 | o::os,p::ps,0,_,_,h,h1,h2=>by
  simp only[List.getElem?_cons_zero,Option.some.injEq] at h1 h2;subst h1 h2; exact h.1
 | o::os,p::ps,i+1,_,_,h,h1,h2=>FX.get h.2 (by simpa using h1) (by simpa using h2)
def ancs (os:List Oper):List (List Nat):=os.foldl (λacc o=>acc++[((dirs o)++(dirs o).flatMap λj=>(acc[j]?).getD []).eraseDups]) []
def okId (D:List PO) (an:List Nat) (i id:Nat):Bool:=D.zipIdx.all λx=>!x.1.new.contains id || Nat.beq x.2 i || an.contains x.2
def LE (os:List Oper) (B:BS) (V:List VE) (D:List PO) (an:List (List Nat)) (ks:List Nat) (n:Nat):Bool :=
 (De (B.map (·.1))&&B.all λx=>match D[x.2.2]? with | some p=>(match p.dst with | some y=>Nat.beq y.1 x.1 | none=>false) | none=>false) &&
 (D.zipIdx.all λp=>p.1.bs.all λb=>match B[b]? with | some x=>((an[x.2.2]?).getD []).contains p.2 | none=>false) &&
 Nat.beq os.length D.length&&Nat.beq an.length D.length&&De (D.filterMap (λp=>p.dst.map (·.1))++ks)&&De (V.map (·.key)) &&
 ((os.zip (D.zip an)).zipIdx.all λx=>(match x.1.1.dst,x.1.1.guard,x.1.2.1.dst with
   | some d,none,some y=>Nat.beq d y.1&&Nat.blt d n&&y.2.1.all (okId D x.1.2.2 x.2)
   | none,none,none=>true
   | _,_,_=>false)&&x.1.1.after.all (λe=>!Region.binds .any e || Nat.blt e.on x.2) &&
  x.1.2.2.all (λy=>(dirs x.1.1).contains y || (dirs x.1.1).any λj=>((an[j]?).getD []).contains y) &&
  x.1.2.1.ks.all λy=>match V[y.1]? with
   | none=>false
   | some v=>Nat.ble y.2.1 v.vers.length&&(Nat.beq y.2.1 0 || (v.vers[y.2.1 - 1]?).any λz=>x.1.2.2.contains z.1) &&
    match v.vers[y.2.1]? with
     | none=>!y.2.2
     | some z=>bif y.2.2 then Nat.beq z.1 x.2 else ((an[z.1]?).getD []).contains x.2) &&
 V.zipIdx.all λv=>(match v.1.base with | none=>true | some c=>c.1.all λid=>D.all λp=>!p.new.contains id) &&
  v.1.vers.zipIdx.all λz=>(match D[z.1.1]? with | none=>false | some p=>p.ks.contains (v.2,z.2,true))&&(match z.1.2 with | none=>true | some c=>c.1.all (okId D ((an[z.1.1]?).getD []) z.1.1))
theorem Oi {α β:Type} {k:Nat} {f:α->Nat × β}:∀ {V:List α} {i:Nat} {v:α},De (V.map λv=>(f v).1)=true->V[i]? = some v->(f v).1=k->lk (V.map f) k=some (f v).2
 | [],i,_,_,h,_=>by simp at h
 | u::V,0,v,_,h,M=>by
  simp only[List.getElem?_cons_zero,Option.some.injEq] at h;subst h;rw[List.map_cons, show f u=((f u).1,(f u).2) from rfl,C4,if_pos M]
 | u::V,i+1,v,O,h,M=>by
  simp only[List.getElem?_cons_succ] at h;rw[List.map_cons, show f u=((f u).1,(f u).2) from rfl,C4,if_neg]
  ·simp only[List.map_cons,De,Bool.and_eq_true] at O;exact Oi O.2 h M
  ·intro e
   have:=SP O (i:=0) (j:=i+1) (x:=(f u).1) (by simp) (by simp[h,M,e])
   omega
theorem Fx {α:Type}:∀ {l:List (Nat × α)} {k:Nat} {y:α},lk l k=some y->(k,y)∈l
 | [],_,_,h=>by cases h
 | (k',v)::l,k,y,h=>by
  rw[C4] at h
  split at h
  ·rename_i e; subst e; cases h; simp
  ·simp[Fx h]
theorem SU {α:Type}:∀ {l:List (Nat × α)} {k:Nat},lk l k=none->∀ y,(k,y)∉l
 | [],_,_,_=>by simp
 | (k',v)::l,k,h,y=>by
  rw[C4] at h
  split at h
  ·cases h
  ·rename_i e;intro M;rcases List.mem_cons.1 M with M | M
   ·cases M; exact e rfl
   ·exact SU h y M
theorem Sta.lrq {Γ:Ctx} {l:AQ} {O U:Res} {a:Act} {w:World} (h:Sta Γ l O a w) (e:∀ k,lr U k=lr O k):Sta Γ l U a w:=by
 have hs:Bj (Shr Γ.H O w) (Shr Γ.H U w) w w:=λb hb=>⟨⟨hb.1, λr v c M=>hb.2.1 r v c (by rw[<- e]; exact M),hb.2.2⟩,rfl⟩
 exact⟨h.size,h.defers, λt x ht=>by obtain⟨v,h1,h2⟩:=h.slots t x ht; exact⟨v,h1,x.mono hs h2⟩, λr v c M=>(h.conts r v c (by rw[<- e]; exact M)).mono hs (λ_ _=>rfl),
  λr v c r' v' c' h1 h2=>h.excl r v c r' v' c' (by rw[<- e]; exact h1) (by rw[<- e]; exact h2), λr v c M=>h.own r v c (by rw[<- e]; exact M),h.keep,h.old,h.hid⟩
theorem Shr.lrq {H:Blk} {M O:Res} {w:World} (e:∀ k,lr O k=lr M k):Bj (Shr H M w) (Shr H O w) w w:=λb hb=>⟨⟨hb.1, λr v c U=>hb.2.1 r v c (by rw[<- e]; exact U),hb.2.2⟩,rfl⟩
section
variable {ρ:Type} {ro:Option Nat} {P:Program} {n:Nat} {K H:Blk} {w0:World} {dsd:List Deferred} {l0:AQ} {res:Res} {Q:ρ->Exit->Act->World->Prop} {m:Option ρ}
structure Fy (os:List Oper) (B:BS) (V:List VE) (D:List PO) (an:List (List Nat)) (ks:List Nat) (n:Nat):Prop where
 bnd:De (B.map (·.1))=true
 bop:∀ x∈B,∃ p y,D[x.2.2]? = some p/\p.dst=some y/\y.1=x.1
 bbs:∀ (i:Nat) (p:PO),D[i]? = some p->∀ b∈p.bs,∃ x A,B[b]? = some x/\an[x.2.2]? = some A/\i∈A
 len:os.length=D.length
 nd:De (D.filterMap (λp=>p.dst.map (·.1))++ks)=true
 ndv:De (V.map (·.key))=true
 op:∀ (i:Nat) (o:Oper) (p:PO),os[i]? = some o->D[i]? = some p->∃ A:List Nat,an[i]? = some A/\o.guard=none/\o.dst=p.dst.map (·.1)/\(∀ x,p.dst=some x->x.1<n/\∀ id∈x.2.1,okId D A i id=true)/\(∀ e∈o.after,Region.binds .any e=true->e.on<i) /\
  (∀ y∈A,y∈dirs o\/∃ j∈dirs o,∃ B,an[j]? = some B/\y∈B) /\
  ∀ k q b,(k,q,b)∈p.ks->∃ v,V[k]? = some v/\q<=v.vers.length/\(q=0\/∃ z,v.vers[q - 1]? = some z/\z.1∈A)/\(b=true->∃ z,v.vers[q]? = some z/\z.1=i)/\(b=false->∀ z,v.vers[q]? = some z->∃ B,an[z.1]? = some B/\i∈B)
 ve:∀ (k:Nat) (v:VE),V[k]? = some v->(∀ c,v.base=some c->∀ id∈c.1,∀ p∈D,p.new.contains id=false) /\
  ∀ (q:Nat) (z:Nat × SC),v.vers[q]? = some z->(∃ p,D[z.1]? = some p/\(k,q,true)∈p.ks)/\∀ c,z.2=some c->∀ id∈c.1,okId D ((an[z.1]?).getD []) z.1 id=true
theorem YD {os:List Oper} {B:BS} {V:List VE} {D:List PO} {an:List (List Nat)} {ks:List Nat} {n:Nat} (h:LE os B V D an ks n=true):Fy os B V D an ks n:=by
 unfold LE at h;simp only[Bool.and_eq_true] at h;obtain⟨⟨⟨⟨⟨⟨⟨⟨b1,b2⟩,b3⟩,c1⟩,c2⟩,c3⟩,c4⟩,c5⟩,c6⟩:=h;have c1:os.length=D.length:=Nat.eq_of_beq_eq_true c1;have c2:an.length=D.length:=Nat.eq_of_beq_eq_true c2;have q2:∀ x∈B,∃ p y,D[x.2.2]? = some p/\p.dst=some y/\y.1=x.1:=λx hx=>by
  have:=List.all_eq_true.1 b2 x hx
  cases O:D[x.2.2]? with
  | none=>rw[O] at this; cases this
  | some p =>
   rw[O] at this;simp only at this
   cases hd:p.dst with
   | none=>rw[hd] at this; cases this
   | some y=>rw[hd] at this; exact⟨p,y,rfl,hd,Nat.eq_of_beq_eq_true this⟩
 have q3:∀ (i:Nat) (p:PO),D[i]? = some p->∀ b∈p.bs,∃ x A,B[b]? = some x/\an[x.2.2]? = some A/\i∈A:=λi p O b hb=>by
  have M:(D.zipIdx)[i]? = some (p,i):=by rw[List.getElem?_zipIdx]; simp[O]
  have:=List.all_eq_true.1 (List.all_eq_true.1 b3 _ (List.mem_of_getElem? M)) b hb
  cases hx:B[b]? with
  | none=>rw[hx] at this; cases this
  | some x =>
   rw[hx] at this;simp only at this
   cases hA:an[x.2.2]? with
   | none=>rw[hA] at this; simp at this
   | some A=>rw[hA] at this; exact⟨x,A,rfl,hA, by simpa using this⟩
 refine⟨b1,q2,q3,c1,c3,c4, λi o p h1 h2=>?_, λk v hv=>?_⟩
 ·have hi:i<D.length:=(List.getElem?_eq_some_iff.1 h2).1;obtain⟨A,hA⟩:∃ A,an[i]? = some A:=⟨_,List.getElem?_eq_getElem (by omega)⟩
  have M:((os.zip (D.zip an)).zipIdx)[i]? = some ((o,p,A),i):=by
   rw[List.getElem?_zipIdx];simp[List.getElem?_zip_eq_some,h1,h2,hA]
  have:=List.all_eq_true.1 c5 _ (List.mem_of_getElem? M)
  simp only[Bool.and_eq_true] at this;obtain⟨⟨⟨U,t2⟩,t3⟩,t4⟩:=this;have hd:o.guard=none/\o.dst=p.dst.map (·.1)/\∀ x,p.dst=some x->x.1<n/\∀ id∈x.2.1,okId D A i id=true:=by
   cases hd:o.dst <;> cases hg:o.guard <;> cases O:p.dst <;> rw[hd,hg,O] at U <;> first | (cases U; done) | skip
   ·exact⟨rfl,rfl, λx hx=>by cases hx⟩
   ·simp only[Bool.and_eq_true] at U;refine⟨rfl, by rw[Nat.eq_of_beq_eq_true U.1.1]; rfl, λx hx=>?_⟩
    cases hx
    exact⟨by rw[<- Nat.eq_of_beq_eq_true U.1.1]; exact Eq.mp Nat.blt_eq U.1.2, λid hid=>List.all_eq_true.1 U.2 id hid⟩
  refine⟨A,hA,hd.1,hd.2.1,hd.2.2, λe he hb=>(by
   have:=Array.all_eq_true_iff_forall_mem.1 t2 e he
   rw[hb] at this
   exact Eq.mp Nat.blt_eq (by simpa using this)), λy hy=>?_, λk q b hk=>?_⟩
  ·have:=List.all_eq_true.1 t3 y hy
   rw[Bool.or_eq_true] at this;rcases this with h | h
   ·exact .inl (by simpa using h)
   ·obtain⟨j,hj,hh⟩:=List.any_eq_true.1 h
    cases hB:an[j]? with
    | none=>rw[hB] at hh; simp at hh
    | some B=>rw[hB] at hh; exact .inr ⟨j,hj,B,hB, by simpa using hh⟩
  ·have:=List.all_eq_true.1 t4 _ hk
   simp only at this
   cases hv:V[k]? with
   | none=>rw[hv] at this; cases this
   | some v =>
    rw[hv] at this;simp only[Bool.and_eq_true,Bool.or_eq_true] at this;obtain⟨⟨u1,u2⟩,u3⟩:=this;refine⟨v,rfl,Nat.le_of_ble_eq_true u1,?_, λhb=>?_, λhb z M=>?_⟩
    ·rcases u2 with h | h
     ·exact .inl (Nat.eq_of_beq_eq_true h)
     ·cases M:v.vers[q - 1]? with
      | none=>rw[M] at h; cases h
      | some z=>rw[M] at h; exact .inr ⟨z,rfl, by simpa using h⟩
    ·subst hb
     cases M:v.vers[q]? with
     | none=>rw[M] at u3; cases u3
     | some z=>rw[M] at u3; exact⟨z,rfl,Nat.eq_of_beq_eq_true u3⟩
    ·subst hb;rw[M] at u3;simp only[cond_false] at u3
     cases hB:an[z.1]? with
     | none=>rw[hB] at u3; simp at u3
     | some B=>rw[hB] at u3; exact⟨B,rfl, by simpa using u3⟩
 ·have M:(V.zipIdx)[k]? = some (v,k):=by rw[List.getElem?_zipIdx]; simp[hv]
  have:=List.all_eq_true.1 c6 _ (List.mem_of_getElem? M)
  simp only[Bool.and_eq_true] at this;obtain⟨U,t2⟩:=this;refine⟨λc hc id hid p O=>?_, λq z hq=>?_⟩
  ·rw[hc] at U
   have:=List.all_eq_true.1 (List.all_eq_true.1 U id hid) p O
   simpa using this
  ·have a1:(v.vers.zipIdx)[q]? = some (z,q):=by rw[List.getElem?_zipIdx]; simp[hq]
   have:=List.all_eq_true.1 t2 _ (List.mem_of_getElem? a1)
   simp only[Bool.and_eq_true] at this;obtain⟨s1,s2⟩:=this;refine⟨?_, λc hc id hid=>?_⟩
   ·cases O:D[z.1]? with
    | none=>rw[O] at s1; cases s1
    | some p=>rw[O] at s1; exact⟨p,rfl, by simpa using s1⟩
   ·rw[hc] at s2;exact List.all_eq_true.1 s2 id hid
theorem SW {D:List PO} {an:List Nat} {i id j:Nat} {p:PO} (h:okId D an i id=true) (M:D[j]? = some p) (O:p.new.contains id=true):j=i\/j∈an:=by
 have U:(D.zipIdx)[j]? = some (p,j):=by rw[List.getElem?_zipIdx]; simp[M]
 have:=List.all_eq_true.1 h _ (List.mem_of_getElem? U)
 simp only[O,Bool.not_true,Bool.false_or,Bool.or_eq_true] at this;rcases this with h | h
 ·exact .inl (Nat.eq_of_beq_eq_true h)
 ·exact .inr (by simpa using h)
def Hg (an:List (List Nat)) (L:Nat->Bool):Prop:=∀ i A,an[i]? = some A->L i=true->∀ y∈A,L y=true
section
variable {os:List Oper} {B:BS} {V:List VE} {D:List PO} {an:List (List Nat)} {ks:List Nat} {L L':Nat->Bool}
theorem Fy.prev (ok:Fy os B V D an ks n) {k:Nat} {v:VE} (O:V[k]? = some v) {j:Nat} {x:Nat × SC} (hx:v.vers[j+1]? = some x):∃ z A,v.vers[j]? = some z/\an[x.1]? = some A/\z.1∈A:=by
 obtain⟨⟨p,U,hk⟩,-⟩:=(ok.ve k v O).2 (j+1) x hx;obtain⟨o,ho⟩:∃ o,os[x.1]? = some o:=⟨_,List.getElem?_eq_getElem (by rw[ok.len]; exact(List.getElem?_eq_some_iff.1 U).1)⟩
 obtain⟨A,hA,-,-,-,-,-,h7⟩:=ok.op x.1 o p ho U;obtain⟨v',M,-,h8,-,-⟩:=h7 k (j+1) true hk;rw[O] at M; cases M
 rcases h8 with h8 | ⟨z,hz,hzA⟩
 ·omega
 ·exact⟨z,A, by simpa using hz,hA,hzA⟩
theorem Fy.below (ok:Fy os B V D an ks n) (O:Hg an L) {k:Nat} {v:VE} (U:V[k]? = some v):∀ (j:Nat) (x:Nat × SC),v.vers[j]? = some x->L x.1=true->∀ j' x',j'<=j->v.vers[j']? = some x'->L x'.1=true
 | 0,x,M,hl,j',x',h,h'=>by
  have:j'=0:=by omega
  subst this; rw[M] at h'; cases h'; exact hl
 | j+1,x,M,hl,j',x',h,h'=>by
  by_cases e:j'=j+1
  ·subst e; rw[M] at h'; cases h'; exact hl
  ·obtain⟨z,A,hz,hA,hzA⟩:=ok.prev U M;exact ok.below O U j z hz (O _ A hA hl _ hzA) j' x' (by omega) h'
theorem Fy.cur (ok:Fy os B V D an ks n) (M:Hg an L) {k:Nat} {v:VE} (O:V[k]? = some v) {q:Nat} (U:q<=v.vers.length) (h1:q=0\/∃ z,v.vers[q - 1]? = some z/\L z.1=true) (h2:∀ z,v.vers[q]? = some z->L z.1=false):D6 L v.base v.vers=ver v.base v.vers q:=by
 refine Oh U (λj x hj hx=>?_) h2;rcases h1 with h1 | ⟨z,hz,hl⟩
 ·omega
 ·exact ok.below M O (q - 1) z hz hl j x (by omega) hx
theorem LF (ok:Fy os B V D an ks n) {k:Nat} {v:VE} (O:V[k]? = some v) (L:Nat->Bool) (M:NV):lk (Rof V L M) v.key=some ((D6 L v.base v.vers).map (sv · M)):=by
 unfold Rof;exact Oi (f:=λv:VE=>(v.key,(D6 L v.base v.vers).map (sv · M))) ok.ndv O rfl
theorem SX {k:Nat} {y:Option (Value × AK)} {M:NV} (h:lk (Rof V L M) k=some y):∃ (i:Nat) (v:VE),V[i]? = some v/\v.key=k/\y=(D6 L v.base v.vers).map (sv · M):=by
 have:=Fx h
 obtain⟨v,O,e⟩:=List.mem_map.1 this;obtain⟨i,hi,rfl⟩:=List.getElem_of_mem O
 cases e
 exact⟨i,_,List.getElem?_eq_getElem hi,rfl,rfl⟩
theorem YE (ok:Fy os B V D an ks n) (hc:Hg an L) {i:Nat} {o:Oper} {p:PO} {A:List Nat} (ho:os[i]? = some o) (hp:D[i]? = some p) (hA:an[i]? = some A) (a1:∀ y∈A,L y=true) (hi:L i=false) (M:NV) (E:Res) :
  ∀ k,lr (Hf V p.ks M++(Rof V L M++E)) k=lr (Rof V L M++E) k:=by
 intro k;unfold lr;rw[Ek]
 cases hl:lk (Hf V p.ks M) k with
 | none=>rfl
 | some y =>
  obtain⟨⟨kp,q,b⟩,hk,he⟩:=List.mem_filterMap.1 (Fx hl);obtain⟨A',hA',-,-,-,-,-,h7⟩:=ok.op i o p ho hp;rw[hA] at hA'; cases hA'
  obtain⟨v,hv,hq,h8,h9,a6⟩:=h7 kp q b hk;simp only[hv,Option.map_some,Option.some.injEq,Prod.mk.injEq] at he;obtain⟨rfl,rfl⟩:=he
  have a2:=ok.cur hc hv hq (h8.imp id λ⟨z,O,hzA⟩=>⟨z,O,a1 _ hzA⟩) (λz O=>by
   cases b with
   | true=>obtain⟨z',U,e⟩:=h9 rfl; rw[O] at U; cases U; rw[e]; exact hi
   | false =>
    obtain⟨B,hB,hiB⟩:=a6 rfl z O;refine Classical.byContradiction λa7=>?_
    have:=hc _ B hB (by simpa using a7) _ hiB
    rw[hi] at this; cases this)
  rw[Ek,LF ok hv,a2];rfl
theorem YF (ok:Fy os B V D an ks n) (hc:Hg an L) {i:Nat} {o:Oper} {p:PO} {A:List Nat} (ho:os[i]? = some o) (hp:D[i]? = some p) (hA:an[i]? = some A) (O:∀ y∈A,L y=true) (hi:L i=false)
  (hL:∀ j,L' j=(L j || Nat.beq j i)) {nv nv':NV} (a7:∀ k,p.new.contains k=false->nv' k=nv k) (E:Res):∀ k,lr (Rof V L' nv'++E) k=lr (aftR V p.ks nv'++(Rof V L nv++E)) k:=by
 have hLi:L' i=true:=by rw[hL]; simp
 have hLm:∀ j,L j=true->L' j=true:=λj h=>by rw[hL,h]; rfl
 have hLn:∀ j,L' j=true->L j=true\/j=i:=λj h=>by
  rw[hL,Bool.or_eq_true] at h;exact h.imp id Nat.eq_of_beq_eq_true
 have hAi:i∉A:=λh=>by have:=O i h; rw[hi] at this; cases this
 have a8:Hg an L':=λj B hB hj y hy=>by
  rcases hLn j hj with h | rfl
  ·exact hLm _ (hc j B hB h y hy)
  ·rw[hA] at hB; cases hB; exact hLm _ (O y hy)
 have aa:∀ j B,an[j]? = some B->i∈B->L' j=false:=λj B hB hiB=>by
  refine Classical.byContradiction λh=>?_;rcases hLn j (by simpa using h) with h | rfl
  ·have:=hc j B hB h i hiB; rw[hi] at this; cases this
  ·rw[hA] at hB; cases hB; exact hAi hiB
 obtain⟨A',hA',-,-,-,-,-,h7⟩:=ok.op i o p ho hp;rw[hA] at hA'; cases hA'
 intro k;unfold lr;rw[Ek,Ek]
 cases hl:lk (aftR V p.ks nv') k with
 | some y =>
  obtain⟨⟨kp,q,b⟩,hk,he⟩:=List.mem_filterMap.1 (Fx hl);obtain⟨v,M,hq,h8,h9,ad⟩:=h7 kp q b hk;simp only[M,Option.map_some,Option.some.injEq,Prod.mk.injEq] at he;obtain⟨rfl,rfl⟩:=he;rw[LF ok M]
  have:D6 L' v.base v.vers=ver v.base v.vers (bif b then q+1 else q):=by
   cases b with
   | true =>
    obtain⟨z,U,e⟩:=h9 rfl;refine ok.cur a8 M (q:=q+1) (by have:=(List.getElem?_eq_some_iff.1 U).1; omega) (.inr ⟨z, by simpa using U, by rw[e]; exact hLi⟩) (λz' ae=>?_);obtain⟨z2,B,ab,hB,hzB⟩:=ok.prev M ae;rw[U] at ab; cases ab
    exact aa _ B hB (by rw[<- e]; exact hzB)
   | false =>
    refine ok.cur a8 M (q:=q) hq (h8.imp id λ⟨z,U,hzA⟩=>⟨z,U,hLm _ (O _ hzA)⟩) (λz U=>?_);obtain⟨B,hB,hiB⟩:=ad rfl z U;exact aa _ B hB hiB
  rw[this]; rfl
 | none =>
  rw[Option.none_or,Ek]
  cases hr:lk (Rof V L' nv') k with
  | none =>
   cases af:lk (Rof V L nv) k with
   | none=>rfl
   | some y =>
    obtain⟨j,v,M,rfl,-⟩:=SX af;rw[LF ok M] at hr; cases hr
  | some y =>
   obtain⟨j,v,M,rfl,rfl⟩:=SX hr;rw[LF ok M];have a1:∀ x∈v.vers,x.1≠i:=λx hx e=>by
    obtain⟨q,hq,rfl⟩:=List.getElem_of_mem hx;obtain⟨⟨p',ac,ah⟩,-⟩:=(ok.ve j v M).2 q _ (List.getElem?_eq_getElem hq);rw[e,hp] at ac; cases ac
    exact SU hl _ (List.mem_filterMap.2 ⟨(j,q,true),ah, by rw[M]; rfl⟩)
   have a6:D6 L' v.base v.vers=D6 L v.base v.vers:=SS λx hx=>by
    rw[hL]
    have:Nat.beq x.1 i=false:=by
     cases hb:Nat.beq x.1 i with
     | false=>rfl
     | true=>exact absurd (Nat.eq_of_beq_eq_true hb) (a1 x hx)
    rw[this,Bool.or_false]
   rw[a6];simp only[Option.some_or,Option.getD_some];rcases ST (L:=L) (vs:=v.vers) (c:=v.base) with hb | ⟨x,hx,ai,hb⟩ <;> rw[hb]
   ·cases a2:v.base with
    | none=>rfl
    | some c =>
     refine congrArg some (Og λid hid=>a7 id ?_);exact(ok.ve j v M).1 c a2 id (by simpa using hid) p (List.mem_of_getElem? hp)
   ·cases a2:x.2 with
    | none=>rfl
    | some c =>
     refine congrArg some (Og λid hid=>a7 id ?_);obtain⟨q,hq,rfl⟩:=List.getElem_of_mem hx;have hid:=((ok.ve j v M).2 q _ (List.getElem?_eq_getElem hq)).2 c a2 id (by simpa using hid)
     cases hn:p.new.contains id with
     | false=>rfl
     | true =>
      rcases SW hid hp hn with h | h
      ·exact absurd h.symm (a1 _ hx)
      ·cases hB:an[(v.vers[q]).1]? with
       | none=>rw[hB] at h; simp at h
       | some B =>
        rw[hB] at h
        have:=hc _ B hB ai i h
        rw[hi] at this; cases this
end
theorem YG {listed:Array Bool} {i:Nat} (h:i<listed.size):∀ j,(listed.setIfInBounds i true).getD j false=(listed.getD j false || Nat.beq j i):=λj=>by
 by_cases e:i=j
 ·subst e; simp[h]
 ·rw[getD_set_ne false e]
  have:Nat.beq j i=false:=by
   cases hb:Nat.beq j i with
   | false=>rfl
   | true=>exact absurd (Nat.eq_of_beq_eq_true hb).symm e
  rw[this,Bool.or_false]
set_option maxHeartbeats 1000000 in
theorem gOrd {id:Nat} {os:List Oper} (B:BS) (V:List VE) (D:List PO) (hm:P.follows .mixedOrders=true) (hc:LE os B V D (ancs os) (l0.map Prod.fst) n=true)
  (h0:∀ k,lr (Rof V (λ_=>false) (λ_=>undef)++res) k=lr res k) (h:FX P ⟨n,K,H,w0,dsd⟩ l0 B V D os D)
  (k:∀ nv,GE (Sta ⟨n,K,H,w0,dsd⟩ (finS D nv++l0) (finR V nv++res)) .normal Q m) (hd:EI os=true:=by rfl):G ro P (Sta ⟨n,K,H,w0,dsd⟩ ((B.map λx=>(x.1,x.2.1))++l0) res) (.region id os.toArray true) Q m:=λa w ha r hr=>by
 obtain⟨Γ,hΓ⟩:∃ Γ:Ctx,Γ=⟨n,K,H,w0,dsd⟩:=⟨_,rfl⟩
 rw[<- hΓ] at h k ha;have hn:Γ.n=n:=by rw[hΓ]
 have ok:=YD hc;generalize ancs os=an at hc ok;have c1:=ok.len;have b9:os.toArray.size=D.length:=by simp[c1]
 let Inv:Array Bool->Act->World->Prop:=λlisted a w=>listed.size=D.length/\Hg an (λj=>listed.getD j false)/\∃ nv,Sta Γ l0 (Rof V (λj=>listed.getD j false) nv++res) a w /\
  (∀ (j:Nat) (p:PO) (x:Nat × SV Ent),D[j]? = some p->p.dst=some x->listed.getD j false=true->(∃ u,a.tmps[x.1]? = some u/\(sv x.2 nv).holds (Shr Γ.H (Rof V (λj=>listed.getD j false) nv++res) w) w u)) /\
  ∀ x∈B,listed.getD x.2.2 false=false->∃ u,a.tmps[x.1]? = some u/\x.2.1.holds (Shr Γ.H (Rof V (λj=>listed.getD j false) nv++res) w) w u
 have tf:∀ {listed:Array Bool} {j:Nat},j<listed.size->listed.getD j true=listed.getD j false:=λ{listed j} O=>by
  simp only[Array.getD_eq_getD_getElem?]; rw[Array.getElem?_eq_getElem O]; rfl
 have b1:∀ listed:Array Bool,listed.size=D.length->Region.ready .any os.toArray listed=[]->∀ j,j<D.length->listed.getD j false=true:=by
  intro listed am a8 j
  induction j using Nat.strongRecOn with
  | _ j ih =>
   intro O;refine Classical.byContradiction λab=>?_;have ab:listed.getD j true=false:=by rw[tf (by omega)]; simpa using ab
   obtain⟨o,ho⟩:∃ o,os[j]? = some o:=⟨_,List.getElem?_eq_getElem (by omega)⟩
   obtain⟨p,hp⟩:∃ o,D[j]? = some o:=⟨_,List.getElem?_eq_getElem O⟩
   obtain⟨A,-,-,-,-,h5,-⟩:=ok.op j o p ho hp
   have:j∈Region.ready .any os.toArray listed:=mem_ready.2 ⟨ab,o, by simpa using ho, λe he hb=>by
    have ah:=h5 e he hb
    have:=ih e.on ah (by omega)
    simp only[Array.getD_eq_getD_getElem?] at this ⊢;rw[Array.getElem?_eq_getElem (by omega)] at this ⊢
    exact this⟩
   rw[a8] at this; cases this
 have ao:∀ listed a w,Inv listed a w->Region.ready .any os.toArray listed=[]->Q r .normal a w:=by
  rintro listed a w ⟨h1,a7,nv,h2,h3,-⟩ a8
  have hl:=b1 listed h1 a8;have hR:Rof V (λj=>listed.getD j false) nv=finR V nv:=by
   unfold Rof finR;refine List.map_congr_left λv hv=>?_;obtain⟨kp,hk,rfl⟩:=List.getElem_of_mem hv;have ba:V[kp]? = some V[kp]:=List.getElem?_eq_getElem hk
   have:D6 (λj=>listed.getD j false) (V[kp]).base (V[kp]).vers=ver (V[kp]).base (V[kp]).vers (V[kp]).vers.length:=by
    refine Oh (Nat.le_refl _) (λj x _ M=>?_) (λx M=>?_)
    ·obtain⟨⟨p,hp,_⟩,-⟩:=(ok.ve kp _ ba).2 j x M;exact hl _ (List.getElem?_eq_some_iff.1 hp).1
    ·simp at M
   rw[this]
  rw[hR] at h2 h3;refine k nv a w ⟨h2.size,h2.defers, λt e ht=>?_,h2.conts,h2.excl,h2.own,h2.keep,h2.old,h2.hid⟩ r hr;rcases SQ ht with ht | ht
  ·obtain⟨p,hp,he⟩:=List.mem_filterMap.1 (Fx ht);obtain⟨x,M,he⟩:=Option.map_eq_some_iff.1 he
   cases he
   obtain⟨i,hi,rfl⟩:=List.getElem_of_mem hp;exact h3 i _ x (List.getElem?_eq_getElem hi) M (hl i hi)
  ·exact h2.slots t e ht
 have b2:∀ (fuel:Nat) (listed:Array Bool) (a:Act) (w:World),Inv listed a w->((List.range D.length).filter λj=>!listed.getD j true).length<=fuel->wpAny P .any os.toArray (Q r) fuel listed a w:=by
  intro fuel
  induction fuel with
  | zero =>
   intro listed a w hI bb;have a8:Region.ready .any os.toArray listed=[]:=by
    refine List.eq_nil_iff_forall_not_mem.2 λj O=>?_;obtain⟨h1,o,ho,_⟩:=mem_ready.1 O;have bc:j<D.length:=by have:=(Array.getElem?_eq_some_iff.1 ho).1; omega
    have b3:j∈(List.range D.length).filter λj=>!listed.getD j true:=by simp only[List.mem_filter,List.mem_range,h1]; exact⟨bc,rfl⟩
    have:=List.length_pos_of_mem b3
    omega
   exact⟨a8,ao _ _ _ hI a8⟩
  | succ fuel ih =>
   intro listed a w hI bb;refine⟨ao _ _ _ hI, λi hi=>?_⟩;obtain⟨h1,o,ho,aw⟩:=mem_ready.1 hi;have ap:i<D.length:=by have:=(Array.getElem?_eq_some_iff.1 ho).1; omega
   have ai:os[i]? = some o:=by simpa using ho
   obtain⟨p,hp⟩:∃ o,D[i]? = some o:=⟨_,List.getElem?_eq_getElem ap⟩
   obtain⟨A,hA,f2,f1,f3,f4,f5,f6⟩:=ok.op i o p ai hp;obtain⟨am,a7,nv,hS,hD,hBs⟩:=hI;have hLi:(λj=>listed.getD j false) i=false:=by show listed.getD i false=false; rw[<- tf (by omega)]; exact h1
   have ac:∀ j∈dirs o,listed.getD j false=true:=λj O=>by
    obtain⟨e,he,hb⟩:=List.mem_filterMap.1 O;have he:=Array.mem_toList_iff.1 he
    cases aj:Region.binds .any e with
    | false=>rw[aj] at hb; cases hb
    | true =>
     rw[aj] at hb; simp only[cond_true,Option.some.injEq] at hb;subst hb;have hl:=aw e he aj;have ah:e.on<listed.size:=by have:=f4 e he aj; omega
     rw[<- tf ah];simp only[Array.getD_eq_getD_getElem?] at hl ⊢;rw[Array.getElem?_eq_getElem ah] at hl ⊢;exact hl
   have ad:∀ y∈A,(λj=>listed.getD j false) y=true:=λy hy=>by
    rcases f5 y hy with h | ⟨j,O,B,hB,hyB⟩
    ·exact ac y h
    ·exact a7 j B hB (ac j O) y hyB
   have b4:=h.get ai hp;have a6:=YE ok a7 ai hp hA ad hLi nv res;have hS':Sta Γ l0 (Hf V p.ks nv++(Rof V (λj=>listed.getD j false) nv++res)) a w:=hS.lrq a6;have b5:Sta Γ (LD B D o p.bs nv++l0) (Hf V p.ks nv++(Rof V (λj=>listed.getD j false) nv++res)) a w:=by
    refine⟨hS'.size,hS'.defers, λt e ht=>?_,hS'.conts,hS'.excl,hS'.own,hS'.keep,hS'.old,hS'.hid⟩;rcases SQ ht with ht | ht
    ·rcases List.mem_append.1 (Fx ht) with hm | hm
     ·obtain⟨b,hb,he⟩:=List.mem_filterMap.1 hm;obtain⟨x,M,he⟩:=Option.map_eq_some_iff.1 he
      cases he
      obtain⟨x',A',ay,hA',hiA'⟩:=ok.bbs i p hp b hb;rw[M] at ay; cases ay
      obtain⟨u,g1,g2⟩:=hBs x (List.mem_of_getElem? M) (by
       refine Classical.byContradiction λab=>?_
       have:=a7 _ A' hA' (by simpa using ab) i hiA'
       rw[hLi] at this; cases this)
      exact⟨u,g1,Ent.mono _ (Shr.lrq a6) g2⟩
     obtain⟨j,O,he⟩:=List.mem_filterMap.1 hm;obtain⟨x,M,he⟩:=Option.map_eq_some_iff.1 he
     cases he
     obtain⟨pj,bd,M⟩:=Option.bind_eq_some_iff.1 M;obtain⟨u,g1,g2⟩:=hD j pj x bd M (ac j O);exact⟨u,g1,Ent.mono _ (Shr.lrq a6) g2⟩
    ·exact hS'.slots t e ht
   unfold wpOp;rw[ho];have hw:Region.wanted o (yielded os.toArray a.tmps)=true:=by unfold Region.wanted; rw[f2]
   simp only[hw,if_true];refine .inl (SO (b4 nv _ a w b5) ?_)
   rintro a' w' ⟨nv',u,az,rfl,⟨hS2,be⟩,b6⟩
   rw[f1];have hLL:=YG (listed:=listed) (i:=i) (by omega);have ae:=YF (L:=λj=>listed.getD j false) (L':=λj=>(listed.setIfInBounds i true).getD j false) ok a7 ai hp hA ad hLi hLL az res;have hS3:=hS2.lrq ae;have hst3:Bj (Shr Γ.H (Rof V (λj=>listed.getD j false) nv++res) w) (Shr Γ.H (Rof V (λj=>(listed.setIfInBounds i true).getD j false) nv'++res) w') w w':=((Shr.lrq a6).tr be).tr (Shr.lrq ae)
   have b7:Hg an (λj=>(listed.setIfInBounds i true).getD j false):=λj B hB O y hy=>by
    have O:(listed.setIfInBounds i true).getD j false=true:=O;show (listed.setIfInBounds i true).getD y false=true;rw[hLL,Bool.or_eq_true] at O;rw[hLL];rcases O with h | h
    ·rw[show listed.getD y false=true from a7 j B hB h y hy]; rfl
    ·have:=Nat.eq_of_beq_eq_true h; subst this;rw[hA] at hB; cases hB
     have:=ad y hy
     rw[show listed.getD y false=true from this]; rfl
   have ak:∀ (j:Nat) (pj:PO) (x:Nat × SV Ent),D[j]? = some pj->pj.dst=some x->listed.getD j false=true->sv x.2 nv=sv x.2 nv':=λj pj x O M U=>by
    refine Og λid hid=>(az id ?_).symm
    cases bf:p.new.contains id with
    | false=>rfl
    | true =>
     obtain⟨oj,bg⟩:∃ o,os[j]? = some o:=⟨_,List.getElem?_eq_getElem (by rw[c1]; exact(List.getElem?_eq_some_iff.1 O).1)⟩
     obtain⟨B,hB,-,-,g3,-⟩:=ok.op j oj pj bg O;rcases SW ((g3 x M).2 id (by simpa using hid)) hp bf with e | e
     ·subst e; rw[show listed.getD i false=false from hLi] at U; cases U
     ·have:=a7 j B hB U i e; rw[hLi] at this; cases this
   have key:Sta Γ l0 (Rof V (λj=>(listed.setIfInBounds i true).getD j false) nv'++res) (a.put (p.dst.map (·.1)) u) w'/\(∀ (j:Nat) (pj:PO) (x:Nat × SV Ent),D[j]? = some pj->pj.dst=some x->(listed.setIfInBounds i true).getD j false=true ->
     ∃ v,(a.put (p.dst.map (·.1)) u).tmps[x.1]? = some v/\(sv x.2 nv').holds (Shr Γ.H (Rof V (λj=>(listed.setIfInBounds i true).getD j false) nv'++res) w') w' v) /\
     ∀ x∈B,(listed.setIfInBounds i true).getD x.2.2 false=false->∃ v,(a.put (p.dst.map (·.1)) u).tmps[x.1]? = some v/\x.2.1.holds (Shr Γ.H (Rof V (λj=>(listed.setIfInBounds i true).getD j false) nv'++res) w') w' v:=by
    have hBo:∀ x∈B,(listed.setIfInBounds i true).getD x.2.2 false=false->listed.getD x.2.2 false=false/\x.2.2≠i:=λx _ M=>by
     rw[hLL,Bool.or_eq_false_iff] at M;exact⟨M.1, λe=>by rw[e] at M; simp at M⟩
    cases aa:p.dst with
    | none =>
     refine⟨hS3, λj pj x O M U=>?_, λx M aq=>by obtain⟨v,g1,g2⟩:=hBs x M (hBo x M aq).1; exact⟨v,g1,Ent.mono _ hst3 g2⟩⟩;rw[hLL,Bool.or_eq_true] at U;rcases U with U | U
     ·obtain⟨v,g1,g2⟩:=hD j pj x O M U;rw[ak j pj x O M U] at g2;exact⟨v,g1,Ent.mono _ hst3 g2⟩
     ·have:=Nat.eq_of_beq_eq_true U; subst this;rw[hp] at O; cases O; rw[aa] at M; cases M
    | some y =>
     have bh:y.1<Γ.n:=by rw[hn]; exact(f3 y aa).1
     have b8:(a.put (some y.1) u).tmps[y.1]? = some u:=by simp[Act.put,hS.size,bh]
     have af:∀ t,t≠y.1->(a.put (some y.1) u).tmps[t]? = a.tmps[t]? := λt ht=>by simp[Act.put,Array.getElem?_setIfInBounds_ne (Ne.symm ht)]
     have ar:∀ (j:Nat) (pj:PO) (x:Nat × SV Ent),D[j]? = some pj->pj.dst=some x->j≠i->x.1≠y.1:=λj pj x O M bi e=>by
      have a1:=ok.nd;have aux:∀ {D:List PO} {i j:Nat} {p q:PO} {x y:Nat × SV Ent} {m:List Nat},De (D.filterMap (λp=>p.dst.map (·.1))++m)=true->D[i]? = some p->D[j]? = some q->p.dst=some x->q.dst=some y->x.1=y.1->i=j:=by
       intro D
       induction D with
       | nil=>intro i j p q x y m _ h; simp at h
       | cons d D ih =>
        intro i j p q x y m a1 h1 h2 h3 h4 e;have tail:De (D.filterMap (λp=>p.dst.map (·.1))++m)=true:=by
         rw[List.filterMap_cons] at a1
         cases hd:d.dst with
         | none=>simpa [hd] using a1
         | some z=>rw[hd] at a1; simp only[Option.map_some,List.cons_append,De,Bool.and_eq_true] at a1; exact a1.2
        have head:∀ {q:PO} {y z:Nat × SV Ent} {j:Nat},d.dst=some z->D[j]? = some q->q.dst=some y->z.1=y.1->False:=λ{q y z j} hz O hy e=>by
         rw[List.filterMap_cons,hz] at a1;simp only[Option.map_some,List.cons_append,De,Bool.and_eq_true,Bool.not_eq_true',List.contains_eq_mem,decide_eq_false_iff_not] at a1;exact a1.1 (List.mem_append_left _ (List.mem_filterMap.2 ⟨q,List.mem_of_getElem? O, by rw[hy]; exact congrArg some e.symm⟩))
        cases i with
        | zero =>
         cases j with
         | zero=>rfl
         | succ j=>simp only[List.getElem?_cons_zero,Option.some.injEq,List.getElem?_cons_succ] at h1 h2; subst h1; exact(head h3 h2 h4 e).elim
        | succ i =>
         cases j with
         | zero=>simp only[List.getElem?_cons_zero,Option.some.injEq,List.getElem?_cons_succ] at h1 h2; subst h2; exact(head h4 h1 h3 e.symm).elim
         | succ j=>simp only[List.getElem?_cons_succ] at h1 h2; rw[ih tail h1 h2 h3 h4 e]
      exact bi (aux a1 O hp M aa e)
     have ax:∀ t e,lk l0 t=some e->t≠y.1:=λt e ht bj=>by
      have aux:∀ {l m:List Nat} {x:Nat},De (l++m)=true->x∈l->x∈m->False:=by
       intro l m x a1 h1 h2
       induction l with
       | nil=>cases h1
       | cons z l ih =>
        simp only[List.cons_append,De,Bool.and_eq_true,Bool.not_eq_true',List.contains_eq_mem,decide_eq_false_iff_not] at a1;rcases List.mem_cons.1 h1 with rfl | h1
        ·exact a1.1 (List.mem_append_right _ h2)
        ·exact ih a1.2 h1
      exact aux ok.nd (List.mem_filterMap.2 ⟨p,List.mem_of_getElem? hp, by rw[aa]; rfl⟩) (List.mem_map.2 ⟨(t,e),Fx ht,bj⟩)
     refine⟨⟨by simp[Act.put,hS3.size], by simp[Act.put,hS3.defers], λt e ht=>?_,hS3.conts,hS3.excl,hS3.own,hS3.keep,hS3.old,hS3.hid⟩, λj pj x O M U=>?_, λx M aq=>?_⟩
     ·obtain⟨v,g1,g2⟩:=hS3.slots t e ht;exact⟨v, by rw[Option.map_some,af t (ax t e ht)]; exact g1,g2⟩
     ·rw[Option.map_some];by_cases av:j=i
      ·subst av;rw[hp] at O; cases O; rw[aa] at M; cases M
       exact⟨u,b8,Ent.mono _ (Shr.lrq ae) (b6 y.2 (by rw[aa]; rfl))⟩
      ·rw[hLL,Bool.or_eq_true] at U;have U:listed.getD j false=true:=by
        rcases U with U | U
        ·exact U
        ·exact absurd (Nat.eq_of_beq_eq_true U) av
       obtain⟨v,g1,g2⟩:=hD j pj x O M U;rw[ak j pj x O M U] at g2;exact⟨v, by rw[af x.1 (ar j pj x O M av)]; exact g1,Ent.mono _ hst3 g2⟩
     ·obtain⟨bk,bl⟩:=hBo x M aq;obtain⟨v,g1,g2⟩:=hBs x M bk;obtain⟨pj,z,O,hz,e⟩:=ok.bop x M;exact⟨v, by rw[Option.map_some,af x.1 (by rw[<- e]; exact ar _ pj z O hz bl)]; exact g1,Ent.mono _ hst3 g2⟩
   refine ih _ _ _ ⟨by simp[am],b7,nv',key.1,key.2.1,key.2.2⟩ ?_
   have:=SR (p:=λj=>!listed.getD j true) (q:=λj=>!(listed.setIfInBounds i true).getD j true) (l:=List.range D.length) (List.mem_range.2 ap) (by simp only[h1]; rfl) (by simp[am,ap]) (λy hy=>by
    by_cases b0:i=y
    ·subst b0; simp only[h1]; rfl
    ·simp only[getD_set_ne true b0] at hy; exact hy)
   omega
 have hE:Ext w { w with drawn:=w.drawn+1 }:=Ext.rfl'.dr;have hf:(λj=>(Array.replicate os.toArray.size false).getD j false)=λ_=>false:=by
  funext j
  simp only[Array.getD_eq_getD_getElem?,Array.getElem?_replicate]
  split <;> rfl
 have a2:=ha.ext hE;have bm:Sta Γ l0 res a { w with drawn:=w.drawn+1 }:=by
  refine⟨a2.size,a2.defers, λt e ht=>a2.slots t e ?_,a2.conts,a2.excl,a2.own,a2.keep,a2.old,a2.hid⟩;rw[Ek]
  cases hB:lk (B.map λx=>(x.1,x.2.1)) t with
  | none=>rw[ht]; rfl
  | some y =>
   obtain⟨x,M,he⟩:=List.mem_map.1 (Fx hB)
   cases he
   obtain⟨pj,z,O,hz,e⟩:=ok.bop x M;have aux:∀ {l m:List Nat} {x:Nat},De (l++m)=true->x∈l->x∈m->False:=by
    intro l m x a1 h1 h2
    induction l with
    | nil=>cases h1
    | cons z l ih =>
     simp only[List.cons_append,De,Bool.and_eq_true,Bool.not_eq_true',List.contains_eq_mem,decide_eq_false_iff_not] at a1;rcases List.mem_cons.1 h1 with rfl | h1
     ·exact a1.1 (List.mem_append_right _ h2)
     ·exact ih a1.2 h1
   exact(aux ok.nd (List.mem_filterMap.2 ⟨pj,List.mem_of_getElem? O, by rw[hz]; exact congrArg some e⟩) (List.mem_map.2 ⟨(x.1,_),Fx ht,rfl⟩)).elim
 refine NR hm (by simpa using hd) (b2 _ _ _ _ ⟨by simp[b9], λj A _ O=>?_, λ_=>undef,?_, λj p x _ _ hl=>?_, λx M _=>?_⟩ ?_)
 ·rw[show (λj=>(Array.replicate os.toArray.size false).getD j false) j=false from congrFun hf j] at O; cases O
 ·rw[hf]; exact bm.lrq h0
 ·rw[show (Array.replicate os.toArray.size false).getD j false=false from congrFun hf j] at hl; cases hl
 ·rw[hf];have bn:lk (B.map λx=>(x.1,x.2.1)) x.1=some x.2.1:=by
   obtain⟨b,hb,rfl⟩:=List.getElem_of_mem M;exact Oi (f:=λx:Nat × Ent × Nat=>(x.1,x.2.1)) ok.bnd (List.getElem?_eq_getElem hb) rfl
  obtain⟨u,g1,g2⟩:=a2.slots x.1 x.2.1 (by rw[Ek,bn]; rfl);exact⟨u,g1,Ent.mono _ (Shr.lrq h0) g2⟩
 ·have:=List.length_filter_le (λj=>!(Array.replicate os.toArray.size false).getD j true) (List.range D.length)
  simp only[List.length_range] at this;omega
end
end
section
abbrev pd (t:Nat) (e:Ent):PO:=⟨some (t,[], λ_=>e),[],[],[]⟩
abbrev pk (t:Nat) (e:Ent) (ks:List (Nat × Nat × Bool)):PO:=⟨some (t,[], λ_=>e),ks,[],[]⟩
def EqvR (X Y:Res):Prop:=∀ E j,lr (X++E) j=lr (Y++E) j
inductive PwL (X Y:Res):List Nat->Prop
 | nil:PwL X Y []
 | cons {k:Nat} {ks:List Nat}:lk X k=lk Y k->PwL X Y ks->PwL X Y (k::ks)
theorem PwL.get {X Y:Res}:∀ {ks:List Nat} {k:Nat},PwL X Y ks->k∈ks->lk X k=lk Y k
 | _,k,.cons h t,M=>by
  rcases List.mem_cons.1 M with rfl | M
  ·exact h
  ·exact t.get M
theorem LG {α:Type}:∀ {l:List (Nat × α)} {k:Nat},k∉l.map (·.1)->lk l k=none
 | [],_,_=>rfl
 | (k',v)::l,k,h=>by
  simp only[List.map_cons,List.mem_cons,not_or] at h;rw[C4,if_neg λe=>h.1 e.symm,LG h.2]
theorem eqvR {X Y:Res} (h1:(Y.map (·.1)).all (λk=>(X.map (·.1)).contains k)=true) (h2:PwL X Y (X.map (·.1))):EqvR X Y:=λE j=>by
 unfold lr;rw[Ek,Ek];by_cases M:j∈X.map (·.1)
 ·rw[h2.get M]
 ·have O:j∉Y.map (·.1):=λh=>M (by simpa using List.all_eq_true.1 h1 j h);rw[LG M,LG O]
theorem EqvR.refl {X:Res}:EqvR X X:=λ_ _=>rfl
theorem Bj.rq {H:Blk} {X M O:Res} {w w':World} (e:∀ k,lr O k=lr M k) (h:Bj (Shr H X w) (Shr H M w') w w'):Bj (Shr H X w) (Shr H O w') w w':=h.tr (Shr.lrq e)
theorem LH {X Y E:Res} {r:Nat} {x:Option (Value × AK)} (h:EqvR ((r,x)::X) Y):∀ k,lr (Y++E) k=lr ((r,x)::(X++E)) k:=λk=>(h E k).symm
def upd1 (M:NV) (k:Nat) (u:Value):NV:=λj=>bif Nat.beq j k then u else M j
def updL (M:NV):List Nat->(Nat->Value)->NV
 | [],_=>M
 | k::ks,pv=>λj=>bif Nat.beq j k then pv 0 else updL M ks (λi=>pv (i+1)) j
theorem YH {ks:List Nat}:∀ {M:NV} {pv:Nat->Value} {j:Nat},ks.contains j=false->updL M ks pv j=M j:=by
 induction ks with
 | nil=>intros; rfl
 | cons k ks O =>
  intro M pv j h;simp only[List.contains_cons,Bool.or_eq_false_iff] at h;have hb:Nat.beq j k=false:=by
   cases hb:Nat.beq j k with
   | false=>rfl
   | true=>have:=Nat.eq_of_beq_eq_true hb; subst this; simp at h
  show (bif Nat.beq j k then pv 0 else updL M ks (λi=>pv (i+1)) j)=M j;rw[hb]; exact O h.2
theorem SY {e:Ent} {H:Blk} {M O:Res} {w:World} {u:Value} (h:e.holds (Shr H M w) w u) (q:∀ k,lr O k=lr M k):e.holds (Shr H O w) w u:=e.mono (Shr.lrq q) h
section
variable {P:Program} {Γ:Ctx} {l0:AQ} {o:Oper} {S:NV->AQ} {N A:NV->Res} {e:SV Ent}
theorem Sta.base0 {Γ:Ctx} {S l0:AQ} {res:Res} {a:Act} {w:World} (h:Sta Γ (S++l0) res a w) (M:∀ t e,lk l0 t=some e->lk (S++l0) t=some e):Sta Γ l0 res a w :=
 ⟨h.size,h.defers, λt e O=>h.slots t e (M t e O),h.conts,h.excl,h.own,h.keep,h.old,h.hid⟩
def Gz (S l0:AQ):Prop:=∀ t,(lk l0 t).isSome=true->lk S t=none
theorem Jp {S l0:AQ} (h:(S.map (·.1)).all (λt=>!(l0.map (·.1)).contains t)=true):Gz S l0:=λt M=>by
 refine LG λU=>?_
 have:=List.all_eq_true.1 h t U
 cases hl:lk l0 t with
 | none=>rw[hl] at M; cases M
 | some e =>
  have O:t∈l0.map (·.1):=List.mem_map.2 ⟨(t,e),Fx hl,rfl⟩;simp only[Bool.not_eq_true',List.contains_eq_mem,decide_eq_false_iff_not] at this;exact this O
theorem Gz.keep {S l0:AQ} (h:Gz S l0):∀ t e,lk l0 t=some e->lk (S++l0) t=some e:=λt e M=>by
 rw[Ek,h t (by rw[M]; rfl),M]; rfl
theorem oRn {e0:NV->Ent} (h:∀ M E,Run Ext P Γ (S M++l0) (N M++E) o (e0 M)) (he:∀ M,e0 M=sv e M:=by exact λ_=>rfl) (hP:∀ M,Gz (S M) l0:=by exact λ_=>Jp rfl) (hA:∀ M,EqvR (N M) (A M):=by exact λ_=>EqvR.refl):Obl P Γ l0 o [] S N A (some e):=λM E a w U=>by
 obtain⟨v,h1,h2⟩:=h M E a w U;unfold Oper.wp;rw[h1 w Ext.rfl'];have O:∀ k,lr (A M++E) k=lr (N M++E) k:=λk=>(hA M E k).symm;exact⟨M,v, λ_ _=>rfl,rfl,⟨(U.base0 (hP M).keep).lrq O,Shr.lrq O⟩, λx hx=>by cases hx; rw[<- he]; exact SY h2 O⟩
theorem oEf {x:NV->Value->Value × AK} (r k:Nat) (h:∀ M E,Eff P Γ (S M++l0) (N M++E) o r (x M)) (hE:∀ M u,sv e (upd1 M k u)=.val u:=by exact λ_ _=>rfl)
  (hR:∀ M u,EqvR ((r,some (x M u))::N M) (A (upd1 M k u)):=by exact λ_ _=>eqvR rfl (by repeat (first | exact .nil | refine .cons rfl ?_)))
  (hP:∀ M,Gz (S M) l0:=by exact λ_=>Jp rfl):Obl P Γ l0 o [k] S N A (some e):=λM E a w U=>by
 obtain⟨w',u,h1,⟨h2,h3⟩,h4,-⟩:=h M E a w U;unfold Oper.wp;rw[h1];have O:=LH (E:=E) (hR M u);refine⟨upd1 M k u,u, λj hj=>?_,rfl,⟨(h2.base0 (hP M).keep).lrq O,h3.rq O⟩, λx hx=>by cases hx; rw[hE]; exact⟨rfl,h4⟩⟩;unfold upd1
 cases hb:Nat.beq j k with
 | false=>rfl
 | true=>have:=Nat.eq_of_beq_eq_true hb; subst this; simp at hj
theorem oEb {T:NV->TypeId} {es:NV->List Ent} (r k:Nat) (h:∀ M E,Eff P Γ (S M++l0) (N M++E) o r (λv=>(v,.box (T M) (es M)))) (hE:∀ M u,sv e (upd1 M k u)=.val (A7 u 0):=by exact λ_ _=>rfl)
  (hR:∀ M u,EqvR ((r,some (u,.box (T M) (es M)))::N M) (A (upd1 M k u)):=by exact λ_ _=>eqvR rfl (by repeat (first | exact .nil | refine .cons rfl ?_)))
  (hP:∀ M,Gz (S M) l0:=by exact λ_=>Jp rfl):Obl P Γ l0 o [k] S N A (some e):=λM E a w U=>by
 obtain⟨w',u,h1,⟨h2,h3⟩,h4,-⟩:=h M E a w U;unfold Oper.wp;rw[h1];have hb:=Jk (h2.conts r _ _ (BB.trans (if_pos rfl)));have O:=LH (E:=E) (hR M u);refine⟨upd1 M k u,u, λj hj=>?_,rfl,⟨(h2.base0 (hP M).keep).lrq O,h3.rq O⟩, λx hx=>by cases hx; rw[hE]; exact⟨by rw[hb], by rw[hb]; exact h4⟩⟩;unfold upd1
 cases hb:Nat.beq j k with
 | false=>rfl
 | true=>have:=Nat.eq_of_beq_eq_true hb; subst this; simp at hj
theorem oEs {x:NV->Value × AK} (r:Nat) (h:∀ M E,EffS P Γ (S M++l0) (N M++E) o r (x M)) (hd:o.dst=none:=by rfl)
  (hR:∀ M,EqvR ((r,some (x M))::N M) (A M):=by exact λ_=>eqvR rfl (by repeat (first | exact .nil | refine .cons rfl ?_)))
  (hP:∀ M,Gz (S M) l0:=by exact λ_=>Jp rfl):Obl P Γ l0 o [] S N A none:=λM E a w U=>by
 obtain⟨w',h1,⟨h2,h3⟩,-⟩:=h M E a w U;unfold Oper.wp;rw[h1];have O:=LH (E:=E) (hR M);exact⟨M,undef, λ_ _=>rfl, by rw[hd],⟨(h2.base0 (hP M).keep).lrq O,h3.rq O⟩, λx hx=>by cases hx⟩
theorem oFz {α:Type} {R:Rep α} {T:TypeId} {b:List α} {new:List Nat} {A1:NV->Res} (r k:Nat) (h:Obl P Γ l0 o new S N A1 (some ([k], λnv=>.val (nv k)))) (h1:∀ nv E,lr (A1 nv++E) r=some (nv k,.list R T b):=by exact λ_ _=>rfl)
  (h2:∀ nv,EqvR ((r,none)::A1 nv) (A nv):=by exact λ_=>eqvR rfl (by repeat (first | exact .nil | refine .cons rfl ?_))):Obl P Γ l0 o new S N A (some ([], λ_=>.rd (A3 R) b)):=λnv E a w ha=>by
 refine SO (h nv E a w ha) ?_
 rintro a' w' ⟨nv',u,hn,rfl,⟨hS,a6⟩,hx⟩
 have hu:(Ent.val (nv' k)).holds (Shr Γ.H (A1 nv'++E) w') w' u:=by
  have:=hx _ rfl
  simpa [sv] using this
 have hq:∀ j,lr (A nv'++E) j=lr ((r,none)::(A1 nv'++E)) j:=LH (h2 nv');have O:∀ j v c,lr (A nv'++E) j=some (v,c)->j≠r/\lr (A1 nv'++E) j=some (v,c):=λj v c M=>by
  rw[hq,BB] at M
  split at M
  ·cases M
  ·rename_i a1; exact⟨λe=>a1 e.symm,M⟩
 have hr:=h1 nv' E;have U:Bj (Shr Γ.H (A1 nv'++E) w') (Shr Γ.H (A nv'++E) w') w' w':=λbb hb=>⟨⟨hb.1, λj v c M=>hb.2.1 j v c (O j v c M).2,hb.2.2⟩,rfl⟩;refine⟨nv',u,hn,rfl,⟨⟨hS.size,hS.defers, λt x ht=>?_, λj v c M=>(hS.conts j v c (O j v c M).2).mono U (λ_ _=>rfl), λj v c j' v' c' M a7=>hS.excl j v c j' v' c' (O j v c M).2 (O j' v' c' a7).2, λj v c M=>hS.own j v c (O j v c M).2,hS.keep,hS.old,hS.hid⟩,a6.tr U⟩, λx hx=>?_⟩
 ·obtain⟨v,g1,g2⟩:=hS.slots t x ht; exact⟨v,g1,x.mono U g2⟩
 ·cases hx
  show (Ent.rd (A3 R) b).holds _ _ u;rw[hu.1];refine YC (hS.conts r _ _ hr) U λbb a2=>⟨(hS.conts r _ _ hr).lt a2, λj v c M=>?_, λhh=>hS.own r _ _ hr bb a2 (hS.hid bb hh)⟩;obtain⟨a1,M⟩:=O j v c M;exact hS.excl r _ _ j v c hr M (λe=>a1 e.symm) bb a2
theorem oCl {σ:Type} {d:Tmp} {f:FuncId} {F:Func} {b:Code} {args:List Operand} {ats:Array TypeId} {ty:TypeId} {pos:String} {after:Array Edge} {pin:NV->List Ent} {rin:NV->Res} {m1:Option σ} {s:σ} {q:NV->σ->(Nat->Value)->CL} (ids:List Nat) (ns:List Nat) (mp:List (Nat × Nat)) (hm:m1=some s)
  (hF:P.funcs[f]? = some F) (hB:F.body=some b) (hS:∀ nv,Aj P f (pin nv) (rin nv) m1 (q nv)) (hA:∀ nv,Cm (S nv++l0) args (pin nv)) (hr:∀ nv E,BE (N nv++E) (rin nv) ns)
  (hE:∀ nv pv,sv e (updL nv ids pv)=CC (q nv s pv).ret:=by exact λ_ _=>rfl)
  (hR:∀ nv pv,EqvR (aft ns mp (q nv s pv).res (N nv)) (A (updL nv ids pv)):=by exact λ_ _=>eqvR rfl (by repeat (first | exact .nil | refine .cons rfl ?_)))
  (hnm:(F.name == "runtime.NumGoroutine")=false:=by rfl) (hP:∀ nv,Gz (S nv) l0:=by exact λ_=>Jp rfl) :
  Obl P Γ l0 ⟨some d,.call ⟨.value (.func f),args.toArray,ats⟩,ty,pos,after,none⟩ ids S N A (some e):=λnv E a w ha=>by
 have hrun:(execOp a.eval ⟨some d,.call ⟨.value (.func f),args.toArray,ats⟩,ty,pos,after,none⟩).run P w=.ok (.enter f (args.map a.eval).toArray) w:=by
  have e0:a.eval (.func f)=.func (.func f) #[] #[]:=rfl;simp[execOp,resolve,e0,Deferred.ofValue,invoke,Gm hF hB hnm]
 unfold Oper.wp; rw[hrun];simp only[Oper.upon];have hH:∀ b,(λb=>Γ.H b\/∃ r v c,lr (N nv++E) r=some (v,c)/\ns.contains r=false/\AM v=some b) b↔Γ.H b\/∃ r v c,lr (N nv++E) r=some (v,c)/\ns.contains r=false/\AM v=some b:=λ_=>Iff.rfl;obtain⟨h1,h2⟩:=Fr.of ha (hr nv E) hH;refine(hS nv s hm _ _ w (Cm.get ha h2 (hA nv)) h1).mono λe' w' hR'=>?_;obtain⟨pv,vs,rfl,hp⟩:=hR';obtain⟨⟨h3,h4⟩,h5,-⟩:=ha.called (mp:=mp) (hr nv E) hH hp
 have hq:∀ j,lr (A (updL nv ids pv)++E) j=lr (aft ns mp (q nv s pv).res (N nv++E)) j:=λj=>by
  rw[<- hR nv pv E j];unfold aft;rw[List.append_assoc]
 exact⟨updL nv ids pv,_, λj hj=>YH hj,rfl,⟨(h3.base0 (hP nv).keep).lrq hq,h4.rq hq⟩, λx hx=>by cases hx; rw[hE]; exact SY h5 hq⟩
theorem oN {B:BS} {V:List VE} {D:List PO} {os:List Oper}:FX P Γ l0 B V D os []:=by cases os <;> trivial
theorem oC {B:BS} {V:List VE} {D:List PO} {os:List Oper} {p:PO} {ps:List PO} (h:Obl P Γ l0 o p.new (LD B D o p.bs) (Hf V p.ks) (aftR V p.ks) (p.dst.map (·.2))) (t:FX P Γ l0 B V D os ps):FX P Γ l0 B V D (o::os) (p::ps):=⟨h,t⟩
theorem base0 {res:Res}:∀ {X:Res},(∀ k y,lk X k=some y->lr res k=y)->∀ k,lr (X++res) k=lr res k:=λ{X} h k=>by
 unfold lr;rw[Ek]
 cases hl:lk X k with
 | none=>rfl
 | some y=>have:=h k y hl; rw[<- this]; rfl
inductive BasL (res:Res):Res->Prop
 | nil:BasL res []
 | cons {k:Nat} {y:Option (Value × AK)} {X:Res}:lr res k=y->BasL res X->BasL res ((k,y)::X)
theorem BasL.get {res:Res}:∀ {X:Res},BasL res X->∀ k y,lk X k=some y->lr res k=y
 | _,.nil,_,_,h=>by cases h
 | _,.cons h t,k,y,M=>by
  rw[C4] at M
  split at M
  ·rename_i e; subst e; cases M; exact h
  ·exact t.get k y M
end
section
variable {ρ:Type} {ro:Option Nat} {P:Program} {n:Nat} {K H:Blk} {w0:World} {dsd:List Deferred} {l0:AQ} {res:Res} {Q:ρ->Exit->Act->World->Prop} {m:Option ρ}
theorem gOr {id:Nat} {os:List Oper} (B:BS) (V:List VE) (D:List PO) (O:P.follows .mixedOrders=true) (h:FX P ⟨n,K,H,w0,dsd⟩ l0 B V D os D)
  (k:∀ M,GE (Sta ⟨n,K,H,w0,dsd⟩ (finS D M++l0) (finR V M++res)) .normal Q m) (U:LE os B V D (ancs os) (l0.map Prod.fst) n=true:=by kernel_rfl) (hd:EI os=true:=by rfl)
  (h0:BasL res (Rof V (λ_=>false) (λ_=>undef)):=by repeat (first | exact .nil | refine .cons rfl ?_)):G ro P (Sta ⟨n,K,H,w0,dsd⟩ ((B.map λx=>(x.1,x.2.1))++l0) res) (.region id os.toArray true) Q m :=
 gOrd B V D O U (base0 h0.get) h k hd
end
end
section
theorem Z {α:Sort _} {a:α}:a=a:=rfl
abbrev aZ:=Av 32 u8R
theorem Zb {ρ:Type} {P:Program} {Γ:Ctx} {l:AQ} {res:Res} {m:Option ρ} {os:List Oper} {ro:Option Nat} {Q:ρ->Exit->Act->World->Prop} {y:Code} {d:Nat} {ty:TypeId} {pos:String} {after:Array Edge} {e:Ent} {x:Operand} (M:opE l x=some e) (h:G ro P (Sta Γ ((d,e)::l) res) y Q m) (O:Nat.blt d Γ.n=true:=by rfl):GL P os (Sta Γ l res) [⟨some d,.assign x,ty,pos,after,none⟩] (EH ro P y Q) m:=Za M (Zn h) O
theorem Zj {ρ:Type} {P:Program} {Γ:Ctx} {l:AQ} {res:Res} {m1 m2:Option ρ} {os:List Oper} {ro:Option Nat} {Q:ρ->Exit->Act->World->Prop} {t:Nat} {x y:Code} {b:Bool} (hb:lk l t=some (.rd Ai b)) (M:b=true->G ro P (Sta Γ ((t,.rd Ai true)::l) res) x Q m1) (O:b=false->G ro P (Sta Γ ((t,.rd Ai false)::l) res) y Q m2):GL P os (Sta Γ l res) [] (EH ro P (.cond (.tmp t) x y) Q) (if b then m1 else m2):=Zn (gIf rfl hb M O)
theorem fH {α:Type} {R:Rep α} {T:TypeId} {x:α} {es:List Ent}:Foc (.box T (.rd R x::es)) 0 R x (λy=>.box T (.rd R y::es)):=Foc.here
theorem fP {α β:Type} {R:Rep α} {U:TypeId} {x:α} {es:List Ent} {T:Rep β} {y:β} {off:Nat} {set:β->α} (p:AV R x off T y set):Foc (.box U (.rd R x::es)) (0+off) T y (λy=>.box U (.rd R (set y)::es)):=Foc.here.part p
end
end Go.Proofs.YtgomhacoacmbcaaGreatDoor
