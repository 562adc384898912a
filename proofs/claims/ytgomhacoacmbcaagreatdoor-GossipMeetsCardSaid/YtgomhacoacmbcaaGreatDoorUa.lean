import Derived.Test.YtgomhacoacmbcaaGreatDoorRows
import Derived.Test.YtgomhacoacmbcaaGreatDoorTie
import Derived.Test.YtgomhacoacmbcaaGreatDoorCards
import Derived.WalkKit
import Derived.Deep.Quiet
import Derived.OrdersHeld
import Derived.OrdersIn
import Derived.TacticsIn
import Derived.RangeFuncCalls
import Derived.RangeFuncLeaves
import Derived.ProofKit
import Derived.OpenShut
import Derived.ShutString
import Derived.ChangeOld
import Derived.Below
import Derived.Deep.Slices
import Derived.DataReads
import Derived.Laws.BytesArg
import Derived.Laws.RangeString
import Derived.Lib.Bytealg
import Derived.Laws.Externs
import Derived.Laws.IdiomStrings
import Derived.Laws.CopyRow
import Derived.Laws.Append
import Derived.LaidMore
import Derived.Handed
import Derived.MakeChecks
import Derived.FnData
import Derived.ChangeKeysEq
import Derived.Laws.StructEq
import Derived.MapKept
import Derived.Test.YtgomhacoacmbcaaGreatDoorProg
import Derived.RangeFuncFrom
import Derived.Shelf.SlSortCmp.WholeK
import Derived.Shelf.SlSortCmp.InsertionK
import Derived.Deep.QuietTactic
import Derived.BigQuiet
import Derived.Shelf.SlSortCmp.NoneTotal
import Derived.Shelf.RegionOpenPlain
import Derived.Lib.Walk
import Derived.Lib.SliceRun
import Derived.Lib.JoinLaws
import Derived.Lib.Overlaps
import Derived.Lib.AppendZerosOnto
import Derived.Laws.AppendOwn
import Derived.Laws.NewBlocks
import Derived.ArgAppend
import Derived.Maps.RangeRun
import Derived.SevenTiedAt
set_option linter.unusedSimpArgs false
set_option linter.unusedVariables false
namespace Go.Proofs.YtgomhacoacmbcaaGreatDoor
set_option maxRecDepth 100000
set_option maxHeartbeats 4000000
open Go Go.RowKit _root_.Go.Proofs.Tryz
abbrev V3:=Vector UInt8 32
section
def look:List (Nat × Value)->Nat->Option Value
 | [],_=>none
 | (k,v)::l,t=>bif Nat.beq k t then some v else look l t
def opv (l:List (Nat × Value)):Operand->Option Value
 | .tmp t=>look l t
 | .const v=>some v
 | .global g=>some (.pointer (some ⟨g,0,none⟩))
 | .func f=>some (.func (.func f) #[] #[])
structure Frm (n:Nat) (l:List (Nat × Value)) (a:Act):Prop where
 size:a.tmps.size=n
 defers:a.defers=[]
 slots:∀ t v,look l t=some v->a.tmps[t]? = some v
theorem Frm.ev {n l a x v} (f:Frm n l a) (h:opv l x=some v):a.eval x=v:=by
 cases x with
 | tmp t =>
  have:=f.slots t v h
  simp[Act.eval,Array.getD_eq_getD_getElem?,this]
 | const c=>simpa [opv,Act.eval] using h
 | global g=>simpa [opv,Act.eval] using h
 | func g=>simpa [opv,Act.eval] using h
def Jd:Nat->List Value->List (Nat × Value)
 | _,[]=>[]
 | i,v::vs=>(i,v)::Jd (i+1) vs
theorem QI:∀ (vs:List Value) (i t:Nat) (v:Value),look (Jd i vs) t=some v->i<=t/\vs[t - i]? = some v
 | [],_,_,_,h=>by simp[Jd,look] at h
 | u::us,i,t,v,h=>by
  simp only[Jd,look] at h
  cases hb:Nat.beq i t with
  | true =>
   rw[hb] at h
   have:i=t:=Nat.eq_of_beq_eq_true hb
   subst this;simp only[cond_true,Option.some.injEq] at h;subst h
   simp
  | false =>
   rw[hb] at h;have a1:i≠t:=Nat.ne_of_beq_eq_false hb;obtain⟨h1,h2⟩:=QI us (i+1) t v h;refine⟨by omega,?_⟩;rw[show t - i=(t - (i+1))+1 by omega]
   simpa using h2
theorem enter {P:Program} {f:FuncId} {fn:Func} {c:Code} {args:Array Value} {w:World} {R:Ending->World->Prop} {n:Nat} {l:List (Nat × Value)}
  (U:P.funcs[f]? = some fn) (hb:fn.body=some c) (hn:fn.ntmps=n) (hl:Jd 0 args.toList=l) (M:Nat.ble args.size n=true)
  (h:∀ a,Frm n l a->c.wp P (bodyPost P fn R) a w):Calls P f args w R:=by
 have M:args.size<=n:=Eq.mp Nat.ble_eq M;refine calls_of_wp U hb (h _ ⟨by simp[hn]; omega,rfl, λt v ht=>?_⟩);subst hl;obtain⟨-,h2⟩:=QI _ _ _ _ ht;simp only[Nat.sub_zero] at h2;have O:t<args.size:=by
  have:=(List.getElem?_eq_some_iff.1 h2).1
  simpa using this
 rw[Array.getElem?_append_left O]
 simpa using h2
section
variable {P:Program} {ops:Array Oper} {Q:Exit->Act->World->Prop} {a:Act} {w w':World} {rest:List Oper} {n:Nat} {l:List (Nat × Value)} {y:Code}
 {Q':Exit->Act->World->Prop} {next:Act->World->Prop}
theorem Frm.getD {t v} (f:Frm n l a) (h:look l t=some v):a.tmps.getD t undef=v:=by
 simp[Array.getD_eq_getD_getElem?,f.slots t v h]
theorem EF {o:Oper} (h:o.guard=none):Region.wanted o (yielded ops a.tmps)=true:=by simp[Region.wanted,h]
theorem st {o:Oper} {v:Value} (hw:Region.wanted o (yielded ops a.tmps)=true) (M:(execOp a.eval o).run P w=.ok (.value v) w')
  (k:wpList P ops Q rest (a.put o.dst v) w'):wpList P ops Q (o::rest) a w :=
 wpList_step λK hK=>by
  rw[if_pos hw]; unfold Oper.wp; rw[M]; exact hK _ _ k
theorem st0 {o:Oper} (hw:Region.wanted o (yielded ops a.tmps)=true) (M:(execOp a.eval o).run P w=.ok .skip w')
  (hd:o.dst=none) (k:wpList P ops Q rest a w'):wpList P ops Q (o::rest) a w :=
 wpList_step λK hK=>by
  rw[if_pos hw]; unfold Oper.wp; rw[M]
  have:K (a.put o.dst undef) w':=by rw[hd]; exact hK _ _ k
  exact this
end
end
section
section
variable {P:Program} {ops:Array Oper} {Q:Exit->Act->World->Prop} {a:Act} {w:World} {rest:List Oper} {n:Nat} {l:List (Nat × Value)}
 {d:Tmp} {ty:TypeId} {pos:String} {after:Array Edge} {g:Option (Nat × Bool)}
def CA (op:BinOp) (k:IntKind) (x y:Int):Option Value :=
 match op with
 | .add=>some (.int k (k.wrap (x+y)))
 | .sub=>some (.int k (k.wrap (x - y)))
 | .mul=>some (.int k (k.wrap (x * y)))
 | .lss=>some (.bool (x<y))
 | .leq=>some (.bool (x<=y))
 | .gtr=>some (.bool (y<x))
 | .geq=>some (.bool (y<=x))
 | .eql=>some (.bool (x==y))
 | .neq=>some (.bool (x != y))
 | _=>none
def Eh (op:BinOp) (k:IntKind) (x y:Int):Int :=
 match op with
 | .and=>k.wrap (BitVec.ofInt k.bits x &&& BitVec.ofInt k.bits y).toNat
 | .or=>k.wrap (BitVec.ofInt k.bits x ||| BitVec.ofInt k.bits y).toNat
 | .xor=>k.wrap (BitVec.ofInt k.bits x ^^^ BitVec.ofInt k.bits y).toNat
 | .andNot=>k.wrap (BitVec.ofInt k.bits x &&& ~~~(BitVec.ofInt k.bits y)).toNat
 | _=>0
def NM:BinOp->Bool
 | .and | .or | .xor | .andNot=>true
 | _=>false
theorem WO {T:TypeId} {b b':Bool} (m:Nat) (hT:P.underlying T=some .bool):(Op.equalIn (m+1) T (.bool b) (.bool b')).run P w=.ok (b==b') w:=by
 simp[Op.equalIn,run_underlying hT]
theorem WP {T:TypeId} {b b':Bool} (hT:P.underlying T=some .bool):(binOp .eql T (.bool b) (.bool b')).run P w=.ok (.bool (b==b')) w:=by
 have h:(Op.equalIn 10000 T (.bool b) (.bool b')).run P w=.ok (b==b') w:=WO 9999 hT;show (do pure (.bool (<- Op.equalIn 10000 T (.bool b) (.bool b'))):Sem Value).run P w=_;simp[h]
theorem Je {op:BinOp} {x y:Operand} {T T':TypeId} {ρ:Operand->Value} {v:Value} (M:(eqGuard op T x y (ρ x) (ρ y)).run P w=.ok () w) (h:(binOp op T (ρ x) (ρ y)).run P w=.ok v w) :
  (execOp ρ ⟨some d,.binOp op T x y T',ty,pos,after,g⟩).run P w=.ok (.value v) w:=by
 show (do pure (Next.value (<- (do eqGuard op T x y (ρ x) (ρ y); binOp op T (ρ x) (ρ y)))):Sem Next).run P w=_
 simp[M,h]
theorem Gm {fn:FuncId} {vs:Array Value} {F:Func} {b:Code} (hF:P.funcs[fn]? = some F) (hB:F.body=some b) (hnm:(F.name == "runtime.NumGoroutine")=false) :
  (callFunc fn vs).run P w=.ok (.enter fn vs) w:=by
 unfold callFunc
 show Sem.run P (match P.funcs[fn]? with
  | none=>_
  | some fn'=>_) w=_
 rw[hF];simp only[hnm,hB,Bool.false_eq_true,if_false,Option.isNone_some];rfl
end
end
section
def TI (P:Program) (e:TypeId) (z:Value) (sz bytes:Nat):Prop:=∃ i,P.info? e=some i/\i.zero=some z/\i.size=sz/\i.bytes=bytes
theorem TI.mk' {P:Program} {e:TypeId} {z:Value} {sz bytes:Nat} (h:(P.info? e).map (λi=>(i.zero,i.size,i.bytes))=some (some z,sz,bytes)):TI P e z sz bytes:=info_parts h
def Sc (P:Program) (t:TypeId):Prop:=∃ d,P.underlying t=some d/\(match d with | .struct _=>False | .array _ _=>False | _=>True)
def Ag (P:Program) (t:TypeId):Prop:=∃ d,P.underlying t=some d/\(match d with | .struct _=>True | .array _ _=>True | _=>False)
abbrev Ext (w w':World):Prop:=Below w.heap.size w w'
theorem Ext.rfl' {w:World}:Ext w w:=Below.refl _ _
theorem Ext.tr {w0 w w':World} (h:Ext w0 w) (k:Ext w w'):Ext w0 w':=h.trans (k.mono h.size)
theorem Ext.al (w:World) (o:Obj):Ext w (w.alloc o):=(Below.refl _ _).alloc (Nat.le_refl _) o
theorem Ext.dr {w0 w:World} (h:Ext w0 w):Ext w0 w.drew:=h.drew
theorem Ext.gb {w w':World} (h:Ext w w'):w.grownBy w' none:=⟨h.os,h.tape,h.output,h.size, λk M _=>h.block k M⟩
def Bx (w:World) (b:Nat) (C:Array Value) (T:TypeId):Prop:=w.heap[b]? = some (.cells C T (0,0))
theorem Bx.cell {w b C T} (h:Bx w b C T) (off:Nat):w.cell? ⟨b,off,none⟩=C[off]? := by
 unfold Bx at h; simp[World.cell?,h]
theorem Bx.cell' {w b C T} (h:Bx w b C T) {off:Nat} {v:Value} (M:C[off]? = some v):w.cell? ⟨b,off,none⟩=some v:=(h.cell off).trans M
def Rd (w:World) (v:Value) (n sz:Nat) (xs:List Value):Prop :=
 xs.length=n * sz/\((v=.slice none 0 0/\n=0) \/
  ∃ b o sp cap,v=.slice (some ⟨b,o,sp⟩) n cap/\n<=cap/\cap<=maxLen/\(xs=[]\/sp=none)/\∀ j u,xs[j]? = some u->w.cell? ⟨b,o+j,none⟩=some u)
theorem Rd.nil (w:World) (sz:Nat):Rd w (.slice none 0 0) 0 sz []:=⟨by simp,.inl ⟨rfl,rfl⟩⟩
theorem Rd.of_own {w B T v n sz xs} (h:w.ownsRow B T sz v n xs):Rd w v n sz xs:=by
 refine⟨h.1,?_⟩;rcases h.2 with h2 | ⟨g,cap,cur,rfl,_,hg,h1,h2,h3,h4⟩
 ·exact .inl h2
 ·refine .inr ⟨g,0,none,cap,rfl,h1,h2,.inr rfl, λj u M=>?_⟩;have O:j<n * sz:=by have:=(List.getElem?_eq_some_iff.1 M).1; rw[h.1] at this; exact this
  rw[Nat.zero_add];exact(World.ownsRow.cellAt h j O).trans M
theorem D8 (b o k:Nat):(⟨b,o,none⟩:Addr).add k=⟨b,o+k,none⟩:=by
 unfold Addr.add; split <;> simp_all
section
variable {P:Program} {ops:Array Oper} {Q:Exit->Act->World->Prop} {a:Act} {w:World} {rest:List Oper} {n:Nat} {l:List (Nat × Value)}
 {d:Tmp} {ty:TypeId} {pos:String} {after:Array Edge} {g:Option (Nat × Bool)}
theorem D9 {e:TypeId} {z:Value} {sz by_:Nat} (h:TI P e z sz by_):(sizeOf e).run P w=.ok sz w:=by
 obtain⟨i,hi,-,M,-⟩:=h;simp[sizeOf,typeInfo,program,hi,M,pure,bind,Sem.bind,Sem.run]
theorem Gn {e:TypeId} {z:Value} {sz by_:Nat} (h:TI P e z sz by_):(zeroValue e).run P w=.ok z w:=by
 obtain⟨i,hi,M,-,-⟩:=h;simp[zeroValue,typeInfo,program,hi,M,pure,bind,Sem.bind,Sem.run]
theorem Le {t:TypeId} {p:Addr} {v:Value} (hT:Sc P t) (M:w.cell? p=some v):(loadVar t p).run P w=.ok v w:=by
 obtain⟨d,hd,O⟩:=hT
 cases d <;> simp only at O <;> simp[loadVar,isAgg,run_underlying hd,M]
theorem QJ {t:TypeId} {p:Addr} {z:Value} {sz by_:Nat} {cs:List Value} (hT:Ag P t) (hS:TI P t z sz by_) (hl:cs.length=sz) (M:∀ j u,cs[j]? = some u->w.cell? (p.add j)=some u) :
  (loadVar t p).run P w=.ok (.agg cs.toArray) w:=by
 obtain⟨d,hd,O⟩:=hT;subst hl
 cases d <;> simp only at O <;> simp[loadVar,isAgg,run_underlying hd,D9 hS,run_loadCells_list w p cs M]
theorem Bx.cells {b C T} (h:Bx w b C T) {o:Nat} {cs:List Value} (O:(C.toList.drop o).take cs.length=cs):∀ j u,cs[j]? = some u->w.cell? ((⟨b,o,none⟩:Addr).add j)=some u:=by
 intro j u M;rw[D8,h.cell];have U:j<cs.length:=(List.getElem?_eq_some_iff.1 M).1;rw[<- O,List.getElem?_take,if_pos U,List.getElem?_drop] at M
 simpa using M
def spl (C:Array Value) (o:Nat) (vs:List Value):Array Value:=(C.toList.take o++vs++C.toList.drop (o+vs.length)).toArray
theorem FL (b:Nat) (cs:Array Value):w.grownBy (w.setRow b cs) (some b):=by
 refine⟨rfl,rfl,rfl, by simp[World.setRow], λk hk M=>?_⟩;have M:k≠b:=λe=>M (by rw[e]);simp only[World.setRow,Array.getElem?_modify];rw[if_neg (λe=>M e.symm)]
theorem NN {t:TypeId} {b o:Nat} {v z:Value} {sz by_:Nat} {C:Array Value} {T:TypeId} (hS:TI P t z sz by_) (O:v.cells.size=sz) (h1:∀ u∈v.cells.toList,u.oneCell'=true)
  (hb:Bx w b C T) (M:o+sz<=C.size):(storeVar t ⟨b,o,none⟩ v).run P w=.ok () (w.setRow b (spl C o v.cells.toList)):=by
 subst O
 have:=run_storeCells_at (P:=P) b o T v.cells.toList 0 C w hb (by simpa using M) h1
 simp only[Nat.add_zero] at this;simp[storeVar,D9 hS,this,spl]
end
end
section
def retv:List Value->Value
 | [v]=>v
 | vs=>.tuple vs.toArray
def Jf (P:Program) (w:World) (l:List (Nat × Value)):List ResultVar->List Value->Prop
 | [],[]=>True
 | .tmp t::rs,v::vs=>look l t=some v/\Jf P w l rs vs
 | .cell t T::rs,v::vs=>(∃ p,look l t=some (.pointer (some p))/\(loadVar T p).run P w=.ok v w)/\Jf P w l rs vs
 | _,_=>False
theorem WQ {P:Program} {w:World} {n:Nat} {l:List (Nat × Value)} {a:Act} {fn:Func} {rs:List ResultVar} {vs:List Value} (f:Frm n l a)
  (O:fn.results=rs.toArray) (h:Jf P w l rs vs):(results fn a.tmps).run P w=.ok (retv vs) w:=by
 have key:∀ (F:ResultVar->Sem Value),(∀ t,F (.tmp t)=pure (a.tmps.getD t undef))->(∀ x t,F (.cell x t)=do loadVar t (<- asAddr (a.tmps.getD x undef))) ->
   ∀ (rs:List ResultVar) (vs:List Value),Jf P w l rs vs->(rs.mapM F).run P w=.ok vs w:=by
  intro F hF1 hF2 rs
  induction rs with
  | nil=>intro vs h; cases vs with | nil=>rfl | cons=>exact h.elim
  | cons r rs M =>
   intro vs h
   cases vs with
   | nil=>cases r <;> exact h.elim
   | cons v vs =>
    cases r with
    | tmp t =>
     obtain⟨h1,h2⟩:=h;simp only[List.mapM_cons,hF1,Sem.run_bind,Sem.run_pure,f.getD h1,Result.andThen,M vs h2]
    | cell t T =>
     obtain⟨⟨p,h1,h3⟩,h2⟩:=h;have e:asAddr (.pointer (some p))=pure p:=rfl;simp only[List.mapM_cons,hF2,f.getD h1,e,Sem.run_bind,Sem.run_pure,h3,Result.andThen,M vs h2]
 have h2:=λF h1 h2=>key F h1 h2 rs vs h;unfold results;rw[O,List.mapM_toArray];simp only[map_eq_pure_bind,Sem.run_bind];rw[h2 _ (λ_=>rfl) (λ_ _=>rfl)];simp only[Result.andThen,Sem.run_pure]
 congr 1
 unfold retv
 match vs with
 | []=>rfl
 | [v]=>rfl
 | v::u::us=>simp
theorem DT {w B T sz v n xs} (h:World.ownsRow w B T sz v n xs):∃ p c,v=.slice p n c:=by
 rcases h.2 with ⟨rfl,rfl⟩ | ⟨g,cap,cur,rfl,_⟩
 ·exact⟨none,0,rfl⟩
 ·exact⟨_,_,rfl⟩
section
variable {P:Program} {ops:Array Oper} {Q:Exit->Act->World->Prop} {a:Act} {w:World} {rest:List Oper} {n:Nat} {l:List (Nat × Value)}
 {d:Tmp} {ty:TypeId} {pos:String} {after:Array Edge} {g:Option (Nat × Bool)}
def Gp (z:Value) (k:Nat):Array Value:=(Array.range k).map ((if k=0 then #[] else z.cells)[· % (if k=0 then #[] else z.cells).size]!)
theorem QK {T e:TypeId} {m:Nat} {vs:Array (Nat × Value)} {z:Value} {sz by_:Nat} {cells:Array Value} (hT:P.underlying T=some (.slice e)) (hE:TI P e z sz by_) (hm:m * sz<=16777216)
  (M:Instr.fill (λi=>some (i * sz,sz)) (Gp z (m * sz)) vs.toList=some cells) :
  (Instr.buildSlice T m vs).run P w=.ok (.slice (some ⟨w.heap.size,0,none⟩) m m) (w.alloc (.cells cells e)):=by
 have U:¬ m * sz > 2 ^ 24:=by omega
 unfold Gp at M;unfold Instr.buildSlice;simp only[Sem.run_bind,run_underlying hT,Result.andThen,D9 hE,U,if_false];by_cases O:m * sz=0
 ·rw[if_pos O] at M;rw[if_pos O];simp only[Sem.run_bind,Sem.run_pure,Result.andThen,M];rfl
 ·rw[if_neg O] at M;rw[if_neg O];simp only[Sem.run_bind,Gn hE,Result.andThen,Sem.run_pure,M];rfl
theorem QL {T e rt:TypeId} {z:Value} {sz by_ B:Nat} {p q:Option Addr} {k m c c2:Nat} {xs news:List Value} (hT:P.underlying T=some (.slice e)) (hE:TI P e z sz by_) (hz:z.cells.size=sz) (ac:0<sz)
  (ho:w.ownsRow B e sz (.slice p k c) k xs) (O:Rd w (.slice q m c2) m sz news) (h1:∀ u∈news,u.oneCell'=true)
  (ai:k+m<=9223372036854775807) (a6:(k+m) * by_<=140737488355328) (hB:B<=w.heap.size) :
  ∃ p' c' w',(Builtin.append_ #[T,T] rt #[.slice p k c,.slice q m c2]).run P w=.ok (.slice p' (k+m) c') w'/\w'.ownsRow B e sz (.slice p' (k+m) c') (k+m) (xs++news) /\
   w.grownBy w' (Value.slice p k c).ownBlock/\(∀ b,(Value.slice p' (k+m) c').ownBlock=some b->(Value.slice p k c).ownBlock=some b\/w.heap.size<=b):=by
 obtain⟨ti,g1,g2,g3,g4⟩:=hE;rcases O.2 with ⟨hq,rfl⟩ | ⟨b,o,sp,cap,hq,_,_,ad,a7⟩
 ·simp only[Value.slice.injEq,true_and] at hq;obtain⟨rfl,rfl⟩:=hq;have aa:news=[]:=by have:=O.1; simpa using this
  subst aa;refine⟨p,c,w,?_, by simpa using ho,⟨rfl,rfl,rfl,Nat.le_refl _, λ_ _ _=>rfl⟩, λb hb=>.inl hb⟩;exact run_append_owned_none (P:=P) w B T rt e ti sz hT g1 _ k xs ho
 ·simp only[Value.slice.injEq,true_and] at hq;obtain⟨rfl,rfl⟩:=hq;have ak:maxLen=9223372036854775807:=rfl;have hn:∀ j u,news[j]? = some u->w.cell? ((⟨b,o,sp⟩:Addr).add j)=some u:=λj u hu=>by
   rcases ad with rfl | rfl
   ·simp at hu
   ·rw[D8]; exact a7 j u hu
  obtain⟨v',w',M,a8,hg,-⟩:=run_append_own (P:=P) w B T rt e ti z sz by_ hT g1 g2 g3 g4 hz ac _ k xs ho ⟨b,o,sp⟩ m c2 news O.1
   hn h1 (by omega) a6 hB
  obtain⟨p',c',rfl⟩:=DT a8;refine⟨p',c',w',M,a8,hg, λb' a1=>?_⟩;have aj:k+m<=maxLen:=by omega
  rcases ho.2 with ⟨hv,h0⟩ | ⟨g',cap',cur,hv,am,ae,ao,ap,af,ah⟩
  ·simp only[Value.slice.injEq] at hv;obtain⟨rfl,-,rfl⟩:=hv;subst h0;by_cases hm:m=0
   ·subst hm
    exfalso
    have hx:news=[]:=List.eq_nil_of_length_eq_zero (by simpa using O.1);subst hx;simp[Builtin.append_,run_underlying hT,sizeOf,typeInfo,g1,Builtin.lenOf,Builtin.firstCells,loadCells,loadCellsFrom] at M;obtain⟨⟨rfl,_⟩,_⟩:=M;simp[Value.ownBlock] at a1
   ·have U:=run_append_nil (P:=P) w T rt e ti z hT g1 g2 ⟨b,o,sp⟩ m c2 news (by rw[g3]; exact O.1) hn (by omega) (by omega) (by rw[g4]; simp only[Nat.zero_add] at a6; omega);rw[U] at M;simp only[Result.ok.injEq,Value.slice.injEq] at M;obtain⟨⟨rfl,_⟩,_⟩:=M;simp only[Value.ownBlock,Option.some.injEq] at a1;exact .inr (by omega)
  ·simp only[Value.slice.injEq,true_and] at hv;obtain⟨rfl,rfl⟩:=hv;by_cases a2:k+m<=c
   ·have ab:k * ti.size+news.length<=cur.size:=by rw[g3,O.1,af,<- Nat.add_mul]; exact Nat.mul_le_mul_right _ a2
    have U:=run_append_room (P:=P) w T rt e ti hT g1 g' k c cur ae ⟨b,o,sp⟩ m c2 news (by rw[g3]; exact O.1) hn h1 a2 ab;rw[U] at M;simp only[Result.ok.injEq,Value.slice.injEq] at M;obtain⟨⟨rfl,_⟩,_⟩:=M;exact .inl a1
   ·have holds:∀ j u,xs[j]? = some u->w.cell? ((⟨g',0,none⟩:Addr).add j)=some u:=ho.cells (g:=g') rfl;have U:=run_append_grow (P:=P) w T rt e ti z hT g1 g2 ⟨g',0,none⟩ k c xs (by rw[g3]; exact ho.1) holds ⟨b,o,sp⟩ m c2 news (by rw[g3]; exact O.1) hn (by omega) (by omega) (growslice_fits (by omega) (by rw[g4]; exact a6));rw[U] at M;simp only[Result.ok.injEq,Value.slice.injEq] at M;obtain⟨⟨rfl,_⟩,_⟩:=M
    simp only[Value.ownBlock,Option.some.injEq] at a1;exact .inr (by omega)
theorem Rd.sub {v m sz xs} (h:Rd w v m sz xs) {p:Option Addr} {cp:Nat} (O:v=.slice p m cp) {i j:Nat} (a7:i<=j) (hj:j<=m) :
  Rd w (.slice (if cp=i then p else p.map (·.add (i * sz))) (j - i) (cp - i)) (j - i) sz ((xs.drop (i * sz)).take ((j - i) * sz)):=by
 subst O;have hl:=h.1;have h1:(j - i) * sz+i * sz<=m * sz:=by
  rw[<- Nat.add_mul]; exact Nat.mul_le_mul_right _ (by omega)
 refine⟨by simp[hl]; omega,?_⟩;rcases h.2 with ⟨O,rfl⟩ | ⟨b,o,sp,cap,O,h2,h3,a6,h4⟩
 ·simp only[Value.slice.injEq,true_and] at O;obtain⟨rfl,rfl⟩:=O
  have:i=0:=by omega
  have:j=0:=by omega
  subst i; subst j;exact .inl (by simp)
 ·simp only[Value.slice.injEq,true_and] at O;obtain⟨rfl,rfl⟩:=O;by_cases hc:cp=i
  ·have U:j - i=0:=by omega
   refine .inr ⟨b,o,sp,cp - i, by simp[hc], by omega, by omega,.inl (by simp[U]), λq u M=>?_⟩
   exfalso
   have hq:=(List.getElem?_eq_some_iff.1 M).1;simp[U] at hq
  ·have a1:∃ sp',(⟨b,o,sp⟩:Addr).add (i * sz)=⟨b,o+i * sz,sp'⟩/\(xs=[]\/sp'=none):=by
    rcases a6 with rfl | rfl
    ·unfold Addr.add; split
     ·rename_i h0; exact⟨sp, by simp[h0],.inl rfl⟩
     ·exact⟨none,rfl,.inl rfl⟩
    ·exact⟨none,D8 _ _ _,.inr rfl⟩
   obtain⟨sp',ha,a2⟩:=a1;refine .inr ⟨b,o+i * sz,sp',cp - i, by simp[hc,ha], by omega, by omega,a2.imp (λe=>by simp[e]) id, λq u M=>?_⟩;have hq:=(List.getElem?_eq_some_iff.1 M).1;rw[List.getElem?_take] at M
   split at M
   ·rw[List.getElem?_drop] at M;rw[Nat.add_assoc];exact h4 _ _ M
   ·cases M
theorem WR {p:Option Addr} {m cp i j k sz:Nat}:(Value.slice (if cp=i then p else p.map (·.add (i * sz))) j k).ownBlock=(Value.slice p m cp).ownBlock:=by
 cases p with
 | none=>simp[Value.ownBlock]
 | some q=>by_cases h:cp=i <;> simp[h,Value.ownBlock,Addr.add] <;> split <;> rfl
end
end
section
structure Enc (α:Type) where
 sz:Nat
 pos:0<sz
 of:α->List Value
 len:∀ x,(of x).length=sz
 one:∀ x,∀ u∈of x,u.oneCell'=true
structure ID32 where
 bytes:List UInt8
 len:bytes.length=32
theorem ID32.ext' {a b:ID32} (h:a.bytes=b.bytes):a=b:=by cases a; cases b; simp at h; subst h; rfl
instance:DecidableEq ID32:=λa b=>decidable_of_iff (a.bytes=b.bytes) ⟨ID32.ext', λh=>by rw[h]⟩
def sblk (p:Option Addr):Option Nat:=p.map (·.block)
theorem I0 (p:Option Addr) (n c:Nat):(Value.slice p n c).ownBlock=sblk p:=by cases p <;> rfl
section
variable {P:Program} {ops:Array Oper} {Q:Exit->Act->World->Prop} {a:Act} {w:World} {rest:List Oper} {n:Nat} {fl:List (Nat × Value)}
 {d:Tmp} {ty:TypeId} {pos:String} {after:Array Edge} {g:Option (Nat × Bool)} {α:Type} {E:Enc α}
end
end
section
section
variable {n:Nat} {l:List (Nat × Value)} {a:Act}
end
section
variable {P:Program} {ops:Array Oper} {Q:Exit->Act->World->Prop} {a:Act} {w:World} {rest:List Oper} {n:Nat} {l:List (Nat × Value)}
 {d:Tmp} {ty:TypeId} {pos:String} {after:Array Edge} {g:Option (Nat × Bool)}
theorem WS {T e:TypeId} {p:Option Addr} {k c:Nat} (m:Nat) (hT:P.underlying T=some (.slice e)):(Op.equalIn (m+1) T (.slice p k c) (.slice none 0 0)).run P w=.ok (decide (p=none)) w:=by
 cases p <;> simp[Op.equalIn,run_underlying hT]
theorem WT {T e:TypeId} {p:Option Addr} {k c:Nat} (hT:P.underlying T=some (.slice e)):(binOp .eql T (.slice p k c) (.slice none 0 0)).run P w=.ok (.bool (decide (p=none))) w:=by
 have h:(Op.equalIn 10000 T (.slice p k c) (.slice none 0 0)).run P w=.ok (decide (p=none)) w:=WS 9999 hT;show (do pure (.bool (<- Op.equalIn 10000 T (.slice p k c) (.slice none 0 0))):Sem Value).run P w=_;simp[h]
end
end
section
abbrev Blk:=Nat->Prop
def Bj (S S':Blk) (w w':World):Prop:=∀ b,S b->S' b/\w'.heap[b]? = w.heap[b]?
theorem Bj.rfl' {S w}:Bj S S w w:=λ_ h=>⟨h,rfl⟩
theorem Bj.tr {S S1 S2 w M O} (h:Bj S S1 w M) (k:Bj S1 S2 M O):Bj S S2 w O:=λb hb=>⟨(k b (h b hb).1).1,(k b (h b hb).1).2.trans (h b hb).2⟩
structure Rep (α:Type) where
 sz:Nat
 agg:Bool
 rel:Blk->World->List Value->α->Prop
 len:∀ {S w cs x},rel S w cs x->cs.length=sz
 one:∀ {S w cs x},rel S w cs x->∀ u∈cs,u.oneCell'=true
 scal:agg=false->sz=1
 mono:∀ {S S' w w' cs x},Bj S S' w w'->rel S w cs x->rel S' w' cs x
def Rep.val {α} (R:Rep α) (cs:List Value):Value:=bif R.agg then .agg cs.toArray else cs.headD undef
def Rep.vrel {α} (R:Rep α) (S:Blk) (w:World) (v:Value) (x:α):Prop:=∃ cs,R.rel S w cs x/\v=R.val cs
theorem Rep.vrel.mono {α} {R:Rep α} {S S' w w' v x} (h:R.vrel S w v x) (k:Bj S S' w w'):R.vrel S' w' v x:=by
 obtain⟨cs,h1,h2⟩:=h; exact⟨cs,R.mono k h1,h2⟩
theorem I1 {u:Value} (h:u.oneCell'=true):u.cells = #[u]:=by cases u <;> first | rfl | simp[Value.oneCell'] at h
theorem Rep.val_cells {α} {R:Rep α} {S w cs x} (h:R.rel S w cs x):(R.val cs).cells.toList=cs:=by
 unfold Rep.val
 cases M:R.agg with
 | true=>rfl
 | false =>
  have h1:=R.len h;rw[R.scal M] at h1
  match cs,h1 with
  | [u],_=>simp[I1 (R.one h u (by simp))]
def B5 {α} (R:Rep α) (S:Blk) (w:World):List Value->List α->Prop
 | cs,[]=>cs=[]
 | cs,x::xs=>∃ c d,cs=c++d/\R.rel S w c x/\B5 R S w d xs
theorem B5.len {α} {R:Rep α} {S w}:∀ {l:List α} {cs},B5 R S w cs l->cs.length=l.length * R.sz
 | [],cs,h=>by simp only[B5] at h; simp[h]
 | x::l,cs,h=>by
  obtain⟨c,d,rfl,h1,h2⟩:=h;simp[R.len h1,B5.len h2,Nat.add_mul,Nat.add_comm]
theorem B5.one {α} {R:Rep α} {S w}:∀ {l:List α} {cs},B5 R S w cs l->∀ u∈cs,u.oneCell'=true
 | [],cs,h=>by simp only[B5] at h; simp[h]
 | x::l,cs,h=>by
  obtain⟨c,d,rfl,h1,h2⟩:=h;intro u M;rcases List.mem_append.1 M with h | h
  ·exact R.one h1 u h
  ·exact B5.one h2 u h
theorem B5.mono {α} {R:Rep α} {S S' w w'} (k:Bj S S' w w'):∀ {l:List α} {cs},B5 R S w cs l->B5 R S' w' cs l
 | [],cs,h=>h
 | x::l,cs,h=>by
  obtain⟨c,d,rfl,h1,h2⟩:=h;exact⟨c,d,rfl,R.mono k h1,B5.mono k h2⟩
theorem B5.append {α} {R:Rep α} {S w}:∀ {l m:List α} {cs ds},B5 R S w cs l->B5 R S w ds m->B5 R S w (cs++ds) (l++m)
 | [],m,cs,ds,h,k=>by simp only[B5] at h; subst h; exact k
 | x::l,m,cs,ds,h,k=>by
  obtain⟨c,d,rfl,h1,h2⟩:=h;exact⟨c,d++ds, by simp,h1,B5.append h2 k⟩
theorem B5.drop {α} {R:Rep α} {S w}:∀ {l:List α} {cs} (i:Nat),B5 R S w cs l->B5 R S w (cs.drop (i * R.sz)) (l.drop i)
 | l,cs,0,h=>by simpa using h
 | [],cs,i+1,h=>by simp only[B5] at h; subst h; simp[B5]
 | x::l,cs,i+1,h=>by
  obtain⟨c,d,rfl,h1,h2⟩:=h
  have:=B5.drop i h2
  have M:=R.len h1;rw[show (i+1) * R.sz=c.length+i * R.sz by rw[M,Nat.add_mul]; omega]
  simpa using this
theorem B5.take {α} {R:Rep α} {S w}:∀ {l:List α} {cs} (i:Nat),B5 R S w cs l->B5 R S w (cs.take (i * R.sz)) (l.take i)
 | l,cs,0,h=>by simp[B5]
 | [],cs,i+1,h=>by simp only[B5] at h; subst h; simp[B5]
 | x::l,cs,i+1,h=>by
  obtain⟨c,d,rfl,h1,h2⟩:=h
  have:=B5.take i h2
  have M:=R.len h1;rw[show (i+1) * R.sz=c.length+i * R.sz by rw[M,Nat.add_mul]; omega];rw[List.take_length_add_append];exact⟨c,_,rfl,h1,this⟩
theorem B5.split {α} {R:Rep α} {S w} {x:α}:∀ {l:List α} {cs} {i:Nat},B5 R S w cs l->l[i]? = some x ->
  ∃ a c d,cs=a++c++d/\a.length=i * R.sz/\R.rel S w c x/\∀ c' x' S' w',Bj S S' w w'->R.rel S' w' c' x'->B5 R S' w' (a++c'++d) (l.set i x')
 | [],cs,i,h,M=>by simp at M
 | y::l,cs,0,h,M=>by
  obtain⟨c,d,rfl,h1,h2⟩:=h;simp only[List.getElem?_cons_zero,Option.some.injEq] at M;subst M;exact⟨[],c,d, by simp, by simp,h1, λc' x' S' w' k h'=>⟨c',d, by simp,h',h2.mono k⟩⟩
 | y::l,cs,i+1,h,M=>by
  obtain⟨c,d,rfl,h1,h2⟩:=h;simp only[List.getElem?_cons_succ] at M;obtain⟨a,U,O,rfl,ha,hr,hs⟩:=B5.split h2 M;refine⟨c++a,U,O, by simp, by simp[R.len h1,ha,Nat.add_mul]; omega,hr, λc' x' S' w' k h'=>?_⟩;exact⟨c,a++c'++O, by simp,R.mono k h1,hs c' x' S' w' k h'⟩
theorem B5.single {α} {R:Rep α} {S w c} {x:α} (h:R.rel S w c x):B5 R S w c [x]:=⟨c,[], by simp,h,rfl⟩
def Bm {α:Type} (k:IntKind) (f:α->Int):Rep α where
 sz:=1
 agg:=false
 rel _ _ cs x:=cs=[.int k (f x)]
 len h:=by subst h; rfl
 one h:=by subst h; intro u M; simp at M; subst M; rfl
 scal _:=rfl
 mono _ h:=h
def A2:Rep Int:=Bm .i64 id
def i32R:Rep Int:=Bm .i32 id
def u8R:Rep UInt8:=Bm .u8 (λx=>(x.toNat:Int))
def Aa:Rep UInt32:=Bm .u32 (λx=>(x.toNat:Int))
def Ao:Rep UInt64:=Bm .u64 (λx=>(x.toNat:Int))
def Ai:Rep Bool where
 sz:=1
 agg:=false
 rel _ _ cs x:=cs=[.bool x]
 len h:=by subst h; rfl
 one h:=by subst h; intro u M; simp at M; subst M; rfl
 scal _:=rfl
 mono _ h:=h
def CB:Rep (List UInt8) where
 sz:=1
 agg:=false
 rel _ _ cs x:=∃ s:ByteArray,cs=[.string s]/\s.data.toList=x
 len h:=by obtain⟨s,rfl,_⟩:=h; rfl
 one h:=by obtain⟨s,rfl,_⟩:=h; intro u M; simp at M; subst M; rfl
 scal _:=rfl
 mono _ h:=h
theorem Rd.stay {S S' w w' p c n sz xs} (h:Rd w (.slice p n c) n sz xs) (hS:xs≠[]->∀ b,sblk p=some b->S b) (k:Bj S S' w w'):Rd w' (.slice p n c) n sz xs:=by
 refine⟨h.1,?_⟩;rcases h.2 with h2 | ⟨b,o,sp,cap,M,h1,h2,U,h3⟩
 ·exact .inl h2
 ·refine .inr ⟨b,o,sp,cap,M,h1,h2,U, λj u O=>?_⟩;have hb:=(k b (hS (λe=>by rw[e] at O; simp at O) b (by simp only[Value.slice.injEq] at M; rw[M.1]; rfl))).2
  have:=h3 j u O
  unfold World.cell? at this ⊢;rw[hb]; exact this
def A3 {α:Type} (R:Rep α):Rep (List α) where
 sz:=1
 agg:=false
 rel S w cs l:=∃ p c xs,cs=[.slice p l.length c]/\Rd w (.slice p l.length c) l.length R.sz xs/\B5 R S w xs l/\(xs≠[]->∀ b,sblk p=some b->S b)
 len h:=by obtain⟨p,c,xs,rfl,_⟩:=h; rfl
 one h:=by obtain⟨p,c,xs,rfl,_⟩:=h; intro u M; simp at M; subst M; rfl
 scal _:=rfl
 mono k h:=by
  obtain⟨p,c,xs,h1,h2,h3,O⟩:=h;exact⟨p,c,xs,h1,h2.stay O k,h3.mono k, λU b hb=>(k b (O U b hb)).1⟩
def Av {α:Type} (n:Nat) (R:Rep α):Rep (Vector α n) where
 sz:=n * R.sz
 agg:=true
 rel S w cs v:=B5 R S w cs v.toList
 len h:=by rw[h.len]; simp
 one h:=h.one
 scal h:=by cases h
 mono k h:=h.mono k
def E3:Rep Unit where
 sz:=0
 agg:=true
 rel _ _ cs _:=cs=[]
 len h:=by subst h; rfl
 one h:=by subst h; simp
 scal h:=by cases h
 mono _ h:=h
def C3 {α β:Type} (R:Rep α) (T:Rep β):Rep (α × β) where
 sz:=R.sz+T.sz
 agg:=true
 rel S w cs x:=∃ c d,cs=c++d/\R.rel S w c x.1/\T.rel S w d x.2
 len h:=by obtain⟨c,d,rfl,h1,h2⟩:=h; simp[R.len h1,T.len h2]
 one h:=by
  obtain⟨c,d,rfl,h1,h2⟩:=h;intro u M;rcases List.mem_append.1 M with h | h
  ·exact R.one h1 u h
  ·exact T.one h2 u h
 scal h:=by cases h
 mono k h:=by obtain⟨c,d,h1,h2,h3⟩:=h; exact⟨c,d,h1,R.mono k h2,T.mono k h3⟩
def DK {α β:Type} (g:β->α) (R:Rep α):Rep β where
 sz:=R.sz
 agg:=R.agg
 rel S w cs x:=R.rel S w cs (g x)
 len h:=R.len h
 one h:=R.one h
 scal h:=R.scal h
 mono k h:=R.mono k h
structure Ent where
 holds:Blk->World->Value->Prop
 mono:∀ {S S' w w' v},Bj S S' w w'->holds S w v->holds S' w' v
def Ent.rd {α:Type} (R:Rep α) (x:α):Ent:=⟨λS w v=>R.vrel S w v x, λk h=>h.mono k⟩
def Ent.val (u:Value):Ent:=⟨λ_ _ v=>v=u/\u.oneCell'=true, λ_ h=>h⟩
def Ent.un:Ent:=⟨λ_ _ v=>v=undef, λ_ h=>h⟩
def Ent.junk:Ent:=⟨λ_ _ _=>True, λ_ h=>h⟩
def BI (S:Blk) (w:World):List Ent->List Value->Prop
 | [],[]=>True
 | e::es,v::vs=>e.holds S w v/\BI S w es vs
 | _,_=>False
theorem BI.mono {S S' w w'} (k:Bj S S' w w'):∀ {es vs},BI S w es vs->BI S' w' es vs
 | [],[],_=>trivial
 | e::es,v::vs,h=>⟨e.mono k h.1,BI.mono k h.2⟩
 | [],_::_,h=>h.elim
 | _::_,[],h=>h.elim
def Bd (vs:List Value):List Value:=vs.flatMap λv=>v.cells.toList
def Ent.agg (es:List Ent):Ent:=⟨λS w v=>∃ vs,BI S w es vs/\v=.agg (Bd vs).toArray, λk h=>by obtain⟨vs,h1,h2⟩:=h; exact⟨vs,h1.mono k,h2⟩⟩
def Ent.tup (es:List Ent):Ent:=⟨λS w v=>∃ vs,BI S w es vs/\v=.tuple vs.toArray, λk h=>by obtain⟨vs,h1,h2⟩:=h; exact⟨vs,h1.mono k,h2⟩⟩
def Ent.rp {α:Type} (R:Rep α) (x:α):Ent where
 holds S w v:=∃ b o cs,v=.pointer (some ⟨b,o,none⟩)/\S b/\R.rel S w cs x/\∀ j u,cs[j]? = some u->w.cell? ⟨b,o+j,none⟩=some u
 mono k h:=by
  obtain⟨b,o,cs,h1,h2,h3,M⟩:=h;refine⟨b,o,cs,h1,(k b h2).1,R.mono k h3, λj u O=>?_⟩
  have:=M j u O
  unfold World.cell? at this ⊢;rw[(k b h2).2]; exact this
def AM:Value->Option Nat
 | .slice (some a) _ _=>some a.block
 | .pointer (some a)=>some a.block
 | .map r=>r
 | _=>none
structure AK where
 nil:Blk->World->Value->Prop
 nilm:∀ {S S' w w' v},Bj S S' w w'->nil S w v->nil S' w' v
 nilb:∀ {S w v},nil S w v->AM v=none
 rel:Blk->World->Value->Obj->Prop
 mono:∀ {S S' w w' v o},Bj S S' w w'->rel S w v o->rel S' w' v o
def AK.holds (c:AK) (S:Blk) (w:World) (v:Value):Prop:=c.nil S w v\/∃ b o,AM v=some b/\w.heap[b]? = some o/\c.rel S w v o
theorem AK.holds.mono {c:AK} {S S' w w' v} (h:c.holds S w v) (k:Bj S S' w w') (hb:∀ b,AM v=some b->w'.heap[b]? = w.heap[b]?):c.holds S' w' v:=by
 rcases h with h | ⟨b,o,h1,h2,h3⟩
 ·exact .inl (c.nilm k h)
 ·exact .inr ⟨b,o,h1,(hb b h1).trans h2,c.mono k h3⟩
theorem AK.holds.lt {c:AK} {S w v} (h:c.holds S w v) {b} (hb:AM v=some b):b<w.heap.size:=by
 rcases h with h | ⟨b',o,h1,h2,h3⟩
 ·rw[c.nilb h] at hb; cases hb
 ·rw[h1] at hb; cases hb; exact(Array.getElem?_eq_some_iff.1 h2).1
def AK.list {α:Type} (R:Rep α) (T:TypeId) (l:List α):AK where
 nil _ _ v:=v=.slice none 0 0/\l=[]
 nilm _ h:=h
 nilb h:=by rw[h.1]; rfl
 rel S w v o:=∃ b cap C,v=.slice (some ⟨b,0,none⟩) l.length cap/\o=.cells C T (0,0)/\l.length<=cap/\cap<=maxLen/\C.size=cap * R.sz/\B5 R S w (C.toList.take (l.length * R.sz)) l
 mono k h:=by obtain⟨b,cap,C,h1,h2,h3,M,O,U⟩:=h; exact⟨b,cap,C,h1,h2,h3,M,O,U.mono k⟩
def AK.seg {α:Type} (R:Rep α) (T:TypeId) (l:List α):AK where
 nil _ _ v:=v=.slice none 0 0/\l=[]
 nilm _ h:=h
 nilb h:=by rw[h.1]; rfl
 rel S w v o:=∃ b off cap C,v=.slice (some ⟨b,off,none⟩) l.length cap/\o=.cells C T (0,0)/\l.length<=cap/\cap<=maxLen/\(cap=0\/off+cap * R.sz=C.size)/\B5 R S w ((C.toList.drop off).take (l.length * R.sz)) l
 mono k h:=by obtain⟨b,off,cap,C,h1,h2,h3,M,O,U⟩:=h; exact⟨b,off,cap,C,h1,h2,h3,M,O,U.mono k⟩
def AK.box (T:TypeId) (es:List Ent):AK where
 nil _ _ _:=False
 nilm _ h:=h
 nilb h:=h.elim
 rel S w v o:=∃ b vs,v=.pointer (some ⟨b,0,none⟩)/\o=.cells (Bd vs).toArray T (0,0)/\BI S w es vs
 mono k h:=by obtain⟨b,vs,h1,h2,h3⟩:=h; exact⟨b,vs,h1,h2,h3.mono k⟩
theorem EG {α} {R:Rep α} {T l S w v} (h:(AK.list R T l).holds S w v):∃ xs,w.ownsRow 0 T R.sz v l.length xs/\B5 R S w xs l:=by
 rcases h with ⟨rfl,rfl⟩ | ⟨b,o,h1,h2,b',cap,C,rfl,rfl,h3,O,U,M⟩
 ·exact⟨[],⟨by simp,.inl ⟨rfl,rfl⟩⟩,rfl⟩
 ·simp only[AM,Option.some.injEq] at h1;subst h1;exact⟨_,⟨M.len,.inr ⟨_,cap,C,rfl,Nat.zero_le _,h2,h3,O,U,rfl⟩⟩,M⟩
theorem Lf {α} {R:Rep α} {B T l S w v xs} (h:w.ownsRow B T R.sz v l.length xs) (k:B5 R S w xs l):(AK.list R T l).holds S w v:=by
 rcases h.2 with ⟨rfl,M⟩ | ⟨g,cap,C,rfl,_,h2,h3,O,U,h6⟩
 ·exact .inl ⟨rfl,List.eq_nil_of_length_eq_zero M⟩
 ·exact .inr ⟨g,_,rfl,h2,g,cap,C,rfl,rfl,h3,O,U, by rw[h6]; exact k⟩
end
section
variable {ro:Option Nat}
def lk {α:Type}:List (Nat × α)->Nat->Option α
 | [],_=>none
 | (k,v)::l,t=>bif Nat.beq k t then some v else lk l t
theorem C4 {α:Type} {k t:Nat} {v:α} {l:List (Nat × α)}:lk ((k,v)::l) t=if k=t then some v else lk l t:=by
 simp only[lk]
 cases hb:Nat.beq k t with
 | true=>rw[if_pos (Nat.eq_of_beq_eq_true hb)]; rfl
 | false=>rw[if_neg (Nat.ne_of_beq_eq_false hb)]; rfl
abbrev AQ:=List (Nat × Ent)
abbrev Res:=List (Nat × Option (Value × AK))
def lr (res:Res) (r:Nat):Option (Value × AK):=(lk res r).getD none
def Shr (H:Blk) (res:Res) (w:World):Blk:=λb=>b<w.heap.size/\(∀ r v c,lr res r=some (v,c)->AM v≠some b)/\¬ H b
structure Ctx where
 n:Nat
 K:Blk
 H:Blk
 w0:World
 ds:List Deferred
structure C5 (K:Blk) (w w':World):Prop where
 os:w'.os=w.os
 tape:w'.tape=w.tape
 output:w'.output=w.output
 size:w.heap.size<=w'.heap.size
 block:∀ b,K b->w'.heap[b]? = w.heap[b]?
theorem C5.rfl' {K w}:C5 K w w:=⟨rfl,rfl,rfl,Nat.le_refl _, λ_ _=>rfl⟩
theorem C5.tr {K K' w M O} (h:C5 K w M) (k:C5 K' M O) (hK:∀ b,K b->K' b):C5 K w O :=
 ⟨k.os.trans h.os,k.tape.trans h.tape,k.output.trans h.output,Nat.le_trans h.size k.size, λb hb=>(k.block b (hK b hb)).trans (h.block b hb)⟩
theorem C5.gr {K w M O} {r:Option Nat} (h:C5 K w M) (k:M.grownBy O r) (hK:∀ b,K b->b<M.heap.size/\r≠some b):C5 K w O :=
 ⟨k.os.trans h.os,k.tape.trans h.tape,k.output.trans h.output,Nat.le_trans h.size k.size, λb hb=>(k.block b (hK b hb).1 (λe=>(hK b hb).2 e.symm)).trans (h.block b hb)⟩
structure Sta (Γ:Ctx) (l:AQ) (res:Res) (a:Act) (w:World):Prop where
 size:a.tmps.size=Γ.n
 defers:a.defers=Γ.ds
 slots:∀ t e,lk l t=some e->∃ v,a.tmps[t]? = some v/\e.holds (Shr Γ.H res w) w v
 conts:∀ r v c,lr res r=some (v,c)->c.holds (Shr Γ.H res w) w v
 excl:∀ r v c r' v' c',lr res r=some (v,c)->lr res r'=some (v',c')->r≠r'->∀ b,AM v=some b->AM v'≠some b
 own:∀ r v c,lr res r=some (v,c)->∀ b,AM v=some b->¬ Γ.K b
 keep:C5 Γ.K Γ.w0 w
 old:∀ b,Γ.K b->b<Γ.w0.heap.size
 hid:∀ b,Γ.H b->Γ.K b
section
variable {P:Program} {Γ:Ctx} {l l':AQ} {res res':Res} {a:Act} {w w':World}
theorem Sta.frm (h:Sta Γ l res a w):Frm Γ.n [] { a with defers:=[] }:=⟨h.size,rfl, λ_ _ h=>by simp[look] at h⟩
theorem Sta.slot (h:Sta Γ l res a w) {t:Nat} {e:Ent} (M:lk l t=some e):∃ v,look [(t,v)] t=some v/\Frm Γ.n [(t,v)] { a with defers:=[] }/\e.holds (Shr Γ.H res w) w v:=by
 obtain⟨v,h1,h2⟩:=h.slots t e M;refine⟨v, by simp[look],⟨h.size,rfl, λt' v' h'=>?_⟩,h2⟩;simp only[look] at h'
 cases hb:Nat.beq t t' with
 | true =>
  rw[hb] at h'
  have:=Nat.eq_of_beq_eq_true hb
  subst this;simp only[cond_true,Option.some.injEq] at h';subst h'; exact h1
 | false=>rw[hb] at h'; cases h'
theorem Shr.ext {H:Blk} (k:Ext w w'):Bj (Shr H res w) (Shr H res w') w w':=λb hb=>⟨⟨Nat.lt_of_lt_of_le hb.1 k.size,hb.2⟩,k.block b hb.1⟩
theorem C5.ext {K w0} (h:C5 K w0 w) (hK:∀ b,K b->b<w0.heap.size) (k:Ext w w'):C5 K w0 w' :=
 ⟨k.os.trans h.os,k.tape.trans h.tape,k.output.trans h.output,Nat.le_trans h.size k.size, λb hb=>(k.block b (Nat.lt_of_lt_of_le (hK b hb) h.size)).trans (h.block b hb)⟩
theorem Sta.ext (h:Sta Γ l res a w) (k:Ext w w'):Sta Γ l res a w' where
 size:=h.size
 defers:=h.defers
 slots t e O:=by obtain⟨v,h1,h2⟩:=h.slots t e O; exact⟨v,h1,e.mono (Shr.ext k) h2⟩
 conts r v c M:=(h.conts r v c M).mono (Shr.ext k) (λb hb=>k.block b ((h.conts r v c M).lt hb))
 excl:=h.excl
 own:=h.own
 keep:=h.keep.ext h.old k
 old:=h.old
 hid:=h.hid
theorem Sta.put (h:Sta Γ l res a w) {d:Nat} {v:Value} {e:Ent} (hd:Nat.blt d Γ.n=true) (U:e.holds (Shr Γ.H res w) w v):Sta Γ ((d,e)::l) res (a.put (some d) v) w where
 size:=by simp[Act.put,h.size]
 defers:=by simp[Act.put,h.defers]
 slots t e' O:=by
  have hd:d<Γ.n:=Eq.mp Nat.blt_eq hd;rw[C4] at O
  split at O
  ·rename_i M; subst M; cases O
   exact⟨v, by simp[Act.put,h.size,hd],U⟩
  ·rename_i M;obtain⟨u,h1,h2⟩:=h.slots t e' O;exact⟨u, by simp[Act.put,Array.getElem?_setIfInBounds_ne M,h1],h2⟩
 conts:=h.conts
 excl:=h.excl
 own:=h.own
 keep:=h.keep
 old:=h.old
 hid:=h.hid
theorem Sta.old_lt (h:Sta Γ l res a w) {b:Nat} (hb:Γ.K b):b<w.heap.size:=Nat.lt_of_lt_of_le (h.old b hb) h.keep.size
end
abbrev Asn:=Act->World->Prop
section
variable {ρ:Type} {P:Program} {A:Asn} {Q:ρ->Exit->Act->World->Prop} {m:Option ρ}
abbrev GX (X:ρ->Act->World->Prop) (A:Asn) (m:Option ρ):Prop:=∀ a w,A a w->∀ r,m=some r->X r a w
def wpM (ro:Option Nat) (P:Program) (c:Code) (Q:Exit->Act->World->Prop) (a:Act) (w:World):Prop:=match ro with
 | none=>c.wp P Q a w
 | some l=>(∀ a w,¬ Q .outgrown a w)->c.wpIn (Fence.wide.inRound l) 0 P Q a w
def G (ro:Option Nat) (P:Program) (A:Asn) (c:Code) (Q:ρ->Exit->Act->World->Prop) (m:Option ρ):Prop:=GX (λr a w=>wpM ro P c (Q r) a w) A m
def GL (P:Program) (ops:List Oper) (A:Asn) (os:List Oper) (N:ρ->Exit->Act->World->Prop) (m:Option ρ):Prop:=GX (λr a w=>wpList P ops.toArray (N r) os a w) A m
def GE (A:Asn) (e:Exit) (Q:ρ->Exit->Act->World->Prop) (m:Option ρ):Prop:=GX (λr a w=>Q r e a w) A m
def GQ (P:Program) (ops:List Oper) (A:Asn) (os:List Oper) (N:ρ->Exit->Act->World->Prop) (m:Option ρ):Prop:=GX (λr a w=>wpQuiet P ops.toArray (Ext w) (λa'=>∀ w',Ext w w'->N r .normal a' w') os a) A m
def EH (ro:Option Nat) (P:Program) (y:Code) (Q:ρ->Exit->Act->World->Prop):ρ->Exit->Act->World->Prop:=λr=>Exit.then (wpM ro P y (Q r)) (Q r)
def blkQ (i:Nat) (Q:ρ->Exit->Act->World->Prop):ρ->Exit->Act->World->Prop:=λr=>Exit.inBlock i (Q r)
theorem WU {K:Act->World->Prop} {Q:Exit->Act->World->Prop} (h:∀ a w,¬ Q .outgrown a w):∀ a w,¬ Exit.then K Q .outgrown a w:=h
theorem WV {i:Nat} {Q:Exit->Act->World->Prop} (h:∀ a w,¬ Q .outgrown a w):∀ a w,¬ Exit.inBlock i Q .outgrown a w:=h
section
variable {Q:Exit->Act->World->Prop} {a:Act} {w:World}
theorem NO {c:Code} {Q':Exit->Act->World->Prop} (M:∀ e a w,Q e a w->Q' e a w) (h:wpM ro P c Q a w):wpM ro P c Q' a w:=by
 cases ro with
 | none=>exact Code.wp_mono M h
 | some l=>exact λO=>wpIn_mono (h (λa w hh=>O a w (M _ _ _ hh))) M
theorem NP {x y:Code} (h:wpM ro P x (Exit.then (wpM ro P y Q) Q) a w):wpM ro P (.seq x y) Q a w:=by
 cases ro with
 | none=>exact wp_seq h
 | some l=>exact λM=>wpIn_seq (wpIn_mono (h (WU M)) (λe a w hh=>by cases e <;> first | exact hh M | exact hh))
theorem WW {i:Nat} {x:Code} (h:wpM ro P x (Exit.inBlock i Q) a w):wpM ro P (.block i x) Q a w:=by
 cases ro with
 | none=>exact wp_block h
 | some l=>exact λM=>wpIn_block (h (WV M))
theorem WX (h:Q .normal a w):wpM ro P .skip Q a w:=by
 cases ro with
 | none=>exact wp_skip h
 | some l=>exact λ_=>wpIn_skip h
theorem WY {i:Nat} (h:Q (.exit i) a w):wpM ro P (.exit i) Q a w:=by
 cases ro with
 | none=>exact wp_exit h
 | some l=>exact λ_=>wpIn_exit h
theorem WZ (h:Q .ret a w):wpM ro P .ret Q a w:=by
 cases ro with
 | none=>exact wp_ret h
 | some l=>exact λ_=>wpIn_ret h
theorem QM {c:Operand} {x y:Code} (M:a.eval c=.bool true) (h:wpM ro P x Q a w):wpM ro P (.cond c x y) Q a w:=by
 cases ro with
 | none=>exact wp_cond_true M h
 | some l=>exact λO=>wpIn_cond_true M (h O)
theorem QN {c:Operand} {x y:Code} (M:a.eval c=.bool false) (h:wpM ro P y Q a w):wpM ro P (.cond c x y) Q a w:=by
 cases ro with
 | none=>exact wp_cond_false M h
 | some l=>exact λO=>wpIn_cond_false M (h O)
def EI (os:List Oper):Bool:=os.all λo=>match o.op with
 | .defer _=>false
 | _=>true
theorem QO {l:Nat} {o:Oper} {next:Act->World->Prop} (hd:∀ c,o.op≠.defer c) (h:o.wp P a w next Q):o.wpIn (Fence.wide.inRound l) 0 P a w next Q:=by
 refine⟨λ_ _=>trivial,?_⟩;have e:o.semAt (Fence.wide.inRound l).round a.eval=execOp a.eval o:=Oper.semAt_some l _ o hd;rw[e];unfold Oper.wp at h;generalize (execOp a.eval o).run P w=r at h ⊢
 cases r with
 | ok x w' =>
  cases x with
  | enter f args =>
   refine⟨λhh=>(by cases hh),CallsIn.inRound l (callsIn_wide.2 ?_)⟩;have h:Calls P f args w' _:=h;refine h.mono ?_;intro e w'' M
   cases e <;> exact M
  | row r args=>exact⟨λhh=>(by cases hh), λc cs _=>let ⟨v,w'',r,st⟩:=h c cs; ⟨v,w'',r,stepsIn_wide.2 st⟩⟩
  | round l f tmps assign body=>exact False.elim h
  | value v=>exact h
  | skip=>exact h
  | defer d=>exact h
  | _=>exact False.elim h
 | halt x w'=>cases x <;> exact h
theorem NQ {l:Nat} {ops:Array Oper} (O:∀ a w,¬ Q .outgrown a w):∀ (os:List Oper) (a:Act) (w:World),EI os=true->wpList P ops Q os a w->wpListIn (Fence.wide.inRound l) 0 P ops Q os a w
 | [],_,_,_,h=>h
 | o::os,a,w,hd,h=>by
  unfold EI at hd;simp only[List.all_cons,Bool.and_eq_true] at hd;have M:EI os=true:=hd.2;have U:∀ c,o.op≠.defer c:=λc e=>by rw[e] at hd; exact absurd hd.1 (by simp)
  unfold wpList at h;unfold wpListIn;by_cases hw:Region.wanted o (yielded ops a.tmps)=true
  ·rw[if_pos hw] at h ⊢;rcases h with h | ⟨-,a',w',hh⟩
   ·exact Oper.wpIn_mono (λa w=>NQ O os a w M) (QO U h)
   ·exact absurd hh (O _ _)
  ·rw[if_neg hw] at h ⊢;exact⟨λ_ _=>trivial,NQ O os _ w M h⟩
theorem X0 {id:Nat} {os:List Oper} (hd:EI os=true) (h:wpList P os.toArray Q os a w):wpM ro P (.region id os.toArray false) Q a w:=by
 cases ro with
 | none=>exact wp_region_lit h
 | some l=>exact λM=>wpIn_region_lit (NQ M os a w hd h)
theorem Lg {l:Nat} {md:Region.Mode} {ops:Array Oper} (M:∀ a w,¬ Q .outgrown a w) (hd:EI ops.toList=true):∀ (fuel:Nat) (listed:Array Bool) (a:Act) (w:World),wpAny P md ops Q fuel listed a w->wpAnyIn (Fence.wide.inRound l) 0 P md ops Q fuel listed a w
 | 0,_,_,_,h=>h
 | fuel+1,listed,a,w,h=>by
  refine⟨h.1, λi hi=>?_⟩;have h2:=h.2 i hi;unfold wpOp at h2;unfold wpOpIn
  cases O:ops[i]? with
  | none=>rw[O] at h2; exact Lg M hd fuel _ a w h2
  | some o =>
   rw[O] at h2;have U:o∈ops.toList:=by
    have:=Array.mem_of_getElem? O
    simpa using this
   have a1:∀ c,o.op≠.defer c:=λc e=>by
    have:=List.all_eq_true.1 hd o U
    rw[e] at this; exact absurd this (by simp)
   simp only at h2 ⊢;by_cases hw:Region.wanted o (yielded ops a.tmps)=true
   ·rw[if_pos hw] at h2 ⊢;rcases h2 with h2 | ⟨-,a',w',hh⟩
    ·exact Oper.wpIn_mono (λa w=>Lg M hd fuel _ a w) (QO a1 h2)
    ·exact absurd hh (M _ _)
   ·rw[if_neg hw] at h2 ⊢;exact⟨λ_ _=>trivial,Lg M hd fuel _ _ w h2⟩
theorem NR {id:Nat} {ops:Array Oper} (M:P.follows .mixedOrders=true) (hd:EI ops.toList=true) (h:wpAny P .any ops Q ops.size (Array.replicate ops.size false) a { w with drawn:=w.drawn+1 }):wpM ro P (.region id ops true) Q a w:=by
 cases ro with
 | none=>exact wp_region_any M h
 | some l=>exact λO=>wpIn_region_any M (Lg O hd _ _ _ _ h)
end
theorem A9 {x y:Code} (h:G ro P A x (EH ro P y Q) m):G ro P A (.seq x y) Q m:=λa w M r O=>NP (h a w M r O)
theorem Al {id:Nat} {os:List Oper} (h:GL P os A os Q m) (hd:EI os=true:=by rfl):G ro P A (.region id os.toArray false) Q m:=λa w M r O=>X0 hd (h a w M r O)
theorem A0 {y:Code} {id:Nat} {os:List Oper} (h:GL P os A os (EH ro P y Q) m) (hd:EI os=true:=by rfl):G ro P A (.seq (.region id os.toArray false) y) Q m:=A9 (Al h hd)
theorem Ah {ops:List Oper} (h:GE A .normal Q m):GL P ops A [] Q m:=λa w M r O=>h a w M r O
theorem AD {i:Nat} {x:Code} (h:G ro P A x (blkQ i Q) m):G ro P A (.block i x) Q m:=λa w M r O=>WW (h a w M r O)
theorem AU (h:GE A .normal Q m):G ro P A .skip Q m:=λa w M r O=>WX (h a w M r O)
theorem AF {i:Nat} (h:GE A (.exit i) Q m):G ro P A (.exit i) Q m:=λa w M r O=>WY (h a w M r O)
theorem A5 (h:GE A .ret Q m):G ro P A .ret Q m:=λa w M r O=>WZ (h a w M r O)
theorem Ak {y:Code} (h:G ro P A y Q m):GE A .normal (EH ro P y Q) m:=h
theorem Zt {y:Code} (h:G ro P A y Q m):G ro P A .skip (EH ro P y Q) m:=AU (Ak h)
theorem Zn {ops:List Oper} {y:Code} (h:G ro P A y Q m):GL P ops A [] (EH ro P y Q) m:=Ah (Ak h)
theorem Ap {y:Code} (h:GE A .ret Q m):GE A .ret (EH ro P y Q) m:=h
theorem AG {y:Code} {i:Nat} (h:GE A (.exit i) Q m):GE A (.exit i) (EH ro P y Q) m:=h
theorem Au {i:Nat} (h:GE A .normal Q m):GE A .normal (blkQ i Q) m:=h
theorem B7 {i:Nat} (h:GE A .ret Q m):GE A .ret (blkQ i Q) m:=h
theorem QP {i:Nat} (h:GE A .normal Q m):GE A (.exit i) (blkQ i Q) m:=λa w M r O=>by
 have:=h a w M r O; unfold blkQ; simp[Exit.inBlock,this]
theorem X1 {i j:Nat} (M:Nat.beq j i=false) (h:GE A (.exit j) Q m):GE A (.exit j) (blkQ i Q) m:=λa w O r U=>by
 have:=h a w O r U; unfold blkQ; simp[Exit.inBlock,Nat.ne_of_beq_eq_false M,this]
end
section
variable {ρ:Type} {P:Program} {Γ:Ctx} {l:AQ} {res:Res} {Q:ρ->Exit->Act->World->Prop} {m m1 m2:Option ρ} {os rest:List Oper} {N:ρ->Exit->Act->World->Prop}
def cstE:Value->Option Ent
 | .bool b=>some (.rd Ai b)
 | .string s=>some (.rd CB s.data.toList)
 | .int .i64 n=>some (.rd A2 n)
 | .int .i32 n=>some (.rd i32R n)
 | .int .u8 (.ofNat n)=>bif Nat.blt n 256 then some (.rd u8R (UInt8.ofNat n)) else none
 | .int .u32 (.ofNat n)=>bif Nat.blt n 4294967296 then some (.rd Aa (UInt32.ofNat n)) else none
 | .int .u64 (.ofNat n)=>bif Nat.blt n 18446744073709551616 then some (.rd Ao (UInt64.ofNat n)) else none
 | v=>bif v.oneCell' then some (.val v) else none
theorem X2 {v:Value} {e:Ent} (h:cstE v=some e) (S:Blk) (w:World):e.holds S w v:=by
 unfold cstE at h
 split at h
 ·cases h; exact⟨_,rfl,rfl⟩
 ·cases h; exact⟨_,⟨_,rfl,rfl⟩,rfl⟩
 ·cases h; exact⟨_,rfl,rfl⟩
 ·cases h; exact⟨_,rfl,rfl⟩
 ·rename_i n
  cases hb:Nat.blt n 256 with
  | false=>rw[hb] at h; cases h
  | true =>
   rw[hb] at h; cases h
   have:n<256:=Eq.mp Nat.blt_eq hb
   refine⟨_,rfl,?_⟩;simp[Rep.val,u8R,Bm]; omega
 ·rename_i n
  cases hb:Nat.blt n 4294967296 with
  | false=>rw[hb] at h; cases h
  | true =>
   rw[hb] at h; cases h
   have:n<4294967296:=Eq.mp Nat.blt_eq hb
   refine⟨_,rfl,?_⟩;simp[Rep.val,Aa,Bm]; omega
 ·rename_i n
  cases hb:Nat.blt n 18446744073709551616 with
  | false=>rw[hb] at h; cases h
  | true =>
   rw[hb] at h; cases h
   have:n<18446744073709551616:=Eq.mp Nat.blt_eq hb
   refine⟨_,rfl,?_⟩;simp[Rep.val,Ao,Bm]; omega
 ·skip
  cases hb:v.oneCell' with
  | false=>rw[hb] at h; cases h
  | true=>rw[hb] at h; cases h; exact⟨rfl,hb⟩
def opE (l:AQ):Operand->Option Ent
 | .tmp t=>lk l t
 | .const v=>cstE v
 | .global g=>some (.val (.pointer (some ⟨g,0,none⟩)))
 | .func f=>some (.val (.func (.func f) #[] #[]))
theorem Sta.ev {a:Act} {w:World} (h:Sta Γ l res a w) {x:Operand} {e:Ent} (M:opE l x=some e):∃ fl v,Frm Γ.n fl { a with defers:=[] }/\opv fl x=some v/\e.holds (Shr Γ.H res w) w v:=by
 cases x with
 | tmp t=>obtain⟨v,h1,h2,h3⟩:=h.slot M; exact⟨_,v,h2,h1,h3⟩
 | const v=>exact⟨[],v,h.frm,rfl,X2 M _ _⟩
 | global g=>cases M; exact⟨[],_,h.frm,rfl,rfl,rfl⟩
 | func f=>cases M; exact⟨[],_,h.frm,rfl,rfl,rfl⟩
theorem Sta.vl {a:Act} {w:World} (h:Sta Γ l res a w) {x:Operand} {e:Ent} (M:opE l x=some e):e.holds (Shr Γ.H res w) w (a.eval x):=by
 obtain⟨fl,v,f,h1,h2⟩:=h.ev M;have e:a.eval x=v:=(show a.eval x=({ a with defers:=[] }:Act).eval x by cases x <;> rfl).trans (f.ev h1)
 rw[e]; exact h2
theorem gIf {c:Operand} {t:Nat} {x y:Code} {b:Bool} (hc:c=.tmp t) (hb:lk l t=some (.rd Ai b)) (ht:b=true->G ro P (Sta Γ ((t,.rd Ai true)::l) res) x Q m1) (hf:b=false->G ro P (Sta Γ ((t,.rd Ai false)::l) res) y Q m2) :
  G ro P (Sta Γ l res) (.cond c x y) Q (if b then m1 else m2):=by
 subst hc;intro a w O r U;obtain⟨cs,h1,h2⟩:=O.vl (x:=.tmp t) hb;have h1:cs=[.bool b]:=h1;subst h1;have keep:∀ b',b=b'->Sta Γ ((t,.rd Ai b')::l) res a w:=λb' e=>by
  subst e;refine { O with slots:=λt' e' M=>?_ };rw[C4] at M
  split at M
  ·rename_i hh; subst hh; cases M; exact O.slots t _ hb
  ·exact O.slots t' e' M
 cases b with
 | true=>exact QM h2 (ht rfl a w (keep _ rfl) r (by simpa using U))
 | false=>exact QN h2 (hf rfl a w (keep _ rfl) r (by simpa using U))
theorem Dm {c:Operand} {x y:Code} (hb:opE l c=some (.rd Ai true)) (h:G ro P (Sta Γ l res) x Q m):G ro P (Sta Γ l res) (.cond c x y) Q m:=λa w M r O=>by
 obtain⟨cs,h1,h2⟩:=M.vl hb;have h1:cs=[.bool true]:=h1;subst h1;exact QM h2 (h a w M r O)
theorem DL {c:Operand} {x y:Code} (hb:opE l c=some (.rd Ai false)) (h:G ro P (Sta Γ l res) y Q m):G ro P (Sta Γ l res) (.cond c x y) Q m:=λa w M r O=>by
 obtain⟨cs,h1,h2⟩:=M.vl hb;have h1:cs=[.bool false]:=h1;subst h1;exact QN h2 (h a w M r O)
theorem Sta.known {a:Act} {w:World} {t:Nat} {b b':Bool} (O:Sta Γ l res a w) (hb:lk l t=some (.rd Ai b)) (e:b=b'):Sta Γ ((t,.rd Ai b')::l) res a w:=by
 subst e;refine { O with slots:=λt' e' M=>?_ };rw[C4] at M
 split at M
 ·rename_i hh; subst hh; cases M; exact O.slots t _ hb
 ·exact O.slots t' e' M
section
variable {X:ρ->Act->World->Prop}
theorem xIf (t:Nat) {b:Bool} (hb:lk l t=some (.rd Ai b)) (U:b=true->GX X (Sta Γ ((t,.rd Ai true)::l) res) m1) (hf:b=false->GX X (Sta Γ ((t,.rd Ai false)::l) res) m2) :
  GX X (Sta Γ l res) (if b then m1 else m2):=by
 intro a w M r O
 cases b with
 | true=>exact U rfl a w (M.known hb rfl) r (by simpa using O)
 | false=>exact hf rfl a w (M.known hb rfl) r (by simpa using O)
theorem NS {α:Type} {R:Rep α} {x:α} {k:α->Option ρ} (t:Nat) (U:lk l t=some (.rd R x)) (h:∀ y,GX X (Sta Γ ((t,.rd R y)::l) res) (k y)):GX X (Sta Γ l res) (some x >>= k):=by
 intro a w O r hr;refine h x a w ?_ r hr;refine { O with slots:=λt' e' M=>?_ };rw[C4] at M
 split at M
 ·rename_i hh; subst hh; cases M; exact O.slots t _ U
 ·exact O.slots t' e' M
theorem NT {σ:Type} {A:Asn} {m:Option σ} {k:σ->Option ρ} (h:∀ s,m=some s->GX X A (k s)):GX X A (m >>= k):=λa w U r M=>by
 cases O:m with
 | none=>rw[O] at M; cases M
 | some s=>rw[O] at M; exact h s O a w U r M
theorem xEx {ι:Type} {A:ι->Asn} (h:∀ i,GX X (A i) m):GX X (λa w=>∃ i,A i a w) m:=λa w ⟨i,M⟩ r O=>h i a w M r O
end
def Run (C:World->World->Prop) (P:Program) (Γ:Ctx) (l:AQ) (res:Res) (o:Oper) (e:Ent):Prop :=
 ∀ a w,Sta Γ l res a w->∃ v,(∀ w',C w w'->(execOp a.eval o).run P w'=.ok (.value v) w')/\e.holds (Shr Γ.H res w) w v
abbrev AnyW:World->World->Prop:=λ_ _=>True
theorem Sta.yield {a:Act} {w:World} (M:Sta Γ l res a w) {j t:Nat} {b:Bool} (O:(os.toArray[j]?).bind (·.dst)=some t) (hl:lk l t=some (.rd Ai b)):yielded os.toArray a.tmps j=some b:=by
 obtain⟨v,h1,cs,h2,h3⟩:=M.slots t _ hl;have h2:cs=[.bool b]:=h2;subst h2;have h3:v=.bool b:=h3;subst h3;unfold yielded;rw[O];simp[h1]
def Grd (os:List Oper) (l:AQ) (o:Oper) (yes:Bool):Prop:=match o.guard with
 | none=>yes=true
 | some (j,b)=>∃ t,(os.toArray[j]?).bind (·.dst)=some t/\((∃ b',lk l t=some (.rd Ai b')/\yes=(b'==b))\/(lk l t=some .un/\yes=false))
theorem Grd.wanted {a:Act} {w:World} {o:Oper} {yes:Bool} (h:Grd os l o yes) (O:Sta Γ l res a w):Region.wanted o (yielded os.toArray a.tmps)=yes:=by
 unfold Grd at h;unfold Region.wanted
 cases U:o.guard with
 | none=>rw[U] at h; simp[h]
 | some x =>
  obtain⟨j,b⟩:=x;rw[U] at h;obtain⟨t,h1,⟨b',h2,h3⟩ | ⟨h2,h3⟩⟩:=h
  ·simp[O.yield h1 h2,h3]
  ·obtain⟨v,h4,M⟩:=O.slots t _ h2;have M:v=undef:=M;subst M; subst h3;have hy:yielded os.toArray a.tmps j=none:=by unfold yielded; rw[h1]; simp[h4,undef]
   simp[hy]
theorem gd0 {o:Oper} (h:o.guard=none):Grd os l o true:=by simp[Grd,h]
theorem gd {o:Oper} {j t:Nat} {b b' yes:Bool} (h:o.guard=some (j,b)) (M:(os.toArray[j]?).bind (·.dst)=some t) (hl:lk l t=some (.rd Ai b')) (O:(b'==b)=yes):Grd os l o yes:=by
 simp only[Grd,h]; exact⟨t,M,.inl ⟨b',hl,O.symm⟩⟩
theorem Zx {os:List Oper} {l:AQ} {o:Oper} {j t:Nat} {b b' yes:Bool} (h:o.guard=some (j,b):=by rfl) (M:(os.toArray[j]?).bind (·.dst)=some t:=by rfl) (hl:lk l t=some (.rd Ai b'):=by rfl) (O:(b'==b)=yes:=by rfl):Grd os l o yes:=gd h M hl O
theorem Ab {o:Oper} {d:Nat} {e:Ent} (g:Grd os l o true) (hd:o.dst=some d) (O:Nat.blt d Γ.n=true) (U:Run Eq P Γ l res o e)
  (k:GL P os (Sta Γ ((d,e)::l) res) rest N m):GL P os (Sta Γ l res) (o::rest) N m:=λa w M r hm=>by
 obtain⟨v,h1,h2⟩:=U a w M;refine st (g.wanted M) (h1 w rfl) ?_;rw[hd];exact k _ w (M.put O h2) r hm
theorem X3 {o:Oper} {d:Nat} (g:Grd os l o false) (hd:o.dst=some d) (O:Nat.blt d Γ.n=true)
  (k:GL P os (Sta Γ ((d,.un)::l) res) rest N m):GL P os (Sta Γ l res) (o::rest) N m:=λa w M r U=>by
 refine wpList_step λK hK=>?_;rw[if_neg (by simp[g.wanted M]),hd];exact hK _ _ (k _ w (M.put O rfl) r U)
theorem Zk {ρ:Type} {P:Program} {Γ:Ctx} {l:AQ} {res:Res} {m:Option ρ} {os rest:List Oper} {N:ρ->Exit->Act->World->Prop} {o:Oper} {d:Nat} (hd:o.dst=some d) (k:GL P os (Sta Γ ((d,.un)::l) res) rest N m) (g:Grd os l o false:=by exact gd rfl rfl rfl rfl) (M:Nat.blt d Γ.n=true:=by rfl):GL P os (Sta Γ l res) (o::rest) N m:=X3 g hd M k
theorem R {d:Nat} {op:Op} {ty:TypeId} {pos:String} {after:Array Edge} {e:Ent} (M:Nat.blt d Γ.n=true) (O:Run Eq P Γ l res ⟨some d,op,ty,pos,after,none⟩ e)
  (k:GL P os (Sta Γ ((d,e)::l) res) rest N m):GL P os (Sta Γ l res) (⟨some d,op,ty,pos,after,none⟩::rest) N m:=Ab (gd0 rfl) rfl M O k
theorem Zq {ρ:Type} {P:Program} {Γ:Ctx} {l:AQ} {res:Res} {m:Option ρ} {os rest:List Oper} {N:ρ->Exit->Act->World->Prop} {d:Nat} {ty:TypeId} {pos:String} {after:Array Edge} {e:Ent} {op:Op} (M:Run Eq P Γ l res ⟨some d,op,ty,pos,after,none⟩ e) (k:GL P os (Sta Γ ((d,e)::l) res) rest N m) (O:Nat.blt d Γ.n=true:=by rfl):GL P os (Sta Γ l res) (⟨some d,op,ty,pos,after,none⟩::rest) N m:=R O M k
def CW (res:Res) (ws:List Nat) (w w':World):Prop:=C5 (λb=>b<w.heap.size/\∀ r v c,ws.contains r=true->lr res r=some (v,c)->AM v≠some b) w w'
class LC (C:World->World->Prop) (res:Res) (ws:outParam (List Nat)):Prop where
 le:∀ {w w'},C w w'->CW res ws w w'
instance:LC Eq res []:=⟨λh=>by subst h; exact C5.rfl'⟩
instance:LC Ext res []:=⟨λh=>⟨h.os,h.tape,h.output,h.size, λb hb=>h.block b hb.1⟩⟩
instance {ws:List Nat}:LC (CW res ws) res ws:=⟨λh=>h⟩
theorem CW.at {C:World->World->Prop} {ws:List Nat} [LC C res ws] {a:Act} {w w':World} (h:C w w') (M:Sta Γ l res a w) {b:Nat} {r:Nat} {v:Value} {c:AK} (O:lr res r=some (v,c)) (hb:AM v=some b) (hn:ws.contains r=false):w'.heap[b]? = w.heap[b]? := by
 refine(LC.le (res:=res) (ws:=ws) h).block b ⟨(M.conts r v c O).lt hb, λr' v' c' h1 h2=>?_⟩;have U:r'≠r:=λe=>by subst e; rw[hn] at h1; cases h1
 exact λe=>M.excl r' v' c' r v c h2 O U b e hb
theorem CW.shr {C:World->World->Prop} {ws:List Nat} [LC C res ws] {H:Blk} {w w':World} (h:C w w') {b:Nat} (hb:Shr H res w b):w'.heap[b]? = w.heap[b]? :=
 (LC.le (res:=res) (ws:=ws) h).block b ⟨hb.1, λr v c _ h1=>hb.2.1 r v c h1⟩
theorem CW.stay {C:World->World->Prop} {ws:List Nat} [LC C res ws] {H:Blk} {w w':World} (h:C w w'):Bj (Shr H res w) (Shr H res w') w w':=λb hb =>
 ⟨⟨Nat.lt_of_lt_of_le hb.1 (LC.le (res:=res) (ws:=ws) h).size,hb.2⟩,CW.shr h hb⟩
theorem Dr {id:Nat} {A:Asn} {Q:ρ->Exit->Act->World->Prop} (O:P.follows .mixedOrders=true) (hB:Region.lexB .any os.toArray=true) (h:GQ P os A os Q m) (hd:EI os=true:=by rfl):G ro P A (.region id os.toArray true) Q m:=λa w U r hr=>by
 simp only[Region.lexB,Bool.and_eq_true] at hB;refine NR O (by simpa using hd) (wpAny_of_quiet (C:=Ext w) (Q:=λa'=>∀ w',Ext w w'->Q r .normal a' w') (λ_ w' M h=>h w' M) _ _ _ _ (Ext.rfl'.dr) ?_)
 have:=wpAnyQ_lex (C:=Ext w) (md:=.any) hB.1 os 0 (Array.replicate os.toArray.size false) a (by simp) (by simpa using hB.2) (h a w U r hr)
 simpa using this
theorem Ds {ops:List Oper} (h:GE (Sta Γ l res) .normal N m):GQ P ops (Sta Γ l res) [] N m:=λa w O r U w' M=>h a w' (O.ext M) r U
theorem qRun {o:Oper} {d:Nat} {e:Ent} (g:Grd os l o true) (hd:o.dst=some d) (O:Nat.blt d Γ.n=true) (U:Run Ext P Γ l res o e)
  (k:GQ P os (Sta Γ ((d,e)::l) res) rest N m):GQ P os (Sta Γ l res) (o::rest) N m:=λa w M r hm=>by
 obtain⟨v,h1,h2⟩:=U a w M;refine wpQuiet_step λK hK=>?_;rw[if_pos (g.wanted M)];refine⟨v, λw' h=>by unfold Oper.quietAt; rw[h1 w' h]; exact⟨rfl,rfl⟩,?_⟩;rw[hd];exact hK _ (k _ w (M.put O h2) r hm)
theorem Rq {d:Nat} {op:Op} {ty:TypeId} {pos:String} {after:Array Edge} {e:Ent} (M:Nat.blt d Γ.n=true) (O:Run Ext P Γ l res ⟨some d,op,ty,pos,after,none⟩ e)
  (k:GQ P os (Sta Γ ((d,e)::l) res) rest N m):GQ P os (Sta Γ l res) (⟨some d,op,ty,pos,after,none⟩::rest) N m:=qRun (gd0 rfl) rfl M O k
end
end
section
section
variable {P:Program} {ρ:Operand->Value} {w:World} {d:Tmp} {ty:TypeId} {pos:String} {after:Array Edge} {g:Option (Nat × Bool)}
theorem X4 {x : Operand} {v : Value}
    (M:ρ x=v)  :
    (execOp ρ ⟨some d,.move x,ty,pos,after,g⟩).run P w=.ok (.value (v)) w:=(by simp[execOp,M,pure])
theorem X5 {x : Operand} {v : Value}
    (M:ρ x=v)  :
    (execOp ρ ⟨some d,.assign x,ty,pos,after,g⟩).run P w=.ok (.value (v)) w:=(by simp[execOp,M,pure])
theorem QQ {op : BinOp} {x y : Operand} {T T' : TypeId} {k : IntKind} {m m' : Int} {v : Value}
    (O:ρ x=(.int k m)) (U:ρ y=(.int k m')) (M:CA op k m m'=some v) :
    (execOp ρ ⟨some d,.binOp op T x y T',ty,pos,after,g⟩).run P w=.ok (.value (v)) w:=(by
    have e1:=O;have e2:=U
    cases op <;> simp only[CA,Option.some.injEq,reduceCtorEq] at M <;> subst M <;>
      simp[execOp,e1,e2,eqGuard,binOp,Op.intArith,Op.intCmp,pure,bind,Sem.bind])
theorem X6 {x y : Operand} {T T' : TypeId} {k : IntKind} {m m' r : Int}
    (M:ρ x=(.int k m)) (O:ρ y=(.int k m')) (U:m'≠0) (hv:k.wrap (m.tdiv m')=r) :
    (execOp ρ ⟨some d,.binOp .quo T x y T',ty,pos,after,g⟩).run P w=.ok (.value (.int k r)) w:=(by
    subst hv
    simp[execOp,M,O,eqGuard,binOp,Op.intDiv,U,pure,bind,Sem.bind])
theorem X7 {x y : Operand} {T T' : TypeId} {k : IntKind} {m m' r : Int}
    (M:ρ x=(.int k m)) (O:ρ y=(.int k m')) (U:m'≠0) (hv:m.tmod m'=r) :
    (execOp ρ ⟨some d,.binOp .rem T x y T',ty,pos,after,g⟩).run P w=.ok (.value (.int k r)) w:=(by
    subst hv
    simp[execOp,M,O,eqGuard,binOp,Op.intDiv,U,pure,bind,Sem.bind])
theorem X8 {x y : Operand} {T T' : TypeId} {k k' : IntKind} {m m' r : Int}
    (M:ρ x=(.int k m)) (O:ρ y=(.int k' m')) (h0:0<=m') (U:k.wrap (m * 2 ^ (min m'.toNat k.bits))=r) :
    (execOp ρ ⟨some d,.binOp .shl T x y T',ty,pos,after,g⟩).run P w=.ok (.value (.int k r)) w:=(by
    subst U
    have:¬ m'<0:=by omega
    simp[execOp,M,O,eqGuard,binOp,Op.shift,this,pure,bind,Sem.bind])
theorem X9 {x y : Operand} {T T' : TypeId} {k k' : IntKind} {m m' r : Int}
    (M:ρ x=(.int k m)) (O:ρ y=(.int k' m')) (h0:0<=m') (U:m.fdiv (2 ^ (min m'.toNat k.bits))=r) :
    (execOp ρ ⟨some d,.binOp .shr T x y T',ty,pos,after,g⟩).run P w=.ok (.value (.int k r)) w:=(by
    subst U
    have:¬ m'<0:=by omega
    simp[execOp,M,O,eqGuard,binOp,Op.shift,this,pure,bind,Sem.bind])
theorem Xa {op : BinOp} {x y : Operand} {T T' : TypeId} {k : IntKind} {m m' r : Int}
    (M:NM op=true) (O:ρ x=(.int k m)) (U:ρ y=(.int k m')) (hv:Eh op k m m'=r) :
    (execOp ρ ⟨some d,.binOp op T x y T',ty,pos,after,g⟩).run P w=.ok (.value (.int k r)) w:=(by
    subst hv;have e1:=O;have e2:=U
    cases op <;> simp only[NM,reduceCtorEq,Bool.false_eq_true] at M <;>
      simp[execOp,e1,e2,eqGuard,binOp,Op.intBits,Eh,pure,bind,Sem.bind])
theorem Xb {x y : Operand} {T T' : TypeId} {b b' : Bool}
    (hT:P.underlying T=some .bool) (M:ρ x=(.bool b)) (O:ρ y=(.bool b')) :
    (execOp ρ ⟨some d,.binOp .eql T x y T',ty,pos,after,g⟩).run P w=.ok (.value (.bool (b==b'))) w:=(Je (by rw[M,O]; rfl) (by rw[M,O]; exact WP hT))
theorem Xc {x y : Operand} {T T' : TypeId} {s s' : ByteArray}
    (M:ρ x=(.string s)) (O:ρ y=(.string s')) :
    (execOp ρ ⟨some d,.binOp .eql T x y T',ty,pos,after,g⟩).run P w=.ok (.value (.bool (s.toList==s'.toList))) w:=(Je (by rw[M,O]; rfl) (by rw[M,O]; rfl))
theorem Xd {x : Operand} {T : TypeId} {b : Bool}
    (M:ρ x=(.bool b)) :
    (execOp ρ ⟨some d,.unOp .not T x,ty,pos,after,g⟩).run P w=.ok (.value (.bool (!b))) w:=(by simp[execOp,M,Op.unary,pure,bind,Sem.bind])
theorem Xe {x : Operand} {T : TypeId} {k : IntKind} {m r : Int}
    (M:ρ x=(.int k m)) (O:k.wrap (0 - m)=r) :
    (execOp ρ ⟨some d,.unOp .neg T x,ty,pos,after,g⟩).run P w=.ok (.value (.int k r)) w:=(by subst O; simp[execOp,M,Op.unary,Op.intArith,pure,bind,Sem.bind])
theorem Xf {x : Operand} {T : TypeId} {k : IntKind} {m r : Int}
    (M:ρ x=(.int k m)) (O:Eh .xor k (if k.signed then -1 else k.max) m=r) :
    (execOp ρ ⟨some d,.unOp .xor T x,ty,pos,after,g⟩).run P w=.ok (.value (.int k r)) w:=(by subst O; simp[execOp,M,Op.unary,Op.intBits,Eh,pure,bind,Sem.bind])
theorem QR {x y z : Operand} {b : Bool} {v u r : Value}
    (M:ρ x=(.bool b)) (O:ρ y=v) (U:ρ z=u) (hv:(if b then v else u)=r) :
    (execOp ρ ⟨some d,.pick x y z,ty,pos,after,g⟩).run P w=.ok (.value (r)) w:=(by subst hv; cases b <;> simp[execOp,M,O,U,asBool,pure,bind,Sem.bind])
theorem Xg {x : Operand} {S T : TypeId} {ds : TypeDesc} {k k' : IntKind} {m r : Int}
    (hS:P.underlying S=some ds) (hT:P.underlying T=some (.int k')) (M:ρ x=(.int k m)) (O:k'.wrap m=r) :
    (execOp ρ ⟨some d,.convert S T x,ty,pos,after,g⟩).run P w=.ok (.value (.int k' r)) w:=(by subst O; simp[execOp,M,convert,run_underlying hS,run_underlying hT,Conv.intToInt])
theorem Xh {x : Operand} {i : Nat} {vs : Array Value} {v : Value}
    (M:ρ x=(.tuple vs)) (O:vs[i]? = some v) :
    (execOp ρ ⟨some d,.extract x i,ty,pos,after,g⟩).run P w=.ok (.value (v)) w:=(by simp[execOp,M,Instr.extract,O,pure,bind,Sem.bind])
theorem QS {x : Operand} {T : TypeId} {at_ : Array TypeId} {e : TypeId} {p : Option Addr} {m cp : Nat}
    (M:at_[0]? = some T) (hT:P.underlying T=some (.slice e)) (O:ρ x=(.slice p m cp)) :
    (execOp ρ ⟨some d,.call ⟨.builtin .len,#[x],at_⟩,ty,pos,after,g⟩).run P w=.ok (.value (.int .i64 m)) w:=(by simp[execOp,resolve,invoke,builtin,O,Builtin.len_,M,run_underlying hT,goInt])
theorem Xi {x : Operand} {T : TypeId} {at_ : Array TypeId} {s : ByteArray}
    (M:at_[0]? = some T) (hT:P.underlying T=some .string) (O:ρ x=(.string s)) :
    (execOp ρ ⟨some d,.call ⟨.builtin .len,#[x],at_⟩,ty,pos,after,g⟩).run P w=.ok (.value (.int .i64 s.size)) w:=(by simp[execOp,resolve,invoke,builtin,O,Builtin.len_,M,run_underlying hT,goInt])
theorem Xj {x y : Operand} {at_ : Array TypeId} {k : IntKind} {m m' : Int}
    (M:ρ x=(.int k m)) (O:ρ y=(.int k m')) :
    (execOp ρ ⟨some d,.call ⟨.builtin .min,#[x,y],at_⟩,ty,pos,after,g⟩).run P w=.ok (.value (.int k (if m'<m then m' else m))) w:=(by simp[execOp,resolve,invoke,builtin,M,O,Builtin.min_,Builtin.min2,pure,bind,Sem.bind])
theorem Xk {x y : Operand} {at_ : Array TypeId} {k : IntKind} {m m' : Int}
    (M:ρ x=(.int k m)) (O:ρ y=(.int k m')) :
    (execOp ρ ⟨some d,.call ⟨.builtin .max,#[x,y],at_⟩,ty,pos,after,g⟩).run P w=.ok (.value (.int k (if m<m' then m' else m))) w:=(by simp[execOp,resolve,invoke,builtin,M,O,Builtin.max_,Builtin.max2,pure,bind,Sem.bind])
theorem Xl {x i : Operand} {T : TypeId} {s : ByteArray} {k : IntKind} {m : Int} {c0 : UInt8}
    (hT:P.underlying T=some .string) (M:ρ x=(.string s)) (hi:ρ i=(.int k m)) (O:0<=m) (U:s[m.toNat]? = some c0) :
    (execOp ρ ⟨some d,.index T x i,ty,pos,after,g⟩).run P w=.ok (.value (.int .u8 c0.toNat)) w:=(by simp[execOp,M,hi,Instr.index,asIntOf,run_underlying hT,O,U])
theorem Xm {fn : Fn} {first captured : Array Operand} {M O : Array Value}
    (h1:first.map ρ=M) (h2:captured.map ρ=O) :
    (execOp ρ ⟨some d,.makeFunc fn first captured,ty,pos,after,g⟩).run P w=.ok (.value (.func fn M O)) w:=(by simp[execOp,Instr.makeFunc,h1,h2,pure,bind,Sem.bind])
theorem Xn {t : TypeId} {x : Operand} {p : Addr} {v : Value}
     (hT:Sc P t)
    (M:ρ x=(.pointer (some p))) (O:w.cell? p=some v) :
    (execOp ρ ⟨some d,.load t x,ty,pos,after,g⟩).run P w=.ok (.value (v)) w:=(by simp[execOp,M,Instr.loadAt,Instr.sureAddr,Le hT O])
theorem NU {S : TypeId} {x : Operand} {i : Nat} {p q : Addr} {fs : Array Field} {fd : Field} {z : Value} {sz by_ : Nat}
    (hS:P.underlying S=some (.struct fs)) (hi:fs[i]? = some fd) (hF:TI P fd.type z (sz+1) by_) (M:ρ x=(.pointer (some p))) (O:p.add fd.offset=q) :
    (execOp ρ ⟨some d,.fieldAddr S x i,ty,pos,after,g⟩).run P w=.ok (.value (.pointer (some q))) w:=(by subst O; simp[execOp,M,Instr.fieldAt,Instr.sureAddr,run_underlying hS,hi,fieldPlace,D9 hF])
theorem NW {T e : TypeId} {x y : Operand} {b o m sz by_ : Nat} {k : IntKind} {i : Int} {z : Value} {j q : Nat}
    (hT:P.underlying T=some (.array m e)) (hE:TI P e z sz by_) (O:ρ x=(.pointer (some ⟨b,o,none⟩))) (U:ρ y=(.int k i)) (M:i=(j:Int)) (hj:j<m) (hq:o+j * sz=q) :
    (execOp ρ ⟨some d,.indexAddr T x y,ty,pos,after,g⟩).run P w=.ok (.value (.pointer (some ⟨b,q,none⟩))) w:=(by
    subst M; subst hq
    simp[execOp,O,U,Instr.indexAt,Instr.sureAddr,asIntOf,run_underlying hT,hj,D9 hE,D8])
theorem Xo {T T' e : TypeId} {x y : Operand} {p : Option Addr} {k c : Nat}
    (hT:P.underlying T=some (.slice e)) (M:ρ x=(.slice p k c)) (O:ρ y=(.slice none 0 0)) :
    (execOp ρ ⟨some d,.binOp .eql T x y T',ty,pos,after,g⟩).run P w=.ok (.value (.bool (decide (p=none)))) w:=(Je (by rw[M,O]; rfl) (by rw[M,O]; exact WT hT))
theorem Lh {t : TypeId} {parts : Array (Nat × Operand)} {vs : Array (Nat × Value)} {v : Value}
    (M:(parts.map λ(i,x)=>(i,ρ x))=vs) (O:(Instr.build t vs).run P w=.ok v w) :
    (execOp ρ ⟨some d,.build t parts,ty,pos,after,g⟩).run P w=.ok (.value v) w:=by
  subst M;simp only[execOp,Sem.run_bind,O,Result.andThen,Sem.run_pure]
end
end
section
def w64 (x:Int):Int:=IntKind.i64.wrap x
theorem Jg {x:Int} (h1:-9223372036854775808<=x) (h2:x<=9223372036854775807):w64 x=x:=by
 unfold w64; simp[IntKind.wrap,IntKind.signed,IntKind.bits]; omega
theorem QT (a b:UInt8):((a.toNat:Int)==(b.toNat:Int))=(a==b):=by
 rw[Bool.eq_iff_iff,beq_iff_eq,beq_iff_eq,<- UInt8.toNat_inj]; omega
theorem Xp (a:Int):IntKind.u8.wrap a=((UInt8.ofInt a).toNat:Int):=by
 unfold UInt8.ofInt;simp only[IntKind.wrap,IntKind.signed,IntKind.bits]; simp; omega
theorem QU (a b:UInt32):((a.toNat:Int)==(b.toNat:Int))=(a==b):=by
 rw[Bool.eq_iff_iff,beq_iff_eq,beq_iff_eq,<- UInt32.toNat_inj]; omega
theorem H6 (a:UInt32):BitVec.ofInt 32 (a.toNat:Int)=a.toBitVec:=by apply BitVec.eq_of_toNat_eq; simp
theorem Li (x:BitVec 32):IntKind.u32.wrap (x.toNat:Int)=(x.toNat:Int):=by have:=x.isLt; simp only[IntKind.wrap,IntKind.signed,IntKind.bits]; simp; omega
theorem Xq (a b:UInt32):Eh .and .u32 (a.toNat:Int) (b.toNat:Int)=((a &&& b).toNat:Int):=by
 show IntKind.u32.wrap (BitVec.toNat (BitVec.ofInt 32 (a.toNat:Int) &&& BitVec.ofInt 32 (b.toNat:Int)):Int)=_;rw[H6,H6,Li]; rfl
theorem Xr (a b:UInt32):Eh .or .u32 (a.toNat:Int) (b.toNat:Int)=((a ||| b).toNat:Int):=by
 show IntKind.u32.wrap (BitVec.toNat (BitVec.ofInt 32 (a.toNat:Int) ||| BitVec.ofInt 32 (b.toNat:Int)):Int)=_;rw[H6,H6,Li]; rfl
theorem Xs (a b:UInt32):Eh .xor .u32 (a.toNat:Int) (b.toNat:Int)=((a ^^^ b).toNat:Int):=by
 show IntKind.u32.wrap (BitVec.toNat (BitVec.ofInt 32 (a.toNat:Int) ^^^ BitVec.ofInt 32 (b.toNat:Int)):Int)=_;rw[H6,H6,Li]; rfl
theorem Xt (a:UInt32):Eh .xor .u32 (if IntKind.signed .u32 then -1 else IntKind.max .u32) (a.toNat:Int)=((~~~a).toNat:Int):=by
 show IntKind.u32.wrap (BitVec.toNat (BitVec.ofInt 32 (4294967295:Int) ^^^ BitVec.ofInt 32 (a.toNat:Int)):Int)=_;rw[H6,Li]
 have:BitVec.ofInt 32 (4294967295:Int)=BitVec.allOnes 32:=by decide
 rw[this,BitVec.allOnes_xor]; rfl
theorem QV (a b:UInt64):((a.toNat:Int)==(b.toNat:Int))=(a==b):=by
 rw[Bool.eq_iff_iff,beq_iff_eq,beq_iff_eq,<- UInt64.toNat_inj]; omega
theorem I2 (a:UInt64):BitVec.ofInt 64 (a.toNat:Int)=a.toBitVec:=by apply BitVec.eq_of_toNat_eq; simp
theorem NX (x:BitVec 64):IntKind.u64.wrap (x.toNat:Int)=(x.toNat:Int):=by have:=x.isLt; simp only[IntKind.wrap,IntKind.signed,IntKind.bits]; simp; omega
theorem Xu (a b:UInt64):Eh .and .u64 (a.toNat:Int) (b.toNat:Int)=((a &&& b).toNat:Int):=by
 show IntKind.u64.wrap (BitVec.toNat (BitVec.ofInt 64 (a.toNat:Int) &&& BitVec.ofInt 64 (b.toNat:Int)):Int)=_;rw[I2,I2,NX]; rfl
theorem Xv (a b:UInt64):Eh .or .u64 (a.toNat:Int) (b.toNat:Int)=((a ||| b).toNat:Int):=by
 show IntKind.u64.wrap (BitVec.toNat (BitVec.ofInt 64 (a.toNat:Int) ||| BitVec.ofInt 64 (b.toNat:Int)):Int)=_;rw[I2,I2,NX]; rfl
theorem Xw (a b:UInt64):Eh .xor .u64 (a.toNat:Int) (b.toNat:Int)=((a ^^^ b).toNat:Int):=by
 show IntKind.u64.wrap (BitVec.toNat (BitVec.ofInt 64 (a.toNat:Int) ^^^ BitVec.ofInt 64 (b.toNat:Int)):Int)=_;rw[I2,I2,NX]; rfl
theorem Xx (a:Int):IntKind.u64.wrap a=((UInt64.ofInt a).toNat:Int):=by
 unfold UInt64.ofInt;simp only[IntKind.wrap,IntKind.signed,IntKind.bits]; simp; omega
section
variable {C:World->World->Prop} {P:Program} {Γ:Ctx} {l:AQ} {res:Res} {d:Tmp} {ty:TypeId} {pos:String} {after:Array Edge} {g:Option (Nat × Bool)}
theorem Ca {α:Type} {k:IntKind} {f:α->Int} {x:α} {S:Blk} {w:World} {v:Value} (h:(Ent.rd (Bm k f) x).holds S w v):v=.int k (f x):=by
 obtain⟨cs,h1,h2⟩:=h; have h1:cs=[.int k (f x)]:=h1; subst h1; exact h2
theorem Dt {α:Type} {k:IntKind} {f:α->Int} {x:α} {S:Blk} {w:World}:(Ent.rd (Bm k f) x).holds S w (.int k (f x)):=⟨_,rfl,rfl⟩
theorem Jh {x:Bool} {S:Blk} {w:World} {v:Value} (h:(Ent.rd Ai x).holds S w v):v=.bool x:=by
 obtain⟨cs,h1,h2⟩:=h; have h1:cs=[.bool x]:=h1; subst h1; exact h2
theorem FM {x:Bool} {S:Blk} {w:World}:(Ent.rd Ai x).holds S w (.bool x):=⟨_,rfl,rfl⟩
theorem I3 {x:List UInt8} {S:Blk} {w:World} {v:Value} (h:(Ent.rd CB x).holds S w v):∃ s:ByteArray,v=.string s/\s.data.toList=x:=by
 obtain⟨cs,⟨s,h1,h3⟩,h2⟩:=h; subst h1; exact⟨s,h2,h3⟩
theorem mv {x:Operand} {e:Ent} (M:opE l x=some e):Run C P Γ l res ⟨some d,.move x,ty,pos,after,g⟩ e:=λa w O =>
 ⟨a.eval x, λw' _=>X4 rfl,O.vl M⟩
theorem asg {x:Operand} {e:Ent} (M:opE l x=some e):Run C P Γ l res ⟨some d,.assign x,ty,pos,after,g⟩ e:=λa w O =>
 ⟨a.eval x, λw' _=>X5 rfl,O.vl M⟩
theorem Zm {ρ:Type} {P:Program} {Γ:Ctx} {l:AQ} {res:Res} {m:Option ρ} {os rest:List Oper} {N:ρ->Exit->Act->World->Prop} {d:Nat} {ty:TypeId} {pos:String} {after:Array Edge} {e:Ent} {x:Operand} (M:opE l x=some e) (k:GL P os (Sta Γ ((d,e)::l) res) rest N m) (O:Nat.blt d Γ.n=true:=by rfl):GL P os (Sta Γ l res) (⟨some d,.move x,ty,pos,after,none⟩::rest) N m:=R O (mv M) k
theorem Za {ρ:Type} {P:Program} {Γ:Ctx} {l:AQ} {res:Res} {m:Option ρ} {os rest:List Oper} {N:ρ->Exit->Act->World->Prop} {d:Nat} {ty:TypeId} {pos:String} {after:Array Edge} {e:Ent} {x:Operand} (M:opE l x=some e) (k:GL P os (Sta Γ ((d,e)::l) res) rest N m) (O:Nat.blt d Γ.n=true:=by rfl):GL P os (Sta Γ l res) (⟨some d,.assign x,ty,pos,after,none⟩::rest) N m:=R O (asg M) k
theorem FN {α β γ:Type} {op:BinOp} {k M:IntKind} {f:α->Int} {O:β->Int} {h:γ->Int} {x y:Operand} {T T':TypeId} {a:α} {b:β} {c:γ} (hx:opE l x=some (.rd (Bm k f) a)) (hy:opE l y=some (.rd (Bm k O) b))
  (hv:CA op k (f a) (O b)=some (.int M (h c))):Run C P Γ l res ⟨some d,.binOp op T x y T',ty,pos,after,g⟩ (.rd (Bm M h) c):=λ_ w U =>
 ⟨_, λw' _=>QQ (Ca (U.vl hx)) (Ca (U.vl hy)) hv,Dt⟩
theorem CK {α β:Type} {op:BinOp} {k:IntKind} {f:α->Int} {M:β->Int} {x y:Operand} {T T':TypeId} {a:α} {b:β} {c:Bool} (U:opE l x=some (.rd (Bm k f) a)) (hy:opE l y=some (.rd (Bm k M) b))
  (hv:CA op k (f a) (M b)=some (.bool c)):Run C P Γ l res ⟨some d,.binOp op T x y T',ty,pos,after,g⟩ (.rd Ai c):=λ_ w O =>
 ⟨_, λw' _=>QQ (Ca (O.vl U)) (Ca (O.vl hy)) hv,FM⟩
theorem H7 {α γ:Type} {op:BinOp} {k:IntKind} {f:α->Int} {x y:Operand} {T T':TypeId} {a b c:α} (O:opE l x=some (.rd (Bm k f) a)) (U:opE l y=some (.rd (Bm k f) b))
  (ho:NM op=true) (hv:Eh op k (f a) (f b)=f c):Run C P Γ l res ⟨some d,.binOp op T x y T',ty,pos,after,g⟩ (.rd (Bm k f) c):=λ_ w M =>
 ⟨_, λw' _=>Xa ho (Ca (M.vl O)) (Ca (M.vl U)) hv,Dt⟩
theorem quoL {α:Type} {k:IntKind} {f:α->Int} {x y:Operand} {T T':TypeId} {a b c:α} (O:opE l x=some (.rd (Bm k f) a)) (U:opE l y=some (.rd (Bm k f) b))
  (h0:f b≠0) (hv:k.wrap ((f a).tdiv (f b))=f c):Run C P Γ l res ⟨some d,.binOp .quo T x y T',ty,pos,after,g⟩ (.rd (Bm k f) c):=λ_ w M =>
 ⟨_, λw' _=>X6 (Ca (M.vl O)) (Ca (M.vl U)) h0 hv,Dt⟩
theorem remL {α:Type} {k:IntKind} {f:α->Int} {x y:Operand} {T T':TypeId} {a b c:α} (O:opE l x=some (.rd (Bm k f) a)) (U:opE l y=some (.rd (Bm k f) b))
  (h0:f b≠0) (hv:(f a).tmod (f b)=f c):Run C P Γ l res ⟨some d,.binOp .rem T x y T',ty,pos,after,g⟩ (.rd (Bm k f) c):=λ_ w M =>
 ⟨_, λw' _=>X7 (Ca (M.vl O)) (Ca (M.vl U)) h0 hv,Dt⟩
theorem shlL {α β:Type} {k k':IntKind} {f:α->Int} {M:β->Int} {x y:Operand} {T T':TypeId} {a c:α} {b:β} (U:opE l x=some (.rd (Bm k f) a)) (hy:opE l y=some (.rd (Bm k' M) b))
  (h0:0<=M b) (hv:k.wrap (f a * 2 ^ (min (M b).toNat k.bits))=f c):Run C P Γ l res ⟨some d,.binOp .shl T x y T',ty,pos,after,g⟩ (.rd (Bm k f) c):=λ_ w O =>
 ⟨_, λw' _=>X8 (Ca (O.vl U)) (Ca (O.vl hy)) h0 hv,Dt⟩
theorem shrL {α β:Type} {k k':IntKind} {f:α->Int} {M:β->Int} {x y:Operand} {T T':TypeId} {a c:α} {b:β} (U:opE l x=some (.rd (Bm k f) a)) (hy:opE l y=some (.rd (Bm k' M) b))
  (h0:0<=M b) (hv:(f a).fdiv (2 ^ (min (M b).toNat k.bits))=f c):Run C P Γ l res ⟨some d,.binOp .shr T x y T',ty,pos,after,g⟩ (.rd (Bm k f) c):=λ_ w O =>
 ⟨_, λw' _=>X9 (Ca (O.vl U)) (Ca (O.vl hy)) h0 hv,Dt⟩
theorem Fp {α β:Type} {k k':IntKind} {f:α->Int} {M:β->Int} {x:Operand} {S T:TypeId} {ds:TypeDesc} {a:α} {b:β} (hS:P.underlying S=some ds) (hT:P.underlying T=some (.int k')) (O:opE l x=some (.rd (Bm k f) a))
  (U:k'.wrap (f a)=M b):Run C P Γ l res ⟨some d,.convert S T x,ty,pos,after,g⟩ (.rd (Bm k' M) b):=λ_ w ha =>
 ⟨_, λw' _=>Xg hS hT (Ca (ha.vl O)) U,Dt⟩
theorem negL {α:Type} {k:IntKind} {f:α->Int} {x:Operand} {T:TypeId} {a b:α} (M:opE l x=some (.rd (Bm k f) a))
  (O:k.wrap (0 - f a)=f b):Run C P Γ l res ⟨some d,.unOp .neg T x,ty,pos,after,g⟩ (.rd (Bm k f) b):=λ_ w U =>
 ⟨_, λw' _=>Xe (Ca (U.vl M)) O,Dt⟩
theorem cplL {α:Type} {k:IntKind} {f:α->Int} {x:Operand} {T:TypeId} {a b:α} (M:opE l x=some (.rd (Bm k f) a))
  (O:Eh .xor k (if k.signed then -1 else k.max) (f a)=f b):Run C P Γ l res ⟨some d,.unOp .xor T x,ty,pos,after,g⟩ (.rd (Bm k f) b):=λ_ w U =>
 ⟨_, λw' _=>Xf (Ca (U.vl M)) O,Dt⟩
theorem By {x:Operand} {T:TypeId} {b:Bool} (M:opE l x=some (.rd Ai b)):Run C P Γ l res ⟨some d,.unOp .not T x,ty,pos,after,g⟩ (.rd Ai (!b)):=λ_ w O =>
 ⟨_, λw' _=>Xd (Jh (O.vl M)),FM⟩
theorem eqB {x y:Operand} {T T':TypeId} {b c:Bool} (hT:P.underlying T=some .bool) (O:opE l x=some (.rd Ai b)) (U:opE l y=some (.rd Ai c)):Run C P Γ l res ⟨some d,.binOp .eql T x y T',ty,pos,after,g⟩ (.rd Ai (b==c)):=λ_ w M =>
 ⟨_, λw' _=>Xb hT (Jh (M.vl O)) (Jh (M.vl U)),FM⟩
theorem Lj (s:ByteArray):s.toList=s.data.toList:=by
 have key:∀ (n i:Nat) (r:List UInt8),s.size - i=n->ByteArray.toList.loop s i r=r.reverse++s.data.toList.drop i:=by
  intro n
  induction n with
  | zero =>
   intro i r h;unfold ByteArray.toList.loop
   have:¬ i<s.size:=by omega
   rw[if_neg this,List.drop_eq_nil_of_le (by simp only[Array.length_toList]; exact Nat.le_of_sub_eq_zero h),List.append_nil]
  | succ n M =>
   intro i r h;unfold ByteArray.toList.loop;have hi:i<s.size:=by omega
   rw[if_pos hi,M (i+1) _ (by omega)];have h1:i<s.data.toList.length:=by simpa using hi
   rw[List.drop_eq_getElem_cons h1];simp[ByteArray.get!,getElem!_pos,hi]
 simpa [ByteArray.toList] using key s.size 0 [] rfl
theorem eqS {x y:Operand} {T T':TypeId} {b c:List UInt8} (O:opE l x=some (.rd CB b)) (U:opE l y=some (.rd CB c)):Run C P Γ l res ⟨some d,.binOp .eql T x y T',ty,pos,after,g⟩ (.rd Ai (b==c)):=λ_ w M=>by
 obtain⟨s,h1,rfl⟩:=I3 (M.vl O);obtain⟨t,h2,rfl⟩:=I3 (M.vl U);exact⟨_, λw' _=>Xc h1 h2, by rw[Lj,Lj]; exact FM⟩
theorem pkT {x y z:Operand} {e:Ent} (O:opE l x=some (.rd Ai true)) (U:opE l y=some e):Run C P Γ l res ⟨some d,.pick x y z,ty,pos,after,g⟩ e:=λ_ w M =>
 ⟨_, λw' _=>QR (Jh (M.vl O)) rfl rfl rfl,M.vl U⟩
theorem pkF {x y z:Operand} {e:Ent} (O:opE l x=some (.rd Ai false)) (U:opE l z=some e):Run C P Γ l res ⟨some d,.pick x y z,ty,pos,after,g⟩ e:=λ_ w M =>
 ⟨_, λw' _=>QR (Jh (M.vl O)) rfl rfl rfl,M.vl U⟩
theorem mini {k:IntKind} {α:Type} {f:α->Int} {x y:Operand} {at_:Array TypeId} {a b c:α} (O:opE l x=some (.rd (Bm k f) a)) (U:opE l y=some (.rd (Bm k f) b)) (hv:(if f b<f a then f b else f a)=f c) :
  Run C P Γ l res ⟨some d,.call ⟨.builtin .min,#[x,y],at_⟩,ty,pos,after,g⟩ (.rd (Bm k f) c):=λ_ w M =>
 ⟨_, λw' _=>Xj (Ca (M.vl O)) (Ca (M.vl U)), by rw[hv]; exact Dt⟩
theorem maxi {k:IntKind} {α:Type} {f:α->Int} {x y:Operand} {at_:Array TypeId} {a b c:α} (O:opE l x=some (.rd (Bm k f) a)) (U:opE l y=some (.rd (Bm k f) b)) (hv:(if f a<f b then f b else f a)=f c) :
  Run C P Γ l res ⟨some d,.call ⟨.builtin .max,#[x,y],at_⟩,ty,pos,after,g⟩ (.rd (Bm k f) c):=λ_ w M =>
 ⟨_, λw' _=>Xk (Ca (M.vl O)) (Ca (M.vl U)), by rw[hv]; exact Dt⟩
theorem BI.get {S:Blk} {w:World}:∀ {es:List Ent} {vs:List Value} {i:Nat} {e:Ent},BI S w es vs->es[i]? = some e->∃ v,vs[i]? = some v/\e.holds S w v
 | [],[],i,e,_,h=>by simp at h
 | e0::es,v::vs,0,e,h,h'=>by simp at h'; subst h'; exact⟨v,rfl,h.1⟩
 | e0::es,v::vs,i+1,e,h,h'=>by simpa using BI.get h.2 (by simpa using h')
 | [],_::_,_,_,h,_=>h.elim
 | _::_,[],_,_,h,_=>h.elim
theorem ext {x:Operand} {i:Nat} {es:List Ent} {e:Ent} (M:opE l x=some (.tup es)) (hi:es[i]? = some e):Run C P Γ l res ⟨some d,.extract x i,ty,pos,after,g⟩ e:=λ_ w O=>by
 obtain⟨vs,h1,h2⟩:=O.vl M;obtain⟨v,h3,U⟩:=h1.get hi;exact⟨v, λw' _=>Xh h2 (by simpa using h3),U⟩
theorem lenT {x:Operand} {T:TypeId} {at_:Array TypeId} {b:List UInt8} (O:opE l x=some (.rd CB b)) (M:at_[0]? = some T) (hT:P.underlying T=some .string) :
  Run C P Γ l res ⟨some d,.call ⟨.builtin .len,#[x],at_⟩,ty,pos,after,g⟩ (.rd A2 (b.length:Int)):=λ_ w U=>by
 obtain⟨s,h1,rfl⟩:=I3 (U.vl O);exact⟨_, λw' _=>Xi M hT h1,Dt⟩
theorem mkf {fn:Fn} {first captured:Array Operand} {M O:Array Value} (h1:∀ a w,Sta Γ l res a w->first.map a.eval=M) (h2:∀ a w,Sta Γ l res a w->captured.map a.eval=O) :
  Run C P Γ l res ⟨some d,.makeFunc fn first captured,ty,pos,after,g⟩ (.val (.func fn M O)):=λa w U =>
 ⟨_, λw' _=>Xm (h1 a w U) (h2 a w U),rfl,rfl⟩
theorem mp0 (a:Act) (w:World) (ha:Sta Γ l res a w):(#[]:Array Operand).map a.eval = #[]:=by simp
theorem mp1 {x:Operand} {v:Value} (M:opE l x=some (.val v)) (a:Act) (w:World) (O:Sta Γ l res a w):(#[x]:Array Operand).map a.eval = #[v]:=by
 have h1:a.eval x=v:=(O.vl M).1;simp[h1]
theorem mp2 {x y:Operand} {v u:Value} (O:opE l x=some (.val v)) (U:opE l y=some (.val u)) (a:Act) (w:World) (M:Sta Γ l res a w):(#[x,y]:Array Operand).map a.eval = #[v,u]:=by
 have h1:a.eval x=v:=(M.vl O).1;have h2:a.eval y=u:=(M.vl U).1;simp[h1,h2]
theorem mp3 {x y z:Operand} {v u t:Value} (O:opE l x=some (.val v)) (U:opE l y=some (.val u)) (hz:opE l z=some (.val t)) (a:Act) (w:World) (M:Sta Γ l res a w):(#[x,y,z]:Array Operand).map a.eval = #[v,u,t]:=by
 have h1:a.eval x=v:=(M.vl O).1;have h2:a.eval y=u:=(M.vl U).1;have h3:a.eval z=t:=(M.vl hz).1;simp[h1,h2,h3]
theorem mp4 {x0 O U x3:Operand} {v0 v1 v2 v3:Value} (h0:opE l x0=some (.val v0)) (h1:opE l O=some (.val v1)) (h2:opE l U=some (.val v2)) (h3:opE l x3=some (.val v3)) (a:Act) (w:World) (M:Sta Γ l res a w):(#[x0,O,U,x3]:Array Operand).map a.eval = #[v0,v1,v2,v3]:=by
 simp[(M.vl h0).1,(M.vl h1).1,(M.vl h2).1,(M.vl h3).1]
theorem idxT {β:Type} {kk:IntKind} {f:β->Int} {x i:Operand} {T:TypeId} {b:List UInt8} {j:β} {c:UInt8} (hx:opE l x=some (.rd CB b)) (hi:opE l i=some (.rd (Bm kk f) j)) (hT:P.underlying T=some .string) (h0:0<=f j) (M:b[(f j).toNat]? = some c) :
  Run C P Γ l res ⟨some d,.index T x i,ty,pos,after,g⟩ (.rd u8R c):=λ_ w O=>by
 obtain⟨s,h1,rfl⟩:=I3 (O.vl hx);refine⟨_, λw' _=>Xl hT h1 (Ca (O.vl hi)) h0 (c0:=c) ?_,Dt⟩;have h4:(f j).toNat<s.data.toList.length:=(List.getElem?_eq_some_iff.1 M).1;have U:(f j).toNat<s.size:=by simpa using h4
 have:s[(f j).toNat]? = s.data[(f j).toNat]? := by
  rw[getElem?_pos s _ U,getElem?_pos s.data _ U]; rfl
 show s[(f j).toNat]? = some c;rw[this,<- M]; simp
theorem I.add {x y:Operand} {T T':TypeId} {a b:Int} (M:opE l x=some (.rd A2 a)) (O:opE l y=some (.rd A2 b)):Run C P Γ l res ⟨some d,.binOp .add T x y T',ty,pos,after,g⟩ (.rd A2 (w64 (a+b))):=FN M O rfl
theorem I.sub {x y:Operand} {T T':TypeId} {a b:Int} (M:opE l x=some (.rd A2 a)) (O:opE l y=some (.rd A2 b)):Run C P Γ l res ⟨some d,.binOp .sub T x y T',ty,pos,after,g⟩ (.rd A2 (w64 (a - b))):=FN M O rfl
theorem I.mul {x y:Operand} {T T':TypeId} {a b:Int} (M:opE l x=some (.rd A2 a)) (O:opE l y=some (.rd A2 b)):Run C P Γ l res ⟨some d,.binOp .mul T x y T',ty,pos,after,g⟩ (.rd A2 (w64 (a * b))):=FN M O rfl
theorem I.lss {x y:Operand} {T T':TypeId} {a b:Int} (M:opE l x=some (.rd A2 a)) (O:opE l y=some (.rd A2 b)):Run C P Γ l res ⟨some d,.binOp .lss T x y T',ty,pos,after,g⟩ (.rd Ai (decide (a<b))):=CK M O rfl
theorem I.leq {x y:Operand} {T T':TypeId} {a b:Int} (M:opE l x=some (.rd A2 a)) (O:opE l y=some (.rd A2 b)):Run C P Γ l res ⟨some d,.binOp .leq T x y T',ty,pos,after,g⟩ (.rd Ai (decide (a<=b))):=CK M O rfl
theorem I.gtr {x y:Operand} {T T':TypeId} {a b:Int} (M:opE l x=some (.rd A2 a)) (O:opE l y=some (.rd A2 b)):Run C P Γ l res ⟨some d,.binOp .gtr T x y T',ty,pos,after,g⟩ (.rd Ai (decide (b<a))):=CK M O rfl
theorem I.geq {x y:Operand} {T T':TypeId} {a b:Int} (M:opE l x=some (.rd A2 a)) (O:opE l y=some (.rd A2 b)):Run C P Γ l res ⟨some d,.binOp .geq T x y T',ty,pos,after,g⟩ (.rd Ai (decide (b<=a))):=CK M O rfl
theorem I.eql {x y:Operand} {T T':TypeId} {a b:Int} (M:opE l x=some (.rd A2 a)) (O:opE l y=some (.rd A2 b)):Run C P Γ l res ⟨some d,.binOp .eql T x y T',ty,pos,after,g⟩ (.rd Ai (a==b)):=CK M O rfl
theorem I.neq {x y:Operand} {T T':TypeId} {a b:Int} (M:opE l x=some (.rd A2 a)) (O:opE l y=some (.rd A2 b)):Run C P Γ l res ⟨some d,.binOp .neq T x y T',ty,pos,after,g⟩ (.rd Ai (a != b)):=CK M O rfl
theorem I.quo {x y:Operand} {T T':TypeId} {a b:Int} (M:opE l x=some (.rd A2 a)) (O:opE l y=some (.rd A2 b)) (U:b≠0):Run C P Γ l res ⟨some d,.binOp .quo T x y T',ty,pos,after,g⟩ (.rd A2 (w64 (a.tdiv b))):=quoL M O U rfl
theorem I.rem {x y:Operand} {T T':TypeId} {a b:Int} (M:opE l x=some (.rd A2 a)) (O:opE l y=some (.rd A2 b)) (U:b≠0):Run C P Γ l res ⟨some d,.binOp .rem T x y T',ty,pos,after,g⟩ (.rd A2 (a.tmod b)):=remL M O U rfl
theorem I.neg {x:Operand} {T:TypeId} {a:Int} (M:opE l x=some (.rd A2 a)):Run C P Γ l res ⟨some d,.unOp .neg T x,ty,pos,after,g⟩ (.rd A2 (w64 (0 - a))):=negL M rfl
theorem J.lss {x y:Operand} {T T':TypeId} {a b:Int} (M:opE l x=some (.rd i32R a)) (O:opE l y=some (.rd i32R b)):Run C P Γ l res ⟨some d,.binOp .lss T x y T',ty,pos,after,g⟩ (.rd Ai (decide (a<b))):=CK M O rfl
theorem J.gtr {x y:Operand} {T T':TypeId} {a b:Int} (M:opE l x=some (.rd i32R a)) (O:opE l y=some (.rd i32R b)):Run C P Γ l res ⟨some d,.binOp .gtr T x y T',ty,pos,after,g⟩ (.rd Ai (decide (b<a))):=CK M O rfl
theorem Xy {a b:Int}:(if b<a then b else a)=min a b:=by rw[Int.min_def]; split <;> split <;> omega
theorem Xz {a b:Int}:(if a<b then b else a)=max a b:=by rw[Int.max_def]; split <;> split <;> omega
theorem I.min {x y:Operand} {at_:Array TypeId} {a b:Int} (M:opE l x=some (.rd A2 a)) (O:opE l y=some (.rd A2 b)):Run C P Γ l res ⟨some d,.call ⟨.builtin .min,#[x,y],at_⟩,ty,pos,after,g⟩ (.rd A2 (min a b)):=mini M O Xy
theorem I.max {x y:Operand} {at_:Array TypeId} {a b:Int} (M:opE l x=some (.rd A2 a)) (O:opE l y=some (.rd A2 b)):Run C P Γ l res ⟨some d,.call ⟨.builtin .max,#[x,y],at_⟩,ty,pos,after,g⟩ (.rd A2 (max a b)):=maxi M O Xz
theorem B.lss {x y:Operand} {T T':TypeId} {a b:UInt8} (M:opE l x=some (.rd u8R a)) (O:opE l y=some (.rd u8R b)):Run C P Γ l res ⟨some d,.binOp .lss T x y T',ty,pos,after,g⟩ (.rd Ai (decide (a<b))):=CK M O (by simp only[CA,Option.some.injEq,Value.bool.injEq,decide_eq_decide]; simp[UInt8.lt_iff_toNat_lt,UInt8.le_iff_toNat_le])
theorem B.leq {x y:Operand} {T T':TypeId} {a b:UInt8} (M:opE l x=some (.rd u8R a)) (O:opE l y=some (.rd u8R b)):Run C P Γ l res ⟨some d,.binOp .leq T x y T',ty,pos,after,g⟩ (.rd Ai (decide (a<=b))):=CK M O (by simp only[CA,Option.some.injEq,Value.bool.injEq,decide_eq_decide]; simp[UInt8.lt_iff_toNat_lt,UInt8.le_iff_toNat_le])
theorem B.gtr {x y:Operand} {T T':TypeId} {a b:UInt8} (M:opE l x=some (.rd u8R a)) (O:opE l y=some (.rd u8R b)):Run C P Γ l res ⟨some d,.binOp .gtr T x y T',ty,pos,after,g⟩ (.rd Ai (decide (b<a))):=CK M O (by simp only[CA,Option.some.injEq,Value.bool.injEq,decide_eq_decide]; simp[UInt8.lt_iff_toNat_lt,UInt8.le_iff_toNat_le])
theorem B.geq {x y:Operand} {T T':TypeId} {a b:UInt8} (M:opE l x=some (.rd u8R a)) (O:opE l y=some (.rd u8R b)):Run C P Γ l res ⟨some d,.binOp .geq T x y T',ty,pos,after,g⟩ (.rd Ai (decide (b<=a))):=CK M O (by simp only[CA,Option.some.injEq,Value.bool.injEq,decide_eq_decide]; simp[UInt8.lt_iff_toNat_lt,UInt8.le_iff_toNat_le])
theorem B.eql {x y:Operand} {T T':TypeId} {a b:UInt8} (M:opE l x=some (.rd u8R a)) (O:opE l y=some (.rd u8R b)):Run C P Γ l res ⟨some d,.binOp .eql T x y T',ty,pos,after,g⟩ (.rd Ai (a==b)):=CK M O (by simp only[CA,QT])
theorem B.neq {x y:Operand} {T T':TypeId} {a b:UInt8} (M:opE l x=some (.rd u8R a)) (O:opE l y=some (.rd u8R b)):Run C P Γ l res ⟨some d,.binOp .neq T x y T',ty,pos,after,g⟩ (.rd Ai (a != b)):=CK M O (by simp only[CA,bne,QT])
theorem B.toI {x:Operand} {S T:TypeId} {ds:TypeDesc} {a:UInt8} (M:opE l x=some (.rd u8R a)) (hS:P.underlying S=some ds) (hT:P.underlying T=some (.int .i64)):Run C P Γ l res ⟨some d,.convert S T x,ty,pos,after,g⟩ (.rd A2 ((a.toNat:Int))):=Fp hS hT M (Jg (by omega) (by have:=UInt8.toNat_lt a; omega))
theorem I.toB {x:Operand} {S T:TypeId} {ds:TypeDesc} {a:Int} (M:opE l x=some (.rd A2 a)) (hS:P.underlying S=some ds) (hT:P.underlying T=some (.int .u8)):Run C P Γ l res ⟨some d,.convert S T x,ty,pos,after,g⟩ (.rd u8R (UInt8.ofInt a)):=Fp hS hT M (Xp a)
theorem B.toW {x:Operand} {S T:TypeId} {ds:TypeDesc} {a:UInt8} (M:opE l x=some (.rd u8R a)) (hS:P.underlying S=some ds) (hT:P.underlying T=some (.int .u32)):Run C P Γ l res ⟨some d,.convert S T x,ty,pos,after,g⟩ (.rd Aa (a.toUInt32)):=Fp hS hT M (by have:=UInt8.toNat_lt a; simp only[IntKind.wrap,IntKind.signed,IntKind.bits]; simp; omega)
theorem B.toU {x:Operand} {S T:TypeId} {ds:TypeDesc} {a:UInt8} (M:opE l x=some (.rd u8R a)) (hS:P.underlying S=some ds) (hT:P.underlying T=some (.int .u64)):Run C P Γ l res ⟨some d,.convert S T x,ty,pos,after,g⟩ (.rd Ao (a.toUInt64)):=Fp hS hT M (by have:=UInt8.toNat_lt a; simp only[IntKind.wrap,IntKind.signed,IntKind.bits]; simp; omega)
theorem W.add {x y:Operand} {T T':TypeId} {a b:UInt32} (M:opE l x=some (.rd Aa a)) (O:opE l y=some (.rd Aa b)):Run C P Γ l res ⟨some d,.binOp .add T x y T',ty,pos,after,g⟩ (.rd Aa (a+b)):=FN M O (by simp only[CA,Option.some.injEq,Value.int.injEq,true_and,IntKind.wrap,IntKind.signed,IntKind.bits]; simp)
theorem W.sub {x y:Operand} {T T':TypeId} {a b:UInt32} (M:opE l x=some (.rd Aa a)) (O:opE l y=some (.rd Aa b)):Run C P Γ l res ⟨some d,.binOp .sub T x y T',ty,pos,after,g⟩ (.rd Aa (a - b)):=FN M O (by simp only[CA,Option.some.injEq,Value.int.injEq,true_and,IntKind.wrap,IntKind.signed,IntKind.bits]; have h1:=UInt32.toNat_lt a; have h2:=UInt32.toNat_lt b; rw[UInt32.toNat_sub]; simp; omega)
theorem W.mul {x y:Operand} {T T':TypeId} {a b:UInt32} (M:opE l x=some (.rd Aa a)) (O:opE l y=some (.rd Aa b)):Run C P Γ l res ⟨some d,.binOp .mul T x y T',ty,pos,after,g⟩ (.rd Aa (a * b)):=FN M O (by simp only[CA,Option.some.injEq,Value.int.injEq,true_and,IntKind.wrap,IntKind.signed,IntKind.bits]; simp)
theorem W.lss {x y:Operand} {T T':TypeId} {a b:UInt32} (M:opE l x=some (.rd Aa a)) (O:opE l y=some (.rd Aa b)):Run C P Γ l res ⟨some d,.binOp .lss T x y T',ty,pos,after,g⟩ (.rd Ai (decide (a<b))):=CK M O (by simp only[CA,Option.some.injEq,Value.bool.injEq,decide_eq_decide]; simp[UInt32.lt_iff_toNat_lt,UInt32.le_iff_toNat_le])
theorem W.gtr {x y:Operand} {T T':TypeId} {a b:UInt32} (M:opE l x=some (.rd Aa a)) (O:opE l y=some (.rd Aa b)):Run C P Γ l res ⟨some d,.binOp .gtr T x y T',ty,pos,after,g⟩ (.rd Ai (decide (b<a))):=CK M O (by simp only[CA,Option.some.injEq,Value.bool.injEq,decide_eq_decide]; simp[UInt32.lt_iff_toNat_lt,UInt32.le_iff_toNat_le])
theorem W.geq {x y:Operand} {T T':TypeId} {a b:UInt32} (M:opE l x=some (.rd Aa a)) (O:opE l y=some (.rd Aa b)):Run C P Γ l res ⟨some d,.binOp .geq T x y T',ty,pos,after,g⟩ (.rd Ai (decide (b<=a))):=CK M O (by simp only[CA,Option.some.injEq,Value.bool.injEq,decide_eq_decide]; simp[UInt32.lt_iff_toNat_lt,UInt32.le_iff_toNat_le])
theorem W.eql {x y:Operand} {T T':TypeId} {a b:UInt32} (M:opE l x=some (.rd Aa a)) (O:opE l y=some (.rd Aa b)):Run C P Γ l res ⟨some d,.binOp .eql T x y T',ty,pos,after,g⟩ (.rd Ai (a==b)):=CK M O (by simp only[CA,QU])
theorem W.neq {x y:Operand} {T T':TypeId} {a b:UInt32} (M:opE l x=some (.rd Aa a)) (O:opE l y=some (.rd Aa b)):Run C P Γ l res ⟨some d,.binOp .neq T x y T',ty,pos,after,g⟩ (.rd Ai (a != b)):=CK M O (by simp only[CA,bne,QU])
theorem W.quo {x y:Operand} {T T':TypeId} {a b:UInt32} (M:opE l x=some (.rd Aa a)) (O:opE l y=some (.rd Aa b)) (U:b≠0):Run C P Γ l res ⟨some d,.binOp .quo T x y T',ty,pos,after,g⟩ (.rd Aa (a / b)):=quoL M O (λe=>U (by rw[<- UInt32.toNat_inj]; simpa using e)) (by
 have h1:=UInt32.toNat_lt a;have h2:a.toNat / b.toNat<=a.toNat:=Nat.div_le_self _ _;rw[UInt32.toNat_div,Int.tdiv_eq_ediv_of_nonneg (by omega)];simp only[IntKind.wrap,IntKind.signed,IntKind.bits];simp only[Bool.false_and,Bool.false_eq_true,if_false]
 rw[<- Int.natCast_ediv]; generalize a.toNat / b.toNat=q at *; omega)
theorem W.rem {x y:Operand} {T T':TypeId} {a b:UInt32} (M:opE l x=some (.rd Aa a)) (O:opE l y=some (.rd Aa b)) (U:b≠0):Run C P Γ l res ⟨some d,.binOp .rem T x y T',ty,pos,after,g⟩ (.rd Aa (a % b)):=remL M O (λe=>U (by rw[<- UInt32.toNat_inj]; simpa using e)) (by
 rw[UInt32.toNat_mod,Int.tmod_eq_emod_of_nonneg (by omega)]; omega)
theorem W.and {x y:Operand} {T T':TypeId} {a b:UInt32} (M:opE l x=some (.rd Aa a)) (O:opE l y=some (.rd Aa b)):Run C P Γ l res ⟨some d,.binOp .and T x y T',ty,pos,after,g⟩ (.rd Aa (a &&& b)):=H7 (γ:=Unit) M O rfl (Xq a b)
theorem W.or {x y:Operand} {T T':TypeId} {a b:UInt32} (M:opE l x=some (.rd Aa a)) (O:opE l y=some (.rd Aa b)):Run C P Γ l res ⟨some d,.binOp .or T x y T',ty,pos,after,g⟩ (.rd Aa (a ||| b)):=H7 (γ:=Unit) M O rfl (Xr a b)
theorem W.xor {x y:Operand} {T T':TypeId} {a b:UInt32} (M:opE l x=some (.rd Aa a)) (O:opE l y=some (.rd Aa b)):Run C P Γ l res ⟨some d,.binOp .xor T x y T',ty,pos,after,g⟩ (.rd Aa (a ^^^ b)):=H7 (γ:=Unit) M O rfl (Xs a b)
def FO (a:UInt32) (n:Nat):UInt32:=UInt32.ofNat (a.toNat * 2 ^ (min n 32))
def BD (a:UInt32) (n:Nat):UInt32:=UInt32.ofNat (a.toNat / 2 ^ (min n 32))
theorem W.shl {β:Type} {k':IntKind} {M:β->Int} {x y:Operand} {T T':TypeId} {a:UInt32} {b:β} (O:opE l x=some (.rd Aa a)) (U:opE l y=some (.rd (Bm k' M) b)) (h0:0<=M b):Run C P Γ l res ⟨some d,.binOp .shl T x y T',ty,pos,after,g⟩ (.rd Aa (FO a (M b).toNat)):=shlL O U h0 (by
 unfold FO; simp only[IntKind.wrap,IntKind.signed,IntKind.bits]; simp)
theorem W.shr {β:Type} {k':IntKind} {M:β->Int} {x y:Operand} {T T':TypeId} {a:UInt32} {b:β} (O:opE l x=some (.rd Aa a)) (U:opE l y=some (.rd (Bm k' M) b)) (h0:0<=M b):Run C P Γ l res ⟨some d,.binOp .shr T x y T',ty,pos,after,g⟩ (.rd Aa (BD a (M b).toNat)):=shrL O U h0 (by
 unfold BD; simp only[IntKind.bits];have h1:=UInt32.toNat_lt a;have h2:a.toNat / 2 ^ (min (M b).toNat 32)<=a.toNat:=Nat.div_le_self _ _;have h3:∀ q:Nat,q<=a.toNat->(UInt32.ofNat q).toNat=q:=λq hq=>by simp; omega
 rw[h3 _ h2,Int.fdiv_eq_ediv_of_nonneg _ (Int.le_of_lt (Int.pow_pos (by decide)))]; simp)
theorem W.cpl {x:Operand} {T:TypeId} {a:UInt32} (M:opE l x=some (.rd Aa a)):Run C P Γ l res ⟨some d,.unOp .xor T x,ty,pos,after,g⟩ (.rd Aa (~~~a)):=cplL M (Xt a)
theorem W.toB {x:Operand} {S T:TypeId} {ds:TypeDesc} {a:UInt32} (M:opE l x=some (.rd Aa a)) (hS:P.underlying S=some ds) (hT:P.underlying T=some (.int .u8)):Run C P Γ l res ⟨some d,.convert S T x,ty,pos,after,g⟩ (.rd u8R (a.toUInt8)):=Fp hS hT M (by simp only[IntKind.wrap,IntKind.signed,IntKind.bits]; simp)
theorem W.toU {x:Operand} {S T:TypeId} {ds:TypeDesc} {a:UInt32} (M:opE l x=some (.rd Aa a)) (hS:P.underlying S=some ds) (hT:P.underlying T=some (.int .u64)):Run C P Γ l res ⟨some d,.convert S T x,ty,pos,after,g⟩ (.rd Ao (a.toUInt64)):=Fp hS hT M (by have:=UInt32.toNat_lt a; simp only[IntKind.wrap,IntKind.signed,IntKind.bits]; simp; omega)
theorem U.add {x y:Operand} {T T':TypeId} {a b:UInt64} (M:opE l x=some (.rd Ao a)) (O:opE l y=some (.rd Ao b)):Run C P Γ l res ⟨some d,.binOp .add T x y T',ty,pos,after,g⟩ (.rd Ao (a+b)):=FN M O (by simp only[CA,Option.some.injEq,Value.int.injEq,true_and,IntKind.wrap,IntKind.signed,IntKind.bits]; simp)
theorem U.sub {x y:Operand} {T T':TypeId} {a b:UInt64} (M:opE l x=some (.rd Ao a)) (O:opE l y=some (.rd Ao b)):Run C P Γ l res ⟨some d,.binOp .sub T x y T',ty,pos,after,g⟩ (.rd Ao (a - b)):=FN M O (by simp only[CA,Option.some.injEq,Value.int.injEq,true_and,IntKind.wrap,IntKind.signed,IntKind.bits]; have h1:=UInt64.toNat_lt a; have h2:=UInt64.toNat_lt b; rw[UInt64.toNat_sub]; simp; omega)
theorem U.mul {x y:Operand} {T T':TypeId} {a b:UInt64} (M:opE l x=some (.rd Ao a)) (O:opE l y=some (.rd Ao b)):Run C P Γ l res ⟨some d,.binOp .mul T x y T',ty,pos,after,g⟩ (.rd Ao (a * b)):=FN M O (by simp only[CA,Option.some.injEq,Value.int.injEq,true_and,IntKind.wrap,IntKind.signed,IntKind.bits]; simp)
theorem U.lss {x y:Operand} {T T':TypeId} {a b:UInt64} (M:opE l x=some (.rd Ao a)) (O:opE l y=some (.rd Ao b)):Run C P Γ l res ⟨some d,.binOp .lss T x y T',ty,pos,after,g⟩ (.rd Ai (decide (a<b))):=CK M O (by simp only[CA,Option.some.injEq,Value.bool.injEq,decide_eq_decide]; simp[UInt64.lt_iff_toNat_lt,UInt64.le_iff_toNat_le])
theorem U.leq {x y:Operand} {T T':TypeId} {a b:UInt64} (M:opE l x=some (.rd Ao a)) (O:opE l y=some (.rd Ao b)):Run C P Γ l res ⟨some d,.binOp .leq T x y T',ty,pos,after,g⟩ (.rd Ai (decide (a<=b))):=CK M O (by simp only[CA,Option.some.injEq,Value.bool.injEq,decide_eq_decide]; simp[UInt64.lt_iff_toNat_lt,UInt64.le_iff_toNat_le])
theorem U.gtr {x y:Operand} {T T':TypeId} {a b:UInt64} (M:opE l x=some (.rd Ao a)) (O:opE l y=some (.rd Ao b)):Run C P Γ l res ⟨some d,.binOp .gtr T x y T',ty,pos,after,g⟩ (.rd Ai (decide (b<a))):=CK M O (by simp only[CA,Option.some.injEq,Value.bool.injEq,decide_eq_decide]; simp[UInt64.lt_iff_toNat_lt,UInt64.le_iff_toNat_le])
theorem U.geq {x y:Operand} {T T':TypeId} {a b:UInt64} (M:opE l x=some (.rd Ao a)) (O:opE l y=some (.rd Ao b)):Run C P Γ l res ⟨some d,.binOp .geq T x y T',ty,pos,after,g⟩ (.rd Ai (decide (b<=a))):=CK M O (by simp only[CA,Option.some.injEq,Value.bool.injEq,decide_eq_decide]; simp[UInt64.lt_iff_toNat_lt,UInt64.le_iff_toNat_le])
theorem U.eql {x y:Operand} {T T':TypeId} {a b:UInt64} (M:opE l x=some (.rd Ao a)) (O:opE l y=some (.rd Ao b)):Run C P Γ l res ⟨some d,.binOp .eql T x y T',ty,pos,after,g⟩ (.rd Ai (a==b)):=CK M O (by simp only[CA,QV])
theorem U.neq {x y:Operand} {T T':TypeId} {a b:UInt64} (M:opE l x=some (.rd Ao a)) (O:opE l y=some (.rd Ao b)):Run C P Γ l res ⟨some d,.binOp .neq T x y T',ty,pos,after,g⟩ (.rd Ai (a != b)):=CK M O (by simp only[CA,bne,QV])
theorem U.quo {x y:Operand} {T T':TypeId} {a b:UInt64} (M:opE l x=some (.rd Ao a)) (O:opE l y=some (.rd Ao b)) (h0:b≠0):Run C P Γ l res ⟨some d,.binOp .quo T x y T',ty,pos,after,g⟩ (.rd Ao (a / b)):=quoL M O (λe=>h0 (by rw[<- UInt64.toNat_inj]; simpa using e)) (by
 have h1:=UInt64.toNat_lt a;have h2:a.toNat / b.toNat<=a.toNat:=Nat.div_le_self _ _;rw[UInt64.toNat_div,Int.tdiv_eq_ediv_of_nonneg (by omega)];simp only[IntKind.wrap,IntKind.signed,IntKind.bits];simp only[Bool.false_and,Bool.false_eq_true,if_false]
 rw[<- Int.natCast_ediv]; generalize a.toNat / b.toNat=q at *; omega)
theorem U.rem {x y:Operand} {T T':TypeId} {a b:UInt64} (M:opE l x=some (.rd Ao a)) (O:opE l y=some (.rd Ao b)) (h0:b≠0):Run C P Γ l res ⟨some d,.binOp .rem T x y T',ty,pos,after,g⟩ (.rd Ao (a % b)):=remL M O (λe=>h0 (by rw[<- UInt64.toNat_inj]; simpa using e)) (by
 rw[UInt64.toNat_mod,Int.tmod_eq_emod_of_nonneg (by omega)]; omega)
theorem U.and {x y:Operand} {T T':TypeId} {a b:UInt64} (M:opE l x=some (.rd Ao a)) (O:opE l y=some (.rd Ao b)):Run C P Γ l res ⟨some d,.binOp .and T x y T',ty,pos,after,g⟩ (.rd Ao (a &&& b)):=H7 (γ:=Unit) M O rfl (Xu a b)
theorem U.or {x y:Operand} {T T':TypeId} {a b:UInt64} (M:opE l x=some (.rd Ao a)) (O:opE l y=some (.rd Ao b)):Run C P Γ l res ⟨some d,.binOp .or T x y T',ty,pos,after,g⟩ (.rd Ao (a ||| b)):=H7 (γ:=Unit) M O rfl (Xv a b)
theorem U.xor {x y:Operand} {T T':TypeId} {a b:UInt64} (M:opE l x=some (.rd Ao a)) (O:opE l y=some (.rd Ao b)):Run C P Γ l res ⟨some d,.binOp .xor T x y T',ty,pos,after,g⟩ (.rd Ao (a ^^^ b)):=H7 (γ:=Unit) M O rfl (Xw a b)
def EW (a:UInt64) (n:Nat):UInt64:=UInt64.ofNat (a.toNat * 2 ^ (min n 64))
def BZ (a:UInt64) (n:Nat):UInt64:=UInt64.ofNat (a.toNat / 2 ^ (min n 64))
theorem U.shl {β:Type} {k':IntKind} {M:β->Int} {x y:Operand} {T T':TypeId} {a:UInt64} {b:β} (O:opE l x=some (.rd Ao a)) (hy:opE l y=some (.rd (Bm k' M) b)) (h0:0<=M b):Run C P Γ l res ⟨some d,.binOp .shl T x y T',ty,pos,after,g⟩ (.rd Ao (EW a (M b).toNat)):=shlL O hy h0 (by
 unfold EW; simp only[IntKind.wrap,IntKind.signed,IntKind.bits]; simp)
theorem U.shr {β:Type} {k':IntKind} {M:β->Int} {x y:Operand} {T T':TypeId} {a:UInt64} {b:β} (O:opE l x=some (.rd Ao a)) (hy:opE l y=some (.rd (Bm k' M) b)) (h0:0<=M b):Run C P Γ l res ⟨some d,.binOp .shr T x y T',ty,pos,after,g⟩ (.rd Ao (BZ a (M b).toNat)):=shrL O hy h0 (by
 unfold BZ; simp only[IntKind.bits];have h1:=UInt64.toNat_lt a;have h2:a.toNat / 2 ^ (min (M b).toNat 64)<=a.toNat:=Nat.div_le_self _ _;have h3:∀ q:Nat,q<=a.toNat->(UInt64.ofNat q).toNat=q:=λq hq=>by simp; omega
 rw[h3 _ h2,Int.fdiv_eq_ediv_of_nonneg _ (Int.le_of_lt (Int.pow_pos (by decide)))]; simp)
theorem U.toI {x:Operand} {S T:TypeId} {ds:TypeDesc} {a:UInt64} (M:opE l x=some (.rd Ao a)) (hS:P.underlying S=some ds) (hT:P.underlying T=some (.int .i64)):Run C P Γ l res ⟨some d,.convert S T x,ty,pos,after,g⟩ (.rd A2 (w64 (a.toNat:Int))):=Fp hS hT M rfl
theorem I.toU {x:Operand} {S T:TypeId} {ds:TypeDesc} {a:Int} (M:opE l x=some (.rd A2 a)) (hS:P.underlying S=some ds) (hT:P.underlying T=some (.int .u64)):Run C P Γ l res ⟨some d,.convert S T x,ty,pos,after,g⟩ (.rd Ao (UInt64.ofInt a)):=Fp hS hT M (Xx a)
theorem U.toB {x:Operand} {S T:TypeId} {ds:TypeDesc} {a:UInt64} (M:opE l x=some (.rd Ao a)) (hS:P.underlying S=some ds) (hT:P.underlying T=some (.int .u8)):Run C P Γ l res ⟨some d,.convert S T x,ty,pos,after,g⟩ (.rd u8R (a.toUInt8)):=Fp hS hT M (by simp only[IntKind.wrap,IntKind.signed,IntKind.bits]; simp)
theorem U.toW {x:Operand} {S T:TypeId} {ds:TypeDesc} {a:UInt64} (M:opE l x=some (.rd Ao a)) (hS:P.underlying S=some ds) (hT:P.underlying T=some (.int .u32)):Run C P Γ l res ⟨some d,.convert S T x,ty,pos,after,g⟩ (.rd Aa (a.toUInt32)):=Fp hS hT M (by simp only[IntKind.wrap,IntKind.signed,IntKind.bits]; simp)
end
end
section
def AV {α β:Type} (R:Rep β) (x:β) (off:Nat) (T:Rep α) (y:α) (set:α->β):Prop :=
 ∀ S w cs,R.rel S w cs x->∃ a c d,cs=a++c++d/\a.length=off/\T.rel S w c y/\∀ S' w' c' y',Bj S S' w w'->T.rel S' w' c' y'->R.rel S' w' (a++c'++d) (set y')
theorem AV.fst {α β:Type} {R:Rep α} {T:Rep β} {x:α × β}:AV (C3 R T) x 0 R x.1 (λy=>(y,x.2)):=λS w cs h=>by
 obtain⟨c,d,rfl,h1,h2⟩:=h;exact⟨[],c,d, by simp,rfl,h1, λS' w' c' y' k h'=>⟨c',d, by simp,h',T.mono k h2⟩⟩
theorem AV.snd {α β γ:Type} {R:Rep α} {T:Rep β} {x:α × β} {off:Nat} {U:Rep γ} {y:γ} {set:γ->β} (p:AV T x.2 off U y set):AV (C3 R T) x (R.sz+off) U y (λy=>(x.1,set y)):=λS w cs h=>by
 obtain⟨c,d,rfl,h1,h2⟩:=h;obtain⟨a,O,M,rfl,ha,hc,hs⟩:=p S w d h2;exact⟨c++a,O,M, by simp, by simp[R.len h1,ha],hc, λS' w' c' y' k h'=>⟨c,a++c'++M, by simp,R.mono k h1,hs S' w' c' y' k h'⟩⟩
theorem AV.via {α β γ:Type} {R:Rep α} {g:β->α} {x:β} {off:Nat} {U:Rep γ} {y:γ} {set:γ->α} {set':γ->β} (p:AV R (g x) off U y set) (e:∀ y,g (set' y)=set y):AV (DK g R) x off U y set':=λS w cs h=>by
 obtain⟨a,M,O,h1,ha,hc,hs⟩:=p S w cs h;exact⟨a,M,O,h1,ha,hc, λS' w' c' y' k h'=>by show R.rel S' w' _ (g (set' y')); rw[e]; exact hs S' w' c' y' k h'⟩
def idx {α:Type} (l:List α) (i:Int):Option α:=if 0<=i then l[i.toNat]? else none
theorem DA {α:Type} {l:List α} {i:Int} {x:α} (h:idx l i=some x):0<=i/\l[i.toNat]? = some x/\i.toNat<l.length:=by
 unfold idx at h
 split at h
 ·exact⟨‹_›,h,(List.getElem?_eq_some_iff.1 h).1⟩
 ·cases h
def B3 {α:Type} {n:Nat} (v:Vector α n) (i:Int):Option α:=idx v.toList i
theorem Lk {α:Type} {n:Nat} {v:Vector α n} {i:Int} {x:α} (h:B3 v i=some x):0<=i/\i.toNat<n:=by
 obtain⟨h1,_,h2⟩:=DA h; simp at h2; exact⟨h1,h2⟩
def BY {α:Type} {n:Nat} (v:Vector α n) (i:Int) (x:α):Vector α n:=v.setIfInBounds i.toNat x
theorem AV.el {α:Type} {n:Nat} {R:Rep α} {v:Vector α n} {i:Int} {x:α} (h:B3 v i=some x):AV (Av n R) v (i.toNat * R.sz) R x (λy=>BY v i y):=λS w cs M=>by
 obtain⟨-,h2,-⟩:=DA h;obtain⟨a,c,d,h3,O,U,h6⟩:=B5.split (show B5 R S w cs v.toList from M) h2;refine⟨a,c,d,h3,O,U, λS' w' c' y' k h'=>?_⟩
 have:=h6 c' y' S' w' k h'
 show B5 R S' w' _ (BY v i y').toList;unfold BY;rw[Vector.toList_setIfInBounds];exact this
def base:Value->Option Nat
 | .slice (some ⟨b,0,none⟩) _ _=>some b
 | .pointer (some ⟨b,0,none⟩)=>some b
 | _=>none
theorem Ji {v:Value} {b:Nat} (h:base v=some b):AM v=some b:=by
 unfold base at h
 split at h <;> simp_all [AM]
def A7 (v:Value) (k:Nat):Value:=match AM v with
 | some b=>.pointer (some ⟨b,k,none⟩)
 | none=>v
theorem Jj {v:Value} {b k:Nat} (h:base v=some b):A7 v k=.pointer (some ⟨b,k,none⟩):=by unfold A7; rw[Ji h]
theorem Ll {b k:Nat}:A7 (.pointer (some ⟨b,0,none⟩)) k=.pointer (some ⟨b,k,none⟩):=rfl
def Foc {α:Type} (c:AK) (k:Nat) (R:Rep α) (x:α) (upd:α->AK):Prop :=
 (∀ S w v,¬ c.nil S w v)/\∀ S w v o,c.rel S w v o->∃ b C T a cs d,base v=some b/\o=.cells C T (0,0)/\C.toList=a++cs++d/\a.length=k/\R.rel S w cs x /\
  ∀ S' w' cs' x',Bj S S' w w'->R.rel S' w' cs' x'->(upd x').rel S' w' v (.cells (a++cs'++d).toArray T (0,0))
theorem Foc.part {α β:Type} {c:AK} {k:Nat} {R:Rep α} {x:α} {upd:α->AK} {T:Rep β} {y:β} {off:Nat} {set:β->α} (f:Foc c k R x upd) (p:AV R x off T y set):Foc c (k+off) T y (λy=>upd (set y)):=⟨f.1, λS w v o h=>by
 obtain⟨b,C,Ty,a,cs,d,h1,h2,h3,h4,h5,h6⟩:=f.2 S w v o h;obtain⟨a2,c2,d2,rfl,M,O,U⟩:=p S w cs h5;refine⟨b,C,Ty,a++a2,c2,d2++d,h1,h2, by simp[h3], by simp[h4,M],O, λS' w' cs' x' kk h'=>?_⟩
 have:=h6 S' w' _ _ kk (U S' w' cs' x' kk h')
 simpa using this⟩
theorem Foc.el {α:Type} {R:Rep α} {T:TypeId} {l:List α} {i:Int} {x:α} (h:idx l i=some x):Foc (.list R T l) (i.toNat * R.sz) R x (λy=>.list R T (l.set i.toNat y)):=⟨λS w v hv=>by rw[hv.2] at h; simp[idx] at h, λS w v o hr=>by
 obtain⟨h0,h2,a2⟩:=DA h;obtain⟨b,cap,C,rfl,rfl,h3,h4,h5,h6⟩:=hr;obtain⟨a,c,d,h7,h8,h9,U⟩:=h6.split h2;refine⟨b,C,T,a,c,d++C.toList.drop (l.length * R.sz),rfl,rfl,?_,h8,h9, λS' w' cs' x' k h'=>?_⟩
 ·rw[<- List.append_assoc,<- h7,List.take_append_drop]
 ·have O:=U cs' x' S' w' k h';have M:(a++cs'++d).length=l.length * R.sz:=by have:=O.len; simpa using this
  refine⟨b,cap,_, by rw[List.length_set],rfl, by simpa using h3,h4,?_,?_⟩
  ·have a1:C.toList.length=cap * R.sz:=by simpa using h5
   have a6:l.length * R.sz<=cap * R.sz:=Nat.mul_le_mul_right _ h3;rw[<- List.append_assoc];simp only[List.size_toArray,List.length_append,List.length_drop,a1] at M ⊢;omega
  ·rw[List.length_set,<- List.append_assoc];show B5 R S' w' (List.take (l.length * R.sz) (a++cs'++d++_)) _;rw[<- M,List.take_left']
   ·exact O
   ·rfl⟩
theorem Dn (v:Value) (vs:List Value):Bd (v::vs)=v.cells.toList++Bd vs:=rfl
theorem Foc.here {α:Type} {R:Rep α} {T:TypeId} {x:α} {es:List Ent}:Foc (.box T (.rd R x::es)) 0 R x (λy=>.box T (.rd R y::es)):=⟨λ_ _ v h=>h, λS w v o M=>by
 obtain⟨b,vs,rfl,rfl,h⟩:=M
 match vs,h with
 | u::vs,⟨⟨cs,h1,h2⟩,h3⟩ =>
  subst h2;refine⟨b,_,T,[],cs,Bd vs,rfl,rfl, by simp[Dn,Rep.val_cells h1],rfl,h1, λS' w' cs' x' k h'=>?_⟩
  exact⟨b,R.val cs'::vs,rfl, by simp[Dn,Rep.val_cells h'],⟨cs',h',rfl⟩,h3.mono k⟩⟩
def Ent.fills (e:Ent) (n:Nat):Prop:=∀ S w v,e.holds S w v->v.cells.size=n
theorem BF {α:Type} {R:Rep α} {x:α}:(Ent.rd R x).fills R.sz:=λS w v h=>by
 obtain⟨cs,h1,rfl⟩:=h;rw[<- Array.length_toList,Rep.val_cells h1,R.len h1]
theorem Ay {u:Value}:(Ent.val u).fills 1:=λS w v h=>by
 obtain⟨rfl,h⟩:=h;rw[I1 h]; rfl
theorem Foc.next {α:Type} {e:Ent} {R:Rep α} {T:TypeId} {x:α} {es:List Ent} {n k:Nat} {upd:α->List Ent} (h:e.fills n) (f:Foc (.box T es) k R x (λy=>.box T (upd y))):Foc (.box T (e::es)) (n+k) R x (λy=>.box T (e::upd y)):=⟨λ_ _ v h=>h, λS w v o hr=>by
 obtain⟨b,vs,rfl,rfl,hh⟩:=hr
 match vs,hh with
 | u::vs,⟨h1,h3⟩ =>
  obtain⟨b',C,T',a,cs,d,k1,U,O,k4,k5,k6⟩:=f.2 S w (.pointer (some ⟨b,0,none⟩)) (.cells (Bd vs).toArray T (0,0)) ⟨b,vs,rfl,rfl,h3⟩
  cases k1
  simp only[Obj.cells.injEq,and_true] at U;obtain⟨rfl,rfl⟩:=U;have O:Bd vs=a++cs++d:=O;have hu:u.cells.toList.length=n:=by have:=h S w u h1; simpa using this
  refine⟨b,_,T,u.cells.toList++a,cs,d,rfl,rfl, by simp[Dn,O], by simp[hu,k4],k5, λS' w' cs' x' k h'=>?_⟩;obtain⟨b2,M,e1,e2,e3⟩:=k6 S' w' cs' x' k h'
  cases e1
  simp only[Obj.cells.injEq,and_true] at e2;have e2:a++cs'++d=Bd M:=congrArg Array.toList e2
  exact⟨b,u::M,rfl, by simp[Dn,<- e2],e.mono k h1,e3⟩⟩
section
variable {C:World->World->Prop} {ρ:Type} {P:Program} {Γ:Ctx} {l:AQ} {res:Res} {m:Option ρ} {os rest:List Oper} {N:ρ->Exit->Act->World->Prop}
 {d:Tmp} {ty:TypeId} {pos:String} {after:Array Edge} {g:Option (Nat × Bool)}
theorem BB {r r':Nat} {x:Option (Value × AK)}:lr ((r,x)::res) r'=if r=r' then x else lr res r':=by
 unfold lr; rw[C4]; split <;> rfl
theorem Sta.upd {a:Act} {w w':World} (h:Sta Γ l res a w) (r:Nat) {v:Value} {c:AK} {wr:Option Nat} (hg:w.grownBy w' wr)
  (a1:∀ b,wr=some b->∃ v0 c0,lr res r=some (v0,c0)/\AM v0=some b)
  (hv:∀ b,AM v=some b->(∃ v0 c0,lr res r=some (v0,c0)/\AM v0=some b)\/w.heap.size<=b)
  (hc:∀ S',Bj (Shr Γ.H res w) S' w w'->c.holds S' w' v):Sta Γ l ((r,some (v,c))::res) a w'/\Bj (Shr Γ.H res w) (Shr Γ.H ((r,some (v,c))::res) w') w w':=by
 have a2:∀ b,b<w.heap.size->wr≠some b->w'.heap[b]? = w.heap[b]? := λb hb hn=>hg.block b hb (λe=>hn e.symm);have U:Bj (Shr Γ.H res w) (Shr Γ.H ((r,some (v,c))::res) w') w w':=λb hb=>by
  refine⟨⟨Nat.lt_of_lt_of_le hb.1 hg.size, λr' v' c' M=>?_,hb.2.2⟩,a2 b hb.1 (λe=>?_)⟩
  ·rw[BB] at M
   split at M
   ·cases M
    intro e;rcases hv b e with ⟨v0,c0,h1,h2⟩ | h1
    ·exact hb.2.1 r v0 c0 h1 h2
    ·have:=hb.1; omega
   ·exact hb.2.1 r' v' c' M
  ·obtain⟨v0,c0,h1,h2⟩:=a1 b e;exact hb.2.1 r v0 c0 h1 h2
 have hother:∀ r' v' c',r≠r'->lr res r'=some (v',c')->∀ b,AM v'=some b->w'.heap[b]? = w.heap[b]? := λr' v' c' O M b hb=>by
  refine a2 b ((h.conts r' v' c' M).lt hb) (λe=>?_);obtain⟨v0,c0,h1,h2⟩:=a1 b e;exact h.excl r v0 c0 r' v' c' h1 M O b h2 hb
 have a6:∀ r' v' c',r≠r'->lr res r'=some (v',c')->∀ b,AM v=some b->AM v'≠some b:=λr' v' c' O M b hb e=>by
  rcases hv b hb with ⟨v0,c0,h1,h2⟩ | h1
  ·exact h.excl r v0 c0 r' v' c' h1 M O b h2 e
  ·have:=(h.conts r' v' c' M).lt e; omega
 refine⟨⟨h.size,h.defers, λt e ht=>?_, λr' v' c' M=>?_, λr1 v1 c1 r2 v2 c2 h1 h2 O b hb=>?_, λr' v' c' M b hb=>?_,?_,h.old,?_⟩,U⟩
 ·obtain⟨u,h1,h2⟩:=h.slots t e ht;exact⟨u,h1,e.mono U h2⟩
 ·rw[BB] at M
  split at M
  ·cases M; exact hc _ U
  ·rename_i O;exact(h.conts r' v' c' M).mono U (hother r' v' c' O M)
 ·rw[BB] at h1 h2
  split at h1
  ·rename_i he; subst he; cases h1
   rw[if_neg O] at h2;exact a6 r2 v2 c2 O h2 b hb
  ·rename_i a7
   split at h2
   ·rename_i he; subst he; cases h2
    exact λe=>a6 r1 v1 c1 a7 h1 b e hb
   ·exact h.excl r1 v1 c1 r2 v2 c2 h1 h2 O b hb
 ·rw[BB] at M
  split at M
  ·cases M
   rcases hv b hb with ⟨v0,c0,h1,h2⟩ | h1
   ·exact h.own r v0 c0 h1 b h2
   ·intro hK; have:=h.old_lt hK; omega
  ·exact h.own r' v' c' M b hb
 ·exact h.keep.gr hg (λb hK=>⟨h.old_lt hK, λe=>by
   obtain⟨v0,c0,h1,h2⟩:=a1 b e
   exact h.own r v0 c0 h1 b h2 hK⟩)
 ·exact h.hid
def FP (z:Value) (es:List Ent):Prop:=∀ S w,∃ vs,Bd vs=z.cells.toList/\BI S w es vs
theorem FP.rd {α:Type} {R:Rep α} {x:α} {z:Value} (h:∀ S w,R.rel S w z.cells.toList x):FP z [.rd R x]:=λS w =>
 ⟨[R.val z.cells.toList], by simp[Bd,Rep.val_cells (h S w)],⟨_,h S w,rfl⟩,trivial⟩
theorem QW {w:World} {C:Array Value} {T:TypeId} {es:List Ent} {vs:List Value} (hC:C=(Bd vs).toArray) {S S':Blk} (h:BI S w es vs) (k:Bj S S' w (w.alloc (.cells C T))) :
  (AK.box T es).holds S' (w.alloc (.cells C T)) (.pointer (some ⟨w.heap.size,0,none⟩)) :=
 .inr ⟨w.heap.size,_,rfl,heap_alloc_new _ _,w.heap.size,vs,rfl, by rw[hC],h.mono k⟩
theorem EJ (w:World) (o:Obj):w.grownBy (w.alloc o) none:=(Ext.al w o).gb
def Grew (res:Res) (r:Nat) (w w':World):Prop:=∃ wr:Option Nat,w.grownBy w' wr/\∀ b,wr=some b->∃ v0 c0,lr res r=some (v0,c0)/\AM v0=some b
def Eff (P:Program) (Γ:Ctx) (l:AQ) (res:Res) (o:Oper) (r:Nat) (x:Value->Value × AK):Prop:=∀ a w,Sta Γ l res a w ->
 ∃ w' u,(execOp a.eval o).run P w=.ok (.value u) w'/\(Sta Γ l ((r,some (x u))::res) a w'/\Bj (Shr Γ.H res w) (Shr Γ.H ((r,some (x u))::res) w') w w')/\u.oneCell'=true/\Grew res r w w'
def EffS (P:Program) (Γ:Ctx) (l:AQ) (res:Res) (o:Oper) (r:Nat) (x:Value × AK):Prop:=∀ a w,Sta Γ l res a w ->
 ∃ w',(execOp a.eval o).run P w=.ok .skip w'/\(Sta Γ l ((r,some x)::res) a w'/\Bj (Shr Γ.H res w) (Shr Γ.H ((r,some x)::res) w') w w')/\Grew res r w w'
theorem Ef {r:Nat} {op:Op} {x:Value->Value × AK} (M:Nat.blt d Γ.n=true) (O:Eff P Γ l res ⟨some d,op,ty,pos,after,none⟩ r x)
  (k:∀ u,GL P os (Sta Γ ((d,.val u)::l) ((r,some (x u))::res)) rest N m):GL P os (Sta Γ l res) (⟨some d,op,ty,pos,after,none⟩::rest) N m:=λa w U ρ hm=>by
 obtain⟨w',u,h1,⟨h2,_⟩,h3,_⟩:=O a w U;exact st (EF rfl) h1 (k u _ _ (h2.put M ⟨rfl,h3⟩) ρ hm)
theorem Efg {r:Nat} {o:Oper} {x:Value->Value × AK} (g:Grd os l o true) (hd:o.dst=some d) (O:Nat.blt d Γ.n=true) (U:Eff P Γ l res o r x)
  (k:∀ u,GL P os (Sta Γ ((d,.val u)::l) ((r,some (x u))::res)) rest N m):GL P os (Sta Γ l res) (o::rest) N m:=λa w M ρ hm=>by
 obtain⟨w',u,h1,⟨h2,_⟩,h3,_⟩:=U a w M;refine st (g.wanted M) h1 ?_;rw[hd]; exact k u _ _ (h2.put O ⟨rfl,h3⟩) ρ hm
theorem Es {r:Nat} {op:Op} {x:Value × AK} (M:EffS P Γ l res ⟨none,op,ty,pos,after,none⟩ r x)
  (k:GL P os (Sta Γ l ((r,some x)::res)) rest N m):GL P os (Sta Γ l res) (⟨none,op,ty,pos,after,none⟩::rest) N m:=λa w O ρ U=>by
 obtain⟨w',h1,⟨h2,_⟩,_⟩:=M a w O;exact st0 (EF rfl) h1 rfl (k a w' h2 ρ U)
theorem AL (r:Nat) {T:TypeId} {z:Value} {sz by_:Nat} {es:List Ent} (hT:TI P T z sz by_) (O:FP z es):Eff P Γ l res ⟨some d,.alloc T,ty,pos,after,g⟩ r (λv=>(v,.box T es)):=λa w U=>by
 have M:(execOp a.eval ⟨some d,.alloc T,ty,pos,after,g⟩).run P w=.ok (.value (.pointer (some ⟨w.heap.size,0,none⟩))) (w.alloc (.cells z.cells T)):=by
  simp[execOp,Instr.alloc,Gn hT,newVar,newRow]
 obtain⟨vs,h1,h2⟩:=O (Shr Γ.H res w) w
 exact⟨_,_,M,U.upd r (c:=.box T es) (EJ w (.cells z.cells T)) (by simp) (λb hb=>.inr (by simp[AM] at hb; omega)) (v:=.pointer (some ⟨w.heap.size,0,none⟩))
  (λS' k'=>QW (by rw[h1]) h2 k'),rfl,none,EJ w _, by simp⟩
theorem bx (r:Nat) {T:TypeId} {x:Operand} {e:Ent} (U:opE l x=some e):Eff P Γ l res ⟨some d,.box T x,ty,pos,after,g⟩ r (λv=>(v,.box T [e])):=λa w O=>by
 have M:(execOp a.eval ⟨some d,.box T x,ty,pos,after,g⟩).run P w=.ok (.value (.pointer (some ⟨w.heap.size,0,none⟩))) (w.alloc (.cells (a.eval x).cells T)):=by
  simp[execOp,Instr.box,newVar,newRow]
 exact⟨_,_,M,O.upd r (c:=.box T [e]) (EJ w (.cells (a.eval x).cells T)) (by simp) (λb hb=>.inr (by simp[AM] at hb; omega)) (v:=.pointer (some ⟨w.heap.size,0,none⟩))
  (λS' k'=>QW (vs:=[a.eval x]) (by simp[Bd]) ⟨O.vl U,trivial⟩ k'),rfl,none,EJ w _, by simp⟩
theorem Jk {w:World} {es:List Ent} {T:TypeId} {S:Blk} {v:Value} (h:(AK.box T es).holds S w v):A7 v 0=v:=by
 rcases h with h | ⟨b,o,_,_,b',vs,rfl,_⟩
 ·exact h.elim
 ·rfl
def BJ (P:Program) (t:TypeId) (agg:Bool) (sz:Nat):Prop:=if agg then Ag P t/\∃ z by_,TI P t z sz by_ else Sc P t
theorem Bx.load {w:World} {b:Nat} {C:Array Value} {T:TypeId} {t:TypeId} {α:Type} {R:Rep α} {x:α} {S:Blk} {a cs dd:List Value} (hb:w.heap[b]? = some (.cells C T (0,0))) (hC:C.toList=a++cs++dd) (U:R.rel S w cs x) (hT:BJ P t R.agg R.sz) :
  (loadVar t ⟨b,a.length,none⟩).run P w=.ok (R.val cs) w:=by
 have hB:Bx w b C T:=hb;unfold BJ at hT;unfold Rep.val;have M:∀ j u,cs[j]? = some u->w.cell? ((⟨b,a.length,none⟩:Addr).add j)=some u:=hB.cells (by rw[hC]; simp)
 cases O:R.agg with
 | true =>
  rw[O,if_pos rfl] at hT;obtain⟨h1,z,by_,h2⟩:=hT;exact QJ h1 h2 (R.len U) M
 | false =>
  rw[O,if_neg (by simp)] at hT;have h1:=R.len U;rw[R.scal O] at h1
  match cs,h1 with
  | [u],_ =>
   have:=M 0 u rfl
   exact Le hT (by simpa [Addr.add] using this)
theorem ld {ws:List Nat} [LC C res ws] {α:Type} {R:Rep α} {x':α} {upd:α->AK} {t:TypeId} {x:Operand} {v:Value} {c:AK} {k:Nat} (r:Nat) (hx:opE l x=some (.val (A7 v k))) (U:lr res r=some (v,c)) (hf:Foc c k R x' upd) (hT:BJ P t R.agg R.sz) (hw:ws.contains r=false) :
  Run C P Γ l res ⟨some d,.load t x,ty,pos,after,g⟩ (.rd R x'):=λa w O=>by
 have h1:=(O.vl hx).1;rcases O.conts r v c U with h2 | ⟨b,o,h2,h3,h4⟩
 ·exact(hf.1 _ _ v h2).elim
 ·obtain⟨b',Cc,T,a',cs,dd,k1,rfl,k3,rfl,k5,-⟩:=hf.2 _ w v o h4;rw[Jj k1] at h1;have e:b'=b:=by have:=Ji k1; rw[h2] at this; cases this; rfl
  subst e;refine⟨R.val cs, λw' M=>?_,cs,k5,rfl⟩;have a1:w'.heap[b']? = some (.cells Cc T (0,0)):=(CW.at M O U h2 hw).trans h3
  have:=Bx.load (P:=P) a1 k3 (R.mono (CW.stay M) k5) hT
  simp[execOp,h1,Instr.loadAt,Instr.sureAddr,this]
def At (es:List Ent) (k:Nat) (e:Ent):Prop:=∃ pre post,es=pre++e::post/\∀ S w vs,BI S w pre vs->(Bd vs).length=k
theorem At.here {e:Ent} {es:List Ent}:At (e::es) 0 e:=⟨[],es,rfl, λS w vs h=>by match vs,h with | [],_=>rfl⟩
theorem At.next {e e':Ent} {es:List Ent} {n k:Nat} (h:e'.fills n) (p:At es k e):At (e'::es) (n+k) e:=by
 obtain⟨pre,post,rfl,M⟩:=p;refine⟨e'::pre,post,rfl, λS w vs hh=>?_⟩
 match vs,hh with
 | u::vs,⟨h1,h2⟩ =>
  have h3:=h S w u h1;rw[Dn,List.length_append,M S w vs h2];simp[h3]
theorem BI.app {S w}:∀ {pre post:List Ent} {vs},BI S w (pre++post) vs->∃ us ts,vs=us++ts/\BI S w pre us/\BI S w post ts
 | [],post,vs,h=>⟨[],vs,rfl,trivial,h⟩
 | e::pre,post,v::vs,h=>by
  obtain⟨us,ts,rfl,h1,h2⟩:=BI.app h.2;exact⟨v::us,ts,rfl,⟨h.1,h1⟩,h2⟩
 | e::pre,post,[],h=>h.elim
theorem BI.mk {S w}:∀ {pre post:List Ent} {us ts},BI S w pre us->BI S w post ts->BI S w (pre++post) (us++ts)
 | [],post,[],ts,_,h=>h
 | e::pre,post,u::us,ts,h,h2=>⟨h.1,BI.mk h.2 h2⟩
 | [],_,_::_,_,h,_=>h.elim
 | _::_,_,[],_,h,_=>h.elim
theorem ldV {ws:List Nat} [LC C res ws] {t T:TypeId} {x:Operand} {v u:Value} {es:List Ent} {k:Nat} (r:Nat) (hx:opE l x=some (.val (A7 v k))) (O:lr res r=some (v,.box T es)) (hf:At es k (.val u)) (hT:Sc P t) (hw:ws.contains r=false) :
  Run C P Γ l res ⟨some d,.load t x,ty,pos,after,g⟩ (.val u):=λa w M=>by
 have h1:=(M.vl hx).1;rcases M.conts r v _ O with h2 | ⟨b,o,h2,h3,b',vs,rfl,rfl,h4⟩
 ·exact h2.elim
 ·simp only[AM,Option.some.injEq] at h2;subst h2;obtain⟨pre,post,rfl,hk⟩:=hf;obtain⟨us,ts,rfl,h5,h6⟩:=h4.app
  match ts,h6 with
  | y::ts,⟨h7,h8⟩ =>
   obtain⟨rfl,U⟩:=h7;have hl:=hk _ _ _ h5;rw[Ll] at h1;refine⟨y, λw' a1=>?_,rfl,U⟩;have a2:Bx w' b' (Bd (us++y::ts)).toArray T:=(CW.at a1 M O rfl hw).trans h3;have hc:w'.cell? ⟨b',k,none⟩=some y:=by
    rw[a2.cell];subst hl;simp[Bd,I1 U]
   exact Xn hT h1 hc
theorem ldR {ws:List Nat} [LC C res ws] {α:Type} {R:Rep α} {x':α} {t:TypeId} {x:Operand} (hx:opE l x=some (.rp R x')) (hT:BJ P t R.agg R.sz) :
  Run C P Γ l res ⟨some d,.load t x,ty,pos,after,g⟩ (.rd R x'):=λa w ha=>by
 obtain⟨b,o,cs,h1,h2,h3,h4⟩:=ha.vl hx;refine⟨R.val cs, λw' a1=>?_,cs,h3,rfl⟩;have M:∀ j u,cs[j]? = some u->w'.cell? ((⟨b,o,none⟩:Addr).add j)=some u:=λj u hu=>by
  rw[D8]
  have:=h4 j u hu
  unfold World.cell? at this ⊢;rw[CW.shr a1 h2]; exact this
 have:(loadVar t ⟨b,o,none⟩).run P w'=.ok (R.val cs) w':=by
  unfold BJ at hT;unfold Rep.val
  cases O:R.agg with
  | true =>
   rw[O,if_pos rfl] at hT;obtain⟨U,z,by_,k2⟩:=hT;exact QJ U k2 (R.len h3) M
  | false =>
   rw[O,if_neg (by simp)] at hT;have U:=R.len h3;rw[R.scal O] at U
   match cs,U with
   | [u],_=>exact Le hT (by simpa [Addr.add] using M 0 u rfl)
 simp[execOp,h1,Instr.loadAt,Instr.sureAddr,this]
theorem fa {S:TypeId} {x:Operand} {i:Nat} {v:Value} {k:Nat} {c:AK} {fs:Array Field} {fd:Field} {z:Value} {sz by_:Nat} (r:Nat) (O:opE l x=some (.val (A7 v k))) (U:lr res r=some (v,c)) (hc:∀ S w v o,c.rel S w v o->∃ b,base v=some b) (hn:∀ S w v,¬ c.nil S w v)
  (hS:P.underlying S=some (.struct fs)) (hi:fs[i]? = some fd) (hF:TI P fd.type z (sz+1) by_) :
  Run C P Γ l res ⟨some d,.fieldAddr S x i,ty,pos,after,g⟩ (.val (A7 v (k+fd.offset))):=λa w M=>by
 have h1:=(M.vl O).1;rcases M.conts r v c U with h2 | ⟨b,o,h2,h3,h4⟩
 ·exact(hn _ _ v h2).elim
 ·obtain⟨b',h5⟩:=hc _ w v o h4;rw[Jj h5] at h1 ⊢;exact⟨_, λw' _=>NU hS hi hF h1 (D8 _ _ _),rfl,rfl⟩
theorem XA {T:TypeId} {es:List Ent}:∀ S w v o,(AK.box T es).rel S w v o->∃ b,base v=some b:=λS w v o h=>by
 obtain⟨b,vs,rfl,_⟩:=h; exact⟨b,rfl⟩
theorem QX {α:Type} {R:Rep α} {T:TypeId} {l:List α}:∀ S w v o,(AK.list R T l).rel S w v o->∃ b,base v=some b:=λS w v o h=>by
 obtain⟨b,cap,C,rfl,_⟩:=h; exact⟨b,rfl⟩
theorem faB {S T:TypeId} {x:Operand} {i:Nat} {v:Value} {k:Nat} {es:List Ent} {fs:Array Field} {fd:Field} {z:Value} {sz by_:Nat} (r:Nat) (M:opE l x=some (.val (A7 v k))) (O:lr res r=some (v,.box T es))
  (hS:P.underlying S=some (.struct fs)) (hi:fs[i]? = some fd) (hF:TI P fd.type z (sz+1) by_) :
  Run C P Γ l res ⟨some d,.fieldAddr S x i,ty,pos,after,g⟩ (.val (A7 v (k+fd.offset))):=fa r M O XA (λ_ _ _ h=>h) hS hi hF
theorem AV.ptr {α β:Type} {R:Rep β} {x:β} {off:Nat} {T:Rep α} {y:α} {set:α->β} (p:AV R x off T y set) {S:Blk} {w:World} {v:Value} (h:(Ent.rp R x).holds S w v):∃ b o,v=.pointer (some ⟨b,o,none⟩)/\(Ent.rp T y).holds S w (.pointer (some ⟨b,o+off,none⟩)):=by
 obtain⟨b,o,cs,rfl,h2,h3,O⟩:=h;obtain⟨a,c,d,rfl,U,hc,-⟩:=p S w cs h3;refine⟨b,o,rfl,b,o+off,c,rfl,h2,hc, λj u M=>?_⟩
 have:=O (off+j) u (by
  rw[List.append_assoc,List.getElem?_append_right (by omega),List.getElem?_append_left]
  ·rw[U,Nat.add_sub_cancel_left]; exact M
  ·have:=(List.getElem?_eq_some_iff.1 M).1; omega)
 rw[Nat.add_assoc]; exact this
theorem faR {α β:Type} {R:Rep β} {x':β} {off:Nat} {T:Rep α} {y:α} {set:α->β} {S:TypeId} {x:Operand} {i:Nat} {fs:Array Field} {fd:Field} {z:Value} {sz by_:Nat} (M:opE l x=some (.rp R x')) (p:AV R x' off T y set)
  (hS:P.underlying S=some (.struct fs)) (hi:fs[i]? = some fd) (O:fd.offset=off) (hF:TI P fd.type z (sz+1) by_) :
  Run C P Γ l res ⟨some d,.fieldAddr S x i,ty,pos,after,g⟩ (.rp T y):=λa w U=>by
 obtain⟨b,o,h1,h2⟩:=p.ptr (U.vl M);exact⟨_, λw' _=>NU hS hi hF h1 (D8 _ _ _), by rw[O]; exact h2⟩
theorem ixR {α β:Type} {R:Rep α} {b:List α} {y:α} {k:IntKind} {f:β->Int} {j:β} {x z':Operand} {T e:TypeId} {z:Value} {by_:Nat} (hx:opE l x=some (.rd (A3 R) b)) (hj:opE l z'=some (.rd (Bm k f) j)) (hy:idx b (f j)=some y) (hT:P.underlying T=some (.slice e)) (hE:TI P e z R.sz by_) (M:Nat.blt 0 R.sz=true) :
  Run C P Γ l res ⟨some d,.indexAddr T x z',ty,pos,after,g⟩ (.rp R y):=λa w ha=>by
 obtain⟨cs,⟨p,c,xs,h1,h2,h3,h4⟩,U⟩:=ha.vl hx;subst h1;have M:0<R.sz:=Eq.mp Nat.blt_eq M;have U:a.eval x=.slice p b.length c:=U;obtain⟨k1,k2,k3⟩:=DA hy;have a1:a.eval z'=.int k ((f j).toNat:Int):=by rw[Ca (ha.vl hj)]; congr 1; omega
 obtain⟨a',c',d',q1,q2,q3,-⟩:=h3.split k2;have O:xs≠[]:=λe0=>by have:=h3.len; rw[e0] at this; have h6:=Nat.mul_pos (show 0<b.length by omega) M; simp at this; omega
 rcases h2.2 with ⟨_,h0⟩ | ⟨b',o,sp,cap,hv,g1,g2,g4,g3⟩
 ·omega
 ·obtain rfl:=g4.resolve_left O;simp only[Value.slice.injEq,true_and] at hv;obtain⟨rfl,rfl⟩:=hv;refine⟨.pointer (some ⟨b',o+(f j).toNat * R.sz,none⟩), λw' _=>?_,b',o+(f j).toNat * R.sz,c',rfl,h4 O b' rfl,q3, λi u hu=>?_⟩
  ·generalize (f j).toNat=jn at *;simp[execOp,U,a1,Instr.indexAt,asIntOf,run_underlying hT,k3,D9 hE,D8]
  ·have hi:i<c'.length:=(List.getElem?_eq_some_iff.1 hu).1;rw[Nat.add_assoc];refine g3 _ u ?_;rw[q1,<- q2,List.append_assoc,List.getElem?_append_right (by omega),Nat.add_sub_cancel_left,List.getElem?_append_left hi]; exact hu
theorem ixO {α β:Type} {R:Rep α} {b:List α} {y:α} {k:IntKind} {f:β->Int} {j:β} {x z':Operand} {T e E:TypeId} {z v:Value} {by_:Nat} (r:Nat) (hx:opE l x=some (.val v)) (hr:lr res r=some (v,.list R E b)) (hj:opE l z'=some (.rd (Bm k f) j)) (hy:idx b (f j)=some y) (hT:P.underlying T=some (.slice e)) (hE:TI P e z R.sz by_) :
  Run C P Γ l res ⟨some d,.indexAddr T x z',ty,pos,after,g⟩ (.val (A7 v ((f j).toNat * R.sz))):=λa w M=>by
 have h1:=(M.vl hx).1;obtain⟨k1,k2,O⟩:=DA hy;have U:a.eval z'=.int k ((f j).toNat:Int):=by rw[Ca (M.vl hj)]; congr 1; omega
 rcases M.conts r v _ hr with ⟨_,h2⟩ | ⟨b',o,h2,h3,bb,cap,C',rfl,rfl,_⟩
 ·rw[h2] at O; simp at O
 ·refine⟨.pointer (some ⟨bb,(f j).toNat * R.sz,none⟩), λw' _=>?_,rfl,rfl⟩;generalize (f j).toNat=jn at *;simp[execOp,h1,U,Instr.indexAt,asIntOf,run_underlying hT,O,D9 hE,D8]
theorem ixB {α β:Type} {n:Nat} {b:Vector α n} {y:α} {k:IntKind} {f:β->Int} {j:β} {x z':Operand} {T e E:TypeId} {z v:Value} {by_ sz q:Nat} {es:List Ent} (r:Nat) (U:opE l x=some (.val (A7 v q))) (hr:lr res r=some (v,.box E es)) (hj:opE l z'=some (.rd (Bm k f) j)) (hy:B3 b (f j)=some y) (hT:P.underlying T=some (.array n e)) (hE:TI P e z sz by_) :
  Run C P Γ l res ⟨some d,.indexAddr T x z',ty,pos,after,g⟩ (.val (A7 v (q+(f j).toNat * sz))):=λa w M=>by
 have h1:=(M.vl U).1;obtain⟨k1,k3⟩:=Lk hy;have O:a.eval z'=.int k ((f j).toNat:Int):=by rw[Ca (M.vl hj)]; congr 1; omega
 rcases M.conts r v _ hr with h2 | ⟨b',o,h2,h3,bb,vs,rfl,rfl,_⟩
 ·exact h2.elim
 ·rw[Ll] at h1 ⊢;exact⟨_, λw' _=>NW hT hE h1 O rfl k3 rfl,rfl,rfl⟩
end
end
section
section
variable {C:World->World->Prop} {ρ:Type} {P:Program} {Γ:Ctx} {l:AQ} {res:Res} {m:Option ρ} {os rest:List Oper} {N:ρ->Exit->Act->World->Prop}
 {d:Tmp} {ty:TypeId} {pos:String} {after:Array Edge} {g:Option (Nat × Bool)}
theorem XB {v:Value} {b b':Nat} (h:AM v=some b) (k:base v=some b'):b'=b:=by
 have:=Ji k; rw[h] at this; cases this; rfl
theorem sto' {α:Type} {R:Rep α} {x' y':α} {upd:α->AK} {t:TypeId} {x y:Operand} {v z:Value} {by_ k:Nat} {c:AK} {a:Act} {w:World} (U:Sta Γ l res a w) (r:Nat) (hx:opE l x=some (.val (A7 v k))) (hr:lr res r=some (v,c)) (hf:Foc c k R x' upd)
  (hy:opE l y=some (.rd R y')) (hS:TI P t z R.sz by_):∃ w',(execOp a.eval ⟨none,.store t x y,ty,pos,after,g⟩).run P w=.ok .skip w'/\(Sta Γ l ((r,some (v,upd y'))::res) a w'/\Bj (Shr Γ.H res w) (Shr Γ.H ((r,some (v,upd y'))::res) w') w w')/\Grew res r w w':=by
 have h1:=(U.vl hx).1;obtain⟨cs',M,a6⟩:=U.vl hy;rcases U.conts r v c hr with h2 | ⟨b,o,h2,h3,h4⟩
 ·exact(hf.1 _ _ v h2).elim
 ·obtain⟨b',C,T,a',cs,dd,k1,rfl,k3,rfl,k5,k6⟩:=hf.2 _ w v o h4;rw[Jj k1] at h1;obtain rfl:=XB h2 k1;have hB:Bx w b' C T:=h3;have a1:cs'.length=cs.length:=by rw[R.len M,R.len k5]
  have O:(R.val cs').cells.toList=cs':=Rep.val_cells M;have a7:spl C a'.length (R.val cs').cells.toList=(a'++cs'++dd).toArray:=by
   rw[O]; unfold spl; rw[k3]; congr 1
   simp[a1]
  have a2:=NN (P:=P) (w:=w) (b:=b') (o:=a'.length) (v:=R.val cs') hS (by rw[<- Array.length_toList,O,R.len M]) (by rw[O]; exact R.one M) hB (by
   have:C.toList.length=C.size:=by simp
   rw[k3] at this; simp[R.len k5] at this; omega)
  refine⟨w.setRow b' (a'++cs'++dd).toArray,?_,?_,some b',FL b' _, λb hb=>⟨v,c,hr, by cases hb; exact h2⟩⟩
  ·rw[<- a7];simp[execOp,h1,a6,Instr.storeAt,Instr.sureAddr,a2]
  ·refine U.upd r (FL b' _) (λb hb=>⟨v,c,hr, by cases hb; exact h2⟩) (λb hb=>.inl ⟨v,c,hr,hb⟩) (λS' k'=>.inr ⟨b',_,h2,setRow_heap w b' C _ T _ hB,?_⟩);exact k6 S' _ cs' y' k' (R.mono k' M)
theorem sto {α:Type} {R:Rep α} {x' y':α} {upd:α->AK} {t:TypeId} {x y:Operand} {v z:Value} {by_ k:Nat} {c:AK} (r:Nat) (M:opE l x=some (.val (A7 v k))) (O:lr res r=some (v,c)) (U:Foc c k R x' upd)
  (hy:opE l y=some (.rd R y')) (hS:TI P t z R.sz by_):EffS P Γ l res ⟨none,.store t x y,ty,pos,after,g⟩ r (v,upd y'):=λa w ha=>sto' ha r M O U hy hS
def Ent.ones (e:Ent):Prop:=∀ S w v,e.holds S w v->∀ u∈v.cells.toList,u.oneCell'=true
theorem Do {α:Type} {R:Rep α} {x:α}:(Ent.rd R x).ones:=λS w v h=>by
 obtain⟨cs,h1,rfl⟩:=h;rw[Rep.val_cells h1]; exact R.one h1
theorem Bo {u:Value}:(Ent.val u).ones:=λS w v h=>by
 obtain⟨rfl,h⟩:=h;rw[I1 h]; simpa using h
def Bb (es:List Ent) (k n:Nat) (e:Ent) (es':List Ent):Prop:=∃ pre post e0,es=pre++e0::post/\es'=pre++e::post/\e0.fills n/\∀ S w vs,BI S w pre vs->(Bd vs).length=k
theorem Bb.here {e e0:Ent} {es:List Ent} {n:Nat} (h:e0.fills n):Bb (e0::es) 0 n e (e::es):=⟨[],es,e0,rfl,rfl,h, λS w vs h=>by match vs,h with | [],_=>rfl⟩
theorem Bb.next {e e':Ent} {es es':List Ent} {n k k':Nat} (h:e'.fills k') (p:Bb es k n e es'):Bb (e'::es) (k'+k) n e (e'::es'):=by
 obtain⟨pre,post,e0,rfl,rfl,h1,M⟩:=p;refine⟨e'::pre,post,e0,rfl,rfl,h1, λS w vs hh=>?_⟩
 match vs,hh with
 | u::vs,⟨h1,h2⟩ =>
  have h3:=h S w u h1;rw[Dn,List.length_append,M S w vs h2];simp[h3]
theorem Lm (us ts:List Value):Bd (us++ts)=Bd us++Bd ts:=by simp[Bd]
theorem XC {t T:TypeId} {x y:Operand} {v z:Value} {by_ k n:Nat} {es es':List Ent} {e:Ent} {a:Act} {w:World} (O:Sta Γ l res a w) (r:Nat) (hx:opE l x=some (.val (A7 v k))) (U:lr res r=some (v,.box T es)) (hf:Bb es k n e es')
  (hy:opE l y=some e) (h1e:e.ones) (hn:e.fills n) (hS:TI P t z n by_):∃ w',(execOp a.eval ⟨none,.store t x y,ty,pos,after,g⟩).run P w=.ok .skip w'/\(Sta Γ l ((r,some (v,.box T es'))::res) a w'/\Bj (Shr Γ.H res w) (Shr Γ.H ((r,some (v,.box T es'))::res) w') w w')/\Grew res r w w':=by
 have h1:=(O.vl hx).1;have M:=O.vl hy;rcases O.conts r v _ U with h2 | ⟨b,o,h2,h3,b',vs,rfl,rfl,h4⟩
 ·exact h2.elim
 ·simp only[AM,Option.some.injEq] at h2;subst h2;obtain⟨pre,post,e0,rfl,rfl,a6,hk⟩:=hf;obtain⟨us,ts,rfl,h5,h6⟩:=h4.app
  match ts,h6 with
  | y0::ts,⟨h7,h8⟩ =>
   have hl:=hk _ _ _ h5;rw[Ll] at h1;have hB:Bx w b' (Bd (us++y0::ts)).toArray T:=h3;have a7:y0.cells.toList.length=n:=by have:=a6 _ _ _ h7; simpa using this
   have a1:(a.eval y).cells.size=n:=hn _ _ _ M
   have a2:=NN (P:=P) (w:=w) (b:=b') (o:=k) (v:=a.eval y) hS a1 (h1e _ _ _ M) hB (by
    subst hl
    simp only[List.size_toArray,Lm,Dn,List.length_append]; omega)
   have a8:spl (Bd (us++y0::ts)).toArray k (a.eval y).cells.toList=(Bd (us++a.eval y::ts)).toArray:=by
    subst hl;unfold spl; congr 1
    have:(a.eval y).cells.toList.length=n:=by simpa using a1
    simp only[Lm,Dn,this]
    rw[show ∀ A B Cc:List Value,A.length+n=(A++B).length->List.drop (A.length+n) (A++(B++Cc))=Cc by
     intro A B Cc h; rw[h,<- List.append_assoc,List.drop_left']; rfl]
    ·simp
    ·simp[a7]
   refine⟨w.setRow b' (Bd (us++a.eval y::ts)).toArray,?_,?_,some b',FL b' _, λb hb=>⟨_,_,U, by cases hb; rfl⟩⟩
   ·rw[<- a8];simp[execOp,h1,Instr.storeAt,Instr.sureAddr,a2]
   ·refine O.upd r (FL b' _) (λb hb=>⟨_,_,U, by cases hb; rfl⟩) (λb hb=>.inl ⟨_,_,U,hb⟩) (λS' k'=>.inr ⟨b',_,rfl,setRow_heap w b' _ _ T _ hB,b',us++a.eval y::ts,rfl,rfl,?_⟩);exact(h5.mono k').mk ⟨e.mono k' M,h8.mono k'⟩
theorem Dp {t T:TypeId} {x y:Operand} {v z:Value} {by_ k n:Nat} {es es':List Ent} {e:Ent} (r:Nat) (M:opE l x=some (.val (A7 v k))) (O:lr res r=some (v,.box T es)) (U:Bb es k n e es')
  (hy:opE l y=some e) (h1e:e.ones) (hn:e.fills n) (hS:TI P t z n by_):EffS P Γ l res ⟨none,.store t x y,ty,pos,after,g⟩ r (v,.box T es'):=λa w ha=>XC ha r M O U hy h1e hn hS
def Ent.vw {α:Type} (R:Rep α) (v:Value) (b x:List α):Ent:=⟨λ_ _ u=>(u=v/\x=b/\u.oneCell'=true)\/(u=.slice none 0 0/\x=[])\/∃ k o sp cap i,u=.slice (some ⟨k,o,sp⟩) x.length cap/\AM v=some k/\x.length<=cap/\cap<=maxLen/\(x≠[]->sp=none/\o=i * R.sz)/\(b.drop i).take x.length=x, λ_ h=>h⟩
def Ent.vp {α:Type} (R:Rep α) (v:Value) (b:List α) (y:α):Ent:=⟨λ_ _ u=>∃ k i,u=.pointer (some ⟨k,i * R.sz,none⟩)/\AM v=some k/\b[i]? = some y, λ_ h=>h⟩
inductive Vw {α:Type} (R:Rep α) (res:Res):Ent->List α->Prop
 | rd {b:List α}:Vw R res (.rd (A3 R) b) b
 | own {v:Value} {T:TypeId} {b:List α} (r:Nat) (h:lr res r=some (v,.list R T b)):Vw R res (.val v) b
 | nil:Vw R res (.val (.slice none 0 0)) []
 | vw {v:Value} {T:TypeId} {b x:List α} (r:Nat) (h:lr res r=some (v,.list R T b)):Vw R res (.vw R v b x) x
 | seg {v:Value} {T:TypeId} {b:List α} (r:Nat) (h:lr res r=some (v,.seg R T b)):Vw R res (.val v) b
theorem Vw.get {α:Type} {R:Rep α} {e:Ent} {b:List α} (h:Vw R res e b) {a:Act} {w:World} (ha:Sta Γ l res a w) {v:Value} (U:e.holds (Shr Γ.H res w) w v) :
  ∃ p c xs,v=.slice p b.length c/\Rd w (.slice p b.length c) b.length R.sz xs/\B5 R (Shr Γ.H res w) w xs b:=by
 cases h with
 | rd =>
  obtain⟨cs,⟨p,c,xs,h1,h2,h3,h4⟩,h5⟩:=U;subst h1;exact⟨p,c,xs,h5,h2,h3⟩
 | own r h =>
  obtain⟨rfl,-⟩:=U;obtain⟨xs,h1,h2⟩:=EG (ha.conts r v _ h);obtain⟨p,c,rfl⟩:=DT h1;exact⟨p,c,xs,rfl,Rd.of_own h1,h2⟩
 | nil =>
  obtain⟨rfl,-⟩:=U;exact⟨none,0,[],rfl,Rd.nil _ _,rfl⟩
 | vw r h =>
  rename_i u T bl;rcases U with ⟨rfl,rfl,-⟩ | ⟨rfl,rfl⟩ | ⟨k,o,sp,cap,i,rfl,hk,h1,h2,h3,h4⟩
  ·obtain⟨xs,h1,h2⟩:=EG (ha.conts r _ _ h);obtain⟨p,c,rfl⟩:=DT h1;exact⟨p,c,xs,rfl,Rd.of_own h1,h2⟩
  ·exact⟨none,0,[],rfl,Rd.nil _ _,rfl⟩
  ·rcases ha.conts r u _ h with ⟨q1,-⟩ | ⟨b',ob,g1,g2,bb,cp,Cc,rfl,rfl,g3,g4,g5,g6⟩
   ·rw[q1] at hk; cases hk
   ·simp only[AM,Option.some.injEq] at g1 hk;subst g1; subst hk;have O:=(g6.drop i).take b.length;rw[h4] at O;refine⟨_,cap,_,rfl,⟨O.len,.inr ⟨bb,o,sp,cap,rfl,h1,h2,?_, λj w0 M=>?_⟩⟩,O⟩
    ·by_cases hx:b=[]
     ·left; rw[hx]; simp
     ·exact .inr (h3 hx).1
    ·have hx:b≠[]:=λe=>by rw[e] at M; simp at M
     obtain⟨-,rfl⟩:=h3 hx;rw[List.getElem?_take] at M
     split at M
     ·rw[List.getElem?_drop,List.getElem?_take] at M
      split at M
      ·unfold World.cell?;rw[g2]; simpa using M
      ·cases M
     ·cases M
 | seg r h =>
  obtain⟨rfl,-⟩:=U;rcases ha.conts r v _ h with ⟨rfl,rfl⟩ | ⟨b',ob,g1,g2,bb,off,cap,C,rfl,rfl,g3,g4,g5,g6⟩
  ·exact⟨none,0,[],rfl,Rd.nil _ _,rfl⟩
  ·simp only[AM,Option.some.injEq] at g1;subst g1;refine⟨_,cap,_,rfl,⟨g6.len,.inr ⟨bb,off,none,cap,rfl,g3,g4,.inr rfl, λj w0 M=>?_⟩⟩,g6⟩;rw[List.getElem?_take] at M
   split at M
   ·unfold World.cell?;rw[g2,List.getElem?_drop] at *
    simpa using M
   ·cases M
theorem Ar {α:Type} {R:Rep α} {b:List α} {x:Operand} {T e:TypeId} {at_:Array TypeId} {E:Ent} (U:opE l x=some E) (hv:Vw R res E b) (M:at_[0]? = some T) (hT:P.underlying T=some (.slice e)) :
  Run C P Γ l res ⟨some d,.call ⟨.builtin .len,#[x],at_⟩,ty,pos,after,g⟩ (.rd A2 (b.length:Int)):=λa w O=>by
 obtain⟨p,c,xs,h1,h2,h3⟩:=hv.get O (O.vl U);exact⟨_, λw' _=>QS M hT h1,Dt⟩
def cut {α:Type} (b:List α) (i j:Int):Option (List α):=if 0<=i/\i<=j/\j<=b.length then some ((b.drop i.toNat).take (j.toNat - i.toNat)) else none
theorem QY {α:Type} {b b':List α} {i j:Int} (h:cut b i j=some b'):0<=i/\i<=j/\j<=b.length/\(b.drop i.toNat).take (j.toNat - i.toNat)=b':=by
 unfold cut at h
 split at h
 ·rename_i hh; cases h; exact⟨hh.1,hh.2.1,hh.2.2,rfl⟩
 ·cases h
inductive Bnd (l:AQ) (dflt:Int):Option Operand->Int->Prop
 | no:Bnd l dflt none dflt
 | to {α:Type} {k:IntKind} {f:α->Int} {x:Operand} {j:α} (h:opE l x=some (.rd (Bm k f) j)):Bnd l dflt (some x) (f j)
theorem Bnd.get {x:Option Operand} {dflt i:Int} (h:Bnd l dflt x i) {a:Act} {w:World} (M:Sta Γ l res a w):(x=none/\i=dflt)\/∃ y k,x=some y/\a.eval y=.int k i:=by
 cases h with
 | no=>exact .inl ⟨rfl,rfl⟩
 | to h=>exact .inr ⟨_,_,rfl,Ca (M.vl h)⟩
theorem I4 {isS:Bool} {n cp:Nat} {lo hi:Option Operand} {i j:Int} (O:Bnd l 0 lo i) (U:Bnd l (n:Int) hi j) {a:Act} {w:World} (ha:Sta Γ l res a w) (h0:0<=i) (a2:i<=j) (hj:j<=n) (a1:n<=cp) (w':World) :
  (Instr.sliceBounds isS n cp (lo.map a.eval) (hi.map a.eval) none).run P w'=.ok (i.toNat,j.toNat,cp) w':=by
 obtain⟨i',rfl⟩:∃ i':Nat,i=(i':Int):=⟨i.toNat, by omega⟩
 obtain⟨j',rfl⟩:∃ j':Nat,j=(j':Int):=⟨j.toNat, by omega⟩
 have e1:¬ ((cp:Int)<(j':Int)):=by omega
 have h1:(j':Int)<=(cp:Int):=by omega
 have h2:j'<=cp:=by omega
 have h3:i'<=j':=by omega
 rcases O.get ha with ⟨rfl,a6⟩ | ⟨y,k,rfl,hy⟩ <;> rcases U.get ha with ⟨rfl,a7⟩ | ⟨y',k',rfl,M⟩
 ·have:i'=0:=by omega
  have:j'=n:=by omega
  subst i' j';simp[Instr.sliceBounds]
 ·have:i'=0:=by omega
  subst i';simp[Instr.sliceBounds,M,Instr.sliceBound,asIntOf,h2]
 ·have:j'=n:=by omega
  subst j';simp[Instr.sliceBounds,hy,Instr.sliceBound,asIntOf,h3]
 ·simp[Instr.sliceBounds,hy,M,Instr.sliceBound,asIntOf,h2,h3]
theorem cut' {α:Type} {R:Rep α} {b b':List α} {x:Operand} {lo hi:Option Operand} {i j:Int} {T e:TypeId} {z:Value} {by_:Nat} (hx:opE l x=some (.rd (A3 R) b)) (a2:Bnd l 0 lo i) (a6:Bnd l (b.length:Int) hi j) (hb:cut b i j=some b')
  (hT:P.underlying T=some (.slice e)) (hE:TI P e z R.sz by_):Run C P Γ l res ⟨some d,.slice T x lo hi none,ty,pos,after,g⟩ (.rd (A3 R) b'):=λa w ha=>by
 obtain⟨h1,h2,h3,rfl⟩:=QY hb;obtain⟨cs,⟨p,c,xs,k1,k2,k3,k4⟩,O⟩:=ha.vl hx;subst k1;have O:a.eval x=.slice p b.length c:=O;have U:b.length<=c:=by
  rcases k2.2 with ⟨hv,h0⟩ | ⟨_,o,sp,cap,hv,g1,_⟩
  ·omega
  ·simp only[Value.slice.injEq,true_and] at hv; omega
 have M:((b.drop i.toNat).take (j.toNat - i.toNat)).length=j.toNat - i.toNat:=by simp; omega
 have a1:=k2.sub rfl (i:=i.toNat) (j:=j.toNat) (by omega) (by omega);refine⟨.slice (if c=i.toNat then p else p.map (·.add (i.toNat * R.sz))) ((b.drop i.toNat).take (j.toNat - i.toNat)).length (c - i.toNat), λw' _=>?_,_,⟨_,_,_,rfl, by rw[M]; exact a1,?_, λa7 bb a8=>?_⟩,rfl⟩
 ·have hb:=I4 (P:=P) (isS:=true) a2 a6 ha h1 h2 h3 U w';rw[M];simp only[execOp,Instr.sliceAt,O,Sem.run_bind,run_underlying hT,Result.andThen,Instr.slice,hb,D9 hE,Sem.run_pure,Option.map_none]
 ·have:=(k3.drop i.toNat).take (j.toNat - i.toNat)
  exact this
 ·refine k4 (λe0=>a7 (by rw[e0]; simp)) bb ?_
  have h7:=WR (p:=p) (m:=b.length) (cp:=c) (i:=i.toNat) (j:=j.toNat - i.toNat) (k:=c - i.toNat) (sz:=R.sz);rw[I0,I0] at h7;rw[<- h7]; exact a8
end
end
section
def Zr {α:Type} (R:Rep α) (cs:List Value) (x:α):Prop:=∀ S w,R.rel S w cs x
theorem Zr.num {α:Type} {k:IntKind} {f:α->Int} {x:α} {n:Int} (h:f x=n):Zr (Bm k f) [.int k n] x:=λ_ _=>by subst h; rfl
theorem Zr.bool {b:Bool}:Zr Ai [.bool b] b:=λ_ _=>rfl
theorem Zr.str:Zr CB [.string ByteArray.empty] []:=λ_ _=>⟨_,rfl,rfl⟩
theorem Zr.slice {α:Type} {R:Rep α}:Zr (A3 R) [.slice none 0 0] []:=λ_ w=>⟨none,0,[],rfl,Rd.nil _ _,rfl, by simp⟩
theorem Zr.unit:Zr E3 [] ():=λ_ _=>rfl
theorem Zr.prod {α β:Type} {R:Rep α} {T:Rep β} {c d cs:List Value} {x:α} {y:β} (h:Zr R c x) (k:Zr T d y) (e:c++d=cs):Zr (C3 R T) cs (x,y):=λS w=>⟨c,d,e.symm,h S w,k S w⟩
theorem Zr.via {α β:Type} {R:Rep α} {g:β->α} {cs:List Value} {x:β} (h:Zr R cs (g x)):Zr (DK g R) cs x:=h
theorem Zr.rep {α:Type} {R:Rep α} {c:List Value} {x:α} (h:Zr R c x) (S:Blk) (w:World):∀ n,B5 R S w (List.replicate n c).flatten (List.replicate n x)
 | 0=>rfl
 | n+1=>⟨c,_, by simp[List.replicate_succ],h S w,Zr.rep h S w n⟩
theorem Zr.arr {α:Type} {R:Rep α} {c cs:List Value} {x:α} {n:Nat} (h:Zr R c x) (e:(List.replicate n c).flatten=cs):Zr (Av n R) cs (Vector.replicate n x):=λS w=>by
 subst e;show B5 R S w _ (Vector.replicate n x).toList;rw[Vector.toList_replicate]; exact h.rep S w n
def app {α:Type} (by_:Nat) (b c:List α):Option (List α):=if (b.length+c.length) * by_<=140737488355328 then some (b++c) else none
theorem QZ {α:Type} {by_:Nat} {b c d:List α} (h:app by_ b c=some d):(b.length+c.length) * by_<=140737488355328/\b++c=d:=by
 unfold app at h; split at h
 ·cases h; exact⟨‹_›,rfl⟩
 ·cases h
def mkn {α:Type} (by_:Nat) (x:α) (n:Int):Option (List α):=if 0<=n/\by_ * n.toNat<=281474976710656/\n<=9223372036854775807 then some (List.replicate n.toNat x) else none
theorem Ln {α:Type} {by_:Nat} {x:α} {n:Int} {b:List α} (h:mkn by_ x n=some b):0<=n/\by_ * n.toNat<=281474976710656/\n.toNat<=9223372036854775807/\List.replicate n.toNat x=b:=by
 unfold mkn at h; split at h
 ·rename_i hh; cases h; exact⟨hh.1,hh.2.1, by omega,rfl⟩
 ·cases h
theorem Ew {p:Option Addr} {n c:Nat}:AM (.slice p n c)=(Value.slice p n c).ownBlock:=by cases p <;> rfl
theorem S0 {z:Array Value} {n s:Nat} (M:z.size=s) (O:0<s):(madeCells z (n * s)).toList=(List.replicate n z.toList).flatten:=by
 subst M
 apply List.ext_getElem?
 intro i;have key:∀ (n:Nat) (i:Nat),(List.replicate n z.toList).flatten[i]? = if i<n * z.size then z[i % z.size]? else none:=by
  intro n
  induction n with
  | zero=>intro i; simp
  | succ n U =>
   intro i;rw[List.replicate_succ,List.flatten_cons,List.getElem?_append];have e:(n+1) * z.size=n * z.size+z.size:=by rw[Nat.add_mul]; omega
   split
   ·rename_i hi;have hi:i<z.size:=by simpa using hi
    rw[if_pos (by omega),Nat.mod_eq_of_lt hi]; simp
   ·rename_i hi;have hi:z.size<=i:=by simpa using hi
    rw[U];simp only[Array.length_toList];rw[Nat.mod_eq_sub_mod hi];by_cases h:i - z.size<n * z.size
    ·rw[if_pos h,if_pos (by omega)]
    ·rw[if_neg h,if_neg (by omega)]
 rw[key];simp only[madeCells,Array.toList_map,Array.toList_range,List.getElem?_map,List.getElem?_range];by_cases h:i<n * z.size
 ·have hm:=Nat.mod_lt i O;simp[h,List.getElem?_range h,hm]
 ·simp[h]
section
variable {C:World->World->Prop} {ρ:Type} {P:Program} {Γ:Ctx} {l:AQ} {res:Res} {m:Option ρ} {os rest:List Oper} {N:ρ->Exit->Act->World->Prop}
 {d:Tmp} {ty:TypeId} {pos:String} {after:Array Edge} {g:Option (Nat × Bool)}
theorem app0 {α:Type} {R:Rep α} {b U b3:List α} {x y:Operand} {v z:Value} {E:Ent} {T e:TypeId} {by_:Nat} {a:Act} {w:World} (O:Sta Γ l res a w) (r:Nat) (hx:opE l x=some (.val v)) (hr:lr res r=some (v,.list R e b)) (hy:opE l y=some E) (hv:Vw R res E U) (hb:app by_ b U=some b3)
  (hT:P.underlying T=some (.slice e)) (hE:TI P e z R.sz by_) (hz:z.cells.size=R.sz) (h0:Nat.blt 0 R.sz=true) (h1:Nat.blt 0 by_=true) :
  ∃ w' v',(execOp a.eval ⟨some d,.call ⟨.builtin .append,#[x,y],#[T,T]⟩,ty,pos,after,g⟩).run P w=.ok (.value v') w'/\(Sta Γ l ((r,some (v',.list R e b3))::res) a w'/\Bj (Shr Γ.H res w) (Shr Γ.H ((r,some (v',.list R e b3))::res) w') w w')/\v'.oneCell'=true/\Grew res r w w':=by
 have h0:0<R.sz:=Eq.mp Nat.blt_eq h0;have h1:0<by_:=Eq.mp Nat.blt_eq h1;obtain⟨a1,rfl⟩:=QZ hb;have e1:=(O.vl hx).1;obtain⟨q,c2,news,e2,k1,k2⟩:=hv.get O (O.vl hy);obtain⟨xs,k3,k4⟩:=EG (O.conts r v _ hr);obtain⟨p,c,rfl⟩:=DT k3;have a2:b.length+U.length<=140737488355328:=Nat.le_trans (Nat.le_mul_of_pos_right _ h1) a1;obtain⟨p',c',w',g1,g2,g3,g4⟩:=QL (rt:=ty) hT hE hz h0 k3 k1 k2.one (by omega) a1 (Nat.zero_le _)
 refine⟨w',.slice p' (b.length+U.length) c',?_,?_,rfl,_,g3, λbb M=>⟨_,_,hr, by rw[Ew]; exact M⟩⟩
 ·simp[execOp,resolve,invoke,builtin,e1,e2,g1]
 ·refine O.upd r g3 (λbb M=>⟨_,_,hr, by rw[Ew]; exact M⟩) (λbb M=>?_) (λS' k'=>?_)
  ·rw[Ew] at M;rcases g4 bb M with h | h
   ·exact .inl ⟨_,_,hr, by rw[Ew]; exact h⟩
   ·exact .inr h
  ·exact Lf (B:=0) (xs:=xs++news) (by rw[List.length_append]; exact g2) ((k4.mono k').append (k2.mono k'))
theorem apn {α:Type} {R:Rep α} {b M O:List α} {x y:Operand} {v z:Value} {E:Ent} {T e:TypeId} {by_:Nat} (r:Nat) (U:opE l x=some (.val v)) (hr:lr res r=some (v,.list R e b)) (hy:opE l y=some E) (hv:Vw R res E M) (hb:app by_ b M=some O)
  (hT:P.underlying T=some (.slice e)) (hE:TI P e z R.sz by_) (hz:z.cells.size=R.sz) (h0:Nat.blt 0 R.sz=true) (h1:Nat.blt 0 by_=true) :
  Eff P Γ l res ⟨some d,.call ⟨.builtin .append,#[x,y],#[T,T]⟩,ty,pos,after,g⟩ r (λu=>(u,.list R e O)):=λa w ha=>app0 ha r U hr hy hv hb hT hE hz h0 h1
theorem mk0 {α:Type} {R:Rep α} {x0:α} {b:List α} {x y:Operand} {z:Value} {T e:TypeId} {by_:Nat} {n:Int} {a:Act} {w:World} (M:Sta Γ l res a w) (r:Nat) (hx:opE l x=some (.rd A2 n)) (hy:opE l y=some (.rd A2 n)) (hb:mkn by_ x0 n=some b)
  (hT:P.underlying T=some (.slice e)) (hE:TI P e z R.sz by_) (U:Zr R z.cells.toList x0) (O:Nat.blt 0 R.sz=true) :
  ∃ w' v',(execOp a.eval ⟨some d,.makeSlice T x y,ty,pos,after,g⟩).run P w=.ok (.value v') w'/\(Sta Γ l ((r,some (v',.list R e b))::res) a w'/\Bj (Shr Γ.H res w) (Shr Γ.H ((r,some (v',.list R e b))::res) w') w w')/\v'.oneCell'=true/\Grew res r w w':=by
 have O:0<R.sz:=Eq.mp Nat.blt_eq O;obtain⟨h1,h2,h3,rfl⟩:=Ln hb;obtain⟨n',rfl⟩:∃ n':Nat,n=(n':Int):=⟨n.toNat, by omega⟩
 simp only[Int.toNat_natCast] at h2 h3 ⊢;obtain⟨ti,g1,g2,g3,g4⟩:=hE;have a1:z.cells.size=R.sz:=by rw[<- Array.length_toList]; exact R.len (U (λ_=>True) w)
 obtain⟨w',hr,ho,hg⟩:=run_make_full (P:=P) w 0 T e ti z R.sz hT g1 g2 g3 .i64 .i64 n' (by rw[g4]; exact h2) (by unfold maxLen; omega) (Nat.zero_le _);refine⟨w',.slice (some ⟨w.heap.size,0,none⟩) n' n',?_,?_,rfl,_,hg, by simp⟩
 ·have e1:=Ca (M.vl hx);have e2:=Ca (M.vl hy);simp only[id] at e1 e2;simp[execOp,e1,e2,hr]
 ·refine M.upd r hg (by simp) (λbb a2=>.inr (by simp[AM] at a2; omega)) (λS' k'=>?_);refine Lf (B:=0) (xs:=(madeCells z.cells (n' * R.sz)).toList) (by simpa using ho) ?_;rw[S0 a1 O]; exact U.rep _ _ _
theorem mks {α:Type} {R:Rep α} {x0:α} {b:List α} {x y:Operand} {z:Value} {T e:TypeId} {by_:Nat} {n:Int} (r:Nat) (M:opE l x=some (.rd A2 n)) (O:opE l y=some (.rd A2 n)) (hb:mkn by_ x0 n=some b)
  (hT:P.underlying T=some (.slice e)) (hE:TI P e z R.sz by_) (U:Zr R z.cells.toList x0) (h0:Nat.blt 0 R.sz=true) :
  Eff P Γ l res ⟨some d,.makeSlice T x y,ty,pos,after,g⟩ r (λu=>(u,.list R e b)):=λa w ha=>mk0 ha r M O hb hT hE U h0
def RdO {α:Type} (l:AQ) (R:Rep α) (o:Operand) (x:α):Prop:=opE l o=some (.rd R x)\/∃ v,o=.const v/\∀ S w,R.vrel S w v x
theorem RdO.get {α:Type} {R:Rep α} {x:α} {o:Operand} {a:Act} {w:World} (M:Sta Γ l res a w) (h:RdO l R o x):R.vrel (Shr Γ.H res w) w (a.eval o) x:=by
 rcases h with h | ⟨v,rfl,h⟩
 ·exact M.vl h
 ·exact h _ _
def RdA {α:Type} (l:AQ) (R:Rep α):List Operand->List α->Prop
 | [],[]=>True
 | o::os,x::xs=>RdO l R o x/\RdA l R os xs
 | _,_=>False
theorem RdA.get {α:Type} {R:Rep α} {a:Act} {w:World} (U:Sta Γ l res a w):∀ {os:List Operand} {xs:List α},RdA l R os xs->B5 R (Shr Γ.H res w) w (Bd (os.map a.eval)) xs/\os.length=xs.length/\∀ u∈os.map a.eval,u.cells.size=R.sz
 | [],[],_=>⟨rfl,rfl, by simp⟩
 | o::os,x::xs,h=>by
  obtain⟨h1,h2,h3⟩:=RdA.get U h.2;obtain⟨cs,O,k2⟩:=h.1.get U;have k3:(a.eval o).cells.toList=cs:=by rw[k2]; exact Rep.val_cells O
  refine⟨⟨cs,_, by simp[Dn,k3],O,h1⟩, by simp[h2], λu M=>?_⟩;simp only[List.map_cons,List.mem_cons] at M;rcases M with rfl | M
  ·rw[<- Array.length_toList,k3,R.len O]
  ·exact h3 u M
 | [],_::_,h=>h.elim
 | _::_,[],h=>h.elim
theorem XD (v:List Value):∀ (C:Array Value) (o j:Nat),o+j+v.length<=C.size->(v.zipIdx j).foldl (λcs (x:Value × Nat)=>cs.setIfInBounds (o+x.2) x.1) C=spl C (o+j) v:=by
 induction v with
 | nil=>intro C o j h; simp[spl]
 | cons u v M =>
  intro C o j h;simp only[List.length_cons] at h;simp only[List.zipIdx_cons,List.foldl_cons];rw[M _ _ _ (by simp; omega)];unfold spl
  congr 1
  have e:C.toList.length=C.size:=by simp
  simp only[Array.toList_setIfInBounds]
  apply List.ext_getElem?
  intro i;simp only[List.getElem?_append,List.length_append,List.length_take,List.length_set,e,List.getElem?_take,List.getElem?_set,List.getElem?_drop,List.length_cons,List.getElem?_cons]
  repeat' split
  all_goals (first | rfl | omega | (congr 1; omega) | skip)
theorem NY {place:Nat->Option (Nat × Nat)} {C:Array Value} {i o s:Nat} {v:Value} {rest:List (Nat × Value)} (O:place i=some (o,s)) (U:v.cells.size=s) (M:o+s<=C.size) :
  Instr.fill place C ((i,v)::rest)=Instr.fill place (spl C o v.cells.toList) rest:=by
 subst U
 have:=XD v.cells.toList C o 0 (by simpa using M)
 simp only[Nat.add_zero] at this;have e2:v.cells.zipIdx.foldl (λcs (x:Value × Nat)=>cs.setIfInBounds (o+x.2) x.1) C=spl C o v.cells.toList:=by
  rw[<- this,<- Array.foldl_toList]; simp
 simp only[Instr.fill,O];rw[if_neg (by simp; omega)];exact congrArg (λc=>Instr.fill place c rest) e2
theorem Lo {sz:Nat}:∀ (vs:List Value) (j:Nat) (C:Array Value),(∀ u∈vs,u.cells.size=sz)->C.size=(j+vs.length) * sz ->
  Instr.fill (λi=>some (i * sz,sz)) C ((vs.zipIdx j).map λx=>(x.2,x.1))=some (C.toList.take (j * sz)++Bd vs).toArray
 | [],j,C,h,hC=>by
  have h1:C.size=j * sz:=hC;have h2:C.toList.take (j * sz)=C.toList:=List.take_of_length_le (by rw[Array.length_toList]; omega);simp[Instr.fill,Bd,h2]
 | u::vs,j,C,h,hC=>by
  have M:u.cells.size=sz:=h u (by simp);have e:C.toList.length=C.size:=by simp
  simp only[List.length_cons] at hC;have e3:(j+(vs.length+1)) * sz=j * sz+(sz+vs.length * sz):=by rw[Nat.add_mul,Nat.add_mul]; omega
  simp only[List.zipIdx_cons,List.map_cons];rw[NY (o:=j * sz) (s:=sz) rfl M (by omega),Lo vs (j+1) _ (λu M=>h u (by simp[M])) ?_]
  ·congr 2
   have O:u.cells.toList.length=sz:=by simpa using M
   rw[Dn,<- List.append_assoc]
   congr 1
   unfold spl;rw[List.take_left'];simp only[List.length_append,List.length_take,e,O];rw[Nat.min_eq_left (by omega),Nat.add_mul]; omega
  ·unfold spl;have O:u.cells.toList.length=sz:=by simpa using M
   simp only[List.size_toArray,List.length_append,List.length_take,List.length_drop,O,e,hC];rw[show (j+1+vs.length) * sz=j * sz+(sz+vs.length * sz) by rw[Nat.add_mul,Nat.add_mul]; omega];omega
theorem lit0 {α:Type} {R:Rep α} (b:List α) {n:Nat} {xs:List Operand} {parts:Array (Nat × Operand)} {z:Value} {T e:TypeId} {by_:Nat} {a:Act} {w:World} (ha:Sta Γ l res a w) (r:Nat) (hp:parts=(xs.zipIdx.map λx=>(x.2,x.1)).toArray) (hx:RdA l R xs b) (hl:b.length=n)
  (hT:P.underlying T=some (.slice e)) (hE:TI P e z R.sz by_) (O:Nat.blt 0 R.sz=true) (U:Nat.ble (n * R.sz) 16777216=true) :
  ∃ w' v',(execOp a.eval ⟨some d,.buildSlice T n parts,ty,pos,after,g⟩).run P w=.ok (.value v') w'/\(Sta Γ l ((r,some (v',.list R e b))::res) a w'/\Bj (Shr Γ.H res w) (Shr Γ.H ((r,some (v',.list R e b))::res) w') w w')/\v'.oneCell'=true/\Grew res r w w':=by
 have O:0<R.sz:=Eq.mp Nat.blt_eq O;have U:n * R.sz<=16777216:=Nat.le_of_ble_eq_true U;subst hl;obtain⟨k1,k2,k3⟩:=RdA.get ha hx;have hc:Instr.fill (λi=>some (i * R.sz,R.sz)) (Gp z (b.length * R.sz)) ((xs.map a.eval).zipIdx.map λx=>(x.2,x.1))=some (Bd (xs.map a.eval)).toArray:=by
  have:=Lo (xs.map a.eval) 0 (Gp z (b.length * R.sz)) k3 (by simp[Gp,k2])
  simpa using this
 have a2:(parts.map λ(i,x)=>(i,a.eval x)).toList=(xs.map a.eval).zipIdx.map λx=>(x.2,x.1):=by
  subst hp;simp[List.zipIdx_map]
 have a1:=QK (P:=P) (w:=w) (m:=b.length) (vs:=parts.map λ(i,x)=>(i,a.eval x)) hT hE U (by rw[a2]; exact hc);have M:=k1.len;refine⟨w.alloc (.cells (Bd (xs.map a.eval)).toArray e),.slice (some ⟨w.heap.size,0,none⟩) b.length b.length,?_,?_,rfl,_,EJ w _, by simp⟩
 ·simp only[execOp,Sem.run_bind,a1,Result.andThen,Sem.run_pure]
 ·refine ha.upd r (c:=.list R e b) (v:=.slice (some ⟨w.heap.size,0,none⟩) b.length b.length) (EJ w _) (by simp) (λbb a6=>.inr (by simp[AM] at a6; omega)) (λS' k'=>?_);refine .inr ⟨w.heap.size,_,rfl,heap_alloc_new _ _,w.heap.size,b.length,_,rfl,rfl,Nat.le_refl _,?_, by simp[M],?_⟩
  ·have:b.length<=b.length * R.sz:=Nat.le_mul_of_pos_right _ O
   unfold maxLen; omega
  ·simp only[];rw[<- M,List.take_length]; exact k1.mono k'
theorem lits {α:Type} {R:Rep α} (b:List α) {n:Nat} (xs:List Operand) {parts:Array (Nat × Operand)} {z:Value} {T e:TypeId} {by_:Nat} (r:Nat) (M:parts=(xs.zipIdx.map λx=>(x.2,x.1)).toArray) (O:RdA l R xs b) (hl:b.length=n)
  (hT:P.underlying T=some (.slice e)) (hE:TI P e z R.sz by_) (U:Nat.blt 0 R.sz=true) (hm:Nat.ble (n * R.sz) 16777216=true) :
  Eff P Γ l res ⟨some d,.buildSlice T n parts,ty,pos,after,g⟩ r (λu=>(u,.list R e b)):=λa w ha=>lit0 b ha r M O hl hT hE U hm
theorem Sta.nil {a:Act} {w:World} (M:Sta Γ l res a w) {α:Type} (R:Rep α) (T:TypeId) (r:Nat):Sta Γ l ((r,some (.slice none 0 0,.list R T []))::res) a w :=
 (M.upd r (v:=.slice none 0 0) (c:=.list R T []) (wr:=none) Ext.rfl'.gb (by simp) (by simp[AM]) (λS' k'=>.inl ⟨rfl,rfl⟩)).1
theorem xNil {X:ρ->Act->World->Prop} {α:Type} (R:Rep α) (T:TypeId) (r:Nat) (k:GX X (Sta Γ l ((r,some (.slice none 0 0,.list R T []))::res)) m):GX X (Sta Γ l res) m:=λa w M=>k a w (M.nil R T r)
def FrL (l:AQ) (v:Value):List Nat->Prop
 | []=>True
 | t::ts=>lk l t=some (.val v)/\FrL l v ts
theorem fN {v:Value}:FrL l v []:=trivial
theorem fS {v:Value} {t:Nat} {ts:List Nat} (h:lk l t=some (.val v)) (k:FrL l v ts):FrL l v (t::ts):=⟨h,k⟩
theorem FrL.get {v:Value} {t:Nat}:∀ {ts:List Nat},FrL l v ts->t∈ts->lk l t=some (.val v)
 | t0::ts,h,M=>by
  rcases List.mem_cons.1 M with rfl | M
  ·exact h.1
  ·exact FrL.get h.2 M
theorem Lp {e:Ent} {t:Nat}:∀ (ts:List Nat),lk (ts.map (λt=>(t,e))++l) t=if t∈ts then some e else lk l t
 | []=>by simp
 | t0::ts=>by
  rw[List.map_cons,List.cons_append,C4,Lp ts];by_cases h:t0=t
  ·subst h; simp
  ·simp[h,Ne.symm h]
theorem Sta.frz {a:Act} {w:World} (O:Sta Γ l res a w) {α:Type} {R:Rep α} {T:TypeId} {b:List α} {v:Value} (r:Nat) (ts:List Nat) (hr:lr res r=some (v,.list R T b)) (ht:FrL l v ts):Sta Γ (ts.map (λt=>(t,.rd (A3 R) b))++l) ((r,none)::res) a w:=by
 have a6:Bj (Shr Γ.H res w) (Shr Γ.H ((r,none)::res) w) w w:=λbb hb=>⟨⟨hb.1, λr' v' c' M=>by
  rw[BB] at M
  split at M
  ·cases M
  ·exact hb.2.1 r' v' c' M,hb.2.2⟩,rfl⟩
 have U:∀ r' v' c',lr ((r,none)::res) r'=some (v',c')->r≠r'/\lr res r'=some (v',c'):=λr' v' c' M=>by
  rw[BB] at M
  split at M
  ·cases M
  ·exact⟨‹_›,M⟩
 refine⟨O.size,O.defers, λt' e a2=>?_, λr' v' c' M=>(O.conts r' v' c' (U _ _ _ M).2).mono a6 (λ_ _=>rfl), λr1 v1 c1 r2 v2 c2 h1 h2 a7=>O.excl r1 v1 c1 r2 v2 c2 (U _ _ _ h1).2 (U _ _ _ h2).2 a7, λr' v' c' M=>O.own r' v' c' (U _ _ _ M).2,O.keep,O.old,O.hid⟩;rw[Lp] at a2
 split at a2
 ·rename_i hh; cases a2
  obtain⟨u,h1,rfl,-⟩:=O.slots t' _ (ht.get hh);obtain⟨xs,h3,h4⟩:=EG (O.conts r u _ hr);obtain⟨p,c,rfl⟩:=DT h3;refine⟨_,h1,_,⟨p,c,xs,rfl,Rd.of_own h3,h4.mono a6, λa7 bb a1=>?_⟩,rfl⟩;have a1:AM (.slice p b.length c)=some bb:=by rw[Ew,I0]; exact a1
  refine⟨(O.conts r _ _ hr).lt a1, λr' v' c' M e=>?_, λhH=>O.own r _ _ hr bb a1 (O.hid bb hH)⟩;obtain⟨k1,k2⟩:=U _ _ _ M;exact O.excl r _ _ r' v' c' hr k2 k1 bb a1 e
 ·obtain⟨u,h1,h2⟩:=O.slots t' e a2;exact⟨u,h1,e.mono a6 h2⟩
theorem xFrz {α:Type} {X:ρ->Act->World->Prop} {R:Rep α} {T:TypeId} {b:List α} {v:Value} (r:Nat) (ts:List Nat) (M:lr res r=some (v,.list R T b)) (O:FrL l v ts) (k:GX X (Sta Γ (ts.map (λt=>(t,.rd (A3 R) b))++l) ((r,none)::res)) m):GX X (Sta Γ l res) m:=λa w U=>k a w (U.frz r ts M O)
theorem Sta.rdNil {a:Act} {w:World} (O:Sta Γ l res a w) {α:Type} (R:Rep α) (t:Nat) (U:lk l t=some (.val (.slice none 0 0))):Sta Γ ((t,.rd (A3 R) [])::l) res a w:=by
 refine { O with slots:=λt' e' M=>?_ };rw[C4] at M
 split at M
 ·rename_i hh; subst hh; cases M
  obtain⟨u,h1,rfl,-⟩:=O.slots t _ U;exact⟨_,h1,[_],⟨none,0,[],rfl,Rd.nil _ _,rfl, by simp⟩,rfl⟩
 ·exact O.slots t' e' M
theorem XE {X:ρ->Act->World->Prop} {α:Type} (R:Rep α) (t:Nat) (M:lk l t=some (.val (.slice none 0 0))) (k:GX X (Sta Γ ((t,.rd (A3 R) [])::l) res) m):GX X (Sta Γ l res) m:=λa w O=>k a w (O.rdNil R t M)
end
end
section
variable {ro:Option Nat}
def iter {σ β:Type} (F:σ->Option (Sum β σ)) (s:σ):Option β:=F s>>=λx=>match x with
 | .inl b=>some b
 | .inr s'=>iter F s'
 partial_fixpoint
section
variable {ρ σ β τ:Type} {P:Program} {A:Asn} {Q:ρ->Exit->Act->World->Prop}
def Fq (i:Nat) (As:σ->Asn) (M:β->Exit->Act->World->Prop):Sum β σ->Exit->Act->World->Prop
 | .inl b,e,a,w=>e≠.normal/\Exit.inBlock i (M b) e a w
 | .inr s,e,a,w=>e=.normal/\As s a w
theorem XF {c:Code} {i:Nat} {As:σ->Asn} {M:β->Exit->Act->World->Prop} {F:σ->Option (Sum β σ)} (hb:∀ s,G none P (As s) c (Fq i As M) (F s)) (s:σ) (b:β) (h:iter F s=some b)
  (a:Act) (w:World) (ha:As s a w):(Code.loop c).wp P (Exit.inBlock i (M b)) a w:=by
 have key:∀ s b,iter F s=some b->∀ a w,As s a w->∀ (fr:Frame) (k:List Item) (cs:List Frame),∃ e a' w',Exit.inBlock i (M b) e a' w'/\Arrives P (lone (fr.at a (.code c::.inLoop c::k)) cs w) fr k cs e a' w':=by
  refine iter.partial_correctness F (λs b=>∀ a w,As s a w->∀ (fr:Frame) (k:List Item) (cs:List Frame),∃ e a' w',Exit.inBlock i (M b) e a' w'/\Arrives P (lone (fr.at a (.code c::.inLoop c::k)) cs w) fr k cs e a' w') ?_;intro it ih s b hs a w ha fr k cs
  cases hF:F s with
  | none=>rw[hF] at hs; cases hs
  | some x =>
   rw[hF] at hs;obtain⟨e,a₁,w₁,U,O⟩:=hb s a w ha x hF fr (.inLoop c::k) cs
   cases x with
   | inr s' =>
    obtain⟨rfl,hA⟩:=U;obtain⟨e₂,a₂,w₂,hq₂,harr₂⟩:=ih s' b hs a₁ w₁ hA fr k cs;exact⟨e₂,a₂,w₂,hq₂,.of_steps (Steps.trans O (.one step_inLoop)) harr₂⟩
   | inl b' =>
    have e0:b'=b:=by simpa using hs
    subst e0;obtain⟨a1,U⟩:=U
    cases e with
    | normal=>exact absurd rfl a1
    | exit id=>exact⟨_,a₁,w₁,U,.pass (x:=.inLoop c) rfl (λ_ _=>.inl (by simp)) O⟩
    | goto l=>exact⟨_,a₁,w₁,U,.pass (x:=.inLoop c) rfl (λ_ _=>.inl (by simp)) O⟩
    | ret=>exact⟨_,a₁,w₁,U,.pass (x:=.inLoop c) rfl (λ_ _=>.inl (by simp)) O⟩
    | panic ch=>exact⟨_,a₁,w₁,U,.pass (x:=.inLoop c) rfl (λ_ _=>.inl (by simp)) O⟩
    | outgrown=>exact⟨_,a₁,w₁,U,.pass (x:=.inLoop c) rfl (λ_ _=>.inl (by simp)) O⟩
 intro fr k cs;obtain⟨e,a',w',U,O⟩:=key s b h a w ha fr k cs;exact⟨e,a',w',U,.of_steps (.one step_loop) O⟩
theorem XG {l:Nat} {c:Code} {i:Nat} {As:σ->Asn} {M:β->Exit->Act->World->Prop} {F:σ->Option (Sum β σ)} (hb:∀ s,G (some l) P (As s) c (Fq i As M) (F s)) (s:σ) (b:β) (h:iter F s=some b) (ho:∀ a w,¬ M b .outgrown a w)
  (a:Act) (w:World) (ha:As s a w):(Code.loop c).wpIn (Fence.wide.inRound l) 0 P (Exit.inBlock i (M b)) a w:=by
 have key:∀ s b,iter F s=some b->(∀ a w,¬ M b .outgrown a w)->∀ a w,As s a w->∀ (fr:Frame) (k:List Item) (cs:List Frame),fr.roundOf=(Fence.wide.inRound l).round->(Fence.wide.inRound l).fn fr.fn->(Fence.wide.inRound l).room (cs.length+1+0) ->
   ∃ e a' w',Exit.inBlock i (M b) e a' w'/\ArrivesIn (Machine.fenced P (Fence.wide.inRound l)) P (lone (fr.atR a (.code c::.inLoop c::k)) cs w) fr k cs e a' w':=by
  refine iter.partial_correctness F (λs b=>(∀ a w,¬ M b .outgrown a w)->∀ a w,As s a w->∀ (fr:Frame) (k:List Item) (cs:List Frame),fr.roundOf=(Fence.wide.inRound l).round->(Fence.wide.inRound l).fn fr.fn->(Fence.wide.inRound l).room (cs.length+1+0)->∃ e a' w',Exit.inBlock i (M b) e a' w'/\ArrivesIn (Machine.fenced P (Fence.wide.inRound l)) P (lone (fr.atR a (.code c::.inLoop c::k)) cs w) fr k cs e a' w') ?_
  intro it ih s b hs ho a w ha fr k cs a6 a1 a2
  cases hF:F s with
  | none=>rw[hF] at hs; cases hs
  | some x =>
   rw[hF] at hs;have a7:∀ a w,¬ Fq i As M x .outgrown a w:=by
    intro a w U
    cases x with
    | inr s'=>exact absurd U.1 (by simp)
    | inl b' =>
     have e0:b'=b:=by simpa using hs
     subst e0;exact ho a w U.2
   obtain⟨e,a₁,w₁,U,O⟩:=hb s a w ha x hF a7 fr (.inLoop c::k) cs a6 a1 a2
   cases x with
   | inr s' =>
    obtain⟨rfl,hA⟩:=U;obtain⟨e₂,a₂,w₂,hq₂,harr₂⟩:=ih s' b hs ho a₁ w₁ hA fr k cs a6 a1 a2;exact⟨e₂,a₂,w₂,hq₂,.of_steps (StepsIn.trans O (.one (fenced_calm a1 a2 rfl) stepR_inLoop)) harr₂⟩
   | inl b' =>
    have e0:b'=b:=by simpa using hs
    subst e0;obtain⟨a8,U⟩:=U
    cases e with
    | normal=>exact absurd rfl a8
    | exit id=>exact⟨_,a₁,w₁,U,.pass (x:=.inLoop c) rfl (λ_ _=>.inl (by simp)) O⟩
    | goto l=>exact⟨_,a₁,w₁,U,.pass (x:=.inLoop c) rfl (λ_ _=>.inl (by simp)) O⟩
    | ret=>exact⟨_,a₁,w₁,U,.pass (x:=.inLoop c) rfl (λ_ _=>.inl (by simp)) O⟩
    | panic ch=>exact⟨_,a₁,w₁,U,.pass (x:=.inLoop c) rfl (λ_ _=>.inl (by simp)) O⟩
    | outgrown=>exact⟨_,a₁,w₁,U,.pass (x:=.inLoop c) rfl (λ_ _=>.inl (by simp)) O⟩
 intro fr k cs a6 a1 a2;obtain⟨e,a',w',U,O⟩:=key s b h ho a w ha fr k cs a6 a1 a2;exact⟨e,a',w',U,.of_steps (.one (fenced_calm a1 a2 rfl) stepR_loop) O⟩
theorem AJ {c:Code} {i:Nat} (As:σ->Asn) {M:β->Exit->Act->World->Prop} {F:σ->Option (Sum β σ)} {s:σ} (O:∀ a w,A a w->As s a w) (hb:∀ s,G ro P (As s) c (Fq i As M) (F s)) :
  G ro P A (.block i (.loop c)) M (iter F s):=λa w U b h=>by
 cases ro with
 | none=>exact wp_block (XF hb s b h a w (O a w U))
 | some l=>exact λho=>wpIn_block (XG hb s b h ho a w (O a w U))
theorem AB {i:Nat} {As:σ->Asn} {M:β->Exit->Act->World->Prop} {s:σ} (h:∀ a w,A a w->As s a w):GE A .normal (Fq i As M) (some (.inr s)):=λa w O r U=>by
 cases U; exact⟨rfl,h a w O⟩
theorem AI {i:Nat} {As:σ->Asn} {M:β->Exit->Act->World->Prop} {b:β} (h:GE A .normal M (some b)):GE A (.exit i) (Fq i As M) (some (.inl b)):=λa w O r U=>by
 cases U; exact⟨by simp, by have:=h a w O b rfl; simp[Exit.inBlock,this]⟩
theorem Bp {i:Nat} {As:σ->Asn} {M:β->Exit->Act->World->Prop} {b:β} (h:GE A .ret M (some b)):GE A .ret (Fq i As M) (some (.inl b)):=λa w O r U=>by
 cases U; exact⟨by simp,h a w O b rfl⟩
def midQ (Bs:τ->Asn):τ->Exit->Act->World->Prop:=λt e a w=>e=.normal/\Bs t a w
def midR (Bs:τ->Asn) (Q:ρ->Exit->Act->World->Prop):Sum ρ τ->Exit->Act->World->Prop
 | .inl r,e,a,w=>e≠.normal/\Q r e a w
 | .inr t,e,a,w=>e=.normal/\Bs t a w
theorem B6 {x y:Code} (Bs:τ->Asn) {m:Option τ} {k:τ->Option ρ} (U:G ro P A x (midQ Bs) m) (hy:∀ t,G ro P (Bs t) y Q (k t)):G ro P A (.seq x y) Q (m >>= k):=λa w ha r M=>by
 cases O:m with
 | none=>rw[O] at M; cases M
 | some t =>
  rw[O] at M;refine NP (NO (λe a w h=>?_) (U a w ha t O));obtain⟨rfl,h⟩:=h;exact hy t a w h r M
def Bi (m:Option (Sum ρ τ)) (k:τ->Option ρ):Option ρ:=m>>=λs=>match s with
 | .inl r=>some r
 | .inr t=>k t
theorem Bt {x y:Code} (Bs:τ->Asn) {m:Option (Sum ρ τ)} {k:τ->Option ρ} (hx:G ro P A x (midR Bs Q) m) (hy:∀ t,G ro P (Bs t) y Q (k t)) :
  G ro P A (.seq x y) Q (Bi m k):=λa w ha r M=>by
 unfold Bi at M
 cases O:m with
 | none=>rw[O] at M; cases M
 | some s =>
  rw[O] at M;refine NP (NO (λe a w h=>?_) (hx a w ha s O))
  cases s with
  | inl r' =>
   have e0:r'=r:=by simpa using M
   subst e0;obtain⟨U,h⟩:=h
   cases e <;> first | exact absurd rfl U | exact h
  | inr t =>
   obtain⟨rfl,h⟩:=h;exact hy t a w h r M
theorem AA {Bs:τ->Asn} {t:τ} (h:∀ a w,A a w->Bs t a w):GE A .normal (midQ Bs) (some t):=λa w M r O=>by cases O; exact⟨rfl,h a w M⟩
theorem Bk {Bs:τ->Asn} {t:τ} (h:∀ a w,A a w->Bs t a w):GE A .normal (midR Bs Q) (some (.inr t)):=λa w M r O=>by cases O; exact⟨rfl,h a w M⟩
theorem Bl {Bs:τ->Asn} {r:ρ} (h:GE A .ret Q (some r)):GE A .ret (midR Bs Q) (some (.inl r)):=λa w M r' O=>by cases O; exact⟨by simp,h a w M r rfl⟩
theorem XH {Bs:τ->Asn} {r:ρ} {i:Nat} (h:GE A (.exit i) Q (some r)):GE A (.exit i) (midR Bs Q) (some (.inl r)):=λa w M r' O=>by cases O; exact⟨by simp,h a w M r rfl⟩
end
def Ei (l:AQ):AQ->Prop
 | []=>True
 | (t,e)::l'=>lk l t=some e/\Ei l l'
theorem Ei.get {l:AQ}:∀ {l':AQ} {t:Nat} {e:Ent},Ei l l'->lk l' t=some e->lk l t=some e
 | [],t,e,_,h=>by cases h
 | (t',e')::l',t,e,M,h=>by
  rw[C4] at h
  split at h
  ·rename_i hh; subst hh; cases h; exact M.1
  ·exact Ei.get M.2 h
def BE (res:Res):Res->List Nat->Prop
 | [],[]=>True
 | (_,x)::res',n::ns=>(∃ y,x=some y/\lr res n=some y)/\ns.contains n=false/\BE res res' ns
 | _,_=>False
theorem BE.get {res:Res}:∀ {res':Res} {ns:List Nat} {r:Nat} {v:Value} {c:AK},BE res res' ns->lr res' r=some (v,c)->∃ n∈ns,lr res n=some (v,c)
 | [],[],_,_,_,_,h=>by cases h
 | (r',x)::res',n::ns,r,v,c,M,h=>by
  rw[BB] at h;obtain⟨⟨y,rfl,h1⟩,h2,h3⟩:=M
  split at h
  ·cases h; exact⟨n, by simp,h1⟩
  ·obtain⟨n',O,U⟩:=BE.get h3 h; exact⟨n', by simp[O],U⟩
 | [],_::_,_,_,_,M,_=>M.elim
 | _::_,[],_,_,_,M,_=>M.elim
theorem BE.get2 {res:Res}:∀ {res':Res} {ns:List Nat} {r r2:Nat} {x O:Value × AK},BE res res' ns->lr res' r=some x->lr res' r2=some O->r≠r2->∃ n n2,n≠n2/\lr res n=some x/\lr res n2=some O
 | [],[],_,_,_,_,_,h,_,_=>by cases h
 | (r',y)::res',n::ns,r,r2,x,O,M,h,h',U=>by
  rw[BB] at h h';obtain⟨⟨y,rfl,h1⟩,h2,h3⟩:=M;have hn:∀ n',n'∈ns->n≠n':=λn' a1 e=>by subst e; simp at h2; exact h2 a1
  split at h
  ·rename_i e1; subst e1; cases h
   rw[if_neg U] at h';obtain⟨v2,c2⟩:=O;obtain⟨n',h4,h5⟩:=BE.get h3 h';exact⟨n,n',hn n' h4,h1,h5⟩
  ·split at h'
   ·cases h'
    obtain⟨v,c⟩:=x;obtain⟨n',h4,h5⟩:=BE.get h3 h;exact⟨n',n, λe=>hn n' h4 e.symm,h5,h1⟩
   ·exact BE.get2 h3 h h' U
 | [],_::_,_,_,_,_,M,_,_,_=>M.elim
 | _::_,[],_,_,_,_,M,_,_,_=>M.elim
section
variable {P:Program} {Γ:Ctx} {l l':AQ} {res res':Res} {a:Act} {w:World}
theorem BE.stay {H:Blk} {ns:List Nat} (h:BE res res' ns):Bj (Shr H res w) (Shr H res' w) w w:=λb hb =>
 ⟨⟨hb.1, λr v c M=>by obtain⟨n,_,h1⟩:=h.get M; exact hb.2.1 n v c h1,hb.2.2⟩,rfl⟩
theorem Sta.sub (M:Sta Γ l res a w) (ns:List Nat) (hs:Ei l l') (O:BE res res' ns):Sta Γ l' res' a w where
 size:=M.size
 defers:=M.defers
 slots t e ht:=by obtain⟨v,h1,h2⟩:=M.slots t e (hs.get ht); exact⟨v,h1,e.mono O.stay h2⟩
 conts r v c h:=by obtain⟨n,_,h1⟩:=O.get h; exact(M.conts n v c h1).mono O.stay (λ_ _=>rfl)
 excl r v c r' v' c' h h' U:=by obtain⟨n,n2,h1,h2,h3⟩:=O.get2 h h' U; exact M.excl n v c n2 v' c' h2 h3 h1
 own r v c h:=by obtain⟨n,_,h1⟩:=O.get h; exact M.own n v c h1
 keep:=M.keep
 old:=M.old
 hid:=M.hid
end
structure CL where
 ret:List Ent
 res:Res
def Bof (res:Res) (b:Nat):Prop:=∃ r v c,lr res r=some (v,c)/\AM v=some b
structure Fr (H:Blk) (res:Res) (w:World):Prop where
 conts:∀ r v c,lr res r=some (v,c)->c.holds (Shr H res w) w v
 excl:∀ r v c r' v' c',lr res r=some (v,c)->lr res r'=some (v',c')->r≠r'->∀ b,AM v=some b->AM v'≠some b
 hid:∀ b,H b->b<w.heap.size/\¬ Bof res b
structure S3 (H:Blk) (rin:Res) (q:CL) (w w':World) (vs:List Value):Prop where
 ret:BI (Shr H q.res w') w' q.ret vs
 conts:∀ r v c,lr q.res r=some (v,c)->c.holds (Shr H q.res w') w' v
 excl:∀ r v c r' v' c',lr q.res r=some (v,c)->lr q.res r'=some (v',c')->r≠r'->∀ b,AM v=some b->AM v'≠some b
 own:∀ r v c,lr q.res r=some (v,c)->∀ b,AM v=some b->w.heap.size<=b\/Bof rin b
 keep:C5 (λb=>b<w.heap.size/\¬ Bof rin b) w w'
def endR (H:Blk) (rin:Res) (q:(Nat->Value)->CL) (w:World):Ending->World->Prop:=λe w'=>∃ M vs,e=.returned (retv vs)/\S3 H rin (q M) w w' vs
def Aj {ρ:Type} (P:Program) (f:FuncId) (pin:List Ent) (rin:Res) (m:Option ρ) (q:ρ->(Nat->Value)->CL):Prop :=
 ∀ r,m=some r->∀ (H:Blk) (vs:List Value) (w:World),BI (Shr H rin w) w pin vs->Fr H rin w->Calls P f vs.toArray w (endR H rin (q r) w)
def argS:Nat->List Ent->AQ
 | _,[]=>[]
 | i,e::es=>(i,e)::argS (i+1) es
theorem Lq {S:Blk} {w:World}:∀ {es:List Ent} {vs:List Value} {i t:Nat} {e:Ent},BI S w es vs->lk (argS i es) t=some e->i<=t/\∃ v,vs[t - i]? = some v/\e.holds S w v
 | [],_,i,t,e,_,h=>by cases h
 | e0::es,v::vs,i,t,e,hh,h=>by
  simp only[argS] at h;rw[C4] at h
  split at h
  ·rename_i M; subst M; cases h; exact⟨Nat.le_refl _,v, by simp,hh.1⟩
  ·obtain⟨h1,u,h2,h3⟩:=Lq hh.2 h;refine⟨by omega,u,?_,h3⟩;rw[show t - i=(t - (i+1))+1 by omega]; simpa using h2
 | _::_,[],_,_,_,hh,_=>hh.elim
theorem BI.length {S:Blk} {w:World}:∀ {es:List Ent} {vs:List Value},BI S w es vs->es.length=vs.length
 | [],[],_=>rfl
 | _::_,_::_,h=>by simp[BI.length h.2]
 | [],_::_,h=>h.elim
 | _::_,[],h=>h.elim
def endQ {ρ:Type} (P:Program) (fn:Func) (H:Blk) (rin:Res) (q:ρ->(Nat->Value)->CL) (w:World):ρ->Exit->Act->World->Prop:=λr=>bodyPost P fn (endR H rin (q r) w)
abbrev ctx (n:Nat) (H:Blk) (rin:Res) (w:World):Ctx:=⟨n, λb=>b<w.heap.size/\¬ Bof rin b,H,w,[]⟩
theorem Aq {ρ:Type} {P:Program} {f:FuncId} {fn:Func} {c:Code} {pin:List Ent} {rin:Res} {m:Option ρ} {q:ρ->(Nat->Value)->CL} (n:Nat) (U:P.funcs[f]? = some fn) (hb:fn.body=some c) (hn:fn.ntmps=n) (hl:Nat.ble pin.length n=true)
  (h:∀ H w,G none P (Sta (ctx n H rin w) (argS 0 pin) rin) c (endQ P fn H rin q w) m):Aj P f pin rin m q:=by
 intro r hr H vs w M hR;have hl:pin.length<=n:=Nat.le_of_ble_eq_true hl;have a1:=M.length;subst hn;refine calls_of_wp U hb (h H w _ w ?_ r hr);refine⟨by simp; omega,rfl, λt e ht=>?_,hR.conts,hR.excl, λr v c h1 b h2 h3=>h3.2 ⟨r,v,c,h1,h2⟩,C5.rfl', λb hb=>hb.1, λb hb=>hR.hid b hb⟩;obtain⟨-,v,h1,h2⟩:=Lq M ht;refine⟨v,?_,h2⟩;simp only[Nat.sub_zero] at h1;have O:t<vs.length:=(List.getElem?_eq_some_iff.1 h1).1
 rw[Array.getElem?_append_left (by simpa using O)]
 simpa using h1
def XI (n:Nat):Rep { cs:List Value // cs.length=n/\∀ u∈cs,u.oneCell'=true } where
 sz:=n
 agg:=true
 rel _ _ cs x:=cs=x.1
 len {_ _ _ x} h:=by rw[h]; exact x.2.1
 one {_ _ _ x} h:=by rw[h]; exact x.2.2
 scal h:=by cases h
 mono _ h:=h
def AggE (e:Ent) (n:Nat):Prop:=∀ S w v,e.holds S w v->∃ cs:List Value,v=.agg cs.toArray/\cs.length=n/\∀ u∈cs,u.oneCell'=true
def Ej (P:Program) (l:AQ) (res:Res):List ResultVar->List Ent->Prop
 | [],[]=>True
 | .tmp t::rs,e::es=>lk l t=some e/\Ej P l res rs es
 | .cell t T::rs,e::es=>(∃ r v T',lk l t=some (.val (A7 v 0))/\lr res r=some (v,.box T' [e])/\((∃ (α:Type) (R:Rep α) (x:α),e=.rd R x/\BJ P T R.agg R.sz)\/(∃ u,e=.val u/\Sc P T)\/∃ n,AggE e n/\BJ P T true n))/\Ej P l res rs es
 | _,_=>False
def flA (a:Act):List (Nat × Value):=(List.range a.tmps.size).map λt=>(t,a.tmps.getD t undef)
theorem NZ (g:Nat->Value):∀ (l:List Nat) (t:Nat),look (l.map λt=>(t,g t)) t=if t∈l then some (g t) else none
 | [],t=>by simp[look]
 | k::l,t=>by
  simp only[List.map_cons,look]
  cases hb:Nat.beq k t with
  | true=>have:=Nat.eq_of_beq_eq_true hb; subst this; simp
  | false =>
   have:=Nat.ne_of_beq_eq_false hb
   simp[NZ g l t,Ne.symm this]
theorem S4 {a:Act} {t:Nat} {v:Value} (h:a.tmps[t]? = some v):look (flA a) t=some v:=by
 have h1:t<a.tmps.size:=(Array.getElem?_eq_some_iff.1 h).1;unfold flA;rw[NZ,if_pos (by simpa using h1)];simp[Array.getD_eq_getD_getElem?,h]
theorem Sta.frmA {Γ:Ctx} {l:AQ} {res:Res} {a:Act} {w:World} (M:Sta Γ l res a w):Frm Γ.n (flA a) { a with defers:=[] }:=⟨M.size,rfl, λt v h=>by
 unfold flA at h;rw[NZ] at h
 split at h
 ·rename_i hh;have h1:t<a.tmps.size:=by simpa using hh
  simp only[Option.some.injEq] at h;rw[<- h,Array.getD_eq_getD_getElem?,Array.getElem?_eq_getElem h1]; rfl
 ·cases h⟩
theorem Ej.get {P:Program} {Γ:Ctx} {l:AQ} {res:Res} {a:Act} {w:World} (O:Sta Γ l res a w):∀ {rs:List ResultVar} {es:List Ent},Ej P l res rs es->∃ vs,Jf P w (flA a) rs vs/\BI (Shr Γ.H res w) w es vs
 | [],[],_=>⟨[],trivial,trivial⟩
 | .tmp t::rs,e::es,h=>by
  obtain⟨vs,h2,h3⟩:=Ej.get O h.2;obtain⟨v,k1,k2⟩:=O.slots t e h.1;exact⟨v::vs,⟨S4 k1,h2⟩,k2,h3⟩
 | .cell t T::rs,e::es,h=>by
  obtain⟨vs,h2,h3⟩:=Ej.get O h.2;obtain⟨r,v,T',g1,g2,g3⟩:=h.1;obtain⟨v',k1,e0,-⟩:=O.slots t _ g1;rcases O.conts r v _ g2 with U | ⟨b,o,U,h5,b',us,rfl,rfl,h6⟩
  ·exact U.elim
  ·simp only[AM,Option.some.injEq] at U;subst U
   match us,h6 with
   | [u],⟨h7,_⟩ =>
    refine⟨u::vs,⟨⟨⟨b',0,none⟩,S4 (by rw[k1,e0]; rfl),?_⟩,h2⟩,h7,h3⟩;rcases g3 with ⟨α,R,x,rfl,hT⟩ | ⟨u',rfl,hT⟩ | ⟨n,g4,hT⟩
    rotate_right
    ·obtain⟨cs,rfl,M,q2⟩:=g4 _ _ _ h7;exact Bx.load (R:=XI n) (x:=⟨cs,M,q2⟩) (S:=λ_=>True) (a:=[]) (cs:=cs) (dd:=[]) h5 (by simp[Bd,Value.cells]) rfl hT
    ·obtain⟨cs,M,rfl⟩:=h7;exact Bx.load (a:=[]) (dd:=[]) h5 (by simp[Bd,Rep.val_cells M]) M hT
    ·obtain⟨rfl,M⟩:=h7;have hB:Bx w b' (Bd [u]).toArray T':=h5;exact Le hT (hB.cell' (by simp[Bd,I1 M]))
 | [],_::_,h=>h.elim
 | .tmp _::_,[],h=>h.elim
 | .cell _ _::_,[],h=>h.elim
def nvl (vs:List Value) (i:Nat):Value:=vs.getD i undef
theorem Bu {ρ:Type} {P:Program} {fn:Func} {n:Nat} {H:Blk} {rin:Res} {w0:World} {q:ρ->(Nat->Value)->CL} {r:ρ} {l:AQ} {res:Res} {rs:List ResultVar} (vs:List Value) (ns:List Nat) (hr:fn.results=rs.toArray) (h:Ej P l res rs (q r (nvl vs)).ret) (O:BE res (q r (nvl vs)).res ns) :
  GE (Sta (ctx n H rin w0) l res) .ret (endQ P fn H rin q w0) (some r):=λa w M r' U=>by
 cases U
 obtain⟨us,h1,h2⟩:=h.get M;refine bodyPost_ret (WQ (a:={ a with defers:=[] }) M.frmA hr h1) M.defers ⟨nvl vs,us,rfl,?_⟩;have hk:∀ b,(ctx n H rin w0).K b↔b<w0.heap.size/\¬ Bof rin b:=λb=>Iff.rfl;refine⟨h2.mono O.stay, λr v c h=>by obtain⟨n,_,h1⟩:=O.get h; exact(M.conts n v c h1).mono O.stay (λ_ _=>rfl), λr v c r' v' c' h h' a1=>by obtain⟨n,n2,h1,h2,h3⟩:=O.get2 h h' a1; exact M.excl n v c n2 v' c' h2 h3 h1, λr v c h b hb=>?_,M.keep⟩
 obtain⟨n',_,h1⟩:=O.get h
 have:=M.own n' v c h1 b hb
 rw[hk] at this;by_cases h3:b<w0.heap.size
 ·exact .inr (Classical.byContradiction λh4=>this ⟨h3,h4⟩)
 ·exact .inl (by omega)
end
section
def Bld {β:Type} (l:AQ) (place:Nat->Option (Nat × Nat)) (R:Rep β):List (Nat × Operand)->β->β->Prop
 | [],x,x'=>x=x'
 | (i,o)::ps,x,x'=>∃ (α:Type) (T:Rep α) (y0 y:α) (off:Nat) (set:α->β),opE l o=some (.rd T y)/\AV R x off T y0 set/\place i=some (off,T.sz)/\Bld l place R ps (set y) x'
theorem Bld.cons {α β:Type} {l:AQ} {place:Nat->Option (Nat × Nat)} {R:Rep β} {i:Nat} {o:Operand} {ps:List (Nat × Operand)} {x x':β} {T:Rep α} {y0 y:α} {off:Nat} {set:α->β}
  (p:AV R x off T y0 set) (h:opE l o=some (.rd T y)) (M:place i=some (off,T.sz)) (k:Bld l place R ps (set y) x'):Bld l place R ((i,o)::ps) x x':=⟨α,T,y0,y,off,set,h,p,M,k⟩
theorem Bld.get {β:Type} {Γ:Ctx} {l:AQ} {res:Res} {a:Act} {w:World} (U:Sta Γ l res a w) {place:Nat->Option (Nat × Nat)} {R:Rep β}:∀ {ps:List (Nat × Operand)} {x x':β} {C:Array Value},Bld l place R ps x x'->R.rel (Shr Γ.H res w) w C.toList x ->
  ∃ C',Instr.fill place C (ps.map λp=>(p.1,a.eval p.2))=some C'/\R.rel (Shr Γ.H res w) w C'.toList x'
 | [],x,x',C,h,O=>by have h:x=x':=h; subst h; exact⟨C,rfl,O⟩
 | (i,o)::ps,x,x',C,h,O=>by
  obtain⟨α,T,y0,y,off,set,h1,h2,h3,h4⟩:=h;obtain⟨cs,M,k2⟩:=U.vl h1;obtain⟨a',c,d,g1,g2,g3,g4⟩:=h2 _ w _ O;have hv:(a.eval o).cells.toList=cs:=by rw[k2]; exact Rep.val_cells M
  have a1:(a.eval o).cells.size=T.sz:=by rw[<- Array.length_toList,hv,T.len M]
  have a6:C.size=a'.length+T.sz+d.length:=by
   have:C.toList.length=C.size:=by simp
   rw[<- this,g1]; simp[T.len g3]; omega
  have a2:spl C off (a.eval o).cells.toList=(a'++cs++d).toArray:=by
   rw[hv]; unfold spl; rw[g1,<- g2]; congr 1
   have:cs.length=c.length:=by rw[T.len M,T.len g3]
   simp[this]
  have:=Bld.get U (C:=(a'++cs++d).toArray) h4 (g4 _ w cs y Bj.rfl' M)
  obtain⟨C',q1,q2⟩:=this;refine⟨C',?_,q2⟩;simp only[List.map_cons];rw[NY h3 a1 (by omega),a2]; exact q1
theorem O0 {P:Program} {w:World}:∀ (fs:List Field) (pl:List (Nat × Nat)),fs.map (λf=>(f.offset,(P.info? f.type).map (·.size)))=pl.map (λp=>(p.1,some p.2)) ->
  (fs.mapM (m:=Sem) λf=>do pure (f.offset,<- sizeOf f.type)).run P w=.ok pl w
 | [],[],_=>rfl
 | f::fs,p::pl,h=>by
  simp only[List.map_cons,List.cons.injEq,Prod.mk.injEq] at h;obtain⟨⟨h1,h2⟩,h3⟩:=h;have M:(sizeOf f.type).run P w=.ok p.2 w:=by
   cases hi:P.info? f.type with
   | none=>rw[hi] at h2; cases h2
   | some i =>
    rw[hi] at h2;simp only[Option.map_some,Option.some.injEq] at h2;simp[sizeOf,typeInfo,program,hi,h2,pure,bind,Sem.bind,Sem.run]
  simp only[List.mapM_cons,Sem.run_bind,M,Result.andThen,Sem.run_pure,O0 fs pl h3,h1]
 | [],_::_,h=>by cases h
 | _::_,[],h=>by cases h
section
variable {C:World->World->Prop} {ρ:Type} {P:Program} {Γ:Ctx} {l:AQ} {res:Res} {m:Option ρ} {os rest:List Oper} {N:ρ->Exit->Act->World->Prop}
 {d:Tmp} {ty:TypeId} {pos:String} {after:Array Edge} {g:Option (Nat × Bool)}
theorem bld {β:Type} {R:Rep β} {x0 x':β} {T:TypeId} {z:Value} {sz by_:Nat} {parts:Array (Nat × Operand)} {fs:Array Field} (pl:List (Nat × Nat)) (hT:P.underlying T=some (.struct fs)) (hI:TI P T z sz by_) (M:R.agg=true) (O:Zr R z.cells.toList x0)
  (U:fs.toList.map (λf=>(f.offset,(P.info? f.type).map (·.size)))=pl.map (λp=>(p.1,some p.2))) (h:Bld l (λi:Nat=>pl[i]?) R parts.toList x0 x'):Run C P Γ l res ⟨some d,.build T parts,ty,pos,after,g⟩ (.rd R x'):=λa w ha=>by
 obtain⟨C',h1,h2⟩:=h.get ha (O _ w);refine⟨.agg C', λw' _=>Lh rfl ?_,C'.toList,h2, by simp[Rep.val,M]⟩;have e1:(fs.mapM (m:=Sem) λf=>do pure (f.offset,<- sizeOf f.type)).run P w'=.ok pl.toArray w':=by
  rw[<- Array.toArray_toList (xs:=fs),List.mapM_toArray];simp only[map_eq_pure_bind,Sem.run_bind,O0 fs.toList pl U,Result.andThen,Sem.run_pure]
 have e2:(parts.map λ(i,x)=>(i,a.eval x)).toList=parts.toList.map λp=>(p.1,a.eval p.2):=by simp
 unfold Instr.build;simp only[Sem.run_bind,Gn hI,Result.andThen,run_underlying hT,e1,e2];have e3:(λi:Nat=>pl.toArray[i]?)=λi:Nat=>pl[i]? := by funext i; simp
 rw[e3,h1]; rfl
theorem bldA {α:Type} {R:Rep α} {n:Nat} (b:List α) (v:Vector α n) (xs:List Operand) {T e:TypeId} {z:Value} {sz by_ M:Nat} {ze:Value} {parts:Array (Nat × Operand)} (hT:P.underlying T=some (.array n e)) (hI:TI P T z sz by_) (O:z.cells.size=n * R.sz) (hE:TI P e ze R.sz M) (hp:parts=(xs.zipIdx.map λx=>(x.2,x.1)).toArray) (hx:RdA l R xs b) (U:v.toList=b) :
  Run C P Γ l res ⟨some d,.build T parts,ty,pos,after,g⟩ (.rd (Av n R) v):=λa w ha=>by
 obtain⟨k1,k2,k3⟩:=RdA.get ha hx;have a1:b.length=n:=by rw[<- U]; simp
 have hc:Instr.fill (λi=>some (i * R.sz,R.sz)) z.cells ((xs.map a.eval).zipIdx.map λx=>(x.2,x.1))=some (Bd (xs.map a.eval)).toArray:=by
  have:=Lo (sz:=R.sz) (xs.map a.eval) 0 z.cells k3 (by simp[O,k2,a1])
  simpa using this
 have a2:(parts.map λ(i,x)=>(i,a.eval x)).toList=(xs.map a.eval).zipIdx.map λx=>(x.2,x.1):=by
  subst hp;simp[List.zipIdx_map]
 refine⟨.agg (Bd (xs.map a.eval)).toArray, λw' _=>Lh rfl ?_,Bd (xs.map a.eval), by rw[<- U] at k1; exact k1,rfl⟩;unfold Instr.build;simp only[Sem.run_bind,Gn hI,Result.andThen,run_underlying hT,D9 hE,a2,hc];rfl
def CC:List Ent->Ent
 | [e]=>e
 | es=>.tup es
theorem XJ {S:Blk} {w:World} {es:List Ent} {vs:List Value} (h:BI S w es vs):(CC es).holds S w (retv vs):=by
 match es,vs,h with
 | [],[],_=>exact⟨[],trivial,rfl⟩
 | [e],[v],h=>exact h.1
 | e::e2::es,v::M::vs,h=>exact⟨v::M::vs,h,rfl⟩
 | [],_::_,h=>exact h.elim
 | _::_,[],h=>exact h.elim
 | [_],_::_::_,h=>exact h.2.elim
 | _::_::_,[_],h=>exact h.2.elim
def nm (mp:List (Nat × Nat)) (k:Nat):Nat:=(lk mp k).getD k
def aft (ns:List Nat) (mp:List (Nat × Nat)) (q res:Res):Res:=(q.map λx=>(nm mp x.1,x.2))++(ns.map λn=>(n,none))++res
theorem Ek {α:Type}:∀ {l l':List (Nat × α)} {t:Nat},lk (l++l') t=(lk l t).or (lk l' t)
 | [],l',t=>by simp[lk]
 | (k,v)::l,l',t=>by
  rw[List.cons_append,C4,C4]
  split
  ·rfl
  ·exact Ek
theorem XK {ns:List Nat} {t:Nat}:lk (ns.map λn=>(n,(none:Option (Value × AK)))) t=if ns.contains t then some none else none:=by
 induction ns with
 | nil=>rfl
 | cons n ns M =>
  rw[List.map_cons,C4,M];by_cases h:n=t
  ·subst h; simp
  ·simp[h,Ne.symm h]
theorem S5 {mp:List (Nat × Nat)} {k:Nat} {y:Option (Value × AK)}:∀ {q:Res},lk (q.map λx=>(nm mp x.1,x.2)) k=some y->∃ k',nm mp k'=k/\lk q k'=some y
 | [],h=>by cases h
 | (O,y0)::q,h=>by
  rw[List.map_cons,C4] at h
  split at h
  ·rename_i M; cases h; exact⟨O,M, by rw[C4,if_pos rfl]⟩
  ·rename_i M;obtain⟨k',h1,h2⟩:=S5 h;refine⟨k',h1,?_⟩;rw[C4,if_neg (λe=>M (by rw[e]; exact h1))]; exact h2
theorem FQ {ns:List Nat} {mp:List (Nat × Nat)} {q:Res} {k:Nat} {v:Value} {c:AK} (h:lr (aft ns mp q res) k=some (v,c)) :
  (∃ k',nm mp k'=k/\lr q k'=some (v,c))\/(ns.contains k=false/\lr res k=some (v,c)):=by
 unfold lr aft at h;rw[Ek,Ek,XK] at h
 cases M:lk (q.map λx=>(nm mp x.1,x.2)) k with
 | some y =>
  rw[M] at h;simp only[Option.some_or,Option.getD_some] at h;subst h;obtain⟨k',h1,h2⟩:=S5 M;exact .inl ⟨k',h1, by simp[lr,h2]⟩
 | none =>
  rw[M] at h;by_cases O:ns.contains k=true
  ·rw[if_pos O] at h; simp at h
  ·rw[if_neg O] at h;simp only[Option.none_or] at h;exact .inr ⟨by simpa using O,h⟩
def Ent.flat (e:Ent):Prop:=∀ S w S' w' v,e.holds S w v->e.holds S' w' v
theorem Sta.called {a:Act} {w w':World} (M:Sta Γ l res a w) {rin:Res} {ns:List Nat} {mp:List (Nat × Nat)} {H:Blk} {q:CL} {vs:List Value} (hr:BE res rin ns)
  (hH:∀ b,H b↔Γ.H b\/∃ r v c,lr res r=some (v,c)/\ns.contains r=false/\AM v=some b) (O:S3 H rin q w w' vs) :
  (Sta Γ l (aft ns mp q.res res) a w'/\Bj (Shr Γ.H res w) (Shr Γ.H (aft ns mp q.res res) w') w w')/\(CC q.ret).holds (Shr Γ.H (aft ns mp q.res res) w') w' (retv vs) /\
   (∀ b,b<w.heap.size->¬ Bof rin b->w'.heap[b]? = w.heap[b]?):=by
 have a1:∀ b,Bof rin b->∃ n∈ns,∃ v c,lr res n=some (v,c)/\AM v=some b:=λb ⟨r,v,c,h1,h2⟩=>by
  obtain⟨n,h3,U⟩:=hr.get h1; exact⟨n,h3,v,c,U,h2⟩
 have hother:∀ k v c,ns.contains k=false->lr res k=some (v,c)->∀ b,AM v=some b->b<w.heap.size/\¬ Bof rin b:=λk v c hk h b hb=>by
  refine⟨(M.conts k v c h).lt hb, λhB=>?_⟩;obtain⟨n,h1,v',c',h2,h3⟩:=a1 b hB;have a2:n≠k:=λe=>by subst e; simp at hk; exact hk h1
  exact M.excl n v' c' k v c h2 h a2 b h3 hb
 have a6:∀ k v c,lr q.res k=some (v,c)->∀ k' v' c',ns.contains k'=false->lr res k'=some (v',c')->∀ b,AM v=some b->AM v'≠some b:=λk v c h k' v' c' aa h' b hb e=>by
  obtain⟨h1,h2⟩:=hother k' v' c' aa h' b e;rcases O.own k v c h b hb with h3 | h3
  ·omega
  ·exact h2 h3
 have a7:Bj (Shr Γ.H res w) (Shr Γ.H (aft ns mp q.res res) w') w w':=λb hb=>by
  have a8:¬ Bof rin b:=λhB=>by obtain⟨n,_,v,c,h2,h3⟩:=a1 b hB; exact hb.2.1 n v c h2 h3
  refine⟨⟨Nat.lt_of_lt_of_le hb.1 O.keep.size, λk v c h e=>?_,hb.2.2⟩,O.keep.block b ⟨hb.1,a8⟩⟩;rcases FQ h with ⟨k',_,h1⟩ | ⟨_,h1⟩
  ·rcases O.own k' v c h1 b e with h3 | h3
   ·have:=hb.1; omega
   ·exact a8 h3
  ·exact hb.2.1 k v c h1 e
 have hst2:Bj (Shr H q.res w') (Shr Γ.H (aft ns mp q.res res) w') w' w':=λb hb=>by
  refine⟨⟨hb.1, λk v c h e=>?_, λh=>hb.2.2 ((hH b).2 (.inl h))⟩,rfl⟩;rcases FQ h with ⟨k',_,h1⟩ | ⟨h0,h1⟩
  ·exact hb.2.1 k' v c h1 e
  ·exact hb.2.2 ((hH b).2 (.inr ⟨k,v,c,h1,h0,e⟩))
 refine⟨⟨⟨M.size,M.defers, λt e ht=>?_, λk v c h=>?_, λk v c k2 v2 c2 h h2 a2 b hb=>?_, λk v c h b hb=>?_,?_,M.old,M.hid⟩,a7⟩,XJ (O.ret.mono hst2), λb h1 h2=>O.keep.block b ⟨h1,h2⟩⟩
 ·obtain⟨u,h1,h2⟩:=M.slots t e ht; exact⟨u,h1,e.mono a7 h2⟩
 ·rcases FQ h with ⟨k',_,h1⟩ | ⟨h0,h1⟩
  ·exact(O.conts k' v c h1).mono hst2 (λ_ _=>rfl)
  ·exact(M.conts k v c h1).mono a7 (λb hb=>O.keep.block b (hother k v c h0 h1 b hb))
 ·rcases FQ h with ⟨k',e1,h1⟩ | ⟨h0,h1⟩ <;> rcases FQ h2 with ⟨k2',e2,h3⟩ | ⟨U,h3⟩
  ·exact O.excl k' v c k2' v2 c2 h1 h3 (λe=>a2 (by rw[<- e1,<- e2,e])) b hb
  ·exact a6 k' v c h1 k2 v2 c2 U h3 b hb
  ·exact λe=>a6 k2' v2 c2 h3 k v c h0 h1 b e hb
  ·exact M.excl k v c k2 v2 c2 h1 h3 a2 b hb
 ·rcases FQ h with ⟨k',_,h1⟩ | ⟨h0,h1⟩
  ·rcases O.own k' v c h1 b hb with h3 | h3
   ·intro hK; have:=M.old_lt hK; omega
   ·obtain⟨n,_,v',c',U,h5⟩:=a1 b h3; exact M.own n v' c' U b h5
  ·exact M.own k v c h1 b hb
 ·refine M.keep.tr O.keep (λb hK=>⟨M.old_lt hK, λhB=>?_⟩);obtain⟨n,_,v,c,U,h5⟩:=a1 b hB;exact M.own n v c U b h5 hK
theorem Fr.of {a:Act} {w:World} (M:Sta Γ l res a w) {rin:Res} {ns:List Nat} {H:Blk} (O:BE res rin ns) (hH:∀ b,H b↔Γ.H b\/∃ r v c,lr res r=some (v,c)/\ns.contains r=false/\AM v=some b) :
  Fr H rin w/\Bj (Shr Γ.H res w) (Shr H rin w) w w:=by
 have a1:Bj (Shr Γ.H res w) (Shr H rin w) w w:=λb hb=>by
  refine⟨⟨hb.1, λr v c h e=>?_, λh=>?_⟩,rfl⟩
  ·obtain⟨n,_,h1⟩:=O.get h; exact hb.2.1 n v c h1 e
  ·rcases (hH b).1 h with h1 | ⟨r,v,c,h1,_,h2⟩
   ·exact hb.2.2 h1
   ·exact hb.2.1 r v c h1 h2
 refine⟨⟨λr v c h=>?_, λr v c r' v' c' h h' U=>?_, λb hb=>?_⟩,a1⟩
 ·obtain⟨n,_,h1⟩:=O.get h; exact(M.conts n v c h1).mono a1 (λ_ _=>rfl)
 ·obtain⟨n,n2,h1,h2,h3⟩:=O.get2 h h' U; exact M.excl n v c n2 v' c' h2 h3 h1
 ·rcases (hH b).1 hb with h | ⟨r,v,c,h,h0,h2⟩
  ·refine⟨M.old_lt (M.hid b h), λ⟨r,v,c,h1,h2⟩=>?_⟩;obtain⟨n,_,h3⟩:=O.get h1;exact M.own n v c h3 b h2 (M.hid b h)
  ·refine⟨(M.conts r v c h).lt h2, λ⟨r',v',c',h1,h3⟩=>?_⟩;obtain⟨n,hn,h4⟩:=O.get h1;have U:n≠r:=λe=>by subst e; simp at h0; exact h0 hn
   exact M.excl n v' c' r v c h4 h U b h3 h2
def Cm (l:AQ):List Operand->List Ent->Prop
 | [],[]=>True
 | o::os,p::ps=>(∃ e,opE l o=some e/\∀ S w v,e.holds S w v->p.holds S w v)/\Cm l os ps
 | _,_=>False
theorem Cm.get {a:Act} {w:World} (M:Sta Γ l res a w) {S:Blk} (O:Bj (Shr Γ.H res w) S w w):∀ {os:List Operand} {ps:List Ent},Cm l os ps->BI S w ps (os.map a.eval)
 | [],[],_=>trivial
 | o::os,p::ps,⟨⟨e,h1,h2⟩,h3⟩=>⟨p.mono O (h2 _ _ _ (M.vl h1)),Cm.get M O h3⟩
 | [],_::_,h=>h.elim
 | _::_,[],h=>h.elim
theorem call {σ:Type} {f:FuncId} {F:Func} {b:Code} {args:List Operand} {ats:Array TypeId} {pin:List Ent} {rin:Res} {m1:Option σ} {q:σ->(Nat->Value)->CL} {kk:σ->Option ρ} (ns:List Nat) (mp:List (Nat × Nat)) (hn:Nat.blt d Γ.n=true)
  (hF:P.funcs[f]? = some F) (hB:F.body=some b) (hnm:(F.name == "runtime.NumGoroutine")=false) (hS:Aj P f pin rin m1 q) (hA:Cm l args pin) (hr:BE res rin ns)
  (k:∀ s nv,GL P os (Sta Γ ((d,CC (q s nv).ret)::l) (aft ns mp (q s nv).res res)) rest N (kk s)) :
  GL P os (Sta Γ l res) (⟨some d,.call ⟨.value (.func f),args.toArray,ats⟩,ty,pos,after,none⟩::rest) N (m1 >>= kk):=λa w ha r hm=>by
 cases hm1:m1 with
 | none=>rw[hm1] at hm; cases hm
 | some s =>
  rw[hm1] at hm;refine wpList_step λK hK=>?_;rw[if_pos (EF rfl)];have hrun:(execOp a.eval ⟨some d,.call ⟨.value (.func f),args.toArray,ats⟩,ty,pos,after,none⟩).run P w=.ok (.enter f (args.map a.eval).toArray) w:=by
   have e0:a.eval (.func f)=.func (.func f) #[] #[]:=rfl;simp[execOp,resolve,e0,Deferred.ofValue,invoke,Gm hF hB hnm]
  unfold Oper.wp; rw[hrun];simp only[Oper.upon];have hH:∀ b,(λb=>Γ.H b\/∃ r v c,lr res r=some (v,c)/\ns.contains r=false/\AM v=some b) b↔Γ.H b\/∃ r v c,lr res r=some (v,c)/\ns.contains r=false/\AM v=some b:=λ_=>Iff.rfl;obtain⟨h1,h2⟩:=Fr.of ha hr hH;refine(hS s hm1 _ _ w (Cm.get ha h2 hA) h1).mono λe w' hR=>?_;obtain⟨nv,vs,rfl,hp⟩:=hR;obtain⟨⟨h3,_⟩,h4,_⟩:=ha.called (mp:=mp) hr hH hp;exact hK _ _ (k s nv _ _ (h3.put hn h4) r hm)
end
end
section
variable {ro:Option Nat}
class CY {ρ:Type} (N:ρ->Exit->Act->World->Prop):Prop where
  ok:∀ (r:ρ) (d:Nat) (v:Value) c a w,N r (.panic c) (a.put (some d) v) w->N r (.panic c) a w
instance {ρ:Type} {P:Program} {y:Code} {Q:ρ->Exit->Act->World->Prop} [h:CY Q]:CY (EH ro P y Q):=⟨λr d v c a w k=>h.ok r d v c a w k⟩
instance {ρ:Type} {i:Nat} {Q:ρ->Exit->Act->World->Prop} [h:CY Q]:CY (blkQ i Q):=⟨λr d v c a w k=>h.ok r d v c a w k⟩
instance {ρ:Type} {P:Program} {fn:Func} {H:Blk} {rin:Res} {q:ρ->(Nat->Value)->CL} {w:World}:CY (endQ P fn H rin q w):=⟨λr d v c a w k=>k⟩
instance {σ β:Type} {i:Nat} {As:σ->Asn} {M:β->Exit->Act->World->Prop} [h:CY M]:CY (Fq i As M):=⟨λr d v c a w k=>by
  cases r with
  | inl b=>exact⟨k.1,h.ok b d v c a w k.2⟩
  | inr s=>exact absurd k.1 (by simp)⟩
instance {τ:Type} {Bs:τ->Asn}:CY (midQ Bs):=⟨λr d v c a w k=>absurd k.1 (by simp)⟩
instance {τ ρ:Type} {Bs:τ->Asn} {Q:ρ->Exit->Act->World->Prop} [h:CY Q]:CY (midR Bs Q):=⟨λr d v c a w k=>by
  cases r with
  | inl b=>exact⟨k.1,h.ok b d v c a w k.2⟩
  | inr s=>exact absurd k.1 (by simp)⟩
structure SH (Γ:Ctx) (l0:AQ) (res0:Res) (ws:List Nat) (l:AQ) (res:Res) (a:Act) (w0 w:World):Prop where
  s0:Sta Γ l0 res0 a w0
  s:Sta Γ l res a w
  cw:CW res0 ws w0 w
  st:Bj (Shr Γ.H res0 w0) (Shr Γ.H res w) w0 w
  wsp:∀ r v c b,ws.contains r=true->lr res r=some (v,c)->AM v=some b->(∃ r0 v0 c0,ws.contains r0=true/\lr res0 r0=some (v0,c0)/\AM v0=some b)\/w0.heap.size<=b
section
variable {ρ:Type} {P:Program} {Γ:Ctx} {l l0:AQ} {res res0:Res} {ws:List Nat} {m m1 m2:Option ρ} {os:List Oper} {N:ρ->Exit->Act->World->Prop}
  {d:Tmp} {op:Op} {ty:TypeId} {pos:String} {after:Array Edge} {g:Option (Nat × Bool)} {fuel i:Nat} {listed listed':Array Bool} {rest:List Oper}
def GH (P:Program) (ops:List Oper) (Γ:Ctx) (l0:AQ) (res0:Res) (ws:List Nat) (l:AQ) (res:Res) (N:ρ->Exit->Act->World->Prop) (fuel:Nat) (listed:Array Bool) (m:Option ρ):Prop :=
  ∀ a w0 w,SH Γ l0 res0 ws l res a w0 w->∀ r,m=some r->wpAnyH P .any ops.toArray (N r) (CW res0 ws w0) fuel listed a w
theorem SH.put {a : Act} {w0 w : World} (h : SH Γ l0 res0 ws l res a w0 w) {v : Value} {e0 e : Ent} (M : Nat.blt d Γ.n = true) (O : e0.holds (Shr Γ.H res0 w0) w0 v) (U : e.holds (Shr Γ.H res w) w v) :
    SH Γ ((d,e0)::l0) res0 ws ((d,e)::l) res (a.put (some d) v) w0 w:=⟨h.s0.put M O,h.s.put M U,h.cw,h.st,h.wsp⟩
theorem BK {id sz : Nat} {ls : Array Bool} {Q : ρ -> Exit -> Act -> World -> Prop} (ws : List Nat) (O : P.follows .mixedOrders = true) (U : os.toArray.size = sz) (hl : Array.replicate sz false = ls)
    (h:GH P os Γ l res ws l res Q sz ls m) (hd:EI os=true:=by rfl):G ro P (Sta Γ l res) (.region id os.toArray true) Q m:=λa w ha r hr=>by
  refine NR O (by simpa using hd) (wpAny_of_held (S:=CW res ws { w with drawn:=w.drawn+1 }) _ _ _ _ ?_);have hE:Ext w { w with drawn:=w.drawn+1 }:=Ext.rfl'.dr;have M:=ha.ext hE
  have:=h a _ _ ⟨M,M,C5.rfl',Bj.rfl', λr v c b hw h1 h2=>.inl ⟨r,v,c,hw,h1,h2⟩⟩ r hr
  rw[U,hl];exact this
theorem hIf (t : Nat) {b : Bool} (O : lk l0 t = some (.rd Ai b)) (hb : lk l t = some (.rd Ai b)) (ht : b = true -> GH P os Γ ((t, .rd Ai true) :: l0) res0 ws ((t, .rd Ai true) :: l) res N fuel listed m1) (hf : b = false -> GH P os Γ ((t, .rd Ai false) :: l0) res0 ws ((t, .rd Ai false) :: l) res N fuel listed m2) :
    GH P os Γ l0 res0 ws l res N fuel listed (if b then m1 else m2):=by
  intro a w0 w M r U
  cases b with
  | true=>exact ht rfl a w0 w ⟨M.s0.known O rfl,M.s.known hb rfl,M.cw,M.st,M.wsp⟩ r (by simpa using U)
  | false=>exact hf rfl a w0 w ⟨M.s0.known O rfl,M.s.known hb rfl,M.cw,M.st,M.wsp⟩ r (by simpa using U)
theorem BA {σ:Type} {m:Option σ} {k:σ->Option ρ} (h:∀ s,m=some s->GH P os Γ l0 res0 ws l res N fuel listed (k s)):GH P os Γ l0 res0 ws l res N fuel listed (m >>= k):=λa w0 w U r M=>by
  cases O:m with
  | none=>rw[O] at M; cases M
  | some s=>rw[O] at M; exact h s O a w0 w U r M
theorem Sta.name {α:Type} {R:Rep α} {x y:α} {t:Nat} {a:Act} {w:World} (O:Sta Γ l res a w) (U:lk l t=some (.rd R x)) (e:x=y):Sta Γ ((t,.rd R y)::l) res a w:=by
  subst e;refine { O with slots:=λt' e' M=>?_ };rw[C4] at M
  split at M
  · rename_i hh; subst hh; cases M; exact O.slots t _ U
  · exact O.slots t' e' M
theorem Ha {α:Type} {R:Rep α} {x:α} {k:α->Option ρ} (t:Nat) (O:lk l0 t=some (.rd R x)) (U:lk l t=some (.rd R x)) (h:∀ y,GH P os Γ ((t,.rd R y)::l0) res0 ws ((t,.rd R y)::l) res N fuel listed (k y)):GH P os Γ l0 res0 ws l res N fuel listed (some x >>= k):=λa w0 w M r hr =>
  h x a w0 w ⟨M.s0.name O rfl,M.s.name U rfl,M.cw,M.st,M.wsp⟩ r hr
theorem Em {α:Type} {R:Rep α} {T:TypeId} {b:List α} {v:Value} (r:Nat) (ts:List Nat) (hr:lr res r=some (v,.list R T b)) (ht:FrL l v ts) (k:GH P os Γ (ts.map (λt=>(t,.junk))++l0) res0 ws (ts.map (λt=>(t,.rd (A3 R) b))++l) ((r,none)::res) N fuel listed m):GH P os Γ l0 res0 ws l res N fuel listed m:=λa w0 w M r' a1=>by
  refine k a w0 w ⟨?_,M.s.frz r ts hr ht,M.cw, λbb hb=>⟨?_,(M.st bb hb).2⟩, λU v2 c2 b2 h1 h2=>?_⟩ r' a1
  · refine { M.s0 with slots:=λt' e' O=>?_ }
    rw[Lp] at O
    split at O
    · rename_i hh; cases O
      obtain⟨u,h1,_⟩:=M.s.slots t' _ (ht.get hh);exact⟨u,h1,trivial⟩
    · exact M.s0.slots t' e' O
  · have h1:=(M.st bb hb).1
    refine⟨h1.1, λU v2 c2 h2=>?_,h1.2.2⟩;rw[BB] at h2
    split at h2
    · cases h2
    · exact h1.2.1 U v2 c2 h2
  · rw[BB] at h2
    split at h2
    · cases h2
    · exact M.wsp U v2 c2 b2 h1 h2
theorem S6 [CY N] {e : Ent} (i : Nat) (hi : os.toArray[i]? = some ⟨some d, op, ty, pos, after, g⟩) (U : Region.noSelect os.toArray = true) (hf : Region.free .any os.toArray listed i = true) (hr : (Region.ready .any os.toArray listed).contains i = true)
    (hg:Grd os l ⟨some d,op,ty,pos,after,g⟩ true) (hn:Nat.blt d Γ.n=true) (hl:listed.setIfInBounds i true=listed')
    (he:Run (CW res0 ws) P Γ l0 res0 ⟨some d,op,ty,pos,after,g⟩ e) (k:GH P os Γ ((d,e)::l0) res0 ws ((d,e)::l) res N fuel listed' m):GH P os Γ l0 res0 ws l res N (fuel+1) listed m:=λa w0 w M r hm=>by
  obtain⟨v,h1,h2⟩:=he a w0 M.s0;refine wpAnyH_take hi U hf hr (λc a w h=>CY.ok r _ v c a w h) (.inl ⟨hg.wanted M.s, λw' O=>h1 w' O⟩) M.cw ?_;rw[hl];exact k _ w0 w (M.put hn h2 (e.mono M.st h2)) r hm
theorem A6 [CY N] {e:Ent} (i:Nat) (hi:os.toArray[i]? = some ⟨some d,op,ty,pos,after,none⟩) (hl:listed.setIfInBounds i true=listed') (M:Run (CW res0 ws) P Γ l0 res0 ⟨some d,op,ty,pos,after,none⟩ e)
 (k:GH P os Γ ((d,e)::l0) res0 ws ((d,e)::l) res N fuel listed' m) (O:Region.noSelect os.toArray=true:=by kernel_rfl) (U:Region.free .any os.toArray listed i=true:=by kernel_rfl) (hr:(Region.ready .any os.toArray listed).contains i=true:=by kernel_rfl)
 (hn:Nat.blt d Γ.n=true:=by rfl):GH P os Γ l0 res0 ws l res N (fuel+1) listed m:=S6 i hi O U hr (gd0 rfl) hn hl M k
theorem Zg [CY N] {e:Ent} (i:Nat) (hi:os.toArray[i]? = some ⟨some d,op,ty,pos,after,g⟩) (hl:listed.setIfInBounds i true=listed') (M:Run (CW res0 ws) P Γ l0 res0 ⟨some d,op,ty,pos,after,g⟩ e)
 (k:GH P os Γ ((d,e)::l0) res0 ws ((d,e)::l) res N fuel listed' m) (O:Grd os l ⟨some d,op,ty,pos,after,g⟩ true:=by exact gd rfl rfl rfl rfl) (U:Region.noSelect os.toArray=true:=by kernel_rfl) (hf:Region.free .any os.toArray listed i=true:=by kernel_rfl) (hr:(Region.ready .any os.toArray listed).contains i=true:=by kernel_rfl)
 (hn:Nat.blt d Γ.n=true:=by rfl):GH P os Γ l0 res0 ws l res N (fuel+1) listed m:=S6 i hi U hf hr O hn hl M k
theorem E4 [CY N] {e : Ent} (i : Nat) (hi : os.toArray[i]? = some ⟨some d, op, ty, pos, after, g⟩) (O : Region.noSelect os.toArray = true) (U : Region.free .any os.toArray listed i = true) (hr : (Region.ready .any os.toArray listed).contains i = true)
    (hg:Grd os l ⟨some d,op,ty,pos,after,g⟩ true) (hn:Nat.blt d Γ.n=true) (hl:listed.setIfInBounds i true=listed')
    (he:Run AnyW P Γ l res ⟨some d,op,ty,pos,after,g⟩ e) (k:GH P os Γ ((d,.junk)::l0) res0 ws ((d,e)::l) res N fuel listed' m):GH P os Γ l0 res0 ws l res N (fuel+1) listed m:=λa w0 w M r hm=>by
  obtain⟨v,h1,h2⟩:=he a w M.s;refine wpAnyH_take hi O U hr (λc a w h=>CY.ok r _ v c a w h) (.inl ⟨hg.wanted M.s, λw' a1=>h1 w' trivial⟩) M.cw ?_;rw[hl];exact k _ w0 w (M.put hn trivial h2) r hm
theorem O1 [CY N] {e : Ent} (i : Nat) (hi : os.toArray[i]? = some ⟨some d, op, ty, pos, after, g⟩) (U : Region.noSelect os.toArray = true) (hf : Region.free .any os.toArray listed i = true) (hr : (Region.ready .any os.toArray listed).contains i = true)
    (hg:Grd os l ⟨some d,op,ty,pos,after,g⟩ true) (hn:Nat.blt d Γ.n=true) (hl:listed.setIfInBounds i true=listed')
    (O:e.flat) (he:Run AnyW P Γ l res ⟨some d,op,ty,pos,after,g⟩ e) (k:GH P os Γ ((d,e)::l0) res0 ws ((d,e)::l) res N fuel listed' m):GH P os Γ l0 res0 ws l res N (fuel+1) listed m:=λa w0 w M r hm=>by
  obtain⟨v,h1,h2⟩:=he a w M.s;refine wpAnyH_take hi U hf hr (λc a w h=>CY.ok r _ v c a w h) (.inl ⟨hg.wanted M.s, λw' a1=>h1 w' trivial⟩) M.cw ?_;rw[hl];exact k _ w0 w (M.put hn (O _ _ _ _ _ h2) h2) r hm
theorem Zf [CY N] {e:Ent} (i:Nat) (hi:os.toArray[i]? = some ⟨some d,op,ty,pos,after,none⟩) (hl:listed.setIfInBounds i true=listed') (M:e.flat) (O:Run AnyW P Γ l res ⟨some d,op,ty,pos,after,none⟩ e)
 (k:GH P os Γ ((d,e)::l0) res0 ws ((d,e)::l) res N fuel listed' m) (U:Region.noSelect os.toArray=true:=by kernel_rfl) (hf:Region.free .any os.toArray listed i=true:=by kernel_rfl) (hr:(Region.ready .any os.toArray listed).contains i=true:=by kernel_rfl)
 (hn:Nat.blt d Γ.n=true:=by rfl):GH P os Γ l0 res0 ws l res N (fuel+1) listed m:=O1 i hi U hf hr (gd0 rfl) hn hl M O k
theorem XL [CY N] (i : Nat) (hi : os.toArray[i]? = some ⟨some d, op, ty, pos, after, g⟩) (O : Region.noSelect os.toArray = true) (U : Region.free .any os.toArray listed i = true) (hr : (Region.ready .any os.toArray listed).contains i = true)
    (hg:Grd os l ⟨some d,op,ty,pos,after,g⟩ false) (hn:Nat.blt d Γ.n=true) (hl:listed.setIfInBounds i true=listed')
    (k:GH P os Γ ((d,.un)::l0) res0 ws ((d,.un)::l) res N fuel listed' m):GH P os Γ l0 res0 ws l res N (fuel+1) listed m:=λa w0 w M r hm=>by
  refine wpAnyH_take hi O U hr (λc a w h=>CY.ok r _ undef c a w h) (.inr ⟨hg.wanted M.s,rfl⟩) M.cw ?_;rw[hl];exact k _ w0 w (M.put hn rfl rfl) r hm
theorem hSk [CY N] (i:Nat) (hi:os.toArray[i]? = some ⟨some d,op,ty,pos,after,g⟩) (hl:listed.setIfInBounds i true=listed') (k:GH P os Γ ((d,.un)::l0) res0 ws ((d,.un)::l) res N fuel listed' m)
 (M:Grd os l ⟨some d,op,ty,pos,after,g⟩ false:=by exact gd rfl rfl rfl rfl) (O:Region.noSelect os.toArray=true:=by kernel_rfl) (U:Region.free .any os.toArray listed i=true:=by kernel_rfl) (hr:(Region.ready .any os.toArray listed).contains i=true:=by kernel_rfl)
 (hn:Nat.blt d Γ.n=true:=by rfl):GH P os Γ l0 res0 ws l res N (fuel+1) listed m:=XL i hi O U hr M hn hl k
theorem Bg (M:Region.ready .any os.toArray listed=[]) (h:GE (Sta Γ l res) .normal N m):GH P os Γ l0 res0 ws l res N fuel listed m:=λa w0 w O r U=>wpAnyH_done M (h a w O.s r U) fuel
theorem SH.grew {a : Act} {w0 w w' : World} (h : SH Γ l0 res0 ws l res a w0 w) {r : Nat} {x : Value × AK} (hw : ws.contains r = true) (hs : Sta Γ l ((r, some x) :: res) a w' /\ Bj (Shr Γ.H res w) (Shr Γ.H ((r, some x) :: res) w') w w') (hg : Grew res r w w')
    (hx:∀ b,AM x.1=some b->(∃ v0 c0,lr res r=some (v0,c0)/\AM v0=some b)\/w.heap.size<=b):SH Γ l0 res0 ws l ((r,some x)::res) a w0 w':=by
  obtain⟨wr,h1,h2⟩:=hg;refine⟨h.s0,hs.1,?_,h.st.tr hs.2, λr2 v2 c2 b2 U M O=>?_⟩
  · refine C5.gr h.cw h1 (λb hb=>⟨Nat.lt_of_lt_of_le hb.1 h.cw.size, λe=>?_⟩)
    obtain⟨v0,c0,U,M⟩:=h2 b e;rcases h.wsp r v0 c0 b hw U M with ⟨r1,v1,c1,k5,O,k4⟩ | O
    · exact hb.2 r1 v1 c1 k5 O k4
    · have:=hb.1; omega
  · rw[BB] at M
    split at M
    · rename_i e; subst e; cases M
      rcases hx b2 O with ⟨v0,c0,q1,q2⟩ | q1
      · exact h.wsp _ v0 c0 b2 U q1 q2
      · exact .inr (Nat.le_trans h.cw.size q1)
    · exact h.wsp r2 v2 c2 b2 U M O
theorem hDo {r : Nat} {x : Value -> Value × AK} (i : Nat) (hi : os.toArray[i]? = some ⟨some d, op, ty, pos, after, g⟩) (hr : Region.ready .any os.toArray listed = [i]) (hg : Grd os l ⟨some d, op, ty, pos, after, g⟩ true) (hn : Nat.blt d Γ.n = true) (hl : listed.setIfInBounds i true = listed') (hw : ws.contains r = true)
    (he:Eff P Γ l res ⟨some d,op,ty,pos,after,g⟩ r x) (hx:∀ u,(x u).1=u) (k:∀ u,GH P os Γ ((d,.val u)::l0) res0 ws ((d,.val u)::l) ((r,some (x u))::res) N fuel listed' m):GH P os Γ l0 res0 ws l res N (fuel+1) listed m:=λa w0 w O ρ' hm=>by
  obtain⟨w',u,h1,h2,h3,h4⟩:=he a w O.s;refine wpAnyH_all hr (by simp) (λj hj=>?_);simp only[List.mem_singleton] at hj;subst hj;have a2:=hg.wanted O.s;unfold wpOp;simp only[hi,a2,if_true];refine .inl ?_;unfold Oper.wp; rw[h1];have a1:∀ b,AM (x u).1=some b->(∃ v0 c0,lr res r=some (v0,c0)/\AM v0=some b)\/w.heap.size<=b:=λb hb=>by
    by_cases h5:w.heap.size<=b
    · exact .inr h5
    · refine .inl (Classical.byContradiction λa6=>?_)
      have hc:=h2.1.conts r _ _ (BB.trans (if_pos rfl));by_cases hS:Shr Γ.H res w b
      · exact(h2.2 b hS).1.2.1 r _ _ (BB.trans (if_pos rfl)) hb
      · have hK:¬ Γ.K b:=h2.1.own r _ _ (BB.trans (if_pos rfl)) b hb
        refine hS ⟨by omega, λr' v' c' U e=>?_, λhh=>hK (O.s.hid b hh)⟩;by_cases M:r=r'
        · subst M; exact a6 ⟨v',c',U,e⟩
        · exact h2.1.excl r _ _ r' v' c' (BB.trans (if_pos rfl)) ((BB.trans (if_neg M)).trans U) M b hb e
  have hS:=O.grew hw h2 h4 a1;refine⟨hS.cw,?_⟩;rw[hl];exact k u _ w0 w' (hS.put hn ⟨rfl,h3⟩ ⟨rfl,h3⟩) ρ' hm
theorem Zo {r:Nat} {x:Value->Value × AK} (i:Nat) (hi:os.toArray[i]? = some ⟨some d,op,ty,pos,after,none⟩) (hl:listed.setIfInBounds i true=listed') (hw:ws.contains r=true)
 (M:Eff P Γ l res ⟨some d,op,ty,pos,after,none⟩ r x) (k:∀ u,GH P os Γ ((d,.val u)::l0) res0 ws ((d,.val u)::l) ((r,some (x u))::res) N fuel listed' m) (O:∀ u,(x u).1=u:=by exact λ_=>rfl) (U:Region.ready .any os.toArray listed=[i]:=by kernel_rfl)
 (hn:Nat.blt d Γ.n=true:=by rfl):GH P os Γ l0 res0 ws l res N (fuel+1) listed m:=hDo i hi U (gd0 rfl) hn hl hw M O k
theorem hDoS {r : Nat} {x : Value × AK} {v0 : Value} {c0 : AK} (i : Nat) (hi : os.toArray[i]? = some ⟨none, op, ty, pos, after, g⟩) (hr : Region.ready .any os.toArray listed = [i]) (hg : Grd os l ⟨none, op, ty, pos, after, g⟩ true) (hl : listed.setIfInBounds i true = listed') (hw : ws.contains r = true) (hv : lr res r = some (v0, c0)) (hx : x.1 = v0)
    (he:EffS P Γ l res ⟨none,op,ty,pos,after,g⟩ r x) (k:GH P os Γ l0 res0 ws l ((r,some x)::res) N fuel listed' m):GH P os Γ l0 res0 ws l res N (fuel+1) listed m:=λa w0 w M ρ' hm=>by
  obtain⟨w',h1,h2,h4⟩:=he a w M.s;refine wpAnyH_all hr (by simp) (λj O=>?_);simp only[List.mem_singleton] at O;subst O;have U:=hg.wanted M.s;unfold wpOp;simp only[hi,U,if_true];refine .inl ?_;unfold Oper.wp; rw[h1];have hS:=M.grew hw h2 h4 (λb hb=>.inl ⟨v0,c0,hv, by rw[<- hx]; exact hb⟩);refine⟨hS.cw,?_⟩;rw[hl];exact k a w0 w' hS ρ' hm
theorem Zp {r:Nat} {x:Value × AK} {v0:Value} {c0:AK} (i:Nat) (hi:os.toArray[i]? = some ⟨none,op,ty,pos,after,none⟩) (hl:listed.setIfInBounds i true=listed') (hw:ws.contains r=true) (M:lr res r=some (v0,c0)) (O:x.1=v0)
 (U:EffS P Γ l res ⟨none,op,ty,pos,after,none⟩ r x) (k:GH P os Γ l0 res0 ws l ((r,some x)::res) N fuel listed' m) (hr:Region.ready .any os.toArray listed=[i]:=by kernel_rfl):GH P os Γ l0 res0 ws l res N (fuel+1) listed m:=hDoS i hi hr (gd0 rfl) hl hw M O U k
theorem S7 {σ : Type} {f : FuncId} {F : Func} {b : Code} {args : List Operand} {ats : Array TypeId} {pin : List Ent} {rin : Res} {m1 : Option σ} {q : σ -> (Nat -> Value) -> CL} {kk : σ -> Option ρ} (i : Nat) (ns : List Nat) (mp : List (Nat × Nat)) (e0 : σ -> (Nat -> Value) -> Ent)
    (hi:os.toArray[i]? = some ⟨some d,.call ⟨.value (.func f),args.toArray,ats⟩,ty,pos,after,g⟩) (hrd:Region.ready .any os.toArray listed=[i]) (hl:listed.setIfInBounds i true=listed') (hg:Grd os l ⟨some d,.call ⟨.value (.func f),args.toArray,ats⟩,ty,pos,after,g⟩ true) (hn:Nat.blt d Γ.n=true)
    (hF:P.funcs[f]? = some F) (hB:F.body=some b) (hnm:(F.name == "runtime.NumGoroutine")=false) (hS:Aj P f pin rin m1 q) (hA:Cm l args pin) (hr:BE res rin ns) (hw:ns.all (λn=>ws.contains n)=true)
    (he0:∀ s nv v S w S' w',(CC (q s nv).ret).holds S w v->(e0 s nv).holds S' w' v)
    (k:∀ s nv,GH P os Γ ((d,e0 s nv)::l0) res0 ws ((d,CC (q s nv).ret)::l) (aft ns mp (q s nv).res res) N fuel listed' (kk s)) :
    GH P os Γ l0 res0 ws l res N (fuel+1) listed (m1 >>= kk):=λa w0 w ha r hm=>by
  cases hm1:m1 with
  | none=>rw[hm1] at hm; cases hm
  | some s =>
    rw[hm1] at hm;refine wpAnyH_all hrd (by simp) (λj hj=>?_);simp only[List.mem_singleton] at hj;subst hj;have hgw:=hg.wanted ha.s;unfold wpOp;simp only[hi,hgw,if_true];refine .inl ?_;have hrun:(execOp a.eval ⟨some d,.call ⟨.value (.func f),args.toArray,ats⟩,ty,pos,after,g⟩).run P w=.ok (.enter f (args.map a.eval).toArray) w:=by
      have e0:a.eval (.func f)=.func (.func f) #[] #[]:=rfl;simp[execOp,resolve,e0,Deferred.ofValue,invoke,Gm hF hB hnm]
    unfold Oper.wp; rw[hrun];simp only[Oper.upon];have hH:∀ b,(λb=>Γ.H b\/∃ r v c,lr res r=some (v,c)/\ns.contains r=false/\AM v=some b) b↔Γ.H b\/∃ r v c,lr res r=some (v,c)/\ns.contains r=false/\AM v=some b:=λ_=>Iff.rfl;obtain⟨h1,h2⟩:=Fr.of ha.s hr hH;refine(hS s hm1 _ _ w (Cm.get ha.s h2 hA) h1).mono λe w' hR=>?_;obtain⟨nv,vs,rfl,hp⟩:=hR;obtain⟨⟨h3,h5⟩,h4,h6⟩:=ha.s.called (mp:=mp) hr hH hp
    have hlent:∀ b,Bof rin b->(∃ r0 v0 c0,ws.contains r0=true/\lr res0 r0=some (v0,c0)/\AM v0=some b)\/w0.heap.size<=b:=λb ⟨r',v,c,q1,q2⟩=>by
      obtain⟨n,q3,q4⟩:=hr.get q1;have hn':ws.contains n=true:=by simpa using (List.all_eq_true.1 hw) n q3
      exact ha.wsp n v c b hn' q4 q2
    have hcw:CW res0 ws w0 w':=by
      refine C5.tr ha.cw hp.keep (λb hb=>⟨Nat.lt_of_lt_of_le hb.1 ha.cw.size, λhB=>?_⟩);rcases hlent b hB with ⟨r0,v0,c0,q1,q2,q3⟩ | q1
      · exact hb.2 r0 v0 c0 q1 q2 q3
      · have:=hb.1; omega
    refine⟨hcw,?_⟩;rw[hl];refine k s nv _ w0 w' (SH.put ⟨ha.s0,h3,hcw,ha.st.tr h5, λr2 v2 c2 b2 k1 k2 k3=>?_⟩ hn (he0 s nv _ _ _ _ _ h4) h4) r hm;rcases FQ k2 with ⟨k',q1,q2⟩ | ⟨q1,q2⟩
    · rcases hp.own k' v2 c2 q2 b2 k3 with q3 | q3
      · exact .inr (Nat.le_trans ha.cw.size q3)
      · exact hlent b2 q3
    · exact ha.wsp r2 v2 c2 b2 k1 q2 k3
theorem hKn {b b':Bool} (t:Nat) (O:lk l0 t=some (.rd Ai b)) (hb:lk l t=some (.rd Ai b)) (e:b=b') (k:GH P os Γ ((t,.rd Ai b')::l0) res0 ws ((t,.rd Ai b')::l) res N fuel listed m):GH P os Γ l0 res0 ws l res N fuel listed m:=λa w0 w M r U =>
  k a w0 w ⟨M.s0.known O e,M.s.known hb e,M.cw,M.st,M.wsp⟩ r U
theorem hRun {e0 e : Ent} (i : Nat) (hi : os.toArray[i]? = some ⟨some d, op, ty, pos, after, g⟩) (hr : Region.ready .any os.toArray listed = [i]) (hg : Grd os l ⟨some d, op, ty, pos, after, g⟩ true) (hn : Nat.blt d Γ.n = true) (hl : listed.setIfInBounds i true = listed')
    (h0:∀ S w S' w' v,e.holds S w v->e0.holds S' w' v) (he:Run Eq P Γ l res ⟨some d,op,ty,pos,after,g⟩ e) (k:GH P os Γ ((d,e0)::l0) res0 ws ((d,e)::l) res N fuel listed' m):GH P os Γ l0 res0 ws l res N (fuel+1) listed m:=λa w0 w M ρ' hm=>by
  obtain⟨u,h1,h2⟩:=he a w M.s;refine wpAnyH_all hr (by simp) (λj O=>?_);simp only[List.mem_singleton] at O;subst O;have U:=hg.wanted M.s;unfold wpOp;simp only[hi,U,if_true];refine .inl ?_;unfold Oper.wp; rw[h1 w rfl];refine⟨M.cw,?_⟩;rw[hl];exact k _ w0 w (M.put hn (h0 _ _ _ _ _ h2) h2) ρ' hm
theorem anyJ {e:Ent}:∀ (S:Blk) (w:World) (S':Blk) (w':World) (v:Value),e.holds S w v->Ent.junk.holds S' w' v:=λ_ _ _ _ _ _=>trivial
theorem hDoB {r : Nat} {T : TypeId} {es : List Ent} (i : Nat) (hi : os.toArray[i]? = some ⟨some d, op, ty, pos, after, g⟩) (O : Region.ready .any os.toArray listed = [i]) (U : Grd os l ⟨some d, op, ty, pos, after, g⟩ true) (hn : Nat.blt d Γ.n = true) (hl : listed.setIfInBounds i true = listed') (hw : ws.contains r = true)
    (he:Eff P Γ l res ⟨some d,op,ty,pos,after,g⟩ r (λv=>(v,.box T es))) (k:∀ u,GH P os Γ ((d,.val (A7 u 0))::l0) res0 ws ((d,.val (A7 u 0))::l) ((r,some (u,.box T es))::res) N fuel listed' m):GH P os Γ l0 res0 ws l res N (fuel+1) listed m :=
  hDo i hi O U hn hl hw he (λ_=>rfl) (λu a w0 w M ρ' hm=>by
    have hb:=Jk (M.s.conts r _ _ (BB.trans (if_pos rfl)))
    have:=k u a w0 w
    rw[hb] at this
    exact this M ρ' hm)
theorem I5 {σ : Type} {f : FuncId} {F : Func} {b : Code} {args : List Operand} {ats : Array TypeId} {pin : List Ent} {rin : Res} {m1 : Option σ} {q : σ -> (Nat -> Value) -> CL} {kk : σ -> Option ρ} (i : Nat) (ns : List Nat) (mp : List (Nat × Nat))
    (hi:os.toArray[i]? = some ⟨some d,.call ⟨.value (.func f),args.toArray,ats⟩,ty,pos,after,g⟩) (hrd:Region.ready .any os.toArray listed=[i]) (hl:listed.setIfInBounds i true=listed') (hg:Grd os l ⟨some d,.call ⟨.value (.func f),args.toArray,ats⟩,ty,pos,after,g⟩ true) (hn:Nat.blt d Γ.n=true)
    (hF:P.funcs[f]? = some F) (hB:F.body=some b) (hnm:(F.name == "runtime.NumGoroutine")=false) (hS:Aj P f pin rin m1 q) (hA:Cm l args pin) (hr:BE res rin ns) (hw:ns.all (λn=>ws.contains n)=true)
    (k:∀ s nv,GH P os Γ ((d,.junk)::l0) res0 ws ((d,CC (q s nv).ret)::l) (aft ns mp (q s nv).res res) N fuel listed' (kk s)) :
    GH P os Γ l0 res0 ws l res N (fuel+1) listed (m1 >>= kk):=S7 i ns mp (λ_ _=>.junk) hi hrd hl hg hn hF hB hnm hS hA hr hw (λ_ _ _ _ _ _ _ _=>trivial) k
theorem BH {σ : Type} {f : FuncId} {F : Func} {b : Code} {args : List Operand} {ats : Array TypeId} {pin : List Ent} {rin : Res} {m1 : Option σ} {q : σ -> (Nat -> Value) -> CL} {kk : σ -> Option ρ} (i : Nat) (ns : List Nat) (mp : List (Nat × Nat))
    (hi:os.toArray[i]? = some ⟨some d,.call ⟨.value (.func f),args.toArray,ats⟩,ty,pos,after,g⟩) (hrd:Region.ready .any os.toArray listed=[i]) (hl:listed.setIfInBounds i true=listed') (hg:Grd os l ⟨some d,.call ⟨.value (.func f),args.toArray,ats⟩,ty,pos,after,g⟩ true) (hn:Nat.blt d Γ.n=true)
    (hF:P.funcs[f]? = some F) (hB:F.body=some b) (hnm:(F.name == "runtime.NumGoroutine")=false) (hS:Aj P f pin rin m1 q) (hA:Cm l args pin) (hr:BE res rin ns) (hw:ns.all (λn=>ws.contains n)=true)
    (hfl:∀ s nv,(CC (q s nv).ret).flat) (k:∀ s nv,GH P os Γ ((d,CC (q s nv).ret)::l0) res0 ws ((d,CC (q s nv).ret)::l) (aft ns mp (q s nv).res res) N fuel listed' (kk s)) :
    GH P os Γ l0 res0 ws l res N (fuel+1) listed (m1 >>= kk):=S7 i ns mp (λs nv=>CC (q s nv).ret) hi hrd hl hg hn hF hB hnm hS hA hr hw (λs nv v S w S' w' h=>hfl s nv S w S' w' v h) k
end
end
section
variable {ro:Option Nat}
section
variable {C:World->World->Prop} {ρ σ α:Type} {P:Program} {Γ:Ctx} {l:AQ} {res:Res} {m m1 m2:Option ρ} {os rest:List Oper} {N:ρ->Exit->Act->World->Prop} {Q:ρ->Exit->Act->World->Prop} {A B:Asn} {c:Code} {e:Exit}
  {d:Tmp} {ty:TypeId} {pos:String} {after:Array Edge} {g:Option (Nat × Bool)}
theorem Sta.kn {a:Act} {w:World} (M:Sta Γ l res a w) {b b':Bool} (t:Nat) (hb:lk l t=some (.rd Ai b)) (e:b=b'):Sta Γ ((t,.rd Ai b')::l) res a w:=M.known hb e
theorem AY (t:Nat) {b:Bool} (hb:lk l t=some (.rd Ai b)) (M:b=true->GL P os (Sta Γ ((t,.rd Ai true)::l) res) rest N m1) (O:b=false->GL P os (Sta Γ ((t,.rd Ai false)::l) res) rest N m2):GL P os (Sta Γ l res) rest N (if b then m1 else m2):=xIf t hb M O
theorem Ac {b b':Bool} (t:Nat) (hb:lk l t=some (.rd Ai b)) (e:b=b') (h:GL P os (Sta Γ ((t,.rd Ai b')::l) res) rest N m):GL P os (Sta Γ l res) rest N m:=λa w M=>h a w (M.kn t hb e)
theorem AR {R:Rep α} {x:α} {k:α->Option ρ} (t:Nat) (M:lk l t=some (.rd R x)) (h:∀ y,GL P os (Sta Γ ((t,.rd R y)::l) res) rest N (k y)):GL P os (Sta Γ l res) rest N (some x >>= k):=NS t M h
theorem An {m:Option σ} {k:σ->Option ρ} (h:∀ s,m=some s->GL P os A rest N (k s)):GL P os A rest N (m >>= k):=NT h
theorem BG {R:Rep α} {T:TypeId} {b:List α} {v:Value} (r:Nat) (ts:List Nat) (M:lr res r=some (v,.list R T b)) (O:FrL l v ts) (k:GL P os (Sta Γ (ts.map (λt=>(t,.rd (A3 R) b))++l) ((r,none)::res)) rest N m):GL P os (Sta Γ l res) rest N m:=xFrz r ts M O k
theorem S8 (R:Rep α) (t:Nat) (M:lk l t=some (.val (.slice none 0 0))) (k:GL P os (Sta Γ ((t,.rd (A3 R) [])::l) res) rest N m):GL P os (Sta Γ l res) rest N m:=XE R t M k
theorem XM {R:Rep α} {x:α} {k:α->Option ρ} (t:Nat) (M:lk l t=some (.rd R x)) (h:∀ y,GQ P os (Sta Γ ((t,.rd R y)::l) res) rest N (k y)):GQ P os (Sta Γ l res) rest N (some x >>= k):=NS t M h
theorem BM {m:Option σ} {k:σ->Option ρ} (h:∀ s,m=some s->GQ P os A rest N (k s)):GQ P os A rest N (m >>= k):=NT h
theorem gKn {b b':Bool} (t:Nat) (hb:lk l t=some (.rd Ai b)) (e:b=b') (h:G ro P (Sta Γ ((t,.rd Ai b')::l) res) c Q m):G ro P (Sta Γ l res) c Q m:=λa w M=>h a w (M.kn t hb e)
theorem BV {m:Option σ} {k:σ->Option ρ} (h:∀ s,m=some s->G ro P A c Q (k s)):G ro P A c Q (m >>= k):=NT h
theorem gEx {ι:Type} {A:ι->Asn} (h:∀ i,G ro P (A i) c Q m):G ro P (λa w=>∃ i,A i a w) c Q m:=xEx h
theorem gFrz {R:Rep α} {T:TypeId} {b:List α} {v:Value} (r:Nat) (ts:List Nat) (M:lr res r=some (v,.list R T b)) (O:FrL l v ts) (k:G ro P (Sta Γ (ts.map (λt=>(t,.rd (A3 R) b))++l) ((r,none)::res)) c Q m):G ro P (Sta Γ l res) c Q m:=xFrz r ts M O k
theorem DB (R:Rep α) (T:TypeId) (r:Nat) (k:G ro P (Sta Γ l ((r,some (.slice none 0 0,.list R T []))::res)) c Q m):G ro P (Sta Γ l res) c Q m:=xNil R T r k
theorem eKn {ex:Exit} {b b':Bool} (t:Nat) (hb:lk l t=some (.rd Ai b)) (e:b=b') (h:GE (Sta Γ ((t,.rd Ai b')::l) res) ex Q m):GE (Sta Γ l res) ex Q m:=λa w M=>h a w (M.kn t hb e)
theorem XN {R:Rep α} {x:α} {k:α->Option ρ} (t:Nat) (M:lk l t=some (.rd R x)) (h:∀ y,GE (Sta Γ ((t,.rd R y)::l) res) e Q (k y)):GE (Sta Γ l res) e Q (some x >>= k):=NS t M h
theorem eFrz {R:Rep α} {T:TypeId} {b:List α} {v:Value} (r:Nat) (ts:List Nat) (M:lr res r=some (v,.list R T b)) (O:FrL l v ts) (k:GE (Sta Γ (ts.map (λt=>(t,.rd (A3 R) b))++l) ((r,none)::res)) e Q m):GE (Sta Γ l res) e Q m:=xFrz r ts M O k
theorem Cq (R:Rep α) (T:TypeId) (r:Nat) (k:GE (Sta Γ l ((r,some (.slice none 0 0,.list R T []))::res)) e Q m):GE (Sta Γ l res) e Q m:=xNil R T r k
theorem Eb {r : Nat} {op : Op} {T : TypeId} {es : List Ent} (M : Nat.blt d Γ.n = true) (O : Eff P Γ l res ⟨some d, op, ty, pos, after, none⟩ r (λv => (v, .box T es)))
    (k:∀ u,GL P os (Sta Γ ((d,.val (A7 u 0))::l) ((r,some (u,.box T es))::res)) rest N m):GL P os (Sta Γ l res) (⟨some d,op,ty,pos,after,none⟩::rest) N m:=λa w U ρ hm=>by
  obtain⟨w',u,h1,⟨h2,_⟩,h3,_⟩:=O a w U;have hb:=Jk (h2.conts r _ _ (BB.trans (if_pos rfl)));exact st (EF rfl) h1 (k u _ _ (h2.put M ⟨by rw[hb], by rw[hb]; exact h3⟩) ρ hm)
theorem Bld.done {β:Type} {place:Nat->Option (Nat × Nat)} {R:Rep β} {x x':β} (h:x=x'):Bld l place R [] x x':=h
def RdP {α:Type} (l:AQ) (R:Rep α):Nat->List (Nat × Operand)->List α->Prop
  | _,[],[]=>True
  | j,(i,o)::ps,x::xs=>(i=j/\RdO l R o x)/\RdP l R (j+1) ps xs
  | _,_,_=>False
theorem RdP.get {R:Rep α}:∀ {ps:List (Nat × Operand)} {j:Nat} {xs:List α},RdP l R j ps xs->∃ os:List Operand,ps=(os.zipIdx j).map (λx=>(x.2,x.1))/\RdA l R os xs
  | [],_,[],_=>⟨[],rfl,trivial⟩
  | (i,o)::ps,j,x::xs,h=>by
    obtain⟨os,h1,h2⟩:=RdP.get h.2;obtain⟨⟨rfl,M⟩,_⟩:=h;exact⟨o::os, by rw[h1]; simp,M,h2⟩
  | [],_,_::_,h=>h.elim
  | _::_,_,[],h=>h.elim
theorem lit {R : Rep α} (b : List α) {n : Nat} {parts : List (Nat × Operand)} {z : Value} {T e : TypeId} {by_ : Nat} (r : Nat) (M : RdP l R 0 parts b) (hl : b.length = n)
    (hT:P.underlying T=some (.slice e)) (hE:TI P e z R.sz by_) (O:Nat.blt 0 R.sz=true) (U:Nat.ble (n * R.sz) 16777216=true) :
    Eff P Γ l res ⟨some d,.buildSlice T n parts.toArray,ty,pos,after,g⟩ r (λu=>(u,.list R e b)):=by
  obtain⟨os,rfl,h2⟩:=M.get;exact lits b os r rfl h2 hl hT hE O U
theorem litA {R : Rep α} {n : Nat} (b : List α) (v : Vector α n) {T e : TypeId} {z : Value} {sz by_ M : Nat} {ze : Value} {parts : List (Nat × Operand)} (U : RdP l R 0 parts b) (hv : v.toList = b) (hT : P.underlying T = some (.array n e)) (hI : TI P T z sz by_) (O : z.cells.size = n * R.sz) (hE : TI P e ze R.sz M) :
    Run C P Γ l res ⟨some d,.build T parts.toArray,ty,pos,after,g⟩ (.rd (Av n R) v):=by
  obtain⟨os,rfl,h2⟩:=U.get;exact bldA b v os hT hI O hE rfl h2 hv
theorem FP.val {u:Value} (h:u.oneCell'=true):FP u [.val u]:=λS w=>⟨[u], by simp[Bd],⟨rfl,h⟩,trivial⟩
theorem FP.zr {R:Rep α} {x:α} {z:Value} (h:Zr R z.cells.toList x):FP z [.rd R x]:=FP.rd h
theorem BJ.sc {t:TypeId} {n:Nat} (h:Sc P t):BJ P t false n:=h
theorem BJ.ag {t:TypeId} {n:Nat} {z:Value} {by_:Nat} (h:Ag P t) (k:TI P t z n by_):BJ P t true n:=⟨h,z,by_,k⟩
def andI (a b:Int):Int:=Eh .and .i64 a b
def shrI (a:Int) (n:Nat):Int:=a.fdiv (2 ^ (min n 64))
theorem I.and {x y:Operand} {T T':TypeId} {a b:Int} (M:opE l x=some (.rd A2 a)) (O:opE l y=some (.rd A2 b)):Run C P Γ l res ⟨some d,.binOp .and T x y T',ty,pos,after,g⟩ (.rd A2 (andI a b)):=H7 (γ:=Unit) M O rfl rfl
theorem I.shr {β:Type} {k':IntKind} {M:β->Int} {x y:Operand} {T T':TypeId} {a:Int} {b:β} (O:opE l x=some (.rd A2 a)) (U:opE l y=some (.rd (Bm k' M) b)) (h0:0<=M b):Run C P Γ l res ⟨some d,.binOp .shr T x y T',ty,pos,after,g⟩ (.rd A2 (shrI a (M b).toNat)):=shrL O U h0 rfl
theorem Lr {R : Rep α} {b : List α} {x y : Operand} {T T' e : TypeId} {E : Ent} (hn : Nat.blt d Γ.n = true) (hx : opE l x = some E) (O : Vw R res E b) (hy : opE l y = some (.val (.slice none 0 0))) (hT : P.underlying T = some (.slice e))
    (ht:b=[]->GL P os (Sta Γ ((d,.rd Ai true)::l) res) rest N m) (hf:GL P os (Sta Γ ((d,.rd Ai false)::l) res) rest N m):GL P os (Sta Γ l res) (⟨some d,.binOp .eql T x y T',ty,pos,after,none⟩::rest) N m:=λa w M r hm=>by
  obtain⟨p,c,xs,h5,h2,h3⟩:=O.get M (M.vl hx);have U:=Xo (P:=P) (w:=w) (d:=d) (ty:=ty) (pos:=pos) (after:=after) (g:=none) (T':=T') hT h5 (M.vl hy).1;refine st (EF rfl) U ?_;by_cases hp:p=none
  · have hb : b = [] := by
      subst hp;rcases h2.2 with ⟨_,h0⟩ | ⟨b',o,sp,cap,O,_⟩
      · exact List.eq_nil_of_length_eq_zero h0
      · cases O
    exact ht hb _ w (M.put hn (by rw[decide_eq_true hp]; exact FM)) r hm
  · exact hf _ w (M.put hn (by rw[decide_eq_false hp]; exact FM)) r hm
theorem Sta.frzB {a:Act} {w:World} (O:Sta Γ l res a w) {R:Rep α} {T:TypeId} {x:α} {v:Value} (r t:Nat) (hr:lr res r=some (v,.box T [.rd R x])) (ht:lk l t=some (.val (A7 v 0))):Sta Γ ((t,.rp R x)::l) ((r,none)::res) a w:=by
  have a2:Bj (Shr Γ.H res w) (Shr Γ.H ((r,none)::res) w) w w:=λbb hb=>⟨⟨hb.1, λr' v' c' M=>by
    rw[BB] at M
    split at M
    · cases M
    · exact hb.2.1 r' v' c' M,hb.2.2⟩,rfl⟩
  have U:∀ r' v' c',lr ((r,none)::res) r'=some (v',c')->r≠r'/\lr res r'=some (v',c'):=λr' v' c' M=>by
    rw[BB] at M
    split at M
    · cases M
    · exact⟨‹_›,M⟩
  refine⟨O.size,O.defers, λt' e a1=>?_, λr' v' c' M=>(O.conts r' v' c' (U _ _ _ M).2).mono a2 (λ_ _=>rfl), λr1 v1 c1 r2 v2 c2 h1 h2 a6=>O.excl r1 v1 c1 r2 v2 c2 (U _ _ _ h1).2 (U _ _ _ h2).2 a6, λr' v' c' M=>O.own r' v' c' (U _ _ _ M).2,O.keep,O.old,O.hid⟩;rw[C4] at a1
  split at a1
  · rename_i hh; subst hh; cases a1
    obtain⟨u,h1,rfl,-⟩:=O.slots t _ ht;rcases O.conts r v _ hr with h2 | ⟨b,o,h2,h3,b',vs,rfl,rfl,h4⟩
    · exact h2.elim
    · match vs,h4 with
      | [y],⟨⟨cs,h5,h6⟩,_⟩ =>
        simp only[AM,Option.some.injEq] at h2;subst h2;refine⟨_,h1,b',0,cs,rfl,⟨(Array.getElem?_eq_some_iff.1 h3).1, λr' v' c' M e=>?_, λhH=>O.own r _ _ hr b' rfl (O.hid b' hH)⟩,R.mono a2 h5, λj q hq=>?_⟩
        · obtain⟨k1,k2⟩:=U _ _ _ M
          exact O.excl r _ _ r' v' c' hr k2 k1 b' rfl e
        · have hB:Bx w b' (Bd [y]).toArray T:=h3
          have a7:Bd [y]=cs:=by rw[h6]; simp[Bd,Rep.val_cells h5]
          rw[hB.cell,a7]; simpa using hq
  · obtain⟨u,h1,h2⟩:=O.slots t' e a1
    exact⟨u,h1,e.mono a2 h2⟩
theorem S9 {R:Rep α} {T:TypeId} {x:α} {v:Value} (r t:Nat) (M:lr res r=some (v,.box T [.rd R x])) (O:lk l t=some (.val (A7 v 0))) (k:GL P os (Sta Γ ((t,.rp R x)::l) ((r,none)::res)) rest N m):GL P os (Sta Γ l res) rest N m:=λa w U=>k a w (U.frzB r t M O)
theorem Sd {R:Rep α} {T:TypeId} {x:α} {v:Value} (r t:Nat) (M:lr res r=some (v,.box T [.rd R x])) (O:lk l t=some (.val (A7 v 0))) (k:G ro P (Sta Γ ((t,.rp R x)::l) ((r,none)::res)) c Q m):G ro P (Sta Γ l res) c Q m:=λa w U=>k a w (U.frzB r t M O)
theorem CH {σ : Type} {f : FuncId} {F : Func} {b : Code} {args : List Operand} {ats : Array TypeId} {pin : List Ent} {rin : Res} {m1 : Option σ} {q : σ -> (Nat -> Value) -> CL} {kk : σ -> Option ρ} (ns : List Nat) (mp : List (Nat × Nat)) (hg : Grd os l ⟨some d, .call ⟨.value (.func f), args.toArray, ats⟩, ty, pos, after, g⟩ true) (hn : Nat.blt d Γ.n = true)
    (hF:P.funcs[f]? = some F) (hB:F.body=some b) (hnm:(F.name == "runtime.NumGoroutine")=false) (hS:Aj P f pin rin m1 q) (hA:Cm l args pin) (hr:BE res rin ns)
    (k:∀ s nv,GL P os (Sta Γ ((d,CC (q s nv).ret)::l) (aft ns mp (q s nv).res res)) rest N (kk s)) :
    GL P os (Sta Γ l res) (⟨some d,.call ⟨.value (.func f),args.toArray,ats⟩,ty,pos,after,g⟩::rest) N (m1 >>= kk):=λa w ha r hm=>by
  cases hm1:m1 with
  | none=>rw[hm1] at hm; cases hm
  | some s =>
    rw[hm1] at hm;refine wpList_step λK hK=>?_;rw[if_pos (hg.wanted ha)];have hrun:(execOp a.eval ⟨some d,.call ⟨.value (.func f),args.toArray,ats⟩,ty,pos,after,g⟩).run P w=.ok (.enter f (args.map a.eval).toArray) w:=by
      have e0:a.eval (.func f)=.func (.func f) #[] #[]:=rfl;simp[execOp,resolve,e0,Deferred.ofValue,invoke,Gm hF hB hnm]
    unfold Oper.wp; rw[hrun];simp only[Oper.upon];have hH:∀ b,(λb=>Γ.H b\/∃ r v c,lr res r=some (v,c)/\ns.contains r=false/\AM v=some b) b↔Γ.H b\/∃ r v c,lr res r=some (v,c)/\ns.contains r=false/\AM v=some b:=λ_=>Iff.rfl;obtain⟨h1,h2⟩:=Fr.of ha hr hH;refine(hS s hm1 _ _ w (Cm.get ha h2 hA) h1).mono λe w' hR=>?_;obtain⟨nv,vs,rfl,hp⟩:=hR;obtain⟨⟨h3,_⟩,h4,_⟩:=ha.called (mp:=mp) hr hH hp;exact hK _ _ (k s nv _ _ (h3.put hn h4) r hm)
def CapQ (res:Res):List Value->List Ent->Prop
  | [],[]=>True
  | u::us,e::es=>(e=.val u/\∃ r v T ds,u=A7 v 0/\lr res r=some (v,.box T ds))/\CapQ res us es
  | _,_=>False
theorem cN:CapQ res [] []:=trivial
theorem cQ {v:Value} {T:TypeId} {ds:List Ent} {us:List Value} {es:List Ent} (r:Nat) (h:lr res r=some (v,.box T ds)) (k:CapQ res us es):CapQ res (A7 v 0::us) (.val (A7 v 0)::es):=⟨⟨rfl,r,v,T,ds,rfl,h⟩,k⟩
theorem CapQ.get {a:Act} {w:World} (M:Sta Γ l res a w) {S:Blk}:∀ {us:List Value} {es:List Ent},CapQ res us es->BI S w es us
  | [],[],_=>trivial
  | u::us,e::es,h=>by
    obtain⟨⟨rfl,r,v,T,ds,rfl,h1⟩,h2⟩:=h;refine⟨⟨rfl,?_⟩,CapQ.get M h2⟩;rw[Jk (M.conts r v _ h1)];rcases M.conts r v _ h1 with h3 | ⟨b,o,_,_,b',vs,rfl,_⟩
    · exact h3.elim
    · rfl
  | [],_::_,h=>h.elim
  | _::_,[],h=>h.elim
theorem DC {σ : Type} {x : Operand} {f : FuncId} {F : Func} {b : Code} {cap : List Value} {args : List Operand} {ats : Array TypeId} {pa pc : List Ent} {rin : Res} {m1 : Option σ} {q : σ -> (Nat -> Value) -> CL} {kk : σ -> Option ρ} (ns : List Nat) (mp : List (Nat × Nat)) (hg : Grd os l ⟨some d, .call ⟨.value x, args.toArray, ats⟩, ty, pos, after, g⟩ true) (hn : Nat.blt d Γ.n = true)
    (hx:opE l x=some (.val (.func (.func f) #[] cap.toArray))) (hF:P.funcs[f]? = some F) (hB:F.body=some b) (hnm:(F.name == "runtime.NumGoroutine")=false) (hS:Aj P f (pa++pc) rin m1 q) (hA:Cm l args pa) (hC:CapQ res cap pc) (hr:BE res rin ns)
    (k:∀ s nv,GL P os (Sta Γ ((d,CC (q s nv).ret)::l) (aft ns mp (q s nv).res res)) rest N (kk s)) :
    GL P os (Sta Γ l res) (⟨some d,.call ⟨.value x,args.toArray,ats⟩,ty,pos,after,g⟩::rest) N (m1 >>= kk):=λa w ha r hm=>by
  cases hm1:m1 with
  | none=>rw[hm1] at hm; cases hm
  | some s =>
    rw[hm1] at hm;refine wpList_step λK hK=>?_;rw[if_pos (hg.wanted ha)];have hrun:(execOp a.eval ⟨some d,.call ⟨.value x,args.toArray,ats⟩,ty,pos,after,g⟩).run P w=.ok (.enter f (args.map a.eval++cap).toArray) w:=by
      simp[execOp,resolve,(ha.vl hx).1,Deferred.ofValue,invoke,Gm hF hB hnm,<- Array.append_assoc]
    unfold Oper.wp; rw[hrun];simp only[Oper.upon];have hH:∀ b,(λb=>Γ.H b\/∃ r v c,lr res r=some (v,c)/\ns.contains r=false/\AM v=some b) b↔Γ.H b\/∃ r v c,lr res r=some (v,c)/\ns.contains r=false/\AM v=some b:=λ_=>Iff.rfl;obtain⟨h1,h2⟩:=Fr.of ha hr hH;refine(hS s hm1 _ _ w ((Cm.get ha h2 hA).mk (CapQ.get ha hC)) h1).mono λe w' hR=>?_;obtain⟨nv,vs,rfl,hp⟩:=hR;obtain⟨⟨h3,_⟩,h4,_⟩:=ha.called (mp:=mp) hr hH hp
    exact hK _ _ (k s nv _ _ (h3.put hn h4) r hm)
def chk (p:Prop) [Decidable p]:Option Unit:=if p then some () else none
theorem CI {p:Prop} [Decidable p] {u:Unit} (h:chk p=some u):p:=by
  unfold chk at h; split at h
  · assumption
  · cases h
theorem sN:Ei l []:=trivial
theorem sS {t:Nat} {e:Ent} {l':AQ} (h:lk l t=some e) (k:Ei l l'):Ei l ((t,e)::l'):=⟨h,k⟩
theorem Zs {l l':AQ} {M O t3 t4:Nat} {e1 e2 e3 e4:Ent} (h1:lk l M=some e1) (h2:lk l O=some e2) (h3:lk l t3=some e3) (U:lk l t4=some e4) (k:Ei l l'):Ei l ((M,e1)::(O,e2)::(t3,e3)::(t4,e4)::l'):=sS h1 (sS h2 (sS h3 (sS U k)))
theorem rN:BE res [] []:=trivial
theorem rR {r n:Nat} {y:Value × AK} {res':Res} {ns:List Nat} (h:lr res n=some y) (M:ns.contains n=false) (k:BE res res' ns):BE res ((r,some y)::res') (n::ns):=⟨⟨y,rfl,h⟩,M,k⟩
theorem Zi {res:Res} {r n:Nat} {y:Value × AK} {res':Res} {ns:List Nat} (h:lr res n=some y) (k:BE res res' ns) (M:ns.contains n=false:=by rfl):BE res ((r,some y)::res') (n::ns):=rR h M k
theorem y1 {res:Res} {r n:Nat} {y:Value × AK} (h:lr res n=some y) (M:([]:List Nat).contains n=false:=by rfl):BE res [(r,some y)] [n]:=rR h M rN
theorem aN:Cm l [] []:=trivial
theorem aQ {o:Operand} {os:List Operand} {p:Ent} {ps:List Ent} (h:opE l o=some p) (k:Cm l os ps):Cm l (o::os) (p::ps):=⟨⟨p,h, λ_ _ _ h=>h⟩,k⟩
theorem Y1 {l:AQ} {o:Operand} {p:Ent} (h:opE l o=some p):Cm l [o] [p]:=aQ h aN
theorem Y2 {l:AQ} {o M:Operand} {p O:Ent} (h:opE l o=some p) (h2:opE l M=some O):Cm l [o,M] [p,O]:=aQ h (aQ h2 aN)
theorem pN {R:Rep α} {j:Nat}:RdP l R j [] []:=trivial
theorem pP {R:Rep α} {i j:Nat} {o:Operand} {x:α} {ps:List (Nat × Operand)} {xs:List α} (hi:i=j) (h:opE l o=some (.rd R x)) (k:RdP l R (j+1) ps xs):RdP l R j ((i,o)::ps) (x::xs):=⟨⟨hi,.inl h⟩,k⟩
theorem Zu {Γ:Ctx} {l l':AQ} {res res':Res} {a:Act} {w:World} (h:Sta Γ l res a w) (ns:List Nat) (M:Ei l l':=by repeat (first | exact sN | refine sS rfl ?_)) (O:BE res res' ns:=by repeat (first | exact rN | refine rR rfl rfl ?_)):Sta Γ l' res' a w:=h.sub ns M O
theorem Ze {ρ:Type} {P:Program} {fn:Func} {n:Nat} {H:Blk} {rin:Res} {w0:World} {q:ρ->(Nat->Value)->CL} {r:ρ} {l:AQ} {res:Res} {rs:List ResultVar} (vs:List Value) (ns:List Nat) (M:fn.results=rs.toArray) (h:Ej P l res rs (q r (nvl vs)).ret:=by repeat (first | exact eN | refine eE rfl ?_)) (O:BE res (q r (nvl vs)).res ns:=by repeat (first | exact rN | refine rR rfl rfl ?_)) :
 GE (Sta (ctx n H rin w0) l res) .ret (endQ P fn H rin q w0) (some r):=Bu vs ns M h O
theorem Zc {ρ:Type} {P:Program} {Γ:Ctx} {l:AQ} {res:Res} {os rest:List Oper} {N:ρ->Exit->Act->World->Prop} {d:Nat} {ty:TypeId} {pos:String} {after:Array Edge} {σ:Type} {f:FuncId} {F:Func} {b:Code} {args:List Operand} {ats:Array TypeId} {pin:List Ent} {rin:Res} {m1:Option σ} {q:σ->(Nat->Value)->CL} {kk:σ->Option ρ} (ns:List Nat) (mp:List (Nat × Nat)) (hF:P.funcs[f]? = some F) (hB:F.body=some b) (hS:Aj P f pin rin m1 q)
 (k:∀ s nv,GL P os (Sta Γ ((d,CC (q s nv).ret)::l) (aft ns mp (q s nv).res res)) rest N (kk s)) (hA:Cm l args pin:=by repeat (first | exact aN | refine aQ rfl ?_)) (hr:BE res rin ns:=by repeat (first | exact rN | refine rR rfl rfl ?_)) (hn:Nat.blt d Γ.n=true:=by rfl) (hnm:(F.name == "runtime.NumGoroutine")=false:=by rfl) :
 GL P os (Sta Γ l res) (⟨some d,.call ⟨.value (.func f),args.toArray,ats⟩,ty,pos,after,none⟩::rest) N (m1 >>= kk):=call ns mp hn hF hB hnm hS hA hr k
theorem eN:Ej P l res [] []:=trivial
theorem eE {t:Tmp} {e:Ent} {rs:List ResultVar} {es:List Ent} (h:lk l t=some e) (k:Ej P l res rs es):Ej P l res (.tmp t::rs) (e::es):=⟨h,k⟩
theorem eC {t:Tmp} {T T':TypeId} {v:Value} {R:Rep α} {x:α} {rs:List ResultVar} {es:List Ent} (r:Nat) (h:lk l t=some (.val (A7 v 0))) (M:lr res r=some (v,.box T' [.rd R x])) (hT:BJ P T R.agg R.sz) (k:Ej P l res rs es):Ej P l res (.cell t T::rs) (.rd R x::es) :=
  ⟨⟨r,v,T',h,M,.inl ⟨α,R,x,rfl,hT⟩⟩,k⟩
theorem Ce {u:Value}:(Ent.val u).flat:=λ_ _ _ _ _ h=>h
theorem Cr {k:IntKind} {f:α->Int} {x:α}:(Ent.rd (Bm k f) x).flat:=λ_ _ _ _ _ h=>h
theorem DD {x:Bool}:(Ent.rd Ai x).flat:=λ_ _ _ _ _ h=>h
end
end
section
open Go Go.RowKit Go.ChangeShapes Go.WideShapes Go.ChangeAt
abbrev En (w:World):Blk:=Shr (λ_=>False) [] w
section
variable {H:Type} {enc:TypeId × Value->H} {P:Program} {w:World} {base:Nat} {spare:Nat->Bool} {held:Bool}
def Opn {α:Type} (enc:TypeId × Value->H) (P:Program) (w:World) (base:Nat) (spare:Nat->Bool) (held:Bool) (T:TypeId) (R:Rep α) (wf:α->Prop):Prop :=
  ∀ (fuel:Nat) (cs:List Value) (x:DataW H × List MemPlace),DataW.trod enc P w base spare held fuel T cs=some x->∃ y,R.rel (En w) w cs y/\wf y
theorem Opn.num {α:Type} {k:IntKind} {f:α->Int} {wf:α->Prop} {T:TypeId} (hT:P.underlying T=some (.int k)) (M:∀ n,(Lit.int k n).wf=true->∃ y,f y=n/\wf y):Opn enc P w base spare held T (Bm k f) wf:=λfuel cs x h=>by
  obtain⟨n,rfl,-,hw⟩:=DataW.trod_int hT h;obtain⟨y,rfl,h2⟩:=M n hw;exact⟨y,rfl,h2⟩
def inI (x:Int):Prop:=-9223372036854775808<=x/\x<=9223372036854775807
theorem Opn.i64 {T:TypeId} (hT:P.underlying T=some (.int .i64)):Opn enc P w base spare held T A2 inI:=Opn.num hT (λn h=>⟨n,rfl, by
  simp[Lit.wf,IntKind.min,IntKind.max,IntKind.signed,IntKind.bits] at h; unfold inI; omega⟩)
theorem Opn.u8 {T:TypeId} (hT:P.underlying T=some (.int .u8)):Opn enc P w base spare held T u8R (λ_=>True):=Opn.num hT (λn h=>⟨UInt8.ofNat n.toNat, by
  simp[Lit.wf,IntKind.min,IntKind.max,IntKind.signed,IntKind.bits] at h; simp; omega,trivial⟩)
theorem Opn.u32 {T:TypeId} (hT:P.underlying T=some (.int .u32)):Opn enc P w base spare held T Aa (λ_=>True):=Opn.num hT (λn h=>⟨UInt32.ofNat n.toNat, by
  simp[Lit.wf,IntKind.min,IntKind.max,IntKind.signed,IntKind.bits] at h; simp; omega,trivial⟩)
theorem Opn.u64 {T:TypeId} (hT:P.underlying T=some (.int .u64)):Opn enc P w base spare held T Ao (λ_=>True):=Opn.num hT (λn h=>⟨UInt64.ofNat n.toNat, by
  simp[Lit.wf,IntKind.min,IntKind.max,IntKind.signed,IntKind.bits] at h; simp; omega,trivial⟩)
theorem Opn.str {T:TypeId} (hT:P.underlying T=some .string):Opn enc P w base spare held T CB (fun s=>s.length≤9223372036854775807):=fun fuel cs x h=>by
  obtain ⟨s,rfl,-,hs⟩:=DataW.trod_string hT h
  exact ⟨s.data.toList, ⟨s, rfl, rfl⟩, by have : s.data.toList.length = s.size := by simp
                                          show s.data.toList.length≤_; rw [this]; exact hs⟩
theorem Se {α:Type} {R:Rep α} {S:Blk} {K:Nat->List Value} {F:Nat->α}:∀ (l:List Nat),(∀ i∈l,R.rel S w (K i) (F i))->B5 R S w (l.flatMap K) (l.map F)
  | [],_=>rfl
  | i::l,h=>⟨K i,_, by simp,h i (by simp),Se l (λj M=>h j (by simp[M]))⟩
theorem Sf {K:Nat->List Value} {sz:Nat} (M:0<sz):∀ (n:Nat) (j:Nat),(∀ i,i<n->(K i).length=sz)->j<n * sz->((List.range n).flatMap K)[j]? = (K (j / sz))[j % sz]?
  | 0,j,_,O=>by simp at O
  | n+1,j,hK,O=>by
    have hl:((List.range n).flatMap K).length=n * sz:=by
      have:∀ m,m<=n->((List.range m).flatMap K).length=m * sz:=by
        intro m hm
        induction m with
        | zero=>simp
        | succ m U=>rw[List.range_succ,List.flatMap_append,List.length_append,U (by omega)]; simp[hK m (by omega),Nat.add_mul]
      exact this n (Nat.le_refl _)
    rw[List.range_succ,List.flatMap_append,List.getElem?_append,hl]
    split
    · exact Sf M n j (λi hi=>hK i (by omega)) ‹_›
    · rename_i a1
      have e:(n+1) * sz=n * sz+sz:=by rw[Nat.add_mul]; omega
      have h1:j / sz=n:=by
        have:j / sz<n+1:=by rw[Nat.div_lt_iff_lt_mul M]; omega
        have:n<=j / sz:=by rw[Nat.le_div_iff_mul_le M]; omega
        omega
      have h2:j % sz=j - n * sz:=by
        have:=Nat.div_add_mod j sz; rw[h1,Nat.mul_comm] at this; omega
      rw[h1,h2]; simp
theorem Opn.slice {α : Type} [Inhabited α] {R : Rep α} {wf : α -> Prop} {T e : TypeId} (hT : P.underlying T = some (.slice e)) (hc : P.cellsOf e = R.sz) (M : Nat.blt 0 R.sz = true) (k : Opn enc P w base spare held e R wf) :
    Opn enc P w base spare held T (A3 R) (λl=>(∀ x∈l,wf x)/\l.length<=9223372036854775807):=λfuel cs x h=>by
  have M:0<R.sz:=Eq.mp Nat.blt_eq M;rcases Go.Deep.open_slice hT h with ⟨rfl,-⟩ | ⟨a,len,cap,m,n,D,Pl,rfl,hb,hl,hm,ab,-,a6⟩
  · exact⟨[],⟨none,0,[],rfl,Rd.nil _ _,rfl, by simp⟩, by simp⟩
  · have ae:len<=m:=by rw[ab]; split <;> omega
    rw[hc] at a6
    obtain⟨F,hF⟩:=Go.Deep.choose_lt (α:=List Value × α) (n:=len) (p:=λi y=>w.cells? base (a.add (i * R.sz)) R.sz=some y.1/\R.rel (En w) w y.1 y.2/\wf y.2) (λi hi=>by
      obtain⟨cs',h1,h2⟩:=a6 i (by omega);obtain⟨y,h3,h4⟩:=k n cs' _ h2
      exact⟨(cs',y),h1,h3,h4⟩)
    have hK:∀ i,i<len->(F i).1.length=R.sz:=λi hi=>R.len (hF i hi).2.1;have U:∀ i,i<len->∀ q,q<R.sz->w.cell? ((a.add (i * R.sz)).add q)=((F i).1)[q]? := λi hi q hq=>(World.cells?_some (hF i hi).1).2.2 q hq;have a1:((List.range len).map λi=>(F i).2).length=len:=by simp
    obtain⟨bk,o,sp⟩:=a;have a2:0<len->sp=none:=λhp=>by
      have h1:=U 0 hp 0 M;have h2:((F 0).1)[0]? = some ((F 0).1[0]'(by rw[hK 0 hp]; exact M)):=List.getElem?_eq_getElem _;rw[h2] at h1
      simpa [Addr.add] using World.cell?_spot h1
    have O:=Se (R:=R) (S:=En w) (w:=w) (K:=λi=>(F i).1) (F:=λi=>(F i).2) (List.range len) (λi hi=>(hF i (by simpa using hi)).2.1);have a7:∀ j u,((List.range len).flatMap λi=>(F i).1)[j]? = some u->w.cell? ⟨bk,o+j,none⟩=some u:=λj u hu=>by
      have a8:=O.len;rw[a1] at a8;have hj:j<len * R.sz:=by have:=(List.getElem?_eq_some_iff.1 hu).1; rw[a8] at this; exact this
      rw[Sf M len j hK hj] at hu;have hi:j / R.sz<len:=by rw[Nat.div_lt_iff_lt_mul M]; exact hj
      have h2:=U (j / R.sz) hi (j % R.sz) (Nat.mod_lt _ M);have ac:=a2 (Nat.lt_of_le_of_lt (Nat.zero_le _) hi);subst ac;rw[D8,D8] at h2;have e1:o+j / R.sz * R.sz+j % R.sz=o+j:=by
        have:=Nat.div_add_mod j R.sz; rw[Nat.mul_comm] at this; omega
      rw[e1] at h2;rw[h2]; exact hu
    refine⟨(List.range len).map λi=>(F i).2,⟨some ⟨bk,o,sp⟩,cap,_, by rw[a1],⟨by rw[O.len],?_⟩,O,?_⟩,?_, by rw[a1]; have:maxLen=9223372036854775807:=rfl; omega⟩
    · rw[a1]
      refine .inr ⟨bk,o,sp,cap,rfl,hl,hm,?_,a7⟩;by_cases h1:len=0
      · left; subst h1; rfl
      · right; exact a2 (by omega)
    · intro ad b aa
      simp[sblk] at aa;subst aa;refine⟨?_, λr v c h=>by simp[lr,lk] at h, λh=>h⟩
      cases hL:((List.range len).flatMap λi=>(F i).1) with
      | nil=>exact absurd hL ad
      | cons u us=>exact World.block_lt_of_cell? w _ (a7 0 u (by rw[hL]; rfl))
    · intro x hx
      simp only[List.mem_map,List.mem_range] at hx;obtain⟨i,hi,rfl⟩:=hx;exact(hF i hi).2.2
theorem Sg {α:Type} {R:Rep α} {S:Blk} (F:Nat->α):∀ (n:Nat) (cs:List Value),cs.length=n * R.sz->(∀ i,i<n->R.rel S w ((cs.drop (i * R.sz)).take R.sz) (F i))->B5 R S w cs ((List.range n).map F)
  | 0,cs,h,_=>by simp at h; subst h; rfl
  | n+1,cs,h,k=>by
    have e:(n+1) * R.sz=n * R.sz+R.sz:=by rw[Nat.add_mul]; omega
    rw[List.range_succ,List.map_append]
    have h1:=Sg (R:=R) (S:=S) F n (cs.take (n * R.sz)) (by simp; omega) (λi hi=>by
      have e2:(i+1) * R.sz<=n * R.sz:=Nat.mul_le_mul_right _ (by omega);have e3:(i+1) * R.sz=i * R.sz+R.sz:=by rw[Nat.add_mul]; omega
      have:=k i (by omega)
      rw[List.drop_take,List.take_take,Nat.min_eq_left (by omega)]; exact this)
    have h2:=k n (by omega);have h3:(cs.drop (n * R.sz)).take R.sz=cs.drop (n * R.sz):=List.take_of_length_le (by simp; omega);rw[h3] at h2
    have:=h1.append (B5.single h2)
    rwa [List.take_append_drop] at this
theorem Opn.arr {α : Type} [Inhabited α] {R : Rep α} {wf : α -> Prop} {T e : TypeId} {n : Nat} (hT : P.underlying T = some (.array n e)) (hc : P.cellsOf e = R.sz) (hl : P.cellsOf T = n * R.sz) (k : Opn enc P w base spare held e R wf) :
    Opn enc P w base spare held T (Av n R) (λv=>∀ x∈v.toList,wf x):=λfuel cs x h=>by
  obtain⟨xs,m,-,-,O,a1,hi⟩:=DataW.trod_array hT h;rw[hc] at hi
  obtain⟨F,hF⟩:=Go.Deep.choose_lt (α:=α) (n:=n) (p:=λi y=>R.rel (En w) w ((cs.drop (i * R.sz)).take R.sz) y/\wf y) (λi M=>by
    have h3:=hi i M;rw[List.getElem?_eq_getElem (by omega)] at h3
    exact k m _ _ h3)
  have U:=Sg (R:=R) (S:=En w) (w:=w) F n cs (by rw[O,hl]) (λi M=>(hF i M).1);have hv:(Vector.mk ((List.range n).map F).toArray (by simp):Vector α n).toList=(List.range n).map F:=by simp[Vector.toList]
  refine⟨Vector.mk ((List.range n).map F).toArray (by simp),?_,?_⟩
  · show B5 R (En w) w cs _
    rw[hv]; exact U
  · intro x hx
    rw[hv] at hx;simp only[List.mem_map,List.mem_range] at hx;obtain⟨i,M,rfl⟩:=hx;exact(hF i M).2
def Cf {γ:Type} (enc:TypeId × Value->H) (P:Program) (w:World) (base:Nat) (spare:Nat->Bool) (held:Bool) (fs:List Field) (o:Nat) (R:Rep γ) (wf:γ->Prop):Prop :=
  ∀ (n:Nat) (cs:List Value),(∀ f∈fs,∃ y,DataW.trod enc P w base spare held n f.type ((cs.drop f.offset).take (P.cellsOf f.type))=some y)->cs.length=o+R.sz->∃ y,R.rel (En w) w (cs.drop o) y/\wf y
theorem Cf.nil {o:Nat}:Cf enc P w base spare held [] o E3 (λ_=>True):=λn cs _ hl=>by
  refine⟨(),?_,trivial⟩;show cs.drop o=[];exact List.drop_eq_nil_of_le (by rw[hl]; exact Nat.le_refl _)
theorem Cf.cons {α β : Type} {R : Rep α} {R2 : Rep β} {wf : α -> Prop} {M : β -> Prop} {f : Field} {fs : List Field} {o : Nat} (h1 : Opn enc P w base spare held f.type R wf) (U : f.offset = o) (hc : P.cellsOf f.type = R.sz) (h2 : Cf enc P w base spare held fs (o + R.sz) R2 M) :
    Cf enc P w base spare held (f::fs) o (C3 R R2) (λp=>wf p.1/\M p.2):=λn cs h hl=>by
  obtain⟨x,O⟩:=h f (by simp);rw[U,hc] at O;obtain⟨y,k1,k2⟩:=h1 _ _ _ O;obtain⟨z,k3,k4⟩:=h2 n cs (λf hf=>h f (by simp[hf])) (by rw[hl]; show o+(R.sz+R2.sz)=_; omega);refine⟨(y,z),⟨_,_,?_,k1,k3⟩,k2,k4⟩;rw[<- List.drop_drop,List.take_append_drop]
theorem Opn.struct {β γ : Type} {R : Rep γ} {g : β -> γ} {wf : γ -> Prop} {wf' : β -> Prop} {T : TypeId} {fs : Array Field} (hT : P.underlying T = some (.struct fs)) (hl : P.cellsOf T = R.sz) (k : Cf enc P w base spare held fs.toList 0 R wf) (of : γ -> β) (U : ∀ y, g (of y) = y) (hw : ∀ y, wf y -> wf' (of y)) :
    Opn enc P w base spare held T (DK g R) wf':=λfuel cs x h=>by
  obtain⟨xs,n,-,-,M,a1,hi⟩:=DataW.trod_struct hT h
  obtain⟨y,h1,h2⟩:=k n cs (λf hf=>by
    obtain⟨i,O,rfl⟩:=List.mem_iff_getElem.1 hf;have hi'':i<fs.size:=by simpa using O
    have:=hi i (fs[i]) (by simp[hi''])
    rw[List.getElem?_eq_getElem (by omega)] at this
    exact⟨_, by simpa using this⟩) (by rw[M,hl]; omega)
  refine⟨of y,?_,hw y h2⟩;show R.rel (En w) w cs (g (of y));rw[U]; simpa using h1
theorem Opn.arg {α : Type} {R : Rep α} {wf : α -> Prop} {T : TypeId} {v : Value} {d : DataW H} {ps : List MemPlace} (k : Opn enc P w base spare held T R wf) (h : DataW.Trod enc P w base spare held T v d ps) (O : R.agg = false /\ v.oneCell' = true \/ R.agg = true /\ ∃ cs, v = .agg cs) :
    ∃ y,(Ent.rd R y).holds (En w) w v/\wf y:=by
  obtain⟨fuel,U⟩:=h;obtain⟨y,h1,h2⟩:=k fuel _ _ U;refine⟨y,⟨_,h1,?_⟩,h2⟩;rcases O with ⟨M,h3⟩ | ⟨M,cs,rfl⟩
  · rw[I1 h3]; simp[Rep.val,M]
  · simp[Rep.val,M,Value.cells]
theorem ok4 {P:Program} {w:World} {r:Reach} {b:Nat} {T e:TypeId} {v:Value} (hT:P.underlying T=some (.slice e)) (h:Value.okWide P w r b T v):v.oneCell'=true:=by
  obtain⟨a,l,c,rfl⟩:=okWide_slice hT h; rfl
theorem ok5 {P:Program} {w:World} {r:Reach} {b:Nat} {T:TypeId} {v:Value} {fs:Array Field} (hT:P.underlying T=some (.struct fs)) (h:Value.okWide P w r b T v):∃ cs,v=.agg cs:=by
  obtain⟨cs,h,_⟩:=okWide_struct hT h; exact⟨cs,h⟩
end
end
section
theorem Ls {S:Blk} {w:World}:∀ {b:List UInt8} {xs:List Value},B5 u8R S w xs b->xs=b.map λc=>.int .u8 (c.toNat:Int)
 | [],xs,h=>by simp only[B5] at h; simp[h]
 | c::b,xs,h=>by
  obtain⟨u,d,rfl,h1,h2⟩:=h;have h1:u=[.int .u8 (c.toNat:Int)]:=h1;rw[Ls h2,h1]; rfl
theorem XO (a b:UInt32):(if (a.toNat:Int)<(b.toNat:Int) then (b.toNat:Int) else (a.toNat:Int))=((max a b).toNat:Int):=by
 rw[show max a b=if a<=b then b else a from rfl];by_cases h:a<=b
 ·have:=UInt32.le_iff_toNat_le.1 h
  rw[if_pos h]; split <;> omega
 ·have:¬ a.toNat<=b.toNat:=λk=>h (UInt32.le_iff_toNat_le.2 k)
  rw[if_neg h]; split <;> omega
section
variable {α:Type} {C:World->World->Prop} {P:Program} {Γ:Ctx} {l:AQ} {res:Res} {d:Tmp} {ty:TypeId} {pos:String} {after:Array Edge} {g:Option (Nat × Bool)}
theorem W.max {x y:Operand} {at_:Array TypeId} {a b:UInt32} (M:opE l x=some (.rd Aa a)) (O:opE l y=some (.rd Aa b)):Run C P Γ l res ⟨some d,.call ⟨.builtin .max,#[x,y],at_⟩,ty,pos,after,g⟩ (.rd Aa (Max.max a b)):=maxi M O (XO a b)
theorem cutV {R:Rep α} {n:Nat} {v:Vector α n} {x:Operand} {T e:TypeId} {z:Value} {by_:Nat} (hx:opE l x=some (.rp (Av n R) v)) (hT:P.underlying T=some (.array n e)) (hE:TI P e z R.sz by_) (O:Nat.blt 0 n=true) (U:Nat.ble n 281474976710656=true) (h0:Nat.blt 0 R.sz=true) :
  Run C P Γ l res ⟨some d,.slice T x none none none,ty,pos,after,g⟩ (.rd (A3 R) v.toList):=λa w ha=>by
 have O:0<n:=Eq.mp Nat.blt_eq O;have U:n<=281474976710656:=Nat.le_of_ble_eq_true U;obtain⟨b,o,cs,h1,h2,h3,h4⟩:=ha.vl hx;have M:v.toList.length=n:=by simp
 refine⟨.slice (some ⟨b,o,none⟩) v.toList.length n, λw' _=>?_,_,⟨some ⟨b,o,none⟩,n,cs,rfl,⟨by rw[M]; exact(B5.len (show B5 R _ w cs v.toList from h3)).trans (by rw[M]),.inr ⟨b,o,none,n,rfl, by omega, by unfold maxLen; omega,.inr rfl,h4⟩⟩,h3, λ_ bb a1=>by cases a1; exact h2⟩,rfl⟩;rw[M];have a2:¬ n=0:=by omega
 simp[execOp,h1,Instr.sliceAt,run_underlying hT,Instr.sliceBounds,Instr.sureAddr,D9 hE,Sem.run_pure,Addr.add]
end
def CZ (b:List UInt8) (q:Nat):Nat × Nat:=Utf8.decode ⟨b.toArray⟩ q
def AK.iter (b:List UInt8) (q:Nat):AK where
 nil _ _ _:=False
 nilm _ h:=h
 nilb h:=h.elim
 rel S w v o:=∃ g s,v=.pointer (some ⟨g,0,none⟩)/\o=.stringIter s q/\s.data.toList=b
 mono k h:=h
section
variable {ρ:Type} {P:Program} {Γ:Ctx} {l:AQ} {res:Res} {m1 m2:Option ρ} {os rest:List Oper} {N:ρ->Exit->Act->World->Prop} {d:Tmp} {ty:TypeId} {pos:String} {after:Array Edge} {g:Option (Nat × Bool)}
theorem rng (r:Nat) {T:TypeId} {x:Operand} {b:List UInt8} (U:opE l x=some (.rd CB b)) (hT:P.underlying T=some .string):Eff P Γ l res ⟨some d,.range T x,ty,pos,after,g⟩ r (λv=>(v,.iter b 0)):=λa w O=>by
 obtain⟨s,h1,rfl⟩:=I3 (O.vl U);have M:(execOp a.eval ⟨some d,.range T x,ty,pos,after,g⟩).run P w=.ok (.value (.pointer (some ⟨w.heap.size,0,none⟩))) (w.alloc (.stringIter s 0)):=by
  simp[execOp,h1,run_range_string w T s hT,World.iter]
 exact⟨_,_,M,O.upd r (c:=.iter s.data.toList 0) (EJ w (.stringIter s 0)) (by simp) (λb hb=>.inr (by simp[AM] at hb; omega)) (v:=.pointer (some ⟨w.heap.size,0,none⟩))
  (λS' k'=>.inr ⟨w.heap.size,_,rfl, by show (w.heap.push (Obj.stringIter s 0))[w.heap.size]? = _; simp,_,s,rfl,rfl,rfl⟩),rfl,none,EJ w _, by simp⟩
theorem Sh {x:Operand} {v:Value} {b:List UInt8} {q:Nat} (r:Nat) (hn:Nat.blt d Γ.n=true) (hx:opE l x=some (.val v)) (hr:lr res r=some (v,.iter b q))
  (ht:q<b.length->GL P os (Sta Γ ((d,.tup [.rd Ai true,.rd A2 (q:Int),.rd i32R ((CZ b q).1:Int)])::l) ((r,some (v,.iter b (q+(CZ b q).2)))::res)) rest N m1)
  (hf:¬ q<b.length->GL P os (Sta Γ ((d,.tup [.rd Ai false])::l) res) rest N m2) :
  GL P os (Sta Γ l res) (⟨some d,.next x true,ty,pos,after,none⟩::rest) N (if q<b.length then m1 else m2):=λa w ha ρ hm=>by
 have h1:=(ha.vl hx).1;rcases ha.conts r v _ hr with h2 | ⟨b',o,h2,h3,g',s,rfl,rfl,hs⟩
 ·exact h2.elim
 ·simp only[AM,Option.some.injEq] at h2;subst h2;have a1:s=⟨b.toArray⟩:=by
   cases s with | mk data=>simp only at hs; rw[<- hs]
  have a2:s.size=b.length:=by rw[a1]; rfl
  by_cases O:q<b.length
  ·rw[if_pos O] at hm;have M:(execOp a.eval ⟨some d,.next x true,ty,pos,after,none⟩).run P w=.ok (.value (.tuple #[.bool true,.int .i64 (q:Int),.int .i32 ((CZ b q).1:Int)])) { w with heap:=w.heap.setIfInBounds g' (.stringIter s (q+(CZ b q).2)) }:=by
    simp[execOp,h1,Instr.next,getObj,setObj,Sem.run,h3,a2,O,goInt,<- a1,CZ]
   have a6:g'<w.heap.size:=(Array.getElem?_eq_some_iff.1 h3).1;have a7:w.grownBy { w with heap:=w.heap.setIfInBounds g' (.stringIter s (q+(CZ b q).2)) } (some g'):=by
    refine⟨rfl,rfl,rfl, by simp, λk hk U=>?_⟩;have U:k≠g':=λe=>U (by rw[e]);simp only[Array.getElem?_setIfInBounds];rw[if_neg (λe=>U e.symm)]
   obtain⟨h4,h5⟩:=ha.upd r (v:=.pointer (some ⟨g',0,none⟩)) (c:=.iter b (q+(CZ b q).2)) a7 (λb hb=>⟨_,_,hr, by cases hb; rfl⟩) (λb hb=>.inl ⟨_,_,hr,hb⟩)
    (λS' k'=>.inr ⟨g',.stringIter s (q+(CZ b q).2),rfl, by simp[a6],g',s,rfl,rfl,hs⟩)
   refine st (EF rfl) M (ht O _ _ (h4.put hn ⟨[_,_,_],⟨⟨_,rfl,rfl⟩,Dt,Dt,trivial⟩,rfl⟩) ρ hm)
  ·rw[if_neg O] at hm;have M:(execOp a.eval ⟨some d,.next x true,ty,pos,after,none⟩).run P w=.ok (.value (.tuple #[.bool false])) w:=by
    simp[execOp,h1,Instr.next,getObj,Sem.run,h3,a2,O]
   refine st (EF rfl) M (hf O _ _ (ha.put hn ⟨[_],⟨⟨_,rfl,rfl⟩,trivial⟩,rfl⟩) ρ hm)
end
end
section
section
variable {ρ:Type} {P:Program} {Γ:Ctx} {l l0:AQ} {res res0:Res} {ws:List Nat} {m m1 m2:Option ρ} {os:List Oper} {N:ρ->Exit->Act->World->Prop}
 {d:Tmp} {op:Op} {ty:TypeId} {pos:String} {after:Array Edge} {g:Option (Nat × Bool)} {fuel i:Nat} {listed listed':Array Bool} {rest:List Oper}
def GO (P:Program) (os:List Oper) (Γ:Ctx) (l0:AQ) (res0:Res) (ws:List Nat) (l:AQ) (res:Res) (N:ρ->Exit->Act->World->Prop) (fuel:Nat) (listed:Array Bool) (i:Nat) (m:Option ρ):Prop :=
 ∀ a w0 w,SH Γ l0 res0 ws l res a w0 w->∀ r,m=some r->wpOp P os.toArray (N r) i (λa' w'=>CW res0 ws w0 w'/\wpAnyH P .any os.toArray (N r) (CW res0 ws w0) fuel (listed.setIfInBounds i true) a' w') a w
def AllP {α:Type} (p:α->Prop):List α->Prop
 | []=>True
 | x::l=>p x/\AllP p l
theorem AllP.mem {α:Type} {p:α->Prop}:∀ {l:List α},AllP p l->∀ x∈l,p x
 | [],_,x,h=>by simp at h
 | y::l,h,x,M=>by
  rcases List.mem_cons.1 M with rfl | M
  ·exact h.1
  ·exact AllP.mem h.2 x M
theorem hAlt (is:List Nat) (O:Region.ready .any os.toArray listed=is) (M:is.isEmpty=false) (h:AllP (λi=>GO P os Γ l0 res0 ws l res N fuel listed i m) is):GH P os Γ l0 res0 ws l res N (fuel+1) listed m:=λa w0 w U r hm =>
 wpAnyH_all O (by intro e; rw[e] at M; cases M) (λi hi=>h.mem i hi a w0 w U r hm)
theorem oDo {r:Nat} {x:Value->Value × AK} (i:Nat) (hi:os.toArray[i]? = some ⟨some d,op,ty,pos,after,g⟩) (hg:Grd os l ⟨some d,op,ty,pos,after,g⟩ true) (hn:Nat.blt d Γ.n=true) (hl:listed.setIfInBounds i true=listed') (hw:ws.contains r=true)
  (he:Eff P Γ l res ⟨some d,op,ty,pos,after,g⟩ r x) (hx:∀ u,(x u).1=u) (k:∀ u,GH P os Γ ((d,.val u)::l0) res0 ws ((d,.val u)::l) ((r,some (x u))::res) N fuel listed' m):GO P os Γ l0 res0 ws l res N fuel listed i m:=λa w0 w O ρ' hm=>by
 obtain⟨w',u,h1,h2,h3,h4⟩:=he a w O.s;have a2:=hg.wanted O.s;unfold wpOp;simp only[hi,a2,if_true];refine .inl ?_;unfold Oper.wp; rw[h1];have a1:∀ b,AM (x u).1=some b->(∃ v0 c0,lr res r=some (v0,c0)/\AM v0=some b)\/w.heap.size<=b:=λb hb=>by
  by_cases h5:w.heap.size<=b
  ·exact .inr h5
  ·refine .inl (Classical.byContradiction λa6=>?_);have hc:=h2.1.conts r _ _ (BB.trans (if_pos rfl));by_cases hS:Shr Γ.H res w b
   ·exact(h2.2 b hS).1.2.1 r _ _ (BB.trans (if_pos rfl)) hb
   ·have hK:¬ Γ.K b:=h2.1.own r _ _ (BB.trans (if_pos rfl)) b hb;refine hS ⟨by omega, λr' v' c' U e=>?_, λhh=>hK (O.s.hid b hh)⟩;by_cases M:r=r'
    ·subst M; exact a6 ⟨v',c',U,e⟩
    ·exact h2.1.excl r _ _ r' v' c' (BB.trans (if_pos rfl)) ((BB.trans (if_neg M)).trans U) M b hb e
 have hS:=O.grew hw h2 h4 a1;refine⟨hS.cw,?_⟩;rw[hl];exact k u _ w0 w' (hS.put hn ⟨rfl,h3⟩ ⟨rfl,h3⟩) ρ' hm
theorem Si {σ:Type} {f:FuncId} {F:Func} {b:Code} {args:List Operand} {ats:Array TypeId} {pin:List Ent} {rin:Res} {m1:Option σ} {q:σ->(Nat->Value)->CL} {kk:σ->Option ρ} (i:Nat) (ns:List Nat) (mp:List (Nat × Nat)) (e0:σ->(Nat->Value)->Ent)
  (hi:os.toArray[i]? = some ⟨some d,.call ⟨.value (.func f),args.toArray,ats⟩,ty,pos,after,g⟩) (hl:listed.setIfInBounds i true=listed') (hg:Grd os l ⟨some d,.call ⟨.value (.func f),args.toArray,ats⟩,ty,pos,after,g⟩ true) (hn:Nat.blt d Γ.n=true)
  (hF:P.funcs[f]? = some F) (hB:F.body=some b) (hnm:(F.name == "runtime.NumGoroutine")=false) (hS:Aj P f pin rin m1 q) (hA:Cm l args pin) (hr:BE res rin ns) (hw:ns.all (λn=>ws.contains n)=true)
  (he0:∀ s nv v S w S' w',(CC (q s nv).ret).holds S w v->(e0 s nv).holds S' w' v)
  (k:∀ s nv,GH P os Γ ((d,e0 s nv)::l0) res0 ws ((d,CC (q s nv).ret)::l) (aft ns mp (q s nv).res res) N fuel listed' (kk s)) :
  GO P os Γ l0 res0 ws l res N fuel listed i (m1 >>= kk):=λa w0 w ha r hm=>by
 cases hm1:m1 with
 | none=>rw[hm1] at hm; cases hm
 | some s =>
  rw[hm1] at hm;have hgw:=hg.wanted ha.s;unfold wpOp;simp only[hi,hgw,if_true];refine .inl ?_;have hrun:(execOp a.eval ⟨some d,.call ⟨.value (.func f),args.toArray,ats⟩,ty,pos,after,g⟩).run P w=.ok (.enter f (args.map a.eval).toArray) w:=by
   have e0:a.eval (.func f)=.func (.func f) #[] #[]:=rfl;simp[execOp,resolve,e0,Deferred.ofValue,invoke,Gm hF hB hnm]
  unfold Oper.wp; rw[hrun];simp only[Oper.upon];have hH:∀ b,(λb=>Γ.H b\/∃ r v c,lr res r=some (v,c)/\ns.contains r=false/\AM v=some b) b↔Γ.H b\/∃ r v c,lr res r=some (v,c)/\ns.contains r=false/\AM v=some b:=λ_=>Iff.rfl;obtain⟨h1,h2⟩:=Fr.of ha.s hr hH;refine(hS s hm1 _ _ w (Cm.get ha.s h2 hA) h1).mono λe w' hR=>?_;obtain⟨nv,vs,rfl,hp⟩:=hR;obtain⟨⟨h3,h5⟩,h4,h6⟩:=ha.s.called (mp:=mp) hr hH hp
  have hlent:∀ b,Bof rin b->(∃ r0 v0 c0,ws.contains r0=true/\lr res0 r0=some (v0,c0)/\AM v0=some b)\/w0.heap.size<=b:=λb ⟨r',v,c,q1,q2⟩=>by
   obtain⟨n,q3,q4⟩:=hr.get q1;have hn':ws.contains n=true:=by simpa using (List.all_eq_true.1 hw) n q3
   exact ha.wsp n v c b hn' q4 q2
  have hcw:CW res0 ws w0 w':=by
   refine C5.tr ha.cw hp.keep (λb hb=>⟨Nat.lt_of_lt_of_le hb.1 ha.cw.size, λhB=>?_⟩);rcases hlent b hB with ⟨r0,v0,c0,q1,q2,q3⟩ | q1
   ·exact hb.2 r0 v0 c0 q1 q2 q3
   ·have:=hb.1; omega
  refine⟨hcw,?_⟩;rw[hl];refine k s nv _ w0 w' (SH.put ⟨ha.s0,h3,hcw,ha.st.tr h5, λr2 v2 c2 b2 k1 k2 k3=>?_⟩ hn (he0 s nv _ _ _ _ _ h4) h4) r hm;rcases FQ k2 with ⟨k',q1,q2⟩ | ⟨q1,q2⟩
  ·rcases hp.own k' v2 c2 q2 b2 k3 with q3 | q3
   ·exact .inr (Nat.le_trans ha.cw.size q3)
   ·exact hlent b2 q3
  ·exact ha.wsp r2 v2 c2 b2 k1 q2 k3
theorem oRun {e0 e:Ent} (i:Nat) (hi:os.toArray[i]? = some ⟨some d,op,ty,pos,after,g⟩) (U:Grd os l ⟨some d,op,ty,pos,after,g⟩ true) (hn:Nat.blt d Γ.n=true) (hl:listed.setIfInBounds i true=listed')
  (h0:∀ S w S' w' v,e.holds S w v->e0.holds S' w' v) (he:Run Eq P Γ l res ⟨some d,op,ty,pos,after,g⟩ e) (k:GH P os Γ ((d,e0)::l0) res0 ws ((d,e)::l) res N fuel listed' m):GO P os Γ l0 res0 ws l res N fuel listed i m:=λa w0 w M ρ' hm=>by
 obtain⟨u,h1,h2⟩:=he a w M.s;have O:=U.wanted M.s;unfold wpOp;simp only[hi,O,if_true];refine .inl ?_;unfold Oper.wp; rw[h1 w rfl];refine⟨M.cw,?_⟩;rw[hl];exact k _ w0 w (M.put hn (h0 _ _ _ _ _ h2) h2) ρ' hm
theorem oDoB {r:Nat} {T:TypeId} {es:List Ent} (i:Nat) (hi:os.toArray[i]? = some ⟨some d,op,ty,pos,after,g⟩) (O:Grd os l ⟨some d,op,ty,pos,after,g⟩ true) (U:Nat.blt d Γ.n=true) (hl:listed.setIfInBounds i true=listed') (hw:ws.contains r=true)
  (he:Eff P Γ l res ⟨some d,op,ty,pos,after,g⟩ r (λv=>(v,.box T es))) (k:∀ u,GH P os Γ ((d,.val (A7 u 0))::l0) res0 ws ((d,.val (A7 u 0))::l) ((r,some (u,.box T es))::res) N fuel listed' m):GO P os Γ l0 res0 ws l res N fuel listed i m :=
 oDo i hi O U hl hw he (λ_=>rfl) (λu a w0 w M ρ' hm=>by
  have hb:=Jk (M.s.conts r _ _ (BB.trans (if_pos rfl)))
  have:=k u a w0 w
  rw[hb] at this
  exact this M ρ' hm)
theorem XP {σ:Type} {f:FuncId} {F:Func} {b:Code} {args:List Operand} {ats:Array TypeId} {pin:List Ent} {rin:Res} {m1:Option σ} {q:σ->(Nat->Value)->CL} {kk:σ->Option ρ} (i:Nat) (ns:List Nat) (mp:List (Nat × Nat))
  (hi:os.toArray[i]? = some ⟨some d,.call ⟨.value (.func f),args.toArray,ats⟩,ty,pos,after,g⟩) (hl:listed.setIfInBounds i true=listed') (hg:Grd os l ⟨some d,.call ⟨.value (.func f),args.toArray,ats⟩,ty,pos,after,g⟩ true) (hn:Nat.blt d Γ.n=true)
  (hF:P.funcs[f]? = some F) (hB:F.body=some b) (hnm:(F.name == "runtime.NumGoroutine")=false) (hS:Aj P f pin rin m1 q) (hA:Cm l args pin) (hr:BE res rin ns) (hw:ns.all (λn=>ws.contains n)=true)
  (k:∀ s nv,GH P os Γ ((d,.junk)::l0) res0 ws ((d,CC (q s nv).ret)::l) (aft ns mp (q s nv).res res) N fuel listed' (kk s)) :
  GO P os Γ l0 res0 ws l res N fuel listed i (m1 >>= kk):=Si i ns mp (λ_ _=>.junk) hi hl hg hn hF hB hnm hS hA hr hw (λ_ _ _ _ _ _ _ _=>trivial) k
theorem Lt {σ:Type} {f:FuncId} {F:Func} {b:Code} {args:List Operand} {ats:Array TypeId} {pin:List Ent} {rin:Res} {m1:Option σ} {q:σ->(Nat->Value)->CL} {kk:σ->Option ρ} (i:Nat) (ns:List Nat) (mp:List (Nat × Nat))
  (hi:os.toArray[i]? = some ⟨some d,.call ⟨.value (.func f),args.toArray,ats⟩,ty,pos,after,g⟩) (hl:listed.setIfInBounds i true=listed') (hg:Grd os l ⟨some d,.call ⟨.value (.func f),args.toArray,ats⟩,ty,pos,after,g⟩ true) (hn:Nat.blt d Γ.n=true)
  (hF:P.funcs[f]? = some F) (hB:F.body=some b) (hnm:(F.name == "runtime.NumGoroutine")=false) (hS:Aj P f pin rin m1 q) (hA:Cm l args pin) (hr:BE res rin ns) (hw:ns.all (λn=>ws.contains n)=true)
  (hfl:∀ s nv,(CC (q s nv).ret).flat) (k:∀ s nv,GH P os Γ ((d,CC (q s nv).ret)::l0) res0 ws ((d,CC (q s nv).ret)::l) (aft ns mp (q s nv).res res) N fuel listed' (kk s)) :
  GO P os Γ l0 res0 ws l res N fuel listed i (m1 >>= kk):=Si i ns mp (λs nv=>CC (q s nv).ret) hi hl hg hn hF hB hnm hS hA hr hw (λs nv v S w S' w' h=>hfl s nv S w S' w' v h) k
theorem oFrz {i:Nat} {α:Type} {R:Rep α} {T:TypeId} {b:List α} {v:Value} (r:Nat) (ts:List Nat) (hr:lr res r=some (v,.list R T b)) (ht:FrL l v ts) (k:GO P os Γ (ts.map (λt=>(t,.junk))++l0) res0 ws (ts.map (λt=>(t,.rd (A3 R) b))++l) ((r,none)::res) N fuel listed i m):GO P os Γ l0 res0 ws l res N fuel listed i m:=λa w0 w M r' a1=>by
 refine k a w0 w ⟨?_,M.s.frz r ts hr ht,M.cw, λbb hb=>⟨?_,(M.st bb hb).2⟩, λU v2 c2 b2 h1 h2=>?_⟩ r' a1
 ·refine { M.s0 with slots:=λt' e' O=>?_ };rw[Lp] at O
  split at O
  ·rename_i hh; cases O
   obtain⟨u,h1,_⟩:=M.s.slots t' _ (ht.get hh);exact⟨u,h1,trivial⟩
  ·exact M.s0.slots t' e' O
 ·have h1:=(M.st bb hb).1;refine⟨h1.1, λU v2 c2 h2=>?_,h1.2.2⟩;rw[BB] at h2
  split at h2
  ·cases h2
  ·exact h1.2.1 U v2 c2 h2
 ·rw[BB] at h2
  split at h2
  ·cases h2
  ·exact M.wsp U v2 c2 b2 h1 h2
end
end
section
section
variable {P:Program} {w:World}
theorem Sj:∀ (l:List UInt8) (b o:Nat) (acc:ByteArray),(∀ j u,(l.map λc=>Value.int .u8 (c.toNat:Int))[j]? = some u->w.cell? ⟨b,o+j,none⟩=some u) ->
  ∃ s,(Extern.Bytes.loadBytes ⟨b,o,none⟩ l.length acc).run P w=.ok s w/\s.data.toList=acc.data.toList++l
 | [],b,o,acc,h=>⟨acc,rfl, by simp⟩
 | x::l,b,o,acc,h=>by
  have M:w.cell? ⟨b,o,none⟩=some (.int .u8 (x.toNat:Int)):=h 0 _ rfl;obtain⟨s,h1,h2⟩:=Sj l b (o+1) (acc.push x) (λj u O=>by rw[Nat.add_assoc,Nat.add_comm 1 j]; exact h (j+1) u O);refine⟨s,?_, by rw[h2]; simp⟩
  have hx:((x.toNat:Nat):Int).toNat.toUInt8=x:=by simp
  rw[show (x::l).length=l.length+1 from rfl];unfold Extern.Bytes.loadBytes;simp[M,D8]
  simpa using h1
theorem Sk {p:Option Addr} {c:Nat} {l:List UInt8} {xs:List Value} (h:Rd w (.slice p l.length c) l.length 1 xs) (O:xs=l.map λc=>Value.int .u8 (c.toNat:Int)):∃ s,(Extern.Bytes.bytesOf (.slice p l.length c)).run P w=.ok s w/\s.data.toList=l:=by
 rcases h.2 with ⟨M,h0⟩ | ⟨b,o,sp,cap,M,h1,h2,U,h3⟩
 ·simp only[Value.slice.injEq] at M;obtain⟨rfl,hl,-⟩:=M
  have:l=[]:=List.length_eq_zero_iff.1 hl
  subst this;exact⟨.empty,rfl,rfl⟩
 ·simp only[Value.slice.injEq,true_and] at M;obtain⟨rfl,-⟩:=M;rcases U with he | rfl
  ·have:l=[]:=by rw[O] at he; simpa using he
   subst this; exact⟨.empty,rfl,rfl⟩
  ·obtain⟨s,h4,h5⟩:=Sj l b o .empty (by rw[<- O]; exact h3);exact⟨s,h4, by rw[h5]; rfl⟩
theorem Sm {p q:Option Addr} {c d:Nat} {x y:List UInt8} {xs ys:List Value} (U:Rd w (.slice p x.length c) x.length 1 xs) (M:xs=x.map λc=>Value.int .u8 (c.toNat:Int)) (hy:Rd w (.slice q y.length d) y.length 1 ys) (O:ys=y.map λc=>Value.int .u8 (c.toNat:Int)) :
  (Extern.BytealgCompare.compare #[.slice p x.length c,.slice q y.length d]).run P w=.ok (.int .i64 (Lib.compareBytes x y)) w:=by
 obtain⟨s,h1,h2⟩:=Sk (P:=P) U M;obtain⟨t,h3,h4⟩:=Sk (P:=P) hy O
 change Sem.run P (do pure (goInt (Extern.BytealgCompare.cmp (<- Extern.Bytes.bytesOf (.slice p x.length c)) (<- Extern.Bytes.bytesOf (.slice q y.length d))))) w=_
 simp only[Sem.run_bind,h1,h3,Sem.run_pure,Result.andThen];rw[Lib.cmp_eq,h2,h4];rfl
end
section
variable {ρ:Type} {C:World->World->Prop} {P:Program} {Γ:Ctx} {l:AQ} {res:Res} {m:Option ρ} {os rest:List Oper} {N:ρ->Exit->Act->World->Prop} {d:Tmp} {ty:TypeId} {pos:String} {after:Array Edge} {g:Option (Nat × Bool)}
theorem XQ {a:Act} {w w':World} {fn:FuncId} {args:Array Operand} {vs:Array Value} {ats:Array TypeId} {F:Func} {e:Array Value->Sem Value} {v:Value}
  (hF:P.funcs[fn]? = some F) (hnm:(F.name == "runtime.NumGoroutine")=false) (hB:F.body.isNone=true) (hn:Extern.findNext F=none) (he:Extern.find F=some e)
  (hvs:args.map a.eval=vs) (hr:(e vs).run P w=.ok v w'):(execOp a.eval ⟨some d,.call ⟨.value (.func fn),args,ats⟩,ty,pos,after,g⟩).run P w=.ok (.value v) w':=by
 have e0:a.eval (.func fn)=.func (.func fn) #[] #[]:=rfl;simp[execOp,resolve,e0,Deferred.ofValue,invoke,hvs,run_callFunc_extern hF hnm hB hn he,hr]
theorem cmpB {ws:List Nat} [LC C res ws] {fn:FuncId} {x y:Operand} {ats:Array TypeId} {F:Func} {b c:List UInt8} (hx:opE l x=some (.rd (A3 u8R) b)) (hy:opE l y=some (.rd (A3 u8R) c)) (hF:P.funcs[fn]? = some F) (hnm:(F.name == "runtime.NumGoroutine")=false) (hB:F.body.isNone=true) (hn:Extern.findNext F=none) (he:Extern.find F=some Extern.BytealgCompare.compare) :
  Run C P Γ l res ⟨some d,.call ⟨.value (.func fn),#[x,y],ats⟩,ty,pos,after,g⟩ (.rd A2 (Lib.compareBytes b c)):=λa w ha=>by
 obtain⟨cs,⟨p,cp,xs,k1,k2,k3,k4⟩,k5⟩:=ha.vl hx;subst k1;have k5:a.eval x=.slice p b.length cp:=k5;obtain⟨ds,⟨q,cq,ys,j1,j2,j3,j4⟩,j5⟩:=ha.vl hy;subst j1;have j5:a.eval y=.slice q c.length cq:=j5;refine⟨_, λw' hw'=>?_,Dt⟩;have stay:Bj (Shr Γ.H res w) (Shr Γ.H res w') w w':=CW.stay hw';exact XQ hF hnm hB hn he (by simp[k5,j5]) (Sm (k2.stay k4 stay) (Ls k3) (j2.stay j4 stay) (Ls j3))
theorem Lu {x:Operand} {S D e:TypeId} {b:List UInt8} {u:Unit} (hn:Nat.blt d Γ.n=true) (hx:opE l x=some (.rd CB b)) (hb:chk (b.length<=281474976710656)=some u) (hS:P.underlying S=some .string) (hD:P.underlying D=some (.slice e)) (he:P.underlying e=some (.int .u8))
  (k:GL P os (Sta Γ ((d,.rd (A3 u8R) b)::l) res) rest N m):GL P os (Sta Γ l res) (⟨some d,.convert S D x,ty,pos,after,none⟩::rest) N m:=λa w O ρ hm=>by
 have hb:=CI hb;obtain⟨s,k1,rfl⟩:=I3 (O.vl hx);have U:s.data.toList.length=s.size:=by simp
 rw[U] at hb;generalize hw:(w.drew.alloc (.cells (bytesRow s (grownCap w s.size 0 e)) e ((bytesRow s (grownCap w s.size 0 e)).size,(bytesRow s (grownCap w s.size 0 e)).size+1)))=w';have a1:(execOp a.eval ⟨some d,.convert S D x,ty,pos,after,none⟩).run P w=.ok (.value (.slice (some ⟨w.heap.size,0,none⟩) s.size (grownCap w s.size 0 e))) w':=by
  have:=run_bytes_of_string w S D e s hS hD he
  rw[hw] at this;simp[execOp,k1,this]
 have hE:Ext w w':=by rw[<- hw]; exact Ext.tr (Ext.dr Ext.rfl') (Ext.al _ _)
 have M:w'.heap[w.heap.size]? = some (.cells (bytesRow s (grownCap w s.size 0 e)) e ((bytesRow s (grownCap w s.size 0 e)).size,(bytesRow s (grownCap w s.size 0 e)).size+1)):=by
  rw[<- hw];show (w.heap.push _)[w.heap.size]? = _
  simp
 have a6:=O.ext hE;have a2:Shr Γ.H res w' w.heap.size:=by
  refine⟨(Array.getElem?_eq_some_iff.1 M).1, λr v c hr e=>?_, λhH=>?_⟩
  ·exact absurd ((O.conts r v c hr).lt e) (by omega)
  ·have h1:=O.old _ (O.hid _ hH);have h2:=O.keep.size;omega
 refine st (EF rfl) a1 (k _ _ (a6.put hn ⟨_,⟨some ⟨w.heap.size,0,none⟩,grownCap w s.size 0 e,s.data.toList.map λc=>.int .u8 (c.toNat:Int),rfl,⟨by simp[u8R,Bm],.inr ⟨w.heap.size,0,none,grownCap w s.size 0 e,rfl,?_,?_,.inr rfl, λj u hu=>?_⟩⟩,?_, λ_ bb a7=>by cases a7; exact a2⟩, by rw[<- U]; rfl⟩) ρ hm)
 ·rw[U]; exact grownCap_ge w s.size 0 e
 ·exact grownCap_le_maxLen w s.size 0 e (by unfold maxLen; omega)
 ·have hj:j<s.data.size:=by
   have:=(List.getElem?_eq_some_iff.1 hu).1
   simpa using this
  have h1:u=.int .u8 (s.data[j].toNat:Int):=by
   rw[List.getElem?_map,List.getElem?_eq_getElem (by simpa using hj)] at hu;simp only[Option.map_some,Option.some.injEq] at hu;rw[<- hu]; simp
  unfold World.cell?;simp only[M];rw[h1,Nat.zero_add];exact bytesRow_at s _ j hj
 ·have:∀ b:List UInt8,B5 u8R (Shr Γ.H res w') w' (b.map λc=>.int .u8 (c.toNat:Int)) b:=by
   intro b
   induction b with
   | nil=>rfl
   | cons c b ih=>exact⟨[_],_,rfl,rfl,ih⟩
  exact this _
end
end
section
section
variable {α:Type} {ρ:Type} {C:World->World->Prop} {P:Program} {Γ:Ctx} {l:AQ} {res:Res} {m:Option ρ} {os rest:List Oper} {N:ρ->Exit->Act->World->Prop} {d:Tmp} {ty:TypeId} {pos:String} {after:Array Edge} {g:Option (Nat × Bool)}
theorem bldG {R:Rep α} {n:Nat} {x0 x':Vector α n} {T e:TypeId} {z ze:Value} {sz by_ M:Nat} {parts:Array (Nat × Operand)} (hT:P.underlying T=some (.array n e)) (hI:TI P T z sz by_) (O:Zr (Av n R) z.cells.toList x0) (hE:TI P e ze R.sz M)
  (h:Bld l (λi:Nat=>some (i * R.sz,R.sz)) (Av n R) parts.toList x0 x'):Run C P Γ l res ⟨some d,.build T parts,ty,pos,after,g⟩ (.rd (Av n R) x'):=λa w U=>by
 obtain⟨C',h1,h2⟩:=h.get U (O _ w);refine⟨.agg C', λw' _=>Lh rfl ?_,C'.toList,h2, by simp[Rep.val,Av]⟩;have e2:(parts.map λ(i,x)=>(i,a.eval x)).toList=parts.toList.map λp=>(p.1,a.eval p.2):=by simp
 unfold Instr.build;simp only[Sem.run_bind,Gn hI,Result.andThen,run_underlying hT,D9 hE,e2,h1];rfl
end
end
end Go.Proofs.YtgomhacoacmbcaaGreatDoor
