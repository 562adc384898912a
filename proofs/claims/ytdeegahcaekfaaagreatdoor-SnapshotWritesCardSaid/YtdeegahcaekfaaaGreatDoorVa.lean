import Derived.Test.YtdeegahcaekfaaaGreatDoorRows
import Derived.Test.YtdeegahcaekfaaaGreatDoorTie
import Derived.Test.YtdeegahcaekfaaaGreatDoorCards
import Derived.WalkKit
import Derived.Deep.Quiet
import Derived.OrdersHeld
import Derived.OrdersIn
import Derived.TacticsIn
import Derived.RangeFuncCalls
import Derived.RangeFuncLeaves
import Derived.ProofKit
import Derived.OpenShut
import Derived.ShutString
import Derived.ChangeOld
import Derived.Below
import Derived.Deep.Slices
import Derived.DataReads
import Derived.Laws.BytesArg
import Derived.Laws.RangeString
import Derived.Lib.Bytealg
import Derived.Laws.Externs
import Derived.Laws.IdiomStrings
import Derived.Laws.CopyRow
import Derived.Laws.Append
import Derived.LaidMore
import Derived.Handed
import Derived.MakeChecks
import Derived.FnData
import Derived.ChangeKeysEq
import Derived.Laws.StructEq
import Derived.MapKept
import Derived.Test.YtdeegahcaekfaaaGreatDoorProg
import Derived.RangeFuncFrom
import Derived.Shelf.SlSortCmp.WholeK
import Derived.Shelf.SlSortCmp.InsertionK
import Derived.Deep.QuietTactic
import Derived.BigQuiet
import Derived.Sort.AssemblyPlain
import Derived.Tactics
import Derived.Tactics2
import Derived.LoopTactic
import Derived.StillTailTactics
import Derived.Sort.Walk0
import Derived.Shelf.SlSortCmp.NoneTotal
import Derived.Shelf.RegionOpenPlain
import Derived.Lib.Walk
import Derived.Lib.SliceRun
import Derived.Lib.JoinLaws
import Derived.Lib.Overlaps
import Derived.Lib.AppendZerosOnto
import Derived.Laws.AppendOwn
import Derived.Laws.NewBlocks
import Derived.ArgAppend
import Derived.Maps.RangeRun
import Derived.Deep.RegionLaw
import Derived.SevenTiedAt
set_option linter.unusedSimpArgs false
set_option linter.unusedVariables false
namespace Go.Proofs.YtdeegahcaekfaaaGreatDoor
set_option maxRecDepth 100000
set_option maxHeartbeats 4000000
open Go Go.RowKit _root_.Go.Proofs.Tryz
abbrev V3:=Vector UInt8 32
section
def Dz:List (Nat × Value)->Nat->Option Value
 | [],_=>none
 | (k,v)::l,t=>bif Nat.beq k t then some v else Dz l t
def opv (l:List (Nat × Value)):Operand->Option Value
 | .tmp t=>Dz l t
 | .const v=>some v
 | .global g=>some (.pointer (some ⟨g,0,none⟩))
 | .func f=>some (.func (.func f) #[] #[])
structure Frm (n:Nat) (l:List (Nat × Value)) (a:Act):Prop where
 size:a.tmps.size=n
 defers:a.defers=[]
 slots:∀ t v,Dz l t=some v->a.tmps[t]? = some v
theorem Frm.ev {n l a x v} (f:Frm n l a) (h:opv l x=some v):a.eval x=v:=by
 cases x with
 | tmp t =>
  have:=f.slots t v h
  simp[Act.eval,Array.getD_eq_getD_getElem?,this]
 | const c=>simpa [opv,Act.eval] using h
 | global g=>simpa [opv,Act.eval] using h
 | func g=>simpa [opv,Act.eval] using h
def IK:Nat->List Value->List (Nat × Value)
 | _,[]=>[]
 | i,v::vs=>(i,v)::IK (i+1) vs
theorem QR:∀ (vs:List Value) (i t:Nat) (v:Value),Dz (IK i vs) t=some v->i<=t/\vs[t - i]? = some v
 | [],_,_,_,h=>by simp[IK,Dz] at h
 | u::us,i,t,v,h=>by
  simp only[IK,Dz] at h
  cases O:Nat.beq i t with
  | true =>
   rw[O] at h
   have:i=t:=Nat.eq_of_beq_eq_true O
   subst this;simp only[cond_true,Option.some.injEq] at h;subst h
   simp
  | false =>
   rw[O] at h;have a1:i≠t:=Nat.ne_of_beq_eq_false O;obtain⟨h1,U⟩:=QR us (i+1) t v h;refine⟨by omega,?_⟩;rw[show t - i=(t - (i+1))+1 by omega]
   simpa using U
theorem enter {P:Program} {f:FuncId} {fn:Func} {c:Code} {args:Array Value} {w:World} {R:Ending->World->Prop} {n:Nat} {l:List (Nat × Value)}
  (hf:P.funcs[f]? = some fn) (hb:fn.body=some c) (hn:fn.ntmps=n) (hl:IK 0 args.toList=l) (O:Nat.ble args.size n=true)
  (h:∀ a,Frm n l a->c.wp P (bodyPost P fn R) a w):Calls P f args w R:=by
 have O:args.size<=n:=Eq.mp Nat.ble_eq O;refine calls_of_wp hf hb (h _ ⟨by simp[hn]; omega,rfl, λt v ht=>?_⟩);subst hl;obtain⟨-,U⟩:=QR _ _ _ _ ht;simp only[Nat.sub_zero] at U;have a1:t<args.size:=by
  have:=(List.getElem?_eq_some_iff.1 U).1
  simpa using this
 rw[Array.getElem?_append_left a1]
 simpa using U
section
variable {P:Program} {ops:Array Oper} {Q:Exit->Act->World->Prop} {a:Act} {w w':World} {rest:List Oper} {n:Nat} {l:List (Nat × Value)} {y:Code}
 {Q':Exit->Act->World->Prop} {next:Act->World->Prop}
theorem Frm.getD {t v} (f:Frm n l a) (h:Dz l t=some v):a.tmps.getD t undef=v:=by
 simp[Array.getD_eq_getD_getElem?,f.slots t v h]
theorem Ds {o:Oper} (h:o.guard=none):Region.wanted o (yielded ops a.tmps)=true:=by simp[Region.wanted,h]
theorem st {o:Oper} {v:Value} (hw:Region.wanted o (yielded ops a.tmps)=true) (O:(execOp a.eval o).run P w=.ok (.value v) w')
  (k:wpList P ops Q rest (a.put o.dst v) w'):wpList P ops Q (o::rest) a w :=
 wpList_step λK hK=>by
  rw[if_pos hw]; unfold Oper.wp; rw[O]; exact hK _ _ k
theorem st0 {o:Oper} (hw:Region.wanted o (yielded ops a.tmps)=true) (O:(execOp a.eval o).run P w=.ok .skip w')
  (hd:o.dst=none) (k:wpList P ops Q rest a w'):wpList P ops Q (o::rest) a w :=
 wpList_step λK hK=>by
  rw[if_pos hw]; unfold Oper.wp; rw[O]
  have:K (a.put o.dst undef) w':=by rw[hd]; exact hK _ _ k
  exact this
end
end
section
section
variable {P:Program} {ops:Array Oper} {Q:Exit->Act->World->Prop} {a:Act} {w:World} {rest:List Oper} {n:Nat} {l:List (Nat × Value)}
 {d:Tmp} {ty:TypeId} {pos:String} {after:Array Edge} {g:Option (Nat × Bool)}
def D5 (op:BinOp) (k:IntKind) (x y:Int):Option Value :=
 match op with
 | .add=>some (.int k (k.wrap (x+y)))
 | .sub=>some (.int k (k.wrap (x - y)))
 | .mul=>some (.int k (k.wrap (x * y)))
 | .lss=>some (.bool (x<y))
 | .leq=>some (.bool (x<=y))
 | .gtr=>some (.bool (y<x))
 | .geq=>some (.bool (y<=x))
 | .eql=>some (.bool (x==y))
 | .neq=>some (.bool (x != y))
 | _=>none
def E2 (op:BinOp) (k:IntKind) (x y:Int):Int :=
 match op with
 | .and=>k.wrap (BitVec.ofInt k.bits x &&& BitVec.ofInt k.bits y).toNat
 | .or=>k.wrap (BitVec.ofInt k.bits x ||| BitVec.ofInt k.bits y).toNat
 | .xor=>k.wrap (BitVec.ofInt k.bits x ^^^ BitVec.ofInt k.bits y).toNat
 | .andNot=>k.wrap (BitVec.ofInt k.bits x &&& ~~~(BitVec.ofInt k.bits y)).toNat
 | _=>0
def Oo:BinOp->Bool
 | .and | .or | .xor | .andNot=>true
 | _=>false
theorem QS {T:TypeId} {b b':Bool} (m:Nat) (hT:P.underlying T=some .bool):(Op.equalIn (m+1) T (.bool b) (.bool b')).run P w=.ok (b==b') w:=by
 simp[Op.equalIn,run_underlying hT]
theorem WS {T:TypeId} {b b':Bool} (hT:P.underlying T=some .bool):(binOp .eql T (.bool b) (.bool b')).run P w=.ok (.bool (b==b')) w:=by
 have h:(Op.equalIn 10000 T (.bool b) (.bool b')).run P w=.ok (b==b') w:=QS 9999 hT;show (do pure (.bool (<- Op.equalIn 10000 T (.bool b) (.bool b'))):Sem Value).run P w=_;simp[h]
theorem WT {T:TypeId} {b b':Bool} (hT:P.underlying T=some .bool):(binOp .neq T (.bool b) (.bool b')).run P w=.ok (.bool (b != b')) w:=by
 have h:(Op.equalIn 10000 T (.bool b) (.bool b')).run P w=.ok (b==b') w:=QS 9999 hT;show (do pure (.bool (!(<- Op.equalIn 10000 T (.bool b) (.bool b')))):Sem Value).run P w=_;simp[h,bne]
theorem Fj {op:BinOp} {x y:Operand} {T T':TypeId} {ρ:Operand->Value} {v:Value} (O:(eqGuard op T x y (ρ x) (ρ y)).run P w=.ok () w) (h:(binOp op T (ρ x) (ρ y)).run P w=.ok v w) :
  (execOp ρ ⟨some d,.binOp op T x y T',ty,pos,after,g⟩).run P w=.ok (.value v) w:=by
 show (do pure (Next.value (<- (do eqGuard op T x y (ρ x) (ρ y); binOp op T (ρ x) (ρ y)))):Sem Next).run P w=_
 simp[O,h]
theorem FE {fn:FuncId} {vs:Array Value} {F:Func} {b:Code} (hF:P.funcs[fn]? = some F) (hB:F.body=some b) (hnm:(F.name == "runtime.NumGoroutine")=false) :
  (callFunc fn vs).run P w=.ok (.enter fn vs) w:=by
 unfold callFunc
 show Sem.run P (match P.funcs[fn]? with
  | none=>_
  | some fn'=>_) w=_
 rw[hF];simp only[hnm,hB,Bool.false_eq_true,if_false,Option.isNone_some];rfl
end
end
section
def TI (P:Program) (e:TypeId) (z:Value) (sz bytes:Nat):Prop:=∃ i,P.info? e=some i/\i.zero=some z/\i.size=sz/\i.bytes=bytes
theorem TI.mk' {P:Program} {e:TypeId} {z:Value} {sz bytes:Nat} (h:(P.info? e).map (λi=>(i.zero,i.size,i.bytes))=some (some z,sz,bytes)):TI P e z sz bytes:=info_parts h
def Sc (P:Program) (t:TypeId):Prop:=∃ d,P.underlying t=some d/\(match d with | .struct _=>False | .array _ _=>False | _=>True)
def Ag (P:Program) (t:TypeId):Prop:=∃ d,P.underlying t=some d/\(match d with | .struct _=>True | .array _ _=>True | _=>False)
abbrev Ext (w w':World):Prop:=Below w.heap.size w w'
theorem Ext.rfl' {w:World}:Ext w w:=Below.refl _ _
theorem Ext.tr {w0 w w':World} (h:Ext w0 w) (k:Ext w w'):Ext w0 w':=h.trans (k.mono h.size)
theorem Ext.al (w:World) (o:Obj):Ext w (w.alloc o):=(Below.refl _ _).alloc (Nat.le_refl _) o
theorem Ext.dr {w0 w:World} (h:Ext w0 w):Ext w0 w.drew:=h.drew
theorem Ext.gb {w w':World} (h:Ext w w'):w.grownBy w' none:=⟨h.os,h.tape,h.output,h.size, λk O _=>h.block k O⟩
def Bx (w:World) (b:Nat) (C:Array Value) (T:TypeId):Prop:=w.heap[b]? = some (.cells C T (0,0))
theorem Bx.cell {w b C T} (h:Bx w b C T) (off:Nat):w.cell? ⟨b,off,none⟩=C[off]? := by
 unfold Bx at h; simp[World.cell?,h]
theorem Bx.cell' {w b C T} (h:Bx w b C T) {off:Nat} {v:Value} (O:C[off]? = some v):w.cell? ⟨b,off,none⟩=some v:=(h.cell off).trans O
def Rd (w:World) (v:Value) (n sz:Nat) (xs:List Value):Prop :=
 xs.length=n * sz/\((v=.slice none 0 0/\n=0) \/
  ∃ b o sp cap,v=.slice (some ⟨b,o,sp⟩) n cap/\n<=cap/\cap<=maxLen/\(xs=[]\/sp=none)/\∀ j u,xs[j]? = some u->w.cell? ⟨b,o+j,none⟩=some u)
theorem Rd.nil (w:World) (sz:Nat):Rd w (.slice none 0 0) 0 sz []:=⟨by simp,.inl ⟨rfl,rfl⟩⟩
theorem Rd.of_own {w B T v n sz xs} (h:w.ownsRow B T sz v n xs):Rd w v n sz xs:=by
 refine⟨h.1,?_⟩;rcases h.2 with O | ⟨g,cap,cur,rfl,_,hg,h1,O,h3,h4⟩
 ·exact .inl O
 ·refine .inr ⟨g,0,none,cap,rfl,h1,O,.inr rfl, λj u U=>?_⟩;have hj:j<n * sz:=by have:=(List.getElem?_eq_some_iff.1 U).1; rw[h.1] at this; exact this
  rw[Nat.zero_add];exact(World.ownsRow.cellAt h j hj).trans U
theorem CX (b o k:Nat):(⟨b,o,none⟩:Addr).add k=⟨b,o+k,none⟩:=by
 unfold Addr.add; split <;> simp_all
section
variable {P:Program} {ops:Array Oper} {Q:Exit->Act->World->Prop} {a:Act} {w:World} {rest:List Oper} {n:Nat} {l:List (Nat × Value)}
 {d:Tmp} {ty:TypeId} {pos:String} {after:Array Edge} {g:Option (Nat × Bool)}
theorem CY {e:TypeId} {z:Value} {sz by_:Nat} (h:TI P e z sz by_):(sizeOf e).run P w=.ok sz w:=by
 obtain⟨i,hi,-,O,-⟩:=h;simp[sizeOf,typeInfo,program,hi,O,pure,bind,Sem.bind,Sem.run]
theorem FF {e:TypeId} {z:Value} {sz by_:Nat} (h:TI P e z sz by_):(zeroValue e).run P w=.ok z w:=by
 obtain⟨i,hi,O,-,-⟩:=h;simp[zeroValue,typeInfo,program,hi,O,pure,bind,Sem.bind,Sem.run]
theorem Ld {t:TypeId} {p:Addr} {v:Value} (hT:Sc P t) (O:w.cell? p=some v):(loadVar t p).run P w=.ok v w:=by
 obtain⟨d,hd,U⟩:=hT
 cases d <;> simp only at U <;> simp[loadVar,isAgg,run_underlying hd,O]
theorem Oq {t:TypeId} {p:Addr} {z:Value} {sz by_:Nat} {cs:List Value} (hT:Ag P t) (hS:TI P t z sz by_) (O:cs.length=sz) (U:∀ j u,cs[j]? = some u->w.cell? (p.add j)=some u) :
  (loadVar t p).run P w=.ok (.agg cs.toArray) w:=by
 obtain⟨d,hd,hm⟩:=hT;subst O
 cases d <;> simp only at hm <;> simp[loadVar,isAgg,run_underlying hd,CY hS,run_loadCells_list w p cs U]
theorem Bx.cells {b C T} (h:Bx w b C T) {o:Nat} {cs:List Value} (U:(C.toList.drop o).take cs.length=cs):∀ j u,cs[j]? = some u->w.cell? ((⟨b,o,none⟩:Addr).add j)=some u:=by
 intro j u O;rw[CX,h.cell];have hj:j<cs.length:=(List.getElem?_eq_some_iff.1 O).1;rw[<- U,List.getElem?_take,if_pos hj,List.getElem?_drop] at O
 simpa using O
def spl (C:Array Value) (o:Nat) (vs:List Value):Array Value:=(C.toList.take o++vs++C.toList.drop (o+vs.length)).toArray
theorem F5 (b:Nat) (cs:Array Value):w.grownBy (w.setRow b cs) (some b):=by
 refine⟨rfl,rfl,rfl, by simp[World.setRow], λk hk O=>?_⟩;have O:k≠b:=λe=>O (by rw[e]);simp only[World.setRow,Array.getElem?_modify];rw[if_neg (λe=>O e.symm)]
theorem Ot {t:TypeId} {b o:Nat} {v z:Value} {sz by_:Nat} {C:Array Value} {T:TypeId} (hS:TI P t z sz by_) (U:v.cells.size=sz) (h1:∀ u∈v.cells.toList,u.oneCell'=true)
  (hb:Bx w b C T) (O:o+sz<=C.size):(storeVar t ⟨b,o,none⟩ v).run P w=.ok () (w.setRow b (spl C o v.cells.toList)):=by
 subst U
 have:=run_storeCells_at (P:=P) b o T v.cells.toList 0 C w hb (by simpa using O) h1
 simp only[Nat.add_zero] at this;simp[storeVar,CY hS,this,spl]
end
end
section
def retv:List Value->Value
 | [v]=>v
 | vs=>.tuple vs.toArray
def IL (P:Program) (w:World) (l:List (Nat × Value)):List ResultVar->List Value->Prop
 | [],[]=>True
 | .tmp t::rs,v::vs=>Dz l t=some v/\IL P w l rs vs
 | .cell t T::rs,v::vs=>(∃ p,Dz l t=some (.pointer (some p))/\(loadVar T p).run P w=.ok v w)/\IL P w l rs vs
 | _,_=>False
theorem WU {P:Program} {w:World} {n:Nat} {l:List (Nat × Value)} {a:Act} {fn:Func} {rs:List ResultVar} {vs:List Value} (f:Frm n l a)
  (hr:fn.results=rs.toArray) (h:IL P w l rs vs):(results fn a.tmps).run P w=.ok (retv vs) w:=by
 have key:∀ (F:ResultVar->Sem Value),(∀ t,F (.tmp t)=pure (a.tmps.getD t undef))->(∀ x t,F (.cell x t)=do loadVar t (<- asAddr (a.tmps.getD x undef))) ->
   ∀ (rs:List ResultVar) (vs:List Value),IL P w l rs vs->(rs.mapM F).run P w=.ok vs w:=by
  intro F hF1 hF2 rs
  induction rs with
  | nil=>intro vs h; cases vs with | nil=>rfl | cons=>exact h.elim
  | cons r rs ih =>
   intro vs h
   cases vs with
   | nil=>cases r <;> exact h.elim
   | cons v vs =>
    cases r with
    | tmp t =>
     obtain⟨U,O⟩:=h;simp only[List.mapM_cons,hF1,Sem.run_bind,Sem.run_pure,f.getD U,Result.andThen,ih vs O]
    | cell t T =>
     obtain⟨⟨p,U,h3⟩,O⟩:=h;have e:asAddr (.pointer (some p))=pure p:=rfl;simp only[List.mapM_cons,hF2,f.getD U,e,Sem.run_bind,Sem.run_pure,h3,Result.andThen,ih vs O]
 have O:=λF U O=>key F U O rs vs h;unfold results;rw[hr,List.mapM_toArray];simp only[map_eq_pure_bind,Sem.run_bind];rw[O _ (λ_=>rfl) (λ_ _=>rfl)];simp only[Result.andThen,Sem.run_pure]
 congr 1
 unfold retv
 match vs with
 | []=>rfl
 | [v]=>rfl
 | v::u::us=>simp
theorem E3 {w B T sz v n xs} (h:World.ownsRow w B T sz v n xs):∃ p c,v=.slice p n c:=by
 rcases h.2 with ⟨rfl,rfl⟩ | ⟨g,cap,cur,rfl,_⟩
 ·exact⟨none,0,rfl⟩
 ·exact⟨_,_,rfl⟩
section
variable {P:Program} {ops:Array Oper} {Q:Exit->Act->World->Prop} {a:Act} {w:World} {rest:List Oper} {n:Nat} {l:List (Nat × Value)}
 {d:Tmp} {ty:TypeId} {pos:String} {after:Array Edge} {g:Option (Nat × Bool)}
def IM (z:Value) (k:Nat):Array Value:=(Array.range k).map ((if k=0 then #[] else z.cells)[· % (if k=0 then #[] else z.cells).size]!)
theorem WV {T e:TypeId} {m:Nat} {vs:Array (Nat × Value)} {z:Value} {sz by_:Nat} {cells:Array Value} (hT:P.underlying T=some (.slice e)) (hE:TI P e z sz by_) (hm:m * sz<=16777216)
  (O:Instr.fill (λi=>some (i * sz,sz)) (IM z (m * sz)) vs.toList=some cells) :
  (Instr.buildSlice T m vs).run P w=.ok (.slice (some ⟨w.heap.size,0,none⟩) m m) (w.alloc (.cells cells e)):=by
 have hn:¬ m * sz > 2 ^ 24:=by omega
 unfold IM at O;unfold Instr.buildSlice;simp only[Sem.run_bind,run_underlying hT,Result.andThen,CY hE,hn,if_false];by_cases U:m * sz=0
 ·rw[if_pos U] at O;rw[if_pos U];simp only[Sem.run_bind,Sem.run_pure,Result.andThen,O];rfl
 ·rw[if_neg U] at O;rw[if_neg U];simp only[Sem.run_bind,FF hE,Result.andThen,Sem.run_pure,O];rfl
theorem Ou {T e rt:TypeId} {z:Value} {sz by_ B:Nat} {p q:Option Addr} {k m c c2:Nat} {xs news:List Value} (hT:P.underlying T=some (.slice e)) (hE:TI P e z sz by_) (hz:z.cells.size=sz) (ad:0<sz)
  (ho:w.ownsRow B e sz (.slice p k c) k xs) (U:Rd w (.slice q m c2) m sz news) (h1:∀ u∈news,u.oneCell'=true)
  (aj:k+m<=9223372036854775807) (a7:(k+m) * by_<=140737488355328) (hB:B<=w.heap.size) :
  ∃ p' c' w',(Builtin.append_ #[T,T] rt #[.slice p k c,.slice q m c2]).run P w=.ok (.slice p' (k+m) c') w'/\w'.ownsRow B e sz (.slice p' (k+m) c') (k+m) (xs++news) /\
   w.grownBy w' (Value.slice p k c).ownBlock/\(∀ b,(Value.slice p' (k+m) c').ownBlock=some b->(Value.slice p k c).ownBlock=some b\/w.heap.size<=b):=by
 obtain⟨ti,g1,g2,g3,g4⟩:=hE;rcases U.2 with ⟨hq,rfl⟩ | ⟨b,o,sp,cap,hq,_,_,ae,a8⟩
 ·simp only[Value.slice.injEq,true_and] at hq;obtain⟨rfl,rfl⟩:=hq;have ab:news=[]:=by have:=U.1; simpa using this
  subst ab;refine⟨p,c,w,?_, by simpa using ho,⟨rfl,rfl,rfl,Nat.le_refl _, λ_ _ _=>rfl⟩, λb hb=>.inl hb⟩;exact run_append_owned_none (P:=P) w B T rt e ti sz hT g1 _ k xs ho
 ·simp only[Value.slice.injEq,true_and] at hq;obtain⟨rfl,rfl⟩:=hq;have am:maxLen=9223372036854775807:=rfl;have hn:∀ j u,news[j]? = some u->w.cell? ((⟨b,o,sp⟩:Addr).add j)=some u:=λj u hu=>by
   rcases ae with rfl | rfl
   ·simp at hu
   ·rw[CX]; exact a8 j u hu
  obtain⟨v',w',O,aa,hg,-⟩:=run_append_own (P:=P) w B T rt e ti z sz by_ hT g1 g2 g3 g4 hz ad _ k xs ho ⟨b,o,sp⟩ m c2 news U.1
   hn h1 (by omega) a7 hB
  obtain⟨p',c',rfl⟩:=E3 aa;refine⟨p',c',w',O,aa,hg, λb' a2=>?_⟩;have ak:k+m<=maxLen:=by omega
  rcases ho.2 with ⟨hv,h0⟩ | ⟨g',cap',cur,hv,ao,af,ap,aq,ah,ai⟩
  ·simp only[Value.slice.injEq] at hv;obtain⟨rfl,-,rfl⟩:=hv;subst h0;by_cases hm:m=0
   ·subst hm
    exfalso
    have hx:news=[]:=List.eq_nil_of_length_eq_zero (by simpa using U.1);subst hx;simp[Builtin.append_,run_underlying hT,sizeOf,typeInfo,g1,Builtin.lenOf,Builtin.firstCells,loadCells,loadCellsFrom] at O;obtain⟨⟨rfl,_⟩,_⟩:=O;simp[Value.ownBlock] at a2
   ·have a1:=run_append_nil (P:=P) w T rt e ti z hT g1 g2 ⟨b,o,sp⟩ m c2 news (by rw[g3]; exact U.1) hn (by omega) (by omega) (by rw[g4]; simp only[Nat.zero_add] at a7; omega);rw[a1] at O;simp only[Result.ok.injEq,Value.slice.injEq] at O;obtain⟨⟨rfl,_⟩,_⟩:=O;simp only[Value.ownBlock,Option.some.injEq] at a2;exact .inr (by omega)
  ·simp only[Value.slice.injEq,true_and] at hv;obtain⟨rfl,rfl⟩:=hv;by_cases a6:k+m<=c
   ·have ac:k * ti.size+news.length<=cur.size:=by rw[g3,U.1,ah,<- Nat.add_mul]; exact Nat.mul_le_mul_right _ a6
    have a1:=run_append_room (P:=P) w T rt e ti hT g1 g' k c cur af ⟨b,o,sp⟩ m c2 news (by rw[g3]; exact U.1) hn h1 a6 ac;rw[a1] at O;simp only[Result.ok.injEq,Value.slice.injEq] at O;obtain⟨⟨rfl,_⟩,_⟩:=O;exact .inl a2
   ·have holds:∀ j u,xs[j]? = some u->w.cell? ((⟨g',0,none⟩:Addr).add j)=some u:=ho.cells (g:=g') rfl;have a1:=run_append_grow (P:=P) w T rt e ti z hT g1 g2 ⟨g',0,none⟩ k c xs (by rw[g3]; exact ho.1) holds ⟨b,o,sp⟩ m c2 news (by rw[g3]; exact U.1) hn (by omega) (by omega) (growslice_fits (by omega) (by rw[g4]; exact a7));rw[a1] at O;simp only[Result.ok.injEq,Value.slice.injEq] at O;obtain⟨⟨rfl,_⟩,_⟩:=O
    simp only[Value.ownBlock,Option.some.injEq] at a2;exact .inr (by omega)
theorem Rd.sub {v m sz xs} (h:Rd w v m sz xs) {p:Option Addr} {cp:Nat} (U:v=.slice p m cp) {i j:Nat} (a8:i<=j) (hj:j<=m) :
  Rd w (.slice (if cp=i then p else p.map (·.add (i * sz))) (j - i) (cp - i)) (j - i) sz ((xs.drop (i * sz)).take ((j - i) * sz)):=by
 subst U;have hl:=h.1;have h1:(j - i) * sz+i * sz<=m * sz:=by
  rw[<- Nat.add_mul]; exact Nat.mul_le_mul_right _ (by omega)
 refine⟨by simp[hl]; omega,?_⟩;rcases h.2 with ⟨U,rfl⟩ | ⟨b,o,sp,cap,U,h2,h3,a7,h4⟩
 ·simp only[Value.slice.injEq,true_and] at U;obtain⟨rfl,rfl⟩:=U
  have:i=0:=by omega
  have:j=0:=by omega
  subst i; subst j;exact .inl (by simp)
 ·simp only[Value.slice.injEq,true_and] at U;obtain⟨rfl,rfl⟩:=U;by_cases hc:cp=i
  ·have a1:j - i=0:=by omega
   refine .inr ⟨b,o,sp,cp - i, by simp[hc], by omega, by omega,.inl (by simp[a1]), λq u O=>?_⟩
   exfalso
   have hq:=(List.getElem?_eq_some_iff.1 O).1;simp[a1] at hq
  ·have a2:∃ sp',(⟨b,o,sp⟩:Addr).add (i * sz)=⟨b,o+i * sz,sp'⟩/\(xs=[]\/sp'=none):=by
    rcases a7 with rfl | rfl
    ·unfold Addr.add; split
     ·rename_i h0; exact⟨sp, by simp[h0],.inl rfl⟩
     ·exact⟨none,rfl,.inl rfl⟩
    ·exact⟨none,CX _ _ _,.inr rfl⟩
   obtain⟨sp',ha,a6⟩:=a2;refine .inr ⟨b,o+i * sz,sp',cp - i, by simp[hc,ha], by omega, by omega,a6.imp (λe=>by simp[e]) id, λq u O=>?_⟩;have hq:=(List.getElem?_eq_some_iff.1 O).1;rw[List.getElem?_take] at O
   split at O
   ·rw[List.getElem?_drop] at O;rw[Nat.add_assoc];exact h4 _ _ O
   ·cases O
theorem QT {p:Option Addr} {m cp i j k sz:Nat}:(Value.slice (if cp=i then p else p.map (·.add (i * sz))) j k).ownBlock=(Value.slice p m cp).ownBlock:=by
 cases p with
 | none=>simp[Value.ownBlock]
 | some q=>by_cases h:cp=i <;> simp[h,Value.ownBlock,Addr.add] <;> split <;> rfl
end
end
section
structure Enc (α:Type) where
 sz:Nat
 pos:0<sz
 of:α->List Value
 len:∀ x,(of x).length=sz
 one:∀ x,∀ u∈of x,u.oneCell'=true
structure ID32 where
 bytes:List UInt8
 len:bytes.length=32
theorem ID32.ext' {a b:ID32} (h:a.bytes=b.bytes):a=b:=by cases a; cases b; simp at h; subst h; rfl
instance:DecidableEq ID32:=λa b=>decidable_of_iff (a.bytes=b.bytes) ⟨ID32.ext', λh=>by rw[h]⟩
def sblk (p:Option Addr):Option Nat:=p.map (·.block)
theorem Gc (p:Option Addr) (n c:Nat):(Value.slice p n c).ownBlock=sblk p:=by cases p <;> rfl
section
variable {P:Program} {ops:Array Oper} {Q:Exit->Act->World->Prop} {a:Act} {w:World} {rest:List Oper} {n:Nat} {fl:List (Nat × Value)}
 {d:Tmp} {ty:TypeId} {pos:String} {after:Array Edge} {g:Option (Nat × Bool)} {α:Type} {E:Enc α}
end
end
section
section
variable {n:Nat} {l:List (Nat × Value)} {a:Act}
end
section
variable {P:Program} {ops:Array Oper} {Q:Exit->Act->World->Prop} {a:Act} {w:World} {rest:List Oper} {n:Nat} {l:List (Nat × Value)}
 {d:Tmp} {ty:TypeId} {pos:String} {after:Array Edge} {g:Option (Nat × Bool)}
theorem WW {T e:TypeId} {p:Option Addr} {k c:Nat} (m:Nat) (hT:P.underlying T=some (.slice e)):(Op.equalIn (m+1) T (.slice p k c) (.slice none 0 0)).run P w=.ok (decide (p=none)) w:=by
 cases p <;> simp[Op.equalIn,run_underlying hT]
theorem WX {T e:TypeId} {p:Option Addr} {k c:Nat} (hT:P.underlying T=some (.slice e)):(binOp .eql T (.slice p k c) (.slice none 0 0)).run P w=.ok (.bool (decide (p=none))) w:=by
 have h:(Op.equalIn 10000 T (.slice p k c) (.slice none 0 0)).run P w=.ok (decide (p=none)) w:=WW 9999 hT;show (do pure (.bool (<- Op.equalIn 10000 T (.slice p k c) (.slice none 0 0))):Sem Value).run P w=_;simp[h]
end
end
section
abbrev Blk:=Nat->Prop
def Br (S S':Blk) (w w':World):Prop:=∀ b,S b->S' b/\w'.heap[b]? = w.heap[b]?
theorem Br.rfl' {S w}:Br S S w w:=λ_ h=>⟨h,rfl⟩
theorem Br.tr {S S1 S2 w U w2} (h:Br S S1 w U) (k:Br S1 S2 U w2):Br S S2 w w2:=λb O=>⟨(k b (h b O).1).1,(k b (h b O).1).2.trans (h b O).2⟩
structure Rep (α:Type) where
 sz:Nat
 agg:Bool
 rel:Blk->World->List Value->α->Prop
 len:∀ {S w cs x},rel S w cs x->cs.length=sz
 one:∀ {S w cs x},rel S w cs x->∀ u∈cs,u.oneCell'=true
 scal:agg=false->sz=1
 mono:∀ {S S' w w' cs x},Br S S' w w'->rel S w cs x->rel S' w' cs x
def Rep.val {α} (R:Rep α) (cs:List Value):Value:=bif R.agg then .agg cs.toArray else cs.headD undef
def Rep.vrel {α} (R:Rep α) (S:Blk) (w:World) (v:Value) (x:α):Prop:=∃ cs,R.rel S w cs x/\v=R.val cs
theorem Rep.vrel.mono {α} {R:Rep α} {S S' w w' v x} (h:R.vrel S w v x) (k:Br S S' w w'):R.vrel S' w' v x:=by
 obtain⟨cs,O,U⟩:=h; exact⟨cs,R.mono k O,U⟩
theorem HF {u:Value} (h:u.oneCell'=true):u.cells = #[u]:=by cases u <;> first | rfl | simp[Value.oneCell'] at h
theorem Rep.val_cells {α} {R:Rep α} {S w cs x} (h:R.rel S w cs x):(R.val cs).cells.toList=cs:=by
 unfold Rep.val
 cases U:R.agg with
 | true=>rfl
 | false =>
  have O:=R.len h;rw[R.scal U] at O
  match cs,O with
  | [u],_=>simp[HF (R.one h u (by simp))]
def B5 {α} (R:Rep α) (S:Blk) (w:World):List Value->List α->Prop
 | cs,[]=>cs=[]
 | cs,x::xs=>∃ c d,cs=c++d/\R.rel S w c x/\B5 R S w d xs
theorem B5.len {α} {R:Rep α} {S w}:∀ {l:List α} {cs},B5 R S w cs l->cs.length=l.length * R.sz
 | [],cs,h=>by simp only[B5] at h; simp[h]
 | x::l,cs,h=>by
  obtain⟨c,d,rfl,O,U⟩:=h;simp[R.len O,B5.len U,Nat.add_mul,Nat.add_comm]
theorem B5.one {α} {R:Rep α} {S w}:∀ {l:List α} {cs},B5 R S w cs l->∀ u∈cs,u.oneCell'=true
 | [],cs,h=>by simp only[B5] at h; simp[h]
 | x::l,cs,h=>by
  obtain⟨c,d,rfl,O,U⟩:=h;intro u hu;rcases List.mem_append.1 hu with h | h
  ·exact R.one O u h
  ·exact B5.one U u h
theorem B5.mono {α} {R:Rep α} {S S' w w'} (k:Br S S' w w'):∀ {l:List α} {cs},B5 R S w cs l->B5 R S' w' cs l
 | [],cs,h=>h
 | x::l,cs,h=>by
  obtain⟨c,d,rfl,O,U⟩:=h;exact⟨c,d,rfl,R.mono k O,B5.mono k U⟩
theorem B5.append {α} {R:Rep α} {S w}:∀ {l m:List α} {cs ds},B5 R S w cs l->B5 R S w ds m->B5 R S w (cs++ds) (l++m)
 | [],m,cs,ds,h,k=>by simp only[B5] at h; subst h; exact k
 | x::l,m,cs,ds,h,k=>by
  obtain⟨c,d,rfl,O,U⟩:=h;exact⟨c,d++ds, by simp,O,B5.append U k⟩
theorem B5.drop {α} {R:Rep α} {S w}:∀ {l:List α} {cs} (i:Nat),B5 R S w cs l->B5 R S w (cs.drop (i * R.sz)) (l.drop i)
 | l,cs,0,h=>by simpa using h
 | [],cs,i+1,h=>by simp only[B5] at h; subst h; simp[B5]
 | x::l,cs,i+1,h=>by
  obtain⟨c,d,rfl,O,U⟩:=h
  have:=B5.drop i U
  have hc:=R.len O;rw[show (i+1) * R.sz=c.length+i * R.sz by rw[hc,Nat.add_mul]; omega]
  simpa using this
theorem B5.take {α} {R:Rep α} {S w}:∀ {l:List α} {cs} (i:Nat),B5 R S w cs l->B5 R S w (cs.take (i * R.sz)) (l.take i)
 | l,cs,0,h=>by simp[B5]
 | [],cs,i+1,h=>by simp only[B5] at h; subst h; simp[B5]
 | x::l,cs,i+1,h=>by
  obtain⟨c,d,rfl,O,U⟩:=h
  have:=B5.take i U
  have hc:=R.len O;rw[show (i+1) * R.sz=c.length+i * R.sz by rw[hc,Nat.add_mul]; omega];rw[List.take_length_add_append];exact⟨c,_,rfl,O,this⟩
theorem B5.split {α} {R:Rep α} {S w} {x:α}:∀ {l:List α} {cs} {i:Nat},B5 R S w cs l->l[i]? = some x ->
  ∃ a c d,cs=a++c++d/\a.length=i * R.sz/\R.rel S w c x/\∀ c' x' S' w',Br S S' w w'->R.rel S' w' c' x'->B5 R S' w' (a++c'++d) (l.set i x')
 | [],cs,i,h,O=>by simp at O
 | y::l,cs,0,h,O=>by
  obtain⟨c,d,rfl,U,h2⟩:=h;simp only[List.getElem?_cons_zero,Option.some.injEq] at O;subst O;exact⟨[],c,d, by simp, by simp,U, λc' x' S' w' k h'=>⟨c',d, by simp,h',h2.mono k⟩⟩
 | y::l,cs,i+1,h,O=>by
  obtain⟨c,d,rfl,U,h2⟩:=h;simp only[List.getElem?_cons_succ] at O;obtain⟨a,c1,d1,rfl,ha,hr,hs⟩:=B5.split h2 O;refine⟨c++a,c1,d1, by simp, by simp[R.len U,ha,Nat.add_mul]; omega,hr, λc' x' S' w' k h'=>?_⟩;exact⟨c,a++c'++d1, by simp,R.mono k U,hs c' x' S' w' k h'⟩
theorem B5.single {α} {R:Rep α} {S w c} {x:α} (h:R.rel S w c x):B5 R S w c [x]:=⟨c,[], by simp,h,rfl⟩
def Bn {α:Type} (k:IntKind) (f:α->Int):Rep α where
 sz:=1
 agg:=false
 rel _ _ cs x:=cs=[.int k (f x)]
 len h:=by subst h; rfl
 one h:=by subst h; intro u O; simp at O; subst O; rfl
 scal _:=rfl
 mono _ h:=h
def A3:Rep Int:=Bn .i64 id
def i32R:Rep Int:=Bn .i32 id
def u8R:Rep UInt8:=Bn .u8 (λx=>(x.toNat:Int))
def A9:Rep UInt32:=Bn .u32 (λx=>(x.toNat:Int))
def Ar:Rep UInt64:=Bn .u64 (λx=>(x.toNat:Int))
def Ac:Rep Bool where
 sz:=1
 agg:=false
 rel _ _ cs x:=cs=[.bool x]
 len h:=by subst h; rfl
 one h:=by subst h; intro u O; simp at O; subst O; rfl
 scal _:=rfl
 mono _ h:=h
def BI:Rep (List UInt8) where
 sz:=1
 agg:=false
 rel _ _ cs x:=∃ s:ByteArray,cs=[.string s]/\s.data.toList=x
 len h:=by obtain⟨s,rfl,_⟩:=h; rfl
 one h:=by obtain⟨s,rfl,_⟩:=h; intro u O; simp at O; subst O; rfl
 scal _:=rfl
 mono _ h:=h
theorem Rd.stay {S S' w w' p c n sz xs} (h:Rd w (.slice p n c) n sz xs) (hS:xs≠[]->∀ b,sblk p=some b->S b) (k:Br S S' w w'):Rd w' (.slice p n c) n sz xs:=by
 refine⟨h.1,?_⟩;rcases h.2 with O | ⟨b,o,sp,cap,U,h1,O,h4,h3⟩
 ·exact .inl O
 ·refine .inr ⟨b,o,sp,cap,U,h1,O,h4, λj u hu=>?_⟩;have hb:=(k b (hS (λe=>by rw[e] at hu; simp at hu) b (by simp only[Value.slice.injEq] at U; rw[U.1]; rfl))).2
  have:=h3 j u hu
  unfold World.cell? at this ⊢;rw[hb]; exact this
def A8 {α:Type} (R:Rep α):Rep (List α) where
 sz:=1
 agg:=false
 rel S w cs l:=∃ p c xs,cs=[.slice p l.length c]/\Rd w (.slice p l.length c) l.length R.sz xs/\B5 R S w xs l/\(xs≠[]->∀ b,sblk p=some b->S b)
 len h:=by obtain⟨p,c,xs,rfl,_⟩:=h; rfl
 one h:=by obtain⟨p,c,xs,rfl,_⟩:=h; intro u O; simp at O; subst O; rfl
 scal _:=rfl
 mono k h:=by
  obtain⟨p,c,xs,h1,h2,h3,U⟩:=h;exact⟨p,c,xs,h1,h2.stay U k,h3.mono k, λhx b hb=>(k b (U hx b hb)).1⟩
def Az {α:Type} (n:Nat) (R:Rep α):Rep (Vector α n) where
 sz:=n * R.sz
 agg:=true
 rel S w cs v:=B5 R S w cs v.toList
 len h:=by rw[h.len]; simp
 one h:=h.one
 scal h:=by cases h
 mono k h:=h.mono k
def Dc:Rep Unit where
 sz:=0
 agg:=true
 rel _ _ cs _:=cs=[]
 len h:=by subst h; rfl
 one h:=by subst h; simp
 scal h:=by cases h
 mono _ h:=h
def BT {α β:Type} (R:Rep α) (T:Rep β):Rep (α × β) where
 sz:=R.sz+T.sz
 agg:=true
 rel S w cs x:=∃ c d,cs=c++d/\R.rel S w c x.1/\T.rel S w d x.2
 len h:=by obtain⟨c,d,rfl,O,U⟩:=h; simp[R.len O,T.len U]
 one h:=by
  obtain⟨c,d,rfl,O,U⟩:=h;intro u hu;rcases List.mem_append.1 hu with h | h
  ·exact R.one O u h
  ·exact T.one U u h
 scal h:=by cases h
 mono k h:=by obtain⟨c,d,O,U,h3⟩:=h; exact⟨c,d,O,R.mono k U,T.mono k h3⟩
def CH {α β:Type} (g:β->α) (R:Rep α):Rep β where
 sz:=R.sz
 agg:=R.agg
 rel S w cs x:=R.rel S w cs (g x)
 len h:=R.len h
 one h:=R.one h
 scal h:=R.scal h
 mono k h:=R.mono k h
structure Ent where
 holds:Blk->World->Value->Prop
 mono:∀ {S S' w w' v},Br S S' w w'->holds S w v->holds S' w' v
def Ent.rd {α:Type} (R:Rep α) (x:α):Ent:=⟨λS w v=>R.vrel S w v x, λk h=>h.mono k⟩
def Ent.val (u:Value):Ent:=⟨λ_ _ v=>v=u/\u.oneCell'=true, λ_ h=>h⟩
def Ent.un:Ent:=⟨λ_ _ v=>v=undef, λ_ h=>h⟩
def Ent.junk:Ent:=⟨λ_ _ _=>True, λ_ h=>h⟩
def C5 (S:Blk) (w:World):List Ent->List Value->Prop
 | [],[]=>True
 | e::es,v::vs=>e.holds S w v/\C5 S w es vs
 | _,_=>False
theorem C5.mono {S S' w w'} (k:Br S S' w w'):∀ {es vs},C5 S w es vs->C5 S' w' es vs
 | [],[],_=>trivial
 | e::es,v::vs,h=>⟨e.mono k h.1,C5.mono k h.2⟩
 | [],_::_,h=>h.elim
 | _::_,[],h=>h.elim
def Bo (vs:List Value):List Value:=vs.flatMap λv=>v.cells.toList
def Ent.agg (es:List Ent):Ent:=⟨λS w v=>∃ vs,C5 S w es vs/\v=.agg (Bo vs).toArray, λk h=>by obtain⟨vs,O,U⟩:=h; exact⟨vs,O.mono k,U⟩⟩
def Ent.tup (es:List Ent):Ent:=⟨λS w v=>∃ vs,C5 S w es vs/\v=.tuple vs.toArray, λk h=>by obtain⟨vs,O,U⟩:=h; exact⟨vs,O.mono k,U⟩⟩
def Ent.rp {α:Type} (R:Rep α) (x:α):Ent where
 holds S w v:=∃ b o cs,v=.pointer (some ⟨b,o,none⟩)/\S b/\R.rel S w cs x/\∀ j u,cs[j]? = some u->w.cell? ⟨b,o+j,none⟩=some u
 mono k h:=by
  obtain⟨b,o,cs,U,O,h3,h4⟩:=h;refine⟨b,o,cs,U,(k b O).1,R.mono k h3, λj u hu=>?_⟩
  have:=h4 j u hu
  unfold World.cell? at this ⊢;rw[(k b O).2]; exact this
def AS:Value->Option Nat
 | .slice (some a) _ _=>some a.block
 | .pointer (some a)=>some a.block
 | .map r=>r
 | _=>none
structure AO where
 nil:Blk->World->Value->Prop
 nilm:∀ {S S' w w' v},Br S S' w w'->nil S w v->nil S' w' v
 nilb:∀ {S w v},nil S w v->AS v=none
 rel:Blk->World->Value->Obj->Prop
 mono:∀ {S S' w w' v o},Br S S' w w'->rel S w v o->rel S' w' v o
def AO.holds (c:AO) (S:Blk) (w:World) (v:Value):Prop:=c.nil S w v\/∃ b o,AS v=some b/\w.heap[b]? = some o/\c.rel S w v o
theorem AO.holds.mono {c:AO} {S S' w w' v} (h:c.holds S w v) (k:Br S S' w w') (U:∀ b,AS v=some b->w'.heap[b]? = w.heap[b]?):c.holds S' w' v:=by
 rcases h with h | ⟨b,o,O,h2,h3⟩
 ·exact .inl (c.nilm k h)
 ·exact .inr ⟨b,o,O,(U b O).trans h2,c.mono k h3⟩
theorem AO.holds.lt {c:AO} {S w v} (h:c.holds S w v) {b} (O:AS v=some b):b<w.heap.size:=by
 rcases h with h | ⟨b',o,U,h2,h3⟩
 ·rw[c.nilb h] at O; cases O
 ·rw[U] at O; cases O; exact(Array.getElem?_eq_some_iff.1 h2).1
def AO.list {α:Type} (R:Rep α) (T:TypeId) (l:List α):AO where
 nil _ _ v:=v=.slice none 0 0/\l=[]
 nilm _ h:=h
 nilb h:=by rw[h.1]; rfl
 rel S w v o:=∃ b cap C,v=.slice (some ⟨b,0,none⟩) l.length cap/\o=.cells C T (0,0)/\l.length<=cap/\cap<=maxLen/\C.size=cap * R.sz/\B5 R S w (C.toList.take (l.length * R.sz)) l
 mono k h:=by obtain⟨b,cap,C,O,U,h3,h4,h5,h6⟩:=h; exact⟨b,cap,C,O,U,h3,h4,h5,h6.mono k⟩
def AO.seg {α:Type} (R:Rep α) (T:TypeId) (l:List α):AO where
 nil _ _ v:=v=.slice none 0 0/\l=[]
 nilm _ h:=h
 nilb h:=by rw[h.1]; rfl
 rel S w v o:=∃ b off cap C,v=.slice (some ⟨b,off,none⟩) l.length cap/\o=.cells C T (0,0)/\l.length<=cap/\cap<=maxLen/\(cap=0\/off+cap * R.sz=C.size)/\B5 R S w ((C.toList.drop off).take (l.length * R.sz)) l
 mono k h:=by obtain⟨b,off,cap,C,O,U,h3,h4,h5,h6⟩:=h; exact⟨b,off,cap,C,O,U,h3,h4,h5,h6.mono k⟩
def AO.box (T:TypeId) (es:List Ent):AO where
 nil _ _ _:=False
 nilm _ h:=h
 nilb h:=h.elim
 rel S w v o:=∃ b vs,v=.pointer (some ⟨b,0,none⟩)/\o=.cells (Bo vs).toArray T (0,0)/\C5 S w es vs
 mono k h:=by obtain⟨b,vs,O,U,h3⟩:=h; exact⟨b,vs,O,U,h3.mono k⟩
theorem F6 {α} {R:Rep α} {T l S w v} (h:(AO.list R T l).holds S w v):∃ xs,w.ownsRow 0 T R.sz v l.length xs/\B5 R S w xs l:=by
 rcases h with ⟨rfl,rfl⟩ | ⟨b,o,O,h2,b',cap,C,rfl,rfl,h3,h4,h5,U⟩
 ·exact⟨[],⟨by simp,.inl ⟨rfl,rfl⟩⟩,rfl⟩
 ·simp only[AS,Option.some.injEq] at O;subst O;exact⟨_,⟨U.len,.inr ⟨_,cap,C,rfl,Nat.zero_le _,h2,h3,h4,h5,rfl⟩⟩,U⟩
theorem Le {α} {R:Rep α} {B T l S w v xs} (h:w.ownsRow B T R.sz v l.length xs) (k:B5 R S w xs l):(AO.list R T l).holds S w v:=by
 rcases h.2 with ⟨rfl,O⟩ | ⟨g,cap,C,rfl,_,U,h3,h4,h5,h6⟩
 ·exact .inl ⟨rfl,List.eq_nil_of_length_eq_zero O⟩
 ·exact .inr ⟨g,_,rfl,U,g,cap,C,rfl,rfl,h3,h4,h5, by rw[h6]; exact k⟩
end
section
variable {ro:Option Nat}
def lk {α:Type}:List (Nat × α)->Nat->Option α
 | [],_=>none
 | (k,v)::l,t=>bif Nat.beq k t then some v else lk l t
theorem Cn {α:Type} {k t:Nat} {v:α} {l:List (Nat × α)}:lk ((k,v)::l) t=if k=t then some v else lk l t:=by
 simp only[lk]
 cases O:Nat.beq k t with
 | true=>rw[if_pos (Nat.eq_of_beq_eq_true O)]; rfl
 | false=>rw[if_neg (Nat.ne_of_beq_eq_false O)]; rfl
abbrev AR:=List (Nat × Ent)
abbrev Res:=List (Nat × Option (Value × AO))
def lr (res:Res) (r:Nat):Option (Value × AO):=(lk res r).getD none
def Shr (H:Blk) (res:Res) (w:World):Blk:=λb=>b<w.heap.size/\(∀ r v c,lr res r=some (v,c)->AS v≠some b)/\¬ H b
structure Ctx where
 n:Nat
 K:Blk
 H:Blk
 w0:World
 ds:List Deferred
structure CZ (K:Blk) (w w':World):Prop where
 os:w'.os=w.os
 tape:w'.tape=w.tape
 output:w'.output=w.output
 size:w.heap.size<=w'.heap.size
 block:∀ b,K b->w'.heap[b]? = w.heap[b]?
theorem CZ.rfl' {K w}:CZ K w w:=⟨rfl,rfl,rfl,Nat.le_refl _, λ_ _=>rfl⟩
theorem CZ.tr {K K' w O U} (h:CZ K w O) (k:CZ K' O U) (hK:∀ b,K b->K' b):CZ K w U :=
 ⟨k.os.trans h.os,k.tape.trans h.tape,k.output.trans h.output,Nat.le_trans h.size k.size, λb hb=>(k.block b (hK b hb)).trans (h.block b hb)⟩
theorem CZ.gr {K w O w2} {r:Option Nat} (h:CZ K w O) (k:O.grownBy w2 r) (hK:∀ b,K b->b<O.heap.size/\r≠some b):CZ K w w2 :=
 ⟨k.os.trans h.os,k.tape.trans h.tape,k.output.trans h.output,Nat.le_trans h.size k.size, λb U=>(k.block b (hK b U).1 (λe=>(hK b U).2 e.symm)).trans (h.block b U)⟩
structure Sta (Γ:Ctx) (l:AR) (res:Res) (a:Act) (w:World):Prop where
 size:a.tmps.size=Γ.n
 defers:a.defers=Γ.ds
 slots:∀ t e,lk l t=some e->∃ v,a.tmps[t]? = some v/\e.holds (Shr Γ.H res w) w v
 conts:∀ r v c,lr res r=some (v,c)->c.holds (Shr Γ.H res w) w v
 excl:∀ r v c r' v' c',lr res r=some (v,c)->lr res r'=some (v',c')->r≠r'->∀ b,AS v=some b->AS v'≠some b
 own:∀ r v c,lr res r=some (v,c)->∀ b,AS v=some b->¬ Γ.K b
 keep:CZ Γ.K Γ.w0 w
 old:∀ b,Γ.K b->b<Γ.w0.heap.size
 hid:∀ b,Γ.H b->Γ.K b
section
variable {P:Program} {Γ:Ctx} {l l':AR} {res res':Res} {a:Act} {w w':World}
theorem Sta.frm (h:Sta Γ l res a w):Frm Γ.n [] { a with defers:=[] }:=⟨h.size,rfl, λ_ _ h=>by simp[Dz] at h⟩
theorem Sta.slot (h:Sta Γ l res a w) {t:Nat} {e:Ent} (U:lk l t=some e):∃ v,Dz [(t,v)] t=some v/\Frm Γ.n [(t,v)] { a with defers:=[] }/\e.holds (Shr Γ.H res w) w v:=by
 obtain⟨v,h1,h2⟩:=h.slots t e U;refine⟨v, by simp[Dz],⟨h.size,rfl, λt' v' h'=>?_⟩,h2⟩;simp only[Dz] at h'
 cases O:Nat.beq t t' with
 | true =>
  rw[O] at h'
  have:=Nat.eq_of_beq_eq_true O
  subst this;simp only[cond_true,Option.some.injEq] at h';subst h'; exact h1
 | false=>rw[O] at h'; cases h'
theorem Shr.ext {H:Blk} (k:Ext w w'):Br (Shr H res w) (Shr H res w') w w':=λb O=>⟨⟨Nat.lt_of_lt_of_le O.1 k.size,O.2⟩,k.block b O.1⟩
theorem CZ.ext {K w0} (h:CZ K w0 w) (hK:∀ b,K b->b<w0.heap.size) (k:Ext w w'):CZ K w0 w' :=
 ⟨k.os.trans h.os,k.tape.trans h.tape,k.output.trans h.output,Nat.le_trans h.size k.size, λb O=>(k.block b (Nat.lt_of_lt_of_le (hK b O) h.size)).trans (h.block b O)⟩
theorem Sta.ext (h:Sta Γ l res a w) (k:Ext w w'):Sta Γ l res a w' where
 size:=h.size
 defers:=h.defers
 slots t e U:=by obtain⟨v,h1,h2⟩:=h.slots t e U; exact⟨v,h1,e.mono (Shr.ext k) h2⟩
 conts r v c O:=(h.conts r v c O).mono (Shr.ext k) (λb hb=>k.block b ((h.conts r v c O).lt hb))
 excl:=h.excl
 own:=h.own
 keep:=h.keep.ext h.old k
 old:=h.old
 hid:=h.hid
theorem Sta.put (h:Sta Γ l res a w) {d:Nat} {v:Value} {e:Ent} (hd:Nat.blt d Γ.n=true) (he:e.holds (Shr Γ.H res w) w v):Sta Γ ((d,e)::l) res (a.put (some d) v) w where
 size:=by simp[Act.put,h.size]
 defers:=by simp[Act.put,h.defers]
 slots t e' U:=by
  have hd:d<Γ.n:=Eq.mp Nat.blt_eq hd;rw[Cn] at U
  split at U
  ·rename_i O; subst O; cases U
   exact⟨v, by simp[Act.put,h.size,hd],he⟩
  ·rename_i O;obtain⟨u,h1,h2⟩:=h.slots t e' U;exact⟨u, by simp[Act.put,Array.getElem?_setIfInBounds_ne O,h1],h2⟩
 conts:=h.conts
 excl:=h.excl
 own:=h.own
 keep:=h.keep
 old:=h.old
 hid:=h.hid
theorem Sta.old_lt (h:Sta Γ l res a w) {b:Nat} (O:Γ.K b):b<w.heap.size:=Nat.lt_of_lt_of_le (h.old b O) h.keep.size
end
abbrev Asn:=Act->World->Prop
section
variable {ρ:Type} {P:Program} {A:Asn} {Q:ρ->Exit->Act->World->Prop} {m:Option ρ}
abbrev GX (X:ρ->Act->World->Prop) (A:Asn) (m:Option ρ):Prop:=∀ a w,A a w->∀ r,m=some r->X r a w
def wpM (ro:Option Nat) (P:Program) (c:Code) (Q:Exit->Act->World->Prop) (a:Act) (w:World):Prop:=match ro with
 | none=>c.wp P Q a w
 | some l=>(∀ a w,¬ Q .outgrown a w)->c.wpIn (Fence.wide.inRound l) 0 P Q a w
def G (ro:Option Nat) (P:Program) (A:Asn) (c:Code) (Q:ρ->Exit->Act->World->Prop) (m:Option ρ):Prop:=GX (λr a w=>wpM ro P c (Q r) a w) A m
def GL (P:Program) (ops:List Oper) (A:Asn) (os:List Oper) (N:ρ->Exit->Act->World->Prop) (m:Option ρ):Prop:=GX (λr a w=>wpList P ops.toArray (N r) os a w) A m
def GE (A:Asn) (e:Exit) (Q:ρ->Exit->Act->World->Prop) (m:Option ρ):Prop:=GX (λr a w=>Q r e a w) A m
def GQ (P:Program) (ops:List Oper) (A:Asn) (os:List Oper) (N:ρ->Exit->Act->World->Prop) (m:Option ρ):Prop:=GX (λr a w=>wpQuiet P ops.toArray (Ext w) (λa'=>∀ w',Ext w w'->N r .normal a' w') os a) A m
def Fk (ro:Option Nat) (P:Program) (y:Code) (Q:ρ->Exit->Act->World->Prop):ρ->Exit->Act->World->Prop:=λr=>Exit.then (wpM ro P y (Q r)) (Q r)
def blkQ (i:Nat) (Q:ρ->Exit->Act->World->Prop):ρ->Exit->Act->World->Prop:=λr=>Exit.inBlock i (Q r)
theorem WY {K:Act->World->Prop} {Q:Exit->Act->World->Prop} (h:∀ a w,¬ Q .outgrown a w):∀ a w,¬ Exit.then K Q .outgrown a w:=h
theorem WZ {i:Nat} {Q:Exit->Act->World->Prop} (h:∀ a w,¬ Q .outgrown a w):∀ a w,¬ Exit.inBlock i Q .outgrown a w:=h
section
variable {Q:Exit->Act->World->Prop} {a:Act} {w:World}
theorem QU {c:Code} {Q':Exit->Act->World->Prop} (O:∀ e a w,Q e a w->Q' e a w) (h:wpM ro P c Q a w):wpM ro P c Q' a w:=by
 cases ro with
 | none=>exact Code.wp_mono O h
 | some l=>exact λU=>wpIn_mono (h (λa w hh=>U a w (O _ _ _ hh))) O
theorem Ov {x y:Code} (h:wpM ro P x (Exit.then (wpM ro P y Q) Q) a w):wpM ro P (.seq x y) Q a w:=by
 cases ro with
 | none=>exact wp_seq h
 | some l=>exact λO=>wpIn_seq (wpIn_mono (h (WY O)) (λe a w hh=>by cases e <;> first | exact hh O | exact hh))
theorem X0 {i:Nat} {x:Code} (h:wpM ro P x (Exit.inBlock i Q) a w):wpM ro P (.block i x) Q a w:=by
 cases ro with
 | none=>exact wp_block h
 | some l=>exact λO=>wpIn_block (h (WZ O))
theorem X1 (h:Q .normal a w):wpM ro P .skip Q a w:=by
 cases ro with
 | none=>exact wp_skip h
 | some l=>exact λ_=>wpIn_skip h
theorem X2 {i:Nat} (h:Q (.exit i) a w):wpM ro P (.exit i) Q a w:=by
 cases ro with
 | none=>exact wp_exit h
 | some l=>exact λ_=>wpIn_exit h
theorem X3 (h:Q .ret a w):wpM ro P .ret Q a w:=by
 cases ro with
 | none=>exact wp_ret h
 | some l=>exact λ_=>wpIn_ret h
theorem QV {c:Operand} {x y:Code} (O:a.eval c=.bool true) (h:wpM ro P x Q a w):wpM ro P (.cond c x y) Q a w:=by
 cases ro with
 | none=>exact wp_cond_true O h
 | some l=>exact λU=>wpIn_cond_true O (h U)
theorem QW {c:Operand} {x y:Code} (O:a.eval c=.bool false) (h:wpM ro P y Q a w):wpM ro P (.cond c x y) Q a w:=by
 cases ro with
 | none=>exact wp_cond_false O h
 | some l=>exact λU=>wpIn_cond_false O (h U)
def EV (os:List Oper):Bool:=os.all λo=>match o.op with
 | .defer _=>false
 | _=>true
theorem QX {l:Nat} {o:Oper} {next:Act->World->Prop} (hd:∀ c,o.op≠.defer c) (h:o.wp P a w next Q):o.wpIn (Fence.wide.inRound l) 0 P a w next Q:=by
 refine⟨λ_ _=>trivial,?_⟩;have e:o.semAt (Fence.wide.inRound l).round a.eval=execOp a.eval o:=Oper.semAt_some l _ o hd;rw[e];unfold Oper.wp at h;generalize (execOp a.eval o).run P w=r at h ⊢
 cases r with
 | ok x w' =>
  cases x with
  | enter f args =>
   refine⟨λhh=>(by cases hh),CallsIn.inRound l (callsIn_wide.2 ?_)⟩;have h:Calls P f args w' _:=h;refine h.mono ?_;intro e w'' O
   cases e <;> exact O
  | row r args=>exact⟨λhh=>(by cases hh), λc cs _=>let ⟨v,w'',r,st⟩:=h c cs; ⟨v,w'',r,stepsIn_wide.2 st⟩⟩
  | round l f tmps assign body=>exact False.elim h
  | value v=>exact h
  | skip=>exact h
  | defer d=>exact h
  | _=>exact False.elim h
 | halt x w'=>cases x <;> exact h
theorem Ow {l:Nat} {ops:Array Oper} (U:∀ a w,¬ Q .outgrown a w):∀ (os:List Oper) (a:Act) (w:World),EV os=true->wpList P ops Q os a w->wpListIn (Fence.wide.inRound l) 0 P ops Q os a w
 | [],_,_,_,h=>h
 | o::os,a,w,hd,h=>by
  unfold EV at hd;simp only[List.all_cons,Bool.and_eq_true] at hd;have O:EV os=true:=hd.2;have a1:∀ c,o.op≠.defer c:=λc e=>by rw[e] at hd; exact absurd hd.1 (by simp)
  unfold wpList at h;unfold wpListIn;by_cases hw:Region.wanted o (yielded ops a.tmps)=true
  ·rw[if_pos hw] at h ⊢;rcases h with h | ⟨-,a',w',hh⟩
   ·exact Oper.wpIn_mono (λa w=>Ow U os a w O) (QX a1 h)
   ·exact absurd hh (U _ _)
  ·rw[if_neg hw] at h ⊢;exact⟨λ_ _=>trivial,Ow U os _ w O h⟩
theorem X4 {id:Nat} {os:List Oper} (hd:EV os=true) (h:wpList P os.toArray Q os a w):wpM ro P (.region id os.toArray false) Q a w:=by
 cases ro with
 | none=>exact wp_region_lit h
 | some l=>exact λO=>wpIn_region_lit (Ow O os a w hd h)
theorem Lf {l:Nat} {md:Region.Mode} {ops:Array Oper} (U:∀ a w,¬ Q .outgrown a w) (hd:EV ops.toList=true):∀ (fuel:Nat) (listed:Array Bool) (a:Act) (w:World),wpAny P md ops Q fuel listed a w->wpAnyIn (Fence.wide.inRound l) 0 P md ops Q fuel listed a w
 | 0,_,_,_,h=>h
 | fuel+1,listed,a,w,h=>by
  refine⟨h.1, λi hi=>?_⟩;have O:=h.2 i hi;unfold wpOp at O;unfold wpOpIn
  cases hx:ops[i]? with
  | none=>rw[hx] at O; exact Lf U hd fuel _ a w O
  | some o =>
   rw[hx] at O;have a1:o∈ops.toList:=by
    have:=Array.mem_of_getElem? hx
    simpa using this
   have a2:∀ c,o.op≠.defer c:=λc e=>by
    have:=List.all_eq_true.1 hd o a1
    rw[e] at this; exact absurd this (by simp)
   simp only at O ⊢;by_cases hw:Region.wanted o (yielded ops a.tmps)=true
   ·rw[if_pos hw] at O ⊢;rcases O with O | ⟨-,a',w',hh⟩
    ·exact Oper.wpIn_mono (λa w=>Lf U hd fuel _ a w) (QX a2 O)
    ·exact absurd hh (U _ _)
   ·rw[if_neg hw] at O ⊢;exact⟨λ_ _=>trivial,Lf U hd fuel _ _ w O⟩
theorem Ox {id:Nat} {ops:Array Oper} (O:P.follows .mixedOrders=true) (hd:EV ops.toList=true) (h:wpAny P .any ops Q ops.size (Array.replicate ops.size false) a { w with drawn:=w.drawn+1 }):wpM ro P (.region id ops true) Q a w:=by
 cases ro with
 | none=>exact wp_region_any O h
 | some l=>exact λU=>wpIn_region_any O (Lf U hd _ _ _ _ h)
end
theorem A6 {x y:Code} (h:G ro P A x (Fk ro P y Q) m):G ro P A (.seq x y) Q m:=λa w O r U=>Ov (h a w O r U)
theorem Ai {id:Nat} {os:List Oper} (h:GL P os A os Q m) (hd:EV os=true:=by rfl):G ro P A (.region id os.toArray false) Q m:=λa w O r U=>X4 hd (h a w O r U)
theorem A2 {y:Code} {id:Nat} {os:List Oper} (h:GL P os A os (Fk ro P y Q) m) (hd:EV os=true:=by rfl):G ro P A (.seq (.region id os.toArray false) y) Q m:=A6 (Ai h hd)
theorem Ae {ops:List Oper} (h:GE A .normal Q m):GL P ops A [] Q m:=λa w O r U=>h a w O r U
theorem AB {i:Nat} {x:Code} (h:G ro P A x (blkQ i Q) m):G ro P A (.block i x) Q m:=λa w O r U=>X0 (h a w O r U)
theorem AW (h:GE A .normal Q m):G ro P A .skip Q m:=λa w O r U=>X1 (h a w O r U)
theorem AC {i:Nat} (h:GE A (.exit i) Q m):G ro P A (.exit i) Q m:=λa w O r U=>X2 (h a w O r U)
theorem A5 (h:GE A .ret Q m):G ro P A .ret Q m:=λa w O r U=>X3 (h a w O r U)
theorem Af {y:Code} (h:G ro P A y Q m):GE A .normal (Fk ro P y Q) m:=h
theorem Zt {y:Code} (h:G ro P A y Q m):G ro P A .skip (Fk ro P y Q) m:=AW (Af h)
theorem Zn {ops:List Oper} {y:Code} (h:G ro P A y Q m):GL P ops A [] (Fk ro P y Q) m:=Ae (Af h)
theorem An {y:Code} (h:GE A .ret Q m):GE A .ret (Fk ro P y Q) m:=h
theorem AD {y:Code} {i:Nat} (h:GE A (.exit i) Q m):GE A (.exit i) (Fk ro P y Q) m:=h
theorem Ap {i:Nat} (h:GE A .normal Q m):GE A .normal (blkQ i Q) m:=h
theorem Bh {i:Nat} (h:GE A .ret Q m):GE A .ret (blkQ i Q) m:=h
theorem Lg {i:Nat} (h:GE A .normal Q m):GE A (.exit i) (blkQ i Q) m:=λa w O r U=>by
 have:=h a w O r U; unfold blkQ; simp[Exit.inBlock,this]
theorem X5 {i j:Nat} (O:Nat.beq j i=false) (h:GE A (.exit j) Q m):GE A (.exit j) (blkQ i Q) m:=λa w U r hr=>by
 have:=h a w U r hr; unfold blkQ; simp[Exit.inBlock,Nat.ne_of_beq_eq_false O,this]
end
section
variable {ρ:Type} {P:Program} {Γ:Ctx} {l:AR} {res:Res} {Q:ρ->Exit->Act->World->Prop} {m m1 m2:Option ρ} {os rest:List Oper} {N:ρ->Exit->Act->World->Prop}
def cstE:Value->Option Ent
 | .bool b=>some (.rd Ac b)
 | .string s=>some (.rd BI s.data.toList)
 | .int .i64 n=>some (.rd A3 n)
 | .int .i32 n=>some (.rd i32R n)
 | .int .u8 (.ofNat n)=>bif Nat.blt n 256 then some (.rd u8R (UInt8.ofNat n)) else none
 | .int .u32 (.ofNat n)=>bif Nat.blt n 4294967296 then some (.rd A9 (UInt32.ofNat n)) else none
 | .int .u64 (.ofNat n)=>bif Nat.blt n 18446744073709551616 then some (.rd Ar (UInt64.ofNat n)) else none
 | v=>bif v.oneCell' then some (.val v) else none
theorem X6 {v:Value} {e:Ent} (h:cstE v=some e) (S:Blk) (w:World):e.holds S w v:=by
 unfold cstE at h
 split at h
 ·cases h; exact⟨_,rfl,rfl⟩
 ·cases h; exact⟨_,⟨_,rfl,rfl⟩,rfl⟩
 ·cases h; exact⟨_,rfl,rfl⟩
 ·cases h; exact⟨_,rfl,rfl⟩
 ·rename_i n
  cases O:Nat.blt n 256 with
  | false=>rw[O] at h; cases h
  | true =>
   rw[O] at h; cases h
   have:n<256:=Eq.mp Nat.blt_eq O
   refine⟨_,rfl,?_⟩;simp[Rep.val,u8R,Bn]; omega
 ·rename_i n
  cases O:Nat.blt n 4294967296 with
  | false=>rw[O] at h; cases h
  | true =>
   rw[O] at h; cases h
   have:n<4294967296:=Eq.mp Nat.blt_eq O
   refine⟨_,rfl,?_⟩;simp[Rep.val,A9,Bn]; omega
 ·rename_i n
  cases O:Nat.blt n 18446744073709551616 with
  | false=>rw[O] at h; cases h
  | true =>
   rw[O] at h; cases h
   have:n<18446744073709551616:=Eq.mp Nat.blt_eq O
   refine⟨_,rfl,?_⟩;simp[Rep.val,Ar,Bn]; omega
 ·skip
  cases O:v.oneCell' with
  | false=>rw[O] at h; cases h
  | true=>rw[O] at h; cases h; exact⟨rfl,O⟩
def opE (l:AR):Operand->Option Ent
 | .tmp t=>lk l t
 | .const v=>cstE v
 | .global g=>some (.val (.pointer (some ⟨g,0,none⟩)))
 | .func f=>some (.val (.func (.func f) #[] #[]))
theorem Sta.ev {a:Act} {w:World} (h:Sta Γ l res a w) {x:Operand} {e:Ent} (O:opE l x=some e):∃ fl v,Frm Γ.n fl { a with defers:=[] }/\opv fl x=some v/\e.holds (Shr Γ.H res w) w v:=by
 cases x with
 | tmp t=>obtain⟨v,U,h2,h3⟩:=h.slot O; exact⟨_,v,h2,U,h3⟩
 | const v=>exact⟨[],v,h.frm,rfl,X6 O _ _⟩
 | global g=>cases O; exact⟨[],_,h.frm,rfl,rfl,rfl⟩
 | func f=>cases O; exact⟨[],_,h.frm,rfl,rfl,rfl⟩
theorem Sta.vl {a:Act} {w:World} (h:Sta Γ l res a w) {x:Operand} {e:Ent} (O:opE l x=some e):e.holds (Shr Γ.H res w) w (a.eval x):=by
 obtain⟨fl,v,f,U,h2⟩:=h.ev O;have e:a.eval x=v:=(show a.eval x=({ a with defers:=[] }:Act).eval x by cases x <;> rfl).trans (f.ev U)
 rw[e]; exact h2
theorem gIf {c:Operand} {t:Nat} {x y:Code} {b:Bool} (hc:c=.tmp t) (hb:lk l t=some (.rd Ac b)) (ht:b=true->G ro P (Sta Γ ((t,.rd Ac true)::l) res) x Q m1) (hf:b=false->G ro P (Sta Γ ((t,.rd Ac false)::l) res) y Q m2) :
  G ro P (Sta Γ l res) (.cond c x y) Q (if b then m1 else m2):=by
 subst hc;intro a w U r hr;obtain⟨cs,h1,h2⟩:=U.vl (x:=.tmp t) hb;have h1:cs=[.bool b]:=h1;subst h1;have keep:∀ b',b=b'->Sta Γ ((t,.rd Ac b')::l) res a w:=λb' e=>by
  subst e;refine { U with slots:=λt' e' O=>?_ };rw[Cn] at O
  split at O
  ·rename_i hh; subst hh; cases O; exact U.slots t _ hb
  ·exact U.slots t' e' O
 cases b with
 | true=>exact QV h2 (ht rfl a w (keep _ rfl) r (by simpa using hr))
 | false=>exact QW h2 (hf rfl a w (keep _ rfl) r (by simpa using hr))
theorem CL {c:Operand} {x y:Code} (hb:opE l c=some (.rd Ac true)) (h:G ro P (Sta Γ l res) x Q m):G ro P (Sta Γ l res) (.cond c x y) Q m:=λa w U r hr=>by
 obtain⟨cs,O,h2⟩:=U.vl hb;have O:cs=[.bool true]:=O;subst O;exact QV h2 (h a w U r hr)
theorem DX {c:Operand} {x y:Code} (hb:opE l c=some (.rd Ac false)) (h:G ro P (Sta Γ l res) y Q m):G ro P (Sta Γ l res) (.cond c x y) Q m:=λa w U r hr=>by
 obtain⟨cs,O,h2⟩:=U.vl hb;have O:cs=[.bool false]:=O;subst O;exact QW h2 (h a w U r hr)
theorem Sta.known {a:Act} {w:World} {t:Nat} {b b':Bool} (U:Sta Γ l res a w) (hb:lk l t=some (.rd Ac b)) (e:b=b'):Sta Γ ((t,.rd Ac b')::l) res a w:=by
 subst e;refine { U with slots:=λt' e' O=>?_ };rw[Cn] at O
 split at O
 ·rename_i hh; subst hh; cases O; exact U.slots t _ hb
 ·exact U.slots t' e' O
section
variable {X:ρ->Act->World->Prop}
theorem xIf (t:Nat) {b:Bool} (O:lk l t=some (.rd Ac b)) (ht:b=true->GX X (Sta Γ ((t,.rd Ac true)::l) res) m1) (hf:b=false->GX X (Sta Γ ((t,.rd Ac false)::l) res) m2) :
  GX X (Sta Γ l res) (if b then m1 else m2):=by
 intro a w U r hr
 cases b with
 | true=>exact ht rfl a w (U.known O rfl) r (by simpa using hr)
 | false=>exact hf rfl a w (U.known O rfl) r (by simpa using hr)
theorem QY {α:Type} {R:Rep α} {x:α} {k:α->Option ρ} (t:Nat) (hx:lk l t=some (.rd R x)) (h:∀ y,GX X (Sta Γ ((t,.rd R y)::l) res) (k y)):GX X (Sta Γ l res) (some x >>= k):=by
 intro a w U r hr;refine h x a w ?_ r hr;refine { U with slots:=λt' e' O=>?_ };rw[Cn] at O
 split at O
 ·rename_i hh; subst hh; cases O; exact U.slots t _ hx
 ·exact U.slots t' e' O
theorem Oy {σ:Type} {A:Asn} {m:Option σ} {k:σ->Option ρ} (h:∀ s,m=some s->GX X A (k s)):GX X A (m >>= k):=λa w ha r O=>by
 cases U:m with
 | none=>rw[U] at O; cases O
 | some s=>rw[U] at O; exact h s U a w ha r O
theorem xEx {ι:Type} {A:ι->Asn} (h:∀ i,GX X (A i) m):GX X (λa w=>∃ i,A i a w) m:=λa w ⟨i,O⟩ r U=>h i a w O r U
end
def Run (C:World->World->Prop) (P:Program) (Γ:Ctx) (l:AR) (res:Res) (o:Oper) (e:Ent):Prop :=
 ∀ a w,Sta Γ l res a w->∃ v,(∀ w',C w w'->(execOp a.eval o).run P w'=.ok (.value v) w')/\e.holds (Shr Γ.H res w) w v
abbrev AnyW:World->World->Prop:=λ_ _=>True
theorem Sta.yield {a:Act} {w:World} (ha:Sta Γ l res a w) {j t:Nat} {b:Bool} (hj:(os.toArray[j]?).bind (·.dst)=some t) (hl:lk l t=some (.rd Ac b)):yielded os.toArray a.tmps j=some b:=by
 obtain⟨v,h1,cs,O,U⟩:=ha.slots t _ hl;have O:cs=[.bool b]:=O;subst O;have U:v=.bool b:=U;subst U;unfold yielded;rw[hj];simp[h1]
def Grd (os:List Oper) (l:AR) (o:Oper) (yes:Bool):Prop:=match o.guard with
 | none=>yes=true
 | some (j,b)=>∃ t,(os.toArray[j]?).bind (·.dst)=some t/\((∃ b',lk l t=some (.rd Ac b')/\yes=(b'==b))\/(lk l t=some .un/\yes=false))
theorem Grd.wanted {a:Act} {w:World} {o:Oper} {yes:Bool} (h:Grd os l o yes) (ha:Sta Γ l res a w):Region.wanted o (yielded os.toArray a.tmps)=yes:=by
 unfold Grd at h;unfold Region.wanted
 cases hg:o.guard with
 | none=>rw[hg] at h; simp[h]
 | some x =>
  obtain⟨j,b⟩:=x;rw[hg] at h;obtain⟨t,h1,⟨b',O,U⟩ | ⟨O,U⟩⟩:=h
  ·simp[ha.yield h1 O,U]
  ·obtain⟨v,h4,h5⟩:=ha.slots t _ O;have h5:v=undef:=h5;subst h5; subst U;have hy:yielded os.toArray a.tmps j=none:=by unfold yielded; rw[h1]; simp[h4,undef]
   simp[hy]
theorem gd0 {o:Oper} (h:o.guard=none):Grd os l o true:=by simp[Grd,h]
theorem gd {o:Oper} {j t:Nat} {b b' yes:Bool} (h:o.guard=some (j,b)) (O:(os.toArray[j]?).bind (·.dst)=some t) (U:lk l t=some (.rd Ac b')) (hy:(b'==b)=yes):Grd os l o yes:=by
 simp only[Grd,h]; exact⟨t,O,.inl ⟨b',U,hy.symm⟩⟩
theorem Zx {os:List Oper} {l:AR} {o:Oper} {j t:Nat} {b b' yes:Bool} (h:o.guard=some (j,b):=by rfl) (O:(os.toArray[j]?).bind (·.dst)=some t:=by rfl) (U:lk l t=some (.rd Ac b'):=by rfl) (hy:(b'==b)=yes:=by rfl):Grd os l o yes:=gd h O U hy
theorem gdU {o:Oper} {j t:Nat} {b:Bool} (h:o.guard=some (j,b)) (O:(os.toArray[j]?).bind (·.dst)=some t) (U:lk l t=some .un):Grd os l o false:=by
 simp only[Grd,h]; exact⟨t,O,.inr ⟨U,trivial⟩⟩
theorem Aa {o:Oper} {d:Nat} {e:Ent} (g:Grd os l o true) (hd:o.dst=some d) (U:Nat.blt d Γ.n=true) (hr:Run Eq P Γ l res o e)
  (k:GL P os (Sta Γ ((d,e)::l) res) rest N m):GL P os (Sta Γ l res) (o::rest) N m:=λa w O r hm=>by
 obtain⟨v,h1,h2⟩:=hr a w O;refine st (g.wanted O) (h1 w rfl) ?_;rw[hd];exact k _ w (O.put U h2) r hm
theorem D6 {o:Oper} {d:Nat} (g:Grd os l o false) (hd:o.dst=some d) (U:Nat.blt d Γ.n=true)
  (k:GL P os (Sta Γ ((d,.un)::l) res) rest N m):GL P os (Sta Γ l res) (o::rest) N m:=λa w O r hm=>by
 refine wpList_step λK hK=>?_;rw[if_neg (by simp[g.wanted O]),hd];exact hK _ _ (k _ w (O.put U rfl) r hm)
theorem Zk {ρ:Type} {P:Program} {Γ:Ctx} {l:AR} {res:Res} {m:Option ρ} {os rest:List Oper} {N:ρ->Exit->Act->World->Prop} {o:Oper} {d:Nat} (hd:o.dst=some d) (k:GL P os (Sta Γ ((d,.un)::l) res) rest N m) (g:Grd os l o false:=by exact gd rfl rfl rfl rfl) (O:Nat.blt d Γ.n=true:=by rfl):GL P os (Sta Γ l res) (o::rest) N m:=D6 g hd O k
theorem R {d:Nat} {op:Op} {ty:TypeId} {pos:String} {after:Array Edge} {e:Ent} (O:Nat.blt d Γ.n=true) (U:Run Eq P Γ l res ⟨some d,op,ty,pos,after,none⟩ e)
  (k:GL P os (Sta Γ ((d,e)::l) res) rest N m):GL P os (Sta Γ l res) (⟨some d,op,ty,pos,after,none⟩::rest) N m:=Aa (gd0 rfl) rfl O U k
theorem Zq {ρ:Type} {P:Program} {Γ:Ctx} {l:AR} {res:Res} {m:Option ρ} {os rest:List Oper} {N:ρ->Exit->Act->World->Prop} {d:Nat} {ty:TypeId} {pos:String} {after:Array Edge} {e:Ent} {op:Op} (O:Run Eq P Γ l res ⟨some d,op,ty,pos,after,none⟩ e) (k:GL P os (Sta Γ ((d,e)::l) res) rest N m) (U:Nat.blt d Γ.n=true:=by rfl):GL P os (Sta Γ l res) (⟨some d,op,ty,pos,after,none⟩::rest) N m:=R U O k
def CW (res:Res) (ws:List Nat) (w w':World):Prop:=CZ (λb=>b<w.heap.size/\∀ r v c,ws.contains r=true->lr res r=some (v,c)->AS v≠some b) w w'
class LC (C:World->World->Prop) (res:Res) (ws:outParam (List Nat)):Prop where
 le:∀ {w w'},C w w'->CW res ws w w'
instance:LC Eq res []:=⟨λh=>by subst h; exact CZ.rfl'⟩
instance:LC Ext res []:=⟨λh=>⟨h.os,h.tape,h.output,h.size, λb O=>h.block b O.1⟩⟩
instance {ws:List Nat}:LC (CW res ws) res ws:=⟨λh=>h⟩
theorem CW.at {C:World->World->Prop} {ws:List Nat} [LC C res ws] {a:Act} {w w':World} (h:C w w') (O:Sta Γ l res a w) {b:Nat} {r:Nat} {v:Value} {c:AO} (U:lr res r=some (v,c)) (hb:AS v=some b) (hn:ws.contains r=false):w'.heap[b]? = w.heap[b]? := by
 refine(LC.le (res:=res) (ws:=ws) h).block b ⟨(O.conts r v c U).lt hb, λr' v' c' h1 h2=>?_⟩;have a1:r'≠r:=λe=>by subst e; rw[hn] at h1; cases h1
 exact λe=>O.excl r' v' c' r v c h2 U a1 b e hb
theorem CW.shr {C:World->World->Prop} {ws:List Nat} [LC C res ws] {H:Blk} {w w':World} (h:C w w') {b:Nat} (O:Shr H res w b):w'.heap[b]? = w.heap[b]? :=
 (LC.le (res:=res) (ws:=ws) h).block b ⟨O.1, λr v c _ U=>O.2.1 r v c U⟩
theorem CW.stay {C:World->World->Prop} {ws:List Nat} [LC C res ws] {H:Blk} {w w':World} (h:C w w'):Br (Shr H res w) (Shr H res w') w w':=λb O =>
 ⟨⟨Nat.lt_of_lt_of_le O.1 (LC.le (res:=res) (ws:=ws) h).size,O.2⟩,CW.shr h O⟩
theorem Dh {id:Nat} {A:Asn} {Q:ρ->Exit->Act->World->Prop} (U:P.follows .mixedOrders=true) (hB:Region.lexB .any os.toArray=true) (h:GQ P os A os Q m) (hd:EV os=true:=by rfl):G ro P A (.region id os.toArray true) Q m:=λa w ha r hr=>by
 simp only[Region.lexB,Bool.and_eq_true] at hB;refine Ox U (by simpa using hd) (wpAny_of_quiet (C:=Ext w) (Q:=λa'=>∀ w',Ext w w'->Q r .normal a' w') (λ_ w' O h=>h w' O) _ _ _ _ (Ext.rfl'.dr) ?_)
 have:=wpAnyQ_lex (C:=Ext w) (md:=.any) hB.1 os 0 (Array.replicate os.toArray.size false) a (by simp) (by simpa using hB.2) (h a w ha r hr)
 simpa using this
theorem Dd {ops:List Oper} (h:GE (Sta Γ l res) .normal N m):GQ P ops (Sta Γ l res) [] N m:=λa w U r hr w' O=>h a w' (U.ext O) r hr
theorem qRun {o:Oper} {d:Nat} {e:Ent} (g:Grd os l o true) (hd:o.dst=some d) (U:Nat.blt d Γ.n=true) (hr:Run Ext P Γ l res o e)
  (k:GQ P os (Sta Γ ((d,e)::l) res) rest N m):GQ P os (Sta Γ l res) (o::rest) N m:=λa w O r hm=>by
 obtain⟨v,h1,h2⟩:=hr a w O;refine wpQuiet_step λK hK=>?_;rw[if_pos (g.wanted O)];refine⟨v, λw' h=>by unfold Oper.quietAt; rw[h1 w' h]; exact⟨rfl,rfl⟩,?_⟩;rw[hd];exact hK _ (k _ w (O.put U h2) r hm)
theorem Rq {d:Nat} {op:Op} {ty:TypeId} {pos:String} {after:Array Edge} {e:Ent} (O:Nat.blt d Γ.n=true) (U:Run Ext P Γ l res ⟨some d,op,ty,pos,after,none⟩ e)
  (k:GQ P os (Sta Γ ((d,e)::l) res) rest N m):GQ P os (Sta Γ l res) (⟨some d,op,ty,pos,after,none⟩::rest) N m:=qRun (gd0 rfl) rfl O U k
theorem EW {o:Oper} {d:Nat} (g:Grd os l o false) (hd:o.dst=some d) (U:Nat.blt d Γ.n=true)
  (k:GQ P os (Sta Γ ((d,.un)::l) res) rest N m):GQ P os (Sta Γ l res) (o::rest) N m:=λa w O r hm=>by
 refine wpQuiet_step λK hK=>?_;rw[if_neg (by simp[g.wanted O]),hd];exact hK _ (k _ w (O.put U rfl) r hm)
end
end
section
section
variable {P:Program} {ρ:Operand->Value} {w:World} {d:Tmp} {ty:TypeId} {pos:String} {after:Array Edge} {g:Option (Nat × Bool)}
theorem X7 {x : Operand} {v : Value}
    (O:ρ x=v)  :
    (execOp ρ ⟨some d,.move x,ty,pos,after,g⟩).run P w=.ok (.value (v)) w:=(by simp[execOp,O,pure])
theorem X8 {x : Operand} {v : Value}
    (O:ρ x=v)  :
    (execOp ρ ⟨some d,.assign x,ty,pos,after,g⟩).run P w=.ok (.value (v)) w:=(by simp[execOp,O,pure])
theorem QZ {op : BinOp} {x y : Operand} {T T' : TypeId} {k : IntKind} {m m' : Int} {v : Value}
    (U:ρ x=(.int k m)) (hy:ρ y=(.int k m')) (O:D5 op k m m'=some v) :
    (execOp ρ ⟨some d,.binOp op T x y T',ty,pos,after,g⟩).run P w=.ok (.value (v)) w:=(by
    have e1:=U;have e2:=hy
    cases op <;> simp only[D5,Option.some.injEq,reduceCtorEq] at O <;> subst O <;>
      simp[execOp,e1,e2,eqGuard,binOp,Op.intArith,Op.intCmp,pure,bind,Sem.bind])
theorem X9 {x y : Operand} {T T' : TypeId} {k : IntKind} {m m' r : Int}
    (O:ρ x=(.int k m)) (U:ρ y=(.int k m')) (h0:m'≠0) (hv:k.wrap (m.tdiv m')=r) :
    (execOp ρ ⟨some d,.binOp .quo T x y T',ty,pos,after,g⟩).run P w=.ok (.value (.int k r)) w:=(by
    subst hv
    simp[execOp,O,U,eqGuard,binOp,Op.intDiv,h0,pure,bind,Sem.bind])
theorem Xa {x y : Operand} {T T' : TypeId} {k : IntKind} {m m' r : Int}
    (O:ρ x=(.int k m)) (U:ρ y=(.int k m')) (h0:m'≠0) (hv:m.tmod m'=r) :
    (execOp ρ ⟨some d,.binOp .rem T x y T',ty,pos,after,g⟩).run P w=.ok (.value (.int k r)) w:=(by
    subst hv
    simp[execOp,O,U,eqGuard,binOp,Op.intDiv,h0,pure,bind,Sem.bind])
theorem Xb {x y : Operand} {T T' : TypeId} {k k' : IntKind} {m m' r : Int}
    (O:ρ x=(.int k m)) (U:ρ y=(.int k' m')) (h0:0<=m') (hv:k.wrap (m * 2 ^ (min m'.toNat k.bits))=r) :
    (execOp ρ ⟨some d,.binOp .shl T x y T',ty,pos,after,g⟩).run P w=.ok (.value (.int k r)) w:=(by
    subst hv
    have:¬ m'<0:=by omega
    simp[execOp,O,U,eqGuard,binOp,Op.shift,this,pure,bind,Sem.bind])
theorem Xc {x y : Operand} {T T' : TypeId} {k k' : IntKind} {m m' r : Int}
    (O:ρ x=(.int k m)) (U:ρ y=(.int k' m')) (h0:0<=m') (hv:m.fdiv (2 ^ (min m'.toNat k.bits))=r) :
    (execOp ρ ⟨some d,.binOp .shr T x y T',ty,pos,after,g⟩).run P w=.ok (.value (.int k r)) w:=(by
    subst hv
    have:¬ m'<0:=by omega
    simp[execOp,O,U,eqGuard,binOp,Op.shift,this,pure,bind,Sem.bind])
theorem Xd {op : BinOp} {x y : Operand} {T T' : TypeId} {k : IntKind} {m m' r : Int}
    (O:Oo op=true) (U:ρ x=(.int k m)) (hy:ρ y=(.int k m')) (hv:E2 op k m m'=r) :
    (execOp ρ ⟨some d,.binOp op T x y T',ty,pos,after,g⟩).run P w=.ok (.value (.int k r)) w:=(by
    subst hv;have e1:=U;have e2:=hy
    cases op <;> simp only[Oo,reduceCtorEq,Bool.false_eq_true] at O <;>
      simp[execOp,e1,e2,eqGuard,binOp,Op.intBits,E2,pure,bind,Sem.bind])
theorem Xe {x y : Operand} {T T' : TypeId} {b b' : Bool}
    (hT:P.underlying T=some .bool) (O:ρ x=(.bool b)) (U:ρ y=(.bool b')) :
    (execOp ρ ⟨some d,.binOp .eql T x y T',ty,pos,after,g⟩).run P w=.ok (.value (.bool (b==b'))) w:=(Fj (by rw[O,U]; rfl) (by rw[O,U]; exact WS hT))
theorem Xf {x y : Operand} {T T' : TypeId} {b b' : Bool}
    (hT:P.underlying T=some .bool) (O:ρ x=(.bool b)) (U:ρ y=(.bool b')) :
    (execOp ρ ⟨some d,.binOp .neq T x y T',ty,pos,after,g⟩).run P w=.ok (.value (.bool (b != b'))) w:=(Fj (by rw[O,U]; rfl) (by rw[O,U]; exact WT hT))
theorem Xg {x y : Operand} {T T' : TypeId} {s s' : ByteArray}
    (O:ρ x=(.string s)) (U:ρ y=(.string s')) :
    (execOp ρ ⟨some d,.binOp .eql T x y T',ty,pos,after,g⟩).run P w=.ok (.value (.bool (s.toList==s'.toList))) w:=(Fj (by rw[O,U]; rfl) (by rw[O,U]; rfl))
theorem Xh {x y : Operand} {T T' : TypeId} {s s' : ByteArray}
    (O:ρ x=(.string s)) (U:ρ y=(.string s')) :
    (execOp ρ ⟨some d,.binOp .neq T x y T',ty,pos,after,g⟩).run P w=.ok (.value (.bool (!(s.toList==s'.toList)))) w:=(Fj (by rw[O,U]; rfl) (by rw[O,U]; rfl))
theorem Xi {x : Operand} {T : TypeId} {b : Bool}
    (O:ρ x=(.bool b)) :
    (execOp ρ ⟨some d,.unOp .not T x,ty,pos,after,g⟩).run P w=.ok (.value (.bool (!b))) w:=(by simp[execOp,O,Op.unary,pure,bind,Sem.bind])
theorem Xj {x : Operand} {T : TypeId} {k : IntKind} {m r : Int}
    (O:ρ x=(.int k m)) (U:k.wrap (0 - m)=r) :
    (execOp ρ ⟨some d,.unOp .neg T x,ty,pos,after,g⟩).run P w=.ok (.value (.int k r)) w:=(by subst U; simp[execOp,O,Op.unary,Op.intArith,pure,bind,Sem.bind])
theorem Xk {x : Operand} {T : TypeId} {k : IntKind} {m r : Int}
    (O:ρ x=(.int k m)) (U:E2 .xor k (if k.signed then -1 else k.max) m=r) :
    (execOp ρ ⟨some d,.unOp .xor T x,ty,pos,after,g⟩).run P w=.ok (.value (.int k r)) w:=(by subst U; simp[execOp,O,Op.unary,Op.intBits,E2,pure,bind,Sem.bind])
theorem S0 {x y z : Operand} {b : Bool} {v u r : Value}
    (O:ρ x=(.bool b)) (U:ρ y=v) (hz:ρ z=u) (hv:(if b then v else u)=r) :
    (execOp ρ ⟨some d,.pick x y z,ty,pos,after,g⟩).run P w=.ok (.value (r)) w:=(by subst hv; cases b <;> simp[execOp,O,U,hz,asBool,pure,bind,Sem.bind])
theorem Xl {x : Operand} {S T : TypeId} {ds : TypeDesc} {k k' : IntKind} {m r : Int}
    (hS:P.underlying S=some ds) (hT:P.underlying T=some (.int k')) (O:ρ x=(.int k m)) (U:k'.wrap m=r) :
    (execOp ρ ⟨some d,.convert S T x,ty,pos,after,g⟩).run P w=.ok (.value (.int k' r)) w:=(by subst U; simp[execOp,O,convert,run_underlying hS,run_underlying hT,Conv.intToInt])
theorem Xm {x : Operand} {i : Nat} {vs : Array Value} {v : Value}
    (O:ρ x=(.tuple vs)) (U:vs[i]? = some v) :
    (execOp ρ ⟨some d,.extract x i,ty,pos,after,g⟩).run P w=.ok (.value (v)) w:=(by simp[execOp,O,Instr.extract,U,pure,bind,Sem.bind])
theorem S3 {x : Operand} {T : TypeId} {at_ : Array TypeId} {e : TypeId} {p : Option Addr} {m cp : Nat}
    (O:at_[0]? = some T) (hT:P.underlying T=some (.slice e)) (U:ρ x=(.slice p m cp)) :
    (execOp ρ ⟨some d,.call ⟨.builtin .len,#[x],at_⟩,ty,pos,after,g⟩).run P w=.ok (.value (.int .i64 m)) w:=(by simp[execOp,resolve,invoke,builtin,U,Builtin.len_,O,run_underlying hT,goInt])
theorem Xn {x : Operand} {T : TypeId} {at_ : Array TypeId} {s : ByteArray}
    (O:at_[0]? = some T) (hT:P.underlying T=some .string) (U:ρ x=(.string s)) :
    (execOp ρ ⟨some d,.call ⟨.builtin .len,#[x],at_⟩,ty,pos,after,g⟩).run P w=.ok (.value (.int .i64 s.size)) w:=(by simp[execOp,resolve,invoke,builtin,U,Builtin.len_,O,run_underlying hT,goInt])
theorem Xo {x y : Operand} {at_ : Array TypeId} {k : IntKind} {m m' : Int}
    (O:ρ x=(.int k m)) (U:ρ y=(.int k m')) :
    (execOp ρ ⟨some d,.call ⟨.builtin .max,#[x,y],at_⟩,ty,pos,after,g⟩).run P w=.ok (.value (.int k (if m<m' then m' else m))) w:=(by simp[execOp,resolve,invoke,builtin,O,U,Builtin.max_,Builtin.max2,pure,bind,Sem.bind])
theorem Xp {x i : Operand} {T : TypeId} {s : ByteArray} {k : IntKind} {m : Int} {c0 : UInt8}
    (hT:P.underlying T=some .string) (O:ρ x=(.string s)) (hi:ρ i=(.int k m)) (U:0<=m) (hc:s[m.toNat]? = some c0) :
    (execOp ρ ⟨some d,.index T x i,ty,pos,after,g⟩).run P w=.ok (.value (.int .u8 c0.toNat)) w:=(by simp[execOp,O,hi,Instr.index,asIntOf,run_underlying hT,U,hc])
theorem Xq {fn : Fn} {first captured : Array Operand} {v1 O : Array Value}
    (U:first.map ρ=v1) (h2:captured.map ρ=O) :
    (execOp ρ ⟨some d,.makeFunc fn first captured,ty,pos,after,g⟩).run P w=.ok (.value (.func fn v1 O)) w:=(by simp[execOp,Instr.makeFunc,U,h2,pure,bind,Sem.bind])
theorem Xr {t : TypeId} {x : Operand} {p : Addr} {v : Value}
     (hT:Sc P t)
    (O:ρ x=(.pointer (some p))) (U:w.cell? p=some v) :
    (execOp ρ ⟨some d,.load t x,ty,pos,after,g⟩).run P w=.ok (.value (v)) w:=(by simp[execOp,O,Instr.loadAt,Instr.sureAddr,Ld hT U])
theorem S4 {S : TypeId} {x : Operand} {i : Nat} {p q : Addr} {fs : Array Field} {fd : Field} {z : Value} {sz by_ : Nat}
    (hS:P.underlying S=some (.struct fs)) (hi:fs[i]? = some fd) (hF:TI P fd.type z (sz+1) by_) (O:ρ x=(.pointer (some p))) (U:p.add fd.offset=q) :
    (execOp ρ ⟨some d,.fieldAddr S x i,ty,pos,after,g⟩).run P w=.ok (.value (.pointer (some q))) w:=(by subst U; simp[execOp,O,Instr.fieldAt,Instr.sureAddr,run_underlying hS,hi,fieldPlace,CY hF])
theorem Oz {T e : TypeId} {x y : Operand} {b o m sz by_ : Nat} {k : IntKind} {i : Int} {z : Value} {j q : Nat}
    (hT:P.underlying T=some (.array m e)) (hE:TI P e z sz by_) (U:ρ x=(.pointer (some ⟨b,o,none⟩))) (hy:ρ y=(.int k i)) (O:i=(j:Int)) (hj:j<m) (hq:o+j * sz=q) :
    (execOp ρ ⟨some d,.indexAddr T x y,ty,pos,after,g⟩).run P w=.ok (.value (.pointer (some ⟨b,q,none⟩))) w:=(by
    subst O; subst hq
    simp[execOp,U,hy,Instr.indexAt,Instr.sureAddr,asIntOf,run_underlying hT,hj,CY hE,CX])
theorem Xs {T T' e : TypeId} {x y : Operand} {p : Option Addr} {k c : Nat}
    (hT:P.underlying T=some (.slice e)) (O:ρ x=(.slice p k c)) (U:ρ y=(.slice none 0 0)) :
    (execOp ρ ⟨some d,.binOp .eql T x y T',ty,pos,after,g⟩).run P w=.ok (.value (.bool (decide (p=none)))) w:=(Fj (by rw[O,U]; rfl) (by rw[O,U]; exact WX hT))
theorem Lh {t : TypeId} {parts : Array (Nat × Operand)} {vs : Array (Nat × Value)} {v : Value}
    (O:(parts.map λ(i,x)=>(i,ρ x))=vs) (U:(Instr.build t vs).run P w=.ok v w) :
    (execOp ρ ⟨some d,.build t parts,ty,pos,after,g⟩).run P w=.ok (.value v) w:=by
  subst O;simp only[execOp,Sem.run_bind,U,Result.andThen,Sem.run_pure]
end
end
section
def w64 (x:Int):Int:=IntKind.i64.wrap x
theorem IN {x:Int} (h1:-9223372036854775808<=x) (h2:x<=9223372036854775807):w64 x=x:=by
 unfold w64; simp[IntKind.wrap,IntKind.signed,IntKind.bits]; omega
theorem S5 (a b:UInt8):((a.toNat:Int)==(b.toNat:Int))=(a==b):=by
 rw[Bool.eq_iff_iff,beq_iff_eq,beq_iff_eq,<- UInt8.toNat_inj]; omega
theorem Li (a:UInt8):BitVec.ofInt 8 (a.toNat:Int)=a.toBitVec:=by apply BitVec.eq_of_toNat_eq; simp
theorem S6 (x:BitVec 8):IntKind.u8.wrap (x.toNat:Int)=(x.toNat:Int):=by have:=x.isLt; simp only[IntKind.wrap,IntKind.signed,IntKind.bits]; simp; omega
theorem Xt (a b:UInt8):E2 .and .u8 (a.toNat:Int) (b.toNat:Int)=((a &&& b).toNat:Int):=by
 show IntKind.u8.wrap (BitVec.toNat (BitVec.ofInt 8 (a.toNat:Int) &&& BitVec.ofInt 8 (b.toNat:Int)):Int)=_;rw[Li,Li,S6]; rfl
theorem Xu (a b:UInt8):E2 .xor .u8 (a.toNat:Int) (b.toNat:Int)=((a ^^^ b).toNat:Int):=by
 show IntKind.u8.wrap (BitVec.toNat (BitVec.ofInt 8 (a.toNat:Int) ^^^ BitVec.ofInt 8 (b.toNat:Int)):Int)=_;rw[Li,Li,S6]; rfl
theorem Xv (a:Int):IntKind.u8.wrap a=((UInt8.ofInt a).toNat:Int):=by
 unfold UInt8.ofInt;simp only[IntKind.wrap,IntKind.signed,IntKind.bits]; simp; omega
theorem S7 (a b:UInt32):((a.toNat:Int)==(b.toNat:Int))=(a==b):=by
 rw[Bool.eq_iff_iff,beq_iff_eq,beq_iff_eq,<- UInt32.toNat_inj]; omega
theorem GV (a:UInt32):BitVec.ofInt 32 (a.toNat:Int)=a.toBitVec:=by apply BitVec.eq_of_toNat_eq; simp
theorem Lj (x:BitVec 32):IntKind.u32.wrap (x.toNat:Int)=(x.toNat:Int):=by have:=x.isLt; simp only[IntKind.wrap,IntKind.signed,IntKind.bits]; simp; omega
theorem Xw (a b:UInt32):E2 .and .u32 (a.toNat:Int) (b.toNat:Int)=((a &&& b).toNat:Int):=by
 show IntKind.u32.wrap (BitVec.toNat (BitVec.ofInt 32 (a.toNat:Int) &&& BitVec.ofInt 32 (b.toNat:Int)):Int)=_;rw[GV,GV,Lj]; rfl
theorem Xx (a b:UInt32):E2 .or .u32 (a.toNat:Int) (b.toNat:Int)=((a ||| b).toNat:Int):=by
 show IntKind.u32.wrap (BitVec.toNat (BitVec.ofInt 32 (a.toNat:Int) ||| BitVec.ofInt 32 (b.toNat:Int)):Int)=_;rw[GV,GV,Lj]; rfl
theorem Xy (a b:UInt32):E2 .xor .u32 (a.toNat:Int) (b.toNat:Int)=((a ^^^ b).toNat:Int):=by
 show IntKind.u32.wrap (BitVec.toNat (BitVec.ofInt 32 (a.toNat:Int) ^^^ BitVec.ofInt 32 (b.toNat:Int)):Int)=_;rw[GV,GV,Lj]; rfl
theorem Xz (a:UInt32):E2 .xor .u32 (if IntKind.signed .u32 then -1 else IntKind.max .u32) (a.toNat:Int)=((~~~a).toNat:Int):=by
 show IntKind.u32.wrap (BitVec.toNat (BitVec.ofInt 32 (4294967295:Int) ^^^ BitVec.ofInt 32 (a.toNat:Int)):Int)=_;rw[GV,Lj]
 have:BitVec.ofInt 32 (4294967295:Int)=BitVec.allOnes 32:=by decide
 rw[this,BitVec.allOnes_xor]; rfl
theorem S8 (a b:UInt64):((a.toNat:Int)==(b.toNat:Int))=(a==b):=by
 rw[Bool.eq_iff_iff,beq_iff_eq,beq_iff_eq,<- UInt64.toNat_inj]; omega
theorem HG (a:UInt64):BitVec.ofInt 64 (a.toNat:Int)=a.toBitVec:=by apply BitVec.eq_of_toNat_eq; simp
theorem OA (x:BitVec 64):IntKind.u64.wrap (x.toNat:Int)=(x.toNat:Int):=by have:=x.isLt; simp only[IntKind.wrap,IntKind.signed,IntKind.bits]; simp; omega
theorem XA (a b:UInt64):E2 .and .u64 (a.toNat:Int) (b.toNat:Int)=((a &&& b).toNat:Int):=by
 show IntKind.u64.wrap (BitVec.toNat (BitVec.ofInt 64 (a.toNat:Int) &&& BitVec.ofInt 64 (b.toNat:Int)):Int)=_;rw[HG,HG,OA]; rfl
theorem XB (a b:UInt64):E2 .or .u64 (a.toNat:Int) (b.toNat:Int)=((a ||| b).toNat:Int):=by
 show IntKind.u64.wrap (BitVec.toNat (BitVec.ofInt 64 (a.toNat:Int) ||| BitVec.ofInt 64 (b.toNat:Int)):Int)=_;rw[HG,HG,OA]; rfl
theorem XC (a b:UInt64):E2 .xor .u64 (a.toNat:Int) (b.toNat:Int)=((a ^^^ b).toNat:Int):=by
 show IntKind.u64.wrap (BitVec.toNat (BitVec.ofInt 64 (a.toNat:Int) ^^^ BitVec.ofInt 64 (b.toNat:Int)):Int)=_;rw[HG,HG,OA]; rfl
theorem XD (a:Int):IntKind.u64.wrap a=((UInt64.ofInt a).toNat:Int):=by
 unfold UInt64.ofInt;simp only[IntKind.wrap,IntKind.signed,IntKind.bits]; simp; omega
section
variable {C:World->World->Prop} {P:Program} {Γ:Ctx} {l:AR} {res:Res} {d:Tmp} {ty:TypeId} {pos:String} {after:Array Edge} {g:Option (Nat × Bool)}
theorem Ci {α:Type} {k:IntKind} {f:α->Int} {x:α} {S:Blk} {w:World} {v:Value} (h:(Ent.rd (Bn k f) x).holds S w v):v=.int k (f x):=by
 obtain⟨cs,O,U⟩:=h; have O:cs=[.int k (f x)]:=O; subst O; exact U
theorem DN {α:Type} {k:IntKind} {f:α->Int} {x:α} {S:Blk} {w:World}:(Ent.rd (Bn k f) x).holds S w (.int k (f x)):=⟨_,rfl,rfl⟩
theorem GW {x:Bool} {S:Blk} {w:World} {v:Value} (h:(Ent.rd Ac x).holds S w v):v=.bool x:=by
 obtain⟨cs,O,U⟩:=h; have O:cs=[.bool x]:=O; subst O; exact U
theorem EB {x:Bool} {S:Blk} {w:World}:(Ent.rd Ac x).holds S w (.bool x):=⟨_,rfl,rfl⟩
theorem EC {x:List UInt8} {S:Blk} {w:World} {v:Value} (h:(Ent.rd BI x).holds S w v):∃ s:ByteArray,v=.string s/\s.data.toList=x:=by
 obtain⟨cs,⟨s,O,U⟩,h2⟩:=h; subst O; exact⟨s,h2,U⟩
theorem mv {x:Operand} {e:Ent} (O:opE l x=some e):Run C P Γ l res ⟨some d,.move x,ty,pos,after,g⟩ e:=λa w U =>
 ⟨a.eval x, λw' _=>X7 rfl,U.vl O⟩
theorem asg {x:Operand} {e:Ent} (O:opE l x=some e):Run C P Γ l res ⟨some d,.assign x,ty,pos,after,g⟩ e:=λa w U =>
 ⟨a.eval x, λw' _=>X8 rfl,U.vl O⟩
theorem Zm {ρ:Type} {P:Program} {Γ:Ctx} {l:AR} {res:Res} {m:Option ρ} {os rest:List Oper} {N:ρ->Exit->Act->World->Prop} {d:Nat} {ty:TypeId} {pos:String} {after:Array Edge} {e:Ent} {x:Operand} (O:opE l x=some e) (k:GL P os (Sta Γ ((d,e)::l) res) rest N m) (U:Nat.blt d Γ.n=true:=by rfl):GL P os (Sta Γ l res) (⟨some d,.move x,ty,pos,after,none⟩::rest) N m:=R U (mv O) k
theorem Za {ρ:Type} {P:Program} {Γ:Ctx} {l:AR} {res:Res} {m:Option ρ} {os rest:List Oper} {N:ρ->Exit->Act->World->Prop} {d:Nat} {ty:TypeId} {pos:String} {after:Array Edge} {e:Ent} {x:Operand} (O:opE l x=some e) (k:GL P os (Sta Γ ((d,e)::l) res) rest N m) (U:Nat.blt d Γ.n=true:=by rfl):GL P os (Sta Γ l res) (⟨some d,.assign x,ty,pos,after,none⟩::rest) N m:=R U (asg O) k
theorem Gd {α β γ:Type} {op:BinOp} {k O:IntKind} {f:α->Int} {U:β->Int} {h:γ->Int} {x y:Operand} {T T':TypeId} {a:α} {b:β} {c:γ} (hx:opE l x=some (.rd (Bn k f) a)) (hy:opE l y=some (.rd (Bn k U) b))
  (hv:D5 op k (f a) (U b)=some (.int O (h c))):Run C P Γ l res ⟨some d,.binOp op T x y T',ty,pos,after,g⟩ (.rd (Bn O h) c):=λ_ w ha =>
 ⟨_, λw' _=>QZ (Ci (ha.vl hx)) (Ci (ha.vl hy)) hv,DN⟩
theorem De {α β:Type} {op:BinOp} {k:IntKind} {f:α->Int} {O:β->Int} {x y:Operand} {T T':TypeId} {a:α} {b:β} {c:Bool} (hx:opE l x=some (.rd (Bn k f) a)) (hy:opE l y=some (.rd (Bn k O) b))
  (hv:D5 op k (f a) (O b)=some (.bool c)):Run C P Γ l res ⟨some d,.binOp op T x y T',ty,pos,after,g⟩ (.rd Ac c):=λ_ w U =>
 ⟨_, λw' _=>QZ (Ci (U.vl hx)) (Ci (U.vl hy)) hv,EB⟩
theorem FG {α γ:Type} {op:BinOp} {k:IntKind} {f:α->Int} {x y:Operand} {T T':TypeId} {a b c:α} (U:opE l x=some (.rd (Bn k f) a)) (hy:opE l y=some (.rd (Bn k f) b))
  (ho:Oo op=true) (hv:E2 op k (f a) (f b)=f c):Run C P Γ l res ⟨some d,.binOp op T x y T',ty,pos,after,g⟩ (.rd (Bn k f) c):=λ_ w O =>
 ⟨_, λw' _=>Xd ho (Ci (O.vl U)) (Ci (O.vl hy)) hv,DN⟩
theorem quoL {α:Type} {k:IntKind} {f:α->Int} {x y:Operand} {T T':TypeId} {a b c:α} (U:opE l x=some (.rd (Bn k f) a)) (hy:opE l y=some (.rd (Bn k f) b))
  (h0:f b≠0) (hv:k.wrap ((f a).tdiv (f b))=f c):Run C P Γ l res ⟨some d,.binOp .quo T x y T',ty,pos,after,g⟩ (.rd (Bn k f) c):=λ_ w O =>
 ⟨_, λw' _=>X9 (Ci (O.vl U)) (Ci (O.vl hy)) h0 hv,DN⟩
theorem remL {α:Type} {k:IntKind} {f:α->Int} {x y:Operand} {T T':TypeId} {a b c:α} (U:opE l x=some (.rd (Bn k f) a)) (hy:opE l y=some (.rd (Bn k f) b))
  (h0:f b≠0) (hv:(f a).tmod (f b)=f c):Run C P Γ l res ⟨some d,.binOp .rem T x y T',ty,pos,after,g⟩ (.rd (Bn k f) c):=λ_ w O =>
 ⟨_, λw' _=>Xa (Ci (O.vl U)) (Ci (O.vl hy)) h0 hv,DN⟩
theorem shlL {α β:Type} {k k':IntKind} {f:α->Int} {O:β->Int} {x y:Operand} {T T':TypeId} {a c:α} {b:β} (hx:opE l x=some (.rd (Bn k f) a)) (hy:opE l y=some (.rd (Bn k' O) b))
  (h0:0<=O b) (hv:k.wrap (f a * 2 ^ (min (O b).toNat k.bits))=f c):Run C P Γ l res ⟨some d,.binOp .shl T x y T',ty,pos,after,g⟩ (.rd (Bn k f) c):=λ_ w U =>
 ⟨_, λw' _=>Xb (Ci (U.vl hx)) (Ci (U.vl hy)) h0 hv,DN⟩
theorem shrL {α β:Type} {k k':IntKind} {f:α->Int} {O:β->Int} {x y:Operand} {T T':TypeId} {a c:α} {b:β} (hx:opE l x=some (.rd (Bn k f) a)) (hy:opE l y=some (.rd (Bn k' O) b))
  (h0:0<=O b) (hv:(f a).fdiv (2 ^ (min (O b).toNat k.bits))=f c):Run C P Γ l res ⟨some d,.binOp .shr T x y T',ty,pos,after,g⟩ (.rd (Bn k f) c):=λ_ w U =>
 ⟨_, λw' _=>Xc (Ci (U.vl hx)) (Ci (U.vl hy)) h0 hv,DN⟩
theorem Fl {α β:Type} {k k':IntKind} {f:α->Int} {O:β->Int} {x:Operand} {S T:TypeId} {ds:TypeDesc} {a:α} {b:β} (hS:P.underlying S=some ds) (hT:P.underlying T=some (.int k')) (U:opE l x=some (.rd (Bn k f) a))
  (hv:k'.wrap (f a)=O b):Run C P Γ l res ⟨some d,.convert S T x,ty,pos,after,g⟩ (.rd (Bn k' O) b):=λ_ w ha =>
 ⟨_, λw' _=>Xl hS hT (Ci (ha.vl U)) hv,DN⟩
theorem negL {α:Type} {k:IntKind} {f:α->Int} {x:Operand} {T:TypeId} {a b:α} (O:opE l x=some (.rd (Bn k f) a))
  (U:k.wrap (0 - f a)=f b):Run C P Γ l res ⟨some d,.unOp .neg T x,ty,pos,after,g⟩ (.rd (Bn k f) b):=λ_ w ha =>
 ⟨_, λw' _=>Xj (Ci (ha.vl O)) U,DN⟩
theorem cplL {α:Type} {k:IntKind} {f:α->Int} {x:Operand} {T:TypeId} {a b:α} (O:opE l x=some (.rd (Bn k f) a))
  (U:E2 .xor k (if k.signed then -1 else k.max) (f a)=f b):Run C P Γ l res ⟨some d,.unOp .xor T x,ty,pos,after,g⟩ (.rd (Bn k f) b):=λ_ w ha =>
 ⟨_, λw' _=>Xk (Ci (ha.vl O)) U,DN⟩
theorem Cd {x:Operand} {T:TypeId} {b:Bool} (O:opE l x=some (.rd Ac b)):Run C P Γ l res ⟨some d,.unOp .not T x,ty,pos,after,g⟩ (.rd Ac (!b)):=λ_ w U =>
 ⟨_, λw' _=>Xi (GW (U.vl O)),EB⟩
theorem eqB {x y:Operand} {T T':TypeId} {b c:Bool} (hT:P.underlying T=some .bool) (U:opE l x=some (.rd Ac b)) (hy:opE l y=some (.rd Ac c)):Run C P Γ l res ⟨some d,.binOp .eql T x y T',ty,pos,after,g⟩ (.rd Ac (b==c)):=λ_ w O =>
 ⟨_, λw' _=>Xe hT (GW (O.vl U)) (GW (O.vl hy)),EB⟩
theorem neB {x y:Operand} {T T':TypeId} {b c:Bool} (hT:P.underlying T=some .bool) (U:opE l x=some (.rd Ac b)) (hy:opE l y=some (.rd Ac c)):Run C P Γ l res ⟨some d,.binOp .neq T x y T',ty,pos,after,g⟩ (.rd Ac (b != c)):=λ_ w O =>
 ⟨_, λw' _=>Xf hT (GW (O.vl U)) (GW (O.vl hy)),EB⟩
theorem E4 (s:ByteArray):s.toList=s.data.toList:=by
 have key:∀ (n i:Nat) (r:List UInt8),s.size - i=n->ByteArray.toList.loop s i r=r.reverse++s.data.toList.drop i:=by
  intro n
  induction n with
  | zero =>
   intro i r h;unfold ByteArray.toList.loop
   have:¬ i<s.size:=by omega
   rw[if_neg this,List.drop_eq_nil_of_le (by simp only[Array.length_toList]; exact Nat.le_of_sub_eq_zero h),List.append_nil]
  | succ n O =>
   intro i r h;unfold ByteArray.toList.loop;have hi:i<s.size:=by omega
   rw[if_pos hi,O (i+1) _ (by omega)];have U:i<s.data.toList.length:=by simpa using hi
   rw[List.drop_eq_getElem_cons U];simp[ByteArray.get!,getElem!_pos,hi]
 simpa [ByteArray.toList] using key s.size 0 [] rfl
theorem eqS {x y:Operand} {T T':TypeId} {b c:List UInt8} (U:opE l x=some (.rd BI b)) (hy:opE l y=some (.rd BI c)):Run C P Γ l res ⟨some d,.binOp .eql T x y T',ty,pos,after,g⟩ (.rd Ac (b==c)):=λ_ w O=>by
 obtain⟨s,h1,rfl⟩:=EC (O.vl U);obtain⟨t,h2,rfl⟩:=EC (O.vl hy);exact⟨_, λw' _=>Xg h1 h2, by rw[E4,E4]; exact EB⟩
theorem neS {x y:Operand} {T T':TypeId} {b c:List UInt8} (U:opE l x=some (.rd BI b)) (hy:opE l y=some (.rd BI c)):Run C P Γ l res ⟨some d,.binOp .neq T x y T',ty,pos,after,g⟩ (.rd Ac (b != c)):=λ_ w O=>by
 obtain⟨s,h1,rfl⟩:=EC (O.vl U);obtain⟨t,h2,rfl⟩:=EC (O.vl hy);exact⟨_, λw' _=>Xh h1 h2, by rw[E4,E4]; exact EB⟩
theorem pkT {x y z:Operand} {e:Ent} (U:opE l x=some (.rd Ac true)) (hy:opE l y=some e):Run C P Γ l res ⟨some d,.pick x y z,ty,pos,after,g⟩ e:=λ_ w O =>
 ⟨_, λw' _=>S0 (GW (O.vl U)) rfl rfl rfl,O.vl hy⟩
theorem pkF {x y z:Operand} {e:Ent} (U:opE l x=some (.rd Ac false)) (hz:opE l z=some e):Run C P Γ l res ⟨some d,.pick x y z,ty,pos,after,g⟩ e:=λ_ w O =>
 ⟨_, λw' _=>S0 (GW (O.vl U)) rfl rfl rfl,O.vl hz⟩
theorem maxi {k:IntKind} {α:Type} {f:α->Int} {x y:Operand} {at_:Array TypeId} {a b c:α} (U:opE l x=some (.rd (Bn k f) a)) (hy:opE l y=some (.rd (Bn k f) b)) (hv:(if f a<f b then f b else f a)=f c) :
  Run C P Γ l res ⟨some d,.call ⟨.builtin .max,#[x,y],at_⟩,ty,pos,after,g⟩ (.rd (Bn k f) c):=λ_ w O =>
 ⟨_, λw' _=>Xo (Ci (O.vl U)) (Ci (O.vl hy)), by rw[hv]; exact DN⟩
theorem C5.get {S:Blk} {w:World}:∀ {es:List Ent} {vs:List Value} {i:Nat} {e:Ent},C5 S w es vs->es[i]? = some e->∃ v,vs[i]? = some v/\e.holds S w v
 | [],[],i,e,_,h=>by simp at h
 | e0::es,v::vs,0,e,h,h'=>by simp at h'; subst h'; exact⟨v,rfl,h.1⟩
 | e0::es,v::vs,i+1,e,h,h'=>by simpa using C5.get h.2 (by simpa using h')
 | [],_::_,_,_,h,_=>h.elim
 | _::_,[],_,_,h,_=>h.elim
theorem ext {x:Operand} {i:Nat} {es:List Ent} {e:Ent} (O:opE l x=some (.tup es)) (hi:es[i]? = some e):Run C P Γ l res ⟨some d,.extract x i,ty,pos,after,g⟩ e:=λ_ w U=>by
 obtain⟨vs,h1,h2⟩:=U.vl O;obtain⟨v,h3,h4⟩:=h1.get hi;exact⟨v, λw' _=>Xm h2 (by simpa using h3),h4⟩
theorem lenT {x:Operand} {T:TypeId} {at_:Array TypeId} {b:List UInt8} (U:opE l x=some (.rd BI b)) (O:at_[0]? = some T) (hT:P.underlying T=some .string) :
  Run C P Γ l res ⟨some d,.call ⟨.builtin .len,#[x],at_⟩,ty,pos,after,g⟩ (.rd A3 (b.length:Int)):=λ_ w ha=>by
 obtain⟨s,h1,rfl⟩:=EC (ha.vl U);exact⟨_, λw' _=>Xn O hT h1,DN⟩
theorem mkf {fn:Fn} {first captured:Array Operand} {v1 O:Array Value} (h1:∀ a w,Sta Γ l res a w->first.map a.eval=v1) (h2:∀ a w,Sta Γ l res a w->captured.map a.eval=O) :
  Run C P Γ l res ⟨some d,.makeFunc fn first captured,ty,pos,after,g⟩ (.val (.func fn v1 O)):=λa w U =>
 ⟨_, λw' _=>Xq (h1 a w U) (h2 a w U),rfl,rfl⟩
theorem mp0 (a:Act) (w:World) (ha:Sta Γ l res a w):(#[]:Array Operand).map a.eval = #[]:=by simp
theorem mp1 {x:Operand} {v:Value} (O:opE l x=some (.val v)) (a:Act) (w:World) (U:Sta Γ l res a w):(#[x]:Array Operand).map a.eval = #[v]:=by
 have h1:a.eval x=v:=(U.vl O).1;simp[h1]
theorem mp2 {x y:Operand} {v u:Value} (U:opE l x=some (.val v)) (hy:opE l y=some (.val u)) (a:Act) (w:World) (O:Sta Γ l res a w):(#[x,y]:Array Operand).map a.eval = #[v,u]:=by
 have h1:a.eval x=v:=(O.vl U).1;have h2:a.eval y=u:=(O.vl hy).1;simp[h1,h2]
theorem mp4 {x0 U x2 x3:Operand} {v0 v1 v2 v3:Value} (h0:opE l x0=some (.val v0)) (h1:opE l U=some (.val v1)) (h2:opE l x2=some (.val v2)) (h3:opE l x3=some (.val v3)) (a:Act) (w:World) (O:Sta Γ l res a w):(#[x0,U,x2,x3]:Array Operand).map a.eval = #[v0,v1,v2,v3]:=by
 simp[(O.vl h0).1,(O.vl h1).1,(O.vl h2).1,(O.vl h3).1]
theorem idxT {β:Type} {kk:IntKind} {f:β->Int} {x i:Operand} {T:TypeId} {b:List UInt8} {j:β} {c:UInt8} (hx:opE l x=some (.rd BI b)) (hi:opE l i=some (.rd (Bn kk f) j)) (hT:P.underlying T=some .string) (h0:0<=f j) (O:b[(f j).toNat]? = some c) :
  Run C P Γ l res ⟨some d,.index T x i,ty,pos,after,g⟩ (.rd u8R c):=λ_ w U=>by
 obtain⟨s,h1,rfl⟩:=EC (U.vl hx);refine⟨_, λw' _=>Xp hT h1 (Ci (U.vl hi)) h0 (c0:=c) ?_,DN⟩;have h4:(f j).toNat<s.data.toList.length:=(List.getElem?_eq_some_iff.1 O).1;have h5:(f j).toNat<s.size:=by simpa using h4
 have:s[(f j).toNat]? = s.data[(f j).toNat]? := by
  rw[getElem?_pos s _ h5,getElem?_pos s.data _ h5]; rfl
 show s[(f j).toNat]? = some c;rw[this,<- O]; simp
theorem I.add {x y:Operand} {T T':TypeId} {a b:Int} (O:opE l x=some (.rd A3 a)) (U:opE l y=some (.rd A3 b)):Run C P Γ l res ⟨some d,.binOp .add T x y T',ty,pos,after,g⟩ (.rd A3 (w64 (a+b))):=Gd O U rfl
theorem I.sub {x y:Operand} {T T':TypeId} {a b:Int} (O:opE l x=some (.rd A3 a)) (U:opE l y=some (.rd A3 b)):Run C P Γ l res ⟨some d,.binOp .sub T x y T',ty,pos,after,g⟩ (.rd A3 (w64 (a - b))):=Gd O U rfl
theorem I.mul {x y:Operand} {T T':TypeId} {a b:Int} (O:opE l x=some (.rd A3 a)) (U:opE l y=some (.rd A3 b)):Run C P Γ l res ⟨some d,.binOp .mul T x y T',ty,pos,after,g⟩ (.rd A3 (w64 (a * b))):=Gd O U rfl
theorem I.lss {x y:Operand} {T T':TypeId} {a b:Int} (O:opE l x=some (.rd A3 a)) (U:opE l y=some (.rd A3 b)):Run C P Γ l res ⟨some d,.binOp .lss T x y T',ty,pos,after,g⟩ (.rd Ac (decide (a<b))):=De O U rfl
theorem I.leq {x y:Operand} {T T':TypeId} {a b:Int} (O:opE l x=some (.rd A3 a)) (U:opE l y=some (.rd A3 b)):Run C P Γ l res ⟨some d,.binOp .leq T x y T',ty,pos,after,g⟩ (.rd Ac (decide (a<=b))):=De O U rfl
theorem I.gtr {x y:Operand} {T T':TypeId} {a b:Int} (O:opE l x=some (.rd A3 a)) (U:opE l y=some (.rd A3 b)):Run C P Γ l res ⟨some d,.binOp .gtr T x y T',ty,pos,after,g⟩ (.rd Ac (decide (b<a))):=De O U rfl
theorem I.geq {x y:Operand} {T T':TypeId} {a b:Int} (O:opE l x=some (.rd A3 a)) (U:opE l y=some (.rd A3 b)):Run C P Γ l res ⟨some d,.binOp .geq T x y T',ty,pos,after,g⟩ (.rd Ac (decide (b<=a))):=De O U rfl
theorem I.eql {x y:Operand} {T T':TypeId} {a b:Int} (O:opE l x=some (.rd A3 a)) (U:opE l y=some (.rd A3 b)):Run C P Γ l res ⟨some d,.binOp .eql T x y T',ty,pos,after,g⟩ (.rd Ac (a==b)):=De O U rfl
theorem I.neq {x y:Operand} {T T':TypeId} {a b:Int} (O:opE l x=some (.rd A3 a)) (U:opE l y=some (.rd A3 b)):Run C P Γ l res ⟨some d,.binOp .neq T x y T',ty,pos,after,g⟩ (.rd Ac (a != b)):=De O U rfl
theorem I.quo {x y:Operand} {T T':TypeId} {a b:Int} (O:opE l x=some (.rd A3 a)) (U:opE l y=some (.rd A3 b)) (h0:b≠0):Run C P Γ l res ⟨some d,.binOp .quo T x y T',ty,pos,after,g⟩ (.rd A3 (w64 (a.tdiv b))):=quoL O U h0 rfl
theorem I.rem {x y:Operand} {T T':TypeId} {a b:Int} (O:opE l x=some (.rd A3 a)) (U:opE l y=some (.rd A3 b)) (h0:b≠0):Run C P Γ l res ⟨some d,.binOp .rem T x y T',ty,pos,after,g⟩ (.rd A3 (a.tmod b)):=remL O U h0 rfl
theorem I.neg {x:Operand} {T:TypeId} {a:Int} (O:opE l x=some (.rd A3 a)):Run C P Γ l res ⟨some d,.unOp .neg T x,ty,pos,after,g⟩ (.rd A3 (w64 (0 - a))):=negL O rfl
theorem J.lss {x y:Operand} {T T':TypeId} {a b:Int} (O:opE l x=some (.rd i32R a)) (U:opE l y=some (.rd i32R b)):Run C P Γ l res ⟨some d,.binOp .lss T x y T',ty,pos,after,g⟩ (.rd Ac (decide (a<b))):=De O U rfl
theorem J.gtr {x y:Operand} {T T':TypeId} {a b:Int} (O:opE l x=some (.rd i32R a)) (U:opE l y=some (.rd i32R b)):Run C P Γ l res ⟨some d,.binOp .gtr T x y T',ty,pos,after,g⟩ (.rd Ac (decide (b<a))):=De O U rfl
theorem B.lss {x y:Operand} {T T':TypeId} {a b:UInt8} (O:opE l x=some (.rd u8R a)) (U:opE l y=some (.rd u8R b)):Run C P Γ l res ⟨some d,.binOp .lss T x y T',ty,pos,after,g⟩ (.rd Ac (decide (a<b))):=De O U (by simp only[D5,Option.some.injEq,Value.bool.injEq,decide_eq_decide]; simp[UInt8.lt_iff_toNat_lt,UInt8.le_iff_toNat_le])
theorem B.gtr {x y:Operand} {T T':TypeId} {a b:UInt8} (O:opE l x=some (.rd u8R a)) (U:opE l y=some (.rd u8R b)):Run C P Γ l res ⟨some d,.binOp .gtr T x y T',ty,pos,after,g⟩ (.rd Ac (decide (b<a))):=De O U (by simp only[D5,Option.some.injEq,Value.bool.injEq,decide_eq_decide]; simp[UInt8.lt_iff_toNat_lt,UInt8.le_iff_toNat_le])
theorem B.eql {x y:Operand} {T T':TypeId} {a b:UInt8} (O:opE l x=some (.rd u8R a)) (U:opE l y=some (.rd u8R b)):Run C P Γ l res ⟨some d,.binOp .eql T x y T',ty,pos,after,g⟩ (.rd Ac (a==b)):=De O U (by simp only[D5,S5])
theorem B.neq {x y:Operand} {T T':TypeId} {a b:UInt8} (O:opE l x=some (.rd u8R a)) (U:opE l y=some (.rd u8R b)):Run C P Γ l res ⟨some d,.binOp .neq T x y T',ty,pos,after,g⟩ (.rd Ac (a != b)):=De O U (by simp only[D5,bne,S5])
theorem B.and {x y:Operand} {T T':TypeId} {a b:UInt8} (O:opE l x=some (.rd u8R a)) (U:opE l y=some (.rd u8R b)):Run C P Γ l res ⟨some d,.binOp .and T x y T',ty,pos,after,g⟩ (.rd u8R (a &&& b)):=FG (γ:=Unit) O U rfl (Xt a b)
theorem B.xor {x y:Operand} {T T':TypeId} {a b:UInt8} (O:opE l x=some (.rd u8R a)) (U:opE l y=some (.rd u8R b)):Run C P Γ l res ⟨some d,.binOp .xor T x y T',ty,pos,after,g⟩ (.rd u8R (a ^^^ b)):=FG (γ:=Unit) O U rfl (Xu a b)
def shl8 (a:UInt8) (n:Nat):UInt8:=UInt8.ofNat (a.toNat * 2 ^ (min n 8))
def shr8 (a:UInt8) (n:Nat):UInt8:=UInt8.ofNat (a.toNat / 2 ^ (min n 8))
theorem B.shl {β:Type} {k':IntKind} {O:β->Int} {x y:Operand} {T T':TypeId} {a:UInt8} {b:β} (U:opE l x=some (.rd u8R a)) (hy:opE l y=some (.rd (Bn k' O) b)) (h0:0<=O b):Run C P Γ l res ⟨some d,.binOp .shl T x y T',ty,pos,after,g⟩ (.rd u8R (shl8 a (O b).toNat)):=shlL U hy h0 (by
 unfold shl8; simp only[IntKind.wrap,IntKind.signed,IntKind.bits]; simp)
theorem B.shr {β:Type} {k':IntKind} {O:β->Int} {x y:Operand} {T T':TypeId} {a:UInt8} {b:β} (U:opE l x=some (.rd u8R a)) (hy:opE l y=some (.rd (Bn k' O) b)) (h0:0<=O b):Run C P Γ l res ⟨some d,.binOp .shr T x y T',ty,pos,after,g⟩ (.rd u8R (shr8 a (O b).toNat)):=shrL U hy h0 (by
 unfold shr8; simp only[IntKind.bits];have h1:=UInt8.toNat_lt a;have h2:a.toNat / 2 ^ (min (O b).toNat 8)<=a.toNat:=Nat.div_le_self _ _;have h3:∀ q:Nat,q<=a.toNat->(UInt8.ofNat q).toNat=q:=λq hq=>by simp; omega
 rw[h3 _ h2,Int.fdiv_eq_ediv_of_nonneg _ (Int.le_of_lt (Int.pow_pos (by decide)))]; simp)
theorem B.toI {x:Operand} {S T:TypeId} {ds:TypeDesc} {a:UInt8} (O:opE l x=some (.rd u8R a)) (hS:P.underlying S=some ds) (hT:P.underlying T=some (.int .i64)):Run C P Γ l res ⟨some d,.convert S T x,ty,pos,after,g⟩ (.rd A3 ((a.toNat:Int))):=Fl hS hT O (IN (by omega) (by have:=UInt8.toNat_lt a; omega))
theorem I.toB {x:Operand} {S T:TypeId} {ds:TypeDesc} {a:Int} (O:opE l x=some (.rd A3 a)) (hS:P.underlying S=some ds) (hT:P.underlying T=some (.int .u8)):Run C P Γ l res ⟨some d,.convert S T x,ty,pos,after,g⟩ (.rd u8R (UInt8.ofInt a)):=Fl hS hT O (Xv a)
theorem B.toW {x:Operand} {S T:TypeId} {ds:TypeDesc} {a:UInt8} (O:opE l x=some (.rd u8R a)) (hS:P.underlying S=some ds) (hT:P.underlying T=some (.int .u32)):Run C P Γ l res ⟨some d,.convert S T x,ty,pos,after,g⟩ (.rd A9 (a.toUInt32)):=Fl hS hT O (by have:=UInt8.toNat_lt a; simp only[IntKind.wrap,IntKind.signed,IntKind.bits]; simp; omega)
theorem B.toU {x:Operand} {S T:TypeId} {ds:TypeDesc} {a:UInt8} (O:opE l x=some (.rd u8R a)) (hS:P.underlying S=some ds) (hT:P.underlying T=some (.int .u64)):Run C P Γ l res ⟨some d,.convert S T x,ty,pos,after,g⟩ (.rd Ar (a.toUInt64)):=Fl hS hT O (by have:=UInt8.toNat_lt a; simp only[IntKind.wrap,IntKind.signed,IntKind.bits]; simp; omega)
theorem W.add {x y:Operand} {T T':TypeId} {a b:UInt32} (O:opE l x=some (.rd A9 a)) (U:opE l y=some (.rd A9 b)):Run C P Γ l res ⟨some d,.binOp .add T x y T',ty,pos,after,g⟩ (.rd A9 (a+b)):=Gd O U (by simp only[D5,Option.some.injEq,Value.int.injEq,true_and,IntKind.wrap,IntKind.signed,IntKind.bits]; simp)
theorem W.mul {x y:Operand} {T T':TypeId} {a b:UInt32} (O:opE l x=some (.rd A9 a)) (U:opE l y=some (.rd A9 b)):Run C P Γ l res ⟨some d,.binOp .mul T x y T',ty,pos,after,g⟩ (.rd A9 (a * b)):=Gd O U (by simp only[D5,Option.some.injEq,Value.int.injEq,true_and,IntKind.wrap,IntKind.signed,IntKind.bits]; simp)
theorem W.lss {x y:Operand} {T T':TypeId} {a b:UInt32} (O:opE l x=some (.rd A9 a)) (U:opE l y=some (.rd A9 b)):Run C P Γ l res ⟨some d,.binOp .lss T x y T',ty,pos,after,g⟩ (.rd Ac (decide (a<b))):=De O U (by simp only[D5,Option.some.injEq,Value.bool.injEq,decide_eq_decide]; simp[UInt32.lt_iff_toNat_lt,UInt32.le_iff_toNat_le])
theorem W.gtr {x y:Operand} {T T':TypeId} {a b:UInt32} (O:opE l x=some (.rd A9 a)) (U:opE l y=some (.rd A9 b)):Run C P Γ l res ⟨some d,.binOp .gtr T x y T',ty,pos,after,g⟩ (.rd Ac (decide (b<a))):=De O U (by simp only[D5,Option.some.injEq,Value.bool.injEq,decide_eq_decide]; simp[UInt32.lt_iff_toNat_lt,UInt32.le_iff_toNat_le])
theorem W.geq {x y:Operand} {T T':TypeId} {a b:UInt32} (O:opE l x=some (.rd A9 a)) (U:opE l y=some (.rd A9 b)):Run C P Γ l res ⟨some d,.binOp .geq T x y T',ty,pos,after,g⟩ (.rd Ac (decide (b<=a))):=De O U (by simp only[D5,Option.some.injEq,Value.bool.injEq,decide_eq_decide]; simp[UInt32.lt_iff_toNat_lt,UInt32.le_iff_toNat_le])
theorem W.eql {x y:Operand} {T T':TypeId} {a b:UInt32} (O:opE l x=some (.rd A9 a)) (U:opE l y=some (.rd A9 b)):Run C P Γ l res ⟨some d,.binOp .eql T x y T',ty,pos,after,g⟩ (.rd Ac (a==b)):=De O U (by simp only[D5,S7])
theorem W.neq {x y:Operand} {T T':TypeId} {a b:UInt32} (O:opE l x=some (.rd A9 a)) (U:opE l y=some (.rd A9 b)):Run C P Γ l res ⟨some d,.binOp .neq T x y T',ty,pos,after,g⟩ (.rd Ac (a != b)):=De O U (by simp only[D5,bne,S7])
theorem W.quo {x y:Operand} {T T':TypeId} {a b:UInt32} (O:opE l x=some (.rd A9 a)) (U:opE l y=some (.rd A9 b)) (h0:b≠0):Run C P Γ l res ⟨some d,.binOp .quo T x y T',ty,pos,after,g⟩ (.rd A9 (a / b)):=quoL O U (λe=>h0 (by rw[<- UInt32.toNat_inj]; simpa using e)) (by
 have h1:=UInt32.toNat_lt a;have h2:a.toNat / b.toNat<=a.toNat:=Nat.div_le_self _ _;rw[UInt32.toNat_div,Int.tdiv_eq_ediv_of_nonneg (by omega)];simp only[IntKind.wrap,IntKind.signed,IntKind.bits];simp only[Bool.false_and,Bool.false_eq_true,if_false]
 rw[<- Int.natCast_ediv]; generalize a.toNat / b.toNat=q at *; omega)
theorem W.rem {x y:Operand} {T T':TypeId} {a b:UInt32} (O:opE l x=some (.rd A9 a)) (U:opE l y=some (.rd A9 b)) (h0:b≠0):Run C P Γ l res ⟨some d,.binOp .rem T x y T',ty,pos,after,g⟩ (.rd A9 (a % b)):=remL O U (λe=>h0 (by rw[<- UInt32.toNat_inj]; simpa using e)) (by
 rw[UInt32.toNat_mod,Int.tmod_eq_emod_of_nonneg (by omega)]; omega)
theorem W.and {x y:Operand} {T T':TypeId} {a b:UInt32} (O:opE l x=some (.rd A9 a)) (U:opE l y=some (.rd A9 b)):Run C P Γ l res ⟨some d,.binOp .and T x y T',ty,pos,after,g⟩ (.rd A9 (a &&& b)):=FG (γ:=Unit) O U rfl (Xw a b)
theorem W.or {x y:Operand} {T T':TypeId} {a b:UInt32} (O:opE l x=some (.rd A9 a)) (U:opE l y=some (.rd A9 b)):Run C P Γ l res ⟨some d,.binOp .or T x y T',ty,pos,after,g⟩ (.rd A9 (a ||| b)):=FG (γ:=Unit) O U rfl (Xx a b)
theorem W.xor {x y:Operand} {T T':TypeId} {a b:UInt32} (O:opE l x=some (.rd A9 a)) (U:opE l y=some (.rd A9 b)):Run C P Γ l res ⟨some d,.binOp .xor T x y T',ty,pos,after,g⟩ (.rd A9 (a ^^^ b)):=FG (γ:=Unit) O U rfl (Xy a b)
def FH (a:UInt32) (n:Nat):UInt32:=UInt32.ofNat (a.toNat * 2 ^ (min n 32))
def BV (a:UInt32) (n:Nat):UInt32:=UInt32.ofNat (a.toNat / 2 ^ (min n 32))
theorem W.shl {β:Type} {k':IntKind} {O:β->Int} {x y:Operand} {T T':TypeId} {a:UInt32} {b:β} (U:opE l x=some (.rd A9 a)) (hy:opE l y=some (.rd (Bn k' O) b)) (h0:0<=O b):Run C P Γ l res ⟨some d,.binOp .shl T x y T',ty,pos,after,g⟩ (.rd A9 (FH a (O b).toNat)):=shlL U hy h0 (by
 unfold FH; simp only[IntKind.wrap,IntKind.signed,IntKind.bits]; simp)
theorem W.shr {β:Type} {k':IntKind} {O:β->Int} {x y:Operand} {T T':TypeId} {a:UInt32} {b:β} (U:opE l x=some (.rd A9 a)) (hy:opE l y=some (.rd (Bn k' O) b)) (h0:0<=O b):Run C P Γ l res ⟨some d,.binOp .shr T x y T',ty,pos,after,g⟩ (.rd A9 (BV a (O b).toNat)):=shrL U hy h0 (by
 unfold BV; simp only[IntKind.bits];have h1:=UInt32.toNat_lt a;have h2:a.toNat / 2 ^ (min (O b).toNat 32)<=a.toNat:=Nat.div_le_self _ _;have h3:∀ q:Nat,q<=a.toNat->(UInt32.ofNat q).toNat=q:=λq hq=>by simp; omega
 rw[h3 _ h2,Int.fdiv_eq_ediv_of_nonneg _ (Int.le_of_lt (Int.pow_pos (by decide)))]; simp)
theorem W.cpl {x:Operand} {T:TypeId} {a:UInt32} (O:opE l x=some (.rd A9 a)):Run C P Γ l res ⟨some d,.unOp .xor T x,ty,pos,after,g⟩ (.rd A9 (~~~a)):=cplL O (Xz a)
theorem W.toB {x:Operand} {S T:TypeId} {ds:TypeDesc} {a:UInt32} (O:opE l x=some (.rd A9 a)) (hS:P.underlying S=some ds) (hT:P.underlying T=some (.int .u8)):Run C P Γ l res ⟨some d,.convert S T x,ty,pos,after,g⟩ (.rd u8R (a.toUInt8)):=Fl hS hT O (by simp only[IntKind.wrap,IntKind.signed,IntKind.bits]; simp)
theorem W.toU {x:Operand} {S T:TypeId} {ds:TypeDesc} {a:UInt32} (O:opE l x=some (.rd A9 a)) (hS:P.underlying S=some ds) (hT:P.underlying T=some (.int .u64)):Run C P Γ l res ⟨some d,.convert S T x,ty,pos,after,g⟩ (.rd Ar (a.toUInt64)):=Fl hS hT O (by have:=UInt32.toNat_lt a; simp only[IntKind.wrap,IntKind.signed,IntKind.bits]; simp; omega)
theorem U.add {x y:Operand} {T T':TypeId} {a b:UInt64} (O:opE l x=some (.rd Ar a)) (hy:opE l y=some (.rd Ar b)):Run C P Γ l res ⟨some d,.binOp .add T x y T',ty,pos,after,g⟩ (.rd Ar (a+b)):=Gd O hy (by simp only[D5,Option.some.injEq,Value.int.injEq,true_and,IntKind.wrap,IntKind.signed,IntKind.bits]; simp)
theorem U.sub {x y:Operand} {T T':TypeId} {a b:UInt64} (O:opE l x=some (.rd Ar a)) (hy:opE l y=some (.rd Ar b)):Run C P Γ l res ⟨some d,.binOp .sub T x y T',ty,pos,after,g⟩ (.rd Ar (a - b)):=Gd O hy (by simp only[D5,Option.some.injEq,Value.int.injEq,true_and,IntKind.wrap,IntKind.signed,IntKind.bits]; have h1:=UInt64.toNat_lt a; have h2:=UInt64.toNat_lt b; rw[UInt64.toNat_sub]; simp; omega)
theorem U.mul {x y:Operand} {T T':TypeId} {a b:UInt64} (O:opE l x=some (.rd Ar a)) (hy:opE l y=some (.rd Ar b)):Run C P Γ l res ⟨some d,.binOp .mul T x y T',ty,pos,after,g⟩ (.rd Ar (a * b)):=Gd O hy (by simp only[D5,Option.some.injEq,Value.int.injEq,true_and,IntKind.wrap,IntKind.signed,IntKind.bits]; simp)
theorem U.lss {x y:Operand} {T T':TypeId} {a b:UInt64} (O:opE l x=some (.rd Ar a)) (hy:opE l y=some (.rd Ar b)):Run C P Γ l res ⟨some d,.binOp .lss T x y T',ty,pos,after,g⟩ (.rd Ac (decide (a<b))):=De O hy (by simp only[D5,Option.some.injEq,Value.bool.injEq,decide_eq_decide]; simp[UInt64.lt_iff_toNat_lt,UInt64.le_iff_toNat_le])
theorem U.leq {x y:Operand} {T T':TypeId} {a b:UInt64} (O:opE l x=some (.rd Ar a)) (hy:opE l y=some (.rd Ar b)):Run C P Γ l res ⟨some d,.binOp .leq T x y T',ty,pos,after,g⟩ (.rd Ac (decide (a<=b))):=De O hy (by simp only[D5,Option.some.injEq,Value.bool.injEq,decide_eq_decide]; simp[UInt64.lt_iff_toNat_lt,UInt64.le_iff_toNat_le])
theorem U.gtr {x y:Operand} {T T':TypeId} {a b:UInt64} (O:opE l x=some (.rd Ar a)) (hy:opE l y=some (.rd Ar b)):Run C P Γ l res ⟨some d,.binOp .gtr T x y T',ty,pos,after,g⟩ (.rd Ac (decide (b<a))):=De O hy (by simp only[D5,Option.some.injEq,Value.bool.injEq,decide_eq_decide]; simp[UInt64.lt_iff_toNat_lt,UInt64.le_iff_toNat_le])
theorem U.geq {x y:Operand} {T T':TypeId} {a b:UInt64} (O:opE l x=some (.rd Ar a)) (hy:opE l y=some (.rd Ar b)):Run C P Γ l res ⟨some d,.binOp .geq T x y T',ty,pos,after,g⟩ (.rd Ac (decide (b<=a))):=De O hy (by simp only[D5,Option.some.injEq,Value.bool.injEq,decide_eq_decide]; simp[UInt64.lt_iff_toNat_lt,UInt64.le_iff_toNat_le])
theorem U.eql {x y:Operand} {T T':TypeId} {a b:UInt64} (O:opE l x=some (.rd Ar a)) (hy:opE l y=some (.rd Ar b)):Run C P Γ l res ⟨some d,.binOp .eql T x y T',ty,pos,after,g⟩ (.rd Ac (a==b)):=De O hy (by simp only[D5,S8])
theorem U.neq {x y:Operand} {T T':TypeId} {a b:UInt64} (O:opE l x=some (.rd Ar a)) (hy:opE l y=some (.rd Ar b)):Run C P Γ l res ⟨some d,.binOp .neq T x y T',ty,pos,after,g⟩ (.rd Ac (a != b)):=De O hy (by simp only[D5,bne,S8])
theorem U.quo {x y:Operand} {T T':TypeId} {a b:UInt64} (O:opE l x=some (.rd Ar a)) (hy:opE l y=some (.rd Ar b)) (h0:b≠0):Run C P Γ l res ⟨some d,.binOp .quo T x y T',ty,pos,after,g⟩ (.rd Ar (a / b)):=quoL O hy (λe=>h0 (by rw[<- UInt64.toNat_inj]; simpa using e)) (by
 have h1:=UInt64.toNat_lt a;have h2:a.toNat / b.toNat<=a.toNat:=Nat.div_le_self _ _;rw[UInt64.toNat_div,Int.tdiv_eq_ediv_of_nonneg (by omega)];simp only[IntKind.wrap,IntKind.signed,IntKind.bits];simp only[Bool.false_and,Bool.false_eq_true,if_false]
 rw[<- Int.natCast_ediv]; generalize a.toNat / b.toNat=q at *; omega)
theorem U.rem {x y:Operand} {T T':TypeId} {a b:UInt64} (O:opE l x=some (.rd Ar a)) (hy:opE l y=some (.rd Ar b)) (h0:b≠0):Run C P Γ l res ⟨some d,.binOp .rem T x y T',ty,pos,after,g⟩ (.rd Ar (a % b)):=remL O hy (λe=>h0 (by rw[<- UInt64.toNat_inj]; simpa using e)) (by
 rw[UInt64.toNat_mod,Int.tmod_eq_emod_of_nonneg (by omega)]; omega)
theorem U.and {x y:Operand} {T T':TypeId} {a b:UInt64} (O:opE l x=some (.rd Ar a)) (hy:opE l y=some (.rd Ar b)):Run C P Γ l res ⟨some d,.binOp .and T x y T',ty,pos,after,g⟩ (.rd Ar (a &&& b)):=FG (γ:=Unit) O hy rfl (XA a b)
theorem U.or {x y:Operand} {T T':TypeId} {a b:UInt64} (O:opE l x=some (.rd Ar a)) (hy:opE l y=some (.rd Ar b)):Run C P Γ l res ⟨some d,.binOp .or T x y T',ty,pos,after,g⟩ (.rd Ar (a ||| b)):=FG (γ:=Unit) O hy rfl (XB a b)
theorem U.xor {x y:Operand} {T T':TypeId} {a b:UInt64} (O:opE l x=some (.rd Ar a)) (hy:opE l y=some (.rd Ar b)):Run C P Γ l res ⟨some d,.binOp .xor T x y T',ty,pos,after,g⟩ (.rd Ar (a ^^^ b)):=FG (γ:=Unit) O hy rfl (XC a b)
def FI (a:UInt64) (n:Nat):UInt64:=UInt64.ofNat (a.toNat * 2 ^ (min n 64))
def Ce (a:UInt64) (n:Nat):UInt64:=UInt64.ofNat (a.toNat / 2 ^ (min n 64))
theorem U.shl {β:Type} {k':IntKind} {O:β->Int} {x y:Operand} {T T':TypeId} {a:UInt64} {b:β} (hx:opE l x=some (.rd Ar a)) (hy:opE l y=some (.rd (Bn k' O) b)) (h0:0<=O b):Run C P Γ l res ⟨some d,.binOp .shl T x y T',ty,pos,after,g⟩ (.rd Ar (FI a (O b).toNat)):=shlL hx hy h0 (by
 unfold FI; simp only[IntKind.wrap,IntKind.signed,IntKind.bits]; simp)
theorem U.shr {β:Type} {k':IntKind} {O:β->Int} {x y:Operand} {T T':TypeId} {a:UInt64} {b:β} (hx:opE l x=some (.rd Ar a)) (hy:opE l y=some (.rd (Bn k' O) b)) (h0:0<=O b):Run C P Γ l res ⟨some d,.binOp .shr T x y T',ty,pos,after,g⟩ (.rd Ar (Ce a (O b).toNat)):=shrL hx hy h0 (by
 unfold Ce; simp only[IntKind.bits];have h1:=UInt64.toNat_lt a;have h2:a.toNat / 2 ^ (min (O b).toNat 64)<=a.toNat:=Nat.div_le_self _ _;have h3:∀ q:Nat,q<=a.toNat->(UInt64.ofNat q).toNat=q:=λq hq=>by simp; omega
 rw[h3 _ h2,Int.fdiv_eq_ediv_of_nonneg _ (Int.le_of_lt (Int.pow_pos (by decide)))]; simp)
theorem U.toI {x:Operand} {S T:TypeId} {ds:TypeDesc} {a:UInt64} (O:opE l x=some (.rd Ar a)) (hS:P.underlying S=some ds) (hT:P.underlying T=some (.int .i64)):Run C P Γ l res ⟨some d,.convert S T x,ty,pos,after,g⟩ (.rd A3 (w64 (a.toNat:Int))):=Fl hS hT O rfl
theorem I.toU {x:Operand} {S T:TypeId} {ds:TypeDesc} {a:Int} (O:opE l x=some (.rd A3 a)) (hS:P.underlying S=some ds) (hT:P.underlying T=some (.int .u64)):Run C P Γ l res ⟨some d,.convert S T x,ty,pos,after,g⟩ (.rd Ar (UInt64.ofInt a)):=Fl hS hT O (XD a)
theorem U.toB {x:Operand} {S T:TypeId} {ds:TypeDesc} {a:UInt64} (O:opE l x=some (.rd Ar a)) (hS:P.underlying S=some ds) (hT:P.underlying T=some (.int .u8)):Run C P Γ l res ⟨some d,.convert S T x,ty,pos,after,g⟩ (.rd u8R (a.toUInt8)):=Fl hS hT O (by simp only[IntKind.wrap,IntKind.signed,IntKind.bits]; simp)
theorem U.toW {x:Operand} {S T:TypeId} {ds:TypeDesc} {a:UInt64} (O:opE l x=some (.rd Ar a)) (hS:P.underlying S=some ds) (hT:P.underlying T=some (.int .u32)):Run C P Γ l res ⟨some d,.convert S T x,ty,pos,after,g⟩ (.rd A9 (a.toUInt32)):=Fl hS hT O (by simp only[IntKind.wrap,IntKind.signed,IntKind.bits]; simp)
end
end
section
def AK {α β:Type} (R:Rep β) (x:β) (off:Nat) (T:Rep α) (y:α) (set:α->β):Prop :=
 ∀ S w cs,R.rel S w cs x->∃ a c d,cs=a++c++d/\a.length=off/\T.rel S w c y/\∀ S' w' c' y',Br S S' w w'->T.rel S' w' c' y'->R.rel S' w' (a++c'++d) (set y')
theorem AK.fst {α β:Type} {R:Rep α} {T:Rep β} {x:α × β}:AK (BT R T) x 0 R x.1 (λy=>(y,x.2)):=λS w cs h=>by
 obtain⟨c,d,rfl,O,U⟩:=h;exact⟨[],c,d, by simp,rfl,O, λS' w' c' y' k h'=>⟨c',d, by simp,h',T.mono k U⟩⟩
theorem AK.snd {α β γ:Type} {R:Rep α} {T:Rep β} {x:α × β} {off:Nat} {U:Rep γ} {y:γ} {set:γ->β} (p:AK T x.2 off U y set):AK (BT R T) x (R.sz+off) U y (λy=>(x.1,set y)):=λS w cs h=>by
 obtain⟨c,d,rfl,O,h2⟩:=h;obtain⟨a,c1,d1,rfl,ha,hc,hs⟩:=p S w d h2;exact⟨c++a,c1,d1, by simp, by simp[R.len O,ha],hc, λS' w' c' y' k h'=>⟨c,a++c'++d1, by simp,R.mono k O,hs S' w' c' y' k h'⟩⟩
theorem AK.via {α β γ:Type} {R:Rep α} {g:β->α} {x:β} {off:Nat} {U:Rep γ} {y:γ} {set:γ->α} {set':γ->β} (p:AK R (g x) off U y set) (e:∀ y,g (set' y)=set y):AK (CH g R) x off U y set':=λS w cs h=>by
 obtain⟨a,c1,O,h1,ha,hc,hs⟩:=p S w cs h;exact⟨a,c1,O,h1,ha,hc, λS' w' c' y' k h'=>by show R.rel S' w' _ (g (set' y')); rw[e]; exact hs S' w' c' y' k h'⟩
def idx {α:Type} (l:List α) (i:Int):Option α:=if 0<=i then l[i.toNat]? else none
theorem Dt {α:Type} {l:List α} {i:Int} {x:α} (h:idx l i=some x):0<=i/\l[i.toNat]? = some x/\i.toNat<l.length:=by
 unfold idx at h
 split at h
 ·exact⟨‹_›,h,(List.getElem?_eq_some_iff.1 h).1⟩
 ·cases h
def B8 {α:Type} {n:Nat} (v:Vector α n) (i:Int):Option α:=idx v.toList i
theorem Lk {α:Type} {n:Nat} {v:Vector α n} {i:Int} {x:α} (h:B8 v i=some x):0<=i/\i.toNat<n:=by
 obtain⟨U,_,O⟩:=Dt h; simp at O; exact⟨U,O⟩
def CB {α:Type} {n:Nat} (v:Vector α n) (i:Int) (x:α):Vector α n:=v.setIfInBounds i.toNat x
theorem AK.el {α:Type} {n:Nat} {R:Rep α} {v:Vector α n} {i:Int} {x:α} (h:B8 v i=some x):AK (Az n R) v (i.toNat * R.sz) R x (λy=>CB v i y):=λS w cs O=>by
 obtain⟨-,U,-⟩:=Dt h;obtain⟨a,c,d,h3,h4,h5,h6⟩:=B5.split (show B5 R S w cs v.toList from O) U;refine⟨a,c,d,h3,h4,h5, λS' w' c' y' k h'=>?_⟩
 have:=h6 c' y' S' w' k h'
 show B5 R S' w' _ (CB v i y').toList;unfold CB;rw[Vector.toList_setIfInBounds];exact this
def base:Value->Option Nat
 | .slice (some ⟨b,0,none⟩) _ _=>some b
 | .pointer (some ⟨b,0,none⟩)=>some b
 | _=>none
theorem Ll {v:Value} {b:Nat} (h:base v=some b):AS v=some b:=by
 unfold base at h
 split at h <;> simp_all [AS]
def A7 (v:Value) (k:Nat):Value:=match AS v with
 | some b=>.pointer (some ⟨b,k,none⟩)
 | none=>v
theorem IP {v:Value} {b k:Nat} (h:base v=some b):A7 v k=.pointer (some ⟨b,k,none⟩):=by unfold A7; rw[Ll h]
theorem IQ {b k:Nat}:A7 (.pointer (some ⟨b,0,none⟩)) k=.pointer (some ⟨b,k,none⟩):=rfl
def Foc {α:Type} (c:AO) (k:Nat) (R:Rep α) (x:α) (upd:α->AO):Prop :=
 (∀ S w v,¬ c.nil S w v)/\∀ S w v o,c.rel S w v o->∃ b C T a cs d,base v=some b/\o=.cells C T (0,0)/\C.toList=a++cs++d/\a.length=k/\R.rel S w cs x /\
  ∀ S' w' cs' x',Br S S' w w'->R.rel S' w' cs' x'->(upd x').rel S' w' v (.cells (a++cs'++d).toArray T (0,0))
theorem Foc.part {α β:Type} {c:AO} {k:Nat} {R:Rep α} {x:α} {upd:α->AO} {T:Rep β} {y:β} {off:Nat} {set:β->α} (f:Foc c k R x upd) (p:AK R x off T y set):Foc c (k+off) T y (λy=>upd (set y)):=⟨f.1, λS w v o h=>by
 obtain⟨b,C,Ty,a,cs,d,h1,h2,h3,h4,h5,h6⟩:=f.2 S w v o h;obtain⟨a2,c2,d2,rfl,O,U,a1⟩:=p S w cs h5;refine⟨b,C,Ty,a++a2,c2,d2++d,h1,h2, by simp[h3], by simp[h4,O],U, λS' w' cs' x' kk h'=>?_⟩
 have:=h6 S' w' _ _ kk (a1 S' w' cs' x' kk h')
 simpa using this⟩
theorem Foc.el {α:Type} {R:Rep α} {T:TypeId} {l:List α} {i:Int} {x:α} (h:idx l i=some x):Foc (.list R T l) (i.toNat * R.sz) R x (λy=>.list R T (l.set i.toNat y)):=⟨λS w v hv=>by rw[hv.2] at h; simp[idx] at h, λS w v o hr=>by
 obtain⟨h0,h2,a6⟩:=Dt h;obtain⟨b,cap,C,rfl,rfl,h3,h4,h5,h6⟩:=hr;obtain⟨a,c,d,h7,h8,h9,a1⟩:=h6.split h2;refine⟨b,C,T,a,c,d++C.toList.drop (l.length * R.sz),rfl,rfl,?_,h8,h9, λS' w' cs' x' k h'=>?_⟩
 ·rw[<- List.append_assoc,<- h7,List.take_append_drop]
 ·have U:=a1 cs' x' S' w' k h';have O:(a++cs'++d).length=l.length * R.sz:=by have:=U.len; simpa using this
  refine⟨b,cap,_, by rw[List.length_set],rfl, by simpa using h3,h4,?_,?_⟩
  ·have a2:C.toList.length=cap * R.sz:=by simpa using h5
   have a7:l.length * R.sz<=cap * R.sz:=Nat.mul_le_mul_right _ h3;rw[<- List.append_assoc];simp only[List.size_toArray,List.length_append,List.length_drop,a2] at O ⊢;omega
  ·rw[List.length_set,<- List.append_assoc];show B5 R S' w' (List.take (l.length * R.sz) (a++cs'++d++_)) _;rw[<- O,List.take_left']
   ·exact U
   ·rfl⟩
theorem DH (v:Value) (vs:List Value):Bo (v::vs)=v.cells.toList++Bo vs:=rfl
theorem Foc.here {α:Type} {R:Rep α} {T:TypeId} {x:α} {es:List Ent}:Foc (.box T (.rd R x::es)) 0 R x (λy=>.box T (.rd R y::es)):=⟨λ_ _ v h=>h, λS w v o U=>by
 obtain⟨b,vs,rfl,rfl,h⟩:=U
 match vs,h with
 | u::vs,⟨⟨cs,O,h2⟩,h3⟩ =>
  subst h2;refine⟨b,_,T,[],cs,Bo vs,rfl,rfl, by simp[DH,Rep.val_cells O],rfl,O, λS' w' cs' x' k h'=>?_⟩
  exact⟨b,R.val cs'::vs,rfl, by simp[DH,Rep.val_cells h'],⟨cs',h',rfl⟩,h3.mono k⟩⟩
def Ent.fills (e:Ent) (n:Nat):Prop:=∀ S w v,e.holds S w v->v.cells.size=n
theorem Bj {α:Type} {R:Rep α} {x:α}:(Ent.rd R x).fills R.sz:=λS w v h=>by
 obtain⟨cs,O,rfl⟩:=h;rw[<- Array.length_toList,Rep.val_cells O,R.len O]
theorem BG {u:Value}:(Ent.val u).fills 1:=λS w v h=>by
 obtain⟨rfl,h⟩:=h;rw[HF h]; rfl
theorem Foc.next {α:Type} {e:Ent} {R:Rep α} {T:TypeId} {x:α} {es:List Ent} {n k:Nat} {upd:α->List Ent} (h:e.fills n) (f:Foc (.box T es) k R x (λy=>.box T (upd y))):Foc (.box T (e::es)) (n+k) R x (λy=>.box T (e::upd y)):=⟨λ_ _ v h=>h, λS w v o hr=>by
 obtain⟨b,vs,rfl,rfl,hh⟩:=hr
 match vs,hh with
 | u::vs,⟨h1,h3⟩ =>
  obtain⟨b',C,T',a,cs,d,k1,k2,k3,k4,k5,k6⟩:=f.2 S w (.pointer (some ⟨b,0,none⟩)) (.cells (Bo vs).toArray T (0,0)) ⟨b,vs,rfl,rfl,h3⟩
  cases k1
  simp only[Obj.cells.injEq,and_true] at k2;obtain⟨rfl,rfl⟩:=k2;have k3:Bo vs=a++cs++d:=k3;have hu:u.cells.toList.length=n:=by have:=h S w u h1; simpa using this
  refine⟨b,_,T,u.cells.toList++a,cs,d,rfl,rfl, by simp[DH,k3], by simp[hu,k4],k5, λS' w' cs' x' k h'=>?_⟩;obtain⟨b2,U,e1,O,e3⟩:=k6 S' w' cs' x' k h'
  cases e1
  simp only[Obj.cells.injEq,and_true] at O;have O:a++cs'++d=Bo U:=congrArg Array.toList O
  exact⟨b,u::U,rfl, by simp[DH,<- O],e.mono k h1,e3⟩⟩
section
variable {C:World->World->Prop} {ρ:Type} {P:Program} {Γ:Ctx} {l:AR} {res:Res} {m:Option ρ} {os rest:List Oper} {N:ρ->Exit->Act->World->Prop}
 {d:Tmp} {ty:TypeId} {pos:String} {after:Array Edge} {g:Option (Nat × Bool)}
theorem C0 {r r':Nat} {x:Option (Value × AO)}:lr ((r,x)::res) r'=if r=r' then x else lr res r':=by
 unfold lr; rw[Cn]; split <;> rfl
theorem Sta.upd {a:Act} {w w':World} (h:Sta Γ l res a w) (r:Nat) {v:Value} {c:AO} {wr:Option Nat} (hg:w.grownBy w' wr)
  (a6:∀ b,wr=some b->∃ v0 c0,lr res r=some (v0,c0)/\AS v0=some b)
  (hv:∀ b,AS v=some b->(∃ v0 c0,lr res r=some (v0,c0)/\AS v0=some b)\/w.heap.size<=b)
  (hc:∀ S',Br (Shr Γ.H res w) S' w w'->c.holds S' w' v):Sta Γ l ((r,some (v,c))::res) a w'/\Br (Shr Γ.H res w) (Shr Γ.H ((r,some (v,c))::res) w') w w':=by
 have a7:∀ b,b<w.heap.size->wr≠some b->w'.heap[b]? = w.heap[b]? := λb hb hn=>hg.block b hb (λe=>hn e.symm);have a2:Br (Shr Γ.H res w) (Shr Γ.H ((r,some (v,c))::res) w') w w':=λb hb=>by
  refine⟨⟨Nat.lt_of_lt_of_le hb.1 hg.size, λr' v' c' O=>?_,hb.2.2⟩,a7 b hb.1 (λe=>?_)⟩
  ·rw[C0] at O
   split at O
   ·cases O
    intro e;rcases hv b e with ⟨v0,c0,U,h2⟩ | U
    ·exact hb.2.1 r v0 c0 U h2
    ·have:=hb.1; omega
   ·exact hb.2.1 r' v' c' O
  ·obtain⟨v0,c0,U,h2⟩:=a6 b e;exact hb.2.1 r v0 c0 U h2
 have hother:∀ r' v' c',r≠r'->lr res r'=some (v',c')->∀ b,AS v'=some b->w'.heap[b]? = w.heap[b]? := λr' v' c' a1 O b hb=>by
  refine a7 b ((h.conts r' v' c' O).lt hb) (λe=>?_);obtain⟨v0,c0,U,h2⟩:=a6 b e;exact h.excl r v0 c0 r' v' c' U O a1 b h2 hb
 have a8:∀ r' v' c',r≠r'->lr res r'=some (v',c')->∀ b,AS v=some b->AS v'≠some b:=λr' v' c' a1 O b hb e=>by
  rcases hv b hb with ⟨v0,c0,U,h2⟩ | U
  ·exact h.excl r v0 c0 r' v' c' U O a1 b h2 e
  ·have:=(h.conts r' v' c' O).lt e; omega
 refine⟨⟨h.size,h.defers, λt e ht=>?_, λr' v' c' O=>?_, λr1 v1 c1 r2 v2 c2 U h2 a1 b hb=>?_, λr' v' c' O b hb=>?_,?_,h.old,?_⟩,a2⟩
 ·obtain⟨u,U,h2⟩:=h.slots t e ht;exact⟨u,U,e.mono a2 h2⟩
 ·rw[C0] at O
  split at O
  ·cases O; exact hc _ a2
  ·rename_i a1;exact(h.conts r' v' c' O).mono a2 (hother r' v' c' a1 O)
 ·rw[C0] at U h2
  split at U
  ·rename_i he; subst he; cases U
   rw[if_neg a1] at h2;exact a8 r2 v2 c2 a1 h2 b hb
  ·rename_i aa
   split at h2
   ·rename_i he; subst he; cases h2
    exact λe=>a8 r1 v1 c1 aa U b e hb
   ·exact h.excl r1 v1 c1 r2 v2 c2 U h2 a1 b hb
 ·rw[C0] at O
  split at O
  ·cases O
   rcases hv b hb with ⟨v0,c0,U,h2⟩ | U
   ·exact h.own r v0 c0 U b h2
   ·intro hK; have:=h.old_lt hK; omega
  ·exact h.own r' v' c' O b hb
 ·exact h.keep.gr hg (λb hK=>⟨h.old_lt hK, λe=>by
   obtain⟨v0,c0,U,h2⟩:=a6 b e
   exact h.own r v0 c0 U b h2 hK⟩)
 ·exact h.hid
def FJ (z:Value) (es:List Ent):Prop:=∀ S w,∃ vs,Bo vs=z.cells.toList/\C5 S w es vs
theorem FJ.rd {α:Type} {R:Rep α} {x:α} {z:Value} (h:∀ S w,R.rel S w z.cells.toList x):FJ z [.rd R x]:=λS w =>
 ⟨[R.val z.cells.toList], by simp[Bo,Rep.val_cells (h S w)],⟨_,h S w,rfl⟩,trivial⟩
theorem S9 {w:World} {C:Array Value} {T:TypeId} {es:List Ent} {vs:List Value} (hC:C=(Bo vs).toArray) {S S':Blk} (h:C5 S w es vs) (k:Br S S' w (w.alloc (.cells C T))) :
  (AO.box T es).holds S' (w.alloc (.cells C T)) (.pointer (some ⟨w.heap.size,0,none⟩)) :=
 .inr ⟨w.heap.size,_,rfl,heap_alloc_new _ _,w.heap.size,vs,rfl, by rw[hC],h.mono k⟩
theorem Fm (w:World) (o:Obj):w.grownBy (w.alloc o) none:=(Ext.al w o).gb
def Grew (res:Res) (r:Nat) (w w':World):Prop:=∃ wr:Option Nat,w.grownBy w' wr/\∀ b,wr=some b->∃ v0 c0,lr res r=some (v0,c0)/\AS v0=some b
def Eff (P:Program) (Γ:Ctx) (l:AR) (res:Res) (o:Oper) (r:Nat) (x:Value->Value × AO):Prop:=∀ a w,Sta Γ l res a w ->
 ∃ w' u,(execOp a.eval o).run P w=.ok (.value u) w'/\(Sta Γ l ((r,some (x u))::res) a w'/\Br (Shr Γ.H res w) (Shr Γ.H ((r,some (x u))::res) w') w w')/\u.oneCell'=true/\Grew res r w w'
def EffS (P:Program) (Γ:Ctx) (l:AR) (res:Res) (o:Oper) (r:Nat) (x:Value × AO):Prop:=∀ a w,Sta Γ l res a w ->
 ∃ w',(execOp a.eval o).run P w=.ok .skip w'/\(Sta Γ l ((r,some x)::res) a w'/\Br (Shr Γ.H res w) (Shr Γ.H ((r,some x)::res) w') w w')/\Grew res r w w'
theorem Ef {r:Nat} {op:Op} {x:Value->Value × AO} (O:Nat.blt d Γ.n=true) (U:Eff P Γ l res ⟨some d,op,ty,pos,after,none⟩ r x)
  (k:∀ u,GL P os (Sta Γ ((d,.val u)::l) ((r,some (x u))::res)) rest N m):GL P os (Sta Γ l res) (⟨some d,op,ty,pos,after,none⟩::rest) N m:=λa w ha ρ hm=>by
 obtain⟨w',u,h1,⟨h2,_⟩,h3,_⟩:=U a w ha;exact st (Ds rfl) h1 (k u _ _ (h2.put O ⟨rfl,h3⟩) ρ hm)
theorem Es {r:Nat} {op:Op} {x:Value × AO} (O:EffS P Γ l res ⟨none,op,ty,pos,after,none⟩ r x)
  (k:GL P os (Sta Γ l ((r,some x)::res)) rest N m):GL P os (Sta Γ l res) (⟨none,op,ty,pos,after,none⟩::rest) N m:=λa w U ρ hm=>by
 obtain⟨w',h1,⟨h2,_⟩,_⟩:=O a w U;exact st0 (Ds rfl) h1 rfl (k a w' h2 ρ hm)
theorem AN (r:Nat) {T:TypeId} {z:Value} {sz by_:Nat} {es:List Ent} (hT:TI P T z sz by_) (U:FJ z es):Eff P Γ l res ⟨some d,.alloc T,ty,pos,after,g⟩ r (λv=>(v,.box T es)):=λa w ha=>by
 have O:(execOp a.eval ⟨some d,.alloc T,ty,pos,after,g⟩).run P w=.ok (.value (.pointer (some ⟨w.heap.size,0,none⟩))) (w.alloc (.cells z.cells T)):=by
  simp[execOp,Instr.alloc,FF hT,newVar,newRow]
 obtain⟨vs,h1,h2⟩:=U (Shr Γ.H res w) w
 exact⟨_,_,O,ha.upd r (c:=.box T es) (Fm w (.cells z.cells T)) (by simp) (λb hb=>.inr (by simp[AS] at hb; omega)) (v:=.pointer (some ⟨w.heap.size,0,none⟩))
  (λS' k'=>S9 (by rw[h1]) h2 k'),rfl,none,Fm w _, by simp⟩
theorem bx (r:Nat) {T:TypeId} {x:Operand} {e:Ent} (hx:opE l x=some e):Eff P Γ l res ⟨some d,.box T x,ty,pos,after,g⟩ r (λv=>(v,.box T [e])):=λa w U=>by
 have O:(execOp a.eval ⟨some d,.box T x,ty,pos,after,g⟩).run P w=.ok (.value (.pointer (some ⟨w.heap.size,0,none⟩))) (w.alloc (.cells (a.eval x).cells T)):=by
  simp[execOp,Instr.box,newVar,newRow]
 exact⟨_,_,O,U.upd r (c:=.box T [e]) (Fm w (.cells (a.eval x).cells T)) (by simp) (λb hb=>.inr (by simp[AS] at hb; omega)) (v:=.pointer (some ⟨w.heap.size,0,none⟩))
  (λS' k'=>S9 (vs:=[a.eval x]) (by simp[Bo]) ⟨U.vl hx,trivial⟩ k'),rfl,none,Fm w _, by simp⟩
theorem Lm {w:World} {es:List Ent} {T:TypeId} {S:Blk} {v:Value} (h:(AO.box T es).holds S w v):A7 v 0=v:=by
 rcases h with h | ⟨b,o,_,_,b',vs,rfl,_⟩
 ·exact h.elim
 ·rfl
def BN (P:Program) (t:TypeId) (agg:Bool) (sz:Nat):Prop:=if agg then Ag P t/\∃ z by_,TI P t z sz by_ else Sc P t
theorem Bx.load {w:World} {b:Nat} {C:Array Value} {T:TypeId} {t:TypeId} {α:Type} {R:Rep α} {x:α} {S:Blk} {a cs dd:List Value} (hb:w.heap[b]? = some (.cells C T (0,0))) (hC:C.toList=a++cs++dd) (hr:R.rel S w cs x) (hT:BN P t R.agg R.sz) :
  (loadVar t ⟨b,a.length,none⟩).run P w=.ok (R.val cs) w:=by
 have hB:Bx w b C T:=hb;unfold BN at hT;unfold Rep.val;have O:∀ j u,cs[j]? = some u->w.cell? ((⟨b,a.length,none⟩:Addr).add j)=some u:=hB.cells (by rw[hC]; simp)
 cases ha:R.agg with
 | true =>
  rw[ha,if_pos rfl] at hT;obtain⟨U,z,by_,h2⟩:=hT;exact Oq U h2 (R.len hr) O
 | false =>
  rw[ha,if_neg (by simp)] at hT;have U:=R.len hr;rw[R.scal ha] at U
  match cs,U with
  | [u],_ =>
   have:=O 0 u rfl
   exact Ld hT (by simpa [Addr.add] using this)
theorem ld {ws:List Nat} [LC C res ws] {α:Type} {R:Rep α} {x':α} {upd:α->AO} {t:TypeId} {x:Operand} {v:Value} {c:AO} {k:Nat} (r:Nat) (hx:opE l x=some (.val (A7 v k))) (hr:lr res r=some (v,c)) (hf:Foc c k R x' upd) (hT:BN P t R.agg R.sz) (hw:ws.contains r=false) :
  Run C P Γ l res ⟨some d,.load t x,ty,pos,after,g⟩ (.rd R x'):=λa w ha=>by
 have h1:=(ha.vl hx).1;rcases ha.conts r v c hr with O | ⟨b,o,O,h3,h4⟩
 ·exact(hf.1 _ _ v O).elim
 ·obtain⟨b',Cc,T,a',cs,dd,k1,rfl,k3,rfl,k5,-⟩:=hf.2 _ w v o h4;rw[IP k1] at h1;have e:b'=b:=by have:=Ll k1; rw[O] at this; cases this; rfl
  subst e;refine⟨R.val cs, λw' U=>?_,cs,k5,rfl⟩;have a1:w'.heap[b']? = some (.cells Cc T (0,0)):=(CW.at U ha hr O hw).trans h3
  have:=Bx.load (P:=P) a1 k3 (R.mono (CW.stay U) k5) hT
  simp[execOp,h1,Instr.loadAt,Instr.sureAddr,this]
def At (es:List Ent) (k:Nat) (e:Ent):Prop:=∃ pre post,es=pre++e::post/\∀ S w vs,C5 S w pre vs->(Bo vs).length=k
theorem At.here {e:Ent} {es:List Ent}:At (e::es) 0 e:=⟨[],es,rfl, λS w vs h=>by match vs,h with | [],_=>rfl⟩
theorem C5.app {S w}:∀ {pre post:List Ent} {vs},C5 S w (pre++post) vs->∃ us ts,vs=us++ts/\C5 S w pre us/\C5 S w post ts
 | [],post,vs,h=>⟨[],vs,rfl,trivial,h⟩
 | e::pre,post,v::vs,h=>by
  obtain⟨us,ts,rfl,O,U⟩:=C5.app h.2;exact⟨v::us,ts,rfl,⟨h.1,O⟩,U⟩
 | e::pre,post,[],h=>h.elim
theorem C5.mk {S w}:∀ {pre post:List Ent} {us ts},C5 S w pre us->C5 S w post ts->C5 S w (pre++post) (us++ts)
 | [],post,[],ts,_,h=>h
 | e::pre,post,u::us,ts,h,O=>⟨h.1,C5.mk h.2 O⟩
 | [],_,_::_,_,h,_=>h.elim
 | _::_,_,[],_,h,_=>h.elim
theorem ldV {ws:List Nat} [LC C res ws] {t T:TypeId} {x:Operand} {v u:Value} {es:List Ent} {k:Nat} (r:Nat) (hx:opE l x=some (.val (A7 v k))) (hr:lr res r=some (v,.box T es)) (hf:At es k (.val u)) (hT:Sc P t) (hw:ws.contains r=false) :
  Run C P Γ l res ⟨some d,.load t x,ty,pos,after,g⟩ (.val u):=λa w U=>by
 have h1:=(U.vl hx).1;rcases U.conts r v _ hr with O | ⟨b,o,O,h3,b',vs,rfl,rfl,h4⟩
 ·exact O.elim
 ·simp only[AS,Option.some.injEq] at O;subst O;obtain⟨pre,post,rfl,hk⟩:=hf;obtain⟨us,ts,rfl,h5,h6⟩:=h4.app
  match ts,h6 with
  | y::ts,⟨h7,h8⟩ =>
   obtain⟨rfl,h9⟩:=h7;have hl:=hk _ _ _ h5;rw[IQ] at h1;refine⟨y, λw' a1=>?_,rfl,h9⟩;have a2:Bx w' b' (Bo (us++y::ts)).toArray T:=(CW.at a1 U hr rfl hw).trans h3;have hc:w'.cell? ⟨b',k,none⟩=some y:=by
    rw[a2.cell];subst hl;simp[Bo,HF h9]
   exact Xr hT h1 hc
theorem ldR {ws:List Nat} [LC C res ws] {α:Type} {R:Rep α} {x':α} {t:TypeId} {x:Operand} (hx:opE l x=some (.rp R x')) (hT:BN P t R.agg R.sz) :
  Run C P Γ l res ⟨some d,.load t x,ty,pos,after,g⟩ (.rd R x'):=λa w ha=>by
 obtain⟨b,o,cs,h1,h2,h3,h4⟩:=ha.vl hx;refine⟨R.val cs, λw' a1=>?_,cs,h3,rfl⟩;have O:∀ j u,cs[j]? = some u->w'.cell? ((⟨b,o,none⟩:Addr).add j)=some u:=λj u hu=>by
  rw[CX]
  have:=h4 j u hu
  unfold World.cell? at this ⊢;rw[CW.shr a1 h2]; exact this
 have:(loadVar t ⟨b,o,none⟩).run P w'=.ok (R.val cs) w':=by
  unfold BN at hT;unfold Rep.val
  cases U:R.agg with
  | true =>
   rw[U,if_pos rfl] at hT;obtain⟨k1,z,by_,k2⟩:=hT;exact Oq k1 k2 (R.len h3) O
  | false =>
   rw[U,if_neg (by simp)] at hT;have k1:=R.len h3;rw[R.scal U] at k1
   match cs,k1 with
   | [u],_=>exact Ld hT (by simpa [Addr.add] using O 0 u rfl)
 simp[execOp,h1,Instr.loadAt,Instr.sureAddr,this]
theorem fa {S:TypeId} {x:Operand} {i:Nat} {v:Value} {k:Nat} {c:AO} {fs:Array Field} {fd:Field} {z:Value} {sz by_:Nat} (r:Nat) (hx:opE l x=some (.val (A7 v k))) (hr:lr res r=some (v,c)) (hc:∀ S w v o,c.rel S w v o->∃ b,base v=some b) (hn:∀ S w v,¬ c.nil S w v)
  (hS:P.underlying S=some (.struct fs)) (hi:fs[i]? = some fd) (hF:TI P fd.type z (sz+1) by_) :
  Run C P Γ l res ⟨some d,.fieldAddr S x i,ty,pos,after,g⟩ (.val (A7 v (k+fd.offset))):=λa w O=>by
 have U:=(O.vl hx).1;rcases O.conts r v c hr with h2 | ⟨b,o,h2,h3,h4⟩
 ·exact(hn _ _ v h2).elim
 ·obtain⟨b',h5⟩:=hc _ w v o h4;rw[IP h5] at U ⊢;exact⟨_, λw' _=>S4 hS hi hF U (CX _ _ _),rfl,rfl⟩
theorem XE {T:TypeId} {es:List Ent}:∀ S w v o,(AO.box T es).rel S w v o->∃ b,base v=some b:=λS w v o h=>by
 obtain⟨b,vs,rfl,_⟩:=h; exact⟨b,rfl⟩
theorem OB {α:Type} {R:Rep α} {T:TypeId} {l:List α}:∀ S w v o,(AO.list R T l).rel S w v o->∃ b,base v=some b:=λS w v o h=>by
 obtain⟨b,cap,C,rfl,_⟩:=h; exact⟨b,rfl⟩
theorem faB {S T:TypeId} {x:Operand} {i:Nat} {v:Value} {k:Nat} {es:List Ent} {fs:Array Field} {fd:Field} {z:Value} {sz by_:Nat} (r:Nat) (O:opE l x=some (.val (A7 v k))) (U:lr res r=some (v,.box T es))
  (hS:P.underlying S=some (.struct fs)) (hi:fs[i]? = some fd) (hF:TI P fd.type z (sz+1) by_) :
  Run C P Γ l res ⟨some d,.fieldAddr S x i,ty,pos,after,g⟩ (.val (A7 v (k+fd.offset))):=fa r O U XE (λ_ _ _ h=>h) hS hi hF
theorem AK.ptr {α β:Type} {R:Rep β} {x:β} {off:Nat} {T:Rep α} {y:α} {set:α->β} (p:AK R x off T y set) {S:Blk} {w:World} {v:Value} (h:(Ent.rp R x).holds S w v):∃ b o,v=.pointer (some ⟨b,o,none⟩)/\(Ent.rp T y).holds S w (.pointer (some ⟨b,o+off,none⟩)):=by
 obtain⟨b,o,cs,rfl,U,h3,h4⟩:=h;obtain⟨a,c,d,rfl,ha,hc,-⟩:=p S w cs h3;refine⟨b,o,rfl,b,o+off,c,rfl,U,hc, λj u O=>?_⟩
 have:=h4 (off+j) u (by
  rw[List.append_assoc,List.getElem?_append_right (by omega),List.getElem?_append_left]
  ·rw[ha,Nat.add_sub_cancel_left]; exact O
  ·have:=(List.getElem?_eq_some_iff.1 O).1; omega)
 rw[Nat.add_assoc]; exact this
theorem faR {α β:Type} {R:Rep β} {x':β} {off:Nat} {T:Rep α} {y:α} {set:α->β} {S:TypeId} {x:Operand} {i:Nat} {fs:Array Field} {fd:Field} {z:Value} {sz by_:Nat} (O:opE l x=some (.rp R x')) (p:AK R x' off T y set)
  (hS:P.underlying S=some (.struct fs)) (hi:fs[i]? = some fd) (U:fd.offset=off) (hF:TI P fd.type z (sz+1) by_) :
  Run C P Γ l res ⟨some d,.fieldAddr S x i,ty,pos,after,g⟩ (.rp T y):=λa w ha=>by
 obtain⟨b,o,h1,h2⟩:=p.ptr (ha.vl O);exact⟨_, λw' _=>S4 hS hi hF h1 (CX _ _ _), by rw[U]; exact h2⟩
theorem ixR {α β:Type} {R:Rep α} {b:List α} {y:α} {k:IntKind} {f:β->Int} {j:β} {x z':Operand} {T e:TypeId} {z:Value} {by_:Nat} (hx:opE l x=some (.rd (A8 R) b)) (hj:opE l z'=some (.rd (Bn k f) j)) (hy:idx b (f j)=some y) (hT:P.underlying T=some (.slice e)) (hE:TI P e z R.sz by_) (O:Nat.blt 0 R.sz=true) :
  Run C P Γ l res ⟨some d,.indexAddr T x z',ty,pos,after,g⟩ (.rp R y):=λa w ha=>by
 obtain⟨cs,⟨p,c,xs,h1,h2,h3,h4⟩,h5⟩:=ha.vl hx;subst h1;have O:0<R.sz:=Eq.mp Nat.blt_eq O;have h5:a.eval x=.slice p b.length c:=h5;obtain⟨k1,k2,k3⟩:=Dt hy;have a1:a.eval z'=.int k ((f j).toNat:Int):=by rw[Ci (ha.vl hj)]; congr 1; omega
 obtain⟨a',c',d',q1,q2,q3,-⟩:=h3.split k2;have U:xs≠[]:=λe0=>by have:=h3.len; rw[e0] at this; have h6:=Nat.mul_pos (show 0<b.length by omega) O; simp at this; omega
 rcases h2.2 with ⟨_,h0⟩ | ⟨b',o,sp,cap,hv,g1,g2,g4,g3⟩
 ·omega
 ·obtain rfl:=g4.resolve_left U;simp only[Value.slice.injEq,true_and] at hv;obtain⟨rfl,rfl⟩:=hv;refine⟨.pointer (some ⟨b',o+(f j).toNat * R.sz,none⟩), λw' _=>?_,b',o+(f j).toNat * R.sz,c',rfl,h4 U b' rfl,q3, λi u hu=>?_⟩
  ·generalize (f j).toNat=jn at *;simp[execOp,h5,a1,Instr.indexAt,asIntOf,run_underlying hT,k3,CY hE,CX]
  ·have hi:i<c'.length:=(List.getElem?_eq_some_iff.1 hu).1;rw[Nat.add_assoc];refine g3 _ u ?_;rw[q1,<- q2,List.append_assoc,List.getElem?_append_right (by omega),Nat.add_sub_cancel_left,List.getElem?_append_left hi]; exact hu
theorem ixO {α β:Type} {R:Rep α} {b:List α} {y:α} {k:IntKind} {f:β->Int} {j:β} {x z':Operand} {T e E:TypeId} {z v:Value} {by_:Nat} (r:Nat) (hx:opE l x=some (.val v)) (hr:lr res r=some (v,.list R E b)) (hj:opE l z'=some (.rd (Bn k f) j)) (hy:idx b (f j)=some y) (hT:P.underlying T=some (.slice e)) (hE:TI P e z R.sz by_) :
  Run C P Γ l res ⟨some d,.indexAddr T x z',ty,pos,after,g⟩ (.val (A7 v ((f j).toNat * R.sz))):=λa w O=>by
 have h1:=(O.vl hx).1;obtain⟨k1,k2,U⟩:=Dt hy;have a1:a.eval z'=.int k ((f j).toNat:Int):=by rw[Ci (O.vl hj)]; congr 1; omega
 rcases O.conts r v _ hr with ⟨_,h2⟩ | ⟨b',o,h2,h3,bb,cap,C',rfl,rfl,_⟩
 ·rw[h2] at U; simp at U
 ·refine⟨.pointer (some ⟨bb,(f j).toNat * R.sz,none⟩), λw' _=>?_,rfl,rfl⟩;generalize (f j).toNat=jn at *;simp[execOp,h1,a1,Instr.indexAt,asIntOf,run_underlying hT,U,CY hE,CX]
theorem ixB {α β:Type} {n:Nat} {b:Vector α n} {y:α} {k:IntKind} {f:β->Int} {j:β} {x z':Operand} {T e E:TypeId} {z v:Value} {by_ sz q:Nat} {es:List Ent} (r:Nat) (hx:opE l x=some (.val (A7 v q))) (hr:lr res r=some (v,.box E es)) (hj:opE l z'=some (.rd (Bn k f) j)) (hy:B8 b (f j)=some y) (hT:P.underlying T=some (.array n e)) (hE:TI P e z sz by_) :
  Run C P Γ l res ⟨some d,.indexAddr T x z',ty,pos,after,g⟩ (.val (A7 v (q+(f j).toNat * sz))):=λa w O=>by
 have U:=(O.vl hx).1;obtain⟨k1,k3⟩:=Lk hy;have a1:a.eval z'=.int k ((f j).toNat:Int):=by rw[Ci (O.vl hj)]; congr 1; omega
 rcases O.conts r v _ hr with h2 | ⟨b',o,h2,h3,bb,vs,rfl,rfl,_⟩
 ·exact h2.elim
 ·rw[IQ] at U ⊢;exact⟨_, λw' _=>Oz hT hE U a1 rfl k3 rfl,rfl,rfl⟩
end
end
section
section
variable {C:World->World->Prop} {ρ:Type} {P:Program} {Γ:Ctx} {l:AR} {res:Res} {m:Option ρ} {os rest:List Oper} {N:ρ->Exit->Act->World->Prop}
 {d:Tmp} {ty:TypeId} {pos:String} {after:Array Edge} {g:Option (Nat × Bool)}
theorem XF {v:Value} {b b':Nat} (h:AS v=some b) (k:base v=some b'):b'=b:=by
 have:=Ll k; rw[h] at this; cases this; rfl
theorem sto' {α:Type} {R:Rep α} {x' y':α} {upd:α->AO} {t:TypeId} {x y:Operand} {v z:Value} {by_ k:Nat} {c:AO} {a:Act} {w:World} (ha:Sta Γ l res a w) (r:Nat) (hx:opE l x=some (.val (A7 v k))) (hr:lr res r=some (v,c)) (hf:Foc c k R x' upd)
  (hy:opE l y=some (.rd R y')) (hS:TI P t z R.sz by_):∃ w',(execOp a.eval ⟨none,.store t x y,ty,pos,after,g⟩).run P w=.ok .skip w'/\(Sta Γ l ((r,some (v,upd y'))::res) a w'/\Br (Shr Γ.H res w) (Shr Γ.H ((r,some (v,upd y'))::res) w') w w')/\Grew res r w w':=by
 have h1:=(ha.vl hx).1;obtain⟨cs',O,a7⟩:=ha.vl hy;rcases ha.conts r v c hr with U | ⟨b,o,U,h3,h4⟩
 ·exact(hf.1 _ _ v U).elim
 ·obtain⟨b',C,T,a',cs,dd,k1,rfl,k3,rfl,k5,k6⟩:=hf.2 _ w v o h4;rw[IP k1] at h1;obtain rfl:=XF U k1;have hB:Bx w b' C T:=h3;have a2:cs'.length=cs.length:=by rw[R.len O,R.len k5]
  have a1:(R.val cs').cells.toList=cs':=Rep.val_cells O;have a8:spl C a'.length (R.val cs').cells.toList=(a'++cs'++dd).toArray:=by
   rw[a1]; unfold spl; rw[k3]; congr 1
   simp[a2]
  have a6:=Ot (P:=P) (w:=w) (b:=b') (o:=a'.length) (v:=R.val cs') hS (by rw[<- Array.length_toList,a1,R.len O]) (by rw[a1]; exact R.one O) hB (by
   have:C.toList.length=C.size:=by simp
   rw[k3] at this; simp[R.len k5] at this; omega)
  refine⟨w.setRow b' (a'++cs'++dd).toArray,?_,?_,some b',F5 b' _, λb hb=>⟨v,c,hr, by cases hb; exact U⟩⟩
  ·rw[<- a8];simp[execOp,h1,a7,Instr.storeAt,Instr.sureAddr,a6]
  ·refine ha.upd r (F5 b' _) (λb hb=>⟨v,c,hr, by cases hb; exact U⟩) (λb hb=>.inl ⟨v,c,hr,hb⟩) (λS' k'=>.inr ⟨b',_,U,setRow_heap w b' C _ T _ hB,?_⟩);exact k6 S' _ cs' y' k' (R.mono k' O)
theorem sto {α:Type} {R:Rep α} {x' y':α} {upd:α->AO} {t:TypeId} {x y:Operand} {v z:Value} {by_ k:Nat} {c:AO} (r:Nat) (O:opE l x=some (.val (A7 v k))) (U:lr res r=some (v,c)) (hf:Foc c k R x' upd)
  (hy:opE l y=some (.rd R y')) (hS:TI P t z R.sz by_):EffS P Γ l res ⟨none,.store t x y,ty,pos,after,g⟩ r (v,upd y'):=λa w ha=>sto' ha r O U hf hy hS
def Ent.ones (e:Ent):Prop:=∀ S w v,e.holds S w v->∀ u∈v.cells.toList,u.oneCell'=true
theorem D0 {α:Type} {R:Rep α} {x:α}:(Ent.rd R x).ones:=λS w v h=>by
 obtain⟨cs,O,rfl⟩:=h;rw[Rep.val_cells O]; exact R.one O
theorem Cx {u:Value}:(Ent.val u).ones:=λS w v h=>by
 obtain⟨rfl,h⟩:=h;rw[HF h]; simpa using h
def By (es:List Ent) (k n:Nat) (e:Ent) (es':List Ent):Prop:=∃ pre post e0,es=pre++e0::post/\es'=pre++e::post/\e0.fills n/\∀ S w vs,C5 S w pre vs->(Bo vs).length=k
theorem By.here {e e0:Ent} {es:List Ent} {n:Nat} (h:e0.fills n):By (e0::es) 0 n e (e::es):=⟨[],es,e0,rfl,rfl,h, λS w vs h=>by match vs,h with | [],_=>rfl⟩
theorem By.next {e e':Ent} {es es':List Ent} {n k k':Nat} (h:e'.fills k') (p:By es k n e es'):By (e'::es) (k'+k) n e (e'::es'):=by
 obtain⟨pre,post,e0,rfl,rfl,O,U⟩:=p;refine⟨e'::pre,post,e0,rfl,rfl,O, λS w vs hh=>?_⟩
 match vs,hh with
 | u::vs,⟨O,h2⟩ =>
  have h3:=h S w u O;rw[DH,List.length_append,U S w vs h2];simp[h3]
theorem Ln (us ts:List Value):Bo (us++ts)=Bo us++Bo ts:=by simp[Bo]
theorem XG {t T:TypeId} {x y:Operand} {v z:Value} {by_ k n:Nat} {es es':List Ent} {e:Ent} {a:Act} {w:World} (ha:Sta Γ l res a w) (r:Nat) (hx:opE l x=some (.val (A7 v k))) (hr:lr res r=some (v,.box T es)) (hf:By es k n e es')
  (hy:opE l y=some e) (h1e:e.ones) (hn:e.fills n) (hS:TI P t z n by_):∃ w',(execOp a.eval ⟨none,.store t x y,ty,pos,after,g⟩).run P w=.ok .skip w'/\(Sta Γ l ((r,some (v,.box T es'))::res) a w'/\Br (Shr Γ.H res w) (Shr Γ.H ((r,some (v,.box T es'))::res) w') w w')/\Grew res r w w':=by
 have h1:=(ha.vl hx).1;have O:=ha.vl hy;rcases ha.conts r v _ hr with h2 | ⟨b,o,h2,h3,b',vs,rfl,rfl,h4⟩
 ·exact h2.elim
 ·simp only[AS,Option.some.injEq] at h2;subst h2;obtain⟨pre,post,e0,rfl,rfl,a6,hk⟩:=hf;obtain⟨us,ts,rfl,h5,h6⟩:=h4.app
  match ts,h6 with
  | y0::ts,⟨h7,h8⟩ =>
   have hl:=hk _ _ _ h5;rw[IQ] at h1;have hB:Bx w b' (Bo (us++y0::ts)).toArray T:=h3;have a7:y0.cells.toList.length=n:=by have:=a6 _ _ _ h7; simpa using this
   have a1:(a.eval y).cells.size=n:=hn _ _ _ O
   have a2:=Ot (P:=P) (w:=w) (b:=b') (o:=k) (v:=a.eval y) hS a1 (h1e _ _ _ O) hB (by
    subst hl
    simp only[List.size_toArray,Ln,DH,List.length_append]; omega)
   have a8:spl (Bo (us++y0::ts)).toArray k (a.eval y).cells.toList=(Bo (us++a.eval y::ts)).toArray:=by
    subst hl;unfold spl; congr 1
    have:(a.eval y).cells.toList.length=n:=by simpa using a1
    simp only[Ln,DH,this]
    rw[show ∀ A B Cc:List Value,A.length+n=(A++B).length->List.drop (A.length+n) (A++(B++Cc))=Cc by
     intro A B Cc h; rw[h,<- List.append_assoc,List.drop_left']; rfl]
    ·simp
    ·simp[a7]
   refine⟨w.setRow b' (Bo (us++a.eval y::ts)).toArray,?_,?_,some b',F5 b' _, λb U=>⟨_,_,hr, by cases U; rfl⟩⟩
   ·rw[<- a8];simp[execOp,h1,Instr.storeAt,Instr.sureAddr,a2]
   ·refine ha.upd r (F5 b' _) (λb U=>⟨_,_,hr, by cases U; rfl⟩) (λb U=>.inl ⟨_,_,hr,U⟩) (λS' k'=>.inr ⟨b',_,rfl,setRow_heap w b' _ _ T _ hB,b',us++a.eval y::ts,rfl,rfl,?_⟩);exact(h5.mono k').mk ⟨e.mono k' O,h8.mono k'⟩
theorem DI {t T:TypeId} {x y:Operand} {v z:Value} {by_ k n:Nat} {es es':List Ent} {e:Ent} (r:Nat) (O:opE l x=some (.val (A7 v k))) (U:lr res r=some (v,.box T es)) (hf:By es k n e es')
  (hy:opE l y=some e) (h1e:e.ones) (hn:e.fills n) (hS:TI P t z n by_):EffS P Γ l res ⟨none,.store t x y,ty,pos,after,g⟩ r (v,.box T es'):=λa w ha=>XG ha r O U hf hy h1e hn hS
def Ent.vw {α:Type} (R:Rep α) (v:Value) (b x:List α):Ent:=⟨λ_ _ u=>(u=v/\x=b/\u.oneCell'=true)\/(u=.slice none 0 0/\x=[])\/∃ k o sp cap i,u=.slice (some ⟨k,o,sp⟩) x.length cap/\AS v=some k/\x.length<=cap/\cap<=maxLen/\(x≠[]->sp=none/\o=i * R.sz)/\(b.drop i).take x.length=x, λ_ h=>h⟩
def Ent.vp {α:Type} (R:Rep α) (v:Value) (b:List α) (y:α):Ent:=⟨λ_ _ u=>∃ k i,u=.pointer (some ⟨k,i * R.sz,none⟩)/\AS v=some k/\b[i]? = some y, λ_ h=>h⟩
inductive Vw {α:Type} (R:Rep α) (res:Res):Ent->List α->Prop
 | rd {b:List α}:Vw R res (.rd (A8 R) b) b
 | own {v:Value} {T:TypeId} {b:List α} (r:Nat) (h:lr res r=some (v,.list R T b)):Vw R res (.val v) b
 | nil:Vw R res (.val (.slice none 0 0)) []
 | vw {v:Value} {T:TypeId} {b x:List α} (r:Nat) (h:lr res r=some (v,.list R T b)):Vw R res (.vw R v b x) x
 | seg {v:Value} {T:TypeId} {b:List α} (r:Nat) (h:lr res r=some (v,.seg R T b)):Vw R res (.val v) b
theorem Vw.get {α:Type} {R:Rep α} {e:Ent} {b:List α} (h:Vw R res e b) {a:Act} {w:World} (ha:Sta Γ l res a w) {v:Value} (hv:e.holds (Shr Γ.H res w) w v) :
  ∃ p c xs,v=.slice p b.length c/\Rd w (.slice p b.length c) b.length R.sz xs/\B5 R (Shr Γ.H res w) w xs b:=by
 cases h with
 | rd =>
  obtain⟨cs,⟨p,c,xs,U,h2,h3,h4⟩,h5⟩:=hv;subst U;exact⟨p,c,xs,h5,h2,h3⟩
 | own r h =>
  obtain⟨rfl,-⟩:=hv;obtain⟨xs,U,h2⟩:=F6 (ha.conts r v _ h);obtain⟨p,c,rfl⟩:=E3 U;exact⟨p,c,xs,rfl,Rd.of_own U,h2⟩
 | nil =>
  obtain⟨rfl,-⟩:=hv;exact⟨none,0,[],rfl,Rd.nil _ _,rfl⟩
 | vw r h =>
  rename_i u T bl;rcases hv with ⟨rfl,rfl,-⟩ | ⟨rfl,rfl⟩ | ⟨k,o,sp,cap,i,rfl,hk,U,h2,h3,h4⟩
  ·obtain⟨xs,U,h2⟩:=F6 (ha.conts r _ _ h);obtain⟨p,c,rfl⟩:=E3 U;exact⟨p,c,xs,rfl,Rd.of_own U,h2⟩
  ·exact⟨none,0,[],rfl,Rd.nil _ _,rfl⟩
  ·rcases ha.conts r u _ h with ⟨q1,-⟩ | ⟨b',ob,g1,g2,bb,cp,Cc,rfl,rfl,g3,g4,g5,g6⟩
   ·rw[q1] at hk; cases hk
   ·simp only[AS,Option.some.injEq] at g1 hk;subst g1; subst hk;have hrel:=(g6.drop i).take b.length;rw[h4] at hrel;refine⟨_,cap,_,rfl,⟨hrel.len,.inr ⟨bb,o,sp,cap,rfl,U,h2,?_, λj w0 O=>?_⟩⟩,hrel⟩
    ·by_cases hx:b=[]
     ·left; rw[hx]; simp
     ·exact .inr (h3 hx).1
    ·have hx:b≠[]:=λe=>by rw[e] at O; simp at O
     obtain⟨-,rfl⟩:=h3 hx;rw[List.getElem?_take] at O
     split at O
     ·rw[List.getElem?_drop,List.getElem?_take] at O
      split at O
      ·unfold World.cell?;rw[g2]; simpa using O
      ·cases O
     ·cases O
 | seg r h =>
  obtain⟨rfl,-⟩:=hv;rcases ha.conts r v _ h with ⟨rfl,rfl⟩ | ⟨b',ob,g1,g2,bb,off,cap,C,rfl,rfl,g3,g4,g5,g6⟩
  ·exact⟨none,0,[],rfl,Rd.nil _ _,rfl⟩
  ·simp only[AS,Option.some.injEq] at g1;subst g1;refine⟨_,cap,_,rfl,⟨g6.len,.inr ⟨bb,off,none,cap,rfl,g3,g4,.inr rfl, λj w0 O=>?_⟩⟩,g6⟩;rw[List.getElem?_take] at O
   split at O
   ·unfold World.cell?;rw[g2,List.getElem?_drop] at *
    simpa using O
   ·cases O
theorem Aq {α:Type} {R:Rep α} {b:List α} {x:Operand} {T e:TypeId} {at_:Array TypeId} {E:Ent} (hx:opE l x=some E) (hv:Vw R res E b) (O:at_[0]? = some T) (hT:P.underlying T=some (.slice e)) :
  Run C P Γ l res ⟨some d,.call ⟨.builtin .len,#[x],at_⟩,ty,pos,after,g⟩ (.rd A3 (b.length:Int)):=λa w U=>by
 obtain⟨p,c,xs,h1,h2,h3⟩:=hv.get U (U.vl hx);exact⟨_, λw' _=>S3 O hT h1,DN⟩
def cut {α:Type} (b:List α) (i j:Int):Option (List α):=if 0<=i/\i<=j/\j<=b.length then some ((b.drop i.toNat).take (j.toNat - i.toNat)) else none
theorem Lo {α:Type} {b b':List α} {i j:Int} (h:cut b i j=some b'):0<=i/\i<=j/\j<=b.length/\(b.drop i.toNat).take (j.toNat - i.toNat)=b':=by
 unfold cut at h
 split at h
 ·rename_i hh; cases h; exact⟨hh.1,hh.2.1,hh.2.2,rfl⟩
 ·cases h
inductive Bnd (l:AR) (dflt:Int):Option Operand->Int->Prop
 | no:Bnd l dflt none dflt
 | to {α:Type} {k:IntKind} {f:α->Int} {x:Operand} {j:α} (h:opE l x=some (.rd (Bn k f) j)):Bnd l dflt (some x) (f j)
theorem Bnd.get {x:Option Operand} {dflt i:Int} (h:Bnd l dflt x i) {a:Act} {w:World} (O:Sta Γ l res a w):(x=none/\i=dflt)\/∃ y k,x=some y/\a.eval y=.int k i:=by
 cases h with
 | no=>exact .inl ⟨rfl,rfl⟩
 | to h=>exact .inr ⟨_,_,rfl,Ci (O.vl h)⟩
theorem Ge {isS:Bool} {n cp:Nat} {lo hi:Option Operand} {i j:Int} (U:Bnd l 0 lo i) (a1:Bnd l (n:Int) hi j) {a:Act} {w:World} (ha:Sta Γ l res a w) (h0:0<=i) (a6:i<=j) (hj:j<=n) (a2:n<=cp) (w':World) :
  (Instr.sliceBounds isS n cp (lo.map a.eval) (hi.map a.eval) none).run P w'=.ok (i.toNat,j.toNat,cp) w':=by
 obtain⟨i',rfl⟩:∃ i':Nat,i=(i':Int):=⟨i.toNat, by omega⟩
 obtain⟨j',rfl⟩:∃ j':Nat,j=(j':Int):=⟨j.toNat, by omega⟩
 have e1:¬ ((cp:Int)<(j':Int)):=by omega
 have h1:(j':Int)<=(cp:Int):=by omega
 have h2:j'<=cp:=by omega
 have h3:i'<=j':=by omega
 rcases U.get ha with ⟨rfl,a7⟩ | ⟨y,k,rfl,hy⟩ <;> rcases a1.get ha with ⟨rfl,a8⟩ | ⟨y',k',rfl,O⟩
 ·have:i'=0:=by omega
  have:j'=n:=by omega
  subst i' j';simp[Instr.sliceBounds]
 ·have:i'=0:=by omega
  subst i';simp[Instr.sliceBounds,O,Instr.sliceBound,asIntOf,h2]
 ·have:j'=n:=by omega
  subst j';simp[Instr.sliceBounds,hy,Instr.sliceBound,asIntOf,h3]
 ·simp[Instr.sliceBounds,hy,O,Instr.sliceBound,asIntOf,h2,h3]
theorem cut' {α:Type} {R:Rep α} {b b':List α} {x:Operand} {lo hi:Option Operand} {i j:Int} {T e:TypeId} {z:Value} {by_:Nat} (hx:opE l x=some (.rd (A8 R) b)) (a6:Bnd l 0 lo i) (a7:Bnd l (b.length:Int) hi j) (U:cut b i j=some b')
  (hT:P.underlying T=some (.slice e)) (hE:TI P e z R.sz by_):Run C P Γ l res ⟨some d,.slice T x lo hi none,ty,pos,after,g⟩ (.rd (A8 R) b'):=λa w ha=>by
 obtain⟨h1,h2,h3,rfl⟩:=Lo U;obtain⟨cs,⟨p,c,xs,k1,k2,k3,k4⟩,k5⟩:=ha.vl hx;subst k1;have k5:a.eval x=.slice p b.length c:=k5;have a1:b.length<=c:=by
  rcases k2.2 with ⟨hv,h0⟩ | ⟨_,o,sp,cap,hv,g1,_⟩
  ·omega
  ·simp only[Value.slice.injEq,true_and] at hv; omega
 have O:((b.drop i.toNat).take (j.toNat - i.toNat)).length=j.toNat - i.toNat:=by simp; omega
 have a2:=k2.sub rfl (i:=i.toNat) (j:=j.toNat) (by omega) (by omega);refine⟨.slice (if c=i.toNat then p else p.map (·.add (i.toNat * R.sz))) ((b.drop i.toNat).take (j.toNat - i.toNat)).length (c - i.toNat), λw' _=>?_,_,⟨_,_,_,rfl, by rw[O]; exact a2,?_, λa8 bb aa=>?_⟩,rfl⟩
 ·have U:=Ge (P:=P) (isS:=true) a6 a7 ha h1 h2 h3 a1 w';rw[O];simp only[execOp,Instr.sliceAt,k5,Sem.run_bind,run_underlying hT,Result.andThen,Instr.slice,U,CY hE,Sem.run_pure,Option.map_none]
 ·have:=(k3.drop i.toNat).take (j.toNat - i.toNat)
  exact this
 ·refine k4 (λe0=>a8 (by rw[e0]; simp)) bb ?_
  have h7:=QT (p:=p) (m:=b.length) (cp:=c) (i:=i.toNat) (j:=j.toNat - i.toNat) (k:=c - i.toNat) (sz:=R.sz);rw[Gc,Gc] at h7;rw[<- h7]; exact aa
end
end
section
def Zr {α:Type} (R:Rep α) (cs:List Value) (x:α):Prop:=∀ S w,R.rel S w cs x
theorem Zr.num {α:Type} {k:IntKind} {f:α->Int} {x:α} {n:Int} (h:f x=n):Zr (Bn k f) [.int k n] x:=λ_ _=>by subst h; rfl
theorem Zr.bool {b:Bool}:Zr Ac [.bool b] b:=λ_ _=>rfl
theorem Zr.str:Zr BI [.string ByteArray.empty] []:=λ_ _=>⟨_,rfl,rfl⟩
theorem Zr.slice {α:Type} {R:Rep α}:Zr (A8 R) [.slice none 0 0] []:=λ_ w=>⟨none,0,[],rfl,Rd.nil _ _,rfl, by simp⟩
theorem Zr.unit:Zr Dc [] ():=λ_ _=>rfl
theorem Zr.prod {α β:Type} {R:Rep α} {T:Rep β} {c d cs:List Value} {x:α} {y:β} (h:Zr R c x) (k:Zr T d y) (e:c++d=cs):Zr (BT R T) cs (x,y):=λS w=>⟨c,d,e.symm,h S w,k S w⟩
theorem Zr.via {α β:Type} {R:Rep α} {g:β->α} {cs:List Value} {x:β} (h:Zr R cs (g x)):Zr (CH g R) cs x:=h
theorem Zr.rep {α:Type} {R:Rep α} {c:List Value} {x:α} (h:Zr R c x) (S:Blk) (w:World):∀ n,B5 R S w (List.replicate n c).flatten (List.replicate n x)
 | 0=>rfl
 | n+1=>⟨c,_, by simp[List.replicate_succ],h S w,Zr.rep h S w n⟩
theorem Zr.arr {α:Type} {R:Rep α} {c cs:List Value} {x:α} {n:Nat} (h:Zr R c x) (e:(List.replicate n c).flatten=cs):Zr (Az n R) cs (Vector.replicate n x):=λS w=>by
 subst e;show B5 R S w _ (Vector.replicate n x).toList;rw[Vector.toList_replicate]; exact h.rep S w n
def app {α:Type} (by_:Nat) (b c:List α):Option (List α):=if (b.length+c.length) * by_<=140737488355328 then some (b++c) else none
theorem Sa {α:Type} {by_:Nat} {b c d:List α} (h:app by_ b c=some d):(b.length+c.length) * by_<=140737488355328/\b++c=d:=by
 unfold app at h; split at h
 ·cases h; exact⟨‹_›,rfl⟩
 ·cases h
def mkn {α:Type} (by_:Nat) (x:α) (n:Int):Option (List α):=if 0<=n/\by_ * n.toNat<=281474976710656/\n<=9223372036854775807 then some (List.replicate n.toNat x) else none
theorem Lp {α:Type} {by_:Nat} {x:α} {n:Int} {b:List α} (h:mkn by_ x n=some b):0<=n/\by_ * n.toNat<=281474976710656/\n.toNat<=9223372036854775807/\List.replicate n.toNat x=b:=by
 unfold mkn at h; split at h
 ·rename_i hh; cases h; exact⟨hh.1,hh.2.1, by omega,rfl⟩
 ·cases h
theorem ED {p:Option Addr} {n c:Nat}:AS (.slice p n c)=(Value.slice p n c).ownBlock:=by cases p <;> rfl
theorem Sb {z:Array Value} {n s:Nat} (O:z.size=s) (U:0<s):(madeCells z (n * s)).toList=(List.replicate n z.toList).flatten:=by
 subst O
 apply List.ext_getElem?
 intro i;have key:∀ (n:Nat) (i:Nat),(List.replicate n z.toList).flatten[i]? = if i<n * z.size then z[i % z.size]? else none:=by
  intro n
  induction n with
  | zero=>intro i; simp
  | succ n ih =>
   intro i;rw[List.replicate_succ,List.flatten_cons,List.getElem?_append];have e:(n+1) * z.size=n * z.size+z.size:=by rw[Nat.add_mul]; omega
   split
   ·rename_i hi;have hi:i<z.size:=by simpa using hi
    rw[if_pos (by omega),Nat.mod_eq_of_lt hi]; simp
   ·rename_i hi;have hi:z.size<=i:=by simpa using hi
    rw[ih];simp only[Array.length_toList];rw[Nat.mod_eq_sub_mod hi];by_cases h:i - z.size<n * z.size
    ·rw[if_pos h,if_pos (by omega)]
    ·rw[if_neg h,if_neg (by omega)]
 rw[key];simp only[madeCells,Array.toList_map,Array.toList_range,List.getElem?_map,List.getElem?_range];by_cases h:i<n * z.size
 ·have hm:=Nat.mod_lt i U;simp[h,List.getElem?_range h,hm]
 ·simp[h]
section
variable {C:World->World->Prop} {ρ:Type} {P:Program} {Γ:Ctx} {l:AR} {res:Res} {m:Option ρ} {os rest:List Oper} {N:ρ->Exit->Act->World->Prop}
 {d:Tmp} {ty:TypeId} {pos:String} {after:Array Edge} {g:Option (Nat × Bool)}
theorem app0 {α:Type} {R:Rep α} {b b2 b3:List α} {x y:Operand} {v z:Value} {E:Ent} {T e:TypeId} {by_:Nat} {a:Act} {w:World} (U:Sta Γ l res a w) (r:Nat) (hx:opE l x=some (.val v)) (hr:lr res r=some (v,.list R e b)) (hy:opE l y=some E) (hv:Vw R res E b2) (hb:app by_ b b2=some b3)
  (hT:P.underlying T=some (.slice e)) (hE:TI P e z R.sz by_) (hz:z.cells.size=R.sz) (h0:Nat.blt 0 R.sz=true) (h1:Nat.blt 0 by_=true) :
  ∃ w' v',(execOp a.eval ⟨some d,.call ⟨.builtin .append,#[x,y],#[T,T]⟩,ty,pos,after,g⟩).run P w=.ok (.value v') w'/\(Sta Γ l ((r,some (v',.list R e b3))::res) a w'/\Br (Shr Γ.H res w) (Shr Γ.H ((r,some (v',.list R e b3))::res) w') w w')/\v'.oneCell'=true/\Grew res r w w':=by
 have h0:0<R.sz:=Eq.mp Nat.blt_eq h0;have h1:0<by_:=Eq.mp Nat.blt_eq h1;obtain⟨a1,rfl⟩:=Sa hb;have e1:=(U.vl hx).1;obtain⟨q,c2,news,e2,k1,k2⟩:=hv.get U (U.vl hy);obtain⟨xs,k3,k4⟩:=F6 (U.conts r v _ hr);obtain⟨p,c,rfl⟩:=E3 k3;have a2:b.length+b2.length<=140737488355328:=Nat.le_trans (Nat.le_mul_of_pos_right _ h1) a1;obtain⟨p',c',w',g1,g2,g3,g4⟩:=Ou (rt:=ty) hT hE hz h0 k3 k1 k2.one (by omega) a1 (Nat.zero_le _)
 refine⟨w',.slice p' (b.length+b2.length) c',?_,?_,rfl,_,g3, λbb O=>⟨_,_,hr, by rw[ED]; exact O⟩⟩
 ·simp[execOp,resolve,invoke,builtin,e1,e2,g1]
 ·refine U.upd r g3 (λbb O=>⟨_,_,hr, by rw[ED]; exact O⟩) (λbb O=>?_) (λS' k'=>?_)
  ·rw[ED] at O;rcases g4 bb O with h | h
   ·exact .inl ⟨_,_,hr, by rw[ED]; exact h⟩
   ·exact .inr h
  ·exact Le (B:=0) (xs:=xs++news) (by rw[List.length_append]; exact g2) ((k4.mono k').append (k2.mono k'))
theorem apn {α:Type} {R:Rep α} {b O U:List α} {x y:Operand} {v z:Value} {E:Ent} {T e:TypeId} {by_:Nat} (r:Nat) (hx:opE l x=some (.val v)) (hr:lr res r=some (v,.list R e b)) (hy:opE l y=some E) (hv:Vw R res E O) (hb:app by_ b O=some U)
  (hT:P.underlying T=some (.slice e)) (hE:TI P e z R.sz by_) (hz:z.cells.size=R.sz) (h0:Nat.blt 0 R.sz=true) (h1:Nat.blt 0 by_=true) :
  Eff P Γ l res ⟨some d,.call ⟨.builtin .append,#[x,y],#[T,T]⟩,ty,pos,after,g⟩ r (λu=>(u,.list R e U)):=λa w ha=>app0 ha r hx hr hy hv hb hT hE hz h0 h1
theorem mk0 {α:Type} {R:Rep α} {x0:α} {b:List α} {x y:Operand} {z:Value} {T e:TypeId} {by_:Nat} {n:Int} {a:Act} {w:World} (O:Sta Γ l res a w) (r:Nat) (hx:opE l x=some (.rd A3 n)) (hy:opE l y=some (.rd A3 n)) (hb:mkn by_ x0 n=some b)
  (hT:P.underlying T=some (.slice e)) (hE:TI P e z R.sz by_) (hz:Zr R z.cells.toList x0) (U:Nat.blt 0 R.sz=true) :
  ∃ w' v',(execOp a.eval ⟨some d,.makeSlice T x y,ty,pos,after,g⟩).run P w=.ok (.value v') w'/\(Sta Γ l ((r,some (v',.list R e b))::res) a w'/\Br (Shr Γ.H res w) (Shr Γ.H ((r,some (v',.list R e b))::res) w') w w')/\v'.oneCell'=true/\Grew res r w w':=by
 have U:0<R.sz:=Eq.mp Nat.blt_eq U;obtain⟨h1,h2,h3,rfl⟩:=Lp hb;obtain⟨n',rfl⟩:∃ n':Nat,n=(n':Int):=⟨n.toNat, by omega⟩
 simp only[Int.toNat_natCast] at h2 h3 ⊢;obtain⟨ti,g1,g2,g3,g4⟩:=hE;have a1:z.cells.size=R.sz:=by rw[<- Array.length_toList]; exact R.len (hz (λ_=>True) w)
 obtain⟨w',hr,ho,hg⟩:=run_make_full (P:=P) w 0 T e ti z R.sz hT g1 g2 g3 .i64 .i64 n' (by rw[g4]; exact h2) (by unfold maxLen; omega) (Nat.zero_le _);refine⟨w',.slice (some ⟨w.heap.size,0,none⟩) n' n',?_,?_,rfl,_,hg, by simp⟩
 ·have e1:=Ci (O.vl hx);have e2:=Ci (O.vl hy);simp only[id] at e1 e2;simp[execOp,e1,e2,hr]
 ·refine O.upd r hg (by simp) (λbb a2=>.inr (by simp[AS] at a2; omega)) (λS' k'=>?_);refine Le (B:=0) (xs:=(madeCells z.cells (n' * R.sz)).toList) (by simpa using ho) ?_;rw[Sb a1 U]; exact hz.rep _ _ _
theorem mks {α:Type} {R:Rep α} {x0:α} {b:List α} {x y:Operand} {z:Value} {T e:TypeId} {by_:Nat} {n:Int} (r:Nat) (O:opE l x=some (.rd A3 n)) (U:opE l y=some (.rd A3 n)) (hb:mkn by_ x0 n=some b)
  (hT:P.underlying T=some (.slice e)) (hE:TI P e z R.sz by_) (hz:Zr R z.cells.toList x0) (h0:Nat.blt 0 R.sz=true) :
  Eff P Γ l res ⟨some d,.makeSlice T x y,ty,pos,after,g⟩ r (λu=>(u,.list R e b)):=λa w ha=>mk0 ha r O U hb hT hE hz h0
def RdO {α:Type} (l:AR) (R:Rep α) (o:Operand) (x:α):Prop:=opE l o=some (.rd R x)\/∃ v,o=.const v/\∀ S w,R.vrel S w v x
theorem RdO.get {α:Type} {R:Rep α} {x:α} {o:Operand} {a:Act} {w:World} (O:Sta Γ l res a w) (h:RdO l R o x):R.vrel (Shr Γ.H res w) w (a.eval o) x:=by
 rcases h with h | ⟨v,rfl,h⟩
 ·exact O.vl h
 ·exact h _ _
def RdA {α:Type} (l:AR) (R:Rep α):List Operand->List α->Prop
 | [],[]=>True
 | o::os,x::xs=>RdO l R o x/\RdA l R os xs
 | _,_=>False
theorem RdA.get {α:Type} {R:Rep α} {a:Act} {w:World} (ha:Sta Γ l res a w):∀ {os:List Operand} {xs:List α},RdA l R os xs->B5 R (Shr Γ.H res w) w (Bo (os.map a.eval)) xs/\os.length=xs.length/\∀ u∈os.map a.eval,u.cells.size=R.sz
 | [],[],_=>⟨rfl,rfl, by simp⟩
 | o::os,x::xs,h=>by
  obtain⟨h1,h2,h3⟩:=RdA.get ha h.2;obtain⟨cs,U,k2⟩:=h.1.get ha;have k3:(a.eval o).cells.toList=cs:=by rw[k2]; exact Rep.val_cells U
  refine⟨⟨cs,_, by simp[DH,k3],U,h1⟩, by simp[h2], λu O=>?_⟩;simp only[List.map_cons,List.mem_cons] at O;rcases O with rfl | O
  ·rw[<- Array.length_toList,k3,R.len U]
  ·exact h3 u O
 | [],_::_,h=>h.elim
 | _::_,[],h=>h.elim
theorem XH (v:List Value):∀ (C:Array Value) (o j:Nat),o+j+v.length<=C.size->(v.zipIdx j).foldl (λcs (x:Value × Nat)=>cs.setIfInBounds (o+x.2) x.1) C=spl C (o+j) v:=by
 induction v with
 | nil=>intro C o j h; simp[spl]
 | cons u v O =>
  intro C o j h;simp only[List.length_cons] at h;simp only[List.zipIdx_cons,List.foldl_cons];rw[O _ _ _ (by simp; omega)];unfold spl
  congr 1
  have e:C.toList.length=C.size:=by simp
  simp only[Array.toList_setIfInBounds]
  apply List.ext_getElem?
  intro i;simp only[List.getElem?_append,List.length_append,List.length_take,List.length_set,e,List.getElem?_take,List.getElem?_set,List.getElem?_drop,List.length_cons,List.getElem?_cons]
  repeat' split
  all_goals (first | rfl | omega | (congr 1; omega) | skip)
theorem OC {place:Nat->Option (Nat × Nat)} {C:Array Value} {i o s:Nat} {v:Value} {rest:List (Nat × Value)} (U:place i=some (o,s)) (hv:v.cells.size=s) (O:o+s<=C.size) :
  Instr.fill place C ((i,v)::rest)=Instr.fill place (spl C o v.cells.toList) rest:=by
 subst hv
 have:=XH v.cells.toList C o 0 (by simpa using O)
 simp only[Nat.add_zero] at this;have e2:v.cells.zipIdx.foldl (λcs (x:Value × Nat)=>cs.setIfInBounds (o+x.2) x.1) C=spl C o v.cells.toList:=by
  rw[<- this,<- Array.foldl_toList]; simp
 simp only[Instr.fill,U];rw[if_neg (by simp; omega)];exact congrArg (λc=>Instr.fill place c rest) e2
theorem OD {sz:Nat}:∀ (vs:List Value) (j:Nat) (C:Array Value),(∀ u∈vs,u.cells.size=sz)->C.size=(j+vs.length) * sz ->
  Instr.fill (λi=>some (i * sz,sz)) C ((vs.zipIdx j).map λx=>(x.2,x.1))=some (C.toList.take (j * sz)++Bo vs).toArray
 | [],j,C,h,hC=>by
  have h1:C.size=j * sz:=hC;have h2:C.toList.take (j * sz)=C.toList:=List.take_of_length_le (by rw[Array.length_toList]; omega);simp[Instr.fill,Bo,h2]
 | u::vs,j,C,h,hC=>by
  have O:u.cells.size=sz:=h u (by simp);have e:C.toList.length=C.size:=by simp
  simp only[List.length_cons] at hC;have e3:(j+(vs.length+1)) * sz=j * sz+(sz+vs.length * sz):=by rw[Nat.add_mul,Nat.add_mul]; omega
  simp only[List.zipIdx_cons,List.map_cons];rw[OC (o:=j * sz) (s:=sz) rfl O (by omega),OD vs (j+1) _ (λu O=>h u (by simp[O])) ?_]
  ·congr 2
   have U:u.cells.toList.length=sz:=by simpa using O
   rw[DH,<- List.append_assoc]
   congr 1
   unfold spl;rw[List.take_left'];simp only[List.length_append,List.length_take,e,U];rw[Nat.min_eq_left (by omega),Nat.add_mul]; omega
  ·unfold spl;have U:u.cells.toList.length=sz:=by simpa using O
   simp only[List.size_toArray,List.length_append,List.length_take,List.length_drop,U,e,hC];rw[show (j+1+vs.length) * sz=j * sz+(sz+vs.length * sz) by rw[Nat.add_mul,Nat.add_mul]; omega];omega
theorem lit0 {α:Type} {R:Rep α} (b:List α) {n:Nat} {xs:List Operand} {parts:Array (Nat × Operand)} {z:Value} {T e:TypeId} {by_:Nat} {a:Act} {w:World} (ha:Sta Γ l res a w) (r:Nat) (hp:parts=(xs.zipIdx.map λx=>(x.2,x.1)).toArray) (hx:RdA l R xs b) (hl:b.length=n)
  (hT:P.underlying T=some (.slice e)) (hE:TI P e z R.sz by_) (U:Nat.blt 0 R.sz=true) (hm:Nat.ble (n * R.sz) 16777216=true) :
  ∃ w' v',(execOp a.eval ⟨some d,.buildSlice T n parts,ty,pos,after,g⟩).run P w=.ok (.value v') w'/\(Sta Γ l ((r,some (v',.list R e b))::res) a w'/\Br (Shr Γ.H res w) (Shr Γ.H ((r,some (v',.list R e b))::res) w') w w')/\v'.oneCell'=true/\Grew res r w w':=by
 have U:0<R.sz:=Eq.mp Nat.blt_eq U;have hm:n * R.sz<=16777216:=Nat.le_of_ble_eq_true hm;subst hl;obtain⟨k1,k2,k3⟩:=RdA.get ha hx;have hc:Instr.fill (λi=>some (i * R.sz,R.sz)) (IM z (b.length * R.sz)) ((xs.map a.eval).zipIdx.map λx=>(x.2,x.1))=some (Bo (xs.map a.eval)).toArray:=by
  have:=OD (xs.map a.eval) 0 (IM z (b.length * R.sz)) k3 (by simp[IM,k2])
  simpa using this
 have a2:(parts.map λ(i,x)=>(i,a.eval x)).toList=(xs.map a.eval).zipIdx.map λx=>(x.2,x.1):=by
  subst hp;simp[List.zipIdx_map]
 have a1:=WV (P:=P) (w:=w) (m:=b.length) (vs:=parts.map λ(i,x)=>(i,a.eval x)) hT hE hm (by rw[a2]; exact hc);have O:=k1.len;refine⟨w.alloc (.cells (Bo (xs.map a.eval)).toArray e),.slice (some ⟨w.heap.size,0,none⟩) b.length b.length,?_,?_,rfl,_,Fm w _, by simp⟩
 ·simp only[execOp,Sem.run_bind,a1,Result.andThen,Sem.run_pure]
 ·refine ha.upd r (c:=.list R e b) (v:=.slice (some ⟨w.heap.size,0,none⟩) b.length b.length) (Fm w _) (by simp) (λbb a6=>.inr (by simp[AS] at a6; omega)) (λS' k'=>?_);refine .inr ⟨w.heap.size,_,rfl,heap_alloc_new _ _,w.heap.size,b.length,_,rfl,rfl,Nat.le_refl _,?_, by simp[O],?_⟩
  ·have:b.length<=b.length * R.sz:=Nat.le_mul_of_pos_right _ U
   unfold maxLen; omega
  ·simp only[];rw[<- O,List.take_length]; exact k1.mono k'
theorem lits {α:Type} {R:Rep α} (b:List α) {n:Nat} (xs:List Operand) {parts:Array (Nat × Operand)} {z:Value} {T e:TypeId} {by_:Nat} (r:Nat) (O:parts=(xs.zipIdx.map λx=>(x.2,x.1)).toArray) (U:RdA l R xs b) (hl:b.length=n)
  (hT:P.underlying T=some (.slice e)) (hE:TI P e z R.sz by_) (h0:Nat.blt 0 R.sz=true) (hm:Nat.ble (n * R.sz) 16777216=true) :
  Eff P Γ l res ⟨some d,.buildSlice T n parts,ty,pos,after,g⟩ r (λu=>(u,.list R e b)):=λa w ha=>lit0 b ha r O U hl hT hE h0 hm
theorem Sta.nil {a:Act} {w:World} (O:Sta Γ l res a w) {α:Type} (R:Rep α) (T:TypeId) (r:Nat):Sta Γ l ((r,some (.slice none 0 0,.list R T []))::res) a w :=
 (O.upd r (v:=.slice none 0 0) (c:=.list R T []) (wr:=none) Ext.rfl'.gb (by simp) (by simp[AS]) (λS' k'=>.inl ⟨rfl,rfl⟩)).1
theorem xNil {X:ρ->Act->World->Prop} {α:Type} (R:Rep α) (T:TypeId) (r:Nat) (k:GX X (Sta Γ l ((r,some (.slice none 0 0,.list R T []))::res)) m):GX X (Sta Γ l res) m:=λa w O=>k a w (O.nil R T r)
def FrL (l:AR) (v:Value):List Nat->Prop
 | []=>True
 | t::ts=>lk l t=some (.val v)/\FrL l v ts
theorem fN {v:Value}:FrL l v []:=trivial
theorem fS {v:Value} {t:Nat} {ts:List Nat} (h:lk l t=some (.val v)) (k:FrL l v ts):FrL l v (t::ts):=⟨h,k⟩
theorem FrL.get {v:Value} {t:Nat}:∀ {ts:List Nat},FrL l v ts->t∈ts->lk l t=some (.val v)
 | t0::ts,h,O=>by
  rcases List.mem_cons.1 O with rfl | O
  ·exact h.1
  ·exact FrL.get h.2 O
theorem OE {e:Ent} {t:Nat}:∀ (ts:List Nat),lk (ts.map (λt=>(t,e))++l) t=if t∈ts then some e else lk l t
 | []=>by simp
 | t0::ts=>by
  rw[List.map_cons,List.cons_append,Cn,OE ts];by_cases h:t0=t
  ·subst h; simp
  ·simp[h,Ne.symm h]
theorem Sta.frz {a:Act} {w:World} (U:Sta Γ l res a w) {α:Type} {R:Rep α} {T:TypeId} {b:List α} {v:Value} (r:Nat) (ts:List Nat) (hr:lr res r=some (v,.list R T b)) (ht:FrL l v ts):Sta Γ (ts.map (λt=>(t,.rd (A8 R) b))++l) ((r,none)::res) a w:=by
 have a7:Br (Shr Γ.H res w) (Shr Γ.H ((r,none)::res) w) w w:=λbb hb=>⟨⟨hb.1, λr' v' c' O=>by
  rw[C0] at O
  split at O
  ·cases O
  ·exact hb.2.1 r' v' c' O,hb.2.2⟩,rfl⟩
 have a1:∀ r' v' c',lr ((r,none)::res) r'=some (v',c')->r≠r'/\lr res r'=some (v',c'):=λr' v' c' O=>by
  rw[C0] at O
  split at O
  ·cases O
  ·exact⟨‹_›,O⟩
 refine⟨U.size,U.defers, λt' e a6=>?_, λr' v' c' O=>(U.conts r' v' c' (a1 _ _ _ O).2).mono a7 (λ_ _=>rfl), λr1 v1 c1 r2 v2 c2 h1 h2 a8=>U.excl r1 v1 c1 r2 v2 c2 (a1 _ _ _ h1).2 (a1 _ _ _ h2).2 a8, λr' v' c' O=>U.own r' v' c' (a1 _ _ _ O).2,U.keep,U.old,U.hid⟩;rw[OE] at a6
 split at a6
 ·rename_i hh; cases a6
  obtain⟨u,h1,rfl,-⟩:=U.slots t' _ (ht.get hh);obtain⟨xs,h3,h4⟩:=F6 (U.conts r u _ hr);obtain⟨p,c,rfl⟩:=E3 h3;refine⟨_,h1,_,⟨p,c,xs,rfl,Rd.of_own h3,h4.mono a7, λa8 bb a2=>?_⟩,rfl⟩;have a2:AS (.slice p b.length c)=some bb:=by rw[ED,Gc]; exact a2
  refine⟨(U.conts r _ _ hr).lt a2, λr' v' c' O e=>?_, λhH=>U.own r _ _ hr bb a2 (U.hid bb hH)⟩;obtain⟨k1,k2⟩:=a1 _ _ _ O;exact U.excl r _ _ r' v' c' hr k2 k1 bb a2 e
 ·obtain⟨u,h1,h2⟩:=U.slots t' e a6;exact⟨u,h1,e.mono a7 h2⟩
theorem xFrz {α:Type} {X:ρ->Act->World->Prop} {R:Rep α} {T:TypeId} {b:List α} {v:Value} (r:Nat) (ts:List Nat) (O:lr res r=some (v,.list R T b)) (U:FrL l v ts) (k:GX X (Sta Γ (ts.map (λt=>(t,.rd (A8 R) b))++l) ((r,none)::res)) m):GX X (Sta Γ l res) m:=λa w ha=>k a w (ha.frz r ts O U)
theorem Sta.rdNil {a:Act} {w:World} (U:Sta Γ l res a w) {α:Type} (R:Rep α) (t:Nat) (ht:lk l t=some (.val (.slice none 0 0))):Sta Γ ((t,.rd (A8 R) [])::l) res a w:=by
 refine { U with slots:=λt' e' O=>?_ };rw[Cn] at O
 split at O
 ·rename_i hh; subst hh; cases O
  obtain⟨u,h1,rfl,-⟩:=U.slots t _ ht;exact⟨_,h1,[_],⟨none,0,[],rfl,Rd.nil _ _,rfl, by simp⟩,rfl⟩
 ·exact U.slots t' e' O
theorem XI {X:ρ->Act->World->Prop} {α:Type} (R:Rep α) (t:Nat) (O:lk l t=some (.val (.slice none 0 0))) (k:GX X (Sta Γ ((t,.rd (A8 R) [])::l) res) m):GX X (Sta Γ l res) m:=λa w U=>k a w (U.rdNil R t O)
end
end
section
variable {ro:Option Nat}
def iter {σ β:Type} (F:σ->Option (Sum β σ)) (s:σ):Option β:=F s>>=λx=>match x with
 | .inl b=>some b
 | .inr s'=>iter F s'
 partial_fixpoint
section
variable {ρ σ β τ:Type} {P:Program} {A:Asn} {Q:ρ->Exit->Act->World->Prop}
def Gf (i:Nat) (As:σ->Asn) (M:β->Exit->Act->World->Prop):Sum β σ->Exit->Act->World->Prop
 | .inl b,e,a,w=>e≠.normal/\Exit.inBlock i (M b) e a w
 | .inr s,e,a,w=>e=.normal/\As s a w
theorem XJ {c:Code} {i:Nat} {As:σ->Asn} {M:β->Exit->Act->World->Prop} {F:σ->Option (Sum β σ)} (hb:∀ s,G none P (As s) c (Gf i As M) (F s)) (s:σ) (b:β) (h:iter F s=some b)
  (a:Act) (w:World) (ha:As s a w):(Code.loop c).wp P (Exit.inBlock i (M b)) a w:=by
 have key:∀ s b,iter F s=some b->∀ a w,As s a w->∀ (fr:Frame) (k:List Item) (cs:List Frame),∃ e a' w',Exit.inBlock i (M b) e a' w'/\Arrives P (lone (fr.at a (.code c::.inLoop c::k)) cs w) fr k cs e a' w':=by
  refine iter.partial_correctness F (λs b=>∀ a w,As s a w->∀ (fr:Frame) (k:List Item) (cs:List Frame),∃ e a' w',Exit.inBlock i (M b) e a' w'/\Arrives P (lone (fr.at a (.code c::.inLoop c::k)) cs w) fr k cs e a' w') ?_;intro it ih s b hs a w ha fr k cs
  cases hF:F s with
  | none=>rw[hF] at hs; cases hs
  | some x =>
   rw[hF] at hs;obtain⟨e,a₁,w₁,U,O⟩:=hb s a w ha x hF fr (.inLoop c::k) cs
   cases x with
   | inr s' =>
    obtain⟨rfl,hA⟩:=U;obtain⟨e₂,a₂,w₂,hq₂,harr₂⟩:=ih s' b hs a₁ w₁ hA fr k cs;exact⟨e₂,a₂,w₂,hq₂,.of_steps (Steps.trans O (.one step_inLoop)) harr₂⟩
   | inl b' =>
    have e0:b'=b:=by simpa using hs
    subst e0;obtain⟨a1,U⟩:=U
    cases e with
    | normal=>exact absurd rfl a1
    | exit id=>exact⟨_,a₁,w₁,U,.pass (x:=.inLoop c) rfl (λ_ _=>.inl (by simp)) O⟩
    | goto l=>exact⟨_,a₁,w₁,U,.pass (x:=.inLoop c) rfl (λ_ _=>.inl (by simp)) O⟩
    | ret=>exact⟨_,a₁,w₁,U,.pass (x:=.inLoop c) rfl (λ_ _=>.inl (by simp)) O⟩
    | panic ch=>exact⟨_,a₁,w₁,U,.pass (x:=.inLoop c) rfl (λ_ _=>.inl (by simp)) O⟩
    | outgrown=>exact⟨_,a₁,w₁,U,.pass (x:=.inLoop c) rfl (λ_ _=>.inl (by simp)) O⟩
 intro fr k cs;obtain⟨e,a',w',U,O⟩:=key s b h a w ha fr k cs;exact⟨e,a',w',U,.of_steps (.one step_loop) O⟩
theorem XK {l:Nat} {c:Code} {i:Nat} {As:σ->Asn} {M:β->Exit->Act->World->Prop} {F:σ->Option (Sum β σ)} (hb:∀ s,G (some l) P (As s) c (Gf i As M) (F s)) (s:σ) (b:β) (h:iter F s=some b) (ho:∀ a w,¬ M b .outgrown a w)
  (a:Act) (w:World) (ha:As s a w):(Code.loop c).wpIn (Fence.wide.inRound l) 0 P (Exit.inBlock i (M b)) a w:=by
 have key:∀ s b,iter F s=some b->(∀ a w,¬ M b .outgrown a w)->∀ a w,As s a w->∀ (fr:Frame) (k:List Item) (cs:List Frame),fr.roundOf=(Fence.wide.inRound l).round->(Fence.wide.inRound l).fn fr.fn->(Fence.wide.inRound l).room (cs.length+1+0) ->
   ∃ e a' w',Exit.inBlock i (M b) e a' w'/\ArrivesIn (Machine.fenced P (Fence.wide.inRound l)) P (lone (fr.atR a (.code c::.inLoop c::k)) cs w) fr k cs e a' w':=by
  refine iter.partial_correctness F (λs b=>(∀ a w,¬ M b .outgrown a w)->∀ a w,As s a w->∀ (fr:Frame) (k:List Item) (cs:List Frame),fr.roundOf=(Fence.wide.inRound l).round->(Fence.wide.inRound l).fn fr.fn->(Fence.wide.inRound l).room (cs.length+1+0)->∃ e a' w',Exit.inBlock i (M b) e a' w'/\ArrivesIn (Machine.fenced P (Fence.wide.inRound l)) P (lone (fr.atR a (.code c::.inLoop c::k)) cs w) fr k cs e a' w') ?_
  intro it ih s b hs ho a w ha fr k cs a6 a1 a2
  cases hF:F s with
  | none=>rw[hF] at hs; cases hs
  | some x =>
   rw[hF] at hs;have a7:∀ a w,¬ Gf i As M x .outgrown a w:=by
    intro a w U
    cases x with
    | inr s'=>exact absurd U.1 (by simp)
    | inl b' =>
     have e0:b'=b:=by simpa using hs
     subst e0;exact ho a w U.2
   obtain⟨e,a₁,w₁,U,O⟩:=hb s a w ha x hF a7 fr (.inLoop c::k) cs a6 a1 a2
   cases x with
   | inr s' =>
    obtain⟨rfl,hA⟩:=U;obtain⟨e₂,a₂,w₂,hq₂,harr₂⟩:=ih s' b hs ho a₁ w₁ hA fr k cs a6 a1 a2;exact⟨e₂,a₂,w₂,hq₂,.of_steps (StepsIn.trans O (.one (fenced_calm a1 a2 rfl) stepR_inLoop)) harr₂⟩
   | inl b' =>
    have e0:b'=b:=by simpa using hs
    subst e0;obtain⟨a8,U⟩:=U
    cases e with
    | normal=>exact absurd rfl a8
    | exit id=>exact⟨_,a₁,w₁,U,.pass (x:=.inLoop c) rfl (λ_ _=>.inl (by simp)) O⟩
    | goto l=>exact⟨_,a₁,w₁,U,.pass (x:=.inLoop c) rfl (λ_ _=>.inl (by simp)) O⟩
    | ret=>exact⟨_,a₁,w₁,U,.pass (x:=.inLoop c) rfl (λ_ _=>.inl (by simp)) O⟩
    | panic ch=>exact⟨_,a₁,w₁,U,.pass (x:=.inLoop c) rfl (λ_ _=>.inl (by simp)) O⟩
    | outgrown=>exact⟨_,a₁,w₁,U,.pass (x:=.inLoop c) rfl (λ_ _=>.inl (by simp)) O⟩
 intro fr k cs a6 a1 a2;obtain⟨e,a',w',U,O⟩:=key s b h ho a w ha fr k cs a6 a1 a2;exact⟨e,a',w',U,.of_steps (.one (fenced_calm a1 a2 rfl) stepR_loop) O⟩
theorem AJ {c:Code} {i:Nat} (As:σ->Asn) {M:β->Exit->Act->World->Prop} {F:σ->Option (Sum β σ)} {s:σ} (O:∀ a w,A a w->As s a w) (U:∀ s,G ro P (As s) c (Gf i As M) (F s)) :
  G ro P A (.block i (.loop c)) M (iter F s):=λa w ha b h=>by
 cases ro with
 | none=>exact wp_block (XJ U s b h a w (O a w ha))
 | some l=>exact λho=>wpIn_block (XK U s b h ho a w (O a w ha))
theorem Au {i:Nat} {As:σ->Asn} {M:β->Exit->Act->World->Prop} {s:σ} (h:∀ a w,A a w->As s a w):GE A .normal (Gf i As M) (some (.inr s)):=λa w O r U=>by
 cases U; exact⟨rfl,h a w O⟩
theorem AG {i:Nat} {As:σ->Asn} {M:β->Exit->Act->World->Prop} {b:β} (h:GE A .normal M (some b)):GE A (.exit i) (Gf i As M) (some (.inl b)):=λa w O r U=>by
 cases U; exact⟨by simp, by have:=h a w O b rfl; simp[Exit.inBlock,this]⟩
theorem BE {i:Nat} {As:σ->Asn} {M:β->Exit->Act->World->Prop} {b:β} (h:GE A .ret M (some b)):GE A .ret (Gf i As M) (some (.inl b)):=λa w O r U=>by
 cases U; exact⟨by simp,h a w O b rfl⟩
def midQ (Bs:τ->Asn):τ->Exit->Act->World->Prop:=λt e a w=>e=.normal/\Bs t a w
def midR (Bs:τ->Asn) (Q:ρ->Exit->Act->World->Prop):Sum ρ τ->Exit->Act->World->Prop
 | .inl r,e,a,w=>e≠.normal/\Q r e a w
 | .inr t,e,a,w=>e=.normal/\Bs t a w
theorem AY {x y:Code} (Bs:τ->Asn) {m:Option τ} {k:τ->Option ρ} (hx:G ro P A x (midQ Bs) m) (hy:∀ t,G ro P (Bs t) y Q (k t)):G ro P A (.seq x y) Q (m >>= k):=λa w ha r O=>by
 cases U:m with
 | none=>rw[U] at O; cases O
 | some t =>
  rw[U] at O;refine Ov (QU (λe a w h=>?_) (hx a w ha t U));obtain⟨rfl,h⟩:=h;exact hy t a w h r O
def Bc (m:Option (Sum ρ τ)) (k:τ->Option ρ):Option ρ:=m>>=λs=>match s with
 | .inl r=>some r
 | .inr t=>k t
theorem BM {x y:Code} (Bs:τ->Asn) {m:Option (Sum ρ τ)} {k:τ->Option ρ} (hx:G ro P A x (midR Bs Q) m) (hy:∀ t,G ro P (Bs t) y Q (k t)) :
  G ro P A (.seq x y) Q (Bc m k):=λa w ha r O=>by
 unfold Bc at O
 cases U:m with
 | none=>rw[U] at O; cases O
 | some s =>
  rw[U] at O;refine Ov (QU (λe a w h=>?_) (hx a w ha s U))
  cases s with
  | inl r' =>
   have e0:r'=r:=by simpa using O
   subst e0;obtain⟨a1,h⟩:=h
   cases e <;> first | exact absurd rfl a1 | exact h
  | inr t =>
   obtain⟨rfl,h⟩:=h;exact hy t a w h r O
theorem Av {Bs:τ->Asn} {t:τ} (h:∀ a w,A a w->Bs t a w):GE A .normal (midQ Bs) (some t):=λa w O r U=>by cases U; exact⟨rfl,h a w O⟩
theorem BA {Bs:τ->Asn} {t:τ} (h:∀ a w,A a w->Bs t a w):GE A .normal (midR Bs Q) (some (.inr t)):=λa w O r U=>by cases U; exact⟨rfl,h a w O⟩
theorem Bk {Bs:τ->Asn} {r:ρ} (h:GE A .ret Q (some r)):GE A .ret (midR Bs Q) (some (.inl r)):=λa w O r' U=>by cases U; exact⟨by simp,h a w O r rfl⟩
end
def SubS (l:AR):AR->Prop
 | []=>True
 | (t,e)::l'=>lk l t=some e/\SubS l l'
theorem SubS.get {l:AR}:∀ {l':AR} {t:Nat} {e:Ent},SubS l l'->lk l' t=some e->lk l t=some e
 | [],t,e,_,h=>by cases h
 | (t',e')::l',t,e,O,h=>by
  rw[Cn] at h
  split at h
  ·rename_i hh; subst hh; cases h; exact O.1
  ·exact SubS.get O.2 h
def BZ (res:Res):Res->List Nat->Prop
 | [],[]=>True
 | (_,x)::res',n::ns=>(∃ y,x=some y/\lr res n=some y)/\ns.contains n=false/\BZ res res' ns
 | _,_=>False
theorem BZ.get {res:Res}:∀ {res':Res} {ns:List Nat} {r:Nat} {v:Value} {c:AO},BZ res res' ns->lr res' r=some (v,c)->∃ n∈ns,lr res n=some (v,c)
 | [],[],_,_,_,_,h=>by cases h
 | (r',x)::res',n::ns,r,v,c,O,h=>by
  rw[C0] at h;obtain⟨⟨y,rfl,U⟩,h2,h3⟩:=O
  split at h
  ·cases h; exact⟨n, by simp,U⟩
  ·obtain⟨n',h4,h5⟩:=BZ.get h3 h; exact⟨n', by simp[h4],h5⟩
 | [],_::_,_,_,_,O,_=>O.elim
 | _::_,[],_,_,_,O,_=>O.elim
theorem BZ.get2 {res:Res}:∀ {res':Res} {ns:List Nat} {r r2:Nat} {x U:Value × AO},BZ res res' ns->lr res' r=some x->lr res' r2=some U->r≠r2->∃ n n2,n≠n2/\lr res n=some x/\lr res n2=some U
 | [],[],_,_,_,_,_,h,_,_=>by cases h
 | (r',y)::res',n::ns,r,r2,x,U,O,h,h',a1=>by
  rw[C0] at h h';obtain⟨⟨y,rfl,h1⟩,h2,h3⟩:=O;have hn:∀ n',n'∈ns->n≠n':=λn' a2 e=>by subst e; simp at h2; exact h2 a2
  split at h
  ·rename_i e1; subst e1; cases h
   rw[if_neg a1] at h';obtain⟨v2,c2⟩:=U;obtain⟨n',h4,h5⟩:=BZ.get h3 h';exact⟨n,n',hn n' h4,h1,h5⟩
  ·split at h'
   ·cases h'
    obtain⟨v,c⟩:=x;obtain⟨n',h4,h5⟩:=BZ.get h3 h;exact⟨n',n, λe=>hn n' h4 e.symm,h5,h1⟩
   ·exact BZ.get2 h3 h h' a1
 | [],_::_,_,_,_,_,O,_,_,_=>O.elim
 | _::_,[],_,_,_,_,O,_,_,_=>O.elim
section
variable {P:Program} {Γ:Ctx} {l l':AR} {res res':Res} {a:Act} {w:World}
theorem BZ.stay {H:Blk} {ns:List Nat} (h:BZ res res' ns):Br (Shr H res w) (Shr H res' w) w w:=λb O =>
 ⟨⟨O.1, λr v c U=>by obtain⟨n,_,h1⟩:=h.get U; exact O.2.1 n v c h1,O.2.2⟩,rfl⟩
theorem Sta.sub (O:Sta Γ l res a w) (ns:List Nat) (hs:SubS l l') (hr:BZ res res' ns):Sta Γ l' res' a w where
 size:=O.size
 defers:=O.defers
 slots t e ht:=by obtain⟨v,U,h2⟩:=O.slots t e (hs.get ht); exact⟨v,U,e.mono hr.stay h2⟩
 conts r v c h:=by obtain⟨n,_,U⟩:=hr.get h; exact(O.conts n v c U).mono hr.stay (λ_ _=>rfl)
 excl r v c r' v' c' h h' a1:=by obtain⟨n,n2,U,h2,h3⟩:=hr.get2 h h' a1; exact O.excl n v c n2 v' c' h2 h3 U
 own r v c h:=by obtain⟨n,_,U⟩:=hr.get h; exact O.own n v c U
 keep:=O.keep
 old:=O.old
 hid:=O.hid
end
structure Di where
 ret:List Ent
 res:Res
def Bof (res:Res) (b:Nat):Prop:=∃ r v c,lr res r=some (v,c)/\AS v=some b
structure F7 (H:Blk) (res:Res) (w:World):Prop where
 conts:∀ r v c,lr res r=some (v,c)->c.holds (Shr H res w) w v
 excl:∀ r v c r' v' c',lr res r=some (v,c)->lr res r'=some (v',c')->r≠r'->∀ b,AS v=some b->AS v'≠some b
 hid:∀ b,H b->b<w.heap.size/\¬ Bof res b
structure Sd (H:Blk) (rin:Res) (q:Di) (w w':World) (vs:List Value):Prop where
 ret:C5 (Shr H q.res w') w' q.ret vs
 conts:∀ r v c,lr q.res r=some (v,c)->c.holds (Shr H q.res w') w' v
 excl:∀ r v c r' v' c',lr q.res r=some (v,c)->lr q.res r'=some (v',c')->r≠r'->∀ b,AS v=some b->AS v'≠some b
 own:∀ r v c,lr q.res r=some (v,c)->∀ b,AS v=some b->w.heap.size<=b\/Bof rin b
 keep:CZ (λb=>b<w.heap.size/\¬ Bof rin b) w w'
def endR (H:Blk) (rin:Res) (q:(Nat->Value)->Di) (w:World):Ending->World->Prop:=λe w'=>∃ O vs,e=.returned (retv vs)/\Sd H rin (q O) w w' vs
def Ah {ρ:Type} (P:Program) (f:FuncId) (pin:List Ent) (rin:Res) (m:Option ρ) (q:ρ->(Nat->Value)->Di):Prop :=
 ∀ r,m=some r->∀ (H:Blk) (vs:List Value) (w:World),C5 (Shr H rin w) w pin vs->F7 H rin w->Calls P f vs.toArray w (endR H rin (q r) w)
def argS:Nat->List Ent->AR
 | _,[]=>[]
 | i,e::es=>(i,e)::argS (i+1) es
theorem Se {S:Blk} {w:World}:∀ {es:List Ent} {vs:List Value} {i t:Nat} {e:Ent},C5 S w es vs->lk (argS i es) t=some e->i<=t/\∃ v,vs[t - i]? = some v/\e.holds S w v
 | [],_,i,t,e,_,h=>by cases h
 | e0::es,v::vs,i,t,e,hh,h=>by
  simp only[argS] at h;rw[Cn] at h
  split at h
  ·rename_i O; subst O; cases h; exact⟨Nat.le_refl _,v, by simp,hh.1⟩
  ·obtain⟨h1,u,U,h3⟩:=Se hh.2 h;refine⟨by omega,u,?_,h3⟩;rw[show t - i=(t - (i+1))+1 by omega]; simpa using U
 | _::_,[],_,_,_,hh,_=>hh.elim
theorem C5.length {S:Blk} {w:World}:∀ {es:List Ent} {vs:List Value},C5 S w es vs->es.length=vs.length
 | [],[],_=>rfl
 | _::_,_::_,h=>by simp[C5.length h.2]
 | [],_::_,h=>h.elim
 | _::_,[],h=>h.elim
def endQ {ρ:Type} (P:Program) (fn:Func) (H:Blk) (rin:Res) (q:ρ->(Nat->Value)->Di) (w:World):ρ->Exit->Act->World->Prop:=λr=>bodyPost P fn (endR H rin (q r) w)
abbrev ctx (n:Nat) (H:Blk) (rin:Res) (w:World):Ctx:=⟨n, λb=>b<w.heap.size/\¬ Bof rin b,H,w,[]⟩
theorem Am {ρ:Type} {P:Program} {f:FuncId} {fn:Func} {c:Code} {pin:List Ent} {rin:Res} {m:Option ρ} {q:ρ->(Nat->Value)->Di} (n:Nat) (hf:P.funcs[f]? = some fn) (O:fn.body=some c) (hn:fn.ntmps=n) (hl:Nat.ble pin.length n=true)
  (h:∀ H w,G none P (Sta (ctx n H rin w) (argS 0 pin) rin) c (endQ P fn H rin q w) m):Ah P f pin rin m q:=by
 intro r hr H vs w a1 hR;have hl:pin.length<=n:=Nat.le_of_ble_eq_true hl;have a6:=a1.length;subst hn;refine calls_of_wp hf O (h H w _ w ?_ r hr);refine⟨by simp; omega,rfl, λt e ht=>?_,hR.conts,hR.excl, λr v c U b h2 h3=>h3.2 ⟨r,v,c,U,h2⟩,CZ.rfl', λb O=>O.1, λb O=>hR.hid b O⟩;obtain⟨-,v,U,h2⟩:=Se a1 ht;refine⟨v,?_,h2⟩;simp only[Nat.sub_zero] at U;have a2:t<vs.length:=(List.getElem?_eq_some_iff.1 U).1
 rw[Array.getElem?_append_left (by simpa using a2)]
 simpa using U
def XL (n:Nat):Rep { cs:List Value // cs.length=n/\∀ u∈cs,u.oneCell'=true } where
 sz:=n
 agg:=true
 rel _ _ cs x:=cs=x.1
 len {_ _ _ x} h:=by rw[h]; exact x.2.1
 one {_ _ _ x} h:=by rw[h]; exact x.2.2
 scal h:=by cases h
 mono _ h:=h
def AggE (e:Ent) (n:Nat):Prop:=∀ S w v,e.holds S w v->∃ cs:List Value,v=.agg cs.toArray/\cs.length=n/\∀ u∈cs,u.oneCell'=true
def ResE (P:Program) (l:AR) (res:Res):List ResultVar->List Ent->Prop
 | [],[]=>True
 | .tmp t::rs,e::es=>lk l t=some e/\ResE P l res rs es
 | .cell t T::rs,e::es=>(∃ r v T',lk l t=some (.val (A7 v 0))/\lr res r=some (v,.box T' [e])/\((∃ (α:Type) (R:Rep α) (x:α),e=.rd R x/\BN P T R.agg R.sz)\/(∃ u,e=.val u/\Sc P T)\/∃ n,AggE e n/\BN P T true n))/\ResE P l res rs es
 | _,_=>False
def flA (a:Act):List (Nat × Value):=(List.range a.tmps.size).map λt=>(t,a.tmps.getD t undef)
theorem OF (g:Nat->Value):∀ (l:List Nat) (t:Nat),Dz (l.map λt=>(t,g t)) t=if t∈l then some (g t) else none
 | [],t=>by simp[Dz]
 | k::l,t=>by
  simp only[List.map_cons,Dz]
  cases O:Nat.beq k t with
  | true=>have:=Nat.eq_of_beq_eq_true O; subst this; simp
  | false =>
   have:=Nat.ne_of_beq_eq_false O
   simp[OF g l t,Ne.symm this]
theorem Sf {a:Act} {t:Nat} {v:Value} (h:a.tmps[t]? = some v):Dz (flA a) t=some v:=by
 have O:t<a.tmps.size:=(Array.getElem?_eq_some_iff.1 h).1;unfold flA;rw[OF,if_pos (by simpa using O)];simp[Array.getD_eq_getD_getElem?,h]
theorem Sta.frmA {Γ:Ctx} {l:AR} {res:Res} {a:Act} {w:World} (O:Sta Γ l res a w):Frm Γ.n (flA a) { a with defers:=[] }:=⟨O.size,rfl, λt v h=>by
 unfold flA at h;rw[OF] at h
 split at h
 ·rename_i hh;have U:t<a.tmps.size:=by simpa using hh
  simp only[Option.some.injEq] at h;rw[<- h,Array.getD_eq_getD_getElem?,Array.getElem?_eq_getElem U]; rfl
 ·cases h⟩
theorem ResE.get {P:Program} {Γ:Ctx} {l:AR} {res:Res} {a:Act} {w:World} (U:Sta Γ l res a w):∀ {rs:List ResultVar} {es:List Ent},ResE P l res rs es->∃ vs,IL P w (flA a) rs vs/\C5 (Shr Γ.H res w) w es vs
 | [],[],_=>⟨[],trivial,trivial⟩
 | .tmp t::rs,e::es,h=>by
  obtain⟨vs,h2,h3⟩:=ResE.get U h.2;obtain⟨v,k1,k2⟩:=U.slots t e h.1;exact⟨v::vs,⟨Sf k1,h2⟩,k2,h3⟩
 | .cell t T::rs,e::es,h=>by
  obtain⟨vs,h2,h3⟩:=ResE.get U h.2;obtain⟨r,v,T',g1,g2,g3⟩:=h.1;obtain⟨v',k1,e0,-⟩:=U.slots t _ g1;rcases U.conts r v _ g2 with h4 | ⟨b,o,h4,h5,b',us,rfl,rfl,h6⟩
  ·exact h4.elim
  ·simp only[AS,Option.some.injEq] at h4;subst h4
   match us,h6 with
   | [u],⟨h7,_⟩ =>
    refine⟨u::vs,⟨⟨⟨b',0,none⟩,Sf (by rw[k1,e0]; rfl),?_⟩,h2⟩,h7,h3⟩;rcases g3 with ⟨α,R,x,rfl,hT⟩ | ⟨u',rfl,hT⟩ | ⟨n,g4,hT⟩
    rotate_right
    ·obtain⟨cs,rfl,O,q2⟩:=g4 _ _ _ h7;exact Bx.load (R:=XL n) (x:=⟨cs,O,q2⟩) (S:=λ_=>True) (a:=[]) (cs:=cs) (dd:=[]) h5 (by simp[Bo,Value.cells]) rfl hT
    ·obtain⟨cs,O,rfl⟩:=h7;exact Bx.load (a:=[]) (dd:=[]) h5 (by simp[Bo,Rep.val_cells O]) O hT
    ·obtain⟨rfl,O⟩:=h7;have hB:Bx w b' (Bo [u]).toArray T':=h5;exact Ld hT (hB.cell' (by simp[Bo,HF O]))
 | [],_::_,h=>h.elim
 | .tmp _::_,[],h=>h.elim
 | .cell _ _::_,[],h=>h.elim
def nvl (vs:List Value) (i:Nat):Value:=vs.getD i undef
theorem BF {ρ:Type} {P:Program} {fn:Func} {n:Nat} {H:Blk} {rin:Res} {w0:World} {q:ρ->(Nat->Value)->Di} {r:ρ} {l:AR} {res:Res} {rs:List ResultVar} (vs:List Value) (ns:List Nat) (hr:fn.results=rs.toArray) (h:ResE P l res rs (q r (nvl vs)).ret) (hs:BZ res (q r (nvl vs)).res ns) :
  GE (Sta (ctx n H rin w0) l res) .ret (endQ P fn H rin q w0) (some r):=λa w O r' a1=>by
 cases a1
 obtain⟨us,U,h2⟩:=h.get O;refine bodyPost_ret (WU (a:={ a with defers:=[] }) O.frmA hr U) O.defers ⟨nvl vs,us,rfl,?_⟩;have hk:∀ b,(ctx n H rin w0).K b↔b<w0.heap.size/\¬ Bof rin b:=λb=>Iff.rfl;refine⟨h2.mono hs.stay, λr v c h=>by obtain⟨n,_,U⟩:=hs.get h; exact(O.conts n v c U).mono hs.stay (λ_ _=>rfl), λr v c r' v' c' h h' a2=>by obtain⟨n,n2,U,h2,h3⟩:=hs.get2 h h' a2; exact O.excl n v c n2 v' c' h2 h3 U, λr v c h b hb=>?_,O.keep⟩
 obtain⟨n',_,U⟩:=hs.get h
 have:=O.own n' v c U b hb
 rw[hk] at this;by_cases h3:b<w0.heap.size
 ·exact .inr (Classical.byContradiction λh4=>this ⟨h3,h4⟩)
 ·exact .inl (by omega)
end
section
def Bld {β:Type} (l:AR) (place:Nat->Option (Nat × Nat)) (R:Rep β):List (Nat × Operand)->β->β->Prop
 | [],x,x'=>x=x'
 | (i,o)::ps,x,x'=>∃ (α:Type) (T:Rep α) (y0 y:α) (off:Nat) (set:α->β),opE l o=some (.rd T y)/\AK R x off T y0 set/\place i=some (off,T.sz)/\Bld l place R ps (set y) x'
theorem Bld.cons {α β:Type} {l:AR} {place:Nat->Option (Nat × Nat)} {R:Rep β} {i:Nat} {o:Operand} {ps:List (Nat × Operand)} {x x':β} {T:Rep α} {y0 y:α} {off:Nat} {set:α->β}
  (p:AK R x off T y0 set) (h:opE l o=some (.rd T y)) (O:place i=some (off,T.sz)) (k:Bld l place R ps (set y) x'):Bld l place R ((i,o)::ps) x x':=⟨α,T,y0,y,off,set,h,p,O,k⟩
theorem Bld.get {β:Type} {Γ:Ctx} {l:AR} {res:Res} {a:Act} {w:World} (ha:Sta Γ l res a w) {place:Nat->Option (Nat × Nat)} {R:Rep β}:∀ {ps:List (Nat × Operand)} {x x':β} {C:Array Value},Bld l place R ps x x'->R.rel (Shr Γ.H res w) w C.toList x ->
  ∃ C',Instr.fill place C (ps.map λp=>(p.1,a.eval p.2))=some C'/\R.rel (Shr Γ.H res w) w C'.toList x'
 | [],x,x',C,h,U=>by have h:x=x':=h; subst h; exact⟨C,rfl,U⟩
 | (i,o)::ps,x,x',C,h,U=>by
  obtain⟨α,T,y0,y,off,set,h1,h2,h3,h4⟩:=h;obtain⟨cs,O,k2⟩:=ha.vl h1;obtain⟨a',c,d,g1,g2,g3,g4⟩:=h2 _ w _ U;have hv:(a.eval o).cells.toList=cs:=by rw[k2]; exact Rep.val_cells O
  have a1:(a.eval o).cells.size=T.sz:=by rw[<- Array.length_toList,hv,T.len O]
  have a6:C.size=a'.length+T.sz+d.length:=by
   have:C.toList.length=C.size:=by simp
   rw[<- this,g1]; simp[T.len g3]; omega
  have a2:spl C off (a.eval o).cells.toList=(a'++cs++d).toArray:=by
   rw[hv]; unfold spl; rw[g1,<- g2]; congr 1
   have:cs.length=c.length:=by rw[T.len O,T.len g3]
   simp[this]
  have:=Bld.get ha (C:=(a'++cs++d).toArray) h4 (g4 _ w cs y Br.rfl' O)
  obtain⟨C',q1,q2⟩:=this;refine⟨C',?_,q2⟩;simp only[List.map_cons];rw[OC h3 a1 (by omega),a2]; exact q1
theorem OG {P:Program} {w:World}:∀ (fs:List Field) (pl:List (Nat × Nat)),fs.map (λf=>(f.offset,(P.info? f.type).map (·.size)))=pl.map (λp=>(p.1,some p.2)) ->
  (fs.mapM (m:=Sem) λf=>do pure (f.offset,<- sizeOf f.type)).run P w=.ok pl w
 | [],[],_=>rfl
 | f::fs,p::pl,h=>by
  simp only[List.map_cons,List.cons.injEq,Prod.mk.injEq] at h;obtain⟨⟨U,O⟩,h3⟩:=h;have hs:(sizeOf f.type).run P w=.ok p.2 w:=by
   cases hi:P.info? f.type with
   | none=>rw[hi] at O; cases O
   | some i =>
    rw[hi] at O;simp only[Option.map_some,Option.some.injEq] at O;simp[sizeOf,typeInfo,program,hi,O,pure,bind,Sem.bind,Sem.run]
  simp only[List.mapM_cons,Sem.run_bind,hs,Result.andThen,Sem.run_pure,OG fs pl h3,U]
 | [],_::_,h=>by cases h
 | _::_,[],h=>by cases h
section
variable {C:World->World->Prop} {ρ:Type} {P:Program} {Γ:Ctx} {l:AR} {res:Res} {m:Option ρ} {os rest:List Oper} {N:ρ->Exit->Act->World->Prop}
 {d:Tmp} {ty:TypeId} {pos:String} {after:Array Edge} {g:Option (Nat × Bool)}
theorem bld {β:Type} {R:Rep β} {x0 x':β} {T:TypeId} {z:Value} {sz by_:Nat} {parts:Array (Nat × Operand)} {fs:Array Field} (pl:List (Nat × Nat)) (hT:P.underlying T=some (.struct fs)) (hI:TI P T z sz by_) (O:R.agg=true) (U:Zr R z.cells.toList x0)
  (hp:fs.toList.map (λf=>(f.offset,(P.info? f.type).map (·.size)))=pl.map (λp=>(p.1,some p.2))) (h:Bld l (λi:Nat=>pl[i]?) R parts.toList x0 x'):Run C P Γ l res ⟨some d,.build T parts,ty,pos,after,g⟩ (.rd R x'):=λa w ha=>by
 obtain⟨C',h1,h2⟩:=h.get ha (U _ w);refine⟨.agg C', λw' _=>Lh rfl ?_,C'.toList,h2, by simp[Rep.val,O]⟩;have e1:(fs.mapM (m:=Sem) λf=>do pure (f.offset,<- sizeOf f.type)).run P w'=.ok pl.toArray w':=by
  rw[<- Array.toArray_toList (xs:=fs),List.mapM_toArray];simp only[map_eq_pure_bind,Sem.run_bind,OG fs.toList pl hp,Result.andThen,Sem.run_pure]
 have e2:(parts.map λ(i,x)=>(i,a.eval x)).toList=parts.toList.map λp=>(p.1,a.eval p.2):=by simp
 unfold Instr.build;simp only[Sem.run_bind,FF hI,Result.andThen,run_underlying hT,e1,e2];have e3:(λi:Nat=>pl.toArray[i]?)=λi:Nat=>pl[i]? := by funext i; simp
 rw[e3,h1]; rfl
theorem bldA {α:Type} {R:Rep α} {n:Nat} (b:List α) (v:Vector α n) (xs:List Operand) {T e:TypeId} {z:Value} {sz by_ O:Nat} {ze:Value} {parts:Array (Nat × Operand)} (hT:P.underlying T=some (.array n e)) (hI:TI P T z sz by_) (U:z.cells.size=n * R.sz) (hE:TI P e ze R.sz O) (hp:parts=(xs.zipIdx.map λx=>(x.2,x.1)).toArray) (hx:RdA l R xs b) (hv:v.toList=b) :
  Run C P Γ l res ⟨some d,.build T parts,ty,pos,after,g⟩ (.rd (Az n R) v):=λa w ha=>by
 obtain⟨k1,k2,k3⟩:=RdA.get ha hx;have a1:b.length=n:=by rw[<- hv]; simp
 have hc:Instr.fill (λi=>some (i * R.sz,R.sz)) z.cells ((xs.map a.eval).zipIdx.map λx=>(x.2,x.1))=some (Bo (xs.map a.eval)).toArray:=by
  have:=OD (sz:=R.sz) (xs.map a.eval) 0 z.cells k3 (by simp[U,k2,a1])
  simpa using this
 have a2:(parts.map λ(i,x)=>(i,a.eval x)).toList=(xs.map a.eval).zipIdx.map λx=>(x.2,x.1):=by
  subst hp;simp[List.zipIdx_map]
 refine⟨.agg (Bo (xs.map a.eval)).toArray, λw' _=>Lh rfl ?_,Bo (xs.map a.eval), by rw[<- hv] at k1; exact k1,rfl⟩;unfold Instr.build;simp only[Sem.run_bind,FF hI,Result.andThen,run_underlying hT,CY hE,a2,hc];rfl
def CM:List Ent->Ent
 | [e]=>e
 | es=>.tup es
theorem XM {S:Blk} {w:World} {es:List Ent} {vs:List Value} (h:C5 S w es vs):(CM es).holds S w (retv vs):=by
 match es,vs,h with
 | [],[],_=>exact⟨[],trivial,rfl⟩
 | [e],[v],h=>exact h.1
 | e::e2::es,v::O::vs,h=>exact⟨v::O::vs,h,rfl⟩
 | [],_::_,h=>exact h.elim
 | _::_,[],h=>exact h.elim
 | [_],_::_::_,h=>exact h.2.elim
 | _::_::_,[_],h=>exact h.2.elim
def nm (mp:List (Nat × Nat)) (k:Nat):Nat:=(lk mp k).getD k
def aft (ns:List Nat) (mp:List (Nat × Nat)) (q res:Res):Res:=(q.map λx=>(nm mp x.1,x.2))++(ns.map λn=>(n,none))++res
theorem EE {α:Type}:∀ {l l':List (Nat × α)} {t:Nat},lk (l++l') t=(lk l t).or (lk l' t)
 | [],l',t=>by simp[lk]
 | (k,v)::l,l',t=>by
  rw[List.cons_append,Cn,Cn]
  split
  ·rfl
  ·exact EE
theorem XN {ns:List Nat} {t:Nat}:lk (ns.map λn=>(n,(none:Option (Value × AO)))) t=if ns.contains t then some none else none:=by
 induction ns with
 | nil=>rfl
 | cons n ns O =>
  rw[List.map_cons,Cn,O];by_cases h:n=t
  ·subst h; simp
  ·simp[h,Ne.symm h]
theorem Sg {mp:List (Nat × Nat)} {k:Nat} {y:Option (Value × AO)}:∀ {q:Res},lk (q.map λx=>(nm mp x.1,x.2)) k=some y->∃ k',nm mp k'=k/\lk q k'=some y
 | [],h=>by cases h
 | (k0,y0)::q,h=>by
  rw[List.map_cons,Cn] at h
  split at h
  ·rename_i O; cases h; exact⟨k0,O, by rw[Cn,if_pos rfl]⟩
  ·rename_i O;obtain⟨k',U,h2⟩:=Sg h;refine⟨k',U,?_⟩;rw[Cn,if_neg (λe=>O (by rw[e]; exact U))]; exact h2
theorem FK {ns:List Nat} {mp:List (Nat × Nat)} {q:Res} {k:Nat} {v:Value} {c:AO} (h:lr (aft ns mp q res) k=some (v,c)) :
  (∃ k',nm mp k'=k/\lr q k'=some (v,c))\/(ns.contains k=false/\lr res k=some (v,c)):=by
 unfold lr aft at h;rw[EE,EE,XN] at h
 cases O:lk (q.map λx=>(nm mp x.1,x.2)) k with
 | some y =>
  rw[O] at h;simp only[Option.some_or,Option.getD_some] at h;subst h;obtain⟨k',h1,h2⟩:=Sg O;exact .inl ⟨k',h1, by simp[lr,h2]⟩
 | none =>
  rw[O] at h;by_cases U:ns.contains k=true
  ·rw[if_pos U] at h; simp at h
  ·rw[if_neg U] at h;simp only[Option.none_or] at h;exact .inr ⟨by simpa using U,h⟩
def Ent.flat (e:Ent):Prop:=∀ S w S' w' v,e.holds S w v->e.holds S' w' v
theorem Sta.called {a:Act} {w w':World} (ha:Sta Γ l res a w) {rin:Res} {ns:List Nat} {mp:List (Nat × Nat)} {H:Blk} {q:Di} {vs:List Value} (hr:BZ res rin ns)
  (hH:∀ b,H b↔Γ.H b\/∃ r v c,lr res r=some (v,c)/\ns.contains r=false/\AS v=some b) (hp:Sd H rin q w w' vs) :
  (Sta Γ l (aft ns mp q.res res) a w'/\Br (Shr Γ.H res w) (Shr Γ.H (aft ns mp q.res res) w') w w')/\(CM q.ret).holds (Shr Γ.H (aft ns mp q.res res) w') w' (retv vs) /\
   (∀ b,b<w.heap.size->¬ Bof rin b->w'.heap[b]? = w.heap[b]?):=by
 have a1:∀ b,Bof rin b->∃ n∈ns,∃ v c,lr res n=some (v,c)/\AS v=some b:=λb ⟨r,v,c,O,h2⟩=>by
  obtain⟨n,h3,h4⟩:=hr.get O; exact⟨n,h3,v,c,h4,h2⟩
 have hother:∀ k v c,ns.contains k=false->lr res k=some (v,c)->∀ b,AS v=some b->b<w.heap.size/\¬ Bof rin b:=λk v c hk h b U=>by
  refine⟨(ha.conts k v c h).lt U, λhB=>?_⟩;obtain⟨n,O,v',c',h2,h3⟩:=a1 b hB;have a2:n≠k:=λe=>by subst e; simp at hk; exact hk O
  exact ha.excl n v' c' k v c h2 h a2 b h3 U
 have a6:∀ k v c,lr q.res k=some (v,c)->∀ k' v' c',ns.contains k'=false->lr res k'=some (v',c')->∀ b,AS v=some b->AS v'≠some b:=λk v c h k' v' c' aa h' b U e=>by
  obtain⟨O,h2⟩:=hother k' v' c' aa h' b e;rcases hp.own k v c h b U with h3 | h3
  ·omega
  ·exact h2 h3
 have a7:Br (Shr Γ.H res w) (Shr Γ.H (aft ns mp q.res res) w') w w':=λb U=>by
  have a8:¬ Bof rin b:=λhB=>by obtain⟨n,_,v,c,h2,h3⟩:=a1 b hB; exact U.2.1 n v c h2 h3
  refine⟨⟨Nat.lt_of_lt_of_le U.1 hp.keep.size, λk v c h e=>?_,U.2.2⟩,hp.keep.block b ⟨U.1,a8⟩⟩;rcases FK h with ⟨k',_,O⟩ | ⟨_,O⟩
  ·rcases hp.own k' v c O b e with h3 | h3
   ·have:=U.1; omega
   ·exact a8 h3
  ·exact U.2.1 k v c O e
 have hst2:Br (Shr H q.res w') (Shr Γ.H (aft ns mp q.res res) w') w' w':=λb U=>by
  refine⟨⟨U.1, λk v c h e=>?_, λh=>U.2.2 ((hH b).2 (.inl h))⟩,rfl⟩;rcases FK h with ⟨k',_,O⟩ | ⟨h0,O⟩
  ·exact U.2.1 k' v c O e
  ·exact U.2.2 ((hH b).2 (.inr ⟨k,v,c,O,h0,e⟩))
 refine⟨⟨⟨ha.size,ha.defers, λt e ht=>?_, λk v c h=>?_, λk v c k2 v2 c2 h h2 a2 b U=>?_, λk v c h b U=>?_,?_,ha.old,ha.hid⟩,a7⟩,XM (hp.ret.mono hst2), λb O h2=>hp.keep.block b ⟨O,h2⟩⟩
 ·obtain⟨u,O,h2⟩:=ha.slots t e ht; exact⟨u,O,e.mono a7 h2⟩
 ·rcases FK h with ⟨k',_,O⟩ | ⟨h0,O⟩
  ·exact(hp.conts k' v c O).mono hst2 (λ_ _=>rfl)
  ·exact(ha.conts k v c O).mono a7 (λb U=>hp.keep.block b (hother k v c h0 O b U))
 ·rcases FK h with ⟨k',e1,O⟩ | ⟨h0,O⟩ <;> rcases FK h2 with ⟨k2',e2,h3⟩ | ⟨h4,h3⟩
  ·exact hp.excl k' v c k2' v2 c2 O h3 (λe=>a2 (by rw[<- e1,<- e2,e])) b U
  ·exact a6 k' v c O k2 v2 c2 h4 h3 b U
  ·exact λe=>a6 k2' v2 c2 h3 k v c h0 O b e U
  ·exact ha.excl k v c k2 v2 c2 O h3 a2 b U
 ·rcases FK h with ⟨k',_,O⟩ | ⟨h0,O⟩
  ·rcases hp.own k' v c O b U with h3 | h3
   ·intro hK; have:=ha.old_lt hK; omega
   ·obtain⟨n,_,v',c',h4,h5⟩:=a1 b h3; exact ha.own n v' c' h4 b h5
  ·exact ha.own k v c O b U
 ·refine ha.keep.tr hp.keep (λb hK=>⟨ha.old_lt hK, λhB=>?_⟩);obtain⟨n,_,v,c,h4,h5⟩:=a1 b hB;exact ha.own n v c h4 b h5 hK
theorem F7.of {a:Act} {w:World} (U:Sta Γ l res a w) {rin:Res} {ns:List Nat} {H:Blk} (hr:BZ res rin ns) (hH:∀ b,H b↔Γ.H b\/∃ r v c,lr res r=some (v,c)/\ns.contains r=false/\AS v=some b) :
  F7 H rin w/\Br (Shr Γ.H res w) (Shr H rin w) w w:=by
 have a2:Br (Shr Γ.H res w) (Shr H rin w) w w:=λb hb=>by
  refine⟨⟨hb.1, λr v c h e=>?_, λh=>?_⟩,rfl⟩
  ·obtain⟨n,_,O⟩:=hr.get h; exact hb.2.1 n v c O e
  ·rcases (hH b).1 h with O | ⟨r,v,c,O,_,h2⟩
   ·exact hb.2.2 O
   ·exact hb.2.1 r v c O h2
 refine⟨⟨λr v c h=>?_, λr v c r' v' c' h h' a1=>?_, λb hb=>?_⟩,a2⟩
 ·obtain⟨n,_,O⟩:=hr.get h; exact(U.conts n v c O).mono a2 (λ_ _=>rfl)
 ·obtain⟨n,n2,O,h2,h3⟩:=hr.get2 h h' a1; exact U.excl n v c n2 v' c' h2 h3 O
 ·rcases (hH b).1 hb with h | ⟨r,v,c,h,h0,h2⟩
  ·refine⟨U.old_lt (U.hid b h), λ⟨r,v,c,O,h2⟩=>?_⟩;obtain⟨n,_,h3⟩:=hr.get O;exact U.own n v c h3 b h2 (U.hid b h)
  ·refine⟨(U.conts r v c h).lt h2, λ⟨r',v',c',O,h3⟩=>?_⟩;obtain⟨n,hn,h4⟩:=hr.get O;have a1:n≠r:=λe=>by subst e; simp at h0; exact h0 hn
   exact U.excl n v' c' r v c h4 h a1 b h3 h2
def Cs (l:AR):List Operand->List Ent->Prop
 | [],[]=>True
 | o::os,p::ps=>(∃ e,opE l o=some e/\∀ S w v,e.holds S w v->p.holds S w v)/\Cs l os ps
 | _,_=>False
theorem Cs.get {a:Act} {w:World} (O:Sta Γ l res a w) {S:Blk} (U:Br (Shr Γ.H res w) S w w):∀ {os:List Operand} {ps:List Ent},Cs l os ps->C5 S w ps (os.map a.eval)
 | [],[],_=>trivial
 | o::os,p::ps,⟨⟨e,h1,h2⟩,h3⟩=>⟨p.mono U (h2 _ _ _ (O.vl h1)),Cs.get O U h3⟩
 | [],_::_,h=>h.elim
 | _::_,[],h=>h.elim
theorem call {σ:Type} {f:FuncId} {F:Func} {b:Code} {args:List Operand} {ats:Array TypeId} {pin:List Ent} {rin:Res} {m1:Option σ} {q:σ->(Nat->Value)->Di} {kk:σ->Option ρ} (ns:List Nat) (mp:List (Nat × Nat)) (hn:Nat.blt d Γ.n=true)
  (hF:P.funcs[f]? = some F) (hB:F.body=some b) (hnm:(F.name == "runtime.NumGoroutine")=false) (hS:Ah P f pin rin m1 q) (hA:Cs l args pin) (hr:BZ res rin ns)
  (k:∀ s nv,GL P os (Sta Γ ((d,CM (q s nv).ret)::l) (aft ns mp (q s nv).res res)) rest N (kk s)) :
  GL P os (Sta Γ l res) (⟨some d,.call ⟨.value (.func f),args.toArray,ats⟩,ty,pos,after,none⟩::rest) N (m1 >>= kk):=λa w ha r hm=>by
 cases hm1:m1 with
 | none=>rw[hm1] at hm; cases hm
 | some s =>
  rw[hm1] at hm;refine wpList_step λK hK=>?_;rw[if_pos (Ds rfl)];have hrun:(execOp a.eval ⟨some d,.call ⟨.value (.func f),args.toArray,ats⟩,ty,pos,after,none⟩).run P w=.ok (.enter f (args.map a.eval).toArray) w:=by
   have e0:a.eval (.func f)=.func (.func f) #[] #[]:=rfl;simp[execOp,resolve,e0,Deferred.ofValue,invoke,FE hF hB hnm]
  unfold Oper.wp; rw[hrun];simp only[Oper.upon];have hH:∀ b,(λb=>Γ.H b\/∃ r v c,lr res r=some (v,c)/\ns.contains r=false/\AS v=some b) b↔Γ.H b\/∃ r v c,lr res r=some (v,c)/\ns.contains r=false/\AS v=some b:=λ_=>Iff.rfl;obtain⟨h1,h2⟩:=F7.of ha hr hH;refine(hS s hm1 _ _ w (Cs.get ha h2 hA) h1).mono λe w' hR=>?_;obtain⟨nv,vs,rfl,hp⟩:=hR;obtain⟨⟨h3,_⟩,h4,_⟩:=ha.called (mp:=mp) hr hH hp;exact hK _ _ (k s nv _ _ (h3.put hn h4) r hm)
end
end
section
variable {ro:Option Nat}
class Dj {ρ:Type} (N:ρ->Exit->Act->World->Prop):Prop where
  ok:∀ (r:ρ) (d:Nat) (v:Value) c a w,N r (.panic c) (a.put (some d) v) w->N r (.panic c) a w
instance {ρ:Type} {P:Program} {y:Code} {Q:ρ->Exit->Act->World->Prop} [h:Dj Q]:Dj (Fk ro P y Q):=⟨λr d v c a w k=>h.ok r d v c a w k⟩
instance {ρ:Type} {i:Nat} {Q:ρ->Exit->Act->World->Prop} [h:Dj Q]:Dj (blkQ i Q):=⟨λr d v c a w k=>h.ok r d v c a w k⟩
instance {ρ:Type} {P:Program} {fn:Func} {H:Blk} {rin:Res} {q:ρ->(Nat->Value)->Di} {w:World}:Dj (endQ P fn H rin q w):=⟨λr d v c a w k=>k⟩
instance {σ β:Type} {i:Nat} {As:σ->Asn} {M:β->Exit->Act->World->Prop} [h:Dj M]:Dj (Gf i As M):=⟨λr d v c a w k=>by
  cases r with
  | inl b=>exact⟨k.1,h.ok b d v c a w k.2⟩
  | inr s=>exact absurd k.1 (by simp)⟩
instance {τ:Type} {Bs:τ->Asn}:Dj (midQ Bs):=⟨λr d v c a w k=>absurd k.1 (by simp)⟩
instance {τ ρ:Type} {Bs:τ->Asn} {Q:ρ->Exit->Act->World->Prop} [h:Dj Q]:Dj (midR Bs Q):=⟨λr d v c a w k=>by
  cases r with
  | inl b=>exact⟨k.1,h.ok b d v c a w k.2⟩
  | inr s=>exact absurd k.1 (by simp)⟩
structure SH (Γ:Ctx) (l0:AR) (res0:Res) (ws:List Nat) (l:AR) (res:Res) (a:Act) (w0 w:World):Prop where
  s0:Sta Γ l0 res0 a w0
  s:Sta Γ l res a w
  cw:CW res0 ws w0 w
  st:Br (Shr Γ.H res0 w0) (Shr Γ.H res w) w0 w
  wsp:∀ r v c b,ws.contains r=true->lr res r=some (v,c)->AS v=some b->(∃ r0 v0 c0,ws.contains r0=true/\lr res0 r0=some (v0,c0)/\AS v0=some b)\/w0.heap.size<=b
section
variable {ρ:Type} {P:Program} {Γ:Ctx} {l l0:AR} {res res0:Res} {ws:List Nat} {m m1 m2:Option ρ} {os:List Oper} {N:ρ->Exit->Act->World->Prop}
  {d:Tmp} {op:Op} {ty:TypeId} {pos:String} {after:Array Edge} {g:Option (Nat × Bool)} {fuel i:Nat} {listed listed':Array Bool} {rest:List Oper}
def GH (P:Program) (ops:List Oper) (Γ:Ctx) (l0:AR) (res0:Res) (ws:List Nat) (l:AR) (res:Res) (N:ρ->Exit->Act->World->Prop) (fuel:Nat) (listed:Array Bool) (m:Option ρ):Prop :=
  ∀ a w0 w,SH Γ l0 res0 ws l res a w0 w->∀ r,m=some r->wpAnyH P .any ops.toArray (N r) (CW res0 ws w0) fuel listed a w
theorem SH.put {a : Act} {w0 w : World} (h : SH Γ l0 res0 ws l res a w0 w) {v : Value} {e0 e : Ent} (O : Nat.blt d Γ.n = true) (U : e0.holds (Shr Γ.H res0 w0) w0 v) (he : e.holds (Shr Γ.H res w) w v) :
    SH Γ ((d,e0)::l0) res0 ws ((d,e)::l) res (a.put (some d) v) w0 w:=⟨h.s0.put O U,h.s.put O he,h.cw,h.st,h.wsp⟩
theorem Bq {id sz : Nat} {ls : Array Bool} {Q : ρ -> Exit -> Act -> World -> Prop} (ws : List Nat) (U : P.follows .mixedOrders = true) (hz : os.toArray.size = sz) (hl : Array.replicate sz false = ls)
    (h:GH P os Γ l res ws l res Q sz ls m) (hd:EV os=true:=by rfl):G ro P (Sta Γ l res) (.region id os.toArray true) Q m:=λa w ha r hr=>by
  refine Ox U (by simpa using hd) (wpAny_of_held (S:=CW res ws { w with drawn:=w.drawn+1 }) _ _ _ _ ?_);have hE:Ext w { w with drawn:=w.drawn+1 }:=Ext.rfl'.dr;have O:=ha.ext hE
  have:=h a _ _ ⟨O,O,CZ.rfl',Br.rfl', λr v c b hw h1 h2=>.inl ⟨r,v,c,hw,h1,h2⟩⟩ r hr
  rw[hz,hl];exact this
theorem hIf (t : Nat) {b : Bool} (U : lk l0 t = some (.rd Ac b)) (hb : lk l t = some (.rd Ac b)) (ht : b = true -> GH P os Γ ((t, .rd Ac true) :: l0) res0 ws ((t, .rd Ac true) :: l) res N fuel listed m1) (hf : b = false -> GH P os Γ ((t, .rd Ac false) :: l0) res0 ws ((t, .rd Ac false) :: l) res N fuel listed m2) :
    GH P os Γ l0 res0 ws l res N fuel listed (if b then m1 else m2):=by
  intro a w0 w O r hr
  cases b with
  | true=>exact ht rfl a w0 w ⟨O.s0.known U rfl,O.s.known hb rfl,O.cw,O.st,O.wsp⟩ r (by simpa using hr)
  | false=>exact hf rfl a w0 w ⟨O.s0.known U rfl,O.s.known hb rfl,O.cw,O.st,O.wsp⟩ r (by simpa using hr)
theorem AZ {σ:Type} {m:Option σ} {k:σ->Option ρ} (h:∀ s,m=some s->GH P os Γ l0 res0 ws l res N fuel listed (k s)):GH P os Γ l0 res0 ws l res N fuel listed (m >>= k):=λa w0 w ha r O=>by
  cases U:m with
  | none=>rw[U] at O; cases O
  | some s=>rw[U] at O; exact h s U a w0 w ha r O
theorem Sta.name {α:Type} {R:Rep α} {x y:α} {t:Nat} {a:Act} {w:World} (U:Sta Γ l res a w) (hx:lk l t=some (.rd R x)) (e:x=y):Sta Γ ((t,.rd R y)::l) res a w:=by
  subst e;refine { U with slots:=λt' e' O=>?_ };rw[Cn] at O
  split at O
  · rename_i hh; subst hh; cases O; exact U.slots t _ hx
  · exact U.slots t' e' O
theorem HH {α:Type} {R:Rep α} {x:α} {k:α->Option ρ} (t:Nat) (U:lk l0 t=some (.rd R x)) (hx:lk l t=some (.rd R x)) (h:∀ y,GH P os Γ ((t,.rd R y)::l0) res0 ws ((t,.rd R y)::l) res N fuel listed (k y)):GH P os Γ l0 res0 ws l res N fuel listed (some x >>= k):=λa w0 w O r hr =>
  h x a w0 w ⟨O.s0.name U rfl,O.s.name hx rfl,O.cw,O.st,O.wsp⟩ r hr
theorem DJ {α:Type} {R:Rep α} {T:TypeId} {b:List α} {v:Value} (r:Nat) (ts:List Nat) (hr:lr res r=some (v,.list R T b)) (ht:FrL l v ts) (k:GH P os Γ (ts.map (λt=>(t,.junk))++l0) res0 ws (ts.map (λt=>(t,.rd (A8 R) b))++l) ((r,none)::res) N fuel listed m):GH P os Γ l0 res0 ws l res N fuel listed m:=λa w0 w U r' a2=>by
  refine k a w0 w ⟨?_,U.s.frz r ts hr ht,U.cw, λbb hb=>⟨?_,(U.st bb hb).2⟩, λr2 v2 c2 b2 h1 O=>?_⟩ r' a2
  · refine { U.s0 with slots:=λt' e' a1=>?_ }
    rw[OE] at a1
    split at a1
    · rename_i hh; cases a1
      obtain⟨u,h1,_⟩:=U.s.slots t' _ (ht.get hh);exact⟨u,h1,trivial⟩
    · exact U.s0.slots t' e' a1
  · have h1:=(U.st bb hb).1
    refine⟨h1.1, λr2 v2 c2 O=>?_,h1.2.2⟩;rw[C0] at O
    split at O
    · cases O
    · exact h1.2.1 r2 v2 c2 O
  · rw[C0] at O
    split at O
    · cases O
    · exact U.wsp r2 v2 c2 b2 h1 O
theorem Sh [Dj N] {e : Ent} (i : Nat) (hi : os.toArray[i]? = some ⟨some d, op, ty, pos, after, g⟩) (hs : Region.noSelect os.toArray = true) (hf : Region.free .any os.toArray listed i = true) (hr : (Region.ready .any os.toArray listed).contains i = true)
    (hg:Grd os l ⟨some d,op,ty,pos,after,g⟩ true) (hn:Nat.blt d Γ.n=true) (hl:listed.setIfInBounds i true=listed')
    (he:Run (CW res0 ws) P Γ l0 res0 ⟨some d,op,ty,pos,after,g⟩ e) (k:GH P os Γ ((d,e)::l0) res0 ws ((d,e)::l) res N fuel listed' m):GH P os Γ l0 res0 ws l res N (fuel+1) listed m:=λa w0 w O r hm=>by
  obtain⟨v,h1,U⟩:=he a w0 O.s0;refine wpAnyH_take hi hs hf hr (λc a w h=>Dj.ok r _ v c a w h) (.inl ⟨hg.wanted O.s, λw' a1=>h1 w' a1⟩) O.cw ?_;rw[hl];exact k _ w0 w (O.put hn U (e.mono O.st U)) r hm
theorem A4 [Dj N] {e:Ent} (i:Nat) (hi:os.toArray[i]? = some ⟨some d,op,ty,pos,after,none⟩) (O:listed.setIfInBounds i true=listed') (U:Run (CW res0 ws) P Γ l0 res0 ⟨some d,op,ty,pos,after,none⟩ e)
 (k:GH P os Γ ((d,e)::l0) res0 ws ((d,e)::l) res N fuel listed' m) (hs:Region.noSelect os.toArray=true:=by kernel_rfl) (hf:Region.free .any os.toArray listed i=true:=by kernel_rfl) (hr:(Region.ready .any os.toArray listed).contains i=true:=by kernel_rfl)
 (hn:Nat.blt d Γ.n=true:=by rfl):GH P os Γ l0 res0 ws l res N (fuel+1) listed m:=Sh i hi hs hf hr (gd0 rfl) hn O U k
theorem Zg [Dj N] {e:Ent} (i:Nat) (hi:os.toArray[i]? = some ⟨some d,op,ty,pos,after,g⟩) (O:listed.setIfInBounds i true=listed') (U:Run (CW res0 ws) P Γ l0 res0 ⟨some d,op,ty,pos,after,g⟩ e)
 (k:GH P os Γ ((d,e)::l0) res0 ws ((d,e)::l) res N fuel listed' m) (hg:Grd os l ⟨some d,op,ty,pos,after,g⟩ true:=by exact gd rfl rfl rfl rfl) (hs:Region.noSelect os.toArray=true:=by kernel_rfl) (hf:Region.free .any os.toArray listed i=true:=by kernel_rfl) (hr:(Region.ready .any os.toArray listed).contains i=true:=by kernel_rfl)
 (hn:Nat.blt d Γ.n=true:=by rfl):GH P os Γ l0 res0 ws l res N (fuel+1) listed m:=Sh i hi hs hf hr hg hn O U k
theorem Si [Dj N] {e : Ent} (i : Nat) (hi : os.toArray[i]? = some ⟨some d, op, ty, pos, after, g⟩) (U : Region.noSelect os.toArray = true) (hf : Region.free .any os.toArray listed i = true) (hr : (Region.ready .any os.toArray listed).contains i = true)
    (hg:Grd os l ⟨some d,op,ty,pos,after,g⟩ true) (hn:Nat.blt d Γ.n=true) (hl:listed.setIfInBounds i true=listed')
    (he:Run AnyW P Γ l res ⟨some d,op,ty,pos,after,g⟩ e) (k:GH P os Γ ((d,.junk)::l0) res0 ws ((d,e)::l) res N fuel listed' m):GH P os Γ l0 res0 ws l res N (fuel+1) listed m:=λa w0 w O r hm=>by
  obtain⟨v,h1,h2⟩:=he a w O.s;refine wpAnyH_take hi U hf hr (λc a w h=>Dj.ok r _ v c a w h) (.inl ⟨hg.wanted O.s, λw' a1=>h1 w' trivial⟩) O.cw ?_;rw[hl];exact k _ w0 w (O.put hn trivial h2) r hm
theorem OH [Dj N] {e : Ent} (i : Nat) (hi : os.toArray[i]? = some ⟨some d, op, ty, pos, after, g⟩) (hs : Region.noSelect os.toArray = true) (hf : Region.free .any os.toArray listed i = true) (hr : (Region.ready .any os.toArray listed).contains i = true)
    (hg:Grd os l ⟨some d,op,ty,pos,after,g⟩ true) (hn:Nat.blt d Γ.n=true) (hl:listed.setIfInBounds i true=listed')
    (U:e.flat) (he:Run AnyW P Γ l res ⟨some d,op,ty,pos,after,g⟩ e) (k:GH P os Γ ((d,e)::l0) res0 ws ((d,e)::l) res N fuel listed' m):GH P os Γ l0 res0 ws l res N (fuel+1) listed m:=λa w0 w O r hm=>by
  obtain⟨v,h1,h2⟩:=he a w O.s;refine wpAnyH_take hi hs hf hr (λc a w h=>Dj.ok r _ v c a w h) (.inl ⟨hg.wanted O.s, λw' a1=>h1 w' trivial⟩) O.cw ?_;rw[hl];exact k _ w0 w (O.put hn (U _ _ _ _ _ h2) h2) r hm
theorem Zf [Dj N] {e:Ent} (i:Nat) (hi:os.toArray[i]? = some ⟨some d,op,ty,pos,after,none⟩) (U:listed.setIfInBounds i true=listed') (O:e.flat) (he:Run AnyW P Γ l res ⟨some d,op,ty,pos,after,none⟩ e)
 (k:GH P os Γ ((d,e)::l0) res0 ws ((d,e)::l) res N fuel listed' m) (hs:Region.noSelect os.toArray=true:=by kernel_rfl) (hf:Region.free .any os.toArray listed i=true:=by kernel_rfl) (hr:(Region.ready .any os.toArray listed).contains i=true:=by kernel_rfl)
 (hn:Nat.blt d Γ.n=true:=by rfl):GH P os Γ l0 res0 ws l res N (fuel+1) listed m:=OH i hi hs hf hr (gd0 rfl) hn U O he k
theorem AM [Dj N] (i : Nat) (hi : os.toArray[i]? = some ⟨some d, op, ty, pos, after, g⟩) (U : Region.noSelect os.toArray = true) (hf : Region.free .any os.toArray listed i = true) (hr : (Region.ready .any os.toArray listed).contains i = true)
    (hg:Grd os l ⟨some d,op,ty,pos,after,g⟩ false) (hn:Nat.blt d Γ.n=true) (hl:listed.setIfInBounds i true=listed')
    (k:GH P os Γ ((d,.un)::l0) res0 ws ((d,.un)::l) res N fuel listed' m):GH P os Γ l0 res0 ws l res N (fuel+1) listed m:=λa w0 w O r hm=>by
  refine wpAnyH_take hi U hf hr (λc a w h=>Dj.ok r _ undef c a w h) (.inr ⟨hg.wanted O.s,rfl⟩) O.cw ?_;rw[hl];exact k _ w0 w (O.put hn rfl rfl) r hm
theorem hSk [Dj N] (i:Nat) (hi:os.toArray[i]? = some ⟨some d,op,ty,pos,after,g⟩) (O:listed.setIfInBounds i true=listed') (k:GH P os Γ ((d,.un)::l0) res0 ws ((d,.un)::l) res N fuel listed' m)
 (U:Grd os l ⟨some d,op,ty,pos,after,g⟩ false:=by exact gd rfl rfl rfl rfl) (hs:Region.noSelect os.toArray=true:=by kernel_rfl) (hf:Region.free .any os.toArray listed i=true:=by kernel_rfl) (hr:(Region.ready .any os.toArray listed).contains i=true:=by kernel_rfl)
 (hn:Nat.blt d Γ.n=true:=by rfl):GH P os Γ l0 res0 ws l res N (fuel+1) listed m:=AM i hi hs hf hr U hn O k
theorem AV (O:Region.ready .any os.toArray listed=[]) (h:GE (Sta Γ l res) .normal N m):GH P os Γ l0 res0 ws l res N fuel listed m:=λa w0 w U r hm=>wpAnyH_done O (h a w U.s r hm) fuel
theorem SH.grew {a : Act} {w0 w w' : World} (h : SH Γ l0 res0 ws l res a w0 w) {r : Nat} {x : Value × AO} (hw : ws.contains r = true) (hs : Sta Γ l ((r, some x) :: res) a w' /\ Br (Shr Γ.H res w) (Shr Γ.H ((r, some x) :: res) w') w w') (hg : Grew res r w w')
    (hx:∀ b,AS x.1=some b->(∃ v0 c0,lr res r=some (v0,c0)/\AS v0=some b)\/w.heap.size<=b):SH Γ l0 res0 ws l ((r,some x)::res) a w0 w':=by
  obtain⟨wr,h1,h2⟩:=hg;refine⟨h.s0,hs.1,?_,h.st.tr hs.2, λr2 v2 c2 b2 k1 O U=>?_⟩
  · refine CZ.gr h.cw h1 (λb hb=>⟨Nat.lt_of_lt_of_le hb.1 h.cw.size, λe=>?_⟩)
    obtain⟨v0,c0,k1,O⟩:=h2 b e;rcases h.wsp r v0 c0 b hw k1 O with ⟨r1,v1,c1,k5,U,k4⟩ | U
    · exact hb.2 r1 v1 c1 k5 U k4
    · have:=hb.1; omega
  · rw[C0] at O
    split at O
    · rename_i e; subst e; cases O
      rcases hx b2 U with ⟨v0,c0,q1,q2⟩ | q1
      · exact h.wsp _ v0 c0 b2 k1 q1 q2
      · exact .inr (Nat.le_trans h.cw.size q1)
    · exact h.wsp r2 v2 c2 b2 k1 O U
theorem hDo {r : Nat} {x : Value -> Value × AO} (i : Nat) (hi : os.toArray[i]? = some ⟨some d, op, ty, pos, after, g⟩) (hr : Region.ready .any os.toArray listed = [i]) (hg : Grd os l ⟨some d, op, ty, pos, after, g⟩ true) (hn : Nat.blt d Γ.n = true) (hl : listed.setIfInBounds i true = listed') (hw : ws.contains r = true)
    (he:Eff P Γ l res ⟨some d,op,ty,pos,after,g⟩ r x) (hx:∀ u,(x u).1=u) (k:∀ u,GH P os Γ ((d,.val u)::l0) res0 ws ((d,.val u)::l) ((r,some (x u))::res) N fuel listed' m):GH P os Γ l0 res0 ws l res N (fuel+1) listed m:=λa w0 w ha ρ' hm=>by
  obtain⟨w',u,h1,O,h3,h4⟩:=he a w ha.s;refine wpAnyH_all hr (by simp) (λj hj=>?_);simp only[List.mem_singleton] at hj;subst hj;have a6:=hg.wanted ha.s;unfold wpOp;simp only[hi,a6,if_true];refine .inl ?_;unfold Oper.wp; rw[h1];have a2:∀ b,AS (x u).1=some b->(∃ v0 c0,lr res r=some (v0,c0)/\AS v0=some b)\/w.heap.size<=b:=λb hb=>by
    by_cases h5:w.heap.size<=b
    · exact .inr h5
    · refine .inl (Classical.byContradiction λa7=>?_)
      have hc:=O.1.conts r _ _ (C0.trans (if_pos rfl));by_cases hS:Shr Γ.H res w b
      · exact(O.2 b hS).1.2.1 r _ _ (C0.trans (if_pos rfl)) hb
      · have hK:¬ Γ.K b:=O.1.own r _ _ (C0.trans (if_pos rfl)) b hb
        refine hS ⟨by omega, λr' v' c' a1 e=>?_, λhh=>hK (ha.s.hid b hh)⟩;by_cases U:r=r'
        · subst U; exact a7 ⟨v',c',a1,e⟩
        · exact O.1.excl r _ _ r' v' c' (C0.trans (if_pos rfl)) ((C0.trans (if_neg U)).trans a1) U b hb e
  have hS:=ha.grew hw O h4 a2;refine⟨hS.cw,?_⟩;rw[hl];exact k u _ w0 w' (hS.put hn ⟨rfl,h3⟩ ⟨rfl,h3⟩) ρ' hm
theorem Zo {r:Nat} {x:Value->Value × AO} (i:Nat) (hi:os.toArray[i]? = some ⟨some d,op,ty,pos,after,none⟩) (O:listed.setIfInBounds i true=listed') (hw:ws.contains r=true)
 (U:Eff P Γ l res ⟨some d,op,ty,pos,after,none⟩ r x) (k:∀ u,GH P os Γ ((d,.val u)::l0) res0 ws ((d,.val u)::l) ((r,some (x u))::res) N fuel listed' m) (hx:∀ u,(x u).1=u:=by exact λ_=>rfl) (hr:Region.ready .any os.toArray listed=[i]:=by kernel_rfl)
 (hn:Nat.blt d Γ.n=true:=by rfl):GH P os Γ l0 res0 ws l res N (fuel+1) listed m:=hDo i hi hr (gd0 rfl) hn O hw U hx k
theorem hDoS {r : Nat} {x : Value × AO} {v0 : Value} {c0 : AO} (i : Nat) (hi : os.toArray[i]? = some ⟨none, op, ty, pos, after, g⟩) (hr : Region.ready .any os.toArray listed = [i]) (hg : Grd os l ⟨none, op, ty, pos, after, g⟩ true) (hl : listed.setIfInBounds i true = listed') (hw : ws.contains r = true) (hv : lr res r = some (v0, c0)) (hx : x.1 = v0)
    (he:EffS P Γ l res ⟨none,op,ty,pos,after,g⟩ r x) (k:GH P os Γ l0 res0 ws l ((r,some x)::res) N fuel listed' m):GH P os Γ l0 res0 ws l res N (fuel+1) listed m:=λa w0 w O ρ' hm=>by
  obtain⟨w',h1,h2,h4⟩:=he a w O.s;refine wpAnyH_all hr (by simp) (λj U=>?_);simp only[List.mem_singleton] at U;subst U;have a1:=hg.wanted O.s;unfold wpOp;simp only[hi,a1,if_true];refine .inl ?_;unfold Oper.wp; rw[h1];have hS:=O.grew hw h2 h4 (λb hb=>.inl ⟨v0,c0,hv, by rw[<- hx]; exact hb⟩);refine⟨hS.cw,?_⟩;rw[hl];exact k a w0 w' hS ρ' hm
theorem Zp {r:Nat} {x:Value × AO} {v0:Value} {c0:AO} (i:Nat) (hi:os.toArray[i]? = some ⟨none,op,ty,pos,after,none⟩) (O:listed.setIfInBounds i true=listed') (hw:ws.contains r=true) (U:lr res r=some (v0,c0)) (hx:x.1=v0)
 (he:EffS P Γ l res ⟨none,op,ty,pos,after,none⟩ r x) (k:GH P os Γ l0 res0 ws l ((r,some x)::res) N fuel listed' m) (hr:Region.ready .any os.toArray listed=[i]:=by kernel_rfl):GH P os Γ l0 res0 ws l res N (fuel+1) listed m:=hDoS i hi hr (gd0 rfl) O hw U hx he k
theorem Sj {σ : Type} {f : FuncId} {F : Func} {b : Code} {args : List Operand} {ats : Array TypeId} {pin : List Ent} {rin : Res} {m1 : Option σ} {q : σ -> (Nat -> Value) -> Di} {kk : σ -> Option ρ} (i : Nat) (ns : List Nat) (mp : List (Nat × Nat)) (e0 : σ -> (Nat -> Value) -> Ent)
    (hi:os.toArray[i]? = some ⟨some d,.call ⟨.value (.func f),args.toArray,ats⟩,ty,pos,after,g⟩) (hrd:Region.ready .any os.toArray listed=[i]) (hl:listed.setIfInBounds i true=listed') (hg:Grd os l ⟨some d,.call ⟨.value (.func f),args.toArray,ats⟩,ty,pos,after,g⟩ true) (hn:Nat.blt d Γ.n=true)
    (hF:P.funcs[f]? = some F) (hB:F.body=some b) (hnm:(F.name == "runtime.NumGoroutine")=false) (hS:Ah P f pin rin m1 q) (hA:Cs l args pin) (hr:BZ res rin ns) (hw:ns.all (λn=>ws.contains n)=true)
    (he0:∀ s nv v S w S' w',(CM (q s nv).ret).holds S w v->(e0 s nv).holds S' w' v)
    (k:∀ s nv,GH P os Γ ((d,e0 s nv)::l0) res0 ws ((d,CM (q s nv).ret)::l) (aft ns mp (q s nv).res res) N fuel listed' (kk s)) :
    GH P os Γ l0 res0 ws l res N (fuel+1) listed (m1 >>= kk):=λa w0 w ha r hm=>by
  cases hm1:m1 with
  | none=>rw[hm1] at hm; cases hm
  | some s =>
    rw[hm1] at hm;refine wpAnyH_all hrd (by simp) (λj hj=>?_);simp only[List.mem_singleton] at hj;subst hj;have hgw:=hg.wanted ha.s;unfold wpOp;simp only[hi,hgw,if_true];refine .inl ?_;have hrun:(execOp a.eval ⟨some d,.call ⟨.value (.func f),args.toArray,ats⟩,ty,pos,after,g⟩).run P w=.ok (.enter f (args.map a.eval).toArray) w:=by
      have e0:a.eval (.func f)=.func (.func f) #[] #[]:=rfl;simp[execOp,resolve,e0,Deferred.ofValue,invoke,FE hF hB hnm]
    unfold Oper.wp; rw[hrun];simp only[Oper.upon];have hH:∀ b,(λb=>Γ.H b\/∃ r v c,lr res r=some (v,c)/\ns.contains r=false/\AS v=some b) b↔Γ.H b\/∃ r v c,lr res r=some (v,c)/\ns.contains r=false/\AS v=some b:=λ_=>Iff.rfl;obtain⟨h1,h2⟩:=F7.of ha.s hr hH;refine(hS s hm1 _ _ w (Cs.get ha.s h2 hA) h1).mono λe w' hR=>?_;obtain⟨nv,vs,rfl,hp⟩:=hR;obtain⟨⟨h3,h5⟩,h4,h6⟩:=ha.s.called (mp:=mp) hr hH hp
    have hlent:∀ b,Bof rin b->(∃ r0 v0 c0,ws.contains r0=true/\lr res0 r0=some (v0,c0)/\AS v0=some b)\/w0.heap.size<=b:=λb ⟨r',v,c,q1,q2⟩=>by
      obtain⟨n,q3,q4⟩:=hr.get q1;have hn':ws.contains n=true:=by simpa using (List.all_eq_true.1 hw) n q3
      exact ha.wsp n v c b hn' q4 q2
    have hcw:CW res0 ws w0 w':=by
      refine CZ.tr ha.cw hp.keep (λb hb=>⟨Nat.lt_of_lt_of_le hb.1 ha.cw.size, λhB=>?_⟩);rcases hlent b hB with ⟨r0,v0,c0,q1,q2,q3⟩ | q1
      · exact hb.2 r0 v0 c0 q1 q2 q3
      · have:=hb.1; omega
    refine⟨hcw,?_⟩;rw[hl];refine k s nv _ w0 w' (SH.put ⟨ha.s0,h3,hcw,ha.st.tr h5, λr2 v2 c2 b2 k1 k2 k3=>?_⟩ hn (he0 s nv _ _ _ _ _ h4) h4) r hm;rcases FK k2 with ⟨k',q1,q2⟩ | ⟨q1,q2⟩
    · rcases hp.own k' v2 c2 q2 b2 k3 with q3 | q3
      · exact .inr (Nat.le_trans ha.cw.size q3)
      · exact hlent b2 q3
    · exact ha.wsp r2 v2 c2 b2 k1 q2 k3
theorem hKn {b b':Bool} (t:Nat) (U:lk l0 t=some (.rd Ac b)) (hb:lk l t=some (.rd Ac b)) (e:b=b') (k:GH P os Γ ((t,.rd Ac b')::l0) res0 ws ((t,.rd Ac b')::l) res N fuel listed m):GH P os Γ l0 res0 ws l res N fuel listed m:=λa w0 w O r hr =>
  k a w0 w ⟨O.s0.known U e,O.s.known hb e,O.cw,O.st,O.wsp⟩ r hr
theorem hRun {e0 e : Ent} (i : Nat) (hi : os.toArray[i]? = some ⟨some d, op, ty, pos, after, g⟩) (hr : Region.ready .any os.toArray listed = [i]) (hg : Grd os l ⟨some d, op, ty, pos, after, g⟩ true) (hn : Nat.blt d Γ.n = true) (hl : listed.setIfInBounds i true = listed')
    (h0:∀ S w S' w' v,e.holds S w v->e0.holds S' w' v) (he:Run Eq P Γ l res ⟨some d,op,ty,pos,after,g⟩ e) (k:GH P os Γ ((d,e0)::l0) res0 ws ((d,e)::l) res N fuel listed' m):GH P os Γ l0 res0 ws l res N (fuel+1) listed m:=λa w0 w O ρ' hm=>by
  obtain⟨u,h1,U⟩:=he a w O.s;refine wpAnyH_all hr (by simp) (λj hj=>?_);simp only[List.mem_singleton] at hj;subst hj;have a1:=hg.wanted O.s;unfold wpOp;simp only[hi,a1,if_true];refine .inl ?_;unfold Oper.wp; rw[h1 w rfl];refine⟨O.cw,?_⟩;rw[hl];exact k _ w0 w (O.put hn (h0 _ _ _ _ _ U) U) ρ' hm
theorem anyJ {e:Ent}:∀ (S:Blk) (w:World) (S':Blk) (w':World) (v:Value),e.holds S w v->Ent.junk.holds S' w' v:=λ_ _ _ _ _ _=>trivial
theorem hDoB {r : Nat} {T : TypeId} {es : List Ent} (i : Nat) (hi : os.toArray[i]? = some ⟨some d, op, ty, pos, after, g⟩) (U : Region.ready .any os.toArray listed = [i]) (hg : Grd os l ⟨some d, op, ty, pos, after, g⟩ true) (hn : Nat.blt d Γ.n = true) (hl : listed.setIfInBounds i true = listed') (hw : ws.contains r = true)
    (he:Eff P Γ l res ⟨some d,op,ty,pos,after,g⟩ r (λv=>(v,.box T es))) (k:∀ u,GH P os Γ ((d,.val (A7 u 0))::l0) res0 ws ((d,.val (A7 u 0))::l) ((r,some (u,.box T es))::res) N fuel listed' m):GH P os Γ l0 res0 ws l res N (fuel+1) listed m :=
  hDo i hi U hg hn hl hw he (λ_=>rfl) (λu a w0 w O ρ' hm=>by
    have hb:=Lm (O.s.conts r _ _ (C0.trans (if_pos rfl)))
    have:=k u a w0 w
    rw[hb] at this
    exact this O ρ' hm)
theorem Lq {σ : Type} {f : FuncId} {F : Func} {b : Code} {args : List Operand} {ats : Array TypeId} {pin : List Ent} {rin : Res} {m1 : Option σ} {q : σ -> (Nat -> Value) -> Di} {kk : σ -> Option ρ} (i : Nat) (ns : List Nat) (mp : List (Nat × Nat))
    (hi:os.toArray[i]? = some ⟨some d,.call ⟨.value (.func f),args.toArray,ats⟩,ty,pos,after,g⟩) (hrd:Region.ready .any os.toArray listed=[i]) (hl:listed.setIfInBounds i true=listed') (hg:Grd os l ⟨some d,.call ⟨.value (.func f),args.toArray,ats⟩,ty,pos,after,g⟩ true) (hn:Nat.blt d Γ.n=true)
    (hF:P.funcs[f]? = some F) (hB:F.body=some b) (hnm:(F.name == "runtime.NumGoroutine")=false) (hS:Ah P f pin rin m1 q) (hA:Cs l args pin) (hr:BZ res rin ns) (hw:ns.all (λn=>ws.contains n)=true)
    (k:∀ s nv,GH P os Γ ((d,.junk)::l0) res0 ws ((d,CM (q s nv).ret)::l) (aft ns mp (q s nv).res res) N fuel listed' (kk s)) :
    GH P os Γ l0 res0 ws l res N (fuel+1) listed (m1 >>= kk):=Sj i ns mp (λ_ _=>.junk) hi hrd hl hg hn hF hB hnm hS hA hr hw (λ_ _ _ _ _ _ _ _=>trivial) k
theorem Be {σ : Type} {f : FuncId} {F : Func} {b : Code} {args : List Operand} {ats : Array TypeId} {pin : List Ent} {rin : Res} {m1 : Option σ} {q : σ -> (Nat -> Value) -> Di} {kk : σ -> Option ρ} (i : Nat) (ns : List Nat) (mp : List (Nat × Nat))
    (hi:os.toArray[i]? = some ⟨some d,.call ⟨.value (.func f),args.toArray,ats⟩,ty,pos,after,g⟩) (hrd:Region.ready .any os.toArray listed=[i]) (hl:listed.setIfInBounds i true=listed') (hg:Grd os l ⟨some d,.call ⟨.value (.func f),args.toArray,ats⟩,ty,pos,after,g⟩ true) (hn:Nat.blt d Γ.n=true)
    (hF:P.funcs[f]? = some F) (hB:F.body=some b) (hnm:(F.name == "runtime.NumGoroutine")=false) (hS:Ah P f pin rin m1 q) (hA:Cs l args pin) (hr:BZ res rin ns) (hw:ns.all (λn=>ws.contains n)=true)
    (hfl:∀ s nv,(CM (q s nv).ret).flat) (k:∀ s nv,GH P os Γ ((d,CM (q s nv).ret)::l0) res0 ws ((d,CM (q s nv).ret)::l) (aft ns mp (q s nv).res res) N fuel listed' (kk s)) :
    GH P os Γ l0 res0 ws l res N (fuel+1) listed (m1 >>= kk):=Sj i ns mp (λs nv=>CM (q s nv).ret) hi hrd hl hg hn hF hB hnm hS hA hr hw (λs nv v S w S' w' h=>hfl s nv S w S' w' v h) k
end
end
section
variable {ro:Option Nat}
section
variable {C:World->World->Prop} {ρ σ α:Type} {P:Program} {Γ:Ctx} {l:AR} {res:Res} {m m1 m2:Option ρ} {os rest:List Oper} {N:ρ->Exit->Act->World->Prop} {Q:ρ->Exit->Act->World->Prop} {A B:Asn} {c:Code} {e:Exit}
  {d:Tmp} {ty:TypeId} {pos:String} {after:Array Edge} {g:Option (Nat × Bool)}
theorem Sta.kn {a:Act} {w:World} (O:Sta Γ l res a w) {b b':Bool} (t:Nat) (U:lk l t=some (.rd Ac b)) (e:b=b'):Sta Γ ((t,.rd Ac b')::l) res a w:=O.known U e
theorem Bf (t:Nat) {b:Bool} (O:lk l t=some (.rd Ac b)) (U:b=true->GL P os (Sta Γ ((t,.rd Ac true)::l) res) rest N m1) (hf:b=false->GL P os (Sta Γ ((t,.rd Ac false)::l) res) rest N m2):GL P os (Sta Γ l res) rest N (if b then m1 else m2):=xIf t O U hf
theorem Aj {b b':Bool} (t:Nat) (O:lk l t=some (.rd Ac b)) (e:b=b') (h:GL P os (Sta Γ ((t,.rd Ac b')::l) res) rest N m):GL P os (Sta Γ l res) rest N m:=λa w U=>h a w (U.kn t O e)
theorem AI {R:Rep α} {x:α} {k:α->Option ρ} (t:Nat) (O:lk l t=some (.rd R x)) (h:∀ y,GL P os (Sta Γ ((t,.rd R y)::l) res) rest N (k y)):GL P os (Sta Γ l res) rest N (some x >>= k):=QY t O h
theorem Al {m:Option σ} {k:σ->Option ρ} (h:∀ s,m=some s->GL P os A rest N (k s)):GL P os A rest N (m >>= k):=Oy h
theorem BW {R:Rep α} {T:TypeId} {b:List α} {v:Value} (r:Nat) (ts:List Nat) (O:lr res r=some (v,.list R T b)) (U:FrL l v ts) (k:GL P os (Sta Γ (ts.map (λt=>(t,.rd (A8 R) b))++l) ((r,none)::res)) rest N m):GL P os (Sta Γ l res) rest N m:=xFrz r ts O U k
theorem lNew (R:Rep α) (T:TypeId) (r:Nat) (k:GL P os (Sta Γ l ((r,some (.slice none 0 0,.list R T []))::res)) rest N m):GL P os (Sta Γ l res) rest N m:=xNil R T r k
theorem Sk (R:Rep α) (t:Nat) (O:lk l t=some (.val (.slice none 0 0))) (k:GL P os (Sta Γ ((t,.rd (A8 R) [])::l) res) rest N m):GL P os (Sta Γ l res) rest N m:=XI R t O k
theorem XO (t:Nat) {b:Bool} (O:lk l t=some (.rd Ac b)) (U:b=true->GQ P os (Sta Γ ((t,.rd Ac true)::l) res) rest N m1) (hf:b=false->GQ P os (Sta Γ ((t,.rd Ac false)::l) res) rest N m2):GQ P os (Sta Γ l res) rest N (if b then m1 else m2):=xIf t O U hf
theorem qKn {b b':Bool} (t:Nat) (O:lk l t=some (.rd Ac b)) (e:b=b') (h:GQ P os (Sta Γ ((t,.rd Ac b')::l) res) rest N m):GQ P os (Sta Γ l res) rest N m:=λa w U=>h a w (U.kn t O e)
theorem Sl {R:Rep α} {x:α} {k:α->Option ρ} (t:Nat) (O:lk l t=some (.rd R x)) (h:∀ y,GQ P os (Sta Γ ((t,.rd R y)::l) res) rest N (k y)):GQ P os (Sta Γ l res) rest N (some x >>= k):=QY t O h
theorem C3 {m:Option σ} {k:σ->Option ρ} (h:∀ s,m=some s->GQ P os A rest N (k s)):GQ P os A rest N (m >>= k):=Oy h
theorem gKn {b b':Bool} (t:Nat) (O:lk l t=some (.rd Ac b)) (e:b=b') (h:G ro P (Sta Γ ((t,.rd Ac b')::l) res) c Q m):G ro P (Sta Γ l res) c Q m:=λa w U=>h a w (U.kn t O e)
theorem Ca {m:Option σ} {k:σ->Option ρ} (h:∀ s,m=some s->G ro P A c Q (k s)):G ro P A c Q (m >>= k):=Oy h
theorem gEx {ι:Type} {A:ι->Asn} (h:∀ i,G ro P (A i) c Q m):G ro P (λa w=>∃ i,A i a w) c Q m:=xEx h
theorem gFrz {R:Rep α} {T:TypeId} {b:List α} {v:Value} (r:Nat) (ts:List Nat) (O:lr res r=some (v,.list R T b)) (U:FrL l v ts) (k:G ro P (Sta Γ (ts.map (λt=>(t,.rd (A8 R) b))++l) ((r,none)::res)) c Q m):G ro P (Sta Γ l res) c Q m:=xFrz r ts O U k
theorem Dk (R:Rep α) (T:TypeId) (r:Nat) (k:G ro P (Sta Γ l ((r,some (.slice none 0 0,.list R T []))::res)) c Q m):G ro P (Sta Γ l res) c Q m:=xNil R T r k
theorem Cl (R:Rep α) (T:TypeId) (r:Nat) (k:GE (Sta Γ l ((r,some (.slice none 0 0,.list R T []))::res)) e Q m):GE (Sta Γ l res) e Q m:=xNil R T r k
theorem Eb {r : Nat} {op : Op} {T : TypeId} {es : List Ent} (hn : Nat.blt d Γ.n = true) (he : Eff P Γ l res ⟨some d, op, ty, pos, after, none⟩ r (λv => (v, .box T es)))
    (k:∀ u,GL P os (Sta Γ ((d,.val (A7 u 0))::l) ((r,some (u,.box T es))::res)) rest N m):GL P os (Sta Γ l res) (⟨some d,op,ty,pos,after,none⟩::rest) N m:=λa w ha ρ hm=>by
  obtain⟨w',u,h1,⟨O,_⟩,h3,_⟩:=he a w ha;have U:=Lm (O.conts r _ _ (C0.trans (if_pos rfl)));exact st (Ds rfl) h1 (k u _ _ (O.put hn ⟨by rw[U], by rw[U]; exact h3⟩) ρ hm)
theorem Bld.done {β:Type} {place:Nat->Option (Nat × Nat)} {R:Rep β} {x x':β} (h:x=x'):Bld l place R [] x x':=h
def RdP {α:Type} (l:AR) (R:Rep α):Nat->List (Nat × Operand)->List α->Prop
  | _,[],[]=>True
  | j,(i,o)::ps,x::xs=>(i=j/\RdO l R o x)/\RdP l R (j+1) ps xs
  | _,_,_=>False
theorem RdP.get {R:Rep α}:∀ {ps:List (Nat × Operand)} {j:Nat} {xs:List α},RdP l R j ps xs->∃ os:List Operand,ps=(os.zipIdx j).map (λx=>(x.2,x.1))/\RdA l R os xs
  | [],_,[],_=>⟨[],rfl,trivial⟩
  | (i,o)::ps,j,x::xs,h=>by
    obtain⟨os,O,U⟩:=RdP.get h.2;obtain⟨⟨rfl,h4⟩,_⟩:=h;exact⟨o::os, by rw[O]; simp,h4,U⟩
  | [],_,_::_,h=>h.elim
  | _::_,_,[],h=>h.elim
theorem lit {R : Rep α} (b : List α) {n : Nat} {parts : List (Nat × Operand)} {z : Value} {T e : TypeId} {by_ : Nat} (r : Nat) (O : RdP l R 0 parts b) (U : b.length = n)
    (hT:P.underlying T=some (.slice e)) (hE:TI P e z R.sz by_) (h0:Nat.blt 0 R.sz=true) (hm:Nat.ble (n * R.sz) 16777216=true) :
    Eff P Γ l res ⟨some d,.buildSlice T n parts.toArray,ty,pos,after,g⟩ r (λu=>(u,.list R e b)):=by
  obtain⟨os,rfl,h2⟩:=O.get;exact lits b os r rfl h2 U hT hE h0 hm
theorem litA {R : Rep α} {n : Nat} (b : List α) (v : Vector α n) {T e : TypeId} {z : Value} {sz by_ O : Nat} {ze : Value} {parts : List (Nat × Operand)} (hx : RdP l R 0 parts b) (hv : v.toList = b) (hT : P.underlying T = some (.array n e)) (hI : TI P T z sz by_) (U : z.cells.size = n * R.sz) (hE : TI P e ze R.sz O) :
    Run C P Γ l res ⟨some d,.build T parts.toArray,ty,pos,after,g⟩ (.rd (Az n R) v):=by
  obtain⟨os,rfl,h2⟩:=hx.get;exact bldA b v os hT hI U hE rfl h2 hv
theorem FJ.val {u:Value} (h:u.oneCell'=true):FJ u [.val u]:=λS w=>⟨[u], by simp[Bo],⟨rfl,h⟩,trivial⟩
theorem FJ.zr {R:Rep α} {x:α} {z:Value} (h:Zr R z.cells.toList x):FJ z [.rd R x]:=FJ.rd h
theorem BN.sc {t:TypeId} {n:Nat} (h:Sc P t):BN P t false n:=h
theorem BN.ag {t:TypeId} {n:Nat} {z:Value} {by_:Nat} (h:Ag P t) (k:TI P t z n by_):BN P t true n:=⟨h,z,by_,k⟩
def andI (a b:Int):Int:=E2 .and .i64 a b
def shrI (a:Int) (n:Nat):Int:=a.fdiv (2 ^ (min n 64))
theorem I.and {x y:Operand} {T T':TypeId} {a b:Int} (O:opE l x=some (.rd A3 a)) (U:opE l y=some (.rd A3 b)):Run C P Γ l res ⟨some d,.binOp .and T x y T',ty,pos,after,g⟩ (.rd A3 (andI a b)):=FG (γ:=Unit) O U rfl rfl
theorem I.shr {β:Type} {k':IntKind} {O:β->Int} {x y:Operand} {T T':TypeId} {a:Int} {b:β} (U:opE l x=some (.rd A3 a)) (hy:opE l y=some (.rd (Bn k' O) b)) (h0:0<=O b):Run C P Γ l res ⟨some d,.binOp .shr T x y T',ty,pos,after,g⟩ (.rd A3 (shrI a (O b).toNat)):=shrL U hy h0 rfl
theorem Sm {R : Rep α} {b : List α} {x y : Operand} {T T' e : TypeId} {E : Ent} (hn : Nat.blt d Γ.n = true) (hx : opE l x = some E) (U : Vw R res E b) (hy : opE l y = some (.val (.slice none 0 0))) (hT : P.underlying T = some (.slice e))
    (ht:b=[]->GL P os (Sta Γ ((d,.rd Ac true)::l) res) rest N m) (hf:GL P os (Sta Γ ((d,.rd Ac false)::l) res) rest N m):GL P os (Sta Γ l res) (⟨some d,.binOp .eql T x y T',ty,pos,after,none⟩::rest) N m:=λa w O r hm=>by
  obtain⟨p,c,xs,h5,h2,h3⟩:=U.get O (O.vl hx);have a1:=Xs (P:=P) (w:=w) (d:=d) (ty:=ty) (pos:=pos) (after:=after) (g:=none) (T':=T') hT h5 (O.vl hy).1;refine st (Ds rfl) a1 ?_;by_cases hp:p=none
  · have hb : b = [] := by
      subst hp;rcases h2.2 with ⟨_,h0⟩ | ⟨b',o,sp,cap,U,_⟩
      · exact List.eq_nil_of_length_eq_zero h0
      · cases U
    exact ht hb _ w (O.put hn (by rw[decide_eq_true hp]; exact EB)) r hm
  · exact hf _ w (O.put hn (by rw[decide_eq_false hp]; exact EB)) r hm
theorem Sta.frzB {a:Act} {w:World} (U:Sta Γ l res a w) {R:Rep α} {T:TypeId} {x:α} {v:Value} (r t:Nat) (hr:lr res r=some (v,.box T [.rd R x])) (ht:lk l t=some (.val (A7 v 0))):Sta Γ ((t,.rp R x)::l) ((r,none)::res) a w:=by
  have a6:Br (Shr Γ.H res w) (Shr Γ.H ((r,none)::res) w) w w:=λbb hb=>⟨⟨hb.1, λr' v' c' O=>by
    rw[C0] at O
    split at O
    · cases O
    · exact hb.2.1 r' v' c' O,hb.2.2⟩,rfl⟩
  have a1:∀ r' v' c',lr ((r,none)::res) r'=some (v',c')->r≠r'/\lr res r'=some (v',c'):=λr' v' c' O=>by
    rw[C0] at O
    split at O
    · cases O
    · exact⟨‹_›,O⟩
  refine⟨U.size,U.defers, λt' e a2=>?_, λr' v' c' O=>(U.conts r' v' c' (a1 _ _ _ O).2).mono a6 (λ_ _=>rfl), λr1 v1 c1 r2 v2 c2 h1 h2 a7=>U.excl r1 v1 c1 r2 v2 c2 (a1 _ _ _ h1).2 (a1 _ _ _ h2).2 a7, λr' v' c' O=>U.own r' v' c' (a1 _ _ _ O).2,U.keep,U.old,U.hid⟩;rw[Cn] at a2
  split at a2
  · rename_i hh; subst hh; cases a2
    obtain⟨u,h1,rfl,-⟩:=U.slots t _ ht;rcases U.conts r v _ hr with h2 | ⟨b,o,h2,h3,b',vs,rfl,rfl,h4⟩
    · exact h2.elim
    · match vs,h4 with
      | [y],⟨⟨cs,h5,h6⟩,_⟩ =>
        simp only[AS,Option.some.injEq] at h2;subst h2;refine⟨_,h1,b',0,cs,rfl,⟨(Array.getElem?_eq_some_iff.1 h3).1, λr' v' c' O e=>?_, λhH=>U.own r _ _ hr b' rfl (U.hid b' hH)⟩,R.mono a6 h5, λj q hq=>?_⟩
        · obtain⟨k1,k2⟩:=a1 _ _ _ O
          exact U.excl r _ _ r' v' c' hr k2 k1 b' rfl e
        · have hB:Bx w b' (Bo [y]).toArray T:=h3
          have a8:Bo [y]=cs:=by rw[h6]; simp[Bo,Rep.val_cells h5]
          rw[hB.cell,a8]; simpa using hq
  · obtain⟨u,h1,h2⟩:=U.slots t' e a2
    exact⟨u,h1,e.mono a6 h2⟩
theorem Gg {R:Rep α} {T:TypeId} {x:α} {v:Value} (r t:Nat) (O:lr res r=some (v,.box T [.rd R x])) (U:lk l t=some (.val (A7 v 0))) (k:GL P os (Sta Γ ((t,.rp R x)::l) ((r,none)::res)) rest N m):GL P os (Sta Γ l res) rest N m:=λa w ha=>k a w (ha.frzB r t O U)
theorem DO {R:Rep α} {T:TypeId} {x:α} {v:Value} (r t:Nat) (O:lr res r=some (v,.box T [.rd R x])) (U:lk l t=some (.val (A7 v 0))) (k:G ro P (Sta Γ ((t,.rp R x)::l) ((r,none)::res)) c Q m):G ro P (Sta Γ l res) c Q m:=λa w ha=>k a w (ha.frzB r t O U)
theorem CN {σ : Type} {f : FuncId} {F : Func} {b : Code} {args : List Operand} {ats : Array TypeId} {pin : List Ent} {rin : Res} {m1 : Option σ} {q : σ -> (Nat -> Value) -> Di} {kk : σ -> Option ρ} (ns : List Nat) (mp : List (Nat × Nat)) (hg : Grd os l ⟨some d, .call ⟨.value (.func f), args.toArray, ats⟩, ty, pos, after, g⟩ true) (hn : Nat.blt d Γ.n = true)
    (hF:P.funcs[f]? = some F) (hB:F.body=some b) (hnm:(F.name == "runtime.NumGoroutine")=false) (hS:Ah P f pin rin m1 q) (hA:Cs l args pin) (hr:BZ res rin ns)
    (k:∀ s nv,GL P os (Sta Γ ((d,CM (q s nv).ret)::l) (aft ns mp (q s nv).res res)) rest N (kk s)) :
    GL P os (Sta Γ l res) (⟨some d,.call ⟨.value (.func f),args.toArray,ats⟩,ty,pos,after,g⟩::rest) N (m1 >>= kk):=λa w ha r hm=>by
  cases hm1:m1 with
  | none=>rw[hm1] at hm; cases hm
  | some s =>
    rw[hm1] at hm;refine wpList_step λK hK=>?_;rw[if_pos (hg.wanted ha)];have hrun:(execOp a.eval ⟨some d,.call ⟨.value (.func f),args.toArray,ats⟩,ty,pos,after,g⟩).run P w=.ok (.enter f (args.map a.eval).toArray) w:=by
      have e0:a.eval (.func f)=.func (.func f) #[] #[]:=rfl;simp[execOp,resolve,e0,Deferred.ofValue,invoke,FE hF hB hnm]
    unfold Oper.wp; rw[hrun];simp only[Oper.upon];have hH:∀ b,(λb=>Γ.H b\/∃ r v c,lr res r=some (v,c)/\ns.contains r=false/\AS v=some b) b↔Γ.H b\/∃ r v c,lr res r=some (v,c)/\ns.contains r=false/\AS v=some b:=λ_=>Iff.rfl;obtain⟨h1,h2⟩:=F7.of ha hr hH;refine(hS s hm1 _ _ w (Cs.get ha h2 hA) h1).mono λe w' hR=>?_;obtain⟨nv,vs,rfl,hp⟩:=hR;obtain⟨⟨h3,_⟩,h4,_⟩:=ha.called (mp:=mp) hr hH hp;exact hK _ _ (k s nv _ _ (h3.put hn h4) r hm)
def EF (res:Res):List Value->List Ent->Prop
  | [],[]=>True
  | u::us,e::es=>(e=.val u/\∃ r v T ds,u=A7 v 0/\lr res r=some (v,.box T ds))/\EF res us es
  | _,_=>False
theorem cN:EF res [] []:=trivial
theorem cQ {v:Value} {T:TypeId} {ds:List Ent} {us:List Value} {es:List Ent} (r:Nat) (h:lr res r=some (v,.box T ds)) (k:EF res us es):EF res (A7 v 0::us) (.val (A7 v 0)::es):=⟨⟨rfl,r,v,T,ds,rfl,h⟩,k⟩
theorem EF.get {a:Act} {w:World} (O:Sta Γ l res a w) {S:Blk}:∀ {us:List Value} {es:List Ent},EF res us es->C5 S w es us
  | [],[],_=>trivial
  | u::us,e::es,h=>by
    obtain⟨⟨rfl,r,v,T,ds,rfl,U⟩,h2⟩:=h;refine⟨⟨rfl,?_⟩,EF.get O h2⟩;rw[Lm (O.conts r v _ U)];rcases O.conts r v _ U with h3 | ⟨b,o,_,_,b',vs,rfl,_⟩
    · exact h3.elim
    · rfl
  | [],_::_,h=>h.elim
  | _::_,[],h=>h.elim
theorem EO {σ : Type} {x : Operand} {f : FuncId} {F : Func} {b : Code} {cap : List Value} {args : List Operand} {ats : Array TypeId} {pa pc : List Ent} {rin : Res} {m1 : Option σ} {q : σ -> (Nat -> Value) -> Di} {kk : σ -> Option ρ} (ns : List Nat) (mp : List (Nat × Nat)) (hg : Grd os l ⟨some d, .call ⟨.value x, args.toArray, ats⟩, ty, pos, after, g⟩ true) (hn : Nat.blt d Γ.n = true)
    (hx:opE l x=some (.val (.func (.func f) #[] cap.toArray))) (hF:P.funcs[f]? = some F) (hB:F.body=some b) (hnm:(F.name == "runtime.NumGoroutine")=false) (hS:Ah P f (pa++pc) rin m1 q) (hA:Cs l args pa) (hC:EF res cap pc) (hr:BZ res rin ns)
    (k:∀ s nv,GL P os (Sta Γ ((d,CM (q s nv).ret)::l) (aft ns mp (q s nv).res res)) rest N (kk s)) :
    GL P os (Sta Γ l res) (⟨some d,.call ⟨.value x,args.toArray,ats⟩,ty,pos,after,g⟩::rest) N (m1 >>= kk):=λa w ha r hm=>by
  cases hm1:m1 with
  | none=>rw[hm1] at hm; cases hm
  | some s =>
    rw[hm1] at hm;refine wpList_step λK hK=>?_;rw[if_pos (hg.wanted ha)];have hrun:(execOp a.eval ⟨some d,.call ⟨.value x,args.toArray,ats⟩,ty,pos,after,g⟩).run P w=.ok (.enter f (args.map a.eval++cap).toArray) w:=by
      simp[execOp,resolve,(ha.vl hx).1,Deferred.ofValue,invoke,FE hF hB hnm,<- Array.append_assoc]
    unfold Oper.wp; rw[hrun];simp only[Oper.upon];have hH:∀ b,(λb=>Γ.H b\/∃ r v c,lr res r=some (v,c)/\ns.contains r=false/\AS v=some b) b↔Γ.H b\/∃ r v c,lr res r=some (v,c)/\ns.contains r=false/\AS v=some b:=λ_=>Iff.rfl;obtain⟨h1,h2⟩:=F7.of ha hr hH;refine(hS s hm1 _ _ w ((Cs.get ha h2 hA).mk (EF.get ha hC)) h1).mono λe w' hR=>?_;obtain⟨nv,vs,rfl,hp⟩:=hR;obtain⟨⟨h3,_⟩,h4,_⟩:=ha.called (mp:=mp) hr hH hp
    exact hK _ _ (k s nv _ _ (h3.put hn h4) r hm)
def chk (p:Prop) [Decidable p]:Option Unit:=if p then some () else none
theorem DP {p:Prop} [Decidable p] {u:Unit} (h:chk p=some u):p:=by
  unfold chk at h; split at h
  · assumption
  · cases h
theorem sN:SubS l []:=trivial
theorem sS {t:Nat} {e:Ent} {l':AR} (h:lk l t=some e) (k:SubS l l'):SubS l ((t,e)::l'):=⟨h,k⟩
theorem Zs {l l':AR} {O U t3 t4:Nat} {e1 e2 e3 e4:Ent} (h1:lk l O=some e1) (h2:lk l U=some e2) (h3:lk l t3=some e3) (h4:lk l t4=some e4) (k:SubS l l'):SubS l ((O,e1)::(U,e2)::(t3,e3)::(t4,e4)::l'):=sS h1 (sS h2 (sS h3 (sS h4 k)))
theorem rN:BZ res [] []:=trivial
theorem rR {r n:Nat} {y:Value × AO} {res':Res} {ns:List Nat} (h:lr res n=some y) (O:ns.contains n=false) (k:BZ res res' ns):BZ res ((r,some y)::res') (n::ns):=⟨⟨y,rfl,h⟩,O,k⟩
theorem Zi {res:Res} {r n:Nat} {y:Value × AO} {res':Res} {ns:List Nat} (h:lr res n=some y) (k:BZ res res' ns) (O:ns.contains n=false:=by rfl):BZ res ((r,some y)::res') (n::ns):=rR h O k
theorem Y0 {res:Res} {r n:Nat} {y:Value × AO} (h:lr res n=some y) (O:([]:List Nat).contains n=false:=by rfl):BZ res [(r,some y)] [n]:=rR h O rN
theorem aN:Cs l [] []:=trivial
theorem aQ {o:Operand} {os:List Operand} {p:Ent} {ps:List Ent} (h:opE l o=some p) (k:Cs l os ps):Cs l (o::os) (p::ps):=⟨⟨p,h, λ_ _ _ h=>h⟩,k⟩
theorem Y1 {l:AR} {o:Operand} {p:Ent} (h:opE l o=some p):Cs l [o] [p]:=aQ h aN
theorem Y2 {l:AR} {o O:Operand} {p U:Ent} (h:opE l o=some p) (h2:opE l O=some U):Cs l [o,O] [p,U]:=aQ h (aQ h2 aN)
theorem pN {R:Rep α} {j:Nat}:RdP l R j [] []:=trivial
theorem pP {R:Rep α} {i j:Nat} {o:Operand} {x:α} {ps:List (Nat × Operand)} {xs:List α} (hi:i=j) (h:opE l o=some (.rd R x)) (k:RdP l R (j+1) ps xs):RdP l R j ((i,o)::ps) (x::xs):=⟨⟨hi,.inl h⟩,k⟩
theorem Zu {Γ:Ctx} {l l':AR} {res res':Res} {a:Act} {w:World} (h:Sta Γ l res a w) (ns:List Nat) (O:SubS l l':=by repeat (first | exact sN | refine sS rfl ?_)) (U:BZ res res' ns:=by repeat (first | exact rN | refine rR rfl rfl ?_)):Sta Γ l' res' a w:=h.sub ns O U
theorem Ze {ρ:Type} {P:Program} {fn:Func} {n:Nat} {H:Blk} {rin:Res} {w0:World} {q:ρ->(Nat->Value)->Di} {r:ρ} {l:AR} {res:Res} {rs:List ResultVar} (vs:List Value) (ns:List Nat) (O:fn.results=rs.toArray) (h:ResE P l res rs (q r (nvl vs)).ret:=by repeat (first | exact eN | refine eE rfl ?_)) (U:BZ res (q r (nvl vs)).res ns:=by repeat (first | exact rN | refine rR rfl rfl ?_)) :
 GE (Sta (ctx n H rin w0) l res) .ret (endQ P fn H rin q w0) (some r):=BF vs ns O h U
theorem Zc {ρ:Type} {P:Program} {Γ:Ctx} {l:AR} {res:Res} {os rest:List Oper} {N:ρ->Exit->Act->World->Prop} {d:Nat} {ty:TypeId} {pos:String} {after:Array Edge} {σ:Type} {f:FuncId} {F:Func} {b:Code} {args:List Operand} {ats:Array TypeId} {pin:List Ent} {rin:Res} {m1:Option σ} {q:σ->(Nat->Value)->Di} {kk:σ->Option ρ} (ns:List Nat) (mp:List (Nat × Nat)) (hF:P.funcs[f]? = some F) (hB:F.body=some b) (hS:Ah P f pin rin m1 q)
 (k:∀ s nv,GL P os (Sta Γ ((d,CM (q s nv).ret)::l) (aft ns mp (q s nv).res res)) rest N (kk s)) (hA:Cs l args pin:=by repeat (first | exact aN | refine aQ rfl ?_)) (hr:BZ res rin ns:=by repeat (first | exact rN | refine rR rfl rfl ?_)) (hn:Nat.blt d Γ.n=true:=by rfl) (hnm:(F.name == "runtime.NumGoroutine")=false:=by rfl) :
 GL P os (Sta Γ l res) (⟨some d,.call ⟨.value (.func f),args.toArray,ats⟩,ty,pos,after,none⟩::rest) N (m1 >>= kk):=call ns mp hn hF hB hnm hS hA hr k
theorem eN:ResE P l res [] []:=trivial
theorem eE {t:Tmp} {e:Ent} {rs:List ResultVar} {es:List Ent} (h:lk l t=some e) (k:ResE P l res rs es):ResE P l res (.tmp t::rs) (e::es):=⟨h,k⟩
theorem eC {t:Tmp} {T T':TypeId} {v:Value} {R:Rep α} {x:α} {rs:List ResultVar} {es:List Ent} (r:Nat) (h:lk l t=some (.val (A7 v 0))) (O:lr res r=some (v,.box T' [.rd R x])) (hT:BN P T R.agg R.sz) (k:ResE P l res rs es):ResE P l res (.cell t T::rs) (.rd R x::es) :=
  ⟨⟨r,v,T',h,O,.inl ⟨α,R,x,rfl,hT⟩⟩,k⟩
theorem XP {es:List Ent} (h:∀ e∈es,e.flat):∀ {S w S' w'} {vs:List Value},C5 S w es vs->C5 S' w' es vs:=by
  intro S w S' w' vs O
  induction es generalizing vs with
  | nil=>cases vs with | nil=>trivial | cons=>exact O.elim
  | cons e es U =>
    cases vs with
    | nil=>exact O.elim
    | cons v vs=>exact⟨h e (by simp) _ _ _ _ _ O.1,U (λe he=>h e (by simp[he])) O.2⟩
theorem XQ {es:List Ent} (h:∀ e∈es,e.flat):(Ent.tup es).flat:=λ_ _ _ _ _ ⟨vs,O,U⟩=>⟨vs,XP h O,U⟩
theorem fl0:∀ e∈([]:List Ent),e.flat:=by simp
theorem flC {e:Ent} {es:List Ent} (h:e.flat) (k:∀ e∈es,e.flat):∀ x∈e::es,x.flat:=λx O=>by
  rcases List.mem_cons.1 O with rfl | O
  · exact h
  · exact k x O
theorem C1 {u:Value}:(Ent.val u).flat:=λ_ _ _ _ _ h=>h
theorem Cb {k:IntKind} {f:α->Int} {x:α}:(Ent.rd (Bn k f) x).flat:=λ_ _ _ _ _ h=>h
theorem DY {x:Bool}:(Ent.rd Ac x).flat:=λ_ _ _ _ _ h=>h
end
end
section
open Go Go.RowKit Go.ChangeShapes Go.WideShapes Go.ChangeAt
abbrev EG (w:World):Blk:=Shr (λ_=>False) [] w
section
variable {H:Type} {enc:TypeId × Value->H} {P:Program} {w:World} {base:Nat} {spare:Nat->Bool} {held:Bool}
def Opn {α:Type} (enc:TypeId × Value->H) (P:Program) (w:World) (base:Nat) (spare:Nat->Bool) (held:Bool) (T:TypeId) (R:Rep α) (wf:α->Prop):Prop :=
  ∀ (fuel:Nat) (cs:List Value) (x:DataW H × List MemPlace),DataW.trod enc P w base spare held fuel T cs=some x->∃ y,R.rel (EG w) w cs y/\wf y
theorem Opn.num {α:Type} {k:IntKind} {f:α->Int} {wf:α->Prop} {T:TypeId} (hT:P.underlying T=some (.int k)) (O:∀ n,(Lit.int k n).wf=true->∃ y,f y=n/\wf y):Opn enc P w base spare held T (Bn k f) wf:=λfuel cs x h=>by
  obtain⟨n,rfl,-,hw⟩:=DataW.trod_int hT h;obtain⟨y,rfl,U⟩:=O n hw;exact⟨y,rfl,U⟩
def inI (x:Int):Prop:=-9223372036854775808<=x/\x<=9223372036854775807
theorem Opn.i64 {T:TypeId} (hT:P.underlying T=some (.int .i64)):Opn enc P w base spare held T A3 inI:=Opn.num hT (λn h=>⟨n,rfl, by
  simp[Lit.wf,IntKind.min,IntKind.max,IntKind.signed,IntKind.bits] at h; unfold inI; omega⟩)
theorem Opn.u8 {T:TypeId} (hT:P.underlying T=some (.int .u8)):Opn enc P w base spare held T u8R (λ_=>True):=Opn.num hT (λn h=>⟨UInt8.ofNat n.toNat, by
  simp[Lit.wf,IntKind.min,IntKind.max,IntKind.signed,IntKind.bits] at h; simp; omega,trivial⟩)
theorem Opn.u32 {T:TypeId} (hT:P.underlying T=some (.int .u32)):Opn enc P w base spare held T A9 (λ_=>True):=Opn.num hT (λn h=>⟨UInt32.ofNat n.toNat, by
  simp[Lit.wf,IntKind.min,IntKind.max,IntKind.signed,IntKind.bits] at h; simp; omega,trivial⟩)
theorem Opn.u64 {T:TypeId} (hT:P.underlying T=some (.int .u64)):Opn enc P w base spare held T Ar (λ_=>True):=Opn.num hT (λn h=>⟨UInt64.ofNat n.toNat, by
  simp[Lit.wf,IntKind.min,IntKind.max,IntKind.signed,IntKind.bits] at h; simp; omega,trivial⟩)
theorem Opn.str {T:TypeId} (hT:P.underlying T=some .string):Opn enc P w base spare held T BI (fun s=>s.length≤9223372036854775807):=fun fuel cs x h=>by
  obtain ⟨s,rfl,-,hs⟩:=DataW.trod_string hT h
  exact ⟨s.data.toList, ⟨s, rfl, rfl⟩, by have : s.data.toList.length = s.size := by simp
                                          show s.data.toList.length≤_; rw [this]; exact hs⟩
theorem Sn {α:Type} {R:Rep α} {S:Blk} {K:Nat->List Value} {F:Nat->α}:∀ (l:List Nat),(∀ i∈l,R.rel S w (K i) (F i))->B5 R S w (l.flatMap K) (l.map F)
  | [],_=>rfl
  | i::l,h=>⟨K i,_, by simp,h i (by simp),Sn l (λj O=>h j (by simp[O]))⟩
theorem So {K:Nat->List Value} {sz:Nat} (O:0<sz):∀ (n:Nat) (j:Nat),(∀ i,i<n->(K i).length=sz)->j<n * sz->((List.range n).flatMap K)[j]? = (K (j / sz))[j % sz]?
  | 0,j,_,U=>by simp at U
  | n+1,j,hK,U=>by
    have hl:((List.range n).flatMap K).length=n * sz:=by
      have:∀ m,m<=n->((List.range m).flatMap K).length=m * sz:=by
        intro m hm
        induction m with
        | zero=>simp
        | succ m ih=>rw[List.range_succ,List.flatMap_append,List.length_append,ih (by omega)]; simp[hK m (by omega),Nat.add_mul]
      exact this n (Nat.le_refl _)
    rw[List.range_succ,List.flatMap_append,List.getElem?_append,hl]
    split
    · exact So O n j (λi hi=>hK i (by omega)) ‹_›
    · rename_i a1
      have e:(n+1) * sz=n * sz+sz:=by rw[Nat.add_mul]; omega
      have h1:j / sz=n:=by
        have:j / sz<n+1:=by rw[Nat.div_lt_iff_lt_mul O]; omega
        have:n<=j / sz:=by rw[Nat.le_div_iff_mul_le O]; omega
        omega
      have h2:j % sz=j - n * sz:=by
        have:=Nat.div_add_mod j sz; rw[h1,Nat.mul_comm] at this; omega
      rw[h1,h2]; simp
theorem Opn.slice {α : Type} [Inhabited α] {R : Rep α} {wf : α -> Prop} {T e : TypeId} (hT : P.underlying T = some (.slice e)) (hc : P.cellsOf e = R.sz) (O : Nat.blt 0 R.sz = true) (k : Opn enc P w base spare held e R wf) :
    Opn enc P w base spare held T (A8 R) (λl=>(∀ x∈l,wf x)/\l.length<=9223372036854775807):=λfuel cs x h=>by
  have O:0<R.sz:=Eq.mp Nat.blt_eq O;rcases Go.Deep.open_slice hT h with ⟨rfl,-⟩ | ⟨a,len,cap,m,n,D,Pl,rfl,hb,hl,hm,ac,-,a7⟩
  · exact⟨[],⟨none,0,[],rfl,Rd.nil _ _,rfl, by simp⟩, by simp⟩
  · have af:len<=m:=by rw[ac]; split <;> omega
    rw[hc] at a7
    obtain⟨F,hF⟩:=Go.Deep.choose_lt (α:=List Value × α) (n:=len) (p:=λi y=>w.cells? base (a.add (i * R.sz)) R.sz=some y.1/\R.rel (EG w) w y.1 y.2/\wf y.2) (λi hi=>by
      obtain⟨cs',h1,U⟩:=a7 i (by omega);obtain⟨y,h3,h4⟩:=k n cs' _ U
      exact⟨(cs',y),h1,h3,h4⟩)
    have hK:∀ i,i<len->(F i).1.length=R.sz:=λi hi=>R.len (hF i hi).2.1;have a1:∀ i,i<len->∀ q,q<R.sz->w.cell? ((a.add (i * R.sz)).add q)=((F i).1)[q]? := λi hi q hq=>(World.cells?_some (hF i hi).1).2.2 q hq;have a2:((List.range len).map λi=>(F i).2).length=len:=by simp
    obtain⟨bk,o,sp⟩:=a;have a6:0<len->sp=none:=λhp=>by
      have h1:=a1 0 hp 0 O;have U:((F 0).1)[0]? = some ((F 0).1[0]'(by rw[hK 0 hp]; exact O)):=List.getElem?_eq_getElem _;rw[U] at h1
      simpa [Addr.add] using World.cell?_spot h1
    have hrel:=Sn (R:=R) (S:=EG w) (w:=w) (K:=λi=>(F i).1) (F:=λi=>(F i).2) (List.range len) (λi hi=>(hF i (by simpa using hi)).2.1);have a8:∀ j u,((List.range len).flatMap λi=>(F i).1)[j]? = some u->w.cell? ⟨bk,o+j,none⟩=some u:=λj u hu=>by
      have aa:=hrel.len;rw[a2] at aa;have hj:j<len * R.sz:=by have:=(List.getElem?_eq_some_iff.1 hu).1; rw[aa] at this; exact this
      rw[So O len j hK hj] at hu;have hi:j / R.sz<len:=by rw[Nat.div_lt_iff_lt_mul O]; exact hj
      have U:=a1 (j / R.sz) hi (j % R.sz) (Nat.mod_lt _ O);have ad:=a6 (Nat.lt_of_le_of_lt (Nat.zero_le _) hi);subst ad;rw[CX,CX] at U;have e1:o+j / R.sz * R.sz+j % R.sz=o+j:=by
        have:=Nat.div_add_mod j R.sz; rw[Nat.mul_comm] at this; omega
      rw[e1] at U;rw[U]; exact hu
    refine⟨(List.range len).map λi=>(F i).2,⟨some ⟨bk,o,sp⟩,cap,_, by rw[a2],⟨by rw[hrel.len],?_⟩,hrel,?_⟩,?_, by rw[a2]; have:maxLen=9223372036854775807:=rfl; omega⟩
    · rw[a2]
      refine .inr ⟨bk,o,sp,cap,rfl,hl,hm,?_,a8⟩;by_cases h1:len=0
      · left; subst h1; rfl
      · right; exact a6 (by omega)
    · intro ae b ab
      simp[sblk] at ab;subst ab;refine⟨?_, λr v c h=>by simp[lr,lk] at h, λh=>h⟩
      cases hL:((List.range len).flatMap λi=>(F i).1) with
      | nil=>exact absurd hL ae
      | cons u us=>exact World.block_lt_of_cell? w _ (a8 0 u (by rw[hL]; rfl))
    · intro x hx
      simp only[List.mem_map,List.mem_range] at hx;obtain⟨i,hi,rfl⟩:=hx;exact(hF i hi).2.2
theorem Sq {α:Type} {R:Rep α} {S:Blk} (F:Nat->α):∀ (n:Nat) (cs:List Value),cs.length=n * R.sz->(∀ i,i<n->R.rel S w ((cs.drop (i * R.sz)).take R.sz) (F i))->B5 R S w cs ((List.range n).map F)
  | 0,cs,h,_=>by simp at h; subst h; rfl
  | n+1,cs,h,k=>by
    have e:(n+1) * R.sz=n * R.sz+R.sz:=by rw[Nat.add_mul]; omega
    rw[List.range_succ,List.map_append]
    have U:=Sq (R:=R) (S:=S) F n (cs.take (n * R.sz)) (by simp; omega) (λi hi=>by
      have e2:(i+1) * R.sz<=n * R.sz:=Nat.mul_le_mul_right _ (by omega);have e3:(i+1) * R.sz=i * R.sz+R.sz:=by rw[Nat.add_mul]; omega
      have:=k i (by omega)
      rw[List.drop_take,List.take_take,Nat.min_eq_left (by omega)]; exact this)
    have O:=k n (by omega);have h3:(cs.drop (n * R.sz)).take R.sz=cs.drop (n * R.sz):=List.take_of_length_le (by simp; omega);rw[h3] at O
    have:=U.append (B5.single O)
    rwa [List.take_append_drop] at this
theorem Opn.arr {α : Type} [Inhabited α] {R : Rep α} {wf : α -> Prop} {T e : TypeId} {n : Nat} (hT : P.underlying T = some (.array n e)) (hc : P.cellsOf e = R.sz) (hl : P.cellsOf T = n * R.sz) (k : Opn enc P w base spare held e R wf) :
    Opn enc P w base spare held T (Az n R) (λv=>∀ x∈v.toList,wf x):=λfuel cs x h=>by
  obtain⟨xs,m,-,-,U,a1,hi⟩:=DataW.trod_array hT h;rw[hc] at hi
  obtain⟨F,hF⟩:=Go.Deep.choose_lt (α:=α) (n:=n) (p:=λi y=>R.rel (EG w) w ((cs.drop (i * R.sz)).take R.sz) y/\wf y) (λi O=>by
    have h3:=hi i O;rw[List.getElem?_eq_getElem (by omega)] at h3
    exact k m _ _ h3)
  have hrel:=Sq (R:=R) (S:=EG w) (w:=w) F n cs (by rw[U,hl]) (λi O=>(hF i O).1);have hv:(Vector.mk ((List.range n).map F).toArray (by simp):Vector α n).toList=(List.range n).map F:=by simp[Vector.toList]
  refine⟨Vector.mk ((List.range n).map F).toArray (by simp),?_,?_⟩
  · show B5 R (EG w) w cs _
    rw[hv]; exact hrel
  · intro x hx
    rw[hv] at hx;simp only[List.mem_map,List.mem_range] at hx;obtain⟨i,O,rfl⟩:=hx;exact(hF i O).2
def Bp {γ:Type} (enc:TypeId × Value->H) (P:Program) (w:World) (base:Nat) (spare:Nat->Bool) (held:Bool) (fs:List Field) (o:Nat) (R:Rep γ) (wf:γ->Prop):Prop :=
  ∀ (n:Nat) (cs:List Value),(∀ f∈fs,∃ y,DataW.trod enc P w base spare held n f.type ((cs.drop f.offset).take (P.cellsOf f.type))=some y)->cs.length=o+R.sz->∃ y,R.rel (EG w) w (cs.drop o) y/\wf y
theorem Bp.nil {o:Nat}:Bp enc P w base spare held [] o Dc (λ_=>True):=λn cs _ O=>by
  refine⟨(),?_,trivial⟩;show cs.drop o=[];exact List.drop_eq_nil_of_le (by rw[O]; exact Nat.le_refl _)
theorem Bp.cons {α β : Type} {R : Rep α} {R2 : Rep β} {wf : α -> Prop} {O : β -> Prop} {f : Field} {fs : List Field} {o : Nat} (h1 : Opn enc P w base spare held f.type R wf) (ho : f.offset = o) (hc : P.cellsOf f.type = R.sz) (h2 : Bp enc P w base spare held fs (o + R.sz) R2 O) :
    Bp enc P w base spare held (f::fs) o (BT R R2) (λp=>wf p.1/\O p.2):=λn cs h hl=>by
  obtain⟨x,U⟩:=h f (by simp);rw[ho,hc] at U;obtain⟨y,k1,k2⟩:=h1 _ _ _ U;obtain⟨z,k3,k4⟩:=h2 n cs (λf hf=>h f (by simp[hf])) (by rw[hl]; show o+(R.sz+R2.sz)=_; omega);refine⟨(y,z),⟨_,_,?_,k1,k3⟩,k2,k4⟩;rw[<- List.drop_drop,List.take_append_drop]
theorem Opn.struct {β γ : Type} {R : Rep γ} {g : β -> γ} {wf : γ -> Prop} {wf' : β -> Prop} {T : TypeId} {fs : Array Field} (hT : P.underlying T = some (.struct fs)) (hl : P.cellsOf T = R.sz) (k : Bp enc P w base spare held fs.toList 0 R wf) (of : γ -> β) (hg : ∀ y, g (of y) = y) (hw : ∀ y, wf y -> wf' (of y)) :
    Opn enc P w base spare held T (CH g R) wf':=λfuel cs x h=>by
  obtain⟨xs,n,-,-,O,a1,hi⟩:=DataW.trod_struct hT h
  obtain⟨y,h1,h2⟩:=k n cs (λf hf=>by
    obtain⟨i,U,rfl⟩:=List.mem_iff_getElem.1 hf;have hi'':i<fs.size:=by simpa using U
    have:=hi i (fs[i]) (by simp[hi''])
    rw[List.getElem?_eq_getElem (by omega)] at this
    exact⟨_, by simpa using this⟩) (by rw[O,hl]; omega)
  refine⟨of y,?_,hw y h2⟩;show R.rel (EG w) w cs (g (of y));rw[hg]; simpa using h1
theorem Opn.arg {α : Type} {R : Rep α} {wf : α -> Prop} {T : TypeId} {v : Value} {d : DataW H} {ps : List MemPlace} (k : Opn enc P w base spare held T R wf) (h : DataW.Trod enc P w base spare held T v d ps) (U : R.agg = false /\ v.oneCell' = true \/ R.agg = true /\ ∃ cs, v = .agg cs) :
    ∃ y,(Ent.rd R y).holds (EG w) w v/\wf y:=by
  obtain⟨fuel,hf⟩:=h;obtain⟨y,h1,h2⟩:=k fuel _ _ hf;refine⟨y,⟨_,h1,?_⟩,h2⟩;rcases U with ⟨O,h3⟩ | ⟨O,cs,rfl⟩
  · rw[HF h3]; simp[Rep.val,O]
  · simp[Rep.val,O,Value.cells]
theorem ok5 {P:Program} {w:World} {r:Reach} {b:Nat} {T:TypeId} {v:Value} {fs:Array Field} (hT:P.underlying T=some (.struct fs)) (h:Value.okWide P w r b T v):∃ cs,v=.agg cs:=by
  obtain⟨cs,h,_⟩:=okWide_struct hT h; exact⟨cs,h⟩
end
end
section
theorem IR {S:Blk} {w:World}:∀ {b:List UInt8} {xs:List Value},B5 u8R S w xs b->xs=b.map λc=>.int .u8 (c.toNat:Int)
 | [],xs,h=>by simp only[B5] at h; simp[h]
 | c::b,xs,h=>by
  obtain⟨u,d,rfl,O,U⟩:=h;have O:u=[.int .u8 (c.toNat:Int)]:=O;rw[IR U,O]; rfl
theorem XR (a b:UInt32):(if (a.toNat:Int)<(b.toNat:Int) then (b.toNat:Int) else (a.toNat:Int))=((max a b).toNat:Int):=by
 rw[show max a b=if a<=b then b else a from rfl];by_cases h:a<=b
 ·have:=UInt32.le_iff_toNat_le.1 h
  rw[if_pos h]; split <;> omega
 ·have:¬ a.toNat<=b.toNat:=λk=>h (UInt32.le_iff_toNat_le.2 k)
  rw[if_neg h]; split <;> omega
section
variable {α:Type} {C:World->World->Prop} {P:Program} {Γ:Ctx} {l:AR} {res:Res} {d:Tmp} {ty:TypeId} {pos:String} {after:Array Edge} {g:Option (Nat × Bool)}
theorem W.max {x y:Operand} {at_:Array TypeId} {a b:UInt32} (O:opE l x=some (.rd A9 a)) (U:opE l y=some (.rd A9 b)):Run C P Γ l res ⟨some d,.call ⟨.builtin .max,#[x,y],at_⟩,ty,pos,after,g⟩ (.rd A9 (Max.max a b)):=maxi O U (XR a b)
theorem CO {R:Rep α} {n:Nat} {v:Vector α n} {x:Operand} {T e:TypeId} {z:Value} {by_:Nat} (hx:opE l x=some (.rp (Az n R) v)) (hT:P.underlying T=some (.array n e)) (hE:TI P e z R.sz by_) (U:Nat.blt 0 n=true) (hm:Nat.ble n 281474976710656=true) (h0:Nat.blt 0 R.sz=true) :
  Run C P Γ l res ⟨some d,.slice T x none none none,ty,pos,after,g⟩ (.rd (A8 R) v.toList):=λa w ha=>by
 have U:0<n:=Eq.mp Nat.blt_eq U;have hm:n<=281474976710656:=Nat.le_of_ble_eq_true hm;obtain⟨b,o,cs,h1,h2,h3,h4⟩:=ha.vl hx;have O:v.toList.length=n:=by simp
 refine⟨.slice (some ⟨b,o,none⟩) v.toList.length n, λw' _=>?_,_,⟨some ⟨b,o,none⟩,n,cs,rfl,⟨by rw[O]; exact(B5.len (show B5 R _ w cs v.toList from h3)).trans (by rw[O]),.inr ⟨b,o,none,n,rfl, by omega, by unfold maxLen; omega,.inr rfl,h4⟩⟩,h3, λ_ bb a1=>by cases a1; exact h2⟩,rfl⟩;rw[O];have a2:¬ n=0:=by omega
 simp[execOp,h1,Instr.sliceAt,run_underlying hT,Instr.sliceBounds,Instr.sureAddr,CY hE,Sem.run_pure,Addr.add]
end
def Dl (b:List UInt8) (q:Nat):Nat × Nat:=Utf8.decode ⟨b.toArray⟩ q
def AO.iter (b:List UInt8) (q:Nat):AO where
 nil _ _ _:=False
 nilm _ h:=h
 nilb h:=h.elim
 rel S w v o:=∃ g s,v=.pointer (some ⟨g,0,none⟩)/\o=.stringIter s q/\s.data.toList=b
 mono k h:=h
section
variable {ρ:Type} {P:Program} {Γ:Ctx} {l:AR} {res:Res} {m1 m2:Option ρ} {os rest:List Oper} {N:ρ->Exit->Act->World->Prop} {d:Tmp} {ty:TypeId} {pos:String} {after:Array Edge} {g:Option (Nat × Bool)}
theorem rng (r:Nat) {T:TypeId} {x:Operand} {b:List UInt8} (hx:opE l x=some (.rd BI b)) (hT:P.underlying T=some .string):Eff P Γ l res ⟨some d,.range T x,ty,pos,after,g⟩ r (λv=>(v,.iter b 0)):=λa w U=>by
 obtain⟨s,h1,rfl⟩:=EC (U.vl hx);have O:(execOp a.eval ⟨some d,.range T x,ty,pos,after,g⟩).run P w=.ok (.value (.pointer (some ⟨w.heap.size,0,none⟩))) (w.alloc (.stringIter s 0)):=by
  simp[execOp,h1,run_range_string w T s hT,World.iter]
 exact⟨_,_,O,U.upd r (c:=.iter s.data.toList 0) (Fm w (.stringIter s 0)) (by simp) (λb hb=>.inr (by simp[AS] at hb; omega)) (v:=.pointer (some ⟨w.heap.size,0,none⟩))
  (λS' k'=>.inr ⟨w.heap.size,_,rfl, by show (w.heap.push (Obj.stringIter s 0))[w.heap.size]? = _; simp,_,s,rfl,rfl,rfl⟩),rfl,none,Fm w _, by simp⟩
theorem Sr {x:Operand} {v:Value} {b:List UInt8} {q:Nat} (r:Nat) (hn:Nat.blt d Γ.n=true) (hx:opE l x=some (.val v)) (hr:lr res r=some (v,.iter b q))
  (ht:q<b.length->GL P os (Sta Γ ((d,.tup [.rd Ac true,.rd A3 (q:Int),.rd i32R ((Dl b q).1:Int)])::l) ((r,some (v,.iter b (q+(Dl b q).2)))::res)) rest N m1)
  (hf:¬ q<b.length->GL P os (Sta Γ ((d,.tup [.rd Ac false])::l) res) rest N m2) :
  GL P os (Sta Γ l res) (⟨some d,.next x true,ty,pos,after,none⟩::rest) N (if q<b.length then m1 else m2):=λa w ha ρ hm=>by
 have h1:=(ha.vl hx).1;rcases ha.conts r v _ hr with h2 | ⟨b',o,h2,h3,g',s,rfl,rfl,hs⟩
 ·exact h2.elim
 ·simp only[AS,Option.some.injEq] at h2;subst h2;have a2:s=⟨b.toArray⟩:=by
   cases s with | mk data=>simp only at hs; rw[<- hs]
  have a6:s.size=b.length:=by rw[a2]; rfl
  by_cases U:q<b.length
  ·rw[if_pos U] at hm;have O:(execOp a.eval ⟨some d,.next x true,ty,pos,after,none⟩).run P w=.ok (.value (.tuple #[.bool true,.int .i64 (q:Int),.int .i32 ((Dl b q).1:Int)])) { w with heap:=w.heap.setIfInBounds g' (.stringIter s (q+(Dl b q).2)) }:=by
    simp[execOp,h1,Instr.next,getObj,setObj,Sem.run,h3,a6,U,goInt,<- a2,Dl]
   have a7:g'<w.heap.size:=(Array.getElem?_eq_some_iff.1 h3).1;have a8:w.grownBy { w with heap:=w.heap.setIfInBounds g' (.stringIter s (q+(Dl b q).2)) } (some g'):=by
    refine⟨rfl,rfl,rfl, by simp, λk hk a1=>?_⟩;have a1:k≠g':=λe=>a1 (by rw[e]);simp only[Array.getElem?_setIfInBounds];rw[if_neg (λe=>a1 e.symm)]
   obtain⟨h4,h5⟩:=ha.upd r (v:=.pointer (some ⟨g',0,none⟩)) (c:=.iter b (q+(Dl b q).2)) a8 (λb hb=>⟨_,_,hr, by cases hb; rfl⟩) (λb hb=>.inl ⟨_,_,hr,hb⟩)
    (λS' k'=>.inr ⟨g',.stringIter s (q+(Dl b q).2),rfl, by simp[a7],g',s,rfl,rfl,hs⟩)
   refine st (Ds rfl) O (ht U _ _ (h4.put hn ⟨[_,_,_],⟨⟨_,rfl,rfl⟩,DN,DN,trivial⟩,rfl⟩) ρ hm)
  ·rw[if_neg U] at hm;have O:(execOp a.eval ⟨some d,.next x true,ty,pos,after,none⟩).run P w=.ok (.value (.tuple #[.bool false])) w:=by
    simp[execOp,h1,Instr.next,getObj,Sem.run,h3,a6,U]
   refine st (Ds rfl) O (hf U _ _ (ha.put hn ⟨[_],⟨⟨_,rfl,rfl⟩,trivial⟩,rfl⟩) ρ hm)
end
end
section
section
variable {ρ:Type} {P:Program} {Γ:Ctx} {l l0:AR} {res res0:Res} {ws:List Nat} {m m1 m2:Option ρ} {os:List Oper} {N:ρ->Exit->Act->World->Prop}
 {d:Tmp} {op:Op} {ty:TypeId} {pos:String} {after:Array Edge} {g:Option (Nat × Bool)} {fuel i:Nat} {listed listed':Array Bool} {rest:List Oper}
def GO (P:Program) (os:List Oper) (Γ:Ctx) (l0:AR) (res0:Res) (ws:List Nat) (l:AR) (res:Res) (N:ρ->Exit->Act->World->Prop) (fuel:Nat) (listed:Array Bool) (i:Nat) (m:Option ρ):Prop :=
 ∀ a w0 w,SH Γ l0 res0 ws l res a w0 w->∀ r,m=some r->wpOp P os.toArray (N r) i (λa' w'=>CW res0 ws w0 w'/\wpAnyH P .any os.toArray (N r) (CW res0 ws w0) fuel (listed.setIfInBounds i true) a' w') a w
def AllP {α:Type} (p:α->Prop):List α->Prop
 | []=>True
 | x::l=>p x/\AllP p l
theorem AllP.mem {α:Type} {p:α->Prop}:∀ {l:List α},AllP p l->∀ x∈l,p x
 | [],_,x,h=>by simp at h
 | y::l,h,x,O=>by
  rcases List.mem_cons.1 O with rfl | O
  ·exact h.1
  ·exact AllP.mem h.2 x O
theorem hAlt (is:List Nat) (U:Region.ready .any os.toArray listed=is) (O:is.isEmpty=false) (h:AllP (λi=>GO P os Γ l0 res0 ws l res N fuel listed i m) is):GH P os Γ l0 res0 ws l res N (fuel+1) listed m:=λa w0 w ha r hm =>
 wpAnyH_all U (by intro e; rw[e] at O; cases O) (λi hi=>h.mem i hi a w0 w ha r hm)
theorem XS {σ:Type} {f:FuncId} {F:Func} {b:Code} {args:List Operand} {ats:Array TypeId} {pin:List Ent} {rin:Res} {m1:Option σ} {q:σ->(Nat->Value)->Di} {kk:σ->Option ρ} (i:Nat) (ns:List Nat) (mp:List (Nat × Nat)) (e0:σ->(Nat->Value)->Ent)
  (hi:os.toArray[i]? = some ⟨some d,.call ⟨.value (.func f),args.toArray,ats⟩,ty,pos,after,g⟩) (hl:listed.setIfInBounds i true=listed') (hg:Grd os l ⟨some d,.call ⟨.value (.func f),args.toArray,ats⟩,ty,pos,after,g⟩ true) (hn:Nat.blt d Γ.n=true)
  (hF:P.funcs[f]? = some F) (hB:F.body=some b) (hnm:(F.name == "runtime.NumGoroutine")=false) (hS:Ah P f pin rin m1 q) (hA:Cs l args pin) (hr:BZ res rin ns) (hw:ns.all (λn=>ws.contains n)=true)
  (he0:∀ s nv v S w S' w',(CM (q s nv).ret).holds S w v->(e0 s nv).holds S' w' v)
  (k:∀ s nv,GH P os Γ ((d,e0 s nv)::l0) res0 ws ((d,CM (q s nv).ret)::l) (aft ns mp (q s nv).res res) N fuel listed' (kk s)) :
  GO P os Γ l0 res0 ws l res N fuel listed i (m1 >>= kk):=λa w0 w ha r hm=>by
 cases hm1:m1 with
 | none=>rw[hm1] at hm; cases hm
 | some s =>
  rw[hm1] at hm;have hgw:=hg.wanted ha.s;unfold wpOp;simp only[hi,hgw,if_true];refine .inl ?_;have hrun:(execOp a.eval ⟨some d,.call ⟨.value (.func f),args.toArray,ats⟩,ty,pos,after,g⟩).run P w=.ok (.enter f (args.map a.eval).toArray) w:=by
   have e0:a.eval (.func f)=.func (.func f) #[] #[]:=rfl;simp[execOp,resolve,e0,Deferred.ofValue,invoke,FE hF hB hnm]
  unfold Oper.wp; rw[hrun];simp only[Oper.upon];have hH:∀ b,(λb=>Γ.H b\/∃ r v c,lr res r=some (v,c)/\ns.contains r=false/\AS v=some b) b↔Γ.H b\/∃ r v c,lr res r=some (v,c)/\ns.contains r=false/\AS v=some b:=λ_=>Iff.rfl;obtain⟨h1,h2⟩:=F7.of ha.s hr hH;refine(hS s hm1 _ _ w (Cs.get ha.s h2 hA) h1).mono λe w' hR=>?_;obtain⟨nv,vs,rfl,hp⟩:=hR;obtain⟨⟨h3,h5⟩,h4,h6⟩:=ha.s.called (mp:=mp) hr hH hp
  have hlent:∀ b,Bof rin b->(∃ r0 v0 c0,ws.contains r0=true/\lr res0 r0=some (v0,c0)/\AS v0=some b)\/w0.heap.size<=b:=λb ⟨r',v,c,q1,q2⟩=>by
   obtain⟨n,q3,q4⟩:=hr.get q1;have hn':ws.contains n=true:=by simpa using (List.all_eq_true.1 hw) n q3
   exact ha.wsp n v c b hn' q4 q2
  have hcw:CW res0 ws w0 w':=by
   refine CZ.tr ha.cw hp.keep (λb hb=>⟨Nat.lt_of_lt_of_le hb.1 ha.cw.size, λhB=>?_⟩);rcases hlent b hB with ⟨r0,v0,c0,q1,q2,q3⟩ | q1
   ·exact hb.2 r0 v0 c0 q1 q2 q3
   ·have:=hb.1; omega
  refine⟨hcw,?_⟩;rw[hl];refine k s nv _ w0 w' (SH.put ⟨ha.s0,h3,hcw,ha.st.tr h5, λr2 v2 c2 b2 k1 k2 k3=>?_⟩ hn (he0 s nv _ _ _ _ _ h4) h4) r hm;rcases FK k2 with ⟨k',q1,q2⟩ | ⟨q1,q2⟩
  ·rcases hp.own k' v2 c2 q2 b2 k3 with q3 | q3
   ·exact .inr (Nat.le_trans ha.cw.size q3)
   ·exact hlent b2 q3
  ·exact ha.wsp r2 v2 c2 b2 k1 q2 k3
theorem oRun {e0 e:Ent} (i:Nat) (hi:os.toArray[i]? = some ⟨some d,op,ty,pos,after,g⟩) (hg:Grd os l ⟨some d,op,ty,pos,after,g⟩ true) (hn:Nat.blt d Γ.n=true) (hl:listed.setIfInBounds i true=listed')
  (h0:∀ S w S' w' v,e.holds S w v->e0.holds S' w' v) (he:Run Eq P Γ l res ⟨some d,op,ty,pos,after,g⟩ e) (k:GH P os Γ ((d,e0)::l0) res0 ws ((d,e)::l) res N fuel listed' m):GO P os Γ l0 res0 ws l res N fuel listed i m:=λa w0 w O ρ' hm=>by
 obtain⟨u,h1,U⟩:=he a w O.s;have a1:=hg.wanted O.s;unfold wpOp;simp only[hi,a1,if_true];refine .inl ?_;unfold Oper.wp; rw[h1 w rfl];refine⟨O.cw,?_⟩;rw[hl];exact k _ w0 w (O.put hn (h0 _ _ _ _ _ U) U) ρ' hm
theorem XT {σ:Type} {f:FuncId} {F:Func} {b:Code} {args:List Operand} {ats:Array TypeId} {pin:List Ent} {rin:Res} {m1:Option σ} {q:σ->(Nat->Value)->Di} {kk:σ->Option ρ} (i:Nat) (ns:List Nat) (mp:List (Nat × Nat))
  (hi:os.toArray[i]? = some ⟨some d,.call ⟨.value (.func f),args.toArray,ats⟩,ty,pos,after,g⟩) (hl:listed.setIfInBounds i true=listed') (hg:Grd os l ⟨some d,.call ⟨.value (.func f),args.toArray,ats⟩,ty,pos,after,g⟩ true) (hn:Nat.blt d Γ.n=true)
  (hF:P.funcs[f]? = some F) (hB:F.body=some b) (hnm:(F.name == "runtime.NumGoroutine")=false) (hS:Ah P f pin rin m1 q) (hA:Cs l args pin) (hr:BZ res rin ns) (hw:ns.all (λn=>ws.contains n)=true)
  (hfl:∀ s nv,(CM (q s nv).ret).flat) (k:∀ s nv,GH P os Γ ((d,CM (q s nv).ret)::l0) res0 ws ((d,CM (q s nv).ret)::l) (aft ns mp (q s nv).res res) N fuel listed' (kk s)) :
  GO P os Γ l0 res0 ws l res N fuel listed i (m1 >>= kk):=XS i ns mp (λs nv=>CM (q s nv).ret) hi hl hg hn hF hB hnm hS hA hr hw (λs nv v S w S' w' h=>hfl s nv S w S' w' v h) k
end
end
section
section
variable {P:Program} {w:World}
theorem Ss:∀ (l:List UInt8) (b o:Nat) (acc:ByteArray),(∀ j u,(l.map λc=>Value.int .u8 (c.toNat:Int))[j]? = some u->w.cell? ⟨b,o+j,none⟩=some u) ->
  ∃ s,(Extern.Bytes.loadBytes ⟨b,o,none⟩ l.length acc).run P w=.ok s w/\s.data.toList=acc.data.toList++l
 | [],b,o,acc,h=>⟨acc,rfl, by simp⟩
 | x::l,b,o,acc,h=>by
  have O:w.cell? ⟨b,o,none⟩=some (.int .u8 (x.toNat:Int)):=h 0 _ rfl;obtain⟨s,U,h2⟩:=Ss l b (o+1) (acc.push x) (λj u hu=>by rw[Nat.add_assoc,Nat.add_comm 1 j]; exact h (j+1) u hu);refine⟨s,?_, by rw[h2]; simp⟩
  have hx:((x.toNat:Nat):Int).toNat.toUInt8=x:=by simp
  rw[show (x::l).length=l.length+1 from rfl];unfold Extern.Bytes.loadBytes;simp[O,CX]
  simpa using U
theorem St {p:Option Addr} {c:Nat} {l:List UInt8} {xs:List Value} (h:Rd w (.slice p l.length c) l.length 1 xs) (U:xs=l.map λc=>Value.int .u8 (c.toNat:Int)):∃ s,(Extern.Bytes.bytesOf (.slice p l.length c)).run P w=.ok s w/\s.data.toList=l:=by
 rcases h.2 with ⟨O,h0⟩ | ⟨b,o,sp,cap,O,h1,h2,a1,h3⟩
 ·simp only[Value.slice.injEq] at O;obtain⟨rfl,hl,-⟩:=O
  have:l=[]:=List.length_eq_zero_iff.1 hl
  subst this;exact⟨.empty,rfl,rfl⟩
 ·simp only[Value.slice.injEq,true_and] at O;obtain⟨rfl,-⟩:=O;rcases a1 with he | rfl
  ·have:l=[]:=by rw[U] at he; simpa using he
   subst this; exact⟨.empty,rfl,rfl⟩
  ·obtain⟨s,h4,h5⟩:=Ss l b o .empty (by rw[<- U]; exact h3);exact⟨s,h4, by rw[h5]; rfl⟩
theorem OI {p q:Option Addr} {c d:Nat} {x y:List UInt8} {xs ys:List Value} (hx:Rd w (.slice p x.length c) x.length 1 xs) (O:xs=x.map λc=>Value.int .u8 (c.toNat:Int)) (hy:Rd w (.slice q y.length d) y.length 1 ys) (U:ys=y.map λc=>Value.int .u8 (c.toNat:Int)) :
  (Extern.BytealgCompare.compare #[.slice p x.length c,.slice q y.length d]).run P w=.ok (.int .i64 (Lib.compareBytes x y)) w:=by
 obtain⟨s,h1,h2⟩:=St (P:=P) hx O;obtain⟨t,h3,h4⟩:=St (P:=P) hy U
 change Sem.run P (do pure (goInt (Extern.BytealgCompare.cmp (<- Extern.Bytes.bytesOf (.slice p x.length c)) (<- Extern.Bytes.bytesOf (.slice q y.length d))))) w=_
 simp only[Sem.run_bind,h1,h3,Sem.run_pure,Result.andThen];rw[Lib.cmp_eq,h2,h4];rfl
end
section
variable {ρ:Type} {C:World->World->Prop} {P:Program} {Γ:Ctx} {l:AR} {res:Res} {m:Option ρ} {os rest:List Oper} {N:ρ->Exit->Act->World->Prop} {d:Tmp} {ty:TypeId} {pos:String} {after:Array Edge} {g:Option (Nat × Bool)}
theorem XU {a:Act} {w w':World} {fn:FuncId} {args:Array Operand} {vs:Array Value} {ats:Array TypeId} {F:Func} {e:Array Value->Sem Value} {v:Value}
  (hF:P.funcs[fn]? = some F) (hnm:(F.name == "runtime.NumGoroutine")=false) (hB:F.body.isNone=true) (hn:Extern.findNext F=none) (he:Extern.find F=some e)
  (hvs:args.map a.eval=vs) (hr:(e vs).run P w=.ok v w'):(execOp a.eval ⟨some d,.call ⟨.value (.func fn),args,ats⟩,ty,pos,after,g⟩).run P w=.ok (.value v) w':=by
 have e0:a.eval (.func fn)=.func (.func fn) #[] #[]:=rfl;simp[execOp,resolve,e0,Deferred.ofValue,invoke,hvs,run_callFunc_extern hF hnm hB hn he,hr]
theorem cmpB {ws:List Nat} [LC C res ws] {fn:FuncId} {x y:Operand} {ats:Array TypeId} {F:Func} {b c:List UInt8} (hx:opE l x=some (.rd (A8 u8R) b)) (hy:opE l y=some (.rd (A8 u8R) c)) (hF:P.funcs[fn]? = some F) (hnm:(F.name == "runtime.NumGoroutine")=false) (hB:F.body.isNone=true) (hn:Extern.findNext F=none) (he:Extern.find F=some Extern.BytealgCompare.compare) :
  Run C P Γ l res ⟨some d,.call ⟨.value (.func fn),#[x,y],ats⟩,ty,pos,after,g⟩ (.rd A3 (Lib.compareBytes b c)):=λa w ha=>by
 obtain⟨cs,⟨p,cp,xs,k1,k2,k3,k4⟩,k5⟩:=ha.vl hx;subst k1;have k5:a.eval x=.slice p b.length cp:=k5;obtain⟨ds,⟨q,cq,ys,j1,j2,j3,j4⟩,j5⟩:=ha.vl hy;subst j1;have j5:a.eval y=.slice q c.length cq:=j5;refine⟨_, λw' hw'=>?_,DN⟩;have stay:Br (Shr Γ.H res w) (Shr Γ.H res w') w w':=CW.stay hw';exact XU hF hnm hB hn he (by simp[k5,j5]) (OI (k2.stay k4 stay) (IR k3) (j2.stay j4 stay) (IR j3))
theorem Su {x:Operand} {S D e:TypeId} {b:List UInt8} {u:Unit} {o:Oper} {a:Act} {w:World} (ho:o.op=.convert S D x) (U:Sta Γ l res a w) (hx:opE l x=some (.rd BI b)) (hb:chk (b.length<=281474976710656)=some u) (hS:P.underlying S=some .string) (hD:P.underlying D=some (.slice e)) (he:P.underlying e=some (.int .u8)) :
  ∃ w' v,(execOp a.eval o).run P w=.ok (.value v) w'/\Sta Γ l res a w'/\Br (Shr Γ.H res w) (Shr Γ.H res w') w w'/\(Ent.rd (A8 u8R) b).holds (Shr Γ.H res w') w' v:=by
 have hb:=DP hb;obtain⟨s,k1,rfl⟩:=EC (U.vl hx);have a1:s.data.toList.length=s.size:=by simp
 rw[a1] at hb;generalize hw:(w.drew.alloc (.cells (bytesRow s (grownCap w s.size 0 e)) e ((bytesRow s (grownCap w s.size 0 e)).size,(bytesRow s (grownCap w s.size 0 e)).size+1)))=w';have a2:(execOp a.eval o).run P w=.ok (.value (.slice (some ⟨w.heap.size,0,none⟩) s.size (grownCap w s.size 0 e))) w':=by
  have:=run_bytes_of_string w S D e s hS hD he
  rw[hw] at this;simp[execOp,ho,k1,this]
 have hE:Ext w w':=by rw[<- hw]; exact Ext.tr (Ext.dr Ext.rfl') (Ext.al _ _)
 have O:w'.heap[w.heap.size]? = some (.cells (bytesRow s (grownCap w s.size 0 e)) e ((bytesRow s (grownCap w s.size 0 e)).size,(bytesRow s (grownCap w s.size 0 e)).size+1)):=by
  rw[<- hw];show (w.heap.push _)[w.heap.size]? = _
  simp
 have a7:=U.ext hE;have a6:Shr Γ.H res w' w.heap.size:=by
  refine⟨(Array.getElem?_eq_some_iff.1 O).1, λr v c hr e=>?_, λhH=>?_⟩
  ·exact absurd ((U.conts r v c hr).lt e) (by omega)
  ·have h1:=U.old _ (U.hid _ hH);have h2:=U.keep.size;omega
 refine⟨_,_,a2,a7,Shr.ext hE,⟨_,⟨some ⟨w.heap.size,0,none⟩,grownCap w s.size 0 e,s.data.toList.map λc=>.int .u8 (c.toNat:Int),rfl,⟨by simp[u8R,Bn],.inr ⟨w.heap.size,0,none,grownCap w s.size 0 e,rfl,?_,?_,.inr rfl, λj u hu=>?_⟩⟩,?_, λ_ bb a8=>by cases a8; exact a6⟩, by rw[<- a1]; rfl⟩⟩
 ·rw[a1]; exact grownCap_ge w s.size 0 e
 ·exact grownCap_le_maxLen w s.size 0 e (by unfold maxLen; omega)
 ·have hj:j<s.data.size:=by
   have:=(List.getElem?_eq_some_iff.1 hu).1
   simpa using this
  have h1:u=.int .u8 (s.data[j].toNat:Int):=by
   rw[List.getElem?_map,List.getElem?_eq_getElem (by simpa using hj)] at hu;simp only[Option.map_some,Option.some.injEq] at hu;rw[<- hu]; simp
  unfold World.cell?;simp only[O];rw[h1,Nat.zero_add];exact bytesRow_at s _ j hj
 ·have:∀ b:List UInt8,B5 u8R (Shr Γ.H res w') w' (b.map λc=>.int .u8 (c.toNat:Int)) b:=by
   intro b
   induction b with
   | nil=>rfl
   | cons c b ih=>exact⟨[_],_,rfl,rfl,ih⟩
  exact this _
theorem IS {x:Operand} {S D e:TypeId} {b:List UInt8} {u:Unit} (O:Nat.blt d Γ.n=true) (U:opE l x=some (.rd BI b)) (hb:chk (b.length<=281474976710656)=some u) (hS:P.underlying S=some .string) (hD:P.underlying D=some (.slice e)) (he:P.underlying e=some (.int .u8))
  (k:GL P os (Sta Γ ((d,.rd (A8 u8R) b)::l) res) rest N m):GL P os (Sta Γ l res) (⟨some d,.convert S D x,ty,pos,after,none⟩::rest) N m:=λa w ha ρ hm=>by
 obtain⟨w',v,h1,h2,_,h3⟩:=Su (o:=⟨some d,.convert S D x,ty,pos,after,none⟩) rfl ha U hb hS hD he;exact st (Ds rfl) h1 (k _ _ (h2.put O h3) ρ hm)
end
end
section
section
variable {α:Type} {ρ:Type} {C:World->World->Prop} {P:Program} {Γ:Ctx} {l:AR} {res:Res} {m:Option ρ} {os rest:List Oper} {N:ρ->Exit->Act->World->Prop} {d:Tmp} {ty:TypeId} {pos:String} {after:Array Edge} {g:Option (Nat × Bool)}
theorem bldG {R:Rep α} {n:Nat} {x0 x':Vector α n} {T e:TypeId} {z ze:Value} {sz by_ O:Nat} {parts:Array (Nat × Operand)} (hT:P.underlying T=some (.array n e)) (hI:TI P T z sz by_) (U:Zr (Az n R) z.cells.toList x0) (hE:TI P e ze R.sz O)
  (h:Bld l (λi:Nat=>some (i * R.sz,R.sz)) (Az n R) parts.toList x0 x'):Run C P Γ l res ⟨some d,.build T parts,ty,pos,after,g⟩ (.rd (Az n R) x'):=λa w ha=>by
 obtain⟨C',h1,h2⟩:=h.get ha (U _ w);refine⟨.agg C', λw' _=>Lh rfl ?_,C'.toList,h2, by simp[Rep.val,Az]⟩;have e2:(parts.map λ(i,x)=>(i,a.eval x)).toList=parts.toList.map λp=>(p.1,a.eval p.2):=by simp
 unfold Instr.build;simp only[Sem.run_bind,FF hI,Result.andThen,run_underlying hT,CY hE,e2,h1];rfl
end
end
section
variable {ro:Option Nat}
def Sp {α:Type} (R:Rep α) (x:α) (es:List Ent):Prop:=R.agg=true/\∀ S w cs,R.rel S w cs x↔∃ vs,C5 S w es vs/\Bo vs=cs
theorem Sp.unit:Sp Dc () []:=⟨rfl, λS w cs=>⟨λh=>⟨[],trivial,(show cs=[] from h).symm⟩, λ⟨vs,O,U⟩=>by
 match vs,O with
 | [],_=>exact U.symm⟩⟩
theorem Sp.prod {α β:Type} {R:Rep α} {T:Rep β} {x:α} {y:β} {es:List Ent} (h:Sp T y es):Sp (BT R T) (x,y) (.rd R x::es):=⟨rfl, λS w cs=>⟨λ⟨c,d,h1,O,h3⟩=>by
  obtain⟨vs,U,k2⟩:=(h.2 S w d).1 h3;exact⟨R.val c::vs,⟨⟨c,O,rfl⟩,U⟩, by rw[DH,Rep.val_cells O,k2,h1]⟩, λ⟨vs,h1,O⟩=>by
  match vs,h1 with
  | v::vs,⟨⟨c,U,k2⟩,k3⟩ =>
   subst k2;rw[DH,Rep.val_cells U] at O
   exact⟨c,_,O.symm,U,(h.2 S w _).2 ⟨vs,k3,rfl⟩⟩⟩⟩
theorem Sp.via {α β:Type} {g:β->α} {R:Rep α} {x:β} {es:List Ent} (h:Sp R (g x) es):Sp (CH g R) x es:=⟨h.1,h.2⟩
section
variable {ρ:Type} {P:Program} {Γ:Ctx} {l:AR} {res:Res} {m:Option ρ} {a:Act} {w:World}
theorem Sta.recont (O:Sta Γ l res a w) (r:Nat) {v:Value} {c c':AO} (U:lr res r=some (v,c)) (h:c.holds (Shr Γ.H res w) w v->c'.holds (Shr Γ.H res w) w v):Sta Γ l ((r,some (v,c'))::res) a w :=
 (O.upd r (v:=v) (c:=c') (wr:=none) Ext.rfl'.gb (by simp) (λb hb=>.inl ⟨v,c,U,hb⟩) (λS' k'=>(h (O.conts r v c U)).mono k' (λb hb=>rfl))).1
theorem Sta.split {α:Type} {R:Rep α} {x:α} {es:List Ent} {T:TypeId} {v:Value} (U:Sta Γ l res a w) (r:Nat) (hr:lr res r=some (v,.box T [.rd R x])) (hs:Sp R x es):Sta Γ l ((r,some (v,.box T es))::res) a w :=
 U.recont r hr (λh=>by
  rcases h with h | ⟨b,o,h1,h2,b',vs,rfl,rfl,h3⟩
  ·exact h.elim
  ·match vs,h3 with
   | [u],⟨⟨cs,O,k2⟩,_⟩ =>
    subst k2;obtain⟨vs',k3,k4⟩:=(hs.2 _ w cs).1 O
    exact .inr ⟨b,_,h1,h2,b',vs',rfl, by rw[k4]; simp[Bo,Rep.val_cells O],k3⟩)
theorem Sta.join {α:Type} {R:Rep α} {x:α} {es:List Ent} {T:TypeId} {v:Value} (U:Sta Γ l res a w) (r:Nat) (hr:lr res r=some (v,.box T es)) (hs:Sp R x es):Sta Γ l ((r,some (v,.box T [.rd R x]))::res) a w :=
 U.recont r hr (λh=>by
  rcases h with h | ⟨b,o,h1,h2,b',vs,rfl,rfl,h3⟩
  ·exact h.elim
  ·have O:=(hs.2 _ w (Bo vs)).2 ⟨vs,h3,rfl⟩
   exact .inr ⟨b,_,h1,h2,b',[R.val (Bo vs)],rfl, by rw[show Bo [R.val (Bo vs)]=Bo vs by rw[DH,Rep.val_cells O]; simp[Bo]],⟨_,O,rfl⟩,trivial⟩)
theorem Sv {α:Type} (R:Rep α) {S:Blk} {w:World} {v:Value} (h:(Ent.val (.slice none 0 0)).holds S w v):(Ent.rd (A8 R) []).holds S w v:=by
 obtain⟨rfl,-⟩:=h;exact⟨_,⟨none,0,[],rfl,Rd.nil _ _,rfl, by simp⟩,rfl⟩
theorem By.holds {es es':List Ent} {S:Blk} {w:World} {e e0:Ent} {pre post:List Ent} (h1:es=pre++e0::post) (h2:es'=pre++e::post) (he:∀ v,e0.holds S w v->e.holds S w v):∀ {vs:List Value},C5 S w es vs->C5 S w es' vs:=by
 subst h1; subst h2
 induction pre with
 | nil=>intro vs h; match vs,h with | v::vs,⟨O,U⟩=>exact⟨he v O,U⟩
 | cons p pre ih=>intro vs h; match vs,h with | v::vs,⟨O,U⟩=>exact⟨O,ih U⟩
theorem Sta.partNil {α:Type} (R:Rep α) {es es':List Ent} {T:TypeId} {v:Value} (O:Sta Γ l res a w) (r:Nat) (pre post:List Ent) (U:lr res r=some (v,.box T es)) (h1:es=pre++.val (.slice none 0 0)::post) (h2:es'=pre++.rd (A8 R) []::post):Sta Γ l ((r,some (v,.box T es'))::res) a w :=
 O.recont r U (λh=>by
  rcases h with h | ⟨b,o,k1,k2,b',vs,rfl,rfl,k3⟩
  ·exact h.elim
  ·exact .inr ⟨b,_,k1,k2,b',vs,rfl,rfl,By.holds h1 h2 (λv hv=>Sv R hv) k3⟩)
theorem Sta.partOwn {α:Type} {R:Rep α} {b:List α} {es es':List Ent} {T E:TypeId} {v u:Value} (ha:Sta Γ l res a w) (r q:Nat) (pre post:List Ent) (a8:r≠q) (hr:lr res r=some (v,.box T es)) (hq:lr res q=some (u,.list R E b)) (h1:es=pre++.val u::post) (h2:es'=pre++.rd (A8 R) b::post):Sta Γ l ((r,some (v,.box T es'))::(q,none)::res) a w:=by
 have a7:=ha.conts r v _ hr;have a2:=ha.conts q u _ hq
 have a6:Br (Shr Γ.H res w) (Shr Γ.H ((q,none)::res) w) w w:=λbb hb=>⟨⟨hb.1, λr' v' c' O=>by
  rw[C0] at O
  split at O
  ·cases O
  ·exact hb.2.1 r' v' c' O,hb.2.2⟩,rfl⟩
 have aa:Sta Γ l ((q,none)::res) a w:=by simpa using ha.frz (R:=R) (T:=E) (b:=b) q [] hq trivial
 have O:lr ((q,none)::res) r=some (v,.box T es):=(C0.trans (if_neg (λe=>a8 e.symm))).trans hr;refine aa.recont r O (λ_=>?_);rcases a7 with h | ⟨b0,o,k1,k2,b',vs,rfl,rfl,k3⟩
 ·exact h.elim
 ·refine .inr ⟨b0,_,k1,k2,b',vs,rfl,rfl,By.holds h1 h2 (λv' hv=>?_) (k3.mono a6)⟩;obtain⟨rfl,-⟩:=hv;obtain⟨xs,h3,h4⟩:=F6 a2;obtain⟨p,c,rfl⟩:=E3 h3;refine⟨_,⟨p,c,xs,rfl,Rd.of_own h3,h4.mono a6, λac bb U=>?_⟩,rfl⟩;have U:AS (.slice p b.length c)=some bb:=by rw[ED,Gc]; exact U
  refine⟨(ha.conts q _ _ hq).lt U, λr' v' c' a1 e=>?_, λhH=>ha.own q _ _ hq bb U (ha.hid bb hH)⟩;rw[C0] at a1
  split at a1
  ·cases a1
  ·rename_i ab;exact ha.excl q _ _ r' v' c' hq a1 ab bb U e
variable {os rest:List Oper} {N Q:ρ->Exit->Act->World->Prop} {c:Code} {e:Exit}
theorem lSpl {α:Type} {R:Rep α} {x:α} {es:List Ent} {T:TypeId} {v:Value} (r:Nat) (O:lr res r=some (v,.box T [.rd R x])) (U:Sp R x es) (k:GL P os (Sta Γ l ((r,some (v,.box T es))::res)) rest N m):GL P os (Sta Γ l res) rest N m:=λa w ha=>k a w (ha.split r O U)
theorem Cm {α:Type} {R:Rep α} (x:α) {es:List Ent} {T:TypeId} {v:Value} (r:Nat) (O:lr res r=some (v,.box T es)) (U:Sp R x es) (k:GL P os (Sta Γ l ((r,some (v,.box T [.rd R x]))::res)) rest N m):GL P os (Sta Γ l res) rest N m:=λa w ha=>k a w (ha.join r O U)
theorem Cy {α:Type} (R:Rep α) {es:List Ent} (es':List Ent) {T:TypeId} {v:Value} (r:Nat) (pre post:List Ent) (O:lr res r=some (v,.box T es)) (U:es=pre++.val (.slice none 0 0)::post) (h2:es'=pre++.rd (A8 R) []::post) (k:GL P os (Sta Γ l ((r,some (v,.box T es'))::res)) rest N m):GL P os (Sta Γ l res) rest N m:=λa w ha=>k a w (ha.partNil R r pre post O U h2)
theorem lPow {α:Type} {R:Rep α} {b:List α} {es:List Ent} (es':List Ent) {T E:TypeId} {v u:Value} (r q:Nat) (pre post:List Ent) (O:(r==q)=false) (U:lr res r=some (v,.box T es)) (hq:lr res q=some (u,.list R E b)) (h1:es=pre++.val u::post) (h2:es'=pre++.rd (A8 R) b::post) (k:GL P os (Sta Γ l ((r,some (v,.box T es'))::(q,none)::res)) rest N m):GL P os (Sta Γ l res) rest N m:=λa w ha=>k a w (ha.partOwn r q pre post (by simpa using O) U hq h1 h2)
theorem eJoi {α:Type} {R:Rep α} (x:α) {es:List Ent} {T:TypeId} {v:Value} (r:Nat) (O:lr res r=some (v,.box T es)) (U:Sp R x es) (k:GE (Sta Γ l ((r,some (v,.box T [.rd R x]))::res)) e Q m):GE (Sta Γ l res) e Q m:=λa w ha=>k a w (ha.join r O U)
theorem ePnl {α:Type} (R:Rep α) {es:List Ent} (es':List Ent) {T:TypeId} {v:Value} (r:Nat) (pre post:List Ent) (O:lr res r=some (v,.box T es)) (U:es=pre++.val (.slice none 0 0)::post) (h2:es'=pre++.rd (A8 R) []::post) (k:GE (Sta Γ l ((r,some (v,.box T es'))::res)) e Q m):GE (Sta Γ l res) e Q m:=λa w ha=>k a w (ha.partNil R r pre post O U h2)
end
def D3 (l:AR) (place:Nat->Option (Nat × Nat)):List (Nat × Operand)->List Ent->List Ent->Prop
 | [],es,es'=>es=es'
 | (i,o)::ps,es,es'=>∃ (e:Ent) (off n:Nat) (O:List Ent),opE l o=some e/\place i=some (off,n)/\e.fills n/\By es off n e O/\D3 l place ps O es'
theorem D3.done {l:AR} {place:Nat->Option (Nat × Nat)} {es es':List Ent} (h:es=es'):D3 l place [] es es':=h
theorem D3.cons {l:AR} {place:Nat->Option (Nat × Nat)} {i:Nat} {o:Operand} {ps:List (Nat × Operand)} {e:Ent} {off n:Nat} {es O es':List Ent} (h:opE l o=some e) (U:place i=some (off,n)) (hf:e.fills n) (hs:By es off n e O) (k:D3 l place ps O es'):D3 l place ((i,o)::ps) es es':=⟨e,off,n,O,h,U,hf,hs,k⟩
theorem By.put {es es':List Ent} {k n:Nat} {e:Ent} {S:Blk} {w:World} (h:By es k n e es') {vs:List Value} {v:Value} (hv:e.holds S w v) (hn:v.cells.size=n) (O:C5 S w es vs):∃ vs',C5 S w es' vs'/\(Bo vs').toArray=spl (Bo vs).toArray k v.cells.toList/\k+n<=(Bo vs).length:=by
 obtain⟨pre,post,e0,rfl,rfl,U,hk⟩:=h;obtain⟨us,ts,rfl,h5,h6⟩:=O.app
 match ts,h6 with
 | y0::ts,⟨h7,h8⟩ =>
  have hl:=hk _ _ _ h5;have a1:y0.cells.toList.length=n:=by have:=U _ _ _ h7; simpa using this
  refine⟨us++v::ts,h5.mk ⟨hv,h8⟩,?_, by simp only[Ln,DH,List.length_append]; omega⟩;subst hl;unfold spl; congr 1
  have:v.cells.toList.length=n:=by simpa using hn
  simp only[Ln,DH,this]
  rw[show ∀ A B Cc:List Value,A.length+n=(A++B).length->List.drop (A.length+n) (A++(B++Cc))=Cc by
   intro A B Cc h; rw[h,<- List.append_assoc,List.drop_left']; rfl]
  ·simp
  ·simp[a1]
theorem D3.get {Γ:Ctx} {l:AR} {res:Res} {a:Act} {w:World} (ha:Sta Γ l res a w) {place:Nat->Option (Nat × Nat)}:∀ {ps:List (Nat × Operand)} {es es':List Ent} {vs:List Value},D3 l place ps es es'->C5 (Shr Γ.H res w) w es vs ->
  ∃ vs',Instr.fill place (Bo vs).toArray (ps.map λp=>(p.1,a.eval p.2))=some (Bo vs').toArray/\C5 (Shr Γ.H res w) w es' vs'
 | [],es,es',vs,h,U=>by have h:es=es':=h; subst h; exact⟨vs,rfl,U⟩
 | (i,o)::ps,es,es',vs,h,U=>by
  obtain⟨e,off,n,a1,h1,h2,h3,h4,h5⟩:=h;have hy:=ha.vl h1;have O:(a.eval o).cells.size=n:=h3 _ _ _ hy;obtain⟨a2,k1,k2,k3⟩:=h4.put hy O U;obtain⟨vs',q1,q2⟩:=D3.get ha h5 k1;refine⟨vs',?_,q2⟩;simp only[List.map_cons];rw[OC h2 O (by simpa using k3),<- k2]; exact q1
def AH (es:List Ent) (n:Nat):Prop:=∀ S w vs,C5 S w es vs->(Bo vs).length=n
theorem AH.nil:AH [] 0:=λS w vs h=>by match vs,h with | [],_=>rfl
theorem AH.cons {e:Ent} {es:List Ent} {n k:Nat} (h:e.fills n) (p:AH es k):AH (e::es) (n+k):=λS w vs hh=>by
 match vs,hh with
 | v::vs,⟨O,U⟩=>rw[DH,List.length_append,p S w vs U]; have:=h S w v O; simp[this]
def BO (es:List Ent):Prop:=∀ S w vs,C5 S w es vs->∀ u∈Bo vs,u.oneCell'=true
theorem BO.nil:BO []:=λS w vs h u O=>by match vs,h with | [],_=>simp[Bo] at O
theorem BO.cons {e:Ent} {es:List Ent} (h:e.ones) (p:BO es):BO (e::es):=λS w vs hh u O=>by
 match vs,hh with
 | v::vs,⟨U,h2⟩ =>
  rw[DH] at O;rcases List.mem_append.1 O with k | k
  ·exact h S w v U u k
  ·exact p S w vs h2 u k
section
variable {C:World->World->Prop} {P:Program} {Γ:Ctx} {l:AR} {res:Res} {d:Tmp} {ty:TypeId} {pos:String} {after:Array Edge} {g:Option (Nat × Bool)}
theorem bldE {O es':List Ent} {T:TypeId} {z:Value} {sz by_:Nat} {parts:Array (Nat × Operand)} {fs:Array Field} (pl:List (Nat × Nat)) (hT:P.underlying T=some (.struct fs)) (hI:TI P T z sz by_) (hz:FJ z O)
  (hp:fs.toList.map (λf=>(f.offset,(P.info? f.type).map (·.size)))=pl.map (λp=>(p.1,some p.2))) (h:D3 l (λi:Nat=>pl[i]?) parts.toList O es'):Run C P Γ l res ⟨some d,.build T parts,ty,pos,after,g⟩ (.agg es'):=λa w ha=>by
 obtain⟨vs,U,a1⟩:=hz (Shr Γ.H res w) w;obtain⟨vs',h1,h2⟩:=h.get ha a1;rw[U,Array.toArray_toList] at h1;refine⟨.agg (Bo vs').toArray, λw' _=>Lh rfl ?_,vs',h2,rfl⟩;have e1:(fs.mapM (m:=Sem) λf=>do pure (f.offset,<- sizeOf f.type)).run P w'=.ok pl.toArray w':=by
  rw[<- Array.toArray_toList (xs:=fs),List.mapM_toArray];simp only[map_eq_pure_bind,Sem.run_bind,OG fs.toList pl hp,Result.andThen,Sem.run_pure]
 have e2:(parts.map λ(i,x)=>(i,a.eval x)).toList=parts.toList.map λp=>(p.1,a.eval p.2):=by simp
 unfold Instr.build;simp only[Sem.run_bind,FF hI,Result.andThen,run_underlying hT,e1,e2];have e3:(λi:Nat=>pl.toArray[i]?)=λi:Nat=>pl[i]? := by funext i; simp
 rw[e3,h1]; rfl
theorem stoG {t T:TypeId} {x y:Operand} {v z:Value} {by_ n:Nat} {es es':List Ent} (r:Nat) (hx:opE l x=some (.val (A7 v 0))) (hr:lr res r=some (v,.box T es)) (h0:AH es n)
  (hy:opE l y=some (.agg es')) (h1e:BO es') (hn:AH es' n) (hS:TI P t z n by_):EffS P Γ l res ⟨none,.store t x y,ty,pos,after,g⟩ r (v,.box T es'):=λa w ha=>by
 have h1:=(ha.vl hx).1;obtain⟨ys,O,a2⟩:=ha.vl hy;rcases ha.conts r v _ hr with h2 | ⟨b,o,h2,h3,b',vs,rfl,rfl,h4⟩
 ·exact h2.elim
 ·simp only[AS,Option.some.injEq] at h2;subst h2;rw[IQ] at h1;have hB:Bx w b' (Bo vs).toArray T:=h3;have U:(a.eval y).cells=(Bo ys).toArray:=by rw[a2]; rfl
  have a6:(a.eval y).cells.size=n:=by rw[U]; simp[hn _ _ _ O]
  have hl:=h0 _ _ _ h4;have a1:=Ot (P:=P) (w:=w) (b:=b') (o:=0) (v:=a.eval y) hS a6 (by rw[U]; simpa using h1e _ _ _ O) hB (by simp[hl])
  have a7:spl (Bo vs).toArray 0 (a.eval y).cells.toList=(Bo ys).toArray:=by
   rw[U]
   have:=hn _ _ _ O
   unfold spl; simp[this,hl]
  rw[a7] at a1;refine⟨w.setRow b' (Bo ys).toArray,?_,?_,some b',F5 b' _, λb hb=>⟨_,_,hr, by cases hb; rfl⟩⟩
  ·simp[execOp,h1,Instr.storeAt,Instr.sureAddr,a1]
  ·exact ha.upd r (F5 b' _) (λb hb=>⟨_,_,hr, by cases hb; rfl⟩) (λb hb=>.inl ⟨_,_,hr,hb⟩) (λS' k'=>.inr ⟨b',_,rfl,setRow_heap w b' _ _ T _ hB,b',ys,rfl,rfl,O.mono k'⟩)
def ZrE (cs:List Value) (es:List Ent):Prop:=∀ S w,∃ vs,Bo vs=cs/\C5 S w es vs
theorem ZrE.nil:ZrE [] []:=λS w=>⟨[],rfl,trivial⟩
theorem ZrE.rd {α:Type} {R:Rep α} {x:α} {c d cs:List Value} {es:List Ent} (h:Zr R c x) (k:ZrE d es) (e:c++d=cs):ZrE cs (.rd R x::es):=λS w=>by
 obtain⟨vs,O,U⟩:=k S w;exact⟨R.val c::vs, by rw[DH,Rep.val_cells (h S w),O,e],⟨c,h S w,rfl⟩,U⟩
theorem ZrE.nilS {d:List Value} {es:List Ent} (k:ZrE d es):ZrE (.slice none 0 0::d) (.val (.slice none 0 0)::es):=λS w=>by
 obtain⟨vs,O,U⟩:=k S w;exact⟨.slice none 0 0::vs, by rw[DH,O]; rfl,⟨rfl,rfl⟩,U⟩
theorem Foc.cast {α:Type} {c:AO} {k k':Nat} {R:Rep α} {x:α} {upd:α->AO} (f:Foc c k' R x upd) (h:k'=k):Foc c k R x upd:=h ▸ f
theorem At.cast {es:List Ent} {k k':Nat} {e:Ent} (f:At es k' e) (h:k'=k):At es k e:=h ▸ f
theorem By.cast {es es':List Ent} {k k' n:Nat} {e:Ent} (f:By es k' n e es') (h:k'=k):By es k n e es':=h ▸ f
theorem AH.cast {es:List Ent} {n n':Nat} (f:AH es n') (h:n'=n):AH es n:=h ▸ f
end
end
end Go.Proofs.YtdeegahcaekfaaaGreatDoor
