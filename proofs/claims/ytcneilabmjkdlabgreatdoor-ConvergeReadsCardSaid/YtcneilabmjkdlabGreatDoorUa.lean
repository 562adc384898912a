import Derived.Test.YtcneilabmjkdlabGreatDoorRows
import Derived.Test.YtcneilabmjkdlabGreatDoorTie
import Derived.Test.YtcneilabmjkdlabGreatDoorCards
import Derived.WalkKit
import Derived.Deep.Quiet
import Derived.OrdersHeld
import Derived.OrdersIn
import Derived.TacticsIn
import Derived.RangeFuncCalls
import Derived.RangeFuncLeaves
import Derived.ProofKit
import Derived.OpenShut
import Derived.ShutString
import Derived.ChangeOld
import Derived.Below
import Derived.Deep.Slices
import Derived.DataReads
import Derived.Laws.BytesArg
import Derived.Laws.RangeString
import Derived.Lib.Bytealg
import Derived.Laws.Externs
import Derived.Laws.IdiomStrings
import Derived.Laws.CopyRow
import Derived.Laws.Append
import Derived.LaidMore
import Derived.Handed
import Derived.MakeChecks
import Derived.FnData
import Derived.ChangeKeysEq
import Derived.Laws.StructEq
import Derived.MapKept
import Derived.Test.YtcneilabmjkdlabGreatDoorProg
import Derived.RangeFuncFrom
import Derived.Deep.QuietTactic
import Derived.BigQuiet
import Derived.Shelf.RegionOpenPlain
import Derived.Lib.Walk
import Derived.Lib.SliceRun
import Derived.Lib.JoinLaws
import Derived.Lib.Overlaps
import Derived.Lib.AppendZerosOnto
import Derived.Laws.AppendOwn
import Derived.Laws.NewBlocks
import Derived.ArgAppend
import Derived.Maps.RangeRun
import Derived.Shelf.SlSortCmp.InsertionK
import Derived.Shelf.Sort.Plain
import Derived.Shelf.Slices.In.SortNone
import Derived.Shelf.SlSortCmp.WholeK
import Derived.Sort.AssemblyPlain
import Derived.Tactics
import Derived.Tactics2
import Derived.LoopTactic
import Derived.StillTailTactics
import Derived.Sort.Walk0
import Derived.Shelf.SlSortCmp.NoneTotal
import Derived.SevenTiedAt
set_option linter.unusedSimpArgs false
set_option linter.unusedVariables false
namespace Go.Proofs.YtcneilabmjkdlabGreatDoor
abbrev V3:=Vector UInt8 32
section
open Go Go.RowKit
def zq4:List (Nat × Value)→Nat→Option Value
 | [],_=>none
 | (k,v)::l,t=>bif Nat.beq k t then some v else zq4 l t
def opv (l:List (Nat × Value)):Operand→Option Value
 | .tmp t=>zq4 l t
 | .const v=>some v
 | .global g=>some (.pointer (some ⟨g,0,none⟩))
 | .func f=>some (.func (.func f) #[] #[])
structure Frm (n:Nat) (l:List (Nat × Value)) (a:Act):Prop where
 size:a.tmps.size=n
 defers:a.defers=[]
 slots:∀ t v,zq4 l t=some v→a.tmps[t]? = some v
theorem Frm.ev {n l a x v} (f:Frm n l a) (h:opv l x=some v):a.eval x=v:=by
 cases x with
 | tmp t =>
  have:=f.slots t v h
  simp [Act.eval,Array.getD_eq_getD_getElem?,this]
 | const c=>simpa [opv,Act.eval] using h
 | global g=>simpa [opv,Act.eval] using h
 | func g=>simpa [opv,Act.eval] using h
def zjj:Nat→List Value→List (Nat × Value)
 | _,[]=>[]
 | i,v::vs=>(i,v)::zjj (i+1) vs
theorem zjv:∀ (vs:List Value) (i t:Nat) (v:Value),zq4 (zjj i vs) t=some v→i≤t∧vs[t - i]? = some v
 | [],_,_,_,h=>by simp [zjj,zq4] at h
 | u::us,i,t,v,h=>by
  simp only [zjj,zq4] at h
  cases hb:Nat.beq i t with
  | true =>
   rw [hb] at h
   have:i=t:=Nat.eq_of_beq_eq_true hb
   subst this;simp only [cond_true,Option.some.injEq] at h;subst h
   simp
  | false =>
   rw [hb] at h;have hne:i≠t:=Nat.ne_of_beq_eq_false hb;obtain ⟨h1,h2⟩:=zjv us (i+1) t v h;refine ⟨by omega,?_⟩;rw [show t - i=(t - (i+1))+1 by omega]
   simpa using h2
theorem enter {P:Program} {f:FuncId} {fn:Func} {c:Code} {args:Array Value} {w:World} {R:Ending→World→Prop} {n:Nat} {l:List (Nat × Value)}
  (hf:P.funcs[f]? = some fn) (hb:fn.body=some c) (hn:fn.ntmps=n) (hl:zjj 0 args.toList=l) (hargs:Nat.ble args.size n=true)
  (h:∀ a,Frm n l a→c.wp P (bodyPost P fn R) a w):Calls P f args w R:=by
 have hargs:args.size≤n:=Eq.mp Nat.ble_eq hargs;refine calls_of_wp hf hb (h _ ⟨by simp [hn]; omega,rfl, fun t v ht=>?_⟩);subst hl;obtain ⟨-,h2⟩:=zjv _ _ _ _ ht;simp only [Nat.sub_zero] at h2;have hlt:t<args.size:=by
  have:=(List.getElem?_eq_some_iff.1 h2).1
  simpa using this
 rw [Array.getElem?_append_left hlt]
 simpa using h2
section
variable {P:Program} {ops:Array Oper} {Q:Exit→Act→World→Prop} {a:Act} {w w':World} {rest:List Oper} {n:Nat} {l:List (Nat × Value)} {y:Code}
 {Q':Exit→Act→World→Prop} {next:Act→World→Prop}
theorem Frm.getD {t v} (f:Frm n l a) (h:zq4 l t=some v):a.tmps.getD t undef=v:=by
 simp [Array.getD_eq_getD_getElem?,f.slots t v h]
theorem zcn {o:Oper} (h:o.guard=none):Region.wanted o (yielded ops a.tmps)=true:=by simp [Region.wanted,h]
theorem st {o:Oper} {v:Value} (hw:Region.wanted o (yielded ops a.tmps)=true) (hrun:(execOp a.eval o).run P w=.ok (.value v) w')
  (k:wpList P ops Q rest (a.put o.dst v) w'):wpList P ops Q (o::rest) a w :=
 wpList_step fun K hK=>by
  rw [if_pos hw]; unfold Oper.wp; rw [hrun]; exact hK _ _ k
theorem st0 {o:Oper} (hw:Region.wanted o (yielded ops a.tmps)=true) (hrun:(execOp a.eval o).run P w=.ok .skip w')
  (hd:o.dst=none) (k:wpList P ops Q rest a w'):wpList P ops Q (o::rest) a w :=
 wpList_step fun K hK=>by
  rw [if_pos hw]; unfold Oper.wp; rw [hrun]
  have:K (a.put o.dst undef) w':=by rw [hd]; exact hK _ _ k
  exact this
end
end
section
open Go Go.RowKit
section
variable {P:Program} {ops:Array Oper} {Q:Exit→Act→World→Prop} {a:Act} {w:World} {rest:List Oper} {n:Nat} {l:List (Nat × Value)}
 {d:Tmp} {ty:TypeId} {pos:String} {after:Array Edge} {g:Option (Nat × Bool)}
def zc7 (op:BinOp) (k:IntKind) (x y:Int):Option Value :=
 match op with
 | .add=>some (.int k (k.wrap (x+y)))
 | .sub=>some (.int k (k.wrap (x - y)))
 | .mul=>some (.int k (k.wrap (x * y)))
 | .lss=>some (.bool (x<y))
 | .leq=>some (.bool (x≤y))
 | .gtr=>some (.bool (y<x))
 | .geq=>some (.bool (y≤x))
 | .eql=>some (.bool (x==y))
 | .neq=>some (.bool (x != y))
 | _=>none
def zdm (op:BinOp) (k:IntKind) (x y:Int):Int :=
 match op with
 | .and=>k.wrap (BitVec.ofInt k.bits x &&& BitVec.ofInt k.bits y).toNat
 | .or=>k.wrap (BitVec.ofInt k.bits x ||| BitVec.ofInt k.bits y).toNat
 | .xor=>k.wrap (BitVec.ofInt k.bits x ^^^ BitVec.ofInt k.bits y).toNat
 | .andNot=>k.wrap (BitVec.ofInt k.bits x &&& ~~~(BitVec.ofInt k.bits y)).toNat
 | _=>0
def zz2:BinOp→Bool
 | .and | .or | .xor | .andNot=>true
 | _=>false
theorem zkl {T:TypeId} {b b':Bool} (m:Nat) (hT:P.underlying T=some .bool):(Op.equalIn (m+1) T (.bool b) (.bool b')).run P w=.ok (b==b') w:=by
 simp [Op.equalIn,run_underlying hT]
theorem z114 {T:TypeId} {b b':Bool} (hT:P.underlying T=some .bool):(binOp .eql T (.bool b) (.bool b')).run P w=.ok (.bool (b==b')) w:=by
 have h:(Op.equalIn 10000 T (.bool b) (.bool b')).run P w=.ok (b==b') w:=zkl 9999 hT;show (do pure (.bool (← Op.equalIn 10000 T (.bool b) (.bool b'))):Sem Value).run P w=_;simp [h]
theorem z12i {T:TypeId} {b b':Bool} (hT:P.underlying T=some .bool):(binOp .neq T (.bool b) (.bool b')).run P w=.ok (.bool (b != b')) w:=by
 have h:(Op.equalIn 10000 T (.bool b) (.bool b')).run P w=.ok (b==b') w:=zkl 9999 hT;show (do pure (.bool (!(← Op.equalIn 10000 T (.bool b) (.bool b')))):Sem Value).run P w=_;simp [h,bne]
theorem zaf {op:BinOp} {x y:Operand} {T T':TypeId} {ρ:Operand→Value} {v:Value} (hg:(eqGuard op T x y (ρ x) (ρ y)).run P w=.ok () w) (h:(binOp op T (ρ x) (ρ y)).run P w=.ok v w) :
  (execOp ρ ⟨some d,.binOp op T x y T',ty,pos,after,g⟩).run P w=.ok (.value v) w:=by
 show (do pure (Next.value (← (do eqGuard op T x y (ρ x) (ρ y); binOp op T (ρ x) (ρ y)))):Sem Next).run P w=_
 simp [hg,h]
theorem zd7 {fn:FuncId} {vs:Array Value} {F:Func} {b:Code} (hF:P.funcs[fn]? = some F) (hB:F.body=some b) (hnm:(F.name == "runtime.NumGoroutine")=false) :
  (callFunc fn vs).run P w=.ok (.enter fn vs) w:=by
 unfold callFunc
 show Sem.run P (match P.funcs[fn]? with
  | none=>_
  | some fn'=>_) w=_
 rw [hF];simp only [hnm,hB,Bool.false_eq_true,if_false,Option.isNone_some];rfl
end
end
section
open Go Go.RowKit
def TI (P:Program) (e:TypeId) (z:Value) (sz bytes:Nat):Prop:=∃ i,P.info? e=some i∧i.zero=some z∧i.size=sz∧i.bytes=bytes
theorem TI.mk' {P:Program} {e:TypeId} {z:Value} {sz bytes:Nat} (h:(P.info? e).map (fun i=>(i.zero,i.size,i.bytes))=some (some z,sz,bytes)):TI P e z sz bytes:=info_parts h
def Sc (P:Program) (t:TypeId):Prop:=∃ d,P.underlying t=some d∧(match d with | .struct _=>False | .array _ _=>False | _=>True)
def Ag (P:Program) (t:TypeId):Prop:=∃ d,P.underlying t=some d∧(match d with | .struct _=>True | .array _ _=>True | _=>False)
abbrev Ext (w w':World):Prop:=Below w.heap.size w w'
theorem Ext.rfl' {w:World}:Ext w w:=Below.refl _ _
theorem Ext.tr {w0 w w':World} (h:Ext w0 w) (k:Ext w w'):Ext w0 w':=h.trans (k.mono h.size)
theorem Ext.al (w:World) (o:Obj):Ext w (w.alloc o):=(Below.refl _ _).alloc (Nat.le_refl _) o
theorem Ext.dr {w0 w:World} (h:Ext w0 w):Ext w0 w.drew:=h.drew
theorem Ext.gb {w w':World} (h:Ext w w'):w.grownBy w' none:=⟨h.os,h.tape,h.output,h.size, fun k hk _=>h.block k hk⟩
def Bx (w:World) (b:Nat) (C:Array Value) (T:TypeId):Prop:=w.heap[b]? = some (.cells C T (0,0))
theorem Bx.cell {w b C T} (h:Bx w b C T) (off:Nat):w.cell? ⟨b,off,none⟩=C[off]? := by
 unfold Bx at h; simp [World.cell?,h]
theorem Bx.cell' {w b C T} (h:Bx w b C T) {off:Nat} {v:Value} (hv:C[off]? = some v):w.cell? ⟨b,off,none⟩=some v:=(h.cell off).trans hv
def Rd (w:World) (v:Value) (n sz:Nat) (xs:List Value):Prop :=
 xs.length=n * sz∧((v=.slice none 0 0∧n=0) ∨
  ∃ b o sp cap,v=.slice (some ⟨b,o,sp⟩) n cap∧n≤cap∧cap≤maxLen∧(xs=[]∨sp=none)∧∀ j u,xs[j]? = some u→w.cell? ⟨b,o+j,none⟩=some u)
theorem Rd.nil (w:World) (sz:Nat):Rd w (.slice none 0 0) 0 sz []:=⟨by simp,.inl ⟨rfl,rfl⟩⟩
theorem Rd.of_own {w B T v n sz xs} (h:w.ownsRow B T sz v n xs):Rd w v n sz xs:=by
 refine ⟨h.1,?_⟩;rcases h.2 with h2 | ⟨g,cap,cur,rfl,_,hg,h1,h2,h3,h4⟩
 ·exact .inl h2
 ·refine .inr ⟨g,0,none,cap,rfl,h1,h2,.inr rfl, fun j u hu=>?_⟩;have hj:j<n * sz:=by have:=(List.getElem?_eq_some_iff.1 hu).1; rw [h.1] at this; exact this
  rw [Nat.zero_add];exact (World.ownsRow.cellAt h j hj).trans hu
theorem z5y (b o k:Nat):(⟨b,o,none⟩:Addr).add k=⟨b,o+k,none⟩:=by
 unfold Addr.add; split <;> simp_all
section
variable {P:Program} {ops:Array Oper} {Q:Exit→Act→World→Prop} {a:Act} {w:World} {rest:List Oper} {n:Nat} {l:List (Nat × Value)}
 {d:Tmp} {ty:TypeId} {pos:String} {after:Array Edge} {g:Option (Nat × Bool)}
theorem z3a {e:TypeId} {z:Value} {sz by_:Nat} (h:TI P e z sz by_):(sizeOf e).run P w=.ok sz w:=by
 obtain ⟨i,hi,-,hs,-⟩:=h;simp [sizeOf,typeInfo,program,hi,hs,pure,bind,Sem.bind,Sem.run]
theorem zdr {e:TypeId} {z:Value} {sz by_:Nat} (h:TI P e z sz by_):(zeroValue e).run P w=.ok z w:=by
 obtain ⟨i,hi,hz,-,-⟩:=h;simp [zeroValue,typeInfo,program,hi,hz,pure,bind,Sem.bind,Sem.run]
theorem zil {t:TypeId} {p:Addr} {v:Value} (hT:Sc P t) (hc:w.cell? p=some v):(loadVar t p).run P w=.ok v w:=by
 obtain ⟨d,hd,hm⟩:=hT
 cases d <;> simp only at hm <;> simp [loadVar,isAgg,run_underlying hd,hc]
theorem zpz {t:TypeId} {p:Addr} {z:Value} {sz by_:Nat} {cs:List Value} (hT:Ag P t) (hS:TI P t z sz by_) (hl:cs.length=sz) (hc:∀ j u,cs[j]? = some u→w.cell? (p.add j)=some u) :
  (loadVar t p).run P w=.ok (.agg cs.toArray) w:=by
 obtain ⟨d,hd,hm⟩:=hT;subst hl
 cases d <;> simp only at hm <;> simp [loadVar,isAgg,run_underlying hd,z3a hS,run_loadCells_list w p cs hc]
theorem Bx.cells {b C T} (h:Bx w b C T) {o:Nat} {cs:List Value} (hcs:(C.toList.drop o).take cs.length=cs):∀ j u,cs[j]? = some u→w.cell? ((⟨b,o,none⟩:Addr).add j)=some u:=by
 intro j u hu;rw [z5y,h.cell];have hj:j<cs.length:=(List.getElem?_eq_some_iff.1 hu).1;rw [← hcs,List.getElem?_take,if_pos hj,List.getElem?_drop] at hu
 simpa using hu
def spl (C:Array Value) (o:Nat) (vs:List Value):Array Value:=(C.toList.take o++vs++C.toList.drop (o+vs.length)).toArray
theorem zat (b:Nat) (cs:Array Value):w.grownBy (w.setRow b cs) (some b):=by
 refine ⟨rfl,rfl,rfl, by simp [World.setRow], fun k hk hne=>?_⟩;have hne:k≠b:=fun e=>hne (by rw [e]);simp only [World.setRow,Array.getElem?_modify];rw [if_neg (fun e=>hne e.symm)]
theorem zk6 {t:TypeId} {b o:Nat} {v z:Value} {sz by_:Nat} {C:Array Value} {T:TypeId} (hS:TI P t z sz by_) (hv:v.cells.size=sz) (h1:∀ u∈v.cells.toList,u.oneCell'=true)
  (hb:Bx w b C T) (hfit:o+sz≤C.size):(storeVar t ⟨b,o,none⟩ v).run P w=.ok () (w.setRow b (spl C o v.cells.toList)):=by
 subst hv
 have:=run_storeCells_at (P:=P) b o T v.cells.toList 0 C w hb (by simpa using hfit) h1
 simp only [Nat.add_zero] at this;simp [storeVar,z3a hS,this,spl]
end
end
section
open Go Go.RowKit
def retv:List Value→Value
 | [v]=>v
 | vs=>.tuple vs.toArray
def z10j (P:Program) (w:World) (l:List (Nat × Value)):List ResultVar→List Value→Prop
 | [],[]=>True
 | .tmp t::rs,v::vs=>zq4 l t=some v∧z10j P w l rs vs
 | .cell t T::rs,v::vs=>(∃ p,zq4 l t=some (.pointer (some p))∧(loadVar T p).run P w=.ok v w)∧z10j P w l rs vs
 | _,_=>False
theorem zsz {P:Program} {w:World} {n:Nat} {l:List (Nat × Value)} {a:Act} {fn:Func} {rs:List ResultVar} {vs:List Value} (f:Frm n l a)
  (hr:fn.results=rs.toArray) (h:z10j P w l rs vs):(results fn a.tmps).run P w=.ok (retv vs) w:=by
 have key:∀ (F:ResultVar→Sem Value),(∀ t,F (.tmp t)=pure (a.tmps.getD t undef))→(∀ x t,F (.cell x t)=do loadVar t (← asAddr (a.tmps.getD x undef))) →
   ∀ (rs:List ResultVar) (vs:List Value),z10j P w l rs vs→(rs.mapM F).run P w=.ok vs w:=by
  intro F hF1 hF2 rs
  induction rs with
  | nil=>intro vs h; cases vs with | nil=>rfl | cons=>exact h.elim
  | cons r rs ih =>
   intro vs h
   cases vs with
   | nil=>cases r <;> exact h.elim
   | cons v vs =>
    cases r with
    | tmp t =>
     obtain ⟨h1,h2⟩:=h;simp only [List.mapM_cons,hF1,Sem.run_bind,Sem.run_pure,f.getD h1,Result.andThen,ih vs h2]
    | cell t T =>
     obtain ⟨⟨p,h1,h3⟩,h2⟩:=h;have e:asAddr (.pointer (some p))=pure p:=rfl;simp only [List.mapM_cons,hF2,f.getD h1,e,Sem.run_bind,Sem.run_pure,h3,Result.andThen,ih vs h2]
 have h2:=fun F h1 h2=>key F h1 h2 rs vs h;unfold results;rw [hr,List.mapM_toArray];simp only [map_eq_pure_bind,Sem.run_bind];rw [h2 _ (fun _=>rfl) (fun _ _=>rfl)];simp only [Result.andThen,Sem.run_pure]
 congr 1
 unfold retv
 match vs with
 | []=>rfl
 | [v]=>rfl
 | v::u::us=>simp
theorem z2l {w B T sz v n xs} (h:World.ownsRow w B T sz v n xs):∃ p c,v=.slice p n c:=by
 rcases h.2 with ⟨rfl,rfl⟩ | ⟨g,cap,cur,rfl,_⟩
 ·exact ⟨none,0,rfl⟩
 ·exact ⟨_,_,rfl⟩
section
variable {P:Program} {ops:Array Oper} {Q:Exit→Act→World→Prop} {a:Act} {w:World} {rest:List Oper} {n:Nat} {l:List (Nat × Value)}
 {d:Tmp} {ty:TypeId} {pos:String} {after:Array Edge} {g:Option (Nat × Bool)}
def zlt (z:Value) (k:Nat):Array Value:=(Array.range k).map ((if k=0 then #[] else z.cells)[· % (if k=0 then #[] else z.cells).size]!)
theorem zwi {T e:TypeId} {m:Nat} {vs:Array (Nat × Value)} {z:Value} {sz by_:Nat} {cells:Array Value} (hT:P.underlying T=some (.slice e)) (hE:TI P e z sz by_) (hm:m * sz≤16777216)
  (hc:Instr.fill (fun i=>some (i * sz,sz)) (zlt z (m * sz)) vs.toList=some cells) :
  (Instr.buildSlice T m vs).run P w=.ok (.slice (some ⟨w.heap.size,0,none⟩) m m) (w.alloc (.cells cells e)):=by
 have hn:¬ m * sz > 2 ^ 24:=by omega
 unfold zlt at hc;unfold Instr.buildSlice;simp only [Sem.run_bind,run_underlying hT,Result.andThen,z3a hE,hn,if_false];by_cases h0:m * sz=0
 ·rw [if_pos h0] at hc;rw [if_pos h0];simp only [Sem.run_bind,Sem.run_pure,Result.andThen,hc];rfl
 ·rw [if_neg h0] at hc;rw [if_neg h0];simp only [Sem.run_bind,zdr hE,Result.andThen,Sem.run_pure,hc];rfl
theorem zf1 {T e rt:TypeId} {z:Value} {sz by_ B:Nat} {p q:Option Addr} {k m c c2:Nat} {xs news:List Value} (hT:P.underlying T=some (.slice e)) (hE:TI P e z sz by_) (hz:z.cells.size=sz) (hsz:0<sz)
  (ho:w.ownsRow B e sz (.slice p k c) k xs) (hr:Rd w (.slice q m c2) m sz news) (h1:∀ u∈news,u.oneCell'=true)
  (hlen:k+m≤9223372036854775807) (hby:(k+m) * by_≤140737488355328) (hB:B≤w.heap.size) :
  ∃ p' c' w',(Builtin.append_ #[T,T] rt #[.slice p k c,.slice q m c2]).run P w=.ok (.slice p' (k+m) c') w'∧w'.ownsRow B e sz (.slice p' (k+m) c') (k+m) (xs++news) ∧
   w.grownBy w' (Value.slice p k c).ownBlock∧(∀ b,(Value.slice p' (k+m) c').ownBlock=some b→(Value.slice p k c).ownBlock=some b∨w.heap.size≤b):=by
 obtain ⟨ti,g1,g2,g3,g4⟩:=hE;rcases hr.2 with ⟨hq,rfl⟩ | ⟨b,o,sp,cap,hq,_,_,hsp,hcell⟩
 ·simp only [Value.slice.injEq,true_and] at hq;obtain ⟨rfl,rfl⟩:=hq;have hnil:news=[]:=by have:=hr.1; simpa using this
  subst hnil;refine ⟨p,c,w,?_, by simpa using ho,⟨rfl,rfl,rfl,Nat.le_refl _, fun _ _ _=>rfl⟩, fun b hb=>.inl hb⟩;exact run_append_owned_none (P:=P) w B T rt e ti sz hT g1 _ k xs ho
 ·simp only [Value.slice.injEq,true_and] at hq;obtain ⟨rfl,rfl⟩:=hq;have hml:maxLen=9223372036854775807:=rfl;have hn:∀ j u,news[j]? = some u→w.cell? ((⟨b,o,sp⟩:Addr).add j)=some u:=fun j u hu=>by
   rcases hsp with rfl | rfl
   ·simp at hu
   ·rw [z5y]; exact hcell j u hu
  obtain ⟨v',w',hrun,ho',hg,-⟩:=run_append_own (P:=P) w B T rt e ti z sz by_ hT g1 g2 g3 g4 hz hsz _ k xs ho ⟨b,o,sp⟩ m c2 news hr.1
   hn h1 (by omega) hby hB
  obtain ⟨p',c',rfl⟩:=z2l ho';refine ⟨p',c',w',hrun,ho',hg, fun b' hb'=>?_⟩;have hml':k+m≤maxLen:=by omega
  rcases ho.2 with ⟨hv,h0⟩ | ⟨g',cap',cur,hv,hbg,hg',hnc,hcm,hcs,htake⟩
  ·simp only [Value.slice.injEq] at hv;obtain ⟨rfl,-,rfl⟩:=hv;subst h0;by_cases hm:m=0
   ·subst hm
    exfalso
    have hx:news=[]:=List.eq_nil_of_length_eq_zero (by simpa using hr.1);subst hx;simp [Builtin.append_,run_underlying hT,sizeOf,typeInfo,g1,Builtin.lenOf,Builtin.firstCells,loadCells,loadCellsFrom] at hrun;obtain ⟨⟨rfl,_⟩,_⟩:=hrun;simp [Value.ownBlock] at hb'
   ·have hr':=run_append_nil (P:=P) w T rt e ti z hT g1 g2 ⟨b,o,sp⟩ m c2 news (by rw [g3]; exact hr.1) hn (by omega) (by omega) (by rw [g4]; simp only [Nat.zero_add] at hby; omega);rw [hr'] at hrun;simp only [Result.ok.injEq,Value.slice.injEq] at hrun;obtain ⟨⟨rfl,_⟩,_⟩:=hrun;simp only [Value.ownBlock,Option.some.injEq] at hb';exact .inr (by omega)
  ·simp only [Value.slice.injEq,true_and] at hv;obtain ⟨rfl,rfl⟩:=hv;by_cases hroom:k+m≤c
   ·have hfit:k * ti.size+news.length≤cur.size:=by rw [g3,hr.1,hcs,← Nat.add_mul]; exact Nat.mul_le_mul_right _ hroom
    have hr':=run_append_room (P:=P) w T rt e ti hT g1 g' k c cur hg' ⟨b,o,sp⟩ m c2 news (by rw [g3]; exact hr.1) hn h1 hroom hfit;rw [hr'] at hrun;simp only [Result.ok.injEq,Value.slice.injEq] at hrun;obtain ⟨⟨rfl,_⟩,_⟩:=hrun;exact .inl hb'
   ·have holds:∀ j u,xs[j]? = some u→w.cell? ((⟨g',0,none⟩:Addr).add j)=some u:=ho.cells (g:=g') rfl;have hr':=run_append_grow (P:=P) w T rt e ti z hT g1 g2 ⟨g',0,none⟩ k c xs (by rw [g3]; exact ho.1) holds ⟨b,o,sp⟩ m c2 news (by rw [g3]; exact hr.1) hn (by omega) (by omega) (growslice_fits (by omega) (by rw [g4]; exact hby));rw [hr'] at hrun;simp only [Result.ok.injEq,Value.slice.injEq] at hrun;obtain ⟨⟨rfl,_⟩,_⟩:=hrun
    simp only [Value.ownBlock,Option.some.injEq] at hb';exact .inr (by omega)
theorem Rd.sub {v m sz xs} (h:Rd w v m sz xs) {p:Option Addr} {cp:Nat} (hv:v=.slice p m cp) {i j:Nat} (hij:i≤j) (hj:j≤m) :
  Rd w (.slice (if cp=i then p else p.map (·.add (i * sz))) (j - i) (cp - i)) (j - i) sz ((xs.drop (i * sz)).take ((j - i) * sz)):=by
 subst hv;have hl:=h.1;have h1:(j - i) * sz+i * sz≤m * sz:=by
  rw [← Nat.add_mul]; exact Nat.mul_le_mul_right _ (by omega)
 refine ⟨by simp [hl]; omega,?_⟩;rcases h.2 with ⟨hv,rfl⟩ | ⟨b,o,sp,cap,hv,h2,h3,hsp,h4⟩
 ·simp only [Value.slice.injEq,true_and] at hv;obtain ⟨rfl,rfl⟩:=hv
  have:i=0:=by omega
  have:j=0:=by omega
  subst i; subst j;exact .inl (by simp)
 ·simp only [Value.slice.injEq,true_and] at hv;obtain ⟨rfl,rfl⟩:=hv;by_cases hc:cp=i
  ·have hji:j - i=0:=by omega
   refine .inr ⟨b,o,sp,cp - i, by simp [hc], by omega, by omega,.inl (by simp [hji]), fun q u hu=>?_⟩
   exfalso
   have hq:=(List.getElem?_eq_some_iff.1 hu).1;simp [hji] at hq
  ·have hadd:∃ sp',(⟨b,o,sp⟩:Addr).add (i * sz)=⟨b,o+i * sz,sp'⟩∧(xs=[]∨sp'=none):=by
    rcases hsp with rfl | rfl
    ·unfold Addr.add; split
     ·rename_i h0; exact ⟨sp, by simp [h0],.inl rfl⟩
     ·exact ⟨none,rfl,.inl rfl⟩
    ·exact ⟨none,z5y _ _ _,.inr rfl⟩
   obtain ⟨sp',ha,hsp'⟩:=hadd;refine .inr ⟨b,o+i * sz,sp',cp - i, by simp [hc,ha], by omega, by omega,hsp'.imp (fun e=>by simp [e]) id, fun q u hu=>?_⟩;have hq:=(List.getElem?_eq_some_iff.1 hu).1;rw [List.getElem?_take] at hu
   split at hu
   ·rw [List.getElem?_drop] at hu;rw [Nat.add_assoc];exact h4 _ _ hu
   ·cases hu
theorem z15v {p:Option Addr} {m cp i j k sz:Nat}:(Value.slice (if cp=i then p else p.map (·.add (i * sz))) j k).ownBlock=(Value.slice p m cp).ownBlock:=by
 cases p with
 | none=>simp [Value.ownBlock]
 | some q=>by_cases h:cp=i <;> simp [h,Value.ownBlock,Addr.add] <;> split <;> rfl
end
end
section
open Go Go.RowKit
structure Enc (α:Type) where
 sz:Nat
 pos:0<sz
 of:α→List Value
 len:∀ x,(of x).length=sz
 one:∀ x,∀ u∈of x,u.oneCell'=true
structure ID32 where
 bytes:List UInt8
 len:bytes.length=32
theorem ID32.ext' {a b:ID32} (h:a.bytes=b.bytes):a=b:=by cases a; cases b; simp at h; subst h; rfl
instance:DecidableEq ID32:=fun a b=>decidable_of_iff (a.bytes=b.bytes) ⟨ID32.ext', fun h=>by rw [h]⟩
def sblk (p:Option Addr):Option Nat:=p.map (·.block)
theorem zgy (p:Option Addr) (n c:Nat):(Value.slice p n c).ownBlock=sblk p:=by cases p <;> rfl
section
variable {P:Program} {ops:Array Oper} {Q:Exit→Act→World→Prop} {a:Act} {w:World} {rest:List Oper} {n:Nat} {fl:List (Nat × Value)}
 {d:Tmp} {ty:TypeId} {pos:String} {after:Array Edge} {g:Option (Nat × Bool)} {α:Type} {E:Enc α}
end
end
section
open Go Go.RowKit
section
variable {n:Nat} {l:List (Nat × Value)} {a:Act}
end
section
variable {P:Program} {ops:Array Oper} {Q:Exit→Act→World→Prop} {a:Act} {w:World} {rest:List Oper} {n:Nat} {l:List (Nat × Value)}
 {d:Tmp} {ty:TypeId} {pos:String} {after:Array Edge} {g:Option (Nat × Bool)}
theorem zm9 {T e:TypeId} {p:Option Addr} {k c:Nat} (m:Nat) (hT:P.underlying T=some (.slice e)):(Op.equalIn (m+1) T (.slice p k c) (.slice none 0 0)).run P w=.ok (decide (p=none)) w:=by
 cases p <;> simp [Op.equalIn,run_underlying hT]
theorem zt9 {T e:TypeId} {p:Option Addr} {k c:Nat} (hT:P.underlying T=some (.slice e)):(binOp .eql T (.slice p k c) (.slice none 0 0)).run P w=.ok (.bool (decide (p=none))) w:=by
 have h:(Op.equalIn 10000 T (.slice p k c) (.slice none 0 0)).run P w=.ok (decide (p=none)) w:=zm9 9999 hT;show (do pure (.bool (← Op.equalIn 10000 T (.slice p k c) (.slice none 0 0))):Sem Value).run P w=_;simp [h]
end
end
section
open Go Go.RowKit
abbrev Blk:=Nat→Prop
def z9q (S S':Blk) (w w':World):Prop:=∀ b,S b→S' b∧w'.heap[b]? = w.heap[b]?
theorem z9q.rfl' {S w}:z9q S S w w:=fun _ h=>⟨h,rfl⟩
theorem z9q.tr {S S1 S2 w w1 w2} (h:z9q S S1 w w1) (k:z9q S1 S2 w1 w2):z9q S S2 w w2:=fun b hb=>⟨(k b (h b hb).1).1,(k b (h b hb).1).2.trans (h b hb).2⟩
structure Rep (α:Type) where
 sz:Nat
 agg:Bool
 rel:Blk→World→List Value→α→Prop
 len:∀ {S w cs x},rel S w cs x→cs.length=sz
 one:∀ {S w cs x},rel S w cs x→∀ u∈cs,u.oneCell'=true
 scal:agg=false→sz=1
 mono:∀ {S S' w w' cs x},z9q S S' w w'→rel S w cs x→rel S' w' cs x
def Rep.val {α} (R:Rep α) (cs:List Value):Value:=bif R.agg then .agg cs.toArray else cs.headD undef
def Rep.vrel {α} (R:Rep α) (S:Blk) (w:World) (v:Value) (x:α):Prop:=∃ cs,R.rel S w cs x∧v=R.val cs
theorem Rep.vrel.mono {α} {R:Rep α} {S S' w w' v x} (h:R.vrel S w v x) (k:z9q S S' w w'):R.vrel S' w' v x:=by
 obtain ⟨cs,h1,h2⟩:=h; exact ⟨cs,R.mono k h1,h2⟩
theorem z8y {u:Value} (h:u.oneCell'=true):u.cells = #[u]:=by cases u <;> first | rfl | simp [Value.oneCell'] at h
theorem Rep.val_cells {α} {R:Rep α} {S w cs x} (h:R.rel S w cs x):(R.val cs).cells.toList=cs:=by
 unfold Rep.val
 cases ha:R.agg with
 | true=>rfl
 | false =>
  have h1:=R.len h;rw [R.scal ha] at h1
  match cs,h1 with
  | [u],_=>simp [z8y (R.one h u (by simp))]
def z5r {α} (R:Rep α) (S:Blk) (w:World):List Value→List α→Prop
 | cs,[]=>cs=[]
 | cs,x::xs=>∃ c d,cs=c++d∧R.rel S w c x∧z5r R S w d xs
theorem z5r.len {α} {R:Rep α} {S w}:∀ {l:List α} {cs},z5r R S w cs l→cs.length=l.length * R.sz
 | [],cs,h=>by simp only [z5r] at h; simp [h]
 | x::l,cs,h=>by
  obtain ⟨c,d,rfl,h1,h2⟩:=h;simp [R.len h1,z5r.len h2,Nat.add_mul,Nat.add_comm]
theorem z5r.one {α} {R:Rep α} {S w}:∀ {l:List α} {cs},z5r R S w cs l→∀ u∈cs,u.oneCell'=true
 | [],cs,h=>by simp only [z5r] at h; simp [h]
 | x::l,cs,h=>by
  obtain ⟨c,d,rfl,h1,h2⟩:=h;intro u hu;rcases List.mem_append.1 hu with h | h
  ·exact R.one h1 u h
  ·exact z5r.one h2 u h
theorem z5r.mono {α} {R:Rep α} {S S' w w'} (k:z9q S S' w w'):∀ {l:List α} {cs},z5r R S w cs l→z5r R S' w' cs l
 | [],cs,h=>h
 | x::l,cs,h=>by
  obtain ⟨c,d,rfl,h1,h2⟩:=h;exact ⟨c,d,rfl,R.mono k h1,z5r.mono k h2⟩
theorem z5r.append {α} {R:Rep α} {S w}:∀ {l m:List α} {cs ds},z5r R S w cs l→z5r R S w ds m→z5r R S w (cs++ds) (l++m)
 | [],m,cs,ds,h,k=>by simp only [z5r] at h; subst h; exact k
 | x::l,m,cs,ds,h,k=>by
  obtain ⟨c,d,rfl,h1,h2⟩:=h;exact ⟨c,d++ds, by simp,h1,z5r.append h2 k⟩
theorem z5r.drop {α} {R:Rep α} {S w}:∀ {l:List α} {cs} (i:Nat),z5r R S w cs l→z5r R S w (cs.drop (i * R.sz)) (l.drop i)
 | l,cs,0,h=>by simpa using h
 | [],cs,i+1,h=>by simp only [z5r] at h; subst h; simp [z5r]
 | x::l,cs,i+1,h=>by
  obtain ⟨c,d,rfl,h1,h2⟩:=h
  have:=z5r.drop i h2
  have hc:=R.len h1;rw [show (i+1) * R.sz=c.length+i * R.sz by rw [hc,Nat.add_mul]; omega]
  simpa using this
theorem z5r.take {α} {R:Rep α} {S w}:∀ {l:List α} {cs} (i:Nat),z5r R S w cs l→z5r R S w (cs.take (i * R.sz)) (l.take i)
 | l,cs,0,h=>by simp [z5r]
 | [],cs,i+1,h=>by simp only [z5r] at h; subst h; simp [z5r]
 | x::l,cs,i+1,h=>by
  obtain ⟨c,d,rfl,h1,h2⟩:=h
  have:=z5r.take i h2
  have hc:=R.len h1;rw [show (i+1) * R.sz=c.length+i * R.sz by rw [hc,Nat.add_mul]; omega];rw [List.take_length_add_append];exact ⟨c,_,rfl,h1,this⟩
theorem z5r.split {α} {R:Rep α} {S w} {x:α}:∀ {l:List α} {cs} {i:Nat},z5r R S w cs l→l[i]? = some x →
  ∃ a c d,cs=a++c++d∧a.length=i * R.sz∧R.rel S w c x∧∀ c' x' S' w',z9q S S' w w'→R.rel S' w' c' x'→z5r R S' w' (a++c'++d) (l.set i x')
 | [],cs,i,h,hx=>by simp at hx
 | y::l,cs,0,h,hx=>by
  obtain ⟨c,d,rfl,h1,h2⟩:=h;simp only [List.getElem?_cons_zero,Option.some.injEq] at hx;subst hx;exact ⟨[],c,d, by simp, by simp,h1, fun c' x' S' w' k h'=>⟨c',d, by simp,h',h2.mono k⟩⟩
 | y::l,cs,i+1,h,hx=>by
  obtain ⟨c,d,rfl,h1,h2⟩:=h;simp only [List.getElem?_cons_succ] at hx;obtain ⟨a,c1,d1,rfl,ha,hr,hs⟩:=z5r.split h2 hx;refine ⟨c++a,c1,d1, by simp, by simp [R.len h1,ha,Nat.add_mul]; omega,hr, fun c' x' S' w' k h'=>?_⟩;exact ⟨c,a++c'++d1, by simp,R.mono k h1,hs c' x' S' w' k h'⟩
theorem z5r.single {α} {R:Rep α} {S w c} {x:α} (h:R.rel S w c x):z5r R S w c [x]:=⟨c,[], by simp,h,rfl⟩
def z9b {α:Type} (k:IntKind) (f:α→Int):Rep α where
 sz:=1
 agg:=false
 rel _ _ cs x:=cs=[.int k (f x)]
 len h:=by subst h; rfl
 one h:=by subst h; intro u hu; simp at hu; subst hu; rfl
 scal _:=rfl
 mono _ h:=h
def z08:Rep Int:=z9b .i64 id
def i32R:Rep Int:=z9b .i32 id
def u8R:Rep UInt8:=z9b .u8 (fun x=>(x.toNat:Int))
def z0p:Rep UInt32:=z9b .u32 (fun x=>(x.toNat:Int))
def z2x:Rep UInt64:=z9b .u64 (fun x=>(x.toNat:Int))
def z09:Rep Bool where
 sz:=1
 agg:=false
 rel _ _ cs x:=cs=[.bool x]
 len h:=by subst h; rfl
 one h:=by subst h; intro u hu; simp at hu; subst hu; rfl
 scal _:=rfl
 mono _ h:=h
def z3q:Rep (List UInt8) where
 sz:=1
 agg:=false
 rel _ _ cs x:=∃ s:ByteArray,cs=[.string s]∧s.data.toList=x
 len h:=by obtain ⟨s,rfl,_⟩:=h; rfl
 one h:=by obtain ⟨s,rfl,_⟩:=h; intro u hu; simp at hu; subst hu; rfl
 scal _:=rfl
 mono _ h:=h
theorem Rd.stay {S S' w w' p c n sz xs} (h:Rd w (.slice p n c) n sz xs) (hS:xs≠[]→∀ b,sblk p=some b→S b) (k:z9q S S' w w'):Rd w' (.slice p n c) n sz xs:=by
 refine ⟨h.1,?_⟩;rcases h.2 with h2 | ⟨b,o,sp,cap,hv,h1,h2,h4,h3⟩
 ·exact .inl h2
 ·refine .inr ⟨b,o,sp,cap,hv,h1,h2,h4, fun j u hu=>?_⟩;have hb:=(k b (hS (fun e=>by rw [e] at hu; simp at hu) b (by simp only [Value.slice.injEq] at hv; rw [hv.1]; rfl))).2
  have:=h3 j u hu
  unfold World.cell? at this ⊢;rw [hb]; exact this
def z03 {α:Type} (R:Rep α):Rep (List α) where
 sz:=1
 agg:=false
 rel S w cs l:=∃ p c xs,cs=[.slice p l.length c]∧Rd w (.slice p l.length c) l.length R.sz xs∧z5r R S w xs l∧(xs≠[]→∀ b,sblk p=some b→S b)
 len h:=by obtain ⟨p,c,xs,rfl,_⟩:=h; rfl
 one h:=by obtain ⟨p,c,xs,rfl,_⟩:=h; intro u hu; simp at hu; subst hu; rfl
 scal _:=rfl
 mono k h:=by
  obtain ⟨p,c,xs,h1,h2,h3,h4⟩:=h;exact ⟨p,c,xs,h1,h2.stay h4 k,h3.mono k, fun hx b hb=>(k b (h4 hx b hb)).1⟩
def z3m {α:Type} (n:Nat) (R:Rep α):Rep (Vector α n) where
 sz:=n * R.sz
 agg:=true
 rel S w cs v:=z5r R S w cs v.toList
 len h:=by rw [h.len]; simp
 one h:=h.one
 scal h:=by cases h
 mono k h:=h.mono k
def zdb:Rep Unit where
 sz:=0
 agg:=true
 rel _ _ cs _:=cs=[]
 len h:=by subst h; rfl
 one h:=by subst h; simp
 scal h:=by cases h
 mono _ h:=h
def z4y {α β:Type} (R:Rep α) (T:Rep β):Rep (α × β) where
 sz:=R.sz+T.sz
 agg:=true
 rel S w cs x:=∃ c d,cs=c++d∧R.rel S w c x.1∧T.rel S w d x.2
 len h:=by obtain ⟨c,d,rfl,h1,h2⟩:=h; simp [R.len h1,T.len h2]
 one h:=by
  obtain ⟨c,d,rfl,h1,h2⟩:=h;intro u hu;rcases List.mem_append.1 hu with h | h
  ·exact R.one h1 u h
  ·exact T.one h2 u h
 scal h:=by cases h
 mono k h:=by obtain ⟨c,d,h1,h2,h3⟩:=h; exact ⟨c,d,h1,R.mono k h2,T.mono k h3⟩
def zjw {α β:Type} (g:β→α) (R:Rep α):Rep β where
 sz:=R.sz
 agg:=R.agg
 rel S w cs x:=R.rel S w cs (g x)
 len h:=R.len h
 one h:=R.one h
 scal h:=R.scal h
 mono k h:=R.mono k h
structure Ent where
 holds:Blk→World→Value→Prop
 mono:∀ {S S' w w' v},z9q S S' w w'→holds S w v→holds S' w' v
def Ent.rd {α:Type} (R:Rep α) (x:α):Ent:=⟨fun S w v=>R.vrel S w v x, fun k h=>h.mono k⟩
def Ent.val (u:Value):Ent:=⟨fun _ _ v=>v=u∧u.oneCell'=true, fun _ h=>h⟩
def Ent.un:Ent:=⟨fun _ _ v=>v=undef, fun _ h=>h⟩
def Ent.junk:Ent:=⟨fun _ _ _=>True, fun _ h=>h⟩
def z3i (S:Blk) (w:World):List Ent→List Value→Prop
 | [],[]=>True
 | e::es,v::vs=>e.holds S w v∧z3i S w es vs
 | _,_=>False
theorem z3i.mono {S S' w w'} (k:z9q S S' w w'):∀ {es vs},z3i S w es vs→z3i S' w' es vs
 | [],[],_=>trivial
 | e::es,v::vs,h=>⟨e.mono k h.1,z3i.mono k h.2⟩
 | [],_::_,h=>h.elim
 | _::_,[],h=>h.elim
def z8u (vs:List Value):List Value:=vs.flatMap fun v=>v.cells.toList
def Ent.agg (es:List Ent):Ent:=⟨fun S w v=>∃ vs,z3i S w es vs∧v=.agg (z8u vs).toArray, fun k h=>by obtain ⟨vs,h1,h2⟩:=h; exact ⟨vs,h1.mono k,h2⟩⟩
def Ent.tup (es:List Ent):Ent:=⟨fun S w v=>∃ vs,z3i S w es vs∧v=.tuple vs.toArray, fun k h=>by obtain ⟨vs,h1,h2⟩:=h; exact ⟨vs,h1.mono k,h2⟩⟩
def Ent.rp {α:Type} (R:Rep α) (x:α):Ent where
 holds S w v:=∃ b o cs,v=.pointer (some ⟨b,o,none⟩)∧S b∧R.rel S w cs x∧∀ j u,cs[j]? = some u→w.cell? ⟨b,o+j,none⟩=some u
 mono k h:=by
  obtain ⟨b,o,cs,h1,h2,h3,h4⟩:=h;refine ⟨b,o,cs,h1,(k b h2).1,R.mono k h3, fun j u hu=>?_⟩
  have:=h4 j u hu
  unfold World.cell? at this ⊢;rw [(k b h2).2]; exact this
def z58:Value→Option Nat
 | .slice (some a) _ _=>some a.block
 | .pointer (some a)=>some a.block
 | .map r=>r
 | _=>none
structure z4l where
 nil:Blk→World→Value→Prop
 nilm:∀ {S S' w w' v},z9q S S' w w'→nil S w v→nil S' w' v
 nilb:∀ {S w v},nil S w v→z58 v=none
 rel:Blk→World→Value→Obj→Prop
 mono:∀ {S S' w w' v o},z9q S S' w w'→rel S w v o→rel S' w' v o
def z4l.holds (c:z4l) (S:Blk) (w:World) (v:Value):Prop:=c.nil S w v∨∃ b o,z58 v=some b∧w.heap[b]? = some o∧c.rel S w v o
theorem z4l.holds.mono {c:z4l} {S S' w w' v} (h:c.holds S w v) (k:z9q S S' w w') (hb:∀ b,z58 v=some b→w'.heap[b]? = w.heap[b]?):c.holds S' w' v:=by
 rcases h with h | ⟨b,o,h1,h2,h3⟩
 ·exact .inl (c.nilm k h)
 ·exact .inr ⟨b,o,h1,(hb b h1).trans h2,c.mono k h3⟩
theorem z4l.holds.lt {c:z4l} {S w v} (h:c.holds S w v) {b} (hb:z58 v=some b):b<w.heap.size:=by
 rcases h with h | ⟨b',o,h1,h2,h3⟩
 ·rw [c.nilb h] at hb; cases hb
 ·rw [h1] at hb; cases hb; exact (Array.getElem?_eq_some_iff.1 h2).1
def z4l.list {α:Type} (R:Rep α) (T:TypeId) (l:List α):z4l where
 nil _ _ v:=v=.slice none 0 0∧l=[]
 nilm _ h:=h
 nilb h:=by rw [h.1]; rfl
 rel S w v o:=∃ b cap C,v=.slice (some ⟨b,0,none⟩) l.length cap∧o=.cells C T (0,0)∧l.length≤cap∧cap≤maxLen∧C.size=cap * R.sz∧z5r R S w (C.toList.take (l.length * R.sz)) l
 mono k h:=by obtain ⟨b,cap,C,h1,h2,h3,h4,h5,h6⟩:=h; exact ⟨b,cap,C,h1,h2,h3,h4,h5,h6.mono k⟩
def z4l.seg {α:Type} (R:Rep α) (T:TypeId) (l:List α):z4l where
 nil _ _ v:=v=.slice none 0 0∧l=[]
 nilm _ h:=h
 nilb h:=by rw [h.1]; rfl
 rel S w v o:=∃ b off cap C,v=.slice (some ⟨b,off,none⟩) l.length cap∧o=.cells C T (0,0)∧l.length≤cap∧cap≤maxLen∧(cap=0∨off+cap * R.sz=C.size)∧z5r R S w ((C.toList.drop off).take (l.length * R.sz)) l
 mono k h:=by obtain ⟨b,off,cap,C,h1,h2,h3,h4,h5,h6⟩:=h; exact ⟨b,off,cap,C,h1,h2,h3,h4,h5,h6.mono k⟩
def z4l.box (T:TypeId) (es:List Ent):z4l where
 nil _ _ _:=False
 nilm _ h:=h
 nilb h:=h.elim
 rel S w v o:=∃ b vs,v=.pointer (some ⟨b,0,none⟩)∧o=.cells (z8u vs).toArray T (0,0)∧z3i S w es vs
 mono k h:=by obtain ⟨b,vs,h1,h2,h3⟩:=h; exact ⟨b,vs,h1,h2,h3.mono k⟩
theorem z7c {α} {R:Rep α} {T l S w v} (h:(z4l.list R T l).holds S w v):∃ xs,w.ownsRow 0 T R.sz v l.length xs∧z5r R S w xs l:=by
 rcases h with ⟨rfl,rfl⟩ | ⟨b,o,h1,h2,b',cap,C,rfl,rfl,h3,h4,h5,h6⟩
 ·exact ⟨[],⟨by simp,.inl ⟨rfl,rfl⟩⟩,rfl⟩
 ·simp only [z58,Option.some.injEq] at h1;subst h1;exact ⟨_,⟨h6.len,.inr ⟨_,cap,C,rfl,Nat.zero_le _,h2,h3,h4,h5,rfl⟩⟩,h6⟩
theorem zjh {α} {R:Rep α} {B T l S w v xs} (h:w.ownsRow B T R.sz v l.length xs) (k:z5r R S w xs l):(z4l.list R T l).holds S w v:=by
 rcases h.2 with ⟨rfl,h0⟩ | ⟨g,cap,C,rfl,_,h2,h3,h4,h5,h6⟩
 ·exact .inl ⟨rfl,List.eq_nil_of_length_eq_zero h0⟩
 ·exact .inr ⟨g,_,rfl,h2,g,cap,C,rfl,rfl,h3,h4,h5, by rw [h6]; exact k⟩
end
section
open Go Go.RowKit
variable {ro:Option Nat}
def lk {α:Type}:List (Nat × α)→Nat→Option α
 | [],_=>none
 | (k,v)::l,t=>bif Nat.beq k t then some v else lk l t
theorem z2j {α:Type} {k t:Nat} {v:α} {l:List (Nat × α)}:lk ((k,v)::l) t=if k=t then some v else lk l t:=by
 simp only [lk]
 cases hb:Nat.beq k t with
 | true=>rw [if_pos (Nat.eq_of_beq_eq_true hb)]; rfl
 | false=>rw [if_neg (Nat.ne_of_beq_eq_false hb)]; rfl
abbrev z1p:=List (Nat × Ent)
abbrev Res:=List (Nat × Option (Value × z4l))
def lr (res:Res) (r:Nat):Option (Value × z4l):=(lk res r).getD none
def Shr (H:Blk) (res:Res) (w:World):Blk:=fun b=>b<w.heap.size∧(∀ r v c,lr res r=some (v,c)→z58 v≠some b)∧¬ H b
structure Ctx where
 n:Nat
 K:Blk
 H:Blk
 w0:World
 ds:List Deferred
structure zl0 (K:Blk) (w w':World):Prop where
 os:w'.os=w.os
 tape:w'.tape=w.tape
 output:w'.output=w.output
 size:w.heap.size≤w'.heap.size
 block:∀ b,K b→w'.heap[b]? = w.heap[b]?
theorem zl0.rfl' {K w}:zl0 K w w:=⟨rfl,rfl,rfl,Nat.le_refl _, fun _ _=>rfl⟩
theorem zl0.tr {K K' w w1 w2} (h:zl0 K w w1) (k:zl0 K' w1 w2) (hK:∀ b,K b→K' b):zl0 K w w2 :=
 ⟨k.os.trans h.os,k.tape.trans h.tape,k.output.trans h.output,Nat.le_trans h.size k.size, fun b hb=>(k.block b (hK b hb)).trans (h.block b hb)⟩
theorem zl0.gr {K w w1 w2} {r:Option Nat} (h:zl0 K w w1) (k:w1.grownBy w2 r) (hK:∀ b,K b→b<w1.heap.size∧r≠some b):zl0 K w w2 :=
 ⟨k.os.trans h.os,k.tape.trans h.tape,k.output.trans h.output,Nat.le_trans h.size k.size, fun b hb=>(k.block b (hK b hb).1 (fun e=>(hK b hb).2 e.symm)).trans (h.block b hb)⟩
structure Sta (Γ:Ctx) (l:z1p) (res:Res) (a:Act) (w:World):Prop where
 size:a.tmps.size=Γ.n
 defers:a.defers=Γ.ds
 slots:∀ t e,lk l t=some e→∃ v,a.tmps[t]? = some v∧e.holds (Shr Γ.H res w) w v
 conts:∀ r v c,lr res r=some (v,c)→c.holds (Shr Γ.H res w) w v
 excl:∀ r v c r' v' c',lr res r=some (v,c)→lr res r'=some (v',c')→r≠r'→∀ b,z58 v=some b→z58 v'≠some b
 own:∀ r v c,lr res r=some (v,c)→∀ b,z58 v=some b→¬ Γ.K b
 keep:zl0 Γ.K Γ.w0 w
 old:∀ b,Γ.K b→b<Γ.w0.heap.size
 hid:∀ b,Γ.H b→Γ.K b
section
variable {P:Program} {Γ:Ctx} {l l':z1p} {res res':Res} {a:Act} {w w':World}
theorem Sta.frm (h:Sta Γ l res a w):Frm Γ.n [] { a with defers:=[] }:=⟨h.size,rfl, fun _ _ h=>by simp [zq4] at h⟩
theorem Sta.slot (h:Sta Γ l res a w) {t:Nat} {e:Ent} (ht:lk l t=some e):∃ v,zq4 [(t,v)] t=some v∧Frm Γ.n [(t,v)] { a with defers:=[] }∧e.holds (Shr Γ.H res w) w v:=by
 obtain ⟨v,h1,h2⟩:=h.slots t e ht;refine ⟨v, by simp [zq4],⟨h.size,rfl, fun t' v' h'=>?_⟩,h2⟩;simp only [zq4] at h'
 cases hb:Nat.beq t t' with
 | true =>
  rw [hb] at h'
  have:=Nat.eq_of_beq_eq_true hb
  subst this;simp only [cond_true,Option.some.injEq] at h';subst h'; exact h1
 | false=>rw [hb] at h'; cases h'
theorem Shr.ext {H:Blk} (k:Ext w w'):z9q (Shr H res w) (Shr H res w') w w':=fun b hb=>⟨⟨Nat.lt_of_lt_of_le hb.1 k.size,hb.2⟩,k.block b hb.1⟩
theorem zl0.ext {K w0} (h:zl0 K w0 w) (hK:∀ b,K b→b<w0.heap.size) (k:Ext w w'):zl0 K w0 w' :=
 ⟨k.os.trans h.os,k.tape.trans h.tape,k.output.trans h.output,Nat.le_trans h.size k.size, fun b hb=>(k.block b (Nat.lt_of_lt_of_le (hK b hb) h.size)).trans (h.block b hb)⟩
theorem Sta.ext (h:Sta Γ l res a w) (k:Ext w w'):Sta Γ l res a w' where
 size:=h.size
 defers:=h.defers
 slots t e ht:=by obtain ⟨v,h1,h2⟩:=h.slots t e ht; exact ⟨v,h1,e.mono (Shr.ext k) h2⟩
 conts r v c hr:=(h.conts r v c hr).mono (Shr.ext k) (fun b hb=>k.block b ((h.conts r v c hr).lt hb))
 excl:=h.excl
 own:=h.own
 keep:=h.keep.ext h.old k
 old:=h.old
 hid:=h.hid
theorem Sta.put (h:Sta Γ l res a w) {d:Nat} {v:Value} {e:Ent} (hd:Nat.blt d Γ.n=true) (he:e.holds (Shr Γ.H res w) w v):Sta Γ ((d,e)::l) res (a.put (some d) v) w where
 size:=by simp [Act.put,h.size]
 defers:=by simp [Act.put,h.defers]
 slots t e' ht:=by
  have hd:d<Γ.n:=Eq.mp Nat.blt_eq hd;rw [z2j] at ht
  split at ht
  ·rename_i hdt; subst hdt; cases ht
   exact ⟨v, by simp [Act.put,h.size,hd],he⟩
  ·rename_i hdt;obtain ⟨u,h1,h2⟩:=h.slots t e' ht;exact ⟨u, by simp [Act.put,Array.getElem?_setIfInBounds_ne hdt,h1],h2⟩
 conts:=h.conts
 excl:=h.excl
 own:=h.own
 keep:=h.keep
 old:=h.old
 hid:=h.hid
theorem Sta.old_lt (h:Sta Γ l res a w) {b:Nat} (hb:Γ.K b):b<w.heap.size:=Nat.lt_of_lt_of_le (h.old b hb) h.keep.size
end
abbrev Asn:=Act→World→Prop
section
variable {ρ:Type} {P:Program} {A:Asn} {Q:ρ→Exit→Act→World→Prop} {m:Option ρ}
abbrev GX (X:ρ→Act→World→Prop) (A:Asn) (m:Option ρ):Prop:=∀ a w,A a w→∀ r,m=some r→X r a w
def wpM (ro:Option Nat) (P:Program) (c:Code) (Q:Exit→Act→World→Prop) (a:Act) (w:World):Prop:=match ro with
 | none=>c.wp P Q a w
 | some l=>(∀ a w,¬ Q .outgrown a w)→c.wpIn (Fence.wide.inRound l) 0 P Q a w
def G (ro:Option Nat) (P:Program) (A:Asn) (c:Code) (Q:ρ→Exit→Act→World→Prop) (m:Option ρ):Prop:=GX (fun r a w=>wpM ro P c (Q r) a w) A m
def GL (P:Program) (ops:List Oper) (A:Asn) (os:List Oper) (N:ρ→Exit→Act→World→Prop) (m:Option ρ):Prop:=GX (fun r a w=>wpList P ops.toArray (N r) os a w) A m
def GE (A:Asn) (e:Exit) (Q:ρ→Exit→Act→World→Prop) (m:Option ρ):Prop:=GX (fun r a w=>Q r e a w) A m
def GQ (P:Program) (ops:List Oper) (A:Asn) (os:List Oper) (N:ρ→Exit→Act→World→Prop) (m:Option ρ):Prop:=GX (fun r a w=>wpQuiet P ops.toArray (Ext w) (fun a'=>∀ w',Ext w w'→N r .normal a' w') os a) A m
def zn3 (ro:Option Nat) (P:Program) (y:Code) (Q:ρ→Exit→Act→World→Prop):ρ→Exit→Act→World→Prop:=fun r=>Exit.then (wpM ro P y (Q r)) (Q r)
def blkQ (i:Nat) (Q:ρ→Exit→Act→World→Prop):ρ→Exit→Act→World→Prop:=fun r=>Exit.inBlock i (Q r)
theorem z11v {K:Act→World→Prop} {Q:Exit→Act→World→Prop} (h:∀ a w,¬ Q .outgrown a w):∀ a w,¬ Exit.then K Q .outgrown a w:=h
theorem z17g {i:Nat} {Q:Exit→Act→World→Prop} (h:∀ a w,¬ Q .outgrown a w):∀ a w,¬ Exit.inBlock i Q .outgrown a w:=h
section
variable {Q:Exit→Act→World→Prop} {a:Act} {w:World}
theorem zlg {c:Code} {Q':Exit→Act→World→Prop} (hq:∀ e a w,Q e a w→Q' e a w) (h:wpM ro P c Q a w):wpM ro P c Q' a w:=by
 cases ro with
 | none=>exact Code.wp_mono hq h
 | some l=>exact fun ho=>wpIn_mono (h (fun a w hh=>ho a w (hq _ _ _ hh))) hq
theorem zsh {x y:Code} (h:wpM ro P x (Exit.then (wpM ro P y Q) Q) a w):wpM ro P (.seq x y) Q a w:=by
 cases ro with
 | none=>exact wp_seq h
 | some l=>exact fun ho=>wpIn_seq (wpIn_mono (h (z11v ho)) (fun e a w hh=>by cases e <;> first | exact hh ho | exact hh))
theorem z104 {i:Nat} {x:Code} (h:wpM ro P x (Exit.inBlock i Q) a w):wpM ro P (.block i x) Q a w:=by
 cases ro with
 | none=>exact wp_block h
 | some l=>exact fun ho=>wpIn_block (h (z17g ho))
theorem z12l (h:Q .normal a w):wpM ro P .skip Q a w:=by
 cases ro with
 | none=>exact wp_skip h
 | some l=>exact fun _=>wpIn_skip h
theorem z12g {i:Nat} (h:Q (.exit i) a w):wpM ro P (.exit i) Q a w:=by
 cases ro with
 | none=>exact wp_exit h
 | some l=>exact fun _=>wpIn_exit h
theorem z15w (h:Q .ret a w):wpM ro P .ret Q a w:=by
 cases ro with
 | none=>exact wp_ret h
 | some l=>exact fun _=>wpIn_ret h
theorem zuq {c:Operand} {x y:Code} (hc:a.eval c=.bool true) (h:wpM ro P x Q a w):wpM ro P (.cond c x y) Q a w:=by
 cases ro with
 | none=>exact wp_cond_true hc h
 | some l=>exact fun ho=>wpIn_cond_true hc (h ho)
theorem zqy {c:Operand} {x y:Code} (hc:a.eval c=.bool false) (h:wpM ro P y Q a w):wpM ro P (.cond c x y) Q a w:=by
 cases ro with
 | none=>exact wp_cond_false hc h
 | some l=>exact fun ho=>wpIn_cond_false hc (h ho)
def zc0 (os:List Oper):Bool:=os.all fun o=>match o.op with
 | .defer _=>false
 | _=>true
theorem z18s {l:Nat} {o:Oper} {next:Act→World→Prop} (hd:∀ c,o.op≠.defer c) (h:o.wp P a w next Q):o.wpIn (Fence.wide.inRound l) 0 P a w next Q:=by
 refine ⟨fun _ _=>trivial,?_⟩;have e:o.semAt (Fence.wide.inRound l).round a.eval=execOp a.eval o:=Oper.semAt_some l _ o hd;rw [e];unfold Oper.wp at h;generalize (execOp a.eval o).run P w=r at h ⊢
 cases r with
 | ok x w' =>
  cases x with
  | enter f args =>
   refine ⟨fun hh=>(by cases hh),CallsIn.inRound l (callsIn_wide.2 ?_)⟩;have h:Calls P f args w' _:=h;refine h.mono ?_;intro e w'' he
   cases e <;> exact he
  | row r args=>exact ⟨fun hh=>(by cases hh), fun c cs _=>let ⟨v,w'',r,st⟩:=h c cs; ⟨v,w'',r,stepsIn_wide.2 st⟩⟩
  | round l f tmps assign body=>exact False.elim h
  | value v=>exact h
  | skip=>exact h
  | defer d=>exact h
  | _=>exact False.elim h
 | halt x w'=>cases x <;> exact h
theorem zsw {l:Nat} {ops:Array Oper} (ho:∀ a w,¬ Q .outgrown a w):∀ (os:List Oper) (a:Act) (w:World),zc0 os=true→wpList P ops Q os a w→wpListIn (Fence.wide.inRound l) 0 P ops Q os a w
 | [],_,_,_,h=>h
 | o::os,a,w,hd,h=>by
  unfold zc0 at hd;simp only [List.all_cons,Bool.and_eq_true] at hd;have hd2:zc0 os=true:=hd.2;have hdo:∀ c,o.op≠.defer c:=fun c e=>by rw [e] at hd; exact absurd hd.1 (by simp)
  unfold wpList at h;unfold wpListIn;by_cases hw:Region.wanted o (yielded ops a.tmps)=true
  ·rw [if_pos hw] at h ⊢;rcases h with h | ⟨-,a',w',hh⟩
   ·exact Oper.wpIn_mono (fun a w=>zsw ho os a w hd2) (z18s hdo h)
   ·exact absurd hh (ho _ _)
  ·rw [if_neg hw] at h ⊢;exact ⟨fun _ _=>trivial,zsw ho os _ w hd2 h⟩
theorem zw2 {id:Nat} {os:List Oper} (hd:zc0 os=true) (h:wpList P os.toArray Q os a w):wpM ro P (.region id os.toArray false) Q a w:=by
 cases ro with
 | none=>exact wp_region_lit h
 | some l=>exact fun ho=>wpIn_region_lit (zsw ho os a w hd h)
theorem ztn {l:Nat} {md:Region.Mode} {ops:Array Oper} (ho:∀ a w,¬ Q .outgrown a w) (hd:zc0 ops.toList=true):∀ (fuel:Nat) (listed:Array Bool) (a:Act) (w:World),wpAny P md ops Q fuel listed a w→wpAnyIn (Fence.wide.inRound l) 0 P md ops Q fuel listed a w
 | 0,_,_,_,h=>h
 | fuel+1,listed,a,w,h=>by
  refine ⟨h.1, fun i hi=>?_⟩;have h2:=h.2 i hi;unfold wpOp at h2;unfold wpOpIn
  cases hx:ops[i]? with
  | none=>rw [hx] at h2; exact ztn ho hd fuel _ a w h2
  | some o =>
   rw [hx] at h2;have hmem:o∈ops.toList:=by
    have:=Array.mem_of_getElem? hx
    simpa using this
   have hdo:∀ c,o.op≠.defer c:=fun c e=>by
    have:=List.all_eq_true.1 hd o hmem
    rw [e] at this; exact absurd this (by simp)
   simp only at h2 ⊢;by_cases hw:Region.wanted o (yielded ops a.tmps)=true
   ·rw [if_pos hw] at h2 ⊢;rcases h2 with h2 | ⟨-,a',w',hh⟩
    ·exact Oper.wpIn_mono (fun a w=>ztn ho hd fuel _ a w) (z18s hdo h2)
    ·exact absurd hh (ho _ _)
   ·rw [if_neg hw] at h2 ⊢;exact ⟨fun _ _=>trivial,ztn ho hd fuel _ _ w h2⟩
theorem zsi {id:Nat} {ops:Array Oper} (hm:P.follows .mixedOrders=true) (hd:zc0 ops.toList=true) (h:wpAny P .any ops Q ops.size (Array.replicate ops.size false) a { w with drawn:=w.drawn+1 }):wpM ro P (.region id ops true) Q a w:=by
 cases ro with
 | none=>exact wp_region_any hm h
 | some l=>exact fun ho=>wpIn_region_any hm (ztn ho hd _ _ _ _ h)
end
theorem z0q {x y:Code} (h:G ro P A x (zn3 ro P y Q) m):G ro P A (.seq x y) Q m:=fun a w ha r hr=>zsh (h a w ha r hr)
theorem z2g {id:Nat} {os:List Oper} (h:GL P os A os Q m) (hd:zc0 os=true:=by rfl):G ro P A (.region id os.toArray false) Q m:=fun a w ha r hr=>zw2 hd (h a w ha r hr)
theorem gSR {y:Code} {id:Nat} {os:List Oper} (h:GL P os A os (zn3 ro P y Q) m) (hd:zc0 os=true:=by rfl):G ro P A (.seq (.region id os.toArray false) y) Q m:=z0q (z2g h hd)
theorem z21 {ops:List Oper} (h:GE A .normal Q m):GL P ops A [] Q m:=fun a w ha r hr=>h a w ha r hr
theorem z5f {i:Nat} {x:Code} (h:G ro P A x (blkQ i Q) m):G ro P A (.block i x) Q m:=fun a w ha r hr=>z104 (h a w ha r hr)
theorem z38 (h:GE A .normal Q m):G ro P A .skip Q m:=fun a w ha r hr=>z12l (h a w ha r hr)
theorem z1z {i:Nat} (h:GE A (.exit i) Q m):G ro P A (.exit i) Q m:=fun a w ha r hr=>z12g (h a w ha r hr)
theorem z0k (h:GE A .ret Q m):G ro P A .ret Q m:=fun a w ha r hr=>z15w (h a w ha r hr)
theorem z0m {y:Code} (h:G ro P A y Q m):GE A .normal (zn3 ro P y Q) m:=h
theorem Zt {y:Code} (h:G ro P A y Q m):G ro P A .skip (zn3 ro P y Q) m:=z38 (z0m h)
theorem Zn {ops:List Oper} {y:Code} (h:G ro P A y Q m):GL P ops A [] (zn3 ro P y Q) m:=z21 (z0m h)
theorem z0v {y:Code} (h:GE A .ret Q m):GE A .ret (zn3 ro P y Q) m:=h
theorem z10 {y:Code} {i:Nat} (h:GE A (.exit i) Q m):GE A (.exit i) (zn3 ro P y Q) m:=h
theorem z3l {i:Nat} (h:GE A .normal Q m):GE A .normal (blkQ i Q) m:=h
theorem z4p {i:Nat} (h:GE A .ret Q m):GE A .ret (blkQ i Q) m:=h
theorem zz4 {i:Nat} (h:GE A .normal Q m):GE A (.exit i) (blkQ i Q) m:=fun a w ha r hr=>by
 have:=h a w ha r hr; unfold blkQ; simp [Exit.inBlock,this]
theorem z15f {i j:Nat} (hne:Nat.beq j i=false) (h:GE A (.exit j) Q m):GE A (.exit j) (blkQ i Q) m:=fun a w ha r hr=>by
 have:=h a w ha r hr; unfold blkQ; simp [Exit.inBlock,Nat.ne_of_beq_eq_false hne,this]
end
section
variable {ρ:Type} {P:Program} {Γ:Ctx} {l:z1p} {res:Res} {Q:ρ→Exit→Act→World→Prop} {m m1 m2:Option ρ} {os rest:List Oper} {N:ρ→Exit→Act→World→Prop}
def cstE:Value→Option Ent
 | .bool b=>some (.rd z09 b)
 | .string s=>some (.rd z3q s.data.toList)
 | .int .i64 n=>some (.rd z08 n)
 | .int .i32 n=>some (.rd i32R n)
 | .int .u8 (.ofNat n)=>bif Nat.blt n 256 then some (.rd u8R (UInt8.ofNat n)) else none
 | .int .u32 (.ofNat n)=>bif Nat.blt n 4294967296 then some (.rd z0p (UInt32.ofNat n)) else none
 | .int .u64 (.ofNat n)=>bif Nat.blt n 18446744073709551616 then some (.rd z2x (UInt64.ofNat n)) else none
 | v=>bif v.oneCell' then some (.val v) else none
theorem zvb {v:Value} {e:Ent} (h:cstE v=some e) (S:Blk) (w:World):e.holds S w v:=by
 unfold cstE at h
 split at h
 ·cases h; exact ⟨_,rfl,rfl⟩
 ·cases h; exact ⟨_,⟨_,rfl,rfl⟩,rfl⟩
 ·cases h; exact ⟨_,rfl,rfl⟩
 ·cases h; exact ⟨_,rfl,rfl⟩
 ·rename_i n
  cases hb:Nat.blt n 256 with
  | false=>rw [hb] at h; cases h
  | true =>
   rw [hb] at h; cases h
   have:n<256:=Eq.mp Nat.blt_eq hb
   refine ⟨_,rfl,?_⟩;simp [Rep.val,u8R,z9b]; omega
 ·rename_i n
  cases hb:Nat.blt n 4294967296 with
  | false=>rw [hb] at h; cases h
  | true =>
   rw [hb] at h; cases h
   have:n<4294967296:=Eq.mp Nat.blt_eq hb
   refine ⟨_,rfl,?_⟩;simp [Rep.val,z0p,z9b]; omega
 ·rename_i n
  cases hb:Nat.blt n 18446744073709551616 with
  | false=>rw [hb] at h; cases h
  | true =>
   rw [hb] at h; cases h
   have:n<18446744073709551616:=Eq.mp Nat.blt_eq hb
   refine ⟨_,rfl,?_⟩;simp [Rep.val,z2x,z9b]; omega
 ·skip
  cases hb:v.oneCell' with
  | false=>rw [hb] at h; cases h
  | true=>rw [hb] at h; cases h; exact ⟨rfl,hb⟩
def opE (l:z1p):Operand→Option Ent
 | .tmp t=>lk l t
 | .const v=>cstE v
 | .global g=>some (.val (.pointer (some ⟨g,0,none⟩)))
 | .func f=>some (.val (.func (.func f) #[] #[]))
theorem Sta.ev {a:Act} {w:World} (h:Sta Γ l res a w) {x:Operand} {e:Ent} (hx:opE l x=some e):∃ fl v,Frm Γ.n fl { a with defers:=[] }∧opv fl x=some v∧e.holds (Shr Γ.H res w) w v:=by
 cases x with
 | tmp t=>obtain ⟨v,h1,h2,h3⟩:=h.slot hx; exact ⟨_,v,h2,h1,h3⟩
 | const v=>exact ⟨[],v,h.frm,rfl,zvb hx _ _⟩
 | global g=>cases hx; exact ⟨[],_,h.frm,rfl,rfl,rfl⟩
 | func f=>cases hx; exact ⟨[],_,h.frm,rfl,rfl,rfl⟩
theorem Sta.vl {a:Act} {w:World} (h:Sta Γ l res a w) {x:Operand} {e:Ent} (hx:opE l x=some e):e.holds (Shr Γ.H res w) w (a.eval x):=by
 obtain ⟨fl,v,f,h1,h2⟩:=h.ev hx;have e:a.eval x=v:=(show a.eval x=({ a with defers:=[] }:Act).eval x by cases x <;> rfl).trans (f.ev h1)
 rw [e]; exact h2
theorem gIf {c:Operand} {t:Nat} {x y:Code} {b:Bool} (hc:c=.tmp t) (hb:lk l t=some (.rd z09 b)) (ht:b=true→G ro P (Sta Γ ((t,.rd z09 true)::l) res) x Q m1) (hf:b=false→G ro P (Sta Γ ((t,.rd z09 false)::l) res) y Q m2) :
  G ro P (Sta Γ l res) (.cond c x y) Q (if b then m1 else m2):=by
 subst hc;intro a w ha r hr;obtain ⟨cs,h1,h2⟩:=ha.vl (x:=.tmp t) hb;have h1:cs=[.bool b]:=h1;subst h1;have keep:∀ b',b=b'→Sta Γ ((t,.rd z09 b')::l) res a w:=fun b' e=>by
  subst e;refine { ha with slots:=fun t' e' ht'=>?_ };rw [z2j] at ht'
  split at ht'
  ·rename_i hh; subst hh; cases ht'; exact ha.slots t _ hb
  ·exact ha.slots t' e' ht'
 cases b with
 | true=>exact zuq h2 (ht rfl a w (keep _ rfl) r (by simpa using hr))
 | false=>exact zqy h2 (hf rfl a w (keep _ rfl) r (by simpa using hr))
theorem zdc {c:Operand} {x y:Code} (hb:opE l c=some (.rd z09 true)) (h:G ro P (Sta Γ l res) x Q m):G ro P (Sta Γ l res) (.cond c x y) Q m:=fun a w ha r hr=>by
 obtain ⟨cs,h1,h2⟩:=ha.vl hb;have h1:cs=[.bool true]:=h1;subst h1;exact zuq h2 (h a w ha r hr)
theorem zfk {c:Operand} {x y:Code} (hb:opE l c=some (.rd z09 false)) (h:G ro P (Sta Γ l res) y Q m):G ro P (Sta Γ l res) (.cond c x y) Q m:=fun a w ha r hr=>by
 obtain ⟨cs,h1,h2⟩:=ha.vl hb;have h1:cs=[.bool false]:=h1;subst h1;exact zqy h2 (h a w ha r hr)
theorem Sta.known {a:Act} {w:World} {t:Nat} {b b':Bool} (ha:Sta Γ l res a w) (hb:lk l t=some (.rd z09 b)) (e:b=b'):Sta Γ ((t,.rd z09 b')::l) res a w:=by
 subst e;refine { ha with slots:=fun t' e' ht'=>?_ };rw [z2j] at ht'
 split at ht'
 ·rename_i hh; subst hh; cases ht'; exact ha.slots t _ hb
 ·exact ha.slots t' e' ht'
section
variable {X:ρ→Act→World→Prop}
theorem xIf (t:Nat) {b:Bool} (hb:lk l t=some (.rd z09 b)) (ht:b=true→GX X (Sta Γ ((t,.rd z09 true)::l) res) m1) (hf:b=false→GX X (Sta Γ ((t,.rd z09 false)::l) res) m2) :
  GX X (Sta Γ l res) (if b then m1 else m2):=by
 intro a w ha r hr
 cases b with
 | true=>exact ht rfl a w (ha.known hb rfl) r (by simpa using hr)
 | false=>exact hf rfl a w (ha.known hb rfl) r (by simpa using hr)
theorem z18o {α:Type} {R:Rep α} {x:α} {k:α→Option ρ} (t:Nat) (hx:lk l t=some (.rd R x)) (h:∀ y,GX X (Sta Γ ((t,.rd R y)::l) res) (k y)):GX X (Sta Γ l res) (some x >>= k):=by
 intro a w ha r hr;refine h x a w ?_ r hr;refine { ha with slots:=fun t' e' ht'=>?_ };rw [z2j] at ht'
 split at ht'
 ·rename_i hh; subst hh; cases ht'; exact ha.slots t _ hx
 ·exact ha.slots t' e' ht'
theorem z14d {σ:Type} {A:Asn} {m:Option σ} {k:σ→Option ρ} (h:∀ s,m=some s→GX X A (k s)):GX X A (m >>= k):=fun a w ha r hr=>by
 cases hm:m with
 | none=>rw [hm] at hr; cases hr
 | some s=>rw [hm] at hr; exact h s hm a w ha r hr
theorem xEx {ι:Type} {A:ι→Asn} (h:∀ i,GX X (A i) m):GX X (fun a w=>∃ i,A i a w) m:=fun a w ⟨i,ha⟩ r hr=>h i a w ha r hr
end
def Run (C:World→World→Prop) (P:Program) (Γ:Ctx) (l:z1p) (res:Res) (o:Oper) (e:Ent):Prop :=
 ∀ a w,Sta Γ l res a w→∃ v,(∀ w',C w w'→(execOp a.eval o).run P w'=.ok (.value v) w')∧e.holds (Shr Γ.H res w) w v
abbrev AnyW:World→World→Prop:=fun _ _=>True
theorem Sta.yield {a:Act} {w:World} (ha:Sta Γ l res a w) {j t:Nat} {b:Bool} (hj:(os.toArray[j]?).bind (·.dst)=some t) (hl:lk l t=some (.rd z09 b)):yielded os.toArray a.tmps j=some b:=by
 obtain ⟨v,h1,cs,h2,h3⟩:=ha.slots t _ hl;have h2:cs=[.bool b]:=h2;subst h2;have h3:v=.bool b:=h3;subst h3;unfold yielded;rw [hj];simp [h1]
def Grd (os:List Oper) (l:z1p) (o:Oper) (yes:Bool):Prop:=match o.guard with
 | none=>yes=true
 | some (j,b)=>∃ t,(os.toArray[j]?).bind (·.dst)=some t∧((∃ b',lk l t=some (.rd z09 b')∧yes=(b'==b))∨(lk l t=some .un∧yes=false))
theorem Grd.wanted {a:Act} {w:World} {o:Oper} {yes:Bool} (h:Grd os l o yes) (ha:Sta Γ l res a w):Region.wanted o (yielded os.toArray a.tmps)=yes:=by
 unfold Grd at h;unfold Region.wanted
 cases hg:o.guard with
 | none=>rw [hg] at h; simp [h]
 | some x =>
  obtain ⟨j,b⟩:=x;rw [hg] at h;obtain ⟨t,h1,⟨b',h2,h3⟩ | ⟨h2,h3⟩⟩:=h
  ·simp [ha.yield h1 h2,h3]
  ·obtain ⟨v,h4,h5⟩:=ha.slots t _ h2;have h5:v=undef:=h5;subst h5; subst h3;have hy:yielded os.toArray a.tmps j=none:=by unfold yielded; rw [h1]; simp [h4,undef]
   simp [hy]
theorem gd0 {o:Oper} (h:o.guard=none):Grd os l o true:=by simp [Grd,h]
theorem gd {o:Oper} {j t:Nat} {b b' yes:Bool} (h:o.guard=some (j,b)) (hj:(os.toArray[j]?).bind (·.dst)=some t) (hl:lk l t=some (.rd z09 b')) (hy:(b'==b)=yes):Grd os l o yes:=by
 simp only [Grd,h]; exact ⟨t,hj,.inl ⟨b',hl,hy.symm⟩⟩
theorem Zx {os:List Oper} {l:z1p} {o:Oper} {j t:Nat} {b b' yes:Bool} (h:o.guard=some (j,b):=by rfl) (hj:(os.toArray[j]?).bind (·.dst)=some t:=by rfl) (hl:lk l t=some (.rd z09 b'):=by rfl) (hy:(b'==b)=yes:=by rfl):Grd os l o yes:=gd h hj hl hy
theorem gdU {o:Oper} {j t:Nat} {b:Bool} (h:o.guard=some (j,b)) (hj:(os.toArray[j]?).bind (·.dst)=some t) (hl:lk l t=some .un):Grd os l o false:=by
 simp only [Grd,h]; exact ⟨t,hj,.inr ⟨hl,trivial⟩⟩
theorem z1l {o:Oper} {d:Nat} {e:Ent} (g:Grd os l o true) (hd:o.dst=some d) (hn:Nat.blt d Γ.n=true) (hr:Run Eq P Γ l res o e)
  (k:GL P os (Sta Γ ((d,e)::l) res) rest N m):GL P os (Sta Γ l res) (o::rest) N m:=fun a w ha r hm=>by
 obtain ⟨v,h1,h2⟩:=hr a w ha;refine st (g.wanted ha) (h1 w rfl) ?_;rw [hd];exact k _ w (ha.put hn h2) r hm
theorem znl {o:Oper} {d:Nat} (g:Grd os l o false) (hd:o.dst=some d) (hn:Nat.blt d Γ.n=true)
  (k:GL P os (Sta Γ ((d,.un)::l) res) rest N m):GL P os (Sta Γ l res) (o::rest) N m:=fun a w ha r hm=>by
 refine wpList_step fun K hK=>?_;rw [if_neg (by simp [g.wanted ha]),hd];exact hK _ _ (k _ w (ha.put hn rfl) r hm)
theorem Zk {ρ:Type} {P:Program} {Γ:Ctx} {l:z1p} {res:Res} {m:Option ρ} {os rest:List Oper} {N:ρ→Exit→Act→World→Prop} {o:Oper} {d:Nat} (hd:o.dst=some d) (k:GL P os (Sta Γ ((d,.un)::l) res) rest N m) (g:Grd os l o false:=by exact gd rfl rfl rfl rfl) (hn:Nat.blt d Γ.n=true:=by rfl):GL P os (Sta Γ l res) (o::rest) N m:=znl g hd hn k
theorem R {d:Nat} {op:Op} {ty:TypeId} {pos:String} {after:Array Edge} {e:Ent} (hn:Nat.blt d Γ.n=true) (hr:Run Eq P Γ l res ⟨some d,op,ty,pos,after,none⟩ e)
  (k:GL P os (Sta Γ ((d,e)::l) res) rest N m):GL P os (Sta Γ l res) (⟨some d,op,ty,pos,after,none⟩::rest) N m:=z1l (gd0 rfl) rfl hn hr k
theorem Zq {ρ:Type} {P:Program} {Γ:Ctx} {l:z1p} {res:Res} {m:Option ρ} {os rest:List Oper} {N:ρ→Exit→Act→World→Prop} {d:Nat} {ty:TypeId} {pos:String} {after:Array Edge} {e:Ent} {op:Op} (hr:Run Eq P Γ l res ⟨some d,op,ty,pos,after,none⟩ e) (k:GL P os (Sta Γ ((d,e)::l) res) rest N m) (hn:Nat.blt d Γ.n=true:=by rfl):GL P os (Sta Γ l res) (⟨some d,op,ty,pos,after,none⟩::rest) N m:=R hn hr k
def CW (res:Res) (ws:List Nat) (w w':World):Prop:=zl0 (fun b=>b<w.heap.size∧∀ r v c,ws.contains r=true→lr res r=some (v,c)→z58 v≠some b) w w'
class LC (C:World→World→Prop) (res:Res) (ws:outParam (List Nat)):Prop where
 le:∀ {w w'},C w w'→CW res ws w w'
instance:LC Eq res []:=⟨fun h=>by subst h; exact zl0.rfl'⟩
instance:LC Ext res []:=⟨fun h=>⟨h.os,h.tape,h.output,h.size, fun b hb=>h.block b hb.1⟩⟩
instance {ws:List Nat}:LC (CW res ws) res ws:=⟨fun h=>h⟩
theorem CW.at {C:World→World→Prop} {ws:List Nat} [LC C res ws] {a:Act} {w w':World} (h:C w w') (ha:Sta Γ l res a w) {b:Nat} {r:Nat} {v:Value} {c:z4l} (hr:lr res r=some (v,c)) (hb:z58 v=some b) (hn:ws.contains r=false):w'.heap[b]? = w.heap[b]? := by
 refine (LC.le (res:=res) (ws:=ws) h).block b ⟨(ha.conts r v c hr).lt hb, fun r' v' c' h1 h2=>?_⟩;have hne:r'≠r:=fun e=>by subst e; rw [hn] at h1; cases h1
 exact fun e=>ha.excl r' v' c' r v c h2 hr hne b e hb
theorem CW.shr {C:World→World→Prop} {ws:List Nat} [LC C res ws] {H:Blk} {w w':World} (h:C w w') {b:Nat} (hb:Shr H res w b):w'.heap[b]? = w.heap[b]? :=
 (LC.le (res:=res) (ws:=ws) h).block b ⟨hb.1, fun r v c _ h1=>hb.2.1 r v c h1⟩
theorem CW.stay {C:World→World→Prop} {ws:List Nat} [LC C res ws] {H:Blk} {w w':World} (h:C w w'):z9q (Shr H res w) (Shr H res w') w w':=fun b hb =>
 ⟨⟨Nat.lt_of_lt_of_le hb.1 (LC.le (res:=res) (ws:=ws) h).size,hb.2⟩,CW.shr h hb⟩
theorem zhp {id:Nat} {A:Asn} {Q:ρ→Exit→Act→World→Prop} (hm:P.follows .mixedOrders=true) (hB:Region.lexB .any os.toArray=true) (h:GQ P os A os Q m) (hd:zc0 os=true:=by rfl):G ro P A (.region id os.toArray true) Q m:=fun a w ha r hr=>by
 simp only [Region.lexB,Bool.and_eq_true] at hB;refine zsi hm (by simpa using hd) (wpAny_of_quiet (C:=Ext w) (Q:=fun a'=>∀ w',Ext w w'→Q r .normal a' w') (fun _ w' hw' h=>h w' hw') _ _ _ _ (Ext.rfl'.dr) ?_)
 have:=wpAnyQ_lex (C:=Ext w) (md:=.any) hB.1 os 0 (Array.replicate os.toArray.size false) a (by simp) (by simpa using hB.2) (h a w ha r hr)
 simpa using this
theorem zng {ops:List Oper} (h:GE (Sta Γ l res) .normal N m):GQ P ops (Sta Γ l res) [] N m:=fun a w ha r hr w' hw'=>h a w' (ha.ext hw') r hr
theorem zhc {o:Oper} {d:Nat} {e:Ent} (g:Grd os l o true) (hd:o.dst=some d) (hn:Nat.blt d Γ.n=true) (hr:Run Ext P Γ l res o e)
  (k:GQ P os (Sta Γ ((d,e)::l) res) rest N m):GQ P os (Sta Γ l res) (o::rest) N m:=fun a w ha r hm=>by
 obtain ⟨v,h1,h2⟩:=hr a w ha;refine wpQuiet_step fun K hK=>?_;rw [if_pos (g.wanted ha)];refine ⟨v, fun w' h=>by unfold Oper.quietAt; rw [h1 w' h]; exact ⟨rfl,rfl⟩,?_⟩;rw [hd];exact hK _ (k _ w (ha.put hn h2) r hm)
theorem Rq {d:Nat} {op:Op} {ty:TypeId} {pos:String} {after:Array Edge} {e:Ent} (hn:Nat.blt d Γ.n=true) (hr:Run Ext P Γ l res ⟨some d,op,ty,pos,after,none⟩ e)
  (k:GQ P os (Sta Γ ((d,e)::l) res) rest N m):GQ P os (Sta Γ l res) (⟨some d,op,ty,pos,after,none⟩::rest) N m:=zhc (gd0 rfl) rfl hn hr k
theorem z1e {o:Oper} {d:Nat} (g:Grd os l o false) (hd:o.dst=some d) (hn:Nat.blt d Γ.n=true)
  (k:GQ P os (Sta Γ ((d,.un)::l) res) rest N m):GQ P os (Sta Γ l res) (o::rest) N m:=fun a w ha r hm=>by
 refine wpQuiet_step fun K hK=>?_;rw [if_neg (by simp [g.wanted ha]),hd];exact hK _ (k _ w (ha.put hn rfl) r hm)
end
end
section
open Go Go.RowKit
section
variable {P:Program} {ρ:Operand→Value} {w:World} {d:Tmp} {ty:TypeId} {pos:String} {after:Array Edge} {g:Option (Nat × Bool)}
theorem z15o {x : Operand} {v : Value}
    (hx:ρ x=v)  :
    (execOp ρ ⟨some d,.move x,ty,pos,after,g⟩).run P w=.ok (.value (v)) w:=(by simp [execOp,hx,pure])
theorem zxa {x : Operand} {v : Value}
    (hx:ρ x=v)  :
    (execOp ρ ⟨some d,.assign x,ty,pos,after,g⟩).run P w=.ok (.value (v)) w:=(by simp [execOp,hx,pure])
theorem z144 {op : BinOp} {x y : Operand} {T T' : TypeId} {k : IntKind} {m m' : Int} {v : Value}
    (hx:ρ x=(.int k m)) (hy:ρ y=(.int k m')) (hv:zc7 op k m m'=some v) :
    (execOp ρ ⟨some d,.binOp op T x y T',ty,pos,after,g⟩).run P w=.ok (.value (v)) w:=(by
    have e1:=hx;have e2:=hy
    cases op <;> simp only [zc7,Option.some.injEq,reduceCtorEq] at hv <;> subst hv <;>
      simp [execOp,e1,e2,eqGuard,binOp,Op.intArith,Op.intCmp,pure,bind,Sem.bind])
theorem z18m {x y : Operand} {T T' : TypeId} {k : IntKind} {m m' r : Int}
    (hx:ρ x=(.int k m)) (hy:ρ y=(.int k m')) (h0:m'≠0) (hv:k.wrap (m.tdiv m')=r) :
    (execOp ρ ⟨some d,.binOp .quo T x y T',ty,pos,after,g⟩).run P w=.ok (.value (.int k r)) w:=(by
    subst hv
    simp [execOp,hx,hy,eqGuard,binOp,Op.intDiv,h0,pure,bind,Sem.bind])
theorem z18l {x y : Operand} {T T' : TypeId} {k : IntKind} {m m' r : Int}
    (hx:ρ x=(.int k m)) (hy:ρ y=(.int k m')) (h0:m'≠0) (hv:m.tmod m'=r) :
    (execOp ρ ⟨some d,.binOp .rem T x y T',ty,pos,after,g⟩).run P w=.ok (.value (.int k r)) w:=(by
    subst hv
    simp [execOp,hx,hy,eqGuard,binOp,Op.intDiv,h0,pure,bind,Sem.bind])
theorem z17x {x y : Operand} {T T' : TypeId} {k k' : IntKind} {m m' r : Int}
    (hx:ρ x=(.int k m)) (hy:ρ y=(.int k' m')) (h0:0≤m') (hv:k.wrap (m * 2 ^ (min m'.toNat k.bits))=r) :
    (execOp ρ ⟨some d,.binOp .shl T x y T',ty,pos,after,g⟩).run P w=.ok (.value (.int k r)) w:=(by
    subst hv
    have:¬ m'<0:=by omega
    simp [execOp,hx,hy,eqGuard,binOp,Op.shift,this,pure,bind,Sem.bind])
theorem z16u {x y : Operand} {T T' : TypeId} {k k' : IntKind} {m m' r : Int}
    (hx:ρ x=(.int k m)) (hy:ρ y=(.int k' m')) (h0:0≤m') (hv:m.fdiv (2 ^ (min m'.toNat k.bits))=r) :
    (execOp ρ ⟨some d,.binOp .shr T x y T',ty,pos,after,g⟩).run P w=.ok (.value (.int k r)) w:=(by
    subst hv
    have:¬ m'<0:=by omega
    simp [execOp,hx,hy,eqGuard,binOp,Op.shift,this,pure,bind,Sem.bind])
theorem z164 {op : BinOp} {x y : Operand} {T T' : TypeId} {k : IntKind} {m m' r : Int}
    (hop:zz2 op=true) (hx:ρ x=(.int k m)) (hy:ρ y=(.int k m')) (hv:zdm op k m m'=r) :
    (execOp ρ ⟨some d,.binOp op T x y T',ty,pos,after,g⟩).run P w=.ok (.value (.int k r)) w:=(by
    subst hv;have e1:=hx;have e2:=hy
    cases op <;> simp only [zz2,reduceCtorEq,Bool.false_eq_true] at hop <;>
      simp [execOp,e1,e2,eqGuard,binOp,Op.intBits,zdm,pure,bind,Sem.bind])
theorem z166 {x y : Operand} {T T' : TypeId} {b b' : Bool}
    (hT:P.underlying T=some .bool) (hx:ρ x=(.bool b)) (hy:ρ y=(.bool b')) :
    (execOp ρ ⟨some d,.binOp .eql T x y T',ty,pos,after,g⟩).run P w=.ok (.value (.bool (b==b'))) w:=(zaf (by rw [hx,hy]; rfl) (by rw [hx,hy]; exact z114 hT))
theorem z16i {x y : Operand} {T T' : TypeId} {b b' : Bool}
    (hT:P.underlying T=some .bool) (hx:ρ x=(.bool b)) (hy:ρ y=(.bool b')) :
    (execOp ρ ⟨some d,.binOp .neq T x y T',ty,pos,after,g⟩).run P w=.ok (.value (.bool (b != b'))) w:=(zaf (by rw [hx,hy]; rfl) (by rw [hx,hy]; exact z12i hT))
theorem z165 {x y : Operand} {T T' : TypeId} {s s' : ByteArray}
    (hx:ρ x=(.string s)) (hy:ρ y=(.string s')) :
    (execOp ρ ⟨some d,.binOp .eql T x y T',ty,pos,after,g⟩).run P w=.ok (.value (.bool (s.toList==s'.toList))) w:=(zaf (by rw [hx,hy]; rfl) (by rw [hx,hy]; rfl))
theorem z14w {x y : Operand} {T T' : TypeId} {s s' : ByteArray}
    (hx:ρ x=(.string s)) (hy:ρ y=(.string s')) :
    (execOp ρ ⟨some d,.binOp .neq T x y T',ty,pos,after,g⟩).run P w=.ok (.value (.bool (!(s.toList==s'.toList)))) w:=(zaf (by rw [hx,hy]; rfl) (by rw [hx,hy]; rfl))
theorem z174 {x : Operand} {T : TypeId} {b : Bool}
    (hx:ρ x=(.bool b)) :
    (execOp ρ ⟨some d,.unOp .not T x,ty,pos,after,g⟩).run P w=.ok (.value (.bool (!b))) w:=(by simp [execOp,hx,Op.unary,pure,bind,Sem.bind])
theorem z173 {x : Operand} {T : TypeId} {k : IntKind} {m r : Int}
    (hx:ρ x=(.int k m)) (hv:k.wrap (0 - m)=r) :
    (execOp ρ ⟨some d,.unOp .neg T x,ty,pos,after,g⟩).run P w=.ok (.value (.int k r)) w:=(by subst hv; simp [execOp,hx,Op.unary,Op.intArith,pure,bind,Sem.bind])
theorem z147 {x : Operand} {T : TypeId} {k : IntKind} {m r : Int}
    (hx:ρ x=(.int k m)) (hv:zdm .xor k (if k.signed then -1 else k.max) m=r) :
    (execOp ρ ⟨some d,.unOp .xor T x,ty,pos,after,g⟩).run P w=.ok (.value (.int k r)) w:=(by subst hv; simp [execOp,hx,Op.unary,Op.intBits,zdm,pure,bind,Sem.bind])
theorem zx6 {x y z : Operand} {b : Bool} {v u r : Value}
    (hx:ρ x=(.bool b)) (hy:ρ y=v) (hz:ρ z=u) (hv:(if b then v else u)=r) :
    (execOp ρ ⟨some d,.pick x y z,ty,pos,after,g⟩).run P w=.ok (.value (r)) w:=(by subst hv; cases b <;> simp [execOp,hx,hy,hz,asBool,pure,bind,Sem.bind])
theorem z161 {x : Operand} {S T : TypeId} {ds : TypeDesc} {k k' : IntKind} {m r : Int}
    (hS:P.underlying S=some ds) (hT:P.underlying T=some (.int k')) (hx:ρ x=(.int k m)) (hv:k'.wrap m=r) :
    (execOp ρ ⟨some d,.convert S T x,ty,pos,after,g⟩).run P w=.ok (.value (.int k' r)) w:=(by subst hv; simp [execOp,hx,convert,run_underlying hS,run_underlying hT,Conv.intToInt])
theorem zvj {x : Operand} {i : Nat} {vs : Array Value} {v : Value}
    (hx:ρ x=(.tuple vs)) (hv:vs[i]? = some v) :
    (execOp ρ ⟨some d,.extract x i,ty,pos,after,g⟩).run P w=.ok (.value (v)) w:=(by simp [execOp,hx,Instr.extract,hv,pure,bind,Sem.bind])
theorem zz8 {x : Operand} {T : TypeId} {at_ : Array TypeId} {e : TypeId} {p : Option Addr} {m cp : Nat}
    (hat:at_[0]? = some T) (hT:P.underlying T=some (.slice e)) (hx:ρ x=(.slice p m cp)) :
    (execOp ρ ⟨some d,.call ⟨.builtin .len,#[x],at_⟩,ty,pos,after,g⟩).run P w=.ok (.value (.int .i64 m)) w:=(by simp [execOp,resolve,invoke,builtin,hx,Builtin.len_,hat,run_underlying hT,goInt])
theorem zz5 {x : Operand} {T : TypeId} {at_ : Array TypeId} {s : ByteArray}
    (hat:at_[0]? = some T) (hT:P.underlying T=some .string) (hx:ρ x=(.string s)) :
    (execOp ρ ⟨some d,.call ⟨.builtin .len,#[x],at_⟩,ty,pos,after,g⟩).run P w=.ok (.value (.int .i64 s.size)) w:=(by simp [execOp,resolve,invoke,builtin,hx,Builtin.len_,hat,run_underlying hT,goInt])
theorem z16y {x y : Operand} {at_ : Array TypeId} {k : IntKind} {m m' : Int}
    (hx:ρ x=(.int k m)) (hy:ρ y=(.int k m')) :
    (execOp ρ ⟨some d,.call ⟨.builtin .max,#[x,y],at_⟩,ty,pos,after,g⟩).run P w=.ok (.value (.int k (if m<m' then m' else m))) w:=(by simp [execOp,resolve,invoke,builtin,hx,hy,Builtin.max_,Builtin.max2,pure,bind,Sem.bind])
theorem zsm {x i : Operand} {T : TypeId} {s : ByteArray} {k : IntKind} {m : Int} {c0 : UInt8}
    (hT:P.underlying T=some .string) (hx:ρ x=(.string s)) (hi:ρ i=(.int k m)) (h0:0≤m) (hc:s[m.toNat]? = some c0) :
    (execOp ρ ⟨some d,.index T x i,ty,pos,after,g⟩).run P w=.ok (.value (.int .u8 c0.toNat)) w:=(by simp [execOp,hx,hi,Instr.index,asIntOf,run_underlying hT,h0,hc])
theorem zxc {fn : Fn} {first captured : Array Operand} {v1 v2 : Array Value}
    (h1:first.map ρ=v1) (h2:captured.map ρ=v2) :
    (execOp ρ ⟨some d,.makeFunc fn first captured,ty,pos,after,g⟩).run P w=.ok (.value (.func fn v1 v2)) w:=(by simp [execOp,Instr.makeFunc,h1,h2,pure,bind,Sem.bind])
theorem z15c {t : TypeId} {x : Operand} {p : Addr} {v : Value}
     (hT:Sc P t)
    (hx:ρ x=(.pointer (some p))) (hc:w.cell? p=some v) :
    (execOp ρ ⟨some d,.load t x,ty,pos,after,g⟩).run P w=.ok (.value (v)) w:=(by simp [execOp,hx,Instr.loadAt,Instr.sureAddr,zil hT hc])
theorem zkw {S : TypeId} {x : Operand} {i : Nat} {p q : Addr} {fs : Array Field} {fd : Field} {z : Value} {sz by_ : Nat}
    (hS:P.underlying S=some (.struct fs)) (hi:fs[i]? = some fd) (hF:TI P fd.type z (sz+1) by_) (hx:ρ x=(.pointer (some p))) (hq:p.add fd.offset=q) :
    (execOp ρ ⟨some d,.fieldAddr S x i,ty,pos,after,g⟩).run P w=.ok (.value (.pointer (some q))) w:=(by subst hq; simp [execOp,hx,Instr.fieldAt,Instr.sureAddr,run_underlying hS,hi,fieldPlace,z3a hF])
theorem zf7 {T e : TypeId} {x y : Operand} {b o m sz by_ : Nat} {k : IntKind} {i : Int} {z : Value} {j q : Nat}
    (hT:P.underlying T=some (.array m e)) (hE:TI P e z sz by_) (hx:ρ x=(.pointer (some ⟨b,o,none⟩))) (hy:ρ y=(.int k i)) (hij:i=(j:Int)) (hj:j<m) (hq:o+j * sz=q) :
    (execOp ρ ⟨some d,.indexAddr T x y,ty,pos,after,g⟩).run P w=.ok (.value (.pointer (some ⟨b,q,none⟩))) w:=(by
    subst hij; subst hq
    simp [execOp,hx,hy,Instr.indexAt,Instr.sureAddr,asIntOf,run_underlying hT,hj,z3a hE,z5y])
theorem z10n {T T' e : TypeId} {x y : Operand} {p : Option Addr} {k c : Nat}
    (hT:P.underlying T=some (.slice e)) (hx:ρ x=(.slice p k c)) (hy:ρ y=(.slice none 0 0)) :
    (execOp ρ ⟨some d,.binOp .eql T x y T',ty,pos,after,g⟩).run P w=.ok (.value (.bool (decide (p=none)))) w:=(zaf (by rw [hx,hy]; rfl) (by rw [hx,hy]; exact zt9 hT))
theorem zlm {t : TypeId} {parts : Array (Nat × Operand)} {vs : Array (Nat × Value)} {v : Value}
    (hp:(parts.map fun (i,x)=>(i,ρ x))=vs) (hr:(Instr.build t vs).run P w=.ok v w) :
    (execOp ρ ⟨some d,.build t parts,ty,pos,after,g⟩).run P w=.ok (.value v) w:=by
  subst hp;simp only [execOp,Sem.run_bind,hr,Result.andThen,Sem.run_pure]
end
end
section
open Go Go.RowKit
def w64 (x:Int):Int:=IntKind.i64.wrap x
theorem zfz {x:Int} (h1:-9223372036854775808≤x) (h2:x≤9223372036854775807):w64 x=x:=by
 unfold w64; simp [IntKind.wrap,IntKind.signed,IntKind.bits]; omega
theorem z13z (a b:UInt8):((a.toNat:Int)==(b.toNat:Int))=(a==b):=by
 rw [Bool.eq_iff_iff,beq_iff_eq,beq_iff_eq,← UInt8.toNat_inj]; omega
theorem z155 (a:Int):IntKind.u8.wrap a=((UInt8.ofInt a).toNat:Int):=by
 unfold UInt8.ofInt;simp only [IntKind.wrap,IntKind.signed,IntKind.bits]; simp; omega
theorem z103 (a b:UInt32):((a.toNat:Int)==(b.toNat:Int))=(a==b):=by
 rw [Bool.eq_iff_iff,beq_iff_eq,beq_iff_eq,← UInt32.toNat_inj]; omega
theorem zmf (a:UInt32):BitVec.ofInt 32 (a.toNat:Int)=a.toBitVec:=by apply BitVec.eq_of_toNat_eq; simp
theorem zog (x:BitVec 32):IntKind.u32.wrap (x.toNat:Int)=(x.toNat:Int):=by have:=x.isLt; simp only [IntKind.wrap,IntKind.signed,IntKind.bits]; simp; omega
theorem zqo (a b:UInt32):zdm .and .u32 (a.toNat:Int) (b.toNat:Int)=((a &&& b).toNat:Int):=by
 show IntKind.u32.wrap (BitVec.toNat (BitVec.ofInt 32 (a.toNat:Int) &&& BitVec.ofInt 32 (b.toNat:Int)):Int)=_;rw [zmf,zmf,zog]; rfl
theorem zso (a b:UInt32):zdm .or .u32 (a.toNat:Int) (b.toNat:Int)=((a ||| b).toNat:Int):=by
 show IntKind.u32.wrap (BitVec.toNat (BitVec.ofInt 32 (a.toNat:Int) ||| BitVec.ofInt 32 (b.toNat:Int)):Int)=_;rw [zmf,zmf,zog]; rfl
theorem zpu (a b:UInt32):zdm .xor .u32 (a.toNat:Int) (b.toNat:Int)=((a ^^^ b).toNat:Int):=by
 show IntKind.u32.wrap (BitVec.toNat (BitVec.ofInt 32 (a.toNat:Int) ^^^ BitVec.ofInt 32 (b.toNat:Int)):Int)=_;rw [zmf,zmf,zog]; rfl
theorem zs4 (a:UInt32):zdm .xor .u32 (if IntKind.signed .u32 then -1 else IntKind.max .u32) (a.toNat:Int)=((~~~a).toNat:Int):=by
 show IntKind.u32.wrap (BitVec.toNat (BitVec.ofInt 32 (4294967295:Int) ^^^ BitVec.ofInt 32 (a.toNat:Int)):Int)=_;rw [zmf,zog]
 have:BitVec.ofInt 32 (4294967295:Int)=BitVec.allOnes 32:=by decide
 rw [this,BitVec.allOnes_xor]; rfl
theorem z100 (a b:UInt64):((a.toNat:Int)==(b.toNat:Int))=(a==b):=by
 rw [Bool.eq_iff_iff,beq_iff_eq,beq_iff_eq,← UInt64.toNat_inj]; omega
theorem zo1 (a:UInt64):BitVec.ofInt 64 (a.toNat:Int)=a.toBitVec:=by apply BitVec.eq_of_toNat_eq; simp
theorem zse (x:BitVec 64):IntKind.u64.wrap (x.toNat:Int)=(x.toNat:Int):=by have:=x.isLt; simp only [IntKind.wrap,IntKind.signed,IntKind.bits]; simp; omega
theorem zs1 (a b:UInt64):zdm .and .u64 (a.toNat:Int) (b.toNat:Int)=((a &&& b).toNat:Int):=by
 show IntKind.u64.wrap (BitVec.toNat (BitVec.ofInt 64 (a.toNat:Int) &&& BitVec.ofInt 64 (b.toNat:Int)):Int)=_;rw [zo1,zo1,zse]; rfl
theorem zt8 (a b:UInt64):zdm .or .u64 (a.toNat:Int) (b.toNat:Int)=((a ||| b).toNat:Int):=by
 show IntKind.u64.wrap (BitVec.toNat (BitVec.ofInt 64 (a.toNat:Int) ||| BitVec.ofInt 64 (b.toNat:Int)):Int)=_;rw [zo1,zo1,zse]; rfl
theorem zrb (a b:UInt64):zdm .xor .u64 (a.toNat:Int) (b.toNat:Int)=((a ^^^ b).toNat:Int):=by
 show IntKind.u64.wrap (BitVec.toNat (BitVec.ofInt 64 (a.toNat:Int) ^^^ BitVec.ofInt 64 (b.toNat:Int)):Int)=_;rw [zo1,zo1,zse]; rfl
theorem z11w (a:Int):IntKind.u64.wrap a=((UInt64.ofInt a).toNat:Int):=by
 unfold UInt64.ofInt;simp only [IntKind.wrap,IntKind.signed,IntKind.bits]; simp; omega
section
variable {C:World→World→Prop} {P:Program} {Γ:Ctx} {l:z1p} {res:Res} {d:Tmp} {ty:TypeId} {pos:String} {after:Array Edge} {g:Option (Nat × Bool)}
theorem z4q {α:Type} {k:IntKind} {f:α→Int} {x:α} {S:Blk} {w:World} {v:Value} (h:(Ent.rd (z9b k f) x).holds S w v):v=.int k (f x):=by
 obtain ⟨cs,h1,h2⟩:=h; have h1:cs=[.int k (f x)]:=h1; subst h1; exact h2
theorem z8b {α:Type} {k:IntKind} {f:α→Int} {x:α} {S:Blk} {w:World}:(Ent.rd (z9b k f) x).holds S w (.int k (f x)):=⟨_,rfl,rfl⟩
theorem zhy {x:Bool} {S:Blk} {w:World} {v:Value} (h:(Ent.rd z09 x).holds S w v):v=.bool x:=by
 obtain ⟨cs,h1,h2⟩:=h; have h1:cs=[.bool x]:=h1; subst h1; exact h2
theorem z8e {x:Bool} {S:Blk} {w:World}:(Ent.rd z09 x).holds S w (.bool x):=⟨_,rfl,rfl⟩
theorem zc8 {x:List UInt8} {S:Blk} {w:World} {v:Value} (h:(Ent.rd z3q x).holds S w v):∃ s:ByteArray,v=.string s∧s.data.toList=x:=by
 obtain ⟨cs,⟨s,h1,h3⟩,h2⟩:=h; subst h1; exact ⟨s,h2,h3⟩
theorem mv {x:Operand} {e:Ent} (hx:opE l x=some e):Run C P Γ l res ⟨some d,.move x,ty,pos,after,g⟩ e:=fun a w ha =>
 ⟨a.eval x, fun w' _=>z15o rfl,ha.vl hx⟩
theorem asg {x:Operand} {e:Ent} (hx:opE l x=some e):Run C P Γ l res ⟨some d,.assign x,ty,pos,after,g⟩ e:=fun a w ha =>
 ⟨a.eval x, fun w' _=>zxa rfl,ha.vl hx⟩
theorem Zm {ρ:Type} {P:Program} {Γ:Ctx} {l:z1p} {res:Res} {m:Option ρ} {os rest:List Oper} {N:ρ→Exit→Act→World→Prop} {d:Nat} {ty:TypeId} {pos:String} {after:Array Edge} {e:Ent} {x:Operand} (hx:opE l x=some e) (k:GL P os (Sta Γ ((d,e)::l) res) rest N m) (hn:Nat.blt d Γ.n=true:=by rfl):GL P os (Sta Γ l res) (⟨some d,.move x,ty,pos,after,none⟩::rest) N m:=R hn (mv hx) k
theorem Za {ρ:Type} {P:Program} {Γ:Ctx} {l:z1p} {res:Res} {m:Option ρ} {os rest:List Oper} {N:ρ→Exit→Act→World→Prop} {d:Nat} {ty:TypeId} {pos:String} {after:Array Edge} {e:Ent} {x:Operand} (hx:opE l x=some e) (k:GL P os (Sta Γ ((d,e)::l) res) rest N m) (hn:Nat.blt d Γ.n=true:=by rfl):GL P os (Sta Γ l res) (⟨some d,.assign x,ty,pos,after,none⟩::rest) N m:=R hn (asg hx) k
theorem zjf {α β γ:Type} {op:BinOp} {k k2:IntKind} {f:α→Int} {f2:β→Int} {h:γ→Int} {x y:Operand} {T T':TypeId} {a:α} {b:β} {c:γ} (hx:opE l x=some (.rd (z9b k f) a)) (hy:opE l y=some (.rd (z9b k f2) b))
  (hv:zc7 op k (f a) (f2 b)=some (.int k2 (h c))):Run C P Γ l res ⟨some d,.binOp op T x y T',ty,pos,after,g⟩ (.rd (z9b k2 h) c):=fun _ w ha =>
 ⟨_, fun w' _=>z144 (z4q (ha.vl hx)) (z4q (ha.vl hy)) hv,z8b⟩
theorem zmt {α β:Type} {op:BinOp} {k:IntKind} {f:α→Int} {f2:β→Int} {x y:Operand} {T T':TypeId} {a:α} {b:β} {c:Bool} (hx:opE l x=some (.rd (z9b k f) a)) (hy:opE l y=some (.rd (z9b k f2) b))
  (hv:zc7 op k (f a) (f2 b)=some (.bool c)):Run C P Γ l res ⟨some d,.binOp op T x y T',ty,pos,after,g⟩ (.rd z09 c):=fun _ w ha =>
 ⟨_, fun w' _=>z144 (z4q (ha.vl hx)) (z4q (ha.vl hy)) hv,z8e⟩
theorem zta {α γ:Type} {op:BinOp} {k:IntKind} {f:α→Int} {x y:Operand} {T T':TypeId} {a b c:α} (hx:opE l x=some (.rd (z9b k f) a)) (hy:opE l y=some (.rd (z9b k f) b))
  (ho:zz2 op=true) (hv:zdm op k (f a) (f b)=f c):Run C P Γ l res ⟨some d,.binOp op T x y T',ty,pos,after,g⟩ (.rd (z9b k f) c):=fun _ w ha =>
 ⟨_, fun w' _=>z164 ho (z4q (ha.vl hx)) (z4q (ha.vl hy)) hv,z8b⟩
theorem quoL {α:Type} {k:IntKind} {f:α→Int} {x y:Operand} {T T':TypeId} {a b c:α} (hx:opE l x=some (.rd (z9b k f) a)) (hy:opE l y=some (.rd (z9b k f) b))
  (h0:f b≠0) (hv:k.wrap ((f a).tdiv (f b))=f c):Run C P Γ l res ⟨some d,.binOp .quo T x y T',ty,pos,after,g⟩ (.rd (z9b k f) c):=fun _ w ha =>
 ⟨_, fun w' _=>z18m (z4q (ha.vl hx)) (z4q (ha.vl hy)) h0 hv,z8b⟩
theorem remL {α:Type} {k:IntKind} {f:α→Int} {x y:Operand} {T T':TypeId} {a b c:α} (hx:opE l x=some (.rd (z9b k f) a)) (hy:opE l y=some (.rd (z9b k f) b))
  (h0:f b≠0) (hv:(f a).tmod (f b)=f c):Run C P Γ l res ⟨some d,.binOp .rem T x y T',ty,pos,after,g⟩ (.rd (z9b k f) c):=fun _ w ha =>
 ⟨_, fun w' _=>z18l (z4q (ha.vl hx)) (z4q (ha.vl hy)) h0 hv,z8b⟩
theorem shlL {α β:Type} {k k':IntKind} {f:α→Int} {f2:β→Int} {x y:Operand} {T T':TypeId} {a c:α} {b:β} (hx:opE l x=some (.rd (z9b k f) a)) (hy:opE l y=some (.rd (z9b k' f2) b))
  (h0:0≤f2 b) (hv:k.wrap (f a * 2 ^ (min (f2 b).toNat k.bits))=f c):Run C P Γ l res ⟨some d,.binOp .shl T x y T',ty,pos,after,g⟩ (.rd (z9b k f) c):=fun _ w ha =>
 ⟨_, fun w' _=>z17x (z4q (ha.vl hx)) (z4q (ha.vl hy)) h0 hv,z8b⟩
theorem shrL {α β:Type} {k k':IntKind} {f:α→Int} {f2:β→Int} {x y:Operand} {T T':TypeId} {a c:α} {b:β} (hx:opE l x=some (.rd (z9b k f) a)) (hy:opE l y=some (.rd (z9b k' f2) b))
  (h0:0≤f2 b) (hv:(f a).fdiv (2 ^ (min (f2 b).toNat k.bits))=f c):Run C P Γ l res ⟨some d,.binOp .shr T x y T',ty,pos,after,g⟩ (.rd (z9b k f) c):=fun _ w ha =>
 ⟨_, fun w' _=>z16u (z4q (ha.vl hx)) (z4q (ha.vl hy)) h0 hv,z8b⟩
theorem znc {α β:Type} {k k':IntKind} {f:α→Int} {f2:β→Int} {x:Operand} {S T:TypeId} {ds:TypeDesc} {a:α} {b:β} (hS:P.underlying S=some ds) (hT:P.underlying T=some (.int k')) (hx:opE l x=some (.rd (z9b k f) a))
  (hv:k'.wrap (f a)=f2 b):Run C P Γ l res ⟨some d,.convert S T x,ty,pos,after,g⟩ (.rd (z9b k' f2) b):=fun _ w ha =>
 ⟨_, fun w' _=>z161 hS hT (z4q (ha.vl hx)) hv,z8b⟩
theorem negL {α:Type} {k:IntKind} {f:α→Int} {x:Operand} {T:TypeId} {a b:α} (hx:opE l x=some (.rd (z9b k f) a))
  (hv:k.wrap (0 - f a)=f b):Run C P Γ l res ⟨some d,.unOp .neg T x,ty,pos,after,g⟩ (.rd (z9b k f) b):=fun _ w ha =>
 ⟨_, fun w' _=>z173 (z4q (ha.vl hx)) hv,z8b⟩
theorem cplL {α:Type} {k:IntKind} {f:α→Int} {x:Operand} {T:TypeId} {a b:α} (hx:opE l x=some (.rd (z9b k f) a))
  (hv:zdm .xor k (if k.signed then -1 else k.max) (f a)=f b):Run C P Γ l res ⟨some d,.unOp .xor T x,ty,pos,after,g⟩ (.rd (z9b k f) b):=fun _ w ha =>
 ⟨_, fun w' _=>z147 (z4q (ha.vl hx)) hv,z8b⟩
theorem zgu {x:Operand} {T:TypeId} {b:Bool} (hx:opE l x=some (.rd z09 b)):Run C P Γ l res ⟨some d,.unOp .not T x,ty,pos,after,g⟩ (.rd z09 (!b)):=fun _ w ha =>
 ⟨_, fun w' _=>z174 (zhy (ha.vl hx)),z8e⟩
theorem eqB {x y:Operand} {T T':TypeId} {b c:Bool} (hT:P.underlying T=some .bool) (hx:opE l x=some (.rd z09 b)) (hy:opE l y=some (.rd z09 c)):Run C P Γ l res ⟨some d,.binOp .eql T x y T',ty,pos,after,g⟩ (.rd z09 (b==c)):=fun _ w ha =>
 ⟨_, fun w' _=>z166 hT (zhy (ha.vl hx)) (zhy (ha.vl hy)),z8e⟩
theorem neB {x y:Operand} {T T':TypeId} {b c:Bool} (hT:P.underlying T=some .bool) (hx:opE l x=some (.rd z09 b)) (hy:opE l y=some (.rd z09 c)):Run C P Γ l res ⟨some d,.binOp .neq T x y T',ty,pos,after,g⟩ (.rd z09 (b != c)):=fun _ w ha =>
 ⟨_, fun w' _=>z16i hT (zhy (ha.vl hx)) (zhy (ha.vl hy)),z8e⟩
theorem z3c (s:ByteArray):s.toList=s.data.toList:=by
 have key:∀ (n i:Nat) (r:List UInt8),s.size - i=n→ByteArray.toList.loop s i r=r.reverse++s.data.toList.drop i:=by
  intro n
  induction n with
  | zero =>
   intro i r h;unfold ByteArray.toList.loop
   have:¬ i<s.size:=by omega
   rw [if_neg this,List.drop_eq_nil_of_le (by simp only [Array.length_toList]; exact Nat.le_of_sub_eq_zero h),List.append_nil]
  | succ n ih =>
   intro i r h;unfold ByteArray.toList.loop;have hi:i<s.size:=by omega
   rw [if_pos hi,ih (i+1) _ (by omega)];have h1:i<s.data.toList.length:=by simpa using hi
   rw [List.drop_eq_getElem_cons h1];simp [ByteArray.get!,getElem!_pos,hi]
 simpa [ByteArray.toList] using key s.size 0 [] rfl
theorem eqS {x y:Operand} {T T':TypeId} {b c:List UInt8} (hx:opE l x=some (.rd z3q b)) (hy:opE l y=some (.rd z3q c)):Run C P Γ l res ⟨some d,.binOp .eql T x y T',ty,pos,after,g⟩ (.rd z09 (b==c)):=fun _ w ha=>by
 obtain ⟨s,h1,rfl⟩:=zc8 (ha.vl hx);obtain ⟨t,h2,rfl⟩:=zc8 (ha.vl hy);exact ⟨_, fun w' _=>z165 h1 h2, by rw [z3c,z3c]; exact z8e⟩
theorem neS {x y:Operand} {T T':TypeId} {b c:List UInt8} (hx:opE l x=some (.rd z3q b)) (hy:opE l y=some (.rd z3q c)):Run C P Γ l res ⟨some d,.binOp .neq T x y T',ty,pos,after,g⟩ (.rd z09 (b != c)):=fun _ w ha=>by
 obtain ⟨s,h1,rfl⟩:=zc8 (ha.vl hx);obtain ⟨t,h2,rfl⟩:=zc8 (ha.vl hy);exact ⟨_, fun w' _=>z14w h1 h2, by rw [z3c,z3c]; exact z8e⟩
theorem pkT {x y z:Operand} {e:Ent} (hx:opE l x=some (.rd z09 true)) (hy:opE l y=some e):Run C P Γ l res ⟨some d,.pick x y z,ty,pos,after,g⟩ e:=fun _ w ha =>
 ⟨_, fun w' _=>zx6 (zhy (ha.vl hx)) rfl rfl rfl,ha.vl hy⟩
theorem pkF {x y z:Operand} {e:Ent} (hx:opE l x=some (.rd z09 false)) (hz:opE l z=some e):Run C P Γ l res ⟨some d,.pick x y z,ty,pos,after,g⟩ e:=fun _ w ha =>
 ⟨_, fun w' _=>zx6 (zhy (ha.vl hx)) rfl rfl rfl,ha.vl hz⟩
theorem maxi {k:IntKind} {α:Type} {f:α→Int} {x y:Operand} {at_:Array TypeId} {a b c:α} (hx:opE l x=some (.rd (z9b k f) a)) (hy:opE l y=some (.rd (z9b k f) b)) (hv:(if f a<f b then f b else f a)=f c) :
  Run C P Γ l res ⟨some d,.call ⟨.builtin .max,#[x,y],at_⟩,ty,pos,after,g⟩ (.rd (z9b k f) c):=fun _ w ha =>
 ⟨_, fun w' _=>z16y (z4q (ha.vl hx)) (z4q (ha.vl hy)), by rw [hv]; exact z8b⟩
theorem z3i.get {S:Blk} {w:World}:∀ {es:List Ent} {vs:List Value} {i:Nat} {e:Ent},z3i S w es vs→es[i]? = some e→∃ v,vs[i]? = some v∧e.holds S w v
 | [],[],i,e,_,h=>by simp at h
 | e0::es,v::vs,0,e,h,h'=>by simp at h'; subst h'; exact ⟨v,rfl,h.1⟩
 | e0::es,v::vs,i+1,e,h,h'=>by simpa using z3i.get h.2 (by simpa using h')
 | [],_::_,_,_,h,_=>h.elim
 | _::_,[],_,_,h,_=>h.elim
theorem ext {x:Operand} {i:Nat} {es:List Ent} {e:Ent} (hx:opE l x=some (.tup es)) (hi:es[i]? = some e):Run C P Γ l res ⟨some d,.extract x i,ty,pos,after,g⟩ e:=fun _ w ha=>by
 obtain ⟨vs,h1,h2⟩:=ha.vl hx;obtain ⟨v,h3,h4⟩:=h1.get hi;exact ⟨v, fun w' _=>zvj h2 (by simpa using h3),h4⟩
theorem zy8 {x:Operand} {T:TypeId} {at_:Array TypeId} {b:List UInt8} (hx:opE l x=some (.rd z3q b)) (hat:at_[0]? = some T) (hT:P.underlying T=some .string) :
  Run C P Γ l res ⟨some d,.call ⟨.builtin .len,#[x],at_⟩,ty,pos,after,g⟩ (.rd z08 (b.length:Int)):=fun _ w ha=>by
 obtain ⟨s,h1,rfl⟩:=zc8 (ha.vl hx);exact ⟨_, fun w' _=>zz5 hat hT h1,z8b⟩
theorem mkf {fn:Fn} {first captured:Array Operand} {v1 v2:Array Value} (h1:∀ a w,Sta Γ l res a w→first.map a.eval=v1) (h2:∀ a w,Sta Γ l res a w→captured.map a.eval=v2) :
  Run C P Γ l res ⟨some d,.makeFunc fn first captured,ty,pos,after,g⟩ (.val (.func fn v1 v2)):=fun a w ha =>
 ⟨_, fun w' _=>zxc (h1 a w ha) (h2 a w ha),rfl,rfl⟩
theorem mp0 (a:Act) (w:World) (ha:Sta Γ l res a w):(#[]:Array Operand).map a.eval = #[]:=by simp
theorem mp1 {x:Operand} {v:Value} (hx:opE l x=some (.val v)) (a:Act) (w:World) (ha:Sta Γ l res a w):(#[x]:Array Operand).map a.eval = #[v]:=by
 have h1:a.eval x=v:=(ha.vl hx).1;simp [h1]
theorem mp2 {x y:Operand} {v u:Value} (hx:opE l x=some (.val v)) (hy:opE l y=some (.val u)) (a:Act) (w:World) (ha:Sta Γ l res a w):(#[x,y]:Array Operand).map a.eval = #[v,u]:=by
 have h1:a.eval x=v:=(ha.vl hx).1;have h2:a.eval y=u:=(ha.vl hy).1;simp [h1,h2]
theorem mp4 {x0 x1 x2 x3:Operand} {v0 v1 v2 v3:Value} (h0:opE l x0=some (.val v0)) (h1:opE l x1=some (.val v1)) (h2:opE l x2=some (.val v2)) (h3:opE l x3=some (.val v3)) (a:Act) (w:World) (ha:Sta Γ l res a w):(#[x0,x1,x2,x3]:Array Operand).map a.eval = #[v0,v1,v2,v3]:=by
 simp [(ha.vl h0).1,(ha.vl h1).1,(ha.vl h2).1,(ha.vl h3).1]
theorem idxT {β:Type} {kk:IntKind} {f:β→Int} {x i:Operand} {T:TypeId} {b:List UInt8} {j:β} {c:UInt8} (hx:opE l x=some (.rd z3q b)) (hi:opE l i=some (.rd (z9b kk f) j)) (hT:P.underlying T=some .string) (h0:0≤f j) (hc:b[(f j).toNat]? = some c) :
  Run C P Γ l res ⟨some d,.index T x i,ty,pos,after,g⟩ (.rd u8R c):=fun _ w ha=>by
 obtain ⟨s,h1,rfl⟩:=zc8 (ha.vl hx);refine ⟨_, fun w' _=>zsm hT h1 (z4q (ha.vl hi)) h0 (c0:=c) ?_,z8b⟩;have h4:(f j).toNat<s.data.toList.length:=(List.getElem?_eq_some_iff.1 hc).1;have h5:(f j).toNat<s.size:=by simpa using h4
 have:s[(f j).toNat]? = s.data[(f j).toNat]? := by
  rw [getElem?_pos s _ h5,getElem?_pos s.data _ h5]; rfl
 show s[(f j).toNat]? = some c;rw [this,← hc]; simp
theorem I.add {x y:Operand} {T T':TypeId} {a b:Int} (hx:opE l x=some (.rd z08 a)) (hy:opE l y=some (.rd z08 b)):Run C P Γ l res ⟨some d,.binOp .add T x y T',ty,pos,after,g⟩ (.rd z08 (w64 (a+b))):=zjf hx hy rfl
theorem I.sub {x y:Operand} {T T':TypeId} {a b:Int} (hx:opE l x=some (.rd z08 a)) (hy:opE l y=some (.rd z08 b)):Run C P Γ l res ⟨some d,.binOp .sub T x y T',ty,pos,after,g⟩ (.rd z08 (w64 (a - b))):=zjf hx hy rfl
theorem I.mul {x y:Operand} {T T':TypeId} {a b:Int} (hx:opE l x=some (.rd z08 a)) (hy:opE l y=some (.rd z08 b)):Run C P Γ l res ⟨some d,.binOp .mul T x y T',ty,pos,after,g⟩ (.rd z08 (w64 (a * b))):=zjf hx hy rfl
theorem I.lss {x y:Operand} {T T':TypeId} {a b:Int} (hx:opE l x=some (.rd z08 a)) (hy:opE l y=some (.rd z08 b)):Run C P Γ l res ⟨some d,.binOp .lss T x y T',ty,pos,after,g⟩ (.rd z09 (decide (a<b))):=zmt hx hy rfl
theorem I.leq {x y:Operand} {T T':TypeId} {a b:Int} (hx:opE l x=some (.rd z08 a)) (hy:opE l y=some (.rd z08 b)):Run C P Γ l res ⟨some d,.binOp .leq T x y T',ty,pos,after,g⟩ (.rd z09 (decide (a≤b))):=zmt hx hy rfl
theorem I.gtr {x y:Operand} {T T':TypeId} {a b:Int} (hx:opE l x=some (.rd z08 a)) (hy:opE l y=some (.rd z08 b)):Run C P Γ l res ⟨some d,.binOp .gtr T x y T',ty,pos,after,g⟩ (.rd z09 (decide (b<a))):=zmt hx hy rfl
theorem I.geq {x y:Operand} {T T':TypeId} {a b:Int} (hx:opE l x=some (.rd z08 a)) (hy:opE l y=some (.rd z08 b)):Run C P Γ l res ⟨some d,.binOp .geq T x y T',ty,pos,after,g⟩ (.rd z09 (decide (b≤a))):=zmt hx hy rfl
theorem I.eql {x y:Operand} {T T':TypeId} {a b:Int} (hx:opE l x=some (.rd z08 a)) (hy:opE l y=some (.rd z08 b)):Run C P Γ l res ⟨some d,.binOp .eql T x y T',ty,pos,after,g⟩ (.rd z09 (a==b)):=zmt hx hy rfl
theorem I.neq {x y:Operand} {T T':TypeId} {a b:Int} (hx:opE l x=some (.rd z08 a)) (hy:opE l y=some (.rd z08 b)):Run C P Γ l res ⟨some d,.binOp .neq T x y T',ty,pos,after,g⟩ (.rd z09 (a != b)):=zmt hx hy rfl
theorem I.quo {x y:Operand} {T T':TypeId} {a b:Int} (hx:opE l x=some (.rd z08 a)) (hy:opE l y=some (.rd z08 b)) (h0:b≠0):Run C P Γ l res ⟨some d,.binOp .quo T x y T',ty,pos,after,g⟩ (.rd z08 (w64 (a.tdiv b))):=quoL hx hy h0 rfl
theorem I.rem {x y:Operand} {T T':TypeId} {a b:Int} (hx:opE l x=some (.rd z08 a)) (hy:opE l y=some (.rd z08 b)) (h0:b≠0):Run C P Γ l res ⟨some d,.binOp .rem T x y T',ty,pos,after,g⟩ (.rd z08 (a.tmod b)):=remL hx hy h0 rfl
theorem I.neg {x:Operand} {T:TypeId} {a:Int} (hx:opE l x=some (.rd z08 a)):Run C P Γ l res ⟨some d,.unOp .neg T x,ty,pos,after,g⟩ (.rd z08 (w64 (0 - a))):=negL hx rfl
theorem J.lss {x y:Operand} {T T':TypeId} {a b:Int} (hx:opE l x=some (.rd i32R a)) (hy:opE l y=some (.rd i32R b)):Run C P Γ l res ⟨some d,.binOp .lss T x y T',ty,pos,after,g⟩ (.rd z09 (decide (a<b))):=zmt hx hy rfl
theorem J.gtr {x y:Operand} {T T':TypeId} {a b:Int} (hx:opE l x=some (.rd i32R a)) (hy:opE l y=some (.rd i32R b)):Run C P Γ l res ⟨some d,.binOp .gtr T x y T',ty,pos,after,g⟩ (.rd z09 (decide (b<a))):=zmt hx hy rfl
theorem B.lss {x y:Operand} {T T':TypeId} {a b:UInt8} (hx:opE l x=some (.rd u8R a)) (hy:opE l y=some (.rd u8R b)):Run C P Γ l res ⟨some d,.binOp .lss T x y T',ty,pos,after,g⟩ (.rd z09 (decide (a<b))):=zmt hx hy (by simp only [zc7,Option.some.injEq,Value.bool.injEq,decide_eq_decide]; simp [UInt8.lt_iff_toNat_lt,UInt8.le_iff_toNat_le])
theorem B.gtr {x y:Operand} {T T':TypeId} {a b:UInt8} (hx:opE l x=some (.rd u8R a)) (hy:opE l y=some (.rd u8R b)):Run C P Γ l res ⟨some d,.binOp .gtr T x y T',ty,pos,after,g⟩ (.rd z09 (decide (b<a))):=zmt hx hy (by simp only [zc7,Option.some.injEq,Value.bool.injEq,decide_eq_decide]; simp [UInt8.lt_iff_toNat_lt,UInt8.le_iff_toNat_le])
theorem B.eql {x y:Operand} {T T':TypeId} {a b:UInt8} (hx:opE l x=some (.rd u8R a)) (hy:opE l y=some (.rd u8R b)):Run C P Γ l res ⟨some d,.binOp .eql T x y T',ty,pos,after,g⟩ (.rd z09 (a==b)):=zmt hx hy (by simp only [zc7,z13z])
theorem B.neq {x y:Operand} {T T':TypeId} {a b:UInt8} (hx:opE l x=some (.rd u8R a)) (hy:opE l y=some (.rd u8R b)):Run C P Γ l res ⟨some d,.binOp .neq T x y T',ty,pos,after,g⟩ (.rd z09 (a != b)):=zmt hx hy (by simp only [zc7,bne,z13z])
theorem B.toI {x:Operand} {S T:TypeId} {ds:TypeDesc} {a:UInt8} (hx:opE l x=some (.rd u8R a)) (hS:P.underlying S=some ds) (hT:P.underlying T=some (.int .i64)):Run C P Γ l res ⟨some d,.convert S T x,ty,pos,after,g⟩ (.rd z08 ((a.toNat:Int))):=znc hS hT hx (zfz (by omega) (by have:=UInt8.toNat_lt a; omega))
theorem I.toB {x:Operand} {S T:TypeId} {ds:TypeDesc} {a:Int} (hx:opE l x=some (.rd z08 a)) (hS:P.underlying S=some ds) (hT:P.underlying T=some (.int .u8)):Run C P Γ l res ⟨some d,.convert S T x,ty,pos,after,g⟩ (.rd u8R (UInt8.ofInt a)):=znc hS hT hx (z155 a)
theorem B.toW {x:Operand} {S T:TypeId} {ds:TypeDesc} {a:UInt8} (hx:opE l x=some (.rd u8R a)) (hS:P.underlying S=some ds) (hT:P.underlying T=some (.int .u32)):Run C P Γ l res ⟨some d,.convert S T x,ty,pos,after,g⟩ (.rd z0p (a.toUInt32)):=znc hS hT hx (by have:=UInt8.toNat_lt a; simp only [IntKind.wrap,IntKind.signed,IntKind.bits]; simp; omega)
theorem B.toU {x:Operand} {S T:TypeId} {ds:TypeDesc} {a:UInt8} (hx:opE l x=some (.rd u8R a)) (hS:P.underlying S=some ds) (hT:P.underlying T=some (.int .u64)):Run C P Γ l res ⟨some d,.convert S T x,ty,pos,after,g⟩ (.rd z2x (a.toUInt64)):=znc hS hT hx (by have:=UInt8.toNat_lt a; simp only [IntKind.wrap,IntKind.signed,IntKind.bits]; simp; omega)
theorem W.add {x y:Operand} {T T':TypeId} {a b:UInt32} (hx:opE l x=some (.rd z0p a)) (hy:opE l y=some (.rd z0p b)):Run C P Γ l res ⟨some d,.binOp .add T x y T',ty,pos,after,g⟩ (.rd z0p (a+b)):=zjf hx hy (by simp only [zc7,Option.some.injEq,Value.int.injEq,true_and,IntKind.wrap,IntKind.signed,IntKind.bits]; simp)
theorem W.sub {x y:Operand} {T T':TypeId} {a b:UInt32} (hx:opE l x=some (.rd z0p a)) (hy:opE l y=some (.rd z0p b)):Run C P Γ l res ⟨some d,.binOp .sub T x y T',ty,pos,after,g⟩ (.rd z0p (a - b)):=zjf hx hy (by simp only [zc7,Option.some.injEq,Value.int.injEq,true_and,IntKind.wrap,IntKind.signed,IntKind.bits]; have h1:=UInt32.toNat_lt a; have h2:=UInt32.toNat_lt b; rw [UInt32.toNat_sub]; simp; omega)
theorem W.mul {x y:Operand} {T T':TypeId} {a b:UInt32} (hx:opE l x=some (.rd z0p a)) (hy:opE l y=some (.rd z0p b)):Run C P Γ l res ⟨some d,.binOp .mul T x y T',ty,pos,after,g⟩ (.rd z0p (a * b)):=zjf hx hy (by simp only [zc7,Option.some.injEq,Value.int.injEq,true_and,IntKind.wrap,IntKind.signed,IntKind.bits]; simp)
theorem W.lss {x y:Operand} {T T':TypeId} {a b:UInt32} (hx:opE l x=some (.rd z0p a)) (hy:opE l y=some (.rd z0p b)):Run C P Γ l res ⟨some d,.binOp .lss T x y T',ty,pos,after,g⟩ (.rd z09 (decide (a<b))):=zmt hx hy (by simp only [zc7,Option.some.injEq,Value.bool.injEq,decide_eq_decide]; simp [UInt32.lt_iff_toNat_lt,UInt32.le_iff_toNat_le])
theorem W.gtr {x y:Operand} {T T':TypeId} {a b:UInt32} (hx:opE l x=some (.rd z0p a)) (hy:opE l y=some (.rd z0p b)):Run C P Γ l res ⟨some d,.binOp .gtr T x y T',ty,pos,after,g⟩ (.rd z09 (decide (b<a))):=zmt hx hy (by simp only [zc7,Option.some.injEq,Value.bool.injEq,decide_eq_decide]; simp [UInt32.lt_iff_toNat_lt,UInt32.le_iff_toNat_le])
theorem W.geq {x y:Operand} {T T':TypeId} {a b:UInt32} (hx:opE l x=some (.rd z0p a)) (hy:opE l y=some (.rd z0p b)):Run C P Γ l res ⟨some d,.binOp .geq T x y T',ty,pos,after,g⟩ (.rd z09 (decide (b≤a))):=zmt hx hy (by simp only [zc7,Option.some.injEq,Value.bool.injEq,decide_eq_decide]; simp [UInt32.lt_iff_toNat_lt,UInt32.le_iff_toNat_le])
theorem W.eql {x y:Operand} {T T':TypeId} {a b:UInt32} (hx:opE l x=some (.rd z0p a)) (hy:opE l y=some (.rd z0p b)):Run C P Γ l res ⟨some d,.binOp .eql T x y T',ty,pos,after,g⟩ (.rd z09 (a==b)):=zmt hx hy (by simp only [zc7,z103])
theorem W.neq {x y:Operand} {T T':TypeId} {a b:UInt32} (hx:opE l x=some (.rd z0p a)) (hy:opE l y=some (.rd z0p b)):Run C P Γ l res ⟨some d,.binOp .neq T x y T',ty,pos,after,g⟩ (.rd z09 (a != b)):=zmt hx hy (by simp only [zc7,bne,z103])
theorem W.quo {x y:Operand} {T T':TypeId} {a b:UInt32} (hx:opE l x=some (.rd z0p a)) (hy:opE l y=some (.rd z0p b)) (h0:b≠0):Run C P Γ l res ⟨some d,.binOp .quo T x y T',ty,pos,after,g⟩ (.rd z0p (a / b)):=quoL hx hy (fun e=>h0 (by rw [← UInt32.toNat_inj]; simpa using e)) (by
 have h1:=UInt32.toNat_lt a;have h2:a.toNat / b.toNat≤a.toNat:=Nat.div_le_self _ _;rw [UInt32.toNat_div,Int.tdiv_eq_ediv_of_nonneg (by omega)];simp only [IntKind.wrap,IntKind.signed,IntKind.bits];simp only [Bool.false_and,Bool.false_eq_true,if_false]
 rw [← Int.natCast_ediv]; generalize a.toNat / b.toNat=q at *; omega)
theorem W.rem {x y:Operand} {T T':TypeId} {a b:UInt32} (hx:opE l x=some (.rd z0p a)) (hy:opE l y=some (.rd z0p b)) (h0:b≠0):Run C P Γ l res ⟨some d,.binOp .rem T x y T',ty,pos,after,g⟩ (.rd z0p (a % b)):=remL hx hy (fun e=>h0 (by rw [← UInt32.toNat_inj]; simpa using e)) (by
 rw [UInt32.toNat_mod,Int.tmod_eq_emod_of_nonneg (by omega)]; omega)
theorem W.and {x y:Operand} {T T':TypeId} {a b:UInt32} (hx:opE l x=some (.rd z0p a)) (hy:opE l y=some (.rd z0p b)):Run C P Γ l res ⟨some d,.binOp .and T x y T',ty,pos,after,g⟩ (.rd z0p (a &&& b)):=zta (γ:=Unit) hx hy rfl (zqo a b)
theorem W.or {x y:Operand} {T T':TypeId} {a b:UInt32} (hx:opE l x=some (.rd z0p a)) (hy:opE l y=some (.rd z0p b)):Run C P Γ l res ⟨some d,.binOp .or T x y T',ty,pos,after,g⟩ (.rd z0p (a ||| b)):=zta (γ:=Unit) hx hy rfl (zso a b)
theorem W.xor {x y:Operand} {T T':TypeId} {a b:UInt32} (hx:opE l x=some (.rd z0p a)) (hy:opE l y=some (.rd z0p b)):Run C P Γ l res ⟨some d,.binOp .xor T x y T',ty,pos,after,g⟩ (.rd z0p (a ^^^ b)):=zta (γ:=Unit) hx hy rfl (zpu a b)
def zof (a:UInt32) (n:Nat):UInt32:=UInt32.ofNat (a.toNat * 2 ^ (min n 32))
def z4m (a:UInt32) (n:Nat):UInt32:=UInt32.ofNat (a.toNat / 2 ^ (min n 32))
theorem W.shl {β:Type} {k':IntKind} {f2:β→Int} {x y:Operand} {T T':TypeId} {a:UInt32} {b:β} (hx:opE l x=some (.rd z0p a)) (hy:opE l y=some (.rd (z9b k' f2) b)) (h0:0≤f2 b):Run C P Γ l res ⟨some d,.binOp .shl T x y T',ty,pos,after,g⟩ (.rd z0p (zof a (f2 b).toNat)):=shlL hx hy h0 (by
 unfold zof; simp only [IntKind.wrap,IntKind.signed,IntKind.bits]; simp)
theorem W.shr {β:Type} {k':IntKind} {f2:β→Int} {x y:Operand} {T T':TypeId} {a:UInt32} {b:β} (hx:opE l x=some (.rd z0p a)) (hy:opE l y=some (.rd (z9b k' f2) b)) (h0:0≤f2 b):Run C P Γ l res ⟨some d,.binOp .shr T x y T',ty,pos,after,g⟩ (.rd z0p (z4m a (f2 b).toNat)):=shrL hx hy h0 (by
 unfold z4m; simp only [IntKind.bits];have h1:=UInt32.toNat_lt a;have h2:a.toNat / 2 ^ (min (f2 b).toNat 32)≤a.toNat:=Nat.div_le_self _ _;have h3:∀ q:Nat,q≤a.toNat→(UInt32.ofNat q).toNat=q:=fun q hq=>by simp; omega
 rw [h3 _ h2,Int.fdiv_eq_ediv_of_nonneg _ (Int.le_of_lt (Int.pow_pos (by decide)))]; simp)
theorem W.cpl {x:Operand} {T:TypeId} {a:UInt32} (hx:opE l x=some (.rd z0p a)):Run C P Γ l res ⟨some d,.unOp .xor T x,ty,pos,after,g⟩ (.rd z0p (~~~a)):=cplL hx (zs4 a)
theorem W.toB {x:Operand} {S T:TypeId} {ds:TypeDesc} {a:UInt32} (hx:opE l x=some (.rd z0p a)) (hS:P.underlying S=some ds) (hT:P.underlying T=some (.int .u8)):Run C P Γ l res ⟨some d,.convert S T x,ty,pos,after,g⟩ (.rd u8R (a.toUInt8)):=znc hS hT hx (by simp only [IntKind.wrap,IntKind.signed,IntKind.bits]; simp)
theorem W.toU {x:Operand} {S T:TypeId} {ds:TypeDesc} {a:UInt32} (hx:opE l x=some (.rd z0p a)) (hS:P.underlying S=some ds) (hT:P.underlying T=some (.int .u64)):Run C P Γ l res ⟨some d,.convert S T x,ty,pos,after,g⟩ (.rd z2x (a.toUInt64)):=znc hS hT hx (by have:=UInt32.toNat_lt a; simp only [IntKind.wrap,IntKind.signed,IntKind.bits]; simp; omega)
theorem U.add {x y:Operand} {T T':TypeId} {a b:UInt64} (hx:opE l x=some (.rd z2x a)) (hy:opE l y=some (.rd z2x b)):Run C P Γ l res ⟨some d,.binOp .add T x y T',ty,pos,after,g⟩ (.rd z2x (a+b)):=zjf hx hy (by simp only [zc7,Option.some.injEq,Value.int.injEq,true_and,IntKind.wrap,IntKind.signed,IntKind.bits]; simp)
theorem U.sub {x y:Operand} {T T':TypeId} {a b:UInt64} (hx:opE l x=some (.rd z2x a)) (hy:opE l y=some (.rd z2x b)):Run C P Γ l res ⟨some d,.binOp .sub T x y T',ty,pos,after,g⟩ (.rd z2x (a - b)):=zjf hx hy (by simp only [zc7,Option.some.injEq,Value.int.injEq,true_and,IntKind.wrap,IntKind.signed,IntKind.bits]; have h1:=UInt64.toNat_lt a; have h2:=UInt64.toNat_lt b; rw [UInt64.toNat_sub]; simp; omega)
theorem U.mul {x y:Operand} {T T':TypeId} {a b:UInt64} (hx:opE l x=some (.rd z2x a)) (hy:opE l y=some (.rd z2x b)):Run C P Γ l res ⟨some d,.binOp .mul T x y T',ty,pos,after,g⟩ (.rd z2x (a * b)):=zjf hx hy (by simp only [zc7,Option.some.injEq,Value.int.injEq,true_and,IntKind.wrap,IntKind.signed,IntKind.bits]; simp)
theorem U.lss {x y:Operand} {T T':TypeId} {a b:UInt64} (hx:opE l x=some (.rd z2x a)) (hy:opE l y=some (.rd z2x b)):Run C P Γ l res ⟨some d,.binOp .lss T x y T',ty,pos,after,g⟩ (.rd z09 (decide (a<b))):=zmt hx hy (by simp only [zc7,Option.some.injEq,Value.bool.injEq,decide_eq_decide]; simp [UInt64.lt_iff_toNat_lt,UInt64.le_iff_toNat_le])
theorem U.leq {x y:Operand} {T T':TypeId} {a b:UInt64} (hx:opE l x=some (.rd z2x a)) (hy:opE l y=some (.rd z2x b)):Run C P Γ l res ⟨some d,.binOp .leq T x y T',ty,pos,after,g⟩ (.rd z09 (decide (a≤b))):=zmt hx hy (by simp only [zc7,Option.some.injEq,Value.bool.injEq,decide_eq_decide]; simp [UInt64.lt_iff_toNat_lt,UInt64.le_iff_toNat_le])
theorem U.gtr {x y:Operand} {T T':TypeId} {a b:UInt64} (hx:opE l x=some (.rd z2x a)) (hy:opE l y=some (.rd z2x b)):Run C P Γ l res ⟨some d,.binOp .gtr T x y T',ty,pos,after,g⟩ (.rd z09 (decide (b<a))):=zmt hx hy (by simp only [zc7,Option.some.injEq,Value.bool.injEq,decide_eq_decide]; simp [UInt64.lt_iff_toNat_lt,UInt64.le_iff_toNat_le])
theorem U.geq {x y:Operand} {T T':TypeId} {a b:UInt64} (hx:opE l x=some (.rd z2x a)) (hy:opE l y=some (.rd z2x b)):Run C P Γ l res ⟨some d,.binOp .geq T x y T',ty,pos,after,g⟩ (.rd z09 (decide (b≤a))):=zmt hx hy (by simp only [zc7,Option.some.injEq,Value.bool.injEq,decide_eq_decide]; simp [UInt64.lt_iff_toNat_lt,UInt64.le_iff_toNat_le])
theorem U.eql {x y:Operand} {T T':TypeId} {a b:UInt64} (hx:opE l x=some (.rd z2x a)) (hy:opE l y=some (.rd z2x b)):Run C P Γ l res ⟨some d,.binOp .eql T x y T',ty,pos,after,g⟩ (.rd z09 (a==b)):=zmt hx hy (by simp only [zc7,z100])
theorem U.neq {x y:Operand} {T T':TypeId} {a b:UInt64} (hx:opE l x=some (.rd z2x a)) (hy:opE l y=some (.rd z2x b)):Run C P Γ l res ⟨some d,.binOp .neq T x y T',ty,pos,after,g⟩ (.rd z09 (a != b)):=zmt hx hy (by simp only [zc7,bne,z100])
theorem U.quo {x y:Operand} {T T':TypeId} {a b:UInt64} (hx:opE l x=some (.rd z2x a)) (hy:opE l y=some (.rd z2x b)) (h0:b≠0):Run C P Γ l res ⟨some d,.binOp .quo T x y T',ty,pos,after,g⟩ (.rd z2x (a / b)):=quoL hx hy (fun e=>h0 (by rw [← UInt64.toNat_inj]; simpa using e)) (by
 have h1:=UInt64.toNat_lt a;have h2:a.toNat / b.toNat≤a.toNat:=Nat.div_le_self _ _;rw [UInt64.toNat_div,Int.tdiv_eq_ediv_of_nonneg (by omega)];simp only [IntKind.wrap,IntKind.signed,IntKind.bits];simp only [Bool.false_and,Bool.false_eq_true,if_false]
 rw [← Int.natCast_ediv]; generalize a.toNat / b.toNat=q at *; omega)
theorem U.rem {x y:Operand} {T T':TypeId} {a b:UInt64} (hx:opE l x=some (.rd z2x a)) (hy:opE l y=some (.rd z2x b)) (h0:b≠0):Run C P Γ l res ⟨some d,.binOp .rem T x y T',ty,pos,after,g⟩ (.rd z2x (a % b)):=remL hx hy (fun e=>h0 (by rw [← UInt64.toNat_inj]; simpa using e)) (by
 rw [UInt64.toNat_mod,Int.tmod_eq_emod_of_nonneg (by omega)]; omega)
theorem U.and {x y:Operand} {T T':TypeId} {a b:UInt64} (hx:opE l x=some (.rd z2x a)) (hy:opE l y=some (.rd z2x b)):Run C P Γ l res ⟨some d,.binOp .and T x y T',ty,pos,after,g⟩ (.rd z2x (a &&& b)):=zta (γ:=Unit) hx hy rfl (zs1 a b)
theorem U.or {x y:Operand} {T T':TypeId} {a b:UInt64} (hx:opE l x=some (.rd z2x a)) (hy:opE l y=some (.rd z2x b)):Run C P Γ l res ⟨some d,.binOp .or T x y T',ty,pos,after,g⟩ (.rd z2x (a ||| b)):=zta (γ:=Unit) hx hy rfl (zt8 a b)
theorem U.xor {x y:Operand} {T T':TypeId} {a b:UInt64} (hx:opE l x=some (.rd z2x a)) (hy:opE l y=some (.rd z2x b)):Run C P Γ l res ⟨some d,.binOp .xor T x y T',ty,pos,after,g⟩ (.rd z2x (a ^^^ b)):=zta (γ:=Unit) hx hy rfl (zrb a b)
def zop (a:UInt64) (n:Nat):UInt64:=UInt64.ofNat (a.toNat * 2 ^ (min n 64))
def z71 (a:UInt64) (n:Nat):UInt64:=UInt64.ofNat (a.toNat / 2 ^ (min n 64))
theorem U.shl {β:Type} {k':IntKind} {f2:β→Int} {x y:Operand} {T T':TypeId} {a:UInt64} {b:β} (hx:opE l x=some (.rd z2x a)) (hy:opE l y=some (.rd (z9b k' f2) b)) (h0:0≤f2 b):Run C P Γ l res ⟨some d,.binOp .shl T x y T',ty,pos,after,g⟩ (.rd z2x (zop a (f2 b).toNat)):=shlL hx hy h0 (by
 unfold zop; simp only [IntKind.wrap,IntKind.signed,IntKind.bits]; simp)
theorem U.shr {β:Type} {k':IntKind} {f2:β→Int} {x y:Operand} {T T':TypeId} {a:UInt64} {b:β} (hx:opE l x=some (.rd z2x a)) (hy:opE l y=some (.rd (z9b k' f2) b)) (h0:0≤f2 b):Run C P Γ l res ⟨some d,.binOp .shr T x y T',ty,pos,after,g⟩ (.rd z2x (z71 a (f2 b).toNat)):=shrL hx hy h0 (by
 unfold z71; simp only [IntKind.bits];have h1:=UInt64.toNat_lt a;have h2:a.toNat / 2 ^ (min (f2 b).toNat 64)≤a.toNat:=Nat.div_le_self _ _;have h3:∀ q:Nat,q≤a.toNat→(UInt64.ofNat q).toNat=q:=fun q hq=>by simp; omega
 rw [h3 _ h2,Int.fdiv_eq_ediv_of_nonneg _ (Int.le_of_lt (Int.pow_pos (by decide)))]; simp)
theorem U.toI {x:Operand} {S T:TypeId} {ds:TypeDesc} {a:UInt64} (hx:opE l x=some (.rd z2x a)) (hS:P.underlying S=some ds) (hT:P.underlying T=some (.int .i64)):Run C P Γ l res ⟨some d,.convert S T x,ty,pos,after,g⟩ (.rd z08 (w64 (a.toNat:Int))):=znc hS hT hx rfl
theorem I.toU {x:Operand} {S T:TypeId} {ds:TypeDesc} {a:Int} (hx:opE l x=some (.rd z08 a)) (hS:P.underlying S=some ds) (hT:P.underlying T=some (.int .u64)):Run C P Γ l res ⟨some d,.convert S T x,ty,pos,after,g⟩ (.rd z2x (UInt64.ofInt a)):=znc hS hT hx (z11w a)
theorem U.toB {x:Operand} {S T:TypeId} {ds:TypeDesc} {a:UInt64} (hx:opE l x=some (.rd z2x a)) (hS:P.underlying S=some ds) (hT:P.underlying T=some (.int .u8)):Run C P Γ l res ⟨some d,.convert S T x,ty,pos,after,g⟩ (.rd u8R (a.toUInt8)):=znc hS hT hx (by simp only [IntKind.wrap,IntKind.signed,IntKind.bits]; simp)
theorem U.toW {x:Operand} {S T:TypeId} {ds:TypeDesc} {a:UInt64} (hx:opE l x=some (.rd z2x a)) (hS:P.underlying S=some ds) (hT:P.underlying T=some (.int .u32)):Run C P Γ l res ⟨some d,.convert S T x,ty,pos,after,g⟩ (.rd z0p (a.toUInt32)):=znc hS hT hx (by simp only [IntKind.wrap,IntKind.signed,IntKind.bits]; simp)
end
end
section
open Go Go.RowKit
def z4d {α β:Type} (R:Rep β) (x:β) (off:Nat) (T:Rep α) (y:α) (set:α→β):Prop :=
 ∀ S w cs,R.rel S w cs x→∃ a c d,cs=a++c++d∧a.length=off∧T.rel S w c y∧∀ S' w' c' y',z9q S S' w w'→T.rel S' w' c' y'→R.rel S' w' (a++c'++d) (set y')
theorem z4d.fst {α β:Type} {R:Rep α} {T:Rep β} {x:α × β}:z4d (z4y R T) x 0 R x.1 (fun y=>(y,x.2)):=fun S w cs h=>by
 obtain ⟨c,d,rfl,h1,h2⟩:=h;exact ⟨[],c,d, by simp,rfl,h1, fun S' w' c' y' k h'=>⟨c',d, by simp,h',T.mono k h2⟩⟩
theorem z4d.snd {α β γ:Type} {R:Rep α} {T:Rep β} {x:α × β} {off:Nat} {U:Rep γ} {y:γ} {set:γ→β} (p:z4d T x.2 off U y set):z4d (z4y R T) x (R.sz+off) U y (fun y=>(x.1,set y)):=fun S w cs h=>by
 obtain ⟨c,d,rfl,h1,h2⟩:=h;obtain ⟨a,c1,d1,rfl,ha,hc,hs⟩:=p S w d h2;exact ⟨c++a,c1,d1, by simp, by simp [R.len h1,ha],hc, fun S' w' c' y' k h'=>⟨c,a++c'++d1, by simp,R.mono k h1,hs S' w' c' y' k h'⟩⟩
theorem z4d.via {α β γ:Type} {R:Rep α} {g:β→α} {x:β} {off:Nat} {U:Rep γ} {y:γ} {set:γ→α} {set':γ→β} (p:z4d R (g x) off U y set) (e:∀ y,g (set' y)=set y):z4d (zjw g R) x off U y set':=fun S w cs h=>by
 obtain ⟨a,c1,d1,h1,ha,hc,hs⟩:=p S w cs h;exact ⟨a,c1,d1,h1,ha,hc, fun S' w' c' y' k h'=>by show R.rel S' w' _ (g (set' y')); rw [e]; exact hs S' w' c' y' k h'⟩
def idx {α:Type} (l:List α) (i:Int):Option α:=if 0≤i then l[i.toNat]? else none
theorem z5x {α:Type} {l:List α} {i:Int} {x:α} (h:idx l i=some x):0≤i∧l[i.toNat]? = some x∧i.toNat<l.length:=by
 unfold idx at h
 split at h
 ·exact ⟨‹_›,h,(List.getElem?_eq_some_iff.1 h).1⟩
 ·cases h
def z7m {α:Type} {n:Nat} (v:Vector α n) (i:Int):Option α:=idx v.toList i
theorem zp5 {α:Type} {n:Nat} {v:Vector α n} {i:Int} {x:α} (h:z7m v i=some x):0≤i∧i.toNat<n:=by
 obtain ⟨h1,_,h2⟩:=z5x h; simp at h2; exact ⟨h1,h2⟩
def zij {α:Type} {n:Nat} (v:Vector α n) (i:Int) (x:α):Vector α n:=v.setIfInBounds i.toNat x
theorem z4d.el {α:Type} {n:Nat} {R:Rep α} {v:Vector α n} {i:Int} {x:α} (h:z7m v i=some x):z4d (z3m n R) v (i.toNat * R.sz) R x (fun y=>zij v i y):=fun S w cs hr=>by
 obtain ⟨-,h2,-⟩:=z5x h;obtain ⟨a,c,d,h3,h4,h5,h6⟩:=z5r.split (show z5r R S w cs v.toList from hr) h2;refine ⟨a,c,d,h3,h4,h5, fun S' w' c' y' k h'=>?_⟩
 have:=h6 c' y' S' w' k h'
 show z5r R S' w' _ (zij v i y').toList;unfold zij;rw [Vector.toList_setIfInBounds];exact this
def base:Value→Option Nat
 | .slice (some ⟨b,0,none⟩) _ _=>some b
 | .pointer (some ⟨b,0,none⟩)=>some b
 | _=>none
theorem zio {v:Value} {b:Nat} (h:base v=some b):z58 v=some b:=by
 unfold base at h
 split at h <;> simp_all [z58]
def z05 (v:Value) (k:Nat):Value:=match z58 v with
 | some b=>.pointer (some ⟨b,k,none⟩)
 | none=>v
theorem zea {v:Value} {b k:Nat} (h:base v=some b):z05 v k=.pointer (some ⟨b,k,none⟩):=by unfold z05; rw [zio h]
theorem zjl {b k:Nat}:z05 (.pointer (some ⟨b,0,none⟩)) k=.pointer (some ⟨b,k,none⟩):=rfl
def Foc {α:Type} (c:z4l) (k:Nat) (R:Rep α) (x:α) (upd:α→z4l):Prop :=
 (∀ S w v,¬ c.nil S w v)∧∀ S w v o,c.rel S w v o→∃ b C T a cs d,base v=some b∧o=.cells C T (0,0)∧C.toList=a++cs++d∧a.length=k∧R.rel S w cs x ∧
  ∀ S' w' cs' x',z9q S S' w w'→R.rel S' w' cs' x'→(upd x').rel S' w' v (.cells (a++cs'++d).toArray T (0,0))
theorem Foc.part {α β:Type} {c:z4l} {k:Nat} {R:Rep α} {x:α} {upd:α→z4l} {T:Rep β} {y:β} {off:Nat} {set:β→α} (f:Foc c k R x upd) (p:z4d R x off T y set):Foc c (k+off) T y (fun y=>upd (set y)):=⟨f.1, fun S w v o h=>by
 obtain ⟨b,C,Ty,a,cs,d,h1,h2,h3,h4,h5,h6⟩:=f.2 S w v o h;obtain ⟨a2,c2,d2,rfl,ha2,hc2,hs2⟩:=p S w cs h5;refine ⟨b,C,Ty,a++a2,c2,d2++d,h1,h2, by simp [h3], by simp [h4,ha2],hc2, fun S' w' cs' x' kk h'=>?_⟩
 have:=h6 S' w' _ _ kk (hs2 S' w' cs' x' kk h')
 simpa using this⟩
theorem Foc.el {α:Type} {R:Rep α} {T:TypeId} {l:List α} {i:Int} {x:α} (h:idx l i=some x):Foc (.list R T l) (i.toNat * R.sz) R x (fun y=>.list R T (l.set i.toNat y)):=⟨fun S w v hv=>by rw [hv.2] at h; simp [idx] at h, fun S w v o hr=>by
 obtain ⟨h0,h2,hlt⟩:=z5x h;obtain ⟨b,cap,C,rfl,rfl,h3,h4,h5,h6⟩:=hr;obtain ⟨a,c,d,h7,h8,h9,h10⟩:=h6.split h2;refine ⟨b,C,T,a,c,d++C.toList.drop (l.length * R.sz),rfl,rfl,?_,h8,h9, fun S' w' cs' x' k h'=>?_⟩
 ·rw [← List.append_assoc,← h7,List.take_append_drop]
 ·have h11:=h10 cs' x' S' w' k h';have hlen:(a++cs'++d).length=l.length * R.sz:=by have:=h11.len; simpa using this
  refine ⟨b,cap,_, by rw [List.length_set],rfl, by simpa using h3,h4,?_,?_⟩
  ·have h12:C.toList.length=cap * R.sz:=by simpa using h5
   have h13:l.length * R.sz≤cap * R.sz:=Nat.mul_le_mul_right _ h3;rw [← List.append_assoc];simp only [List.size_toArray,List.length_append,List.length_drop,h12] at hlen ⊢;omega
  ·rw [List.length_set,← List.append_assoc];show z5r R S' w' (List.take (l.length * R.sz) (a++cs'++d++_)) _;rw [← hlen,List.take_left']
   ·exact h11
   ·rfl⟩
theorem z43 (v:Value) (vs:List Value):z8u (v::vs)=v.cells.toList++z8u vs:=rfl
theorem Foc.here {α:Type} {R:Rep α} {T:TypeId} {x:α} {es:List Ent}:Foc (.box T (.rd R x::es)) 0 R x (fun y=>.box T (.rd R y::es)):=⟨fun _ _ v h=>h, fun S w v o hr=>by
 obtain ⟨b,vs,rfl,rfl,h⟩:=hr
 match vs,h with
 | u::vs,⟨⟨cs,h1,h2⟩,h3⟩ =>
  subst h2;refine ⟨b,_,T,[],cs,z8u vs,rfl,rfl, by simp [z43,Rep.val_cells h1],rfl,h1, fun S' w' cs' x' k h'=>?_⟩
  exact ⟨b,R.val cs'::vs,rfl, by simp [z43,Rep.val_cells h'],⟨cs',h',rfl⟩,h3.mono k⟩⟩
def Ent.fills (e:Ent) (n:Nat):Prop:=∀ S w v,e.holds S w v→v.cells.size=n
theorem z17 {α:Type} {R:Rep α} {x:α}:(Ent.rd R x).fills R.sz:=fun S w v h=>by
 obtain ⟨cs,h1,rfl⟩:=h;rw [← Array.length_toList,Rep.val_cells h1,R.len h1]
theorem z0g {u:Value}:(Ent.val u).fills 1:=fun S w v h=>by
 obtain ⟨rfl,h⟩:=h;rw [z8y h]; rfl
theorem Foc.next {α:Type} {e:Ent} {R:Rep α} {T:TypeId} {x:α} {es:List Ent} {n k:Nat} {upd:α→List Ent} (h:e.fills n) (f:Foc (.box T es) k R x (fun y=>.box T (upd y))):Foc (.box T (e::es)) (n+k) R x (fun y=>.box T (e::upd y)):=⟨fun _ _ v h=>h, fun S w v o hr=>by
 obtain ⟨b,vs,rfl,rfl,hh⟩:=hr
 match vs,hh with
 | u::vs,⟨h1,h3⟩ =>
  obtain ⟨b',C,T',a,cs,d,k1,k2,k3,k4,k5,k6⟩:=f.2 S w (.pointer (some ⟨b,0,none⟩)) (.cells (z8u vs).toArray T (0,0)) ⟨b,vs,rfl,rfl,h3⟩
  cases k1
  simp only [Obj.cells.injEq,and_true] at k2;obtain ⟨rfl,rfl⟩:=k2;have k3:z8u vs=a++cs++d:=k3;have hu:u.cells.toList.length=n:=by have:=h S w u h1; simpa using this
  refine ⟨b,_,T,u.cells.toList++a,cs,d,rfl,rfl, by simp [z43,k3], by simp [hu,k4],k5, fun S' w' cs' x' k h'=>?_⟩;obtain ⟨b2,vs2,e1,e2,e3⟩:=k6 S' w' cs' x' k h'
  cases e1
  simp only [Obj.cells.injEq,and_true] at e2;have e2:a++cs'++d=z8u vs2:=congrArg Array.toList e2
  exact ⟨b,u::vs2,rfl, by simp [z43,← e2],e.mono k h1,e3⟩⟩
section
variable {C:World→World→Prop} {ρ:Type} {P:Program} {Γ:Ctx} {l:z1p} {res:Res} {m:Option ρ} {os rest:List Oper} {N:ρ→Exit→Act→World→Prop}
 {d:Tmp} {ty:TypeId} {pos:String} {after:Array Edge} {g:Option (Nat × Bool)}
theorem z1a {r r':Nat} {x:Option (Value × z4l)}:lr ((r,x)::res) r'=if r=r' then x else lr res r':=by
 unfold lr; rw [z2j]; split <;> rfl
theorem Sta.upd {a:Act} {w w':World} (h:Sta Γ l res a w) (r:Nat) {v:Value} {c:z4l} {wr:Option Nat} (hg:w.grownBy w' wr)
  (hwr:∀ b,wr=some b→∃ v0 c0,lr res r=some (v0,c0)∧z58 v0=some b)
  (hv:∀ b,z58 v=some b→(∃ v0 c0,lr res r=some (v0,c0)∧z58 v0=some b)∨w.heap.size≤b)
  (hc:∀ S',z9q (Shr Γ.H res w) S' w w'→c.holds S' w' v):Sta Γ l ((r,some (v,c))::res) a w'∧z9q (Shr Γ.H res w) (Shr Γ.H ((r,some (v,c))::res) w') w w':=by
 have hold:∀ b,b<w.heap.size→wr≠some b→w'.heap[b]? = w.heap[b]? := fun b hb hn=>hg.block b hb (fun e=>hn e.symm);have hst:z9q (Shr Γ.H res w) (Shr Γ.H ((r,some (v,c))::res) w') w w':=fun b hb=>by
  refine ⟨⟨Nat.lt_of_lt_of_le hb.1 hg.size, fun r' v' c' hr'=>?_,hb.2.2⟩,hold b hb.1 (fun e=>?_)⟩
  ·rw [z1a] at hr'
   split at hr'
   ·cases hr'
    intro e;rcases hv b e with ⟨v0,c0,h1,h2⟩ | h1
    ·exact hb.2.1 r v0 c0 h1 h2
    ·have:=hb.1; omega
   ·exact hb.2.1 r' v' c' hr'
  ·obtain ⟨v0,c0,h1,h2⟩:=hwr b e;exact hb.2.1 r v0 c0 h1 h2
 have hother:∀ r' v' c',r≠r'→lr res r'=some (v',c')→∀ b,z58 v'=some b→w'.heap[b]? = w.heap[b]? := fun r' v' c' hne hr' b hb=>by
  refine hold b ((h.conts r' v' c' hr').lt hb) (fun e=>?_);obtain ⟨v0,c0,h1,h2⟩:=hwr b e;exact h.excl r v0 c0 r' v' c' h1 hr' hne b h2 hb
 have hsep:∀ r' v' c',r≠r'→lr res r'=some (v',c')→∀ b,z58 v=some b→z58 v'≠some b:=fun r' v' c' hne hr' b hb e=>by
  rcases hv b hb with ⟨v0,c0,h1,h2⟩ | h1
  ·exact h.excl r v0 c0 r' v' c' h1 hr' hne b h2 e
  ·have:=(h.conts r' v' c' hr').lt e; omega
 refine ⟨⟨h.size,h.defers, fun t e ht=>?_, fun r' v' c' hr'=>?_, fun r1 v1 c1 r2 v2 c2 h1 h2 hne b hb=>?_, fun r' v' c' hr' b hb=>?_,?_,h.old,?_⟩,hst⟩
 ·obtain ⟨u,h1,h2⟩:=h.slots t e ht;exact ⟨u,h1,e.mono hst h2⟩
 ·rw [z1a] at hr'
  split at hr'
  ·cases hr'; exact hc _ hst
  ·rename_i hne;exact (h.conts r' v' c' hr').mono hst (hother r' v' c' hne hr')
 ·rw [z1a] at h1 h2
  split at h1
  ·rename_i he; subst he; cases h1
   rw [if_neg hne] at h2;exact hsep r2 v2 c2 hne h2 b hb
  ·rename_i hn1
   split at h2
   ·rename_i he; subst he; cases h2
    exact fun e=>hsep r1 v1 c1 hn1 h1 b e hb
   ·exact h.excl r1 v1 c1 r2 v2 c2 h1 h2 hne b hb
 ·rw [z1a] at hr'
  split at hr'
  ·cases hr'
   rcases hv b hb with ⟨v0,c0,h1,h2⟩ | h1
   ·exact h.own r v0 c0 h1 b h2
   ·intro hK; have:=h.old_lt hK; omega
  ·exact h.own r' v' c' hr' b hb
 ·exact h.keep.gr hg (fun b hK=>⟨h.old_lt hK, fun e=>by
   obtain ⟨v0,c0,h1,h2⟩:=hwr b e
   exact h.own r v0 c0 h1 b h2 hK⟩)
 ·exact h.hid
def zjb (z:Value) (es:List Ent):Prop:=∀ S w,∃ vs,z8u vs=z.cells.toList∧z3i S w es vs
theorem zjb.rd {α:Type} {R:Rep α} {x:α} {z:Value} (h:∀ S w,R.rel S w z.cells.toList x):zjb z [.rd R x]:=fun S w =>
 ⟨[R.val z.cells.toList], by simp [z8u,Rep.val_cells (h S w)],⟨_,h S w,rfl⟩,trivial⟩
theorem zxm {w:World} {C:Array Value} {T:TypeId} {es:List Ent} {vs:List Value} (hC:C=(z8u vs).toArray) {S S':Blk} (h:z3i S w es vs) (k:z9q S S' w (w.alloc (.cells C T))) :
  (z4l.box T es).holds S' (w.alloc (.cells C T)) (.pointer (some ⟨w.heap.size,0,none⟩)) :=
 .inr ⟨w.heap.size,_,rfl,heap_alloc_new _ _,w.heap.size,vs,rfl, by rw [hC],h.mono k⟩
theorem zg0 (w:World) (o:Obj):w.grownBy (w.alloc o) none:=(Ext.al w o).gb
def Grew (res:Res) (r:Nat) (w w':World):Prop:=∃ wr:Option Nat,w.grownBy w' wr∧∀ b,wr=some b→∃ v0 c0,lr res r=some (v0,c0)∧z58 v0=some b
def Eff (P:Program) (Γ:Ctx) (l:z1p) (res:Res) (o:Oper) (r:Nat) (x:Value→Value × z4l):Prop:=∀ a w,Sta Γ l res a w →
 ∃ w' u,(execOp a.eval o).run P w=.ok (.value u) w'∧(Sta Γ l ((r,some (x u))::res) a w'∧z9q (Shr Γ.H res w) (Shr Γ.H ((r,some (x u))::res) w') w w')∧u.oneCell'=true∧Grew res r w w'
def EffS (P:Program) (Γ:Ctx) (l:z1p) (res:Res) (o:Oper) (r:Nat) (x:Value × z4l):Prop:=∀ a w,Sta Γ l res a w →
 ∃ w',(execOp a.eval o).run P w=.ok .skip w'∧(Sta Γ l ((r,some x)::res) a w'∧z9q (Shr Γ.H res w) (Shr Γ.H ((r,some x)::res) w') w w')∧Grew res r w w'
theorem Ef {r:Nat} {op:Op} {x:Value→Value × z4l} (hn:Nat.blt d Γ.n=true) (he:Eff P Γ l res ⟨some d,op,ty,pos,after,none⟩ r x)
  (k:∀ u,GL P os (Sta Γ ((d,.val u)::l) ((r,some (x u))::res)) rest N m):GL P os (Sta Γ l res) (⟨some d,op,ty,pos,after,none⟩::rest) N m:=fun a w ha ρ hm=>by
 obtain ⟨w',u,h1,⟨h2,_⟩,h3,_⟩:=he a w ha;exact st (zcn rfl) h1 (k u _ _ (h2.put hn ⟨rfl,h3⟩) ρ hm)
theorem Es {r:Nat} {op:Op} {x:Value × z4l} (he:EffS P Γ l res ⟨none,op,ty,pos,after,none⟩ r x)
  (k:GL P os (Sta Γ l ((r,some x)::res)) rest N m):GL P os (Sta Γ l res) (⟨none,op,ty,pos,after,none⟩::rest) N m:=fun a w ha ρ hm=>by
 obtain ⟨w',h1,⟨h2,_⟩,_⟩:=he a w ha;exact st0 (zcn rfl) h1 rfl (k a w' h2 ρ hm)
theorem z5l (r:Nat) {T:TypeId} {z:Value} {sz by_:Nat} {es:List Ent} (hT:TI P T z sz by_) (hz:zjb z es):Eff P Γ l res ⟨some d,.alloc T,ty,pos,after,g⟩ r (fun v=>(v,.box T es)):=fun a w ha=>by
 have hrun:(execOp a.eval ⟨some d,.alloc T,ty,pos,after,g⟩).run P w=.ok (.value (.pointer (some ⟨w.heap.size,0,none⟩))) (w.alloc (.cells z.cells T)):=by
  simp [execOp,Instr.alloc,zdr hT,newVar,newRow]
 obtain ⟨vs,h1,h2⟩:=hz (Shr Γ.H res w) w
 exact ⟨_,_,hrun,ha.upd r (c:=.box T es) (zg0 w (.cells z.cells T)) (by simp) (fun b hb=>.inr (by simp [z58] at hb; omega)) (v:=.pointer (some ⟨w.heap.size,0,none⟩))
  (fun S' k'=>zxm (by rw [h1]) h2 k'),rfl,none,zg0 w _, by simp⟩
theorem bx (r:Nat) {T:TypeId} {x:Operand} {e:Ent} (hx:opE l x=some e):Eff P Γ l res ⟨some d,.box T x,ty,pos,after,g⟩ r (fun v=>(v,.box T [e])):=fun a w ha=>by
 have hrun:(execOp a.eval ⟨some d,.box T x,ty,pos,after,g⟩).run P w=.ok (.value (.pointer (some ⟨w.heap.size,0,none⟩))) (w.alloc (.cells (a.eval x).cells T)):=by
  simp [execOp,Instr.box,newVar,newRow]
 exact ⟨_,_,hrun,ha.upd r (c:=.box T [e]) (zg0 w (.cells (a.eval x).cells T)) (by simp) (fun b hb=>.inr (by simp [z58] at hb; omega)) (v:=.pointer (some ⟨w.heap.size,0,none⟩))
  (fun S' k'=>zxm (vs:=[a.eval x]) (by simp [z8u]) ⟨ha.vl hx,trivial⟩ k'),rfl,none,zg0 w _, by simp⟩
theorem zlf {w:World} {es:List Ent} {T:TypeId} {S:Blk} {v:Value} (h:(z4l.box T es).holds S w v):z05 v 0=v:=by
 rcases h with h | ⟨b,o,_,_,b',vs,rfl,_⟩
 ·exact h.elim
 ·rfl
def zbt (P:Program) (t:TypeId) (agg:Bool) (sz:Nat):Prop:=if agg then Ag P t∧∃ z by_,TI P t z sz by_ else Sc P t
theorem Bx.load {w:World} {b:Nat} {C:Array Value} {T:TypeId} {t:TypeId} {α:Type} {R:Rep α} {x:α} {S:Blk} {a cs dd:List Value} (hb:w.heap[b]? = some (.cells C T (0,0))) (hC:C.toList=a++cs++dd) (hr:R.rel S w cs x) (hT:zbt P t R.agg R.sz) :
  (loadVar t ⟨b,a.length,none⟩).run P w=.ok (R.val cs) w:=by
 have hB:Bx w b C T:=hb;unfold zbt at hT;unfold Rep.val;have hcell:∀ j u,cs[j]? = some u→w.cell? ((⟨b,a.length,none⟩:Addr).add j)=some u:=hB.cells (by rw [hC]; simp)
 cases ha:R.agg with
 | true =>
  rw [ha,if_pos rfl] at hT;obtain ⟨h1,z,by_,h2⟩:=hT;exact zpz h1 h2 (R.len hr) hcell
 | false =>
  rw [ha,if_neg (by simp)] at hT;have h1:=R.len hr;rw [R.scal ha] at h1
  match cs,h1 with
  | [u],_ =>
   have:=hcell 0 u rfl
   exact zil hT (by simpa [Addr.add] using this)
theorem ld {ws:List Nat} [LC C res ws] {α:Type} {R:Rep α} {x':α} {upd:α→z4l} {t:TypeId} {x:Operand} {v:Value} {c:z4l} {k:Nat} (r:Nat) (hx:opE l x=some (.val (z05 v k))) (hr:lr res r=some (v,c)) (hf:Foc c k R x' upd) (hT:zbt P t R.agg R.sz) (hw:ws.contains r=false) :
  Run C P Γ l res ⟨some d,.load t x,ty,pos,after,g⟩ (.rd R x'):=fun a w ha=>by
 have h1:=(ha.vl hx).1;rcases ha.conts r v c hr with h2 | ⟨b,o,h2,h3,h4⟩
 ·exact (hf.1 _ _ v h2).elim
 ·obtain ⟨b',Cc,T,a',cs,dd,k1,rfl,k3,rfl,k5,-⟩:=hf.2 _ w v o h4;rw [zea k1] at h1;have e:b'=b:=by have:=zio k1; rw [h2] at this; cases this; rfl
  subst e;refine ⟨R.val cs, fun w' hw'=>?_,cs,k5,rfl⟩;have hb':w'.heap[b']? = some (.cells Cc T (0,0)):=(CW.at hw' ha hr h2 hw).trans h3
  have:=Bx.load (P:=P) hb' k3 (R.mono (CW.stay hw') k5) hT
  simp [execOp,h1,Instr.loadAt,Instr.sureAddr,this]
def At (es:List Ent) (k:Nat) (e:Ent):Prop:=∃ pre post,es=pre++e::post∧∀ S w vs,z3i S w pre vs→(z8u vs).length=k
theorem At.here {e:Ent} {es:List Ent}:At (e::es) 0 e:=⟨[],es,rfl, fun S w vs h=>by match vs,h with | [],_=>rfl⟩
theorem At.next {e e':Ent} {es:List Ent} {n k:Nat} (h:e'.fills n) (p:At es k e):At (e'::es) (n+k) e:=by
 obtain ⟨pre,post,rfl,hk⟩:=p;refine ⟨e'::pre,post,rfl, fun S w vs hh=>?_⟩
 match vs,hh with
 | u::vs,⟨h1,h2⟩ =>
  have h3:=h S w u h1;rw [z43,List.length_append,hk S w vs h2];simp [h3]
theorem z3i.app {S w}:∀ {pre post:List Ent} {vs},z3i S w (pre++post) vs→∃ us ts,vs=us++ts∧z3i S w pre us∧z3i S w post ts
 | [],post,vs,h=>⟨[],vs,rfl,trivial,h⟩
 | e::pre,post,v::vs,h=>by
  obtain ⟨us,ts,rfl,h1,h2⟩:=z3i.app h.2;exact ⟨v::us,ts,rfl,⟨h.1,h1⟩,h2⟩
 | e::pre,post,[],h=>h.elim
theorem z3i.mk {S w}:∀ {pre post:List Ent} {us ts},z3i S w pre us→z3i S w post ts→z3i S w (pre++post) (us++ts)
 | [],post,[],ts,_,h=>h
 | e::pre,post,u::us,ts,h,h2=>⟨h.1,z3i.mk h.2 h2⟩
 | [],_,_::_,_,h,_=>h.elim
 | _::_,_,[],_,h,_=>h.elim
theorem ldV {ws:List Nat} [LC C res ws] {t T:TypeId} {x:Operand} {v u:Value} {es:List Ent} {k:Nat} (r:Nat) (hx:opE l x=some (.val (z05 v k))) (hr:lr res r=some (v,.box T es)) (hf:At es k (.val u)) (hT:Sc P t) (hw:ws.contains r=false) :
  Run C P Γ l res ⟨some d,.load t x,ty,pos,after,g⟩ (.val u):=fun a w ha=>by
 have h1:=(ha.vl hx).1;rcases ha.conts r v _ hr with h2 | ⟨b,o,h2,h3,b',vs,rfl,rfl,h4⟩
 ·exact h2.elim
 ·simp only [z58,Option.some.injEq] at h2;subst h2;obtain ⟨pre,post,rfl,hk⟩:=hf;obtain ⟨us,ts,rfl,h5,h6⟩:=h4.app
  match ts,h6 with
  | y::ts,⟨h7,h8⟩ =>
   obtain ⟨rfl,h9⟩:=h7;have hl:=hk _ _ _ h5;rw [zjl] at h1;refine ⟨y, fun w' hw'=>?_,rfl,h9⟩;have hb':Bx w' b' (z8u (us++y::ts)).toArray T:=(CW.at hw' ha hr rfl hw).trans h3;have hc:w'.cell? ⟨b',k,none⟩=some y:=by
    rw [hb'.cell];subst hl;simp [z8u,z8y h9]
   exact z15c hT h1 hc
theorem ldR {ws:List Nat} [LC C res ws] {α:Type} {R:Rep α} {x':α} {t:TypeId} {x:Operand} (hx:opE l x=some (.rp R x')) (hT:zbt P t R.agg R.sz) :
  Run C P Γ l res ⟨some d,.load t x,ty,pos,after,g⟩ (.rd R x'):=fun a w ha=>by
 obtain ⟨b,o,cs,h1,h2,h3,h4⟩:=ha.vl hx;refine ⟨R.val cs, fun w' hw'=>?_,cs,h3,rfl⟩;have hcell:∀ j u,cs[j]? = some u→w'.cell? ((⟨b,o,none⟩:Addr).add j)=some u:=fun j u hu=>by
  rw [z5y]
  have:=h4 j u hu
  unfold World.cell? at this ⊢;rw [CW.shr hw' h2]; exact this
 have:(loadVar t ⟨b,o,none⟩).run P w'=.ok (R.val cs) w':=by
  unfold zbt at hT;unfold Rep.val
  cases hag:R.agg with
  | true =>
   rw [hag,if_pos rfl] at hT;obtain ⟨k1,z,by_,k2⟩:=hT;exact zpz k1 k2 (R.len h3) hcell
  | false =>
   rw [hag,if_neg (by simp)] at hT;have k1:=R.len h3;rw [R.scal hag] at k1
   match cs,k1 with
   | [u],_=>exact zil hT (by simpa [Addr.add] using hcell 0 u rfl)
 simp [execOp,h1,Instr.loadAt,Instr.sureAddr,this]
theorem fa {S:TypeId} {x:Operand} {i:Nat} {v:Value} {k:Nat} {c:z4l} {fs:Array Field} {fd:Field} {z:Value} {sz by_:Nat} (r:Nat) (hx:opE l x=some (.val (z05 v k))) (hr:lr res r=some (v,c)) (hc:∀ S w v o,c.rel S w v o→∃ b,base v=some b) (hn:∀ S w v,¬ c.nil S w v)
  (hS:P.underlying S=some (.struct fs)) (hi:fs[i]? = some fd) (hF:TI P fd.type z (sz+1) by_) :
  Run C P Γ l res ⟨some d,.fieldAddr S x i,ty,pos,after,g⟩ (.val (z05 v (k+fd.offset))):=fun a w ha=>by
 have h1:=(ha.vl hx).1;rcases ha.conts r v c hr with h2 | ⟨b,o,h2,h3,h4⟩
 ·exact (hn _ _ v h2).elim
 ·obtain ⟨b',h5⟩:=hc _ w v o h4;rw [zea h5] at h1 ⊢;exact ⟨_, fun w' _=>zkw hS hi hF h1 (z5y _ _ _),rfl,rfl⟩
theorem z12x {T:TypeId} {es:List Ent}:∀ S w v o,(z4l.box T es).rel S w v o→∃ b,base v=some b:=fun S w v o h=>by
 obtain ⟨b,vs,rfl,_⟩:=h; exact ⟨b,rfl⟩
theorem faB {S T:TypeId} {x:Operand} {i:Nat} {v:Value} {k:Nat} {es:List Ent} {fs:Array Field} {fd:Field} {z:Value} {sz by_:Nat} (r:Nat) (hx:opE l x=some (.val (z05 v k))) (hr:lr res r=some (v,.box T es))
  (hS:P.underlying S=some (.struct fs)) (hi:fs[i]? = some fd) (hF:TI P fd.type z (sz+1) by_) :
  Run C P Γ l res ⟨some d,.fieldAddr S x i,ty,pos,after,g⟩ (.val (z05 v (k+fd.offset))):=fa r hx hr z12x (fun _ _ _ h=>h) hS hi hF
theorem z4d.ptr {α β:Type} {R:Rep β} {x:β} {off:Nat} {T:Rep α} {y:α} {set:α→β} (p:z4d R x off T y set) {S:Blk} {w:World} {v:Value} (h:(Ent.rp R x).holds S w v):∃ b o,v=.pointer (some ⟨b,o,none⟩)∧(Ent.rp T y).holds S w (.pointer (some ⟨b,o+off,none⟩)):=by
 obtain ⟨b,o,cs,rfl,h2,h3,h4⟩:=h;obtain ⟨a,c,d,rfl,ha,hc,-⟩:=p S w cs h3;refine ⟨b,o,rfl,b,o+off,c,rfl,h2,hc, fun j u hu=>?_⟩
 have:=h4 (off+j) u (by
  rw [List.append_assoc,List.getElem?_append_right (by omega),List.getElem?_append_left]
  ·rw [ha,Nat.add_sub_cancel_left]; exact hu
  ·have:=(List.getElem?_eq_some_iff.1 hu).1; omega)
 rw [Nat.add_assoc]; exact this
theorem faR {α β:Type} {R:Rep β} {x':β} {off:Nat} {T:Rep α} {y:α} {set:α→β} {S:TypeId} {x:Operand} {i:Nat} {fs:Array Field} {fd:Field} {z:Value} {sz by_:Nat} (hx:opE l x=some (.rp R x')) (p:z4d R x' off T y set)
  (hS:P.underlying S=some (.struct fs)) (hi:fs[i]? = some fd) (ho:fd.offset=off) (hF:TI P fd.type z (sz+1) by_) :
  Run C P Γ l res ⟨some d,.fieldAddr S x i,ty,pos,after,g⟩ (.rp T y):=fun a w ha=>by
 obtain ⟨b,o,h1,h2⟩:=p.ptr (ha.vl hx);exact ⟨_, fun w' _=>zkw hS hi hF h1 (z5y _ _ _), by rw [ho]; exact h2⟩
theorem ixR {α β:Type} {R:Rep α} {b:List α} {y:α} {k:IntKind} {f:β→Int} {j:β} {x z':Operand} {T e:TypeId} {z:Value} {by_:Nat} (hx:opE l x=some (.rd (z03 R) b)) (hj:opE l z'=some (.rd (z9b k f) j)) (hy:idx b (f j)=some y) (hT:P.underlying T=some (.slice e)) (hE:TI P e z R.sz by_) (hsz:Nat.blt 0 R.sz=true) :
  Run C P Γ l res ⟨some d,.indexAddr T x z',ty,pos,after,g⟩ (.rp R y):=fun a w ha=>by
 obtain ⟨cs,⟨p,c,xs,h1,h2,h3,h4⟩,h5⟩:=ha.vl hx;subst h1;have hsz:0<R.sz:=Eq.mp Nat.blt_eq hsz;have h5:a.eval x=.slice p b.length c:=h5;obtain ⟨k1,k2,k3⟩:=z5x hy;have hj':a.eval z'=.int k ((f j).toNat:Int):=by rw [z4q (ha.vl hj)]; congr 1; omega
 obtain ⟨a',c',d',q1,q2,q3,-⟩:=h3.split k2;have hne:xs≠[]:=fun e0=>by have:=h3.len; rw [e0] at this; have h6:=Nat.mul_pos (show 0<b.length by omega) hsz; simp at this; omega
 rcases h2.2 with ⟨_,h0⟩ | ⟨b',o,sp,cap,hv,g1,g2,g4,g3⟩
 ·omega
 ·obtain rfl:=g4.resolve_left hne;simp only [Value.slice.injEq,true_and] at hv;obtain ⟨rfl,rfl⟩:=hv;refine ⟨.pointer (some ⟨b',o+(f j).toNat * R.sz,none⟩), fun w' _=>?_,b',o+(f j).toNat * R.sz,c',rfl,h4 hne b' rfl,q3, fun i u hu=>?_⟩
  ·generalize (f j).toNat=jn at *;simp [execOp,h5,hj',Instr.indexAt,asIntOf,run_underlying hT,k3,z3a hE,z5y]
  ·have hi:i<c'.length:=(List.getElem?_eq_some_iff.1 hu).1;rw [Nat.add_assoc];refine g3 _ u ?_;rw [q1,← q2,List.append_assoc,List.getElem?_append_right (by omega),Nat.add_sub_cancel_left,List.getElem?_append_left hi]; exact hu
theorem ixO {α β:Type} {R:Rep α} {b:List α} {y:α} {k:IntKind} {f:β→Int} {j:β} {x z':Operand} {T e E:TypeId} {z v:Value} {by_:Nat} (r:Nat) (hx:opE l x=some (.val v)) (hr:lr res r=some (v,.list R E b)) (hj:opE l z'=some (.rd (z9b k f) j)) (hy:idx b (f j)=some y) (hT:P.underlying T=some (.slice e)) (hE:TI P e z R.sz by_) :
  Run C P Γ l res ⟨some d,.indexAddr T x z',ty,pos,after,g⟩ (.val (z05 v ((f j).toNat * R.sz))):=fun a w ha=>by
 have h1:=(ha.vl hx).1;obtain ⟨k1,k2,k3⟩:=z5x hy;have hj':a.eval z'=.int k ((f j).toNat:Int):=by rw [z4q (ha.vl hj)]; congr 1; omega
 rcases ha.conts r v _ hr with ⟨_,h2⟩ | ⟨b',o,h2,h3,bb,cap,C',rfl,rfl,_⟩
 ·rw [h2] at k3; simp at k3
 ·refine ⟨.pointer (some ⟨bb,(f j).toNat * R.sz,none⟩), fun w' _=>?_,rfl,rfl⟩;generalize (f j).toNat=jn at *;simp [execOp,h1,hj',Instr.indexAt,asIntOf,run_underlying hT,k3,z3a hE,z5y]
theorem ixB {α β:Type} {n:Nat} {b:Vector α n} {y:α} {k:IntKind} {f:β→Int} {j:β} {x z':Operand} {T e E:TypeId} {z v:Value} {by_ sz q:Nat} {es:List Ent} (r:Nat) (hx:opE l x=some (.val (z05 v q))) (hr:lr res r=some (v,.box E es)) (hj:opE l z'=some (.rd (z9b k f) j)) (hy:z7m b (f j)=some y) (hT:P.underlying T=some (.array n e)) (hE:TI P e z sz by_) :
  Run C P Γ l res ⟨some d,.indexAddr T x z',ty,pos,after,g⟩ (.val (z05 v (q+(f j).toNat * sz))):=fun a w ha=>by
 have h1:=(ha.vl hx).1;obtain ⟨k1,k3⟩:=zp5 hy;have hj':a.eval z'=.int k ((f j).toNat:Int):=by rw [z4q (ha.vl hj)]; congr 1; omega
 rcases ha.conts r v _ hr with h2 | ⟨b',o,h2,h3,bb,vs,rfl,rfl,_⟩
 ·exact h2.elim
 ·rw [zjl] at h1 ⊢;exact ⟨_, fun w' _=>zf7 hT hE h1 hj' rfl k3 rfl,rfl,rfl⟩
end
end
section
open Go Go.RowKit
section
variable {C:World→World→Prop} {ρ:Type} {P:Program} {Γ:Ctx} {l:z1p} {res:Res} {m:Option ρ} {os rest:List Oper} {N:ρ→Exit→Act→World→Prop}
 {d:Tmp} {ty:TypeId} {pos:String} {after:Array Edge} {g:Option (Nat × Bool)}
theorem zxu {v:Value} {b b':Nat} (h:z58 v=some b) (k:base v=some b'):b'=b:=by
 have:=zio k; rw [h] at this; cases this; rfl
theorem sto' {α:Type} {R:Rep α} {x' y':α} {upd:α→z4l} {t:TypeId} {x y:Operand} {v z:Value} {by_ k:Nat} {c:z4l} {a:Act} {w:World} (ha:Sta Γ l res a w) (r:Nat) (hx:opE l x=some (.val (z05 v k))) (hr:lr res r=some (v,c)) (hf:Foc c k R x' upd)
  (hy:opE l y=some (.rd R y')) (hS:TI P t z R.sz by_):∃ w',(execOp a.eval ⟨none,.store t x y,ty,pos,after,g⟩).run P w=.ok .skip w'∧(Sta Γ l ((r,some (v,upd y'))::res) a w'∧z9q (Shr Γ.H res w) (Shr Γ.H ((r,some (v,upd y'))::res) w') w w')∧Grew res r w w':=by
 have h1:=(ha.vl hx).1;obtain ⟨cs',hy1,hy2⟩:=ha.vl hy;rcases ha.conts r v c hr with h2 | ⟨b,o,h2,h3,h4⟩
 ·exact (hf.1 _ _ v h2).elim
 ·obtain ⟨b',C,T,a',cs,dd,k1,rfl,k3,rfl,k5,k6⟩:=hf.2 _ w v o h4;rw [zea k1] at h1;obtain rfl:=zxu h2 k1;have hB:Bx w b' C T:=h3;have hlen:cs'.length=cs.length:=by rw [R.len hy1,R.len k5]
  have hcl:(R.val cs').cells.toList=cs':=Rep.val_cells hy1;have hsp:spl C a'.length (R.val cs').cells.toList=(a'++cs'++dd).toArray:=by
   rw [hcl]; unfold spl; rw [k3]; congr 1
   simp [hlen]
  have hrun:=zk6 (P:=P) (w:=w) (b:=b') (o:=a'.length) (v:=R.val cs') hS (by rw [← Array.length_toList,hcl,R.len hy1]) (by rw [hcl]; exact R.one hy1) hB (by
   have:C.toList.length=C.size:=by simp
   rw [k3] at this; simp [R.len k5] at this; omega)
  refine ⟨w.setRow b' (a'++cs'++dd).toArray,?_,?_,some b',zat b' _, fun b hb=>⟨v,c,hr, by cases hb; exact h2⟩⟩
  ·rw [← hsp];simp [execOp,h1,hy2,Instr.storeAt,Instr.sureAddr,hrun]
  ·refine ha.upd r (zat b' _) (fun b hb=>⟨v,c,hr, by cases hb; exact h2⟩) (fun b hb=>.inl ⟨v,c,hr,hb⟩) (fun S' k'=>.inr ⟨b',_,h2,setRow_heap w b' C _ T _ hB,?_⟩);exact k6 S' _ cs' y' k' (R.mono k' hy1)
theorem sto {α:Type} {R:Rep α} {x' y':α} {upd:α→z4l} {t:TypeId} {x y:Operand} {v z:Value} {by_ k:Nat} {c:z4l} (r:Nat) (hx:opE l x=some (.val (z05 v k))) (hr:lr res r=some (v,c)) (hf:Foc c k R x' upd)
  (hy:opE l y=some (.rd R y')) (hS:TI P t z R.sz by_):EffS P Γ l res ⟨none,.store t x y,ty,pos,after,g⟩ r (v,upd y'):=fun a w ha=>sto' ha r hx hr hf hy hS
def Ent.ones (e:Ent):Prop:=∀ S w v,e.holds S w v→∀ u∈v.cells.toList,u.oneCell'=true
theorem z9c {α:Type} {R:Rep α} {x:α}:(Ent.rd R x).ones:=fun S w v h=>by
 obtain ⟨cs,h1,rfl⟩:=h;rw [Rep.val_cells h1]; exact R.one h1
theorem z36 {u:Value}:(Ent.val u).ones:=fun S w v h=>by
 obtain ⟨rfl,h⟩:=h;rw [z8y h]; simpa using h
def zb0 (es:List Ent) (k n:Nat) (e:Ent) (es':List Ent):Prop:=∃ pre post e0,es=pre++e0::post∧es'=pre++e::post∧e0.fills n∧∀ S w vs,z3i S w pre vs→(z8u vs).length=k
theorem zb0.here {e e0:Ent} {es:List Ent} {n:Nat} (h:e0.fills n):zb0 (e0::es) 0 n e (e::es):=⟨[],es,e0,rfl,rfl,h, fun S w vs h=>by match vs,h with | [],_=>rfl⟩
theorem zb0.next {e e':Ent} {es es':List Ent} {n k k':Nat} (h:e'.fills k') (p:zb0 es k n e es'):zb0 (e'::es) (k'+k) n e (e'::es'):=by
 obtain ⟨pre,post,e0,rfl,rfl,h1,hk⟩:=p;refine ⟨e'::pre,post,e0,rfl,rfl,h1, fun S w vs hh=>?_⟩
 match vs,hh with
 | u::vs,⟨h1,h2⟩ =>
  have h3:=h S w u h1;rw [z43,List.length_append,hk S w vs h2];simp [h3]
theorem zli (us ts:List Value):z8u (us++ts)=z8u us++z8u ts:=by simp [z8u]
theorem z192 {t T:TypeId} {x y:Operand} {v z:Value} {by_ k n:Nat} {es es':List Ent} {e:Ent} {a:Act} {w:World} (ha:Sta Γ l res a w) (r:Nat) (hx:opE l x=some (.val (z05 v k))) (hr:lr res r=some (v,.box T es)) (hf:zb0 es k n e es')
  (hy:opE l y=some e) (h1e:e.ones) (hn:e.fills n) (hS:TI P t z n by_):∃ w',(execOp a.eval ⟨none,.store t x y,ty,pos,after,g⟩).run P w=.ok .skip w'∧(Sta Γ l ((r,some (v,.box T es'))::res) a w'∧z9q (Shr Γ.H res w) (Shr Γ.H ((r,some (v,.box T es'))::res) w') w w')∧Grew res r w w':=by
 have h1:=(ha.vl hx).1;have hy1:=ha.vl hy;rcases ha.conts r v _ hr with h2 | ⟨b,o,h2,h3,b',vs,rfl,rfl,h4⟩
 ·exact h2.elim
 ·simp only [z58,Option.some.injEq] at h2;subst h2;obtain ⟨pre,post,e0,rfl,rfl,hn0,hk⟩:=hf;obtain ⟨us,ts,rfl,h5,h6⟩:=h4.app
  match ts,h6 with
  | y0::ts,⟨h7,h8⟩ =>
   have hl:=hk _ _ _ h5;rw [zjl] at h1;have hB:Bx w b' (z8u (us++y0::ts)).toArray T:=h3;have hy0:y0.cells.toList.length=n:=by have:=hn0 _ _ _ h7; simpa using this
   have hyn:(a.eval y).cells.size=n:=hn _ _ _ hy1
   have hrun:=zk6 (P:=P) (w:=w) (b:=b') (o:=k) (v:=a.eval y) hS hyn (h1e _ _ _ hy1) hB (by
    subst hl
    simp only [List.size_toArray,zli,z43,List.length_append]; omega)
   have hsp:spl (z8u (us++y0::ts)).toArray k (a.eval y).cells.toList=(z8u (us++a.eval y::ts)).toArray:=by
    subst hl;unfold spl; congr 1
    have:(a.eval y).cells.toList.length=n:=by simpa using hyn
    simp only [zli,z43,this]
    rw [show ∀ A B Cc:List Value,A.length+n=(A++B).length→List.drop (A.length+n) (A++(B++Cc))=Cc by
     intro A B Cc h; rw [h,← List.append_assoc,List.drop_left']; rfl]
    ·simp
    ·simp [hy0]
   refine ⟨w.setRow b' (z8u (us++a.eval y::ts)).toArray,?_,?_,some b',zat b' _, fun b hb=>⟨_,_,hr, by cases hb; rfl⟩⟩
   ·rw [← hsp];simp [execOp,h1,Instr.storeAt,Instr.sureAddr,hrun]
   ·refine ha.upd r (zat b' _) (fun b hb=>⟨_,_,hr, by cases hb; rfl⟩) (fun b hb=>.inl ⟨_,_,hr,hb⟩) (fun S' k'=>.inr ⟨b',_,rfl,setRow_heap w b' _ _ T _ hB,b',us++a.eval y::ts,rfl,rfl,?_⟩);exact (h5.mono k').mk ⟨e.mono k' hy1,h8.mono k'⟩
theorem zwb {t T:TypeId} {x y:Operand} {v z:Value} {by_ k n:Nat} {es es':List Ent} {e:Ent} (r:Nat) (hx:opE l x=some (.val (z05 v k))) (hr:lr res r=some (v,.box T es)) (hf:zb0 es k n e es')
  (hy:opE l y=some e) (h1e:e.ones) (hn:e.fills n) (hS:TI P t z n by_):EffS P Γ l res ⟨none,.store t x y,ty,pos,after,g⟩ r (v,.box T es'):=fun a w ha=>z192 ha r hx hr hf hy h1e hn hS
def Ent.vw {α:Type} (R:Rep α) (v:Value) (b x:List α):Ent:=⟨fun _ _ u=>(u=v∧x=b∧u.oneCell'=true)∨(u=.slice none 0 0∧x=[])∨∃ k o sp cap i,u=.slice (some ⟨k,o,sp⟩) x.length cap∧z58 v=some k∧x.length≤cap∧cap≤maxLen∧(x≠[]→sp=none∧o=i * R.sz)∧(b.drop i).take x.length=x, fun _ h=>h⟩
def Ent.vp {α:Type} (R:Rep α) (v:Value) (b:List α) (y:α):Ent:=⟨fun _ _ u=>∃ k i,u=.pointer (some ⟨k,i * R.sz,none⟩)∧z58 v=some k∧b[i]? = some y, fun _ h=>h⟩
inductive Vw {α:Type} (R:Rep α) (res:Res):Ent→List α→Prop
 | rd {b:List α}:Vw R res (.rd (z03 R) b) b
 | own {v:Value} {T:TypeId} {b:List α} (r:Nat) (h:lr res r=some (v,.list R T b)):Vw R res (.val v) b
 | nil:Vw R res (.val (.slice none 0 0)) []
 | vw {v:Value} {T:TypeId} {b x:List α} (r:Nat) (h:lr res r=some (v,.list R T b)):Vw R res (.vw R v b x) x
 | seg {v:Value} {T:TypeId} {b:List α} (r:Nat) (h:lr res r=some (v,.seg R T b)):Vw R res (.val v) b
theorem Vw.get {α:Type} {R:Rep α} {e:Ent} {b:List α} (h:Vw R res e b) {a:Act} {w:World} (ha:Sta Γ l res a w) {v:Value} (hv:e.holds (Shr Γ.H res w) w v) :
  ∃ p c xs,v=.slice p b.length c∧Rd w (.slice p b.length c) b.length R.sz xs∧z5r R (Shr Γ.H res w) w xs b:=by
 cases h with
 | rd =>
  obtain ⟨cs,⟨p,c,xs,h1,h2,h3,h4⟩,h5⟩:=hv;subst h1;exact ⟨p,c,xs,h5,h2,h3⟩
 | own r h =>
  obtain ⟨rfl,-⟩:=hv;obtain ⟨xs,h1,h2⟩:=z7c (ha.conts r v _ h);obtain ⟨p,c,rfl⟩:=z2l h1;exact ⟨p,c,xs,rfl,Rd.of_own h1,h2⟩
 | nil =>
  obtain ⟨rfl,-⟩:=hv;exact ⟨none,0,[],rfl,Rd.nil _ _,rfl⟩
 | vw r h =>
  rename_i u T bl;rcases hv with ⟨rfl,rfl,-⟩ | ⟨rfl,rfl⟩ | ⟨k,o,sp,cap,i,rfl,hk,h1,h2,h3,h4⟩
  ·obtain ⟨xs,h1,h2⟩:=z7c (ha.conts r _ _ h);obtain ⟨p,c,rfl⟩:=z2l h1;exact ⟨p,c,xs,rfl,Rd.of_own h1,h2⟩
  ·exact ⟨none,0,[],rfl,Rd.nil _ _,rfl⟩
  ·rcases ha.conts r u _ h with ⟨q1,-⟩ | ⟨b',ob,g1,g2,bb,cp,Cc,rfl,rfl,g3,g4,g5,g6⟩
   ·rw [q1] at hk; cases hk
   ·simp only [z58,Option.some.injEq] at g1 hk;subst g1; subst hk;have hrel:=(g6.drop i).take b.length;rw [h4] at hrel;refine ⟨_,cap,_,rfl,⟨hrel.len,.inr ⟨bb,o,sp,cap,rfl,h1,h2,?_, fun j w0 hj=>?_⟩⟩,hrel⟩
    ·by_cases hx:b=[]
     ·left; rw [hx]; simp
     ·exact .inr (h3 hx).1
    ·have hx:b≠[]:=fun e=>by rw [e] at hj; simp at hj
     obtain ⟨-,rfl⟩:=h3 hx;rw [List.getElem?_take] at hj
     split at hj
     ·rw [List.getElem?_drop,List.getElem?_take] at hj
      split at hj
      ·unfold World.cell?;rw [g2]; simpa using hj
      ·cases hj
     ·cases hj
 | seg r h =>
  obtain ⟨rfl,-⟩:=hv;rcases ha.conts r v _ h with ⟨rfl,rfl⟩ | ⟨b',ob,g1,g2,bb,off,cap,C,rfl,rfl,g3,g4,g5,g6⟩
  ·exact ⟨none,0,[],rfl,Rd.nil _ _,rfl⟩
  ·simp only [z58,Option.some.injEq] at g1;subst g1;refine ⟨_,cap,_,rfl,⟨g6.len,.inr ⟨bb,off,none,cap,rfl,g3,g4,.inr rfl, fun j w0 hj=>?_⟩⟩,g6⟩;rw [List.getElem?_take] at hj
   split at hj
   ·unfold World.cell?;rw [g2,List.getElem?_drop] at *
    simpa using hj
   ·cases hj
theorem z4f {α:Type} {R:Rep α} {b:List α} {x:Operand} {T e:TypeId} {at_:Array TypeId} {E:Ent} (hx:opE l x=some E) (hv:Vw R res E b) (hat:at_[0]? = some T) (hT:P.underlying T=some (.slice e)) :
  Run C P Γ l res ⟨some d,.call ⟨.builtin .len,#[x],at_⟩,ty,pos,after,g⟩ (.rd z08 (b.length:Int)):=fun a w ha=>by
 obtain ⟨p,c,xs,h1,h2,h3⟩:=hv.get ha (ha.vl hx);exact ⟨_, fun w' _=>zz8 hat hT h1,z8b⟩
def cut {α:Type} (b:List α) (i j:Int):Option (List α):=if 0≤i∧i≤j∧j≤b.length then some ((b.drop i.toNat).take (j.toNat - i.toNat)) else none
theorem zu7 {α:Type} {b b':List α} {i j:Int} (h:cut b i j=some b'):0≤i∧i≤j∧j≤b.length∧(b.drop i.toNat).take (j.toNat - i.toNat)=b':=by
 unfold cut at h
 split at h
 ·rename_i hh; cases h; exact ⟨hh.1,hh.2.1,hh.2.2,rfl⟩
 ·cases h
inductive Bnd (l:z1p) (dflt:Int):Option Operand→Int→Prop
 | no:Bnd l dflt none dflt
 | to {α:Type} {k:IntKind} {f:α→Int} {x:Operand} {j:α} (h:opE l x=some (.rd (z9b k f) j)):Bnd l dflt (some x) (f j)
theorem Bnd.get {x:Option Operand} {dflt i:Int} (h:Bnd l dflt x i) {a:Act} {w:World} (ha:Sta Γ l res a w):(x=none∧i=dflt)∨∃ y k,x=some y∧a.eval y=.int k i:=by
 cases h with
 | no=>exact .inl ⟨rfl,rfl⟩
 | to h=>exact .inr ⟨_,_,rfl,z4q (ha.vl h)⟩
theorem zcm {isS:Bool} {n cp:Nat} {lo hi:Option Operand} {i j:Int} (hlo:Bnd l 0 lo i) (hhi:Bnd l (n:Int) hi j) {a:Act} {w:World} (ha:Sta Γ l res a w) (h0:0≤i) (hij:i≤j) (hj:j≤n) (hcap:n≤cp) (w':World) :
  (Instr.sliceBounds isS n cp (lo.map a.eval) (hi.map a.eval) none).run P w'=.ok (i.toNat,j.toNat,cp) w':=by
 obtain ⟨i',rfl⟩:∃ i':Nat,i=(i':Int):=⟨i.toNat, by omega⟩
 obtain ⟨j',rfl⟩:∃ j':Nat,j=(j':Int):=⟨j.toNat, by omega⟩
 have e1:¬ ((cp:Int)<(j':Int)):=by omega
 have h1:(j':Int)≤(cp:Int):=by omega
 have h2:j'≤cp:=by omega
 have h3:i'≤j':=by omega
 rcases hlo.get ha with ⟨rfl,hi0⟩ | ⟨y,k,rfl,hy⟩ <;> rcases hhi.get ha with ⟨rfl,hj0⟩ | ⟨y',k',rfl,hy'⟩
 ·have:i'=0:=by omega
  have:j'=n:=by omega
  subst i' j';simp [Instr.sliceBounds]
 ·have:i'=0:=by omega
  subst i';simp [Instr.sliceBounds,hy',Instr.sliceBound,asIntOf,h2]
 ·have:j'=n:=by omega
  subst j';simp [Instr.sliceBounds,hy,Instr.sliceBound,asIntOf,h3]
 ·simp [Instr.sliceBounds,hy,hy',Instr.sliceBound,asIntOf,h2,h3]
theorem cut' {α:Type} {R:Rep α} {b b':List α} {x:Operand} {lo hi:Option Operand} {i j:Int} {T e:TypeId} {z:Value} {by_:Nat} (hx:opE l x=some (.rd (z03 R) b)) (hlo:Bnd l 0 lo i) (hhi:Bnd l (b.length:Int) hi j) (hb:cut b i j=some b')
  (hT:P.underlying T=some (.slice e)) (hE:TI P e z R.sz by_):Run C P Γ l res ⟨some d,.slice T x lo hi none,ty,pos,after,g⟩ (.rd (z03 R) b'):=fun a w ha=>by
 obtain ⟨h1,h2,h3,rfl⟩:=zu7 hb;obtain ⟨cs,⟨p,c,xs,k1,k2,k3,k4⟩,k5⟩:=ha.vl hx;subst k1;have k5:a.eval x=.slice p b.length c:=k5;have hcap:b.length≤c:=by
  rcases k2.2 with ⟨hv,h0⟩ | ⟨_,o,sp,cap,hv,g1,_⟩
  ·omega
  ·simp only [Value.slice.injEq,true_and] at hv; omega
 have hlen:((b.drop i.toNat).take (j.toNat - i.toNat)).length=j.toNat - i.toNat:=by simp; omega
 have hsub:=k2.sub rfl (i:=i.toNat) (j:=j.toNat) (by omega) (by omega);refine ⟨.slice (if c=i.toNat then p else p.map (·.add (i.toNat * R.sz))) ((b.drop i.toNat).take (j.toNat - i.toNat)).length (c - i.toNat), fun w' _=>?_,_,⟨_,_,_,rfl, by rw [hlen]; exact hsub,?_, fun hne bb hbb=>?_⟩,rfl⟩
 ·have hb:=zcm (P:=P) (isS:=true) hlo hhi ha h1 h2 h3 hcap w';rw [hlen];simp only [execOp,Instr.sliceAt,k5,Sem.run_bind,run_underlying hT,Result.andThen,Instr.slice,hb,z3a hE,Sem.run_pure,Option.map_none]
 ·have:=(k3.drop i.toNat).take (j.toNat - i.toNat)
  exact this
 ·refine k4 (fun e0=>hne (by rw [e0]; simp)) bb ?_
  have h7:=z15v (p:=p) (m:=b.length) (cp:=c) (i:=i.toNat) (j:=j.toNat - i.toNat) (k:=c - i.toNat) (sz:=R.sz);rw [zgy,zgy] at h7;rw [← h7]; exact hbb
end
end
section
open Go Go.RowKit
def Zr {α:Type} (R:Rep α) (cs:List Value) (x:α):Prop:=∀ S w,R.rel S w cs x
theorem Zr.num {α:Type} {k:IntKind} {f:α→Int} {x:α} {n:Int} (h:f x=n):Zr (z9b k f) [.int k n] x:=fun _ _=>by subst h; rfl
theorem Zr.bool {b:Bool}:Zr z09 [.bool b] b:=fun _ _=>rfl
theorem Zr.str:Zr z3q [.string ByteArray.empty] []:=fun _ _=>⟨_,rfl,rfl⟩
theorem Zr.slice {α:Type} {R:Rep α}:Zr (z03 R) [.slice none 0 0] []:=fun _ w=>⟨none,0,[],rfl,Rd.nil _ _,rfl, by simp⟩
theorem Zr.unit:Zr zdb [] ():=fun _ _=>rfl
theorem Zr.prod {α β:Type} {R:Rep α} {T:Rep β} {c d cs:List Value} {x:α} {y:β} (h:Zr R c x) (k:Zr T d y) (e:c++d=cs):Zr (z4y R T) cs (x,y):=fun S w=>⟨c,d,e.symm,h S w,k S w⟩
theorem Zr.via {α β:Type} {R:Rep α} {g:β→α} {cs:List Value} {x:β} (h:Zr R cs (g x)):Zr (zjw g R) cs x:=h
theorem Zr.rep {α:Type} {R:Rep α} {c:List Value} {x:α} (h:Zr R c x) (S:Blk) (w:World):∀ n,z5r R S w (List.replicate n c).flatten (List.replicate n x)
 | 0=>rfl
 | n+1=>⟨c,_, by simp [List.replicate_succ],h S w,Zr.rep h S w n⟩
theorem Zr.arr {α:Type} {R:Rep α} {c cs:List Value} {x:α} {n:Nat} (h:Zr R c x) (e:(List.replicate n c).flatten=cs):Zr (z3m n R) cs (Vector.replicate n x):=fun S w=>by
 subst e;show z5r R S w _ (Vector.replicate n x).toList;rw [Vector.toList_replicate]; exact h.rep S w n
def app {α:Type} (by_:Nat) (b c:List α):Option (List α):=if (b.length+c.length) * by_≤140737488355328 then some (b++c) else none
theorem z10y {α:Type} {by_:Nat} {b c d:List α} (h:app by_ b c=some d):(b.length+c.length) * by_≤140737488355328∧b++c=d:=by
 unfold app at h; split at h
 ·cases h; exact ⟨‹_›,rfl⟩
 ·cases h
def mkn {α:Type} (by_:Nat) (x:α) (n:Int):Option (List α):=if 0≤n∧by_ * n.toNat≤281474976710656∧n≤9223372036854775807 then some (List.replicate n.toNat x) else none
theorem zlk {α:Type} {by_:Nat} {x:α} {n:Int} {b:List α} (h:mkn by_ x n=some b):0≤n∧by_ * n.toNat≤281474976710656∧n.toNat≤9223372036854775807∧List.replicate n.toNat x=b:=by
 unfold mkn at h; split at h
 ·rename_i hh; cases h; exact ⟨hh.1,hh.2.1, by omega,rfl⟩
 ·cases h
theorem z5v {p:Option Addr} {n c:Nat}:z58 (.slice p n c)=(Value.slice p n c).ownBlock:=by cases p <;> rfl
theorem zq2 {z:Array Value} {n s:Nat} (hs:z.size=s) (h0:0<s):(madeCells z (n * s)).toList=(List.replicate n z.toList).flatten:=by
 subst hs
 apply List.ext_getElem?
 intro i;have key:∀ (n:Nat) (i:Nat),(List.replicate n z.toList).flatten[i]? = if i<n * z.size then z[i % z.size]? else none:=by
  intro n
  induction n with
  | zero=>intro i; simp
  | succ n ih =>
   intro i;rw [List.replicate_succ,List.flatten_cons,List.getElem?_append];have e:(n+1) * z.size=n * z.size+z.size:=by rw [Nat.add_mul]; omega
   split
   ·rename_i hi;have hi:i<z.size:=by simpa using hi
    rw [if_pos (by omega),Nat.mod_eq_of_lt hi]; simp
   ·rename_i hi;have hi:z.size≤i:=by simpa using hi
    rw [ih];simp only [Array.length_toList];rw [Nat.mod_eq_sub_mod hi];by_cases h:i - z.size<n * z.size
    ·rw [if_pos h,if_pos (by omega)]
    ·rw [if_neg h,if_neg (by omega)]
 rw [key];simp only [madeCells,Array.toList_map,Array.toList_range,List.getElem?_map,List.getElem?_range];by_cases h:i<n * z.size
 ·have hm:=Nat.mod_lt i h0;simp [h,List.getElem?_range h,hm]
 ·simp [h]
section
variable {C:World→World→Prop} {ρ:Type} {P:Program} {Γ:Ctx} {l:z1p} {res:Res} {m:Option ρ} {os rest:List Oper} {N:ρ→Exit→Act→World→Prop}
 {d:Tmp} {ty:TypeId} {pos:String} {after:Array Edge} {g:Option (Nat × Bool)}
theorem app0 {α:Type} {R:Rep α} {b b2 b3:List α} {x y:Operand} {v z:Value} {E:Ent} {T e:TypeId} {by_:Nat} {a:Act} {w:World} (ha:Sta Γ l res a w) (r:Nat) (hx:opE l x=some (.val v)) (hr:lr res r=some (v,.list R e b)) (hy:opE l y=some E) (hv:Vw R res E b2) (hb:app by_ b b2=some b3)
  (hT:P.underlying T=some (.slice e)) (hE:TI P e z R.sz by_) (hz:z.cells.size=R.sz) (h0:Nat.blt 0 R.sz=true) (h1:Nat.blt 0 by_=true) :
  ∃ w' v',(execOp a.eval ⟨some d,.call ⟨.builtin .append,#[x,y],#[T,T]⟩,ty,pos,after,g⟩).run P w=.ok (.value v') w'∧(Sta Γ l ((r,some (v',.list R e b3))::res) a w'∧z9q (Shr Γ.H res w) (Shr Γ.H ((r,some (v',.list R e b3))::res) w') w w')∧v'.oneCell'=true∧Grew res r w w':=by
 have h0:0<R.sz:=Eq.mp Nat.blt_eq h0;have h1:0<by_:=Eq.mp Nat.blt_eq h1;obtain ⟨hby,rfl⟩:=z10y hb;have e1:=(ha.vl hx).1;obtain ⟨q,c2,news,e2,k1,k2⟩:=hv.get ha (ha.vl hy);obtain ⟨xs,k3,k4⟩:=z7c (ha.conts r v _ hr);obtain ⟨p,c,rfl⟩:=z2l k3;have hlen:b.length+b2.length≤140737488355328:=Nat.le_trans (Nat.le_mul_of_pos_right _ h1) hby;obtain ⟨p',c',w',g1,g2,g3,g4⟩:=zf1 (rt:=ty) hT hE hz h0 k3 k1 k2.one (by omega) hby (Nat.zero_le _)
 refine ⟨w',.slice p' (b.length+b2.length) c',?_,?_,rfl,_,g3, fun bb hbb=>⟨_,_,hr, by rw [z5v]; exact hbb⟩⟩
 ·simp [execOp,resolve,invoke,builtin,e1,e2,g1]
 ·refine ha.upd r g3 (fun bb hbb=>⟨_,_,hr, by rw [z5v]; exact hbb⟩) (fun bb hbb=>?_) (fun S' k'=>?_)
  ·rw [z5v] at hbb;rcases g4 bb hbb with h | h
   ·exact .inl ⟨_,_,hr, by rw [z5v]; exact h⟩
   ·exact .inr h
  ·exact zjh (B:=0) (xs:=xs++news) (by rw [List.length_append]; exact g2) ((k4.mono k').append (k2.mono k'))
theorem apn {α:Type} {R:Rep α} {b b2 b3:List α} {x y:Operand} {v z:Value} {E:Ent} {T e:TypeId} {by_:Nat} (r:Nat) (hx:opE l x=some (.val v)) (hr:lr res r=some (v,.list R e b)) (hy:opE l y=some E) (hv:Vw R res E b2) (hb:app by_ b b2=some b3)
  (hT:P.underlying T=some (.slice e)) (hE:TI P e z R.sz by_) (hz:z.cells.size=R.sz) (h0:Nat.blt 0 R.sz=true) (h1:Nat.blt 0 by_=true) :
  Eff P Γ l res ⟨some d,.call ⟨.builtin .append,#[x,y],#[T,T]⟩,ty,pos,after,g⟩ r (fun u=>(u,.list R e b3)):=fun a w ha=>app0 ha r hx hr hy hv hb hT hE hz h0 h1
theorem mk0 {α:Type} {R:Rep α} {x0:α} {b:List α} {x y:Operand} {z:Value} {T e:TypeId} {by_:Nat} {n:Int} {a:Act} {w:World} (ha:Sta Γ l res a w) (r:Nat) (hx:opE l x=some (.rd z08 n)) (hy:opE l y=some (.rd z08 n)) (hb:mkn by_ x0 n=some b)
  (hT:P.underlying T=some (.slice e)) (hE:TI P e z R.sz by_) (hz:Zr R z.cells.toList x0) (h0:Nat.blt 0 R.sz=true) :
  ∃ w' v',(execOp a.eval ⟨some d,.makeSlice T x y,ty,pos,after,g⟩).run P w=.ok (.value v') w'∧(Sta Γ l ((r,some (v',.list R e b))::res) a w'∧z9q (Shr Γ.H res w) (Shr Γ.H ((r,some (v',.list R e b))::res) w') w w')∧v'.oneCell'=true∧Grew res r w w':=by
 have h0:0<R.sz:=Eq.mp Nat.blt_eq h0;obtain ⟨h1,h2,h3,rfl⟩:=zlk hb;obtain ⟨n',rfl⟩:∃ n':Nat,n=(n':Int):=⟨n.toNat, by omega⟩
 simp only [Int.toNat_natCast] at h2 h3 ⊢;obtain ⟨ti,g1,g2,g3,g4⟩:=hE;have hzs:z.cells.size=R.sz:=by rw [← Array.length_toList]; exact R.len (hz (fun _=>True) w)
 obtain ⟨w',hr,ho,hg⟩:=run_make_full (P:=P) w 0 T e ti z R.sz hT g1 g2 g3 .i64 .i64 n' (by rw [g4]; exact h2) (by unfold maxLen; omega) (Nat.zero_le _);refine ⟨w',.slice (some ⟨w.heap.size,0,none⟩) n' n',?_,?_,rfl,_,hg, by simp⟩
 ·have e1:=z4q (ha.vl hx);have e2:=z4q (ha.vl hy);simp only [id] at e1 e2;simp [execOp,e1,e2,hr]
 ·refine ha.upd r hg (by simp) (fun bb hbb=>.inr (by simp [z58] at hbb; omega)) (fun S' k'=>?_);refine zjh (B:=0) (xs:=(madeCells z.cells (n' * R.sz)).toList) (by simpa using ho) ?_;rw [zq2 hzs h0]; exact hz.rep _ _ _
theorem mks {α:Type} {R:Rep α} {x0:α} {b:List α} {x y:Operand} {z:Value} {T e:TypeId} {by_:Nat} {n:Int} (r:Nat) (hx:opE l x=some (.rd z08 n)) (hy:opE l y=some (.rd z08 n)) (hb:mkn by_ x0 n=some b)
  (hT:P.underlying T=some (.slice e)) (hE:TI P e z R.sz by_) (hz:Zr R z.cells.toList x0) (h0:Nat.blt 0 R.sz=true) :
  Eff P Γ l res ⟨some d,.makeSlice T x y,ty,pos,after,g⟩ r (fun u=>(u,.list R e b)):=fun a w ha=>mk0 ha r hx hy hb hT hE hz h0
def RdO {α:Type} (l:z1p) (R:Rep α) (o:Operand) (x:α):Prop:=opE l o=some (.rd R x)∨∃ v,o=.const v∧∀ S w,R.vrel S w v x
theorem RdO.get {α:Type} {R:Rep α} {x:α} {o:Operand} {a:Act} {w:World} (ha:Sta Γ l res a w) (h:RdO l R o x):R.vrel (Shr Γ.H res w) w (a.eval o) x:=by
 rcases h with h | ⟨v,rfl,h⟩
 ·exact ha.vl h
 ·exact h _ _
def RdA {α:Type} (l:z1p) (R:Rep α):List Operand→List α→Prop
 | [],[]=>True
 | o::os,x::xs=>RdO l R o x∧RdA l R os xs
 | _,_=>False
theorem RdA.get {α:Type} {R:Rep α} {a:Act} {w:World} (ha:Sta Γ l res a w):∀ {os:List Operand} {xs:List α},RdA l R os xs→z5r R (Shr Γ.H res w) w (z8u (os.map a.eval)) xs∧os.length=xs.length∧∀ u∈os.map a.eval,u.cells.size=R.sz
 | [],[],_=>⟨rfl,rfl, by simp⟩
 | o::os,x::xs,h=>by
  obtain ⟨h1,h2,h3⟩:=RdA.get ha h.2;obtain ⟨cs,k1,k2⟩:=h.1.get ha;have k3:(a.eval o).cells.toList=cs:=by rw [k2]; exact Rep.val_cells k1
  refine ⟨⟨cs,_, by simp [z43,k3],k1,h1⟩, by simp [h2], fun u hu=>?_⟩;simp only [List.map_cons,List.mem_cons] at hu;rcases hu with rfl | hu
  ·rw [← Array.length_toList,k3,R.len k1]
  ·exact h3 u hu
 | [],_::_,h=>h.elim
 | _::_,[],h=>h.elim
theorem zxd (v:List Value):∀ (C:Array Value) (o j:Nat),o+j+v.length≤C.size→(v.zipIdx j).foldl (fun cs (x:Value × Nat)=>cs.setIfInBounds (o+x.2) x.1) C=spl C (o+j) v:=by
 induction v with
 | nil=>intro C o j h; simp [spl]
 | cons u v ih =>
  intro C o j h;simp only [List.length_cons] at h;simp only [List.zipIdx_cons,List.foldl_cons];rw [ih _ _ _ (by simp; omega)];unfold spl
  congr 1
  have e:C.toList.length=C.size:=by simp
  simp only [Array.toList_setIfInBounds]
  apply List.ext_getElem?
  intro i;simp only [List.getElem?_append,List.length_append,List.length_take,List.length_set,e,List.getElem?_take,List.getElem?_set,List.getElem?_drop,List.length_cons,List.getElem?_cons]
  repeat' split
  all_goals (first | rfl | omega | (congr 1; omega) | skip)
theorem zmw {place:Nat→Option (Nat × Nat)} {C:Array Value} {i o s:Nat} {v:Value} {rest:List (Nat × Value)} (hp:place i=some (o,s)) (hv:v.cells.size=s) (hfit:o+s≤C.size) :
  Instr.fill place C ((i,v)::rest)=Instr.fill place (spl C o v.cells.toList) rest:=by
 subst hv
 have:=zxd v.cells.toList C o 0 (by simpa using hfit)
 simp only [Nat.add_zero] at this;have e2:v.cells.zipIdx.foldl (fun cs (x:Value × Nat)=>cs.setIfInBounds (o+x.2) x.1) C=spl C o v.cells.toList:=by
  rw [← this,← Array.foldl_toList]; simp
 simp only [Instr.fill,hp];rw [if_neg (by simp; omega)];exact congrArg (fun c=>Instr.fill place c rest) e2
theorem zox {sz:Nat}:∀ (vs:List Value) (j:Nat) (C:Array Value),(∀ u∈vs,u.cells.size=sz)→C.size=(j+vs.length) * sz →
  Instr.fill (fun i=>some (i * sz,sz)) C ((vs.zipIdx j).map fun x=>(x.2,x.1))=some (C.toList.take (j * sz)++z8u vs).toArray
 | [],j,C,h,hC=>by
  have h1:C.size=j * sz:=hC;have h2:C.toList.take (j * sz)=C.toList:=List.take_of_length_le (by rw [Array.length_toList]; omega);simp [Instr.fill,z8u,h2]
 | u::vs,j,C,h,hC=>by
  have hu:u.cells.size=sz:=h u (by simp);have e:C.toList.length=C.size:=by simp
  simp only [List.length_cons] at hC;have e3:(j+(vs.length+1)) * sz=j * sz+(sz+vs.length * sz):=by rw [Nat.add_mul,Nat.add_mul]; omega
  simp only [List.zipIdx_cons,List.map_cons];rw [zmw (o:=j * sz) (s:=sz) rfl hu (by omega),zox vs (j+1) _ (fun u hu=>h u (by simp [hu])) ?_]
  ·congr 2
   have hul:u.cells.toList.length=sz:=by simpa using hu
   rw [z43,← List.append_assoc]
   congr 1
   unfold spl;rw [List.take_left'];simp only [List.length_append,List.length_take,e,hul];rw [Nat.min_eq_left (by omega),Nat.add_mul]; omega
  ·unfold spl;have hul:u.cells.toList.length=sz:=by simpa using hu
   simp only [List.size_toArray,List.length_append,List.length_take,List.length_drop,hul,e,hC];rw [show (j+1+vs.length) * sz=j * sz+(sz+vs.length * sz) by rw [Nat.add_mul,Nat.add_mul]; omega];omega
theorem lit0 {α:Type} {R:Rep α} (b:List α) {n:Nat} {xs:List Operand} {parts:Array (Nat × Operand)} {z:Value} {T e:TypeId} {by_:Nat} {a:Act} {w:World} (ha:Sta Γ l res a w) (r:Nat) (hp:parts=(xs.zipIdx.map fun x=>(x.2,x.1)).toArray) (hx:RdA l R xs b) (hl:b.length=n)
  (hT:P.underlying T=some (.slice e)) (hE:TI P e z R.sz by_) (h0:Nat.blt 0 R.sz=true) (hm:Nat.ble (n * R.sz) 16777216=true) :
  ∃ w' v',(execOp a.eval ⟨some d,.buildSlice T n parts,ty,pos,after,g⟩).run P w=.ok (.value v') w'∧(Sta Γ l ((r,some (v',.list R e b))::res) a w'∧z9q (Shr Γ.H res w) (Shr Γ.H ((r,some (v',.list R e b))::res) w') w w')∧v'.oneCell'=true∧Grew res r w w':=by
 have h0:0<R.sz:=Eq.mp Nat.blt_eq h0;have hm:n * R.sz≤16777216:=Nat.le_of_ble_eq_true hm;subst hl;obtain ⟨k1,k2,k3⟩:=RdA.get ha hx;have hc:Instr.fill (fun i=>some (i * R.sz,R.sz)) (zlt z (b.length * R.sz)) ((xs.map a.eval).zipIdx.map fun x=>(x.2,x.1))=some (z8u (xs.map a.eval)).toArray:=by
  have:=zox (xs.map a.eval) 0 (zlt z (b.length * R.sz)) k3 (by simp [zlt,k2])
  simpa using this
 have hev:(parts.map fun (i,x)=>(i,a.eval x)).toList=(xs.map a.eval).zipIdx.map fun x=>(x.2,x.1):=by
  subst hp;simp [List.zipIdx_map]
 have hrun:=zwi (P:=P) (w:=w) (m:=b.length) (vs:=parts.map fun (i,x)=>(i,a.eval x)) hT hE hm (by rw [hev]; exact hc);have hlen:=k1.len;refine ⟨w.alloc (.cells (z8u (xs.map a.eval)).toArray e),.slice (some ⟨w.heap.size,0,none⟩) b.length b.length,?_,?_,rfl,_,zg0 w _, by simp⟩
 ·simp only [execOp,Sem.run_bind,hrun,Result.andThen,Sem.run_pure]
 ·refine ha.upd r (c:=.list R e b) (v:=.slice (some ⟨w.heap.size,0,none⟩) b.length b.length) (zg0 w _) (by simp) (fun bb hbb=>.inr (by simp [z58] at hbb; omega)) (fun S' k'=>?_);refine .inr ⟨w.heap.size,_,rfl,heap_alloc_new _ _,w.heap.size,b.length,_,rfl,rfl,Nat.le_refl _,?_, by simp [hlen],?_⟩
  ·have:b.length≤b.length * R.sz:=Nat.le_mul_of_pos_right _ h0
   unfold maxLen; omega
  ·simp only [];rw [← hlen,List.take_length]; exact k1.mono k'
theorem lits {α:Type} {R:Rep α} (b:List α) {n:Nat} (xs:List Operand) {parts:Array (Nat × Operand)} {z:Value} {T e:TypeId} {by_:Nat} (r:Nat) (hp:parts=(xs.zipIdx.map fun x=>(x.2,x.1)).toArray) (hx:RdA l R xs b) (hl:b.length=n)
  (hT:P.underlying T=some (.slice e)) (hE:TI P e z R.sz by_) (h0:Nat.blt 0 R.sz=true) (hm:Nat.ble (n * R.sz) 16777216=true) :
  Eff P Γ l res ⟨some d,.buildSlice T n parts,ty,pos,after,g⟩ r (fun u=>(u,.list R e b)):=fun a w ha=>lit0 b ha r hp hx hl hT hE h0 hm
theorem Sta.nil {a:Act} {w:World} (ha:Sta Γ l res a w) {α:Type} (R:Rep α) (T:TypeId) (r:Nat):Sta Γ l ((r,some (.slice none 0 0,.list R T []))::res) a w :=
 (ha.upd r (v:=.slice none 0 0) (c:=.list R T []) (wr:=none) Ext.rfl'.gb (by simp) (by simp [z58]) (fun S' k'=>.inl ⟨rfl,rfl⟩)).1
theorem xNil {X:ρ→Act→World→Prop} {α:Type} (R:Rep α) (T:TypeId) (r:Nat) (k:GX X (Sta Γ l ((r,some (.slice none 0 0,.list R T []))::res)) m):GX X (Sta Γ l res) m:=fun a w ha=>k a w (ha.nil R T r)
def FrL (l:z1p) (v:Value):List Nat→Prop
 | []=>True
 | t::ts=>lk l t=some (.val v)∧FrL l v ts
theorem fN {v:Value}:FrL l v []:=trivial
theorem fS {v:Value} {t:Nat} {ts:List Nat} (h:lk l t=some (.val v)) (k:FrL l v ts):FrL l v (t::ts):=⟨h,k⟩
theorem FrL.get {v:Value} {t:Nat}:∀ {ts:List Nat},FrL l v ts→t∈ts→lk l t=some (.val v)
 | t0::ts,h,hm=>by
  rcases List.mem_cons.1 hm with rfl | hm
  ·exact h.1
  ·exact FrL.get h.2 hm
theorem zxf {e:Ent} {t:Nat}:∀ (ts:List Nat),lk (ts.map (fun t=>(t,e))++l) t=if t∈ts then some e else lk l t
 | []=>by simp
 | t0::ts=>by
  rw [List.map_cons,List.cons_append,z2j,zxf ts];by_cases h:t0=t
  ·subst h; simp
  ·simp [h,Ne.symm h]
theorem Sta.frz {a:Act} {w:World} (ha:Sta Γ l res a w) {α:Type} {R:Rep α} {T:TypeId} {b:List α} {v:Value} (r:Nat) (ts:List Nat) (hr:lr res r=some (v,.list R T b)) (ht:FrL l v ts):Sta Γ (ts.map (fun t=>(t,.rd (z03 R) b))++l) ((r,none)::res) a w:=by
 have hst:z9q (Shr Γ.H res w) (Shr Γ.H ((r,none)::res) w) w w:=fun bb hb=>⟨⟨hb.1, fun r' v' c' hr'=>by
  rw [z1a] at hr'
  split at hr'
  ·cases hr'
  ·exact hb.2.1 r' v' c' hr',hb.2.2⟩,rfl⟩
 have hsub:∀ r' v' c',lr ((r,none)::res) r'=some (v',c')→r≠r'∧lr res r'=some (v',c'):=fun r' v' c' hr'=>by
  rw [z1a] at hr'
  split at hr'
  ·cases hr'
  ·exact ⟨‹_›,hr'⟩
 refine ⟨ha.size,ha.defers, fun t' e ht'=>?_, fun r' v' c' hr'=>(ha.conts r' v' c' (hsub _ _ _ hr').2).mono hst (fun _ _=>rfl), fun r1 v1 c1 r2 v2 c2 h1 h2 hne=>ha.excl r1 v1 c1 r2 v2 c2 (hsub _ _ _ h1).2 (hsub _ _ _ h2).2 hne, fun r' v' c' hr'=>ha.own r' v' c' (hsub _ _ _ hr').2,ha.keep,ha.old,ha.hid⟩;rw [zxf] at ht'
 split at ht'
 ·rename_i hh; cases ht'
  obtain ⟨u,h1,rfl,-⟩:=ha.slots t' _ (ht.get hh);obtain ⟨xs,h3,h4⟩:=z7c (ha.conts r u _ hr);obtain ⟨p,c,rfl⟩:=z2l h3;refine ⟨_,h1,_,⟨p,c,xs,rfl,Rd.of_own h3,h4.mono hst, fun hne bb hbb=>?_⟩,rfl⟩;have hbb:z58 (.slice p b.length c)=some bb:=by rw [z5v,zgy]; exact hbb
  refine ⟨(ha.conts r _ _ hr).lt hbb, fun r' v' c' hr' e=>?_, fun hH=>ha.own r _ _ hr bb hbb (ha.hid bb hH)⟩;obtain ⟨k1,k2⟩:=hsub _ _ _ hr';exact ha.excl r _ _ r' v' c' hr k2 k1 bb hbb e
 ·obtain ⟨u,h1,h2⟩:=ha.slots t' e ht';exact ⟨u,h1,e.mono hst h2⟩
theorem xFrz {α:Type} {X:ρ→Act→World→Prop} {R:Rep α} {T:TypeId} {b:List α} {v:Value} (r:Nat) (ts:List Nat) (hr:lr res r=some (v,.list R T b)) (ht:FrL l v ts) (k:GX X (Sta Γ (ts.map (fun t=>(t,.rd (z03 R) b))++l) ((r,none)::res)) m):GX X (Sta Γ l res) m:=fun a w ha=>k a w (ha.frz r ts hr ht)
theorem Sta.rdNil {a:Act} {w:World} (ha:Sta Γ l res a w) {α:Type} (R:Rep α) (t:Nat) (ht:lk l t=some (.val (.slice none 0 0))):Sta Γ ((t,.rd (z03 R) [])::l) res a w:=by
 refine { ha with slots:=fun t' e' ht'=>?_ };rw [z2j] at ht'
 split at ht'
 ·rename_i hh; subst hh; cases ht'
  obtain ⟨u,h1,rfl,-⟩:=ha.slots t _ ht;exact ⟨_,h1,[_],⟨none,0,[],rfl,Rd.nil _ _,rfl, by simp⟩,rfl⟩
 ·exact ha.slots t' e' ht'
theorem z18a {X:ρ→Act→World→Prop} {α:Type} (R:Rep α) (t:Nat) (ht:lk l t=some (.val (.slice none 0 0))) (k:GX X (Sta Γ ((t,.rd (z03 R) [])::l) res) m):GX X (Sta Γ l res) m:=fun a w ha=>k a w (ha.rdNil R t ht)
end
end
section
open Go Go.RowKit
variable {ro:Option Nat}
def iter {σ β:Type} (F:σ→Option (Sum β σ)) (s:σ):Option β:=F s >>= fun x=>match x with
 | .inl b=>some b
 | .inr s'=>iter F s'
 partial_fixpoint
section
variable {ρ σ β τ:Type} {P:Program} {A:Asn} {Q:ρ→Exit→Act→World→Prop}
def zoy (i:Nat) (As:σ→Asn) (M:β→Exit→Act→World→Prop):Sum β σ→Exit→Act→World→Prop
 | .inl b,e,a,w=>e≠.normal∧Exit.inBlock i (M b) e a w
 | .inr s,e,a,w=>e=.normal∧As s a w
theorem z149 {c:Code} {i:Nat} {As:σ→Asn} {M:β→Exit→Act→World→Prop} {F:σ→Option (Sum β σ)} (hb:∀ s,G none P (As s) c (zoy i As M) (F s)) (s:σ) (b:β) (h:iter F s=some b)
  (a:Act) (w:World) (ha:As s a w):(Code.loop c).wp P (Exit.inBlock i (M b)) a w:=by
 have key:∀ s b,iter F s=some b→∀ a w,As s a w→∀ (fr:Frame) (k:List Item) (cs:List Frame),∃ e a' w',Exit.inBlock i (M b) e a' w'∧Arrives P (lone (fr.at a (.code c::.inLoop c::k)) cs w) fr k cs e a' w':=by
  refine iter.partial_correctness F (fun s b=>∀ a w,As s a w→∀ (fr:Frame) (k:List Item) (cs:List Frame),∃ e a' w',Exit.inBlock i (M b) e a' w'∧Arrives P (lone (fr.at a (.code c::.inLoop c::k)) cs w) fr k cs e a' w') ?_;intro it ih s b hs a w ha fr k cs
  cases hF:F s with
  | none=>rw [hF] at hs; cases hs
  | some x =>
   rw [hF] at hs;obtain ⟨e,a₁,w₁,hq,harr⟩:=hb s a w ha x hF fr (.inLoop c::k) cs
   cases x with
   | inr s' =>
    obtain ⟨rfl,hA⟩:=hq;obtain ⟨e₂,a₂,w₂,hq₂,harr₂⟩:=ih s' b hs a₁ w₁ hA fr k cs;exact ⟨e₂,a₂,w₂,hq₂,.of_steps (Steps.trans harr (.one step_inLoop)) harr₂⟩
   | inl b' =>
    have e0:b'=b:=by simpa using hs
    subst e0;obtain ⟨hne,hq⟩:=hq
    cases e with
    | normal=>exact absurd rfl hne
    | exit id=>exact ⟨_,a₁,w₁,hq,.pass (x:=.inLoop c) rfl (fun _ _=>.inl (by simp)) harr⟩
    | goto l=>exact ⟨_,a₁,w₁,hq,.pass (x:=.inLoop c) rfl (fun _ _=>.inl (by simp)) harr⟩
    | ret=>exact ⟨_,a₁,w₁,hq,.pass (x:=.inLoop c) rfl (fun _ _=>.inl (by simp)) harr⟩
    | panic ch=>exact ⟨_,a₁,w₁,hq,.pass (x:=.inLoop c) rfl (fun _ _=>.inl (by simp)) harr⟩
    | outgrown=>exact ⟨_,a₁,w₁,hq,.pass (x:=.inLoop c) rfl (fun _ _=>.inl (by simp)) harr⟩
 intro fr k cs;obtain ⟨e,a',w',hq,harr⟩:=key s b h a w ha fr k cs;exact ⟨e,a',w',hq,.of_steps (.one step_loop) harr⟩
theorem zzc {l:Nat} {c:Code} {i:Nat} {As:σ→Asn} {M:β→Exit→Act→World→Prop} {F:σ→Option (Sum β σ)} (hb:∀ s,G (some l) P (As s) c (zoy i As M) (F s)) (s:σ) (b:β) (h:iter F s=some b) (ho:∀ a w,¬ M b .outgrown a w)
  (a:Act) (w:World) (ha:As s a w):(Code.loop c).wpIn (Fence.wide.inRound l) 0 P (Exit.inBlock i (M b)) a w:=by
 have key:∀ s b,iter F s=some b→(∀ a w,¬ M b .outgrown a w)→∀ a w,As s a w→∀ (fr:Frame) (k:List Item) (cs:List Frame),fr.roundOf=(Fence.wide.inRound l).round→(Fence.wide.inRound l).fn fr.fn→(Fence.wide.inRound l).room (cs.length+1+0) →
   ∃ e a' w',Exit.inBlock i (M b) e a' w'∧ArrivesIn (Machine.fenced P (Fence.wide.inRound l)) P (lone (fr.atR a (.code c::.inLoop c::k)) cs w) fr k cs e a' w':=by
  refine iter.partial_correctness F (fun s b=>(∀ a w,¬ M b .outgrown a w)→∀ a w,As s a w→∀ (fr:Frame) (k:List Item) (cs:List Frame),fr.roundOf=(Fence.wide.inRound l).round→(Fence.wide.inRound l).fn fr.fn→(Fence.wide.inRound l).room (cs.length+1+0)→∃ e a' w',Exit.inBlock i (M b) e a' w'∧ArrivesIn (Machine.fenced P (Fence.wide.inRound l)) P (lone (fr.atR a (.code c::.inLoop c::k)) cs w) fr k cs e a' w') ?_
  intro it ih s b hs ho a w ha fr k cs hro hfn hrm
  cases hF:F s with
  | none=>rw [hF] at hs; cases hs
  | some x =>
   rw [hF] at hs;have hout:∀ a w,¬ zoy i As M x .outgrown a w:=by
    intro a w hq
    cases x with
    | inr s'=>exact absurd hq.1 (by simp)
    | inl b' =>
     have e0:b'=b:=by simpa using hs
     subst e0;exact ho a w hq.2
   obtain ⟨e,a₁,w₁,hq,harr⟩:=hb s a w ha x hF hout fr (.inLoop c::k) cs hro hfn hrm
   cases x with
   | inr s' =>
    obtain ⟨rfl,hA⟩:=hq;obtain ⟨e₂,a₂,w₂,hq₂,harr₂⟩:=ih s' b hs ho a₁ w₁ hA fr k cs hro hfn hrm;exact ⟨e₂,a₂,w₂,hq₂,.of_steps (StepsIn.trans harr (.one (fenced_calm hfn hrm rfl) stepR_inLoop)) harr₂⟩
   | inl b' =>
    have e0:b'=b:=by simpa using hs
    subst e0;obtain ⟨hne,hq⟩:=hq
    cases e with
    | normal=>exact absurd rfl hne
    | exit id=>exact ⟨_,a₁,w₁,hq,.pass (x:=.inLoop c) rfl (fun _ _=>.inl (by simp)) harr⟩
    | goto l=>exact ⟨_,a₁,w₁,hq,.pass (x:=.inLoop c) rfl (fun _ _=>.inl (by simp)) harr⟩
    | ret=>exact ⟨_,a₁,w₁,hq,.pass (x:=.inLoop c) rfl (fun _ _=>.inl (by simp)) harr⟩
    | panic ch=>exact ⟨_,a₁,w₁,hq,.pass (x:=.inLoop c) rfl (fun _ _=>.inl (by simp)) harr⟩
    | outgrown=>exact ⟨_,a₁,w₁,hq,.pass (x:=.inLoop c) rfl (fun _ _=>.inl (by simp)) harr⟩
 intro fr k cs hro hfn hrm;obtain ⟨e,a',w',hq,harr⟩:=key s b h ho a w ha fr k cs hro hfn hrm;exact ⟨e,a',w',hq,.of_steps (.one (fenced_calm hfn hrm rfl) stepR_loop) harr⟩
theorem z29 {c:Code} {i:Nat} (As:σ→Asn) {M:β→Exit→Act→World→Prop} {F:σ→Option (Sum β σ)} {s:σ} (h0:∀ a w,A a w→As s a w) (hb:∀ s,G ro P (As s) c (zoy i As M) (F s)) :
  G ro P A (.block i (.loop c)) M (iter F s):=fun a w ha b h=>by
 cases ro with
 | none=>exact wp_block (z149 hb s b h a w (h0 a w ha))
 | some l=>exact fun ho=>wpIn_block (zzc hb s b h ho a w (h0 a w ha))
theorem z1m {i:Nat} {As:σ→Asn} {M:β→Exit→Act→World→Prop} {s:σ} (h:∀ a w,A a w→As s a w):GE A .normal (zoy i As M) (some (.inr s)):=fun a w ha r hr=>by
 cases hr; exact ⟨rfl,h a w ha⟩
theorem z14 {i:Nat} {As:σ→Asn} {M:β→Exit→Act→World→Prop} {b:β} (h:GE A .normal M (some b)):GE A (.exit i) (zoy i As M) (some (.inl b)):=fun a w ha r hr=>by
 cases hr; exact ⟨by simp, by have:=h a w ha b rfl; simp [Exit.inBlock,this]⟩
theorem z8c {i:Nat} {As:σ→Asn} {M:β→Exit→Act→World→Prop} {b:β} (h:GE A .ret M (some b)):GE A .ret (zoy i As M) (some (.inl b)):=fun a w ha r hr=>by
 cases hr; exact ⟨by simp,h a w ha b rfl⟩
def midQ (Bs:τ→Asn):τ→Exit→Act→World→Prop:=fun t e a w=>e=.normal∧Bs t a w
def midR (Bs:τ→Asn) (Q:ρ→Exit→Act→World→Prop):Sum ρ τ→Exit→Act→World→Prop
 | .inl r,e,a,w=>e≠.normal∧Q r e a w
 | .inr t,e,a,w=>e=.normal∧Bs t a w
theorem z7r {x y:Code} (Bs:τ→Asn) {m:Option τ} {k:τ→Option ρ} (hx:G ro P A x (midQ Bs) m) (hy:∀ t,G ro P (Bs t) y Q (k t)):G ro P A (.seq x y) Q (m >>= k):=fun a w ha r hr=>by
 cases hm:m with
 | none=>rw [hm] at hr; cases hr
 | some t =>
  rw [hm] at hr;refine zsh (zlg (fun e a w h=>?_) (hx a w ha t hm));obtain ⟨rfl,h⟩:=h;exact hy t a w h r hr
def z67 (m:Option (Sum ρ τ)) (k:τ→Option ρ):Option ρ:=m >>= fun s=>match s with
 | .inl r=>some r
 | .inr t=>k t
theorem z8i {x y:Code} (Bs:τ→Asn) {m:Option (Sum ρ τ)} {k:τ→Option ρ} (hx:G ro P A x (midR Bs Q) m) (hy:∀ t,G ro P (Bs t) y Q (k t)) :
  G ro P A (.seq x y) Q (z67 m k):=fun a w ha r hr=>by
 unfold z67 at hr
 cases hm:m with
 | none=>rw [hm] at hr; cases hr
 | some s =>
  rw [hm] at hr;refine zsh (zlg (fun e a w h=>?_) (hx a w ha s hm))
  cases s with
  | inl r' =>
   have e0:r'=r:=by simpa using hr
   subst e0;obtain ⟨hne,h⟩:=h
   cases e <;> first | exact absurd rfl hne | exact h
  | inr t =>
   obtain ⟨rfl,h⟩:=h;exact hy t a w h r hr
theorem z3p {Bs:τ→Asn} {t:τ} (h:∀ a w,A a w→Bs t a w):GE A .normal (midQ Bs) (some t):=fun a w ha r hr=>by cases hr; exact ⟨rfl,h a w ha⟩
theorem z6x {Bs:τ→Asn} {t:τ} (h:∀ a w,A a w→Bs t a w):GE A .normal (midR Bs Q) (some (.inr t)):=fun a w ha r hr=>by cases hr; exact ⟨rfl,h a w ha⟩
theorem z5n {Bs:τ→Asn} {r:ρ} (h:GE A .ret Q (some r)):GE A .ret (midR Bs Q) (some (.inl r)):=fun a w ha r' hr=>by cases hr; exact ⟨by simp,h a w ha r rfl⟩
end
def ztl (l:z1p):z1p→Prop
 | []=>True
 | (t,e)::l'=>lk l t=some e∧ztl l l'
theorem ztl.get {l:z1p}:∀ {l':z1p} {t:Nat} {e:Ent},ztl l l'→lk l' t=some e→lk l t=some e
 | [],t,e,_,h=>by cases h
 | (t',e')::l',t,e,hs,h=>by
  rw [z2j] at h
  split at h
  ·rename_i hh; subst hh; cases h; exact hs.1
  ·exact ztl.get hs.2 h
def zby (res:Res):Res→List Nat→Prop
 | [],[]=>True
 | (_,x)::res',n::ns=>(∃ y,x=some y∧lr res n=some y)∧ns.contains n=false∧zby res res' ns
 | _,_=>False
theorem zby.get {res:Res}:∀ {res':Res} {ns:List Nat} {r:Nat} {v:Value} {c:z4l},zby res res' ns→lr res' r=some (v,c)→∃ n∈ns,lr res n=some (v,c)
 | [],[],_,_,_,_,h=>by cases h
 | (r',x)::res',n::ns,r,v,c,hs,h=>by
  rw [z1a] at h;obtain ⟨⟨y,rfl,h1⟩,h2,h3⟩:=hs
  split at h
  ·cases h; exact ⟨n, by simp,h1⟩
  ·obtain ⟨n',h4,h5⟩:=zby.get h3 h; exact ⟨n', by simp [h4],h5⟩
 | [],_::_,_,_,_,hs,_=>hs.elim
 | _::_,[],_,_,_,hs,_=>hs.elim
theorem zby.get2 {res:Res}:∀ {res':Res} {ns:List Nat} {r r2:Nat} {x x2:Value × z4l},zby res res' ns→lr res' r=some x→lr res' r2=some x2→r≠r2→∃ n n2,n≠n2∧lr res n=some x∧lr res n2=some x2
 | [],[],_,_,_,_,_,h,_,_=>by cases h
 | (r',y)::res',n::ns,r,r2,x,x2,hs,h,h',hne=>by
  rw [z1a] at h h';obtain ⟨⟨y,rfl,h1⟩,h2,h3⟩:=hs;have hn:∀ n',n'∈ns→n≠n':=fun n' hn' e=>by subst e; simp at h2; exact h2 hn'
  split at h
  ·rename_i e1; subst e1; cases h
   rw [if_neg hne] at h';obtain ⟨v2,c2⟩:=x2;obtain ⟨n',h4,h5⟩:=zby.get h3 h';exact ⟨n,n',hn n' h4,h1,h5⟩
  ·split at h'
   ·cases h'
    obtain ⟨v,c⟩:=x;obtain ⟨n',h4,h5⟩:=zby.get h3 h;exact ⟨n',n, fun e=>hn n' h4 e.symm,h5,h1⟩
   ·exact zby.get2 h3 h h' hne
 | [],_::_,_,_,_,_,hs,_,_,_=>hs.elim
 | _::_,[],_,_,_,_,hs,_,_,_=>hs.elim
section
variable {P:Program} {Γ:Ctx} {l l':z1p} {res res':Res} {a:Act} {w:World}
theorem zby.stay {H:Blk} {ns:List Nat} (h:zby res res' ns):z9q (Shr H res w) (Shr H res' w) w w:=fun b hb =>
 ⟨⟨hb.1, fun r v c hr=>by obtain ⟨n,_,h1⟩:=h.get hr; exact hb.2.1 n v c h1,hb.2.2⟩,rfl⟩
theorem Sta.sub (ha:Sta Γ l res a w) (ns:List Nat) (hs:ztl l l') (hr:zby res res' ns):Sta Γ l' res' a w where
 size:=ha.size
 defers:=ha.defers
 slots t e ht:=by obtain ⟨v,h1,h2⟩:=ha.slots t e (hs.get ht); exact ⟨v,h1,e.mono hr.stay h2⟩
 conts r v c h:=by obtain ⟨n,_,h1⟩:=hr.get h; exact (ha.conts n v c h1).mono hr.stay (fun _ _=>rfl)
 excl r v c r' v' c' h h' hne:=by obtain ⟨n,n2,h1,h2,h3⟩:=hr.get2 h h' hne; exact ha.excl n v c n2 v' c' h2 h3 h1
 own r v c h:=by obtain ⟨n,_,h1⟩:=hr.get h; exact ha.own n v c h1
 keep:=ha.keep
 old:=ha.old
 hid:=ha.hid
end
structure zn0 where
 ret:List Ent
 res:Res
def Bof (res:Res) (b:Nat):Prop:=∃ r v c,lr res r=some (v,c)∧z58 v=some b
structure znk (H:Blk) (res:Res) (w:World):Prop where
 conts:∀ r v c,lr res r=some (v,c)→c.holds (Shr H res w) w v
 excl:∀ r v c r' v' c',lr res r=some (v,c)→lr res r'=some (v',c')→r≠r'→∀ b,z58 v=some b→z58 v'≠some b
 hid:∀ b,H b→b<w.heap.size∧¬ Bof res b
structure z13p (H:Blk) (rin:Res) (q:zn0) (w w':World) (vs:List Value):Prop where
 ret:z3i (Shr H q.res w') w' q.ret vs
 conts:∀ r v c,lr q.res r=some (v,c)→c.holds (Shr H q.res w') w' v
 excl:∀ r v c r' v' c',lr q.res r=some (v,c)→lr q.res r'=some (v',c')→r≠r'→∀ b,z58 v=some b→z58 v'≠some b
 own:∀ r v c,lr q.res r=some (v,c)→∀ b,z58 v=some b→w.heap.size≤b∨Bof rin b
 keep:zl0 (fun b=>b<w.heap.size∧¬ Bof rin b) w w'
def endR (H:Blk) (rin:Res) (q:(Nat→Value)→zn0) (w:World):Ending→World→Prop:=fun e w'=>∃ nv vs,e=.returned (retv vs)∧z13p H rin (q nv) w w' vs
def z1u {ρ:Type} (P:Program) (f:FuncId) (pin:List Ent) (rin:Res) (m:Option ρ) (q:ρ→(Nat→Value)→zn0):Prop :=
 ∀ r,m=some r→∀ (H:Blk) (vs:List Value) (w:World),z3i (Shr H rin w) w pin vs→znk H rin w→Calls P f vs.toArray w (endR H rin (q r) w)
def argS:Nat→List Ent→z1p
 | _,[]=>[]
 | i,e::es=>(i,e)::argS (i+1) es
theorem zv4 {S:Blk} {w:World}:∀ {es:List Ent} {vs:List Value} {i t:Nat} {e:Ent},z3i S w es vs→lk (argS i es) t=some e→i≤t∧∃ v,vs[t - i]? = some v∧e.holds S w v
 | [],_,i,t,e,_,h=>by cases h
 | e0::es,v::vs,i,t,e,hh,h=>by
  simp only [argS] at h;rw [z2j] at h
  split at h
  ·rename_i ht; subst ht; cases h; exact ⟨Nat.le_refl _,v, by simp,hh.1⟩
  ·obtain ⟨h1,u,h2,h3⟩:=zv4 hh.2 h;refine ⟨by omega,u,?_,h3⟩;rw [show t - i=(t - (i+1))+1 by omega]; simpa using h2
 | _::_,[],_,_,_,hh,_=>hh.elim
theorem z3i.length {S:Blk} {w:World}:∀ {es:List Ent} {vs:List Value},z3i S w es vs→es.length=vs.length
 | [],[],_=>rfl
 | _::_,_::_,h=>by simp [z3i.length h.2]
 | [],_::_,h=>h.elim
 | _::_,[],h=>h.elim
def endQ {ρ:Type} (P:Program) (fn:Func) (H:Blk) (rin:Res) (q:ρ→(Nat→Value)→zn0) (w:World):ρ→Exit→Act→World→Prop:=fun r=>bodyPost P fn (endR H rin (q r) w)
abbrev ctx (n:Nat) (H:Blk) (rin:Res) (w:World):Ctx:=⟨n, fun b=>b<w.heap.size∧¬ Bof rin b,H,w,[]⟩
theorem z2f {ρ:Type} {P:Program} {f:FuncId} {fn:Func} {c:Code} {pin:List Ent} {rin:Res} {m:Option ρ} {q:ρ→(Nat→Value)→zn0} (n:Nat) (hf:P.funcs[f]? = some fn) (hb:fn.body=some c) (hn:fn.ntmps=n) (hl:Nat.ble pin.length n=true)
  (h:∀ H w,G none P (Sta (ctx n H rin w) (argS 0 pin) rin) c (endQ P fn H rin q w) m):z1u P f pin rin m q:=by
 intro r hr H vs w hvs hR;have hl:pin.length≤n:=Nat.le_of_ble_eq_true hl;have hlen:=hvs.length;subst hn;refine calls_of_wp hf hb (h H w _ w ?_ r hr);refine ⟨by simp; omega,rfl, fun t e ht=>?_,hR.conts,hR.excl, fun r v c h1 b h2 h3=>h3.2 ⟨r,v,c,h1,h2⟩,zl0.rfl', fun b hb=>hb.1, fun b hb=>hR.hid b hb⟩;obtain ⟨-,v,h1,h2⟩:=zv4 hvs ht;refine ⟨v,?_,h2⟩;simp only [Nat.sub_zero] at h1;have hlt:t<vs.length:=(List.getElem?_eq_some_iff.1 h1).1
 rw [Array.getElem?_append_left (by simpa using hlt)]
 simpa using h1
def z196 (n:Nat):Rep { cs:List Value // cs.length=n∧∀ u∈cs,u.oneCell'=true } where
 sz:=n
 agg:=true
 rel _ _ cs x:=cs=x.1
 len {_ _ _ x} h:=by rw [h]; exact x.2.1
 one {_ _ _ x} h:=by rw [h]; exact x.2.2
 scal h:=by cases h
 mono _ h:=h
def AggE (e:Ent) (n:Nat):Prop:=∀ S w v,e.holds S w v→∃ cs:List Value,v=.agg cs.toArray∧cs.length=n∧∀ u∈cs,u.oneCell'=true
def zvl (P:Program) (l:z1p) (res:Res):List ResultVar→List Ent→Prop
 | [],[]=>True
 | .tmp t::rs,e::es=>lk l t=some e∧zvl P l res rs es
 | .cell t T::rs,e::es=>(∃ r v T',lk l t=some (.val (z05 v 0))∧lr res r=some (v,.box T' [e])∧((∃ (α:Type) (R:Rep α) (x:α),e=.rd R x∧zbt P T R.agg R.sz)∨(∃ u,e=.val u∧Sc P T)∨∃ n,AggE e n∧zbt P T true n))∧zvl P l res rs es
 | _,_=>False
def flA (a:Act):List (Nat × Value):=(List.range a.tmps.size).map fun t=>(t,a.tmps.getD t undef)
theorem zp8 (g:Nat→Value):∀ (l:List Nat) (t:Nat),zq4 (l.map fun t=>(t,g t)) t=if t∈l then some (g t) else none
 | [],t=>by simp [zq4]
 | k::l,t=>by
  simp only [List.map_cons,zq4]
  cases hb:Nat.beq k t with
  | true=>have:=Nat.eq_of_beq_eq_true hb; subst this; simp
  | false =>
   have:=Nat.ne_of_beq_eq_false hb
   simp [zp8 g l t,Ne.symm this]
theorem ztx {a:Act} {t:Nat} {v:Value} (h:a.tmps[t]? = some v):zq4 (flA a) t=some v:=by
 have h1:t<a.tmps.size:=(Array.getElem?_eq_some_iff.1 h).1;unfold flA;rw [zp8,if_pos (by simpa using h1)];simp [Array.getD_eq_getD_getElem?,h]
theorem Sta.frmA {Γ:Ctx} {l:z1p} {res:Res} {a:Act} {w:World} (ha:Sta Γ l res a w):Frm Γ.n (flA a) { a with defers:=[] }:=⟨ha.size,rfl, fun t v h=>by
 unfold flA at h;rw [zp8] at h
 split at h
 ·rename_i hh;have h1:t<a.tmps.size:=by simpa using hh
  simp only [Option.some.injEq] at h;rw [← h,Array.getD_eq_getD_getElem?,Array.getElem?_eq_getElem h1]; rfl
 ·cases h⟩
theorem zvl.get {P:Program} {Γ:Ctx} {l:z1p} {res:Res} {a:Act} {w:World} (ha:Sta Γ l res a w):∀ {rs:List ResultVar} {es:List Ent},zvl P l res rs es→∃ vs,z10j P w (flA a) rs vs∧z3i (Shr Γ.H res w) w es vs
 | [],[],_=>⟨[],trivial,trivial⟩
 | .tmp t::rs,e::es,h=>by
  obtain ⟨vs,h2,h3⟩:=zvl.get ha h.2;obtain ⟨v,k1,k2⟩:=ha.slots t e h.1;exact ⟨v::vs,⟨ztx k1,h2⟩,k2,h3⟩
 | .cell t T::rs,e::es,h=>by
  obtain ⟨vs,h2,h3⟩:=zvl.get ha h.2;obtain ⟨r,v,T',g1,g2,g3⟩:=h.1;obtain ⟨v',k1,e0,-⟩:=ha.slots t _ g1;rcases ha.conts r v _ g2 with h4 | ⟨b,o,h4,h5,b',us,rfl,rfl,h6⟩
  ·exact h4.elim
  ·simp only [z58,Option.some.injEq] at h4;subst h4
   match us,h6 with
   | [u],⟨h7,_⟩ =>
    refine ⟨u::vs,⟨⟨⟨b',0,none⟩,ztx (by rw [k1,e0]; rfl),?_⟩,h2⟩,h7,h3⟩;rcases g3 with ⟨α,R,x,rfl,hT⟩ | ⟨u',rfl,hT⟩ | ⟨n,g4,hT⟩
    rotate_right
    ·obtain ⟨cs,rfl,q1,q2⟩:=g4 _ _ _ h7;exact Bx.load (R:=z196 n) (x:=⟨cs,q1,q2⟩) (S:=fun _=>True) (a:=[]) (cs:=cs) (dd:=[]) h5 (by simp [z8u,Value.cells]) rfl hT
    ·obtain ⟨cs,q1,rfl⟩:=h7;exact Bx.load (a:=[]) (dd:=[]) h5 (by simp [z8u,Rep.val_cells q1]) q1 hT
    ·obtain ⟨rfl,q1⟩:=h7;have hB:Bx w b' (z8u [u]).toArray T':=h5;exact zil hT (hB.cell' (by simp [z8u,z8y q1]))
 | [],_::_,h=>h.elim
 | .tmp _::_,[],h=>h.elim
 | .cell _ _::_,[],h=>h.elim
def nvl (vs:List Value) (i:Nat):Value:=vs.getD i undef
theorem zaz {ρ:Type} {P:Program} {fn:Func} {n:Nat} {H:Blk} {rin:Res} {w0:World} {q:ρ→(Nat→Value)→zn0} {r:ρ} {l:z1p} {res:Res} {rs:List ResultVar} (vs:List Value) (ns:List Nat) (hr:fn.results=rs.toArray) (h:zvl P l res rs (q r (nvl vs)).ret) (hs:zby res (q r (nvl vs)).res ns) :
  GE (Sta (ctx n H rin w0) l res) .ret (endQ P fn H rin q w0) (some r):=fun a w ha r' hr'=>by
 cases hr'
 obtain ⟨us,h1,h2⟩:=h.get ha;refine bodyPost_ret (zsz (a:={ a with defers:=[] }) ha.frmA hr h1) ha.defers ⟨nvl vs,us,rfl,?_⟩;have hk:∀ b,(ctx n H rin w0).K b↔b<w0.heap.size∧¬ Bof rin b:=fun b=>Iff.rfl;refine ⟨h2.mono hs.stay, fun r v c h=>by obtain ⟨n,_,h1⟩:=hs.get h; exact (ha.conts n v c h1).mono hs.stay (fun _ _=>rfl), fun r v c r' v' c' h h' hne=>by obtain ⟨n,n2,h1,h2,h3⟩:=hs.get2 h h' hne; exact ha.excl n v c n2 v' c' h2 h3 h1, fun r v c h b hb=>?_,ha.keep⟩
 obtain ⟨n',_,h1⟩:=hs.get h
 have:=ha.own n' v c h1 b hb
 rw [hk] at this;by_cases h3:b<w0.heap.size
 ·exact .inr (Classical.byContradiction fun h4=>this ⟨h3,h4⟩)
 ·exact .inl (by omega)
end
section
open Go Go.RowKit
def Bld {β:Type} (l:z1p) (place:Nat→Option (Nat × Nat)) (R:Rep β):List (Nat × Operand)→β→β→Prop
 | [],x,x'=>x=x'
 | (i,o)::ps,x,x'=>∃ (α:Type) (T:Rep α) (y0 y:α) (off:Nat) (set:α→β),opE l o=some (.rd T y)∧z4d R x off T y0 set∧place i=some (off,T.sz)∧Bld l place R ps (set y) x'
theorem Bld.cons {α β:Type} {l:z1p} {place:Nat→Option (Nat × Nat)} {R:Rep β} {i:Nat} {o:Operand} {ps:List (Nat × Operand)} {x x':β} {T:Rep α} {y0 y:α} {off:Nat} {set:α→β}
  (p:z4d R x off T y0 set) (h:opE l o=some (.rd T y)) (hp:place i=some (off,T.sz)) (k:Bld l place R ps (set y) x'):Bld l place R ((i,o)::ps) x x':=⟨α,T,y0,y,off,set,h,p,hp,k⟩
theorem Bld.get {β:Type} {Γ:Ctx} {l:z1p} {res:Res} {a:Act} {w:World} (ha:Sta Γ l res a w) {place:Nat→Option (Nat × Nat)} {R:Rep β}:∀ {ps:List (Nat × Operand)} {x x':β} {C:Array Value},Bld l place R ps x x'→R.rel (Shr Γ.H res w) w C.toList x →
  ∃ C',Instr.fill place C (ps.map fun p=>(p.1,a.eval p.2))=some C'∧R.rel (Shr Γ.H res w) w C'.toList x'
 | [],x,x',C,h,hr=>by have h:x=x':=h; subst h; exact ⟨C,rfl,hr⟩
 | (i,o)::ps,x,x',C,h,hr=>by
  obtain ⟨α,T,y0,y,off,set,h1,h2,h3,h4⟩:=h;obtain ⟨cs,k1,k2⟩:=ha.vl h1;obtain ⟨a',c,d,g1,g2,g3,g4⟩:=h2 _ w _ hr;have hv:(a.eval o).cells.toList=cs:=by rw [k2]; exact Rep.val_cells k1
  have hvs:(a.eval o).cells.size=T.sz:=by rw [← Array.length_toList,hv,T.len k1]
  have hsz:C.size=a'.length+T.sz+d.length:=by
   have:C.toList.length=C.size:=by simp
   rw [← this,g1]; simp [T.len g3]; omega
  have hsp:spl C off (a.eval o).cells.toList=(a'++cs++d).toArray:=by
   rw [hv]; unfold spl; rw [g1,← g2]; congr 1
   have:cs.length=c.length:=by rw [T.len k1,T.len g3]
   simp [this]
  have:=Bld.get ha (C:=(a'++cs++d).toArray) h4 (g4 _ w cs y z9q.rfl' k1)
  obtain ⟨C',q1,q2⟩:=this;refine ⟨C',?_,q2⟩;simp only [List.map_cons];rw [zmw h3 hvs (by omega),hsp]; exact q1
theorem zkf {P:Program} {w:World}:∀ (fs:List Field) (pl:List (Nat × Nat)),fs.map (fun f=>(f.offset,(P.info? f.type).map (·.size)))=pl.map (fun p=>(p.1,some p.2)) →
  (fs.mapM (m:=Sem) fun f=>do pure (f.offset,← sizeOf f.type)).run P w=.ok pl w
 | [],[],_=>rfl
 | f::fs,p::pl,h=>by
  simp only [List.map_cons,List.cons.injEq,Prod.mk.injEq] at h;obtain ⟨⟨h1,h2⟩,h3⟩:=h;have hs:(sizeOf f.type).run P w=.ok p.2 w:=by
   cases hi:P.info? f.type with
   | none=>rw [hi] at h2; cases h2
   | some i =>
    rw [hi] at h2;simp only [Option.map_some,Option.some.injEq] at h2;simp [sizeOf,typeInfo,program,hi,h2,pure,bind,Sem.bind,Sem.run]
  simp only [List.mapM_cons,Sem.run_bind,hs,Result.andThen,Sem.run_pure,zkf fs pl h3,h1]
 | [],_::_,h=>by cases h
 | _::_,[],h=>by cases h
section
variable {C:World→World→Prop} {ρ:Type} {P:Program} {Γ:Ctx} {l:z1p} {res:Res} {m:Option ρ} {os rest:List Oper} {N:ρ→Exit→Act→World→Prop}
 {d:Tmp} {ty:TypeId} {pos:String} {after:Array Edge} {g:Option (Nat × Bool)}
theorem bld {β:Type} {R:Rep β} {x0 x':β} {T:TypeId} {z:Value} {sz by_:Nat} {parts:Array (Nat × Operand)} {fs:Array Field} (pl:List (Nat × Nat)) (hT:P.underlying T=some (.struct fs)) (hI:TI P T z sz by_) (hag:R.agg=true) (hz:Zr R z.cells.toList x0)
  (hp:fs.toList.map (fun f=>(f.offset,(P.info? f.type).map (·.size)))=pl.map (fun p=>(p.1,some p.2))) (h:Bld l (fun i:Nat=>pl[i]?) R parts.toList x0 x'):Run C P Γ l res ⟨some d,.build T parts,ty,pos,after,g⟩ (.rd R x'):=fun a w ha=>by
 obtain ⟨C',h1,h2⟩:=h.get ha (hz _ w);refine ⟨.agg C', fun w' _=>zlm rfl ?_,C'.toList,h2, by simp [Rep.val,hag]⟩;have e1:(fs.mapM (m:=Sem) fun f=>do pure (f.offset,← sizeOf f.type)).run P w'=.ok pl.toArray w':=by
  rw [← Array.toArray_toList (xs:=fs),List.mapM_toArray];simp only [map_eq_pure_bind,Sem.run_bind,zkf fs.toList pl hp,Result.andThen,Sem.run_pure]
 have e2:(parts.map fun (i,x)=>(i,a.eval x)).toList=parts.toList.map fun p=>(p.1,a.eval p.2):=by simp
 unfold Instr.build;simp only [Sem.run_bind,zdr hI,Result.andThen,run_underlying hT,e1,e2];have e3:(fun i:Nat=>pl.toArray[i]?)=fun i:Nat=>pl[i]? := by funext i; simp
 rw [e3,h1]; rfl
theorem bldA {α:Type} {R:Rep α} {n:Nat} (b:List α) (v:Vector α n) (xs:List Operand) {T e:TypeId} {z:Value} {sz by_ by2:Nat} {ze:Value} {parts:Array (Nat × Operand)} (hT:P.underlying T=some (.array n e)) (hI:TI P T z sz by_) (hzs:z.cells.size=n * R.sz) (hE:TI P e ze R.sz by2) (hp:parts=(xs.zipIdx.map fun x=>(x.2,x.1)).toArray) (hx:RdA l R xs b) (hv:v.toList=b) :
  Run C P Γ l res ⟨some d,.build T parts,ty,pos,after,g⟩ (.rd (z3m n R) v):=fun a w ha=>by
 obtain ⟨k1,k2,k3⟩:=RdA.get ha hx;have hbn:b.length=n:=by rw [← hv]; simp
 have hc:Instr.fill (fun i=>some (i * R.sz,R.sz)) z.cells ((xs.map a.eval).zipIdx.map fun x=>(x.2,x.1))=some (z8u (xs.map a.eval)).toArray:=by
  have:=zox (sz:=R.sz) (xs.map a.eval) 0 z.cells k3 (by simp [hzs,k2,hbn])
  simpa using this
 have hev:(parts.map fun (i,x)=>(i,a.eval x)).toList=(xs.map a.eval).zipIdx.map fun x=>(x.2,x.1):=by
  subst hp;simp [List.zipIdx_map]
 refine ⟨.agg (z8u (xs.map a.eval)).toArray, fun w' _=>zlm rfl ?_,z8u (xs.map a.eval), by rw [← hv] at k1; exact k1,rfl⟩;unfold Instr.build;simp only [Sem.run_bind,zdr hI,Result.andThen,run_underlying hT,z3a hE,hev,hc];rfl
def zks:List Ent→Ent
 | [e]=>e
 | es=>.tup es
theorem zvr {S:Blk} {w:World} {es:List Ent} {vs:List Value} (h:z3i S w es vs):(zks es).holds S w (retv vs):=by
 match es,vs,h with
 | [],[],_=>exact ⟨[],trivial,rfl⟩
 | [e],[v],h=>exact h.1
 | e::e2::es,v::v2::vs,h=>exact ⟨v::v2::vs,h,rfl⟩
 | [],_::_,h=>exact h.elim
 | _::_,[],h=>exact h.elim
 | [_],_::_::_,h=>exact h.2.elim
 | _::_::_,[_],h=>exact h.2.elim
def nm (mp:List (Nat × Nat)) (k:Nat):Nat:=(lk mp k).getD k
def aft (ns:List Nat) (mp:List (Nat × Nat)) (q res:Res):Res:=(q.map fun x=>(nm mp x.1,x.2))++(ns.map fun n=>(n,none))++res
theorem zdq {α:Type}:∀ {l l':List (Nat × α)} {t:Nat},lk (l++l') t=(lk l t).or (lk l' t)
 | [],l',t=>by simp [lk]
 | (k,v)::l,l',t=>by
  rw [List.cons_append,z2j,z2j]
  split
  ·rfl
  ·exact zdq
theorem z14y {ns:List Nat} {t:Nat}:lk (ns.map fun n=>(n,(none:Option (Value × z4l)))) t=if ns.contains t then some none else none:=by
 induction ns with
 | nil=>rfl
 | cons n ns ih =>
  rw [List.map_cons,z2j,ih];by_cases h:n=t
  ·subst h; simp
  ·simp [h,Ne.symm h]
theorem z139 {mp:List (Nat × Nat)} {k:Nat} {y:Option (Value × z4l)}:∀ {q:Res},lk (q.map fun x=>(nm mp x.1,x.2)) k=some y→∃ k',nm mp k'=k∧lk q k'=some y
 | [],h=>by cases h
 | (k0,y0)::q,h=>by
  rw [List.map_cons,z2j] at h
  split at h
  ·rename_i hk; cases h; exact ⟨k0,hk, by rw [z2j,if_pos rfl]⟩
  ·rename_i hk;obtain ⟨k',h1,h2⟩:=z139 h;refine ⟨k',h1,?_⟩;rw [z2j,if_neg (fun e=>hk (by rw [e]; exact h1))]; exact h2
theorem zj6 {ns:List Nat} {mp:List (Nat × Nat)} {q:Res} {k:Nat} {v:Value} {c:z4l} (h:lr (aft ns mp q res) k=some (v,c)) :
  (∃ k',nm mp k'=k∧lr q k'=some (v,c))∨(ns.contains k=false∧lr res k=some (v,c)):=by
 unfold lr aft at h;rw [zdq,zdq,z14y] at h
 cases hq:lk (q.map fun x=>(nm mp x.1,x.2)) k with
 | some y =>
  rw [hq] at h;simp only [Option.some_or,Option.getD_some] at h;subst h;obtain ⟨k',h1,h2⟩:=z139 hq;exact .inl ⟨k',h1, by simp [lr,h2]⟩
 | none =>
  rw [hq] at h;by_cases hn:ns.contains k=true
  ·rw [if_pos hn] at h; simp at h
  ·rw [if_neg hn] at h;simp only [Option.none_or] at h;exact .inr ⟨by simpa using hn,h⟩
def Ent.flat (e:Ent):Prop:=∀ S w S' w' v,e.holds S w v→e.holds S' w' v
theorem Sta.called {a:Act} {w w':World} (ha:Sta Γ l res a w) {rin:Res} {ns:List Nat} {mp:List (Nat × Nat)} {H:Blk} {q:zn0} {vs:List Value} (hr:zby res rin ns)
  (hH:∀ b,H b↔Γ.H b∨∃ r v c,lr res r=some (v,c)∧ns.contains r=false∧z58 v=some b) (hp:z13p H rin q w w' vs) :
  (Sta Γ l (aft ns mp q.res res) a w'∧z9q (Shr Γ.H res w) (Shr Γ.H (aft ns mp q.res res) w') w w')∧(zks q.ret).holds (Shr Γ.H (aft ns mp q.res res) w') w' (retv vs) ∧
   (∀ b,b<w.heap.size→¬ Bof rin b→w'.heap[b]? = w.heap[b]?):=by
 have hin:∀ b,Bof rin b→∃ n∈ns,∃ v c,lr res n=some (v,c)∧z58 v=some b:=fun b ⟨r,v,c,h1,h2⟩=>by
  obtain ⟨n,h3,h4⟩:=hr.get h1; exact ⟨n,h3,v,c,h4,h2⟩
 have hother:∀ k v c,ns.contains k=false→lr res k=some (v,c)→∀ b,z58 v=some b→b<w.heap.size∧¬ Bof rin b:=fun k v c hk h b hb=>by
  refine ⟨(ha.conts k v c h).lt hb, fun hB=>?_⟩;obtain ⟨n,h1,v',c',h2,h3⟩:=hin b hB;have hne:n≠k:=fun e=>by subst e; simp at hk; exact hk h1
  exact ha.excl n v' c' k v c h2 h hne b h3 hb
 have hnew:∀ k v c,lr q.res k=some (v,c)→∀ k' v' c',ns.contains k'=false→lr res k'=some (v',c')→∀ b,z58 v=some b→z58 v'≠some b:=fun k v c h k' v' c' hk' h' b hb e=>by
  obtain ⟨h1,h2⟩:=hother k' v' c' hk' h' b e;rcases hp.own k v c h b hb with h3 | h3
  ·omega
  ·exact h2 h3
 have hst:z9q (Shr Γ.H res w) (Shr Γ.H (aft ns mp q.res res) w') w w':=fun b hb=>by
  have hnb:¬ Bof rin b:=fun hB=>by obtain ⟨n,_,v,c,h2,h3⟩:=hin b hB; exact hb.2.1 n v c h2 h3
  refine ⟨⟨Nat.lt_of_lt_of_le hb.1 hp.keep.size, fun k v c h e=>?_,hb.2.2⟩,hp.keep.block b ⟨hb.1,hnb⟩⟩;rcases zj6 h with ⟨k',_,h1⟩ | ⟨_,h1⟩
  ·rcases hp.own k' v c h1 b e with h3 | h3
   ·have:=hb.1; omega
   ·exact hnb h3
  ·exact hb.2.1 k v c h1 e
 have hst2:z9q (Shr H q.res w') (Shr Γ.H (aft ns mp q.res res) w') w' w':=fun b hb=>by
  refine ⟨⟨hb.1, fun k v c h e=>?_, fun h=>hb.2.2 ((hH b).2 (.inl h))⟩,rfl⟩;rcases zj6 h with ⟨k',_,h1⟩ | ⟨h0,h1⟩
  ·exact hb.2.1 k' v c h1 e
  ·exact hb.2.2 ((hH b).2 (.inr ⟨k,v,c,h1,h0,e⟩))
 refine ⟨⟨⟨ha.size,ha.defers, fun t e ht=>?_, fun k v c h=>?_, fun k v c k2 v2 c2 h h2 hne b hb=>?_, fun k v c h b hb=>?_,?_,ha.old,ha.hid⟩,hst⟩,zvr (hp.ret.mono hst2), fun b h1 h2=>hp.keep.block b ⟨h1,h2⟩⟩
 ·obtain ⟨u,h1,h2⟩:=ha.slots t e ht; exact ⟨u,h1,e.mono hst h2⟩
 ·rcases zj6 h with ⟨k',_,h1⟩ | ⟨h0,h1⟩
  ·exact (hp.conts k' v c h1).mono hst2 (fun _ _=>rfl)
  ·exact (ha.conts k v c h1).mono hst (fun b hb=>hp.keep.block b (hother k v c h0 h1 b hb))
 ·rcases zj6 h with ⟨k',e1,h1⟩ | ⟨h0,h1⟩ <;> rcases zj6 h2 with ⟨k2',e2,h3⟩ | ⟨h4,h3⟩
  ·exact hp.excl k' v c k2' v2 c2 h1 h3 (fun e=>hne (by rw [← e1,← e2,e])) b hb
  ·exact hnew k' v c h1 k2 v2 c2 h4 h3 b hb
  ·exact fun e=>hnew k2' v2 c2 h3 k v c h0 h1 b e hb
  ·exact ha.excl k v c k2 v2 c2 h1 h3 hne b hb
 ·rcases zj6 h with ⟨k',_,h1⟩ | ⟨h0,h1⟩
  ·rcases hp.own k' v c h1 b hb with h3 | h3
   ·intro hK; have:=ha.old_lt hK; omega
   ·obtain ⟨n,_,v',c',h4,h5⟩:=hin b h3; exact ha.own n v' c' h4 b h5
  ·exact ha.own k v c h1 b hb
 ·refine ha.keep.tr hp.keep (fun b hK=>⟨ha.old_lt hK, fun hB=>?_⟩);obtain ⟨n,_,v,c,h4,h5⟩:=hin b hB;exact ha.own n v c h4 b h5 hK
theorem znk.of {a:Act} {w:World} (ha:Sta Γ l res a w) {rin:Res} {ns:List Nat} {H:Blk} (hr:zby res rin ns) (hH:∀ b,H b↔Γ.H b∨∃ r v c,lr res r=some (v,c)∧ns.contains r=false∧z58 v=some b) :
  znk H rin w∧z9q (Shr Γ.H res w) (Shr H rin w) w w:=by
 have hst:z9q (Shr Γ.H res w) (Shr H rin w) w w:=fun b hb=>by
  refine ⟨⟨hb.1, fun r v c h e=>?_, fun h=>?_⟩,rfl⟩
  ·obtain ⟨n,_,h1⟩:=hr.get h; exact hb.2.1 n v c h1 e
  ·rcases (hH b).1 h with h1 | ⟨r,v,c,h1,_,h2⟩
   ·exact hb.2.2 h1
   ·exact hb.2.1 r v c h1 h2
 refine ⟨⟨fun r v c h=>?_, fun r v c r' v' c' h h' hne=>?_, fun b hb=>?_⟩,hst⟩
 ·obtain ⟨n,_,h1⟩:=hr.get h; exact (ha.conts n v c h1).mono hst (fun _ _=>rfl)
 ·obtain ⟨n,n2,h1,h2,h3⟩:=hr.get2 h h' hne; exact ha.excl n v c n2 v' c' h2 h3 h1
 ·rcases (hH b).1 hb with h | ⟨r,v,c,h,h0,h2⟩
  ·refine ⟨ha.old_lt (ha.hid b h), fun ⟨r,v,c,h1,h2⟩=>?_⟩;obtain ⟨n,_,h3⟩:=hr.get h1;exact ha.own n v c h3 b h2 (ha.hid b h)
  ·refine ⟨(ha.conts r v c h).lt h2, fun ⟨r',v',c',h1,h3⟩=>?_⟩;obtain ⟨n,hn,h4⟩:=hr.get h1;have hne:n≠r:=fun e=>by subst e; simp at h0; exact h0 hn
   exact ha.excl n v' c' r v c h4 h hne b h3 h2
def z9j (l:z1p):List Operand→List Ent→Prop
 | [],[]=>True
 | o::os,p::ps=>(∃ e,opE l o=some e∧∀ S w v,e.holds S w v→p.holds S w v)∧z9j l os ps
 | _,_=>False
theorem z9j.get {a:Act} {w:World} (ha:Sta Γ l res a w) {S:Blk} (hk:z9q (Shr Γ.H res w) S w w):∀ {os:List Operand} {ps:List Ent},z9j l os ps→z3i S w ps (os.map a.eval)
 | [],[],_=>trivial
 | o::os,p::ps,⟨⟨e,h1,h2⟩,h3⟩=>⟨p.mono hk (h2 _ _ _ (ha.vl h1)),z9j.get ha hk h3⟩
 | [],_::_,h=>h.elim
 | _::_,[],h=>h.elim
theorem call {σ:Type} {f:FuncId} {F:Func} {b:Code} {args:List Operand} {ats:Array TypeId} {pin:List Ent} {rin:Res} {m1:Option σ} {q:σ→(Nat→Value)→zn0} {kk:σ→Option ρ} (ns:List Nat) (mp:List (Nat × Nat)) (hn:Nat.blt d Γ.n=true)
  (hF:P.funcs[f]? = some F) (hB:F.body=some b) (hnm:(F.name == "runtime.NumGoroutine")=false) (hS:z1u P f pin rin m1 q) (hA:z9j l args pin) (hr:zby res rin ns)
  (k:∀ s nv,GL P os (Sta Γ ((d,zks (q s nv).ret)::l) (aft ns mp (q s nv).res res)) rest N (kk s)) :
  GL P os (Sta Γ l res) (⟨some d,.call ⟨.value (.func f),args.toArray,ats⟩,ty,pos,after,none⟩::rest) N (m1 >>= kk):=fun a w ha r hm=>by
 cases hm1:m1 with
 | none=>rw [hm1] at hm; cases hm
 | some s =>
  rw [hm1] at hm;refine wpList_step fun K hK=>?_;rw [if_pos (zcn rfl)];have hrun:(execOp a.eval ⟨some d,.call ⟨.value (.func f),args.toArray,ats⟩,ty,pos,after,none⟩).run P w=.ok (.enter f (args.map a.eval).toArray) w:=by
   have e0:a.eval (.func f)=.func (.func f) #[] #[]:=rfl;simp [execOp,resolve,e0,Deferred.ofValue,invoke,zd7 hF hB hnm]
  unfold Oper.wp; rw [hrun];simp only [Oper.upon];have hH:∀ b,(fun b=>Γ.H b∨∃ r v c,lr res r=some (v,c)∧ns.contains r=false∧z58 v=some b) b↔Γ.H b∨∃ r v c,lr res r=some (v,c)∧ns.contains r=false∧z58 v=some b:=fun _=>Iff.rfl;obtain ⟨h1,h2⟩:=znk.of ha hr hH;refine (hS s hm1 _ _ w (z9j.get ha h2 hA) h1).mono fun e w' hR=>?_;obtain ⟨nv,vs,rfl,hp⟩:=hR;obtain ⟨⟨h3,_⟩,h4,_⟩:=ha.called (mp:=mp) hr hH hp;exact hK _ _ (k s nv _ _ (h3.put hn h4) r hm)
end
end
section
open Go Go.RowKit
variable {ro:Option Nat}
class z7e {ρ:Type} (N:ρ→Exit→Act→World→Prop):Prop where
  ok:∀ (r:ρ) (d:Nat) (v:Value) c a w,N r (.panic c) (a.put (some d) v) w→N r (.panic c) a w
instance {ρ:Type} {P:Program} {y:Code} {Q:ρ→Exit→Act→World→Prop} [h:z7e Q]:z7e (zn3 ro P y Q):=⟨fun r d v c a w k=>h.ok r d v c a w k⟩
instance {ρ:Type} {i:Nat} {Q:ρ→Exit→Act→World→Prop} [h:z7e Q]:z7e (blkQ i Q):=⟨fun r d v c a w k=>h.ok r d v c a w k⟩
instance {ρ:Type} {P:Program} {fn:Func} {H:Blk} {rin:Res} {q:ρ→(Nat→Value)→zn0} {w:World}:z7e (endQ P fn H rin q w):=⟨fun r d v c a w k=>k⟩
instance {σ β:Type} {i:Nat} {As:σ→Asn} {M:β→Exit→Act→World→Prop} [h:z7e M]:z7e (zoy i As M):=⟨fun r d v c a w k=>by
  cases r with
  | inl b=>exact ⟨k.1,h.ok b d v c a w k.2⟩
  | inr s=>exact absurd k.1 (by simp)⟩
instance {τ:Type} {Bs:τ→Asn}:z7e (midQ Bs):=⟨fun r d v c a w k=>absurd k.1 (by simp)⟩
instance {τ ρ:Type} {Bs:τ→Asn} {Q:ρ→Exit→Act→World→Prop} [h:z7e Q]:z7e (midR Bs Q):=⟨fun r d v c a w k=>by
  cases r with
  | inl b=>exact ⟨k.1,h.ok b d v c a w k.2⟩
  | inr s=>exact absurd k.1 (by simp)⟩
structure SH (Γ:Ctx) (l0:z1p) (res0:Res) (ws:List Nat) (l:z1p) (res:Res) (a:Act) (w0 w:World):Prop where
  s0:Sta Γ l0 res0 a w0
  s:Sta Γ l res a w
  cw:CW res0 ws w0 w
  st:z9q (Shr Γ.H res0 w0) (Shr Γ.H res w) w0 w
  wsp:∀ r v c b,ws.contains r=true→lr res r=some (v,c)→z58 v=some b→(∃ r0 v0 c0,ws.contains r0=true∧lr res0 r0=some (v0,c0)∧z58 v0=some b)∨w0.heap.size≤b
section
variable {ρ:Type} {P:Program} {Γ:Ctx} {l l0:z1p} {res res0:Res} {ws:List Nat} {m m1 m2:Option ρ} {os:List Oper} {N:ρ→Exit→Act→World→Prop}
  {d:Tmp} {op:Op} {ty:TypeId} {pos:String} {after:Array Edge} {g:Option (Nat × Bool)} {fuel i:Nat} {listed listed':Array Bool} {rest:List Oper}
def GH (P:Program) (ops:List Oper) (Γ:Ctx) (l0:z1p) (res0:Res) (ws:List Nat) (l:z1p) (res:Res) (N:ρ→Exit→Act→World→Prop) (fuel:Nat) (listed:Array Bool) (m:Option ρ):Prop :=
  ∀ a w0 w,SH Γ l0 res0 ws l res a w0 w→∀ r,m=some r→wpAnyH P .any ops.toArray (N r) (CW res0 ws w0) fuel listed a w
theorem SH.put {a : Act} {w0 w : World} (h : SH Γ l0 res0 ws l res a w0 w) {v : Value} {e0 e : Ent} (hn : Nat.blt d Γ.n = true) (h0 : e0.holds (Shr Γ.H res0 w0) w0 v) (he : e.holds (Shr Γ.H res w) w v) :
    SH Γ ((d,e0)::l0) res0 ws ((d,e)::l) res (a.put (some d) v) w0 w:=⟨h.s0.put hn h0,h.s.put hn he,h.cw,h.st,h.wsp⟩
theorem z6l {id sz : Nat} {ls : Array Bool} {Q : ρ → Exit → Act → World → Prop} (ws : List Nat) (hm : P.follows .mixedOrders = true) (hz : os.toArray.size = sz) (hl : Array.replicate sz false = ls)
    (h:GH P os Γ l res ws l res Q sz ls m) (hd:zc0 os=true:=by rfl):G ro P (Sta Γ l res) (.region id os.toArray true) Q m:=fun a w ha r hr=>by
  refine zsi hm (by simpa using hd) (wpAny_of_held (S:=CW res ws { w with drawn:=w.drawn+1 }) _ _ _ _ ?_);have hE:Ext w { w with drawn:=w.drawn+1 }:=Ext.rfl'.dr;have ha':=ha.ext hE
  have:=h a _ _ ⟨ha',ha',zl0.rfl',z9q.rfl', fun r v c b hw h1 h2=>.inl ⟨r,v,c,hw,h1,h2⟩⟩ r hr
  rw [hz,hl];exact this
theorem hIf (t : Nat) {b : Bool} (h0 : lk l0 t = some (.rd z09 b)) (hb : lk l t = some (.rd z09 b)) (ht : b = true → GH P os Γ ((t, .rd z09 true) :: l0) res0 ws ((t, .rd z09 true) :: l) res N fuel listed m1) (hf : b = false → GH P os Γ ((t, .rd z09 false) :: l0) res0 ws ((t, .rd z09 false) :: l) res N fuel listed m2) :
    GH P os Γ l0 res0 ws l res N fuel listed (if b then m1 else m2):=by
  intro a w0 w ha r hr
  cases b with
  | true=>exact ht rfl a w0 w ⟨ha.s0.known h0 rfl,ha.s.known hb rfl,ha.cw,ha.st,ha.wsp⟩ r (by simpa using hr)
  | false=>exact hf rfl a w0 w ⟨ha.s0.known h0 rfl,ha.s.known hb rfl,ha.cw,ha.st,ha.wsp⟩ r (by simpa using hr)
theorem z5g {σ:Type} {m:Option σ} {k:σ→Option ρ} (h:∀ s,m=some s→GH P os Γ l0 res0 ws l res N fuel listed (k s)):GH P os Γ l0 res0 ws l res N fuel listed (m >>= k):=fun a w0 w ha r hr=>by
  cases hm:m with
  | none=>rw [hm] at hr; cases hr
  | some s=>rw [hm] at hr; exact h s hm a w0 w ha r hr
theorem Sta.name {α:Type} {R:Rep α} {x y:α} {t:Nat} {a:Act} {w:World} (ha:Sta Γ l res a w) (hx:lk l t=some (.rd R x)) (e:x=y):Sta Γ ((t,.rd R y)::l) res a w:=by
  subst e;refine { ha with slots:=fun t' e' ht'=>?_ };rw [z2j] at ht'
  split at ht'
  · rename_i hh; subst hh; cases ht'; exact ha.slots t _ hx
  · exact ha.slots t' e' ht'
theorem zvq {α:Type} {R:Rep α} {x:α} {k:α→Option ρ} (t:Nat) (h0:lk l0 t=some (.rd R x)) (hx:lk l t=some (.rd R x)) (h:∀ y,GH P os Γ ((t,.rd R y)::l0) res0 ws ((t,.rd R y)::l) res N fuel listed (k y)):GH P os Γ l0 res0 ws l res N fuel listed (some x >>= k):=fun a w0 w ha r hr =>
  h x a w0 w ⟨ha.s0.name h0 rfl,ha.s.name hx rfl,ha.cw,ha.st,ha.wsp⟩ r hr
theorem hFrz {α:Type} {R:Rep α} {T:TypeId} {b:List α} {v:Value} (r:Nat) (ts:List Nat) (hr:lr res r=some (v,.list R T b)) (ht:FrL l v ts) (k:GH P os Γ (ts.map (fun t=>(t,.junk))++l0) res0 ws (ts.map (fun t=>(t,.rd (z03 R) b))++l) ((r,none)::res) N fuel listed m):GH P os Γ l0 res0 ws l res N fuel listed m:=fun a w0 w ha r' hr'=>by
  refine k a w0 w ⟨?_,ha.s.frz r ts hr ht,ha.cw, fun bb hb=>⟨?_,(ha.st bb hb).2⟩, fun r2 v2 c2 b2 h1 h2=>?_⟩ r' hr'
  · refine { ha.s0 with slots:=fun t' e' ht'=>?_ }
    rw [zxf] at ht'
    split at ht'
    · rename_i hh; cases ht'
      obtain ⟨u,h1,_⟩:=ha.s.slots t' _ (ht.get hh);exact ⟨u,h1,trivial⟩
    · exact ha.s0.slots t' e' ht'
  · have h1:=(ha.st bb hb).1
    refine ⟨h1.1, fun r2 v2 c2 h2=>?_,h1.2.2⟩;rw [z1a] at h2
    split at h2
    · cases h2
    · exact h1.2.1 r2 v2 c2 h2
  · rw [z1a] at h2
    split at h2
    · cases h2
    · exact ha.wsp r2 v2 c2 b2 h1 h2
theorem z187 [z7e N] {e : Ent} (i : Nat) (hi : os.toArray[i]? = some ⟨some d, op, ty, pos, after, g⟩) (hs : Region.noSelect os.toArray = true) (hf : Region.free .any os.toArray listed i = true) (hr : (Region.ready .any os.toArray listed).contains i = true)
    (hg:Grd os l ⟨some d,op,ty,pos,after,g⟩ true) (hn:Nat.blt d Γ.n=true) (hl:listed.setIfInBounds i true=listed')
    (he:Run (CW res0 ws) P Γ l0 res0 ⟨some d,op,ty,pos,after,g⟩ e) (k:GH P os Γ ((d,e)::l0) res0 ws ((d,e)::l) res N fuel listed' m):GH P os Γ l0 res0 ws l res N (fuel+1) listed m:=fun a w0 w ha r hm=>by
  obtain ⟨v,h1,h2⟩:=he a w0 ha.s0;refine wpAnyH_take hi hs hf hr (fun c a w h=>z7e.ok r _ v c a w h) (.inl ⟨hg.wanted ha.s, fun w' hw'=>h1 w' hw'⟩) ha.cw ?_;rw [hl];exact k _ w0 w (ha.put hn h2 (e.mono ha.st h2)) r hm
theorem hTk [z7e N] {e:Ent} (i:Nat) (hi:os.toArray[i]? = some ⟨some d,op,ty,pos,after,none⟩) (hl:listed.setIfInBounds i true=listed') (he:Run (CW res0 ws) P Γ l0 res0 ⟨some d,op,ty,pos,after,none⟩ e)
 (k:GH P os Γ ((d,e)::l0) res0 ws ((d,e)::l) res N fuel listed' m) (hs:Region.noSelect os.toArray=true:=by kernel_rfl) (hf:Region.free .any os.toArray listed i=true:=by kernel_rfl) (hr:(Region.ready .any os.toArray listed).contains i=true:=by kernel_rfl)
 (hn:Nat.blt d Γ.n=true:=by rfl):GH P os Γ l0 res0 ws l res N (fuel+1) listed m:=z187 i hi hs hf hr (gd0 rfl) hn hl he k
theorem Zg [z7e N] {e:Ent} (i:Nat) (hi:os.toArray[i]? = some ⟨some d,op,ty,pos,after,g⟩) (hl:listed.setIfInBounds i true=listed') (he:Run (CW res0 ws) P Γ l0 res0 ⟨some d,op,ty,pos,after,g⟩ e)
 (k:GH P os Γ ((d,e)::l0) res0 ws ((d,e)::l) res N fuel listed' m) (hg:Grd os l ⟨some d,op,ty,pos,after,g⟩ true:=by exact gd rfl rfl rfl rfl) (hs:Region.noSelect os.toArray=true:=by kernel_rfl) (hf:Region.free .any os.toArray listed i=true:=by kernel_rfl) (hr:(Region.ready .any os.toArray listed).contains i=true:=by kernel_rfl)
 (hn:Nat.blt d Γ.n=true:=by rfl):GH P os Γ l0 res0 ws l res N (fuel+1) listed m:=z187 i hi hs hf hr hg hn hl he k
theorem z10i [z7e N] {e : Ent} (i : Nat) (hi : os.toArray[i]? = some ⟨some d, op, ty, pos, after, g⟩) (hs : Region.noSelect os.toArray = true) (hf : Region.free .any os.toArray listed i = true) (hr : (Region.ready .any os.toArray listed).contains i = true)
    (hg:Grd os l ⟨some d,op,ty,pos,after,g⟩ true) (hn:Nat.blt d Γ.n=true) (hl:listed.setIfInBounds i true=listed')
    (hfl:e.flat) (he:Run AnyW P Γ l res ⟨some d,op,ty,pos,after,g⟩ e) (k:GH P os Γ ((d,e)::l0) res0 ws ((d,e)::l) res N fuel listed' m):GH P os Γ l0 res0 ws l res N (fuel+1) listed m:=fun a w0 w ha r hm=>by
  obtain ⟨v,h1,h2⟩:=he a w ha.s;refine wpAnyH_take hi hs hf hr (fun c a w h=>z7e.ok r _ v c a w h) (.inl ⟨hg.wanted ha.s, fun w' hw'=>h1 w' trivial⟩) ha.cw ?_;rw [hl];exact k _ w0 w (ha.put hn (hfl _ _ _ _ _ h2) h2) r hm
theorem Zf [z7e N] {e:Ent} (i:Nat) (hi:os.toArray[i]? = some ⟨some d,op,ty,pos,after,none⟩) (hl:listed.setIfInBounds i true=listed') (hfl:e.flat) (he:Run AnyW P Γ l res ⟨some d,op,ty,pos,after,none⟩ e)
 (k:GH P os Γ ((d,e)::l0) res0 ws ((d,e)::l) res N fuel listed' m) (hs:Region.noSelect os.toArray=true:=by kernel_rfl) (hf:Region.free .any os.toArray listed i=true:=by kernel_rfl) (hr:(Region.ready .any os.toArray listed).contains i=true:=by kernel_rfl)
 (hn:Nat.blt d Γ.n=true:=by rfl):GH P os Γ l0 res0 ws l res N (fuel+1) listed m:=z10i i hi hs hf hr (gd0 rfl) hn hl hfl he k
theorem z20 [z7e N] (i : Nat) (hi : os.toArray[i]? = some ⟨some d, op, ty, pos, after, g⟩) (hs : Region.noSelect os.toArray = true) (hf : Region.free .any os.toArray listed i = true) (hr : (Region.ready .any os.toArray listed).contains i = true)
    (hg:Grd os l ⟨some d,op,ty,pos,after,g⟩ false) (hn:Nat.blt d Γ.n=true) (hl:listed.setIfInBounds i true=listed')
    (k:GH P os Γ ((d,.un)::l0) res0 ws ((d,.un)::l) res N fuel listed' m):GH P os Γ l0 res0 ws l res N (fuel+1) listed m:=fun a w0 w ha r hm=>by
  refine wpAnyH_take hi hs hf hr (fun c a w h=>z7e.ok r _ undef c a w h) (.inr ⟨hg.wanted ha.s,rfl⟩) ha.cw ?_;rw [hl];exact k _ w0 w (ha.put hn rfl rfl) r hm
theorem hSk [z7e N] (i:Nat) (hi:os.toArray[i]? = some ⟨some d,op,ty,pos,after,g⟩) (hl:listed.setIfInBounds i true=listed') (k:GH P os Γ ((d,.un)::l0) res0 ws ((d,.un)::l) res N fuel listed' m)
 (hg:Grd os l ⟨some d,op,ty,pos,after,g⟩ false:=by exact gd rfl rfl rfl rfl) (hs:Region.noSelect os.toArray=true:=by kernel_rfl) (hf:Region.free .any os.toArray listed i=true:=by kernel_rfl) (hr:(Region.ready .any os.toArray listed).contains i=true:=by kernel_rfl)
 (hn:Nat.blt d Γ.n=true:=by rfl):GH P os Γ l0 res0 ws l res N (fuel+1) listed m:=z20 i hi hs hf hr hg hn hl k
theorem z3e (hr:Region.ready .any os.toArray listed=[]) (h:GE (Sta Γ l res) .normal N m):GH P os Γ l0 res0 ws l res N fuel listed m:=fun a w0 w ha r hm=>wpAnyH_done hr (h a w ha.s r hm) fuel
theorem SH.grew {a : Act} {w0 w w' : World} (h : SH Γ l0 res0 ws l res a w0 w) {r : Nat} {x : Value × z4l} (hw : ws.contains r = true) (hs : Sta Γ l ((r, some x) :: res) a w' ∧ z9q (Shr Γ.H res w) (Shr Γ.H ((r, some x) :: res) w') w w') (hg : Grew res r w w')
    (hx:∀ b,z58 x.1=some b→(∃ v0 c0,lr res r=some (v0,c0)∧z58 v0=some b)∨w.heap.size≤b):SH Γ l0 res0 ws l ((r,some x)::res) a w0 w':=by
  obtain ⟨wr,h1,h2⟩:=hg;refine ⟨h.s0,hs.1,?_,h.st.tr hs.2, fun r2 v2 c2 b2 k1 k2 k3=>?_⟩
  · refine zl0.gr h.cw h1 (fun b hb=>⟨Nat.lt_of_lt_of_le hb.1 h.cw.size, fun e=>?_⟩)
    obtain ⟨v0,c0,k1,k2⟩:=h2 b e;rcases h.wsp r v0 c0 b hw k1 k2 with ⟨r1,v1,c1,k5,k3,k4⟩ | k3
    · exact hb.2 r1 v1 c1 k5 k3 k4
    · have:=hb.1; omega
  · rw [z1a] at k2
    split at k2
    · rename_i e; subst e; cases k2
      rcases hx b2 k3 with ⟨v0,c0,q1,q2⟩ | q1
      · exact h.wsp _ v0 c0 b2 k1 q1 q2
      · exact .inr (Nat.le_trans h.cw.size q1)
    · exact h.wsp r2 v2 c2 b2 k1 k2 k3
theorem hDo {r : Nat} {x : Value → Value × z4l} (i : Nat) (hi : os.toArray[i]? = some ⟨some d, op, ty, pos, after, g⟩) (hr : Region.ready .any os.toArray listed = [i]) (hg : Grd os l ⟨some d, op, ty, pos, after, g⟩ true) (hn : Nat.blt d Γ.n = true) (hl : listed.setIfInBounds i true = listed') (hw : ws.contains r = true)
    (he:Eff P Γ l res ⟨some d,op,ty,pos,after,g⟩ r x) (hx:∀ u,(x u).1=u) (k:∀ u,GH P os Γ ((d,.val u)::l0) res0 ws ((d,.val u)::l) ((r,some (x u))::res) N fuel listed' m):GH P os Γ l0 res0 ws l res N (fuel+1) listed m:=fun a w0 w ha ρ' hm=>by
  obtain ⟨w',u,h1,h2,h3,h4⟩:=he a w ha.s;refine wpAnyH_all hr (by simp) (fun j hj=>?_);simp only [List.mem_singleton] at hj;subst hj;have hgw:=hg.wanted ha.s;unfold wpOp;simp only [hi,hgw,if_true];refine .inl ?_;unfold Oper.wp; rw [h1];have hown:∀ b,z58 (x u).1=some b→(∃ v0 c0,lr res r=some (v0,c0)∧z58 v0=some b)∨w.heap.size≤b:=fun b hb=>by
    by_cases h5:w.heap.size≤b
    · exact .inr h5
    · refine .inl (Classical.byContradiction fun hno=>?_)
      have hc:=h2.1.conts r _ _ (z1a.trans (if_pos rfl));by_cases hS:Shr Γ.H res w b
      · exact (h2.2 b hS).1.2.1 r _ _ (z1a.trans (if_pos rfl)) hb
      · have hK:¬ Γ.K b:=h2.1.own r _ _ (z1a.trans (if_pos rfl)) b hb
        refine hS ⟨by omega, fun r' v' c' hr' e=>?_, fun hh=>hK (ha.s.hid b hh)⟩;by_cases hrr:r=r'
        · subst hrr; exact hno ⟨v',c',hr',e⟩
        · exact h2.1.excl r _ _ r' v' c' (z1a.trans (if_pos rfl)) ((z1a.trans (if_neg hrr)).trans hr') hrr b hb e
  have hS:=ha.grew hw h2 h4 hown;refine ⟨hS.cw,?_⟩;rw [hl];exact k u _ w0 w' (hS.put hn ⟨rfl,h3⟩ ⟨rfl,h3⟩) ρ' hm
theorem Zo {r:Nat} {x:Value→Value × z4l} (i:Nat) (hi:os.toArray[i]? = some ⟨some d,op,ty,pos,after,none⟩) (hl:listed.setIfInBounds i true=listed') (hw:ws.contains r=true)
 (he:Eff P Γ l res ⟨some d,op,ty,pos,after,none⟩ r x) (k:∀ u,GH P os Γ ((d,.val u)::l0) res0 ws ((d,.val u)::l) ((r,some (x u))::res) N fuel listed' m) (hx:∀ u,(x u).1=u:=by exact fun _=>rfl) (hr:Region.ready .any os.toArray listed=[i]:=by kernel_rfl)
 (hn:Nat.blt d Γ.n=true:=by rfl):GH P os Γ l0 res0 ws l res N (fuel+1) listed m:=hDo i hi hr (gd0 rfl) hn hl hw he hx k
theorem hDoS {r : Nat} {x : Value × z4l} {v0 : Value} {c0 : z4l} (i : Nat) (hi : os.toArray[i]? = some ⟨none, op, ty, pos, after, g⟩) (hr : Region.ready .any os.toArray listed = [i]) (hg : Grd os l ⟨none, op, ty, pos, after, g⟩ true) (hl : listed.setIfInBounds i true = listed') (hw : ws.contains r = true) (hv : lr res r = some (v0, c0)) (hx : x.1 = v0)
    (he:EffS P Γ l res ⟨none,op,ty,pos,after,g⟩ r x) (k:GH P os Γ l0 res0 ws l ((r,some x)::res) N fuel listed' m):GH P os Γ l0 res0 ws l res N (fuel+1) listed m:=fun a w0 w ha ρ' hm=>by
  obtain ⟨w',h1,h2,h4⟩:=he a w ha.s;refine wpAnyH_all hr (by simp) (fun j hj=>?_);simp only [List.mem_singleton] at hj;subst hj;have hgw:=hg.wanted ha.s;unfold wpOp;simp only [hi,hgw,if_true];refine .inl ?_;unfold Oper.wp; rw [h1];have hS:=ha.grew hw h2 h4 (fun b hb=>.inl ⟨v0,c0,hv, by rw [← hx]; exact hb⟩);refine ⟨hS.cw,?_⟩;rw [hl];exact k a w0 w' hS ρ' hm
theorem Zp {r:Nat} {x:Value × z4l} {v0:Value} {c0:z4l} (i:Nat) (hi:os.toArray[i]? = some ⟨none,op,ty,pos,after,none⟩) (hl:listed.setIfInBounds i true=listed') (hw:ws.contains r=true) (hv:lr res r=some (v0,c0)) (hx:x.1=v0)
 (he:EffS P Γ l res ⟨none,op,ty,pos,after,none⟩ r x) (k:GH P os Γ l0 res0 ws l ((r,some x)::res) N fuel listed' m) (hr:Region.ready .any os.toArray listed=[i]:=by kernel_rfl):GH P os Γ l0 res0 ws l res N (fuel+1) listed m:=hDoS i hi hr (gd0 rfl) hl hw hv hx he k
theorem z17l {σ : Type} {f : FuncId} {F : Func} {b : Code} {args : List Operand} {ats : Array TypeId} {pin : List Ent} {rin : Res} {m1 : Option σ} {q : σ → (Nat → Value) → zn0} {kk : σ → Option ρ} (i : Nat) (ns : List Nat) (mp : List (Nat × Nat)) (e0 : σ → (Nat → Value) → Ent)
    (hi:os.toArray[i]? = some ⟨some d,.call ⟨.value (.func f),args.toArray,ats⟩,ty,pos,after,g⟩) (hrd:Region.ready .any os.toArray listed=[i]) (hl:listed.setIfInBounds i true=listed') (hg:Grd os l ⟨some d,.call ⟨.value (.func f),args.toArray,ats⟩,ty,pos,after,g⟩ true) (hn:Nat.blt d Γ.n=true)
    (hF:P.funcs[f]? = some F) (hB:F.body=some b) (hnm:(F.name == "runtime.NumGoroutine")=false) (hS:z1u P f pin rin m1 q) (hA:z9j l args pin) (hr:zby res rin ns) (hw:ns.all (fun n=>ws.contains n)=true)
    (he0:∀ s nv v S w S' w',(zks (q s nv).ret).holds S w v→(e0 s nv).holds S' w' v)
    (k:∀ s nv,GH P os Γ ((d,e0 s nv)::l0) res0 ws ((d,zks (q s nv).ret)::l) (aft ns mp (q s nv).res res) N fuel listed' (kk s)) :
    GH P os Γ l0 res0 ws l res N (fuel+1) listed (m1 >>= kk):=fun a w0 w ha r hm=>by
  cases hm1:m1 with
  | none=>rw [hm1] at hm; cases hm
  | some s =>
    rw [hm1] at hm;refine wpAnyH_all hrd (by simp) (fun j hj=>?_);simp only [List.mem_singleton] at hj;subst hj;have hgw:=hg.wanted ha.s;unfold wpOp;simp only [hi,hgw,if_true];refine .inl ?_;have hrun:(execOp a.eval ⟨some d,.call ⟨.value (.func f),args.toArray,ats⟩,ty,pos,after,g⟩).run P w=.ok (.enter f (args.map a.eval).toArray) w:=by
      have e0:a.eval (.func f)=.func (.func f) #[] #[]:=rfl;simp [execOp,resolve,e0,Deferred.ofValue,invoke,zd7 hF hB hnm]
    unfold Oper.wp; rw [hrun];simp only [Oper.upon];have hH:∀ b,(fun b=>Γ.H b∨∃ r v c,lr res r=some (v,c)∧ns.contains r=false∧z58 v=some b) b↔Γ.H b∨∃ r v c,lr res r=some (v,c)∧ns.contains r=false∧z58 v=some b:=fun _=>Iff.rfl;obtain ⟨h1,h2⟩:=znk.of ha.s hr hH;refine (hS s hm1 _ _ w (z9j.get ha.s h2 hA) h1).mono fun e w' hR=>?_;obtain ⟨nv,vs,rfl,hp⟩:=hR;obtain ⟨⟨h3,h5⟩,h4,h6⟩:=ha.s.called (mp:=mp) hr hH hp
    have hlent:∀ b,Bof rin b→(∃ r0 v0 c0,ws.contains r0=true∧lr res0 r0=some (v0,c0)∧z58 v0=some b)∨w0.heap.size≤b:=fun b ⟨r',v,c,q1,q2⟩=>by
      obtain ⟨n,q3,q4⟩:=hr.get q1;have hn':ws.contains n=true:=by simpa using (List.all_eq_true.1 hw) n q3
      exact ha.wsp n v c b hn' q4 q2
    have hcw:CW res0 ws w0 w':=by
      refine zl0.tr ha.cw hp.keep (fun b hb=>⟨Nat.lt_of_lt_of_le hb.1 ha.cw.size, fun hB=>?_⟩);rcases hlent b hB with ⟨r0,v0,c0,q1,q2,q3⟩ | q1
      · exact hb.2 r0 v0 c0 q1 q2 q3
      · have:=hb.1; omega
    refine ⟨hcw,?_⟩;rw [hl];refine k s nv _ w0 w' (SH.put ⟨ha.s0,h3,hcw,ha.st.tr h5, fun r2 v2 c2 b2 k1 k2 k3=>?_⟩ hn (he0 s nv _ _ _ _ _ h4) h4) r hm;rcases zj6 k2 with ⟨k',q1,q2⟩ | ⟨q1,q2⟩
    · rcases hp.own k' v2 c2 q2 b2 k3 with q3 | q3
      · exact .inr (Nat.le_trans ha.cw.size q3)
      · exact hlent b2 q3
    · exact ha.wsp r2 v2 c2 b2 k1 q2 k3
theorem hKn {b b':Bool} (t:Nat) (h0:lk l0 t=some (.rd z09 b)) (hb:lk l t=some (.rd z09 b)) (e:b=b') (k:GH P os Γ ((t,.rd z09 b')::l0) res0 ws ((t,.rd z09 b')::l) res N fuel listed m):GH P os Γ l0 res0 ws l res N fuel listed m:=fun a w0 w ha r hr =>
  k a w0 w ⟨ha.s0.known h0 e,ha.s.known hb e,ha.cw,ha.st,ha.wsp⟩ r hr
theorem hRun {e0 e : Ent} (i : Nat) (hi : os.toArray[i]? = some ⟨some d, op, ty, pos, after, g⟩) (hr : Region.ready .any os.toArray listed = [i]) (hg : Grd os l ⟨some d, op, ty, pos, after, g⟩ true) (hn : Nat.blt d Γ.n = true) (hl : listed.setIfInBounds i true = listed')
    (h0:∀ S w S' w' v,e.holds S w v→e0.holds S' w' v) (he:Run Eq P Γ l res ⟨some d,op,ty,pos,after,g⟩ e) (k:GH P os Γ ((d,e0)::l0) res0 ws ((d,e)::l) res N fuel listed' m):GH P os Γ l0 res0 ws l res N (fuel+1) listed m:=fun a w0 w ha ρ' hm=>by
  obtain ⟨u,h1,h2⟩:=he a w ha.s;refine wpAnyH_all hr (by simp) (fun j hj=>?_);simp only [List.mem_singleton] at hj;subst hj;have hgw:=hg.wanted ha.s;unfold wpOp;simp only [hi,hgw,if_true];refine .inl ?_;unfold Oper.wp; rw [h1 w rfl];refine ⟨ha.cw,?_⟩;rw [hl];exact k _ w0 w (ha.put hn (h0 _ _ _ _ _ h2) h2) ρ' hm
theorem anyJ {e:Ent}:∀ (S:Blk) (w:World) (S':Blk) (w':World) (v:Value),e.holds S w v→Ent.junk.holds S' w' v:=fun _ _ _ _ _ _=>trivial
theorem hDoB {r : Nat} {T : TypeId} {es : List Ent} (i : Nat) (hi : os.toArray[i]? = some ⟨some d, op, ty, pos, after, g⟩) (hr : Region.ready .any os.toArray listed = [i]) (hg : Grd os l ⟨some d, op, ty, pos, after, g⟩ true) (hn : Nat.blt d Γ.n = true) (hl : listed.setIfInBounds i true = listed') (hw : ws.contains r = true)
    (he:Eff P Γ l res ⟨some d,op,ty,pos,after,g⟩ r (fun v=>(v,.box T es))) (k:∀ u,GH P os Γ ((d,.val (z05 u 0))::l0) res0 ws ((d,.val (z05 u 0))::l) ((r,some (u,.box T es))::res) N fuel listed' m):GH P os Γ l0 res0 ws l res N (fuel+1) listed m :=
  hDo i hi hr hg hn hl hw he (fun _=>rfl) (fun u a w0 w ha ρ' hm=>by
    have hb:=zlf (ha.s.conts r _ _ (z1a.trans (if_pos rfl)))
    have:=k u a w0 w
    rw [hb] at this
    exact this ha ρ' hm)
theorem zze {σ : Type} {f : FuncId} {F : Func} {b : Code} {args : List Operand} {ats : Array TypeId} {pin : List Ent} {rin : Res} {m1 : Option σ} {q : σ → (Nat → Value) → zn0} {kk : σ → Option ρ} (i : Nat) (ns : List Nat) (mp : List (Nat × Nat))
    (hi:os.toArray[i]? = some ⟨some d,.call ⟨.value (.func f),args.toArray,ats⟩,ty,pos,after,g⟩) (hrd:Region.ready .any os.toArray listed=[i]) (hl:listed.setIfInBounds i true=listed') (hg:Grd os l ⟨some d,.call ⟨.value (.func f),args.toArray,ats⟩,ty,pos,after,g⟩ true) (hn:Nat.blt d Γ.n=true)
    (hF:P.funcs[f]? = some F) (hB:F.body=some b) (hnm:(F.name == "runtime.NumGoroutine")=false) (hS:z1u P f pin rin m1 q) (hA:z9j l args pin) (hr:zby res rin ns) (hw:ns.all (fun n=>ws.contains n)=true)
    (k:∀ s nv,GH P os Γ ((d,.junk)::l0) res0 ws ((d,zks (q s nv).ret)::l) (aft ns mp (q s nv).res res) N fuel listed' (kk s)) :
    GH P os Γ l0 res0 ws l res N (fuel+1) listed (m1 >>= kk):=z17l i ns mp (fun _ _=>.junk) hi hrd hl hg hn hF hB hnm hS hA hr hw (fun _ _ _ _ _ _ _ _=>trivial) k
theorem z2v {σ : Type} {f : FuncId} {F : Func} {b : Code} {args : List Operand} {ats : Array TypeId} {pin : List Ent} {rin : Res} {m1 : Option σ} {q : σ → (Nat → Value) → zn0} {kk : σ → Option ρ} (i : Nat) (ns : List Nat) (mp : List (Nat × Nat))
    (hi:os.toArray[i]? = some ⟨some d,.call ⟨.value (.func f),args.toArray,ats⟩,ty,pos,after,g⟩) (hrd:Region.ready .any os.toArray listed=[i]) (hl:listed.setIfInBounds i true=listed') (hg:Grd os l ⟨some d,.call ⟨.value (.func f),args.toArray,ats⟩,ty,pos,after,g⟩ true) (hn:Nat.blt d Γ.n=true)
    (hF:P.funcs[f]? = some F) (hB:F.body=some b) (hnm:(F.name == "runtime.NumGoroutine")=false) (hS:z1u P f pin rin m1 q) (hA:z9j l args pin) (hr:zby res rin ns) (hw:ns.all (fun n=>ws.contains n)=true)
    (hfl:∀ s nv,(zks (q s nv).ret).flat) (k:∀ s nv,GH P os Γ ((d,zks (q s nv).ret)::l0) res0 ws ((d,zks (q s nv).ret)::l) (aft ns mp (q s nv).res res) N fuel listed' (kk s)) :
    GH P os Γ l0 res0 ws l res N (fuel+1) listed (m1 >>= kk):=z17l i ns mp (fun s nv=>zks (q s nv).ret) hi hrd hl hg hn hF hB hnm hS hA hr hw (fun s nv v S w S' w' h=>hfl s nv S w S' w' v h) k
end
end
section
open Go Go.RowKit
variable {ro:Option Nat}
section
variable {C:World→World→Prop} {ρ σ α:Type} {P:Program} {Γ:Ctx} {l:z1p} {res:Res} {m m1 m2:Option ρ} {os rest:List Oper} {N:ρ→Exit→Act→World→Prop} {Q:ρ→Exit→Act→World→Prop} {A B:Asn} {c:Code} {e:Exit}
  {d:Tmp} {ty:TypeId} {pos:String} {after:Array Edge} {g:Option (Nat × Bool)}
theorem Sta.kn {a:Act} {w:World} (ha:Sta Γ l res a w) {b b':Bool} (t:Nat) (hb:lk l t=some (.rd z09 b)) (e:b=b'):Sta Γ ((t,.rd z09 b')::l) res a w:=ha.known hb e
theorem z28 (t:Nat) {b:Bool} (hb:lk l t=some (.rd z09 b)) (ht:b=true→GL P os (Sta Γ ((t,.rd z09 true)::l) res) rest N m1) (hf:b=false→GL P os (Sta Γ ((t,.rd z09 false)::l) res) rest N m2):GL P os (Sta Γ l res) rest N (if b then m1 else m2):=xIf t hb ht hf
theorem lKn {b b':Bool} (t:Nat) (hb:lk l t=some (.rd z09 b)) (e:b=b') (h:GL P os (Sta Γ ((t,.rd z09 b')::l) res) rest N m):GL P os (Sta Γ l res) rest N m:=fun a w ha=>h a w (ha.kn t hb e)
theorem z27 {R:Rep α} {x:α} {k:α→Option ρ} (t:Nat) (hx:lk l t=some (.rd R x)) (h:∀ y,GL P os (Sta Γ ((t,.rd R y)::l) res) rest N (k y)):GL P os (Sta Γ l res) rest N (some x >>= k):=z18o t hx h
theorem z0t {m:Option σ} {k:σ→Option ρ} (h:∀ s,m=some s→GL P os A rest N (k s)):GL P os A rest N (m >>= k):=z14d h
theorem zl7 {R:Rep α} {T:TypeId} {b:List α} {v:Value} (r:Nat) (ts:List Nat) (hr:lr res r=some (v,.list R T b)) (ht:FrL l v ts) (k:GL P os (Sta Γ (ts.map (fun t=>(t,.rd (z03 R) b))++l) ((r,none)::res)) rest N m):GL P os (Sta Γ l res) rest N m:=xFrz r ts hr ht k
theorem z13y (R:Rep α) (t:Nat) (ht:lk l t=some (.val (.slice none 0 0))) (k:GL P os (Sta Γ ((t,.rd (z03 R) [])::l) res) rest N m):GL P os (Sta Γ l res) rest N m:=z18a R t ht k
theorem znq (t:Nat) {b:Bool} (hb:lk l t=some (.rd z09 b)) (ht:b=true→GQ P os (Sta Γ ((t,.rd z09 true)::l) res) rest N m1) (hf:b=false→GQ P os (Sta Γ ((t,.rd z09 false)::l) res) rest N m2):GQ P os (Sta Γ l res) rest N (if b then m1 else m2):=xIf t hb ht hf
theorem qKn {b b':Bool} (t:Nat) (hb:lk l t=some (.rd z09 b)) (e:b=b') (h:GQ P os (Sta Γ ((t,.rd z09 b')::l) res) rest N m):GQ P os (Sta Γ l res) rest N m:=fun a w ha=>h a w (ha.kn t hb e)
theorem z19q {R:Rep α} {x:α} {k:α→Option ρ} (t:Nat) (hx:lk l t=some (.rd R x)) (h:∀ y,GQ P os (Sta Γ ((t,.rd R y)::l) res) rest N (k y)):GQ P os (Sta Γ l res) rest N (some x >>= k):=z18o t hx h
theorem z6z {m:Option σ} {k:σ→Option ρ} (h:∀ s,m=some s→GQ P os A rest N (k s)):GQ P os A rest N (m >>= k):=z14d h
theorem gKn {b b':Bool} (t:Nat) (hb:lk l t=some (.rd z09 b)) (e:b=b') (h:G ro P (Sta Γ ((t,.rd z09 b')::l) res) c Q m):G ro P (Sta Γ l res) c Q m:=fun a w ha=>h a w (ha.kn t hb e)
theorem z9g {m:Option σ} {k:σ→Option ρ} (h:∀ s,m=some s→G ro P A c Q (k s)):G ro P A c Q (m >>= k):=z14d h
theorem gEx {ι:Type} {A:ι→Asn} (h:∀ i,G ro P (A i) c Q m):G ro P (fun a w=>∃ i,A i a w) c Q m:=xEx h
theorem gFrz {R:Rep α} {T:TypeId} {b:List α} {v:Value} (r:Nat) (ts:List Nat) (hr:lr res r=some (v,.list R T b)) (ht:FrL l v ts) (k:G ro P (Sta Γ (ts.map (fun t=>(t,.rd (z03 R) b))++l) ((r,none)::res)) c Q m):G ro P (Sta Γ l res) c Q m:=xFrz r ts hr ht k
theorem zyo (R:Rep α) (T:TypeId) (r:Nat) (k:G ro P (Sta Γ l ((r,some (.slice none 0 0,.list R T []))::res)) c Q m):G ro P (Sta Γ l res) c Q m:=xNil R T r k
theorem eKn {ex:Exit} {b b':Bool} (t:Nat) (hb:lk l t=some (.rd z09 b)) (e:b=b') (h:GE (Sta Γ ((t,.rd z09 b')::l) res) ex Q m):GE (Sta Γ l res) ex Q m:=fun a w ha=>h a w (ha.kn t hb e)
theorem zwd (R:Rep α) (T:TypeId) (r:Nat) (k:GE (Sta Γ l ((r,some (.slice none 0 0,.list R T []))::res)) e Q m):GE (Sta Γ l res) e Q m:=xNil R T r k
theorem Eb {r : Nat} {op : Op} {T : TypeId} {es : List Ent} (hn : Nat.blt d Γ.n = true) (he : Eff P Γ l res ⟨some d, op, ty, pos, after, none⟩ r (fun v => (v, .box T es)))
    (k:∀ u,GL P os (Sta Γ ((d,.val (z05 u 0))::l) ((r,some (u,.box T es))::res)) rest N m):GL P os (Sta Γ l res) (⟨some d,op,ty,pos,after,none⟩::rest) N m:=fun a w ha ρ hm=>by
  obtain ⟨w',u,h1,⟨h2,_⟩,h3,_⟩:=he a w ha;have hb:=zlf (h2.conts r _ _ (z1a.trans (if_pos rfl)));exact st (zcn rfl) h1 (k u _ _ (h2.put hn ⟨by rw [hb], by rw [hb]; exact h3⟩) ρ hm)
theorem Bld.done {β:Type} {place:Nat→Option (Nat × Nat)} {R:Rep β} {x x':β} (h:x=x'):Bld l place R [] x x':=h
def RdP {α:Type} (l:z1p) (R:Rep α):Nat→List (Nat × Operand)→List α→Prop
  | _,[],[]=>True
  | j,(i,o)::ps,x::xs=>(i=j∧RdO l R o x)∧RdP l R (j+1) ps xs
  | _,_,_=>False
theorem RdP.get {R:Rep α}:∀ {ps:List (Nat × Operand)} {j:Nat} {xs:List α},RdP l R j ps xs→∃ os:List Operand,ps=(os.zipIdx j).map (fun x=>(x.2,x.1))∧RdA l R os xs
  | [],_,[],_=>⟨[],rfl,trivial⟩
  | (i,o)::ps,j,x::xs,h=>by
    obtain ⟨os,h1,h2⟩:=RdP.get h.2;obtain ⟨⟨rfl,h4⟩,_⟩:=h;exact ⟨o::os, by rw [h1]; simp,h4,h2⟩
  | [],_,_::_,h=>h.elim
  | _::_,_,[],h=>h.elim
theorem lit {R : Rep α} (b : List α) {n : Nat} {parts : List (Nat × Operand)} {z : Value} {T e : TypeId} {by_ : Nat} (r : Nat) (hx : RdP l R 0 parts b) (hl : b.length = n)
    (hT:P.underlying T=some (.slice e)) (hE:TI P e z R.sz by_) (h0:Nat.blt 0 R.sz=true) (hm:Nat.ble (n * R.sz) 16777216=true) :
    Eff P Γ l res ⟨some d,.buildSlice T n parts.toArray,ty,pos,after,g⟩ r (fun u=>(u,.list R e b)):=by
  obtain ⟨os,rfl,h2⟩:=hx.get;exact lits b os r rfl h2 hl hT hE h0 hm
theorem litA {R : Rep α} {n : Nat} (b : List α) (v : Vector α n) {T e : TypeId} {z : Value} {sz by_ by2 : Nat} {ze : Value} {parts : List (Nat × Operand)} (hx : RdP l R 0 parts b) (hv : v.toList = b) (hT : P.underlying T = some (.array n e)) (hI : TI P T z sz by_) (hzs : z.cells.size = n * R.sz) (hE : TI P e ze R.sz by2) :
    Run C P Γ l res ⟨some d,.build T parts.toArray,ty,pos,after,g⟩ (.rd (z3m n R) v):=by
  obtain ⟨os,rfl,h2⟩:=hx.get;exact bldA b v os hT hI hzs hE rfl h2 hv
theorem zjb.val {u:Value} (h:u.oneCell'=true):zjb u [.val u]:=fun S w=>⟨[u], by simp [z8u],⟨rfl,h⟩,trivial⟩
theorem zjb.zr {R:Rep α} {x:α} {z:Value} (h:Zr R z.cells.toList x):zjb z [.rd R x]:=zjb.rd h
theorem zbt.sc {t:TypeId} {n:Nat} (h:Sc P t):zbt P t false n:=h
theorem zbt.ag {t:TypeId} {n:Nat} {z:Value} {by_:Nat} (h:Ag P t) (k:TI P t z n by_):zbt P t true n:=⟨h,z,by_,k⟩
def andI (a b:Int):Int:=zdm .and .i64 a b
def shrI (a:Int) (n:Nat):Int:=a.fdiv (2 ^ (min n 64))
theorem I.and {x y:Operand} {T T':TypeId} {a b:Int} (hx:opE l x=some (.rd z08 a)) (hy:opE l y=some (.rd z08 b)):Run C P Γ l res ⟨some d,.binOp .and T x y T',ty,pos,after,g⟩ (.rd z08 (andI a b)):=zta (γ:=Unit) hx hy rfl rfl
theorem I.shr {β:Type} {k':IntKind} {f2:β→Int} {x y:Operand} {T T':TypeId} {a:Int} {b:β} (hx:opE l x=some (.rd z08 a)) (hy:opE l y=some (.rd (z9b k' f2) b)) (h0:0≤f2 b):Run C P Γ l res ⟨some d,.binOp .shr T x y T',ty,pos,after,g⟩ (.rd z08 (shrI a (f2 b).toNat)):=shrL hx hy h0 rfl
theorem z16q {R : Rep α} {b : List α} {x y : Operand} {T T' e : TypeId} {E : Ent} (hn : Nat.blt d Γ.n = true) (hx : opE l x = some E) (hv : Vw R res E b) (hy : opE l y = some (.val (.slice none 0 0))) (hT : P.underlying T = some (.slice e))
    (ht:b=[]→GL P os (Sta Γ ((d,.rd z09 true)::l) res) rest N m) (hf:GL P os (Sta Γ ((d,.rd z09 false)::l) res) rest N m):GL P os (Sta Γ l res) (⟨some d,.binOp .eql T x y T',ty,pos,after,none⟩::rest) N m:=fun a w ha r hm=>by
  obtain ⟨p,c,xs,h5,h2,h3⟩:=hv.get ha (ha.vl hx);have hrun:=z10n (P:=P) (w:=w) (d:=d) (ty:=ty) (pos:=pos) (after:=after) (g:=none) (T':=T') hT h5 (ha.vl hy).1;refine st (zcn rfl) hrun ?_;by_cases hp:p=none
  · have hb : b = [] := by
      subst hp;rcases h2.2 with ⟨_,h0⟩ | ⟨b',o,sp,cap,hv,_⟩
      · exact List.eq_nil_of_length_eq_zero h0
      · cases hv
    exact ht hb _ w (ha.put hn (by rw [decide_eq_true hp]; exact z8e)) r hm
  · exact hf _ w (ha.put hn (by rw [decide_eq_false hp]; exact z8e)) r hm
theorem Sta.frzB {a:Act} {w:World} (ha:Sta Γ l res a w) {R:Rep α} {T:TypeId} {x:α} {v:Value} (r t:Nat) (hr:lr res r=some (v,.box T [.rd R x])) (ht:lk l t=some (.val (z05 v 0))):Sta Γ ((t,.rp R x)::l) ((r,none)::res) a w:=by
  have hst:z9q (Shr Γ.H res w) (Shr Γ.H ((r,none)::res) w) w w:=fun bb hb=>⟨⟨hb.1, fun r' v' c' hr'=>by
    rw [z1a] at hr'
    split at hr'
    · cases hr'
    · exact hb.2.1 r' v' c' hr',hb.2.2⟩,rfl⟩
  have hsub:∀ r' v' c',lr ((r,none)::res) r'=some (v',c')→r≠r'∧lr res r'=some (v',c'):=fun r' v' c' hr'=>by
    rw [z1a] at hr'
    split at hr'
    · cases hr'
    · exact ⟨‹_›,hr'⟩
  refine ⟨ha.size,ha.defers, fun t' e ht'=>?_, fun r' v' c' hr'=>(ha.conts r' v' c' (hsub _ _ _ hr').2).mono hst (fun _ _=>rfl), fun r1 v1 c1 r2 v2 c2 h1 h2 hne=>ha.excl r1 v1 c1 r2 v2 c2 (hsub _ _ _ h1).2 (hsub _ _ _ h2).2 hne, fun r' v' c' hr'=>ha.own r' v' c' (hsub _ _ _ hr').2,ha.keep,ha.old,ha.hid⟩;rw [z2j] at ht'
  split at ht'
  · rename_i hh; subst hh; cases ht'
    obtain ⟨u,h1,rfl,-⟩:=ha.slots t _ ht;rcases ha.conts r v _ hr with h2 | ⟨b,o,h2,h3,b',vs,rfl,rfl,h4⟩
    · exact h2.elim
    · match vs,h4 with
      | [y],⟨⟨cs,h5,h6⟩,_⟩ =>
        simp only [z58,Option.some.injEq] at h2;subst h2;refine ⟨_,h1,b',0,cs,rfl,⟨(Array.getElem?_eq_some_iff.1 h3).1, fun r' v' c' hr' e=>?_, fun hH=>ha.own r _ _ hr b' rfl (ha.hid b' hH)⟩,R.mono hst h5, fun j q hq=>?_⟩
        · obtain ⟨k1,k2⟩:=hsub _ _ _ hr'
          exact ha.excl r _ _ r' v' c' hr k2 k1 b' rfl e
        · have hB:Bx w b' (z8u [y]).toArray T:=h3
          have hcl:z8u [y]=cs:=by rw [h6]; simp [z8u,Rep.val_cells h5]
          rw [hB.cell,hcl]; simpa using hq
  · obtain ⟨u,h1,h2⟩:=ha.slots t' e ht'
    exact ⟨u,h1,e.mono hst h2⟩
theorem z16r {R:Rep α} {T:TypeId} {x:α} {v:Value} (r t:Nat) (hr:lr res r=some (v,.box T [.rd R x])) (ht:lk l t=some (.val (z05 v 0))) (k:GL P os (Sta Γ ((t,.rp R x)::l) ((r,none)::res)) rest N m):GL P os (Sta Γ l res) rest N m:=fun a w ha=>k a w (ha.frzB r t hr ht)
theorem zqe {R:Rep α} {T:TypeId} {x:α} {v:Value} (r t:Nat) (hr:lr res r=some (v,.box T [.rd R x])) (ht:lk l t=some (.val (z05 v 0))) (k:G ro P (Sta Γ ((t,.rp R x)::l) ((r,none)::res)) c Q m):G ro P (Sta Γ l res) c Q m:=fun a w ha=>k a w (ha.frzB r t hr ht)
theorem zfv {σ : Type} {f : FuncId} {F : Func} {b : Code} {args : List Operand} {ats : Array TypeId} {pin : List Ent} {rin : Res} {m1 : Option σ} {q : σ → (Nat → Value) → zn0} {kk : σ → Option ρ} (ns : List Nat) (mp : List (Nat × Nat)) (hg : Grd os l ⟨some d, .call ⟨.value (.func f), args.toArray, ats⟩, ty, pos, after, g⟩ true) (hn : Nat.blt d Γ.n = true)
    (hF:P.funcs[f]? = some F) (hB:F.body=some b) (hnm:(F.name == "runtime.NumGoroutine")=false) (hS:z1u P f pin rin m1 q) (hA:z9j l args pin) (hr:zby res rin ns)
    (k:∀ s nv,GL P os (Sta Γ ((d,zks (q s nv).ret)::l) (aft ns mp (q s nv).res res)) rest N (kk s)) :
    GL P os (Sta Γ l res) (⟨some d,.call ⟨.value (.func f),args.toArray,ats⟩,ty,pos,after,g⟩::rest) N (m1 >>= kk):=fun a w ha r hm=>by
  cases hm1:m1 with
  | none=>rw [hm1] at hm; cases hm
  | some s =>
    rw [hm1] at hm;refine wpList_step fun K hK=>?_;rw [if_pos (hg.wanted ha)];have hrun:(execOp a.eval ⟨some d,.call ⟨.value (.func f),args.toArray,ats⟩,ty,pos,after,g⟩).run P w=.ok (.enter f (args.map a.eval).toArray) w:=by
      have e0:a.eval (.func f)=.func (.func f) #[] #[]:=rfl;simp [execOp,resolve,e0,Deferred.ofValue,invoke,zd7 hF hB hnm]
    unfold Oper.wp; rw [hrun];simp only [Oper.upon];have hH:∀ b,(fun b=>Γ.H b∨∃ r v c,lr res r=some (v,c)∧ns.contains r=false∧z58 v=some b) b↔Γ.H b∨∃ r v c,lr res r=some (v,c)∧ns.contains r=false∧z58 v=some b:=fun _=>Iff.rfl;obtain ⟨h1,h2⟩:=znk.of ha hr hH;refine (hS s hm1 _ _ w (z9j.get ha h2 hA) h1).mono fun e w' hR=>?_;obtain ⟨nv,vs,rfl,hp⟩:=hR;obtain ⟨⟨h3,_⟩,h4,_⟩:=ha.called (mp:=mp) hr hH hp;exact hK _ _ (k s nv _ _ (h3.put hn h4) r hm)
def zwr (res:Res):List Value→List Ent→Prop
  | [],[]=>True
  | u::us,e::es=>(e=.val u∧∃ r v T ds,u=z05 v 0∧lr res r=some (v,.box T ds))∧zwr res us es
  | _,_=>False
theorem cN:zwr res [] []:=trivial
theorem cQ {v:Value} {T:TypeId} {ds:List Ent} {us:List Value} {es:List Ent} (r:Nat) (h:lr res r=some (v,.box T ds)) (k:zwr res us es):zwr res (z05 v 0::us) (.val (z05 v 0)::es):=⟨⟨rfl,r,v,T,ds,rfl,h⟩,k⟩
theorem zwr.get {a:Act} {w:World} (ha:Sta Γ l res a w) {S:Blk}:∀ {us:List Value} {es:List Ent},zwr res us es→z3i S w es us
  | [],[],_=>trivial
  | u::us,e::es,h=>by
    obtain ⟨⟨rfl,r,v,T,ds,rfl,h1⟩,h2⟩:=h;refine ⟨⟨rfl,?_⟩,zwr.get ha h2⟩;rw [zlf (ha.conts r v _ h1)];rcases ha.conts r v _ h1 with h3 | ⟨b,o,_,_,b',vs,rfl,_⟩
    · exact h3.elim
    · rfl
  | [],_::_,h=>h.elim
  | _::_,[],h=>h.elim
theorem zk9 {σ : Type} {x : Operand} {f : FuncId} {F : Func} {b : Code} {cap : List Value} {args : List Operand} {ats : Array TypeId} {pa pc : List Ent} {rin : Res} {m1 : Option σ} {q : σ → (Nat → Value) → zn0} {kk : σ → Option ρ} (ns : List Nat) (mp : List (Nat × Nat)) (hg : Grd os l ⟨some d, .call ⟨.value x, args.toArray, ats⟩, ty, pos, after, g⟩ true) (hn : Nat.blt d Γ.n = true)
    (hx:opE l x=some (.val (.func (.func f) #[] cap.toArray))) (hF:P.funcs[f]? = some F) (hB:F.body=some b) (hnm:(F.name == "runtime.NumGoroutine")=false) (hS:z1u P f (pa++pc) rin m1 q) (hA:z9j l args pa) (hC:zwr res cap pc) (hr:zby res rin ns)
    (k:∀ s nv,GL P os (Sta Γ ((d,zks (q s nv).ret)::l) (aft ns mp (q s nv).res res)) rest N (kk s)) :
    GL P os (Sta Γ l res) (⟨some d,.call ⟨.value x,args.toArray,ats⟩,ty,pos,after,g⟩::rest) N (m1 >>= kk):=fun a w ha r hm=>by
  cases hm1:m1 with
  | none=>rw [hm1] at hm; cases hm
  | some s =>
    rw [hm1] at hm;refine wpList_step fun K hK=>?_;rw [if_pos (hg.wanted ha)];have hrun:(execOp a.eval ⟨some d,.call ⟨.value x,args.toArray,ats⟩,ty,pos,after,g⟩).run P w=.ok (.enter f (args.map a.eval++cap).toArray) w:=by
      simp [execOp,resolve,(ha.vl hx).1,Deferred.ofValue,invoke,zd7 hF hB hnm,← Array.append_assoc]
    unfold Oper.wp; rw [hrun];simp only [Oper.upon];have hH:∀ b,(fun b=>Γ.H b∨∃ r v c,lr res r=some (v,c)∧ns.contains r=false∧z58 v=some b) b↔Γ.H b∨∃ r v c,lr res r=some (v,c)∧ns.contains r=false∧z58 v=some b:=fun _=>Iff.rfl;obtain ⟨h1,h2⟩:=znk.of ha hr hH;refine (hS s hm1 _ _ w ((z9j.get ha h2 hA).mk (zwr.get ha hC)) h1).mono fun e w' hR=>?_;obtain ⟨nv,vs,rfl,hp⟩:=hR;obtain ⟨⟨h3,_⟩,h4,_⟩:=ha.called (mp:=mp) hr hH hp
    exact hK _ _ (k s nv _ _ (h3.put hn h4) r hm)
def chk (p:Prop) [Decidable p]:Option Unit:=if p then some () else none
theorem z5h {p:Prop} [Decidable p] {u:Unit} (h:chk p=some u):p:=by
  unfold chk at h; split at h
  · assumption
  · cases h
theorem sN:ztl l []:=trivial
theorem sS {t:Nat} {e:Ent} {l':z1p} (h:lk l t=some e) (k:ztl l l'):ztl l ((t,e)::l'):=⟨h,k⟩
theorem Zs {l l':z1p} {t1 t2 t3 t4:Nat} {e1 e2 e3 e4:Ent} (h1:lk l t1=some e1) (h2:lk l t2=some e2) (h3:lk l t3=some e3) (h4:lk l t4=some e4) (k:ztl l l'):ztl l ((t1,e1)::(t2,e2)::(t3,e3)::(t4,e4)::l'):=sS h1 (sS h2 (sS h3 (sS h4 k)))
theorem rN:zby res [] []:=trivial
theorem rR {r n:Nat} {y:Value × z4l} {res':Res} {ns:List Nat} (h:lr res n=some y) (hn:ns.contains n=false) (k:zby res res' ns):zby res ((r,some y)::res') (n::ns):=⟨⟨y,rfl,h⟩,hn,k⟩
theorem Zi {res:Res} {r n:Nat} {y:Value × z4l} {res':Res} {ns:List Nat} (h:lr res n=some y) (k:zby res res' ns) (hn:ns.contains n=false:=by rfl):zby res ((r,some y)::res') (n::ns):=rR h hn k
theorem Y0 {res:Res} {r n:Nat} {y:Value × z4l} (h:lr res n=some y) (hn:([]:List Nat).contains n=false:=by rfl):zby res [(r,some y)] [n]:=rR h hn rN
theorem aN:z9j l [] []:=trivial
theorem aQ {o:Operand} {os:List Operand} {p:Ent} {ps:List Ent} (h:opE l o=some p) (k:z9j l os ps):z9j l (o::os) (p::ps):=⟨⟨p,h, fun _ _ _ h=>h⟩,k⟩
theorem Y1 {l:z1p} {o:Operand} {p:Ent} (h:opE l o=some p):z9j l [o] [p]:=aQ h aN
theorem Y2 {l:z1p} {o o2:Operand} {p p2:Ent} (h:opE l o=some p) (h2:opE l o2=some p2):z9j l [o,o2] [p,p2]:=aQ h (aQ h2 aN)
theorem pN {R:Rep α} {j:Nat}:RdP l R j [] []:=trivial
theorem pP {R:Rep α} {i j:Nat} {o:Operand} {x:α} {ps:List (Nat × Operand)} {xs:List α} (hi:i=j) (h:opE l o=some (.rd R x)) (k:RdP l R (j+1) ps xs):RdP l R j ((i,o)::ps) (x::xs):=⟨⟨hi,.inl h⟩,k⟩
theorem Zu {Γ:Ctx} {l l':z1p} {res res':Res} {a:Act} {w:World} (h:Sta Γ l res a w) (ns:List Nat) (hs:ztl l l':=by repeat (first | exact sN | refine sS rfl ?_)) (hr:zby res res' ns:=by repeat (first | exact rN | refine rR rfl rfl ?_)):Sta Γ l' res' a w:=h.sub ns hs hr
theorem Ze {ρ:Type} {P:Program} {fn:Func} {n:Nat} {H:Blk} {rin:Res} {w0:World} {q:ρ→(Nat→Value)→zn0} {r:ρ} {l:z1p} {res:Res} {rs:List ResultVar} (vs:List Value) (ns:List Nat) (hr:fn.results=rs.toArray) (h:zvl P l res rs (q r (nvl vs)).ret:=by repeat (first | exact eN | refine eE rfl ?_)) (hs:zby res (q r (nvl vs)).res ns:=by repeat (first | exact rN | refine rR rfl rfl ?_)) :
 GE (Sta (ctx n H rin w0) l res) .ret (endQ P fn H rin q w0) (some r):=zaz vs ns hr h hs
theorem Zc {ρ:Type} {P:Program} {Γ:Ctx} {l:z1p} {res:Res} {os rest:List Oper} {N:ρ→Exit→Act→World→Prop} {d:Nat} {ty:TypeId} {pos:String} {after:Array Edge} {σ:Type} {f:FuncId} {F:Func} {b:Code} {args:List Operand} {ats:Array TypeId} {pin:List Ent} {rin:Res} {m1:Option σ} {q:σ→(Nat→Value)→zn0} {kk:σ→Option ρ} (ns:List Nat) (mp:List (Nat × Nat)) (hF:P.funcs[f]? = some F) (hB:F.body=some b) (hS:z1u P f pin rin m1 q)
 (k:∀ s nv,GL P os (Sta Γ ((d,zks (q s nv).ret)::l) (aft ns mp (q s nv).res res)) rest N (kk s)) (hA:z9j l args pin:=by repeat (first | exact aN | refine aQ rfl ?_)) (hr:zby res rin ns:=by repeat (first | exact rN | refine rR rfl rfl ?_)) (hn:Nat.blt d Γ.n=true:=by rfl) (hnm:(F.name == "runtime.NumGoroutine")=false:=by rfl) :
 GL P os (Sta Γ l res) (⟨some d,.call ⟨.value (.func f),args.toArray,ats⟩,ty,pos,after,none⟩::rest) N (m1 >>= kk):=call ns mp hn hF hB hnm hS hA hr k
theorem eN:zvl P l res [] []:=trivial
theorem eE {t:Tmp} {e:Ent} {rs:List ResultVar} {es:List Ent} (h:lk l t=some e) (k:zvl P l res rs es):zvl P l res (.tmp t::rs) (e::es):=⟨h,k⟩
theorem eC {t:Tmp} {T T':TypeId} {v:Value} {R:Rep α} {x:α} {rs:List ResultVar} {es:List Ent} (r:Nat) (h:lk l t=some (.val (z05 v 0))) (hr:lr res r=some (v,.box T' [.rd R x])) (hT:zbt P T R.agg R.sz) (k:zvl P l res rs es):zvl P l res (.cell t T::rs) (.rd R x::es) :=
  ⟨⟨r,v,T',h,hr,.inl ⟨α,R,x,rfl,hT⟩⟩,k⟩
theorem z19w {es:List Ent} (h:∀ e∈es,e.flat):∀ {S w S' w'} {vs:List Value},z3i S w es vs→z3i S' w' es vs:=by
  intro S w S' w' vs hv
  induction es generalizing vs with
  | nil=>cases vs with | nil=>trivial | cons=>exact hv.elim
  | cons e es ih =>
    cases vs with
    | nil=>exact hv.elim
    | cons v vs=>exact ⟨h e (by simp) _ _ _ _ _ hv.1,ih (fun e he=>h e (by simp [he])) hv.2⟩
theorem zv0 {es:List Ent} (h:∀ e∈es,e.flat):(Ent.tup es).flat:=fun _ _ _ _ _ ⟨vs,h1,h2⟩=>⟨vs,z19w h h1,h2⟩
theorem fl0:∀ e∈([]:List Ent),e.flat:=by simp
theorem flC {e:Ent} {es:List Ent} (h:e.flat) (k:∀ e∈es,e.flat):∀ x∈e::es,x.flat:=fun x hx=>by
  rcases List.mem_cons.1 hx with rfl | hx
  · exact h
  · exact k x hx
theorem z37 {u:Value}:(Ent.val u).flat:=fun _ _ _ _ _ h=>h
theorem z1x {k:IntKind} {f:α→Int} {x:α}:(Ent.rd (z9b k f) x).flat:=fun _ _ _ _ _ h=>h
theorem z9l {x:Bool}:(Ent.rd z09 x).flat:=fun _ _ _ _ _ h=>h
end
end
section
open Go Go.RowKit Go.ChangeShapes Go.WideShapes Go.ChangeAt
abbrev zue (w:World):Blk:=Shr (fun _=>False) [] w
section
variable {H:Type} {enc:TypeId × Value→H} {P:Program} {w:World} {base:Nat} {spare:Nat→Bool} {held:Bool}
def Opn {α:Type} (enc:TypeId × Value→H) (P:Program) (w:World) (base:Nat) (spare:Nat→Bool) (held:Bool) (T:TypeId) (R:Rep α) (wf:α→Prop):Prop :=
  ∀ (fuel:Nat) (cs:List Value) (x:DataW H × List MemPlace),DataW.trod enc P w base spare held fuel T cs=some x→∃ y,R.rel (zue w) w cs y∧wf y
theorem Opn.num {α:Type} {k:IntKind} {f:α→Int} {wf:α→Prop} {T:TypeId} (hT:P.underlying T=some (.int k)) (hf:∀ n,(Lit.int k n).wf=true→∃ y,f y=n∧wf y):Opn enc P w base spare held T (z9b k f) wf:=fun fuel cs x h=>by
  obtain ⟨n,rfl,-,hw⟩:=DataW.trod_int hT h;obtain ⟨y,rfl,h2⟩:=hf n hw;exact ⟨y,rfl,h2⟩
def inI (x:Int):Prop:=-9223372036854775808≤x∧x≤9223372036854775807
theorem Opn.i64 {T:TypeId} (hT:P.underlying T=some (.int .i64)):Opn enc P w base spare held T z08 inI:=Opn.num hT (fun n h=>⟨n,rfl, by
  simp [Lit.wf,IntKind.min,IntKind.max,IntKind.signed,IntKind.bits] at h; unfold inI; omega⟩)
theorem Opn.u8 {T:TypeId} (hT:P.underlying T=some (.int .u8)):Opn enc P w base spare held T u8R (fun _=>True):=Opn.num hT (fun n h=>⟨UInt8.ofNat n.toNat, by
  simp [Lit.wf,IntKind.min,IntKind.max,IntKind.signed,IntKind.bits] at h; simp; omega,trivial⟩)
theorem Opn.u32 {T:TypeId} (hT:P.underlying T=some (.int .u32)):Opn enc P w base spare held T z0p (fun _=>True):=Opn.num hT (fun n h=>⟨UInt32.ofNat n.toNat, by
  simp [Lit.wf,IntKind.min,IntKind.max,IntKind.signed,IntKind.bits] at h; simp; omega,trivial⟩)
theorem Opn.u64 {T:TypeId} (hT:P.underlying T=some (.int .u64)):Opn enc P w base spare held T z2x (fun _=>True):=Opn.num hT (fun n h=>⟨UInt64.ofNat n.toNat, by
  simp [Lit.wf,IntKind.min,IntKind.max,IntKind.signed,IntKind.bits] at h; simp; omega,trivial⟩)
theorem Opn.str {T:TypeId} (hT:P.underlying T=some .string):Opn enc P w base spare held T z3q (fun s=>s.length≤9223372036854775807):=fun fuel cs x h=>by
  obtain ⟨s,rfl,-,hs⟩:=DataW.trod_string hT h
  exact ⟨s.data.toList, ⟨s, rfl, rfl⟩, by have : s.data.toList.length = s.size := by simp
                                          show s.data.toList.length≤_; rw [this]; exact hs⟩
theorem znp {α:Type} {R:Rep α} {S:Blk} {K:Nat→List Value} {F:Nat→α}:∀ (l:List Nat),(∀ i∈l,R.rel S w (K i) (F i))→z5r R S w (l.flatMap K) (l.map F)
  | [],_=>rfl
  | i::l,h=>⟨K i,_, by simp,h i (by simp),znp l (fun j hj=>h j (by simp [hj]))⟩
theorem zmj {K:Nat→List Value} {sz:Nat} (h0:0<sz):∀ (n:Nat) (j:Nat),(∀ i,i<n→(K i).length=sz)→j<n * sz→((List.range n).flatMap K)[j]? = (K (j / sz))[j % sz]?
  | 0,j,_,hj=>by simp at hj
  | n+1,j,hK,hj=>by
    have hl:((List.range n).flatMap K).length=n * sz:=by
      have:∀ m,m≤n→((List.range m).flatMap K).length=m * sz:=by
        intro m hm
        induction m with
        | zero=>simp
        | succ m ih=>rw [List.range_succ,List.flatMap_append,List.length_append,ih (by omega)]; simp [hK m (by omega),Nat.add_mul]
      exact this n (Nat.le_refl _)
    rw [List.range_succ,List.flatMap_append,List.getElem?_append,hl]
    split
    · exact zmj h0 n j (fun i hi=>hK i (by omega)) ‹_›
    · rename_i hge
      have e:(n+1) * sz=n * sz+sz:=by rw [Nat.add_mul]; omega
      have h1:j / sz=n:=by
        have:j / sz<n+1:=by rw [Nat.div_lt_iff_lt_mul h0]; omega
        have:n≤j / sz:=by rw [Nat.le_div_iff_mul_le h0]; omega
        omega
      have h2:j % sz=j - n * sz:=by
        have:=Nat.div_add_mod j sz; rw [h1,Nat.mul_comm] at this; omega
      rw [h1,h2]; simp
theorem Opn.slice {α : Type} [Inhabited α] {R : Rep α} {wf : α → Prop} {T e : TypeId} (hT : P.underlying T = some (.slice e)) (hc : P.cellsOf e = R.sz) (h0 : Nat.blt 0 R.sz = true) (k : Opn enc P w base spare held e R wf) :
    Opn enc P w base spare held T (z03 R) (fun l=>(∀ x∈l,wf x)∧l.length≤9223372036854775807):=fun fuel cs x h=>by
  have h0:0<R.sz:=Eq.mp Nat.blt_eq h0;rcases Go.Deep.open_slice hT h with ⟨rfl,-⟩ | ⟨a,len,cap,m,n,D,Pl,rfl,hb,hl,hm,hm2,-,hall⟩
  · exact ⟨[],⟨none,0,[],rfl,Rd.nil _ _,rfl, by simp⟩, by simp⟩
  · have hlm:len≤m:=by rw [hm2]; split <;> omega
    rw [hc] at hall
    obtain ⟨F,hF⟩:=Go.Deep.choose_lt (α:=List Value × α) (n:=len) (p:=fun i y=>w.cells? base (a.add (i * R.sz)) R.sz=some y.1∧R.rel (zue w) w y.1 y.2∧wf y.2) (fun i hi=>by
      obtain ⟨cs',h1,h2⟩:=hall i (by omega);obtain ⟨y,h3,h4⟩:=k n cs' _ h2
      exact ⟨(cs',y),h1,h3,h4⟩)
    have hK:∀ i,i<len→(F i).1.length=R.sz:=fun i hi=>R.len (hF i hi).2.1;have hcell:∀ i,i<len→∀ q,q<R.sz→w.cell? ((a.add (i * R.sz)).add q)=((F i).1)[q]? := fun i hi q hq=>(World.cells?_some (hF i hi).1).2.2 q hq;have hln:((List.range len).map fun i=>(F i).2).length=len:=by simp
    obtain ⟨bk,o,sp⟩:=a;have hspot:0<len→sp=none:=fun hp=>by
      have h1:=hcell 0 hp 0 h0;have h2:((F 0).1)[0]? = some ((F 0).1[0]'(by rw [hK 0 hp]; exact h0)):=List.getElem?_eq_getElem _;rw [h2] at h1
      simpa [Addr.add] using World.cell?_spot h1
    have hrel:=znp (R:=R) (S:=zue w) (w:=w) (K:=fun i=>(F i).1) (F:=fun i=>(F i).2) (List.range len) (fun i hi=>(hF i (by simpa using hi)).2.1);have hget:∀ j u,((List.range len).flatMap fun i=>(F i).1)[j]? = some u→w.cell? ⟨bk,o+j,none⟩=some u:=fun j u hu=>by
      have hlen:=hrel.len;rw [hln] at hlen;have hj:j<len * R.sz:=by have:=(List.getElem?_eq_some_iff.1 hu).1; rw [hlen] at this; exact this
      rw [zmj h0 len j hK hj] at hu;have hi:j / R.sz<len:=by rw [Nat.div_lt_iff_lt_mul h0]; exact hj
      have h2:=hcell (j / R.sz) hi (j % R.sz) (Nat.mod_lt _ h0);have hsp:=hspot (Nat.lt_of_le_of_lt (Nat.zero_le _) hi);subst hsp;rw [z5y,z5y] at h2;have e1:o+j / R.sz * R.sz+j % R.sz=o+j:=by
        have:=Nat.div_add_mod j R.sz; rw [Nat.mul_comm] at this; omega
      rw [e1] at h2;rw [h2]; exact hu
    refine ⟨(List.range len).map fun i=>(F i).2,⟨some ⟨bk,o,sp⟩,cap,_, by rw [hln],⟨by rw [hrel.len],?_⟩,hrel,?_⟩,?_, by rw [hln]; have:maxLen=9223372036854775807:=rfl; omega⟩
    · rw [hln]
      refine .inr ⟨bk,o,sp,cap,rfl,hl,hm,?_,hget⟩;by_cases h1:len=0
      · left; subst h1; rfl
      · right; exact hspot (by omega)
    · intro hne b hbb
      simp [sblk] at hbb;subst hbb;refine ⟨?_, fun r v c h=>by simp [lr,lk] at h, fun h=>h⟩
      cases hL:((List.range len).flatMap fun i=>(F i).1) with
      | nil=>exact absurd hL hne
      | cons u us=>exact World.block_lt_of_cell? w _ (hget 0 u (by rw [hL]; rfl))
    · intro x hx
      simp only [List.mem_map,List.mem_range] at hx;obtain ⟨i,hi,rfl⟩:=hx;exact (hF i hi).2.2
theorem z13n {α:Type} {R:Rep α} {S:Blk} (F:Nat→α):∀ (n:Nat) (cs:List Value),cs.length=n * R.sz→(∀ i,i<n→R.rel S w ((cs.drop (i * R.sz)).take R.sz) (F i))→z5r R S w cs ((List.range n).map F)
  | 0,cs,h,_=>by simp at h; subst h; rfl
  | n+1,cs,h,k=>by
    have e:(n+1) * R.sz=n * R.sz+R.sz:=by rw [Nat.add_mul]; omega
    rw [List.range_succ,List.map_append]
    have h1:=z13n (R:=R) (S:=S) F n (cs.take (n * R.sz)) (by simp; omega) (fun i hi=>by
      have e2:(i+1) * R.sz≤n * R.sz:=Nat.mul_le_mul_right _ (by omega);have e3:(i+1) * R.sz=i * R.sz+R.sz:=by rw [Nat.add_mul]; omega
      have:=k i (by omega)
      rw [List.drop_take,List.take_take,Nat.min_eq_left (by omega)]; exact this)
    have h2:=k n (by omega);have h3:(cs.drop (n * R.sz)).take R.sz=cs.drop (n * R.sz):=List.take_of_length_le (by simp; omega);rw [h3] at h2
    have:=h1.append (z5r.single h2)
    rwa [List.take_append_drop] at this
theorem Opn.arr {α : Type} [Inhabited α] {R : Rep α} {wf : α → Prop} {T e : TypeId} {n : Nat} (hT : P.underlying T = some (.array n e)) (hc : P.cellsOf e = R.sz) (hl : P.cellsOf T = n * R.sz) (k : Opn enc P w base spare held e R wf) :
    Opn enc P w base spare held T (z3m n R) (fun v=>∀ x∈v.toList,wf x):=fun fuel cs x h=>by
  obtain ⟨xs,m,-,-,hlen,hxl,hi⟩:=DataW.trod_array hT h;rw [hc] at hi
  obtain ⟨F,hF⟩:=Go.Deep.choose_lt (α:=α) (n:=n) (p:=fun i y=>R.rel (zue w) w ((cs.drop (i * R.sz)).take R.sz) y∧wf y) (fun i hi'=>by
    have h3:=hi i hi';rw [List.getElem?_eq_getElem (by omega)] at h3
    exact k m _ _ h3)
  have hrel:=z13n (R:=R) (S:=zue w) (w:=w) F n cs (by rw [hlen,hl]) (fun i hi'=>(hF i hi').1);have hv:(Vector.mk ((List.range n).map F).toArray (by simp):Vector α n).toList=(List.range n).map F:=by simp [Vector.toList]
  refine ⟨Vector.mk ((List.range n).map F).toArray (by simp),?_,?_⟩
  · show z5r R (zue w) w cs _
    rw [hv]; exact hrel
  · intro x hx
    rw [hv] at hx;simp only [List.mem_map,List.mem_range] at hx;obtain ⟨i,hi',rfl⟩:=hx;exact (hF i hi').2
def zjy {γ:Type} (enc:TypeId × Value→H) (P:Program) (w:World) (base:Nat) (spare:Nat→Bool) (held:Bool) (fs:List Field) (o:Nat) (R:Rep γ) (wf:γ→Prop):Prop :=
  ∀ (n:Nat) (cs:List Value),(∀ f∈fs,∃ y,DataW.trod enc P w base spare held n f.type ((cs.drop f.offset).take (P.cellsOf f.type))=some y)→cs.length=o+R.sz→∃ y,R.rel (zue w) w (cs.drop o) y∧wf y
theorem zjy.nil {o:Nat}:zjy enc P w base spare held [] o zdb (fun _=>True):=fun n cs _ hl=>by
  refine ⟨(),?_,trivial⟩;show cs.drop o=[];exact List.drop_eq_nil_of_le (by rw [hl]; exact Nat.le_refl _)
theorem zjy.cons {α β : Type} {R : Rep α} {R2 : Rep β} {wf : α → Prop} {wf2 : β → Prop} {f : Field} {fs : List Field} {o : Nat} (h1 : Opn enc P w base spare held f.type R wf) (ho : f.offset = o) (hc : P.cellsOf f.type = R.sz) (h2 : zjy enc P w base spare held fs (o + R.sz) R2 wf2) :
    zjy enc P w base spare held (f::fs) o (z4y R R2) (fun p=>wf p.1∧wf2 p.2):=fun n cs h hl=>by
  obtain ⟨x,hx⟩:=h f (by simp);rw [ho,hc] at hx;obtain ⟨y,k1,k2⟩:=h1 _ _ _ hx;obtain ⟨z,k3,k4⟩:=h2 n cs (fun f hf=>h f (by simp [hf])) (by rw [hl]; show o+(R.sz+R2.sz)=_; omega);refine ⟨(y,z),⟨_,_,?_,k1,k3⟩,k2,k4⟩;rw [← List.drop_drop,List.take_append_drop]
theorem Opn.struct {β γ : Type} {R : Rep γ} {g : β → γ} {wf : γ → Prop} {wf' : β → Prop} {T : TypeId} {fs : Array Field} (hT : P.underlying T = some (.struct fs)) (hl : P.cellsOf T = R.sz) (k : zjy enc P w base spare held fs.toList 0 R wf) (of : γ → β) (hg : ∀ y, g (of y) = y) (hw : ∀ y, wf y → wf' (of y)) :
    Opn enc P w base spare held T (zjw g R) wf':=fun fuel cs x h=>by
  obtain ⟨xs,n,-,-,hlen,hxl,hi⟩:=DataW.trod_struct hT h
  obtain ⟨y,h1,h2⟩:=k n cs (fun f hf=>by
    obtain ⟨i,hi',rfl⟩:=List.mem_iff_getElem.1 hf;have hi'':i<fs.size:=by simpa using hi'
    have:=hi i (fs[i]) (by simp [hi''])
    rw [List.getElem?_eq_getElem (by omega)] at this
    exact ⟨_, by simpa using this⟩) (by rw [hlen,hl]; omega)
  refine ⟨of y,?_,hw y h2⟩;show R.rel (zue w) w cs (g (of y));rw [hg]; simpa using h1
theorem Opn.arg {α : Type} {R : Rep α} {wf : α → Prop} {T : TypeId} {v : Value} {d : DataW H} {ps : List MemPlace} (k : Opn enc P w base spare held T R wf) (h : DataW.Trod enc P w base spare held T v d ps) (hv : R.agg = false ∧ v.oneCell' = true ∨ R.agg = true ∧ ∃ cs, v = .agg cs) :
    ∃ y,(Ent.rd R y).holds (zue w) w v∧wf y:=by
  obtain ⟨fuel,hf⟩:=h;obtain ⟨y,h1,h2⟩:=k fuel _ _ hf;refine ⟨y,⟨_,h1,?_⟩,h2⟩;rcases hv with ⟨ha,h3⟩ | ⟨ha,cs,rfl⟩
  · rw [z8y h3]; simp [Rep.val,ha]
  · simp [Rep.val,ha,Value.cells]
theorem ok3 {P:Program} {w:World} {r:Reach} {b:Nat} {T:TypeId} {v:Value} (hT:P.underlying T=some .string) (h:Value.okWide P w r b T v):v.oneCell'=true:=by
  obtain ⟨n,rfl⟩:=okWide_string hT h; rfl
theorem ok5 {P:Program} {w:World} {r:Reach} {b:Nat} {T:TypeId} {v:Value} {fs:Array Field} (hT:P.underlying T=some (.struct fs)) (h:Value.okWide P w r b T v):∃ cs,v=.agg cs:=by
  obtain ⟨cs,h,_⟩:=okWide_struct hT h; exact ⟨cs,h⟩
end
end
section
open Go Go.RowKit
theorem zoj {S:Blk} {w:World}:∀ {b:List UInt8} {xs:List Value},z5r u8R S w xs b→xs=b.map fun c=>.int .u8 (c.toNat:Int)
 | [],xs,h=>by simp only [z5r] at h; simp [h]
 | c::b,xs,h=>by
  obtain ⟨u,d,rfl,h1,h2⟩:=h;have h1:u=[.int .u8 (c.toNat:Int)]:=h1;rw [zoj h2,h1]; rfl
theorem z156 (a b:UInt32):(if (a.toNat:Int)<(b.toNat:Int) then (b.toNat:Int) else (a.toNat:Int))=((max a b).toNat:Int):=by
 rw [show max a b=if a≤b then b else a from rfl];by_cases h:a≤b
 ·have:=UInt32.le_iff_toNat_le.1 h
  rw [if_pos h]; split <;> omega
 ·have:¬ a.toNat≤b.toNat:=fun k=>h (UInt32.le_iff_toNat_le.2 k)
  rw [if_neg h]; split <;> omega
section
variable {α:Type} {C:World→World→Prop} {P:Program} {Γ:Ctx} {l:z1p} {res:Res} {d:Tmp} {ty:TypeId} {pos:String} {after:Array Edge} {g:Option (Nat × Bool)}
theorem W.max {x y:Operand} {at_:Array TypeId} {a b:UInt32} (hx:opE l x=some (.rd z0p a)) (hy:opE l y=some (.rd z0p b)):Run C P Γ l res ⟨some d,.call ⟨.builtin .max,#[x,y],at_⟩,ty,pos,after,g⟩ (.rd z0p (Max.max a b)):=maxi hx hy (z156 a b)
theorem cutV {R:Rep α} {n:Nat} {v:Vector α n} {x:Operand} {T e:TypeId} {z:Value} {by_:Nat} (hx:opE l x=some (.rp (z3m n R) v)) (hT:P.underlying T=some (.array n e)) (hE:TI P e z R.sz by_) (hn:Nat.blt 0 n=true) (hm:Nat.ble n 281474976710656=true) (h0:Nat.blt 0 R.sz=true) :
  Run C P Γ l res ⟨some d,.slice T x none none none,ty,pos,after,g⟩ (.rd (z03 R) v.toList):=fun a w ha=>by
 have hn:0<n:=Eq.mp Nat.blt_eq hn;have hm:n≤281474976710656:=Nat.le_of_ble_eq_true hm;obtain ⟨b,o,cs,h1,h2,h3,h4⟩:=ha.vl hx;have hlen:v.toList.length=n:=by simp
 refine ⟨.slice (some ⟨b,o,none⟩) v.toList.length n, fun w' _=>?_,_,⟨some ⟨b,o,none⟩,n,cs,rfl,⟨by rw [hlen]; exact (z5r.len (show z5r R _ w cs v.toList from h3)).trans (by rw [hlen]),.inr ⟨b,o,none,n,rfl, by omega, by unfold maxLen; omega,.inr rfl,h4⟩⟩,h3, fun _ bb hbb=>by cases hbb; exact h2⟩,rfl⟩;rw [hlen];have hne:¬ n=0:=by omega
 simp [execOp,h1,Instr.sliceAt,run_underlying hT,Instr.sliceBounds,Instr.sureAddr,z3a hE,Sem.run_pure,Addr.add]
end
def z9a (b:List UInt8) (q:Nat):Nat × Nat:=Utf8.decode ⟨b.toArray⟩ q
def z4l.iter (b:List UInt8) (q:Nat):z4l where
 nil _ _ _:=False
 nilm _ h:=h
 nilb h:=h.elim
 rel S w v o:=∃ g s,v=.pointer (some ⟨g,0,none⟩)∧o=.stringIter s q∧s.data.toList=b
 mono k h:=h
section
variable {ρ:Type} {P:Program} {Γ:Ctx} {l:z1p} {res:Res} {m1 m2:Option ρ} {os rest:List Oper} {N:ρ→Exit→Act→World→Prop} {d:Tmp} {ty:TypeId} {pos:String} {after:Array Edge} {g:Option (Nat × Bool)}
theorem rng (r:Nat) {T:TypeId} {x:Operand} {b:List UInt8} (hx:opE l x=some (.rd z3q b)) (hT:P.underlying T=some .string):Eff P Γ l res ⟨some d,.range T x,ty,pos,after,g⟩ r (fun v=>(v,.iter b 0)):=fun a w ha=>by
 obtain ⟨s,h1,rfl⟩:=zc8 (ha.vl hx);have hrun:(execOp a.eval ⟨some d,.range T x,ty,pos,after,g⟩).run P w=.ok (.value (.pointer (some ⟨w.heap.size,0,none⟩))) (w.alloc (.stringIter s 0)):=by
  simp [execOp,h1,run_range_string w T s hT,World.iter]
 exact ⟨_,_,hrun,ha.upd r (c:=.iter s.data.toList 0) (zg0 w (.stringIter s 0)) (by simp) (fun b hb=>.inr (by simp [z58] at hb; omega)) (v:=.pointer (some ⟨w.heap.size,0,none⟩))
  (fun S' k'=>.inr ⟨w.heap.size,_,rfl, by show (w.heap.push (Obj.stringIter s 0))[w.heap.size]? = _; simp,_,s,rfl,rfl,rfl⟩),rfl,none,zg0 w _, by simp⟩
theorem z18f {x:Operand} {v:Value} {b:List UInt8} {q:Nat} (r:Nat) (hn:Nat.blt d Γ.n=true) (hx:opE l x=some (.val v)) (hr:lr res r=some (v,.iter b q))
  (ht:q<b.length→GL P os (Sta Γ ((d,.tup [.rd z09 true,.rd z08 (q:Int),.rd i32R ((z9a b q).1:Int)])::l) ((r,some (v,.iter b (q+(z9a b q).2)))::res)) rest N m1)
  (hf:¬ q<b.length→GL P os (Sta Γ ((d,.tup [.rd z09 false])::l) res) rest N m2) :
  GL P os (Sta Γ l res) (⟨some d,.next x true,ty,pos,after,none⟩::rest) N (if q<b.length then m1 else m2):=fun a w ha ρ hm=>by
 have h1:=(ha.vl hx).1;rcases ha.conts r v _ hr with h2 | ⟨b',o,h2,h3,g',s,rfl,rfl,hs⟩
 ·exact h2.elim
 ·simp only [z58,Option.some.injEq] at h2;subst h2;have hs2:s=⟨b.toArray⟩:=by
   cases s with | mk data=>simp only at hs; rw [← hs]
  have hsz:s.size=b.length:=by rw [hs2]; rfl
  by_cases hq:q<b.length
  ·rw [if_pos hq] at hm;have hrun:(execOp a.eval ⟨some d,.next x true,ty,pos,after,none⟩).run P w=.ok (.value (.tuple #[.bool true,.int .i64 (q:Int),.int .i32 ((z9a b q).1:Int)])) { w with heap:=w.heap.setIfInBounds g' (.stringIter s (q+(z9a b q).2)) }:=by
    simp [execOp,h1,Instr.next,getObj,setObj,Sem.run,h3,hsz,hq,goInt,← hs2,z9a]
   have hlt:g'<w.heap.size:=(Array.getElem?_eq_some_iff.1 h3).1;have hgr:w.grownBy { w with heap:=w.heap.setIfInBounds g' (.stringIter s (q+(z9a b q).2)) } (some g'):=by
    refine ⟨rfl,rfl,rfl, by simp, fun k hk hne=>?_⟩;have hne:k≠g':=fun e=>hne (by rw [e]);simp only [Array.getElem?_setIfInBounds];rw [if_neg (fun e=>hne e.symm)]
   obtain ⟨h4,h5⟩:=ha.upd r (v:=.pointer (some ⟨g',0,none⟩)) (c:=.iter b (q+(z9a b q).2)) hgr (fun b hb=>⟨_,_,hr, by cases hb; rfl⟩) (fun b hb=>.inl ⟨_,_,hr,hb⟩)
    (fun S' k'=>.inr ⟨g',.stringIter s (q+(z9a b q).2),rfl, by simp [hlt],g',s,rfl,rfl,hs⟩)
   refine st (zcn rfl) hrun (ht hq _ _ (h4.put hn ⟨[_,_,_],⟨⟨_,rfl,rfl⟩,z8b,z8b,trivial⟩,rfl⟩) ρ hm)
  ·rw [if_neg hq] at hm;have hrun:(execOp a.eval ⟨some d,.next x true,ty,pos,after,none⟩).run P w=.ok (.value (.tuple #[.bool false])) w:=by
    simp [execOp,h1,Instr.next,getObj,Sem.run,h3,hsz,hq]
   refine st (zcn rfl) hrun (hf hq _ _ (ha.put hn ⟨[_],⟨⟨_,rfl,rfl⟩,trivial⟩,rfl⟩) ρ hm)
end
end
section
open Go Go.RowKit
section
variable {ρ:Type} {P:Program} {Γ:Ctx} {l l0:z1p} {res res0:Res} {ws:List Nat} {m m1 m2:Option ρ} {os:List Oper} {N:ρ→Exit→Act→World→Prop}
 {d:Tmp} {op:Op} {ty:TypeId} {pos:String} {after:Array Edge} {g:Option (Nat × Bool)} {fuel i:Nat} {listed listed':Array Bool} {rest:List Oper}
def GO (P:Program) (os:List Oper) (Γ:Ctx) (l0:z1p) (res0:Res) (ws:List Nat) (l:z1p) (res:Res) (N:ρ→Exit→Act→World→Prop) (fuel:Nat) (listed:Array Bool) (i:Nat) (m:Option ρ):Prop :=
 ∀ a w0 w,SH Γ l0 res0 ws l res a w0 w→∀ r,m=some r→wpOp P os.toArray (N r) i (fun a' w'=>CW res0 ws w0 w'∧wpAnyH P .any os.toArray (N r) (CW res0 ws w0) fuel (listed.setIfInBounds i true) a' w') a w
def AllP {α:Type} (p:α→Prop):List α→Prop
 | []=>True
 | x::l=>p x∧AllP p l
theorem AllP.mem {α:Type} {p:α→Prop}:∀ {l:List α},AllP p l→∀ x∈l,p x
 | [],_,x,h=>by simp at h
 | y::l,h,x,hx=>by
  rcases List.mem_cons.1 hx with rfl | hx
  ·exact h.1
  ·exact AllP.mem h.2 x hx
theorem hAlt (is:List Nat) (hr:Region.ready .any os.toArray listed=is) (hne:is.isEmpty=false) (h:AllP (fun i=>GO P os Γ l0 res0 ws l res N fuel listed i m) is):GH P os Γ l0 res0 ws l res N (fuel+1) listed m:=fun a w0 w ha r hm =>
 wpAnyH_all hr (by intro e; rw [e] at hne; cases hne) (fun i hi=>h.mem i hi a w0 w ha r hm)
theorem z19d {σ:Type} {f:FuncId} {F:Func} {b:Code} {args:List Operand} {ats:Array TypeId} {pin:List Ent} {rin:Res} {m1:Option σ} {q:σ→(Nat→Value)→zn0} {kk:σ→Option ρ} (i:Nat) (ns:List Nat) (mp:List (Nat × Nat)) (e0:σ→(Nat→Value)→Ent)
  (hi:os.toArray[i]? = some ⟨some d,.call ⟨.value (.func f),args.toArray,ats⟩,ty,pos,after,g⟩) (hl:listed.setIfInBounds i true=listed') (hg:Grd os l ⟨some d,.call ⟨.value (.func f),args.toArray,ats⟩,ty,pos,after,g⟩ true) (hn:Nat.blt d Γ.n=true)
  (hF:P.funcs[f]? = some F) (hB:F.body=some b) (hnm:(F.name == "runtime.NumGoroutine")=false) (hS:z1u P f pin rin m1 q) (hA:z9j l args pin) (hr:zby res rin ns) (hw:ns.all (fun n=>ws.contains n)=true)
  (he0:∀ s nv v S w S' w',(zks (q s nv).ret).holds S w v→(e0 s nv).holds S' w' v)
  (k:∀ s nv,GH P os Γ ((d,e0 s nv)::l0) res0 ws ((d,zks (q s nv).ret)::l) (aft ns mp (q s nv).res res) N fuel listed' (kk s)) :
  GO P os Γ l0 res0 ws l res N fuel listed i (m1 >>= kk):=fun a w0 w ha r hm=>by
 cases hm1:m1 with
 | none=>rw [hm1] at hm; cases hm
 | some s =>
  rw [hm1] at hm;have hgw:=hg.wanted ha.s;unfold wpOp;simp only [hi,hgw,if_true];refine .inl ?_;have hrun:(execOp a.eval ⟨some d,.call ⟨.value (.func f),args.toArray,ats⟩,ty,pos,after,g⟩).run P w=.ok (.enter f (args.map a.eval).toArray) w:=by
   have e0:a.eval (.func f)=.func (.func f) #[] #[]:=rfl;simp [execOp,resolve,e0,Deferred.ofValue,invoke,zd7 hF hB hnm]
  unfold Oper.wp; rw [hrun];simp only [Oper.upon];have hH:∀ b,(fun b=>Γ.H b∨∃ r v c,lr res r=some (v,c)∧ns.contains r=false∧z58 v=some b) b↔Γ.H b∨∃ r v c,lr res r=some (v,c)∧ns.contains r=false∧z58 v=some b:=fun _=>Iff.rfl;obtain ⟨h1,h2⟩:=znk.of ha.s hr hH;refine (hS s hm1 _ _ w (z9j.get ha.s h2 hA) h1).mono fun e w' hR=>?_;obtain ⟨nv,vs,rfl,hp⟩:=hR;obtain ⟨⟨h3,h5⟩,h4,h6⟩:=ha.s.called (mp:=mp) hr hH hp
  have hlent:∀ b,Bof rin b→(∃ r0 v0 c0,ws.contains r0=true∧lr res0 r0=some (v0,c0)∧z58 v0=some b)∨w0.heap.size≤b:=fun b ⟨r',v,c,q1,q2⟩=>by
   obtain ⟨n,q3,q4⟩:=hr.get q1;have hn':ws.contains n=true:=by simpa using (List.all_eq_true.1 hw) n q3
   exact ha.wsp n v c b hn' q4 q2
  have hcw:CW res0 ws w0 w':=by
   refine zl0.tr ha.cw hp.keep (fun b hb=>⟨Nat.lt_of_lt_of_le hb.1 ha.cw.size, fun hB=>?_⟩);rcases hlent b hB with ⟨r0,v0,c0,q1,q2,q3⟩ | q1
   ·exact hb.2 r0 v0 c0 q1 q2 q3
   ·have:=hb.1; omega
  refine ⟨hcw,?_⟩;rw [hl];refine k s nv _ w0 w' (SH.put ⟨ha.s0,h3,hcw,ha.st.tr h5, fun r2 v2 c2 b2 k1 k2 k3=>?_⟩ hn (he0 s nv _ _ _ _ _ h4) h4) r hm;rcases zj6 k2 with ⟨k',q1,q2⟩ | ⟨q1,q2⟩
  ·rcases hp.own k' v2 c2 q2 b2 k3 with q3 | q3
   ·exact .inr (Nat.le_trans ha.cw.size q3)
   ·exact hlent b2 q3
  ·exact ha.wsp r2 v2 c2 b2 k1 q2 k3
theorem oRun {e0 e:Ent} (i:Nat) (hi:os.toArray[i]? = some ⟨some d,op,ty,pos,after,g⟩) (hg:Grd os l ⟨some d,op,ty,pos,after,g⟩ true) (hn:Nat.blt d Γ.n=true) (hl:listed.setIfInBounds i true=listed')
  (h0:∀ S w S' w' v,e.holds S w v→e0.holds S' w' v) (he:Run Eq P Γ l res ⟨some d,op,ty,pos,after,g⟩ e) (k:GH P os Γ ((d,e0)::l0) res0 ws ((d,e)::l) res N fuel listed' m):GO P os Γ l0 res0 ws l res N fuel listed i m:=fun a w0 w ha ρ' hm=>by
 obtain ⟨u,h1,h2⟩:=he a w ha.s;have hgw:=hg.wanted ha.s;unfold wpOp;simp only [hi,hgw,if_true];refine .inl ?_;unfold Oper.wp; rw [h1 w rfl];refine ⟨ha.cw,?_⟩;rw [hl];exact k _ w0 w (ha.put hn (h0 _ _ _ _ _ h2) h2) ρ' hm
theorem z17p {σ:Type} {f:FuncId} {F:Func} {b:Code} {args:List Operand} {ats:Array TypeId} {pin:List Ent} {rin:Res} {m1:Option σ} {q:σ→(Nat→Value)→zn0} {kk:σ→Option ρ} (i:Nat) (ns:List Nat) (mp:List (Nat × Nat))
  (hi:os.toArray[i]? = some ⟨some d,.call ⟨.value (.func f),args.toArray,ats⟩,ty,pos,after,g⟩) (hl:listed.setIfInBounds i true=listed') (hg:Grd os l ⟨some d,.call ⟨.value (.func f),args.toArray,ats⟩,ty,pos,after,g⟩ true) (hn:Nat.blt d Γ.n=true)
  (hF:P.funcs[f]? = some F) (hB:F.body=some b) (hnm:(F.name == "runtime.NumGoroutine")=false) (hS:z1u P f pin rin m1 q) (hA:z9j l args pin) (hr:zby res rin ns) (hw:ns.all (fun n=>ws.contains n)=true)
  (hfl:∀ s nv,(zks (q s nv).ret).flat) (k:∀ s nv,GH P os Γ ((d,zks (q s nv).ret)::l0) res0 ws ((d,zks (q s nv).ret)::l) (aft ns mp (q s nv).res res) N fuel listed' (kk s)) :
  GO P os Γ l0 res0 ws l res N fuel listed i (m1 >>= kk):=z19d i ns mp (fun s nv=>zks (q s nv).ret) hi hl hg hn hF hB hnm hS hA hr hw (fun s nv v S w S' w' h=>hfl s nv S w S' w' v h) k
end
end
section
open Go Go.RowKit
section
variable {P:Program} {w:World}
theorem zhi:∀ (l:List UInt8) (b o:Nat) (acc:ByteArray),(∀ j u,(l.map fun c=>Value.int .u8 (c.toNat:Int))[j]? = some u→w.cell? ⟨b,o+j,none⟩=some u) →
  ∃ s,(Extern.Bytes.loadBytes ⟨b,o,none⟩ l.length acc).run P w=.ok s w∧s.data.toList=acc.data.toList++l
 | [],b,o,acc,h=>⟨acc,rfl, by simp⟩
 | x::l,b,o,acc,h=>by
  have h0:w.cell? ⟨b,o,none⟩=some (.int .u8 (x.toNat:Int)):=h 0 _ rfl;obtain ⟨s,h1,h2⟩:=zhi l b (o+1) (acc.push x) (fun j u hu=>by rw [Nat.add_assoc,Nat.add_comm 1 j]; exact h (j+1) u hu);refine ⟨s,?_, by rw [h2]; simp⟩
  have hx:((x.toNat:Nat):Int).toNat.toUInt8=x:=by simp
  rw [show (x::l).length=l.length+1 from rfl];unfold Extern.Bytes.loadBytes;simp [h0,z5y]
  simpa using h1
theorem zkk {p:Option Addr} {c:Nat} {l:List UInt8} {xs:List Value} (h:Rd w (.slice p l.length c) l.length 1 xs) (hx:xs=l.map fun c=>Value.int .u8 (c.toNat:Int)):∃ s,(Extern.Bytes.bytesOf (.slice p l.length c)).run P w=.ok s w∧s.data.toList=l:=by
 rcases h.2 with ⟨hv,h0⟩ | ⟨b,o,sp,cap,hv,h1,h2,hsp,h3⟩
 ·simp only [Value.slice.injEq] at hv;obtain ⟨rfl,hl,-⟩:=hv
  have:l=[]:=List.length_eq_zero_iff.1 hl
  subst this;exact ⟨.empty,rfl,rfl⟩
 ·simp only [Value.slice.injEq,true_and] at hv;obtain ⟨rfl,-⟩:=hv;rcases hsp with he | rfl
  ·have:l=[]:=by rw [hx] at he; simpa using he
   subst this; exact ⟨.empty,rfl,rfl⟩
  ·obtain ⟨s,h4,h5⟩:=zhi l b o .empty (by rw [← hx]; exact h3);exact ⟨s,h4, by rw [h5]; rfl⟩
theorem zkj {p q:Option Addr} {c d:Nat} {x y:List UInt8} {xs ys:List Value} (hx:Rd w (.slice p x.length c) x.length 1 xs) (hx':xs=x.map fun c=>Value.int .u8 (c.toNat:Int)) (hy:Rd w (.slice q y.length d) y.length 1 ys) (hy':ys=y.map fun c=>Value.int .u8 (c.toNat:Int)) :
  (Extern.BytealgCompare.compare #[.slice p x.length c,.slice q y.length d]).run P w=.ok (.int .i64 (Lib.compareBytes x y)) w:=by
 obtain ⟨s,h1,h2⟩:=zkk (P:=P) hx hx';obtain ⟨t,h3,h4⟩:=zkk (P:=P) hy hy'
 change Sem.run P (do pure (goInt (Extern.BytealgCompare.cmp (← Extern.Bytes.bytesOf (.slice p x.length c)) (← Extern.Bytes.bytesOf (.slice q y.length d))))) w=_
 simp only [Sem.run_bind,h1,h3,Sem.run_pure,Result.andThen];rw [Lib.cmp_eq,h2,h4];rfl
end
section
variable {ρ:Type} {C:World→World→Prop} {P:Program} {Γ:Ctx} {l:z1p} {res:Res} {m:Option ρ} {os rest:List Oper} {N:ρ→Exit→Act→World→Prop} {d:Tmp} {ty:TypeId} {pos:String} {after:Array Edge} {g:Option (Nat × Bool)}
theorem z12v {a:Act} {w w':World} {fn:FuncId} {args:Array Operand} {vs:Array Value} {ats:Array TypeId} {F:Func} {e:Array Value→Sem Value} {v:Value}
  (hF:P.funcs[fn]? = some F) (hnm:(F.name == "runtime.NumGoroutine")=false) (hB:F.body.isNone=true) (hn:Extern.findNext F=none) (he:Extern.find F=some e)
  (hvs:args.map a.eval=vs) (hr:(e vs).run P w=.ok v w'):(execOp a.eval ⟨some d,.call ⟨.value (.func fn),args,ats⟩,ty,pos,after,g⟩).run P w=.ok (.value v) w':=by
 have e0:a.eval (.func fn)=.func (.func fn) #[] #[]:=rfl;simp [execOp,resolve,e0,Deferred.ofValue,invoke,hvs,run_callFunc_extern hF hnm hB hn he,hr]
theorem cmpB {ws:List Nat} [LC C res ws] {fn:FuncId} {x y:Operand} {ats:Array TypeId} {F:Func} {b c:List UInt8} (hx:opE l x=some (.rd (z03 u8R) b)) (hy:opE l y=some (.rd (z03 u8R) c)) (hF:P.funcs[fn]? = some F) (hnm:(F.name == "runtime.NumGoroutine")=false) (hB:F.body.isNone=true) (hn:Extern.findNext F=none) (he:Extern.find F=some Extern.BytealgCompare.compare) :
  Run C P Γ l res ⟨some d,.call ⟨.value (.func fn),#[x,y],ats⟩,ty,pos,after,g⟩ (.rd z08 (Lib.compareBytes b c)):=fun a w ha=>by
 obtain ⟨cs,⟨p,cp,xs,k1,k2,k3,k4⟩,k5⟩:=ha.vl hx;subst k1;have k5:a.eval x=.slice p b.length cp:=k5;obtain ⟨ds,⟨q,cq,ys,j1,j2,j3,j4⟩,j5⟩:=ha.vl hy;subst j1;have j5:a.eval y=.slice q c.length cq:=j5;refine ⟨_, fun w' hw'=>?_,z8b⟩;have stay:z9q (Shr Γ.H res w) (Shr Γ.H res w') w w':=CW.stay hw';exact z12v hF hnm hB hn he (by simp [k5,j5]) (zkj (k2.stay k4 stay) (zoj k3) (j2.stay j4 stay) (zoj j3))
theorem z116 {x:Operand} {S D e:TypeId} {b:List UInt8} {u:Unit} (hn:Nat.blt d Γ.n=true) (hx:opE l x=some (.rd z3q b)) (hb:chk (b.length≤281474976710656)=some u) (hS:P.underlying S=some .string) (hD:P.underlying D=some (.slice e)) (he:P.underlying e=some (.int .u8))
  (k:GL P os (Sta Γ ((d,.rd (z03 u8R) b)::l) res) rest N m):GL P os (Sta Γ l res) (⟨some d,.convert S D x,ty,pos,after,none⟩::rest) N m:=fun a w ha ρ hm=>by
 have hb:=z5h hb;obtain ⟨s,k1,rfl⟩:=zc8 (ha.vl hx);have hsz:s.data.toList.length=s.size:=by simp
 rw [hsz] at hb;generalize hw:(w.drew.alloc (.cells (bytesRow s (grownCap w s.size 0 e)) e ((bytesRow s (grownCap w s.size 0 e)).size,(bytesRow s (grownCap w s.size 0 e)).size+1)))=w';have hrun:(execOp a.eval ⟨some d,.convert S D x,ty,pos,after,none⟩).run P w=.ok (.value (.slice (some ⟨w.heap.size,0,none⟩) s.size (grownCap w s.size 0 e))) w':=by
  have:=run_bytes_of_string w S D e s hS hD he
  rw [hw] at this;simp [execOp,k1,this]
 have hE:Ext w w':=by rw [← hw]; exact Ext.tr (Ext.dr Ext.rfl') (Ext.al _ _)
 have hcell:w'.heap[w.heap.size]? = some (.cells (bytesRow s (grownCap w s.size 0 e)) e ((bytesRow s (grownCap w s.size 0 e)).size,(bytesRow s (grownCap w s.size 0 e)).size+1)):=by
  rw [← hw];show (w.heap.push _)[w.heap.size]? = _
  simp
 have ha':=ha.ext hE;have hnew:Shr Γ.H res w' w.heap.size:=by
  refine ⟨(Array.getElem?_eq_some_iff.1 hcell).1, fun r v c hr e=>?_, fun hH=>?_⟩
  ·exact absurd ((ha.conts r v c hr).lt e) (by omega)
  ·have h1:=ha.old _ (ha.hid _ hH);have h2:=ha.keep.size;omega
 refine st (zcn rfl) hrun (k _ _ (ha'.put hn ⟨_,⟨some ⟨w.heap.size,0,none⟩,grownCap w s.size 0 e,s.data.toList.map fun c=>.int .u8 (c.toNat:Int),rfl,⟨by simp [u8R,z9b],.inr ⟨w.heap.size,0,none,grownCap w s.size 0 e,rfl,?_,?_,.inr rfl, fun j u hu=>?_⟩⟩,?_, fun _ bb hbb=>by cases hbb; exact hnew⟩, by rw [← hsz]; rfl⟩) ρ hm)
 ·rw [hsz]; exact grownCap_ge w s.size 0 e
 ·exact grownCap_le_maxLen w s.size 0 e (by unfold maxLen; omega)
 ·have hj:j<s.data.size:=by
   have:=(List.getElem?_eq_some_iff.1 hu).1
   simpa using this
  have h1:u=.int .u8 (s.data[j].toNat:Int):=by
   rw [List.getElem?_map,List.getElem?_eq_getElem (by simpa using hj)] at hu;simp only [Option.map_some,Option.some.injEq] at hu;rw [← hu]; simp
  unfold World.cell?;simp only [hcell];rw [h1,Nat.zero_add];exact bytesRow_at s _ j hj
 ·have:∀ b:List UInt8,z5r u8R (Shr Γ.H res w') w' (b.map fun c=>.int .u8 (c.toNat:Int)) b:=by
   intro b
   induction b with
   | nil=>rfl
   | cons c b ih=>exact ⟨[_],_,rfl,rfl,ih⟩
  exact this _
end
end
section
open Go Go.RowKit
section
variable {α:Type} {ρ:Type} {C:World→World→Prop} {P:Program} {Γ:Ctx} {l:z1p} {res:Res} {m:Option ρ} {os rest:List Oper} {N:ρ→Exit→Act→World→Prop} {d:Tmp} {ty:TypeId} {pos:String} {after:Array Edge} {g:Option (Nat × Bool)}
theorem bldG {R:Rep α} {n:Nat} {x0 x':Vector α n} {T e:TypeId} {z ze:Value} {sz by_ by2:Nat} {parts:Array (Nat × Operand)} (hT:P.underlying T=some (.array n e)) (hI:TI P T z sz by_) (hz:Zr (z3m n R) z.cells.toList x0) (hE:TI P e ze R.sz by2)
  (h:Bld l (fun i:Nat=>some (i * R.sz,R.sz)) (z3m n R) parts.toList x0 x'):Run C P Γ l res ⟨some d,.build T parts,ty,pos,after,g⟩ (.rd (z3m n R) x'):=fun a w ha=>by
 obtain ⟨C',h1,h2⟩:=h.get ha (hz _ w);refine ⟨.agg C', fun w' _=>zlm rfl ?_,C'.toList,h2, by simp [Rep.val,z3m]⟩;have e2:(parts.map fun (i,x)=>(i,a.eval x)).toList=parts.toList.map fun p=>(p.1,a.eval p.2):=by simp
 unfold Instr.build;simp only [Sem.run_bind,zdr hI,Result.andThen,run_underlying hT,z3a hE,e2,h1];rfl
end
end
section
open Go Go.RowKit
variable {ro:Option Nat}
def Sp {α:Type} (R:Rep α) (x:α) (es:List Ent):Prop:=R.agg=true∧∀ S w cs,R.rel S w cs x↔∃ vs,z3i S w es vs∧z8u vs=cs
theorem Sp.unit:Sp zdb () []:=⟨rfl, fun S w cs=>⟨fun h=>⟨[],trivial,(show cs=[] from h).symm⟩, fun ⟨vs,h1,h2⟩=>by
 match vs,h1 with
 | [],_=>exact h2.symm⟩⟩
theorem Sp.prod {α β:Type} {R:Rep α} {T:Rep β} {x:α} {y:β} {es:List Ent} (h:Sp T y es):Sp (z4y R T) (x,y) (.rd R x::es):=⟨rfl, fun S w cs=>⟨fun ⟨c,d,h1,h2,h3⟩=>by
  obtain ⟨vs,k1,k2⟩:=(h.2 S w d).1 h3;exact ⟨R.val c::vs,⟨⟨c,h2,rfl⟩,k1⟩, by rw [z43,Rep.val_cells h2,k2,h1]⟩, fun ⟨vs,h1,h2⟩=>by
  match vs,h1 with
  | v::vs,⟨⟨c,k1,k2⟩,k3⟩ =>
   subst k2;rw [z43,Rep.val_cells k1] at h2
   exact ⟨c,_,h2.symm,k1,(h.2 S w _).2 ⟨vs,k3,rfl⟩⟩⟩⟩
theorem Sp.via {α β:Type} {g:β→α} {R:Rep α} {x:β} {es:List Ent} (h:Sp R (g x) es):Sp (zjw g R) x es:=⟨h.1,h.2⟩
section
variable {ρ:Type} {P:Program} {Γ:Ctx} {l:z1p} {res:Res} {m:Option ρ} {a:Act} {w:World}
theorem Sta.recont (ha:Sta Γ l res a w) (r:Nat) {v:Value} {c c':z4l} (hr:lr res r=some (v,c)) (h:c.holds (Shr Γ.H res w) w v→c'.holds (Shr Γ.H res w) w v):Sta Γ l ((r,some (v,c'))::res) a w :=
 (ha.upd r (v:=v) (c:=c') (wr:=none) Ext.rfl'.gb (by simp) (fun b hb=>.inl ⟨v,c,hr,hb⟩) (fun S' k'=>(h (ha.conts r v c hr)).mono k' (fun b hb=>rfl))).1
theorem Sta.split {α:Type} {R:Rep α} {x:α} {es:List Ent} {T:TypeId} {v:Value} (ha:Sta Γ l res a w) (r:Nat) (hr:lr res r=some (v,.box T [.rd R x])) (hs:Sp R x es):Sta Γ l ((r,some (v,.box T es))::res) a w :=
 ha.recont r hr (fun h=>by
  rcases h with h | ⟨b,o,h1,h2,b',vs,rfl,rfl,h3⟩
  ·exact h.elim
  ·match vs,h3 with
   | [u],⟨⟨cs,k1,k2⟩,_⟩ =>
    subst k2;obtain ⟨vs',k3,k4⟩:=(hs.2 _ w cs).1 k1
    exact .inr ⟨b,_,h1,h2,b',vs',rfl, by rw [k4]; simp [z8u,Rep.val_cells k1],k3⟩)
theorem Sta.join {α:Type} {R:Rep α} {x:α} {es:List Ent} {T:TypeId} {v:Value} (ha:Sta Γ l res a w) (r:Nat) (hr:lr res r=some (v,.box T es)) (hs:Sp R x es):Sta Γ l ((r,some (v,.box T [.rd R x]))::res) a w :=
 ha.recont r hr (fun h=>by
  rcases h with h | ⟨b,o,h1,h2,b',vs,rfl,rfl,h3⟩
  ·exact h.elim
  ·have k1:=(hs.2 _ w (z8u vs)).2 ⟨vs,h3,rfl⟩
   exact .inr ⟨b,_,h1,h2,b',[R.val (z8u vs)],rfl, by rw [show z8u [R.val (z8u vs)]=z8u vs by rw [z43,Rep.val_cells k1]; simp [z8u]],⟨_,k1,rfl⟩,trivial⟩)
theorem zk0 {α:Type} (R:Rep α) {S:Blk} {w:World} {v:Value} (h:(Ent.val (.slice none 0 0)).holds S w v):(Ent.rd (z03 R) []).holds S w v:=by
 obtain ⟨rfl,-⟩:=h;exact ⟨_,⟨none,0,[],rfl,Rd.nil _ _,rfl, by simp⟩,rfl⟩
theorem zb0.holds {es es':List Ent} {S:Blk} {w:World} {e e0:Ent} {pre post:List Ent} (h1:es=pre++e0::post) (h2:es'=pre++e::post) (he:∀ v,e0.holds S w v→e.holds S w v):∀ {vs:List Value},z3i S w es vs→z3i S w es' vs:=by
 subst h1; subst h2
 induction pre with
 | nil=>intro vs h; match vs,h with | v::vs,⟨k1,k2⟩=>exact ⟨he v k1,k2⟩
 | cons p pre ih=>intro vs h; match vs,h with | v::vs,⟨k1,k2⟩=>exact ⟨k1,ih k2⟩
theorem Sta.partNil {α:Type} (R:Rep α) {es es':List Ent} {T:TypeId} {v:Value} (ha:Sta Γ l res a w) (r:Nat) (pre post:List Ent) (hr:lr res r=some (v,.box T es)) (h1:es=pre++.val (.slice none 0 0)::post) (h2:es'=pre++.rd (z03 R) []::post):Sta Γ l ((r,some (v,.box T es'))::res) a w :=
 ha.recont r hr (fun h=>by
  rcases h with h | ⟨b,o,k1,k2,b',vs,rfl,rfl,k3⟩
  ·exact h.elim
  ·exact .inr ⟨b,_,k1,k2,b',vs,rfl,rfl,zb0.holds h1 h2 (fun v hv=>zk0 R hv) k3⟩)
theorem Sta.partOwn {α:Type} {R:Rep α} {b:List α} {es es':List Ent} {T E:TypeId} {v u:Value} (ha:Sta Γ l res a w) (r q:Nat) (pre post:List Ent) (hne:r≠q) (hr:lr res r=some (v,.box T es)) (hq:lr res q=some (u,.list R E b)) (h1:es=pre++.val u::post) (h2:es'=pre++.rd (z03 R) b::post):Sta Γ l ((r,some (v,.box T es'))::(q,none)::res) a w:=by
 have hbox:=ha.conts r v _ hr;have hlist:=ha.conts q u _ hq
 have hst:z9q (Shr Γ.H res w) (Shr Γ.H ((q,none)::res) w) w w:=fun bb hb=>⟨⟨hb.1, fun r' v' c' hr'=>by
  rw [z1a] at hr'
  split at hr'
  ·cases hr'
  ·exact hb.2.1 r' v' c' hr',hb.2.2⟩,rfl⟩
 have ha':Sta Γ l ((q,none)::res) a w:=by simpa using ha.frz (R:=R) (T:=E) (b:=b) q [] hq trivial
 have hr':lr ((q,none)::res) r=some (v,.box T es):=(z1a.trans (if_neg (fun e=>hne e.symm))).trans hr;refine ha'.recont r hr' (fun _=>?_);rcases hbox with h | ⟨b0,o,k1,k2,b',vs,rfl,rfl,k3⟩
 ·exact h.elim
 ·refine .inr ⟨b0,_,k1,k2,b',vs,rfl,rfl,zb0.holds h1 h2 (fun v' hv=>?_) (k3.mono hst)⟩;obtain ⟨rfl,-⟩:=hv;obtain ⟨xs,h3,h4⟩:=z7c hlist;obtain ⟨p,c,rfl⟩:=z2l h3;refine ⟨_,⟨p,c,xs,rfl,Rd.of_own h3,h4.mono hst, fun hne' bb hbb=>?_⟩,rfl⟩;have hbb:z58 (.slice p b.length c)=some bb:=by rw [z5v,zgy]; exact hbb
  refine ⟨(ha.conts q _ _ hq).lt hbb, fun r' v' c' hr2 e=>?_, fun hH=>ha.own q _ _ hq bb hbb (ha.hid bb hH)⟩;rw [z1a] at hr2
  split at hr2
  ·cases hr2
  ·rename_i hqr;exact ha.excl q _ _ r' v' c' hq hr2 hqr bb hbb e
variable {os rest:List Oper} {N Q:ρ→Exit→Act→World→Prop} {c:Code} {e:Exit}
theorem lSpl {α:Type} {R:Rep α} {x:α} {es:List Ent} {T:TypeId} {v:Value} (r:Nat) (hr:lr res r=some (v,.box T [.rd R x])) (hs:Sp R x es) (k:GL P os (Sta Γ l ((r,some (v,.box T es))::res)) rest N m):GL P os (Sta Γ l res) rest N m:=fun a w ha=>k a w (ha.split r hr hs)
theorem zfs {α:Type} {R:Rep α} (x:α) {es:List Ent} {T:TypeId} {v:Value} (r:Nat) (hr:lr res r=some (v,.box T es)) (hs:Sp R x es) (k:GL P os (Sta Γ l ((r,some (v,.box T [.rd R x]))::res)) rest N m):GL P os (Sta Γ l res) rest N m:=fun a w ha=>k a w (ha.join r hr hs)
theorem zft {α:Type} (R:Rep α) {es:List Ent} (es':List Ent) {T:TypeId} {v:Value} (r:Nat) (pre post:List Ent) (hr:lr res r=some (v,.box T es)) (h1:es=pre++.val (.slice none 0 0)::post) (h2:es'=pre++.rd (z03 R) []::post) (k:GL P os (Sta Γ l ((r,some (v,.box T es'))::res)) rest N m):GL P os (Sta Γ l res) rest N m:=fun a w ha=>k a w (ha.partNil R r pre post hr h1 h2)
theorem lPow {α:Type} {R:Rep α} {b:List α} {es:List Ent} (es':List Ent) {T E:TypeId} {v u:Value} (r q:Nat) (pre post:List Ent) (hne:(r==q)=false) (hr:lr res r=some (v,.box T es)) (hq:lr res q=some (u,.list R E b)) (h1:es=pre++.val u::post) (h2:es'=pre++.rd (z03 R) b::post) (k:GL P os (Sta Γ l ((r,some (v,.box T es'))::(q,none)::res)) rest N m):GL P os (Sta Γ l res) rest N m:=fun a w ha=>k a w (ha.partOwn r q pre post (by simpa using hne) hr hq h1 h2)
theorem eJoi {α:Type} {R:Rep α} (x:α) {es:List Ent} {T:TypeId} {v:Value} (r:Nat) (hr:lr res r=some (v,.box T es)) (hs:Sp R x es) (k:GE (Sta Γ l ((r,some (v,.box T [.rd R x]))::res)) e Q m):GE (Sta Γ l res) e Q m:=fun a w ha=>k a w (ha.join r hr hs)
theorem zug {α:Type} (R:Rep α) {es:List Ent} (es':List Ent) {T:TypeId} {v:Value} (r:Nat) (pre post:List Ent) (hr:lr res r=some (v,.box T es)) (h1:es=pre++.val (.slice none 0 0)::post) (h2:es'=pre++.rd (z03 R) []::post) (k:GE (Sta Γ l ((r,some (v,.box T es'))::res)) e Q m):GE (Sta Γ l res) e Q m:=fun a w ha=>k a w (ha.partNil R r pre post hr h1 h2)
end
def zkm (l:z1p) (place:Nat→Option (Nat × Nat)):List (Nat × Operand)→List Ent→List Ent→Prop
 | [],es,es'=>es=es'
 | (i,o)::ps,es,es'=>∃ (e:Ent) (off n:Nat) (es1:List Ent),opE l o=some e∧place i=some (off,n)∧e.fills n∧zb0 es off n e es1∧zkm l place ps es1 es'
theorem zkm.done {l:z1p} {place:Nat→Option (Nat × Nat)} {es es':List Ent} (h:es=es'):zkm l place [] es es':=h
theorem zkm.cons {l:z1p} {place:Nat→Option (Nat × Nat)} {i:Nat} {o:Operand} {ps:List (Nat × Operand)} {e:Ent} {off n:Nat} {es es1 es':List Ent} (h:opE l o=some e) (hp:place i=some (off,n)) (hf:e.fills n) (hs:zb0 es off n e es1) (k:zkm l place ps es1 es'):zkm l place ((i,o)::ps) es es':=⟨e,off,n,es1,h,hp,hf,hs,k⟩
theorem zb0.put {es es':List Ent} {k n:Nat} {e:Ent} {S:Blk} {w:World} (h:zb0 es k n e es') {vs:List Value} {v:Value} (hv:e.holds S w v) (hn:v.cells.size=n) (hvs:z3i S w es vs):∃ vs',z3i S w es' vs'∧(z8u vs').toArray=spl (z8u vs).toArray k v.cells.toList∧k+n≤(z8u vs).length:=by
 obtain ⟨pre,post,e0,rfl,rfl,hn0,hk⟩:=h;obtain ⟨us,ts,rfl,h5,h6⟩:=hvs.app
 match ts,h6 with
 | y0::ts,⟨h7,h8⟩ =>
  have hl:=hk _ _ _ h5;have hy0:y0.cells.toList.length=n:=by have:=hn0 _ _ _ h7; simpa using this
  refine ⟨us++v::ts,h5.mk ⟨hv,h8⟩,?_, by simp only [zli,z43,List.length_append]; omega⟩;subst hl;unfold spl; congr 1
  have:v.cells.toList.length=n:=by simpa using hn
  simp only [zli,z43,this]
  rw [show ∀ A B Cc:List Value,A.length+n=(A++B).length→List.drop (A.length+n) (A++(B++Cc))=Cc by
   intro A B Cc h; rw [h,← List.append_assoc,List.drop_left']; rfl]
  ·simp
  ·simp [hy0]
theorem zkm.get {Γ:Ctx} {l:z1p} {res:Res} {a:Act} {w:World} (ha:Sta Γ l res a w) {place:Nat→Option (Nat × Nat)}:∀ {ps:List (Nat × Operand)} {es es':List Ent} {vs:List Value},zkm l place ps es es'→z3i (Shr Γ.H res w) w es vs →
  ∃ vs',Instr.fill place (z8u vs).toArray (ps.map fun p=>(p.1,a.eval p.2))=some (z8u vs').toArray∧z3i (Shr Γ.H res w) w es' vs'
 | [],es,es',vs,h,hv=>by have h:es=es':=h; subst h; exact ⟨vs,rfl,hv⟩
 | (i,o)::ps,es,es',vs,h,hv=>by
  obtain ⟨e,off,n,es1,h1,h2,h3,h4,h5⟩:=h;have hy:=ha.vl h1;have hyn:(a.eval o).cells.size=n:=h3 _ _ _ hy;obtain ⟨vs1,k1,k2,k3⟩:=h4.put hy hyn hv;obtain ⟨vs',q1,q2⟩:=zkm.get ha h5 k1;refine ⟨vs',?_,q2⟩;simp only [List.map_cons];rw [zmw h2 hyn (by simpa using k3),← k2]; exact q1
def z0l (es:List Ent) (n:Nat):Prop:=∀ S w vs,z3i S w es vs→(z8u vs).length=n
theorem z0l.nil:z0l [] 0:=fun S w vs h=>by match vs,h with | [],_=>rfl
theorem z0l.cons {e:Ent} {es:List Ent} {n k:Nat} (h:e.fills n) (p:z0l es k):z0l (e::es) (n+k):=fun S w vs hh=>by
 match vs,hh with
 | v::vs,⟨h1,h2⟩=>rw [z43,List.length_append,p S w vs h2]; have:=h S w v h1; simp [this]
def z54 (es:List Ent):Prop:=∀ S w vs,z3i S w es vs→∀ u∈z8u vs,u.oneCell'=true
theorem z54.nil:z54 []:=fun S w vs h u hu=>by match vs,h with | [],_=>simp [z8u] at hu
theorem z54.cons {e:Ent} {es:List Ent} (h:e.ones) (p:z54 es):z54 (e::es):=fun S w vs hh u hu=>by
 match vs,hh with
 | v::vs,⟨h1,h2⟩ =>
  rw [z43] at hu;rcases List.mem_append.1 hu with k | k
  ·exact h S w v h1 u k
  ·exact p S w vs h2 u k
section
variable {C:World→World→Prop} {P:Program} {Γ:Ctx} {l:z1p} {res:Res} {d:Tmp} {ty:TypeId} {pos:String} {after:Array Edge} {g:Option (Nat × Bool)}
theorem zwm {es0 es':List Ent} {T:TypeId} {z:Value} {sz by_:Nat} {parts:Array (Nat × Operand)} {fs:Array Field} (pl:List (Nat × Nat)) (hT:P.underlying T=some (.struct fs)) (hI:TI P T z sz by_) (hz:zjb z es0)
  (hp:fs.toList.map (fun f=>(f.offset,(P.info? f.type).map (·.size)))=pl.map (fun p=>(p.1,some p.2))) (h:zkm l (fun i:Nat=>pl[i]?) parts.toList es0 es'):Run C P Γ l res ⟨some d,.build T parts,ty,pos,after,g⟩ (.agg es'):=fun a w ha=>by
 obtain ⟨vs,hv1,hv2⟩:=hz (Shr Γ.H res w) w;obtain ⟨vs',h1,h2⟩:=h.get ha hv2;rw [hv1,Array.toArray_toList] at h1;refine ⟨.agg (z8u vs').toArray, fun w' _=>zlm rfl ?_,vs',h2,rfl⟩;have e1:(fs.mapM (m:=Sem) fun f=>do pure (f.offset,← sizeOf f.type)).run P w'=.ok pl.toArray w':=by
  rw [← Array.toArray_toList (xs:=fs),List.mapM_toArray];simp only [map_eq_pure_bind,Sem.run_bind,zkf fs.toList pl hp,Result.andThen,Sem.run_pure]
 have e2:(parts.map fun (i,x)=>(i,a.eval x)).toList=parts.toList.map fun p=>(p.1,a.eval p.2):=by simp
 unfold Instr.build;simp only [Sem.run_bind,zdr hI,Result.andThen,run_underlying hT,e1,e2];have e3:(fun i:Nat=>pl.toArray[i]?)=fun i:Nat=>pl[i]? := by funext i; simp
 rw [e3,h1]; rfl
theorem zwq {t T:TypeId} {x y:Operand} {v z:Value} {by_ n:Nat} {es es':List Ent} (r:Nat) (hx:opE l x=some (.val (z05 v 0))) (hr:lr res r=some (v,.box T es)) (h0:z0l es n)
  (hy:opE l y=some (.agg es')) (h1e:z54 es') (hn:z0l es' n) (hS:TI P t z n by_):EffS P Γ l res ⟨none,.store t x y,ty,pos,after,g⟩ r (v,.box T es'):=fun a w ha=>by
 have h1:=(ha.vl hx).1;obtain ⟨ys,hy1,hy2⟩:=ha.vl hy;rcases ha.conts r v _ hr with h2 | ⟨b,o,h2,h3,b',vs,rfl,rfl,h4⟩
 ·exact h2.elim
 ·simp only [z58,Option.some.injEq] at h2;subst h2;rw [zjl] at h1;have hB:Bx w b' (z8u vs).toArray T:=h3;have hyc:(a.eval y).cells=(z8u ys).toArray:=by rw [hy2]; rfl
  have hyn:(a.eval y).cells.size=n:=by rw [hyc]; simp [hn _ _ _ hy1]
  have hl:=h0 _ _ _ h4;have hrun:=zk6 (P:=P) (w:=w) (b:=b') (o:=0) (v:=a.eval y) hS hyn (by rw [hyc]; simpa using h1e _ _ _ hy1) hB (by simp [hl])
  have hsp:spl (z8u vs).toArray 0 (a.eval y).cells.toList=(z8u ys).toArray:=by
   rw [hyc]
   have:=hn _ _ _ hy1
   unfold spl; simp [this,hl]
  rw [hsp] at hrun;refine ⟨w.setRow b' (z8u ys).toArray,?_,?_,some b',zat b' _, fun b hb=>⟨_,_,hr, by cases hb; rfl⟩⟩
  ·simp [execOp,h1,Instr.storeAt,Instr.sureAddr,hrun]
  ·exact ha.upd r (zat b' _) (fun b hb=>⟨_,_,hr, by cases hb; rfl⟩) (fun b hb=>.inl ⟨_,_,hr,hb⟩) (fun S' k'=>.inr ⟨b',_,rfl,setRow_heap w b' _ _ T _ hB,b',ys,rfl,rfl,hy1.mono k'⟩)
def ZrE (cs:List Value) (es:List Ent):Prop:=∀ S w,∃ vs,z8u vs=cs∧z3i S w es vs
theorem ZrE.nil:ZrE [] []:=fun S w=>⟨[],rfl,trivial⟩
theorem ZrE.rd {α:Type} {R:Rep α} {x:α} {c d cs:List Value} {es:List Ent} (h:Zr R c x) (k:ZrE d es) (e:c++d=cs):ZrE cs (.rd R x::es):=fun S w=>by
 obtain ⟨vs,h1,h2⟩:=k S w;exact ⟨R.val c::vs, by rw [z43,Rep.val_cells (h S w),h1,e],⟨c,h S w,rfl⟩,h2⟩
theorem ZrE.nilS {d:List Value} {es:List Ent} (k:ZrE d es):ZrE (.slice none 0 0::d) (.val (.slice none 0 0)::es):=fun S w=>by
 obtain ⟨vs,h1,h2⟩:=k S w;exact ⟨.slice none 0 0::vs, by rw [z43,h1]; rfl,⟨rfl,rfl⟩,h2⟩
theorem Foc.cast {α:Type} {c:z4l} {k k':Nat} {R:Rep α} {x:α} {upd:α→z4l} (f:Foc c k' R x upd) (h:k'=k):Foc c k R x upd:=h ▸ f
theorem At.cast {es:List Ent} {k k':Nat} {e:Ent} (f:At es k' e) (h:k'=k):At es k e:=h ▸ f
theorem zb0.cast {es es':List Ent} {k k' n:Nat} {e:Ent} (f:zb0 es k' n e es') (h:k'=k):zb0 es k n e es':=h ▸ f
theorem z0l.cast {es:List Ent} {n n':Nat} (f:z0l es n') (h:n'=n):z0l es n:=h ▸ f
end
end
section
open Go Go.RowKit
section
variable {S:Blk} {w:World} {v:Value} {T:TypeId}
theorem zyi {α:Type} {R:Rep α} {x:α} {es:List Ent} (hs:Sp R x es) (h:(z4l.box T [.rd R x]).holds S w v):(z4l.box T es).holds S w v:=by
 rcases h with h | ⟨b,o,h1,h2,b',vs,rfl,rfl,h3⟩
 ·exact h.elim
 ·match vs,h3 with
  | [u],⟨⟨cs,k1,k2⟩,_⟩ =>
   subst k2;obtain ⟨vs',k3,k4⟩:=(hs.2 _ w cs).1 k1;exact .inr ⟨b,_,h1,h2,b',vs',rfl, by rw [k4]; simp [z8u,Rep.val_cells k1],k3⟩
theorem z11t {α:Type} {R:Rep α} {x:α} {es:List Ent} (hs:Sp R x es) (h:(z4l.box T es).holds S w v):(z4l.box T [.rd R x]).holds S w v:=by
 rcases h with h | ⟨b,o,h1,h2,b',vs,rfl,rfl,h3⟩
 ·exact h.elim
 ·have k1:=(hs.2 _ w (z8u vs)).2 ⟨vs,h3,rfl⟩;exact .inr ⟨b,_,h1,h2,b',[R.val (z8u vs)],rfl, by rw [show z8u [R.val (z8u vs)]=z8u vs by rw [z43,Rep.val_cells k1]; simp [z8u]],⟨_,k1,rfl⟩,trivial⟩
theorem z14m {α:Type} (R:Rep α) {es es' pre post:List Ent} (h1:es=pre++.val (.slice none 0 0)::post) (h2:es'=pre++.rd (z03 R) []::post) (h:(z4l.box T es).holds S w v):(z4l.box T es').holds S w v:=by
 rcases h with h | ⟨b,o,k1,k2,b',vs,rfl,rfl,k3⟩
 ·exact h.elim
 ·exact .inr ⟨b,_,k1,k2,b',vs,rfl,rfl,zb0.holds h1 h2 (fun v hv=>zk0 R hv) k3⟩
end
section
variable {ρ:Type} {P:Program} {Γ:Ctx} {l l0:z1p} {res res0:Res} {ws:List Nat} {m:Option ρ} {os:List Oper} {N:ρ→Exit→Act→World→Prop} {fuel i:Nat} {listed:Array Bool} {a:Act} {w0 w:World}
theorem SH.recont (h:SH Γ l0 res0 ws l res a w0 w) (r:Nat) {v:Value} {c c':z4l} (hr:lr res r=some (v,c)) (hc:c'.holds (Shr Γ.H res w) w v):SH Γ l0 res0 ws l ((r,some (v,c'))::res) a w0 w:=by
 have hu:=h.s.upd r (v:=v) (c:=c') (wr:=none) Ext.rfl'.gb (by simp) (fun b hb=>.inl ⟨v,c,hr,hb⟩) (fun S' k'=>hc.mono k' (fun b hb=>rfl));refine ⟨h.s0,hu.1,h.cw,h.st.tr hu.2, fun r2 v2 c2 b2 h1 h2 h3=>?_⟩;rw [z1a] at h2
 split at h2
 ·rename_i e; subst e; cases h2; exact h.wsp _ v c b2 h1 hr h3
 ·exact h.wsp r2 v2 c2 b2 h1 h2 h3
theorem aNil {α:Type} {R:Rep α} {l:z1p} {o:Operand} {os:List Operand} {ps:List Ent} (h:opE l o=some (.val (.slice none 0 0))) (k:z9j l os ps):z9j l (o::os) (.rd (z03 R) []::ps):=⟨⟨_,h, fun _ _ _ h=>zk0 R h⟩,k⟩
theorem hSpl {α:Type} {R:Rep α} {x:α} {es:List Ent} {T:TypeId} {v:Value} (r:Nat) (hr:lr res r=some (v,.box T [.rd R x])) (hs:Sp R x es) (k:GH P os Γ l0 res0 ws l ((r,some (v,.box T es))::res) N fuel listed m):GH P os Γ l0 res0 ws l res N fuel listed m:=fun a w0 w ha=>k a w0 w (ha.recont r hr (zyi hs (ha.s.conts r v _ hr)))
theorem hJoi {α:Type} {R:Rep α} (x:α) {es:List Ent} {T:TypeId} {v:Value} (r:Nat) (hr:lr res r=some (v,.box T es)) (hs:Sp R x es) (k:GH P os Γ l0 res0 ws l ((r,some (v,.box T [.rd R x]))::res) N fuel listed m):GH P os Γ l0 res0 ws l res N fuel listed m:=fun a w0 w ha=>k a w0 w (ha.recont r hr (z11t hs (ha.s.conts r v _ hr)))
theorem hPnl {α:Type} (R:Rep α) {es:List Ent} (es':List Ent) {T:TypeId} {v:Value} (r:Nat) (pre post:List Ent) (hr:lr res r=some (v,.box T es)) (h1:es=pre++.val (.slice none 0 0)::post) (h2:es'=pre++.rd (z03 R) []::post) (k:GH P os Γ l0 res0 ws l ((r,some (v,.box T es'))::res) N fuel listed m):GH P os Γ l0 res0 ws l res N fuel listed m:=fun a w0 w ha=>k a w0 w (ha.recont r hr (z14m R h1 h2 (ha.s.conts r v _ hr)))
end
end
end Go.Proofs.YtcneilabmjkdlabGreatDoor
