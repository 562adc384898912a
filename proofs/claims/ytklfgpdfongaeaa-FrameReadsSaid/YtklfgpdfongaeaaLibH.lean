/- One operation's run; and a region that draws its order, with calls that make memory: what reads only is taken first, the rest in whatever order. Over any program P. -/
import Derived.Test.YtklfgpdfongaeaaLibQ
import Derived.OrdersHeld
namespace Go.Proofs.Ytklfgpdfongaeaa
open Go Go.RowKit
set_option linter.unusedSimpArgs false
set_option linter.unusedVariables false

section
variable {P : Program} {ops : Array Oper} {a : Act} {w : World} {n : Nat} {l fl : List (Nat × Value)}
  {d : Tmp} {ty : TypeId} {pos : String} {after : Array Edge} {g : Option (Nat × Bool)}
theorem r_move {x : Operand} {v : Value} (f : Frm n l a) 
    (hx : opv l x = some v)  :
    (execOp a.eval ⟨some d, .move x, ty, pos, after, g⟩).run P w = .ok (.value (v)) w := (by simp [execOp, f.ev hx, pure])
theorem r_assign {x : Operand} {v : Value} (f : Frm n l a) 
    (hx : opv l x = some v)  :
    (execOp a.eval ⟨some d, .assign x, ty, pos, after, g⟩).run P w = .ok (.value (v)) w := (by simp [execOp, f.ev hx, pure])
theorem r_bin {op : BinOp} {x y : Operand} {T T' : TypeId} {k : IntKind} {m m' : Int} {v : Value} (f : Frm n l a)
    
    (hx : opv l x = some (.int k m)) (hy : opv l y = some (.int k m')) (hv : arith op k m m' = some v) :
    (execOp a.eval ⟨some d, .binOp op T x y T', ty, pos, after, g⟩).run P w = .ok (.value (v)) w := (by
    have e1 := f.ev hx
    have e2 := f.ev hy
    cases op <;> simp only [arith, Option.some.injEq, reduceCtorEq] at hv <;> subst hv <;>
      simp [execOp, e1, e2, eqGuard, binOp, Op.intArith, Op.intCmp, pure, bind, Sem.bind])
theorem r_quo {x y : Operand} {T T' : TypeId} {k : IntKind} {m m' r : Int} (f : Frm n l a)
    
    (hx : opv l x = some (.int k m)) (hy : opv l y = some (.int k m')) (h0 : m' ≠ 0) (hv : k.wrap (m.tdiv m') = r) :
    (execOp a.eval ⟨some d, .binOp .quo T x y T', ty, pos, after, g⟩).run P w = .ok (.value (.int k r)) w := (by
    subst hv
    simp [execOp, f.ev hx, f.ev hy, eqGuard, binOp, Op.intDiv, h0, pure, bind, Sem.bind])
theorem r_rem {x y : Operand} {T T' : TypeId} {k : IntKind} {m m' r : Int} (f : Frm n l a)
    
    (hx : opv l x = some (.int k m)) (hy : opv l y = some (.int k m')) (h0 : m' ≠ 0) (hv : m.tmod m' = r) :
    (execOp a.eval ⟨some d, .binOp .rem T x y T', ty, pos, after, g⟩).run P w = .ok (.value (.int k r)) w := (by
    subst hv
    simp [execOp, f.ev hx, f.ev hy, eqGuard, binOp, Op.intDiv, h0, pure, bind, Sem.bind])
theorem r_shl {x y : Operand} {T T' : TypeId} {k k' : IntKind} {m m' r : Int} (f : Frm n l a)
    
    (hx : opv l x = some (.int k m)) (hy : opv l y = some (.int k' m')) (h0 : 0 ≤ m') (hv : k.wrap (m * 2 ^ (min m'.toNat k.bits)) = r) :
    (execOp a.eval ⟨some d, .binOp .shl T x y T', ty, pos, after, g⟩).run P w = .ok (.value (.int k r)) w := (by
    subst hv
    have : ¬ m' < 0 := by omega
    simp [execOp, f.ev hx, f.ev hy, eqGuard, binOp, Op.shift, this, pure, bind, Sem.bind])
theorem r_shr {x y : Operand} {T T' : TypeId} {k k' : IntKind} {m m' r : Int} (f : Frm n l a)
    
    (hx : opv l x = some (.int k m)) (hy : opv l y = some (.int k' m')) (h0 : 0 ≤ m') (hv : m.fdiv (2 ^ (min m'.toNat k.bits)) = r) :
    (execOp a.eval ⟨some d, .binOp .shr T x y T', ty, pos, after, g⟩).run P w = .ok (.value (.int k r)) w := (by
    subst hv
    have : ¬ m' < 0 := by omega
    simp [execOp, f.ev hx, f.ev hy, eqGuard, binOp, Op.shift, this, pure, bind, Sem.bind])
theorem r_bits {op : BinOp} {x y : Operand} {T T' : TypeId} {k : IntKind} {m m' r : Int} (f : Frm n l a)
    
    (hop : isBits op = true) (hx : opv l x = some (.int k m)) (hy : opv l y = some (.int k m')) (hv : bitsOf op k m m' = r) :
    (execOp a.eval ⟨some d, .binOp op T x y T', ty, pos, after, g⟩).run P w = .ok (.value (.int k r)) w := (by
    subst hv
    have e1 := f.ev hx
    have e2 := f.ev hy
    cases op <;> simp only [isBits, reduceCtorEq, Bool.false_eq_true] at hop <;>
      simp [execOp, e1, e2, eqGuard, binOp, Op.intBits, bitsOf, pure, bind, Sem.bind])
theorem r_eqlB {x y : Operand} {T T' : TypeId} {b b' : Bool} (f : Frm n l a)
    
    (hT : P.underlying T = some .bool) (hx : opv l x = some (.bool b)) (hy : opv l y = some (.bool b')) :
    (execOp a.eval ⟨some d, .binOp .eql T x y T', ty, pos, after, g⟩).run P w = .ok (.value (.bool (b == b'))) w := (exec_bin (by rw [f.ev hx, f.ev hy]; rfl) (by rw [f.ev hx, f.ev hy]; exact run_eqlB hT))
theorem r_neqB {x y : Operand} {T T' : TypeId} {b b' : Bool} (f : Frm n l a)
    
    (hT : P.underlying T = some .bool) (hx : opv l x = some (.bool b)) (hy : opv l y = some (.bool b')) :
    (execOp a.eval ⟨some d, .binOp .neq T x y T', ty, pos, after, g⟩).run P w = .ok (.value (.bool (b != b'))) w := (exec_bin (by rw [f.ev hx, f.ev hy]; rfl) (by rw [f.ev hx, f.ev hy]; exact run_neqB hT))
theorem r_eqlS {x y : Operand} {T T' : TypeId} {s s' : ByteArray} (f : Frm n l a)
    
    (hx : opv l x = some (.string s)) (hy : opv l y = some (.string s')) :
    (execOp a.eval ⟨some d, .binOp .eql T x y T', ty, pos, after, g⟩).run P w = .ok (.value (.bool (s.toList == s'.toList))) w := (exec_bin (by rw [f.ev hx, f.ev hy]; rfl) (by rw [f.ev hx, f.ev hy]; rfl))
theorem r_neqS {x y : Operand} {T T' : TypeId} {s s' : ByteArray} (f : Frm n l a)
    
    (hx : opv l x = some (.string s)) (hy : opv l y = some (.string s')) :
    (execOp a.eval ⟨some d, .binOp .neq T x y T', ty, pos, after, g⟩).run P w = .ok (.value (.bool (!(s.toList == s'.toList)))) w := (exec_bin (by rw [f.ev hx, f.ev hy]; rfl) (by rw [f.ev hx, f.ev hy]; rfl))
theorem r_not {x : Operand} {T : TypeId} {b : Bool} (f : Frm n l a)
    
    (hx : opv l x = some (.bool b)) :
    (execOp a.eval ⟨some d, .unOp .not T x, ty, pos, after, g⟩).run P w = .ok (.value (.bool (!b))) w := (by simp [execOp, f.ev hx, Op.unary, pure, bind, Sem.bind])
theorem r_neg {x : Operand} {T : TypeId} {k : IntKind} {m r : Int} (f : Frm n l a)
    
    (hx : opv l x = some (.int k m)) (hv : k.wrap (0 - m) = r) :
    (execOp a.eval ⟨some d, .unOp .neg T x, ty, pos, after, g⟩).run P w = .ok (.value (.int k r)) w := (by subst hv; simp [execOp, f.ev hx, Op.unary, Op.intArith, pure, bind, Sem.bind])
theorem r_xorU {x : Operand} {T : TypeId} {k : IntKind} {m r : Int} (f : Frm n l a)
    
    (hx : opv l x = some (.int k m)) (hv : bitsOf .xor k (if k.signed then -1 else k.max) m = r) :
    (execOp a.eval ⟨some d, .unOp .xor T x, ty, pos, after, g⟩).run P w = .ok (.value (.int k r)) w := (by subst hv; simp [execOp, f.ev hx, Op.unary, Op.intBits, bitsOf, pure, bind, Sem.bind])
theorem r_pick {x y z : Operand} {b : Bool} {v u r : Value} (f : Frm n l a)
    
    (hx : opv l x = some (.bool b)) (hy : opv l y = some v) (hz : opv l z = some u) (hv : (if b then v else u) = r) :
    (execOp a.eval ⟨some d, .pick x y z, ty, pos, after, g⟩).run P w = .ok (.value (r)) w := (by subst hv; cases b <;> simp [execOp, f.ev hx, f.ev hy, f.ev hz, asBool, pure, bind, Sem.bind])
theorem r_conv {x : Operand} {S T : TypeId} {ds : TypeDesc} {k k' : IntKind} {m r : Int} (f : Frm n l a)
    
    (hS : P.underlying S = some ds) (hT : P.underlying T = some (.int k')) (hx : opv l x = some (.int k m)) (hv : k'.wrap m = r) :
    (execOp a.eval ⟨some d, .convert S T x, ty, pos, after, g⟩).run P w = .ok (.value (.int k' r)) w := (by subst hv; simp [execOp, f.ev hx, convert, run_underlying hS, run_underlying hT, Conv.intToInt])
theorem r_extract {x : Operand} {i : Nat} {vs : Array Value} {v : Value} (f : Frm n l a)
    
    (hx : opv l x = some (.tuple vs)) (hv : vs[i]? = some v) :
    (execOp a.eval ⟨some d, .extract x i, ty, pos, after, g⟩).run P w = .ok (.value (v)) w := (by simp [execOp, f.ev hx, Instr.extract, hv, pure, bind, Sem.bind])
theorem r_lenS {x : Operand} {T : TypeId} {at_ : Array TypeId} {e : TypeId} {p : Option Addr} {m cp : Nat} (f : Frm n l a)
    
    (hat : at_[0]? = some T) (hT : P.underlying T = some (.slice e)) (hx : opv l x = some (.slice p m cp)) :
    (execOp a.eval ⟨some d, .call ⟨.builtin .len, #[x], at_⟩, ty, pos, after, g⟩).run P w = .ok (.value (.int .i64 m)) w := (by simp [execOp, resolve, invoke, builtin, f.ev hx, Builtin.len_, hat, run_underlying hT, goInt])
theorem r_lenStr {x : Operand} {T : TypeId} {at_ : Array TypeId} {s : ByteArray} (f : Frm n l a)
    
    (hat : at_[0]? = some T) (hT : P.underlying T = some .string) (hx : opv l x = some (.string s)) :
    (execOp a.eval ⟨some d, .call ⟨.builtin .len, #[x], at_⟩, ty, pos, after, g⟩).run P w = .ok (.value (.int .i64 s.size)) w := (by simp [execOp, resolve, invoke, builtin, f.ev hx, Builtin.len_, hat, run_underlying hT, goInt])
theorem r_lenA {x : Operand} {T : TypeId} {at_ : Array TypeId} {e : TypeId} {m : Nat} {v : Value} (f : Frm n l a)
    
    (hat : at_[0]? = some T) (hT : P.underlying T = some (.array m e)) (hx : opv l x = some v) :
    (execOp a.eval ⟨some d, .call ⟨.builtin .len, #[x], at_⟩, ty, pos, after, g⟩).run P w = .ok (.value (.int .i64 m)) w := (by simp [execOp, resolve, invoke, builtin, f.ev hx, Builtin.len_, hat, run_underlying hT, goInt])
theorem r_min {x y : Operand} {at_ : Array TypeId} {k : IntKind} {m m' : Int} (f : Frm n l a)
    
    (hx : opv l x = some (.int k m)) (hy : opv l y = some (.int k m')) :
    (execOp a.eval ⟨some d, .call ⟨.builtin .min, #[x, y], at_⟩, ty, pos, after, g⟩).run P w = .ok (.value (.int k (if m' < m then m' else m))) w := (by simp [execOp, resolve, invoke, builtin, f.ev hx, f.ev hy, Builtin.min_, Builtin.min2, pure, bind, Sem.bind])
theorem r_max {x y : Operand} {at_ : Array TypeId} {k : IntKind} {m m' : Int} (f : Frm n l a)
    
    (hx : opv l x = some (.int k m)) (hy : opv l y = some (.int k m')) :
    (execOp a.eval ⟨some d, .call ⟨.builtin .max, #[x, y], at_⟩, ty, pos, after, g⟩).run P w = .ok (.value (.int k (if m < m' then m' else m))) w := (by simp [execOp, resolve, invoke, builtin, f.ev hx, f.ev hy, Builtin.max_, Builtin.max2, pure, bind, Sem.bind])
theorem r_indexStr {x i : Operand} {T : TypeId} {s : ByteArray} {k : IntKind} {m : Int} {c0 : UInt8} (f : Frm n l a)
    
    (hT : P.underlying T = some .string) (hx : opv l x = some (.string s)) (hi : opv l i = some (.int k m)) (h0 : 0 ≤ m) (hc : s[m.toNat]? = some c0) :
    (execOp a.eval ⟨some d, .index T x i, ty, pos, after, g⟩).run P w = .ok (.value (.int .u8 c0.toNat)) w := (by simp [execOp, f.ev hx, f.ev hi, Instr.index, asIntOf, run_underlying hT, h0, hc])
theorem r_mkfunc {fn : Fn} {first captured : Array Operand} {v1 v2 : Array Value} (f : Frm n l a)
    
    (h1 : first.map a.eval = v1) (h2 : captured.map a.eval = v2) :
    (execOp a.eval ⟨some d, .makeFunc fn first captured, ty, pos, after, g⟩).run P w = .ok (.value (.func fn v1 v2)) w := (by simp [execOp, Instr.makeFunc, h1, h2, pure, bind, Sem.bind])
theorem r_load {t : TypeId} {x : Operand} {p : Addr} {v : Value} (f : Frm n l a)
     (hT : Sc P t)
    (hx : opv l x = some (.pointer (some p))) (hc : w.cell? p = some v) :
    (execOp a.eval ⟨some d, .load t x, ty, pos, after, g⟩).run P w = .ok (.value (v)) w := (by simp [execOp, f.ev hx, Instr.loadAt, Instr.sureAddr, run_load1 hT hc])
theorem r_loadA {t : TypeId} {x : Operand} {p : Addr} {z : Value} {sz by_ : Nat} {cs : List Value} (f : Frm n l a)
     (hT : Ag P t) (hS : TI P t z sz by_)
    (hx : opv l x = some (.pointer (some p))) (hl : cs.length = sz) (hc : ∀ j u, cs[j]? = some u → w.cell? (p.add j) = some u) :
    (execOp a.eval ⟨some d, .load t x, ty, pos, after, g⟩).run P w = .ok (.value (.agg cs.toArray)) w := (by simp [execOp, f.ev hx, Instr.loadAt, Instr.sureAddr, run_loadA hT hS hl hc])
theorem r_fieldAddr {S : TypeId} {x : Operand} {i : Nat} {p q : Addr} {fs : Array Field} {fd : Field} {z : Value} {sz by_ : Nat} (f : Frm n l a)
    
    (hS : P.underlying S = some (.struct fs)) (hi : fs[i]? = some fd) (hF : TI P fd.type z (sz + 1) by_) (hx : opv l x = some (.pointer (some p))) (hq : p.add fd.offset = q) :
    (execOp a.eval ⟨some d, .fieldAddr S x i, ty, pos, after, g⟩).run P w = .ok (.value (.pointer (some q))) w := (by subst hq; simp [execOp, f.ev hx, Instr.fieldAt, Instr.sureAddr, run_underlying hS, hi, fieldPlace, run_sizeOf hF])
theorem r_indexAddrA {T e : TypeId} {x y : Operand} {b o m sz by_ : Nat} {k : IntKind} {i : Int} {z : Value} {j q : Nat} (f : Frm n l a)
    
    (hT : P.underlying T = some (.array m e)) (hE : TI P e z sz by_) (hx : opv l x = some (.pointer (some ⟨b, o, none⟩))) (hy : opv l y = some (.int k i)) (hij : i = (j : Int)) (hj : j < m) (hq : o + j * sz = q) :
    (execOp a.eval ⟨some d, .indexAddr T x y, ty, pos, after, g⟩).run P w = .ok (.value (.pointer (some ⟨b, q, none⟩))) w := (by
    subst hij; subst hq
    simp [execOp, f.ev hx, f.ev hy, Instr.indexAt, Instr.sureAddr, asIntOf, run_underlying hT, hj, run_sizeOf hE, add_none])
theorem r_eqlNil {T T' e : TypeId} {x y : Operand} {p : Option Addr} {k c : Nat} (f : Frm n l a)
    
    (hT : P.underlying T = some (.slice e)) (hx : opv l x = some (.slice p k c)) (hy : opv l y = some (.slice none 0 0)) :
    (execOp a.eval ⟨some d, .binOp .eql T x y T', ty, pos, after, g⟩).run P w = .ok (.value (.bool (decide (p = none)))) w := (exec_bin (by rw [f.ev hx, f.ev hy]; rfl) (by rw [f.ev hx, f.ev hy]; exact run_eql_nil hT))
theorem r_neqNil {T T' e : TypeId} {x y : Operand} {p : Option Addr} {k c : Nat} (f : Frm n l a)
    
    (hT : P.underlying T = some (.slice e)) (hx : opv l x = some (.slice p k c)) (hy : opv l y = some (.slice none 0 0)) :
    (execOp a.eval ⟨some d, .binOp .neq T x y T', ty, pos, after, g⟩).run P w = .ok (.value (.bool (decide (p ≠ none)))) w := (exec_bin (by rw [f.ev hx, f.ev hy]; rfl) (by rw [f.ev hx, f.ev hy]; exact run_neq_nil hT))

theorem r_build {t : TypeId} {parts : Array (Nat × Operand)} {vs : Array (Nat × Value)} {v : Value} (f : Frm n l a)
    (hp : (parts.map fun (i, x) => (i, a.eval x)) = vs) (hr : (Instr.build t vs).run P w = .ok v w) :
    (execOp a.eval ⟨some d, .build t parts, ty, pos, after, g⟩).run P w = .ok (.value v) w := by
  subst hp
  simp only [execOp, Sem.run_bind, hr, Result.andThen, Sem.run_pure]
section
variable {α : Type} {E : Enc α}
theorem rt_indexAddr {T e : TypeId} {x y : Operand} {l : List α} {p : Option Addr} {cp sz by_ : Nat} {k : IntKind} {i : Int} {z : Value} {j : Nat} (f : Frm n fl a)
    (hT : P.underlying T = some (.slice e)) (hE : TI P e z sz by_) (hx : opv fl x = some (.slice p l.length cp)) (hr : RdL E w p cp l) (hsz : E.sz = sz) (hy : opv fl y = some (.int k i)) (hij : i = (j : Int)) (hj : j < l.length) :
    (execOp a.eval ⟨some d, .indexAddr T x y, ty, pos, after, g⟩).run P w = .ok (.value (.pointer (some (elemPtr (.slice p l.length cp) (j * sz))))) w := by
  subst hsz; subst hij
  rcases hr.2 with ⟨_, h0⟩ | ⟨b, o, sp, cap, hv, h1, h2, hsp, h3⟩
  · omega
  · have hne : E.cells l ≠ [] := fun e => by
      have h4 := E.cells_len l; rw [e] at h4; have h5 := Nat.mul_pos (show 0 < l.length by omega) E.pos; simp at h4; omega
    obtain rfl := hsp.resolve_left hne
    simp only [Value.slice.injEq, true_and] at hv
    obtain ⟨rfl, rfl⟩ := hv
    simp [execOp, f.ev hx, f.ev hy, Instr.indexAt, asIntOf, run_underlying hT, hj, run_sizeOf hE, elemPtr, add_none]
theorem rt_load {t : TypeId} {x : Operand} {l : List α} {p : Option Addr} {cp sz : Nat} {j : Nat} {e : α} {v : Value} (f : Frm n fl a) (hT : Sc P t)
    (hx : opv fl x = some (.pointer (some (elemPtr (.slice p l.length cp) (j * sz))))) (hr : RdL E w p cp l) (hsz : E.sz = sz) (he : l[j]? = some e) (hv : E.of e = [v]) :
    (execOp a.eval ⟨some d, .load t x, ty, pos, after, g⟩).run P w = .ok (.value v) w := by
  subst hsz
  refine r_load f hT hx (Rd.cell hr ?_)
  have := E.cells_get l j 0 e he (by have := E.len e; rw [hv] at this; simp at this; omega)
  rw [Nat.add_zero] at this
  rw [this, hv]; rfl
theorem rt_loadA {t : TypeId} {x : Operand} {l : List α} {p : Option Addr} {cp sz sz' by_ : Nat} {j : Nat} {e : α} {z : Value} (f : Frm n fl a) (hT : Ag P t) (hS : TI P t z sz' by_)
    (hx : opv fl x = some (.pointer (some (elemPtr (.slice p l.length cp) (j * sz))))) (hr : RdL E w p cp l) (hsz : E.sz = sz) (hsz' : sz = sz') (he : l[j]? = some e) :
    (execOp a.eval ⟨some d, .load t x, ty, pos, after, g⟩).run P w = .ok (.value (.agg (E.of e).toArray)) w := by
  subst hsz
  refine r_loadA f hT hS hx (by rw [E.len, hsz']) (fun i u hu => Rd.cellA hr ?_)
  have hi : i < E.sz := by rw [← E.len e]; exact (List.getElem?_eq_some_iff.1 hu).1
  rw [E.cells_get l j i e he hi]; exact hu
theorem rt_len {x : Operand} {T : TypeId} {at_ : Array TypeId} {e : TypeId} {p : Option Addr} {cp : Nat} {l : List α} (f : Frm n fl a)
    (hat : at_[0]? = some T) (hT : P.underlying T = some (.slice e)) (hx : opv fl x = some (.slice p l.length cp)) :
    (execOp a.eval ⟨some d, .call ⟨.builtin .len, #[x], at_⟩, ty, pos, after, g⟩).run P w = .ok (.value (.int .i64 (l.length : Nat))) w := r_lenS f hat hT hx
theorem rt_cut {T e : TypeId} {x : Operand} {lo hi : Option Operand} {z : Value} {by_ i j cp : Nat} {p : Option Addr} {l l' : List α} (f : Frm n fl a)
    (hT : P.underlying T = some (.slice e)) (hE : TI P e z E.sz by_) (hx : opv fl x = some (.slice p l.length cp)) (hr : RdL E w p cp l)
    (hlo : (lo = none ∧ i = 0) ∨ ∃ y k, lo = some y ∧ opv fl y = some (.int k (i : Int))) (hhi : (hi = none ∧ j = l.length) ∨ ∃ y k, hi = some y ∧ opv fl y = some (.int k (j : Int)))
    (hij : i ≤ j) (hj : j ≤ l.length) (hl : (l.drop i).take (j - i) = l') :
    ∃ p' c', (∀ w' : World, (execOp a.eval ⟨some d, .slice T x lo hi none, ty, pos, after, g⟩).run P w' = .ok (.value (.slice p' l'.length c')) w') ∧ (∀ W, RdL E W p cp l → RdL E W p' c' l') ∧ sblk p' = sblk p := by
  subst hl
  have hlen : ((l.drop i).take (j - i)).length = j - i := by simp; omega
  have hcap : l.length ≤ cp := by
    rcases hr.2 with ⟨hv, h0⟩ | ⟨b, o, sp, cap, hv, h2, h3, hsp, h4⟩
    · omega
    · simp only [Value.slice.injEq, true_and] at hv; omega
  have hb : ∀ w' : World, (Instr.sliceBounds true l.length cp (lo.map a.eval) (hi.map a.eval) none).run P w' = .ok (i, j, cp) w' := by
    intro w'
    rcases hlo with ⟨rfl, rfl⟩ | ⟨y, k, rfl, hy⟩ <;> rcases hhi with ⟨rfl, rfl⟩ | ⟨y', k', rfl, hy'⟩
    · simp [Instr.sliceBounds]
    · have : (j : Int) ≤ cp := by omega
      simp [Instr.sliceBounds, f.ev hy', Instr.sliceBound, asIntOf]; omega
    · simp [Instr.sliceBounds, f.ev hy, Instr.sliceBound, asIntOf]; omega
    · have h1 : j ≤ cp := by omega
      simp [Instr.sliceBounds, f.ev hy, f.ev hy', Instr.sliceBound, asIntOf, h1, hij]
  refine ⟨if cp = i then p else p.map (·.add (i * E.sz)), cp - i, fun w' => ?_, fun W hW => ?_, ?_⟩
  · simp only [execOp, Instr.sliceAt, f.ev hx, Sem.run_bind, run_underlying hT, Result.andThen, Instr.slice, hb w', run_sizeOf hE, Sem.run_pure, Option.map_none, hlen]
  · have := hW.sub rfl hij hj
    unfold RdL
    rw [hlen, ← E.cells_take, ← E.cells_drop]
    exact this
  · rw [← sblk_own _ (j - i) (cp - i), ← sblk_own p l.length cp]; exact sub_own
end
end

section
variable {P : Program} {ops : Array Oper} {Q : Exit → Act → World → Prop} {a : Act} {w : World} {n : Nat} {l : List (Nat × Value)} {y : Code}
  {d : Tmp} {op : Op} {ty : TypeId} {pos : String} {after : Array Edge} {g : Option (Nat × Bool)} {S : World → Prop} {fuel i : Nat} {listed listed' : Array Bool}

theorem held_reg {id : Nat} {os : List Oper} (S : World → Prop) (hm : P.follows .mixedOrders = true) {sz : Nat} (hz : os.toArray.size = sz) {ls : Array Bool} (hl : Array.replicate sz false = ls)
    (h : ∀ w', Ext w w' → wpAnyH P .any os.toArray Q S sz ls a w') : (Code.region id os.toArray true).wp P Q a w :=
  wp_region_held (S := S) hm (by rw [hz, hl]; exact h _ Ext.rfl'.dr)
theorem held_seq {id : Nat} {os : List Oper} (S : World → Prop) (hm : P.follows .mixedOrders = true) {sz : Nat} (hz : os.toArray.size = sz) {ls : Array Bool} (hl : Array.replicate sz false = ls)
    (h : ∀ w', Ext w w' → wpAnyH P .any os.toArray (Exit.then (y.wp P Q) Q) S sz ls a w') : (Code.seq (.region id os.toArray true) y).wp P Q a w :=
  wp_seq (held_reg S hm hz hl h)
/-- What only reads is taken first. -/
theorem h_take {v : Value} (f : Frm n l a) (i : Nat) (hi : ops[i]? = some ⟨some d, op, ty, pos, after, g⟩) (hs : Region.noSelect ops = true) (hf : Region.free .any ops listed i = true) (hr : (Region.ready .any ops listed).contains i = true)
    (hQ : ∀ c a w, Q (.panic c) (a.put (some d) v) w → Q (.panic c) a w) (hw : Region.wanted ⟨some d, op, ty, pos, after, g⟩ (yielded ops a.tmps) = true) (hd : Nat.blt d n = true)
    (hrun : ∀ w', S w' → (execOp a.eval ⟨some d, op, ty, pos, after, g⟩).run P w' = .ok (.value v) w') (hS : S w) (hl : listed.setIfInBounds i true = listed')
    (k : ∀ a', Frm n ((d, v) :: l) a' → wpAnyH P .any ops Q S fuel listed' a' w) : wpAnyH P .any ops Q S (fuel + 1) listed a w :=
  wpAnyH_take hi hs hf hr hQ (.inl ⟨hw, hrun⟩) hS (by rw [hl]; exact k _ (f.put v hd))
theorem h_skip (f : Frm n l a) (i : Nat) (hi : ops[i]? = some ⟨some d, op, ty, pos, after, g⟩) (hs : Region.noSelect ops = true) (hf : Region.free .any ops listed i = true) (hr : (Region.ready .any ops listed).contains i = true)
    (hQ : ∀ c a w, Q (.panic c) (a.put (some d) undef) w → Q (.panic c) a w) (hw : Region.wanted ⟨some d, op, ty, pos, after, g⟩ (yielded ops a.tmps) = false) (hd : Nat.blt d n = true)
    (hS : S w) (hl : listed.setIfInBounds i true = listed')
    (k : ∀ a', Frm n ((d, undef) :: l) a' → wpAnyH P .any ops Q S fuel listed' a' w) : wpAnyH P .any ops Q S (fuel + 1) listed a w :=
  wpAnyH_take hi hs hf hr hQ (.inr ⟨hw, rfl⟩) hS (by rw [hl]; exact k _ (f.put undef hd))
/-- One operation that turns the world, where no other may come up. -/
theorem h_do {v : Value} {w' : World} (f : Frm n l a) (i : Nat) (hi : ops[i]? = some ⟨some d, op, ty, pos, after, g⟩) (hr : Region.ready .any ops listed = [i])
    (hw : Region.wanted ⟨some d, op, ty, pos, after, g⟩ (yielded ops a.tmps) = true) (hd : Nat.blt d n = true)
    (hrun : (execOp a.eval ⟨some d, op, ty, pos, after, g⟩).run P w = .ok (.value v) w') (hS : S w') (hl : listed.setIfInBounds i true = listed')
    (k : ∀ a', Frm n ((d, v) :: l) a' → wpAnyH P .any ops Q S fuel listed' a' w') : wpAnyH P .any ops Q S (fuel + 1) listed a w :=
  wpAnyH_all hr (by simp) (fun j hj => by
    simp only [List.mem_singleton] at hj
    subst hj
    unfold wpOp
    simp only [hi, hw, if_true]
    refine .inl ?_
    unfold Oper.wp; rw [hrun]
    exact ⟨hS, by rw [hl]; exact k _ (f.put v hd)⟩)
theorem h_do0 {w' : World} (f : Frm n l a) (i : Nat) (hi : ops[i]? = some ⟨none, op, ty, pos, after, g⟩) (hr : Region.ready .any ops listed = [i])
    (hw : Region.wanted ⟨none, op, ty, pos, after, g⟩ (yielded ops a.tmps) = true)
    (hrun : (execOp a.eval ⟨none, op, ty, pos, after, g⟩).run P w = .ok .skip w') (hS : S w') (hl : listed.setIfInBounds i true = listed')
    (k : wpAnyH P .any ops Q S fuel listed' a w') : wpAnyH P .any ops Q S (fuel + 1) listed a w :=
  wpAnyH_all hr (by simp) (fun j hj => by
    simp only [List.mem_singleton] at hj
    subst hj
    unfold wpOp
    simp only [hi, hw, if_true]
    refine .inl ?_
    unfold Oper.wp; rw [hrun]
    exact ⟨hS, by rw [hl]; exact k⟩)
theorem h_call {fn : FuncId} {args : Array Operand} {vs : Array Value} {ats : Array TypeId} {F : Func} {b : Code} {R : Ending → World → Prop} (f : Frm n l a) (i : Nat)
    (hi : ops[i]? = some ⟨some d, .call ⟨.value (.func fn), args, ats⟩, ty, pos, after, g⟩) (hr : Region.ready .any ops listed = [i]) (hl : listed.setIfInBounds i true = listed')
    (hw : Region.wanted ⟨some d, .call ⟨.value (.func fn), args, ats⟩, ty, pos, after, g⟩ (yielded ops a.tmps) = true) (hd : Nat.blt d n = true)
    (hF : P.funcs[fn]? = some F) (hB : F.body = some b) (hnm : (F.name == "runtime.NumGoroutine") = false)
    (hvs : args.map a.eval = vs) (hc : Calls P fn vs w R)
    (c : ∀ e w', R e w' → ∃ v, e = .returned v ∧ S w' ∧ ∀ a', Frm n ((d, v) :: l) a' → wpAnyH P .any ops Q S fuel listed' a' w') : wpAnyH P .any ops Q S (fuel + 1) listed a w :=
  wpAnyH_all hr (by simp) (fun j hj => by
    simp only [List.mem_singleton] at hj
    subst hj
    unfold wpOp
    simp only [hi, hw, if_true]
    refine .inl ?_
    have hrun : (execOp a.eval ⟨some d, .call ⟨.value (.func fn), args, ats⟩, ty, pos, after, g⟩).run P w = .ok (.enter fn vs) w := by
      have e0 : a.eval (.func fn) = .func (.func fn) #[] #[] := rfl
      simp [execOp, resolve, e0, Deferred.ofValue, invoke, hvs, run_callF hF hB hnm]
    unfold Oper.wp; rw [hrun]
    simp only [Oper.upon]
    refine hc.mono fun e w' hR => ?_
    obtain ⟨v, rfl, hS, hk⟩ := c e w' hR
    exact ⟨hS, by rw [hl]; exact hk _ (f.put v hd)⟩)
theorem h_done (hr : Region.ready .any ops listed = []) (h : Q .normal a w) : wpAnyH P .any ops Q S fuel listed a w := wpAnyH_done hr h fuel
end
end Go.Proofs.Ytklfgpdfongaeaa
