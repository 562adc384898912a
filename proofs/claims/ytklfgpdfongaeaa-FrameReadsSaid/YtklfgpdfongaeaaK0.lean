/- One operation's run, by its operands' values. Over any program. -/
import Derived.Test.YtklfgpdfongaeaaLibH
namespace Go.Proofs.Ytklfgpdfongaeaa
open Go Go.RowKit
set_option linter.unusedSimpArgs false
set_option linter.unusedVariables false

section
variable {P : Program} {ρ : Operand → Value} {w : World} {d : Tmp} {ty : TypeId} {pos : String} {after : Array Edge} {g : Option (Nat × Bool)}
theorem q0_move {x : Operand} {v : Value}  
    (hx : ρ x = v)  :
    (execOp ρ ⟨some d, .move x, ty, pos, after, g⟩).run P w = .ok (.value (v)) w := (by simp [execOp, hx, pure])
theorem q0_assign {x : Operand} {v : Value}  
    (hx : ρ x = v)  :
    (execOp ρ ⟨some d, .assign x, ty, pos, after, g⟩).run P w = .ok (.value (v)) w := (by simp [execOp, hx, pure])
theorem q0_bin {op : BinOp} {x y : Operand} {T T' : TypeId} {k : IntKind} {m m' : Int} {v : Value} 
    
    (hx : ρ x = (.int k m)) (hy : ρ y = (.int k m')) (hv : arith op k m m' = some v) :
    (execOp ρ ⟨some d, .binOp op T x y T', ty, pos, after, g⟩).run P w = .ok (.value (v)) w := (by
    have e1 := hx
    have e2 := hy
    cases op <;> simp only [arith, Option.some.injEq, reduceCtorEq] at hv <;> subst hv <;>
      simp [execOp, e1, e2, eqGuard, binOp, Op.intArith, Op.intCmp, pure, bind, Sem.bind])
theorem q0_quo {x y : Operand} {T T' : TypeId} {k : IntKind} {m m' r : Int} 
    
    (hx : ρ x = (.int k m)) (hy : ρ y = (.int k m')) (h0 : m' ≠ 0) (hv : k.wrap (m.tdiv m') = r) :
    (execOp ρ ⟨some d, .binOp .quo T x y T', ty, pos, after, g⟩).run P w = .ok (.value (.int k r)) w := (by
    subst hv
    simp [execOp, hx, hy, eqGuard, binOp, Op.intDiv, h0, pure, bind, Sem.bind])
theorem q0_rem {x y : Operand} {T T' : TypeId} {k : IntKind} {m m' r : Int} 
    
    (hx : ρ x = (.int k m)) (hy : ρ y = (.int k m')) (h0 : m' ≠ 0) (hv : m.tmod m' = r) :
    (execOp ρ ⟨some d, .binOp .rem T x y T', ty, pos, after, g⟩).run P w = .ok (.value (.int k r)) w := (by
    subst hv
    simp [execOp, hx, hy, eqGuard, binOp, Op.intDiv, h0, pure, bind, Sem.bind])
theorem q0_shl {x y : Operand} {T T' : TypeId} {k k' : IntKind} {m m' r : Int} 
    
    (hx : ρ x = (.int k m)) (hy : ρ y = (.int k' m')) (h0 : 0 ≤ m') (hv : k.wrap (m * 2 ^ (min m'.toNat k.bits)) = r) :
    (execOp ρ ⟨some d, .binOp .shl T x y T', ty, pos, after, g⟩).run P w = .ok (.value (.int k r)) w := (by
    subst hv
    have : ¬ m' < 0 := by omega
    simp [execOp, hx, hy, eqGuard, binOp, Op.shift, this, pure, bind, Sem.bind])
theorem q0_shr {x y : Operand} {T T' : TypeId} {k k' : IntKind} {m m' r : Int} 
    
    (hx : ρ x = (.int k m)) (hy : ρ y = (.int k' m')) (h0 : 0 ≤ m') (hv : m.fdiv (2 ^ (min m'.toNat k.bits)) = r) :
    (execOp ρ ⟨some d, .binOp .shr T x y T', ty, pos, after, g⟩).run P w = .ok (.value (.int k r)) w := (by
    subst hv
    have : ¬ m' < 0 := by omega
    simp [execOp, hx, hy, eqGuard, binOp, Op.shift, this, pure, bind, Sem.bind])
theorem q0_bits {op : BinOp} {x y : Operand} {T T' : TypeId} {k : IntKind} {m m' r : Int} 
    
    (hop : isBits op = true) (hx : ρ x = (.int k m)) (hy : ρ y = (.int k m')) (hv : bitsOf op k m m' = r) :
    (execOp ρ ⟨some d, .binOp op T x y T', ty, pos, after, g⟩).run P w = .ok (.value (.int k r)) w := (by
    subst hv
    have e1 := hx
    have e2 := hy
    cases op <;> simp only [isBits, reduceCtorEq, Bool.false_eq_true] at hop <;>
      simp [execOp, e1, e2, eqGuard, binOp, Op.intBits, bitsOf, pure, bind, Sem.bind])
theorem q0_eqlB {x y : Operand} {T T' : TypeId} {b b' : Bool} 
    
    (hT : P.underlying T = some .bool) (hx : ρ x = (.bool b)) (hy : ρ y = (.bool b')) :
    (execOp ρ ⟨some d, .binOp .eql T x y T', ty, pos, after, g⟩).run P w = .ok (.value (.bool (b == b'))) w := (exec_bin (by rw [hx, hy]; rfl) (by rw [hx, hy]; exact run_eqlB hT))
theorem q0_neqB {x y : Operand} {T T' : TypeId} {b b' : Bool} 
    
    (hT : P.underlying T = some .bool) (hx : ρ x = (.bool b)) (hy : ρ y = (.bool b')) :
    (execOp ρ ⟨some d, .binOp .neq T x y T', ty, pos, after, g⟩).run P w = .ok (.value (.bool (b != b'))) w := (exec_bin (by rw [hx, hy]; rfl) (by rw [hx, hy]; exact run_neqB hT))
theorem q0_eqlS {x y : Operand} {T T' : TypeId} {s s' : ByteArray} 
    
    (hx : ρ x = (.string s)) (hy : ρ y = (.string s')) :
    (execOp ρ ⟨some d, .binOp .eql T x y T', ty, pos, after, g⟩).run P w = .ok (.value (.bool (s.toList == s'.toList))) w := (exec_bin (by rw [hx, hy]; rfl) (by rw [hx, hy]; rfl))
theorem q0_neqS {x y : Operand} {T T' : TypeId} {s s' : ByteArray} 
    
    (hx : ρ x = (.string s)) (hy : ρ y = (.string s')) :
    (execOp ρ ⟨some d, .binOp .neq T x y T', ty, pos, after, g⟩).run P w = .ok (.value (.bool (!(s.toList == s'.toList)))) w := (exec_bin (by rw [hx, hy]; rfl) (by rw [hx, hy]; rfl))
theorem q0_not {x : Operand} {T : TypeId} {b : Bool} 
    
    (hx : ρ x = (.bool b)) :
    (execOp ρ ⟨some d, .unOp .not T x, ty, pos, after, g⟩).run P w = .ok (.value (.bool (!b))) w := (by simp [execOp, hx, Op.unary, pure, bind, Sem.bind])
theorem q0_neg {x : Operand} {T : TypeId} {k : IntKind} {m r : Int} 
    
    (hx : ρ x = (.int k m)) (hv : k.wrap (0 - m) = r) :
    (execOp ρ ⟨some d, .unOp .neg T x, ty, pos, after, g⟩).run P w = .ok (.value (.int k r)) w := (by subst hv; simp [execOp, hx, Op.unary, Op.intArith, pure, bind, Sem.bind])
theorem q0_xorU {x : Operand} {T : TypeId} {k : IntKind} {m r : Int} 
    
    (hx : ρ x = (.int k m)) (hv : bitsOf .xor k (if k.signed then -1 else k.max) m = r) :
    (execOp ρ ⟨some d, .unOp .xor T x, ty, pos, after, g⟩).run P w = .ok (.value (.int k r)) w := (by subst hv; simp [execOp, hx, Op.unary, Op.intBits, bitsOf, pure, bind, Sem.bind])
theorem q0_pick {x y z : Operand} {b : Bool} {v u r : Value} 
    
    (hx : ρ x = (.bool b)) (hy : ρ y = v) (hz : ρ z = u) (hv : (if b then v else u) = r) :
    (execOp ρ ⟨some d, .pick x y z, ty, pos, after, g⟩).run P w = .ok (.value (r)) w := (by subst hv; cases b <;> simp [execOp, hx, hy, hz, asBool, pure, bind, Sem.bind])
theorem q0_conv {x : Operand} {S T : TypeId} {ds : TypeDesc} {k k' : IntKind} {m r : Int} 
    
    (hS : P.underlying S = some ds) (hT : P.underlying T = some (.int k')) (hx : ρ x = (.int k m)) (hv : k'.wrap m = r) :
    (execOp ρ ⟨some d, .convert S T x, ty, pos, after, g⟩).run P w = .ok (.value (.int k' r)) w := (by subst hv; simp [execOp, hx, convert, run_underlying hS, run_underlying hT, Conv.intToInt])
theorem q0_extract {x : Operand} {i : Nat} {vs : Array Value} {v : Value} 
    
    (hx : ρ x = (.tuple vs)) (hv : vs[i]? = some v) :
    (execOp ρ ⟨some d, .extract x i, ty, pos, after, g⟩).run P w = .ok (.value (v)) w := (by simp [execOp, hx, Instr.extract, hv, pure, bind, Sem.bind])
theorem q0_lenS {x : Operand} {T : TypeId} {at_ : Array TypeId} {e : TypeId} {p : Option Addr} {m cp : Nat} 
    
    (hat : at_[0]? = some T) (hT : P.underlying T = some (.slice e)) (hx : ρ x = (.slice p m cp)) :
    (execOp ρ ⟨some d, .call ⟨.builtin .len, #[x], at_⟩, ty, pos, after, g⟩).run P w = .ok (.value (.int .i64 m)) w := (by simp [execOp, resolve, invoke, builtin, hx, Builtin.len_, hat, run_underlying hT, goInt])
theorem q0_lenStr {x : Operand} {T : TypeId} {at_ : Array TypeId} {s : ByteArray} 
    
    (hat : at_[0]? = some T) (hT : P.underlying T = some .string) (hx : ρ x = (.string s)) :
    (execOp ρ ⟨some d, .call ⟨.builtin .len, #[x], at_⟩, ty, pos, after, g⟩).run P w = .ok (.value (.int .i64 s.size)) w := (by simp [execOp, resolve, invoke, builtin, hx, Builtin.len_, hat, run_underlying hT, goInt])
theorem q0_lenA {x : Operand} {T : TypeId} {at_ : Array TypeId} {e : TypeId} {m : Nat} {v : Value} 
    
    (hat : at_[0]? = some T) (hT : P.underlying T = some (.array m e)) (hx : ρ x = v) :
    (execOp ρ ⟨some d, .call ⟨.builtin .len, #[x], at_⟩, ty, pos, after, g⟩).run P w = .ok (.value (.int .i64 m)) w := (by simp [execOp, resolve, invoke, builtin, hx, Builtin.len_, hat, run_underlying hT, goInt])
theorem q0_min {x y : Operand} {at_ : Array TypeId} {k : IntKind} {m m' : Int} 
    
    (hx : ρ x = (.int k m)) (hy : ρ y = (.int k m')) :
    (execOp ρ ⟨some d, .call ⟨.builtin .min, #[x, y], at_⟩, ty, pos, after, g⟩).run P w = .ok (.value (.int k (if m' < m then m' else m))) w := (by simp [execOp, resolve, invoke, builtin, hx, hy, Builtin.min_, Builtin.min2, pure, bind, Sem.bind])
theorem q0_max {x y : Operand} {at_ : Array TypeId} {k : IntKind} {m m' : Int} 
    
    (hx : ρ x = (.int k m)) (hy : ρ y = (.int k m')) :
    (execOp ρ ⟨some d, .call ⟨.builtin .max, #[x, y], at_⟩, ty, pos, after, g⟩).run P w = .ok (.value (.int k (if m < m' then m' else m))) w := (by simp [execOp, resolve, invoke, builtin, hx, hy, Builtin.max_, Builtin.max2, pure, bind, Sem.bind])
theorem q0_indexStr {x i : Operand} {T : TypeId} {s : ByteArray} {k : IntKind} {m : Int} {c0 : UInt8} 
    
    (hT : P.underlying T = some .string) (hx : ρ x = (.string s)) (hi : ρ i = (.int k m)) (h0 : 0 ≤ m) (hc : s[m.toNat]? = some c0) :
    (execOp ρ ⟨some d, .index T x i, ty, pos, after, g⟩).run P w = .ok (.value (.int .u8 c0.toNat)) w := (by simp [execOp, hx, hi, Instr.index, asIntOf, run_underlying hT, h0, hc])
theorem q0_mkfunc {fn : Fn} {first captured : Array Operand} {v1 v2 : Array Value} 
    
    (h1 : first.map ρ = v1) (h2 : captured.map ρ = v2) :
    (execOp ρ ⟨some d, .makeFunc fn first captured, ty, pos, after, g⟩).run P w = .ok (.value (.func fn v1 v2)) w := (by simp [execOp, Instr.makeFunc, h1, h2, pure, bind, Sem.bind])
theorem q0_load {t : TypeId} {x : Operand} {p : Addr} {v : Value} 
     (hT : Sc P t)
    (hx : ρ x = (.pointer (some p))) (hc : w.cell? p = some v) :
    (execOp ρ ⟨some d, .load t x, ty, pos, after, g⟩).run P w = .ok (.value (v)) w := (by simp [execOp, hx, Instr.loadAt, Instr.sureAddr, run_load1 hT hc])
theorem q0_loadA {t : TypeId} {x : Operand} {p : Addr} {z : Value} {sz by_ : Nat} {cs : List Value} 
     (hT : Ag P t) (hS : TI P t z sz by_)
    (hx : ρ x = (.pointer (some p))) (hl : cs.length = sz) (hc : ∀ j u, cs[j]? = some u → w.cell? (p.add j) = some u) :
    (execOp ρ ⟨some d, .load t x, ty, pos, after, g⟩).run P w = .ok (.value (.agg cs.toArray)) w := (by simp [execOp, hx, Instr.loadAt, Instr.sureAddr, run_loadA hT hS hl hc])
theorem q0_fieldAddr {S : TypeId} {x : Operand} {i : Nat} {p q : Addr} {fs : Array Field} {fd : Field} {z : Value} {sz by_ : Nat} 
    
    (hS : P.underlying S = some (.struct fs)) (hi : fs[i]? = some fd) (hF : TI P fd.type z (sz + 1) by_) (hx : ρ x = (.pointer (some p))) (hq : p.add fd.offset = q) :
    (execOp ρ ⟨some d, .fieldAddr S x i, ty, pos, after, g⟩).run P w = .ok (.value (.pointer (some q))) w := (by subst hq; simp [execOp, hx, Instr.fieldAt, Instr.sureAddr, run_underlying hS, hi, fieldPlace, run_sizeOf hF])
theorem q0_indexAddrA {T e : TypeId} {x y : Operand} {b o m sz by_ : Nat} {k : IntKind} {i : Int} {z : Value} {j q : Nat} 
    
    (hT : P.underlying T = some (.array m e)) (hE : TI P e z sz by_) (hx : ρ x = (.pointer (some ⟨b, o, none⟩))) (hy : ρ y = (.int k i)) (hij : i = (j : Int)) (hj : j < m) (hq : o + j * sz = q) :
    (execOp ρ ⟨some d, .indexAddr T x y, ty, pos, after, g⟩).run P w = .ok (.value (.pointer (some ⟨b, q, none⟩))) w := (by
    subst hij; subst hq
    simp [execOp, hx, hy, Instr.indexAt, Instr.sureAddr, asIntOf, run_underlying hT, hj, run_sizeOf hE, add_none])
theorem q0_eqlNil {T T' e : TypeId} {x y : Operand} {p : Option Addr} {k c : Nat} 
    
    (hT : P.underlying T = some (.slice e)) (hx : ρ x = (.slice p k c)) (hy : ρ y = (.slice none 0 0)) :
    (execOp ρ ⟨some d, .binOp .eql T x y T', ty, pos, after, g⟩).run P w = .ok (.value (.bool (decide (p = none)))) w := (exec_bin (by rw [hx, hy]; rfl) (by rw [hx, hy]; exact run_eql_nil hT))
theorem q0_neqNil {T T' e : TypeId} {x y : Operand} {p : Option Addr} {k c : Nat} 
    
    (hT : P.underlying T = some (.slice e)) (hx : ρ x = (.slice p k c)) (hy : ρ y = (.slice none 0 0)) :
    (execOp ρ ⟨some d, .binOp .neq T x y T', ty, pos, after, g⟩).run P w = .ok (.value (.bool (decide (p ≠ none)))) w := (exec_bin (by rw [hx, hy]; rfl) (by rw [hx, hy]; exact run_neq_nil hT))

theorem q0_build {t : TypeId} {parts : Array (Nat × Operand)} {vs : Array (Nat × Value)} {v : Value} 
    (hp : (parts.map fun (i, x) => (i, ρ x)) = vs) (hr : (Instr.build t vs).run P w = .ok v w) :
    (execOp ρ ⟨some d, .build t parts, ty, pos, after, g⟩).run P w = .ok (.value v) w := by
  subst hp
  simp only [execOp, Sem.run_bind, hr, Result.andThen, Sem.run_pure]
end
end Go.Proofs.Ytklfgpdfongaeaa
