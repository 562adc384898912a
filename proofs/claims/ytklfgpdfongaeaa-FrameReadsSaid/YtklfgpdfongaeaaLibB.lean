/- One law for each operation that only computes. Over any program P. -/
import Derived.Test.YtklfgpdfongaeaaLibA
namespace Go.Proofs.Ytklfgpdfongaeaa
open Go Go.RowKit
set_option linter.unusedSimpArgs false
set_option linter.unusedVariables false

section
variable {P : Program} {ops : Array Oper} {Q : Exit → Act → World → Prop} {a : Act} {w : World} {rest : List Oper} {n : Nat} {l : List (Nat × Value)}
  {d : Tmp} {ty : TypeId} {pos : String} {after : Array Edge} {g : Option (Nat × Bool)}

theorem s_move {x : Operand} {v : Value} (f : Frm n l a) (hw : Region.wanted ⟨some d, .move x, ty, pos, after, g⟩ (yielded ops a.tmps) = true) (hd : Nat.blt d n = true)
    (hx : opv l x = some v) (k : ∀ a', Frm n ((d, v) :: l) a' → wpList P ops Q rest a' w) : wpList P ops Q (⟨some d, .move x, ty, pos, after, g⟩ :: rest) a w :=
  stv f hw hd (by simp [execOp, f.ev hx, pure]) k
theorem s_assign {x : Operand} {v : Value} (f : Frm n l a) (hw : Region.wanted ⟨some d, .assign x, ty, pos, after, g⟩ (yielded ops a.tmps) = true) (hd : Nat.blt d n = true)
    (hx : opv l x = some v) (k : ∀ a', Frm n ((d, v) :: l) a' → wpList P ops Q rest a' w) : wpList P ops Q (⟨some d, .assign x, ty, pos, after, g⟩ :: rest) a w :=
  stv f hw hd (by simp [execOp, f.ev hx, pure]) k

/-- the arithmetic of two integers of one kind -/
def arith (op : BinOp) (k : IntKind) (x y : Int) : Option Value :=
  match op with
  | .add => some (.int k (k.wrap (x + y)))
  | .sub => some (.int k (k.wrap (x - y)))
  | .mul => some (.int k (k.wrap (x * y)))
  | .lss => some (.bool (x < y))
  | .leq => some (.bool (x ≤ y))
  | .gtr => some (.bool (y < x))
  | .geq => some (.bool (y ≤ x))
  | .eql => some (.bool (x == y))
  | .neq => some (.bool (x != y))
  | _ => none
theorem s_bin {op : BinOp} {x y : Operand} {T T' : TypeId} {k : IntKind} {m m' : Int} {v : Value} (f : Frm n l a)
    (hw : Region.wanted ⟨some d, .binOp op T x y T', ty, pos, after, g⟩ (yielded ops a.tmps) = true) (hd : Nat.blt d n = true)
    (hx : opv l x = some (.int k m)) (hy : opv l y = some (.int k m')) (hv : arith op k m m' = some v)
    (c : ∀ a', Frm n ((d, v) :: l) a' → wpList P ops Q rest a' w) : wpList P ops Q (⟨some d, .binOp op T x y T', ty, pos, after, g⟩ :: rest) a w :=
  stv f hw hd (by
    have e1 := f.ev hx
    have e2 := f.ev hy
    cases op <;> simp only [arith, Option.some.injEq, reduceCtorEq] at hv <;> subst hv <;>
      simp [execOp, e1, e2, eqGuard, binOp, Op.intArith, Op.intCmp, pure, bind, Sem.bind]) c
/-- a wrap that does nothing -/
theorem arith_add {k : IntKind} {x y r : Int} (h : k.wrap (x + y) = r) : arith .add k x y = some (.int k r) := by simp [arith, h]
theorem arith_sub {k : IntKind} {x y r : Int} (h : k.wrap (x - y) = r) : arith .sub k x y = some (.int k r) := by simp [arith, h]
theorem arith_mul {k : IntKind} {x y r : Int} (h : k.wrap (x * y) = r) : arith .mul k x y = some (.int k r) := by simp [arith, h]
theorem wrap_i64 {z r : Int} (h1 : -9223372036854775808 ≤ z ∧ z ≤ 9223372036854775807) (h2 : z = r) : IntKind.i64.wrap z = r := by
  subst h2; simp only [IntKind.wrap, IntKind.signed, IntKind.bits, Bool.true_and, decide_eq_true_eq, ge_iff_le]
  split <;> omega
theorem wrap_u64 {z r : Int} (h1 : 0 ≤ z ∧ z ≤ 18446744073709551615) (h2 : z = r) : IntKind.u64.wrap z = r := by
  subst h2; simp only [IntKind.wrap, IntKind.signed, IntKind.bits]; simp; omega
theorem wrap_u32 {z r : Int} (h1 : 0 ≤ z ∧ z ≤ 4294967295) (h2 : z = r) : IntKind.u32.wrap z = r := by
  subst h2; simp only [IntKind.wrap, IntKind.signed, IntKind.bits]; simp; omega
theorem wrap_i32 {z r : Int} (h1 : -2147483648 ≤ z ∧ z ≤ 2147483647) (h2 : z = r) : IntKind.i32.wrap z = r := by
  subst h2; simp only [IntKind.wrap, IntKind.signed, IntKind.bits, Bool.true_and, decide_eq_true_eq, ge_iff_le]
  split <;> omega
theorem wrap_u8 {z r : Int} (h1 : 0 ≤ z ∧ z ≤ 255) (h2 : z = r) : IntKind.u8.wrap z = r := by
  subst h2; simp only [IntKind.wrap, IntKind.signed, IntKind.bits]; simp; omega

theorem s_quo {x y : Operand} {T T' : TypeId} {k : IntKind} {m m' r : Int} (f : Frm n l a)
    (hw : Region.wanted ⟨some d, .binOp .quo T x y T', ty, pos, after, g⟩ (yielded ops a.tmps) = true) (hd : Nat.blt d n = true)
    (hx : opv l x = some (.int k m)) (hy : opv l y = some (.int k m')) (h0 : m' ≠ 0) (hv : k.wrap (m.tdiv m') = r)
    (c : ∀ a', Frm n ((d, .int k r) :: l) a' → wpList P ops Q rest a' w) : wpList P ops Q (⟨some d, .binOp .quo T x y T', ty, pos, after, g⟩ :: rest) a w :=
  stv f hw hd (by
    subst hv
    simp [execOp, f.ev hx, f.ev hy, eqGuard, binOp, Op.intDiv, h0, pure, bind, Sem.bind]) c
theorem s_rem {x y : Operand} {T T' : TypeId} {k : IntKind} {m m' r : Int} (f : Frm n l a)
    (hw : Region.wanted ⟨some d, .binOp .rem T x y T', ty, pos, after, g⟩ (yielded ops a.tmps) = true) (hd : Nat.blt d n = true)
    (hx : opv l x = some (.int k m)) (hy : opv l y = some (.int k m')) (h0 : m' ≠ 0) (hv : m.tmod m' = r)
    (c : ∀ a', Frm n ((d, .int k r) :: l) a' → wpList P ops Q rest a' w) : wpList P ops Q (⟨some d, .binOp .rem T x y T', ty, pos, after, g⟩ :: rest) a w :=
  stv f hw hd (by
    subst hv
    simp [execOp, f.ev hx, f.ev hy, eqGuard, binOp, Op.intDiv, h0, pure, bind, Sem.bind]) c
theorem s_shl {x y : Operand} {T T' : TypeId} {k k' : IntKind} {m m' r : Int} (f : Frm n l a)
    (hw : Region.wanted ⟨some d, .binOp .shl T x y T', ty, pos, after, g⟩ (yielded ops a.tmps) = true) (hd : Nat.blt d n = true)
    (hx : opv l x = some (.int k m)) (hy : opv l y = some (.int k' m')) (h0 : 0 ≤ m') (hv : k.wrap (m * 2 ^ (min m'.toNat k.bits)) = r)
    (c : ∀ a', Frm n ((d, .int k r) :: l) a' → wpList P ops Q rest a' w) : wpList P ops Q (⟨some d, .binOp .shl T x y T', ty, pos, after, g⟩ :: rest) a w :=
  stv f hw hd (by
    subst hv
    have : ¬ m' < 0 := by omega
    simp [execOp, f.ev hx, f.ev hy, eqGuard, binOp, Op.shift, this, pure, bind, Sem.bind]) c
theorem s_shr {x y : Operand} {T T' : TypeId} {k k' : IntKind} {m m' r : Int} (f : Frm n l a)
    (hw : Region.wanted ⟨some d, .binOp .shr T x y T', ty, pos, after, g⟩ (yielded ops a.tmps) = true) (hd : Nat.blt d n = true)
    (hx : opv l x = some (.int k m)) (hy : opv l y = some (.int k' m')) (h0 : 0 ≤ m') (hv : m.fdiv (2 ^ (min m'.toNat k.bits)) = r)
    (c : ∀ a', Frm n ((d, .int k r) :: l) a' → wpList P ops Q rest a' w) : wpList P ops Q (⟨some d, .binOp .shr T x y T', ty, pos, after, g⟩ :: rest) a w :=
  stv f hw hd (by
    subst hv
    have : ¬ m' < 0 := by omega
    simp [execOp, f.ev hx, f.ev hy, eqGuard, binOp, Op.shift, this, pure, bind, Sem.bind]) c
/-- the bits of two integers of one kind -/
def bitsOf (op : BinOp) (k : IntKind) (x y : Int) : Int :=
  match op with
  | .and => k.wrap (BitVec.ofInt k.bits x &&& BitVec.ofInt k.bits y).toNat
  | .or => k.wrap (BitVec.ofInt k.bits x ||| BitVec.ofInt k.bits y).toNat
  | .xor => k.wrap (BitVec.ofInt k.bits x ^^^ BitVec.ofInt k.bits y).toNat
  | .andNot => k.wrap (BitVec.ofInt k.bits x &&& ~~~(BitVec.ofInt k.bits y)).toNat
  | _ => 0
def isBits : BinOp → Bool
  | .and | .or | .xor | .andNot => true
  | _ => false
theorem s_bits {op : BinOp} {x y : Operand} {T T' : TypeId} {k : IntKind} {m m' r : Int} (f : Frm n l a)
    (hw : Region.wanted ⟨some d, .binOp op T x y T', ty, pos, after, g⟩ (yielded ops a.tmps) = true) (hd : Nat.blt d n = true)
    (hop : isBits op = true) (hx : opv l x = some (.int k m)) (hy : opv l y = some (.int k m')) (hv : bitsOf op k m m' = r)
    (c : ∀ a', Frm n ((d, .int k r) :: l) a' → wpList P ops Q rest a' w) : wpList P ops Q (⟨some d, .binOp op T x y T', ty, pos, after, g⟩ :: rest) a w :=
  stv f hw hd (by
    subst hv
    have e1 := f.ev hx
    have e2 := f.ev hy
    cases op <;> simp only [isBits, reduceCtorEq, Bool.false_eq_true] at hop <;>
      simp [execOp, e1, e2, eqGuard, binOp, Op.intBits, bitsOf, pure, bind, Sem.bind]) c
/-- == and != of two bools, two strings -/
theorem run_equalInB {T : TypeId} {b b' : Bool} (m : Nat) (hT : P.underlying T = some .bool) : (Op.equalIn (m + 1) T (.bool b) (.bool b')).run P w = .ok (b == b') w := by
  simp [Op.equalIn, run_underlying hT]
theorem run_eqlB {T : TypeId} {b b' : Bool} (hT : P.underlying T = some .bool) : (binOp .eql T (.bool b) (.bool b')).run P w = .ok (.bool (b == b')) w := by
  have h : (Op.equalIn 10000 T (.bool b) (.bool b')).run P w = .ok (b == b') w := run_equalInB 9999 hT
  show (do pure (.bool (← Op.equalIn 10000 T (.bool b) (.bool b'))) : Sem Value).run P w = _
  simp [h]
theorem run_neqB {T : TypeId} {b b' : Bool} (hT : P.underlying T = some .bool) : (binOp .neq T (.bool b) (.bool b')).run P w = .ok (.bool (b != b')) w := by
  have h : (Op.equalIn 10000 T (.bool b) (.bool b')).run P w = .ok (b == b') w := run_equalInB 9999 hT
  show (do pure (.bool (!(← Op.equalIn 10000 T (.bool b) (.bool b')))) : Sem Value).run P w = _
  simp [h, bne]
theorem exec_bin {op : BinOp} {x y : Operand} {T T' : TypeId} {ρ : Operand → Value} {v : Value} (hg : (eqGuard op T x y (ρ x) (ρ y)).run P w = .ok () w) (h : (binOp op T (ρ x) (ρ y)).run P w = .ok v w) :
    (execOp ρ ⟨some d, .binOp op T x y T', ty, pos, after, g⟩).run P w = .ok (.value v) w := by
  show (do pure (Next.value (← (do eqGuard op T x y (ρ x) (ρ y); binOp op T (ρ x) (ρ y)))) : Sem Next).run P w = _
  simp [hg, h]
theorem s_eqlB {x y : Operand} {T T' : TypeId} {b b' : Bool} (f : Frm n l a)
    (hw : Region.wanted ⟨some d, .binOp .eql T x y T', ty, pos, after, g⟩ (yielded ops a.tmps) = true) (hd : Nat.blt d n = true)
    (hT : P.underlying T = some .bool) (hx : opv l x = some (.bool b)) (hy : opv l y = some (.bool b'))
    (c : ∀ a', Frm n ((d, .bool (b == b')) :: l) a' → wpList P ops Q rest a' w) : wpList P ops Q (⟨some d, .binOp .eql T x y T', ty, pos, after, g⟩ :: rest) a w :=
  stv f hw hd (exec_bin (by rw [f.ev hx, f.ev hy]; rfl) (by rw [f.ev hx, f.ev hy]; exact run_eqlB hT)) c
theorem s_neqB {x y : Operand} {T T' : TypeId} {b b' : Bool} (f : Frm n l a)
    (hw : Region.wanted ⟨some d, .binOp .neq T x y T', ty, pos, after, g⟩ (yielded ops a.tmps) = true) (hd : Nat.blt d n = true)
    (hT : P.underlying T = some .bool) (hx : opv l x = some (.bool b)) (hy : opv l y = some (.bool b'))
    (c : ∀ a', Frm n ((d, .bool (b != b')) :: l) a' → wpList P ops Q rest a' w) : wpList P ops Q (⟨some d, .binOp .neq T x y T', ty, pos, after, g⟩ :: rest) a w :=
  stv f hw hd (exec_bin (by rw [f.ev hx, f.ev hy]; rfl) (by rw [f.ev hx, f.ev hy]; exact run_neqB hT)) c
theorem s_eqlS {x y : Operand} {T T' : TypeId} {s s' : ByteArray} (f : Frm n l a)
    (hw : Region.wanted ⟨some d, .binOp .eql T x y T', ty, pos, after, g⟩ (yielded ops a.tmps) = true) (hd : Nat.blt d n = true)
    (hx : opv l x = some (.string s)) (hy : opv l y = some (.string s'))
    (c : ∀ a', Frm n ((d, .bool (s.toList == s'.toList)) :: l) a' → wpList P ops Q rest a' w) : wpList P ops Q (⟨some d, .binOp .eql T x y T', ty, pos, after, g⟩ :: rest) a w :=
  stv f hw hd (exec_bin (by rw [f.ev hx, f.ev hy]; rfl) (by rw [f.ev hx, f.ev hy]; rfl)) c
theorem s_neqS {x y : Operand} {T T' : TypeId} {s s' : ByteArray} (f : Frm n l a)
    (hw : Region.wanted ⟨some d, .binOp .neq T x y T', ty, pos, after, g⟩ (yielded ops a.tmps) = true) (hd : Nat.blt d n = true)
    (hx : opv l x = some (.string s)) (hy : opv l y = some (.string s'))
    (c : ∀ a', Frm n ((d, .bool (!(s.toList == s'.toList))) :: l) a' → wpList P ops Q rest a' w) : wpList P ops Q (⟨some d, .binOp .neq T x y T', ty, pos, after, g⟩ :: rest) a w :=
  stv f hw hd (exec_bin (by rw [f.ev hx, f.ev hy]; rfl) (by rw [f.ev hx, f.ev hy]; rfl)) c
theorem s_not {x : Operand} {T : TypeId} {b : Bool} (f : Frm n l a)
    (hw : Region.wanted ⟨some d, .unOp .not T x, ty, pos, after, g⟩ (yielded ops a.tmps) = true) (hd : Nat.blt d n = true)
    (hx : opv l x = some (.bool b))
    (c : ∀ a', Frm n ((d, .bool (!b)) :: l) a' → wpList P ops Q rest a' w) : wpList P ops Q (⟨some d, .unOp .not T x, ty, pos, after, g⟩ :: rest) a w :=
  stv f hw hd (by simp [execOp, f.ev hx, Op.unary, pure, bind, Sem.bind]) c
theorem s_neg {x : Operand} {T : TypeId} {k : IntKind} {m r : Int} (f : Frm n l a)
    (hw : Region.wanted ⟨some d, .unOp .neg T x, ty, pos, after, g⟩ (yielded ops a.tmps) = true) (hd : Nat.blt d n = true)
    (hx : opv l x = some (.int k m)) (hv : k.wrap (0 - m) = r)
    (c : ∀ a', Frm n ((d, .int k r) :: l) a' → wpList P ops Q rest a' w) : wpList P ops Q (⟨some d, .unOp .neg T x, ty, pos, after, g⟩ :: rest) a w :=
  stv f hw hd (by subst hv; simp [execOp, f.ev hx, Op.unary, Op.intArith, pure, bind, Sem.bind]) c
theorem s_xorU {x : Operand} {T : TypeId} {k : IntKind} {m r : Int} (f : Frm n l a)
    (hw : Region.wanted ⟨some d, .unOp .xor T x, ty, pos, after, g⟩ (yielded ops a.tmps) = true) (hd : Nat.blt d n = true)
    (hx : opv l x = some (.int k m)) (hv : bitsOf .xor k (if k.signed then -1 else k.max) m = r)
    (c : ∀ a', Frm n ((d, .int k r) :: l) a' → wpList P ops Q rest a' w) : wpList P ops Q (⟨some d, .unOp .xor T x, ty, pos, after, g⟩ :: rest) a w :=
  stv f hw hd (by subst hv; simp [execOp, f.ev hx, Op.unary, Op.intBits, bitsOf, pure, bind, Sem.bind]) c
theorem s_pick {x y z : Operand} {b : Bool} {v u r : Value} (f : Frm n l a)
    (hw : Region.wanted ⟨some d, .pick x y z, ty, pos, after, g⟩ (yielded ops a.tmps) = true) (hd : Nat.blt d n = true)
    (hx : opv l x = some (.bool b)) (hy : opv l y = some v) (hz : opv l z = some u) (hv : (if b then v else u) = r)
    (c : ∀ a', Frm n ((d, r) :: l) a' → wpList P ops Q rest a' w) : wpList P ops Q (⟨some d, .pick x y z, ty, pos, after, g⟩ :: rest) a w :=
  stv f hw hd (by subst hv; cases b <;> simp [execOp, f.ev hx, f.ev hy, f.ev hz, asBool, pure, bind, Sem.bind]) c
theorem s_conv {x : Operand} {S T : TypeId} {ds : TypeDesc} {k k' : IntKind} {m r : Int} (f : Frm n l a)
    (hw : Region.wanted ⟨some d, .convert S T x, ty, pos, after, g⟩ (yielded ops a.tmps) = true) (hd : Nat.blt d n = true)
    (hS : P.underlying S = some ds) (hT : P.underlying T = some (.int k')) (hx : opv l x = some (.int k m)) (hv : k'.wrap m = r)
    (c : ∀ a', Frm n ((d, .int k' r) :: l) a' → wpList P ops Q rest a' w) : wpList P ops Q (⟨some d, .convert S T x, ty, pos, after, g⟩ :: rest) a w :=
  stv f hw hd (by subst hv; simp [execOp, f.ev hx, convert, run_underlying hS, run_underlying hT, Conv.intToInt]) c
theorem s_extract {x : Operand} {i : Nat} {vs : Array Value} {v : Value} (f : Frm n l a)
    (hw : Region.wanted ⟨some d, .extract x i, ty, pos, after, g⟩ (yielded ops a.tmps) = true) (hd : Nat.blt d n = true)
    (hx : opv l x = some (.tuple vs)) (hv : vs[i]? = some v)
    (c : ∀ a', Frm n ((d, v) :: l) a' → wpList P ops Q rest a' w) : wpList P ops Q (⟨some d, .extract x i, ty, pos, after, g⟩ :: rest) a w :=
  stv f hw hd (by simp [execOp, f.ev hx, Instr.extract, hv, pure, bind, Sem.bind]) c
theorem s_lenS {x : Operand} {T : TypeId} {at_ : Array TypeId} {e : TypeId} {p : Option Addr} {m cp : Nat} (f : Frm n l a)
    (hw : Region.wanted ⟨some d, .call ⟨.builtin .len, #[x], at_⟩, ty, pos, after, g⟩ (yielded ops a.tmps) = true) (hd : Nat.blt d n = true)
    (hat : at_[0]? = some T) (hT : P.underlying T = some (.slice e)) (hx : opv l x = some (.slice p m cp))
    (c : ∀ a', Frm n ((d, .int .i64 m) :: l) a' → wpList P ops Q rest a' w) : wpList P ops Q (⟨some d, .call ⟨.builtin .len, #[x], at_⟩, ty, pos, after, g⟩ :: rest) a w :=
  stv f hw hd (by simp [execOp, resolve, invoke, builtin, f.ev hx, Builtin.len_, hat, run_underlying hT, goInt]) c
theorem s_lenStr {x : Operand} {T : TypeId} {at_ : Array TypeId} {s : ByteArray} (f : Frm n l a)
    (hw : Region.wanted ⟨some d, .call ⟨.builtin .len, #[x], at_⟩, ty, pos, after, g⟩ (yielded ops a.tmps) = true) (hd : Nat.blt d n = true)
    (hat : at_[0]? = some T) (hT : P.underlying T = some .string) (hx : opv l x = some (.string s))
    (c : ∀ a', Frm n ((d, .int .i64 s.size) :: l) a' → wpList P ops Q rest a' w) : wpList P ops Q (⟨some d, .call ⟨.builtin .len, #[x], at_⟩, ty, pos, after, g⟩ :: rest) a w :=
  stv f hw hd (by simp [execOp, resolve, invoke, builtin, f.ev hx, Builtin.len_, hat, run_underlying hT, goInt]) c
theorem s_lenA {x : Operand} {T : TypeId} {at_ : Array TypeId} {e : TypeId} {m : Nat} {v : Value} (f : Frm n l a)
    (hw : Region.wanted ⟨some d, .call ⟨.builtin .len, #[x], at_⟩, ty, pos, after, g⟩ (yielded ops a.tmps) = true) (hd : Nat.blt d n = true)
    (hat : at_[0]? = some T) (hT : P.underlying T = some (.array m e)) (hx : opv l x = some v)
    (c : ∀ a', Frm n ((d, .int .i64 m) :: l) a' → wpList P ops Q rest a' w) : wpList P ops Q (⟨some d, .call ⟨.builtin .len, #[x], at_⟩, ty, pos, after, g⟩ :: rest) a w :=
  stv f hw hd (by simp [execOp, resolve, invoke, builtin, f.ev hx, Builtin.len_, hat, run_underlying hT, goInt]) c
theorem s_min {x y : Operand} {at_ : Array TypeId} {k : IntKind} {m m' : Int} (f : Frm n l a)
    (hw : Region.wanted ⟨some d, .call ⟨.builtin .min, #[x, y], at_⟩, ty, pos, after, g⟩ (yielded ops a.tmps) = true) (hd : Nat.blt d n = true)
    (hx : opv l x = some (.int k m)) (hy : opv l y = some (.int k m'))
    (c : ∀ a', Frm n ((d, .int k (if m' < m then m' else m)) :: l) a' → wpList P ops Q rest a' w) : wpList P ops Q (⟨some d, .call ⟨.builtin .min, #[x, y], at_⟩, ty, pos, after, g⟩ :: rest) a w :=
  stv f hw hd (by simp [execOp, resolve, invoke, builtin, f.ev hx, f.ev hy, Builtin.min_, Builtin.min2, pure, bind, Sem.bind]) c
theorem s_max {x y : Operand} {at_ : Array TypeId} {k : IntKind} {m m' : Int} (f : Frm n l a)
    (hw : Region.wanted ⟨some d, .call ⟨.builtin .max, #[x, y], at_⟩, ty, pos, after, g⟩ (yielded ops a.tmps) = true) (hd : Nat.blt d n = true)
    (hx : opv l x = some (.int k m)) (hy : opv l y = some (.int k m'))
    (c : ∀ a', Frm n ((d, .int k (if m < m' then m' else m)) :: l) a' → wpList P ops Q rest a' w) : wpList P ops Q (⟨some d, .call ⟨.builtin .max, #[x, y], at_⟩, ty, pos, after, g⟩ :: rest) a w :=
  stv f hw hd (by simp [execOp, resolve, invoke, builtin, f.ev hx, f.ev hy, Builtin.max_, Builtin.max2, pure, bind, Sem.bind]) c
theorem s_indexStr {x i : Operand} {T : TypeId} {s : ByteArray} {k : IntKind} {m : Int} {c0 : UInt8} (f : Frm n l a)
    (hw : Region.wanted ⟨some d, .index T x i, ty, pos, after, g⟩ (yielded ops a.tmps) = true) (hd : Nat.blt d n = true)
    (hT : P.underlying T = some .string) (hx : opv l x = some (.string s)) (hi : opv l i = some (.int k m)) (h0 : 0 ≤ m) (hc : s[m.toNat]? = some c0)
    (c : ∀ a', Frm n ((d, .int .u8 c0.toNat) :: l) a' → wpList P ops Q rest a' w) : wpList P ops Q (⟨some d, .index T x i, ty, pos, after, g⟩ :: rest) a w :=
  stv f hw hd (by simp [execOp, f.ev hx, f.ev hi, Instr.index, asIntOf, run_underlying hT, h0, hc]) c
theorem s_mkfunc {fn : Fn} {first captured : Array Operand} {v1 v2 : Array Value} (f : Frm n l a)
    (hw : Region.wanted ⟨some d, .makeFunc fn first captured, ty, pos, after, g⟩ (yielded ops a.tmps) = true) (hd : Nat.blt d n = true)
    (h1 : first.map a.eval = v1) (h2 : captured.map a.eval = v2)
    (c : ∀ a', Frm n ((d, .func fn v1 v2) :: l) a' → wpList P ops Q rest a' w) : wpList P ops Q (⟨some d, .makeFunc fn first captured, ty, pos, after, g⟩ :: rest) a w :=
  stv f hw hd (by simp [execOp, Instr.makeFunc, h1, h2, pure, bind, Sem.bind]) c

theorem run_callF {fn : FuncId} {vs : Array Value} {F : Func} {b : Code} (hF : P.funcs[fn]? = some F) (hB : F.body = some b) (hnm : (F.name == "runtime.NumGoroutine") = false) :
    (callFunc fn vs).run P w = .ok (.enter fn vs) w := by
  unfold callFunc
  show Sem.run P (match P.funcs[fn]? with
    | none => _
    | some fn' => _) w = _
  rw [hF]
  simp only [hnm, hB, Bool.false_eq_true, if_false, Option.isNone_some]
  rfl
/-- A call of a Go function by its contract. -/
theorem s_call {fn : FuncId} {args : Array Operand} {vs : Array Value} {ats : Array TypeId} {F : Func} {b : Code} {R : Ending → World → Prop} (f : Frm n l a)
    (hw : Region.wanted ⟨some d, .call ⟨.value (.func fn), args, ats⟩, ty, pos, after, g⟩ (yielded ops a.tmps) = true) (hd : Nat.blt d n = true)
    (hF : P.funcs[fn]? = some F) (hB : F.body = some b) (hnm : (F.name == "runtime.NumGoroutine") = false)
    (hvs : args.map a.eval = vs) (hc : Calls P fn vs w R)
    (c : ∀ e w', R e w' → ∃ v, e = .returned v ∧ ∀ a', Frm n ((d, v) :: l) a' → wpList P ops Q rest a' w') :
    wpList P ops Q (⟨some d, .call ⟨.value (.func fn), args, ats⟩, ty, pos, after, g⟩ :: rest) a w :=
  wpList_step fun K hK => by
    rw [if_pos hw]
    have hrun : (execOp a.eval ⟨some d, .call ⟨.value (.func fn), args, ats⟩, ty, pos, after, g⟩).run P w = .ok (.enter fn vs) w := by
      have e0 : a.eval (.func fn) = .func (.func fn) #[] #[] := rfl
      simp [execOp, resolve, e0, Deferred.ofValue, invoke, hvs, run_callF hF hB hnm]
    unfold Oper.wp; rw [hrun]
    simp only [Oper.upon]
    refine hc.mono fun e w' hR => ?_
    obtain ⟨v, rfl, hk⟩ := c e w' hR
    exact hK _ _ (hk _ (f.put v hd))
/-- A call of a closure. -/
theorem s_callv {x : Operand} {fn : FuncId} {first captured : Array Value} {args : Array Operand} {vs : Array Value} {ats : Array TypeId} {F : Func} {b : Code} {R : Ending → World → Prop} (f : Frm n l a)
    (hw : Region.wanted ⟨some d, .call ⟨.value x, args, ats⟩, ty, pos, after, g⟩ (yielded ops a.tmps) = true) (hd : Nat.blt d n = true)
    (hx : opv l x = some (.func (.func fn) first captured))
    (hF : P.funcs[fn]? = some F) (hB : F.body = some b) (hnm : (F.name == "runtime.NumGoroutine") = false)
    (hvs : first ++ args.map a.eval ++ captured = vs) (hc : Calls P fn vs w R)
    (c : ∀ e w', R e w' → ∃ v, e = .returned v ∧ ∀ a', Frm n ((d, v) :: l) a' → wpList P ops Q rest a' w') :
    wpList P ops Q (⟨some d, .call ⟨.value x, args, ats⟩, ty, pos, after, g⟩ :: rest) a w :=
  wpList_step fun K hK => by
    rw [if_pos hw]
    have hrun : (execOp a.eval ⟨some d, .call ⟨.value x, args, ats⟩, ty, pos, after, g⟩).run P w = .ok (.enter fn vs) w := by
      subst hvs
      simp [execOp, resolve, f.ev hx, Deferred.ofValue, invoke, run_callF hF hB hnm, ← Array.append_assoc]
    unfold Oper.wp; rw [hrun]
    simp only [Oper.upon]
    refine hc.mono fun e w' hR => ?_
    obtain ⟨v, rfl, hk⟩ := c e w' hR
    exact hK _ _ (hk _ (f.put v hd))
end
end Go.Proofs.Ytklfgpdfongaeaa
