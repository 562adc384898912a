/- The same laws for a region that draws its order, whose operations read only, or call what makes memory alone: in every world that has what the present one has. Over any program P. -/
import Derived.Test.YtklfgpdfongaeaaLibF
import Derived.Deep.Quiet
namespace Go.Proofs.Ytklfgpdfongaeaa
open Go Go.RowKit
set_option linter.unusedSimpArgs false
set_option linter.unusedVariables false

section
variable {P : Program} {ops : Array Oper} {a : Act} {w : World} {rest : List Oper} {n : Nat} {l fl : List (Nat × Value)} {qq : Act → Prop}
  {d : Tmp} {ty : TypeId} {pos : String} {after : Array Edge} {g : Option (Nat × Bool)}

theorem quiet_reg {id : Nat} {Q : Exit → Act → World → Prop} {os : List Oper} (hm : P.follows .mixedOrders = true) (hB : Region.lexB .any os.toArray = true)
    (h : wpQuiet P os.toArray (Ext w) (fun a' => ∀ w', Ext w w' → Q .normal a' w') os a) : (Code.region id os.toArray true).wp P Q a w :=
  wp_region_quiet (C := Ext w) hm hB (Ext.rfl'.dr) (by simpa using h)
theorem quiet_seq {id : Nat} {Q : Exit → Act → World → Prop} {os : List Oper} {y : Code} (hm : P.follows .mixedOrders = true) (hB : Region.lexB .any os.toArray = true)
    (h : wpQuiet P os.toArray (Ext w) (fun a' => ∀ w', Ext w w' → y.wp P Q a' w') os a) : (Code.seq (.region id os.toArray true) y).wp P Q a w :=
  wp_seq (quiet_reg hm hB h)
theorem quiet_nil {Q : Act → Prop} (h : Q a) : wpQuiet P ops (Ext w) Q [] a := h
theorem qtv {op : Op} {v : Value} (f : Frm n l a)
    (hw : Region.wanted ⟨some d, op, ty, pos, after, g⟩ (yielded ops a.tmps) = true) (hd : Nat.blt d n = true)
    (hrun : ∀ w', Ext w w' → (execOp a.eval ⟨some d, op, ty, pos, after, g⟩).run P w' = .ok (.value v) w')
    (k : ∀ a', Frm n ((d, v) :: l) a' → wpQuiet P ops (Ext w) qq rest a') : wpQuiet P ops (Ext w) qq (⟨some d, op, ty, pos, after, g⟩ :: rest) a :=
  wpQuiet_step fun K hK => by
    rw [if_pos hw]
    exact ⟨v, fun w' h => by unfold Oper.quietAt; rw [hrun w' h]; exact ⟨rfl, rfl⟩, hK _ (k _ (f.put v hd))⟩
theorem q_skip {op : Op} (f : Frm n l a)
    (hw : Region.wanted ⟨some d, op, ty, pos, after, g⟩ (yielded ops a.tmps) = false) (hd : Nat.blt d n = true)
    (k : ∀ a', Frm n ((d, undef) :: l) a' → wpQuiet P ops (Ext w) qq rest a') : wpQuiet P ops (Ext w) qq (⟨some d, op, ty, pos, after, g⟩ :: rest) a :=
  wpQuiet_step fun K hK => by
    rw [if_neg (by simp [hw])]; exact hK _ (k _ (f.put undef hd))
theorem q_move {x : Operand} {v : Value} (f : Frm n l a) (hw : Region.wanted ⟨some d, .move x, ty, pos, after, g⟩ (yielded ops a.tmps) = true) (hd : Nat.blt d n = true)
    (hx : opv l x = some v) (k : ∀ a', Frm n ((d, v) :: l) a' → wpQuiet P ops (Ext w) qq rest a') : wpQuiet P ops (Ext w) qq (⟨some d, .move x, ty, pos, after, g⟩ :: rest) a :=
  qtv f hw hd (fun w' _ => (by simp [execOp, f.ev hx, pure])) k
theorem q_assign {x : Operand} {v : Value} (f : Frm n l a) (hw : Region.wanted ⟨some d, .assign x, ty, pos, after, g⟩ (yielded ops a.tmps) = true) (hd : Nat.blt d n = true)
    (hx : opv l x = some v) (k : ∀ a', Frm n ((d, v) :: l) a' → wpQuiet P ops (Ext w) qq rest a') : wpQuiet P ops (Ext w) qq (⟨some d, .assign x, ty, pos, after, g⟩ :: rest) a :=
  qtv f hw hd (fun w' _ => (by simp [execOp, f.ev hx, pure])) k
theorem q_bin {op : BinOp} {x y : Operand} {T T' : TypeId} {k : IntKind} {m m' : Int} {v : Value} (f : Frm n l a)
    (hw : Region.wanted ⟨some d, .binOp op T x y T', ty, pos, after, g⟩ (yielded ops a.tmps) = true) (hd : Nat.blt d n = true)
    (hx : opv l x = some (.int k m)) (hy : opv l y = some (.int k m')) (hv : arith op k m m' = some v)
    (c : ∀ a', Frm n ((d, v) :: l) a' → wpQuiet P ops (Ext w) qq rest a') : wpQuiet P ops (Ext w) qq (⟨some d, .binOp op T x y T', ty, pos, after, g⟩ :: rest) a :=
  qtv f hw hd (fun w' _ => (by
    have e1 := f.ev hx
    have e2 := f.ev hy
    cases op <;> simp only [arith, Option.some.injEq, reduceCtorEq] at hv <;> subst hv <;>
      simp [execOp, e1, e2, eqGuard, binOp, Op.intArith, Op.intCmp, pure, bind, Sem.bind])) c
theorem q_quo {x y : Operand} {T T' : TypeId} {k : IntKind} {m m' r : Int} (f : Frm n l a)
    (hw : Region.wanted ⟨some d, .binOp .quo T x y T', ty, pos, after, g⟩ (yielded ops a.tmps) = true) (hd : Nat.blt d n = true)
    (hx : opv l x = some (.int k m)) (hy : opv l y = some (.int k m')) (h0 : m' ≠ 0) (hv : k.wrap (m.tdiv m') = r)
    (c : ∀ a', Frm n ((d, .int k r) :: l) a' → wpQuiet P ops (Ext w) qq rest a') : wpQuiet P ops (Ext w) qq (⟨some d, .binOp .quo T x y T', ty, pos, after, g⟩ :: rest) a :=
  qtv f hw hd (fun w' _ => (by
    subst hv
    simp [execOp, f.ev hx, f.ev hy, eqGuard, binOp, Op.intDiv, h0, pure, bind, Sem.bind])) c
theorem q_rem {x y : Operand} {T T' : TypeId} {k : IntKind} {m m' r : Int} (f : Frm n l a)
    (hw : Region.wanted ⟨some d, .binOp .rem T x y T', ty, pos, after, g⟩ (yielded ops a.tmps) = true) (hd : Nat.blt d n = true)
    (hx : opv l x = some (.int k m)) (hy : opv l y = some (.int k m')) (h0 : m' ≠ 0) (hv : m.tmod m' = r)
    (c : ∀ a', Frm n ((d, .int k r) :: l) a' → wpQuiet P ops (Ext w) qq rest a') : wpQuiet P ops (Ext w) qq (⟨some d, .binOp .rem T x y T', ty, pos, after, g⟩ :: rest) a :=
  qtv f hw hd (fun w' _ => (by
    subst hv
    simp [execOp, f.ev hx, f.ev hy, eqGuard, binOp, Op.intDiv, h0, pure, bind, Sem.bind])) c
theorem q_shl {x y : Operand} {T T' : TypeId} {k k' : IntKind} {m m' r : Int} (f : Frm n l a)
    (hw : Region.wanted ⟨some d, .binOp .shl T x y T', ty, pos, after, g⟩ (yielded ops a.tmps) = true) (hd : Nat.blt d n = true)
    (hx : opv l x = some (.int k m)) (hy : opv l y = some (.int k' m')) (h0 : 0 ≤ m') (hv : k.wrap (m * 2 ^ (min m'.toNat k.bits)) = r)
    (c : ∀ a', Frm n ((d, .int k r) :: l) a' → wpQuiet P ops (Ext w) qq rest a') : wpQuiet P ops (Ext w) qq (⟨some d, .binOp .shl T x y T', ty, pos, after, g⟩ :: rest) a :=
  qtv f hw hd (fun w' _ => (by
    subst hv
    have : ¬ m' < 0 := by omega
    simp [execOp, f.ev hx, f.ev hy, eqGuard, binOp, Op.shift, this, pure, bind, Sem.bind])) c
theorem q_shr {x y : Operand} {T T' : TypeId} {k k' : IntKind} {m m' r : Int} (f : Frm n l a)
    (hw : Region.wanted ⟨some d, .binOp .shr T x y T', ty, pos, after, g⟩ (yielded ops a.tmps) = true) (hd : Nat.blt d n = true)
    (hx : opv l x = some (.int k m)) (hy : opv l y = some (.int k' m')) (h0 : 0 ≤ m') (hv : m.fdiv (2 ^ (min m'.toNat k.bits)) = r)
    (c : ∀ a', Frm n ((d, .int k r) :: l) a' → wpQuiet P ops (Ext w) qq rest a') : wpQuiet P ops (Ext w) qq (⟨some d, .binOp .shr T x y T', ty, pos, after, g⟩ :: rest) a :=
  qtv f hw hd (fun w' _ => (by
    subst hv
    have : ¬ m' < 0 := by omega
    simp [execOp, f.ev hx, f.ev hy, eqGuard, binOp, Op.shift, this, pure, bind, Sem.bind])) c
theorem q_bits {op : BinOp} {x y : Operand} {T T' : TypeId} {k : IntKind} {m m' r : Int} (f : Frm n l a)
    (hw : Region.wanted ⟨some d, .binOp op T x y T', ty, pos, after, g⟩ (yielded ops a.tmps) = true) (hd : Nat.blt d n = true)
    (hop : isBits op = true) (hx : opv l x = some (.int k m)) (hy : opv l y = some (.int k m')) (hv : bitsOf op k m m' = r)
    (c : ∀ a', Frm n ((d, .int k r) :: l) a' → wpQuiet P ops (Ext w) qq rest a') : wpQuiet P ops (Ext w) qq (⟨some d, .binOp op T x y T', ty, pos, after, g⟩ :: rest) a :=
  qtv f hw hd (fun w' _ => (by
    subst hv
    have e1 := f.ev hx
    have e2 := f.ev hy
    cases op <;> simp only [isBits, reduceCtorEq, Bool.false_eq_true] at hop <;>
      simp [execOp, e1, e2, eqGuard, binOp, Op.intBits, bitsOf, pure, bind, Sem.bind])) c
theorem q_eqlB {x y : Operand} {T T' : TypeId} {b b' : Bool} (f : Frm n l a)
    (hw : Region.wanted ⟨some d, .binOp .eql T x y T', ty, pos, after, g⟩ (yielded ops a.tmps) = true) (hd : Nat.blt d n = true)
    (hT : P.underlying T = some .bool) (hx : opv l x = some (.bool b)) (hy : opv l y = some (.bool b'))
    (c : ∀ a', Frm n ((d, .bool (b == b')) :: l) a' → wpQuiet P ops (Ext w) qq rest a') : wpQuiet P ops (Ext w) qq (⟨some d, .binOp .eql T x y T', ty, pos, after, g⟩ :: rest) a :=
  qtv f hw hd (fun w' _ => (exec_bin (by rw [f.ev hx, f.ev hy]; rfl) (by rw [f.ev hx, f.ev hy]; exact run_eqlB hT))) c
theorem q_neqB {x y : Operand} {T T' : TypeId} {b b' : Bool} (f : Frm n l a)
    (hw : Region.wanted ⟨some d, .binOp .neq T x y T', ty, pos, after, g⟩ (yielded ops a.tmps) = true) (hd : Nat.blt d n = true)
    (hT : P.underlying T = some .bool) (hx : opv l x = some (.bool b)) (hy : opv l y = some (.bool b'))
    (c : ∀ a', Frm n ((d, .bool (b != b')) :: l) a' → wpQuiet P ops (Ext w) qq rest a') : wpQuiet P ops (Ext w) qq (⟨some d, .binOp .neq T x y T', ty, pos, after, g⟩ :: rest) a :=
  qtv f hw hd (fun w' _ => (exec_bin (by rw [f.ev hx, f.ev hy]; rfl) (by rw [f.ev hx, f.ev hy]; exact run_neqB hT))) c
theorem q_eqlS {x y : Operand} {T T' : TypeId} {s s' : ByteArray} (f : Frm n l a)
    (hw : Region.wanted ⟨some d, .binOp .eql T x y T', ty, pos, after, g⟩ (yielded ops a.tmps) = true) (hd : Nat.blt d n = true)
    (hx : opv l x = some (.string s)) (hy : opv l y = some (.string s'))
    (c : ∀ a', Frm n ((d, .bool (s.toList == s'.toList)) :: l) a' → wpQuiet P ops (Ext w) qq rest a') : wpQuiet P ops (Ext w) qq (⟨some d, .binOp .eql T x y T', ty, pos, after, g⟩ :: rest) a :=
  qtv f hw hd (fun w' _ => (exec_bin (by rw [f.ev hx, f.ev hy]; rfl) (by rw [f.ev hx, f.ev hy]; rfl))) c
theorem q_neqS {x y : Operand} {T T' : TypeId} {s s' : ByteArray} (f : Frm n l a)
    (hw : Region.wanted ⟨some d, .binOp .neq T x y T', ty, pos, after, g⟩ (yielded ops a.tmps) = true) (hd : Nat.blt d n = true)
    (hx : opv l x = some (.string s)) (hy : opv l y = some (.string s'))
    (c : ∀ a', Frm n ((d, .bool (!(s.toList == s'.toList))) :: l) a' → wpQuiet P ops (Ext w) qq rest a') : wpQuiet P ops (Ext w) qq (⟨some d, .binOp .neq T x y T', ty, pos, after, g⟩ :: rest) a :=
  qtv f hw hd (fun w' _ => (exec_bin (by rw [f.ev hx, f.ev hy]; rfl) (by rw [f.ev hx, f.ev hy]; rfl))) c
theorem q_not {x : Operand} {T : TypeId} {b : Bool} (f : Frm n l a)
    (hw : Region.wanted ⟨some d, .unOp .not T x, ty, pos, after, g⟩ (yielded ops a.tmps) = true) (hd : Nat.blt d n = true)
    (hx : opv l x = some (.bool b))
    (c : ∀ a', Frm n ((d, .bool (!b)) :: l) a' → wpQuiet P ops (Ext w) qq rest a') : wpQuiet P ops (Ext w) qq (⟨some d, .unOp .not T x, ty, pos, after, g⟩ :: rest) a :=
  qtv f hw hd (fun w' _ => (by simp [execOp, f.ev hx, Op.unary, pure, bind, Sem.bind])) c
theorem q_neg {x : Operand} {T : TypeId} {k : IntKind} {m r : Int} (f : Frm n l a)
    (hw : Region.wanted ⟨some d, .unOp .neg T x, ty, pos, after, g⟩ (yielded ops a.tmps) = true) (hd : Nat.blt d n = true)
    (hx : opv l x = some (.int k m)) (hv : k.wrap (0 - m) = r)
    (c : ∀ a', Frm n ((d, .int k r) :: l) a' → wpQuiet P ops (Ext w) qq rest a') : wpQuiet P ops (Ext w) qq (⟨some d, .unOp .neg T x, ty, pos, after, g⟩ :: rest) a :=
  qtv f hw hd (fun w' _ => (by subst hv; simp [execOp, f.ev hx, Op.unary, Op.intArith, pure, bind, Sem.bind])) c
theorem q_xorU {x : Operand} {T : TypeId} {k : IntKind} {m r : Int} (f : Frm n l a)
    (hw : Region.wanted ⟨some d, .unOp .xor T x, ty, pos, after, g⟩ (yielded ops a.tmps) = true) (hd : Nat.blt d n = true)
    (hx : opv l x = some (.int k m)) (hv : bitsOf .xor k (if k.signed then -1 else k.max) m = r)
    (c : ∀ a', Frm n ((d, .int k r) :: l) a' → wpQuiet P ops (Ext w) qq rest a') : wpQuiet P ops (Ext w) qq (⟨some d, .unOp .xor T x, ty, pos, after, g⟩ :: rest) a :=
  qtv f hw hd (fun w' _ => (by subst hv; simp [execOp, f.ev hx, Op.unary, Op.intBits, bitsOf, pure, bind, Sem.bind])) c
theorem q_pick {x y z : Operand} {b : Bool} {v u r : Value} (f : Frm n l a)
    (hw : Region.wanted ⟨some d, .pick x y z, ty, pos, after, g⟩ (yielded ops a.tmps) = true) (hd : Nat.blt d n = true)
    (hx : opv l x = some (.bool b)) (hy : opv l y = some v) (hz : opv l z = some u) (hv : (if b then v else u) = r)
    (c : ∀ a', Frm n ((d, r) :: l) a' → wpQuiet P ops (Ext w) qq rest a') : wpQuiet P ops (Ext w) qq (⟨some d, .pick x y z, ty, pos, after, g⟩ :: rest) a :=
  qtv f hw hd (fun w' _ => (by subst hv; cases b <;> simp [execOp, f.ev hx, f.ev hy, f.ev hz, asBool, pure, bind, Sem.bind])) c
theorem q_conv {x : Operand} {S T : TypeId} {ds : TypeDesc} {k k' : IntKind} {m r : Int} (f : Frm n l a)
    (hw : Region.wanted ⟨some d, .convert S T x, ty, pos, after, g⟩ (yielded ops a.tmps) = true) (hd : Nat.blt d n = true)
    (hS : P.underlying S = some ds) (hT : P.underlying T = some (.int k')) (hx : opv l x = some (.int k m)) (hv : k'.wrap m = r)
    (c : ∀ a', Frm n ((d, .int k' r) :: l) a' → wpQuiet P ops (Ext w) qq rest a') : wpQuiet P ops (Ext w) qq (⟨some d, .convert S T x, ty, pos, after, g⟩ :: rest) a :=
  qtv f hw hd (fun w' _ => (by subst hv; simp [execOp, f.ev hx, convert, run_underlying hS, run_underlying hT, Conv.intToInt])) c
theorem q_extract {x : Operand} {i : Nat} {vs : Array Value} {v : Value} (f : Frm n l a)
    (hw : Region.wanted ⟨some d, .extract x i, ty, pos, after, g⟩ (yielded ops a.tmps) = true) (hd : Nat.blt d n = true)
    (hx : opv l x = some (.tuple vs)) (hv : vs[i]? = some v)
    (c : ∀ a', Frm n ((d, v) :: l) a' → wpQuiet P ops (Ext w) qq rest a') : wpQuiet P ops (Ext w) qq (⟨some d, .extract x i, ty, pos, after, g⟩ :: rest) a :=
  qtv f hw hd (fun w' _ => (by simp [execOp, f.ev hx, Instr.extract, hv, pure, bind, Sem.bind])) c
theorem q_lenS {x : Operand} {T : TypeId} {at_ : Array TypeId} {e : TypeId} {p : Option Addr} {m cp : Nat} (f : Frm n l a)
    (hw : Region.wanted ⟨some d, .call ⟨.builtin .len, #[x], at_⟩, ty, pos, after, g⟩ (yielded ops a.tmps) = true) (hd : Nat.blt d n = true)
    (hat : at_[0]? = some T) (hT : P.underlying T = some (.slice e)) (hx : opv l x = some (.slice p m cp))
    (c : ∀ a', Frm n ((d, .int .i64 m) :: l) a' → wpQuiet P ops (Ext w) qq rest a') : wpQuiet P ops (Ext w) qq (⟨some d, .call ⟨.builtin .len, #[x], at_⟩, ty, pos, after, g⟩ :: rest) a :=
  qtv f hw hd (fun w' _ => (by simp [execOp, resolve, invoke, builtin, f.ev hx, Builtin.len_, hat, run_underlying hT, goInt])) c
theorem q_lenStr {x : Operand} {T : TypeId} {at_ : Array TypeId} {s : ByteArray} (f : Frm n l a)
    (hw : Region.wanted ⟨some d, .call ⟨.builtin .len, #[x], at_⟩, ty, pos, after, g⟩ (yielded ops a.tmps) = true) (hd : Nat.blt d n = true)
    (hat : at_[0]? = some T) (hT : P.underlying T = some .string) (hx : opv l x = some (.string s))
    (c : ∀ a', Frm n ((d, .int .i64 s.size) :: l) a' → wpQuiet P ops (Ext w) qq rest a') : wpQuiet P ops (Ext w) qq (⟨some d, .call ⟨.builtin .len, #[x], at_⟩, ty, pos, after, g⟩ :: rest) a :=
  qtv f hw hd (fun w' _ => (by simp [execOp, resolve, invoke, builtin, f.ev hx, Builtin.len_, hat, run_underlying hT, goInt])) c
theorem q_lenA {x : Operand} {T : TypeId} {at_ : Array TypeId} {e : TypeId} {m : Nat} {v : Value} (f : Frm n l a)
    (hw : Region.wanted ⟨some d, .call ⟨.builtin .len, #[x], at_⟩, ty, pos, after, g⟩ (yielded ops a.tmps) = true) (hd : Nat.blt d n = true)
    (hat : at_[0]? = some T) (hT : P.underlying T = some (.array m e)) (hx : opv l x = some v)
    (c : ∀ a', Frm n ((d, .int .i64 m) :: l) a' → wpQuiet P ops (Ext w) qq rest a') : wpQuiet P ops (Ext w) qq (⟨some d, .call ⟨.builtin .len, #[x], at_⟩, ty, pos, after, g⟩ :: rest) a :=
  qtv f hw hd (fun w' _ => (by simp [execOp, resolve, invoke, builtin, f.ev hx, Builtin.len_, hat, run_underlying hT, goInt])) c
theorem q_min {x y : Operand} {at_ : Array TypeId} {k : IntKind} {m m' : Int} (f : Frm n l a)
    (hw : Region.wanted ⟨some d, .call ⟨.builtin .min, #[x, y], at_⟩, ty, pos, after, g⟩ (yielded ops a.tmps) = true) (hd : Nat.blt d n = true)
    (hx : opv l x = some (.int k m)) (hy : opv l y = some (.int k m'))
    (c : ∀ a', Frm n ((d, .int k (if m' < m then m' else m)) :: l) a' → wpQuiet P ops (Ext w) qq rest a') : wpQuiet P ops (Ext w) qq (⟨some d, .call ⟨.builtin .min, #[x, y], at_⟩, ty, pos, after, g⟩ :: rest) a :=
  qtv f hw hd (fun w' _ => (by simp [execOp, resolve, invoke, builtin, f.ev hx, f.ev hy, Builtin.min_, Builtin.min2, pure, bind, Sem.bind])) c
theorem q_max {x y : Operand} {at_ : Array TypeId} {k : IntKind} {m m' : Int} (f : Frm n l a)
    (hw : Region.wanted ⟨some d, .call ⟨.builtin .max, #[x, y], at_⟩, ty, pos, after, g⟩ (yielded ops a.tmps) = true) (hd : Nat.blt d n = true)
    (hx : opv l x = some (.int k m)) (hy : opv l y = some (.int k m'))
    (c : ∀ a', Frm n ((d, .int k (if m < m' then m' else m)) :: l) a' → wpQuiet P ops (Ext w) qq rest a') : wpQuiet P ops (Ext w) qq (⟨some d, .call ⟨.builtin .max, #[x, y], at_⟩, ty, pos, after, g⟩ :: rest) a :=
  qtv f hw hd (fun w' _ => (by simp [execOp, resolve, invoke, builtin, f.ev hx, f.ev hy, Builtin.max_, Builtin.max2, pure, bind, Sem.bind])) c
theorem q_indexStr {x i : Operand} {T : TypeId} {s : ByteArray} {k : IntKind} {m : Int} {c0 : UInt8} (f : Frm n l a)
    (hw : Region.wanted ⟨some d, .index T x i, ty, pos, after, g⟩ (yielded ops a.tmps) = true) (hd : Nat.blt d n = true)
    (hT : P.underlying T = some .string) (hx : opv l x = some (.string s)) (hi : opv l i = some (.int k m)) (h0 : 0 ≤ m) (hc : s[m.toNat]? = some c0)
    (c : ∀ a', Frm n ((d, .int .u8 c0.toNat) :: l) a' → wpQuiet P ops (Ext w) qq rest a') : wpQuiet P ops (Ext w) qq (⟨some d, .index T x i, ty, pos, after, g⟩ :: rest) a :=
  qtv f hw hd (fun w' _ => (by simp [execOp, f.ev hx, f.ev hi, Instr.index, asIntOf, run_underlying hT, h0, hc])) c
theorem q_mkfunc {fn : Fn} {first captured : Array Operand} {v1 v2 : Array Value} (f : Frm n l a)
    (hw : Region.wanted ⟨some d, .makeFunc fn first captured, ty, pos, after, g⟩ (yielded ops a.tmps) = true) (hd : Nat.blt d n = true)
    (h1 : first.map a.eval = v1) (h2 : captured.map a.eval = v2)
    (c : ∀ a', Frm n ((d, .func fn v1 v2) :: l) a' → wpQuiet P ops (Ext w) qq rest a') : wpQuiet P ops (Ext w) qq (⟨some d, .makeFunc fn first captured, ty, pos, after, g⟩ :: rest) a :=
  qtv f hw hd (fun w' _ => (by simp [execOp, Instr.makeFunc, h1, h2, pure, bind, Sem.bind])) c

theorem q_load {t : TypeId} {x : Operand} {p : Addr} {v : Value} (f : Frm n l a)
    (hw : Region.wanted ⟨some d, .load t x, ty, pos, after, g⟩ (yielded ops a.tmps) = true) (hd : Nat.blt d n = true) (hT : Sc P t)
    (hx : opv l x = some (.pointer (some p))) (hc : w.cell? p = some v)
    (c : ∀ a', Frm n ((d, v) :: l) a' → wpQuiet P ops (Ext w) qq rest a') : wpQuiet P ops (Ext w) qq (⟨some d, .load t x, ty, pos, after, g⟩ :: rest) a :=
  qtv f hw hd (fun w' h => by simp [execOp, f.ev hx, Instr.loadAt, Instr.sureAddr, run_load1 hT (h.gb.cell hc (by simp))]) c
theorem q_loadA {t : TypeId} {x : Operand} {p : Addr} {z : Value} {sz by_ : Nat} {cs : List Value} (f : Frm n l a)
    (hw : Region.wanted ⟨some d, .load t x, ty, pos, after, g⟩ (yielded ops a.tmps) = true) (hd : Nat.blt d n = true) (hT : Ag P t) (hS : TI P t z sz by_)
    (hx : opv l x = some (.pointer (some p))) (hl : cs.length = sz) (hc : ∀ j u, cs[j]? = some u → w.cell? (p.add j) = some u)
    (c : ∀ a', Frm n ((d, .agg cs.toArray) :: l) a' → wpQuiet P ops (Ext w) qq rest a') : wpQuiet P ops (Ext w) qq (⟨some d, .load t x, ty, pos, after, g⟩ :: rest) a :=
  qtv f hw hd (fun w' h => by simp [execOp, f.ev hx, Instr.loadAt, Instr.sureAddr, run_loadA hT hS hl (fun j u hu => h.gb.cell (hc j u hu) (by simp))]) c
theorem q_fieldAddr {S : TypeId} {x : Operand} {i : Nat} {p q : Addr} {fs : Array Field} {fd : Field} {z : Value} {sz by_ : Nat} (f : Frm n l a)
    (hw : Region.wanted ⟨some d, .fieldAddr S x i, ty, pos, after, g⟩ (yielded ops a.tmps) = true) (hd : Nat.blt d n = true)
    (hS : P.underlying S = some (.struct fs)) (hi : fs[i]? = some fd) (hF : TI P fd.type z (sz + 1) by_) (hx : opv l x = some (.pointer (some p))) (hq : p.add fd.offset = q)
    (c : ∀ a', Frm n ((d, .pointer (some q)) :: l) a' → wpQuiet P ops (Ext w) qq rest a') : wpQuiet P ops (Ext w) qq (⟨some d, .fieldAddr S x i, ty, pos, after, g⟩ :: rest) a :=
  qtv f hw hd (fun w' h => by subst hq; simp [execOp, f.ev hx, Instr.fieldAt, Instr.sureAddr, run_underlying hS, hi, fieldPlace, run_sizeOf hF]) c
theorem q_indexAddrA {T e : TypeId} {x y : Operand} {b o m sz by_ : Nat} {k : IntKind} {i : Int} {z : Value} {j q : Nat} (f : Frm n l a)
    (hw : Region.wanted ⟨some d, .indexAddr T x y, ty, pos, after, g⟩ (yielded ops a.tmps) = true) (hd : Nat.blt d n = true)
    (hT : P.underlying T = some (.array m e)) (hE : TI P e z sz by_) (hx : opv l x = some (.pointer (some ⟨b, o, none⟩))) (hy : opv l y = some (.int k i)) (hij : i = (j : Int)) (hj : j < m) (hq : o + j * sz = q)
    (c : ∀ a', Frm n ((d, .pointer (some ⟨b, q, none⟩)) :: l) a' → wpQuiet P ops (Ext w) qq rest a') : wpQuiet P ops (Ext w) qq (⟨some d, .indexAddr T x y, ty, pos, after, g⟩ :: rest) a :=
  qtv f hw hd (fun w' h => by
    subst hij; subst hq
    simp [execOp, f.ev hx, f.ev hy, Instr.indexAt, Instr.sureAddr, asIntOf, run_underlying hT, hj, run_sizeOf hE, add_none]) c
theorem q_build {t : TypeId} {parts : Array (Nat × Operand)} {vs : Array (Nat × Value)} {v : Value} (f : Frm n l a)
    (hw : Region.wanted ⟨some d, .build t parts, ty, pos, after, g⟩ (yielded ops a.tmps) = true) (hd : Nat.blt d n = true)
    (hp : (parts.map fun (i, x) => (i, a.eval x)) = vs) (hr : ∀ w', (Instr.build t vs).run P w' = .ok v w')
    (c : ∀ a', Frm n ((d, v) :: l) a' → wpQuiet P ops (Ext w) qq rest a') : wpQuiet P ops (Ext w) qq (⟨some d, .build t parts, ty, pos, after, g⟩ :: rest) a :=
  qtv f hw hd (fun w' h => by
    subst hp
    simp only [execOp, Sem.run_bind, hr w', Result.andThen, Sem.run_pure]) c
section
variable {α : Type} {E : Enc α}
theorem u_indexAddr {T e : TypeId} {x y : Operand} {l : List α} {p : Option Addr} {cp sz by_ : Nat} {k : IntKind} {i : Int} {z : Value} {j : Nat} (f : Frm n fl a)
    (hw : Region.wanted ⟨some d, .indexAddr T x y, ty, pos, after, g⟩ (yielded ops a.tmps) = true) (hd : Nat.blt d n = true)
    (hT : P.underlying T = some (.slice e)) (hE : TI P e z sz by_) (hx : opv fl x = some (.slice p l.length cp)) (hr : RdL E w p cp l) (hsz : E.sz = sz) (hy : opv fl y = some (.int k i)) (hij : i = (j : Int)) (hj : j < l.length)
    (c : ∀ a', Frm n ((d, .pointer (some (elemPtr (.slice p l.length cp) (j * sz)))) :: fl) a' → wpQuiet P ops (Ext w) qq rest a') : wpQuiet P ops (Ext w) qq (⟨some d, .indexAddr T x y, ty, pos, after, g⟩ :: rest) a := by
  subst hsz; subst hij
  refine qtv f hw hd (fun w' h => ?_) c
  rcases hr.2 with ⟨_, h0⟩ | ⟨b, o, sp, cap, hv, h1, h2, hsp, h3⟩
  · omega
  · have hne : E.cells l ≠ [] := fun e => by
      have h4 := E.cells_len l; rw [e] at h4; have h5 := Nat.mul_pos (show 0 < l.length by omega) E.pos; simp at h4; omega
    obtain rfl := hsp.resolve_left hne
    simp only [Value.slice.injEq, true_and] at hv
    obtain ⟨rfl, rfl⟩ := hv
    simp [execOp, f.ev hx, f.ev hy, Instr.indexAt, asIntOf, run_underlying hT, hj, run_sizeOf hE, elemPtr, add_none]
theorem u_load {t : TypeId} {x : Operand} {l : List α} {p : Option Addr} {cp sz : Nat} {j : Nat} {e : α} {v : Value} (f : Frm n fl a)
    (hw : Region.wanted ⟨some d, .load t x, ty, pos, after, g⟩ (yielded ops a.tmps) = true) (hd : Nat.blt d n = true) (hT : Sc P t)
    (hx : opv fl x = some (.pointer (some (elemPtr (.slice p l.length cp) (j * sz))))) (hr : RdL E w p cp l) (hsz : E.sz = sz) (he : l[j]? = some e) (hv : E.of e = [v])
    (c : ∀ a', Frm n ((d, v) :: fl) a' → wpQuiet P ops (Ext w) qq rest a') : wpQuiet P ops (Ext w) qq (⟨some d, .load t x, ty, pos, after, g⟩ :: rest) a := by
  subst hsz
  refine q_load f hw hd hT hx (Rd.cell hr ?_) c
  have := E.cells_get l j 0 e he (by have := E.len e; rw [hv] at this; simp at this; omega)
  rw [Nat.add_zero] at this
  rw [this, hv]; rfl
theorem u_loadA {t : TypeId} {x : Operand} {l : List α} {p : Option Addr} {cp sz sz' by_ : Nat} {j : Nat} {e : α} {z : Value} (f : Frm n fl a)
    (hw : Region.wanted ⟨some d, .load t x, ty, pos, after, g⟩ (yielded ops a.tmps) = true) (hd : Nat.blt d n = true) (hT : Ag P t) (hS : TI P t z sz' by_)
    (hx : opv fl x = some (.pointer (some (elemPtr (.slice p l.length cp) (j * sz))))) (hr : RdL E w p cp l) (hsz : E.sz = sz) (hsz' : sz = sz') (he : l[j]? = some e)
    (c : ∀ a', Frm n ((d, .agg (E.of e).toArray) :: fl) a' → wpQuiet P ops (Ext w) qq rest a') : wpQuiet P ops (Ext w) qq (⟨some d, .load t x, ty, pos, after, g⟩ :: rest) a := by
  subst hsz
  refine q_loadA f hw hd hT hS hx (by rw [E.len, hsz']) (fun i u hu => Rd.cellA hr ?_) c
  have hi : i < E.sz := by rw [← E.len e]; exact (List.getElem?_eq_some_iff.1 hu).1
  rw [E.cells_get l j i e he hi]; exact hu
theorem u_len {x : Operand} {T : TypeId} {at_ : Array TypeId} {e : TypeId} {p : Option Addr} {cp : Nat} {l : List α} (f : Frm n fl a)
    (hw : Region.wanted ⟨some d, .call ⟨.builtin .len, #[x], at_⟩, ty, pos, after, g⟩ (yielded ops a.tmps) = true) (hd : Nat.blt d n = true)
    (hat : at_[0]? = some T) (hT : P.underlying T = some (.slice e)) (hx : opv fl x = some (.slice p l.length cp))
    (c : ∀ a', Frm n ((d, .int .i64 (l.length : Nat)) :: fl) a' → wpQuiet P ops (Ext w) qq rest a') : wpQuiet P ops (Ext w) qq (⟨some d, .call ⟨.builtin .len, #[x], at_⟩, ty, pos, after, g⟩ :: rest) a :=
  q_lenS f hw hd hat hT hx c
theorem u_cut {T e : TypeId} {x : Operand} {lo hi : Option Operand} {z : Value} {by_ i j cp : Nat} {p : Option Addr} {l l' : List α} (f : Frm n fl a)
    (hw : Region.wanted ⟨some d, .slice T x lo hi none, ty, pos, after, g⟩ (yielded ops a.tmps) = true) (hd : Nat.blt d n = true)
    (hT : P.underlying T = some (.slice e)) (hE : TI P e z E.sz by_) (hx : opv fl x = some (.slice p l.length cp)) (hr : RdL E w p cp l)
    (hlo : (lo = none ∧ i = 0) ∨ ∃ y k, lo = some y ∧ opv fl y = some (.int k (i : Int))) (hhi : (hi = none ∧ j = l.length) ∨ ∃ y k, hi = some y ∧ opv fl y = some (.int k (j : Int)))
    (hij : i ≤ j) (hj : j ≤ l.length) (hl : (l.drop i).take (j - i) = l')
    (c : ∀ a' p' c', Frm n ((d, .slice p' l'.length c') :: fl) a' → (∀ W, RdL E W p cp l → RdL E W p' c' l') → sblk p' = sblk p → wpQuiet P ops (Ext w) qq rest a') :
    wpQuiet P ops (Ext w) qq (⟨some d, .slice T x lo hi none, ty, pos, after, g⟩ :: rest) a := by
  subst hl
  have hlen : ((l.drop i).take (j - i)).length = j - i := by simp; omega
  have hcap : l.length ≤ cp := by
    rcases hr.2 with ⟨hv, h0⟩ | ⟨b, o, sp, cap, hv, h2, h3, hsp, h4⟩
    · omega
    · simp only [Value.slice.injEq, true_and] at hv; omega
  have hb : ∀ w' : World, (Instr.sliceBounds true l.length cp (lo.map a.eval) (hi.map a.eval) none).run P w' = .ok (i, j, cp) w' := by
    intro w'
    rcases hlo with ⟨rfl, rfl⟩ | ⟨y, k, rfl, hy⟩ <;> rcases hhi with ⟨rfl, rfl⟩ | ⟨y', k', rfl, hy'⟩
    · simp [Instr.sliceBounds]
    · have : (j : Int) ≤ cp := by omega
      simp [Instr.sliceBounds, f.ev hy', Instr.sliceBound, asIntOf]; omega
    · simp [Instr.sliceBounds, f.ev hy, Instr.sliceBound, asIntOf]; omega
    · have h1 : j ≤ cp := by omega
      simp [Instr.sliceBounds, f.ev hy, f.ev hy', Instr.sliceBound, asIntOf, h1, hij]
  refine qtv (v := .slice (if cp = i then p else p.map (·.add (i * E.sz))) (j - i) (cp - i)) f hw hd (fun w' h => ?_) (fun a' f' => c a' _ (cp - i) (by rw [hlen]; exact f') (fun W hW => ?_) ?_)
  · simp only [execOp, Instr.sliceAt, f.ev hx, Sem.run_bind, run_underlying hT, Result.andThen, Instr.slice, hb w', run_sizeOf hE, Sem.run_pure, Option.map_none]
  · have := hW.sub rfl hij hj
    unfold RdL
    rw [hlen, ← E.cells_take, ← E.cells_drop]
    exact this
  · rw [← sblk_own _ (j - i) (cp - i), ← sblk_own p l.length cp]; exact sub_own
end
/-- A call that hands back ONE value in whatever world, and makes memory alone. -/
theorem q_call {fn : FuncId} {args : Array Operand} {vs : Array Value} {ats : Array TypeId} {F : Func} {b : Code} {v : Value} (f : Frm n l a)
    (hw : Region.wanted ⟨some d, .call ⟨.value (.func fn), args, ats⟩, ty, pos, after, g⟩ (yielded ops a.tmps) = true) (hd : Nat.blt d n = true)
    (hF : P.funcs[fn]? = some F) (hB : F.body = some b) (hnm : (F.name == "runtime.NumGoroutine") = false)
    (hvs : args.map a.eval = vs) (hc : ∀ w', Ext w w' → Calls P fn vs w' (fun e w'' => e = .returned v ∧ Ext w' w''))
    (c : ∀ a', Frm n ((d, v) :: l) a' → wpQuiet P ops (Ext w) qq rest a') :
    wpQuiet P ops (Ext w) qq (⟨some d, .call ⟨.value (.func fn), args, ats⟩, ty, pos, after, g⟩ :: rest) a :=
  wpQuiet_step fun K hK => by
    rw [if_pos hw]
    refine ⟨v, fun w' h => ?_, hK _ (c _ (f.put v hd))⟩
    have hrun : (execOp a.eval ⟨some d, .call ⟨.value (.func fn), args, ats⟩, ty, pos, after, g⟩).run P w' = .ok (.enter fn vs) w' := by
      have e0 : a.eval (.func fn) = .func (.func fn) #[] #[] := rfl
      simp [execOp, resolve, e0, Deferred.ofValue, invoke, hvs, run_callF hF hB hnm]
    unfold Oper.quietAt; rw [hrun]
    exact ⟨rfl, (hc w' h).mono fun e w'' ⟨h1, h2⟩ => ⟨h1, h.tr h2⟩⟩
end
end Go.Proofs.Ytklfgpdfongaeaa
