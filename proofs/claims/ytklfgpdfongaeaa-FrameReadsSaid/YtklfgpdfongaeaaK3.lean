/- One law for each operation that only computes, over data. Over any program. -/
import Derived.Test.YtklfgpdfongaeaaK2
import Derived.Test.YtklfgpdfongaeaaK0
namespace Go.Proofs.Ytklfgpdfongaeaa
open Go Go.RowKit
set_option linter.unusedSimpArgs false
set_option linter.unusedVariables false

def w64 (x : Int) : Int := IntKind.i64.wrap x
def w32 (x : Int) : Int := IntKind.i32.wrap x
theorem wrap_i64' {x : Int} (h1 : -9223372036854775808 ≤ x) (h2 : x ≤ 9223372036854775807) : w64 x = x := by
  unfold w64; simp [IntKind.wrap, IntKind.signed, IntKind.bits]; omega
theorem wrap_i32' {x : Int} (h1 : -2147483648 ≤ x) (h2 : x ≤ 2147483647) : w32 x = x := by
  unfold w32; simp [IntKind.wrap, IntKind.signed, IntKind.bits]; omega
theorem eqn_u8 (a b : UInt8) : ((a.toNat : Int) == (b.toNat : Int)) = (a == b) := by
  rw [Bool.eq_iff_iff, beq_iff_eq, beq_iff_eq, ← UInt8.toNat_inj]; omega
theorem bv_u8 (a : UInt8) : BitVec.ofInt 8 (a.toNat : Int) = a.toBitVec := by apply BitVec.eq_of_toNat_eq; simp
theorem wbv_u8 (x : BitVec 8) : IntKind.u8.wrap (x.toNat : Int) = (x.toNat : Int) := by have := x.isLt; simp only [IntKind.wrap, IntKind.signed, IntKind.bits]; simp; omega
theorem bits_andNot_u8 (a b : UInt8) : bitsOf .andNot .u8 (a.toNat : Int) (b.toNat : Int) = ((a &&& ~~~b).toNat : Int) := by
  show IntKind.u8.wrap (BitVec.toNat (BitVec.ofInt 8 (a.toNat : Int) &&& ~~~(BitVec.ofInt 8 (b.toNat : Int))) : Int) = _
  rw [bv_u8, bv_u8, wbv_u8]; rfl
theorem bits_and_u8 (a b : UInt8) : bitsOf .and .u8 (a.toNat : Int) (b.toNat : Int) = ((a &&& b).toNat : Int) := by
  show IntKind.u8.wrap (BitVec.toNat (BitVec.ofInt 8 (a.toNat : Int) &&& BitVec.ofInt 8 (b.toNat : Int)) : Int) = _
  rw [bv_u8, bv_u8, wbv_u8]; rfl
theorem bits_or_u8 (a b : UInt8) : bitsOf .or .u8 (a.toNat : Int) (b.toNat : Int) = ((a ||| b).toNat : Int) := by
  show IntKind.u8.wrap (BitVec.toNat (BitVec.ofInt 8 (a.toNat : Int) ||| BitVec.ofInt 8 (b.toNat : Int)) : Int) = _
  rw [bv_u8, bv_u8, wbv_u8]; rfl
theorem bits_xor_u8 (a b : UInt8) : bitsOf .xor .u8 (a.toNat : Int) (b.toNat : Int) = ((a ^^^ b).toNat : Int) := by
  show IntKind.u8.wrap (BitVec.toNat (BitVec.ofInt 8 (a.toNat : Int) ^^^ BitVec.ofInt 8 (b.toNat : Int)) : Int) = _
  rw [bv_u8, bv_u8, wbv_u8]; rfl
theorem bits_cpl_u8 (a : UInt8) : bitsOf .xor .u8 (if IntKind.signed .u8 then -1 else IntKind.max .u8) (a.toNat : Int) = ((~~~a).toNat : Int) := by
  show IntKind.u8.wrap (BitVec.toNat (BitVec.ofInt 8 (255 : Int) ^^^ BitVec.ofInt 8 (a.toNat : Int)) : Int) = _
  rw [bv_u8, wbv_u8]
  have : BitVec.ofInt 8 (255 : Int) = BitVec.allOnes 8 := by decide
  rw [this, BitVec.allOnes_xor]; rfl
theorem conv_u8 (a : Int) : IntKind.u8.wrap a = ((UInt8.ofInt a).toNat : Int) := by
  unfold UInt8.ofInt
  simp only [IntKind.wrap, IntKind.signed, IntKind.bits]; simp; omega
theorem eqn_u32 (a b : UInt32) : ((a.toNat : Int) == (b.toNat : Int)) = (a == b) := by
  rw [Bool.eq_iff_iff, beq_iff_eq, beq_iff_eq, ← UInt32.toNat_inj]; omega
theorem bv_u32 (a : UInt32) : BitVec.ofInt 32 (a.toNat : Int) = a.toBitVec := by apply BitVec.eq_of_toNat_eq; simp
theorem wbv_u32 (x : BitVec 32) : IntKind.u32.wrap (x.toNat : Int) = (x.toNat : Int) := by have := x.isLt; simp only [IntKind.wrap, IntKind.signed, IntKind.bits]; simp; omega
theorem bits_andNot_u32 (a b : UInt32) : bitsOf .andNot .u32 (a.toNat : Int) (b.toNat : Int) = ((a &&& ~~~b).toNat : Int) := by
  show IntKind.u32.wrap (BitVec.toNat (BitVec.ofInt 32 (a.toNat : Int) &&& ~~~(BitVec.ofInt 32 (b.toNat : Int))) : Int) = _
  rw [bv_u32, bv_u32, wbv_u32]; rfl
theorem bits_and_u32 (a b : UInt32) : bitsOf .and .u32 (a.toNat : Int) (b.toNat : Int) = ((a &&& b).toNat : Int) := by
  show IntKind.u32.wrap (BitVec.toNat (BitVec.ofInt 32 (a.toNat : Int) &&& BitVec.ofInt 32 (b.toNat : Int)) : Int) = _
  rw [bv_u32, bv_u32, wbv_u32]; rfl
theorem bits_or_u32 (a b : UInt32) : bitsOf .or .u32 (a.toNat : Int) (b.toNat : Int) = ((a ||| b).toNat : Int) := by
  show IntKind.u32.wrap (BitVec.toNat (BitVec.ofInt 32 (a.toNat : Int) ||| BitVec.ofInt 32 (b.toNat : Int)) : Int) = _
  rw [bv_u32, bv_u32, wbv_u32]; rfl
theorem bits_xor_u32 (a b : UInt32) : bitsOf .xor .u32 (a.toNat : Int) (b.toNat : Int) = ((a ^^^ b).toNat : Int) := by
  show IntKind.u32.wrap (BitVec.toNat (BitVec.ofInt 32 (a.toNat : Int) ^^^ BitVec.ofInt 32 (b.toNat : Int)) : Int) = _
  rw [bv_u32, bv_u32, wbv_u32]; rfl
theorem bits_cpl_u32 (a : UInt32) : bitsOf .xor .u32 (if IntKind.signed .u32 then -1 else IntKind.max .u32) (a.toNat : Int) = ((~~~a).toNat : Int) := by
  show IntKind.u32.wrap (BitVec.toNat (BitVec.ofInt 32 (4294967295 : Int) ^^^ BitVec.ofInt 32 (a.toNat : Int)) : Int) = _
  rw [bv_u32, wbv_u32]
  have : BitVec.ofInt 32 (4294967295 : Int) = BitVec.allOnes 32 := by decide
  rw [this, BitVec.allOnes_xor]; rfl
theorem conv_u32 (a : Int) : IntKind.u32.wrap a = ((UInt32.ofInt a).toNat : Int) := by
  unfold UInt32.ofInt
  simp only [IntKind.wrap, IntKind.signed, IntKind.bits]; simp; omega
theorem eqn_u64 (a b : UInt64) : ((a.toNat : Int) == (b.toNat : Int)) = (a == b) := by
  rw [Bool.eq_iff_iff, beq_iff_eq, beq_iff_eq, ← UInt64.toNat_inj]; omega
theorem bv_u64 (a : UInt64) : BitVec.ofInt 64 (a.toNat : Int) = a.toBitVec := by apply BitVec.eq_of_toNat_eq; simp
theorem wbv_u64 (x : BitVec 64) : IntKind.u64.wrap (x.toNat : Int) = (x.toNat : Int) := by have := x.isLt; simp only [IntKind.wrap, IntKind.signed, IntKind.bits]; simp; omega
theorem bits_andNot_u64 (a b : UInt64) : bitsOf .andNot .u64 (a.toNat : Int) (b.toNat : Int) = ((a &&& ~~~b).toNat : Int) := by
  show IntKind.u64.wrap (BitVec.toNat (BitVec.ofInt 64 (a.toNat : Int) &&& ~~~(BitVec.ofInt 64 (b.toNat : Int))) : Int) = _
  rw [bv_u64, bv_u64, wbv_u64]; rfl
theorem bits_and_u64 (a b : UInt64) : bitsOf .and .u64 (a.toNat : Int) (b.toNat : Int) = ((a &&& b).toNat : Int) := by
  show IntKind.u64.wrap (BitVec.toNat (BitVec.ofInt 64 (a.toNat : Int) &&& BitVec.ofInt 64 (b.toNat : Int)) : Int) = _
  rw [bv_u64, bv_u64, wbv_u64]; rfl
theorem bits_or_u64 (a b : UInt64) : bitsOf .or .u64 (a.toNat : Int) (b.toNat : Int) = ((a ||| b).toNat : Int) := by
  show IntKind.u64.wrap (BitVec.toNat (BitVec.ofInt 64 (a.toNat : Int) ||| BitVec.ofInt 64 (b.toNat : Int)) : Int) = _
  rw [bv_u64, bv_u64, wbv_u64]; rfl
theorem bits_xor_u64 (a b : UInt64) : bitsOf .xor .u64 (a.toNat : Int) (b.toNat : Int) = ((a ^^^ b).toNat : Int) := by
  show IntKind.u64.wrap (BitVec.toNat (BitVec.ofInt 64 (a.toNat : Int) ^^^ BitVec.ofInt 64 (b.toNat : Int)) : Int) = _
  rw [bv_u64, bv_u64, wbv_u64]; rfl
theorem bits_cpl_u64 (a : UInt64) : bitsOf .xor .u64 (if IntKind.signed .u64 then -1 else IntKind.max .u64) (a.toNat : Int) = ((~~~a).toNat : Int) := by
  show IntKind.u64.wrap (BitVec.toNat (BitVec.ofInt 64 (18446744073709551615 : Int) ^^^ BitVec.ofInt 64 (a.toNat : Int)) : Int) = _
  rw [bv_u64, wbv_u64]
  have : BitVec.ofInt 64 (18446744073709551615 : Int) = BitVec.allOnes 64 := by decide
  rw [this, BitVec.allOnes_xor]; rfl
theorem conv_u64 (a : Int) : IntKind.u64.wrap a = ((UInt64.ofInt a).toNat : Int) := by
  unfold UInt64.ofInt
  simp only [IntKind.wrap, IntKind.signed, IntKind.bits]; simp; omega
section
variable {C : World → World → Prop} {P : Program} {Γ : Ctx} {l : Slots} {res : Res} {d : Tmp} {ty : TypeId} {pos : String} {after : Array Edge} {g : Option (Nat × Bool)}

theorem rd_num {α : Type} {k : IntKind} {f : α → Int} {x : α} {S : Blk} {w : World} {v : Value} (h : (Ent.rd (numR k f) x).holds S w v) : v = .int k (f x) := by
  obtain ⟨cs, h1, h2⟩ := h; have h1 : cs = [.int k (f x)] := h1; subst h1; exact h2
theorem rd_num' {α : Type} {k : IntKind} {f : α → Int} {x : α} {S : Blk} {w : World} : (Ent.rd (numR k f) x).holds S w (.int k (f x)) := ⟨_, rfl, rfl⟩
theorem rd_bool {x : Bool} {S : Blk} {w : World} {v : Value} (h : (Ent.rd boolR x).holds S w v) : v = .bool x := by
  obtain ⟨cs, h1, h2⟩ := h; have h1 : cs = [.bool x] := h1; subst h1; exact h2
theorem rd_bool' {x : Bool} {S : Blk} {w : World} : (Ent.rd boolR x).holds S w (.bool x) := ⟨_, rfl, rfl⟩
theorem rd_str {x : List UInt8} {S : Blk} {w : World} {v : Value} (h : (Ent.rd strR x).holds S w v) : ∃ s : ByteArray, v = .string s ∧ s.data.toList = x := by
  obtain ⟨cs, ⟨s, h1, h3⟩, h2⟩ := h; subst h1; exact ⟨s, h2, h3⟩

/-- a copy -/
theorem mv {x : Operand} {e : Ent} (hx : opE l x = some e) : Run C P Γ l res ⟨some d, .move x, ty, pos, after, g⟩ e := fun a w ha =>
  ⟨a.eval x, fun w' _ => q0_move rfl, ha.vl hx⟩
theorem asg {x : Operand} {e : Ent} (hx : opE l x = some e) : Run C P Γ l res ⟨some d, .assign x, ty, pos, after, g⟩ e := fun a w ha =>
  ⟨a.eval x, fun w' _ => q0_assign rfl, ha.vl hx⟩
theorem arithL {α β γ : Type} {op : BinOp} {k k2 : IntKind} {f : α → Int} {f2 : β → Int} {h : γ → Int} {x y : Operand} {T T' : TypeId} {a : α} {b : β} {c : γ} (hx : opE l x = some (.rd (numR k f) a)) (hy : opE l y = some (.rd (numR k f2) b))
    (hv : arith op k (f a) (f2 b) = some (.int k2 (h c))) : Run C P Γ l res ⟨some d, .binOp op T x y T', ty, pos, after, g⟩ (.rd (numR k2 h) c) := fun _ w ha =>
  ⟨_, fun w' _ => q0_bin (rd_num (ha.vl hx)) (rd_num (ha.vl hy)) hv, rd_num'⟩
theorem cmpL {α β : Type} {op : BinOp} {k : IntKind} {f : α → Int} {f2 : β → Int} {x y : Operand} {T T' : TypeId} {a : α} {b : β} {c : Bool} (hx : opE l x = some (.rd (numR k f) a)) (hy : opE l y = some (.rd (numR k f2) b))
    (hv : arith op k (f a) (f2 b) = some (.bool c)) : Run C P Γ l res ⟨some d, .binOp op T x y T', ty, pos, after, g⟩ (.rd boolR c) := fun _ w ha =>
  ⟨_, fun w' _ => q0_bin (rd_num (ha.vl hx)) (rd_num (ha.vl hy)) hv, rd_bool'⟩
theorem bitsL {α γ : Type} {op : BinOp} {k : IntKind} {f : α → Int} {x y : Operand} {T T' : TypeId} {a b c : α} (hx : opE l x = some (.rd (numR k f) a)) (hy : opE l y = some (.rd (numR k f) b))
    (ho : isBits op = true) (hv : bitsOf op k (f a) (f b) = f c) : Run C P Γ l res ⟨some d, .binOp op T x y T', ty, pos, after, g⟩ (.rd (numR k f) c) := fun _ w ha =>
  ⟨_, fun w' _ => q0_bits ho (rd_num (ha.vl hx)) (rd_num (ha.vl hy)) hv, rd_num'⟩
theorem quoL {α : Type} {k : IntKind} {f : α → Int} {x y : Operand} {T T' : TypeId} {a b c : α} (hx : opE l x = some (.rd (numR k f) a)) (hy : opE l y = some (.rd (numR k f) b))
    (h0 : f b ≠ 0) (hv : k.wrap ((f a).tdiv (f b)) = f c) : Run C P Γ l res ⟨some d, .binOp .quo T x y T', ty, pos, after, g⟩ (.rd (numR k f) c) := fun _ w ha =>
  ⟨_, fun w' _ => q0_quo (rd_num (ha.vl hx)) (rd_num (ha.vl hy)) h0 hv, rd_num'⟩
theorem remL {α : Type} {k : IntKind} {f : α → Int} {x y : Operand} {T T' : TypeId} {a b c : α} (hx : opE l x = some (.rd (numR k f) a)) (hy : opE l y = some (.rd (numR k f) b))
    (h0 : f b ≠ 0) (hv : (f a).tmod (f b) = f c) : Run C P Γ l res ⟨some d, .binOp .rem T x y T', ty, pos, after, g⟩ (.rd (numR k f) c) := fun _ w ha =>
  ⟨_, fun w' _ => q0_rem (rd_num (ha.vl hx)) (rd_num (ha.vl hy)) h0 hv, rd_num'⟩
theorem shlL {α β : Type} {k k' : IntKind} {f : α → Int} {f2 : β → Int} {x y : Operand} {T T' : TypeId} {a c : α} {b : β} (hx : opE l x = some (.rd (numR k f) a)) (hy : opE l y = some (.rd (numR k' f2) b))
    (h0 : 0 ≤ f2 b) (hv : k.wrap (f a * 2 ^ (min (f2 b).toNat k.bits)) = f c) : Run C P Γ l res ⟨some d, .binOp .shl T x y T', ty, pos, after, g⟩ (.rd (numR k f) c) := fun _ w ha =>
  ⟨_, fun w' _ => q0_shl (rd_num (ha.vl hx)) (rd_num (ha.vl hy)) h0 hv, rd_num'⟩
theorem shrL {α β : Type} {k k' : IntKind} {f : α → Int} {f2 : β → Int} {x y : Operand} {T T' : TypeId} {a c : α} {b : β} (hx : opE l x = some (.rd (numR k f) a)) (hy : opE l y = some (.rd (numR k' f2) b))
    (h0 : 0 ≤ f2 b) (hv : (f a).fdiv (2 ^ (min (f2 b).toNat k.bits)) = f c) : Run C P Γ l res ⟨some d, .binOp .shr T x y T', ty, pos, after, g⟩ (.rd (numR k f) c) := fun _ w ha =>
  ⟨_, fun w' _ => q0_shr (rd_num (ha.vl hx)) (rd_num (ha.vl hy)) h0 hv, rd_num'⟩
theorem convL {α β : Type} {k k' : IntKind} {f : α → Int} {f2 : β → Int} {x : Operand} {S T : TypeId} {ds : TypeDesc} {a : α} {b : β} (hS : P.underlying S = some ds) (hT : P.underlying T = some (.int k')) (hx : opE l x = some (.rd (numR k f) a))
    (hv : k'.wrap (f a) = f2 b) : Run C P Γ l res ⟨some d, .convert S T x, ty, pos, after, g⟩ (.rd (numR k' f2) b) := fun _ w ha =>
  ⟨_, fun w' _ => q0_conv hS hT (rd_num (ha.vl hx)) hv, rd_num'⟩
theorem negL {α : Type} {k : IntKind} {f : α → Int} {x : Operand} {T : TypeId} {a b : α} (hx : opE l x = some (.rd (numR k f) a))
    (hv : k.wrap (0 - f a) = f b) : Run C P Γ l res ⟨some d, .unOp .neg T x, ty, pos, after, g⟩ (.rd (numR k f) b) := fun _ w ha =>
  ⟨_, fun w' _ => q0_neg (rd_num (ha.vl hx)) hv, rd_num'⟩
theorem cplL {α : Type} {k : IntKind} {f : α → Int} {x : Operand} {T : TypeId} {a b : α} (hx : opE l x = some (.rd (numR k f) a))
    (hv : bitsOf .xor k (if k.signed then -1 else k.max) (f a) = f b) : Run C P Γ l res ⟨some d, .unOp .xor T x, ty, pos, after, g⟩ (.rd (numR k f) b) := fun _ w ha =>
  ⟨_, fun w' _ => q0_xorU (rd_num (ha.vl hx)) hv, rd_num'⟩
theorem not' {x : Operand} {T : TypeId} {b : Bool} (hx : opE l x = some (.rd boolR b)) : Run C P Γ l res ⟨some d, .unOp .not T x, ty, pos, after, g⟩ (.rd boolR (!b)) := fun _ w ha =>
  ⟨_, fun w' _ => q0_not (rd_bool (ha.vl hx)), rd_bool'⟩
theorem eqB {x y : Operand} {T T' : TypeId} {b c : Bool} (hT : P.underlying T = some .bool) (hx : opE l x = some (.rd boolR b)) (hy : opE l y = some (.rd boolR c)) : Run C P Γ l res ⟨some d, .binOp .eql T x y T', ty, pos, after, g⟩ (.rd boolR (b == c)) := fun _ w ha =>
  ⟨_, fun w' _ => q0_eqlB hT (rd_bool (ha.vl hx)) (rd_bool (ha.vl hy)), rd_bool'⟩
theorem neB {x y : Operand} {T T' : TypeId} {b c : Bool} (hT : P.underlying T = some .bool) (hx : opE l x = some (.rd boolR b)) (hy : opE l y = some (.rd boolR c)) : Run C P Γ l res ⟨some d, .binOp .neq T x y T', ty, pos, after, g⟩ (.rd boolR (b != c)) := fun _ w ha =>
  ⟨_, fun w' _ => q0_neqB hT (rd_bool (ha.vl hx)) (rd_bool (ha.vl hy)), rd_bool'⟩
theorem toList_data (s : ByteArray) : s.toList = s.data.toList := by
  have key : ∀ (n i : Nat) (r : List UInt8), s.size - i = n → ByteArray.toList.loop s i r = r.reverse ++ s.data.toList.drop i := by
    intro n
    induction n with
    | zero =>
      intro i r h
      unfold ByteArray.toList.loop
      have : ¬ i < s.size := by omega
      rw [if_neg this, List.drop_eq_nil_of_le (by simp only [Array.length_toList]; exact Nat.le_of_sub_eq_zero h), List.append_nil]
    | succ n ih =>
      intro i r h
      unfold ByteArray.toList.loop
      have hi : i < s.size := by omega
      rw [if_pos hi, ih (i + 1) _ (by omega)]
      have h1 : i < s.data.toList.length := by simpa using hi
      rw [List.drop_eq_getElem_cons h1]
      simp [ByteArray.get!, getElem!_pos, hi]
  simpa [ByteArray.toList] using key s.size 0 [] rfl
theorem eqS {x y : Operand} {T T' : TypeId} {b c : List UInt8} (hx : opE l x = some (.rd strR b)) (hy : opE l y = some (.rd strR c)) : Run C P Γ l res ⟨some d, .binOp .eql T x y T', ty, pos, after, g⟩ (.rd boolR (b == c)) := fun _ w ha => by
  obtain ⟨s, h1, rfl⟩ := rd_str (ha.vl hx)
  obtain ⟨t, h2, rfl⟩ := rd_str (ha.vl hy)
  exact ⟨_, fun w' _ => q0_eqlS h1 h2, by rw [toList_data, toList_data]; exact rd_bool'⟩
theorem neS {x y : Operand} {T T' : TypeId} {b c : List UInt8} (hx : opE l x = some (.rd strR b)) (hy : opE l y = some (.rd strR c)) : Run C P Γ l res ⟨some d, .binOp .neq T x y T', ty, pos, after, g⟩ (.rd boolR (b != c)) := fun _ w ha => by
  obtain ⟨s, h1, rfl⟩ := rd_str (ha.vl hx)
  obtain ⟨t, h2, rfl⟩ := rd_str (ha.vl hy)
  exact ⟨_, fun w' _ => q0_neqS h1 h2, by rw [toList_data, toList_data]; exact rd_bool'⟩
/-- a choice whose Bool is known -/
theorem pkT {x y z : Operand} {e : Ent} (hx : opE l x = some (.rd boolR true)) (hy : opE l y = some e) : Run C P Γ l res ⟨some d, .pick x y z, ty, pos, after, g⟩ e := fun _ w ha =>
  ⟨_, fun w' _ => q0_pick (rd_bool (ha.vl hx)) rfl rfl rfl, ha.vl hy⟩
theorem pkF {x y z : Operand} {e : Ent} (hx : opE l x = some (.rd boolR false)) (hz : opE l z = some e) : Run C P Γ l res ⟨some d, .pick x y z, ty, pos, after, g⟩ e := fun _ w ha =>
  ⟨_, fun w' _ => q0_pick (rd_bool (ha.vl hx)) rfl rfl rfl, ha.vl hz⟩
theorem mini {k : IntKind} {α : Type} {f : α → Int} {x y : Operand} {at_ : Array TypeId} {a b c : α} (hx : opE l x = some (.rd (numR k f) a)) (hy : opE l y = some (.rd (numR k f) b)) (hv : (if f b < f a then f b else f a) = f c) :
    Run C P Γ l res ⟨some d, .call ⟨.builtin .min, #[x, y], at_⟩, ty, pos, after, g⟩ (.rd (numR k f) c) := fun _ w ha =>
  ⟨_, fun w' _ => q0_min (rd_num (ha.vl hx)) (rd_num (ha.vl hy)), by rw [hv]; exact rd_num'⟩
theorem maxi {k : IntKind} {α : Type} {f : α → Int} {x y : Operand} {at_ : Array TypeId} {a b c : α} (hx : opE l x = some (.rd (numR k f) a)) (hy : opE l y = some (.rd (numR k f) b)) (hv : (if f a < f b then f b else f a) = f c) :
    Run C P Γ l res ⟨some d, .call ⟨.builtin .max, #[x, y], at_⟩, ty, pos, after, g⟩ (.rd (numR k f) c) := fun _ w ha =>
  ⟨_, fun w' _ => q0_max (rd_num (ha.vl hx)) (rd_num (ha.vl hy)), by rw [hv]; exact rd_num'⟩
theorem holdsL.get {S : Blk} {w : World} : ∀ {es : List Ent} {vs : List Value} {i : Nat} {e : Ent}, holdsL S w es vs → es[i]? = some e → ∃ v, vs[i]? = some v ∧ e.holds S w v
  | [], [], i, e, _, h => by simp at h
  | e0 :: es, v :: vs, 0, e, h, h' => by simp at h'; subst h'; exact ⟨v, rfl, h.1⟩
  | e0 :: es, v :: vs, i + 1, e, h, h' => by simpa using holdsL.get h.2 (by simpa using h')
  | [], _ :: _, _, _, h, _ => h.elim
  | _ :: _, [], _, _, h, _ => h.elim
theorem ext {x : Operand} {i : Nat} {es : List Ent} {e : Ent} (hx : opE l x = some (.tup es)) (hi : es[i]? = some e) : Run C P Γ l res ⟨some d, .extract x i, ty, pos, after, g⟩ e := fun _ w ha => by
  obtain ⟨vs, h1, h2⟩ := ha.vl hx
  obtain ⟨v, h3, h4⟩ := h1.get hi
  exact ⟨v, fun w' _ => q0_extract h2 (by simpa using h3), h4⟩
theorem lenS {x : Operand} {T : TypeId} {at_ : Array TypeId} {e : TypeId} {α : Type} {R : Rep α} {b : List α} (hx : opE l x = some (.rd (sliceR R) b)) (hat : at_[0]? = some T) (hT : P.underlying T = some (.slice e)) :
    Run C P Γ l res ⟨some d, .call ⟨.builtin .len, #[x], at_⟩, ty, pos, after, g⟩ (.rd i64R (b.length : Int)) := fun _ w ha => by
  obtain ⟨cs, ⟨p, c, xs, h1, h2⟩, h3⟩ := ha.vl hx
  subst h1
  exact ⟨_, fun w' _ => q0_lenS hat hT h3, rd_num'⟩
theorem lenO {x : Operand} {T : TypeId} {at_ : Array TypeId} {e E : TypeId} {α : Type} {R : Rep α} {b : List α} {v : Value} (r : Nat) (hx : opE l x = some (.val v)) (hr : lr res r = some (v, .list R E b)) (hat : at_[0]? = some T) (hT : P.underlying T = some (.slice e)) :
    Run C P Γ l res ⟨some d, .call ⟨.builtin .len, #[x], at_⟩, ty, pos, after, g⟩ (.rd i64R (b.length : Int)) := fun a w ha => by
  have h1 : a.eval x = v := (ha.vl hx).1
  rcases ha.conts r v _ hr with ⟨h2, h3⟩ | ⟨_, _, _, _, b', cap, C', h2, _⟩
  · rw [h2] at h1; exact ⟨_, fun w' _ => q0_lenS hat hT h1, by rw [h3]; exact rd_num'⟩
  · rw [h2] at h1; exact ⟨_, fun w' _ => q0_lenS hat hT h1, rd_num'⟩
theorem lenT {x : Operand} {T : TypeId} {at_ : Array TypeId} {b : List UInt8} (hx : opE l x = some (.rd strR b)) (hat : at_[0]? = some T) (hT : P.underlying T = some .string) :
    Run C P Γ l res ⟨some d, .call ⟨.builtin .len, #[x], at_⟩, ty, pos, after, g⟩ (.rd i64R (b.length : Int)) := fun _ w ha => by
  obtain ⟨s, h1, rfl⟩ := rd_str (ha.vl hx)
  exact ⟨_, fun w' _ => q0_lenStr hat hT h1, rd_num'⟩
theorem lenA {x : Operand} {T : TypeId} {at_ : Array TypeId} {e : TypeId} {n : Nat} {E : Ent} (hx : opE l x = some E) (hat : at_[0]? = some T) (hT : P.underlying T = some (.array n e)) :
    Run C P Γ l res ⟨some d, .call ⟨.builtin .len, #[x], at_⟩, ty, pos, after, g⟩ (.rd i64R (n : Int)) := fun _ w ha =>
  ⟨_, fun w' _ => q0_lenA hat hT rfl, rd_num'⟩
theorem mkf {fn : Fn} {first captured : Array Operand} {v1 v2 : Array Value} (h1 : ∀ a w, Sta Γ l res a w → first.map a.eval = v1) (h2 : ∀ a w, Sta Γ l res a w → captured.map a.eval = v2) :
    Run C P Γ l res ⟨some d, .makeFunc fn first captured, ty, pos, after, g⟩ (.val (.func fn v1 v2)) := fun a w ha =>
  ⟨_, fun w' _ => q0_mkfunc (h1 a w ha) (h2 a w ha), rfl, rfl⟩
theorem mp0 (a : Act) (w : World) (ha : Sta Γ l res a w) : (#[] : Array Operand).map a.eval = #[] := by simp
theorem mp1 {x : Operand} {v : Value} (hx : opE l x = some (.val v)) (a : Act) (w : World) (ha : Sta Γ l res a w) : (#[x] : Array Operand).map a.eval = #[v] := by
  have h1 : a.eval x = v := (ha.vl hx).1
  simp [h1]
theorem mp2 {x y : Operand} {v u : Value} (hx : opE l x = some (.val v)) (hy : opE l y = some (.val u)) (a : Act) (w : World) (ha : Sta Γ l res a w) : (#[x, y] : Array Operand).map a.eval = #[v, u] := by
  have h1 : a.eval x = v := (ha.vl hx).1
  have h2 : a.eval y = u := (ha.vl hy).1
  simp [h1, h2]
theorem mp3 {x y z : Operand} {v u t : Value} (hx : opE l x = some (.val v)) (hy : opE l y = some (.val u)) (hz : opE l z = some (.val t)) (a : Act) (w : World) (ha : Sta Γ l res a w) : (#[x, y, z] : Array Operand).map a.eval = #[v, u, t] := by
  have h1 : a.eval x = v := (ha.vl hx).1
  have h2 : a.eval y = u := (ha.vl hy).1
  have h3 : a.eval z = t := (ha.vl hz).1
  simp [h1, h2, h3]
theorem idxT {β : Type} {kk : IntKind} {f : β → Int} {x i : Operand} {T : TypeId} {b : List UInt8} {j : β} {c : UInt8} (hx : opE l x = some (.rd strR b)) (hi : opE l i = some (.rd (numR kk f) j)) (hT : P.underlying T = some .string) (h0 : 0 ≤ f j) (hc : b[(f j).toNat]? = some c) :
    Run C P Γ l res ⟨some d, .index T x i, ty, pos, after, g⟩ (.rd u8R c) := fun _ w ha => by
  obtain ⟨s, h1, rfl⟩ := rd_str (ha.vl hx)
  refine ⟨_, fun w' _ => q0_indexStr hT h1 (rd_num (ha.vl hi)) h0 (c0 := c) ?_, rd_num'⟩
  have h4 : (f j).toNat < s.data.toList.length := (List.getElem?_eq_some_iff.1 hc).1
  have h5 : (f j).toNat < s.size := by simpa using h4
  have : s[(f j).toNat]? = s.data[(f j).toNat]? := by
    rw [getElem?_pos s _ h5, getElem?_pos s.data _ h5]; rfl
  show s[(f j).toNat]? = some c
  rw [this, ← hc]; simp

theorem I.add {x y : Operand} {T T' : TypeId} {a b : Int} (hx : opE l x = some (.rd i64R a)) (hy : opE l y = some (.rd i64R b)) : Run C P Γ l res ⟨some d, .binOp .add T x y T', ty, pos, after, g⟩ (.rd i64R (w64 (a + b))) := arithL hx hy rfl
theorem I.sub {x y : Operand} {T T' : TypeId} {a b : Int} (hx : opE l x = some (.rd i64R a)) (hy : opE l y = some (.rd i64R b)) : Run C P Γ l res ⟨some d, .binOp .sub T x y T', ty, pos, after, g⟩ (.rd i64R (w64 (a - b))) := arithL hx hy rfl
theorem I.mul {x y : Operand} {T T' : TypeId} {a b : Int} (hx : opE l x = some (.rd i64R a)) (hy : opE l y = some (.rd i64R b)) : Run C P Γ l res ⟨some d, .binOp .mul T x y T', ty, pos, after, g⟩ (.rd i64R (w64 (a * b))) := arithL hx hy rfl
theorem I.lss {x y : Operand} {T T' : TypeId} {a b : Int} (hx : opE l x = some (.rd i64R a)) (hy : opE l y = some (.rd i64R b)) : Run C P Γ l res ⟨some d, .binOp .lss T x y T', ty, pos, after, g⟩ (.rd boolR (decide (a < b))) := cmpL hx hy rfl
theorem I.leq {x y : Operand} {T T' : TypeId} {a b : Int} (hx : opE l x = some (.rd i64R a)) (hy : opE l y = some (.rd i64R b)) : Run C P Γ l res ⟨some d, .binOp .leq T x y T', ty, pos, after, g⟩ (.rd boolR (decide (a ≤ b))) := cmpL hx hy rfl
theorem I.gtr {x y : Operand} {T T' : TypeId} {a b : Int} (hx : opE l x = some (.rd i64R a)) (hy : opE l y = some (.rd i64R b)) : Run C P Γ l res ⟨some d, .binOp .gtr T x y T', ty, pos, after, g⟩ (.rd boolR (decide (b < a))) := cmpL hx hy rfl
theorem I.geq {x y : Operand} {T T' : TypeId} {a b : Int} (hx : opE l x = some (.rd i64R a)) (hy : opE l y = some (.rd i64R b)) : Run C P Γ l res ⟨some d, .binOp .geq T x y T', ty, pos, after, g⟩ (.rd boolR (decide (b ≤ a))) := cmpL hx hy rfl
theorem I.eql {x y : Operand} {T T' : TypeId} {a b : Int} (hx : opE l x = some (.rd i64R a)) (hy : opE l y = some (.rd i64R b)) : Run C P Γ l res ⟨some d, .binOp .eql T x y T', ty, pos, after, g⟩ (.rd boolR (a == b)) := cmpL hx hy rfl
theorem I.neq {x y : Operand} {T T' : TypeId} {a b : Int} (hx : opE l x = some (.rd i64R a)) (hy : opE l y = some (.rd i64R b)) : Run C P Γ l res ⟨some d, .binOp .neq T x y T', ty, pos, after, g⟩ (.rd boolR (a != b)) := cmpL hx hy rfl
theorem I.quo {x y : Operand} {T T' : TypeId} {a b : Int} (hx : opE l x = some (.rd i64R a)) (hy : opE l y = some (.rd i64R b)) (h0 : b ≠ 0) : Run C P Γ l res ⟨some d, .binOp .quo T x y T', ty, pos, after, g⟩ (.rd i64R (w64 (a.tdiv b))) := quoL hx hy h0 rfl
theorem I.rem {x y : Operand} {T T' : TypeId} {a b : Int} (hx : opE l x = some (.rd i64R a)) (hy : opE l y = some (.rd i64R b)) (h0 : b ≠ 0) : Run C P Γ l res ⟨some d, .binOp .rem T x y T', ty, pos, after, g⟩ (.rd i64R (a.tmod b)) := remL hx hy h0 rfl
theorem I.neg {x : Operand} {T : TypeId} {a : Int} (hx : opE l x = some (.rd i64R a)) : Run C P Γ l res ⟨some d, .unOp .neg T x, ty, pos, after, g⟩ (.rd i64R (w64 (0 - a))) := negL hx rfl
theorem J.add {x y : Operand} {T T' : TypeId} {a b : Int} (hx : opE l x = some (.rd i32R a)) (hy : opE l y = some (.rd i32R b)) : Run C P Γ l res ⟨some d, .binOp .add T x y T', ty, pos, after, g⟩ (.rd i32R (w32 (a + b))) := arithL hx hy rfl
theorem J.sub {x y : Operand} {T T' : TypeId} {a b : Int} (hx : opE l x = some (.rd i32R a)) (hy : opE l y = some (.rd i32R b)) : Run C P Γ l res ⟨some d, .binOp .sub T x y T', ty, pos, after, g⟩ (.rd i32R (w32 (a - b))) := arithL hx hy rfl
theorem J.mul {x y : Operand} {T T' : TypeId} {a b : Int} (hx : opE l x = some (.rd i32R a)) (hy : opE l y = some (.rd i32R b)) : Run C P Γ l res ⟨some d, .binOp .mul T x y T', ty, pos, after, g⟩ (.rd i32R (w32 (a * b))) := arithL hx hy rfl
theorem J.lss {x y : Operand} {T T' : TypeId} {a b : Int} (hx : opE l x = some (.rd i32R a)) (hy : opE l y = some (.rd i32R b)) : Run C P Γ l res ⟨some d, .binOp .lss T x y T', ty, pos, after, g⟩ (.rd boolR (decide (a < b))) := cmpL hx hy rfl
theorem J.leq {x y : Operand} {T T' : TypeId} {a b : Int} (hx : opE l x = some (.rd i32R a)) (hy : opE l y = some (.rd i32R b)) : Run C P Γ l res ⟨some d, .binOp .leq T x y T', ty, pos, after, g⟩ (.rd boolR (decide (a ≤ b))) := cmpL hx hy rfl
theorem J.gtr {x y : Operand} {T T' : TypeId} {a b : Int} (hx : opE l x = some (.rd i32R a)) (hy : opE l y = some (.rd i32R b)) : Run C P Γ l res ⟨some d, .binOp .gtr T x y T', ty, pos, after, g⟩ (.rd boolR (decide (b < a))) := cmpL hx hy rfl
theorem J.geq {x y : Operand} {T T' : TypeId} {a b : Int} (hx : opE l x = some (.rd i32R a)) (hy : opE l y = some (.rd i32R b)) : Run C P Γ l res ⟨some d, .binOp .geq T x y T', ty, pos, after, g⟩ (.rd boolR (decide (b ≤ a))) := cmpL hx hy rfl
theorem J.eql {x y : Operand} {T T' : TypeId} {a b : Int} (hx : opE l x = some (.rd i32R a)) (hy : opE l y = some (.rd i32R b)) : Run C P Γ l res ⟨some d, .binOp .eql T x y T', ty, pos, after, g⟩ (.rd boolR (a == b)) := cmpL hx hy rfl
theorem J.neq {x y : Operand} {T T' : TypeId} {a b : Int} (hx : opE l x = some (.rd i32R a)) (hy : opE l y = some (.rd i32R b)) : Run C P Γ l res ⟨some d, .binOp .neq T x y T', ty, pos, after, g⟩ (.rd boolR (a != b)) := cmpL hx hy rfl
theorem J.quo {x y : Operand} {T T' : TypeId} {a b : Int} (hx : opE l x = some (.rd i32R a)) (hy : opE l y = some (.rd i32R b)) (h0 : b ≠ 0) : Run C P Γ l res ⟨some d, .binOp .quo T x y T', ty, pos, after, g⟩ (.rd i32R (w32 (a.tdiv b))) := quoL hx hy h0 rfl
theorem J.rem {x y : Operand} {T T' : TypeId} {a b : Int} (hx : opE l x = some (.rd i32R a)) (hy : opE l y = some (.rd i32R b)) (h0 : b ≠ 0) : Run C P Γ l res ⟨some d, .binOp .rem T x y T', ty, pos, after, g⟩ (.rd i32R (a.tmod b)) := remL hx hy h0 rfl
theorem J.neg {x : Operand} {T : TypeId} {a : Int} (hx : opE l x = some (.rd i32R a)) : Run C P Γ l res ⟨some d, .unOp .neg T x, ty, pos, after, g⟩ (.rd i32R (w32 (0 - a))) := negL hx rfl
theorem ite_le {a b : Int} : (if b < a then b else a) = min a b := by rw [Int.min_def]; split <;> split <;> omega
theorem ite_ge {a b : Int} : (if a < b then b else a) = max a b := by rw [Int.max_def]; split <;> split <;> omega
theorem I.min {x y : Operand} {at_ : Array TypeId} {a b : Int} (hx : opE l x = some (.rd i64R a)) (hy : opE l y = some (.rd i64R b)) : Run C P Γ l res ⟨some d, .call ⟨.builtin .min, #[x, y], at_⟩, ty, pos, after, g⟩ (.rd i64R (min a b)) := mini hx hy ite_le
theorem I.max {x y : Operand} {at_ : Array TypeId} {a b : Int} (hx : opE l x = some (.rd i64R a)) (hy : opE l y = some (.rd i64R b)) : Run C P Γ l res ⟨some d, .call ⟨.builtin .max, #[x, y], at_⟩, ty, pos, after, g⟩ (.rd i64R (max a b)) := maxi hx hy ite_ge
theorem ofInt8 (x : Int) : IntKind.u8.wrap x = ((UInt8.ofNat (x % 256).toNat).toNat : Int) := by
  simp only [IntKind.wrap, IntKind.signed, IntKind.bits]; simp; omega
theorem B.add {x y : Operand} {T T' : TypeId} {a b : UInt8} (hx : opE l x = some (.rd u8R a)) (hy : opE l y = some (.rd u8R b)) : Run C P Γ l res ⟨some d, .binOp .add T x y T', ty, pos, after, g⟩ (.rd u8R (a + b)) := arithL hx hy (by simp only [arith, Option.some.injEq, Value.int.injEq, true_and, IntKind.wrap, IntKind.signed, IntKind.bits]; simp)
theorem B.sub {x y : Operand} {T T' : TypeId} {a b : UInt8} (hx : opE l x = some (.rd u8R a)) (hy : opE l y = some (.rd u8R b)) : Run C P Γ l res ⟨some d, .binOp .sub T x y T', ty, pos, after, g⟩ (.rd u8R (a - b)) := arithL hx hy (by simp only [arith, Option.some.injEq, Value.int.injEq, true_and, IntKind.wrap, IntKind.signed, IntKind.bits]; have h1 := UInt8.toNat_lt a; have h2 := UInt8.toNat_lt b; rw [UInt8.toNat_sub]; simp; omega)
theorem B.mul {x y : Operand} {T T' : TypeId} {a b : UInt8} (hx : opE l x = some (.rd u8R a)) (hy : opE l y = some (.rd u8R b)) : Run C P Γ l res ⟨some d, .binOp .mul T x y T', ty, pos, after, g⟩ (.rd u8R (a * b)) := arithL hx hy (by simp only [arith, Option.some.injEq, Value.int.injEq, true_and, IntKind.wrap, IntKind.signed, IntKind.bits]; simp)
theorem B.lss {x y : Operand} {T T' : TypeId} {a b : UInt8} (hx : opE l x = some (.rd u8R a)) (hy : opE l y = some (.rd u8R b)) : Run C P Γ l res ⟨some d, .binOp .lss T x y T', ty, pos, after, g⟩ (.rd boolR (decide (a < b))) := cmpL hx hy (by simp only [arith, Option.some.injEq, Value.bool.injEq, decide_eq_decide]; simp [UInt8.lt_iff_toNat_lt, UInt8.le_iff_toNat_le])
theorem B.leq {x y : Operand} {T T' : TypeId} {a b : UInt8} (hx : opE l x = some (.rd u8R a)) (hy : opE l y = some (.rd u8R b)) : Run C P Γ l res ⟨some d, .binOp .leq T x y T', ty, pos, after, g⟩ (.rd boolR (decide (a ≤ b))) := cmpL hx hy (by simp only [arith, Option.some.injEq, Value.bool.injEq, decide_eq_decide]; simp [UInt8.lt_iff_toNat_lt, UInt8.le_iff_toNat_le])
theorem B.gtr {x y : Operand} {T T' : TypeId} {a b : UInt8} (hx : opE l x = some (.rd u8R a)) (hy : opE l y = some (.rd u8R b)) : Run C P Γ l res ⟨some d, .binOp .gtr T x y T', ty, pos, after, g⟩ (.rd boolR (decide (b < a))) := cmpL hx hy (by simp only [arith, Option.some.injEq, Value.bool.injEq, decide_eq_decide]; simp [UInt8.lt_iff_toNat_lt, UInt8.le_iff_toNat_le])
theorem B.geq {x y : Operand} {T T' : TypeId} {a b : UInt8} (hx : opE l x = some (.rd u8R a)) (hy : opE l y = some (.rd u8R b)) : Run C P Γ l res ⟨some d, .binOp .geq T x y T', ty, pos, after, g⟩ (.rd boolR (decide (b ≤ a))) := cmpL hx hy (by simp only [arith, Option.some.injEq, Value.bool.injEq, decide_eq_decide]; simp [UInt8.lt_iff_toNat_lt, UInt8.le_iff_toNat_le])
theorem B.eql {x y : Operand} {T T' : TypeId} {a b : UInt8} (hx : opE l x = some (.rd u8R a)) (hy : opE l y = some (.rd u8R b)) : Run C P Γ l res ⟨some d, .binOp .eql T x y T', ty, pos, after, g⟩ (.rd boolR (a == b)) := cmpL hx hy (by simp only [arith, eqn_u8])
theorem B.neq {x y : Operand} {T T' : TypeId} {a b : UInt8} (hx : opE l x = some (.rd u8R a)) (hy : opE l y = some (.rd u8R b)) : Run C P Γ l res ⟨some d, .binOp .neq T x y T', ty, pos, after, g⟩ (.rd boolR (a != b)) := cmpL hx hy (by simp only [arith, bne, eqn_u8])
theorem B.quo {x y : Operand} {T T' : TypeId} {a b : UInt8} (hx : opE l x = some (.rd u8R a)) (hy : opE l y = some (.rd u8R b)) (h0 : b ≠ 0) : Run C P Γ l res ⟨some d, .binOp .quo T x y T', ty, pos, after, g⟩ (.rd u8R (a / b)) := quoL hx hy (fun e => h0 (by rw [← UInt8.toNat_inj]; simpa using e)) (by
  have h1 := UInt8.toNat_lt a
  have h2 : a.toNat / b.toNat ≤ a.toNat := Nat.div_le_self _ _
  rw [UInt8.toNat_div, Int.tdiv_eq_ediv_of_nonneg (by omega)]
  simp only [IntKind.wrap, IntKind.signed, IntKind.bits]
  simp only [Bool.false_and, Bool.false_eq_true, if_false]
  rw [← Int.natCast_ediv]; generalize a.toNat / b.toNat = q at *; omega)
theorem B.rem {x y : Operand} {T T' : TypeId} {a b : UInt8} (hx : opE l x = some (.rd u8R a)) (hy : opE l y = some (.rd u8R b)) (h0 : b ≠ 0) : Run C P Γ l res ⟨some d, .binOp .rem T x y T', ty, pos, after, g⟩ (.rd u8R (a % b)) := remL hx hy (fun e => h0 (by rw [← UInt8.toNat_inj]; simpa using e)) (by
  rw [UInt8.toNat_mod, Int.tmod_eq_emod_of_nonneg (by omega)]; omega)
theorem B.and {x y : Operand} {T T' : TypeId} {a b : UInt8} (hx : opE l x = some (.rd u8R a)) (hy : opE l y = some (.rd u8R b)) : Run C P Γ l res ⟨some d, .binOp .and T x y T', ty, pos, after, g⟩ (.rd u8R (a &&& b)) := bitsL (γ := Unit) hx hy rfl (bits_and_u8 a b)
theorem B.or {x y : Operand} {T T' : TypeId} {a b : UInt8} (hx : opE l x = some (.rd u8R a)) (hy : opE l y = some (.rd u8R b)) : Run C P Γ l res ⟨some d, .binOp .or T x y T', ty, pos, after, g⟩ (.rd u8R (a ||| b)) := bitsL (γ := Unit) hx hy rfl (bits_or_u8 a b)
theorem B.xor {x y : Operand} {T T' : TypeId} {a b : UInt8} (hx : opE l x = some (.rd u8R a)) (hy : opE l y = some (.rd u8R b)) : Run C P Γ l res ⟨some d, .binOp .xor T x y T', ty, pos, after, g⟩ (.rd u8R (a ^^^ b)) := bitsL (γ := Unit) hx hy rfl (bits_xor_u8 a b)
theorem B.andNot {x y : Operand} {T T' : TypeId} {a b : UInt8} (hx : opE l x = some (.rd u8R a)) (hy : opE l y = some (.rd u8R b)) : Run C P Γ l res ⟨some d, .binOp .andNot T x y T', ty, pos, after, g⟩ (.rd u8R (a &&& ~~~ b)) := bitsL (γ := Unit) hx hy rfl (bits_andNot_u8 a b)
def shl8 (a : UInt8) (n : Nat) : UInt8 := UInt8.ofNat (a.toNat * 2 ^ (min n 8))
def shr8 (a : UInt8) (n : Nat) : UInt8 := UInt8.ofNat (a.toNat / 2 ^ (min n 8))
theorem B.shl {β : Type} {k' : IntKind} {f2 : β → Int} {x y : Operand} {T T' : TypeId} {a : UInt8} {b : β} (hx : opE l x = some (.rd u8R a)) (hy : opE l y = some (.rd (numR k' f2) b)) (h0 : 0 ≤ f2 b) : Run C P Γ l res ⟨some d, .binOp .shl T x y T', ty, pos, after, g⟩ (.rd u8R (shl8 a (f2 b).toNat)) := shlL hx hy h0 (by
  unfold shl8; simp only [IntKind.wrap, IntKind.signed, IntKind.bits]; simp)
theorem B.shr {β : Type} {k' : IntKind} {f2 : β → Int} {x y : Operand} {T T' : TypeId} {a : UInt8} {b : β} (hx : opE l x = some (.rd u8R a)) (hy : opE l y = some (.rd (numR k' f2) b)) (h0 : 0 ≤ f2 b) : Run C P Γ l res ⟨some d, .binOp .shr T x y T', ty, pos, after, g⟩ (.rd u8R (shr8 a (f2 b).toNat)) := shrL hx hy h0 (by
  unfold shr8; simp only [IntKind.bits]
  have h1 := UInt8.toNat_lt a
  have h2 : a.toNat / 2 ^ (min (f2 b).toNat 8) ≤ a.toNat := Nat.div_le_self _ _
  have h3 : ∀ q : Nat, q ≤ a.toNat → (UInt8.ofNat q).toNat = q := fun q hq => by simp; omega
  rw [h3 _ h2, Int.fdiv_eq_ediv_of_nonneg _ (Int.le_of_lt (Int.pow_pos (by decide)))]; simp)
theorem B.neg {x : Operand} {T : TypeId} {a : UInt8} (hx : opE l x = some (.rd u8R a)) : Run C P Γ l res ⟨some d, .unOp .neg T x, ty, pos, after, g⟩ (.rd u8R (-a)) := negL hx (by
  have h1 := UInt8.toNat_lt a
  simp only [IntKind.wrap, IntKind.signed, IntKind.bits]; rw [UInt8.toNat_neg]; simp only [UInt8.size]; simp; omega)
theorem B.cpl {x : Operand} {T : TypeId} {a : UInt8} (hx : opE l x = some (.rd u8R a)) : Run C P Γ l res ⟨some d, .unOp .xor T x, ty, pos, after, g⟩ (.rd u8R (~~~a)) := cplL hx (bits_cpl_u8 a)
theorem B.toI {x : Operand} {S T : TypeId} {ds : TypeDesc} {a : UInt8} (hx : opE l x = some (.rd u8R a)) (hS : P.underlying S = some ds) (hT : P.underlying T = some (.int .i64)) : Run C P Γ l res ⟨some d, .convert S T x, ty, pos, after, g⟩ (.rd i64R ((a.toNat : Int))) := convL hS hT hx (wrap_i64' (by omega) (by have := UInt8.toNat_lt a; omega))
theorem I.toB {x : Operand} {S T : TypeId} {ds : TypeDesc} {a : Int} (hx : opE l x = some (.rd i64R a)) (hS : P.underlying S = some ds) (hT : P.underlying T = some (.int .u8)) : Run C P Γ l res ⟨some d, .convert S T x, ty, pos, after, g⟩ (.rd u8R (UInt8.ofInt a)) := convL hS hT hx (conv_u8 a)
theorem B.toB {x : Operand} {S T : TypeId} {ds : TypeDesc} {a : UInt8} (hx : opE l x = some (.rd u8R a)) (hS : P.underlying S = some ds) (hT : P.underlying T = some (.int .u8)) : Run C P Γ l res ⟨some d, .convert S T x, ty, pos, after, g⟩ (.rd u8R (a)) := convL hS hT hx (by have := UInt8.toNat_lt a; simp only [IntKind.wrap, IntKind.signed, IntKind.bits]; simp; omega)
theorem B.toW {x : Operand} {S T : TypeId} {ds : TypeDesc} {a : UInt8} (hx : opE l x = some (.rd u8R a)) (hS : P.underlying S = some ds) (hT : P.underlying T = some (.int .u32)) : Run C P Γ l res ⟨some d, .convert S T x, ty, pos, after, g⟩ (.rd u32R (a.toUInt32)) := convL hS hT hx (by have := UInt8.toNat_lt a; simp only [IntKind.wrap, IntKind.signed, IntKind.bits]; simp; omega)
theorem B.toU {x : Operand} {S T : TypeId} {ds : TypeDesc} {a : UInt8} (hx : opE l x = some (.rd u8R a)) (hS : P.underlying S = some ds) (hT : P.underlying T = some (.int .u64)) : Run C P Γ l res ⟨some d, .convert S T x, ty, pos, after, g⟩ (.rd u64R (a.toUInt64)) := convL hS hT hx (by have := UInt8.toNat_lt a; simp only [IntKind.wrap, IntKind.signed, IntKind.bits]; simp; omega)
theorem ofInt32 (x : Int) : IntKind.u32.wrap x = ((UInt32.ofNat (x % 4294967296).toNat).toNat : Int) := by
  simp only [IntKind.wrap, IntKind.signed, IntKind.bits]; simp; omega
theorem W.add {x y : Operand} {T T' : TypeId} {a b : UInt32} (hx : opE l x = some (.rd u32R a)) (hy : opE l y = some (.rd u32R b)) : Run C P Γ l res ⟨some d, .binOp .add T x y T', ty, pos, after, g⟩ (.rd u32R (a + b)) := arithL hx hy (by simp only [arith, Option.some.injEq, Value.int.injEq, true_and, IntKind.wrap, IntKind.signed, IntKind.bits]; simp)
theorem W.sub {x y : Operand} {T T' : TypeId} {a b : UInt32} (hx : opE l x = some (.rd u32R a)) (hy : opE l y = some (.rd u32R b)) : Run C P Γ l res ⟨some d, .binOp .sub T x y T', ty, pos, after, g⟩ (.rd u32R (a - b)) := arithL hx hy (by simp only [arith, Option.some.injEq, Value.int.injEq, true_and, IntKind.wrap, IntKind.signed, IntKind.bits]; have h1 := UInt32.toNat_lt a; have h2 := UInt32.toNat_lt b; rw [UInt32.toNat_sub]; simp; omega)
theorem W.mul {x y : Operand} {T T' : TypeId} {a b : UInt32} (hx : opE l x = some (.rd u32R a)) (hy : opE l y = some (.rd u32R b)) : Run C P Γ l res ⟨some d, .binOp .mul T x y T', ty, pos, after, g⟩ (.rd u32R (a * b)) := arithL hx hy (by simp only [arith, Option.some.injEq, Value.int.injEq, true_and, IntKind.wrap, IntKind.signed, IntKind.bits]; simp)
theorem W.lss {x y : Operand} {T T' : TypeId} {a b : UInt32} (hx : opE l x = some (.rd u32R a)) (hy : opE l y = some (.rd u32R b)) : Run C P Γ l res ⟨some d, .binOp .lss T x y T', ty, pos, after, g⟩ (.rd boolR (decide (a < b))) := cmpL hx hy (by simp only [arith, Option.some.injEq, Value.bool.injEq, decide_eq_decide]; simp [UInt32.lt_iff_toNat_lt, UInt32.le_iff_toNat_le])
theorem W.leq {x y : Operand} {T T' : TypeId} {a b : UInt32} (hx : opE l x = some (.rd u32R a)) (hy : opE l y = some (.rd u32R b)) : Run C P Γ l res ⟨some d, .binOp .leq T x y T', ty, pos, after, g⟩ (.rd boolR (decide (a ≤ b))) := cmpL hx hy (by simp only [arith, Option.some.injEq, Value.bool.injEq, decide_eq_decide]; simp [UInt32.lt_iff_toNat_lt, UInt32.le_iff_toNat_le])
theorem W.gtr {x y : Operand} {T T' : TypeId} {a b : UInt32} (hx : opE l x = some (.rd u32R a)) (hy : opE l y = some (.rd u32R b)) : Run C P Γ l res ⟨some d, .binOp .gtr T x y T', ty, pos, after, g⟩ (.rd boolR (decide (b < a))) := cmpL hx hy (by simp only [arith, Option.some.injEq, Value.bool.injEq, decide_eq_decide]; simp [UInt32.lt_iff_toNat_lt, UInt32.le_iff_toNat_le])
theorem W.geq {x y : Operand} {T T' : TypeId} {a b : UInt32} (hx : opE l x = some (.rd u32R a)) (hy : opE l y = some (.rd u32R b)) : Run C P Γ l res ⟨some d, .binOp .geq T x y T', ty, pos, after, g⟩ (.rd boolR (decide (b ≤ a))) := cmpL hx hy (by simp only [arith, Option.some.injEq, Value.bool.injEq, decide_eq_decide]; simp [UInt32.lt_iff_toNat_lt, UInt32.le_iff_toNat_le])
theorem W.eql {x y : Operand} {T T' : TypeId} {a b : UInt32} (hx : opE l x = some (.rd u32R a)) (hy : opE l y = some (.rd u32R b)) : Run C P Γ l res ⟨some d, .binOp .eql T x y T', ty, pos, after, g⟩ (.rd boolR (a == b)) := cmpL hx hy (by simp only [arith, eqn_u32])
theorem W.neq {x y : Operand} {T T' : TypeId} {a b : UInt32} (hx : opE l x = some (.rd u32R a)) (hy : opE l y = some (.rd u32R b)) : Run C P Γ l res ⟨some d, .binOp .neq T x y T', ty, pos, after, g⟩ (.rd boolR (a != b)) := cmpL hx hy (by simp only [arith, bne, eqn_u32])
theorem W.quo {x y : Operand} {T T' : TypeId} {a b : UInt32} (hx : opE l x = some (.rd u32R a)) (hy : opE l y = some (.rd u32R b)) (h0 : b ≠ 0) : Run C P Γ l res ⟨some d, .binOp .quo T x y T', ty, pos, after, g⟩ (.rd u32R (a / b)) := quoL hx hy (fun e => h0 (by rw [← UInt32.toNat_inj]; simpa using e)) (by
  have h1 := UInt32.toNat_lt a
  have h2 : a.toNat / b.toNat ≤ a.toNat := Nat.div_le_self _ _
  rw [UInt32.toNat_div, Int.tdiv_eq_ediv_of_nonneg (by omega)]
  simp only [IntKind.wrap, IntKind.signed, IntKind.bits]
  simp only [Bool.false_and, Bool.false_eq_true, if_false]
  rw [← Int.natCast_ediv]; generalize a.toNat / b.toNat = q at *; omega)
theorem W.rem {x y : Operand} {T T' : TypeId} {a b : UInt32} (hx : opE l x = some (.rd u32R a)) (hy : opE l y = some (.rd u32R b)) (h0 : b ≠ 0) : Run C P Γ l res ⟨some d, .binOp .rem T x y T', ty, pos, after, g⟩ (.rd u32R (a % b)) := remL hx hy (fun e => h0 (by rw [← UInt32.toNat_inj]; simpa using e)) (by
  rw [UInt32.toNat_mod, Int.tmod_eq_emod_of_nonneg (by omega)]; omega)
theorem W.and {x y : Operand} {T T' : TypeId} {a b : UInt32} (hx : opE l x = some (.rd u32R a)) (hy : opE l y = some (.rd u32R b)) : Run C P Γ l res ⟨some d, .binOp .and T x y T', ty, pos, after, g⟩ (.rd u32R (a &&& b)) := bitsL (γ := Unit) hx hy rfl (bits_and_u32 a b)
theorem W.or {x y : Operand} {T T' : TypeId} {a b : UInt32} (hx : opE l x = some (.rd u32R a)) (hy : opE l y = some (.rd u32R b)) : Run C P Γ l res ⟨some d, .binOp .or T x y T', ty, pos, after, g⟩ (.rd u32R (a ||| b)) := bitsL (γ := Unit) hx hy rfl (bits_or_u32 a b)
theorem W.xor {x y : Operand} {T T' : TypeId} {a b : UInt32} (hx : opE l x = some (.rd u32R a)) (hy : opE l y = some (.rd u32R b)) : Run C P Γ l res ⟨some d, .binOp .xor T x y T', ty, pos, after, g⟩ (.rd u32R (a ^^^ b)) := bitsL (γ := Unit) hx hy rfl (bits_xor_u32 a b)
theorem W.andNot {x y : Operand} {T T' : TypeId} {a b : UInt32} (hx : opE l x = some (.rd u32R a)) (hy : opE l y = some (.rd u32R b)) : Run C P Γ l res ⟨some d, .binOp .andNot T x y T', ty, pos, after, g⟩ (.rd u32R (a &&& ~~~ b)) := bitsL (γ := Unit) hx hy rfl (bits_andNot_u32 a b)
def shl32 (a : UInt32) (n : Nat) : UInt32 := UInt32.ofNat (a.toNat * 2 ^ (min n 32))
def shr32 (a : UInt32) (n : Nat) : UInt32 := UInt32.ofNat (a.toNat / 2 ^ (min n 32))
theorem W.shl {β : Type} {k' : IntKind} {f2 : β → Int} {x y : Operand} {T T' : TypeId} {a : UInt32} {b : β} (hx : opE l x = some (.rd u32R a)) (hy : opE l y = some (.rd (numR k' f2) b)) (h0 : 0 ≤ f2 b) : Run C P Γ l res ⟨some d, .binOp .shl T x y T', ty, pos, after, g⟩ (.rd u32R (shl32 a (f2 b).toNat)) := shlL hx hy h0 (by
  unfold shl32; simp only [IntKind.wrap, IntKind.signed, IntKind.bits]; simp)
theorem W.shr {β : Type} {k' : IntKind} {f2 : β → Int} {x y : Operand} {T T' : TypeId} {a : UInt32} {b : β} (hx : opE l x = some (.rd u32R a)) (hy : opE l y = some (.rd (numR k' f2) b)) (h0 : 0 ≤ f2 b) : Run C P Γ l res ⟨some d, .binOp .shr T x y T', ty, pos, after, g⟩ (.rd u32R (shr32 a (f2 b).toNat)) := shrL hx hy h0 (by
  unfold shr32; simp only [IntKind.bits]
  have h1 := UInt32.toNat_lt a
  have h2 : a.toNat / 2 ^ (min (f2 b).toNat 32) ≤ a.toNat := Nat.div_le_self _ _
  have h3 : ∀ q : Nat, q ≤ a.toNat → (UInt32.ofNat q).toNat = q := fun q hq => by simp; omega
  rw [h3 _ h2, Int.fdiv_eq_ediv_of_nonneg _ (Int.le_of_lt (Int.pow_pos (by decide)))]; simp)
theorem W.neg {x : Operand} {T : TypeId} {a : UInt32} (hx : opE l x = some (.rd u32R a)) : Run C P Γ l res ⟨some d, .unOp .neg T x, ty, pos, after, g⟩ (.rd u32R (-a)) := negL hx (by
  have h1 := UInt32.toNat_lt a
  simp only [IntKind.wrap, IntKind.signed, IntKind.bits]; rw [UInt32.toNat_neg]; simp only [UInt32.size]; simp; omega)
theorem W.cpl {x : Operand} {T : TypeId} {a : UInt32} (hx : opE l x = some (.rd u32R a)) : Run C P Γ l res ⟨some d, .unOp .xor T x, ty, pos, after, g⟩ (.rd u32R (~~~a)) := cplL hx (bits_cpl_u32 a)
theorem W.toI {x : Operand} {S T : TypeId} {ds : TypeDesc} {a : UInt32} (hx : opE l x = some (.rd u32R a)) (hS : P.underlying S = some ds) (hT : P.underlying T = some (.int .i64)) : Run C P Γ l res ⟨some d, .convert S T x, ty, pos, after, g⟩ (.rd i64R ((a.toNat : Int))) := convL hS hT hx (wrap_i64' (by omega) (by have := UInt32.toNat_lt a; omega))
theorem I.toW {x : Operand} {S T : TypeId} {ds : TypeDesc} {a : Int} (hx : opE l x = some (.rd i64R a)) (hS : P.underlying S = some ds) (hT : P.underlying T = some (.int .u32)) : Run C P Γ l res ⟨some d, .convert S T x, ty, pos, after, g⟩ (.rd u32R (UInt32.ofInt a)) := convL hS hT hx (conv_u32 a)
theorem W.toB {x : Operand} {S T : TypeId} {ds : TypeDesc} {a : UInt32} (hx : opE l x = some (.rd u32R a)) (hS : P.underlying S = some ds) (hT : P.underlying T = some (.int .u8)) : Run C P Γ l res ⟨some d, .convert S T x, ty, pos, after, g⟩ (.rd u8R (a.toUInt8)) := convL hS hT hx (by simp only [IntKind.wrap, IntKind.signed, IntKind.bits]; simp)
theorem W.toW {x : Operand} {S T : TypeId} {ds : TypeDesc} {a : UInt32} (hx : opE l x = some (.rd u32R a)) (hS : P.underlying S = some ds) (hT : P.underlying T = some (.int .u32)) : Run C P Γ l res ⟨some d, .convert S T x, ty, pos, after, g⟩ (.rd u32R (a)) := convL hS hT hx (by have := UInt32.toNat_lt a; simp only [IntKind.wrap, IntKind.signed, IntKind.bits]; simp; omega)
theorem W.toU {x : Operand} {S T : TypeId} {ds : TypeDesc} {a : UInt32} (hx : opE l x = some (.rd u32R a)) (hS : P.underlying S = some ds) (hT : P.underlying T = some (.int .u64)) : Run C P Γ l res ⟨some d, .convert S T x, ty, pos, after, g⟩ (.rd u64R (a.toUInt64)) := convL hS hT hx (by have := UInt32.toNat_lt a; simp only [IntKind.wrap, IntKind.signed, IntKind.bits]; simp; omega)
theorem ofInt64 (x : Int) : IntKind.u64.wrap x = ((UInt64.ofNat (x % 18446744073709551616).toNat).toNat : Int) := by
  simp only [IntKind.wrap, IntKind.signed, IntKind.bits]; simp; omega
theorem U.add {x y : Operand} {T T' : TypeId} {a b : UInt64} (hx : opE l x = some (.rd u64R a)) (hy : opE l y = some (.rd u64R b)) : Run C P Γ l res ⟨some d, .binOp .add T x y T', ty, pos, after, g⟩ (.rd u64R (a + b)) := arithL hx hy (by simp only [arith, Option.some.injEq, Value.int.injEq, true_and, IntKind.wrap, IntKind.signed, IntKind.bits]; simp)
theorem U.sub {x y : Operand} {T T' : TypeId} {a b : UInt64} (hx : opE l x = some (.rd u64R a)) (hy : opE l y = some (.rd u64R b)) : Run C P Γ l res ⟨some d, .binOp .sub T x y T', ty, pos, after, g⟩ (.rd u64R (a - b)) := arithL hx hy (by simp only [arith, Option.some.injEq, Value.int.injEq, true_and, IntKind.wrap, IntKind.signed, IntKind.bits]; have h1 := UInt64.toNat_lt a; have h2 := UInt64.toNat_lt b; rw [UInt64.toNat_sub]; simp; omega)
theorem U.mul {x y : Operand} {T T' : TypeId} {a b : UInt64} (hx : opE l x = some (.rd u64R a)) (hy : opE l y = some (.rd u64R b)) : Run C P Γ l res ⟨some d, .binOp .mul T x y T', ty, pos, after, g⟩ (.rd u64R (a * b)) := arithL hx hy (by simp only [arith, Option.some.injEq, Value.int.injEq, true_and, IntKind.wrap, IntKind.signed, IntKind.bits]; simp)
theorem U.lss {x y : Operand} {T T' : TypeId} {a b : UInt64} (hx : opE l x = some (.rd u64R a)) (hy : opE l y = some (.rd u64R b)) : Run C P Γ l res ⟨some d, .binOp .lss T x y T', ty, pos, after, g⟩ (.rd boolR (decide (a < b))) := cmpL hx hy (by simp only [arith, Option.some.injEq, Value.bool.injEq, decide_eq_decide]; simp [UInt64.lt_iff_toNat_lt, UInt64.le_iff_toNat_le])
theorem U.leq {x y : Operand} {T T' : TypeId} {a b : UInt64} (hx : opE l x = some (.rd u64R a)) (hy : opE l y = some (.rd u64R b)) : Run C P Γ l res ⟨some d, .binOp .leq T x y T', ty, pos, after, g⟩ (.rd boolR (decide (a ≤ b))) := cmpL hx hy (by simp only [arith, Option.some.injEq, Value.bool.injEq, decide_eq_decide]; simp [UInt64.lt_iff_toNat_lt, UInt64.le_iff_toNat_le])
theorem U.gtr {x y : Operand} {T T' : TypeId} {a b : UInt64} (hx : opE l x = some (.rd u64R a)) (hy : opE l y = some (.rd u64R b)) : Run C P Γ l res ⟨some d, .binOp .gtr T x y T', ty, pos, after, g⟩ (.rd boolR (decide (b < a))) := cmpL hx hy (by simp only [arith, Option.some.injEq, Value.bool.injEq, decide_eq_decide]; simp [UInt64.lt_iff_toNat_lt, UInt64.le_iff_toNat_le])
theorem U.geq {x y : Operand} {T T' : TypeId} {a b : UInt64} (hx : opE l x = some (.rd u64R a)) (hy : opE l y = some (.rd u64R b)) : Run C P Γ l res ⟨some d, .binOp .geq T x y T', ty, pos, after, g⟩ (.rd boolR (decide (b ≤ a))) := cmpL hx hy (by simp only [arith, Option.some.injEq, Value.bool.injEq, decide_eq_decide]; simp [UInt64.lt_iff_toNat_lt, UInt64.le_iff_toNat_le])
theorem U.eql {x y : Operand} {T T' : TypeId} {a b : UInt64} (hx : opE l x = some (.rd u64R a)) (hy : opE l y = some (.rd u64R b)) : Run C P Γ l res ⟨some d, .binOp .eql T x y T', ty, pos, after, g⟩ (.rd boolR (a == b)) := cmpL hx hy (by simp only [arith, eqn_u64])
theorem U.neq {x y : Operand} {T T' : TypeId} {a b : UInt64} (hx : opE l x = some (.rd u64R a)) (hy : opE l y = some (.rd u64R b)) : Run C P Γ l res ⟨some d, .binOp .neq T x y T', ty, pos, after, g⟩ (.rd boolR (a != b)) := cmpL hx hy (by simp only [arith, bne, eqn_u64])
theorem U.quo {x y : Operand} {T T' : TypeId} {a b : UInt64} (hx : opE l x = some (.rd u64R a)) (hy : opE l y = some (.rd u64R b)) (h0 : b ≠ 0) : Run C P Γ l res ⟨some d, .binOp .quo T x y T', ty, pos, after, g⟩ (.rd u64R (a / b)) := quoL hx hy (fun e => h0 (by rw [← UInt64.toNat_inj]; simpa using e)) (by
  have h1 := UInt64.toNat_lt a
  have h2 : a.toNat / b.toNat ≤ a.toNat := Nat.div_le_self _ _
  rw [UInt64.toNat_div, Int.tdiv_eq_ediv_of_nonneg (by omega)]
  simp only [IntKind.wrap, IntKind.signed, IntKind.bits]
  simp only [Bool.false_and, Bool.false_eq_true, if_false]
  rw [← Int.natCast_ediv]; generalize a.toNat / b.toNat = q at *; omega)
theorem U.rem {x y : Operand} {T T' : TypeId} {a b : UInt64} (hx : opE l x = some (.rd u64R a)) (hy : opE l y = some (.rd u64R b)) (h0 : b ≠ 0) : Run C P Γ l res ⟨some d, .binOp .rem T x y T', ty, pos, after, g⟩ (.rd u64R (a % b)) := remL hx hy (fun e => h0 (by rw [← UInt64.toNat_inj]; simpa using e)) (by
  rw [UInt64.toNat_mod, Int.tmod_eq_emod_of_nonneg (by omega)]; omega)
theorem U.and {x y : Operand} {T T' : TypeId} {a b : UInt64} (hx : opE l x = some (.rd u64R a)) (hy : opE l y = some (.rd u64R b)) : Run C P Γ l res ⟨some d, .binOp .and T x y T', ty, pos, after, g⟩ (.rd u64R (a &&& b)) := bitsL (γ := Unit) hx hy rfl (bits_and_u64 a b)
theorem U.or {x y : Operand} {T T' : TypeId} {a b : UInt64} (hx : opE l x = some (.rd u64R a)) (hy : opE l y = some (.rd u64R b)) : Run C P Γ l res ⟨some d, .binOp .or T x y T', ty, pos, after, g⟩ (.rd u64R (a ||| b)) := bitsL (γ := Unit) hx hy rfl (bits_or_u64 a b)
theorem U.xor {x y : Operand} {T T' : TypeId} {a b : UInt64} (hx : opE l x = some (.rd u64R a)) (hy : opE l y = some (.rd u64R b)) : Run C P Γ l res ⟨some d, .binOp .xor T x y T', ty, pos, after, g⟩ (.rd u64R (a ^^^ b)) := bitsL (γ := Unit) hx hy rfl (bits_xor_u64 a b)
theorem U.andNot {x y : Operand} {T T' : TypeId} {a b : UInt64} (hx : opE l x = some (.rd u64R a)) (hy : opE l y = some (.rd u64R b)) : Run C P Γ l res ⟨some d, .binOp .andNot T x y T', ty, pos, after, g⟩ (.rd u64R (a &&& ~~~ b)) := bitsL (γ := Unit) hx hy rfl (bits_andNot_u64 a b)
def shl64 (a : UInt64) (n : Nat) : UInt64 := UInt64.ofNat (a.toNat * 2 ^ (min n 64))
def shr64 (a : UInt64) (n : Nat) : UInt64 := UInt64.ofNat (a.toNat / 2 ^ (min n 64))
theorem U.shl {β : Type} {k' : IntKind} {f2 : β → Int} {x y : Operand} {T T' : TypeId} {a : UInt64} {b : β} (hx : opE l x = some (.rd u64R a)) (hy : opE l y = some (.rd (numR k' f2) b)) (h0 : 0 ≤ f2 b) : Run C P Γ l res ⟨some d, .binOp .shl T x y T', ty, pos, after, g⟩ (.rd u64R (shl64 a (f2 b).toNat)) := shlL hx hy h0 (by
  unfold shl64; simp only [IntKind.wrap, IntKind.signed, IntKind.bits]; simp)
theorem U.shr {β : Type} {k' : IntKind} {f2 : β → Int} {x y : Operand} {T T' : TypeId} {a : UInt64} {b : β} (hx : opE l x = some (.rd u64R a)) (hy : opE l y = some (.rd (numR k' f2) b)) (h0 : 0 ≤ f2 b) : Run C P Γ l res ⟨some d, .binOp .shr T x y T', ty, pos, after, g⟩ (.rd u64R (shr64 a (f2 b).toNat)) := shrL hx hy h0 (by
  unfold shr64; simp only [IntKind.bits]
  have h1 := UInt64.toNat_lt a
  have h2 : a.toNat / 2 ^ (min (f2 b).toNat 64) ≤ a.toNat := Nat.div_le_self _ _
  have h3 : ∀ q : Nat, q ≤ a.toNat → (UInt64.ofNat q).toNat = q := fun q hq => by simp; omega
  rw [h3 _ h2, Int.fdiv_eq_ediv_of_nonneg _ (Int.le_of_lt (Int.pow_pos (by decide)))]; simp)
theorem U.neg {x : Operand} {T : TypeId} {a : UInt64} (hx : opE l x = some (.rd u64R a)) : Run C P Γ l res ⟨some d, .unOp .neg T x, ty, pos, after, g⟩ (.rd u64R (-a)) := negL hx (by
  have h1 := UInt64.toNat_lt a
  simp only [IntKind.wrap, IntKind.signed, IntKind.bits]; rw [UInt64.toNat_neg]; simp only [UInt64.size]; simp; omega)
theorem U.cpl {x : Operand} {T : TypeId} {a : UInt64} (hx : opE l x = some (.rd u64R a)) : Run C P Γ l res ⟨some d, .unOp .xor T x, ty, pos, after, g⟩ (.rd u64R (~~~a)) := cplL hx (bits_cpl_u64 a)
theorem U.toI {x : Operand} {S T : TypeId} {ds : TypeDesc} {a : UInt64} (hx : opE l x = some (.rd u64R a)) (hS : P.underlying S = some ds) (hT : P.underlying T = some (.int .i64)) : Run C P Γ l res ⟨some d, .convert S T x, ty, pos, after, g⟩ (.rd i64R (w64 (a.toNat : Int))) := convL hS hT hx rfl
theorem I.toU {x : Operand} {S T : TypeId} {ds : TypeDesc} {a : Int} (hx : opE l x = some (.rd i64R a)) (hS : P.underlying S = some ds) (hT : P.underlying T = some (.int .u64)) : Run C P Γ l res ⟨some d, .convert S T x, ty, pos, after, g⟩ (.rd u64R (UInt64.ofInt a)) := convL hS hT hx (conv_u64 a)
theorem U.toB {x : Operand} {S T : TypeId} {ds : TypeDesc} {a : UInt64} (hx : opE l x = some (.rd u64R a)) (hS : P.underlying S = some ds) (hT : P.underlying T = some (.int .u8)) : Run C P Γ l res ⟨some d, .convert S T x, ty, pos, after, g⟩ (.rd u8R (a.toUInt8)) := convL hS hT hx (by simp only [IntKind.wrap, IntKind.signed, IntKind.bits]; simp)
theorem U.toW {x : Operand} {S T : TypeId} {ds : TypeDesc} {a : UInt64} (hx : opE l x = some (.rd u64R a)) (hS : P.underlying S = some ds) (hT : P.underlying T = some (.int .u32)) : Run C P Γ l res ⟨some d, .convert S T x, ty, pos, after, g⟩ (.rd u32R (a.toUInt32)) := convL hS hT hx (by simp only [IntKind.wrap, IntKind.signed, IntKind.bits]; simp)
theorem U.toU {x : Operand} {S T : TypeId} {ds : TypeDesc} {a : UInt64} (hx : opE l x = some (.rd u64R a)) (hS : P.underlying S = some ds) (hT : P.underlying T = some (.int .u64)) : Run C P Γ l res ⟨some d, .convert S T x, ty, pos, after, g⟩ (.rd u64R (a)) := convL hS hT hx (by have := UInt64.toNat_lt a; simp only [IntKind.wrap, IntKind.signed, IntKind.bits]; simp; omega)
theorem I.toI {x : Operand} {S T : TypeId} {ds : TypeDesc} {a : Int} (hx : opE l x = some (.rd i64R a)) (hS : P.underlying S = some ds) (hT : P.underlying T = some (.int .i64)) : Run C P Γ l res ⟨some d, .convert S T x, ty, pos, after, g⟩ (.rd i64R (w64 a)) := convL hS hT hx rfl
end
end Go.Proofs.Ytklfgpdfongaeaa
