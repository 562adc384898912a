/- Slices that read as a list of things, each of a fixed number of cells. Over any program P. -/
import Derived.Test.YtklfgpdfongaeaaLibD
namespace Go.Proofs.Ytklfgpdfongaeaa
open Go Go.RowKit
set_option linter.unusedSimpArgs false
set_option linter.unusedVariables false

/-- How things lie in cells. -/
structure Enc (α : Type) where
  sz : Nat
  pos : 0 < sz
  of : α → List Value
  len : ∀ x, (of x).length = sz
  one : ∀ x, ∀ u ∈ of x, u.oneCell' = true
def Enc.cells {α} (E : Enc α) (l : List α) : List Value := l.flatMap E.of
theorem Enc.cells_len {α} (E : Enc α) (l : List α) : (E.cells l).length = l.length * E.sz := by
  induction l with
  | nil => simp [Enc.cells]
  | cons x l ih => simp only [Enc.cells, List.flatMap_cons, List.length_append, List.length_cons, E.len] at *; rw [ih, Nat.add_mul]; omega
theorem Enc.cells_append {α} (E : Enc α) (l m : List α) : E.cells (l ++ m) = E.cells l ++ E.cells m := by simp [Enc.cells]
theorem Enc.cells_one {α} (E : Enc α) (l : List α) : ∀ u ∈ E.cells l, u.oneCell' = true := by
  intro u hu
  simp only [Enc.cells, List.mem_flatMap] at hu
  obtain ⟨x, _, hu⟩ := hu
  exact E.one x u hu
theorem Enc.cells_get {α} (E : Enc α) : ∀ (l : List α) (i j : Nat) (x : α), l[i]? = some x → j < E.sz → (E.cells l)[i * E.sz + j]? = (E.of x)[j]?
  | [], i, j, x, h, _ => by simp at h
  | y :: l, 0, j, x, h, hj => by
    simp only [List.getElem?_cons_zero, Option.some.injEq] at h
    subst h
    simp only [Enc.cells, List.flatMap_cons, Nat.zero_mul, Nat.zero_add]
    rw [List.getElem?_append_left (by rw [E.len]; exact hj)]
  | y :: l, i + 1, j, x, h, hj => by
    simp only [List.getElem?_cons_succ] at h
    have ih := Enc.cells_get E l i j x h hj
    simp only [Enc.cells, List.flatMap_cons] at ih ⊢
    rw [List.getElem?_append_right (by rw [E.len, Nat.add_mul]; omega), E.len, ← ih]
    congr 1
    rw [Nat.add_mul]; omega
theorem Enc.cells_drop {α} (E : Enc α) : ∀ (l : List α) (i : Nat), (E.cells l).drop (i * E.sz) = E.cells (l.drop i)
  | [], i => by simp [Enc.cells]
  | x :: l, 0 => by simp
  | x :: l, i + 1 => by
    have ih := Enc.cells_drop E l i
    simp only [Enc.cells, List.flatMap_cons, List.drop_succ_cons] at ih ⊢
    rw [← ih, Nat.add_mul, Nat.one_mul, Nat.add_comm, ← List.drop_drop]
    congr 1
    have := E.len x
    rw [← this, List.drop_left]
theorem Enc.cells_take {α} (E : Enc α) : ∀ (l : List α) (i : Nat), (E.cells l).take (i * E.sz) = E.cells (l.take i)
  | [], i => by simp [Enc.cells]
  | x :: l, 0 => by simp [Enc.cells]
  | x :: l, i + 1 => by
    have ih := Enc.cells_take E l i
    have h := E.len x
    simp only [Enc.cells, List.flatMap_cons, List.take_succ_cons] at ih ⊢
    rw [← ih, Nat.add_mul, Nat.one_mul, List.take_append, h, List.take_of_length_le (by rw [h]; omega)]
    congr 2
    omega
theorem Enc.cells_set {α} (E : Enc α) (l : List α) (i : Nat) (x : α) (hi : i < l.length) :
    (E.cells l).take (i * E.sz) ++ E.of x ++ (E.cells l).drop (i * E.sz + E.sz) = E.cells (l.set i x) := by
  rw [E.cells_take, show i * E.sz + E.sz = (i + 1) * E.sz from by rw [Nat.add_mul, Nat.one_mul], E.cells_drop, List.set_eq_take_append_cons_drop, if_pos hi]
  simp [Enc.cells]

def encB (b : UInt8) : Value := .int .u8 (b.toNat : Int)
def bytesE : Enc UInt8 := ⟨1, by decide, fun b => [encB b], fun _ => rfl, fun x u hu => by simp at hu; subst hu; rfl⟩
def encI (n : Int) : Value := .int .i64 n
def intsE : Enc Int := ⟨1, by decide, fun b => [encI b], fun _ => rfl, fun x u hu => by simp at hu; subst hu; rfl⟩
/-- An id: 32 bytes. -/
structure ID32 where
  bytes : List UInt8
  len : bytes.length = 32
theorem ID32.ext' {a b : ID32} (h : a.bytes = b.bytes) : a = b := by cases a; cases b; simp at h; subst h; rfl
instance : DecidableEq ID32 := fun a b => decidable_of_iff (a.bytes = b.bytes) ⟨ID32.ext', fun h => by rw [h]⟩
def ID32.zero : ID32 := ⟨List.replicate 32 0, by simp⟩
theorem getD_some {α} {l : List α} {i : Nat} {d : α} (h : i < l.length) : l[i]? = some (l.getD i d) := by simp [List.getD, h]
def ID32.cells (x : ID32) : List Value := x.bytes.map encB
def idsE : Enc ID32 := ⟨32, by decide, ID32.cells, fun x => by simp [ID32.cells, x.len], fun x u hu => by
  simp only [ID32.cells, List.mem_map] at hu; obtain ⟨b, _, rfl⟩ := hu; rfl⟩
theorem byte_lt (b : UInt8) : b.toNat < 256 := UInt8.toNat_lt b
theorem wrap_u8_ofNat (x : Nat) : IntKind.u8.wrap (x : Int) = ((UInt8.ofNat x).toNat : Int) := by
  simp only [IntKind.wrap, IntKind.signed, IntKind.bits]; simp

/-- A slice that reads as the list l. -/
def RdL {α} (E : Enc α) (w : World) (p : Option Addr) (c : Nat) (l : List α) : Prop := Rd w (.slice p l.length c) l.length E.sz (E.cells l)
/-- A slice of the call's own that holds the list l. -/
def OwL {α} (E : Enc α) (w : World) (B T : Nat) (p : Option Addr) (c : Nat) (l : List α) : Prop := w.ownsRow B T E.sz (.slice p l.length c) l.length (E.cells l)
theorem OwL.rd {α} {E : Enc α} {w B T p c l} (h : OwL E w B T p c l) : RdL E w p c l := Rd.of_own h
theorem RdL.ext {α} {E : Enc α} {w w' p c l} (h : RdL E w p c l) (e : Ext w w') : RdL E w' p c l := Rd.ext h e
theorem RdL.gr {α} {E : Enc α} {w w' p c l} {r : Option Nat} (h : RdL E w p c l) (e : w.grownBy w' r) (hr : ∀ b, r = some b → (Value.slice p l.length c).ownBlock ≠ some b) : RdL E w' p c l := Rd.gr h e hr
theorem OwL.ext {α} {E : Enc α} {w w' B T p c l} (h : OwL E w B T p c l) (e : Ext w w') : OwL E w' B T p c l := own_ext h e
theorem OwL.gr {α} {E : Enc α} {w w' B T p c l} {r : Option Nat} (h : OwL E w B T p c l) (e : w.grownBy w' r) (hr : ∀ b, r = some b → (Value.slice p l.length c).ownBlock ≠ some b) : OwL E w' B T p c l := own_gr h e hr
theorem OwL.mono {α} {E : Enc α} {w B B' T p c l} (h : OwL E w B T p c l) (hB : B' ≤ B) : OwL E w B' T p c l := own_mono h hB
theorem OwL.nil {α} {E : Enc α} {w B T} : OwL E w B T none 0 [] := by
  have := World.ownsRow_nil w B T E.sz
  simpa [OwL, Enc.cells] using this
theorem RdL.nil {α} {E : Enc α} {w} : RdL E w none 0 [] := (OwL.nil (B := 0) (T := 0)).rd
theorem RdL.le {α} {E : Enc α} {w p c l} (h : RdL E w p c l) : l.length ≤ 9223372036854775807 := Rd.le h
theorem RdL.of_none {α} {E : Enc α} {w c l} (h : RdL E w none c l) : l = [] := by
  rcases h.2 with ⟨_, h0⟩ | ⟨b, o, sp, cap, hv, _⟩
  · exact List.eq_nil_of_length_eq_zero h0
  · cases hv
/-- The slice's block. -/
def sblk (p : Option Addr) : Option Nat := p.map (·.block)
theorem sblk_own (p : Option Addr) (n c : Nat) : (Value.slice p n c).ownBlock = sblk p := by cases p <;> rfl
theorem RdL.gr' {α} {E : Enc α} {w w' p c l} {r : Option Nat} (h : RdL E w p c l) (e : w.grownBy w' r) (hr : ∀ b, r = some b → sblk p ≠ some b) : RdL E w' p c l := Rd.gr h e (fun b hb => by rw [sblk_own]; exact hr b hb)
theorem OwL.gr' {α} {E : Enc α} {w w' B T p c l} {r : Option Nat} (h : OwL E w B T p c l) (e : w.grownBy w' r) (hr : ∀ b, r = some b → sblk p ≠ some b) : OwL E w' B T p c l := own_gr h e (fun b hb => by rw [sblk_own]; exact hr b hb)
theorem OwL.lt {α} {E : Enc α} {w B T p c l} (h : OwL E w B T p c l) {b : Nat} (hb : sblk p = some b) : B ≤ b ∧ b < w.heap.size := World.ownsRow.lt h b (by rw [sblk_own]; exact hb)
theorem OwL.sep {α} {E : Enc α} {w B T p c l} (h : OwL E w B T p c l) {b : Nat} (hb : b < B ∨ w.heap.size ≤ b) : sblk p ≠ some b := fun e => by have := h.lt e; omega
theorem Bx.gr' {w w' b C T} {r : Option Nat} (h : Bx w b C T) (e : w.grownBy w' r) (hr : r ≠ some b) : Bx w' b C T := h.gr e hr

section
variable {P : Program} {ops : Array Oper} {Q : Exit → Act → World → Prop} {a : Act} {w : World} {rest : List Oper} {n : Nat} {fl : List (Nat × Value)}
  {d : Tmp} {ty : TypeId} {pos : String} {after : Array Edge} {g : Option (Nat × Bool)} {α : Type} {E : Enc α}

/-- The address of an element. -/
theorem t_indexAddr {T e : TypeId} {x y : Operand} {l : List α} {p : Option Addr} {cp sz by_ : Nat} {k : IntKind} {i : Int} {z : Value} {j : Nat} (f : Frm n fl a)
    (hw : Region.wanted ⟨some d, .indexAddr T x y, ty, pos, after, g⟩ (yielded ops a.tmps) = true) (hd : Nat.blt d n = true)
    (hT : P.underlying T = some (.slice e)) (hE : TI P e z sz by_) (hx : opv fl x = some (.slice p l.length cp)) (hr : RdL E w p cp l) (hsz : E.sz = sz) (hy : opv fl y = some (.int k i)) (hij : i = (j : Int)) (hj : j < l.length)
    (c : ∀ a', Frm n ((d, .pointer (some (elemPtr (.slice p l.length cp) (j * sz)))) :: fl) a' → wpList P ops Q rest a' w) : wpList P ops Q (⟨some d, .indexAddr T x y, ty, pos, after, g⟩ :: rest) a w := by
  subst hsz
  exact s_indexAddr f hw hd hT hE E.pos hx hr hy hij hj c
/-- An element of one cell is read. -/
theorem t_load {t : TypeId} {x : Operand} {l : List α} {p : Option Addr} {cp sz : Nat} {j : Nat} {e : α} {v : Value} (f : Frm n fl a)
    (hw : Region.wanted ⟨some d, .load t x, ty, pos, after, g⟩ (yielded ops a.tmps) = true) (hd : Nat.blt d n = true) (hT : Sc P t)
    (hx : opv fl x = some (.pointer (some (elemPtr (.slice p l.length cp) (j * sz))))) (hr : RdL E w p cp l) (hsz : E.sz = sz) (he : l[j]? = some e) (hv : E.of e = [v])
    (c : ∀ a', Frm n ((d, v) :: fl) a' → wpList P ops Q rest a' w) : wpList P ops Q (⟨some d, .load t x, ty, pos, after, g⟩ :: rest) a w := by
  subst hsz
  refine s_load f hw hd hT hx (Rd.cell hr ?_) c
  have := E.cells_get l j 0 e he (by have := E.len e; rw [hv] at this; simp at this; omega)
  rw [Nat.add_zero] at this
  rw [this, hv]; rfl
/-- An element of several cells is read. -/
theorem t_loadA {t : TypeId} {x : Operand} {l : List α} {p : Option Addr} {cp sz sz' by_ : Nat} {j : Nat} {e : α} {z : Value} (f : Frm n fl a)
    (hw : Region.wanted ⟨some d, .load t x, ty, pos, after, g⟩ (yielded ops a.tmps) = true) (hd : Nat.blt d n = true) (hT : Ag P t) (hS : TI P t z sz' by_)
    (hx : opv fl x = some (.pointer (some (elemPtr (.slice p l.length cp) (j * sz))))) (hr : RdL E w p cp l) (hsz : E.sz = sz) (hsz' : sz = sz') (he : l[j]? = some e)
    (c : ∀ a', Frm n ((d, .agg (E.of e).toArray) :: fl) a' → wpList P ops Q rest a' w) : wpList P ops Q (⟨some d, .load t x, ty, pos, after, g⟩ :: rest) a w := by
  subst hsz
  refine s_loadA f hw hd hT hS hx (by rw [E.len, hsz']) (fun i u hu => Rd.cellA hr ?_) c
  have hi : i < E.sz := by rw [← E.len e]; exact (List.getElem?_eq_some_iff.1 hu).1
  rw [E.cells_get l j i e he hi]; exact hu
/-- A store into an element of a slice of the call's own. -/
theorem t_store {t : TypeId} {x y : Operand} {l l' : List α} {p : Option Addr} {cp sz by_ : Nat} {B T : Nat} {j : Nat} {e : α} {v z : Value} (f : Frm n fl a)
    (hw : Region.wanted ⟨none, .store t x y, ty, pos, after, g⟩ (yielded ops a.tmps) = true) (hS : TI P t z sz by_)
    (hx : opv fl x = some (.pointer (some (elemPtr (.slice p l.length cp) (j * sz))))) (hy : opv fl y = some v) (hv : v.cells.toList = E.of e) (ho : OwL E w B T p cp l) (hsz : E.sz = sz) (hj : j < l.length) (hl : l.set j e = l')
    (c : ∀ w', w.grownBy w' (sblk p) → OwL E w' B T p cp l' → l'.length = l.length → wpList P ops Q rest a w') : wpList P ops Q (⟨none, .store t x y, ty, pos, after, g⟩ :: rest) a w := by
  subst hsz; subst hl
  have hvs : v.cells.size = E.sz := by rw [← E.len e, ← hv]; simp
  have hfit : (j + 1) * E.sz ≤ l.length * E.sz := Nat.mul_le_mul_right _ hj
  rw [Nat.add_mul, Nat.one_mul] at hfit
  refine s_storeE (xs' := E.cells (l.set j e)) f hw hS hx hy hvs (by rw [hv]; exact E.one e) ho hfit E.pos (by rw [hv]; exact E.cells_set l j e hj) (fun w' h1 h2 => c w' (by rw [sblk_own] at h1; exact h1) ?_ (by simp))
  unfold OwL; rw [List.length_set]; exact h2
theorem t_append {T e : TypeId} {x y : Operand} {z : Value} {by_ B : Nat} {p q : Option Addr} {cp c2 : Nat} {l m lm : List α} (f : Frm n fl a)
    (hw : Region.wanted ⟨some d, .call ⟨.builtin .append, #[x, y], #[T, T]⟩, ty, pos, after, g⟩ (yielded ops a.tmps) = true) (hd : Nat.blt d n = true)
    (hT : P.underlying T = some (.slice e)) (hE : TI P e z E.sz by_) (hz : z.cells.size = E.sz)
    (hx : opv fl x = some (.slice p l.length cp)) (hy : opv fl y = some (.slice q m.length c2))
    (ho : OwL E w B e p cp l) (hr : RdL E w q c2 m)
    (hlen : l.length + m.length ≤ 9223372036854775807) (hby : (l.length + m.length) * by_ ≤ 140737488355328) (hB : B ≤ w.heap.size) (hlm : l ++ m = lm)
    (c : ∀ a' w' p' c', Frm n ((d, .slice p' lm.length c') :: fl) a' → OwL E w' B e p' c' lm →
      w.grownBy w' (sblk p) → (∀ b, sblk p' = some b → sblk p = some b ∨ w.heap.size ≤ b) → wpList P ops Q rest a' w') :
    wpList P ops Q (⟨some d, .call ⟨.builtin .append, #[x, y], #[T, T]⟩, ty, pos, after, g⟩ :: rest) a w := by
  subst hlm
  refine s_append f hw hd hT hE hz E.pos hx hy ho hr (E.cells_one m) hlen hby hB (fun a' w' p' c' f' h1 h2 h3 => c a' w' p' c' (by simpa using f') ?_ (by rw [sblk_own] at h2; exact h2) (fun b hb => ?_))
  · unfold OwL; rw [E.cells_append, List.length_append]; exact h1
  · have := h3 b (by rw [sblk_own]; exact hb)
    rwa [sblk_own] at this
theorem t_make {T e : TypeId} {x y : Operand} {z : Value} {by_ m B : Nat} {k k' : IntKind} {i i' : Int} {l : List α} (f : Frm n fl a)
    (hw : Region.wanted ⟨some d, .makeSlice T x y, ty, pos, after, g⟩ (yielded ops a.tmps) = true) (hd : Nat.blt d n = true)
    (hT : P.underlying T = some (.slice e)) (hE : TI P e z E.sz by_) (hx : opv fl x = some (.int k i)) (hy : opv fl y = some (.int k' i')) (hi : i = (m : Int)) (hi' : i' = (m : Int))
    (hby : by_ * m ≤ 281474976710656) (hm : m ≤ 9223372036854775807) (hB : B ≤ w.heap.size) (hl : l.length = m) (hz : (madeCells z.cells (m * E.sz)).toList = E.cells l)
    (c : ∀ a' w' p cp, Frm n ((d, .slice p l.length cp) :: fl) a' → Ext w w' → OwL E w' B e p cp l → (∀ b, sblk p = some b → w.heap.size ≤ b) → wpList P ops Q rest a' w') :
    wpList P ops Q (⟨some d, .makeSlice T x y, ty, pos, after, g⟩ :: rest) a w := by
  subst hl
  refine s_make f hw hd hT hE hx hy hi hi' hby hm hB (fun a' w' p cp f' h1 h2 h3 => c a' w' p cp f' h1 ?_ (fun b hb => h3 b (by rw [sblk_own]; exact hb)))
  rw [hz] at h2; exact h2
theorem t_lit {T e : TypeId} {m : Nat} {parts : Array (Nat × Operand)} {vs : Array (Nat × Value)} {z : Value} {sz by_ B : Nat} {cells : Array Value} {l : List α} (f : Frm n fl a)
    (hw : Region.wanted ⟨some d, .buildSlice T m parts, ty, pos, after, g⟩ (yielded ops a.tmps) = true) (hd : Nat.blt d n = true)
    (hT : P.underlying T = some (.slice e)) (hE : TI P e z sz by_) (hsz : E.sz = sz) (hp : (parts.map fun (i, x) => (i, a.eval x)) = vs) (hm : m * sz ≤ 16777216)
    (hc : Instr.fill (fun i => some (i * sz, sz)) (zeroRow z (m * sz)) vs.toList = some cells) (hl : l.length = m) (hcs : cells.toList = E.cells l) (hB : B ≤ w.heap.size)
    (c : ∀ a' w' p cp, Frm n ((d, .slice p l.length cp) :: fl) a' → Ext w w' → OwL E w' B e p cp l → (∀ b, sblk p = some b → w.heap.size ≤ b) → wpList P ops Q rest a' w') :
    wpList P ops Q (⟨some d, .buildSlice T m parts, ty, pos, after, g⟩ :: rest) a w := by
  subst hl; subst hsz
  refine s_bslice f hw hd hT hE hp hm hc (by rw [← Array.length_toList, hcs, E.cells_len]) hB E.pos (fun a' w' p cp f' h1 h2 h3 => c a' w' p cp f' h1 ?_ (fun b hb => h3 b (by rw [sblk_own]; exact hb)))
  rw [hcs] at h2; exact h2
/-- x[i:j] -/
theorem t_cut {T e : TypeId} {x : Operand} {lo hi : Option Operand} {z : Value} {by_ i j cp : Nat} {p : Option Addr} {l l' : List α} (f : Frm n fl a)
    (hw : Region.wanted ⟨some d, .slice T x lo hi none, ty, pos, after, g⟩ (yielded ops a.tmps) = true) (hd : Nat.blt d n = true)
    (hT : P.underlying T = some (.slice e)) (hE : TI P e z E.sz by_) (hx : opv fl x = some (.slice p l.length cp)) (hr : RdL E w p cp l)
    (hlo : (lo = none ∧ i = 0) ∨ ∃ y k, lo = some y ∧ opv fl y = some (.int k (i : Int))) (hhi : (hi = none ∧ j = l.length) ∨ ∃ y k, hi = some y ∧ opv fl y = some (.int k (j : Int)))
    (hij : i ≤ j) (hj : j ≤ l.length) (hl : (l.drop i).take (j - i) = l')
    (c : ∀ a' p' c', Frm n ((d, .slice p' l'.length c') :: fl) a' → (∀ W, RdL E W p cp l → RdL E W p' c' l') → sblk p' = sblk p → wpList P ops Q rest a' w) :
    wpList P ops Q (⟨some d, .slice T x lo hi none, ty, pos, after, g⟩ :: rest) a w := by
  subst hl
  have hlen : ((l.drop i).take (j - i)).length = j - i := by simp; omega
  have hcap : l.length ≤ cp := by
    rcases hr.2 with ⟨hv, h0⟩ | ⟨b, o, sp, cap, hv, h2, h3, hsp, h4⟩
    · omega
    · simp only [Value.slice.injEq, true_and] at hv; omega
  have hb : (Instr.sliceBounds true l.length cp (lo.map a.eval) (hi.map a.eval) none).run P w = .ok (i, j, cp) w := by
    rcases hlo with ⟨rfl, rfl⟩ | ⟨y, k, rfl, hy⟩ <;> rcases hhi with ⟨rfl, rfl⟩ | ⟨y', k', rfl, hy'⟩
    · simp [Instr.sliceBounds]
    · have : (j : Int) ≤ cp := by omega
      simp [Instr.sliceBounds, f.ev hy', Instr.sliceBound, asIntOf]; omega
    · simp [Instr.sliceBounds, f.ev hy, Instr.sliceBound, asIntOf]; omega
    · have h1 : j ≤ cp := by omega
      simp [Instr.sliceBounds, f.ev hy, f.ev hy', Instr.sliceBound, asIntOf, h1, hij]
  refine stv (v := .slice (if cp = i then p else p.map (·.add (i * E.sz))) (j - i) (cp - i)) f hw hd ?_ (fun a' f' => c a' _ (cp - i) (by rw [hlen]; exact f') (fun W hW => ?_) ?_)
  · simp only [execOp, Instr.sliceAt, f.ev hx, Sem.run_bind, run_underlying hT, Result.andThen, Instr.slice, hb, run_sizeOf hE, Sem.run_pure, Option.map_none]
  · have := hW.sub rfl hij hj
    unfold RdL
    rw [hlen, ← E.cells_take, ← E.cells_drop]
    exact this
  · rw [← sblk_own _ (j - i) (cp - i), ← sblk_own p l.length cp]; exact sub_own
theorem t_len {x : Operand} {T : TypeId} {at_ : Array TypeId} {e : TypeId} {p : Option Addr} {cp : Nat} {l : List α} (f : Frm n fl a)
    (hw : Region.wanted ⟨some d, .call ⟨.builtin .len, #[x], at_⟩, ty, pos, after, g⟩ (yielded ops a.tmps) = true) (hd : Nat.blt d n = true)
    (hat : at_[0]? = some T) (hT : P.underlying T = some (.slice e)) (hx : opv fl x = some (.slice p l.length cp))
    (c : ∀ a', Frm n ((d, .int .i64 (l.length : Nat)) :: fl) a' → wpList P ops Q rest a' w) : wpList P ops Q (⟨some d, .call ⟨.builtin .len, #[x], at_⟩, ty, pos, after, g⟩ :: rest) a w :=
  s_lenS f hw hd hat hT hx c
end
theorem made_bytes (k : Nat) : (madeCells (Value.int .u8 0).cells (k * bytesE.sz)).toList = bytesE.cells (List.replicate k 0) := by
  show (madeCells #[Value.int .u8 0] (k * 1)).toList = _
  rw [Nat.mul_one, toList_madeCells_one]
  induction k with
  | zero => rfl
  | succ k ih => rw [List.replicate_succ, List.replicate_succ, ih]; rfl
end Go.Proofs.Ytklfgpdfongaeaa
