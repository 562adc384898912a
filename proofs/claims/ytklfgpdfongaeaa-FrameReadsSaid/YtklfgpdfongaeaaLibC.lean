/- Memory: blocks of the call's own, slices that are read, slices that the call owns; one law for each operation on memory. Over any program P. -/
import Derived.Test.YtklfgpdfongaeaaLibB
namespace Go.Proofs.Ytklfgpdfongaeaa
open Go Go.RowKit
set_option linter.unusedSimpArgs false
set_option linter.unusedVariables false

/-- What a type's row of the table says: zero value, cells, bytes. -/
def TI (P : Program) (e : TypeId) (z : Value) (sz bytes : Nat) : Prop := ∃ i, P.info? e = some i ∧ i.zero = some z ∧ i.size = sz ∧ i.bytes = bytes
theorem TI.mk' {P : Program} {e : TypeId} {z : Value} {sz bytes : Nat} (h : (P.info? e).map (fun i => (i.zero, i.size, i.bytes)) = some (some z, sz, bytes)) : TI P e z sz bytes := info_parts h
/-- A type whose values fill one cell. -/
def Sc (P : Program) (t : TypeId) : Prop := ∃ d, P.underlying t = some d ∧ (match d with | .struct _ => False | .array _ _ => False | _ => True)
/-- A struct or an array. -/
def Ag (P : Program) (t : TypeId) : Prop := ∃ d, P.underlying t = some d ∧ (match d with | .struct _ => True | .array _ _ => True | _ => False)

abbrev Ext (w w' : World) : Prop := Below w.heap.size w w'
theorem Ext.rfl' {w : World} : Ext w w := Below.refl _ _
theorem Ext.tr {w0 w w' : World} (h : Ext w0 w) (k : Ext w w') : Ext w0 w' := h.trans (k.mono h.size)
theorem Ext.al (w : World) (o : Obj) : Ext w (w.alloc o) := (Below.refl _ _).alloc (Nat.le_refl _) o
theorem Ext.gr {w0 w w' : World} {r : Option Nat} (h : Ext w0 w) (k : w.grownBy w' r) (hr : ∀ b, r = some b → w0.heap.size ≤ b) : Ext w0 w' := h.grown k h.size hr
theorem Ext.dr {w0 w : World} (h : Ext w0 w) : Ext w0 w.drew := h.drew
theorem Ext.gb {w w' : World} (h : Ext w w') : w.grownBy w' none := ⟨h.os, h.tape, h.output, h.size, fun k hk _ => h.block k hk⟩
theorem gr_none {w w' : World} (h : w.grownBy w' none) : Ext w w' := ⟨h.os, h.tape, h.output, h.size, fun k hk => h.block k hk (by simp)⟩

/-- A block of cells. -/
def Bx (w : World) (b : Nat) (C : Array Value) (T : TypeId) : Prop := w.heap[b]? = some (.cells C T (0, 0))
theorem Bx.lt {w b C T} (h : Bx w b C T) : b < w.heap.size := (Array.getElem?_eq_some_iff.1 h).1
theorem Bx.ext {w w' b C T} (h : Bx w b C T) (e : Ext w w') : Bx w' b C T := (e.block b h.lt).trans h
theorem Bx.gr {w w' b C T} {r : Option Nat} (h : Bx w b C T) (e : w.grownBy w' r) (hr : r ≠ some b) : Bx w' b C T := (e.block b h.lt (fun x => hr x.symm)).trans h
theorem Bx.cell {w b C T} (h : Bx w b C T) (off : Nat) : w.cell? ⟨b, off, none⟩ = C[off]? := by
  unfold Bx at h; simp [World.cell?, h]
theorem Bx.cell' {w b C T} (h : Bx w b C T) {off : Nat} {v : Value} (hv : C[off]? = some v) : w.cell? ⟨b, off, none⟩ = some v := (h.cell off).trans hv

/-- A slice that reads as these cells. -/
def Rd (w : World) (v : Value) (n sz : Nat) (xs : List Value) : Prop :=
  xs.length = n * sz ∧ ((v = .slice none 0 0 ∧ n = 0) ∨
    ∃ b o sp cap, v = .slice (some ⟨b, o, sp⟩) n cap ∧ n ≤ cap ∧ cap ≤ maxLen ∧ (xs = [] ∨ sp = none) ∧ ∀ j u, xs[j]? = some u → w.cell? ⟨b, o + j, none⟩ = some u)
theorem Rd.nil (w : World) (sz : Nat) : Rd w (.slice none 0 0) 0 sz [] := ⟨by simp, .inl ⟨rfl, rfl⟩⟩
theorem Rd.len {w v n sz xs} (h : Rd w v n sz xs) : xs.length = n * sz := h.1
theorem Rd.le {w v n sz xs} (h : Rd w v n sz xs) : n ≤ maxLen := by
  rcases h.2 with ⟨_, rfl⟩ | ⟨b, o, sp, cap, _, h1, h2, _⟩
  · exact Nat.zero_le _
  · omega
theorem Rd.gr {w w' v n sz xs} {r : Option Nat} (h : Rd w v n sz xs) (e : w.grownBy w' r) (hr : ∀ b, r = some b → v.ownBlock ≠ some b) : Rd w' v n sz xs := by
  refine ⟨h.1, ?_⟩
  rcases h.2 with h2 | ⟨b, o, sp, cap, rfl, h1, h2, h4, h3⟩
  · exact .inl h2
  · refine .inr ⟨b, o, sp, cap, rfl, h1, h2, h4, fun j u hu => e.cell (h3 j u hu) (fun x => hr b x.symm rfl)⟩
theorem Rd.ext {w w' v n sz xs} (h : Rd w v n sz xs) (e : Ext w w') : Rd w' v n sz xs := h.gr e.gb (by simp)
theorem Rd.of_own {w B T v n sz xs} (h : w.ownsRow B T sz v n xs) : Rd w v n sz xs := by
  refine ⟨h.1, ?_⟩
  rcases h.2 with h2 | ⟨g, cap, cur, rfl, _, hg, h1, h2, h3, h4⟩
  · exact .inl h2
  · refine .inr ⟨g, 0, none, cap, rfl, h1, h2, .inr rfl, fun j u hu => ?_⟩
    have hj : j < n * sz := by have := (List.getElem?_eq_some_iff.1 hu).1; rw [h.1] at this; exact this
    rw [Nat.zero_add]
    exact (World.ownsRow.cellAt h j hj).trans hu

def elemPtr (v : Value) (k : Nat) : Addr :=
  match v with
  | .slice (some ⟨b, o, _⟩) _ _ => ⟨b, o + k, none⟩
  | _ => ⟨0, 0, none⟩
theorem add_none (b o k : Nat) : (⟨b, o, none⟩ : Addr).add k = ⟨b, o + k, none⟩ := by
  unfold Addr.add; split <;> simp_all
theorem Rd.cell {w v n sz xs} (h : Rd w v n sz xs) {k : Nat} {u : Value} (hu : xs[k]? = some u) : w.cell? (elemPtr v k) = some u := by
  rcases h.2 with ⟨_, rfl⟩ | ⟨b, o, sp, cap, rfl, h1, h2, h4, h3⟩
  · have := h.1; simp at this; subst this; simp at hu
  · exact h3 k u hu
theorem Rd.cellA {w v n sz xs} (h : Rd w v n sz xs) {k j : Nat} {u : Value} (hu : xs[k + j]? = some u) : w.cell? ((elemPtr v k).add j) = some u := by
  rcases h.2 with ⟨_, rfl⟩ | ⟨b, o, sp, cap, rfl, h1, h2, h4, h3⟩
  · have := h.1; simp at this; subst this; simp at hu
  · have := h3 (k + j) u hu
    simpa [elemPtr, add_none, Nat.add_assoc] using this
/-- What the call owns stays so while other blocks are written. -/
theorem own_gr {w w' B T v n sz xs} {r : Option Nat} (h : World.ownsRow w B T sz v n xs) (e : w.grownBy w' r) (hr : ∀ b, r = some b → v.ownBlock ≠ some b) : w'.ownsRow B T sz v n xs := by
  refine h.kept e ?_
  cases hb : v.ownBlock with
  | none => exact .inl rfl
  | some b => exact .inr (fun x => hr b x.symm hb)
theorem own_ext {w w' B T v n sz xs} (h : World.ownsRow w B T sz v n xs) (e : Ext w w') : w'.ownsRow B T sz v n xs := own_gr h e.gb (by simp)
theorem own_mono {w B B' T v n sz xs} (h : World.ownsRow w B T sz v n xs) (hB : B' ≤ B) : w.ownsRow B' T sz v n xs := by
  refine ⟨h.1, h.2.imp id ?_⟩
  rintro ⟨g, cap, cur, h1, h2, h3⟩
  exact ⟨g, cap, cur, h1, Nat.le_trans hB h2, h3⟩
theorem own_sep {w B T v n sz xs} (h : World.ownsRow w B T sz v n xs) {b : Nat} (hb : b < B ∨ w.heap.size ≤ b) : v.ownBlock ≠ some b := fun e => by
  have := h.lt b e; omega
theorem own_ge {w B T v n sz xs} (h : World.ownsRow w B T sz v n xs) {b : Nat} (e : v.ownBlock = some b) : B ≤ b := (h.lt b e).1
theorem rd_lt {w v n sz xs} (h : Rd w v n sz xs) {b : Nat} (hv : v.ownBlock = some b) : xs = [] ∨ b < w.heap.size := by
  rcases h.2 with ⟨rfl, _⟩ | ⟨b', o, sp, cap, rfl, h1, h2, h4, h3⟩
  · simp [Value.ownBlock] at hv
  · simp only [Value.ownBlock, Option.some.injEq] at hv
    subst hv
    cases xs with
    | nil => exact .inl rfl
    | cons x xs => exact .inr (World.block_lt_of_cell? w _ (h3 0 x rfl))

section
variable {P : Program} {ops : Array Oper} {Q : Exit → Act → World → Prop} {a : Act} {w : World} {rest : List Oper} {n : Nat} {l : List (Nat × Value)}
  {d : Tmp} {ty : TypeId} {pos : String} {after : Array Edge} {g : Option (Nat × Bool)}

theorem run_sizeOf {e : TypeId} {z : Value} {sz by_ : Nat} (h : TI P e z sz by_) : (sizeOf e).run P w = .ok sz w := by
  obtain ⟨i, hi, -, hs, -⟩ := h
  simp [sizeOf, typeInfo, program, hi, hs, pure, bind, Sem.bind, Sem.run]
theorem run_zero {e : TypeId} {z : Value} {sz by_ : Nat} (h : TI P e z sz by_) : (zeroValue e).run P w = .ok z w := by
  obtain ⟨i, hi, hz, -, -⟩ := h
  simp [zeroValue, typeInfo, program, hi, hz, pure, bind, Sem.bind, Sem.run]

theorem s_alloc {T : TypeId} {z : Value} {sz by_ : Nat} (f : Frm n l a)
    (hw : Region.wanted ⟨some d, .alloc T, ty, pos, after, g⟩ (yielded ops a.tmps) = true) (hd : Nat.blt d n = true) (hT : TI P T z sz by_)
    (c : ∀ a' w' b, Frm n ((d, .pointer (some ⟨b, 0, none⟩)) :: l) a' → Ext w w' → Bx w' b z.cells T → w.heap.size ≤ b → wpList P ops Q rest a' w') :
    wpList P ops Q (⟨some d, .alloc T, ty, pos, after, g⟩ :: rest) a w :=
  stv (w' := w.alloc (.cells z.cells T)) f hw hd (by
    simp [execOp, Instr.alloc, run_zero hT, newVar, newRow]) (fun a' f' => c a' _ w.heap.size f' (Ext.al _ _) (heap_alloc_new _ _) (Nat.le_refl _))
theorem s_box {T : TypeId} {x : Operand} {v : Value} (f : Frm n l a)
    (hw : Region.wanted ⟨some d, .box T x, ty, pos, after, g⟩ (yielded ops a.tmps) = true) (hd : Nat.blt d n = true) (hx : opv l x = some v)
    (c : ∀ a' w' b, Frm n ((d, .pointer (some ⟨b, 0, none⟩)) :: l) a' → Ext w w' → Bx w' b v.cells T → w.heap.size ≤ b → wpList P ops Q rest a' w') :
    wpList P ops Q (⟨some d, .box T x, ty, pos, after, g⟩ :: rest) a w :=
  stv (w' := w.alloc (.cells v.cells T)) f hw hd (by
    simp [execOp, Instr.box, f.ev hx, newVar, newRow]) (fun a' f' => c a' _ w.heap.size f' (Ext.al _ _) (heap_alloc_new _ _) (Nat.le_refl _))

theorem run_load1 {t : TypeId} {p : Addr} {v : Value} (hT : Sc P t) (hc : w.cell? p = some v) : (loadVar t p).run P w = .ok v w := by
  obtain ⟨d, hd, hm⟩ := hT
  cases d <;> simp only at hm <;> simp [loadVar, isAgg, run_underlying hd, hc]
theorem run_loadA {t : TypeId} {p : Addr} {z : Value} {sz by_ : Nat} {cs : List Value} (hT : Ag P t) (hS : TI P t z sz by_) (hl : cs.length = sz) (hc : ∀ j u, cs[j]? = some u → w.cell? (p.add j) = some u) :
    (loadVar t p).run P w = .ok (.agg cs.toArray) w := by
  obtain ⟨d, hd, hm⟩ := hT
  subst hl
  cases d <;> simp only at hm <;> simp [loadVar, isAgg, run_underlying hd, run_sizeOf hS, run_loadCells_list w p cs hc]
theorem s_load {t : TypeId} {x : Operand} {p : Addr} {v : Value} (f : Frm n l a)
    (hw : Region.wanted ⟨some d, .load t x, ty, pos, after, g⟩ (yielded ops a.tmps) = true) (hd : Nat.blt d n = true) (hT : Sc P t)
    (hx : opv l x = some (.pointer (some p))) (hc : w.cell? p = some v)
    (c : ∀ a', Frm n ((d, v) :: l) a' → wpList P ops Q rest a' w) : wpList P ops Q (⟨some d, .load t x, ty, pos, after, g⟩ :: rest) a w :=
  stv f hw hd (by simp [execOp, f.ev hx, Instr.loadAt, Instr.sureAddr, run_load1 hT hc]) c
theorem s_loadA {t : TypeId} {x : Operand} {p : Addr} {z : Value} {sz by_ : Nat} {cs : List Value} (f : Frm n l a)
    (hw : Region.wanted ⟨some d, .load t x, ty, pos, after, g⟩ (yielded ops a.tmps) = true) (hd : Nat.blt d n = true) (hT : Ag P t) (hS : TI P t z sz by_)
    (hx : opv l x = some (.pointer (some p))) (hl : cs.length = sz) (hc : ∀ j u, cs[j]? = some u → w.cell? (p.add j) = some u)
    (c : ∀ a', Frm n ((d, .agg cs.toArray) :: l) a' → wpList P ops Q rest a' w) : wpList P ops Q (⟨some d, .load t x, ty, pos, after, g⟩ :: rest) a w :=
  stv f hw hd (by simp [execOp, f.ev hx, Instr.loadAt, Instr.sureAddr, run_loadA hT hS hl hc]) c
theorem Bx.cells {b C T} (h : Bx w b C T) {o : Nat} {cs : List Value} (hcs : (C.toList.drop o).take cs.length = cs) : ∀ j u, cs[j]? = some u → w.cell? ((⟨b, o, none⟩ : Addr).add j) = some u := by
  intro j u hu
  rw [add_none, h.cell]
  have hj : j < cs.length := (List.getElem?_eq_some_iff.1 hu).1
  rw [← hcs, List.getElem?_take, if_pos hj, List.getElem?_drop] at hu
  simpa using hu

/-- what a store leaves -/
def spl (C : Array Value) (o : Nat) (vs : List Value) : Array Value := (C.toList.take o ++ vs ++ C.toList.drop (o + vs.length)).toArray
theorem setRow_gr (b : Nat) (cs : Array Value) : w.grownBy (w.setRow b cs) (some b) := by
  refine ⟨rfl, rfl, rfl, by simp [World.setRow], fun k hk hne => ?_⟩
  have hne : k ≠ b := fun e => hne (by rw [e])
  simp only [World.setRow, Array.getElem?_modify]
  rw [if_neg (fun e => hne e.symm)]
theorem run_storeB {t : TypeId} {b o : Nat} {v z : Value} {sz by_ : Nat} {C : Array Value} {T : TypeId} (hS : TI P t z sz by_) (hv : v.cells.size = sz) (h1 : ∀ u ∈ v.cells.toList, u.oneCell' = true)
    (hb : Bx w b C T) (hfit : o + sz ≤ C.size) : (storeVar t ⟨b, o, none⟩ v).run P w = .ok () (w.setRow b (spl C o v.cells.toList)) := by
  subst hv
  have := run_storeCells_at (P := P) b o T v.cells.toList 0 C w hb (by simpa using hfit) h1
  simp only [Nat.add_zero] at this
  simp [storeVar, run_sizeOf hS, this, spl]
/-- A store into a block of the call's own. -/
theorem s_storeB {t : TypeId} {x y : Operand} {b o : Nat} {v z : Value} {sz by_ : Nat} {C C' : Array Value} {T : TypeId} (f : Frm n l a)
    (hw : Region.wanted ⟨none, .store t x y, ty, pos, after, g⟩ (yielded ops a.tmps) = true) (hS : TI P t z sz by_)
    (hx : opv l x = some (.pointer (some ⟨b, o, none⟩))) (hy : opv l y = some v) (hv : v.cells.size = sz) (h1 : ∀ u ∈ v.cells.toList, u.oneCell' = true)
    (hb : Bx w b C T) (hfit : o + sz ≤ C.size) (hC : spl C o v.cells.toList = C')
    (c : ∀ w', w.grownBy w' (some b) → Bx w' b C' T → wpList P ops Q rest a w') : wpList P ops Q (⟨none, .store t x y, ty, pos, after, g⟩ :: rest) a w := by
  subst hC
  refine st0 hw (w' := w.setRow b (spl C o v.cells.toList)) ?_ rfl (c _ (setRow_gr _ _) (setRow_heap w b C _ T _ hb))
  simp [execOp, f.ev hx, f.ev hy, Instr.storeAt, Instr.sureAddr, run_storeB hS hv h1 hb hfit]

theorem s_fieldAddr {S : TypeId} {x : Operand} {i : Nat} {p q : Addr} {fs : Array Field} {fd : Field} {z : Value} {sz by_ : Nat} (f : Frm n l a)
    (hw : Region.wanted ⟨some d, .fieldAddr S x i, ty, pos, after, g⟩ (yielded ops a.tmps) = true) (hd : Nat.blt d n = true)
    (hS : P.underlying S = some (.struct fs)) (hi : fs[i]? = some fd) (hF : TI P fd.type z (sz + 1) by_) (hx : opv l x = some (.pointer (some p))) (hq : p.add fd.offset = q)
    (c : ∀ a', Frm n ((d, .pointer (some q)) :: l) a' → wpList P ops Q rest a' w) : wpList P ops Q (⟨some d, .fieldAddr S x i, ty, pos, after, g⟩ :: rest) a w :=
  stv f hw hd (by subst hq; simp [execOp, f.ev hx, Instr.fieldAt, Instr.sureAddr, run_underlying hS, hi, fieldPlace, run_sizeOf hF]) c
/-- The address of an element of a slice. -/
theorem s_indexAddr {T e : TypeId} {x y : Operand} {v : Value} {m sz by_ : Nat} {xs : List Value} {k : IntKind} {i : Int} {z : Value} {j : Nat} (f : Frm n l a)
    (hw : Region.wanted ⟨some d, .indexAddr T x y, ty, pos, after, g⟩ (yielded ops a.tmps) = true) (hd : Nat.blt d n = true)
    (hT : P.underlying T = some (.slice e)) (hE : TI P e z sz by_) (hsz : 0 < sz) (hx : opv l x = some v) (hr : Rd w v m sz xs) (hy : opv l y = some (.int k i)) (hij : i = (j : Int)) (hj : j < m)
    (c : ∀ a', Frm n ((d, .pointer (some (elemPtr v (j * sz)))) :: l) a' → wpList P ops Q rest a' w) : wpList P ops Q (⟨some d, .indexAddr T x y, ty, pos, after, g⟩ :: rest) a w :=
  stv f hw hd (by
    subst hij
    rcases hr.2 with ⟨_, rfl⟩ | ⟨b, o, sp, cap, rfl, h1, h2, h4, h3⟩
    · omega
    · have hne : xs ≠ [] := fun e => by have := hr.1; rw [e] at this; have h5 := Nat.mul_pos (show 0 < m by omega) hsz; simp at this; omega
      obtain rfl := h4.resolve_left hne
      simp [execOp, f.ev hx, f.ev hy, Instr.indexAt, asIntOf, run_underlying hT, hj, run_sizeOf hE, elemPtr, add_none]) c
/-- The address of an element of an array variable. -/
theorem s_indexAddrA {T e : TypeId} {x y : Operand} {b o m sz by_ : Nat} {k : IntKind} {i : Int} {z : Value} {j q : Nat} (f : Frm n l a)
    (hw : Region.wanted ⟨some d, .indexAddr T x y, ty, pos, after, g⟩ (yielded ops a.tmps) = true) (hd : Nat.blt d n = true)
    (hT : P.underlying T = some (.array m e)) (hE : TI P e z sz by_) (hx : opv l x = some (.pointer (some ⟨b, o, none⟩))) (hy : opv l y = some (.int k i)) (hij : i = (j : Int)) (hj : j < m) (hq : o + j * sz = q)
    (c : ∀ a', Frm n ((d, .pointer (some ⟨b, q, none⟩)) :: l) a' → wpList P ops Q rest a' w) : wpList P ops Q (⟨some d, .indexAddr T x y, ty, pos, after, g⟩ :: rest) a w :=
  stv f hw hd (by
    subst hij; subst hq
    simp [execOp, f.ev hx, f.ev hy, Instr.indexAt, Instr.sureAddr, asIntOf, run_underlying hT, hj, run_sizeOf hE, add_none]) c
theorem s_lenRd {x : Operand} {T : TypeId} {at_ : Array TypeId} {e : TypeId} {v : Value} {m sz : Nat} {xs : List Value} (f : Frm n l a)
    (hw : Region.wanted ⟨some d, .call ⟨.builtin .len, #[x], at_⟩, ty, pos, after, g⟩ (yielded ops a.tmps) = true) (hd : Nat.blt d n = true)
    (hat : at_[0]? = some T) (hT : P.underlying T = some (.slice e)) (hx : opv l x = some v) (hr : Rd w v m sz xs)
    (c : ∀ a', Frm n ((d, .int .i64 m) :: l) a' → wpList P ops Q rest a' w) : wpList P ops Q (⟨some d, .call ⟨.builtin .len, #[x], at_⟩, ty, pos, after, g⟩ :: rest) a w := by
  rcases hr.2 with ⟨rfl, rfl⟩ | ⟨b, o, sp, cap, rfl, h1, h2, h4, h3⟩
  · exact s_lenS f hw hd hat hT hx c
  · exact s_lenS f hw hd hat hT hx c
/-- A store into an element of a slice of the call's own. -/
theorem s_storeE {t : TypeId} {x y : Operand} {s v z : Value} {sz by_ : Nat} {B T m : Nat} {j : Nat} {xs xs' : List Value} {S : Nat} (f : Frm n l a)
    (hw : Region.wanted ⟨none, .store t x y, ty, pos, after, g⟩ (yielded ops a.tmps) = true) (hS : TI P t z sz by_)
    (hx : opv l x = some (.pointer (some (elemPtr s j)))) (hy : opv l y = some v) (hv : v.cells.size = sz) (h1 : ∀ u ∈ v.cells.toList, u.oneCell' = true)
    (ho : w.ownsRow B T S s m xs) (hfit : j + sz ≤ m * S) (hsz : 0 < sz) (hxs : xs.take j ++ v.cells.toList ++ xs.drop (j + sz) = xs')
    (c : ∀ w', w.grownBy w' s.ownBlock → w'.ownsRow B T S s m xs' → wpList P ops Q rest a w') : wpList P ops Q (⟨none, .store t x y, ty, pos, after, g⟩ :: rest) a w := by
  rcases ho.2 with ⟨rfl, rfl⟩ | ⟨g', cap, cur, rfl, hB, hg, h2, h3, h4, h5⟩
  · omega
  · have hms : m * S ≤ cap * S := Nat.mul_le_mul_right _ h2
    simp only [elemPtr, Nat.zero_add] at hx
    refine s_storeB (b := g') (o := j) f hw hS hx hy hv h1 hg (by omega) rfl (fun w' k1 k2 => c w' k1 ⟨?_, .inr ⟨g', cap, _, rfl, hB, k2, h2, h3, ?_, ?_⟩⟩)
    · subst hxs; have := ho.1; simp [hv]; omega
    · have : v.cells.toList.length = sz := by simpa using hv
      simp [spl, hv]; omega
    · subst hxs; subst h5
      have hl : v.cells.toList.length = sz := by simpa using hv
      simp only [spl, List.take_append, List.length_append, List.length_take, Array.length_toList, hl]
      apply List.ext_getElem?
      intro i
      simp only [List.getElem?_append, List.getElem?_take, List.getElem?_drop, List.length_append, List.length_take, List.length_drop, hl, Array.length_toList]
      repeat' split
      all_goals (first | rfl | omega | (congr 1; omega) | skip)
end
end Go.Proofs.Ytklfgpdfongaeaa
