/- Slices that are made, written out and appended to; structs that are built; what is given up. Over any program. -/
import Derived.Test.YtklfgpdfongaeaaK5
namespace Go.Proofs.Ytklfgpdfongaeaa
open Go Go.RowKit
set_option linter.unusedSimpArgs false
set_option linter.unusedVariables false

/-- cells that represent a datum wherever they are -/
def Zr {α : Type} (R : Rep α) (cs : List Value) (x : α) : Prop := ∀ S w, R.rel S w cs x
theorem Zr.num {α : Type} {k : IntKind} {f : α → Int} {x : α} {n : Int} (h : f x = n) : Zr (numR k f) [.int k n] x := fun _ _ => by subst h; rfl
theorem Zr.bool {b : Bool} : Zr boolR [.bool b] b := fun _ _ => rfl
theorem Zr.str : Zr strR [.string ByteArray.empty] [] := fun _ _ => ⟨_, rfl, rfl⟩
theorem Zr.slice {α : Type} {R : Rep α} : Zr (sliceR R) [.slice none 0 0] [] := fun _ w => ⟨none, 0, [], rfl, Rd.nil _ _, rfl, by simp⟩
theorem Zr.unit : Zr unitR [] () := fun _ _ => rfl
theorem Zr.prod {α β : Type} {R : Rep α} {T : Rep β} {c d cs : List Value} {x : α} {y : β} (h : Zr R c x) (k : Zr T d y) (e : c ++ d = cs) : Zr (prodR R T) cs (x, y) := fun S w => ⟨c, d, e.symm, h S w, k S w⟩
theorem Zr.via {α β : Type} {R : Rep α} {g : β → α} {cs : List Value} {x : β} (h : Zr R cs (g x)) : Zr (viaR g R) cs x := h
theorem Zr.rep {α : Type} {R : Rep α} {c : List Value} {x : α} (h : Zr R c x) (S : Blk) (w : World) : ∀ n, relL R S w (List.replicate n c).flatten (List.replicate n x)
  | 0 => rfl
  | n + 1 => ⟨c, _, by simp [List.replicate_succ], h S w, Zr.rep h S w n⟩
theorem Zr.arr {α : Type} {R : Rep α} {c cs : List Value} {x : α} {n : Nat} (h : Zr R c x) (e : (List.replicate n c).flatten = cs) : Zr (arrR n R) cs (Vector.replicate n x) := fun S w => by
  subst e
  show relL R S w _ (Vector.replicate n x).toList
  rw [Vector.toList_replicate]; exact h.rep S w n

def app {α : Type} (by_ : Nat) (b c : List α) : Option (List α) := if (b.length + c.length) * by_ ≤ 140737488355328 then some (b ++ c) else none
theorem app_some {α : Type} {by_ : Nat} {b c d : List α} (h : app by_ b c = some d) : (b.length + c.length) * by_ ≤ 140737488355328 ∧ b ++ c = d := by
  unfold app at h; split at h
  · cases h; exact ⟨‹_›, rfl⟩
  · cases h
def mkn {α : Type} (by_ : Nat) (x : α) (n : Int) : Option (List α) := if 0 ≤ n ∧ by_ * n.toNat ≤ 281474976710656 ∧ n ≤ 9223372036854775807 then some (List.replicate n.toNat x) else none
theorem mkn_some {α : Type} {by_ : Nat} {x : α} {n : Int} {b : List α} (h : mkn by_ x n = some b) : 0 ≤ n ∧ by_ * n.toNat ≤ 281474976710656 ∧ n.toNat ≤ 9223372036854775807 ∧ List.replicate n.toNat x = b := by
  unfold mkn at h; split at h
  · rename_i hh; cases h; exact ⟨hh.1, hh.2.1, by omega, rfl⟩
  · cases h
theorem rblk_own {p : Option Addr} {n c : Nat} : rblk (.slice p n c) = (Value.slice p n c).ownBlock := by cases p <;> rfl
theorem made_flat {z : Array Value} {n s : Nat} (hs : z.size = s) (h0 : 0 < s) : (madeCells z (n * s)).toList = (List.replicate n z.toList).flatten := by
  subst hs
  apply List.ext_getElem?
  intro i
  have key : ∀ (n : Nat) (i : Nat), (List.replicate n z.toList).flatten[i]? = if i < n * z.size then z[i % z.size]? else none := by
    intro n
    induction n with
    | zero => intro i; simp
    | succ n ih =>
      intro i
      rw [List.replicate_succ, List.flatten_cons, List.getElem?_append]
      have e : (n + 1) * z.size = n * z.size + z.size := by rw [Nat.add_mul]; omega
      split
      · rename_i hi
        have hi : i < z.size := by simpa using hi
        rw [if_pos (by omega), Nat.mod_eq_of_lt hi]; simp
      · rename_i hi
        have hi : z.size ≤ i := by simpa using hi
        rw [ih]
        simp only [Array.length_toList]
        rw [Nat.mod_eq_sub_mod hi]
        by_cases h : i - z.size < n * z.size
        · rw [if_pos h, if_pos (by omega)]
        · rw [if_neg h, if_neg (by omega)]
  rw [key]
  simp only [madeCells, Array.toList_map, Array.toList_range, List.getElem?_map, List.getElem?_range]
  by_cases h : i < n * z.size
  · have hm := Nat.mod_lt i h0
    simp [h, List.getElem?_range h, hm]
  · simp [h]

section
variable {C : World → World → Prop} {ρ : Type} {P : Program} {Γ : Ctx} {l : Slots} {res : Res} {m : Option ρ} {os rest : List Oper} {N : ρ → Exit → Act → World → Prop}
  {d : Tmp} {ty : TypeId} {pos : String} {after : Array Edge} {g : Option (Nat × Bool)}

/-- An append to a slice of the call's own. -/
theorem app0 {α : Type} {R : Rep α} {b b2 b3 : List α} {x y : Operand} {v z : Value} {E : Ent} {T e : TypeId} {by_ : Nat} {a : Act} {w : World} (ha : Sta Γ l res a w) (r : Nat) (hx : opE l x = some (.val v)) (hr : lr res r = some (v, .list R e b)) (hy : opE l y = some E) (hv : Vw R res E b2) (hb : app by_ b b2 = some b3)
    (hT : P.underlying T = some (.slice e)) (hE : TI P e z R.sz by_) (hz : z.cells.size = R.sz) (h0 : Nat.blt 0 R.sz = true) (h1 : Nat.blt 0 by_ = true) :
    ∃ w' v', (execOp a.eval ⟨some d, .call ⟨.builtin .append, #[x, y], #[T, T]⟩, ty, pos, after, g⟩).run P w = .ok (.value v') w' ∧ (Sta Γ l ((r, some (v', .list R e b3)) :: res) a w' ∧ Stay (Shr Γ.H res w) (Shr Γ.H ((r, some (v', .list R e b3)) :: res) w') w w') ∧ v'.oneCell' = true ∧ Grew res r w w' := by
  have h0 : 0 < R.sz := Eq.mp Nat.blt_eq h0
  have h1 : 0 < by_ := Eq.mp Nat.blt_eq h1
  obtain ⟨hby, rfl⟩ := app_some hb
  have e1 := (ha.vl hx).1
  obtain ⟨q, c2, news, e2, k1, k2⟩ := hv.get ha (ha.vl hy)
  obtain ⟨xs, k3, k4⟩ := list_owns (ha.conts r v _ hr)
  obtain ⟨p, c, rfl⟩ := slice_form k3
  have hlen : b.length + b2.length ≤ 140737488355328 := Nat.le_trans (Nat.le_mul_of_pos_right _ h1) hby
  obtain ⟨p', c', w', g1, g2, g3, g4⟩ := run_append_rd (rt := ty) hT hE hz h0 k3 k1 k2.one (by omega) hby (Nat.zero_le _)
  refine ⟨w', .slice p' (b.length + b2.length) c', ?_, ?_, rfl, _, g3, fun bb hbb => ⟨_, _, hr, by rw [rblk_own]; exact hbb⟩⟩
  · simp [execOp, resolve, invoke, builtin, e1, e2, g1]
  · refine ha.upd r g3 (fun bb hbb => ⟨_, _, hr, by rw [rblk_own]; exact hbb⟩) (fun bb hbb => ?_) (fun S' k' => ?_)
    · rw [rblk_own] at hbb
      rcases g4 bb hbb with h | h
      · exact .inl ⟨_, _, hr, by rw [rblk_own]; exact h⟩
      · exact .inr h
    · exact owns_list (B := 0) (xs := xs ++ news) (by rw [List.length_append]; exact g2) ((k4.mono k').append (k2.mono k'))
theorem apn {α : Type} {R : Rep α} {b b2 b3 : List α} {x y : Operand} {v z : Value} {E : Ent} {T e : TypeId} {by_ : Nat} (r : Nat) (hx : opE l x = some (.val v)) (hr : lr res r = some (v, .list R e b)) (hy : opE l y = some E) (hv : Vw R res E b2) (hb : app by_ b b2 = some b3)
    (hT : P.underlying T = some (.slice e)) (hE : TI P e z R.sz by_) (hz : z.cells.size = R.sz) (h0 : Nat.blt 0 R.sz = true) (h1 : Nat.blt 0 by_ = true) :
    Eff P Γ l res ⟨some d, .call ⟨.builtin .append, #[x, y], #[T, T]⟩, ty, pos, after, g⟩ r (fun u => (u, .list R e b3)) := fun a w ha => app0 ha r hx hr hy hv hb hT hE hz h0 h1
/-- A slice is made. -/
theorem mk0 {α : Type} {R : Rep α} {x0 : α} {b : List α} {x y : Operand} {z : Value} {T e : TypeId} {by_ : Nat} {n : Int} {a : Act} {w : World} (ha : Sta Γ l res a w) (r : Nat) (hx : opE l x = some (.rd i64R n)) (hy : opE l y = some (.rd i64R n)) (hb : mkn by_ x0 n = some b)
    (hT : P.underlying T = some (.slice e)) (hE : TI P e z R.sz by_) (hz : Zr R z.cells.toList x0) (h0 : Nat.blt 0 R.sz = true) :
    ∃ w' v', (execOp a.eval ⟨some d, .makeSlice T x y, ty, pos, after, g⟩).run P w = .ok (.value v') w' ∧ (Sta Γ l ((r, some (v', .list R e b)) :: res) a w' ∧ Stay (Shr Γ.H res w) (Shr Γ.H ((r, some (v', .list R e b)) :: res) w') w w') ∧ v'.oneCell' = true ∧ Grew res r w w' := by
  have h0 : 0 < R.sz := Eq.mp Nat.blt_eq h0
  obtain ⟨h1, h2, h3, rfl⟩ := mkn_some hb
  obtain ⟨n', rfl⟩ : ∃ n' : Nat, n = (n' : Int) := ⟨n.toNat, by omega⟩
  simp only [Int.toNat_natCast] at h2 h3 ⊢
  obtain ⟨ti, g1, g2, g3, g4⟩ := hE
  have hzs : z.cells.size = R.sz := by rw [← Array.length_toList]; exact R.len (hz (fun _ => True) w)
  obtain ⟨w', hr, ho, hg⟩ := run_make_full (P := P) w 0 T e ti z R.sz hT g1 g2 g3 .i64 .i64 n' (by rw [g4]; exact h2) (by unfold maxLen; omega) (Nat.zero_le _)
  refine ⟨w', .slice (some ⟨w.heap.size, 0, none⟩) n' n', ?_, ?_, rfl, _, hg, by simp⟩
  · have e1 := rd_num (ha.vl hx)
    have e2 := rd_num (ha.vl hy)
    simp only [id] at e1 e2
    simp [execOp, e1, e2, hr]
  · refine ha.upd r hg (by simp) (fun bb hbb => .inr (by simp [rblk] at hbb; omega)) (fun S' k' => ?_)
    refine owns_list (B := 0) (xs := (madeCells z.cells (n' * R.sz)).toList) (by simpa using ho) ?_
    rw [made_flat hzs h0]; exact hz.rep _ _ _
theorem mks {α : Type} {R : Rep α} {x0 : α} {b : List α} {x y : Operand} {z : Value} {T e : TypeId} {by_ : Nat} {n : Int} (r : Nat) (hx : opE l x = some (.rd i64R n)) (hy : opE l y = some (.rd i64R n)) (hb : mkn by_ x0 n = some b)
    (hT : P.underlying T = some (.slice e)) (hE : TI P e z R.sz by_) (hz : Zr R z.cells.toList x0) (h0 : Nat.blt 0 R.sz = true) :
    Eff P Γ l res ⟨some d, .makeSlice T x y, ty, pos, after, g⟩ r (fun u => (u, .list R e b)) := fun a w ha => mk0 ha r hx hy hb hT hE hz h0

/-! ### written out -/
/-- operands that hold these data -/
def RdA {α : Type} (l : Slots) (R : Rep α) : List Operand → List α → Prop
  | [], [] => True
  | o :: os, x :: xs => opE l o = some (.rd R x) ∧ RdA l R os xs
  | _, _ => False
theorem RdA.get {α : Type} {R : Rep α} {a : Act} {w : World} (ha : Sta Γ l res a w) : ∀ {os : List Operand} {xs : List α}, RdA l R os xs → relL R (Shr Γ.H res w) w (catC (os.map a.eval)) xs ∧ os.length = xs.length ∧ ∀ u ∈ os.map a.eval, u.cells.size = R.sz
  | [], [], _ => ⟨rfl, rfl, by simp⟩
  | o :: os, x :: xs, h => by
    obtain ⟨h1, h2, h3⟩ := RdA.get ha h.2
    obtain ⟨cs, k1, k2⟩ := ha.vl h.1
    have k3 : (a.eval o).cells.toList = cs := by rw [k2]; exact Rep.val_cells k1
    refine ⟨⟨cs, _, by simp [catC_cons, k3], k1, h1⟩, by simp [h2], fun u hu => ?_⟩
    simp only [List.map_cons, List.mem_cons] at hu
    rcases hu with rfl | hu
    · rw [← Array.length_toList, k3, R.len k1]
    · exact h3 u hu
  | [], _ :: _, h => h.elim
  | _ :: _, [], h => h.elim
theorem foldl_set (v : List Value) : ∀ (C : Array Value) (o j : Nat), o + j + v.length ≤ C.size → (v.zipIdx j).foldl (fun cs (x : Value × Nat) => cs.setIfInBounds (o + x.2) x.1) C = spl C (o + j) v := by
  induction v with
  | nil => intro C o j h; simp [spl]
  | cons u v ih =>
    intro C o j h
    simp only [List.length_cons] at h
    simp only [List.zipIdx_cons, List.foldl_cons]
    rw [ih _ _ _ (by simp; omega)]
    unfold spl
    congr 1
    have e : C.toList.length = C.size := by simp
    simp only [Array.toList_setIfInBounds]
    apply List.ext_getElem?
    intro i
    simp only [List.getElem?_append, List.length_append, List.length_take, List.length_set, e, List.getElem?_take, List.getElem?_set, List.getElem?_drop, List.length_cons, List.getElem?_cons]
    repeat' split
    all_goals (first | rfl | omega | (congr 1; omega) | skip)
theorem fill_step {place : Nat → Option (Nat × Nat)} {C : Array Value} {i o s : Nat} {v : Value} {rest : List (Nat × Value)} (hp : place i = some (o, s)) (hv : v.cells.size = s) (hfit : o + s ≤ C.size) :
    Instr.fill place C ((i, v) :: rest) = Instr.fill place (spl C o v.cells.toList) rest := by
  subst hv
  have := foldl_set v.cells.toList C o 0 (by simpa using hfit)
  simp only [Nat.add_zero] at this
  have e2 : v.cells.zipIdx.foldl (fun cs (x : Value × Nat) => cs.setIfInBounds (o + x.2) x.1) C = spl C o v.cells.toList := by
    rw [← this, ← Array.foldl_toList]; simp
  simp only [Instr.fill, hp]
  rw [if_neg (by simp; omega)]
  exact congrArg (fun c => Instr.fill place c rest) e2
theorem fill_all {sz : Nat} : ∀ (vs : List Value) (j : Nat) (C : Array Value), (∀ u ∈ vs, u.cells.size = sz) → C.size = (j + vs.length) * sz →
    Instr.fill (fun i => some (i * sz, sz)) C ((vs.zipIdx j).map fun x => (x.2, x.1)) = some (C.toList.take (j * sz) ++ catC vs).toArray
  | [], j, C, h, hC => by
    have h1 : C.size = j * sz := hC
    have h2 : C.toList.take (j * sz) = C.toList := List.take_of_length_le (by rw [Array.length_toList]; omega)
    simp [Instr.fill, catC, h2]
  | u :: vs, j, C, h, hC => by
    have hu : u.cells.size = sz := h u (by simp)
    have e : C.toList.length = C.size := by simp
    simp only [List.length_cons] at hC
    have e3 : (j + (vs.length + 1)) * sz = j * sz + (sz + vs.length * sz) := by rw [Nat.add_mul, Nat.add_mul]; omega
    simp only [List.zipIdx_cons, List.map_cons]
    rw [fill_step (o := j * sz) (s := sz) rfl hu (by omega), fill_all vs (j + 1) _ (fun u hu => h u (by simp [hu])) ?_]
    · congr 2
      have hul : u.cells.toList.length = sz := by simpa using hu
      rw [catC_cons, ← List.append_assoc]
      congr 1
      unfold spl
      rw [List.take_left']
      simp only [List.length_append, List.length_take, e, hul]
      rw [Nat.min_eq_left (by omega), Nat.add_mul]; omega
    · unfold spl
      have hul : u.cells.toList.length = sz := by simpa using hu
      simp only [List.size_toArray, List.length_append, List.length_take, List.length_drop, hul, e, hC]
      rw [show (j + 1 + vs.length) * sz = j * sz + (sz + vs.length * sz) by rw [Nat.add_mul, Nat.add_mul]; omega]
      omega
/-- A slice is written out. -/
theorem lit0 {α : Type} {R : Rep α} (b : List α) {n : Nat} {xs : List Operand} {parts : Array (Nat × Operand)} {z : Value} {T e : TypeId} {by_ : Nat} {a : Act} {w : World} (ha : Sta Γ l res a w) (r : Nat) (hp : parts = (xs.zipIdx.map fun x => (x.2, x.1)).toArray) (hx : RdA l R xs b) (hl : b.length = n)
    (hT : P.underlying T = some (.slice e)) (hE : TI P e z R.sz by_) (h0 : Nat.blt 0 R.sz = true) (hm : Nat.ble (n * R.sz) 16777216 = true) :
    ∃ w' v', (execOp a.eval ⟨some d, .buildSlice T n parts, ty, pos, after, g⟩).run P w = .ok (.value v') w' ∧ (Sta Γ l ((r, some (v', .list R e b)) :: res) a w' ∧ Stay (Shr Γ.H res w) (Shr Γ.H ((r, some (v', .list R e b)) :: res) w') w w') ∧ v'.oneCell' = true ∧ Grew res r w w' := by
  have h0 : 0 < R.sz := Eq.mp Nat.blt_eq h0
  have hm : n * R.sz ≤ 16777216 := Nat.le_of_ble_eq_true hm
  subst hl
  obtain ⟨k1, k2, k3⟩ := RdA.get ha hx
  have hc : Instr.fill (fun i => some (i * R.sz, R.sz)) (zeroRow z (b.length * R.sz)) ((xs.map a.eval).zipIdx.map fun x => (x.2, x.1)) = some (catC (xs.map a.eval)).toArray := by
    have := fill_all (xs.map a.eval) 0 (zeroRow z (b.length * R.sz)) k3 (by simp [zeroRow, k2])
    simpa using this
  have hev : (parts.map fun (i, x) => (i, a.eval x)).toList = (xs.map a.eval).zipIdx.map fun x => (x.2, x.1) := by
    subst hp
    simp [List.zipIdx_map]
  have hrun := run_bslice (P := P) (w := w) (m := b.length) (vs := parts.map fun (i, x) => (i, a.eval x)) hT hE hm (by rw [hev]; exact hc)
  have hlen := k1.len
  refine ⟨w.alloc (.cells (catC (xs.map a.eval)).toArray e), .slice (some ⟨w.heap.size, 0, none⟩) b.length b.length, ?_, ?_, rfl, _, new_gr w _, by simp⟩
  · simp only [execOp, Sem.run_bind, hrun, Result.andThen, Sem.run_pure]
  · refine ha.upd r (c := .list R e b) (v := .slice (some ⟨w.heap.size, 0, none⟩) b.length b.length) (new_gr w _) (by simp) (fun bb hbb => .inr (by simp [rblk] at hbb; omega)) (fun S' k' => ?_)
    refine .inr ⟨w.heap.size, _, rfl, heap_alloc_new _ _, w.heap.size, b.length, _, rfl, rfl, Nat.le_refl _, ?_, by simp [hlen], ?_⟩
    · have : b.length ≤ b.length * R.sz := Nat.le_mul_of_pos_right _ h0
      unfold maxLen; omega
    · simp only []
      rw [← hlen, List.take_length]; exact k1.mono k'
theorem lits {α : Type} {R : Rep α} (b : List α) {n : Nat} (xs : List Operand) {parts : Array (Nat × Operand)} {z : Value} {T e : TypeId} {by_ : Nat} (r : Nat) (hp : parts = (xs.zipIdx.map fun x => (x.2, x.1)).toArray) (hx : RdA l R xs b) (hl : b.length = n)
    (hT : P.underlying T = some (.slice e)) (hE : TI P e z R.sz by_) (h0 : Nat.blt 0 R.sz = true) (hm : Nat.ble (n * R.sz) 16777216 = true) :
    Eff P Γ l res ⟨some d, .buildSlice T n parts, ty, pos, after, g⟩ r (fun u => (u, .list R e b)) := fun a w ha => lit0 b ha r hp hx hl hT hE h0 hm

/-! ### given up, or taken on, without an operation -/
/-- no slice of the call's own -/
theorem Sta.nil {a : Act} {w : World} (ha : Sta Γ l res a w) {α : Type} (R : Rep α) (T : TypeId) (r : Nat) : Sta Γ l ((r, some (.slice none 0 0, .list R T [])) :: res) a w :=
  (ha.upd r (v := .slice none 0 0) (c := .list R T []) (wr := none) Ext.rfl'.gb (by simp) (by simp [rblk]) (fun S' k' => .inl ⟨rfl, rfl⟩)).1
theorem xNil {X : ρ → Act → World → Prop} {α : Type} (R : Rep α) (T : TypeId) (r : Nat) (k : GX X (Sta Γ l ((r, some (.slice none 0 0, .list R T [])) :: res)) m) : GX X (Sta Γ l res) m := fun a w ha => k a w (ha.nil R T r)
/-- what a slice of the call's own holds is read from now on, and written no more -/
def FrL (l : Slots) (v : Value) : List Nat → Prop
  | [] => True
  | t :: ts => lk l t = some (.val v) ∧ FrL l v ts
theorem fN {v : Value} : FrL l v [] := trivial
theorem fS {v : Value} {t : Nat} {ts : List Nat} (h : lk l t = some (.val v)) (k : FrL l v ts) : FrL l v (t :: ts) := ⟨h, k⟩
theorem FrL.get {v : Value} {t : Nat} : ∀ {ts : List Nat}, FrL l v ts → t ∈ ts → lk l t = some (.val v)
  | t0 :: ts, h, hm => by
    rcases List.mem_cons.1 hm with rfl | hm
    · exact h.1
    · exact FrL.get h.2 hm
theorem lk_put {e : Ent} {t : Nat} : ∀ (ts : List Nat), lk (ts.map (fun t => (t, e)) ++ l) t = if t ∈ ts then some e else lk l t
  | [] => by simp
  | t0 :: ts => by
    rw [List.map_cons, List.cons_append, lk_cons, lk_put ts]
    by_cases h : t0 = t
    · subst h; simp
    · simp [h, Ne.symm h]
theorem Sta.frz {a : Act} {w : World} (ha : Sta Γ l res a w) {α : Type} {R : Rep α} {T : TypeId} {b : List α} {v : Value} (r : Nat) (ts : List Nat) (hr : lr res r = some (v, .list R T b)) (ht : FrL l v ts) : Sta Γ (ts.map (fun t => (t, .rd (sliceR R) b)) ++ l) ((r, none) :: res) a w := by
  have hst : Stay (Shr Γ.H res w) (Shr Γ.H ((r, none) :: res) w) w w := fun bb hb => ⟨⟨hb.1, fun r' v' c' hr' => by
    rw [lr_cons] at hr'
    split at hr'
    · cases hr'
    · exact hb.2.1 r' v' c' hr', hb.2.2⟩, rfl⟩
  have hsub : ∀ r' v' c', lr ((r, none) :: res) r' = some (v', c') → r ≠ r' ∧ lr res r' = some (v', c') := fun r' v' c' hr' => by
    rw [lr_cons] at hr'
    split at hr'
    · cases hr'
    · exact ⟨‹_›, hr'⟩
  refine ⟨ha.size, ha.defers, fun t' e ht' => ?_, fun r' v' c' hr' => (ha.conts r' v' c' (hsub _ _ _ hr').2).mono hst (fun _ _ => rfl), fun r1 v1 c1 r2 v2 c2 h1 h2 hne => ha.excl r1 v1 c1 r2 v2 c2 (hsub _ _ _ h1).2 (hsub _ _ _ h2).2 hne, fun r' v' c' hr' => ha.own r' v' c' (hsub _ _ _ hr').2, ha.keep, ha.old, ha.hid⟩
  rw [lk_put] at ht'
  split at ht'
  · rename_i hh; cases ht'
    obtain ⟨u, h1, rfl, -⟩ := ha.slots t' _ (ht.get hh)
    obtain ⟨xs, h3, h4⟩ := list_owns (ha.conts r u _ hr)
    obtain ⟨p, c, rfl⟩ := slice_form h3
    refine ⟨_, h1, _, ⟨p, c, xs, rfl, Rd.of_own h3, h4.mono hst, fun hne bb hbb => ?_⟩, rfl⟩
    have hbb : rblk (.slice p b.length c) = some bb := by rw [rblk_own, sblk_own]; exact hbb
    refine ⟨(ha.conts r _ _ hr).lt hbb, fun r' v' c' hr' e => ?_, fun hH => ha.own r _ _ hr bb hbb (ha.hid bb hH)⟩
    obtain ⟨k1, k2⟩ := hsub _ _ _ hr'
    exact ha.excl r _ _ r' v' c' hr k2 k1 bb hbb e
  · obtain ⟨u, h1, h2⟩ := ha.slots t' e ht'
    exact ⟨u, h1, e.mono hst h2⟩
theorem xFrz {α : Type} {X : ρ → Act → World → Prop} {R : Rep α} {T : TypeId} {b : List α} {v : Value} (r : Nat) (ts : List Nat) (hr : lr res r = some (v, .list R T b)) (ht : FrL l v ts) (k : GX X (Sta Γ (ts.map (fun t => (t, .rd (sliceR R) b)) ++ l) ((r, none) :: res)) m) : GX X (Sta Γ l res) m := fun a w ha => k a w (ha.frz r ts hr ht)
/-- no slice, read as a list -/
theorem Sta.rdNil {a : Act} {w : World} (ha : Sta Γ l res a w) {α : Type} (R : Rep α) (t : Nat) (ht : lk l t = some (.val (.slice none 0 0))) : Sta Γ ((t, .rd (sliceR R) []) :: l) res a w := by
  refine { ha with slots := fun t' e' ht' => ?_ }
  rw [lk_cons] at ht'
  split at ht'
  · rename_i hh; subst hh; cases ht'
    obtain ⟨u, h1, rfl, -⟩ := ha.slots t _ ht
    exact ⟨_, h1, [_], ⟨none, 0, [], rfl, Rd.nil _ _, rfl, by simp⟩, rfl⟩
  · exact ha.slots t' e' ht'
theorem xRdNil {X : ρ → Act → World → Prop} {α : Type} (R : Rep α) (t : Nat) (ht : lk l t = some (.val (.slice none 0 0))) (k : GX X (Sta Γ ((t, .rd (sliceR R) []) :: l) res) m) : GX X (Sta Γ l res) m := fun a w ha => k a w (ha.rdNil R t ht)
end
end Go.Proofs.Ytklfgpdfongaeaa
