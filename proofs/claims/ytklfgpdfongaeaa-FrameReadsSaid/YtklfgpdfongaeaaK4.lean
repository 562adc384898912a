/- Memory: what the call owns, and what it reads; one law for each operation on memory, over data. Over any program. -/
import Derived.Test.YtklfgpdfongaeaaK3
namespace Go.Proofs.Ytklfgpdfongaeaa
open Go Go.RowKit
set_option linter.unusedSimpArgs false
set_option linter.unusedVariables false

/-! ### a part of a datum -/
/-- Off cells in, the datum x of R has the part y of T; set puts another one there. -/
def Part {α β : Type} (R : Rep β) (x : β) (off : Nat) (T : Rep α) (y : α) (set : α → β) : Prop :=
  ∀ S w cs, R.rel S w cs x → ∃ a c d, cs = a ++ c ++ d ∧ a.length = off ∧ T.rel S w c y ∧ ∀ S' w' c' y', Stay S S' w w' → T.rel S' w' c' y' → R.rel S' w' (a ++ c' ++ d) (set y')
theorem Part.fst {α β : Type} {R : Rep α} {T : Rep β} {x : α × β} : Part (prodR R T) x 0 R x.1 (fun y => (y, x.2)) := fun S w cs h => by
  obtain ⟨c, d, rfl, h1, h2⟩ := h
  exact ⟨[], c, d, by simp, rfl, h1, fun S' w' c' y' k h' => ⟨c', d, by simp, h', T.mono k h2⟩⟩
theorem Part.snd {α β γ : Type} {R : Rep α} {T : Rep β} {x : α × β} {off : Nat} {U : Rep γ} {y : γ} {set : γ → β} (p : Part T x.2 off U y set) : Part (prodR R T) x (R.sz + off) U y (fun y => (x.1, set y)) := fun S w cs h => by
  obtain ⟨c, d, rfl, h1, h2⟩ := h
  obtain ⟨a, c1, d1, rfl, ha, hc, hs⟩ := p S w d h2
  exact ⟨c ++ a, c1, d1, by simp, by simp [R.len h1, ha], hc, fun S' w' c' y' k h' => ⟨c, a ++ c' ++ d1, by simp, R.mono k h1, hs S' w' c' y' k h'⟩⟩
theorem Part.via {α β γ : Type} {R : Rep α} {g : β → α} {x : β} {off : Nat} {U : Rep γ} {y : γ} {set : γ → α} {set' : γ → β} (p : Part R (g x) off U y set) (e : ∀ y, g (set' y) = set y) : Part (viaR g R) x off U y set' := fun S w cs h => by
  obtain ⟨a, c1, d1, h1, ha, hc, hs⟩ := p S w cs h
  exact ⟨a, c1, d1, h1, ha, hc, fun S' w' c' y' k h' => by show R.rel S' w' _ (g (set' y')); rw [e]; exact hs S' w' c' y' k h'⟩
theorem Part.all {α : Type} {R : Rep α} {x : α} : Part R x 0 R x id := fun S w cs h => ⟨[], cs, [], by simp, rfl, h, fun S' w' c' y' k h' => by simpa using h'⟩
theorem Part.tr {α β γ : Type} {R : Rep α} {T : Rep β} {U : Rep γ} {x : α} {y : β} {z : γ} {o1 o2 : Nat} {s1 : β → α} {s2 : γ → β} (p : Part R x o1 T y s1) (q : Part T y o2 U z s2) : Part R x (o1 + o2) U z (fun z => s1 (s2 z)) := fun S w cs h => by
  obtain ⟨a, c, d, rfl, ha, hc, hs⟩ := p S w cs h
  obtain ⟨a2, c2, d2, rfl, ha2, hc2, hs2⟩ := q S w c hc
  exact ⟨a ++ a2, c2, d2 ++ d, by simp, by simp [ha, ha2], hc2, fun S' w' c' y' k h' => by
    have := hs S' w' _ _ k (hs2 S' w' c' y' k h')
    simpa using this⟩
/-- an element, at an index as Go has it -/
def idx {α : Type} (l : List α) (i : Int) : Option α := if 0 ≤ i then l[i.toNat]? else none
theorem idx_some {α : Type} {l : List α} {i : Int} {x : α} (h : idx l i = some x) : 0 ≤ i ∧ l[i.toNat]? = some x ∧ i.toNat < l.length := by
  unfold idx at h
  split at h
  · exact ⟨‹_›, h, (List.getElem?_eq_some_iff.1 h).1⟩
  · cases h
def vidx {α : Type} {n : Nat} (v : Vector α n) (i : Int) : Option α := idx v.toList i
theorem vidx_lt {α : Type} {n : Nat} {v : Vector α n} {i : Int} {x : α} (h : vidx v i = some x) : 0 ≤ i ∧ i.toNat < n := by
  obtain ⟨h1, _, h2⟩ := idx_some h; simp at h2; exact ⟨h1, h2⟩
def vset {α : Type} {n : Nat} (v : Vector α n) (i : Int) (x : α) : Vector α n := v.setIfInBounds i.toNat x
theorem Part.el {α : Type} {n : Nat} {R : Rep α} {v : Vector α n} {i : Int} {x : α} (h : vidx v i = some x) : Part (arrR n R) v (i.toNat * R.sz) R x (fun y => vset v i y) := fun S w cs hr => by
  obtain ⟨-, h2, -⟩ := idx_some h
  obtain ⟨a, c, d, h3, h4, h5, h6⟩ := relL.split (show relL R S w cs v.toList from hr) h2
  refine ⟨a, c, d, h3, h4, h5, fun S' w' c' y' k h' => ?_⟩
  have := h6 c' y' S' w' k h'
  show relL R S' w' _ (vset v i y').toList
  unfold vset
  rw [Vector.toList_setIfInBounds]
  exact this

/-! ### a place in what the call owns -/
def base : Value → Option Nat
  | .slice (some ⟨b, 0, none⟩) _ _ => some b
  | .pointer (some ⟨b, 0, none⟩) => some b
  | _ => none
theorem base_rblk {v : Value} {b : Nat} (h : base v = some b) : rblk v = some b := by
  unfold base at h
  split at h <;> simp_all [rblk]
/-- the address k cells into the block of v -/
def ptrTo (v : Value) (k : Nat) : Value := match rblk v with
  | some b => .pointer (some ⟨b, k, none⟩)
  | none => v
theorem ptrTo_base {v : Value} {b k : Nat} (h : base v = some b) : ptrTo v k = .pointer (some ⟨b, k, none⟩) := by unfold ptrTo; rw [base_rblk h]
theorem ptrTo_ptr {b k : Nat} : ptrTo (.pointer (some ⟨b, 0, none⟩)) k = .pointer (some ⟨b, k, none⟩) := rfl
/-- k cells in, what is owned holds the datum x of R; upd says what it holds after a store there. -/
def Foc {α : Type} (c : Cont) (k : Nat) (R : Rep α) (x : α) (upd : α → Cont) : Prop :=
  (∀ S w v, ¬ c.nil S w v) ∧ ∀ S w v o, c.rel S w v o → ∃ b C T a cs d, base v = some b ∧ o = .cells C T (0, 0) ∧ C.toList = a ++ cs ++ d ∧ a.length = k ∧ R.rel S w cs x ∧
    ∀ S' w' cs' x', Stay S S' w w' → R.rel S' w' cs' x' → (upd x').rel S' w' v (.cells (a ++ cs' ++ d).toArray T (0, 0))
theorem Foc.part {α β : Type} {c : Cont} {k : Nat} {R : Rep α} {x : α} {upd : α → Cont} {T : Rep β} {y : β} {off : Nat} {set : β → α} (f : Foc c k R x upd) (p : Part R x off T y set) : Foc c (k + off) T y (fun y => upd (set y)) := ⟨f.1, fun S w v o h => by
  obtain ⟨b, C, Ty, a, cs, d, h1, h2, h3, h4, h5, h6⟩ := f.2 S w v o h
  obtain ⟨a2, c2, d2, rfl, ha2, hc2, hs2⟩ := p S w cs h5
  refine ⟨b, C, Ty, a ++ a2, c2, d2 ++ d, h1, h2, by simp [h3], by simp [h4, ha2], hc2, fun S' w' cs' x' kk h' => ?_⟩
  have := h6 S' w' _ _ kk (hs2 S' w' cs' x' kk h')
  simpa using this⟩
theorem Foc.el {α : Type} {R : Rep α} {T : TypeId} {l : List α} {i : Int} {x : α} (h : idx l i = some x) : Foc (.list R T l) (i.toNat * R.sz) R x (fun y => .list R T (l.set i.toNat y)) := ⟨fun S w v hv => by rw [hv.2] at h; simp [idx] at h, fun S w v o hr => by
  obtain ⟨h0, h2, hlt⟩ := idx_some h
  obtain ⟨b, cap, C, rfl, rfl, h3, h4, h5, h6⟩ := hr
  obtain ⟨a, c, d, h7, h8, h9, h10⟩ := h6.split h2
  refine ⟨b, C, T, a, c, d ++ C.toList.drop (l.length * R.sz), rfl, rfl, ?_, h8, h9, fun S' w' cs' x' k h' => ?_⟩
  · rw [← List.append_assoc, ← h7, List.take_append_drop]
  · have h11 := h10 cs' x' S' w' k h'
    have hlen : (a ++ cs' ++ d).length = l.length * R.sz := by have := h11.len; simpa using this
    refine ⟨b, cap, _, by rw [List.length_set], rfl, by simpa using h3, h4, ?_, ?_⟩
    · have h12 : C.toList.length = cap * R.sz := by simpa using h5
      have h13 : l.length * R.sz ≤ cap * R.sz := Nat.mul_le_mul_right _ h3
      rw [← List.append_assoc]
      simp only [List.size_toArray, List.length_append, List.length_drop, h12] at hlen ⊢
      omega
    · rw [List.length_set, ← List.append_assoc]
      show relL R S' w' (List.take (l.length * R.sz) (a ++ cs' ++ d ++ _)) _
      rw [← hlen, List.take_left']
      · exact h11
      · rfl⟩
theorem catC_cons (v : Value) (vs : List Value) : catC (v :: vs) = v.cells.toList ++ catC vs := rfl
theorem Foc.here {α : Type} {R : Rep α} {T : TypeId} {x : α} {es : List Ent} : Foc (.box T (.rd R x :: es)) 0 R x (fun y => .box T (.rd R y :: es)) := ⟨fun _ _ v h => h, fun S w v o hr => by
  obtain ⟨b, vs, rfl, rfl, h⟩ := hr
  match vs, h with
  | u :: vs, ⟨⟨cs, h1, h2⟩, h3⟩ =>
    subst h2
    refine ⟨b, _, T, [], cs, catC vs, rfl, rfl, by simp [catC_cons, Rep.val_cells h1], rfl, h1, fun S' w' cs' x' k h' => ?_⟩
    exact ⟨b, R.val cs' :: vs, rfl, by simp [catC_cons, Rep.val_cells h'], ⟨cs', h', rfl⟩, h3.mono k⟩⟩
/-- what an entry's value fills -/
def Ent.fills (e : Ent) (n : Nat) : Prop := ∀ S w v, e.holds S w v → v.cells.size = n
theorem fills_rd {α : Type} {R : Rep α} {x : α} : (Ent.rd R x).fills R.sz := fun S w v h => by
  obtain ⟨cs, h1, rfl⟩ := h
  rw [← Array.length_toList, Rep.val_cells h1, R.len h1]
theorem fills_val {u : Value} : (Ent.val u).fills 1 := fun S w v h => by
  obtain ⟨rfl, h⟩ := h
  rw [oneCell_cells h]; rfl
theorem Foc.next {α : Type} {e : Ent} {R : Rep α} {T : TypeId} {x : α} {es : List Ent} {n k : Nat} {upd : α → List Ent} (h : e.fills n) (f : Foc (.box T es) k R x (fun y => .box T (upd y))) : Foc (.box T (e :: es)) (n + k) R x (fun y => .box T (e :: upd y)) := ⟨fun _ _ v h => h, fun S w v o hr => by
  obtain ⟨b, vs, rfl, rfl, hh⟩ := hr
  match vs, hh with
  | u :: vs, ⟨h1, h3⟩ =>
    obtain ⟨b', C, T', a, cs, d, k1, k2, k3, k4, k5, k6⟩ := f.2 S w (.pointer (some ⟨b, 0, none⟩)) (.cells (catC vs).toArray T (0, 0)) ⟨b, vs, rfl, rfl, h3⟩
    cases k1
    simp only [Obj.cells.injEq, and_true] at k2
    obtain ⟨rfl, rfl⟩ := k2
    have k3 : catC vs = a ++ cs ++ d := k3
    have hu : u.cells.toList.length = n := by have := h S w u h1; simpa using this
    refine ⟨b, _, T, u.cells.toList ++ a, cs, d, rfl, rfl, by simp [catC_cons, k3], by simp [hu, k4], k5, fun S' w' cs' x' k h' => ?_⟩
    obtain ⟨b2, vs2, e1, e2, e3⟩ := k6 S' w' cs' x' k h'
    cases e1
    simp only [Obj.cells.injEq, and_true] at e2
    have e2 : a ++ cs' ++ d = catC vs2 := congrArg Array.toList e2
    exact ⟨b, u :: vs2, rfl, by simp [catC_cons, ← e2], e.mono k h1, e3⟩⟩

section
variable {C : World → World → Prop} {ρ : Type} {P : Program} {Γ : Ctx} {l : Slots} {res : Res} {m : Option ρ} {os rest : List Oper} {N : ρ → Exit → Act → World → Prop}
  {d : Tmp} {ty : TypeId} {pos : String} {after : Array Edge} {g : Option (Nat × Bool)}

theorem lr_cons {r r' : Nat} {x : Option (Value × Cont)} : lr ((r, x) :: res) r' = if r = r' then x else lr res r' := by
  unfold lr; rw [lk_cons]; split <;> rfl
/-- A resource is new, or is written. -/
theorem Sta.upd {a : Act} {w w' : World} (h : Sta Γ l res a w) (r : Nat) {v : Value} {c : Cont} {wr : Option Nat} (hg : w.grownBy w' wr)
    (hwr : ∀ b, wr = some b → ∃ v0 c0, lr res r = some (v0, c0) ∧ rblk v0 = some b)
    (hv : ∀ b, rblk v = some b → (∃ v0 c0, lr res r = some (v0, c0) ∧ rblk v0 = some b) ∨ w.heap.size ≤ b)
    (hc : ∀ S', Stay (Shr Γ.H res w) S' w w' → c.holds S' w' v) : Sta Γ l ((r, some (v, c)) :: res) a w' ∧ Stay (Shr Γ.H res w) (Shr Γ.H ((r, some (v, c)) :: res) w') w w' := by
  have hold : ∀ b, b < w.heap.size → wr ≠ some b → w'.heap[b]? = w.heap[b]? := fun b hb hn => hg.block b hb (fun e => hn e.symm)
  have hst : Stay (Shr Γ.H res w) (Shr Γ.H ((r, some (v, c)) :: res) w') w w' := fun b hb => by
    refine ⟨⟨Nat.lt_of_lt_of_le hb.1 hg.size, fun r' v' c' hr' => ?_, hb.2.2⟩, hold b hb.1 (fun e => ?_)⟩
    · rw [lr_cons] at hr'
      split at hr'
      · cases hr'
        intro e
        rcases hv b e with ⟨v0, c0, h1, h2⟩ | h1
        · exact hb.2.1 r v0 c0 h1 h2
        · have := hb.1; omega
      · exact hb.2.1 r' v' c' hr'
    · obtain ⟨v0, c0, h1, h2⟩ := hwr b e
      exact hb.2.1 r v0 c0 h1 h2
  have hother : ∀ r' v' c', r ≠ r' → lr res r' = some (v', c') → ∀ b, rblk v' = some b → w'.heap[b]? = w.heap[b]? := fun r' v' c' hne hr' b hb => by
    refine hold b ((h.conts r' v' c' hr').lt hb) (fun e => ?_)
    obtain ⟨v0, c0, h1, h2⟩ := hwr b e
    exact h.excl r v0 c0 r' v' c' h1 hr' hne b h2 hb
  have hsep : ∀ r' v' c', r ≠ r' → lr res r' = some (v', c') → ∀ b, rblk v = some b → rblk v' ≠ some b := fun r' v' c' hne hr' b hb e => by
    rcases hv b hb with ⟨v0, c0, h1, h2⟩ | h1
    · exact h.excl r v0 c0 r' v' c' h1 hr' hne b h2 e
    · have := (h.conts r' v' c' hr').lt e; omega
  refine ⟨⟨h.size, h.defers, fun t e ht => ?_, fun r' v' c' hr' => ?_, fun r1 v1 c1 r2 v2 c2 h1 h2 hne b hb => ?_, fun r' v' c' hr' b hb => ?_, ?_, h.old, ?_⟩, hst⟩
  · obtain ⟨u, h1, h2⟩ := h.slots t e ht
    exact ⟨u, h1, e.mono hst h2⟩
  · rw [lr_cons] at hr'
    split at hr'
    · cases hr'; exact hc _ hst
    · rename_i hne
      exact (h.conts r' v' c' hr').mono hst (hother r' v' c' hne hr')
  · rw [lr_cons] at h1 h2
    split at h1
    · rename_i he; subst he; cases h1
      rw [if_neg hne] at h2
      exact hsep r2 v2 c2 hne h2 b hb
    · rename_i hn1
      split at h2
      · rename_i he; subst he; cases h2
        exact fun e => hsep r1 v1 c1 hn1 h1 b e hb
      · exact h.excl r1 v1 c1 r2 v2 c2 h1 h2 hne b hb
  · rw [lr_cons] at hr'
    split at hr'
    · cases hr'
      rcases hv b hb with ⟨v0, c0, h1, h2⟩ | h1
      · exact h.own r v0 c0 h1 b h2
      · intro hK; have := h.old_lt hK; omega
    · exact h.own r' v' c' hr' b hb
  · exact h.keep.gr hg (fun b hK => ⟨h.old_lt hK, fun e => by
      obtain ⟨v0, c0, h1, h2⟩ := hwr b e
      exact h.own r v0 c0 h1 b h2 hK⟩)
  · exact h.hid
/-- a slot is written -/
theorem lPut {a : Act} {w : World} {o : Oper} {v : Value} {e : Ent} {w' : World} {K : Act → World → Prop} (ha : Sta Γ l res a w') (hd : o.dst = some d) (hn : Nat.blt d Γ.n = true) (he : e.holds (Shr Γ.H res w') w' v)
    (k : ∀ a', Sta Γ ((d, e) :: l) res a' w' → K a' w') : K (a.put o.dst v) w' := by rw [hd]; exact k _ (ha.put hn he)

/-- the zero value as entries -/
def ZeroIs (z : Value) (es : List Ent) : Prop := ∀ S w, ∃ vs, catC vs = z.cells.toList ∧ holdsL S w es vs
theorem ZeroIs.rd {α : Type} {R : Rep α} {x : α} {z : Value} (h : ∀ S w, R.rel S w z.cells.toList x) : ZeroIs z [.rd R x] := fun S w =>
  ⟨[R.val z.cells.toList], by simp [catC, Rep.val_cells (h S w)], ⟨_, h S w, rfl⟩, trivial⟩
theorem box_new {w : World} {C : Array Value} {T : TypeId} {es : List Ent} {vs : List Value} (hC : C = (catC vs).toArray) {S S' : Blk} (h : holdsL S w es vs) (k : Stay S S' w (w.alloc (.cells C T))) :
    (Cont.box T es).holds S' (w.alloc (.cells C T)) (.pointer (some ⟨w.heap.size, 0, none⟩)) :=
  .inr ⟨w.heap.size, _, rfl, heap_alloc_new _ _, w.heap.size, vs, rfl, by rw [hC], h.mono k⟩
theorem new_gr (w : World) (o : Obj) : w.grownBy (w.alloc o) none := (Ext.al w o).gb
/-- what an operation on resource r may write -/
def Grew (res : Res) (r : Nat) (w w' : World) : Prop := ∃ wr : Option Nat, w.grownBy w' wr ∧ ∀ b, wr = some b → ∃ v0 c0, lr res r = some (v0, c0) ∧ rblk v0 = some b
/-- An operation that yields a value, and leaves it, or what is behind it, as resource r. -/
def Eff (P : Program) (Γ : Ctx) (l : Slots) (res : Res) (o : Oper) (r : Nat) (x : Value → Value × Cont) : Prop := ∀ a w, Sta Γ l res a w →
  ∃ w' u, (execOp a.eval o).run P w = .ok (.value u) w' ∧ (Sta Γ l ((r, some (x u)) :: res) a w' ∧ Stay (Shr Γ.H res w) (Shr Γ.H ((r, some (x u)) :: res) w') w w') ∧ u.oneCell' = true ∧ Grew res r w w'
/-- An operation that writes to resource r. -/
def EffS (P : Program) (Γ : Ctx) (l : Slots) (res : Res) (o : Oper) (r : Nat) (x : Value × Cont) : Prop := ∀ a w, Sta Γ l res a w →
  ∃ w', (execOp a.eval o).run P w = .ok .skip w' ∧ (Sta Γ l ((r, some x) :: res) a w' ∧ Stay (Shr Γ.H res w) (Shr Γ.H ((r, some x) :: res) w') w w') ∧ Grew res r w w'
theorem Ef {r : Nat} {op : Op} {x : Value → Value × Cont} (hn : Nat.blt d Γ.n = true) (he : Eff P Γ l res ⟨some d, op, ty, pos, after, none⟩ r x)
    (k : ∀ u, GL P os (Sta Γ ((d, .val u) :: l) ((r, some (x u)) :: res)) rest N m) : GL P os (Sta Γ l res) (⟨some d, op, ty, pos, after, none⟩ :: rest) N m := fun a w ha ρ hm => by
  obtain ⟨w', u, h1, ⟨h2, _⟩, h3, _⟩ := he a w ha
  exact st (g_none rfl) h1 (k u _ _ (h2.put hn ⟨rfl, h3⟩) ρ hm)
theorem Efg {r : Nat} {o : Oper} {x : Value → Value × Cont} (g : Grd os l o true) (hd : o.dst = some d) (hn : Nat.blt d Γ.n = true) (he : Eff P Γ l res o r x)
    (k : ∀ u, GL P os (Sta Γ ((d, .val u) :: l) ((r, some (x u)) :: res)) rest N m) : GL P os (Sta Γ l res) (o :: rest) N m := fun a w ha ρ hm => by
  obtain ⟨w', u, h1, ⟨h2, _⟩, h3, _⟩ := he a w ha
  refine st (g.wanted ha) h1 ?_
  rw [hd]; exact k u _ _ (h2.put hn ⟨rfl, h3⟩) ρ hm
theorem Es {r : Nat} {op : Op} {x : Value × Cont} (he : EffS P Γ l res ⟨none, op, ty, pos, after, none⟩ r x)
    (k : GL P os (Sta Γ l ((r, some x) :: res)) rest N m) : GL P os (Sta Γ l res) (⟨none, op, ty, pos, after, none⟩ :: rest) N m := fun a w ha ρ hm => by
  obtain ⟨w', h1, ⟨h2, _⟩, _⟩ := he a w ha
  exact st0 (g_none rfl) h1 rfl (k a w' h2 ρ hm)
theorem Esg {r : Nat} {o : Oper} {x : Value × Cont} (g : Grd os l o true) (hd : o.dst = none) (he : EffS P Γ l res o r x)
    (k : GL P os (Sta Γ l ((r, some x) :: res)) rest N m) : GL P os (Sta Γ l res) (o :: rest) N m := fun a w ha ρ hm => by
  obtain ⟨w', h1, ⟨h2, _⟩, _⟩ := he a w ha
  exact st0 (g.wanted ha) h1 hd (k a w' h2 ρ hm)
theorem allc (r : Nat) {T : TypeId} {z : Value} {sz by_ : Nat} {es : List Ent} (hT : TI P T z sz by_) (hz : ZeroIs z es) : Eff P Γ l res ⟨some d, .alloc T, ty, pos, after, g⟩ r (fun v => (v, .box T es)) := fun a w ha => by
  have hrun : (execOp a.eval ⟨some d, .alloc T, ty, pos, after, g⟩).run P w = .ok (.value (.pointer (some ⟨w.heap.size, 0, none⟩))) (w.alloc (.cells z.cells T)) := by
    simp [execOp, Instr.alloc, run_zero hT, newVar, newRow]
  obtain ⟨vs, h1, h2⟩ := hz (Shr Γ.H res w) w
  exact ⟨_, _, hrun, ha.upd r (c := .box T es) (new_gr w (.cells z.cells T)) (by simp) (fun b hb => .inr (by simp [rblk] at hb; omega)) (v := .pointer (some ⟨w.heap.size, 0, none⟩))
    (fun S' k' => box_new (by rw [h1]) h2 k'), rfl, none, new_gr w _, by simp⟩
theorem bx (r : Nat) {T : TypeId} {x : Operand} {e : Ent} (hx : opE l x = some e) : Eff P Γ l res ⟨some d, .box T x, ty, pos, after, g⟩ r (fun v => (v, .box T [e])) := fun a w ha => by
  have hrun : (execOp a.eval ⟨some d, .box T x, ty, pos, after, g⟩).run P w = .ok (.value (.pointer (some ⟨w.heap.size, 0, none⟩))) (w.alloc (.cells (a.eval x).cells T)) := by
    simp [execOp, Instr.box, newVar, newRow]
  exact ⟨_, _, hrun, ha.upd r (c := .box T [e]) (new_gr w (.cells (a.eval x).cells T)) (by simp) (fun b hb => .inr (by simp [rblk] at hb; omega)) (v := .pointer (some ⟨w.heap.size, 0, none⟩))
    (fun S' k' => box_new (vs := [a.eval x]) (by simp [catC]) ⟨ha.vl hx, trivial⟩ k'), rfl, none, new_gr w _, by simp⟩
theorem base_ptr {w : World} {es : List Ent} {T : TypeId} {S : Blk} {v : Value} (h : (Cont.box T es).holds S w v) : ptrTo v 0 = v := by
  rcases h with h | ⟨b, o, _, _, b', vs, rfl, _⟩
  · exact h.elim
  · rfl

/-! ### reading -/
/-- the type of a value: aggregate or not, as the program has it -/
def TyIs (P : Program) (t : TypeId) (agg : Bool) (sz : Nat) : Prop := if agg then Ag P t ∧ ∃ z by_, TI P t z sz by_ else Sc P t
theorem Bx.load {w : World} {b : Nat} {C : Array Value} {T : TypeId} {t : TypeId} {α : Type} {R : Rep α} {x : α} {S : Blk} {a cs dd : List Value} (hb : w.heap[b]? = some (.cells C T (0, 0))) (hC : C.toList = a ++ cs ++ dd) (hr : R.rel S w cs x) (hT : TyIs P t R.agg R.sz) :
    (loadVar t ⟨b, a.length, none⟩).run P w = .ok (R.val cs) w := by
  have hB : Bx w b C T := hb
  unfold TyIs at hT
  unfold Rep.val
  have hcell : ∀ j u, cs[j]? = some u → w.cell? ((⟨b, a.length, none⟩ : Addr).add j) = some u := hB.cells (by rw [hC]; simp)
  cases ha : R.agg with
  | true =>
    rw [ha, if_pos rfl] at hT
    obtain ⟨h1, z, by_, h2⟩ := hT
    exact run_loadA h1 h2 (R.len hr) hcell
  | false =>
    rw [ha, if_neg (by simp)] at hT
    have h1 := R.len hr
    rw [R.scal ha] at h1
    match cs, h1 with
    | [u], _ =>
      have := hcell 0 u rfl
      exact run_load1 hT (by simpa [Addr.add] using this)
/-- a datum in what the call owns is read -/
theorem ld {ws : List Nat} [LC C res ws] {α : Type} {R : Rep α} {x' : α} {upd : α → Cont} {t : TypeId} {x : Operand} {v : Value} {c : Cont} {k : Nat} (r : Nat) (hx : opE l x = some (.val (ptrTo v k))) (hr : lr res r = some (v, c)) (hf : Foc c k R x' upd) (hT : TyIs P t R.agg R.sz) (hw : ws.contains r = false) :
    Run C P Γ l res ⟨some d, .load t x, ty, pos, after, g⟩ (.rd R x') := fun a w ha => by
  have h1 := (ha.vl hx).1
  rcases ha.conts r v c hr with h2 | ⟨b, o, h2, h3, h4⟩
  · exact (hf.1 _ _ v h2).elim
  · obtain ⟨b', Cc, T, a', cs, dd, k1, rfl, k3, rfl, k5, -⟩ := hf.2 _ w v o h4
    rw [ptrTo_base k1] at h1
    have e : b' = b := by have := base_rblk k1; rw [h2] at this; cases this; rfl
    subst e
    refine ⟨R.val cs, fun w' hw' => ?_, cs, k5, rfl⟩
    have hb' : w'.heap[b']? = some (.cells Cc T (0, 0)) := (CW.at hw' ha hr h2 hw).trans h3
    have := Bx.load (P := P) hb' k3 (R.mono (CW.stay hw') k5) hT
    simp [execOp, h1, Instr.loadAt, Instr.sureAddr, this]
/-- an entry that is no datum, in a variable of the call's own -/
def At (es : List Ent) (k : Nat) (e : Ent) : Prop := ∃ pre post, es = pre ++ e :: post ∧ ∀ S w vs, holdsL S w pre vs → (catC vs).length = k
theorem At.here {e : Ent} {es : List Ent} : At (e :: es) 0 e := ⟨[], es, rfl, fun S w vs h => by match vs, h with | [], _ => rfl⟩
theorem At.next {e e' : Ent} {es : List Ent} {n k : Nat} (h : e'.fills n) (p : At es k e) : At (e' :: es) (n + k) e := by
  obtain ⟨pre, post, rfl, hk⟩ := p
  refine ⟨e' :: pre, post, rfl, fun S w vs hh => ?_⟩
  match vs, hh with
  | u :: vs, ⟨h1, h2⟩ =>
    have h3 := h S w u h1
    rw [catC_cons, List.length_append, hk S w vs h2]
    simp [h3]
theorem holdsL.app {S w} : ∀ {pre post : List Ent} {vs}, holdsL S w (pre ++ post) vs → ∃ us ts, vs = us ++ ts ∧ holdsL S w pre us ∧ holdsL S w post ts
  | [], post, vs, h => ⟨[], vs, rfl, trivial, h⟩
  | e :: pre, post, v :: vs, h => by
    obtain ⟨us, ts, rfl, h1, h2⟩ := holdsL.app h.2
    exact ⟨v :: us, ts, rfl, ⟨h.1, h1⟩, h2⟩
  | e :: pre, post, [], h => h.elim
theorem holdsL.mk {S w} : ∀ {pre post : List Ent} {us ts}, holdsL S w pre us → holdsL S w post ts → holdsL S w (pre ++ post) (us ++ ts)
  | [], post, [], ts, _, h => h
  | e :: pre, post, u :: us, ts, h, h2 => ⟨h.1, holdsL.mk h.2 h2⟩
  | [], _, _ :: _, _, h, _ => h.elim
  | _ :: _, _, [], _, h, _ => h.elim
/-- what stands in a variable is read (a pointer, a slice of the call's own) -/
theorem ldV {ws : List Nat} [LC C res ws] {t T : TypeId} {x : Operand} {v u : Value} {es : List Ent} {k : Nat} (r : Nat) (hx : opE l x = some (.val (ptrTo v k))) (hr : lr res r = some (v, .box T es)) (hf : At es k (.val u)) (hT : Sc P t) (hw : ws.contains r = false) :
    Run C P Γ l res ⟨some d, .load t x, ty, pos, after, g⟩ (.val u) := fun a w ha => by
  have h1 := (ha.vl hx).1
  rcases ha.conts r v _ hr with h2 | ⟨b, o, h2, h3, b', vs, rfl, rfl, h4⟩
  · exact h2.elim
  · simp only [rblk, Option.some.injEq] at h2
    subst h2
    obtain ⟨pre, post, rfl, hk⟩ := hf
    obtain ⟨us, ts, rfl, h5, h6⟩ := h4.app
    match ts, h6 with
    | y :: ts, ⟨h7, h8⟩ =>
      obtain ⟨rfl, h9⟩ := h7
      have hl := hk _ _ _ h5
      rw [ptrTo_ptr] at h1
      refine ⟨y, fun w' hw' => ?_, rfl, h9⟩
      have hb' : Bx w' b' (catC (us ++ y :: ts)).toArray T := (CW.at hw' ha hr rfl hw).trans h3
      have hc : w'.cell? ⟨b', k, none⟩ = some y := by
        rw [hb'.cell]
        subst hl
        simp [catC, oneCell_cells h9]
      exact q0_load hT h1 hc
/-- a datum behind a pointer that only reads -/
theorem ldR {ws : List Nat} [LC C res ws] {α : Type} {R : Rep α} {x' : α} {t : TypeId} {x : Operand} (hx : opE l x = some (.rp R x')) (hT : TyIs P t R.agg R.sz) :
    Run C P Γ l res ⟨some d, .load t x, ty, pos, after, g⟩ (.rd R x') := fun a w ha => by
  obtain ⟨b, o, cs, h1, h2, h3, h4⟩ := ha.vl hx
  refine ⟨R.val cs, fun w' hw' => ?_, cs, h3, rfl⟩
  have hcell : ∀ j u, cs[j]? = some u → w'.cell? ((⟨b, o, none⟩ : Addr).add j) = some u := fun j u hu => by
    rw [add_none]
    have := h4 j u hu
    unfold World.cell? at this ⊢
    rw [CW.shr hw' h2]; exact this
  have : (loadVar t ⟨b, o, none⟩).run P w' = .ok (R.val cs) w' := by
    unfold TyIs at hT
    unfold Rep.val
    cases hag : R.agg with
    | true =>
      rw [hag, if_pos rfl] at hT
      obtain ⟨k1, z, by_, k2⟩ := hT
      exact run_loadA k1 k2 (R.len h3) hcell
    | false =>
      rw [hag, if_neg (by simp)] at hT
      have k1 := R.len h3
      rw [R.scal hag] at k1
      match cs, k1 with
      | [u], _ => exact run_load1 hT (by simpa [Addr.add] using hcell 0 u rfl)
  simp [execOp, h1, Instr.loadAt, Instr.sureAddr, this]

/-! ### addresses -/
theorem add_add (b k n : Nat) : (⟨b, k, none⟩ : Addr).add n = ⟨b, k + n, none⟩ := add_none b k n
/-- a field's address, in what the call owns -/
theorem fa {S : TypeId} {x : Operand} {i : Nat} {v : Value} {k : Nat} {c : Cont} {fs : Array Field} {fd : Field} {z : Value} {sz by_ : Nat} (r : Nat) (hx : opE l x = some (.val (ptrTo v k))) (hr : lr res r = some (v, c)) (hc : ∀ S w v o, c.rel S w v o → ∃ b, base v = some b) (hn : ∀ S w v, ¬ c.nil S w v)
    (hS : P.underlying S = some (.struct fs)) (hi : fs[i]? = some fd) (hF : TI P fd.type z (sz + 1) by_) :
    Run C P Γ l res ⟨some d, .fieldAddr S x i, ty, pos, after, g⟩ (.val (ptrTo v (k + fd.offset))) := fun a w ha => by
  have h1 := (ha.vl hx).1
  rcases ha.conts r v c hr with h2 | ⟨b, o, h2, h3, h4⟩
  · exact (hn _ _ v h2).elim
  · obtain ⟨b', h5⟩ := hc _ w v o h4
    rw [ptrTo_base h5] at h1 ⊢
    exact ⟨_, fun w' _ => q0_fieldAddr hS hi hF h1 (add_none _ _ _), rfl, rfl⟩
theorem box_base {T : TypeId} {es : List Ent} : ∀ S w v o, (Cont.box T es).rel S w v o → ∃ b, base v = some b := fun S w v o h => by
  obtain ⟨b, vs, rfl, _⟩ := h; exact ⟨b, rfl⟩
theorem list_base {α : Type} {R : Rep α} {T : TypeId} {l : List α} : ∀ S w v o, (Cont.list R T l).rel S w v o → ∃ b, base v = some b := fun S w v o h => by
  obtain ⟨b, cap, C, rfl, _⟩ := h; exact ⟨b, rfl⟩
theorem faB {S T : TypeId} {x : Operand} {i : Nat} {v : Value} {k : Nat} {es : List Ent} {fs : Array Field} {fd : Field} {z : Value} {sz by_ : Nat} (r : Nat) (hx : opE l x = some (.val (ptrTo v k))) (hr : lr res r = some (v, .box T es))
    (hS : P.underlying S = some (.struct fs)) (hi : fs[i]? = some fd) (hF : TI P fd.type z (sz + 1) by_) :
    Run C P Γ l res ⟨some d, .fieldAddr S x i, ty, pos, after, g⟩ (.val (ptrTo v (k + fd.offset))) := fa r hx hr box_base (fun _ _ _ h => h) hS hi hF
/-- the same behind a pointer that only reads -/
theorem Part.ptr {α β : Type} {R : Rep β} {x : β} {off : Nat} {T : Rep α} {y : α} {set : α → β} (p : Part R x off T y set) {S : Blk} {w : World} {v : Value} (h : (Ent.rp R x).holds S w v) : ∃ b o, v = .pointer (some ⟨b, o, none⟩) ∧ (Ent.rp T y).holds S w (.pointer (some ⟨b, o + off, none⟩)) := by
  obtain ⟨b, o, cs, rfl, h2, h3, h4⟩ := h
  obtain ⟨a, c, d, rfl, ha, hc, -⟩ := p S w cs h3
  refine ⟨b, o, rfl, b, o + off, c, rfl, h2, hc, fun j u hu => ?_⟩
  have := h4 (off + j) u (by
    rw [List.append_assoc, List.getElem?_append_right (by omega), List.getElem?_append_left]
    · rw [ha, Nat.add_sub_cancel_left]; exact hu
    · have := (List.getElem?_eq_some_iff.1 hu).1; omega)
  rw [Nat.add_assoc]; exact this
theorem faR {α β : Type} {R : Rep β} {x' : β} {off : Nat} {T : Rep α} {y : α} {set : α → β} {S : TypeId} {x : Operand} {i : Nat} {fs : Array Field} {fd : Field} {z : Value} {sz by_ : Nat} (hx : opE l x = some (.rp R x')) (p : Part R x' off T y set)
    (hS : P.underlying S = some (.struct fs)) (hi : fs[i]? = some fd) (ho : fd.offset = off) (hF : TI P fd.type z (sz + 1) by_) :
    Run C P Γ l res ⟨some d, .fieldAddr S x i, ty, pos, after, g⟩ (.rp T y) := fun a w ha => by
  obtain ⟨b, o, h1, h2⟩ := p.ptr (ha.vl hx)
  exact ⟨_, fun w' _ => q0_fieldAddr hS hi hF h1 (add_none _ _ _), by rw [ho]; exact h2⟩
/-- a struct's field, out of a value -/
theorem fld {α β : Type} {R : Rep β} {x' : β} {off : Nat} {T : Rep α} {y : α} {set : α → β} {S : TypeId} {x : Operand} {i : Nat} (hx : opE l x = some (.rd R x')) (p : Part R x' off T y set)
    (hq : ∀ cs c : List Value, c.length = T.sz → (∃ a d, cs = a ++ c ++ d ∧ a.length = off) → ∀ w', (Instr.field S (.agg cs.toArray) i).run P w' = .ok (T.val c) w') (hag : R.agg = true) :
    Run C P Γ l res ⟨some d, .field S x i, ty, pos, after, g⟩ (.rd T y) := fun a w ha => by
  obtain ⟨cs, h1, h2⟩ := ha.vl hx
  obtain ⟨a', c, d', h3, h4, h5, -⟩ := p _ w cs h1
  refine ⟨T.val c, fun w' _ => ?_, c, h5, rfl⟩
  have := hq cs c (T.len h5) ⟨a', d', h3, h4⟩ w'
  have h6 : a.eval x = .agg cs.toArray := by rw [h2]; unfold Rep.val; rw [hag]; rfl
  simp [execOp, h6, this]
/-- an element's address, in a slice that is read -/
theorem ixR {α β : Type} {R : Rep α} {b : List α} {y : α} {k : IntKind} {f : β → Int} {j : β} {x z' : Operand} {T e : TypeId} {z : Value} {by_ : Nat} (hx : opE l x = some (.rd (sliceR R) b)) (hj : opE l z' = some (.rd (numR k f) j)) (hy : idx b (f j) = some y) (hT : P.underlying T = some (.slice e)) (hE : TI P e z R.sz by_) (hsz : Nat.blt 0 R.sz = true) :
    Run C P Γ l res ⟨some d, .indexAddr T x z', ty, pos, after, g⟩ (.rp R y) := fun a w ha => by
  obtain ⟨cs, ⟨p, c, xs, h1, h2, h3, h4⟩, h5⟩ := ha.vl hx
  subst h1
  have hsz : 0 < R.sz := Eq.mp Nat.blt_eq hsz
  have h5 : a.eval x = .slice p b.length c := h5
  obtain ⟨k1, k2, k3⟩ := idx_some hy
  have hj' : a.eval z' = .int k ((f j).toNat : Int) := by rw [rd_num (ha.vl hj)]; congr 1; omega
  obtain ⟨a', c', d', q1, q2, q3, -⟩ := h3.split k2
  have hne : xs ≠ [] := fun e0 => by have := h3.len; rw [e0] at this; have h6 := Nat.mul_pos (show 0 < b.length by omega) hsz; simp at this; omega
  rcases h2.2 with ⟨_, h0⟩ | ⟨b', o, sp, cap, hv, g1, g2, g4, g3⟩
  · omega
  · obtain rfl := g4.resolve_left hne
    simp only [Value.slice.injEq, true_and] at hv
    obtain ⟨rfl, rfl⟩ := hv
    refine ⟨.pointer (some ⟨b', o + (f j).toNat * R.sz, none⟩), fun w' _ => ?_, b', o + (f j).toNat * R.sz, c', rfl, h4 hne b' rfl, q3, fun i u hu => ?_⟩
    · generalize (f j).toNat = jn at *
      simp [execOp, h5, hj', Instr.indexAt, asIntOf, run_underlying hT, k3, run_sizeOf hE, add_none]
    · have hi : i < c'.length := (List.getElem?_eq_some_iff.1 hu).1
      rw [Nat.add_assoc]
      refine g3 _ u ?_
      rw [q1, ← q2, List.append_assoc, List.getElem?_append_right (by omega), Nat.add_sub_cancel_left, List.getElem?_append_left hi]; exact hu
/-- in a slice of the call's own -/
theorem ixO {α β : Type} {R : Rep α} {b : List α} {y : α} {k : IntKind} {f : β → Int} {j : β} {x z' : Operand} {T e E : TypeId} {z v : Value} {by_ : Nat} (r : Nat) (hx : opE l x = some (.val v)) (hr : lr res r = some (v, .list R E b)) (hj : opE l z' = some (.rd (numR k f) j)) (hy : idx b (f j) = some y) (hT : P.underlying T = some (.slice e)) (hE : TI P e z R.sz by_) :
    Run C P Γ l res ⟨some d, .indexAddr T x z', ty, pos, after, g⟩ (.val (ptrTo v ((f j).toNat * R.sz))) := fun a w ha => by
  have h1 := (ha.vl hx).1
  obtain ⟨k1, k2, k3⟩ := idx_some hy
  have hj' : a.eval z' = .int k ((f j).toNat : Int) := by rw [rd_num (ha.vl hj)]; congr 1; omega
  rcases ha.conts r v _ hr with ⟨_, h2⟩ | ⟨b', o, h2, h3, bb, cap, C', rfl, rfl, _⟩
  · rw [h2] at k3; simp at k3
  · refine ⟨.pointer (some ⟨bb, (f j).toNat * R.sz, none⟩), fun w' _ => ?_, rfl, rfl⟩
    generalize (f j).toNat = jn at *
    simp [execOp, h1, hj', Instr.indexAt, asIntOf, run_underlying hT, k3, run_sizeOf hE, add_none]
/-- in an array of the call's own -/
theorem ixB {α β : Type} {n : Nat} {b : Vector α n} {y : α} {k : IntKind} {f : β → Int} {j : β} {x z' : Operand} {T e E : TypeId} {z v : Value} {by_ sz q : Nat} {es : List Ent} (r : Nat) (hx : opE l x = some (.val (ptrTo v q))) (hr : lr res r = some (v, .box E es)) (hj : opE l z' = some (.rd (numR k f) j)) (hy : vidx b (f j) = some y) (hT : P.underlying T = some (.array n e)) (hE : TI P e z sz by_) :
    Run C P Γ l res ⟨some d, .indexAddr T x z', ty, pos, after, g⟩ (.val (ptrTo v (q + (f j).toNat * sz))) := fun a w ha => by
  have h1 := (ha.vl hx).1
  obtain ⟨k1, k3⟩ := vidx_lt hy
  have hj' : a.eval z' = .int k ((f j).toNat : Int) := by rw [rd_num (ha.vl hj)]; congr 1; omega
  rcases ha.conts r v _ hr with h2 | ⟨b', o, h2, h3, bb, vs, rfl, rfl, _⟩
  · exact h2.elim
  · rw [ptrTo_ptr] at h1 ⊢
    exact ⟨_, fun w' _ => q0_indexAddrA hT hE h1 hj' rfl k3 rfl, rfl, rfl⟩
theorem ixP {α β : Type} {n : Nat} {R : Rep α} {b : Vector α n} {y : α} {k : IntKind} {f : β → Int} {j : β} {x z' : Operand} {T e : TypeId} {z : Value} {by_ : Nat} (hx : opE l x = some (.rp (arrR n R) b)) (hj : opE l z' = some (.rd (numR k f) j)) (hy : vidx b (f j) = some y) (hT : P.underlying T = some (.array n e)) (hE : TI P e z R.sz by_) :
    Run C P Γ l res ⟨some d, .indexAddr T x z', ty, pos, after, g⟩ (.rp R y) := fun a w ha => by
  obtain ⟨b', o, h1, h2⟩ := (Part.el hy).ptr (ha.vl hx)
  obtain ⟨k1, k3⟩ := vidx_lt hy
  have hj' : a.eval z' = .int k ((f j).toNat : Int) := by rw [rd_num (ha.vl hj)]; congr 1; omega
  exact ⟨_, fun w' _ => q0_indexAddrA hT hE h1 hj' rfl k3 rfl, h2⟩
end
end Go.Proofs.Ytklfgpdfongaeaa
