/- Data held by values: a value in a world represents a Lean datum. Over any program. No statement of the seat is proved here. -/
import Derived.Test.YtklfgpdfongaeaaLibH
namespace Go.Proofs.Ytklfgpdfongaeaa
open Go Go.RowKit
set_option linter.unusedSimpArgs false
set_option linter.unusedVariables false

abbrev Blk := Nat → Prop
/-- What stays: whatever S has, S' has too, and its blocks are as they were. -/
def Stay (S S' : Blk) (w w' : World) : Prop := ∀ b, S b → S' b ∧ w'.heap[b]? = w.heap[b]?
theorem Stay.rfl' {S w} : Stay S S w w := fun _ h => ⟨h, rfl⟩
theorem Stay.tr {S S1 S2 w w1 w2} (h : Stay S S1 w w1) (k : Stay S1 S2 w1 w2) : Stay S S2 w w2 := fun b hb => ⟨(k b (h b hb).1).1, (k b (h b hb).1).2.trans (h b hb).2⟩

structure Rep (α : Type) where
  sz : Nat
  agg : Bool
  rel : Blk → World → List Value → α → Prop
  len : ∀ {S w cs x}, rel S w cs x → cs.length = sz
  one : ∀ {S w cs x}, rel S w cs x → ∀ u ∈ cs, u.oneCell' = true
  scal : agg = false → sz = 1
  mono : ∀ {S S' w w' cs x}, Stay S S' w w' → rel S w cs x → rel S' w' cs x

def Rep.val {α} (R : Rep α) (cs : List Value) : Value := bif R.agg then .agg cs.toArray else cs.headD undef
def Rep.vrel {α} (R : Rep α) (S : Blk) (w : World) (v : Value) (x : α) : Prop := ∃ cs, R.rel S w cs x ∧ v = R.val cs
theorem Rep.vrel.mono {α} {R : Rep α} {S S' w w' v x} (h : R.vrel S w v x) (k : Stay S S' w w') : R.vrel S' w' v x := by
  obtain ⟨cs, h1, h2⟩ := h; exact ⟨cs, R.mono k h1, h2⟩
theorem oneCell_cells {u : Value} (h : u.oneCell' = true) : u.cells = #[u] := by cases u <;> first | rfl | simp [Value.oneCell'] at h
theorem Rep.val_cells {α} {R : Rep α} {S w cs x} (h : R.rel S w cs x) : (R.val cs).cells.toList = cs := by
  unfold Rep.val
  cases ha : R.agg with
  | true => rfl
  | false =>
    have h1 := R.len h
    rw [R.scal ha] at h1
    match cs, h1 with
    | [u], _ => simp [oneCell_cells (R.one h u (by simp))]

/-- cells that represent a list -/
def relL {α} (R : Rep α) (S : Blk) (w : World) : List Value → List α → Prop
  | cs, [] => cs = []
  | cs, x :: xs => ∃ c d, cs = c ++ d ∧ R.rel S w c x ∧ relL R S w d xs
theorem relL.len {α} {R : Rep α} {S w} : ∀ {l : List α} {cs}, relL R S w cs l → cs.length = l.length * R.sz
  | [], cs, h => by simp only [relL] at h; simp [h]
  | x :: l, cs, h => by
    obtain ⟨c, d, rfl, h1, h2⟩ := h
    simp [R.len h1, relL.len h2, Nat.add_mul, Nat.add_comm]
theorem relL.one {α} {R : Rep α} {S w} : ∀ {l : List α} {cs}, relL R S w cs l → ∀ u ∈ cs, u.oneCell' = true
  | [], cs, h => by simp only [relL] at h; simp [h]
  | x :: l, cs, h => by
    obtain ⟨c, d, rfl, h1, h2⟩ := h
    intro u hu
    rcases List.mem_append.1 hu with h | h
    · exact R.one h1 u h
    · exact relL.one h2 u h
theorem relL.mono {α} {R : Rep α} {S S' w w'} (k : Stay S S' w w') : ∀ {l : List α} {cs}, relL R S w cs l → relL R S' w' cs l
  | [], cs, h => h
  | x :: l, cs, h => by
    obtain ⟨c, d, rfl, h1, h2⟩ := h
    exact ⟨c, d, rfl, R.mono k h1, relL.mono k h2⟩
theorem relL.append {α} {R : Rep α} {S w} : ∀ {l m : List α} {cs ds}, relL R S w cs l → relL R S w ds m → relL R S w (cs ++ ds) (l ++ m)
  | [], m, cs, ds, h, k => by simp only [relL] at h; subst h; exact k
  | x :: l, m, cs, ds, h, k => by
    obtain ⟨c, d, rfl, h1, h2⟩ := h
    exact ⟨c, d ++ ds, by simp, h1, relL.append h2 k⟩
theorem relL.drop {α} {R : Rep α} {S w} : ∀ {l : List α} {cs} (i : Nat), relL R S w cs l → relL R S w (cs.drop (i * R.sz)) (l.drop i)
  | l, cs, 0, h => by simpa using h
  | [], cs, i + 1, h => by simp only [relL] at h; subst h; simp [relL]
  | x :: l, cs, i + 1, h => by
    obtain ⟨c, d, rfl, h1, h2⟩ := h
    have := relL.drop i h2
    have hc := R.len h1
    rw [show (i + 1) * R.sz = c.length + i * R.sz by rw [hc, Nat.add_mul]; omega]
    simpa using this
theorem relL.take {α} {R : Rep α} {S w} : ∀ {l : List α} {cs} (i : Nat), relL R S w cs l → relL R S w (cs.take (i * R.sz)) (l.take i)
  | l, cs, 0, h => by simp [relL]
  | [], cs, i + 1, h => by simp only [relL] at h; subst h; simp [relL]
  | x :: l, cs, i + 1, h => by
    obtain ⟨c, d, rfl, h1, h2⟩ := h
    have := relL.take i h2
    have hc := R.len h1
    rw [show (i + 1) * R.sz = c.length + i * R.sz by rw [hc, Nat.add_mul]; omega]
    rw [List.take_length_add_append]
    exact ⟨c, _, rfl, h1, this⟩
theorem relL.split {α} {R : Rep α} {S w} {x : α} : ∀ {l : List α} {cs} {i : Nat}, relL R S w cs l → l[i]? = some x →
    ∃ a c d, cs = a ++ c ++ d ∧ a.length = i * R.sz ∧ R.rel S w c x ∧ ∀ c' x' S' w', Stay S S' w w' → R.rel S' w' c' x' → relL R S' w' (a ++ c' ++ d) (l.set i x')
  | [], cs, i, h, hx => by simp at hx
  | y :: l, cs, 0, h, hx => by
    obtain ⟨c, d, rfl, h1, h2⟩ := h
    simp only [List.getElem?_cons_zero, Option.some.injEq] at hx
    subst hx
    exact ⟨[], c, d, by simp, by simp, h1, fun c' x' S' w' k h' => ⟨c', d, by simp, h', h2.mono k⟩⟩
  | y :: l, cs, i + 1, h, hx => by
    obtain ⟨c, d, rfl, h1, h2⟩ := h
    simp only [List.getElem?_cons_succ] at hx
    obtain ⟨a, c1, d1, rfl, ha, hr, hs⟩ := relL.split h2 hx
    refine ⟨c ++ a, c1, d1, by simp, by simp [R.len h1, ha, Nat.add_mul]; omega, hr, fun c' x' S' w' k h' => ?_⟩
    exact ⟨c, a ++ c' ++ d1, by simp, R.mono k h1, hs c' x' S' w' k h'⟩
theorem relL.single {α} {R : Rep α} {S w c} {x : α} (h : R.rel S w c x) : relL R S w c [x] := ⟨c, [], by simp, h, rfl⟩
theorem relL.rep {α} {R : Rep α} {S w} {x : α} : ∀ {n cs}, cs.length = n * R.sz →
    (∀ j, j < n → R.rel S w ((cs.drop (j * R.sz)).take R.sz) x) → relL R S w cs (List.replicate n x)
  | 0, cs, h, _ => by simp at h; subst h; rfl
  | n + 1, cs, h, k => by
    rw [List.replicate_succ]
    refine ⟨cs.take R.sz, cs.drop R.sz, by simp, by simpa using k 0 (by omega), relL.rep (n := n) (by simp [h, Nat.add_mul]) fun j hj => ?_⟩
    have := k (j + 1) (by omega)
    rwa [List.drop_drop, show R.sz + j * R.sz = (j + 1) * R.sz by rw [Nat.add_mul]; omega]

/-! ### the representations -/
def numR {α : Type} (k : IntKind) (f : α → Int) : Rep α where
  sz := 1
  agg := false
  rel _ _ cs x := cs = [.int k (f x)]
  len h := by subst h; rfl
  one h := by subst h; intro u hu; simp at hu; subst hu; rfl
  scal _ := rfl
  mono _ h := h
def i64R : Rep Int := numR .i64 id
def i32R : Rep Int := numR .i32 id
def u8R : Rep UInt8 := numR .u8 (fun x => (x.toNat : Int))
def u32R : Rep UInt32 := numR .u32 (fun x => (x.toNat : Int))
def u64R : Rep UInt64 := numR .u64 (fun x => (x.toNat : Int))
def boolR : Rep Bool where
  sz := 1
  agg := false
  rel _ _ cs x := cs = [.bool x]
  len h := by subst h; rfl
  one h := by subst h; intro u hu; simp at hu; subst hu; rfl
  scal _ := rfl
  mono _ h := h
def strR : Rep (List UInt8) where
  sz := 1
  agg := false
  rel _ _ cs x := ∃ s : ByteArray, cs = [.string s] ∧ s.data.toList = x
  len h := by obtain ⟨s, rfl, _⟩ := h; rfl
  one h := by obtain ⟨s, rfl, _⟩ := h; intro u hu; simp at hu; subst hu; rfl
  scal _ := rfl
  mono _ h := h
theorem Rd.stay {S S' w w' p c n sz xs} (h : Rd w (.slice p n c) n sz xs) (hS : xs ≠ [] → ∀ b, sblk p = some b → S b) (k : Stay S S' w w') : Rd w' (.slice p n c) n sz xs := by
  refine ⟨h.1, ?_⟩
  rcases h.2 with h2 | ⟨b, o, sp, cap, hv, h1, h2, h4, h3⟩
  · exact .inl h2
  · refine .inr ⟨b, o, sp, cap, hv, h1, h2, h4, fun j u hu => ?_⟩
    have hb := (k b (hS (fun e => by rw [e] at hu; simp at hu) b (by simp only [Value.slice.injEq] at hv; rw [hv.1]; rfl))).2
    have := h3 j u hu
    unfold World.cell? at this ⊢
    rw [hb]; exact this
def sliceR {α : Type} (R : Rep α) : Rep (List α) where
  sz := 1
  agg := false
  rel S w cs l := ∃ p c xs, cs = [.slice p l.length c] ∧ Rd w (.slice p l.length c) l.length R.sz xs ∧ relL R S w xs l ∧ (xs ≠ [] → ∀ b, sblk p = some b → S b)
  len h := by obtain ⟨p, c, xs, rfl, _⟩ := h; rfl
  one h := by obtain ⟨p, c, xs, rfl, _⟩ := h; intro u hu; simp at hu; subst hu; rfl
  scal _ := rfl
  mono k h := by
    obtain ⟨p, c, xs, h1, h2, h3, h4⟩ := h
    exact ⟨p, c, xs, h1, h2.stay h4 k, h3.mono k, fun hx b hb => (k b (h4 hx b hb)).1⟩
def arrR {α : Type} (n : Nat) (R : Rep α) : Rep (Vector α n) where
  sz := n * R.sz
  agg := true
  rel S w cs v := relL R S w cs v.toList
  len h := by rw [h.len]; simp
  one h := h.one
  scal h := by cases h
  mono k h := h.mono k
def unitR : Rep Unit where
  sz := 0
  agg := true
  rel _ _ cs _ := cs = []
  len h := by subst h; rfl
  one h := by subst h; simp
  scal h := by cases h
  mono _ h := h
def prodR {α β : Type} (R : Rep α) (T : Rep β) : Rep (α × β) where
  sz := R.sz + T.sz
  agg := true
  rel S w cs x := ∃ c d, cs = c ++ d ∧ R.rel S w c x.1 ∧ T.rel S w d x.2
  len h := by obtain ⟨c, d, rfl, h1, h2⟩ := h; simp [R.len h1, T.len h2]
  one h := by
    obtain ⟨c, d, rfl, h1, h2⟩ := h
    intro u hu
    rcases List.mem_append.1 hu with h | h
    · exact R.one h1 u h
    · exact T.one h2 u h
  scal h := by cases h
  mono k h := by obtain ⟨c, d, h1, h2, h3⟩ := h; exact ⟨c, d, h1, R.mono k h2, T.mono k h3⟩
/-- through a map into another type (a struct: into pairs) -/
def viaR {α β : Type} (g : β → α) (R : Rep α) : Rep β where
  sz := R.sz
  agg := R.agg
  rel S w cs x := R.rel S w cs (g x)
  len h := R.len h
  one h := R.one h
  scal h := R.scal h
  mono k h := R.mono k h

/-! ### what a slot holds -/
structure Ent where
  holds : Blk → World → Value → Prop
  mono : ∀ {S S' w w' v}, Stay S S' w w' → holds S w v → holds S' w' v
def Ent.rd {α : Type} (R : Rep α) (x : α) : Ent := ⟨fun S w v => R.vrel S w v x, fun k h => h.mono k⟩
def Ent.val (u : Value) : Ent := ⟨fun _ _ v => v = u ∧ u.oneCell' = true, fun _ h => h⟩
/-- what an operation that was not wanted leaves -/
def Ent.un : Ent := ⟨fun _ _ v => v = undef, fun _ h => h⟩
def Ent.junk : Ent := ⟨fun _ _ _ => True, fun _ h => h⟩
/-- several values that stand for several entries -/
def holdsL (S : Blk) (w : World) : List Ent → List Value → Prop
  | [], [] => True
  | e :: es, v :: vs => e.holds S w v ∧ holdsL S w es vs
  | _, _ => False
theorem holdsL.mono {S S' w w'} (k : Stay S S' w w') : ∀ {es vs}, holdsL S w es vs → holdsL S' w' es vs
  | [], [], _ => trivial
  | e :: es, v :: vs, h => ⟨e.mono k h.1, holdsL.mono k h.2⟩
  | [], _ :: _, h => h.elim
  | _ :: _, [], h => h.elim
/-- the cells of several values, one behind the other -/
def catC (vs : List Value) : List Value := vs.flatMap fun v => v.cells.toList
/-- a struct whose parts are entries of their own -/
def Ent.agg (es : List Ent) : Ent := ⟨fun S w v => ∃ vs, holdsL S w es vs ∧ v = .agg (catC vs).toArray, fun k h => by obtain ⟨vs, h1, h2⟩ := h; exact ⟨vs, h1.mono k, h2⟩⟩
/-- several results of a call -/
def Ent.tup (es : List Ent) : Ent := ⟨fun S w v => ∃ vs, holdsL S w es vs ∧ v = .tuple vs.toArray, fun k h => by obtain ⟨vs, h1, h2⟩ := h; exact ⟨vs, h1.mono k, h2⟩⟩
/-- a pointer to cells that nobody writes -/
def Ent.rp {α : Type} (R : Rep α) (x : α) : Ent where
  holds S w v := ∃ b o cs, v = .pointer (some ⟨b, o, none⟩) ∧ S b ∧ R.rel S w cs x ∧ ∀ j u, cs[j]? = some u → w.cell? ⟨b, o + j, none⟩ = some u
  mono k h := by
    obtain ⟨b, o, cs, h1, h2, h3, h4⟩ := h
    refine ⟨b, o, cs, h1, (k b h2).1, R.mono k h3, fun j u hu => ?_⟩
    have := h4 j u hu
    unfold World.cell? at this ⊢
    rw [(k b h2).2]; exact this

/-! ### what the call owns -/
/-- the block of a value -/
def rblk : Value → Option Nat
  | .slice (some a) _ _ => some a.block
  | .pointer (some a) => some a.block
  | .map r => r
  | _ => none
structure Cont where
  nil : Blk → World → Value → Prop
  nilm : ∀ {S S' w w' v}, Stay S S' w w' → nil S w v → nil S' w' v
  nilb : ∀ {S w v}, nil S w v → rblk v = none
  rel : Blk → World → Value → Obj → Prop
  mono : ∀ {S S' w w' v o}, Stay S S' w w' → rel S w v o → rel S' w' v o
def Cont.holds (c : Cont) (S : Blk) (w : World) (v : Value) : Prop := c.nil S w v ∨ ∃ b o, rblk v = some b ∧ w.heap[b]? = some o ∧ c.rel S w v o
theorem Cont.holds.mono {c : Cont} {S S' w w' v} (h : c.holds S w v) (k : Stay S S' w w') (hb : ∀ b, rblk v = some b → w'.heap[b]? = w.heap[b]?) : c.holds S' w' v := by
  rcases h with h | ⟨b, o, h1, h2, h3⟩
  · exact .inl (c.nilm k h)
  · exact .inr ⟨b, o, h1, (hb b h1).trans h2, c.mono k h3⟩
theorem Cont.holds.lt {c : Cont} {S w v} (h : c.holds S w v) {b} (hb : rblk v = some b) : b < w.heap.size := by
  rcases h with h | ⟨b', o, h1, h2, h3⟩
  · rw [c.nilb h] at hb; cases hb
  · rw [h1] at hb; cases hb; exact (Array.getElem?_eq_some_iff.1 h2).1
/-- a slice of the call's own, of elements of type T -/
def Cont.list {α : Type} (R : Rep α) (T : TypeId) (l : List α) : Cont where
  nil _ _ v := v = .slice none 0 0 ∧ l = []
  nilm _ h := h
  nilb h := by rw [h.1]; rfl
  rel S w v o := ∃ b cap C, v = .slice (some ⟨b, 0, none⟩) l.length cap ∧ o = .cells C T (0, 0) ∧ l.length ≤ cap ∧ cap ≤ maxLen ∧ C.size = cap * R.sz ∧ relL R S w (C.toList.take (l.length * R.sz)) l
  mono k h := by obtain ⟨b, cap, C, h1, h2, h3, h4, h5, h6⟩ := h; exact ⟨b, cap, C, h1, h2, h3, h4, h5, h6.mono k⟩
/-- a variable of the call's own, of type T -/
def Cont.box (T : TypeId) (es : List Ent) : Cont where
  nil _ _ _ := False
  nilm _ h := h
  nilb h := h.elim
  rel S w v o := ∃ b vs, v = .pointer (some ⟨b, 0, none⟩) ∧ o = .cells (catC vs).toArray T (0, 0) ∧ holdsL S w es vs
  mono k h := by obtain ⟨b, vs, h1, h2, h3⟩ := h; exact ⟨b, vs, h1, h2, h3.mono k⟩
theorem list_owns {α} {R : Rep α} {T l S w v} (h : (Cont.list R T l).holds S w v) : ∃ xs, w.ownsRow 0 T R.sz v l.length xs ∧ relL R S w xs l := by
  rcases h with ⟨rfl, rfl⟩ | ⟨b, o, h1, h2, b', cap, C, rfl, rfl, h3, h4, h5, h6⟩
  · exact ⟨[], ⟨by simp, .inl ⟨rfl, rfl⟩⟩, rfl⟩
  · simp only [rblk, Option.some.injEq] at h1
    subst h1
    exact ⟨_, ⟨h6.len, .inr ⟨_, cap, C, rfl, Nat.zero_le _, h2, h3, h4, h5, rfl⟩⟩, h6⟩
theorem owns_list {α} {R : Rep α} {B T l S w v xs} (h : w.ownsRow B T R.sz v l.length xs) (k : relL R S w xs l) : (Cont.list R T l).holds S w v := by
  rcases h.2 with ⟨rfl, h0⟩ | ⟨g, cap, C, rfl, _, h2, h3, h4, h5, h6⟩
  · exact .inl ⟨rfl, List.eq_nil_of_length_eq_zero h0⟩
  · exact .inr ⟨g, _, rfl, h2, g, cap, C, rfl, rfl, h3, h4, h5, by rw [h6]; exact k⟩
end Go.Proofs.Ytklfgpdfongaeaa
