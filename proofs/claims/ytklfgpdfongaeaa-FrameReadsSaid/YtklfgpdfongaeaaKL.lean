/- From the row's readings of the arguments to data; from a contract to what a row asks. Over any program. -/
import Derived.Test.YtklfgpdfongaeaaKA
import Derived.ProofKit
import Derived.OpenShut
import Derived.ShutString
import Derived.ChangeOld
import Derived.Below
import Derived.Deep.Slices
import Derived.DataReads
namespace Go.Proofs.Ytklfgpdfongaeaa
open Go Go.RowKit Go.ChangeShapes Go.WideShapes Go.ChangeAt
set_option linter.unusedSimpArgs false
set_option linter.unusedVariables false

abbrev AllB (w : World) : Blk := Shr (fun _ => False) [] w
section
variable {H : Type} {enc : TypeId × Value → H} {P : Program} {w : World} {base : Nat} {spare : Nat → Bool} {held : Bool}
/-- Whatever reads as a datum of the kit's at type T represents one of ours. -/
def Opn {α : Type} (enc : TypeId × Value → H) (P : Program) (w : World) (base : Nat) (spare : Nat → Bool) (held : Bool) (T : TypeId) (R : Rep α) (wf : α → Prop) : Prop :=
  ∀ (fuel : Nat) (cs : List Value) (x : DataW H × List MemPlace), DataW.trod enc P w base spare held fuel T cs = some x → ∃ y, R.rel (AllB w) w cs y ∧ wf y
theorem Opn.num {α : Type} {k : IntKind} {f : α → Int} {wf : α → Prop} {T : TypeId} (hT : P.underlying T = some (.int k)) (hf : ∀ n, (Lit.int k n).wf = true → ∃ y, f y = n ∧ wf y) : Opn enc P w base spare held T (numR k f) wf := fun fuel cs x h => by
  obtain ⟨n, rfl, -, hw⟩ := DataW.trod_int hT h
  obtain ⟨y, rfl, h2⟩ := hf n hw
  exact ⟨y, rfl, h2⟩
def inI (x : Int) : Prop := -9223372036854775808 ≤ x ∧ x ≤ 9223372036854775807
def inJ (x : Int) : Prop := -2147483648 ≤ x ∧ x ≤ 2147483647
theorem Opn.i64 {T : TypeId} (hT : P.underlying T = some (.int .i64)) : Opn enc P w base spare held T i64R inI := Opn.num hT (fun n h => ⟨n, rfl, by
  simp [Lit.wf, IntKind.min, IntKind.max, IntKind.signed, IntKind.bits] at h; unfold inI; omega⟩)
theorem Opn.i32 {T : TypeId} (hT : P.underlying T = some (.int .i32)) : Opn enc P w base spare held T i32R inJ := Opn.num hT (fun n h => ⟨n, rfl, by
  simp [Lit.wf, IntKind.min, IntKind.max, IntKind.signed, IntKind.bits] at h; unfold inJ; omega⟩)
theorem Opn.u8 {T : TypeId} (hT : P.underlying T = some (.int .u8)) : Opn enc P w base spare held T u8R (fun _ => True) := Opn.num hT (fun n h => ⟨UInt8.ofNat n.toNat, by
  simp [Lit.wf, IntKind.min, IntKind.max, IntKind.signed, IntKind.bits] at h; simp; omega, trivial⟩)
theorem Opn.u32 {T : TypeId} (hT : P.underlying T = some (.int .u32)) : Opn enc P w base spare held T u32R (fun _ => True) := Opn.num hT (fun n h => ⟨UInt32.ofNat n.toNat, by
  simp [Lit.wf, IntKind.min, IntKind.max, IntKind.signed, IntKind.bits] at h; simp; omega, trivial⟩)
theorem Opn.u64 {T : TypeId} (hT : P.underlying T = some (.int .u64)) : Opn enc P w base spare held T u64R (fun _ => True) := Opn.num hT (fun n h => ⟨UInt64.ofNat n.toNat, by
  simp [Lit.wf, IntKind.min, IntKind.max, IntKind.signed, IntKind.bits] at h; simp; omega, trivial⟩)
theorem Opn.bool {T : TypeId} (hT : P.underlying T = some .bool) : Opn enc P w base spare held T boolR (fun _ => True) := fun fuel cs x h => by
  obtain ⟨b, rfl, -⟩ := DataW.trod_bool hT h
  exact ⟨b, rfl, trivial⟩
theorem Opn.str {T : TypeId} (hT : P.underlying T = some .string) : Opn enc P w base spare held T strR (fun s => s.length ≤ 9223372036854775807) := fun fuel cs x h => by
  obtain ⟨s, rfl, -, hs⟩ := DataW.trod_string hT h
  exact ⟨s.data.toList, ⟨s, rfl, rfl⟩, by have : s.data.toList.length = s.size := by simp
                                          show s.data.toList.length ≤ _; rw [this]; exact hs⟩
theorem relL_range {α : Type} {R : Rep α} {S : Blk} {K : Nat → List Value} {F : Nat → α} : ∀ (l : List Nat), (∀ i ∈ l, R.rel S w (K i) (F i)) → relL R S w (l.flatMap K) (l.map F)
  | [], _ => rfl
  | i :: l, h => ⟨K i, _, by simp, h i (by simp), relL_range l (fun j hj => h j (by simp [hj]))⟩
theorem flatMap_get {K : Nat → List Value} {sz : Nat} (h0 : 0 < sz) : ∀ (n : Nat) (j : Nat), (∀ i, i < n → (K i).length = sz) → j < n * sz → ((List.range n).flatMap K)[j]? = (K (j / sz))[j % sz]?
  | 0, j, _, hj => by simp at hj
  | n + 1, j, hK, hj => by
    have hl : ((List.range n).flatMap K).length = n * sz := by
      have : ∀ m, m ≤ n → ((List.range m).flatMap K).length = m * sz := by
        intro m hm
        induction m with
        | zero => simp
        | succ m ih => rw [List.range_succ, List.flatMap_append, List.length_append, ih (by omega)]; simp [hK m (by omega), Nat.add_mul]
      exact this n (Nat.le_refl _)
    rw [List.range_succ, List.flatMap_append, List.getElem?_append, hl]
    split
    · exact flatMap_get h0 n j (fun i hi => hK i (by omega)) ‹_›
    · rename_i hge
      have e : (n + 1) * sz = n * sz + sz := by rw [Nat.add_mul]; omega
      have h1 : j / sz = n := by
        have : j / sz < n + 1 := by rw [Nat.div_lt_iff_lt_mul h0]; omega
        have : n ≤ j / sz := by rw [Nat.le_div_iff_mul_le h0]; omega
        omega
      have h2 : j % sz = j - n * sz := by
        have := Nat.div_add_mod j sz; rw [h1, Nat.mul_comm] at this; omega
      rw [h1, h2]; simp
theorem Opn.slice {α : Type} [Inhabited α] {R : Rep α} {wf : α → Prop} {T e : TypeId} (hT : P.underlying T = some (.slice e)) (hc : P.cellsOf e = R.sz) (h0 : Nat.blt 0 R.sz = true) (k : Opn enc P w base spare held e R wf) :
    Opn enc P w base spare held T (sliceR R) (fun l => (∀ x ∈ l, wf x) ∧ l.length ≤ 9223372036854775807) := fun fuel cs x h => by
  have h0 : 0 < R.sz := Eq.mp Nat.blt_eq h0
  rcases Go.Deep.open_slice hT h with ⟨rfl, -⟩ | ⟨a, len, cap, m, n, D, Pl, rfl, hb, hl, hm, hm2, -, hall⟩
  · exact ⟨[], ⟨none, 0, [], rfl, Rd.nil _ _, rfl, by simp⟩, by simp⟩
  · have hlm : len ≤ m := by rw [hm2]; split <;> omega
    rw [hc] at hall
    obtain ⟨F, hF⟩ := Go.Deep.choose_lt (α := List Value × α) (n := len) (p := fun i y => w.cells? base (a.add (i * R.sz)) R.sz = some y.1 ∧ R.rel (AllB w) w y.1 y.2 ∧ wf y.2) (fun i hi => by
      obtain ⟨cs', h1, h2⟩ := hall i (by omega)
      obtain ⟨y, h3, h4⟩ := k n cs' _ h2
      exact ⟨(cs', y), h1, h3, h4⟩)
    have hK : ∀ i, i < len → (F i).1.length = R.sz := fun i hi => R.len (hF i hi).2.1
    have hcell : ∀ i, i < len → ∀ q, q < R.sz → w.cell? ((a.add (i * R.sz)).add q) = ((F i).1)[q]? := fun i hi q hq => (World.cells?_some (hF i hi).1).2.2 q hq
    have hln : ((List.range len).map fun i => (F i).2).length = len := by simp
    obtain ⟨bk, o, sp⟩ := a
    have hspot : 0 < len → sp = none := fun hp => by
      have h1 := hcell 0 hp 0 h0
      have h2 : ((F 0).1)[0]? = some ((F 0).1[0]'(by rw [hK 0 hp]; exact h0)) := List.getElem?_eq_getElem _
      rw [h2] at h1
      simpa [Addr.add] using World.cell?_spot h1
    have hrel := relL_range (R := R) (S := AllB w) (w := w) (K := fun i => (F i).1) (F := fun i => (F i).2) (List.range len) (fun i hi => (hF i (by simpa using hi)).2.1)
    have hget : ∀ j u, ((List.range len).flatMap fun i => (F i).1)[j]? = some u → w.cell? ⟨bk, o + j, none⟩ = some u := fun j u hu => by
      have hlen := hrel.len
      rw [hln] at hlen
      have hj : j < len * R.sz := by have := (List.getElem?_eq_some_iff.1 hu).1; rw [hlen] at this; exact this
      rw [flatMap_get h0 len j hK hj] at hu
      have hi : j / R.sz < len := by rw [Nat.div_lt_iff_lt_mul h0]; exact hj
      have h2 := hcell (j / R.sz) hi (j % R.sz) (Nat.mod_lt _ h0)
      have hsp := hspot (Nat.lt_of_le_of_lt (Nat.zero_le _) hi)
      subst hsp
      rw [add_none, add_none] at h2
      have e1 : o + j / R.sz * R.sz + j % R.sz = o + j := by
        have := Nat.div_add_mod j R.sz; rw [Nat.mul_comm] at this; omega
      rw [e1] at h2
      rw [h2]; exact hu
    refine ⟨(List.range len).map fun i => (F i).2, ⟨some ⟨bk, o, sp⟩, cap, _, by rw [hln], ⟨by rw [hrel.len], ?_⟩, hrel, ?_⟩, ?_, by rw [hln]; have : maxLen = 9223372036854775807 := rfl; omega⟩
    · rw [hln]
      refine .inr ⟨bk, o, sp, cap, rfl, hl, hm, ?_, hget⟩
      by_cases h1 : len = 0
      · left; subst h1; rfl
      · right; exact hspot (by omega)
    · intro hne b hbb
      simp [sblk] at hbb
      subst hbb
      refine ⟨?_, fun r v c h => by simp [lr, lk] at h, fun h => h⟩
      cases hL : ((List.range len).flatMap fun i => (F i).1) with
      | nil => exact absurd hL hne
      | cons u us => exact World.block_lt_of_cell? w _ (hget 0 u (by rw [hL]; rfl))
    · intro x hx
      simp only [List.mem_map, List.mem_range] at hx
      obtain ⟨i, hi, rfl⟩ := hx
      exact (hF i hi).2.2
theorem chunks {α : Type} {R : Rep α} {S : Blk} (F : Nat → α) : ∀ (n : Nat) (cs : List Value), cs.length = n * R.sz → (∀ i, i < n → R.rel S w ((cs.drop (i * R.sz)).take R.sz) (F i)) → relL R S w cs ((List.range n).map F)
  | 0, cs, h, _ => by simp at h; subst h; rfl
  | n + 1, cs, h, k => by
    have e : (n + 1) * R.sz = n * R.sz + R.sz := by rw [Nat.add_mul]; omega
    rw [List.range_succ, List.map_append]
    have h1 := chunks (R := R) (S := S) F n (cs.take (n * R.sz)) (by simp; omega) (fun i hi => by
      have e2 : (i + 1) * R.sz ≤ n * R.sz := Nat.mul_le_mul_right _ (by omega)
      have e3 : (i + 1) * R.sz = i * R.sz + R.sz := by rw [Nat.add_mul]; omega
      have := k i (by omega)
      rw [List.drop_take, List.take_take, Nat.min_eq_left (by omega)]; exact this)
    have h2 := k n (by omega)
    have h3 : (cs.drop (n * R.sz)).take R.sz = cs.drop (n * R.sz) := List.take_of_length_le (by simp; omega)
    rw [h3] at h2
    have := h1.append (relL.single h2)
    rwa [List.take_append_drop] at this
theorem Opn.arr {α : Type} [Inhabited α] {R : Rep α} {wf : α → Prop} {T e : TypeId} {n : Nat} (hT : P.underlying T = some (.array n e)) (hc : P.cellsOf e = R.sz) (hl : P.cellsOf T = n * R.sz) (k : Opn enc P w base spare held e R wf) :
    Opn enc P w base spare held T (arrR n R) (fun v => ∀ x ∈ v.toList, wf x) := fun fuel cs x h => by
  obtain ⟨xs, m, -, -, hlen, hxl, hi⟩ := DataW.trod_array hT h
  rw [hc] at hi
  obtain ⟨F, hF⟩ := Go.Deep.choose_lt (α := α) (n := n) (p := fun i y => R.rel (AllB w) w ((cs.drop (i * R.sz)).take R.sz) y ∧ wf y) (fun i hi' => by
    have h3 := hi i hi'
    rw [List.getElem?_eq_getElem (by omega)] at h3
    exact k m _ _ h3)
  have hrel := chunks (R := R) (S := AllB w) (w := w) F n cs (by rw [hlen, hl]) (fun i hi' => (hF i hi').1)
  have hv : (Vector.mk ((List.range n).map F).toArray (by simp) : Vector α n).toList = (List.range n).map F := by simp [Vector.toList]
  refine ⟨Vector.mk ((List.range n).map F).toArray (by simp), ?_, ?_⟩
  · show relL R (AllB w) w cs _
    rw [hv]; exact hrel
  · intro x hx
    rw [hv] at hx
    simp only [List.mem_map, List.mem_range] at hx
    obtain ⟨i, hi', rfl⟩ := hx
    exact (hF i hi').2
/-- the fields of a struct, from an offset on -/
def OpnF {γ : Type} (enc : TypeId × Value → H) (P : Program) (w : World) (base : Nat) (spare : Nat → Bool) (held : Bool) (fs : List Field) (o : Nat) (R : Rep γ) (wf : γ → Prop) : Prop :=
  ∀ (n : Nat) (cs : List Value), (∀ f ∈ fs, ∃ y, DataW.trod enc P w base spare held n f.type ((cs.drop f.offset).take (P.cellsOf f.type)) = some y) → cs.length = o + R.sz → ∃ y, R.rel (AllB w) w (cs.drop o) y ∧ wf y
theorem OpnF.nil {o : Nat} : OpnF enc P w base spare held [] o unitR (fun _ => True) := fun n cs _ hl => by
  refine ⟨(), ?_, trivial⟩
  show cs.drop o = []
  exact List.drop_eq_nil_of_le (by rw [hl]; exact Nat.le_refl _)
theorem OpnF.cons {α β : Type} {R : Rep α} {R2 : Rep β} {wf : α → Prop} {wf2 : β → Prop} {f : Field} {fs : List Field} {o : Nat} (h1 : Opn enc P w base spare held f.type R wf) (ho : f.offset = o) (hc : P.cellsOf f.type = R.sz) (h2 : OpnF enc P w base spare held fs (o + R.sz) R2 wf2) :
    OpnF enc P w base spare held (f :: fs) o (prodR R R2) (fun p => wf p.1 ∧ wf2 p.2) := fun n cs h hl => by
  obtain ⟨x, hx⟩ := h f (by simp)
  rw [ho, hc] at hx
  obtain ⟨y, k1, k2⟩ := h1 _ _ _ hx
  obtain ⟨z, k3, k4⟩ := h2 n cs (fun f hf => h f (by simp [hf])) (by rw [hl]; show o + (R.sz + R2.sz) = _; omega)
  refine ⟨(y, z), ⟨_, _, ?_, k1, k3⟩, k2, k4⟩
  rw [← List.drop_drop, List.take_append_drop]
theorem Opn.struct {β γ : Type} {R : Rep γ} {g : β → γ} {wf : γ → Prop} {wf' : β → Prop} {T : TypeId} {fs : Array Field} (hT : P.underlying T = some (.struct fs)) (hl : P.cellsOf T = R.sz) (k : OpnF enc P w base spare held fs.toList 0 R wf) (of : γ → β) (hg : ∀ y, g (of y) = y) (hw : ∀ y, wf y → wf' (of y)) :
    Opn enc P w base spare held T (viaR g R) wf' := fun fuel cs x h => by
  obtain ⟨xs, n, -, -, hlen, hxl, hi⟩ := DataW.trod_struct hT h
  obtain ⟨y, h1, h2⟩ := k n cs (fun f hf => by
    obtain ⟨i, hi', rfl⟩ := List.mem_iff_getElem.1 hf
    have hi'' : i < fs.size := by simpa using hi'
    have := hi i (fs[i]) (by simp [hi''])
    rw [List.getElem?_eq_getElem (by omega)] at this
    exact ⟨_, by simpa using this⟩) (by rw [hlen, hl]; omega)
  refine ⟨of y, ?_, hw y h2⟩
  show R.rel (AllB w) w cs (g (of y))
  rw [hg]; simpa using h1
/-- an argument of one cell, of several -/
theorem Opn.arg {α : Type} {R : Rep α} {wf : α → Prop} {T : TypeId} {v : Value} {d : DataW H} {ps : List MemPlace} (k : Opn enc P w base spare held T R wf) (h : DataW.Trod enc P w base spare held T v d ps) (hv : R.agg = false ∧ v.oneCell' = true ∨ R.agg = true ∧ ∃ cs, v = .agg cs) :
    ∃ y, (Ent.rd R y).holds (AllB w) w v ∧ wf y := by
  obtain ⟨fuel, hf⟩ := h
  obtain ⟨y, h1, h2⟩ := k fuel _ _ hf
  refine ⟨y, ⟨_, h1, ?_⟩, h2⟩
  rcases hv with ⟨ha, h3⟩ | ⟨ha, cs, rfl⟩
  · rw [oneCell_cells h3]; simp [Rep.val, ha]
  · simp [Rep.val, ha, Value.cells]
theorem ok1 {P : Program} {w : World} {r : Reach} {b : Nat} {T : TypeId} {v : Value} {k : IntKind} (hT : P.underlying T = some (.int k)) (h : Value.okWide P w r b T v) : v.oneCell' = true := by
  obtain ⟨n, rfl⟩ := okWide_int hT h; rfl
theorem ok2 {P : Program} {w : World} {r : Reach} {b : Nat} {T : TypeId} {v : Value} (hT : P.underlying T = some .bool) (h : Value.okWide P w r b T v) : v.oneCell' = true := by
  obtain ⟨n, rfl⟩ := okWide_bool hT h; rfl
theorem ok3 {P : Program} {w : World} {r : Reach} {b : Nat} {T : TypeId} {v : Value} (hT : P.underlying T = some .string) (h : Value.okWide P w r b T v) : v.oneCell' = true := by
  obtain ⟨n, rfl⟩ := okWide_string hT h; rfl
theorem ok4 {P : Program} {w : World} {r : Reach} {b : Nat} {T e : TypeId} {v : Value} (hT : P.underlying T = some (.slice e)) (h : Value.okWide P w r b T v) : v.oneCell' = true := by
  obtain ⟨a, l, c, rfl⟩ := okWide_slice hT h; rfl
theorem ok5 {P : Program} {w : World} {r : Reach} {b : Nat} {T : TypeId} {v : Value} {fs : Array Field} (hT : P.underlying T = some (.struct fs)) (h : Value.okWide P w r b T v) : ∃ cs, v = .agg cs := by
  obtain ⟨cs, h, _⟩ := okWide_struct hT h; exact ⟨cs, h⟩
theorem ok6 {P : Program} {w : World} {r : Reach} {b : Nat} {T e : TypeId} {n : Nat} {v : Value} (hT : P.underlying T = some (.array n e)) (h : Value.okWide P w r b T v) : ∃ cs, v = .agg cs := by
  unfold Value.okWide at h; rw [hT] at h; obtain ⟨cs, h, _⟩ := h; exact ⟨cs, h⟩
/-- a law that is true of its arguments returns true, and leaves the world as it was -/
theorem Spec.law {f : FuncId} {pin : List Ent} {m : Option Bool} {vs : List Value} {W : World} (hS : Spec P f pin [] m (fun r nv => ⟨[.rd boolR r], []⟩)) (hm : m = some true) (hv : holdsL (AllB W) W pin vs) :
    Calls P f vs.toArray W (fun e W' => e = .returned (.bool true) ∧ Ext W W') := by
  have hno : ∀ b, ¬ Bof [] b := fun b ⟨r, v, c, h, _⟩ => by simp [lr, lk] at h
  refine (hS true hm (fun _ => False) vs W hv ⟨fun r v c h => by simp [lr, lk] at h, fun r v c r' v' c' h => by simp [lr, lk] at h, fun b h => h.elim⟩).mono fun e W' h => ?_
  obtain ⟨nv, us, rfl, hp⟩ := h
  match us, hp.ret with
  | [u], ⟨h1, _⟩ =>
    obtain ⟨cs, h2, h3⟩ := h1
    have h2 : cs = [.bool true] := h2
    subst h2
    refine ⟨?_, hp.keep.os, hp.keep.tape, hp.keep.output, hp.keep.size, fun b hb => hp.keep.block b ⟨hb, hno b⟩⟩
    show Ending.returned u = _
    rw [h3]; rfl
end
end Go.Proofs.Ytklfgpdfongaeaa
