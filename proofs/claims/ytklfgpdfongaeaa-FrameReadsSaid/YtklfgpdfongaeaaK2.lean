/- The state of a walk: slots that hold data, memory of the call's own; the shape of the code. Over any program. -/
import Derived.Test.YtklfgpdfongaeaaK1
namespace Go.Proofs.Ytklfgpdfongaeaa
open Go Go.RowKit
set_option linter.unusedSimpArgs false
set_option linter.unusedVariables false

def lk {α : Type} : List (Nat × α) → Nat → Option α
  | [], _ => none
  | (k, v) :: l, t => bif Nat.beq k t then some v else lk l t
theorem lk_cons {α : Type} {k t : Nat} {v : α} {l : List (Nat × α)} : lk ((k, v) :: l) t = if k = t then some v else lk l t := by
  simp only [lk]
  cases hb : Nat.beq k t with
  | true => rw [if_pos (Nat.eq_of_beq_eq_true hb)]; rfl
  | false => rw [if_neg (Nat.ne_of_beq_eq_false hb)]; rfl

abbrev Slots := List (Nat × Ent)
abbrev Res := List (Nat × Option (Value × Cont))
/-- what a resource's name stands for -/
def lr (res : Res) (r : Nat) : Option (Value × Cont) := (lk res r).getD none
/-- the blocks that no resource holds, and that are not hidden -/
def Shr (H : Blk) (res : Res) (w : World) : Blk := fun b => b < w.heap.size ∧ (∀ r v c, lr res r = some (v, c) → rblk v ≠ some b) ∧ ¬ H b
structure Ctx where
  n : Nat
  K : Blk
  H : Blk
  w0 : World
/-- what the call leaves as it was -/
structure Keep (K : Blk) (w w' : World) : Prop where
  os : w'.os = w.os
  tape : w'.tape = w.tape
  output : w'.output = w.output
  size : w.heap.size ≤ w'.heap.size
  block : ∀ b, K b → w'.heap[b]? = w.heap[b]?
theorem Keep.rfl' {K w} : Keep K w w := ⟨rfl, rfl, rfl, Nat.le_refl _, fun _ _ => rfl⟩
theorem Keep.tr {K K' w w1 w2} (h : Keep K w w1) (k : Keep K' w1 w2) (hK : ∀ b, K b → K' b) : Keep K w w2 :=
  ⟨k.os.trans h.os, k.tape.trans h.tape, k.output.trans h.output, Nat.le_trans h.size k.size, fun b hb => (k.block b (hK b hb)).trans (h.block b hb)⟩
theorem Keep.gr {K w w1 w2} {r : Option Nat} (h : Keep K w w1) (k : w1.grownBy w2 r) (hK : ∀ b, K b → b < w1.heap.size ∧ r ≠ some b) : Keep K w w2 :=
  ⟨k.os.trans h.os, k.tape.trans h.tape, k.output.trans h.output, Nat.le_trans h.size k.size, fun b hb => (k.block b (hK b hb).1 (fun e => (hK b hb).2 e.symm)).trans (h.block b hb)⟩

structure Sta (Γ : Ctx) (l : Slots) (res : Res) (a : Act) (w : World) : Prop where
  size : a.tmps.size = Γ.n
  defers : a.defers = []
  slots : ∀ t e, lk l t = some e → ∃ v, a.tmps[t]? = some v ∧ e.holds (Shr Γ.H res w) w v
  conts : ∀ r v c, lr res r = some (v, c) → c.holds (Shr Γ.H res w) w v
  excl : ∀ r v c r' v' c', lr res r = some (v, c) → lr res r' = some (v', c') → r ≠ r' → ∀ b, rblk v = some b → rblk v' ≠ some b
  own : ∀ r v c, lr res r = some (v, c) → ∀ b, rblk v = some b → ¬ Γ.K b
  keep : Keep Γ.K Γ.w0 w
  old : ∀ b, Γ.K b → b < Γ.w0.heap.size
  hid : ∀ b, Γ.H b → Γ.K b

section
variable {P : Program} {Γ : Ctx} {l l' : Slots} {res res' : Res} {a : Act} {w w' : World}

theorem Sta.frm (h : Sta Γ l res a w) : Frm Γ.n [] a := ⟨h.size, h.defers, fun _ _ h => by simp [look] at h⟩
theorem Sta.slot (h : Sta Γ l res a w) {t : Nat} {e : Ent} (ht : lk l t = some e) : ∃ v, look [(t, v)] t = some v ∧ Frm Γ.n [(t, v)] a ∧ e.holds (Shr Γ.H res w) w v := by
  obtain ⟨v, h1, h2⟩ := h.slots t e ht
  refine ⟨v, by simp [look], ⟨h.size, h.defers, fun t' v' h' => ?_⟩, h2⟩
  simp only [look] at h'
  cases hb : Nat.beq t t' with
  | true =>
    rw [hb] at h'
    have := Nat.eq_of_beq_eq_true hb
    subst this
    simp only [cond_true, Option.some.injEq] at h'
    subst h'; exact h1
  | false => rw [hb] at h'; cases h'
theorem Frm.join {n : Nat} {l l' : List (Nat × Value)} (f : Frm n l a) (g : Frm n l' a) : Frm n (l ++ l') a := by
  refine ⟨f.size, f.defers, fun t v h => ?_⟩
  induction l with
  | nil => exact g.slots t v h
  | cons x l ih =>
    obtain ⟨k, u⟩ := x
    simp only [List.cons_append, look] at h
    cases hb : Nat.beq k t with
    | true =>
      rw [hb] at h
      exact f.slots t v (by simp only [look, hb]; exact h)
    | false =>
      rw [hb] at h
      by_cases hm : look l t = none
      · have : ∀ l : List (Nat × Value), look l t = none → look (l ++ l') t = look l' t := by
          intro l hl
          induction l with
          | nil => rfl
          | cons y l ih2 =>
            obtain ⟨k2, u2⟩ := y
            simp only [look] at hl
            simp only [List.cons_append, look]
            cases hb2 : Nat.beq k2 t with
            | true => rw [hb2] at hl; cases hl
            | false => rw [hb2] at hl; exact ih2 hl
        simp only [cond_false] at h
        rw [this l hm] at h
        exact g.slots t v h
      · have : ∀ l : List (Nat × Value), look l t ≠ none → look (l ++ l') t = look l t := by
          intro l hl
          induction l with
          | nil => exact absurd rfl hl
          | cons y l ih2 =>
            obtain ⟨k2, u2⟩ := y
            simp only [look] at hl
            simp only [List.cons_append, look]
            cases hb2 : Nat.beq k2 t with
            | true => rfl
            | false => rw [hb2] at hl; exact ih2 hl
        simp only [cond_false] at h
        rw [this l hm] at h
        exact f.slots t v (by simp only [look, hb]; exact h)

/-! ### the world moves on -/
theorem Shr.lt {H : Blk} {b : Nat} (h : Shr H res w b) : b < w.heap.size := h.1
theorem Shr.ext {H : Blk} (k : Ext w w') : Stay (Shr H res w) (Shr H res w') w w' := fun b hb => ⟨⟨Nat.lt_of_lt_of_le hb.1 k.size, hb.2⟩, k.block b hb.1⟩
theorem Keep.ext {K w0} (h : Keep K w0 w) (hK : ∀ b, K b → b < w0.heap.size) (k : Ext w w') : Keep K w0 w' :=
  ⟨k.os.trans h.os, k.tape.trans h.tape, k.output.trans h.output, Nat.le_trans h.size k.size, fun b hb => (k.block b (Nat.lt_of_lt_of_le (hK b hb) h.size)).trans (h.block b hb)⟩
theorem Sta.ext (h : Sta Γ l res a w) (k : Ext w w') : Sta Γ l res a w' where
  size := h.size
  defers := h.defers
  slots t e ht := by obtain ⟨v, h1, h2⟩ := h.slots t e ht; exact ⟨v, h1, e.mono (Shr.ext k) h2⟩
  conts r v c hr := (h.conts r v c hr).mono (Shr.ext k) (fun b hb => k.block b ((h.conts r v c hr).lt hb))
  excl := h.excl
  own := h.own
  keep := h.keep.ext h.old k
  old := h.old
  hid := h.hid
theorem Sta.put (h : Sta Γ l res a w) {d : Nat} {v : Value} {e : Ent} (hd : Nat.blt d Γ.n = true) (he : e.holds (Shr Γ.H res w) w v) : Sta Γ ((d, e) :: l) res (a.put (some d) v) w where
  size := by simp [Act.put, h.size]
  defers := by simp [Act.put, h.defers]
  slots t e' ht := by
    have hd : d < Γ.n := Eq.mp Nat.blt_eq hd
    rw [lk_cons] at ht
    split at ht
    · rename_i hdt; subst hdt; cases ht
      exact ⟨v, by simp [Act.put, h.size, hd], he⟩
    · rename_i hdt
      obtain ⟨u, h1, h2⟩ := h.slots t e' ht
      exact ⟨u, by simp [Act.put, Array.getElem?_setIfInBounds_ne hdt, h1], h2⟩
  conts := h.conts
  excl := h.excl
  own := h.own
  keep := h.keep
  old := h.old
  hid := h.hid
theorem Sta.old_lt (h : Sta Γ l res a w) {b : Nat} (hb : Γ.K b) : b < w.heap.size := Nat.lt_of_lt_of_le (h.old b hb) h.keep.size
end

/-! ### what is to be shown: from a state, a code ends as is said, with the result of the function -/
abbrev Asn := Act → World → Prop
section
variable {ρ : Type} {P : Program} {A : Asn} {Q : ρ → Exit → Act → World → Prop} {m : Option ρ}
/-- from a state, what X says of it, with the result of the function -/
abbrev GX (X : ρ → Act → World → Prop) (A : Asn) (m : Option ρ) : Prop := ∀ a w, A a w → ∀ r, m = some r → X r a w
def G (P : Program) (A : Asn) (c : Code) (Q : ρ → Exit → Act → World → Prop) (m : Option ρ) : Prop := GX (fun r a w => c.wp P (Q r) a w) A m
/-- what is to be shown of the rest of a region's list -/
def GL (P : Program) (ops : List Oper) (A : Asn) (os : List Oper) (N : ρ → Exit → Act → World → Prop) (m : Option ρ) : Prop := GX (fun r a w => wpList P ops.toArray (N r) os a w) A m
/-- what is to be shown at an exit -/
def GE (A : Asn) (e : Exit) (Q : ρ → Exit → Act → World → Prop) (m : Option ρ) : Prop := GX (fun r a w => Q r e a w) A m
/-- what is to be shown of a region that draws its order, and only reads -/
def GQ (P : Program) (ops : List Oper) (A : Asn) (os : List Oper) (N : ρ → Exit → Act → World → Prop) (m : Option ρ) : Prop := GX (fun r a w => wpQuiet P ops.toArray (Ext w) (fun a' => ∀ w', Ext w w' → N r .normal a' w') os a) A m
def thenQ (P : Program) (y : Code) (Q : ρ → Exit → Act → World → Prop) : ρ → Exit → Act → World → Prop := fun r => Exit.then (y.wp P (Q r)) (Q r)
def blkQ (i : Nat) (Q : ρ → Exit → Act → World → Prop) : ρ → Exit → Act → World → Prop := fun r => Exit.inBlock i (Q r)

theorem gSeq {x y : Code} (h : G P A x (thenQ P y Q) m) : G P A (.seq x y) Q m := fun a w ha r hr => wp_seq (h a w ha r hr)
theorem gReg {id : Nat} {os : List Oper} (h : GL P os A os Q m) : G P A (.region id os.toArray false) Q m := fun a w ha r hr => wp_region_lit (h a w ha r hr)
theorem gNil {ops : List Oper} (h : GE A .normal Q m) : GL P ops A [] Q m := fun a w ha r hr => h a w ha r hr
theorem gBlk {i : Nat} {x : Code} (h : G P A x (blkQ i Q) m) : G P A (.block i x) Q m := fun a w ha r hr => wp_block (h a w ha r hr)
theorem gSkip (h : GE A .normal Q m) : G P A .skip Q m := fun a w ha r hr => wp_skip (h a w ha r hr)
theorem gExit {i : Nat} (h : GE A (.exit i) Q m) : G P A (.exit i) Q m := fun a w ha r hr => wp_exit (h a w ha r hr)
theorem gRet (h : GE A .ret Q m) : G P A .ret Q m := fun a w ha r hr => wp_ret (h a w ha r hr)
theorem gNone {c : Code} : G P A c Q none := fun a w ha r hr => by cases hr
/-- exits -/
theorem eThen {y : Code} (h : G P A y Q m) : GE A .normal (thenQ P y Q) m := h
theorem eTret {y : Code} (h : GE A .ret Q m) : GE A .ret (thenQ P y Q) m := h
theorem eTexit {y : Code} {i : Nat} (h : GE A (.exit i) Q m) : GE A (.exit i) (thenQ P y Q) m := h
theorem eBlk {i : Nat} (h : GE A .normal Q m) : GE A .normal (blkQ i Q) m := h
theorem eBret {i : Nat} (h : GE A .ret Q m) : GE A .ret (blkQ i Q) m := h
theorem eBexit {i : Nat} (h : GE A .normal Q m) : GE A (.exit i) (blkQ i Q) m := fun a w ha r hr => by
  have := h a w ha r hr; unfold blkQ; simp [Exit.inBlock, this]
theorem eBother {i j : Nat} (hne : Nat.beq j i = false) (h : GE A (.exit j) Q m) : GE A (.exit j) (blkQ i Q) m := fun a w ha r hr => by
  have := h a w ha r hr; unfold blkQ; simp [Exit.inBlock, Nat.ne_of_beq_eq_false hne, this]
/-- another state that says no more -/
theorem gWeak {B : Asn} {c : Code} (hAB : ∀ a w, A a w → B a w) (h : G P B c Q m) : G P A c Q m := fun a w ha r hr => h a w (hAB a w ha) r hr
theorem eWeak {B : Asn} {e : Exit} (hAB : ∀ a w, A a w → B a w) (h : GE B e Q m) : GE A e Q m := fun a w ha r hr => h a w (hAB a w ha) r hr
end

section
variable {ρ : Type} {P : Program} {Γ : Ctx} {l : Slots} {res : Res} {Q : ρ → Exit → Act → World → Prop} {m m1 m2 : Option ρ} {os rest : List Oper} {N : ρ → Exit → Act → World → Prop}

def cstE : Value → Option Ent
  | .bool b => some (.rd boolR b)
  | .string s => some (.rd strR s.data.toList)
  | .int .i64 n => some (.rd i64R n)
  | .int .i32 n => some (.rd i32R n)
  | .int .u8 (.ofNat n) => bif Nat.blt n 256 then some (.rd u8R (UInt8.ofNat n)) else none
  | .int .u32 (.ofNat n) => bif Nat.blt n 4294967296 then some (.rd u32R (UInt32.ofNat n)) else none
  | .int .u64 (.ofNat n) => bif Nat.blt n 18446744073709551616 then some (.rd u64R (UInt64.ofNat n)) else none
  | v => bif v.oneCell' then some (.val v) else none
theorem cstE_holds {v : Value} {e : Ent} (h : cstE v = some e) (S : Blk) (w : World) : e.holds S w v := by
  unfold cstE at h
  split at h
  · cases h; exact ⟨_, rfl, rfl⟩
  · cases h; exact ⟨_, ⟨_, rfl, rfl⟩, rfl⟩
  · cases h; exact ⟨_, rfl, rfl⟩
  · cases h; exact ⟨_, rfl, rfl⟩
  · rename_i n
    cases hb : Nat.blt n 256 with
    | false => rw [hb] at h; cases h
    | true =>
      rw [hb] at h; cases h
      have : n < 256 := Eq.mp Nat.blt_eq hb
      refine ⟨_, rfl, ?_⟩
      simp [Rep.val, u8R, numR]; omega
  · rename_i n
    cases hb : Nat.blt n 4294967296 with
    | false => rw [hb] at h; cases h
    | true =>
      rw [hb] at h; cases h
      have : n < 4294967296 := Eq.mp Nat.blt_eq hb
      refine ⟨_, rfl, ?_⟩
      simp [Rep.val, u32R, numR]; omega
  · rename_i n
    cases hb : Nat.blt n 18446744073709551616 with
    | false => rw [hb] at h; cases h
    | true =>
      rw [hb] at h; cases h
      have : n < 18446744073709551616 := Eq.mp Nat.blt_eq hb
      refine ⟨_, rfl, ?_⟩
      simp [Rep.val, u64R, numR]; omega
  · skip
    cases hb : v.oneCell' with
    | false => rw [hb] at h; cases h
    | true => rw [hb] at h; cases h; exact ⟨rfl, hb⟩
def opE (l : Slots) : Operand → Option Ent
  | .tmp t => lk l t
  | .const v => cstE v
  | .global g => some (.val (.pointer (some ⟨g, 0, none⟩)))
  | .func f => some (.val (.func (.func f) #[] #[]))
theorem Sta.ev {a : Act} {w : World} (h : Sta Γ l res a w) {x : Operand} {e : Ent} (hx : opE l x = some e) : ∃ fl v, Frm Γ.n fl a ∧ opv fl x = some v ∧ e.holds (Shr Γ.H res w) w v := by
  cases x with
  | tmp t => obtain ⟨v, h1, h2, h3⟩ := h.slot hx; exact ⟨_, v, h2, h1, h3⟩
  | const v => exact ⟨[], v, h.frm, rfl, cstE_holds hx _ _⟩
  | global g => cases hx; exact ⟨[], _, h.frm, rfl, rfl, rfl⟩
  | func f => cases hx; exact ⟨[], _, h.frm, rfl, rfl, rfl⟩
theorem opv_app {fl fl' : List (Nat × Value)} {x : Operand} {v : Value} (h : opv fl x = some v) : opv (fl ++ fl') x = some v := by
  cases x with
  | tmp t =>
    simp only [opv] at h ⊢
    induction fl with
    | nil => simp [look] at h
    | cons y fl ih =>
      obtain ⟨k, u⟩ := y
      simp only [List.cons_append, look] at h ⊢
      cases hb : Nat.beq k t with
      | true => rw [hb] at h; exact h
      | false => rw [hb] at h; exact ih h
  | const c => exact h
  | global g => exact h
  | func g => exact h
/-- the value of an operand in a state -/
theorem Sta.vl {a : Act} {w : World} (h : Sta Γ l res a w) {x : Operand} {e : Ent} (hx : opE l x = some e) : e.holds (Shr Γ.H res w) w (a.eval x) := by
  obtain ⟨fl, v, f, h1, h2⟩ := h.ev hx
  rw [f.ev h1]; exact h2

/-- A test. -/
theorem gIf {c : Operand} {t : Nat} {x y : Code} {b : Bool} (hc : c = .tmp t) (hb : lk l t = some (.rd boolR b)) (ht : b = true → G P (Sta Γ ((t, .rd boolR true) :: l) res) x Q m1) (hf : b = false → G P (Sta Γ ((t, .rd boolR false) :: l) res) y Q m2) :
    G P (Sta Γ l res) (.cond c x y) Q (if b then m1 else m2) := by
  subst hc
  intro a w ha r hr
  obtain ⟨cs, h1, h2⟩ := ha.vl (x := .tmp t) hb
  have h1 : cs = [.bool b] := h1
  subst h1
  have keep : ∀ b', b = b' → Sta Γ ((t, .rd boolR b') :: l) res a w := fun b' e => by
    subst e
    refine { ha with slots := fun t' e' ht' => ?_ }
    rw [lk_cons] at ht'
    split at ht'
    · rename_i hh; subst hh; cases ht'; exact ha.slots t _ hb
    · exact ha.slots t' e' ht'
  cases b with
  | true => exact wp_cond_true h2 (ht rfl a w (keep _ rfl) r (by simpa using hr))
  | false => exact wp_cond_false h2 (hf rfl a w (keep _ rfl) r (by simpa using hr))
theorem gTrue {c : Operand} {x y : Code} (hb : opE l c = some (.rd boolR true)) (h : G P (Sta Γ l res) x Q m) : G P (Sta Γ l res) (.cond c x y) Q m := fun a w ha r hr => by
  obtain ⟨cs, h1, h2⟩ := ha.vl hb
  have h1 : cs = [.bool true] := h1
  subst h1
  exact wp_cond_true h2 (h a w ha r hr)
theorem gFalse {c : Operand} {x y : Code} (hb : opE l c = some (.rd boolR false)) (h : G P (Sta Γ l res) y Q m) : G P (Sta Γ l res) (.cond c x y) Q m := fun a w ha r hr => by
  obtain ⟨cs, h1, h2⟩ := ha.vl hb
  have h1 : cs = [.bool false] := h1
  subst h1
  exact wp_cond_false h2 (h a w ha r hr)
/-- A Bool in a slot is looked at. -/
theorem Sta.known {a : Act} {w : World} {t : Nat} {b b' : Bool} (ha : Sta Γ l res a w) (hb : lk l t = some (.rd boolR b)) (e : b = b') : Sta Γ ((t, .rd boolR b') :: l) res a w := by
  subst e
  refine { ha with slots := fun t' e' ht' => ?_ }
  rw [lk_cons] at ht'
  split at ht'
  · rename_i hh; subst hh; cases ht'; exact ha.slots t _ hb
  · exact ha.slots t' e' ht'
section
variable {X : ρ → Act → World → Prop}
theorem xIf (t : Nat) {b : Bool} (hb : lk l t = some (.rd boolR b)) (ht : b = true → GX X (Sta Γ ((t, .rd boolR true) :: l) res) m1) (hf : b = false → GX X (Sta Γ ((t, .rd boolR false) :: l) res) m2) :
    GX X (Sta Γ l res) (if b then m1 else m2) := by
  intro a w ha r hr
  cases b with
  | true => exact ht rfl a w (ha.known hb rfl) r (by simpa using hr)
  | false => exact hf rfl a w (ha.known hb rfl) r (by simpa using hr)
/-- A value gets a name. -/
theorem xName {α : Type} {R : Rep α} {x : α} {k : α → Option ρ} (t : Nat) (hx : lk l t = some (.rd R x)) (h : ∀ y, GX X (Sta Γ ((t, .rd R y) :: l) res) (k y)) : GX X (Sta Γ l res) (some x >>= k) := by
  intro a w ha r hr
  refine h x a w ?_ r hr
  refine { ha with slots := fun t' e' ht' => ?_ }
  rw [lk_cons] at ht'
  split at ht'
  · rename_i hh; subst hh; cases ht'; exact ha.slots t _ hx
  · exact ha.slots t' e' ht'
theorem xBind {σ : Type} {A : Asn} {m : Option σ} {k : σ → Option ρ} (h : ∀ s, m = some s → GX X A (k s)) : GX X A (m >>= k) := fun a w ha r hr => by
  cases hm : m with
  | none => rw [hm] at hr; cases hr
  | some s => rw [hm] at hr; exact h s hm a w ha r hr
theorem xWeak {A B : Asn} (hAB : ∀ a w, A a w → B a w) (h : GX X B m) : GX X A m := fun a w ha r hr => h a w (hAB a w ha) r hr
theorem xEx {ι : Type} {A : ι → Asn} (h : ∀ i, GX X (A i) m) : GX X (fun a w => ∃ i, A i a w) m := fun a w ⟨i, ha⟩ r hr => h i a w ha r hr
end

/-! ### a region's operations -/
/-- An operation that yields a value and leaves the world as it is, in every world C away. -/
def Run (C : World → World → Prop) (P : Program) (Γ : Ctx) (l : Slots) (res : Res) (o : Oper) (e : Ent) : Prop :=
  ∀ a w, Sta Γ l res a w → ∃ v, (∀ w', C w w' → (execOp a.eval o).run P w' = .ok (.value v) w') ∧ e.holds (Shr Γ.H res w) w v
abbrev AnyW : World → World → Prop := fun _ _ => True
theorem Run.q {C : World → World → Prop} {o : Oper} {e : Ent} (h : Run AnyW P Γ l res o e) : Run C P Γ l res o e := fun a w ha => by
  obtain ⟨v, h1, h2⟩ := h a w ha; exact ⟨v, fun w' _ => h1 w' trivial, h2⟩
theorem Sta.yield {a : Act} {w : World} (ha : Sta Γ l res a w) {j t : Nat} {b : Bool} (hj : (os.toArray[j]?).bind (·.dst) = some t) (hl : lk l t = some (.rd boolR b)) : yielded os.toArray a.tmps j = some b := by
  obtain ⟨v, h1, cs, h2, h3⟩ := ha.slots t _ hl
  have h2 : cs = [.bool b] := h2
  subst h2
  have h3 : v = .bool b := h3
  subst h3
  unfold yielded
  rw [hj]
  simp [h1]
/-- the guard of an operation: what is known of it -/
def Grd (os : List Oper) (l : Slots) (o : Oper) (yes : Bool) : Prop := match o.guard with
  | none => yes = true
  | some (j, b) => ∃ t, (os.toArray[j]?).bind (·.dst) = some t ∧ ((∃ b', lk l t = some (.rd boolR b') ∧ yes = (b' == b)) ∨ (lk l t = some .un ∧ yes = false))
theorem Grd.wanted {a : Act} {w : World} {o : Oper} {yes : Bool} (h : Grd os l o yes) (ha : Sta Γ l res a w) : Region.wanted o (yielded os.toArray a.tmps) = yes := by
  unfold Grd at h
  unfold Region.wanted
  cases hg : o.guard with
  | none => rw [hg] at h; simp [h]
  | some x =>
    obtain ⟨j, b⟩ := x
    rw [hg] at h
    obtain ⟨t, h1, ⟨b', h2, h3⟩ | ⟨h2, h3⟩⟩ := h
    · simp [ha.yield h1 h2, h3]
    · obtain ⟨v, h4, h5⟩ := ha.slots t _ h2
      have h5 : v = undef := h5
      subst h5; subst h3
      have hy : yielded os.toArray a.tmps j = none := by unfold yielded; rw [h1]; simp [h4, undef]
      simp [hy]
theorem gd0 {o : Oper} (h : o.guard = none) : Grd os l o true := by simp [Grd, h]
theorem gd {o : Oper} {j t : Nat} {b b' yes : Bool} (h : o.guard = some (j, b)) (hj : (os.toArray[j]?).bind (·.dst) = some t) (hl : lk l t = some (.rd boolR b')) (hy : (b' == b) = yes) : Grd os l o yes := by
  simp only [Grd, h]; exact ⟨t, hj, .inl ⟨b', hl, hy.symm⟩⟩
theorem gdU {o : Oper} {j t : Nat} {b : Bool} (h : o.guard = some (j, b)) (hj : (os.toArray[j]?).bind (·.dst) = some t) (hl : lk l t = some .un) : Grd os l o false := by
  simp only [Grd, h]; exact ⟨t, hj, .inr ⟨hl, trivial⟩⟩

/-- The mother of all steps: a value. -/
theorem lRun {o : Oper} {d : Nat} {e : Ent} (g : Grd os l o true) (hd : o.dst = some d) (hn : Nat.blt d Γ.n = true) (hr : Run Eq P Γ l res o e)
    (k : GL P os (Sta Γ ((d, e) :: l) res) rest N m) : GL P os (Sta Γ l res) (o :: rest) N m := fun a w ha r hm => by
  obtain ⟨v, h1, h2⟩ := hr a w ha
  refine st (g.wanted ha) (h1 w rfl) ?_
  rw [hd]
  exact k _ w (ha.put hn h2) r hm
theorem lSkip {o : Oper} {d : Nat} (g : Grd os l o false) (hd : o.dst = some d) (hn : Nat.blt d Γ.n = true)
    (k : GL P os (Sta Γ ((d, .un) :: l) res) rest N m) : GL P os (Sta Γ l res) (o :: rest) N m := fun a w ha r hm => by
  refine wpList_step fun K hK => ?_
  rw [if_neg (by simp [g.wanted ha]), hd]
  exact hK _ _ (k _ w (ha.put hn rfl) r hm)
theorem lSkip0 {o : Oper} (g : Grd os l o false) (hd : o.dst = none)
    (k : GL P os (Sta Γ l res) rest N m) : GL P os (Sta Γ l res) (o :: rest) N m := fun a w ha r hm => by
  refine wpList_step fun K hK => ?_
  rw [if_neg (by simp [g.wanted ha]), hd]
  exact hK _ _ (k _ w ha r hm)
/-- without a guard -/
theorem R {d : Nat} {op : Op} {ty : TypeId} {pos : String} {after : Array Edge} {e : Ent} (hn : Nat.blt d Γ.n = true) (hr : Run Eq P Γ l res ⟨some d, op, ty, pos, after, none⟩ e)
    (k : GL P os (Sta Γ ((d, e) :: l) res) rest N m) : GL P os (Sta Γ l res) (⟨some d, op, ty, pos, after, none⟩ :: rest) N m := lRun (gd0 rfl) rfl hn hr k

/-- What may be written meanwhile: the blocks of the resources ws, and new ones. -/
def CW (res : Res) (ws : List Nat) (w w' : World) : Prop := Keep (fun b => b < w.heap.size ∧ ∀ r v c, ws.contains r = true → lr res r = some (v, c) → rblk v ≠ some b) w w'
class LC (C : World → World → Prop) (res : Res) (ws : outParam (List Nat)) : Prop where
  le : ∀ {w w'}, C w w' → CW res ws w w'
instance : LC Eq res [] := ⟨fun h => by subst h; exact Keep.rfl'⟩
instance : LC Ext res [] := ⟨fun h => ⟨h.os, h.tape, h.output, h.size, fun b hb => h.block b hb.1⟩⟩
instance {ws : List Nat} : LC (CW res ws) res ws := ⟨fun h => h⟩
theorem CW.at {C : World → World → Prop} {ws : List Nat} [LC C res ws] {a : Act} {w w' : World} (h : C w w') (ha : Sta Γ l res a w) {b : Nat} {r : Nat} {v : Value} {c : Cont} (hr : lr res r = some (v, c)) (hb : rblk v = some b) (hn : ws.contains r = false) : w'.heap[b]? = w.heap[b]? := by
  refine (LC.le (res := res) (ws := ws) h).block b ⟨(ha.conts r v c hr).lt hb, fun r' v' c' h1 h2 => ?_⟩
  have hne : r' ≠ r := fun e => by subst e; rw [hn] at h1; cases h1
  exact fun e => ha.excl r' v' c' r v c h2 hr hne b e hb
theorem CW.shr {C : World → World → Prop} {ws : List Nat} [LC C res ws] {H : Blk} {w w' : World} (h : C w w') {b : Nat} (hb : Shr H res w b) : w'.heap[b]? = w.heap[b]? :=
  (LC.le (res := res) (ws := ws) h).block b ⟨hb.1, fun r v c _ h1 => hb.2.1 r v c h1⟩
theorem CW.stay {C : World → World → Prop} {ws : List Nat} [LC C res ws] {H : Blk} {w w' : World} (h : C w w') : Stay (Shr H res w) (Shr H res w') w w' := fun b hb =>
  ⟨⟨Nat.lt_of_lt_of_le hb.1 (LC.le (res := res) (ws := ws) h).size, hb.2⟩, CW.shr h hb⟩

/-! ### a region that draws its order, and only reads -/
theorem gRegQ {id : Nat} {A : Asn} {Q : ρ → Exit → Act → World → Prop} (hm : P.follows .mixedOrders = true) (hB : Region.lexB .any os.toArray = true) (h : GQ P os A os Q m) : G P A (.region id os.toArray true) Q m := fun a w ha r hr =>
  quiet_reg hm hB (h a w ha r hr)
theorem qNil {ops : List Oper} (h : GE (Sta Γ l res) .normal N m) : GQ P ops (Sta Γ l res) [] N m := fun a w ha r hr w' hw' => h a w' (ha.ext hw') r hr
theorem qRun {o : Oper} {d : Nat} {e : Ent} (g : Grd os l o true) (hd : o.dst = some d) (hn : Nat.blt d Γ.n = true) (hr : Run Ext P Γ l res o e)
    (k : GQ P os (Sta Γ ((d, e) :: l) res) rest N m) : GQ P os (Sta Γ l res) (o :: rest) N m := fun a w ha r hm => by
  obtain ⟨v, h1, h2⟩ := hr a w ha
  refine wpQuiet_step fun K hK => ?_
  rw [if_pos (g.wanted ha)]
  refine ⟨v, fun w' h => by unfold Oper.quietAt; rw [h1 w' h]; exact ⟨rfl, rfl⟩, ?_⟩
  rw [hd]
  exact hK _ (k _ w (ha.put hn h2) r hm)
theorem Rq {d : Nat} {op : Op} {ty : TypeId} {pos : String} {after : Array Edge} {e : Ent} (hn : Nat.blt d Γ.n = true) (hr : Run Ext P Γ l res ⟨some d, op, ty, pos, after, none⟩ e)
    (k : GQ P os (Sta Γ ((d, e) :: l) res) rest N m) : GQ P os (Sta Γ l res) (⟨some d, op, ty, pos, after, none⟩ :: rest) N m := qRun (gd0 rfl) rfl hn hr k
theorem qSkip {o : Oper} {d : Nat} (g : Grd os l o false) (hd : o.dst = some d) (hn : Nat.blt d Γ.n = true)
    (k : GQ P os (Sta Γ ((d, .un) :: l) res) rest N m) : GQ P os (Sta Γ l res) (o :: rest) N m := fun a w ha r hm => by
  refine wpQuiet_step fun K hK => ?_
  rw [if_neg (by simp [g.wanted ha]), hd]
  exact hK _ (k _ w (ha.put hn rfl) r hm)
end
end Go.Proofs.Ytklfgpdfongaeaa
