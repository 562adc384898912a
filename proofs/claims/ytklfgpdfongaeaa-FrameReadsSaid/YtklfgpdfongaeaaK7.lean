/- Loops, ways that meet, calls and results: over data. Over any program. -/
import Derived.Test.YtklfgpdfongaeaaK6
namespace Go.Proofs.Ytklfgpdfongaeaa
open Go Go.RowKit
set_option linter.unusedSimpArgs false
set_option linter.unusedVariables false

/-! ### loops -/
/-- one round after another: a round ends in a result, or in the next state -/
def iter {σ β : Type} (F : σ → Option (Sum β σ)) (s : σ) : Option β := F s >>= fun x => match x with
  | .inl b => some b
  | .inr s' => iter F s'
  partial_fixpoint
section
variable {ρ σ β τ : Type} {P : Program} {A : Asn} {Q : ρ → Exit → Act → World → Prop}

/-- what a round shows -/
def loopQ (i : Nat) (As : σ → Asn) (M : β → Exit → Act → World → Prop) : Sum β σ → Exit → Act → World → Prop
  | .inl b, e, a, w => e ≠ .normal ∧ Exit.inBlock i (M b) e a w
  | .inr s, e, a, w => e = .normal ∧ As s a w
theorem wp_iter {c : Code} {i : Nat} {As : σ → Asn} {M : β → Exit → Act → World → Prop} {F : σ → Option (Sum β σ)} (hb : ∀ s, G P (As s) c (loopQ i As M) (F s)) (s : σ) (b : β) (h : iter F s = some b)
    (a : Act) (w : World) (ha : As s a w) : (Code.loop c).wp P (Exit.inBlock i (M b)) a w := by
  have key : ∀ s b, iter F s = some b → ∀ a w, As s a w → ∀ (fr : Frame) (k : List Item) (cs : List Frame), ∃ e a' w', Exit.inBlock i (M b) e a' w' ∧ Arrives P (lone (fr.at a (.code c :: .inLoop c :: k)) cs w) fr k cs e a' w' := by
    refine iter.partial_correctness F (fun s b => ∀ a w, As s a w → ∀ (fr : Frame) (k : List Item) (cs : List Frame), ∃ e a' w', Exit.inBlock i (M b) e a' w' ∧ Arrives P (lone (fr.at a (.code c :: .inLoop c :: k)) cs w) fr k cs e a' w') ?_
    intro it ih s b hs a w ha fr k cs
    cases hF : F s with
    | none => rw [hF] at hs; cases hs
    | some x =>
      rw [hF] at hs
      obtain ⟨e, a₁, w₁, hq, harr⟩ := hb s a w ha x hF fr (.inLoop c :: k) cs
      cases x with
      | inr s' =>
        obtain ⟨rfl, hA⟩ := hq
        obtain ⟨e₂, a₂, w₂, hq₂, harr₂⟩ := ih s' b hs a₁ w₁ hA fr k cs
        exact ⟨e₂, a₂, w₂, hq₂, .of_steps (Steps.trans harr (.one step_inLoop)) harr₂⟩
      | inl b' =>
        have e0 : b' = b := by simpa using hs
        subst e0
        obtain ⟨hne, hq⟩ := hq
        cases e with
        | normal => exact absurd rfl hne
        | exit id => exact ⟨_, a₁, w₁, hq, .pass (x := .inLoop c) rfl (fun _ _ => .inl (by simp)) harr⟩
        | goto l => exact ⟨_, a₁, w₁, hq, .pass (x := .inLoop c) rfl (fun _ _ => .inl (by simp)) harr⟩
        | ret => exact ⟨_, a₁, w₁, hq, .pass (x := .inLoop c) rfl (fun _ _ => .inl (by simp)) harr⟩
        | panic ch => exact ⟨_, a₁, w₁, hq, .pass (x := .inLoop c) rfl (fun _ _ => .inl (by simp)) harr⟩
        | outgrown => exact ⟨_, a₁, w₁, hq, .pass (x := .inLoop c) rfl (fun _ _ => .inl (by simp)) harr⟩
  intro fr k cs
  obtain ⟨e, a', w', hq, harr⟩ := key s b h a w ha fr k cs
  exact ⟨e, a', w', hq, .of_steps (.one step_loop) harr⟩
theorem gLoop {c : Code} {i : Nat} (As : σ → Asn) {M : β → Exit → Act → World → Prop} {F : σ → Option (Sum β σ)} {s : σ} (h0 : ∀ a w, A a w → As s a w) (hb : ∀ s, G P (As s) c (loopQ i As M) (F s)) :
    G P A (.block i (.loop c)) M (iter F s) := fun a w ha b h => wp_block (wp_iter hb s b h a w (h0 a w ha))
theorem eNext {i : Nat} {As : σ → Asn} {M : β → Exit → Act → World → Prop} {s : σ} (h : ∀ a w, A a w → As s a w) : GE A .normal (loopQ i As M) (some (.inr s)) := fun a w ha r hr => by
  cases hr; exact ⟨rfl, h a w ha⟩
theorem eLeave {i : Nat} {As : σ → Asn} {M : β → Exit → Act → World → Prop} {b : β} (h : GE A .normal M (some b)) : GE A (.exit i) (loopQ i As M) (some (.inl b)) := fun a w ha r hr => by
  cases hr; exact ⟨by simp, by have := h a w ha b rfl; simp [Exit.inBlock, this]⟩
theorem eLret {i : Nat} {As : σ → Asn} {M : β → Exit → Act → World → Prop} {b : β} (h : GE A .ret M (some b)) : GE A .ret (loopQ i As M) (some (.inl b)) := fun a w ha r hr => by
  cases hr; exact ⟨by simp, h a w ha b rfl⟩
theorem eLoth {i j : Nat} {As : σ → Asn} {M : β → Exit → Act → World → Prop} {b : β} (hne : Nat.beq j i = false) (h : GE A (.exit j) M (some b)) : GE A (.exit j) (loopQ i As M) (some (.inl b)) := fun a w ha r hr => by
  cases hr; exact ⟨by simp, by have := h a w ha b rfl; simp [Exit.inBlock, Nat.ne_of_beq_eq_false hne, this]⟩

/-! ### ways that meet -/
def midQ (Bs : τ → Asn) : τ → Exit → Act → World → Prop := fun t e a w => e = .normal ∧ Bs t a w
def midR (Bs : τ → Asn) (Q : ρ → Exit → Act → World → Prop) : Sum ρ τ → Exit → Act → World → Prop
  | .inl r, e, a, w => e ≠ .normal ∧ Q r e a w
  | .inr t, e, a, w => e = .normal ∧ Bs t a w
theorem gMid {x y : Code} (Bs : τ → Asn) {m : Option τ} {k : τ → Option ρ} (hx : G P A x (midQ Bs) m) (hy : ∀ t, G P (Bs t) y Q (k t)) : G P A (.seq x y) Q (m >>= k) := fun a w ha r hr => by
  cases hm : m with
  | none => rw [hm] at hr; cases hr
  | some t =>
    rw [hm] at hr
    refine wp_seq (Code.wp_mono (fun e a w h => ?_) (hx a w ha t hm))
    obtain ⟨rfl, h⟩ := h
    exact hy t a w h r hr
/-- what follows, unless the call has ended -/
def orRet (m : Option (Sum ρ τ)) (k : τ → Option ρ) : Option ρ := m >>= fun s => match s with
  | .inl r => some r
  | .inr t => k t
/-- the same, where the first part may end the call -/
theorem gMidR {x y : Code} (Bs : τ → Asn) {m : Option (Sum ρ τ)} {k : τ → Option ρ} (hx : G P A x (midR Bs Q) m) (hy : ∀ t, G P (Bs t) y Q (k t)) :
    G P A (.seq x y) Q (orRet m k) := fun a w ha r hr => by
  unfold orRet at hr
  cases hm : m with
  | none => rw [hm] at hr; cases hr
  | some s =>
    rw [hm] at hr
    refine wp_seq (Code.wp_mono (fun e a w h => ?_) (hx a w ha s hm))
    cases s with
    | inl r' =>
      have e0 : r' = r := by simpa using hr
      subst e0
      obtain ⟨hne, h⟩ := h
      cases e <;> first | exact absurd rfl hne | exact h
    | inr t =>
      obtain ⟨rfl, h⟩ := h
      exact hy t a w h r hr
theorem eMid {Bs : τ → Asn} {t : τ} (h : ∀ a w, A a w → Bs t a w) : GE A .normal (midQ Bs) (some t) := fun a w ha r hr => by cases hr; exact ⟨rfl, h a w ha⟩
theorem eMidR {Bs : τ → Asn} {t : τ} (h : ∀ a w, A a w → Bs t a w) : GE A .normal (midR Bs Q) (some (.inr t)) := fun a w ha r hr => by cases hr; exact ⟨rfl, h a w ha⟩
theorem eMret {Bs : τ → Asn} {r : ρ} (h : GE A .ret Q (some r)) : GE A .ret (midR Bs Q) (some (.inl r)) := fun a w ha r' hr => by cases hr; exact ⟨by simp, h a w ha r rfl⟩
theorem eMexit {Bs : τ → Asn} {r : ρ} {i : Nat} (h : GE A (.exit i) Q (some r)) : GE A (.exit i) (midR Bs Q) (some (.inl r)) := fun a w ha r' hr => by cases hr; exact ⟨by simp, h a w ha r rfl⟩
end

/-! ### less is kept -/
def SubS (l : Slots) : Slots → Prop
  | [] => True
  | (t, e) :: l' => lk l t = some e ∧ SubS l l'
theorem SubS.get {l : Slots} : ∀ {l' : Slots} {t : Nat} {e : Ent}, SubS l l' → lk l' t = some e → lk l t = some e
  | [], t, e, _, h => by cases h
  | (t', e') :: l', t, e, hs, h => by
    rw [lk_cons] at h
    split at h
    · rename_i hh; subst hh; cases h; exact hs.1
    · exact SubS.get hs.2 h
def SubR (res : Res) : Res → List Nat → Prop
  | [], [] => True
  | (_, x) :: res', n :: ns => (∃ y, x = some y ∧ lr res n = some y) ∧ ns.contains n = false ∧ SubR res res' ns
  | _, _ => False
theorem SubR.get {res : Res} : ∀ {res' : Res} {ns : List Nat} {r : Nat} {v : Value} {c : Cont}, SubR res res' ns → lr res' r = some (v, c) → ∃ n ∈ ns, lr res n = some (v, c)
  | [], [], _, _, _, _, h => by cases h
  | (r', x) :: res', n :: ns, r, v, c, hs, h => by
    rw [lr_cons] at h
    obtain ⟨⟨y, rfl, h1⟩, h2, h3⟩ := hs
    split at h
    · cases h; exact ⟨n, by simp, h1⟩
    · obtain ⟨n', h4, h5⟩ := SubR.get h3 h; exact ⟨n', by simp [h4], h5⟩
  | [], _ :: _, _, _, _, hs, _ => hs.elim
  | _ :: _, [], _, _, _, hs, _ => hs.elim
theorem SubR.get2 {res : Res} : ∀ {res' : Res} {ns : List Nat} {r r2 : Nat} {x x2 : Value × Cont}, SubR res res' ns → lr res' r = some x → lr res' r2 = some x2 → r ≠ r2 → ∃ n n2, n ≠ n2 ∧ lr res n = some x ∧ lr res n2 = some x2
  | [], [], _, _, _, _, _, h, _, _ => by cases h
  | (r', y) :: res', n :: ns, r, r2, x, x2, hs, h, h', hne => by
    rw [lr_cons] at h h'
    obtain ⟨⟨y, rfl, h1⟩, h2, h3⟩ := hs
    have hn : ∀ n', n' ∈ ns → n ≠ n' := fun n' hn' e => by subst e; simp at h2; exact h2 hn'
    split at h
    · rename_i e1; subst e1; cases h
      rw [if_neg hne] at h'
      obtain ⟨v2, c2⟩ := x2
      obtain ⟨n', h4, h5⟩ := SubR.get h3 h'
      exact ⟨n, n', hn n' h4, h1, h5⟩
    · split at h'
      · cases h'
        obtain ⟨v, c⟩ := x
        obtain ⟨n', h4, h5⟩ := SubR.get h3 h
        exact ⟨n', n, fun e => hn n' h4 e.symm, h5, h1⟩
      · exact SubR.get2 h3 h h' hne
  | [], _ :: _, _, _, _, _, hs, _, _, _ => hs.elim
  | _ :: _, [], _, _, _, _, hs, _, _, _ => hs.elim
section
variable {P : Program} {Γ : Ctx} {l l' : Slots} {res res' : Res} {a : Act} {w : World}
theorem SubR.stay {H : Blk} {ns : List Nat} (h : SubR res res' ns) : Stay (Shr H res w) (Shr H res' w) w w := fun b hb =>
  ⟨⟨hb.1, fun r v c hr => by obtain ⟨n, _, h1⟩ := h.get hr; exact hb.2.1 n v c h1, hb.2.2⟩, rfl⟩
theorem Sta.sub (ha : Sta Γ l res a w) (ns : List Nat) (hs : SubS l l') (hr : SubR res res' ns) : Sta Γ l' res' a w where
  size := ha.size
  defers := ha.defers
  slots t e ht := by obtain ⟨v, h1, h2⟩ := ha.slots t e (hs.get ht); exact ⟨v, h1, e.mono hr.stay h2⟩
  conts r v c h := by obtain ⟨n, _, h1⟩ := hr.get h; exact (ha.conts n v c h1).mono hr.stay (fun _ _ => rfl)
  excl r v c r' v' c' h h' hne := by obtain ⟨n, n2, h1, h2, h3⟩ := hr.get2 h h' hne; exact ha.excl n v c n2 v' c' h2 h3 h1
  own r v c h := by obtain ⟨n, _, h1⟩ := hr.get h; exact ha.own n v c h1
  keep := ha.keep
  old := ha.old
  hid := ha.hid
end

/-! ### what a function does -/
structure Post where
  ret : List Ent
  res : Res
/-- the blocks of resources -/
def Bof (res : Res) (b : Nat) : Prop := ∃ r v c, lr res r = some (v, c) ∧ rblk v = some b
structure ResOk (H : Blk) (res : Res) (w : World) : Prop where
  conts : ∀ r v c, lr res r = some (v, c) → c.holds (Shr H res w) w v
  excl : ∀ r v c r' v' c', lr res r = some (v, c) → lr res r' = some (v', c') → r ≠ r' → ∀ b, rblk v = some b → rblk v' ≠ some b
  hid : ∀ b, H b → b < w.heap.size ∧ ¬ Bof res b
structure PostOk (H : Blk) (rin : Res) (q : Post) (w w' : World) (vs : List Value) : Prop where
  ret : holdsL (Shr H q.res w') w' q.ret vs
  conts : ∀ r v c, lr q.res r = some (v, c) → c.holds (Shr H q.res w') w' v
  excl : ∀ r v c r' v' c', lr q.res r = some (v, c) → lr q.res r' = some (v', c') → r ≠ r' → ∀ b, rblk v = some b → rblk v' ≠ some b
  own : ∀ r v c, lr q.res r = some (v, c) → ∀ b, rblk v = some b → w.heap.size ≤ b ∨ Bof rin b
  keep : Keep (fun b => b < w.heap.size ∧ ¬ Bof rin b) w w'
def endR (H : Blk) (rin : Res) (q : (Nat → Value) → Post) (w : World) : Ending → World → Prop := fun e w' => ∃ nv vs, e = .returned (retv vs) ∧ PostOk H rin (q nv) w w' vs
/-- With these data as its arguments, and these things lent to it, the function ends as is said. -/
def Spec {ρ : Type} (P : Program) (f : FuncId) (pin : List Ent) (rin : Res) (m : Option ρ) (q : ρ → (Nat → Value) → Post) : Prop :=
  ∀ r, m = some r → ∀ (H : Blk) (vs : List Value) (w : World), holdsL (Shr H rin w) w pin vs → ResOk H rin w → Calls P f vs.toArray w (endR H rin (q r) w)
def argS : Nat → List Ent → Slots
  | _, [] => []
  | i, e :: es => (i, e) :: argS (i + 1) es
theorem argS_get {S : Blk} {w : World} : ∀ {es : List Ent} {vs : List Value} {i t : Nat} {e : Ent}, holdsL S w es vs → lk (argS i es) t = some e → i ≤ t ∧ ∃ v, vs[t - i]? = some v ∧ e.holds S w v
  | [], _, i, t, e, _, h => by cases h
  | e0 :: es, v :: vs, i, t, e, hh, h => by
    simp only [argS] at h
    rw [lk_cons] at h
    split at h
    · rename_i ht; subst ht; cases h; exact ⟨Nat.le_refl _, v, by simp, hh.1⟩
    · obtain ⟨h1, u, h2, h3⟩ := argS_get hh.2 h
      refine ⟨by omega, u, ?_, h3⟩
      rw [show t - i = (t - (i + 1)) + 1 by omega]; simpa using h2
  | _ :: _, [], _, _, _, hh, _ => hh.elim
theorem holdsL.length {S : Blk} {w : World} : ∀ {es : List Ent} {vs : List Value}, holdsL S w es vs → es.length = vs.length
  | [], [], _ => rfl
  | _ :: _, _ :: _, h => by simp [holdsL.length h.2]
  | [], _ :: _, h => h.elim
  | _ :: _, [], h => h.elim
def endQ {ρ : Type} (P : Program) (fn : Func) (H : Blk) (rin : Res) (q : ρ → (Nat → Value) → Post) (w : World) : ρ → Exit → Act → World → Prop := fun r => bodyPost P fn (endR H rin (q r) w)
abbrev ctx (n : Nat) (H : Blk) (rin : Res) (w : World) : Ctx := ⟨n, fun b => b < w.heap.size ∧ ¬ Bof rin b, H, w⟩
/-- The function is entered. -/
theorem spec {ρ : Type} {P : Program} {f : FuncId} {fn : Func} {c : Code} {pin : List Ent} {rin : Res} {m : Option ρ} {q : ρ → (Nat → Value) → Post} (n : Nat) (hf : P.funcs[f]? = some fn) (hb : fn.body = some c) (hn : fn.ntmps = n) (hl : Nat.ble pin.length n = true)
    (h : ∀ H w, G P (Sta (ctx n H rin w) (argS 0 pin) rin) c (endQ P fn H rin q w) m) : Spec P f pin rin m q := by
  intro r hr H vs w hvs hR
  have hl : pin.length ≤ n := Nat.le_of_ble_eq_true hl
  have hlen := hvs.length
  subst hn
  refine calls_of_wp hf hb (h H w _ w ?_ r hr)
  refine ⟨by simp; omega, rfl, fun t e ht => ?_, hR.conts, hR.excl, fun r v c h1 b h2 h3 => h3.2 ⟨r, v, c, h1, h2⟩, Keep.rfl', fun b hb => hb.1, fun b hb => hR.hid b hb⟩
  obtain ⟨-, v, h1, h2⟩ := argS_get hvs ht
  refine ⟨v, ?_, h2⟩
  simp only [Nat.sub_zero] at h1
  have hlt : t < vs.length := (List.getElem?_eq_some_iff.1 h1).1
  rw [Array.getElem?_append_left (by simpa using hlt)]
  simpa using h1
/-- results, as entries -/
def ResE (P : Program) (l : Slots) (res : Res) : List ResultVar → List Ent → Prop
  | [], [] => True
  | .tmp t :: rs, e :: es => lk l t = some e ∧ ResE P l res rs es
  | .cell t T :: rs, e :: es => (∃ r v T', lk l t = some (.val (ptrTo v 0)) ∧ lr res r = some (v, .box T' [e]) ∧ ((∃ (α : Type) (R : Rep α) (x : α), e = .rd R x ∧ TyIs P T R.agg R.sz) ∨ ∃ u, e = .val u ∧ Sc P T)) ∧ ResE P l res rs es
  | _, _ => False
/-- the whole frame -/
def flA (a : Act) : List (Nat × Value) := (List.range a.tmps.size).map fun t => (t, a.tmps.getD t undef)
theorem look_map (g : Nat → Value) : ∀ (l : List Nat) (t : Nat), look (l.map fun t => (t, g t)) t = if t ∈ l then some (g t) else none
  | [], t => by simp [look]
  | k :: l, t => by
    simp only [List.map_cons, look]
    cases hb : Nat.beq k t with
    | true => have := Nat.eq_of_beq_eq_true hb; subst this; simp
    | false =>
      have := Nat.ne_of_beq_eq_false hb
      simp [look_map g l t, Ne.symm this]
theorem look_flA {a : Act} {t : Nat} {v : Value} (h : a.tmps[t]? = some v) : look (flA a) t = some v := by
  have h1 : t < a.tmps.size := (Array.getElem?_eq_some_iff.1 h).1
  unfold flA
  rw [look_map, if_pos (by simpa using h1)]
  simp [Array.getD_eq_getD_getElem?, h]
theorem Sta.frmA {Γ : Ctx} {l : Slots} {res : Res} {a : Act} {w : World} (ha : Sta Γ l res a w) : Frm Γ.n (flA a) a := ⟨ha.size, ha.defers, fun t v h => by
  unfold flA at h
  rw [look_map] at h
  split at h
  · rename_i hh
    have h1 : t < a.tmps.size := by simpa using hh
    simp only [Option.some.injEq] at h
    rw [← h, Array.getD_eq_getD_getElem?, Array.getElem?_eq_getElem h1]; rfl
  · cases h⟩
theorem ResE.get {P : Program} {Γ : Ctx} {l : Slots} {res : Res} {a : Act} {w : World} (ha : Sta Γ l res a w) : ∀ {rs : List ResultVar} {es : List Ent}, ResE P l res rs es → ∃ vs, ResOK P w (flA a) rs vs ∧ holdsL (Shr Γ.H res w) w es vs
  | [], [], _ => ⟨[], trivial, trivial⟩
  | .tmp t :: rs, e :: es, h => by
    obtain ⟨vs, h2, h3⟩ := ResE.get ha h.2
    obtain ⟨v, k1, k2⟩ := ha.slots t e h.1
    exact ⟨v :: vs, ⟨look_flA k1, h2⟩, k2, h3⟩
  | .cell t T :: rs, e :: es, h => by
    obtain ⟨vs, h2, h3⟩ := ResE.get ha h.2
    obtain ⟨r, v, T', g1, g2, g3⟩ := h.1
    obtain ⟨v', k1, e0, -⟩ := ha.slots t _ g1
    rcases ha.conts r v _ g2 with h4 | ⟨b, o, h4, h5, b', us, rfl, rfl, h6⟩
    · exact h4.elim
    · simp only [rblk, Option.some.injEq] at h4
      subst h4
      match us, h6 with
      | [u], ⟨h7, _⟩ =>
        refine ⟨u :: vs, ⟨⟨⟨b', 0, none⟩, look_flA (by rw [k1, e0]; rfl), ?_⟩, h2⟩, h7, h3⟩
        rcases g3 with ⟨α, R, x, rfl, hT⟩ | ⟨u', rfl, hT⟩
        · obtain ⟨cs, q1, rfl⟩ := h7
          exact Bx.load (a := []) (dd := []) h5 (by simp [catC, Rep.val_cells q1]) q1 hT
        · obtain ⟨rfl, q1⟩ := h7
          have hB : Bx w b' (catC [u]).toArray T' := h5
          exact run_load1 hT (hB.cell' (by simp [catC, oneCell_cells q1]))
  | [], _ :: _, h => h.elim
  | .tmp _ :: _, [], h => h.elim
  | .cell _ _ :: _, [], h => h.elim
/-- values by number -/
def nvl (vs : List Value) (i : Nat) : Value := vs.getD i undef
/-- The call ends. -/
theorem eRet {ρ : Type} {P : Program} {fn : Func} {n : Nat} {H : Blk} {rin : Res} {w0 : World} {q : ρ → (Nat → Value) → Post} {r : ρ} {l : Slots} {res : Res} {rs : List ResultVar} (vs : List Value) (ns : List Nat) (hr : fn.results = rs.toArray) (h : ResE P l res rs (q r (nvl vs)).ret) (hs : SubR res (q r (nvl vs)).res ns) :
    GE (Sta (ctx n H rin w0) l res) .ret (endQ P fn H rin q w0) (some r) := fun a w ha r' hr' => by
  cases hr'
  obtain ⟨us, h1, h2⟩ := h.get ha
  refine bodyPost_ret (run_results ha.frmA hr h1) ha.defers ⟨nvl vs, us, rfl, ?_⟩
  have hk : ∀ b, (ctx n H rin w0).K b ↔ b < w0.heap.size ∧ ¬ Bof rin b := fun b => Iff.rfl
  refine ⟨h2.mono hs.stay, fun r v c h => by obtain ⟨n, _, h1⟩ := hs.get h; exact (ha.conts n v c h1).mono hs.stay (fun _ _ => rfl), fun r v c r' v' c' h h' hne => by obtain ⟨n, n2, h1, h2, h3⟩ := hs.get2 h h' hne; exact ha.excl n v c n2 v' c' h2 h3 h1, fun r v c h b hb => ?_, ha.keep⟩
  obtain ⟨n', _, h1⟩ := hs.get h
  have := ha.own n' v c h1 b hb
  rw [hk] at this
  by_cases h3 : b < w0.heap.size
  · exact .inr (Classical.byContradiction fun h4 => this ⟨h3, h4⟩)
  · exact .inl (by omega)
/-- The body ends without 'return'. -/
theorem eEnd {ρ : Type} {P : Program} {fn : Func} {n : Nat} {H : Blk} {rin : Res} {w0 : World} {q : ρ → (Nat → Value) → Post} {r : ρ} {l : Slots} {res : Res} (vs : List Value) (ns : List Nat) (hr : fn.results = #[]) (h : (q r (nvl vs)).ret = []) (hs : SubR res (q r (nvl vs)).res ns) :
    GE (Sta (ctx n H rin w0) l res) .normal (endQ P fn H rin q w0) (some r) := fun a w ha r' hr' => by
  cases hr'
  refine bodyPost_end (v := .tuple #[]) (by rw [results_none hr]) ha.defers ⟨nvl vs, [], rfl, ?_⟩
  have hk : ∀ b, (ctx n H rin w0).K b ↔ b < w0.heap.size ∧ ¬ Bof rin b := fun b => Iff.rfl
  refine ⟨by rw [h]; trivial, fun r v c h => by obtain ⟨n, _, h1⟩ := hs.get h; exact (ha.conts n v c h1).mono hs.stay (fun _ _ => rfl), fun r v c r' v' c' h h' hne => by obtain ⟨n, n2, h1, h2, h3⟩ := hs.get2 h h' hne; exact ha.excl n v c n2 v' c' h2 h3 h1, fun r v c h b hb => ?_, ha.keep⟩
  obtain ⟨n', _, h1⟩ := hs.get h
  have := ha.own n' v c h1 b hb
  rw [hk] at this
  by_cases h3 : b < w0.heap.size
  · exact .inr (Classical.byContradiction fun h4 => this ⟨h3, h4⟩)
  · exact .inl (by omega)

/-! ### calls -/
/-- an entry handed on as another one; ns: the resources that are lent -/
inductive ArgV (res : Res) (ns : List Nat) : Ent → Ent → Prop
  | eq {e : Ent} : ArgV res ns e e
  | bor {α : Type} {R : Rep α} {T : TypeId} {v : Value} {b : List α} (r : Nat) (h : lr res r = some (v, .list R T b)) (hn : ns.contains r = false) : ArgV res ns (.val v) (.rd (sliceR R) b)
  | nil {α : Type} {R : Rep α} : ArgV res ns (.val (.slice none 0 0)) (.rd (sliceR R) [])
def ArgsV (l : Slots) (res : Res) (ns : List Nat) : List Operand → List Ent → Prop
  | [], [] => True
  | o :: os, p :: ps => (∃ e, opE l o = some e ∧ ArgV res ns e p) ∧ ArgsV l res ns os ps
  | _, _ => False
theorem ArgsV.get {Γ : Ctx} {l : Slots} {res : Res} {a : Act} {w : World} (ha : Sta Γ l res a w) {H : Blk} {rin : Res} {ns : List Nat} (hk : Stay (Shr Γ.H res w) (Shr H rin w) w w)
    (hb : ∀ r v c, lr res r = some (v, c) → ns.contains r = false → (∃ α : Type, ∃ R : Rep α, ∃ T b, c = .list R T b) → ∀ b, rblk v = some b → Shr H rin w b) : ∀ {os : List Operand} {ps : List Ent}, ArgsV l res ns os ps → holdsL (Shr H rin w) w ps (os.map a.eval)
  | [], [], _ => trivial
  | o :: os, p :: ps, h => by
    obtain ⟨⟨e, h1, h2⟩, h3⟩ := h
    refine ⟨?_, ArgsV.get ha hk hb h3⟩
    have h4 := ha.vl h1
    cases h2 with
    | eq => exact p.mono hk h4
    | nil =>
      obtain ⟨h5, -⟩ := h4
      rw [h5]; exact ⟨[_], ⟨none, 0, [], rfl, Rd.nil _ _, rfl, by simp⟩, rfl⟩
    | bor r hr hn =>
      obtain ⟨h5, -⟩ := h4
      rw [h5]
      obtain ⟨xs, k3, k4⟩ := list_owns (ha.conts r _ _ hr)
      obtain ⟨p, c, rfl⟩ := slice_form k3
      exact ⟨_, ⟨p, c, xs, rfl, Rd.of_own k3, k4.mono hk, fun _ bb hbb => hb r _ _ hr hn ⟨_, _, _, _, rfl⟩ bb (by rw [rblk_own, sblk_own]; exact hbb)⟩, rfl⟩
  | [], _ :: _, h => h.elim
  | _ :: _, [], h => h.elim
end Go.Proofs.Ytklfgpdfongaeaa
