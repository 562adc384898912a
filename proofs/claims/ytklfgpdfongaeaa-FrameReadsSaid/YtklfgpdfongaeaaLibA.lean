/- The frame of a walk as a list of live slots; one law for each kind of operation. Over any program P. No statement of the seat is proved here. -/
import Derived.WalkKit
namespace Go.Proofs.Ytklfgpdfongaeaa
open Go Go.RowKit
set_option linter.unusedSimpArgs false
set_option linter.unusedVariables false

def look : List (Nat × Value) → Nat → Option Value
  | [], _ => none
  | (k, v) :: l, t => bif Nat.beq k t then some v else look l t

def opv (l : List (Nat × Value)) : Operand → Option Value
  | .tmp t => look l t
  | .const v => some v
  | .global g => some (.pointer (some ⟨g, 0, none⟩))
  | .func f => some (.func (.func f) #[] #[])

structure Frm (n : Nat) (l : List (Nat × Value)) (a : Act) : Prop where
  size : a.tmps.size = n
  defers : a.defers = []
  slots : ∀ t v, look l t = some v → a.tmps[t]? = some v

theorem Frm.ev {n l a x v} (f : Frm n l a) (h : opv l x = some v) : a.eval x = v := by
  cases x with
  | tmp t =>
    have := f.slots t v h
    simp [Act.eval, Array.getD_eq_getD_getElem?, this]
  | const c => simpa [opv, Act.eval] using h
  | global g => simpa [opv, Act.eval] using h
  | func g => simpa [opv, Act.eval] using h

theorem Frm.put {n l a d} (f : Frm n l a) (v : Value) (hd : Nat.blt d n = true) : Frm n ((d, v) :: l) (a.put (some d) v) := by
  have hd : d < n := Eq.mp Nat.blt_eq hd
  refine ⟨by simp [Act.put, f.size], by simp [Act.put, f.defers], fun t u h => ?_⟩
  simp only [look] at h
  cases hb : Nat.beq d t with
  | true =>
    rw [hb] at h
    have : d = t := Nat.eq_of_beq_eq_true hb
    subst this
    simp only [cond_true, Option.some.injEq] at h
    subst h
    simp [Act.put, f.size, hd]
  | false =>
    rw [hb] at h
    have hne : d ≠ t := Nat.ne_of_beq_eq_false hb
    simp only [cond_false] at h
    have := f.slots t u h
    simp [Act.put, Array.getElem?_setIfInBounds_ne hne, this]

theorem Frm.nil {n l a} (f : Frm n l a) : Frm n [] a := ⟨f.size, f.defers, fun _ _ h => by simp [look] at h⟩

/-- Keep a slot. -/
theorem Frm.pick {n l l' a t v} (f : Frm n l a) (f' : Frm n l' a) (h : look l t = some v) : Frm n ((t, v) :: l') a := by
  refine ⟨f.size, f.defers, fun t' u hu => ?_⟩
  simp only [look] at hu
  cases hb : Nat.beq t t' with
  | true =>
    rw [hb] at hu
    have : t = t' := Nat.eq_of_beq_eq_true hb
    subst this
    simp only [cond_true, Option.some.injEq] at hu
    subst hu
    exact f.slots _ _ h
  | false =>
    rw [hb] at hu
    exact f'.slots _ _ hu

theorem look_eq {l t u v} (h : look l t = some u) (e : u = v) : look l t = some v := e ▸ h

def argSlots : Nat → List Value → List (Nat × Value)
  | _, [] => []
  | i, v :: vs => (i, v) :: argSlots (i + 1) vs

theorem look_argSlots : ∀ (vs : List Value) (i t : Nat) (v : Value), look (argSlots i vs) t = some v → i ≤ t ∧ vs[t - i]? = some v
  | [], _, _, _, h => by simp [argSlots, look] at h
  | u :: us, i, t, v, h => by
    simp only [argSlots, look] at h
    cases hb : Nat.beq i t with
    | true =>
      rw [hb] at h
      have : i = t := Nat.eq_of_beq_eq_true hb
      subst this
      simp only [cond_true, Option.some.injEq] at h
      subst h
      simp
    | false =>
      rw [hb] at h
      have hne : i ≠ t := Nat.ne_of_beq_eq_false hb
      obtain ⟨h1, h2⟩ := look_argSlots us (i + 1) t v h
      refine ⟨by omega, ?_⟩
      rw [show t - i = (t - (i + 1)) + 1 by omega]
      simpa using h2

/-- The call is entered. -/
theorem enter {P : Program} {f : FuncId} {fn : Func} {c : Code} {args : Array Value} {w : World} {R : Ending → World → Prop} {n : Nat} {l : List (Nat × Value)}
    (hf : P.funcs[f]? = some fn) (hb : fn.body = some c) (hn : fn.ntmps = n) (hl : argSlots 0 args.toList = l) (hargs : Nat.ble args.size n = true)
    (h : ∀ a, Frm n l a → c.wp P (bodyPost P fn R) a w) : Calls P f args w R := by
  have hargs : args.size ≤ n := Eq.mp Nat.ble_eq hargs
  refine calls_of_wp hf hb (h _ ⟨by simp [hn]; omega, rfl, fun t v ht => ?_⟩)
  subst hl
  obtain ⟨-, h2⟩ := look_argSlots _ _ _ _ ht
  simp only [Nat.sub_zero] at h2
  have hlt : t < args.size := by
    have := (List.getElem?_eq_some_iff.1 h2).1
    simpa using this
  rw [Array.getElem?_append_left hlt]
  simpa using h2

section
variable {P : Program} {ops : Array Oper} {Q : Exit → Act → World → Prop} {a : Act} {w w' : World} {rest : List Oper} {n : Nat} {l : List (Nat × Value)} {y : Code}
  {Q' : Exit → Act → World → Prop} {next : Act → World → Prop}

/-! ### the shape of the code -/
theorem reg_seq {id : Nat} {os : List Oper} (h : wpList P os.toArray (Exit.then (y.wp P Q) Q) os a w) : (Code.seq (.region id os.toArray false) y).wp P Q a w :=
  wp_seq (wp_region_lit h)
theorem nil_then (h : next a w) : wpList P ops (Exit.then next Q) [] a w := h
theorem nil_block {id : Nat} (h : Q .normal a w) : wpList P ops (Exit.inBlock id Q) [] a w := h
theorem then_n (h : next a w) : Exit.then next Q .normal a w := h
theorem then_r (h : Q .ret a w) : Exit.then next Q .ret a w := h
theorem then_e {id : Nat} (h : Q (.exit id) a w) : Exit.then next Q (.exit id) a w := h
theorem blk_n {id : Nat} (h : Q .normal a w) : Exit.inBlock id Q .normal a w := h
theorem blk_r {id : Nat} (h : Q .ret a w) : Exit.inBlock id Q .ret a w := h
theorem blk_e {id : Nat} (h : Q .normal a w) : Exit.inBlock id Q (.exit id) a w := by simp [Exit.inBlock, h]
theorem blk_ne {id id' : Nat} (hne : Nat.beq id' id = false) (h : Q (.exit id') a w) : Exit.inBlock id Q (.exit id') a w := by
  simp [Exit.inBlock, Nat.ne_of_beq_eq_false hne, h]

/-- A test whose slot holds a known Bool, or an open one. -/
theorem c_true {c : Operand} {x y : Code} (f : Frm n l a) (hc : opv l c = some (.bool true)) (h : x.wp P Q a w) : (Code.cond c x y).wp P Q a w :=
  wp_cond_true (f.ev hc) h
theorem c_false {c : Operand} {x y : Code} (f : Frm n l a) (hc : opv l c = some (.bool false)) (h : y.wp P Q a w) : (Code.cond c x y).wp P Q a w :=
  wp_cond_false (f.ev hc) h
theorem c_bool {c : Operand} {x y : Code} {b : Bool} (f : Frm n l a) (hc : opv l c = some (.bool b)) (ht : b = true → x.wp P Q a w) (hf : b = false → y.wp P Q a w) :
    (Code.cond c x y).wp P Q a w := wp_cond_split (f.ev hc) ht hf
theorem c_dec {c : Operand} {x y : Code} {p : Prop} {inst : Decidable p} (f : Frm n l a) (hc : opv l c = some (.bool (decide p))) (ht : p → x.wp P Q a w) (hf : ¬ p → y.wp P Q a w) :
    (Code.cond c x y).wp P Q a w := wp_cond_split (f.ev hc) (fun h => ht (of_decide_eq_true h)) (fun h => hf (of_decide_eq_false h))

/-- A loop over a ghost state. -/
theorem loop_ghost {α : Type} {c : Code} (I : α → Act → World → Prop) (μ : α → Nat) (x₀ : α) (h₀ : I x₀ a w)
    (round : ∀ x a w, I x a w → c.wp P (Exit.then (fun a' w' => ∃ x', I x' a' w' ∧ μ x' < μ x) Q) a w) : (Code.loop c).wp P Q a w := by
  intro b k cs
  have key : ∀ m x a w, μ x = m → I x a w →
      ∃ e a' w', Q e a' w' ∧ Arrives P (lone (b.at a (.code c :: .inLoop c :: k)) cs w) b k cs e a' w' := by
    intro m
    induction m using Nat.strongRecOn with
    | _ m ih =>
      intro x a w hn hI
      obtain ⟨e, a₁, w₁, hq, harr⟩ := round x a w hI b (.inLoop c :: k) cs
      cases e with
      | normal =>
        obtain ⟨x₁, hI₁, hlt⟩ := hq
        obtain ⟨e₂, a₂, w₂, hq₂, harr₂⟩ := ih (μ x₁) (hn ▸ hlt) x₁ a₁ w₁ rfl hI₁
        exact ⟨e₂, a₂, w₂, hq₂, .of_steps (Steps.trans harr (.one step_inLoop)) harr₂⟩
      | exit id => exact ⟨_, a₁, w₁, hq, .pass (x := .inLoop c) rfl (fun _ _ => .inl (by simp)) harr⟩
      | goto l => exact ⟨_, a₁, w₁, hq, .pass (x := .inLoop c) rfl (fun _ _ => .inl (by simp)) harr⟩
      | ret => exact ⟨_, a₁, w₁, hq, .pass (x := .inLoop c) rfl (fun _ _ => .inl (by simp)) harr⟩
      | panic ch => exact ⟨_, a₁, w₁, hq, .pass (x := .inLoop c) rfl (fun _ _ => .inl (by simp)) harr⟩
      | outgrown => exact ⟨_, a₁, w₁, hq, .pass (x := .inLoop c) rfl (fun _ _ => .inl (by simp)) harr⟩
  obtain ⟨e, a', w', hq, harr⟩ := key _ x₀ a w rfl h₀
  exact ⟨e, a', w', hq, .of_steps (.one step_loop) harr⟩

/-- Ways that meet again: what holds where they meet. -/
theorem meet {x y : Code} (M : Act → World → Prop) (hx : x.wp P (Exit.then M Q) a w) (hy : ∀ a w, M a w → y.wp P Q a w) : (Code.seq x y).wp P Q a w :=
  wp_seq (Code.wp_mono (fun e a w h => by cases e <;> first | exact hy _ _ h | exact h) hx)

/-! ### the end of a call -/
theorem Frm.getD {t v} (f : Frm n l a) (h : look l t = some v) : a.tmps.getD t undef = v := by
  simp [Array.getD_eq_getD_getElem?, f.slots t v h]
theorem ret1 {fn : Func} {R : Ending → World → Prop} {t : Tmp} {v : Value} (f : Frm n l a) (hr : fn.results = #[.tmp t]) (h : look l t = some v) (hR : R (.returned v) w) :
    bodyPost P fn R .ret a w := bodyPost_ret (by rw [results_tmp hr, f.getD h]) f.defers hR
theorem ret2 {fn : Func} {R : Ending → World → Prop} {t t1 : Tmp} {v v1 : Value} (f : Frm n l a) (hr : fn.results = #[.tmp t, .tmp t1]) (h : look l t = some v) (h1 : look l t1 = some v1)
    (hR : R (.returned (.tuple #[v, v1])) w) : bodyPost P fn R .ret a w := bodyPost_ret (by rw [results_tmp2 hr, f.getD h, f.getD h1]) f.defers hR
theorem ret0 {fn : Func} {R : Ending → World → Prop} (f : Frm n l a) (hr : fn.results = #[]) (hR : R (.returned (.tuple #[])) w) :
    bodyPost P fn R .ret a w := bodyPost_ret (by rw [results_none hr]) f.defers hR
theorem ret0n {fn : Func} {R : Ending → World → Prop} (f : Frm n l a) (hr : fn.results = #[]) (hR : R (.returned (.tuple #[])) w) :
    bodyPost P fn R .normal a w := bodyPost_end (by rw [results_none hr]) f.defers hR

/-! ### guards -/
theorem g_none {o : Oper} (h : o.guard = none) : Region.wanted o (yielded ops a.tmps) = true := by simp [Region.wanted, h]
theorem yields_of {j t : Nat} {b : Bool} (f : Frm n l a) (hj : (ops[j]?).bind (·.dst) = some t) (hl : look l t = some (.bool b)) : yielded ops a.tmps j = some b := by
  simp [yielded, hj, f.slots _ _ hl]
theorem g_yes {o : Oper} {j t : Nat} {b : Bool} (f : Frm n l a) (hg : o.guard = some (j, b)) (hj : (ops[j]?).bind (·.dst) = some t) (hl : look l t = some (.bool b)) :
    Region.wanted o (yielded ops a.tmps) = true := by simp [Region.wanted, hg, yields_of f hj hl]
theorem g_no {o : Oper} {j t : Nat} {b : Bool} (f : Frm n l a) (hg : o.guard = some (j, b)) (hj : (ops[j]?).bind (·.dst) = some t) (hl : look l t = some (.bool (!b))) :
    Region.wanted o (yielded ops a.tmps) = false := by simp [Region.wanted, hg, yields_of f hj hl]

/-- The mother of all steps. -/
theorem st {o : Oper} {v : Value} (hw : Region.wanted o (yielded ops a.tmps) = true) (hrun : (execOp a.eval o).run P w = .ok (.value v) w')
    (k : wpList P ops Q rest (a.put o.dst v) w') : wpList P ops Q (o :: rest) a w :=
  wpList_step fun K hK => by
    rw [if_pos hw]; unfold Oper.wp; rw [hrun]; exact hK _ _ k
theorem st0 {o : Oper} (hw : Region.wanted o (yielded ops a.tmps) = true) (hrun : (execOp a.eval o).run P w = .ok .skip w')
    (hd : o.dst = none) (k : wpList P ops Q rest a w') : wpList P ops Q (o :: rest) a w :=
  wpList_step fun K hK => by
    rw [if_pos hw]; unfold Oper.wp; rw [hrun]
    have : K (a.put o.dst undef) w' := by rw [hd]; exact hK _ _ k
    exact this
/-- One step that yields a value. -/
theorem stv {d : Tmp} {op : Op} {ty : TypeId} {pos : String} {after : Array Edge} {g : Option (Nat × Bool)} {v : Value} (f : Frm n l a)
    (hw : Region.wanted ⟨some d, op, ty, pos, after, g⟩ (yielded ops a.tmps) = true) (hd : Nat.blt d n = true)
    (hrun : (execOp a.eval ⟨some d, op, ty, pos, after, g⟩).run P w = .ok (.value v) w')
    (k : ∀ a', Frm n ((d, v) :: l) a' → wpList P ops Q rest a' w') : wpList P ops Q (⟨some d, op, ty, pos, after, g⟩ :: rest) a w :=
  st hw hrun (k _ (f.put v hd))
theorem s_skip {d : Tmp} {op : Op} {ty : TypeId} {pos : String} {after : Array Edge} {g : Option (Nat × Bool)} (f : Frm n l a)
    (hw : Region.wanted ⟨some d, op, ty, pos, after, g⟩ (yielded ops a.tmps) = false) (hd : Nat.blt d n = true)
    (k : ∀ a', Frm n ((d, undef) :: l) a' → wpList P ops Q rest a' w) : wpList P ops Q (⟨some d, op, ty, pos, after, g⟩ :: rest) a w :=
  wpList_step fun K hK => by
    rw [if_neg (by simp [hw])]; exact hK _ _ (k _ (f.put undef hd))
theorem s_skip0 {o : Oper} (hw : Region.wanted o (yielded ops a.tmps) = false) (hd : o.dst = none)
    (k : wpList P ops Q rest a w) : wpList P ops Q (o :: rest) a w :=
  wpList_step fun K hK => by
    rw [if_neg (by simp [hw]), hd]; exact hK _ _ k
end
end Go.Proofs.Ytklfgpdfongaeaa
