/- Structs in parts: variables and values whose parts are entries of their own. Over any program. -/
import Derived.Test.YtklfgpdfongaeaaKF
namespace Go.Proofs.Ytklfgpdfongaeaa
open Go Go.RowKit
set_option linter.unusedSimpArgs false
set_option linter.unusedVariables false
/-- a datum is its parts -/
def Sp {α : Type} (R : Rep α) (x : α) (es : List Ent) : Prop := R.agg = true ∧ ∀ S w cs, R.rel S w cs x ↔ ∃ vs, holdsL S w es vs ∧ catC vs = cs
theorem Sp.unit : Sp unitR () [] := ⟨rfl, fun S w cs => ⟨fun h => ⟨[], trivial, (show cs = [] from h).symm⟩, fun ⟨vs, h1, h2⟩ => by
  match vs, h1 with
  | [], _ => exact h2.symm⟩⟩
theorem Sp.prod {α β : Type} {R : Rep α} {T : Rep β} {x : α} {y : β} {es : List Ent} (h : Sp T y es) : Sp (prodR R T) (x, y) (.rd R x :: es) := ⟨rfl, fun S w cs => ⟨fun ⟨c, d, h1, h2, h3⟩ => by
    obtain ⟨vs, k1, k2⟩ := (h.2 S w d).1 h3
    exact ⟨R.val c :: vs, ⟨⟨c, h2, rfl⟩, k1⟩, by rw [catC_cons, Rep.val_cells h2, k2, h1]⟩, fun ⟨vs, h1, h2⟩ => by
    match vs, h1 with
    | v :: vs, ⟨⟨c, k1, k2⟩, k3⟩ =>
      subst k2
      rw [catC_cons, Rep.val_cells k1] at h2
      exact ⟨c, _, h2.symm, k1, (h.2 S w _).2 ⟨vs, k3, rfl⟩⟩⟩⟩
theorem Sp.via {α β : Type} {g : β → α} {R : Rep α} {x : β} {es : List Ent} (h : Sp R (g x) es) : Sp (viaR g R) x es := ⟨h.1, h.2⟩
/-- parts that are known as something weaker -/
def Wk (res res' : Res) : List Ent → List Ent → Prop
  | [], [] => True
  | e :: es, e' :: es' => (∀ Γ l a w v, Sta Γ l res a w → e.holds (Shr Γ.H res w) w v → e'.holds (Shr Γ.H res' w) w v) ∧ Wk res res' es es'
  | _, _ => False
section
variable {ρ : Type} {P : Program} {Γ : Ctx} {l : Slots} {res : Res} {m : Option ρ} {a : Act} {w : World}
/-- what is behind a resource is known otherwise -/
theorem Sta.recont (ha : Sta Γ l res a w) (r : Nat) {v : Value} {c c' : Cont} (hr : lr res r = some (v, c)) (h : c.holds (Shr Γ.H res w) w v → c'.holds (Shr Γ.H res w) w v) : Sta Γ l ((r, some (v, c')) :: res) a w :=
  (ha.upd r (v := v) (c := c') (wr := none) Ext.rfl'.gb (by simp) (fun b hb => .inl ⟨v, c, hr, hb⟩) (fun S' k' => (h (ha.conts r v c hr)).mono k' (fun b hb => rfl))).1
theorem Sta.split {α : Type} {R : Rep α} {x : α} {es : List Ent} {T : TypeId} {v : Value} (ha : Sta Γ l res a w) (r : Nat) (hr : lr res r = some (v, .box T [.rd R x])) (hs : Sp R x es) : Sta Γ l ((r, some (v, .box T es)) :: res) a w :=
  ha.recont r hr (fun h => by
    rcases h with h | ⟨b, o, h1, h2, b', vs, rfl, rfl, h3⟩
    · exact h.elim
    · match vs, h3 with
      | [u], ⟨⟨cs, k1, k2⟩, _⟩ =>
        subst k2
        obtain ⟨vs', k3, k4⟩ := (hs.2 _ w cs).1 k1
        exact .inr ⟨b, _, h1, h2, b', vs', rfl, by rw [k4]; simp [catC, Rep.val_cells k1], k3⟩)
theorem Sta.join {α : Type} {R : Rep α} {x : α} {es : List Ent} {T : TypeId} {v : Value} (ha : Sta Γ l res a w) (r : Nat) (hr : lr res r = some (v, .box T es)) (hs : Sp R x es) : Sta Γ l ((r, some (v, .box T [.rd R x])) :: res) a w :=
  ha.recont r hr (fun h => by
    rcases h with h | ⟨b, o, h1, h2, b', vs, rfl, rfl, h3⟩
    · exact h.elim
    · have k1 := (hs.2 _ w (catC vs)).2 ⟨vs, h3, rfl⟩
      exact .inr ⟨b, _, h1, h2, b', [R.val (catC vs)], rfl, by rw [show catC [R.val (catC vs)] = catC vs by rw [catC_cons, Rep.val_cells k1]; simp [catC]], ⟨_, k1, rfl⟩, trivial⟩)
/-- a part that is no slice, read as a list -/
theorem val_nil_rd {α : Type} (R : Rep α) {S : Blk} {w : World} {v : Value} (h : (Ent.val (.slice none 0 0)).holds S w v) : (Ent.rd (sliceR R) []).holds S w v := by
  obtain ⟨rfl, -⟩ := h
  exact ⟨_, ⟨none, 0, [], rfl, Rd.nil _ _, rfl, by simp⟩, rfl⟩
theorem Swap.holds {es es' : List Ent} {S : Blk} {w : World} {e e0 : Ent} {pre post : List Ent} (h1 : es = pre ++ e0 :: post) (h2 : es' = pre ++ e :: post) (he : ∀ v, e0.holds S w v → e.holds S w v) : ∀ {vs : List Value}, holdsL S w es vs → holdsL S w es' vs := by
  subst h1; subst h2
  induction pre with
  | nil => intro vs h; match vs, h with | v :: vs, ⟨k1, k2⟩ => exact ⟨he v k1, k2⟩
  | cons p pre ih => intro vs h; match vs, h with | v :: vs, ⟨k1, k2⟩ => exact ⟨k1, ih k2⟩
/-- no slice in part i of a variable: read as a list -/
theorem Sta.partNil {α : Type} (R : Rep α) {es es' : List Ent} {T : TypeId} {v : Value} (ha : Sta Γ l res a w) (r : Nat) (pre post : List Ent) (hr : lr res r = some (v, .box T es)) (h1 : es = pre ++ .val (.slice none 0 0) :: post) (h2 : es' = pre ++ .rd (sliceR R) [] :: post) : Sta Γ l ((r, some (v, .box T es')) :: res) a w :=
  ha.recont r hr (fun h => by
    rcases h with h | ⟨b, o, k1, k2, b', vs, rfl, rfl, k3⟩
    · exact h.elim
    · exact .inr ⟨b, _, k1, k2, b', vs, rfl, rfl, Swap.holds h1 h2 (fun v hv => val_nil_rd R hv) k3⟩)
/-- no slice in part i of a variable: an empty list of the call's own -/
theorem Sta.partOwn {α : Type} {R : Rep α} {b : List α} {es es' : List Ent} {T E : TypeId} {v u : Value} (ha : Sta Γ l res a w) (r q : Nat) (pre post : List Ent) (hne : r ≠ q) (hr : lr res r = some (v, .box T es)) (hq : lr res q = some (u, .list R E b)) (h1 : es = pre ++ .val u :: post) (h2 : es' = pre ++ .rd (sliceR R) b :: post) : Sta Γ l ((r, some (v, .box T es')) :: (q, none) :: res) a w := by
  -- first the list is given up, then the part is known as what it was
  have hbox := ha.conts r v _ hr
  have hlist := ha.conts q u _ hq
  have hst : Stay (Shr Γ.H res w) (Shr Γ.H ((q, none) :: res) w) w w := fun bb hb => ⟨⟨hb.1, fun r' v' c' hr' => by
    rw [lr_cons] at hr'
    split at hr'
    · cases hr'
    · exact hb.2.1 r' v' c' hr', hb.2.2⟩, rfl⟩
  have ha' : Sta Γ l ((q, none) :: res) a w := by simpa using ha.frz (R := R) (T := E) (b := b) q [] hq trivial
  have hr' : lr ((q, none) :: res) r = some (v, .box T es) := (lr_cons.trans (if_neg (fun e => hne e.symm))).trans hr
  refine ha'.recont r hr' (fun _ => ?_)
  rcases hbox with h | ⟨b0, o, k1, k2, b', vs, rfl, rfl, k3⟩
  · exact h.elim
  · refine .inr ⟨b0, _, k1, k2, b', vs, rfl, rfl, Swap.holds h1 h2 (fun v' hv => ?_) (k3.mono hst)⟩
    obtain ⟨rfl, -⟩ := hv
    obtain ⟨xs, h3, h4⟩ := list_owns hlist
    obtain ⟨p, c, rfl⟩ := slice_form h3
    refine ⟨_, ⟨p, c, xs, rfl, Rd.of_own h3, h4.mono hst, fun hne' bb hbb => ?_⟩, rfl⟩
    have hbb : rblk (.slice p b.length c) = some bb := by rw [rblk_own, sblk_own]; exact hbb
    refine ⟨(ha.conts q _ _ hq).lt hbb, fun r' v' c' hr2 e => ?_, fun hH => ha.own q _ _ hq bb hbb (ha.hid bb hH)⟩
    rw [lr_cons] at hr2
    split at hr2
    · cases hr2
    · rename_i hqr
      exact ha.excl q _ _ r' v' c' hq hr2 hqr bb hbb e
variable {os rest : List Oper} {N Q : ρ → Exit → Act → World → Prop} {c : Code} {e : Exit}
theorem lSpl {α : Type} {R : Rep α} {x : α} {es : List Ent} {T : TypeId} {v : Value} (r : Nat) (hr : lr res r = some (v, .box T [.rd R x])) (hs : Sp R x es) (k : GL P os (Sta Γ l ((r, some (v, .box T es)) :: res)) rest N m) : GL P os (Sta Γ l res) rest N m := fun a w ha => k a w (ha.split r hr hs)
theorem lJoi {α : Type} {R : Rep α} (x : α) {es : List Ent} {T : TypeId} {v : Value} (r : Nat) (hr : lr res r = some (v, .box T es)) (hs : Sp R x es) (k : GL P os (Sta Γ l ((r, some (v, .box T [.rd R x])) :: res)) rest N m) : GL P os (Sta Γ l res) rest N m := fun a w ha => k a w (ha.join r hr hs)
theorem lPnl {α : Type} (R : Rep α) {es : List Ent} (es' : List Ent) {T : TypeId} {v : Value} (r : Nat) (pre post : List Ent) (hr : lr res r = some (v, .box T es)) (h1 : es = pre ++ .val (.slice none 0 0) :: post) (h2 : es' = pre ++ .rd (sliceR R) [] :: post) (k : GL P os (Sta Γ l ((r, some (v, .box T es')) :: res)) rest N m) : GL P os (Sta Γ l res) rest N m := fun a w ha => k a w (ha.partNil R r pre post hr h1 h2)
theorem lPow {α : Type} {R : Rep α} {b : List α} {es : List Ent} (es' : List Ent) {T E : TypeId} {v u : Value} (r q : Nat) (pre post : List Ent) (hne : (r == q) = false) (hr : lr res r = some (v, .box T es)) (hq : lr res q = some (u, .list R E b)) (h1 : es = pre ++ .val u :: post) (h2 : es' = pre ++ .rd (sliceR R) b :: post) (k : GL P os (Sta Γ l ((r, some (v, .box T es')) :: (q, none) :: res)) rest N m) : GL P os (Sta Γ l res) rest N m := fun a w ha => k a w (ha.partOwn r q pre post (by simpa using hne) hr hq h1 h2)
theorem qSpl {α : Type} {R : Rep α} {x : α} {es : List Ent} {T : TypeId} {v : Value} (r : Nat) (hr : lr res r = some (v, .box T [.rd R x])) (hs : Sp R x es) (k : GQ P os (Sta Γ l ((r, some (v, .box T es)) :: res)) rest N m) : GQ P os (Sta Γ l res) rest N m := fun a w ha => k a w (ha.split r hr hs)
theorem qJoi {α : Type} {R : Rep α} (x : α) {es : List Ent} {T : TypeId} {v : Value} (r : Nat) (hr : lr res r = some (v, .box T es)) (hs : Sp R x es) (k : GQ P os (Sta Γ l ((r, some (v, .box T [.rd R x])) :: res)) rest N m) : GQ P os (Sta Γ l res) rest N m := fun a w ha => k a w (ha.join r hr hs)
theorem qPnl {α : Type} (R : Rep α) {es : List Ent} (es' : List Ent) {T : TypeId} {v : Value} (r : Nat) (pre post : List Ent) (hr : lr res r = some (v, .box T es)) (h1 : es = pre ++ .val (.slice none 0 0) :: post) (h2 : es' = pre ++ .rd (sliceR R) [] :: post) (k : GQ P os (Sta Γ l ((r, some (v, .box T es')) :: res)) rest N m) : GQ P os (Sta Γ l res) rest N m := fun a w ha => k a w (ha.partNil R r pre post hr h1 h2)
theorem qPow {α : Type} {R : Rep α} {b : List α} {es : List Ent} (es' : List Ent) {T E : TypeId} {v u : Value} (r q : Nat) (pre post : List Ent) (hne : (r == q) = false) (hr : lr res r = some (v, .box T es)) (hq : lr res q = some (u, .list R E b)) (h1 : es = pre ++ .val u :: post) (h2 : es' = pre ++ .rd (sliceR R) b :: post) (k : GQ P os (Sta Γ l ((r, some (v, .box T es')) :: (q, none) :: res)) rest N m) : GQ P os (Sta Γ l res) rest N m := fun a w ha => k a w (ha.partOwn r q pre post (by simpa using hne) hr hq h1 h2)
theorem gSpl {α : Type} {R : Rep α} {x : α} {es : List Ent} {T : TypeId} {v : Value} (r : Nat) (hr : lr res r = some (v, .box T [.rd R x])) (hs : Sp R x es) (k : G P (Sta Γ l ((r, some (v, .box T es)) :: res)) c Q m) : G P (Sta Γ l res) c Q m := fun a w ha => k a w (ha.split r hr hs)
theorem gJoi {α : Type} {R : Rep α} (x : α) {es : List Ent} {T : TypeId} {v : Value} (r : Nat) (hr : lr res r = some (v, .box T es)) (hs : Sp R x es) (k : G P (Sta Γ l ((r, some (v, .box T [.rd R x])) :: res)) c Q m) : G P (Sta Γ l res) c Q m := fun a w ha => k a w (ha.join r hr hs)
theorem gPnl {α : Type} (R : Rep α) {es : List Ent} (es' : List Ent) {T : TypeId} {v : Value} (r : Nat) (pre post : List Ent) (hr : lr res r = some (v, .box T es)) (h1 : es = pre ++ .val (.slice none 0 0) :: post) (h2 : es' = pre ++ .rd (sliceR R) [] :: post) (k : G P (Sta Γ l ((r, some (v, .box T es')) :: res)) c Q m) : G P (Sta Γ l res) c Q m := fun a w ha => k a w (ha.partNil R r pre post hr h1 h2)
theorem gPow {α : Type} {R : Rep α} {b : List α} {es : List Ent} (es' : List Ent) {T E : TypeId} {v u : Value} (r q : Nat) (pre post : List Ent) (hne : (r == q) = false) (hr : lr res r = some (v, .box T es)) (hq : lr res q = some (u, .list R E b)) (h1 : es = pre ++ .val u :: post) (h2 : es' = pre ++ .rd (sliceR R) b :: post) (k : G P (Sta Γ l ((r, some (v, .box T es')) :: (q, none) :: res)) c Q m) : G P (Sta Γ l res) c Q m := fun a w ha => k a w (ha.partOwn r q pre post (by simpa using hne) hr hq h1 h2)
theorem eSpl {α : Type} {R : Rep α} {x : α} {es : List Ent} {T : TypeId} {v : Value} (r : Nat) (hr : lr res r = some (v, .box T [.rd R x])) (hs : Sp R x es) (k : GE (Sta Γ l ((r, some (v, .box T es)) :: res)) e Q m) : GE (Sta Γ l res) e Q m := fun a w ha => k a w (ha.split r hr hs)
theorem eJoi {α : Type} {R : Rep α} (x : α) {es : List Ent} {T : TypeId} {v : Value} (r : Nat) (hr : lr res r = some (v, .box T es)) (hs : Sp R x es) (k : GE (Sta Γ l ((r, some (v, .box T [.rd R x])) :: res)) e Q m) : GE (Sta Γ l res) e Q m := fun a w ha => k a w (ha.join r hr hs)
theorem ePnl {α : Type} (R : Rep α) {es : List Ent} (es' : List Ent) {T : TypeId} {v : Value} (r : Nat) (pre post : List Ent) (hr : lr res r = some (v, .box T es)) (h1 : es = pre ++ .val (.slice none 0 0) :: post) (h2 : es' = pre ++ .rd (sliceR R) [] :: post) (k : GE (Sta Γ l ((r, some (v, .box T es')) :: res)) e Q m) : GE (Sta Γ l res) e Q m := fun a w ha => k a w (ha.partNil R r pre post hr h1 h2)
theorem ePow {α : Type} {R : Rep α} {b : List α} {es : List Ent} (es' : List Ent) {T E : TypeId} {v u : Value} (r q : Nat) (pre post : List Ent) (hne : (r == q) = false) (hr : lr res r = some (v, .box T es)) (hq : lr res q = some (u, .list R E b)) (h1 : es = pre ++ .val u :: post) (h2 : es' = pre ++ .rd (sliceR R) b :: post) (k : GE (Sta Γ l ((r, some (v, .box T es')) :: (q, none) :: res)) e Q m) : GE (Sta Γ l res) e Q m := fun a w ha => k a w (ha.partOwn r q pre post (by simpa using hne) hr hq h1 h2)
end
/-! ### struct values in parts -/
def BldE (l : Slots) (place : Nat → Option (Nat × Nat)) : List (Nat × Operand) → List Ent → List Ent → Prop
  | [], es, es' => es = es'
  | (i, o) :: ps, es, es' => ∃ (e : Ent) (off n : Nat) (es1 : List Ent), opE l o = some e ∧ place i = some (off, n) ∧ e.fills n ∧ Swap es off n e es1 ∧ BldE l place ps es1 es'
theorem BldE.done {l : Slots} {place : Nat → Option (Nat × Nat)} {es es' : List Ent} (h : es = es') : BldE l place [] es es' := h
theorem BldE.cons {l : Slots} {place : Nat → Option (Nat × Nat)} {i : Nat} {o : Operand} {ps : List (Nat × Operand)} {e : Ent} {off n : Nat} {es es1 es' : List Ent} (h : opE l o = some e) (hp : place i = some (off, n)) (hf : e.fills n) (hs : Swap es off n e es1) (k : BldE l place ps es1 es') : BldE l place ((i, o) :: ps) es es' := ⟨e, off, n, es1, h, hp, hf, hs, k⟩
theorem Swap.put {es es' : List Ent} {k n : Nat} {e : Ent} {S : Blk} {w : World} (h : Swap es k n e es') {vs : List Value} {v : Value} (hv : e.holds S w v) (hn : v.cells.size = n) (hvs : holdsL S w es vs) : ∃ vs', holdsL S w es' vs' ∧ (catC vs').toArray = spl (catC vs).toArray k v.cells.toList ∧ k + n ≤ (catC vs).length := by
  obtain ⟨pre, post, e0, rfl, rfl, hn0, hk⟩ := h
  obtain ⟨us, ts, rfl, h5, h6⟩ := hvs.app
  match ts, h6 with
  | y0 :: ts, ⟨h7, h8⟩ =>
    have hl := hk _ _ _ h5
    have hy0 : y0.cells.toList.length = n := by have := hn0 _ _ _ h7; simpa using this
    refine ⟨us ++ v :: ts, h5.mk ⟨hv, h8⟩, ?_, by simp only [catC_app, catC_cons, List.length_append]; omega⟩
    subst hl
    unfold spl; congr 1
    have : v.cells.toList.length = n := by simpa using hn
    simp only [catC_app, catC_cons, this]
    rw [show ∀ A B Cc : List Value, A.length + n = (A ++ B).length → List.drop (A.length + n) (A ++ (B ++ Cc)) = Cc by
      intro A B Cc h; rw [h, ← List.append_assoc, List.drop_left']; rfl]
    · simp
    · simp [hy0]
theorem BldE.get {Γ : Ctx} {l : Slots} {res : Res} {a : Act} {w : World} (ha : Sta Γ l res a w) {place : Nat → Option (Nat × Nat)} : ∀ {ps : List (Nat × Operand)} {es es' : List Ent} {vs : List Value}, BldE l place ps es es' → holdsL (Shr Γ.H res w) w es vs →
    ∃ vs', Instr.fill place (catC vs).toArray (ps.map fun p => (p.1, a.eval p.2)) = some (catC vs').toArray ∧ holdsL (Shr Γ.H res w) w es' vs'
  | [], es, es', vs, h, hv => by have h : es = es' := h; subst h; exact ⟨vs, rfl, hv⟩
  | (i, o) :: ps, es, es', vs, h, hv => by
    obtain ⟨e, off, n, es1, h1, h2, h3, h4, h5⟩ := h
    have hy := ha.vl h1
    have hyn : (a.eval o).cells.size = n := h3 _ _ _ hy
    obtain ⟨vs1, k1, k2, k3⟩ := h4.put hy hyn hv
    obtain ⟨vs', q1, q2⟩ := BldE.get ha h5 k1
    refine ⟨vs', ?_, q2⟩
    simp only [List.map_cons]
    rw [fill_step h2 hyn (by simpa using k3), ← k2]; exact q1
def fillsL (es : List Ent) (n : Nat) : Prop := ∀ S w vs, holdsL S w es vs → (catC vs).length = n
theorem fillsL.nil : fillsL [] 0 := fun S w vs h => by match vs, h with | [], _ => rfl
theorem fillsL.cons {e : Ent} {es : List Ent} {n k : Nat} (h : e.fills n) (p : fillsL es k) : fillsL (e :: es) (n + k) := fun S w vs hh => by
  match vs, hh with
  | v :: vs, ⟨h1, h2⟩ => rw [catC_cons, List.length_append, p S w vs h2]; have := h S w v h1; simp [this]
def onesL (es : List Ent) : Prop := ∀ S w vs, holdsL S w es vs → ∀ u ∈ catC vs, u.oneCell' = true
theorem onesL.nil : onesL [] := fun S w vs h u hu => by match vs, h with | [], _ => simp [catC] at hu
theorem onesL.cons {e : Ent} {es : List Ent} (h : e.ones) (p : onesL es) : onesL (e :: es) := fun S w vs hh u hu => by
  match vs, hh with
  | v :: vs, ⟨h1, h2⟩ =>
    rw [catC_cons] at hu
    rcases List.mem_append.1 hu with k | k
    · exact h S w v h1 u k
    · exact p S w vs h2 u k
section
variable {C : World → World → Prop} {P : Program} {Γ : Ctx} {l : Slots} {res : Res} {d : Tmp} {ty : TypeId} {pos : String} {after : Array Edge} {g : Option (Nat × Bool)}
/-- A struct is written out, in parts. -/
theorem bldE {es0 es' : List Ent} {T : TypeId} {z : Value} {sz by_ : Nat} {parts : Array (Nat × Operand)} {fs : Array Field} (pl : List (Nat × Nat)) (hT : P.underlying T = some (.struct fs)) (hI : TI P T z sz by_) (hz : ZeroIs z es0)
    (hp : fs.toList.map (fun f => (f.offset, (P.info? f.type).map (·.size))) = pl.map (fun p => (p.1, some p.2))) (h : BldE l (fun i : Nat => pl[i]?) parts.toList es0 es') : Run C P Γ l res ⟨some d, .build T parts, ty, pos, after, g⟩ (.agg es') := fun a w ha => by
  obtain ⟨vs, hv1, hv2⟩ := hz (Shr Γ.H res w) w
  obtain ⟨vs', h1, h2⟩ := h.get ha hv2
  rw [hv1, Array.toArray_toList] at h1
  refine ⟨.agg (catC vs').toArray, fun w' _ => q0_build rfl ?_, vs', h2, rfl⟩
  have e1 : (fs.mapM (m := Sem) fun f => do pure (f.offset, ← sizeOf f.type)).run P w' = .ok pl.toArray w' := by
    rw [← Array.toArray_toList (xs := fs), List.mapM_toArray]
    simp only [map_eq_pure_bind, Sem.run_bind, run_places fs.toList pl hp, Result.andThen, Sem.run_pure]
  have e2 : (parts.map fun (i, x) => (i, a.eval x)).toList = parts.toList.map fun p => (p.1, a.eval p.2) := by simp
  unfold Instr.build
  simp only [Sem.run_bind, run_zero hI, Result.andThen, run_underlying hT, e1, e2]
  have e3 : (fun i : Nat => pl.toArray[i]?) = fun i : Nat => pl[i]? := by funext i; simp
  rw [e3, h1]; rfl
/-- A struct in parts is stored into a variable of its own. -/
theorem stoG {t T : TypeId} {x y : Operand} {v z : Value} {by_ n : Nat} {es es' : List Ent} (r : Nat) (hx : opE l x = some (.val (ptrTo v 0))) (hr : lr res r = some (v, .box T es)) (h0 : fillsL es n)
    (hy : opE l y = some (.agg es')) (h1e : onesL es') (hn : fillsL es' n) (hS : TI P t z n by_) : EffS P Γ l res ⟨none, .store t x y, ty, pos, after, g⟩ r (v, .box T es') := fun a w ha => by
  have h1 := (ha.vl hx).1
  obtain ⟨ys, hy1, hy2⟩ := ha.vl hy
  rcases ha.conts r v _ hr with h2 | ⟨b, o, h2, h3, b', vs, rfl, rfl, h4⟩
  · exact h2.elim
  · simp only [rblk, Option.some.injEq] at h2
    subst h2
    rw [ptrTo_ptr] at h1
    have hB : Bx w b' (catC vs).toArray T := h3
    have hyc : (a.eval y).cells = (catC ys).toArray := by rw [hy2]; rfl
    have hyn : (a.eval y).cells.size = n := by rw [hyc]; simp [hn _ _ _ hy1]
    have hl := h0 _ _ _ h4
    have hrun := run_storeB (P := P) (w := w) (b := b') (o := 0) (v := a.eval y) hS hyn (by rw [hyc]; simpa using h1e _ _ _ hy1) hB (by simp [hl])
    have hsp : spl (catC vs).toArray 0 (a.eval y).cells.toList = (catC ys).toArray := by
      rw [hyc]
      have := hn _ _ _ hy1
      unfold spl; simp [this, hl]
    rw [hsp] at hrun
    refine ⟨w.setRow b' (catC ys).toArray, ?_, ?_, some b', setRow_gr b' _, fun b hb => ⟨_, _, hr, by cases hb; rfl⟩⟩
    · simp [execOp, h1, Instr.storeAt, Instr.sureAddr, hrun]
    · exact ha.upd r (setRow_gr b' _) (fun b hb => ⟨_, _, hr, by cases hb; rfl⟩) (fun b hb => .inl ⟨_, _, hr, hb⟩) (fun S' k' => .inr ⟨b', _, rfl, setRow_heap w b' _ _ T _ hB, b', ys, rfl, rfl, hy1.mono k'⟩)
theorem ZeroIs.nil {z : Value} (h : z.cells.toList = []) : ZeroIs z [] := fun S w => ⟨[], by rw [h]; rfl, trivial⟩
/-- a zero value in parts -/
theorem ZeroIs.parts {z : Value} {es : List Ent} (h : ∀ S w, ∃ vs, catC vs = z.cells.toList ∧ holdsL S w es vs) : ZeroIs z es := h
def ZrE (cs : List Value) (es : List Ent) : Prop := ∀ S w, ∃ vs, catC vs = cs ∧ holdsL S w es vs
theorem ZrE.nil : ZrE [] [] := fun S w => ⟨[], rfl, trivial⟩
theorem ZrE.rd {α : Type} {R : Rep α} {x : α} {c d cs : List Value} {es : List Ent} (h : Zr R c x) (k : ZrE d es) (e : c ++ d = cs) : ZrE cs (.rd R x :: es) := fun S w => by
  obtain ⟨vs, h1, h2⟩ := k S w
  exact ⟨R.val c :: vs, by rw [catC_cons, Rep.val_cells (h S w), h1, e], ⟨c, h S w, rfl⟩, h2⟩
theorem ZrE.nilS {d : List Value} {es : List Ent} (k : ZrE d es) : ZrE (.slice none 0 0 :: d) (.val (.slice none 0 0) :: es) := fun S w => by
  obtain ⟨vs, h1, h2⟩ := k S w
  exact ⟨.slice none 0 0 :: vs, by rw [catC_cons, h1]; rfl, ⟨rfl, rfl⟩, h2⟩
theorem Foc.cast {α : Type} {c : Cont} {k k' : Nat} {R : Rep α} {x : α} {upd : α → Cont} (f : Foc c k' R x upd) (h : k' = k) : Foc c k R x upd := h ▸ f
theorem At.cast {es : List Ent} {k k' : Nat} {e : Ent} (f : At es k' e) (h : k' = k) : At es k e := h ▸ f
theorem Swap.cast {es es' : List Ent} {k k' n : Nat} {e : Ent} (f : Swap es k' n e es') (h : k' = k) : Swap es k n e es' := h ▸ f
theorem fillsL.cast {es : List Ent} {n n' : Nat} (f : fillsL es n') (h : n' = n) : fillsL es n := h ▸ f
end
end Go.Proofs.Ytklfgpdfongaeaa
