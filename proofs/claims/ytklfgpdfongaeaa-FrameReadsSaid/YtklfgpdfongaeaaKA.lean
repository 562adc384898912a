/- The laws without an operation, for each kind of goal; small things for the printed walks. Over any program. -/
import Derived.Test.YtklfgpdfongaeaaK9
namespace Go.Proofs.Ytklfgpdfongaeaa
open Go Go.RowKit
set_option linter.unusedSimpArgs false
set_option linter.unusedVariables false
section
variable {C : World → World → Prop} {ρ σ α : Type} {P : Program} {Γ : Ctx} {l : Slots} {res : Res} {m m1 m2 : Option ρ} {os rest : List Oper} {N : ρ → Exit → Act → World → Prop} {Q : ρ → Exit → Act → World → Prop} {A B : Asn} {c : Code} {e : Exit}
  {d : Tmp} {ty : TypeId} {pos : String} {after : Array Edge} {g : Option (Nat × Bool)}
theorem Sta.kn {a : Act} {w : World} (ha : Sta Γ l res a w) {b b' : Bool} (t : Nat) (hb : lk l t = some (.rd boolR b)) (e : b = b') : Sta Γ ((t, .rd boolR b') :: l) res a w := ha.known hb e

theorem lSplit (t : Nat) {b : Bool} (hb : lk l t = some (.rd boolR b)) (ht : b = true → GL P os (Sta Γ ((t, .rd boolR true) :: l) res) rest N m1) (hf : b = false → GL P os (Sta Γ ((t, .rd boolR false) :: l) res) rest N m2) : GL P os (Sta Γ l res) rest N (if b then m1 else m2) := xIf t hb ht hf
theorem lKn {b b' : Bool} (t : Nat) (hb : lk l t = some (.rd boolR b)) (e : b = b') (h : GL P os (Sta Γ ((t, .rd boolR b') :: l) res) rest N m) : GL P os (Sta Γ l res) rest N m := fun a w ha => h a w (ha.kn t hb e)
theorem lName {R : Rep α} {x : α} {k : α → Option ρ} (t : Nat) (hx : lk l t = some (.rd R x)) (h : ∀ y, GL P os (Sta Γ ((t, .rd R y) :: l) res) rest N (k y)) : GL P os (Sta Γ l res) rest N (some x >>= k) := xName t hx h
theorem lBind {m : Option σ} {k : σ → Option ρ} (h : ∀ s, m = some s → GL P os A rest N (k s)) : GL P os A rest N (m >>= k) := xBind h
theorem lWk (hAB : ∀ a w, A a w → B a w) (h : GL P os B rest N m) : GL P os A rest N m := xWeak hAB h
theorem lEx {ι : Type} {A : ι → Asn} (h : ∀ i, GL P os (A i) rest N m) : GL P os (fun a w => ∃ i, A i a w) rest N m := xEx h
theorem lFrz {R : Rep α} {T : TypeId} {b : List α} {v : Value} (r : Nat) (ts : List Nat) (hr : lr res r = some (v, .list R T b)) (ht : FrL l v ts) (k : GL P os (Sta Γ (ts.map (fun t => (t, .rd (sliceR R) b)) ++ l) ((r, none) :: res)) rest N m) : GL P os (Sta Γ l res) rest N m := xFrz r ts hr ht k
theorem lNew (R : Rep α) (T : TypeId) (r : Nat) (k : GL P os (Sta Γ l ((r, some (.slice none 0 0, .list R T [])) :: res)) rest N m) : GL P os (Sta Γ l res) rest N m := xNil R T r k
theorem lRdNil (R : Rep α) (t : Nat) (ht : lk l t = some (.val (.slice none 0 0))) (k : GL P os (Sta Γ ((t, .rd (sliceR R) []) :: l) res) rest N m) : GL P os (Sta Γ l res) rest N m := xRdNil R t ht k
theorem qSplit (t : Nat) {b : Bool} (hb : lk l t = some (.rd boolR b)) (ht : b = true → GQ P os (Sta Γ ((t, .rd boolR true) :: l) res) rest N m1) (hf : b = false → GQ P os (Sta Γ ((t, .rd boolR false) :: l) res) rest N m2) : GQ P os (Sta Γ l res) rest N (if b then m1 else m2) := xIf t hb ht hf
theorem qKn {b b' : Bool} (t : Nat) (hb : lk l t = some (.rd boolR b)) (e : b = b') (h : GQ P os (Sta Γ ((t, .rd boolR b') :: l) res) rest N m) : GQ P os (Sta Γ l res) rest N m := fun a w ha => h a w (ha.kn t hb e)
theorem qName {R : Rep α} {x : α} {k : α → Option ρ} (t : Nat) (hx : lk l t = some (.rd R x)) (h : ∀ y, GQ P os (Sta Γ ((t, .rd R y) :: l) res) rest N (k y)) : GQ P os (Sta Γ l res) rest N (some x >>= k) := xName t hx h
theorem qBind {m : Option σ} {k : σ → Option ρ} (h : ∀ s, m = some s → GQ P os A rest N (k s)) : GQ P os A rest N (m >>= k) := xBind h
theorem qWk (hAB : ∀ a w, A a w → B a w) (h : GQ P os B rest N m) : GQ P os A rest N m := xWeak hAB h
theorem qEx {ι : Type} {A : ι → Asn} (h : ∀ i, GQ P os (A i) rest N m) : GQ P os (fun a w => ∃ i, A i a w) rest N m := xEx h
theorem qFrz {R : Rep α} {T : TypeId} {b : List α} {v : Value} (r : Nat) (ts : List Nat) (hr : lr res r = some (v, .list R T b)) (ht : FrL l v ts) (k : GQ P os (Sta Γ (ts.map (fun t => (t, .rd (sliceR R) b)) ++ l) ((r, none) :: res)) rest N m) : GQ P os (Sta Γ l res) rest N m := xFrz r ts hr ht k
theorem qNew (R : Rep α) (T : TypeId) (r : Nat) (k : GQ P os (Sta Γ l ((r, some (.slice none 0 0, .list R T [])) :: res)) rest N m) : GQ P os (Sta Γ l res) rest N m := xNil R T r k
theorem qRdNil (R : Rep α) (t : Nat) (ht : lk l t = some (.val (.slice none 0 0))) (k : GQ P os (Sta Γ ((t, .rd (sliceR R) []) :: l) res) rest N m) : GQ P os (Sta Γ l res) rest N m := xRdNil R t ht k
theorem gSplit (t : Nat) {b : Bool} (hb : lk l t = some (.rd boolR b)) (ht : b = true → G P (Sta Γ ((t, .rd boolR true) :: l) res) c Q m1) (hf : b = false → G P (Sta Γ ((t, .rd boolR false) :: l) res) c Q m2) : G P (Sta Γ l res) c Q (if b then m1 else m2) := xIf t hb ht hf
theorem gKn {b b' : Bool} (t : Nat) (hb : lk l t = some (.rd boolR b)) (e : b = b') (h : G P (Sta Γ ((t, .rd boolR b') :: l) res) c Q m) : G P (Sta Γ l res) c Q m := fun a w ha => h a w (ha.kn t hb e)
theorem gName {R : Rep α} {x : α} {k : α → Option ρ} (t : Nat) (hx : lk l t = some (.rd R x)) (h : ∀ y, G P (Sta Γ ((t, .rd R y) :: l) res) c Q (k y)) : G P (Sta Γ l res) c Q (some x >>= k) := xName t hx h
theorem gBind {m : Option σ} {k : σ → Option ρ} (h : ∀ s, m = some s → G P A c Q (k s)) : G P A c Q (m >>= k) := xBind h
theorem gWk (hAB : ∀ a w, A a w → B a w) (h : G P B c Q m) : G P A c Q m := xWeak hAB h
theorem gEx {ι : Type} {A : ι → Asn} (h : ∀ i, G P (A i) c Q m) : G P (fun a w => ∃ i, A i a w) c Q m := xEx h
theorem gFrz {R : Rep α} {T : TypeId} {b : List α} {v : Value} (r : Nat) (ts : List Nat) (hr : lr res r = some (v, .list R T b)) (ht : FrL l v ts) (k : G P (Sta Γ (ts.map (fun t => (t, .rd (sliceR R) b)) ++ l) ((r, none) :: res)) c Q m) : G P (Sta Γ l res) c Q m := xFrz r ts hr ht k
theorem gNew (R : Rep α) (T : TypeId) (r : Nat) (k : G P (Sta Γ l ((r, some (.slice none 0 0, .list R T [])) :: res)) c Q m) : G P (Sta Γ l res) c Q m := xNil R T r k
theorem gRdNil (R : Rep α) (t : Nat) (ht : lk l t = some (.val (.slice none 0 0))) (k : G P (Sta Γ ((t, .rd (sliceR R) []) :: l) res) c Q m) : G P (Sta Γ l res) c Q m := xRdNil R t ht k
theorem eSplit (t : Nat) {b : Bool} (hb : lk l t = some (.rd boolR b)) (ht : b = true → GE (Sta Γ ((t, .rd boolR true) :: l) res) e Q m1) (hf : b = false → GE (Sta Γ ((t, .rd boolR false) :: l) res) e Q m2) : GE (Sta Γ l res) e Q (if b then m1 else m2) := xIf t hb ht hf
theorem eKn {ex : Exit} {b b' : Bool} (t : Nat) (hb : lk l t = some (.rd boolR b)) (e : b = b') (h : GE (Sta Γ ((t, .rd boolR b') :: l) res) ex Q m) : GE (Sta Γ l res) ex Q m := fun a w ha => h a w (ha.kn t hb e)
theorem eName {R : Rep α} {x : α} {k : α → Option ρ} (t : Nat) (hx : lk l t = some (.rd R x)) (h : ∀ y, GE (Sta Γ ((t, .rd R y) :: l) res) e Q (k y)) : GE (Sta Γ l res) e Q (some x >>= k) := xName t hx h
theorem eBind {m : Option σ} {k : σ → Option ρ} (h : ∀ s, m = some s → GE A e Q (k s)) : GE A e Q (m >>= k) := xBind h
theorem eWk (hAB : ∀ a w, A a w → B a w) (h : GE B e Q m) : GE A e Q m := xWeak hAB h
theorem eEx {ι : Type} {A : ι → Asn} (h : ∀ i, GE (A i) e Q m) : GE (fun a w => ∃ i, A i a w) e Q m := xEx h
theorem eFrz {R : Rep α} {T : TypeId} {b : List α} {v : Value} (r : Nat) (ts : List Nat) (hr : lr res r = some (v, .list R T b)) (ht : FrL l v ts) (k : GE (Sta Γ (ts.map (fun t => (t, .rd (sliceR R) b)) ++ l) ((r, none) :: res)) e Q m) : GE (Sta Γ l res) e Q m := xFrz r ts hr ht k
theorem eNew (R : Rep α) (T : TypeId) (r : Nat) (k : GE (Sta Γ l ((r, some (.slice none 0 0, .list R T [])) :: res)) e Q m) : GE (Sta Γ l res) e Q m := xNil R T r k
theorem eRdNil (R : Rep α) (t : Nat) (ht : lk l t = some (.val (.slice none 0 0))) (k : GE (Sta Γ ((t, .rd (sliceR R) []) :: l) res) e Q m) : GE (Sta Γ l res) e Q m := xRdNil R t ht k
/-- a new variable of the call's own: its pointer stands in the slot -/
theorem Eb {r : Nat} {op : Op} {T : TypeId} {es : List Ent} (hn : Nat.blt d Γ.n = true) (he : Eff P Γ l res ⟨some d, op, ty, pos, after, none⟩ r (fun v => (v, .box T es)))
    (k : ∀ u, GL P os (Sta Γ ((d, .val (ptrTo u 0)) :: l) ((r, some (u, .box T es)) :: res)) rest N m) : GL P os (Sta Γ l res) (⟨some d, op, ty, pos, after, none⟩ :: rest) N m := fun a w ha ρ hm => by
  obtain ⟨w', u, h1, ⟨h2, _⟩, h3, _⟩ := he a w ha
  have hb := base_ptr (h2.conts r _ _ (lr_cons.trans (if_pos rfl)))
  exact st (g_none rfl) h1 (k u _ _ (h2.put hn ⟨by rw [hb], by rw [hb]; exact h3⟩) ρ hm)
theorem Bld.done {β : Type} {place : Nat → Option (Nat × Nat)} {R : Rep β} {x x' : β} (h : x = x') : Bld l place R [] x x' := h
/-- parts written out in order -/
def RdP {α : Type} (l : Slots) (R : Rep α) : Nat → List (Nat × Operand) → List α → Prop
  | _, [], [] => True
  | j, (i, o) :: ps, x :: xs => (i = j ∧ opE l o = some (.rd R x)) ∧ RdP l R (j + 1) ps xs
  | _, _, _ => False
theorem RdP.get {R : Rep α} : ∀ {ps : List (Nat × Operand)} {j : Nat} {xs : List α}, RdP l R j ps xs → ∃ os : List Operand, ps = (os.zipIdx j).map (fun x => (x.2, x.1)) ∧ RdA l R os xs
  | [], _, [], _ => ⟨[], rfl, trivial⟩
  | (i, o) :: ps, j, x :: xs, h => by
    obtain ⟨os, h1, h2⟩ := RdP.get h.2
    obtain ⟨⟨rfl, h4⟩, _⟩ := h
    exact ⟨o :: os, by rw [h1]; simp, h4, h2⟩
  | [], _, _ :: _, h => h.elim
  | _ :: _, _, [], h => h.elim
theorem lit {R : Rep α} (b : List α) {n : Nat} {parts : List (Nat × Operand)} {z : Value} {T e : TypeId} {by_ : Nat} (r : Nat) (hx : RdP l R 0 parts b) (hl : b.length = n)
    (hT : P.underlying T = some (.slice e)) (hE : TI P e z R.sz by_) (h0 : Nat.blt 0 R.sz = true) (hm : Nat.ble (n * R.sz) 16777216 = true) :
    Eff P Γ l res ⟨some d, .buildSlice T n parts.toArray, ty, pos, after, g⟩ r (fun u => (u, .list R e b)) := by
  obtain ⟨os, rfl, h2⟩ := hx.get
  exact lits b os r rfl h2 hl hT hE h0 hm
theorem litA {R : Rep α} {n : Nat} (b : List α) (v : Vector α n) {T e : TypeId} {z : Value} {sz by_ by2 : Nat} {ze : Value} {parts : List (Nat × Operand)} (hx : RdP l R 0 parts b) (hv : v.toList = b) (hT : P.underlying T = some (.array n e)) (hI : TI P T z sz by_) (hzs : z.cells.size = n * R.sz) (hE : TI P e ze R.sz by2) :
    Run C P Γ l res ⟨some d, .build T parts.toArray, ty, pos, after, g⟩ (.rd (arrR n R) v) := by
  obtain ⟨os, rfl, h2⟩ := hx.get
  exact bldA b v os hT hI hzs hE rfl h2 hv
theorem ZeroIs.val {u : Value} (h : u.oneCell' = true) : ZeroIs u [.val u] := fun S w => ⟨[u], by simp [catC], ⟨rfl, h⟩, trivial⟩
theorem ZeroIs.zr {R : Rep α} {x : α} {z : Value} (h : Zr R z.cells.toList x) : ZeroIs z [.rd R x] := ZeroIs.rd h
theorem TyIs.sc {t : TypeId} {n : Nat} (h : Sc P t) : TyIs P t false n := h
theorem TyIs.ag {t : TypeId} {n : Nat} {z : Value} {by_ : Nat} (h : Ag P t) (k : TI P t z n by_) : TyIs P t true n := ⟨h, z, by_, k⟩
/-- bits of signed integers, as the machine has them -/
def andI (a b : Int) : Int := bitsOf .and .i64 a b
def orI (a b : Int) : Int := bitsOf .or .i64 a b
def xorI (a b : Int) : Int := bitsOf .xor .i64 a b
def shlI (a : Int) (n : Nat) : Int := w64 (a * 2 ^ (min n 64))
def shrI (a : Int) (n : Nat) : Int := a.fdiv (2 ^ (min n 64))
theorem I.and {x y : Operand} {T T' : TypeId} {a b : Int} (hx : opE l x = some (.rd i64R a)) (hy : opE l y = some (.rd i64R b)) : Run C P Γ l res ⟨some d, .binOp .and T x y T', ty, pos, after, g⟩ (.rd i64R (andI a b)) := bitsL (γ := Unit) hx hy rfl rfl
theorem I.or {x y : Operand} {T T' : TypeId} {a b : Int} (hx : opE l x = some (.rd i64R a)) (hy : opE l y = some (.rd i64R b)) : Run C P Γ l res ⟨some d, .binOp .or T x y T', ty, pos, after, g⟩ (.rd i64R (orI a b)) := bitsL (γ := Unit) hx hy rfl rfl
theorem I.xor {x y : Operand} {T T' : TypeId} {a b : Int} (hx : opE l x = some (.rd i64R a)) (hy : opE l y = some (.rd i64R b)) : Run C P Γ l res ⟨some d, .binOp .xor T x y T', ty, pos, after, g⟩ (.rd i64R (xorI a b)) := bitsL (γ := Unit) hx hy rfl rfl
theorem I.shl {β : Type} {k' : IntKind} {f2 : β → Int} {x y : Operand} {T T' : TypeId} {a : Int} {b : β} (hx : opE l x = some (.rd i64R a)) (hy : opE l y = some (.rd (numR k' f2) b)) (h0 : 0 ≤ f2 b) : Run C P Γ l res ⟨some d, .binOp .shl T x y T', ty, pos, after, g⟩ (.rd i64R (shlI a (f2 b).toNat)) := shlL hx hy h0 rfl
theorem I.shr {β : Type} {k' : IntKind} {f2 : β → Int} {x y : Operand} {T T' : TypeId} {a : Int} {b : β} (hx : opE l x = some (.rd i64R a)) (hy : opE l y = some (.rd (numR k' f2) b)) (h0 : 0 ≤ f2 b) : Run C P Γ l res ⟨some d, .binOp .shr T x y T', ty, pos, after, g⟩ (.rd i64R (shrI a (f2 b).toNat)) := shrL hx hy h0 rfl
/-- a slice held against nil: what is nil is empty -/
theorem lNilE {R : Rep α} {b : List α} {x y : Operand} {T T' e : TypeId} {E : Ent} (hn : Nat.blt d Γ.n = true) (hx : opE l x = some E) (hv : Vw R res E b) (hy : opE l y = some (.val (.slice none 0 0))) (hT : P.underlying T = some (.slice e))
    (ht : b = [] → GL P os (Sta Γ ((d, .rd boolR true) :: l) res) rest N m) (hf : GL P os (Sta Γ ((d, .rd boolR false) :: l) res) rest N m) : GL P os (Sta Γ l res) (⟨some d, .binOp .eql T x y T', ty, pos, after, none⟩ :: rest) N m := fun a w ha r hm => by
  obtain ⟨p, c, xs, h5, h2, h3⟩ := hv.get ha (ha.vl hx)
  have hrun := q0_eqlNil (P := P) (w := w) (d := d) (ty := ty) (pos := pos) (after := after) (g := none) (T' := T') hT h5 (ha.vl hy).1
  refine st (g_none rfl) hrun ?_
  by_cases hp : p = none
  · have hb : b = [] := by
      subst hp
      rcases h2.2 with ⟨_, h0⟩ | ⟨b', o, sp, cap, hv, _⟩
      · exact List.eq_nil_of_length_eq_zero h0
      · cases hv
    exact ht hb _ w (ha.put hn (by rw [decide_eq_true hp]; exact rd_bool')) r hm
  · exact hf _ w (ha.put hn (by rw [decide_eq_false hp]; exact rd_bool')) r hm
/-- what a variable of the call's own holds is read from now on -/
theorem Sta.frzB {a : Act} {w : World} (ha : Sta Γ l res a w) {R : Rep α} {T : TypeId} {x : α} {v : Value} (r t : Nat) (hr : lr res r = some (v, .box T [.rd R x])) (ht : lk l t = some (.val (ptrTo v 0))) : Sta Γ ((t, .rp R x) :: l) ((r, none) :: res) a w := by
  have hst : Stay (Shr Γ.H res w) (Shr Γ.H ((r, none) :: res) w) w w := fun bb hb => ⟨⟨hb.1, fun r' v' c' hr' => by
    rw [lr_cons] at hr'
    split at hr'
    · cases hr'
    · exact hb.2.1 r' v' c' hr', hb.2.2⟩, rfl⟩
  have hsub : ∀ r' v' c', lr ((r, none) :: res) r' = some (v', c') → r ≠ r' ∧ lr res r' = some (v', c') := fun r' v' c' hr' => by
    rw [lr_cons] at hr'
    split at hr'
    · cases hr'
    · exact ⟨‹_›, hr'⟩
  refine ⟨ha.size, ha.defers, fun t' e ht' => ?_, fun r' v' c' hr' => (ha.conts r' v' c' (hsub _ _ _ hr').2).mono hst (fun _ _ => rfl), fun r1 v1 c1 r2 v2 c2 h1 h2 hne => ha.excl r1 v1 c1 r2 v2 c2 (hsub _ _ _ h1).2 (hsub _ _ _ h2).2 hne, fun r' v' c' hr' => ha.own r' v' c' (hsub _ _ _ hr').2, ha.keep, ha.old, ha.hid⟩
  rw [lk_cons] at ht'
  split at ht'
  · rename_i hh; subst hh; cases ht'
    obtain ⟨u, h1, rfl, -⟩ := ha.slots t _ ht
    rcases ha.conts r v _ hr with h2 | ⟨b, o, h2, h3, b', vs, rfl, rfl, h4⟩
    · exact h2.elim
    · match vs, h4 with
      | [y], ⟨⟨cs, h5, h6⟩, _⟩ =>
        simp only [rblk, Option.some.injEq] at h2
        subst h2
        refine ⟨_, h1, b', 0, cs, rfl, ⟨(Array.getElem?_eq_some_iff.1 h3).1, fun r' v' c' hr' e => ?_, fun hH => ha.own r _ _ hr b' rfl (ha.hid b' hH)⟩, R.mono hst h5, fun j q hq => ?_⟩
        · obtain ⟨k1, k2⟩ := hsub _ _ _ hr'
          exact ha.excl r _ _ r' v' c' hr k2 k1 b' rfl e
        · have hB : Bx w b' (catC [y]).toArray T := h3
          have hcl : catC [y] = cs := by rw [h6]; simp [catC, Rep.val_cells h5]
          rw [hB.cell, hcl]; simpa using hq
  · obtain ⟨u, h1, h2⟩ := ha.slots t' e ht'
    exact ⟨u, h1, e.mono hst h2⟩
theorem lFrzB {R : Rep α} {T : TypeId} {x : α} {v : Value} (r t : Nat) (hr : lr res r = some (v, .box T [.rd R x])) (ht : lk l t = some (.val (ptrTo v 0))) (k : GL P os (Sta Γ ((t, .rp R x) :: l) ((r, none) :: res)) rest N m) : GL P os (Sta Γ l res) rest N m := fun a w ha => k a w (ha.frzB r t hr ht)
theorem gFrzB {R : Rep α} {T : TypeId} {x : α} {v : Value} (r t : Nat) (hr : lr res r = some (v, .box T [.rd R x])) (ht : lk l t = some (.val (ptrTo v 0))) (k : G P (Sta Γ ((t, .rp R x) :: l) ((r, none) :: res)) c Q m) : G P (Sta Γ l res) c Q m := fun a w ha => k a w (ha.frzB r t hr ht)
/-- an array as a slice -/
theorem cutP {R : Rep α} {n : Nat} {v : Vector α n} {x : Operand} {T A e : TypeId} {z : Value} {by_ : Nat} (hx : opE l x = some (.rp (arrR n R) v)) (hT : P.underlying T = some (.pointer A)) (hA : P.underlying A = some (.array n e)) (hE : TI P e z R.sz by_) (hn : Nat.blt 0 n = true) (hm : Nat.ble n 281474976710656 = true) (h0 : Nat.blt 0 R.sz = true) :
    Run C P Γ l res ⟨some d, .slice T x none none none, ty, pos, after, g⟩ (.rd (sliceR R) v.toList) := fun a w ha => by
  have hn : 0 < n := Eq.mp Nat.blt_eq hn
  have hm : n ≤ 281474976710656 := Nat.le_of_ble_eq_true hm
  obtain ⟨b, o, cs, h1, h2, h3, h4⟩ := ha.vl hx
  have hlen : v.toList.length = n := by simp
  refine ⟨.slice (some ⟨b, o, none⟩) v.toList.length n, fun w' _ => ?_, _, ⟨some ⟨b, o, none⟩, n, cs, rfl, ⟨by rw [hlen]; exact (relL.len (show relL R _ w cs v.toList from h3)).trans (by rw [hlen]), .inr ⟨b, o, none, n, rfl, by omega, by unfold maxLen; omega, .inr rfl, h4⟩⟩, h3, fun _ bb hbb => by cases hbb; exact h2⟩, rfl⟩
  rw [hlen]
  have hne : ¬ n = 0 := by omega
  simp [execOp, h1, Instr.sliceAt, Instr.slice, run_underlying hT, run_underlying hA, Instr.sliceBounds, asAddr, run_sizeOf hE, Sem.run_pure, Addr.add]
/-- a call of a function in an operation that is wanted -/
theorem callg {σ : Type} {f : FuncId} {F : Func} {b : Code} {args : List Operand} {ats : Array TypeId} {pin : List Ent} {rin : Res} {m1 : Option σ} {q : σ → (Nat → Value) → Post} {kk : σ → Option ρ} (ns : List Nat) (mp : List (Nat × Nat)) (hg : Grd os l ⟨some d, .call ⟨.value (.func f), args.toArray, ats⟩, ty, pos, after, g⟩ true) (hn : Nat.blt d Γ.n = true)
    (hF : P.funcs[f]? = some F) (hB : F.body = some b) (hnm : (F.name == "runtime.NumGoroutine") = false) (hS : Spec P f pin rin m1 q) (hA : ArgsQ l args pin) (hr : SubR res rin ns)
    (k : ∀ s nv, GL P os (Sta Γ ((d, retE (q s nv).ret) :: l) (aft ns mp (q s nv).res res)) rest N (kk s)) :
    GL P os (Sta Γ l res) (⟨some d, .call ⟨.value (.func f), args.toArray, ats⟩, ty, pos, after, g⟩ :: rest) N (m1 >>= kk) := fun a w ha r hm => by
  cases hm1 : m1 with
  | none => rw [hm1] at hm; cases hm
  | some s =>
    rw [hm1] at hm
    refine wpList_step fun K hK => ?_
    rw [if_pos (hg.wanted ha)]
    have hrun : (execOp a.eval ⟨some d, .call ⟨.value (.func f), args.toArray, ats⟩, ty, pos, after, g⟩).run P w = .ok (.enter f (args.map a.eval).toArray) w := by
      have e0 : a.eval (.func f) = .func (.func f) #[] #[] := rfl
      simp [execOp, resolve, e0, Deferred.ofValue, invoke, run_callF hF hB hnm]
    unfold Oper.wp; rw [hrun]
    simp only [Oper.upon]
    have hH : ∀ b, (fun b => Γ.H b ∨ ∃ r v c, lr res r = some (v, c) ∧ ns.contains r = false ∧ rblk v = some b) b ↔ Γ.H b ∨ ∃ r v c, lr res r = some (v, c) ∧ ns.contains r = false ∧ rblk v = some b := fun _ => Iff.rfl
    obtain ⟨h1, h2⟩ := ResOk.of ha hr hH
    refine (hS s hm1 _ _ w (ArgsQ.get ha h2 hA) h1).mono fun e w' hR => ?_
    obtain ⟨nv, vs, rfl, hp⟩ := hR
    obtain ⟨⟨h3, _⟩, h4, _⟩ := ha.called (mp := mp) hr hH hp
    exact hK _ _ (k s nv _ _ (h3.put hn h4) r hm)
/-- what a closure has captured: variables that are lent with it -/
def CapQ (res : Res) : List Value → List Ent → Prop
  | [], [] => True
  | u :: us, e :: es => (e = .val u ∧ ∃ r v T ds, u = ptrTo v 0 ∧ lr res r = some (v, .box T ds)) ∧ CapQ res us es
  | _, _ => False
theorem cN : CapQ res [] [] := trivial
theorem cQ {v : Value} {T : TypeId} {ds : List Ent} {us : List Value} {es : List Ent} (r : Nat) (h : lr res r = some (v, .box T ds)) (k : CapQ res us es) : CapQ res (ptrTo v 0 :: us) (.val (ptrTo v 0) :: es) := ⟨⟨rfl, r, v, T, ds, rfl, h⟩, k⟩
theorem CapQ.get {a : Act} {w : World} (ha : Sta Γ l res a w) {S : Blk} : ∀ {us : List Value} {es : List Ent}, CapQ res us es → holdsL S w es us
  | [], [], _ => trivial
  | u :: us, e :: es, h => by
    obtain ⟨⟨rfl, r, v, T, ds, rfl, h1⟩, h2⟩ := h
    refine ⟨⟨rfl, ?_⟩, CapQ.get ha h2⟩
    rw [base_ptr (ha.conts r v _ h1)]
    rcases ha.conts r v _ h1 with h3 | ⟨b, o, _, _, b', vs, rfl, _⟩
    · exact h3.elim
    · rfl
  | [], _ :: _, h => h.elim
  | _ :: _, [], h => h.elim
/-- a call of a closure -/
theorem callv {σ : Type} {x : Operand} {f : FuncId} {F : Func} {b : Code} {cap : List Value} {args : List Operand} {ats : Array TypeId} {pa pc : List Ent} {rin : Res} {m1 : Option σ} {q : σ → (Nat → Value) → Post} {kk : σ → Option ρ} (ns : List Nat) (mp : List (Nat × Nat)) (hg : Grd os l ⟨some d, .call ⟨.value x, args.toArray, ats⟩, ty, pos, after, g⟩ true) (hn : Nat.blt d Γ.n = true)
    (hx : opE l x = some (.val (.func (.func f) #[] cap.toArray))) (hF : P.funcs[f]? = some F) (hB : F.body = some b) (hnm : (F.name == "runtime.NumGoroutine") = false) (hS : Spec P f (pa ++ pc) rin m1 q) (hA : ArgsQ l args pa) (hC : CapQ res cap pc) (hr : SubR res rin ns)
    (k : ∀ s nv, GL P os (Sta Γ ((d, retE (q s nv).ret) :: l) (aft ns mp (q s nv).res res)) rest N (kk s)) :
    GL P os (Sta Γ l res) (⟨some d, .call ⟨.value x, args.toArray, ats⟩, ty, pos, after, g⟩ :: rest) N (m1 >>= kk) := fun a w ha r hm => by
  cases hm1 : m1 with
  | none => rw [hm1] at hm; cases hm
  | some s =>
    rw [hm1] at hm
    refine wpList_step fun K hK => ?_
    rw [if_pos (hg.wanted ha)]
    have hrun : (execOp a.eval ⟨some d, .call ⟨.value x, args.toArray, ats⟩, ty, pos, after, g⟩).run P w = .ok (.enter f (args.map a.eval ++ cap).toArray) w := by
      simp [execOp, resolve, (ha.vl hx).1, Deferred.ofValue, invoke, run_callF hF hB hnm, ← Array.append_assoc]
    unfold Oper.wp; rw [hrun]
    simp only [Oper.upon]
    have hH : ∀ b, (fun b => Γ.H b ∨ ∃ r v c, lr res r = some (v, c) ∧ ns.contains r = false ∧ rblk v = some b) b ↔ Γ.H b ∨ ∃ r v c, lr res r = some (v, c) ∧ ns.contains r = false ∧ rblk v = some b := fun _ => Iff.rfl
    obtain ⟨h1, h2⟩ := ResOk.of ha hr hH
    refine (hS s hm1 _ _ w ((ArgsQ.get ha h2 hA).mk (CapQ.get ha hC)) h1).mono fun e w' hR => ?_
    obtain ⟨nv, vs, rfl, hp⟩ := hR
    obtain ⟨⟨h3, _⟩, h4, _⟩ := ha.called (mp := mp) hr hH hp
    exact hK _ _ (k s nv _ _ (h3.put hn h4) r hm)
/-- a condition that Go asks for -/
def chk (p : Prop) [Decidable p] : Option Unit := if p then some () else none
theorem chk_some {p : Prop} [Decidable p] {u : Unit} (h : chk p = some u) : p := by
  unfold chk at h; split at h
  · assumption
  · cases h
theorem sN : SubS l [] := trivial
theorem sS {t : Nat} {e : Ent} {l' : Slots} (h : lk l t = some e) (k : SubS l l') : SubS l ((t, e) :: l') := ⟨h, k⟩
theorem rN : SubR res [] [] := trivial
theorem rR {r n : Nat} {y : Value × Cont} {res' : Res} {ns : List Nat} (h : lr res n = some y) (hn : ns.contains n = false) (k : SubR res res' ns) : SubR res ((r, some y) :: res') (n :: ns) := ⟨⟨y, rfl, h⟩, hn, k⟩
theorem aN : ArgsQ l [] [] := trivial
theorem aQ {o : Operand} {os : List Operand} {p : Ent} {ps : List Ent} (h : opE l o = some p) (k : ArgsQ l os ps) : ArgsQ l (o :: os) (p :: ps) := ⟨⟨p, h, fun _ _ _ h => h⟩, k⟩
theorem pN {R : Rep α} {j : Nat} : RdP l R j [] [] := trivial
theorem pP {R : Rep α} {i j : Nat} {o : Operand} {x : α} {ps : List (Nat × Operand)} {xs : List α} (hi : i = j) (h : opE l o = some (.rd R x)) (k : RdP l R (j + 1) ps xs) : RdP l R j ((i, o) :: ps) (x :: xs) := ⟨⟨hi, h⟩, k⟩
theorem eN : ResE P l res [] [] := trivial
theorem eE {t : Tmp} {e : Ent} {rs : List ResultVar} {es : List Ent} (h : lk l t = some e) (k : ResE P l res rs es) : ResE P l res (.tmp t :: rs) (e :: es) := ⟨h, k⟩
theorem eC {t : Tmp} {T T' : TypeId} {v : Value} {R : Rep α} {x : α} {rs : List ResultVar} {es : List Ent} (r : Nat) (h : lk l t = some (.val (ptrTo v 0))) (hr : lr res r = some (v, .box T' [.rd R x])) (hT : TyIs P T R.agg R.sz) (k : ResE P l res rs es) : ResE P l res (.cell t T :: rs) (.rd R x :: es) :=
  ⟨⟨r, v, T', h, hr, .inl ⟨α, R, x, rfl, hT⟩⟩, k⟩
/-- flat entries -/
theorem flatL {es : List Ent} (h : ∀ e ∈ es, e.flat) : ∀ {S w S' w'} {vs : List Value}, holdsL S w es vs → holdsL S' w' es vs := by
  intro S w S' w' vs hv
  induction es generalizing vs with
  | nil => cases vs with | nil => trivial | cons => exact hv.elim
  | cons e es ih =>
    cases vs with
    | nil => exact hv.elim
    | cons v vs => exact ⟨h e (by simp) _ _ _ _ _ hv.1, ih (fun e he => h e (by simp [he])) hv.2⟩
theorem flat_tup {es : List Ent} (h : ∀ e ∈ es, e.flat) : (Ent.tup es).flat := fun _ _ _ _ _ ⟨vs, h1, h2⟩ => ⟨vs, flatL h h1, h2⟩
theorem fl0 : ∀ e ∈ ([] : List Ent), e.flat := by simp
theorem flC {e : Ent} {es : List Ent} (h : e.flat) (k : ∀ e ∈ es, e.flat) : ∀ x ∈ e :: es, x.flat := fun x hx => by
  rcases List.mem_cons.1 hx with rfl | hx
  · exact h
  · exact k x hx
theorem flat_val {u : Value} : (Ent.val u).flat := fun _ _ _ _ _ h => h
theorem flat_num {k : IntKind} {f : α → Int} {x : α} : (Ent.rd (numR k f) x).flat := fun _ _ _ _ _ h => h
theorem flat_bool {x : Bool} : (Ent.rd boolR x).flat := fun _ _ _ _ _ h => h
theorem flat_str {x : List UInt8} : (Ent.rd strR x).flat := fun _ _ _ _ _ h => h
end
end Go.Proofs.Ytklfgpdfongaeaa
