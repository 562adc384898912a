/- The laws without an operation, for each kind of goal; small things for the printed walks. Over any program. -/
import Derived.Test.YtklfgpdfongaeaaK9
namespace Go.Proofs.Ytklfgpdfongaeaa
open Go Go.RowKit
set_option linter.unusedSimpArgs false
set_option linter.unusedVariables false
section
variable {C : World → World → Prop} {ρ σ α : Type} {P : Program} {Γ : Ctx} {l : Slots} {res : Res} {m m1 m2 : Option ρ} {os rest : List Oper} {N : ρ → Exit → Act → World → Prop} {Q : ρ → Exit → Act → World → Prop} {A B : Asn} {c : Code} {e : Exit}
  {d : Tmp} {ty : TypeId} {pos : String} {after : Array Edge} {g : Option (Nat × Bool)}
theorem Sta.kn {a : Act} {w : World} (ha : Sta Γ l res a w) {b b' : Bool} (t : Nat) (hb : lk l t = some (.rd boolR b)) (e : b = b') : Sta Γ ((t, .rd boolR b') :: l) res a w := ha.known hb e

theorem lSplit (t : Nat) {b : Bool} (hb : lk l t = some (.rd boolR b)) (ht : b = true → GL P os (Sta Γ ((t, .rd boolR true) :: l) res) rest N m1) (hf : b = false → GL P os (Sta Γ ((t, .rd boolR false) :: l) res) rest N m2) : GL P os (Sta Γ l res) rest N (if b then m1 else m2) := xIf t hb ht hf
theorem lKn {b b' : Bool} (t : Nat) (hb : lk l t = some (.rd boolR b)) (e : b = b') (h : GL P os (Sta Γ ((t, .rd boolR b') :: l) res) rest N m) : GL P os (Sta Γ l res) rest N m := fun a w ha => h a w (ha.kn t hb e)
theorem lName {R : Rep α} {x : α} {k : α → Option ρ} (t : Nat) (hx : lk l t = some (.rd R x)) (h : ∀ y, GL P os (Sta Γ ((t, .rd R y) :: l) res) rest N (k y)) : GL P os (Sta Γ l res) rest N (some x >>= k) := xName t hx h
theorem lBind {m : Option σ} {k : σ → Option ρ} (h : ∀ s, m = some s → GL P os A rest N (k s)) : GL P os A rest N (m >>= k) := xBind h
theorem lWk (hAB : ∀ a w, A a w → B a w) (h : GL P os B rest N m) : GL P os A rest N m := xWeak hAB h
theorem lEx {ι : Type} {A : ι → Asn} (h : ∀ i, GL P os (A i) rest N m) : GL P os (fun a w => ∃ i, A i a w) rest N m := xEx h
theorem lFrz {R : Rep α} {T : TypeId} {b : List α} {v : Value} (r t : Nat) (hr : lr res r = some (v, .list R T b)) (ht : lk l t = some (.val v)) (k : GL P os (Sta Γ ((t, .rd (sliceR R) b) :: l) ((r, none) :: res)) rest N m) : GL P os (Sta Γ l res) rest N m := xFrz r t hr ht k
theorem lNew (R : Rep α) (T : TypeId) (r : Nat) (k : GL P os (Sta Γ l ((r, some (.slice none 0 0, .list R T [])) :: res)) rest N m) : GL P os (Sta Γ l res) rest N m := xNil R T r k
theorem lRdNil (R : Rep α) (t : Nat) (ht : lk l t = some (.val (.slice none 0 0))) (k : GL P os (Sta Γ ((t, .rd (sliceR R) []) :: l) res) rest N m) : GL P os (Sta Γ l res) rest N m := xRdNil R t ht k
theorem qSplit (t : Nat) {b : Bool} (hb : lk l t = some (.rd boolR b)) (ht : b = true → GQ P os (Sta Γ ((t, .rd boolR true) :: l) res) rest N m1) (hf : b = false → GQ P os (Sta Γ ((t, .rd boolR false) :: l) res) rest N m2) : GQ P os (Sta Γ l res) rest N (if b then m1 else m2) := xIf t hb ht hf
theorem qKn {b b' : Bool} (t : Nat) (hb : lk l t = some (.rd boolR b)) (e : b = b') (h : GQ P os (Sta Γ ((t, .rd boolR b') :: l) res) rest N m) : GQ P os (Sta Γ l res) rest N m := fun a w ha => h a w (ha.kn t hb e)
theorem qName {R : Rep α} {x : α} {k : α → Option ρ} (t : Nat) (hx : lk l t = some (.rd R x)) (h : ∀ y, GQ P os (Sta Γ ((t, .rd R y) :: l) res) rest N (k y)) : GQ P os (Sta Γ l res) rest N (some x >>= k) := xName t hx h
theorem qBind {m : Option σ} {k : σ → Option ρ} (h : ∀ s, m = some s → GQ P os A rest N (k s)) : GQ P os A rest N (m >>= k) := xBind h
theorem qWk (hAB : ∀ a w, A a w → B a w) (h : GQ P os B rest N m) : GQ P os A rest N m := xWeak hAB h
theorem qEx {ι : Type} {A : ι → Asn} (h : ∀ i, GQ P os (A i) rest N m) : GQ P os (fun a w => ∃ i, A i a w) rest N m := xEx h
theorem qFrz {R : Rep α} {T : TypeId} {b : List α} {v : Value} (r t : Nat) (hr : lr res r = some (v, .list R T b)) (ht : lk l t = some (.val v)) (k : GQ P os (Sta Γ ((t, .rd (sliceR R) b) :: l) ((r, none) :: res)) rest N m) : GQ P os (Sta Γ l res) rest N m := xFrz r t hr ht k
theorem qNew (R : Rep α) (T : TypeId) (r : Nat) (k : GQ P os (Sta Γ l ((r, some (.slice none 0 0, .list R T [])) :: res)) rest N m) : GQ P os (Sta Γ l res) rest N m := xNil R T r k
theorem qRdNil (R : Rep α) (t : Nat) (ht : lk l t = some (.val (.slice none 0 0))) (k : GQ P os (Sta Γ ((t, .rd (sliceR R) []) :: l) res) rest N m) : GQ P os (Sta Γ l res) rest N m := xRdNil R t ht k
theorem gSplit (t : Nat) {b : Bool} (hb : lk l t = some (.rd boolR b)) (ht : b = true → G P (Sta Γ ((t, .rd boolR true) :: l) res) c Q m1) (hf : b = false → G P (Sta Γ ((t, .rd boolR false) :: l) res) c Q m2) : G P (Sta Γ l res) c Q (if b then m1 else m2) := xIf t hb ht hf
theorem gKn {b b' : Bool} (t : Nat) (hb : lk l t = some (.rd boolR b)) (e : b = b') (h : G P (Sta Γ ((t, .rd boolR b') :: l) res) c Q m) : G P (Sta Γ l res) c Q m := fun a w ha => h a w (ha.kn t hb e)
theorem gName {R : Rep α} {x : α} {k : α → Option ρ} (t : Nat) (hx : lk l t = some (.rd R x)) (h : ∀ y, G P (Sta Γ ((t, .rd R y) :: l) res) c Q (k y)) : G P (Sta Γ l res) c Q (some x >>= k) := xName t hx h
theorem gBind {m : Option σ} {k : σ → Option ρ} (h : ∀ s, m = some s → G P A c Q (k s)) : G P A c Q (m >>= k) := xBind h
theorem gWk (hAB : ∀ a w, A a w → B a w) (h : G P B c Q m) : G P A c Q m := xWeak hAB h
theorem gEx {ι : Type} {A : ι → Asn} (h : ∀ i, G P (A i) c Q m) : G P (fun a w => ∃ i, A i a w) c Q m := xEx h
theorem gFrz {R : Rep α} {T : TypeId} {b : List α} {v : Value} (r t : Nat) (hr : lr res r = some (v, .list R T b)) (ht : lk l t = some (.val v)) (k : G P (Sta Γ ((t, .rd (sliceR R) b) :: l) ((r, none) :: res)) c Q m) : G P (Sta Γ l res) c Q m := xFrz r t hr ht k
theorem gNew (R : Rep α) (T : TypeId) (r : Nat) (k : G P (Sta Γ l ((r, some (.slice none 0 0, .list R T [])) :: res)) c Q m) : G P (Sta Γ l res) c Q m := xNil R T r k
theorem gRdNil (R : Rep α) (t : Nat) (ht : lk l t = some (.val (.slice none 0 0))) (k : G P (Sta Γ ((t, .rd (sliceR R) []) :: l) res) c Q m) : G P (Sta Γ l res) c Q m := xRdNil R t ht k
theorem eSplit (t : Nat) {b : Bool} (hb : lk l t = some (.rd boolR b)) (ht : b = true → GE (Sta Γ ((t, .rd boolR true) :: l) res) e Q m1) (hf : b = false → GE (Sta Γ ((t, .rd boolR false) :: l) res) e Q m2) : GE (Sta Γ l res) e Q (if b then m1 else m2) := xIf t hb ht hf
theorem eKn {ex : Exit} {b b' : Bool} (t : Nat) (hb : lk l t = some (.rd boolR b)) (e : b = b') (h : GE (Sta Γ ((t, .rd boolR b') :: l) res) ex Q m) : GE (Sta Γ l res) ex Q m := fun a w ha => h a w (ha.kn t hb e)
theorem eName {R : Rep α} {x : α} {k : α → Option ρ} (t : Nat) (hx : lk l t = some (.rd R x)) (h : ∀ y, GE (Sta Γ ((t, .rd R y) :: l) res) e Q (k y)) : GE (Sta Γ l res) e Q (some x >>= k) := xName t hx h
theorem eBind {m : Option σ} {k : σ → Option ρ} (h : ∀ s, m = some s → GE A e Q (k s)) : GE A e Q (m >>= k) := xBind h
theorem eWk (hAB : ∀ a w, A a w → B a w) (h : GE B e Q m) : GE A e Q m := xWeak hAB h
theorem eEx {ι : Type} {A : ι → Asn} (h : ∀ i, GE (A i) e Q m) : GE (fun a w => ∃ i, A i a w) e Q m := xEx h
theorem eFrz {R : Rep α} {T : TypeId} {b : List α} {v : Value} (r t : Nat) (hr : lr res r = some (v, .list R T b)) (ht : lk l t = some (.val v)) (k : GE (Sta Γ ((t, .rd (sliceR R) b) :: l) ((r, none) :: res)) e Q m) : GE (Sta Γ l res) e Q m := xFrz r t hr ht k
theorem eNew (R : Rep α) (T : TypeId) (r : Nat) (k : GE (Sta Γ l ((r, some (.slice none 0 0, .list R T [])) :: res)) e Q m) : GE (Sta Γ l res) e Q m := xNil R T r k
theorem eRdNil (R : Rep α) (t : Nat) (ht : lk l t = some (.val (.slice none 0 0))) (k : GE (Sta Γ ((t, .rd (sliceR R) []) :: l) res) e Q m) : GE (Sta Γ l res) e Q m := xRdNil R t ht k
/-- a new variable of the call's own: its pointer stands in the slot -/
theorem Eb {r : Nat} {op : Op} {T : TypeId} {es : List Ent} (hn : Nat.blt d Γ.n = true) (he : Eff P Γ l res ⟨some d, op, ty, pos, after, none⟩ r (fun v => (v, .box T es)))
    (k : ∀ u, GL P os (Sta Γ ((d, .val (ptrTo u 0)) :: l) ((r, some (u, .box T es)) :: res)) rest N m) : GL P os (Sta Γ l res) (⟨some d, op, ty, pos, after, none⟩ :: rest) N m := fun a w ha ρ hm => by
  obtain ⟨w', u, h1, ⟨h2, _⟩, h3, _⟩ := he a w ha
  have hb := base_ptr (h2.conts r _ _ (lr_cons.trans (if_pos rfl)))
  exact st (g_none rfl) h1 (k u _ _ (h2.put hn ⟨by rw [hb], by rw [hb]; exact h3⟩) ρ hm)
theorem Bld.done {β : Type} {place : Nat → Option (Nat × Nat)} {R : Rep β} {x x' : β} (h : x = x') : Bld l place R [] x x' := h
/-- parts written out in order -/
def RdP {α : Type} (l : Slots) (R : Rep α) : Nat → List (Nat × Operand) → List α → Prop
  | _, [], [] => True
  | j, (i, o) :: ps, x :: xs => (i = j ∧ opE l o = some (.rd R x)) ∧ RdP l R (j + 1) ps xs
  | _, _, _ => False
theorem RdP.get {R : Rep α} : ∀ {ps : List (Nat × Operand)} {j : Nat} {xs : List α}, RdP l R j ps xs → ∃ os : List Operand, ps = (os.zipIdx j).map (fun x => (x.2, x.1)) ∧ RdA l R os xs
  | [], _, [], _ => ⟨[], rfl, trivial⟩
  | (i, o) :: ps, j, x :: xs, h => by
    obtain ⟨os, h1, h2⟩ := RdP.get h.2
    obtain ⟨⟨rfl, h4⟩, _⟩ := h
    exact ⟨o :: os, by rw [h1]; simp, h4, h2⟩
  | [], _, _ :: _, h => h.elim
  | _ :: _, _, [], h => h.elim
theorem lit {R : Rep α} (b : List α) {n : Nat} {parts : List (Nat × Operand)} {z : Value} {T e : TypeId} {by_ : Nat} (r : Nat) (hx : RdP l R 0 parts b) (hl : b.length = n)
    (hT : P.underlying T = some (.slice e)) (hE : TI P e z R.sz by_) (h0 : Nat.blt 0 R.sz = true) (hm : Nat.ble (n * R.sz) 16777216 = true) :
    Eff P Γ l res ⟨some d, .buildSlice T n parts.toArray, ty, pos, after, g⟩ r (fun u => (u, .list R e b)) := by
  obtain ⟨os, rfl, h2⟩ := hx.get
  exact lits b os r rfl h2 hl hT hE h0 hm
theorem litA {R : Rep α} {n : Nat} (b : List α) (v : Vector α n) {T e : TypeId} {z : Value} {sz by_ by2 : Nat} {ze : Value} {parts : List (Nat × Operand)} (hx : RdP l R 0 parts b) (hv : v.toList = b) (hT : P.underlying T = some (.array n e)) (hI : TI P T z sz by_) (hzs : z.cells.size = n * R.sz) (hE : TI P e ze R.sz by2) :
    Run C P Γ l res ⟨some d, .build T parts.toArray, ty, pos, after, g⟩ (.rd (arrR n R) v) := by
  obtain ⟨os, rfl, h2⟩ := hx.get
  exact bldA b v os hT hI hzs hE rfl h2 hv
theorem ZeroIs.val {u : Value} (h : u.oneCell' = true) : ZeroIs u [.val u] := fun S w => ⟨[u], by simp [catC], ⟨rfl, h⟩, trivial⟩
theorem ZeroIs.zr {R : Rep α} {x : α} {z : Value} (h : Zr R z.cells.toList x) : ZeroIs z [.rd R x] := ZeroIs.rd h
theorem TyIs.sc {t : TypeId} {n : Nat} (h : Sc P t) : TyIs P t false n := h
theorem TyIs.ag {t : TypeId} {n : Nat} {z : Value} {by_ : Nat} (h : Ag P t) (k : TI P t z n by_) : TyIs P t true n := ⟨h, z, by_, k⟩
/-- a condition that Go asks for -/
def chk (p : Prop) [Decidable p] : Option Unit := if p then some () else none
theorem chk_some {p : Prop} [Decidable p] {u : Unit} (h : chk p = some u) : p := by
  unfold chk at h; split at h
  · assumption
  · cases h
theorem sN : SubS l [] := trivial
theorem sS {t : Nat} {e : Ent} {l' : Slots} (h : lk l t = some e) (k : SubS l l') : SubS l ((t, e) :: l') := ⟨h, k⟩
theorem rN : SubR res [] [] := trivial
theorem rR {r n : Nat} {y : Value × Cont} {res' : Res} {ns : List Nat} (h : lr res n = some y) (hn : ns.contains n = false) (k : SubR res res' ns) : SubR res ((r, some y) :: res') (n :: ns) := ⟨⟨y, rfl, h⟩, hn, k⟩
theorem aN : ArgsQ l [] [] := trivial
theorem aQ {o : Operand} {os : List Operand} {p : Ent} {ps : List Ent} (h : opE l o = some p) (k : ArgsQ l os ps) : ArgsQ l (o :: os) (p :: ps) := ⟨h, k⟩
theorem pN {R : Rep α} {j : Nat} : RdP l R j [] [] := trivial
theorem pP {R : Rep α} {i j : Nat} {o : Operand} {x : α} {ps : List (Nat × Operand)} {xs : List α} (hi : i = j) (h : opE l o = some (.rd R x)) (k : RdP l R (j + 1) ps xs) : RdP l R j ((i, o) :: ps) (x :: xs) := ⟨⟨hi, h⟩, k⟩
theorem eN : ResE P l res [] [] := trivial
theorem eE {t : Tmp} {e : Ent} {rs : List ResultVar} {es : List Ent} (h : lk l t = some e) (k : ResE P l res rs es) : ResE P l res (.tmp t :: rs) (e :: es) := ⟨h, k⟩
theorem eC {t : Tmp} {T T' : TypeId} {v : Value} {R : Rep α} {x : α} {rs : List ResultVar} {es : List Ent} (r : Nat) (h : lk l t = some (.val (ptrTo v 0))) (hr : lr res r = some (v, .box T' [.rd R x])) (hT : TyIs P T R.agg R.sz) (k : ResE P l res rs es) : ResE P l res (.cell t T :: rs) (.rd R x :: es) :=
  ⟨⟨r, v, T', h, hr, .inl ⟨α, R, x, rfl, hT⟩⟩, k⟩
/-- flat entries -/
theorem flatL {es : List Ent} (h : ∀ e ∈ es, e.flat) : ∀ {S w S' w'} {vs : List Value}, holdsL S w es vs → holdsL S' w' es vs := by
  intro S w S' w' vs hv
  induction es generalizing vs with
  | nil => cases vs with | nil => trivial | cons => exact hv.elim
  | cons e es ih =>
    cases vs with
    | nil => exact hv.elim
    | cons v vs => exact ⟨h e (by simp) _ _ _ _ _ hv.1, ih (fun e he => h e (by simp [he])) hv.2⟩
theorem flat_tup {es : List Ent} (h : ∀ e ∈ es, e.flat) : (Ent.tup es).flat := fun _ _ _ _ _ ⟨vs, h1, h2⟩ => ⟨vs, flatL h h1, h2⟩
theorem fl0 : ∀ e ∈ ([] : List Ent), e.flat := by simp
theorem flC {e : Ent} {es : List Ent} (h : e.flat) (k : ∀ e ∈ es, e.flat) : ∀ x ∈ e :: es, x.flat := fun x hx => by
  rcases List.mem_cons.1 hx with rfl | hx
  · exact h
  · exact k x hx
theorem flat_val {u : Value} : (Ent.val u).flat := fun _ _ _ _ _ h => h
theorem flat_num {k : IntKind} {f : α → Int} {x : α} : (Ent.rd (numR k f) x).flat := fun _ _ _ _ _ h => h
theorem flat_bool {x : Bool} : (Ent.rd boolR x).flat := fun _ _ _ _ _ h => h
theorem flat_str {x : List UInt8} : (Ent.rd strR x).flat := fun _ _ _ _ _ h => h
end
end Go.Proofs.Ytklfgpdfongaeaa
